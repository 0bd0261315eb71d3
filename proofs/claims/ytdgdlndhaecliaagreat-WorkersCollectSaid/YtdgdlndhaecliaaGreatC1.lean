/- The abstract machine, part 11e: calls of functions that write into a structure of blocks below their first argument. No condition. -/
import Derived.WalkKit
import Derived.Still
import Derived.MapKept
import Derived.Maps.RangeRun
import Derived.Calls
import Derived.Conc.Own
import Derived.Laws.Sem
import Derived.Conc.Own5
import Derived.Orders
import Derived.Scope
import Derived.Laws.Append
import Derived.Laws.AppendOwn
import Derived.Laws.CopyRow
import Derived.Laws.StructEq
set_option linter.all false
open Array renaming all_eq_true_iff_forall_mem->Cq,append_empty->CJ,empty_append->Cl,eraseIdxIfInBounds->GB,getElem?_append_left->B3,getElem?_eq_getElem->Al,getElem?_eq_none->Dp,getElem?_eq_some_iff->AX,getElem?_map->BU,getElem?_modify->FB,getElem?_push->Bx,getElem?_setIfInBounds_ne->AF,getElem?_toList->Bj,length_toList->BK,mem_append->Dy,mem_iff_getElem->EO,mem_of_getElem?->BZ,range->Gq,replicate->AY,size_append->ER,toList_append->FX,toList_map->FF
open Bool renaming and_eq_true->A8,false_eq_true->Ae,not_eq_true'->C8
open Go.Array renaming range_zero'->Gp
open Go.Builtin renaming append_->B0,firstCells->Dz,lenOf->EM,len_->FY,nextslicecap->EU,zeroCells->C7
open Go.Call renaming operands->Bg
open Go.CallKind renaming early->Db
open Go.Deferred renaming ofValue->CF
open Go.Exit renaming inBlock->DQ
open Go.Frame renaming finish_at->D7
open Go.GStep renaming after->Cw
open Go.Instr renaming findNow->GA,indexAt->Ff,loadAt->E0,lookup->FZ,sliceBounds->DF,sureAddr->CE
open Go.IntKind renaming i64->Ah
open Go.MapKept renaming IsKey->Ej,Stamped->EI
open Go.Obj renaming cells->C9
open Go.Op renaming eqGuardIn->DR,equalIn->DJ,maxDepth->Ec,operands->AD
open Go.Operand renaming tmp->CN
open Go.Question renaming forced->Fi
open Go.Region renaming binds->Ee,ready->Bv,schedule->FQ,wanted->Bu
open Go.Region.linearise renaming go->Cy
open Go.Result renaming andThen_halt->FW,andThen_ok->AK
open Go.Sem renaming bind->Er,runT->EJ,runT_eq->Dh
open Go.Value renaming oneCell'->CC
open Go.World renaming cell?->BA,frozen?->Dn,setCell->Fe
open Go.stepG renaming exec->Cf
open List renaming all_eq_true->A3,append_assoc->CQ,eq_nil_of_length_eq_zero->B1,flatMap_cons->Gr,flatten_cons->CG,getElem?_append_left->AQ,getElem?_append_right->AJ,getElem?_cons_succ->BB,getElem?_cons_zero->BX,getElem?_drop->BG,getElem?_eq_getElem->Ab,getElem?_eq_some_iff->Ao,getElem?_map->Ag,getElem?_range->Bq,getElem?_take->Bt,getElem?_toArray->Cm,getElem?_zip_eq_some->D6,getElem_mem->Bz,length_append->Bc,length_cons->Ak,length_drop->CZ,length_map->Bl,length_nil->Aw,length_take->AZ,mapM_cons->Cp,map_cons->BO,map_nil->EZ,mem_cons->Bn,mem_cons_of_mem->AE,mem_cons_self->AI,mem_flatMap->BJ,mem_iff_getElem->BM,mem_map->AM,mem_of_getElem?->Aj,range->AN,range'_succ->DX,replicate->Av,size_toArray->Ar
open Nat renaming add_assoc->Ei,add_comm->EE,add_mul->B8,add_zero->B6,eq_zero_or_pos->A7,le_refl->Ay,le_trans->AR,lt_or_ge->A4,min_eq_left->De,mod_eq_of_lt->BY,mod_eq_sub_mod->F8,mod_lt->BF,mul_le_mul_right->B9,one_mul->DW,sub_self->CU,zero_add->AA,zero_le->A1,zero_mul->DS
open Ne renaming symm->Eo
open Option renaming bind_eq_bind->C2,bind_eq_some_iff->Ad,bind_some->Es,isSome_iff_exists->Ek,map_eq_some_iff->Af,map_some->AU,pure_def->DK
open Option.some renaming injEq->Ax
open Std.Legacy.Range renaming forIn_eq_forIn_range'->EV
open _root_ renaming beq_iff_eq->C3,if_false->Az,if_neg->Ai,if_pos->Aq,if_true->AH,of_decide_eq_true->DG
section
open List renaming map_map->E,mapM_map->J
namespace Go.Am
inductive D where
 |b (x:Bool)
 |i (k:IntKind) (n:Int)
 |sl (els:List (List D))
 |ag (cs:List D)
 |tp (vs:List D)
 |lit (v:Value)
 |pt (cs:List D)
 |fn (f:FuncId) (cs:List D)
 |mp (k:IntKind) (ks:List Int) (vs:List D)
 |iff (t:TypeId) (x:D)
 |fm (f:FuncId) (x:D)
 deriving Inhabited
inductive VD(F:Nat->Prop)(w:World):D->Value->Prop where
 |b (x:Bool):VD F w (.b x) (.bool x)
 |i (k:IntKind) (n:Int):VD F w (.i k n) (.int k n)
 |sl0 (ad:Option Addr) (c:Nat):VD F w (.sl []) (.slice ad 0 c)
 | sl (els:List (List D)) (ad:Addr) (n c sz:Nat) (f:Nat->Value) (hn:n=els.length) (hc:n<=c) (hsz:∀cs∈els,cs.length=sz) (hF:F ad.block)
   (hcell:∀j,j<n*sz->w.cell? (ad.add j)=some (f j)) (hel:∀(j k:Nat) cs c,els[j]? = some cs->cs[k]? = some c->VD F w c (f (j*sz+k))) :
   VD F w (.sl els) (.slice (some ad) n c)
 |ag (cs:List D) (vs:Array Value) (hl:cs.length=vs.size) (h:∀(k:Nat) c v,cs[k]? = some c->vs[k]? = some v->VD F w c v):VD F w (.ag cs) (.agg vs)
 |tp (cs:List D) (vs:Array Value) (hl:cs.length=vs.size) (h:∀(k:Nat) c v,cs[k]? = some c->vs[k]? = some v->VD F w c v):VD F w (.tp cs) (.tuple vs)
 |lit (v:Value):VD F w (.lit v) v
 |pt (cs:List D) (ad:Addr) (f:Nat->Value) (hF:F ad.block) (hcell:∀j,j<cs.length->w.cell? (ad.add j)=some (f j)) (hel:∀(k:Nat) c,cs[k]? = some c->VD F w c (f k)):VD F w (.pt cs) (.pointer (some ad))
 |fn (g:FuncId) (cs:List D) (vs:Array Value) (hl:cs.length=vs.size) (h:∀(k:Nat) c v,cs[k]? = some c->vs[k]? = some v->VD F w c v):VD F w (.fn g cs) (.func (.func g) #[] vs)
 | mp (k:IntKind) (ks:List Int) (ds:List D) (b:Nat) (ents:Array MapEntry) (clock:Nat) (hF:F b) (hb:w.heap[b]? = some (.map ents clock)) (hst:EI ents clock) (hl:ks.length=ents.size) (hl':ds.length=ents.size)
   (hk:∀(j:Nat) n,ks[j]? = some n->∃en,ents[j]? = some en/\en.key=.int k n) (hv:∀(j:Nat) d en,ds[j]? = some d->ents[j]? = some en->VD F w d en.val):VD F w (.mp k ks ds) (.map (some b))
 |iff (t:TypeId) (x:D) (v:Value) (h:VD F w x v):VD F w (.iff t x) (.iface t v)
 |fm (g:FuncId) (x:D) (u:Value) (h:VD F w x u):VD F w (.fm g x) (.func (.func g) #[u] #[])
inductive AV where
 |d (x:D)
 |nil
 |own (id off len sz:Nat)
 |ptr (id off:Nat)
 |mp (id:Nat)
 |fp (cs:List D)
 |fd (els:List (List D))
 |ag (cs:List AV)
 |tp (vs:List AV)
 |un
 |ub
 |kf (f:FuncId) (id:Nat)
 |fn (f:FuncId) (cs:List AV)
 |any
 deriving Inhabited
inductive V(F:Nat->Prop)(w:World)(ι:Nat->Option Nat):AV->Value->Prop where
 |d (x:D) (v:Value) (h:VD F w x v):V F w ι (.d x) v
 |nil:V F w ι .nil (.slice none 0 0)
 | own (id off len sz b cap:Nat) (cur:Array Value) (e:TypeId) (hι:ι id=some b) (hb:w.heap[b]? = some (.cells cur e (0,0))) (hcap:(off+cap)*sz<=cur.size) (hl:len<=cap)
   (hm:cap<=maxLen):V F w ι (.own id off len sz) (.slice (some ⟨b,off*sz,none⟩) len cap)
 |ptr (id off b:Nat) (hι:ι id=some b):V F w ι (.ptr id off) (.pointer (some ⟨b,off,none⟩))
 |mp (id b:Nat) (hι:ι id=some b):V F w ι (.mp id) (.map (some b))
 | fp (cs:List D) (ad:Addr) (f:Nat->Value) (hF:F ad.block) (hcell:∀j,j<cs.length->w.cell? (ad.add j)=some (f j)) (hel:∀(k:Nat) c,cs[k]? = some c->VD F w c (f k)) :
   V F w ι (.fp cs) (.pointer (some ad))
 |fd (els:List (List D)) (ad:Option Addr) (n:Nat) (h:VD F w (.sl els) (.slice ad n n)):V F w ι (.fd els) (.slice ad n n)
 |ag (cs:List AV) (vs:Array Value) (hl:cs.length=vs.size) (h:∀(k:Nat) c v,cs[k]? = some c->vs[k]? = some v->V F w ι c v):V F w ι (.ag cs) (.agg vs)
 |tp (cs:List AV) (vs:Array Value) (hl:cs.length=vs.size) (h:∀(k:Nat) c v,cs[k]? = some c->vs[k]? = some v->V F w ι c v):V F w ι (.tp cs) (.tuple vs)
 |un:V F w ι .un undef
 |ub (t:Bool):V F w ι .ub (.bool t)
 |kf (f:FuncId) (id b p:Nat) (e:TypeId) (hι:ι id=some b) (hF:F p) (hp:w.heap[p]? = some (.cells #[.map (some b)] e (0,0))):V F w ι (.kf f id) (.func (.func f) #[] #[.pointer (some ⟨p,0,none⟩)])
 |fn (g:FuncId) (cs:List AV) (vs:Array Value) (hl:cs.length=vs.size) (h:∀(k:Nat) c v,cs[k]? = some c->vs[k]? = some v->V F w ι c v):V F w ι (.fn g cs) (.func (.func g) #[] vs)
 |any (v:Value):V F w ι .any v
inductive HO where
 |cells (e:TypeId) (cs:List AV)
 |map (k:IntKind) (es:List (Int×AV))
 |iter (k:IntKind) (last:Option (Int×D)) (es:List (Int×D))
 deriving Inhabited
abbrev Hp:=Nat->Option HO
def HO.len:HO->Nat
 |.cells _ cs=>cs.length
 |.map ..=>0
 |.iter ..=>0
inductive CR(F:Nat->Prop)(w:World)(ι:Nat->Option Nat):HO->Obj->Prop where
 |cells (e:TypeId) (cs:List AV) (cur:Array Value) (hl:cs.length<=cur.size) (h:∀(k:Nat) c,cs[k]? = some c->∃u,cur[k]? = some u/\V F w ι c u):CR F w ι (.cells e cs) (.cells cur e (0,0))
 | map (k:IntKind) (es:List (Int×AV)) (ents:Array MapEntry) (clock:Nat) (hl:es.length=ents.size) (hst:EI ents clock)
   (h:∀(j:Nat) x,es[j]? = some x->∃en,ents[j]? = some en/\en.key=.int k x.1/\V F w ι x.2 en.val):CR F w ι (.map k es) (.map ents clock)
 | iter (k:IntKind) (last:Option (Int×D)) (es:List (Int×D)) (bm since c0 clock:Nat) (seen:Array Nat) (ents:Array MapEntry) (hF:F bm) (hb:w.heap[bm]? = some (.map ents clock)) (hold:∀x∈ents.toList,x.born<since) (hsc:since<=c0/\since<=clock)
   (hn:(ents.toList.map (·.born)).Nodup) (hl:es.length=(leftOf ents seen).size) (h:∀(j:Nat) x,es[j]? = some x->∃en,(leftOf ents seen)[j]? = some en/\en.key=.int k x.1/\VD F w x.2 en.val)
   (hla:∀x,last=some x->c0=clock/\∃(en:MapEntry) (seen0:Array Nat),seen=seen0.push en.born/\en∈ents.toList/\en.key=.int k x.1/\VD F w x.2 en.val):CR F w ι (.iter k last es) (.mapIter (some bm) since seen c0)
structure Step(F:Nat->Prop)(w:World)(ι:Nat->Option Nat)(F':Nat->Prop)(w':World)(ι':Nat->Option Nat):Prop where
 F_le:∀b,F b->F' b
 blk:∀b,F b->w'.heap[b]? = w.heap[b]?
 ι_le:∀id b,ι id=some b->ι' id=some b
 own:∀id b cur e,ι id=some b->w.heap[b]? = some (.cells cur e (0,0))->∃cur',w'.heap[b]? = some (.cells cur' e (0,0))/\cur'.size=cur.size
def Step.refl(F:Nat->Prop)(w:World)(ι:Nat->Option Nat):Step F w ι F w ι:=⟨λ_ h=>h,λ_ _=>rfl,λ_ _ h=>h,λ_ _ cur _ _ h=>⟨cur,h,rfl⟩⟩
def Step.trans{F F1 F2:Nat->Prop}{w w1 w2:World}{ι ι1 ι2:Nat->Option Nat}(h:Step F w ι F1 w1 ι1)(k:Step F1 w1 ι1 F2 w2 ι2):Step F w ι F2 w2 ι2 :=
 ⟨λb hb=>k.F_le b (h.F_le b hb),λb hb=>(k.blk b (h.F_le b hb)).trans (h.blk b hb),λid b e=>k.ι_le id b (h.ι_le id b e),λid b cur e hi hb=>by
  obtain⟨c1,h1,s1⟩:=h.own id b cur e hi hb;obtain⟨c2,h2,s2⟩:=k.own id b c1 e (h.ι_le id b hi) h1;exact⟨c2,h2,s2.trans s1⟩⟩
def block_add(a:Addr)(j:Nat):(a.add j).block=a.block:=by unfold Addr.add;split<;>rfl
def add_add(a:Addr)(i j:Nat):(a.add i).add j=a.add (i+j):=by unfold Addr.add;by_cases hi:i=0<;>by_cases hj:j=0<;>simp[hi,hj,Ei]
def gY(b o j:Nat):(⟨b,o,none⟩:Addr).add j=⟨b,o+j,none⟩:=by unfold Addr.add;split<;>simp_all
def fA{w w':World}{a:Addr}(h:w'.heap[a.block]? = w.heap[a.block]?):w'.cell? a=w.cell? a:=by simp[BA,h]
def VD.step{F F':Nat->Prop}{w w':World}{x:D}{v:Value}(hF:∀b,F b->F' b)(hb:∀b,F b->w'.heap[b]? = w.heap[b]?)(h:VD F w x v):VD F' w' x v:=by
 induction h with
 |b x=>exact .b x
 |i k n=>exact .i k n
 |sl0 ad c=>exact .sl0 ad c
 | sl els ad n c sz f hn hc hsz hFb hcell hel ih =>
  exact .sl els ad n c sz f hn hc hsz (hF _ hFb) (λj hj=>(fA (a:=ad.add j) (by rw[block_add];exact hb _ hFb)).trans (hcell j hj)) ih
 |ag cs vs hl h ih=>exact .ag cs vs hl ih
 |tp cs vs hl h ih=>exact .tp cs vs hl ih
 |lit v=>exact .lit v
 |pt cs ad f hFb hcell hel ih=>exact .pt cs ad f (hF _ hFb) (λj hj=>(fA (a:=ad.add j) (by rw[block_add];exact hb _ hFb)).trans (hcell j hj)) ih
 |fn g cs vs hl h ih=>exact .fn g cs vs hl ih
 |mp k ks ds b ents clock hFb hb' hst hl hl' hk hv ih=>exact .mp k ks ds b ents clock (hF _ hFb) ((hb _ hFb).trans hb') hst hl hl' hk ih
 |iff t x v h ih=>exact .iff t x v ih
 |fm g x u h ih=>exact .fm g x u ih
def VD.mono{F F':Nat->Prop}{w:World}{x:D}{v:Value}(h:VD F w x v)(hF:∀b,F b->F' b):VD F' w x v:=h.step hF λ_ _=>rfl
def V.step{F F':Nat->Prop}{w w':World}{ι ι':Nat->Option Nat}{x:AV}{v:Value}(hs:Step F w ι F' w' ι')(h:V F w ι x v):V F' w' ι' x v:=by
 induction h with
 |d x v h=>exact .d x v (h.step hs.F_le hs.blk)
 |nil=>exact .nil
 | own id off len sz b cap cur e hι hb hcap hl hm =>
  obtain⟨cur',hb',hsz⟩:=hs.own id b cur e hι hb;exact .own id off len sz b cap cur' e (hs.ι_le _ _ hι) hb' (by omega) hl hm
 |ptr id off b hι=>exact .ptr id off b (hs.ι_le _ _ hι)
 |mp id b hι=>exact .mp id b (hs.ι_le _ _ hι)
 | fp cs ad f hF hcell hel =>
  exact .fp cs ad f (hs.F_le _ hF) (λj hj=>(fA (a:=ad.add j) (by rw[block_add];exact hs.blk _ hF)).trans (hcell j hj)) (λk c hk=>(hel k c hk).step hs.F_le hs.blk)
 |fd els ad n h=>exact .fd els ad n (h.step hs.F_le hs.blk)
 |ag cs vs hl h ih=>exact .ag cs vs hl ih
 |tp cs vs hl h ih=>exact .tp cs vs hl ih
 |un=>exact .un
 |ub t=>exact .ub t
 |kf f id b p e hι hF hp=>exact .kf f id b p e (hs.ι_le _ _ hι) (hs.F_le _ hF) ((hs.blk _ hF).trans hp)
 |fn g cs vs hl h ih=>exact .fn g cs vs hl ih
 |any v=>exact .any v
structure Kept(M:Nat->Prop)(B:Nat)(w w':World):Prop where
 os:w'.os=w.os
 tape:w'.tape=w.tape
 output:w'.output=w.output
 size:w.heap.size<=w'.heap.size
 block:∀k,k<B->¬M k->w'.heap[k]? = w.heap[k]?
 shape:∀k cur e,k<B->w.heap[k]? = some (.cells cur e (0,0))->∃cur',w'.heap[k]? = some (.cells cur' e (0,0))/\cur'.size=cur.size
def Kept.refl(M:Nat->Prop)(B:Nat)(w:World):Kept M B w w:=⟨rfl,rfl,rfl,Ay _,λ_ _ _=>rfl,λ_ cur _ _ h=>⟨cur,h,rfl⟩⟩
def Kept.trans{M:Nat->Prop}{B:Nat}{w w1 w2:World}(h:Kept M B w w1)(k:Kept M B w1 w2):Kept M B w w2 :=
 ⟨k.os.trans h.os,k.tape.trans h.tape,k.output.trans h.output,AR h.size k.size,λb hb hm=>(k.block b hb hm).trans (h.block b hb hm),λb cur e hb hc=>let ⟨c1,h1,s1⟩:=h.shape b cur e hb hc;let ⟨c2,h2,s2⟩:=k.shape b c1 e hb h1;⟨c2,h2,s2.trans s1⟩⟩
def Kept.below{M:Nat->Prop}{B B':Nat}{w w':World}(h:RowKit.Below B' w w')(hB:B<=B'):Kept M B w w':=⟨h.os,h.tape,h.output,h.size,λk hk _=>h.block k (by omega),λk cur e hk hc=>⟨cur,(h.block k (by omega)).trans hc,rfl⟩⟩
structure Ctx where
 W:World
 A:Nat->Prop
 M:Nat->Prop
 P0:Nat->Prop
 Z:Nat->Option Value
structure HR(G:Ctx)(F:Nat->Prop)(w:World)(ι:Nat->Option Nat)(C:Nat->Prop)(H:Hp):Prop where
 kept:Kept G.M G.W.heap.size G.W w
 F_lt:∀b,F b->b<w.heap.size
 F_ok:∀b,F b->G.A b\/G.M b\/G.W.heap.size<=b
 place:∀id b,ι id=some b->(G.M b\/G.W.heap.size<=b)/\b<w.heap.size/\(¬C id->¬F b)
 obj:∀id b o,ι id=some b->H id=some o->∃ob,w.heap[b]? = some ob/\CR F w ι o ob
 inj:∀id id' b,ι id=some b->ι id'=some b->¬C id->¬C id'->id=id'
 len:∀id id' b o o',ι id=some b->ι id'=some b->¬C id->H id=some o->H id'=some o'->o'.len<=o.len
def hole:Obj:=.cells #[] 0 (0,0)
structure Sim(v w:World):Prop where
  tape:v.tape=w.tape
  drawn:v.drawn=w.drawn
  os:v.os=w.os
  output:v.output=w.output
  size:v.heap.size=w.heap.size
  blk:∀(b:Nat) (o:Obj),v.heap[b]? = some o->o=hole\/w.heap[b]? = some o\/∃(c:Array Value) (e:TypeId) (f:Nat×Nat),o=.cells c e (0,c.size)/\w.heap[b]? = some (.cells c e f)
def okO:Obj->Bool
  |.cells ..|.map ..|.mapIter ..|.loop ..|.deferred ..=>true
  |_=>false
def OkV(v:World):Prop:=∀(b:Nat) (o:Obj),v.heap[b]? = some o->okO o=true
def aK{α:Type}(P:Program):Sem α->World->Result α
  |.pure a,w=>.ok a w
  | .load .plain a k,w=>match w.cell? a with
    |some v=>aK P (k v) w
    | none=>.halt (.stuck "") w
  | .load .atomic _ _,w=>.halt (.stuck "") w
  | .store _ _ (.agg _) _,w | .store _ _ (.tuple _) _,w=>.halt (.stuck "") w
  | .store .plain a v k,w=>match w.cell? a with
    | some _=>if w.frozen? a then .halt (.stuck "") w else aK P k (w.setCell a v)
    | none=>.halt (.stuck "") w
  | .store .atomic _ _ _,w=>.halt (.stuck "") w
  | .new o k,w=>if okO o then aK P (k w.heap.size) { w with heap:=w.heap.push o } else .halt (.stuck "") w
  | .getObj r k,w=>match w.heap[r]? with
    | some (.cells ..)=>.halt (.stuck "") w
    |some o=>aK P (k o) w
    | none=>.halt (.stuck "") w
  | .setObj _ (.cells ..) _,w=>.halt (.stuck "") w
  | .setObj r o k,w=>if okO o then(match w.heap[r]? with
    | some (.cells ..)=>.halt (.stuck "") w
    |some _=>aK P k { w with heap:=w.heap.setIfInBounds r o }
    | none=>.halt (.stuck "") w) else .halt (.stuck "") w
  | .choose q k,w =>
    if q.forced then aK P (k 0) w
    else aK P (k (q.cut (w.tape w.drawn q))) { w with drawn:=w.drawn+1 }
  |.program k,w=>aK P (k P) w
  |.mark .noRoom k,w=>aK P k w
  | _,w=>.halt (.stuck "") w
def EvV(v:World)(e:Event):Prop :=
  (∃(a:Addr) (c:Array Value) (t:TypeId) (f:Nat×Nat),e.loc=.cell a/\e.sync=false/\v.heap[a.block]? = some (.cells c t f)/\a.off<c.size/\(e.write=true->f≠(0,c.size))) \/
  (∃(r:Nat) (o:Obj),e.loc=.obj r/\e.sync=false/\v.heap[r]? = some o/\(∀c t f,o≠C9 c t f)/\okO o=true)\/e=⟨.mark .noRoom,false,true⟩
structure Ext(v v':World):Prop where
  tape:v'.tape=v.tape
  os:v'.os=v.os
  output:v'.output=v.output
  size:v.heap.size<=v'.heap.size
  cells:∀(b:Nat) (c:Array Value) (t:TypeId) (f:Nat×Nat),v.heap[b]? = some (.cells c t f)->∃c':Array Value,v'.heap[b]? = some (.cells c' t f)/\c'.size=c.size/\(f=(0,c.size)->c'=c)
  other:∀(b:Nat) (o:Obj),v.heap[b]? = some o->(∀c t f,o≠C9 c t f)->okO o=true->∃o':Obj,v'.heap[b]? = some o'/\(∀c t f,o'≠C9 c t f)/\okO o'=true
def Ext.refl(v:World):Ext v v:=⟨rfl,rfl,rfl,Ay _,λ_ c _ _ h=>⟨c,h,rfl,λ_=>rfl⟩,λ_ o h h1 h2=>⟨o,h,h1,h2⟩⟩
def Ext.trans{v v1 v2:World}(h:Ext v v1)(k:Ext v1 v2):Ext v v2 :=
  ⟨k.tape.trans h.tape,k.os.trans h.os,k.output.trans h.output,AR h.size k.size,λb c t f hb=>by
    obtain⟨c1,h1,s1,e1⟩:=h.cells b c t f hb;obtain⟨c2,h2,s2,e2⟩:=k.cells b c1 t f h1;exact⟨c2,h2,s2.trans s1,λe=>(e2 (s1 ▸ e)).trans (e1 e)⟩,λb o hb h1 h2=>by
    obtain⟨o1,g1,g2,g3⟩:=h.other b o hb h1 h2;exact k.other b o1 g1 g2 g3⟩
def EvV.ext{v v':World}{e:Event}(h:EvV v e)(k:Ext v v'):EvV v' e:=by
  rcases h with ⟨a,c,t,f,h1,h2,h3,h4,h5⟩|⟨r,o,h1,h2,h3,h4,h5⟩|h
  · obtain⟨c',g1,g2,_⟩:=k.cells _ _ _ _ h3
    exact .inl ⟨a,c',t,f,h1,h2,g1,by omega,λe=>g2 ▸ h5 e⟩
  · obtain⟨o',g1,g2,g3⟩:=k.other _ _ h3 h4 h5
    exact .inr (.inl ⟨r,o',h1,h2,g1,g2,g3⟩)
  · exact .inr (.inr h)
def xO(v w w':World):Prop:=∀(b:Nat) (c:Array Value) (t:TypeId),v.heap[b]? = some (.cells c t (0,c.size))->w'.heap[b]? = w.heap[b]?
def Sim.cell{v w:World}(h:Sim v w){a:Addr}{x:Value}(hx:v.cell? a=some x):w.cell? a=some x:=by
  unfold BA at hx ⊢;cases hb:v.heap[a.block]? with
  |none=>simp[hb]at hx
  | some o =>
    rcases h.blk _ _ hb with rfl|h1|⟨c,e,_,rfl,h1⟩
    · simp[hb,hole]at hx
    · rw[h1];rw[hb]at hx;exact hx
    · rw[h1];rw[hb]at hx;exact hx
def oP{v:World}{a:Addr}{x:Value}(hx:v.cell? a=some x):∃c t f,v.heap[a.block]? = some (.cells c t f)/\a.off<c.size/\a.spot.isSome=false:=by
  unfold BA at hx;split at hx
  · rename_i c t f hb
    split at hx
    · cases hx
    · rename_i hs
      exact⟨c,t,f,hb,(AX.1 hx).1,by simpa using hs⟩
  · cases hx
def bPa(a:Addr)(x:Value):Obj->Obj
  |.cells c e f=>.cells (if a.spot.isSome then c else c.setIfInBounds a.off x) e f
  |o=>o
def dD(w:World)(a:Addr)(x:Value)(b:Nat):(w.setCell a x).heap[b]? = if b=a.block then(w.heap[b]?).map (bPa a x)else w.heap[b]? := by
  unfold Fe;simp only[FB];by_cases hb:b=a.block
  · subst hb
    rw[Aq rfl,Aq rfl]
    cases w.heap[a.block]? with
    |none=>rfl
    |some o=>cases o<;>rfl
  · rw[Ai (λe=>hb e.symm),Ai hb]
section
variable {v w:World}
def Sim.alloc(h:Sim v w)(o:Obj):Sim { v with heap:=v.heap.push o } { w with heap:=w.heap.push o }:=by
  refine⟨h.tape,h.drawn,h.os,h.output,by simp[h.size],λb x hb=>?_⟩;simp only[Bx]at hb ⊢;rw[<-h.size];by_cases e:b=v.heap.size
  · rw[Aq e]at hb ⊢;exact .inr (.inl hb)
  · rw[Ai e]at hb ⊢;exact h.blk b x hb
def OkV.alloc(h:OkV v){o:Obj}(ho:okO o=true):OkV { v with heap:=v.heap.push o }:=by
  intro b x hb;simp only[Bx]at hb;split at hb
  · injection hb with e;exact e ▸ ho
  · exact h b x hb
def bF{a:Array Obj}{b:Nat}{x:Obj}(h:a[b]? = some x):b<a.size:=(AX.1 h).1
def Ext.alloc(v:World)(o:Obj):Ext v { v with heap:=v.heap.push o }:=by
  refine⟨rfl,rfl,rfl,by simp,λb c t f hb=>⟨c,?_,rfl,λ_=>rfl⟩,λb x hb h1 h2=>⟨x,?_,h1,h2⟩⟩ <;>
  · simp only[Bx]
    rw[Ai (by have:=bF hb;omega)];exact hb
def xO.refl(v w:World):xO v w w:=λ_ _ _ _=>rfl
def xO.trans{v1 w1 w2:World}(h:xO v w w1)(hx:Ext v v1)(k:xO v1 w1 w2):xO v w w2:=λb c t hb=>by obtain⟨c',g1,g2,g3⟩:=hx.cells b c t _ hb;have:=g3 rfl;subst this;exact(k b c' t g1).trans (h b c' t hb)
def Sim.store(h:Sim v w)(hok:OkV v){a:Addr}{x y:Value}(hc:v.cell? a=some y)(hf:v.frozen? a=false) :
    Sim (v.setCell a x) (w.setCell a x)/\w.frozen? a=false/\OkV (v.setCell a x)/\Ext v (v.setCell a x)/\xO v w (w.setCell a x)/\EvV (v.setCell a x) ⟨.cell a,true,false⟩:=by
  obtain⟨c,t,f,hb,hlt,hsp⟩:=oP hc
  have hfr:¬(f.1<=a.off/\a.off<f.2):=by unfold Dn at hf;rw[hb]at hf;simpa using hf
  have hnf:f≠(0,c.size):=by rintro rfl;exact hfr ⟨A1 _,hlt⟩
  have hw:w.heap[a.block]? = some (.cells c t f):=by
    rcases h.blk _ _ hb with e|e|⟨c',e',_,e,_⟩
    · injection e with e1 e2 e3;subst e1;simp at hlt
    · exact e
    · injection e with e1 e2 e3;subst e1;exact absurd e3 hnf
  have hne:∀c' t',C9 c t f≠.cells c' t' (0,c'.size):=λc' t' e=>by injection e with e1 e2 e3;subst e1;exact hnf e3
  refine⟨⟨h.tape,h.drawn,h.os,h.output,by simp[Fe,h.size],λb o ho=>?_⟩,?_,λb o ho=>?_,⟨rfl,rfl,rfl,by simp[Fe],λb c' t' f' ho=>?_,λb o ho h1 h2=>?_⟩,λb c' t' ho=>?_,?_⟩
  · rw[dD]at ho ⊢
    by_cases e:b=a.block
    · rw[Aq e]at ho ⊢
      subst e
      rw[hb]at ho;rw[hw]
      exact .inr (.inl ho)
    · rw[Ai e]at ho ⊢;exact h.blk b o ho
  · unfold Dn;rw[hw];simpa using hfr
  · rw[dD]at ho
    split at ho
    · rename_i e;subst e
      rw[hb]at ho
      simp only[AU,Ax]at ho
      subst ho;rfl
    · exact hok b o ho
  · rw[dD]
    split
    · rename_i e;subst e
      rw[hb]at ho;injection ho with ho;injection ho with e1 e2 e3;subst e1;subst e2;subst e3
      rw[hb]
      refine⟨_,rfl,by rw[hsp];simp,λe=>absurd e hnf⟩
    · exact⟨c',ho,rfl,λ_=>rfl⟩
  · rw[dD]
    split
    · rename_i e;subst e
      rw[hb]at ho;injection ho with ho
      exact absurd ho.symm (h1 _ _ _)
    · exact⟨o,ho,h1,h2⟩
  · rw[dD]
    split
    · rename_i e;subst e
      rw[hb]at ho;injection ho with ho
      exact absurd ho (hne _ _)
    · rfl
  · refine .inl ⟨a,(if a.spot.isSome then c else c.setIfInBounds a.off x),t,f,rfl,rfl,?_,by rw[hsp];simpa using hlt,λ_=>by rw[hsp];simpa using hnf⟩
    rw[dD,Aq rfl,hb];rfl
def fG{α:Type}{P:Program}(s:Sem α):∀(v w:World) (es:Array Event) (r:α) (v':World),OkV v->Sim v w->aK P s v=.ok r v' ->
    ∃w' es',s.runT P w es=(.ok r w',es++es')/\Sim v' w'/\OkV v'/\Ext v v'/\xO v w w'/\∀e∈es',EvV v' e:=by
  induction s with
  | pure a =>
    intro v w es r v' hok h hr
    simp only[aK,Result.ok.injEq]at hr
    obtain⟨rfl,rfl⟩:=hr
    exact⟨w,#[],by simp[EJ],h,hok,.refl _,.refl _ _,by simp⟩
  | load m a k ih =>
    intro v w es r v' hok h hr
    cases m with
    |atomic=>simp[aK]at hr
    |plain =>
    simp only[aK]at hr
    cases hc:v.cell? a with
    |none=>rw[hc]at hr;cases hr
    | some x =>
      rw[hc]at hr
      obtain⟨w',es',h1,h2,h3,h4,h5,h6⟩:=ih x v w (es.push ⟨.cell a,false,false⟩) r v' hok h hr
      obtain⟨c,t,f,hb,hlt,_⟩:=oP hc
      refine⟨w',#[⟨.cell a,false,false⟩]++es',?_,h2,h3,h4,h5,λe he=>?_⟩
      · simp only[EJ,h.cell hc]
        rw[show(Mode.plain==Mode.atomic)=false from rfl,h1];simp
      · rcases Dy.1 he with he|he
        · simp at he;subst he
          exact EvV.ext (.inl ⟨a,c,t,f,rfl,rfl,hb,hlt,λe=>by cases e⟩) h4
        · exact h6 e he
  | store m a x k ih =>
    intro v w es r v' hok h hr
    have hx:(∀cs,x≠.agg cs)/\(∀cs,x≠.tuple cs):=by constructor<;>(rintro cs rfl;simp[aK]at hr)
    cases m with
    |atomic=>cases x<;>simp[aK]at hr
    |plain =>
    cases hc:v.cell? a with
    |none=>cases x<;>first|exact absurd rfl (hx.1 _)|exact absurd rfl (hx.2 _)|(simp only[aK,hc]at hr;cases hr)
    | some y =>
      have hf:v.frozen? a=false:=by
        cases hf:v.frozen? a with
        |false=>rfl
        |true=>cases x<;>first|exact absurd rfl (hx.1 _)|exact absurd rfl (hx.2 _)|(simp only[aK,hc,hf]at hr;cases hr)
      have hr':aK P k (v.setCell a x)=.ok r v':=by cases x<;>first|exact absurd rfl (hx.1 _)|exact absurd rfl (hx.2 _)|(simp only[aK,hc,hf]at hr;exact hr)
      obtain⟨g1,g2,g3,g4,g5,g6⟩:=h.store hok (x:=x) hc hf
      obtain⟨w',es',h1,h2,h3,h4,h5,h6⟩:=ih _ _ (es.push ⟨.cell a,true,false⟩) r v' g3 g1 hr'
      refine⟨w',#[⟨.cell a,true,false⟩]++es',?_,h2,h3,g4.trans h4,g5.trans g4 h5,λe he=>?_⟩
      · have hw:w.cell? a=some y:=h.cell hc
        have:(Sem.store .plain a x k).runT P w es=k.runT P (w.setCell a x) (es.push ⟨.cell a,true,false⟩):=by cases x<;>first|exact absurd rfl (hx.1 _)|exact absurd rfl (hx.2 _)|(simp only[EJ,hw,g2];rfl)
        rw[this,h1];simp
      · rcases Dy.1 he with he|he
        · simp at he;subst he;exact g6.ext h4
        · exact h6 e he
  | new o k ih =>
    intro v w es r v' hok h hr
    simp only[aK]at hr
    split at hr
    case isFalse=>cases hr
    rename_i ho
    obtain⟨w',es',h1,h2,h3,h4,h5,h6⟩:=ih v.heap.size _ _ es r v' (hok.alloc ho) (h.alloc o) hr
    refine⟨w',es',by simp only[EJ];rw[<-h.size];exact h1,h2,h3,(Ext.alloc v o).trans h4,?_,h6⟩
    have hr1:xO v w { w with heap:=w.heap.push o }:=λb c t hb=>by simp only[Bx];rw[Ai (by have:=bF hb;have:=h.size;omega)]
    exact hr1.trans (Ext.alloc v o) h5
  |shape r0 k _=>intro v w es r v' hok h hr;simp[aK]at hr
  |frozen a k _=>intro v w es r v' hok h hr;simp[aK]at hr
  |freeze a n k _=>intro v w es r v' hok h hr;simp[aK]at hr
  |sys c k _=>intro v w es r v' hok h hr;simp[aK]at hr
  | getObj r0 k ih =>
    intro v w es r v' hok h hr
    simp only[aK]at hr
    cases hb:v.heap[r0]? with
    |none=>simp[hb]at hr
    | some o =>
      rw[hb]at hr
      have hk:=hok _ _ hb
      have hw:(∀c t f,o≠C9 c t f):=by rintro c t f rfl;simp at hr
      have hr1:aK P (k o) v=.ok r v':=by rw[<-hr];cases o<;>first|exact absurd rfl (hw _ _ _)|rfl
      have hwb:w.heap[r0]? = some o:=by
        rcases h.blk _ _ hb with rfl|e|⟨c,t,_,rfl,_⟩
        · exact absurd rfl (hw _ _ _)
        · exact e
        · exact absurd rfl (hw _ _ _)
      obtain⟨w',es',h1,h2,h3,h4,h5,h6⟩:=ih o v w (es.push ⟨.obj r0,false,false⟩) r v' hok h hr1
      refine⟨w',#[⟨.obj r0,false,false⟩]++es',?_,h2,h3,h4,h5,λe he=>?_⟩
      · have:(Sem.getObj r0 k).runT P w es=(k o).runT P w (es.push ⟨.obj r0,false,false⟩):=by simp only[EJ,hwb];cases o<;>first|exact absurd rfl (hw _ _ _)|(simp[okO]at hk;done)|rfl
        rw[this,h1];simp
      · rcases Dy.1 he with he|he
        · simp at he;subst he
          exact EvV.ext (.inr (.inl ⟨r0,o,rfl,rfl,hb,hw,hk⟩)) h4
        · exact h6 e he
  | setObj r0 o k ih =>
    intro v w es r v' hok h hr
    have hnc:(∀c e f,o≠C9 c e f):=by rintro c e f rfl;simp[aK]at hr
    have ho:okO o=true:=by
      cases ho:okO o with
      |true=>rfl
      |false=>cases o<;>first|exact absurd rfl (hnc _ _ _)|(simp only[aK,ho]at hr;cases hr)
    cases hb:v.heap[r0]? with
    |none=>cases o<;>first|exact absurd rfl (hnc _ _ _)|(simp[aK,ho,hb]at hr;done)|(simp[okO]at ho;done)
    | some o0 =>
      have hw:(∀c t f,o0≠C9 c t f):=by rintro c t f rfl;cases o<;>first|exact absurd rfl (hnc _ _ _)|(simp[aK,ho,hb]at hr;done)|(simp[okO]at ho;done)
      have hk0:=hok _ _ hb
      have hr1:aK P k { v with heap:=v.heap.setIfInBounds r0 o }=.ok r v':=by cases o<;>first|exact absurd rfl (hnc _ _ _)|(simp[okO]at ho;done)|(simp only[aK,ho,hb,AH]at hr;cases o0<;>first|exact absurd rfl (hw _ _ _)|exact hr)
      have hwb:w.heap[r0]? = some o0:=by
        rcases h.blk _ _ hb with rfl|e|⟨c,t,_,rfl,_⟩
        · exact absurd rfl (hw _ _ _)
        · exact e
        · exact absurd rfl (hw _ _ _)
      have hlt:=bF hb
      have hltw:=bF hwb
      have hch:o.isChan=false:=by cases o<;>first|rfl|(simp[okO]at ho)
      have gv:∀b,({ v with heap:=v.heap.setIfInBounds r0 o }:World).heap[b]? = if b=r0 then some o else v.heap[b]? := λb=>by
        by_cases e:b=r0
        · subst e;simp[hlt]
        · simp only[AF (Eo e)];rw[Ai e]
      have gw:∀b,({ w with heap:=w.heap.setIfInBounds r0 o }:World).heap[b]? = if b=r0 then some o else w.heap[b]? := λb=>by
        by_cases e:b=r0
        · subst e;simp[hltw]
        · simp only[AF (Eo e)];rw[Ai e]
      have s1:Sim { v with heap:=v.heap.setIfInBounds r0 o } { w with heap:=w.heap.setIfInBounds r0 o } :=
        ⟨h.tape,h.drawn,h.os,h.output,by simp[h.size],λb x hx=>by
          rw[gv]at hx;rw[gw];split at hx
          · rename_i e;rw[Aq e];exact .inr (.inl hx)
          · rename_i e;rw[Ai e];exact h.blk b x hx⟩
      have s2:OkV { v with heap:=v.heap.setIfInBounds r0 o }:=λb x hx=>by
        rw[gv]at hx;split at hx
        · injection hx with e;exact e ▸ ho
        · exact hok b x hx
      have s3:Ext v { v with heap:=v.heap.setIfInBounds r0 o }:=⟨rfl,rfl,rfl,by simp,λb c t f hx=>by
          rw[gv];split
          · rename_i e;subst e;rw[hb]at hx;injection hx with e;exact absurd e (hw _ _ _)
          · exact⟨c,hx,rfl,λ_=>rfl⟩,λb x hx h1 h2=>by
          rw[gv];split
          · exact⟨o,rfl,hnc,ho⟩
          · exact⟨x,hx,h1,h2⟩⟩
      have s4:xO v w { w with heap:=w.heap.setIfInBounds r0 o }:=λb c t hx=>by
        rw[gw];split
        · rename_i e;subst e;rw[hb]at hx;injection hx with e;exact absurd e (hw _ _ _)
        · rfl
      obtain⟨w',es',h1,h2,h3,h4,h5,h6⟩:=ih _ _ (es.push ⟨.obj r0,true,false⟩) r v' s2 s1 hr1
      refine⟨w',#[⟨.obj r0,true,false⟩]++es',?_,h2,h3,s3.trans h4,s4.trans s3 h5,λe he=>?_⟩
      · have:(Sem.setObj r0 o k).runT P w es=k.runT P { w with heap:=w.heap.setIfInBounds r0 o } (es.push ⟨.obj r0,true,false⟩):=by simp only[EJ,hwb,hch]
        rw[this,h1];simp
      · rcases Dy.1 he with he|he
        · simp at he;subst he
          exact EvV.ext (.inr (.inl ⟨r0,o,rfl,rfl,by rw[gv,Aq rfl],hnc,ho⟩)) h4
        · exact h6 e he
  | choose q k ih =>
    intro v w es r v' hok h hr
    simp only[aK]at hr
    by_cases hq:q.forced=true
    · rw[Aq hq]at hr
      obtain⟨w',es',h1,h2⟩:=ih 0 v w es r v' hok h hr
      exact⟨w',es',by simp only[EJ];rw[Aq hq];exact h1,h2⟩
    · rw[Ai hq]at hr
      obtain⟨w',es',h1,h2,h3,h4,h5,h6⟩:=ih _ { v with drawn:=v.drawn+1 } { w with drawn:=w.drawn+1 } es r v' (λb o hb=>hok b o hb) ⟨h.tape,by simp[h.drawn],h.os,h.output,h.size,h.blk⟩ hr
      refine⟨w',es',by simp only[EJ];rw[Ai hq,show w.tape w.drawn q=v.tape v.drawn q by rw[h.tape,h.drawn]];exact h1,h2,h3,⟨h4.tape,h4.os,h4.output,h4.size,h4.cells,h4.other⟩,h5,h6⟩
  | program k ih =>
    intro v w es r v' hok h hr
    simp only[aK]at hr
    obtain⟨w',es',h1,h2⟩:=ih P v w es r v' hok h hr
    exact⟨w',es',by simp only[EJ];exact h1,h2⟩
  | mark m k ih =>
    intro v w es r v' hok h hr
    cases m<;>first|(simp[aK]at hr;done)|skip
    simp only[aK]at hr
    obtain⟨w',es',h1,h2,h3,h4,h5,h6⟩:=ih v w (es.push ⟨.mark .noRoom,false,true⟩) r v' hok h hr
    refine⟨w',#[⟨.mark .noRoom,false,true⟩]++es',by simp only[EJ];rw[h1];simp,h2,h3,h4,h5,λe he=>?_⟩
    rcases Dy.1 he with he|he
    · simp at he;subst he;exact .inr (.inr rfl)
    · exact h6 e he
  |halt x=>intro v w es r v' hok h hr;simp[aK]at hr
end
section
variable {α β:Type} (P:Program) (w:World)
def aAq(x:Sem α)(f:α->Sem β):∀w,aK P (x.bind f) w=(aK P x w).andThen λa w'=>aK P (f a) w':=by
  induction x with
  |pure a=>intro w;simp[Er,aK]
  |load m a k ih=>intro w;cases m<;>simp only[Er,aK,FW];split<;>simp[ih]
  |store m a v k ih=>intro w;cases m<;>cases v<;>simp only[Er,aK,FW]<;>(try (repeat' split)<;>simp[ih])
  |new o k ih=>intro w;simp only[Er,aK];split<;>simp[ih]
  |getObj r k ih=>intro w;simp only[Er,aK];split<;>simp[ih]
  |setObj r o k ih=>intro w;cases o<;>simp only[Er,aK,FW]<;>(try (repeat' split)<;>simp[ih])
  |choose q k ih=>intro w;simp only[Er,aK];split<;>simp[ih]
  |program k ih=>intro w;simp[Er,aK,ih]
  |mark m k ih=>intro w;cases m<;>simp[Er,aK,ih]
  |_=>intro w;simp[Er,aK]
@[simp]def nD(x:Sem α)(f:α->Sem β):aK P (x >>= f) w=(aK P x w).andThen λa w'=>aK P (f a) w':=aAq P x f w
@[simp]def bFb(x:Sem α)(f:α->β):aK P (f <$> x) w=(aK P x w).andThen λa w'=>.ok (f a) w':=aAq P x _ w
@[simp]def cBg(a:α):aK P (Pure.pure a:Sem α) w=.ok a w:=rfl
@[simp]def bYf(a:α):aK P (Sem.pure a) w=.ok a w:=rfl
@[simp]def cCa(c:Prop)[Decidable c](x y:Sem α):aK P (if c then x else y) w=if c then aK P x w else aK P y w:=by split<;>rfl
def mF(o:Obj)(h:okO o=true):aK P (newObj o) w=.ok w.heap.size { w with heap:=w.heap.push o }:=by simp[newObj,aK,h]
@[simp]def bPk:aK P program w=.ok P w:=rfl
@[simp]def bPm(n:Nat):aK P (askRoom n) w=.ok () w:=by unfold askRoom;split<;>rfl
@[simp]def bVt(q:Question):aK P (choose q) w=if q.forced then .ok 0 w else .ok (q.cut (w.tape w.drawn q)) { w with drawn:=w.drawn+1 }:=by simp only[choose,aK]
@[simp] theorem bYe (why:String):aK P (stuck why:Sem α) w=.halt (.stuck "") w:=rfl
@[simp] theorem aXu (u:Unsupported):aK P (unsupported u:Sem α) w=.halt (.stuck "") w:=rfl
@[simp] theorem bPl (v:Value):aK P (goPanic v:Sem α) w=.halt (.stuck "") w:=rfl
end
end Go.Am
end
section
open List renaming map_map->E,mapM_map->J
namespace Go.Am
open Go.Conc
structure Env(v v1:World):Prop where
  tape:v1.tape=v.tape
  os:v1.os=v.os
  output:v1.output=v.output
  heap:∃n,v1.heap=v.heap++AY n hole
def Env.refl(v:World):Env v v:=⟨rfl,rfl,rfl,0,by simp⟩
def Env.trans{v v1 v2:World}(h:Env v v1)(k:Env v1 v2):Env v v2:=by obtain⟨n,hn⟩:=h.heap;obtain⟨m,hm⟩:=k.heap;exact⟨k.tape.trans h.tape,k.os.trans h.os,k.output.trans h.output,n+m,by rw[hm,hn,Array.append_assoc];simp⟩
def Env.get{v v1:World}(h:Env v v1){b:Nat}(hb:b<v.heap.size):v1.heap[b]? = v.heap[b]? := by obtain⟨n,hn⟩:=h.heap;rw[hn,B3 hb]
def Env.size{v v1:World}(h:Env v v1):v.heap.size<=v1.heap.size:=by obtain⟨n,hn⟩:=h.heap;rw[hn];simp
def Env.okV{v v1:World}(h:Env v v1)(hv:OkV v):OkV v1:=by
  intro b o hb;obtain⟨n,hn⟩:=h.heap;rw[hn]at hb;rcases A4 b v.heap.size with hlt|hge
  · rw[B3 hlt]at hb;exact hv b o hb
  · rw[Array.getElem?_append_right hge]at hb
    have:=BZ hb
    rw[Array.mem_replicate]at this
    rw[this.2];rfl
structure xN(v w v' w':World)(es:Array Event):Prop where
  sim:Sim v' w'
  ok:OkV v'
  ext:Ext v v'
  rest:xO v w w'
  evs:∀e∈es,EvV v' e
structure aKd(P:Program)(main:Bool)(Win:Goroutine->World->Prop):Prop where
  env:∀{g:Goroutine} {v v1:World},Win g v->Env v v1->Win g v1
  step:∀{g:Goroutine} {v:World},g.status=.running->OkV v ->
    (∀v1 w,Env v v1->Sim v1 w->∃g' v' w' es,stepG P main g w=.go g' w' es/\xN v1 w v' w' es/\Win g' v')->Win g v
class Mch (P:Program) where
  main:Bool
  Fam:(Goroutine->World->Prop)->Prop
  closed:∀{Win:Goroutine->World->Prop},Fam Win->aKd P main Win
  none:Fam λ_ _=>False
section
variable {P:Program} [M:Mch P]
def aM{Win:Goroutine->World->Prop}(hW:M.Fam Win){g g':Goroutine}{v:World}(hr:g.status=.running)(hv:OkV v)(hs:∀w,stepG P M.main g w=.go g' w)(h:Win g' v):Win g v :=
  (M.closed hW).step hr hv λv1 w he hsim=>⟨g',v1,w,#[],hs w,⟨hsim,he.okV hv,.refl _,.refl _ _,by simp⟩,(M.closed hW).env h he⟩
def nA(b:Frame):Prop:=b.kind=.normal\/b.kind=.deferred
def nA.ne{b:Frame}(h:nA b):b.kind≠.early:=by rcases h with h|h<;>rw[h]<;>simp
def nA.beq{b:Frame}(h:nA b):(b.kind==Db)=false:=by rcases h with h|h<;>rw[h]<;>rfl
def oT(Win:Goroutine->World->Prop)(b:Frame)(k:List Item)(cs:List Frame):Exit->Act->World->Prop
  |.normal,a,v=>Win (G (b.at a k) cs) v
  |.exit id,a,v=>match exitTo id k with|some k'=>Win (G (b.at a k') cs) v|none=>False
  |.ret,a,v=>∀todo,Win (G { b.at a todo with mode:=.returning } cs) v
  |_,_,_=>False
def WC(P:Program)[M:Mch P](c:Code)(Q:Exit->Act->World->Prop)(a:Act)(v:World):Prop :=
  ∀(Win:Goroutine->World->Prop),M.Fam Win->OkV v->∀(b:Frame) (k:List Item) (cs:List Frame),nA b->(∀e a' v',OkV v'->Q e a' v'->oT Win b k cs e a' v')->Win (G (b.at a (.code c::k)) cs) v
def CX(P:Program)[M:Mch P](f:FuncId)(args:Array Value)(v:World)(R:Value->World->Prop):Prop :=
  ∀(Win:Goroutine->World->Prop),M.Fam Win->OkV v->∀(c:Frame) (cs:List Frame),(∀x v',OkV v'->R x v'->Win (G (c.finish x) cs) v')->Win (G (Frame.enter P f args .normal) (c::cs)) v
def CX.mono{f:FuncId}{args:Array Value}{v:World}{R R':Value->World->Prop}(h:CX P f args v R)(hr:∀x v',R x v'->R' x v'):CX P f args v R' :=
  λWin hW hv c cs hk=>h Win hW hv c cs λx v' ho hx=>hk x v' ho (hr x v' hx)
def CX.some{f:FuncId}{args:Array Value}{v:World}{R:Value->World->Prop}(h:CX P f args v R)(hv:OkV v):∃x v',OkV v'/\R x v' :=
  Classical.byContradiction λhn=>h _ M.none hv default [] λx v' ho hx=>hn ⟨x,v',ho,hx⟩
def iV(P:Program)[M:Mch P](o:Oper)(a:Act)(next:Act->World->Prop):Result Next->Prop
  |.ok (.value x) v'=>next (a.put o.dst x) v'
  |.ok .skip v'=>next (a.put o.dst undef) v'
  |.ok (.defer d) v'=>next ({ a with defers:=d::a.defers }.put o.dst undef) v'
  |.ok (.enter f args) v'=>CX P f args v' λx v''=>next (a.put o.dst x) v''
  |_=>False
def wpX(P:Program)[M:Mch P](o:Oper)(a:Act)(v:World)(next:Act->World->Prop):Prop :=
  iV P o a next (aK P (execOp a.eval o) v)
def Sim.refl(v:World):Sim v v:=⟨rfl,rfl,rfl,rfl,rfl,λ_ _ h=>.inr (.inl h)⟩
def aUt{α:Type}{s:Sem α}{v v':World}{r:α}(hv:OkV v)(h:aK P s v=.ok r v'):OkV v' :=
  let ⟨_,_,_,_,h3,_⟩:=fG s v v #[] r v' hv (.refl v) h;h3
def aGz{Win:Goroutine->World->Prop}(hW:M.Fam Win){b:Frame}{a:Act}{k:List Item}{cs:List Frame}{v:World}{ops:Array Oper}{i:Nat}{rest:List Nat}{o:Oper}{K:Act->World->Prop}(hb:nA b)(ho:ops[i]? = some o)(hw:Bu o (yielded ops a.tmps)=true)
    (hv:OkV v) (h:∀v1,Env v v1->wpX P o a v1 K) (hk:∀a' v',OkV v'->K a' v'->Win (G (b.at a' (.inRegion ops rest::k)) cs) v') :
    Win (G (b.at a (.inRegion ops (i::rest)::k)) cs) v:=by
  have hbk:b.kind≠.early:=hb.ne
  refine(M.closed hW).step rfl hv λv1 w he hsim=>?_
  have hu:=h v1 he
  unfold wpX at hu
  have hv1:=he.okV hv
  cases hr:aK P (execOp a.eval o) v1 with
  |halt x v'=>rw[hr]at hu;exact hu.elim
  | ok n v' =>
    obtain⟨w',es',h1,h2,h3,h4,h5,h6⟩:=fG _ v1 w #[] n v' hv1 hsim hr
    rw[hr]at hu
    have hrw:(execOp a.eval o).run P w=.ok n w':=by have:=Dh P (execOp a.eval o) w #[];rw[h1]at this;exact(congrArg Prod.fst this).symm
    have hev:∀e∈listed P b.fn a o w,EvV v' e:=λe hx=>by have:=mem_listed hx;have h7:=Dh P (execOp a.eval o) w #[];rw[h1]at h7;have h8:(execOp a.eval o).events P w #[]=#[]++es':=(congrArg Prod.snd h7).symm;rw[h8]at this;exact h6 e (by simpa using this)
    have hst:xN v1 w v' w' (listed P b.fn a o w):=⟨h2,h3,h4,h5,hev⟩
    cases n with
    |value x=>exact⟨_,v',w',_,stepG_value ho hw hbk hrw,hst,hk _ _ h3 hu⟩
    |skip=>exact⟨_,v',w',_,stepG_none ho hw hbk hrw,hst,hk _ _ h3 hu⟩
    | enter f args =>
      refine⟨_,v',w',_,stepG_enter ho hw hbk hrw,hst,hu Win hW h3 _ _ λx v'' ho' hx=>?_⟩
      rw[D7,ho]
      exact hk _ _ ho' hx
    | defer d =>
      refine⟨G (b.at (Act.put { a with defers:=d::a.defers } o.dst undef) (.inRegion ops rest::k)) cs,v',w',_,?_,hst,hk (Act.put { a with defers:=d::a.defers } o.dst undef) v' h3 hu⟩
      rw[stepG_oper ho hw]
      have hk':(b.kind==Db)=false:=hb.beq
      have:({ b.at a (.inRegion ops (i::rest)::k) with defers:=d::a.defers }:Frame).finish undef =
          b.at ({ a with defers:=d::a.defers }.put o.dst undef) (.inRegion ops rest::k):=by
        have:=D7 b { a with defers:=d::a.defers } ops i rest k undef
        rw[ho]at this;exact this
      rw[<-this]
      simp[stepG.apply,hrw,G,Frame.at,hk',Cw,listed]
    |_=>exact hu.elim
def gW(P:Program)[M:Mch P](ops:Array Oper)(Q:Exit->Act->World->Prop):List Oper->Act->World->Prop
  |[],a,v=>Q .normal a v
  |o::rest,a,v=>if Bu o (yielded ops a.tmps)then ∀v1,Env v v1->wpX P o a v1 (gW P ops Q rest)else gW P ops Q rest (a.put o.dst undef) v
def yH(P:Program)[M:Mch P](ops:Array Oper)(Q:Exit->Act->World->Prop):Nat->Array Bool->Act->World->Prop
  |0,listed,a,v=>Bv .any ops listed=[]/\Q .normal a v
  | fuel+1,listed,a,v=>(Bv .any ops listed=[]->Q .normal a v)/\∀i∈Bv .any ops listed,match ops[i]? with
      |none=>yH P ops Q fuel (listed.setIfInBounds i true) a v
      |some o=>if Bu o (yielded ops a.tmps)then ∀v1,Env v v1->wpX P o a v1 (yH P ops Q fuel (listed.setIfInBounds i true))else yH P ops Q fuel (listed.setIfInBounds i true) (a.put o.dst undef) v
section
variable {Q:Exit->Act->World->Prop} {a:Act} {v:World}
def tT{Win:Goroutine->World->Prop}(hW:M.Fam Win){b:Frame}{k:List Item}{cs:List Frame}{ops:Array Oper}{i:Nat}{rest:List Nat}{o:Oper}(ho:ops[i]? = some o)(hw:¬Bu o (yielded ops a.tmps)=true)(hv:OkV v)
    (h:Win (G (b.at (a.put o.dst undef) (.inRegion ops rest::k)) cs) v):Win (G (b.at a (.inRegion ops (i::rest)::k)) cs) v :=
  aM hW rfl hv (λw=>stepG_unwanted ho (by simpa using hw)) h
def zX{Win:Goroutine->World->Prop}(hW:M.Fam Win){ops:Array Oper}{b:Frame}{k:List Item}{cs:List Frame}(hb:nA b):∀(l:List Oper) (n:Nat) (a:Act) (v:World),OkV v->(∀j o,l[j]? = some o->ops[n+j]? = some o)->n+l.length=ops.size->gW P ops Q l a v ->
    (∀a' v',OkV v'->Q .normal a' v'->Win (G (b.at a' k) cs) v')->Win (G (b.at a (.inRegion ops (List.range' n l.length)::k)) cs) v
  |[],n,a,v,hv,_,_,h,hk=>aM hW rfl hv (λw=>stepG_region_end) (hk a v hv h)
  | o::l,n,a,v,hv,hl,hn,h,hk=>by
    have ho:ops[n]? = some o:=by simpa using hl 0 o rfl
    have ih:=λa v hv h=>zX hW hb l (n+1) a v hv (λj o hj=>by have:=hl (j+1) o (by simpa using hj);rw[<-this];congr 1;omega) (by simp at hn;omega) h hk
    rw[Ak,DX];unfold gW at h;split at h
    · rename_i hw
      exact aGz hW hb ho hw hv h λa' v' hv' h'=>ih a' v' hv' h'
    · rename_i hw
      exact tT hW ho hw hv (ih _ v hv h)
def iH{id:Nat}{ops:Array Oper}(h:gW P ops Q ops.toList a v):WC P (.region id ops false) Q a v:=by
  intro Win hW hv b k cs hb hk;refine aM hW rfl hv (λw=>stepG_region) ?_;have:=zX hW (Q:=Q) (b:=b) (k:=k) (cs:=cs) hb ops.toList 0 a v hv (λj o hj=>by simpa using hj) (by simp) h λa' v' hv' hq=>hk .normal a' v' hv' hq
  rwa [List.range_eq_range',<-BK]
def bNr{Win:Goroutine->World->Prop}(hW:M.Fam Win){ops:Array Oper}{b:Frame}{k:List Item}{cs:List Frame}(hb:nA b)(hk:∀a' v',OkV v'->Q .normal a' v'->Win (G (b.at a' k) cs) v'):∀(fuel t:Nat) (listed:Array Bool) (a:Act) (v:World),OkV v->yH P ops Q fuel listed a v ->
    Win (G (b.at a (.inRegion ops (Cy .any ops fuel t listed [])::k)) cs) v:=by
  intro fuel
  induction fuel with
  | zero =>
    intro t listed a v hv h
    simp only[Cy,List.reverse_nil]
    exact aM hW rfl hv (λw=>stepG_region_end) (hk a v hv h.2)
  | succ fuel ih =>
    intro t listed a v hv h
    obtain⟨h0,h1⟩:=h
    simp only[Cy]
    change Win (G (b.at a (.inRegion ops (match(Bv .any ops listed)[t%(Bv .any ops listed).length]? with
      |some i=>Cy .any ops fuel (t/(Bv .any ops listed).length) (listed.setIfInBounds i true) [i]
      |none=>[].reverse)::k)) cs) v
    cases hi:(Bv .any ops listed)[t%(Bv .any ops listed).length]? with
    | none =>
      have hnil:Bv .any ops listed=[]:=by
        cases hr:Bv .any ops listed with
        |nil=>rfl
        | cons x xs =>
          rw[hr]at hi;have hlt:t%(x::xs).length<(x::xs).length:=BF _ (by simp);simp at hi;simp at hlt;omega
      exact aM hW rfl hv (λw=>stepG_region_end) (hk a v hv (h0 hnil))
    | some i =>
      simp only[]
      rw[linearise_go_acc,List.reverse_singleton,List.singleton_append]
      have h2:=h1 i (Aj hi)
      cases ho:ops[i]? with
      | none =>
        simp only[ho]at h2
        refine aM hW (g':=G (b.at a (.inRegion ops (Cy .any ops fuel (t/(Bv .any ops listed).length) (listed.setIfInBounds i true) [])::k)) cs) rfl hv (λw=>?_) (ih _ _ a v hv h2)
        have hfin:∀rest,(b.at a (.inRegion ops (i::rest)::k)).finish undef=b.at a (.inRegion ops rest::k):=λrest=>by rw[D7,ho];rfl
        have:∀rest,stepG P M.main (G (b.at a (.inRegion ops (i::rest)::k)) cs) w=.go (G ((b.at a (.inRegion ops (i::rest)::k)).finish undef) cs) w:=λrest=>by simp[G,stepG,Cf,Frame.at,ho]
        rw[this,hfin]
      | some o =>
        simp only[ho]at h2
        split at h2
        · rename_i hw;exact aGz hW hb ho hw hv h2 λa' v' hv' h'=>ih _ _ a' v' hv' h'
        · rename_i hw;exact tT hW ho hw hv (ih _ _ _ v hv h2)
def OkV.congr{v v':World}(h:OkV v)(e:v'.heap=v.heap):OkV v':=λb o hb=>h b o (e ▸ hb)
def bNt{id:Nat}{ops:Array Oper}(hm:P.follows .mixedOrders=true)(h:∀d,yH P ops Q ops.size (AY ops.size false) a { v with drawn:=d }):WC P (.region id ops true) Q a v:=by
  intro Win hW hv b k cs hb hk;refine(M.closed hW).step rfl hv λv1 w he hsim=>?_
  have hd:stepG P M.main (G (b.at a (.code (.region id ops true)::k)) cs) w =
      .go (G (b.at a (.inRegion ops (FQ (P.follows .mixedOrders) ops (w.tape w.drawn (.order b.fn id)))::k)) cs) { w with drawn:=w.drawn+1 }:=by
    simp[G,stepG,Cf,Frame.at,choose,Sem.run,Fi,Question.cut]
  have he2:Env { v with drawn:=v1.drawn+1 } { v1 with drawn:=v1.drawn+1 }:=⟨he.tape,he.os,he.output,he.heap⟩;refine⟨_,{ v1 with drawn:=v1.drawn+1 },_,#[],hd,⟨⟨hsim.tape,by simp[hsim.drawn],hsim.os,hsim.output,hsim.size,hsim.blk⟩,(he.okV hv).congr rfl,⟨rfl,rfl,rfl,Ay _,λ_ c _ _ h=>⟨c,h,rfl,λ_=>rfl⟩,λ_ o h h1 h2=>⟨o,h,h1,h2⟩⟩,λ_ _ _ _=>rfl,by simp⟩,(M.closed hW).env ?_ he2⟩;simp only[FQ,hm,Bool.true_or,AH];exact bNr hW (Q:=Q) hb (λa' v' hv' hq=>hk .normal a' v' hv' hq) ops.size _ _ a _ (hv.congr rfl) (h _)
def cC{c:Code}{Q':Exit->Act->World->Prop}(h:WC P c Q a v)(hq:∀e a v,Q e a v->Q' e a v):WC P c Q' a v :=
  λWin hW hv b k cs hb hk=>h Win hW hv b k cs hb λe a' v' hv' hx=>hk e a' v' hv' (hq _ _ _ hx)
def yY(h:Q .normal a v):WC P .skip Q a v:=λWin hW hv _ _ _ _ hk=>aM hW rfl hv (λ_=>stepG_skip) (hk .normal a v hv h)
def bCk{l:Nat}(h:Q .normal a v):WC P (.label l) Q a v:=λWin hW hv _ _ _ _ hk=>aM hW rfl hv (λ_=>stepG_label) (hk .normal a v hv h)
def zY(h:Q .ret a v):WC P .ret Q a v:=λWin hW hv _ k _ _ hk=>aM hW rfl hv (λ_=>stepG_ret') (hk .ret a v hv h (.code .ret::k))
def aTv{id:Nat}(h:Q (.exit id) a v):WC P (.exit id) Q a v:=by
  intro Win hW hv b k cs _ hk;have:=hk (.exit id) a v hv h;cases hx:exitTo id k with
  |some k'=>simp only[oT,hx]at this;exact aM hW rfl hv (λ_=>stepG_exit hx) this
  |none=>simp only[oT,hx]at this
def eJ{x y:Code}(h:WC P x (Exit.then (WC P y Q) Q) a v):WC P (.seq x y) Q a v:=by
  intro Win hW hv b k cs hb hk;refine aM hW rfl hv (λ_=>stepG_seq) (h Win hW hv b (.code y::k) cs hb λe a' v' hv' hq=>?_);cases e with
  |normal=>exact hq Win hW hv' b k cs hb hk
  |exit id=>have:=hk _ a' v' hv' hq;simp only[oT,exitTo]at this ⊢;exact this
  |ret=>exact hk _ a' v' hv' hq
  |goto l=>exact hk _ a' v' hv' hq
  |panic ch=>exact hk _ a' v' hv' hq
  |outgrown=>exact hk _ a' v' hv' hq
def nR{c:Operand}{x y:Code}{t:Bool}(hc:a.eval c=.bool t)(h:WC P (if t then x else y) Q a v):WC P (.cond c x y) Q a v :=
  λWin hW hv b k cs hb hk=>aM hW rfl hv (λ_=>stepG_cond hc) (h Win hW hv b k cs hb hk)
def zZ{id:Nat}{c:Code}(h:WC P c (DQ id Q) a v):WC P (.block id c) Q a v:=by
  intro Win hW hv b k cs hb hk;refine aM hW rfl hv (λ_=>stepG_block) (h Win hW hv b (.inBlock id::k) cs hb λe a' v' hv' hq=>?_);cases e with
  |normal=>exact aM hW rfl hv' (λ_=>stepG_inBlock) (hk .normal a' v' hv' hq)
  | exit id' =>
    simp only[DQ]at hq;simp only[oT,exitTo];by_cases he:id'=id
    · rw[Aq he]at hq
      have:=hk .normal a' v' hv' hq
      rw[Aq (by simpa using he.symm)];exact this
    · rw[Ai he]at hq
      have:=hk (.exit id') a' v' hv' hq
      rw[Ai (by simpa using λx:id=id'=>he x.symm)];exact this
  |ret=>exact hk _ a' v' hv' hq
  |goto l=>exact hk _ a' v' hv' hq
  |panic ch=>exact hk _ a' v' hv' hq
  |outgrown=>exact hk _ a' v' hv' hq
def aTu{c:Code}(I:Nat->Act->World->Prop)(h0:∃n,I n a v)(h:∀n a v,I n a v->WC P c (Exit.then (λa' v'=>∃m,m<n/\I m a' v') Q) a v):WC P (.loop c) Q a v:=by
  intro Win hW hv b k cs hb hk;have key:∀n a v,OkV v->I n a v->Win (G (b.at a (.code c::.inLoop c::k)) cs) v:=by
    intro n;induction n using Nat.strongRecOn with
    | _ n ih =>
      intro a v hv hI;refine h n a v hI Win hW hv b (.inLoop c::k) cs hb λe a' v' hv' hq=>?_
      cases e with
      | normal =>
        obtain⟨m,hlt,hI'⟩:=hq;exact aM hW rfl hv' (λ_=>stepG_inLoop) (ih m hlt a' v' hv' hI')
      |exit id=>have:=hk _ a' v' hv' hq;simp only[oT,exitTo]at this ⊢;exact this
      |ret=>exact hk _ a' v' hv' hq
      |goto l=>exact hk _ a' v' hv' hq
      |panic ch=>exact hk _ a' v' hv' hq
      |outgrown=>exact hk _ a' v' hv' hq
  obtain⟨n,hn⟩:=h0;exact aM hW rfl hv (λ_=>stepG_loop) (key n a v hv hn)
def aKh{c:Code}(h:WC P c (Exit.noGoto Q) a v):WC P (.scope c) Q a v:=by
  intro Win hW hv b k cs hb hk;have hs:∀w,stepG P M.main (G (b.at a (.code (.scope c)::k)) cs) w=.go (G (b.at a (.code c::.inScope c::k)) cs) w:=λw=>by simp[G,stepG,Cf,Frame.at]
  refine aM hW rfl hv hs (h Win hW hv b (.inScope c::k) cs hb λe a' v' hv' hq=>?_);cases e with
  |normal=>exact aM hW rfl hv' (λw=>by simp[G,stepG,Cf,Frame.at]) (hk .normal a' v' hv' hq)
  |exit id=>have:=hk _ a' v' hv' hq;simp only[oT,exitTo]at this ⊢;exact this
  |ret=>exact hk _ a' v' hv' hq
  |goto l=>exact hq.elim
  |panic ch=>exact hk _ a' v' hv' hq
  |outgrown=>exact hk _ a' v' hv' hq
def aWd(P:Program)(fn:Func)(R:Value->World->Prop):Exit->Act->World->Prop
  |.normal,a,v|.ret,a,v=>a.defers=[]/\∀v1,Env v v1->∃x,aK P (results fn a.tmps) v1=.ok x v1/\R x v1
  |_,_,_=>False
omit M in
def tA{b:Frame}{cs:List Frame}{main:Bool}{fn:Func}{todo:List Item}{c:Frame}{x:Value}{w w':World}{es:Array Event}(hn:b.kind=.normal)(hd:a.defers=[])(hf:P.funcs[b.fn]? = some fn)
    (hr:(results fn a.tmps).runT P w #[]=(.ok x w',es)) :
    stepG P main (G { b.at a todo with mode:=.returning } (c::cs)) w=.go (G (c.finish x) cs) w' (seen P b.fn es):=by
  simp only[G,stepG,unwind,Frame.at,hd,hf,hr,doReturn,hn,Cw]
  simp
def gF{f:FuncId}{fn:Func}{c:Code}{args:Array Value}{R:Value->World->Prop}(hf:P.funcs[f]? = some fn)(hb:fn.body=some c)
    (h:WC P c (aWd P fn R) { tmps:=args++AY (fn.ntmps-args.size) undef,defers:=[] } v):CX P f args v R:=by
  intro Win hW hv c0 cs hk
  rw[enter_at args hf hb]
  have back:∀(a':Act) (v':World) (todo:List Item),OkV v'->aWd P fn R .ret a' v'->Win (G { (base f).at a' todo with mode:=.returning } (c0::cs)) v':=by
    intro a' v' todo hv' hq;obtain⟨hd,hr⟩:=hq;refine(M.closed hW).step rfl hv' λv1 w he hsim=>?_
    obtain⟨x,hx,hR⟩:=hr v1 he;obtain⟨w',es',h1,h2,h3,h4,h5,h6⟩:=fG _ v1 w #[] x v1 (he.okV hv') hsim hx;refine⟨_,v1,w',_,tA (b:=base f) rfl hd hf h1,⟨h2,h3,h4,h5,λe he'=>h6 e (by have:=mem_seen he';simpa using this)⟩,hk x v1 h3 hR⟩
  refine h Win hW hv (base f) [] (c0::cs) (.inl rfl) λe a' v' hv' hq=>?_
  cases e with
  | normal =>
    refine aM hW rfl hv' (λw=>stepG_end) ?_
    exact back a' v' [] hv' hq
  |ret=>exact λtodo=>back a' v' todo hv' hq
  |exit id=>exact hq.elim
  |goto l=>exact hq.elim
  |panic ch=>exact hq.elim
  |outgrown=>exact hq.elim
end
end
end Go.Am
end
section
open List renaming map_map->E,mapM_map->J
namespace Go.Am
section
variable {P:Program}
def Sem.run_bind{α β:Type}(x:Sem α)(f:α->Sem β)(P:Program)(w:World):aK P (x >>= f) w=(aK P x w).andThen λa w'=>aK P (f a) w':=nD P w x f
def Sem.run_map{α β:Type}(x:Sem α)(f:α->β)(P:Program)(w:World):aK P (f <$> x) w=(aK P x w).andThen λa w'=>.ok (f a) w':=bFb P w x f
def Sem.run_pure{α:Type}(a:α)(P:Program)(w:World):aK P (Pure.pure a:Sem α) w=.ok a w:=rfl
def xS(P:Program)(w:World):aK P program w=.ok P w:=rfl
@[simp]def aAn(P:Program)(w:World)(c:Array Value)(e:TypeId)(f:Nat×Nat):aK P (newObj (.cells c e f)) w=.ok w.heap.size { w with heap:=w.heap.push (.cells c e f) }:=mF P w _ rfl
@[simp]def bYd(P:Program)(w:World)(c:Array MapEntry)(k:Nat):aK P (newObj (.map c k)) w=.ok w.heap.size { w with heap:=w.heap.push (.map c k) }:=mF P w _ rfl
@[simp]def bVs(P:Program)(w:World)(m:Option Nat)(i:Nat)(s:Array Nat)(j:Nat):aK P (newObj (.mapIter m i s j)) w=.ok w.heap.size { w with heap:=w.heap.push (.mapIter m i s j) }:=mF P w _ rfl
def aD{t:TypeId}{d:TypeDesc}(h:P.underlying t=some d)(w:World):aK P (underlying t) w=.ok d w:=by simp[underlying,h]
def pV(w:World)(t:TypeId)(a b:Bool)(h:P.underlying t=some .bool):aK P (Op.equal t (.bool a) (.bool b)) w=.ok (a==b) w:=by unfold Op.equal;rw[show Ec=9999+1 from rfl,DJ];simp[aD h]
def aHt(w:World)(t:TypeId)(a b:Bool)(h:P.underlying t=some .bool):aK P (binOp .eql t (.bool a) (.bool b)) w=.ok (.bool (a==b)) w:=by simp only[binOp];simp[pV w t a b h]
def aHq(w:World)(t:TypeId)(a b:Bool)(h:P.underlying t=some .bool):aK P (binOp .neq t (.bool a) (.bool b)) w=.ok (.bool (!(a==b))) w:=by simp only[binOp];simp[pV w t a b h]
def aAo(w:World)(t:TypeId)(xs ys:Array Value):aK P (binOp .eql t (.agg xs) (.agg ys)) w=(aK P (DJ 10000 t (.agg xs) (.agg ys)) w).andThen λb w'=>.ok (.bool b) w':=by simp only[binOp];simp[Op.equal,Ec]
def aHs(w:World)(ts:Array TypeId)(t:TypeId)(k k':IntKind)(x y:Int):aK P (Builtin.max_ ts t #[.int k x,.int k' y]) w=.ok (.int k (if y>x then y else x)) w:=by simp[Builtin.max_,Builtin.max2]
def aHr(w:World)(ts:Array TypeId)(t:TypeId)(k k':IntKind)(x y:Int):aK P (Builtin.min_ ts t #[.int k x,.int k' y]) w=.ok (.int k (if y<x then y else x)) w:=by simp[Builtin.min_,Builtin.min2]
def bEw(w:World)(t e:TypeId)(i:TypeInfo)(z:Value)(ht:P.underlying t=some (.slice e))(hi:P.info? e=some i)(hz:i.zero=some z)(kl kc:IntKind)(l c:Int)(h0:0<=l)(hlc:l<=c)
    (hb:(i.bytes:Int)*c<=281474976710656) (h63:c<=9223372036854775807):aK P (Instr.makeSlice t (.int kl l) (.int kc c)) w=.ok (.slice (some ⟨w.heap.size,0,none⟩) l.toNat c.toNat) (w.alloc (.cells (madeCells z.cells (c.toNat*i.size)) e)):=by
  have e1:Ah.wrap l=l/\Ah.wrap c=c:=by constructor<;>(rw[IntKind.wrap_i64];omega)
  have e2:¬c<0/\¬(281474976710656<(i.bytes:Int)*c)/\¬l<0/\¬c<l:=by omega
  by_cases hn:c.toNat*i.size=0
  · simp[Instr.makeSlice,aD ht,asInt,asIntOf,typeInfo,hi,sizeOf,e1,e2,hn,newRow,madeCells,Gp]
  · simp[Instr.makeSlice,aD ht,asInt,asIntOf,typeInfo,hi,sizeOf,zeroValue,hz,e1,e2,hn,newRow,madeCells]
def cQ{w:World}{r:Nat}{es:Array MapEntry}{clock:Nat}(hb:w.heap[r]? = some (.map es clock)):aK P (getObj r) w=.ok (.map es clock) w:=by simp[getObj,aK,hb]
def yM{w:World}{r:Nat}{m:Option Nat}{i:Nat}{s:Array Nat}{j:Nat}(hb:w.heap[r]? = some (.mapIter m i s j)):aK P (getObj r) w=.ok (.mapIter m i s j) w:=by simp[getObj,aK,hb]
def iX{w:World}{r:Nat}{es es':Array MapEntry}{clock clock':Nat}(hb:w.heap[r]? = some (.map es clock)):aK P (setObj r (.map es' clock')) w=.ok () { w with heap:=w.heap.setIfInBounds r (.map es' clock') }:=by simp[setObj,aK,hb,okO]
def aDu(w:World)(t k e:TypeId)(bm:Nat)(es:Array MapEntry)(clock:Nat)(ht:P.underlying t=some (.map k e))(hb:w.heap[bm]? = some (.map es clock)) :
    aK P (Instr.range t (.map (some bm))) w=.ok (.pointer (some ⟨w.heap.size,0,none⟩)) (w.alloc (.mapIter (some bm) clock #[] clock)):=by
  simp[Instr.range,aD ht,cQ hb]
def pU{w:World}{kt:TypeId}{d:TypeDesc}{k:Value}{l:List MapEntry}{a:Option (Nat×Value)}(hd:P.underlying kt=some d)(h:GA d k l 0=some a):aK P (Instr.findKey kt k l) w=.ok a w:=by simp[Instr.findKey,aD hd,h]
def nT{w:World}{kt:TypeId}{d:TypeDesc}{k:Value}(hd:P.underlying kt=some d)(hk:Ej d k)(e:Bool)(n:Nat):aK P (Instr.checkKey e (n+1) kt k) w=.ok () w:=by unfold Instr.checkKey;simp only[nD,aD hd,AK];cases d<;>cases k<;>simp_all [Ej]
def wK{w:World}{d:TypeDesc}{k:Value}(hk:Ej d k):aK P (Instr.keyThatStays k k) w=.ok k w:=by simp[Instr.keyThatStays,MapKept.sameBits_self hk]
def aEx{w:World}{a:Addr}{v:Value}(h:w.cell? a=some v):aK P (load a) w=.ok v w:=by simp[load,aK,h]
def aQr{w:World}{a:Addr}{v y:Value}(hv:v.oneCell'=true)(h:w.cell? a=some y)(hf:w.frozen? a=false):aK P (store a v) w=.ok () (w.setCell a v):=by cases v<;>first|(simp[CC]at hv;done)|(simp[store,aK,h,hf])
def mD(w:World)(a:Addr)(f:Nat->Value):∀(n i:Nat) (acc:Array Value),(∀j,j<n->w.cell? (a.add (i+j))=some (f (i+j)))->aK P (loadCellsFrom a i n acc) w=.ok (acc++((AN n).map λj=>f (i+j)).toArray) w
  |0,i,acc,_=>by simp[loadCellsFrom]
  | n+1,i,acc,h=>by have h0:=h 0 (by omega);simp only[B6]at h0;simp only[loadCellsFrom,nD,aEx h0,AK];rw[mD w a f n (i+1) _ λj hj=>by have:=h (j+1) (by omega);rwa [show i+(j+1)=i+1+j from by omega]at this];congr 1;rw[List.range_succ_eq_map];simp only[BO,List.map_map,B6];apply Array.ext';simp[Function.comp_def,Ei,EE 1]
def sP(w:World)(a:Addr)(n:Nat)(f:Nat->Value)(h:∀j,j<n->w.cell? (a.add j)=some (f j)):aK P (loadCells a n) w=.ok ((AN n).map f).toArray w:=by have:=mD (P:=P) w a f n 0 #[] (λj hj=>by simpa using h j hj);simpa[loadCells]using this
def eO(w:World)(size n:Nat)(b:Addr)(len cap:Nat)(cs:List Value)(hl:cs.length=n*size)(h:∀j v,cs[j]? = some v->w.cell? (b.add j)=some v):aK P (Dz size n (.slice (some b) len cap)) w=.ok cs.toArray w:=by
  simp only[Dz];rw[sP w b (n*size) (λj=>cs.getD j undef) λj hj=>by
    have hj':j<cs.length:=by omega
    rw[h j cs[j] (Ab hj')];simp[hj']]
  congr 1;rw[<-hl];apply Array.ext';refine List.ext_getElem (by simp) λj h1 h2=>?_
  simp at h1 h2 ⊢;simp[h2]
def kH(w:World)(size n len cap:Nat):aK P (Dz size n (.slice none len cap)) w=.ok #[] w:=by simp[Dz]
def run_storeCells_at(g o:Nat)(t:TypeId):∀(vs:List Value) (i:Nat) (cur:Array Value) (w:World),w.heap[g]? = some (.cells cur t (0,0))->o+i+vs.length<=cur.size->(∀v∈vs,v.oneCell'=true) ->
    aK P (storeCells ⟨g,o,none⟩ vs i) w=.ok () (w.setRow g (cur.toList.take (o+i)++vs++cur.toList.drop (o+i+vs.length)).toArray):=by
  intro vs i cur w hg hl h1
  have hr:=_root_.Go.run_storeCells_at P g o t vs i cur w hg hl h1
  rw[<-hr]
  clear hr
  induction vs generalizing i cur w with
  |nil=>simp[storeCells]
  | cons v rest ih =>
    have hi:o+i<cur.size:=by simp at hl;omega
    have hadd:(⟨g,o,none⟩:Addr).add i=⟨g,o+i,none⟩:=by unfold Addr.add;split<;>simp_all
    have hcell:w.cell? ⟨g,o+i,none⟩=some cur[o+i]:=by simp[BA,hg,hi]
    have hfro:w.frozen? ⟨g,o+i,none⟩=false:=by simp[Dn,hg]
    have hone:=h1 v (by simp)
    have e1:aK P (store ((⟨g,o,none⟩:Addr).add i) v) w=.ok () (w.setCell ⟨g,o+i,none⟩ v):=by rw[hadd];exact aQr hone hcell hfro
    have e2:(store ((⟨g,o,none⟩:Addr).add i) v).run P w=.ok () (w.setCell ⟨g,o+i,none⟩ v):=by rw[hadd,run_store P w _ v _ hone,hcell];simp[hfro]
    simp only[storeCells,nD,Go.Sem.run_bind,e1,e2,AK]
    refine ih (i+1) (cur.setIfInBounds (o+i) v) _ ?_ (by simp at hl ⊢;omega) λx hx=>h1 x (by simp[hx])
    rw[setCell_eq_setRow w g (o+i) cur t (0,0) v hg]
    exact setRow_heap w g cur _ t _ hg
def pW(w:World)(t ty e:TypeId)(i:TypeInfo)(z:Value)(ht:P.underlying t=some (.slice e))(hi:P.info? e=some i)(hz:i.zero=some z)
    (a:Addr) (n c:Nat) (news:List Value) (hl:news.length=n*i.size) (hnews:∀j v,news[j]? = some v->w.cell? (a.add j)=some v) (h0:0<n) (h63:(n:Int)<=9223372036854775807) (h48:n*i.bytes<=281474976710656) :
    aK P (B0 #[t,t] ty #[.slice none 0 0,.slice (some a) n c]) w=.ok (.slice (some ⟨w.heap.size,0,none⟩) n (grownCap w n 0 e)) (w.drew.alloc (.cells (news.toArray++C7 z.cells (grownCap w n 0 e-n)) e)):=by
  have e1:n≠0/\¬(9223372036854775807<(n:Int)):=by omega
  have e2:¬(281474976710656<EU n 0*i.bytes):=by rw[nextslicecap_zero h0];omega
  have hf:=eO (P:=P) w.drew i.size n a n c news hl (by simpa using hnews)
  simp[B0,aD ht,sizeOf,typeInfo,zeroValue,hi,hz,EM,e1,e2,Fi,kH,hf,newRow,grownCap]
def pB(w:World)(t ty e:TypeId)(i:TypeInfo)(z:Value)(ht:P.underlying t=some (.slice e))(hi:P.info? e=some i)(hz:i.zero=some z)
    (b:Addr) (sLen sCap:Nat) (olds:List Value) (hlo:olds.length=sLen*i.size) (holds:∀j v,olds[j]? = some v->w.cell? (b.add j)=some v)
    (a:Addr) (n c:Nat) (news:List Value) (hl:news.length=n*i.size) (hnews:∀j v,news[j]? = some v->w.cell? (a.add j)=some v)
    (hg:sCap<sLen+n) (h63:((sLen+n:Nat):Int)<=9223372036854775807) (hfit:EU (sLen+n) sCap*i.bytes<=281474976710656) :
    aK P (B0 #[t,t] ty #[.slice (some b) sLen sCap,.slice (some a) n c]) w =
      .ok (.slice (some ⟨w.heap.size,0,none⟩) (sLen+n) (grownCap w (sLen+n) sCap e))
        (w.drew.alloc (.cells (olds.toArray++news.toArray++C7 z.cells (grownCap w (sLen+n) sCap e-(sLen+n))) e)):=by
  have e1:¬(sLen+n<=sCap)/\¬(9223372036854775807<((sLen:Int)+(n:Int)))/\¬(281474976710656<EU (sLen+n) sCap*i.bytes):=by omega
  have hf:=eO (P:=P) w.drew i.size n a n c news hl (by simpa using hnews)
  have hfo:=eO (P:=P) w.drew i.size sLen b sLen sCap olds hlo (by simpa using holds)
  simp[B0,aD ht,sizeOf,typeInfo,zeroValue,hi,hz,EM,e1,Fi,hf,hfo,newRow,grownCap]
  congr 2
  apply Array.ext'
  simp
def yN(w:World)(t ty e:TypeId)(i:TypeInfo)(ht:P.underlying t=some (.slice e))(hi:P.info? e=some i)
    (g sLen sCap:Nat) (cur:Array Value) (hg:w.heap[g]? = some (.cells cur e (0,0)))
    (a:Addr) (m c:Nat) (news:List Value) (hl:news.length=m*i.size) (hnews:∀j u,news[j]? = some u->w.cell? (a.add j)=some u) (h1:∀u∈news,u.oneCell'=true)
    (hroom:sLen+m<=sCap) (hfit:sLen*i.size+news.length<=cur.size) :
    aK P (B0 #[t,t] ty #[.slice (some ⟨g,0,none⟩) sLen sCap,.slice (some a) m c]) w =
      .ok (.slice (some ⟨g,0,none⟩) (sLen+m) sCap) (w.setRow g (cur.toList.take (sLen*i.size)++news++cur.toList.drop (sLen*i.size+news.length)).toArray):=by
  have hf:=eO (P:=P) w i.size m a m c news hl hnews
  have hst:=run_storeCells_at (P:=P) g (sLen*i.size) e news 0 cur w hg (by simpa using hfit) h1
  simp only[B6]at hst
  simp[B0,aD ht,sizeOf,typeInfo,hi,EM,hroom,hf,Addr.add_lit,hst]
def aHu(w:World)(r bm since:Nat)(seen:Array Nat)(es:Array MapEntry)(clock:Nat)(e:MapEntry)
    (hr:w.heap[r]? = some (.mapIter (some bm) since (seen.push e.born) clock)) (hb:w.heap[bm]? = some (.map es clock)) (he:e∈es.toList) (hn:(es.toList.map (·.born)).Nodup) :
    aK P (Instr.entry (.pointer (some ⟨r,0,none⟩))) w=.ok (.tuple #[e.key,e.val]) w:=by
  have hf:es.find? (·.born==e.born)=some e:=by rw[<-Array.find?_toList];exact Go.find_born e es.toList hn he
  simp only[Instr.entry,nD,yM hr,cQ hb,AK,Array.back?_push,bne_self_eq_false,Ae,Az,hf]
  rfl
end
def cv1:Value->AV
 |.bool x=>.d (.b x)
 |.int k n=>.d (.i k n)
 |.slice none 0 0=>.nil
 |v=>.d (.lit v)
def cv:Value->AV
 |.agg cs=>.ag (cs.toList.map cv1)
 |v=>cv1 v
def oev(Γ:Nat->AV):Operand->AV
 |.tmp t=>Γ t
 |.const v=>cv v
 |.global g=>.d (.lit (.pointer (some ⟨g,0,none⟩)))
 |.func f=>.d (.lit (.func (.func f) #[] #[]))
section
variable {F:Nat->Prop} {w:World} {ι:Nat->Option Nat}
def bMl(v:Value):V F w ι (cv1 v) v:=by
 unfold cv1;split
 ·exact .d _ _ (.b _)
 ·exact .d _ _ (.i _ _)
 ·exact .nil
 ·exact .d _ _ (.lit _)
def aJy(cs:Array Value)(k:Nat)(c:AV)(v:Value)(h:(cs.toList.map cv1)[k]? = some c)(h':cs[k]? = some v):V F w ι c v:=by simp only[Ag,Bj,h',AU,Ax]at h;subst h;exact bMl v
def bMm(v:Value):V F w ι (cv v) v:=by
 unfold cv;split
 ·exact .ag _ _ (by simp) (aJy _)
 ·exact bMl _
def cH{Γ:Nat->AV}{a:Act}{x:Operand}(h:∀t,x=.tmp t->V F w ι (Γ t) (a.tmps.getD t undef)):V F w ι (oev Γ x) (a.eval x):=by
 cases x with
 |tmp t=>exact h t rfl
 |const v=>exact bMm v
 |global g=>exact .d _ _ (.lit _)
 |func f=>exact .d _ _ (.lit _)
end
def HR.congrC{G:Ctx}{F:Nat->Prop}{w:World}{ι:Nat->Option Nat}{C C':Nat->Prop}{H:Hp}(h:HR G F w ι C H)(hC:∀id,C id↔C' id):HR G F w ι C' H:=by
 have:C=C':=funext λid=>propext (hC id)
 exact this ▸ h
def HR.weakC{G:Ctx}{F:Nat->Prop}{w:World}{ι:Nat->Option Nat}{C C':Nat->Prop}{H:Hp}(h:HR G F w ι C H)(hC:∀id,C id->C' id):HR G F w ι C' H :=
 ⟨h.kept,h.F_lt,h.F_ok,λid b e=>⟨(h.place id b e).1,(h.place id b e).2.1,λhn=>(h.place id b e).2.2 λx=>hn (hC _ x)⟩,h.obj,
  λid id' b e e' n n'=>h.inj id id' b e e' (λx=>n (hC _ x)) (λx=>n' (hC _ x)),
  λid id' b o o' e e' n=>h.len id id' b o o' e e' (λx=>n (hC _ x))⟩
def Y(P:Program)[M:Mch P](G:Ctx)(o:Oper)(Γ:Nat->AV)(C:Nat->Prop)(H H':Hp)(av:AV)(new con:Nat->Prop):Prop :=
 ∀(F:Nat->Prop) (w:World) (ι:Nat->Option Nat) (a:Act),OkV w->HR G F w ι C H ->
  (∀t,CN t∈o.op.operands->V F w ι (Γ t) (a.tmps.getD t undef))->(∀id,new id->ι id=none) ->
  ∀(next:Act->World->Prop),
   (∀(F':Nat->Prop) (w':World) (ι':Nat->Option Nat) (u:Value),HR G F' w' ι' (λid=>C id\/con id) H'->Step F w ι F' w' ι' ->
    (∀id b,ι' id=some b->ι id=some b\/new id)->(∀id,new id->∃b,ι' id=some b)->V F' w' ι' av u->next (a.put o.dst u) w')->wpX P o a w next
def bD:Nat->Prop:=λ_=>False
def zV{P:Program}[M:Mch P]{G:Ctx}{o:Oper}{Γ:Nat->AV}{C:Nat->Prop}{H:Hp}{av:AV}
  (h:∀(F:Nat->Prop) (w:World) (ι:Nat->Option Nat) (a:Act),HR G F w ι C H->(∀t,CN t∈o.op.operands->V F w ι (Γ t) (a.tmps.getD t undef)) ->
   ∃u,(aK P (execOp a.eval o) w=.ok (.value u) w)/\V F w ι av u):Y P G o Γ C H H av bD bD:=by
 intro F w ι a hok hR hop _ next hn
 obtain⟨u,hr,hv⟩:=h F w ι a hR hop
 unfold wpX
 rw[hr]
 exact hn F w ι u (hR.weakC λ_ h=>.inl h) (.refl _ _ _) (λ_ _ h=>.inl h) (λ_ h=>h.elim) hv
def upd{α:Type}(f:Nat->α)(k:Nat)(x:α):Nat->α:=λj=>if j=k then x else f j
def upd_same{α:Type}(f:Nat->α)(k:Nat)(x:α):upd f k x k=x:=by simp[upd]
def upd_ne{α:Type}(f:Nat->α){k j:Nat}(x:α)(h:j≠k):upd f k x j=f j:=by simp[upd,h]
section
variable {G:Ctx} {F:Nat->Prop} {w:World} {ι:Nat->Option Nat} {C:Nat->Prop} {H:Hp}
def HR.ι_lt(hR:HR G F w ι C H){id b:Nat}(h:ι id=some b):b<w.heap.size:=(hR.place id b h).2.1
structure jG(w:World)(o:Obj)(w1:World):Prop where
 heap:w1.heap=w.heap.push o
 os:w1.os=w.os
 tape:w1.tape=w.tape
 output:w1.output=w.output
def jG.alloc(w:World)(o:Obj):jG w o (w.alloc o):=⟨rfl,rfl,rfl,rfl⟩
def jG.drew(w:World)(o:Obj):jG w o (w.drew.alloc o):=⟨rfl,rfl,rfl,rfl⟩
def jG.old{w w1:World}{o:Obj}(h:jG w o w1)(i:Nat)(hi:i<w.heap.size):w1.heap[i]? = w.heap[i]? := by rw[h.heap,Bx,Ai (by omega)]
def jG.new{w w1:World}{o:Obj}(h:jG w o w1):w1.heap[w.heap.size]? = some o:=by rw[h.heap,Bx,Aq rfl]
def jG.size{w w1:World}{o:Obj}(h:jG w o w1):w1.heap.size=w.heap.size+1:=by rw[h.heap,Array.size_push]
def sZ(hR:HR G F w ι C H)(n:Nat)(hn:ι n=none){o:Obj}{w1:World}(hw:jG w o w1):Step F w ι F w1 (upd ι n (some w.heap.size)) :=
 ⟨λ_ h=>h,λb hb=>hw.old b (hR.F_lt b hb),λid b e=>by
  rw[upd_ne _ _ (λhe=>by rw[he,hn]at e;cases e)];exact e,
 λid b cur e hi hb=>⟨cur,(hw.old b (hR.ι_lt hi)).trans hb,rfl⟩⟩
def CR.step{F':Nat->Prop}{w':World}{ι':Nat->Option Nat}{x:HO}{ob:Obj}(hs:Step F w ι F' w' ι')(h:CR F w ι x ob):CR F' w' ι' x ob:=by
 cases h with
 |cells e cs cur hl h=>exact .cells e cs cur hl λk c hk=>let ⟨u,h1,h2⟩:=h k c hk;⟨u,h1,h2.step hs⟩
 |map k es ents clock hl hst h=>exact .map k es ents clock hl hst λj x hj=>let ⟨en,h1,h2,h3⟩:=h j x hj;⟨en,h1,h2,h3.step hs⟩
 |iter k last es bm since c0 clock seen ents hF hb hold hsc hn hl h hla=>exact .iter k last es bm since c0 clock seen ents (hs.F_le _ hF) ((hs.blk _ hF).trans hb) hold hsc hn hl (λj x hj=>let ⟨en,h1,h2,h3⟩:=h j x hj;⟨en,h1,h2,h3.step hs.F_le hs.blk⟩) λx hx=>let ⟨e1,en,sn,e2,e3,e4,e5⟩:=hla x hx;⟨e1,en,sn,e2,e3,e4,e5.step hs.F_le hs.blk⟩
def HR.alloc(hR:HR G F w ι C H)(n:Nat)(hn:ι n=none){o:Obj}{w1:World}(hw:jG w o w1)(ho:HO)(hH:H n=some ho)(hcr:CR F w1 (upd ι n (some w.heap.size)) ho o) :
  HR G F w1 (upd ι n (some w.heap.size)) C H:=by
 have hs:=sZ hR n hn hw
 have hsz:=hw.size
 have hW:G.W.heap.size<=w.heap.size:=hR.kept.size
 have cases_ι:∀id b,upd ι n (some w.heap.size) id=some b->(id=n/\b=w.heap.size)\/(id≠n/\ι id=some b):=by
  intro id b e;by_cases h:id=n
  ·subst h;rw[upd_same]at e;injection e with e;exact .inl ⟨rfl,e.symm⟩
  ·rw[upd_ne _ _ h]at e;exact .inr ⟨h,e⟩
 refine⟨hR.kept.trans ⟨hw.os,hw.tape,hw.output,by omega,λk hk _=>hw.old k (by omega),λk cur e hk hc=>⟨cur,(hw.old k (by omega)).trans hc,rfl⟩⟩,λb hb=>by have:=hR.F_lt b hb;omega,hR.F_ok,?_,?_,?_,?_⟩
 ·intro id b e
  rcases cases_ι id b e with ⟨_,rfl⟩|⟨_,e⟩
  ·exact⟨.inr hW,by omega,λ_ hF=>by have:=hR.F_lt _ hF;omega⟩
  ·obtain⟨h1,h2,h3⟩:=hR.place id b e
   exact⟨h1,by omega,h3⟩
 ·intro id b x e hx
  rcases cases_ι id b e with ⟨rfl,rfl⟩|⟨_,e⟩
  ·rw[hH]at hx;injection hx with hx;subst hx;exact⟨o,hw.new,hcr⟩
  ·obtain⟨ob,h2,h3⟩:=hR.obj id b x e hx
   exact⟨ob,(hw.old b (hR.ι_lt e)).trans h2,h3.step hs⟩
 ·intro id id' b e e' hc hc'
  rcases cases_ι id b e with ⟨h1,h2⟩|⟨_,h2⟩<;>rcases cases_ι id' b e' with ⟨h1',h2'⟩|⟨_,h2'⟩
  ·rw[h1,h1']
  ·have:=hR.ι_lt h2';omega
  ·have:=hR.ι_lt h2;omega
  ·exact hR.inj id id' b h2 h2' hc hc'
 ·intro id id' b x x' e e' hc hx hx'
  rcases cases_ι id b e with ⟨h1,h2⟩|⟨_,h2⟩<;>rcases cases_ι id' b e' with ⟨h1',h2'⟩|⟨_,h2'⟩
  ·rw[h1]at hx;rw[h1',hx]at hx';injection hx' with h;subst h;exact Ay _
  ·have:=hR.ι_lt h2';omega
  ·have:=hR.ι_lt h2;omega
  ·exact hR.len id id' b x x' h2 h2' hc hx hx'
end
def bNe{P:Program}[M:Mch P]{G:Ctx}{o:Oper}{Γ:Nat->AV}{C:Nat->Prop}{H:Hp}{av:AV}{n:Nat}{ho:HO}(hH:H n=some ho)
  (h:∀(F:Nat->Prop) (w:World) (ι:Nat->Option Nat) (a:Act),(∀t,CN t∈o.op.operands->V F w ι (Γ t) (a.tmps.getD t undef)) ->
   ∃u ob w1,aK P (execOp a.eval o) w=.ok (.value u) w1/\jG w ob w1 /\
    (∀F' w' ι',Step F w ι F' w' ι'->ι' n=some w.heap.size->w'.heap[w.heap.size]? = some ob->CR F' w' ι' ho ob/\V F' w' ι' av u)) :
  Y P G o Γ C H H av (·=n) bD:=by
 intro F w ι a hok hR hop hnew next hn
 obtain⟨u,ob,w1,hr,hw,hv⟩:=h F w ι a hop
 have h0:=hnew n rfl
 have hs:=sZ hR n h0 hw
 obtain⟨hcr,hvv⟩:=hv _ _ _ hs (upd_same _ _ _) hw.new
 unfold wpX
 rw[hr]
 refine hn F _ _ u ((hR.alloc n h0 hw ho hH hcr).weakC λ_ h=>.inl h) hs (λid b e=>?_) (λid h=>⟨_,by subst h;exact upd_same _ _ _⟩) hvv
 by_cases hid:id=n
 ·exact .inr hid
 ·rw[upd_ne _ _ hid]at e;exact .inl e
def one:AV->Bool
 |.d (.b _)|.d (.i _ _)|.d (.sl _)|.nil|.own ..|.ptr ..|.mp _|.fp _|.fd _|.fn ..|.d (.pt _)|.d (.fn _ _)|.d (.iff _ _)=>true
 |.d (.lit v)=>v.oneCell'
 |_=>false
def cY:AV->Option (List AV)
 |.ag cs=>if cs.all one then some cs else none
 |.d (.ag cs)=>if(cs.map AV.d).all one then some (cs.map .d)else none
 |x=>if one x then some [x]else none
def yU:AV->Option (List AV)
 |.ag cs=>some cs
 |.d (.ag cs)=>some (cs.map .d)
 |_=>none
def aXd:AV->Option (List AV)
 |.tp cs=>some cs
 |.d (.tp cs)=>some (cs.map .d)
 |_=>none
section
variable {F:Nat->Prop} {w:World} {ι:Nat->Option Nat}
def bVw{x:AV}{v:Value}(h1:one x=true)(h:V F w ι x v):v.oneCell'=true:=by
 cases h with
 |d x v h=>cases h<;>first|rfl|(simp[one]at h1;done)|simpa[one]using h1
 |ag cs vs hl h=>simp[one]at h1
 |tp cs vs hl h=>simp[one]at h1
 |un=>simp[one]at h1
 |any v=>simp[one]at h1
 |_=>rfl
def cells_one{v:Value}(h:v.oneCell'=true):v.cells=#[v]:=by cases v<;>first|rfl|(simp[CC]at h)
def vX{cs:List D}{vs:Array Value}(h:∀(k:Nat) c v,cs[k]? = some c->vs[k]? = some v->VD F w c v) :
  ∀(k:Nat) c v,(cs.map AV.d)[k]? = some c->vs[k]? = some v->V F w ι c v:=by
 intro k c v hc hv
 rw[Ag]at hc
 obtain⟨d,hd,rfl⟩:=Af.1 hc
 exact .d _ _ (h k d v hd hv)
def xL{x:AV}{v:Value}{cs:List AV}(h:yU x=some cs)(hv:V F w ι x v):∃vs,v=.agg vs/\cs.length=vs.size/\∀(k:Nat) c u,cs[k]? = some c->vs[k]? = some u->V F w ι c u:=by
 unfold yU at h;split at h
 ·injection h with h;subst h;cases hv with|ag _ vs hl hh=>exact⟨vs,rfl,hl,hh⟩
 ·injection h with h;subst h;cases hv with|d _ _ hh=>cases hh with|ag _ vs hl hh=>exact⟨vs,rfl,by simpa using hl,vX hh⟩
 ·cases h
def bXo{x:AV}{v:Value}{cs:List AV}(h:aXd x=some cs)(hv:V F w ι x v):∃vs,v=.tuple vs/\cs.length=vs.size/\∀(k:Nat) c u,cs[k]? = some c->vs[k]? = some u->V F w ι c u:=by
 unfold aXd at h;split at h
 ·injection h with h;subst h;cases hv with|tp _ vs hl hh=>exact⟨vs,rfl,hl,hh⟩
 ·injection h with h;subst h;cases hv with|d _ _ hh=>cases hh with|tp _ vs hl hh=>exact⟨vs,rfl,by simpa using hl,vX hh⟩
 ·cases h
def CV(F:Nat->Prop)(w:World)(ι:Nat->Option Nat)(cs:List AV)(vs:Array Value):Prop :=
 cs.length=vs.size/\(∀(k:Nat) c u,cs[k]? = some c->vs[k]? = some u->V F w ι c u)/\∀u∈vs,u.oneCell'=true
def aDq{cs:List AV}{vs:Array Value}(h1:cs.all one=true)(hl:cs.length=vs.size)(h:∀(k:Nat) c u,cs[k]? = some c->vs[k]? = some u->V F w ι c u):CV F w ι cs vs:=by
 refine⟨hl,h,λu hu=>?_⟩;obtain⟨k,hk,rfl⟩:=EO.1 hu;have hk':k<cs.length:=by omega
 exact bVw (A3.1 h1 _ (Bz hk')) (h k cs[k] vs[k] (Ab hk') (Al hk))
def aCt{x:AV}{v:Value}{cs:List AV}(h:cY x=some cs)(hv:V F w ι x v):CV F w ι cs v.cells:=by
 unfold cY at h;split at h
 ·split at h
  ·rename_i h1;injection h with h;subst h
   cases hv with|ag _ vs hl hh=>exact aDq h1 hl hh
  ·cases h
 ·split at h
  ·rename_i h1;injection h with h;subst h
   cases hv with|d _ _ hh=>cases hh with|ag _ vs hl hh=>exact aDq h1 (by simpa[Value.cells]using hl) (vX hh)
  ·cases h
 ·split at h
  ·rename_i h1;injection h with h;subst h
   have h2:=bVw h1 hv;rw[cells_one h2];exact aDq (by simpa using h1) (by simp) λk c u hc hu=>by
    rcases k with _|k
    ·simp at hc hu;subst hc;subst hu;exact hv
    ·simp at hc
  ·cases h
def CV.get{cs:List AV}{vs:Array Value}(h:CV F w ι cs vs){k:Nat}{c:AV}(hc:cs[k]? = some c):∃u,vs[k]? = some u/\V F w ι c u:=by
 have hk:k<cs.length:=(Ao.1 hc).1;have hk':k<vs.size:=by have:=h.1;omega
 exact⟨vs[k],Al hk',h.2.1 k c _ hc (Al hk')⟩
def CV.step{F':Nat->Prop}{w':World}{ι':Nat->Option Nat}{cs:List AV}{vs:Array Value}(hs:Step F w ι F' w' ι')(h:CV F w ι cs vs):CV F' w' ι' cs vs :=
 ⟨h.1,λk c u hc hu=>(h.2.1 k c u hc hu).step hs,h.2.2⟩
end
def lay(cells:List AV)(off:Nat)(cs:List AV):List AV:=cells.take off++cs++cells.drop (off+cs.length)
def oE{cells cs:List AV}{off:Nat}(h:off+cs.length<=cells.length):(lay cells off cs).length=cells.length:=by simp[lay];omega
def zK{cells cs:List AV}{off:Nat}(h:off+cs.length<=cells.length)(k:Nat) :
  (lay cells off cs)[k]? = if off<=k/\k<off+cs.length then cs[k-off]? else cells[k]? := by
 unfold lay
 by_cases h1:off<=k
 ·by_cases h2:k<off+cs.length
  ·rw[Aq ⟨h1,h2⟩,CQ,AJ (by simp;omega),AZ,De (by omega),AQ (by omega)]
  ·rw[Ai (by omega),AJ (by simp;omega),Bc,AZ,De (by omega),BG]
   congr 1;omega
 ·rw[Ai (by omega),CQ,AQ (by simp;omega),Bt,Aq (by omega)]
def aZu(off:Nat):∀(l:List Value) (j:Nat) (cs:Array Value),off+j+l.length<=cs.size ->
  ((l.zipIdx j).foldl (λcs (p:Value×Nat)=>cs.setIfInBounds (off+p.2) p.1) cs).size=cs.size /\
  ∀k,((l.zipIdx j).foldl (λcs (p:Value×Nat)=>cs.setIfInBounds (off+p.2) p.1) cs)[k]? = if off+j<=k/\k<off+j+l.length then l[k-(off+j)]? else cs[k]? := by
 intro l
 induction l with
 |nil=>intro j cs _;refine⟨rfl,λk=>?_⟩;rw[Ai (by simp only[Aw];omega)];rfl
 | cons v l ih =>
  intro j cs h
  simp only[Ak]at h
  obtain⟨h1,h2⟩:=ih (j+1) (cs.setIfInBounds (off+j) v) (by simp;omega)
  refine⟨by simpa using h1,λk=>?_⟩
  simp only[List.zipIdx_cons,List.foldl_cons]
  rw[h2 k]
  by_cases hk:k=off+j
  ·subst hk
   rw[Ai (by omega),Aq ⟨Ay _,by simp⟩,CU,BX]
   exact Array.getElem?_setIfInBounds_self_of_lt (by omega)
  ·by_cases h3:off+(j+1)<=k/\k<off+(j+1)+l.length
   ·rw[Aq h3,Aq (by simp only[Ak];omega)]
    rw[show k-(off+j)=(k-(off+(j+1)))+1 from by omega,BB]
   ·rw[Ai h3,Ai (by simp only[Ak];omega),AF (by omega)]
def lQ(place:Nat->Option (Nat×Nat))(cells:List AV):List (Nat×AV)->Option (List AV)
 |[]=>some cells
 | (i,x)::rest =>
  match place i,cY x with
  |some (off,size),some cs=>if cs.length=size/\off+cs.length<=cells.length then lQ place (lay cells off cs) rest else none
  |_,_=>none
section
variable {F:Nat->Prop} {w:World} {ι:Nat->Option Nat}
def cBf{cells cs:List AV}{vs us:Array Value}{off:Nat}(h:CV F w ι cells vs)(hc:CV F w ι cs us)(hf:off+cs.length<=cells.length) :
  CV F w ι (lay cells off cs) (us.zipIdx.foldl (λcs (p:Value×Nat)=>cs.setIfInBounds (off+p.2) p.1) vs):=by
 have hl:=h.1
 have hl':=hc.1
 obtain⟨h1,h2⟩:=aZu off us.toList 0 vs (by simp;omega)
 have he:(us.zipIdx.foldl (λcs (p:Value×Nat)=>cs.setIfInBounds (off+p.2) p.1) vs)=((us.toList.zipIdx 0).foldl (λcs (p:Value×Nat)=>cs.setIfInBounds (off+p.2) p.1) vs):=by rw[<-Array.foldl_toList];simp
 rw[he]
 simp only[B6,BK]at h2
 refine⟨by rw[oE hf,h1];exact hl,λk c u hk hu=>?_,λu hu=>?_⟩
 ·rw[zK hf]at hk
  rw[h2 k]at hu
  by_cases hx:off<=k/\k<off+cs.length
  ·rw[Aq hx]at hk
   rw[Aq (by omega)]at hu
   exact hc.2.1 _ _ _ hk (by simpa using hu)
  ·rw[Ai hx]at hk
   rw[Ai (by omega)]at hu
   exact h.2.1 _ _ _ hk hu
 ·obtain⟨k,hk,rfl⟩:=EO.1 hu
  have hu':=h2 k
  rw[Al hk]at hu'
  by_cases hx:off<=k/\k<off+us.size
  ·rw[Aq hx]at hu'
   exact hc.2.2 _ (by have:=Aj hu'.symm;simpa using this)
  ·rw[Ai hx]at hu'
   exact h.2.2 _ (BZ hu'.symm)
def aJd(place:Nat->Option (Nat×Nat)):∀(parts:List (Nat×AV)) (vals:List (Nat×Value)) (cells:List AV) (vs:Array Value) (out:List AV),CV F w ι cells vs ->
  parts.length=vals.length->(∀(k:Nat) p q,parts[k]? = some p->vals[k]? = some q->p.1=q.1/\V F w ι p.2 q.2)->lQ place cells parts=some out ->
  ∃us,Instr.fill place vs vals=some us/\CV F w ι out us
 | [],[],cells,vs,out,h,_,_,he=>by simp only[lQ,Ax]at he;subst he;exact⟨vs,rfl,h⟩
 | (i,x)::rest,(i',v)::vals,cells,vs,out,h,hl,hp,he=>by
  obtain⟨hi,hv⟩:=hp 0 _ _ rfl rfl;simp only at hi hv;subst hi;simp only[lQ]at he;cases hpl:place i with
  |none=>simp[hpl]at he
  | some os =>
   obtain⟨off,size⟩:=os;cases hcs:cY x with
   |none=>simp[hpl,hcs]at he
   | some cs =>
    simp only[hpl,hcs]at he;split at he
    ·rename_i hx;have hc:=aCt hcs hv;have hcl:=hc.1;have hsz:=h.1;obtain⟨us,hu,hcv⟩:=aJd place rest vals _ _ out (cBf h hc hx.2) (by simpa using hl) (λk p q a b=>hp (k+1) p q (by simpa using a) (by simpa using b)) he;refine⟨us,?_,hcv⟩;simp only[Instr.fill,hpl];have h3:(decide (v.cells.size≠size)||decide (off+v.cells.size>vs.size))=false:=by simp;omega
     rw[h3];exact hu
    ·cases he
 |[],_::_,_,_,_,_,hl,_,_=>by simp at hl
 |_::_,[],_,_,_,_,hl,_,_=>by simp at hl
end
def eM(P:Program)(t:TypeId):Option (List (Nat×Nat)) :=
 match P.underlying t with
 |some (.struct fs)=>fs.toList.mapM λf=>(P.info? f.type).map λi=>(f.offset,i.size)
 |_=>none
def tsz(P:Program)(t:TypeId):Option Nat:=(P.info? t).map (·.size)
def tby(P:Program)(t:TypeId):Option Nat:=(P.info? t).map (·.bytes)
def tz(P:Program)(t:TypeId):Option Value:=(P.info? t).bind (·.zero)
def cA(P:Program)(t:TypeId):Option Bool:=(P.underlying t).map λ|.struct _|.array _ _=>true|_=>false
def tel(P:Program)(t:TypeId):Option TypeId:=match P.underlying t with|some (.slice e)=>some e|_=>none
def yJ(P:Program)(t:TypeId):Option (Nat×TypeId):=match P.underlying t with|some (.array n e)=>some (n,e)|_=>none
def bDa(P:Program)(s:TypeId)(f:Nat):Option (Nat×Bool×Nat):=match P.underlying s with|some (.struct fs)=>(fs[f]?).bind λg=>(cA P g.type).bind λa=>(tsz P g.type).map λz=>(g.offset,a,z)|_=>none
def fD(P:Program)(t:TypeId):Option IntKind:=match P.underlying t with|some (.int k)=>some k|_=>none
def tmp(P:Program)(t:TypeId):Option (TypeId×TypeId):=match P.underlying t with|some (.map k e)=>some (k,e)|_=>none
section
variable {P:Program} (w:World)
def run_sizeOf{t:TypeId}{n:Nat}(h:tsz P t=some n):aK P (sizeOf t) w=.ok n w:=by obtain⟨i,hi,rfl⟩:=Af.1 h;simp[sizeOf,typeInfo,hi]
def fO{t:TypeId}{z:Value}(h:tz P t=some z):aK P (zeroValue t) w=.ok z w:=by obtain⟨i,hi,hz⟩:=Ad.1 h;simp[zeroValue,typeInfo,hi,hz]
def kW{t:TypeId}{x:Bool}(h:cA P t=some x):aK P (isAgg t) w=.ok x w:=by obtain⟨d,hd,hx⟩:=Af.1 h;subst hx;cases d<;>simp[isAgg,aD hd]
def oX:∀(fs:List Field) (ps:List (Nat×Nat)),(fs.mapM λf=>(P.info? f.type).map λi=>(f.offset,i.size))=some ps ->
  aK P (fs.mapM (m:=Sem) λf=>do pure (f.offset,<-sizeOf f.type)) w=.ok ps w
 |[],ps,h=>by simp at h;subst h;simp
 | f::fs,ps,h=>by simp only[Cp,C2,Ad,DK,Ax]at h;obtain⟨p,hp,r,hr,rfl⟩:=h;obtain⟨i,hi,rfl⟩:=Af.1 hp;have ih:=oX fs r hr;simp only[Cp,Sem.run_bind,run_sizeOf w (show tsz P f.type=some i.size by simp[tsz,hi]),AK,Sem.run_pure,ih]
def aLa{t:TypeId}{ps:List (Nat×Nat)}(h:eM P t=some ps):∃fs,P.underlying t=some (.struct fs) /\
  aK P (fs.mapM (m:=Sem) λf=>do pure (f.offset,<-sizeOf f.type)) w=.ok ps.toArray w/\(fs.toList.mapM λf=>(P.info? f.type).map λi=>(f.offset,i.size))=some ps:=by
 unfold eM at h
 split at h
 ·rename_i fs hu
  refine⟨fs,hu,?_,h⟩
  rw[Array.mapM_eq_mapM_toList,Sem.run_map,oX w _ _ h]
  rfl
 ·cases h
end
def arith(op:BinOp)(k:IntKind)(a b:Int):Option D :=
 match op with
 |.add=>some (.i k (k.wrap (a+b)))
 |.sub=>some (.i k (k.wrap (a-b)))
 |.mul=>some (.i k (k.wrap (a*b)))
 |.quo=>if b=0 then none else some (.i k (k.wrap (a.tdiv b)))
 |.rem=>if b=0 then none else some (.i k (a.tmod b))
 |.and=>some (.i k (bits .and k a b))
 |.or=>some (.i k (bits .or k a b))
 |.xor=>some (.i k (bits .xor k a b))
 |.andNot=>some (.i k (bits .andNot k a b))
 |.eql=>some (.b (a==b))
 |.neq=>some (.b (a != b))
 |.lss=>some (.b (decide (a<b)))
 |.leq=>some (.b (decide (a<=b)))
 |.gtr=>some (.b (decide (b<a)))
 |.geq=>some (.b (decide (b<=a)))
 |_=>none
def dT(op:BinOp)(k:IntKind)(a b:Int):Option D :=
 if b<0 then none else
 match op with
 |.shl=>some (.i k (k.wrap (a*2^(min b.toNat k.bits))))
 |.shr=>some (.i k (a.fdiv (2^(min b.toNat k.bits))))
 |_=>none
def dG(op:BinOp)(boolT:Bool)(x y:AV):Option D :=
 match x,y with
 |.d (.i k a),.d (.i k' b)=>if op=.shl\/op=.shr then dT op k a b else if k=k' then arith op k a b else none
 |.d (.b p),.d (.b q)=>if boolT then(match op with|.eql=>some (.b (p==q))|.neq=>some (.b (!(p==q)))|_=>none)else none
 |_,_=>none
def unA(op:UnOp)(x:AV):Option D :=
 match op,x with
 |.not,.d (.b p)=>some (.b !p)
 |.neg,.d (.i k a)=>some (.i k (k.wrap (0-a)))
 |.xor,.d (.i k a)=>some (.i k (bits .xor k (if k.signed then -1 else k.max) a))
 |_,_=>none
def bL(P:Program)(t:TypeId):Bool:=match P.underlying t with|some .bool=>true|_=>false
section
variable {P:Program} {F:Nat->Prop} {w:World} {ι:Nat->Option Nat}
def aLd{op:BinOp}{t:TypeId}{x y:AV}{u v:Value}{r:D}(h:dG op (bL P t) x y=some r)(hx:V F w ι x u)(hy:V F w ι y v)(ox oy:Operand) :
  ∃z,(aK P (eqGuard op t ox oy u v) w=.ok () w/\aK P (binOp op t u v) w=.ok z w)/\VD F w r z:=by
 unfold dG at h
 split at h
 ·rename_i k a k' b
  cases hx with|d _ _ hx=>cases hx with|i =>
  cases hy with|d _ _ hy=>cases hy with|i =>
  by_cases hs:op=.shl\/op=.shr
  ·rw[Aq hs]at h
   unfold dT at h
   by_cases hb:b<0
   ·simp[hb]at h
   ·rw[Ai hb]at h
    rcases hs with rfl|rfl<;>simp only[Ax]at h<;>subst h
    ·exact⟨_,⟨by simp[eqGuard_shl],by simp[binOp_shl,Op.shift,hb]⟩,.i _ _⟩
    ·exact⟨_,⟨by simp[eqGuard_shr],by simp[binOp_shr,Op.shift,hb]⟩,.i _ _⟩
  ·rw[Ai hs]at h
   by_cases hk:k=k'
   ·subst hk
    rw[Aq rfl]at h
    have hg:aK P (eqGuard op t ox oy (.int k a) (.int k b)) w=.ok () w:=by rw[eqGuard_at_int];simp
    cases op<;>simp only[arith,Ax]at h<;>try (cases h;done)
    case quo =>
     by_cases hb:b=0
     ·simp[hb]at h
     ·simp only[hb,Az,Ax]at h;subst h
      exact⟨_,⟨hg,by simp[binOp_quo,Op.intDiv,hb]⟩,.i _ _⟩
    case rem =>
     by_cases hb:b=0
     ·simp[hb]at h
     ·simp only[hb,Az,Ax]at h;subst h
      exact⟨_,⟨hg,by simp[binOp_rem,Op.intDiv,hb]⟩,.i _ _⟩
    case add=>subst h;exact⟨_,⟨hg,by simp[binOp_add,Op.intArith]⟩,.i _ _⟩
    case sub=>subst h;exact⟨_,⟨hg,by simp[binOp_sub,Op.intArith]⟩,.i _ _⟩
    case mul=>subst h;exact⟨_,⟨hg,by simp[binOp_mul,Op.intArith]⟩,.i _ _⟩
    case and=>subst h;exact⟨_,⟨hg,by simp[binOp_and,intBits_and]⟩,.i _ _⟩
    case or=>subst h;exact⟨_,⟨hg,by simp[binOp_or,intBits_or]⟩,.i _ _⟩
    case xor=>subst h;exact⟨_,⟨hg,by simp[binOp_xor,intBits_xor]⟩,.i _ _⟩
    case andNot=>subst h;exact⟨_,⟨hg,by simp[binOp_andNot,intBits_andNot]⟩,.i _ _⟩
    case eql=>subst h;exact⟨_,⟨hg,by simp[binOp_eql]⟩,.b _⟩
    case neq=>subst h;exact⟨_,⟨hg,by simp[binOp_neq]⟩,.b _⟩
    case lss=>subst h;exact⟨_,⟨hg,by simp[binOp_lss]⟩,.b _⟩
    case leq=>subst h;exact⟨_,⟨hg,by simp[binOp_leq]⟩,.b _⟩
    case gtr=>subst h;exact⟨_,⟨hg,by simp[binOp_gtr]⟩,.b _⟩
    case geq=>subst h;exact⟨_,⟨hg,by simp[binOp_geq]⟩,.b _⟩
   ·rw[Ai hk]at h;cases h
 ·rename_i p q
  cases hx with|d _ _ hx=>cases hx with|b =>
  cases hy with|d _ _ hy=>cases hy with|b =>
  by_cases ht:bL P t=true
  ·rw[Aq ht]at h
   have hu:P.underlying t=some .bool:=by
    unfold bL at ht;split at ht
    ·assumption
    ·cases ht
   have hg:aK P (eqGuard op t ox oy (.bool p) (.bool q)) w=.ok () w:=by rw[eqGuard_at_bool];simp
   split at h
   ·injection h with h;subst h;exact⟨_,⟨hg,aHt w t p q hu⟩,.b _⟩
   ·injection h with h;subst h;exact⟨_,⟨hg,aHq w t p q hu⟩,.b _⟩
   ·cases h
  ·rw[Ai ht]at h;cases h
 ·cases h
def bPf{op:UnOp}{x:AV}{u:Value}{r:D}(h:unA op x=some r)(hx:V F w ι x u):∃z,aK P (Op.unary op u) w=.ok z w/\VD F w r z:=by
 unfold unA at h;split at h
 ·injection h with h;subst h
  cases hx with|d _ _ hx=>cases hx with|b=>exact⟨_,by simp[unary_not],.b _⟩
 ·injection h with h;subst h
  cases hx with|d _ _ hx=>cases hx with|i=>exact⟨_,by simp[unary_neg,Op.intArith],.i _ _⟩
 ·injection h with h;subst h
  cases hx with|d _ _ hx=>cases hx with|i=>exact⟨_,by simp[unary_xor,intBits_xor],.i _ _⟩
 ·cases h
def fE{t e:TypeId}(h:tel P t=some e):P.underlying t=some (.slice e):=by
 unfold tel at h;split at h
 ·injection h with h;subst h;assumption
 ·cases h
def xZ(w:World)(d:Nat)(t e:TypeId)(a:Option Addr)(n c n' c':Nat)(h:P.underlying t=some (.slice e)):aK P (DJ (d+1) t (.slice a n c) (.slice none n' c')) w=.ok a.isNone w:=by cases a<;>simp[DJ,aD h]
def bTo(w:World)(t e:TypeId)(a:Option Addr)(n c n' c':Nat)(h:P.underlying t=some (.slice e))(ox oy:Operand) :
  (aK P (eqGuard .eql t ox oy (.slice a n c) (.slice none n' c')) w=.ok () w/\aK P (binOp .eql t (.slice a n c) (.slice none n' c')) w=.ok (.bool a.isNone) w) /\
  (aK P (eqGuard .neq t ox oy (.slice a n c) (.slice none n' c')) w=.ok () w/\aK P (binOp .neq t (.slice a n c) (.slice none n' c')) w=.ok (.bool (!a.isNone)) w):=by
 refine⟨⟨by rw[eqGuard_at_slice];simp,?_⟩,⟨by rw[eqGuard_at_slice];simp,?_⟩⟩
 ·simp only[binOp];simp[Op.equal,Ec,xZ w 9999 t e a n c n' c' h]
 ·simp only[binOp];simp[Op.equal,Ec,xZ w 9999 t e a n c n' c' h]
end
def tai(P:Program)(t:TypeId):Option IntKind:=match P.underlying t with
 |some (.array 2 e)=>if tsz P e=some 1 then fD P e else none
 |_=>none
def bVb(op:BinOp)(tk:Option IntKind)(x y:AV):Option D:=match op,tk with
 | .eql,some k=>(yU x).bind λcs=>(yU y).bind λds=>match cs,ds with
  |[.d (.i k1 a),.d (.i k2 b)],[.d (.i k3 c),.d (.i k4 d)]=>if k1=k/\k2=k/\k3=k/\k4=k then some (.b (a==c&&b==d))else none
  |_,_=>none
 |_,_=>none
def bPi{P:Program}(w:World){t e:TypeId}{k:IntKind}(ht:P.underlying t=some (.array 2 e))(he:P.underlying e=some (.int k))(hs:tsz P e=some 1)(a b c d:Int)(ox oy:Operand) :
  aK P (eqGuard .eql t ox oy (.agg #[.int k a,.int k b]) (.agg #[.int k c,.int k d])) w=.ok () w/\aK P (binOp .eql t (.agg #[.int k a,.int k b]) (.agg #[.int k c,.int k d])) w=.ok (.bool (a==c&&b==d)) w:=by
 have p0:∀(x y:Int),aK P (part e #[.int k x,.int k y] 0) w=.ok (.int k x) w:=λx y=>by simp[part,isAgg,aD he]
 have p1:∀(x y:Int),aK P (part e #[.int k x,.int k y] 1) w=.ok (.int k y) w:=λx y=>by simp[part,isAgg,aD he]
 have q:∀(n:Nat) (x y:Int),aK P (DR (n+1) e (.int k x) (.int k y)) w=.ok false w:=λn x y=>by simp[DR,aD he]
 have r:∀(n:Nat) (x y:Int),aK P (DJ (n+1) e (.int k x) (.int k y)) w=.ok (x==y) w:=λn x y=>by simp[DJ,aD he]
 have q':=q 9998
 have r':=r 9998
 constructor
 ·have h0:aK P (DR Ec t (.agg #[.int k a,.int k b]) (.agg #[.int k c,.int k d])) w=.ok false w:=by rw[show Ec=9998+2 from rfl,DR];simp[Sem.run_bind,aD ht,AK,run_sizeOf w hs,EV,Std.Legacy.Range.size,DX,p0,p1,q']
  simp only[eqGuard]
  cases P.eqGuardType P.depth t<;>simp[h0]
 ·rw[aAo]
  rw[show 10000=9998+2 from rfl,DJ]
  cases h1:(a==c)<;>cases h2:(b==d)<;>simp[Sem.run_bind,aD ht,AK,run_sizeOf w hs,EV,Std.Legacy.Range.size,DX,p0,p1,r',h1,h2]
def bEy{P:Program}{F:Nat->Prop}{w:World}{ι:Nat->Option Nat}{op:BinOp}{t:TypeId}{x y:AV}{u v:Value}{r:D}(h:bVb op (tai P t) x y=some r)(hx:V F w ι x u)(hy:V F w ι y v)(ox oy:Operand) :
  ∃z,(aK P (eqGuard op t ox oy u v) w=.ok () w/\aK P (binOp op t u v) w=.ok z w)/\VD F w r z:=by
 unfold bVb at h
 split at h
 case h_2=>cases h
 rename_i k ht
 unfold tai at ht
 split at ht
 case h_2=>cases ht
 rename_i e hu
 split at ht
 case isFalse=>cases ht
 rename_i hs
 have he:P.underlying e=some (.int k):=by
  unfold fD at ht;split at ht
  ·injection ht with ht;subst ht;assumption
  ·cases ht
 obtain⟨cs,hcs,h1⟩:=Ad.1 h
 obtain⟨ds,hds,h2⟩:=Ad.1 h1
 clear h h1
 obtain⟨us,rfl,hul,huv⟩:=xL hcs hx
 obtain⟨vs,rfl,hvl,hvv⟩:=xL hds hy
 split at h2
 case h_2=>cases h2
 rename_i k1 a k2 b k3 c k4 d
 split at h2
 case isFalse=>cases h2
 rename_i hk
 obtain⟨rfl,rfl,rfl,rfl⟩:=hk
 injection h2 with h2;subst h2
 have two:∀(l:Array Value) (k:IntKind) (a b:Int),2=l.size->(∀(i:Nat) c u,[AV.d (.i k a),AV.d (.i k b)][i]? = some c->l[i]? = some u->V F w ι c u)->l=#[.int k a,.int k b]:=by
  intro l k a b hl h;have h0:=h 0 _ l[0] rfl (Al (by omega));have h1:=h 1 _ l[1] rfl (Al (by omega));apply Array.ext
  ·simp;omega
  ·intro i hi hj;rcases i with _|_|i
   ·generalize l[0]=q at h0;cases h0 with|d _ _ h0=>cases h0;rfl
   ·generalize l[1]=q at h1;cases h1 with|d _ _ h1=>cases h1;rfl
   ·omega
 have e1:=two us _ a b hul huv
 have e2:=two vs _ c d hvl hvv
 subst e1;subst e2
 exact⟨_,bPi w hu he hs a b c d ox oy,.b _⟩
def tst(P:Program)(t:TypeId):Bool:=match P.underlying t with
 | some (.struct fs)=>match fs.toList with
  | [f,g]=>f.offset == 0 && g.offset == 1 && f.name != "_" && g.name != "_" && !P.stoodInHeld t && (fD P f.type).isSome && tsz P g.type == some 2 && !P.stoodInHeld g.type && (match P.underlying g.type with
   | some (.struct gs)=>match gs.toList with
    | [p,q]=>p.offset == 0 && q.offset == 1 && p.name != "_" && q.name != "_" && (fD P p.type).isSome && (fD P q.type).isSome
    |_=>false
   |_=>false)
  |_=>false
 |_=>false
def bVa(op:BinOp)(tk:Bool)(x y:AV):Option D:=match op,tk with
 | .neq,true=>(yU x).bind λcs=>(yU y).bind λds=>match cs,ds with
  |[.d (.i k1 a),.d (.i k2 b),.d (.i k3 c)],[.d (.i l1 d),.d (.i l2 e),.d (.i l3 f)]=>if k1=l1/\k2=l2/\k3=l3 then some (.b (!(a==d&&(b==e&&c==f))))else none
  |_,_=>none
 |_,_=>none
def aAb{P:Program}{t:TypeId}(h:(fD P t).isSome=true):∃k,P.underlying t=some (.int k):=by
 unfold fD at h;split at h
 ·rename_i k hk;exact⟨k,hk⟩
 ·cases h
def bEu{P:Program}(w:World){t:TypeId}(ht:tst P t=true)(k1 k2 k3:IntKind)(a b c d e f:Int)(ox oy:Operand) :
  aK P (eqGuard .neq t ox oy (.agg #[.int k1 a,.int k2 b,.int k3 c]) (.agg #[.int k1 d,.int k2 e,.int k3 f])) w=.ok () w/\aK P (binOp .neq t (.agg #[.int k1 a,.int k2 b,.int k3 c]) (.agg #[.int k1 d,.int k2 e,.int k3 f])) w=.ok (.bool (!(a==d&&(b==e&&c==f)))) w:=by
 unfold tst at ht
 split at ht
 case h_2=>cases ht
 rename_i fs hu
 split at ht
 case h_2=>cases ht
 rename_i F G hfs
 simp only[A8,C3,bne_iff_ne,C8]at ht
 obtain⟨⟨⟨⟨⟨⟨⟨⟨f0,g0⟩,fn⟩,gn⟩,hst⟩,hF⟩,hsz⟩,hsg⟩,hg⟩:=ht
 split at hg
 case h_2=>cases hg
 rename_i gs hug
 split at hg
 case h_2=>cases hg
 rename_i p q hgs
 simp only[A8,C3,bne_iff_ne]at hg
 obtain⟨⟨⟨⟨⟨p0,q0⟩,pn⟩,qn⟩,hp⟩,hq⟩:=hg
 obtain⟨kF,hF⟩:=aAb hF
 obtain⟨kp,hp⟩:=aAb hp
 obtain⟨kq,hq⟩:=aAb hq
 have hfs':fs=#[F,G]:=by rw[<-hfs]
 have hgs':gs=#[p,q]:=by rw[<-hgs]
 subst hfs' hgs'
 have pF:∀(x y z:Value),aK P (part F.type #[x,y,z] F.offset) w=.ok x w:=λx y z=>by simp[part,isAgg,aD hF,f0]
 have pG:∀(x y z:Value),aK P (part G.type #[x,y,z] G.offset) w=.ok (.agg #[y,z]) w:=λx y z=>by simp[part,isAgg,aD hug,g0,run_sizeOf w hsz]
 have pp:∀(x y:Value),aK P (part p.type #[x,y] p.offset) w=.ok x w:=λx y=>by simp[part,isAgg,aD hp,p0]
 have pq:∀(x y:Value),aK P (part q.type #[x,y] q.offset) w=.ok y w:=λx y=>by simp[part,isAgg,aD hq,q0]
 have gI:∀(n:Nat) (T:TypeId) (k:IntKind) (hT:P.underlying T=some (.int k)) (k':IntKind) (x y:Int),aK P (DR (n+1) T (.int k' x) (.int k' y)) w=.ok false w:=λn T k hT k' x y=>by simp[DR,aD hT]
 have eI:∀(n:Nat) (T:TypeId) (k:IntKind) (hT:P.underlying T=some (.int k)) (k':IntKind) (x y:Int),aK P (DJ (n+1) T (.int k' x) (.int k' y)) w=.ok (x==y) w:=λn T k hT k' x y=>by simp[DJ,aD hT]
 have gG:∀(n:Nat),aK P (DR (n+2) G.type (.agg #[.int k2 b,.int k3 c]) (.agg #[.int k2 e,.int k3 f])) w=.ok false w:=λn=>by rw[DR];simp[Sem.run_bind,aD hug,AK,pp,pq,pn,qn,gI n p.type kp hp,gI n q.type kq hq]
 have eG:∀(n:Nat),aK P (DJ (n+2) G.type (.agg #[.int k2 b,.int k3 c]) (.agg #[.int k2 e,.int k3 f])) w=.ok (b==e&&c==f) w:=λn=>by rw[DJ];cases h1:(b==e)<;>cases h2:(c==f)<;>simp[Sem.run_bind,aD hug,AK,pp,pq,pn,qn,hsg,eI n p.type kp hp,eI n q.type kq hq,h1,h2]
 constructor
 ·have h0:aK P (DR Ec t (.agg #[.int k1 a,.int k2 b,.int k3 c]) (.agg #[.int k1 d,.int k2 e,.int k3 f])) w=.ok false w:=by rw[show Ec=9997+3 from rfl,DR];simp[Sem.run_bind,aD hu,AK,pF,pG,fn,gn,gI 9998 F.type kF hF,gG 9997]
  simp only[eqGuard]
  cases P.eqGuardType P.depth t<;>simp[h0]
 ·have h1:aK P (DJ Ec t (.agg #[.int k1 a,.int k2 b,.int k3 c]) (.agg #[.int k1 d,.int k2 e,.int k3 f])) w=.ok (a==d&&(b==e&&c==f)) w:=by rw[show Ec=9997+3 from rfl,DJ];cases h1:(a==d)<;>cases h2:(b==e)<;>cases h3:(c==f)<;>simp[Sem.run_bind,aD hu,AK,pF,pG,fn,gn,hst,eI 9998 F.type kF hF,eG 9997,h1,h2,h3]
  simp only[binOp]
  simp[Op.equal,h1]
def bEx{P:Program}{F:Nat->Prop}{w:World}{ι:Nat->Option Nat}{op:BinOp}{t:TypeId}{x y:AV}{u v:Value}{r:D}(h:bVa op (tst P t) x y=some r)(hx:V F w ι x u)(hy:V F w ι y v)(ox oy:Operand) :
  ∃z,(aK P (eqGuard op t ox oy u v) w=.ok () w/\aK P (binOp op t u v) w=.ok z w)/\VD F w r z:=by
 unfold bVa at h
 split at h
 case h_2=>cases h
 rename_i ht
 obtain⟨cs,hcs,h1⟩:=Ad.1 h
 obtain⟨ds,hds,h2⟩:=Ad.1 h1
 clear h h1
 obtain⟨us,rfl,hul,huv⟩:=xL hcs hx
 obtain⟨vs,rfl,hvl,hvv⟩:=xL hds hy
 split at h2
 case h_2=>cases h2
 rename_i k1 a k2 b k3 c l1 d l2 e l3 f
 split at h2
 case isFalse=>cases h2
 rename_i hk
 obtain⟨rfl,rfl,rfl⟩:=hk
 injection h2 with h2;subst h2
 have three:∀(l:Array Value) (k1 k2 k3:IntKind) (a b c:Int),3=l.size->(∀(i:Nat) c' u,[AV.d (.i k1 a),AV.d (.i k2 b),AV.d (.i k3 c)][i]? = some c'->l[i]? = some u->V F w ι c' u)->l=#[.int k1 a,.int k2 b,.int k3 c]:=by
  intro l k1 k2 k3 a b c hl h;have h0:=h 0 _ l[0] rfl (Al (by omega));have h1:=h 1 _ l[1] rfl (Al (by omega));have h2:=h 2 _ l[2] rfl (Al (by omega));apply Array.ext
  ·simp;omega
  ·intro i hi hj;rcases i with _|_|_|i
   ·generalize l[0]=q at h0;cases h0 with|d _ _ h0=>cases h0;rfl
   ·generalize l[1]=q at h1;cases h1 with|d _ _ h1=>cases h1;rfl
   ·generalize l[2]=q at h2;cases h2 with|d _ _ h2=>cases h2;rfl
   ·omega
 have e1:=three us _ _ _ a b c hul huv
 have e2:=three vs _ _ _ d e f hvl hvv
 subst e1;subst e2
 exact⟨_,bEu w ht k1 k2 k3 a b c d e f ox oy,.b _⟩
def aBn:AV->Option (Option Bool)
 |.nil=>some (some true)
 |.own ..=>some (some false)
 |.d (.sl [])|.fd []=>some none
 |.d (.sl _)|.fd _=>some (some false)
 |_=>none
def bRi(op:BinOp)(b:Option Bool):Option AV :=
 match op,b with
 |.eql,some t=>some (.d (.b t))
 |.neq,some t=>some (.d (.b !t))
 |.eql,none=>some .ub
 |.neq,none=>some .ub
 |_,_=>none
def aZb(op:BinOp)(te:Option TypeId)(x y:AV):Option AV :=
 match te,y with
 |some _,.nil=>(aBn x).bind (bRi op)
 |_,_=>none
def fH(sz:Nat)(els:List (List D)):Bool:=match els.head? with|some cs=>cs.length==sz|none=>true
def iI(sz:Nat)(x:AV)(l h:Int)(full:Bool):Option AV :=
 if 0<=l/\l<=h then
  match x with
  |.d (.sl els)|.fd els=>if h<=els.length/\fH sz els=true then some (if full then .fd ((els.take h.toNat).drop l.toNat)else .d (.sl ((els.take h.toNat).drop l.toNat)))else none
  |.nil=>if h<=0 then some (.d (.sl []))else none
  |.own id off len sz'=>if h<=len/\sz'=sz then(if l=h then some (.d (.sl []))else some (.own id (off+l.toNat) (h-l).toNat sz))else none
  |_=>none
 else none
def aEd:AV->Option Int
 |.d (.sl els)=>some els.length
 |.fd els=>some els.length
 |.nil=>some 0
 |.own _ _ len _=>some len
 |_=>none
section
variable {P:Program} {F:Nat->Prop} {w:World} {ι:Nat->Option Nat}
def bHw{x:AV}{v:Value}{b:Option Bool}(h:aBn x=some b)(hv:V F w ι x v):∃ad n c,v=.slice ad n c/\(b=none\/b=some ad.isNone):=by
 unfold aBn at h;split at h<;>first|(cases h;done)|(injection h with h;subst h)
 ·cases hv;exact⟨_,_,_,rfl,.inr rfl⟩
 ·cases hv;exact⟨_,_,_,rfl,.inr rfl⟩
 ·cases hv with|d _ _ hv=>cases hv with
  |sl0=>exact⟨_,_,_,rfl,.inl rfl⟩
  |sl=>exact⟨_,_,_,rfl,.inl rfl⟩
 ·cases hv;exact⟨_,_,_,rfl,.inl rfl⟩
 ·rename_i els hne;cases hv with|d _ _ hv=>cases hv with
  |sl0=>exact(hne rfl).elim
  |sl=>exact⟨_,_,_,rfl,.inr rfl⟩
 ·rename_i els hne;cases hv with|fd _ ad n hv=>cases hv with
  |sl0=>exact(hne rfl).elim
  |sl=>exact⟨_,_,_,rfl,.inr rfl⟩
def bEt{op:BinOp}{t:TypeId}{x y r:AV}{u v:Value}(h:aZb op (tel P t) x y=some r)(hx:V F w ι x u)(hy:V F w ι y v)(ox oy:Operand) :
  ∃z,(aK P (eqGuard op t ox oy u v) w=.ok () w/\aK P (binOp op t u v) w=.ok z w)/\V F w ι r z:=by
 unfold aZb at h
 split at h
 ·rename_i e he
  obtain⟨b,hb,h⟩:=Ad.1 h
  obtain⟨ad,n,c,rfl,hb'⟩:=bHw hb hx
  cases hy
  obtain⟨h1,h2⟩:=bTo w t e ad n c 0 0 (fE he) ox oy
  unfold bRi at h
  split at h<;>first|(cases h;done)|(injection h with h;subst h)
  ·rcases hb' with hb'|hb'
   ·cases hb'
   ·injection hb' with hb';subst hb';exact⟨_,h1,.d _ _ (.b _)⟩
  ·rcases hb' with hb'|hb'
   ·cases hb'
   ·injection hb' with hb';subst hb';exact⟨_,h2,.d _ _ (.b _)⟩
  ·exact⟨_,h1,.ub _⟩
  ·exact⟨_,h2,.ub _⟩
 ·cases h
def nN{els:List (List D)}{v:Value}(h:VD F w (.sl els) v):∃ad c,v=.slice ad els.length c/\els.length<=c:=by
 cases h with
 |sl0 ad c=>exact⟨ad,c,rfl,A1 _⟩
 |sl _ ad n c sz f hn hc=>subst hn;exact⟨_,_,rfl,hc⟩
def bHl{x:AV}{v:Value}{n:Int}(h:aEd x=some n)(hv:V F w ι x v):∃ad l c,v=.slice ad l c/\n=l:=by
 unfold aEd at h;split at h<;>first|(cases h;done)|(injection h with h;subst h)
 ·cases hv with|d _ _ hh=>obtain⟨ad,c,rfl,_⟩:=nN hh;exact⟨_,_,_,rfl,rfl⟩
 ·cases hv with|fd _ ad n hh=>obtain⟨ad',c,he,_⟩:=nN hh;injection he with _ h2 _;exact⟨_,_,_,rfl,by rw[h2]⟩
 ·cases hv;exact⟨_,_,_,rfl,rfl⟩
 ·cases hv;exact⟨_,_,_,rfl,rfl⟩
def bMn{els:List (List D)}{ad:Option Addr}{n c:Nat}{sz:Nat}(h:VD F w (.sl els) (.slice ad n c))(hsz:∀cs∈els,cs.length=sz)(l k m:Nat)(hl:l<=k)(hk:k<=n)(hm:k<=m) :
  VD F w (.sl ((els.take k).drop l)) (.slice (if m=l then ad else ad.map (·.add (l*sz))) (k-l) (m-l)):=by
 by_cases he:l=k
 ·subst he
  have:(els.take l).drop l=[]:=by simp
  rw[this,CU]
  exact .sl0 _ _
 ·cases h with
  |sl0=>omega
  | sl _ a _ _ sz' f hn hc hsz' hF hcell hel =>
   have hpos:0<els.length:=by omega
   have hes:sz'=sz:=by have:=Bz hpos;rw[<-hsz' _ this,hsz _ this]
   subst hes
   rw[Ai (by omega)]
   have hlen:((els.take k).drop l).length=k-l:=by simp;omega
   refine .sl _ _ _ _ sz' (λj=>f (l*sz'+j)) hlen.symm (by omega) (λcs hcs=>hsz cs (List.mem_of_mem_take (List.mem_of_mem_drop hcs))) (by rw[block_add];exact hF) (λj hj=>?_) (λj i cs d hj hi=>?_)
   ·rw[add_add]
    refine hcell _ ?_
    have h1:l*sz'+(k-l)*sz'=k*sz':=by rw[<-B8];congr 1;omega
    have h2:k*sz'<=n*sz':=B9 _ hk
    omega
   ·rw[BG,Bt]at hj
    split at hj
    ·have:=hel (l+j) i cs d hj hi
     rw[B8,Ei]at this
     exact this
    ·cases hj
end
section
variable {P:Program} {F:Nat->Prop} {w:World} {ι:Nat->Option Nat}
def nM{els:List (List D)}{v:Value}(h:V F w ι (.fd els) v):∃ad,v=.slice ad els.length els.length/\VD F w (.sl els) (.slice ad els.length els.length):=by
 cases h with
 | fd _ ad n hh =>
  obtain⟨ad',c,he,_⟩:=nN hh;injection he with h1 h2 h3
  subst h2;exact⟨ad,rfl,hh⟩
def aDj{els:List (List D)}{v:Value}{sz:Nat}(h:VD F w (.sl els) v)(h0:∀cs,els.head? = some cs->cs.length=sz):∀cs∈els,cs.length=sz:=by
 cases h with
 |sl0=>intro cs hcs;cases hcs
 | sl _ ad n c sz' f hn hc hsz =>
  intro cs hcs;cases els with
  |nil=>cases hcs
  | cons a l =>
   have:=h0 a rfl;rw[hsz cs hcs,<-hsz a (AI ..),this]
def qE{sz:Nat}{els:List (List D)}(h:fH sz els=true):∀cs,els.head? = some cs->cs.length=sz:=by intro cs hcs;simpa[fH,hcs]using h
def aKy{x:AV}{v:Value}{l h:Int}{full:Bool}{sz:Nat}{r:AV}(he:iI sz x l h full=some r)(hv:V F w ι x v) :
  ∃ad n c,v=.slice ad n c/\0<=l/\l<=h/\h<=n/\n<=c/\∀m:Nat,(if full then m=h.toNat else m=c)->V F w ι r (.slice (if m=l.toNat then ad else ad.map (·.add (l.toNat*sz))) (h.toNat-l.toNat) (m-l.toNat)):=by
 unfold iI at he
 split at he
 ·rename_i hlh
  split at he
  ·rename_i els
   split at he
   ·rename_i hn
    injection he with he;subst he
    cases hv with|d _ _ hh =>
    obtain⟨ad,c,rfl,hc⟩:=nN hh
    refine⟨ad,_,c,rfl,hlh.1,hlh.2,hn.1,hc,λm hm=>?_⟩
    have hcut:=bMn hh (aDj hh (qE hn.2)) l.toNat h.toNat m (by omega) (by have:=hn.1;omega) (by have:=hn.1;split at hm<;>omega)
    cases full
    ·exact .d _ _ hcut
    ·simp only[AH]at hm;subst hm
     exact .fd _ _ _ hcut
   ·cases he
  ·rename_i els
   split at he
   ·rename_i hn
    injection he with he;subst he
    obtain⟨ad,rfl,hh⟩:=nM hv
    refine⟨ad,_,_,rfl,hlh.1,hlh.2,hn.1,Ay _,λm hm=>?_⟩
    have hcut:=bMn hh (aDj hh (qE hn.2)) l.toNat h.toNat m (by omega) (by have:=hn.1;omega) (by have:=hn.1;split at hm<;>omega)
    cases full
    ·exact .d _ _ hcut
    ·simp only[AH]at hm;subst hm
     exact .fd _ _ _ hcut
   ·cases he
  ·split at he
   ·injection he with he;subst he
    cases hv
    refine⟨none,0,0,rfl,hlh.1,hlh.2,by omega,Ay _,λm _=>?_⟩
    have:h.toNat-l.toNat=0:=by omega
    rw[this]
    exact .d _ _ (.sl0 _ _)
   ·cases he
  ·rename_i id off len sz'
   split at he
   ·rename_i hn
    obtain⟨hn,rfl⟩:=hn
    cases hv with|own _ _ _ _ b cap cur e hι hb hcap hl hm' =>
    refine⟨_,_,_,rfl,hlh.1,hlh.2,hn,hl,λm hm=>?_⟩
    split at he
    ·injection he with he;subst he
     have:h.toNat-l.toNat=0:=by omega
     rw[this]
     exact .d _ _ (.sl0 _ _)
    ·injection he with he;subst he
     have hm1:h.toNat<=m:=by split at hm<;>omega
     have hm2:m<=cap:=by split at hm<;>omega
     rw[Ai (by omega),AU,gY,<-B8,show h.toNat-l.toNat=(h-l).toNat from by omega]
     refine .own _ _ _ _ b _ cur e hι hb (AR (B9 _ ?_) hcap) (by omega) (by omega)
     omega
   ·cases he
  ·cases he
 ·cases he
end
def eY:AV->Option Int
 |.d (.i _ n)=>some n
 |_=>none
def aMe(x:Option Operand)(Γ:Nat->AV)(dflt:Int):Option Int :=
 match x with
 |none=>some dflt
 |some o=>eY (oev Γ o)
def vR:AV->Option Bool
 |.d (.b x)=>some x
 |_=>none
def xD(off:Nat):AV->Option AV
 |.ptr id o=>some (.ptr id (o+off))
 |.fp cs=>some (.fp (cs.drop off))
 |_=>none
def tL(sz:Nat)(k:Int):AV->Option AV
 |.d (.sl els)|.fd els=>if 0<=k then(els[k.toNat]?).bind λcs=>if cs.length=sz then some (.fp cs)else none else none
 |.own id off len sz'=>if 0<=k/\k<len/\sz'=sz then some (.ptr id ((off+k.toNat)*sz))else none
 |_=>none
def wX(sz m:Nat)(k:Int):AV->Option AV
 |.ptr id o=>if 0<=k/\k<m then some (.ptr id (o+k.toNat*sz))else none
 |.fp cs=>if 0<=k/\k<m then some (.fp (cs.drop (k.toNat*sz)))else none
 |_=>none
def plc(P:Program)(t:TypeId):Option (Nat->Option (Nat×Nat)):=match eM P t with
 |some fl=>some (fl[·]?)
 |none=>(yJ P t).bind λp=>(tsz P p.2).map λsz=>λi=>some (i*sz,sz)
def pDd:AV->Option D
 |.d x=>some x
 |_=>none
def bYq:AV->Option D
 |.d x=>some x
 |.ag cs=>(cs.mapM pDd).map .ag
 |_=>none
def aMx(P:Program)(t:TypeId)(name:String):Option FuncId :=
 (P.info? t).bind λi=>(i.methods.find? (·.name==name)).bind λm=>match m.path.toList,m.func,P.underlying t with
  | [],some (f,false),some u=>match u with
   |.pointer _=>none
   |_=>some f
  |_,_,_=>none
def cT(x:Option AV):Option (AV×Option HO):=x.map λv=>(v,none)
def aVa(P:Program)(Γ:Nat->AV):Callee->List Operand->List TypeId->Option AV
 |.builtin .len,[x],[t]=>(tel P t).bind λ_=>(aEd (oev Γ x)).map λn=>.d (.i .i64 n)
 |.builtin .max,[x,y],_=>match oev Γ x,oev Γ y with|.d (.i k a),.d (.i _ b)=>some (.d (.i k (if b>a then b else a)))|_,_=>none
 |.builtin .min,[x,y],_=>match oev Γ x,oev Γ y with|.d (.i k a),.d (.i _ b)=>some (.d (.i k (if b<a then b else a)))|_,_=>none
 |_,_,_=>none
def bKy:AV->Option AV
 |.ptr id o=>some (.ptr id o)
 |.fp cs=>some (.fp cs)
 |_=>none
def nev(P:Program)(op:Op)(Γ:Nat->AV)(n:Nat):Option (AV×Option HO) :=
 match op with
 |.move x|.assign x=>some (oev Γ x,none)
 |.pick c a b=>cT ((vR (oev Γ c)).map λt=>if t then oev Γ a else oev Γ b)
 |.alloc e=>(tz P e).map λz=>(.ptr n 0,some (.cells e (z.cells.toList.map cv1)))
 |.box e x=>(cY (oev Γ x)).map λcs=>(.ptr n 0,some (.cells e cs))
 | .build t ps=>cT ((tz P t).bind λz=>(plc P t).bind λpl=>if z.cells.all CC then
   (lQ pl (z.cells.toList.map cv1) (ps.toList.map λp=>(p.1,oev Γ p.2))).map .ag else none)
 | .buildSlice t len ps=>(tel P t).bind λe=>(tsz P e).bind λsz=>(tz P e).bind λz =>
   if z.cells.size=sz/\0<sz/\len*sz<=16777216/\z.cells.all CC=true then
    (lQ (λi=>some (i*sz,sz)) ((Av len (z.cells.toList.map cv1)).flatten) (ps.toList.map λp=>(p.1,oev Γ p.2))).map λcs=>(.own n 0 len sz,some (.cells e cs))
   else none
 | .makeSlice t l c=>(tel P t).bind λe=>(tsz P e).bind λsz=>(tz P e).bind λz=>(tby P e).bind λby_=>(eY (oev Γ l)).bind λa=>(eY (oev Γ c)).bind λb =>
   if z.cells.size=sz/\0<sz/\z.cells.all CC=true/\0<=a/\a<=b/\(by_:Int)*b<=281474976710656/\b<=9223372036854775807 then
    some (.own n 0 a.toNat sz,some (.cells e (Av a.toNat (z.cells.toList.map cv1)).flatten))
   else none
 |.binOp op t x y _=>cT (match aZb op (tel P t) (oev Γ x) (oev Γ y)with|some r=>some r|none=>match dG op (bL P t) (oev Γ x) (oev Γ y)with|some r=>some (.d r)|none=>match bVb op (tai P t) (oev Γ x) (oev Γ y)with|some r=>some (.d r)|none=>(bVa op (tst P t) (oev Γ x) (oev Γ y)).map .d)
 |.unOp op _ x=>cT ((unA op (oev Γ x)).map .d)
 |.convert s t x=>cT ((fD P t).bind λk=>(eY (oev Γ x)).bind λm=>if(P.underlying s).isSome then some (.d (.i k (k.wrap m)))else none)
 |.fieldAddr s x f=>cT ((eM P s).bind λfl=>(fl[f]?).bind λp=>if p.2=0 then none else xD p.1 (oev Γ x))
 | .indexAddr t x i=>cT ((eY (oev Γ i)).bind λk=>match tel P t with
   |some e=>(tsz P e).bind λsz=>tL sz k (oev Γ x)
   |none=>(yJ P t).bind λp=>(tsz P p.2).bind λsz=>wX sz p.1 k (oev Γ x))
 |.extract x i=>cT ((aXd (oev Γ x)).bind λvs=>vs[i]?)
 | .slice t x lo hi mx=>cT ((tel P t).bind λe=>(tsz P e).bind λsz=>(aEd (oev Γ x)).bind λn=>(aMe lo Γ 0).bind λl=>(aMe hi Γ n).bind λh =>
   match mx with
   |none=>iI sz (oev Γ x) l h false
   |some y=>(eY (oev Γ y)).bind λm=>if m=h/\hi.isSome then iI sz (oev Γ x) l h true else none)
 |.call c=>cT (aVa P Γ c.callee c.args.toList c.argTypes.toList)
 |.field s x f=>cT ((bDa P s f).bind λp=>(yU (oev Γ x)).bind λcs=>if p.2.1 then(if p.1+p.2.2<=cs.length then some (.ag ((cs.drop p.1).take p.2.2))else none)else cs[p.1]?)
 |.makeFunc (.func f) fst cs=>if fst.isEmpty then cT (some (.fn f (cs.toList.map (oev Γ))))else if cs.isEmpty then(match fst.toList.map (oev Γ)with|[.d d]=>cT (some (.d (.fm f d)))|_=>none)else none
 |.index t (.const (.string s)) i=>cT (match P.underlying t with|some .string=>(eY (oev Γ i)).bind λk=>if 0<=k then(s[k.toNat]?).map λb=>.d (.i .u8 b.toNat)else none|_=>none)
 | .index t x i=>cT ((yJ P t).bind λp=>(tsz P p.2).bind λsz=>(cA P p.2).bind λag=>(eY (oev Γ i)).bind λk=>(yU (oev Γ x)).bind λcs =>
   if 0<=k/\k<p.1 then(if ag then(if k.toNat*sz+sz<=cs.length then some (.ag ((cs.drop (k.toNat*sz)).take sz))else none)else cs[k.toNat*sz]?)else none)
 |.nilCheck x=>cT (bKy (oev Γ x))
 |.makeMap t r=>(tmp P t).bind λp=>(fD P p.1).bind λk=>(match r with|none=>some 0|some x=>eY (oev Γ x)).map λ_=>(.mp n,some (.map k []))
 | .range t x=>(tmp P t).bind λ_=>match oev Γ x with
  |.d (.mp k ks ds)=>some (.ptr n 0,some (.iter k none (ks.zip ds)))
  |_=>none
 | .makeInterface t x=>cT ((P.underlying t).bind λu=>match u with
   |.interface _=>none
   |_=>(bYq (oev Γ x)).map λd=>.d (.iff t d))
 |_=>none
def aMy:∀(l:List AV) (r:List D),l.mapM pDd=some r->l=r.map .d
 |[],r,h=>by simp at h;subst h;rfl
 | x::l,r,h=>by
  rw[Cp]at h;obtain⟨d,hd,h⟩:=Ad.1 h;obtain⟨r',hr,h⟩:=Ad.1 h;injection h with h;subst h
  rw[aMy l r' hr];cases x<;>simp[pDd]at hd;subst hd;rfl
def bYp{F:Nat->Prop}{w:World}{ι:Nat->Option Nat}{x:AV}{v:Value}{d:D}(h:bYq x=some d)(hv:V F w ι x v):VD F w d v:=by
 unfold bYq at h;split at h
 ·injection h with h;subst h;cases hv with|d _ _ h=>exact h
 ·obtain⟨r,hr,rfl⟩:=Af.1 h;have:=aMy _ _ hr;subst this;cases hv with|ag _ vs hl hh =>
  refine .ag r vs (by simpa using hl) λk c u hc hu=>?_
  have:=hh k (.d c) u (by rw[Ag,hc];rfl) hu;cases this with|d _ _ h=>exact h
 ·cases h
def bEv{P:Program}{t:TypeId}{name:String}{f:FuncId}(h:aMx P t name=some f)(v:Value)(args:Array Value)(w:World):aK P (callMethod (.iface t v) name args) w=aK P (callFunc f (#[v]++args)) w:=by
 unfold aMx at h;obtain⟨i,hi,h⟩:=Ad.1 h;obtain⟨m,hm,h⟩:=Ad.1 h;split at h
 ·rename_i f u hp hf hu;split at h
  ·cases h
  ·rename_i hnp;injection h with h;subst h
   simp only[callMethod,Sem.run_bind,xS,AK];obtain⟨n,hn⟩:∃n,P.types.size+Made.depth=n+1:=⟨P.types.size+99,rfl⟩;have hti:aK P (typeInfo t) w=.ok i w:=by simp only[typeInfo,Sem.run_bind,xS,AK,hi,Sem.run_pure]
   rw[hn];simp only[method,Sem.run_bind,hti,AK,hm,hp,follow,Sem.run_pure,hf,receiverAt,aD hu];cases u<;>first|exact absurd rfl (hnp _)|simp[Place.get]
 ·cases h
section
variable {P:Program} {F:Nat->Prop} {w:World} {ι:Nat->Option Nat}
def iD{x:AV}{v:Value}{n:Int}(h:eY x=some n)(hv:V F w ι x v):∃k,v=.int k n:=by
 unfold eY at h;split at h
 ·injection h with h;subst h;cases hv with|d _ _ hv=>cases hv;exact⟨_,rfl⟩
 ·cases h
def bAy{x:AV}{v:Value}{n:Bool}(h:vR x=some n)(hv:V F w ι x v):v=.bool n:=by
 unfold vR at h;split at h
 ·injection h with h;subst h;cases hv with|d _ _ hv=>cases hv;rfl
 ·cases h
def aAd{t:TypeId}{p:Nat×TypeId}(h:yJ P t=some p):P.underlying t=some (.array p.1 p.2):=by
 unfold yJ at h;split at h
 ·injection h with h;subst h;assumption
 ·cases h
def bCz{t:TypeId}{k:IntKind}(h:fD P t=some k):P.underlying t=some (.int k):=by
 unfold fD at h;split at h
 ·injection h with h;subst h;assumption
 ·cases h
def bJg{off:Nat}{x r:AV}{v:Value}(h:xD off x=some r)(hv:V F w ι x v):∃ad,v=.pointer (some ad)/\V F w ι r (.pointer (some (ad.add off))):=by
 unfold xD at h;split at h
 ·injection h with h;subst h
  cases hv with|ptr id o b hι=>exact⟨_,rfl,by rw[gY];exact .ptr _ _ _ hι⟩
 ·injection h with h;subst h
  cases hv with|fp cs ad f hF hcell hel =>
  refine⟨_,rfl,.fp _ _ (λj=>f (off+j)) (by rw[block_add];exact hF) (λj hj=>?_) (λk c hk=>?_)⟩
  ·rw[add_add];exact hcell _ (by simp at hj;omega)
  ·rw[BG]at hk;exact hel _ _ hk
 ·cases h
def aWg{els:List (List D)}{ad:Option Addr}{n c k:Nat}{cs:List D}(h:VD F w (.sl els) (.slice ad n c))(hk:els[k]? = some cs)(ι:Nat->Option Nat) :
  ∃a,ad=some a/\k<n/\V F w ι (.fp cs) (.pointer (some (a.add (k*cs.length)))):=by
 have hlt:k<els.length:=(Ao.1 hk).1
 cases h with
 |sl0=>simp at hk
 | sl _ a _ _ sz f hn hc hsz hF hcell hel =>
  have hs:cs.length=sz:=hsz cs (Aj hk)
  refine⟨a,rfl,by omega,?_⟩
  subst hs
  refine .fp _ _ (λj=>f (k*cs.length+j)) (by rw[block_add];exact hF) (λj hj=>?_) (λj c hj=>hel k j cs c hk hj)
  rw[add_add]
  refine hcell _ ?_
  have h1:(k+1)*cs.length<=n*cs.length:=B9 _ (by omega)
  rw[B8,DW]at h1
  omega
def bIg{sz:Nat}{k:Int}{x r:AV}{v:Value}(h:tL sz k x=some r)(hv:V F w ι x v) :
  ∃a n c,v=.slice (some a) n c/\0<=k/\k<n/\V F w ι r (.pointer (some (a.add (k.toNat*sz)))):=by
 unfold tL at h
 split at h
 ·rename_i els
  split at h
  ·rename_i hk0
   obtain⟨cs,hcs,h⟩:=Ad.1 h
   split at h
   ·rename_i hl
    injection h with h;subst h;subst hl
    cases hv with|d _ _ hh =>
    obtain⟨ad,c,rfl,_⟩:=nN hh
    obtain⟨a,rfl,h1,h2⟩:=aWg hh hcs ι
    exact⟨a,_,_,rfl,hk0,by omega,h2⟩
   ·cases h
  ·cases h
 ·rename_i els
  split at h
  ·rename_i hk0
   obtain⟨cs,hcs,h⟩:=Ad.1 h
   split at h
   ·rename_i hl
    injection h with h;subst h;subst hl
    obtain⟨ad,rfl,hh⟩:=nM hv
    obtain⟨a,rfl,h1,h2⟩:=aWg hh hcs ι
    exact⟨a,_,_,rfl,hk0,by omega,h2⟩
   ·cases h
  ·cases h
 ·split at h
  ·rename_i hk
   obtain⟨h0,h1,rfl⟩:=hk
   injection h with h;subst h
   cases hv with|own id off len _ b cap cur e hι hb hcap hl hm =>
   refine⟨_,_,_,rfl,h0,by omega,?_⟩
   rw[gY,<-B8]
   exact .ptr _ _ _ hι
  ·cases h
 ·cases h
def bIh{sz m:Nat}{k:Int}{x r:AV}{v:Value}(h:wX sz m k x=some r)(hv:V F w ι x v) :
  ∃a,v=.pointer (some a)/\0<=k/\k<m/\V F w ι r (.pointer (some (a.add (k.toNat*sz)))):=by
 unfold wX at h
 split at h
 ·split at h
  ·rename_i hk
   injection h with h;subst h
   cases hv with|ptr id o b hι=>exact⟨_,rfl,hk.1,hk.2,by rw[gY];exact .ptr _ _ _ hι⟩
  ·cases h
 ·split at h
  ·rename_i hk
   injection h with h;subst h
   cases hv with|fp cs ad f hF hcell hel =>
   refine⟨_,rfl,hk.1,hk.2,.fp _ _ (λj=>f (k.toNat*sz+j)) (by rw[block_add];exact hF) (λj hj=>?_) (λj c hc=>?_)⟩
   ·rw[add_add];exact hcell _ (by simp at hj;omega)
   ·rw[BG]at hc;exact hel _ _ hc
  ·cases h
 ·cases h
def bW{x:Option AV}{av:AV}{ho:Option HO}(h:cT x=some (av,ho)):x=some av/\ho=none:=by
 unfold cT at h;obtain⟨v,hv,h⟩:=Af.1 h;injection h with h1 h2
 subst h1;exact⟨hv,h2.symm⟩
def yK{t:TypeId}{z:Value}{fs:Array Field}(hz:tz P t=some z)(hu:P.underlying t=some (.struct fs))(ps:Array (Nat×Nat))(parts:Array (Nat×Value))(cells:Array Value)
  (hm:aK P (fs.mapM (m:=Sem) λf=>do pure (f.offset,<-sizeOf f.type)) w=.ok ps w) (hf:Instr.fill (ps[·]?) z.cells parts.toList=some cells) :
  aK P (Instr.build t parts) w=.ok (.agg cells) w:=by
 simp only[Instr.build,Sem.run_bind,fO w hz,AK,aD hu,hm,hf]
 rfl
def bVm{z:Value}(h:z.cells.all CC=true):CV F w ι (z.cells.toList.map cv1) z.cells :=
 ⟨by simp,aJy _,λu hu=>Cq.1 h u hu⟩
def aUm{Γ:Nat->AV}{a:Act}{ps:Array (Nat×Operand)}(h:∀p∈ps,V F w ι (oev Γ p.2) (a.eval p.2)) :
  (ps.toList.map λp=>(p.1,oev Γ p.2)).length=(ps.map λp=>(p.1,a.eval p.2)).toList.length /\
  ∀(k:Nat) p q,(ps.toList.map λp=>(p.1,oev Γ p.2))[k]? = some p->(ps.map λp=>(p.1,a.eval p.2)).toList[k]? = some q->p.1=q.1/\V F w ι p.2 q.2:=by
 refine⟨by simp,λk p q hp hq=>?_⟩
 simp only[Ag,FF,Bj]at hp hq
 cases hx:ps[k]? with
 |none=>simp[hx]at hp
 | some x =>
  simp only[hx,AU,Ax]at hp hq
  subst hp;subst hq
  exact⟨rfl,h x (BZ hx)⟩
end
section
variable {P:Program}
def aLb{s:TypeId}{f:Nat}{fl:List (Nat×Nat)}{p:Nat×Nat}(w:World)(h:eM P s=some fl)(hp:fl[f]? = some p)(h0:p.2≠0)(ad:Addr) :
  aK P (Instr.fieldAt s (.pointer (some ad)) f) w=.ok (.pointer (some (ad.add p.1))) w:=by
 obtain⟨fs,hu,_,hm⟩:=aLa w h
 have hlen:∀(l:List Field) (r:List (Nat×Nat)),(l.mapM λf=>(P.info? f.type).map λi=>(f.offset,i.size))=some r->∀(k:Nat) q,r[k]? = some q->∃g,l[k]? = some g/\q.1=g.offset/\tsz P g.type=some q.2:=by
  intro l;induction l with
  |nil=>intro r hr k q hq;simp at hr;subst hr;simp at hq
  | cons g l ih =>
   intro r hr k q hq;simp only[Cp,C2,Ad,DK,Ax]at hr;obtain⟨x,hx,r',hr',rfl⟩:=hr;obtain⟨i,hi,rfl⟩:=Af.1 hx;rcases k with _|k
   ·simp only[BX,Ax]at hq;subst hq;exact⟨g,rfl,rfl,by simp[tsz,hi]⟩
   ·exact ih r' hr' k q (by simpa using hq)
 obtain⟨g,hg,e1,e2⟩:=hlen _ _ hm f p hp
 have hg':fs[f]? = some g:=by simpa using hg
 simp[Instr.fieldAt,aD hu,hg',CE,fieldPlace,run_sizeOf w e2,h0,e1]
def aDv{t e:TypeId}{sz:Nat}(w:World)(h:tel P t=some e)(hs:tsz P e=some sz)(a:Addr)(n c:Nat)(ki:IntKind)(k:Int)(h0:0<=k)(h1:k<n) :
  aK P (Ff t (.slice (some a) n c) (.int ki k)) w=.ok (.pointer (some (a.add (k.toNat*sz)))) w:=by
 simp[Ff,asIntOf,aD (fE h),run_sizeOf w hs,h0,h1]
def aDw{t e:TypeId}{sz m:Nat}(w:World)(h:yJ P t=some (m,e))(hs:tsz P e=some sz)(a:Addr)(ki:IntKind)(k:Int)(h0:0<=k)(h1:k<m) :
  aK P (Ff t (.pointer (some a)) (.int ki k)) w=.ok (.pointer (some (a.add (k.toNat*sz)))) w:=by
 simp[Ff,asIntOf,aD (aAd h),run_sizeOf w hs,h0,h1,CE]
def aXt{t e:TypeId}(w:World)(h:tel P t=some e)(ty:TypeId)(a:Option Addr)(n c:Nat):aK P (FY #[t] ty #[.slice a n c]) w=.ok (.int .i64 n) w:=by simp[FY,aD (fE h),goInt]
def gL(w:World)(k:IntKind)(i:Int)(y:Nat)(code:BoundsCode)(h0:0<=i)(h1:i<=y):aK P (Instr.sliceBound (.int k i) y code) w=.ok i.toNat w:=by simp[Instr.sliceBound,asIntOf,h0,h1]
def mP{t e:TypeId}{sz:Nat}(w:World)(ht:tel P t=some e)(hs:tsz P e=some sz)(ad:Option Addr)(n c:Nat)(hnc:n<=c)(lo hi mx:Option Value)(l h:Int)
  (hlo:(lo=none/\l=0)\/∃k,lo=some (.int k l)) (hhi:(hi=none/\h=n)\/∃k,hi=some (.int k h)) (hl:0<=l) (hlh:l<=h) (hn:h<=n)
  (m:Nat) (hm:(mx=none/\m=c)\/(∃k,mx=some (.int k h))/\m=h.toNat/\hi.isSome=true) :
  aK P (Instr.sliceAt t (.slice ad n c) lo hi mx) w=.ok (.slice (if m=l.toNat then ad else ad.map (·.add (l.toNat*sz))) (h.toNat-l.toNat) (m-l.toNat)) w:=by
 have hu:=fE ht
 have hb:aK P (DF true n c lo hi mx) w=.ok (l.toNat,h.toNat,m) w:=by
  have e1:(h.toNat:Int)=h:=by omega
  rcases hm with ⟨rfl,rfl⟩|⟨⟨km,rfl⟩,rfl,hs'⟩
  ·rcases hlo with ⟨rfl,rfl⟩|⟨kl,rfl⟩<;>rcases hhi with ⟨rfl,rfl⟩|⟨kh,rfl⟩
   ·simp[DF]
   ·simp[DF,gL w kh h m _ (by omega) (by omega)]
   ·simp[DF,gL w kl l n _ (by omega) (by omega)]
   ·simp[DF,gL w kh h m _ (by omega) (by omega),gL w kl l h.toNat _ (by omega) (by omega)]
  ·rcases hhi with ⟨rfl,rfl⟩|⟨kh,rfl⟩
   ·simp at hs'
   ·rcases hlo with ⟨rfl,rfl⟩|⟨kl,rfl⟩
    ·simp[DF,gL w km h c _ (by omega) (by omega),gL w kh h h.toNat _ (by omega) (by omega)]
    ·simp[DF,gL w km h c _ (by omega) (by omega),gL w kh h h.toNat _ (by omega) (by omega),gL w kl l h.toNat _ (by omega) (by omega)]
 simp[Instr.sliceAt,Instr.slice,aD hu,hb,run_sizeOf w hs]
def run_build{w:World}{t:TypeId}{z:Value}{pl:Nat->Option (Nat×Nat)}(hz:tz P t=some z)(hpl:plc P t=some pl)(parts:Array (Nat×Value))(cells:Array Value)(hf:Instr.fill pl z.cells parts.toList=some cells) :
  aK P (Instr.build t parts) w=.ok (.agg cells) w:=by
 unfold plc at hpl
 split at hpl
 ·rename_i fl hfl
  injection hpl with hpl;subst hpl
  obtain⟨fs,hu,hm,_⟩:=aLa w hfl
  exact yK hz hu fl.toArray parts cells hm (by simpa using hf)
 ·obtain⟨p,hp,h⟩:=Ad.1 hpl
  obtain⟨sz,hsz,rfl⟩:=Af.1 h
  simp only[Instr.build,Sem.run_bind,fO w hz,AK,aD (aAd hp),run_sizeOf w hsz,hf]
  rfl
variable [M:Mch P] {G:Ctx} {o:Oper} {Γ:Nat->AV} {C:Nat->Prop} {H:Hp} {n:Nat}
def aMs{av:AV}(h:nev P o.op Γ n=some (av,none)):Y P G o Γ C H H av bD bD:=by
 refine zV λF w ι a hR hop=>?_
 have ov:∀x∈o.op.operands,V F w ι (oev Γ x) (a.eval x):=λx hx=>cH λt e=>hop t (e ▸ hx)
 obtain⟨dst,op,type,pos,after,guard⟩:=o;simp only at h ov ⊢;unfold nev at h;split at h
 ·rename_i x;injection h with h;injection h with h _;subst h;exact⟨_,by simp[execOp],ov x (by simp[AD])⟩
 ·rename_i x;injection h with h;injection h with h _;subst h;exact⟨_,by simp[execOp],ov x (by simp[AD])⟩
 ·rename_i c x y;obtain⟨h,_⟩:=bW h;obtain⟨t,ht,rfl⟩:=Af.1 h;have hc:=bAy ht (ov c (by simp[AD]));refine⟨if t then a.eval x else a.eval y,by simp[execOp,hc,asBool],?_⟩;cases t
  ·exact ov y (by simp[AD])
  ·exact ov x (by simp[AD])
 ·obtain⟨z,_,h⟩:=Af.1 h;cases h
 ·obtain⟨z,_,h⟩:=Af.1 h;cases h
 ·rename_i t ps;obtain⟨h,_⟩:=bW h;obtain⟨z,hz,h⟩:=Ad.1 h;obtain⟨pl,hpl,h⟩:=Ad.1 h;split at h
  ·rename_i hone;obtain⟨cs,hcs,rfl⟩:=Af.1 h;have hp:=aUm (F:=F) (w:=w) (ι:=ι) (Γ:=Γ) (a:=a) (ps:=ps) λp hp=>ov p.2 (by simp[AD];exact⟨p.1,hp⟩)
   obtain⟨us,hus,hcv⟩:=aJd _ _ _ _ _ _ (bVm (F:=F) (w:=w) (ι:=ι) hone) hp.1 hp.2 hcs;refine⟨.agg us,?_,.ag _ _ hcv.1 hcv.2.1⟩;have hrun:=run_build (w:=w) hz hpl (ps.map λp=>(p.1,a.eval p.2)) us hus;simp only[execOp,Sem.run_bind];rw[hrun];rfl
  ·cases h
 ·obtain⟨e,_,h⟩:=Ad.1 h;obtain⟨sz,_,h⟩:=Ad.1 h;obtain⟨z,_,h⟩:=Ad.1 h;split at h
  ·obtain⟨cs,_,h⟩:=Af.1 h;cases h
  ·cases h
 ·obtain⟨e,_,h⟩:=Ad.1 h;obtain⟨sz,_,h⟩:=Ad.1 h;obtain⟨z,_,h⟩:=Ad.1 h;obtain⟨y,_,h⟩:=Ad.1 h;obtain⟨a,_,h⟩:=Ad.1 h;obtain⟨b,_,h⟩:=Ad.1 h;split at h<;>cases h
 ·rename_i op t x y yt;obtain⟨h,_⟩:=bW h;split at h
  ·rename_i r' hr;injection h with h;subst h
   obtain⟨z,⟨h1,h2⟩,hz⟩:=bEt (P:=P) hr (ov x (by simp[AD])) (ov y (by simp[AD])) x y;exact⟨z,by simp[execOp,h1,h2],hz⟩
  split at h
  ·rename_i r' hr;injection h with h;subst h
   obtain⟨z,⟨h1,h2⟩,hz⟩:=aLd (P:=P) hr (ov x (by simp[AD])) (ov y (by simp[AD])) x y;exact⟨z,by simp[execOp,h1,h2],.d _ _ hz⟩
  split at h
  rotate_left
  ·obtain⟨r,hr,rfl⟩:=Af.1 h;obtain⟨z,⟨h1,h2⟩,hz⟩:=bEx (P:=P) hr (ov x (by simp[AD])) (ov y (by simp[AD])) x y;exact⟨z,by simp[execOp,h1,h2],.d _ _ hz⟩
  rename_i r hr;injection h with h;subst h
  obtain⟨z,⟨h1,h2⟩,hz⟩:=bEy (P:=P) hr (ov x (by simp[AD])) (ov y (by simp[AD])) x y;exact⟨z,by simp[execOp,h1,h2],.d _ _ hz⟩
 ·rename_i op t x;obtain⟨h,_⟩:=bW h;obtain⟨r,hr,rfl⟩:=Af.1 h;obtain⟨z,h1,hz⟩:=bPf (P:=P) hr (ov x (by simp[AD]));exact⟨z,by simp[execOp,h1],.d _ _ hz⟩
 ·rename_i s t x;obtain⟨h,_⟩:=bW h;obtain⟨k,hk,h⟩:=Ad.1 h;obtain⟨m,hm,h⟩:=Ad.1 h;split at h
  ·rename_i hs;injection h with h;subst h
   obtain⟨k',hx⟩:=iD hm (ov x (by simp[AD]));refine⟨.int k (k.wrap m),?_,.d _ _ (.i _ _)⟩;obtain⟨ds,hds⟩:=Ek.1 hs;simp[execOp,hx,convert,aD hds,aD (bCz hk),Conv.intToInt]
  ·cases h
 ·rename_i s x f;obtain⟨h,_⟩:=bW h;obtain⟨fl,hfl,h⟩:=Ad.1 h;obtain⟨p,hp,h⟩:=Ad.1 h;split at h
  ·cases h
  ·rename_i h0;obtain⟨ad,hx,hv⟩:=bJg h (ov x (by simp[AD]));exact⟨_,by simp only[execOp,hx,Sem.run_bind,aLb w hfl hp h0 ad];rfl,hv⟩
 ·rename_i t x i;obtain⟨h,_⟩:=bW h;obtain⟨k,hk,h⟩:=Ad.1 h;obtain⟨ki,hi⟩:=iD hk (ov i (by simp[AD]));split at h
  ·rename_i e he;obtain⟨sz,hsz,h⟩:=Ad.1 h;obtain⟨ad,m,c,hx,h0,h1,hv⟩:=bIg h (ov x (by simp[AD]));exact⟨_,by simp only[execOp,hx,hi,Sem.run_bind,aDv w he hsz ad m c ki k h0 h1];rfl,hv⟩
  ·obtain⟨⟨m,e⟩,he,h⟩:=Ad.1 h;obtain⟨sz,hsz,h⟩:=Ad.1 h;obtain⟨ad,hx,h0,h1,hv⟩:=bIh h (ov x (by simp[AD]));exact⟨_,by simp only[execOp,hx,hi,Sem.run_bind,aDw w he hsz ad ki k h0 h1];rfl,hv⟩
 ·rename_i x i;obtain⟨h,_⟩:=bW h;obtain⟨vs,hvs,h⟩:=Ad.1 h;obtain⟨us,hx,hl,hv⟩:=bXo hvs (ov x (by simp[AD]));have hlt:i<vs.length:=(Ao.1 h).1;have hlt':i<us.size:=by omega
  exact⟨us[i],by simp[execOp,hx,Instr.extract,hlt'],hv i _ _ h (Al hlt')⟩
 ·rename_i t x lo hi mx;obtain⟨h,_⟩:=bW h;obtain⟨e,he,h⟩:=Ad.1 h;obtain⟨sz,hsz,h⟩:=Ad.1 h;obtain⟨n',hn',h⟩:=Ad.1 h;obtain⟨l,hl,h⟩:=Ad.1 h;obtain⟨hh,hhh,h⟩:=Ad.1 h;obtain⟨ad',len',c',hxv,hnl⟩:=bHl hn' (ov x (by simp[AD]));have hlo:(lo.map a.eval=none/\l=0)\/∃k,lo.map a.eval=some (.int k l):=by
   cases lo with
   |none=>simp only[aMe,Ax]at hl;exact .inl ⟨rfl,hl.symm⟩
   |some y=>obtain⟨k,hk⟩:=iD hl (ov y (by simp[AD]));exact .inr ⟨k,by simp[hk]⟩
  have hhi:(hi.map a.eval=none/\hh=len')\/∃k,hi.map a.eval=some (.int k hh):=by
   cases hi with
   |none=>simp only[aMe,Ax]at hhh;exact .inl ⟨rfl,by rw[<-hhh,hnl]⟩
   |some y=>obtain⟨k,hk⟩:=iD hhh (ov y (by simp[AD]));exact .inr ⟨k,by simp[hk]⟩
  cases mx with
  | none =>
   obtain⟨ad,m,c,hx,h0,h1,h2,h3,hv⟩:=aKy h (ov x (by simp[AD]));rw[hxv]at hx;injection hx with e1 e2 e3;subst e1;subst e2;subst e3
   refine⟨_,?_,hv c' (by simp)⟩;have:=mP w he hsz ad' len' c' h3 _ _ none l hh hlo hhi h0 h1 h2 c' (.inl ⟨rfl,rfl⟩);simp only[execOp,hxv,Sem.run_bind,Option.map_none,this];rfl
  | some y =>
   obtain⟨m,hm,h⟩:=Ad.1 h;split at h
   ·rename_i hmh;obtain⟨rfl,his⟩:=hmh;obtain⟨ad,m',c,hx,h0,h1,h2,h3,hv⟩:=aKy h (ov x (by simp[AD]));rw[hxv]at hx;injection hx with e1 e2 e3;subst e1;subst e2;subst e3
    obtain⟨km,hkm⟩:=iD hm (ov y (by simp[AD]));refine⟨_,?_,hv m.toNat (by simp)⟩;have:=mP w he hsz ad' len' c' h3 _ _ (some (.int km m)) l m hlo hhi h0 h1 h2 m.toNat (.inr ⟨⟨km,rfl⟩,rfl,by simpa using his⟩);simp only[execOp,hxv,Sem.run_bind,AU,hkm,this];rfl
   ·cases h
 ·rename_i c;obtain⟨h,_⟩:=bW h;obtain⟨callee,args,argTypes⟩:=c;simp only[AD,Bg]at ov;obtain⟨args⟩:=args;obtain⟨argTypes⟩:=argTypes;simp only at h;unfold aVa at h;split at h
  ·rename_i x t _;obtain⟨e,he,h⟩:=Ad.1 h;obtain⟨m,hm,rfl⟩:=Af.1 h;obtain⟨ad,l,c,hx,rfl⟩:=bHl hm (ov x (by simp));refine⟨.int .i64 l,?_,.d _ _ (.i _ _)⟩;simp[execOp,resolve,invoke,builtin,hx,aXt w he]
  ·rename_i x y _;split at h
   ·rename_i k p k' q hx hy;injection h with h;subst h
    have vx:=ov x (by simp);have vy:=ov y (by simp);rw[hx]at vx;rw[hy]at vy;cases vx with|d _ _ vx=>cases vy with|d _ _ vy =>
    generalize hex:a.eval x=ux at vx;generalize hey:a.eval y=uy at vy;cases vx;cases vy;exact⟨_,by simp[execOp,resolve,invoke,builtin,hex,hey,aHs],.d _ _ (.i _ _)⟩
   ·cases h
  ·rename_i x y _;split at h
   ·rename_i k p k' q hx hy;injection h with h;subst h
    have vx:=ov x (by simp);have vy:=ov y (by simp);rw[hx]at vx;rw[hy]at vy;cases vx with|d _ _ vx=>cases vy with|d _ _ vy =>
    generalize hex:a.eval x=ux at vx;generalize hey:a.eval y=uy at vy;cases vx;cases vy;exact⟨_,by simp[execOp,resolve,invoke,builtin,hex,hey,aHr],.d _ _ (.i _ _)⟩
   ·cases h
  ·cases h
 ·rename_i s x f;obtain⟨h,_⟩:=bW h;obtain⟨⟨off,ag,sz⟩,hp,h⟩:=Ad.1 h;obtain⟨cs,hcs,h⟩:=Ad.1 h;obtain⟨vs,hx,hl,hV⟩:=xL hcs (ov x (by simp[AD]));unfold bDa at hp;split at hp
  ·rename_i fs hu;obtain⟨g,hg,hp⟩:=Ad.1 hp;obtain⟨a',ha',hp⟩:=Ad.1 hp;obtain⟨z,hz,hp⟩:=Af.1 hp;injection hp with e1 e2;injection e2 with e2 e3;subst e1;subst e2;subst e3
   cases a'
   ·simp only[Ae,Az]at h;have hlt:g.offset<vs.size:=by rw[<-hl];exact(Ao.1 h).1
    have hv:=Al hlt;refine⟨vs[g.offset],?_,hV _ _ _ h hv⟩;simp[execOp,hx,Instr.field,aD hu,hg,asAgg,part,kW w ha',hv]
   ·simp only[AH]at h;split at h
    ·rename_i hfit;injection h with h;subst h
     refine⟨.agg (vs.extract g.offset (g.offset+z)),by simp[execOp,hx,Instr.field,aD hu,hg,asAgg,part,kW w ha',run_sizeOf w hz],.ag _ _ (by simp;omega) λk c u hc hu'=>?_⟩;have hk:k<z:=by
      rcases A4 k z with h|h
      ·exact h
      ·rw[Bt,Ai (by omega)]at hc;cases hc
     rw[Bt,Aq hk,BG]at hc;rw[Array.getElem?_extract]at hu';rw[Aq (by omega)]at hu';exact hV _ _ _ hc hu'
    ·cases h
  ·cases hp
 ·rename_i f fst cs;split at h
  ·rename_i hf;obtain⟨h,_⟩:=bW h;injection h with h;subst h
   have hf':fst=#[]:=by simpa using hf
   subst hf';refine⟨.func (.func f) #[] (cs.map a.eval),by simp[execOp,Instr.makeFunc],.fn _ _ _ (by simp) λk c u hc hu=>?_⟩;simp only[Ag,BU,Bj]at hc hu;cases hx:cs[k]? with
   |none=>simp[hx]at hc
   | some x =>
    simp only[hx,AU,Ax]at hc hu;subst hc;subst hu;exact ov x (by simp[AD,BZ hx])
  ·split at h
   ·rename_i hcs;have hcs':cs=#[]:=by simpa using hcs
    subst hcs';split at h
    ·rename_i d hd;obtain⟨h,_⟩:=bW h;injection h with h;subst h
     obtain⟨x,hx⟩:∃x,fst=#[x]:=by
      have hl:fst.toList.length=1:=by have:=congrArg List.length hd;simpa using this
      match fst,hl with
      |⟨[x]⟩,_=>exact⟨x,rfl⟩
     subst hx;simp only[BO,EZ,List.cons.injEq,and_true]at hd;have hv:=ov x (by simp[AD]);rw[hd]at hv;refine⟨.func (.func f) #[a.eval x] #[],by simp[execOp,Instr.makeFunc],.d _ _ (.fm _ _ _ ?_)⟩;cases hv with|d _ _ h=>exact h
    ·cases h
   ·cases h
 ·rename_i t s i;obtain⟨h,_⟩:=bW h;split at h
  ·rename_i hu;obtain⟨k,hk,h⟩:=Ad.1 h;obtain⟨ki,hi⟩:=iD hk (ov i (by simp[AD]));split at h
   ·rename_i h0;obtain⟨b,hb,h⟩:=Af.1 h;subst h;have hx:a.eval (.const (.string s))=.string s:=rfl;refine⟨.int .u8 b.toNat,?_,.d _ _ (.i _ _)⟩;simp[execOp,hx,hi,Instr.index,asIntOf,aD hu,h0,hb]
   ·cases h
  ·cases h
 ·rename_i t x i _;obtain⟨h,_⟩:=bW h;obtain⟨⟨m,e⟩,hp,h⟩:=Ad.1 h;obtain⟨sz,hsz,h⟩:=Ad.1 h;obtain⟨ag,hag,h⟩:=Ad.1 h;obtain⟨k,hk,h⟩:=Ad.1 h;obtain⟨cs,hcs,h⟩:=Ad.1 h;obtain⟨ki,hi⟩:=iD hk (ov i (by simp[AD]));obtain⟨vs,hx,hl,hV⟩:=xL hcs (ov x (by simp[AD]));have hu:=aAd hp;simp only at hu;split at h
  ·rename_i hb;have hb':0<=k/\k<(m:Int):=hb;cases ag
   ·simp only[Ae,Az]at h;have hlt:k.toNat*sz<vs.size:=by rw[<-hl];exact(Ao.1 h).1
    have hv:=Al hlt;refine⟨vs[k.toNat*sz],?_,hV _ _ _ h hv⟩;simp[execOp,hx,hi,Instr.index,asIntOf,aD hu,hb',run_sizeOf w hsz,part,kW w hag,hv]
   ·simp only[AH]at h;split at h
    ·rename_i hfit;injection h with h;subst h
     refine⟨.agg (vs.extract (k.toNat*sz) (k.toNat*sz+sz)),by simp[execOp,hx,hi,Instr.index,asIntOf,aD hu,hb',run_sizeOf w hsz,part,kW w hag],.ag _ _ (by simp;omega) λj c u hc hu'=>?_⟩;have hj:j<sz:=by
      rcases A4 j sz with h|h
      ·exact h
      ·rw[Bt,Ai (by omega)]at hc;cases hc
     rw[Bt,Aq hj,BG]at hc;rw[Array.getElem?_extract]at hu';rw[Aq (by omega)]at hu';exact hV _ _ _ hc hu'
    ·cases h
  ·cases h
 ·rename_i x;obtain⟨h,_⟩:=bW h;have hv:=ov x (by simp[AD]);unfold bKy at h;split at h
  ·rename_i id o hx;injection h with h;subst h
   rw[hx]at hv;generalize hu:a.eval x=u at hv;cases hv with|ptr _ _ b hι=>exact⟨.pointer (some ⟨b,o,none⟩),by simp[execOp,hu],.ptr _ _ _ hι⟩
  ·rename_i cs hx;injection h with h;subst h
   rw[hx]at hv;generalize hu:a.eval x=u at hv;cases hv with|fp _ ad f hF hcell hel=>exact⟨.pointer (some ad),by simp[execOp,hu],.fp _ _ f hF hcell hel⟩
  ·cases h
 ·obtain⟨p,_,h⟩:=Ad.1 h;obtain⟨k,_,h⟩:=Ad.1 h;obtain⟨_,_,h⟩:=Af.1 h;cases h
 ·obtain⟨p,_,h⟩:=Ad.1 h;split at h<;>cases h
 ·rename_i t x;obtain⟨h,_⟩:=bW h;obtain⟨u,hu,h⟩:=Ad.1 h;have hv:=ov x (by simp[AD]);split at h
  ·cases h
  ·rename_i hni;obtain⟨d,hd,h⟩:=Af.1 h;subst h;refine⟨.iface t (a.eval x),?_,.d _ _ (.iff _ _ _ (bYp hd hv))⟩;cases u<;>first|exact absurd rfl (hni _)|simp[execOp,Instr.makeInterface,aD hu]
 ·cases h
end
def aNn{α:Type}(zs:List α)(hz:0<zs.length):∀(n k:Nat),k<n*zs.length->(Av n zs).flatten[k]? = zs[k%zs.length]?
 |0,k,h=>by omega
 | n+1,k,h=>by
  rw[List.replicate_succ,CG];by_cases hk:k<zs.length
  ·rw[AQ hk,BY hk]
  ·rw[AJ (by omega),aNn zs hz n (k-zs.length) (by rw[B8,DW]at h;omega)];congr 1;exact(F8 (by omega)).symm
def uS{α:Type}(zs:List α)(n:Nat):(Av n zs).flatten.length=n*zs.length:=by simp
section
variable {P:Program} {F:Nat->Prop} {w:World} {ι:Nat->Option Nat}
def aWm{z:Array Value}{sz n m:Nat}(hz:z.size=sz)(h0:0<sz)(hone:z.all CC=true)(hnm:n<=m) :
  ((Av n (z.toList.map cv1)).flatten.length<=(madeCells z (m*sz)).size) /\
  ∀(k:Nat) c,(Av n (z.toList.map cv1)).flatten[k]? = some c->∃u,(madeCells z (m*sz))[k]? = some u/\V F w ι c u/\u.oneCell'=true:=by
 have hl:(z.toList.map cv1).length=sz:=by simp[hz]
 have hmul:n*sz<=m*sz:=B9 _ hnm
 refine⟨by rw[uS,hl,size_madeCells];exact hmul,λk c hk=>?_⟩
 have hlt:k<n*sz:=by have:=(Ao.1 hk).1;rwa [uS,hl]at this
 rw[aNn _ (by omega) n k (by rw[hl];exact hlt),hl]at hk
 have hm:k%sz<z.size:=by rw[hz];exact BF _ h0
 refine⟨z[k%sz],?_,aJy z (k%sz) c _ hk (Al hm),Cq.1 hone _ (Array.getElem_mem hm)⟩
 simp only[madeCells,BU,Array.getElem?_range,hz]
 rw[Aq (by omega)]
 simp[hm]
def aTl{z:Array Value}{sz n:Nat}(hz:z.size=sz)(h0:0<sz)(hone:z.all CC=true) :
  CV F w ι (Av n (z.toList.map cv1)).flatten ((Gq (n*sz)).map (z[·%z.size]!)):=by
 obtain⟨_,h2⟩:=aWm (F:=F) (w:=w) (ι:=ι) hz h0 hone (Ay n)
 have hl:(Av n (z.toList.map cv1)).flatten.length=n*sz:=by rw[uS];simp[hz]
 refine⟨by rw[hl];simp,λk c u hc hu=>?_,λu hu=>?_⟩
 ·obtain⟨u',hu',hv,_⟩:=h2 k c hc
  rw[show(madeCells z (n*sz))=((Gq (n*sz)).map (z[·%z.size]!))from rfl,hu]at hu'
  injection hu' with hu';subst hu';exact hv
 ·obtain⟨k,hk,rfl⟩:=EO.1 hu
  have hk':k<(Av n (z.toList.map cv1)).flatten.length:=by rw[hl];simpa using hk
  obtain⟨u',hu',_,ho⟩:=h2 k _ (Ab hk')
  rw[show(madeCells z (n*sz))=((Gq (n*sz)).map (z[·%z.size]!))from rfl,Al hk]at hu'
  injection hu' with hu';rw[hu'];exact ho
def aPh{e:TypeId}{cs:List AV}{vs:Array Value}(h:CV F w ι cs vs):CR F w ι (.cells e cs) (.cells vs e (0,0)) :=
 .cells _ _ _ (by have:=h.1;omega) λk c hk=>let ⟨u,h1,h2⟩:=h.get hk;⟨u,h1,h2⟩
variable [M:Mch P] {G:Ctx} {o:Oper} {Γ:Nat->AV} {C:Nat->Prop} {H:Hp} {n:Nat}
def aFn{av:AV}{ho:HO}(h:nev P o.op Γ n=some (av,some ho))(hH:H n=some ho):Y P G o Γ C H H av (·=n) bD:=by
 refine bNe hH λF w ι a hop=>?_
 have ov:∀x∈o.op.operands,V F w ι (oev Γ x) (a.eval x):=λx hx=>cH λt e=>hop t (e ▸ hx)
 obtain⟨dst,op,type,pos,after,guard⟩:=o;simp only at h ov ⊢;unfold nev at h;split at h<;>try (obtain⟨_,h⟩:=bW h;cases h;done)
 ·injection h with h;injection h with _ h;cases h
 ·injection h with h;injection h with _ h;cases h
 ·rename_i e;obtain⟨z,hz,h⟩:=Af.1 h;injection h with h1 h2;subst h1;injection h2 with h2;subst h2
  refine⟨.pointer (some ⟨w.heap.size,0,none⟩),.cells z.cells e,w.alloc (.cells z.cells e),?_,.alloc _ _,λF' w' ι' hs hι hb=>⟨.cells _ _ _ (by simp) (λk c hk=>?_),.ptr _ _ _ hι⟩⟩
  ·simp only[execOp,Instr.alloc,Sem.run_bind,fO w hz,AK,newVar,newRow,aAn,Sem.run_pure,World.alloc_eq]
  ·simp only[Ag,Bj]at hk;obtain⟨u,hu,rfl⟩:=Af.1 hk;exact⟨u,hu,bMl u⟩
 ·rename_i e x;obtain⟨cs,hcs,h⟩:=Af.1 h;injection h with h1 h2;subst h1;injection h2 with h2;subst h2
  have hc:=aCt hcs (ov x (by simp[AD]));refine⟨.pointer (some ⟨w.heap.size,0,none⟩),.cells (a.eval x).cells e,w.alloc (.cells (a.eval x).cells e),?_,.alloc _ _,λF' w' ι' hs hι hb=>⟨aPh (hc.step hs),.ptr _ _ _ hι⟩⟩;simp only[execOp,Instr.box,Sem.run_bind,newVar,newRow,aAn,AK,Sem.run_pure,World.alloc_eq]
 ·rename_i t len ps;obtain⟨e,he,h⟩:=Ad.1 h;obtain⟨sz,hsz,h⟩:=Ad.1 h;obtain⟨z,hz,h⟩:=Ad.1 h;split at h
  ·rename_i hc;obtain⟨h1,h2,h3,h4⟩:=hc;obtain⟨cs,hcs,h⟩:=Af.1 h;injection h with e1 e2;subst e1;injection e2 with e2;subst e2
   have hp:=aUm (F:=F) (w:=w) (ι:=ι) (Γ:=Γ) (a:=a) (ps:=ps) λp hp=>ov p.2 (by simp[AD];exact⟨p.1,hp⟩)
   obtain⟨us,hus,hcv⟩:=aJd _ _ _ _ _ _ (aTl (F:=F) (w:=w) (ι:=ι) (n:=len) h1 h2 h4) hp.1 hp.2 hcs;have hsize:us.size=len*sz:=by
    have hfl:∀(parts:List (Nat×AV)) (cells out:List AV) (pl:Nat->Option (Nat×Nat)),lQ pl cells parts=some out->out.length=cells.length:=by
     intro parts;induction parts with
     |nil=>intro cells out pl h;simp only[lQ,Ax]at h;rw[h]
     | cons p parts ih =>
      intro cells out pl h;obtain⟨i,x⟩:=p;simp only[lQ]at h;split at h
      ·split at h
       ·rename_i hx;rw[ih _ _ _ h,oE hx.2]
       ·cases h
      ·cases h
    have:=hfl _ _ _ _ hcs;rw[<-hcv.1,this,uS];simp[h1]
   refine⟨.slice (some ⟨w.heap.size,0,none⟩) len len,.cells us e,w.alloc (.cells us e),?_,.alloc _ _,λF' w' ι' hs hι hb=>⟨aPh (hcv.step hs),?_⟩⟩
   ·have hf:Instr.fill (λi=>some (i*sz,sz)) ((Gq (len*sz)).map (z.cells[·%z.cells.size]!)) (ps.map λp=>(p.1,a.eval p.2)).toList=some us:=hus;have hbig:¬(len*sz>2^24):=by omega
    by_cases h0:len*sz=0
    ·simp only[h0,Gp,Array.map_empty]at hf;simp only[execOp,Instr.buildSlice,Sem.run_bind,aD (fE he),AK,run_sizeOf w hsz,h0,AH,Sem.run_pure,Gp,Array.map_empty];rw[Ai (by omega)];simp only[Sem.run_bind,Sem.run_pure,AK,hf];simp[newRow]
    ·simp only[execOp,Instr.buildSlice,Sem.run_bind,aD (fE he),AK,run_sizeOf w hsz];rw[Ai hbig,Ai h0];simp only[Sem.run_bind,Sem.run_pure,AK,fO w hz,hf];simp[newRow]
   ·have:=V.own (F:=F') (w:=w') (ι:=ι') n 0 len sz w.heap.size len us e hι hb (by rw[hsize];simp) (Ay _) (by
     have hx:len*1<=len*sz:=Nat.mul_le_mul_left _ (by omega);simp only[maxLen];omega)
    simpa using this
  ·cases h
 ·rename_i t l c;obtain⟨e,he,h⟩:=Ad.1 h;obtain⟨sz,hsz,h⟩:=Ad.1 h;obtain⟨z,hz,h⟩:=Ad.1 h;obtain⟨y,hy,h⟩:=Ad.1 h;obtain⟨x,hx,h⟩:=Ad.1 h;obtain⟨b,hb',h⟩:=Ad.1 h;split at h
  ·rename_i hc;obtain⟨h1,h2,h3,h4,h5,h6,h7⟩:=hc;injection h with h;injection h with e1 e2;subst e1;injection e2 with e2;subst e2
   obtain⟨kl,hl⟩:=iD hx (ov l (by simp[AD]));obtain⟨kc,hcc⟩:=iD hb' (ov c (by simp[AD]));obtain⟨i,hi,rfl⟩:=Af.1 hsz;have hz':i.zero=some z:=by obtain⟨j,hj,hjz⟩:=Ad.1 hz;rw[hi]at hj;injection hj with hj;subst hj;exact hjz
   have hy':i.bytes=y:=by obtain⟨j,hj,hjz⟩:=Af.1 hy;rw[hi]at hj;injection hj with hj;subst hj;exact hjz
   have hr:=bEw (P:=P) w t e i z (fE he) hi hz' kl kc x b h4 h5 (by rw[hy'];exact h6) h7;refine⟨.slice (some ⟨w.heap.size,0,none⟩) x.toNat b.toNat,_,_,?_,.alloc w (.cells (madeCells z.cells (b.toNat*i.size)) e),λF' w' ι' hs hι hb=>⟨?_,?_⟩⟩
   ·simp only[execOp,Sem.run_bind,hl,hcc,hr];rfl
   ·obtain⟨q1,q2⟩:=aWm (F:=F') (w:=w') (ι:=ι') (z:=z.cells) (n:=x.toNat) (m:=b.toNat) h1 h2 h3 (by omega);exact .cells _ _ _ q1 λk c hk=>let ⟨u,u1,u2,_⟩:=q2 k c hk;⟨u,u1,u2⟩
   ·have:=V.own (F:=F') (w:=w') (ι:=ι') n 0 x.toNat i.size w.heap.size b.toNat _ e hι hb (by rw[size_madeCells];simp) (by omega) (by simp only[maxLen];omega);simpa using this
  ·cases h
 ·split at h
  ·obtain⟨_,h⟩:=bW h;cases h
  ·split at h
   ·split at h
    ·obtain⟨_,h⟩:=bW h;cases h
    ·cases h
   ·cases h
 ·rename_i t r;obtain⟨p,hp,h⟩:=Ad.1 h;obtain⟨k,_,h⟩:=Ad.1 h;obtain⟨i,hi,h⟩:=Af.1 h;injection h with e1 e2;subst e1;injection e2 with e2;subst e2
  have hu:P.underlying t=some (.map p.1 p.2):=by
   unfold tmp at hp;split at hp
   ·injection hp with hp;subst hp;assumption
   ·cases hp
  refine⟨.map (some w.heap.size),.map #[] 0,w.alloc (.map #[] 0),?_,.alloc _ _,λF' w' ι' hs hι hb=>⟨.map _ _ _ _ rfl (MapKept.stamped_empty 0) λj x h=>by simp at h,.mp _ _ hι⟩⟩;cases r with
  |none=>simp[execOp,Instr.makeMap]
  | some x =>
   obtain⟨kk,hx⟩:=iD hi (ov x (by simp[AD]));simp[execOp,hx,Instr.makeMap,aD hu,asInt,asIntOf]
 ·rename_i t x;obtain⟨p,hp,h⟩:=Ad.1 h;split at h
  case h_2=>cases h
  rename_i k ks ds hx;injection h with h;injection h with e1 e2;subst e1;injection e2 with e2;subst e2
  have hu:P.underlying t=some (.map p.1 p.2):=by
   unfold tmp at hp;split at hp
   ·injection hp with hp;subst hp;assumption
   ·cases hp
  have hv:=ov x (by simp[AD]);rw[hx]at hv;generalize hxe:a.eval x=u at hv;cases hv with|d _ _ hv=>cases hv with|mp _ _ _ b ents clock hF hb hst hl hl' hk hds =>
  refine⟨.pointer (some ⟨w.heap.size,0,none⟩),.mapIter (some b) clock #[] clock,w.alloc (.mapIter (some b) clock #[] clock),?_,.alloc _ _,λF' w' ι' hs hι hb'=>⟨?_,.ptr _ _ _ hι⟩⟩
  ·simp[execOp,hxe,aDu w t p.1 p.2 b ents clock hu hb]
  ·have hst':=(MapKept.stamped_iff ents clock).1 hst;have hlf:leftOf ents #[]=ents:=by unfold leftOf;exact Array.filter_eq_self.2 λx _=>by simp
   refine .iter k none _ b clock clock clock #[] ents (hs.F_le _ hF) ((hs.blk _ hF).trans hb) hst'.1 ⟨Ay _,Ay _⟩ hst'.2.1 (by rw[hlf];simp;omega) (λj x hj=>?_) (λx h=>by cases h);obtain⟨h1,h2⟩:=D6.1 hj;obtain⟨en,h3,h4⟩:=hk j _ h1;exact⟨en,by rw[hlf];exact h3,h4,(hds j _ en h2 h3).step hs.F_le hs.blk⟩
 ·cases h
end
def uQ(P:Program)(H:Hp)(t:TypeId):AV->Option AV
 | .ptr id off=>(cA P t).bind λag=>match H id with
  |some (.cells _ cs)=>if ag then(tsz P t).bind λsz=>if off+sz<=cs.length then some (.ag ((cs.drop off).take sz))else none else cs[off]?
  |_=>none
 |.fp cs=>(cA P t).bind λag=>if ag then(tsz P t).bind λsz=>if sz<=cs.length then some (.ag ((cs.take sz).map .d))else none else(cs[0]?).map .d
 |_=>none
def aDs(H:Hp)(sz:Nat):AV->Option (Nat×List AV)
 |.nil=>some (0,[])
 | .own id off len sz'=>match H id with
  |some (.cells _ cs)=>if sz'=sz/\(off+len)*sz<=cs.length/\((cs.drop (off*sz)).take (len*sz)).all one=true then some (len,(cs.drop (off*sz)).take (len*sz))else none
  |_=>none
 |.d (.sl els)|.fd els=>if fH sz els=true/\(els.flatten.map AV.d).all one=true then some (els.length,els.flatten.map .d)else none
 |_=>none
section
variable {P:Program} {F:Nat->Prop} {w:World} {ι:Nat->Option Nat} {G:Ctx} {C:Nat->Prop} {H K:Hp}
def HR.cells(hR:HR G F w ι C K)(hHK:∀id o,H id=some o->K id=some o){id b:Nat}(hι:ι id=some b){e:TypeId}{cs:List AV}(hH:H id=some (.cells e cs)) :
  ∃cur,w.heap[b]? = some (.cells cur e (0,0))/\cs.length<=cur.size/\∀(k:Nat) c,cs[k]? = some c->∃u,cur[k]? = some u/\V F w ι c u:=by
 obtain⟨ob,h2,h3⟩:=hR.obj id b _ hι (hHK _ _ hH)
 cases h3 with|cells _ _ cur hl h=>exact⟨cur,h2,hl,h⟩
def oZ{t:TypeId}{sz:Nat}{a:Addr}(f:Nat->Value)(ht:cA P t=some true)(hs:tsz P t=some sz)(h:∀j,j<sz->w.cell? (a.add j)=some (f j)) :
  aK P (loadVar t a) w=.ok (.agg ((AN sz).map f).toArray) w:=by
 simp only[loadVar,Sem.run_bind,kW w ht,AK,AH,run_sizeOf w hs,sP w a sz f h,Sem.run_pure]
def oY{t:TypeId}{a:Addr}{v:Value}(ht:cA P t=some false)(h:w.cell? a=some v):aK P (loadVar t a) w=.ok v w:=by simp only[loadVar,Sem.run_bind,kW w ht,AK];exact aEx h
def aIv(hR:HR G F w ι C K)(hHK:∀id o,H id=some o->K id=some o){t:TypeId}{x r:AV}{v:Value}(h:uQ P H t x=some r)(hv:V F w ι x v) :
  ∃u,aK P (E0 t v) w=.ok u w/\V F w ι r u:=by
 unfold uQ at h
 split at h
 ·rename_i id off
  obtain⟨ag,hag,h⟩:=Ad.1 h
  cases hv with|ptr _ _ b hι =>
  split at h
  ·rename_i e cs hH
   obtain⟨cur,hb,hl,hc⟩:=hR.cells hHK hι hH
   have hcell:∀j,w.cell? ((⟨b,off,none⟩:Addr).add j)=cur[off+j]? := λj=>by rw[gY];exact cell_of_row w b _ cur e (0,0) hb
   cases ag
   ·simp only[Ae,Az]at h
    obtain⟨u,hu,hv⟩:=hc off r h
    refine⟨u,?_,hv⟩
    have h0:=hcell 0
    simp only[B6]at h0
    have:(⟨b,off,none⟩:Addr).add 0=⟨b,off,none⟩:=by simp[Addr.add]
    rw[this,hu]at h0
    simp only[E0,CE,Sem.run_bind,Sem.run_pure,AK,oY hag h0]
   ·simp only[AH]at h
    obtain⟨sz,hsz,h⟩:=Ad.1 h
    split at h
    ·rename_i hfit
     injection h with h;subst h
     refine⟨.agg ((AN sz).map λj=>cur.getD (off+j) undef).toArray,?_,.ag _ _ ?_ λk c u hk hu=>?_⟩
     ·simp only[E0,CE,Sem.run_bind,Sem.run_pure,AK]
      exact oZ _ hag hsz λj hj=>by rw[hcell,Al (by omega)];simp[show off+j<cur.size by omega]
     ·simp;omega
     ·rw[Bt]at hk
      split at hk
      ·rename_i hks
       rw[BG]at hk
       obtain⟨u',hu',hv⟩:=hc _ _ hk
       simp only[Cm,Ag,Bq hks,AU,Ax]at hu
       subst hu
       have hlt:=(AX.1 hu').1
       rw[Al hlt]at hu'
       injection hu' with hu'
       simpa[hlt,hu']using hv
      ·cases hk
    ·cases h
  ·cases h
 ·rename_i cs
  obtain⟨ag,hag,h⟩:=Ad.1 h
  cases hv with|fp _ ad f hF hcell hel =>
  cases ag
  ·simp only[Ae,Az]at h
   obtain⟨c,hc,rfl⟩:=Af.1 h
   have hlt:0<cs.length:=(Ao.1 hc).1
   refine⟨f 0,?_,.d _ _ (hel 0 c hc)⟩
   have h0:=hcell 0 hlt
   have:ad.add 0=ad:=by simp[Addr.add]
   rw[this]at h0
   simp only[E0,CE,Sem.run_bind,Sem.run_pure,AK,oY hag h0]
  ·simp only[AH]at h
   obtain⟨sz,hsz,h⟩:=Ad.1 h
   split at h
   ·rename_i hfit
    injection h with h;subst h
    refine⟨.agg ((AN sz).map f).toArray,?_,.ag _ _ ?_ λk c u hk hu=>?_⟩
    ·simp only[E0,CE,Sem.run_bind,Sem.run_pure,AK]
     exact oZ _ hag hsz λj hj=>hcell j (by omega)
    ·simp;omega
    ·rw[Ag]at hk
     obtain⟨d,hd,rfl⟩:=Af.1 hk
     rw[Bt]at hd
     split at hd
     ·rename_i hks
      simp only[Cm,Ag,Bq hks,AU,Ax]at hu
      subst hu
      exact .d _ _ (hel k d hd)
     ·cases hd
   ·cases h
 ·cases h
def bDn(hR:HR G F w ι C K)(hHK:∀id o,H id=some o->K id=some o){sz m:Nat}{x:AV}{cs:List AV}{v:Value}(h:aDs H sz x=some (m,cs))(hv:V F w ι x v) :
  ∃ad c,∃news:List Value,v=.slice ad m c/\CV F w ι cs news.toArray/\cs.length=m*sz/\(∀a,ad=some a->∀j u,news[j]? = some u->w.cell? (a.add j)=some u)/\(ad=none->m=0):=by
 have data:∀(els:List (List D)) (ad:Option Addr) (c:Nat),VD F w (.sl els) (.slice ad els.length c)->fH sz els=true->(els.flatten.map AV.d).all one=true ->
   ∃news:List Value,CV F w ι (els.flatten.map .d) news.toArray/\(els.flatten.map AV.d).length=els.length*sz/\(∀a,ad=some a->∀j u,news[j]? = some u->w.cell? (a.add j)=some u)/\(ad=none->els.length=0):=by
  intro els ad c hh hok hone
  have hall:=aDj hh (qE hok)
  have hlen:els.flatten.length=els.length*sz:=by
   clear hh hok hone;induction els with
   |nil=>simp
   | cons a l ih =>
    rw[CG,Bc,ih λcs hcs=>hall cs (AE _ hcs),hall a (AI ..),Ak,B8,DW,EE]
  cases hh with
  |sl0 ad c=>exact⟨[],⟨rfl,λk c u hc=>by simp at hc,λu hu=>by simp at hu⟩,by simp,λa _ j u hu=>by simp at hu,λ_=>rfl⟩
  | sl _ a n c sz' f hn hc hsz hF hcell hel =>
   have hes:els=[]\/sz'=sz:=by
    cases els with
    |nil=>exact .inl rfl
    |cons a l=>exact .inr (by rw[<-hsz a (AI ..),hall a (AI ..)])
   rcases hes with rfl|rfl
   ·exact⟨[],⟨rfl,λk c u hc=>by simp at hc,λu hu=>by simp at hu⟩,by simp,λa _ j u hu=>by simp at hu,λ_=>rfl⟩
   ·have hget:∀(l:List (List D)),(∀cs∈l,cs.length=sz')->∀(k:Nat) d,l.flatten[k]? = some d->∃cs,l[k/sz']? = some cs/\cs[k%sz']? = some d:=by
     intro l;induction l with
     |nil=>intro _ k d h;simp at h
     | cons a l ih =>
      intro hl k d h;have ha:a.length=sz':=hl a (AI ..);rw[CG]at h;by_cases hk:k<sz'
      ·rw[AQ (by omega)]at h;exact⟨a,by rw[Nat.div_eq_of_lt hk];rfl,by rw[BY hk];exact h⟩
      ·rw[AJ (by omega),ha]at h;obtain⟨cs,h1,h2⟩:=ih (λcs hcs=>hl cs (AE _ hcs)) _ _ h;by_cases hz:sz'=0
       ·subst hz;simp only[Nat.div_zero]at h1 ⊢;rw[Nat.sub_zero]at h2;exact(by
         have:cs.length=0:=hl cs (AE _ (Aj h1));have:=(Ao.1 h2).1;omega)
       ·refine⟨cs,?_,by rw[F8 (by omega)];exact h2⟩;rw[Nat.div_eq_sub_div (by omega) (by omega),BB];exact h1
    refine⟨(AN (els.length*sz')).map f,aDq hone (by rw[Bl,hlen];simp) (vX λk c u hk hu=>?_),by rw[Bl];exact hlen,λa' ha j u hu=>?_,λh=>by cases h⟩
    ·obtain⟨cs,h1,h2⟩:=hget els hsz k c hk
     have:=hel _ _ _ _ h1 h2
     have hlt:k<els.length*sz':=by rw[<-hlen];exact(Ao.1 hk).1
     simp only[Cm,Ag,Bq hlt,AU,Ax]at hu
     subst hu
     rwa [Nat.mul_comm,Nat.div_add_mod]at this
    ·injection ha with ha;subst ha
     have hlt:j<els.length*sz':=by have:=(Ao.1 hu).1;simpa using this
     simp only[Ag,Bq hlt,AU,Ax]at hu
     subst hu
     exact hcell j (by omega)
 unfold aDs at h
 split at h
 ·injection h with h;injection h with h1 h2;subst h1;subst h2
  cases hv
  exact⟨none,0,[],rfl,⟨rfl,λk c u hc=>by simp at hc,λu hu=>by simp at hu⟩,by simp,(λa ha=>by cases ha),λ_=>rfl⟩
 ·rename_i id off len sz'
  cases hv with|own _ _ _ _ b cap cur' e' hι hb' hcap hl' hm' =>
  split at h
  ·rename_i e cs' hH
   split at h
   ·rename_i hc
    obtain⟨rfl,hfit,hone⟩:=hc
    injection h with h;injection h with h1 h2;subst h1;subst h2
    obtain⟨cur,hb,hl,hcc⟩:=hR.cells hHK hι hH
    rw[hb]at hb';injection hb' with hb';injection hb' with e1 e2;subst e1;subst e2
    have hfit':off*sz'+len*sz'<=cs'.length:=by rw[<-B8];exact hfit
    refine⟨_,_,(cur.toList.drop (off*sz')).take (len*sz'),rfl,aDq hone (by simp;omega) λk c u hk hu=>?_,by simp;omega,λa ha j u hu=>?_,λh=>by cases h⟩
    ·rw[Bt]at hk
     split at hk
     ·rename_i hks
      rw[BG]at hk
      obtain⟨u',hu',hv⟩:=hcc _ _ hk
      simp only[Cm,Bt,Aq hks,BG,Bj]at hu
      rw[hu']at hu;injection hu with hu;subst hu;exact hv
     ·cases hk
    ·injection ha with ha;subst ha
     rw[Bt]at hu
     split at hu
     ·rw[BG,Bj]at hu
      rw[gY,cell_of_row w b _ cur e (0,0) hb];exact hu
     ·cases hu
   ·cases h
  ·cases h
 ·rename_i els
  split at h
  ·rename_i hc
   injection h with h;injection h with h1 h2;subst h1;subst h2
   cases hv with|d _ _ hh =>
   obtain⟨ad,c,rfl,_⟩:=nN hh
   obtain⟨news,h1,h2,h3,h4⟩:=data els ad c hh hc.1 hc.2
   exact⟨ad,c,news,rfl,h1,h2,h3,h4⟩
  ·cases h
 ·rename_i els
  split at h
  ·rename_i hc
   injection h with h;injection h with h1 h2;subst h1;subst h2
   obtain⟨ad,rfl,hh⟩:=nM hv
   obtain⟨news,h1,h2,h3,h4⟩:=data els ad _ hh hc.1 hc.2
   exact⟨ad,_,news,rfl,h1,h2,h3,h4⟩
  ·cases h
 ·cases h
end
def aEh(P:Program)(H:Hp)(t:TypeId)(s x:AV)(n:Nat):Option (AV×Option HO×List Nat) :=
 (tel P t).bind λe=>(tsz P e).bind λsz=>(tby P e).bind λbt=>(tz P e).bind λz=>(aDs H sz x).bind λp =>
  if z.cells.size=sz/\0<sz then
   match s with
   |.nil=>if p.1=0 then some (.nil,none,[])else if p.1*bt<=140737488355328/\p.1<=maxLen then some (.own n 0 p.1 sz,some (.cells e p.2),[])else none
   | .own id off len sz'=>match H id with
    | some (.cells e' cs)=>if off=0/\sz'=sz/\e'=e/\cs.length=len*sz/\(len+p.1)*bt<=140737488355328/\len+p.1<=maxLen then
      some (.own n 0 (len+p.1) sz,some (.cells e (cs++p.2)),[id])else none
    |_=>none
   | .fd els => if 0 < p.1 /\ fH sz els = true /\ (els.flatten.map AV.d).all one = true /\ (els.length + p.1)*bt <= 140737488355328 /\ els.length + p.1 <= maxLen then
         some (.own n 0 (els.length+p.1) sz,some (.cells e (els.flatten.map .d++p.2)),[])else if p.1=0 then some (.fd els,none,[])else none
   |_=>none
  else none
section
variable {P:Program} {F:Nat->Prop} {w:World} {ι:Nat->Option Nat} {G:Ctx} {C:Nat->Prop} {H K:Hp}
def HR.inplace(hR:HR G F w ι C K){id b n:Nat}{e:TypeId}{cs news:List AV}{cur cur':Array Value}{w':World}(hC:¬C id)(hι:ι id=some b)(hn:ι n=none)
  (hK:K id=some (.cells e cs)) (hKn:K n=some (.cells e (cs++news))) (hb:w.heap[b]? = some (.cells cur e (0,0))) (hb':w'.heap[b]? = some (.cells cur' e (0,0)))
  (hs:cur'.size=cur.size) (hfit:cs.length+news.length<=cur'.size) (hold:∀k,k<cs.length->cur'[k]? = cur[k]?)
  (hnew:∀(j:Nat) c,news[j]? = some c->∃u,cur'[cs.length+j]? = some u/\V F w ι c u)
  (hsize:w'.heap.size=w.heap.size) (hoth:∀k,k≠b->w'.heap[k]? = w.heap[k]?) (hos:w'.os=w.os) (htp:w'.tape=w.tape) (hout:w'.output=w.output) :
  HR G F w' (upd ι n (some b)) (λi=>C i\/i=id) K/\Step F w ι F w' (upd ι n (some b)):=by
 have hnF:¬F b:=(hR.place id b hι).2.2 hC
 have hst:Step F w ι F w' (upd ι n (some b)):=by
  refine⟨λ_ h=>h,λk hk=>hoth k (λe=>hnF (e ▸ hk)),λi k hi=>by rw[upd_ne _ _ (λhe=>by rw[he,hn]at hi;cases hi)];exact hi,λi k c0 e0 hi hk=>?_⟩;by_cases hkb:k=b
  ·subst hkb;rw[hb]at hk;injection hk with hk;injection hk with h1 h2;subst h1;subst h2
   exact⟨cur',hb',hs⟩
  ·exact⟨c0,(hoth k hkb).trans hk,rfl⟩
 have split_ι:∀i k,upd ι n (some b) i=some k->(i=n/\k=b)\/(i≠n/\ι i=some k):=by
  intro i k hi;by_cases h:i=n
  ·subst h;rw[upd_same]at hi;injection hi with hi;exact .inl ⟨rfl,hi.symm⟩
  ·rw[upd_ne _ _ h]at hi;exact .inr ⟨h,hi⟩
 have shp:∀(k:Nat) (c0:Array Value) (e0:TypeId),w.heap[k]? = some (C9 c0 e0 (0,0))->∃c1:Array Value,w'.heap[k]? = some (C9 c1 e0 (0,0))/\c1.size=c0.size:=λk c0 e0 hk=>by
  by_cases hkb:k=b
  ·subst hkb;rw[hb]at hk;injection hk with hk;injection hk with h1 h2;subst h1;subst h2
   exact⟨cur',hb',hs⟩
  ·exact⟨c0,(hoth k hkb).trans hk,rfl⟩
 refine⟨⟨hR.kept.trans ⟨hos,htp,hout,by omega,λk hk hm=>hoth k λe=>?_,λk c0 e0 hk hc=>shp k c0 e0 hc⟩,λk hk=>by rw[hsize];exact hR.F_lt k hk,hR.F_ok,?_,?_,?_,?_⟩,hst⟩
 ·subst e
  rcases(hR.place id k hι).1 with h|h
  ·exact hm h
  ·omega
 ·intro i k hi
  rcases split_ι i k hi with ⟨rfl,rfl⟩|⟨_,hi⟩
  ·obtain⟨h1,h2,_⟩:=hR.place id k hι
   exact⟨h1,by omega,λ_=>hnF⟩
  ·obtain⟨h1,h2,h3⟩:=hR.place i k hi
   exact⟨h1,by omega,λhc=>h3 λx=>hc (.inl x)⟩
 ·intro i k o hi ho
  rcases split_ι i k hi with ⟨rfl,rfl⟩|⟨_,_⟩
  ·rw[hKn]at ho;injection ho with ho;subst ho
   refine⟨_,hb',.cells _ _ _ (by simp;omega) λj c hj=>?_⟩
   by_cases hjl:j<cs.length
   ·rw[AQ hjl]at hj
    obtain⟨ob,h2,h3⟩:=hR.obj id k _ hι hK
    rw[hb]at h2;injection h2 with h2;subst h2
    cases h3 with|cells _ _ _ hl h =>
    obtain⟨u,hu,hv⟩:=h j c hj
    exact⟨u,(hold j hjl).trans hu,hv.step hst⟩
   ·rw[AJ (by omega)]at hj
    obtain⟨u,hu,hv⟩:=hnew _ _ hj
    exact⟨u,by rw[<-hu];congr 1;omega,hv.step hst⟩
  ·rename_i hi2
   obtain⟨ob,h2,h3⟩:=hR.obj i k o hi2 ho
   by_cases hkb:k=b
   ·subst hkb
    rw[hb]at h2;injection h2 with h2;subst h2
    have hlen:=hR.len id i k _ _ hι hi2 hC hK ho
    cases h3 with|cells _ cs' _ hl h =>
    simp only[HO.len]at hlen
    refine⟨_,hb',.cells _ _ _ (by omega) λj c hj=>?_⟩
    obtain⟨u,hu,hv⟩:=h j c hj
    have:j<cs'.length:=(Ao.1 hj).1
    exact⟨u,(hold j (by omega)).trans hu,hv.step hst⟩
   ·exact⟨ob,(hoth k hkb).trans h2,h3.step hst⟩
 ·intro i i' k hi hi' hc hc'
  rcases split_ι i k hi with ⟨h1,h2⟩|⟨h1,h2⟩<;>rcases split_ι i' k hi' with ⟨h1',h2'⟩|⟨h1',h2'⟩
  ·rw[h1,h1']
  ·subst h2;exact absurd (hR.inj i' id k h2' hι (λx=>hc' (.inl x)) hC) λx=>hc' (.inr x)
  ·subst h2';exact absurd (hR.inj i id k h2 hι (λx=>hc (.inl x)) hC) λx=>hc (.inr x)
  ·exact hR.inj i i' k h2 h2' (λx=>hc (.inl x)) λx=>hc' (.inl x)
 ·intro i i' k o o' hi hi' hc ho ho'
  rcases split_ι i k hi with ⟨h1,h2⟩|⟨h1,h2⟩<;>rcases split_ι i' k hi' with ⟨h1',h2'⟩|⟨h1',h2'⟩
  ·rw[h1]at ho;rw[h1',ho]at ho';injection ho' with h;subst h;exact Ay _
  ·subst h2
   rw[h1,hKn]at ho;injection ho with ho;subst ho
   have:=hR.len id i' k _ _ hι h2' hC hK ho'
   simp only[HO.len]at this ⊢
   simp;omega
  ·subst h2';exact absurd (hR.inj i id k h2 hι (λx=>hc (.inl x)) hC) λx=>hc (.inr x)
  ·exact hR.len i i' k o o' h2 h2' (λx=>hc (.inl x)) ho ho'
def kC{t e:TypeId}{sz:Nat}(ht:tel P t=some e)(hs:tsz P e=some sz)(ty:TypeId)(b:Option Addr)(n cap c:Nat)(hc:n<=cap)(w:World) :
  aK P (B0 #[t,t] ty #[.slice b n cap,.slice none 0 c]) w=.ok (.slice b n cap) w:=by
 cases b<;>simp[B0,aD (fE ht),run_sizeOf w hs,EM,hc,Dz,storeCells]
def pA{t e:TypeId}{sz:Nat}(ht:tel P t=some e)(hs:tsz P e=some sz)(ty:TypeId)(a:Addr)(c:Nat)(w:World) :
  aK P (B0 #[t,t] ty #[.slice none 0 0,.slice (some a) 0 c]) w=.ok (.slice none 0 0) w:=by
 simp[B0,aD (fE ht),run_sizeOf w hs,EM,Dz,loadCells,loadCellsFrom]
def wL{t e:TypeId}{sz:Nat}(ht:tel P t=some e)(hs:tsz P e=some sz)(ty:TypeId)(b a:Addr)(n c:Nat)(w:World) :
  aK P (B0 #[t,t] ty #[.slice (some b) n n,.slice (some a) 0 c]) w=.ok (.slice (some b) n n) w:=by
 simp[B0,aD (fE ht),run_sizeOf w hs,EM,Dz,loadCells,loadCellsFrom,storeCells]
variable [M:Mch P] {Γ:Nat->AV} {n:Nat} {o:Oper}
omit M in
def bXn{e:TypeId}{sz bt:Nat}{z:Value}(h1:tsz P e=some sz)(h2:tby P e=some bt)(h3:tz P e=some z):∃i,P.info? e=some i/\i.zero=some z/\i.size=sz/\i.bytes=bt:=by
 obtain⟨i,hi,rfl⟩:=Af.1 h1;obtain⟨j,hj,rfl⟩:=Af.1 h2;obtain⟨k,hk,hz⟩:=Ad.1 h3;rw[hi]at hj hk;injection hj with hj;injection hk with hk;subst hj;subst hk
 exact⟨i,hi,hz,rfl,rfl⟩
def aKe{s x:Operand}{t:TypeId}{av:AV}{nb:Option HO}{con:List Nat}(ho:o.op=.call { callee:=.builtin .append,args:=#[s,x],argTypes:=#[t,t] })
  (hHK:∀id ob,H id=some ob->K id=some ob) (h:aEh P H t (oev Γ s) (oev Γ x) n=some (av,nb,con)) (hK:∀ob,nb=some ob->K n=some ob) (hcon:∀id∈con,¬C id) :
  Y P G o Γ C K K av (λi=>nb.isSome=true/\i=n) (λi=>i∈con):=by
 intro F w ι a hok hR hop hnew next hnext
 have os:V F w ι (oev Γ s) (a.eval s):=cH λt e=>hop t (by rw[ho];simp[AD,Bg,e])
 have ox:V F w ι (oev Γ x) (a.eval x):=cH λt e=>hop t (by rw[ho];simp[AD,Bg,e])
 unfold aEh at h
 obtain⟨e,he,h⟩:=Ad.1 h
 obtain⟨sz,hsz,h⟩:=Ad.1 h
 obtain⟨bt,hbt,h⟩:=Ad.1 h
 obtain⟨z,hz,h⟩:=Ad.1 h
 obtain⟨⟨m,ncs⟩,hsrc,h⟩:=Ad.1 h
 obtain⟨i,hi,hiz,his,hib⟩:=bXn hsz hbt hz
 obtain⟨ad,c,news,hxv,hcv,hncl,hcell,hnil⟩:=bDn hR hHK hsrc ox
 have hnl:news.length=m*i.size:=by have:=hcv.1;simp only[Ar]at this;rw[his,<-hncl,this]
 have h1c:∀u∈news,u.oneCell'=true:=λu hu=>hcv.2.2 u (by simpa using hu)
 split at h
 case isFalse=>cases h
 rename_i hzs
 obtain⟨hzs,hpos⟩:=hzs
 -- what an operation that gives this value in this world does
 have fin:∀(u:Value) (w':World) (F':Nat->Prop) (ι':Nat->Option Nat),aK P (B0 #[t,t] o.type #[a.eval s,a.eval x]) w=.ok u w'->HR G F' w' ι' (λj=>C j\/j∈con) K ->
   Step F w ι F' w' ι'->(∀id b,ι' id=some b->ι id=some b\/(nb.isSome=true/\id=n))->(∀id,(nb.isSome=true/\id=n)->∃b,ι' id=some b)->V F' w' ι' av u->wpX P o a w next:=by
  intro u w' F' ι' hr hR' hs' hd hd' hv
  unfold wpX
  simp only[execOp,ho,resolve,invoke,builtin,Sem.run_bind,Sem.run_pure,AK,List.map_toArray,BO,EZ,hr]
  exact hnext F' w' ι' u hR' hs' hd hd' hv
 -- a new block
 have grown:∀(vals:List Value) (zs:Array Value) (cells:List AV) (cap l:Nat),nb=some (.cells e cells)->av=.own n 0 l sz->(cells.length=vals.length/\∀(k:Nat) c,cells[k]? = some c->∃u,vals[k]? = some u/\V F w ι c u)->l<=cap->cap<=maxLen->cap*sz<=(vals.toArray++zs).size ->
   aK P (B0 #[t,t] o.type #[a.eval s,a.eval x]) w=.ok (.slice (some ⟨w.heap.size,0,none⟩) l cap) (w.drew.alloc (.cells (vals.toArray++zs) e))->wpX P o a w next:=by
  intro vals zs cells cap l hnb hav hcvv hlc hcm hcs hrun
  subst hav
  have h0:ι n=none:=hnew n ⟨by rw[hnb];rfl,rfl⟩
  have hw:=jG.drew w (.cells (vals.toArray++zs) e)
  have hs:=sZ hR n h0 hw
  have hcr:CR F (w.drew.alloc (.cells (vals.toArray++zs) e)) (upd ι n (some w.heap.size)) (.cells e cells) (.cells (vals.toArray++zs) e (0,0)):=by
   refine .cells _ _ _ (by have:=hcvv.1;simp at this ⊢;omega) λk c hk=>?_
   obtain⟨u,hu,hv⟩:=hcvv.2 k c hk;have hlt:=(Ao.1 hu).1;exact⟨u,by rw[B3 (by simpa using hlt)];simpa using hu,hv.step hs⟩
  refine fin _ _ F _ hrun ((hR.alloc n h0 hw _ (hK _ hnb) hcr).weakC λ_ h=>.inl h) hs (λid b e=>?_) (λid h=>⟨w.heap.size,by rw[h.2,upd_same]⟩) ?_
  ·by_cases hid:id=n
   ·exact .inr ⟨by rw[hnb];rfl,hid⟩
   ·rw[upd_ne _ _ hid]at e;exact .inl e
  ·have:=V.own (F:=F) (w:=w.drew.alloc (.cells (vals.toArray++zs) e)) (ι:=upd ι n (some w.heap.size)) n 0 l sz w.heap.size cap _ e (upd_same _ _ _) hw.new (by rw[AA];exact hcs) hlc hcm
   simpa using this
 have cvw:CV F w ι ncs news.toArray->(ncs.length=news.length/\∀(k:Nat) c,ncs[k]? = some c->∃u,news[k]? = some u/\V F w ι c u):=λhc =>
  ⟨by simpa using hc.1,λk c hk=>let ⟨u,hu,hv⟩:=hc.get hk;⟨u,by simpa using hu,hv⟩⟩
 split at h
 ·-- nil
  rename_i hsn
  rw[hsn]at os
  generalize hsv:a.eval s=sv at os fin grown
  cases os
  simp only at h
  by_cases hm:m=0
  ·rw[Aq hm]at h
   injection h with h;injection h with h1 h2;injection h2 with h2 h3;subst h1;subst h2;subst h3;subst hm
   have hrun:aK P (B0 #[t,t] o.type #[.slice none 0 0,a.eval x]) w=.ok (.slice none 0 0) w:=by
    rw[hxv];cases ad with
    |none=>exact kC he hsz _ _ _ _ _ (Ay _) _
    |some ad=>exact pA he hsz _ _ _ _
   exact fin _ _ F ι hrun (hR.congrC λid=>⟨λh=>.inl h,λh=>h.elim (λx=>x) (λh=>by cases h)⟩) (.refl _ _ _) (λ_ _ h=>.inl h) (λ_ h=>by simp at h) .nil
  ·rw[Ai hm]at h
   split at h
   ·rename_i hb
    injection h with h;injection h with h1 h2;injection h2 with h2 h3;subst h1;subst h2;subst h3
    cases ad with
    |none=>exact absurd (hnil rfl) hm
    | some ad =>
     have hr:=pW (P:=P) w t o.type e i z (fE he) hi hiz ad m c news hnl (hcell _ rfl) (by omega) (by have:=hb.2;simp only[maxLen]at this;omega) (by rw[hib];omega)
     rw[<-hxv]at hr
     refine grown news _ ncs _ m rfl rfl (cvw hcv) (grownCap_ge _ _ _ _) (grownCap_le_maxLen _ _ _ _ hb.2) ?_ hr
     have h1:=grownCap_ge w m 0 e
     simp only[ER,Ar,size_zeroCells,hzs,hnl,his,<-B8]
     rw[show m+(grownCap w m 0 e-m)=grownCap w m 0 e from by omega]
     exact Ay _
   ·cases h
 ·-- own
  rename_i id off len sz' hsn
  rw[hsn]at os
  generalize hsv:a.eval s=sv at os fin grown
  cases os with|own _ _ _ _ b cap cur0 e0 hι hb0 hcap hlc hcm =>
  split at h
  ·rename_i e' cs hH
   split at h
   ·rename_i hc
    obtain⟨rfl,rfl,rfl,hcl,hby,hml⟩:=hc
    injection h with h;injection h with h1 h2;injection h2 with h2 h3;subst h1;subst h2;subst h3
    obtain⟨cur,hb,hl,hcc⟩:=hR.cells hHK hι hH
    rw[hb]at hb0;injection hb0 with hb0;injection hb0 with e1 e2;subst e1;subst e2
    rw[AA]at hcap
    rw[DS]at fin grown
    have hCid:¬C id:=hcon id (by simp)
    have h0:ι n=none:=hnew n ⟨rfl,rfl⟩
    have inpl:∀(cur':Array Value) (w':World),aK P (B0 #[t,t] o.type #[.slice (some ⟨b,0,none⟩) len cap,a.eval x]) w=.ok (.slice (some ⟨b,0,none⟩) (len+m) cap) w' ->
      len+m<=cap->w'.heap[b]? = some (.cells cur' e' (0,0))->cur'.size=cur.size->(∀k,k<cs.length->cur'[k]? = cur[k]?)->(∀(j:Nat) c,ncs[j]? = some c->∃u,cur'[cs.length+j]? = some u/\V F w ι c u) ->
      w'.heap.size=w.heap.size->(∀k,k≠b->w'.heap[k]? = w.heap[k]?)->w'.os=w.os->w'.tape=w.tape->w'.output=w.output->wpX P o a w next:=by
     intro cur' w' hrun hroom hb' hs' hold hnw hsize hoth hos htp hout
     have hfit:cs.length+ncs.length<=cur'.size:=by rw[hcl,hncl,<-B8,hs'];exact AR (B9 _ hroom) hcap
     obtain⟨hR',hst⟩:=hR.inplace hCid hι h0 (hHK _ _ hH) (hK _ rfl) hb hb' hs' hfit hold hnw hsize hoth hos htp hout
     refine fin _ _ F _ hrun (hR'.congrC λj=>by simp) hst (λid b e=>?_) (λid h=>⟨b,by rw[h.2,upd_same]⟩) ?_
     ·by_cases hid:id=n
      ·exact .inr ⟨rfl,hid⟩
      ·rw[upd_ne _ _ hid]at e;exact .inl e
     ·have:=V.own (F:=F) (w:=w') (ι:=upd ι n (some b)) n 0 (len+m) sz' b cap cur' e' (upd_same _ _ _) hb' (by rw[AA,hs'];exact hcap) hroom hcm
      simpa using this
    cases ad with
    | none =>
     have hm0:=hnil rfl
     subst hm0
     have hn0:ncs=[]:=B1 (by rw[hncl,DS])
     subst hn0
     refine inpl cur w ?_ (by omega) hb rfl (λ_ _=>rfl) (λj c h=>by simp at h) rfl (λ_ _=>rfl) rfl rfl rfl
     rw[hxv]
     exact kC he hsz _ _ _ _ _ hlc _
    | some ad =>
     by_cases hroom:len+m<=cap
     ·have hfit:len*i.size+news.length<=cur.size:=by rw[hnl,<-B8,his];exact AR (B9 _ hroom) hcap
      have hr:=yN (P:=P) w t o.type e' i (fE he) hi b len cap cur hb ad m c news hnl (hcell _ rfl) h1c hroom hfit
      rw[<-hxv]at hr
      have hg:=setRow_heap w b cur (cur.toList.take (len*i.size)++news++cur.toList.drop (len*i.size+news.length)).toArray e' (0,0) hb
      have hcl':cs.length=len*i.size:=by rw[his];exact hcl
      have hmin:(cur.toList.take (len*i.size)).length=len*i.size:=by rw[AZ,BK];omega
      refine inpl _ _ hr hroom hg ?_ (λk hk=>?_) (λj cc hj=>?_) (by simp) (λk hk=>setRow_other w b k _ hk) rfl rfl rfl
      ·simp only[Ar,Bc,AZ,CZ,BK];omega
      ·rw[Cm,CQ,AQ (by omega),Bt,Aq (by omega),Bj]
      ·obtain⟨u,hu,hv⟩:=hcv.get hj
       refine⟨u,?_,hv⟩
       have hjl:j<news.length:=by have:=(AX.1 hu).1;simpa using this
       rw[Cm,CQ,AJ (by omega),hmin,hcl',
        show len*i.size+j-len*i.size=j from by omega,AQ hjl]
       simpa using hu
     ·have holds:∀j u,(cur.toList.take (len*i.size))[j]? = some u->w.cell? ((⟨b,0,none⟩:Addr).add j)=some u:=by
       intro j u hu;rw[Bt]at hu;split at hu
       ·rw[gY,AA,cell_of_row w b _ cur e' (0,0) hb];simpa using hu
       ·cases hu
      have hcl':cs.length=len*i.size:=by rw[his];exact hcl
      have hr:=pB (P:=P) w t o.type e' i z (fE he) hi hiz ⟨b,0,none⟩ len cap (cur.toList.take (len*i.size)) (by simp;omega) holds ad m c news hnl (hcell _ rfl) (by omega)
       (by simp only[maxLen]at hml;omega) (growslice_fits (by omega) (by rw[hib];exact hby))
      rw[<-hxv,show(cur.toList.take (len*i.size)).toArray++news.toArray=(cur.toList.take (len*i.size)++news).toArray from by simp]at hr
      have hvals:(cs++ncs).length=((cur.toList.take (len*i.size))++news).length/\∀(k:Nat) c,(cs++ncs)[k]? = some c->∃u,((cur.toList.take (len*i.size))++news)[k]? = some u/\V F w ι c u:=by
       refine⟨?_,λk cc hk=>?_⟩
       ·have:=hcv.1;simp at this ⊢;omega
       ·by_cases hkl:k<cs.length
        ·rw[AQ hkl]at hk;obtain⟨u',hu',hv⟩:=hcc k cc hk;exact⟨u',by rw[AQ (by simp;omega),Bt,Aq (by omega),Bj];exact hu',hv⟩
        ·rw[AJ (by omega)]at hk;obtain⟨u,hu,hv⟩:=hcv.get hk;exact⟨u,by rw[AJ (by simp;omega),show(cur.toList.take (len*i.size)).length=cs.length from by rw[AZ,BK];omega];simpa using hu,hv⟩
      refine grown _ (C7 z.cells (grownCap w (len+m) cap e'-(len+m))) (cs++ncs) _ (len+m) rfl rfl hvals (grownCap_ge w (len+m) cap e') (grownCap_le_maxLen w (len+m) cap e' hml) ?_ hr
      have h1:=grownCap_ge w (len+m) cap e'
      simp only[ER,Ar,size_zeroCells,hzs,Bc,AZ,BK,hnl,his]
      have h2:len*sz'<=cur.size:=by omega
      rw[De h2,<-B8,<-B8,show len+m+(grownCap w (len+m) cap e'-(len+m))=grownCap w (len+m) cap e' from by omega]
      exact Ay _
   ·cases h
  ·cases h
 ·-- a full slice
  rename_i els hsn
  rw[hsn]at os
  split at h
  ·rename_i hc
   obtain⟨hm,hok,hone,hby,hml⟩:=hc
   injection h with h;injection h with h1 h2;injection h2 with h2 h3;subst h1;subst h2;subst h3
   obtain⟨sad,hse,hh⟩:=nM os
   have hs2:aDs H sz (.fd els)=some (els.length,els.flatten.map .d):=by simp only[aDs];rw[Aq ⟨hok,hone⟩]
   obtain⟨ad2,c2,olds,hov,hocv,hocl,hocell,honil⟩:=bDn hR hHK hs2 os
   rw[hse]at hov;injection hov with e1 e2 e3;subst e1;subst e3
   have hol:olds.length=els.length*i.size:=by have:=hocv.1;simp only[Ar]at this;rw[his,<-hocl,this]
   cases ad with
   |none=>exact absurd (hnil rfl) (by omega)
   | some ad =>
    cases sad with
    | none =>
     have hl0:=honil rfl
     have hels:els=[]:=B1 hl0
     subst hels
     have hr:=pW (P:=P) w t o.type e i z (fE he) hi hiz ad m c news hnl (hcell _ rfl) (by omega) (by simp only[maxLen]at hml;simp at hml;omega) (by rw[hib];simp at hby;omega)
     rw[<-hxv]at hr
     simp only[Aw]at hse
     rw[<-hse]at hr
     simp only[Aw,AA]at hml
     refine grown news _ ([]++ncs) _ (0+m) (by simp) (by simp) (cvw hcv) (by rw[AA];exact grownCap_ge w m 0 e) (grownCap_le_maxLen _ _ _ _ hml) ?_ (by rw[AA];exact hr)
     have h1:=grownCap_ge w m 0 e
     simp only[ER,Ar,size_zeroCells,hzs,hnl,his,<-B8]
     rw[show m+(grownCap w m 0 e-m)=grownCap w m 0 e from by omega]
     exact Ay _
    | some sad =>
     have hr:=pB (P:=P) w t o.type e i z (fE he) hi hiz sad els.length els.length olds hol (hocell _ rfl) ad m c news hnl (hcell _ rfl) (by omega)
      (by simp only[maxLen]at hml;omega) (growslice_fits (by omega) (by rw[hib];exact hby))
     rw[<-hxv,<-hse,show olds.toArray++news.toArray=(olds++news).toArray from by simp]at hr
     have hvals:(els.flatten.map AV.d++ncs).length=(olds++news).length/\∀(k:Nat) c,(els.flatten.map AV.d++ncs)[k]? = some c->∃u,(olds++news)[k]? = some u/\V F w ι c u:=by
      have ho1:=hocv.1;simp only[Ar]at ho1;refine⟨?_,λk cc hk=>?_⟩
      ·have:=hcv.1;simp only[Ar,Bc]at this ⊢;omega
      ·by_cases hkl:k<(els.flatten.map AV.d).length
       ·rw[AQ hkl]at hk;obtain⟨u,hu,hv⟩:=hocv.get hk;exact⟨u,by rw[AQ (by omega)];simpa using hu,hv⟩
       ·rw[AJ (by omega)]at hk;obtain⟨u,hu,hv⟩:=hcv.get hk;exact⟨u,by rw[AJ (by omega),<-ho1];simpa using hu,hv⟩
     refine grown _ (C7 z.cells (grownCap w (els.length+m) els.length e-(els.length+m))) (els.flatten.map .d++ncs) _ (els.length+m) rfl rfl hvals (grownCap_ge w (els.length+m) els.length e) (grownCap_le_maxLen w (els.length+m) els.length e hml) ?_ hr
     have h1:=grownCap_ge w (els.length+m) els.length e
     simp only[ER,Ar,size_zeroCells,hzs,Bc,hol,hnl,his]
     rw[<-B8,<-B8,show els.length+m+(grownCap w (els.length+m) els.length e-(els.length+m))=grownCap w (els.length+m) els.length e from by omega]
     exact Ay _
  ·split at h
   ·rename_i hm0
    injection h with h;injection h with h1 h2;injection h2 with h2 h3;subst h1;subst h2;subst h3
    replace hm0:m=0:=hm0
    subst hm0
    obtain⟨sad,hse,hh⟩:=nM os
    have hrun:aK P (B0 #[t,t] o.type #[a.eval s,a.eval x]) w=.ok (a.eval s) w:=by
     rw[hxv,hse];cases ad with
     |none=>exact kC he hsz _ _ _ _ _ (Ay _) _
     | some ad =>
      cases sad with
      |some sad=>exact wL he hsz _ _ _ _ _ _
      | none =>
       have hl:els.length=0:=by
        have key:∀(v:Value) (k:Nat),VD F w (.sl els) v->v=.slice none k k->els.length=0:=by
         intro v k h e;cases h with
         |sl0=>rfl
         |sl=>cases e
        exact key _ _ hh rfl
       rw[hl];exact pA he hsz _ _ _ _
    exact fin _ _ F ι hrun (hR.congrC λid=>⟨λh=>.inl h,λh=>h.elim (λx=>x) (λh=>by cases h)⟩) (.refl _ _ _) (λ_ _ h=>.inl h) (λ_ h=>by simp at h) os
   ·cases h
 ·cases h
end
end Go.Am
end
section
open List renaming map_map->E,mapM_map->J
namespace Go.Am
open RowKit (Below)
def chunk(sz len:Nat)(l:List D):List (List D):=(AN len).map λi=>(l.drop (i*sz)).take sz
def frz(H:Hp):Nat->AV->Option D
 |0,_=>none
 | n+1,x=>match x with
  |.d x=>some x
  |.nil=>some (.sl [])
  |.fd els=>some (.sl els)
  | .own id off len sz=>match H id with
   |some (.cells _ cs)=>if(off+len)*sz<=cs.length/\0<sz then(((cs.drop (off*sz)).take (len*sz)).mapM (frz H n)).map λl=>.sl (chunk sz len l)else none
   |_=>none
  |.fp cs=>some (.pt cs)
  | .ptr id off=>match H id with
   |some (.cells _ cs)=>if off<=cs.length then((cs.drop off).mapM (frz H n)).map .pt else none
   |_=>none
  |.fn f cs=>(cs.mapM (frz H n)).map (.fn f)
  |.ag cs=>(cs.mapM (frz H n)).map .ag
  |.tp cs=>(cs.mapM (frz H n)).map .tp
  | .mp id=>match H id with
   |some (.map k es)=>((es.map (·.2)).mapM (frz H n)).map (.mp k (es.map (·.1)))
   |_=>none
  |_=>none
def cI(H:Hp)(l:List AV):Option (List D):=l.mapM (frz H 8)
def fY{α β:Type}(f:α->Option β):∀(l:List α) (r:List β),l.mapM f=some r->r.length=l.length/\∀(k:Nat) d,r[k]? = some d->∃c,l[k]? = some c/\f c=some d
 |[],r,h=>by simp at h;subst h;exact⟨rfl,λk d h=>by simp at h⟩
 | x::l,r,h=>by
  simp only[Cp,C2,Ad,DK,Ax]at h;obtain⟨y,hy,r',hr',rfl⟩:=h;obtain⟨h1,h2⟩:=fY f l r' hr';refine⟨by simp[h1],λk d hk=>?_⟩;rcases k with _|k
  ·simp at hk;subst hk;exact⟨x,rfl,hy⟩
  ·exact h2 k d (by simpa using hk)
def vis(H:Hp):Nat->AV->List Nat
 |0,_=>[]
 | n+1,x=>match x with
  | .own id off len sz=>match H id with
   |some (.cells _ cs)=>id::((cs.drop (off*sz)).take (len*sz)).flatMap (vis H n)
   |_=>[]
  | .ptr id off=>match H id with
   |some (.cells _ cs)=>id::(cs.drop off).flatMap (vis H n)
   |_=>[]
  |.fn _ cs=>cs.flatMap (vis H n)
  |.ag cs=>cs.flatMap (vis H n)
  |.tp cs=>cs.flatMap (vis H n)
  | .mp id=>match H id with
   |some (.map _ es)=>id::(es.map (·.2)).flatMap (vis H n)
   |_=>[]
  |_=>[]
def bV(H:Hp)(l:List AV):List Nat:=l.flatMap (vis H 8)
def reach(F:Nat->Prop)(ι:Nat->Option Nat)(l:List Nat):Nat->Prop:=λb=>F b\/∃id∈l,ι id=some b
section
variable {P:Program} {F:Nat->Prop} {w:World} {ι:Nat->Option Nat} {G:Ctx} {C:Nat->Prop} {H K:Hp}
def jO{l l':List Nat}(h:∀id∈l,id∈l'):∀b,reach F ι l b->reach F ι l' b:=by
 rintro b (hb|⟨id,hi,hb⟩)
 ·exact .inl hb
 ·exact .inr ⟨id,h id hi,hb⟩
def uZ(hR:HR G F w ι C K)(hHK:∀id o,H id=some o->K id=some o):∀(n:Nat) (x:AV) (v:Value) (d:D),frz H n x=some d->V F w ι x v ->
  VD (reach F ι (vis H n x)) w d v/\∀id∈vis H n x,∃b,ι id=some b
 |0,x,v,d,h,_=>by simp[frz]at h
 | n+1,x,v,d,h,hv=>by
  have ih:=uZ hR hHK n;unfold frz at h;have cellsV:∀(cs:List AV) (l:List D) (vs:Array Value),cs.length=vs.size->cs.mapM (frz H n)=some l->(∀(k:Nat) c u,cs[k]? = some c->vs[k]? = some u->V F w ι c u) ->
    (∀(k:Nat) d u,l[k]? = some d->vs[k]? = some u->VD (reach F ι (cs.flatMap (vis H n))) w d u)/\∀id∈cs.flatMap (vis H n),∃b,ι id=some b:=by
   intro cs l vs hlen hm hv
   obtain⟨h1,h2⟩:=fY _ _ _ hm
   refine⟨λk d u hk hu=>?_,λid hid=>?_⟩
   ·obtain⟨c,hc,hd⟩:=h2 k d hk
    exact(ih c u d hd (hv k c u hc hu)).1.mono (jO λid hid=>BJ.2 ⟨c,Aj hc,hid⟩)
   ·obtain⟨c,hc,hid⟩:=BJ.1 hid
    obtain⟨k,hk,rfl⟩:=BM.1 hc
    have hk':k<vs.size:=by omega
    have hk2:k<l.length:=by omega
    obtain⟨c',hc',hd⟩:=h2 k _ (Ab hk2)
    rw[Ab hk]at hc';injection hc' with hc';subst hc'
    exact(ih _ _ _ hd (hv k _ _ (Ab hk) (Al hk'))).2 id hid
  split at h
  ·injection h with h;subst h
   cases hv with|d _ _ hh=>exact⟨hh.mono λb hb=>.inl hb,λid hid=>by simp[vis]at hid⟩
  ·injection h with h;subst h
   cases hv;exact⟨.sl0 _ _,λid hid=>by simp[vis]at hid⟩
  ·injection h with h;subst h
   obtain⟨ad,rfl,hh⟩:=nM hv;exact⟨hh.mono λb hb=>.inl hb,λid hid=>by simp[vis]at hid⟩
  ·rename_i id off len sz;split at h
   ·rename_i e cs hH;split at h
    ·rename_i hfit;obtain⟨hfit,hpos⟩:=hfit;obtain⟨l,hl,rfl⟩:=Af.1 h;cases hv with|own _ _ _ _ b cap cur0 e0 hι hb0 hcap hlc hm =>
     obtain⟨cur,hb,hcl,hcc⟩:=hR.cells hHK hι hH;obtain⟨hll,hlg⟩:=fY _ _ _ hl;have hfit':off*sz+len*sz<=cs.length:=by rw[<-B8];exact hfit
     have hlen:l.length=len*sz:=by rw[hll];simp;omega
     have hvis:vis H (n+1) (.own id off len sz)=id::((cs.drop (off*sz)).take (len*sz)).flatMap (vis H n):=by simp[vis,hH]
     rw[hvis];refine⟨.sl _ _ _ _ sz (λj=>cur.getD (off*sz+j) undef) (by simp[chunk]) hlc ?_ (.inr ⟨id,by simp,hι⟩) (λj hj=>?_) (λj k ds d hj hk=>?_),λi hi=>?_⟩
     ·intro ds hds;simp only[chunk,AM,List.mem_range]at hds;obtain⟨i,hi,rfl⟩:=hds;rw[AZ,CZ,hlen];have:(i+1)*sz<=len*sz:=B9 _ hi;rw[B8,DW]at this;omega
     ·rw[gY,cell_of_row w b _ cur e (0,0) hb,Al (by omega)];simp[show off*sz+j<cur.size by omega]
     ·have hjl:j<len:=by have:=(Ao.1 hj).1;simpa[chunk]using this
      simp only[chunk,Ag,Bq hjl,AU,Ax]at hj;subst hj;rw[Bt]at hk;split at hk
      ·rename_i hks;rw[BG]at hk;obtain⟨c,hc,hd⟩:=hlg _ _ hk;have hmem:=Aj hc;rw[Bt]at hc;split at hc
       ·rw[BG]at hc;obtain⟨u,hu,hvv⟩:=hcc _ _ hc;have hlt:=(AX.1 hu).1;rw[Al hlt]at hu;injection hu with hu
        have:=(ih c u d hd hvv).1.mono (jO (F:=F) (ι:=ι) (l':=id::((cs.drop (off*sz)).take (len*sz)).flatMap (vis H n)) λi hi=>AE _ (BJ.2 ⟨c,hmem,hi⟩));rw[<-hu]at this;simpa[hlt]using this
       ·cases hc
      ·cases hk
     ·rcases Bn.1 hi with rfl|hi
      ·exact⟨b,hι⟩
      ·obtain⟨c,hc,hid⟩:=BJ.1 hi;obtain⟨k,hk,hck⟩:=BM.1 hc;have hk2:k<l.length:=by rw[hll];exact hk
       obtain⟨c',hc',hd⟩:=hlg k _ (Ab hk2);have hce:c'=c:=by rw[Ab hk]at hc';injection hc' with hc';rw[<-hc',hck]
       subst hce;rw[Bt]at hc';split at hc'
       ·rw[BG]at hc';obtain⟨u,hu,hvv⟩:=hcc _ _ hc';exact(ih _ _ _ hd hvv).2 i hid
       ·cases hc'
    ·cases h
   ·cases h
  ·injection h with h;subst h
   cases hv with|fp cs ad f hF hcell hel=>exact⟨.pt _ _ f (.inl hF) hcell λk c hk=>(hel k c hk).mono λb hb=>.inl hb,λid hid=>by simp[vis]at hid⟩
  ·rename_i id off;split at h
   ·rename_i e cs hH;split at h
    ·rename_i hfit;obtain⟨l,hl,rfl⟩:=Af.1 h;cases hv with|ptr _ _ b hι =>
     obtain⟨cur,hb,hcl,hcc⟩:=hR.cells hHK hι hH;obtain⟨hll,hlg⟩:=fY _ _ _ hl;have hlen:l.length=cs.length-off:=by rw[hll];simp
     have hvis:vis H (n+1) (.ptr id off)=id::(cs.drop off).flatMap (vis H n):=by simp[vis,hH]
     rw[hvis];refine⟨.pt _ _ (λj=>cur.getD (off+j) undef) (.inr ⟨id,by simp,hι⟩) (λj hj=>?_) (λk d hk=>?_),λi hi=>?_⟩
     ·rw[gY,cell_of_row w b _ cur e (0,0) hb,Al (by omega)];simp[show off+j<cur.size by omega]
     ·obtain⟨c,hc,hd⟩:=hlg _ _ hk;have hmem:=Aj hc;rw[BG]at hc;obtain⟨u,hu,hvv⟩:=hcc _ _ hc;have hlt:=(AX.1 hu).1;rw[Al hlt]at hu;injection hu with hu
      have:=(ih c u d hd hvv).1.mono (jO (F:=F) (ι:=ι) (l':=id::(cs.drop off).flatMap (vis H n)) λi hi=>AE _ (BJ.2 ⟨c,hmem,hi⟩));rw[<-hu]at this;simpa[hlt]using this
     ·rcases Bn.1 hi with rfl|hi
      ·exact⟨b,hι⟩
      ·obtain⟨c,hc,hid⟩:=BJ.1 hi;obtain⟨k,hk,hck⟩:=BM.1 hc;have hk2:k<l.length:=by rw[hll];exact hk
       obtain⟨c',hc',hd⟩:=hlg k _ (Ab hk2);have hce:c'=c:=by rw[Ab hk]at hc';injection hc' with hc';rw[<-hc',hck]
       subst hce;rw[BG]at hc';obtain⟨u,hu,hvv⟩:=hcc _ _ hc';exact(ih _ _ _ hd hvv).2 i hid
    ·cases h
   ·cases h
  ·obtain⟨l,hl,rfl⟩:=Af.1 h;cases hv with|fn _ _ vs hvl hh =>
   obtain⟨q1,q2⟩:=cellsV _ l vs hvl hl hh;exact⟨.fn _ _ _ (by rw[(fY _ _ _ hl).1];exact hvl) q1,q2⟩
  ·obtain⟨l,hl,rfl⟩:=Af.1 h;cases hv with|ag _ vs hvl hh =>
   obtain⟨q1,q2⟩:=cellsV _ l vs hvl hl hh;exact⟨.ag _ _ (by rw[(fY _ _ _ hl).1];exact hvl) q1,q2⟩
  ·obtain⟨l,hl,rfl⟩:=Af.1 h;cases hv with|tp _ vs hvl hh =>
   obtain⟨q1,q2⟩:=cellsV _ l vs hvl hl hh;exact⟨.tp _ _ (by rw[(fY _ _ _ hl).1];exact hvl) q1,q2⟩
  ·rename_i id;split at h
   ·rename_i k es hH;obtain⟨l,hl,rfl⟩:=Af.1 h;cases hv with|mp _ b hι =>
    obtain⟨ob,hb,hcr⟩:=hR.obj id b _ hι (hHK _ _ hH);cases hcr with|map _ _ ents clock hel hst hes =>
    obtain⟨hll,hlg⟩:=fY _ _ _ hl;rw[Bl]at hll;have hvis:vis H (n+1) (.mp id)=id::(es.map (·.2)).flatMap (vis H n):=by simp[vis,hH]
    rw[hvis];refine⟨.mp k _ l b ents clock (.inr ⟨id,by simp,hι⟩) hb hst (by simpa using hel) (by omega) (λj m hj=>?_) (λj d en hj hen=>?_),λi hi=>?_⟩
    ·rw[Ag]at hj;obtain⟨x,hx,rfl⟩:=Af.1 hj;obtain⟨en,h1,h2,_⟩:=hes j x hx;exact⟨en,h1,h2⟩
    ·obtain⟨c,hc,hd⟩:=hlg j d hj;have hmem:=Aj hc;rw[Ag]at hc;obtain⟨x,hx,rfl⟩:=Af.1 hc;obtain⟨en',h1,_,h3⟩:=hes j x hx;rw[hen]at h1;injection h1 with h1;subst h1
     exact(ih x.2 _ d hd h3).1.mono (jO λi hi=>AE _ (BJ.2 ⟨_,hmem,hi⟩))
    ·rcases Bn.1 hi with rfl|hi
     ·exact⟨b,hι⟩
     ·obtain⟨c,hc,hid⟩:=BJ.1 hi;obtain⟨j,hj,hcj⟩:=BM.1 hc;have hj':j<l.length:=by rw[hll];simpa using hj
      obtain⟨c',hc',hd⟩:=hlg j _ (Ab hj');have hce:c'=c:=by rw[Ab hj]at hc';injection hc' with hc';rw[<-hc',hcj]
      subst hce;rw[Ag]at hc';obtain⟨x,hx,rfl⟩:=Af.1 hc';obtain⟨en',h1,_,h3⟩:=hes j x hx;exact(ih x.2 _ _ hd h3).2 i hid
   ·cases h
  ·cases h
end
inductive NM:D->Prop where
 |b (x:Bool):NM (.b x)
 |i (k:IntKind) (n:Int):NM (.i k n)
 |lit (v:Value):NM (.lit v)
 |sl (els:List (List D)) (h0:∀cs∈els,cs≠[]) (h:∀cs∈els,∀c∈cs,NM c):NM (.sl els)
 |ag (cs:List D) (h:∀c∈cs,NM c):NM (.ag cs)
 |tp (cs:List D) (h:∀c∈cs,NM c):NM (.tp cs)
def nmB:Nat->D->Bool
 |0,_=>false
 | n+1,x=>match x with
  |.b _|.i _ _|.lit _=>true
  |.sl els=>els.all λcs=>!cs.isEmpty&&cs.all (nmB n)
  |.ag cs|.tp cs=>cs.all (nmB n)
  |_=>false
def aIo:∀(n:Nat) (x:D),nmB n x=true->NM x
 |0,x,h=>by cases h
 | n+1,x,h=>by
  unfold nmB at h;split at h
  ·exact .b _
  ·exact .i _ _
  ·exact .lit _
  ·rename_i els;simp only[A3,A8,C8,List.isEmpty_eq_false_iff]at h;exact .sl _ (λcs hcs=>(h cs hcs).1) λcs hcs c hc=>aIo n c ((h cs hcs).2 c hc)
  ·exact .ag _ λc hc=>aIo n c (A3.1 h c hc)
  ·exact .tp _ λc hc=>aIo n c (A3.1 h c hc)
  ·cases h
def cDq{F:Nat->Prop}{w:World}{x:D}{v:Value}(h:VD F w x v)(hn:NM x):VD (λb=>F b/\∀ents clock,w.heap[b]? ≠ some (.map ents clock)) w x v:=by
 induction h with
 |b x=>exact .b x
 |i k n=>exact .i k n
 |sl0 ad c=>exact .sl0 ad c
 | sl els ad n c sz f hnl hc hsz hF hcell hel ih =>
  cases hn with|sl _ h0 h =>
  cases hels:els with
  |nil=>subst hels;subst hnl;exact .sl0 _ _
  | cons cs0 l =>
   rw[<-hels];have hm0:cs0∈els:=by rw[hels];exact AI ..
   have hpos:0<sz:=by rw[<-hsz cs0 hm0];exact List.length_pos_iff.2 (h0 cs0 hm0)
   have hnp:0<n:=by rw[hnl,hels];simp
   refine .sl els ad n c sz f hnl hc hsz ⟨hF,λents clock he=>?_⟩ hcell λj k cs d hj hk=>ih j k cs d hj hk (h cs (Aj hj) d (Aj hk))
   have h1:=hcell 0 (Nat.mul_pos hnp hpos);simp only[BA,block_add,he]at h1;cases h1
 |ag cs vs hl hh ih=>cases hn with|ag _ h=>exact .ag cs vs hl λk c v hc hv=>ih k c v hc hv (h c (Aj hc))
 |tp cs vs hl hh ih=>cases hn with|tp _ h=>exact .tp cs vs hl λk c v hc hv=>ih k c v hc hv (h c (Aj hc))
 |lit v=>exact .lit v
 |pt=>cases hn
 |fn=>cases hn
 |mp=>cases hn
 |iff=>cases hn
 |fm=>cases hn
def Spec(P:Program)[M:Mch P](f:FuncId)(args:List D)(r:D):Prop :=
 ∀(A:Nat->Prop) (W:World) (vs:Array Value),(∀b,A b->b<W.heap.size)->args.length=vs.size->(∀(k:Nat) d v,args[k]? = some d->vs[k]? = some v->VD A W d v) ->
  (∀w,aK P (callFunc f vs) w=.ok (.enter f vs) w) /\
  CX P f vs W λv W'=>Below W.heap.size W W'/\VD (λb=>A b\/(W.heap.size<=b/\b<W'.heap.size)) W' r v
def aL:D->AV
 |.ag cs=>.ag (cs.map .d)
 |.pt cs=>.fp cs
 |x=>.d x
def inj:D->AV
 |.tp vs=>.tp (vs.map aL)
 |x=>aL x
def xY:D->Bool
 |.b _|.i _ _=>true
 |_=>false
def flat:D->Bool
 |.tp vs=>vs.all xY
 |x=>xY x
section
variable {P:Program} {F:Nat->Prop} {w:World} {ι:Nat->Option Nat} {G:Ctx} {C:Nat->Prop} {H K:Hp}
def mX{x:D}{v:Value}(h:VD F w x v):V F w ι (aL x) v:=by
 unfold aL;split
 ·cases h with|ag cs vs hl hh=>exact .ag _ _ (by simpa using hl) (vX hh)
 ·cases h with|pt cs ad f hF hcell hel=>exact .fp _ _ f hF hcell hel
 ·exact .d _ _ h
def aDi{x:D}{v:Value}(h:VD F w x v):V F w ι (inj x) v:=by
 unfold inj;split
 ·cases h with
  | tp cs vs hl hh =>
   refine .tp _ _ (by simpa using hl) λk c u hc hu=>?_
   rw[Ag]at hc;obtain⟨d,hd,rfl⟩:=Af.1 hc;exact mX (hh k d u hd hu)
 ·exact mX h
def bTj{x:D}{v:Value}{F':Nat->Prop}{w':World}(hf:xY x=true)(h:VD F w x v):VD F' w' x v:=by cases h<;>first|exact .b _|exact .i _ _|(simp[xY]at hf;done)
def aJc{x:D}{v:Value}{F':Nat->Prop}{w':World}(hf:flat x=true)(h:VD F w x v):VD F' w' x v:=by
 cases h with
 |tp cs vs hl hh=>exact .tp _ _ hl λk c u hc hu=>bTj (by simp only[flat]at hf;exact A3.1 hf _ (Aj hc)) (hh k c u hc hu)
 |b x=>exact .b _
 |i k n=>exact .i _ _
 |_=>simp[flat,xY]at hf
def HR.call(hR:HR G F w ι C K){w':World}(hb:Below w.heap.size w w')(kills:List Nat)(hk:∀id∈kills,¬C id) :
  HR G (λb=>F b\/(∃id∈kills,ι id=some b)\/(w.heap.size<=b/\b<w'.heap.size)) w' ι (λid=>C id\/id∈kills) K /\
  Step F w ι (λb=>F b\/(∃id∈kills,ι id=some b)\/(w.heap.size<=b/\b<w'.heap.size)) w' ι:=by
 have hs:Step F w ι (λb=>F b\/(∃id∈kills,ι id=some b)\/(w.heap.size<=b/\b<w'.heap.size)) w' ι :=
  ⟨λ_ h=>.inl h,λb h=>hb.block b (hR.F_lt b h),λ_ _ h=>h,λid b cur e hi h=>⟨cur,(hb.block b (hR.ι_lt hi)).trans h,rfl⟩⟩
 have hsz:=hb.size
 have hW:G.W.heap.size<=w.heap.size:=hR.kept.size
 refine⟨⟨hR.kept.trans (.below hb hW),?_,?_,?_,?_,?_,?_⟩,hs⟩
 ·rintro b (h|⟨id,_,h⟩|h)
  ·have:=hR.F_lt b h;omega
  ·have:=hR.ι_lt h;omega
  ·exact h.2
 ·rintro b (h|⟨id,_,h⟩|h)
  ·exact hR.F_ok b h
  ·exact .inr (hR.place id b h).1
  ·exact .inr (.inr (by omega))
 ·intro id b h
  obtain⟨h1,h2,h3⟩:=hR.place id b h
  refine⟨h1,by omega,λhc hF=>?_⟩
  rcases hF with hF|⟨id',hi,hF⟩|hF
  ·exact h3 (λx=>hc (.inl x)) hF
  ·exact hc (.inr ((hR.inj id id' b h hF (λx=>hc (.inl x)) (hk id' hi)) ▸ hi))
  ·omega
 ·intro id b o h ho
  obtain⟨ob,h2,h3⟩:=hR.obj id b o h ho
  exact⟨ob,(hb.block b (hR.ι_lt h)).trans h2,h3.step hs⟩
 ·exact λid id' b h h' hc hc'=>hR.inj id id' b h h' (λx=>hc (.inl x)) λx=>hc' (.inl x)
 ·exact λid id' b o o' h h' hc=>hR.len id id' b o o' h h' λx=>hc (.inl x)
variable [M:Mch P] {Γ:Nat->AV} {o:Oper}
def mT(hR:HR G F w ι C K)(hHK:∀id o,H id=some o->K id=some o){args:List Operand}{a:Act}{ds:List D}(hf:cI H (args.map (oev Γ))=some ds)
  (hop:∀x∈args,V F w ι (oev Γ x) (a.eval x)):ds.length=(args.map a.eval).toArray.size /\
   (∀(k:Nat) d v,ds[k]? = some d->(args.map a.eval).toArray[k]? = some v->VD (reach F ι (bV H (args.map (oev Γ)))) w d v)/\∀id∈bV H (args.map (oev Γ)),∃b,ι id=some b:=by
 obtain⟨h1,h2⟩:=fY _ _ _ hf
 refine⟨by simpa using h1,λk d v hk hv=>?_,λid hid=>?_⟩
 ·obtain⟨c,hc,hd⟩:=h2 k d hk
  have hmem:=Aj hc
  simp only[Ag,Cm]at hc hv
  cases hx:args[k]? with
  |none=>simp[hx]at hc
  | some x =>
   simp only[hx,AU,Ax]at hc hv
   subst hc;subst hv
   exact(uZ hR hHK _ _ _ _ hd (hop x (Aj hx))).1.mono (jO λid hid=>BJ.2 ⟨_,hmem,hid⟩)
 ·obtain⟨c,hc,hid⟩:=BJ.1 hid
  obtain⟨k,hk,hck⟩:=BM.1 hc
  have hk2:k<ds.length:=by omega
  obtain⟨c',hc',hd⟩:=h2 k _ (Ab hk2)
  rw[Ab hk]at hc';injection hc' with hc'
  rw[<-hc',hck]at hd
  rw[List.getElem_map]at hck
  rw[<-hck]at hd hid
  exact(uZ hR hHK _ _ _ _ hd (hop _ (Bz _))).2 id hid
def aZ(H:Hp)(args:List AV)(r:D):List Nat:=if flat r then[]else bV H args
def bWw{f:FuncId}{args:Array Operand}{ts:Array TypeId}{ds:List D}{r:D}(ho:o.op=.call { callee:=.value (.func f),args:=args,argTypes:=ts })
  (hHK:∀id ob,H id=some ob->K id=some ob) (hargs:cI H (args.toList.map (oev Γ))=some ds) (hs:Spec P f ds r) (hk:∀id∈aZ H (args.toList.map (oev Γ)) r,¬C id) :
  Y P G o Γ C K K (inj r) bD (λi=>i∈aZ H (args.toList.map (oev Γ)) r):=by
 intro F w ι a hok hR hop _ next hnext
 have hop':∀x∈args.toList,V F w ι (oev Γ x) (a.eval x):=λx hx=>cH λt e=>hop t (by rw[ho];subst e;simp[AD,Bg];simpa using hx)
 have hmap:args.map a.eval=(args.toList.map a.eval).toArray:=by cases args;simp
 obtain⟨hl,hV,_⟩:=mT hR hHK hargs hop'
 rw[<-hmap]at hl hV
 obtain⟨hent,hcalls⟩:=hs (reach F ι (bV H (args.toList.map (oev Γ)))) w (args.map a.eval) (by
  rintro b (h|⟨id,_,h⟩)
  ·exact hR.F_lt b h
  ·exact hR.ι_lt h) hl hV
 unfold wpX
 have hfe:a.eval (.func f)=.func (.func f) #[] #[]:=rfl
 simp only[execOp,ho,resolve,invoke,Sem.run_bind,hfe,CF,Sem.run_pure,AK,Cl,CJ,hent,iV]
 refine hcalls.mono ?_
 rintro v w' ⟨hb,hv⟩
 obtain⟨hR',hst⟩:=hR.call hb (aZ H (args.toList.map (oev Γ)) r) hk
 refine hnext _ w' ι v hR' hst (λ_ _ h=>.inl h) (λ_ h=>h.elim) (aDi ?_)
 by_cases hf:flat r=true
 ·exact aJc hf hv
 ·refine hv.mono λb hb'=>?_
  rcases hb' with (h|⟨id,h,hx⟩)|h
  ·exact .inl h
  ·exact .inr (.inl ⟨id,by simpa[aZ,hf]using h,hx⟩)
  ·exact .inr (.inr h)
def bAv{args:Array Operand}{ds:List D}{r:D}{a:Act}(hR:HR G F w ι C K)(hHK:∀id ob,H id=some ob->K id=some ob)(hargs:cI H (args.toList.map (oev Γ))=some ds)
  (hop:∀x∈args.toList,V F w ι (oev Γ x) (a.eval x)):∀id∈aZ H (args.toList.map (oev Γ)) r,∃b,ι id=some b:=by
 intro id hid
 unfold aZ at hid
 split at hid
 ·cases hid
 ·exact(mT hR hHK hargs hop).2.2 id hid
def dM:AV->Option (FuncId×List AV)
 |.fn f cs=>some (f,cs)
 |.d (.fn f cs)=>some (f,cs.map aL)
 |.d (.lit (.func (.func f) fst cs))=>if fst.isEmpty&&cs.isEmpty then some (f,[])else none
 |_=>none
def aGk{x:AV}{v:Value}{f:FuncId}{cs:List AV}(h:dM x=some (f,cs))(hv:V F w ι x v) :
  ∃vs,v=.func (.func f) #[] vs/\cs.length=vs.size/\∀(k:Nat) c u,cs[k]? = some c->vs[k]? = some u->V F w ι c u:=by
 unfold dM at h
 split at h
 ·injection h with h;injection h with h1 h2;subst h1;subst h2
  cases hv with|fn _ _ vs hl hh=>exact⟨vs,rfl,hl,hh⟩
 ·injection h with h;injection h with h1 h2;subst h1;subst h2
  cases hv with|d _ _ hh=>cases hh with|fn _ _ vs hl hh =>
  refine⟨vs,rfl,by simpa using hl,λk c u hc hu=>?_⟩
  rw[Ag]at hc
  obtain⟨d,hd,rfl⟩:=Af.1 hc
  exact mX (hh k d u hd hu)
 ·split at h
  ·rename_i g fst cs' he
   injection h with h;injection h with h1 h2;subst h1;subst h2
   simp only[A8,Array.isEmpty_iff]at he
   obtain⟨rfl,rfl⟩:=he
   cases hv with|d _ _ hh =>
   cases hh with|lit _=>exact⟨#[],rfl,rfl,λk c u hc=>by simp at hc⟩
  ·cases h
 ·cases h
def mJ(hR:HR G F w ι C K)(hHK:∀id o,H id=some o->K id=some o){avs:List AV}{vs:List Value}{ds:List D}(hf:cI H avs=some ds)(hlen:avs.length=vs.length)
  (hV:∀(k:Nat) c u,avs[k]? = some c->vs[k]? = some u->V F w ι c u):ds.length=vs.length /\
   (∀(k:Nat) d v,ds[k]? = some d->vs[k]? = some v->VD (reach F ι (bV H avs)) w d v)/\∀id∈bV H avs,∃b,ι id=some b:=by
 obtain⟨h1,h2⟩:=fY _ _ _ hf
 refine⟨by omega,λk d v hk hv=>?_,λid hid=>?_⟩
 ·obtain⟨c,hc,hd⟩:=h2 k d hk
  exact(uZ hR hHK _ _ _ _ hd (hV k c v hc hv)).1.mono (jO λid hid=>BJ.2 ⟨_,Aj hc,hid⟩)
 ·obtain⟨c,hc,hid⟩:=BJ.1 hid
  obtain⟨k,hk,hck⟩:=BM.1 hc
  have hk2:k<ds.length:=by omega
  have hk3:k<vs.length:=by omega
  obtain⟨c',hc',hd⟩:=h2 k _ (Ab hk2)
  have hce:c'=c:=by rw[Ab hk]at hc';injection hc' with hc';rw[<-hc',hck]
  subst hce
  exact(uZ hR hHK _ _ _ _ hd (hV k _ _ hc' (Ab hk3))).2 id hid
def aCw{x:Operand}{args:Array Operand}{f:FuncId}{cs:List AV}{a:Act}(hx:dM (oev Γ x)=some (f,cs))(hvx:V F w ι (oev Γ x) (a.eval x))(hop:∀y∈args.toList,V F w ι (oev Γ y) (a.eval y)) :
  ∃vs:Array Value,a.eval x=.func (.func f) #[] vs/\(args.toList.map (oev Γ)++cs).length=(args.map a.eval++vs).toList.length /\
   ∀(k:Nat) c u,(args.toList.map (oev Γ)++cs)[k]? = some c->(args.map a.eval++vs).toList[k]? = some u->V F w ι c u:=by
 obtain⟨vs,h1,h2,h3⟩:=aGk hx hvx
 refine⟨vs,h1,by simp[h2],λk c u hc hu=>?_⟩
 rw[FX,FF]at hu
 by_cases hk:k<args.toList.length
 ·rw[AQ (by simpa using hk)]at hc hu
  rw[Ag]at hc hu
  cases hy:args.toList[k]? with
  |none=>rw[hy]at hc;cases hc
  | some y =>
   rw[hy]at hc hu
   injection hc with hc;injection hu with hu
   subst hc;subst hu
   exact hop y (Aj hy)
 ·rw[AJ (by simpa using hk)]at hc hu
  rw[Bl]at hc hu
  exact h3 _ _ _ hc (by simpa using hu)
def bNc{x:Operand}{f:FuncId}{args:Array Operand}{ts:Array TypeId}{ds:List D}{r:D}{cs:List AV}(ho:o.op=.call { callee:=.value x,args:=args,argTypes:=ts })
  (hHK:∀id ob,H id=some ob->K id=some ob) (hx:dM (oev Γ x)=some (f,cs)) (hargs:cI H (args.toList.map (oev Γ)++cs)=some ds) (hs:Spec P f ds r) (hk:∀id∈aZ H (args.toList.map (oev Γ)++cs) r,¬C id) :
  Y P G o Γ C K K (inj r) bD (λi=>i∈aZ H (args.toList.map (oev Γ)++cs) r):=by
 intro F w ι a hok hR hop _ next hnext
 have hop':∀y∈args.toList,V F w ι (oev Γ y) (a.eval y):=λy hy=>cH λt e=>hop t (by rw[ho];subst e;simp[AD,Bg];right;simpa using hy)
 have hvx:V F w ι (oev Γ x) (a.eval x):=cH λt e=>hop t (by rw[ho];subst e;simp[AD,Bg])
 obtain⟨vs,hev,hlen,hVV⟩:=aCw hx hvx hop'
 obtain⟨hl,hV,_⟩:=mJ hR hHK hargs hlen hVV
 obtain⟨hent,hcalls⟩:=hs (reach F ι (bV H (args.toList.map (oev Γ)++cs))) w (args.map a.eval++vs) (by
  rintro b (h|⟨id,_,h⟩)
  ·exact hR.F_lt b h
  ·exact hR.ι_lt h) (by simpa using hl) (λk d v hk hv=>hV k d v hk (by rw[Bj];exact hv))
 unfold wpX
 simp only[execOp,ho,resolve,invoke,Sem.run_bind,hev,CF,Sem.run_pure,AK,Cl,hent,iV]
 refine hcalls.mono ?_
 rintro v w' ⟨hb,hv⟩
 obtain⟨hR',hst⟩:=hR.call hb (aZ H (args.toList.map (oev Γ)++cs) r) hk
 refine hnext _ w' ι v hR' hst (λ_ _ h=>.inl h) (λ_ h=>h.elim) (aDi ?_)
 by_cases hf:flat r=true
 ·exact aJc hf hv
 ·refine hv.mono λb hb'=>?_
  rcases hb' with (h|⟨id,h,hx⟩)|h
  ·exact .inl h
  ·exact .inr (.inl ⟨id,by simpa[aZ,hf]using h,hx⟩)
  ·exact .inr (.inr h)
def aSy{x:Operand}{f:FuncId}{cs:List AV}{args:Array Operand}{ds:List D}{r:D}{a:Act}(hR:HR G F w ι C K)(hHK:∀id ob,H id=some ob->K id=some ob)(hx:dM (oev Γ x)=some (f,cs))
  (hargs:cI H (args.toList.map (oev Γ)++cs)=some ds) (hvx:V F w ι (oev Γ x) (a.eval x)) (hop:∀x∈args.toList,V F w ι (oev Γ x) (a.eval x)):∀id∈aZ H (args.toList.map (oev Γ)++cs) r,∃b,ι id=some b:=by
 intro id hid
 obtain⟨vs,hev,hlen,hVV⟩:=aCw hx hvx hop
 unfold aZ at hid
 split at hid
 ·cases hid
 ·exact(mJ hR hHK hargs hlen hVV).2.2 id hid
def uU{args:Array Operand}{a:Act}{d:D}{v:Value}(hv:VD F w d v)(hop:∀y∈args.toList,V F w ι (oev Γ y) (a.eval y)) :
  (AV.d d::args.toList.map (oev Γ)).length=(#[v]++args.map a.eval).toList.length /\
   ∀(k:Nat) c u,(AV.d d::args.toList.map (oev Γ))[k]? = some c->(#[v]++args.map a.eval).toList[k]? = some u->V F w ι c u:=by
 refine⟨by simp,λk c u hc hu=>?_⟩
 rw[FX,FF]at hu
 cases k with
 |zero=>simp at hc hu;subst hc;subst hu;exact .d _ _ hv
 | succ k =>
  simp only[BB,List.cons_append,List.nil_append,Ag]at hc hu
  cases hy:args.toList[k]? with
  |none=>rw[hy]at hc;cases hc
  | some y =>
   rw[hy]at hc hu
   injection hc with hc;injection hu with hu
   subst hc;subst hu
   exact hop y (Aj hy)
def bSk(v:Value)(l:Array Value):(#[v]++l)[0]? = some v/\(#[v]++l).extract 1 (#[v]++l).size=l:=by
 refine⟨?_,?_⟩
 ·rw[Array.getElem?_append];simp
 ·apply Array.ext';simp
def bWc{x:AV}{t:TypeId}{d:D}{v:Value}(hx:x=.d (.iff t d))(hv:V F w ι x v):∃u,v=.iface t u/\VD F w d u:=by subst hx;cases hv with|d _ _ hh=>cases hh with|iff _ _ u h=>exact⟨u,rfl,h⟩
def bBs{x:Operand}{name:String}{ty:TypeId}{d:D}{f:FuncId}{args:Array Operand}{ts:Array TypeId}{ds:List D}{r:D}(ho:o.op=.call { callee:=.invoke x name,args:=args,argTypes:=ts })
  (hHK:∀id ob,H id=some ob->K id=some ob) (hx:oev Γ x=.d (.iff ty d)) (hm:aMx P ty name=some f) (hargs:cI H (.d d::args.toList.map (oev Γ))=some ds) (hs:Spec P f ds r) (hk:∀id∈aZ H (.d d::args.toList.map (oev Γ)) r,¬C id) :
  Y P G o Γ C K K (inj r) bD (λi=>i∈aZ H (.d d::args.toList.map (oev Γ)) r):=by
 intro F w ι a hok hR hop _ next hnext
 have hop':∀y∈args.toList,V F w ι (oev Γ y) (a.eval y):=λy hy=>cH λt e=>hop t (by rw[ho];subst e;simp[AD,Bg];right;simpa using hy)
 have hvx:V F w ι (oev Γ x) (a.eval x):=cH λt e=>hop t (by rw[ho];subst e;simp[AD,Bg])
 obtain⟨u,hev,hud⟩:=bWc hx hvx
 obtain⟨hlen,hVV⟩:=uU hud hop'
 obtain⟨hl,hV,_⟩:=mJ hR hHK hargs hlen hVV
 obtain⟨hent,hcalls⟩:=hs (reach F ι (bV H (.d d::args.toList.map (oev Γ)))) w (#[u]++args.map a.eval) (by
  rintro b (h|⟨id,_,h⟩)
  ·exact hR.F_lt b h
  ·exact hR.ι_lt h) (by rw[hl,BK]) (λk d v hk hv=>hV k d v hk (by rw[Bj];exact hv))
 unfold wpX
 have hinv:aK P (invoke (.fn (.method name) #[]) (#[a.eval x]++args.map a.eval)) w=aK P (callFunc f (#[u]++args.map a.eval)) w:=by have e:=bSk (.iface ty u) (args.map a.eval);rw[hev,<-bEv hm];simp only[invoke,e.1,e.2]
 simp only[execOp,ho,resolve,Sem.run_bind,Sem.run_pure,AK,hinv,hent,iV]
 refine hcalls.mono ?_
 rintro v w' ⟨hb,hv⟩
 obtain⟨hR',hst⟩:=hR.call hb (aZ H (.d d::args.toList.map (oev Γ)) r) hk
 refine hnext _ w' ι v hR' hst (λ_ _ h=>.inl h) (λ_ h=>h.elim) (aDi ?_)
 by_cases hf:flat r=true
 ·exact aJc hf hv
 ·refine hv.mono λb hb'=>?_
  rcases hb' with (h|⟨id,h,hx⟩)|h
  ·exact .inl h
  ·exact .inr (.inl ⟨id,by simpa[aZ,hf]using h,hx⟩)
  ·exact .inr (.inr h)
def bHz{x:Operand}{ty:TypeId}{d:D}{args:Array Operand}{ds:List D}{r:D}{a:Act}(hR:HR G F w ι C K)(hHK:∀id ob,H id=some ob->K id=some ob)(hx:oev Γ x=.d (.iff ty d))
  (hargs:cI H (.d d::args.toList.map (oev Γ))=some ds) (hvx:V F w ι (oev Γ x) (a.eval x)) (hop:∀x∈args.toList,V F w ι (oev Γ x) (a.eval x)):∀id∈aZ H (.d d::args.toList.map (oev Γ)) r,∃b,ι id=some b:=by
 intro id hid
 obtain⟨u,hev,hud⟩:=bWc hx hvx
 obtain⟨hlen,hVV⟩:=uU hud hop
 unfold aZ at hid
 split at hid
 ·cases hid
 ·exact(mJ hR hHK hargs hlen hVV).2.2 id hid
def cDk{x:AV}{g:FuncId}{d:D}{v:Value}(hx:x=.d (.fm g d))(hv:V F w ι x v):∃u,v=.func (.func g) #[u] #[]/\VD F w d u:=by subst hx;cases hv with|d _ _ hh=>cases hh with|fm _ _ u h=>exact⟨u,rfl,h⟩
def bNd{x:Operand}{d:D}{f:FuncId}{args:Array Operand}{ts:Array TypeId}{ds:List D}{r:D}(ho:o.op=.call { callee:=.value x,args:=args,argTypes:=ts })
  (hHK:∀id ob,H id=some ob->K id=some ob) (hx:oev Γ x=.d (.fm f d)) (hargs:cI H (.d d::args.toList.map (oev Γ))=some ds) (hs:Spec P f ds r) (hk:∀id∈aZ H (.d d::args.toList.map (oev Γ)) r,¬C id) :
  Y P G o Γ C K K (inj r) bD (λi=>i∈aZ H (.d d::args.toList.map (oev Γ)) r):=by
 intro F w ι a hok hR hop _ next hnext
 have hop':∀y∈args.toList,V F w ι (oev Γ y) (a.eval y):=λy hy=>cH λt e=>hop t (by rw[ho];subst e;simp[AD,Bg];right;simpa using hy)
 have hvx:V F w ι (oev Γ x) (a.eval x):=cH λt e=>hop t (by rw[ho];subst e;simp[AD,Bg])
 obtain⟨u,hev,hud⟩:=cDk hx hvx
 obtain⟨hlen,hVV⟩:=uU hud hop'
 obtain⟨hl,hV,_⟩:=mJ hR hHK hargs hlen hVV
 obtain⟨hent,hcalls⟩:=hs (reach F ι (bV H (.d d::args.toList.map (oev Γ)))) w (#[u]++args.map a.eval) (by
  rintro b (h|⟨id,_,h⟩)
  ·exact hR.F_lt b h
  ·exact hR.ι_lt h) (by rw[hl,BK]) (λk d v hk hv=>hV k d v hk (by rw[Bj];exact hv))
 unfold wpX
 simp only[execOp,ho,resolve,invoke,Sem.run_bind,hev,CF,Sem.run_pure,AK,CJ,hent,iV]
 refine hcalls.mono ?_
 rintro v w' ⟨hb,hv⟩
 obtain⟨hR',hst⟩:=hR.call hb (aZ H (.d d::args.toList.map (oev Γ)) r) hk
 refine hnext _ w' ι v hR' hst (λ_ _ h=>.inl h) (λ_ h=>h.elim) (aDi ?_)
 by_cases hf:flat r=true
 ·exact aJc hf hv
 ·refine hv.mono λb hb'=>?_
  rcases hb' with (h|⟨id,h,hx⟩)|h
  ·exact .inl h
  ·exact .inr (.inl ⟨id,by simpa[aZ,hf]using h,hx⟩)
  ·exact .inr (.inr h)
def aSz{x:Operand}{f:FuncId}{d:D}{args:Array Operand}{ds:List D}{r:D}{a:Act}(hR:HR G F w ι C K)(hHK:∀id ob,H id=some ob->K id=some ob)(hx:oev Γ x=.d (.fm f d))
  (hargs:cI H (.d d::args.toList.map (oev Γ))=some ds) (hvx:V F w ι (oev Γ x) (a.eval x)) (hop:∀x∈args.toList,V F w ι (oev Γ x) (a.eval x)):∀id∈aZ H (.d d::args.toList.map (oev Γ)) r,∃b,ι id=some b:=by
 intro id hid
 obtain⟨u,hev,hud⟩:=cDk hx hvx
 obtain⟨hlen,hVV⟩:=uU hud hop
 unfold aZ at hid
 split at hid
 ·cases hid
 ·exact(mJ hR hHK hargs hlen hVV).2.2 id hid
def nS(P:Program)(H:Hp)(t:TypeId)(ad x:AV):Option (Nat×HO) :=
 match ad with
 | .ptr id off=>match H id with
  |some (.cells e cs)=>(cY x).bind λvs=>(tsz P t).bind λsz=>if vs.length=sz/\off+sz<=cs.length then some (id,.cells e (lay cs off vs))else none
  |_=>none
 |_=>none
def bMy{t:TypeId}{ad x:Operand}{id:Nat}{ho:HO}{K':Hp}(hop_:o.op=.store t ad x)(hHK:∀id ob,H id=some ob->K id=some ob)
  (h:nS P H t (oev Γ ad) (oev Γ x)=some (id,ho)) (hC:¬C id) (hK':K' id=some ho) (hsub:∀j o,j≠id->K' j=some o->K j=some o/\¬C j) :
  Y P G o Γ C K K' .un bD bD:=by
 intro F w ι a hok hR hop _ next hnext
 have oa:V F w ι (oev Γ ad) (a.eval ad):=cH λt e=>hop t (by rw[hop_];simp[AD,e])
 have ox:V F w ι (oev Γ x) (a.eval x):=cH λt e=>hop t (by rw[hop_];simp[AD,e])
 unfold nS at h
 split at h
 case h_2=>cases h
 rename_i id' off hadd
 split at h
 case h_2=>cases h
 rename_i e cs hH
 obtain⟨vs,hvs,h⟩:=Ad.1 h
 obtain⟨sz,hsz,h⟩:=Ad.1 h
 split at h
 case isFalse=>cases h
 rename_i hc
 obtain⟨hvl,hfit⟩:=hc
 injection h with h;injection h with h1 h2;subst h1;subst h2
 rw[hadd]at oa
 generalize hav:a.eval ad=av at oa
 cases oa with|ptr _ _ b hι =>
 have hcv:=aCt hvs ox
 obtain⟨cur,hb,hl,hcc⟩:=hR.cells hHK hι hH
 have hus:(a.eval x).cells.toList.length=sz:=by have:=hcv.1;simp;omega
 have hrun:aK P (storeCells ⟨b,off,none⟩ (a.eval x).cells.toList 0) w=_:=run_storeCells_at (P:=P) b off e (a.eval x).cells.toList 0 cur w hb (by omega) (λv hv=>hcv.2.2 v (by simpa using hv))
 simp only[B6]at hrun
 have hset:=setRow_heap w b cur (cur.toList.take off++(a.eval x).cells.toList++cur.toList.drop (off+(a.eval x).cells.toList.length)).toArray e (0,0) hb
 have hnF:¬F b:=(hR.place id' b hι).2.2 hC
 have hoth:∀k,k≠b->(w.setRow b (cur.toList.take off++(a.eval x).cells.toList++cur.toList.drop (off+(a.eval x).cells.toList.length)).toArray).heap[k]? = w.heap[k]? := λk hk=>setRow_other w b k _ hk
 have hsize:(cur.toList.take off++(a.eval x).cells.toList++cur.toList.drop (off+(a.eval x).cells.toList.length)).toArray.size=cur.size:=by
  have:(a.eval x).cells.size=sz:=by simpa using hus
  simp only[Ar,Bc,AZ,CZ,BK];omega
 have hlen2:(cur.toList.take off++(a.eval x).cells.toList).length=off+sz:=by rw[Bc,hus,AZ,BK];omega
 generalize hcur':(cur.toList.take off++(a.eval x).cells.toList++cur.toList.drop (off+(a.eval x).cells.toList.length)).toArray=cur' at *
 have hst:Step F w ι F (w.setRow b cur') ι:=by
  refine⟨λ_ h=>h,λk hk=>hoth k (λe=>hnF (e ▸ hk)),λ_ _ h=>h,λi k c0 e0 hi hk=>?_⟩;by_cases hkb:k=b
  ·subst hkb;rw[hb]at hk;injection hk with hk;injection hk with h1 h2;subst h1;subst h2
   exact⟨cur',hset,hsize⟩
  ·exact⟨c0,(hoth k hkb).trans hk,rfl⟩
 unfold wpX
 have hne:¬((a.eval x).cells.size≠sz):=by have:=hcv.1;omega
 simp only[execOp,hop_,Sem.run_bind,Instr.storeAt,hav,CE,Sem.run_pure,AK,storeVar,run_sizeOf w hsz,hne,Az,hrun,Oper.upon_skip]
 refine hnext F _ ι undef ?_ hst (λ_ _ h=>.inl h) (λ_ h=>h.elim) .un
 refine HR.congrC (C:=C) ⟨hR.kept.trans ⟨rfl,rfl,rfl,by simp,λk hk hm=>hoth k λe=>?_,λk c0 e0 _ hk=>by
   by_cases hkb:k=b
   ·subst hkb;rw[hb]at hk;injection hk with hk;injection hk with h1 h2;subst h1;subst h2
    exact⟨cur',hset,hsize⟩
   ·exact⟨c0,(hoth k hkb).trans hk,rfl⟩⟩,λk hk=>by rw[size_setRow];exact hR.F_lt k hk,hR.F_ok,λi k hi=>?_,?_,hR.inj,?_⟩ (λid=>by simp[bD])
 ·subst e
  rcases(hR.place id' k hι).1 with h|h
  ·exact hm h
  ·omega
 ·rw[size_setRow];exact hR.place i k hi
 ·intro i k o' hi ho'
  by_cases hid:i=id'
  ·subst hid
   rw[hι]at hi;injection hi with hi;subst hi
   rw[hK']at ho';injection ho' with ho';subst ho'
   refine⟨_,hset,.cells _ _ _ (by rw[oE (by omega),hsize];exact hl) λj c hj=>?_⟩
   rw[zK (by omega)]at hj
   split at hj
   ·rename_i hjj
    obtain⟨u,hu,hv⟩:=hcv.get hj
    refine⟨u,?_,hv.step hst⟩
    rw[<-hcur',Cm,AQ (by simp;omega),AJ (by simp;omega),AZ,BK,De (by omega),Bj]
    exact hu
   ·rename_i hjj
    obtain⟨u,hu,hv⟩:=hcc j c hj
    have hjl:j<cs.length:=(Ao.1 hj).1
    refine⟨u,?_,hv.step hst⟩
    rw[<-hcur',Cm]
    by_cases hjo:j<off
    ·rw[CQ,AQ (by simp;omega),Bt,Aq hjo,Bj];exact hu
    ·rw[AJ (by omega),hlen2,BG,Bj,hus]
     rw[<-hu];congr 1;omega
  ·obtain⟨hk1,hk2⟩:=hsub i o' hid ho'
   obtain⟨ob,h2,h3⟩:=hR.obj i k o' hi hk1
   refine⟨ob,(hoth k λe=>?_).trans h2,h3.step hst⟩
   subst e
   exact hid (hR.inj i id' k hi hι hk2 hC)
 ·intro i i' k o1 o2 hi hi' hc h1 h2
  have hlay:(HO.cells e (lay cs off vs)).len=(HO.cells e cs).len:=by simp only[HO.len];exact oE (by omega)
  have hk1:∃q1,K i=some q1/\q1.len=o1.len:=by
   by_cases hid:i=id'
   ·subst hid;rw[hK']at h1;injection h1 with h1;subst h1;exact⟨_,hHK _ _ hH,hlay.symm⟩
   ·exact⟨o1,(hsub i o1 hid h1).1,rfl⟩
  have hk2:∃q2,K i'=some q2/\q2.len=o2.len:=by
   by_cases hid:i'=id'
   ·subst hid;rw[hK']at h2;injection h2 with h2;subst h2;exact⟨_,hHK _ _ hH,hlay.symm⟩
   ·exact⟨o2,(hsub i' o2 hid h2).1,rfl⟩
  obtain⟨q1,e1,l1⟩:=hk1
  obtain⟨q2,e2,l2⟩:=hk2
  rw[<-l1,<-l2]
  exact hR.len i i' k q1 q2 hi hi' hc e1 e2
end
end Go.Am
end
section
open List renaming map_map->E,mapM_map->J
namespace Go.Am
open RowKit (Below)
def eX(n:Int):List (Int×AV)->Option Nat
 |[]=>none
 |x::es=>if x.1=n then some 0 else(eX n es).map (·+1)
def aVc(es:List (Int×AV))(n:Int):Option AV:=(eX n es).bind λj=>(es[j]?).map (·.2)
def aMv(es:List (Int×AV))(n:Int)(v:AV):List (Int×AV):=match eX n es with|some j=>es.set j (n,v)|none=>es++[(n,v)]
def aZg(es:List (Int×AV))(n:Int):List (Int×AV):=match eX n es with|some j=>es.eraseIdx j|none=>es
section
variable {P:Program} {F:Nat->Prop} {w:World} {ι:Nat->Option Nat} {G:Ctx} {C:Nat->Prop} {H K:Hp}
def qN{k:IntKind}{n:Int}:∀(es:List (Int×AV)) (l:List MapEntry) (i:Nat),es.length=l.length->(∀(j:Nat) x,es[j]? = some x->∃en,l[j]? = some en/\en.key=.int k x.1) ->
  GA (.int k) (.int k n) l i=some ((eX n es).bind λj=>(l[j]?).map λen=>(i+j,en.val))
 |[],[],i,_,_=>rfl
 | x::es,e::l,i,hl,h=>by
  obtain⟨en,h1,h2⟩:=h 0 x rfl;simp only[BX,Ax]at h1;subst h1;have ih:=qN (k:=k) (n:=n) es l (i+1) (by simpa using hl) λj y hy=>h (j+1) y (by simpa using hy)
  unfold GA eX;rw[h2];by_cases hx:x.1=n
  ·simp[Instr.sameNow,hx]
  ·have hne:(n==x.1)=false:=by simp;exact λe=>hx e.symm
   simp only[Instr.sameNow,AH,hne,Ai hx,ih];cases eX n es with
   |none=>rfl
   |some j=>simp[Ei,EE 1 j]
def nF{n:Int}:∀{es:List (Int×AV)} {j:Nat},eX n es=some j->∃v,es[j]? = some (n,v)
 | x::es,j,h=>by
  unfold eX at h;split at h
  ·rename_i hx;injection h with h;subst h;exact⟨x.2,by simp[<-hx]⟩
  ·obtain⟨i,hi,rfl⟩:=Af.1 h;obtain⟨v,hv⟩:=nF hi;exact⟨v,by simpa using hv⟩
 |[],j,h=>by cases h
def aBh{n:Int}:∀{es:List (Int×AV)},eX n es=none->∀(j:Nat) x,es[j]? = some x->x.1≠n
 |[],_,j,x,h=>by simp at h
 | y::es,hn,j,x,h=>by
  unfold eX at hn;split at hn
  ·cases hn
  ·rename_i hy;have hn':=Option.map_eq_none_iff.1 hn;rcases j with _|j
   ·simp at h;subst h;exact hy
   ·exact aBh hn' j x (by simpa using h)
def zC{t:TypeId}{p:TypeId×TypeId}(h:tmp P t=some p):P.underlying t=some (.map p.1 p.2):=by
 unfold tmp at h;split at h
 ·injection h with h;subst h;assumption
 ·cases h
def HR.mapOf(hR:HR G F w ι C K)(hHK:∀id o,H id=some o->K id=some o){id b:Nat}(hι:ι id=some b){k:IntKind}{es:List (Int×AV)}(hH:H id=some (.map k es)) :
  ∃ents clock,w.heap[b]? = some (.map ents clock)/\es.length=ents.size/\EI ents clock/\(∀(j:Nat) x,es[j]? = some x->∃en,ents[j]? = some en/\en.key=.int k x.1/\V F w ι x.2 en.val):=by
 obtain⟨ob,h2,h3⟩:=hR.obj id b _ hι (hHK _ _ hH)
 cases h3 with|map _ _ ents clock hl hst h=>exact⟨ents,clock,h2,hl,hst,h⟩
def bHu{k:IntKind}{es:List (Int×AV)}{ents:Array MapEntry}(hl:es.length=ents.size)(h:∀(j:Nat) x,es[j]? = some x->∃en,ents[j]? = some en/\en.key=.int k x.1/\V F w ι x.2 en.val) :
  ∀x∈ents.toList,Ej (.int k) x.key:=by
 intro x hx
 obtain⟨j,hj,rfl⟩:=BM.1 hx
 have hj':j<es.length:=by simpa[hl]using hj
 obtain⟨en,h1,h2,_⟩:=h j _ (Ab hj')
 have hj2:j<ents.size:=by omega
 rw[Al hj2]at h1
 injection h1 with h1
 simp only[Array.getElem_toList]
 rw[h1,h2];rfl
def uP(P:Program)(t:TypeId)(k:IntKind)(es:List (Int×AV))(x:AV)(ok:Bool):Option AV :=
 (tmp P t).bind λp=>match x with
  | .d (.i k' n)=>if k'=k/\fD P p.1=some k then
    match aVc es n with
    |some v=>some (if ok then .tp [v,.d (.b true)]else v)
    |none=>(tz P p.2).map λz=>if ok then .tp [cv z,.d (.b false)]else cv z
   else none
  |_=>none
def bSq(ks:List Int)(ds:List D):List (Int×AV):=(ks.zip ds).map λp=>(p.1,aL p.2)
def bWa(P:Program)(t:TypeId)(x:AV)(ok:Bool):Option AV :=
 (tmp P t).bind λp=>match x with
  |.d (.i k _)=>if fD P p.1=some k then(tz P p.2).map λz=>if ok then .tp [cv z,.d (.b false)]else cv z else none
  |_=>none
def aFu(P:Program)(H:Hp)(t:TypeId)(m x:AV)(ok:Bool):Option AV :=
 match m with
 | .mp id=>match H id with
  |some (.map k es)=>uP P t k es x ok
  |_=>none
 |.d (.mp k ks ds)=>uP P t k (bSq ks ds) x ok
 |.d (.lit (.map none))=>bWa P t x ok
 |_=>none
def aVe{t:TypeId}{k:IntKind}{es:List (Int×AV)}{x r:AV}{ok:Bool}{v:Value}{b:Nat}{ents:Array MapEntry}{clock:Nat}(h:uP P t k es x ok=some r)(hb:w.heap[b]? = some (.map ents clock))(hl:es.length=ents.size)
  (hes:∀(j:Nat) x,es[j]? = some x->∃en,ents[j]? = some en/\en.key=.int k x.1/\V F w ι x.2 en.val) (hx:V F w ι x v):∃z,aK P (FZ t (.map (some b)) v ok) w=.ok z w/\V F w ι r z:=by
 unfold uP at h
 obtain⟨p,hp,hq⟩:=Ad.1 h
 clear h
 have h:=hq
 clear hq
 split at h
 case h_2=>cases h
 rename_i k' n
 split at h
 case isFalse=>cases h
 rename_i hk
 obtain⟨rfl,hk⟩:=hk
 cases hx with|d _ _ hx=>cases hx with|i =>
 have hu:=zC hp
 have hf:=qN (k:=k') (n:=n) es ents.toList 0 (by simpa using hl) λj x hx=>let ⟨en,h1,h2,_⟩:=hes j x hx;⟨en,by simpa using h1,h2⟩
 have hki:P.underlying p.1=some (.int k'):=by
  unfold fD at hk;split at hk
  ·injection hk with hk;subst hk;assumption
  ·cases hk
 have hck:=nT (P:=P) (w:=w) (k:=.int k' n) hki (by simp[Ej]) ents.isEmpty 9999
 have hfk:=pU (P:=P) (w:=w) hki hf
 split at h
 ·rename_i v hv
  injection h with h;subst h
  unfold aVc at hv
  obtain⟨j,hj,hv⟩:=Ad.1 hv
  obtain⟨y,hy,rfl⟩:=Af.1 hv
  obtain⟨en,h1,h2,h3⟩:=hes j y hy
  have h1':ents.toList[j]? = some en:=by simpa using h1
  rw[hj]at hfk
  simp only[Es,h1',AU,AA]at hfk
  refine⟨if ok then .tuple #[en.val,.bool true]else en.val,?_,?_⟩
  ·cases ok<;>simp[FZ,aD hu,cQ hb,hck,hfk]
  ·cases ok
   ·exact h3
   ·refine .tp _ _ (by simp) λi c q hc hq=>?_
    rcases i with _|_|i
    ·simp at hc hq;subst hc;subst hq;exact h3
    ·simp at hc hq;subst hc;subst hq;exact .d _ _ (.b _)
    ·simp at hc
 ·rename_i hv
  obtain⟨z,hz,rfl⟩:=Af.1 h
  have hn:eX n es=none:=by
   cases hj:eX n es with
   |none=>rfl
   | some j =>
    obtain⟨y,hy⟩:=nF hj;simp[aVc,hj,hy]at hv
  rw[hn]at hfk
  simp only[Option.bind_none]at hfk
  refine⟨if ok then .tuple #[z,.bool false]else z,?_,?_⟩
  ·cases ok<;>simp[FZ,aD hu,cQ hb,hck,hfk,fO w hz]
  ·cases ok
   ·exact bMm z
   ·refine .tp _ _ (by simp) λi c q hc hq=>?_
    rcases i with _|_|i
    ·simp at hc hq;subst hc;subst hq;exact bMm z
    ·simp at hc hq;subst hc;subst hq;exact .d _ _ (.b _)
    ·simp at hc
def bIe{k:IntKind}{ks:List Int}{ds:List D}{ents:Array MapEntry}(hk:∀(j:Nat) n,ks[j]? = some n->∃en,ents[j]? = some en/\en.key=.int k n)
  (hv:∀(j:Nat) d en,ds[j]? = some d->ents[j]? = some en->VD F w d en.val):∀(j:Nat) x,(bSq ks ds)[j]? = some x->∃en,ents[j]? = some en/\en.key=.int k x.1/\V F w ι x.2 en.val:=by
 intro j x hx
 unfold bSq at hx
 rw[Ag]at hx
 obtain⟨p,hp,rfl⟩:=Af.1 hx
 obtain⟨h1,h2⟩:=D6.1 hp
 obtain⟨en,h3,h4⟩:=hk j _ h1
 exact⟨en,h3,h4,mX (hv j _ en h2 h3)⟩
def bRy(hR:HR G F w ι C K)(hHK:∀id o,H id=some o->K id=some o){t:TypeId}{m x r:AV}{ok:Bool}{u v:Value}(h:aFu P H t m x ok=some r)(hm:V F w ι m u)(hx:V F w ι x v) :
  ∃z,aK P (FZ t u v ok) w=.ok z w/\V F w ι r z:=by
 unfold aFu at h
 split at h
 case h_4=>cases h
 ·rename_i id
  cases hm with|mp _ b hι =>
  split at h
  case h_2=>cases h
  rename_i k es hH
  obtain⟨ents,clock,hb,hl,hst,hes⟩:=hR.mapOf hHK hι hH
  exact aVe h hb hl hes hx
 ·rename_i k ks ds
  cases hm with|d _ _ hm=>cases hm with|mp _ _ _ b ents clock hF hb hst hl hl' hk hv =>
  exact aVe h hb (by simp[bSq];omega) (bIe hk hv) hx
 ·cases hm with|d _ _ hm=>cases hm with|lit =>
  unfold bWa at h
  obtain⟨p,hp,hq⟩:=Ad.1 h
  clear h
  have h:=hq
  clear hq
  split at h
  case h_2=>cases h
  rename_i k' n
  split at h
  case isFalse=>cases h
  rename_i hk
  cases hx with|d _ _ hx=>cases hx with|i =>
  have hu:=zC hp
  have hki:P.underlying p.1=some (.int k'):=by
   unfold fD at hk;split at hk
   ·injection hk with hk;subst hk;assumption
   ·cases hk
  have hck:=nT (P:=P) (w:=w) (k:=.int k' n) hki (by simp[Ej]) true 9999
  have hfk:=pU (P:=P) (w:=w) hki (show GA (.int k') (.int k' n) [] 0=some none from rfl)
  obtain⟨z,hz,rfl⟩:=Af.1 h
  refine⟨if ok then .tuple #[z,.bool false]else z,?_,?_⟩
  ·cases ok<;>simp[FZ,aD hu,hck,hfk,fO w hz]
  ·cases ok
   ·exact bMm z
   ·refine .tp _ _ (by simp) λi c q hc hq=>?_
    rcases i with _|_|i
    ·simp at hc hq;subst hc;subst hq;exact bMm z
    ·simp at hc hq;subst hc;subst hq;exact .d _ _ (.b _)
    ·simp at hc
def aFp(H:Hp)(m:AV):Option Nat:=match m with
 | .mp id=>match H id with
  |some (.map _ es)=>some es.length
  |_=>none
 |_=>none
def bRo(hR:HR G F w ι C K)(hHK:∀id o,H id=some o->K id=some o){t ty:TypeId}{m:AV}{u:Value}{n:Nat}(ht:(tmp P t).isSome=true)(h:aFp H m=some n)(hm:V F w ι m u) :
  aK P (FY #[t] ty #[u]) w=.ok (.int .i64 n) w:=by
 unfold aFp at h
 split at h
 case h_2=>cases h
 rename_i id
 split at h
 case h_2=>cases h
 rename_i k es hH
 injection h with h;subst h
 cases hm with|mp _ b hι =>
 obtain⟨ents,clock,hb,hl,_⟩:=hR.mapOf hHK hι hH
 obtain⟨p,hp⟩:=Ek.1 ht
 have hu:=zC hp
 simp[FY,aD hu,cQ hb,hl,goInt]
def cAn(H:Hp)(x:AV):Option AV:=match x with
 | .ptr id 0=>match H id with
  |some (.iter k (some e) _)=>some (.tp [.d (.i k e.1),aL e.2])
  |_=>none
 |_=>none
def cAm(hR:HR G F w ι C K)(hHK:∀id o,H id=some o->K id=some o){x r:AV}{u:Value}(h:cAn H x=some r)(hx:V F w ι x u):∃z,aK P (Instr.entry u) w=.ok z w/\V F w ι r z:=by
 unfold cAn at h;split at h
 case h_2=>cases h
 rename_i id;cases hx with|ptr _ _ b hι =>
 split at h
 case h_2=>cases h
 rename_i k e es hH;injection h with h;subst h
 obtain⟨ob,hb,hcr⟩:=hR.obj id b _ hι (hHK _ _ hH);cases hcr with|iter _ _ _ bm since c0 clock seen ents hF hbm hold hsc hn hl hh hla =>
 obtain⟨rfl,en,seen0,rfl,hen,hk,hv⟩:=hla e rfl;refine⟨_,aHu w b bm since seen0 ents c0 en hb hbm hen hn,?_⟩;refine .tp _ _ (by simp) λi c q hc hq=>?_
 rcases i with _|_|i
 ·simp at hc hq;subst hc;subst hq;rw[hk];exact .d _ _ (.i _ _)
 ·simp at hc hq;subst hc;subst hq;exact mX hv
 ·simp at hc
def HR.write(hR:HR G F w ι C K){id b:Nat}{w':World}{ob ob':Obj}{old ho:HO}{K':Hp}(hC:¬C id)(hι:ι id=some b)(hold:K id=some old)(hlen:ho.len=old.len)
  (hk:Kept (·=b) w.heap.size w w') (hb:w.heap[b]? = some ob) (hb':w'.heap[b]? = some ob')
  (hshape:∀cur e,ob=.cells cur e (0,0)->∃cur',ob'=.cells cur' e (0,0)/\cur'.size=cur.size)
  (hcr:Step F w ι (λk=>F k\/(w.heap.size<=k/\k<w'.heap.size)) w' ι->CR (λk=>F k\/(w.heap.size<=k/\k<w'.heap.size)) w' ι ho ob')
  (hK':K' id=some ho) (hsub:∀j o,j≠id->K' j=some o->K j=some o/\¬C j) :
  HR G (λk=>F k\/(w.heap.size<=k/\k<w'.heap.size)) w' ι C K'/\Step F w ι (λk=>F k\/(w.heap.size<=k/\k<w'.heap.size)) w' ι:=by
 have hnF:¬F b:=(hR.place id b hι).2.2 hC
 have hoth:∀k,k<w.heap.size->k≠b->w'.heap[k]? = w.heap[k]? := λk hk1 hk2=>hk.block k hk1 hk2
 have hst:Step F w ι (λk=>F k\/(w.heap.size<=k/\k<w'.heap.size)) w' ι:=by
  refine⟨λ_ h=>.inl h,λk hkF=>hoth k (hR.F_lt k hkF) (λe=>hnF (e ▸ hkF)),λ_ _ h=>h,λi k c0 e0 hi hk0=>?_⟩;by_cases hkb:k=b
  ·subst hkb;rw[hb]at hk0;injection hk0 with hk0
   obtain⟨cur',h1,h2⟩:=hshape c0 e0 hk0;exact⟨cur',by rw[hb',h1],h2⟩
  ·exact⟨c0,(hoth k (hR.ι_lt hi) hkb).trans hk0,rfl⟩
 have hW:G.W.heap.size<=w.heap.size:=hR.kept.size
 have hsz:=hk.size
 refine⟨⟨hR.kept.trans ⟨hk.os,hk.tape,hk.output,hk.size,λk hkW hm=>hoth k (by omega) λe=>?_,λk c0 e0 hkW hc=>hk.shape k c0 e0 (by omega) hc⟩,?_,?_,?_,?_,hR.inj,?_⟩,hst⟩
 ·subst e
  rcases(hR.place id k hι).1 with h|h
  ·exact hm h
  ·omega
 ·rintro k (h|h)
  ·have:=hR.F_lt k h;omega
  ·exact h.2
 ·rintro k (h|h)
  ·exact hR.F_ok k h
  ·exact .inr (.inr (by omega))
 ·intro i k hi
  obtain⟨p1,p2,p3⟩:=hR.place i k hi
  exact⟨p1,by omega,λhc h=>h.elim (p3 hc) λh=>by omega⟩
 ·intro i k o' hi ho'
  by_cases hid:i=id
  ·subst hid
   rw[hι]at hi;injection hi with hi;subst hi
   rw[hK']at ho';injection ho' with ho';subst ho'
   exact⟨ob',hb',hcr hst⟩
  ·obtain⟨hk1,hk2⟩:=hsub i o' hid ho'
   obtain⟨ob2,h2,h3⟩:=hR.obj i k o' hi hk1
   refine⟨ob2,(hoth k (hR.ι_lt hi) λe=>?_).trans h2,h3.step hst⟩
   subst e
   exact hid (hR.inj i id k hi hι hk2 hC)
 ·intro i i' k o1 o2 hi hi' hc h1 h2
  have hk1:∃q1,K i=some q1/\q1.len=o1.len:=by
   by_cases hid:i=id
   ·subst hid;rw[hK']at h1;injection h1 with h1;subst h1;exact⟨_,hold,hlen.symm⟩
   ·exact⟨o1,(hsub i o1 hid h1).1,rfl⟩
  have hk2:∃q2,K i'=some q2/\q2.len=o2.len:=by
   by_cases hid:i'=id
   ·subst hid;rw[hK']at h2;injection h2 with h2;subst h2;exact⟨_,hold,hlen.symm⟩
   ·exact⟨o2,(hsub i' o2 hid h2).1,rfl⟩
  obtain⟨q1,e1,l1⟩:=hk1
  obtain⟨q2,e2,l2⟩:=hk2
  rw[<-l1,<-l2]
  exact hR.len i i' k q1 q2 hi hi' hc e1 e2
def qG(P:Program)(H:Hp)(t:TypeId)(m x:AV)(v:Option AV):Option (Nat×HO) :=
 match m with
 | .mp id=>match H id with
  | some (.map k es)=>(tmp P t).bind λp=>match x with
   |.d (.i k' n)=>if k'=k/\fD P p.1=some k then some (id,.map k (match v with|some v=>aMv es n v|none=>aZg es n))else none
   |_=>none
  |_=>none
 |_=>none
def bRn{F':Nat->Prop}{w':World}{k:IntKind}{n:Int}{v:AV}{u:Value}{es:List (Int×AV)}{ents:Array MapEntry}{clock:Nat}(hst:EI ents clock)(hl:es.length=ents.size)
  (hes:∀(j:Nat) x,es[j]? = some x->∃en,ents[j]? = some en/\en.key=.int k x.1/\V F' w' ι x.2 en.val) (hv:V F' w' ι v u) :
  CR F' w' ι (.map k (aMv es n v)) (match eX n es with
   |some j=>.map (ents.modify j λe=>{ e with key:=.int k n,val:=u }) clock
   |none=>.map (ents.push { key:=.int k n,val:=u,born:=clock }) (clock+1)):=by
 unfold aMv
 cases hj:eX n es with
 | some j =>
  obtain⟨v0,hj0⟩:=nF hj
  obtain⟨e0,q1,q2,_⟩:=hes j _ hj0
  have hjl:j<ents.size:=(AX.1 q1).1
  refine .map _ _ _ _ (by simp[hl]) (MapKept.stamped_modify hst _ _ (λ_ _=>rfl) λe' _ he'=>?_) λi x hx=>?_
  ·rw[q1]at he';cases he';exact q2.symm
  ·simp only at hx
   rw[List.getElem?_set]at hx
   by_cases hij:j=i
   ·subst hij
    have:j<es.length:=by omega
    simp only[AH,this,Ax]at hx
    subst hx
    exact⟨{ e0 with key:=.int k n,val:=u },by simp[FB,q1],rfl,hv⟩
   ·rw[Ai hij]at hx
    obtain⟨en,h1,h2,h3⟩:=hes i x hx
    exact⟨en,by simp[FB,hij,h1],h2,h3⟩
 | none =>
  refine .map _ _ _ _ (by simp[hl]) (MapKept.stamped_push hst λx hx=>?_) λi x hx=>?_
  ·obtain⟨i,hi,rfl⟩:=BM.1 hx
   have hi':i<es.length:=by simpa[hl]using hi
   obtain⟨en,h1,h2,_⟩:=hes i _ (Ab hi')
   have hi2:i<ents.size:=by omega
   rw[Al hi2]at h1;injection h1 with h1
   simp only[Array.getElem_toList]
   rw[h1,h2]
   intro he;injection he with _ he
   exact aBh hj i _ (Ab hi') he
  ·rw[List.getElem?_append]at hx
   split at hx
   ·rename_i hi
    obtain⟨en,h1,h2,h3⟩:=hes i x hx
    exact⟨en,by rw[Bx,Ai (by omega)];exact h1,h2,h3⟩
   ·rename_i hi
    have hi0:i=es.length:=by have:=(Ao.1 hx).1;simp at this;omega
    subst hi0
    simp at hx;subst hx
    exact⟨_,by rw[Bx,Aq hl],rfl,hv⟩
def bRs{F':Nat->Prop}{w':World}{k:IntKind}{n:Int}{es:List (Int×AV)}{ents:Array MapEntry}{clock:Nat}(hst:EI ents clock)(hl:es.length=ents.size)
  (hes:∀(j:Nat) x,es[j]? = some x->∃en,ents[j]? = some en/\en.key=.int k x.1/\V F' w' ι x.2 en.val) :
  CR F' w' ι (.map k (aZg es n)) (match eX n es with
   |some j=>.map (ents.eraseIdxIfInBounds j) clock
   |none=>.map ents clock):=by
 unfold aZg
 cases hj:eX n es with
 | some j =>
  obtain⟨v0,hj0⟩:=nF hj
  have hjl:j<es.length:=(Ao.1 hj0).1
  have hjl':j<ents.size:=by omega
  refine .map _ _ _ _ (by simp[List.length_eraseIdx,GB,hjl',hl]) (MapKept.stamped_erase hst _) λi x hx=>?_
  simp only at hx
  rw[List.getElem?_eraseIdx]at hx
  have he:(ents.eraseIdxIfInBounds j)[i]? = if i<j then ents[i]? else ents[i+1]? := by simp only[GB,dif_pos hjl'];rw[Array.getElem?_eraseIdx]
  rw[he]
  split at hx
  ·rename_i h;rw[Aq h];exact hes i x hx
  ·rename_i h;rw[Ai h];exact hes (i+1) x hx
 |none=>exact .map _ _ _ _ hl hst hes
variable [M:Mch P] {Γ:Nat->AV} {o:Oper}
def bEf{b:Nat}{ob:Obj}(ob':Obj)(hb:w.heap[b]? = some ob)(hs:∀cur e,ob≠.cells cur e (0,0)):Kept (·=b) w.heap.size w { w with heap:=w.heap.setIfInBounds b ob' } :=
 ⟨rfl,rfl,rfl,by simp,λk _ hk=>(MapKept.heap_set hb).2 k hk,λk cur e _ hc=>by
  by_cases hkb:k=b
  ·subst hkb;rw[hb]at hc;injection hc with hc;exact(hs _ _ hc).elim
  ·exact⟨cur,((MapKept.heap_set hb).2 k hkb).trans hc,rfl⟩⟩
def aPj{t:TypeId}{m x:Operand}{v:Option Operand}{id:Nat}{ho:HO}{K':Hp}
  (hop_:(∃y,v=some y/\(o.op=.mapUpdate t m x y\/o.op=.insert t m x y))\/(v=none/\∃kt,o.op=.call { callee:=.builtin .delete,args:=#[m,x],argTypes:=#[t,kt] })) (hHK:∀id ob,H id=some ob->K id=some ob)
  (h:qG P H t (oev Γ m) (oev Γ x) (v.map (oev Γ))=some (id,ho)) (hC:¬C id) (hK':K' id=some ho) (hsub:∀j o,j≠id->K' j=some o->K j=some o/\¬C j) :
  Y P G o Γ C K K' .any bD bD:=by
 intro F w ι a hok hR hop _ next hnext
 have om:V F w ι (oev Γ m) (a.eval m):=cH λt e=>hop t (by rcases hop_ with ⟨y,_,h|h⟩|⟨_,kt,h⟩<;>rw[h]<;>simp[AD,Bg,e])
 have ox:V F w ι (oev Γ x) (a.eval x):=cH λt e=>hop t (by rcases hop_ with ⟨y,_,h|h⟩|⟨_,kt,h⟩<;>rw[h]<;>simp[AD,Bg,e])
 unfold qG at h
 split at h
 case h_2=>cases h
 rename_i id' hm
 rw[hm]at om
 generalize hme:a.eval m=vm at om
 cases om with|mp _ b hι =>
 split at h
 case h_2=>cases h
 rename_i k es hH
 obtain⟨p,hp,hq⟩:=Ad.1 h
 clear h
 have h:=hq
 clear hq
 split at h
 case h_2=>cases h
 rename_i k' n hxx
 split at h
 case isFalse=>cases h
 rename_i hk
 obtain⟨rfl,hk⟩:=hk
 injection h with h;injection h with e1 e2;subst e1;subst e2
 rw[hxx]at ox
 generalize hxe:a.eval x=vx at ox
 cases ox with|d _ _ ox=>cases ox with|i =>
 obtain⟨ents,clock,hb,hl,hst,hes⟩:=hR.mapOf hHK hι hH
 have hu:=zC hp
 have hf:=qN (k:=k') (n:=n) es ents.toList 0 (by simpa using hl) λj x hx=>let ⟨en,h1,h2,_⟩:=hes j x hx;⟨en,by simpa using h1,h2⟩
 have hki:P.underlying p.1=some (.int k'):=by
  unfold fD at hk;split at hk
  ·injection hk with hk;subst hk;assumption
  ·cases hk
 have hks:=bHu (F:=F) (w:=w) (ι:=ι) hl hes
 have hik:Ej (.int k') (.int k' n):=by simp[Ej]
 have hck:=λe=>nT (P:=P) (w:=w) (k:=.int k' n) hki hik e 9999
 have hfk:=pU (P:=P) (w:=w) hki hf
 have key:∀(ob':Obj),iV P o a next (aK P (execOp a.eval o) w)=next (a.put o.dst (match v with|some _=>undef|none=>.tuple #[])) { w with heap:=w.heap.setIfInBounds b ob' } ->
   (∀F' w',Step F w ι F' w' ι->CR F' w' ι (.map k' (match v.map (oev Γ)with|some v=>aMv es n v|none=>aZg es n)) ob')->wpX P o a w next:=by
  intro ob' hrun hcr
  unfold wpX
  rw[hrun]
  obtain⟨hR',hst'⟩:=hR.write (K':=K') (ob':=ob') (ho:=.map k' (match v.map (oev Γ)with|some v=>aMv es n v|none=>aZg es n)) (old:=.map k' es) hC hι (hHK _ _ hH) rfl (bEf ob' hb (λ_ _ h=>by cases h)) hb (MapKept.heap_set hb).1
   (λcur e he=>by cases he) (λhs=>hcr _ _ hs) hK' hsub
  exact hnext _ _ ι _ (hR'.congrC λid=>by simp[bD]) hst' (λ_ _ h=>.inl h) (λ_ h=>h.elim) (.any _)
 rcases hop_ with ⟨y,rfl,hop1⟩|⟨rfl,kt,hop1⟩
 ·have oy:V F w ι (oev Γ y) (a.eval y):=cH λt e=>hop t (by rcases hop1 with h|h<;>rw[h]<;>simp[AD,e])
  have hx2:execOp a.eval o=execOp a.eval { o with op:=.mapUpdate t m x y }:=by rcases hop1 with h|h<;>simp[execOp,h]
  refine key _ ?_ λF' w' hs=>bRn (n:=n) (u:=a.eval y) hst hl (λj x hx=>let ⟨en,h1,h2,h3⟩:=hes j x hx;⟨en,h1,h2,h3.step hs⟩) (oy.step hs)
  rw[hx2]
  cases hj:eX n es with
  | some j =>
   obtain⟨v0,hj0⟩:=nF hj
   obtain⟨e0,q1,q2,_⟩:=hes j _ hj0
   have q1':ents.toList[j]? = some e0:=by simpa using q1
   rw[hj]at hfk
   simp only[Es,q1',AU,AA]at hfk
   simp[execOp,hme,hxe,Instr.mapUpdate,aD hu,cQ hb,hck,hfk,q1,q2,wK hik,iX hb,iV]
  | none =>
   rw[hj]at hfk
   simp only[Option.bind_none]at hfk
   simp[execOp,hme,hxe,Instr.mapUpdate,aD hu,cQ hb,hck,hfk,iX hb,iV]
 ·refine key _ ?_ λF' w' hs=>bRs (n:=n) hst hl (λj x hx=>let ⟨en,h1,h2,h3⟩:=hes j x hx;⟨en,h1,h2,h3.step hs⟩)
  cases hj:eX n es with
  | some j =>
   obtain⟨v0,hj0⟩:=nF hj
   obtain⟨e0,q1,q2,_⟩:=hes j _ hj0
   have q1':ents.toList[j]? = some e0:=by simpa using q1
   rw[hj]at hfk
   simp only[Es,q1',AU,AA]at hfk
   simp[execOp,hop1,resolve,invoke,builtin,hme,hxe,Builtin.delete_,aD hu,cQ hb,hck,hfk,iX hb,iV]
  | none =>
   rw[hj]at hfk
   simp only[Option.bind_none]at hfk
   simp[execOp,hop1,resolve,invoke,builtin,hme,hxe,Builtin.delete_,aD hu,cQ hb,hck,hfk,iX hb,iV]
end
end Go.Am
end
section
open List renaming map_map->E,mapM_map->J
namespace Go.Am
open RowKit (Below)
def aEb:AV->Bool
 |.d _|.nil|.fp _|.fd _|.un|.ub|.any=>true
 |_=>false
def noh:AV->Bool
 |.ag cs=>cs.all aEb
 |x=>aEb x
def kE:HO->Bool
 |.cells _ cs=>cs.all noh
 |.map _ es=>es.all λp=>noh p.2
 |.iter ..=>true
section
variable {P:Program} {F:Nat->Prop} {w:World} {ι:Nat->Option Nat} {G:Ctx} {C:Nat->Prop} {H K:Hp}
def aTj{x:AV}{v:Value}{ι':Nat->Option Nat}(hn:aEb x=true)(h:V F w ι x v):V F w ι' x v:=by
 cases h with
 |d x v h=>exact .d _ _ h
 |nil=>exact .nil
 |fp cs ad f hF hcell hel=>exact .fp _ _ f hF hcell hel
 |fd els ad n h=>exact .fd _ _ _ h
 |un=>exact .un
 |ub t=>exact .ub t
 |any v=>exact .any v
 |_=>cases hn
def bWi{x:AV}{v:Value}{ι':Nat->Option Nat}(hn:noh x=true)(h:V F w ι x v):V F w ι' x v:=by
 cases h with
 |ag cs vs hl h=>exact .ag _ _ hl λk c v hc hv=>aTj (A3.1 hn c (Aj hc)) (h k c v hc hv)
 |d x v h=>exact .d _ _ h
 |nil=>exact .nil
 |fp cs ad f hF hcell hel=>exact .fp _ _ f hF hcell hel
 |fd els ad n h=>exact .fd _ _ _ h
 |un=>exact .un
 |ub t=>exact .ub t
 |any v=>exact .any v
 |_=>cases hn
def xP{o:HO}{ob:Obj}{ι':Nat->Option Nat}(hn:kE o=true)(h:CR F w ι o ob):CR F w ι' o ob:=by
 cases h with
 |cells e cs cur hl h=>exact .cells _ _ _ hl λk c hk=>let ⟨u,h1,h2⟩:=h k c hk;⟨u,h1,bWi (A3.1 hn c (Aj hk)) h2⟩
 |map k es ents clock hl hst h=>exact .map _ _ _ _ hl hst λj x hj=>let ⟨en,h1,h2,h3⟩:=h j x hj;⟨en,h1,h2,bWi (A3.1 hn x (Aj hj)) h3⟩
 |iter k last es bm since c0 clock seen ents hF hb hold hsc hnd hl h hla=>exact .iter k last es bm since c0 clock seen ents hF hb hold hsc hnd hl h hla
def lJ{f g:AV->Option D}{v v':AV->List Nat}:∀(l:List AV) (ds:List D),l.mapM f=some ds->l.flatMap v=[]->(∀x∈l,∀d,f x=some d->v x=[]->g x=some d/\v' x=[])->l.mapM g=some ds/\l.flatMap v'=[]
 |[],ds,h,_,_=>by simpa using h
 | x::l,ds,h,hv,ih=>by
  simp only[Cp,C2,Ad,DK,Ax]at h;obtain⟨y,hy,r',hr',rfl⟩:=h;simp only[Gr,List.append_eq_nil_iff]at hv;obtain⟨h1,h2⟩:=ih x (AI ..) y hy hv.1;obtain⟨h3,h4⟩:=lJ l r' hr' hv.2 λx hx=>ih x (AE _ hx)
  exact⟨by simp[h1,h3],by simp[h2,h4]⟩
def rR{H H':Hp}:∀(n:Nat) (x:AV) (d:D),frz H n x=some d->vis H n x=[]->frz H' n x=some d/\vis H' n x=[]
 |0,_,_,h,_=>by cases h
 | n+1,x,d,h,hv=>by
  cases x with
  |d y=>exact⟨h,rfl⟩
  |nil=>exact⟨h,rfl⟩
  |fd els=>exact⟨h,rfl⟩
  |fp cs=>exact⟨h,rfl⟩
  | ptr id off =>
   exfalso;simp only[frz]at h;simp only[vis]at hv;split at h
   ·rename_i hH;rw[hH]at hv;cases hv
   ·cases h
  | mp id =>
   exfalso;simp only[frz]at h;simp only[vis]at hv;split at h
   ·rename_i hH;rw[hH]at hv;cases hv
   ·cases h
  | fn f cs =>
   simp only[frz,vis]at h hv ⊢;obtain⟨l,hl,rfl⟩:=Af.1 h;obtain⟨h1,h2⟩:=lJ cs l hl hv λx _ d hx hv=>rR n x d hx hv
   exact⟨by rw[h1];rfl,h2⟩
  | own id off len sz =>
   exfalso;simp only[frz]at h;simp only[vis]at hv;split at h
   ·rename_i hH;rw[hH]at hv;cases hv
   ·cases h
  | ag cs =>
   simp only[frz,vis]at h hv ⊢;obtain⟨l,hl,rfl⟩:=Af.1 h;obtain⟨h1,h2⟩:=lJ cs l hl hv λx _ d hx hv=>rR n x d hx hv
   exact⟨by rw[h1];rfl,h2⟩
  | tp cs =>
   simp only[frz,vis]at h hv ⊢;obtain⟨l,hl,rfl⟩:=Af.1 h;obtain⟨h1,h2⟩:=lJ cs l hl hv λx _ d hx hv=>rR n x d hx hv
   exact⟨by rw[h1];rfl,h2⟩
  |_=>cases h
def aBx{H H':Hp}{l:List AV}{ds:List D}(hv:bV H l=[])(h:cI H l=some ds):cI H' l=some ds/\bV H' l=[] :=
 lJ l ds h hv λx _ d hx hv=>rR 8 x d hx hv
def ι1(b:Nat):Nat->Option Nat:=λid=>if id=0 then some b else none
def hd1:AV->Option (Nat×AV)
 |.mp id=>some (id,.mp 0)
 |.own id off len sz=>some (id,.own 0 off len sz)
 |.ptr id off=>some (id,.ptr 0 off)
 |_=>none
def aNm{F':Nat->Prop}{x h:AV}{id:Nat}{v:Value}(he:hd1 x=some (id,h))(hv:V F w ι x v):∃b,ι id=some b/\V F' w (ι1 b) h v:=by
 unfold hd1 at he;split at he<;>first|(cases he;done)|(injection he with he;injection he with e1 e2;subst e1;subst e2)
 ·cases hv with|mp _ b hι=>exact⟨b,hι,.mp _ _ rfl⟩
 ·cases hv with|own _ _ _ _ b cap cur e hι hb hcap hl hm=>exact⟨b,hι,.own _ _ _ _ b cap cur e rfl hb hcap hl hm⟩
 ·cases hv with|ptr _ _ b hι=>exact⟨b,hι,.ptr _ _ _ rfl⟩
def kL(P:Program)[M:Mch P](f:FuncId)(h:AV)(o:HO)(ds:List D)(o':HO)(r:D):Prop :=
 ∀(A:Nat->Prop) (W:World) (vs:Array Value) (b:Nat),(∀k,A k->k<W.heap.size)->¬A b->b<W.heap.size->(∃ob,W.heap[b]? = some ob/\CR A W (ι1 b) o ob)->ds.length+1=vs.size ->
  (∃v,vs[0]? = some v/\V A W (ι1 b) h v)->(∀(k:Nat) d v,ds[k]? = some d->vs[k+1]? = some v->VD A W d v) ->
  (∀w,aK P (callFunc f vs) w=.ok (.enter f vs) w)/\CX P f vs W λv w'=>∃ob',Kept (·=b) W.heap.size W w'/\w'.heap[b]? = some ob' /\
   (∀cur e,W.heap[b]? = some (.cells cur e (0,0))->∃cur',ob'=.cells cur' e (0,0)/\cur'.size=cur.size) /\
   CR (λk=>A k\/(W.heap.size<=k/\k<w'.heap.size)) w' (ι1 b) o' ob'/\VD (λk=>A k\/(W.heap.size<=k/\k<w'.heap.size)) w' r v
variable [M:Mch P] {Γ:Nat->AV} {o:Oper}
def bNa{f:FuncId}{args:Array Operand}{ts:Array TypeId}{x:Operand}{rest:List Operand}{ds:List D}{id:Nat}{h:AV}{ho ho':HO}{r:D}{K':Hp}
  (hop_:o.op=.call { callee:=.value (.func f),args:=args,argTypes:=ts }) (hargs:args.toList=x::rest) (hHK:∀id ob,H id=some ob->K id=some ob)
  (hx:hd1 (oev Γ x)=some (id,h)) (hH:H id=some ho) (hno:kE ho=true) (hvis:bV H (rest.map (oev Γ))=[]) (hf:cI H (rest.map (oev Γ))=some ds) (hs:kL P f h ho ds ho' r)
  (hlen:ho'.len=ho.len) (hno':kE ho'=true) (hC:¬C id) (hK':K' id=some ho') (hsub:∀j o,j≠id->K' j=some o->K j=some o/\¬C j):Y P G o Γ C K K' (inj r) bD bD:=by
 intro F w ι a hok hR hop _ next hnext
 have hargs':args=(x::rest).toArray:=by rw[<-hargs]
 have hop':∀y∈x::rest,V F w ι (oev Γ y) (a.eval y):=λy hy=>cH λt e=>hop t (by rw[hop_];subst e;simp only[AD,Bg];rw[hargs'];simpa using hy)
 obtain⟨b,hι,hv0⟩:=aNm (F':=F) hx (hop' x (AI ..))
 obtain⟨ob,hb,hcr⟩:=hR.obj id b ho hι (hHK _ _ hH)
 obtain⟨hl,hV,_⟩:=mT hR hHK hf λy hy=>hop' y (AE _ hy)
 have hmap:args.map a.eval=(a.eval x::rest.map a.eval).toArray:=by rw[hargs'];simp
 have hnF:¬F b:=(hR.place id b hι).2.2 hC
 obtain⟨hent,hcalls⟩:=hs F w (args.map a.eval) b hR.F_lt hnF (hR.ι_lt hι) ⟨ob,hb,xP hno hcr⟩ (by rw[hmap];simp at hl ⊢;omega) ⟨a.eval x,by rw[hmap];simp,hv0⟩
  (λk d v hk hv=>(hV k d v hk (by rw[hmap]at hv;simpa using hv)).mono λc hc=>by
   rcases hc with hc|⟨i,hi,_⟩
   ·exact hc
   ·rw[hvis]at hi;cases hi)
 unfold wpX
 have hfe:a.eval (.func f)=.func (.func f) #[] #[]:=rfl
 simp only[execOp,hop_,resolve,invoke,Sem.run_bind,hfe,CF,Sem.run_pure,AK,Cl,CJ,hent,iV]
 refine hcalls.mono ?_
 rintro v w' ⟨ob',hk,hb',hshape,hcr',hvd⟩
 obtain⟨hR',hst⟩:=hR.write (K':=K') (ob':=ob') (ho:=ho') hC hι (hHK _ _ hH) hlen hk hb hb' (λcur e he=>hshape cur e (by rw[hb,he])) (λ_=>xP hno' hcr') hK' hsub
 exact hnext _ w' ι v (hR'.congrC λid=>by simp[bD]) hst (λ_ _ h=>.inl h) (λ_ h=>h.elim) (aDi hvd)
def aOz(P:Program)[M:Mch P](f:FuncId)(h:AV)(o:Option HO)(ds:List D)(r:D):Prop :=
 ∀(A:Nat->Prop) (W:World) (vs:Array Value) (ι:Nat->Option Nat),(∀k,A k->k<W.heap.size)->(∀id b,ι id=some b->id=0/\¬A b/\b<W.heap.size)->(∀ho,o=some ho->∃b ob,ι 0=some b/\W.heap[b]? = some ob/\CR A W ι ho ob)->ds.length+1=vs.size ->
  (∃v,vs[0]? = some v/\V A W ι h v)->(∀(k:Nat) d v,ds[k]? = some d->vs[k+1]? = some v->VD A W d v) ->
  (∀w,aK P (callFunc f vs) w=.ok (.enter f vs) w)/\CX P f vs W λv w'=>Kept (λb=>ι 0=some b) W.heap.size W w' /\
   VD (λk=>A k\/ι 0=some k\/(W.heap.size<=k/\k<w'.heap.size)) w' r v
def hd0:AV->Option D
 |.d x=>some x
 |.nil=>some (.sl [])
 |_=>none
def bTc{x:AV}{d:D}(h:hd0 x=some d):aEb x=true:=by unfold hd0 at h;split at h<;>first|rfl|cases h
def cDi{F:Nat->Prop}{w:World}{ι:Nat->Option Nat}{x:AV}{d:D}{v:Value}(h:hd0 x=some d)(hv:V F w ι x v):VD F w d v:=by
 unfold hd0 at h;split at h
 ·injection h with h;subst h;cases hv with|d _ _ h=>exact h
 ·injection h with h;subst h;cases hv;exact .sl0 none 0
 ·cases h
def aKn{P:Program}[M:Mch P]{f:FuncId}{x:AV}{d:D}{ds:List D}{r:D}(h:hd0 x=some d)(hs:Spec P f (d::ds) r):aOz P f x none ds r:=by
 intro A W vs ι hA hι ho hl hv0 hv;obtain⟨v0,h0,hV0⟩:=hv0;obtain⟨h1,h2⟩:=hs A W vs hA (by simpa using hl) λk d' v hk hv'=>by
  cases k with
  | zero =>
   simp only[BX,Ax]at hk;subst hk;rw[h0]at hv';injection hv' with hv';subst hv'
   exact cDi h hV0
  |succ k=>exact hv k d' v (by simpa using hk) hv'
 refine⟨h1,h2.mono ?_⟩;rintro v w' ⟨hb,hvd⟩;refine⟨Kept.below hb (Ay _),hvd.mono ?_⟩;rintro k (hk|hk)
 ·exact .inl hk
 ·exact .inr (.inr hk)
def jX{f g:AV->Option D}{v v':AV->List Nat}{Q:Nat->Prop}:∀(l:List AV) (ds:List D),l.mapM f=some ds->(∀i∈l.flatMap v,Q i)->(∀x∈l,∀d,f x=some d->(∀i∈v x,Q i)->g x=some d/\v' x=v x)->l.mapM g=some ds/\l.flatMap v'=l.flatMap v
 |[],ds,h,_,_=>by simpa using h
 | x::l,ds,h,hv,ih=>by
  simp only[Cp,C2,Ad,DK,Ax]at h;obtain⟨y,hy,r',hr',rfl⟩:=h;simp only[Gr,List.mem_append]at hv;obtain⟨h1,h2⟩:=ih x (AI ..) y hy λi hi=>hv i (.inl hi)
  obtain⟨h3,h4⟩:=jX l r' hr' (λi hi=>hv i (.inr hi)) λx hx=>ih x (AE _ hx)
  exact⟨by simp[h1,h3],by simp[h2,h4]⟩
def oH{H H':Hp}:∀(n:Nat) (x:AV) (d:D),frz H n x=some d->(∀i∈vis H n x,H' i=H i)->frz H' n x=some d/\vis H' n x=vis H n x
 |0,_,_,h,_=>by cases h
 | n+1,x,d,h,hv=>by
  cases x with
  |d y=>exact⟨h,rfl⟩
  |nil=>exact⟨h,rfl⟩
  |fd els=>exact⟨h,rfl⟩
  |fp cs=>exact⟨h,rfl⟩
  | ptr id off =>
   simp only[frz]at h;simp only[vis]at hv ⊢;split at h
   case h_2=>cases h
   rename_i e cs hH;rw[hH]at hv;have hH':H' id=some (.cells e cs):=by rw[hv id (AI ..),hH]
   split at h
   case isFalse=>cases h
   rename_i hc;obtain⟨l,hl,rfl⟩:=Af.1 h;obtain⟨h1,h2⟩:=jX (Q:=λi=>H' i=H i) (g:=frz H' n) (v':=vis H' n) _ l hl (λi hi=>hv i (AE _ hi)) λx _ d hx hv=>oH n x d hx hv
   simp only[frz,hH',hH,Aq hc,h1,h2,AU,and_self]
  | mp id =>
   simp only[frz]at h;simp only[vis]at hv ⊢;split at h
   case h_2=>cases h
   rename_i k es hH;rw[hH]at hv;have hH':H' id=some (.map k es):=by rw[hv id (AI ..),hH]
   obtain⟨l,hl,rfl⟩:=Af.1 h;obtain⟨h1,h2⟩:=jX (Q:=λi=>H' i=H i) (g:=frz H' n) (v':=vis H' n) _ l hl (λi hi=>hv i (AE _ hi)) λx _ d hx hv=>oH n x d hx hv
   simp only[frz,hH',hH,h1,h2,AU,and_self]
  | own id off len sz =>
   simp only[frz]at h;simp only[vis]at hv ⊢;split at h
   case h_2=>cases h
   rename_i e cs hH;rw[hH]at hv;have hH':H' id=some (.cells e cs):=by rw[hv id (AI ..),hH]
   split at h
   case isFalse=>cases h
   rename_i hc;obtain⟨l,hl,rfl⟩:=Af.1 h;obtain⟨h1,h2⟩:=jX (Q:=λi=>H' i=H i) (g:=frz H' n) (v':=vis H' n) _ l hl (λi hi=>hv i (AE _ hi)) λx _ d hx hv=>oH n x d hx hv
   simp only[frz,hH',hH,Aq hc,h1,h2,AU,and_self]
  | fn f cs =>
   simp only[frz,vis]at h hv ⊢;obtain⟨l,hl,rfl⟩:=Af.1 h;obtain⟨h1,h2⟩:=jX (Q:=λi=>H' i=H i) cs l hl hv λx _ d hx hv=>oH n x d hx hv
   exact⟨by rw[h1];rfl,h2⟩
  | ag cs =>
   simp only[frz,vis]at h hv ⊢;obtain⟨l,hl,rfl⟩:=Af.1 h;obtain⟨h1,h2⟩:=jX (Q:=λi=>H' i=H i) cs l hl hv λx _ d hx hv=>oH n x d hx hv
   exact⟨by rw[h1];rfl,h2⟩
  | tp cs =>
   simp only[frz,vis]at h hv ⊢;obtain⟨l,hl,rfl⟩:=Af.1 h;obtain⟨h1,h2⟩:=jX (Q:=λi=>H' i=H i) cs l hl hv λx _ d hx hv=>oH n x d hx hv
   exact⟨by rw[h1];rfl,h2⟩
  |_=>cases h
def aBw{H H':Hp}{l:List AV}{ds:List D}(h:cI H l=some ds)(hv:∀i∈bV H l,H' i=H i):cI H' l=some ds/\bV H' l=bV H l :=
 jX (Q:=λi=>H' i=H i) l ds h hv λx _ d hx hv=>oH 8 x d hx hv
def aTq{f:FuncId}{args:Array Operand}{ts:Array TypeId}{x:Operand}{rest:List Operand}{ds:List D}{h:AV}{ho:Option HO}{r:D}{ids l:List Nat}{K':Hp}
  (hop_:o.op=.call { callee:=.value (.func f),args:=args,argTypes:=ts }) (hargs:args.toList=x::rest) (hHK:∀id ob,H id=some ob->K id=some ob)
  (hx:(∃id h0,ids=id::l/\hd1 (oev Γ x)=some (id,h)/\ho=some h0/\H id=some h0/\kE h0=true/\¬C id/\id ∉ l)\/(ids=l/\aEb (oev Γ x)=true/\h=oev Γ x/\ho=none))
  (hvis:bV H (rest.map (oev Γ))=l) (hCl:∀i∈l,¬C i) (hf:cI H (rest.map (oev Γ))=some ds) (hs:aOz P f h ho ds r)
  (hsub:∀j o,K' j=some o->K j=some o/\¬C j/\j ∉ ids):Y P G o Γ C K K' (inj r) bD (λi=>i∈ids):=by
 intro F w ι a hok hR hop _ next hnext
 have hargs':args=(x::rest).toArray:=by rw[<-hargs]
 have hop':∀y∈x::rest,V F w ι (oev Γ y) (a.eval y):=λy hy=>cH λt e=>hop t (by rw[hop_];subst e;simp only[AD,Bg];rw[hargs'];simpa using hy)
 obtain⟨hl,hV,hlv⟩:=mT hR hHK hf λy hy=>hop' y (AE _ hy)
 rw[hvis]at hV hlv
 have hmap:args.map a.eval=(a.eval x::rest.map a.eval).toArray:=by rw[hargs'];simp
 obtain⟨A,hA⟩:∃A,A=reach F ι l:=⟨_,rfl⟩
 have hAF:∀b,F b->A b:=λb h=>by rw[hA];exact .inl h
 have hAlt:∀b,A b->b<w.heap.size:=λb h=>by
  rw[hA]at h;rcases h with h|⟨i,_,h⟩
  ·exact hR.F_lt b h
  ·exact hR.ι_lt h
 have hsA:∀ι',Step F w ι' A w ι':=λι'=>⟨hAF,λ_ _=>rfl,λ_ _ h=>h,λ_ _ cur _ _ h=>⟨cur,h,rfl⟩⟩
 rw[<-hA]at hV
 obtain⟨ιc,hιc,hids,hh,hob⟩:∃ιc:Nat->Option Nat,(∀id b,ιc id=some b->id=0/\¬A b/\b<w.heap.size)/\(∀b,ιc 0=some b->∃i∈ids,i ∉ l/\¬C i/\ι i=some b)/\V A w ιc h (a.eval x)/\∀h0,ho=some h0->∃b ob,ιc 0=some b/\w.heap[b]? = some ob/\CR A w ιc h0 ob:=by
  rcases hx with ⟨id,h0,rfl,hx,rfl,hH,hno,hC,hnl⟩|⟨rfl,hno,rfl,rfl⟩
  ·obtain⟨b,hι,hv0⟩:=aNm (F':=A) hx (hop' x (AI ..));obtain⟨ob,hb,hcr⟩:=hR.obj id b h0 hι (hHK _ _ hH);refine⟨ι1 b,λi c hc=>?_,λc hc=>?_,hv0,λh1 e=>?_⟩
   ·unfold ι1 at hc;split at hc
    ·rename_i e;injection hc with hc;subst hc
     refine⟨e,λhAb=>?_,hR.ι_lt hι⟩;rw[hA]at hAb;rcases hAb with h|⟨j,hj,h⟩
     ·exact(hR.place id b hι).2.2 hC h
     ·have:=hR.inj id j b hι h hC (hCl j hj);subst this;exact hnl hj
    ·cases hc
   ·simp only[ι1,AH]at hc;injection hc with hc;subst hc
    exact⟨id,AI ..,hnl,hC,hι⟩
   ·injection e with e;subst e
    exact⟨b,ob,rfl,hb,(xP hno hcr).step (hsA _)⟩
  ·refine⟨λ_=>none,?_,?_,(aTj hno (hop' x (AI ..))).step (hsA _),?_⟩
   ·intro i b h;cases h
   ·intro b h;cases h
   ·intro h0 e;cases e
 obtain⟨hent,hcalls⟩:=hs A w (args.map a.eval) ιc hAlt hιc hob (by rw[hmap];simp at hl ⊢;omega) ⟨a.eval x,by rw[hmap];simp,hh⟩
  (λk d v hk hv=>hV k d v hk (by rw[hmap]at hv;simpa using hv))
 unfold wpX
 have hfe:a.eval (.func f)=.func (.func f) #[] #[]:=rfl
 simp only[execOp,hop_,resolve,invoke,Sem.run_bind,hfe,CF,Sem.run_pure,AK,Cl,CJ,hent,iV]
 refine hcalls.mono ?_
 rintro v w' ⟨hk,hvd⟩
 have hsz:=hk.size
 have hW:G.W.heap.size<=w.heap.size:=hR.kept.size
 have hnF:∀b,ιc 0=some b->¬A b/\b<w.heap.size:=λb hb=>(hιc 0 b hb).2
 have hoth:∀k,k<w.heap.size->ιc 0≠some k->w'.heap[k]? = w.heap[k]? := λk h1 h2=>hk.block k h1 h2
 have hst:Step F w ι (λk=>A k\/ιc 0=some k\/(w.heap.size<=k/\k<w'.heap.size)) w' ι :=
  ⟨λb h=>.inl (hAF b h),λk hkF=>hoth k (hR.F_lt k hkF) λe=>(hnF k e).1 (hAF k hkF),λ_ _ h=>h,λi k c0 e0 hi hk0=>hk.shape k c0 e0 (hR.ι_lt hi) hk0⟩
 have hids2:∀i,i∈l->i∈ids:=λi hi=>by
  rcases hx with ⟨id,h0,rfl,_⟩|⟨rfl,_⟩
  ·exact AE _ hi
  ·exact hi
 refine hnext _ w' ι v ⟨hR.kept.trans ⟨hk.os,hk.tape,hk.output,hk.size,λk hkW hm=>hoth k (by omega) λe=>?_,λk c0 e0 hkW hc=>hk.shape k c0 e0 (by omega) hc⟩,?_,?_,?_,?_,?_,?_⟩ hst (λ_ _ h=>.inl h) (λ_ h=>h.elim) (aDi hvd)
 ·obtain⟨i,_,_,_,hi⟩:=hids k e
  rcases(hR.place i k hi).1 with h|h
  ·exact hm h
  ·omega
 ·rintro k (h|h|h)
  ·have:=hAlt k h;omega
  ·have:=(hnF k h).2;omega
  ·exact h.2
 ·rintro k (h|h|h)
  ·rw[hA]at h
   rcases h with h|⟨i,_,hi⟩
   ·exact hR.F_ok k h
   ·rcases(hR.place i k hi).1 with h|h
    ·exact .inr (.inl h)
    ·exact .inr (.inr h)
  ·obtain⟨i,_,_,_,hi⟩:=hids k h
   rcases(hR.place i k hi).1 with h|h
   ·exact .inr (.inl h)
   ·exact .inr (.inr h)
  ·exact .inr (.inr (by omega))
 ·intro i k hi
  obtain⟨p1,p2,p3⟩:=hR.place i k hi
  refine⟨p1,by omega,λhc h=>?_⟩
  have hc1:¬C i:=λh=>hc (.inl h)
  rcases h with h|h|h
  ·rw[hA]at h
   rcases h with h|⟨j,hj,hjk⟩
   ·exact p3 hc1 h
   ·have:=hR.inj i j k hi hjk hc1 (hCl j hj)
    subst this;exact hc (.inr (hids2 _ hj))
  ·obtain⟨j,hj,_,hjC,hjk⟩:=hids k h
   have:=hR.inj i j k hi hjk hc1 hjC
   subst this;exact hc (.inr hj)
  ·omega
 ·intro i k o' hi ho'
  obtain⟨h1,h2,h3⟩:=hsub i o' ho'
  obtain⟨ob2,h4,h5⟩:=hR.obj i k o' hi h1
  refine⟨ob2,(hoth k (hR.ι_lt hi) λe=>?_).trans h4,h5.step hst⟩
  obtain⟨j,hj,_,hjC,hjk⟩:=hids k e
  have:=hR.inj i j k hi hjk h2 hjC
  subst this;exact h3 hj
 ·exact λi i' b h1 h2 c1 c2=>hR.inj i i' b h1 h2 (λh=>c1 (.inl h)) λh=>c2 (.inl h)
 ·exact λi i' b o1 o2 h1 h2 c1 k1 k2=>hR.len i i' b o1 o2 h1 h2 (λh=>c1 (.inl h)) (hsub i o1 k1).1 (hsub i' o2 k2).1
def aDo(P:Program)[M:Mch P](f g:FuncId):Prop :=
 ∀(W:World) (b:Nat),(∀w,aK P (callFunc f #[.map (some b)]) w=.ok (.enter f #[.map (some b)]) w) /\
  CX P f #[.map (some b)] W λv w'=>∃e0,v=.func (.func g) #[] #[.pointer (some ⟨W.heap.size,0,none⟩)]/\w'=W.alloc (.cells #[.map (some b)] e0)
def ins(n:Int):List Int->List Int
 |[]=>[n]
 |m::l=>if n<=m then n::m::l else m::ins n l
def aNg:List Int->List Int
 |[]=>[]
 |n::l=>ins n (aNg l)
def inr(n:Int):Bool:=decide (-9223372036854775808<=n/\n<=9223372036854775807)
def tP(P:Program)[M:Mch P](f g:FuncId):Prop :=
 ∀(W:World) (b p:Nat) (e:TypeId) (ks:List Int) (ents:Array MapEntry) (clock:Nat),W.heap[b]? = some (.map ents clock)->EI ents clock->ents.toList.map (·.key)=ks.map (.int .i64 ·) ->
  W.heap[p]? = some (.cells #[.map (some b)] e (0,0))->ks.length<=1099511627776->ks.all inr=true ->
  (∀w,aK P (callFunc f #[.func (.func g) #[] #[.pointer (some ⟨p,0,none⟩)]]) w=.ok (.enter f #[.func (.func g) #[] #[.pointer (some ⟨p,0,none⟩)]]) w) /\
  CX P f #[.func (.func g) #[] #[.pointer (some ⟨p,0,none⟩)]] W λv w'=>Below W.heap.size W w' /\
   VD (λk=>W.heap.size<=k/\k<w'.heap.size) w' (.sl ((aNg ks).map λn=>[.i .i64 n])) v
def bWv{f g:FuncId}{args:Array Operand}{ts:Array TypeId}{x:Operand}{id:Nat}(hop_:o.op=.call { callee:=.value (.func f),args:=args,argTypes:=ts })(hargs:args.toList=[x])
  (hx:oev Γ x=.mp id) (hs:aDo P f g):Y P G o Γ C K K (.kf g id) bD bD:=by
 intro F w ι a hok hR hop _ next hnext
 have hargs':args=#[x]:=by cases args;simp only at hargs;subst hargs;rfl
 have ox:V F w ι (oev Γ x) (a.eval x):=cH λt e=>hop t (by rw[hop_,hargs'];simp[AD,Bg,e])
 rw[hx]at ox
 generalize hxe:a.eval x=u at ox
 cases ox with|mp _ b hι =>
 obtain⟨hent,hcalls⟩:=hs w b
 unfold wpX
 have hfe:a.eval (.func f)=.func (.func f) #[] #[]:=rfl
 simp only[execOp,hop_,hargs',resolve,invoke,Sem.run_bind,hfe,CF,Sem.run_pure,AK,Cl,CJ,List.map_toArray,BO,EZ,hxe,hent,iV]
 refine hcalls.mono ?_
 rintro v w' ⟨e0,rfl,rfl⟩
 obtain⟨hR',hst⟩:=hR.call (((Below.refl _ w).alloc (Ay _) (.cells #[.map (some b)] e0))) [] (by simp)
 refine hnext _ _ ι _ (hR'.congrC λid=>by simp[bD]) hst (λ_ _ h=>.inl h) (λ_ h=>h.elim) (.kf g id b w.heap.size e0 hι (.inr (.inr ⟨Ay _,by simp⟩)) ?_)
 exact(MapKept.heap_alloc w _).1
def bBq{f g:FuncId}{args:Array Operand}{ts:Array TypeId}{x:Operand}{id:Nat}{es:List (Int×AV)}(hop_:o.op=.call { callee:=.value (.func f),args:=args,argTypes:=ts })(hargs:args.toList=[x])
  (hHK:∀id ob,H id=some ob->K id=some ob) (hx:oev Γ x=.kf g id) (hH:H id=some (.map .i64 es)) (hn:es.length<=1099511627776) (hr:(es.map (·.1)).all inr=true) (hs:tP P f g) :
  Y P G o Γ C K K (.d (.sl ((aNg (es.map (·.1))).map λn=>[.i .i64 n]))) bD bD:=by
 intro F w ι a hok hR hop _ next hnext
 have hargs':args=#[x]:=by cases args;simp only at hargs;subst hargs;rfl
 have ox:V F w ι (oev Γ x) (a.eval x):=cH λt e=>hop t (by rw[hop_,hargs'];simp[AD,Bg,e])
 rw[hx]at ox
 generalize hxe:a.eval x=u at ox
 cases ox with|kf _ _ b p e hι hF hp =>
 obtain⟨ents,clock,hb,hl,hst,hes⟩:=hR.mapOf hHK hι hH
 have hkeys:ents.toList.map (·.key)=(es.map (·.1)).map (.int .i64 ·):=by
  refine List.ext_getElem? λj=>?_
  simp only[Ag,Bj];cases hj:es[j]? with
  | none =>
   have:ents[j]? = none:=by rw[Array.getElem?_eq_none_iff];rw[List.getElem?_eq_none_iff]at hj;omega
   rw[this];rfl
  |some y=>obtain⟨en,h1,h2,_⟩:=hes j y hj;rw[h1];simp[h2]
 obtain⟨hent,hcalls⟩:=hs w b p e (es.map (·.1)) ents clock hb hst hkeys hp (by simpa using hn) hr
 unfold wpX
 have hfe:a.eval (.func f)=.func (.func f) #[] #[]:=rfl
 simp only[execOp,hop_,hargs',resolve,invoke,Sem.run_bind,hfe,CF,Sem.run_pure,AK,Cl,CJ,List.map_toArray,BO,EZ,hxe,hent,iV]
 refine hcalls.mono ?_
 rintro v w' ⟨hbl,hv⟩
 obtain⟨hR',hst⟩:=hR.call hbl [] (by simp)
 exact hnext _ _ ι _ (hR'.congrC λid=>by simp[bD]) hst (λ_ _ h=>.inl h) (λ_ h=>h.elim) (.d _ _ (hv.mono λb hb=>.inr (.inr hb)))
end
end Go.Am
end
section
open List renaming map_map->E,mapM_map->J
namespace Go.Am
structure AS where
 Γ:Nat->AV
 T:Nat->Prop
 K:Hp
 U:Nat->Prop
def bI(Γ:Nat->AV)(d:Option Tmp)(v:AV):Nat->AV :=
 match d with
 |some d=>upd Γ d v
 |none=>Γ
def bCv:List String:=["slices.Insert[torsion/api.Complex,torsion/api.Cell]", "slices.Delete[torsion/api.Complex,torsion/api.Cell]"]
def aO(P:Program)(f:FuncId):Bool:=match P.funcs[f]? with|some fn=>fn.resultTypes.isEmpty||(match fn.params[0]? with|some t=>(tmp P t).isSome|none=>false)||bCv.contains fn.name|none=>false
def aRq(P:Program)(ts:Array TypeId):Bool:=match ts.toList with|[t]=>(tel P t).isNone&&(tmp P t).isSome|_=>false
def aNd(P:Program)(t:TypeId):aRq P #[t]=((tel P t).isNone&&(tmp P t).isSome):=rfl
def kind(P:Program):Op->Nat
 |.load ..=>1
 |.lookup ..=>1
 |.entry ..=>1
 |.call { callee:=.value (.func f),.. }=>if aO P f then 2 else 1
 |.call { callee:=.builtin .append,.. }=>1
 |.call { callee:=.builtin .delete,.. }=>2
 |.call { callee:=.builtin .len,argTypes:=ts,.. }=>if aRq P ts then 1 else 0
 |.store ..=>2
 |.mapUpdate ..=>2
 |.insert ..=>2
 |.call { callee:=.value _,.. }=>1
 |.call { callee:=.invoke ..,.. }=>1
 |_=>0
def pJ(id:Nat):AV->Bool
 |.ptr i _|.mp i|.own i _ _ _=>i==id
 |_=>false
open Classical in
noncomputable def mN(K:Hp)(T:Nat->Prop)(id:Nat)(ho:HO):Hp:=λj=>if j=id then some ho else if T j then none else K j
def EvN(P:Program)[M:Mch P](G:Ctx)(o:Oper)(Γ:Nat->AV)(K K':Hp)(av:AV)(new con:Nat->Prop):Prop :=
 kind P o.op=0/\K'=K/\con=bD/\∀(T2:Nat->Prop) (K2:Hp),(∀id,new id->K2 id=K id)->Y P G o Γ T2 K2 K2 av new bD
def EvR(P:Program)[M:Mch P](G:Ctx)(o:Oper)(Γ:Nat->AV)(T:Nat->Prop)(K K':Hp)(av:AV)(new con:Nat->Prop):Prop :=
 kind P o.op=1/\K'=K/\(∀id,con id->¬T id) /\
 (∀F w ι T2 (a:Act),HR G F w ι T2 K->(∀t,CN t∈o.op.operands->V F w ι (Γ t) (a.tmps.getD t undef))->∀id,con id->∃b,ι id=some b) /\
 ∀T2:Nat->Prop,(∀id,con id->¬T2 id)->Y P G o Γ T2 K K av new con
def EvW(P:Program)[M:Mch P](G:Ctx)(o:Oper)(Γ:Nat->AV)(T:Nat->Prop)(K K':Hp)(av:AV)(new con:Nat->Prop):Prop :=
 kind P o.op=2/\new=bD/\con=bD/\∃id t old ho,CN t∈o.op.operands/\pJ id (Γ t)=true/\K id=some old/\¬T id/\K'=mN K T id ho /\
  ∀(T2:Nat->Prop) (K2:Hp),K2 id=some old->¬T2 id->Y P G o Γ T2 K2 (mN K2 T2 id ho) av bD bD
open Classical in
noncomputable def jZ(K:Hp)(T S:Nat->Prop)(g:Hp):Hp:=λj=>if S j then g j else if T j then none else K j
def EvG(P:Program)[M:Mch P](G:Ctx)(o:Oper)(Γ:Nat->AV)(T:Nat->Prop)(K K':Hp)(av:AV)(new con:Nat->Prop):Prop :=
 kind P o.op=2/\∃(S:Nat->Prop) (g:Hp),(∀id,S id->¬T id)/\(∀id,con id->S id)/\(∀id,new id->¬S id) /\
  (∀id,S id->∀F w ι T2 (a:Act),HR G F w ι T2 K->(∀t,CN t∈o.op.operands->V F w ι (Γ t) (a.tmps.getD t undef))->∃b,ι id=some b)/\K'=jZ K T S g /\
  ∀(T2:Nat->Prop) (K2:Hp),(∀id,S id->¬T2 id/\K2 id=K id)->(∀id,new id->¬T2 id/\K2 id=K id)->Y P G o Γ T2 K2 (jZ K2 T2 S g) av new con
def Ev(P:Program)[M:Mch P](G:Ctx)(o:Oper)(Γ:Nat->AV)(T:Nat->Prop)(K K':Hp)(av:AV)(new con:Nat->Prop):Prop :=
 EvN P G o Γ K K' av new con\/EvR P G o Γ T K K' av new con\/EvW P G o Γ T K K' av new con\/EvG P G o Γ T K K' av new con
def Un(G:Ctx)(s:AS):Prop:=∀F w ι (a:Act),OkV w->HR G F w ι s.T s.K->(∀id b,ι id=some b->s.U id)->(∀t,V F w ι (s.Γ t) (a.tmps.getD t undef))->False
def cV(ops:Array Oper)(o:Oper)(Γ:Nat->AV):Option Bool :=
 match o.guard with
 |none=>some true
 | some (j,want)=>match(ops[j]?).bind (·.dst)with
  |none=>some false
  | some d=>match Γ d with
   |.d (.b x)=>some (x==want)
   |.un=>some false
   |_=>none
inductive qZ(P:Program)[M:Mch P](G:Ctx)(ops:Array Oper)(o:Oper)(s:AS):AS->Prop where
 | yes (av:AV) (new con:Nat->Prop) (K':Hp) (hw:cV ops o s.Γ=some true) (hev:Ev P G o s.Γ s.T s.K K' av new con) (hU:∀id,new id->¬s.U id) (hT:∀id,new id->¬s.T id) (h0:new 0->∀b,G.P0 b) :
   qZ P G ops o s ⟨bI s.Γ o.dst av,λid=>s.T id\/con id,K',λid=>s.U id\/new id⟩
 |no (hw:cV ops o s.Γ=some false):qZ P G ops o s ⟨bI s.Γ o.dst .un,s.T,s.K,s.U⟩
def aOp(P:Program)[M:Mch P](G:Ctx)(ops:Array Oper)(i:Nat)(k:AS->Prop)(s:AS):Prop :=
 match ops[i]? with
 |none=>k s
 |some o=>Un G s\/∃s',qZ P G ops o s s'/\k s'
def bMh(P:Program)[M:Mch P](G:Ctx)(ops:Array Oper)(Q:AS->Prop):Nat->Array Bool->AS->Prop
 |0,listed,s=>Bv .any ops listed=[]/\Q s
 |fuel+1,listed,s=>(Bv .any ops listed=[]->Q s)/\∀i∈Bv .any ops listed,aOp P G ops i (bMh P G ops Q fuel (listed.setIfInBounds i true)) s
def xJ(P:Program)(ops:Array Oper)(x y:Oper):Bool :=
 x.apart ops y && !(kind P x.op==2&&kind P y.op != 0) && !(kind P y.op==2&&kind P x.op != 0)
def zG{Γ:Nat->AV}{d:Option Tmp}{v:AV}{t:Nat}(h:d≠some t):bI Γ d v t=Γ t:=by
 cases d with
 |none=>rfl
 |some d=>exact upd_ne _ _ λe=>h (e ▸ rfl)
def rK(Γ:Nat->AV){x y:Option Tmp}(v u:AV)(h:∀d,x=some d->y≠some d):bI (bI Γ x v) y u=bI (bI Γ y u) x v:=by
 cases x with
 |none=>rfl
 | some d =>
  cases y with
  |none=>rfl
  | some e =>
   have hne:d≠e:=λhe=>h d rfl (he ▸ rfl)
   funext t;by_cases h1:t=d
   ·subst h1;simp[bI,upd,hne]
   ·by_cases h2:t=e
    ·subst h2;simp[bI,upd,h1]
    ·simp[bI,upd,h1,h2]
section
variable {P:Program} [M:Mch P] {G:Ctx} {ops:Array Oper}
def Y.congrΓ{o:Oper}{Γ Γ':Nat->AV}{T:Nat->Prop}{K K':Hp}{av:AV}{new con:Nat->Prop}(h:Y P G o Γ T K K' av new con)
  (he:∀t,CN t∈o.op.operands->Γ' t=Γ t):Y P G o Γ' T K K' av new con :=
 λF w ι a hok hR hop hn next hx=>h F w ι a hok hR (λt ht=>by rw[<-he t ht];exact hop t ht) hn next hx
def Ev.congrΓ{o:Oper}{Γ Γ':Nat->AV}{T:Nat->Prop}{K K':Hp}{av:AV}{new con:Nat->Prop}(h:Ev P G o Γ T K K' av new con)
  (he:∀t,CN t∈o.op.operands->Γ' t=Γ t):Ev P G o Γ' T K K' av new con:=by
 rcases h with ⟨hk,h1,h2,h⟩|⟨hk,h1,hT,hl,h⟩|⟨hk,h1,h2,id,t,old,ho,ht,hΓ,hold,hT,hK,h⟩|⟨hk,S,g,q1,q2,q3,q4,q5,h⟩
 ·exact .inl ⟨hk,h1,h2,λT2 K2 hK=>(h T2 K2 hK).congrΓ he⟩
 ·exact .inr (.inl ⟨hk,h1,hT,λF w ι T2 a hR hop=>hl F w ι T2 a hR λt ht=>by rw[<-he t ht];exact hop t ht,λT2 hT2=>(h T2 hT2).congrΓ he⟩)
 ·exact .inr (.inr (.inl ⟨hk,h1,h2,id,t,old,ho,ht,by rw[he t ht];exact hΓ,hold,hT,hK,λT2 K2 h1 h2=>(h T2 K2 h1 h2).congrΓ he⟩))
 ·exact .inr (.inr (.inr ⟨hk,S,g,q1,q2,q3,λid hid F w ι T2 a hR hop=>q4 id hid F w ι T2 a hR λt ht=>by rw[<-he t ht];exact hop t ht,q5,λT2 K2 h1 h2=>(h T2 K2 h1 h2).congrΓ he⟩))
def aEc{o:Oper}{d:Nat}(h:d ∉ o.looksAt ops):CN d ∉ o.op.operands:=λhx =>
 h (List.mem_append_left _ (List.mem_filterMap.2 ⟨.tmp d,by simpa using hx,rfl⟩))
def fT{o:Oper}{Γ:Nat->AV}{dst:Option Tmp}{v:AV}(h:∀d,dst=some d->d ∉ o.looksAt ops):cV ops o (bI Γ dst v)=cV ops o Γ:=by
 unfold cV;cases hg:o.guard with
 |none=>rfl
 | some gw =>
  obtain⟨g,want⟩:=gw;simp only;cases ht:(ops[g]?).bind (·.dst)with
  |none=>rfl
  | some t =>
   simp only;rw[zG λe=>h t e (by simp[Oper.looksAt,hg,ht])]
def iM{o:Oper}{Γ:Nat->AV}{dst:Option Tmp}{v:AV}(h:∀d,dst=some d->d ∉ o.looksAt ops):∀t,CN t∈o.op.operands->bI Γ dst v t=Γ t :=
 λt ht=>zG λe=>aEc (h t e) ht
def or_none(T:Nat->Prop):(λid=>T id\/bD id)=T:=funext λid=>propext (by simp[bD])
def rA{K:Hp}{T:Nat->Prop}{id i:Nat}{ho:HO}(h1:i≠id)(h2:¬T i):mN K T id ho i=K i:=by unfold mN;rw[Ai h1,Ai h2]
def aLu{s:AS}{t id:Nat}(hΓ:pJ id (s.Γ t)=true)(hU:¬s.U id):Un G s:=by
 intro F w ι a _ _ hd hV;have:=hV t;generalize s.Γ t=x at this hΓ;generalize a.tmps.getD t undef=v at this;unfold pJ at hΓ;split at hΓ
 ·simp only[C3]at hΓ;subst hΓ;cases this with|ptr _ _ b hι=>exact hU (hd _ _ hι)
 ·simp only[C3]at hΓ;subst hΓ;cases this with|mp _ b hι=>exact hU (hd _ _ hι)
 ·simp only[C3]at hΓ;subst hΓ;cases this with|own _ _ _ _ b cap cur e hι=>exact hU (hd _ _ hι)
 ·cases hΓ
def swap{oi oj:Oper}{s s1 s2:AS}(hap:xJ P ops oi oj=true)(hi:qZ P G ops oi s s1)(hj:qZ P G ops oj s1 s2) :
  Un G s\/∃s1',qZ P G ops oj s s1'/\qZ P G ops oi s1' s2:=by
 simp only[xJ,A8,C8,Bool.and_eq_false_iff,beq_eq_false_iff_ne,bne_eq_false_iff_eq]at hap
 obtain⟨⟨hap,hw1⟩,hw2⟩:=hap
 obtain⟨h1,h2,h3⟩:=Oper.apart_spec hap
 cases hi with
 | no hwi =>
  cases hj with
  | no hwj =>
   refine .inr ⟨_,.no (by rw[<-hwj];exact(fT h1).symm),?_⟩
   have:=qZ.no (P:=P) (G:=G) (ops:=ops) (o:=oi) (s:=⟨bI s.Γ oj.dst .un,s.T,s.K,s.U⟩) (by rw[<-hwi];exact fT h3)
   simp only at this ⊢
   rwa [rK s.Γ .un .un h2]
  | yes av new con K' hwj hev hU hT h0 =>
   refine .inr ⟨_,.yes av new con K' (by rw[<-hwj];exact(fT h1).symm) (hev.congrΓ λt ht=>(iM h1 t ht).symm) hU hT h0,?_⟩
   have:=qZ.no (P:=P) (G:=G) (ops:=ops) (o:=oi) (s:=⟨bI s.Γ oj.dst av,λid=>s.T id\/con id,K',λid=>s.U id\/new id⟩) (by rw[<-hwi];exact fT h3)
   simp only at this ⊢
   rwa [rK s.Γ .un av h2]
 | yes avi newi coni Ki hwi hevi hUi hTi h0i =>
  have hwi':∀(v:AV),cV ops oi (bI s.Γ oj.dst v)=some true:=λv=>by rw[<-hwi];exact fT h3
  cases hj with
  | no hwj =>
   refine .inr ⟨_,.no (by rw[<-hwj];exact(fT h1).symm),?_⟩
   have:=qZ.yes (P:=P) (G:=G) (ops:=ops) (o:=oi) (s:=⟨bI s.Γ oj.dst .un,s.T,s.K,s.U⟩) avi newi coni Ki (hwi' _) (hevi.congrΓ (iM h3)) hUi hTi h0i
   simp only at this ⊢
   rwa [rK s.Γ avi .un h2]
  | yes avj newj conj Kj hwj hevj hUj hTj h0j =>
   have hwj':cV ops oj s.Γ=some true:=by rw[<-hwj];exact(fT h1).symm
   have hevj0:=hevj.congrΓ (Γ':=s.Γ) λt ht=>(iM h1 t ht).symm
   have hevi':=hevi.congrΓ (Γ':=bI s.Γ oj.dst avj) (iM h3)
   simp only at hUj hTj hevj0
   have hUj0:∀id,newj id->¬s.U id:=λid h hu=>hUj id h (.inl hu)
   have hTj0:∀id,newj id->¬s.T id:=λid h hu=>hTj id h (.inl hu)
   have hdis:∀id,newi id->¬newj id:=λid h hj=>hUj id hj (.inr h)
   have hUi1:∀id,newi id->¬(s.U id\/newj id):=λid h hu=>hu.elim (hUi id h) (hdis id h)
   have eU:(λid=>(s.U id\/newi id)\/newj id)=λid=>(s.U id\/newj id)\/newi id:=funext λid=>propext ⟨λh=>by rcases h with (h|h)|h<;>simp[h],λh=>by rcases h with (h|h)|h<;>simp[h]⟩
   have eT:(λid=>(s.T id\/coni id)\/conj id)=λid=>(s.T id\/conj id)\/coni id:=funext λid=>propext ⟨λh=>by rcases h with (h|h)|h<;>simp[h],λh=>by rcases h with (h|h)|h<;>simp[h]⟩
   have fin:∀K1,(∀id,newi id->¬conj id)->Ev P G oj s.Γ s.T s.K K1 avj newj conj->Ev P G oi (bI s.Γ oj.dst avj) (λid=>s.T id\/conj id) K1 Kj avi newi coni ->
     ∃s1',qZ P G ops oj s s1'/\qZ P G ops oi s1' ⟨bI (bI s.Γ oi.dst avi) oj.dst avj,λid=>(s.T id\/coni id)\/conj id,Kj,λid=>(s.U id\/newi id)\/newj id⟩:=by
    intro K1 hnc e1 e2
    refine⟨_,.yes avj newj conj K1 hwj' e1 hUj0 hTj0 h0j,?_⟩
    have:=qZ.yes (P:=P) (G:=G) (ops:=ops) (o:=oi) (s:=⟨bI s.Γ oj.dst avj,λid=>s.T id\/conj id,K1,λid=>s.U id\/newj id⟩) avi newi coni Kj (hwi' _) e2 hUi1
     (λid h ht=>ht.elim (hTi id h) (hnc id h)) h0i
    simp only at this ⊢
    rwa [rK s.Γ avi avj h2,eU,eT]
   have gkeep:∀{K:Hp} {T S:Nat->Prop} {g:Hp} {i:Nat},¬S i->¬T i->jZ K T S g i=K i:=λh1 h2=>by unfold jZ;rw[Ai h1,Ai h2]
   rcases hevi' with ⟨hki,rfl,rfl,hYi⟩|⟨hki,rfl,hcTi,hli,hYi⟩|⟨hki,rfl,rfl,id,t,old,ho,ht,hΓ,hold,hT,rfl,hYi⟩|⟨hki,S,g,a1,a2,a3,a4,rfl,hYi⟩
   ·-- oi neutral
    rcases hevj0 with ⟨hkj,rfl,rfl,hYj⟩|⟨hkj,rfl,hcTj,hlj,hYj⟩|⟨hkj,rfl,rfl,id,t,old,ho,ht,hΓ,hold,hT,rfl,hYj⟩|⟨hkj,S,g,b1,b2,b3,b4,rfl,hYj⟩
    ·exact .inr (fin _ (λ_ _ h=>h) (.inl ⟨hkj,rfl,rfl,hYj⟩) (.inl ⟨hki,rfl,rfl,hYi⟩))
    ·by_cases hx:∃id,newi id/\conj id
     ·obtain⟨id,hn,hc⟩:=hx
      exact .inl λF w ι a _ hR hd hV=>let ⟨b,hb⟩:=hlj F w ι s.T a hR (λt _=>hV t) id hc;hUi id hn (hd id b hb)
     ·exact .inr (fin _ (λid h1 h2=>hx ⟨id,h1,h2⟩) (.inr (.inl ⟨hkj,rfl,λid h ht=>hcTj id h (.inl ht),hlj,hYj⟩)) (.inl ⟨hki,rfl,rfl,hYi⟩))
    ·by_cases hid:newi id
     ·exact .inl (aLu hΓ (hUi id hid))
     ·have hsT:¬s.T id:=λh=>hT (.inl h)
      have e0:mN s.K (λi=>s.T i\/bD i) id ho=mN s.K s.T id ho:=by rw[or_none]
      refine .inr ?_
      have h4:=fin (mN s.K s.T id ho) (λ_ _ h=>h) (.inr (.inr (.inl ⟨hkj,rfl,rfl,id,t,old,ho,ht,hΓ,hold,hsT,rfl,hYj⟩)))
       (.inl ⟨hki,e0,rfl,λT2 K2 hK=>hYi T2 K2 λi hi=>by rw[hK i hi];exact rA (λe=>hid (e ▸ hi)) (hTi i hi)⟩)
      exact h4
    ·by_cases hx:∃id,newi id/\S id
     ·obtain⟨id,hn,hc⟩:=hx
      exact .inl λF w ι a _ hR hd hV=>let ⟨b,hb⟩:=b4 id hc F w ι s.T a hR (λt _=>hV t);hUi id hn (hd id b hb)
     ·have hsT:∀id,S id->¬s.T id:=λid h ht=>b1 id h (.inl ht)
      have e0:jZ s.K (λi=>s.T i\/bD i) S g=jZ s.K s.T S g:=by rw[or_none]
      refine .inr ?_
      have h4:=fin (jZ s.K s.T S g) (λid h1 h2=>hx ⟨id,h1,b2 id h2⟩) (.inr (.inr (.inr ⟨hkj,S,g,hsT,b2,b3,b4,rfl,hYj⟩)))
       (.inl ⟨hki,e0,rfl,λT2 K2 hK=>hYi T2 K2 λi hi=>by rw[hK i hi];exact gkeep (λe=>hx ⟨i,hi,e⟩) (hTi i hi)⟩)
      exact h4
   ·-- oi reads
    rcases hevj0 with ⟨hkj,rfl,rfl,hYj⟩|⟨hkj,rfl,hcTj,hlj,hYj⟩|⟨hkj,_⟩|⟨hkj,_⟩
    ·exact .inr (fin _ (λ_ _ h=>h) (.inl ⟨hkj,rfl,rfl,hYj⟩) (.inr (.inl ⟨hki,rfl,λid h ht=>by rw[or_none]at ht;exact hcTi id h ht,hli,hYi⟩)))
    ·by_cases hx:∃id,newi id/\conj id
     ·obtain⟨id,hn,hc⟩:=hx
      exact .inl λF w ι a _ hR hd hV=>let ⟨b,hb⟩:=hlj F w ι s.T a hR (λt _=>hV t) id hc;hUi id hn (hd id b hb)
     ·exact .inr (fin _ (λid h1 h2=>hx ⟨id,h1,h2⟩) (.inr (.inl ⟨hkj,rfl,λid h ht=>hcTj id h (.inl ht),hlj,hYj⟩))
       (.inr (.inl ⟨hki,rfl,λid h ht=>ht.elim (hcTi id h) λhc=>hcTj id hc (.inr h),hli,hYi⟩)))
    ·omega
    ·omega
   ·-- oi writes
    rcases hevj0 with ⟨hkj,rfl,rfl,hYj⟩|⟨hkj,_⟩|⟨hkj,_⟩|⟨hkj,_⟩
    ·by_cases hid:newj id
     ·have:=(iM (Γ:=s.Γ) (v:=avj) h3 t ht)
      rw[this]at hΓ
      exact .inl (aLu hΓ (hUj0 id hid))
     ·refine .inr ?_
      have h4:=fin s.K (λ_ h _=>h) (.inl ⟨hkj,rfl,rfl,λT2 K2 hK=>hYj T2 K2 λi hi=>by rw[hK i hi];exact(rA (λe=>hid (by rw[<-e];exact hi)) (hTj0 i hi)).symm⟩)
       (.inr (.inr (.inl ⟨hki,rfl,rfl,id,t,old,ho,ht,hΓ,hold,by rw[or_none];exact hT,by rw[or_none],hYi⟩)))
      exact h4
    ·omega
    ·omega
    ·omega
   ·-- oi turns many
    rcases hevj0 with ⟨hkj,rfl,rfl,hYj⟩|⟨hkj,_⟩|⟨hkj,_⟩|⟨hkj,_⟩
    ·by_cases hx:∃id,newj id/\S id
     ·obtain⟨id,hn,hc⟩:=hx
      exact .inl λF w ι a _ hR hd hV=>let ⟨b,hb⟩:=a4 id hc F w ι s.T a hR (λt ht=>by rw[iM h3 t ht];exact hV t);hUj0 id hn (hd id b hb)
     ·refine .inr ?_
      have h4:=fin s.K (λ_ _ h=>h) (.inl ⟨hkj,rfl,rfl,λT2 K2 hK=>hYj T2 K2 λi hi=>by rw[hK i hi];exact(gkeep (λe=>hx ⟨i,hi,e⟩) (hTj0 i hi)).symm⟩)
       (.inr (.inr (.inr ⟨hki,S,g,λid h ht=>by rw[or_none]at ht;exact a1 id h ht,a2,a3,a4,by rw[or_none],hYi⟩)))
      exact h4
    ·omega
    ·omega
    ·omega
def bBy{o:Oper}{a:Act}{w:World}(hok:OkV w){K:Act->World->Prop}(h:wpX P o a w K)(hK:∀a w,OkV w->K a w->False):False:=by
 unfold wpX at h;cases hr:aK P (execOp a.eval o) w with
 |halt x w'=>rw[hr]at h;exact h
 | ok n w' =>
  rw[hr]at h;have hok':=aUt hok hr;cases n<;>simp only[iV]at h<;>first
  |exact hK _ _ hok' h
  |(obtain⟨x,v',h1,h2⟩:=h.some hok';exact hK _ _ h1 h2)
def aUj(a:Act)(dst:Option Tmp)(u:Value):∃a2:Act,∀t,a2.tmps.getD t undef=if dst=some t then u else a.tmps.getD t undef:=by
 cases dst with
 |none=>exact⟨a,λt=>by simp⟩
 | some d =>
  refine⟨⟨(Gq (max (d+1) a.tmps.size)).map λt=>if d=t then u else a.tmps.getD t undef,[]⟩,λt=>?_⟩;simp only[Array.getD_eq_getD_getElem?,BU,Array.getElem?_range,Ax];by_cases ht:t<max (d+1) a.tmps.size
  ·rw[Aq ht];rfl
  ·have hdt:¬d=t:=λe=>ht (by rw[<-e];exact Nat.lt_of_lt_of_le (Nat.lt_succ_self d) (Nat.le_max_left ..))
   rw[Ai ht,Ai hdt];simp only[Option.map_none,Option.getD_none];rw[Dp (by simp only[Nat.not_lt]at ht;exact AR (Nat.le_max_right ..) ht)];rfl
def aOy{F:Nat->Prop}{w:World}{ι:Nat->Option Nat}{Γ:Nat->AV}{dst:Option Tmp}{av:AV}{f g:Nat->Value}{u:Value}(hV:∀t,V F w ι (Γ t) (f t))(hu:V F w ι av u)
  (hg:∀t,g t=if dst=some t then u else f t):∀t,V F w ι (bI Γ dst av t) (g t):=by
 intro t
 rw[hg t]
 by_cases h:dst=some t
 ·subst h;simp only[bI,upd_same,AH];exact hu
 ·rw[zG h,Ai h];exact hV t
def bOe{o:Oper}{s s1:AS}(hd:qZ P G ops o s s1)(hu:Un G s1):Un G s:=by
 intro F w ι a hok hR hdm hV;cases hd with
 | no hw =>
  obtain⟨a2,h2⟩:=aUj a o.dst undef;exact hu F w ι a2 hok hR hdm (aOy hV .un h2)
 | yes av new con K' hw hev hU hT h0 =>
  have hY:Y P G o s.Γ s.T s.K K' av new con:=by
   rcases hev with ⟨_,rfl,rfl,h⟩|⟨_,rfl,hcT,_,h⟩|⟨_,rfl,rfl,id,t,old,ho,_,_,hold,hT,rfl,h⟩|⟨_,S,g,q1,_,_,_,rfl,h⟩
   ·exact h _ _ λ_ _=>rfl
   ·exact h _ hcT
   ·exact h _ _ hold hT
   ·exact h _ _ (λid hid=>⟨q1 id hid,rfl⟩) λid hid=>⟨hT id hid,rfl⟩
  refine bBy (P:=P) hok (hY F w ι a hok hR (λt _=>hV t) (λid hn=>?_) (λ_ w'=>OkV w'->False) λF' w' ι' u hR' hs hd1 hd2 hv hok'=>?_) λ_ _ h1 h2=>h2 h1
  ·cases hi:ι id with
   |none=>rfl
   |some b=>exact absurd (hdm id b hi) (hU id hn)
  ·obtain⟨a2,h2⟩:=aUj a o.dst u;refine hu F' w' ι' a2 hok' hR' (λid b hb=>?_) (aOy (λt=>(hV t).step hs) hv h2);rcases hd1 id b hb with h|h
   ·exact .inl (hdm id b h)
   ·exact .inr h
def Dc(ops:Array Oper)(listed:Array Bool):Prop :=
 ∀(m:Nat) (om:Oper),listed.getD m false=true->ops[m]? = some om->∀e∈om.after,Ee .any e=true->listed.getD e.on false=true
def dep(ops:Array Oper):Nat->Nat->Nat->Bool
 |0,_,_=>false
 | f+1,j,i=>match ops[j]? with
  |some o=>o.after.any λe=>Ee .any e&&(e.on==i||dep ops f e.on i)
  |none=>false
def aCm{listed:Array Bool}(hdc:Dc ops listed):∀(f j i:Nat),(∀o,ops[j]? = some o->∀e∈o.after,Ee .any e=true->listed.getD e.on false=true)->dep ops f j i=true->listed.getD i false=true
 |0,_,_,_,h=>by cases h
 | f+1,j,i,hj,h=>by
  unfold dep at h;split at h
  ·rename_i o ho;obtain⟨e,he,hb⟩:=Array.any_eq_true'.1 h;simp only[A8,Bool.or_eq_true,C3]at hb;obtain⟨h1,h2⟩:=hb;have hl:=hj o ho e he h1;rcases h2 with h2|h2
   ·rw[<-h2];exact hl
   ·exact aCm hdc f e.on i (λo' ho'=>hdc e.on o' hl ho') h2
  ·cases h
def bMo{listed:Array Bool}{j:Nat}(hdc:Dc ops listed)(hj:j∈Bv .any ops listed):Dc ops (listed.setIfInBounds j true):=by
 intro m om hm hom e he hb;obtain⟨_,o,ho,hall⟩:=mem_ready.1 hj;refine getD_set_true ?_;by_cases hmj:m=j
 ·subst hmj;rw[ho]at hom;injection hom with hom;subst hom
  exact hall e he hb
 ·rw[getD_set_ne false (Eo hmj)]at hm;exact hdc m om hm hom e he hb
def aTi{Q:AS->Prop}{i:Nat}{oi:Oper}(hi:ops[i]? = some oi) :
  ∀(fuel:Nat) (listed:Array Bool) (s s1:AS),Dc ops listed ->
   (∀j oj,ops[j]? = some oj->j≠i->listed.getD j true=false->(∀e∈oj.after,Ee .any e=true->e.on≠i)->dep ops 12 j i=false->xJ P ops oi oj=true) ->
   i∈Bv .any ops listed->qZ P G ops oi s s1->bMh P G ops Q fuel (listed.setIfInBounds i true) s1->bMh P G ops Q (fuel+1) listed s:=by
 intro fuel
 induction fuel with
 | zero =>
  intro listed s s1 _ _ hr hd H
  refine⟨λh=>(by rw[h]at hr;cases hr),λj hj=>?_⟩
  by_cases hji:j=i
  ·subst hji;unfold aOp;simp only[hi];exact .inr ⟨s1,hd,H⟩
  ·have:=ready_mono hj hji
   rw[H.1]at this
   cases this
 | succ fuel ih =>
  intro listed s s1 hdc hfree hr hd H
  refine⟨λh=>(by rw[h]at hr;cases hr),λj hj=>?_⟩
  by_cases hji:j=i
  ·subst hji;unfold aOp;simp only[hi];exact .inr ⟨s1,hd,H⟩
  ·have h1:=H.2 j (ready_mono hj hji)
   obtain⟨hjun,oj,hoj,hall⟩:=mem_ready.1 hj
   have hnot:∀e∈oj.after,Ee .any e=true->e.on≠i:=λe he hb heq=>by
    have h1:=hall e he hb;have h0:=(mem_ready.1 hr).1;rw[heq]at h1;rcases A4 i listed.size with h'|h'
    ·simp[h']at h0 h1;rw[h0]at h1;cases h1
    ·simp[Dp h']at h1
   have hnd:dep ops 12 j i=false:=by
    cases hd6:dep ops 12 j i with
    |false=>rfl
    | true =>
     have h1:=aCm hdc 12 j i (λo' ho'=>by rw[hoj]at ho';injection ho' with ho';subst ho';exact hall) hd6;have h0:=(mem_ready.1 hr).1;rcases A4 i listed.size with h'|h'
     ·simp[h']at h0 h1;rw[h0]at h1;cases h1
     ·simp[Dp h']at h1
   have hap:=hfree j oj hoj hji hjun hnot hnd
   have hfree':∀k ok,ops[k]? = some ok->k≠i->(listed.setIfInBounds j true).getD k true=false ->
     (∀e∈ok.after,Ee .any e=true->e.on≠i)->dep ops 12 k i=false->xJ P ops oi ok=true:=λk ok hk hki hun hno hnd=>by
    refine hfree k ok hk hki ?_ hno hnd
    by_cases hjk:j=k
    ·subst hjk;exact hjun
    ·rw[getD_set_ne true hjk]at hun;exact hun
   unfold aOp at h1 ⊢
   simp only[hoj]at h1 ⊢
   rcases h1 with h1|⟨s2,hd2,h2⟩
   ·exact .inl (bOe hd h1)
   ·rcases swap hap hd hd2 with h3|⟨s1',hd1',hd2'⟩
    ·exact .inl h3
    ·refine .inr ⟨s1',hd1',ih (listed.setIfInBounds j true) s1' s2 (bMo hdc hj) hfree' (ready_mono hr (Eo hji)) hd2' ?_⟩
     rw[Array.setIfInBounds_comm _ _ hji]
     exact h2
end
end Go.Am
end
section
open List renaming map_map->E,mapM_map->J
namespace Go.Am
open RowKit (Below)
def bGs:List String:=["torsion/matrix.New", "torsion/torsionref05.New", "slices.Grow[[]uint64,uint64]", "torsion/modmat.copied", "slices.Clone[[]uint64,uint64]"]
def aQ(P:Program)(f:FuncId):Bool:=match P.funcs[f]? with|some fn=>bGs.contains fn.name|none=>false
def gX(H:Hp)(n:Nat)(hs:List HO):Hp:=λid=>if n<=id/\id<n+hs.length then hs[id-n]? else H id
def NB(P:Program)[M:Mch P](f:FuncId)(vs:Array Value)(A:Nat->Prop)(W:World)(v:Nat->AV)(hs:Nat->List HO):Prop :=
  (∀w,aK P (callFunc f vs) w=.ok (.enter f vs) w) /\
  CX P f vs W λu W'=>Below W.heap.size W W'/\∀m,0<m->∃(F:Nat->Prop) (ι:Nat->Option Nat),
   (∀b,F b->A b\/(W.heap.size<=b/\b<W'.heap.size))/\V F W' ι (v m) u/\(∀id,(∃b,ι id=some b)↔(m<=id/\id<m+(hs m).length)) /\
   (∀id b,ι id=some b->W.heap.size<=b/\b<W'.heap.size/\¬F b) /\
   (∀i o b,(hs m)[i]? = some o->ι (m+i)=some b->∃ob,W'.heap[b]? = some ob/\CR F W' ι o ob) /\
   (∀id id' b,ι id=some b->ι id'=some b->id=id')
def sW(P:Program)[M:Mch P](f:FuncId)(args:List D)(v:Nat->AV)(hs:Nat->List HO):Prop :=
 ∀(A:Nat->Prop) (W:World) (vs:Array Value),(∀b,A b->b<W.heap.size)->args.length=vs.size->(∀(k:Nat) d v,args[k]? = some d->vs[k]? = some v->VD A W d v)->NB P f vs A W v hs
def aDn(P:Program)[M:Mch P](f:FuncId)(args:List AV)(v:Nat->AV)(hs:Nat->List HO):Prop :=
 ∀(A:Nat->Prop) (W:World) (vs:Array Value),(∀b,A b->b<W.heap.size)->args.length=vs.size->(∀(k:Nat) x u,args[k]? = some x->vs[k]? = some u->V A W (λ_=>none) x u)->NB P f vs A W v hs
section
variable {P:Program} [M:Mch P] {G:Ctx} {C:Nat->Prop} {H K:Hp} {Γ:Nat->AV} {o:Oper}
def cBn{f:FuncId}{args:Array Operand}{ts:Array TypeId}{v:Nat->AV}{hs:Nat->List HO}{n:Nat}(ho:o.op=.call { callee:=.value (.func f),args:=args,argTypes:=ts })
  (hsp:∀F w ι (a:Act),HR G F w ι C K->(∀x∈args.toList,V F w ι (oev Γ x) (a.eval x))->NB P f (args.map a.eval) F w v hs) (hn0:0<n)
  (hK:∀i ob,(hs n)[i]? = some ob->K (n+i)=some ob) :
  Y P G o Γ C K K (v n) (λi=>n<=i/\i<n+(hs n).length) bD:=by
 intro F w ι a hok hR hop hnew next hnext
 have hop':∀x∈args.toList,V F w ι (oev Γ x) (a.eval x):=λx hx=>cH λt e=>hop t (by rw[ho];subst e;simp[AD,Bg];simpa using hx)
 obtain⟨hent,hcalls⟩:=hsp F w ι a hR hop'
 unfold wpX
 have hfe:a.eval (.func f)=.func (.func f) #[] #[]:=rfl
 simp only[execOp,ho,resolve,invoke,Sem.run_bind,hfe,CF,Sem.run_pure,AK,Cl,CJ,hent,iV]
 refine hcalls.mono ?_
 rintro u w' ⟨hb,hall⟩
 obtain⟨F1,ι1,f1,f2,f3,f4,f5,f6⟩:=hall n hn0
 have hsz:=hb.size
 have hW:G.W.heap.size<=w.heap.size:=hR.kept.size
 obtain⟨ι',hι'⟩:∃ι':Nat->Option Nat,ι'=λid=>if n<=id/\id<n+(hs n).length then ι1 id else ι id:=⟨_,rfl⟩
 have e_new:∀id,(n<=id/\id<n+(hs n).length)->ι' id=ι1 id:=λid h=>by rw[hι'];exact Aq h
 have e_old:∀id,¬(n<=id/\id<n+(hs n).length)->ι' id=ι id:=λid h=>by rw[hι'];exact Ai h
 have split:∀id b,ι' id=some b->((n<=id/\id<n+(hs n).length)/\ι1 id=some b)\/(¬(n<=id/\id<n+(hs n).length)/\ι id=some b):=λid b h=>by
  by_cases hid:n<=id/\id<n+(hs n).length
  ·rw[e_new id hid]at h;exact .inl ⟨hid,h⟩
  ·rw[e_old id hid]at h;exact .inr ⟨hid,h⟩
 have hF1:∀b,F1 b->b<w.heap.size->F b:=λb h hlt=>by
  rcases f1 b h with h|h
  ·exact h
  ·omega
 have hs0:Step F w ι (λb=>F b\/F1 b) w' ι':=⟨λ_ h=>.inl h,λb h=>hb.block b (hR.F_lt b h),λid b h=>by
  by_cases hid:n<=id/\id<n+(hs n).length
  ·rw[hnew id hid]at h;cases h
  ·rw[e_old id hid];exact h,λid b cur e hi h=>⟨cur,(hb.block b (hR.ι_lt hi)).trans h,rfl⟩⟩
 have hs1:Step F1 w' ι1 (λb=>F b\/F1 b) w' ι':=⟨λ_ h=>.inr h,λ_ _=>rfl,λid b h=>by
  rw[e_new id ((f3 id).1 ⟨b,h⟩)];exact h,λid b cur e hi h=>⟨cur,h,rfl⟩⟩
 refine hnext (λb=>F b\/F1 b) w' ι' u ⟨hR.kept.trans (.below hb hW),?_,?_,?_,?_,?_,?_⟩ hs0 (λid b h=>?_) (λid hid=>?_) (f2.step hs1)
 ·rintro b (h|h)
  ·have:=hR.F_lt b h;omega
  ·rcases f1 b h with h|h
   ·have:=hR.F_lt b h;omega
   ·exact h.2
 ·rintro b (h|h)
  ·exact hR.F_ok b h
  ·rcases f1 b h with h|h
   ·exact hR.F_ok b h
   ·exact .inr (.inr (by omega))
 ·intro id b h
  rcases split id b h with ⟨_,h⟩|⟨_,h⟩
  ·obtain⟨q1,q2,q3⟩:=f4 id b h
   refine⟨.inr (by omega),q2,λ_ hF=>?_⟩
   rcases hF with hF|hF
   ·have:=hR.F_lt b hF;omega
   ·exact q3 hF
  ·obtain⟨q1,q2,q3⟩:=hR.place id b h
   refine⟨q1,by omega,λhc hF=>?_⟩
   have hc':¬C id:=λx=>hc (.inl x)
   rcases hF with hF|hF
   ·exact q3 hc' hF
   ·exact q3 hc' (hF1 b hF q2)
 ·intro id b ob h hob
  rcases split id b h with ⟨hid,h⟩|⟨_,h⟩
  ·obtain⟨i,rfl⟩:∃i,id=n+i:=⟨id-n,by omega⟩
   have hi:i<(hs n).length:=by omega
   have hg:(hs n)[i]? = some (hs n)[i]:=Ab hi
   have:=hK i _ hg
   rw[this]at hob;injection hob with hob;subst hob
   obtain⟨ob',h2,h3⟩:=f5 i _ b hg h
   exact⟨ob',h2,h3.step hs1⟩
  ·obtain⟨ob',h2,h3⟩:=hR.obj id b ob h hob
   exact⟨ob',(hb.block b (hR.ι_lt h)).trans h2,h3.step hs0⟩
 ·intro id id' b h h' hc hc'
  rcases split id b h with ⟨_,h⟩|⟨_,h⟩<;>rcases split id' b h' with ⟨_,h'⟩|⟨_,h'⟩
  ·exact f6 id id' b h h'
  ·have:=(f4 id b h).1;have:=hR.ι_lt h';omega
  ·have:=(f4 id' b h').1;have:=hR.ι_lt h;omega
  ·exact hR.inj id id' b h h' (λx=>hc (.inl x)) λx=>hc' (.inl x)
 ·intro id id' b o1 o2 h h' hc h1 h2
  rcases split id b h with ⟨_,h⟩|⟨_,h⟩<;>rcases split id' b h' with ⟨_,h'⟩|⟨_,h'⟩
  ·have:=f6 id id' b h h'
   subst this
   rw[h1]at h2;injection h2 with h2;subst h2;exact Ay _
  ·have:=(f4 id b h).1;have:=hR.ι_lt h';omega
  ·have:=(f4 id' b h').1;have:=hR.ι_lt h;omega
  ·exact hR.len id id' b o1 o2 h h' (λx=>hc (.inl x)) h1 h2
 ·rcases split id b h with ⟨hid,_⟩|⟨_,h⟩
  ·exact .inr hid
  ·exact .inl h
 ·obtain⟨b,hb'⟩:=(f3 id).2 hid
  exact⟨b,by rw[e_new id hid];exact hb'⟩
def bNb{f:FuncId}{args:Array Operand}{ts:Array TypeId}{ds:List D}{v:Nat->AV}{hs:Nat->List HO}{n:Nat}(ho:o.op=.call { callee:=.value (.func f),args:=args,argTypes:=ts })
  (hHK:∀id ob,H id=some ob->K id=some ob) (hargs:cI H (args.toList.map (oev Γ))=some ds) (hvis:bV H (args.toList.map (oev Γ))=[]) (hsp:sW P f ds v hs) (hn0:0<n)
  (hK:∀i ob,(hs n)[i]? = some ob->K (n+i)=some ob) :
  Y P G o Γ C K K (v n) (λi=>n<=i/\i<n+(hs n).length) bD:=cBn ho (λF w ι a hR hop'=>by
 have hmap:args.map a.eval=(args.toList.map a.eval).toArray:=by cases args;simp
 obtain⟨hl,hV,_⟩:=mT hR hHK hargs hop'
 rw[<-hmap]at hl hV
 have hV2:∀(k:Nat) d u,ds[k]? = some d->(args.map a.eval)[k]? = some u->VD F w d u:=λk d u hd hu=>(hV k d u hd hu).mono λb hb=>by
  rcases hb with hb|⟨id,hid,_⟩
  ·exact hb
  ·rw[hvis]at hid;cases hid
 exact hsp F w (args.map a.eval) hR.F_lt hl hV2) hn0 hK
def bBr{f:FuncId}{args:Array Operand}{ts:Array TypeId}{v:Nat->AV}{hs:Nat->List HO}{n:Nat}(ho:o.op=.call { callee:=.value (.func f),args:=args,argTypes:=ts })
  (hno:(args.toList.map (oev Γ)).all aEb=true) (hsp:aDn P f (args.toList.map (oev Γ)) v hs) (hn0:0<n) (hK:∀i ob,(hs n)[i]? = some ob->K (n+i)=some ob) :
  Y P G o Γ C K K (v n) (λi=>n<=i/\i<n+(hs n).length) bD:=cBn ho (λF w ι a hR hop'=>by
 refine hsp F w (args.map a.eval) hR.F_lt (by simp) λk x u hx hu=>?_
 have hmem:=Aj hx
 rw[Ag]at hx
 rw[BU]at hu
 obtain⟨y,hy,rfl⟩:=Af.1 hx
 obtain⟨z,hz,rfl⟩:=Af.1 hu
 rw[Bj,hz]at hy
 injection hy with hy;subst hy
 exact aTj (A3.1 hno _ hmem) (hop' z (Aj (by rw[Bj];exact hz)))) hn0 hK
end
end Go.Am
end
section
open List renaming map_map->E,mapM_map->J
namespace Go.Am
open RowKit (Below)
def aDx(ν:Nat->Nat):AV->AV
 |.own id o l s=>.own (ν id) o l s
 |.ptr id o=>.ptr (ν id) o
 |.mp id=>.mp (ν id)
 |.kf f id=>.kf f (ν id)
 |.d x=>.d x
 |.nil=>.nil
 |.fp cs=>.fp cs
 |.fd els=>.fd els
 |.un=>.un
 |.ub=>.ub
 |_=>.any
def bPt(ν:Nat->Nat):AV->AV
 |.ag cs=>.ag (cs.map (aDx ν))
 |x=>aDx ν x
def tD(ν:Nat->Nat):HO->HO
 |.cells e cs=>.cells e (cs.map (aDx ν))
 |.map k es=>.map k (es.map λp=>(p.1,bPt ν p.2))
 |.iter k l' es=>.iter k l' es
def lf0(k:Nat):AV->Bool
 |.own id _ _ _=>decide (id<k)
 |.ptr id _=>decide (id<k)
 |.mp id=>decide (id<k)
 |.kf _ id=>decide (id<k)
 |.d _|.nil|.fp _|.fd _|.un|.ub|.any=>true
 |_=>false
def lf1(k:Nat):AV->Bool
 |.ag cs=>cs.all (lf0 k)
 |x=>lf0 k x
def lfO(k:Nat):HO->Bool
 |.cells _ cs=>cs.all (lf0 k)
 |.map _ es=>es.all λp=>lf1 k p.2
 |.iter ..=>true
section
variable {F:Nat->Prop} {w:World} {ι ι':Nat->Option Nat} {ν:Nat->Nat}
def bMk{x:AV}{v:Value}(hι:∀j b,ι j=some b->ι' (ν j)=some b)(h:V F w ι x v):V F w ι' (aDx ν x) v:=by
 cases h with
 |d x v h=>exact .d _ _ h
 |nil=>exact .nil
 |own id off len sz b cap cur e h1 hb hcap hl hm=>exact .own _ _ _ _ b _ _ _ (hι _ _ h1) hb hcap hl hm
 |ptr id off b h1=>exact .ptr _ _ _ (hι _ _ h1)
 |mp id b h1=>exact .mp _ _ (hι _ _ h1)
 |fp cs ad f hF hcell hel=>exact .fp _ _ f hF hcell hel
 |fd els ad n h=>exact .fd _ _ _ h
 |un=>exact .un
 |ub t=>exact .ub t
 |kf f id b p e h1 hF hp=>exact .kf _ _ _ _ _ (hι _ _ h1) hF hp
 |_=>exact .any _
def cAz{x:AV}{v:Value}(hι:∀j b,ι j=some b->ι' (ν j)=some b)(h:V F w ι x v):V F w ι' (bPt ν x) v:=by
 cases h with
 | ag cs vs hl hh =>
  refine .ag _ _ (by simpa using hl) λk c u hc hu=>?_
  rw[Ag]at hc;obtain⟨d,hd,rfl⟩:=Af.1 hc;exact bMk hι (hh k d u hd hu)
 |d x v h=>exact .d _ _ h
 |nil=>exact .nil
 |own id off len sz b cap cur e h1 hb hcap hl hm=>exact .own _ _ _ _ b _ _ _ (hι _ _ h1) hb hcap hl hm
 |ptr id off b h1=>exact .ptr _ _ _ (hι _ _ h1)
 |mp id b h1=>exact .mp _ _ (hι _ _ h1)
 |fp cs ad f hF hcell hel=>exact .fp _ _ f hF hcell hel
 |fd els ad n h=>exact .fd _ _ _ h
 |un=>exact .un
 |ub t=>exact .ub t
 |kf f id b p e h1 hF hp=>exact .kf _ _ _ _ _ (hι _ _ h1) hF hp
 |_=>exact .any _
def bMs{o:HO}{ob:Obj}(hι:∀j b,ι j=some b->ι' (ν j)=some b)(h:CR F w ι o ob):CR F w ι' (tD ν o) ob:=by
 cases h with
 | cells e cs cur hl hh =>
  refine .cells _ _ _ (by simpa using hl) λk c hk=>?_
  rw[Ag]at hk;obtain⟨d,hd,rfl⟩:=Af.1 hk;obtain⟨u,hu,hv⟩:=hh k d hd;exact⟨u,hu,bMk hι hv⟩
 | map k es ents clock hl hst hh =>
  refine .map _ _ _ _ (by simpa using hl) hst λk x hk=>?_
  rw[Ag]at hk;obtain⟨d,hd,rfl⟩:=Af.1 hk;obtain⟨en,h1,h2,h3⟩:=hh k d hd;exact⟨en,h1,h2,cAz hι h3⟩
 |iter k last es bm since c0 clock seen ents hF hb hold hsc hnd hl h hla=>exact .iter k last es bm since c0 clock seen ents hF hb hold hsc hnd hl h hla
def vW{n:Nat}{x:AV}{v:Value}(hx:lf0 n x=true)(hι:∀j b,j<n->ι (ν j)=some b->ι' j=some b)(h:V F w ι (aDx ν x) v):V F w ι' x v:=by
 cases x with
 |own id o l s=>cases h with|own _ _ _ _ b cap cur e h1 hb hcap hl hm=>exact .own _ _ _ _ b _ _ _ (hι _ _ (DG hx) h1) hb hcap hl hm
 |ptr id o=>cases h with|ptr _ _ b h1=>exact .ptr _ _ _ (hι _ _ (DG hx) h1)
 |mp id=>cases h with|mp _ b h1=>exact .mp _ _ (hι _ _ (DG hx) h1)
 |kf f id=>cases h with|kf _ _ b p e h1 hF hp=>exact .kf _ _ _ _ _ (hι _ _ (DG hx) h1) hF hp
 |d x=>cases h with|d _ _ h=>exact .d _ _ h
 |nil=>cases h with|nil=>exact .nil
 |fp cs=>cases h with|fp _ ad f hF hcell hel=>exact .fp _ _ f hF hcell hel
 |fd els=>cases h with|fd _ ad n h=>exact .fd _ _ _ h
 |un=>cases h with|un=>exact .un
 |ub=>cases h with|ub t=>exact .ub t
 |any=>exact .any _
 |_=>cases hx
def bMi{n:Nat}{x:AV}{v:Value}(hx:lf1 n x=true)(hι:∀j b,j<n->ι (ν j)=some b->ι' j=some b)(h:V F w ι (bPt ν x) v):V F w ι' x v:=by
 cases x with
 | ag cs =>
  cases h with|ag _ vs hl hh =>
  refine .ag _ _ (by simpa using hl) λk c u hc hu=>?_
  exact vW (A3.1 hx c (Aj hc)) hι (hh k _ u (by rw[Ag,hc];rfl) hu)
 |_=>exact vW hx hι h
def bMr{n:Nat}{o:HO}{ob:Obj}(hx:lfO n o=true)(hι:∀j b,j<n->ι (ν j)=some b->ι' j=some b)(h:CR F w ι (tD ν o) ob):CR F w ι' o ob:=by
 cases o with
 | cells e cs =>
  cases h with|cells _ _ cur hl hh =>
  refine .cells _ _ _ (by simpa using hl) λk c hk=>?_
  obtain⟨u,hu,hv⟩:=hh k (aDx ν c) (by rw[Ag,hk];rfl);exact⟨u,hu,vW (A3.1 hx c (Aj hk)) hι hv⟩
 | map k es =>
  cases h with|map _ _ ents clock hl hst hh =>
  refine .map _ _ _ _ (by simpa using hl) hst λk x hk=>?_
  obtain⟨en,h1,h2,h3⟩:=hh k (x.1,bPt ν x.2) (by rw[Ag,hk];rfl);exact⟨en,h1,h2,bMi (A3.1 hx x (Aj hk)) hι h3⟩
 |iter k last es=>cases h with|iter _ _ _ bm since c0 clock seen ents hF hb hold hsc hnd hl h hla=>exact .iter k last es bm since c0 clock seen ents hF hb hold hsc hnd hl h hla
end
def bWj(P:Program)[M:Mch P](f:FuncId)(h:AV)(o:HO)(hs:List HO)(ds:List D)(o':HO)(hs':List HO)(r:D):Prop :=
 ∀(A:Nat->Prop) (W:World) (vs:Array Value) (ι:Nat->Option Nat),(∀b,A b->b<W.heap.size)->(∀id,(∃b,ι id=some b)↔id<hs.length+1)->(∀id b,ι id=some b->b<W.heap.size/\¬A b) ->
  (∀id id' b,ι id=some b->ι id'=some b->id=id')->(∀i b ob,(o::hs)[i]? = some ob->ι i=some b->∃x,W.heap[b]? = some x/\CR A W ι ob x) ->
  ds.length+1=vs.size->(∃v,vs[0]? = some v/\V A W ι h v)->(∀(k:Nat) d v,ds[k]? = some d->vs[k+1]? = some v->VD A W d v) ->
  (∀w,aK P (callFunc f vs) w=.ok (.enter f vs) w)/\CX P f vs W λv W'=>∃F' ι',Kept (λb=>∃id,ι id=some b) W.heap.size W W' /\
   (∀b,F' b->A b\/(∃id,0<id/\ι id=some b)\/(W.heap.size<=b/\b<W'.heap.size))/\VD F' W' r v/\(∀id,(∃b,ι' id=some b)↔id<hs'.length+1)/\ι' 0=ι 0 /\
   (∀id b,ι' id=some b->b<W'.heap.size/\¬F' b/\((∃j,ι j=some b)\/W.heap.size<=b))/\(∀id id' b,ι' id=some b->ι' id'=some b->id=id') /\
   (∀i b ob,(o'::hs')[i]? = some ob->ι' i=some b->∃x,W'.heap[b]? = some x/\CR F' W' ι' ob x)
def bZm(i:Nat):HO->Bool
 |.cells _ cs=>cs.any (pJ i)
 |.map ..=>false
 |.iter ..=>false
def aJx{F:Nat->Prop}{w:World}{ι:Nat->Option Nat}{ν:Nat->Nat}{i:Nat}{x:AV}{v:Value}(hi:pJ i x=true)(h:V F w ι (aDx ν x) v):∃b,ι (ν i)=some b:=by
 cases x with
 | own id o l s =>
  simp only[pJ,C3]at hi;subst hi;cases h with|own _ _ _ _ b cap cur e h1 hb hcap hl hm=>exact⟨b,h1⟩
 | ptr id o =>
  simp only[pJ,C3]at hi;subst hi;cases h with|ptr _ _ b h1=>exact⟨b,h1⟩
 | mp id =>
  simp only[pJ,C3]at hi;subst hi;cases h with|mp _ b h1=>exact⟨b,h1⟩
 |_=>cases hi
def aBk{G:Ctx}{F:Nat->Prop}{w:World}{ι:Nat->Option Nat}{C:Nat->Prop}{K:Hp}(hR:HR G F w ι C K){ν:Nat->Nat}{l:List HO}{k:Nat}(hK:∀i ob,l[i]? = some ob->K (ν i)=some (tD ν ob))
  (h0:∃b,ι (ν 0)=some b) (hm:∀i,0<i->i<k->∃j ob,j<i/\l[j]? = some ob/\bZm i ob=true):∀(n i:Nat),i<=n->i<k->∃b,ι (ν i)=some b
 |0,i,hi,_=>by rw[show i=0 by omega];exact h0
 | n+1,i,hi,hk=>by
  rcases A7 i with rfl|hpos
  ·exact h0
  ·obtain⟨j,ob,hj,hl,hmt⟩:=hm i hpos hk;obtain⟨b,hb⟩:=aBk hR hK h0 hm n j (by omega) (by omega);obtain⟨y,_,hcr⟩:=hR.obj _ b _ hb (hK j ob hl);cases ob with
   |map k es=>cases hmt
   |iter k l es=>cases hmt
   | cells e cs =>
    simp only[bZm,List.any_eq_true]at hmt;obtain⟨c,hc,hid⟩:=hmt;obtain⟨q,hq,hqc⟩:=BM.1 hc;cases hcr with|cells _ _ cur hlen hh =>
    obtain⟨u,_,hv⟩:=hh q (aDx ν c) (by rw[Ag,Ab hq,hqc];rfl);exact aJx hid hv
def nuL(ν:Nat->Nat)(k:Nat):List Nat:=(AN k).map λi=>ν (i+1)
def uN{ν:Nat->Nat}{k id:Nat}:id∈nuL ν k↔∃j,0<j/\j<k+1/\ν j=id:=by
 unfold nuL;rw[AM];constructor
 ·rintro⟨i,hi,rfl⟩;exact⟨i+1,by omega,by simpa using hi,rfl⟩
 ·rintro⟨j,h1,h2,rfl⟩;exact⟨j-1,by simp;omega,by rw[show j-1+1=j by omega]⟩
def nuT(r n:Nat):Nat->Nat:=λj=>if j=0 then r else n+(j-1)
section
variable {P:Program} [M:Mch P] {G:Ctx} {C:Nat->Prop} {H K:Hp} {Γ:Nat->AV} {o:Oper}
def bMx{f:FuncId}{args:Array Operand}{ts:Array TypeId}{x:Operand}{rest:List Operand}{ds:List D}{ν:Nat->Nat}{n:Nat}{h:AV}{ro ro':HO}{hs hs':List HO}{r:D}{K':Hp}
  (hop_:o.op=.call { callee:=.value (.func f),args:=args,argTypes:=ts }) (hargs:args.toList=x::rest) (hHK:∀id ob,H id=some ob->K id=some ob)
  (hx:oev Γ x=aDx ν h) (hlf:lf0 (hs.length+1) h=true) (hνi:∀i j,i<hs.length+1->j<hs.length+1->ν i=ν j->i=j) (hνH:∀i ob,(ro::hs)[i]? = some ob->lfO (hs.length+1) ob=true/\H (ν i)=some (tD ν ob)) (hC:∀i,i<hs.length+1->¬C (ν i))
  (hlive:∀i,i<hs.length+1->∀F w ι (a:Act),HR G F w ι C K->(∀t,CN t∈o.op.operands->V F w ι (Γ t) (a.tmps.getD t undef))->∃b,ι (ν i)=some b)
  (hvis:bV H (rest.map (oev Γ))=[]) (hf:cI H (rest.map (oev Γ))=some ds) (hsp:bWj P f h ro hs ds ro' hs' r)
  (hK0:K' (ν 0)=some (tD (nuT (ν 0) n) ro')) (hKn:∀j ob,hs'[j]? = some ob->K' (n+j)=some (tD (nuT (ν 0) n) ob))
  (hKo:∀j ob,j≠ν 0->¬(n<=j/\j<n+hs'.length)->K' j=some ob->K j=some ob/\¬C j/\∀i,i<hs.length+1->ν i≠j) (hν0n:ν 0<n) :
  Y P G o Γ C K K' (inj r) (λi=>n<=i/\i<n+hs'.length) (λi=>∃j,0<j/\j<hs.length+1/\ν j=i):=by
 intro F w ι a hok hR hop hnew next hnext
 have hargs':args=(x::rest).toArray:=by rw[<-hargs]
 have hop':∀y∈x::rest,V F w ι (oev Γ y) (a.eval y):=λy hy=>cH λt e=>hop t (by rw[hop_];subst e;simp only[AD,Bg];rw[hargs'];simpa using hy)
 have hlv:∀i,i<hs.length+1->∃b,ι (ν i)=some b:=λi hi=>hlive i hi F w ι a hR hop
 obtain⟨hl,hV,_⟩:=mT hR hHK hf λy hy=>hop' y (AE _ hy)
 have hmap:args.map a.eval=(a.eval x::rest.map a.eval).toArray:=by rw[hargs'];simp
 -- the numbers that the function is given
 obtain⟨ιc,hιc⟩:∃ιc:Nat->Option Nat,ιc=λi=>if i<hs.length+1 then ι (ν i)else none:=⟨_,rfl⟩
 have c_in:∀i,i<hs.length+1->ιc i=ι (ν i):=λi hi=>by rw[hιc];exact Aq hi
 have c_some:∀i b,ιc i=some b->i<hs.length+1/\ι (ν i)=some b:=λi b hi=>by
  rw[hιc]at hi;simp only at hi;split at hi
  ·exact⟨by assumption,hi⟩
  ·cases hi
 have hroot:ν 0<n:=hν0n
 have hne:∀i b,i<hs.length+1->ι (ν i)=some b->¬F b:=λi b hi hb=>(hR.place _ b hb).2.2 (hC i hi)
 obtain⟨hent,hcalls⟩:=hsp F w (args.map a.eval) ιc hR.F_lt
  (λid=>⟨λ⟨b,hb⟩=>(c_some id b hb).1,λh=>by obtain⟨b,hb⟩:=hlv id h;exact⟨b,by rw[c_in id h];exact hb⟩⟩)
  (λid b hb=>by obtain⟨h1,h2⟩:=c_some id b hb;exact⟨hR.ι_lt h2,hne id b h1 h2⟩)
  (λid id' b h1 h2=>by
   obtain⟨q1,q2⟩:=c_some id b h1;obtain⟨q3,q4⟩:=c_some id' b h2;exact hνi id id' q1 q3 (hR.inj _ _ b q2 q4 (hC id q1) (hC id' q3)))
  (λi b ob hob hb=>by
   obtain⟨q1,q2⟩:=c_some i b hb;obtain⟨l1,l2⟩:=hνH i ob hob;obtain⟨y,y1,y2⟩:=hR.obj _ b _ q2 (hHK _ _ l2);exact⟨y,y1,bMr l1 (λj c hj hc=>by rw[c_in j hj];exact hc) y2⟩)
  (by rw[hmap];simp at hl ⊢;omega)
  ⟨a.eval x,by rw[hmap];simp,vW hlf (λj c hj hc=>by rw[c_in j hj];exact hc) (by rw[<-hx];exact hop' x (AI ..))⟩
  (λk d v hk hv=>(hV k d v hk (by rw[hmap]at hv;simpa using hv)).mono λc hc=>by
   rcases hc with hc|⟨i,hi,_⟩
   ·exact hc
   ·rw[hvis]at hi;cases hi)
 unfold wpX
 have hfe:a.eval (.func f)=.func (.func f) #[] #[]:=rfl
 simp only[execOp,hop_,resolve,invoke,Sem.run_bind,hfe,CF,Sem.run_pure,AK,Cl,CJ,hent,iV]
 refine hcalls.mono ?_
 rintro v w' ⟨F1,ι1,hk,hF1,hvd,hdom,h0,hpl,hinj,hobj⟩
 have hsz:=hk.size
 have hW:G.W.heap.size<=w.heap.size:=hR.kept.size
 have rng:∀b,(∃id,ιc id=some b)->∃i,i<hs.length+1/\ι (ν i)=some b:=λb ⟨id,h⟩=>⟨id,c_some id b h⟩
 have hoth:∀b,b<w.heap.size->(¬∃i,i<hs.length+1/\ι (ν i)=some b)->w'.heap[b]? = w.heap[b]? := λb h1 h2=>hk.block b h1 λh=>h2 (rng b h)
 have hF1':∀b,F1 b->F b\/(∃i,0<i/\i<hs.length+1/\ι (ν i)=some b)\/(w.heap.size<=b/\b<w'.heap.size):=λb hb=>by
  rcases hF1 b hb with h|⟨id,h1,h2⟩|h
  ·exact .inl h
  ·obtain⟨q1,q2⟩:=c_some id b h2;exact .inr (.inl ⟨id,h1,q1,q2⟩)
  ·exact .inr (.inr h)
 have h00:ι1 0=ι (ν 0):=by rw[h0,c_in 0 (by omega)]
 obtain⟨ι',hι'⟩:∃ι':Nat->Option Nat,ι'=λid=>if n<=id/\id<n+hs'.length then ι1 (id-n+1)else ι id:=⟨_,rfl⟩
 have e_new:∀id,(n<=id/\id<n+hs'.length)->ι' id=ι1 (id-n+1):=λid h=>by rw[hι'];exact Aq h
 have e_old:∀id,¬(n<=id/\id<n+hs'.length)->ι' id=ι id:=λid h=>by rw[hι'];exact Ai h
 have e_nu:∀j b,ι1 j=some b->ι' (nuT (ν 0) n j)=some b:=λj b hj=>by
  have hlt:=(hdom j).1 ⟨b,hj⟩;unfold nuT;by_cases hj0:j=0
  ·subst hj0;rw[Aq rfl,e_old _ (by omega),<-h00];exact hj
  ·rw[Ai hj0,e_new _ (by omega),show n+(j-1)-n+1=j by omega];exact hj
 have split:∀id b,ι' id=some b->(n<=id/\id<n+hs'.length/\ι1 (id-n+1)=some b)\/(¬(n<=id/\id<n+hs'.length)/\ι id=some b):=λid b h=>by
  by_cases hid:n<=id/\id<n+hs'.length
  ·rw[e_new id hid]at h;exact .inl ⟨hid.1,hid.2,h⟩
  ·rw[e_old id hid]at h;exact .inr ⟨hid,h⟩
 have hs0:Step F w ι (λb=>F b\/F1 b) w' ι':=⟨λ_ h=>.inl h,λb h=>hoth b (hR.F_lt b h) λ⟨i,hi,hb⟩=>hne i b hi hb h,λid b h=>by
  by_cases hid:n<=id/\id<n+hs'.length
  ·rw[hnew id hid]at h;cases h
  ·rw[e_old id hid];exact h,λid b cur e hi h=>hk.shape b cur e (hR.ι_lt hi) h⟩
 have hs1:Step F1 w' ι' (λb=>F b\/F1 b) w' ι':=⟨λ_ h=>.inr h,λ_ _=>rfl,λ_ _ h=>h,λid b cur e hi h=>⟨cur,h,rfl⟩⟩
 -- an old number that is not used up and not the root's lies apart
 have apart:∀id b,ι id=some b->¬C id->(∀i,i<hs.length+1->ν i≠id)->¬∃i,i<hs.length+1/\ι (ν i)=some b:=λid b h1 h2 h3 ⟨i,hi,hb⟩ =>
  h3 i hi (hR.inj _ _ b hb h1 (hC i hi) h2)
 have cr:∀i b j,ι1 (j+1)=some b->ι i=some b->¬(C i\/∃k,0<k/\k<hs.length+1/\ν k=i)->False:=λi b j q1 q2 q3=>by
  rcases(hpl _ b q1).2.2 with p|p
  ·obtain⟨k,hk1,hb⟩:=rng b p;have e:=hR.inj _ _ b hb q2 (hC k hk1) (λh=>q3 (.inl h));rcases A7 k with rfl|hk0
   ·have:=hinj 0 (j+1) b (by rw[h00];exact hb) q1;omega
   ·exact q3 (.inr ⟨k,hk0,hk1,e⟩)
  ·have:=hR.ι_lt q2;omega
 refine hnext (λb=>F b\/F1 b) w' ι' v ⟨hR.kept.trans ⟨hk.os,hk.tape,hk.output,hk.size,λk hkW hm=>hoth k (by omega) λ⟨i,hi,hb⟩=>?_,λk cur e hkW hc=>hk.shape k cur e (by omega) hc⟩,?_,?_,?_,?_,?_,?_⟩ hs0 (λid b h=>?_) (λid hid=>?_) (aDi (hvd.mono λ_ h=>.inr h))
 ·rcases(hR.place _ k hb).1 with h|h
  ·exact hm h
  ·omega
 ·rintro b (h|h)
  ·have:=hR.F_lt b h;omega
  ·rcases hF1' b h with h|⟨i,_,_,h⟩|h
   ·have:=hR.F_lt b h;omega
   ·have:=hR.ι_lt h;omega
   ·exact h.2
 ·rintro b (h|h)
  ·exact hR.F_ok b h
  ·rcases hF1' b h with h|⟨i,_,_,h⟩|h
   ·exact hR.F_ok b h
   ·exact .inr (hR.place _ b h).1
   ·exact .inr (.inr (by omega))
 ·intro id b h
  rcases split id b h with ⟨_,_,h⟩|⟨hn,h⟩
  ·obtain⟨p1,p2,p3⟩:=hpl _ b h
   refine⟨?_,p1,λ_ hF=>?_⟩
   ·rcases p3 with p3|p3
    ·obtain⟨i,_,hb⟩:=rng b p3;exact(hR.place _ b hb).1
    ·exact .inr (by omega)
   ·rcases hF with hF|hF
    ·rcases p3 with p3|p3
     ·obtain⟨i,hi,hb⟩:=rng b p3;exact hne i b hi hb hF
     ·have:=hR.F_lt b hF;omega
    ·exact p2 hF
  ·obtain⟨p1,p2,p3⟩:=hR.place id b h
   refine⟨p1,by omega,λhc hF=>?_⟩
   have hc1:¬C id:=λh=>hc (.inl h)
   rcases hF with hF|hF
   ·exact p3 hc1 hF
   ·rcases hF1' b hF with q|⟨i,q1,q2,q3⟩|q
    ·exact p3 hc1 q
    ·exact hc (.inr ⟨i,q1,q2,hR.inj _ _ b q3 h (hC i q2) hc1⟩)
    ·omega
 ·intro id b ob h hob
  rcases split id b h with ⟨h1,h2,h⟩|⟨hn,h⟩
  ·obtain⟨j,rfl⟩:∃j,id=n+j:=⟨id-n,by omega⟩
   rw[show n+j-n+1=j+1 by omega]at h
   have hg:hs'[j]? = some hs'[j]:=Ab (by omega)
   rw[hKn j _ hg]at hob
   injection hob with hob;subst hob
   obtain⟨y,y1,y2⟩:=hobj (j+1) b hs'[j] (by simp) h
   exact⟨y,y1,(bMs e_nu y2).step hs1⟩
  ·by_cases hr:id=ν 0
   ·subst hr
    rw[hK0]at hob
    injection hob with hob;subst hob
    obtain⟨y,y1,y2⟩:=hobj 0 b ro' rfl (by rw[h00];exact h)
    exact⟨y,y1,(bMs e_nu y2).step hs1⟩
   ·obtain⟨q1,q2,q3⟩:=hKo id ob hr hn hob
    obtain⟨y,y1,y2⟩:=hR.obj id b ob h q1
    exact⟨y,(hoth b (hR.ι_lt h) (apart id b h q2 q3)).trans y1,y2.step hs0⟩
 ·intro id id' b h h' hc hc'
  rcases split id b h with ⟨h1,h2,h⟩|⟨hn,h⟩<;>rcases split id' b h' with ⟨h1',h2',h'⟩|⟨hn',h'⟩
  ·have:=hinj _ _ b h h';omega
  ·exact(cr id' b _ h h' hc').elim
  ·exact(cr id b _ h' h hc).elim
  ·exact hR.inj id id' b h h' (λx=>hc (.inl x)) λx=>hc' (.inl x)
 ·intro id id' b o1 o2 h h' hc ho1 ho2
  have old:∀i ob,¬(n<=i/\i<n+hs'.length)->K' i=some ob->¬C i/\(i=ν 0\/∀k,k<hs.length+1->ν k≠i):=λi ob q1 q2=>by
   by_cases hr:i=ν 0
   ·exact⟨by rw[hr];exact hC 0 (by omega),.inl hr⟩
   ·obtain⟨_,p2,p3⟩:=hKo i ob hr q1 q2;exact⟨p2,.inr p3⟩
  have same:id=id'->o2.len<=o1.len:=λe=>by subst e;rw[ho1]at ho2;injection ho2 with ho2;subst ho2;exact Ay _
  rcases split id b h with ⟨h1,h2,h⟩|⟨hn,h⟩<;>rcases split id' b h' with ⟨h1',h2',h'⟩|⟨hn',h'⟩
  ·exact same (by have:=hinj _ _ b h h';omega)
  ·obtain⟨q1,q2⟩:=old id' o2 hn' ho2
   exfalso
   rcases q2 with q2|q2
   ·subst q2
    have:=hinj 0 _ b (by rw[h00];exact h') h;omega
   ·refine cr id' b _ h h' λhx=>?_
    rcases hx with hx|⟨k,_,hk2,hk3⟩
    ·exact q1 hx
    ·exact q2 k hk2 hk3
  ·exact(cr id b _ h' h hc).elim
  ·exact same (hR.inj id id' b h h' (λx=>hc (.inl x)) (old id' o2 hn' ho2).1)
 ·rcases split id b h with ⟨h1,h2,_⟩|⟨_,h⟩
  ·exact .inr ⟨h1,h2⟩
  ·exact .inl h
 ·obtain⟨b,hb'⟩:=(hdom (id-n+1)).2 (by omega)
  exact⟨b,by rw[e_new id hid];exact hb'⟩
end
end Go.Am
end
