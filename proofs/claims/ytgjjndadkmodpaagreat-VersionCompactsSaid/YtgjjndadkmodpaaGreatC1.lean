/- The abstract machine, part 10: append. No condition. -/
import Derived.WalkKit
import Derived.Still
import Derived.MapKept
import Derived.Maps.RangeRun
import Derived.Laws.StructEq
set_option linter.all false
open Array renaming all_eq_true_iff_forall_mem->BZ,getElem?_eq_getElem->AD,getElem?_eq_some_iff->BV,getElem?_map->E7,getElem?_push->Dq,getElem?_toList->Bn,length_toList->BS,mem_iff_getElem->Fm,mem_of_getElem?->C2,range->Ge,size_append->DG
open Bool renaming false_eq_true->A0
open Go.Builtin renaming append_->BT,firstCells->C8,lenOf->Fv,zeroCells->BG
open Go.Call renaming operands->Bp
open Go.Instr renaming indexAt->Gl,loadAt->EP,sliceBounds->DF,sureAddr->CF
open Go.MapKept renaming Stamped->Ez
open Go.Op renaming operands->AN
open Go.Oper renaming upon_value->D6,wp->DY
open Go.Operand renaming tmp->CI
open Go.Result renaming andThen_ok->AX
open Go.Sem renaming run_bind->A3,run_pure->Bz
open Go.Value renaming oneCell'->CE
open List renaming append_assoc->Bh,eq_nil_of_length_eq_zero->AE,flatten_cons->BF,getElem?_append_left->AJ,getElem?_append_right->Az,getElem?_cons_succ->Bg,getElem?_cons_zero->Cj,getElem?_drop->Bt,getElem?_eq_getElem->Ab,getElem?_eq_some_iff->Ah,getElem?_map->Aw,getElem?_range->CJ,getElem?_take->Bb,getElem?_toArray->Cf,getElem_mem->Ar,length_append->Ak,length_cons->AH,length_map->AL,length_nil->Bq,length_take->Ax,mapM_cons->Ca,mem_cons_of_mem->Au,mem_cons_self->Av,mem_of_getElem?->Aq,range->CS,replicate->AB,size_toArray->B0
open Nat renaming add_assoc->Ed,add_mul->By,add_zero->Ce,le_refl->Ap,le_trans->An,lt_or_ge->Bf,min_eq_left->BR,mul_le_mul_right->A8,one_mul->CZ,sub_self->Cx,zero_add->A6,zero_mul->Cn
open Option renaming bind_eq_bind->CY,bind_eq_some_iff->Ae,map_eq_some_iff->Aj,map_some->A4,pure_def->DI
open Option.some renaming injEq->AU
open Std.Legacy.Range renaming forIn_eq_forIn_range'->EK
open _root_ renaming if_false->B2,if_neg->Ac,if_pos->Ad,if_true->B1
section
open List renaming map_map->E,mapM_map->I
namespace Go.Am
inductive D where
 |b (x:Bool)
 |i (k:IntKind) (n:Int)
 |sl (els:List (List D))
 |ag (cs:List D)
 |tp (vs:List D)
 |lit (v:Value)
 |pt (cs:List D)
 |fn (f:FuncId) (cs:List D)
 |mp (k:IntKind) (ks:List Int) (vs:List D)
 |iff (t:TypeId) (x:D)
 deriving Inhabited
inductive VD(F:Nat->Prop)(w:World):D->Value->Prop where
 |b (x:Bool):VD F w (.b x) (.bool x)
 |i (k:IntKind) (n:Int):VD F w (.i k n) (.int k n)
 |sl0 (ad:Option Addr) (c:Nat):VD F w (.sl []) (.slice ad 0 c)
 |sl (els:List (List D)) (ad:Addr) (n c sz:Nat) (f:Nat->Value) (hn:n=els.length) (hc:n<=c) (hsz:∀cs∈els,cs.length=sz) (hF:F ad.block)
   (hcell:∀j,j<n*sz->w.cell? (ad.add j)=some (f j)) (hel:∀(j k:Nat) cs c,els[j]? = some cs->cs[k]? = some c->VD F w c (f (j*sz+k))) :
   VD F w (.sl els) (.slice (some ad) n c)
 |ag (cs:List D) (vs:Array Value) (hl:cs.length=vs.size) (h:∀(k:Nat) c v,cs[k]? = some c->vs[k]? = some v->VD F w c v):VD F w (.ag cs) (.agg vs)
 |tp (cs:List D) (vs:Array Value) (hl:cs.length=vs.size) (h:∀(k:Nat) c v,cs[k]? = some c->vs[k]? = some v->VD F w c v):VD F w (.tp cs) (.tuple vs)
 |lit (v:Value):VD F w (.lit v) v
 |pt (cs:List D) (ad:Addr) (f:Nat->Value) (hF:F ad.block) (hcell:∀j,j<cs.length->w.cell? (ad.add j)=some (f j)) (hel:∀(k:Nat) c,cs[k]? = some c->VD F w c (f k)):VD F w (.pt cs) (.pointer (some ad))
 |fn (g:FuncId) (cs:List D) (vs:Array Value) (hl:cs.length=vs.size) (h:∀(k:Nat) c v,cs[k]? = some c->vs[k]? = some v->VD F w c v):VD F w (.fn g cs) (.func (.func g) #[] vs)
 |mp (k:IntKind) (ks:List Int) (ds:List D) (b:Nat) (ents:Array MapEntry) (clock:Nat) (hF:F b) (hb:w.heap[b]? = some (.map ents clock)) (hst:Ez ents clock) (hl:ks.length=ents.size) (hl':ds.length=ents.size)
   (hk:∀(j:Nat) n,ks[j]? = some n->∃en,ents[j]? = some en/\en.key=.int k n) (hv:∀(j:Nat) d en,ds[j]? = some d->ents[j]? = some en->VD F w d en.val):VD F w (.mp k ks ds) (.map (some b))
 |iff (t:TypeId) (x:D) (v:Value) (h:VD F w x v):VD F w (.iff t x) (.iface t v)
inductive AV where
 |d (x:D)
 |nil
 |own (id off len sz:Nat)
 |ptr (id off:Nat)
 |mp (id:Nat)
 |fp (cs:List D)
 |fd (els:List (List D))
 |ag (cs:List AV)
 |tp (vs:List AV)
 |un
 |ub
 |kf (f:FuncId) (id:Nat)
 |fn (f:FuncId) (cs:List AV)
 |any
 deriving Inhabited
inductive V(F:Nat->Prop)(w:World)(ι:Nat->Option Nat):AV->Value->Prop where
 |d (x:D) (v:Value) (h:VD F w x v):V F w ι (.d x) v
 |nil:V F w ι .nil (.slice none 0 0)
 |own (id off len sz b cap:Nat) (cur:Array Value) (e:TypeId) (hι:ι id=some b) (hb:w.heap[b]? = some (.cells cur e (0,0))) (hcap:(off+cap)*sz<=cur.size) (hl:len<=cap)
   (hm:cap<=maxLen):V F w ι (.own id off len sz) (.slice (some ⟨b,off*sz,none⟩) len cap)
 |ptr (id off b:Nat) (hι:ι id=some b):V F w ι (.ptr id off) (.pointer (some ⟨b,off,none⟩))
 |mp (id b:Nat) (hι:ι id=some b):V F w ι (.mp id) (.map (some b))
 |fp (cs:List D) (ad:Addr) (f:Nat->Value) (hF:F ad.block) (hcell:∀j,j<cs.length->w.cell? (ad.add j)=some (f j)) (hel:∀(k:Nat) c,cs[k]? = some c->VD F w c (f k)) :
   V F w ι (.fp cs) (.pointer (some ad))
 |fd (els:List (List D)) (ad:Option Addr) (n:Nat) (h:VD F w (.sl els) (.slice ad n n)):V F w ι (.fd els) (.slice ad n n)
 |ag (cs:List AV) (vs:Array Value) (hl:cs.length=vs.size) (h:∀(k:Nat) c v,cs[k]? = some c->vs[k]? = some v->V F w ι c v):V F w ι (.ag cs) (.agg vs)
 |tp (cs:List AV) (vs:Array Value) (hl:cs.length=vs.size) (h:∀(k:Nat) c v,cs[k]? = some c->vs[k]? = some v->V F w ι c v):V F w ι (.tp cs) (.tuple vs)
 |un:V F w ι .un undef
 |ub (t:Bool):V F w ι .ub (.bool t)
 |kf (f:FuncId) (id b p:Nat) (e:TypeId) (hι:ι id=some b) (hF:F p) (hp:w.heap[p]? = some (.cells #[.map (some b)] e (0,0))):V F w ι (.kf f id) (.func (.func f) #[] #[.pointer (some ⟨p,0,none⟩)])
 |fn (g:FuncId) (cs:List AV) (vs:Array Value) (hl:cs.length=vs.size) (h:∀(k:Nat) c v,cs[k]? = some c->vs[k]? = some v->V F w ι c v):V F w ι (.fn g cs) (.func (.func g) #[] vs)
 |any (v:Value):V F w ι .any v
inductive HO where
 |cells (e:TypeId) (cs:List AV)
 |map (k:IntKind) (es:List (Int×AV))
 |iter (k:IntKind) (last:Option (Int×D)) (es:List (Int×D))
 deriving Inhabited
abbrev Hp:=Nat->Option HO
def HO.len:HO->Nat
 |.cells _ cs=>cs.length
 |.map ..=>0
 |.iter ..=>0
inductive CR(F:Nat->Prop)(w:World)(ι:Nat->Option Nat):HO->Obj->Prop where
 |cells (e:TypeId) (cs:List AV) (cur:Array Value) (hl:cs.length<=cur.size) (h:∀(k:Nat) c,cs[k]? = some c->∃u,cur[k]? = some u/\V F w ι c u):CR F w ι (.cells e cs) (.cells cur e (0,0))
 |map (k:IntKind) (es:List (Int×AV)) (ents:Array MapEntry) (clock:Nat) (hl:es.length=ents.size) (hst:Ez ents clock)
   (h:∀(j:Nat) x,es[j]? = some x->∃en,ents[j]? = some en/\en.key=.int k x.1/\V F w ι x.2 en.val):CR F w ι (.map k es) (.map ents clock)
 |iter (k:IntKind) (last:Option (Int×D)) (es:List (Int×D)) (bm since c0 clock:Nat) (seen:Array Nat) (ents:Array MapEntry) (hF:F bm) (hb:w.heap[bm]? = some (.map ents clock)) (hold:∀x∈ents.toList,x.born<since) (hsc:since<=c0/\since<=clock)
   (hn:(ents.toList.map (·.born)).Nodup) (hl:es.length=(leftOf ents seen).size) (h:∀(j:Nat) x,es[j]? = some x->∃en,(leftOf ents seen)[j]? = some en/\en.key=.int k x.1/\VD F w x.2 en.val)
   (hla:∀x,last=some x->c0=clock/\∃(en:MapEntry) (seen0:Array Nat),seen=seen0.push en.born/\en∈ents.toList/\en.key=.int k x.1/\VD F w x.2 en.val):CR F w ι (.iter k last es) (.mapIter (some bm) since seen c0)
structure Step(F:Nat->Prop)(w:World)(ι:Nat->Option Nat)(F':Nat->Prop)(w':World)(ι':Nat->Option Nat):Prop where
 F_le:∀b,F b->F' b
 blk:∀b,F b->w'.heap[b]? = w.heap[b]?
 ι_le:∀id b,ι id=some b->ι' id=some b
 own:∀id b cur e,ι id=some b->w.heap[b]? = some (.cells cur e (0,0))->∃cur',w'.heap[b]? = some (.cells cur' e (0,0))/\cur'.size=cur.size
def Step.refl(F:Nat->Prop)(w:World)(ι:Nat->Option Nat):Step F w ι F w ι:=⟨λ_ h=>h,λ_ _=>rfl,λ_ _ h=>h,λ_ _ cur _ _ h=>⟨cur,h,rfl⟩⟩
def Step.trans{F F1 F2:Nat->Prop}{w w1 w2:World}{ι ι1 ι2:Nat->Option Nat}(h:Step F w ι F1 w1 ι1)(k:Step F1 w1 ι1 F2 w2 ι2):Step F w ι F2 w2 ι2 :=
 ⟨λb hb=>k.F_le b (h.F_le b hb),λb hb=>(k.blk b (h.F_le b hb)).trans (h.blk b hb),λid b e=>k.ι_le id b (h.ι_le id b e),λid b cur e hi hb=>by
  obtain⟨c1,h1,s1⟩:=h.own id b cur e hi hb;obtain⟨c2,h2,s2⟩:=k.own id b c1 e (h.ι_le id b hi) h1;exact⟨c2,h2,s2.trans s1⟩⟩
def block_add(a:Addr)(j:Nat):(a.add j).block=a.block:=by unfold Addr.add;split<;>rfl
def add_add(a:Addr)(i j:Nat):(a.add i).add j=a.add (i+j):=by unfold Addr.add;by_cases hi:i=0<;>by_cases hj:j=0<;>simp[hi,hj,Ed]
def oJ(b o j:Nat):(⟨b,o,none⟩:Addr).add j=⟨b,o+j,none⟩:=by unfold Addr.add;split<;>simp_all
def cell_eq_of_block{w w':World}{a:Addr}(h:w'.heap[a.block]? = w.heap[a.block]?):w'.cell? a=w.cell? a:=by simp[World.cell?,h]
def VD.step{F F':Nat->Prop}{w w':World}{x:D}{v:Value}(hF:∀b,F b->F' b)(hb:∀b,F b->w'.heap[b]? = w.heap[b]?)(h:VD F w x v):VD F' w' x v:=by
 induction h with
 |b x=>exact .b x
 |i k n=>exact .i k n
 |sl0 ad c=>exact .sl0 ad c
 |sl els ad n c sz f hn hc hsz hFb hcell hel ih =>
  exact .sl els ad n c sz f hn hc hsz (hF _ hFb) (λj hj=>(cell_eq_of_block (a:=ad.add j) (by rw[block_add];exact hb _ hFb)).trans (hcell j hj)) ih
 |ag cs vs hl h ih=>exact .ag cs vs hl ih
 |tp cs vs hl h ih=>exact .tp cs vs hl ih
 |lit v=>exact .lit v
 |pt cs ad f hFb hcell hel ih=>exact .pt cs ad f (hF _ hFb) (λj hj=>(cell_eq_of_block (a:=ad.add j) (by rw[block_add];exact hb _ hFb)).trans (hcell j hj)) ih
 |fn g cs vs hl h ih=>exact .fn g cs vs hl ih
 |mp k ks ds b ents clock hFb hb' hst hl hl' hk hv ih=>exact .mp k ks ds b ents clock (hF _ hFb) ((hb _ hFb).trans hb') hst hl hl' hk ih
 |iff t x v h ih=>exact .iff t x v ih
def VD.mono{F F':Nat->Prop}{w:World}{x:D}{v:Value}(h:VD F w x v)(hF:∀b,F b->F' b):VD F' w x v:=h.step hF λ_ _=>rfl
def V.step{F F':Nat->Prop}{w w':World}{ι ι':Nat->Option Nat}{x:AV}{v:Value}(hs:Step F w ι F' w' ι')(h:V F w ι x v):V F' w' ι' x v:=by
 induction h with
 |d x v h=>exact .d x v (h.step hs.F_le hs.blk)
 |nil=>exact .nil
 |own id off len sz b cap cur e hι hb hcap hl hm =>
  obtain⟨cur',hb',hsz⟩:=hs.own id b cur e hι hb;exact .own id off len sz b cap cur' e (hs.ι_le _ _ hι) hb' (by omega) hl hm
 |ptr id off b hι=>exact .ptr id off b (hs.ι_le _ _ hι)
 |mp id b hι=>exact .mp id b (hs.ι_le _ _ hι)
 |fp cs ad f hF hcell hel =>
  exact .fp cs ad f (hs.F_le _ hF) (λj hj=>(cell_eq_of_block (a:=ad.add j) (by rw[block_add];exact hs.blk _ hF)).trans (hcell j hj)) (λk c hk=>(hel k c hk).step hs.F_le hs.blk)
 |fd els ad n h=>exact .fd els ad n (h.step hs.F_le hs.blk)
 |ag cs vs hl h ih=>exact .ag cs vs hl ih
 |tp cs vs hl h ih=>exact .tp cs vs hl ih
 |un=>exact .un
 |ub t=>exact .ub t
 |kf f id b p e hι hF hp=>exact .kf f id b p e (hs.ι_le _ _ hι) (hs.F_le _ hF) ((hs.blk _ hF).trans hp)
 |fn g cs vs hl h ih=>exact .fn g cs vs hl ih
 |any v=>exact .any v
structure Kept(M:Nat->Prop)(B:Nat)(w w':World):Prop where
 os:w'.os=w.os
 tape:w'.tape=w.tape
 output:w'.output=w.output
 size:w.heap.size<=w'.heap.size
 block:∀k,k<B->¬M k->w'.heap[k]? = w.heap[k]?
 shape:∀k cur e,k<B->w.heap[k]? = some (.cells cur e (0,0))->∃cur',w'.heap[k]? = some (.cells cur' e (0,0))/\cur'.size=cur.size
def Kept.refl(M:Nat->Prop)(B:Nat)(w:World):Kept M B w w:=⟨rfl,rfl,rfl,Ap _,λ_ _ _=>rfl,λ_ cur _ _ h=>⟨cur,h,rfl⟩⟩
def Kept.trans{M:Nat->Prop}{B:Nat}{w w1 w2:World}(h:Kept M B w w1)(k:Kept M B w1 w2):Kept M B w w2 :=
 ⟨k.os.trans h.os,k.tape.trans h.tape,k.output.trans h.output,An h.size k.size,λb hb hm=>(k.block b hb hm).trans (h.block b hb hm),λb cur e hb hc=>let ⟨c1,h1,s1⟩:=h.shape b cur e hb hc;let ⟨c2,h2,s2⟩:=k.shape b c1 e hb h1;⟨c2,h2,s2.trans s1⟩⟩
def Kept.below{M:Nat->Prop}{B B':Nat}{w w':World}(h:RowKit.Below B' w w')(hB:B<=B'):Kept M B w w':=⟨h.os,h.tape,h.output,h.size,λk hk _=>h.block k (by omega),λk cur e hk hc=>⟨cur,(h.block k (by omega)).trans hc,rfl⟩⟩
structure Ctx where
 W:World
 A:Nat->Prop
 M:Nat->Prop
 P0:Nat->Prop
 Z:Nat->Option Value
structure HR(G:Ctx)(F:Nat->Prop)(w:World)(ι:Nat->Option Nat)(C:Nat->Prop)(H:Hp):Prop where
 kept:Kept G.M G.W.heap.size G.W w
 F_lt:∀b,F b->b<w.heap.size
 F_ok:∀b,F b->G.A b\/G.M b\/G.W.heap.size<=b
 place:∀id b,ι id=some b->(G.M b\/G.W.heap.size<=b)/\b<w.heap.size/\(¬C id->¬F b)
 obj:∀id b o,ι id=some b->H id=some o->∃ob,w.heap[b]? = some ob/\CR F w ι o ob
 inj:∀id id' b,ι id=some b->ι id'=some b->¬C id->¬C id'->id=id'
 len:∀id id' b o o',ι id=some b->ι id'=some b->¬C id->H id=some o->H id'=some o'->o'.len<=o.len
def cv1:Value->AV
 |.bool x=>.d (.b x)
 |.int k n=>.d (.i k n)
 |.slice none 0 0=>.nil
 |v=>.d (.lit v)
def cv:Value->AV
 |.agg cs=>.ag (cs.toList.map cv1)
 |v=>cv1 v
def oev(J:Nat->AV):Operand->AV
 |.tmp t=>J t
 |.const v=>cv v
 |.global g=>.d (.lit (.pointer (some ⟨g,0,none⟩)))
 |.func f=>.d (.lit (.func (.func f) #[] #[]))
section
variable {F:Nat->Prop} {w:World} {ι:Nat->Option Nat}
def bOk(v:Value):V F w ι (cv1 v) v:=by
 unfold cv1;split
 ·exact .d _ _ (.b _)
 ·exact .d _ _ (.i _ _)
 ·exact .nil
 ·exact .d _ _ (.lit _)
def aNr(cs:Array Value)(k:Nat)(c:AV)(v:Value)(h:(cs.toList.map cv1)[k]? = some c)(h':cs[k]? = some v):V F w ι c v:=by simp only[Aw,Bn,h',A4,AU]at h;subst h;exact bOk v
def bOl(v:Value):V F w ι (cv v) v:=by
 unfold cv;split
 ·exact .ag _ _ (by simp) (aNr _)
 ·exact bOk _
def fD{J:Nat->AV}{a:Act}{x:Operand}(h:∀t,x=.tmp t->V F w ι (J t) (a.tmps.getD t undef)):V F w ι (oev J x) (a.eval x):=by
 cases x with
 |tmp t=>exact h t rfl
 |const v=>exact bOl v
 |global g=>exact .d _ _ (.lit _)
 |func f=>exact .d _ _ (.lit _)
end
def HR.congrC{G:Ctx}{F:Nat->Prop}{w:World}{ι:Nat->Option Nat}{C C':Nat->Prop}{H:Hp}(h:HR G F w ι C H)(hC:∀id,C id↔C' id):HR G F w ι C' H:=by
 have:C=C':=funext λid=>propext (hC id)
 exact this ▸ h
def HR.weakC{G:Ctx}{F:Nat->Prop}{w:World}{ι:Nat->Option Nat}{C C':Nat->Prop}{H:Hp}(h:HR G F w ι C H)(hC:∀id,C id->C' id):HR G F w ι C' H :=
 ⟨h.kept,h.F_lt,h.F_ok,λid b e=>⟨(h.place id b e).1,(h.place id b e).2.1,λhn=>(h.place id b e).2.2 λx=>hn (hC _ x)⟩,h.obj,
  λid id' b e e' n n'=>h.inj id id' b e e' (λx=>n (hC _ x)) (λx=>n' (hC _ x)),
  λid id' b o o' e e' n=>h.len id id' b o o' e e' (λx=>n (hC _ x))⟩
def Y(P:Program)(G:Ctx)(o:Oper)(J:Nat->AV)(C:Nat->Prop)(H H':Hp)(av:AV)(new con:Nat->Prop):Prop :=
 ∀(F:Nat->Prop) (w:World) (ι:Nat->Option Nat) (a:Act),HR G F w ι C H ->
  (∀t,CI t∈o.op.operands->V F w ι (J t) (a.tmps.getD t undef))->(∀id,new id->ι id=none) ->
  ∀(next:Act->World->Prop) (Q:Exit->Act->World->Prop),
   (∀(F':Nat->Prop) (w':World) (ι':Nat->Option Nat) (u:Value),HR G F' w' ι' (λid=>C id\/con id) H'->Step F w ι F' w' ι' ->
    (∀id b,ι' id=some b->ι id=some b\/new id)->(∀id,new id->∃b,ι' id=some b)->V F' w' ι' av u->next (a.put o.dst u) w')->o.wp P a w next Q
def bW:Nat->Prop:=λ_=>False
def aAf{P:Program}{G:Ctx}{o:Oper}{J:Nat->AV}{C:Nat->Prop}{H:Hp}{av:AV}
  (h:∀(F:Nat->Prop) (w:World) (ι:Nat->Option Nat) (a:Act),HR G F w ι C H->(∀t,CI t∈o.op.operands->V F w ι (J t) (a.tmps.getD t undef)) ->
   ∃u,((execOp a.eval o).run P w=.ok (.value u) w)/\V F w ι av u):Y P G o J C H H av bW bW:=by
 intro F w ι a hR hop _ next Q hn
 obtain⟨u,hr,hv⟩:=h F w ι a hR hop
 unfold DY
 rw[hr,D6]
 exact hn F w ι u (hR.weakC λ_ h=>.inl h) (.refl _ _ _) (λ_ _ h=>.inl h) (λ_ h=>h.elim) hv
def upd{α:Type}(f:Nat->α)(k:Nat)(x:α):Nat->α:=λj=>if j=k then x else f j
def dC{α:Type}(f:Nat->α)(k:Nat)(x:α):upd f k x k=x:=by simp[upd]
def dX{α:Type}(f:Nat->α){k j:Nat}(x:α)(h:j≠k):upd f k x j=f j:=by simp[upd,h]
section
variable {G:Ctx} {F:Nat->Prop} {w:World} {ι:Nat->Option Nat} {C:Nat->Prop} {H:Hp}
def HR.ι_lt(hR:HR G F w ι C H){id b:Nat}(h:ι id=some b):b<w.heap.size:=(hR.place id b h).2.1
structure mR(w:World)(o:Obj)(w1:World):Prop where
 heap:w1.heap=w.heap.push o
 os:w1.os=w.os
 tape:w1.tape=w.tape
 output:w1.output=w.output
def mR.alloc(w:World)(o:Obj):mR w o (w.alloc o):=⟨rfl,rfl,rfl,rfl⟩
def mR.drew(w:World)(o:Obj):mR w o (w.drew.alloc o):=⟨rfl,rfl,rfl,rfl⟩
def mR.old{w w1:World}{o:Obj}(h:mR w o w1)(i:Nat)(hi:i<w.heap.size):w1.heap[i]? = w.heap[i]? := by rw[h.heap,Dq,Ac (by omega)]
def mR.new{w w1:World}{o:Obj}(h:mR w o w1):w1.heap[w.heap.size]? = some o:=by rw[h.heap,Dq,Ad rfl]
def mR.size{w w1:World}{o:Obj}(h:mR w o w1):w1.heap.size=w.heap.size+1:=by rw[h.heap,Array.size_push]
def xG(hR:HR G F w ι C H)(n:Nat)(hn:ι n=none){o:Obj}{w1:World}(hw:mR w o w1):Step F w ι F w1 (upd ι n (some w.heap.size)) :=
 ⟨λ_ h=>h,λb hb=>hw.old b (hR.F_lt b hb),λid b e=>by
  rw[dX _ _ (λhe=>by rw[he,hn]at e;cases e)];exact e,
 λid b cur e hi hb=>⟨cur,(hw.old b (hR.ι_lt hi)).trans hb,rfl⟩⟩
def CR.step{F':Nat->Prop}{w':World}{ι':Nat->Option Nat}{x:HO}{ob:Obj}(hs:Step F w ι F' w' ι')(h:CR F w ι x ob):CR F' w' ι' x ob:=by
 cases h with
 |cells e cs cur hl h=>exact .cells e cs cur hl λk c hk=>let ⟨u,h1,h2⟩:=h k c hk;⟨u,h1,h2.step hs⟩
 |map k es ents clock hl hst h=>exact .map k es ents clock hl hst λj x hj=>let ⟨en,h1,h2,h3⟩:=h j x hj;⟨en,h1,h2,h3.step hs⟩
 |iter k last es bm since c0 clock seen ents hF hb hold hsc hn hl h hla=>exact .iter k last es bm since c0 clock seen ents (hs.F_le _ hF) ((hs.blk _ hF).trans hb) hold hsc hn hl (λj x hj=>let ⟨en,h1,h2,h3⟩:=h j x hj;⟨en,h1,h2,h3.step hs.F_le hs.blk⟩) λx hx=>let ⟨e1,en,sn,e2,e3,e4,e5⟩:=hla x hx;⟨e1,en,sn,e2,e3,e4,e5.step hs.F_le hs.blk⟩
def HR.alloc(hR:HR G F w ι C H)(n:Nat)(hn:ι n=none){o:Obj}{w1:World}(hw:mR w o w1)(ho:HO)(hH:H n=some ho)(hcr:CR F w1 (upd ι n (some w.heap.size)) ho o) :
  HR G F w1 (upd ι n (some w.heap.size)) C H:=by
 have hs:=xG hR n hn hw
 have hsz:=hw.size
 have hW:G.W.heap.size<=w.heap.size:=hR.kept.size
 have cases_ι:∀id b,upd ι n (some w.heap.size) id=some b->(id=n/\b=w.heap.size)\/(id≠n/\ι id=some b):=by
  intro id b e;by_cases h:id=n
  ·subst h;rw[dC]at e;injection e with e;exact .inl ⟨rfl,e.symm⟩
  ·rw[dX _ _ h]at e;exact .inr ⟨h,e⟩
 refine⟨hR.kept.trans ⟨hw.os,hw.tape,hw.output,by omega,λk hk _=>hw.old k (by omega),λk cur e hk hc=>⟨cur,(hw.old k (by omega)).trans hc,rfl⟩⟩,λb hb=>by have:=hR.F_lt b hb;omega,hR.F_ok,?_,?_,?_,?_⟩
 ·intro id b e
  rcases cases_ι id b e with ⟨_,rfl⟩|⟨_,e⟩
  ·exact⟨.inr hW,by omega,λ_ hF=>by have:=hR.F_lt _ hF;omega⟩
  ·obtain⟨h1,h2,h3⟩:=hR.place id b e
   exact⟨h1,by omega,h3⟩
 ·intro id b x e hx
  rcases cases_ι id b e with ⟨rfl,rfl⟩|⟨_,e⟩
  ·rw[hH]at hx;injection hx with hx;subst hx;exact⟨o,hw.new,hcr⟩
  ·obtain⟨ob,h2,h3⟩:=hR.obj id b x e hx
   exact⟨ob,(hw.old b (hR.ι_lt e)).trans h2,h3.step hs⟩
 ·intro id id' b e e' hc hc'
  rcases cases_ι id b e with ⟨h1,h2⟩|⟨_,h2⟩<;>rcases cases_ι id' b e' with ⟨h1',h2'⟩|⟨_,h2'⟩
  ·rw[h1,h1']
  ·have:=hR.ι_lt h2';omega
  ·have:=hR.ι_lt h2;omega
  ·exact hR.inj id id' b h2 h2' hc hc'
 ·intro id id' b x x' e e' hc hx hx'
  rcases cases_ι id b e with ⟨h1,h2⟩|⟨_,h2⟩<;>rcases cases_ι id' b e' with ⟨h1',h2'⟩|⟨_,h2'⟩
  ·rw[h1]at hx;rw[h1',hx]at hx';injection hx' with h;subst h;exact Ap _
  ·have:=hR.ι_lt h2';omega
  ·have:=hR.ι_lt h2;omega
  ·exact hR.len id id' b x x' h2 h2' hc hx hx'
end
def bPb{P:Program}{G:Ctx}{o:Oper}{J:Nat->AV}{C:Nat->Prop}{H:Hp}{av:AV}{n:Nat}{ho:HO}(hH:H n=some ho)
  (h:∀(F:Nat->Prop) (w:World) (ι:Nat->Option Nat) (a:Act),(∀t,CI t∈o.op.operands->V F w ι (J t) (a.tmps.getD t undef)) ->
   ∃u ob w1,(execOp a.eval o).run P w=.ok (.value u) w1/\mR w ob w1 /\
    (∀F' w' ι',Step F w ι F' w' ι'->ι' n=some w.heap.size->w'.heap[w.heap.size]? = some ob->CR F' w' ι' ho ob/\V F' w' ι' av u)) :
  Y P G o J C H H av (·=n) bW:=by
 intro F w ι a hR hop hnew next Q hn
 obtain⟨u,ob,w1,hr,hw,hv⟩:=h F w ι a hop
 have h0:=hnew n rfl
 have hs:=xG hR n h0 hw
 obtain⟨hcr,hvv⟩:=hv _ _ _ hs (dC _ _ _) hw.new
 unfold DY
 rw[hr,D6]
 refine hn F _ _ u ((hR.alloc n h0 hw ho hH hcr).weakC λ_ h=>.inl h) hs (λid b e=>?_) (λid h=>⟨_,by subst h;exact dC _ _ _⟩) hvv
 by_cases hid:id=n
 ·exact .inr hid
 ·rw[dX _ _ hid]at e;exact .inl e
def one:AV->Bool
 |.d (.b _)|.d (.i _ _)|.d (.sl _)|.nil|.own ..|.ptr ..|.mp _|.fp _|.fd _|.fn ..|.d (.pt _)|.d (.fn _ _)|.d (.iff _ _)=>true
 |.d (.lit v)=>v.oneCell'
 |_=>false
def fN:AV->Option (List AV)
 |.ag cs=>if cs.all one then some cs else none
 |.d (.ag cs)=>if(cs.map AV.d).all one then some (cs.map .d)else none
 |x=>if one x then some [x]else none
def aIh:AV->Option (List AV)
 |.ag cs=>some cs
 |.d (.ag cs)=>some (cs.map .d)
 |_=>none
def bBd:AV->Option (List AV)
 |.tp cs=>some cs
 |.d (.tp cs)=>some (cs.map .d)
 |_=>none
section
variable {F:Nat->Prop} {w:World} {ι:Nat->Option Nat}
def bVv{x:AV}{v:Value}(h1:one x=true)(h:V F w ι x v):v.oneCell'=true:=by
 cases h with
 |d x v h=>cases h<;>first|rfl|(simp[one]at h1;done)|simpa[one]using h1
 |ag cs vs hl h=>simp[one]at h1
 |tp cs vs hl h=>simp[one]at h1
 |un=>simp[one]at h1
 |any v=>simp[one]at h1
 |_=>rfl
def cells_one{v:Value}(h:v.oneCell'=true):v.cells=#[v]:=by cases v<;>first|rfl|(simp[CE]at h)
def aAb{cs:List D}{vs:Array Value}(h:∀(k:Nat) c v,cs[k]? = some c->vs[k]? = some v->VD F w c v) :
  ∀(k:Nat) c v,(cs.map AV.d)[k]? = some c->vs[k]? = some v->V F w ι c v:=by
 intro k c v hc hv
 rw[Aw]at hc
 obtain⟨d,hd,rfl⟩:=Aj.1 hc
 exact .d _ _ (h k d v hd hv)
def aNo{x:AV}{v:Value}{cs:List AV}(h:aIh x=some cs)(hv:V F w ι x v):∃vs,v=.agg vs/\cs.length=vs.size/\∀(k:Nat) c u,cs[k]? = some c->vs[k]? = some u->V F w ι c u:=by
 unfold aIh at h;split at h
 ·injection h with h;subst h;cases hv with|ag _ vs hl hh=>exact⟨vs,rfl,hl,hh⟩
 ·injection h with h;subst h;cases hv with|d _ _ hh=>cases hh with|ag _ vs hl hh=>exact⟨vs,rfl,by simpa using hl,aAb hh⟩
 ·cases h
def bWy{x:AV}{v:Value}{cs:List AV}(h:bBd x=some cs)(hv:V F w ι x v):∃vs,v=.tuple vs/\cs.length=vs.size/\∀(k:Nat) c u,cs[k]? = some c->vs[k]? = some u->V F w ι c u:=by
 unfold bBd at h;split at h
 ·injection h with h;subst h;cases hv with|tp _ vs hl hh=>exact⟨vs,rfl,hl,hh⟩
 ·injection h with h;subst h;cases hv with|d _ _ hh=>cases hh with|tp _ vs hl hh=>exact⟨vs,rfl,by simpa using hl,aAb hh⟩
 ·cases h
def CV(F:Nat->Prop)(w:World)(ι:Nat->Option Nat)(cs:List AV)(vs:Array Value):Prop :=
 cs.length=vs.size/\(∀(k:Nat) c u,cs[k]? = some c->vs[k]? = some u->V F w ι c u)/\∀u∈vs,u.oneCell'=true
def aHp{cs:List AV}{vs:Array Value}(h1:cs.all one=true)(hl:cs.length=vs.size)(h:∀(k:Nat) c u,cs[k]? = some c->vs[k]? = some u->V F w ι c u):CV F w ι cs vs:=by
 refine⟨hl,h,λu hu=>?_⟩;obtain⟨k,hk,rfl⟩:=Fm.1 hu;have hk':k<cs.length:=by omega
 exact bVv (List.all_eq_true.1 h1 _ (Ar hk')) (h k cs[k] vs[k] (Ab hk') (AD hk))
def aGz{x:AV}{v:Value}{cs:List AV}(h:fN x=some cs)(hv:V F w ι x v):CV F w ι cs v.cells:=by
 unfold fN at h;split at h
 ·split at h
  ·rename_i h1;injection h with h;subst h
   cases hv with|ag _ vs hl hh=>exact aHp h1 hl hh
  ·cases h
 ·split at h
  ·rename_i h1;injection h with h;subst h
   cases hv with|d _ _ hh=>cases hh with|ag _ vs hl hh=>exact aHp h1 (by simpa[Value.cells]using hl) (aAb hh)
  ·cases h
 ·split at h
  ·rename_i h1;injection h with h;subst h
   have h2:=bVv h1 hv;rw[cells_one h2];exact aHp (by simpa using h1) (by simp) λk c u hc hu=>by
    rcases k with _|k
    ·simp at hc hu;subst hc;subst hu;exact hv
    ·simp at hc
  ·cases h
def CV.get{cs:List AV}{vs:Array Value}(h:CV F w ι cs vs){k:Nat}{c:AV}(hc:cs[k]? = some c):∃u,vs[k]? = some u/\V F w ι c u:=by
 have hk:k<cs.length:=(Ah.1 hc).1;have hk':k<vs.size:=by have:=h.1;omega
 exact⟨vs[k],AD hk',h.2.1 k c _ hc (AD hk')⟩
def CV.step{F':Nat->Prop}{w':World}{ι':Nat->Option Nat}{cs:List AV}{vs:Array Value}(hs:Step F w ι F' w' ι')(h:CV F w ι cs vs):CV F' w' ι' cs vs :=
 ⟨h.1,λk c u hc hu=>(h.2.1 k c u hc hu).step hs,h.2.2⟩
end
def lay(cells:List AV)(off:Nat)(cs:List AV):List AV:=cells.take off++cs++cells.drop (off+cs.length)
def iY{cells cs:List AV}{off:Nat}(h:off+cs.length<=cells.length):(lay cells off cs).length=cells.length:=by simp[lay];omega
def zE{cells cs:List AV}{off:Nat}(h:off+cs.length<=cells.length)(k:Nat) :
  (lay cells off cs)[k]? = if off<=k/\k<off+cs.length then cs[k-off]? else cells[k]? := by
 unfold lay
 by_cases h1:off<=k
 ·by_cases h2:k<off+cs.length
  ·rw[Ad ⟨h1,h2⟩,Bh,Az (by simp;omega),Ax,BR (by omega),AJ (by omega)]
  ·rw[Ac (by omega),Az (by simp;omega),Ak,Ax,BR (by omega),Bt]
   congr 1;omega
 ·rw[Ac (by omega),Bh,AJ (by simp;omega),Bb,Ad (by omega)]
def bDs(off:Nat):∀(l:List Value) (j:Nat) (cs:Array Value),off+j+l.length<=cs.size ->
  ((l.zipIdx j).foldl (λcs (p:Value×Nat)=>cs.setIfInBounds (off+p.2) p.1) cs).size=cs.size /\
  ∀k,((l.zipIdx j).foldl (λcs (p:Value×Nat)=>cs.setIfInBounds (off+p.2) p.1) cs)[k]? = if off+j<=k/\k<off+j+l.length then l[k-(off+j)]? else cs[k]? := by
 intro l
 induction l with
 |nil=>intro j cs _;refine⟨rfl,λk=>?_⟩;rw[Ac (by simp only[Bq];omega)];rfl
 |cons v l ih =>
  intro j cs h
  simp only[AH]at h
  obtain⟨h1,h2⟩:=ih (j+1) (cs.setIfInBounds (off+j) v) (by simp;omega)
  refine⟨by simpa using h1,λk=>?_⟩
  simp only[List.zipIdx_cons,List.foldl_cons]
  rw[h2 k]
  by_cases hk:k=off+j
  ·subst hk
   rw[Ac (by omega),Ad ⟨Ap _,by simp⟩,Cx,Cj]
   exact Array.getElem?_setIfInBounds_self_of_lt (by omega)
  ·by_cases h3:off+(j+1)<=k/\k<off+(j+1)+l.length
   ·rw[Ad h3,Ad (by simp only[AH];omega)]
    rw[show k-(off+j)=(k-(off+(j+1)))+1 from by omega,Bg]
   ·rw[Ac h3,Ac (by simp only[AH];omega),Array.getElem?_setIfInBounds_ne (by omega)]
def nY(place:Nat->Option (Nat×Nat))(cells:List AV):List (Nat×AV)->Option (List AV)
 |[]=>some cells
 |(i,x)::rest =>
  match place i,fN x with
  |some (off,size),some cs=>if cs.length=size/\off+cs.length<=cells.length then nY place (lay cells off cs) rest else none
  |_,_=>none
section
variable {F:Nat->Prop} {w:World} {ι:Nat->Option Nat}
def cAf{cells cs:List AV}{vs us:Array Value}{off:Nat}(h:CV F w ι cells vs)(hc:CV F w ι cs us)(hf:off+cs.length<=cells.length) :
  CV F w ι (lay cells off cs) (us.zipIdx.foldl (λcs (p:Value×Nat)=>cs.setIfInBounds (off+p.2) p.1) vs):=by
 have hl:=h.1
 have hl':=hc.1
 obtain⟨h1,h2⟩:=bDs off us.toList 0 vs (by simp;omega)
 have he:(us.zipIdx.foldl (λcs (p:Value×Nat)=>cs.setIfInBounds (off+p.2) p.1) vs)=((us.toList.zipIdx 0).foldl (λcs (p:Value×Nat)=>cs.setIfInBounds (off+p.2) p.1) vs):=by rw[<-Array.foldl_toList];simp
 rw[he]
 simp only[Ce,BS]at h2
 refine⟨by rw[iY hf,h1];exact hl,λk c u hk hu=>?_,λu hu=>?_⟩
 ·rw[zE hf]at hk
  rw[h2 k]at hu
  by_cases hx:off<=k/\k<off+cs.length
  ·rw[Ad hx]at hk
   rw[Ad (by omega)]at hu
   exact hc.2.1 _ _ _ hk (by simpa using hu)
  ·rw[Ac hx]at hk
   rw[Ac (by omega)]at hu
   exact h.2.1 _ _ _ hk hu
 ·obtain⟨k,hk,rfl⟩:=Fm.1 hu
  have hu':=h2 k
  rw[AD hk]at hu'
  by_cases hx:off<=k/\k<off+us.size
  ·rw[Ad hx]at hu'
   exact hc.2.2 _ (by have:=Aq hu'.symm;simpa using this)
  ·rw[Ac hx]at hu'
   exact h.2.2 _ (C2 hu'.symm)
def aMy(place:Nat->Option (Nat×Nat)):∀(parts:List (Nat×AV)) (vals:List (Nat×Value)) (cells:List AV) (vs:Array Value) (out:List AV),CV F w ι cells vs ->
  parts.length=vals.length->(∀(k:Nat) p q,parts[k]? = some p->vals[k]? = some q->p.1=q.1/\V F w ι p.2 q.2)->nY place cells parts=some out ->
  ∃us,Instr.fill place vs vals=some us/\CV F w ι out us
 |[],[],cells,vs,out,h,_,_,he=>by simp only[nY,AU]at he;subst he;exact⟨vs,rfl,h⟩
 |(i,x)::rest,(i',v)::vals,cells,vs,out,h,hl,hp,he=>by
  obtain⟨hi,hv⟩:=hp 0 _ _ rfl rfl;simp only at hi hv;subst hi;simp only[nY]at he;cases hpl:place i with
  |none=>simp[hpl]at he
  |some os =>
   obtain⟨off,size⟩:=os;cases hcs:fN x with
   |none=>simp[hpl,hcs]at he
   |some cs =>
    simp only[hpl,hcs]at he;split at he
    ·rename_i hx;have hc:=aGz hcs hv;have hcl:=hc.1;have hsz:=h.1;obtain⟨us,hu,hcv⟩:=aMy place rest vals _ _ out (cAf h hc hx.2) (by simpa using hl) (λk p q a b=>hp (k+1) p q (by simpa using a) (by simpa using b)) he;refine⟨us,?_,hcv⟩;simp only[Instr.fill,hpl];have h3:(decide (v.cells.size≠size)||decide (off+v.cells.size>vs.size))=false:=by simp;omega
     rw[h3];exact hu
    ·cases he
 |[],_::_,_,_,_,_,hl,_,_=>by simp at hl
 |_::_,[],_,_,_,_,hl,_,_=>by simp at hl
end
def gI(P:Program)(t:TypeId):Option (List (Nat×Nat)) :=
 match P.underlying t with
 |some (.struct fs)=>fs.toList.mapM λf=>(P.info? f.type).map λi=>(f.offset,i.size)
 |_=>none
def tsz(P:Program)(t:TypeId):Option Nat:=(P.info? t).map (·.size)
def tby(P:Program)(t:TypeId):Option Nat:=(P.info? t).map (·.bytes)
def tz(P:Program)(t:TypeId):Option Value:=(P.info? t).bind (·.zero)
def dA(P:Program)(t:TypeId):Option Bool:=(P.underlying t).map λ|.struct _|.array _ _=>true|_=>false
def tel(P:Program)(t:TypeId):Option TypeId:=match P.underlying t with|some (.slice e)=>some e|_=>none
def aAj(P:Program)(t:TypeId):Option (Nat×TypeId):=match P.underlying t with|some (.array n e)=>some (n,e)|_=>none
def bWz(P:Program)(s:TypeId)(f:Nat):Option (Nat×Bool×Nat):=match P.underlying s with|some (.struct fs)=>(fs[f]?).bind λg=>(dA P g.type).bind λa=>(tsz P g.type).map λz=>(g.offset,a,z)|_=>none
def jJ(P:Program)(t:TypeId):Option IntKind:=match P.underlying t with|some (.int k)=>some k|_=>none
def tmp(P:Program)(t:TypeId):Option (TypeId×TypeId):=match P.underlying t with|some (.map k e)=>some (k,e)|_=>none
section
variable {P:Program} (w:World)
def run_sizeOf{t:TypeId}{n:Nat}(h:tsz P t=some n):(sizeOf t).run P w=.ok n w:=by obtain⟨i,hi,rfl⟩:=Aj.1 h;simp[sizeOf,typeInfo,hi]
def jI{t:TypeId}{z:Value}(h:tz P t=some z):(zeroValue t).run P w=.ok z w:=by obtain⟨i,hi,hz⟩:=Ae.1 h;simp[zeroValue,typeInfo,hi,hz]
def oZ{t:TypeId}{x:Bool}(h:dA P t=some x):(isAgg t).run P w=.ok x w:=by obtain⟨d,hd,hx⟩:=Aj.1 h;subst hx;cases d<;>simp[isAgg,run_underlying hd]
def sY:∀(fs:List Field) (ps:List (Nat×Nat)),(fs.mapM λf=>(P.info? f.type).map λi=>(f.offset,i.size))=some ps ->
  (fs.mapM (m:=Sem) λf=>do pure (f.offset,<-sizeOf f.type)).run P w=.ok ps w
 |[],ps,h=>by simp at h;subst h;simp
 |f::fs,ps,h=>by simp only[Ca,CY,Ae,DI,AU]at h;obtain⟨p,hp,r,hr,rfl⟩:=h;obtain⟨i,hi,rfl⟩:=Aj.1 hp;have ih:=sY fs r hr;simp only[Ca,A3,run_sizeOf w (show tsz P f.type=some i.size by simp[tsz,hi]),AX,Bz,ih]
def aPl{t:TypeId}{ps:List (Nat×Nat)}(h:gI P t=some ps):∃fs,P.underlying t=some (.struct fs) /\
  (fs.mapM (m:=Sem) λf=>do pure (f.offset,<-sizeOf f.type)).run P w=.ok ps.toArray w/\(fs.toList.mapM λf=>(P.info? f.type).map λi=>(f.offset,i.size))=some ps:=by
 unfold gI at h
 split at h
 ·rename_i fs hu
  refine⟨fs,hu,?_,h⟩
  rw[Array.mapM_eq_mapM_toList,Sem.run_map,sY w _ _ h]
  rfl
 ·cases h
end
def arith(op:BinOp)(k:IntKind)(a b:Int):Option D :=
 match op with
 |.add=>some (.i k (k.wrap (a+b)))
 |.sub=>some (.i k (k.wrap (a-b)))
 |.mul=>some (.i k (k.wrap (a*b)))
 |.quo=>if b=0 then none else some (.i k (k.wrap (a.tdiv b)))
 |.rem=>if b=0 then none else some (.i k (a.tmod b))
 |.and=>some (.i k (bits .and k a b))
 |.or=>some (.i k (bits .or k a b))
 |.xor=>some (.i k (bits .xor k a b))
 |.andNot=>some (.i k (bits .andNot k a b))
 |.eql=>some (.b (a==b))
 |.neq=>some (.b (a != b))
 |.lss=>some (.b (decide (a<b)))
 |.leq=>some (.b (decide (a<=b)))
 |.gtr=>some (.b (decide (b<a)))
 |.geq=>some (.b (decide (b<=a)))
 |_=>none
def kZ(op:BinOp)(k:IntKind)(a b:Int):Option D :=
 if b<0 then none else
 match op with
 |.shl=>some (.i k (k.wrap (a*2^(min b.toNat k.bits))))
 |.shr=>some (.i k (a.fdiv (2^(min b.toNat k.bits))))
 |_=>none
def kJ(op:BinOp)(boolT:Bool)(x y:AV):Option D :=
 match x,y with
 |.d (.i k a),.d (.i k' b)=>if op=.shl\/op=.shr then kZ op k a b else if k=k' then arith op k a b else none
 |.d (.b p),.d (.b q)=>if boolT then(match op with|.eql=>some (.b (p==q))|.neq=>some (.b (!(p==q)))|_=>none)else none
 |_,_=>none
def unA(op:UnOp)(x:AV):Option D :=
 match op,x with
 |.not,.d (.b p)=>some (.b !p)
 |.neg,.d (.i k a)=>some (.i k (k.wrap (0-a)))
 |.xor,.d (.i k a)=>some (.i k (bits .xor k (if k.signed then -1 else k.max) a))
 |_,_=>none
def bY(P:Program)(t:TypeId):Bool:=match P.underlying t with|some .bool=>true|_=>false
section
variable {P:Program} {F:Nat->Prop} {w:World} {ι:Nat->Option Nat}
def bHa{op:BinOp}{t:TypeId}{x y:AV}{u v:Value}{r:D}(h:kJ op (bY P t) x y=some r)(hx:V F w ι x u)(hy:V F w ι y v)(ox oy:Operand) :
  ∃z,((eqGuard op t ox oy u v).run P w=.ok () w/\(binOp op t u v).run P w=.ok z w)/\VD F w r z:=by
 unfold kJ at h
 split at h
 ·rename_i k a k' b
  cases hx with|d _ _ hx=>cases hx with|i =>
  cases hy with|d _ _ hy=>cases hy with|i =>
  by_cases hs:op=.shl\/op=.shr
  ·rw[Ad hs]at h
   unfold kZ at h
   by_cases hb:b<0
   ·simp[hb]at h
   ·rw[Ac hb]at h
    rcases hs with rfl|rfl<;>simp only[AU]at h<;>subst h
    ·exact⟨_,⟨by simp[eqGuard_shl],by simp[binOp_shl,Op.shift,hb]⟩,.i _ _⟩
    ·exact⟨_,⟨by simp[eqGuard_shr],by simp[binOp_shr,Op.shift,hb]⟩,.i _ _⟩
  ·rw[Ac hs]at h
   by_cases hk:k=k'
   ·subst hk
    rw[Ad rfl]at h
    have hg:(eqGuard op t ox oy (.int k a) (.int k b)).run P w=.ok () w:=by rw[eqGuard_at_int];simp
    cases op<;>simp only[arith,AU]at h<;>try (cases h;done)
    case quo =>
     by_cases hb:b=0
     ·simp[hb]at h
     ·simp only[hb,B2,AU]at h;subst h
      exact⟨_,⟨hg,by simp[binOp_quo,Op.intDiv,hb]⟩,.i _ _⟩
    case rem =>
     by_cases hb:b=0
     ·simp[hb]at h
     ·simp only[hb,B2,AU]at h;subst h
      exact⟨_,⟨hg,by simp[binOp_rem,Op.intDiv,hb]⟩,.i _ _⟩
    case add=>subst h;exact⟨_,⟨hg,by simp[binOp_add,Op.intArith]⟩,.i _ _⟩
    case sub=>subst h;exact⟨_,⟨hg,by simp[binOp_sub,Op.intArith]⟩,.i _ _⟩
    case mul=>subst h;exact⟨_,⟨hg,by simp[binOp_mul,Op.intArith]⟩,.i _ _⟩
    case and=>subst h;exact⟨_,⟨hg,by simp[binOp_and,intBits_and]⟩,.i _ _⟩
    case or=>subst h;exact⟨_,⟨hg,by simp[binOp_or,intBits_or]⟩,.i _ _⟩
    case xor=>subst h;exact⟨_,⟨hg,by simp[binOp_xor,intBits_xor]⟩,.i _ _⟩
    case andNot=>subst h;exact⟨_,⟨hg,by simp[binOp_andNot,intBits_andNot]⟩,.i _ _⟩
    case eql=>subst h;exact⟨_,⟨hg,by simp[binOp_eql]⟩,.b _⟩
    case neq=>subst h;exact⟨_,⟨hg,by simp[binOp_neq]⟩,.b _⟩
    case lss=>subst h;exact⟨_,⟨hg,by simp[binOp_lss]⟩,.b _⟩
    case leq=>subst h;exact⟨_,⟨hg,by simp[binOp_leq]⟩,.b _⟩
    case gtr=>subst h;exact⟨_,⟨hg,by simp[binOp_gtr]⟩,.b _⟩
    case geq=>subst h;exact⟨_,⟨hg,by simp[binOp_geq]⟩,.b _⟩
   ·rw[Ac hk]at h;cases h
 ·rename_i p q
  cases hx with|d _ _ hx=>cases hx with|b =>
  cases hy with|d _ _ hy=>cases hy with|b =>
  by_cases ht:bY P t=true
  ·rw[Ad ht]at h
   have hu:P.underlying t=some .bool:=by
    unfold bY at ht;split at ht
    ·assumption
    ·cases ht
   have hg:(eqGuard op t ox oy (.bool p) (.bool q)).run P w=.ok () w:=by rw[eqGuard_at_bool];simp
   split at h
   ·injection h with h;subst h;exact⟨_,⟨hg,run_eql_bool w t p q hu⟩,.b _⟩
   ·injection h with h;subst h;exact⟨_,⟨hg,run_neq_bool w t p q hu⟩,.b _⟩
   ·cases h
  ·rw[Ac ht]at h;cases h
 ·cases h
def bPt{op:UnOp}{x:AV}{u:Value}{r:D}(h:unA op x=some r)(hx:V F w ι x u):∃z,(Op.unary op u).run P w=.ok z w/\VD F w r z:=by
 unfold unA at h;split at h
 ·injection h with h;subst h
  cases hx with|d _ _ hx=>cases hx with|b=>exact⟨_,by simp[unary_not],.b _⟩
 ·injection h with h;subst h
  cases hx with|d _ _ hx=>cases hx with|i=>exact⟨_,by simp[unary_neg,Op.intArith],.i _ _⟩
 ·injection h with h;subst h
  cases hx with|d _ _ hx=>cases hx with|i=>exact⟨_,by simp[unary_xor,intBits_xor],.i _ _⟩
 ·cases h
def iV{t e:TypeId}(h:tel P t=some e):P.underlying t=some (.slice e):=by
 unfold tel at h;split at h
 ·injection h with h;subst h;assumption
 ·cases h
def aCg(w:World)(d:Nat)(t e:TypeId)(a:Option Addr)(n c n' c':Nat)(h:P.underlying t=some (.slice e)):(Op.equalIn (d+1) t (.slice a n c) (.slice none n' c')).run P w=.ok a.isNone w:=by cases a<;>simp[Op.equalIn,run_underlying h]
def bTw(w:World)(t e:TypeId)(a:Option Addr)(n c n' c':Nat)(h:P.underlying t=some (.slice e))(ox oy:Operand) :
  ((eqGuard .eql t ox oy (.slice a n c) (.slice none n' c')).run P w=.ok () w/\(binOp .eql t (.slice a n c) (.slice none n' c')).run P w=.ok (.bool a.isNone) w) /\
  ((eqGuard .neq t ox oy (.slice a n c) (.slice none n' c')).run P w=.ok () w/\(binOp .neq t (.slice a n c) (.slice none n' c')).run P w=.ok (.bool (!a.isNone)) w):=by
 refine⟨⟨by rw[eqGuard_at_slice];simp,?_⟩,⟨by rw[eqGuard_at_slice];simp,?_⟩⟩
 ·simp only[binOp];simp[Op.equal,Op.maxDepth,aCg w 9999 t e a n c n' c' h]
 ·simp only[binOp];simp[Op.equal,Op.maxDepth,aCg w 9999 t e a n c n' c' h]
end
def tai(P:Program)(t:TypeId):Option IntKind:=match P.underlying t with
 |some (.array 2 e)=>if tsz P e=some 1 then jJ P e else none
 |_=>none
def bNp(op:BinOp)(tk:Option IntKind)(x y:AV):Option D:=match op,tk with
 |.eql,some k=>(aIh x).bind λcs=>(aIh y).bind λds=>match cs,ds with
  |[.d (.i k1 a),.d (.i k2 b)],[.d (.i k3 c),.d (.i k4 d)]=>if k1=k/\k2=k/\k3=k/\k4=k then some (.b (a==c&&b==d))else none
  |_,_=>none
 |_,_=>none
def bPv{P:Program}(w:World){t e:TypeId}{k:IntKind}(ht:P.underlying t=some (.array 2 e))(he:P.underlying e=some (.int k))(hs:tsz P e=some 1)(a b c d:Int)(ox oy:Operand) :
  (eqGuard .eql t ox oy (.agg #[.int k a,.int k b]) (.agg #[.int k c,.int k d])).run P w=.ok () w/\(binOp .eql t (.agg #[.int k a,.int k b]) (.agg #[.int k c,.int k d])).run P w=.ok (.bool (a==c&&b==d)) w:=by
 have p0:∀(x y:Int),(part e #[.int k x,.int k y] 0).run P w=.ok (.int k x) w:=λx y=>by simp[part,isAgg,run_underlying he]
 have p1:∀(x y:Int),(part e #[.int k x,.int k y] 1).run P w=.ok (.int k y) w:=λx y=>by simp[part,isAgg,run_underlying he]
 have q:∀(n:Nat) (x y:Int),(Op.eqGuardIn (n+1) e (.int k x) (.int k y)).run P w=.ok false w:=λn x y=>by simp[Op.eqGuardIn,run_underlying he]
 have r:∀(n:Nat) (x y:Int),(Op.equalIn (n+1) e (.int k x) (.int k y)).run P w=.ok (x==y) w:=λn x y=>by simp[Op.equalIn,run_underlying he]
 have q':=q 9998
 have r':=r 9998
 constructor
 ·have h0:(Op.eqGuardIn Op.maxDepth t (.agg #[.int k a,.int k b]) (.agg #[.int k c,.int k d])).run P w=.ok false w:=by rw[show Op.maxDepth=9998+2 from rfl,Op.eqGuardIn];simp[A3,run_underlying ht,AX,run_sizeOf w hs,EK,Std.Legacy.Range.size,List.range'_succ,p0,p1,q']
  simp only[eqGuard]
  cases P.eqGuardType P.depth t<;>simp[h0]
 ·rw[run_eql_struct]
  rw[show 10000=9998+2 from rfl,Op.equalIn]
  cases h1:(a==c)<;>cases h2:(b==d)<;>simp[A3,run_underlying ht,AX,run_sizeOf w hs,EK,Std.Legacy.Range.size,List.range'_succ,p0,p1,r',h1,h2]
def bHb{P:Program}{F:Nat->Prop}{w:World}{ι:Nat->Option Nat}{op:BinOp}{t:TypeId}{x y:AV}{u v:Value}{r:D}(h:bNp op (tai P t) x y=some r)(hx:V F w ι x u)(hy:V F w ι y v)(ox oy:Operand) :
  ∃z,((eqGuard op t ox oy u v).run P w=.ok () w/\(binOp op t u v).run P w=.ok z w)/\VD F w r z:=by
 unfold bNp at h
 split at h
 case h_2=>cases h
 rename_i k ht
 unfold tai at ht
 split at ht
 case h_2=>cases ht
 rename_i e hu
 split at ht
 case isFalse=>cases ht
 rename_i hs
 have he:P.underlying e=some (.int k):=by
  unfold jJ at ht;split at ht
  ·injection ht with ht;subst ht;assumption
  ·cases ht
 obtain⟨cs,hcs,h1⟩:=Ae.1 h
 obtain⟨ds,hds,h2⟩:=Ae.1 h1
 clear h h1
 obtain⟨us,rfl,hul,huv⟩:=aNo hcs hx
 obtain⟨vs,rfl,hvl,hvv⟩:=aNo hds hy
 split at h2
 case h_2=>cases h2
 rename_i k1 a k2 b k3 c k4 d
 split at h2
 case isFalse=>cases h2
 rename_i hk
 obtain⟨rfl,rfl,rfl,rfl⟩:=hk
 injection h2 with h2;subst h2
 have two:∀(l:Array Value) (k:IntKind) (a b:Int),2=l.size->(∀(i:Nat) c u,[AV.d (.i k a),AV.d (.i k b)][i]? = some c->l[i]? = some u->V F w ι c u)->l=#[.int k a,.int k b]:=by
  intro l k a b hl h;have h0:=h 0 _ l[0] rfl (AD (by omega));have h1:=h 1 _ l[1] rfl (AD (by omega));apply Array.ext
  ·simp;omega
  ·intro i hi hj;rcases i with _|_|i
   ·generalize l[0]=q at h0;cases h0 with|d _ _ h0=>cases h0;rfl
   ·generalize l[1]=q at h1;cases h1 with|d _ _ h1=>cases h1;rfl
   ·omega
 have e1:=two us _ a b hul huv
 have e2:=two vs _ c d hvl hvv
 subst e1;subst e2
 exact⟨_,bPv w hu he hs a b c d ox oy,.b _⟩
def qV:AV->Option (Option Bool)
 |.nil=>some (some true)
 |.own ..=>some (some false)
 |.d (.sl [])|.fd []=>some none
 |.d (.sl _)|.fd _=>some (some false)
 |_=>none
def bCt(op:BinOp)(b:Option Bool):Option AV :=
 match op,b with
 |.eql,some t=>some (.d (.b t))
 |.neq,some t=>some (.d (.b !t))
 |.eql,none=>some .ub
 |.neq,none=>some .ub
 |_,_=>none
def aRi(op:BinOp)(te:Option TypeId)(x y:AV):Option AV :=
 match te,y with
 |some _,.nil=>(qV x).bind (bCt op)
 |_,_=>none
def fB(sz:Nat)(els:List (List D)):Bool:=match els.head? with|some cs=>cs.length==sz|none=>true
def qQ(sz:Nat)(x:AV)(l h:Int)(full:Bool):Option AV :=
 if 0<=l/\l<=h then
  match x with
  |.d (.sl els)|.fd els=>if h<=els.length/\fB sz els=true then some (if full then .fd ((els.take h.toNat).drop l.toNat)else .d (.sl ((els.take h.toNat).drop l.toNat)))else none
  |.nil=>if h<=0 then some (.d (.sl []))else none
  |.own id off len sz'=>if h<=len/\sz'=sz then(if l=h then some (.d (.sl []))else some (.own id (off+l.toNat) (h-l).toNat sz))else none
  |_=>none
 else none
def aIc:AV->Option Int
 |.d (.sl els)=>some els.length
 |.fd els=>some els.length
 |.nil=>some 0
 |.own _ _ len _=>some len
 |_=>none
section
variable {P:Program} {F:Nat->Prop} {w:World} {ι:Nat->Option Nat}
def bKh{x:AV}{v:Value}{b:Option Bool}(h:qV x=some b)(hv:V F w ι x v):∃ad n c,v=.slice ad n c/\(b=none\/b=some ad.isNone):=by
 unfold qV at h;split at h<;>first|(cases h;done)|(injection h with h;subst h)
 ·cases hv;exact⟨_,_,_,rfl,.inr rfl⟩
 ·cases hv;exact⟨_,_,_,rfl,.inr rfl⟩
 ·cases hv with|d _ _ hv=>cases hv with
  |sl0=>exact⟨_,_,_,rfl,.inl rfl⟩
  |sl=>exact⟨_,_,_,rfl,.inl rfl⟩
 ·cases hv;exact⟨_,_,_,rfl,.inl rfl⟩
 ·rename_i els hne;cases hv with|d _ _ hv=>cases hv with
  |sl0=>exact(hne rfl).elim
  |sl=>exact⟨_,_,_,rfl,.inr rfl⟩
 ·rename_i els hne;cases hv with|fd _ ad n hv=>cases hv with
  |sl0=>exact(hne rfl).elim
  |sl=>exact⟨_,_,_,rfl,.inr rfl⟩
def bGy{op:BinOp}{t:TypeId}{x y r:AV}{u v:Value}(h:aRi op (tel P t) x y=some r)(hx:V F w ι x u)(hy:V F w ι y v)(ox oy:Operand) :
  ∃z,((eqGuard op t ox oy u v).run P w=.ok () w/\(binOp op t u v).run P w=.ok z w)/\V F w ι r z:=by
 unfold aRi at h
 split at h
 ·rename_i e he
  obtain⟨b,hb,h⟩:=Ae.1 h
  obtain⟨ad,n,c,rfl,hb'⟩:=bKh hb hx
  cases hy
  obtain⟨h1,h2⟩:=bTw w t e ad n c 0 0 (iV he) ox oy
  unfold bCt at h
  split at h<;>first|(cases h;done)|(injection h with h;subst h)
  ·rcases hb' with hb'|hb'
   ·cases hb'
   ·injection hb' with hb';subst hb';exact⟨_,h1,.d _ _ (.b _)⟩
  ·rcases hb' with hb'|hb'
   ·cases hb'
   ·injection hb' with hb';subst hb';exact⟨_,h2,.d _ _ (.b _)⟩
  ·exact⟨_,h1,.ub _⟩
  ·exact⟨_,h2,.ub _⟩
 ·cases h
def mQ{els:List (List D)}{v:Value}(h:VD F w (.sl els) v):∃ad c,v=.slice ad els.length c/\els.length<=c:=by
 cases h with
 |sl0 ad c=>exact⟨ad,c,rfl,Nat.zero_le _⟩
 |sl _ ad n c sz f hn hc=>subst hn;exact⟨_,_,rfl,hc⟩
def bJt{x:AV}{v:Value}{n:Int}(h:aIc x=some n)(hv:V F w ι x v):∃ad l c,v=.slice ad l c/\n=l:=by
 unfold aIc at h;split at h<;>first|(cases h;done)|(injection h with h;subst h)
 ·cases hv with|d _ _ hh=>obtain⟨ad,c,rfl,_⟩:=mQ hh;exact⟨_,_,_,rfl,rfl⟩
 ·cases hv with|fd _ ad n hh=>obtain⟨ad',c,he,_⟩:=mQ hh;injection he with _ h2 _;exact⟨_,_,_,rfl,by rw[h2]⟩
 ·cases hv;exact⟨_,_,_,rfl,rfl⟩
 ·cases hv;exact⟨_,_,_,rfl,rfl⟩
def bOm{els:List (List D)}{ad:Option Addr}{n c:Nat}{sz:Nat}(h:VD F w (.sl els) (.slice ad n c))(hsz:∀cs∈els,cs.length=sz)(l k m:Nat)(hl:l<=k)(hk:k<=n)(hm:k<=m) :
  VD F w (.sl ((els.take k).drop l)) (.slice (if m=l then ad else ad.map (·.add (l*sz))) (k-l) (m-l)):=by
 by_cases he:l=k
 ·subst he
  have:(els.take l).drop l=[]:=by simp
  rw[this,Cx]
  exact .sl0 _ _
 ·cases h with
  |sl0=>omega
  |sl _ a _ _ sz' f hn hc hsz' hF hcell hel =>
   have hpos:0<els.length:=by omega
   have hes:sz'=sz:=by have:=Ar hpos;rw[<-hsz' _ this,hsz _ this]
   subst hes
   rw[Ac (by omega)]
   have hlen:((els.take k).drop l).length=k-l:=by simp;omega
   refine .sl _ _ _ _ sz' (λj=>f (l*sz'+j)) hlen.symm (by omega) (λcs hcs=>hsz cs (List.mem_of_mem_take (List.mem_of_mem_drop hcs))) (by rw[block_add];exact hF) (λj hj=>?_) (λj i cs d hj hi=>?_)
   ·rw[add_add]
    refine hcell _ ?_
    have h1:l*sz'+(k-l)*sz'=k*sz':=by rw[<-By];congr 1;omega
    have h2:k*sz'<=n*sz':=A8 _ hk
    omega
   ·rw[Bt,Bb]at hj
    split at hj
    ·have:=hel (l+j) i cs d hj hi
     rw[By,Ed]at this
     exact this
    ·cases hj
end
section
variable {P:Program} {F:Nat->Prop} {w:World} {ι:Nat->Option Nat}
def rV{els:List (List D)}{v:Value}(h:V F w ι (.fd els) v):∃ad,v=.slice ad els.length els.length/\VD F w (.sl els) (.slice ad els.length els.length):=by
 cases h with
 |fd _ ad n hh =>
  obtain⟨ad',c,he,_⟩:=mQ hh;injection he with h1 h2 h3
  subst h2;exact⟨ad,rfl,hh⟩
def aHk{els:List (List D)}{v:Value}{sz:Nat}(h:VD F w (.sl els) v)(h0:∀cs,els.head? = some cs->cs.length=sz):∀cs∈els,cs.length=sz:=by
 cases h with
 |sl0=>intro cs hcs;cases hcs
 |sl _ ad n c sz' f hn hc hsz =>
  intro cs hcs;cases els with
  |nil=>cases hcs
  |cons a l =>
   have:=h0 a rfl;rw[hsz cs hcs,<-hsz a (Av ..),this]
def tX{sz:Nat}{els:List (List D)}(h:fB sz els=true):∀cs,els.head? = some cs->cs.length=sz:=by intro cs hcs;simpa[fB,hcs]using h
def aPh{x:AV}{v:Value}{l h:Int}{full:Bool}{sz:Nat}{r:AV}(he:qQ sz x l h full=some r)(hv:V F w ι x v) :
  ∃ad n c,v=.slice ad n c/\0<=l/\l<=h/\h<=n/\n<=c/\∀m:Nat,(if full then m=h.toNat else m=c)->V F w ι r (.slice (if m=l.toNat then ad else ad.map (·.add (l.toNat*sz))) (h.toNat-l.toNat) (m-l.toNat)):=by
 unfold qQ at he
 split at he
 ·rename_i hlh
  split at he
  ·rename_i els
   split at he
   ·rename_i hn
    injection he with he;subst he
    cases hv with|d _ _ hh =>
    obtain⟨ad,c,rfl,hc⟩:=mQ hh
    refine⟨ad,_,c,rfl,hlh.1,hlh.2,hn.1,hc,λm hm=>?_⟩
    have hcut:=bOm hh (aHk hh (tX hn.2)) l.toNat h.toNat m (by omega) (by have:=hn.1;omega) (by have:=hn.1;split at hm<;>omega)
    cases full
    ·exact .d _ _ hcut
    ·simp only[B1]at hm;subst hm
     exact .fd _ _ _ hcut
   ·cases he
  ·rename_i els
   split at he
   ·rename_i hn
    injection he with he;subst he
    obtain⟨ad,rfl,hh⟩:=rV hv
    refine⟨ad,_,_,rfl,hlh.1,hlh.2,hn.1,Ap _,λm hm=>?_⟩
    have hcut:=bOm hh (aHk hh (tX hn.2)) l.toNat h.toNat m (by omega) (by have:=hn.1;omega) (by have:=hn.1;split at hm<;>omega)
    cases full
    ·exact .d _ _ hcut
    ·simp only[B1]at hm;subst hm
     exact .fd _ _ _ hcut
   ·cases he
  ·split at he
   ·injection he with he;subst he
    cases hv
    refine⟨none,0,0,rfl,hlh.1,hlh.2,by omega,Ap _,λm _=>?_⟩
    have:h.toNat-l.toNat=0:=by omega
    rw[this]
    exact .d _ _ (.sl0 _ _)
   ·cases he
  ·rename_i id off len sz'
   split at he
   ·rename_i hn
    obtain⟨hn,rfl⟩:=hn
    cases hv with|own _ _ _ _ b cap cur e hι hb hcap hl hm' =>
    refine⟨_,_,_,rfl,hlh.1,hlh.2,hn,hl,λm hm=>?_⟩
    split at he
    ·injection he with he;subst he
     have:h.toNat-l.toNat=0:=by omega
     rw[this]
     exact .d _ _ (.sl0 _ _)
    ·injection he with he;subst he
     have hm1:h.toNat<=m:=by split at hm<;>omega
     have hm2:m<=cap:=by split at hm<;>omega
     rw[Ac (by omega),A4,oJ,<-By,show h.toNat-l.toNat=(h-l).toNat from by omega]
     refine .own _ _ _ _ b _ cur e hι hb (An (A8 _ ?_) hcap) (by omega) (by omega)
     omega
   ·cases he
  ·cases he
 ·cases he
end
def iZ:AV->Option Int
 |.d (.i _ n)=>some n
 |_=>none
def aQq(x:Option Operand)(J:Nat->AV)(dflt:Int):Option Int :=
 match x with
 |none=>some dflt
 |some o=>iZ (oev J o)
def zV:AV->Option Bool
 |.d (.b x)=>some x
 |_=>none
def aBj(off:Nat):AV->Option AV
 |.ptr id o=>some (.ptr id (o+off))
 |.fp cs=>some (.fp (cs.drop off))
 |_=>none
def xO(sz:Nat)(k:Int):AV->Option AV
 |.d (.sl els)|.fd els=>if 0<=k then(els[k.toNat]?).bind λcs=>if cs.length=sz then some (.fp cs)else none else none
 |.own id off len sz'=>if 0<=k/\k<len/\sz'=sz then some (.ptr id ((off+k.toNat)*sz))else none
 |_=>none
def aBg(sz m:Nat)(k:Int):AV->Option AV
 |.ptr id o=>if 0<=k/\k<m then some (.ptr id (o+k.toNat*sz))else none
 |.fp cs=>if 0<=k/\k<m then some (.fp (cs.drop (k.toNat*sz)))else none
 |_=>none
def plc(P:Program)(t:TypeId):Option (Nat->Option (Nat×Nat)):=match gI P t with
 |some fl=>some (fl[·]?)
 |none=>(aAj P t).bind λp=>(tsz P p.2).map λsz=>λi=>some (i*sz,sz)
def pDd:AV->Option D
 |.d x=>some x
 |_=>none
def aAz:AV->Option D
 |.d x=>some x
 |.ag cs=>(cs.mapM pDd).map .ag
 |_=>none
def yX(P:Program)(t:TypeId)(name:String):Option FuncId :=
 (P.info? t).bind λi=>(i.methods.find? (·.name==name)).bind λm=>match m.path.toList,m.func,P.underlying t with
  |[],some (f,false),some u=>match u with
   |.pointer _=>none
   |_=>some f
  |_,_,_=>none
def eO(x:Option AV):Option (AV×Option HO):=x.map λv=>(v,none)
def aZa(P:Program)(J:Nat->AV):Callee->List Operand->List TypeId->Option AV
 |.builtin .len,[x],[t]=>(tel P t).bind λ_=>(aIc (oev J x)).map λn=>.d (.i .i64 n)
 |.builtin .max,[x,y],_=>match oev J x,oev J y with|.d (.i k a),.d (.i _ b)=>some (.d (.i k (if b>a then b else a)))|_,_=>none
 |.builtin .min,[x,y],_=>match oev J x,oev J y with|.d (.i k a),.d (.i _ b)=>some (.d (.i k (if b<a then b else a)))|_,_=>none
 |_,_,_=>none
def bMq:AV->Option AV
 |.ptr id o=>some (.ptr id o)
 |.fp cs=>some (.fp cs)
 |_=>none
def nev(P:Program)(op:Op)(J:Nat->AV)(n:Nat):Option (AV×Option HO) :=
 match op with
 |.move x|.assign x=>some (oev J x,none)
 |.pick c a b=>eO ((zV (oev J c)).map λt=>if t then oev J a else oev J b)
 |.alloc e=>(tz P e).map λz=>(.ptr n 0,some (.cells e (z.cells.toList.map cv1)))
 |.box e x=>(fN (oev J x)).map λcs=>(.ptr n 0,some (.cells e cs))
 |.build t ps=>eO ((tz P t).bind λz=>(plc P t).bind λpl=>if z.cells.all CE then
   (nY pl (z.cells.toList.map cv1) (ps.toList.map λp=>(p.1,oev J p.2))).map .ag else none)
 |.buildSlice t len ps=>(tel P t).bind λe=>(tsz P e).bind λsz=>(tz P e).bind λz =>
   if z.cells.size=sz/\0<sz/\len*sz<=16777216/\z.cells.all CE=true then
    (nY (λi=>some (i*sz,sz)) ((AB len (z.cells.toList.map cv1)).flatten) (ps.toList.map λp=>(p.1,oev J p.2))).map λcs=>(.own n 0 len sz,some (.cells e cs))
   else none
 |.makeSlice t l c=>(tel P t).bind λe=>(tsz P e).bind λsz=>(tz P e).bind λz=>(tby P e).bind λby_=>(iZ (oev J l)).bind λa=>(iZ (oev J c)).bind λb =>
   if z.cells.size=sz/\0<sz/\z.cells.all CE=true/\0<=a/\a<=b/\(by_:Int)*b<=281474976710656/\b<=9223372036854775807 then
    some (.own n 0 a.toNat sz,some (.cells e (AB a.toNat (z.cells.toList.map cv1)).flatten))
   else none
 |.binOp op t x y _=>eO (match aRi op (tel P t) (oev J x) (oev J y)with|some r=>some r|none=>match kJ op (bY P t) (oev J x) (oev J y)with|some r=>some (.d r)|none=>(bNp op (tai P t) (oev J x) (oev J y)).map .d)
 |.unOp op _ x=>eO ((unA op (oev J x)).map .d)
 |.convert s t x=>eO ((jJ P t).bind λk=>(iZ (oev J x)).bind λm=>if(P.underlying s).isSome then some (.d (.i k (k.wrap m)))else none)
 |.fieldAddr s x f=>eO ((gI P s).bind λfl=>(fl[f]?).bind λp=>if p.2=0 then none else aBj p.1 (oev J x))
 |.indexAddr t x i=>eO ((iZ (oev J i)).bind λk=>match tel P t with
   |some e=>(tsz P e).bind λsz=>xO sz k (oev J x)
   |none=>(aAj P t).bind λp=>(tsz P p.2).bind λsz=>aBg sz p.1 k (oev J x))
 |.extract x i=>eO ((bBd (oev J x)).bind λvs=>vs[i]?)
 |.slice t x lo hi mx=>eO ((tel P t).bind λe=>(tsz P e).bind λsz=>(aIc (oev J x)).bind λn=>(aQq lo J 0).bind λl=>(aQq hi J n).bind λh =>
   match mx with
   |none=>qQ sz (oev J x) l h false
   |some y=>(iZ (oev J y)).bind λm=>if m=h/\hi.isSome then qQ sz (oev J x) l h true else none)
 |.call c=>eO (aZa P J c.callee c.args.toList c.argTypes.toList)
 |.field s x f=>eO ((bWz P s f).bind λp=>(aIh (oev J x)).bind λcs=>if p.2.1 then(if p.1+p.2.2<=cs.length then some (.ag ((cs.drop p.1).take p.2.2))else none)else cs[p.1]?)
 |.makeFunc (.func f) fst cs=>if fst.isEmpty then eO (some (.fn f (cs.toList.map (oev J))))else none
 |.index t x i=>eO ((aAj P t).bind λp=>(tsz P p.2).bind λsz=>(dA P p.2).bind λag=>(iZ (oev J i)).bind λk=>(aIh (oev J x)).bind λcs =>
   if 0<=k/\k<p.1 then(if ag then(if k.toNat*sz+sz<=cs.length then some (.ag ((cs.drop (k.toNat*sz)).take sz))else none)else cs[k.toNat*sz]?)else none)
 |.nilCheck x=>eO (bMq (oev J x))
 |.makeMap t r=>(tmp P t).bind λp=>(jJ P p.1).bind λk=>(match r with|none=>some 0|some x=>iZ (oev J x)).map λ_=>(.mp n,some (.map k []))
 |.range t x=>(tmp P t).bind λ_=>match oev J x with
  |.d (.mp k ks ds)=>some (.ptr n 0,some (.iter k none (ks.zip ds)))
  |_=>none
 |.makeInterface t x=>eO ((P.underlying t).bind λu=>match u with
   |.interface _=>none
   |_=>(aAz (oev J x)).map λd=>.d (.iff t d))
 |_=>none
def aRq:∀(l:List AV) (r:List D),l.mapM pDd=some r->l=r.map .d
 |[],r,h=>by simp at h;subst h;rfl
 |x::l,r,h=>by
  rw[Ca]at h;obtain⟨d,hd,h⟩:=Ae.1 h;obtain⟨r',hr,h⟩:=Ae.1 h;injection h with h;subst h
  rw[aRq l r' hr];cases x<;>simp[pDd]at hd;subst hd;rfl
def bXn{F:Nat->Prop}{w:World}{ι:Nat->Option Nat}{x:AV}{v:Value}{d:D}(h:aAz x=some d)(hv:V F w ι x v):VD F w d v:=by
 unfold aAz at h;split at h
 ·injection h with h;subst h;cases hv with|d _ _ h=>exact h
 ·obtain⟨r,hr,rfl⟩:=Aj.1 h;have:=aRq _ _ hr;subst this;cases hv with|ag _ vs hl hh =>
  refine .ag r vs (by simpa using hl) λk c u hc hu=>?_
  have:=hh k (.d c) u (by rw[Aw,hc];rfl) hu;cases this with|d _ _ h=>exact h
 ·cases h
def bGz{P:Program}{t:TypeId}{name:String}{f:FuncId}(h:yX P t name=some f)(v:Value)(args:Array Value)(w:World):(callMethod (.iface t v) name args).run P w=(callFunc f (#[v]++args)).run P w:=by
 unfold yX at h;obtain⟨i,hi,h⟩:=Ae.1 h;obtain⟨m,hm,h⟩:=Ae.1 h;split at h
 ·rename_i f u hp hf hu;split at h
  ·cases h
  ·rename_i hnp;injection h with h;subst h
   simp only[callMethod,A3,run_program,AX];obtain⟨n,hn⟩:∃n,P.types.size+Made.depth=n+1:=⟨P.types.size+99,rfl⟩;have hti:(typeInfo t).run P w=.ok i w:=by simp only[typeInfo,A3,run_program,AX,hi,Bz]
   rw[hn];simp only[method,A3,hti,AX,hm,hp,follow,Bz,hf,receiverAt,run_underlying hu];cases u<;>first|exact absurd rfl (hnp _)|simp[Place.get]
 ·cases h
section
variable {P:Program} {F:Nat->Prop} {w:World} {ι:Nat->Option Nat}
def mD{x:AV}{v:Value}{n:Int}(h:iZ x=some n)(hv:V F w ι x v):∃k,v=.int k n:=by
 unfold iZ at h;split at h
 ·injection h with h;subst h;cases hv with|d _ _ hv=>cases hv;exact⟨_,rfl⟩
 ·cases h
def bEq{x:AV}{v:Value}{n:Bool}(h:zV x=some n)(hv:V F w ι x v):v=.bool n:=by
 unfold zV at h;split at h
 ·injection h with h;subst h;cases hv with|d _ _ hv=>cases hv;rfl
 ·cases h
def aEi{t:TypeId}{p:Nat×TypeId}(h:aAj P t=some p):P.underlying t=some (.array p.1 p.2):=by
 unfold aAj at h;split at h
 ·injection h with h;subst h;assumption
 ·cases h
def bFr{t:TypeId}{k:IntKind}(h:jJ P t=some k):P.underlying t=some (.int k):=by
 unfold jJ at h;split at h
 ·injection h with h;subst h;assumption
 ·cases h
def bLs{off:Nat}{x r:AV}{v:Value}(h:aBj off x=some r)(hv:V F w ι x v):∃ad,v=.pointer (some ad)/\V F w ι r (.pointer (some (ad.add off))):=by
 unfold aBj at h;split at h
 ·injection h with h;subst h
  cases hv with|ptr id o b hι=>exact⟨_,rfl,by rw[oJ];exact .ptr _ _ _ hι⟩
 ·injection h with h;subst h
  cases hv with|fp cs ad f hF hcell hel =>
  refine⟨_,rfl,.fp _ _ (λj=>f (off+j)) (by rw[block_add];exact hF) (λj hj=>?_) (λk c hk=>?_)⟩
  ·rw[add_add];exact hcell _ (by simp at hj;omega)
  ·rw[Bt]at hk;exact hel _ _ hk
 ·cases h
def bAv{els:List (List D)}{ad:Option Addr}{n c k:Nat}{cs:List D}(h:VD F w (.sl els) (.slice ad n c))(hk:els[k]? = some cs)(ι:Nat->Option Nat) :
  ∃a,ad=some a/\k<n/\V F w ι (.fp cs) (.pointer (some (a.add (k*cs.length)))):=by
 have hlt:k<els.length:=(Ah.1 hk).1
 cases h with
 |sl0=>simp at hk
 |sl _ a _ _ sz f hn hc hsz hF hcell hel =>
  have hs:cs.length=sz:=hsz cs (Aq hk)
  refine⟨a,rfl,by omega,?_⟩
  subst hs
  refine .fp _ _ (λj=>f (k*cs.length+j)) (by rw[block_add];exact hF) (λj hj=>?_) (λj c hj=>hel k j cs c hk hj)
  rw[add_add]
  refine hcell _ ?_
  have h1:(k+1)*cs.length<=n*cs.length:=A8 _ (by omega)
  rw[By,CZ]at h1
  omega
def bKy{sz:Nat}{k:Int}{x r:AV}{v:Value}(h:xO sz k x=some r)(hv:V F w ι x v) :
  ∃a n c,v=.slice (some a) n c/\0<=k/\k<n/\V F w ι r (.pointer (some (a.add (k.toNat*sz)))):=by
 unfold xO at h
 split at h
 ·rename_i els
  split at h
  ·rename_i hk0
   obtain⟨cs,hcs,h⟩:=Ae.1 h
   split at h
   ·rename_i hl
    injection h with h;subst h;subst hl
    cases hv with|d _ _ hh =>
    obtain⟨ad,c,rfl,_⟩:=mQ hh
    obtain⟨a,rfl,h1,h2⟩:=bAv hh hcs ι
    exact⟨a,_,_,rfl,hk0,by omega,h2⟩
   ·cases h
  ·cases h
 ·rename_i els
  split at h
  ·rename_i hk0
   obtain⟨cs,hcs,h⟩:=Ae.1 h
   split at h
   ·rename_i hl
    injection h with h;subst h;subst hl
    obtain⟨ad,rfl,hh⟩:=rV hv
    obtain⟨a,rfl,h1,h2⟩:=bAv hh hcs ι
    exact⟨a,_,_,rfl,hk0,by omega,h2⟩
   ·cases h
  ·cases h
 ·split at h
  ·rename_i hk
   obtain⟨h0,h1,rfl⟩:=hk
   injection h with h;subst h
   cases hv with|own id off len _ b cap cur e hι hb hcap hl hm =>
   refine⟨_,_,_,rfl,h0,by omega,?_⟩
   rw[oJ,<-By]
   exact .ptr _ _ _ hι
  ·cases h
 ·cases h
def bKz{sz m:Nat}{k:Int}{x r:AV}{v:Value}(h:aBg sz m k x=some r)(hv:V F w ι x v) :
  ∃a,v=.pointer (some a)/\0<=k/\k<m/\V F w ι r (.pointer (some (a.add (k.toNat*sz)))):=by
 unfold aBg at h
 split at h
 ·split at h
  ·rename_i hk
   injection h with h;subst h
   cases hv with|ptr id o b hι=>exact⟨_,rfl,hk.1,hk.2,by rw[oJ];exact .ptr _ _ _ hι⟩
  ·cases h
 ·split at h
  ·rename_i hk
   injection h with h;subst h
   cases hv with|fp cs ad f hF hcell hel =>
   refine⟨_,rfl,hk.1,hk.2,.fp _ _ (λj=>f (k.toNat*sz+j)) (by rw[block_add];exact hF) (λj hj=>?_) (λj c hc=>?_)⟩
   ·rw[add_add];exact hcell _ (by simp at hj;omega)
   ·rw[Bt]at hc;exact hel _ _ hc
  ·cases h
 ·cases h
def eI{x:Option AV}{av:AV}{ho:Option HO}(h:eO x=some (av,ho)):x=some av/\ho=none:=by
 unfold eO at h;obtain⟨v,hv,h⟩:=Aj.1 h;injection h with h1 h2
 subst h1;exact⟨hv,h2.symm⟩
def aCn{t:TypeId}{z:Value}{fs:Array Field}(hz:tz P t=some z)(hu:P.underlying t=some (.struct fs))(ps:Array (Nat×Nat))(parts:Array (Nat×Value))(cells:Array Value)
  (hm:(fs.mapM (m:=Sem) λf=>do pure (f.offset,<-sizeOf f.type)).run P w=.ok ps w) (hf:Instr.fill (ps[·]?) z.cells parts.toList=some cells) :
  (Instr.build t parts).run P w=.ok (.agg cells) w:=by
 simp only[Instr.build,A3,jI w hz,AX,run_underlying hu,hm,hf]
 rfl
def bVi{z:Value}(h:z.cells.all CE=true):CV F w ι (z.cells.toList.map cv1) z.cells :=
 ⟨by simp,aNr _,λu hu=>BZ.1 h u hu⟩
def aYp{J:Nat->AV}{a:Act}{ps:Array (Nat×Operand)}(h:∀p∈ps,V F w ι (oev J p.2) (a.eval p.2)) :
  (ps.toList.map λp=>(p.1,oev J p.2)).length=(ps.map λp=>(p.1,a.eval p.2)).toList.length /\
  ∀(k:Nat) p q,(ps.toList.map λp=>(p.1,oev J p.2))[k]? = some p->(ps.map λp=>(p.1,a.eval p.2)).toList[k]? = some q->p.1=q.1/\V F w ι p.2 q.2:=by
 refine⟨by simp,λk p q hp hq=>?_⟩
 simp only[Aw,Array.toList_map,Bn]at hp hq
 cases hx:ps[k]? with
 |none=>simp[hx]at hp
 |some x =>
  simp only[hx,A4,AU]at hp hq
  subst hp;subst hq
  exact⟨rfl,h x (C2 hx)⟩
end
section
variable {P:Program}
def aPm{s:TypeId}{f:Nat}{fl:List (Nat×Nat)}{p:Nat×Nat}(w:World)(h:gI P s=some fl)(hp:fl[f]? = some p)(h0:p.2≠0)(ad:Addr) :
  (Instr.fieldAt s (.pointer (some ad)) f).run P w=.ok (.pointer (some (ad.add p.1))) w:=by
 obtain⟨fs,hu,_,hm⟩:=aPl w h
 have hlen:∀(l:List Field) (r:List (Nat×Nat)),(l.mapM λf=>(P.info? f.type).map λi=>(f.offset,i.size))=some r->∀(k:Nat) q,r[k]? = some q->∃g,l[k]? = some g/\q.1=g.offset/\tsz P g.type=some q.2:=by
  intro l;induction l with
  |nil=>intro r hr k q hq;simp at hr;subst hr;simp at hq
  |cons g l ih =>
   intro r hr k q hq;simp only[Ca,CY,Ae,DI,AU]at hr;obtain⟨x,hx,r',hr',rfl⟩:=hr;obtain⟨i,hi,rfl⟩:=Aj.1 hx;rcases k with _|k
   ·simp only[Cj,AU]at hq;subst hq;exact⟨g,rfl,rfl,by simp[tsz,hi]⟩
   ·exact ih r' hr' k q (by simpa using hq)
 obtain⟨g,hg,e1,e2⟩:=hlen _ _ hm f p hp
 have hg':fs[f]? = some g:=by simpa using hg
 simp[Instr.fieldAt,run_underlying hu,hg',CF,fieldPlace,run_sizeOf w e2,h0,e1]
def aHu{t e:TypeId}{sz:Nat}(w:World)(h:tel P t=some e)(hs:tsz P e=some sz)(a:Addr)(n c:Nat)(ki:IntKind)(k:Int)(h0:0<=k)(h1:k<n) :
  (Gl t (.slice (some a) n c) (.int ki k)).run P w=.ok (.pointer (some (a.add (k.toNat*sz)))) w:=by
 simp[Gl,asIntOf,run_underlying (iV h),run_sizeOf w hs,h0,h1]
def aHv{t e:TypeId}{sz m:Nat}(w:World)(h:aAj P t=some (m,e))(hs:tsz P e=some sz)(a:Addr)(ki:IntKind)(k:Int)(h0:0<=k)(h1:k<m) :
  (Gl t (.pointer (some a)) (.int ki k)).run P w=.ok (.pointer (some (a.add (k.toNat*sz)))) w:=by
 simp[Gl,asIntOf,run_underlying (aEi h),run_sizeOf w hs,h0,h1,CF]
def bBp{t e:TypeId}(w:World)(h:tel P t=some e)(ty:TypeId)(a:Option Addr)(n c:Nat):(Builtin.len_ #[t] ty #[.slice a n c]).run P w=.ok (.int .i64 n) w:=by simp[Builtin.len_,run_underlying (iV h),goInt]
def kG(w:World)(k:IntKind)(i:Int)(y:Nat)(code:BoundsCode)(h0:0<=i)(h1:i<=y):(Instr.sliceBound (.int k i) y code).run P w=.ok i.toNat w:=by simp[Instr.sliceBound,asIntOf,h0,h1]
def wW{t e:TypeId}{sz:Nat}(w:World)(ht:tel P t=some e)(hs:tsz P e=some sz)(ad:Option Addr)(n c:Nat)(hnc:n<=c)(lo hi mx:Option Value)(l h:Int)
  (hlo:(lo=none/\l=0)\/∃k,lo=some (.int k l)) (hhi:(hi=none/\h=n)\/∃k,hi=some (.int k h)) (hl:0<=l) (hlh:l<=h) (hn:h<=n)
  (m:Nat) (hm:(mx=none/\m=c)\/(∃k,mx=some (.int k h))/\m=h.toNat/\hi.isSome=true) :
  (Instr.sliceAt t (.slice ad n c) lo hi mx).run P w=.ok (.slice (if m=l.toNat then ad else ad.map (·.add (l.toNat*sz))) (h.toNat-l.toNat) (m-l.toNat)) w:=by
 have hu:=iV ht
 have hb:(DF true n c lo hi mx).run P w=.ok (l.toNat,h.toNat,m) w:=by
  have e1:(h.toNat:Int)=h:=by omega
  rcases hm with ⟨rfl,rfl⟩|⟨⟨km,rfl⟩,rfl,hs'⟩
  ·rcases hlo with ⟨rfl,rfl⟩|⟨kl,rfl⟩<;>rcases hhi with ⟨rfl,rfl⟩|⟨kh,rfl⟩
   ·simp[DF]
   ·simp[DF,kG w kh h m _ (by omega) (by omega)]
   ·simp[DF,kG w kl l n _ (by omega) (by omega)]
   ·simp[DF,kG w kh h m _ (by omega) (by omega),kG w kl l h.toNat _ (by omega) (by omega)]
  ·rcases hhi with ⟨rfl,rfl⟩|⟨kh,rfl⟩
   ·simp at hs'
   ·rcases hlo with ⟨rfl,rfl⟩|⟨kl,rfl⟩
    ·simp[DF,kG w km h c _ (by omega) (by omega),kG w kh h h.toNat _ (by omega) (by omega)]
    ·simp[DF,kG w km h c _ (by omega) (by omega),kG w kh h h.toNat _ (by omega) (by omega),kG w kl l h.toNat _ (by omega) (by omega)]
 simp[Instr.sliceAt,Instr.slice,run_underlying hu,hb,run_sizeOf w hs]
def run_build{w:World}{t:TypeId}{z:Value}{pl:Nat->Option (Nat×Nat)}(hz:tz P t=some z)(hpl:plc P t=some pl)(parts:Array (Nat×Value))(cells:Array Value)(hf:Instr.fill pl z.cells parts.toList=some cells) :
  (Instr.build t parts).run P w=.ok (.agg cells) w:=by
 unfold plc at hpl
 split at hpl
 ·rename_i fl hfl
  injection hpl with hpl;subst hpl
  obtain⟨fs,hu,hm,_⟩:=aPl w hfl
  exact aCn hz hu fl.toArray parts cells hm (by simpa using hf)
 ·obtain⟨p,hp,h⟩:=Ae.1 hpl
  obtain⟨sz,hsz,rfl⟩:=Aj.1 h
  simp only[Instr.build,A3,jI w hz,AX,run_underlying (aEi hp),run_sizeOf w hsz,hf]
  rfl
variable {G:Ctx} {o:Oper} {J:Nat->AV} {C:Nat->Prop} {H:Hp} {n:Nat}
def aFi{av:AV}(h:nev P o.op J n=some (av,none)):Y P G o J C H H av bW bW:=by
 refine aAf λF w ι a hR hop=>?_
 have ov:∀x∈o.op.operands,V F w ι (oev J x) (a.eval x):=λx hx=>fD λt e=>hop t (e ▸ hx)
 obtain⟨dst,op,type,pos,after,guard⟩:=o;simp only at h ov ⊢;unfold nev at h;split at h
 ·rename_i x;injection h with h;injection h with h _;subst h;exact⟨_,by simp[execOp],ov x (by simp[AN])⟩
 ·rename_i x;injection h with h;injection h with h _;subst h;exact⟨_,by simp[execOp],ov x (by simp[AN])⟩
 ·rename_i c x y;obtain⟨h,_⟩:=eI h;obtain⟨t,ht,rfl⟩:=Aj.1 h;have hc:=bEq ht (ov c (by simp[AN]));refine⟨if t then a.eval x else a.eval y,by simp[execOp,hc,asBool],?_⟩;cases t
  ·exact ov y (by simp[AN])
  ·exact ov x (by simp[AN])
 ·obtain⟨z,_,h⟩:=Aj.1 h;cases h
 ·obtain⟨z,_,h⟩:=Aj.1 h;cases h
 ·rename_i t ps;obtain⟨h,_⟩:=eI h;obtain⟨z,hz,h⟩:=Ae.1 h;obtain⟨pl,hpl,h⟩:=Ae.1 h;split at h
  ·rename_i hone;obtain⟨cs,hcs,rfl⟩:=Aj.1 h;have hp:=aYp (F:=F) (w:=w) (ι:=ι) (J:=J) (a:=a) (ps:=ps) λp hp=>ov p.2 (by simp[AN];exact⟨p.1,hp⟩)
   obtain⟨us,hus,hcv⟩:=aMy _ _ _ _ _ _ (bVi (F:=F) (w:=w) (ι:=ι) hone) hp.1 hp.2 hcs;refine⟨.agg us,?_,.ag _ _ hcv.1 hcv.2.1⟩;have hrun:=run_build (w:=w) hz hpl (ps.map λp=>(p.1,a.eval p.2)) us hus;simp only[execOp,A3];rw[hrun];rfl
  ·cases h
 ·obtain⟨e,_,h⟩:=Ae.1 h;obtain⟨sz,_,h⟩:=Ae.1 h;obtain⟨z,_,h⟩:=Ae.1 h;split at h
  ·obtain⟨cs,_,h⟩:=Aj.1 h;cases h
  ·cases h
 ·obtain⟨e,_,h⟩:=Ae.1 h;obtain⟨sz,_,h⟩:=Ae.1 h;obtain⟨z,_,h⟩:=Ae.1 h;obtain⟨y,_,h⟩:=Ae.1 h;obtain⟨a,_,h⟩:=Ae.1 h;obtain⟨b,_,h⟩:=Ae.1 h;split at h<;>cases h
 ·rename_i op t x y yt;obtain⟨h,_⟩:=eI h;split at h
  ·rename_i r' hr;injection h with h;subst h
   obtain⟨z,⟨h1,h2⟩,hz⟩:=bGy (P:=P) hr (ov x (by simp[AN])) (ov y (by simp[AN])) x y;exact⟨z,by simp[execOp,h1,h2],hz⟩
  split at h
  ·rename_i r' hr;injection h with h;subst h
   obtain⟨z,⟨h1,h2⟩,hz⟩:=bHa (P:=P) hr (ov x (by simp[AN])) (ov y (by simp[AN])) x y;exact⟨z,by simp[execOp,h1,h2],.d _ _ hz⟩
  obtain⟨r,hr,rfl⟩:=Aj.1 h;obtain⟨z,⟨h1,h2⟩,hz⟩:=bHb (P:=P) hr (ov x (by simp[AN])) (ov y (by simp[AN])) x y;exact⟨z,by simp[execOp,h1,h2],.d _ _ hz⟩
 ·rename_i op t x;obtain⟨h,_⟩:=eI h;obtain⟨r,hr,rfl⟩:=Aj.1 h;obtain⟨z,h1,hz⟩:=bPt (P:=P) hr (ov x (by simp[AN]));exact⟨z,by simp[execOp,h1],.d _ _ hz⟩
 ·rename_i s t x;obtain⟨h,_⟩:=eI h;obtain⟨k,hk,h⟩:=Ae.1 h;obtain⟨m,hm,h⟩:=Ae.1 h;split at h
  ·rename_i hs;injection h with h;subst h
   obtain⟨k',hx⟩:=mD hm (ov x (by simp[AN]));refine⟨.int k (k.wrap m),?_,.d _ _ (.i _ _)⟩;obtain⟨ds,hds⟩:=Option.isSome_iff_exists.1 hs;simp[execOp,hx,convert,run_underlying hds,run_underlying (bFr hk),Conv.intToInt]
  ·cases h
 ·rename_i s x f;obtain⟨h,_⟩:=eI h;obtain⟨fl,hfl,h⟩:=Ae.1 h;obtain⟨p,hp,h⟩:=Ae.1 h;split at h
  ·cases h
  ·rename_i h0;obtain⟨ad,hx,hv⟩:=bLs h (ov x (by simp[AN]));exact⟨_,by simp only[execOp,hx,A3,aPm w hfl hp h0 ad];rfl,hv⟩
 ·rename_i t x i;obtain⟨h,_⟩:=eI h;obtain⟨k,hk,h⟩:=Ae.1 h;obtain⟨ki,hi⟩:=mD hk (ov i (by simp[AN]));split at h
  ·rename_i e he;obtain⟨sz,hsz,h⟩:=Ae.1 h;obtain⟨ad,m,c,hx,h0,h1,hv⟩:=bKy h (ov x (by simp[AN]));exact⟨_,by simp only[execOp,hx,hi,A3,aHu w he hsz ad m c ki k h0 h1];rfl,hv⟩
  ·obtain⟨⟨m,e⟩,he,h⟩:=Ae.1 h;obtain⟨sz,hsz,h⟩:=Ae.1 h;obtain⟨ad,hx,h0,h1,hv⟩:=bKz h (ov x (by simp[AN]));exact⟨_,by simp only[execOp,hx,hi,A3,aHv w he hsz ad ki k h0 h1];rfl,hv⟩
 ·rename_i x i;obtain⟨h,_⟩:=eI h;obtain⟨vs,hvs,h⟩:=Ae.1 h;obtain⟨us,hx,hl,hv⟩:=bWy hvs (ov x (by simp[AN]));have hlt:i<vs.length:=(Ah.1 h).1;have hlt':i<us.size:=by omega
  exact⟨us[i],by simp[execOp,hx,Instr.extract,hlt'],hv i _ _ h (AD hlt')⟩
 ·rename_i t x lo hi mx;obtain⟨h,_⟩:=eI h;obtain⟨e,he,h⟩:=Ae.1 h;obtain⟨sz,hsz,h⟩:=Ae.1 h;obtain⟨n',hn',h⟩:=Ae.1 h;obtain⟨l,hl,h⟩:=Ae.1 h;obtain⟨hh,hhh,h⟩:=Ae.1 h;obtain⟨ad',len',c',hxv,hnl⟩:=bJt hn' (ov x (by simp[AN]));have hlo:(lo.map a.eval=none/\l=0)\/∃k,lo.map a.eval=some (.int k l):=by
   cases lo with
   |none=>simp only[aQq,AU]at hl;exact .inl ⟨rfl,hl.symm⟩
   |some y=>obtain⟨k,hk⟩:=mD hl (ov y (by simp[AN]));exact .inr ⟨k,by simp[hk]⟩
  have hhi:(hi.map a.eval=none/\hh=len')\/∃k,hi.map a.eval=some (.int k hh):=by
   cases hi with
   |none=>simp only[aQq,AU]at hhh;exact .inl ⟨rfl,by rw[<-hhh,hnl]⟩
   |some y=>obtain⟨k,hk⟩:=mD hhh (ov y (by simp[AN]));exact .inr ⟨k,by simp[hk]⟩
  cases mx with
  |none =>
   obtain⟨ad,m,c,hx,h0,h1,h2,h3,hv⟩:=aPh h (ov x (by simp[AN]));rw[hxv]at hx;injection hx with e1 e2 e3;subst e1;subst e2;subst e3
   refine⟨_,?_,hv c' (by simp)⟩;have:=wW w he hsz ad' len' c' h3 _ _ none l hh hlo hhi h0 h1 h2 c' (.inl ⟨rfl,rfl⟩);simp only[execOp,hxv,A3,Option.map_none,this];rfl
  |some y =>
   obtain⟨m,hm,h⟩:=Ae.1 h;split at h
   ·rename_i hmh;obtain⟨rfl,his⟩:=hmh;obtain⟨ad,m',c,hx,h0,h1,h2,h3,hv⟩:=aPh h (ov x (by simp[AN]));rw[hxv]at hx;injection hx with e1 e2 e3;subst e1;subst e2;subst e3
    obtain⟨km,hkm⟩:=mD hm (ov y (by simp[AN]));refine⟨_,?_,hv m.toNat (by simp)⟩;have:=wW w he hsz ad' len' c' h3 _ _ (some (.int km m)) l m hlo hhi h0 h1 h2 m.toNat (.inr ⟨⟨km,rfl⟩,rfl,by simpa using his⟩);simp only[execOp,hxv,A3,A4,hkm,this];rfl
   ·cases h
 ·rename_i c;obtain⟨h,_⟩:=eI h;obtain⟨callee,args,argTypes⟩:=c;simp only[AN,Bp]at ov;obtain⟨args⟩:=args;obtain⟨argTypes⟩:=argTypes;simp only at h;unfold aZa at h;split at h
  ·rename_i x t _;obtain⟨e,he,h⟩:=Ae.1 h;obtain⟨m,hm,rfl⟩:=Aj.1 h;obtain⟨ad,l,c,hx,rfl⟩:=bJt hm (ov x (by simp));refine⟨.int .i64 l,?_,.d _ _ (.i _ _)⟩;simp[execOp,resolve,invoke,builtin,hx,bBp w he]
  ·rename_i x y _;split at h
   ·rename_i k p k' q hx hy;injection h with h;subst h
    have vx:=ov x (by simp);have vy:=ov y (by simp);rw[hx]at vx;rw[hy]at vy;cases vx with|d _ _ vx=>cases vy with|d _ _ vy =>
    generalize hex:a.eval x=ux at vx;generalize hey:a.eval y=uy at vy;cases vx;cases vy;exact⟨_,by simp[execOp,resolve,invoke,builtin,hex,hey,run_max_int2],.d _ _ (.i _ _)⟩
   ·cases h
  ·rename_i x y _;split at h
   ·rename_i k p k' q hx hy;injection h with h;subst h
    have vx:=ov x (by simp);have vy:=ov y (by simp);rw[hx]at vx;rw[hy]at vy;cases vx with|d _ _ vx=>cases vy with|d _ _ vy =>
    generalize hex:a.eval x=ux at vx;generalize hey:a.eval y=uy at vy;cases vx;cases vy;exact⟨_,by simp[execOp,resolve,invoke,builtin,hex,hey,run_min_int2],.d _ _ (.i _ _)⟩
   ·cases h
  ·cases h
 ·rename_i s x f;obtain⟨h,_⟩:=eI h;obtain⟨⟨off,ag,sz⟩,hp,h⟩:=Ae.1 h;obtain⟨cs,hcs,h⟩:=Ae.1 h;obtain⟨vs,hx,hl,hV⟩:=aNo hcs (ov x (by simp[AN]));unfold bWz at hp;split at hp
  ·rename_i fs hu;obtain⟨g,hg,hp⟩:=Ae.1 hp;obtain⟨a',ha',hp⟩:=Ae.1 hp;obtain⟨z,hz,hp⟩:=Aj.1 hp;injection hp with e1 e2;injection e2 with e2 e3;subst e1;subst e2;subst e3
   cases a'
   ·simp only[A0,B2]at h;have hlt:g.offset<vs.size:=by rw[<-hl];exact(Ah.1 h).1
    have hv:=AD hlt;refine⟨vs[g.offset],?_,hV _ _ _ h hv⟩;simp[execOp,hx,Instr.field,run_underlying hu,hg,asAgg,part,oZ w ha',hv]
   ·simp only[B1]at h;split at h
    ·rename_i hfit;injection h with h;subst h
     refine⟨.agg (vs.extract g.offset (g.offset+z)),by simp[execOp,hx,Instr.field,run_underlying hu,hg,asAgg,part,oZ w ha',run_sizeOf w hz],.ag _ _ (by simp;omega) λk c u hc hu'=>?_⟩;have hk:k<z:=by
      rcases Bf k z with h|h
      ·exact h
      ·rw[Bb,Ac (by omega)]at hc;cases hc
     rw[Bb,Ad hk,Bt]at hc;rw[Array.getElem?_extract]at hu';rw[Ad (by omega)]at hu';exact hV _ _ _ hc hu'
    ·cases h
  ·cases hp
 ·rename_i f fst cs;split at h
  ·rename_i hf;obtain⟨h,_⟩:=eI h;injection h with h;subst h
   have hf':fst=#[]:=by simpa using hf
   subst hf';refine⟨.func (.func f) #[] (cs.map a.eval),by simp[execOp,Instr.makeFunc],.fn _ _ _ (by simp) λk c u hc hu=>?_⟩;simp only[Aw,E7,Bn]at hc hu;cases hx:cs[k]? with
   |none=>simp[hx]at hc
   |some x =>
    simp only[hx,A4,AU]at hc hu;subst hc;subst hu;exact ov x (by simp[AN,C2 hx])
  ·cases h
 ·rename_i t x i;obtain⟨h,_⟩:=eI h;obtain⟨⟨m,e⟩,hp,h⟩:=Ae.1 h;obtain⟨sz,hsz,h⟩:=Ae.1 h;obtain⟨ag,hag,h⟩:=Ae.1 h;obtain⟨k,hk,h⟩:=Ae.1 h;obtain⟨cs,hcs,h⟩:=Ae.1 h;obtain⟨ki,hi⟩:=mD hk (ov i (by simp[AN]));obtain⟨vs,hx,hl,hV⟩:=aNo hcs (ov x (by simp[AN]));have hu:=aEi hp;simp only at hu;split at h
  ·rename_i hb;have hb':0<=k/\k<(m:Int):=hb;cases ag
   ·simp only[A0,B2]at h;have hlt:k.toNat*sz<vs.size:=by rw[<-hl];exact(Ah.1 h).1
    have hv:=AD hlt;refine⟨vs[k.toNat*sz],?_,hV _ _ _ h hv⟩;simp[execOp,hx,hi,Instr.index,asIntOf,run_underlying hu,hb',run_sizeOf w hsz,part,oZ w hag,hv]
   ·simp only[B1]at h;split at h
    ·rename_i hfit;injection h with h;subst h
     refine⟨.agg (vs.extract (k.toNat*sz) (k.toNat*sz+sz)),by simp[execOp,hx,hi,Instr.index,asIntOf,run_underlying hu,hb',run_sizeOf w hsz,part,oZ w hag],.ag _ _ (by simp;omega) λj c u hc hu'=>?_⟩;have hj:j<sz:=by
      rcases Bf j sz with h|h
      ·exact h
      ·rw[Bb,Ac (by omega)]at hc;cases hc
     rw[Bb,Ad hj,Bt]at hc;rw[Array.getElem?_extract]at hu';rw[Ad (by omega)]at hu';exact hV _ _ _ hc hu'
    ·cases h
  ·cases h
 ·rename_i x;obtain⟨h,_⟩:=eI h;have hv:=ov x (by simp[AN]);unfold bMq at h;split at h
  ·rename_i id o hx;injection h with h;subst h
   rw[hx]at hv;generalize hu:a.eval x=u at hv;cases hv with|ptr _ _ b hι=>exact⟨.pointer (some ⟨b,o,none⟩),by simp[execOp,hu],.ptr _ _ _ hι⟩
  ·rename_i cs hx;injection h with h;subst h
   rw[hx]at hv;generalize hu:a.eval x=u at hv;cases hv with|fp _ ad f hF hcell hel=>exact⟨.pointer (some ad),by simp[execOp,hu],.fp _ _ f hF hcell hel⟩
  ·cases h
 ·obtain⟨p,_,h⟩:=Ae.1 h;obtain⟨k,_,h⟩:=Ae.1 h;obtain⟨_,_,h⟩:=Aj.1 h;cases h
 ·obtain⟨p,_,h⟩:=Ae.1 h;split at h<;>cases h
 ·rename_i t x;obtain⟨h,_⟩:=eI h;obtain⟨u,hu,h⟩:=Ae.1 h;have hv:=ov x (by simp[AN]);split at h
  ·cases h
  ·rename_i hni;obtain⟨d,hd,h⟩:=Aj.1 h;subst h;refine⟨.iface t (a.eval x),?_,.d _ _ (.iff _ _ _ (bXn hd hv))⟩;cases u<;>first|exact absurd rfl (hni _)|simp[execOp,Instr.makeInterface,run_underlying hu]
 ·cases h
end
def aSj{α:Type}(zs:List α)(hz:0<zs.length):∀(n k:Nat),k<n*zs.length->(AB n zs).flatten[k]? = zs[k%zs.length]?
 |0,k,h=>by omega
 |n+1,k,h=>by
  rw[List.replicate_succ,BF];by_cases hk:k<zs.length
  ·rw[AJ hk,Nat.mod_eq_of_lt hk]
  ·rw[Az (by omega),aSj zs hz n (k-zs.length) (by rw[By,CZ]at h;omega)];congr 1;exact(Nat.mod_eq_sub_mod (by omega)).symm
def zD{α:Type}(zs:List α)(n:Nat):(AB n zs).flatten.length=n*zs.length:=by simp
section
variable {P:Program} {F:Nat->Prop} {w:World} {ι:Nat->Option Nat}
def bAy{z:Array Value}{sz n m:Nat}(hz:z.size=sz)(h0:0<sz)(hone:z.all CE=true)(hnm:n<=m) :
  ((AB n (z.toList.map cv1)).flatten.length<=(madeCells z (m*sz)).size) /\
  ∀(k:Nat) c,(AB n (z.toList.map cv1)).flatten[k]? = some c->∃u,(madeCells z (m*sz))[k]? = some u/\V F w ι c u/\u.oneCell'=true:=by
 have hl:(z.toList.map cv1).length=sz:=by simp[hz]
 have hmul:n*sz<=m*sz:=A8 _ hnm
 refine⟨by rw[zD,hl,size_madeCells];exact hmul,λk c hk=>?_⟩
 have hlt:k<n*sz:=by have:=(Ah.1 hk).1;rwa [zD,hl]at this
 rw[aSj _ (by omega) n k (by rw[hl];exact hlt),hl]at hk
 have hm:k%sz<z.size:=by rw[hz];exact Nat.mod_lt _ h0
 refine⟨z[k%sz],?_,aNr z (k%sz) c _ hk (AD hm),BZ.1 hone _ (Array.getElem_mem hm)⟩
 simp only[madeCells,E7,Array.getElem?_range,hz]
 rw[Ad (by omega)]
 simp[hm]
def aXm{z:Array Value}{sz n:Nat}(hz:z.size=sz)(h0:0<sz)(hone:z.all CE=true) :
  CV F w ι (AB n (z.toList.map cv1)).flatten ((Ge (n*sz)).map (z[·%z.size]!)):=by
 obtain⟨_,h2⟩:=bAy (F:=F) (w:=w) (ι:=ι) hz h0 hone (Ap n)
 have hl:(AB n (z.toList.map cv1)).flatten.length=n*sz:=by rw[zD];simp[hz]
 refine⟨by rw[hl];simp,λk c u hc hu=>?_,λu hu=>?_⟩
 ·obtain⟨u',hu',hv,_⟩:=h2 k c hc
  rw[show(madeCells z (n*sz))=((Ge (n*sz)).map (z[·%z.size]!))from rfl,hu]at hu'
  injection hu' with hu';subst hu';exact hv
 ·obtain⟨k,hk,rfl⟩:=Fm.1 hu
  have hk':k<(AB n (z.toList.map cv1)).flatten.length:=by rw[hl];simpa using hk
  obtain⟨u',hu',_,ho⟩:=h2 k _ (Ab hk')
  rw[show(madeCells z (n*sz))=((Ge (n*sz)).map (z[·%z.size]!))from rfl,AD hk]at hu'
  injection hu' with hu';rw[hu'];exact ho
def aTv{e:TypeId}{cs:List AV}{vs:Array Value}(h:CV F w ι cs vs):CR F w ι (.cells e cs) (.cells vs e (0,0)) :=
 .cells _ _ _ (by have:=h.1;omega) λk c hk=>let ⟨u,h1,h2⟩:=h.get hk;⟨u,h1,h2⟩
variable {G:Ctx} {o:Oper} {J:Nat->AV} {C:Nat->Prop} {H:Hp} {n:Nat}
def aJp{av:AV}{ho:HO}(h:nev P o.op J n=some (av,some ho))(hH:H n=some ho):Y P G o J C H H av (·=n) bW:=by
 refine bPb hH λF w ι a hop=>?_
 have ov:∀x∈o.op.operands,V F w ι (oev J x) (a.eval x):=λx hx=>fD λt e=>hop t (e ▸ hx)
 obtain⟨dst,op,type,pos,after,guard⟩:=o;simp only at h ov ⊢;unfold nev at h;split at h<;>try (obtain⟨_,h⟩:=eI h;cases h;done)
 ·injection h with h;injection h with _ h;cases h
 ·injection h with h;injection h with _ h;cases h
 ·rename_i e;obtain⟨z,hz,h⟩:=Aj.1 h;injection h with h1 h2;subst h1;injection h2 with h2;subst h2
  refine⟨.pointer (some ⟨w.heap.size,0,none⟩),.cells z.cells e,w.alloc (.cells z.cells e),?_,.alloc _ _,λF' w' ι' hs hι hb=>⟨.cells _ _ _ (by simp) (λk c hk=>?_),.ptr _ _ _ hι⟩⟩
  ·simp only[execOp,Instr.alloc,A3,jI w hz,AX,newVar,newRow,run_newObj,Bz,World.alloc_eq]
  ·simp only[Aw,Bn]at hk;obtain⟨u,hu,rfl⟩:=Aj.1 hk;exact⟨u,hu,bOk u⟩
 ·rename_i e x;obtain⟨cs,hcs,h⟩:=Aj.1 h;injection h with h1 h2;subst h1;injection h2 with h2;subst h2
  have hc:=aGz hcs (ov x (by simp[AN]));refine⟨.pointer (some ⟨w.heap.size,0,none⟩),.cells (a.eval x).cells e,w.alloc (.cells (a.eval x).cells e),?_,.alloc _ _,λF' w' ι' hs hι hb=>⟨aTv (hc.step hs),.ptr _ _ _ hι⟩⟩;simp only[execOp,Instr.box,A3,newVar,newRow,run_newObj,AX,Bz,World.alloc_eq]
 ·rename_i t len ps;obtain⟨e,he,h⟩:=Ae.1 h;obtain⟨sz,hsz,h⟩:=Ae.1 h;obtain⟨z,hz,h⟩:=Ae.1 h;split at h
  ·rename_i hc;obtain⟨h1,h2,h3,h4⟩:=hc;obtain⟨cs,hcs,h⟩:=Aj.1 h;injection h with e1 e2;subst e1;injection e2 with e2;subst e2
   have hp:=aYp (F:=F) (w:=w) (ι:=ι) (J:=J) (a:=a) (ps:=ps) λp hp=>ov p.2 (by simp[AN];exact⟨p.1,hp⟩)
   obtain⟨us,hus,hcv⟩:=aMy _ _ _ _ _ _ (aXm (F:=F) (w:=w) (ι:=ι) (n:=len) h1 h2 h4) hp.1 hp.2 hcs;have hsize:us.size=len*sz:=by
    have hfl:∀(parts:List (Nat×AV)) (cells out:List AV) (pl:Nat->Option (Nat×Nat)),nY pl cells parts=some out->out.length=cells.length:=by
     intro parts;induction parts with
     |nil=>intro cells out pl h;simp only[nY,AU]at h;rw[h]
     |cons p parts ih =>
      intro cells out pl h;obtain⟨i,x⟩:=p;simp only[nY]at h;split at h
      ·split at h
       ·rename_i hx;rw[ih _ _ _ h,iY hx.2]
       ·cases h
      ·cases h
    have:=hfl _ _ _ _ hcs;rw[<-hcv.1,this,zD];simp[h1]
   refine⟨.slice (some ⟨w.heap.size,0,none⟩) len len,.cells us e,w.alloc (.cells us e),?_,.alloc _ _,λF' w' ι' hs hι hb=>⟨aTv (hcv.step hs),?_⟩⟩
   ·have hf:Instr.fill (λi=>some (i*sz,sz)) ((Ge (len*sz)).map (z.cells[·%z.cells.size]!)) (ps.map λp=>(p.1,a.eval p.2)).toList=some us:=hus;have hbig:¬(len*sz>2^24):=by omega
    by_cases h0:len*sz=0
    ·simp only[h0,Array.range_zero',Array.map_empty]at hf;simp only[execOp,Instr.buildSlice,A3,run_underlying (iV he),AX,run_sizeOf w hsz,h0,B1,Bz,Array.range_zero',Array.map_empty];rw[Ac (by omega)];simp only[A3,Bz,AX,hf];simp[newRow]
    ·simp only[execOp,Instr.buildSlice,A3,run_underlying (iV he),AX,run_sizeOf w hsz];rw[Ac hbig,Ac h0];simp only[A3,Bz,AX,jI w hz,hf];simp[newRow]
   ·have:=V.own (F:=F') (w:=w') (ι:=ι') n 0 len sz w.heap.size len us e hι hb (by rw[hsize];simp) (Ap _) (by
     have hx:len*1<=len*sz:=Nat.mul_le_mul_left _ (by omega);simp only[maxLen];omega)
    simpa using this
  ·cases h
 ·rename_i t l c;obtain⟨e,he,h⟩:=Ae.1 h;obtain⟨sz,hsz,h⟩:=Ae.1 h;obtain⟨z,hz,h⟩:=Ae.1 h;obtain⟨y,hy,h⟩:=Ae.1 h;obtain⟨x,hx,h⟩:=Ae.1 h;obtain⟨b,hb',h⟩:=Ae.1 h;split at h
  ·rename_i hc;obtain⟨h1,h2,h3,h4,h5,h6,h7⟩:=hc;injection h with h;injection h with e1 e2;subst e1;injection e2 with e2;subst e2
   obtain⟨kl,hl⟩:=mD hx (ov l (by simp[AN]));obtain⟨kc,hcc⟩:=mD hb' (ov c (by simp[AN]));obtain⟨i,hi,rfl⟩:=Aj.1 hsz;have hz':i.zero=some z:=by obtain⟨j,hj,hjz⟩:=Ae.1 hz;rw[hi]at hj;injection hj with hj;subst hj;exact hjz
   have hy':i.bytes=y:=by obtain⟨j,hj,hjz⟩:=Aj.1 hy;rw[hi]at hj;injection hj with hj;subst hj;exact hjz
   have hr:=run_make (P:=P) w t e i z (iV he) hi hz' kl kc x b h4 h5 (by rw[hy'];exact h6) h7;refine⟨.slice (some ⟨w.heap.size,0,none⟩) x.toNat b.toNat,_,_,?_,.alloc w (.cells (madeCells z.cells (b.toNat*i.size)) e),λF' w' ι' hs hι hb=>⟨?_,?_⟩⟩
   ·simp only[execOp,A3,hl,hcc,hr];rfl
   ·obtain⟨q1,q2⟩:=bAy (F:=F') (w:=w') (ι:=ι') (z:=z.cells) (n:=x.toNat) (m:=b.toNat) h1 h2 h3 (by omega);exact .cells _ _ _ q1 λk c hk=>let ⟨u,u1,u2,_⟩:=q2 k c hk;⟨u,u1,u2⟩
   ·have:=V.own (F:=F') (w:=w') (ι:=ι') n 0 x.toNat i.size w.heap.size b.toNat _ e hι hb (by rw[size_madeCells];simp) (by omega) (by simp only[maxLen];omega);simpa using this
  ·cases h
 ·split at h
  ·obtain⟨_,h⟩:=eI h;cases h
  ·cases h
 ·rename_i t r;obtain⟨p,hp,h⟩:=Ae.1 h;obtain⟨k,_,h⟩:=Ae.1 h;obtain⟨i,hi,h⟩:=Aj.1 h;injection h with e1 e2;subst e1;injection e2 with e2;subst e2
  have hu:P.underlying t=some (.map p.1 p.2):=by
   unfold tmp at hp;split at hp
   ·injection hp with hp;subst hp;assumption
   ·cases hp
  refine⟨.map (some w.heap.size),.map #[] 0,w.alloc (.map #[] 0),?_,.alloc _ _,λF' w' ι' hs hι hb=>⟨.map _ _ _ _ rfl (MapKept.stamped_empty 0) λj x h=>by simp at h,.mp _ _ hι⟩⟩;cases r with
  |none=>simp[execOp,Instr.makeMap]
  |some x =>
   obtain⟨kk,hx⟩:=mD hi (ov x (by simp[AN]));simp[execOp,hx,Instr.makeMap,run_underlying hu,asInt,asIntOf]
 ·rename_i t x;obtain⟨p,hp,h⟩:=Ae.1 h;split at h
  case h_2=>cases h
  rename_i k ks ds hx;injection h with h;injection h with e1 e2;subst e1;injection e2 with e2;subst e2
  have hu:P.underlying t=some (.map p.1 p.2):=by
   unfold tmp at hp;split at hp
   ·injection hp with hp;subst hp;assumption
   ·cases hp
  have hv:=ov x (by simp[AN]);rw[hx]at hv;generalize hxe:a.eval x=u at hv;cases hv with|d _ _ hv=>cases hv with|mp _ _ _ b ents clock hF hb hst hl hl' hk hds =>
  refine⟨.pointer (some ⟨w.heap.size,0,none⟩),.mapIter (some b) clock #[] clock,w.alloc (.mapIter (some b) clock #[] clock),?_,.alloc _ _,λF' w' ι' hs hι hb'=>⟨?_,.ptr _ _ _ hι⟩⟩
  ·simp[execOp,hxe,run_range_map w t p.1 p.2 b ents clock hu hb]
  ·have hst':=(MapKept.stamped_iff ents clock).1 hst;have hlf:leftOf ents #[]=ents:=by unfold leftOf;exact Array.filter_eq_self.2 λx _=>by simp
   refine .iter k none _ b clock clock clock #[] ents (hs.F_le _ hF) ((hs.blk _ hF).trans hb) hst'.1 ⟨Ap _,Ap _⟩ hst'.2.1 (by rw[hlf];simp;omega) (λj x hj=>?_) (λx h=>by cases h);obtain⟨h1,h2⟩:=List.getElem?_zip_eq_some.1 hj;obtain⟨en,h3,h4⟩:=hk j _ h1;exact⟨en,by rw[hlf];exact h3,h4,(hds j _ en h2 h3).step hs.F_le hs.blk⟩
 ·cases h
end
def zB(P:Program)(H:Hp)(t:TypeId):AV->Option AV
 |.ptr id off=>(dA P t).bind λag=>match H id with
  |some (.cells _ cs)=>if ag then(tsz P t).bind λsz=>if off+sz<=cs.length then some (.ag ((cs.drop off).take sz))else none else cs[off]?
  |_=>none
 |.fp cs=>(dA P t).bind λag=>if ag then(tsz P t).bind λsz=>if sz<=cs.length then some (.ag ((cs.take sz).map .d))else none else(cs[0]?).map .d
 |_=>none
def aAp(H:Hp)(sz:Nat):AV->Option (Nat×List AV)
 |.nil=>some (0,[])
 |.own id off len sz'=>match H id with
  |some (.cells _ cs)=>if sz'=sz/\(off+len)*sz<=cs.length/\((cs.drop (off*sz)).take (len*sz)).all one=true then some (len,(cs.drop (off*sz)).take (len*sz))else none
  |_=>none
 |.d (.sl els)|.fd els=>if fB sz els=true/\(els.flatten.map AV.d).all one=true then some (els.length,els.flatten.map .d)else none
 |_=>none
section
variable {P:Program} {F:Nat->Prop} {w:World} {ι:Nat->Option Nat} {G:Ctx} {C:Nat->Prop} {H K:Hp}
def HR.cells(hR:HR G F w ι C K)(hHK:∀id o,H id=some o->K id=some o){id b:Nat}(hι:ι id=some b){e:TypeId}{cs:List AV}(hH:H id=some (.cells e cs)) :
  ∃cur,w.heap[b]? = some (.cells cur e (0,0))/\cs.length<=cur.size/\∀(k:Nat) c,cs[k]? = some c->∃u,cur[k]? = some u/\V F w ι c u:=by
 obtain⟨ob,h2,h3⟩:=hR.obj id b _ hι (hHK _ _ hH)
 cases h3 with|cells _ _ cur hl h=>exact⟨cur,h2,hl,h⟩
def bBo{a:Addr}{v:Value}(h:w.cell? a=some v):(load a).run P w=.ok v w:=by simp[load,Sem.run,h]
def tC{t:TypeId}{sz:Nat}{a:Addr}(f:Nat->Value)(ht:dA P t=some true)(hs:tsz P t=some sz)(h:∀j,j<sz->w.cell? (a.add j)=some (f j)) :
  (loadVar t a).run P w=.ok (.agg ((CS sz).map f).toArray) w:=by
 simp only[loadVar,A3,oZ w ht,AX,B1,run_sizeOf w hs,run_loadCells w a sz f h,Bz]
def sZ{t:TypeId}{a:Addr}{v:Value}(ht:dA P t=some false)(h:w.cell? a=some v):(loadVar t a).run P w=.ok v w:=by simp only[loadVar,A3,oZ w ht,AX];exact bBo h
def aDl(hR:HR G F w ι C K)(hHK:∀id o,H id=some o->K id=some o){t:TypeId}{x r:AV}{v:Value}(h:zB P H t x=some r)(hv:V F w ι x v) :
  ∃u,(EP t v).run P w=.ok u w/\V F w ι r u:=by
 unfold zB at h
 split at h
 ·rename_i id off
  obtain⟨ag,hag,h⟩:=Ae.1 h
  cases hv with|ptr _ _ b hι =>
  split at h
  ·rename_i e cs hH
   obtain⟨cur,hb,hl,hc⟩:=hR.cells hHK hι hH
   have hcell:∀j,w.cell? ((⟨b,off,none⟩:Addr).add j)=cur[off+j]? := λj=>by rw[oJ];exact cell_of_row w b _ cur e (0,0) hb
   cases ag
   ·simp only[A0,B2]at h
    obtain⟨u,hu,hv⟩:=hc off r h
    refine⟨u,?_,hv⟩
    have h0:=hcell 0
    simp only[Ce]at h0
    have:(⟨b,off,none⟩:Addr).add 0=⟨b,off,none⟩:=by simp[Addr.add]
    rw[this,hu]at h0
    simp only[EP,CF,A3,Bz,AX,sZ hag h0]
   ·simp only[B1]at h
    obtain⟨sz,hsz,h⟩:=Ae.1 h
    split at h
    ·rename_i hfit
     injection h with h;subst h
     refine⟨.agg ((CS sz).map λj=>cur.getD (off+j) undef).toArray,?_,.ag _ _ ?_ λk c u hk hu=>?_⟩
     ·simp only[EP,CF,A3,Bz,AX]
      exact tC _ hag hsz λj hj=>by rw[hcell,AD (by omega)];simp[show off+j<cur.size by omega]
     ·simp;omega
     ·rw[Bb]at hk
      split at hk
      ·rename_i hks
       rw[Bt]at hk
       obtain⟨u',hu',hv⟩:=hc _ _ hk
       simp only[Cf,Aw,CJ hks,A4,AU]at hu
       subst hu
       have hlt:=(BV.1 hu').1
       rw[AD hlt]at hu'
       injection hu' with hu'
       simpa[hlt,hu']using hv
      ·cases hk
    ·cases h
  ·cases h
 ·rename_i cs
  obtain⟨ag,hag,h⟩:=Ae.1 h
  cases hv with|fp _ ad f hF hcell hel =>
  cases ag
  ·simp only[A0,B2]at h
   obtain⟨c,hc,rfl⟩:=Aj.1 h
   have hlt:0<cs.length:=(Ah.1 hc).1
   refine⟨f 0,?_,.d _ _ (hel 0 c hc)⟩
   have h0:=hcell 0 hlt
   have:ad.add 0=ad:=by simp[Addr.add]
   rw[this]at h0
   simp only[EP,CF,A3,Bz,AX,sZ hag h0]
  ·simp only[B1]at h
   obtain⟨sz,hsz,h⟩:=Ae.1 h
   split at h
   ·rename_i hfit
    injection h with h;subst h
    refine⟨.agg ((CS sz).map f).toArray,?_,.ag _ _ ?_ λk c u hk hu=>?_⟩
    ·simp only[EP,CF,A3,Bz,AX]
     exact tC _ hag hsz λj hj=>hcell j (by omega)
    ·simp;omega
    ·rw[Aw]at hk
     obtain⟨d,hd,rfl⟩:=Aj.1 hk
     rw[Bb]at hd
     split at hd
     ·rename_i hks
      simp only[Cf,Aw,CJ hks,A4,AU]at hu
      subst hu
      exact .d _ _ (hel k d hd)
     ·cases hd
   ·cases h
 ·cases h
def bGc(hR:HR G F w ι C K)(hHK:∀id o,H id=some o->K id=some o){sz m:Nat}{x:AV}{cs:List AV}{v:Value}(h:aAp H sz x=some (m,cs))(hv:V F w ι x v) :
  ∃ad c,∃news:List Value,v=.slice ad m c/\CV F w ι cs news.toArray/\cs.length=m*sz/\(∀a,ad=some a->∀j u,news[j]? = some u->w.cell? (a.add j)=some u)/\(ad=none->m=0):=by
 have data:∀(els:List (List D)) (ad:Option Addr) (c:Nat),VD F w (.sl els) (.slice ad els.length c)->fB sz els=true->(els.flatten.map AV.d).all one=true ->
   ∃news:List Value,CV F w ι (els.flatten.map .d) news.toArray/\(els.flatten.map AV.d).length=els.length*sz/\(∀a,ad=some a->∀j u,news[j]? = some u->w.cell? (a.add j)=some u)/\(ad=none->els.length=0):=by
  intro els ad c hh hok hone
  have hall:=aHk hh (tX hok)
  have hlen:els.flatten.length=els.length*sz:=by
   clear hh hok hone;induction els with
   |nil=>simp
   |cons a l ih =>
    rw[BF,Ak,ih λcs hcs=>hall cs (Au _ hcs),hall a (Av ..),AH,By,CZ,Nat.add_comm]
  cases hh with
  |sl0 ad c=>exact⟨[],⟨rfl,λk c u hc=>by simp at hc,λu hu=>by simp at hu⟩,by simp,λa _ j u hu=>by simp at hu,λ_=>rfl⟩
  |sl _ a n c sz' f hn hc hsz hF hcell hel =>
   have hes:els=[]\/sz'=sz:=by
    cases els with
    |nil=>exact .inl rfl
    |cons a l=>exact .inr (by rw[<-hsz a (Av ..),hall a (Av ..)])
   rcases hes with rfl|rfl
   ·exact⟨[],⟨rfl,λk c u hc=>by simp at hc,λu hu=>by simp at hu⟩,by simp,λa _ j u hu=>by simp at hu,λ_=>rfl⟩
   ·have hget:∀(l:List (List D)),(∀cs∈l,cs.length=sz')->∀(k:Nat) d,l.flatten[k]? = some d->∃cs,l[k/sz']? = some cs/\cs[k%sz']? = some d:=by
     intro l;induction l with
     |nil=>intro _ k d h;simp at h
     |cons a l ih =>
      intro hl k d h;have ha:a.length=sz':=hl a (Av ..);rw[BF]at h;by_cases hk:k<sz'
      ·rw[AJ (by omega)]at h;exact⟨a,by rw[Nat.div_eq_of_lt hk];rfl,by rw[Nat.mod_eq_of_lt hk];exact h⟩
      ·rw[Az (by omega),ha]at h;obtain⟨cs,h1,h2⟩:=ih (λcs hcs=>hl cs (Au _ hcs)) _ _ h;by_cases hz:sz'=0
       ·subst hz;simp only[Nat.div_zero]at h1 ⊢;rw[Nat.sub_zero]at h2;exact(by
         have:cs.length=0:=hl cs (Au _ (Aq h1));have:=(Ah.1 h2).1;omega)
       ·refine⟨cs,?_,by rw[Nat.mod_eq_sub_mod (by omega)];exact h2⟩;rw[Nat.div_eq_sub_div (by omega) (by omega),Bg];exact h1
    refine⟨(CS (els.length*sz')).map f,aHp hone (by rw[AL,hlen];simp) (aAb λk c u hk hu=>?_),by rw[AL];exact hlen,λa' ha j u hu=>?_,λh=>by cases h⟩
    ·obtain⟨cs,h1,h2⟩:=hget els hsz k c hk
     have:=hel _ _ _ _ h1 h2
     have hlt:k<els.length*sz':=by rw[<-hlen];exact(Ah.1 hk).1
     simp only[Cf,Aw,CJ hlt,A4,AU]at hu
     subst hu
     rwa [Nat.mul_comm,Nat.div_add_mod]at this
    ·injection ha with ha;subst ha
     have hlt:j<els.length*sz':=by have:=(Ah.1 hu).1;simpa using this
     simp only[Aw,CJ hlt,A4,AU]at hu
     subst hu
     exact hcell j (by omega)
 unfold aAp at h
 split at h
 ·injection h with h;injection h with h1 h2;subst h1;subst h2
  cases hv
  exact⟨none,0,[],rfl,⟨rfl,λk c u hc=>by simp at hc,λu hu=>by simp at hu⟩,by simp,(λa ha=>by cases ha),λ_=>rfl⟩
 ·rename_i id off len sz'
  cases hv with|own _ _ _ _ b cap cur' e' hι hb' hcap hl' hm' =>
  split at h
  ·rename_i e cs' hH
   split at h
   ·rename_i hc
    obtain⟨rfl,hfit,hone⟩:=hc
    injection h with h;injection h with h1 h2;subst h1;subst h2
    obtain⟨cur,hb,hl,hcc⟩:=hR.cells hHK hι hH
    rw[hb]at hb';injection hb' with hb';injection hb' with e1 e2;subst e1;subst e2
    have hfit':off*sz'+len*sz'<=cs'.length:=by rw[<-By];exact hfit
    refine⟨_,_,(cur.toList.drop (off*sz')).take (len*sz'),rfl,aHp hone (by simp;omega) λk c u hk hu=>?_,by simp;omega,λa ha j u hu=>?_,λh=>by cases h⟩
    ·rw[Bb]at hk
     split at hk
     ·rename_i hks
      rw[Bt]at hk
      obtain⟨u',hu',hv⟩:=hcc _ _ hk
      simp only[Cf,Bb,Ad hks,Bt,Bn]at hu
      rw[hu']at hu;injection hu with hu;subst hu;exact hv
     ·cases hk
    ·injection ha with ha;subst ha
     rw[Bb]at hu
     split at hu
     ·rw[Bt,Bn]at hu
      rw[oJ,cell_of_row w b _ cur e (0,0) hb];exact hu
     ·cases hu
   ·cases h
  ·cases h
 ·rename_i els
  split at h
  ·rename_i hc
   injection h with h;injection h with h1 h2;subst h1;subst h2
   cases hv with|d _ _ hh =>
   obtain⟨ad,c,rfl,_⟩:=mQ hh
   obtain⟨news,h1,h2,h3,h4⟩:=data els ad c hh hc.1 hc.2
   exact⟨ad,c,news,rfl,h1,h2,h3,h4⟩
  ·cases h
 ·rename_i els
  split at h
  ·rename_i hc
   injection h with h;injection h with h1 h2;subst h1;subst h2
   obtain⟨ad,rfl,hh⟩:=rV hv
   obtain⟨news,h1,h2,h3,h4⟩:=data els ad _ hh hc.1 hc.2
   exact⟨ad,_,news,rfl,h1,h2,h3,h4⟩
  ·cases h
 ·cases h
end
def aCr(P:Program)(H:Hp)(t:TypeId)(s x:AV)(n:Nat):Option (AV×Option HO×List Nat) :=
 (tel P t).bind λe=>(tsz P e).bind λsz=>(tby P e).bind λbt=>(tz P e).bind λz=>(aAp H sz x).bind λp =>
  if z.cells.size=sz/\0<sz then
   match s with
   |.nil=>if p.1=0 then some (.nil,none,[])else if p.1*bt<=140737488355328/\p.1<=maxLen then some (.own n 0 p.1 sz,some (.cells e p.2),[])else none
   |.own id off len sz'=>match H id with
    |some (.cells e' cs)=>if off=0/\sz'=sz/\e'=e/\cs.length=len*sz/\(len+p.1)*bt<=140737488355328/\len+p.1<=maxLen then
      some (.own n 0 (len+p.1) sz,some (.cells e (cs++p.2)),[id])else none
    |_=>none
   |.fd els => if 0 < p.1 /\ fB sz els = true /\ (els.flatten.map AV.d).all one = true /\ (els.length + p.1)*bt <= 140737488355328 /\ els.length + p.1 <= maxLen then
         some (.own n 0 (els.length+p.1) sz,some (.cells e (els.flatten.map .d++p.2)),[])else if p.1=0 then some (.fd els,none,[])else none
   |_=>none
  else none
section
variable {P:Program} {F:Nat->Prop} {w:World} {ι:Nat->Option Nat} {G:Ctx} {C:Nat->Prop} {H K:Hp}
def HR.inplace(hR:HR G F w ι C K){id b n:Nat}{e:TypeId}{cs news:List AV}{cur cur':Array Value}{w':World}(hC:¬C id)(hι:ι id=some b)(hn:ι n=none)
  (hK:K id=some (.cells e cs)) (hKn:K n=some (.cells e (cs++news))) (hb:w.heap[b]? = some (.cells cur e (0,0))) (hb':w'.heap[b]? = some (.cells cur' e (0,0)))
  (hs:cur'.size=cur.size) (hfit:cs.length+news.length<=cur'.size) (hold:∀k,k<cs.length->cur'[k]? = cur[k]?)
  (hnew:∀(j:Nat) c,news[j]? = some c->∃u,cur'[cs.length+j]? = some u/\V F w ι c u)
  (hsize:w'.heap.size=w.heap.size) (hoth:∀k,k≠b->w'.heap[k]? = w.heap[k]?) (hos:w'.os=w.os) (htp:w'.tape=w.tape) (hout:w'.output=w.output) :
  HR G F w' (upd ι n (some b)) (λi=>C i\/i=id) K/\Step F w ι F w' (upd ι n (some b)):=by
 have hnF:¬F b:=(hR.place id b hι).2.2 hC
 have hst:Step F w ι F w' (upd ι n (some b)):=by
  refine⟨λ_ h=>h,λk hk=>hoth k (λe=>hnF (e ▸ hk)),λi k hi=>by rw[dX _ _ (λhe=>by rw[he,hn]at hi;cases hi)];exact hi,λi k c0 e0 hi hk=>?_⟩;by_cases hkb:k=b
  ·subst hkb;rw[hb]at hk;injection hk with hk;injection hk with h1 h2;subst h1;subst h2
   exact⟨cur',hb',hs⟩
  ·exact⟨c0,(hoth k hkb).trans hk,rfl⟩
 have split_ι:∀i k,upd ι n (some b) i=some k->(i=n/\k=b)\/(i≠n/\ι i=some k):=by
  intro i k hi;by_cases h:i=n
  ·subst h;rw[dC]at hi;injection hi with hi;exact .inl ⟨rfl,hi.symm⟩
  ·rw[dX _ _ h]at hi;exact .inr ⟨h,hi⟩
 have shp:∀(k:Nat) (c0:Array Value) (e0:TypeId),w.heap[k]? = some (Obj.cells c0 e0 (0,0))->∃c1:Array Value,w'.heap[k]? = some (Obj.cells c1 e0 (0,0))/\c1.size=c0.size:=λk c0 e0 hk=>by
  by_cases hkb:k=b
  ·subst hkb;rw[hb]at hk;injection hk with hk;injection hk with h1 h2;subst h1;subst h2
   exact⟨cur',hb',hs⟩
  ·exact⟨c0,(hoth k hkb).trans hk,rfl⟩
 refine⟨⟨hR.kept.trans ⟨hos,htp,hout,by omega,λk hk hm=>hoth k λe=>?_,λk c0 e0 hk hc=>shp k c0 e0 hc⟩,λk hk=>by rw[hsize];exact hR.F_lt k hk,hR.F_ok,?_,?_,?_,?_⟩,hst⟩
 ·subst e
  rcases(hR.place id k hι).1 with h|h
  ·exact hm h
  ·omega
 ·intro i k hi
  rcases split_ι i k hi with ⟨rfl,rfl⟩|⟨_,hi⟩
  ·obtain⟨h1,h2,_⟩:=hR.place id k hι
   exact⟨h1,by omega,λ_=>hnF⟩
  ·obtain⟨h1,h2,h3⟩:=hR.place i k hi
   exact⟨h1,by omega,λhc=>h3 λx=>hc (.inl x)⟩
 ·intro i k o hi ho
  rcases split_ι i k hi with ⟨rfl,rfl⟩|⟨_,_⟩
  ·rw[hKn]at ho;injection ho with ho;subst ho
   refine⟨_,hb',.cells _ _ _ (by simp;omega) λj c hj=>?_⟩
   by_cases hjl:j<cs.length
   ·rw[AJ hjl]at hj
    obtain⟨ob,h2,h3⟩:=hR.obj id k _ hι hK
    rw[hb]at h2;injection h2 with h2;subst h2
    cases h3 with|cells _ _ _ hl h =>
    obtain⟨u,hu,hv⟩:=h j c hj
    exact⟨u,(hold j hjl).trans hu,hv.step hst⟩
   ·rw[Az (by omega)]at hj
    obtain⟨u,hu,hv⟩:=hnew _ _ hj
    exact⟨u,by rw[<-hu];congr 1;omega,hv.step hst⟩
  ·rename_i hi2
   obtain⟨ob,h2,h3⟩:=hR.obj i k o hi2 ho
   by_cases hkb:k=b
   ·subst hkb
    rw[hb]at h2;injection h2 with h2;subst h2
    have hlen:=hR.len id i k _ _ hι hi2 hC hK ho
    cases h3 with|cells _ cs' _ hl h =>
    simp only[HO.len]at hlen
    refine⟨_,hb',.cells _ _ _ (by omega) λj c hj=>?_⟩
    obtain⟨u,hu,hv⟩:=h j c hj
    have:j<cs'.length:=(Ah.1 hj).1
    exact⟨u,(hold j (by omega)).trans hu,hv.step hst⟩
   ·exact⟨ob,(hoth k hkb).trans h2,h3.step hst⟩
 ·intro i i' k hi hi' hc hc'
  rcases split_ι i k hi with ⟨h1,h2⟩|⟨h1,h2⟩<;>rcases split_ι i' k hi' with ⟨h1',h2'⟩|⟨h1',h2'⟩
  ·rw[h1,h1']
  ·subst h2;exact absurd (hR.inj i' id k h2' hι (λx=>hc' (.inl x)) hC) λx=>hc' (.inr x)
  ·subst h2';exact absurd (hR.inj i id k h2 hι (λx=>hc (.inl x)) hC) λx=>hc (.inr x)
  ·exact hR.inj i i' k h2 h2' (λx=>hc (.inl x)) λx=>hc' (.inl x)
 ·intro i i' k o o' hi hi' hc ho ho'
  rcases split_ι i k hi with ⟨h1,h2⟩|⟨h1,h2⟩<;>rcases split_ι i' k hi' with ⟨h1',h2'⟩|⟨h1',h2'⟩
  ·rw[h1]at ho;rw[h1',ho]at ho';injection ho' with h;subst h;exact Ap _
  ·subst h2
   rw[h1,hKn]at ho;injection ho with ho;subst ho
   have:=hR.len id i' k _ _ hι h2' hC hK ho'
   simp only[HO.len]at this ⊢
   simp;omega
  ·subst h2';exact absurd (hR.inj i id k h2 hι (λx=>hc (.inl x)) hC) λx=>hc (.inr x)
  ·exact hR.len i i' k o o' h2 h2' (λx=>hc (.inl x)) ho ho'
def oE{t e:TypeId}{sz:Nat}(ht:tel P t=some e)(hs:tsz P e=some sz)(ty:TypeId)(b:Option Addr)(n cap c:Nat)(hc:n<=cap)(w:World) :
  (BT #[t,t] ty #[.slice b n cap,.slice none 0 c]).run P w=.ok (.slice b n cap) w:=by
 cases b<;>simp[BT,run_underlying (iV ht),run_sizeOf w hs,Fv,hc,C8,storeCells]
def tD{t e:TypeId}{sz:Nat}(ht:tel P t=some e)(hs:tsz P e=some sz)(ty:TypeId)(a:Addr)(c:Nat)(w:World) :
  (BT #[t,t] ty #[.slice none 0 0,.slice (some a) 0 c]).run P w=.ok (.slice none 0 0) w:=by
 simp[BT,run_underlying (iV ht),run_sizeOf w hs,Fv,C8,loadCells,loadCellsFrom]
def aAt{t e:TypeId}{sz:Nat}(ht:tel P t=some e)(hs:tsz P e=some sz)(ty:TypeId)(b a:Addr)(n c:Nat)(w:World) :
  (BT #[t,t] ty #[.slice (some b) n n,.slice (some a) 0 c]).run P w=.ok (.slice (some b) n n) w:=by
 simp[BT,run_underlying (iV ht),run_sizeOf w hs,Fv,C8,loadCells,loadCellsFrom,storeCells]
variable {J:Nat->AV} {n:Nat} {o:Oper}
def bWx{e:TypeId}{sz bt:Nat}{z:Value}(h1:tsz P e=some sz)(h2:tby P e=some bt)(h3:tz P e=some z):∃i,P.info? e=some i/\i.zero=some z/\i.size=sz/\i.bytes=bt:=by
 obtain⟨i,hi,rfl⟩:=Aj.1 h1;obtain⟨j,hj,rfl⟩:=Aj.1 h2;obtain⟨k,hk,hz⟩:=Ae.1 h3;rw[hi]at hj hk;injection hj with hj;injection hk with hk;subst hj;subst hk
 exact⟨i,hi,hz,rfl,rfl⟩
def aNz{s x:Operand}{t:TypeId}{av:AV}{nb:Option HO}{con:List Nat}(ho:o.op=.call { callee:=.builtin .append,args:=#[s,x],argTypes:=#[t,t] })
  (hHK:∀id ob,H id=some ob->K id=some ob) (h:aCr P H t (oev J s) (oev J x) n=some (av,nb,con)) (hK:∀ob,nb=some ob->K n=some ob) (hcon:∀id∈con,¬C id) :
  Y P G o J C K K av (λi=>nb.isSome=true/\i=n) (λi=>i∈con):=by
 intro F w ι a hR hop hnew next Q hnext
 have os:V F w ι (oev J s) (a.eval s):=fD λt e=>hop t (by rw[ho];simp[AN,Bp,e])
 have ox:V F w ι (oev J x) (a.eval x):=fD λt e=>hop t (by rw[ho];simp[AN,Bp,e])
 unfold aCr at h
 obtain⟨e,he,h⟩:=Ae.1 h
 obtain⟨sz,hsz,h⟩:=Ae.1 h
 obtain⟨bt,hbt,h⟩:=Ae.1 h
 obtain⟨z,hz,h⟩:=Ae.1 h
 obtain⟨⟨m,ncs⟩,hsrc,h⟩:=Ae.1 h
 obtain⟨i,hi,hiz,his,hib⟩:=bWx hsz hbt hz
 obtain⟨ad,c,news,hxv,hcv,hncl,hcell,hnil⟩:=bGc hR hHK hsrc ox
 have hnl:news.length=m*i.size:=by have:=hcv.1;simp only[B0]at this;rw[his,<-hncl,this]
 have h1c:∀u∈news,u.oneCell'=true:=λu hu=>hcv.2.2 u (by simpa using hu)
 split at h
 case isFalse=>cases h
 rename_i hzs
 obtain⟨hzs,hpos⟩:=hzs
 -- what an operation that gives this value in this world does
 have fin:∀(u:Value) (w':World) (F':Nat->Prop) (ι':Nat->Option Nat),(BT #[t,t] o.type #[a.eval s,a.eval x]).run P w=.ok u w'->HR G F' w' ι' (λj=>C j\/j∈con) K ->
   Step F w ι F' w' ι'->(∀id b,ι' id=some b->ι id=some b\/(nb.isSome=true/\id=n))->(∀id,(nb.isSome=true/\id=n)->∃b,ι' id=some b)->V F' w' ι' av u->o.wp P a w next Q:=by
  intro u w' F' ι' hr hR' hs' hd hd' hv
  unfold DY
  simp only[execOp,ho,resolve,invoke,builtin,A3,Bz,AX,List.map_toArray,List.map_cons,List.map_nil,hr,D6]
  exact hnext F' w' ι' u hR' hs' hd hd' hv
 -- a new block
 have grown:∀(vals:List Value) (zs:Array Value) (cells:List AV) (cap l:Nat),nb=some (.cells e cells)->av=.own n 0 l sz->(cells.length=vals.length/\∀(k:Nat) c,cells[k]? = some c->∃u,vals[k]? = some u/\V F w ι c u)->l<=cap->cap<=maxLen->cap*sz<=(vals.toArray++zs).size ->
   (BT #[t,t] o.type #[a.eval s,a.eval x]).run P w=.ok (.slice (some ⟨w.heap.size,0,none⟩) l cap) (w.drew.alloc (.cells (vals.toArray++zs) e))->o.wp P a w next Q:=by
  intro vals zs cells cap l hnb hav hcvv hlc hcm hcs hrun
  subst hav
  have h0:ι n=none:=hnew n ⟨by rw[hnb];rfl,rfl⟩
  have hw:=mR.drew w (.cells (vals.toArray++zs) e)
  have hs:=xG hR n h0 hw
  have hcr:CR F (w.drew.alloc (.cells (vals.toArray++zs) e)) (upd ι n (some w.heap.size)) (.cells e cells) (.cells (vals.toArray++zs) e (0,0)):=by
   refine .cells _ _ _ (by have:=hcvv.1;simp at this ⊢;omega) λk c hk=>?_
   obtain⟨u,hu,hv⟩:=hcvv.2 k c hk;have hlt:=(Ah.1 hu).1;exact⟨u,by rw[Array.getElem?_append_left (by simpa using hlt)];simpa using hu,hv.step hs⟩
  refine fin _ _ F _ hrun ((hR.alloc n h0 hw _ (hK _ hnb) hcr).weakC λ_ h=>.inl h) hs (λid b e=>?_) (λid h=>⟨w.heap.size,by rw[h.2,dC]⟩) ?_
  ·by_cases hid:id=n
   ·exact .inr ⟨by rw[hnb];rfl,hid⟩
   ·rw[dX _ _ hid]at e;exact .inl e
  ·have:=V.own (F:=F) (w:=w.drew.alloc (.cells (vals.toArray++zs) e)) (ι:=upd ι n (some w.heap.size)) n 0 l sz w.heap.size cap _ e (dC _ _ _) hw.new (by rw[A6];exact hcs) hlc hcm
   simpa using this
 have cvw:CV F w ι ncs news.toArray->(ncs.length=news.length/\∀(k:Nat) c,ncs[k]? = some c->∃u,news[k]? = some u/\V F w ι c u):=λhc =>
  ⟨by simpa using hc.1,λk c hk=>let ⟨u,hu,hv⟩:=hc.get hk;⟨u,by simpa using hu,hv⟩⟩
 split at h
 ·-- nil
  rename_i hsn
  rw[hsn]at os
  generalize hsv:a.eval s=sv at os fin grown
  cases os
  simp only at h
  by_cases hm:m=0
  ·rw[Ad hm]at h
   injection h with h;injection h with h1 h2;injection h2 with h2 h3;subst h1;subst h2;subst h3;subst hm
   have hrun:(BT #[t,t] o.type #[.slice none 0 0,a.eval x]).run P w=.ok (.slice none 0 0) w:=by
    rw[hxv];cases ad with
    |none=>exact oE he hsz _ _ _ _ _ (Ap _) _
    |some ad=>exact tD he hsz _ _ _ _
   exact fin _ _ F ι hrun (hR.congrC λid=>⟨λh=>.inl h,λh=>h.elim (λx=>x) (λh=>by cases h)⟩) (.refl _ _ _) (λ_ _ h=>.inl h) (λ_ h=>by simp at h) .nil
  ·rw[Ac hm]at h
   split at h
   ·rename_i hb
    injection h with h;injection h with h1 h2;injection h2 with h2 h3;subst h1;subst h2;subst h3
    cases ad with
    |none=>exact absurd (hnil rfl) hm
    |some ad =>
     have hr:=run_append_nil (P:=P) w t o.type e i z (iV he) hi hiz ad m c news hnl (hcell _ rfl) (by omega) (by have:=hb.2;simp only[maxLen]at this;omega) (by rw[hib];omega)
     rw[<-hxv]at hr
     refine grown news _ ncs _ m rfl rfl (cvw hcv) (grownCap_ge _ _ _ _) (grownCap_le_maxLen _ _ _ _ hb.2) ?_ hr
     have h1:=grownCap_ge w m 0 e
     simp only[DG,B0,size_zeroCells,hzs,hnl,his,<-By]
     rw[show m+(grownCap w m 0 e-m)=grownCap w m 0 e from by omega]
     exact Ap _
   ·cases h
 ·-- own
  rename_i id off len sz' hsn
  rw[hsn]at os
  generalize hsv:a.eval s=sv at os fin grown
  cases os with|own _ _ _ _ b cap cur0 e0 hι hb0 hcap hlc hcm =>
  split at h
  ·rename_i e' cs hH
   split at h
   ·rename_i hc
    obtain⟨rfl,rfl,rfl,hcl,hby,hml⟩:=hc
    injection h with h;injection h with h1 h2;injection h2 with h2 h3;subst h1;subst h2;subst h3
    obtain⟨cur,hb,hl,hcc⟩:=hR.cells hHK hι hH
    rw[hb]at hb0;injection hb0 with hb0;injection hb0 with e1 e2;subst e1;subst e2
    rw[A6]at hcap
    rw[Cn]at fin grown
    have hCid:¬C id:=hcon id (by simp)
    have h0:ι n=none:=hnew n ⟨rfl,rfl⟩
    have inpl:∀(cur':Array Value) (w':World),(BT #[t,t] o.type #[.slice (some ⟨b,0,none⟩) len cap,a.eval x]).run P w=.ok (.slice (some ⟨b,0,none⟩) (len+m) cap) w' ->
      len+m<=cap->w'.heap[b]? = some (.cells cur' e' (0,0))->cur'.size=cur.size->(∀k,k<cs.length->cur'[k]? = cur[k]?)->(∀(j:Nat) c,ncs[j]? = some c->∃u,cur'[cs.length+j]? = some u/\V F w ι c u) ->
      w'.heap.size=w.heap.size->(∀k,k≠b->w'.heap[k]? = w.heap[k]?)->w'.os=w.os->w'.tape=w.tape->w'.output=w.output->o.wp P a w next Q:=by
     intro cur' w' hrun hroom hb' hs' hold hnw hsize hoth hos htp hout
     have hfit:cs.length+ncs.length<=cur'.size:=by rw[hcl,hncl,<-By,hs'];exact An (A8 _ hroom) hcap
     obtain⟨hR',hst⟩:=hR.inplace hCid hι h0 (hHK _ _ hH) (hK _ rfl) hb hb' hs' hfit hold hnw hsize hoth hos htp hout
     refine fin _ _ F _ hrun (hR'.congrC λj=>by simp) hst (λid b e=>?_) (λid h=>⟨b,by rw[h.2,dC]⟩) ?_
     ·by_cases hid:id=n
      ·exact .inr ⟨rfl,hid⟩
      ·rw[dX _ _ hid]at e;exact .inl e
     ·have:=V.own (F:=F) (w:=w') (ι:=upd ι n (some b)) n 0 (len+m) sz' b cap cur' e' (dC _ _ _) hb' (by rw[A6,hs'];exact hcap) hroom hcm
      simpa using this
    cases ad with
    |none =>
     have hm0:=hnil rfl
     subst hm0
     have hn0:ncs=[]:=AE (by rw[hncl,Cn])
     subst hn0
     refine inpl cur w ?_ (by omega) hb rfl (λ_ _=>rfl) (λj c h=>by simp at h) rfl (λ_ _=>rfl) rfl rfl rfl
     rw[hxv]
     exact oE he hsz _ _ _ _ _ hlc _
    |some ad =>
     by_cases hroom:len+m<=cap
     ·have hfit:len*i.size+news.length<=cur.size:=by rw[hnl,<-By,his];exact An (A8 _ hroom) hcap
      have hr:=run_append_room (P:=P) w t o.type e' i (iV he) hi b len cap cur hb ad m c news hnl (hcell _ rfl) h1c hroom hfit
      rw[<-hxv]at hr
      have hg:=setRow_heap w b cur (cur.toList.take (len*i.size)++news++cur.toList.drop (len*i.size+news.length)).toArray e' (0,0) hb
      have hcl':cs.length=len*i.size:=by rw[his];exact hcl
      have hmin:(cur.toList.take (len*i.size)).length=len*i.size:=by rw[Ax,BS];omega
      refine inpl _ _ hr hroom hg ?_ (λk hk=>?_) (λj cc hj=>?_) (by simp) (λk hk=>setRow_other w b k _ hk) rfl rfl rfl
      ·simp only[B0,Ak,Ax,List.length_drop,BS];omega
      ·rw[Cf,Bh,AJ (by omega),Bb,Ad (by omega),Bn]
      ·obtain⟨u,hu,hv⟩:=hcv.get hj
       refine⟨u,?_,hv⟩
       have hjl:j<news.length:=by have:=(BV.1 hu).1;simpa using this
       rw[Cf,Bh,Az (by omega),hmin,hcl',
        show len*i.size+j-len*i.size=j from by omega,AJ hjl]
       simpa using hu
     ·have holds:∀j u,(cur.toList.take (len*i.size))[j]? = some u->w.cell? ((⟨b,0,none⟩:Addr).add j)=some u:=by
       intro j u hu;rw[Bb]at hu;split at hu
       ·rw[oJ,A6,cell_of_row w b _ cur e' (0,0) hb];simpa using hu
       ·cases hu
      have hcl':cs.length=len*i.size:=by rw[his];exact hcl
      have hr:=run_append_grow (P:=P) w t o.type e' i z (iV he) hi hiz ⟨b,0,none⟩ len cap (cur.toList.take (len*i.size)) (by simp;omega) holds ad m c news hnl (hcell _ rfl) (by omega)
       (by simp only[maxLen]at hml;omega) (growslice_fits (by omega) (by rw[hib];exact hby))
      rw[<-hxv,show(cur.toList.take (len*i.size)).toArray++news.toArray=(cur.toList.take (len*i.size)++news).toArray from by simp]at hr
      have hvals:(cs++ncs).length=((cur.toList.take (len*i.size))++news).length/\∀(k:Nat) c,(cs++ncs)[k]? = some c->∃u,((cur.toList.take (len*i.size))++news)[k]? = some u/\V F w ι c u:=by
       refine⟨?_,λk cc hk=>?_⟩
       ·have:=hcv.1;simp at this ⊢;omega
       ·by_cases hkl:k<cs.length
        ·rw[AJ hkl]at hk;obtain⟨u',hu',hv⟩:=hcc k cc hk;exact⟨u',by rw[AJ (by simp;omega),Bb,Ad (by omega),Bn];exact hu',hv⟩
        ·rw[Az (by omega)]at hk;obtain⟨u,hu,hv⟩:=hcv.get hk;exact⟨u,by rw[Az (by simp;omega),show(cur.toList.take (len*i.size)).length=cs.length from by rw[Ax,BS];omega];simpa using hu,hv⟩
      refine grown _ (BG z.cells (grownCap w (len+m) cap e'-(len+m))) (cs++ncs) _ (len+m) rfl rfl hvals (grownCap_ge w (len+m) cap e') (grownCap_le_maxLen w (len+m) cap e' hml) ?_ hr
      have h1:=grownCap_ge w (len+m) cap e'
      simp only[DG,B0,size_zeroCells,hzs,Ak,Ax,BS,hnl,his]
      have h2:len*sz'<=cur.size:=by omega
      rw[BR h2,<-By,<-By,show len+m+(grownCap w (len+m) cap e'-(len+m))=grownCap w (len+m) cap e' from by omega]
      exact Ap _
   ·cases h
  ·cases h
 ·-- a full slice
  rename_i els hsn
  rw[hsn]at os
  split at h
  ·rename_i hc
   obtain⟨hm,hok,hone,hby,hml⟩:=hc
   injection h with h;injection h with h1 h2;injection h2 with h2 h3;subst h1;subst h2;subst h3
   obtain⟨sad,hse,hh⟩:=rV os
   have hs2:aAp H sz (.fd els)=some (els.length,els.flatten.map .d):=by simp only[aAp];rw[Ad ⟨hok,hone⟩]
   obtain⟨ad2,c2,olds,hov,hocv,hocl,hocell,honil⟩:=bGc hR hHK hs2 os
   rw[hse]at hov;injection hov with e1 e2 e3;subst e1;subst e3
   have hol:olds.length=els.length*i.size:=by have:=hocv.1;simp only[B0]at this;rw[his,<-hocl,this]
   cases ad with
   |none=>exact absurd (hnil rfl) (by omega)
   |some ad =>
    cases sad with
    |none =>
     have hl0:=honil rfl
     have hels:els=[]:=AE hl0
     subst hels
     have hr:=run_append_nil (P:=P) w t o.type e i z (iV he) hi hiz ad m c news hnl (hcell _ rfl) (by omega) (by simp only[maxLen]at hml;simp at hml;omega) (by rw[hib];simp at hby;omega)
     rw[<-hxv]at hr
     simp only[Bq]at hse
     rw[<-hse]at hr
     simp only[Bq,A6]at hml
     refine grown news _ ([]++ncs) _ (0+m) (by simp) (by simp) (cvw hcv) (by rw[A6];exact grownCap_ge w m 0 e) (grownCap_le_maxLen _ _ _ _ hml) ?_ (by rw[A6];exact hr)
     have h1:=grownCap_ge w m 0 e
     simp only[DG,B0,size_zeroCells,hzs,hnl,his,<-By]
     rw[show m+(grownCap w m 0 e-m)=grownCap w m 0 e from by omega]
     exact Ap _
    |some sad =>
     have hr:=run_append_grow (P:=P) w t o.type e i z (iV he) hi hiz sad els.length els.length olds hol (hocell _ rfl) ad m c news hnl (hcell _ rfl) (by omega)
      (by simp only[maxLen]at hml;omega) (growslice_fits (by omega) (by rw[hib];exact hby))
     rw[<-hxv,<-hse,show olds.toArray++news.toArray=(olds++news).toArray from by simp]at hr
     have hvals:(els.flatten.map AV.d++ncs).length=(olds++news).length/\∀(k:Nat) c,(els.flatten.map AV.d++ncs)[k]? = some c->∃u,(olds++news)[k]? = some u/\V F w ι c u:=by
      have ho1:=hocv.1;simp only[B0]at ho1;refine⟨?_,λk cc hk=>?_⟩
      ·have:=hcv.1;simp only[B0,Ak]at this ⊢;omega
      ·by_cases hkl:k<(els.flatten.map AV.d).length
       ·rw[AJ hkl]at hk;obtain⟨u,hu,hv⟩:=hocv.get hk;exact⟨u,by rw[AJ (by omega)];simpa using hu,hv⟩
       ·rw[Az (by omega)]at hk;obtain⟨u,hu,hv⟩:=hcv.get hk;exact⟨u,by rw[Az (by omega),<-ho1];simpa using hu,hv⟩
     refine grown _ (BG z.cells (grownCap w (els.length+m) els.length e-(els.length+m))) (els.flatten.map .d++ncs) _ (els.length+m) rfl rfl hvals (grownCap_ge w (els.length+m) els.length e) (grownCap_le_maxLen w (els.length+m) els.length e hml) ?_ hr
     have h1:=grownCap_ge w (els.length+m) els.length e
     simp only[DG,B0,size_zeroCells,hzs,Ak,hol,hnl,his]
     rw[<-By,<-By,show els.length+m+(grownCap w (els.length+m) els.length e-(els.length+m))=grownCap w (els.length+m) els.length e from by omega]
     exact Ap _
  ·split at h
   ·rename_i hm0
    injection h with h;injection h with h1 h2;injection h2 with h2 h3;subst h1;subst h2;subst h3
    replace hm0:m=0:=hm0
    subst hm0
    obtain⟨sad,hse,hh⟩:=rV os
    have hrun:(BT #[t,t] o.type #[a.eval s,a.eval x]).run P w=.ok (a.eval s) w:=by
     rw[hxv,hse];cases ad with
     |none=>exact oE he hsz _ _ _ _ _ (Ap _) _
     |some ad =>
      cases sad with
      |some sad=>exact aAt he hsz _ _ _ _ _ _
      |none =>
       have hl:els.length=0:=by
        have key:∀(v:Value) (k:Nat),VD F w (.sl els) v->v=.slice none k k->els.length=0:=by
         intro v k h e;cases h with
         |sl0=>rfl
         |sl=>cases e
        exact key _ _ hh rfl
       rw[hl];exact tD he hsz _ _ _ _
    exact fin _ _ F ι hrun (hR.congrC λid=>⟨λh=>.inl h,λh=>h.elim (λx=>x) (λh=>by cases h)⟩) (.refl _ _ _) (λ_ _ h=>.inl h) (λ_ h=>by simp at h) os
   ·cases h
 ·cases h
end
end Go.Am
end
