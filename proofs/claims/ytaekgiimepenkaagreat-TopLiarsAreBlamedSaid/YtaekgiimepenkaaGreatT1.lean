/- The abstract machine, part 11d: calls whose result holds new blocks that the caller goes on writing. No condition. -/
import Derived.WalkKit
import Derived.Still
import Derived.MapKept
import Derived.Maps.RangeRun
import Derived.Calls
import Derived.Conc.Own
import Derived.Laws.Sem
import Derived.Conc.Own5
import Derived.Orders
import Derived.Scope
import Derived.Laws.Append
import Derived.Laws.AppendOwn
import Derived.Laws.CopyRow
import Derived.Laws.StructEq
set_option linter.all false
open Array renaming all_eq_true_iff_forall_mem->C1,append_empty->CP,empty_append->Cy,eraseIdxIfInBounds->G3,getElem?_append_left->B5,getElem?_eq_getElem->Ar,getElem?_eq_none->C3,getElem?_eq_some_iff->Bm,getElem?_map->B6,getElem?_modify->Gc,getElem?_push->BW,getElem?_setIfInBounds_ne->AI,getElem?_toList->Bq,length_toList->BP,mem_append->Ed,mem_iff_getElem->Fl,mem_of_getElem?->B7,range->GV,replicate->Bd,size_append->Fo,toList_append->GG,toList_map->Gh
open Bool renaming and_eq_true->A5,false->Az,false_eq_true->Ch,not_eq_true'->Dd,true->Ak
open Go renaming BinOp->FV,Code->B1,Event->C5,Exit->Cf,Frame->BU,FuncId->AU,Goroutine->Ay,IntKind->BJ,Oper->Bf,Operand->AN,Program->As,TypeId->AF,Value->AE,World->Ag
open Go.Array renaming range_zero'->GU
open Go.Builtin renaming append_->Cm,firstCells->DS,lenOf->Er,len_->GH,nextslicecap->Fs,zeroCells->DH
open Go.Call renaming operands->Bs
open Go.CallKind renaming early->DO
open Go.Deferred renaming ofValue->Cx
open Go.Exit renaming inBlock->EE
open Go.Frame renaming finish_at->Ek
open Go.GStep renaming after->CJ
open Go.Instr renaming findNow->G2,indexAt->EN,loadAt->E7,lookup->GI,makeFunc->F8,sliceBounds->Ei,sureAddr->CH
open Go.IntKind renaming i64->Ax
open Go.MapKept renaming IsKey->EM,Stamped->Fc
open Go.Obj renaming cells->DM
open Go.Op renaming eqGuardIn->D3,equal->Gt,equalIn->D2,maxDepth->DG,operands->AJ
open Go.Operand renaming tmp->CK
open Go.Question renaming forced->Fg
open Go.Region renaming binds->Dx,ready->Bo,schedule->Ff,wanted->Bu
open Go.Region.linearise renaming go->BF
open Go.Result renaming andThen_halt->GD,andThen_ok->AR
open Go.Sem renaming bind->EU,runT->Fe,runT_eq->DU
open Go.Value renaming oneCell'->CZ
open Go.World renaming cell?->BN,frozen?->DY,setCell->FJ
open Go.stepG renaming exec->Cp
open List renaming all_eq_true->A1,append_assoc->Db,eq_nil_of_length_eq_zero->BI,flatMap_cons->GW,flatten_cons->Dq,getElem?_append_left->Bb,getElem?_append_right->AZ,getElem?_cons_succ->BT,getElem?_cons_zero->Ca,getElem?_drop->B0,getElem?_eq_getElem->Ac,getElem?_eq_some_iff->AA,getElem?_map->Ao,getElem?_range->BZ,getElem?_take->BM,getElem?_toArray->Cb,getElem?_zip_eq_some->FF,getElem_mem->B3,length_append->BK,length_cons->Av,length_drop->Et,length_map->BV,length_nil->AK,length_take->Bt,mapM_cons->CG,map_cons->BX,map_nil->Ee,map_toArray->Gi,mem_cons->BQ,mem_cons_of_mem->AT,mem_cons_self->AX,mem_flatMap->B4,mem_iff_getElem->BE,mem_of_getElem?->At,range->AW,range'_succ->Es,replicate->AO,size_toArray->AG
open List.cons renaming injEq->Gz
open Nat renaming add_assoc->EL,add_comm->EF,add_mul->C0,add_zero->CU,le_refl->AM,le_trans->Bg,lt_or_ge->Bc,min_eq_left->Dv,mod_eq_of_lt->Cr,mod_lt->B9,mul_le_mul_right->Ck,one_mul->Fu,strongRecOn->FN,sub_self->Dw,zero_add->AP,zero_le->BH,zero_mul->Ef
open Ne renaming symm->DZ
open Option renaming bind_eq_bind->Dk,bind_eq_some_iff->Af,bind_some->EV,isSome_iff_exists->Dj,map_eq_some_iff->Ai,map_some->Bj,none->Aj,pure_def->D9,some->Aa
open Option.some renaming injEq->AH
open Std.Legacy.Range renaming forIn_eq_forIn_range'->Ft
open _root_ renaming Array->Aw,Bool->Bw,Int->Al,List->Ad,Nat->Ae,Option->Aq,beq_iff_eq->C6,if_false->DV,if_neg->Ap,if_pos->AB,if_true->CN
open List renaming map_map->E,mapM_map->L
namespace Go.Am
inductive D where
 |b (x:Bw)
 |i (k:BJ) (n:Al)
 |sl (els:Ad (Ad D))
 |ag (cs:Ad D)
 |tp (vs:Ad D)
 |lit (v:AE)
 |pt (cs:Ad D)
 |fn (f:AU) (cs:Ad D)
 |mp (k:BJ) (ks:Ad Al) (vs:Ad D)
 |iff (t:AF) (x:D)
 |fm (f:AU) (x:D)
 deriving Inhabited
inductive VD(F:Ae->Prop)(w:Ag):D->AE->Prop where
 |b (x:Bw):VD F w (.b x) (.bool x)
 |i (k:BJ) (n:Al):VD F w (.i k n) (.int k n)
 |sl0 (ad:Aq Addr) (c:Ae):VD F w (.sl []) (.slice ad 0 c)
 | sl (els:Ad (Ad D)) (ad:Addr) (n c sz:Ae) (f:Ae->AE) (hn:n=els.length) (hc:n<=c) (hsz:∀cs∈els,cs.length=sz) (hF:F ad.block)
   (hcell:∀j,j<n*sz->w.cell? (ad.add j)=Aa (f j)) (hel:∀(j k:Ae) cs c,els[j]? = Aa cs->cs[k]? = Aa c->VD F w c (f (j*sz+k))) :
   VD F w (.sl els) (.slice (Aa ad) n c)
 |ag (cs:Ad D) (vs:Aw AE) (hl:cs.length=vs.size) (h:∀(k:Ae) c v,cs[k]? = Aa c->vs[k]? = Aa v->VD F w c v):VD F w (.ag cs) (.agg vs)
 |tp (cs:Ad D) (vs:Aw AE) (hl:cs.length=vs.size) (h:∀(k:Ae) c v,cs[k]? = Aa c->vs[k]? = Aa v->VD F w c v):VD F w (.tp cs) (.tuple vs)
 |lit (v:AE):VD F w (.lit v) v
 |pt (cs:Ad D) (ad:Addr) (f:Ae->AE) (hF:F ad.block) (hcell:∀j,j<cs.length->w.cell? (ad.add j)=Aa (f j)) (hel:∀(k:Ae) c,cs[k]? = Aa c->VD F w c (f k)):VD F w (.pt cs) (.pointer (Aa ad))
 |fn (g:AU) (cs:Ad D) (vs:Aw AE) (hl:cs.length=vs.size) (h:∀(k:Ae) c v,cs[k]? = Aa c->vs[k]? = Aa v->VD F w c v):VD F w (.fn g cs) (.func (.func g) #[] vs)
 | mp (k:BJ) (ks:Ad Al) (ds:Ad D) (b:Ae) (ents:Aw MapEntry) (clock:Ae) (hF:F b) (hb:w.heap[b]? = Aa (.map ents clock)) (hst:Fc ents clock) (hl:ks.length=ents.size) (hl':ds.length=ents.size)
   (hk:∀(j:Ae) n,ks[j]? = Aa n->∃en,ents[j]? = Aa en/\en.key=.int k n) (hv:∀(j:Ae) d en,ds[j]? = Aa d->ents[j]? = Aa en->VD F w d en.val):VD F w (.mp k ks ds) (.map (Aa b))
 |iff (t:AF) (x:D) (v:AE) (h:VD F w x v):VD F w (.iff t x) (.iface t v)
 |fm (g:AU) (x:D) (u:AE) (h:VD F w x u):VD F w (.fm g x) (.func (.func g) #[u] #[])
inductive AV where
 |d (x:D)
 |nil
 |own (id off len sz:Ae)
 |ptr (id off:Ae)
 |mp (id:Ae)
 |fp (cs:Ad D)
 |fd (els:Ad (Ad D))
 |ag (cs:Ad AV)
 |tp (vs:Ad AV)
 |un
 |ub
 |kf (f:AU) (id:Ae)
 |fn (f:AU) (cs:Ad AV)
 |bm (f:AU) (id off:Ae)
 |any
 deriving Inhabited
inductive V(F:Ae->Prop)(w:Ag)(ι:Ae->Aq Ae):AV->AE->Prop where
 |d (x:D) (v:AE) (h:VD F w x v):V F w ι (.d x) v
 |nil:V F w ι .nil (.slice Aj 0 0)
 | own (id off len sz b cap:Ae) (cur:Aw AE) (e:AF) (hι:ι id=Aa b) (hb:w.heap[b]? = Aa (.cells cur e (0,0))) (hcap:(off+cap)*sz<=cur.size) (hl:len<=cap)
   (hm:cap<=maxLen):V F w ι (.own id off len sz) (.slice (Aa ⟨b,off*sz,Aj⟩) len cap)
 |ptr (id off b:Ae) (hι:ι id=Aa b):V F w ι (.ptr id off) (.pointer (Aa ⟨b,off,Aj⟩))
 |mp (id b:Ae) (hι:ι id=Aa b):V F w ι (.mp id) (.map (Aa b))
 | fp (cs:Ad D) (ad:Addr) (f:Ae->AE) (hF:F ad.block) (hcell:∀j,j<cs.length->w.cell? (ad.add j)=Aa (f j)) (hel:∀(k:Ae) c,cs[k]? = Aa c->VD F w c (f k)) :
   V F w ι (.fp cs) (.pointer (Aa ad))
 |fd (els:Ad (Ad D)) (ad:Aq Addr) (n:Ae) (h:VD F w (.sl els) (.slice ad n n)):V F w ι (.fd els) (.slice ad n n)
 |ag (cs:Ad AV) (vs:Aw AE) (hl:cs.length=vs.size) (h:∀(k:Ae) c v,cs[k]? = Aa c->vs[k]? = Aa v->V F w ι c v):V F w ι (.ag cs) (.agg vs)
 |tp (cs:Ad AV) (vs:Aw AE) (hl:cs.length=vs.size) (h:∀(k:Ae) c v,cs[k]? = Aa c->vs[k]? = Aa v->V F w ι c v):V F w ι (.tp cs) (.tuple vs)
 |un:V F w ι .un undef
 |ub (t:Bw):V F w ι .ub (.bool t)
 |kf (f:AU) (id b p:Ae) (e:AF) (hι:ι id=Aa b) (hF:F p) (hp:w.heap[p]? = Aa (.cells #[.map (Aa b)] e (0,0))):V F w ι (.kf f id) (.func (.func f) #[] #[.pointer (Aa ⟨p,0,Aj⟩)])
 |fn (g:AU) (cs:Ad AV) (vs:Aw AE) (hl:cs.length=vs.size) (h:∀(k:Ae) c v,cs[k]? = Aa c->vs[k]? = Aa v->V F w ι c v):V F w ι (.fn g cs) (.func (.func g) #[] vs)
 |bm (g:AU) (id off b:Ae) (hι:ι id=Aa b):V F w ι (.bm g id off) (.func (.func g) #[.pointer (Aa ⟨b,off,Aj⟩)] #[])
 |any (v:AE):V F w ι .any v
inductive HO where
 |cells (e:AF) (cs:Ad AV)
 |map (k:BJ) (es:Ad (Al×AV))
 |iter (k:BJ) (last:Aq (Al×D)) (es:Ad (Al×D))
 deriving Inhabited
abbrev Hp:=Ae->Aq HO
def HO.len:HO->Ae
 |.cells _ cs=>cs.length
 |.map ..=>0
 |.iter ..=>0
inductive CR(F:Ae->Prop)(w:Ag)(ι:Ae->Aq Ae):HO->Obj->Prop where
 |cells (e:AF) (cs:Ad AV) (cur:Aw AE) (hl:cs.length<=cur.size) (h:∀(k:Ae) c,cs[k]? = Aa c->∃u,cur[k]? = Aa u/\V F w ι c u):CR F w ι (.cells e cs) (.cells cur e (0,0))
 | map (k:BJ) (es:Ad (Al×AV)) (ents:Aw MapEntry) (clock:Ae) (hl:es.length=ents.size) (hst:Fc ents clock)
   (h:∀(j:Ae) x,es[j]? = Aa x->∃en,ents[j]? = Aa en/\en.key=.int k x.1/\V F w ι x.2 en.val):CR F w ι (.map k es) (.map ents clock)
 | iter (k:BJ) (last:Aq (Al×D)) (es:Ad (Al×D)) (bm since c0 clock:Ae) (seen:Aw Ae) (ents:Aw MapEntry) (hF:F bm) (hb:w.heap[bm]? = Aa (.map ents clock)) (hold:∀x∈ents.toList,x.born<since) (hsc:since<=c0/\since<=clock)
   (hn:(ents.toList.map (·.born)).Nodup) (hl:es.length=(leftOf ents seen).size) (h:∀(j:Ae) x,es[j]? = Aa x->∃en,(leftOf ents seen)[j]? = Aa en/\en.key=.int k x.1/\VD F w x.2 en.val)
   (hla:∀x,last=Aa x->c0=clock/\∃(en:MapEntry) (seen0:Aw Ae),seen=seen0.push en.born/\en∈ents.toList/\en.key=.int k x.1/\VD F w x.2 en.val):CR F w ι (.iter k last es) (.mapIter (Aa bm) since seen c0)
structure Step(F:Ae->Prop)(w:Ag)(ι:Ae->Aq Ae)(F':Ae->Prop)(w':Ag)(ι':Ae->Aq Ae):Prop where
 F_le:∀b,F b->F' b
 blk:∀b,F b->w'.heap[b]? = w.heap[b]?
 ι_le:∀id b,ι id=Aa b->ι' id=Aa b
 own:∀id b cur e,ι id=Aa b->w.heap[b]? = Aa (.cells cur e (0,0))->∃cur',w'.heap[b]? = Aa (.cells cur' e (0,0))/\cur'.size=cur.size
def Step.refl(F:Ae->Prop)(w:Ag)(ι:Ae->Aq Ae):Step F w ι F w ι:=⟨λ_ h=>h,λ_ _=>rfl,λ_ _ h=>h,λ_ _ cur _ _ h=>⟨cur,h,rfl⟩⟩
def Step.trans{F F1 F2:Ae->Prop}{w w1 w2:Ag}{ι ι1 ι2:Ae->Aq Ae}(h:Step F w ι F1 w1 ι1)(k:Step F1 w1 ι1 F2 w2 ι2):Step F w ι F2 w2 ι2 :=
 ⟨λb hb=>k.F_le b (h.F_le b hb),λb hb=>(k.blk b (h.F_le b hb)).trans (h.blk b hb),λid b e=>k.ι_le id b (h.ι_le id b e),λid b cur e hi hb=>by
  obtain⟨c1,h1,s1⟩:=h.own id b cur e hi hb;obtain⟨c2,h2,s2⟩:=k.own id b c1 e (h.ι_le id b hi) h1;exact⟨c2,h2,s2.trans s1⟩⟩
def block_add(a:Addr)(j:Ae):(a.add j).block=a.block:=by unfold Addr.add;split<;>rfl
def add_add(a:Addr)(i j:Ae):(a.add i).add j=a.add (i+j):=by unfold Addr.add;by_cases hi:i=0<;>by_cases hj:j=0<;>simp[hi,hj,EL]
def fN(b o j:Ae):(⟨b,o,Aj⟩:Addr).add j=⟨b,o+j,Aj⟩:=by unfold Addr.add;split<;>simp_all
def eJ{w w':Ag}{a:Addr}(h:w'.heap[a.block]? = w.heap[a.block]?):w'.cell? a=w.cell? a:=by simp[BN,h]
def VD.step{F F':Ae->Prop}{w w':Ag}{x:D}{v:AE}(hF:∀b,F b->F' b)(hb:∀b,F b->w'.heap[b]? = w.heap[b]?)(h:VD F w x v):VD F' w' x v:=by
 induction h with
 |b x=>exact .b x
 |i k n=>exact .i k n
 |sl0 ad c=>exact .sl0 ad c
 | sl els ad n c sz f hn hc hsz hFb hcell hel ih =>
  exact .sl els ad n c sz f hn hc hsz (hF _ hFb) (λj hj=>(eJ (a:=ad.add j) (by rw[block_add];exact hb _ hFb)).trans (hcell j hj)) ih
 |ag cs vs hl h ih=>exact .ag cs vs hl ih
 |tp cs vs hl h ih=>exact .tp cs vs hl ih
 |lit v=>exact .lit v
 |pt cs ad f hFb hcell hel ih=>exact .pt cs ad f (hF _ hFb) (λj hj=>(eJ (a:=ad.add j) (by rw[block_add];exact hb _ hFb)).trans (hcell j hj)) ih
 |fn g cs vs hl h ih=>exact .fn g cs vs hl ih
 |mp k ks ds b ents clock hFb hb' hst hl hl' hk hv ih=>exact .mp k ks ds b ents clock (hF _ hFb) ((hb _ hFb).trans hb') hst hl hl' hk ih
 |iff t x v h ih=>exact .iff t x v ih
 |fm g x u h ih=>exact .fm g x u ih
def VD.mono{F F':Ae->Prop}{w:Ag}{x:D}{v:AE}(h:VD F w x v)(hF:∀b,F b->F' b):VD F' w x v:=h.step hF λ_ _=>rfl
def V.step{F F':Ae->Prop}{w w':Ag}{ι ι':Ae->Aq Ae}{x:AV}{v:AE}(hs:Step F w ι F' w' ι')(h:V F w ι x v):V F' w' ι' x v:=by
 induction h with
 |d x v h=>exact .d x v (h.step hs.F_le hs.blk)
 |nil=>exact .nil
 | own id off len sz b cap cur e hι hb hcap hl hm =>
  obtain⟨cur',hb',hsz⟩:=hs.own id b cur e hι hb;exact .own id off len sz b cap cur' e (hs.ι_le _ _ hι) hb' (by omega) hl hm
 |ptr id off b hι=>exact .ptr id off b (hs.ι_le _ _ hι)
 |mp id b hι=>exact .mp id b (hs.ι_le _ _ hι)
 | fp cs ad f hF hcell hel =>
  exact .fp cs ad f (hs.F_le _ hF) (λj hj=>(eJ (a:=ad.add j) (by rw[block_add];exact hs.blk _ hF)).trans (hcell j hj)) (λk c hk=>(hel k c hk).step hs.F_le hs.blk)
 |fd els ad n h=>exact .fd els ad n (h.step hs.F_le hs.blk)
 |ag cs vs hl h ih=>exact .ag cs vs hl ih
 |tp cs vs hl h ih=>exact .tp cs vs hl ih
 |un=>exact .un
 |ub t=>exact .ub t
 |kf f id b p e hι hF hp=>exact .kf f id b p e (hs.ι_le _ _ hι) (hs.F_le _ hF) ((hs.blk _ hF).trans hp)
 |fn g cs vs hl h ih=>exact .fn g cs vs hl ih
 |bm g id off b hι=>exact .bm g id off b (hs.ι_le _ _ hι)
 |any v=>exact .any v
structure Kept(M:Ae->Prop)(B:Ae)(w w':Ag):Prop where
 os:w'.os=w.os
 tape:w'.tape=w.tape
 output:w'.output=w.output
 size:w.heap.size<=w'.heap.size
 block:∀k,k<B->¬M k->w'.heap[k]? = w.heap[k]?
 shape:∀k cur e,k<B->w.heap[k]? = Aa (.cells cur e (0,0))->∃cur',w'.heap[k]? = Aa (.cells cur' e (0,0))/\cur'.size=cur.size
def Kept.refl(M:Ae->Prop)(B:Ae)(w:Ag):Kept M B w w:=⟨rfl,rfl,rfl,AM _,λ_ _ _=>rfl,λ_ cur _ _ h=>⟨cur,h,rfl⟩⟩
def Kept.trans{M:Ae->Prop}{B:Ae}{w w1 w2:Ag}(h:Kept M B w w1)(k:Kept M B w1 w2):Kept M B w w2 :=
 ⟨k.os.trans h.os,k.tape.trans h.tape,k.output.trans h.output,Bg h.size k.size,λb hb hm=>(k.block b hb hm).trans (h.block b hb hm),λb cur e hb hc=>let ⟨c1,h1,s1⟩:=h.shape b cur e hb hc;let ⟨c2,h2,s2⟩:=k.shape b c1 e hb h1;⟨c2,h2,s2.trans s1⟩⟩
def Kept.below{M:Ae->Prop}{B B':Ae}{w w':Ag}(h:RowKit.Below B' w w')(hB:B<=B'):Kept M B w w':=⟨h.os,h.tape,h.output,h.size,λk hk _=>h.block k (by omega),λk cur e hk hc=>⟨cur,(h.block k (by omega)).trans hc,rfl⟩⟩
structure Ctx where
 W:Ag
 A:Ae->Prop
 M:Ae->Prop
 P0:Ae->Ae->Prop
 Z:Ae->Aq AE
structure HR(G:Ctx)(F:Ae->Prop)(w:Ag)(ι:Ae->Aq Ae)(C:Ae->Prop)(H:Hp):Prop where
 kept:Kept G.M G.W.heap.size G.W w
 F_lt:∀b,F b->b<w.heap.size
 F_ok:∀b,F b->G.A b\/G.M b\/G.W.heap.size<=b
 place:∀id b,ι id=Aa b->(G.M b\/G.W.heap.size<=b)/\b<w.heap.size/\(¬C id->¬F b)
 obj:∀id b o,ι id=Aa b->H id=Aa o->∃ob,w.heap[b]? = Aa ob/\CR F w ι o ob
 inj:∀id id' b,ι id=Aa b->ι id'=Aa b->¬C id->¬C id'->id=id'
 len:∀id id' b o o',ι id=Aa b->ι id'=Aa b->¬C id->H id=Aa o->H id'=Aa o'->o'.len<=o.len
def hole:Obj:=.cells #[] 0 (0,0)
structure Sim(v w:Ag):Prop where
 tape:v.tape=w.tape
 drawn:v.drawn=w.drawn
 os:v.os=w.os
 output:v.output=w.output
 size:v.heap.size=w.heap.size
 blk:∀(b:Ae) (o:Obj),v.heap[b]? = Aa o->o=hole\/w.heap[b]? = Aa o\/∃(c:Aw AE) (e:AF) (f:Ae×Ae),o=.cells c e (0,c.size)/\w.heap[b]? = Aa (.cells c e f)
def okO:Obj->Bw
 |.cells ..|.map ..|.mapIter ..|.loop ..|.deferred ..=>Ak
 |_=>Az
def OkV(v:Ag):Prop:=∀(b:Ae) (o:Obj),v.heap[b]? = Aa o->okO o=Ak
def aU{α:Type}(P:As):Sem α->Ag->Result α
 |.pure a,w=>.ok a w
 | .load .plain a k,w=>match w.cell? a with
   |some v=>aU P (k v) w
   | none=>.halt (.stuck "") w
 | .load .atomic _ _,w=>.halt (.stuck "") w
 | .store _ _ (.agg _) _,w | .store _ _ (.tuple _) _,w=>.halt (.stuck "") w
 | .store .plain a v k,w=>match w.cell? a with
   | some _=>if w.frozen? a then .halt (.stuck "") w else aU P k (w.setCell a v)
   | none=>.halt (.stuck "") w
 | .store .atomic _ _ _,w=>.halt (.stuck "") w
 | .new o k,w=>if okO o then aU P (k w.heap.size) { w with heap:=w.heap.push o } else .halt (.stuck "") w
 | .getObj r k,w=>match w.heap[r]? with
   | some (.cells ..)=>.halt (.stuck "") w
   |some o=>aU P (k o) w
   | none=>.halt (.stuck "") w
 | .setObj _ (.cells ..) _,w=>.halt (.stuck "") w
 | .setObj r o k,w=>if okO o then(match w.heap[r]? with
   | some (.cells ..)=>.halt (.stuck "") w
   |some _=>aU P k { w with heap:=w.heap.setIfInBounds r o }
   | none=>.halt (.stuck "") w) else .halt (.stuck "") w
 | .choose q k,w =>
   if q.forced then aU P (k 0) w
   else aU P (k (q.cut (w.tape w.drawn q))) { w with drawn:=w.drawn+1 }
 |.program k,w=>aU P (k P) w
 |.mark .noRoom k,w=>aU P k w
 | _,w=>.halt (.stuck "") w
def EvV(v:Ag)(e:C5):Prop :=
 (∃(a:Addr) (c:Aw AE) (t:AF) (f:Ae×Ae),e.loc=.cell a/\e.sync=Az/\v.heap[a.block]? = Aa (.cells c t f)/\a.off<c.size/\(e.write=Ak->f≠(0,c.size))) \/
 (∃(r:Ae) (o:Obj),e.loc=.obj r/\e.sync=Az/\v.heap[r]? = Aa o/\(∀c t f,o≠DM c t f)/\okO o=Ak)\/e=⟨.mark .noRoom,Az,Ak⟩
structure Ext(v v':Ag):Prop where
 tape:v'.tape=v.tape
 os:v'.os=v.os
 output:v'.output=v.output
 size:v.heap.size<=v'.heap.size
 cells:∀(b:Ae) (c:Aw AE) (t:AF) (f:Ae×Ae),v.heap[b]? = Aa (.cells c t f)->∃c':Aw AE,v'.heap[b]? = Aa (.cells c' t f)/\c'.size=c.size/\(f=(0,c.size)->c'=c)
 other:∀(b:Ae) (o:Obj),v.heap[b]? = Aa o->(∀c t f,o≠DM c t f)->okO o=Ak->∃o':Obj,v'.heap[b]? = Aa o'/\(∀c t f,o'≠DM c t f)/\okO o'=Ak
def Ext.refl(v:Ag):Ext v v:=⟨rfl,rfl,rfl,AM _,λ_ c _ _ h=>⟨c,h,rfl,λ_=>rfl⟩,λ_ o h h1 h2=>⟨o,h,h1,h2⟩⟩
def Ext.trans{v v1 v2:Ag}(h:Ext v v1)(k:Ext v1 v2):Ext v v2 :=
 ⟨k.tape.trans h.tape,k.os.trans h.os,k.output.trans h.output,Bg h.size k.size,λb c t f hb=>by
  obtain⟨c1,h1,s1,e1⟩:=h.cells b c t f hb;obtain⟨c2,h2,s2,e2⟩:=k.cells b c1 t f h1;exact⟨c2,h2,s2.trans s1,λe=>(e2 (s1 ▸ e)).trans (e1 e)⟩,λb o hb h1 h2=>by
  obtain⟨o1,g1,g2,g3⟩:=h.other b o hb h1 h2;exact k.other b o1 g1 g2 g3⟩
def EvV.ext{v v':Ag}{e:C5}(h:EvV v e)(k:Ext v v'):EvV v' e:=by
 rcases h with ⟨a,c,t,f,h1,h2,h3,h4,h5⟩|⟨r,o,h1,h2,h3,h4,h5⟩|h
 . obtain⟨c',g1,g2,_⟩:=k.cells _ _ _ _ h3
   exact .inl ⟨a,c',t,f,h1,h2,g1,by omega,λe=>g2 ▸ h5 e⟩
 . obtain⟨o',g1,g2,g3⟩:=k.other _ _ h3 h4 h5
   exact .inr (.inl ⟨r,o',h1,h2,g1,g2,g3⟩)
 . exact .inr (.inr h)
def yQ(v w w':Ag):Prop:=∀(b:Ae) (c:Aw AE) (t:AF),v.heap[b]? = Aa (.cells c t (0,c.size))->w'.heap[b]? = w.heap[b]?
def Sim.cell{v w:Ag}(h:Sim v w){a:Addr}{x:AE}(hx:v.cell? a=Aa x):w.cell? a=Aa x:=by
 unfold BN at hx ⊢;cases hb:v.heap[a.block]? with
 |none=>simp[hb]at hx
 | some o =>
   rcases h.blk _ _ hb with rfl|h1|⟨c,e,_,rfl,h1⟩
   . simp[hb,hole]at hx
   . rw[h1];rw[hb]at hx;exact hx
   . rw[h1];rw[hb]at hx;exact hx
def pW{v:Ag}{a:Addr}{x:AE}(hx:v.cell? a=Aa x):∃c t f,v.heap[a.block]? = Aa (.cells c t f)/\a.off<c.size/\a.spot.isSome=false:=by
 unfold BN at hx;split at hx
 . rename_i c t f hb
   split at hx
   . cases hx
   . rename_i hs
     exact⟨c,t,f,hb,(Bm.1 hx).1,by simpa using hs⟩
 . cases hx
def bPf(a:Addr)(x:AE):Obj->Obj
 |.cells c e f=>.cells (if a.spot.isSome then c else c.setIfInBounds a.off x) e f
 |o=>o
def dO(w:Ag)(a:Addr)(x:AE)(b:Ae):(w.setCell a x).heap[b]? = if b=a.block then(w.heap[b]?).map (bPf a x)else w.heap[b]? := by
 unfold FJ;simp only[Gc];by_cases hb:b=a.block
 . subst hb
   rw[AB rfl,AB rfl]
   cases w.heap[a.block]? with
   |none=>rfl
   |some o=>cases o<;>rfl
 . rw[Ap (λe=>hb e.symm),Ap hb]
section
variable {v w:Ag}
def Sim.alloc(h:Sim v w)(o:Obj):Sim { v with heap:=v.heap.push o } { w with heap:=w.heap.push o }:=by
 refine⟨h.tape,h.drawn,h.os,h.output,by simp[h.size],λb x hb=>?_⟩;simp only[BW]at hb ⊢;rw[<-h.size];by_cases e:b=v.heap.size
 . rw[AB e]at hb ⊢;exact .inr (.inl hb)
 . rw[Ap e]at hb ⊢;exact h.blk b x hb
def OkV.alloc(h:OkV v){o:Obj}(ho:okO o=Ak):OkV { v with heap:=v.heap.push o }:=by
 intro b x hb;simp only[BW]at hb;split at hb
 . injection hb with e;exact e ▸ ho
 . exact h b x hb
def bL{a:Aw Obj}{b:Ae}{x:Obj}(h:a[b]? = Aa x):b<a.size:=(Bm.1 h).1
def Ext.alloc(v:Ag)(o:Obj):Ext v { v with heap:=v.heap.push o }:=by
 refine⟨rfl,rfl,rfl,by simp,λb c t f hb=>⟨c,?_,rfl,λ_=>rfl⟩,λb x hb h1 h2=>⟨x,?_,h1,h2⟩⟩ <;>
 . simp only[BW]
   rw[Ap (by have:=bL hb;omega)];exact hb
def yQ.refl(v w:Ag):yQ v w w:=λ_ _ _ _=>rfl
def yQ.trans{v1 w1 w2:Ag}(h:yQ v w w1)(hx:Ext v v1)(k:yQ v1 w1 w2):yQ v w w2:=λb c t hb=>by obtain⟨c',g1,g2,g3⟩:=hx.cells b c t _ hb;have:=g3 rfl;subst this;exact(k b c' t g1).trans (h b c' t hb)
def Sim.store(h:Sim v w)(hok:OkV v){a:Addr}{x y:AE}(hc:v.cell? a=Aa y)(hf:v.frozen? a=Az) :
 Sim (v.setCell a x) (w.setCell a x)/\w.frozen? a=Az/\OkV (v.setCell a x)/\Ext v (v.setCell a x)/\yQ v w (w.setCell a x)/\EvV (v.setCell a x) ⟨.cell a,Ak,Az⟩:=by
 obtain⟨c,t,f,hb,hlt,hsp⟩:=pW hc
 have hfr:¬(f.1<=a.off/\a.off<f.2):=by unfold DY at hf;rw[hb]at hf;simpa using hf
 have hnf:f≠(0,c.size):=by rintro rfl;exact hfr ⟨BH _,hlt⟩
 have hw:w.heap[a.block]? = Aa (.cells c t f):=by
  rcases h.blk _ _ hb with e|e|⟨c',e',_,e,_⟩
  . injection e with e1 e2 e3;subst e1;simp at hlt
  . exact e
  . injection e with e1 e2 e3;subst e1;exact absurd e3 hnf
 have hne:∀c' t',DM c t f≠.cells c' t' (0,c'.size):=λc' t' e=>by injection e with e1 e2 e3;subst e1;exact hnf e3
 refine⟨⟨h.tape,h.drawn,h.os,h.output,by simp[FJ,h.size],λb o ho=>?_⟩,?_,λb o ho=>?_,⟨rfl,rfl,rfl,by simp[FJ],λb c' t' f' ho=>?_,λb o ho h1 h2=>?_⟩,λb c' t' ho=>?_,?_⟩
 . rw[dO]at ho ⊢
   by_cases e:b=a.block
   . rw[AB e]at ho ⊢
     subst e
     rw[hb]at ho;rw[hw]
     exact .inr (.inl ho)
   . rw[Ap e]at ho ⊢;exact h.blk b o ho
 . unfold DY;rw[hw];simpa using hfr
 . rw[dO]at ho
   split at ho
   . rename_i e;subst e
     rw[hb]at ho
     simp only[Bj,AH]at ho
     subst ho;rfl
   . exact hok b o ho
 . rw[dO]
   split
   . rename_i e;subst e
     rw[hb]at ho;injection ho with ho;injection ho with e1 e2 e3;subst e1;subst e2;subst e3
     rw[hb]
     refine⟨_,rfl,by rw[hsp];simp,λe=>absurd e hnf⟩
   . exact⟨c',ho,rfl,λ_=>rfl⟩
 . rw[dO]
   split
   . rename_i e;subst e
     rw[hb]at ho;injection ho with ho
     exact absurd ho.symm (h1 _ _ _)
   . exact⟨o,ho,h1,h2⟩
 . rw[dO]
   split
   . rename_i e;subst e
     rw[hb]at ho;injection ho with ho
     exact absurd ho (hne _ _)
   . rfl
 . refine .inl ⟨a,(if a.spot.isSome then c else c.setIfInBounds a.off x),t,f,rfl,rfl,?_,by rw[hsp];simpa using hlt,λ_=>by rw[hsp];simpa using hnf⟩
   rw[dO,AB rfl,hb];rfl
def fH{α:Type}{P:As}(s:Sem α):∀(v w:Ag) (es:Aw C5) (r:α) (v':Ag),OkV v->Sim v w->aU P s v=.ok r v' ->
 ∃w' es',s.runT P w es=(.ok r w',es++es')/\Sim v' w'/\OkV v'/\Ext v v'/\yQ v w w'/\∀e∈es',EvV v' e:=by
 induction s with
 | pure a =>
   intro v w es r v' hok h hr
   simp only[aU,Result.ok.injEq]at hr
   obtain⟨rfl,rfl⟩:=hr
   exact⟨w,#[],by simp[Fe],h,hok,.refl _,.refl _ _,by simp⟩
 | load m a k ih =>
   intro v w es r v' hok h hr
   cases m with
   |atomic=>simp[aU]at hr
   |plain =>
   simp only[aU]at hr
   cases hc:v.cell? a with
   |none=>rw[hc]at hr;cases hr
   | some x =>
     rw[hc]at hr
     obtain⟨w',es',h1,h2,h3,h4,h5,h6⟩:=ih x v w (es.push ⟨.cell a,Az,Az⟩) r v' hok h hr
     obtain⟨c,t,f,hb,hlt,_⟩:=pW hc
     refine⟨w',#[⟨.cell a,Az,Az⟩]++es',?_,h2,h3,h4,h5,λe he=>?_⟩
     . simp only[Fe,h.cell hc]
       rw[show(Mode.plain==Mode.atomic)=Az from rfl,h1];simp
     . rcases Ed.1 he with he|he
       . simp at he;subst he
         exact EvV.ext (.inl ⟨a,c,t,f,rfl,rfl,hb,hlt,λe=>by cases e⟩) h4
       . exact h6 e he
 | store m a x k ih =>
   intro v w es r v' hok h hr
   have hx:(∀cs,x≠.agg cs)/\(∀cs,x≠.tuple cs):=by constructor<;>(rintro cs rfl;simp[aU]at hr)
   cases m with
   |atomic=>cases x<;>simp[aU]at hr
   |plain =>
   cases hc:v.cell? a with
   |none=>cases x<;>first|exact absurd rfl (hx.1 _)|exact absurd rfl (hx.2 _)|(simp only[aU,hc]at hr;cases hr)
   | some y =>
     have hf:v.frozen? a=false:=by
      cases hf:v.frozen? a with
      |false=>rfl
      |true=>cases x<;>first|exact absurd rfl (hx.1 _)|exact absurd rfl (hx.2 _)|(simp only[aU,hc,hf]at hr;cases hr)
     have hr':aU P k (v.setCell a x)=.ok r v':=by cases x<;>first|exact absurd rfl (hx.1 _)|exact absurd rfl (hx.2 _)|(simp only[aU,hc,hf]at hr;exact hr)
     obtain⟨g1,g2,g3,g4,g5,g6⟩:=h.store hok (x:=x) hc hf
     obtain⟨w',es',h1,h2,h3,h4,h5,h6⟩:=ih _ _ (es.push ⟨.cell a,Ak,Az⟩) r v' g3 g1 hr'
     refine⟨w',#[⟨.cell a,Ak,Az⟩]++es',?_,h2,h3,g4.trans h4,g5.trans g4 h5,λe he=>?_⟩
     . have hw:w.cell? a=Aa y:=h.cell hc
       have:(Sem.store .plain a x k).runT P w es=k.runT P (w.setCell a x) (es.push ⟨.cell a,Ak,Az⟩):=by cases x<;>first|exact absurd rfl (hx.1 _)|exact absurd rfl (hx.2 _)|(simp only[Fe,hw,g2];rfl)
       rw[this,h1];simp
     . rcases Ed.1 he with he|he
       . simp at he;subst he;exact g6.ext h4
       . exact h6 e he
 | new o k ih =>
   intro v w es r v' hok h hr
   simp only[aU]at hr
   split at hr
   case isFalse=>cases hr
   rename_i ho
   obtain⟨w',es',h1,h2,h3,h4,h5,h6⟩:=ih v.heap.size _ _ es r v' (hok.alloc ho) (h.alloc o) hr
   refine⟨w',es',by simp only[Fe];rw[<-h.size];exact h1,h2,h3,(Ext.alloc v o).trans h4,?_,h6⟩
   have hr1:yQ v w { w with heap:=w.heap.push o }:=λb c t hb=>by simp only[BW];rw[Ap (by have:=bL hb;have:=h.size;omega)]
   exact hr1.trans (Ext.alloc v o) h5
 |shape r0 k _=>intro v w es r v' hok h hr;simp[aU]at hr
 |frozen a k _=>intro v w es r v' hok h hr;simp[aU]at hr
 |freeze a n k _=>intro v w es r v' hok h hr;simp[aU]at hr
 |sys c k _=>intro v w es r v' hok h hr;simp[aU]at hr
 | getObj r0 k ih =>
   intro v w es r v' hok h hr
   simp only[aU]at hr
   cases hb:v.heap[r0]? with
   |none=>simp[hb]at hr
   | some o =>
     rw[hb]at hr
     have hk:=hok _ _ hb
     have hw:(∀c t f,o≠DM c t f):=by rintro c t f rfl;simp at hr
     have hr1:aU P (k o) v=.ok r v':=by rw[<-hr];cases o<;>first|exact absurd rfl (hw _ _ _)|rfl
     have hwb:w.heap[r0]? = Aa o:=by
      rcases h.blk _ _ hb with rfl|e|⟨c,t,_,rfl,_⟩
      . exact absurd rfl (hw _ _ _)
      . exact e
      . exact absurd rfl (hw _ _ _)
     obtain⟨w',es',h1,h2,h3,h4,h5,h6⟩:=ih o v w (es.push ⟨.obj r0,Az,Az⟩) r v' hok h hr1
     refine⟨w',#[⟨.obj r0,Az,Az⟩]++es',?_,h2,h3,h4,h5,λe he=>?_⟩
     . have:(Sem.getObj r0 k).runT P w es=(k o).runT P w (es.push ⟨.obj r0,Az,Az⟩):=by simp only[Fe,hwb];cases o<;>first|exact absurd rfl (hw _ _ _)|(simp[okO]at hk;done)|rfl
       rw[this,h1];simp
     . rcases Ed.1 he with he|he
       . simp at he;subst he
         exact EvV.ext (.inr (.inl ⟨r0,o,rfl,rfl,hb,hw,hk⟩)) h4
       . exact h6 e he
 | setObj r0 o k ih =>
   intro v w es r v' hok h hr
   have hnc:(∀c e f,o≠DM c e f):=by rintro c e f rfl;simp[aU]at hr
   have ho:okO o=true:=by
    cases ho:okO o with
    |true=>rfl
    |false=>cases o<;>first|exact absurd rfl (hnc _ _ _)|(simp only[aU,ho]at hr;cases hr)
   cases hb:v.heap[r0]? with
   |none=>cases o<;>first|exact absurd rfl (hnc _ _ _)|(simp[aU,ho,hb]at hr;done)|(simp[okO]at ho;done)
   | some o0 =>
     have hw:(∀c t f,o0≠DM c t f):=by rintro c t f rfl;cases o<;>first|exact absurd rfl (hnc _ _ _)|(simp[aU,ho,hb]at hr;done)|(simp[okO]at ho;done)
     have hk0:=hok _ _ hb
     have hr1:aU P k { v with heap:=v.heap.setIfInBounds r0 o }=.ok r v':=by cases o<;>first|exact absurd rfl (hnc _ _ _)|(simp[okO]at ho;done)|(simp only[aU,ho,hb,CN]at hr;cases o0<;>first|exact absurd rfl (hw _ _ _)|exact hr)
     have hwb:w.heap[r0]? = Aa o0:=by
      rcases h.blk _ _ hb with rfl|e|⟨c,t,_,rfl,_⟩
      . exact absurd rfl (hw _ _ _)
      . exact e
      . exact absurd rfl (hw _ _ _)
     have hlt:=bL hb
     have hltw:=bL hwb
     have hch:o.isChan=false:=by cases o<;>first|rfl|(simp[okO]at ho)
     have gv:∀b,({ v with heap:=v.heap.setIfInBounds r0 o }:Ag).heap[b]? = if b=r0 then Aa o else v.heap[b]? := λb=>by
      by_cases e:b=r0
      . subst e;simp[hlt]
      . simp only[AI (DZ e)];rw[Ap e]
     have gw:∀b,({ w with heap:=w.heap.setIfInBounds r0 o }:Ag).heap[b]? = if b=r0 then Aa o else w.heap[b]? := λb=>by
      by_cases e:b=r0
      . subst e;simp[hltw]
      . simp only[AI (DZ e)];rw[Ap e]
     have s1:Sim { v with heap:=v.heap.setIfInBounds r0 o } { w with heap:=w.heap.setIfInBounds r0 o } :=
      ⟨h.tape,h.drawn,h.os,h.output,by simp[h.size],λb x hx=>by
       rw[gv]at hx;rw[gw];split at hx
       . rename_i e;rw[AB e];exact .inr (.inl hx)
       . rename_i e;rw[Ap e];exact h.blk b x hx⟩
     have s2:OkV { v with heap:=v.heap.setIfInBounds r0 o }:=λb x hx=>by
      rw[gv]at hx;split at hx
      . injection hx with e;exact e ▸ ho
      . exact hok b x hx
     have s3:Ext v { v with heap:=v.heap.setIfInBounds r0 o }:=⟨rfl,rfl,rfl,by simp,λb c t f hx=>by
      rw[gv];split
      . rename_i e;subst e;rw[hb]at hx;injection hx with e;exact absurd e (hw _ _ _)
      . exact⟨c,hx,rfl,λ_=>rfl⟩,λb x hx h1 h2=>by
      rw[gv];split
      . exact⟨o,rfl,hnc,ho⟩
      . exact⟨x,hx,h1,h2⟩⟩
     have s4:yQ v w { w with heap:=w.heap.setIfInBounds r0 o }:=λb c t hx=>by
      rw[gw];split
      . rename_i e;subst e;rw[hb]at hx;injection hx with e;exact absurd e (hw _ _ _)
      . rfl
     obtain⟨w',es',h1,h2,h3,h4,h5,h6⟩:=ih _ _ (es.push ⟨.obj r0,Ak,Az⟩) r v' s2 s1 hr1
     refine⟨w',#[⟨.obj r0,Ak,Az⟩]++es',?_,h2,h3,s3.trans h4,s4.trans s3 h5,λe he=>?_⟩
     . have:(Sem.setObj r0 o k).runT P w es=k.runT P { w with heap:=w.heap.setIfInBounds r0 o } (es.push ⟨.obj r0,Ak,Az⟩):=by simp only[Fe,hwb,hch]
       rw[this,h1];simp
     . rcases Ed.1 he with he|he
       . simp at he;subst he
         exact EvV.ext (.inr (.inl ⟨r0,o,rfl,rfl,by rw[gv,AB rfl],hnc,ho⟩)) h4
       . exact h6 e he
 | choose q k ih =>
   intro v w es r v' hok h hr
   simp only[aU]at hr
   by_cases hq:q.forced=Ak
   . rw[AB hq]at hr
     obtain⟨w',es',h1,h2⟩:=ih 0 v w es r v' hok h hr
     exact⟨w',es',by simp only[Fe];rw[AB hq];exact h1,h2⟩
   . rw[Ap hq]at hr
     obtain⟨w',es',h1,h2,h3,h4,h5,h6⟩:=ih _ { v with drawn:=v.drawn+1 } { w with drawn:=w.drawn+1 } es r v' (λb o hb=>hok b o hb) ⟨h.tape,by simp[h.drawn],h.os,h.output,h.size,h.blk⟩ hr
     refine⟨w',es',by simp only[Fe];rw[Ap hq,show w.tape w.drawn q=v.tape v.drawn q by rw[h.tape,h.drawn]];exact h1,h2,h3,⟨h4.tape,h4.os,h4.output,h4.size,h4.cells,h4.other⟩,h5,h6⟩
 | program k ih =>
   intro v w es r v' hok h hr
   simp only[aU]at hr
   obtain⟨w',es',h1,h2⟩:=ih P v w es r v' hok h hr
   exact⟨w',es',by simp only[Fe];exact h1,h2⟩
 | mark m k ih =>
   intro v w es r v' hok h hr
   cases m<;>first|(simp[aU]at hr;done)|skip
   simp only[aU]at hr
   obtain⟨w',es',h1,h2,h3,h4,h5,h6⟩:=ih v w (es.push ⟨.mark .noRoom,Az,Ak⟩) r v' hok h hr
   refine⟨w',#[⟨.mark .noRoom,Az,Ak⟩]++es',by simp only[Fe];rw[h1];simp,h2,h3,h4,h5,λe he=>?_⟩
   rcases Ed.1 he with he|he
   . simp at he;subst he;exact .inr (.inr rfl)
   . exact h6 e he
 |halt x=>intro v w es r v' hok h hr;simp[aU]at hr
end
section
variable {α β:Type} (P:As) (w:Ag)
def aBw(x:Sem α)(f:α->Sem β):∀w,aU P (x.bind f) w=(aU P x w).andThen λa w'=>aU P (f a) w':=by
 induction x with
 |pure a=>intro w;simp[EU,aU]
 |load m a k ih=>intro w;cases m<;>simp only[EU,aU,GD];split<;>simp[ih]
 |store m a v k ih=>intro w;cases m<;>cases v<;>simp only[EU,aU,GD]<;>(try (repeat' split)<;>simp[ih])
 |new o k ih=>intro w;simp only[EU,aU];split<;>simp[ih]
 |getObj r k ih=>intro w;simp only[EU,aU];split<;>simp[ih]
 |setObj r o k ih=>intro w;cases o<;>simp only[EU,aU,GD]<;>(try (repeat' split)<;>simp[ih])
 |choose q k ih=>intro w;simp only[EU,aU];split<;>simp[ih]
 |program k ih=>intro w;simp[EU,aU,ih]
 |mark m k ih=>intro w;cases m<;>simp[EU,aU,ih]
 |_=>intro w;simp[EU,aU]
@[simp]def oH(x:Sem α)(f:α->Sem β):aU P (x >>= f) w=(aU P x w).andThen λa w'=>aU P (f a) w':=aBw P x f w
@[simp]def bFn(x:Sem α)(f:α->β):aU P (f <$> x) w=(aU P x w).andThen λa w'=>.ok (f a) w':=aBw P x _ w
@[simp]def cBd(a:α):aU P (Pure.pure a:Sem α) w=.ok a w:=rfl
@[simp]def bXw(a:α):aU P (Sem.pure a) w=.ok a w:=rfl
@[simp]def cCv(c:Prop)[Decidable c](x y:Sem α):aU P (if c then x else y) w=if c then aU P x w else aU P y w:=by split<;>rfl
def nI(o:Obj)(h:okO o=Ak):aU P (newObj o) w=.ok w.heap.size { w with heap:=w.heap.push o }:=by simp[newObj,aU,h]
@[simp]def bPo:aU P program w=.ok P w:=rfl
@[simp]def bPq(n:Ae):aU P (askRoom n) w=.ok () w:=by unfold askRoom;split<;>rfl
@[simp]def bVl(q:Question):aU P (choose q) w=if q.forced then .ok 0 w else .ok (q.cut (w.tape w.drawn q)) { w with drawn:=w.drawn+1 }:=by simp only[choose,aU]
@[simp] theorem bXv (why:String):aU P (stuck why:Sem α) w=.halt (.stuck "") w:=rfl
@[simp] theorem aYt (u:Unsupported):aU P (unsupported u:Sem α) w=.halt (.stuck "") w:=rfl
@[simp] theorem bPp (v:AE):aU P (goPanic v:Sem α) w=.halt (.stuck "") w:=rfl
end
open Go.Conc
structure Env(v v1:Ag):Prop where
 tape:v1.tape=v.tape
 os:v1.os=v.os
 output:v1.output=v.output
 heap:∃n,v1.heap=v.heap++Bd n hole
def Env.refl(v:Ag):Env v v:=⟨rfl,rfl,rfl,0,by simp⟩
def Env.trans{v v1 v2:Ag}(h:Env v v1)(k:Env v1 v2):Env v v2:=by obtain⟨n,hn⟩:=h.heap;obtain⟨m,hm⟩:=k.heap;exact⟨k.tape.trans h.tape,k.os.trans h.os,k.output.trans h.output,n+m,by rw[hm,hn,Array.append_assoc];simp⟩
def Env.get{v v1:Ag}(h:Env v v1){b:Ae}(hb:b<v.heap.size):v1.heap[b]? = v.heap[b]? := by obtain⟨n,hn⟩:=h.heap;rw[hn,B5 hb]
def Env.size{v v1:Ag}(h:Env v v1):v.heap.size<=v1.heap.size:=by obtain⟨n,hn⟩:=h.heap;rw[hn];simp
def Env.okV{v v1:Ag}(h:Env v v1)(hv:OkV v):OkV v1:=by
 intro b o hb;obtain⟨n,hn⟩:=h.heap;rw[hn]at hb;rcases Bc b v.heap.size with hlt|hge
 . rw[B5 hlt]at hb;exact hv b o hb
 . rw[Array.getElem?_append_right hge]at hb
   have:=B7 hb
   rw[Array.mem_replicate]at this
   rw[this.2];rfl
structure yO(v w v' w':Ag)(es:Aw C5):Prop where
 sim:Sim v' w'
 ok:OkV v'
 ext:Ext v v'
 rest:yQ v w w'
 evs:∀e∈es,EvV v' e
structure aKr(P:As)(main:Bw)(Win:Ay->Ag->Prop):Prop where
 env:∀{g:Ay} {v v1:Ag},Win g v->Env v v1->Win g v1
 step:∀{g:Ay} {v:Ag},g.status=.running->OkV v ->
  (∀v1 w,Env v v1->Sim v1 w->∃g' v' w' es,stepG P main g w=.go g' w' es/\yO v1 w v' w' es/\Win g' v')->Win g v
class Mch (P:As) where
 main:Bw
 Fam:(Ay->Ag->Prop)->Prop
 closed:∀{Win:Ay->Ag->Prop},Fam Win->aKr P main Win
 none:Fam λ_ _=>False
section
variable {P:As} [M:Mch P]
def aD{Win:Ay->Ag->Prop}(hW:M.Fam Win){g g':Ay}{v:Ag}(hr:g.status=.running)(hv:OkV v)(hs:∀w,stepG P M.main g w=.go g' w)(h:Win g' v):Win g v :=
 (M.closed hW).step hr hv λv1 w he hsim=>⟨g',v1,w,#[],hs w,⟨hsim,he.okV hv,.refl _,.refl _ _,by simp⟩,(M.closed hW).env h he⟩
def kA(b:BU):Prop:=b.kind=.normal\/b.kind=.deferred
def kA.ne{b:BU}(h:kA b):b.kind≠.early:=by rcases h with h|h<;>rw[h]<;>simp
def kA.beq{b:BU}(h:kA b):(b.kind==DO)=false:=by rcases h with h|h<;>rw[h]<;>rfl
def fW(Win:Ay->Ag->Prop)(b:BU)(k:Ad Item)(cs:Ad BU):Cf->Act->Ag->Prop
 |.normal,a,v=>Win (G (b.at a k) cs) v
 |.exit id,a,v=>match exitTo id k with|some k'=>Win (G (b.at a k') cs) v|none=>False
 |.ret,a,v=>∀todo,Win (G { b.at a todo with mode:=.returning } cs) v
 |.goto l,a,v=>match gotoIn l k with|some k'=>Win (G (b.at a k') cs) v|none=>False
 |_,_,_=>False
def WC(P:As)[M:Mch P](c:B1)(Q:Cf->Act->Ag->Prop)(a:Act)(v:Ag):Prop :=
 ∀(Win:Ay->Ag->Prop),M.Fam Win->OkV v->∀(b:BU) (k:Ad Item) (cs:Ad BU),kA b->(∀e a' v',OkV v'->Q e a' v'->fW Win b k cs e a' v')->Win (G (b.at a (.code c::k)) cs) v
def CX(P:As)[M:Mch P](f:AU)(args:Aw AE)(v:Ag)(R:AE->Ag->Prop):Prop :=
 ∀(Win:Ay->Ag->Prop),M.Fam Win->OkV v->∀(c:BU) (cs:Ad BU),(∀x v',OkV v'->R x v'->Win (G (c.finish x) cs) v')->Win (G (Frame.enter P f args .normal) (c::cs)) v
def CX.mono{f:AU}{args:Aw AE}{v:Ag}{R R':AE->Ag->Prop}(h:CX P f args v R)(hr:∀x v',R x v'->R' x v'):CX P f args v R' :=
 λWin hW hv c cs hk=>h Win hW hv c cs λx v' ho hx=>hk x v' ho (hr x v' hx)
def CX.some{f:AU}{args:Aw AE}{v:Ag}{R:AE->Ag->Prop}(h:CX P f args v R)(hv:OkV v):∃x v',OkV v'/\R x v' :=
 Classical.byContradiction λhn=>h _ M.none hv default [] λx v' ho hx=>hn ⟨x,v',ho,hx⟩
def gQ(P:As)[M:Mch P](o:Bf)(a:Act)(next:Act->Ag->Prop):Result Next->Prop
 |.ok (.value x) v'=>next (a.put o.dst x) v'
 |.ok .skip v'=>next (a.put o.dst undef) v'
 |.ok (.defer d) v'=>next ({ a with defers:=d::a.defers }.put o.dst undef) v'
 |.ok (.enter f args) v'=>CX P f args v' λx v''=>next (a.put o.dst x) v''
 |_=>False
def wpX(P:As)[M:Mch P](o:Bf)(a:Act)(v:Ag)(next:Act->Ag->Prop):Prop :=
 gQ P o a next (aU P (execOp a.eval o) v)
def Sim.refl(v:Ag):Sim v v:=⟨rfl,rfl,rfl,rfl,rfl,λ_ _ h=>.inr (.inl h)⟩
def aVl{α:Type}{s:Sem α}{v v':Ag}{r:α}(hv:OkV v)(h:aU P s v=.ok r v'):OkV v' :=
 let ⟨_,_,_,_,h3,_⟩:=fH s v v #[] r v' hv (.refl v) h;h3
def aAw{Win:Ay->Ag->Prop}(hW:M.Fam Win){b:BU}{a:Act}{k:Ad Item}{cs:Ad BU}{v:Ag}{ops:Aw Bf}{i:Ae}{rest:Ad Ae}{o:Bf}{K:Act->Ag->Prop}(hb:kA b)(ho:ops[i]? = Aa o)(hw:Bu o (yielded ops a.tmps)=Ak)
 (hv:OkV v) (h:∀v1,Env v v1->wpX P o a v1 K) (hk:∀a' v',OkV v'->K a' v'->Win (G (b.at a' (.inRegion ops rest::k)) cs) v') :
 Win (G (b.at a (.inRegion ops (i::rest)::k)) cs) v:=by
 have hbk:b.kind≠.early:=hb.ne
 refine(M.closed hW).step rfl hv λv1 w he hsim=>?_
 have hu:=h v1 he
 unfold wpX at hu
 have hv1:=he.okV hv
 cases hr:aU P (execOp a.eval o) v1 with
 |halt x v'=>rw[hr]at hu;exact hu.elim
 | ok n v' =>
   obtain⟨w',es',h1,h2,h3,h4,h5,h6⟩:=fH _ v1 w #[] n v' hv1 hsim hr
   rw[hr]at hu
   have hrw:(execOp a.eval o).run P w=.ok n w':=by have:=DU P (execOp a.eval o) w #[];rw[h1]at this;exact(congrArg Prod.fst this).symm
   have hev:∀e∈listed P b.fn a o w,EvV v' e:=λe hx=>by have:=mem_listed hx;have h7:=DU P (execOp a.eval o) w #[];rw[h1]at h7;have h8:(execOp a.eval o).events P w #[]=#[]++es':=(congrArg Prod.snd h7).symm;rw[h8]at this;exact h6 e (by simpa using this)
   have hst:yO v1 w v' w' (listed P b.fn a o w):=⟨h2,h3,h4,h5,hev⟩
   cases n with
   |value x=>exact⟨_,v',w',_,stepG_value ho hw hbk hrw,hst,hk _ _ h3 hu⟩
   |skip=>exact⟨_,v',w',_,stepG_none ho hw hbk hrw,hst,hk _ _ h3 hu⟩
   | enter f args =>
     refine⟨_,v',w',_,stepG_enter ho hw hbk hrw,hst,hu Win hW h3 _ _ λx v'' ho' hx=>?_⟩
     rw[Ek,ho]
     exact hk _ _ ho' hx
   | defer d =>
     refine⟨G (b.at (Act.put { a with defers:=d::a.defers } o.dst undef) (.inRegion ops rest::k)) cs,v',w',_,?_,hst,hk (Act.put { a with defers:=d::a.defers } o.dst undef) v' h3 hu⟩
     rw[stepG_oper ho hw]
     have hk':(b.kind==DO)=false:=hb.beq
     have:({ b.at a (.inRegion ops (i::rest)::k) with defers:=d::a.defers }:BU).finish undef =
      b.at ({ a with defers:=d::a.defers }.put o.dst undef) (.inRegion ops rest::k):=by
      have:=Ek b { a with defers:=d::a.defers } ops i rest k undef
      rw[ho]at this;exact this
     rw[<-this]
     simp[stepG.apply,hrw,G,Frame.at,hk',CJ,listed]
   |_=>exact hu.elim
def gP(P:As)[M:Mch P](ops:Aw Bf)(Q:Cf->Act->Ag->Prop):Ad Bf->Act->Ag->Prop
 |[],a,v=>Q .normal a v
 |o::rest,a,v=>if Bu o (yielded ops a.tmps)then ∀v1,Env v v1->wpX P o a v1 (gP P ops Q rest)else gP P ops Q rest (a.put o.dst undef) v
def zL(P:As)[M:Mch P](ops:Aw Bf)(Q:Cf->Act->Ag->Prop):Ae->Aw Bw->Act->Ag->Prop
 |0,listed,a,v=>Bo .any ops listed=[]/\Q .normal a v
 | fuel+1,listed,a,v=>(Bo .any ops listed=[]->Q .normal a v)/\∀i∈Bo .any ops listed,match ops[i]? with
    |none=>zL P ops Q fuel (listed.setIfInBounds i Ak) a v
    |some o=>if Bu o (yielded ops a.tmps)then ∀v1,Env v v1->wpX P o a v1 (zL P ops Q fuel (listed.setIfInBounds i Ak))else zL P ops Q fuel (listed.setIfInBounds i Ak) (a.put o.dst undef) v
section
variable {Q:Cf->Act->Ag->Prop} {a:Act} {v:Ag}
def qX{Win:Ay->Ag->Prop}(hW:M.Fam Win){b:BU}{k:Ad Item}{cs:Ad BU}{ops:Aw Bf}{i:Ae}{rest:Ad Ae}{o:Bf}(ho:ops[i]? = Aa o)(hw:¬Bu o (yielded ops a.tmps)=Ak)(hv:OkV v)
 (h:Win (G (b.at (a.put o.dst undef) (.inRegion ops rest::k)) cs) v):Win (G (b.at a (.inRegion ops (i::rest)::k)) cs) v :=
 aD hW rfl hv (λw=>stepG_unwanted ho (by simpa using hw)) h
def aAx{Win:Ay->Ag->Prop}(hW:M.Fam Win){ops:Aw Bf}{b:BU}{k:Ad Item}{cs:Ad BU}(hb:kA b):∀(l:Ad Bf) (n:Ae) (a:Act) (v:Ag),OkV v->(∀j o,l[j]? = Aa o->ops[n+j]? = Aa o)->n+l.length=ops.size->gP P ops Q l a v ->
 (∀a' v',OkV v'->Q .normal a' v'->Win (G (b.at a' k) cs) v')->Win (G (b.at a (.inRegion ops (List.range' n l.length)::k)) cs) v
 |[],n,a,v,hv,_,_,h,hk=>aD hW rfl hv (λw=>stepG_region_end) (hk a v hv h)
 | o::l,n,a,v,hv,hl,hn,h,hk=>by
   have ho:ops[n]? = Aa o:=by simpa using hl 0 o rfl
   have ih:=λa v hv h=>aAx hW hb l (n+1) a v hv (λj o hj=>by have:=hl (j+1) o (by simpa using hj);rw[<-this];congr 1;omega) (by simp at hn;omega) h hk
   rw[Av,Es];unfold gP at h;split at h
   . rename_i hw
     exact aAw hW hb ho hw hv h λa' v' hv' h'=>ih a' v' hv' h'
   . rename_i hw
     exact qX hW ho hw hv (ih _ v hv h)
def iE{id:Ae}{ops:Aw Bf}(h:gP P ops Q ops.toList a v):WC P (.region id ops Az) Q a v:=by
 intro Win hW hv b k cs hb hk;refine aD hW rfl hv (λw=>stepG_region) ?_;have:=aAx hW (Q:=Q) (b:=b) (k:=k) (cs:=cs) hb ops.toList 0 a v hv (λj o hj=>by simpa using hj) (by simp) h λa' v' hv' hq=>hk .normal a' v' hv' hq
 rwa [List.range_eq_range',<-BP]
def bNt{Win:Ay->Ag->Prop}(hW:M.Fam Win){ops:Aw Bf}{b:BU}{k:Ad Item}{cs:Ad BU}(hb:kA b)(hk:∀a' v',OkV v'->Q .normal a' v'->Win (G (b.at a' k) cs) v'):∀(fuel t:Ae) (listed:Aw Bw) (a:Act) (v:Ag),OkV v->zL P ops Q fuel listed a v ->
 Win (G (b.at a (.inRegion ops (BF .any ops fuel t listed [])::k)) cs) v:=by
 intro fuel
 induction fuel with
 | zero =>
   intro t listed a v hv h
   simp only[BF,List.reverse_nil]
   exact aD hW rfl hv (λw=>stepG_region_end) (hk a v hv h.2)
 | succ fuel ih =>
   intro t listed a v hv h
   obtain⟨h0,h1⟩:=h
   simp only[BF]
   change Win (G (b.at a (.inRegion ops (match(Bo .any ops listed)[t%(Bo .any ops listed).length]? with
    |some i=>BF .any ops fuel (t/(Bo .any ops listed).length) (listed.setIfInBounds i Ak) [i]
    |none=>[].reverse)::k)) cs) v
   cases hi:(Bo .any ops listed)[t%(Bo .any ops listed).length]? with
   | none =>
     have hnil:Bo .any ops listed=[]:=by
      cases hr:Bo .any ops listed with
      |nil=>rfl
      | cons x xs =>
        rw[hr]at hi;have hlt:t%(x::xs).length<(x::xs).length:=B9 _ (by simp);simp at hi;simp at hlt;omega
     exact aD hW rfl hv (λw=>stepG_region_end) (hk a v hv (h0 hnil))
   | some i =>
     simp only[]
     rw[linearise_go_acc,List.reverse_singleton,List.singleton_append]
     have h2:=h1 i (At hi)
     cases ho:ops[i]? with
     | none =>
       simp only[ho]at h2
       refine aD hW (g':=G (b.at a (.inRegion ops (BF .any ops fuel (t/(Bo .any ops listed).length) (listed.setIfInBounds i Ak) [])::k)) cs) rfl hv (λw=>?_) (ih _ _ a v hv h2)
       have hfin:∀rest,(b.at a (.inRegion ops (i::rest)::k)).finish undef=b.at a (.inRegion ops rest::k):=λrest=>by rw[Ek,ho];rfl
       have:∀rest,stepG P M.main (G (b.at a (.inRegion ops (i::rest)::k)) cs) w=.go (G ((b.at a (.inRegion ops (i::rest)::k)).finish undef) cs) w:=λrest=>by simp[G,stepG,Cp,Frame.at,ho]
       rw[this,hfin]
     | some o =>
       simp only[ho]at h2
       split at h2
       . rename_i hw;exact aAw hW hb ho hw hv h2 λa' v' hv' h'=>ih _ _ a' v' hv' h'
       . rename_i hw;exact qX hW ho hw hv (ih _ _ _ v hv h2)
def OkV.congr{v v':Ag}(h:OkV v)(e:v'.heap=v.heap):OkV v':=λb o hb=>h b o (e ▸ hb)
def bNv{id:Ae}{ops:Aw Bf}(hm:P.follows .mixedOrders=Ak)(h:∀d,zL P ops Q ops.size (Bd ops.size Az) a { v with drawn:=d }):WC P (.region id ops Ak) Q a v:=by
 intro Win hW hv b k cs hb hk;refine(M.closed hW).step rfl hv λv1 w he hsim=>?_
 have hd:stepG P M.main (G (b.at a (.code (.region id ops Ak)::k)) cs) w =
  .go (G (b.at a (.inRegion ops (Ff (P.follows .mixedOrders) ops (w.tape w.drawn (.order b.fn id)))::k)) cs) { w with drawn:=w.drawn+1 }:=by
  simp[G,stepG,Cp,Frame.at,choose,Sem.run,Fg,Question.cut]
 have he2:Env { v with drawn:=v1.drawn+1 } { v1 with drawn:=v1.drawn+1 }:=⟨he.tape,he.os,he.output,he.heap⟩;refine⟨_,{ v1 with drawn:=v1.drawn+1 },_,#[],hd,⟨⟨hsim.tape,by simp[hsim.drawn],hsim.os,hsim.output,hsim.size,hsim.blk⟩,(he.okV hv).congr rfl,⟨rfl,rfl,rfl,AM _,λ_ c _ _ h=>⟨c,h,rfl,λ_=>rfl⟩,λ_ o h h1 h2=>⟨o,h,h1,h2⟩⟩,λ_ _ _ _=>rfl,by simp⟩,(M.closed hW).env ?_ he2⟩;simp only[Ff,hm,Bool.true_or,CN];exact bNt hW (Q:=Q) hb (λa' v' hv' hq=>hk .normal a' v' hv' hq) ops.size _ _ a _ (hv.congr rfl) (h _)
def cG{c:B1}{Q':Cf->Act->Ag->Prop}(h:WC P c Q a v)(hq:∀e a v,Q e a v->Q' e a v):WC P c Q' a v :=
 λWin hW hv b k cs hb hk=>h Win hW hv b k cs hb λe a' v' hv' hx=>hk e a' v' hv' (hq _ _ _ hx)
def zY(h:Q .normal a v):WC P .skip Q a v:=λWin hW hv _ _ _ _ hk=>aD hW rfl hv (λ_=>stepG_skip) (hk .normal a v hv h)
def bDf{l:Ae}(h:Q .normal a v):WC P (.label l) Q a v:=λWin hW hv _ _ _ _ hk=>aD hW rfl hv (λ_=>stepG_label) (hk .normal a v hv h)
def aIa(h:Q .ret a v):WC P .ret Q a v:=λWin hW hv _ k _ _ hk=>aD hW rfl hv (λ_=>stepG_ret') (hk .ret a v hv h (.code .ret::k))
def aUr{id:Ae}(h:Q (.exit id) a v):WC P (.exit id) Q a v:=by
 intro Win hW hv b k cs _ hk;have:=hk (.exit id) a v hv h;cases hx:exitTo id k with
 |some k'=>simp only[fW,hx]at this;exact aD hW rfl hv (λ_=>stepG_exit hx) this
 |none=>simp only[fW,hx]at this
def fA{x y:B1}(h:WC P x (Exit.then (WC P y Q) Q) a v):WC P (.seq x y) Q a v:=by
 intro Win hW hv b k cs hb hk;refine aD hW rfl hv (λ_=>stepG_seq) (h Win hW hv b (.code y::k) cs hb λe a' v' hv' hq=>?_);cases e with
 |normal=>exact hq Win hW hv' b k cs hb hk
 |exit id=>have:=hk _ a' v' hv' hq;simp only[fW,exitTo]at this ⊢;exact this
 |ret=>exact hk _ a' v' hv' hq
 |goto l=>have:=hk _ a' v' hv' hq;simp only[fW,gotoIn]at this ⊢;exact this
 |panic ch=>exact hk _ a' v' hv' hq
 |outgrown=>exact hk _ a' v' hv' hq
def oW{c:AN}{x y:B1}{t:Bw}(hc:a.eval c=.bool t)(h:WC P (if t then x else y) Q a v):WC P (.cond c x y) Q a v :=
 λWin hW hv b k cs hb hk=>aD hW rfl hv (λ_=>stepG_cond hc) (h Win hW hv b k cs hb hk)
def aAz{id:Ae}{c:B1}(h:WC P c (EE id Q) a v):WC P (.block id c) Q a v:=by
 intro Win hW hv b k cs hb hk;refine aD hW rfl hv (λ_=>stepG_block) (h Win hW hv b (.inBlock id::k) cs hb λe a' v' hv' hq=>?_);cases e with
 |normal=>exact aD hW rfl hv' (λ_=>stepG_inBlock) (hk .normal a' v' hv' hq)
 | exit id' =>
   simp only[EE]at hq;simp only[fW,exitTo];by_cases he:id'=id
   . rw[AB he]at hq
     have:=hk .normal a' v' hv' hq
     rw[AB (by simpa using he.symm)];exact this
   . rw[Ap he]at hq
     have:=hk (.exit id') a' v' hv' hq
     rw[Ap (by simpa using λx:id=id'=>he x.symm)];exact this
 |ret=>exact hk _ a' v' hv' hq
 |goto l=>have:=hk _ a' v' hv' hq;simp only[fW,gotoIn]at this ⊢;exact this
 |panic ch=>exact hk _ a' v' hv' hq
 |outgrown=>exact hk _ a' v' hv' hq
def aUq{c:B1}(I:Ae->Act->Ag->Prop)(h0:∃n,I n a v)(h:∀n a v,I n a v->WC P c (Exit.then (λa' v'=>∃m,m<n/\I m a' v') Q) a v):WC P (.loop c) Q a v:=by
 intro Win hW hv b k cs hb hk;have key:∀n a v,OkV v->I n a v->Win (G (b.at a (.code c::.inLoop c::k)) cs) v:=by
  intro n;induction n using FN with
  | _ n ih =>
    intro a v hv hI;refine h n a v hI Win hW hv b (.inLoop c::k) cs hb λe a' v' hv' hq=>?_
    cases e with
    | normal =>
      obtain⟨m,hlt,hI'⟩:=hq;exact aD hW rfl hv' (λ_=>stepG_inLoop) (ih m hlt a' v' hv' hI')
    |exit id=>have:=hk _ a' v' hv' hq;simp only[fW,exitTo]at this ⊢;exact this
    |ret=>exact hk _ a' v' hv' hq
    |goto l=>have:=hk _ a' v' hv' hq;simp only[fW,gotoIn]at this ⊢;exact this
    |panic ch=>exact hk _ a' v' hv' hq
    |outgrown=>exact hk _ a' v' hv' hq
 obtain⟨n,hn⟩:=h0;exact aD hW rfl hv (λ_=>stepG_loop) (key n a v hv hn)
def aKz{c:B1}(h:WC P c (Exit.noGoto Q) a v):WC P (.scope c) Q a v:=by
 intro Win hW hv b k cs hb hk;have hs:∀w,stepG P M.main (G (b.at a (.code (.scope c)::k)) cs) w=.go (G (b.at a (.code c::.inScope c::k)) cs) w:=λw=>by simp[G,stepG,Cp,Frame.at]
 refine aD hW rfl hv hs (h Win hW hv b (.inScope c::k) cs hb λe a' v' hv' hq=>?_);cases e with
 |normal=>exact aD hW rfl hv' (λw=>by simp[G,stepG,Cp,Frame.at]) (hk .normal a' v' hv' hq)
 |exit id=>have:=hk _ a' v' hv' hq;simp only[fW,exitTo]at this ⊢;exact this
 |ret=>exact hk _ a' v' hv' hq
 |goto l=>exact hq.elim
 |panic ch=>exact hk _ a' v' hv' hq
 |outgrown=>exact hk _ a' v' hv' hq
def bNw{l:Ae}(h:Q (.goto l) a v):WC P (.goto l) Q a v:=by
 intro Win hW hv b k cs _ hk;have:=hk (.goto l) a v hv h;cases hx:gotoIn l k with
 |some k'=>simp only[fW,hx]at this;exact aD hW rfl hv (λw=>by simp[G,stepG,Cp,Frame.at,hx]) this
 |none=>simp only[fW,hx]at this
def bDg{c:B1}(J:Ae->Ae->Act->Ag->Prop)(h0:WC P c (λe a v=>match e with|.goto l=>∃n,J l n a v|e=>Q e a v) a v)
 (h:∀l n a v,J l n a v->∃rest,findLabel c l=Aa rest/\WC P rest (λe a v=>match e with|.goto l=>∃m,m<n/\J l m a v|e=>Q e a v) a v):WC P (.scope c) Q a v:=by
 intro Win hW hv b k cs hb hk
 have hs:∀w,stepG P M.main (G (b.at a (.code (.scope c)::k)) cs) w=.go (G (b.at a (.code c::.inScope c::k)) cs) w:=λw=>by simp[G,stepG,Cp,Frame.at]
 have key:∀n l a v rest,OkV v->J l n a v->findLabel c l=Aa rest->Win (G (b.at a (.code rest::.inScope c::k)) cs) v:=by
  intro n;induction n using FN with
  | _ n ih =>
    intro l a v rest hv hJ hf;obtain⟨rest',hf',hp⟩:=h l n a v hJ;rw[hf]at hf';injection hf' with hf';subst hf'
    refine hp Win hW hv b (.inScope c::k) cs hb λe a' v' hv' hq=>?_
    cases e with
    |normal=>exact aD hW rfl hv' (λw=>by simp[G,stepG,Cp,Frame.at]) (hk .normal a' v' hv' hq)
    |exit id=>have:=hk _ a' v' hv' hq;simp only[fW,exitTo]at this ⊢;exact this
    |ret=>exact hk _ a' v' hv' hq
    | goto l' =>
      obtain⟨m,hlt,hJ'⟩:=hq;obtain⟨r2,hf2,_⟩:=h l' m a' v' hJ';simp only[fW,gotoIn,hf2];exact ih m hlt l' a' v' r2 hv' hJ' hf2
    |panic ch=>exact hk _ a' v' hv' hq
    |outgrown=>exact hk _ a' v' hv' hq
 refine aD hW rfl hv hs (h0 Win hW hv b (.inScope c::k) cs hb λe a' v' hv' hq=>?_)
 cases e with
 |normal=>exact aD hW rfl hv' (λw=>by simp[G,stepG,Cp,Frame.at]) (hk .normal a' v' hv' hq)
 |exit id=>have:=hk _ a' v' hv' hq;simp only[fW,exitTo]at this ⊢;exact this
 |ret=>exact hk _ a' v' hv' hq
 | goto l' =>
   obtain⟨m,hJ'⟩:=hq
   obtain⟨r2,hf2,_⟩:=h l' m a' v' hJ'
   simp only[fW,gotoIn,hf2]
   exact key m l' a' v' r2 hv' hJ' hf2
 |panic ch=>exact hk _ a' v' hv' hq
 |outgrown=>exact hk _ a' v' hv' hq
def aXf(P:As)(fn:Func)(R:AE->Ag->Prop):Cf->Act->Ag->Prop
 |.normal,a,v|.ret,a,v=>a.defers=[]/\∀v1,Env v v1->∃x,aU P (results fn a.tmps) v1=.ok x v1/\R x v1
 |_,_,_=>False
omit M in
def oZ{b:BU}{cs:Ad BU}{main:Bw}{fn:Func}{todo:Ad Item}{c:BU}{x:AE}{w w':Ag}{es:Aw C5}(hn:b.kind=.normal)(hd:a.defers=[])(hf:P.funcs[b.fn]? = Aa fn)
 (hr:(results fn a.tmps).runT P w #[]=(.ok x w',es)) :
 stepG P main (G { b.at a todo with mode:=.returning } (c::cs)) w=.go (G (c.finish x) cs) w' (seen P b.fn es):=by
 simp only[G,stepG,unwind,Frame.at,hd,hf,hr,doReturn,hn,CJ]
 simp
def jT{f:AU}{fn:Func}{c:B1}{args:Aw AE}{R:AE->Ag->Prop}(hf:P.funcs[f]? = Aa fn)(hb:fn.body=Aa c)
 (h:WC P c (aXf P fn R) { tmps:=args++Bd (fn.ntmps-args.size) undef,defers:=[] } v):CX P f args v R:=by
 intro Win hW hv c0 cs hk
 rw[enter_at args hf hb]
 have back:∀(a':Act) (v':Ag) (todo:Ad Item),OkV v'->aXf P fn R .ret a' v'->Win (G { (base f).at a' todo with mode:=.returning } (c0::cs)) v':=by
  intro a' v' todo hv' hq;obtain⟨hd,hr⟩:=hq;refine(M.closed hW).step rfl hv' λv1 w he hsim=>?_
  obtain⟨x,hx,hR⟩:=hr v1 he;obtain⟨w',es',h1,h2,h3,h4,h5,h6⟩:=fH _ v1 w #[] x v1 (he.okV hv') hsim hx;refine⟨_,v1,w',_,oZ (b:=base f) rfl hd hf h1,⟨h2,h3,h4,h5,λe he'=>h6 e (by have:=mem_seen he';simpa using this)⟩,hk x v1 h3 hR⟩
 refine h Win hW hv (base f) [] (c0::cs) (.inl rfl) λe a' v' hv' hq=>?_
 cases e with
 | normal =>
   refine aD hW rfl hv' (λw=>stepG_end) ?_
   exact back a' v' [] hv' hq
 |ret=>exact λtodo=>back a' v' todo hv' hq
 |exit id=>exact hq.elim
 |goto l=>exact hq.elim
 |panic ch=>exact hq.elim
 |outgrown=>exact hq.elim
end
end
end Go.Am
namespace Go.Am
section
variable {P:As}
def aB{α β:Type}(x:Sem α)(f:α->Sem β)(P:As)(w:Ag):aU P (x >>= f) w=(aU P x w).andThen λa w'=>aU P (f a) w':=oH P w x f
def fX{α β:Type}(x:Sem α)(f:α->β)(P:As)(w:Ag):aU P (f <$> x) w=(aU P x w).andThen λa w'=>.ok (f a) w':=bFn P w x f
def aX{α:Type}(a:α)(P:As)(w:Ag):aU P (Pure.pure a:Sem α) w=.ok a w:=rfl
def yU(P:As)(w:Ag):aU P program w=.ok P w:=rfl
@[simp]def aBu(P:As)(w:Ag)(c:Aw AE)(e:AF)(f:Ae×Ae):aU P (newObj (.cells c e f)) w=.ok w.heap.size { w with heap:=w.heap.push (.cells c e f) }:=nI P w _ rfl
@[simp]def bXt(P:As)(w:Ag)(c:Aw MapEntry)(k:Ae):aU P (newObj (.map c k)) w=.ok w.heap.size { w with heap:=w.heap.push (.map c k) }:=nI P w _ rfl
@[simp]def bVk(P:As)(w:Ag)(m:Aq Ae)(i:Ae)(s:Aw Ae)(j:Ae):aU P (newObj (.mapIter m i s j)) w=.ok w.heap.size { w with heap:=w.heap.push (.mapIter m i s j) }:=nI P w _ rfl
def aE{t:AF}{d:TypeDesc}(h:P.underlying t=Aa d)(w:Ag):aU P (underlying t) w=.ok d w:=by simp[underlying,h]
def rA(w:Ag)(t:AF)(a b:Bw)(h:P.underlying t=Aa .bool):aU P (Gt t (.bool a) (.bool b)) w=.ok (a==b) w:=by unfold Gt;rw[show DG=9999+1 from rfl,D2];simp[aE h]
def aIo(w:Ag)(t:AF)(a b:Bw)(h:P.underlying t=Aa .bool):aU P (binOp .eql t (.bool a) (.bool b)) w=.ok (.bool (a==b)) w:=by simp only[binOp];simp[rA w t a b h]
def aIl(w:Ag)(t:AF)(a b:Bw)(h:P.underlying t=Aa .bool):aU P (binOp .neq t (.bool a) (.bool b)) w=.ok (.bool (!(a==b))) w:=by simp only[binOp];simp[rA w t a b h]
def aIn(w:Ag)(ts:Aw AF)(t:AF)(k k':BJ)(x y:Al):aU P (Builtin.max_ ts t #[.int k x,.int k' y]) w=.ok (.int k (if y>x then y else x)) w:=by simp[Builtin.max_,Builtin.max2]
def aIm(w:Ag)(ts:Aw AF)(t:AF)(k k':BJ)(x y:Al):aU P (Builtin.min_ ts t #[.int k x,.int k' y]) w=.ok (.int k (if y<x then y else x)) w:=by simp[Builtin.min_,Builtin.min2]
def bFg(w:Ag)(t e:AF)(i:TypeInfo)(z:AE)(ht:P.underlying t=Aa (.slice e))(hi:P.info? e=Aa i)(hz:i.zero=Aa z)(kl kc:BJ)(l c:Al)(h0:0<=l)(hlc:l<=c)
 (hb:(i.bytes:Al)*c<=281474976710656) (h63:c<=9223372036854775807):aU P (Instr.makeSlice t (.int kl l) (.int kc c)) w=.ok (.slice (Aa ⟨w.heap.size,0,Aj⟩) l.toNat c.toNat) (w.alloc (.cells (madeCells z.cells (c.toNat*i.size)) e)):=by
 have e1:Ax.wrap l=l/\Ax.wrap c=c:=by constructor<;>(rw[IntKind.wrap_i64];omega)
 have e2:¬c<0/\¬(281474976710656<(i.bytes:Al)*c)/\¬l<0/\¬c<l:=by omega
 by_cases hn:c.toNat*i.size=0
 . simp[Instr.makeSlice,aE ht,asInt,asIntOf,typeInfo,hi,sizeOf,e1,e2,hn,newRow,madeCells,GU]
 . simp[Instr.makeSlice,aE ht,asInt,asIntOf,typeInfo,hi,sizeOf,zeroValue,hz,e1,e2,hn,newRow,madeCells]
def dB{w:Ag}{r:Ae}{es:Aw MapEntry}{clock:Ae}(hb:w.heap[r]? = Aa (.map es clock)):aU P (getObj r) w=.ok (.map es clock) w:=by simp[getObj,aU,hb]
def zQ{w:Ag}{r:Ae}{m:Aq Ae}{i:Ae}{s:Aw Ae}{j:Ae}(hb:w.heap[r]? = Aa (.mapIter m i s j)):aU P (getObj r) w=.ok (.mapIter m i s j) w:=by simp[getObj,aU,hb]
def jJ{w:Ag}{r:Ae}{es es':Aw MapEntry}{clock clock':Ae}(hb:w.heap[r]? = Aa (.map es clock)):aU P (setObj r (.map es' clock')) w=.ok () { w with heap:=w.heap.setIfInBounds r (.map es' clock') }:=by simp[setObj,aU,hb,okO]
def aEt(w:Ag)(t k e:AF)(bm:Ae)(es:Aw MapEntry)(clock:Ae)(ht:P.underlying t=Aa (.map k e))(hb:w.heap[bm]? = Aa (.map es clock)) :
 aU P (Instr.range t (.map (Aa bm))) w=.ok (.pointer (Aa ⟨w.heap.size,0,Aj⟩)) (w.alloc (.mapIter (Aa bm) clock #[] clock)):=by
 simp[Instr.range,aE ht,dB hb]
def qZ{w:Ag}{kt:AF}{d:TypeDesc}{k:AE}{l:Ad MapEntry}{a:Aq (Ae×AE)}(hd:P.underlying kt=Aa d)(h:G2 d k l 0=Aa a):aU P (Instr.findKey kt k l) w=.ok a w:=by simp[Instr.findKey,aE hd,h]
def pA{w:Ag}{kt:AF}{d:TypeDesc}{k:AE}(hd:P.underlying kt=Aa d)(hk:EM d k)(e:Bw)(n:Ae):aU P (Instr.checkKey e (n+1) kt k) w=.ok () w:=by unfold Instr.checkKey;simp only[oH,aE hd,AR];cases d<;>cases k<;>simp_all [EM]
def xM{w:Ag}{d:TypeDesc}{k:AE}(hk:EM d k):aU P (Instr.keyThatStays k k) w=.ok k w:=by simp[Instr.keyThatStays,MapKept.sameBits_self hk]
def aFx{w:Ag}{a:Addr}{v:AE}(h:w.cell? a=Aa v):aU P (load a) w=.ok v w:=by simp[load,aU,h]
def aRa{w:Ag}{a:Addr}{v y:AE}(hv:v.oneCell'=Ak)(h:w.cell? a=Aa y)(hf:w.frozen? a=Az):aU P (store a v) w=.ok () (w.setCell a v):=by cases v<;>first|(simp[CZ]at hv;done)|(simp[store,aU,h,hf])
def nG(w:Ag)(a:Addr)(f:Ae->AE):∀(n i:Ae) (acc:Aw AE),(∀j,j<n->w.cell? (a.add (i+j))=Aa (f (i+j)))->aU P (loadCellsFrom a i n acc) w=.ok (acc++((AW n).map λj=>f (i+j)).toArray) w
 |0,i,acc,_=>by simp[loadCellsFrom]
 | n+1,i,acc,h=>by have h0:=h 0 (by omega);simp only[CU]at h0;simp only[loadCellsFrom,oH,aFx h0,AR];rw[nG w a f n (i+1) _ λj hj=>by have:=h (j+1) (by omega);rwa [show i+(j+1)=i+1+j from by omega]at this];congr 1;rw[List.range_succ_eq_map];simp only[BX,List.map_map,CU];apply Array.ext';simp[Function.comp_def,EL,EF 1]
def tO(w:Ag)(a:Addr)(n:Ae)(f:Ae->AE)(h:∀j,j<n->w.cell? (a.add j)=Aa (f j)):aU P (loadCells a n) w=.ok ((AW n).map f).toArray w:=by have:=nG (P:=P) w a f n 0 #[] (λj hj=>by simpa using h j hj);simpa[loadCells]using this
def dY(w:Ag)(size n:Ae)(b:Addr)(len cap:Ae)(cs:Ad AE)(hl:cs.length=n*size)(h:∀j v,cs[j]? = Aa v->w.cell? (b.add j)=Aa v):aU P (DS size n (.slice (Aa b) len cap)) w=.ok cs.toArray w:=by
 simp only[DS];rw[tO w b (n*size) (λj=>cs.getD j undef) λj hj=>by
  have hj':j<cs.length:=by omega
  rw[h j cs[j] (Ac hj')];simp[hj']]
 congr 1;rw[<-hl];apply Array.ext';refine List.ext_getElem (by simp) λj h1 h2=>?_
 simp at h1 h2 ⊢;simp[h2]
def lI(w:Ag)(size n len cap:Ae):aU P (DS size n (.slice Aj len cap)) w=.ok #[] w:=by simp[DS]
def run_storeCells_at(g o:Ae)(t:AF):∀(vs:Ad AE) (i:Ae) (cur:Aw AE) (w:Ag),w.heap[g]? = Aa (.cells cur t (0,0))->o+i+vs.length<=cur.size->(∀v∈vs,v.oneCell'=Ak) ->
 aU P (storeCells ⟨g,o,Aj⟩ vs i) w=.ok () (w.setRow g (cur.toList.take (o+i)++vs++cur.toList.drop (o+i+vs.length)).toArray):=by
 intro vs i cur w hg hl h1
 have hr:=_root_.Go.run_storeCells_at P g o t vs i cur w hg hl h1
 rw[<-hr]
 clear hr
 induction vs generalizing i cur w with
 |nil=>simp[storeCells]
 | cons v rest ih =>
   have hi:o+i<cur.size:=by simp at hl;omega
   have hadd:(⟨g,o,Aj⟩:Addr).add i=⟨g,o+i,Aj⟩:=by unfold Addr.add;split<;>simp_all
   have hcell:w.cell? ⟨g,o+i,Aj⟩=Aa cur[o+i]:=by simp[BN,hg,hi]
   have hfro:w.frozen? ⟨g,o+i,Aj⟩=false:=by simp[DY,hg]
   have hone:=h1 v (by simp)
   have e1:aU P (store ((⟨g,o,Aj⟩:Addr).add i) v) w=.ok () (w.setCell ⟨g,o+i,Aj⟩ v):=by rw[hadd];exact aRa hone hcell hfro
   have e2:(store ((⟨g,o,Aj⟩:Addr).add i) v).run P w=.ok () (w.setCell ⟨g,o+i,Aj⟩ v):=by rw[hadd,run_store P w _ v _ hone,hcell];simp[hfro]
   simp only[storeCells,oH,Go.Sem.run_bind,e1,e2,AR]
   refine ih (i+1) (cur.setIfInBounds (o+i) v) _ ?_ (by simp at hl ⊢;omega) λx hx=>h1 x (by simp[hx])
   rw[setCell_eq_setRow w g (o+i) cur t (0,0) v hg]
   exact setRow_heap w g cur _ t _ hg
def rB(w:Ag)(t ty e:AF)(i:TypeInfo)(z:AE)(ht:P.underlying t=Aa (.slice e))(hi:P.info? e=Aa i)(hz:i.zero=Aa z)
 (a:Addr) (n c:Ae) (news:Ad AE) (hl:news.length=n*i.size) (hnews:∀j v,news[j]? = Aa v->w.cell? (a.add j)=Aa v) (h0:0<n) (h63:(n:Al)<=9223372036854775807) (h48:n*i.bytes<=281474976710656) :
 aU P (Cm #[t,t] ty #[.slice Aj 0 0,.slice (Aa a) n c]) w=.ok (.slice (Aa ⟨w.heap.size,0,Aj⟩) n (grownCap w n 0 e)) (w.drew.alloc (.cells (news.toArray++DH z.cells (grownCap w n 0 e-n)) e)):=by
 have e1:n≠0/\¬(9223372036854775807<(n:Al)):=by omega
 have e2:¬(281474976710656<Fs n 0*i.bytes):=by rw[nextslicecap_zero h0];omega
 have hf:=dY (P:=P) w.drew i.size n a n c news hl (by simpa using hnews)
 simp[Cm,aE ht,sizeOf,typeInfo,zeroValue,hi,hz,Er,e1,e2,Fg,lI,hf,newRow,grownCap]
def qJ(w:Ag)(t ty e:AF)(i:TypeInfo)(z:AE)(ht:P.underlying t=Aa (.slice e))(hi:P.info? e=Aa i)(hz:i.zero=Aa z)
 (b:Addr) (sLen sCap:Ae) (olds:Ad AE) (hlo:olds.length=sLen*i.size) (holds:∀j v,olds[j]? = Aa v->w.cell? (b.add j)=Aa v)
 (a:Addr) (n c:Ae) (news:Ad AE) (hl:news.length=n*i.size) (hnews:∀j v,news[j]? = Aa v->w.cell? (a.add j)=Aa v)
 (hg:sCap<sLen+n) (h63:((sLen+n:Ae):Al)<=9223372036854775807) (hfit:Fs (sLen+n) sCap*i.bytes<=281474976710656) :
 aU P (Cm #[t,t] ty #[.slice (Aa b) sLen sCap,.slice (Aa a) n c]) w =
  .ok (.slice (Aa ⟨w.heap.size,0,Aj⟩) (sLen+n) (grownCap w (sLen+n) sCap e))
   (w.drew.alloc (.cells (olds.toArray++news.toArray++DH z.cells (grownCap w (sLen+n) sCap e-(sLen+n))) e)):=by
 have e1:¬(sLen+n<=sCap)/\¬(9223372036854775807<((sLen:Al)+(n:Al)))/\¬(281474976710656<Fs (sLen+n) sCap*i.bytes):=by omega
 have hf:=dY (P:=P) w.drew i.size n a n c news hl (by simpa using hnews)
 have hfo:=dY (P:=P) w.drew i.size sLen b sLen sCap olds hlo (by simpa using holds)
 simp[Cm,aE ht,sizeOf,typeInfo,zeroValue,hi,hz,Er,e1,Fg,hf,hfo,newRow,grownCap]
 congr 2
 apply Array.ext'
 simp
def zR(w:Ag)(t ty e:AF)(i:TypeInfo)(ht:P.underlying t=Aa (.slice e))(hi:P.info? e=Aa i)
 (g sLen sCap:Ae) (cur:Aw AE) (hg:w.heap[g]? = Aa (.cells cur e (0,0)))
 (a:Addr) (m c:Ae) (news:Ad AE) (hl:news.length=m*i.size) (hnews:∀j u,news[j]? = Aa u->w.cell? (a.add j)=Aa u) (h1:∀u∈news,u.oneCell'=Ak)
 (hroom:sLen+m<=sCap) (hfit:sLen*i.size+news.length<=cur.size) :
 aU P (Cm #[t,t] ty #[.slice (Aa ⟨g,0,Aj⟩) sLen sCap,.slice (Aa a) m c]) w =
  .ok (.slice (Aa ⟨g,0,Aj⟩) (sLen+m) sCap) (w.setRow g (cur.toList.take (sLen*i.size)++news++cur.toList.drop (sLen*i.size+news.length)).toArray):=by
 have hf:=dY (P:=P) w i.size m a m c news hl hnews
 have hst:=run_storeCells_at (P:=P) g (sLen*i.size) e news 0 cur w hg (by simpa using hfit) h1
 simp only[CU]at hst
 simp[Cm,aE ht,sizeOf,typeInfo,hi,Er,hroom,hf,Addr.add_lit,hst]
def aIp(w:Ag)(r bm since:Ae)(seen:Aw Ae)(es:Aw MapEntry)(clock:Ae)(e:MapEntry)
 (hr:w.heap[r]? = Aa (.mapIter (Aa bm) since (seen.push e.born) clock)) (hb:w.heap[bm]? = Aa (.map es clock)) (he:e∈es.toList) (hn:(es.toList.map (·.born)).Nodup) :
 aU P (Instr.entry (.pointer (Aa ⟨r,0,Aj⟩))) w=.ok (.tuple #[e.key,e.val]) w:=by
 have hf:es.find? (·.born==e.born)=Aa e:=by rw[<-Array.find?_toList];exact Go.find_born e es.toList hn he
 simp only[Instr.entry,oH,zQ hr,dB hb,AR,Array.back?_push,bne_self_eq_false,Ch,DV,hf]
 rfl
end
def cv1:AE->AV
 |.bool x=>.d (.b x)
 |.int k n=>.d (.i k n)
 |.slice Aj 0 0=>.nil
 |v=>.d (.lit v)
def cv:AE->AV
 |.agg cs=>.ag (cs.toList.map cv1)
 |v=>cv1 v
def oev(Γ:Ae->AV):AN->AV
 |.tmp t=>Γ t
 |.const v=>cv v
 |.global g=>.d (.lit (.pointer (Aa ⟨g,0,Aj⟩)))
 |.func f=>.d (.lit (.func (.func f) #[] #[]))
section
variable {F:Ae->Prop} {w:Ag} {ι:Ae->Aq Ae}
def bMm(v:AE):V F w ι (cv1 v) v:=by
 unfold cv1;split
 .exact .d _ _ (.b _)
 .exact .d _ _ (.i _ _)
 .exact .nil
 .exact .d _ _ (.lit _)
def aKm(cs:Aw AE)(k:Ae)(c:AV)(v:AE)(h:(cs.toList.map cv1)[k]? = Aa c)(h':cs[k]? = Aa v):V F w ι c v:=by simp only[Ao,Bq,h',Bj,AH]at h;subst h;exact bMm v
def bMn(v:AE):V F w ι (cv v) v:=by
 unfold cv;split
 .exact .ag _ _ (by simp) (aKm _)
 .exact bMm _
def cD{Γ:Ae->AV}{a:Act}{x:AN}(h:∀t,x=.tmp t->V F w ι (Γ t) (a.tmps.getD t undef)):V F w ι (oev Γ x) (a.eval x):=by
 cases x with
 |tmp t=>exact h t rfl
 |const v=>exact bMn v
 |global g=>exact .d _ _ (.lit _)
 |func f=>exact .d _ _ (.lit _)
end
def HR.congrC{G:Ctx}{F:Ae->Prop}{w:Ag}{ι:Ae->Aq Ae}{C C':Ae->Prop}{H:Hp}(h:HR G F w ι C H)(hC:∀id,C id↔C' id):HR G F w ι C' H:=by
 have:C=C':=funext λid=>propext (hC id)
 exact this ▸ h
def HR.weakC{G:Ctx}{F:Ae->Prop}{w:Ag}{ι:Ae->Aq Ae}{C C':Ae->Prop}{H:Hp}(h:HR G F w ι C H)(hC:∀id,C id->C' id):HR G F w ι C' H :=
 ⟨h.kept,h.F_lt,h.F_ok,λid b e=>⟨(h.place id b e).1,(h.place id b e).2.1,λhn=>(h.place id b e).2.2 λx=>hn (hC _ x)⟩,h.obj,
  λid id' b e e' n n'=>h.inj id id' b e e' (λx=>n (hC _ x)) (λx=>n' (hC _ x)),
  λid id' b o o' e e' n=>h.len id id' b o o' e e' (λx=>n (hC _ x))⟩
def Y(P:As)[M:Mch P](G:Ctx)(o:Bf)(Γ:Ae->AV)(C:Ae->Prop)(H H':Hp)(av:AV)(new con:Ae->Prop):Prop :=
 ∀(F:Ae->Prop) (w:Ag) (ι:Ae->Aq Ae) (a:Act),OkV w->HR G F w ι C H ->
  (∀t,CK t∈o.op.operands->V F w ι (Γ t) (a.tmps.getD t undef))->(∀id,new id->ι id=Aj) ->
  ∀(next:Act->Ag->Prop),
   (∀(F':Ae->Prop) (w':Ag) (ι':Ae->Aq Ae) (u:AE),HR G F' w' ι' (λid=>C id\/con id) H'->Step F w ι F' w' ι' ->
    (∀id b,ι' id=Aa b->ι id=Aa b\/new id)->(∀id,new id->∃b,ι' id=Aa b)->V F' w' ι' av u->next (a.put o.dst u) w')->wpX P o a w next
def bG:Ae->Prop:=λ_=>False
def xD{P:As}[M:Mch P]{G:Ctx}{o:Bf}{Γ:Ae->AV}{C:Ae->Prop}{H:Hp}{av:AV}
 (h:∀(F:Ae->Prop) (w:Ag) (ι:Ae->Aq Ae) (a:Act),HR G F w ι C H->(∀t,CK t∈o.op.operands->V F w ι (Γ t) (a.tmps.getD t undef)) ->
  ∃u,(aU P (execOp a.eval o) w=.ok (.value u) w)/\V F w ι av u):Y P G o Γ C H H av bG bG:=by
 intro F w ι a hok hR hop _ next hn
 obtain⟨u,hr,hv⟩:=h F w ι a hR hop
 unfold wpX
 rw[hr]
 exact hn F w ι u (hR.weakC λ_ h=>.inl h) (.refl _ _ _) (λ_ _ h=>.inl h) (λ_ h=>h.elim) hv
def upd{α:Type}(f:Ae->α)(k:Ae)(x:α):Ae->α:=λj=>if j=k then x else f j
def upd_same{α:Type}(f:Ae->α)(k:Ae)(x:α):upd f k x k=x:=by simp[upd]
def upd_ne{α:Type}(f:Ae->α){k j:Ae}(x:α)(h:j≠k):upd f k x j=f j:=by simp[upd,h]
section
variable {G:Ctx} {F:Ae->Prop} {w:Ag} {ι:Ae->Aq Ae} {C:Ae->Prop} {H:Hp}
def HR.ι_lt(hR:HR G F w ι C H){id b:Ae}(h:ι id=Aa b):b<w.heap.size:=(hR.place id b h).2.1
structure jW(w:Ag)(o:Obj)(w1:Ag):Prop where
 heap:w1.heap=w.heap.push o
 os:w1.os=w.os
 tape:w1.tape=w.tape
 output:w1.output=w.output
def jW.alloc(w:Ag)(o:Obj):jW w o (w.alloc o):=⟨rfl,rfl,rfl,rfl⟩
def jW.drew(w:Ag)(o:Obj):jW w o (w.drew.alloc o):=⟨rfl,rfl,rfl,rfl⟩
def jW.old{w w1:Ag}{o:Obj}(h:jW w o w1)(i:Ae)(hi:i<w.heap.size):w1.heap[i]? = w.heap[i]? := by rw[h.heap,BW,Ap (by omega)]
def jW.new{w w1:Ag}{o:Obj}(h:jW w o w1):w1.heap[w.heap.size]? = Aa o:=by rw[h.heap,BW,AB rfl]
def jW.size{w w1:Ag}{o:Obj}(h:jW w o w1):w1.heap.size=w.heap.size+1:=by rw[h.heap,Array.size_push]
def uA(hR:HR G F w ι C H)(n:Ae)(hn:ι n=Aj){o:Obj}{w1:Ag}(hw:jW w o w1):Step F w ι F w1 (upd ι n (Aa w.heap.size)) :=
 ⟨λ_ h=>h,λb hb=>hw.old b (hR.F_lt b hb),λid b e=>by
  rw[upd_ne _ _ (λhe=>by rw[he,hn]at e;cases e)];exact e,
 λid b cur e hi hb=>⟨cur,(hw.old b (hR.ι_lt hi)).trans hb,rfl⟩⟩
def CR.step{F':Ae->Prop}{w':Ag}{ι':Ae->Aq Ae}{x:HO}{ob:Obj}(hs:Step F w ι F' w' ι')(h:CR F w ι x ob):CR F' w' ι' x ob:=by
 cases h with
 |cells e cs cur hl h=>exact .cells e cs cur hl λk c hk=>let ⟨u,h1,h2⟩:=h k c hk;⟨u,h1,h2.step hs⟩
 |map k es ents clock hl hst h=>exact .map k es ents clock hl hst λj x hj=>let ⟨en,h1,h2,h3⟩:=h j x hj;⟨en,h1,h2,h3.step hs⟩
 |iter k last es bm since c0 clock seen ents hF hb hold hsc hn hl h hla=>exact .iter k last es bm since c0 clock seen ents (hs.F_le _ hF) ((hs.blk _ hF).trans hb) hold hsc hn hl (λj x hj=>let ⟨en,h1,h2,h3⟩:=h j x hj;⟨en,h1,h2,h3.step hs.F_le hs.blk⟩) λx hx=>let ⟨e1,en,sn,e2,e3,e4,e5⟩:=hla x hx;⟨e1,en,sn,e2,e3,e4,e5.step hs.F_le hs.blk⟩
def HR.alloc(hR:HR G F w ι C H)(n:Ae)(hn:ι n=Aj){o:Obj}{w1:Ag}(hw:jW w o w1)(ho:HO)(hH:H n=Aa ho)(hcr:CR F w1 (upd ι n (Aa w.heap.size)) ho o) :
 HR G F w1 (upd ι n (Aa w.heap.size)) C H:=by
 have hs:=uA hR n hn hw
 have hsz:=hw.size
 have hW:G.W.heap.size<=w.heap.size:=hR.kept.size
 have cases_ι:∀id b,upd ι n (Aa w.heap.size) id=Aa b->(id=n/\b=w.heap.size)\/(id≠n/\ι id=Aa b):=by
  intro id b e;by_cases h:id=n
  .subst h;rw[upd_same]at e;injection e with e;exact .inl ⟨rfl,e.symm⟩
  .rw[upd_ne _ _ h]at e;exact .inr ⟨h,e⟩
 refine⟨hR.kept.trans ⟨hw.os,hw.tape,hw.output,by omega,λk hk _=>hw.old k (by omega),λk cur e hk hc=>⟨cur,(hw.old k (by omega)).trans hc,rfl⟩⟩,λb hb=>by have:=hR.F_lt b hb;omega,hR.F_ok,?_,?_,?_,?_⟩
 .intro id b e
  rcases cases_ι id b e with ⟨_,rfl⟩|⟨_,e⟩
  .exact⟨.inr hW,by omega,λ_ hF=>by have:=hR.F_lt _ hF;omega⟩
  .obtain⟨h1,h2,h3⟩:=hR.place id b e
   exact⟨h1,by omega,h3⟩
 .intro id b x e hx
  rcases cases_ι id b e with ⟨rfl,rfl⟩|⟨_,e⟩
  .rw[hH]at hx;injection hx with hx;subst hx;exact⟨o,hw.new,hcr⟩
  .obtain⟨ob,h2,h3⟩:=hR.obj id b x e hx
   exact⟨ob,(hw.old b (hR.ι_lt e)).trans h2,h3.step hs⟩
 .intro id id' b e e' hc hc'
  rcases cases_ι id b e with ⟨h1,h2⟩|⟨_,h2⟩<;>rcases cases_ι id' b e' with ⟨h1',h2'⟩|⟨_,h2'⟩
  .rw[h1,h1']
  .have:=hR.ι_lt h2';omega
  .have:=hR.ι_lt h2;omega
  .exact hR.inj id id' b h2 h2' hc hc'
 .intro id id' b x x' e e' hc hx hx'
  rcases cases_ι id b e with ⟨h1,h2⟩|⟨_,h2⟩<;>rcases cases_ι id' b e' with ⟨h1',h2'⟩|⟨_,h2'⟩
  .rw[h1]at hx;rw[h1',hx]at hx';injection hx' with h;subst h;exact AM _
  .have:=hR.ι_lt h2';omega
  .have:=hR.ι_lt h2;omega
  .exact hR.len id id' b x x' h2 h2' hc hx hx'
end
def bNg{P:As}[M:Mch P]{G:Ctx}{o:Bf}{Γ:Ae->AV}{C:Ae->Prop}{H:Hp}{av:AV}{n:Ae}{ho:HO}(hH:H n=Aa ho)
 (h:∀(F:Ae->Prop) (w:Ag) (ι:Ae->Aq Ae) (a:Act),(∀t,CK t∈o.op.operands->V F w ι (Γ t) (a.tmps.getD t undef)) ->
  ∃u ob w1,aU P (execOp a.eval o) w=.ok (.value u) w1/\jW w ob w1 /\
   (∀F' w' ι',Step F w ι F' w' ι'->ι' n=Aa w.heap.size->w'.heap[w.heap.size]? = Aa ob->CR F' w' ι' ho ob/\V F' w' ι' av u)) :
 Y P G o Γ C H H av (·=n) bG:=by
 intro F w ι a hok hR hop hnew next hn
 obtain⟨u,ob,w1,hr,hw,hv⟩:=h F w ι a hop
 have h0:=hnew n rfl
 have hs:=uA hR n h0 hw
 obtain⟨hcr,hvv⟩:=hv _ _ _ hs (upd_same _ _ _) hw.new
 unfold wpX
 rw[hr]
 refine hn F _ _ u ((hR.alloc n h0 hw ho hH hcr).weakC λ_ h=>.inl h) hs (λid b e=>?_) (λid h=>⟨_,by subst h;exact upd_same _ _ _⟩) hvv
 by_cases hid:id=n
 .exact .inr hid
 .rw[upd_ne _ _ hid]at e;exact .inl e
def one:AV->Bw
 |.d (.b _)|.d (.i _ _)|.d (.sl _)|.nil|.own ..|.ptr ..|.mp _|.fp _|.fd _|.fn ..|.bm ..|.d (.pt _)|.d (.fn _ _)|.d (.iff _ _)=>Ak
 |.d (.lit v)=>v.oneCell'
 |_=>Az
def eC:AV->Aq (Ad AV)
 |.ag cs=>if cs.all one then Aa cs else Aj
 |.d (.ag cs)=>if(cs.map AV.d).all one then Aa (cs.map .d)else Aj
 |x=>if one x then Aa [x]else Aj
def zW:AV->Aq (Ad AV)
 |.ag cs=>Aa cs
 |.d (.ag cs)=>Aa (cs.map .d)
 |_=>Aj
def aYf:AV->Aq (Ad AV)
 |.tp cs=>Aa cs
 |.d (.tp cs)=>Aa (cs.map .d)
 |_=>Aj
section
variable {F:Ae->Prop} {w:Ag} {ι:Ae->Aq Ae}
def bVm{x:AV}{v:AE}(h1:one x=Ak)(h:V F w ι x v):v.oneCell'=true:=by
 cases h with
 |d x v h=>cases h<;>first|rfl|(simp[one]at h1;done)|simpa[one]using h1
 |ag cs vs hl h=>simp[one]at h1
 |tp cs vs hl h=>simp[one]at h1
 |un=>simp[one]at h1
 |any v=>simp[one]at h1
 |_=>rfl
def cells_one{v:AE}(h:v.oneCell'=Ak):v.cells=#[v]:=by cases v<;>first|rfl|(simp[CZ]at h)
def xA{cs:Ad D}{vs:Aw AE}(h:∀(k:Ae) c v,cs[k]? = Aa c->vs[k]? = Aa v->VD F w c v) :
 ∀(k:Ae) c v,(cs.map AV.d)[k]? = Aa c->vs[k]? = Aa v->V F w ι c v:=by
 intro k c v hc hv
 rw[Ao]at hc
 obtain⟨d,hd,rfl⟩:=Ai.1 hc
 exact .d _ _ (h k d v hd hv)
def yM{x:AV}{v:AE}{cs:Ad AV}(h:zW x=Aa cs)(hv:V F w ι x v):∃vs,v=.agg vs/\cs.length=vs.size/\∀(k:Ae) c u,cs[k]? = Aa c->vs[k]? = Aa u->V F w ι c u:=by
 unfold zW at h;split at h
 .injection h with h;subst h;cases hv with|ag _ vs hl hh=>exact⟨vs,rfl,hl,hh⟩
 .injection h with h;subst h;cases hv with|d _ _ hh=>cases hh with|ag _ vs hl hh=>exact⟨vs,rfl,by simpa using hl,xA hh⟩
 .cases h
def bXf{x:AV}{v:AE}{cs:Ad AV}(h:aYf x=Aa cs)(hv:V F w ι x v):∃vs,v=.tuple vs/\cs.length=vs.size/\∀(k:Ae) c u,cs[k]? = Aa c->vs[k]? = Aa u->V F w ι c u:=by
 unfold aYf at h;split at h
 .injection h with h;subst h;cases hv with|tp _ vs hl hh=>exact⟨vs,rfl,hl,hh⟩
 .injection h with h;subst h;cases hv with|d _ _ hh=>cases hh with|tp _ vs hl hh=>exact⟨vs,rfl,by simpa using hl,xA hh⟩
 .cases h
def CV(F:Ae->Prop)(w:Ag)(ι:Ae->Aq Ae)(cs:Ad AV)(vs:Aw AE):Prop :=
 cs.length=vs.size/\(∀(k:Ae) c u,cs[k]? = Aa c->vs[k]? = Aa u->V F w ι c u)/\∀u∈vs,u.oneCell'=Ak
def aEp{cs:Ad AV}{vs:Aw AE}(h1:cs.all one=Ak)(hl:cs.length=vs.size)(h:∀(k:Ae) c u,cs[k]? = Aa c->vs[k]? = Aa u->V F w ι c u):CV F w ι cs vs:=by
 refine⟨hl,h,λu hu=>?_⟩;obtain⟨k,hk,rfl⟩:=Fl.1 hu;have hk':k<cs.length:=by omega
 exact bVm (A1.1 h1 _ (B3 hk')) (h k cs[k] vs[k] (Ac hk') (Ar hk))
def aDs{x:AV}{v:AE}{cs:Ad AV}(h:eC x=Aa cs)(hv:V F w ι x v):CV F w ι cs v.cells:=by
 unfold eC at h;split at h
 .split at h
  .rename_i h1;injection h with h;subst h
   cases hv with|ag _ vs hl hh=>exact aEp h1 hl hh
  .cases h
 .split at h
  .rename_i h1;injection h with h;subst h
   cases hv with|d _ _ hh=>cases hh with|ag _ vs hl hh=>exact aEp h1 (by simpa[Value.cells]using hl) (xA hh)
  .cases h
 .split at h
  .rename_i h1;injection h with h;subst h
   have h2:=bVm h1 hv;rw[cells_one h2];exact aEp (by simpa using h1) (by simp) λk c u hc hu=>by
    rcases k with _|k
    .simp at hc hu;subst hc;subst hu;exact hv
    .simp at hc
  .cases h
def CV.get{cs:Ad AV}{vs:Aw AE}(h:CV F w ι cs vs){k:Ae}{c:AV}(hc:cs[k]? = Aa c):∃u,vs[k]? = Aa u/\V F w ι c u:=by
 have hk:k<cs.length:=(AA.1 hc).1;have hk':k<vs.size:=by have:=h.1;omega
 exact⟨vs[k],Ar hk',h.2.1 k c _ hc (Ar hk')⟩
def CV.step{F':Ae->Prop}{w':Ag}{ι':Ae->Aq Ae}{cs:Ad AV}{vs:Aw AE}(hs:Step F w ι F' w' ι')(h:CV F w ι cs vs):CV F' w' ι' cs vs :=
 ⟨h.1,λk c u hc hu=>(h.2.1 k c u hc hu).step hs,h.2.2⟩
end
def lay(cells:Ad AV)(off:Ae)(cs:Ad AV):Ad AV:=cells.take off++cs++cells.drop (off+cs.length)
def iX{cells cs:Ad AV}{off:Ae}(h:off+cs.length<=cells.length):(lay cells off cs).length=cells.length:=by simp[lay];omega
def vX{cells cs:Ad AV}{off:Ae}(h:off+cs.length<=cells.length)(k:Ae) :
 (lay cells off cs)[k]? = if off<=k/\k<off+cs.length then cs[k-off]? else cells[k]? := by
 unfold lay
 by_cases h1:off<=k
 .by_cases h2:k<off+cs.length
  .rw[AB ⟨h1,h2⟩,Db,AZ (by simp;omega),Bt,Dv (by omega),Bb (by omega)]
  .rw[Ap (by omega),AZ (by simp;omega),BK,Bt,Dv (by omega),B0]
   congr 1;omega
 .rw[Ap (by omega),Db,Bb (by simp;omega),BM,AB (by omega)]
def bAm(off:Ae):∀(l:Ad AE) (j:Ae) (cs:Aw AE),off+j+l.length<=cs.size ->
 ((l.zipIdx j).foldl (λcs (p:AE×Ae)=>cs.setIfInBounds (off+p.2) p.1) cs).size=cs.size /\
 ∀k,((l.zipIdx j).foldl (λcs (p:AE×Ae)=>cs.setIfInBounds (off+p.2) p.1) cs)[k]? = if off+j<=k/\k<off+j+l.length then l[k-(off+j)]? else cs[k]? := by
 intro l
 induction l with
 |nil=>intro j cs _;refine⟨rfl,λk=>?_⟩;rw[Ap (by simp only[AK];omega)];rfl
 | cons v l ih =>
  intro j cs h
  simp only[Av]at h
  obtain⟨h1,h2⟩:=ih (j+1) (cs.setIfInBounds (off+j) v) (by simp;omega)
  refine⟨by simpa using h1,λk=>?_⟩
  simp only[List.zipIdx_cons,List.foldl_cons]
  rw[h2 k]
  by_cases hk:k=off+j
  .subst hk
   rw[Ap (by omega),AB ⟨AM _,by simp⟩,Dw,Ca]
   exact Array.getElem?_setIfInBounds_self_of_lt (by omega)
  .by_cases h3:off+(j+1)<=k/\k<off+(j+1)+l.length
   .rw[AB h3,AB (by simp only[Av];omega)]
    rw[show k-(off+j)=(k-(off+(j+1)))+1 from by omega,BT]
   .rw[Ap h3,Ap (by simp only[Av];omega),AI (by omega)]
def mQ(place:Ae->Aq (Ae×Ae))(cells:Ad AV):Ad (Ae×AV)->Aq (Ad AV)
 |[]=>Aa cells
 | (i,x)::rest =>
  match place i,eC x with
  |some (off,size),Aa cs=>if cs.length=size/\off+cs.length<=cells.length then mQ place (lay cells off cs) rest else Aj
  |_,_=>Aj
section
variable {F:Ae->Prop} {w:Ag} {ι:Ae->Aq Ae}
def cBa{cells cs:Ad AV}{vs us:Aw AE}{off:Ae}(h:CV F w ι cells vs)(hc:CV F w ι cs us)(hf:off+cs.length<=cells.length) :
 CV F w ι (lay cells off cs) (us.zipIdx.foldl (λcs (p:AE×Ae)=>cs.setIfInBounds (off+p.2) p.1) vs):=by
 have hl:=h.1
 have hl':=hc.1
 obtain⟨h1,h2⟩:=bAm off us.toList 0 vs (by simp;omega)
 have he:(us.zipIdx.foldl (λcs (p:AE×Ae)=>cs.setIfInBounds (off+p.2) p.1) vs)=((us.toList.zipIdx 0).foldl (λcs (p:AE×Ae)=>cs.setIfInBounds (off+p.2) p.1) vs):=by rw[<-Array.foldl_toList];simp
 rw[he]
 simp only[CU,BP]at h2
 refine⟨by rw[iX hf,h1];exact hl,λk c u hk hu=>?_,λu hu=>?_⟩
 .rw[vX hf]at hk
  rw[h2 k]at hu
  by_cases hx:off<=k/\k<off+cs.length
  .rw[AB hx]at hk
   rw[AB (by omega)]at hu
   exact hc.2.1 _ _ _ hk (by simpa using hu)
  .rw[Ap hx]at hk
   rw[Ap (by omega)]at hu
   exact h.2.1 _ _ _ hk hu
 .obtain⟨k,hk,rfl⟩:=Fl.1 hu
  have hu':=h2 k
  rw[Ar hk]at hu'
  by_cases hx:off<=k/\k<off+us.size
  .rw[AB hx]at hu'
   exact hc.2.2 _ (by have:=At hu'.symm;simpa using this)
  .rw[Ap hx]at hu'
   exact h.2.2 _ (B7 hu'.symm)
def aJr(place:Ae->Aq (Ae×Ae)):∀(parts:Ad (Ae×AV)) (vals:Ad (Ae×AE)) (cells:Ad AV) (vs:Aw AE) (out:Ad AV),CV F w ι cells vs ->
 parts.length=vals.length->(∀(k:Ae) p q,parts[k]? = Aa p->vals[k]? = Aa q->p.1=q.1/\V F w ι p.2 q.2)->mQ place cells parts=Aa out ->
 ∃us,Instr.fill place vs vals=Aa us/\CV F w ι out us
 | [],[],cells,vs,out,h,_,_,he=>by simp only[mQ,AH]at he;subst he;exact⟨vs,rfl,h⟩
 | (i,x)::rest,(i',v)::vals,cells,vs,out,h,hl,hp,he=>by
  obtain⟨hi,hv⟩:=hp 0 _ _ rfl rfl;simp only at hi hv;subst hi;simp only[mQ]at he;cases hpl:place i with
  |none=>simp[hpl]at he
  | some os =>
   obtain⟨off,size⟩:=os;cases hcs:eC x with
   |none=>simp[hpl,hcs]at he
   | some cs =>
    simp only[hpl,hcs]at he;split at he
    .rename_i hx;have hc:=aDs hcs hv;have hcl:=hc.1;have hsz:=h.1;obtain⟨us,hu,hcv⟩:=aJr place rest vals _ _ out (cBa h hc hx.2) (by simpa using hl) (λk p q a b=>hp (k+1) p q (by simpa using a) (by simpa using b)) he;refine⟨us,?_,hcv⟩;simp only[Instr.fill,hpl];have h3:(decide (v.cells.size≠size)||decide (off+v.cells.size>vs.size))=false:=by simp;omega
     rw[h3];exact hu
    .cases he
 |[],_::_,_,_,_,_,hl,_,_=>by simp at hl
 |_::_,[],_,_,_,_,hl,_,_=>by simp at hl
end
def eH(P:As)(t:AF):Aq (Ad (Ae×Ae)) :=
 match P.underlying t with
 |some (.struct fs)=>fs.toList.mapM λf=>(P.info? f.type).map λi=>(f.offset,i.size)
 |_=>Aj
def tsz(P:As)(t:AF):Aq Ae:=(P.info? t).map (·.size)
def tby(P:As)(t:AF):Aq Ae:=(P.info? t).map (·.bytes)
def tz(P:As)(t:AF):Aq Value:=(P.info? t).bind (·.zero)
def aBh(P:As)(t:AF):Aq Bw:=(P.underlying t).map λ|.struct _|.array _ _=>Ak|_=>Az
def tel(P:As)(t:AF):Aq TypeId:=match P.underlying t with|some (.slice e)=>Aa e|_=>Aj
def oE(P:As)(t:AF):Aq (Ae×AF):=match P.underlying t with|some (.array n e)=>Aa (n,e)|_=>Aj
def bDt(P:As)(s:AF)(f:Ae):Aq (Ae×Bw×Ae):=match P.underlying s with|some (.struct fs)=>(fs[f]?).bind λg=>(aBh P g.type).bind λa=>(tsz P g.type).map λz=>(g.offset,a,z)|_=>Aj
def fS(P:As)(t:AF):Aq IntKind:=match P.underlying t with|some (.int k)=>Aa k|_=>Aj
def tmp(P:As)(t:AF):Aq (AF×AF):=match P.underlying t with|some (.map k e)=>Aa (k,e)|_=>Aj
section
variable {P:As} (w:Ag)
def run_sizeOf{t:AF}{n:Ae}(h:tsz P t=Aa n):aU P (sizeOf t) w=.ok n w:=by obtain⟨i,hi,rfl⟩:=Ai.1 h;simp[sizeOf,typeInfo,hi]
def gF{t:AF}{z:AE}(h:tz P t=Aa z):aU P (zeroValue t) w=.ok z w:=by obtain⟨i,hi,hz⟩:=Af.1 h;simp[zeroValue,typeInfo,hi,hz]
def lW{t:AF}{x:Bw}(h:aBh P t=Aa x):aU P (isAgg t) w=.ok x w:=by obtain⟨d,hd,hx⟩:=Ai.1 h;subst hx;cases d<;>simp[isAgg,aE hd]
def qF:∀(fs:Ad Field) (ps:Ad (Ae×Ae)),(fs.mapM λf=>(P.info? f.type).map λi=>(f.offset,i.size))=Aa ps ->
 aU P (fs.mapM (m:=Sem) λf=>do pure (f.offset,<-sizeOf f.type)) w=.ok ps w
 |[],ps,h=>by simp at h;subst h;simp
 | f::fs,ps,h=>by simp only[CG,Dk,Af,D9,AH]at h;obtain⟨p,hp,r,hr,rfl⟩:=h;obtain⟨i,hi,rfl⟩:=Ai.1 hp;have ih:=qF fs r hr;simp only[CG,aB,run_sizeOf w (show tsz P f.type=Aa i.size by simp[tsz,hi]),AR,aX,ih]
def aLq{t:AF}{ps:Ad (Ae×Ae)}(h:eH P t=Aa ps):∃fs,P.underlying t=Aa (.struct fs) /\
 aU P (fs.mapM (m:=Sem) λf=>do pure (f.offset,<-sizeOf f.type)) w=.ok ps.toArray w/\(fs.toList.mapM λf=>(P.info? f.type).map λi=>(f.offset,i.size))=Aa ps:=by
 unfold eH at h
 split at h
 .rename_i fs hu
  refine⟨fs,hu,?_,h⟩
  rw[Array.mapM_eq_mapM_toList,fX,qF w _ _ h]
  rfl
 .cases h
end
def arith(op:FV)(k:BJ)(a b:Al):Aq D :=
 match op with
 |.add=>Aa (.i k (k.wrap (a+b)))
 |.sub=>Aa (.i k (k.wrap (a-b)))
 |.mul=>Aa (.i k (k.wrap (a*b)))
 |.quo=>if b=0 then Aj else Aa (.i k (k.wrap (a.tdiv b)))
 |.rem=>if b=0 then Aj else Aa (.i k (a.tmod b))
 |.and=>Aa (.i k (bits .and k a b))
 |.or=>Aa (.i k (bits .or k a b))
 |.xor=>Aa (.i k (bits .xor k a b))
 |.andNot=>Aa (.i k (bits .andNot k a b))
 |.eql=>Aa (.b (a==b))
 |.neq=>Aa (.b (a != b))
 |.lss=>Aa (.b (decide (a<b)))
 |.leq=>Aa (.b (decide (a<=b)))
 |.gtr=>Aa (.b (decide (b<a)))
 |.geq=>Aa (.b (decide (b<=a)))
 |_=>Aj
def cY(op:FV)(k:BJ)(a b:Al):Aq D :=
 if b<0 then Aj else
 match op with
 |.shl=>Aa (.i k (k.wrap (a*2^(min b.toNat k.bits))))
 |.shr=>Aa (.i k (a.fdiv (2^(min b.toNat k.bits))))
 |_=>Aj
def dT(op:FV)(boolT:Bw)(x y:AV):Aq D :=
 match x,y with
 |.d (.i k a),.d (.i k' b)=>if op=.shl\/op=.shr then cY op k a b else if k=k' then arith op k a b else Aj
 |.d (.b p),.d (.b q)=>if boolT then(match op with|.eql=>Aa (.b (p==q))|.neq=>Aa (.b (!(p==q)))|_=>Aj)else Aj
 |_,_=>Aj
def unA(op:UnOp)(x:AV):Aq D :=
 match op,x with
 |.not,.d (.b p)=>Aa (.b !p)
 |.neg,.d (.i k a)=>Aa (.i k (k.wrap (0-a)))
 |.xor,.d (.i k a)=>Aa (.i k (bits .xor k (if k.signed then -1 else k.max) a))
 |_,_=>Aj
def aBf(P:As)(t:AF):Bw:=match P.underlying t with|some .bool=>Ak|_=>Az
section
variable {P:As} {F:Ae->Prop} {w:Ag} {ι:Ae->Aq Ae}
def aLt{op:FV}{t:AF}{x y:AV}{u v:AE}{r:D}(h:dT op (aBf P t) x y=Aa r)(hx:V F w ι x u)(hy:V F w ι y v)(ox oy:AN) :
 ∃z,(aU P (eqGuard op t ox oy u v) w=.ok () w/\aU P (binOp op t u v) w=.ok z w)/\VD F w r z:=by
 unfold dT at h
 split at h
 .rename_i k a k' b
  cases hx with|d _ _ hx=>cases hx with|i =>
  cases hy with|d _ _ hy=>cases hy with|i =>
  by_cases hs:op=.shl\/op=.shr
  .rw[AB hs]at h
   unfold cY at h
   by_cases hb:b<0
   .simp[hb]at h
   .rw[Ap hb]at h
    rcases hs with rfl|rfl<;>simp only[AH]at h<;>subst h
    .exact⟨_,⟨by simp[eqGuard_shl],by simp[binOp_shl,Op.shift,hb]⟩,.i _ _⟩
    .exact⟨_,⟨by simp[eqGuard_shr],by simp[binOp_shr,Op.shift,hb]⟩,.i _ _⟩
  .rw[Ap hs]at h
   by_cases hk:k=k'
   .subst hk
    rw[AB rfl]at h
    have hg:aU P (eqGuard op t ox oy (.int k a) (.int k b)) w=.ok () w:=by rw[eqGuard_at_int];simp
    cases op<;>simp only[arith,AH]at h<;>try (cases h;done)
    case quo =>
     by_cases hb:b=0
     .simp[hb]at h
     .simp only[hb,DV,AH]at h;subst h
      exact⟨_,⟨hg,by simp[binOp_quo,Op.intDiv,hb]⟩,.i _ _⟩
    case rem =>
     by_cases hb:b=0
     .simp[hb]at h
     .simp only[hb,DV,AH]at h;subst h
      exact⟨_,⟨hg,by simp[binOp_rem,Op.intDiv,hb]⟩,.i _ _⟩
    case add=>subst h;exact⟨_,⟨hg,by simp[binOp_add,Op.intArith]⟩,.i _ _⟩
    case sub=>subst h;exact⟨_,⟨hg,by simp[binOp_sub,Op.intArith]⟩,.i _ _⟩
    case mul=>subst h;exact⟨_,⟨hg,by simp[binOp_mul,Op.intArith]⟩,.i _ _⟩
    case and=>subst h;exact⟨_,⟨hg,by simp[binOp_and,intBits_and]⟩,.i _ _⟩
    case or=>subst h;exact⟨_,⟨hg,by simp[binOp_or,intBits_or]⟩,.i _ _⟩
    case xor=>subst h;exact⟨_,⟨hg,by simp[binOp_xor,intBits_xor]⟩,.i _ _⟩
    case andNot=>subst h;exact⟨_,⟨hg,by simp[binOp_andNot,intBits_andNot]⟩,.i _ _⟩
    case eql=>subst h;exact⟨_,⟨hg,by simp[binOp_eql]⟩,.b _⟩
    case neq=>subst h;exact⟨_,⟨hg,by simp[binOp_neq]⟩,.b _⟩
    case lss=>subst h;exact⟨_,⟨hg,by simp[binOp_lss]⟩,.b _⟩
    case leq=>subst h;exact⟨_,⟨hg,by simp[binOp_leq]⟩,.b _⟩
    case gtr=>subst h;exact⟨_,⟨hg,by simp[binOp_gtr]⟩,.b _⟩
    case geq=>subst h;exact⟨_,⟨hg,by simp[binOp_geq]⟩,.b _⟩
   .rw[Ap hk]at h;cases h
 .rename_i p q
  cases hx with|d _ _ hx=>cases hx with|b =>
  cases hy with|d _ _ hy=>cases hy with|b =>
  by_cases ht:aBf P t=Ak
  .rw[AB ht]at h
   have hu:P.underlying t=Aa .bool:=by
    unfold aBf at ht;split at ht
    .assumption
    .cases ht
   have hg:aU P (eqGuard op t ox oy (.bool p) (.bool q)) w=.ok () w:=by rw[eqGuard_at_bool];simp
   split at h
   .injection h with h;subst h;exact⟨_,⟨hg,aIo w t p q hu⟩,.b _⟩
   .injection h with h;subst h;exact⟨_,⟨hg,aIl w t p q hu⟩,.b _⟩
   .cases h
  .rw[Ap ht]at h;cases h
 .cases h
def bPj{op:UnOp}{x:AV}{u:AE}{r:D}(h:unA op x=Aa r)(hx:V F w ι x u):∃z,aU P (Op.unary op u) w=.ok z w/\VD F w r z:=by
 unfold unA at h;split at h
 .injection h with h;subst h
  cases hx with|d _ _ hx=>cases hx with|b=>exact⟨_,by simp[unary_not],.b _⟩
 .injection h with h;subst h
  cases hx with|d _ _ hx=>cases hx with|i=>exact⟨_,by simp[unary_neg,Op.intArith],.i _ _⟩
 .injection h with h;subst h
  cases hx with|d _ _ hx=>cases hx with|i=>exact⟨_,by simp[unary_xor,intBits_xor],.i _ _⟩
 .cases h
def eP{t e:AF}(h:tel P t=Aa e):P.underlying t=Aa (.slice e):=by
 unfold tel at h;split at h
 .injection h with h;subst h;assumption
 .cases h
def zD(w:Ag)(d:Ae)(t e:AF)(a:Aq Addr)(n c n' c':Ae)(h:P.underlying t=Aa (.slice e)):aU P (D2 (d+1) t (.slice a n c) (.slice Aj n' c')) w=.ok a.isNone w:=by cases a<;>simp[D2,aE h]
def bTi(w:Ag)(t e:AF)(a:Aq Addr)(n c n' c':Ae)(h:P.underlying t=Aa (.slice e))(ox oy:AN) :
 (aU P (eqGuard .eql t ox oy (.slice a n c) (.slice Aj n' c')) w=.ok () w/\aU P (binOp .eql t (.slice a n c) (.slice Aj n' c')) w=.ok (.bool a.isNone) w) /\
 (aU P (eqGuard .neq t ox oy (.slice a n c) (.slice Aj n' c')) w=.ok () w/\aU P (binOp .neq t (.slice a n c) (.slice Aj n' c')) w=.ok (.bool (!a.isNone)) w):=by
 refine⟨⟨by rw[eqGuard_at_slice];simp,?_⟩,⟨by rw[eqGuard_at_slice];simp,?_⟩⟩
 .simp only[binOp];simp[Gt,DG,zD w 9999 t e a n c n' c' h]
 .simp only[binOp];simp[Gt,DG,zD w 9999 t e a n c n' c' h]
end
def tai(P:As)(t:AF):Aq IntKind:=match P.underlying t with
 |some (.array 2 e)=>if tsz P e=Aa 1 then fS P e else Aj
 |_=>Aj
def eqD(op:FV)(t:Bw):Aq D:=match op with
 |.eql=>Aa (.b t)
 |.neq=>Aa (.b (!t))
 |_=>Aj
def bUw(op:FV)(tk:Aq BJ)(x y:AV):Aq D:=match tk with
 | some k=>(zW x).bind λcs=>(zW y).bind λds=>match cs,ds with
  |[.d (.i k1 a),.d (.i k2 b)],[.d (.i k3 c),.d (.i k4 d)]=>if k1=k/\k2=k/\k3=k/\k4=k then eqD op (a==c&&b==d)else Aj
  |_,_=>Aj
 |_=>Aj
def bPn{P:As}(w:Ag){t e:AF}{k:BJ}(ht:P.underlying t=Aa (.array 2 e))(he:P.underlying e=Aa (.int k))(hs:tsz P e=Aa 1)(a b c d:Al)(ox oy:AN) :
 (aU P (eqGuard .eql t ox oy (.agg #[.int k a,.int k b]) (.agg #[.int k c,.int k d])) w=.ok () w/\aU P (binOp .eql t (.agg #[.int k a,.int k b]) (.agg #[.int k c,.int k d])) w=.ok (.bool (a==c&&b==d)) w) /\
 (aU P (eqGuard .neq t ox oy (.agg #[.int k a,.int k b]) (.agg #[.int k c,.int k d])) w=.ok () w/\aU P (binOp .neq t (.agg #[.int k a,.int k b]) (.agg #[.int k c,.int k d])) w=.ok (.bool (!(a==c&&b==d))) w):=by
 have p0:∀(x y:Al),aU P (part e #[.int k x,.int k y] 0) w=.ok (.int k x) w:=λx y=>by simp[part,isAgg,aE he]
 have p1:∀(x y:Al),aU P (part e #[.int k x,.int k y] 1) w=.ok (.int k y) w:=λx y=>by simp[part,isAgg,aE he]
 have q:∀(n:Ae) (x y:Al),aU P (D3 (n+1) e (.int k x) (.int k y)) w=.ok Az w:=λn x y=>by simp[D3,aE he]
 have r:∀(n:Ae) (x y:Al),aU P (D2 (n+1) e (.int k x) (.int k y)) w=.ok (x==y) w:=λn x y=>by simp[D2,aE he]
 have q':=q 9998
 have r':=r 9998
 have h0:aU P (D3 DG t (.agg #[.int k a,.int k b]) (.agg #[.int k c,.int k d])) w=.ok Az w:=by rw[show DG=9998+2 from rfl,D3];simp[aB,aE ht,AR,run_sizeOf w hs,Ft,Std.Legacy.Range.size,Es,p0,p1,q']
 have h5:aU P (D2 DG t (.agg #[.int k a,.int k b]) (.agg #[.int k c,.int k d])) w=.ok (a==c&&b==d) w:=by rw[show DG=9998+2 from rfl,D2];cases h1:(a==c)<;>cases h2:(b==d)<;>simp[aB,aE ht,AR,run_sizeOf w hs,Ft,Std.Legacy.Range.size,Es,p0,p1,r',h1,h2]
 refine⟨⟨?_,?_⟩,?_,?_⟩
 .simp only[eqGuard]
  cases P.eqGuardType P.depth t<;>simp[h0]
 .simp only[binOp]
  simp[Gt,h5]
 .simp only[eqGuard]
  cases P.eqGuardType P.depth t<;>simp[h0]
 .simp only[binOp]
  simp[Gt,h5]
def bFj{P:As}{F:Ae->Prop}{w:Ag}{ι:Ae->Aq Ae}{op:FV}{t:AF}{x y:AV}{u v:AE}{r:D}(h:bUw op (tai P t) x y=Aa r)(hx:V F w ι x u)(hy:V F w ι y v)(ox oy:AN) :
 ∃z,(aU P (eqGuard op t ox oy u v) w=.ok () w/\aU P (binOp op t u v) w=.ok z w)/\VD F w r z:=by
 unfold bUw at h
 split at h
 case h_2=>cases h
 rename_i k ht
 unfold tai at ht
 split at ht
 case h_2=>cases ht
 rename_i e hu
 split at ht
 case isFalse=>cases ht
 rename_i hs
 have he:P.underlying e=Aa (.int k):=by
  unfold fS at ht;split at ht
  .injection ht with ht;subst ht;assumption
  .cases ht
 obtain⟨cs,hcs,h1⟩:=Af.1 h
 obtain⟨ds,hds,h2⟩:=Af.1 h1
 clear h h1
 obtain⟨us,rfl,hul,huv⟩:=yM hcs hx
 obtain⟨vs,rfl,hvl,hvv⟩:=yM hds hy
 split at h2
 case h_2=>cases h2
 rename_i k1 a k2 b k3 c k4 d
 split at h2
 case isFalse=>cases h2
 rename_i hk
 obtain⟨rfl,rfl,rfl,rfl⟩:=hk
 have two:∀(l:Aw AE) (k:BJ) (a b:Al),2=l.size->(∀(i:Ae) c u,[AV.d (.i k a),AV.d (.i k b)][i]? = Aa c->l[i]? = Aa u->V F w ι c u)->l=#[.int k a,.int k b]:=by
  intro l k a b hl h;have h0:=h 0 _ l[0] rfl (Ar (by omega));have h1:=h 1 _ l[1] rfl (Ar (by omega));apply Array.ext
  .simp;omega
  .intro i hi hj;rcases i with _|_|i
   .generalize l[0]=q at h0;cases h0 with|d _ _ h0=>cases h0;rfl
   .generalize l[1]=q at h1;cases h1 with|d _ _ h1=>cases h1;rfl
   .omega
 have e1:=two us _ a b hul huv
 have e2:=two vs _ c d hvl hvv
 subst e1;subst e2
 obtain⟨g1,g2⟩:=bPn w hu he hs a b c d ox oy
 unfold eqD at h2
 split at h2
 .injection h2 with h2;subst h2;exact⟨_,g1,.b _⟩
 .injection h2 with h2;subst h2;exact⟨_,g2,.b _⟩
 .cases h2
def tst(P:As)(t:AF):Bw:=match P.underlying t with
 | some (.struct fs)=>match fs.toList with
  | [f,g]=>f.offset == 0 && g.offset == 1 && f.name != "_" && g.name != "_" && !P.stoodInHeld t && (fS P f.type).isSome && tsz P g.type == Aa 2 && !P.stoodInHeld g.type && (match P.underlying g.type with
   | some (.struct gs)=>match gs.toList with
    | [p,q]=>p.offset == 0 && q.offset == 1 && p.name != "_" && q.name != "_" && (fS P p.type).isSome && (fS P q.type).isSome
    |_=>Az
   |_=>Az)
  |_=>Az
 |_=>Az
def bUv(op:FV)(tk:Bw)(x y:AV):Aq D:=match op,tk with
 | .neq,Ak=>(zW x).bind λcs=>(zW y).bind λds=>match cs,ds with
  |[.d (.i k1 a),.d (.i k2 b),.d (.i k3 c)],[.d (.i l1 d),.d (.i l2 e),.d (.i l3 f)]=>if k1=l1/\k2=l2/\k3=l3 then Aa (.b (!(a==d&&(b==e&&c==f))))else Aj
  |_,_=>Aj
 |_,_=>Aj
def aBd{P:As}{t:AF}(h:(fS P t).isSome=Ak):∃k,P.underlying t=Aa (.int k):=by
 unfold fS at h;split at h
 .rename_i k hk;exact⟨k,hk⟩
 .cases h
def bFe{P:As}(w:Ag){t:AF}(ht:tst P t=Ak)(k1 k2 k3:BJ)(a b c d e f:Al)(ox oy:AN) :
 aU P (eqGuard .neq t ox oy (.agg #[.int k1 a,.int k2 b,.int k3 c]) (.agg #[.int k1 d,.int k2 e,.int k3 f])) w=.ok () w/\aU P (binOp .neq t (.agg #[.int k1 a,.int k2 b,.int k3 c]) (.agg #[.int k1 d,.int k2 e,.int k3 f])) w=.ok (.bool (!(a==d&&(b==e&&c==f)))) w:=by
 unfold tst at ht
 split at ht
 case h_2=>cases ht
 rename_i fs hu
 split at ht
 case h_2=>cases ht
 rename_i F G hfs
 simp only[A5,C6,bne_iff_ne,Dd]at ht
 obtain⟨⟨⟨⟨⟨⟨⟨⟨f0,g0⟩,fn⟩,gn⟩,hst⟩,hF⟩,hsz⟩,hsg⟩,hg⟩:=ht
 split at hg
 case h_2=>cases hg
 rename_i gs hug
 split at hg
 case h_2=>cases hg
 rename_i p q hgs
 simp only[A5,C6,bne_iff_ne]at hg
 obtain⟨⟨⟨⟨⟨p0,q0⟩,pn⟩,qn⟩,hp⟩,hq⟩:=hg
 obtain⟨kF,hF⟩:=aBd hF
 obtain⟨kp,hp⟩:=aBd hp
 obtain⟨kq,hq⟩:=aBd hq
 have hfs':fs=#[F,G]:=by rw[<-hfs]
 have hgs':gs=#[p,q]:=by rw[<-hgs]
 subst hfs' hgs'
 have pF:∀(x y z:AE),aU P (part F.type #[x,y,z] F.offset) w=.ok x w:=λx y z=>by simp[part,isAgg,aE hF,f0]
 have pG:∀(x y z:AE),aU P (part G.type #[x,y,z] G.offset) w=.ok (.agg #[y,z]) w:=λx y z=>by simp[part,isAgg,aE hug,g0,run_sizeOf w hsz]
 have pp:∀(x y:AE),aU P (part p.type #[x,y] p.offset) w=.ok x w:=λx y=>by simp[part,isAgg,aE hp,p0]
 have pq:∀(x y:AE),aU P (part q.type #[x,y] q.offset) w=.ok y w:=λx y=>by simp[part,isAgg,aE hq,q0]
 have gI:∀(n:Ae) (T:AF) (k:BJ) (hT:P.underlying T=Aa (.int k)) (k':BJ) (x y:Al),aU P (D3 (n+1) T (.int k' x) (.int k' y)) w=.ok Az w:=λn T k hT k' x y=>by simp[D3,aE hT]
 have eI:∀(n:Ae) (T:AF) (k:BJ) (hT:P.underlying T=Aa (.int k)) (k':BJ) (x y:Al),aU P (D2 (n+1) T (.int k' x) (.int k' y)) w=.ok (x==y) w:=λn T k hT k' x y=>by simp[D2,aE hT]
 have gG:∀(n:Ae),aU P (D3 (n+2) G.type (.agg #[.int k2 b,.int k3 c]) (.agg #[.int k2 e,.int k3 f])) w=.ok Az w:=λn=>by rw[D3];simp[aB,aE hug,AR,pp,pq,pn,qn,gI n p.type kp hp,gI n q.type kq hq]
 have eG:∀(n:Ae),aU P (D2 (n+2) G.type (.agg #[.int k2 b,.int k3 c]) (.agg #[.int k2 e,.int k3 f])) w=.ok (b==e&&c==f) w:=λn=>by rw[D2];cases h1:(b==e)<;>cases h2:(c==f)<;>simp[aB,aE hug,AR,pp,pq,pn,qn,hsg,eI n p.type kp hp,eI n q.type kq hq,h1,h2]
 constructor
 .have h0:aU P (D3 DG t (.agg #[.int k1 a,.int k2 b,.int k3 c]) (.agg #[.int k1 d,.int k2 e,.int k3 f])) w=.ok Az w:=by rw[show DG=9997+3 from rfl,D3];simp[aB,aE hu,AR,pF,pG,fn,gn,gI 9998 F.type kF hF,gG 9997]
  simp only[eqGuard]
  cases P.eqGuardType P.depth t<;>simp[h0]
 .have h1:aU P (D2 DG t (.agg #[.int k1 a,.int k2 b,.int k3 c]) (.agg #[.int k1 d,.int k2 e,.int k3 f])) w=.ok (a==d&&(b==e&&c==f)) w:=by rw[show DG=9997+3 from rfl,D2];cases h1:(a==d)<;>cases h2:(b==e)<;>cases h3:(c==f)<;>simp[aB,aE hu,AR,pF,pG,fn,gn,hst,eI 9998 F.type kF hF,eG 9997,h1,h2,h3]
  simp only[binOp]
  simp[Gt,h1]
def bFi{P:As}{F:Ae->Prop}{w:Ag}{ι:Ae->Aq Ae}{op:FV}{t:AF}{x y:AV}{u v:AE}{r:D}(h:bUv op (tst P t) x y=Aa r)(hx:V F w ι x u)(hy:V F w ι y v)(ox oy:AN) :
 ∃z,(aU P (eqGuard op t ox oy u v) w=.ok () w/\aU P (binOp op t u v) w=.ok z w)/\VD F w r z:=by
 unfold bUv at h
 split at h
 case h_2=>cases h
 rename_i ht
 obtain⟨cs,hcs,h1⟩:=Af.1 h
 obtain⟨ds,hds,h2⟩:=Af.1 h1
 clear h h1
 obtain⟨us,rfl,hul,huv⟩:=yM hcs hx
 obtain⟨vs,rfl,hvl,hvv⟩:=yM hds hy
 split at h2
 case h_2=>cases h2
 rename_i k1 a k2 b k3 c l1 d l2 e l3 f
 split at h2
 case isFalse=>cases h2
 rename_i hk
 obtain⟨rfl,rfl,rfl⟩:=hk
 injection h2 with h2;subst h2
 have three:∀(l:Aw AE) (k1 k2 k3:BJ) (a b c:Al),3=l.size->(∀(i:Ae) c' u,[AV.d (.i k1 a),AV.d (.i k2 b),AV.d (.i k3 c)][i]? = Aa c'->l[i]? = Aa u->V F w ι c' u)->l=#[.int k1 a,.int k2 b,.int k3 c]:=by
  intro l k1 k2 k3 a b c hl h;have h0:=h 0 _ l[0] rfl (Ar (by omega));have h1:=h 1 _ l[1] rfl (Ar (by omega));have h2:=h 2 _ l[2] rfl (Ar (by omega));apply Array.ext
  .simp;omega
  .intro i hi hj;rcases i with _|_|_|i
   .generalize l[0]=q at h0;cases h0 with|d _ _ h0=>cases h0;rfl
   .generalize l[1]=q at h1;cases h1 with|d _ _ h1=>cases h1;rfl
   .generalize l[2]=q at h2;cases h2 with|d _ _ h2=>cases h2;rfl
   .omega
 have e1:=three us _ _ _ a b c hul huv
 have e2:=three vs _ _ _ d e f hvl hvv
 subst e1;subst e2
 exact⟨_,bFe w ht k1 k2 k3 a b c d e f ox oy,.b _⟩
def tfn(P:As)(t:AF):Bw:=match P.underlying t with
 |some (.func ..)=>Ak
 |_=>Az
def bTc(op:FV)(b:Bw)(x y:AV):Aq D:=if b then match x,y with
 |.d (.lit (.func ..)),.d (.lit .nilFunc)=>eqD op Az
 |.d (.fn ..),.d (.lit .nilFunc)=>eqD op Az
 |.fn ..,.d (.lit .nilFunc)=>eqD op Az
 |.d (.lit .nilFunc),.d (.lit .nilFunc)=>eqD op Ak
 |_,_=>Aj
 else Aj
def bPm{P:As}(w:Ag){t:AF}(ht:tfn P t=Ak)(u:AE)(b:Bw)(hu:(∃f x y,u=.func f x y/\b=Az)\/(u=.nilFunc/\b=Ak))(ox oy:AN) :
 (aU P (eqGuard .eql t ox oy u .nilFunc) w=.ok () w/\aU P (binOp .eql t u .nilFunc) w=.ok (.bool b) w) /\
 (aU P (eqGuard .neq t ox oy u .nilFunc) w=.ok () w/\aU P (binOp .neq t u .nilFunc) w=.ok (.bool (!b)) w):=by
 unfold tfn at ht
 split at ht
 case h_2=>cases ht
 rename_i ps rs vd h
 have h0:aU P (D3 DG t u .nilFunc) w=.ok Az w:=by rw[show DG=9999+1 from rfl,D3];rcases hu with ⟨f,x,y,rfl,rfl⟩|⟨rfl,rfl⟩<;>simp[aB,aE h,AR]
 have h1:aU P (D2 DG t u .nilFunc) w=.ok b w:=by rw[show DG=9999+1 from rfl,D2];rcases hu with ⟨f,x,y,rfl,rfl⟩|⟨rfl,rfl⟩<;>simp[aB,aE h,AR]
 refine⟨⟨?_,?_⟩,?_,?_⟩
 .simp only[eqGuard]
  cases P.eqGuardType P.depth t<;>simp[h0]
 .simp only[binOp]
  simp[Gt,h1]
 .simp only[eqGuard]
  cases P.eqGuardType P.depth t<;>simp[h0]
 .simp only[binOp]
  simp[Gt,h1]
def bFh{P:As}{F:Ae->Prop}{w:Ag}{ι:Ae->Aq Ae}{op:FV}{t:AF}{x y:AV}{u v:AE}{r:D}(h:bTc op (tfn P t) x y=Aa r)(hx:V F w ι x u)(hy:V F w ι y v)(ox oy:AN) :
 ∃z,(aU P (eqGuard op t ox oy u v) w=.ok () w/\aU P (binOp op t u v) w=.ok z w)/\VD F w r z:=by
 unfold bTc at h
 split at h
 case isFalse=>cases h
 rename_i ht
 obtain⟨b,hb,hu,hv⟩:∃b,eqD op b=Aa r/\((∃f x y,u=.func f x y/\b=Az)\/(u=.nilFunc/\b=Ak))/\v=.nilFunc:=by
  split at h
  .refine⟨_,h,.inl ?_,?_⟩
   .cases hx with|d _ _ hx=>cases hx;exact⟨_,_,_,rfl,rfl⟩
   .cases hy with|d _ _ hy=>cases hy;rfl
  .refine⟨_,h,.inl ?_,?_⟩
   .cases hx with|d _ _ hx=>cases hx;exact⟨_,_,_,rfl,rfl⟩
   .cases hy with|d _ _ hy=>cases hy;rfl
  .refine⟨_,h,.inl ?_,?_⟩
   .cases hx;exact⟨_,_,_,rfl,rfl⟩
   .cases hy with|d _ _ hy=>cases hy;rfl
  .refine⟨_,h,.inr ?_,?_⟩
   .cases hx with|d _ _ hx=>cases hx;exact⟨rfl,rfl⟩
   .cases hy with|d _ _ hy=>cases hy;rfl
  .cases h
 subst hv
 obtain⟨g1,g2⟩:=bPm w ht u b hu ox oy
 unfold eqD at hb
 split at hb
 .injection hb with hb;subst hb;exact⟨_,g1,.b _⟩
 .injection hb with hb;subst hb;exact⟨_,g2,.b _⟩
 .cases hb
def aCv:AV->Aq (Aq Bw)
 |.nil=>Aa (Aa Ak)
 |.own ..=>Aa (Aa Az)
 |.d (.sl [])|.fd []=>Aa Aj
 |.d (.sl _)|.fd _=>Aa (Aa Az)
 |_=>Aj
def bRe(op:FV)(b:Aq Bw):Aq AV :=
 match op,b with
 |.eql,Aa t=>Aa (.d (.b t))
 |.neq,Aa t=>Aa (.d (.b !t))
 |.eql,Aj=>Aa .ub
 |.neq,Aj=>Aa .ub
 |_,_=>Aj
def aZp(op:FV)(te:Aq AF)(x y:AV):Aq AV :=
 match te,y with
 |some _,.nil=>(aCv x).bind (bRe op)
 |_,_=>Aj
def fT(sz:Ae)(els:Ad (Ad D)):Bw:=match els.head? with|some cs=>cs.length==sz|none=>Ak
def iW(sz:Ae)(x:AV)(l h:Al)(full:Bw):Aq AV :=
 if 0<=l/\l<=h then
  match x with
  |.d (.sl els)|.fd els=>if h<=els.length/\fT sz els=Ak then Aa (if full then .fd ((els.take h.toNat).drop l.toNat)else .d (.sl ((els.take h.toNat).drop l.toNat)))else Aj
  |.nil=>if h<=0 then Aa (.d (.sl []))else Aj
  |.own id off len sz'=>if h<=len/\sz'=sz then(if l=h then Aa (.d (.sl []))else Aa (.own id (off+l.toNat) (h-l).toNat sz))else Aj
  |_=>Aj
 else Aj
def aFd:AV->Aq Al
 |.d (.sl els)=>Aa els.length
 |.fd els=>Aa els.length
 |.nil=>Aa 0
 |.own _ _ len _=>Aa len
 |_=>Aj
section
variable {P:As} {F:Ae->Prop} {w:Ag} {ι:Ae->Aq Ae}
def bIi{x:AV}{v:AE}{b:Aq Bw}(h:aCv x=Aa b)(hv:V F w ι x v):∃ad n c,v=.slice ad n c/\(b=Aj\/b=Aa ad.isNone):=by
 unfold aCv at h;split at h<;>first|(cases h;done)|(injection h with h;subst h)
 .cases hv;exact⟨_,_,_,rfl,.inr rfl⟩
 .cases hv;exact⟨_,_,_,rfl,.inr rfl⟩
 .cases hv with|d _ _ hv=>cases hv with
  |sl0=>exact⟨_,_,_,rfl,.inl rfl⟩
  |sl=>exact⟨_,_,_,rfl,.inl rfl⟩
 .cases hv;exact⟨_,_,_,rfl,.inl rfl⟩
 .rename_i els hne;cases hv with|d _ _ hv=>cases hv with
  |sl0=>exact(hne rfl).elim
  |sl=>exact⟨_,_,_,rfl,.inr rfl⟩
 .rename_i els hne;cases hv with|fd _ ad n hv=>cases hv with
  |sl0=>exact(hne rfl).elim
  |sl=>exact⟨_,_,_,rfl,.inr rfl⟩
def bFd{op:FV}{t:AF}{x y r:AV}{u v:AE}(h:aZp op (tel P t) x y=Aa r)(hx:V F w ι x u)(hy:V F w ι y v)(ox oy:AN) :
 ∃z,(aU P (eqGuard op t ox oy u v) w=.ok () w/\aU P (binOp op t u v) w=.ok z w)/\V F w ι r z:=by
 unfold aZp at h
 split at h
 .rename_i e he
  obtain⟨b,hb,h⟩:=Af.1 h
  obtain⟨ad,n,c,rfl,hb'⟩:=bIi hb hx
  cases hy
  obtain⟨h1,h2⟩:=bTi w t e ad n c 0 0 (eP he) ox oy
  unfold bRe at h
  split at h<;>first|(cases h;done)|(injection h with h;subst h)
  .rcases hb' with hb'|hb'
   .cases hb'
   .injection hb' with hb';subst hb';exact⟨_,h1,.d _ _ (.b _)⟩
  .rcases hb' with hb'|hb'
   .cases hb'
   .injection hb' with hb';subst hb';exact⟨_,h2,.d _ _ (.b _)⟩
  .exact⟨_,h1,.ub _⟩
  .exact⟨_,h2,.ub _⟩
 .cases h
def oR{els:Ad (Ad D)}{v:AE}(h:VD F w (.sl els) v):∃ad c,v=.slice ad els.length c/\els.length<=c:=by
 cases h with
 |sl0 ad c=>exact⟨ad,c,rfl,BH _⟩
 |sl _ ad n c sz f hn hc=>subst hn;exact⟨_,_,rfl,hc⟩
def bHy{x:AV}{v:AE}{n:Al}(h:aFd x=Aa n)(hv:V F w ι x v):∃ad l c,v=.slice ad l c/\n=l:=by
 unfold aFd at h;split at h<;>first|(cases h;done)|(injection h with h;subst h)
 .cases hv with|d _ _ hh=>obtain⟨ad,c,rfl,_⟩:=oR hh;exact⟨_,_,_,rfl,rfl⟩
 .cases hv with|fd _ ad n hh=>obtain⟨ad',c,he,_⟩:=oR hh;injection he with _ h2 _;exact⟨_,_,_,rfl,by rw[h2]⟩
 .cases hv;exact⟨_,_,_,rfl,rfl⟩
 .cases hv;exact⟨_,_,_,rfl,rfl⟩
def bMo{els:Ad (Ad D)}{ad:Aq Addr}{n c:Ae}{sz:Ae}(h:VD F w (.sl els) (.slice ad n c))(hsz:∀cs∈els,cs.length=sz)(l k m:Ae)(hl:l<=k)(hk:k<=n)(hm:k<=m) :
 VD F w (.sl ((els.take k).drop l)) (.slice (if m=l then ad else ad.map (·.add (l*sz))) (k-l) (m-l)):=by
 by_cases he:l=k
 .subst he
  have:(els.take l).drop l=[]:=by simp
  rw[this,Dw]
  exact .sl0 _ _
 .cases h with
  |sl0=>omega
  | sl _ a _ _ sz' f hn hc hsz' hF hcell hel =>
   have hpos:0<els.length:=by omega
   have hes:sz'=sz:=by have:=B3 hpos;rw[<-hsz' _ this,hsz _ this]
   subst hes
   rw[Ap (by omega)]
   have hlen:((els.take k).drop l).length=k-l:=by simp;omega
   refine .sl _ _ _ _ sz' (λj=>f (l*sz'+j)) hlen.symm (by omega) (λcs hcs=>hsz cs (List.mem_of_mem_take (List.mem_of_mem_drop hcs))) (by rw[block_add];exact hF) (λj hj=>?_) (λj i cs d hj hi=>?_)
   .rw[add_add]
    refine hcell _ ?_
    have h1:l*sz'+(k-l)*sz'=k*sz':=by rw[<-C0];congr 1;omega
    have h2:k*sz'<=n*sz':=Ck _ hk
    omega
   .rw[B0,BM]at hj
    split at hj
    .have:=hel (l+j) i cs d hj hi
     rw[C0,EL]at this
     exact this
    .cases hj
end
section
variable {P:As} {F:Ae->Prop} {w:Ag} {ι:Ae->Aq Ae}
def oQ{els:Ad (Ad D)}{v:AE}(h:V F w ι (.fd els) v):∃ad,v=.slice ad els.length els.length/\VD F w (.sl els) (.slice ad els.length els.length):=by
 cases h with
 | fd _ ad n hh =>
  obtain⟨ad',c,he,_⟩:=oR hh;injection he with h1 h2 h3
  subst h2;exact⟨ad,rfl,hh⟩
def aEh{els:Ad (Ad D)}{v:AE}{sz:Ae}(h:VD F w (.sl els) v)(h0:∀cs,els.head? = Aa cs->cs.length=sz):∀cs∈els,cs.length=sz:=by
 cases h with
 |sl0=>intro cs hcs;cases hcs
 | sl _ ad n c sz' f hn hc hsz =>
  intro cs hcs;cases els with
  |nil=>cases hcs
  | cons a l =>
   have:=h0 a rfl;rw[hsz cs hcs,<-hsz a (AX ..),this]
def rE{sz:Ae}{els:Ad (Ad D)}(h:fT sz els=Ak):∀cs,els.head? = Aa cs->cs.length=sz:=by intro cs hcs;simpa[fT,hcs]using h
def aLo{x:AV}{v:AE}{l h:Al}{full:Bw}{sz:Ae}{r:AV}(he:iW sz x l h full=Aa r)(hv:V F w ι x v) :
 ∃ad n c,v=.slice ad n c/\0<=l/\l<=h/\h<=n/\n<=c/\∀m:Ae,(if full then m=h.toNat else m=c)->V F w ι r (.slice (if m=l.toNat then ad else ad.map (·.add (l.toNat*sz))) (h.toNat-l.toNat) (m-l.toNat)):=by
 unfold iW at he
 split at he
 .rename_i hlh
  split at he
  .rename_i els
   split at he
   .rename_i hn
    injection he with he;subst he
    cases hv with|d _ _ hh =>
    obtain⟨ad,c,rfl,hc⟩:=oR hh
    refine⟨ad,_,c,rfl,hlh.1,hlh.2,hn.1,hc,λm hm=>?_⟩
    have hcut:=bMo hh (aEh hh (rE hn.2)) l.toNat h.toNat m (by omega) (by have:=hn.1;omega) (by have:=hn.1;split at hm<;>omega)
    cases full
    .exact .d _ _ hcut
    .simp only[CN]at hm;subst hm
     exact .fd _ _ _ hcut
   .cases he
  .rename_i els
   split at he
   .rename_i hn
    injection he with he;subst he
    obtain⟨ad,rfl,hh⟩:=oQ hv
    refine⟨ad,_,_,rfl,hlh.1,hlh.2,hn.1,AM _,λm hm=>?_⟩
    have hcut:=bMo hh (aEh hh (rE hn.2)) l.toNat h.toNat m (by omega) (by have:=hn.1;omega) (by have:=hn.1;split at hm<;>omega)
    cases full
    .exact .d _ _ hcut
    .simp only[CN]at hm;subst hm
     exact .fd _ _ _ hcut
   .cases he
  .split at he
   .injection he with he;subst he
    cases hv
    refine⟨Aj,0,0,rfl,hlh.1,hlh.2,by omega,AM _,λm _=>?_⟩
    have:h.toNat-l.toNat=0:=by omega
    rw[this]
    exact .d _ _ (.sl0 _ _)
   .cases he
  .rename_i id off len sz'
   split at he
   .rename_i hn
    obtain⟨hn,rfl⟩:=hn
    cases hv with|own _ _ _ _ b cap cur e hι hb hcap hl hm' =>
    refine⟨_,_,_,rfl,hlh.1,hlh.2,hn,hl,λm hm=>?_⟩
    split at he
    .injection he with he;subst he
     have:h.toNat-l.toNat=0:=by omega
     rw[this]
     exact .d _ _ (.sl0 _ _)
    .injection he with he;subst he
     have hm1:h.toNat<=m:=by split at hm<;>omega
     have hm2:m<=cap:=by split at hm<;>omega
     rw[Ap (by omega),Bj,fN,<-C0,show h.toNat-l.toNat=(h-l).toNat from by omega]
     refine .own _ _ _ _ b _ cur e hι hb (Bg (Ck _ ?_) hcap) (by omega) (by omega)
     omega
   .cases he
  .cases he
 .cases he
end
def fB:AV->Aq Al
 |.d (.i _ n)=>Aa n
 |_=>Aj
def aMk(x:Aq AN)(Γ:Ae->AV)(dflt:Al):Aq Al :=
 match x with
 |none=>Aa dflt
 |some o=>fB (oev Γ o)
def wQ:AV->Aq Bw
 |.d (.b x)=>Aa x
 |_=>Aj
def yD(off:Ae):AV->Aq AV
 |.ptr id o=>Aa (.ptr id (o+off))
 |.fp cs=>Aa (.fp (cs.drop off))
 |_=>Aj
def uJ(sz:Ae)(k:Al):AV->Aq AV
 |.d (.sl els)|.fd els=>if 0<=k then(els[k.toNat]?).bind λcs=>if cs.length=sz then Aa (.fp cs)else Aj else Aj
 |.own id off len sz'=>if 0<=k/\k<len/\sz'=sz then Aa (.ptr id ((off+k.toNat)*sz))else Aj
 |_=>Aj
def xY(sz m:Ae)(k:Al):AV->Aq AV
 |.ptr id o=>if 0<=k/\k<m then Aa (.ptr id (o+k.toNat*sz))else Aj
 |.fp cs=>if 0<=k/\k<m then Aa (.fp (cs.drop (k.toNat*sz)))else Aj
 |_=>Aj
def plc(P:As)(t:AF):Aq (Ae->Aq (Ae×Ae)):=match eH P t with
 |some fl=>Aa (fl[·]?)
 |none=>(oE P t).bind λp=>(tsz P p.2).map λsz=>λi=>Aa (i*sz,sz)
def pDd:AV->Aq D
 |.d x=>Aa x
 |_=>Aj
def bYc:AV->Aq D
 |.d x=>Aa x
 |.ag cs=>(cs.mapM pDd).map .ag
 |_=>Aj
def aNe(P:As)(t:AF)(name:String):Aq FuncId :=
 (P.info? t).bind λi=>(i.methods.find? (·.name==name)).bind λm=>match m.path.toList,m.func,P.underlying t with
  | [],Aa (f,Az),Aa u=>match u with
   |.pointer _=>Aj
   |_=>Aa f
  |_,_,_=>Aj
def cU(x:Aq AV):Aq (AV×Aq HO):=x.map λv=>(v,Aj)
def aVs(P:As)(Γ:Ae->AV):Callee->Ad AN->Ad AF->Aq AV
 |.builtin .len,[x],[t]=>(tel P t).bind λ_=>(aFd (oev Γ x)).map λn=>.d (.i .i64 n)
 |.builtin .max,[x,y],_=>match oev Γ x,oev Γ y with|.d (.i k a),.d (.i _ b)=>Aa (.d (.i k (if b>a then b else a)))|_,_=>Aj
 |.builtin .min,[x,y],_=>match oev Γ x,oev Γ y with|.d (.i k a),.d (.i _ b)=>Aa (.d (.i k (if b<a then b else a)))|_,_=>Aj
 |_,_,_=>Aj
def bLa:AV->Aq AV
 |.ptr id o=>Aa (.ptr id o)
 |.fp cs=>Aa (.fp cs)
 |_=>Aj
def nev(P:As)(op:Op)(Γ:Ae->AV)(n:Ae):Aq (AV×Aq HO) :=
 match op with
 |.move x|.assign x=>Aa (oev Γ x,Aj)
 |.pick c a b=>cU ((wQ (oev Γ c)).map λt=>if t then oev Γ a else oev Γ b)
 |.alloc e=>(tz P e).map λz=>(.ptr n 0,Aa (.cells e (z.cells.toList.map cv1)))
 |.box e x=>(eC (oev Γ x)).map λcs=>(.ptr n 0,Aa (.cells e cs))
 | .build t ps=>cU ((tz P t).bind λz=>(plc P t).bind λpl=>if z.cells.all CZ then
   (mQ pl (z.cells.toList.map cv1) (ps.toList.map λp=>(p.1,oev Γ p.2))).map .ag else Aj)
 | .buildSlice t len ps=>(tel P t).bind λe=>(tsz P e).bind λsz=>(tz P e).bind λz =>
   if z.cells.size=sz/\0<sz/\len*sz<=16777216/\z.cells.all CZ=Ak then
    (mQ (λi=>Aa (i*sz,sz)) ((AO len (z.cells.toList.map cv1)).flatten) (ps.toList.map λp=>(p.1,oev Γ p.2))).map λcs=>(.own n 0 len sz,Aa (.cells e cs))
   else Aj
 | .makeSlice t l c=>(tel P t).bind λe=>(tsz P e).bind λsz=>(tz P e).bind λz=>(tby P e).bind λby_=>(fB (oev Γ l)).bind λa=>(fB (oev Γ c)).bind λb =>
   if z.cells.size=sz/\0<sz/\z.cells.all CZ=Ak/\0<=a/\a<=b/\(by_:Al)*b<=281474976710656/\b<=9223372036854775807 then
    Aa (.own n 0 a.toNat sz,Aa (.cells e (AO a.toNat (z.cells.toList.map cv1)).flatten))
   else Aj
 |.binOp op t x y _=>cU (match aZp op (tel P t) (oev Γ x) (oev Γ y)with|some r=>Aa r|none=>match dT op (aBf P t) (oev Γ x) (oev Γ y)with|some r=>Aa (.d r)|none=>match bUw op (tai P t) (oev Γ x) (oev Γ y)with|some r=>Aa (.d r)|none=>match bUv op (tst P t) (oev Γ x) (oev Γ y)with|some r=>Aa (.d r)|none=>(bTc op (tfn P t) (oev Γ x) (oev Γ y)).map .d)
 |.unOp op _ x=>cU ((unA op (oev Γ x)).map .d)
 |.convert s t x=>cU ((fS P t).bind λk=>(fB (oev Γ x)).bind λm=>if(P.underlying s).isSome then Aa (.d (.i k (k.wrap m)))else Aj)
 |.fieldAddr s x f=>cU ((eH P s).bind λfl=>(fl[f]?).bind λp=>if p.2=0 then Aj else yD p.1 (oev Γ x))
 | .indexAddr t x i=>cU ((fB (oev Γ i)).bind λk=>match tel P t with
   |some e=>(tsz P e).bind λsz=>uJ sz k (oev Γ x)
   |none=>(oE P t).bind λp=>(tsz P p.2).bind λsz=>xY sz p.1 k (oev Γ x))
 |.extract x i=>cU ((aYf (oev Γ x)).bind λvs=>vs[i]?)
 | .slice t x lo hi mx=>cU ((tel P t).bind λe=>(tsz P e).bind λsz=>(aFd (oev Γ x)).bind λn=>(aMk lo Γ 0).bind λl=>(aMk hi Γ n).bind λh =>
   match mx with
   |none=>iW sz (oev Γ x) l h Az
   |some y=>(fB (oev Γ y)).bind λm=>if m=h/\hi.isSome then iW sz (oev Γ x) l h Ak else Aj)
 |.call c=>cU (aVs P Γ c.callee c.args.toList c.argTypes.toList)
 |.field s x f=>cU ((bDt P s f).bind λp=>(zW (oev Γ x)).bind λcs=>if p.2.1 then(if p.1+p.2.2<=cs.length then Aa (.ag ((cs.drop p.1).take p.2.2))else Aj)else cs[p.1]?)
 |.makeFunc (.func f) fst cs=>if fst.isEmpty then cU (Aa (.fn f (cs.toList.map (oev Γ))))else if cs.isEmpty then(match fst.toList.map (oev Γ)with|[.d d]=>cU (Aa (.d (.fm f d)))|[.ptr id off]=>cU (Aa (.bm f id off))|_=>Aj)else Aj
 |.index t (.const (.string s)) i=>cU (match P.underlying t with|some .string=>(fB (oev Γ i)).bind λk=>if 0<=k then(s[k.toNat]?).map λb=>.d (.i .u8 b.toNat)else Aj|_=>Aj)
 | .index t x i=>cU ((oE P t).bind λp=>(tsz P p.2).bind λsz=>(aBh P p.2).bind λag=>(fB (oev Γ i)).bind λk=>(zW (oev Γ x)).bind λcs =>
   if 0<=k/\k<p.1 then(if ag then(if k.toNat*sz+sz<=cs.length then Aa (.ag ((cs.drop (k.toNat*sz)).take sz))else Aj)else cs[k.toNat*sz]?)else Aj)
 |.nilCheck x=>cU (bLa (oev Γ x))
 |.makeMap t r=>(tmp P t).bind λp=>(fS P p.1).bind λk=>(match r with|none=>Aa 0|some x=>fB (oev Γ x)).map λ_=>(.mp n,Aa (.map k []))
 | .range t x=>(tmp P t).bind λ_=>match oev Γ x with
  |.d (.mp k ks ds)=>Aa (.ptr n 0,Aa (.iter k Aj (ks.zip ds)))
  |_=>Aj
 | .makeInterface t x=>cU ((P.underlying t).bind λu=>match u with
   |.interface _=>Aj
   |_=>(bYc (oev Γ x)).map λd=>.d (.iff t d))
 |_=>Aj
def aNg:∀(l:Ad AV) (r:Ad D),l.mapM pDd=Aa r->l=r.map .d
 |[],r,h=>by simp at h;subst h;rfl
 | x::l,r,h=>by
  rw[CG]at h;obtain⟨d,hd,h⟩:=Af.1 h;obtain⟨r',hr,h⟩:=Af.1 h;injection h with h;subst h
  rw[aNg l r' hr];cases x<;>simp[pDd]at hd;subst hd;rfl
def bYb{F:Ae->Prop}{w:Ag}{ι:Ae->Aq Ae}{x:AV}{v:AE}{d:D}(h:bYc x=Aa d)(hv:V F w ι x v):VD F w d v:=by
 unfold bYc at h;split at h
 .injection h with h;subst h;cases hv with|d _ _ h=>exact h
 .obtain⟨r,hr,rfl⟩:=Ai.1 h;have:=aNg _ _ hr;subst this;cases hv with|ag _ vs hl hh =>
  refine .ag r vs (by simpa using hl) λk c u hc hu=>?_
  have:=hh k (.d c) u (by rw[Ao,hc];rfl) hu;cases this with|d _ _ h=>exact h
 .cases h
def bFf{P:As}{t:AF}{name:String}{f:AU}(h:aNe P t name=Aa f)(v:AE)(args:Aw AE)(w:Ag):aU P (callMethod (.iface t v) name args) w=aU P (callFunc f (#[v]++args)) w:=by
 unfold aNe at h;obtain⟨i,hi,h⟩:=Af.1 h;obtain⟨m,hm,h⟩:=Af.1 h;split at h
 .rename_i f u hp hf hu;split at h
  .cases h
  .rename_i hnp;injection h with h;subst h
   simp only[callMethod,aB,yU,AR];obtain⟨n,hn⟩:∃n,P.types.size+Made.depth=n+1:=⟨P.types.size+99,rfl⟩;have hti:aU P (typeInfo t) w=.ok i w:=by simp only[typeInfo,aB,yU,AR,hi,aX]
   rw[hn];simp only[method,aB,hti,AR,hm,hp,follow,aX,hf,receiverAt,aE hu];cases u<;>first|exact absurd rfl (hnp _)|simp[Place.get]
 .cases h
section
variable {P:As} {F:Ae->Prop} {w:Ag} {ι:Ae->Aq Ae}
def iN{x:AV}{v:AE}{n:Al}(h:fB x=Aa n)(hv:V F w ι x v):∃k,v=.int k n:=by
 unfold fB at h;split at h
 .injection h with h;subst h;cases hv with|d _ _ hv=>cases hv;exact⟨_,rfl⟩
 .cases h
def bBt{x:AV}{v:AE}{n:Bw}(h:wQ x=Aa n)(hv:V F w ι x v):v=.bool n:=by
 unfold wQ at h;split at h
 .injection h with h;subst h;cases hv with|d _ _ hv=>cases hv;rfl
 .cases h
def aBg{t:AF}{p:Ae×AF}(h:oE P t=Aa p):P.underlying t=Aa (.array p.1 p.2):=by
 unfold oE at h;split at h
 .injection h with h;subst h;assumption
 .cases h
def bDs{t:AF}{k:BJ}(h:fS P t=Aa k):P.underlying t=Aa (.int k):=by
 unfold fS at h;split at h
 .injection h with h;subst h;assumption
 .cases h
def bJo{off:Ae}{x r:AV}{v:AE}(h:yD off x=Aa r)(hv:V F w ι x v):∃ad,v=.pointer (Aa ad)/\V F w ι r (.pointer (Aa (ad.add off))):=by
 unfold yD at h;split at h
 .injection h with h;subst h
  cases hv with|ptr id o b hι=>exact⟨_,rfl,by rw[fN];exact .ptr _ _ _ hι⟩
 .injection h with h;subst h
  cases hv with|fp cs ad f hF hcell hel =>
  refine⟨_,rfl,.fp _ _ (λj=>f (off+j)) (by rw[block_add];exact hF) (λj hj=>?_) (λk c hk=>?_)⟩
  .rw[add_add];exact hcell _ (by simp at hj;omega)
  .rw[B0]at hk;exact hel _ _ hk
 .cases h
def aXl{els:Ad (Ad D)}{ad:Aq Addr}{n c k:Ae}{cs:Ad D}(h:VD F w (.sl els) (.slice ad n c))(hk:els[k]? = Aa cs)(ι:Ae->Aq Ae) :
 ∃a,ad=Aa a/\k<n/\V F w ι (.fp cs) (.pointer (Aa (a.add (k*cs.length)))):=by
 have hlt:k<els.length:=(AA.1 hk).1
 cases h with
 |sl0=>simp at hk
 | sl _ a _ _ sz f hn hc hsz hF hcell hel =>
  have hs:cs.length=sz:=hsz cs (At hk)
  refine⟨a,rfl,by omega,?_⟩
  subst hs
  refine .fp _ _ (λj=>f (k*cs.length+j)) (by rw[block_add];exact hF) (λj hj=>?_) (λj c hj=>hel k j cs c hk hj)
  rw[add_add]
  refine hcell _ ?_
  have h1:(k+1)*cs.length<=n*cs.length:=Ck _ (by omega)
  rw[C0,Fu]at h1
  omega
def bIt{sz:Ae}{k:Al}{x r:AV}{v:AE}(h:uJ sz k x=Aa r)(hv:V F w ι x v) :
 ∃a n c,v=.slice (Aa a) n c/\0<=k/\k<n/\V F w ι r (.pointer (Aa (a.add (k.toNat*sz)))):=by
 unfold uJ at h
 split at h
 .rename_i els
  split at h
  .rename_i hk0
   obtain⟨cs,hcs,h⟩:=Af.1 h
   split at h
   .rename_i hl
    injection h with h;subst h;subst hl
    cases hv with|d _ _ hh =>
    obtain⟨ad,c,rfl,_⟩:=oR hh
    obtain⟨a,rfl,h1,h2⟩:=aXl hh hcs ι
    exact⟨a,_,_,rfl,hk0,by omega,h2⟩
   .cases h
  .cases h
 .rename_i els
  split at h
  .rename_i hk0
   obtain⟨cs,hcs,h⟩:=Af.1 h
   split at h
   .rename_i hl
    injection h with h;subst h;subst hl
    obtain⟨ad,rfl,hh⟩:=oQ hv
    obtain⟨a,rfl,h1,h2⟩:=aXl hh hcs ι
    exact⟨a,_,_,rfl,hk0,by omega,h2⟩
   .cases h
  .cases h
 .split at h
  .rename_i hk
   obtain⟨h0,h1,rfl⟩:=hk
   injection h with h;subst h
   cases hv with|own id off len _ b cap cur e hι hb hcap hl hm =>
   refine⟨_,_,_,rfl,h0,by omega,?_⟩
   rw[fN,<-C0]
   exact .ptr _ _ _ hι
  .cases h
 .cases h
def bIu{sz m:Ae}{k:Al}{x r:AV}{v:AE}(h:xY sz m k x=Aa r)(hv:V F w ι x v) :
 ∃a,v=.pointer (Aa a)/\0<=k/\k<m/\V F w ι r (.pointer (Aa (a.add (k.toNat*sz)))):=by
 unfold xY at h
 split at h
 .split at h
  .rename_i hk
   injection h with h;subst h
   cases hv with|ptr id o b hι=>exact⟨_,rfl,hk.1,hk.2,by rw[fN];exact .ptr _ _ _ hι⟩
  .cases h
 .split at h
  .rename_i hk
   injection h with h;subst h
   cases hv with|fp cs ad f hF hcell hel =>
   refine⟨_,rfl,hk.1,hk.2,.fp _ _ (λj=>f (k.toNat*sz+j)) (by rw[block_add];exact hF) (λj hj=>?_) (λj c hc=>?_)⟩
   .rw[add_add];exact hcell _ (by simp at hj;omega)
   .rw[B0]at hc;exact hel _ _ hc
  .cases h
 .cases h
def cC{x:Aq AV}{av:AV}{ho:Aq HO}(h:cU x=Aa (av,ho)):x=Aa av/\ho=none:=by
 unfold cU at h;obtain⟨v,hv,h⟩:=Ai.1 h;injection h with h1 h2
 subst h1;exact⟨hv,h2.symm⟩
def zO{t:AF}{z:AE}{fs:Aw Field}(hz:tz P t=Aa z)(hu:P.underlying t=Aa (.struct fs))(ps:Aw (Ae×Ae))(parts:Aw (Ae×AE))(cells:Aw AE)
 (hm:aU P (fs.mapM (m:=Sem) λf=>do pure (f.offset,<-sizeOf f.type)) w=.ok ps w) (hf:Instr.fill (ps[·]?) z.cells parts.toList=Aa cells) :
 aU P (Instr.build t parts) w=.ok (.agg cells) w:=by
 simp only[Instr.build,aB,gF w hz,AR,aE hu,hm,hf]
 rfl
def bVg{z:AE}(h:z.cells.all CZ=Ak):CV F w ι (z.cells.toList.map cv1) z.cells :=
 ⟨by simp,aKm _,λu hu=>C1.1 h u hu⟩
def aVg{Γ:Ae->AV}{a:Act}{ps:Aw (Ae×AN)}(h:∀p∈ps,V F w ι (oev Γ p.2) (a.eval p.2)) :
 (ps.toList.map λp=>(p.1,oev Γ p.2)).length=(ps.map λp=>(p.1,a.eval p.2)).toList.length /\
 ∀(k:Ae) p q,(ps.toList.map λp=>(p.1,oev Γ p.2))[k]? = Aa p->(ps.map λp=>(p.1,a.eval p.2)).toList[k]? = Aa q->p.1=q.1/\V F w ι p.2 q.2:=by
 refine⟨by simp,λk p q hp hq=>?_⟩
 simp only[Ao,Gh,Bq]at hp hq
 cases hx:ps[k]? with
 |none=>simp[hx]at hp
 | some x =>
  simp only[hx,Bj,AH]at hp hq
  subst hp;subst hq
  exact⟨rfl,h x (B7 hx)⟩
end
section
variable {P:As}
def aLr{s:AF}{f:Ae}{fl:Ad (Ae×Ae)}{p:Ae×Ae}(w:Ag)(h:eH P s=Aa fl)(hp:fl[f]? = Aa p)(h0:p.2≠0)(ad:Addr) :
 aU P (Instr.fieldAt s (.pointer (Aa ad)) f) w=.ok (.pointer (Aa (ad.add p.1))) w:=by
 obtain⟨fs,hu,_,hm⟩:=aLq w h
 have hlen:∀(l:Ad Field) (r:Ad (Ae×Ae)),(l.mapM λf=>(P.info? f.type).map λi=>(f.offset,i.size))=Aa r->∀(k:Ae) q,r[k]? = Aa q->∃g,l[k]? = Aa g/\q.1=g.offset/\tsz P g.type=Aa q.2:=by
  intro l;induction l with
  |nil=>intro r hr k q hq;simp at hr;subst hr;simp at hq
  | cons g l ih =>
   intro r hr k q hq;simp only[CG,Dk,Af,D9,AH]at hr;obtain⟨x,hx,r',hr',rfl⟩:=hr;obtain⟨i,hi,rfl⟩:=Ai.1 hx;rcases k with _|k
   .simp only[Ca,AH]at hq;subst hq;exact⟨g,rfl,rfl,by simp[tsz,hi]⟩
   .exact ih r' hr' k q (by simpa using hq)
 obtain⟨g,hg,e1,e2⟩:=hlen _ _ hm f p hp
 have hg':fs[f]? = Aa g:=by simpa using hg
 simp[Instr.fieldAt,aE hu,hg',CH,fieldPlace,run_sizeOf w e2,h0,e1]
def aEu{t e:AF}{sz:Ae}(w:Ag)(h:tel P t=Aa e)(hs:tsz P e=Aa sz)(a:Addr)(n c:Ae)(ki:BJ)(k:Al)(h0:0<=k)(h1:k<n) :
 aU P (EN t (.slice (Aa a) n c) (.int ki k)) w=.ok (.pointer (Aa (a.add (k.toNat*sz)))) w:=by
 simp[EN,asIntOf,aE (eP h),run_sizeOf w hs,h0,h1]
def aEv{t e:AF}{sz m:Ae}(w:Ag)(h:oE P t=Aa (m,e))(hs:tsz P e=Aa sz)(a:Addr)(ki:BJ)(k:Al)(h0:0<=k)(h1:k<m) :
 aU P (EN t (.pointer (Aa a)) (.int ki k)) w=.ok (.pointer (Aa (a.add (k.toNat*sz)))) w:=by
 simp[EN,asIntOf,aE (aBg h),run_sizeOf w hs,h0,h1,CH]
def aYs{t e:AF}(w:Ag)(h:tel P t=Aa e)(ty:AF)(a:Aq Addr)(n c:Ae):aU P (GH #[t] ty #[.slice a n c]) w=.ok (.int .i64 n) w:=by simp[GH,aE (eP h),goInt]
def iF(w:Ag)(k:BJ)(i:Al)(y:Ae)(code:BoundsCode)(h0:0<=i)(h1:i<=y):aU P (Instr.sliceBound (.int k i) y code) w=.ok i.toNat w:=by simp[Instr.sliceBound,asIntOf,h0,h1]
def nW{t e:AF}{sz:Ae}(w:Ag)(ht:tel P t=Aa e)(hs:tsz P e=Aa sz)(ad:Aq Addr)(n c:Ae)(hnc:n<=c)(lo hi mx:Aq AE)(l h:Al)
 (hlo:(lo=Aj/\l=0)\/∃k,lo=Aa (.int k l)) (hhi:(hi=Aj/\h=n)\/∃k,hi=Aa (.int k h)) (hl:0<=l) (hlh:l<=h) (hn:h<=n)
 (m:Ae) (hm:(mx=Aj/\m=c)\/(∃k,mx=Aa (.int k h))/\m=h.toNat/\hi.isSome=Ak) :
 aU P (Instr.sliceAt t (.slice ad n c) lo hi mx) w=.ok (.slice (if m=l.toNat then ad else ad.map (·.add (l.toNat*sz))) (h.toNat-l.toNat) (m-l.toNat)) w:=by
 have hu:=eP ht
 have hb:aU P (Ei Ak n c lo hi mx) w=.ok (l.toNat,h.toNat,m) w:=by
  have e1:(h.toNat:Al)=h:=by omega
  rcases hm with ⟨rfl,rfl⟩|⟨⟨km,rfl⟩,rfl,hs'⟩
  .rcases hlo with ⟨rfl,rfl⟩|⟨kl,rfl⟩<;>rcases hhi with ⟨rfl,rfl⟩|⟨kh,rfl⟩
   .simp[Ei]
   .simp[Ei,iF w kh h m _ (by omega) (by omega)]
   .simp[Ei,iF w kl l n _ (by omega) (by omega)]
   .simp[Ei,iF w kh h m _ (by omega) (by omega),iF w kl l h.toNat _ (by omega) (by omega)]
  .rcases hhi with ⟨rfl,rfl⟩|⟨kh,rfl⟩
   .simp at hs'
   .rcases hlo with ⟨rfl,rfl⟩|⟨kl,rfl⟩
    .simp[Ei,iF w km h c _ (by omega) (by omega),iF w kh h h.toNat _ (by omega) (by omega)]
    .simp[Ei,iF w km h c _ (by omega) (by omega),iF w kh h h.toNat _ (by omega) (by omega),iF w kl l h.toNat _ (by omega) (by omega)]
 simp[Instr.sliceAt,Instr.slice,aE hu,hb,run_sizeOf w hs]
def run_build{w:Ag}{t:AF}{z:AE}{pl:Ae->Aq (Ae×Ae)}(hz:tz P t=Aa z)(hpl:plc P t=Aa pl)(parts:Aw (Ae×AE))(cells:Aw AE)(hf:Instr.fill pl z.cells parts.toList=Aa cells) :
 aU P (Instr.build t parts) w=.ok (.agg cells) w:=by
 unfold plc at hpl
 split at hpl
 .rename_i fl hfl
  injection hpl with hpl;subst hpl
  obtain⟨fs,hu,hm,_⟩:=aLq w hfl
  exact zO hz hu fl.toArray parts cells hm (by simpa using hf)
 .obtain⟨p,hp,h⟩:=Af.1 hpl
  obtain⟨sz,hsz,rfl⟩:=Ai.1 h
  simp only[Instr.build,aB,gF w hz,AR,aE (aBg hp),run_sizeOf w hsz,hf]
  rfl
variable [M:Mch P] {G:Ctx} {o:Bf} {Γ:Ae->AV} {C:Ae->Prop} {H:Hp} {n:Ae}
def aCk{av:AV}(h:nev P o.op Γ n=Aa (av,Aj)):Y P G o Γ C H H av bG bG:=by
 refine xD λF w ι a hR hop=>?_
 have ov:∀x∈o.op.operands,V F w ι (oev Γ x) (a.eval x):=λx hx=>cD λt e=>hop t (e ▸ hx)
 obtain⟨dst,op,type,pos,after,guard⟩:=o;simp only at h ov ⊢;unfold nev at h;split at h
 .rename_i x;injection h with h;injection h with h _;subst h;exact⟨_,by simp[execOp],ov x (by simp[AJ])⟩
 .rename_i x;injection h with h;injection h with h _;subst h;exact⟨_,by simp[execOp],ov x (by simp[AJ])⟩
 .rename_i c x y;obtain⟨h,_⟩:=cC h;obtain⟨t,ht,rfl⟩:=Ai.1 h;have hc:=bBt ht (ov c (by simp[AJ]));refine⟨if t then a.eval x else a.eval y,by simp[execOp,hc,asBool],?_⟩;cases t
  .exact ov y (by simp[AJ])
  .exact ov x (by simp[AJ])
 .obtain⟨z,_,h⟩:=Ai.1 h;cases h
 .obtain⟨z,_,h⟩:=Ai.1 h;cases h
 .rename_i t ps;obtain⟨h,_⟩:=cC h;obtain⟨z,hz,h⟩:=Af.1 h;obtain⟨pl,hpl,h⟩:=Af.1 h;split at h
  .rename_i hone;obtain⟨cs,hcs,rfl⟩:=Ai.1 h;have hp:=aVg (F:=F) (w:=w) (ι:=ι) (Γ:=Γ) (a:=a) (ps:=ps) λp hp=>ov p.2 (by simp[AJ];exact⟨p.1,hp⟩)
   obtain⟨us,hus,hcv⟩:=aJr _ _ _ _ _ _ (bVg (F:=F) (w:=w) (ι:=ι) hone) hp.1 hp.2 hcs;refine⟨.agg us,?_,.ag _ _ hcv.1 hcv.2.1⟩;have hrun:=run_build (w:=w) hz hpl (ps.map λp=>(p.1,a.eval p.2)) us hus;simp only[execOp,aB];rw[hrun];rfl
  .cases h
 .obtain⟨e,_,h⟩:=Af.1 h;obtain⟨sz,_,h⟩:=Af.1 h;obtain⟨z,_,h⟩:=Af.1 h;split at h
  .obtain⟨cs,_,h⟩:=Ai.1 h;cases h
  .cases h
 .obtain⟨e,_,h⟩:=Af.1 h;obtain⟨sz,_,h⟩:=Af.1 h;obtain⟨z,_,h⟩:=Af.1 h;obtain⟨y,_,h⟩:=Af.1 h;obtain⟨a,_,h⟩:=Af.1 h;obtain⟨b,_,h⟩:=Af.1 h;split at h<;>cases h
 .rename_i op t x y yt;obtain⟨h,_⟩:=cC h;split at h
  .rename_i r' hr;injection h with h;subst h
   obtain⟨z,⟨h1,h2⟩,hz⟩:=bFd (P:=P) hr (ov x (by simp[AJ])) (ov y (by simp[AJ])) x y;exact⟨z,by simp[execOp,h1,h2],hz⟩
  split at h
  .rename_i r' hr;injection h with h;subst h
   obtain⟨z,⟨h1,h2⟩,hz⟩:=aLt (P:=P) hr (ov x (by simp[AJ])) (ov y (by simp[AJ])) x y;exact⟨z,by simp[execOp,h1,h2],.d _ _ hz⟩
  split at h
  rotate_left
  .split at h
   rotate_left
   .obtain⟨r,hr,rfl⟩:=Ai.1 h;obtain⟨z,⟨h1,h2⟩,hz⟩:=bFh (P:=P) hr (ov x (by simp[AJ])) (ov y (by simp[AJ])) x y;exact⟨z,by simp[execOp,h1,h2],.d _ _ hz⟩
   rename_i r hr;injection h with h;subst h
   obtain⟨z,⟨h1,h2⟩,hz⟩:=bFi (P:=P) hr (ov x (by simp[AJ])) (ov y (by simp[AJ])) x y;exact⟨z,by simp[execOp,h1,h2],.d _ _ hz⟩
  rename_i r hr;injection h with h;subst h
  obtain⟨z,⟨h1,h2⟩,hz⟩:=bFj (P:=P) hr (ov x (by simp[AJ])) (ov y (by simp[AJ])) x y;exact⟨z,by simp[execOp,h1,h2],.d _ _ hz⟩
 .rename_i op t x;obtain⟨h,_⟩:=cC h;obtain⟨r,hr,rfl⟩:=Ai.1 h;obtain⟨z,h1,hz⟩:=bPj (P:=P) hr (ov x (by simp[AJ]));exact⟨z,by simp[execOp,h1],.d _ _ hz⟩
 .rename_i s t x;obtain⟨h,_⟩:=cC h;obtain⟨k,hk,h⟩:=Af.1 h;obtain⟨m,hm,h⟩:=Af.1 h;split at h
  .rename_i hs;injection h with h;subst h
   obtain⟨k',hx⟩:=iN hm (ov x (by simp[AJ]));refine⟨.int k (k.wrap m),?_,.d _ _ (.i _ _)⟩;obtain⟨ds,hds⟩:=Dj.1 hs;simp[execOp,hx,convert,aE hds,aE (bDs hk),Conv.intToInt]
  .cases h
 .rename_i s x f;obtain⟨h,_⟩:=cC h;obtain⟨fl,hfl,h⟩:=Af.1 h;obtain⟨p,hp,h⟩:=Af.1 h;split at h
  .cases h
  .rename_i h0;obtain⟨ad,hx,hv⟩:=bJo h (ov x (by simp[AJ]));exact⟨_,by simp only[execOp,hx,aB,aLr w hfl hp h0 ad];rfl,hv⟩
 .rename_i t x i;obtain⟨h,_⟩:=cC h;obtain⟨k,hk,h⟩:=Af.1 h;obtain⟨ki,hi⟩:=iN hk (ov i (by simp[AJ]));split at h
  .rename_i e he;obtain⟨sz,hsz,h⟩:=Af.1 h;obtain⟨ad,m,c,hx,h0,h1,hv⟩:=bIt h (ov x (by simp[AJ]));exact⟨_,by simp only[execOp,hx,hi,aB,aEu w he hsz ad m c ki k h0 h1];rfl,hv⟩
  .obtain⟨⟨m,e⟩,he,h⟩:=Af.1 h;obtain⟨sz,hsz,h⟩:=Af.1 h;obtain⟨ad,hx,h0,h1,hv⟩:=bIu h (ov x (by simp[AJ]));exact⟨_,by simp only[execOp,hx,hi,aB,aEv w he hsz ad ki k h0 h1];rfl,hv⟩
 .rename_i x i;obtain⟨h,_⟩:=cC h;obtain⟨vs,hvs,h⟩:=Af.1 h;obtain⟨us,hx,hl,hv⟩:=bXf hvs (ov x (by simp[AJ]));have hlt:i<vs.length:=(AA.1 h).1;have hlt':i<us.size:=by omega
  exact⟨us[i],by simp[execOp,hx,Instr.extract,hlt'],hv i _ _ h (Ar hlt')⟩
 .rename_i t x lo hi mx;obtain⟨h,_⟩:=cC h;obtain⟨e,he,h⟩:=Af.1 h;obtain⟨sz,hsz,h⟩:=Af.1 h;obtain⟨n',hn',h⟩:=Af.1 h;obtain⟨l,hl,h⟩:=Af.1 h;obtain⟨hh,hhh,h⟩:=Af.1 h;obtain⟨ad',len',c',hxv,hnl⟩:=bHy hn' (ov x (by simp[AJ]));have hlo:(lo.map a.eval=Aj/\l=0)\/∃k,lo.map a.eval=Aa (.int k l):=by
   cases lo with
   |none=>simp only[aMk,AH]at hl;exact .inl ⟨rfl,hl.symm⟩
   |some y=>obtain⟨k,hk⟩:=iN hl (ov y (by simp[AJ]));exact .inr ⟨k,by simp[hk]⟩
  have hhi:(hi.map a.eval=Aj/\hh=len')\/∃k,hi.map a.eval=Aa (.int k hh):=by
   cases hi with
   |none=>simp only[aMk,AH]at hhh;exact .inl ⟨rfl,by rw[<-hhh,hnl]⟩
   |some y=>obtain⟨k,hk⟩:=iN hhh (ov y (by simp[AJ]));exact .inr ⟨k,by simp[hk]⟩
  cases mx with
  | none =>
   obtain⟨ad,m,c,hx,h0,h1,h2,h3,hv⟩:=aLo h (ov x (by simp[AJ]));rw[hxv]at hx;injection hx with e1 e2 e3;subst e1;subst e2;subst e3
   refine⟨_,?_,hv c' (by simp)⟩;have:=nW w he hsz ad' len' c' h3 _ _ Aj l hh hlo hhi h0 h1 h2 c' (.inl ⟨rfl,rfl⟩);simp only[execOp,hxv,aB,Option.map_none,this];rfl
  | some y =>
   obtain⟨m,hm,h⟩:=Af.1 h;split at h
   .rename_i hmh;obtain⟨rfl,his⟩:=hmh;obtain⟨ad,m',c,hx,h0,h1,h2,h3,hv⟩:=aLo h (ov x (by simp[AJ]));rw[hxv]at hx;injection hx with e1 e2 e3;subst e1;subst e2;subst e3
    obtain⟨km,hkm⟩:=iN hm (ov y (by simp[AJ]));refine⟨_,?_,hv m.toNat (by simp)⟩;have:=nW w he hsz ad' len' c' h3 _ _ (Aa (.int km m)) l m hlo hhi h0 h1 h2 m.toNat (.inr ⟨⟨km,rfl⟩,rfl,by simpa using his⟩);simp only[execOp,hxv,aB,Bj,hkm,this];rfl
   .cases h
 .rename_i c;obtain⟨h,_⟩:=cC h;obtain⟨callee,args,argTypes⟩:=c;simp only[AJ,Bs]at ov;obtain⟨args⟩:=args;obtain⟨argTypes⟩:=argTypes;simp only at h;unfold aVs at h;split at h
  .rename_i x t _;obtain⟨e,he,h⟩:=Af.1 h;obtain⟨m,hm,rfl⟩:=Ai.1 h;obtain⟨ad,l,c,hx,rfl⟩:=bHy hm (ov x (by simp));refine⟨.int .i64 l,?_,.d _ _ (.i _ _)⟩;simp[execOp,resolve,invoke,builtin,hx,aYs w he]
  .rename_i x y _;split at h
   .rename_i k p k' q hx hy;injection h with h;subst h
    have vx:=ov x (by simp);have vy:=ov y (by simp);rw[hx]at vx;rw[hy]at vy;cases vx with|d _ _ vx=>cases vy with|d _ _ vy =>
    generalize hex:a.eval x=ux at vx;generalize hey:a.eval y=uy at vy;cases vx;cases vy;exact⟨_,by simp[execOp,resolve,invoke,builtin,hex,hey,aIn],.d _ _ (.i _ _)⟩
   .cases h
  .rename_i x y _;split at h
   .rename_i k p k' q hx hy;injection h with h;subst h
    have vx:=ov x (by simp);have vy:=ov y (by simp);rw[hx]at vx;rw[hy]at vy;cases vx with|d _ _ vx=>cases vy with|d _ _ vy =>
    generalize hex:a.eval x=ux at vx;generalize hey:a.eval y=uy at vy;cases vx;cases vy;exact⟨_,by simp[execOp,resolve,invoke,builtin,hex,hey,aIm],.d _ _ (.i _ _)⟩
   .cases h
  .cases h
 .rename_i s x f;obtain⟨h,_⟩:=cC h;obtain⟨⟨off,ag,sz⟩,hp,h⟩:=Af.1 h;obtain⟨cs,hcs,h⟩:=Af.1 h;obtain⟨vs,hx,hl,hV⟩:=yM hcs (ov x (by simp[AJ]));unfold bDt at hp;split at hp
  .rename_i fs hu;obtain⟨g,hg,hp⟩:=Af.1 hp;obtain⟨a',ha',hp⟩:=Af.1 hp;obtain⟨z,hz,hp⟩:=Ai.1 hp;injection hp with e1 e2;injection e2 with e2 e3;subst e1;subst e2;subst e3
   cases a'
   .simp only[Ch,DV]at h;have hlt:g.offset<vs.size:=by rw[<-hl];exact(AA.1 h).1
    have hv:=Ar hlt;refine⟨vs[g.offset],?_,hV _ _ _ h hv⟩;simp[execOp,hx,Instr.field,aE hu,hg,asAgg,part,lW w ha',hv]
   .simp only[CN]at h;split at h
    .rename_i hfit;injection h with h;subst h
     refine⟨.agg (vs.extract g.offset (g.offset+z)),by simp[execOp,hx,Instr.field,aE hu,hg,asAgg,part,lW w ha',run_sizeOf w hz],.ag _ _ (by simp;omega) λk c u hc hu'=>?_⟩;have hk:k<z:=by
      rcases Bc k z with h|h
      .exact h
      .rw[BM,Ap (by omega)]at hc;cases hc
     rw[BM,AB hk,B0]at hc;rw[Array.getElem?_extract]at hu';rw[AB (by omega)]at hu';exact hV _ _ _ hc hu'
    .cases h
  .cases hp
 .rename_i f fst cs;split at h
  .rename_i hf;obtain⟨h,_⟩:=cC h;injection h with h;subst h
   have hf':fst=#[]:=by simpa using hf
   subst hf';refine⟨.func (.func f) #[] (cs.map a.eval),by simp[execOp,F8],.fn _ _ _ (by simp) λk c u hc hu=>?_⟩;simp only[Ao,B6,Bq]at hc hu;cases hx:cs[k]? with
   |none=>simp[hx]at hc
   | some x =>
    simp only[hx,Bj,AH]at hc hu;subst hc;subst hu;exact ov x (by simp[AJ,B7 hx])
  .split at h
   .rename_i hcs;have hcs':cs=#[]:=by simpa using hcs
    subst hcs';split at h
    .rename_i d hd;obtain⟨h,_⟩:=cC h;injection h with h;subst h
     obtain⟨x,hx⟩:∃x,fst=#[x]:=by
      have hl:fst.toList.length=1:=by have:=congrArg List.length hd;simpa using this
      match fst,hl with
      |⟨[x]⟩,_=>exact⟨x,rfl⟩
     subst hx;simp only[BX,Ee,Gz,and_true]at hd;have hv:=ov x (by simp[AJ]);rw[hd]at hv;refine⟨.func (.func f) #[a.eval x] #[],by simp[execOp,F8],.d _ _ (.fm _ _ _ ?_)⟩;cases hv with|d _ _ h=>exact h
    .rename_i id off hd;obtain⟨h,_⟩:=cC h;injection h with h;subst h
     obtain⟨x,hx⟩:∃x,fst=#[x]:=by
      have hl:fst.toList.length=1:=by have:=congrArg List.length hd;simpa using this
      match fst,hl with
      |⟨[x]⟩,_=>exact⟨x,rfl⟩
     subst hx;simp only[BX,Ee,Gz,and_true]at hd;have hv:=ov x (by simp[AJ]);rw[hd]at hv;refine⟨.func (.func f) #[a.eval x] #[],by simp[execOp,F8],?_⟩;generalize a.eval x=v at hv;cases hv with|ptr _ _ b h=>exact .bm _ _ _ _ h
    .cases h
   .cases h
 .rename_i t s i;obtain⟨h,_⟩:=cC h;split at h
  .rename_i hu;obtain⟨k,hk,h⟩:=Af.1 h;obtain⟨ki,hi⟩:=iN hk (ov i (by simp[AJ]));split at h
   .rename_i h0;obtain⟨b,hb,h⟩:=Ai.1 h;subst h;have hx:a.eval (.const (.string s))=.string s:=rfl;refine⟨.int .u8 b.toNat,?_,.d _ _ (.i _ _)⟩;simp[execOp,hx,hi,Instr.index,asIntOf,aE hu,h0,hb]
   .cases h
  .cases h
 .rename_i t x i _;obtain⟨h,_⟩:=cC h;obtain⟨⟨m,e⟩,hp,h⟩:=Af.1 h;obtain⟨sz,hsz,h⟩:=Af.1 h;obtain⟨ag,hag,h⟩:=Af.1 h;obtain⟨k,hk,h⟩:=Af.1 h;obtain⟨cs,hcs,h⟩:=Af.1 h;obtain⟨ki,hi⟩:=iN hk (ov i (by simp[AJ]));obtain⟨vs,hx,hl,hV⟩:=yM hcs (ov x (by simp[AJ]));have hu:=aBg hp;simp only at hu;split at h
  .rename_i hb;have hb':0<=k/\k<(m:Al):=hb;cases ag
   .simp only[Ch,DV]at h;have hlt:k.toNat*sz<vs.size:=by rw[<-hl];exact(AA.1 h).1
    have hv:=Ar hlt;refine⟨vs[k.toNat*sz],?_,hV _ _ _ h hv⟩;simp[execOp,hx,hi,Instr.index,asIntOf,aE hu,hb',run_sizeOf w hsz,part,lW w hag,hv]
   .simp only[CN]at h;split at h
    .rename_i hfit;injection h with h;subst h
     refine⟨.agg (vs.extract (k.toNat*sz) (k.toNat*sz+sz)),by simp[execOp,hx,hi,Instr.index,asIntOf,aE hu,hb',run_sizeOf w hsz,part,lW w hag],.ag _ _ (by simp;omega) λj c u hc hu'=>?_⟩;have hj:j<sz:=by
      rcases Bc j sz with h|h
      .exact h
      .rw[BM,Ap (by omega)]at hc;cases hc
     rw[BM,AB hj,B0]at hc;rw[Array.getElem?_extract]at hu';rw[AB (by omega)]at hu';exact hV _ _ _ hc hu'
    .cases h
  .cases h
 .rename_i x;obtain⟨h,_⟩:=cC h;have hv:=ov x (by simp[AJ]);unfold bLa at h;split at h
  .rename_i id o hx;injection h with h;subst h
   rw[hx]at hv;generalize hu:a.eval x=u at hv;cases hv with|ptr _ _ b hι=>exact⟨.pointer (Aa ⟨b,o,Aj⟩),by simp[execOp,hu],.ptr _ _ _ hι⟩
  .rename_i cs hx;injection h with h;subst h
   rw[hx]at hv;generalize hu:a.eval x=u at hv;cases hv with|fp _ ad f hF hcell hel=>exact⟨.pointer (Aa ad),by simp[execOp,hu],.fp _ _ f hF hcell hel⟩
  .cases h
 .obtain⟨p,_,h⟩:=Af.1 h;obtain⟨k,_,h⟩:=Af.1 h;obtain⟨_,_,h⟩:=Ai.1 h;cases h
 .obtain⟨p,_,h⟩:=Af.1 h;split at h<;>cases h
 .rename_i t x;obtain⟨h,_⟩:=cC h;obtain⟨u,hu,h⟩:=Af.1 h;have hv:=ov x (by simp[AJ]);split at h
  .cases h
  .rename_i hni;obtain⟨d,hd,h⟩:=Ai.1 h;subst h;refine⟨.iface t (a.eval x),?_,.d _ _ (.iff _ _ _ (bYb hd hv))⟩;cases u<;>first|exact absurd rfl (hni _)|simp[execOp,Instr.makeInterface,aE hu]
 .cases h
end
def aNx{α:Type}(zs:Ad α)(hz:0<zs.length):∀(n k:Ae),k<n*zs.length->(AO n zs).flatten[k]? = zs[k%zs.length]?
 |0,k,h=>by omega
 | n+1,k,h=>by
  rw[List.replicate_succ,Dq];by_cases hk:k<zs.length
  .rw[Bb hk,Cr hk]
  .rw[AZ (by omega),aNx zs hz n (k-zs.length) (by rw[C0,Fu]at h;omega)];congr 1;exact(Nat.mod_eq_sub_mod (by omega)).symm
def vV{α:Type}(zs:Ad α)(n:Ae):(AO n zs).flatten.length=n*zs.length:=by simp
section
variable {P:As} {F:Ae->Prop} {w:Ag} {ι:Ae->Aq Ae}
def aXq{z:Aw AE}{sz n m:Ae}(hz:z.size=sz)(h0:0<sz)(hone:z.all CZ=Ak)(hnm:n<=m) :
 ((AO n (z.toList.map cv1)).flatten.length<=(madeCells z (m*sz)).size) /\
 ∀(k:Ae) c,(AO n (z.toList.map cv1)).flatten[k]? = Aa c->∃u,(madeCells z (m*sz))[k]? = Aa u/\V F w ι c u/\u.oneCell'=true:=by
 have hl:(z.toList.map cv1).length=sz:=by simp[hz]
 have hmul:n*sz<=m*sz:=Ck _ hnm
 refine⟨by rw[vV,hl,size_madeCells];exact hmul,λk c hk=>?_⟩
 have hlt:k<n*sz:=by have:=(AA.1 hk).1;rwa [vV,hl]at this
 rw[aNx _ (by omega) n k (by rw[hl];exact hlt),hl]at hk
 have hm:k%sz<z.size:=by rw[hz];exact B9 _ h0
 refine⟨z[k%sz],?_,aKm z (k%sz) c _ hk (Ar hm),C1.1 hone _ (Array.getElem_mem hm)⟩
 simp only[madeCells,B6,Array.getElem?_range,hz]
 rw[AB (by omega)]
 simp[hm]
def aUe{z:Aw AE}{sz n:Ae}(hz:z.size=sz)(h0:0<sz)(hone:z.all CZ=Ak) :
 CV F w ι (AO n (z.toList.map cv1)).flatten ((GV (n*sz)).map (z[·%z.size]!)):=by
 obtain⟨_,h2⟩:=aXq (F:=F) (w:=w) (ι:=ι) hz h0 hone (AM n)
 have hl:(AO n (z.toList.map cv1)).flatten.length=n*sz:=by rw[vV];simp[hz]
 refine⟨by rw[hl];simp,λk c u hc hu=>?_,λu hu=>?_⟩
 .obtain⟨u',hu',hv,_⟩:=h2 k c hc
  rw[show(madeCells z (n*sz))=((GV (n*sz)).map (z[·%z.size]!))from rfl,hu]at hu'
  injection hu' with hu';subst hu';exact hv
 .obtain⟨k,hk,rfl⟩:=Fl.1 hu
  have hk':k<(AO n (z.toList.map cv1)).flatten.length:=by rw[hl];simpa using hk
  obtain⟨u',hu',_,ho⟩:=h2 k _ (Ac hk')
  rw[show(madeCells z (n*sz))=((GV (n*sz)).map (z[·%z.size]!))from rfl,Ar hk]at hu'
  injection hu' with hu';rw[hu'];exact ho
def aPt{e:AF}{cs:Ad AV}{vs:Aw AE}(h:CV F w ι cs vs):CR F w ι (.cells e cs) (.cells vs e (0,0)) :=
 .cells _ _ _ (by have:=h.1;omega) λk c hk=>let ⟨u,h1,h2⟩:=h.get hk;⟨u,h1,h2⟩
variable [M:Mch P] {G:Ctx} {o:Bf} {Γ:Ae->AV} {C:Ae->Prop} {H:Hp} {n:Ae}
def xR{av:AV}{ho:HO}(h:nev P o.op Γ n=Aa (av,Aa ho))(hH:H n=Aa ho):Y P G o Γ C H H av (·=n) bG:=by
 refine bNg hH λF w ι a hop=>?_
 have ov:∀x∈o.op.operands,V F w ι (oev Γ x) (a.eval x):=λx hx=>cD λt e=>hop t (e ▸ hx)
 obtain⟨dst,op,type,pos,after,guard⟩:=o;simp only at h ov ⊢;unfold nev at h;split at h<;>try (obtain⟨_,h⟩:=cC h;cases h;done)
 .injection h with h;injection h with _ h;cases h
 .injection h with h;injection h with _ h;cases h
 .rename_i e;obtain⟨z,hz,h⟩:=Ai.1 h;injection h with h1 h2;subst h1;injection h2 with h2;subst h2
  refine⟨.pointer (Aa ⟨w.heap.size,0,Aj⟩),.cells z.cells e,w.alloc (.cells z.cells e),?_,.alloc _ _,λF' w' ι' hs hι hb=>⟨.cells _ _ _ (by simp) (λk c hk=>?_),.ptr _ _ _ hι⟩⟩
  .simp only[execOp,Instr.alloc,aB,gF w hz,AR,newVar,newRow,aBu,aX,World.alloc_eq]
  .simp only[Ao,Bq]at hk;obtain⟨u,hu,rfl⟩:=Ai.1 hk;exact⟨u,hu,bMm u⟩
 .rename_i e x;obtain⟨cs,hcs,h⟩:=Ai.1 h;injection h with h1 h2;subst h1;injection h2 with h2;subst h2
  have hc:=aDs hcs (ov x (by simp[AJ]));refine⟨.pointer (Aa ⟨w.heap.size,0,Aj⟩),.cells (a.eval x).cells e,w.alloc (.cells (a.eval x).cells e),?_,.alloc _ _,λF' w' ι' hs hι hb=>⟨aPt (hc.step hs),.ptr _ _ _ hι⟩⟩;simp only[execOp,Instr.box,aB,newVar,newRow,aBu,AR,aX,World.alloc_eq]
 .rename_i t len ps;obtain⟨e,he,h⟩:=Af.1 h;obtain⟨sz,hsz,h⟩:=Af.1 h;obtain⟨z,hz,h⟩:=Af.1 h;split at h
  .rename_i hc;obtain⟨h1,h2,h3,h4⟩:=hc;obtain⟨cs,hcs,h⟩:=Ai.1 h;injection h with e1 e2;subst e1;injection e2 with e2;subst e2
   have hp:=aVg (F:=F) (w:=w) (ι:=ι) (Γ:=Γ) (a:=a) (ps:=ps) λp hp=>ov p.2 (by simp[AJ];exact⟨p.1,hp⟩)
   obtain⟨us,hus,hcv⟩:=aJr _ _ _ _ _ _ (aUe (F:=F) (w:=w) (ι:=ι) (n:=len) h1 h2 h4) hp.1 hp.2 hcs;have hsize:us.size=len*sz:=by
    have hfl:∀(parts:Ad (Ae×AV)) (cells out:Ad AV) (pl:Ae->Aq (Ae×Ae)),mQ pl cells parts=Aa out->out.length=cells.length:=by
     intro parts;induction parts with
     |nil=>intro cells out pl h;simp only[mQ,AH]at h;rw[h]
     | cons p parts ih =>
      intro cells out pl h;obtain⟨i,x⟩:=p;simp only[mQ]at h;split at h
      .split at h
       .rename_i hx;rw[ih _ _ _ h,iX hx.2]
       .cases h
      .cases h
    have:=hfl _ _ _ _ hcs;rw[<-hcv.1,this,vV];simp[h1]
   refine⟨.slice (Aa ⟨w.heap.size,0,Aj⟩) len len,.cells us e,w.alloc (.cells us e),?_,.alloc _ _,λF' w' ι' hs hι hb=>⟨aPt (hcv.step hs),?_⟩⟩
   .have hf:Instr.fill (λi=>Aa (i*sz,sz)) ((GV (len*sz)).map (z.cells[·%z.cells.size]!)) (ps.map λp=>(p.1,a.eval p.2)).toList=Aa us:=hus;have hbig:¬(len*sz>2^24):=by omega
    by_cases h0:len*sz=0
    .simp only[h0,GU,Array.map_empty]at hf;simp only[execOp,Instr.buildSlice,aB,aE (eP he),AR,run_sizeOf w hsz,h0,CN,aX,GU,Array.map_empty];rw[Ap (by omega)];simp only[aB,aX,AR,hf];simp[newRow]
    .simp only[execOp,Instr.buildSlice,aB,aE (eP he),AR,run_sizeOf w hsz];rw[Ap hbig,Ap h0];simp only[aB,aX,AR,gF w hz,hf];simp[newRow]
   .have:=V.own (F:=F') (w:=w') (ι:=ι') n 0 len sz w.heap.size len us e hι hb (by rw[hsize];simp) (AM _) (by
     have hx:len*1<=len*sz:=Nat.mul_le_mul_left _ (by omega);simp only[maxLen];omega)
    simpa using this
  .cases h
 .rename_i t l c;obtain⟨e,he,h⟩:=Af.1 h;obtain⟨sz,hsz,h⟩:=Af.1 h;obtain⟨z,hz,h⟩:=Af.1 h;obtain⟨y,hy,h⟩:=Af.1 h;obtain⟨x,hx,h⟩:=Af.1 h;obtain⟨b,hb',h⟩:=Af.1 h;split at h
  .rename_i hc;obtain⟨h1,h2,h3,h4,h5,h6,h7⟩:=hc;injection h with h;injection h with e1 e2;subst e1;injection e2 with e2;subst e2
   obtain⟨kl,hl⟩:=iN hx (ov l (by simp[AJ]));obtain⟨kc,hcc⟩:=iN hb' (ov c (by simp[AJ]));obtain⟨i,hi,rfl⟩:=Ai.1 hsz;have hz':i.zero=Aa z:=by obtain⟨j,hj,hjz⟩:=Af.1 hz;rw[hi]at hj;injection hj with hj;subst hj;exact hjz
   have hy':i.bytes=y:=by obtain⟨j,hj,hjz⟩:=Ai.1 hy;rw[hi]at hj;injection hj with hj;subst hj;exact hjz
   have hr:=bFg (P:=P) w t e i z (eP he) hi hz' kl kc x b h4 h5 (by rw[hy'];exact h6) h7;refine⟨.slice (Aa ⟨w.heap.size,0,Aj⟩) x.toNat b.toNat,_,_,?_,.alloc w (.cells (madeCells z.cells (b.toNat*i.size)) e),λF' w' ι' hs hι hb=>⟨?_,?_⟩⟩
   .simp only[execOp,aB,hl,hcc,hr];rfl
   .obtain⟨q1,q2⟩:=aXq (F:=F') (w:=w') (ι:=ι') (z:=z.cells) (n:=x.toNat) (m:=b.toNat) h1 h2 h3 (by omega);exact .cells _ _ _ q1 λk c hk=>let ⟨u,u1,u2,_⟩:=q2 k c hk;⟨u,u1,u2⟩
   .have:=V.own (F:=F') (w:=w') (ι:=ι') n 0 x.toNat i.size w.heap.size b.toNat _ e hι hb (by rw[size_madeCells];simp) (by omega) (by simp only[maxLen];omega);simpa using this
  .cases h
 .split at h
  .obtain⟨_,h⟩:=cC h;cases h
  .split at h
   .split at h
    .obtain⟨_,h⟩:=cC h;cases h
    .obtain⟨_,h⟩:=cC h;cases h
    .cases h
   .cases h
 .rename_i t r;obtain⟨p,hp,h⟩:=Af.1 h;obtain⟨k,_,h⟩:=Af.1 h;obtain⟨i,hi,h⟩:=Ai.1 h;injection h with e1 e2;subst e1;injection e2 with e2;subst e2
  have hu:P.underlying t=Aa (.map p.1 p.2):=by
   unfold tmp at hp;split at hp
   .injection hp with hp;subst hp;assumption
   .cases hp
  refine⟨.map (Aa w.heap.size),.map #[] 0,w.alloc (.map #[] 0),?_,.alloc _ _,λF' w' ι' hs hι hb=>⟨.map _ _ _ _ rfl (MapKept.stamped_empty 0) λj x h=>by simp at h,.mp _ _ hι⟩⟩;cases r with
  |none=>simp[execOp,Instr.makeMap]
  | some x =>
   obtain⟨kk,hx⟩:=iN hi (ov x (by simp[AJ]));simp[execOp,hx,Instr.makeMap,aE hu,asInt,asIntOf]
 .rename_i t x;obtain⟨p,hp,h⟩:=Af.1 h;split at h
  case h_2=>cases h
  rename_i k ks ds hx;injection h with h;injection h with e1 e2;subst e1;injection e2 with e2;subst e2
  have hu:P.underlying t=Aa (.map p.1 p.2):=by
   unfold tmp at hp;split at hp
   .injection hp with hp;subst hp;assumption
   .cases hp
  have hv:=ov x (by simp[AJ]);rw[hx]at hv;generalize hxe:a.eval x=u at hv;cases hv with|d _ _ hv=>cases hv with|mp _ _ _ b ents clock hF hb hst hl hl' hk hds =>
  refine⟨.pointer (Aa ⟨w.heap.size,0,Aj⟩),.mapIter (Aa b) clock #[] clock,w.alloc (.mapIter (Aa b) clock #[] clock),?_,.alloc _ _,λF' w' ι' hs hι hb'=>⟨?_,.ptr _ _ _ hι⟩⟩
  .simp[execOp,hxe,aEt w t p.1 p.2 b ents clock hu hb]
  .have hst':=(MapKept.stamped_iff ents clock).1 hst;have hlf:leftOf ents #[]=ents:=by unfold leftOf;exact Array.filter_eq_self.2 λx _=>by simp
   refine .iter k Aj _ b clock clock clock #[] ents (hs.F_le _ hF) ((hs.blk _ hF).trans hb) hst'.1 ⟨AM _,AM _⟩ hst'.2.1 (by rw[hlf];simp;omega) (λj x hj=>?_) (λx h=>by cases h);obtain⟨h1,h2⟩:=FF.1 hj;obtain⟨en,h3,h4⟩:=hk j _ h1;exact⟨en,by rw[hlf];exact h3,h4,(hds j _ en h2 h3).step hs.F_le hs.blk⟩
 .cases h
end
def mI(P:As)(H:Hp)(t:AF):AV->Aq AV
 | .ptr id off=>(aBh P t).bind λag=>match H id with
  |some (.cells _ cs)=>if ag then(tsz P t).bind λsz=>if off+sz<=cs.length then Aa (.ag ((cs.drop off).take sz))else Aj else cs[off]?
  |_=>Aj
 |.fp cs=>(aBh P t).bind λag=>if ag then(tsz P t).bind λsz=>if sz<=cs.length then Aa (.ag ((cs.take sz).map .d))else Aj else(cs[0]?).map .d
 |_=>Aj
def aBl(H:Hp)(sz:Ae):AV->Aq (Ae×Ad AV)
 |.nil=>Aa (0,[])
 | .own id off len sz'=>match H id with
  |some (.cells _ cs)=>if sz'=sz/\(off+len)*sz<=cs.length/\((cs.drop (off*sz)).take (len*sz)).all one=Ak then Aa (len,(cs.drop (off*sz)).take (len*sz))else Aj
  |_=>Aj
 |.d (.sl els)|.fd els=>if fT sz els=Ak/\(els.flatten.map AV.d).all one=Ak then Aa (els.length,els.flatten.map .d)else Aj
 |_=>Aj
section
variable {P:As} {F:Ae->Prop} {w:Ag} {ι:Ae->Aq Ae} {G:Ctx} {C:Ae->Prop} {H K:Hp}
def HR.cells(hR:HR G F w ι C K)(hHK:∀id o,H id=Aa o->K id=Aa o){id b:Ae}(hι:ι id=Aa b){e:AF}{cs:Ad AV}(hH:H id=Aa (.cells e cs)) :
 ∃cur,w.heap[b]? = Aa (.cells cur e (0,0))/\cs.length<=cur.size/\∀(k:Ae) c,cs[k]? = Aa c->∃u,cur[k]? = Aa u/\V F w ι c u:=by
 obtain⟨ob,h2,h3⟩:=hR.obj id b _ hι (hHK _ _ hH)
 cases h3 with|cells _ _ cur hl h=>exact⟨cur,h2,hl,h⟩
def qH{t:AF}{sz:Ae}{a:Addr}(f:Ae->AE)(ht:aBh P t=Aa Ak)(hs:tsz P t=Aa sz)(h:∀j,j<sz->w.cell? (a.add j)=Aa (f j)) :
 aU P (loadVar t a) w=.ok (.agg ((AW sz).map f).toArray) w:=by
 simp only[loadVar,aB,lW w ht,AR,CN,run_sizeOf w hs,tO w a sz f h,aX]
def qG{t:AF}{a:Addr}{v:AE}(ht:aBh P t=Aa Az)(h:w.cell? a=Aa v):aU P (loadVar t a) w=.ok v w:=by simp only[loadVar,aB,lW w ht,AR];exact aFx h
def vU(hR:HR G F w ι C K)(hHK:∀id o,H id=Aa o->K id=Aa o){t:AF}{x r:AV}{v:AE}(h:mI P H t x=Aa r)(hv:V F w ι x v) :
 ∃u,aU P (E7 t v) w=.ok u w/\V F w ι r u:=by
 unfold mI at h
 split at h
 .rename_i id off
  obtain⟨ag,hag,h⟩:=Af.1 h
  cases hv with|ptr _ _ b hι =>
  split at h
  .rename_i e cs hH
   obtain⟨cur,hb,hl,hc⟩:=hR.cells hHK hι hH
   have hcell:∀j,w.cell? ((⟨b,off,Aj⟩:Addr).add j)=cur[off+j]? := λj=>by rw[fN];exact cell_of_row w b _ cur e (0,0) hb
   cases ag
   .simp only[Ch,DV]at h
    obtain⟨u,hu,hv⟩:=hc off r h
    refine⟨u,?_,hv⟩
    have h0:=hcell 0
    simp only[CU]at h0
    have:(⟨b,off,Aj⟩:Addr).add 0=⟨b,off,Aj⟩:=by simp[Addr.add]
    rw[this,hu]at h0
    simp only[E7,CH,aB,aX,AR,qG hag h0]
   .simp only[CN]at h
    obtain⟨sz,hsz,h⟩:=Af.1 h
    split at h
    .rename_i hfit
     injection h with h;subst h
     refine⟨.agg ((AW sz).map λj=>cur.getD (off+j) undef).toArray,?_,.ag _ _ ?_ λk c u hk hu=>?_⟩
     .simp only[E7,CH,aB,aX,AR]
      exact qH _ hag hsz λj hj=>by rw[hcell,Ar (by omega)];simp[show off+j<cur.size by omega]
     .simp;omega
     .rw[BM]at hk
      split at hk
      .rename_i hks
       rw[B0]at hk
       obtain⟨u',hu',hv⟩:=hc _ _ hk
       simp only[Cb,Ao,BZ hks,Bj,AH]at hu
       subst hu
       have hlt:=(Bm.1 hu').1
       rw[Ar hlt]at hu'
       injection hu' with hu'
       simpa[hlt,hu']using hv
      .cases hk
    .cases h
  .cases h
 .rename_i cs
  obtain⟨ag,hag,h⟩:=Af.1 h
  cases hv with|fp _ ad f hF hcell hel =>
  cases ag
  .simp only[Ch,DV]at h
   obtain⟨c,hc,rfl⟩:=Ai.1 h
   have hlt:0<cs.length:=(AA.1 hc).1
   refine⟨f 0,?_,.d _ _ (hel 0 c hc)⟩
   have h0:=hcell 0 hlt
   have:ad.add 0=ad:=by simp[Addr.add]
   rw[this]at h0
   simp only[E7,CH,aB,aX,AR,qG hag h0]
  .simp only[CN]at h
   obtain⟨sz,hsz,h⟩:=Af.1 h
   split at h
   .rename_i hfit
    injection h with h;subst h
    refine⟨.agg ((AW sz).map f).toArray,?_,.ag _ _ ?_ λk c u hk hu=>?_⟩
    .simp only[E7,CH,aB,aX,AR]
     exact qH _ hag hsz λj hj=>hcell j (by omega)
    .simp;omega
    .rw[Ao]at hk
     obtain⟨d,hd,rfl⟩:=Ai.1 hk
     rw[BM]at hd
     split at hd
     .rename_i hks
      simp only[Cb,Ao,BZ hks,Bj,AH]at hu
      subst hu
      exact .d _ _ (hel k d hd)
     .cases hd
   .cases h
 .cases h
def aQq(hR:HR G F w ι C K)(hHK:∀id o,H id=Aa o->K id=Aa o){sz m:Ae}{x:AV}{cs:Ad AV}{v:AE}(h:aBl H sz x=Aa (m,cs))(hv:V F w ι x v) :
 ∃ad c,∃news:Ad AE,v=.slice ad m c/\CV F w ι cs news.toArray/\cs.length=m*sz/\(∀a,ad=Aa a->∀j u,news[j]? = Aa u->w.cell? (a.add j)=Aa u)/\(ad=Aj->m=0):=by
 have data:∀(els:Ad (Ad D)) (ad:Aq Addr) (c:Ae),VD F w (.sl els) (.slice ad els.length c)->fT sz els=Ak->(els.flatten.map AV.d).all one=Ak ->
  ∃news:Ad AE,CV F w ι (els.flatten.map .d) news.toArray/\(els.flatten.map AV.d).length=els.length*sz/\(∀a,ad=Aa a->∀j u,news[j]? = Aa u->w.cell? (a.add j)=Aa u)/\(ad=Aj->els.length=0):=by
  intro els ad c hh hok hone
  have hall:=aEh hh (rE hok)
  have hlen:els.flatten.length=els.length*sz:=by
   clear hh hok hone;induction els with
   |nil=>simp
   | cons a l ih =>
    rw[Dq,BK,ih λcs hcs=>hall cs (AT _ hcs),hall a (AX ..),Av,C0,Fu,EF]
  cases hh with
  |sl0 ad c=>exact⟨[],⟨rfl,λk c u hc=>by simp at hc,λu hu=>by simp at hu⟩,by simp,λa _ j u hu=>by simp at hu,λ_=>rfl⟩
  | sl _ a n c sz' f hn hc hsz hF hcell hel =>
   have hes:els=[]\/sz'=sz:=by
    cases els with
    |nil=>exact .inl rfl
    |cons a l=>exact .inr (by rw[<-hsz a (AX ..),hall a (AX ..)])
   rcases hes with rfl|rfl
   .exact⟨[],⟨rfl,λk c u hc=>by simp at hc,λu hu=>by simp at hu⟩,by simp,λa _ j u hu=>by simp at hu,λ_=>rfl⟩
   .have hget:∀(l:Ad (Ad D)),(∀cs∈l,cs.length=sz')->∀(k:Ae) d,l.flatten[k]? = Aa d->∃cs,l[k/sz']? = Aa cs/\cs[k%sz']? = Aa d:=by
     intro l;induction l with
     |nil=>intro _ k d h;simp at h
     | cons a l ih =>
      intro hl k d h;have ha:a.length=sz':=hl a (AX ..);rw[Dq]at h;by_cases hk:k<sz'
      .rw[Bb (by omega)]at h;exact⟨a,by rw[Nat.div_eq_of_lt hk];rfl,by rw[Cr hk];exact h⟩
      .rw[AZ (by omega),ha]at h;obtain⟨cs,h1,h2⟩:=ih (λcs hcs=>hl cs (AT _ hcs)) _ _ h;by_cases hz:sz'=0
       .subst hz;simp only[Nat.div_zero]at h1 ⊢;rw[Nat.sub_zero]at h2;exact(by
         have:cs.length=0:=hl cs (AT _ (At h1));have:=(AA.1 h2).1;omega)
       .refine⟨cs,?_,by rw[Nat.mod_eq_sub_mod (by omega)];exact h2⟩;rw[Nat.div_eq_sub_div (by omega) (by omega),BT];exact h1
    refine⟨(AW (els.length*sz')).map f,aEp hone (by rw[BV,hlen];simp) (xA λk c u hk hu=>?_),by rw[BV];exact hlen,λa' ha j u hu=>?_,λh=>by cases h⟩
    .obtain⟨cs,h1,h2⟩:=hget els hsz k c hk
     have:=hel _ _ _ _ h1 h2
     have hlt:k<els.length*sz':=by rw[<-hlen];exact(AA.1 hk).1
     simp only[Cb,Ao,BZ hlt,Bj,AH]at hu
     subst hu
     rwa [Nat.mul_comm,Nat.div_add_mod]at this
    .injection ha with ha;subst ha
     have hlt:j<els.length*sz':=by have:=(AA.1 hu).1;simpa using this
     simp only[Ao,BZ hlt,Bj,AH]at hu
     subst hu
     exact hcell j (by omega)
 unfold aBl at h
 split at h
 .injection h with h;injection h with h1 h2;subst h1;subst h2
  cases hv
  exact⟨Aj,0,[],rfl,⟨rfl,λk c u hc=>by simp at hc,λu hu=>by simp at hu⟩,by simp,(λa ha=>by cases ha),λ_=>rfl⟩
 .rename_i id off len sz'
  cases hv with|own _ _ _ _ b cap cur' e' hι hb' hcap hl' hm' =>
  split at h
  .rename_i e cs' hH
   split at h
   .rename_i hc
    obtain⟨rfl,hfit,hone⟩:=hc
    injection h with h;injection h with h1 h2;subst h1;subst h2
    obtain⟨cur,hb,hl,hcc⟩:=hR.cells hHK hι hH
    rw[hb]at hb';injection hb' with hb';injection hb' with e1 e2;subst e1;subst e2
    have hfit':off*sz'+len*sz'<=cs'.length:=by rw[<-C0];exact hfit
    refine⟨_,_,(cur.toList.drop (off*sz')).take (len*sz'),rfl,aEp hone (by simp;omega) λk c u hk hu=>?_,by simp;omega,λa ha j u hu=>?_,λh=>by cases h⟩
    .rw[BM]at hk
     split at hk
     .rename_i hks
      rw[B0]at hk
      obtain⟨u',hu',hv⟩:=hcc _ _ hk
      simp only[Cb,BM,AB hks,B0,Bq]at hu
      rw[hu']at hu;injection hu with hu;subst hu;exact hv
     .cases hk
    .injection ha with ha;subst ha
     rw[BM]at hu
     split at hu
     .rw[B0,Bq]at hu
      rw[fN,cell_of_row w b _ cur e (0,0) hb];exact hu
     .cases hu
   .cases h
  .cases h
 .rename_i els
  split at h
  .rename_i hc
   injection h with h;injection h with h1 h2;subst h1;subst h2
   cases hv with|d _ _ hh =>
   obtain⟨ad,c,rfl,_⟩:=oR hh
   obtain⟨news,h1,h2,h3,h4⟩:=data els ad c hh hc.1 hc.2
   exact⟨ad,c,news,rfl,h1,h2,h3,h4⟩
  .cases h
 .rename_i els
  split at h
  .rename_i hc
   injection h with h;injection h with h1 h2;subst h1;subst h2
   obtain⟨ad,rfl,hh⟩:=oQ hv
   obtain⟨news,h1,h2,h3,h4⟩:=data els ad _ hh hc.1 hc.2
   exact⟨ad,_,news,rfl,h1,h2,h3,h4⟩
  .cases h
 .cases h
end
def aFi(P:As)(H:Hp)(t:AF)(s x:AV)(n:Ae):Aq (AV×Aq HO×Ad Ae) :=
 (tel P t).bind λe=>(tsz P e).bind λsz=>(tby P e).bind λbt=>(tz P e).bind λz=>(aBl H sz x).bind λp =>
  if z.cells.size=sz/\0<sz then
   match s with
   |.nil=>if p.1=0 then Aa (.nil,Aj,[])else if p.1*bt<=140737488355328/\p.1<=maxLen then Aa (.own n 0 p.1 sz,Aa (.cells e p.2),[])else Aj
   | .own id off len sz'=>match H id with
    | some (.cells e' cs)=>if off=0/\sz'=sz/\e'=e/\cs.length=len*sz/\(len+p.1)*bt<=140737488355328/\len+p.1<=maxLen then
      Aa (.own n 0 (len+p.1) sz,Aa (.cells e (cs++p.2)),[id])else Aj
    |_=>Aj
   | .fd els => if 0 < p.1 /\ fT sz els = Ak /\ (els.flatten.map AV.d).all one = Ak /\ (els.length + p.1)*bt <= 140737488355328 /\ els.length + p.1 <= maxLen then
      Aa (.own n 0 (els.length+p.1) sz,Aa (.cells e (els.flatten.map .d++p.2)),[])else if p.1=0 then Aa (.fd els,Aj,[])else Aj
   |_=>Aj
  else Aj
section
variable {P:As} {F:Ae->Prop} {w:Ag} {ι:Ae->Aq Ae} {G:Ctx} {C:Ae->Prop} {H K:Hp}
def HR.inplace(hR:HR G F w ι C K){id b n:Ae}{e:AF}{cs news:Ad AV}{cur cur':Aw AE}{w':Ag}(hC:¬C id)(hι:ι id=Aa b)(hn:ι n=Aj)
 (hK:K id=Aa (.cells e cs)) (hKn:K n=Aa (.cells e (cs++news))) (hb:w.heap[b]? = Aa (.cells cur e (0,0))) (hb':w'.heap[b]? = Aa (.cells cur' e (0,0)))
 (hs:cur'.size=cur.size) (hfit:cs.length+news.length<=cur'.size) (hold:∀k,k<cs.length->cur'[k]? = cur[k]?)
 (hnew:∀(j:Ae) c,news[j]? = Aa c->∃u,cur'[cs.length+j]? = Aa u/\V F w ι c u)
 (hsize:w'.heap.size=w.heap.size) (hoth:∀k,k≠b->w'.heap[k]? = w.heap[k]?) (hos:w'.os=w.os) (htp:w'.tape=w.tape) (hout:w'.output=w.output) :
 HR G F w' (upd ι n (Aa b)) (λi=>C i\/i=id) K/\Step F w ι F w' (upd ι n (Aa b)):=by
 have hnF:¬F b:=(hR.place id b hι).2.2 hC
 have hst:Step F w ι F w' (upd ι n (Aa b)):=by
  refine⟨λ_ h=>h,λk hk=>hoth k (λe=>hnF (e ▸ hk)),λi k hi=>by rw[upd_ne _ _ (λhe=>by rw[he,hn]at hi;cases hi)];exact hi,λi k c0 e0 hi hk=>?_⟩;by_cases hkb:k=b
  .subst hkb;rw[hb]at hk;injection hk with hk;injection hk with h1 h2;subst h1;subst h2
   exact⟨cur',hb',hs⟩
  .exact⟨c0,(hoth k hkb).trans hk,rfl⟩
 have split_ι:∀i k,upd ι n (Aa b) i=Aa k->(i=n/\k=b)\/(i≠n/\ι i=Aa k):=by
  intro i k hi;by_cases h:i=n
  .subst h;rw[upd_same]at hi;injection hi with hi;exact .inl ⟨rfl,hi.symm⟩
  .rw[upd_ne _ _ h]at hi;exact .inr ⟨h,hi⟩
 have shp:∀(k:Ae) (c0:Aw AE) (e0:AF),w.heap[k]? = Aa (DM c0 e0 (0,0))->∃c1:Aw AE,w'.heap[k]? = Aa (DM c1 e0 (0,0))/\c1.size=c0.size:=λk c0 e0 hk=>by
  by_cases hkb:k=b
  .subst hkb;rw[hb]at hk;injection hk with hk;injection hk with h1 h2;subst h1;subst h2
   exact⟨cur',hb',hs⟩
  .exact⟨c0,(hoth k hkb).trans hk,rfl⟩
 refine⟨⟨hR.kept.trans ⟨hos,htp,hout,by omega,λk hk hm=>hoth k λe=>?_,λk c0 e0 hk hc=>shp k c0 e0 hc⟩,λk hk=>by rw[hsize];exact hR.F_lt k hk,hR.F_ok,?_,?_,?_,?_⟩,hst⟩
 .subst e
  rcases(hR.place id k hι).1 with h|h
  .exact hm h
  .omega
 .intro i k hi
  rcases split_ι i k hi with ⟨rfl,rfl⟩|⟨_,hi⟩
  .obtain⟨h1,h2,_⟩:=hR.place id k hι
   exact⟨h1,by omega,λ_=>hnF⟩
  .obtain⟨h1,h2,h3⟩:=hR.place i k hi
   exact⟨h1,by omega,λhc=>h3 λx=>hc (.inl x)⟩
 .intro i k o hi ho
  rcases split_ι i k hi with ⟨rfl,rfl⟩|⟨_,_⟩
  .rw[hKn]at ho;injection ho with ho;subst ho
   refine⟨_,hb',.cells _ _ _ (by simp;omega) λj c hj=>?_⟩
   by_cases hjl:j<cs.length
   .rw[Bb hjl]at hj
    obtain⟨ob,h2,h3⟩:=hR.obj id k _ hι hK
    rw[hb]at h2;injection h2 with h2;subst h2
    cases h3 with|cells _ _ _ hl h =>
    obtain⟨u,hu,hv⟩:=h j c hj
    exact⟨u,(hold j hjl).trans hu,hv.step hst⟩
   .rw[AZ (by omega)]at hj
    obtain⟨u,hu,hv⟩:=hnew _ _ hj
    exact⟨u,by rw[<-hu];congr 1;omega,hv.step hst⟩
  .rename_i hi2
   obtain⟨ob,h2,h3⟩:=hR.obj i k o hi2 ho
   by_cases hkb:k=b
   .subst hkb
    rw[hb]at h2;injection h2 with h2;subst h2
    have hlen:=hR.len id i k _ _ hι hi2 hC hK ho
    cases h3 with|cells _ cs' _ hl h =>
    simp only[HO.len]at hlen
    refine⟨_,hb',.cells _ _ _ (by omega) λj c hj=>?_⟩
    obtain⟨u,hu,hv⟩:=h j c hj
    have:j<cs'.length:=(AA.1 hj).1
    exact⟨u,(hold j (by omega)).trans hu,hv.step hst⟩
   .exact⟨ob,(hoth k hkb).trans h2,h3.step hst⟩
 .intro i i' k hi hi' hc hc'
  rcases split_ι i k hi with ⟨h1,h2⟩|⟨h1,h2⟩<;>rcases split_ι i' k hi' with ⟨h1',h2'⟩|⟨h1',h2'⟩
  .rw[h1,h1']
  .subst h2;exact absurd (hR.inj i' id k h2' hι (λx=>hc' (.inl x)) hC) λx=>hc' (.inr x)
  .subst h2';exact absurd (hR.inj i id k h2 hι (λx=>hc (.inl x)) hC) λx=>hc (.inr x)
  .exact hR.inj i i' k h2 h2' (λx=>hc (.inl x)) λx=>hc' (.inl x)
 .intro i i' k o o' hi hi' hc ho ho'
  rcases split_ι i k hi with ⟨h1,h2⟩|⟨h1,h2⟩<;>rcases split_ι i' k hi' with ⟨h1',h2'⟩|⟨h1',h2'⟩
  .rw[h1]at ho;rw[h1',ho]at ho';injection ho' with h;subst h;exact AM _
  .subst h2
   rw[h1,hKn]at ho;injection ho with ho;subst ho
   have:=hR.len id i' k _ _ hι h2' hC hK ho'
   simp only[HO.len]at this ⊢
   simp;omega
  .subst h2';exact absurd (hR.inj i id k h2 hι (λx=>hc (.inl x)) hC) λx=>hc (.inr x)
  .exact hR.len i i' k o o' h2 h2' (λx=>hc (.inl x)) ho ho'
def lH{t e:AF}{sz:Ae}(ht:tel P t=Aa e)(hs:tsz P e=Aa sz)(ty:AF)(b:Aq Addr)(n cap c:Ae)(hc:n<=cap)(w:Ag) :
 aU P (Cm #[t,t] ty #[.slice b n cap,.slice Aj 0 c]) w=.ok (.slice b n cap) w:=by
 cases b<;>simp[Cm,aE (eP ht),run_sizeOf w hs,Er,hc,DS,storeCells]
def qI{t e:AF}{sz:Ae}(ht:tel P t=Aa e)(hs:tsz P e=Aa sz)(ty:AF)(a:Addr)(c:Ae)(w:Ag) :
 aU P (Cm #[t,t] ty #[.slice Aj 0 0,.slice (Aa a) 0 c]) w=.ok (.slice Aj 0 0) w:=by
 simp[Cm,aE (eP ht),run_sizeOf w hs,Er,DS,loadCells,loadCellsFrom]
def xN{t e:AF}{sz:Ae}(ht:tel P t=Aa e)(hs:tsz P e=Aa sz)(ty:AF)(b a:Addr)(n c:Ae)(w:Ag) :
 aU P (Cm #[t,t] ty #[.slice (Aa b) n n,.slice (Aa a) 0 c]) w=.ok (.slice (Aa b) n n) w:=by
 simp[Cm,aE (eP ht),run_sizeOf w hs,Er,DS,loadCells,loadCellsFrom,storeCells]
variable [M:Mch P] {Γ:Ae->AV} {n:Ae} {o:Bf}
omit M in
def bXe{e:AF}{sz bt:Ae}{z:AE}(h1:tsz P e=Aa sz)(h2:tby P e=Aa bt)(h3:tz P e=Aa z):∃i,P.info? e=Aa i/\i.zero=Aa z/\i.size=sz/\i.bytes=bt:=by
 obtain⟨i,hi,rfl⟩:=Ai.1 h1;obtain⟨j,hj,rfl⟩:=Ai.1 h2;obtain⟨k,hk,hz⟩:=Af.1 h3;rw[hi]at hj hk;injection hj with hj;injection hk with hk;subst hj;subst hk
 exact⟨i,hi,hz,rfl,rfl⟩
def aKt{s x:AN}{t:AF}{av:AV}{nb:Aq HO}{con:Ad Ae}(ho:o.op=.call { callee:=.builtin .append,args:=#[s,x],argTypes:=#[t,t] })
 (hHK:∀id ob,H id=Aa ob->K id=Aa ob) (h:aFi P H t (oev Γ s) (oev Γ x) n=Aa (av,nb,con)) (hK:∀ob,nb=Aa ob->K n=Aa ob) (hcon:∀id∈con,¬C id) :
 Y P G o Γ C K K av (λi=>nb.isSome=Ak/\i=n) (λi=>i∈con):=by
 intro F w ι a hok hR hop hnew next hnext
 have os:V F w ι (oev Γ s) (a.eval s):=cD λt e=>hop t (by rw[ho];simp[AJ,Bs,e])
 have ox:V F w ι (oev Γ x) (a.eval x):=cD λt e=>hop t (by rw[ho];simp[AJ,Bs,e])
 unfold aFi at h
 obtain⟨e,he,h⟩:=Af.1 h
 obtain⟨sz,hsz,h⟩:=Af.1 h
 obtain⟨bt,hbt,h⟩:=Af.1 h
 obtain⟨z,hz,h⟩:=Af.1 h
 obtain⟨⟨m,ncs⟩,hsrc,h⟩:=Af.1 h
 obtain⟨i,hi,hiz,his,hib⟩:=bXe hsz hbt hz
 obtain⟨ad,c,news,hxv,hcv,hncl,hcell,hnil⟩:=aQq hR hHK hsrc ox
 have hnl:news.length=m*i.size:=by have:=hcv.1;simp only[AG]at this;rw[his,<-hncl,this]
 have h1c:∀u∈news,u.oneCell'=true:=λu hu=>hcv.2.2 u (by simpa using hu)
 split at h
 case isFalse=>cases h
 rename_i hzs
 obtain⟨hzs,hpos⟩:=hzs
 -- what an operation that gives this value in this world does
 have fin:∀(u:AE) (w':Ag) (F':Ae->Prop) (ι':Ae->Aq Ae),aU P (Cm #[t,t] o.type #[a.eval s,a.eval x]) w=.ok u w'->HR G F' w' ι' (λj=>C j\/j∈con) K ->
  Step F w ι F' w' ι'->(∀id b,ι' id=Aa b->ι id=Aa b\/(nb.isSome=Ak/\id=n))->(∀id,(nb.isSome=Ak/\id=n)->∃b,ι' id=Aa b)->V F' w' ι' av u->wpX P o a w next:=by
  intro u w' F' ι' hr hR' hs' hd hd' hv
  unfold wpX
  simp only[execOp,ho,resolve,invoke,builtin,aB,aX,AR,Gi,BX,Ee,hr]
  exact hnext F' w' ι' u hR' hs' hd hd' hv
 -- a new block
 have grown:∀(vals:Ad AE) (zs:Aw AE) (cells:Ad AV) (cap l:Ae),nb=Aa (.cells e cells)->av=.own n 0 l sz->(cells.length=vals.length/\∀(k:Ae) c,cells[k]? = Aa c->∃u,vals[k]? = Aa u/\V F w ι c u)->l<=cap->cap<=maxLen->cap*sz<=(vals.toArray++zs).size ->
  aU P (Cm #[t,t] o.type #[a.eval s,a.eval x]) w=.ok (.slice (Aa ⟨w.heap.size,0,Aj⟩) l cap) (w.drew.alloc (.cells (vals.toArray++zs) e))->wpX P o a w next:=by
  intro vals zs cells cap l hnb hav hcvv hlc hcm hcs hrun
  subst hav
  have h0:ι n=none:=hnew n ⟨by rw[hnb];rfl,rfl⟩
  have hw:=jW.drew w (.cells (vals.toArray++zs) e)
  have hs:=uA hR n h0 hw
  have hcr:CR F (w.drew.alloc (.cells (vals.toArray++zs) e)) (upd ι n (Aa w.heap.size)) (.cells e cells) (.cells (vals.toArray++zs) e (0,0)):=by
   refine .cells _ _ _ (by have:=hcvv.1;simp at this ⊢;omega) λk c hk=>?_
   obtain⟨u,hu,hv⟩:=hcvv.2 k c hk;have hlt:=(AA.1 hu).1;exact⟨u,by rw[B5 (by simpa using hlt)];simpa using hu,hv.step hs⟩
  refine fin _ _ F _ hrun ((hR.alloc n h0 hw _ (hK _ hnb) hcr).weakC λ_ h=>.inl h) hs (λid b e=>?_) (λid h=>⟨w.heap.size,by rw[h.2,upd_same]⟩) ?_
  .by_cases hid:id=n
   .exact .inr ⟨by rw[hnb];rfl,hid⟩
   .rw[upd_ne _ _ hid]at e;exact .inl e
  .have:=V.own (F:=F) (w:=w.drew.alloc (.cells (vals.toArray++zs) e)) (ι:=upd ι n (Aa w.heap.size)) n 0 l sz w.heap.size cap _ e (upd_same _ _ _) hw.new (by rw[AP];exact hcs) hlc hcm
   simpa using this
 have cvw:CV F w ι ncs news.toArray->(ncs.length=news.length/\∀(k:Ae) c,ncs[k]? = Aa c->∃u,news[k]? = Aa u/\V F w ι c u):=λhc =>
  ⟨by simpa using hc.1,λk c hk=>let ⟨u,hu,hv⟩:=hc.get hk;⟨u,by simpa using hu,hv⟩⟩
 split at h
 .-- nil
  rename_i hsn
  rw[hsn]at os
  generalize hsv:a.eval s=sv at os fin grown
  cases os
  simp only at h
  by_cases hm:m=0
  .rw[AB hm]at h
   injection h with h;injection h with h1 h2;injection h2 with h2 h3;subst h1;subst h2;subst h3;subst hm
   have hrun:aU P (Cm #[t,t] o.type #[.slice Aj 0 0,a.eval x]) w=.ok (.slice Aj 0 0) w:=by
    rw[hxv];cases ad with
    |none=>exact lH he hsz _ _ _ _ _ (AM _) _
    |some ad=>exact qI he hsz _ _ _ _
   exact fin _ _ F ι hrun (hR.congrC λid=>⟨λh=>.inl h,λh=>h.elim (λx=>x) (λh=>by cases h)⟩) (.refl _ _ _) (λ_ _ h=>.inl h) (λ_ h=>by simp at h) .nil
  .rw[Ap hm]at h
   split at h
   .rename_i hb
    injection h with h;injection h with h1 h2;injection h2 with h2 h3;subst h1;subst h2;subst h3
    cases ad with
    |none=>exact absurd (hnil rfl) hm
    | some ad =>
     have hr:=rB (P:=P) w t o.type e i z (eP he) hi hiz ad m c news hnl (hcell _ rfl) (by omega) (by have:=hb.2;simp only[maxLen]at this;omega) (by rw[hib];omega)
     rw[<-hxv]at hr
     refine grown news _ ncs _ m rfl rfl (cvw hcv) (grownCap_ge _ _ _ _) (grownCap_le_maxLen _ _ _ _ hb.2) ?_ hr
     have h1:=grownCap_ge w m 0 e
     simp only[Fo,AG,size_zeroCells,hzs,hnl,his,<-C0]
     rw[show m+(grownCap w m 0 e-m)=grownCap w m 0 e from by omega]
     exact AM _
   .cases h
 .-- own
  rename_i id off len sz' hsn
  rw[hsn]at os
  generalize hsv:a.eval s=sv at os fin grown
  cases os with|own _ _ _ _ b cap cur0 e0 hι hb0 hcap hlc hcm =>
  split at h
  .rename_i e' cs hH
   split at h
   .rename_i hc
    obtain⟨rfl,rfl,rfl,hcl,hby,hml⟩:=hc
    injection h with h;injection h with h1 h2;injection h2 with h2 h3;subst h1;subst h2;subst h3
    obtain⟨cur,hb,hl,hcc⟩:=hR.cells hHK hι hH
    rw[hb]at hb0;injection hb0 with hb0;injection hb0 with e1 e2;subst e1;subst e2
    rw[AP]at hcap
    rw[Ef]at fin grown
    have hCid:¬C id:=hcon id (by simp)
    have h0:ι n=none:=hnew n ⟨rfl,rfl⟩
    have inpl:∀(cur':Aw AE) (w':Ag),aU P (Cm #[t,t] o.type #[.slice (Aa ⟨b,0,Aj⟩) len cap,a.eval x]) w=.ok (.slice (Aa ⟨b,0,Aj⟩) (len+m) cap) w' ->
     len+m<=cap->w'.heap[b]? = Aa (.cells cur' e' (0,0))->cur'.size=cur.size->(∀k,k<cs.length->cur'[k]? = cur[k]?)->(∀(j:Ae) c,ncs[j]? = Aa c->∃u,cur'[cs.length+j]? = Aa u/\V F w ι c u) ->
     w'.heap.size=w.heap.size->(∀k,k≠b->w'.heap[k]? = w.heap[k]?)->w'.os=w.os->w'.tape=w.tape->w'.output=w.output->wpX P o a w next:=by
     intro cur' w' hrun hroom hb' hs' hold hnw hsize hoth hos htp hout
     have hfit:cs.length+ncs.length<=cur'.size:=by rw[hcl,hncl,<-C0,hs'];exact Bg (Ck _ hroom) hcap
     obtain⟨hR',hst⟩:=hR.inplace hCid hι h0 (hHK _ _ hH) (hK _ rfl) hb hb' hs' hfit hold hnw hsize hoth hos htp hout
     refine fin _ _ F _ hrun (hR'.congrC λj=>by simp) hst (λid b e=>?_) (λid h=>⟨b,by rw[h.2,upd_same]⟩) ?_
     .by_cases hid:id=n
      .exact .inr ⟨rfl,hid⟩
      .rw[upd_ne _ _ hid]at e;exact .inl e
     .have:=V.own (F:=F) (w:=w') (ι:=upd ι n (Aa b)) n 0 (len+m) sz' b cap cur' e' (upd_same _ _ _) hb' (by rw[AP,hs'];exact hcap) hroom hcm
      simpa using this
    cases ad with
    | none =>
     have hm0:=hnil rfl
     subst hm0
     have hn0:ncs=[]:=BI (by rw[hncl,Ef])
     subst hn0
     refine inpl cur w ?_ (by omega) hb rfl (λ_ _=>rfl) (λj c h=>by simp at h) rfl (λ_ _=>rfl) rfl rfl rfl
     rw[hxv]
     exact lH he hsz _ _ _ _ _ hlc _
    | some ad =>
     by_cases hroom:len+m<=cap
     .have hfit:len*i.size+news.length<=cur.size:=by rw[hnl,<-C0,his];exact Bg (Ck _ hroom) hcap
      have hr:=zR (P:=P) w t o.type e' i (eP he) hi b len cap cur hb ad m c news hnl (hcell _ rfl) h1c hroom hfit
      rw[<-hxv]at hr
      have hg:=setRow_heap w b cur (cur.toList.take (len*i.size)++news++cur.toList.drop (len*i.size+news.length)).toArray e' (0,0) hb
      have hcl':cs.length=len*i.size:=by rw[his];exact hcl
      have hmin:(cur.toList.take (len*i.size)).length=len*i.size:=by rw[Bt,BP];omega
      refine inpl _ _ hr hroom hg ?_ (λk hk=>?_) (λj cc hj=>?_) (by simp) (λk hk=>setRow_other w b k _ hk) rfl rfl rfl
      .simp only[AG,BK,Bt,Et,BP];omega
      .rw[Cb,Db,Bb (by omega),BM,AB (by omega),Bq]
      .obtain⟨u,hu,hv⟩:=hcv.get hj
       refine⟨u,?_,hv⟩
       have hjl:j<news.length:=by have:=(Bm.1 hu).1;simpa using this
       rw[Cb,Db,AZ (by omega),hmin,hcl',
        show len*i.size+j-len*i.size=j from by omega,Bb hjl]
       simpa using hu
     .have holds:∀j u,(cur.toList.take (len*i.size))[j]? = Aa u->w.cell? ((⟨b,0,Aj⟩:Addr).add j)=Aa u:=by
       intro j u hu;rw[BM]at hu;split at hu
       .rw[fN,AP,cell_of_row w b _ cur e' (0,0) hb];simpa using hu
       .cases hu
      have hcl':cs.length=len*i.size:=by rw[his];exact hcl
      have hr:=qJ (P:=P) w t o.type e' i z (eP he) hi hiz ⟨b,0,Aj⟩ len cap (cur.toList.take (len*i.size)) (by simp;omega) holds ad m c news hnl (hcell _ rfl) (by omega)
       (by simp only[maxLen]at hml;omega) (growslice_fits (by omega) (by rw[hib];exact hby))
      rw[<-hxv,show(cur.toList.take (len*i.size)).toArray++news.toArray=(cur.toList.take (len*i.size)++news).toArray from by simp]at hr
      have hvals:(cs++ncs).length=((cur.toList.take (len*i.size))++news).length/\∀(k:Ae) c,(cs++ncs)[k]? = Aa c->∃u,((cur.toList.take (len*i.size))++news)[k]? = Aa u/\V F w ι c u:=by
       refine⟨?_,λk cc hk=>?_⟩
       .have:=hcv.1;simp at this ⊢;omega
       .by_cases hkl:k<cs.length
        .rw[Bb hkl]at hk;obtain⟨u',hu',hv⟩:=hcc k cc hk;exact⟨u',by rw[Bb (by simp;omega),BM,AB (by omega),Bq];exact hu',hv⟩
        .rw[AZ (by omega)]at hk;obtain⟨u,hu,hv⟩:=hcv.get hk;exact⟨u,by rw[AZ (by simp;omega),show(cur.toList.take (len*i.size)).length=cs.length from by rw[Bt,BP];omega];simpa using hu,hv⟩
      refine grown _ (DH z.cells (grownCap w (len+m) cap e'-(len+m))) (cs++ncs) _ (len+m) rfl rfl hvals (grownCap_ge w (len+m) cap e') (grownCap_le_maxLen w (len+m) cap e' hml) ?_ hr
      have h1:=grownCap_ge w (len+m) cap e'
      simp only[Fo,AG,size_zeroCells,hzs,BK,Bt,BP,hnl,his]
      have h2:len*sz'<=cur.size:=by omega
      rw[Dv h2,<-C0,<-C0,show len+m+(grownCap w (len+m) cap e'-(len+m))=grownCap w (len+m) cap e' from by omega]
      exact AM _
   .cases h
  .cases h
 .-- a full slice
  rename_i els hsn
  rw[hsn]at os
  split at h
  .rename_i hc
   obtain⟨hm,hok,hone,hby,hml⟩:=hc
   injection h with h;injection h with h1 h2;injection h2 with h2 h3;subst h1;subst h2;subst h3
   obtain⟨sad,hse,hh⟩:=oQ os
   have hs2:aBl H sz (.fd els)=Aa (els.length,els.flatten.map .d):=by simp only[aBl];rw[AB ⟨hok,hone⟩]
   obtain⟨ad2,c2,olds,hov,hocv,hocl,hocell,honil⟩:=aQq hR hHK hs2 os
   rw[hse]at hov;injection hov with e1 e2 e3;subst e1;subst e3
   have hol:olds.length=els.length*i.size:=by have:=hocv.1;simp only[AG]at this;rw[his,<-hocl,this]
   cases ad with
   |none=>exact absurd (hnil rfl) (by omega)
   | some ad =>
    cases sad with
    | none =>
     have hl0:=honil rfl
     have hels:els=[]:=BI hl0
     subst hels
     have hr:=rB (P:=P) w t o.type e i z (eP he) hi hiz ad m c news hnl (hcell _ rfl) (by omega) (by simp only[maxLen]at hml;simp at hml;omega) (by rw[hib];simp at hby;omega)
     rw[<-hxv]at hr
     simp only[AK]at hse
     rw[<-hse]at hr
     simp only[AK,AP]at hml
     refine grown news _ ([]++ncs) _ (0+m) (by simp) (by simp) (cvw hcv) (by rw[AP];exact grownCap_ge w m 0 e) (grownCap_le_maxLen _ _ _ _ hml) ?_ (by rw[AP];exact hr)
     have h1:=grownCap_ge w m 0 e
     simp only[Fo,AG,size_zeroCells,hzs,hnl,his,<-C0]
     rw[show m+(grownCap w m 0 e-m)=grownCap w m 0 e from by omega]
     exact AM _
    | some sad =>
     have hr:=qJ (P:=P) w t o.type e i z (eP he) hi hiz sad els.length els.length olds hol (hocell _ rfl) ad m c news hnl (hcell _ rfl) (by omega)
      (by simp only[maxLen]at hml;omega) (growslice_fits (by omega) (by rw[hib];exact hby))
     rw[<-hxv,<-hse,show olds.toArray++news.toArray=(olds++news).toArray from by simp]at hr
     have hvals:(els.flatten.map AV.d++ncs).length=(olds++news).length/\∀(k:Ae) c,(els.flatten.map AV.d++ncs)[k]? = Aa c->∃u,(olds++news)[k]? = Aa u/\V F w ι c u:=by
      have ho1:=hocv.1;simp only[AG]at ho1;refine⟨?_,λk cc hk=>?_⟩
      .have:=hcv.1;simp only[AG,BK]at this ⊢;omega
      .by_cases hkl:k<(els.flatten.map AV.d).length
       .rw[Bb hkl]at hk;obtain⟨u,hu,hv⟩:=hocv.get hk;exact⟨u,by rw[Bb (by omega)];simpa using hu,hv⟩
       .rw[AZ (by omega)]at hk;obtain⟨u,hu,hv⟩:=hcv.get hk;exact⟨u,by rw[AZ (by omega),<-ho1];simpa using hu,hv⟩
     refine grown _ (DH z.cells (grownCap w (els.length+m) els.length e-(els.length+m))) (els.flatten.map .d++ncs) _ (els.length+m) rfl rfl hvals (grownCap_ge w (els.length+m) els.length e) (grownCap_le_maxLen w (els.length+m) els.length e hml) ?_ hr
     have h1:=grownCap_ge w (els.length+m) els.length e
     simp only[Fo,AG,size_zeroCells,hzs,BK,hol,hnl,his]
     rw[<-C0,<-C0,show els.length+m+(grownCap w (els.length+m) els.length e-(els.length+m))=grownCap w (els.length+m) els.length e from by omega]
     exact AM _
  .split at h
   .rename_i hm0
    injection h with h;injection h with h1 h2;injection h2 with h2 h3;subst h1;subst h2;subst h3
    replace hm0:m=0:=hm0
    subst hm0
    obtain⟨sad,hse,hh⟩:=oQ os
    have hrun:aU P (Cm #[t,t] o.type #[a.eval s,a.eval x]) w=.ok (a.eval s) w:=by
     rw[hxv,hse];cases ad with
     |none=>exact lH he hsz _ _ _ _ _ (AM _) _
     | some ad =>
      cases sad with
      |some sad=>exact xN he hsz _ _ _ _ _ _
      | none =>
       have hl:els.length=0:=by
        have key:∀(v:AE) (k:Ae),VD F w (.sl els) v->v=.slice Aj k k->els.length=0:=by
         intro v k h e;cases h with
         |sl0=>rfl
         |sl=>cases e
        exact key _ _ hh rfl
       rw[hl];exact qI he hsz _ _ _ _
    exact fin _ _ F ι hrun (hR.congrC λid=>⟨λh=>.inl h,λh=>h.elim (λx=>x) (λh=>by cases h)⟩) (.refl _ _ _) (λ_ _ h=>.inl h) (λ_ h=>by simp at h) os
   .cases h
 .cases h
end
open RowKit (Below)
def chunk(sz len:Ae)(l:Ad D):Ad (Ad D):=(AW len).map λi=>(l.drop (i*sz)).take sz
def frz(H:Hp):Ae->AV->Aq D
 |0,_=>Aj
 | n+1,x=>match x with
  |.d x=>Aa x
  |.nil=>Aa (.sl [])
  |.fd els=>Aa (.sl els)
  | .own id off len sz=>match H id with
   |some (.cells _ cs)=>if(off+len)*sz<=cs.length/\0<sz then(((cs.drop (off*sz)).take (len*sz)).mapM (frz H n)).map λl=>.sl (chunk sz len l)else Aj
   |_=>Aj
  |.fp cs=>Aa (.pt cs)
  | .ptr id off=>match H id with
   |some (.cells _ cs)=>if off<=cs.length then((cs.drop off).mapM (frz H n)).map .pt else Aj
   |_=>Aj
  |.fn f cs=>(cs.mapM (frz H n)).map (.fn f)
  |.ag cs=>(cs.mapM (frz H n)).map .ag
  |.tp cs=>(cs.mapM (frz H n)).map .tp
  | .mp id=>match H id with
   |some (.map k es)=>((es.map (·.2)).mapM (frz H n)).map (.mp k (es.map (·.1)))
   |_=>Aj
  |_=>Aj
def cK(H:Hp)(l:Ad AV):Aq (Ad D):=l.mapM (frz H 8)
def gY{α β:Type}(f:α->Aq β):∀(l:Ad α) (r:Ad β),l.mapM f=Aa r->r.length=l.length/\∀(k:Ae) d,r[k]? = Aa d->∃c,l[k]? = Aa c/\f c=Aa d
 |[],r,h=>by simp at h;subst h;exact⟨rfl,λk d h=>by simp at h⟩
 | x::l,r,h=>by
  simp only[CG,Dk,Af,D9,AH]at h;obtain⟨y,hy,r',hr',rfl⟩:=h;obtain⟨h1,h2⟩:=gY f l r' hr';refine⟨by simp[h1],λk d hk=>?_⟩;rcases k with _|k
  .simp at hk;subst hk;exact⟨x,rfl,hy⟩
  .exact h2 k d (by simpa using hk)
def vis(H:Hp):Ae->AV->Ad Ae
 |0,_=>[]
 | n+1,x=>match x with
  | .own id off len sz=>match H id with
   |some (.cells _ cs)=>id::((cs.drop (off*sz)).take (len*sz)).flatMap (vis H n)
   |_=>[]
  | .ptr id off=>match H id with
   |some (.cells _ cs)=>id::(cs.drop off).flatMap (vis H n)
   |_=>[]
  |.fn _ cs=>cs.flatMap (vis H n)
  |.ag cs=>cs.flatMap (vis H n)
  |.tp cs=>cs.flatMap (vis H n)
  | .mp id=>match H id with
   |some (.map _ es)=>id::(es.map (·.2)).flatMap (vis H n)
   |_=>[]
  |_=>[]
def bW(H:Hp)(l:Ad AV):Ad Ae:=l.flatMap (vis H 8)
def reach(F:Ae->Prop)(ι:Ae->Aq Ae)(l:Ad Ae):Ae->Prop:=λb=>F b\/∃id∈l,ι id=Aa b
section
variable {P:As} {F:Ae->Prop} {w:Ag} {ι:Ae->Aq Ae} {G:Ctx} {C:Ae->Prop} {H K:Hp}
def kK{l l':Ad Ae}(h:∀id∈l,id∈l'):∀b,reach F ι l b->reach F ι l' b:=by
 rintro b (hb|⟨id,hi,hb⟩)
 .exact .inl hb
 .exact .inr ⟨id,h id hi,hb⟩
def wC(hR:HR G F w ι C K)(hHK:∀id o,H id=Aa o->K id=Aa o):∀(n:Ae) (x:AV) (v:AE) (d:D),frz H n x=Aa d->V F w ι x v ->
 VD (reach F ι (vis H n x)) w d v/\∀id∈vis H n x,∃b,ι id=Aa b
 |0,x,v,d,h,_=>by simp[frz]at h
 | n+1,x,v,d,h,hv=>by
  have ih:=wC hR hHK n;unfold frz at h;have cellsV:∀(cs:Ad AV) (l:Ad D) (vs:Aw AE),cs.length=vs.size->cs.mapM (frz H n)=Aa l->(∀(k:Ae) c u,cs[k]? = Aa c->vs[k]? = Aa u->V F w ι c u) ->
   (∀(k:Ae) d u,l[k]? = Aa d->vs[k]? = Aa u->VD (reach F ι (cs.flatMap (vis H n))) w d u)/\∀id∈cs.flatMap (vis H n),∃b,ι id=Aa b:=by
   intro cs l vs hlen hm hv
   obtain⟨h1,h2⟩:=gY _ _ _ hm
   refine⟨λk d u hk hu=>?_,λid hid=>?_⟩
   .obtain⟨c,hc,hd⟩:=h2 k d hk
    exact(ih c u d hd (hv k c u hc hu)).1.mono (kK λid hid=>B4.2 ⟨c,At hc,hid⟩)
   .obtain⟨c,hc,hid⟩:=B4.1 hid
    obtain⟨k,hk,rfl⟩:=BE.1 hc
    have hk':k<vs.size:=by omega
    have hk2:k<l.length:=by omega
    obtain⟨c',hc',hd⟩:=h2 k _ (Ac hk2)
    rw[Ac hk]at hc';injection hc' with hc';subst hc'
    exact(ih _ _ _ hd (hv k _ _ (Ac hk) (Ar hk'))).2 id hid
  split at h
  .injection h with h;subst h
   cases hv with|d _ _ hh=>exact⟨hh.mono λb hb=>.inl hb,λid hid=>by simp[vis]at hid⟩
  .injection h with h;subst h
   cases hv;exact⟨.sl0 _ _,λid hid=>by simp[vis]at hid⟩
  .injection h with h;subst h
   obtain⟨ad,rfl,hh⟩:=oQ hv;exact⟨hh.mono λb hb=>.inl hb,λid hid=>by simp[vis]at hid⟩
  .rename_i id off len sz;split at h
   .rename_i e cs hH;split at h
    .rename_i hfit;obtain⟨hfit,hpos⟩:=hfit;obtain⟨l,hl,rfl⟩:=Ai.1 h;cases hv with|own _ _ _ _ b cap cur0 e0 hι hb0 hcap hlc hm =>
     obtain⟨cur,hb,hcl,hcc⟩:=hR.cells hHK hι hH;obtain⟨hll,hlg⟩:=gY _ _ _ hl;have hfit':off*sz+len*sz<=cs.length:=by rw[<-C0];exact hfit
     have hlen:l.length=len*sz:=by rw[hll];simp;omega
     have hvis:vis H (n+1) (.own id off len sz)=id::((cs.drop (off*sz)).take (len*sz)).flatMap (vis H n):=by simp[vis,hH]
     rw[hvis];refine⟨.sl _ _ _ _ sz (λj=>cur.getD (off*sz+j) undef) (by simp[chunk]) hlc ?_ (.inr ⟨id,by simp,hι⟩) (λj hj=>?_) (λj k ds d hj hk=>?_),λi hi=>?_⟩
     .intro ds hds;simp only[chunk,List.mem_map,List.mem_range]at hds;obtain⟨i,hi,rfl⟩:=hds;rw[Bt,Et,hlen];have:(i+1)*sz<=len*sz:=Ck _ hi;rw[C0,Fu]at this;omega
     .rw[fN,cell_of_row w b _ cur e (0,0) hb,Ar (by omega)];simp[show off*sz+j<cur.size by omega]
     .have hjl:j<len:=by have:=(AA.1 hj).1;simpa[chunk]using this
      simp only[chunk,Ao,BZ hjl,Bj,AH]at hj;subst hj;rw[BM]at hk;split at hk
      .rename_i hks;rw[B0]at hk;obtain⟨c,hc,hd⟩:=hlg _ _ hk;have hmem:=At hc;rw[BM]at hc;split at hc
       .rw[B0]at hc;obtain⟨u,hu,hvv⟩:=hcc _ _ hc;have hlt:=(Bm.1 hu).1;rw[Ar hlt]at hu;injection hu with hu
        have:=(ih c u d hd hvv).1.mono (kK (F:=F) (ι:=ι) (l':=id::((cs.drop (off*sz)).take (len*sz)).flatMap (vis H n)) λi hi=>AT _ (B4.2 ⟨c,hmem,hi⟩));rw[<-hu]at this;simpa[hlt]using this
       .cases hc
      .cases hk
     .rcases BQ.1 hi with rfl|hi
      .exact⟨b,hι⟩
      .obtain⟨c,hc,hid⟩:=B4.1 hi;obtain⟨k,hk,hck⟩:=BE.1 hc;have hk2:k<l.length:=by rw[hll];exact hk
       obtain⟨c',hc',hd⟩:=hlg k _ (Ac hk2);have hce:c'=c:=by rw[Ac hk]at hc';injection hc' with hc';rw[<-hc',hck]
       subst hce;rw[BM]at hc';split at hc'
       .rw[B0]at hc';obtain⟨u,hu,hvv⟩:=hcc _ _ hc';exact(ih _ _ _ hd hvv).2 i hid
       .cases hc'
    .cases h
   .cases h
  .injection h with h;subst h
   cases hv with|fp cs ad f hF hcell hel=>exact⟨.pt _ _ f (.inl hF) hcell λk c hk=>(hel k c hk).mono λb hb=>.inl hb,λid hid=>by simp[vis]at hid⟩
  .rename_i id off;split at h
   .rename_i e cs hH;split at h
    .rename_i hfit;obtain⟨l,hl,rfl⟩:=Ai.1 h;cases hv with|ptr _ _ b hι =>
     obtain⟨cur,hb,hcl,hcc⟩:=hR.cells hHK hι hH;obtain⟨hll,hlg⟩:=gY _ _ _ hl;have hlen:l.length=cs.length-off:=by rw[hll];simp
     have hvis:vis H (n+1) (.ptr id off)=id::(cs.drop off).flatMap (vis H n):=by simp[vis,hH]
     rw[hvis];refine⟨.pt _ _ (λj=>cur.getD (off+j) undef) (.inr ⟨id,by simp,hι⟩) (λj hj=>?_) (λk d hk=>?_),λi hi=>?_⟩
     .rw[fN,cell_of_row w b _ cur e (0,0) hb,Ar (by omega)];simp[show off+j<cur.size by omega]
     .obtain⟨c,hc,hd⟩:=hlg _ _ hk;have hmem:=At hc;rw[B0]at hc;obtain⟨u,hu,hvv⟩:=hcc _ _ hc;have hlt:=(Bm.1 hu).1;rw[Ar hlt]at hu;injection hu with hu
      have:=(ih c u d hd hvv).1.mono (kK (F:=F) (ι:=ι) (l':=id::(cs.drop off).flatMap (vis H n)) λi hi=>AT _ (B4.2 ⟨c,hmem,hi⟩));rw[<-hu]at this;simpa[hlt]using this
     .rcases BQ.1 hi with rfl|hi
      .exact⟨b,hι⟩
      .obtain⟨c,hc,hid⟩:=B4.1 hi;obtain⟨k,hk,hck⟩:=BE.1 hc;have hk2:k<l.length:=by rw[hll];exact hk
       obtain⟨c',hc',hd⟩:=hlg k _ (Ac hk2);have hce:c'=c:=by rw[Ac hk]at hc';injection hc' with hc';rw[<-hc',hck]
       subst hce;rw[B0]at hc';obtain⟨u,hu,hvv⟩:=hcc _ _ hc';exact(ih _ _ _ hd hvv).2 i hid
    .cases h
   .cases h
  .obtain⟨l,hl,rfl⟩:=Ai.1 h;cases hv with|fn _ _ vs hvl hh =>
   obtain⟨q1,q2⟩:=cellsV _ l vs hvl hl hh;exact⟨.fn _ _ _ (by rw[(gY _ _ _ hl).1];exact hvl) q1,q2⟩
  .obtain⟨l,hl,rfl⟩:=Ai.1 h;cases hv with|ag _ vs hvl hh =>
   obtain⟨q1,q2⟩:=cellsV _ l vs hvl hl hh;exact⟨.ag _ _ (by rw[(gY _ _ _ hl).1];exact hvl) q1,q2⟩
  .obtain⟨l,hl,rfl⟩:=Ai.1 h;cases hv with|tp _ vs hvl hh =>
   obtain⟨q1,q2⟩:=cellsV _ l vs hvl hl hh;exact⟨.tp _ _ (by rw[(gY _ _ _ hl).1];exact hvl) q1,q2⟩
  .rename_i id;split at h
   .rename_i k es hH;obtain⟨l,hl,rfl⟩:=Ai.1 h;cases hv with|mp _ b hι =>
    obtain⟨ob,hb,hcr⟩:=hR.obj id b _ hι (hHK _ _ hH);cases hcr with|map _ _ ents clock hel hst hes =>
    obtain⟨hll,hlg⟩:=gY _ _ _ hl;rw[BV]at hll;have hvis:vis H (n+1) (.mp id)=id::(es.map (·.2)).flatMap (vis H n):=by simp[vis,hH]
    rw[hvis];refine⟨.mp k _ l b ents clock (.inr ⟨id,by simp,hι⟩) hb hst (by simpa using hel) (by omega) (λj m hj=>?_) (λj d en hj hen=>?_),λi hi=>?_⟩
    .rw[Ao]at hj;obtain⟨x,hx,rfl⟩:=Ai.1 hj;obtain⟨en,h1,h2,_⟩:=hes j x hx;exact⟨en,h1,h2⟩
    .obtain⟨c,hc,hd⟩:=hlg j d hj;have hmem:=At hc;rw[Ao]at hc;obtain⟨x,hx,rfl⟩:=Ai.1 hc;obtain⟨en',h1,_,h3⟩:=hes j x hx;rw[hen]at h1;injection h1 with h1;subst h1
     exact(ih x.2 _ d hd h3).1.mono (kK λi hi=>AT _ (B4.2 ⟨_,hmem,hi⟩))
    .rcases BQ.1 hi with rfl|hi
     .exact⟨b,hι⟩
     .obtain⟨c,hc,hid⟩:=B4.1 hi;obtain⟨j,hj,hcj⟩:=BE.1 hc;have hj':j<l.length:=by rw[hll];simpa using hj
      obtain⟨c',hc',hd⟩:=hlg j _ (Ac hj');have hce:c'=c:=by rw[Ac hj]at hc';injection hc' with hc';rw[<-hc',hcj]
      subst hce;rw[Ao]at hc';obtain⟨x,hx,rfl⟩:=Ai.1 hc';obtain⟨en',h1,_,h3⟩:=hes j x hx;exact(ih x.2 _ _ hd h3).2 i hid
   .cases h
  .cases h
end
inductive NM:D->Prop where
 |b (x:Bw):NM (.b x)
 |i (k:BJ) (n:Al):NM (.i k n)
 |lit (v:AE):NM (.lit v)
 |sl (els:Ad (Ad D)) (h0:∀cs∈els,cs≠[]) (h:∀cs∈els,∀c∈cs,NM c):NM (.sl els)
 |ag (cs:Ad D) (h:∀c∈cs,NM c):NM (.ag cs)
 |tp (cs:Ad D) (h:∀c∈cs,NM c):NM (.tp cs)
def nmB:Ae->D->Bw
 |0,_=>Az
 | n+1,x=>match x with
  |.b _|.i _ _|.lit _=>Ak
  |.sl els=>els.all λcs=>!cs.isEmpty&&cs.all (nmB n)
  |.ag cs|.tp cs=>cs.all (nmB n)
  |_=>Az
def aJc:∀(n:Ae) (x:D),nmB n x=Ak->NM x
 |0,x,h=>by cases h
 | n+1,x,h=>by
  unfold nmB at h;split at h
  .exact .b _
  .exact .i _ _
  .exact .lit _
  .rename_i els;simp only[A1,A5,Dd,List.isEmpty_eq_false_iff]at h;exact .sl _ (λcs hcs=>(h cs hcs).1) λcs hcs c hc=>aJc n c ((h cs hcs).2 c hc)
  .exact .ag _ λc hc=>aJc n c (A1.1 h c hc)
  .exact .tp _ λc hc=>aJc n c (A1.1 h c hc)
  .cases h
def cEi{F:Ae->Prop}{w:Ag}{x:D}{v:AE}(h:VD F w x v)(hn:NM x):VD (λb=>F b/\∀ents clock,w.heap[b]? ≠ Aa (.map ents clock)) w x v:=by
 induction h with
 |b x=>exact .b x
 |i k n=>exact .i k n
 |sl0 ad c=>exact .sl0 ad c
 | sl els ad n c sz f hnl hc hsz hF hcell hel ih =>
  cases hn with|sl _ h0 h =>
  cases hels:els with
  |nil=>subst hels;subst hnl;exact .sl0 _ _
  | cons cs0 l =>
   rw[<-hels];have hm0:cs0∈els:=by rw[hels];exact AX ..
   have hpos:0<sz:=by rw[<-hsz cs0 hm0];exact List.length_pos_iff.2 (h0 cs0 hm0)
   have hnp:0<n:=by rw[hnl,hels];simp
   refine .sl els ad n c sz f hnl hc hsz ⟨hF,λents clock he=>?_⟩ hcell λj k cs d hj hk=>ih j k cs d hj hk (h cs (At hj) d (At hk))
   have h1:=hcell 0 (Nat.mul_pos hnp hpos);simp only[BN,block_add,he]at h1;cases h1
 |ag cs vs hl hh ih=>cases hn with|ag _ h=>exact .ag cs vs hl λk c v hc hv=>ih k c v hc hv (h c (At hc))
 |tp cs vs hl hh ih=>cases hn with|tp _ h=>exact .tp cs vs hl λk c v hc hv=>ih k c v hc hv (h c (At hc))
 |lit v=>exact .lit v
 |pt=>cases hn
 |fn=>cases hn
 |mp=>cases hn
 |iff=>cases hn
 |fm=>cases hn
def Spec(P:As)[M:Mch P](f:AU)(args:Ad D)(r:D):Prop :=
 ∀(A:Ae->Prop) (W:Ag) (vs:Aw AE),(∀b,A b->b<W.heap.size)->args.length=vs.size->(∀(k:Ae) d v,args[k]? = Aa d->vs[k]? = Aa v->VD A W d v) ->
  (∀w,aU P (callFunc f vs) w=.ok (.enter f vs) w) /\
  CX P f vs W λv W'=>Below W.heap.size W W'/\VD (λb=>A b\/(W.heap.size<=b/\b<W'.heap.size)) W' r v
def bH:D->AV
 |.ag cs=>.ag (cs.map .d)
 |.pt cs=>.fp cs
 |x=>.d x
def inj:D->AV
 |.tp vs=>.tp (vs.map bH)
 |x=>bH x
def wH:D->Bw
 |.b _|.i _ _=>Ak
 |_=>Az
def flat:D->Bw
 |.tp vs=>vs.all wH
 |x=>wH x
section
variable {P:As} {F:Ae->Prop} {w:Ag} {ι:Ae->Aq Ae} {G:Ctx} {C:Ae->Prop} {H K:Hp}
def mS{x:D}{v:AE}(h:VD F w x v):V F w ι (bH x) v:=by
 unfold bH;split
 .cases h with|ag cs vs hl hh=>exact .ag _ _ (by simpa using hl) (xA hh)
 .cases h with|pt cs ad f hF hcell hel=>exact .fp _ _ f hF hcell hel
 .exact .d _ _ h
def aEg{x:D}{v:AE}(h:VD F w x v):V F w ι (inj x) v:=by
 unfold inj;split
 .cases h with
  | tp cs vs hl hh =>
   refine .tp _ _ (by simpa using hl) λk c u hc hu=>?_
   rw[Ao]at hc;obtain⟨d,hd,rfl⟩:=Ai.1 hc;exact mS (hh k d u hd hu)
 .exact mS h
def bTd{x:D}{v:AE}{F':Ae->Prop}{w':Ag}(hf:wH x=Ak)(h:VD F w x v):VD F' w' x v:=by cases h<;>first|exact .b _|exact .i _ _|(simp[wH]at hf;done)
def aJq{x:D}{v:AE}{F':Ae->Prop}{w':Ag}(hf:flat x=Ak)(h:VD F w x v):VD F' w' x v:=by
 cases h with
 |tp cs vs hl hh=>exact .tp _ _ hl λk c u hc hu=>bTd (by simp only[flat]at hf;exact A1.1 hf _ (At hc)) (hh k c u hc hu)
 |b x=>exact .b _
 |i k n=>exact .i _ _
 |_=>simp[flat,wH]at hf
def HR.call(hR:HR G F w ι C K){w':Ag}(hb:Below w.heap.size w w')(kills:Ad Ae)(hk:∀id∈kills,¬C id) :
 HR G (λb=>F b\/(∃id∈kills,ι id=Aa b)\/(w.heap.size<=b/\b<w'.heap.size)) w' ι (λid=>C id\/id∈kills) K /\
 Step F w ι (λb=>F b\/(∃id∈kills,ι id=Aa b)\/(w.heap.size<=b/\b<w'.heap.size)) w' ι:=by
 have hs:Step F w ι (λb=>F b\/(∃id∈kills,ι id=Aa b)\/(w.heap.size<=b/\b<w'.heap.size)) w' ι :=
  ⟨λ_ h=>.inl h,λb h=>hb.block b (hR.F_lt b h),λ_ _ h=>h,λid b cur e hi h=>⟨cur,(hb.block b (hR.ι_lt hi)).trans h,rfl⟩⟩
 have hsz:=hb.size
 have hW:G.W.heap.size<=w.heap.size:=hR.kept.size
 refine⟨⟨hR.kept.trans (.below hb hW),?_,?_,?_,?_,?_,?_⟩,hs⟩
 .rintro b (h|⟨id,_,h⟩|h)
  .have:=hR.F_lt b h;omega
  .have:=hR.ι_lt h;omega
  .exact h.2
 .rintro b (h|⟨id,_,h⟩|h)
  .exact hR.F_ok b h
  .exact .inr (hR.place id b h).1
  .exact .inr (.inr (by omega))
 .intro id b h
  obtain⟨h1,h2,h3⟩:=hR.place id b h
  refine⟨h1,by omega,λhc hF=>?_⟩
  rcases hF with hF|⟨id',hi,hF⟩|hF
  .exact h3 (λx=>hc (.inl x)) hF
  .exact hc (.inr ((hR.inj id id' b h hF (λx=>hc (.inl x)) (hk id' hi)) ▸ hi))
  .omega
 .intro id b o h ho
  obtain⟨ob,h2,h3⟩:=hR.obj id b o h ho
  exact⟨ob,(hb.block b (hR.ι_lt h)).trans h2,h3.step hs⟩
 .exact λid id' b h h' hc hc'=>hR.inj id id' b h h' (λx=>hc (.inl x)) λx=>hc' (.inl x)
 .exact λid id' b o o' h h' hc=>hR.len id id' b o o' h h' λx=>hc (.inl x)
variable [M:Mch P] {Γ:Ae->AV} {o:Bf}
def mN(hR:HR G F w ι C K)(hHK:∀id o,H id=Aa o->K id=Aa o){args:Ad AN}{a:Act}{ds:Ad D}(hf:cK H (args.map (oev Γ))=Aa ds)
 (hop:∀x∈args,V F w ι (oev Γ x) (a.eval x)):ds.length=(args.map a.eval).toArray.size /\
  (∀(k:Ae) d v,ds[k]? = Aa d->(args.map a.eval).toArray[k]? = Aa v->VD (reach F ι (bW H (args.map (oev Γ)))) w d v)/\∀id∈bW H (args.map (oev Γ)),∃b,ι id=Aa b:=by
 obtain⟨h1,h2⟩:=gY _ _ _ hf
 refine⟨by simpa using h1,λk d v hk hv=>?_,λid hid=>?_⟩
 .obtain⟨c,hc,hd⟩:=h2 k d hk
  have hmem:=At hc
  simp only[Ao,Cb]at hc hv
  cases hx:args[k]? with
  |none=>simp[hx]at hc
  | some x =>
   simp only[hx,Bj,AH]at hc hv
   subst hc;subst hv
   exact(wC hR hHK _ _ _ _ hd (hop x (At hx))).1.mono (kK λid hid=>B4.2 ⟨_,hmem,hid⟩)
 .obtain⟨c,hc,hid⟩:=B4.1 hid
  obtain⟨k,hk,hck⟩:=BE.1 hc
  have hk2:k<ds.length:=by omega
  obtain⟨c',hc',hd⟩:=h2 k _ (Ac hk2)
  rw[Ac hk]at hc';injection hc' with hc'
  rw[<-hc',hck]at hd
  rw[List.getElem_map]at hck
  rw[<-hck]at hd hid
  exact(wC hR hHK _ _ _ _ hd (hop _ (B3 _))).2 id hid
def bM(H:Hp)(args:Ad AV)(r:D):Ad Ae:=if flat r then[]else bW H args
def bCj{f:AU}{args:Aw AN}{ts:Aw AF}{ds:Ad D}{r:D}(ho:o.op=.call { callee:=.value (.func f),args:=args,argTypes:=ts })
 (hHK:∀id ob,H id=Aa ob->K id=Aa ob) (hargs:cK H (args.toList.map (oev Γ))=Aa ds) (hs:Spec P f ds r) (hk:∀id∈bM H (args.toList.map (oev Γ)) r,¬C id) :
 Y P G o Γ C K K (inj r) bG (λi=>i∈bM H (args.toList.map (oev Γ)) r):=by
 intro F w ι a hok hR hop _ next hnext
 have hop':∀x∈args.toList,V F w ι (oev Γ x) (a.eval x):=λx hx=>cD λt e=>hop t (by rw[ho];subst e;simp[AJ,Bs];simpa using hx)
 have hmap:args.map a.eval=(args.toList.map a.eval).toArray:=by cases args;simp
 obtain⟨hl,hV,_⟩:=mN hR hHK hargs hop'
 rw[<-hmap]at hl hV
 obtain⟨hent,hcalls⟩:=hs (reach F ι (bW H (args.toList.map (oev Γ)))) w (args.map a.eval) (by
  rintro b (h|⟨id,_,h⟩)
  .exact hR.F_lt b h
  .exact hR.ι_lt h) hl hV
 unfold wpX
 have hfe:a.eval (.func f)=.func (.func f) #[] #[]:=rfl
 simp only[execOp,ho,resolve,invoke,aB,hfe,Cx,aX,AR,Cy,CP,hent,gQ]
 refine hcalls.mono ?_
 rintro v w' ⟨hb,hv⟩
 obtain⟨hR',hst⟩:=hR.call hb (bM H (args.toList.map (oev Γ)) r) hk
 refine hnext _ w' ι v hR' hst (λ_ _ h=>.inl h) (λ_ h=>h.elim) (aEg ?_)
 by_cases hf:flat r=Ak
 .exact aJq hf hv
 .refine hv.mono λb hb'=>?_
  rcases hb' with (h|⟨id,h,hx⟩)|h
  .exact .inl h
  .exact .inr (.inl ⟨id,by simpa[bM,hf]using h,hx⟩)
  .exact .inr (.inr h)
def bBq{args:Aw AN}{ds:Ad D}{r:D}{a:Act}(hR:HR G F w ι C K)(hHK:∀id ob,H id=Aa ob->K id=Aa ob)(hargs:cK H (args.toList.map (oev Γ))=Aa ds)
 (hop:∀x∈args.toList,V F w ι (oev Γ x) (a.eval x)):∀id∈bM H (args.toList.map (oev Γ)) r,∃b,ι id=Aa b:=by
 intro id hid
 unfold bM at hid
 split at hid
 .cases hid
 .exact(mN hR hHK hargs hop).2.2 id hid
def dG:AV->Aq (AU×Ad AV)
 |.fn f cs=>Aa (f,cs)
 |.d (.fn f cs)=>Aa (f,cs.map bH)
 |.d (.lit (.func (.func f) fst cs))=>if fst.isEmpty&&cs.isEmpty then Aa (f,[])else Aj
 |_=>Aj
def aHb{x:AV}{v:AE}{f:AU}{cs:Ad AV}(h:dG x=Aa (f,cs))(hv:V F w ι x v) :
 ∃vs,v=.func (.func f) #[] vs/\cs.length=vs.size/\∀(k:Ae) c u,cs[k]? = Aa c->vs[k]? = Aa u->V F w ι c u:=by
 unfold dG at h
 split at h
 .injection h with h;injection h with h1 h2;subst h1;subst h2
  cases hv with|fn _ _ vs hl hh=>exact⟨vs,rfl,hl,hh⟩
 .injection h with h;injection h with h1 h2;subst h1;subst h2
  cases hv with|d _ _ hh=>cases hh with|fn _ _ vs hl hh =>
  refine⟨vs,rfl,by simpa using hl,λk c u hc hu=>?_⟩
  rw[Ao]at hc
  obtain⟨d,hd,rfl⟩:=Ai.1 hc
  exact mS (hh k d u hd hu)
 .split at h
  .rename_i g fst cs' he
   injection h with h;injection h with h1 h2;subst h1;subst h2
   simp only[A5,Array.isEmpty_iff]at he
   obtain⟨rfl,rfl⟩:=he
   cases hv with|d _ _ hh =>
   cases hh with|lit _=>exact⟨#[],rfl,rfl,λk c u hc=>by simp at hc⟩
  .cases h
 .cases h
def kS(hR:HR G F w ι C K)(hHK:∀id o,H id=Aa o->K id=Aa o){avs:Ad AV}{vs:Ad AE}{ds:Ad D}(hf:cK H avs=Aa ds)(hlen:avs.length=vs.length)
 (hV:∀(k:Ae) c u,avs[k]? = Aa c->vs[k]? = Aa u->V F w ι c u):ds.length=vs.length /\
  (∀(k:Ae) d v,ds[k]? = Aa d->vs[k]? = Aa v->VD (reach F ι (bW H avs)) w d v)/\∀id∈bW H avs,∃b,ι id=Aa b:=by
 obtain⟨h1,h2⟩:=gY _ _ _ hf
 refine⟨by omega,λk d v hk hv=>?_,λid hid=>?_⟩
 .obtain⟨c,hc,hd⟩:=h2 k d hk
  exact(wC hR hHK _ _ _ _ hd (hV k c v hc hv)).1.mono (kK λid hid=>B4.2 ⟨_,At hc,hid⟩)
 .obtain⟨c,hc,hid⟩:=B4.1 hid
  obtain⟨k,hk,hck⟩:=BE.1 hc
  have hk2:k<ds.length:=by omega
  have hk3:k<vs.length:=by omega
  obtain⟨c',hc',hd⟩:=h2 k _ (Ac hk2)
  have hce:c'=c:=by rw[Ac hk]at hc';injection hc' with hc';rw[<-hc',hck]
  subst hce
  exact(wC hR hHK _ _ _ _ hd (hV k _ _ hc' (Ac hk3))).2 id hid
def uM{x:AN}{args:Aw AN}{f:AU}{cs:Ad AV}{a:Act}(hx:dG (oev Γ x)=Aa (f,cs))(hvx:V F w ι (oev Γ x) (a.eval x))(hop:∀y∈args.toList,V F w ι (oev Γ y) (a.eval y)) :
 ∃vs:Aw AE,a.eval x=.func (.func f) #[] vs/\(args.toList.map (oev Γ)++cs).length=(args.map a.eval++vs).toList.length /\
  ∀(k:Ae) c u,(args.toList.map (oev Γ)++cs)[k]? = Aa c->(args.map a.eval++vs).toList[k]? = Aa u->V F w ι c u:=by
 obtain⟨vs,h1,h2,h3⟩:=aHb hx hvx
 refine⟨vs,h1,by simp[h2],λk c u hc hu=>?_⟩
 rw[GG,Gh]at hu
 by_cases hk:k<args.toList.length
 .rw[Bb (by simpa using hk)]at hc hu
  rw[Ao]at hc hu
  cases hy:args.toList[k]? with
  |none=>rw[hy]at hc;cases hc
  | some y =>
   rw[hy]at hc hu
   injection hc with hc;injection hu with hu
   subst hc;subst hu
   exact hop y (At hy)
 .rw[AZ (by simpa using hk)]at hc hu
  rw[BV]at hc hu
  exact h3 _ _ _ hc (by simpa using hu)
def bNe{x:AN}{f:AU}{args:Aw AN}{ts:Aw AF}{ds:Ad D}{r:D}{cs:Ad AV}(ho:o.op=.call { callee:=.value x,args:=args,argTypes:=ts })
 (hHK:∀id ob,H id=Aa ob->K id=Aa ob) (hx:dG (oev Γ x)=Aa (f,cs)) (hargs:cK H (args.toList.map (oev Γ)++cs)=Aa ds) (hs:Spec P f ds r) (hk:∀id∈bM H (args.toList.map (oev Γ)++cs) r,¬C id) :
 Y P G o Γ C K K (inj r) bG (λi=>i∈bM H (args.toList.map (oev Γ)++cs) r):=by
 intro F w ι a hok hR hop _ next hnext
 have hop':∀y∈args.toList,V F w ι (oev Γ y) (a.eval y):=λy hy=>cD λt e=>hop t (by rw[ho];subst e;simp[AJ,Bs];right;simpa using hy)
 have hvx:V F w ι (oev Γ x) (a.eval x):=cD λt e=>hop t (by rw[ho];subst e;simp[AJ,Bs])
 obtain⟨vs,hev,hlen,hVV⟩:=uM hx hvx hop'
 obtain⟨hl,hV,_⟩:=kS hR hHK hargs hlen hVV
 obtain⟨hent,hcalls⟩:=hs (reach F ι (bW H (args.toList.map (oev Γ)++cs))) w (args.map a.eval++vs) (by
  rintro b (h|⟨id,_,h⟩)
  .exact hR.F_lt b h
  .exact hR.ι_lt h) (by simpa using hl) (λk d v hk hv=>hV k d v hk (by rw[Bq];exact hv))
 unfold wpX
 simp only[execOp,ho,resolve,invoke,aB,hev,Cx,aX,AR,Cy,hent,gQ]
 refine hcalls.mono ?_
 rintro v w' ⟨hb,hv⟩
 obtain⟨hR',hst⟩:=hR.call hb (bM H (args.toList.map (oev Γ)++cs) r) hk
 refine hnext _ w' ι v hR' hst (λ_ _ h=>.inl h) (λ_ h=>h.elim) (aEg ?_)
 by_cases hf:flat r=Ak
 .exact aJq hf hv
 .refine hv.mono λb hb'=>?_
  rcases hb' with (h|⟨id,h,hx⟩)|h
  .exact .inl h
  .exact .inr (.inl ⟨id,by simpa[bM,hf]using h,hx⟩)
  .exact .inr (.inr h)
def aTp{x:AN}{f:AU}{cs:Ad AV}{args:Aw AN}{ds:Ad D}{r:D}{a:Act}(hR:HR G F w ι C K)(hHK:∀id ob,H id=Aa ob->K id=Aa ob)(hx:dG (oev Γ x)=Aa (f,cs))
 (hargs:cK H (args.toList.map (oev Γ)++cs)=Aa ds) (hvx:V F w ι (oev Γ x) (a.eval x)) (hop:∀x∈args.toList,V F w ι (oev Γ x) (a.eval x)):∀id∈bM H (args.toList.map (oev Γ)++cs) r,∃b,ι id=Aa b:=by
 intro id hid
 obtain⟨vs,hev,hlen,hVV⟩:=uM hx hvx hop
 unfold bM at hid
 split at hid
 .cases hid
 .exact(kS hR hHK hargs hlen hVV).2.2 id hid
def vY{args:Aw AN}{a:Act}{d:D}{v:AE}(hv:VD F w d v)(hop:∀y∈args.toList,V F w ι (oev Γ y) (a.eval y)) :
 (AV.d d::args.toList.map (oev Γ)).length=(#[v]++args.map a.eval).toList.length /\
  ∀(k:Ae) c u,(AV.d d::args.toList.map (oev Γ))[k]? = Aa c->(#[v]++args.map a.eval).toList[k]? = Aa u->V F w ι c u:=by
 refine⟨by simp,λk c u hc hu=>?_⟩
 rw[GG,Gh]at hu
 cases k with
 |zero=>simp at hc hu;subst hc;subst hu;exact .d _ _ hv
 | succ k =>
  simp only[BT,List.cons_append,List.nil_append,Ao]at hc hu
  cases hy:args.toList[k]? with
  |none=>rw[hy]at hc;cases hc
  | some y =>
   rw[hy]at hc hu
   injection hc with hc;injection hu with hu
   subst hc;subst hu
   exact hop y (At hy)
def bSb(v:AE)(l:Aw AE):(#[v]++l)[0]? = Aa v/\(#[v]++l).extract 1 (#[v]++l).size=l:=by
 refine⟨?_,?_⟩
 .rw[Array.getElem?_append];simp
 .apply Array.ext';simp
def bVr{x:AV}{t:AF}{d:D}{v:AE}(hx:x=.d (.iff t d))(hv:V F w ι x v):∃u,v=.iface t u/\VD F w d u:=by subst hx;cases hv with|d _ _ hh=>cases hh with|iff _ _ u h=>exact⟨u,rfl,h⟩
def bCi{x:AN}{name:String}{ty:AF}{d:D}{f:AU}{args:Aw AN}{ts:Aw AF}{ds:Ad D}{r:D}(ho:o.op=.call { callee:=.invoke x name,args:=args,argTypes:=ts })
 (hHK:∀id ob,H id=Aa ob->K id=Aa ob) (hx:oev Γ x=.d (.iff ty d)) (hm:aNe P ty name=Aa f) (hargs:cK H (.d d::args.toList.map (oev Γ))=Aa ds) (hs:Spec P f ds r) (hk:∀id∈bM H (.d d::args.toList.map (oev Γ)) r,¬C id) :
 Y P G o Γ C K K (inj r) bG (λi=>i∈bM H (.d d::args.toList.map (oev Γ)) r):=by
 intro F w ι a hok hR hop _ next hnext
 have hop':∀y∈args.toList,V F w ι (oev Γ y) (a.eval y):=λy hy=>cD λt e=>hop t (by rw[ho];subst e;simp[AJ,Bs];right;simpa using hy)
 have hvx:V F w ι (oev Γ x) (a.eval x):=cD λt e=>hop t (by rw[ho];subst e;simp[AJ,Bs])
 obtain⟨u,hev,hud⟩:=bVr hx hvx
 obtain⟨hlen,hVV⟩:=vY hud hop'
 obtain⟨hl,hV,_⟩:=kS hR hHK hargs hlen hVV
 obtain⟨hent,hcalls⟩:=hs (reach F ι (bW H (.d d::args.toList.map (oev Γ)))) w (#[u]++args.map a.eval) (by
  rintro b (h|⟨id,_,h⟩)
  .exact hR.F_lt b h
  .exact hR.ι_lt h) (by rw[hl,BP]) (λk d v hk hv=>hV k d v hk (by rw[Bq];exact hv))
 unfold wpX
 have hinv:aU P (invoke (.fn (.method name) #[]) (#[a.eval x]++args.map a.eval)) w=aU P (callFunc f (#[u]++args.map a.eval)) w:=by have e:=bSb (.iface ty u) (args.map a.eval);rw[hev,<-bFf hm];simp only[invoke,e.1,e.2]
 simp only[execOp,ho,resolve,aB,aX,AR,hinv,hent,gQ]
 refine hcalls.mono ?_
 rintro v w' ⟨hb,hv⟩
 obtain⟨hR',hst⟩:=hR.call hb (bM H (.d d::args.toList.map (oev Γ)) r) hk
 refine hnext _ w' ι v hR' hst (λ_ _ h=>.inl h) (λ_ h=>h.elim) (aEg ?_)
 by_cases hf:flat r=Ak
 .exact aJq hf hv
 .refine hv.mono λb hb'=>?_
  rcases hb' with (h|⟨id,h,hx⟩)|h
  .exact .inl h
  .exact .inr (.inl ⟨id,by simpa[bM,hf]using h,hx⟩)
  .exact .inr (.inr h)
def bIl{x:AN}{ty:AF}{d:D}{args:Aw AN}{ds:Ad D}{r:D}{a:Act}(hR:HR G F w ι C K)(hHK:∀id ob,H id=Aa ob->K id=Aa ob)(hx:oev Γ x=.d (.iff ty d))
 (hargs:cK H (.d d::args.toList.map (oev Γ))=Aa ds) (hvx:V F w ι (oev Γ x) (a.eval x)) (hop:∀x∈args.toList,V F w ι (oev Γ x) (a.eval x)):∀id∈bM H (.d d::args.toList.map (oev Γ)) r,∃b,ι id=Aa b:=by
 intro id hid
 obtain⟨u,hev,hud⟩:=bVr hx hvx
 obtain⟨hlen,hVV⟩:=vY hud hop
 unfold bM at hid
 split at hid
 .cases hid
 .exact(kS hR hHK hargs hlen hVV).2.2 id hid
def cDw{x:AV}{g:AU}{d:D}{v:AE}(hx:x=.d (.fm g d))(hv:V F w ι x v):∃u,v=.func (.func g) #[u] #[]/\VD F w d u:=by subst hx;cases hv with|d _ _ hh=>cases hh with|fm _ _ u h=>exact⟨u,rfl,h⟩
def bNf{x:AN}{d:D}{f:AU}{args:Aw AN}{ts:Aw AF}{ds:Ad D}{r:D}(ho:o.op=.call { callee:=.value x,args:=args,argTypes:=ts })
 (hHK:∀id ob,H id=Aa ob->K id=Aa ob) (hx:oev Γ x=.d (.fm f d)) (hargs:cK H (.d d::args.toList.map (oev Γ))=Aa ds) (hs:Spec P f ds r) (hk:∀id∈bM H (.d d::args.toList.map (oev Γ)) r,¬C id) :
 Y P G o Γ C K K (inj r) bG (λi=>i∈bM H (.d d::args.toList.map (oev Γ)) r):=by
 intro F w ι a hok hR hop _ next hnext
 have hop':∀y∈args.toList,V F w ι (oev Γ y) (a.eval y):=λy hy=>cD λt e=>hop t (by rw[ho];subst e;simp[AJ,Bs];right;simpa using hy)
 have hvx:V F w ι (oev Γ x) (a.eval x):=cD λt e=>hop t (by rw[ho];subst e;simp[AJ,Bs])
 obtain⟨u,hev,hud⟩:=cDw hx hvx
 obtain⟨hlen,hVV⟩:=vY hud hop'
 obtain⟨hl,hV,_⟩:=kS hR hHK hargs hlen hVV
 obtain⟨hent,hcalls⟩:=hs (reach F ι (bW H (.d d::args.toList.map (oev Γ)))) w (#[u]++args.map a.eval) (by
  rintro b (h|⟨id,_,h⟩)
  .exact hR.F_lt b h
  .exact hR.ι_lt h) (by rw[hl,BP]) (λk d v hk hv=>hV k d v hk (by rw[Bq];exact hv))
 unfold wpX
 simp only[execOp,ho,resolve,invoke,aB,hev,Cx,aX,AR,CP,hent,gQ]
 refine hcalls.mono ?_
 rintro v w' ⟨hb,hv⟩
 obtain⟨hR',hst⟩:=hR.call hb (bM H (.d d::args.toList.map (oev Γ)) r) hk
 refine hnext _ w' ι v hR' hst (λ_ _ h=>.inl h) (λ_ h=>h.elim) (aEg ?_)
 by_cases hf:flat r=Ak
 .exact aJq hf hv
 .refine hv.mono λb hb'=>?_
  rcases hb' with (h|⟨id,h,hx⟩)|h
  .exact .inl h
  .exact .inr (.inl ⟨id,by simpa[bM,hf]using h,hx⟩)
  .exact .inr (.inr h)
def aTq{x:AN}{f:AU}{d:D}{args:Aw AN}{ds:Ad D}{r:D}{a:Act}(hR:HR G F w ι C K)(hHK:∀id ob,H id=Aa ob->K id=Aa ob)(hx:oev Γ x=.d (.fm f d))
 (hargs:cK H (.d d::args.toList.map (oev Γ))=Aa ds) (hvx:V F w ι (oev Γ x) (a.eval x)) (hop:∀x∈args.toList,V F w ι (oev Γ x) (a.eval x)):∀id∈bM H (.d d::args.toList.map (oev Γ)) r,∃b,ι id=Aa b:=by
 intro id hid
 obtain⟨u,hev,hud⟩:=cDw hx hvx
 obtain⟨hlen,hVV⟩:=vY hud hop
 unfold bM at hid
 split at hid
 .cases hid
 .exact(kS hR hHK hargs hlen hVV).2.2 id hid
def lF(P:As)(H:Hp)(t:AF)(ad x:AV):Aq (Ae×HO) :=
 match ad with
 | .ptr id off=>match H id with
  |some (.cells e cs)=>(eC x).bind λvs=>(tsz P t).bind λsz=>if vs.length=sz/\off+sz<=cs.length then Aa (id,.cells e (lay cs off vs))else Aj
  |_=>Aj
 |_=>Aj
def aUj{t:AF}{ad x:AN}{id:Ae}{ho:HO}{K':Hp}(hop_:o.op=.store t ad x)(hHK:∀id ob,H id=Aa ob->K id=Aa ob)
 (h:lF P H t (oev Γ ad) (oev Γ x)=Aa (id,ho)) (hC:¬C id) (hK':K' id=Aa ho) (hsub:∀j o,j≠id->K' j=Aa o->K j=Aa o/\¬C j) :
 Y P G o Γ C K K' .un bG bG:=by
 intro F w ι a hok hR hop _ next hnext
 have oa:V F w ι (oev Γ ad) (a.eval ad):=cD λt e=>hop t (by rw[hop_];simp[AJ,e])
 have ox:V F w ι (oev Γ x) (a.eval x):=cD λt e=>hop t (by rw[hop_];simp[AJ,e])
 unfold lF at h
 split at h
 case h_2=>cases h
 rename_i id' off hadd
 split at h
 case h_2=>cases h
 rename_i e cs hH
 obtain⟨vs,hvs,h⟩:=Af.1 h
 obtain⟨sz,hsz,h⟩:=Af.1 h
 split at h
 case isFalse=>cases h
 rename_i hc
 obtain⟨hvl,hfit⟩:=hc
 injection h with h;injection h with h1 h2;subst h1;subst h2
 rw[hadd]at oa
 generalize hav:a.eval ad=av at oa
 cases oa with|ptr _ _ b hι =>
 have hcv:=aDs hvs ox
 obtain⟨cur,hb,hl,hcc⟩:=hR.cells hHK hι hH
 have hus:(a.eval x).cells.toList.length=sz:=by have:=hcv.1;simp;omega
 have hrun:aU P (storeCells ⟨b,off,Aj⟩ (a.eval x).cells.toList 0) w=_:=run_storeCells_at (P:=P) b off e (a.eval x).cells.toList 0 cur w hb (by omega) (λv hv=>hcv.2.2 v (by simpa using hv))
 simp only[CU]at hrun
 have hset:=setRow_heap w b cur (cur.toList.take off++(a.eval x).cells.toList++cur.toList.drop (off+(a.eval x).cells.toList.length)).toArray e (0,0) hb
 have hnF:¬F b:=(hR.place id' b hι).2.2 hC
 have hoth:∀k,k≠b->(w.setRow b (cur.toList.take off++(a.eval x).cells.toList++cur.toList.drop (off+(a.eval x).cells.toList.length)).toArray).heap[k]? = w.heap[k]? := λk hk=>setRow_other w b k _ hk
 have hsize:(cur.toList.take off++(a.eval x).cells.toList++cur.toList.drop (off+(a.eval x).cells.toList.length)).toArray.size=cur.size:=by
  have:(a.eval x).cells.size=sz:=by simpa using hus
  simp only[AG,BK,Bt,Et,BP];omega
 have hlen2:(cur.toList.take off++(a.eval x).cells.toList).length=off+sz:=by rw[BK,hus,Bt,BP];omega
 generalize hcur':(cur.toList.take off++(a.eval x).cells.toList++cur.toList.drop (off+(a.eval x).cells.toList.length)).toArray=cur' at *
 have hst:Step F w ι F (w.setRow b cur') ι:=by
  refine⟨λ_ h=>h,λk hk=>hoth k (λe=>hnF (e ▸ hk)),λ_ _ h=>h,λi k c0 e0 hi hk=>?_⟩;by_cases hkb:k=b
  .subst hkb;rw[hb]at hk;injection hk with hk;injection hk with h1 h2;subst h1;subst h2
   exact⟨cur',hset,hsize⟩
  .exact⟨c0,(hoth k hkb).trans hk,rfl⟩
 unfold wpX
 have hne:¬((a.eval x).cells.size≠sz):=by have:=hcv.1;omega
 simp only[execOp,hop_,aB,Instr.storeAt,hav,CH,aX,AR,storeVar,run_sizeOf w hsz,hne,DV,hrun,Oper.upon_skip]
 refine hnext F _ ι undef ?_ hst (λ_ _ h=>.inl h) (λ_ h=>h.elim) .un
 refine HR.congrC (C:=C) ⟨hR.kept.trans ⟨rfl,rfl,rfl,by simp,λk hk hm=>hoth k λe=>?_,λk c0 e0 _ hk=>by
  by_cases hkb:k=b
  .subst hkb;rw[hb]at hk;injection hk with hk;injection hk with h1 h2;subst h1;subst h2
   exact⟨cur',hset,hsize⟩
  .exact⟨c0,(hoth k hkb).trans hk,rfl⟩⟩,λk hk=>by rw[size_setRow];exact hR.F_lt k hk,hR.F_ok,λi k hi=>?_,?_,hR.inj,?_⟩ (λid=>by simp[bG])
 .subst e
  rcases(hR.place id' k hι).1 with h|h
  .exact hm h
  .omega
 .rw[size_setRow];exact hR.place i k hi
 .intro i k o' hi ho'
  by_cases hid:i=id'
  .subst hid
   rw[hι]at hi;injection hi with hi;subst hi
   rw[hK']at ho';injection ho' with ho';subst ho'
   refine⟨_,hset,.cells _ _ _ (by rw[iX (by omega),hsize];exact hl) λj c hj=>?_⟩
   rw[vX (by omega)]at hj
   split at hj
   .rename_i hjj
    obtain⟨u,hu,hv⟩:=hcv.get hj
    refine⟨u,?_,hv.step hst⟩
    rw[<-hcur',Cb,Bb (by simp;omega),AZ (by simp;omega),Bt,BP,Dv (by omega),Bq]
    exact hu
   .rename_i hjj
    obtain⟨u,hu,hv⟩:=hcc j c hj
    have hjl:j<cs.length:=(AA.1 hj).1
    refine⟨u,?_,hv.step hst⟩
    rw[<-hcur',Cb]
    by_cases hjo:j<off
    .rw[Db,Bb (by simp;omega),BM,AB hjo,Bq];exact hu
    .rw[AZ (by omega),hlen2,B0,Bq,hus]
     rw[<-hu];congr 1;omega
  .obtain⟨hk1,hk2⟩:=hsub i o' hid ho'
   obtain⟨ob,h2,h3⟩:=hR.obj i k o' hi hk1
   refine⟨ob,(hoth k λe=>?_).trans h2,h3.step hst⟩
   subst e
   exact hid (hR.inj i id' k hi hι hk2 hC)
 .intro i i' k o1 o2 hi hi' hc h1 h2
  have hlay:(HO.cells e (lay cs off vs)).len=(HO.cells e cs).len:=by simp only[HO.len];exact iX (by omega)
  have hk1:∃q1,K i=Aa q1/\q1.len=o1.len:=by
   by_cases hid:i=id'
   .subst hid;rw[hK']at h1;injection h1 with h1;subst h1;exact⟨_,hHK _ _ hH,hlay.symm⟩
   .exact⟨o1,(hsub i o1 hid h1).1,rfl⟩
  have hk2:∃q2,K i'=Aa q2/\q2.len=o2.len:=by
   by_cases hid:i'=id'
   .subst hid;rw[hK']at h2;injection h2 with h2;subst h2;exact⟨_,hHK _ _ hH,hlay.symm⟩
   .exact⟨o2,(hsub i' o2 hid h2).1,rfl⟩
  obtain⟨q1,e1,l1⟩:=hk1
  obtain⟨q2,e2,l2⟩:=hk2
  rw[<-l1,<-l2]
  exact hR.len i i' k q1 q2 hi hi' hc e1 e2
end
end Go.Am
namespace Go.Am
open RowKit (Below)
def fJ(n:Al):Ad (Al×AV)->Aq Ae
 |[]=>Aj
 |x::es=>if x.1=n then Aa 0 else(fJ n es).map (·+1)
def aVw(es:Ad (Al×AV))(n:Al):Aq AV:=(fJ n es).bind λj=>(es[j]?).map (·.2)
def aNc(es:Ad (Al×AV))(n:Al)(v:AV):Ad (Al×AV):=match fJ n es with|some j=>es.set j (n,v)|none=>es++[(n,v)]
def aZw(es:Ad (Al×AV))(n:Al):Ad (Al×AV):=match fJ n es with|some j=>es.eraseIdx j|none=>es
section
variable {P:As} {F:Ae->Prop} {w:Ag} {ι:Ae->Aq Ae} {G:Ctx} {C:Ae->Prop} {H K:Hp}
def rO{k:BJ}{n:Al}:∀(es:Ad (Al×AV)) (l:Ad MapEntry) (i:Ae),es.length=l.length->(∀(j:Ae) x,es[j]? = Aa x->∃en,l[j]? = Aa en/\en.key=.int k x.1) ->
 G2 (.int k) (.int k n) l i=Aa ((fJ n es).bind λj=>(l[j]?).map λen=>(i+j,en.val))
 |[],[],i,_,_=>rfl
 | x::es,e::l,i,hl,h=>by
  obtain⟨en,h1,h2⟩:=h 0 x rfl;simp only[Ca,AH]at h1;subst h1;have ih:=rO (k:=k) (n:=n) es l (i+1) (by simpa using hl) λj y hy=>h (j+1) y (by simpa using hy)
  unfold G2 fJ;rw[h2];by_cases hx:x.1=n
  .simp[Instr.sameNow,hx]
  .have hne:(n==x.1)=false:=by simp;exact λe=>hx e.symm
   simp only[Instr.sameNow,CN,hne,Ap hx,ih];cases fJ n es with
   |none=>rfl
   |some j=>simp[EL,EF 1 j]
def oK{n:Al}:∀{es:Ad (Al×AV)} {j:Ae},fJ n es=Aa j->∃v,es[j]? = Aa (n,v)
 | x::es,j,h=>by
  unfold fJ at h;split at h
  .rename_i hx;injection h with h;subst h;exact⟨x.2,by simp[<-hx]⟩
  .obtain⟨i,hi,rfl⟩:=Ai.1 h;obtain⟨v,hv⟩:=oK hi;exact⟨v,by simpa using hv⟩
 |[],j,h=>by cases h
def aCm{n:Al}:∀{es:Ad (Al×AV)},fJ n es=Aj->∀(j:Ae) x,es[j]? = Aa x->x.1≠n
 |[],_,j,x,h=>by simp at h
 | y::es,hn,j,x,h=>by
  unfold fJ at hn;split at hn
  .cases hn
  .rename_i hy;have hn':=Option.map_eq_none_iff.1 hn;rcases j with _|j
   .simp at h;subst h;exact hy
   .exact aCm hn' j x (by simpa using h)
def zZ{t:AF}{p:AF×AF}(h:tmp P t=Aa p):P.underlying t=Aa (.map p.1 p.2):=by
 unfold tmp at h;split at h
 .injection h with h;subst h;assumption
 .cases h
def HR.mapOf(hR:HR G F w ι C K)(hHK:∀id o,H id=Aa o->K id=Aa o){id b:Ae}(hι:ι id=Aa b){k:BJ}{es:Ad (Al×AV)}(hH:H id=Aa (.map k es)) :
 ∃ents clock,w.heap[b]? = Aa (.map ents clock)/\es.length=ents.size/\Fc ents clock/\(∀(j:Ae) x,es[j]? = Aa x->∃en,ents[j]? = Aa en/\en.key=.int k x.1/\V F w ι x.2 en.val):=by
 obtain⟨ob,h2,h3⟩:=hR.obj id b _ hι (hHK _ _ hH)
 cases h3 with|map _ _ ents clock hl hst h=>exact⟨ents,clock,h2,hl,hst,h⟩
def bIh{k:BJ}{es:Ad (Al×AV)}{ents:Aw MapEntry}(hl:es.length=ents.size)(h:∀(j:Ae) x,es[j]? = Aa x->∃en,ents[j]? = Aa en/\en.key=.int k x.1/\V F w ι x.2 en.val) :
 ∀x∈ents.toList,EM (.int k) x.key:=by
 intro x hx
 obtain⟨j,hj,rfl⟩:=BE.1 hx
 have hj':j<es.length:=by simpa[hl]using hj
 obtain⟨en,h1,h2,_⟩:=h j _ (Ac hj')
 have hj2:j<ents.size:=by omega
 rw[Ar hj2]at h1
 injection h1 with h1
 simp only[Array.getElem_toList]
 rw[h1,h2];rfl
def vT(P:As)(t:AF)(k:BJ)(es:Ad (Al×AV))(x:AV)(ok:Bw):Aq AV :=
 (tmp P t).bind λp=>match x with
  | .d (.i k' n)=>if k'=k/\fS P p.1=Aa k then
    match aVw es n with
    |some v=>Aa (if ok then .tp [v,.d (.b Ak)]else v)
    |none=>(tz P p.2).map λz=>if ok then .tp [cv z,.d (.b Az)]else cv z
   else Aj
  |_=>Aj
def bSf(ks:Ad Al)(ds:Ad D):Ad (Al×AV):=(ks.zip ds).map λp=>(p.1,bH p.2)
def bVp(P:As)(t:AF)(x:AV)(ok:Bw):Aq AV :=
 (tmp P t).bind λp=>match x with
  |.d (.i k _)=>if fS P p.1=Aa k then(tz P p.2).map λz=>if ok then .tp [cv z,.d (.b Az)]else cv z else Aj
  |_=>Aj
def aGq(P:As)(H:Hp)(t:AF)(m x:AV)(ok:Bw):Aq AV :=
 match m with
 | .mp id=>match H id with
  |some (.map k es)=>vT P t k es x ok
  |_=>Aj
 |.d (.mp k ks ds)=>vT P t k (bSf ks ds) x ok
 |.d (.lit (.map Aj))=>bVp P t x ok
 |_=>Aj
def aVz{t:AF}{k:BJ}{es:Ad (Al×AV)}{x r:AV}{ok:Bw}{v:AE}{b:Ae}{ents:Aw MapEntry}{clock:Ae}(h:vT P t k es x ok=Aa r)(hb:w.heap[b]? = Aa (.map ents clock))(hl:es.length=ents.size)
 (hes:∀(j:Ae) x,es[j]? = Aa x->∃en,ents[j]? = Aa en/\en.key=.int k x.1/\V F w ι x.2 en.val) (hx:V F w ι x v):∃z,aU P (GI t (.map (Aa b)) v ok) w=.ok z w/\V F w ι r z:=by
 unfold vT at h
 obtain⟨p,hp,hq⟩:=Af.1 h
 clear h
 have h:=hq
 clear hq
 split at h
 case h_2=>cases h
 rename_i k' n
 split at h
 case isFalse=>cases h
 rename_i hk
 obtain⟨rfl,hk⟩:=hk
 cases hx with|d _ _ hx=>cases hx with|i =>
 have hu:=zZ hp
 have hf:=rO (k:=k') (n:=n) es ents.toList 0 (by simpa using hl) λj x hx=>let ⟨en,h1,h2,_⟩:=hes j x hx;⟨en,by simpa using h1,h2⟩
 have hki:P.underlying p.1=Aa (.int k'):=by
  unfold fS at hk;split at hk
  .injection hk with hk;subst hk;assumption
  .cases hk
 have hck:=pA (P:=P) (w:=w) (k:=.int k' n) hki (by simp[EM]) ents.isEmpty 9999
 have hfk:=qZ (P:=P) (w:=w) hki hf
 split at h
 .rename_i v hv
  injection h with h;subst h
  unfold aVw at hv
  obtain⟨j,hj,hv⟩:=Af.1 hv
  obtain⟨y,hy,rfl⟩:=Ai.1 hv
  obtain⟨en,h1,h2,h3⟩:=hes j y hy
  have h1':ents.toList[j]? = Aa en:=by simpa using h1
  rw[hj]at hfk
  simp only[EV,h1',Bj,AP]at hfk
  refine⟨if ok then .tuple #[en.val,.bool Ak]else en.val,?_,?_⟩
  .cases ok<;>simp[GI,aE hu,dB hb,hck,hfk]
  .cases ok
   .exact h3
   .refine .tp _ _ (by simp) λi c q hc hq=>?_
    rcases i with _|_|i
    .simp at hc hq;subst hc;subst hq;exact h3
    .simp at hc hq;subst hc;subst hq;exact .d _ _ (.b _)
    .simp at hc
 .rename_i hv
  obtain⟨z,hz,rfl⟩:=Ai.1 h
  have hn:fJ n es=none:=by
   cases hj:fJ n es with
   |none=>rfl
   | some j =>
    obtain⟨y,hy⟩:=oK hj;simp[aVw,hj,hy]at hv
  rw[hn]at hfk
  simp only[Option.bind_none]at hfk
  refine⟨if ok then .tuple #[z,.bool Az]else z,?_,?_⟩
  .cases ok<;>simp[GI,aE hu,dB hb,hck,hfk,gF w hz]
  .cases ok
   .exact bMn z
   .refine .tp _ _ (by simp) λi c q hc hq=>?_
    rcases i with _|_|i
    .simp at hc hq;subst hc;subst hq;exact bMn z
    .simp at hc hq;subst hc;subst hq;exact .d _ _ (.b _)
    .simp at hc
def bIr{k:BJ}{ks:Ad Al}{ds:Ad D}{ents:Aw MapEntry}(hk:∀(j:Ae) n,ks[j]? = Aa n->∃en,ents[j]? = Aa en/\en.key=.int k n)
 (hv:∀(j:Ae) d en,ds[j]? = Aa d->ents[j]? = Aa en->VD F w d en.val):∀(j:Ae) x,(bSf ks ds)[j]? = Aa x->∃en,ents[j]? = Aa en/\en.key=.int k x.1/\V F w ι x.2 en.val:=by
 intro j x hx
 unfold bSf at hx
 rw[Ao]at hx
 obtain⟨p,hp,rfl⟩:=Ai.1 hx
 obtain⟨h1,h2⟩:=FF.1 hp
 obtain⟨en,h3,h4⟩:=hk j _ h1
 exact⟨en,h3,h4,mS (hv j _ en h2 h3)⟩
def bRr(hR:HR G F w ι C K)(hHK:∀id o,H id=Aa o->K id=Aa o){t:AF}{m x r:AV}{ok:Bw}{u v:AE}(h:aGq P H t m x ok=Aa r)(hm:V F w ι m u)(hx:V F w ι x v) :
 ∃z,aU P (GI t u v ok) w=.ok z w/\V F w ι r z:=by
 unfold aGq at h
 split at h
 case h_4=>cases h
 .rename_i id
  cases hm with|mp _ b hι =>
  split at h
  case h_2=>cases h
  rename_i k es hH
  obtain⟨ents,clock,hb,hl,hst,hes⟩:=hR.mapOf hHK hι hH
  exact aVz h hb hl hes hx
 .rename_i k ks ds
  cases hm with|d _ _ hm=>cases hm with|mp _ _ _ b ents clock hF hb hst hl hl' hk hv =>
  exact aVz h hb (by simp[bSf];omega) (bIr hk hv) hx
 .cases hm with|d _ _ hm=>cases hm with|lit =>
  unfold bVp at h
  obtain⟨p,hp,hq⟩:=Af.1 h
  clear h
  have h:=hq
  clear hq
  split at h
  case h_2=>cases h
  rename_i k' n
  split at h
  case isFalse=>cases h
  rename_i hk
  cases hx with|d _ _ hx=>cases hx with|i =>
  have hu:=zZ hp
  have hki:P.underlying p.1=Aa (.int k'):=by
   unfold fS at hk;split at hk
   .injection hk with hk;subst hk;assumption
   .cases hk
  have hck:=pA (P:=P) (w:=w) (k:=.int k' n) hki (by simp[EM]) Ak 9999
  have hfk:=qZ (P:=P) (w:=w) hki (show G2 (.int k') (.int k' n) [] 0=Aa Aj from rfl)
  obtain⟨z,hz,rfl⟩:=Ai.1 h
  refine⟨if ok then .tuple #[z,.bool Az]else z,?_,?_⟩
  .cases ok<;>simp[GI,aE hu,hck,hfk,gF w hz]
  .cases ok
   .exact bMn z
   .refine .tp _ _ (by simp) λi c q hc hq=>?_
    rcases i with _|_|i
    .simp at hc hq;subst hc;subst hq;exact bMn z
    .simp at hc hq;subst hc;subst hq;exact .d _ _ (.b _)
    .simp at hc
def aGm(H:Hp)(m:AV):Aq Ae:=match m with
 | .mp id=>match H id with
  |some (.map _ es)=>Aa es.length
  |_=>Aj
 |_=>Aj
def bRi(hR:HR G F w ι C K)(hHK:∀id o,H id=Aa o->K id=Aa o){t ty:AF}{m:AV}{u:AE}{n:Ae}(ht:(tmp P t).isSome=Ak)(h:aGm H m=Aa n)(hm:V F w ι m u) :
 aU P (GH #[t] ty #[u]) w=.ok (.int .i64 n) w:=by
 unfold aGm at h
 split at h
 case h_2=>cases h
 rename_i id
 split at h
 case h_2=>cases h
 rename_i k es hH
 injection h with h;subst h
 cases hm with|mp _ b hι =>
 obtain⟨ents,clock,hb,hl,_⟩:=hR.mapOf hHK hι hH
 obtain⟨p,hp⟩:=Dj.1 ht
 have hu:=zZ hp
 simp[GH,aE hu,dB hb,hl,goInt]
def cAd(H:Hp)(x:AV):Aq AV:=match x with
 | .ptr id 0=>match H id with
  |some (.iter k (Aa e) _)=>Aa (.tp [.d (.i k e.1),bH e.2])
  |_=>Aj
 |_=>Aj
def cAc(hR:HR G F w ι C K)(hHK:∀id o,H id=Aa o->K id=Aa o){x r:AV}{u:AE}(h:cAd H x=Aa r)(hx:V F w ι x u):∃z,aU P (Instr.entry u) w=.ok z w/\V F w ι r z:=by
 unfold cAd at h;split at h
 case h_2=>cases h
 rename_i id;cases hx with|ptr _ _ b hι =>
 split at h
 case h_2=>cases h
 rename_i k e es hH;injection h with h;subst h
 obtain⟨ob,hb,hcr⟩:=hR.obj id b _ hι (hHK _ _ hH);cases hcr with|iter _ _ _ bm since c0 clock seen ents hF hbm hold hsc hn hl hh hla =>
 obtain⟨rfl,en,seen0,rfl,hen,hk,hv⟩:=hla e rfl;refine⟨_,aIp w b bm since seen0 ents c0 en hb hbm hen hn,?_⟩;refine .tp _ _ (by simp) λi c q hc hq=>?_
 rcases i with _|_|i
 .simp at hc hq;subst hc;subst hq;rw[hk];exact .d _ _ (.i _ _)
 .simp at hc hq;subst hc;subst hq;exact mS hv
 .simp at hc
def HR.write(hR:HR G F w ι C K){id b:Ae}{w':Ag}{ob ob':Obj}{old ho:HO}{K':Hp}(hC:¬C id)(hι:ι id=Aa b)(hold:K id=Aa old)(hlen:ho.len=old.len)
 (hk:Kept (·=b) w.heap.size w w') (hb:w.heap[b]? = Aa ob) (hb':w'.heap[b]? = Aa ob')
 (hshape:∀cur e,ob=.cells cur e (0,0)->∃cur',ob'=.cells cur' e (0,0)/\cur'.size=cur.size)
 (hcr:Step F w ι (λk=>F k\/(w.heap.size<=k/\k<w'.heap.size)) w' ι->CR (λk=>F k\/(w.heap.size<=k/\k<w'.heap.size)) w' ι ho ob')
 (hK':K' id=Aa ho) (hsub:∀j o,j≠id->K' j=Aa o->K j=Aa o/\¬C j) :
 HR G (λk=>F k\/(w.heap.size<=k/\k<w'.heap.size)) w' ι C K'/\Step F w ι (λk=>F k\/(w.heap.size<=k/\k<w'.heap.size)) w' ι:=by
 have hnF:¬F b:=(hR.place id b hι).2.2 hC
 have hoth:∀k,k<w.heap.size->k≠b->w'.heap[k]? = w.heap[k]? := λk hk1 hk2=>hk.block k hk1 hk2
 have hst:Step F w ι (λk=>F k\/(w.heap.size<=k/\k<w'.heap.size)) w' ι:=by
  refine⟨λ_ h=>.inl h,λk hkF=>hoth k (hR.F_lt k hkF) (λe=>hnF (e ▸ hkF)),λ_ _ h=>h,λi k c0 e0 hi hk0=>?_⟩;by_cases hkb:k=b
  .subst hkb;rw[hb]at hk0;injection hk0 with hk0
   obtain⟨cur',h1,h2⟩:=hshape c0 e0 hk0;exact⟨cur',by rw[hb',h1],h2⟩
  .exact⟨c0,(hoth k (hR.ι_lt hi) hkb).trans hk0,rfl⟩
 have hW:G.W.heap.size<=w.heap.size:=hR.kept.size
 have hsz:=hk.size
 refine⟨⟨hR.kept.trans ⟨hk.os,hk.tape,hk.output,hk.size,λk hkW hm=>hoth k (by omega) λe=>?_,λk c0 e0 hkW hc=>hk.shape k c0 e0 (by omega) hc⟩,?_,?_,?_,?_,hR.inj,?_⟩,hst⟩
 .subst e
  rcases(hR.place id k hι).1 with h|h
  .exact hm h
  .omega
 .rintro k (h|h)
  .have:=hR.F_lt k h;omega
  .exact h.2
 .rintro k (h|h)
  .exact hR.F_ok k h
  .exact .inr (.inr (by omega))
 .intro i k hi
  obtain⟨p1,p2,p3⟩:=hR.place i k hi
  exact⟨p1,by omega,λhc h=>h.elim (p3 hc) λh=>by omega⟩
 .intro i k o' hi ho'
  by_cases hid:i=id
  .subst hid
   rw[hι]at hi;injection hi with hi;subst hi
   rw[hK']at ho';injection ho' with ho';subst ho'
   exact⟨ob',hb',hcr hst⟩
  .obtain⟨hk1,hk2⟩:=hsub i o' hid ho'
   obtain⟨ob2,h2,h3⟩:=hR.obj i k o' hi hk1
   refine⟨ob2,(hoth k (hR.ι_lt hi) λe=>?_).trans h2,h3.step hst⟩
   subst e
   exact hid (hR.inj i id k hi hι hk2 hC)
 .intro i i' k o1 o2 hi hi' hc h1 h2
  have hk1:∃q1,K i=Aa q1/\q1.len=o1.len:=by
   by_cases hid:i=id
   .subst hid;rw[hK']at h1;injection h1 with h1;subst h1;exact⟨_,hold,hlen.symm⟩
   .exact⟨o1,(hsub i o1 hid h1).1,rfl⟩
  have hk2:∃q2,K i'=Aa q2/\q2.len=o2.len:=by
   by_cases hid:i'=id
   .subst hid;rw[hK']at h2;injection h2 with h2;subst h2;exact⟨_,hold,hlen.symm⟩
   .exact⟨o2,(hsub i' o2 hid h2).1,rfl⟩
  obtain⟨q1,e1,l1⟩:=hk1
  obtain⟨q2,e2,l2⟩:=hk2
  rw[<-l1,<-l2]
  exact hR.len i i' k q1 q2 hi hi' hc e1 e2
def rG(P:As)(H:Hp)(t:AF)(m x:AV)(v:Aq AV):Aq (Ae×HO) :=
 match m with
 | .mp id=>match H id with
  | some (.map k es)=>(tmp P t).bind λp=>match x with
   |.d (.i k' n)=>if k'=k/\fS P p.1=Aa k then Aa (id,.map k (match v with|some v=>aNc es n v|none=>aZw es n))else Aj
   |_=>Aj
  |_=>Aj
 |_=>Aj
def bRh{F':Ae->Prop}{w':Ag}{k:BJ}{n:Al}{v:AV}{u:AE}{es:Ad (Al×AV)}{ents:Aw MapEntry}{clock:Ae}(hst:Fc ents clock)(hl:es.length=ents.size)
 (hes:∀(j:Ae) x,es[j]? = Aa x->∃en,ents[j]? = Aa en/\en.key=.int k x.1/\V F' w' ι x.2 en.val) (hv:V F' w' ι v u) :
 CR F' w' ι (.map k (aNc es n v)) (match fJ n es with
  |some j=>.map (ents.modify j λe=>{ e with key:=.int k n,val:=u }) clock
  |none=>.map (ents.push { key:=.int k n,val:=u,born:=clock }) (clock+1)):=by
 unfold aNc
 cases hj:fJ n es with
 | some j =>
  obtain⟨v0,hj0⟩:=oK hj
  obtain⟨e0,q1,q2,_⟩:=hes j _ hj0
  have hjl:j<ents.size:=(Bm.1 q1).1
  refine .map _ _ _ _ (by simp[hl]) (MapKept.stamped_modify hst _ _ (λ_ _=>rfl) λe' _ he'=>?_) λi x hx=>?_
  .rw[q1]at he';cases he';exact q2.symm
  .simp only at hx
   rw[List.getElem?_set]at hx
   by_cases hij:j=i
   .subst hij
    have:j<es.length:=by omega
    simp only[CN,this,AH]at hx
    subst hx
    exact⟨{ e0 with key:=.int k n,val:=u },by simp[Gc,q1],rfl,hv⟩
   .rw[Ap hij]at hx
    obtain⟨en,h1,h2,h3⟩:=hes i x hx
    exact⟨en,by simp[Gc,hij,h1],h2,h3⟩
 | none =>
  refine .map _ _ _ _ (by simp[hl]) (MapKept.stamped_push hst λx hx=>?_) λi x hx=>?_
  .obtain⟨i,hi,rfl⟩:=BE.1 hx
   have hi':i<es.length:=by simpa[hl]using hi
   obtain⟨en,h1,h2,_⟩:=hes i _ (Ac hi')
   have hi2:i<ents.size:=by omega
   rw[Ar hi2]at h1;injection h1 with h1
   simp only[Array.getElem_toList]
   rw[h1,h2]
   intro he;injection he with _ he
   exact aCm hj i _ (Ac hi') he
  .rw[List.getElem?_append]at hx
   split at hx
   .rename_i hi
    obtain⟨en,h1,h2,h3⟩:=hes i x hx
    exact⟨en,by rw[BW,Ap (by omega)];exact h1,h2,h3⟩
   .rename_i hi
    have hi0:i=es.length:=by have:=(AA.1 hx).1;simp at this;omega
    subst hi0
    simp at hx;subst hx
    exact⟨_,by rw[BW,AB hl],rfl,hv⟩
def bRl{F':Ae->Prop}{w':Ag}{k:BJ}{n:Al}{es:Ad (Al×AV)}{ents:Aw MapEntry}{clock:Ae}(hst:Fc ents clock)(hl:es.length=ents.size)
 (hes:∀(j:Ae) x,es[j]? = Aa x->∃en,ents[j]? = Aa en/\en.key=.int k x.1/\V F' w' ι x.2 en.val) :
 CR F' w' ι (.map k (aZw es n)) (match fJ n es with
  |some j=>.map (ents.eraseIdxIfInBounds j) clock
  |none=>.map ents clock):=by
 unfold aZw
 cases hj:fJ n es with
 | some j =>
  obtain⟨v0,hj0⟩:=oK hj
  have hjl:j<es.length:=(AA.1 hj0).1
  have hjl':j<ents.size:=by omega
  refine .map _ _ _ _ (by simp[List.length_eraseIdx,G3,hjl',hl]) (MapKept.stamped_erase hst _) λi x hx=>?_
  simp only at hx
  rw[List.getElem?_eraseIdx]at hx
  have he:(ents.eraseIdxIfInBounds j)[i]? = if i<j then ents[i]? else ents[i+1]? := by simp only[G3,dif_pos hjl'];rw[Array.getElem?_eraseIdx]
  rw[he]
  split at hx
  .rename_i h;rw[AB h];exact hes i x hx
  .rename_i h;rw[Ap h];exact hes (i+1) x hx
 |none=>exact .map _ _ _ _ hl hst hes
variable [M:Mch P] {Γ:Ae->AV} {o:Bf}
def bEp{b:Ae}{ob:Obj}(ob':Obj)(hb:w.heap[b]? = Aa ob)(hs:∀cur e,ob≠.cells cur e (0,0)):Kept (·=b) w.heap.size w { w with heap:=w.heap.setIfInBounds b ob' } :=
 ⟨rfl,rfl,rfl,by simp,λk _ hk=>(MapKept.heap_set hb).2 k hk,λk cur e _ hc=>by
  by_cases hkb:k=b
  .subst hkb;rw[hb]at hc;injection hc with hc;exact(hs _ _ hc).elim
  .exact⟨cur,((MapKept.heap_set hb).2 k hkb).trans hc,rfl⟩⟩
def aPw{t:AF}{m x:AN}{v:Aq AN}{id:Ae}{ho:HO}{K':Hp}
 (hop_:(∃y,v=Aa y/\(o.op=.mapUpdate t m x y\/o.op=.insert t m x y))\/(v=Aj/\∃kt,o.op=.call { callee:=.builtin .delete,args:=#[m,x],argTypes:=#[t,kt] })) (hHK:∀id ob,H id=Aa ob->K id=Aa ob)
 (h:rG P H t (oev Γ m) (oev Γ x) (v.map (oev Γ))=Aa (id,ho)) (hC:¬C id) (hK':K' id=Aa ho) (hsub:∀j o,j≠id->K' j=Aa o->K j=Aa o/\¬C j) :
 Y P G o Γ C K K' .any bG bG:=by
 intro F w ι a hok hR hop _ next hnext
 have om:V F w ι (oev Γ m) (a.eval m):=cD λt e=>hop t (by rcases hop_ with ⟨y,_,h|h⟩|⟨_,kt,h⟩<;>rw[h]<;>simp[AJ,Bs,e])
 have ox:V F w ι (oev Γ x) (a.eval x):=cD λt e=>hop t (by rcases hop_ with ⟨y,_,h|h⟩|⟨_,kt,h⟩<;>rw[h]<;>simp[AJ,Bs,e])
 unfold rG at h
 split at h
 case h_2=>cases h
 rename_i id' hm
 rw[hm]at om
 generalize hme:a.eval m=vm at om
 cases om with|mp _ b hι =>
 split at h
 case h_2=>cases h
 rename_i k es hH
 obtain⟨p,hp,hq⟩:=Af.1 h
 clear h
 have h:=hq
 clear hq
 split at h
 case h_2=>cases h
 rename_i k' n hxx
 split at h
 case isFalse=>cases h
 rename_i hk
 obtain⟨rfl,hk⟩:=hk
 injection h with h;injection h with e1 e2;subst e1;subst e2
 rw[hxx]at ox
 generalize hxe:a.eval x=vx at ox
 cases ox with|d _ _ ox=>cases ox with|i =>
 obtain⟨ents,clock,hb,hl,hst,hes⟩:=hR.mapOf hHK hι hH
 have hu:=zZ hp
 have hf:=rO (k:=k') (n:=n) es ents.toList 0 (by simpa using hl) λj x hx=>let ⟨en,h1,h2,_⟩:=hes j x hx;⟨en,by simpa using h1,h2⟩
 have hki:P.underlying p.1=Aa (.int k'):=by
  unfold fS at hk;split at hk
  .injection hk with hk;subst hk;assumption
  .cases hk
 have hks:=bIh (F:=F) (w:=w) (ι:=ι) hl hes
 have hik:EM (.int k') (.int k' n):=by simp[EM]
 have hck:=λe=>pA (P:=P) (w:=w) (k:=.int k' n) hki hik e 9999
 have hfk:=qZ (P:=P) (w:=w) hki hf
 have key:∀(ob':Obj),gQ P o a next (aU P (execOp a.eval o) w)=next (a.put o.dst (match v with|some _=>undef|none=>.tuple #[])) { w with heap:=w.heap.setIfInBounds b ob' } ->
  (∀F' w',Step F w ι F' w' ι->CR F' w' ι (.map k' (match v.map (oev Γ)with|some v=>aNc es n v|none=>aZw es n)) ob')->wpX P o a w next:=by
  intro ob' hrun hcr
  unfold wpX
  rw[hrun]
  obtain⟨hR',hst'⟩:=hR.write (K':=K') (ob':=ob') (ho:=.map k' (match v.map (oev Γ)with|some v=>aNc es n v|none=>aZw es n)) (old:=.map k' es) hC hι (hHK _ _ hH) rfl (bEp ob' hb (λ_ _ h=>by cases h)) hb (MapKept.heap_set hb).1
   (λcur e he=>by cases he) (λhs=>hcr _ _ hs) hK' hsub
  exact hnext _ _ ι _ (hR'.congrC λid=>by simp[bG]) hst' (λ_ _ h=>.inl h) (λ_ h=>h.elim) (.any _)
 rcases hop_ with ⟨y,rfl,hop1⟩|⟨rfl,kt,hop1⟩
 .have oy:V F w ι (oev Γ y) (a.eval y):=cD λt e=>hop t (by rcases hop1 with h|h<;>rw[h]<;>simp[AJ,e])
  have hx2:execOp a.eval o=execOp a.eval { o with op:=.mapUpdate t m x y }:=by rcases hop1 with h|h<;>simp[execOp,h]
  refine key _ ?_ λF' w' hs=>bRh (n:=n) (u:=a.eval y) hst hl (λj x hx=>let ⟨en,h1,h2,h3⟩:=hes j x hx;⟨en,h1,h2,h3.step hs⟩) (oy.step hs)
  rw[hx2]
  cases hj:fJ n es with
  | some j =>
   obtain⟨v0,hj0⟩:=oK hj
   obtain⟨e0,q1,q2,_⟩:=hes j _ hj0
   have q1':ents.toList[j]? = Aa e0:=by simpa using q1
   rw[hj]at hfk
   simp only[EV,q1',Bj,AP]at hfk
   simp[execOp,hme,hxe,Instr.mapUpdate,aE hu,dB hb,hck,hfk,q1,q2,xM hik,jJ hb,gQ]
  | none =>
   rw[hj]at hfk
   simp only[Option.bind_none]at hfk
   simp[execOp,hme,hxe,Instr.mapUpdate,aE hu,dB hb,hck,hfk,jJ hb,gQ]
 .refine key _ ?_ λF' w' hs=>bRl (n:=n) hst hl (λj x hx=>let ⟨en,h1,h2,h3⟩:=hes j x hx;⟨en,h1,h2,h3.step hs⟩)
  cases hj:fJ n es with
  | some j =>
   obtain⟨v0,hj0⟩:=oK hj
   obtain⟨e0,q1,q2,_⟩:=hes j _ hj0
   have q1':ents.toList[j]? = Aa e0:=by simpa using q1
   rw[hj]at hfk
   simp only[EV,q1',Bj,AP]at hfk
   simp[execOp,hop1,resolve,invoke,builtin,hme,hxe,Builtin.delete_,aE hu,dB hb,hck,hfk,jJ hb,gQ]
  | none =>
   rw[hj]at hfk
   simp only[Option.bind_none]at hfk
   simp[execOp,hop1,resolve,invoke,builtin,hme,hxe,Builtin.delete_,aE hu,dB hb,hck,hfk,jJ hb,gQ]
end
def aFb:AV->Bw
 |.d _|.nil|.fp _|.fd _|.un|.ub|.any=>Ak
 |_=>Az
def noh:AV->Bw
 |.ag cs=>cs.all aFb
 |x=>aFb x
def kL:HO->Bw
 |.cells _ cs=>cs.all noh
 |.map _ es=>es.all λp=>noh p.2
 |.iter ..=>Ak
section
variable {P:As} {F:Ae->Prop} {w:Ag} {ι:Ae->Aq Ae} {G:Ctx} {C:Ae->Prop} {H K:Hp}
def aUa{x:AV}{v:AE}{ι':Ae->Aq Ae}(hn:aFb x=Ak)(h:V F w ι x v):V F w ι' x v:=by
 cases h with
 |d x v h=>exact .d _ _ h
 |nil=>exact .nil
 |fp cs ad f hF hcell hel=>exact .fp _ _ f hF hcell hel
 |fd els ad n h=>exact .fd _ _ _ h
 |un=>exact .un
 |ub t=>exact .ub t
 |any v=>exact .any v
 |_=>cases hn
def bWb{x:AV}{v:AE}{ι':Ae->Aq Ae}(hn:noh x=Ak)(h:V F w ι x v):V F w ι' x v:=by
 cases h with
 |ag cs vs hl h=>exact .ag _ _ hl λk c v hc hv=>aUa (A1.1 hn c (At hc)) (h k c v hc hv)
 |d x v h=>exact .d _ _ h
 |nil=>exact .nil
 |fp cs ad f hF hcell hel=>exact .fp _ _ f hF hcell hel
 |fd els ad n h=>exact .fd _ _ _ h
 |un=>exact .un
 |ub t=>exact .ub t
 |any v=>exact .any v
 |_=>cases hn
def yS{o:HO}{ob:Obj}{ι':Ae->Aq Ae}(hn:kL o=Ak)(h:CR F w ι o ob):CR F w ι' o ob:=by
 cases h with
 |cells e cs cur hl h=>exact .cells _ _ _ hl λk c hk=>let ⟨u,h1,h2⟩:=h k c hk;⟨u,h1,bWb (A1.1 hn c (At hk)) h2⟩
 |map k es ents clock hl hst h=>exact .map _ _ _ _ hl hst λj x hj=>let ⟨en,h1,h2,h3⟩:=h j x hj;⟨en,h1,h2,bWb (A1.1 hn x (At hj)) h3⟩
 |iter k last es bm since c0 clock seen ents hF hb hold hsc hnd hl h hla=>exact .iter k last es bm since c0 clock seen ents hF hb hold hsc hnd hl h hla
def mH{f g:AV->Aq D}{v v':AV->Ad Ae}:∀(l:Ad AV) (ds:Ad D),l.mapM f=Aa ds->l.flatMap v=[]->(∀x∈l,∀d,f x=Aa d->v x=[]->g x=Aa d/\v' x=[])->l.mapM g=Aa ds/\l.flatMap v'=[]
 |[],ds,h,_,_=>by simpa using h
 | x::l,ds,h,hv,ih=>by
  simp only[CG,Dk,Af,D9,AH]at h;obtain⟨y,hy,r',hr',rfl⟩:=h;simp only[GW,List.append_eq_nil_iff]at hv;obtain⟨h1,h2⟩:=ih x (AX ..) y hy hv.1;obtain⟨h3,h4⟩:=mH l r' hr' hv.2 λx hx=>ih x (AT _ hx)
  exact⟨by simp[h1,h3],by simp[h2,h4]⟩
def sZ{H H':Hp}:∀(n:Ae) (x:AV) (d:D),frz H n x=Aa d->vis H n x=[]->frz H' n x=Aa d/\vis H' n x=[]
 |0,_,_,h,_=>by cases h
 | n+1,x,d,h,hv=>by
  cases x with
  |d y=>exact⟨h,rfl⟩
  |nil=>exact⟨h,rfl⟩
  |fd els=>exact⟨h,rfl⟩
  |fp cs=>exact⟨h,rfl⟩
  | ptr id off =>
   exfalso;simp only[frz]at h;simp only[vis]at hv;split at h
   .rename_i hH;rw[hH]at hv;cases hv
   .cases h
  | mp id =>
   exfalso;simp only[frz]at h;simp only[vis]at hv;split at h
   .rename_i hH;rw[hH]at hv;cases hv
   .cases h
  | fn f cs =>
   simp only[frz,vis]at h hv ⊢;obtain⟨l,hl,rfl⟩:=Ai.1 h;obtain⟨h1,h2⟩:=mH cs l hl hv λx _ d hx hv=>sZ n x d hx hv
   exact⟨by rw[h1];rfl,h2⟩
  | own id off len sz =>
   exfalso;simp only[frz]at h;simp only[vis]at hv;split at h
   .rename_i hH;rw[hH]at hv;cases hv
   .cases h
  | ag cs =>
   simp only[frz,vis]at h hv ⊢;obtain⟨l,hl,rfl⟩:=Ai.1 h;obtain⟨h1,h2⟩:=mH cs l hl hv λx _ d hx hv=>sZ n x d hx hv
   exact⟨by rw[h1];rfl,h2⟩
  | tp cs =>
   simp only[frz,vis]at h hv ⊢;obtain⟨l,hl,rfl⟩:=Ai.1 h;obtain⟨h1,h2⟩:=mH cs l hl hv λx _ d hx hv=>sZ n x d hx hv
   exact⟨by rw[h1];rfl,h2⟩
  |_=>cases h
def aDc{H H':Hp}{l:Ad AV}{ds:Ad D}(hv:bW H l=[])(h:cK H l=Aa ds):cK H' l=Aa ds/\bW H' l=[] :=
 mH l ds h hv λx _ d hx hv=>sZ 8 x d hx hv
def ι1(b:Ae):Ae->Aq Ae:=λid=>if id=0 then Aa b else Aj
def hd1:AV->Aq (Ae×AV)
 |.mp id=>Aa (id,.mp 0)
 |.own id off len sz=>Aa (id,.own 0 off len sz)
 |.ptr id off=>Aa (id,.ptr 0 off)
 |.bm f id off=>Aa (id,.bm f 0 off)
 |_=>Aj
def aNv{F':Ae->Prop}{x h:AV}{id:Ae}{v:AE}(he:hd1 x=Aa (id,h))(hv:V F w ι x v):∃b,ι id=Aa b/\V F' w (ι1 b) h v:=by
 unfold hd1 at he;split at he<;>first|(cases he;done)|(injection he with he;injection he with e1 e2;subst e1;subst e2)
 .cases hv with|mp _ b hι=>exact⟨b,hι,.mp _ _ rfl⟩
 .cases hv with|own _ _ _ _ b cap cur e hι hb hcap hl hm=>exact⟨b,hι,.own _ _ _ _ b cap cur e rfl hb hcap hl hm⟩
 .cases hv with|ptr _ _ b hι=>exact⟨b,hι,.ptr _ _ _ rfl⟩
 .cases hv with|bm _ _ _ b hι=>exact⟨b,hι,.bm _ _ _ _ rfl⟩
def jV(P:As)[M:Mch P](f:AU)(h:AV)(o:HO)(ds:Ad D)(o':HO)(r:D):Prop :=
 ∀(A:Ae->Prop) (W:Ag) (vs:Aw AE) (b:Ae),(∀k,A k->k<W.heap.size)->¬A b->b<W.heap.size->(∃ob,W.heap[b]? = Aa ob/\CR A W (ι1 b) o ob)->ds.length+1=vs.size ->
  (∃v,vs[0]? = Aa v/\V A W (ι1 b) h v)->(∀(k:Ae) d v,ds[k]? = Aa d->vs[k+1]? = Aa v->VD A W d v) ->
  (∀w,aU P (callFunc f vs) w=.ok (.enter f vs) w)/\CX P f vs W λv w'=>∃ob',Kept (·=b) W.heap.size W w'/\w'.heap[b]? = Aa ob' /\
   (∀cur e,W.heap[b]? = Aa (.cells cur e (0,0))->∃cur',ob'=.cells cur' e (0,0)/\cur'.size=cur.size) /\
   CR (λk=>A k\/(W.heap.size<=k/\k<w'.heap.size)) w' (ι1 b) o' ob'/\VD (λk=>A k\/(W.heap.size<=k/\k<w'.heap.size)) w' r v
variable [M:Mch P] {Γ:Ae->AV} {o:Bf}
def bNc{f:AU}{args:Aw AN}{ts:Aw AF}{x:AN}{rest:Ad AN}{ds:Ad D}{id:Ae}{h:AV}{ho ho':HO}{r:D}{K':Hp}
 (hop_:o.op=.call { callee:=.value (.func f),args:=args,argTypes:=ts }) (hargs:args.toList=x::rest) (hHK:∀id ob,H id=Aa ob->K id=Aa ob)
 (hx:hd1 (oev Γ x)=Aa (id,h)) (hH:H id=Aa ho) (hno:kL ho=Ak) (hvis:bW H (rest.map (oev Γ))=[]) (hf:cK H (rest.map (oev Γ))=Aa ds) (hs:jV P f h ho ds ho' r)
 (hlen:ho'.len=ho.len) (hno':kL ho'=Ak) (hC:¬C id) (hK':K' id=Aa ho') (hsub:∀j o,j≠id->K' j=Aa o->K j=Aa o/\¬C j):Y P G o Γ C K K' (inj r) bG bG:=by
 intro F w ι a hok hR hop _ next hnext
 have hargs':args=(x::rest).toArray:=by rw[<-hargs]
 have hop':∀y∈x::rest,V F w ι (oev Γ y) (a.eval y):=λy hy=>cD λt e=>hop t (by rw[hop_];subst e;simp only[AJ,Bs];rw[hargs'];simpa using hy)
 obtain⟨b,hι,hv0⟩:=aNv (F':=F) hx (hop' x (AX ..))
 obtain⟨ob,hb,hcr⟩:=hR.obj id b ho hι (hHK _ _ hH)
 obtain⟨hl,hV,_⟩:=mN hR hHK hf λy hy=>hop' y (AT _ hy)
 have hmap:args.map a.eval=(a.eval x::rest.map a.eval).toArray:=by rw[hargs'];simp
 have hnF:¬F b:=(hR.place id b hι).2.2 hC
 obtain⟨hent,hcalls⟩:=hs F w (args.map a.eval) b hR.F_lt hnF (hR.ι_lt hι) ⟨ob,hb,yS hno hcr⟩ (by rw[hmap];simp at hl ⊢;omega) ⟨a.eval x,by rw[hmap];simp,hv0⟩
  (λk d v hk hv=>(hV k d v hk (by rw[hmap]at hv;simpa using hv)).mono λc hc=>by
   rcases hc with hc|⟨i,hi,_⟩
   .exact hc
   .rw[hvis]at hi;cases hi)
 unfold wpX
 have hfe:a.eval (.func f)=.func (.func f) #[] #[]:=rfl
 simp only[execOp,hop_,resolve,invoke,aB,hfe,Cx,aX,AR,Cy,CP,hent,gQ]
 refine hcalls.mono ?_
 rintro v w' ⟨ob',hk,hb',hshape,hcr',hvd⟩
 obtain⟨hR',hst⟩:=hR.write (K':=K') (ob':=ob') (ho:=ho') hC hι (hHK _ _ hH) hlen hk hb hb' (λcur e he=>hshape cur e (by rw[hb,he])) (λ_=>yS hno' hcr') hK' hsub
 exact hnext _ w' ι v (hR'.congrC λid=>by simp[bG]) hst (λ_ _ h=>.inl h) (λ_ h=>h.elim) (aEg hvd)
def aPl(P:As)[M:Mch P](f:AU)(h:AV)(o:Aq HO)(ds:Ad D)(r:D):Prop :=
 ∀(A:Ae->Prop) (W:Ag) (vs:Aw AE) (ι:Ae->Aq Ae),(∀k,A k->k<W.heap.size)->(∀id b,ι id=Aa b->id=0/\¬A b/\b<W.heap.size)->(∀ho,o=Aa ho->∃b ob,ι 0=Aa b/\W.heap[b]? = Aa ob/\CR A W ι ho ob)->ds.length+1=vs.size ->
  (∃v,vs[0]? = Aa v/\V A W ι h v)->(∀(k:Ae) d v,ds[k]? = Aa d->vs[k+1]? = Aa v->VD A W d v) ->
  (∀w,aU P (callFunc f vs) w=.ok (.enter f vs) w)/\CX P f vs W λv w'=>Kept (λb=>ι 0=Aa b) W.heap.size W w' /\
   VD (λk=>A k\/ι 0=Aa k\/(W.heap.size<=k/\k<w'.heap.size)) w' r v
def hd0:AV->Aq D
 |.d x=>Aa x
 |.nil=>Aa (.sl [])
 |_=>Aj
def bSv{x:AV}{d:D}(h:hd0 x=Aa d):aFb x=true:=by unfold hd0 at h;split at h<;>first|rfl|cases h
def cDu{F:Ae->Prop}{w:Ag}{ι:Ae->Aq Ae}{x:AV}{d:D}{v:AE}(h:hd0 x=Aa d)(hv:V F w ι x v):VD F w d v:=by
 unfold hd0 at h;split at h
 .injection h with h;subst h;cases hv with|d _ _ h=>exact h
 .injection h with h;subst h;cases hv;exact .sl0 Aj 0
 .cases h
def uW{P:As}[M:Mch P]{f:AU}{x:AV}{d:D}{ds:Ad D}{r:D}(h:hd0 x=Aa d)(hs:Spec P f (d::ds) r):aPl P f x Aj ds r:=by
 intro A W vs ι hA hι ho hl hv0 hv;obtain⟨v0,h0,hV0⟩:=hv0;obtain⟨h1,h2⟩:=hs A W vs hA (by simpa using hl) λk d' v hk hv'=>by
  cases k with
  | zero =>
   simp only[Ca,AH]at hk;subst hk;rw[h0]at hv';injection hv' with hv';subst hv'
   exact cDu h hV0
  |succ k=>exact hv k d' v (by simpa using hk) hv'
 refine⟨h1,h2.mono ?_⟩;rintro v w' ⟨hb,hvd⟩;refine⟨Kept.below hb (AM _),hvd.mono ?_⟩;rintro k (hk|hk)
 .exact .inl hk
 .exact .inr (.inr hk)
def kX{f g:AV->Aq D}{v v':AV->Ad Ae}{Q:Ae->Prop}:∀(l:Ad AV) (ds:Ad D),l.mapM f=Aa ds->(∀i∈l.flatMap v,Q i)->(∀x∈l,∀d,f x=Aa d->(∀i∈v x,Q i)->g x=Aa d/\v' x=v x)->l.mapM g=Aa ds/\l.flatMap v'=l.flatMap v
 |[],ds,h,_,_=>by simpa using h
 | x::l,ds,h,hv,ih=>by
  simp only[CG,Dk,Af,D9,AH]at h;obtain⟨y,hy,r',hr',rfl⟩:=h;simp only[GW,List.mem_append]at hv;obtain⟨h1,h2⟩:=ih x (AX ..) y hy λi hi=>hv i (.inl hi)
  obtain⟨h3,h4⟩:=kX l r' hr' (λi hi=>hv i (.inr hi)) λx hx=>ih x (AT _ hx)
  exact⟨by simp[h1,h3],by simp[h2,h4]⟩
def pQ{H H':Hp}:∀(n:Ae) (x:AV) (d:D),frz H n x=Aa d->(∀i∈vis H n x,H' i=H i)->frz H' n x=Aa d/\vis H' n x=vis H n x
 |0,_,_,h,_=>by cases h
 | n+1,x,d,h,hv=>by
  cases x with
  |d y=>exact⟨h,rfl⟩
  |nil=>exact⟨h,rfl⟩
  |fd els=>exact⟨h,rfl⟩
  |fp cs=>exact⟨h,rfl⟩
  | ptr id off =>
   simp only[frz]at h;simp only[vis]at hv ⊢;split at h
   case h_2=>cases h
   rename_i e cs hH;rw[hH]at hv;have hH':H' id=Aa (.cells e cs):=by rw[hv id (AX ..),hH]
   split at h
   case isFalse=>cases h
   rename_i hc;obtain⟨l,hl,rfl⟩:=Ai.1 h;obtain⟨h1,h2⟩:=kX (Q:=λi=>H' i=H i) (g:=frz H' n) (v':=vis H' n) _ l hl (λi hi=>hv i (AT _ hi)) λx _ d hx hv=>pQ n x d hx hv
   simp only[frz,hH',hH,AB hc,h1,h2,Bj,and_self]
  | mp id =>
   simp only[frz]at h;simp only[vis]at hv ⊢;split at h
   case h_2=>cases h
   rename_i k es hH;rw[hH]at hv;have hH':H' id=Aa (.map k es):=by rw[hv id (AX ..),hH]
   obtain⟨l,hl,rfl⟩:=Ai.1 h;obtain⟨h1,h2⟩:=kX (Q:=λi=>H' i=H i) (g:=frz H' n) (v':=vis H' n) _ l hl (λi hi=>hv i (AT _ hi)) λx _ d hx hv=>pQ n x d hx hv
   simp only[frz,hH',hH,h1,h2,Bj,and_self]
  | own id off len sz =>
   simp only[frz]at h;simp only[vis]at hv ⊢;split at h
   case h_2=>cases h
   rename_i e cs hH;rw[hH]at hv;have hH':H' id=Aa (.cells e cs):=by rw[hv id (AX ..),hH]
   split at h
   case isFalse=>cases h
   rename_i hc;obtain⟨l,hl,rfl⟩:=Ai.1 h;obtain⟨h1,h2⟩:=kX (Q:=λi=>H' i=H i) (g:=frz H' n) (v':=vis H' n) _ l hl (λi hi=>hv i (AT _ hi)) λx _ d hx hv=>pQ n x d hx hv
   simp only[frz,hH',hH,AB hc,h1,h2,Bj,and_self]
  | fn f cs =>
   simp only[frz,vis]at h hv ⊢;obtain⟨l,hl,rfl⟩:=Ai.1 h;obtain⟨h1,h2⟩:=kX (Q:=λi=>H' i=H i) cs l hl hv λx _ d hx hv=>pQ n x d hx hv
   exact⟨by rw[h1];rfl,h2⟩
  | ag cs =>
   simp only[frz,vis]at h hv ⊢;obtain⟨l,hl,rfl⟩:=Ai.1 h;obtain⟨h1,h2⟩:=kX (Q:=λi=>H' i=H i) cs l hl hv λx _ d hx hv=>pQ n x d hx hv
   exact⟨by rw[h1];rfl,h2⟩
  | tp cs =>
   simp only[frz,vis]at h hv ⊢;obtain⟨l,hl,rfl⟩:=Ai.1 h;obtain⟨h1,h2⟩:=kX (Q:=λi=>H' i=H i) cs l hl hv λx _ d hx hv=>pQ n x d hx hv
   exact⟨by rw[h1];rfl,h2⟩
  |_=>cases h
def rL{H H':Hp}{l:Ad AV}{ds:Ad D}(h:cK H l=Aa ds)(hv:∀i∈bW H l,H' i=H i):cK H' l=Aa ds/\bW H' l=bW H l :=
 kX (Q:=λi=>H' i=H i) l ds h hv λx _ d hx hv=>pQ 8 x d hx hv
def aUi{f:AU}{args:Aw AN}{ts:Aw AF}{x:AN}{rest:Ad AN}{ds:Ad D}{h:AV}{ho:Aq HO}{r:D}{ids l:Ad Ae}{K':Hp}
 (hop_:o.op=.call { callee:=.value (.func f),args:=args,argTypes:=ts }) (hargs:args.toList=x::rest) (hHK:∀id ob,H id=Aa ob->K id=Aa ob)
 (hx:(∃id h0,ids=id::l/\hd1 (oev Γ x)=Aa (id,h)/\ho=Aa h0/\H id=Aa h0/\kL h0=Ak/\¬C id/\id ∉ l)\/(ids=l/\aFb (oev Γ x)=Ak/\h=oev Γ x/\ho=Aj))
 (hvis:bW H (rest.map (oev Γ))=l) (hCl:∀i∈l,¬C i) (hf:cK H (rest.map (oev Γ))=Aa ds) (hs:aPl P f h ho ds r)
 (hsub:∀j o,K' j=Aa o->K j=Aa o/\¬C j/\j ∉ ids):Y P G o Γ C K K' (inj r) bG (λi=>i∈ids):=by
 intro F w ι a hok hR hop _ next hnext
 have hargs':args=(x::rest).toArray:=by rw[<-hargs]
 have hop':∀y∈x::rest,V F w ι (oev Γ y) (a.eval y):=λy hy=>cD λt e=>hop t (by rw[hop_];subst e;simp only[AJ,Bs];rw[hargs'];simpa using hy)
 obtain⟨hl,hV,hlv⟩:=mN hR hHK hf λy hy=>hop' y (AT _ hy)
 rw[hvis]at hV hlv
 have hmap:args.map a.eval=(a.eval x::rest.map a.eval).toArray:=by rw[hargs'];simp
 obtain⟨A,hA⟩:∃A,A=reach F ι l:=⟨_,rfl⟩
 have hAF:∀b,F b->A b:=λb h=>by rw[hA];exact .inl h
 have hAlt:∀b,A b->b<w.heap.size:=λb h=>by
  rw[hA]at h;rcases h with h|⟨i,_,h⟩
  .exact hR.F_lt b h
  .exact hR.ι_lt h
 have hsA:∀ι',Step F w ι' A w ι':=λι'=>⟨hAF,λ_ _=>rfl,λ_ _ h=>h,λ_ _ cur _ _ h=>⟨cur,h,rfl⟩⟩
 rw[<-hA]at hV
 obtain⟨ιc,hιc,hids,hh,hob⟩:∃ιc:Ae->Aq Ae,(∀id b,ιc id=Aa b->id=0/\¬A b/\b<w.heap.size)/\(∀b,ιc 0=Aa b->∃i∈ids,i ∉ l/\¬C i/\ι i=Aa b)/\V A w ιc h (a.eval x)/\∀h0,ho=Aa h0->∃b ob,ιc 0=Aa b/\w.heap[b]? = Aa ob/\CR A w ιc h0 ob:=by
  rcases hx with ⟨id,h0,rfl,hx,rfl,hH,hno,hC,hnl⟩|⟨rfl,hno,rfl,rfl⟩
  .obtain⟨b,hι,hv0⟩:=aNv (F':=A) hx (hop' x (AX ..));obtain⟨ob,hb,hcr⟩:=hR.obj id b h0 hι (hHK _ _ hH);refine⟨ι1 b,λi c hc=>?_,λc hc=>?_,hv0,λh1 e=>?_⟩
   .unfold ι1 at hc;split at hc
    .rename_i e;injection hc with hc;subst hc
     refine⟨e,λhAb=>?_,hR.ι_lt hι⟩;rw[hA]at hAb;rcases hAb with h|⟨j,hj,h⟩
     .exact(hR.place id b hι).2.2 hC h
     .have:=hR.inj id j b hι h hC (hCl j hj);subst this;exact hnl hj
    .cases hc
   .simp only[ι1,CN]at hc;injection hc with hc;subst hc
    exact⟨id,AX ..,hnl,hC,hι⟩
   .injection e with e;subst e
    exact⟨b,ob,rfl,hb,(yS hno hcr).step (hsA _)⟩
  .refine⟨λ_=>Aj,?_,?_,(aUa hno (hop' x (AX ..))).step (hsA _),?_⟩
   .intro i b h;cases h
   .intro b h;cases h
   .intro h0 e;cases e
 obtain⟨hent,hcalls⟩:=hs A w (args.map a.eval) ιc hAlt hιc hob (by rw[hmap];simp at hl ⊢;omega) ⟨a.eval x,by rw[hmap];simp,hh⟩
  (λk d v hk hv=>hV k d v hk (by rw[hmap]at hv;simpa using hv))
 unfold wpX
 have hfe:a.eval (.func f)=.func (.func f) #[] #[]:=rfl
 simp only[execOp,hop_,resolve,invoke,aB,hfe,Cx,aX,AR,Cy,CP,hent,gQ]
 refine hcalls.mono ?_
 rintro v w' ⟨hk,hvd⟩
 have hsz:=hk.size
 have hW:G.W.heap.size<=w.heap.size:=hR.kept.size
 have hnF:∀b,ιc 0=Aa b->¬A b/\b<w.heap.size:=λb hb=>(hιc 0 b hb).2
 have hoth:∀k,k<w.heap.size->ιc 0≠Aa k->w'.heap[k]? = w.heap[k]? := λk h1 h2=>hk.block k h1 h2
 have hst:Step F w ι (λk=>A k\/ιc 0=Aa k\/(w.heap.size<=k/\k<w'.heap.size)) w' ι :=
  ⟨λb h=>.inl (hAF b h),λk hkF=>hoth k (hR.F_lt k hkF) λe=>(hnF k e).1 (hAF k hkF),λ_ _ h=>h,λi k c0 e0 hi hk0=>hk.shape k c0 e0 (hR.ι_lt hi) hk0⟩
 have hids2:∀i,i∈l->i∈ids:=λi hi=>by
  rcases hx with ⟨id,h0,rfl,_⟩|⟨rfl,_⟩
  .exact AT _ hi
  .exact hi
 refine hnext _ w' ι v ⟨hR.kept.trans ⟨hk.os,hk.tape,hk.output,hk.size,λk hkW hm=>hoth k (by omega) λe=>?_,λk c0 e0 hkW hc=>hk.shape k c0 e0 (by omega) hc⟩,?_,?_,?_,?_,?_,?_⟩ hst (λ_ _ h=>.inl h) (λ_ h=>h.elim) (aEg hvd)
 .obtain⟨i,_,_,_,hi⟩:=hids k e
  rcases(hR.place i k hi).1 with h|h
  .exact hm h
  .omega
 .rintro k (h|h|h)
  .have:=hAlt k h;omega
  .have:=(hnF k h).2;omega
  .exact h.2
 .rintro k (h|h|h)
  .rw[hA]at h
   rcases h with h|⟨i,_,hi⟩
   .exact hR.F_ok k h
   .rcases(hR.place i k hi).1 with h|h
    .exact .inr (.inl h)
    .exact .inr (.inr h)
  .obtain⟨i,_,_,_,hi⟩:=hids k h
   rcases(hR.place i k hi).1 with h|h
   .exact .inr (.inl h)
   .exact .inr (.inr h)
  .exact .inr (.inr (by omega))
 .intro i k hi
  obtain⟨p1,p2,p3⟩:=hR.place i k hi
  refine⟨p1,by omega,λhc h=>?_⟩
  have hc1:¬C i:=λh=>hc (.inl h)
  rcases h with h|h|h
  .rw[hA]at h
   rcases h with h|⟨j,hj,hjk⟩
   .exact p3 hc1 h
   .have:=hR.inj i j k hi hjk hc1 (hCl j hj)
    subst this;exact hc (.inr (hids2 _ hj))
  .obtain⟨j,hj,_,hjC,hjk⟩:=hids k h
   have:=hR.inj i j k hi hjk hc1 hjC
   subst this;exact hc (.inr hj)
  .omega
 .intro i k o' hi ho'
  obtain⟨h1,h2,h3⟩:=hsub i o' ho'
  obtain⟨ob2,h4,h5⟩:=hR.obj i k o' hi h1
  refine⟨ob2,(hoth k (hR.ι_lt hi) λe=>?_).trans h4,h5.step hst⟩
  obtain⟨j,hj,_,hjC,hjk⟩:=hids k e
  have:=hR.inj i j k hi hjk h2 hjC
  subst this;exact h3 hj
 .exact λi i' b h1 h2 c1 c2=>hR.inj i i' b h1 h2 (λh=>c1 (.inl h)) λh=>c2 (.inl h)
 .exact λi i' b o1 o2 h1 h2 c1 k1 k2=>hR.len i i' b o1 o2 h1 h2 (λh=>c1 (.inl h)) (hsub i o1 k1).1 (hsub i' o2 k2).1
def aEo(P:As)[M:Mch P](f g:AU):Prop :=
 ∀(W:Ag) (b:Ae),(∀w,aU P (callFunc f #[.map (Aa b)]) w=.ok (.enter f #[.map (Aa b)]) w) /\
  CX P f #[.map (Aa b)] W λv w'=>∃e0,v=.func (.func g) #[] #[.pointer (Aa ⟨W.heap.size,0,Aj⟩)]/\w'=W.alloc (.cells #[.map (Aa b)] e0)
def ins(n:Al):Ad Al->Ad Al
 |[]=>[n]
 |m::l=>if n<=m then n::m::l else m::ins n l
def aNo:Ad Al->Ad Al
 |[]=>[]
 |n::l=>ins n (aNo l)
def inr(n:Al):Bw:=decide (-9223372036854775808<=n/\n<=9223372036854775807)
def uQ(P:As)[M:Mch P](f g:AU):Prop :=
 ∀(W:Ag) (b p:Ae) (e:AF) (ks:Ad Al) (ents:Aw MapEntry) (clock:Ae),W.heap[b]? = Aa (.map ents clock)->Fc ents clock->ents.toList.map (·.key)=ks.map (.int .i64 ·) ->
  W.heap[p]? = Aa (.cells #[.map (Aa b)] e (0,0))->ks.length<=1099511627776->ks.all inr=Ak ->
  (∀w,aU P (callFunc f #[.func (.func g) #[] #[.pointer (Aa ⟨p,0,Aj⟩)]]) w=.ok (.enter f #[.func (.func g) #[] #[.pointer (Aa ⟨p,0,Aj⟩)]]) w) /\
  CX P f #[.func (.func g) #[] #[.pointer (Aa ⟨p,0,Aj⟩)]] W λv w'=>Below W.heap.size W w' /\
   VD (λk=>W.heap.size<=k/\k<w'.heap.size) w' (.sl ((aNo ks).map λn=>[.i .i64 n])) v
def bWm{f g:AU}{args:Aw AN}{ts:Aw AF}{x:AN}{id:Ae}(hop_:o.op=.call { callee:=.value (.func f),args:=args,argTypes:=ts })(hargs:args.toList=[x])
 (hx:oev Γ x=.mp id) (hs:aEo P f g):Y P G o Γ C K K (.kf g id) bG bG:=by
 intro F w ι a hok hR hop _ next hnext
 have hargs':args=#[x]:=by cases args;simp only at hargs;subst hargs;rfl
 have ox:V F w ι (oev Γ x) (a.eval x):=cD λt e=>hop t (by rw[hop_,hargs'];simp[AJ,Bs,e])
 rw[hx]at ox
 generalize hxe:a.eval x=u at ox
 cases ox with|mp _ b hι =>
 obtain⟨hent,hcalls⟩:=hs w b
 unfold wpX
 have hfe:a.eval (.func f)=.func (.func f) #[] #[]:=rfl
 simp only[execOp,hop_,hargs',resolve,invoke,aB,hfe,Cx,aX,AR,Cy,CP,Gi,BX,Ee,hxe,hent,gQ]
 refine hcalls.mono ?_
 rintro v w' ⟨e0,rfl,rfl⟩
 obtain⟨hR',hst⟩:=hR.call (((Below.refl _ w).alloc (AM _) (.cells #[.map (Aa b)] e0))) [] (by simp)
 refine hnext _ _ ι _ (hR'.congrC λid=>by simp[bG]) hst (λ_ _ h=>.inl h) (λ_ h=>h.elim) (.kf g id b w.heap.size e0 hι (.inr (.inr ⟨AM _,by simp⟩)) ?_)
 exact(MapKept.heap_alloc w _).1
def bCg{f g:AU}{args:Aw AN}{ts:Aw AF}{x:AN}{id:Ae}{es:Ad (Al×AV)}(hop_:o.op=.call { callee:=.value (.func f),args:=args,argTypes:=ts })(hargs:args.toList=[x])
 (hHK:∀id ob,H id=Aa ob->K id=Aa ob) (hx:oev Γ x=.kf g id) (hH:H id=Aa (.map .i64 es)) (hn:es.length<=1099511627776) (hr:(es.map (·.1)).all inr=Ak) (hs:uQ P f g) :
 Y P G o Γ C K K (.d (.sl ((aNo (es.map (·.1))).map λn=>[.i .i64 n]))) bG bG:=by
 intro F w ι a hok hR hop _ next hnext
 have hargs':args=#[x]:=by cases args;simp only at hargs;subst hargs;rfl
 have ox:V F w ι (oev Γ x) (a.eval x):=cD λt e=>hop t (by rw[hop_,hargs'];simp[AJ,Bs,e])
 rw[hx]at ox
 generalize hxe:a.eval x=u at ox
 cases ox with|kf _ _ b p e hι hF hp =>
 obtain⟨ents,clock,hb,hl,hst,hes⟩:=hR.mapOf hHK hι hH
 have hkeys:ents.toList.map (·.key)=(es.map (·.1)).map (.int .i64 ·):=by
  refine List.ext_getElem? λj=>?_
  simp only[Ao,Bq];cases hj:es[j]? with
  | none =>
   have:ents[j]? = none:=by rw[Array.getElem?_eq_none_iff];rw[List.getElem?_eq_none_iff]at hj;omega
   rw[this];rfl
  |some y=>obtain⟨en,h1,h2,_⟩:=hes j y hj;rw[h1];simp[h2]
 obtain⟨hent,hcalls⟩:=hs w b p e (es.map (·.1)) ents clock hb hst hkeys hp (by simpa using hn) hr
 unfold wpX
 have hfe:a.eval (.func f)=.func (.func f) #[] #[]:=rfl
 simp only[execOp,hop_,hargs',resolve,invoke,aB,hfe,Cx,aX,AR,Cy,CP,Gi,BX,Ee,hxe,hent,gQ]
 refine hcalls.mono ?_
 rintro v w' ⟨hbl,hv⟩
 obtain⟨hR',hst⟩:=hR.call hbl [] (by simp)
 exact hnext _ _ ι _ (hR'.congrC λid=>by simp[bG]) hst (λ_ _ h=>.inl h) (λ_ h=>h.elim) (.d _ _ (hv.mono λb hb=>.inr (.inr hb)))
end
end Go.Am
namespace Go.Am
structure AS where
 Γ:Ae->AV
 T:Ae->Prop
 K:Hp
 U:Ae->Prop
def bN(Γ:Ae->AV)(d:Aq Tmp)(v:AV):Ae->AV :=
 match d with
 |some d=>upd Γ d v
 |none=>Γ
def bDn:Ad String:=["slices.Insert[torsion/api.Complex,torsion/api.Cell]", "slices.Delete[torsion/api.Complex,torsion/api.Cell]"]
def bSn:Ad String:=["torsion/matrix.each", "torsion/matrix.each$1", "torsion/matrix.Scale$1", "torsion/matrix.combine[torsion/api.Int,torsion/api.Int,torsion/api.Int]", "torsion/matrix.combine[[]torsion/api.Int,[]torsion/api.Int,[]torsion/api.Int]",
 "(*torsion/hermite.work).run", "torsion/hermite.eliminate", "slices.Insert[[]torsion/hermite.pivot,torsion/hermite.pivot]", "(torsion/smith.band).take", "torsion/smith.elements",
 "(*torsion/bareiss.state).replaced"]
def qS(P:As)(f:AU):Bw:=match P.funcs[f]? with|some fn=>fn.resultTypes.isEmpty||(match fn.params[0]? with|some t=>(tmp P t).isSome|none=>Az)||bDn.contains fn.name||bSn.contains fn.name|none=>Az
def aSd(P:As)(ts:Aw AF):Bw:=match ts.toList with|[t]=>(tel P t).isNone&&(tmp P t).isSome|_=>Az
def aNm(P:As)(t:AF):aSd P #[t]=((tel P t).isNone&&(tmp P t).isSome):=rfl
def kind(P:As):Op->Ae
 |.load ..=>1
 |.lookup ..=>1
 |.entry ..=>1
 |.call { callee:=.value (.func f),.. }=>if qS P f then 2 else 1
 |.call { callee:=.builtin .append,.. }=>1
 |.call { callee:=.builtin .delete,.. }=>2
 |.call { callee:=.builtin .copy,.. }=>2
 |.call { callee:=.builtin .len,argTypes:=ts,.. }=>if aSd P ts then 1 else 0
 |.store ..=>2
 |.mapUpdate ..=>2
 |.insert ..=>2
 |.call { callee:=.value _,.. }=>2
 |.call { callee:=.invoke ..,.. }=>1
 |_=>0
def oM(id:Ae):AV->Bw
 |.ptr i _|.mp i|.own i _ _ _=>i==id
 |.bm _ i _=>i==id
 |_=>Az
open Classical in
noncomputable def mV(K:Hp)(T:Ae->Prop)(id:Ae)(ho:HO):Hp:=λj=>if j=id then Aa ho else if T j then Aj else K j
def EvN(P:As)[M:Mch P](G:Ctx)(o:Bf)(Γ:Ae->AV)(K K':Hp)(av:AV)(new con:Ae->Prop):Prop :=
 kind P o.op=0/\K'=K/\con=bG/\∀(T2:Ae->Prop) (K2:Hp),(∀id,new id->K2 id=K id)->Y P G o Γ T2 K2 K2 av new bG
def EvR(P:As)[M:Mch P](G:Ctx)(o:Bf)(Γ:Ae->AV)(T:Ae->Prop)(K K':Hp)(av:AV)(new con:Ae->Prop):Prop :=
 kind P o.op≠0/\K'=K/\(∀id,con id->¬T id) /\
 (∀F w ι T2 (a:Act),HR G F w ι T2 K->(∀t,CK t∈o.op.operands->V F w ι (Γ t) (a.tmps.getD t undef))->∀id,con id->∃b,ι id=Aa b) /\
 ∀T2:Ae->Prop,(∀id,con id->¬T2 id)->Y P G o Γ T2 K K av new con
def EvW(P:As)[M:Mch P](G:Ctx)(o:Bf)(Γ:Ae->AV)(T:Ae->Prop)(K K':Hp)(av:AV)(new con:Ae->Prop):Prop :=
 kind P o.op=2/\new=bG/\con=bG/\∃id t old ho,CK t∈o.op.operands/\oM id (Γ t)=Ak/\K id=Aa old/\¬T id/\K'=mV K T id ho /\
  ∀(T2:Ae->Prop) (K2:Hp),K2 id=Aa old->¬T2 id->Y P G o Γ T2 K2 (mV K2 T2 id ho) av bG bG
open Classical in
noncomputable def iP(K:Hp)(T S:Ae->Prop)(g:Hp):Hp:=λj=>if S j then g j else if T j then Aj else K j
def EvG(P:As)[M:Mch P](G:Ctx)(o:Bf)(Γ:Ae->AV)(T:Ae->Prop)(K K':Hp)(av:AV)(new con:Ae->Prop):Prop :=
 kind P o.op=2/\∃(S:Ae->Prop) (g:Hp),(∀id,S id->¬T id)/\(∀id,con id->S id)/\(∀id,new id->¬S id) /\
  (∀id,S id->∀F w ι T2 (a:Act),HR G F w ι T2 K->(∀t,CK t∈o.op.operands->V F w ι (Γ t) (a.tmps.getD t undef))->∃b,ι id=Aa b)/\K'=iP K T S g /\
  ∀(T2:Ae->Prop) (K2:Hp),(∀id,S id->¬T2 id/\K2 id=K id)->(∀id,new id->¬T2 id/\K2 id=K id)->Y P G o Γ T2 K2 (iP K2 T2 S g) av new con
def Ev(P:As)[M:Mch P](G:Ctx)(o:Bf)(Γ:Ae->AV)(T:Ae->Prop)(K K':Hp)(av:AV)(new con:Ae->Prop):Prop :=
 EvN P G o Γ K K' av new con\/EvR P G o Γ T K K' av new con\/EvW P G o Γ T K K' av new con\/EvG P G o Γ T K K' av new con
def Un(G:Ctx)(s:AS):Prop:=∀F w ι (a:Act),OkV w->HR G F w ι s.T s.K->(∀id b,ι id=Aa b->s.U id)->(∀t,V F w ι (s.Γ t) (a.tmps.getD t undef))->False
def cJ(ops:Aw Bf)(o:Bf)(Γ:Ae->AV):Aq Bw :=
 match o.guard with
 |none=>Aa Ak
 | some (j,want)=>match(ops[j]?).bind (·.dst)with
  |none=>Aa Az
  | some d=>match Γ d with
   |.d (.b x)=>Aa (x==want)
   |.un=>Aa Az
   |_=>Aj
inductive rX(P:As)[M:Mch P](G:Ctx)(ops:Aw Bf)(o:Bf)(s:AS):AS->Prop where
 | yes (av:AV) (new con:Ae->Prop) (K':Hp) (hw:cJ ops o s.Γ=Aa Ak) (hev:Ev P G o s.Γ s.T s.K K' av new con) (hU:∀id,new id->¬s.U id) (hT:∀id,new id->¬s.T id) (h0:∀id,new id->∀b,G.P0 id b) :
   rX P G ops o s ⟨bN s.Γ o.dst av,λid=>s.T id\/con id,K',λid=>s.U id\/new id⟩
 |no (hw:cJ ops o s.Γ=Aa Az):rX P G ops o s ⟨bN s.Γ o.dst .un,s.T,s.K,s.U⟩
def aOp(P:As)[M:Mch P](G:Ctx)(ops:Aw Bf)(i:Ae)(k:AS->Prop)(s:AS):Prop :=
 match ops[i]? with
 |none=>k s
 |some o=>Un G s\/∃s',rX P G ops o s s'/\k s'
def bMi(P:As)[M:Mch P](G:Ctx)(ops:Aw Bf)(Q:AS->Prop):Ae->Aw Bw->AS->Prop
 |0,listed,s=>Bo .any ops listed=[]/\Q s
 |fuel+1,listed,s=>(Bo .any ops listed=[]->Q s)/\∀i∈Bo .any ops listed,aOp P G ops i (bMi P G ops Q fuel (listed.setIfInBounds i Ak)) s
def yK(P:As)(ops:Aw Bf)(x y:Bf):Bw :=
 x.apart ops y && !(kind P x.op==2&&kind P y.op != 0) && !(kind P y.op==2&&kind P x.op != 0)
def aAe{Γ:Ae->AV}{d:Aq Tmp}{v:AV}{t:Ae}(h:d≠Aa t):bN Γ d v t=Γ t:=by
 cases d with
 |none=>rfl
 |some d=>exact upd_ne _ _ λe=>h (e ▸ rfl)
def jB(Γ:Ae->AV){x y:Aq Tmp}(v u:AV)(h:∀d,x=Aa d->y≠Aa d):bN (bN Γ x v) y u=bN (bN Γ y u) x v:=by
 cases x with
 |none=>rfl
 | some d =>
  cases y with
  |none=>rfl
  | some e =>
   have hne:d≠e:=λhe=>h d rfl (he ▸ rfl)
   funext t;by_cases h1:t=d
   .subst h1;simp[bN,upd,hne]
   .by_cases h2:t=e
    .subst h2;simp[bN,upd,h1]
    .simp[bN,upd,h1,h2]
section
variable {P:As} [M:Mch P] {G:Ctx} {ops:Aw Bf}
def Y.congrΓ{o:Bf}{Γ Γ':Ae->AV}{T:Ae->Prop}{K K':Hp}{av:AV}{new con:Ae->Prop}(h:Y P G o Γ T K K' av new con)
 (he:∀t,CK t∈o.op.operands->Γ' t=Γ t):Y P G o Γ' T K K' av new con :=
 λF w ι a hok hR hop hn next hx=>h F w ι a hok hR (λt ht=>by rw[<-he t ht];exact hop t ht) hn next hx
def Ev.congrΓ{o:Bf}{Γ Γ':Ae->AV}{T:Ae->Prop}{K K':Hp}{av:AV}{new con:Ae->Prop}(h:Ev P G o Γ T K K' av new con)
 (he:∀t,CK t∈o.op.operands->Γ' t=Γ t):Ev P G o Γ' T K K' av new con:=by
 rcases h with ⟨hk,h1,h2,h⟩|⟨hk,h1,hT,hl,h⟩|⟨hk,h1,h2,id,t,old,ho,ht,hΓ,hold,hT,hK,h⟩|⟨hk,S,g,q1,q2,q3,q4,q5,h⟩
 .exact .inl ⟨hk,h1,h2,λT2 K2 hK=>(h T2 K2 hK).congrΓ he⟩
 .exact .inr (.inl ⟨hk,h1,hT,λF w ι T2 a hR hop=>hl F w ι T2 a hR λt ht=>by rw[<-he t ht];exact hop t ht,λT2 hT2=>(h T2 hT2).congrΓ he⟩)
 .exact .inr (.inr (.inl ⟨hk,h1,h2,id,t,old,ho,ht,by rw[he t ht];exact hΓ,hold,hT,hK,λT2 K2 h1 h2=>(h T2 K2 h1 h2).congrΓ he⟩))
 .exact .inr (.inr (.inr ⟨hk,S,g,q1,q2,q3,λid hid F w ι T2 a hR hop=>q4 id hid F w ι T2 a hR λt ht=>by rw[<-he t ht];exact hop t ht,q5,λT2 K2 h1 h2=>(h T2 K2 h1 h2).congrΓ he⟩))
def aFc{o:Bf}{d:Ae}(h:d ∉ o.looksAt ops):CK d ∉ o.op.operands:=λhx =>
 h (List.mem_append_left _ (List.mem_filterMap.2 ⟨.tmp d,by simpa using hx,rfl⟩))
def cR{o:Bf}{Γ:Ae->AV}{dst:Aq Tmp}{v:AV}(h:∀d,dst=Aa d->d ∉ o.looksAt ops):cJ ops o (bN Γ dst v)=cJ ops o Γ:=by
 unfold cJ;cases hg:o.guard with
 |none=>rfl
 | some gw =>
  obtain⟨g,want⟩:=gw;simp only;cases ht:(ops[g]?).bind (·.dst)with
  |none=>rfl
  | some t =>
   simp only;rw[aAe λe=>h t e (by simp[Oper.looksAt,hg,ht])]
def eD{o:Bf}{Γ:Ae->AV}{dst:Aq Tmp}{v:AV}(h:∀d,dst=Aa d->d ∉ o.looksAt ops):∀t,CK t∈o.op.operands->bN Γ dst v t=Γ t :=
 λt ht=>aAe λe=>aFc (h t e) ht
def or_none(T:Ae->Prop):(λid=>T id\/bG id)=T:=funext λid=>propext (by simp[bG])
def rZ{K:Hp}{T:Ae->Prop}{id i:Ae}{ho:HO}(h1:i≠id)(h2:¬T i):mV K T id ho i=K i:=by unfold mV;rw[Ap h1,Ap h2]
def aMd{s:AS}{t id:Ae}(hΓ:oM id (s.Γ t)=Ak)(hU:¬s.U id):Un G s:=by
 intro F w ι a _ _ hd hV;have:=hV t;generalize s.Γ t=x at this hΓ;generalize a.tmps.getD t undef=v at this;unfold oM at hΓ;split at hΓ
 .simp only[C6]at hΓ;subst hΓ;cases this with|ptr _ _ b hι=>exact hU (hd _ _ hι)
 .simp only[C6]at hΓ;subst hΓ;cases this with|mp _ b hι=>exact hU (hd _ _ hι)
 .simp only[C6]at hΓ;subst hΓ;cases this with|own _ _ _ _ b cap cur e hι=>exact hU (hd _ _ hι)
 .simp only[C6]at hΓ;subst hΓ;cases this with|bm _ _ _ b hι=>exact hU (hd _ _ hι)
 .cases hΓ
def swap{oi oj:Bf}{s s1 s2:AS}(hap:yK P ops oi oj=Ak)(hi:rX P G ops oi s s1)(hj:rX P G ops oj s1 s2) :
 Un G s\/∃s1',rX P G ops oj s s1'/\rX P G ops oi s1' s2:=by
 simp only[yK,A5,Dd,Bool.and_eq_false_iff,beq_eq_false_iff_ne,bne_eq_false_iff_eq]at hap
 obtain⟨⟨hap,hw1⟩,hw2⟩:=hap
 obtain⟨h1,h2,h3⟩:=Oper.apart_spec hap
 cases hi with
 | no hwi =>
  cases hj with
  | no hwj =>
   refine .inr ⟨_,.no (by rw[<-hwj];exact(cR h1).symm),?_⟩
   have:=rX.no (P:=P) (G:=G) (ops:=ops) (o:=oi) (s:=⟨bN s.Γ oj.dst .un,s.T,s.K,s.U⟩) (by rw[<-hwi];exact cR h3)
   simp only at this ⊢
   rwa [jB s.Γ .un .un h2]
  | yes av new con K' hwj hev hU hT h0 =>
   refine .inr ⟨_,.yes av new con K' (by rw[<-hwj];exact(cR h1).symm) (hev.congrΓ λt ht=>(eD h1 t ht).symm) hU hT h0,?_⟩
   have:=rX.no (P:=P) (G:=G) (ops:=ops) (o:=oi) (s:=⟨bN s.Γ oj.dst av,λid=>s.T id\/con id,K',λid=>s.U id\/new id⟩) (by rw[<-hwi];exact cR h3)
   simp only at this ⊢
   rwa [jB s.Γ .un av h2]
 | yes avi newi coni Ki hwi hevi hUi hTi h0i =>
  have hwi':∀(v:AV),cJ ops oi (bN s.Γ oj.dst v)=Aa true:=λv=>by rw[<-hwi];exact cR h3
  cases hj with
  | no hwj =>
   refine .inr ⟨_,.no (by rw[<-hwj];exact(cR h1).symm),?_⟩
   have:=rX.yes (P:=P) (G:=G) (ops:=ops) (o:=oi) (s:=⟨bN s.Γ oj.dst .un,s.T,s.K,s.U⟩) avi newi coni Ki (hwi' _) (hevi.congrΓ (eD h3)) hUi hTi h0i
   simp only at this ⊢
   rwa [jB s.Γ avi .un h2]
  | yes avj newj conj Kj hwj hevj hUj hTj h0j =>
   have hwj':cJ ops oj s.Γ=Aa true:=by rw[<-hwj];exact(cR h1).symm
   have hevj0:=hevj.congrΓ (Γ':=s.Γ) λt ht=>(eD h1 t ht).symm
   have hevi':=hevi.congrΓ (Γ':=bN s.Γ oj.dst avj) (eD h3)
   simp only at hUj hTj hevj0
   have hUj0:∀id,newj id->¬s.U id:=λid h hu=>hUj id h (.inl hu)
   have hTj0:∀id,newj id->¬s.T id:=λid h hu=>hTj id h (.inl hu)
   have hdis:∀id,newi id->¬newj id:=λid h hj=>hUj id hj (.inr h)
   have hUi1:∀id,newi id->¬(s.U id\/newj id):=λid h hu=>hu.elim (hUi id h) (hdis id h)
   have eU:(λid=>(s.U id\/newi id)\/newj id)=λid=>(s.U id\/newj id)\/newi id:=funext λid=>propext ⟨λh=>by rcases h with (h|h)|h<;>simp[h],λh=>by rcases h with (h|h)|h<;>simp[h]⟩
   have eT:(λid=>(s.T id\/coni id)\/conj id)=λid=>(s.T id\/conj id)\/coni id:=funext λid=>propext ⟨λh=>by rcases h with (h|h)|h<;>simp[h],λh=>by rcases h with (h|h)|h<;>simp[h]⟩
   have fin:∀K1,(∀id,newi id->¬conj id)->Ev P G oj s.Γ s.T s.K K1 avj newj conj->Ev P G oi (bN s.Γ oj.dst avj) (λid=>s.T id\/conj id) K1 Kj avi newi coni ->
    ∃s1',rX P G ops oj s s1'/\rX P G ops oi s1' ⟨bN (bN s.Γ oi.dst avi) oj.dst avj,λid=>(s.T id\/coni id)\/conj id,Kj,λid=>(s.U id\/newi id)\/newj id⟩:=by
    intro K1 hnc e1 e2
    refine⟨_,.yes avj newj conj K1 hwj' e1 hUj0 hTj0 h0j,?_⟩
    have:=rX.yes (P:=P) (G:=G) (ops:=ops) (o:=oi) (s:=⟨bN s.Γ oj.dst avj,λid=>s.T id\/conj id,K1,λid=>s.U id\/newj id⟩) avi newi coni Kj (hwi' _) e2 hUi1
     (λid h ht=>ht.elim (hTi id h) (hnc id h)) h0i
    simp only at this ⊢
    rwa [jB s.Γ avi avj h2,eU,eT]
   have gkeep:∀{K:Hp} {T S:Ae->Prop} {g:Hp} {i:Ae},¬S i->¬T i->iP K T S g i=K i:=λh1 h2=>by unfold iP;rw[Ap h1,Ap h2]
   rcases hevi' with ⟨hki,rfl,rfl,hYi⟩|⟨hki,rfl,hcTi,hli,hYi⟩|⟨hki,rfl,rfl,id,t,old,ho,ht,hΓ,hold,hT,rfl,hYi⟩|⟨hki,S,g,a1,a2,a3,a4,rfl,hYi⟩
   .-- oi neutral
    rcases hevj0 with ⟨hkj,rfl,rfl,hYj⟩|⟨hkj,rfl,hcTj,hlj,hYj⟩|⟨hkj,rfl,rfl,id,t,old,ho,ht,hΓ,hold,hT,rfl,hYj⟩|⟨hkj,S,g,b1,b2,b3,b4,rfl,hYj⟩
    .exact .inr (fin _ (λ_ _ h=>h) (.inl ⟨hkj,rfl,rfl,hYj⟩) (.inl ⟨hki,rfl,rfl,hYi⟩))
    .by_cases hx:∃id,newi id/\conj id
     .obtain⟨id,hn,hc⟩:=hx
      exact .inl λF w ι a _ hR hd hV=>let ⟨b,hb⟩:=hlj F w ι s.T a hR (λt _=>hV t) id hc;hUi id hn (hd id b hb)
     .exact .inr (fin _ (λid h1 h2=>hx ⟨id,h1,h2⟩) (.inr (.inl ⟨hkj,rfl,λid h ht=>hcTj id h (.inl ht),hlj,hYj⟩)) (.inl ⟨hki,rfl,rfl,hYi⟩))
    .by_cases hid:newi id
     .exact .inl (aMd hΓ (hUi id hid))
     .have hsT:¬s.T id:=λh=>hT (.inl h)
      have e0:mV s.K (λi=>s.T i\/bG i) id ho=mV s.K s.T id ho:=by rw[or_none]
      refine .inr ?_
      have h4:=fin (mV s.K s.T id ho) (λ_ _ h=>h) (.inr (.inr (.inl ⟨hkj,rfl,rfl,id,t,old,ho,ht,hΓ,hold,hsT,rfl,hYj⟩)))
       (.inl ⟨hki,e0,rfl,λT2 K2 hK=>hYi T2 K2 λi hi=>by rw[hK i hi];exact rZ (λe=>hid (e ▸ hi)) (hTi i hi)⟩)
      exact h4
    .by_cases hx:∃id,newi id/\S id
     .obtain⟨id,hn,hc⟩:=hx
      exact .inl λF w ι a _ hR hd hV=>let ⟨b,hb⟩:=b4 id hc F w ι s.T a hR (λt _=>hV t);hUi id hn (hd id b hb)
     .have hsT:∀id,S id->¬s.T id:=λid h ht=>b1 id h (.inl ht)
      have e0:iP s.K (λi=>s.T i\/bG i) S g=iP s.K s.T S g:=by rw[or_none]
      refine .inr ?_
      have h4:=fin (iP s.K s.T S g) (λid h1 h2=>hx ⟨id,h1,b2 id h2⟩) (.inr (.inr (.inr ⟨hkj,S,g,hsT,b2,b3,b4,rfl,hYj⟩)))
       (.inl ⟨hki,e0,rfl,λT2 K2 hK=>hYi T2 K2 λi hi=>by rw[hK i hi];exact gkeep (λe=>hx ⟨i,hi,e⟩) (hTi i hi)⟩)
      exact h4
   .-- oi reads
    rcases hevj0 with ⟨hkj,rfl,rfl,hYj⟩|⟨hkj,rfl,hcTj,hlj,hYj⟩|⟨hkj,_⟩|⟨hkj,_⟩
    .exact .inr (fin _ (λ_ _ h=>h) (.inl ⟨hkj,rfl,rfl,hYj⟩) (.inr (.inl ⟨hki,rfl,λid h ht=>by rw[or_none]at ht;exact hcTi id h ht,hli,hYi⟩)))
    .by_cases hx:∃id,newi id/\conj id
     .obtain⟨id,hn,hc⟩:=hx
      exact .inl λF w ι a _ hR hd hV=>let ⟨b,hb⟩:=hlj F w ι s.T a hR (λt _=>hV t) id hc;hUi id hn (hd id b hb)
     .exact .inr (fin _ (λid h1 h2=>hx ⟨id,h1,h2⟩) (.inr (.inl ⟨hkj,rfl,λid h ht=>hcTj id h (.inl ht),hlj,hYj⟩))
       (.inr (.inl ⟨hki,rfl,λid h ht=>ht.elim (hcTi id h) λhc=>hcTj id hc (.inr h),hli,hYi⟩)))
    .omega
    .omega
   .-- oi writes
    rcases hevj0 with ⟨hkj,rfl,rfl,hYj⟩|⟨hkj,_⟩|⟨hkj,_⟩|⟨hkj,_⟩
    .by_cases hid:newj id
     .have:=(eD (Γ:=s.Γ) (v:=avj) h3 t ht)
      rw[this]at hΓ
      exact .inl (aMd hΓ (hUj0 id hid))
     .refine .inr ?_
      have h4:=fin s.K (λ_ h _=>h) (.inl ⟨hkj,rfl,rfl,λT2 K2 hK=>hYj T2 K2 λi hi=>by rw[hK i hi];exact(rZ (λe=>hid (by rw[<-e];exact hi)) (hTj0 i hi)).symm⟩)
       (.inr (.inr (.inl ⟨hki,rfl,rfl,id,t,old,ho,ht,hΓ,hold,by rw[or_none];exact hT,by rw[or_none],hYi⟩)))
      exact h4
    .omega
    .omega
    .omega
   .-- oi turns many
    rcases hevj0 with ⟨hkj,rfl,rfl,hYj⟩|⟨hkj,_⟩|⟨hkj,_⟩|⟨hkj,_⟩
    .by_cases hx:∃id,newj id/\S id
     .obtain⟨id,hn,hc⟩:=hx
      exact .inl λF w ι a _ hR hd hV=>let ⟨b,hb⟩:=a4 id hc F w ι s.T a hR (λt ht=>by rw[eD h3 t ht];exact hV t);hUj0 id hn (hd id b hb)
     .refine .inr ?_
      have h4:=fin s.K (λ_ _ h=>h) (.inl ⟨hkj,rfl,rfl,λT2 K2 hK=>hYj T2 K2 λi hi=>by rw[hK i hi];exact(gkeep (λe=>hx ⟨i,hi,e⟩) (hTj0 i hi)).symm⟩)
       (.inr (.inr (.inr ⟨hki,S,g,λid h ht=>by rw[or_none]at ht;exact a1 id h ht,a2,a3,a4,by rw[or_none],hYi⟩)))
      exact h4
    .omega
    .omega
    .omega
def aKv{o:Bf}{a:Act}{w:Ag}(hok:OkV w){K:Act->Ag->Prop}(h:wpX P o a w K)(hK:∀a w,OkV w->K a w->False):False:=by
 unfold wpX at h;cases hr:aU P (execOp a.eval o) w with
 |halt x w'=>rw[hr]at h;exact h
 | ok n w' =>
  rw[hr]at h;have hok':=aVl hok hr;cases n<;>simp only[gQ]at h<;>first
  |exact hK _ _ hok' h
  |(obtain⟨x,v',h1,h2⟩:=h.some hok';exact hK _ _ h1 h2)
def aAd(a:Act)(dst:Aq Tmp)(u:AE):∃a2:Act,∀t,a2.tmps.getD t undef=if dst=Aa t then u else a.tmps.getD t undef:=by
 cases dst with
 |none=>exact⟨a,λt=>by simp⟩
 | some d =>
  refine⟨⟨(GV (max (d+1) a.tmps.size)).map λt=>if d=t then u else a.tmps.getD t undef,[]⟩,λt=>?_⟩;simp only[Array.getD_eq_getD_getElem?,B6,Array.getElem?_range,AH];by_cases ht:t<max (d+1) a.tmps.size
  .rw[AB ht];rfl
  .have hdt:¬d=t:=λe=>ht (by rw[<-e];exact Nat.lt_of_lt_of_le (Nat.lt_succ_self d) (Nat.le_max_left ..))
   rw[Ap ht,Ap hdt];simp only[Option.map_none,Option.getD_none];rw[C3 (by simp only[Nat.not_lt]at ht;exact Bg (Nat.le_max_right ..) ht)];rfl
def wZ{F:Ae->Prop}{w:Ag}{ι:Ae->Aq Ae}{Γ:Ae->AV}{dst:Aq Tmp}{av:AV}{f g:Ae->AE}{u:AE}(hV:∀t,V F w ι (Γ t) (f t))(hu:V F w ι av u)
 (hg:∀t,g t=if dst=Aa t then u else f t):∀t,V F w ι (bN Γ dst av t) (g t):=by
 intro t
 rw[hg t]
 by_cases h:dst=Aa t
 .subst h;simp only[bN,upd_same,CN];exact hu
 .rw[aAe h,Ap h];exact hV t
def bOi{o:Bf}{s s1:AS}(hd:rX P G ops o s s1)(hu:Un G s1):Un G s:=by
 intro F w ι a hok hR hdm hV;cases hd with
 | no hw =>
  obtain⟨a2,h2⟩:=aAd a o.dst undef;exact hu F w ι a2 hok hR hdm (wZ hV .un h2)
 | yes av new con K' hw hev hU hT h0 =>
  have hY:Y P G o s.Γ s.T s.K K' av new con:=by
   rcases hev with ⟨_,rfl,rfl,h⟩|⟨_,rfl,hcT,_,h⟩|⟨_,rfl,rfl,id,t,old,ho,_,_,hold,hT,rfl,h⟩|⟨_,S,g,q1,_,_,_,rfl,h⟩
   .exact h _ _ λ_ _=>rfl
   .exact h _ hcT
   .exact h _ _ hold hT
   .exact h _ _ (λid hid=>⟨q1 id hid,rfl⟩) λid hid=>⟨hT id hid,rfl⟩
  refine aKv (P:=P) hok (hY F w ι a hok hR (λt _=>hV t) (λid hn=>?_) (λ_ w'=>OkV w'->False) λF' w' ι' u hR' hs hd1 hd2 hv hok'=>?_) λ_ _ h1 h2=>h2 h1
  .cases hi:ι id with
   |none=>rfl
   |some b=>exact absurd (hdm id b hi) (hU id hn)
  .obtain⟨a2,h2⟩:=aAd a o.dst u;refine hu F' w' ι' a2 hok' hR' (λid b hb=>?_) (wZ (λt=>(hV t).step hs) hv h2);rcases hd1 id b hb with h|h
   .exact .inl (hdm id b h)
   .exact .inr h
def Dc(ops:Aw Bf)(listed:Aw Bw):Prop :=
 ∀(m:Ae) (om:Bf),listed.getD m Az=Ak->ops[m]? = Aa om->∀e∈om.after,Dx .any e=Ak->listed.getD e.on Az=Ak
def dep(ops:Aw Bf):Ae->Ae->Ae->Bw
 |0,_,_=>Az
 | f+1,j,i=>match ops[j]? with
  |some o=>o.after.any λe=>Dx .any e&&(e.on==i||dep ops f e.on i)
  |none=>Az
def uL{listed:Aw Bw}(hdc:Dc ops listed):∀(f j i:Ae),(∀o,ops[j]? = Aa o->∀e∈o.after,Dx .any e=Ak->listed.getD e.on Az=Ak)->dep ops f j i=Ak->listed.getD i Az=Ak
 |0,_,_,_,h=>by cases h
 | f+1,j,i,hj,h=>by
  unfold dep at h;split at h
  .rename_i o ho;obtain⟨e,he,hb⟩:=Array.any_eq_true'.1 h;simp only[A5,Bool.or_eq_true,C6]at hb;obtain⟨h1,h2⟩:=hb;have hl:=hj o ho e he h1;rcases h2 with h2|h2
   .rw[<-h2];exact hl
   .exact uL hdc f e.on i (λo' ho'=>hdc e.on o' hl ho') h2
  .cases h
def aKq{listed:Aw Bw}{j:Ae}(hdc:Dc ops listed)(hj:j∈Bo .any ops listed):Dc ops (listed.setIfInBounds j Ak):=by
 intro m om hm hom e he hb;obtain⟨_,o,ho,hall⟩:=mem_ready.1 hj;refine getD_set_true ?_;by_cases hmj:m=j
 .subst hmj;rw[ho]at hom;injection hom with hom;subst hom
  exact hall e he hb
 .rw[getD_set_ne Az (DZ hmj)]at hm;exact hdc m om hm hom e he hb
def aTz{Q:AS->Prop}{i:Ae}{oi:Bf}(hi:ops[i]? = Aa oi) :
 ∀(fuel:Ae) (listed:Aw Bw) (s s1:AS),Dc ops listed ->
  (∀j oj,ops[j]? = Aa oj->j≠i->listed.getD j Ak=Az->(∀e∈oj.after,Dx .any e=Ak->e.on≠i)->dep ops 12 j i=Az->yK P ops oi oj=Ak) ->
  i∈Bo .any ops listed->rX P G ops oi s s1->bMi P G ops Q fuel (listed.setIfInBounds i Ak) s1->bMi P G ops Q (fuel+1) listed s:=by
 intro fuel
 induction fuel with
 | zero =>
  intro listed s s1 _ _ hr hd H
  refine⟨λh=>(by rw[h]at hr;cases hr),λj hj=>?_⟩
  by_cases hji:j=i
  .subst hji;unfold aOp;simp only[hi];exact .inr ⟨s1,hd,H⟩
  .have:=ready_mono hj hji
   rw[H.1]at this
   cases this
 | succ fuel ih =>
  intro listed s s1 hdc hfree hr hd H
  refine⟨λh=>(by rw[h]at hr;cases hr),λj hj=>?_⟩
  by_cases hji:j=i
  .subst hji;unfold aOp;simp only[hi];exact .inr ⟨s1,hd,H⟩
  .have h1:=H.2 j (ready_mono hj hji)
   obtain⟨hjun,oj,hoj,hall⟩:=mem_ready.1 hj
   have hnot:∀e∈oj.after,Dx .any e=Ak->e.on≠i:=λe he hb heq=>by
    have h1:=hall e he hb;have h0:=(mem_ready.1 hr).1;rw[heq]at h1;rcases Bc i listed.size with h'|h'
    .simp[h']at h0 h1;rw[h0]at h1;cases h1
    .simp[C3 h']at h1
   have hnd:dep ops 12 j i=false:=by
    cases hd6:dep ops 12 j i with
    |false=>rfl
    | true =>
     have h1:=uL hdc 12 j i (λo' ho'=>by rw[hoj]at ho';injection ho' with ho';subst ho';exact hall) hd6;have h0:=(mem_ready.1 hr).1;rcases Bc i listed.size with h'|h'
     .simp[h']at h0 h1;rw[h0]at h1;cases h1
     .simp[C3 h']at h1
   have hap:=hfree j oj hoj hji hjun hnot hnd
   have hfree':∀k ok,ops[k]? = Aa ok->k≠i->(listed.setIfInBounds j Ak).getD k Ak=Az ->
    (∀e∈ok.after,Dx .any e=Ak->e.on≠i)->dep ops 12 k i=Az->yK P ops oi ok=true:=λk ok hk hki hun hno hnd=>by
    refine hfree k ok hk hki ?_ hno hnd
    by_cases hjk:j=k
    .subst hjk;exact hjun
    .rw[getD_set_ne Ak hjk]at hun;exact hun
   unfold aOp at h1 ⊢
   simp only[hoj]at h1 ⊢
   rcases h1 with h1|⟨s2,hd2,h2⟩
   .exact .inl (bOi hd h1)
   .rcases swap hap hd hd2 with h3|⟨s1',hd1',hd2'⟩
    .exact .inl h3
    .refine .inr ⟨s1',hd1',ih (listed.setIfInBounds j Ak) s1' s2 (aKq hdc hj) hfree' (ready_mono hr (DZ hji)) hd2' ?_⟩
     rw[Array.setIfInBounds_comm _ _ hji]
     exact h2
end
end Go.Am
namespace Go.Am
open RowKit (Below)
def bHd:Ad String:=["torsion/matrix.Identity", "torsion/matrix.Scale", "torsion/matrix.Transpose", "torsion/hermite.start", "slices.Clone[[][]torsion/api.Int,[]torsion/api.Int]", "torsion/certificate.count", "torsion/matrix.New", "torsion/torsionref05.New", "slices.Grow[[]uint64,uint64]", "torsion/modmat.copied", "slices.Clone[[]uint64,uint64]"]
def aRy(P:As)(f:AU):Bw:=match P.funcs[f]? with|some fn=>bHd.contains fn.name|none=>Az
def iY(H:Hp)(n:Ae)(hs:Ad HO):Hp:=λid=>if n<=id/\id<n+hs.length then hs[id-n]? else H id
def NB(P:As)[M:Mch P](f:AU)(vs:Aw AE)(A:Ae->Prop)(W:Ag)(v:Ae->AV)(hs:Ae->Ad HO):Prop :=
 (∀w,aU P (callFunc f vs) w=.ok (.enter f vs) w) /\
 CX P f vs W λu W'=>Below W.heap.size W W'/\∀m,0<m->∃(F:Ae->Prop) (ι:Ae->Aq Ae),
  (∀b,F b->A b\/(W.heap.size<=b/\b<W'.heap.size))/\V F W' ι (v m) u/\(∀id,(∃b,ι id=Aa b)↔(m<=id/\id<m+(hs m).length)) /\
  (∀id b,ι id=Aa b->W.heap.size<=b/\b<W'.heap.size/\¬F b) /\
  (∀i o b,(hs m)[i]? = Aa o->ι (m+i)=Aa b->∃ob,W'.heap[b]? = Aa ob/\CR F W' ι o ob) /\
  (∀id id' b,ι id=Aa b->ι id'=Aa b->id=id')
def aEn(P:As)[M:Mch P](f:AU)(args:Ad D)(v:Ae->AV)(hs:Ae->Ad HO):Prop :=
 ∀(A:Ae->Prop) (W:Ag) (vs:Aw AE),(∀b,A b->b<W.heap.size)->args.length=vs.size->(∀(k:Ae) d v,args[k]? = Aa d->vs[k]? = Aa v->VD A W d v)->NB P f vs A W v hs
def aEm(P:As)[M:Mch P](f:AU)(args:Ad AV)(v:Ae->AV)(hs:Ae->Ad HO):Prop :=
 ∀(A:Ae->Prop) (W:Ag) (vs:Aw AE),(∀b,A b->b<W.heap.size)->args.length=vs.size->(∀(k:Ae) x u,args[k]? = Aa x->vs[k]? = Aa u->V A W (λ_=>Aj) x u)->NB P f vs A W v hs
section
variable {P:As} [M:Mch P] {G:Ctx} {C:Ae->Prop} {H K:Hp} {Γ:Ae->AV} {o:Bf}
def cBk{f:AU}{args:Aw AN}{ts:Aw AF}{v:Ae->AV}{hs:Ae->Ad HO}{n:Ae}(ho:o.op=.call { callee:=.value (.func f),args:=args,argTypes:=ts })
 (hsp:∀F w ι (a:Act),HR G F w ι C K->(∀x∈args.toList,V F w ι (oev Γ x) (a.eval x))->NB P f (args.map a.eval) F w v hs) (hn0:0<n)
 (hK:∀i ob,(hs n)[i]? = Aa ob->K (n+i)=Aa ob) :
 Y P G o Γ C K K (v n) (λi=>n<=i/\i<n+(hs n).length) bG:=by
 intro F w ι a hok hR hop hnew next hnext
 have hop':∀x∈args.toList,V F w ι (oev Γ x) (a.eval x):=λx hx=>cD λt e=>hop t (by rw[ho];subst e;simp[AJ,Bs];simpa using hx)
 obtain⟨hent,hcalls⟩:=hsp F w ι a hR hop'
 unfold wpX
 have hfe:a.eval (.func f)=.func (.func f) #[] #[]:=rfl
 simp only[execOp,ho,resolve,invoke,aB,hfe,Cx,aX,AR,Cy,CP,hent,gQ]
 refine hcalls.mono ?_
 rintro u w' ⟨hb,hall⟩
 obtain⟨F1,ι1,f1,f2,f3,f4,f5,f6⟩:=hall n hn0
 have hsz:=hb.size
 have hW:G.W.heap.size<=w.heap.size:=hR.kept.size
 obtain⟨ι',hι'⟩:∃ι':Ae->Aq Ae,ι'=λid=>if n<=id/\id<n+(hs n).length then ι1 id else ι id:=⟨_,rfl⟩
 have e_new:∀id,(n<=id/\id<n+(hs n).length)->ι' id=ι1 id:=λid h=>by rw[hι'];exact AB h
 have e_old:∀id,¬(n<=id/\id<n+(hs n).length)->ι' id=ι id:=λid h=>by rw[hι'];exact Ap h
 have split:∀id b,ι' id=Aa b->((n<=id/\id<n+(hs n).length)/\ι1 id=Aa b)\/(¬(n<=id/\id<n+(hs n).length)/\ι id=Aa b):=λid b h=>by
  by_cases hid:n<=id/\id<n+(hs n).length
  .rw[e_new id hid]at h;exact .inl ⟨hid,h⟩
  .rw[e_old id hid]at h;exact .inr ⟨hid,h⟩
 have hF1:∀b,F1 b->b<w.heap.size->F b:=λb h hlt=>by
  rcases f1 b h with h|h
  .exact h
  .omega
 have hs0:Step F w ι (λb=>F b\/F1 b) w' ι':=⟨λ_ h=>.inl h,λb h=>hb.block b (hR.F_lt b h),λid b h=>by
  by_cases hid:n<=id/\id<n+(hs n).length
  .rw[hnew id hid]at h;cases h
  .rw[e_old id hid];exact h,λid b cur e hi h=>⟨cur,(hb.block b (hR.ι_lt hi)).trans h,rfl⟩⟩
 have hs1:Step F1 w' ι1 (λb=>F b\/F1 b) w' ι':=⟨λ_ h=>.inr h,λ_ _=>rfl,λid b h=>by
  rw[e_new id ((f3 id).1 ⟨b,h⟩)];exact h,λid b cur e hi h=>⟨cur,h,rfl⟩⟩
 refine hnext (λb=>F b\/F1 b) w' ι' u ⟨hR.kept.trans (.below hb hW),?_,?_,?_,?_,?_,?_⟩ hs0 (λid b h=>?_) (λid hid=>?_) (f2.step hs1)
 .rintro b (h|h)
  .have:=hR.F_lt b h;omega
  .rcases f1 b h with h|h
   .have:=hR.F_lt b h;omega
   .exact h.2
 .rintro b (h|h)
  .exact hR.F_ok b h
  .rcases f1 b h with h|h
   .exact hR.F_ok b h
   .exact .inr (.inr (by omega))
 .intro id b h
  rcases split id b h with ⟨_,h⟩|⟨_,h⟩
  .obtain⟨q1,q2,q3⟩:=f4 id b h
   refine⟨.inr (by omega),q2,λ_ hF=>?_⟩
   rcases hF with hF|hF
   .have:=hR.F_lt b hF;omega
   .exact q3 hF
  .obtain⟨q1,q2,q3⟩:=hR.place id b h
   refine⟨q1,by omega,λhc hF=>?_⟩
   have hc':¬C id:=λx=>hc (.inl x)
   rcases hF with hF|hF
   .exact q3 hc' hF
   .exact q3 hc' (hF1 b hF q2)
 .intro id b ob h hob
  rcases split id b h with ⟨hid,h⟩|⟨_,h⟩
  .obtain⟨i,rfl⟩:∃i,id=n+i:=⟨id-n,by omega⟩
   have hi:i<(hs n).length:=by omega
   have hg:(hs n)[i]? = Aa (hs n)[i]:=Ac hi
   have:=hK i _ hg
   rw[this]at hob;injection hob with hob;subst hob
   obtain⟨ob',h2,h3⟩:=f5 i _ b hg h
   exact⟨ob',h2,h3.step hs1⟩
  .obtain⟨ob',h2,h3⟩:=hR.obj id b ob h hob
   exact⟨ob',(hb.block b (hR.ι_lt h)).trans h2,h3.step hs0⟩
 .intro id id' b h h' hc hc'
  rcases split id b h with ⟨_,h⟩|⟨_,h⟩<;>rcases split id' b h' with ⟨_,h'⟩|⟨_,h'⟩
  .exact f6 id id' b h h'
  .have:=(f4 id b h).1;have:=hR.ι_lt h';omega
  .have:=(f4 id' b h').1;have:=hR.ι_lt h;omega
  .exact hR.inj id id' b h h' (λx=>hc (.inl x)) λx=>hc' (.inl x)
 .intro id id' b o1 o2 h h' hc h1 h2
  rcases split id b h with ⟨_,h⟩|⟨_,h⟩<;>rcases split id' b h' with ⟨_,h'⟩|⟨_,h'⟩
  .have:=f6 id id' b h h'
   subst this
   rw[h1]at h2;injection h2 with h2;subst h2;exact AM _
  .have:=(f4 id b h).1;have:=hR.ι_lt h';omega
  .have:=(f4 id' b h').1;have:=hR.ι_lt h;omega
  .exact hR.len id id' b o1 o2 h h' (λx=>hc (.inl x)) h1 h2
 .rcases split id b h with ⟨hid,_⟩|⟨_,h⟩
  .exact .inr hid
  .exact .inl h
 .obtain⟨b,hb'⟩:=(f3 id).2 hid
  exact⟨b,by rw[e_new id hid];exact hb'⟩
def bNd{f:AU}{args:Aw AN}{ts:Aw AF}{ds:Ad D}{v:Ae->AV}{hs:Ae->Ad HO}{n:Ae}(ho:o.op=.call { callee:=.value (.func f),args:=args,argTypes:=ts })
 (hHK:∀id ob,H id=Aa ob->K id=Aa ob) (hargs:cK H (args.toList.map (oev Γ))=Aa ds) (hvis:bW H (args.toList.map (oev Γ))=[]) (hsp:aEn P f ds v hs) (hn0:0<n)
 (hK:∀i ob,(hs n)[i]? = Aa ob->K (n+i)=Aa ob) :
 Y P G o Γ C K K (v n) (λi=>n<=i/\i<n+(hs n).length) bG:=cBk ho (λF w ι a hR hop'=>by
 have hmap:args.map a.eval=(args.toList.map a.eval).toArray:=by cases args;simp
 obtain⟨hl,hV,_⟩:=mN hR hHK hargs hop'
 rw[<-hmap]at hl hV
 have hV2:∀(k:Ae) d u,ds[k]? = Aa d->(args.map a.eval)[k]? = Aa u->VD F w d u:=λk d u hd hu=>(hV k d u hd hu).mono λb hb=>by
  rcases hb with hb|⟨id,hid,_⟩
  .exact hb
  .rw[hvis]at hid;cases hid
 exact hsp F w (args.map a.eval) hR.F_lt hl hV2) hn0 hK
def bCh{f:AU}{args:Aw AN}{ts:Aw AF}{v:Ae->AV}{hs:Ae->Ad HO}{n:Ae}(ho:o.op=.call { callee:=.value (.func f),args:=args,argTypes:=ts })
 (hno:(args.toList.map (oev Γ)).all aFb=Ak) (hsp:aEm P f (args.toList.map (oev Γ)) v hs) (hn0:0<n) (hK:∀i ob,(hs n)[i]? = Aa ob->K (n+i)=Aa ob) :
 Y P G o Γ C K K (v n) (λi=>n<=i/\i<n+(hs n).length) bG:=cBk ho (λF w ι a hR hop'=>by
 refine hsp F w (args.map a.eval) hR.F_lt (by simp) λk x u hx hu=>?_
 have hmem:=At hx
 rw[Ao]at hx
 rw[B6]at hu
 obtain⟨y,hy,rfl⟩:=Ai.1 hx
 obtain⟨z,hz,rfl⟩:=Ai.1 hu
 rw[Bq,hz]at hy
 injection hy with hy;subst hy
 exact aUa (A1.1 hno _ hmem) (hop' z (At (by rw[Bq];exact hz)))) hn0 hK
end
end Go.Am
