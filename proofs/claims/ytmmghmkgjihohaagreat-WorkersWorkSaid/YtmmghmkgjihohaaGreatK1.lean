/- The abstract machine, part 10: append. No condition. -/
import Derived.WalkKit
import Derived.Still
import Derived.MapKept
import Derived.Maps.RangeRun
import Derived.Calls
import Derived.Conc.Own
import Derived.Laws.Sem
import Derived.Conc.Own5
import Derived.Orders
import Derived.Scope
import Derived.Laws.Append
import Derived.Laws.AppendOwn
import Derived.Laws.CopyRow
import Derived.Laws.StructEq
open Array renaming all_eq_true_iff_forall_mem→Cf,getElem?_append_left→BX,getElem?_eq_getElem→Ak,getElem?_eq_some_iff→AZ,getElem?_map→BM,getElem?_push→Bm,getElem?_setIfInBounds_ne→AD,getElem?_toList→Bh,length_toList→BA,mem_append→DD,mem_iff_getElem→EI,mem_of_getElem?→BS,range→Gk,replicate→AU,size_append→EL
open Bool renaming and_eq_true→AR,false_eq_true→Ae
open Go.Array renaming range_zero'→Gj
open Go.Builtin renaming append_→BT,firstCells→DF,lenOf→EH,len_→FY,nextslicecap→ER,zeroCells→C1
open Go.Call renaming operands→Bc
open Go.CallKind renaming early→C9
open Go.Exit renaming inBlock→DR
open Go.Frame renaming finish_at→D6
open Go.GStep renaming after→Cl
open Go.Instr renaming indexAt→E6,loadAt→EW,sliceBounds→DL,sureAddr→Cp
open Go.IntKind renaming i64→Al
open Go.MapKept renaming IsKey→Eb,Stamped→EC
open Go.Obj renaming cells→C8
open Go.Op renaming eqGuardIn→DS,equalIn→DN,maxDepth→D8,operands→Aw
open Go.Operand renaming tmp→CC
open Go.Question renaming forced→E9
open Go.Region renaming ready→Bo,schedule→FN,wanted→Bl
open Go.Region.linearise renaming go→Cm
open Go.Result renaming andThen_halt→FU,andThen_ok→AH
open Go.Sem renaming bind→Ei,runT→ED,runT_eq→Di
open Go.Value renaming oneCell'→Co
open Go.World renaming cell?→Bs,frozen?→Dp,setCell→E5
open Go.stepG renaming exec→B7
open List renaming append_assoc→CG,eq_nil_of_length_eq_zero→Cc,flatten_cons→CH,getElem?_append_left→AP,getElem?_append_right→AM,getElem?_cons_succ→Bt,getElem?_cons_zero→BP,getElem?_drop→BB,getElem?_eq_getElem→Ab,getElem?_eq_some_iff→Ao,getElem?_map→Ag,getElem?_range→Bn,getElem?_take→Bv,getElem?_toArray→Cb,getElem_mem→Bj,length_append→A8,length_cons→Aj,length_map→BF,length_nil→Au,length_take→Be,mapM_cons→Ce,map_cons→BO,map_nil→EV,mem_cons_of_mem→AJ,mem_cons_self→AI,mem_of_getElem?→Ai,range→AK,range'_succ→DY,replicate→As,size_toArray→Ar
open Nat renaming add_assoc→DW,add_comm→Ey,add_mul→BV,add_zero→B8,le_refl→AA,le_trans→AY,lt_or_ge→Az,min_eq_left→Da,mod_eq_of_lt→BQ,mod_lt→BL,mul_le_mul_right→BZ,one_mul→CE,sub_self→CN,zero_add→Ax,zero_le→A5,zero_mul→DT
open Option renaming bind_eq_bind→CU,bind_eq_some_iff→Ad,map_eq_some_iff→Af,map_some→AQ,pure_def→DO
open Option.some renaming injEq→At
open Std.Legacy.Range renaming forIn_eq_forIn_range'→ES
open _root_ renaming if_false→Av,if_neg→Ah,if_pos→Ap,if_true→AF
set_option linter.unusedSectionVars false
set_option linter.unusedVariables false
set_option linter.unusedSimpArgs false
section
open List renaming map_map→ζ,mapM_map→ξ
namespace Go.Am
inductive D where
 |b (x:Bool)
 |i (k:IntKind) (n:Int)
 |sl (els:List (List D))
 |ag (cs:List D)
 |tp (vs:List D)
 |lit (v:Value)
 |pt (cs:List D)
 |fn (f:FuncId) (cs:List D)
 |mp (k:IntKind) (ks:List Int) (vs:List D)
 |iff (t:TypeId) (x:D)
 |fm (f:FuncId) (x:D)
 deriving Inhabited
inductive VD(F:Nat→Prop)(w:World):D→Value→Prop where
 |b (x:Bool):VD F w (.b x) (.bool x)
 |i (k:IntKind) (n:Int):VD F w (.i k n) (.int k n)
 |sl0 (ad:Option Addr) (c:Nat):VD F w (.sl []) (.slice ad 0 c)
 | sl (els:List (List D)) (ad:Addr) (n c sz:Nat) (f:Nat→Value) (hn:n=els.length) (hc:n≤c) (hsz:∀ cs∈els,cs.length=sz) (hF:F ad.block)
   (hcell:∀ j,j<n*sz→w.cell? (ad.add j)=some (f j)) (hel:∀(j k:Nat) cs c,els[j]? = some cs→cs[k]? = some c→VD F w c (f (j*sz+k))) :
   VD F w (.sl els) (.slice (some ad) n c)
 |ag (cs:List D) (vs:Array Value) (hl:cs.length=vs.size) (h:∀(k:Nat) c v,cs[k]? = some c→vs[k]? = some v→VD F w c v):VD F w (.ag cs) (.agg vs)
 |tp (cs:List D) (vs:Array Value) (hl:cs.length=vs.size) (h:∀(k:Nat) c v,cs[k]? = some c→vs[k]? = some v→VD F w c v):VD F w (.tp cs) (.tuple vs)
 |lit (v:Value):VD F w (.lit v) v
 |pt (cs:List D) (ad:Addr) (f:Nat→Value) (hF:F ad.block) (hcell:∀ j,j<cs.length→w.cell? (ad.add j)=some (f j)) (hel:∀(k:Nat) c,cs[k]? = some c→VD F w c (f k)):VD F w (.pt cs) (.pointer (some ad))
 |fn (g:FuncId) (cs:List D) (vs:Array Value) (hl:cs.length=vs.size) (h:∀(k:Nat) c v,cs[k]? = some c→vs[k]? = some v→VD F w c v):VD F w (.fn g cs) (.func (.func g) #[] vs)
 | mp (k:IntKind) (ks:List Int) (ds:List D) (b:Nat) (ents:Array MapEntry) (clock:Nat) (hF:F b) (hb:w.heap[b]? = some (.map ents clock)) (hst:EC ents clock) (hl:ks.length=ents.size) (hl':ds.length=ents.size)
   (hk:∀(j:Nat) n,ks[j]? = some n→∃ en,ents[j]? = some en∧en.key=.int k n) (hv:∀(j:Nat) d en,ds[j]? = some d→ents[j]? = some en→VD F w d en.val):VD F w (.mp k ks ds) (.map (some b))
 |iff (t:TypeId) (x:D) (v:Value) (h:VD F w x v):VD F w (.iff t x) (.iface t v)
 |fm (g:FuncId) (x:D) (u:Value) (h:VD F w x u):VD F w (.fm g x) (.func (.func g) #[u] #[])
inductive AV where
 |d (x:D)
 |nil
 |own (id off len sz:Nat)
 |ptr (id off:Nat)
 |mp (id:Nat)
 |fp (cs:List D)
 |fd (els:List (List D))
 |ag (cs:List AV)
 |tp (vs:List AV)
 |un
 |ub
 |kf (f:FuncId) (id:Nat)
 |fn (f:FuncId) (cs:List AV)
 |any
 deriving Inhabited
inductive V(F:Nat→Prop)(w:World)(ι:Nat→Option Nat):AV→Value→Prop where
 |d (x:D) (v:Value) (h:VD F w x v):V F w ι (.d x) v
 |nil:V F w ι .nil (.slice none 0 0)
 | own (id off len sz b cap:Nat) (cur:Array Value) (e:TypeId) (hι:ι id=some b) (hb:w.heap[b]? = some (.cells cur e (0,0))) (hcap:(off+cap)*sz≤cur.size) (hl:len≤cap)
   (hm:cap≤maxLen):V F w ι (.own id off len sz) (.slice (some ⟨b,off*sz,none⟩) len cap)
 |ptr (id off b:Nat) (hι:ι id=some b):V F w ι (.ptr id off) (.pointer (some ⟨b,off,none⟩))
 |mp (id b:Nat) (hι:ι id=some b):V F w ι (.mp id) (.map (some b))
 | fp (cs:List D) (ad:Addr) (f:Nat→Value) (hF:F ad.block) (hcell:∀ j,j<cs.length→w.cell? (ad.add j)=some (f j)) (hel:∀(k:Nat) c,cs[k]? = some c→VD F w c (f k)) :
   V F w ι (.fp cs) (.pointer (some ad))
 |fd (els:List (List D)) (ad:Option Addr) (n:Nat) (h:VD F w (.sl els) (.slice ad n n)):V F w ι (.fd els) (.slice ad n n)
 |ag (cs:List AV) (vs:Array Value) (hl:cs.length=vs.size) (h:∀(k:Nat) c v,cs[k]? = some c→vs[k]? = some v→V F w ι c v):V F w ι (.ag cs) (.agg vs)
 |tp (cs:List AV) (vs:Array Value) (hl:cs.length=vs.size) (h:∀(k:Nat) c v,cs[k]? = some c→vs[k]? = some v→V F w ι c v):V F w ι (.tp cs) (.tuple vs)
 |un:V F w ι .un undef
 |ub (t:Bool):V F w ι .ub (.bool t)
 |kf (f:FuncId) (id b p:Nat) (e:TypeId) (hι:ι id=some b) (hF:F p) (hp:w.heap[p]? = some (.cells #[.map (some b)] e (0,0))):V F w ι (.kf f id) (.func (.func f) #[] #[.pointer (some ⟨p,0,none⟩)])
 |fn (g:FuncId) (cs:List AV) (vs:Array Value) (hl:cs.length=vs.size) (h:∀(k:Nat) c v,cs[k]? = some c→vs[k]? = some v→V F w ι c v):V F w ι (.fn g cs) (.func (.func g) #[] vs)
 |any (v:Value):V F w ι .any v
inductive HO where
 |cells (e:TypeId) (cs:List AV)
 |map (k:IntKind) (es:List (Int×AV))
 |iter (k:IntKind) (last:Option (Int×D)) (es:List (Int×D))
 deriving Inhabited
abbrev Hp:=Nat→Option HO
def HO.len:HO→Nat
 |.cells _ cs=>cs.length
 |.map ..=>0
 |.iter ..=>0
inductive CR(F:Nat→Prop)(w:World)(ι:Nat→Option Nat):HO→Obj→Prop where
 |cells (e:TypeId) (cs:List AV) (cur:Array Value) (hl:cs.length≤cur.size) (h:∀(k:Nat) c,cs[k]? = some c→∃ u,cur[k]? = some u∧V F w ι c u):CR F w ι (.cells e cs) (.cells cur e (0,0))
 | map (k:IntKind) (es:List (Int×AV)) (ents:Array MapEntry) (clock:Nat) (hl:es.length=ents.size) (hst:EC ents clock)
   (h:∀(j:Nat) x,es[j]? = some x→∃ en,ents[j]? = some en∧en.key=.int k x.1∧V F w ι x.2 en.val):CR F w ι (.map k es) (.map ents clock)
 | iter (k:IntKind) (last:Option (Int×D)) (es:List (Int×D)) (bm since c0 clock:Nat) (seen:Array Nat) (ents:Array MapEntry) (hF:F bm) (hb:w.heap[bm]? = some (.map ents clock)) (hold:∀ x∈ents.toList,x.born<since) (hsc:since≤c0∧since≤clock)
   (hn:(ents.toList.map (·.born)).Nodup) (hl:es.length=(leftOf ents seen).size) (h:∀(j:Nat) x,es[j]? = some x→∃ en,(leftOf ents seen)[j]? = some en∧en.key=.int k x.1∧VD F w x.2 en.val)
   (hla:∀ x,last=some x→c0=clock∧∃(en:MapEntry) (seen0:Array Nat),seen=seen0.push en.born∧en∈ents.toList∧en.key=.int k x.1∧VD F w x.2 en.val):CR F w ι (.iter k last es) (.mapIter (some bm) since seen c0)
structure Step(F:Nat→Prop)(w:World)(ι:Nat→Option Nat)(F':Nat→Prop)(w':World)(ι':Nat→Option Nat):Prop where
 F_le:∀ b,F b→F' b
 blk:∀ b,F b→w'.heap[b]? = w.heap[b]?
 ι_le:∀ id b,ι id=some b→ι' id=some b
 own:∀ id b cur e,ι id=some b→w.heap[b]? = some (.cells cur e (0,0))→∃ cur',w'.heap[b]? = some (.cells cur' e (0,0))∧cur'.size=cur.size
theorem Step.refl(F:Nat→Prop)(w:World)(ι:Nat→Option Nat):Step F w ι F w ι:=⟨fun _ h=>h,fun _ _=>rfl,fun _ _ h=>h,fun _ _ cur _ _ h=>⟨cur,h,rfl⟩⟩
theorem Step.trans{F F1 F2:Nat→Prop}{w w1 w2:World}{ι ι1 ι2:Nat→Option Nat}(h:Step F w ι F1 w1 ι1)(k:Step F1 w1 ι1 F2 w2 ι2):Step F w ι F2 w2 ι2 :=
 ⟨fun b hb=>k.F_le b (h.F_le b hb),fun b hb=>(k.blk b (h.F_le b hb)).trans (h.blk b hb),fun id b e=>k.ι_le id b (h.ι_le id b e),fun id b cur e hi hb=>by
  obtain⟨c1,h1,s1⟩:=h.own id b cur e hi hb
  obtain⟨c2,h2,s2⟩:=k.own id b c1 e (h.ι_le id b hi) h1
  exact⟨c2,h2,s2.trans s1⟩⟩
theorem block_add(a:Addr)(j:Nat):(a.add j).block=a.block:=by unfold Addr.add;split<;>rfl
theorem add_add(a:Addr)(i j:Nat):(a.add i).add j=a.add (i+j):=by
 unfold Addr.add
 by_cases hi:i=0<;>by_cases hj:j=0<;>simp[hi,hj,DW]
theorem gH(b o j:Nat):(⟨b,o,none⟩:Addr).add j=⟨b,o+j,none⟩:=by
 unfold Addr.add;split<;>simp_all
theorem eO{w w':World}{a:Addr}(h:w'.heap[a.block]? = w.heap[a.block]?):w'.cell? a=w.cell? a:=by simp[Bs,h]
theorem VD.step{F F':Nat→Prop}{w w':World}{x:D}{v:Value}(hF:∀ b,F b→F' b)(hb:∀ b,F b→w'.heap[b]? = w.heap[b]?)(h:VD F w x v):VD F' w' x v:=by
 induction h with
 |b x=>exact .b x
 |i k n=>exact .i k n
 |sl0 ad c=>exact .sl0 ad c
 | sl els ad n c sz f hn hc hsz hFb hcell hel ih =>
  exact .sl els ad n c sz f hn hc hsz (hF _ hFb) (fun j hj=>(eO (a:=ad.add j) (by rw[block_add];exact hb _ hFb)).trans (hcell j hj)) ih
 |ag cs vs hl h ih=>exact .ag cs vs hl ih
 |tp cs vs hl h ih=>exact .tp cs vs hl ih
 |lit v=>exact .lit v
 |pt cs ad f hFb hcell hel ih=>exact .pt cs ad f (hF _ hFb) (fun j hj=>(eO (a:=ad.add j) (by rw[block_add];exact hb _ hFb)).trans (hcell j hj)) ih
 |fn g cs vs hl h ih=>exact .fn g cs vs hl ih
 |mp k ks ds b ents clock hFb hb' hst hl hl' hk hv ih=>exact .mp k ks ds b ents clock (hF _ hFb) ((hb _ hFb).trans hb') hst hl hl' hk ih
 |iff t x v h ih=>exact .iff t x v ih
 |fm g x u h ih=>exact .fm g x u ih
theorem VD.mono{F F':Nat→Prop}{w:World}{x:D}{v:Value}(h:VD F w x v)(hF:∀ b,F b→F' b):VD F' w x v:=h.step hF fun _ _=>rfl
theorem V.step{F F':Nat→Prop}{w w':World}{ι ι':Nat→Option Nat}{x:AV}{v:Value}(hs:Step F w ι F' w' ι')(h:V F w ι x v):V F' w' ι' x v:=by
 induction h with
 |d x v h=>exact .d x v (h.step hs.F_le hs.blk)
 |nil=>exact .nil
 | own id off len sz b cap cur e hι hb hcap hl hm =>
  obtain⟨cur',hb',hsz⟩:=hs.own id b cur e hι hb
  exact .own id off len sz b cap cur' e (hs.ι_le _ _ hι) hb' (by omega) hl hm
 |ptr id off b hι=>exact .ptr id off b (hs.ι_le _ _ hι)
 |mp id b hι=>exact .mp id b (hs.ι_le _ _ hι)
 | fp cs ad f hF hcell hel =>
  exact .fp cs ad f (hs.F_le _ hF) (fun j hj=>(eO (a:=ad.add j) (by rw[block_add];exact hs.blk _ hF)).trans (hcell j hj)) (fun k c hk=>(hel k c hk).step hs.F_le hs.blk)
 |fd els ad n h=>exact .fd els ad n (h.step hs.F_le hs.blk)
 |ag cs vs hl h ih=>exact .ag cs vs hl ih
 |tp cs vs hl h ih=>exact .tp cs vs hl ih
 |un=>exact .un
 |ub t=>exact .ub t
 |kf f id b p e hι hF hp=>exact .kf f id b p e (hs.ι_le _ _ hι) (hs.F_le _ hF) ((hs.blk _ hF).trans hp)
 |fn g cs vs hl h ih=>exact .fn g cs vs hl ih
 |any v=>exact .any v
structure Kept(M:Nat→Prop)(B:Nat)(w w':World):Prop where
 os:w'.os=w.os
 tape:w'.tape=w.tape
 output:w'.output=w.output
 size:w.heap.size≤w'.heap.size
 block:∀ k,k<B→¬M k→w'.heap[k]? = w.heap[k]?
 shape:∀ k cur e,k<B→w.heap[k]? = some (.cells cur e (0,0))→∃ cur',w'.heap[k]? = some (.cells cur' e (0,0))∧cur'.size=cur.size
theorem Kept.refl(M:Nat→Prop)(B:Nat)(w:World):Kept M B w w:=⟨rfl,rfl,rfl,AA _,fun _ _ _=>rfl,fun _ cur _ _ h=>⟨cur,h,rfl⟩⟩
theorem Kept.trans{M:Nat→Prop}{B:Nat}{w w1 w2:World}(h:Kept M B w w1)(k:Kept M B w1 w2):Kept M B w w2 :=
 ⟨k.os.trans h.os,k.tape.trans h.tape,k.output.trans h.output,AY h.size k.size,fun b hb hm=>(k.block b hb hm).trans (h.block b hb hm),fun b cur e hb hc=>let ⟨c1,h1,s1⟩:=h.shape b cur e hb hc;let ⟨c2,h2,s2⟩:=k.shape b c1 e hb h1;⟨c2,h2,s2.trans s1⟩⟩
theorem Kept.below{M:Nat→Prop}{B B':Nat}{w w':World}(h:RowKit.Below B' w w')(hB:B≤B'):Kept M B w w':=⟨h.os,h.tape,h.output,h.size,fun k hk _=>h.block k (by omega),fun k cur e hk hc=>⟨cur,(h.block k (by omega)).trans hc,rfl⟩⟩
structure Ctx where
 W:World
 A:Nat→Prop
 M:Nat→Prop
 P0:Nat→Prop
 Z:Nat→Option Value
structure HR(G:Ctx)(F:Nat→Prop)(w:World)(ι:Nat→Option Nat)(C:Nat→Prop)(H:Hp):Prop where
 kept:Kept G.M G.W.heap.size G.W w
 F_lt:∀ b,F b→b<w.heap.size
 F_ok:∀ b,F b→G.A b∨G.M b∨G.W.heap.size≤b
 place:∀ id b,ι id=some b→(G.M b∨G.W.heap.size≤b)∧b<w.heap.size∧(¬C id→¬F b)
 obj:∀ id b o,ι id=some b→H id=some o→∃ ob,w.heap[b]? = some ob∧CR F w ι o ob
 inj:∀ id id' b,ι id=some b→ι id'=some b→¬C id→¬C id'→id=id'
 len:∀ id id' b o o',ι id=some b→ι id'=some b→¬C id→H id=some o→H id'=some o'→o'.len≤o.len
def hole:Obj:=.cells #[] 0 (0,0)
structure Sim(v w:World):Prop where
  tape:v.tape=w.tape
  drawn:v.drawn=w.drawn
  os:v.os=w.os
  output:v.output=w.output
  size:v.heap.size=w.heap.size
  blk:∀(b:Nat) (o:Obj),v.heap[b]? = some o→o=hole∨w.heap[b]? = some o∨∃(c:Array Value) (e:TypeId) (f:Nat×Nat),o=.cells c e (0,c.size)∧w.heap[b]? = some (.cells c e f)
def okO:Obj→Bool
  |.cells ..|.map ..|.mapIter ..|.loop ..|.deferred ..=>true
  |_=>false
def OkV(v:World):Prop:=∀(b:Nat) (o:Obj),v.heap[b]? = some o→okO o=true
def aH{α:Type}(P:Program):Sem α→World→Result α
  |.pure a,w=>.ok a w
  | .load .plain a k,w=>match w.cell? a with
    |some v=>aH P (k v) w
    | none=>.halt (.stuck "") w
  | .load .atomic _ _,w=>.halt (.stuck "") w
  | .store _ _ (.agg _) _,w | .store _ _ (.tuple _) _,w=>.halt (.stuck "") w
  | .store .plain a v k,w=>match w.cell? a with
    | some _=>if w.frozen? a then .halt (.stuck "") w else aH P k (w.setCell a v)
    | none=>.halt (.stuck "") w
  | .store .atomic _ _ _,w=>.halt (.stuck "") w
  | .new o k,w=>if okO o then aH P (k w.heap.size) { w with heap:=w.heap.push o } else .halt (.stuck "") w
  | .getObj r k,w=>match w.heap[r]? with
    | some (.cells ..)=>.halt (.stuck "") w
    |some o=>aH P (k o) w
    | none=>.halt (.stuck "") w
  | .setObj _ (.cells ..) _,w=>.halt (.stuck "") w
  | .setObj r o k,w=>if okO o then(match w.heap[r]? with
    | some (.cells ..)=>.halt (.stuck "") w
    |some _=>aH P k { w with heap:=w.heap.setIfInBounds r o }
    | none=>.halt (.stuck "") w) else .halt (.stuck "") w
  | .choose q k,w =>
    if q.forced then aH P (k 0) w
    else aH P (k (q.cut (w.tape w.drawn q))) { w with drawn:=w.drawn+1 }
  |.program k,w=>aH P (k P) w
  |.mark .noRoom k,w=>aH P k w
  | _,w=>.halt (.stuck "") w
def EvV(v:World)(e:Event):Prop :=
  (∃(a:Addr) (c:Array Value) (t:TypeId) (f:Nat×Nat),e.loc=.cell a∧e.sync=false∧v.heap[a.block]? = some (.cells c t f)∧a.off<c.size∧(e.write=true→f≠(0,c.size))) ∨
  (∃(r:Nat) (o:Obj),e.loc=.obj r∧e.sync=false∧v.heap[r]? = some o∧(∀ c t f,o≠C8 c t f)∧okO o=true)∨e=⟨.mark .noRoom,false,true⟩
structure Ext(v v':World):Prop where
  tape:v'.tape=v.tape
  os:v'.os=v.os
  output:v'.output=v.output
  size:v.heap.size≤v'.heap.size
  cells:∀(b:Nat) (c:Array Value) (t:TypeId) (f:Nat×Nat),v.heap[b]? = some (.cells c t f)→∃ c':Array Value,v'.heap[b]? = some (.cells c' t f)∧c'.size=c.size∧(f=(0,c.size)→c'=c)
  other:∀(b:Nat) (o:Obj),v.heap[b]? = some o→(∀ c t f,o≠C8 c t f)→okO o=true→∃ o':Obj,v'.heap[b]? = some o'∧(∀ c t f,o'≠C8 c t f)∧okO o'=true
theorem Ext.refl(v:World):Ext v v:=⟨rfl,rfl,rfl,AA _,fun _ c _ _ h=>⟨c,h,rfl,fun _=>rfl⟩,fun _ o h h1 h2=>⟨o,h,h1,h2⟩⟩
theorem Ext.trans{v v1 v2:World}(h:Ext v v1)(k:Ext v1 v2):Ext v v2 :=
  ⟨k.tape.trans h.tape,k.os.trans h.os,k.output.trans h.output,AY h.size k.size,fun b c t f hb=>by
    obtain⟨c1,h1,s1,e1⟩:=h.cells b c t f hb
    obtain⟨c2,h2,s2,e2⟩:=k.cells b c1 t f h1
    exact⟨c2,h2,s2.trans s1,fun e=>(e2 (s1 ▸ e)).trans (e1 e)⟩,fun b o hb h1 h2=>by
    obtain⟨o1,g1,g2,g3⟩:=h.other b o hb h1 h2
    exact k.other b o1 g1 g2 g3⟩
theorem EvV.ext{v v':World}{e:Event}(h:EvV v e)(k:Ext v v'):EvV v' e:=by
  rcases h with ⟨a,c,t,f,h1,h2,h3,h4,h5⟩|⟨r,o,h1,h2,h3,h4,h5⟩|h
  · obtain⟨c',g1,g2,_⟩:=k.cells _ _ _ _ h3
    exact .inl ⟨a,c',t,f,h1,h2,g1,by omega,fun e=>g2 ▸ h5 e⟩
  · obtain⟨o',g1,g2,g3⟩:=k.other _ _ h3 h4 h5
    exact .inr (.inl ⟨r,o',h1,h2,g1,g2,g3⟩)
  · exact .inr (.inr h)
def wA(v w w':World):Prop:=∀(b:Nat) (c:Array Value) (t:TypeId),v.heap[b]? = some (.cells c t (0,c.size))→w'.heap[b]? = w.heap[b]?
theorem Sim.cell{v w:World}(h:Sim v w){a:Addr}{x:Value}(hx:v.cell? a=some x):w.cell? a=some x:=by
  unfold Bs at hx ⊢
  cases hb:v.heap[a.block]? with
  |none=>simp[hb]at hx
  | some o =>
    rcases h.blk _ _ hb with rfl|h1|⟨c,e,_,rfl,h1⟩
    · simp[hb,hole]at hx
    · rw[h1];rw[hb]at hx;exact hx
    · rw[h1];rw[hb]at hx;exact hx
theorem nS{v:World}{a:Addr}{x:Value}(hx:v.cell? a=some x):∃ c t f,v.heap[a.block]? = some (.cells c t f)∧a.off<c.size∧a.spot.isSome=false:=by
  unfold Bs at hx
  split at hx
  · rename_i c t f hb
    split at hx
    · cases hx
    · rename_i hs
      exact⟨c,t,f,hb,(AZ.1 hx).1,by simpa using hs⟩
  · cases hx
def bKm(a:Addr)(x:Value):Obj→Obj
  |.cells c e f=>.cells (if a.spot.isSome then c else c.setIfInBounds a.off x) e f
  |o=>o
theorem cV(w:World)(a:Addr)(x:Value)(b:Nat):(w.setCell a x).heap[b]? = if b=a.block then(w.heap[b]?).map (bKm a x)else w.heap[b]? := by
  unfold E5
  simp only[Array.getElem?_modify]
  by_cases hb:b=a.block
  · subst hb
    rw[Ap rfl,Ap rfl]
    cases w.heap[a.block]? with
    |none=>rfl
    |some o=>cases o<;>rfl
  · rw[Ah (fun e=>hb e.symm),Ah hb]
section
variable {v w:World}
theorem Sim.alloc(h:Sim v w)(o:Obj):Sim { v with heap:=v.heap.push o } { w with heap:=w.heap.push o }:=by
  refine⟨h.tape,h.drawn,h.os,h.output,by simp[h.size],fun b x hb=>?_⟩
  simp only[Bm]at hb ⊢
  rw[←h.size]
  by_cases e:b=v.heap.size
  · rw[Ap e]at hb ⊢;exact .inr (.inl hb)
  · rw[Ah e]at hb ⊢;exact h.blk b x hb
theorem OkV.alloc(h:OkV v){o:Obj}(ho:okO o=true):OkV { v with heap:=v.heap.push o }:=by
  intro b x hb
  simp only[Bm]at hb
  split at hb
  · injection hb with e;exact e ▸ ho
  · exact h b x hb
theorem aY{a:Array Obj}{b:Nat}{x:Obj}(h:a[b]? = some x):b<a.size:=(AZ.1 h).1
theorem Ext.alloc(v:World)(o:Obj):Ext v { v with heap:=v.heap.push o }:=by
  refine⟨rfl,rfl,rfl,by simp,fun b c t f hb=>⟨c,?_,rfl,fun _=>rfl⟩,fun b x hb h1 h2=>⟨x,?_,h1,h2⟩⟩ <;>
  · simp only[Bm]
    rw[Ah (by have:=aY hb;omega)];exact hb
theorem wA.refl(v w:World):wA v w w:=fun _ _ _ _=>rfl
theorem wA.trans{v1 w1 w2:World}(h:wA v w w1)(hx:Ext v v1)(k:wA v1 w1 w2):wA v w w2:=fun b c t hb=>by
  obtain⟨c',g1,g2,g3⟩:=hx.cells b c t _ hb
  have:=g3 rfl;subst this
  exact(k b c' t g1).trans (h b c' t hb)
theorem Sim.store(h:Sim v w)(hok:OkV v){a:Addr}{x y:Value}(hc:v.cell? a=some y)(hf:v.frozen? a=false) :
    Sim (v.setCell a x) (w.setCell a x)∧w.frozen? a=false∧OkV (v.setCell a x)∧Ext v (v.setCell a x)∧wA v w (w.setCell a x)∧EvV (v.setCell a x) ⟨.cell a,true,false⟩:=by
  obtain⟨c,t,f,hb,hlt,hsp⟩:=nS hc
  have hfr:¬(f.1≤a.off∧a.off<f.2):=by
    unfold Dp at hf
    rw[hb]at hf
    simpa using hf
  have hnf:f≠(0,c.size):=by rintro rfl;exact hfr ⟨A5 _,hlt⟩
  have hw:w.heap[a.block]? = some (.cells c t f):=by
    rcases h.blk _ _ hb with e|e|⟨c',e',_,e,_⟩
    · injection e with e1 e2 e3;subst e1;simp at hlt
    · exact e
    · injection e with e1 e2 e3;subst e1;exact absurd e3 hnf
  have hne:∀ c' t',C8 c t f≠.cells c' t' (0,c'.size):=fun c' t' e=>by
    injection e with e1 e2 e3;subst e1;exact hnf e3
  refine⟨⟨h.tape,h.drawn,h.os,h.output,by simp[E5,h.size],fun b o ho=>?_⟩,?_,fun b o ho=>?_,⟨rfl,rfl,rfl,by simp[E5],fun b c' t' f' ho=>?_,fun b o ho h1 h2=>?_⟩,fun b c' t' ho=>?_,?_⟩
  · rw[cV]at ho ⊢
    by_cases e:b=a.block
    · rw[Ap e]at ho ⊢
      subst e
      rw[hb]at ho;rw[hw]
      exact .inr (.inl ho)
    · rw[Ah e]at ho ⊢;exact h.blk b o ho
  · unfold Dp;rw[hw];simpa using hfr
  · rw[cV]at ho
    split at ho
    · rename_i e;subst e
      rw[hb]at ho
      simp only[AQ,At]at ho
      subst ho;rfl
    · exact hok b o ho
  · rw[cV]
    split
    · rename_i e;subst e
      rw[hb]at ho;injection ho with ho;injection ho with e1 e2 e3;subst e1;subst e2;subst e3
      rw[hb]
      refine⟨_,rfl,by rw[hsp];simp,fun e=>absurd e hnf⟩
    · exact⟨c',ho,rfl,fun _=>rfl⟩
  · rw[cV]
    split
    · rename_i e;subst e
      rw[hb]at ho;injection ho with ho
      exact absurd ho.symm (h1 _ _ _)
    · exact⟨o,ho,h1,h2⟩
  · rw[cV]
    split
    · rename_i e;subst e
      rw[hb]at ho;injection ho with ho
      exact absurd ho (hne _ _)
    · rfl
  · refine .inl ⟨a,(if a.spot.isSome then c else c.setIfInBounds a.off x),t,f,rfl,rfl,?_,by rw[hsp];simpa using hlt,fun _=>by rw[hsp];simpa using hnf⟩
    rw[cV,Ap rfl,hb];rfl
theorem eW{α:Type}{P:Program}(s:Sem α):∀(v w:World) (es:Array Event) (r:α) (v':World),OkV v→Sim v w→aH P s v=.ok r v' →
    ∃ w' es',s.runT P w es=(.ok r w',es++es')∧Sim v' w'∧OkV v'∧Ext v v'∧wA v w w'∧∀ e∈es',EvV v' e:=by
  induction s with
  | pure a =>
    intro v w es r v' hok h hr
    simp only[aH,Result.ok.injEq]at hr
    obtain⟨rfl,rfl⟩:=hr
    exact⟨w,#[],by simp[ED],h,hok,.refl _,.refl _ _,by simp⟩
  | load m a k ih =>
    intro v w es r v' hok h hr
    cases m with
    |atomic=>simp[aH]at hr
    |plain =>
    simp only[aH]at hr
    cases hc:v.cell? a with
    |none=>rw[hc]at hr;cases hr
    | some x =>
      rw[hc]at hr
      obtain⟨w',es',h1,h2,h3,h4,h5,h6⟩:=ih x v w (es.push ⟨.cell a,false,false⟩) r v' hok h hr
      obtain⟨c,t,f,hb,hlt,_⟩:=nS hc
      refine⟨w',#[⟨.cell a,false,false⟩]++es',?_,h2,h3,h4,h5,fun e he=>?_⟩
      · simp only[ED,h.cell hc]
        rw[show(Mode.plain==Mode.atomic)=false from rfl,h1];simp
      · rcases DD.1 he with he|he
        · simp at he;subst he
          exact EvV.ext (.inl ⟨a,c,t,f,rfl,rfl,hb,hlt,fun e=>by cases e⟩) h4
        · exact h6 e he
  | store m a x k ih =>
    intro v w es r v' hok h hr
    have hx:(∀ cs,x≠.agg cs)∧(∀ cs,x≠.tuple cs):=by
      constructor<;>(rintro cs rfl;simp[aH]at hr)
    cases m with
    |atomic=>cases x<;>simp[aH]at hr
    |plain =>
    cases hc:v.cell? a with
    |none=>cases x<;>first|exact absurd rfl (hx.1 _)|exact absurd rfl (hx.2 _)|(simp only[aH,hc]at hr;cases hr)
    | some y =>
      have hf:v.frozen? a=false:=by
        cases hf:v.frozen? a with
        |false=>rfl
        |true=>cases x<;>first|exact absurd rfl (hx.1 _)|exact absurd rfl (hx.2 _)|(simp only[aH,hc,hf]at hr;cases hr)
      have hr':aH P k (v.setCell a x)=.ok r v':=by
        cases x<;>first|exact absurd rfl (hx.1 _)|exact absurd rfl (hx.2 _)|(simp only[aH,hc,hf]at hr;exact hr)
      obtain⟨g1,g2,g3,g4,g5,g6⟩:=h.store hok (x:=x) hc hf
      obtain⟨w',es',h1,h2,h3,h4,h5,h6⟩:=ih _ _ (es.push ⟨.cell a,true,false⟩) r v' g3 g1 hr'
      refine⟨w',#[⟨.cell a,true,false⟩]++es',?_,h2,h3,g4.trans h4,g5.trans g4 h5,fun e he=>?_⟩
      · have hw:w.cell? a=some y:=h.cell hc
        have:(Sem.store .plain a x k).runT P w es=k.runT P (w.setCell a x) (es.push ⟨.cell a,true,false⟩):=by
          cases x<;>first|exact absurd rfl (hx.1 _)|exact absurd rfl (hx.2 _)|(simp only[ED,hw,g2];rfl)
        rw[this,h1];simp
      · rcases DD.1 he with he|he
        · simp at he;subst he;exact g6.ext h4
        · exact h6 e he
  | new o k ih =>
    intro v w es r v' hok h hr
    simp only[aH]at hr
    split at hr
    case isFalse=>cases hr
    rename_i ho
    obtain⟨w',es',h1,h2,h3,h4,h5,h6⟩:=ih v.heap.size _ _ es r v' (hok.alloc ho) (h.alloc o) hr
    refine⟨w',es',by simp only[ED];rw[←h.size];exact h1,h2,h3,(Ext.alloc v o).trans h4,?_,h6⟩
    have hr1:wA v w { w with heap:=w.heap.push o }:=fun b c t hb=>by
      simp only[Bm]
      rw[Ah (by have:=aY hb;have:=h.size;omega)]
    exact hr1.trans (Ext.alloc v o) h5
  |shape r0 k _=>intro v w es r v' hok h hr;simp[aH]at hr
  |frozen a k _=>intro v w es r v' hok h hr;simp[aH]at hr
  |freeze a n k _=>intro v w es r v' hok h hr;simp[aH]at hr
  |sys c k _=>intro v w es r v' hok h hr;simp[aH]at hr
  | getObj r0 k ih =>
    intro v w es r v' hok h hr
    simp only[aH]at hr
    cases hb:v.heap[r0]? with
    |none=>simp[hb]at hr
    | some o =>
      rw[hb]at hr
      have hk:=hok _ _ hb
      have hw:(∀ c t f,o≠C8 c t f):=by
        rintro c t f rfl;simp at hr
      have hr1:aH P (k o) v=.ok r v':=by
        rw[←hr];cases o<;>first|exact absurd rfl (hw _ _ _)|rfl
      have hwb:w.heap[r0]? = some o:=by
        rcases h.blk _ _ hb with rfl|e|⟨c,t,_,rfl,_⟩
        · exact absurd rfl (hw _ _ _)
        · exact e
        · exact absurd rfl (hw _ _ _)
      obtain⟨w',es',h1,h2,h3,h4,h5,h6⟩:=ih o v w (es.push ⟨.obj r0,false,false⟩) r v' hok h hr1
      refine⟨w',#[⟨.obj r0,false,false⟩]++es',?_,h2,h3,h4,h5,fun e he=>?_⟩
      · have:(Sem.getObj r0 k).runT P w es=(k o).runT P w (es.push ⟨.obj r0,false,false⟩):=by
          simp only[ED,hwb]
          cases o<;>first|exact absurd rfl (hw _ _ _)|(simp[okO]at hk;done)|rfl
        rw[this,h1];simp
      · rcases DD.1 he with he|he
        · simp at he;subst he
          exact EvV.ext (.inr (.inl ⟨r0,o,rfl,rfl,hb,hw,hk⟩)) h4
        · exact h6 e he
  | setObj r0 o k ih =>
    intro v w es r v' hok h hr
    have hnc:(∀ c e f,o≠C8 c e f):=by rintro c e f rfl;simp[aH]at hr
    have ho:okO o=true:=by
      cases ho:okO o with
      |true=>rfl
      |false=>cases o<;>first|exact absurd rfl (hnc _ _ _)|(simp only[aH,ho]at hr;cases hr)
    cases hb:v.heap[r0]? with
    |none=>cases o<;>first|exact absurd rfl (hnc _ _ _)|(simp[aH,ho,hb]at hr;done)|(simp[okO]at ho;done)
    | some o0 =>
      have hw:(∀ c t f,o0≠C8 c t f):=by
        rintro c t f rfl
        cases o<;>first|exact absurd rfl (hnc _ _ _)|(simp[aH,ho,hb]at hr;done)|(simp[okO]at ho;done)
      have hk0:=hok _ _ hb
      have hr1:aH P k { v with heap:=v.heap.setIfInBounds r0 o }=.ok r v':=by
        cases o<;>first|exact absurd rfl (hnc _ _ _)|(simp[okO]at ho;done)|(simp only[aH,ho,hb,AF]at hr;cases o0<;>first|exact absurd rfl (hw _ _ _)|exact hr)
      have hwb:w.heap[r0]? = some o0:=by
        rcases h.blk _ _ hb with rfl|e|⟨c,t,_,rfl,_⟩
        · exact absurd rfl (hw _ _ _)
        · exact e
        · exact absurd rfl (hw _ _ _)
      have hlt:=aY hb
      have hltw:=aY hwb
      have hch:o.isChan=false:=by cases o<;>first|rfl|(simp[okO]at ho)
      have gv:∀ b,({ v with heap:=v.heap.setIfInBounds r0 o }:World).heap[b]? = if b=r0 then some o else v.heap[b]? := fun b=>by
        by_cases e:b=r0
        · subst e;simp[hlt]
        · simp only[AD (Ne.symm e)];rw[Ah e]
      have gw:∀ b,({ w with heap:=w.heap.setIfInBounds r0 o }:World).heap[b]? = if b=r0 then some o else w.heap[b]? := fun b=>by
        by_cases e:b=r0
        · subst e;simp[hltw]
        · simp only[AD (Ne.symm e)];rw[Ah e]
      have s1:Sim { v with heap:=v.heap.setIfInBounds r0 o } { w with heap:=w.heap.setIfInBounds r0 o } :=
        ⟨h.tape,h.drawn,h.os,h.output,by simp[h.size],fun b x hx=>by
          rw[gv]at hx;rw[gw]
          split at hx
          · rename_i e;rw[Ap e];exact .inr (.inl hx)
          · rename_i e;rw[Ah e];exact h.blk b x hx⟩
      have s2:OkV { v with heap:=v.heap.setIfInBounds r0 o }:=fun b x hx=>by
        rw[gv]at hx
        split at hx
        · injection hx with e;exact e ▸ ho
        · exact hok b x hx
      have s3:Ext v { v with heap:=v.heap.setIfInBounds r0 o }:=⟨rfl,rfl,rfl,by simp,fun b c t f hx=>by
          rw[gv]
          split
          · rename_i e;subst e;rw[hb]at hx;injection hx with e;exact absurd e (hw _ _ _)
          · exact⟨c,hx,rfl,fun _=>rfl⟩,fun b x hx h1 h2=>by
          rw[gv]
          split
          · exact⟨o,rfl,hnc,ho⟩
          · exact⟨x,hx,h1,h2⟩⟩
      have s4:wA v w { w with heap:=w.heap.setIfInBounds r0 o }:=fun b c t hx=>by
        rw[gw]
        split
        · rename_i e;subst e;rw[hb]at hx;injection hx with e;exact absurd e (hw _ _ _)
        · rfl
      obtain⟨w',es',h1,h2,h3,h4,h5,h6⟩:=ih _ _ (es.push ⟨.obj r0,true,false⟩) r v' s2 s1 hr1
      refine⟨w',#[⟨.obj r0,true,false⟩]++es',?_,h2,h3,s3.trans h4,s4.trans s3 h5,fun e he=>?_⟩
      · have:(Sem.setObj r0 o k).runT P w es=k.runT P { w with heap:=w.heap.setIfInBounds r0 o } (es.push ⟨.obj r0,true,false⟩):=by
          simp only[ED,hwb,hch]
        rw[this,h1];simp
      · rcases DD.1 he with he|he
        · simp at he;subst he
          exact EvV.ext (.inr (.inl ⟨r0,o,rfl,rfl,by rw[gv,Ap rfl],hnc,ho⟩)) h4
        · exact h6 e he
  | choose q k ih =>
    intro v w es r v' hok h hr
    simp only[aH]at hr
    by_cases hq:q.forced=true
    · rw[Ap hq]at hr
      obtain⟨w',es',h1,h2⟩:=ih 0 v w es r v' hok h hr
      exact⟨w',es',by simp only[ED];rw[Ap hq];exact h1,h2⟩
    · rw[Ah hq]at hr
      obtain⟨w',es',h1,h2,h3,h4,h5,h6⟩:=ih _ { v with drawn:=v.drawn+1 } { w with drawn:=w.drawn+1 } es r v' (fun b o hb=>hok b o hb) ⟨h.tape,by simp[h.drawn],h.os,h.output,h.size,h.blk⟩ hr
      refine⟨w',es',by simp only[ED];rw[Ah hq,show w.tape w.drawn q=v.tape v.drawn q by rw[h.tape,h.drawn]];exact h1,h2,h3,⟨h4.tape,h4.os,h4.output,h4.size,h4.cells,h4.other⟩,h5,h6⟩
  | program k ih =>
    intro v w es r v' hok h hr
    simp only[aH]at hr
    obtain⟨w',es',h1,h2⟩:=ih P v w es r v' hok h hr
    exact⟨w',es',by simp only[ED];exact h1,h2⟩
  | mark m k ih =>
    intro v w es r v' hok h hr
    cases m<;>first|(simp[aH]at hr;done)|skip
    simp only[aH]at hr
    obtain⟨w',es',h1,h2,h3,h4,h5,h6⟩:=ih v w (es.push ⟨.mark .noRoom,false,true⟩) r v' hok h hr
    refine⟨w',#[⟨.mark .noRoom,false,true⟩]++es',by simp only[ED];rw[h1];simp,h2,h3,h4,h5,fun e he=>?_⟩
    rcases DD.1 he with he|he
    · simp at he;subst he;exact .inr (.inr rfl)
    · exact h6 e he
  |halt x=>intro v w es r v' hok h hr;simp[aH]at hr
end
section
variable {α β:Type} (P:Program) (w:World)
theorem yW(x:Sem α)(f:α→Sem β):∀ w,aH P (x.bind f) w=(aH P x w).andThen fun a w'=>aH P (f a) w':=by
  induction x with
  |pure a=>intro w;simp[Ei,aH]
  |load m a k ih=>intro w;cases m<;>simp only[Ei,aH,FU];split<;>simp[ih]
  |store m a v k ih=>intro w;cases m<;>cases v<;>simp only[Ei,aH,FU]<;>(try (repeat' split)<;>simp[ih])
  |new o k ih=>intro w;simp only[Ei,aH];split<;>simp[ih]
  |getObj r k ih=>intro w;simp only[Ei,aH];split<;>simp[ih]
  |setObj r o k ih=>intro w;cases o<;>simp only[Ei,aH,FU]<;>(try (repeat' split)<;>simp[ih])
  |choose q k ih=>intro w;simp only[Ei,aH];split<;>simp[ih]
  |program k ih=>intro w;simp[Ei,aH,ih]
  |mark m k ih=>intro w;cases m<;>simp[Ei,aH,ih]
  |_=>intro w;simp[Ei,aH]
@[simp]theorem mM(x:Sem α)(f:α→Sem β):aH P (x >>= f) w=(aH P x w).andThen fun a w'=>aH P (f a) w':=yW P x f w
@[simp]theorem bAu(x:Sem α)(f:α→β):aH P (f <$> x) w=(aH P x w).andThen fun a w'=>.ok (f a) w':=yW P x _ w
@[simp]theorem bWc(a:α):aH P (Pure.pure a:Sem α) w=.ok a w:=rfl
@[simp]theorem bTg(a:α):aH P (Sem.pure a) w=.ok a w:=rfl
@[simp]theorem bWr(c:Prop)[Decidable c](x y:Sem α):aH P (if c then x else y) w=if c then aH P x w else aH P y w:=by split<;>rfl
theorem lN(o:Obj)(h:okO o=true):aH P (newObj o) w=.ok w.heap.size { w with heap:=w.heap.push o }:=by simp[newObj,aH,h]
@[simp]theorem bKx:aH P program w=.ok P w:=rfl
@[simp]theorem bKz(n:Nat):aH P (askRoom n) w=.ok () w:=by unfold askRoom;split<;>rfl
@[simp]theorem bQx(q:Question):aH P (choose q) w=if q.forced then .ok 0 w else .ok (q.cut (w.tape w.drawn q)) { w with drawn:=w.drawn+1 }:=by simp only[choose,aH]
@[simp] theorem bTf (why:String):aH P (stuck why:Sem α) w=.halt (.stuck "") w:=rfl
@[simp] theorem aTy (u:Unsupported):aH P (unsupported u:Sem α) w=.halt (.stuck "") w:=rfl
@[simp] theorem bKy (v:Value):aH P (goPanic v:Sem α) w=.halt (.stuck "") w:=rfl
end
end Go.Am
end
section
open List renaming map_map→ζ,mapM_map→ξ
namespace Go.Am
open Go.Conc
structure Env(v v1:World):Prop where
  tape:v1.tape=v.tape
  os:v1.os=v.os
  output:v1.output=v.output
  heap:∃ n,v1.heap=v.heap++AU n hole
theorem Env.refl(v:World):Env v v:=⟨rfl,rfl,rfl,0,by simp⟩
theorem Env.trans{v v1 v2:World}(h:Env v v1)(k:Env v1 v2):Env v v2:=by
  obtain⟨n,hn⟩:=h.heap
  obtain⟨m,hm⟩:=k.heap
  exact⟨k.tape.trans h.tape,k.os.trans h.os,k.output.trans h.output,n+m,by rw[hm,hn,Array.append_assoc];simp⟩
theorem Env.get{v v1:World}(h:Env v v1){b:Nat}(hb:b<v.heap.size):v1.heap[b]? = v.heap[b]? := by
  obtain⟨n,hn⟩:=h.heap
  rw[hn,BX hb]
theorem Env.size{v v1:World}(h:Env v v1):v.heap.size≤v1.heap.size:=by
  obtain⟨n,hn⟩:=h.heap;rw[hn];simp
theorem Env.okV{v v1:World}(h:Env v v1)(hv:OkV v):OkV v1:=by
  intro b o hb
  obtain⟨n,hn⟩:=h.heap
  rw[hn]at hb
  rcases Az b v.heap.size with hlt|hge
  · rw[BX hlt]at hb;exact hv b o hb
  · rw[Array.getElem?_append_right hge]at hb
    have:=BS hb
    rw[Array.mem_replicate]at this
    rw[this.2];rfl
structure vZ(v w v' w':World)(es:Array Event):Prop where
  sim:Sim v' w'
  ok:OkV v'
  ext:Ext v v'
  rest:wA v w w'
  evs:∀ e∈es,EvV v' e
structure aGy(P:Program)(main:Bool)(Win:Goroutine→World→Prop):Prop where
  env:∀{g:Goroutine} {v v1:World},Win g v→Env v v1→Win g v1
  step:∀{g:Goroutine} {v:World},g.status=.running→OkV v →
    (∀ v1 w,Env v v1→Sim v1 w→∃ g' v' w' es,stepG P main g w=.go g' w' es∧vZ v1 w v' w' es∧Win g' v')→Win g v
class Mch (P:Program) where
  main:Bool
  Fam:(Goroutine→World→Prop)→Prop
  closed:∀{Win:Goroutine→World→Prop},Fam Win→aGy P main Win
  none:Fam fun _ _=>False
section
variable {P:Program} [M:Mch P]
theorem aI{Win:Goroutine→World→Prop}(hW:M.Fam Win){g g':Goroutine}{v:World}(hr:g.status=.running)(hv:OkV v)(hs:∀ w,stepG P M.main g w=.go g' w)(h:Win g' v):Win g v :=
  (M.closed hW).step hr hv fun v1 w he hsim=>⟨g',v1,w,#[],hs w,⟨hsim,he.okV hv,.refl _,.refl _ _,by simp⟩,(M.closed hW).env h he⟩
def mI(b:Frame):Prop:=b.kind=.normal∨b.kind=.deferred
theorem mI.ne{b:Frame}(h:mI b):b.kind≠.early:=by rcases h with h|h<;>rw[h]<;>simp
theorem mI.beq{b:Frame}(h:mI b):(b.kind==C9)=false:=by rcases h with h|h<;>rw[h]<;>rfl
def nW(Win:Goroutine→World→Prop)(b:Frame)(k:List Item)(cs:List Frame):Exit→Act→World→Prop
  |.normal,a,v=>Win (G (b.at a k) cs) v
  |.exit id,a,v=>match exitTo id k with|some k'=>Win (G (b.at a k') cs) v|none=>False
  |.ret,a,v=>∀ todo,Win (G { b.at a todo with mode:=.returning } cs) v
  |_,_,_=>False
def WC(P:Program)[M:Mch P](c:Code)(Q:Exit→Act→World→Prop)(a:Act)(v:World):Prop :=
  ∀(Win:Goroutine→World→Prop),M.Fam Win→OkV v→∀(b:Frame) (k:List Item) (cs:List Frame),mI b→(∀ e a' v',OkV v'→Q e a' v'→nW Win b k cs e a' v')→Win (G (b.at a (.code c::k)) cs) v
def CX(P:Program)[M:Mch P](f:FuncId)(args:Array Value)(v:World)(R:Value→World→Prop):Prop :=
  ∀(Win:Goroutine→World→Prop),M.Fam Win→OkV v→∀(c:Frame) (cs:List Frame),(∀ x v',OkV v'→R x v'→Win (G (c.finish x) cs) v')→Win (G (Frame.enter P f args .normal) (c::cs)) v
theorem CX.mono{f:FuncId}{args:Array Value}{v:World}{R R':Value→World→Prop}(h:CX P f args v R)(hr:∀ x v',R x v'→R' x v'):CX P f args v R' :=
  fun Win hW hv c cs hk=>h Win hW hv c cs fun x v' ho hx=>hk x v' ho (hr x v' hx)
theorem CX.some{f:FuncId}{args:Array Value}{v:World}{R:Value→World→Prop}(h:CX P f args v R)(hv:OkV v):∃ x v',OkV v'∧R x v' :=
  Classical.byContradiction fun hn=>h _ M.none hv default [] fun x v' ho hx=>hn ⟨x,v',ho,hx⟩
def iM(P:Program)[M:Mch P](o:Oper)(a:Act)(next:Act→World→Prop):Result Next→Prop
  |.ok (.value x) v'=>next (a.put o.dst x) v'
  |.ok .skip v'=>next (a.put o.dst undef) v'
  |.ok (.defer d) v'=>next ({ a with defers:=d::a.defers }.put o.dst undef) v'
  |.ok (.enter f args) v'=>CX P f args v' fun x v''=>next (a.put o.dst x) v''
  |_=>False
def wpX(P:Program)[M:Mch P](o:Oper)(a:Act)(v:World)(next:Act→World→Prop):Prop :=
  iM P o a next (aH P (execOp a.eval o) v)
theorem Sim.refl(v:World):Sim v v:=⟨rfl,rfl,rfl,rfl,rfl,fun _ _ h=>.inr (.inl h)⟩
theorem aRb{α:Type}{s:Sem α}{v v':World}{r:α}(hv:OkV v)(h:aH P s v=.ok r v'):OkV v' :=
  let ⟨_,_,_,_,h3,_⟩:=eW s v v #[] r v' hv (.refl v) h;h3
theorem aEd{Win:Goroutine→World→Prop}(hW:M.Fam Win){b:Frame}{a:Act}{k:List Item}{cs:List Frame}{v:World}{ops:Array Oper}{i:Nat}{rest:List Nat}{o:Oper}{K:Act→World→Prop}(hb:mI b)(ho:ops[i]? = some o)(hw:Bl o (yielded ops a.tmps)=true)
    (hv:OkV v) (h:∀ v1,Env v v1→wpX P o a v1 K) (hk:∀ a' v',OkV v'→K a' v'→Win (G (b.at a' (.inRegion ops rest::k)) cs) v') :
    Win (G (b.at a (.inRegion ops (i::rest)::k)) cs) v:=by
  have hbk:b.kind≠.early:=hb.ne
  refine(M.closed hW).step rfl hv fun v1 w he hsim=>?_
  have hu:=h v1 he
  unfold wpX at hu
  have hv1:=he.okV hv
  cases hr:aH P (execOp a.eval o) v1 with
  |halt x v'=>rw[hr]at hu;exact hu.elim
  | ok n v' =>
    obtain⟨w',es',h1,h2,h3,h4,h5,h6⟩:=eW _ v1 w #[] n v' hv1 hsim hr
    rw[hr]at hu
    have hrw:(execOp a.eval o).run P w=.ok n w':=by
      have:=Di P (execOp a.eval o) w #[]
      rw[h1]at this
      exact(congrArg Prod.fst this).symm
    have hev:∀ e∈listed P b.fn a o w,EvV v' e:=fun e hx=>by
      have:=mem_listed hx
      have h7:=Di P (execOp a.eval o) w #[]
      rw[h1]at h7
      have h8:(execOp a.eval o).events P w #[]=#[]++es':=(congrArg Prod.snd h7).symm
      rw[h8]at this
      exact h6 e (by simpa using this)
    have hst:vZ v1 w v' w' (listed P b.fn a o w):=⟨h2,h3,h4,h5,hev⟩
    cases n with
    |value x=>exact⟨_,v',w',_,stepG_value ho hw hbk hrw,hst,hk _ _ h3 hu⟩
    |skip=>exact⟨_,v',w',_,stepG_none ho hw hbk hrw,hst,hk _ _ h3 hu⟩
    | enter f args =>
      refine⟨_,v',w',_,stepG_enter ho hw hbk hrw,hst,hu Win hW h3 _ _ fun x v'' ho' hx=>?_⟩
      rw[D6,ho]
      exact hk _ _ ho' hx
    | defer d =>
      refine⟨G (b.at (Act.put { a with defers:=d::a.defers } o.dst undef) (.inRegion ops rest::k)) cs,v',w',_,?_,hst,hk (Act.put { a with defers:=d::a.defers } o.dst undef) v' h3 hu⟩
      rw[stepG_oper ho hw]
      have hk':(b.kind==C9)=false:=hb.beq
      have:({ b.at a (.inRegion ops (i::rest)::k) with defers:=d::a.defers }:Frame).finish undef =
          b.at ({ a with defers:=d::a.defers }.put o.dst undef) (.inRegion ops rest::k):=by
        have:=D6 b { a with defers:=d::a.defers } ops i rest k undef
        rw[ho]at this;exact this
      rw[←this]
      simp[stepG.apply,hrw,G,Frame.at,hk',Cl,listed]
    |_=>exact hu.elim
def gD(P:Program)[M:Mch P](ops:Array Oper)(Q:Exit→Act→World→Prop):List Oper→Act→World→Prop
  |[],a,v=>Q .normal a v
  |o::rest,a,v=>if Bl o (yielded ops a.tmps)then ∀ v1,Env v v1→wpX P o a v1 (gD P ops Q rest)else gD P ops Q rest (a.put o.dst undef) v
def wS(P:Program)[M:Mch P](ops:Array Oper)(Q:Exit→Act→World→Prop):Nat→Array Bool→Act→World→Prop
  |0,listed,a,v=>Bo .any ops listed=[]∧Q .normal a v
  | fuel+1,listed,a,v=>(Bo .any ops listed=[]→Q .normal a v)∧∀ i∈Bo .any ops listed,match ops[i]? with
      |none=>wS P ops Q fuel (listed.setIfInBounds i true) a v
      |some o=>if Bl o (yielded ops a.tmps)then ∀ v1,Env v v1→wpX P o a v1 (wS P ops Q fuel (listed.setIfInBounds i true))else wS P ops Q fuel (listed.setIfInBounds i true) (a.put o.dst undef) v
section
variable {Q:Exit→Act→World→Prop} {a:Act} {v:World}
theorem sP{Win:Goroutine→World→Prop}(hW:M.Fam Win){b:Frame}{k:List Item}{cs:List Frame}{ops:Array Oper}{i:Nat}{rest:List Nat}{o:Oper}(ho:ops[i]? = some o)(hw:¬Bl o (yielded ops a.tmps)=true)(hv:OkV v)
    (h:Win (G (b.at (a.put o.dst undef) (.inRegion ops rest::k)) cs) v):Win (G (b.at a (.inRegion ops (i::rest)::k)) cs) v :=
  aI hW rfl hv (fun w=>stepG_unwanted ho (by simpa using hw)) h
theorem yB{Win:Goroutine→World→Prop}(hW:M.Fam Win){ops:Array Oper}{b:Frame}{k:List Item}{cs:List Frame}(hb:mI b):∀(l:List Oper) (n:Nat) (a:Act) (v:World),OkV v→(∀ j o,l[j]? = some o→ops[n+j]? = some o)→n+l.length=ops.size→gD P ops Q l a v →
    (∀ a' v',OkV v'→Q .normal a' v'→Win (G (b.at a' k) cs) v')→Win (G (b.at a (.inRegion ops (List.range' n l.length)::k)) cs) v
  |[],n,a,v,hv,_,_,h,hk=>aI hW rfl hv (fun w=>stepG_region_end) (hk a v hv h)
  | o::l,n,a,v,hv,hl,hn,h,hk=>by
    have ho:ops[n]? = some o:=by simpa using hl 0 o rfl
    have ih:=fun a v hv h=>yB hW hb l (n+1) a v hv (fun j o hj=>by have:=hl (j+1) o (by simpa using hj);rw[←this];congr 1;omega) (by simp at hn;omega) h hk
    rw[Aj,DY]
    unfold gD at h
    split at h
    · rename_i hw
      exact aEd hW hb ho hw hv h fun a' v' hv' h'=>ih a' v' hv' h'
    · rename_i hw
      exact sP hW ho hw hv (ih _ v hv h)
theorem gX{id:Nat}{ops:Array Oper}(h:gD P ops Q ops.toList a v):WC P (.region id ops false) Q a v:=by
  intro Win hW hv b k cs hb hk
  refine aI hW rfl hv (fun w=>stepG_region) ?_
  have:=yB hW (Q:=Q) (b:=b) (k:=k) (cs:=cs) hb ops.toList 0 a v hv (fun j o hj=>by simpa using hj) (by simp) h fun a' v' hv' hq=>hk .normal a' v' hv' hq
  rwa [List.range_eq_range',←BA]
theorem bJd{Win:Goroutine→World→Prop}(hW:M.Fam Win){ops:Array Oper}{b:Frame}{k:List Item}{cs:List Frame}(hb:mI b)(hk:∀ a' v',OkV v'→Q .normal a' v'→Win (G (b.at a' k) cs) v'):∀(fuel t:Nat) (listed:Array Bool) (a:Act) (v:World),OkV v→wS P ops Q fuel listed a v →
    Win (G (b.at a (.inRegion ops (Cm .any ops fuel t listed [])::k)) cs) v:=by
  intro fuel
  induction fuel with
  | zero =>
    intro t listed a v hv h
    simp only[Cm,List.reverse_nil]
    exact aI hW rfl hv (fun w=>stepG_region_end) (hk a v hv h.2)
  | succ fuel ih =>
    intro t listed a v hv h
    obtain⟨h0,h1⟩:=h
    simp only[Cm]
    change Win (G (b.at a (.inRegion ops (match(Bo .any ops listed)[t%(Bo .any ops listed).length]? with
      |some i=>Cm .any ops fuel (t/(Bo .any ops listed).length) (listed.setIfInBounds i true) [i]
      |none=>[].reverse)::k)) cs) v
    cases hi:(Bo .any ops listed)[t%(Bo .any ops listed).length]? with
    | none =>
      have hnil:Bo .any ops listed=[]:=by
        cases hr:Bo .any ops listed with
        |nil=>rfl
        | cons x xs =>
          rw[hr]at hi
          have hlt:t%(x::xs).length<(x::xs).length:=BL _ (by simp)
          simp at hi
          simp at hlt
          omega
      exact aI hW rfl hv (fun w=>stepG_region_end) (hk a v hv (h0 hnil))
    | some i =>
      simp only[]
      rw[linearise_go_acc,List.reverse_singleton,List.singleton_append]
      have h2:=h1 i (Ai hi)
      cases ho:ops[i]? with
      | none =>
        simp only[ho]at h2
        refine aI hW (g':=G (b.at a (.inRegion ops (Cm .any ops fuel (t/(Bo .any ops listed).length) (listed.setIfInBounds i true) [])::k)) cs) rfl hv (fun w=>?_) (ih _ _ a v hv h2)
        have hfin:∀ rest,(b.at a (.inRegion ops (i::rest)::k)).finish undef=b.at a (.inRegion ops rest::k):=fun rest=>by rw[D6,ho];rfl
        have:∀ rest,stepG P M.main (G (b.at a (.inRegion ops (i::rest)::k)) cs) w=.go (G ((b.at a (.inRegion ops (i::rest)::k)).finish undef) cs) w:=fun rest=>by simp[G,stepG,B7,Frame.at,ho]
        rw[this,hfin]
      | some o =>
        simp only[ho]at h2
        split at h2
        · rename_i hw;exact aEd hW hb ho hw hv h2 fun a' v' hv' h'=>ih _ _ a' v' hv' h'
        · rename_i hw;exact sP hW ho hw hv (ih _ _ _ v hv h2)
theorem OkV.congr{v v':World}(h:OkV v)(e:v'.heap=v.heap):OkV v':=fun b o hb=>h b o (e ▸ hb)
theorem bJf{id:Nat}{ops:Array Oper}(hm:P.follows .mixedOrders=true)(h:∀ d,wS P ops Q ops.size (AU ops.size false) a { v with drawn:=d }):WC P (.region id ops true) Q a v:=by
  intro Win hW hv b k cs hb hk
  refine(M.closed hW).step rfl hv fun v1 w he hsim=>?_
  have hd:stepG P M.main (G (b.at a (.code (.region id ops true)::k)) cs) w =
      .go (G (b.at a (.inRegion ops (FN (P.follows .mixedOrders) ops (w.tape w.drawn (.order b.fn id)))::k)) cs) { w with drawn:=w.drawn+1 }:=by
    simp[G,stepG,B7,Frame.at,choose,Sem.run,E9,Question.cut]
  have he2:Env { v with drawn:=v1.drawn+1 } { v1 with drawn:=v1.drawn+1 }:=⟨he.tape,he.os,he.output,he.heap⟩
  refine⟨_,{ v1 with drawn:=v1.drawn+1 },_,#[],hd,⟨⟨hsim.tape,by simp[hsim.drawn],hsim.os,hsim.output,hsim.size,hsim.blk⟩,(he.okV hv).congr rfl,⟨rfl,rfl,rfl,AA _,fun _ c _ _ h=>⟨c,h,rfl,fun _=>rfl⟩,fun _ o h h1 h2=>⟨o,h,h1,h2⟩⟩,fun _ _ _ _=>rfl,by simp⟩,(M.closed hW).env ?_ he2⟩
  simp only[FN,hm,Bool.true_or,AF]
  exact bJd hW (Q:=Q) hb (fun a' v' hv' hq=>hk .normal a' v' hv' hq) ops.size _ _ a _ (hv.congr rfl) (h _)
theorem bQ{c:Code}{Q':Exit→Act→World→Prop}(h:WC P c Q a v)(hq:∀ e a v,Q e a v→Q' e a v):WC P c Q' a v :=
  fun Win hW hv b k cs hb hk=>h Win hW hv b k cs hb fun e a' v' hv' hx=>hk e a' v' hv' (hq _ _ _ hx)
theorem xF(h:Q .normal a v):WC P .skip Q a v:=fun Win hW hv _ _ _ _ hk=>aI hW rfl hv (fun _=>stepG_skip) (hk .normal a v hv h)
theorem aYi{l:Nat}(h:Q .normal a v):WC P (.label l) Q a v:=fun Win hW hv _ _ _ _ hk=>aI hW rfl hv (fun _=>stepG_label) (hk .normal a v hv h)
theorem yC(h:Q .ret a v):WC P .ret Q a v:=fun Win hW hv _ k _ _ hk=>aI hW rfl hv (fun _=>stepG_ret') (hk .ret a v hv h (.code .ret::k))
theorem aQh{id:Nat}(h:Q (.exit id) a v):WC P (.exit id) Q a v:=by
  intro Win hW hv b k cs _ hk
  have:=hk (.exit id) a v hv h
  cases hx:exitTo id k with
  |some k'=>simp only[nW,hx]at this;exact aI hW rfl hv (fun _=>stepG_exit hx) this
  |none=>simp only[nW,hx]at this
theorem eB{x y:Code}(h:WC P x (Exit.then (WC P y Q) Q) a v):WC P (.seq x y) Q a v:=by
  intro Win hW hv b k cs hb hk
  refine aI hW rfl hv (fun _=>stepG_seq) (h Win hW hv b (.code y::k) cs hb fun e a' v' hv' hq=>?_)
  cases e with
  |normal=>exact hq Win hW hv' b k cs hb hk
  |exit id=>have:=hk _ a' v' hv' hq;simp only[nW,exitTo]at this ⊢;exact this
  |ret=>exact hk _ a' v' hv' hq
  |goto l=>exact hk _ a' v' hv' hq
  |panic ch=>exact hk _ a' v' hv' hq
  |outgrown=>exact hk _ a' v' hv' hq
theorem nA{c:Operand}{x y:Code}{t:Bool}(hc:a.eval c=.bool t)(h:WC P (if t then x else y) Q a v):WC P (.cond c x y) Q a v :=
  fun Win hW hv b k cs hb hk=>aI hW rfl hv (fun _=>stepG_cond hc) (h Win hW hv b k cs hb hk)
theorem yD{id:Nat}{c:Code}(h:WC P c (DR id Q) a v):WC P (.block id c) Q a v:=by
  intro Win hW hv b k cs hb hk
  refine aI hW rfl hv (fun _=>stepG_block) (h Win hW hv b (.inBlock id::k) cs hb fun e a' v' hv' hq=>?_)
  cases e with
  |normal=>exact aI hW rfl hv' (fun _=>stepG_inBlock) (hk .normal a' v' hv' hq)
  | exit id' =>
    simp only[DR]at hq
    simp only[nW,exitTo]
    by_cases he:id'=id
    · rw[Ap he]at hq
      have:=hk .normal a' v' hv' hq
      rw[Ap (by simpa using he.symm)];exact this
    · rw[Ah he]at hq
      have:=hk (.exit id') a' v' hv' hq
      rw[Ah (by simpa using fun x:id=id'=>he x.symm)];exact this
  |ret=>exact hk _ a' v' hv' hq
  |goto l=>exact hk _ a' v' hv' hq
  |panic ch=>exact hk _ a' v' hv' hq
  |outgrown=>exact hk _ a' v' hv' hq
theorem aQg{c:Code}(I:Nat→Act→World→Prop)(h0:∃ n,I n a v)(h:∀ n a v,I n a v→WC P c (Exit.then (fun a' v'=>∃ m,m<n∧I m a' v') Q) a v):WC P (.loop c) Q a v:=by
  intro Win hW hv b k cs hb hk
  have key:∀ n a v,OkV v→I n a v→Win (G (b.at a (.code c::.inLoop c::k)) cs) v:=by
    intro n
    induction n using Nat.strongRecOn with
    | _ n ih =>
      intro a v hv hI
      refine h n a v hI Win hW hv b (.inLoop c::k) cs hb fun e a' v' hv' hq=>?_
      cases e with
      | normal =>
        obtain⟨m,hlt,hI'⟩:=hq
        exact aI hW rfl hv' (fun _=>stepG_inLoop) (ih m hlt a' v' hv' hI')
      |exit id=>have:=hk _ a' v' hv' hq;simp only[nW,exitTo]at this ⊢;exact this
      |ret=>exact hk _ a' v' hv' hq
      |goto l=>exact hk _ a' v' hv' hq
      |panic ch=>exact hk _ a' v' hv' hq
      |outgrown=>exact hk _ a' v' hv' hq
  obtain⟨n,hn⟩:=h0
  exact aI hW rfl hv (fun _=>stepG_loop) (key n a v hv hn)
theorem aHe{c:Code}(h:WC P c (Exit.noGoto Q) a v):WC P (.scope c) Q a v:=by
  intro Win hW hv b k cs hb hk
  have hs:∀ w,stepG P M.main (G (b.at a (.code (.scope c)::k)) cs) w=.go (G (b.at a (.code c::.inScope c::k)) cs) w:=fun w=>by simp[G,stepG,B7,Frame.at]
  refine aI hW rfl hv hs (h Win hW hv b (.inScope c::k) cs hb fun e a' v' hv' hq=>?_)
  cases e with
  |normal=>exact aI hW rfl hv' (fun w=>by simp[G,stepG,B7,Frame.at]) (hk .normal a' v' hv' hq)
  |exit id=>have:=hk _ a' v' hv' hq;simp only[nW,exitTo]at this ⊢;exact this
  |ret=>exact hk _ a' v' hv' hq
  |goto l=>exact hq.elim
  |panic ch=>exact hk _ a' v' hv' hq
  |outgrown=>exact hk _ a' v' hv' hq
def aSg(P:Program)(fn:Func)(R:Value→World→Prop):Exit→Act→World→Prop
  |.normal,a,v|.ret,a,v=>a.defers=[]∧∀ v1,Env v v1→∃ x,aH P (results fn a.tmps) v1=.ok x v1∧R x v1
  |_,_,_=>False
omit M in
theorem rO{b:Frame}{cs:List Frame}{main:Bool}{fn:Func}{todo:List Item}{c:Frame}{x:Value}{w w':World}{es:Array Event}(hn:b.kind=.normal)(hd:a.defers=[])(hf:P.funcs[b.fn]? = some fn)
    (hr:(results fn a.tmps).runT P w #[]=(.ok x w',es)) :
    stepG P main (G { b.at a todo with mode:=.returning } (c::cs)) w=.go (G (c.finish x) cs) w' (seen P b.fn es):=by
  simp only[G,stepG,unwind,Frame.at,hd,hf,hr,doReturn,hn,Cl]
  simp
theorem fS{f:FuncId}{fn:Func}{c:Code}{args:Array Value}{R:Value→World→Prop}(hf:P.funcs[f]? = some fn)(hb:fn.body=some c)
    (h:WC P c (aSg P fn R) { tmps:=args++AU (fn.ntmps-args.size) undef,defers:=[] } v):CX P f args v R:=by
  intro Win hW hv c0 cs hk
  rw[enter_at args hf hb]
  have back:∀(a':Act) (v':World) (todo:List Item),OkV v'→aSg P fn R .ret a' v'→Win (G { (base f).at a' todo with mode:=.returning } (c0::cs)) v':=by
    intro a' v' todo hv' hq
    obtain⟨hd,hr⟩:=hq
    refine(M.closed hW).step rfl hv' fun v1 w he hsim=>?_
    obtain⟨x,hx,hR⟩:=hr v1 he
    obtain⟨w',es',h1,h2,h3,h4,h5,h6⟩:=eW _ v1 w #[] x v1 (he.okV hv') hsim hx
    refine⟨_,v1,w',_,rO (b:=base f) rfl hd hf h1,⟨h2,h3,h4,h5,fun e he'=>h6 e (by have:=mem_seen he';simpa using this)⟩,hk x v1 h3 hR⟩
  refine h Win hW hv (base f) [] (c0::cs) (.inl rfl) fun e a' v' hv' hq=>?_
  cases e with
  | normal =>
    refine aI hW rfl hv' (fun w=>stepG_end) ?_
    exact back a' v' [] hv' hq
  |ret=>exact fun todo=>back a' v' todo hv' hq
  |exit id=>exact hq.elim
  |goto l=>exact hq.elim
  |panic ch=>exact hq.elim
  |outgrown=>exact hq.elim
end
end
end Go.Am
end
section
open List renaming map_map→ζ,mapM_map→ξ
namespace Go.Am
section
variable {P:Program}
theorem Sem.run_bind{α β:Type}(x:Sem α)(f:α→Sem β)(P:Program)(w:World):aH P (x >>= f) w=(aH P x w).andThen fun a w'=>aH P (f a) w':=mM P w x f
theorem Sem.run_map{α β:Type}(x:Sem α)(f:α→β)(P:Program)(w:World):aH P (f <$> x) w=(aH P x w).andThen fun a w'=>.ok (f a) w':=bAu P w x f
theorem Sem.run_pure{α:Type}(a:α)(P:Program)(w:World):aH P (Pure.pure a:Sem α) w=.ok a w:=rfl
theorem wE(P:Program)(w:World):aH P program w=.ok P w:=rfl
@[simp]theorem yT(P:Program)(w:World)(c:Array Value)(e:TypeId)(f:Nat×Nat):aH P (newObj (.cells c e f)) w=.ok w.heap.size { w with heap:=w.heap.push (.cells c e f) }:=lN P w _ rfl
@[simp]theorem bTe(P:Program)(w:World)(c:Array MapEntry)(k:Nat):aH P (newObj (.map c k)) w=.ok w.heap.size { w with heap:=w.heap.push (.map c k) }:=lN P w _ rfl
@[simp]theorem bQw(P:Program)(w:World)(m:Option Nat)(i:Nat)(s:Array Nat)(j:Nat):aH P (newObj (.mapIter m i s j)) w=.ok w.heap.size { w with heap:=w.heap.push (.mapIter m i s j) }:=lN P w _ rfl
theorem aC{t:TypeId}{d:TypeDesc}(h:P.underlying t=some d)(w:World):aH P (underlying t) w=.ok d w:=by simp[underlying,h]
theorem oT(w:World)(t:TypeId)(a b:Bool)(h:P.underlying t=some .bool):aH P (Op.equal t (.bool a) (.bool b)) w=.ok (a==b) w:=by
  unfold Op.equal
  rw[show D8=9999+1 from rfl,DN]
  simp[aC h]
theorem aEy(w:World)(t:TypeId)(a b:Bool)(h:P.underlying t=some .bool):aH P (binOp .eql t (.bool a) (.bool b)) w=.ok (.bool (a==b)) w:=by
  simp only[binOp]
  simp[oT w t a b h]
theorem aEv(w:World)(t:TypeId)(a b:Bool)(h:P.underlying t=some .bool):aH P (binOp .neq t (.bool a) (.bool b)) w=.ok (.bool (!(a==b))) w:=by
  simp only[binOp]
  simp[oT w t a b h]
theorem yU(w:World)(t:TypeId)(xs ys:Array Value):aH P (binOp .eql t (.agg xs) (.agg ys)) w=(aH P (DN 10000 t (.agg xs) (.agg ys)) w).andThen fun b w'=>.ok (.bool b) w':=by
  simp only[binOp]
  simp[Op.equal,D8]
theorem aEx(w:World)(ts:Array TypeId)(t:TypeId)(k k':IntKind)(x y:Int):aH P (Builtin.max_ ts t #[.int k x,.int k' y]) w=.ok (.int k (if y>x then y else x)) w:=by simp[Builtin.max_,Builtin.max2]
theorem aEw(w:World)(ts:Array TypeId)(t:TypeId)(k k':IntKind)(x y:Int):aH P (Builtin.min_ ts t #[.int k x,.int k' y]) w=.ok (.int k (if y<x then y else x)) w:=by simp[Builtin.min_,Builtin.min2]
theorem bAp(w:World)(t e:TypeId)(i:TypeInfo)(z:Value)(ht:P.underlying t=some (.slice e))(hi:P.info? e=some i)(hz:i.zero=some z)(kl kc:IntKind)(l c:Int)(h0:0≤l)(hlc:l≤c)
    (hb:(i.bytes:Int)*c≤281474976710656) (h63:c≤9223372036854775807):aH P (Instr.makeSlice t (.int kl l) (.int kc c)) w=.ok (.slice (some ⟨w.heap.size,0,none⟩) l.toNat c.toNat) (w.alloc (.cells (madeCells z.cells (c.toNat*i.size)) e)):=by
  have e1:Al.wrap l=l∧Al.wrap c=c:=by constructor<;>(rw[IntKind.wrap_i64];omega)
  have e2:¬c<0∧¬(281474976710656<(i.bytes:Int)*c)∧¬l<0∧¬c<l:=by omega
  by_cases hn:c.toNat*i.size=0
  · simp[Instr.makeSlice,aC ht,asInt,asIntOf,typeInfo,hi,sizeOf,e1,e2,hn,newRow,madeCells,Gj]
  · simp[Instr.makeSlice,aC ht,asInt,asIntOf,typeInfo,hi,sizeOf,zeroValue,hz,e1,e2,hn,newRow,madeCells]
theorem cO{w:World}{r:Nat}{es:Array MapEntry}{clock:Nat}(hb:w.heap[r]? = some (.map es clock)):aH P (getObj r) w=.ok (.map es clock) w:=by simp[getObj,aH,hb]
theorem wV{w:World}{r:Nat}{m:Option Nat}{i:Nat}{s:Array Nat}{j:Nat}(hb:w.heap[r]? = some (.mapIter m i s j)):aH P (getObj r) w=.ok (.mapIter m i s j) w:=by simp[getObj,aH,hb]
theorem iO{w:World}{r:Nat}{es es':Array MapEntry}{clock clock':Nat}(hb:w.heap[r]? = some (.map es clock)):aH P (setObj r (.map es' clock')) w=.ok () { w with heap:=w.heap.setIfInBounds r (.map es' clock') }:=by simp[setObj,aH,hb,okO]
theorem aBl(w:World)(t k e:TypeId)(bm:Nat)(es:Array MapEntry)(clock:Nat)(ht:P.underlying t=some (.map k e))(hb:w.heap[bm]? = some (.map es clock)) :
    aH P (Instr.range t (.map (some bm))) w=.ok (.pointer (some ⟨w.heap.size,0,none⟩)) (w.alloc (.mapIter (some bm) clock #[] clock)):=by
  simp[Instr.range,aC ht,cO hb]
theorem oS{w:World}{kt:TypeId}{d:TypeDesc}{k:Value}{l:List MapEntry}{a:Option (Nat×Value)}(hd:P.underlying kt=some d)(h:Instr.findNow d k l 0=some a):aH P (Instr.findKey kt k l) w=.ok a w:=by
  simp[Instr.findKey,aC hd,h]
theorem nD{w:World}{kt:TypeId}{d:TypeDesc}{k:Value}(hd:P.underlying kt=some d)(hk:Eb d k)(e:Bool)(n:Nat):aH P (Instr.checkKey e (n+1) kt k) w=.ok () w:=by
  unfold Instr.checkKey
  simp only[mM,aC hd,AH]
  cases d<;>cases k<;>simp_all [Eb]
theorem uY{w:World}{d:TypeDesc}{k:Value}(hk:Eb d k):aH P (Instr.keyThatStays k k) w=.ok k w:=by
  simp[Instr.keyThatStays,MapKept.sameBits_self hk]
theorem aCk{w:World}{a:Addr}{v:Value}(h:w.cell? a=some v):aH P (load a) w=.ok v w:=by simp[load,aH,h]
theorem aMy{w:World}{a:Addr}{v y:Value}(hv:v.oneCell'=true)(h:w.cell? a=some y)(hf:w.frozen? a=false):aH P (store a v) w=.ok () (w.setCell a v):=by
  cases v<;>first|(simp[Co]at hv;done)|(simp[store,aH,h,hf])
theorem lL(w:World)(a:Addr)(f:Nat→Value):∀(n i:Nat) (acc:Array Value),(∀ j,j<n→w.cell? (a.add (i+j))=some (f (i+j)))→aH P (loadCellsFrom a i n acc) w=.ok (acc++((AK n).map fun j=>f (i+j)).toArray) w
  |0,i,acc,_=>by simp[loadCellsFrom]
  | n+1,i,acc,h=>by
    have h0:=h 0 (by omega)
    simp only[B8]at h0
    simp only[loadCellsFrom,mM,aCk h0,AH]
    rw[lL w a f n (i+1) _ fun j hj=>by have:=h (j+1) (by omega);rwa [show i+(j+1)=i+1+j from by omega]at this]
    congr 1
    rw[List.range_succ_eq_map]
    simp only[BO,List.map_map,B8]
    apply Array.ext'
    simp[Function.comp_def,DW,Ey 1]
theorem rB(w:World)(a:Addr)(n:Nat)(f:Nat→Value)(h:∀ j,j<n→w.cell? (a.add j)=some (f j)):aH P (loadCells a n) w=.ok ((AK n).map f).toArray w:=by
  have:=lL (P:=P) w a f n 0 #[] (fun j hj=>by simpa using h j hj)
  simpa[loadCells]using this
theorem eF(w:World)(size n:Nat)(b:Addr)(len cap:Nat)(cs:List Value)(hl:cs.length=n*size)(h:∀ j v,cs[j]? = some v→w.cell? (b.add j)=some v):aH P (DF size n (.slice (some b) len cap)) w=.ok cs.toArray w:=by
  simp only[DF]
  rw[rB w b (n*size) (fun j=>cs.getD j undef) fun j hj=>by
    have hj':j<cs.length:=by omega
    rw[h j cs[j] (Ab hj')];simp[hj']]
  congr 1
  rw[←hl]
  apply Array.ext'
  refine List.ext_getElem (by simp) fun j h1 h2=>?_
  simp at h1 h2 ⊢
  simp[h2]
theorem jW(w:World)(size n len cap:Nat):aH P (DF size n (.slice none len cap)) w=.ok #[] w:=by simp[DF]
theorem run_storeCells_at(g o:Nat)(t:TypeId):∀(vs:List Value) (i:Nat) (cur:Array Value) (w:World),w.heap[g]? = some (.cells cur t (0,0))→o+i+vs.length≤cur.size→(∀ v∈vs,v.oneCell'=true) →
    aH P (storeCells ⟨g,o,none⟩ vs i) w=.ok () (w.setRow g (cur.toList.take (o+i)++vs++cur.toList.drop (o+i+vs.length)).toArray):=by
  intro vs i cur w hg hl h1
  have hr:=_root_.Go.run_storeCells_at P g o t vs i cur w hg hl h1
  rw[←hr]
  clear hr
  induction vs generalizing i cur w with
  |nil=>simp[storeCells]
  | cons v rest ih =>
    have hi:o+i<cur.size:=by simp at hl;omega
    have hadd:(⟨g,o,none⟩:Addr).add i=⟨g,o+i,none⟩:=by unfold Addr.add;split<;>simp_all
    have hcell:w.cell? ⟨g,o+i,none⟩=some cur[o+i]:=by simp[Bs,hg,hi]
    have hfro:w.frozen? ⟨g,o+i,none⟩=false:=by simp[Dp,hg]
    have hone:=h1 v (by simp)
    have e1:aH P (store ((⟨g,o,none⟩:Addr).add i) v) w=.ok () (w.setCell ⟨g,o+i,none⟩ v):=by rw[hadd];exact aMy hone hcell hfro
    have e2:(store ((⟨g,o,none⟩:Addr).add i) v).run P w=.ok () (w.setCell ⟨g,o+i,none⟩ v):=by
      rw[hadd,run_store P w _ v _ hone,hcell];simp[hfro]
    simp only[storeCells,mM,Go.Sem.run_bind,e1,e2,AH]
    refine ih (i+1) (cur.setIfInBounds (o+i) v) _ ?_ (by simp at hl ⊢;omega) fun x hx=>h1 x (by simp[hx])
    rw[setCell_eq_setRow w g (o+i) cur t (0,0) v hg]
    exact setRow_heap w g cur _ t _ hg
theorem oU(w:World)(t ty e:TypeId)(i:TypeInfo)(z:Value)(ht:P.underlying t=some (.slice e))(hi:P.info? e=some i)(hz:i.zero=some z)
    (a:Addr) (n c:Nat) (news:List Value) (hl:news.length=n*i.size) (hnews:∀ j v,news[j]? = some v→w.cell? (a.add j)=some v) (h0:0<n) (h63:(n:Int)≤9223372036854775807) (h48:n*i.bytes≤281474976710656) :
    aH P (BT #[t,t] ty #[.slice none 0 0,.slice (some a) n c]) w=.ok (.slice (some ⟨w.heap.size,0,none⟩) n (grownCap w n 0 e)) (w.drew.alloc (.cells (news.toArray++C1 z.cells (grownCap w n 0 e-n)) e)):=by
  have e1:n≠0∧¬(9223372036854775807<(n:Int)):=by omega
  have e2:¬(281474976710656<ER n 0*i.bytes):=by rw[nextslicecap_zero h0];omega
  have hf:=eF (P:=P) w.drew i.size n a n c news hl (by simpa using hnews)
  simp[BT,aC ht,sizeOf,typeInfo,zeroValue,hi,hz,EH,e1,e2,E9,jW,hf,newRow,grownCap]
theorem oE(w:World)(t ty e:TypeId)(i:TypeInfo)(z:Value)(ht:P.underlying t=some (.slice e))(hi:P.info? e=some i)(hz:i.zero=some z)
    (b:Addr) (sLen sCap:Nat) (olds:List Value) (hlo:olds.length=sLen*i.size) (holds:∀ j v,olds[j]? = some v→w.cell? (b.add j)=some v)
    (a:Addr) (n c:Nat) (news:List Value) (hl:news.length=n*i.size) (hnews:∀ j v,news[j]? = some v→w.cell? (a.add j)=some v)
    (hg:sCap<sLen+n) (h63:((sLen+n:Nat):Int)≤9223372036854775807) (hfit:ER (sLen+n) sCap*i.bytes≤281474976710656) :
    aH P (BT #[t,t] ty #[.slice (some b) sLen sCap,.slice (some a) n c]) w =
      .ok (.slice (some ⟨w.heap.size,0,none⟩) (sLen+n) (grownCap w (sLen+n) sCap e))
        (w.drew.alloc (.cells (olds.toArray++news.toArray++C1 z.cells (grownCap w (sLen+n) sCap e-(sLen+n))) e)):=by
  have e1:¬(sLen+n≤sCap)∧¬(9223372036854775807<((sLen:Int)+(n:Int)))∧¬(281474976710656<ER (sLen+n) sCap*i.bytes):=by omega
  have hf:=eF (P:=P) w.drew i.size n a n c news hl (by simpa using hnews)
  have hfo:=eF (P:=P) w.drew i.size sLen b sLen sCap olds hlo (by simpa using holds)
  simp[BT,aC ht,sizeOf,typeInfo,zeroValue,hi,hz,EH,e1,E9,hf,hfo,newRow,grownCap]
  congr 2
  apply Array.ext'
  simp
theorem wW(w:World)(t ty e:TypeId)(i:TypeInfo)(ht:P.underlying t=some (.slice e))(hi:P.info? e=some i)
    (g sLen sCap:Nat) (cur:Array Value) (hg:w.heap[g]? = some (.cells cur e (0,0)))
    (a:Addr) (m c:Nat) (news:List Value) (hl:news.length=m*i.size) (hnews:∀ j u,news[j]? = some u→w.cell? (a.add j)=some u) (h1:∀ u∈news,u.oneCell'=true)
    (hroom:sLen+m≤sCap) (hfit:sLen*i.size+news.length≤cur.size) :
    aH P (BT #[t,t] ty #[.slice (some ⟨g,0,none⟩) sLen sCap,.slice (some a) m c]) w =
      .ok (.slice (some ⟨g,0,none⟩) (sLen+m) sCap) (w.setRow g (cur.toList.take (sLen*i.size)++news++cur.toList.drop (sLen*i.size+news.length)).toArray):=by
  have hf:=eF (P:=P) w i.size m a m c news hl hnews
  have hst:=run_storeCells_at (P:=P) g (sLen*i.size) e news 0 cur w hg (by simpa using hfit) h1
  simp only[B8]at hst
  simp[BT,aC ht,sizeOf,typeInfo,hi,EH,hroom,hf,Addr.add_lit,hst]
theorem aEz(w:World)(r bm since:Nat)(seen:Array Nat)(es:Array MapEntry)(clock:Nat)(e:MapEntry)
    (hr:w.heap[r]? = some (.mapIter (some bm) since (seen.push e.born) clock)) (hb:w.heap[bm]? = some (.map es clock)) (he:e∈es.toList) (hn:(es.toList.map (·.born)).Nodup) :
    aH P (Instr.entry (.pointer (some ⟨r,0,none⟩))) w=.ok (.tuple #[e.key,e.val]) w:=by
  have hf:es.find? (·.born==e.born)=some e:=by rw[←Array.find?_toList];exact Go.find_born e es.toList hn he
  simp only[Instr.entry,mM,wV hr,cO hb,AH,Array.back?_push,bne_self_eq_false,Ae,Av,hf]
  rfl
end
def cv1:Value→AV
 |.bool x=>.d (.b x)
 |.int k n=>.d (.i k n)
 |.slice none 0 0=>.nil
 |v=>.d (.lit v)
def cv:Value→AV
 |.agg cs=>.ag (cs.toList.map cv1)
 |v=>cv1 v
def oev(Γ:Nat→AV):Operand→AV
 |.tmp t=>Γ t
 |.const v=>cv v
 |.global g=>.d (.lit (.pointer (some ⟨g,0,none⟩)))
 |.func f=>.d (.lit (.func (.func f) #[] #[]))
section
variable {F:Nat→Prop} {w:World} {ι:Nat→Option Nat}
theorem bHy(v:Value):V F w ι (cv1 v) v:=by
 unfold cv1
 split
 ·exact .d _ _ (.b _)
 ·exact .d _ _ (.i _ _)
 ·exact .nil
 ·exact .d _ _ (.lit _)
theorem aGs(cs:Array Value)(k:Nat)(c:AV)(v:Value)(h:(cs.toList.map cv1)[k]? = some c)(h':cs[k]? = some v):V F w ι c v:=by
 simp only[Ag,Bh,h',AQ,At]at h
 subst h
 exact bHy v
theorem bHz(v:Value):V F w ι (cv v) v:=by
 unfold cv
 split
 ·exact .ag _ _ (by simp) (aGs _)
 ·exact bHy _
theorem cE{Γ:Nat→AV}{a:Act}{x:Operand}(h:∀ t,x=.tmp t→V F w ι (Γ t) (a.tmps.getD t undef)):V F w ι (oev Γ x) (a.eval x):=by
 cases x with
 |tmp t=>exact h t rfl
 |const v=>exact bHz v
 |global g=>exact .d _ _ (.lit _)
 |func f=>exact .d _ _ (.lit _)
end
theorem HR.congrC{G:Ctx}{F:Nat→Prop}{w:World}{ι:Nat→Option Nat}{C C':Nat→Prop}{H:Hp}(h:HR G F w ι C H)(hC:∀ id,C id↔C' id):HR G F w ι C' H:=by
 have:C=C':=funext fun id=>propext (hC id)
 exact this ▸ h
theorem HR.weakC{G:Ctx}{F:Nat→Prop}{w:World}{ι:Nat→Option Nat}{C C':Nat→Prop}{H:Hp}(h:HR G F w ι C H)(hC:∀ id,C id→C' id):HR G F w ι C' H :=
 ⟨h.kept,h.F_lt,h.F_ok,fun id b e=>⟨(h.place id b e).1,(h.place id b e).2.1,fun hn=>(h.place id b e).2.2 fun x=>hn (hC _ x)⟩,h.obj,
  fun id id' b e e' n n'=>h.inj id id' b e e' (fun x=>n (hC _ x)) (fun x=>n' (hC _ x)),
  fun id id' b o o' e e' n=>h.len id id' b o o' e e' (fun x=>n (hC _ x))⟩
def Y(P:Program)[M:Mch P](G:Ctx)(o:Oper)(Γ:Nat→AV)(C:Nat→Prop)(H H':Hp)(av:AV)(new con:Nat→Prop):Prop :=
 ∀(F:Nat→Prop) (w:World) (ι:Nat→Option Nat) (a:Act),OkV w→HR G F w ι C H →
  (∀ t,CC t∈o.op.operands→V F w ι (Γ t) (a.tmps.getD t undef))→(∀ id,new id→ι id=none) →
  ∀(next:Act→World→Prop),
   (∀(F':Nat→Prop) (w':World) (ι':Nat→Option Nat) (u:Value),HR G F' w' ι' (fun id=>C id∨con id) H'→Step F w ι F' w' ι' →
    (∀ id b,ι' id=some b→ι id=some b∨new id)→(∀ id,new id→∃ b,ι' id=some b)→V F' w' ι' av u→next (a.put o.dst u) w')→wpX P o a w next
def aW:Nat→Prop:=fun _=>False
theorem yA{P:Program}[M:Mch P]{G:Ctx}{o:Oper}{Γ:Nat→AV}{C:Nat→Prop}{H:Hp}{av:AV}
  (h:∀(F:Nat→Prop) (w:World) (ι:Nat→Option Nat) (a:Act),HR G F w ι C H→(∀ t,CC t∈o.op.operands→V F w ι (Γ t) (a.tmps.getD t undef)) →
   ∃ u,(aH P (execOp a.eval o) w=.ok (.value u) w)∧V F w ι av u):Y P G o Γ C H H av aW aW:=by
 intro F w ι a hok hR hop _ next hn
 obtain⟨u,hr,hv⟩:=h F w ι a hR hop
 unfold wpX
 rw[hr]
 exact hn F w ι u (hR.weakC fun _ h=>.inl h) (.refl _ _ _) (fun _ _ h=>.inl h) (fun _ h=>h.elim) hv
def upd{α:Type}(f:Nat→α)(k:Nat)(x:α):Nat→α:=fun j=>if j=k then x else f j
theorem upd_same{α:Type}(f:Nat→α)(k:Nat)(x:α):upd f k x k=x:=by simp[upd]
theorem upd_ne{α:Type}(f:Nat→α){k j:Nat}(x:α)(h:j≠k):upd f k x j=f j:=by simp[upd,h]
section
variable {G:Ctx} {F:Nat→Prop} {w:World} {ι:Nat→Option Nat} {C:Nat→Prop} {H:Hp}
theorem HR.ι_lt(hR:HR G F w ι C H){id b:Nat}(h:ι id=some b):b<w.heap.size:=(hR.place id b h).2.1
structure iX(w:World)(o:Obj)(w1:World):Prop where
 heap:w1.heap=w.heap.push o
 os:w1.os=w.os
 tape:w1.tape=w.tape
 output:w1.output=w.output
theorem iX.alloc(w:World)(o:Obj):iX w o (w.alloc o):=⟨rfl,rfl,rfl,rfl⟩
theorem iX.drew(w:World)(o:Obj):iX w o (w.drew.alloc o):=⟨rfl,rfl,rfl,rfl⟩
theorem iX.old{w w1:World}{o:Obj}(h:iX w o w1)(i:Nat)(hi:i<w.heap.size):w1.heap[i]? = w.heap[i]? := by
 rw[h.heap,Bm,Ah (by omega)]
theorem iX.new{w w1:World}{o:Obj}(h:iX w o w1):w1.heap[w.heap.size]? = some o:=by
 rw[h.heap,Bm,Ap rfl]
theorem iX.size{w w1:World}{o:Obj}(h:iX w o w1):w1.heap.size=w.heap.size+1:=by rw[h.heap,Array.size_push]
theorem rN(hR:HR G F w ι C H)(n:Nat)(hn:ι n=none){o:Obj}{w1:World}(hw:iX w o w1):Step F w ι F w1 (upd ι n (some w.heap.size)) :=
 ⟨fun _ h=>h,fun b hb=>hw.old b (hR.F_lt b hb),fun id b e=>by
  rw[upd_ne _ _ (fun he=>by rw[he,hn]at e;cases e)];exact e,
 fun id b cur e hi hb=>⟨cur,(hw.old b (hR.ι_lt hi)).trans hb,rfl⟩⟩
theorem CR.step{F':Nat→Prop}{w':World}{ι':Nat→Option Nat}{x:HO}{ob:Obj}(hs:Step F w ι F' w' ι')(h:CR F w ι x ob):CR F' w' ι' x ob:=by
 cases h with
 |cells e cs cur hl h=>exact .cells e cs cur hl fun k c hk=>let ⟨u,h1,h2⟩:=h k c hk;⟨u,h1,h2.step hs⟩
 |map k es ents clock hl hst h=>exact .map k es ents clock hl hst fun j x hj=>let ⟨en,h1,h2,h3⟩:=h j x hj;⟨en,h1,h2,h3.step hs⟩
 |iter k last es bm since c0 clock seen ents hF hb hold hsc hn hl h hla=>exact .iter k last es bm since c0 clock seen ents (hs.F_le _ hF) ((hs.blk _ hF).trans hb) hold hsc hn hl (fun j x hj=>let ⟨en,h1,h2,h3⟩:=h j x hj;⟨en,h1,h2,h3.step hs.F_le hs.blk⟩) fun x hx=>let ⟨e1,en,sn,e2,e3,e4,e5⟩:=hla x hx;⟨e1,en,sn,e2,e3,e4,e5.step hs.F_le hs.blk⟩
theorem HR.alloc(hR:HR G F w ι C H)(n:Nat)(hn:ι n=none){o:Obj}{w1:World}(hw:iX w o w1)(ho:HO)(hH:H n=some ho)(hcr:CR F w1 (upd ι n (some w.heap.size)) ho o) :
  HR G F w1 (upd ι n (some w.heap.size)) C H:=by
 have hs:=rN hR n hn hw
 have hsz:=hw.size
 have hW:G.W.heap.size≤w.heap.size:=hR.kept.size
 have cases_ι:∀ id b,upd ι n (some w.heap.size) id=some b→(id=n∧b=w.heap.size)∨(id≠n∧ι id=some b):=by
  intro id b e
  by_cases h:id=n
  ·subst h;rw[upd_same]at e;injection e with e;exact .inl ⟨rfl,e.symm⟩
  ·rw[upd_ne _ _ h]at e;exact .inr ⟨h,e⟩
 refine⟨hR.kept.trans ⟨hw.os,hw.tape,hw.output,by omega,fun k hk _=>hw.old k (by omega),fun k cur e hk hc=>⟨cur,(hw.old k (by omega)).trans hc,rfl⟩⟩,fun b hb=>by have:=hR.F_lt b hb;omega,hR.F_ok,?_,?_,?_,?_⟩
 ·intro id b e
  rcases cases_ι id b e with ⟨_,rfl⟩|⟨_,e⟩
  ·exact⟨.inr hW,by omega,fun _ hF=>by have:=hR.F_lt _ hF;omega⟩
  ·obtain⟨h1,h2,h3⟩:=hR.place id b e
   exact⟨h1,by omega,h3⟩
 ·intro id b x e hx
  rcases cases_ι id b e with ⟨rfl,rfl⟩|⟨_,e⟩
  ·rw[hH]at hx;injection hx with hx;subst hx;exact⟨o,hw.new,hcr⟩
  ·obtain⟨ob,h2,h3⟩:=hR.obj id b x e hx
   exact⟨ob,(hw.old b (hR.ι_lt e)).trans h2,h3.step hs⟩
 ·intro id id' b e e' hc hc'
  rcases cases_ι id b e with ⟨h1,h2⟩|⟨_,h2⟩<;>rcases cases_ι id' b e' with ⟨h1',h2'⟩|⟨_,h2'⟩
  ·rw[h1,h1']
  ·have:=hR.ι_lt h2';omega
  ·have:=hR.ι_lt h2;omega
  ·exact hR.inj id id' b h2 h2' hc hc'
 ·intro id id' b x x' e e' hc hx hx'
  rcases cases_ι id b e with ⟨h1,h2⟩|⟨_,h2⟩<;>rcases cases_ι id' b e' with ⟨h1',h2'⟩|⟨_,h2'⟩
  ·rw[h1]at hx;rw[h1',hx]at hx';injection hx' with h;subst h;exact AA _
  ·have:=hR.ι_lt h2';omega
  ·have:=hR.ι_lt h2;omega
  ·exact hR.len id id' b x x' h2 h2' hc hx hx'
end
theorem bIs{P:Program}[M:Mch P]{G:Ctx}{o:Oper}{Γ:Nat→AV}{C:Nat→Prop}{H:Hp}{av:AV}{n:Nat}{ho:HO}(hH:H n=some ho)
  (h:∀(F:Nat→Prop) (w:World) (ι:Nat→Option Nat) (a:Act),(∀ t,CC t∈o.op.operands→V F w ι (Γ t) (a.tmps.getD t undef)) →
   ∃ u ob w1,aH P (execOp a.eval o) w=.ok (.value u) w1∧iX w ob w1 ∧
    (∀ F' w' ι',Step F w ι F' w' ι'→ι' n=some w.heap.size→w'.heap[w.heap.size]? = some ob→CR F' w' ι' ho ob∧V F' w' ι' av u)) :
  Y P G o Γ C H H av (·=n) aW:=by
 intro F w ι a hok hR hop hnew next hn
 obtain⟨u,ob,w1,hr,hw,hv⟩:=h F w ι a hop
 have h0:=hnew n rfl
 have hs:=rN hR n h0 hw
 obtain⟨hcr,hvv⟩:=hv _ _ _ hs (upd_same _ _ _) hw.new
 unfold wpX
 rw[hr]
 refine hn F _ _ u ((hR.alloc n h0 hw ho hH hcr).weakC fun _ h=>.inl h) hs (fun id b e=>?_) (fun id h=>⟨_,by subst h;exact upd_same _ _ _⟩) hvv
 by_cases hid:id=n
 ·exact .inr hid
 ·rw[upd_ne _ _ hid]at e;exact .inl e
def one:AV→Bool
 |.d (.b _)|.d (.i _ _)|.d (.sl _)|.nil|.own ..|.ptr ..|.mp _|.fp _|.fd _|.fn ..|.d (.pt _)|.d (.fn _ _)|.d (.iff _ _)=>true
 |.d (.lit v)=>v.oneCell'
 |_=>false
def dF:AV→Option (List AV)
 |.ag cs=>if cs.all one then some cs else none
 |.d (.ag cs)=>if(cs.map AV.d).all one then some (cs.map .d)else none
 |x=>if one x then some [x]else none
def vX:AV→Option (List AV)
 |.ag cs=>some cs
 |.d (.ag cs)=>some (cs.map .d)
 |_=>none
def aTf:AV→Option (List AV)
 |.tp cs=>some cs
 |.d (.tp cs)=>some (cs.map .d)
 |_=>none
section
variable {F:Nat→Prop} {w:World} {ι:Nat→Option Nat}
theorem bRa{x:AV}{v:Value}(h1:one x=true)(h:V F w ι x v):v.oneCell'=true:=by
 cases h with
 |d x v h=>cases h<;>first|rfl|(simp[one]at h1;done)|simpa[one]using h1
 |ag cs vs hl h=>simp[one]at h1
 |tp cs vs hl h=>simp[one]at h1
 |un=>simp[one]at h1
 |any v=>simp[one]at h1
 |_=>rfl
theorem cells_one{v:Value}(h:v.oneCell'=true):v.cells=#[v]:=by cases v<;>first|rfl|(simp[Co]at h)
theorem uN{cs:List D}{vs:Array Value}(h:∀(k:Nat) c v,cs[k]? = some c→vs[k]? = some v→VD F w c v) :
  ∀(k:Nat) c v,(cs.map AV.d)[k]? = some c→vs[k]? = some v→V F w ι c v:=by
 intro k c v hc hv
 rw[Ag]at hc
 obtain⟨d,hd,rfl⟩:=Af.1 hc
 exact .d _ _ (h k d v hd hv)
theorem vW{x:AV}{v:Value}{cs:List AV}(h:vX x=some cs)(hv:V F w ι x v):∃ vs,v=.agg vs∧cs.length=vs.size∧∀(k:Nat) c u,cs[k]? = some c→vs[k]? = some u→V F w ι c u:=by
 unfold vX at h
 split at h
 ·injection h with h;subst h;cases hv with|ag _ vs hl hh=>exact⟨vs,rfl,hl,hh⟩
 ·injection h with h;subst h;cases hv with|d _ _ hh=>cases hh with|ag _ vs hl hh=>exact⟨vs,rfl,by simpa using hl,uN hh⟩
 ·cases h
theorem bSo{x:AV}{v:Value}{cs:List AV}(h:aTf x=some cs)(hv:V F w ι x v):∃ vs,v=.tuple vs∧cs.length=vs.size∧∀(k:Nat) c u,cs[k]? = some c→vs[k]? = some u→V F w ι c u:=by
 unfold aTf at h
 split at h
 ·injection h with h;subst h;cases hv with|tp _ vs hl hh=>exact⟨vs,rfl,hl,hh⟩
 ·injection h with h;subst h;cases hv with|d _ _ hh=>cases hh with|tp _ vs hl hh=>exact⟨vs,rfl,by simpa using hl,uN hh⟩
 ·cases h
def CV(F:Nat→Prop)(w:World)(ι:Nat→Option Nat)(cs:List AV)(vs:Array Value):Prop :=
 cs.length=vs.size∧(∀(k:Nat) c u,cs[k]? = some c→vs[k]? = some u→V F w ι c u)∧∀ u∈vs,u.oneCell'=true
theorem aBh{cs:List AV}{vs:Array Value}(h1:cs.all one=true)(hl:cs.length=vs.size)(h:∀(k:Nat) c u,cs[k]? = some c→vs[k]? = some u→V F w ι c u):CV F w ι cs vs:=by
 refine⟨hl,h,fun u hu=>?_⟩
 obtain⟨k,hk,rfl⟩:=EI.1 hu
 have hk':k<cs.length:=by omega
 exact bRa (List.all_eq_true.1 h1 _ (Bj hk')) (h k cs[k] vs[k] (Ab hk') (Ak hk))
theorem aAm{x:AV}{v:Value}{cs:List AV}(h:dF x=some cs)(hv:V F w ι x v):CV F w ι cs v.cells:=by
 unfold dF at h
 split at h
 ·split at h
  ·rename_i h1
   injection h with h;subst h
   cases hv with|ag _ vs hl hh=>exact aBh h1 hl hh
  ·cases h
 ·split at h
  ·rename_i h1
   injection h with h;subst h
   cases hv with|d _ _ hh=>cases hh with|ag _ vs hl hh=>exact aBh h1 (by simpa[Value.cells]using hl) (uN hh)
  ·cases h
 ·split at h
  ·rename_i h1
   injection h with h;subst h
   have h2:=bRa h1 hv
   rw[cells_one h2]
   exact aBh (by simpa using h1) (by simp) fun k c u hc hu=>by
    rcases k with _|k
    ·simp at hc hu;subst hc;subst hu;exact hv
    ·simp at hc
  ·cases h
theorem CV.get{cs:List AV}{vs:Array Value}(h:CV F w ι cs vs){k:Nat}{c:AV}(hc:cs[k]? = some c):∃ u,vs[k]? = some u∧V F w ι c u:=by
 have hk:k<cs.length:=(Ao.1 hc).1
 have hk':k<vs.size:=by have:=h.1;omega
 exact⟨vs[k],Ak hk',h.2.1 k c _ hc (Ak hk')⟩
theorem CV.step{F':Nat→Prop}{w':World}{ι':Nat→Option Nat}{cs:List AV}{vs:Array Value}(hs:Step F w ι F' w' ι')(h:CV F w ι cs vs):CV F' w' ι' cs vs :=
 ⟨h.1,fun k c u hc hu=>(h.2.1 k c u hc hu).step hs,h.2.2⟩
end
def lay(cells:List AV)(off:Nat)(cs:List AV):List AV:=cells.take off++cs++cells.drop (off+cs.length)
theorem nK{cells cs:List AV}{off:Nat}(h:off+cs.length≤cells.length):(lay cells off cs).length=cells.length:=by
 simp[lay];omega
theorem xR{cells cs:List AV}{off:Nat}(h:off+cs.length≤cells.length)(k:Nat) :
  (lay cells off cs)[k]? = if off≤k∧k<off+cs.length then cs[k-off]? else cells[k]? := by
 unfold lay
 by_cases h1:off≤k
 ·by_cases h2:k<off+cs.length
  ·rw[Ap ⟨h1,h2⟩,CG,AM (by simp;omega),Be,Da (by omega),AP (by omega)]
  ·rw[Ah (by omega),AM (by simp;omega),A8,Be,Da (by omega),BB]
   congr 1;omega
 ·rw[Ah (by omega),CG,AP (by simp;omega),Bv,Ap (by omega)]
theorem aVw(off:Nat):∀(l:List Value) (j:Nat) (cs:Array Value),off+j+l.length≤cs.size →
  ((l.zipIdx j).foldl (fun cs (p:Value×Nat)=>cs.setIfInBounds (off+p.2) p.1) cs).size=cs.size ∧
  ∀ k,((l.zipIdx j).foldl (fun cs (p:Value×Nat)=>cs.setIfInBounds (off+p.2) p.1) cs)[k]? = if off+j≤k∧k<off+j+l.length then l[k-(off+j)]? else cs[k]? := by
 intro l
 induction l with
 |nil=>intro j cs _;refine⟨rfl,fun k=>?_⟩;rw[Ah (by simp only[Au];omega)];rfl
 | cons v l ih =>
  intro j cs h
  simp only[Aj]at h
  obtain⟨h1,h2⟩:=ih (j+1) (cs.setIfInBounds (off+j) v) (by simp;omega)
  refine⟨by simpa using h1,fun k=>?_⟩
  simp only[List.zipIdx_cons,List.foldl_cons]
  rw[h2 k]
  by_cases hk:k=off+j
  ·subst hk
   rw[Ah (by omega),Ap ⟨AA _,by simp⟩,CN,BP]
   exact Array.getElem?_setIfInBounds_self_of_lt (by omega)
  ·by_cases h3:off+(j+1)≤k∧k<off+(j+1)+l.length
   ·rw[Ap h3,Ap (by simp only[Aj];omega)]
    rw[show k-(off+j)=(k-(off+(j+1)))+1 from by omega,Bt]
   ·rw[Ah h3,Ah (by simp only[Aj];omega),AD (by omega)]
def kW(place:Nat→Option (Nat×Nat))(cells:List AV):List (Nat×AV)→Option (List AV)
 |[]=>some cells
 | (i,x)::rest =>
  match place i,dF x with
  |some (off,size),some cs=>if cs.length=size∧off+cs.length≤cells.length then kW place (lay cells off cs) rest else none
  |_,_=>none
section
variable {F:Nat→Prop} {w:World} {ι:Nat→Option Nat}
theorem bWa{cells cs:List AV}{vs us:Array Value}{off:Nat}(h:CV F w ι cells vs)(hc:CV F w ι cs us)(hf:off+cs.length≤cells.length) :
  CV F w ι (lay cells off cs) (us.zipIdx.foldl (fun cs (p:Value×Nat)=>cs.setIfInBounds (off+p.2) p.1) vs):=by
 have hl:=h.1
 have hl':=hc.1
 obtain⟨h1,h2⟩:=aVw off us.toList 0 vs (by simp;omega)
 have he:(us.zipIdx.foldl (fun cs (p:Value×Nat)=>cs.setIfInBounds (off+p.2) p.1) vs)=((us.toList.zipIdx 0).foldl (fun cs (p:Value×Nat)=>cs.setIfInBounds (off+p.2) p.1) vs):=by
  rw[←Array.foldl_toList];simp
 rw[he]
 simp only[B8,BA]at h2
 refine⟨by rw[nK hf,h1];exact hl,fun k c u hk hu=>?_,fun u hu=>?_⟩
 ·rw[xR hf]at hk
  rw[h2 k]at hu
  by_cases hx:off≤k∧k<off+cs.length
  ·rw[Ap hx]at hk
   rw[Ap (by omega)]at hu
   exact hc.2.1 _ _ _ hk (by simpa using hu)
  ·rw[Ah hx]at hk
   rw[Ah (by omega)]at hu
   exact h.2.1 _ _ _ hk hu
 ·obtain⟨k,hk,rfl⟩:=EI.1 hu
  have hu':=h2 k
  rw[Ak hk]at hu'
  by_cases hx:off≤k∧k<off+us.size
  ·rw[Ap hx]at hu'
   exact hc.2.2 _ (by have:=Ai hu'.symm;simpa using this)
  ·rw[Ah hx]at hu'
   exact h.2.2 _ (BS hu'.symm)
theorem aGe(place:Nat→Option (Nat×Nat)):∀(parts:List (Nat×AV)) (vals:List (Nat×Value)) (cells:List AV) (vs:Array Value) (out:List AV),CV F w ι cells vs →
  parts.length=vals.length→(∀(k:Nat) p q,parts[k]? = some p→vals[k]? = some q→p.1=q.1∧V F w ι p.2 q.2)→kW place cells parts=some out →
  ∃ us,Instr.fill place vs vals=some us∧CV F w ι out us
 | [],[],cells,vs,out,h,_,_,he=>by
  simp only[kW,At]at he
  subst he
  exact⟨vs,rfl,h⟩
 | (i,x)::rest,(i',v)::vals,cells,vs,out,h,hl,hp,he=>by
  obtain⟨hi,hv⟩:=hp 0 _ _ rfl rfl
  simp only at hi hv
  subst hi
  simp only[kW]at he
  cases hpl:place i with
  |none=>simp[hpl]at he
  | some os =>
   obtain⟨off,size⟩:=os
   cases hcs:dF x with
   |none=>simp[hpl,hcs]at he
   | some cs =>
    simp only[hpl,hcs]at he
    split at he
    ·rename_i hx
     have hc:=aAm hcs hv
     have hcl:=hc.1
     have hsz:=h.1
     obtain⟨us,hu,hcv⟩:=aGe place rest vals _ _ out (bWa h hc hx.2) (by simpa using hl) (fun k p q a b=>hp (k+1) p q (by simpa using a) (by simpa using b)) he
     refine⟨us,?_,hcv⟩
     simp only[Instr.fill,hpl]
     have h3:(decide (v.cells.size≠size)||decide (off+v.cells.size>vs.size))=false:=by simp;omega
     rw[h3]
     exact hu
    ·cases he
 |[],_::_,_,_,_,_,hl,_,_=>by simp at hl
 |_::_,[],_,_,_,_,hl,_,_=>by simp at hl
end
def fE(P:Program)(t:TypeId):Option (List (Nat×Nat)) :=
 match P.underlying t with
 |some (.struct fs)=>fs.toList.mapM fun f=>(P.info? f.type).map fun i=>(f.offset,i.size)
 |_=>none
def tsz(P:Program)(t:TypeId):Option Nat:=(P.info? t).map (·.size)
def tby(P:Program)(t:TypeId):Option Nat:=(P.info? t).map (·.bytes)
def tz(P:Program)(t:TypeId):Option Value:=(P.info? t).bind (·.zero)
def cB(P:Program)(t:TypeId):Option Bool:=(P.underlying t).map fun|.struct _|.array _ _=>true|_=>false
def tel(P:Program)(t:TypeId):Option TypeId:=match P.underlying t with|some (.slice e)=>some e|_=>none
def yI(P:Program)(t:TypeId):Option (Nat×TypeId):=match P.underlying t with|some (.array n e)=>some (n,e)|_=>none
def bSp(P:Program)(s:TypeId)(f:Nat):Option (Nat×Bool×Nat):=match P.underlying s with|some (.struct fs)=>(fs[f]?).bind fun g=>(cB P g.type).bind fun a=>(tsz P g.type).map fun z=>(g.offset,a,z)|_=>none
def eQ(P:Program)(t:TypeId):Option IntKind:=match P.underlying t with|some (.int k)=>some k|_=>none
def tmp(P:Program)(t:TypeId):Option (TypeId×TypeId):=match P.underlying t with|some (.map k e)=>some (k,e)|_=>none
section
variable {P:Program} (w:World)
theorem run_sizeOf{t:TypeId}{n:Nat}(h:tsz P t=some n):aH P (sizeOf t) w=.ok n w:=by
 obtain⟨i,hi,rfl⟩:=Af.1 h
 simp[sizeOf,typeInfo,hi]
theorem fB{t:TypeId}{z:Value}(h:tz P t=some z):aH P (zeroValue t) w=.ok z w:=by
 obtain⟨i,hi,hz⟩:=Ad.1 h
 simp[zeroValue,typeInfo,hi,hz]
theorem kH{t:TypeId}{x:Bool}(h:cB P t=some x):aH P (isAgg t) w=.ok x w:=by
 obtain⟨d,hd,hx⟩:=Af.1 h
 subst hx
 cases d<;>simp[isAgg,aC hd]
theorem oA:∀(fs:List Field) (ps:List (Nat×Nat)),(fs.mapM fun f=>(P.info? f.type).map fun i=>(f.offset,i.size))=some ps →
  aH P (fs.mapM (m:=Sem) fun f=>do pure (f.offset,←sizeOf f.type)) w=.ok ps w
 |[],ps,h=>by simp at h;subst h;simp
 | f::fs,ps,h=>by
  simp only[Ce,CU,Ad,DO,At]at h
  obtain⟨p,hp,r,hr,rfl⟩:=h
  obtain⟨i,hi,rfl⟩:=Af.1 hp
  have ih:=oA fs r hr
  simp only[Ce,Sem.run_bind,run_sizeOf w (show tsz P f.type=some i.size by simp[tsz,hi]),AH,Sem.run_pure,ih]
theorem aHr{t:TypeId}{ps:List (Nat×Nat)}(h:fE P t=some ps):∃ fs,P.underlying t=some (.struct fs) ∧
  aH P (fs.mapM (m:=Sem) fun f=>do pure (f.offset,←sizeOf f.type)) w=.ok ps.toArray w∧(fs.toList.mapM fun f=>(P.info? f.type).map fun i=>(f.offset,i.size))=some ps:=by
 unfold fE at h
 split at h
 ·rename_i fs hu
  refine⟨fs,hu,?_,h⟩
  rw[Array.mapM_eq_mapM_toList,Sem.run_map,oA w _ _ h]
  rfl
 ·cases h
end
def arith(op:BinOp)(k:IntKind)(a b:Int):Option D :=
 match op with
 |.add=>some (.i k (k.wrap (a+b)))
 |.sub=>some (.i k (k.wrap (a-b)))
 |.mul=>some (.i k (k.wrap (a*b)))
 |.quo=>if b=0 then none else some (.i k (k.wrap (a.tdiv b)))
 |.rem=>if b=0 then none else some (.i k (a.tmod b))
 |.and=>some (.i k (bits .and k a b))
 |.or=>some (.i k (bits .or k a b))
 |.xor=>some (.i k (bits .xor k a b))
 |.andNot=>some (.i k (bits .andNot k a b))
 |.eql=>some (.b (a==b))
 |.neq=>some (.b (a != b))
 |.lss=>some (.b (decide (a<b)))
 |.leq=>some (.b (decide (a≤b)))
 |.gtr=>some (.b (decide (b<a)))
 |.geq=>some (.b (decide (b≤a)))
 |_=>none
def fJ(op:BinOp)(k:IntKind)(a b:Int):Option D :=
 if b<0 then none else
 match op with
 |.shl=>some (.i k (k.wrap (a*2^(min b.toNat k.bits))))
 |.shr=>some (.i k (a.fdiv (2^(min b.toNat k.bits))))
 |_=>none
def dK(op:BinOp)(boolT:Bool)(x y:AV):Option D :=
 match x,y with
 |.d (.i k a),.d (.i k' b)=>if op=.shl∨op=.shr then fJ op k a b else if k=k' then arith op k a b else none
 |.d (.b p),.d (.b q)=>if boolT then(match op with|.eql=>some (.b (p==q))|.neq=>some (.b (!(p==q)))|_=>none)else none
 |_,_=>none
def unA(op:UnOp)(x:AV):Option D :=
 match op,x with
 |.not,.d (.b p)=>some (.b !p)
 |.neg,.d (.i k a)=>some (.i k (k.wrap (0-a)))
 |.xor,.d (.i k a)=>some (.i k (bits .xor k (if k.signed then -1 else k.max) a))
 |_,_=>none
def bI(P:Program)(t:TypeId):Bool:=match P.underlying t with|some .bool=>true|_=>false
section
variable {P:Program} {F:Nat→Prop} {w:World} {ι:Nat→Option Nat}
theorem aHu{op:BinOp}{t:TypeId}{x y:AV}{u v:Value}{r:D}(h:dK op (bI P t) x y=some r)(hx:V F w ι x u)(hy:V F w ι y v)(ox oy:Operand) :
  ∃ z,(aH P (eqGuard op t ox oy u v) w=.ok () w∧aH P (binOp op t u v) w=.ok z w)∧VD F w r z:=by
 unfold dK at h
 split at h
 ·rename_i k a k' b
  cases hx with|d _ _ hx=>cases hx with|i =>
  cases hy with|d _ _ hy=>cases hy with|i =>
  by_cases hs:op=.shl∨op=.shr
  ·rw[Ap hs]at h
   unfold fJ at h
   by_cases hb:b<0
   ·simp[hb]at h
   ·rw[Ah hb]at h
    rcases hs with rfl|rfl<;>simp only[At]at h<;>subst h
    ·exact⟨_,⟨by simp[eqGuard_shl],by simp[binOp_shl,Op.shift,hb]⟩,.i _ _⟩
    ·exact⟨_,⟨by simp[eqGuard_shr],by simp[binOp_shr,Op.shift,hb]⟩,.i _ _⟩
  ·rw[Ah hs]at h
   by_cases hk:k=k'
   ·subst hk
    rw[Ap rfl]at h
    have hg:aH P (eqGuard op t ox oy (.int k a) (.int k b)) w=.ok () w:=by rw[eqGuard_at_int];simp
    cases op<;>simp only[arith,At]at h<;>try (cases h;done)
    case quo =>
     by_cases hb:b=0
     ·simp[hb]at h
     ·simp only[hb,Av,At]at h;subst h
      exact⟨_,⟨hg,by simp[binOp_quo,Op.intDiv,hb]⟩,.i _ _⟩
    case rem =>
     by_cases hb:b=0
     ·simp[hb]at h
     ·simp only[hb,Av,At]at h;subst h
      exact⟨_,⟨hg,by simp[binOp_rem,Op.intDiv,hb]⟩,.i _ _⟩
    case add=>subst h;exact⟨_,⟨hg,by simp[binOp_add,Op.intArith]⟩,.i _ _⟩
    case sub=>subst h;exact⟨_,⟨hg,by simp[binOp_sub,Op.intArith]⟩,.i _ _⟩
    case mul=>subst h;exact⟨_,⟨hg,by simp[binOp_mul,Op.intArith]⟩,.i _ _⟩
    case and=>subst h;exact⟨_,⟨hg,by simp[binOp_and,intBits_and]⟩,.i _ _⟩
    case or=>subst h;exact⟨_,⟨hg,by simp[binOp_or,intBits_or]⟩,.i _ _⟩
    case xor=>subst h;exact⟨_,⟨hg,by simp[binOp_xor,intBits_xor]⟩,.i _ _⟩
    case andNot=>subst h;exact⟨_,⟨hg,by simp[binOp_andNot,intBits_andNot]⟩,.i _ _⟩
    case eql=>subst h;exact⟨_,⟨hg,by simp[binOp_eql]⟩,.b _⟩
    case neq=>subst h;exact⟨_,⟨hg,by simp[binOp_neq]⟩,.b _⟩
    case lss=>subst h;exact⟨_,⟨hg,by simp[binOp_lss]⟩,.b _⟩
    case leq=>subst h;exact⟨_,⟨hg,by simp[binOp_leq]⟩,.b _⟩
    case gtr=>subst h;exact⟨_,⟨hg,by simp[binOp_gtr]⟩,.b _⟩
    case geq=>subst h;exact⟨_,⟨hg,by simp[binOp_geq]⟩,.b _⟩
   ·rw[Ah hk]at h;cases h
 ·rename_i p q
  cases hx with|d _ _ hx=>cases hx with|b =>
  cases hy with|d _ _ hy=>cases hy with|b =>
  by_cases ht:bI P t=true
  ·rw[Ap ht]at h
   have hu:P.underlying t=some .bool:=by
    unfold bI at ht;split at ht
    ·assumption
    ·cases ht
   have hg:aH P (eqGuard op t ox oy (.bool p) (.bool q)) w=.ok () w:=by rw[eqGuard_at_bool];simp
   split at h
   ·injection h with h;subst h;exact⟨_,⟨hg,aEy w t p q hu⟩,.b _⟩
   ·injection h with h;subst h;exact⟨_,⟨hg,aEv w t p q hu⟩,.b _⟩
   ·cases h
  ·rw[Ah ht]at h;cases h
 ·cases h
theorem bKs{op:UnOp}{x:AV}{u:Value}{r:D}(h:unA op x=some r)(hx:V F w ι x u):∃ z,aH P (Op.unary op u) w=.ok z w∧VD F w r z:=by
 unfold unA at h
 split at h
 ·injection h with h;subst h
  cases hx with|d _ _ hx=>cases hx with|b=>exact⟨_,by simp[unary_not],.b _⟩
 ·injection h with h;subst h
  cases hx with|d _ _ hx=>cases hx with|i=>exact⟨_,by simp[unary_neg,Op.intArith],.i _ _⟩
 ·injection h with h;subst h
  cases hx with|d _ _ hx=>cases hx with|i=>exact⟨_,by simp[unary_xor,intBits_xor],.i _ _⟩
 ·cases h
theorem eR{t e:TypeId}(h:tel P t=some e):P.underlying t=some (.slice e):=by
 unfold tel at h;split at h
 ·injection h with h;subst h;assumption
 ·cases h
theorem wM(w:World)(d:Nat)(t e:TypeId)(a:Option Addr)(n c n' c':Nat)(h:P.underlying t=some (.slice e)):aH P (DN (d+1) t (.slice a n c) (.slice none n' c')) w=.ok a.isNone w:=by
 cases a<;>simp[DN,aC h]
theorem bOy(w:World)(t e:TypeId)(a:Option Addr)(n c n' c':Nat)(h:P.underlying t=some (.slice e))(ox oy:Operand) :
  (aH P (eqGuard .eql t ox oy (.slice a n c) (.slice none n' c')) w=.ok () w∧aH P (binOp .eql t (.slice a n c) (.slice none n' c')) w=.ok (.bool a.isNone) w) ∧
  (aH P (eqGuard .neq t ox oy (.slice a n c) (.slice none n' c')) w=.ok () w∧aH P (binOp .neq t (.slice a n c) (.slice none n' c')) w=.ok (.bool (!a.isNone)) w):=by
 refine⟨⟨by rw[eqGuard_at_slice];simp,?_⟩,⟨by rw[eqGuard_at_slice];simp,?_⟩⟩
 ·simp only[binOp];simp[Op.equal,D8,wM w 9999 t e a n c n' c' h]
 ·simp only[binOp];simp[Op.equal,D8,wM w 9999 t e a n c n' c' h]
end
def tai(P:Program)(t:TypeId):Option IntKind:=match P.underlying t with
 |some (.array 2 e)=>if tsz P e=some 1 then eQ P e else none
 |_=>none
def bHj(op:BinOp)(tk:Option IntKind)(x y:AV):Option D:=match op,tk with
 | .eql,some k=>(vX x).bind fun cs=>(vX y).bind fun ds=>match cs,ds with
  |[.d (.i k1 a),.d (.i k2 b)],[.d (.i k3 c),.d (.i k4 d)]=>if k1=k∧k2=k∧k3=k∧k4=k then some (.b (a==c&&b==d))else none
  |_,_=>none
 |_,_=>none
theorem bKv{P:Program}(w:World){t e:TypeId}{k:IntKind}(ht:P.underlying t=some (.array 2 e))(he:P.underlying e=some (.int k))(hs:tsz P e=some 1)(a b c d:Int)(ox oy:Operand) :
  aH P (eqGuard .eql t ox oy (.agg #[.int k a,.int k b]) (.agg #[.int k c,.int k d])) w=.ok () w∧aH P (binOp .eql t (.agg #[.int k a,.int k b]) (.agg #[.int k c,.int k d])) w=.ok (.bool (a==c&&b==d)) w:=by
 have p0:∀(x y:Int),aH P (part e #[.int k x,.int k y] 0) w=.ok (.int k x) w:=fun x y=>by simp[part,isAgg,aC he]
 have p1:∀(x y:Int),aH P (part e #[.int k x,.int k y] 1) w=.ok (.int k y) w:=fun x y=>by simp[part,isAgg,aC he]
 have q:∀(n:Nat) (x y:Int),aH P (DS (n+1) e (.int k x) (.int k y)) w=.ok false w:=fun n x y=>by simp[DS,aC he]
 have r:∀(n:Nat) (x y:Int),aH P (DN (n+1) e (.int k x) (.int k y)) w=.ok (x==y) w:=fun n x y=>by simp[DN,aC he]
 have q':=q 9998
 have r':=r 9998
 constructor
 ·have h0:aH P (DS D8 t (.agg #[.int k a,.int k b]) (.agg #[.int k c,.int k d])) w=.ok false w:=by
   rw[show D8=9998+2 from rfl,DS]
   simp[Sem.run_bind,aC ht,AH,run_sizeOf w hs,ES,Std.Legacy.Range.size,DY,p0,p1,q']
  simp only[eqGuard]
  cases P.eqGuardType P.depth t<;>simp[h0]
 ·rw[yU]
  rw[show 10000=9998+2 from rfl,DN]
  cases h1:(a==c)<;>cases h2:(b==d)<;>simp[Sem.run_bind,aC ht,AH,run_sizeOf w hs,ES,Std.Legacy.Range.size,DY,p0,p1,r',h1,h2]
theorem bAr{P:Program}{F:Nat→Prop}{w:World}{ι:Nat→Option Nat}{op:BinOp}{t:TypeId}{x y:AV}{u v:Value}{r:D}(h:bHj op (tai P t) x y=some r)(hx:V F w ι x u)(hy:V F w ι y v)(ox oy:Operand) :
  ∃ z,(aH P (eqGuard op t ox oy u v) w=.ok () w∧aH P (binOp op t u v) w=.ok z w)∧VD F w r z:=by
 unfold bHj at h
 split at h
 case h_2=>cases h
 rename_i k ht
 unfold tai at ht
 split at ht
 case h_2=>cases ht
 rename_i e hu
 split at ht
 case isFalse=>cases ht
 rename_i hs
 have he:P.underlying e=some (.int k):=by
  unfold eQ at ht;split at ht
  ·injection ht with ht;subst ht;assumption
  ·cases ht
 obtain⟨cs,hcs,h1⟩:=Ad.1 h
 obtain⟨ds,hds,h2⟩:=Ad.1 h1
 clear h h1
 obtain⟨us,rfl,hul,huv⟩:=vW hcs hx
 obtain⟨vs,rfl,hvl,hvv⟩:=vW hds hy
 split at h2
 case h_2=>cases h2
 rename_i k1 a k2 b k3 c k4 d
 split at h2
 case isFalse=>cases h2
 rename_i hk
 obtain⟨rfl,rfl,rfl,rfl⟩:=hk
 injection h2 with h2;subst h2
 have two:∀(l:Array Value) (k:IntKind) (a b:Int),2=l.size→(∀(i:Nat) c u,[AV.d (.i k a),AV.d (.i k b)][i]? = some c→l[i]? = some u→V F w ι c u)→l=#[.int k a,.int k b]:=by
  intro l k a b hl h
  have h0:=h 0 _ l[0] rfl (Ak (by omega))
  have h1:=h 1 _ l[1] rfl (Ak (by omega))
  apply Array.ext
  ·simp;omega
  ·intro i hi hj
   rcases i with _|_|i
   ·generalize l[0]=q at h0;cases h0 with|d _ _ h0=>cases h0;rfl
   ·generalize l[1]=q at h1;cases h1 with|d _ _ h1=>cases h1;rfl
   ·omega
 have e1:=two us _ a b hul huv
 have e2:=two vs _ c d hvl hvv
 subst e1;subst e2
 exact⟨_,bKv w hu he hs a b c d ox oy,.b _⟩
def tst(P:Program)(t:TypeId):Bool:=match P.underlying t with
 | some (.struct fs)=>match fs.toList with
  | [f,g]=>f.offset == 0 && g.offset == 1 && f.name != "_" && g.name != "_" && !P.stoodInHeld t && (eQ P f.type).isSome && tsz P g.type == some 2 && !P.stoodInHeld g.type && (match P.underlying g.type with
   | some (.struct gs)=>match gs.toList with
    | [p,q]=>p.offset == 0 && q.offset == 1 && p.name != "_" && q.name != "_" && (eQ P p.type).isSome && (eQ P q.type).isSome
    |_=>false
   |_=>false)
  |_=>false
 |_=>false
def aXe(op:BinOp)(tk:Bool)(x y:AV):Option D:=match op,tk with
 | .neq,true=>(vX x).bind fun cs=>(vX y).bind fun ds=>match cs,ds with
  |[.d (.i k1 a),.d (.i k2 b),.d (.i k3 c)],[.d (.i l1 d),.d (.i l2 e),.d (.i l3 f)]=>if k1=l1∧k2=l2∧k3=l3 then some (.b (!(a==d&&(b==e&&c==f))))else none
  |_,_=>none
 |_,_=>none
theorem yF{P:Program}{t:TypeId}(h:(eQ P t).isSome=true):∃ k,P.underlying t=some (.int k):=by
 unfold eQ at h
 split at h
 ·rename_i k hk;exact⟨k,hk⟩
 ·cases h
theorem bAn{P:Program}(w:World){t:TypeId}(ht:tst P t=true)(k1 k2 k3:IntKind)(a b c d e f:Int)(ox oy:Operand) :
  aH P (eqGuard .neq t ox oy (.agg #[.int k1 a,.int k2 b,.int k3 c]) (.agg #[.int k1 d,.int k2 e,.int k3 f])) w=.ok () w∧aH P (binOp .neq t (.agg #[.int k1 a,.int k2 b,.int k3 c]) (.agg #[.int k1 d,.int k2 e,.int k3 f])) w=.ok (.bool (!(a==d&&(b==e&&c==f)))) w:=by
 unfold tst at ht
 split at ht
 case h_2=>cases ht
 rename_i fs hu
 split at ht
 case h_2=>cases ht
 rename_i F G hfs
 simp only[AR,beq_iff_eq,bne_iff_ne,Bool.not_eq_true']at ht
 obtain⟨⟨⟨⟨⟨⟨⟨⟨f0,g0⟩,fn⟩,gn⟩,hst⟩,hF⟩,hsz⟩,hsg⟩,hg⟩:=ht
 split at hg
 case h_2=>cases hg
 rename_i gs hug
 split at hg
 case h_2=>cases hg
 rename_i p q hgs
 simp only[AR,beq_iff_eq,bne_iff_ne]at hg
 obtain⟨⟨⟨⟨⟨p0,q0⟩,pn⟩,qn⟩,hp⟩,hq⟩:=hg
 obtain⟨kF,hF⟩:=yF hF
 obtain⟨kp,hp⟩:=yF hp
 obtain⟨kq,hq⟩:=yF hq
 have hfs':fs=#[F,G]:=by rw[←hfs]
 have hgs':gs=#[p,q]:=by rw[←hgs]
 subst hfs' hgs'
 have pF:∀(x y z:Value),aH P (part F.type #[x,y,z] F.offset) w=.ok x w:=fun x y z=>by simp[part,isAgg,aC hF,f0]
 have pG:∀(x y z:Value),aH P (part G.type #[x,y,z] G.offset) w=.ok (.agg #[y,z]) w:=fun x y z=>by simp[part,isAgg,aC hug,g0,run_sizeOf w hsz]
 have pp:∀(x y:Value),aH P (part p.type #[x,y] p.offset) w=.ok x w:=fun x y=>by simp[part,isAgg,aC hp,p0]
 have pq:∀(x y:Value),aH P (part q.type #[x,y] q.offset) w=.ok y w:=fun x y=>by simp[part,isAgg,aC hq,q0]
 have gI:∀(n:Nat) (T:TypeId) (k:IntKind) (hT:P.underlying T=some (.int k)) (k':IntKind) (x y:Int),aH P (DS (n+1) T (.int k' x) (.int k' y)) w=.ok false w:=fun n T k hT k' x y=>by simp[DS,aC hT]
 have eI:∀(n:Nat) (T:TypeId) (k:IntKind) (hT:P.underlying T=some (.int k)) (k':IntKind) (x y:Int),aH P (DN (n+1) T (.int k' x) (.int k' y)) w=.ok (x==y) w:=fun n T k hT k' x y=>by simp[DN,aC hT]
 have gG:∀(n:Nat),aH P (DS (n+2) G.type (.agg #[.int k2 b,.int k3 c]) (.agg #[.int k2 e,.int k3 f])) w=.ok false w:=fun n=>by
  rw[DS]
  simp[Sem.run_bind,aC hug,AH,pp,pq,pn,qn,gI n p.type kp hp,gI n q.type kq hq]
 have eG:∀(n:Nat),aH P (DN (n+2) G.type (.agg #[.int k2 b,.int k3 c]) (.agg #[.int k2 e,.int k3 f])) w=.ok (b==e&&c==f) w:=fun n=>by
  rw[DN]
  cases h1:(b==e)<;>cases h2:(c==f)<;>simp[Sem.run_bind,aC hug,AH,pp,pq,pn,qn,hsg,eI n p.type kp hp,eI n q.type kq hq,h1,h2]
 constructor
 ·have h0:aH P (DS D8 t (.agg #[.int k1 a,.int k2 b,.int k3 c]) (.agg #[.int k1 d,.int k2 e,.int k3 f])) w=.ok false w:=by
   rw[show D8=9997+3 from rfl,DS]
   simp[Sem.run_bind,aC hu,AH,pF,pG,fn,gn,gI 9998 F.type kF hF,gG 9997]
  simp only[eqGuard]
  cases P.eqGuardType P.depth t<;>simp[h0]
 ·have h1:aH P (DN D8 t (.agg #[.int k1 a,.int k2 b,.int k3 c]) (.agg #[.int k1 d,.int k2 e,.int k3 f])) w=.ok (a==d&&(b==e&&c==f)) w:=by
   rw[show D8=9997+3 from rfl,DN]
   cases h1:(a==d)<;>cases h2:(b==e)<;>cases h3:(c==f)<;>simp[Sem.run_bind,aC hu,AH,pF,pG,fn,gn,hst,eI 9998 F.type kF hF,eG 9997,h1,h2,h3]
  simp only[binOp]
  simp[Op.equal,h1]
theorem bAq{P:Program}{F:Nat→Prop}{w:World}{ι:Nat→Option Nat}{op:BinOp}{t:TypeId}{x y:AV}{u v:Value}{r:D}(h:aXe op (tst P t) x y=some r)(hx:V F w ι x u)(hy:V F w ι y v)(ox oy:Operand) :
  ∃ z,(aH P (eqGuard op t ox oy u v) w=.ok () w∧aH P (binOp op t u v) w=.ok z w)∧VD F w r z:=by
 unfold aXe at h
 split at h
 case h_2=>cases h
 rename_i ht
 obtain⟨cs,hcs,h1⟩:=Ad.1 h
 obtain⟨ds,hds,h2⟩:=Ad.1 h1
 clear h h1
 obtain⟨us,rfl,hul,huv⟩:=vW hcs hx
 obtain⟨vs,rfl,hvl,hvv⟩:=vW hds hy
 split at h2
 case h_2=>cases h2
 rename_i k1 a k2 b k3 c l1 d l2 e l3 f
 split at h2
 case isFalse=>cases h2
 rename_i hk
 obtain⟨rfl,rfl,rfl⟩:=hk
 injection h2 with h2;subst h2
 have three:∀(l:Array Value) (k1 k2 k3:IntKind) (a b c:Int),3=l.size→(∀(i:Nat) c' u,[AV.d (.i k1 a),AV.d (.i k2 b),AV.d (.i k3 c)][i]? = some c'→l[i]? = some u→V F w ι c' u)→l=#[.int k1 a,.int k2 b,.int k3 c]:=by
  intro l k1 k2 k3 a b c hl h
  have h0:=h 0 _ l[0] rfl (Ak (by omega))
  have h1:=h 1 _ l[1] rfl (Ak (by omega))
  have h2:=h 2 _ l[2] rfl (Ak (by omega))
  apply Array.ext
  ·simp;omega
  ·intro i hi hj
   rcases i with _|_|_|i
   ·generalize l[0]=q at h0;cases h0 with|d _ _ h0=>cases h0;rfl
   ·generalize l[1]=q at h1;cases h1 with|d _ _ h1=>cases h1;rfl
   ·generalize l[2]=q at h2;cases h2 with|d _ _ h2=>cases h2;rfl
   ·omega
 have e1:=three us _ _ _ a b c hul huv
 have e2:=three vs _ _ _ d e f hvl hvv
 subst e1;subst e2
 exact⟨_,bAn w ht k1 k2 k3 a b c d e f ox oy,.b _⟩
def zO:AV→Option (Option Bool)
 |.nil=>some (some true)
 |.own ..=>some (some false)
 |.d (.sl [])|.fd []=>some none
 |.d (.sl _)|.fd _=>some (some false)
 |_=>none
def bMt(op:BinOp)(b:Option Bool):Option AV :=
 match op,b with
 |.eql,some t=>some (.d (.b t))
 |.neq,some t=>some (.d (.b !t))
 |.eql,none=>some .ub
 |.neq,none=>some .ub
 |_,_=>none
def aVc(op:BinOp)(te:Option TypeId)(x y:AV):Option AV :=
 match te,y with
 |some _,.nil=>(zO x).bind (bMt op)
 |_,_=>none
def fD(sz:Nat)(els:List (List D)):Bool:=match els.head? with|some cs=>cs.length==sz|none=>true
def jS(sz:Nat)(x:AV)(l h:Int)(full:Bool):Option AV :=
 if 0≤l∧l≤h then
  match x with
  |.d (.sl els)|.fd els=>if h≤els.length∧fD sz els=true then some (if full then .fd ((els.take h.toNat).drop l.toNat)else .d (.sl ((els.take h.toNat).drop l.toNat)))else none
  |.nil=>if h≤0 then some (.d (.sl []))else none
  |.own id off len sz'=>if h≤len∧sz'=sz then(if l=h then some (.d (.sl []))else some (.own id (off+l.toNat) (h-l).toNat sz))else none
  |_=>none
 else none
def aBt:AV→Option Int
 |.d (.sl els)=>some els.length
 |.fd els=>some els.length
 |.nil=>some 0
 |.own _ _ len _=>some len
 |_=>none
section
variable {P:Program} {F:Nat→Prop} {w:World} {ι:Nat→Option Nat}
theorem bDr{x:AV}{v:Value}{b:Option Bool}(h:zO x=some b)(hv:V F w ι x v):∃ ad n c,v=.slice ad n c∧(b=none∨b=some ad.isNone):=by
 unfold zO at h
 split at h<;>first|(cases h;done)|(injection h with h;subst h)
 ·cases hv;exact⟨_,_,_,rfl,.inr rfl⟩
 ·cases hv;exact⟨_,_,_,rfl,.inr rfl⟩
 ·cases hv with|d _ _ hv=>cases hv with
  |sl0=>exact⟨_,_,_,rfl,.inl rfl⟩
  |sl=>exact⟨_,_,_,rfl,.inl rfl⟩
 ·cases hv;exact⟨_,_,_,rfl,.inl rfl⟩
 ·rename_i els hne
  cases hv with|d _ _ hv=>cases hv with
  |sl0=>exact(hne rfl).elim
  |sl=>exact⟨_,_,_,rfl,.inr rfl⟩
 ·rename_i els hne
  cases hv with|fd _ ad n hv=>cases hv with
  |sl0=>exact(hne rfl).elim
  |sl=>exact⟨_,_,_,rfl,.inr rfl⟩
theorem bAm{op:BinOp}{t:TypeId}{x y r:AV}{u v:Value}(h:aVc op (tel P t) x y=some r)(hx:V F w ι x u)(hy:V F w ι y v)(ox oy:Operand) :
  ∃ z,(aH P (eqGuard op t ox oy u v) w=.ok () w∧aH P (binOp op t u v) w=.ok z w)∧V F w ι r z:=by
 unfold aVc at h
 split at h
 ·rename_i e he
  obtain⟨b,hb,h⟩:=Ad.1 h
  obtain⟨ad,n,c,rfl,hb'⟩:=bDr hb hx
  cases hy
  obtain⟨h1,h2⟩:=bOy w t e ad n c 0 0 (eR he) ox oy
  unfold bMt at h
  split at h<;>first|(cases h;done)|(injection h with h;subst h)
  ·rcases hb' with hb'|hb'
   ·cases hb'
   ·injection hb' with hb';subst hb';exact⟨_,h1,.d _ _ (.b _)⟩
  ·rcases hb' with hb'|hb'
   ·cases hb'
   ·injection hb' with hb';subst hb';exact⟨_,h2,.d _ _ (.b _)⟩
  ·exact⟨_,h1,.ub _⟩
  ·exact⟨_,h2,.ub _⟩
 ·cases h
theorem mV{els:List (List D)}{v:Value}(h:VD F w (.sl els) v):∃ ad c,v=.slice ad els.length c∧els.length≤c:=by
 cases h with
 |sl0 ad c=>exact⟨ad,c,rfl,A5 _⟩
 |sl _ ad n c sz f hn hc=>subst hn;exact⟨_,_,rfl,hc⟩
theorem bDf{x:AV}{v:Value}{n:Int}(h:aBt x=some n)(hv:V F w ι x v):∃ ad l c,v=.slice ad l c∧n=l:=by
 unfold aBt at h
 split at h<;>first|(cases h;done)|(injection h with h;subst h)
 ·cases hv with|d _ _ hh=>obtain⟨ad,c,rfl,_⟩:=mV hh;exact⟨_,_,_,rfl,rfl⟩
 ·cases hv with|fd _ ad n hh=>obtain⟨ad',c,he,_⟩:=mV hh;injection he with _ h2 _;exact⟨_,_,_,rfl,by rw[h2]⟩
 ·cases hv;exact⟨_,_,_,rfl,rfl⟩
 ·cases hv;exact⟨_,_,_,rfl,rfl⟩
theorem bIa{els:List (List D)}{ad:Option Addr}{n c:Nat}{sz:Nat}(h:VD F w (.sl els) (.slice ad n c))(hsz:∀ cs∈els,cs.length=sz)(l k m:Nat)(hl:l≤k)(hk:k≤n)(hm:k≤m) :
  VD F w (.sl ((els.take k).drop l)) (.slice (if m=l then ad else ad.map (·.add (l*sz))) (k-l) (m-l)):=by
 by_cases he:l=k
 ·subst he
  have:(els.take l).drop l=[]:=by simp
  rw[this,CN]
  exact .sl0 _ _
 ·cases h with
  |sl0=>omega
  | sl _ a _ _ sz' f hn hc hsz' hF hcell hel =>
   have hpos:0<els.length:=by omega
   have hes:sz'=sz:=by
    have:=Bj hpos
    rw[←hsz' _ this,hsz _ this]
   subst hes
   rw[Ah (by omega)]
   have hlen:((els.take k).drop l).length=k-l:=by simp;omega
   refine .sl _ _ _ _ sz' (fun j=>f (l*sz'+j)) hlen.symm (by omega) (fun cs hcs=>hsz cs (List.mem_of_mem_take (List.mem_of_mem_drop hcs))) (by rw[block_add];exact hF) (fun j hj=>?_) (fun j i cs d hj hi=>?_)
   ·rw[add_add]
    refine hcell _ ?_
    have h1:l*sz'+(k-l)*sz'=k*sz':=by rw[←BV];congr 1;omega
    have h2:k*sz'≤n*sz':=BZ _ hk
    omega
   ·rw[BB,Bv]at hj
    split at hj
    ·have:=hel (l+j) i cs d hj hi
     rw[BV,DW]at this
     exact this
    ·cases hj
end
section
variable {P:Program} {F:Nat→Prop} {w:World} {ι:Nat→Option Nat}
theorem mT{els:List (List D)}{v:Value}(h:V F w ι (.fd els) v):∃ ad,v=.slice ad els.length els.length∧VD F w (.sl els) (.slice ad els.length els.length):=by
 cases h with
 | fd _ ad n hh =>
  obtain⟨ad',c,he,_⟩:=mV hh
  injection he with h1 h2 h3
  subst h2
  exact⟨ad,rfl,hh⟩
theorem aAz{els:List (List D)}{v:Value}{sz:Nat}(h:VD F w (.sl els) v)(h0:∀ cs,els.head? = some cs→cs.length=sz):∀ cs∈els,cs.length=sz:=by
 cases h with
 |sl0=>intro cs hcs;cases hcs
 | sl _ ad n c sz' f hn hc hsz =>
  intro cs hcs
  cases els with
  |nil=>cases hcs
  | cons a l =>
   have:=h0 a rfl
   rw[hsz cs hcs,←hsz a (AI ..),this]
theorem pB{sz:Nat}{els:List (List D)}(h:fD sz els=true):∀ cs,els.head? = some cs→cs.length=sz:=by
 intro cs hcs
 simpa[fD,hcs]using h
theorem aHp{x:AV}{v:Value}{l h:Int}{full:Bool}{sz:Nat}{r:AV}(he:jS sz x l h full=some r)(hv:V F w ι x v) :
  ∃ ad n c,v=.slice ad n c∧0≤l∧l≤h∧h≤n∧n≤c∧∀ m:Nat,(if full then m=h.toNat else m=c)→V F w ι r (.slice (if m=l.toNat then ad else ad.map (·.add (l.toNat*sz))) (h.toNat-l.toNat) (m-l.toNat)):=by
 unfold jS at he
 split at he
 ·rename_i hlh
  split at he
  ·rename_i els
   split at he
   ·rename_i hn
    injection he with he;subst he
    cases hv with|d _ _ hh =>
    obtain⟨ad,c,rfl,hc⟩:=mV hh
    refine⟨ad,_,c,rfl,hlh.1,hlh.2,hn.1,hc,fun m hm=>?_⟩
    have hcut:=bIa hh (aAz hh (pB hn.2)) l.toNat h.toNat m (by omega) (by have:=hn.1;omega) (by have:=hn.1;split at hm<;>omega)
    cases full
    ·exact .d _ _ hcut
    ·simp only[AF]at hm;subst hm
     exact .fd _ _ _ hcut
   ·cases he
  ·rename_i els
   split at he
   ·rename_i hn
    injection he with he;subst he
    obtain⟨ad,rfl,hh⟩:=mT hv
    refine⟨ad,_,_,rfl,hlh.1,hlh.2,hn.1,AA _,fun m hm=>?_⟩
    have hcut:=bIa hh (aAz hh (pB hn.2)) l.toNat h.toNat m (by omega) (by have:=hn.1;omega) (by have:=hn.1;split at hm<;>omega)
    cases full
    ·exact .d _ _ hcut
    ·simp only[AF]at hm;subst hm
     exact .fd _ _ _ hcut
   ·cases he
  ·split at he
   ·injection he with he;subst he
    cases hv
    refine⟨none,0,0,rfl,hlh.1,hlh.2,by omega,AA _,fun m _=>?_⟩
    have:h.toNat-l.toNat=0:=by omega
    rw[this]
    exact .d _ _ (.sl0 _ _)
   ·cases he
  ·rename_i id off len sz'
   split at he
   ·rename_i hn
    obtain⟨hn,rfl⟩:=hn
    cases hv with|own _ _ _ _ b cap cur e hι hb hcap hl hm' =>
    refine⟨_,_,_,rfl,hlh.1,hlh.2,hn,hl,fun m hm=>?_⟩
    split at he
    ·injection he with he;subst he
     have:h.toNat-l.toNat=0:=by omega
     rw[this]
     exact .d _ _ (.sl0 _ _)
    ·injection he with he;subst he
     have hm1:h.toNat≤m:=by split at hm<;>omega
     have hm2:m≤cap:=by split at hm<;>omega
     rw[Ah (by omega),AQ,gH,←BV,show h.toNat-l.toNat=(h-l).toNat from by omega]
     refine .own _ _ _ _ b _ cur e hι hb (AY (BZ _ ?_) hcap) (by omega) (by omega)
     omega
   ·cases he
  ·cases he
 ·cases he
end
def eM:AV→Option Int
 |.d (.i _ n)=>some n
 |_=>none
def aIw(x:Option Operand)(Γ:Nat→AV)(dflt:Int):Option Int :=
 match x with
 |none=>some dflt
 |some o=>eM (oev Γ o)
def uH:AV→Option Bool
 |.d (.b x)=>some x
 |_=>none
def vQ(off:Nat):AV→Option AV
 |.ptr id o=>some (.ptr id (o+off))
 |.fp cs=>some (.fp (cs.drop off))
 |_=>none
def rX(sz:Nat)(k:Int):AV→Option AV
 |.d (.sl els)|.fd els=>if 0≤k then(els[k.toNat]?).bind fun cs=>if cs.length=sz then some (.fp cs)else none else none
 |.own id off len sz'=>if 0≤k∧k<len∧sz'=sz then some (.ptr id ((off+k.toNat)*sz))else none
 |_=>none
def vK(sz m:Nat)(k:Int):AV→Option AV
 |.ptr id o=>if 0≤k∧k<m then some (.ptr id (o+k.toNat*sz))else none
 |.fp cs=>if 0≤k∧k<m then some (.fp (cs.drop (k.toNat*sz)))else none
 |_=>none
def plc(P:Program)(t:TypeId):Option (Nat→Option (Nat×Nat)):=match fE P t with
 |some fl=>some (fl[·]?)
 |none=>(yI P t).bind fun p=>(tsz P p.2).map fun sz=>fun i=>some (i*sz,sz)
def pDd:AV→Option D
 |.d x=>some x
 |_=>none
def bTr:AV→Option D
 |.d x=>some x
 |.ag cs=>(cs.mapM pDd).map .ag
 |_=>none
def aJo(P:Program)(t:TypeId)(name:String):Option FuncId :=
 (P.info? t).bind fun i=>(i.methods.find? (·.name==name)).bind fun m=>match m.path.toList,m.func,P.underlying t with
  | [],some (f,false),some u=>match u with
   |.pointer _=>none
   |_=>some f
  |_,_,_=>none
def cT(x:Option AV):Option (AV×Option HO):=x.map fun v=>(v,none)
def aRi(P:Program)(Γ:Nat→AV):Callee→List Operand→List TypeId→Option AV
 |.builtin .len,[x],[t]=>(tel P t).bind fun _=>(aBt (oev Γ x)).map fun n=>.d (.i .i64 n)
 |.builtin .max,[x,y],_=>match oev Γ x,oev Γ y with|.d (.i k a),.d (.i _ b)=>some (.d (.i k (if b>a then b else a)))|_,_=>none
 |.builtin .min,[x,y],_=>match oev Γ x,oev Γ y with|.d (.i k a),.d (.i _ b)=>some (.d (.i k (if b<a then b else a)))|_,_=>none
 |_,_,_=>none
def bGi:AV→Option AV
 |.ptr id o=>some (.ptr id o)
 |.fp cs=>some (.fp cs)
 |_=>none
def nev(P:Program)(op:Op)(Γ:Nat→AV)(n:Nat):Option (AV×Option HO) :=
 match op with
 |.move x|.assign x=>some (oev Γ x,none)
 |.pick c a b=>cT ((uH (oev Γ c)).map fun t=>if t then oev Γ a else oev Γ b)
 |.alloc e=>(tz P e).map fun z=>(.ptr n 0,some (.cells e (z.cells.toList.map cv1)))
 |.box e x=>(dF (oev Γ x)).map fun cs=>(.ptr n 0,some (.cells e cs))
 | .build t ps=>cT ((tz P t).bind fun z=>(plc P t).bind fun pl=>if z.cells.all Co then
   (kW pl (z.cells.toList.map cv1) (ps.toList.map fun p=>(p.1,oev Γ p.2))).map .ag else none)
 | .buildSlice t len ps=>(tel P t).bind fun e=>(tsz P e).bind fun sz=>(tz P e).bind fun z =>
   if z.cells.size=sz∧0<sz∧len*sz≤16777216∧z.cells.all Co=true then
    (kW (fun i=>some (i*sz,sz)) ((As len (z.cells.toList.map cv1)).flatten) (ps.toList.map fun p=>(p.1,oev Γ p.2))).map fun cs=>(.own n 0 len sz,some (.cells e cs))
   else none
 | .makeSlice t l c=>(tel P t).bind fun e=>(tsz P e).bind fun sz=>(tz P e).bind fun z=>(tby P e).bind fun by_=>(eM (oev Γ l)).bind fun a=>(eM (oev Γ c)).bind fun b =>
   if z.cells.size=sz∧0<sz∧z.cells.all Co=true∧0≤a∧a≤b∧(by_:Int)*b≤281474976710656∧b≤9223372036854775807 then
    some (.own n 0 a.toNat sz,some (.cells e (As a.toNat (z.cells.toList.map cv1)).flatten))
   else none
 |.binOp op t x y _=>cT (match aVc op (tel P t) (oev Γ x) (oev Γ y)with|some r=>some r|none=>match dK op (bI P t) (oev Γ x) (oev Γ y)with|some r=>some (.d r)|none=>match bHj op (tai P t) (oev Γ x) (oev Γ y)with|some r=>some (.d r)|none=>(aXe op (tst P t) (oev Γ x) (oev Γ y)).map .d)
 |.unOp op _ x=>cT ((unA op (oev Γ x)).map .d)
 |.convert s t x=>cT ((eQ P t).bind fun k=>(eM (oev Γ x)).bind fun m=>if(P.underlying s).isSome then some (.d (.i k (k.wrap m)))else none)
 |.fieldAddr s x f=>cT ((fE P s).bind fun fl=>(fl[f]?).bind fun p=>if p.2=0 then none else vQ p.1 (oev Γ x))
 | .indexAddr t x i=>cT ((eM (oev Γ i)).bind fun k=>match tel P t with
   |some e=>(tsz P e).bind fun sz=>rX sz k (oev Γ x)
   |none=>(yI P t).bind fun p=>(tsz P p.2).bind fun sz=>vK sz p.1 k (oev Γ x))
 |.extract x i=>cT ((aTf (oev Γ x)).bind fun vs=>vs[i]?)
 | .slice t x lo hi mx=>cT ((tel P t).bind fun e=>(tsz P e).bind fun sz=>(aBt (oev Γ x)).bind fun n=>(aIw lo Γ 0).bind fun l=>(aIw hi Γ n).bind fun h =>
   match mx with
   |none=>jS sz (oev Γ x) l h false
   |some y=>(eM (oev Γ y)).bind fun m=>if m=h∧hi.isSome then jS sz (oev Γ x) l h true else none)
 |.call c=>cT (aRi P Γ c.callee c.args.toList c.argTypes.toList)
 |.field s x f=>cT ((bSp P s f).bind fun p=>(vX (oev Γ x)).bind fun cs=>if p.2.1 then(if p.1+p.2.2≤cs.length then some (.ag ((cs.drop p.1).take p.2.2))else none)else cs[p.1]?)
 |.makeFunc (.func f) fst cs=>if fst.isEmpty then cT (some (.fn f (cs.toList.map (oev Γ))))else if cs.isEmpty then(match fst.toList.map (oev Γ)with|[.d d]=>cT (some (.d (.fm f d)))|_=>none)else none
 |.index t (.const (.string s)) i=>cT (match P.underlying t with|some .string=>(eM (oev Γ i)).bind fun k=>if 0≤k then(s[k.toNat]?).map fun b=>.d (.i .u8 b.toNat)else none|_=>none)
 | .index t x i=>cT ((yI P t).bind fun p=>(tsz P p.2).bind fun sz=>(cB P p.2).bind fun ag=>(eM (oev Γ i)).bind fun k=>(vX (oev Γ x)).bind fun cs =>
   if 0≤k∧k<p.1 then(if ag then(if k.toNat*sz+sz≤cs.length then some (.ag ((cs.drop (k.toNat*sz)).take sz))else none)else cs[k.toNat*sz]?)else none)
 |.nilCheck x=>cT (bGi (oev Γ x))
 |.makeMap t r=>(tmp P t).bind fun p=>(eQ P p.1).bind fun k=>(match r with|none=>some 0|some x=>eM (oev Γ x)).map fun _=>(.mp n,some (.map k []))
 | .range t x=>(tmp P t).bind fun _=>match oev Γ x with
  |.d (.mp k ks ds)=>some (.ptr n 0,some (.iter k none (ks.zip ds)))
  |_=>none
 | .makeInterface t x=>cT ((P.underlying t).bind fun u=>match u with
   |.interface _=>none
   |_=>(bTr (oev Γ x)).map fun d=>.d (.iff t d))
 |_=>none
theorem aJq:∀(l:List AV) (r:List D),l.mapM pDd=some r→l=r.map .d
 |[],r,h=>by simp at h;subst h;rfl
 | x::l,r,h=>by
  rw[Ce]at h
  obtain⟨d,hd,h⟩:=Ad.1 h
  obtain⟨r',hr,h⟩:=Ad.1 h
  injection h with h;subst h
  rw[aJq l r' hr]
  cases x<;>simp[pDd]at hd
  subst hd;rfl
theorem bTq{F:Nat→Prop}{w:World}{ι:Nat→Option Nat}{x:AV}{v:Value}{d:D}(h:bTr x=some d)(hv:V F w ι x v):VD F w d v:=by
 unfold bTr at h
 split at h
 ·injection h with h;subst h;cases hv with|d _ _ h=>exact h
 ·obtain⟨r,hr,rfl⟩:=Af.1 h
  have:=aJq _ _ hr;subst this
  cases hv with|ag _ vs hl hh =>
  refine .ag r vs (by simpa using hl) fun k c u hc hu=>?_
  have:=hh k (.d c) u (by rw[Ag,hc];rfl) hu
  cases this with|d _ _ h=>exact h
 ·cases h
theorem bAo{P:Program}{t:TypeId}{name:String}{f:FuncId}(h:aJo P t name=some f)(v:Value)(args:Array Value)(w:World):aH P (callMethod (.iface t v) name args) w=aH P (callFunc f (#[v]++args)) w:=by
 unfold aJo at h
 obtain⟨i,hi,h⟩:=Ad.1 h
 obtain⟨m,hm,h⟩:=Ad.1 h
 split at h
 ·rename_i f u hp hf hu
  split at h
  ·cases h
  ·rename_i hnp
   injection h with h;subst h
   simp only[callMethod,Sem.run_bind,wE,AH]
   obtain⟨n,hn⟩:∃ n,P.types.size+Made.depth=n+1:=⟨P.types.size+99,rfl⟩
   have hti:aH P (typeInfo t) w=.ok i w:=by simp only[typeInfo,Sem.run_bind,wE,AH,hi,Sem.run_pure]
   rw[hn]
   simp only[method,Sem.run_bind,hti,AH,hm,hp,follow,Sem.run_pure,hf,receiverAt,aC hu]
   cases u<;>first|exact absurd rfl (hnp _)|simp[Place.get]
 ·cases h
section
variable {P:Program} {F:Nat→Prop} {w:World} {ι:Nat→Option Nat}
theorem gQ{x:AV}{v:Value}{n:Int}(h:eM x=some n)(hv:V F w ι x v):∃ k,v=.int k n:=by
 unfold eM at h
 split at h
 ·injection h with h;subst h;cases hv with|d _ _ hv=>cases hv;exact⟨_,rfl⟩
 ·cases h
theorem aXa{x:AV}{v:Value}{n:Bool}(h:uH x=some n)(hv:V F w ι x v):v=.bool n:=by
 unfold uH at h
 split at h
 ·injection h with h;subst h;cases hv with|d _ _ hv=>cases hv;rfl
 ·cases h
theorem yH{t:TypeId}{p:Nat×TypeId}(h:yI P t=some p):P.underlying t=some (.array p.1 p.2):=by
 unfold yI at h;split at h
 ·injection h with h;subst h;assumption
 ·cases h
theorem aYu{t:TypeId}{k:IntKind}(h:eQ P t=some k):P.underlying t=some (.int k):=by
 unfold eQ at h;split at h
 ·injection h with h;subst h;assumption
 ·cases h
theorem bFb{off:Nat}{x r:AV}{v:Value}(h:vQ off x=some r)(hv:V F w ι x v):∃ ad,v=.pointer (some ad)∧V F w ι r (.pointer (some (ad.add off))):=by
 unfold vQ at h
 split at h
 ·injection h with h;subst h
  cases hv with|ptr id o b hι=>exact⟨_,rfl,by rw[gH];exact .ptr _ _ _ hι⟩
 ·injection h with h;subst h
  cases hv with|fp cs ad f hF hcell hel =>
  refine⟨_,rfl,.fp _ _ (fun j=>f (off+j)) (by rw[block_add];exact hF) (fun j hj=>?_) (fun k c hk=>?_)⟩
  ·rw[add_add];exact hcell _ (by simp at hj;omega)
  ·rw[BB]at hk;exact hel _ _ hk
 ·cases h
theorem aSj{els:List (List D)}{ad:Option Addr}{n c k:Nat}{cs:List D}(h:VD F w (.sl els) (.slice ad n c))(hk:els[k]? = some cs)(ι:Nat→Option Nat) :
  ∃ a,ad=some a∧k<n∧V F w ι (.fp cs) (.pointer (some (a.add (k*cs.length)))):=by
 have hlt:k<els.length:=(Ao.1 hk).1
 cases h with
 |sl0=>simp at hk
 | sl _ a _ _ sz f hn hc hsz hF hcell hel =>
  have hs:cs.length=sz:=hsz cs (Ai hk)
  refine⟨a,rfl,by omega,?_⟩
  subst hs
  refine .fp _ _ (fun j=>f (k*cs.length+j)) (by rw[block_add];exact hF) (fun j hj=>?_) (fun j c hj=>hel k j cs c hk hj)
  rw[add_add]
  refine hcell _ ?_
  have h1:(k+1)*cs.length≤n*cs.length:=BZ _ (by omega)
  rw[BV,CE]at h1
  omega
theorem bEc{sz:Nat}{k:Int}{x r:AV}{v:Value}(h:rX sz k x=some r)(hv:V F w ι x v) :
  ∃ a n c,v=.slice (some a) n c∧0≤k∧k<n∧V F w ι r (.pointer (some (a.add (k.toNat*sz)))):=by
 unfold rX at h
 split at h
 ·rename_i els
  split at h
  ·rename_i hk0
   obtain⟨cs,hcs,h⟩:=Ad.1 h
   split at h
   ·rename_i hl
    injection h with h;subst h;subst hl
    cases hv with|d _ _ hh =>
    obtain⟨ad,c,rfl,_⟩:=mV hh
    obtain⟨a,rfl,h1,h2⟩:=aSj hh hcs ι
    exact⟨a,_,_,rfl,hk0,by omega,h2⟩
   ·cases h
  ·cases h
 ·rename_i els
  split at h
  ·rename_i hk0
   obtain⟨cs,hcs,h⟩:=Ad.1 h
   split at h
   ·rename_i hl
    injection h with h;subst h;subst hl
    obtain⟨ad,rfl,hh⟩:=mT hv
    obtain⟨a,rfl,h1,h2⟩:=aSj hh hcs ι
    exact⟨a,_,_,rfl,hk0,by omega,h2⟩
   ·cases h
  ·cases h
 ·split at h
  ·rename_i hk
   obtain⟨h0,h1,rfl⟩:=hk
   injection h with h;subst h
   cases hv with|own id off len _ b cap cur e hι hb hcap hl hm =>
   refine⟨_,_,_,rfl,h0,by omega,?_⟩
   rw[gH,←BV]
   exact .ptr _ _ _ hι
  ·cases h
 ·cases h
theorem bEd{sz m:Nat}{k:Int}{x r:AV}{v:Value}(h:vK sz m k x=some r)(hv:V F w ι x v) :
  ∃ a,v=.pointer (some a)∧0≤k∧k<m∧V F w ι r (.pointer (some (a.add (k.toNat*sz)))):=by
 unfold vK at h
 split at h
 ·split at h
  ·rename_i hk
   injection h with h;subst h
   cases hv with|ptr id o b hι=>exact⟨_,rfl,hk.1,hk.2,by rw[gH];exact .ptr _ _ _ hι⟩
  ·cases h
 ·split at h
  ·rename_i hk
   injection h with h;subst h
   cases hv with|fp cs ad f hF hcell hel =>
   refine⟨_,rfl,hk.1,hk.2,.fp _ _ (fun j=>f (k.toNat*sz+j)) (by rw[block_add];exact hF) (fun j hj=>?_) (fun j c hc=>?_)⟩
   ·rw[add_add];exact hcell _ (by simp at hj;omega)
   ·rw[BB]at hc;exact hel _ _ hc
  ·cases h
 ·cases h
theorem bM{x:Option AV}{av:AV}{ho:Option HO}(h:cT x=some (av,ho)):x=some av∧ho=none:=by
 unfold cT at h
 obtain⟨v,hv,h⟩:=Af.1 h
 injection h with h1 h2
 subst h1
 exact⟨hv,h2.symm⟩
theorem wT{t:TypeId}{z:Value}{fs:Array Field}(hz:tz P t=some z)(hu:P.underlying t=some (.struct fs))(ps:Array (Nat×Nat))(parts:Array (Nat×Value))(cells:Array Value)
  (hm:aH P (fs.mapM (m:=Sem) fun f=>do pure (f.offset,←sizeOf f.type)) w=.ok ps w) (hf:Instr.fill (ps[·]?) z.cells parts.toList=some cells) :
  aH P (Instr.build t parts) w=.ok (.agg cells) w:=by
 simp only[Instr.build,Sem.run_bind,fB w hz,AH,aC hu,hm,hf]
 rfl
theorem bQp{z:Value}(h:z.cells.all Co=true):CV F w ι (z.cells.toList.map cv1) z.cells :=
 ⟨by simp,aGs _,fun u hu=>Cf.1 h u hu⟩
theorem aQw{Γ:Nat→AV}{a:Act}{ps:Array (Nat×Operand)}(h:∀ p∈ps,V F w ι (oev Γ p.2) (a.eval p.2)) :
  (ps.toList.map fun p=>(p.1,oev Γ p.2)).length=(ps.map fun p=>(p.1,a.eval p.2)).toList.length ∧
  ∀(k:Nat) p q,(ps.toList.map fun p=>(p.1,oev Γ p.2))[k]? = some p→(ps.map fun p=>(p.1,a.eval p.2)).toList[k]? = some q→p.1=q.1∧V F w ι p.2 q.2:=by
 refine⟨by simp,fun k p q hp hq=>?_⟩
 simp only[Ag,Array.toList_map,Bh]at hp hq
 cases hx:ps[k]? with
 |none=>simp[hx]at hp
 | some x =>
  simp only[hx,AQ,At]at hp hq
  subst hp;subst hq
  exact⟨rfl,h x (BS hx)⟩
end
section
variable {P:Program}
theorem aHs{s:TypeId}{f:Nat}{fl:List (Nat×Nat)}{p:Nat×Nat}(w:World)(h:fE P s=some fl)(hp:fl[f]? = some p)(h0:p.2≠0)(ad:Addr) :
  aH P (Instr.fieldAt s (.pointer (some ad)) f) w=.ok (.pointer (some (ad.add p.1))) w:=by
 obtain⟨fs,hu,_,hm⟩:=aHr w h
 have hlen:∀(l:List Field) (r:List (Nat×Nat)),(l.mapM fun f=>(P.info? f.type).map fun i=>(f.offset,i.size))=some r→∀(k:Nat) q,r[k]? = some q→∃ g,l[k]? = some g∧q.1=g.offset∧tsz P g.type=some q.2:=by
  intro l
  induction l with
  |nil=>intro r hr k q hq;simp at hr;subst hr;simp at hq
  | cons g l ih =>
   intro r hr k q hq
   simp only[Ce,CU,Ad,DO,At]at hr
   obtain⟨x,hx,r',hr',rfl⟩:=hr
   obtain⟨i,hi,rfl⟩:=Af.1 hx
   rcases k with _|k
   ·simp only[BP,At]at hq;subst hq;exact⟨g,rfl,rfl,by simp[tsz,hi]⟩
   ·exact ih r' hr' k q (by simpa using hq)
 obtain⟨g,hg,e1,e2⟩:=hlen _ _ hm f p hp
 have hg':fs[f]? = some g:=by simpa using hg
 simp[Instr.fieldAt,aC hu,hg',Cp,fieldPlace,run_sizeOf w e2,h0,e1]
theorem aBm{t e:TypeId}{sz:Nat}(w:World)(h:tel P t=some e)(hs:tsz P e=some sz)(a:Addr)(n c:Nat)(ki:IntKind)(k:Int)(h0:0≤k)(h1:k<n) :
  aH P (E6 t (.slice (some a) n c) (.int ki k)) w=.ok (.pointer (some (a.add (k.toNat*sz)))) w:=by
 simp[E6,asIntOf,aC (eR h),run_sizeOf w hs,h0,h1]
theorem aBn{t e:TypeId}{sz m:Nat}(w:World)(h:yI P t=some (m,e))(hs:tsz P e=some sz)(a:Addr)(ki:IntKind)(k:Int)(h0:0≤k)(h1:k<m) :
  aH P (E6 t (.pointer (some a)) (.int ki k)) w=.ok (.pointer (some (a.add (k.toNat*sz)))) w:=by
 simp[E6,asIntOf,aC (yH h),run_sizeOf w hs,h0,h1,Cp]
theorem aTx{t e:TypeId}(w:World)(h:tel P t=some e)(ty:TypeId)(a:Option Addr)(n c:Nat):aH P (FY #[t] ty #[.slice a n c]) w=.ok (.int .i64 n) w:=by
 simp[FY,aC (eR h),goInt]
theorem fW(w:World)(k:IntKind)(i:Int)(y:Nat)(code:BoundsCode)(h0:0≤i)(h1:i≤y):aH P (Instr.sliceBound (.int k i) y code) w=.ok i.toNat w:=by
 simp[Instr.sliceBound,asIntOf,h0,h1]
theorem lZ{t e:TypeId}{sz:Nat}(w:World)(ht:tel P t=some e)(hs:tsz P e=some sz)(ad:Option Addr)(n c:Nat)(hnc:n≤c)(lo hi mx:Option Value)(l h:Int)
  (hlo:(lo=none∧l=0)∨∃ k,lo=some (.int k l)) (hhi:(hi=none∧h=n)∨∃ k,hi=some (.int k h)) (hl:0≤l) (hlh:l≤h) (hn:h≤n)
  (m:Nat) (hm:(mx=none∧m=c)∨(∃ k,mx=some (.int k h))∧m=h.toNat∧hi.isSome=true) :
  aH P (Instr.sliceAt t (.slice ad n c) lo hi mx) w=.ok (.slice (if m=l.toNat then ad else ad.map (·.add (l.toNat*sz))) (h.toNat-l.toNat) (m-l.toNat)) w:=by
 have hu:=eR ht
 have hb:aH P (DL true n c lo hi mx) w=.ok (l.toNat,h.toNat,m) w:=by
  have e1:(h.toNat:Int)=h:=by omega
  rcases hm with ⟨rfl,rfl⟩|⟨⟨km,rfl⟩,rfl,hs'⟩
  ·rcases hlo with ⟨rfl,rfl⟩|⟨kl,rfl⟩<;>rcases hhi with ⟨rfl,rfl⟩|⟨kh,rfl⟩
   ·simp[DL]
   ·simp[DL,fW w kh h m _ (by omega) (by omega)]
   ·simp[DL,fW w kl l n _ (by omega) (by omega)]
   ·simp[DL,fW w kh h m _ (by omega) (by omega),fW w kl l h.toNat _ (by omega) (by omega)]
  ·rcases hhi with ⟨rfl,rfl⟩|⟨kh,rfl⟩
   ·simp at hs'
   ·rcases hlo with ⟨rfl,rfl⟩|⟨kl,rfl⟩
    ·simp[DL,fW w km h c _ (by omega) (by omega),fW w kh h h.toNat _ (by omega) (by omega)]
    ·simp[DL,fW w km h c _ (by omega) (by omega),fW w kh h h.toNat _ (by omega) (by omega),fW w kl l h.toNat _ (by omega) (by omega)]
 simp[Instr.sliceAt,Instr.slice,aC hu,hb,run_sizeOf w hs]
theorem run_build{w:World}{t:TypeId}{z:Value}{pl:Nat→Option (Nat×Nat)}(hz:tz P t=some z)(hpl:plc P t=some pl)(parts:Array (Nat×Value))(cells:Array Value)(hf:Instr.fill pl z.cells parts.toList=some cells) :
  aH P (Instr.build t parts) w=.ok (.agg cells) w:=by
 unfold plc at hpl
 split at hpl
 ·rename_i fl hfl
  injection hpl with hpl;subst hpl
  obtain⟨fs,hu,hm,_⟩:=aHr w hfl
  exact wT hz hu fl.toArray parts cells hm (by simpa using hf)
 ·obtain⟨p,hp,h⟩:=Ad.1 hpl
  obtain⟨sz,hsz,rfl⟩:=Af.1 h
  simp only[Instr.build,Sem.run_bind,fB w hz,AH,aC (yH hp),run_sizeOf w hsz,hf]
  rfl
variable [M:Mch P] {G:Ctx} {o:Oper} {Γ:Nat→AV} {C:Nat→Prop} {H:Hp} {n:Nat}
theorem aJj{av:AV}(h:nev P o.op Γ n=some (av,none)):Y P G o Γ C H H av aW aW:=by
 refine yA fun F w ι a hR hop=>?_
 have ov:∀ x∈o.op.operands,V F w ι (oev Γ x) (a.eval x):=fun x hx=>cE fun t e=>hop t (e ▸ hx)
 obtain⟨dst,op,type,pos,after,guard⟩:=o
 simp only at h ov ⊢
 unfold nev at h
 split at h
 ·rename_i x;injection h with h;injection h with h _;subst h;exact⟨_,by simp[execOp],ov x (by simp[Aw])⟩
 ·rename_i x;injection h with h;injection h with h _;subst h;exact⟨_,by simp[execOp],ov x (by simp[Aw])⟩
 ·rename_i c x y
  obtain⟨h,_⟩:=bM h
  obtain⟨t,ht,rfl⟩:=Af.1 h
  have hc:=aXa ht (ov c (by simp[Aw]))
  refine⟨if t then a.eval x else a.eval y,by simp[execOp,hc,asBool],?_⟩
  cases t
  ·exact ov y (by simp[Aw])
  ·exact ov x (by simp[Aw])
 ·obtain⟨z,_,h⟩:=Af.1 h;cases h
 ·obtain⟨z,_,h⟩:=Af.1 h;cases h
 ·rename_i t ps
  obtain⟨h,_⟩:=bM h
  obtain⟨z,hz,h⟩:=Ad.1 h
  obtain⟨pl,hpl,h⟩:=Ad.1 h
  split at h
  ·rename_i hone
   obtain⟨cs,hcs,rfl⟩:=Af.1 h
   have hp:=aQw (F:=F) (w:=w) (ι:=ι) (Γ:=Γ) (a:=a) (ps:=ps) fun p hp=>ov p.2 (by simp[Aw];exact⟨p.1,hp⟩)
   obtain⟨us,hus,hcv⟩:=aGe _ _ _ _ _ _ (bQp (F:=F) (w:=w) (ι:=ι) hone) hp.1 hp.2 hcs
   refine⟨.agg us,?_,.ag _ _ hcv.1 hcv.2.1⟩
   have hrun:=run_build (w:=w) hz hpl (ps.map fun p=>(p.1,a.eval p.2)) us hus
   simp only[execOp,Sem.run_bind]
   rw[hrun];rfl
  ·cases h
 ·obtain⟨e,_,h⟩:=Ad.1 h
  obtain⟨sz,_,h⟩:=Ad.1 h
  obtain⟨z,_,h⟩:=Ad.1 h
  split at h
  ·obtain⟨cs,_,h⟩:=Af.1 h;cases h
  ·cases h
 ·obtain⟨e,_,h⟩:=Ad.1 h
  obtain⟨sz,_,h⟩:=Ad.1 h
  obtain⟨z,_,h⟩:=Ad.1 h
  obtain⟨y,_,h⟩:=Ad.1 h
  obtain⟨a,_,h⟩:=Ad.1 h
  obtain⟨b,_,h⟩:=Ad.1 h
  split at h<;>cases h
 ·rename_i op t x y yt
  obtain⟨h,_⟩:=bM h
  split at h
  ·rename_i r' hr
   injection h with h;subst h
   obtain⟨z,⟨h1,h2⟩,hz⟩:=bAm (P:=P) hr (ov x (by simp[Aw])) (ov y (by simp[Aw])) x y
   exact⟨z,by simp[execOp,h1,h2],hz⟩
  split at h
  ·rename_i r' hr
   injection h with h;subst h
   obtain⟨z,⟨h1,h2⟩,hz⟩:=aHu (P:=P) hr (ov x (by simp[Aw])) (ov y (by simp[Aw])) x y
   exact⟨z,by simp[execOp,h1,h2],.d _ _ hz⟩
  split at h
  rotate_left
  ·obtain⟨r,hr,rfl⟩:=Af.1 h
   obtain⟨z,⟨h1,h2⟩,hz⟩:=bAq (P:=P) hr (ov x (by simp[Aw])) (ov y (by simp[Aw])) x y
   exact⟨z,by simp[execOp,h1,h2],.d _ _ hz⟩
  rename_i r hr
  injection h with h;subst h
  obtain⟨z,⟨h1,h2⟩,hz⟩:=bAr (P:=P) hr (ov x (by simp[Aw])) (ov y (by simp[Aw])) x y
  exact⟨z,by simp[execOp,h1,h2],.d _ _ hz⟩
 ·rename_i op t x
  obtain⟨h,_⟩:=bM h
  obtain⟨r,hr,rfl⟩:=Af.1 h
  obtain⟨z,h1,hz⟩:=bKs (P:=P) hr (ov x (by simp[Aw]))
  exact⟨z,by simp[execOp,h1],.d _ _ hz⟩
 ·rename_i s t x
  obtain⟨h,_⟩:=bM h
  obtain⟨k,hk,h⟩:=Ad.1 h
  obtain⟨m,hm,h⟩:=Ad.1 h
  split at h
  ·rename_i hs
   injection h with h;subst h
   obtain⟨k',hx⟩:=gQ hm (ov x (by simp[Aw]))
   refine⟨.int k (k.wrap m),?_,.d _ _ (.i _ _)⟩
   obtain⟨ds,hds⟩:=Option.isSome_iff_exists.1 hs
   simp[execOp,hx,convert,aC hds,aC (aYu hk),Conv.intToInt]
  ·cases h
 ·rename_i s x f
  obtain⟨h,_⟩:=bM h
  obtain⟨fl,hfl,h⟩:=Ad.1 h
  obtain⟨p,hp,h⟩:=Ad.1 h
  split at h
  ·cases h
  ·rename_i h0
   obtain⟨ad,hx,hv⟩:=bFb h (ov x (by simp[Aw]))
   exact⟨_,by simp only[execOp,hx,Sem.run_bind,aHs w hfl hp h0 ad];rfl,hv⟩
 ·rename_i t x i
  obtain⟨h,_⟩:=bM h
  obtain⟨k,hk,h⟩:=Ad.1 h
  obtain⟨ki,hi⟩:=gQ hk (ov i (by simp[Aw]))
  split at h
  ·rename_i e he
   obtain⟨sz,hsz,h⟩:=Ad.1 h
   obtain⟨ad,m,c,hx,h0,h1,hv⟩:=bEc h (ov x (by simp[Aw]))
   exact⟨_,by simp only[execOp,hx,hi,Sem.run_bind,aBm w he hsz ad m c ki k h0 h1];rfl,hv⟩
  ·obtain⟨⟨m,e⟩,he,h⟩:=Ad.1 h
   obtain⟨sz,hsz,h⟩:=Ad.1 h
   obtain⟨ad,hx,h0,h1,hv⟩:=bEd h (ov x (by simp[Aw]))
   exact⟨_,by simp only[execOp,hx,hi,Sem.run_bind,aBn w he hsz ad ki k h0 h1];rfl,hv⟩
 ·rename_i x i
  obtain⟨h,_⟩:=bM h
  obtain⟨vs,hvs,h⟩:=Ad.1 h
  obtain⟨us,hx,hl,hv⟩:=bSo hvs (ov x (by simp[Aw]))
  have hlt:i<vs.length:=(Ao.1 h).1
  have hlt':i<us.size:=by omega
  exact⟨us[i],by simp[execOp,hx,Instr.extract,hlt'],hv i _ _ h (Ak hlt')⟩
 ·rename_i t x lo hi mx
  obtain⟨h,_⟩:=bM h
  obtain⟨e,he,h⟩:=Ad.1 h
  obtain⟨sz,hsz,h⟩:=Ad.1 h
  obtain⟨n',hn',h⟩:=Ad.1 h
  obtain⟨l,hl,h⟩:=Ad.1 h
  obtain⟨hh,hhh,h⟩:=Ad.1 h
  obtain⟨ad',len',c',hxv,hnl⟩:=bDf hn' (ov x (by simp[Aw]))
  have hlo:(lo.map a.eval=none∧l=0)∨∃ k,lo.map a.eval=some (.int k l):=by
   cases lo with
   |none=>simp only[aIw,At]at hl;exact .inl ⟨rfl,hl.symm⟩
   |some y=>obtain⟨k,hk⟩:=gQ hl (ov y (by simp[Aw]));exact .inr ⟨k,by simp[hk]⟩
  have hhi:(hi.map a.eval=none∧hh=len')∨∃ k,hi.map a.eval=some (.int k hh):=by
   cases hi with
   |none=>simp only[aIw,At]at hhh;exact .inl ⟨rfl,by rw[←hhh,hnl]⟩
   |some y=>obtain⟨k,hk⟩:=gQ hhh (ov y (by simp[Aw]));exact .inr ⟨k,by simp[hk]⟩
  cases mx with
  | none =>
   obtain⟨ad,m,c,hx,h0,h1,h2,h3,hv⟩:=aHp h (ov x (by simp[Aw]))
   rw[hxv]at hx;injection hx with e1 e2 e3;subst e1;subst e2;subst e3
   refine⟨_,?_,hv c' (by simp)⟩
   have:=lZ w he hsz ad' len' c' h3 _ _ none l hh hlo hhi h0 h1 h2 c' (.inl ⟨rfl,rfl⟩)
   simp only[execOp,hxv,Sem.run_bind,Option.map_none,this];rfl
  | some y =>
   obtain⟨m,hm,h⟩:=Ad.1 h
   split at h
   ·rename_i hmh
    obtain⟨rfl,his⟩:=hmh
    obtain⟨ad,m',c,hx,h0,h1,h2,h3,hv⟩:=aHp h (ov x (by simp[Aw]))
    rw[hxv]at hx;injection hx with e1 e2 e3;subst e1;subst e2;subst e3
    obtain⟨km,hkm⟩:=gQ hm (ov y (by simp[Aw]))
    refine⟨_,?_,hv m.toNat (by simp)⟩
    have:=lZ w he hsz ad' len' c' h3 _ _ (some (.int km m)) l m hlo hhi h0 h1 h2 m.toNat (.inr ⟨⟨km,rfl⟩,rfl,by simpa using his⟩)
    simp only[execOp,hxv,Sem.run_bind,AQ,hkm,this];rfl
   ·cases h
 ·rename_i c
  obtain⟨h,_⟩:=bM h
  obtain⟨callee,args,argTypes⟩:=c
  simp only[Aw,Bc]at ov
  obtain⟨args⟩:=args
  obtain⟨argTypes⟩:=argTypes
  simp only at h
  unfold aRi at h
  split at h
  ·rename_i x t _
   obtain⟨e,he,h⟩:=Ad.1 h
   obtain⟨m,hm,rfl⟩:=Af.1 h
   obtain⟨ad,l,c,hx,rfl⟩:=bDf hm (ov x (by simp))
   refine⟨.int .i64 l,?_,.d _ _ (.i _ _)⟩
   simp[execOp,resolve,invoke,builtin,hx,aTx w he]
  ·rename_i x y _
   split at h
   ·rename_i k p k' q hx hy
    injection h with h;subst h
    have vx:=ov x (by simp)
    have vy:=ov y (by simp)
    rw[hx]at vx;rw[hy]at vy
    cases vx with|d _ _ vx=>cases vy with|d _ _ vy =>
    generalize hex:a.eval x=ux at vx
    generalize hey:a.eval y=uy at vy
    cases vx;cases vy
    exact⟨_,by simp[execOp,resolve,invoke,builtin,hex,hey,aEx],.d _ _ (.i _ _)⟩
   ·cases h
  ·rename_i x y _
   split at h
   ·rename_i k p k' q hx hy
    injection h with h;subst h
    have vx:=ov x (by simp)
    have vy:=ov y (by simp)
    rw[hx]at vx;rw[hy]at vy
    cases vx with|d _ _ vx=>cases vy with|d _ _ vy =>
    generalize hex:a.eval x=ux at vx
    generalize hey:a.eval y=uy at vy
    cases vx;cases vy
    exact⟨_,by simp[execOp,resolve,invoke,builtin,hex,hey,aEw],.d _ _ (.i _ _)⟩
   ·cases h
  ·cases h
 ·rename_i s x f
  obtain⟨h,_⟩:=bM h
  obtain⟨⟨off,ag,sz⟩,hp,h⟩:=Ad.1 h
  obtain⟨cs,hcs,h⟩:=Ad.1 h
  obtain⟨vs,hx,hl,hV⟩:=vW hcs (ov x (by simp[Aw]))
  unfold bSp at hp
  split at hp
  ·rename_i fs hu
   obtain⟨g,hg,hp⟩:=Ad.1 hp
   obtain⟨a',ha',hp⟩:=Ad.1 hp
   obtain⟨z,hz,hp⟩:=Af.1 hp
   injection hp with e1 e2;injection e2 with e2 e3;subst e1;subst e2;subst e3
   cases a'
   ·simp only[Ae,Av]at h
    have hlt:g.offset<vs.size:=by rw[←hl];exact(Ao.1 h).1
    have hv:=Ak hlt
    refine⟨vs[g.offset],?_,hV _ _ _ h hv⟩
    simp[execOp,hx,Instr.field,aC hu,hg,asAgg,part,kH w ha',hv]
   ·simp only[AF]at h
    split at h
    ·rename_i hfit
     injection h with h;subst h
     refine⟨.agg (vs.extract g.offset (g.offset+z)),by simp[execOp,hx,Instr.field,aC hu,hg,asAgg,part,kH w ha',run_sizeOf w hz],.ag _ _ (by simp;omega) fun k c u hc hu'=>?_⟩
     have hk:k<z:=by
      rcases Az k z with h|h
      ·exact h
      ·rw[Bv,Ah (by omega)]at hc;cases hc
     rw[Bv,Ap hk,BB]at hc
     rw[Array.getElem?_extract]at hu'
     rw[Ap (by omega)]at hu'
     exact hV _ _ _ hc hu'
    ·cases h
  ·cases hp
 ·rename_i f fst cs
  split at h
  ·rename_i hf
   obtain⟨h,_⟩:=bM h
   injection h with h;subst h
   have hf':fst=#[]:=by simpa using hf
   subst hf'
   refine⟨.func (.func f) #[] (cs.map a.eval),by simp[execOp,Instr.makeFunc],.fn _ _ _ (by simp) fun k c u hc hu=>?_⟩
   simp only[Ag,BM,Bh]at hc hu
   cases hx:cs[k]? with
   |none=>simp[hx]at hc
   | some x =>
    simp only[hx,AQ,At]at hc hu
    subst hc;subst hu
    exact ov x (by simp[Aw,BS hx])
  ·split at h
   ·rename_i hcs
    have hcs':cs=#[]:=by simpa using hcs
    subst hcs'
    split at h
    ·rename_i d hd
     obtain⟨h,_⟩:=bM h
     injection h with h;subst h
     obtain⟨x,hx⟩:∃ x,fst=#[x]:=by
      have hl:fst.toList.length=1:=by have:=congrArg List.length hd;simpa using this
      match fst,hl with
      |⟨[x]⟩,_=>exact⟨x,rfl⟩
     subst hx
     simp only[BO,EV,List.cons.injEq,and_true]at hd
     have hv:=ov x (by simp[Aw])
     rw[hd]at hv
     refine⟨.func (.func f) #[a.eval x] #[],by simp[execOp,Instr.makeFunc],.d _ _ (.fm _ _ _ ?_)⟩
     cases hv with|d _ _ h=>exact h
    ·cases h
   ·cases h
 ·rename_i t s i
  obtain⟨h,_⟩:=bM h
  split at h
  ·rename_i hu
   obtain⟨k,hk,h⟩:=Ad.1 h
   obtain⟨ki,hi⟩:=gQ hk (ov i (by simp[Aw]))
   split at h
   ·rename_i h0
    obtain⟨b,hb,h⟩:=Af.1 h
    subst h
    have hx:a.eval (.const (.string s))=.string s:=rfl
    refine⟨.int .u8 b.toNat,?_,.d _ _ (.i _ _)⟩
    simp[execOp,hx,hi,Instr.index,asIntOf,aC hu,h0,hb]
   ·cases h
  ·cases h
 ·rename_i t x i _
  obtain⟨h,_⟩:=bM h
  obtain⟨⟨m,e⟩,hp,h⟩:=Ad.1 h
  obtain⟨sz,hsz,h⟩:=Ad.1 h
  obtain⟨ag,hag,h⟩:=Ad.1 h
  obtain⟨k,hk,h⟩:=Ad.1 h
  obtain⟨cs,hcs,h⟩:=Ad.1 h
  obtain⟨ki,hi⟩:=gQ hk (ov i (by simp[Aw]))
  obtain⟨vs,hx,hl,hV⟩:=vW hcs (ov x (by simp[Aw]))
  have hu:=yH hp
  simp only at hu
  split at h
  ·rename_i hb
   have hb':0≤k∧k<(m:Int):=hb
   cases ag
   ·simp only[Ae,Av]at h
    have hlt:k.toNat*sz<vs.size:=by rw[←hl];exact(Ao.1 h).1
    have hv:=Ak hlt
    refine⟨vs[k.toNat*sz],?_,hV _ _ _ h hv⟩
    simp[execOp,hx,hi,Instr.index,asIntOf,aC hu,hb',run_sizeOf w hsz,part,kH w hag,hv]
   ·simp only[AF]at h
    split at h
    ·rename_i hfit
     injection h with h;subst h
     refine⟨.agg (vs.extract (k.toNat*sz) (k.toNat*sz+sz)),by simp[execOp,hx,hi,Instr.index,asIntOf,aC hu,hb',run_sizeOf w hsz,part,kH w hag],.ag _ _ (by simp;omega) fun j c u hc hu'=>?_⟩
     have hj:j<sz:=by
      rcases Az j sz with h|h
      ·exact h
      ·rw[Bv,Ah (by omega)]at hc;cases hc
     rw[Bv,Ap hj,BB]at hc
     rw[Array.getElem?_extract]at hu'
     rw[Ap (by omega)]at hu'
     exact hV _ _ _ hc hu'
    ·cases h
  ·cases h
 ·rename_i x
  obtain⟨h,_⟩:=bM h
  have hv:=ov x (by simp[Aw])
  unfold bGi at h
  split at h
  ·rename_i id o hx
   injection h with h;subst h
   rw[hx]at hv
   generalize hu:a.eval x=u at hv
   cases hv with|ptr _ _ b hι=>exact⟨.pointer (some ⟨b,o,none⟩),by simp[execOp,hu],.ptr _ _ _ hι⟩
  ·rename_i cs hx
   injection h with h;subst h
   rw[hx]at hv
   generalize hu:a.eval x=u at hv
   cases hv with|fp _ ad f hF hcell hel=>exact⟨.pointer (some ad),by simp[execOp,hu],.fp _ _ f hF hcell hel⟩
  ·cases h
 ·obtain⟨p,_,h⟩:=Ad.1 h
  obtain⟨k,_,h⟩:=Ad.1 h
  obtain⟨_,_,h⟩:=Af.1 h
  cases h
 ·obtain⟨p,_,h⟩:=Ad.1 h
  split at h<;>cases h
 ·rename_i t x
  obtain⟨h,_⟩:=bM h
  obtain⟨u,hu,h⟩:=Ad.1 h
  have hv:=ov x (by simp[Aw])
  split at h
  ·cases h
  ·rename_i hni
   obtain⟨d,hd,h⟩:=Af.1 h
   subst h
   refine⟨.iface t (a.eval x),?_,.d _ _ (.iff _ _ _ (bTq hd hv))⟩
   cases u<;>first|exact absurd rfl (hni _)|simp[execOp,Instr.makeInterface,aC hu]
 ·cases h
end
theorem aKb{α:Type}(zs:List α)(hz:0<zs.length):∀(n k:Nat),k<n*zs.length→(As n zs).flatten[k]? = zs[k%zs.length]?
 |0,k,h=>by omega
 | n+1,k,h=>by
  rw[List.replicate_succ,CH]
  by_cases hk:k<zs.length
  ·rw[AP hk,BQ hk]
  ·rw[AM (by omega),aKb zs hz n (k-zs.length) (by rw[BV,CE]at h;omega)]
   congr 1
   exact(Nat.mod_eq_sub_mod (by omega)).symm
theorem tO{α:Type}(zs:List α)(n:Nat):(As n zs).flatten.length=n*zs.length:=by simp
section
variable {P:Program} {F:Nat→Prop} {w:World} {ι:Nat→Option Nat}
theorem aSo{z:Array Value}{sz n m:Nat}(hz:z.size=sz)(h0:0<sz)(hone:z.all Co=true)(hnm:n≤m) :
  ((As n (z.toList.map cv1)).flatten.length≤(madeCells z (m*sz)).size) ∧
  ∀(k:Nat) c,(As n (z.toList.map cv1)).flatten[k]? = some c→∃ u,(madeCells z (m*sz))[k]? = some u∧V F w ι c u∧u.oneCell'=true:=by
 have hl:(z.toList.map cv1).length=sz:=by simp[hz]
 have hmul:n*sz≤m*sz:=BZ _ hnm
 refine⟨by rw[tO,hl,size_madeCells];exact hmul,fun k c hk=>?_⟩
 have hlt:k<n*sz:=by
  have:=(Ao.1 hk).1
  rwa [tO,hl]at this
 rw[aKb _ (by omega) n k (by rw[hl];exact hlt),hl]at hk
 have hm:k%sz<z.size:=by rw[hz];exact BL _ h0
 refine⟨z[k%sz],?_,aGs z (k%sz) c _ hk (Ak hm),Cf.1 hone _ (Array.getElem_mem hm)⟩
 simp only[madeCells,BM,Array.getElem?_range,hz]
 rw[Ap (by omega)]
 simp[hm]
theorem aPx{z:Array Value}{sz n:Nat}(hz:z.size=sz)(h0:0<sz)(hone:z.all Co=true) :
  CV F w ι (As n (z.toList.map cv1)).flatten ((Gk (n*sz)).map (z[·%z.size]!)):=by
 obtain⟨_,h2⟩:=aSo (F:=F) (w:=w) (ι:=ι) hz h0 hone (AA n)
 have hl:(As n (z.toList.map cv1)).flatten.length=n*sz:=by rw[tO];simp[hz]
 refine⟨by rw[hl];simp,fun k c u hc hu=>?_,fun u hu=>?_⟩
 ·obtain⟨u',hu',hv,_⟩:=h2 k c hc
  rw[show(madeCells z (n*sz))=((Gk (n*sz)).map (z[·%z.size]!))from rfl,hu]at hu'
  injection hu' with hu';subst hu';exact hv
 ·obtain⟨k,hk,rfl⟩:=EI.1 hu
  have hk':k<(As n (z.toList.map cv1)).flatten.length:=by rw[hl];simpa using hk
  obtain⟨u',hu',_,ho⟩:=h2 k _ (Ab hk')
  rw[show(madeCells z (n*sz))=((Gk (n*sz)).map (z[·%z.size]!))from rfl,Ak hk]at hu'
  injection hu' with hu';rw[hu'];exact ho
theorem aLn{e:TypeId}{cs:List AV}{vs:Array Value}(h:CV F w ι cs vs):CR F w ι (.cells e cs) (.cells vs e (0,0)) :=
 .cells _ _ _ (by have:=h.1;omega) fun k c hk=>let ⟨u,h1,h2⟩:=h.get hk;⟨u,h1,h2⟩
variable [M:Mch P] {G:Ctx} {o:Oper} {Γ:Nat→AV} {C:Nat→Prop} {H:Hp} {n:Nat}
theorem aDa{av:AV}{ho:HO}(h:nev P o.op Γ n=some (av,some ho))(hH:H n=some ho):Y P G o Γ C H H av (·=n) aW:=by
 refine bIs hH fun F w ι a hop=>?_
 have ov:∀ x∈o.op.operands,V F w ι (oev Γ x) (a.eval x):=fun x hx=>cE fun t e=>hop t (e ▸ hx)
 obtain⟨dst,op,type,pos,after,guard⟩:=o
 simp only at h ov ⊢
 unfold nev at h
 split at h<;>try (obtain⟨_,h⟩:=bM h;cases h;done)
 ·injection h with h;injection h with _ h;cases h
 ·injection h with h;injection h with _ h;cases h
 ·rename_i e
  obtain⟨z,hz,h⟩:=Af.1 h
  injection h with h1 h2;subst h1;injection h2 with h2;subst h2
  refine⟨.pointer (some ⟨w.heap.size,0,none⟩),.cells z.cells e,w.alloc (.cells z.cells e),?_,.alloc _ _,fun F' w' ι' hs hι hb=>⟨.cells _ _ _ (by simp) (fun k c hk=>?_),.ptr _ _ _ hι⟩⟩
  ·simp only[execOp,Instr.alloc,Sem.run_bind,fB w hz,AH,newVar,newRow,yT,Sem.run_pure,World.alloc_eq]
  ·simp only[Ag,Bh]at hk
   obtain⟨u,hu,rfl⟩:=Af.1 hk
   exact⟨u,hu,bHy u⟩
 ·rename_i e x
  obtain⟨cs,hcs,h⟩:=Af.1 h
  injection h with h1 h2;subst h1;injection h2 with h2;subst h2
  have hc:=aAm hcs (ov x (by simp[Aw]))
  refine⟨.pointer (some ⟨w.heap.size,0,none⟩),.cells (a.eval x).cells e,w.alloc (.cells (a.eval x).cells e),?_,.alloc _ _,fun F' w' ι' hs hι hb=>⟨aLn (hc.step hs),.ptr _ _ _ hι⟩⟩
  simp only[execOp,Instr.box,Sem.run_bind,newVar,newRow,yT,AH,Sem.run_pure,World.alloc_eq]
 ·rename_i t len ps
  obtain⟨e,he,h⟩:=Ad.1 h
  obtain⟨sz,hsz,h⟩:=Ad.1 h
  obtain⟨z,hz,h⟩:=Ad.1 h
  split at h
  ·rename_i hc
   obtain⟨h1,h2,h3,h4⟩:=hc
   obtain⟨cs,hcs,h⟩:=Af.1 h
   injection h with e1 e2;subst e1;injection e2 with e2;subst e2
   have hp:=aQw (F:=F) (w:=w) (ι:=ι) (Γ:=Γ) (a:=a) (ps:=ps) fun p hp=>ov p.2 (by simp[Aw];exact⟨p.1,hp⟩)
   obtain⟨us,hus,hcv⟩:=aGe _ _ _ _ _ _ (aPx (F:=F) (w:=w) (ι:=ι) (n:=len) h1 h2 h4) hp.1 hp.2 hcs
   have hsize:us.size=len*sz:=by
    have hfl:∀(parts:List (Nat×AV)) (cells out:List AV) (pl:Nat→Option (Nat×Nat)),kW pl cells parts=some out→out.length=cells.length:=by
     intro parts
     induction parts with
     |nil=>intro cells out pl h;simp only[kW,At]at h;rw[h]
     | cons p parts ih =>
      intro cells out pl h
      obtain⟨i,x⟩:=p
      simp only[kW]at h
      split at h
      ·split at h
       ·rename_i hx;rw[ih _ _ _ h,nK hx.2]
       ·cases h
      ·cases h
    have:=hfl _ _ _ _ hcs
    rw[←hcv.1,this,tO];simp[h1]
   refine⟨.slice (some ⟨w.heap.size,0,none⟩) len len,.cells us e,w.alloc (.cells us e),?_,.alloc _ _,fun F' w' ι' hs hι hb=>⟨aLn (hcv.step hs),?_⟩⟩
   ·have hf:Instr.fill (fun i=>some (i*sz,sz)) ((Gk (len*sz)).map (z.cells[·%z.cells.size]!)) (ps.map fun p=>(p.1,a.eval p.2)).toList=some us:=hus
    have hbig:¬(len*sz>2^24):=by omega
    by_cases h0:len*sz=0
    ·simp only[h0,Gj,Array.map_empty]at hf
     simp only[execOp,Instr.buildSlice,Sem.run_bind,aC (eR he),AH,run_sizeOf w hsz,h0,AF,Sem.run_pure,Gj,Array.map_empty]
     rw[Ah (by omega)]
     simp only[Sem.run_bind,Sem.run_pure,AH,hf]
     simp[newRow]
    ·simp only[execOp,Instr.buildSlice,Sem.run_bind,aC (eR he),AH,run_sizeOf w hsz]
     rw[Ah hbig,Ah h0]
     simp only[Sem.run_bind,Sem.run_pure,AH,fB w hz,hf]
     simp[newRow]
   ·have:=V.own (F:=F') (w:=w') (ι:=ι') n 0 len sz w.heap.size len us e hι hb (by rw[hsize];simp) (AA _) (by
     have hx:len*1≤len*sz:=Nat.mul_le_mul_left _ (by omega)
     simp only[maxLen];omega)
    simpa using this
  ·cases h
 ·rename_i t l c
  obtain⟨e,he,h⟩:=Ad.1 h
  obtain⟨sz,hsz,h⟩:=Ad.1 h
  obtain⟨z,hz,h⟩:=Ad.1 h
  obtain⟨y,hy,h⟩:=Ad.1 h
  obtain⟨x,hx,h⟩:=Ad.1 h
  obtain⟨b,hb',h⟩:=Ad.1 h
  split at h
  ·rename_i hc
   obtain⟨h1,h2,h3,h4,h5,h6,h7⟩:=hc
   injection h with h;injection h with e1 e2;subst e1;injection e2 with e2;subst e2
   obtain⟨kl,hl⟩:=gQ hx (ov l (by simp[Aw]))
   obtain⟨kc,hcc⟩:=gQ hb' (ov c (by simp[Aw]))
   obtain⟨i,hi,rfl⟩:=Af.1 hsz
   have hz':i.zero=some z:=by obtain⟨j,hj,hjz⟩:=Ad.1 hz;rw[hi]at hj;injection hj with hj;subst hj;exact hjz
   have hy':i.bytes=y:=by obtain⟨j,hj,hjz⟩:=Af.1 hy;rw[hi]at hj;injection hj with hj;subst hj;exact hjz
   have hr:=bAp (P:=P) w t e i z (eR he) hi hz' kl kc x b h4 h5 (by rw[hy'];exact h6) h7
   refine⟨.slice (some ⟨w.heap.size,0,none⟩) x.toNat b.toNat,_,_,?_,.alloc w (.cells (madeCells z.cells (b.toNat*i.size)) e),fun F' w' ι' hs hι hb=>⟨?_,?_⟩⟩
   ·simp only[execOp,Sem.run_bind,hl,hcc,hr];rfl
   ·obtain⟨q1,q2⟩:=aSo (F:=F') (w:=w') (ι:=ι') (z:=z.cells) (n:=x.toNat) (m:=b.toNat) h1 h2 h3 (by omega)
    exact .cells _ _ _ q1 fun k c hk=>let ⟨u,u1,u2,_⟩:=q2 k c hk;⟨u,u1,u2⟩
   ·have:=V.own (F:=F') (w:=w') (ι:=ι') n 0 x.toNat i.size w.heap.size b.toNat _ e hι hb (by rw[size_madeCells];simp) (by omega) (by simp only[maxLen];omega)
    simpa using this
  ·cases h
 ·split at h
  ·obtain⟨_,h⟩:=bM h;cases h
  ·split at h
   ·split at h
    ·obtain⟨_,h⟩:=bM h;cases h
    ·cases h
   ·cases h
 ·rename_i t r
  obtain⟨p,hp,h⟩:=Ad.1 h
  obtain⟨k,_,h⟩:=Ad.1 h
  obtain⟨i,hi,h⟩:=Af.1 h
  injection h with e1 e2;subst e1;injection e2 with e2;subst e2
  have hu:P.underlying t=some (.map p.1 p.2):=by
   unfold tmp at hp;split at hp
   ·injection hp with hp;subst hp;assumption
   ·cases hp
  refine⟨.map (some w.heap.size),.map #[] 0,w.alloc (.map #[] 0),?_,.alloc _ _,fun F' w' ι' hs hι hb=>⟨.map _ _ _ _ rfl (MapKept.stamped_empty 0) fun j x h=>by simp at h,.mp _ _ hι⟩⟩
  cases r with
  |none=>simp[execOp,Instr.makeMap]
  | some x =>
   obtain⟨kk,hx⟩:=gQ hi (ov x (by simp[Aw]))
   simp[execOp,hx,Instr.makeMap,aC hu,asInt,asIntOf]
 ·rename_i t x
  obtain⟨p,hp,h⟩:=Ad.1 h
  split at h
  case h_2=>cases h
  rename_i k ks ds hx
  injection h with h;injection h with e1 e2;subst e1;injection e2 with e2;subst e2
  have hu:P.underlying t=some (.map p.1 p.2):=by
   unfold tmp at hp;split at hp
   ·injection hp with hp;subst hp;assumption
   ·cases hp
  have hv:=ov x (by simp[Aw])
  rw[hx]at hv
  generalize hxe:a.eval x=u at hv
  cases hv with|d _ _ hv=>cases hv with|mp _ _ _ b ents clock hF hb hst hl hl' hk hds =>
  refine⟨.pointer (some ⟨w.heap.size,0,none⟩),.mapIter (some b) clock #[] clock,w.alloc (.mapIter (some b) clock #[] clock),?_,.alloc _ _,fun F' w' ι' hs hι hb'=>⟨?_,.ptr _ _ _ hι⟩⟩
  ·simp[execOp,hxe,aBl w t p.1 p.2 b ents clock hu hb]
  ·have hst':=(MapKept.stamped_iff ents clock).1 hst
   have hlf:leftOf ents #[]=ents:=by unfold leftOf;exact Array.filter_eq_self.2 fun x _=>by simp
   refine .iter k none _ b clock clock clock #[] ents (hs.F_le _ hF) ((hs.blk _ hF).trans hb) hst'.1 ⟨AA _,AA _⟩ hst'.2.1 (by rw[hlf];simp;omega) (fun j x hj=>?_) (fun x h=>by cases h)
   obtain⟨h1,h2⟩:=List.getElem?_zip_eq_some.1 hj
   obtain⟨en,h3,h4⟩:=hk j _ h1
   exact⟨en,by rw[hlf];exact h3,h4,(hds j _ en h2 h3).step hs.F_le hs.blk⟩
 ·cases h
end
def tM(P:Program)(H:Hp)(t:TypeId):AV→Option AV
 | .ptr id off=>(cB P t).bind fun ag=>match H id with
  |some (.cells _ cs)=>if ag then(tsz P t).bind fun sz=>if off+sz≤cs.length then some (.ag ((cs.drop off).take sz))else none else cs[off]?
  |_=>none
 |.fp cs=>(cB P t).bind fun ag=>if ag then(tsz P t).bind fun sz=>if sz≤cs.length then some (.ag ((cs.take sz).map .d))else none else(cs[0]?).map .d
 |_=>none
def aBj(H:Hp)(sz:Nat):AV→Option (Nat×List AV)
 |.nil=>some (0,[])
 | .own id off len sz'=>match H id with
  |some (.cells _ cs)=>if sz'=sz∧(off+len)*sz≤cs.length∧((cs.drop (off*sz)).take (len*sz)).all one=true then some (len,(cs.drop (off*sz)).take (len*sz))else none
  |_=>none
 |.d (.sl els)|.fd els=>if fD sz els=true∧(els.flatten.map AV.d).all one=true then some (els.length,els.flatten.map .d)else none
 |_=>none
section
variable {P:Program} {F:Nat→Prop} {w:World} {ι:Nat→Option Nat} {G:Ctx} {C:Nat→Prop} {H K:Hp}
theorem HR.cells(hR:HR G F w ι C K)(hHK:∀ id o,H id=some o→K id=some o){id b:Nat}(hι:ι id=some b){e:TypeId}{cs:List AV}(hH:H id=some (.cells e cs)) :
  ∃ cur,w.heap[b]? = some (.cells cur e (0,0))∧cs.length≤cur.size∧∀(k:Nat) c,cs[k]? = some c→∃ u,cur[k]? = some u∧V F w ι c u:=by
 obtain⟨ob,h2,h3⟩:=hR.obj id b _ hι (hHK _ _ hH)
 cases h3 with|cells _ _ cur hl h=>exact⟨cur,h2,hl,h⟩
theorem oC{t:TypeId}{sz:Nat}{a:Addr}(f:Nat→Value)(ht:cB P t=some true)(hs:tsz P t=some sz)(h:∀ j,j<sz→w.cell? (a.add j)=some (f j)) :
  aH P (loadVar t a) w=.ok (.agg ((AK sz).map f).toArray) w:=by
 simp only[loadVar,Sem.run_bind,kH w ht,AH,AF,run_sizeOf w hs,rB w a sz f h,Sem.run_pure]
theorem oB{t:TypeId}{a:Addr}{v:Value}(ht:cB P t=some false)(h:w.cell? a=some v):aH P (loadVar t a) w=.ok v w:=by
 simp only[loadVar,Sem.run_bind,kH w ht,AH]
 exact aCk h
theorem aFw(hR:HR G F w ι C K)(hHK:∀ id o,H id=some o→K id=some o){t:TypeId}{x r:AV}{v:Value}(h:tM P H t x=some r)(hv:V F w ι x v) :
  ∃ u,aH P (EW t v) w=.ok u w∧V F w ι r u:=by
 unfold tM at h
 split at h
 ·rename_i id off
  obtain⟨ag,hag,h⟩:=Ad.1 h
  cases hv with|ptr _ _ b hι =>
  split at h
  ·rename_i e cs hH
   obtain⟨cur,hb,hl,hc⟩:=hR.cells hHK hι hH
   have hcell:∀ j,w.cell? ((⟨b,off,none⟩:Addr).add j)=cur[off+j]? := fun j=>by rw[gH];exact cell_of_row w b _ cur e (0,0) hb
   cases ag
   ·simp only[Ae,Av]at h
    obtain⟨u,hu,hv⟩:=hc off r h
    refine⟨u,?_,hv⟩
    have h0:=hcell 0
    simp only[B8]at h0
    have:(⟨b,off,none⟩:Addr).add 0=⟨b,off,none⟩:=by simp[Addr.add]
    rw[this,hu]at h0
    simp only[EW,Cp,Sem.run_bind,Sem.run_pure,AH,oB hag h0]
   ·simp only[AF]at h
    obtain⟨sz,hsz,h⟩:=Ad.1 h
    split at h
    ·rename_i hfit
     injection h with h;subst h
     refine⟨.agg ((AK sz).map fun j=>cur.getD (off+j) undef).toArray,?_,.ag _ _ ?_ fun k c u hk hu=>?_⟩
     ·simp only[EW,Cp,Sem.run_bind,Sem.run_pure,AH]
      exact oC _ hag hsz fun j hj=>by rw[hcell,Ak (by omega)];simp[show off+j<cur.size by omega]
     ·simp;omega
     ·rw[Bv]at hk
      split at hk
      ·rename_i hks
       rw[BB]at hk
       obtain⟨u',hu',hv⟩:=hc _ _ hk
       simp only[Cb,Ag,Bn hks,AQ,At]at hu
       subst hu
       have hlt:=(AZ.1 hu').1
       rw[Ak hlt]at hu'
       injection hu' with hu'
       simpa[hlt,hu']using hv
      ·cases hk
    ·cases h
  ·cases h
 ·rename_i cs
  obtain⟨ag,hag,h⟩:=Ad.1 h
  cases hv with|fp _ ad f hF hcell hel =>
  cases ag
  ·simp only[Ae,Av]at h
   obtain⟨c,hc,rfl⟩:=Af.1 h
   have hlt:0<cs.length:=(Ao.1 hc).1
   refine⟨f 0,?_,.d _ _ (hel 0 c hc)⟩
   have h0:=hcell 0 hlt
   have:ad.add 0=ad:=by simp[Addr.add]
   rw[this]at h0
   simp only[EW,Cp,Sem.run_bind,Sem.run_pure,AH,oB hag h0]
  ·simp only[AF]at h
   obtain⟨sz,hsz,h⟩:=Ad.1 h
   split at h
   ·rename_i hfit
    injection h with h;subst h
    refine⟨.agg ((AK sz).map f).toArray,?_,.ag _ _ ?_ fun k c u hk hu=>?_⟩
    ·simp only[EW,Cp,Sem.run_bind,Sem.run_pure,AH]
     exact oC _ hag hsz fun j hj=>hcell j (by omega)
    ·simp;omega
    ·rw[Ag]at hk
     obtain⟨d,hd,rfl⟩:=Af.1 hk
     rw[Bv]at hd
     split at hd
     ·rename_i hks
      simp only[Cb,Ag,Bn hks,AQ,At]at hu
      subst hu
      exact .d _ _ (hel k d hd)
     ·cases hd
   ·cases h
 ·cases h
theorem aZe(hR:HR G F w ι C K)(hHK:∀ id o,H id=some o→K id=some o){sz m:Nat}{x:AV}{cs:List AV}{v:Value}(h:aBj H sz x=some (m,cs))(hv:V F w ι x v) :
  ∃ ad c,∃ news:List Value,v=.slice ad m c∧CV F w ι cs news.toArray∧cs.length=m*sz∧(∀ a,ad=some a→∀ j u,news[j]? = some u→w.cell? (a.add j)=some u)∧(ad=none→m=0):=by
 have data:∀(els:List (List D)) (ad:Option Addr) (c:Nat),VD F w (.sl els) (.slice ad els.length c)→fD sz els=true→(els.flatten.map AV.d).all one=true →
   ∃ news:List Value,CV F w ι (els.flatten.map .d) news.toArray∧(els.flatten.map AV.d).length=els.length*sz∧(∀ a,ad=some a→∀ j u,news[j]? = some u→w.cell? (a.add j)=some u)∧(ad=none→els.length=0):=by
  intro els ad c hh hok hone
  have hall:=aAz hh (pB hok)
  have hlen:els.flatten.length=els.length*sz:=by
   clear hh hok hone
   induction els with
   |nil=>simp
   | cons a l ih =>
    rw[CH,A8,ih fun cs hcs=>hall cs (AJ _ hcs),hall a (AI ..),Aj,BV,CE,Ey]
  cases hh with
  |sl0 ad c=>exact⟨[],⟨rfl,fun k c u hc=>by simp at hc,fun u hu=>by simp at hu⟩,by simp,fun a _ j u hu=>by simp at hu,fun _=>rfl⟩
  | sl _ a n c sz' f hn hc hsz hF hcell hel =>
   have hes:els=[]∨sz'=sz:=by
    cases els with
    |nil=>exact .inl rfl
    |cons a l=>exact .inr (by rw[←hsz a (AI ..),hall a (AI ..)])
   rcases hes with rfl|rfl
   ·exact⟨[],⟨rfl,fun k c u hc=>by simp at hc,fun u hu=>by simp at hu⟩,by simp,fun a _ j u hu=>by simp at hu,fun _=>rfl⟩
   ·have hget:∀(l:List (List D)),(∀ cs∈l,cs.length=sz')→∀(k:Nat) d,l.flatten[k]? = some d→∃ cs,l[k/sz']? = some cs∧cs[k%sz']? = some d:=by
     intro l
     induction l with
     |nil=>intro _ k d h;simp at h
     | cons a l ih =>
      intro hl k d h
      have ha:a.length=sz':=hl a (AI ..)
      rw[CH]at h
      by_cases hk:k<sz'
      ·rw[AP (by omega)]at h
       exact⟨a,by rw[Nat.div_eq_of_lt hk];rfl,by rw[BQ hk];exact h⟩
      ·rw[AM (by omega),ha]at h
       obtain⟨cs,h1,h2⟩:=ih (fun cs hcs=>hl cs (AJ _ hcs)) _ _ h
       by_cases hz:sz'=0
       ·subst hz
        simp only[Nat.div_zero]at h1 ⊢
        rw[Nat.sub_zero]at h2
        exact(by
         have:cs.length=0:=hl cs (AJ _ (Ai h1))
         have:=(Ao.1 h2).1
         omega)
       ·refine⟨cs,?_,by rw[Nat.mod_eq_sub_mod (by omega)];exact h2⟩
        rw[Nat.div_eq_sub_div (by omega) (by omega),Bt];exact h1
    refine⟨(AK (els.length*sz')).map f,aBh hone (by rw[BF,hlen];simp) (uN fun k c u hk hu=>?_),by rw[BF];exact hlen,fun a' ha j u hu=>?_,fun h=>by cases h⟩
    ·obtain⟨cs,h1,h2⟩:=hget els hsz k c hk
     have:=hel _ _ _ _ h1 h2
     have hlt:k<els.length*sz':=by rw[←hlen];exact(Ao.1 hk).1
     simp only[Cb,Ag,Bn hlt,AQ,At]at hu
     subst hu
     rwa [Nat.mul_comm,Nat.div_add_mod]at this
    ·injection ha with ha;subst ha
     have hlt:j<els.length*sz':=by have:=(Ao.1 hu).1;simpa using this
     simp only[Ag,Bn hlt,AQ,At]at hu
     subst hu
     exact hcell j (by omega)
 unfold aBj at h
 split at h
 ·injection h with h;injection h with h1 h2;subst h1;subst h2
  cases hv
  exact⟨none,0,[],rfl,⟨rfl,fun k c u hc=>by simp at hc,fun u hu=>by simp at hu⟩,by simp,(fun a ha=>by cases ha),fun _=>rfl⟩
 ·rename_i id off len sz'
  cases hv with|own _ _ _ _ b cap cur' e' hι hb' hcap hl' hm' =>
  split at h
  ·rename_i e cs' hH
   split at h
   ·rename_i hc
    obtain⟨rfl,hfit,hone⟩:=hc
    injection h with h;injection h with h1 h2;subst h1;subst h2
    obtain⟨cur,hb,hl,hcc⟩:=hR.cells hHK hι hH
    rw[hb]at hb';injection hb' with hb';injection hb' with e1 e2;subst e1;subst e2
    have hfit':off*sz'+len*sz'≤cs'.length:=by rw[←BV];exact hfit
    refine⟨_,_,(cur.toList.drop (off*sz')).take (len*sz'),rfl,aBh hone (by simp;omega) fun k c u hk hu=>?_,by simp;omega,fun a ha j u hu=>?_,fun h=>by cases h⟩
    ·rw[Bv]at hk
     split at hk
     ·rename_i hks
      rw[BB]at hk
      obtain⟨u',hu',hv⟩:=hcc _ _ hk
      simp only[Cb,Bv,Ap hks,BB,Bh]at hu
      rw[hu']at hu;injection hu with hu;subst hu;exact hv
     ·cases hk
    ·injection ha with ha;subst ha
     rw[Bv]at hu
     split at hu
     ·rw[BB,Bh]at hu
      rw[gH,cell_of_row w b _ cur e (0,0) hb];exact hu
     ·cases hu
   ·cases h
  ·cases h
 ·rename_i els
  split at h
  ·rename_i hc
   injection h with h;injection h with h1 h2;subst h1;subst h2
   cases hv with|d _ _ hh =>
   obtain⟨ad,c,rfl,_⟩:=mV hh
   obtain⟨news,h1,h2,h3,h4⟩:=data els ad c hh hc.1 hc.2
   exact⟨ad,c,news,rfl,h1,h2,h3,h4⟩
  ·cases h
 ·rename_i els
  split at h
  ·rename_i hc
   injection h with h;injection h with h1 h2;subst h1;subst h2
   obtain⟨ad,rfl,hh⟩:=mT hv
   obtain⟨news,h1,h2,h3,h4⟩:=data els ad _ hh hc.1 hc.2
   exact⟨ad,_,news,rfl,h1,h2,h3,h4⟩
  ·cases h
 ·cases h
end
def aBw(P:Program)(H:Hp)(t:TypeId)(s x:AV)(n:Nat):Option (AV×Option HO×List Nat) :=
 (tel P t).bind fun e=>(tsz P e).bind fun sz=>(tby P e).bind fun bt=>(tz P e).bind fun z=>(aBj H sz x).bind fun p =>
  if z.cells.size=sz∧0<sz then
   match s with
   |.nil=>if p.1=0 then some (.nil,none,[])else if p.1*bt≤140737488355328∧p.1≤maxLen then some (.own n 0 p.1 sz,some (.cells e p.2),[])else none
   | .own id off len sz'=>match H id with
    | some (.cells e' cs)=>if off=0∧sz'=sz∧e'=e∧cs.length=len*sz∧(len+p.1)*bt≤140737488355328∧len+p.1≤maxLen then
      some (.own n 0 (len+p.1) sz,some (.cells e (cs++p.2)),[id])else none
    |_=>none
   | .fd els => if 0 < p.1 ∧ fD sz els = true ∧ (els.flatten.map AV.d).all one = true ∧ (els.length + p.1)*bt ≤ 140737488355328 ∧ els.length + p.1 ≤ maxLen then
         some (.own n 0 (els.length+p.1) sz,some (.cells e (els.flatten.map .d++p.2)),[])else if p.1=0 then some (.fd els,none,[])else none
   |_=>none
  else none
section
variable {P:Program} {F:Nat→Prop} {w:World} {ι:Nat→Option Nat} {G:Ctx} {C:Nat→Prop} {H K:Hp}
theorem HR.inplace(hR:HR G F w ι C K){id b n:Nat}{e:TypeId}{cs news:List AV}{cur cur':Array Value}{w':World}(hC:¬C id)(hι:ι id=some b)(hn:ι n=none)
  (hK:K id=some (.cells e cs)) (hKn:K n=some (.cells e (cs++news))) (hb:w.heap[b]? = some (.cells cur e (0,0))) (hb':w'.heap[b]? = some (.cells cur' e (0,0)))
  (hs:cur'.size=cur.size) (hfit:cs.length+news.length≤cur'.size) (hold:∀ k,k<cs.length→cur'[k]? = cur[k]?)
  (hnew:∀(j:Nat) c,news[j]? = some c→∃ u,cur'[cs.length+j]? = some u∧V F w ι c u)
  (hsize:w'.heap.size=w.heap.size) (hoth:∀ k,k≠b→w'.heap[k]? = w.heap[k]?) (hos:w'.os=w.os) (htp:w'.tape=w.tape) (hout:w'.output=w.output) :
  HR G F w' (upd ι n (some b)) (fun i=>C i∨i=id) K∧Step F w ι F w' (upd ι n (some b)):=by
 have hnF:¬F b:=(hR.place id b hι).2.2 hC
 have hst:Step F w ι F w' (upd ι n (some b)):=by
  refine⟨fun _ h=>h,fun k hk=>hoth k (fun e=>hnF (e ▸ hk)),fun i k hi=>by rw[upd_ne _ _ (fun he=>by rw[he,hn]at hi;cases hi)];exact hi,fun i k c0 e0 hi hk=>?_⟩
  by_cases hkb:k=b
  ·subst hkb
   rw[hb]at hk;injection hk with hk;injection hk with h1 h2;subst h1;subst h2
   exact⟨cur',hb',hs⟩
  ·exact⟨c0,(hoth k hkb).trans hk,rfl⟩
 have split_ι:∀ i k,upd ι n (some b) i=some k→(i=n∧k=b)∨(i≠n∧ι i=some k):=by
  intro i k hi
  by_cases h:i=n
  ·subst h;rw[upd_same]at hi;injection hi with hi;exact .inl ⟨rfl,hi.symm⟩
  ·rw[upd_ne _ _ h]at hi;exact .inr ⟨h,hi⟩
 have shp:∀(k:Nat) (c0:Array Value) (e0:TypeId),w.heap[k]? = some (C8 c0 e0 (0,0))→∃ c1:Array Value,w'.heap[k]? = some (C8 c1 e0 (0,0))∧c1.size=c0.size:=fun k c0 e0 hk=>by
  by_cases hkb:k=b
  ·subst hkb
   rw[hb]at hk;injection hk with hk;injection hk with h1 h2;subst h1;subst h2
   exact⟨cur',hb',hs⟩
  ·exact⟨c0,(hoth k hkb).trans hk,rfl⟩
 refine⟨⟨hR.kept.trans ⟨hos,htp,hout,by omega,fun k hk hm=>hoth k fun e=>?_,fun k c0 e0 hk hc=>shp k c0 e0 hc⟩,fun k hk=>by rw[hsize];exact hR.F_lt k hk,hR.F_ok,?_,?_,?_,?_⟩,hst⟩
 ·subst e
  rcases(hR.place id k hι).1 with h|h
  ·exact hm h
  ·omega
 ·intro i k hi
  rcases split_ι i k hi with ⟨rfl,rfl⟩|⟨_,hi⟩
  ·obtain⟨h1,h2,_⟩:=hR.place id k hι
   exact⟨h1,by omega,fun _=>hnF⟩
  ·obtain⟨h1,h2,h3⟩:=hR.place i k hi
   exact⟨h1,by omega,fun hc=>h3 fun x=>hc (.inl x)⟩
 ·intro i k o hi ho
  rcases split_ι i k hi with ⟨rfl,rfl⟩|⟨_,_⟩
  ·rw[hKn]at ho;injection ho with ho;subst ho
   refine⟨_,hb',.cells _ _ _ (by simp;omega) fun j c hj=>?_⟩
   by_cases hjl:j<cs.length
   ·rw[AP hjl]at hj
    obtain⟨ob,h2,h3⟩:=hR.obj id k _ hι hK
    rw[hb]at h2;injection h2 with h2;subst h2
    cases h3 with|cells _ _ _ hl h =>
    obtain⟨u,hu,hv⟩:=h j c hj
    exact⟨u,(hold j hjl).trans hu,hv.step hst⟩
   ·rw[AM (by omega)]at hj
    obtain⟨u,hu,hv⟩:=hnew _ _ hj
    exact⟨u,by rw[←hu];congr 1;omega,hv.step hst⟩
  ·rename_i hi2
   obtain⟨ob,h2,h3⟩:=hR.obj i k o hi2 ho
   by_cases hkb:k=b
   ·subst hkb
    rw[hb]at h2;injection h2 with h2;subst h2
    have hlen:=hR.len id i k _ _ hι hi2 hC hK ho
    cases h3 with|cells _ cs' _ hl h =>
    simp only[HO.len]at hlen
    refine⟨_,hb',.cells _ _ _ (by omega) fun j c hj=>?_⟩
    obtain⟨u,hu,hv⟩:=h j c hj
    have:j<cs'.length:=(Ao.1 hj).1
    exact⟨u,(hold j (by omega)).trans hu,hv.step hst⟩
   ·exact⟨ob,(hoth k hkb).trans h2,h3.step hst⟩
 ·intro i i' k hi hi' hc hc'
  rcases split_ι i k hi with ⟨h1,h2⟩|⟨h1,h2⟩<;>rcases split_ι i' k hi' with ⟨h1',h2'⟩|⟨h1',h2'⟩
  ·rw[h1,h1']
  ·subst h2;exact absurd (hR.inj i' id k h2' hι (fun x=>hc' (.inl x)) hC) fun x=>hc' (.inr x)
  ·subst h2';exact absurd (hR.inj i id k h2 hι (fun x=>hc (.inl x)) hC) fun x=>hc (.inr x)
  ·exact hR.inj i i' k h2 h2' (fun x=>hc (.inl x)) fun x=>hc' (.inl x)
 ·intro i i' k o o' hi hi' hc ho ho'
  rcases split_ι i k hi with ⟨h1,h2⟩|⟨h1,h2⟩<;>rcases split_ι i' k hi' with ⟨h1',h2'⟩|⟨h1',h2'⟩
  ·rw[h1]at ho;rw[h1',ho]at ho';injection ho' with h;subst h;exact AA _
  ·subst h2
   rw[h1,hKn]at ho;injection ho with ho;subst ho
   have:=hR.len id i' k _ _ hι h2' hC hK ho'
   simp only[HO.len]at this ⊢
   simp;omega
  ·subst h2';exact absurd (hR.inj i id k h2 hι (fun x=>hc (.inl x)) hC) fun x=>hc (.inr x)
  ·exact hR.len i i' k o o' h2 h2' (fun x=>hc (.inl x)) ho ho'
theorem jU{t e:TypeId}{sz:Nat}(ht:tel P t=some e)(hs:tsz P e=some sz)(ty:TypeId)(b:Option Addr)(n cap c:Nat)(hc:n≤cap)(w:World) :
  aH P (BT #[t,t] ty #[.slice b n cap,.slice none 0 c]) w=.ok (.slice b n cap) w:=by
 cases b<;>simp[BT,aC (eR ht),run_sizeOf w hs,EH,hc,DF,storeCells]
theorem oD{t e:TypeId}{sz:Nat}(ht:tel P t=some e)(hs:tsz P e=some sz)(ty:TypeId)(a:Addr)(c:Nat)(w:World) :
  aH P (BT #[t,t] ty #[.slice none 0 0,.slice (some a) 0 c]) w=.ok (.slice none 0 0) w:=by
 simp[BT,aC (eR ht),run_sizeOf w hs,EH,DF,loadCells,loadCellsFrom]
theorem uZ{t e:TypeId}{sz:Nat}(ht:tel P t=some e)(hs:tsz P e=some sz)(ty:TypeId)(b a:Addr)(n c:Nat)(w:World) :
  aH P (BT #[t,t] ty #[.slice (some b) n n,.slice (some a) 0 c]) w=.ok (.slice (some b) n n) w:=by
 simp[BT,aC (eR ht),run_sizeOf w hs,EH,DF,loadCells,loadCellsFrom,storeCells]
variable [M:Mch P] {Γ:Nat→AV} {n:Nat} {o:Oper}
omit M in
theorem bSn{e:TypeId}{sz bt:Nat}{z:Value}(h1:tsz P e=some sz)(h2:tby P e=some bt)(h3:tz P e=some z):∃ i,P.info? e=some i∧i.zero=some z∧i.size=sz∧i.bytes=bt:=by
 obtain⟨i,hi,rfl⟩:=Af.1 h1
 obtain⟨j,hj,rfl⟩:=Af.1 h2
 obtain⟨k,hk,hz⟩:=Ad.1 h3
 rw[hi]at hj hk;injection hj with hj;injection hk with hk;subst hj;subst hk
 exact⟨i,hi,hz,rfl,rfl⟩
theorem aGz{s x:Operand}{t:TypeId}{av:AV}{nb:Option HO}{con:List Nat}(ho:o.op=.call { callee:=.builtin .append,args:=#[s,x],argTypes:=#[t,t] })
  (hHK:∀ id ob,H id=some ob→K id=some ob) (h:aBw P H t (oev Γ s) (oev Γ x) n=some (av,nb,con)) (hK:∀ ob,nb=some ob→K n=some ob) (hcon:∀ id∈con,¬C id) :
  Y P G o Γ C K K av (fun i=>nb.isSome=true∧i=n) (fun i=>i∈con):=by
 intro F w ι a hok hR hop hnew next hnext
 have os:V F w ι (oev Γ s) (a.eval s):=cE fun t e=>hop t (by rw[ho];simp[Aw,Bc,e])
 have ox:V F w ι (oev Γ x) (a.eval x):=cE fun t e=>hop t (by rw[ho];simp[Aw,Bc,e])
 unfold aBw at h
 obtain⟨e,he,h⟩:=Ad.1 h
 obtain⟨sz,hsz,h⟩:=Ad.1 h
 obtain⟨bt,hbt,h⟩:=Ad.1 h
 obtain⟨z,hz,h⟩:=Ad.1 h
 obtain⟨⟨m,ncs⟩,hsrc,h⟩:=Ad.1 h
 obtain⟨i,hi,hiz,his,hib⟩:=bSn hsz hbt hz
 obtain⟨ad,c,news,hxv,hcv,hncl,hcell,hnil⟩:=aZe hR hHK hsrc ox
 have hnl:news.length=m*i.size:=by have:=hcv.1;simp only[Ar]at this;rw[his,←hncl,this]
 have h1c:∀ u∈news,u.oneCell'=true:=fun u hu=>hcv.2.2 u (by simpa using hu)
 split at h
 case isFalse=>cases h
 rename_i hzs
 obtain⟨hzs,hpos⟩:=hzs
 -- what an operation that gives this value in this world does
 have fin:∀(u:Value) (w':World) (F':Nat→Prop) (ι':Nat→Option Nat),aH P (BT #[t,t] o.type #[a.eval s,a.eval x]) w=.ok u w'→HR G F' w' ι' (fun j=>C j∨j∈con) K →
   Step F w ι F' w' ι'→(∀ id b,ι' id=some b→ι id=some b∨(nb.isSome=true∧id=n))→(∀ id,(nb.isSome=true∧id=n)→∃ b,ι' id=some b)→V F' w' ι' av u→wpX P o a w next:=by
  intro u w' F' ι' hr hR' hs' hd hd' hv
  unfold wpX
  simp only[execOp,ho,resolve,invoke,builtin,Sem.run_bind,Sem.run_pure,AH,List.map_toArray,BO,EV,hr]
  exact hnext F' w' ι' u hR' hs' hd hd' hv
 -- a new block
 have grown:∀(vals:List Value) (zs:Array Value) (cells:List AV) (cap l:Nat),nb=some (.cells e cells)→av=.own n 0 l sz→(cells.length=vals.length∧∀(k:Nat) c,cells[k]? = some c→∃ u,vals[k]? = some u∧V F w ι c u)→l≤cap→cap≤maxLen→cap*sz≤(vals.toArray++zs).size →
   aH P (BT #[t,t] o.type #[a.eval s,a.eval x]) w=.ok (.slice (some ⟨w.heap.size,0,none⟩) l cap) (w.drew.alloc (.cells (vals.toArray++zs) e))→wpX P o a w next:=by
  intro vals zs cells cap l hnb hav hcvv hlc hcm hcs hrun
  subst hav
  have h0:ι n=none:=hnew n ⟨by rw[hnb];rfl,rfl⟩
  have hw:=iX.drew w (.cells (vals.toArray++zs) e)
  have hs:=rN hR n h0 hw
  have hcr:CR F (w.drew.alloc (.cells (vals.toArray++zs) e)) (upd ι n (some w.heap.size)) (.cells e cells) (.cells (vals.toArray++zs) e (0,0)):=by
   refine .cells _ _ _ (by have:=hcvv.1;simp at this ⊢;omega) fun k c hk=>?_
   obtain⟨u,hu,hv⟩:=hcvv.2 k c hk
   have hlt:=(Ao.1 hu).1
   exact⟨u,by rw[BX (by simpa using hlt)];simpa using hu,hv.step hs⟩
  refine fin _ _ F _ hrun ((hR.alloc n h0 hw _ (hK _ hnb) hcr).weakC fun _ h=>.inl h) hs (fun id b e=>?_) (fun id h=>⟨w.heap.size,by rw[h.2,upd_same]⟩) ?_
  ·by_cases hid:id=n
   ·exact .inr ⟨by rw[hnb];rfl,hid⟩
   ·rw[upd_ne _ _ hid]at e;exact .inl e
  ·have:=V.own (F:=F) (w:=w.drew.alloc (.cells (vals.toArray++zs) e)) (ι:=upd ι n (some w.heap.size)) n 0 l sz w.heap.size cap _ e (upd_same _ _ _) hw.new (by rw[Ax];exact hcs) hlc hcm
   simpa using this
 have cvw:CV F w ι ncs news.toArray→(ncs.length=news.length∧∀(k:Nat) c,ncs[k]? = some c→∃ u,news[k]? = some u∧V F w ι c u):=fun hc =>
  ⟨by simpa using hc.1,fun k c hk=>let ⟨u,hu,hv⟩:=hc.get hk;⟨u,by simpa using hu,hv⟩⟩
 split at h
 ·-- nil
  rename_i hsn
  rw[hsn]at os
  generalize hsv:a.eval s=sv at os fin grown
  cases os
  simp only at h
  by_cases hm:m=0
  ·rw[Ap hm]at h
   injection h with h;injection h with h1 h2;injection h2 with h2 h3;subst h1;subst h2;subst h3;subst hm
   have hrun:aH P (BT #[t,t] o.type #[.slice none 0 0,a.eval x]) w=.ok (.slice none 0 0) w:=by
    rw[hxv]
    cases ad with
    |none=>exact jU he hsz _ _ _ _ _ (AA _) _
    |some ad=>exact oD he hsz _ _ _ _
   exact fin _ _ F ι hrun (hR.congrC fun id=>⟨fun h=>.inl h,fun h=>h.elim (fun x=>x) (fun h=>by cases h)⟩) (.refl _ _ _) (fun _ _ h=>.inl h) (fun _ h=>by simp at h) .nil
  ·rw[Ah hm]at h
   split at h
   ·rename_i hb
    injection h with h;injection h with h1 h2;injection h2 with h2 h3;subst h1;subst h2;subst h3
    cases ad with
    |none=>exact absurd (hnil rfl) hm
    | some ad =>
     have hr:=oU (P:=P) w t o.type e i z (eR he) hi hiz ad m c news hnl (hcell _ rfl) (by omega) (by have:=hb.2;simp only[maxLen]at this;omega) (by rw[hib];omega)
     rw[←hxv]at hr
     refine grown news _ ncs _ m rfl rfl (cvw hcv) (grownCap_ge _ _ _ _) (grownCap_le_maxLen _ _ _ _ hb.2) ?_ hr
     have h1:=grownCap_ge w m 0 e
     simp only[EL,Ar,size_zeroCells,hzs,hnl,his,←BV]
     rw[show m+(grownCap w m 0 e-m)=grownCap w m 0 e from by omega]
     exact AA _
   ·cases h
 ·-- own
  rename_i id off len sz' hsn
  rw[hsn]at os
  generalize hsv:a.eval s=sv at os fin grown
  cases os with|own _ _ _ _ b cap cur0 e0 hι hb0 hcap hlc hcm =>
  split at h
  ·rename_i e' cs hH
   split at h
   ·rename_i hc
    obtain⟨rfl,rfl,rfl,hcl,hby,hml⟩:=hc
    injection h with h;injection h with h1 h2;injection h2 with h2 h3;subst h1;subst h2;subst h3
    obtain⟨cur,hb,hl,hcc⟩:=hR.cells hHK hι hH
    rw[hb]at hb0;injection hb0 with hb0;injection hb0 with e1 e2;subst e1;subst e2
    rw[Ax]at hcap
    rw[DT]at fin grown
    have hCid:¬C id:=hcon id (by simp)
    have h0:ι n=none:=hnew n ⟨rfl,rfl⟩
    have inpl:∀(cur':Array Value) (w':World),aH P (BT #[t,t] o.type #[.slice (some ⟨b,0,none⟩) len cap,a.eval x]) w=.ok (.slice (some ⟨b,0,none⟩) (len+m) cap) w' →
      len+m≤cap→w'.heap[b]? = some (.cells cur' e' (0,0))→cur'.size=cur.size→(∀ k,k<cs.length→cur'[k]? = cur[k]?)→(∀(j:Nat) c,ncs[j]? = some c→∃ u,cur'[cs.length+j]? = some u∧V F w ι c u) →
      w'.heap.size=w.heap.size→(∀ k,k≠b→w'.heap[k]? = w.heap[k]?)→w'.os=w.os→w'.tape=w.tape→w'.output=w.output→wpX P o a w next:=by
     intro cur' w' hrun hroom hb' hs' hold hnw hsize hoth hos htp hout
     have hfit:cs.length+ncs.length≤cur'.size:=by
      rw[hcl,hncl,←BV,hs']
      exact AY (BZ _ hroom) hcap
     obtain⟨hR',hst⟩:=hR.inplace hCid hι h0 (hHK _ _ hH) (hK _ rfl) hb hb' hs' hfit hold hnw hsize hoth hos htp hout
     refine fin _ _ F _ hrun (hR'.congrC fun j=>by simp) hst (fun id b e=>?_) (fun id h=>⟨b,by rw[h.2,upd_same]⟩) ?_
     ·by_cases hid:id=n
      ·exact .inr ⟨rfl,hid⟩
      ·rw[upd_ne _ _ hid]at e;exact .inl e
     ·have:=V.own (F:=F) (w:=w') (ι:=upd ι n (some b)) n 0 (len+m) sz' b cap cur' e' (upd_same _ _ _) hb' (by rw[Ax,hs'];exact hcap) hroom hcm
      simpa using this
    cases ad with
    | none =>
     have hm0:=hnil rfl
     subst hm0
     have hn0:ncs=[]:=Cc (by rw[hncl,DT])
     subst hn0
     refine inpl cur w ?_ (by omega) hb rfl (fun _ _=>rfl) (fun j c h=>by simp at h) rfl (fun _ _=>rfl) rfl rfl rfl
     rw[hxv]
     exact jU he hsz _ _ _ _ _ hlc _
    | some ad =>
     by_cases hroom:len+m≤cap
     ·have hfit:len*i.size+news.length≤cur.size:=by
       rw[hnl,←BV,his];exact AY (BZ _ hroom) hcap
      have hr:=wW (P:=P) w t o.type e' i (eR he) hi b len cap cur hb ad m c news hnl (hcell _ rfl) h1c hroom hfit
      rw[←hxv]at hr
      have hg:=setRow_heap w b cur (cur.toList.take (len*i.size)++news++cur.toList.drop (len*i.size+news.length)).toArray e' (0,0) hb
      have hcl':cs.length=len*i.size:=by rw[his];exact hcl
      have hmin:(cur.toList.take (len*i.size)).length=len*i.size:=by rw[Be,BA];omega
      refine inpl _ _ hr hroom hg ?_ (fun k hk=>?_) (fun j cc hj=>?_) (by simp) (fun k hk=>setRow_other w b k _ hk) rfl rfl rfl
      ·simp only[Ar,A8,Be,List.length_drop,BA];omega
      ·rw[Cb,CG,AP (by omega),Bv,Ap (by omega),Bh]
      ·obtain⟨u,hu,hv⟩:=hcv.get hj
       refine⟨u,?_,hv⟩
       have hjl:j<news.length:=by have:=(AZ.1 hu).1;simpa using this
       rw[Cb,CG,AM (by omega),hmin,hcl',
        show len*i.size+j-len*i.size=j from by omega,AP hjl]
       simpa using hu
     ·have holds:∀ j u,(cur.toList.take (len*i.size))[j]? = some u→w.cell? ((⟨b,0,none⟩:Addr).add j)=some u:=by
       intro j u hu
       rw[Bv]at hu
       split at hu
       ·rw[gH,Ax,cell_of_row w b _ cur e' (0,0) hb];simpa using hu
       ·cases hu
      have hcl':cs.length=len*i.size:=by rw[his];exact hcl
      have hr:=oE (P:=P) w t o.type e' i z (eR he) hi hiz ⟨b,0,none⟩ len cap (cur.toList.take (len*i.size)) (by simp;omega) holds ad m c news hnl (hcell _ rfl) (by omega)
       (by simp only[maxLen]at hml;omega) (growslice_fits (by omega) (by rw[hib];exact hby))
      rw[←hxv,show(cur.toList.take (len*i.size)).toArray++news.toArray=(cur.toList.take (len*i.size)++news).toArray from by simp]at hr
      have hvals:(cs++ncs).length=((cur.toList.take (len*i.size))++news).length∧∀(k:Nat) c,(cs++ncs)[k]? = some c→∃ u,((cur.toList.take (len*i.size))++news)[k]? = some u∧V F w ι c u:=by
       refine⟨?_,fun k cc hk=>?_⟩
       ·have:=hcv.1;simp at this ⊢;omega
       ·by_cases hkl:k<cs.length
        ·rw[AP hkl]at hk
         obtain⟨u',hu',hv⟩:=hcc k cc hk
         exact⟨u',by rw[AP (by simp;omega),Bv,Ap (by omega),Bh];exact hu',hv⟩
        ·rw[AM (by omega)]at hk
         obtain⟨u,hu,hv⟩:=hcv.get hk
         exact⟨u,by rw[AM (by simp;omega),show(cur.toList.take (len*i.size)).length=cs.length from by rw[Be,BA];omega];simpa using hu,hv⟩
      refine grown _ (C1 z.cells (grownCap w (len+m) cap e'-(len+m))) (cs++ncs) _ (len+m) rfl rfl hvals (grownCap_ge w (len+m) cap e') (grownCap_le_maxLen w (len+m) cap e' hml) ?_ hr
      have h1:=grownCap_ge w (len+m) cap e'
      simp only[EL,Ar,size_zeroCells,hzs,A8,Be,BA,hnl,his]
      have h2:len*sz'≤cur.size:=by omega
      rw[Da h2,←BV,←BV,show len+m+(grownCap w (len+m) cap e'-(len+m))=grownCap w (len+m) cap e' from by omega]
      exact AA _
   ·cases h
  ·cases h
 ·-- a full slice
  rename_i els hsn
  rw[hsn]at os
  split at h
  ·rename_i hc
   obtain⟨hm,hok,hone,hby,hml⟩:=hc
   injection h with h;injection h with h1 h2;injection h2 with h2 h3;subst h1;subst h2;subst h3
   obtain⟨sad,hse,hh⟩:=mT os
   have hs2:aBj H sz (.fd els)=some (els.length,els.flatten.map .d):=by simp only[aBj];rw[Ap ⟨hok,hone⟩]
   obtain⟨ad2,c2,olds,hov,hocv,hocl,hocell,honil⟩:=aZe hR hHK hs2 os
   rw[hse]at hov;injection hov with e1 e2 e3;subst e1;subst e3
   have hol:olds.length=els.length*i.size:=by have:=hocv.1;simp only[Ar]at this;rw[his,←hocl,this]
   cases ad with
   |none=>exact absurd (hnil rfl) (by omega)
   | some ad =>
    cases sad with
    | none =>
     have hl0:=honil rfl
     have hels:els=[]:=Cc hl0
     subst hels
     have hr:=oU (P:=P) w t o.type e i z (eR he) hi hiz ad m c news hnl (hcell _ rfl) (by omega) (by simp only[maxLen]at hml;simp at hml;omega) (by rw[hib];simp at hby;omega)
     rw[←hxv]at hr
     simp only[Au]at hse
     rw[←hse]at hr
     simp only[Au,Ax]at hml
     refine grown news _ ([]++ncs) _ (0+m) (by simp) (by simp) (cvw hcv) (by rw[Ax];exact grownCap_ge w m 0 e) (grownCap_le_maxLen _ _ _ _ hml) ?_ (by rw[Ax];exact hr)
     have h1:=grownCap_ge w m 0 e
     simp only[EL,Ar,size_zeroCells,hzs,hnl,his,←BV]
     rw[show m+(grownCap w m 0 e-m)=grownCap w m 0 e from by omega]
     exact AA _
    | some sad =>
     have hr:=oE (P:=P) w t o.type e i z (eR he) hi hiz sad els.length els.length olds hol (hocell _ rfl) ad m c news hnl (hcell _ rfl) (by omega)
      (by simp only[maxLen]at hml;omega) (growslice_fits (by omega) (by rw[hib];exact hby))
     rw[←hxv,←hse,show olds.toArray++news.toArray=(olds++news).toArray from by simp]at hr
     have hvals:(els.flatten.map AV.d++ncs).length=(olds++news).length∧∀(k:Nat) c,(els.flatten.map AV.d++ncs)[k]? = some c→∃ u,(olds++news)[k]? = some u∧V F w ι c u:=by
      have ho1:=hocv.1
      simp only[Ar]at ho1
      refine⟨?_,fun k cc hk=>?_⟩
      ·have:=hcv.1;simp only[Ar,A8]at this ⊢;omega
      ·by_cases hkl:k<(els.flatten.map AV.d).length
       ·rw[AP hkl]at hk
        obtain⟨u,hu,hv⟩:=hocv.get hk
        exact⟨u,by rw[AP (by omega)];simpa using hu,hv⟩
       ·rw[AM (by omega)]at hk
        obtain⟨u,hu,hv⟩:=hcv.get hk
        exact⟨u,by rw[AM (by omega),←ho1];simpa using hu,hv⟩
     refine grown _ (C1 z.cells (grownCap w (els.length+m) els.length e-(els.length+m))) (els.flatten.map .d++ncs) _ (els.length+m) rfl rfl hvals (grownCap_ge w (els.length+m) els.length e) (grownCap_le_maxLen w (els.length+m) els.length e hml) ?_ hr
     have h1:=grownCap_ge w (els.length+m) els.length e
     simp only[EL,Ar,size_zeroCells,hzs,A8,hol,hnl,his]
     rw[←BV,←BV,show els.length+m+(grownCap w (els.length+m) els.length e-(els.length+m))=grownCap w (els.length+m) els.length e from by omega]
     exact AA _
  ·split at h
   ·rename_i hm0
    injection h with h;injection h with h1 h2;injection h2 with h2 h3;subst h1;subst h2;subst h3
    replace hm0:m=0:=hm0
    subst hm0
    obtain⟨sad,hse,hh⟩:=mT os
    have hrun:aH P (BT #[t,t] o.type #[a.eval s,a.eval x]) w=.ok (a.eval s) w:=by
     rw[hxv,hse]
     cases ad with
     |none=>exact jU he hsz _ _ _ _ _ (AA _) _
     | some ad =>
      cases sad with
      |some sad=>exact uZ he hsz _ _ _ _ _ _
      | none =>
       have hl:els.length=0:=by
        have key:∀(v:Value) (k:Nat),VD F w (.sl els) v→v=.slice none k k→els.length=0:=by
         intro v k h e
         cases h with
         |sl0=>rfl
         |sl=>cases e
        exact key _ _ hh rfl
       rw[hl]
       exact oD he hsz _ _ _ _
    exact fin _ _ F ι hrun (hR.congrC fun id=>⟨fun h=>.inl h,fun h=>h.elim (fun x=>x) (fun h=>by cases h)⟩) (.refl _ _ _) (fun _ _ h=>.inl h) (fun _ h=>by simp at h) os
   ·cases h
 ·cases h
end
end Go.Am
end
