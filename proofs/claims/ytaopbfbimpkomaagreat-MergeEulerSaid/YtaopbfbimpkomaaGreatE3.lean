/- Numbers to the base 2^32 as lists of limbs: values, canonical lists, sums, differences, products: plain arithmetic, no program in sight. No condition. -/
import Derived.Test.YtaopbfbimpkomaaGreatE2
import Derived.Scope
import Derived.Defers
open Array renaming all_eq_true_iff_forall_mem→BK,getD_eq_getD_getElem?→Bh,getElem?_append_left→Cw,getElem?_append_right→D3,getElem?_eq_getElem→AK,getElem?_replicate→B4,length_toList→BM,mapM_eq_mapM_toList→Dr,mem_of_getElem?→CD,replicate→Bx
open Bool renaming and_eq_true→AI,false_eq_true→AU,not_eq_true'→C8
open Go.Ending renaming returned→Dx
open Go.Instr renaming loadAt→Ec,sureAddr→Ck
open Go.IntKind renaming bits→C4,signed→DJ,u32→BY,u64→AY,wrap→Ee
open Go.Region renaming wanted→DY
open Go.Result renaming andThen_ok→A0
open Go.Sem renaming run_bind→A4,run_pure→Bw
open Go.Value renaming cells→DP,oneCell'→Cj
open Iff renaming rfl→EJ
open List renaming all_eq_true→AO,cons_append→B8,ext_getElem?→Ca,flatten_cons→BP,getD_eq_getElem?_getD→Ac,getElem?_eq_getElem→Aa,getElem?_eq_none→AG,getElem?_map→Ax,getElem_mem→Ak,getLast?_cons_cons→Fv,length_cons→AB,length_take→AM,mapM_cons→B7,mapM_nil→Ft,map_cons→AR,mem_cons→AD,mem_cons_of_mem→As,mem_cons_self→Av,nodup_cons→Df,replicate→Ay,replicate_succ→Dh,take_append_drop→Dp,take_of_length_le→Ai
open Nat renaming le_refl→Az,lt_or_ge→Bc,lt_succ_self→Ad,min_eq_left→Da,mul_add→BX,mul_one→CK,pow_succ→Cf
open Option renaming bind_eq_bind→CW,bind_eq_some_iff→Af,map_eq_some_iff→Ao,pure_def→Dv
open Option.some renaming injEq→AT
open Prod.mk renaming injEq→DZ
open _root_ renaming decide_eq_true_eq→AH,if_neg→Ae,if_pos→Ag
section
set_option linter.unusedVariables false
set_option linter.unusedSimpArgs false
namespace Go.Am
open RowKit (Below)
def WkR(σ σ':St):Prop:=σ=σ'∨∃ ρ,Wk σ σ' ρ
def AWP(P:Program):Code→St→(Exit→St→Prop)→Prop
 |.skip,σ,Q=>Q .normal σ
 |.region _ ops _,σ,Q=>OW P ops ops.toList σ [] fun σ' con=>Q .normal (fin σ' con)
 |.seq x y,σ,Q=>AWP P x σ fun e σ'=>match e with|.normal=>AWP P y σ' Q|e=>Q e σ'
 |.cond c x y,σ,Q=>match oev σ.Γ c with|.d (.b t)=>if t then AWP P x σ Q else AWP P y σ Q|.ub=>AWP P x σ Q∧AWP P y σ Q|_=>False
 |.block id c,σ,Q=>AWP P c σ fun e σ'=>match e with|.exit id'=>if id'=id then Q .normal σ' else Q (.exit id') σ'|e=>Q e σ'
 |.loop c,σ,Q=>∃(τ:Type) (S:τ→St) (m:τ→Nat) (x0:τ),WkR σ (S x0)∧∀ x,AWP P c (S x) fun e σ'=>match e with|.normal=>∃ y,m y<m x∧WkR σ' (S y)|e=>∃ σ2,WkR σ' σ2∧Q e σ2
 |.exit id,σ,Q=>Q (.exit id) σ
 |.ret,σ,Q=>Q .ret σ
 |.label _,σ,Q=>Q .normal σ
 |.scope c,σ,Q=>AWP P c σ fun e σ'=>match e with|.goto _=>False|e=>Q e σ'
 |_,_,_=>False
def aQk(N:Nat)(ops:Array Oper):Bool:=ops.all fun o=>match o.dst with|some d=>decide (d<N)|none=>true
def dM(N:Nat):Code→Bool
 |.region _ ops _=>aQk N ops
 |.seq x y|.cond _ x y=>dM N x&&dM N y
 |.block _ c|.loop c|.scope c=>dM N c
 |_=>true
def bDc(z:Nat→Bool)(ops:Array Oper):Bool:=ops.all fun o=>match o.dst with|some d=>!z d|none=>true
def mN(z:Nat→Bool):Code→Bool
 |.region _ ops _=>bDc z ops
 |.seq x y|.cond _ x y=>mN z x&&mN z y
 |.block _ c|.loop c|.scope c=>mN z c
 |_=>true
theorem aMj(ops:Array Oper):bDc (fun _=>false) ops=true:=by
 refine BK.2 fun o _=>?_
 cases o.dst<;>rfl
theorem xM(c:Code):mN (fun _=>false) c=true:=by
 induction c with
 |region id ops d=>exact aMj ops
 |seq x y ihx ihy=>simp[mN,ihx,ihy]
 |cond c x y ihx ihy=>simp[mN,ihx,ihy]
 |block id c ih=>exact ih
 |loop c ih=>exact ih
 |scope c ih=>exact ih
 |_=>rfl
def eA(P:Program):Code→Bool
 |.region _ ops draw=>!draw||bEk P ops
 |.seq x y|.cond _ x y=>eA P x&&eA P y
 |.block _ c|.loop c|.scope c=>eA P c
 |_=>true
theorem oK{N:Nat}{ops:Array Oper}(h:aQk N ops=true):∀(i:Nat) (o:Oper) (d:Tmp),ops[i]? = some o→o.dst=some d→d<N:=by
 intro i o d hi hd
 have:=BK.1 h o (CD hi)
 rw[hd]at this
 simpa using this
theorem vX{N:Nat}{ops:Array Oper}{z:Nat→Bool}{G:Ctx}(hz:∀ d v,G.Z d=some v→z d=true)(h:aQk N ops=true)(hnz:bDc z ops=true) :
  ∀(i:Nat) (o:Oper) (d:Tmp),ops[i]? = some o→o.dst=some d→d<N∧G.Z d=none:=by
 intro i o d hi hd
 refine⟨oK h i o d hi hd,?_⟩
 have:=BK.1 hnz o (CD hi)
 rw[hd]at this
 cases hZ:G.Z d with
 |none=>rfl
 |some v=>have h2:=hz d v hZ;simp[h2]at this
section
variable {P:Program} {G:Ctx} {N:Nat} {ds:List Deferred}
theorem oC{σ σ':St}{a:Act}{w:World}(hk:WkR σ σ')(h:SR G N ds σ a w):SR G N ds σ' a w:=by
 rcases hk with rfl|⟨ρ,hk⟩
 ·exact h
 ·exact aAo hk h
theorem bQd{f:FuncId}{args:Array Operand}{dst:Option Tmp}{σ:St}{con:List Nat}{k k':St→List Nat→Prop}(hk:∀ σ con,k σ con→k' σ con)(h:OC P f args dst σ con k):OC P f args dst σ con k':=by
 unfold OC at h ⊢
 split
 ·rename_i hm
  rw[Ag hm]at h
  split
  ·rename_i x rest hargs
   simp only[hargs]at h
   split
   ·rename_i id hh hx
    simp only[hx]at h
    split
    ·rename_i ho hH
     simp only[hH]at h
     rcases h with ⟨g,h1,h2,h3,h4⟩|⟨h1,h2,ds,ho',r,h3,h4,h5,h6,h7⟩|⟨p0,ν,h0,ro,hs,ds,ro',hs',r,p1,p2,p3,p4,p5,p6,p7,p8,p9,p10⟩
     ·exact .inl ⟨g,h1,h2,h3,hk _ _ h4⟩
     ·exact .inr (.inl ⟨h1,h2,ds,ho',r,h3,h4,h5,h6,hk _ _ h7⟩)
     ·exact .inr (.inr ⟨p0,ν,h0,ro,hs,ds,ro',hs',r,p1,p2,p3,p4,p5,p6,p7,p8,p9,hk _ _ p10⟩)
    ·rename_i hH;simp only[hH]at h
   ·rename_i hx;simp only[hx]at h
  ·rename_i hargs;simp only[hargs]at h
 ·rename_i hm
  rw[Ae hm]at h
  rcases h with ⟨h0,h1,ds,v,hs,h2,h3,h4,h5⟩|h
  ·exact .inl ⟨h0,h1,ds,v,hs,h2,h3,h4,hk _ _ h5⟩
  refine .inr ?_
  split
  ·rename_i g id hargs
   simp only[hargs]at h
   split
   ·rename_i es hH
    simp only[hH]at h
    exact⟨h.1,h.2.1,h.2.2.1,hk _ _ h.2.2.2⟩
   ·rename_i hne
    exfalso
    split at h
    ·rename_i es hH;exact hne _ hH
    ·exact h
  ·rename_i hne
   split at h
   ·rename_i g id hargs;exact(hne _ _ hargs).elim
   ·obtain⟨ds,r,h1,h2,h3⟩:=h
    exact⟨ds,r,h1,h2,hk _ _ h3⟩
theorem bQe{o:Oper}{σ:St}{con:List Nat}{k k':St→List Nat→Prop}(hk:∀ σ con,k σ con→k' σ con)(h:O1 P o σ con k):O1 P o σ con k':=by
 unfold O1 at h
 unfold O1
 split at h
 ·rename_i t x hop
  split at h
  ·rename_i v hv;(try simp only[hv]);exact hk _ _ h
  ·exact h.elim
 ·rename_i t m x ok hop
  split at h
  ·rename_i v hv;(try simp only[hv]);exact hk _ _ h
  ·exact h.elim
 ·rename_i x hop
  split at h
  ·rename_i v hv;(try simp only[hv]);exact hk _ _ h
  ·exact h.elim
 ·rename_i x s hop
  refine⟨h.1,?_⟩
  have h:=h.2
  split at h
  ·rename_i id kd es hv
   (try simp only[hv])
   exact⟨fun e=>hk _ _ (h.1 e),fun j e he=>hk _ _ (h.2 j e he)⟩
  ·exact h.elim
 ·rename_i t ad x hop
  split at h
  ·rename_i id ho hv;(try simp only[hv]);exact hk _ _ h
  ·exact h.elim
 ·rename_i t m x v hop
  split at h
  ·rename_i id ho hv;(try simp only[hv]);exact hk _ _ h
  ·exact h.elim
 ·rename_i t m x v hop
  split at h
  ·rename_i id ho hv;(try simp only[hv]);exact hk _ _ h
  ·exact h.elim
 ·rename_i f args ts hop
  exact bQd hk h
 ·rename_i t args ts hop
  split at h
  ·rename_i f cs hc
   obtain⟨ds,r,h1,h2,h3⟩:=h
   (try simp only[hc])
   exact⟨ds,r,h1,h2,hk _ _ h3⟩
  ·exact h.elim
 ·rename_i args ts hop
  split at h
  ·rename_i s x t t' h1 h2
   obtain⟨e,h⟩:=h
   (try simp only[h1,h2])
   refine⟨e,?_⟩
   split at h
   ·rename_i av nb cn hv;(try simp only[hv]);exact hk _ _ h
   ·exact h.elim
  ·exact h.elim
 ·rename_i args ts hop
  split at h
  ·rename_i m x t kt h1 h2
   (try simp only[h1,h2])
   split at h
   ·rename_i id ho hv;(try simp only[hv]);exact hk _ _ h
   ·exact h.elim
  ·exact h.elim
 ·rename_i h1 h2 h3 h4 h5 h6 h7 h8
  obtain⟨hkd,h⟩:=h
  refine⟨hkd,?_⟩
  split at h
  ·rename_i av nb hv;(try simp only[hv]);exact hk _ _ h
  ·exact h.elim
theorem aKb{ops:Array Oper}{k k':St→List Nat→Prop}(hk:∀ σ con,k σ con→k' σ con):∀(l:List Oper) (σ:St) (con:List Nat),OW P ops l σ con k→OW P ops l σ con k'
 |[],σ,con,h=>hk _ _ h
 |o::l,σ,con,h=>by
  unfold OW at h ⊢
  split at h
  ·exact bQe (fun σ con=>aKb hk l σ con) h
  ·exact aKb hk l _ _ h
  ·exact h.elim
theorem aEq:∀(c:Code) {Q Q':Exit→St→Prop} {σ:St},(∀ e σ,Q e σ→Q' e σ)→AWP P c σ Q→AWP P c σ Q':=by
 intro c
 induction c with
 |skip=>intro Q Q' σ hq h;exact hq _ _ h
 |region id ops draw=>intro Q Q' σ hq h;exact aKb (fun σ con h=>hq _ _ h) _ _ _ h
 |seq x y ihx ihy =>
  intro Q Q' σ hq h
  refine ihx (fun e σ h=>?_) h
  cases e with
  |normal=>exact ihy hq h
  |_=>exact hq _ _ h
 |cond c x y ihx ihy =>
  intro Q Q' σ hq h
  unfold AWP at h ⊢
  split
  ·rename_i t ht
   simp only[ht]at h
   cases t
   ·exact ihy hq h
   ·exact ihx hq h
  ·rename_i ht
   simp only[ht]at h
   exact⟨ihx hq h.1,ihy hq h.2⟩
  ·rename_i h1 h2
   exfalso
   split at h
   ·rename_i t ht;exact h1 _ ht
   ·rename_i ht;exact h2 ht
   ·exact h
 |block id c ih =>
  intro Q Q' σ hq h
  refine ih (fun e σ h=>?_) h
  cases e with
  |exit id' =>
   simp only at h ⊢
   split
   ·rename_i he;rw[Ag he]at h;exact hq _ _ h
   ·rename_i he;rw[Ae he]at h;exact hq _ _ h
  |_=>exact hq _ _ h
 |loop c ih =>
  intro Q Q' σ hq h
  obtain⟨τ,S,m,x0,h0,h1⟩:=h
  refine⟨τ,S,m,x0,h0,fun x=>ih (fun e σ h=>?_) (h1 x)⟩
  cases e with
  |normal=>exact h
  |_=>exact let ⟨σ2,hw,h⟩:=h;⟨σ2,hw,hq _ _ h⟩
 |exit id=>intro Q Q' σ hq h;exact hq _ _ h
 |ret=>intro Q Q' σ hq h;exact hq _ _ h
 |label l=>intro Q Q' σ hq h;exact hq _ _ h
 |scope c ih =>
  intro Q Q' σ hq h
  refine ih (fun e σ h=>?_) h
  cases e with
  |goto l=>exact h
  |_=>exact hq _ _ h
 |_=>intro Q Q' σ hq h;exact h.elim
theorem aEb{c:Code}{σ:St}{Q:Exit→St→Prop}{τ:Type}(S:τ→St)(m:τ→Nat)(x0:τ)(h0:WkR σ (S x0))
  (h:∀ x,AWP P c (S x) fun e σ'=>match e with|.normal=>∃ y,m y<m x∧WkR σ' (S y)|e=>Q e σ'):AWP P (.loop c) σ Q :=
 ⟨τ,S,m,x0,h0,fun x=>aEq c (fun e σ h=>by
  cases e with
  |normal=>exact h
  |_=>exact⟨σ,.inl rfl,h⟩) (h x)⟩
def LU(P:Program)(c:Code):Nat→St→(Exit→St→Prop)→Prop
 |0,_,_=>False
 |n+1,σ,Q=>AWP P c σ fun e σ'=>match e with|.normal=>LU P c n σ' Q|e=>Q e σ'
theorem bNf{c:Code}{Q:Exit→St→Prop}{n:Nat}{σ:St}(h:LU P c n σ Q):AWP P (.loop c) σ Q:=by
 refine⟨{ p:Nat×St // LU P c p.1 p.2 Q },fun p=>p.1.2,fun p=>p.1.1,⟨(n,σ),h⟩,.inl rfl,fun x=>?_⟩
 obtain⟨⟨n,σ⟩,hx⟩:=x
 cases n with
 |zero=>exact hx.elim
 |succ n =>
  refine aEq c (fun e σ h=>?_) hx
  cases e with
  |normal=>exact⟨⟨(n,σ),h⟩,Ad n,.inl rfl⟩
  |_=>exact⟨σ,.inl rfl,h⟩
theorem aSr{rd:Bool}{WW:Code→(Exit→Act→World→Prop)→Act→World→Prop}(hW:WpR P rd WW)(hm:P.follows .mixedOrders=true){z:Nat→Bool}(hz:∀ d v,G.Z d=some v→z d=true) :
  ∀(c:Code) (Q:Exit→St→Prop) (σ:St) (a:Act) (w:World),dM N c=true→eA P c=true→mN z c=true→(rd=true→nV c=true)→AWP P c σ Q→SR G N ds σ a w →
  WW c (fun e a' w'=>∃ σ',Q e σ'∧SR G N ds σ' a' w') a w:=by
 intro c
 induction c with
 |skip=>intro Q σ a w _ _ _ _ h hs;exact hW.skip ⟨σ,h,hs⟩
 |region id ops draw =>
  intro Q σ a w hd hl hnz hnd h hs
  exact vT hW (Q:=Q .normal) hm (vX hz hd hnz) hnd (fun hdr=>by simpa[eA,hdr]using hl) hs h fun σ' a' w' hq hs'=>⟨σ',hq,hs'⟩
 |seq x y ihx ihy =>
  intro Q σ a w hd hl hnz hnd h hs
  simp only[dM,eA,mN,nV,AI]at hd hl hnz hnd
  refine hW.seq (hW.mono (ihx _ σ a w hd.1 hl.1 hnz.1 (fun e=>(hnd e).1) h hs) ?_)
  rintro e a' w' ⟨σ',hq,hs'⟩
  cases e with
  |normal=>exact ihy Q σ' a' w' hd.2 hl.2 hnz.2 (fun e=>(hnd e).2) hq hs'
  |_=>exact⟨σ',hq,hs'⟩
 |cond c x y ihx ihy =>
  intro Q σ a w hd hl hnz hnd h hs
  simp only[dM,eA,mN,nV,AI]at hd hl hnz hnd
  unfold AWP at h
  split at h
  rotate_left
  ·rename_i ht
   have hc:∃ t,a.eval c=.bool t:=by
    obtain⟨_,_,F,ι,_,_,hV,_⟩:=hs
    have:=fI (Γ:=σ.Γ) (a:=a) (x:=c) (F:=F) (w:=w) (ι:=ι) fun t _=>hV t
    rw[ht]at this
    generalize a.eval c=v at this
    cases this with|ub t=>exact⟨t,rfl⟩
   obtain⟨t,hc⟩:=hc
   refine hW.cond hc ?_
   cases t
   ·exact ihy Q σ a w hd.2 hl.2 hnz.2 (fun e=>(hnd e).2) h.2 hs
   ·exact ihx Q σ a w hd.1 hl.1 hnz.1 (fun e=>(hnd e).1) h.1 hs
  ·exact h.elim
  ·rename_i t ht
   have hc:a.eval c=.bool t:=by
    obtain⟨_,_,F,ι,_,_,hV,_⟩:=hs
    have:=fI (Γ:=σ.Γ) (a:=a) (x:=c) (F:=F) (w:=w) (ι:=ι) fun t _=>hV t
    rw[ht]at this
    generalize a.eval c=v at this
    cases this with|d _ _ h=>cases h;rfl
   refine hW.cond hc ?_
   cases t
   ·exact ihy Q σ a w hd.2 hl.2 hnz.2 (fun e=>(hnd e).2) h hs
   ·exact ihx Q σ a w hd.1 hl.1 hnz.1 (fun e=>(hnd e).1) h hs
 |block id c ih =>
  intro Q σ a w hd hl hnz hnd h hs
  refine hW.block (hW.mono (ih _ σ a w hd hl hnz hnd h hs) ?_)
  rintro e a' w' ⟨σ',hq,hs'⟩
  cases e with
  |exit id' =>
   simp only[Exit.inBlock]at hq ⊢
   split at hq
   ·rename_i he;rw[Ag he];exact⟨σ',hq,hs'⟩
   ·rename_i he;rw[Ae he];exact⟨σ',hq,hs'⟩
  |_=>exact⟨σ',hq,hs'⟩
 |loop c ih =>
  intro Q σ a w hd hl hnz hnd h hs
  obtain⟨τ,S,m,x0,hk,hround⟩:=h
  refine hW.loop (fun n a w=>∃ x,m x=n∧SR G N ds (S x) a w) ⟨m x0,x0,rfl,oC hk hs⟩ ?_
  rintro n a w ⟨x,rfl,hsx⟩
  refine hW.mono (ih _ (S x) a w hd hl hnz hnd (hround x) hsx) ?_
  rintro e a' w' ⟨σ',hq,hs'⟩
  cases e with
  |normal =>
   obtain⟨y,hlt,hk⟩:=hq
   exact⟨m y,hlt,y,rfl,oC hk hs'⟩
  |_=>exact let ⟨σ2,hw,hq⟩:=hq;⟨σ2,hq,oC hw hs'⟩
 |exit id=>intro Q σ a w _ _ _ _ h hs;exact hW.exit ⟨σ,h,hs⟩
 |ret=>intro Q σ a w _ _ _ _ h hs;exact hW.ret ⟨σ,h,hs⟩
 |label l=>intro Q σ a w _ _ _ _ h hs;exact hW.label ⟨σ,h,hs⟩
 |scope c ih =>
  intro Q σ a w hd hl hnz hnd h hs
  have hrd:rd=false:=by
   cases rd with
   |false=>rfl
   |true=>exact absurd (hnd rfl) (by simp[nV])
  refine hW.scope hrd (hW.mono (ih _ σ a w hd hl hnz (fun e=>by rw[hrd]at e;cases e) h hs) ?_)
  rintro e a' w' ⟨σ',hq,hs'⟩
  cases e with
  |goto l=>exact hq.elim
  |_=>exact⟨σ',hq,hs'⟩
 |_=>intro Q σ a w _ _ _ _ h;exact h.elim
theorem gS(hm:P.follows .mixedOrders=true)(hZ:∀ d,G.Z d=none)(c:Code)(Q:Exit→St→Prop)(σ:St)(a:Act)(w:World)(hd:dM N c=true)(hl:eA P c=true)(h:AWP P c σ Q)(hs:SR G N ds σ a w) :
  c.wp P (fun e a' w'=>∃ σ',Q e σ'∧SR G N ds σ' a' w') a w :=
 aSr (WpR.plain P) hm (z:=fun _=>false) (fun d v e=>by rw[hZ]at e;cases e) c Q σ a w hd hl (xM c) (fun e=>by cases e) h hs
def mE(P:Program)(σ:St):ResultVar→Option AV
 |.tmp t=>some (σ.Γ t)
 |.cell ad t=>wN P σ.H t (σ.Γ ad)
def mW(P:Program)(rs:List ResultVar)(σ:St):Option D :=
 (rs.mapM (mE P σ)).bind fun avs=>(iB σ.H avs).map fun l=>match l with|[x]=>x|l=>.tp l
theorem qC{fn:Func}{σ:St}{a:Act}{w:World}{r:D}{F:Nat→Prop}{ι:Nat→Option Nat}(hR:HR G F w ι bX σ.H)(hV:∀ t,V F w ι (σ.Γ t) (a.tmps.getD t undef))(h:mW P fn.results.toList σ=some r) :
  ∃ v,(results fn a.tmps).run P w=.ok v w∧VD (fun b=>F b∨∃ id,ι id=some b) w r v:=by
 obtain⟨avs,havs,h⟩:=Af.1 h
 obtain⟨l,hl,rfl⟩:=Ao.1 h
 have hrun:∀(rs:List ResultVar) (avs:List AV),rs.mapM (mE P σ)=some avs→∃ vs:List Value,(rs.mapM (m:=Sem) fun|.tmp t=>pure (a.tmps.getD t undef)|.cell ad t=>do loadVar t (←asAddr (a.tmps.getD ad undef))).run P w=.ok vs w ∧
   vs.length=avs.length∧∀(k:Nat) c v,avs[k]? = some c→vs[k]? = some v→V F w ι c v:=by
  intro rs
  induction rs with
  |nil=>intro avs h;simp at h;subst h;exact⟨[],by simp,rfl,fun k c v h=>by simp at h⟩
  |cons x rs ih =>
   intro avs h
   simp only[B7,CW,Af,Dv,AT]at h
   obtain⟨av,hav,avs',havs',rfl⟩:=h
   obtain⟨vs,h1,h2,h3⟩:=ih avs' havs'
   have hx:∃ v,((match x with|.tmp t=>pure (a.tmps.getD t undef)|.cell ad t=>do loadVar t (←asAddr (a.tmps.getD ad undef))):Sem Value).run P w=.ok v w∧V F w ι av v:=by
    cases x with
    |tmp t=>simp only[mE,AT]at hav;subst hav;exact⟨_,by simp,hV t⟩
    |cell ad t =>
     simp only[mE]at hav
     obtain⟨u,hu,hv⟩:=aAe (P:=P) hR (fun _ _ h=>h) hav (hV ad)
     refine⟨u,?_,hv⟩
     show(do loadVar t (←asAddr (a.tmps.getD ad undef)):Sem Value).run P w=_
     simp only[Ec]at hu
     generalize a.tmps.getD ad undef=p at hu ⊢
     cases p with
     |pointer q=>cases q with
      |some q=>simpa[Ck,asAddr]using hu
      |none=>simp[Ck,stuck,Sem.run]at hu
     |_=>simp[Ck,stuck,Sem.run]at hu
   obtain⟨v,hv,hvv⟩:=hx
   refine⟨v::vs,?_,by simp[h2],fun k c u hc hu=>?_⟩
   ·simp only[B7,A4,hv,A0,h1,Bw]
   ·rcases k with _|k
    ·simp at hc hu;subst hc;subst hu;exact hvv
    ·exact h3 k c u (by simpa using hc) (by simpa using hu)
 obtain⟨vs,h1,h2,h3⟩:=hrun _ _ havs
 obtain⟨q1,q2⟩:=jA _ _ _ hl
 have hVD:∀(k:Nat) d v,l[k]? = some d→vs[k]? = some v→VD (fun b=>F b∨∃ id,ι id=some b) w d v:=by
  intro k d v hd hv
  obtain⟨c,hc,hf⟩:=q2 k d hd
  refine(wY hR (fun _ _ h=>h) 8 c v d hf (h3 k c v hc hv)).1.mono ?_
  rintro b (hb|⟨id,hid,hb⟩)
  ·exact .inl hb
  ·exact .inr ⟨id,hb⟩
 have hres:(results fn a.tmps).run P w=.ok (if h:vs.toArray.size=1 then vs.toArray[0]else .tuple vs.toArray) w:=by
  simp only[results,Dr,A4,Sem.run_map]
  erw [h1]
  simp
 refine⟨_,hres,?_⟩
 have hlen:l.length=vs.length:=by omega
 match l,hlen,hVD with
 |[x],hlen,hVD =>
  match vs,hlen,hVD with
  |[v],_,hVD=>exact hVD 0 x v rfl rfl
 |[],hlen,hVD =>
  have:vs=[]:=List.eq_nil_of_length_eq_zero (by simpa using hlen.symm)
  subst this
  exact .tp _ _ rfl fun k c v h=>by simp at h
 |x::y::l,hlen,hVD =>
  have hne:¬vs.toArray.size=1:=by simp at hlen ⊢;omega
  rw[dif_neg hne]
  exact .tp _ _ (by simpa using hlen) fun k c v hc hv=>hVD k c v hc (by simpa using hv)
theorem iX{fn:Func}{σ:St}{a:Act}{w:World}{r:D}(hs:SR G N ds σ a w)(h:mW P fn.results.toList σ=some r) :
  ∃ v,(results fn a.tmps).run P w=.ok v w∧VD (fun b=>G.A b∨G.M b∨(G.W.heap.size≤b∧b<w.heap.size)) w r v:=by
 obtain⟨_,_,F,ι,hR,hdom,hV,_⟩:=hs
 obtain⟨v,h1,h2⟩:=qC hR hV h
 refine⟨v,h1,h2.mono ?_⟩
 rintro b (hb|⟨id,hb⟩)
 ·rcases hR.F_ok b hb with h|h|h
  ·exact .inl h
  ·exact .inr (.inl h)
  ·exact .inr (.inr ⟨h,hR.F_lt b hb⟩)
 ·rcases(hR.place id b hb).1 with h|h
  ·exact .inr (.inl h)
  ·exact .inr (.inr ⟨h,hR.ι_lt hb⟩)
def Γ0(args:List D)(N:Nat):Nat→AV:=fun t=>match args[t]? with|some d=>aT d|none=>if t<N then .un else .un
def St0(args:List D)(N:Nat):St:=⟨Γ0 args N,fun _=>none,1⟩
theorem SR0{A:Nat→Prop}{W:World}{vs:Array Value}{args:List D}(hA:∀ b,A b→b<W.heap.size)(hl:args.length=vs.size)(hv:∀(k:Nat) d v,args[k]? = some d→vs[k]? = some v→VD A W d v)(hN:args.length≤N) :
  SR ⟨W,A,bX,fun _=>True,fun _=>none⟩ N [] (St0 args N) { tmps:=vs++Bx (N-vs.size) undef,defers:=[] } W:=by
 refine⟨fun _ _=>rfl,fun h=>by simp[St0]at h,A,fun _=>none,⟨.refl _ _ _,hA,fun b h=>.inl h,fun _ _ h=>by simp at h,fun _ _ _ h=>by simp at h,fun _ _ _ h=>by simp at h,fun _ _ _ _ _ h=>by simp at h⟩,fun id=>by simp[St0],fun t=>?_,⟨by simp;omega,fun _ _ h=>by cases h⟩,rfl,fun _ h=>by simp at h⟩
 simp only[St0,Γ0]
 by_cases ht:t<args.length
 ·rw[Aa ht]
  have ht':t<vs.size:=by omega
  have:(vs++Bx (N-vs.size) undef).getD t undef=vs[t]:=by
   simp only[Bh]
   rw[Cw ht',AK ht'];rfl
  rw[this]
  exact sN (hv t _ _ (Aa ht) (AK ht'))
 ·rw[AG (by omega)]
  have:(vs++Bx (N-vs.size) undef).getD t undef=undef:=by
   simp only[Bh]
   rw[D3 (by omega)]
   by_cases h2:t-vs.size<N-vs.size
   ·rw[B4,Ag h2];rfl
   ·rw[B4,Ae h2];rfl
  rw[this]
  simp only[ite_self]
  exact .un
theorem aZ {f N:Nat} {fn:Func} {c:Code} {args:List D} {r:D} (hm:P.follows .mixedOrders=true) (hf:P.funcs[f]? = some fn) (hb:fn.body=some c) (hname:(fn.name == "runtime.NumGoroutine")=false) (hN:fn.ntmps=N)
  (hd:dM N c=true) (hl':eA P c=true) (ha:args.length≤N) (h:AWP P c (St0 args N) fun e σ=>(e=.normal∨e=.ret)∧mW P fn.results.toList σ=some r):Spec P f args r:=by
 intro A W vs hA hl hv
 have hn:¬ fn.name = "runtime.NumGoroutine" := by simpa using hname
 refine⟨fun w=>by simp[callFunc,hf,hn,hb],?_⟩
 refine calls_of_wp hf hb ?_
 subst hN
 refine wp_mono (gS hm (fun _=>rfl) c _ _ _ _ hd hl' h (SR0 hA hl hv ha)) ?_
 rintro e a w ⟨σ,⟨he,hr⟩,hs⟩
 obtain⟨v,hrun,hvd⟩:=iX hs hr
 obtain⟨_,_,F,ι,hR,_,_,_,hdf,_⟩:=hs
 have hend:a.defers=[]∧∃ v,(results fn a.tmps).run P w=.ok v w∧∃ v',Dx v=.returned v'∧Below W.heap.size W w∧VD (fun b=>A b∨(W.heap.size≤b∧b<w.heap.size)) w r v':=by
  refine⟨hdf,v,hrun,v,rfl,⟨hR.kept.os,hR.kept.tape,hR.kept.output,hR.kept.size,fun k hk=>hR.kept.block k hk (fun h=>h)⟩,hvd.mono ?_⟩
  rintro b (h|h|h)
  ·exact .inl h
  ·exact h.elim
  ·exact .inr h
 rcases he with rfl|rfl<;>exact hend
def lG(P:Program)(g:FuncId):Prop :=
 (∀ w,(callFunc g #[]).run P w=.ok (.enter g #[]) w)∧∀ w,CallsD P g #[] .returning w fun e u' w'=>e=.returned (.tuple #[])∧u'=.returning∧w'=w
def tW:Code→Option FuncId
 |.region _ ops false=>match ops.toList with
  |[{ dst:=none,op:=.defer { callee:=.value (.func g),args:=args,argTypes:=_ },guard:=none,.. }]=>if args.isEmpty then some g else none
  |_=>none
 |_=>none
theorem aEm{σ:St}{a:Act}{w:World}(d:Deferred)(h:SR G N ds σ a w):SR G N (d::ds) σ { a with defers:=d::a.defers } w:=by
 obtain⟨h1,h2,F,ι,hR,hdom,hV,hN,hds,hp⟩:=h
 exact⟨h1,h2,F,ι,hR,hdom,hV,hN,by rw[hds],hp⟩
theorem uN{c:Code}{g:FuncId}{a:Act}{w:World}{Q:Exit→Act→World→Prop}(h:tW c=some g)(hQ:Q .normal { a with defers:={ target:=.fn (.func g) #[],args:=#[] }::a.defers } w):c.wp P Q a w:=by
 unfold tW at h
 split at h
 case h_2=>cases h
 rename_i id ops
 split at h
 case h_2=>cases h
 rename_i g' args ts ty pos after hops
 split at h
 case isFalse=>cases h
 rename_i hargs
 injection h with h;subst h
 refine wp_region_list ?_
 rw[hops]
 unfold wpList
 have hargs':args=#[]:=by simpa using hargs
 subst hargs'
 have hw:∀ y,DY { dst:=none,op:=.defer { callee:=.value (.func g'),args:=#[],argTypes:=ts },type:=ty,pos:=pos,after:=after,guard:=none } y=true:=fun y=>by simp[DY]
 rw[Ag (hw _)]
 refine .inl ?_
 unfold Oper.wp
 have hfe:a.eval (.func g')=.func (.func g') #[] #[]:=rfl
 simp[execOp,resolve,hfe,Deferred.ofValue,Oper.upon_defer,wpList,Act.put]
 exact hQ
theorem nH {f N:Nat} {fn:Func} {g:FuncId} {r0 rd rest:Code} {args:List D} {r:D} (hm:P.follows .mixedOrders=true) (hf:P.funcs[f]? = some fn) (hb:fn.body=some (.seq r0 (.seq rd rest))) (hname:(fn.name == "runtime.NumGoroutine")=false)
  (hN:fn.ntmps=N) (hd0:dM N r0=true) (hl0:eA P r0=true) (hd1:dM N rest=true) (hl1:eA P rest=true) (hg:tW rd=some g) (hrec:lG P g) (ha:args.length≤N)
  (h:AWP P r0 (St0 args N) fun e σ0=>e=.normal∧AWP P rest σ0 fun e σ=>(e=.normal∨e=.ret)∧mW P fn.results.toList σ=some r):Spec P f args r:=by
 intro A W vs hA hl hv
 have hn:¬ fn.name = "runtime.NumGoroutine" := by simpa using hname
 refine⟨fun w=>by simp[callFunc,hf,hn,hb],?_⟩
 refine calls_of_wp_defers hf hb ?_
 subst hN
 refine wp_seq (wp_mono (gS hm (fun _=>rfl) r0 _ _ _ _ hd0 hl0 h (SR0 hA hl hv ha)) ?_)
 rintro e a w ⟨σ0,⟨rfl,h1⟩,hs0⟩
 refine wp_seq (uN hg ?_)
 refine wp_mono (gS hm (fun _=>rfl) rest _ _ _ _ hd1 hl1 h1 (aEm { target:=.fn (.func g) #[],args:=#[] } hs0)) ?_
 rintro e a w ⟨σ,⟨he,hr⟩,hs⟩
 obtain⟨v,hrun,hvd⟩:=iX hs hr
 obtain⟨_,_,F,ι,hR,_,_,_,hdf,_⟩:=hs
 have hend:Leaves P fn a.tmps (fun e w'=>∃ v,e=.returned v∧Below W.heap.size W w'∧VD (fun b=>A b∨(W.heap.size≤b∧b<w'.heap.size)) w' r v) a.defers .returning w:=by
  rw[hdf]
  refine leaves_cons (by simp) (args:=#[]) (f:=g) ?_ ((hrec.2 w).mono ?_)
  ·have:=hrec.1 w
   simpa[invoke]using this
  ·rintro e u' w' ⟨rfl,rfl,rfl⟩
   refine⟨v,by simpa[settle]using hrun,v,rfl,⟨hR.kept.os,hR.kept.tape,hR.kept.output,hR.kept.size,fun k hk=>hR.kept.block k hk (fun h=>h)⟩,hvd.mono ?_⟩
   rintro b (h|h|h)
   ·exact .inl h
   ·exact h.elim
   ·exact .inr h
 rcases he with rfl|rfl<;>exact hend
def St1(h:AV)(o:HO)(args:List D)(N:Nat):St:=⟨fun t=>match t with|0=>h|t+1=>Γ0 args N t,fun id=>if id=0 then some o else none,1⟩
theorem SR1{A:Nat→Prop}{W:World}{vs:Array Value}{args:List D}{h:AV}{o:HO}{b:Nat}(hA:∀ b,A b→b<W.heap.size)(hAb:¬A b)(hb:b<W.heap.size)(ho:∃ ob,W.heap[b]? = some ob∧CR A W (ι1 b) o ob)
  (hl:args.length+1=vs.size) (h0:∃ v,vs[0]? = some v∧V A W (ι1 b) h v) (hv:∀(k:Nat) d v,args[k]? = some d→vs[k+1]? = some v→VD A W d v) (hN:args.length+1≤N) :
  SR ⟨W,A,(·=b),(·=b),fun _=>none⟩ N [] (St1 h o args N) { tmps:=vs++Bx (N-vs.size) undef,defers:=[] } W:=by
 have hι:∀ id b',ι1 b id=some b'→id=0∧b'=b:=fun id b' e=>by
  unfold ι1 at e
  split at e
  ·injection e with e;exact⟨by assumption,e.symm⟩
  ·cases e
 have hH:∀ id o',(if id=0 then some o else none)=some o'→id=0∧o'=o:=fun id o' e=>by
  split at e
  ·injection e with e;exact⟨by assumption,e.symm⟩
  ·cases e
 refine⟨fun id h=>by simp only[St1]at h ⊢;rw[Ae (by omega)],fun h=>by simp[St1]at h,A,ι1 b,⟨.refl _ _ _,hA,fun b h=>.inl h,fun id b' e=>?_,fun id b' o' e e'=>?_,fun id id' b' e e' _ _=>?_,fun id id' b' o1 o2 e e' _ h1 h2=>?_⟩,fun id=>?_,fun t=>?_,⟨by simp;omega,fun _ _ h=>by cases h⟩,rfl,fun b' e=>(hι 0 b' e).2⟩
 ·obtain⟨_,rfl⟩:=hι id b' e;exact⟨.inl rfl,hb,fun _=>hAb⟩
 ·obtain⟨_,rfl⟩:=hι id b' e;obtain⟨_,rfl⟩:=hH id o' e';exact ho
 ·rw[(hι _ _ e).1,(hι _ _ e').1]
 ·rw[(hH _ _ h1).2,(hH _ _ h2).2];exact Az _
 ·simp only[St1,ι1]
  by_cases hid:id=0<;>simp[hid]
 ·have hget:∀ k,k<vs.size→(vs++Bx (N-vs.size) undef).getD k undef=vs.getD k undef:=fun k hk=>by
   simp only[Bh];rw[Cw hk]
  have hget2:∀ k,vs.size≤k→(vs++Bx (N-vs.size) undef).getD k undef=undef:=fun k hk=>by
   simp only[Bh]
   rw[D3 hk]
   by_cases h2:k-vs.size<N-vs.size
   ·rw[B4,Ag h2];rfl
   ·rw[B4,Ae h2];rfl
  cases t with
  |zero =>
   obtain⟨v,hv0,hV0⟩:=h0
   show V A W (ι1 b) h _
   rw[show(({ tmps:=vs++Bx (N-vs.size) undef,defers:=[] }:Act).tmps.getD 0 undef)=v from by
    rw[hget 0 (by omega)];simp[Bh,hv0]]
   exact hV0
  |succ t =>
   show V A W (ι1 b) (Γ0 args N t) _
   simp only[Γ0]
   by_cases ht:t<args.length
   ·have ht':t+1<vs.size:=by omega
    rw[Aa ht,hget _ ht',Bh,AK ht']
    exact sN (hv t _ _ (Aa ht) (AK ht'))
   ·rw[AG (by omega),hget2 _ (by omega)]
    simp only[ite_self]
    exact .un
theorem aMh {f N:Nat} {fn:Func} {c:Code} {h:AV} {o o':HO} {args:List D} {r:D} (hf:P.funcs[f]? = some fn) (hb:fn.body=some c) (hname:(fn.name == "runtime.NumGoroutine")=false) (hN:fn.ntmps=N)
  (ha:args.length+1≤N) (hmap:∃ k es,o=.map k es) (hmap':∃ k es,o'=.map k es) (hno':pG o'=true) (hnm:NM r)
  (hA:∀(G:Ctx) (a:Act) (w:World),(∀ d,G.Z d=none)→SR G N [] (St1 h o args N) a w→c.wp P (fun e a' w'=>∃ σ,((e=.normal∨e=.ret)∧mW P fn.results.toList σ=some r∧σ.H 0=some o')∧SR G N [] σ a' w') a w):mP P f h o args o' r:=by
 intro A W vs b hAl hAb hbl hob hl hv0 hv
 have hn:¬ fn.name = "runtime.NumGoroutine" := by simpa using hname
 refine⟨fun w=>by simp[callFunc,hf,hn,hb],?_⟩
 refine calls_of_wp hf hb ?_
 subst hN
 have hsr:=SR1 (N:=fn.ntmps) hAl hAb hbl hob hl hv0 hv ha
 refine wp_mono (hA _ _ _ (fun _=>rfl) hsr) ?_
 rintro e a w ⟨σ,⟨he,hr,hH0⟩,hs⟩
 obtain⟨_,_,F,ι,hR,hdom,hVs,_,hdf,hp⟩:=hs
 obtain⟨v,hrun,hvd⟩:=qC hR hVs hr
 obtain⟨b',hb'⟩:=(hdom 0).2 (by rw[hH0];rfl)
 have hbb:=hp b' hb'
 simp only at hbb
 subst hbb
 obtain⟨ob',hob',hcr⟩:=hR.obj 0 b' o' hb' hH0
 have hnF:¬F b':=(hR.place 0 b' hb').2.2 (fun x=>x)
 have hFA:∀ k,F k→A k∨(W.heap.size≤k∧k<w.heap.size):=fun k hk=>by
  rcases hR.F_ok k hk with h|h|h
  ·exact .inl h
  ·simp only at h;subst h;exact(hnF hk).elim
  ·exact .inr ⟨h,hR.F_lt k hk⟩
 have hend:a.defers=[]∧∃ v,(results fn a.tmps).run P w=.ok v w∧∃ v' ob',Dx v=.returned v'∧Kept (·=b') W.heap.size W w∧w.heap[b']? = some ob' ∧
   (∀ cur e,W.heap[b']? = some (.cells cur e (0,0))→∃ cur',ob'=.cells cur' e (0,0)∧cur'.size=cur.size) ∧
   CR (fun k=>A k∨(W.heap.size≤k∧k<w.heap.size)) w (ι1 b') o' ob'∧VD (fun k=>A k∨(W.heap.size≤k∧k<w.heap.size)) w r v':=by
  refine⟨hdf,v,hrun,v,ob',rfl,hR.kept,hob',fun cur e he=>?_,(aSq hno' hcr).step ⟨hFA,fun _ _=>rfl,fun _ _ h=>h,fun _ _ cur _ _ h=>⟨cur,h,rfl⟩⟩,(bXl hvd hnm).mono ?_⟩
  rotate_left
  ·rintro c ⟨hc|⟨id,h2⟩,hnc⟩
   ·exact hFA c hc
   ·rcases(hR.place id c h2).1 with h|h
    ·simp only at h;subst h
     have:=hR.inj id 0 c h2 hb' (fun x=>x) (fun x=>x)
     subst this
     obtain⟨k,es,rfl⟩:=hmap'
     cases hcr with|map _ _ ents clock _ _ _=>exact(hnc ents clock hob').elim
    ·exact .inr ⟨h,hR.ι_lt h2⟩
  obtain⟨k,es,rfl⟩:=hmap
  obtain⟨ob,h1,h2⟩:=hob
  rw[he]at h1;injection h1 with h1;subst h1
  cases h2
 rcases he with rfl|rfl<;>exact hend
end
end Go.Am
end

section
set_option linter.unusedVariables false
set_option linter.unusedSimpArgs false
namespace Go.Am
open RowKit (Below)
structure Kn where
 call:FuncId→List D→Option D
 ocall:FuncId→AV→HO→List D→Option (HO×D)
 keys:FuncId→Option FuncId
 sorted:FuncId→FuncId→Bool
 recs:FuncId→Bool
structure aFg(P:Program)(E:Kn):Prop where
 call:∀ f ds r,E.call f ds=some r→Spec P f ds r
 ocall:∀ f h o ds o' r,E.ocall f h o ds=some (o',r)→mP P f h o ds o' r
 keys:∀ f g,E.keys f=some g→sP P f g
 sorted:∀ f g,E.sorted f g=true→lV P f g
 recs:∀ g,E.recs g=true→lG P g
def OEC(P:Program)(E:Kn)(f:FuncId)(args:Array Operand)(dst:Option Tmp)(σ:St)(con:List Nat):Option (St×List Nat) :=
 if bH P f then match args.toList with
  |x::rest=>match hd1 (oev σ.Γ x)with
   |some (id,h)=>match σ.H id with
    |some ho=>match rest,h,E.keys f with
     |[],.mp 0,some g=>some (⟨bT σ.Γ dst (.kf g id),σ.H,σ.n⟩,con)
     |_,_,_=>if pG ho=true∧gT σ.H (rest.map (oev σ.Γ))=[]then match iB σ.H (rest.map (oev σ.Γ))with
      |some ds=>match E.ocall f h ho ds with
       |some (ho',r)=>if ho'.len=ho.len∧pG ho'=true then some (⟨bT σ.Γ dst (inj r),upd σ.H id (some ho'),σ.n⟩,con)else none
       |none=>none
      |none=>none
      else none
    |none=>none
   |none=>none
  |[]=>none
 else match args.toList.map (oev σ.Γ)with
  |[.kf g id]=>match σ.H id with
   |some (.map .i64 es)=>if es.length≤1099511627776∧(es.map (·.1)).all inr=true∧E.sorted f g=true then some (⟨bT σ.Γ dst (.d (.sl ((fT (es.map (·.1))).map fun n=>[.i .i64 n]))),σ.H,σ.n⟩,con)else none
   |_=>none
  |avs=>match iB σ.H avs with
   |some ds=>match E.call f ds with
    |some r=>some (⟨bT σ.Γ dst (inj r),kill (cE σ.H avs r) σ.H,σ.n⟩,cE σ.H avs r++con)
    |none=>none
   |none=>none
def OE1(P:Program)(E:Kn)(o:Oper)(σ:St)(con:List Nat):Option (St×List Nat) :=
 match o.op with
 |.load t x=>match wN P σ.H t (oev σ.Γ x)with
  |some v=>some (⟨bT σ.Γ o.dst v,σ.H,σ.n⟩,con)
  |none=>none
 |.lookup t m x ok=>match lJ P σ.H t (oev σ.Γ m) (oev σ.Γ x) ok with
  |some v=>some (⟨bT σ.Γ o.dst v,σ.H,σ.n⟩,con)
  |none=>none
 |.store t ad x=>match oU P σ.H t (oev σ.Γ ad) (oev σ.Γ x)with
  |some (id,ho)=>some (⟨bT σ.Γ o.dst .un,upd σ.H id (some ho),σ.n⟩,con)
  |none=>none
 |.mapUpdate t m x v=>match rI P σ.H t (oev σ.Γ m) (oev σ.Γ x) (some (oev σ.Γ v))with
  |some (id,ho)=>some (⟨bT σ.Γ o.dst .any,upd σ.H id (some ho),σ.n⟩,con)
  |none=>none
 |.insert t m x v=>match rI P σ.H t (oev σ.Γ m) (oev σ.Γ x) (some (oev σ.Γ v))with
  |some (id,ho)=>some (⟨bT σ.Γ o.dst .any,upd σ.H id (some ho),σ.n⟩,con)
  |none=>none
 |.call { callee:=.value (.func f),args:=args,argTypes:=_ }=>OEC P E f args o.dst σ con
 |.call { callee:=.value (.tmp t),args:=args,argTypes:=_ }=>match jZ (σ.Γ t)with
  |some (f,cs)=>match iB σ.H (args.toList.map (oev σ.Γ)++cs)with
   |some ds=>match E.call f ds with
    |some r=>some (⟨bT σ.Γ o.dst (inj r),kill (cE σ.H (args.toList.map (oev σ.Γ)++cs) r) σ.H,σ.n⟩,cE σ.H (args.toList.map (oev σ.Γ)++cs) r++con)
    |none=>none
   |none=>none
  |none=>none
 |.call { callee:=.builtin .append,args:=args,argTypes:=ts }=>match args.toList,ts.toList with
  |[s,x],[t,t']=>if t=t' then match zQ P σ.H t (oev σ.Γ s) (oev σ.Γ x) σ.n with
   |some (av,nb,cn)=>some (⟨bT σ.Γ o.dst av,jF (kill cn σ.H) σ.n nb,cnt nb σ.n⟩,cn++con)
   |none=>none
   else none
  |_,_=>none
 |.call { callee:=.builtin .delete,args:=args,argTypes:=ts }=>match args.toList,ts.toList with
  |[m,x],[t,_]=>match rI P σ.H t (oev σ.Γ m) (oev σ.Γ x) none with
   |some (id,ho)=>some (⟨bT σ.Γ o.dst .any,upd σ.H id (some ho),σ.n⟩,con)
   |none=>none
  |_,_=>none
 |op=>if kind P op=0 then match nev P op σ.Γ σ.n with
  |some (av,nb)=>some (⟨bT σ.Γ o.dst av,jF σ.H σ.n nb,cnt nb σ.n⟩,con)
  |none=>none
  else none
def OE(P:Program)(E:Kn)(ops:Array Oper):List Oper→St→List Nat→Option (St×List Nat)
 |[],σ,con=>some (σ,con)
 |o::l,σ,con=>match dX ops o σ.Γ with
  |some true=>match OE1 P E o σ con with
   |some p=>OE P E ops l p.1 p.2
   |none=>none
  |some false=>OE P E ops l ⟨bT σ.Γ o.dst .un,σ.H,σ.n⟩ con
  |none=>none
section
variable {P:Program} {E:Kn} (hE:aFg P E)
include hE
theorem bAk{f:FuncId}{args:Array Operand}{dst:Option Tmp}{σ:St}{con:List Nat}{p:St×List Nat}{k:St→List Nat→Prop}(h:OEC P E f args dst σ con=some p)(hk:k p.1 p.2):OC P f args dst σ con k:=by
 unfold OEC at h
 unfold OC
 split at h
 ·rename_i hm
  rw[Ag hm]
  split at h
  case h_2=>cases h
  rename_i x rest hargs
  rw[hargs]
  simp only
  split at h
  case h_2=>cases h
  rename_i id hh hx
  rw[hx]
  simp only
  split at h
  case h_2=>cases h
  rename_i ho hH
  rw[hH]
  simp only
  split at h
  ·rename_i g hg
   injection h with h;subst h
   exact .inl ⟨g,rfl,rfl,hE.keys _ _ hg,hk⟩
  ·split at h
   case isFalse=>cases h
   rename_i hc
   split at h
   case h_2=>cases h
   rename_i ds hds
   split at h
   case h_2=>cases h
   rename_i ho' r hr
   split at h
   case isFalse=>cases h
   rename_i hc2
   injection h with h;subst h
   exact .inr (.inl ⟨hc.1,hc.2,ds,ho',r,hds,hE.ocall _ _ _ _ _ _ hr,hc2.1,hc2.2,hk⟩)
 ·rename_i hm
  rw[Ae hm]
  refine .inr ?_
  split at h
  ·rename_i g id hargs
   rw[hargs]
   simp only
   split at h
   ·rename_i es hH
    split at h
    ·rename_i hc
     injection h with h;subst h
     rw[hH]
     exact⟨hc.1,hc.2.1,hE.sorted _ _ hc.2.2,hk⟩
    ·cases h
   ·cases h
  ·rename_i hne
   split at h
   case h_2=>cases h
   rename_i ds hds
   split at h
   case h_2=>cases h
   rename_i r hr
   injection h with h;subst h
   split
   ·rename_i g id hargs;exact(hne _ _ hargs).elim
   ·exact⟨ds,r,hds,hE.call _ _ _ hr,hk⟩
theorem bAl{o:Oper}{σ:St}{con:List Nat}{p:St×List Nat}{k:St→List Nat→Prop}(h:OE1 P E o σ con=some p)(hk:k p.1 p.2):O1 P o σ con k:=by
 unfold OE1 at h
 unfold O1
 split at h
 ·rename_i t x hop
  rw[hop]
  split at h
  ·rename_i v hv;simp only[hv];injection h with h;subst h;exact hk
  ·cases h
 ·rename_i t m x ok hop
  rw[hop]
  split at h
  ·rename_i v hv;simp only[hv];injection h with h;subst h;exact hk
  ·cases h
 ·rename_i t ad x hop
  rw[hop]
  split at h
  ·rename_i id ho hv;simp only[hv];injection h with h;subst h;exact hk
  ·cases h
 ·rename_i t m x v hop
  rw[hop]
  split at h
  ·rename_i id ho hv;simp only[hv];injection h with h;subst h;exact hk
  ·cases h
 ·rename_i t m x v hop
  rw[hop]
  split at h
  ·rename_i id ho hv;simp only[hv];injection h with h;subst h;exact hk
  ·cases h
 ·rename_i f args ts hop
  rw[hop]
  exact bAk hE h hk
 ·rename_i t args ts hop
  rw[hop]
  split at h
  ·rename_i f cs hcal
   simp only[hcal]
   split at h
   ·rename_i ds hds
    split at h
    ·rename_i r hr
     injection h with h;subst h
     exact⟨ds,r,hds,hE.call _ _ _ hr,hk⟩
    ·cases h
   ·cases h
  ·cases h
 ·rename_i args ts hop
  rw[hop]
  split at h
  ·rename_i s x t t' hargs hts
   simp only[hargs,hts]
   split at h
   ·rename_i htt
    refine⟨htt,?_⟩
    split at h
    ·rename_i av nb cn hv;simp only[hv];injection h with h;subst h;exact hk
    ·cases h
   ·cases h
  ·cases h
 ·rename_i args ts hop
  rw[hop]
  split at h
  ·rename_i m x t kt hargs hts
   simp only[hargs,hts]
   split at h
   ·rename_i id ho hv;simp only[hv];injection h with h;subst h;exact hk
   ·cases h
  ·cases h
 ·rename_i op h1 h2 h3 h4 h9 h5 h8 h6 h7
  split at h
  ·rename_i hkd
   split at h
   ·rename_i av nb hv
    injection h with h;subst h
    split
    ·rename_i hop;exact(h1 _ _ hop).elim
    ·rename_i hop;exact(h2 _ _ _ _ hop).elim
    ·rename_i hop;rw[hop]at hkd;cases hkd
    ·rename_i hop;rw[hop]at hv;cases hv
    ·rename_i hop;exact(h3 _ _ _ hop).elim
    ·rename_i hop;exact(h4 _ _ _ _ hop).elim
    ·rename_i hop;exact(h9 _ _ _ _ hop).elim
    ·rename_i hop;exact(h5 _ _ _ hop).elim
    ·rename_i hop;exact(h8 _ _ _ hop).elim
    ·rename_i hop;exact(h6 _ _ hop).elim
    ·rename_i hop;exact(h7 _ _ hop).elim
    ·refine⟨hkd,?_⟩
     simp only[hv];exact hk
   ·cases h
  ·cases h
theorem aEn{ops:Array Oper}{k:St→List Nat→Prop}:∀(l:List Oper) (σ:St) (con:List Nat) (p:St×List Nat),OE P E ops l σ con=some p→k p.1 p.2→OW P ops l σ con k
 |[],σ,con,p,h,hk=>by unfold OE at h;injection h with h;subst h;exact hk
 |o::l,σ,con,p,h,hk=>by
  unfold OE at h
  unfold OW
  split at h
  ·rename_i hw
   simp only[hw]
   split at h
   ·rename_i q hq;exact bAl hE hq (aEn l _ _ _ h hk)
   ·cases h
  ·rename_i hw
   simp only[hw]
   exact aEn l _ _ _ h hk
  ·cases h
end
def fzp(H:Nat→Option HO)(S:List Nat)(x:AV):AV :=
 match x with
 |.ptr id _=>if id∈S then(match frz H 8 x with
   |some (.pt cs)=>if(vis H 8 x).all (fun a=>decide (a∈S))then .fp cs else .any
   |_=>.any)else if(H id).isSome then x else .any
 |.d y=>.d y
 |.fp cs=>.fp cs
 |_=>.any
def fz(H:Nat→Option HO)(S:List Nat)(x:AV):AV :=
 match x with
 |.own id _ _ _=>if id∈S then(match frz H 8 x with
   |some d=>if(vis H 8 x).all (fun a=>decide (a∈S))then .d d else .any
   |none=>.any)else if(H id).isSome then x else .any
 |.ptr id _=>if id∈S then(match frz H 8 x with
   |some (.pt cs)=>if(vis H 8 x).all (fun a=>decide (a∈S))then .fp cs else .any
   |_=>.any)else if(H id).isSome then x else .any
 |.fn f cs=>.fn f (cs.map (fzp H S))
 |.mp id=>if id∈S then .any else if(H id).isSome then x else .any
 |.kf _ id=>if id∈S then .any else if(H id).isSome then x else .any
 |.ag _=>.any
 |.tp _=>.any
 |x=>x
def fzs(H:Nat→Option HO)(S:List Nat)(x:AV):AV :=
 match x with
 |.ag cs=>.ag (cs.map (fz H S))
 |x=>fz H S x
def fzm(H:Nat→Option HO)(S:List Nat)(x:AV):AV :=
 match frz H 8 x with
 |some d=>if(vis H 8 x).all (fun a=>decide (a∈S))then .d d else .any
 |none=>.any
def fzO(H:Nat→Option HO)(S:List Nat):HO→HO
 |.cells e cs=>.cells e (cs.map (fz H S))
 |.map k es=>.map k (es.map fun p=>(p.1,fzm H S p.2))
 |.iter k l es=>.iter k l es
def yN(S:List Nat)(σ:St):St:=⟨fun t=>fzs σ.H S (σ.Γ t),fun id=>if id∈S then none else(σ.H id).map (fzO σ.H S),σ.n⟩
theorem kL{S:List Nat}{σ:St}{id:Nat}:((yN S σ).H id).isSome=true↔id ∉ S∧(σ.H id).isSome=true:=by
 simp only[yN]
 by_cases h:id∈S<;>simp[h]
theorem kE{S:List Nat}{σ:St}(x:AV):oB σ.H (yN S σ).H (fun i=>i) x (fz σ.H S x):=by
 have key:∀(x:AV) (d:D),frz σ.H 8 x=some d→(vis σ.H 8 x).all (fun a=>decide (a∈S))=true→oB σ.H (yN S σ).H (fun i=>i) x (.d d):=by
  intro x d h1 h2
  have:frz σ.H 8 x=some d∧∀ a∈vis σ.H 8 x,∀ id,((yN S σ).H id).isSome=true→id≠a:=by
   refine⟨h1,fun a ha id hid e=>?_⟩
   have h3:=AO.1 h2 a ha
   simp only[AH]at h3
   exact(kL.1 hid).1 (e ▸ h3)
  cases x<;>exact this
 have keyP:∀(x:AV) (d:D),frz σ.H 8 x=some d→(vis σ.H 8 x).all (fun a=>decide (a∈S))=true→frz σ.H 8 x=some d∧∀ a∈vis σ.H 8 x,∀ id,((yN S σ).H id).isSome=true→id≠a:=by
  intro x d h1 h2
  refine⟨h1,fun a ha id hid e=>?_⟩
  have h3:=AO.1 h2 a ha
  simp only[AH]at h3
  exact(kL.1 hid).1 (e ▸ h3)
 have keyQ:∀(x:AV),bQb σ.H (yN S σ).H (fun i=>i) x (fzp σ.H S x):=by
  intro x
  cases x with
  |ptr id off =>
   simp only[fzp]
   split
   ·split
    ·rename_i cs hd
     split
     ·exact keyP (.ptr id off) _ hd (by assumption)
     ·trivial
    ·trivial
   ·split
    ·exact⟨rfl,rfl,kL.2 ⟨by assumption,by assumption⟩⟩
    ·trivial
  |d y=>exact keyP (.d y) y rfl rfl
  |fp cs=>exact keyP (.fp cs) _ rfl rfl
  |_=>trivial
 cases x with
 |own id off len sz =>
  simp only[fz]
  split
  ·split
   ·rename_i d hd
    split
    ·exact key _ d hd (by assumption)
    ·trivial
   ·trivial
  ·split
   ·exact⟨rfl,rfl,rfl,rfl,kL.2 ⟨by assumption,by assumption⟩⟩
   ·trivial
 |ptr id off =>
  simp only[fz]
  split
  ·split
   ·rename_i cs hd
    split
    ·exact keyP (.ptr id off) _ hd (by assumption)
    ·trivial
   ·trivial
  ·split
   ·exact⟨rfl,rfl,kL.2 ⟨by assumption,by assumption⟩⟩
   ·trivial
 |fn f cs =>
  refine⟨rfl,by simp,fun k c d hc hd=>?_⟩
  rw[Ax,hc]at hd
  injection hd with hd;subst hd
  exact keyQ c
 |mp id =>
  simp only[fz]
  split
  ·trivial
  ·split
   ·exact⟨rfl,kL.2 ⟨by assumption,by assumption⟩⟩
   ·trivial
 |kf f id =>
  simp only[fz]
  split
  ·trivial
  ·split
   ·exact⟨rfl,rfl,kL.2 ⟨by assumption,by assumption⟩⟩
   ·trivial
 |ag cs=>trivial
 |tp cs=>trivial
 |d y=>exact key _ y rfl rfl
 |nil=>trivial
 |fp cs=>exact keyP (.fp cs) _ rfl rfl
 |fd els=>rfl
 |un=>trivial
 |ub=>trivial
 |any=>trivial
theorem bOe(S:List Nat)(σ:St)(htop:∀ id,σ.n≤id→σ.H id=none):Wk σ (yN S σ) (fun i=>i):=by
 refine⟨fun id h=>?_,fun t=>?_,fun id o' h=>?_,fun _ _ _ _ h=>h,fun _=>rfl,fun h=>h⟩
 ·simp only[yN]at h ⊢
  rw[htop id h];simp
 ·show Sub σ.H (yN S σ).H (fun i=>i) (σ.Γ t) (fzs σ.H S (σ.Γ t))
  generalize σ.Γ t=x
  cases x with
  |ag cs =>
   refine⟨by simp,fun k c d hc hd=>?_⟩
   rw[Ax,hc]at hd
   injection hd with hd;subst hd
   exact kE c
  |d y=>exact kE (S:=S) (σ:=σ) (.d y)
  |nil=>exact kE (S:=S) (σ:=σ) .nil
  |un=>exact kE (S:=S) (σ:=σ) .un
  |ub=>exact kE (S:=S) (σ:=σ) .ub
  |any=>exact kE (S:=S) (σ:=σ) .any
  |fp cs=>exact kE (S:=S) (σ:=σ) (.fp cs)
  |fn f cs=>exact kE (S:=S) (σ:=σ) (.fn f cs)
  |fd els=>exact kE (S:=S) (σ:=σ) (.fd els)
  |tp cs=>exact kE (S:=S) (σ:=σ) (.tp cs)
  |own id off len sz =>
   have h:=kE (S:=S) (σ:=σ) (.own id off len sz)
   simp only[fzs]
   generalize fz σ.H S (.own id off len sz)=y at h
   cases y<;>exact h
  |ptr id off =>
   have h:=kE (S:=S) (σ:=σ) (.ptr id off)
   simp only[fzs]
   generalize fz σ.H S (.ptr id off)=y at h
   cases y<;>exact h
  |mp id =>
   have h:=kE (S:=S) (σ:=σ) (.mp id)
   simp only[fzs]
   generalize fz σ.H S (.mp id)=y at h
   cases y<;>exact h
  |kf f id =>
   have h:=kE (S:=S) (σ:=σ) (.kf f id)
   simp only[fzs]
   generalize fz σ.H S (.kf f id)=y at h
   cases y<;>exact h
 ·simp only[yN]at h
  split at h
  ·cases h
  ·obtain⟨o,ho,rfl⟩:=Ao.1 h
   refine⟨o,ho,?_⟩
   cases o with
   |iter k l es=>exact⟨rfl,rfl,rfl⟩
   |cells e cs =>
    refine⟨rfl,by simp,fun k c d hc hd=>?_⟩
    rw[Ax,hc]at hd
    injection hd with hd;subst hd
    exact kE c
   |map k es =>
    refine⟨rfl,by simp,fun j x y hx hy=>?_⟩
    rw[Ax,hx]at hy
    injection hy with hy;subst hy
    refine⟨rfl,?_⟩
    simp only[fzm]
    split
    ·rename_i d hd
     split
     ·rename_i hv
      have:frz σ.H 8 x.2=some d∧∀ a∈vis σ.H 8 x.2,∀ id,((yN S σ).H id).isSome=true→id≠a:=by
       refine⟨hd,fun a ha id hid e=>?_⟩
       have h3:=AO.1 hv a ha
       simp only[AH]at h3
       exact(kL.1 hid).1 (e ▸ h3)
      generalize x.2=z at this
      cases z<;>exact .inl this
     ·generalize x.2=z
      cases z<;>exact .inl trivial
    ·generalize x.2=z
     cases z<;>exact .inl trivial
def iter(body:St→Option (Exit×St)):Nat→St→Option (Exit×St)
 |0,_=>none
 |n+1,σ=>match body σ with
  |some (.normal,σ')=>iter body n σ'
  |r=>r
def ex(P:Program)(E:Kn)(fuel:Nat):Code→St→Option (Exit×St)
 |.skip,σ=>some (.normal,σ)
 |.region _ ops _,σ=>match OE P E ops ops.toList σ []with
  |some (σ',con)=>match con.filter (fun i=>decide (i<σ.n))with
   |[]=>some (.normal,fin σ' con)
   |i::S=>match OE P E ops ops.toList (yN (i::S) σ) []with
    |some (σ2,con2)=>some (.normal,fin σ2 con2)
    |none=>some (.normal,fin σ' con)
  |none=>none
 |.seq x y,σ=>match ex P E fuel x σ with
  |some (.normal,σ')=>ex P E fuel y σ'
  |r=>r
 |.cond c x y,σ=>match oev σ.Γ c with
  |.d (.b true)=>ex P E fuel x σ
  |.d (.b false)=>ex P E fuel y σ
  |_=>none
 |.block id c,σ=>match ex P E fuel c σ with
  |some (.exit id',σ')=>if id'=id then some (.normal,σ')else some (.exit id',σ')
  |r=>r
 |.loop c,σ=>iter (ex P E fuel c) fuel σ
 |.exit id,σ=>some (.exit id,σ)
 |.ret,σ=>some (.ret,σ)
 |.label _,σ=>some (.normal,σ)
 |.scope c,σ=>match ex P E fuel c σ with
  |some (.goto _,_)=>none
  |r=>r
 |_,_=>none
section
variable {P:Program} {G:Ctx} {N:Nat} {ds:List Deferred} {E:Kn}
theorem aZi{rd:Bool}{WW:Code→(Exit→Act→World→Prop)→Act→World→Prop}(hW:WpR P rd WW)(hE:aFg P E)(hm:P.follows .mixedOrders=true){z:Nat→Bool}(hz:∀ d v,G.Z d=some v→z d=true)(fuel:Nat) :
  ∀(c:Code) (σ:St) (a:Act) (w:World) (e:Exit) (σ':St),dM N c=true→eA P c=true→mN z c=true→(rd=true→nV c=true)→ex P E fuel c σ=some (e,σ')→SR G N ds σ a w →
  WW c (fun e' a' w'=>e'=e∧SR G N ds σ' a' w') a w:=by
 intro c
 induction c with
 |skip=>intro σ a w e σ' _ _ _ _ h hs;simp only[ex,AT,DZ]at h;obtain⟨rfl,rfl⟩:=h;exact hW.skip ⟨rfl,hs⟩
 |region id ops draw =>
  intro σ a w e σ' hd hl hnz hnd h hs
  have one:∀(σ0 σ1:St) (con:List Nat),OE P E ops ops.toList σ0 []=some (σ1,con)→SR G N ds σ0 a w→WW (.region id ops draw) (fun e' a' w'=>e'=.normal∧SR G N ds (fin σ1 con) a' w') a w:=by
   intro σ0 σ1 con hp hs0
   refine vT hW (Q:=fun s=>s=fin σ1 con) hm (vX hz hd hnz) hnd (fun hdr=>by simpa[eA,hdr]using hl) hs0 (aEn hE _ _ _ _ hp rfl) ?_
   rintro σ' a' w' rfl hs'
   exact⟨rfl,hs'⟩
  simp only[ex]at h
  split at h
  ·rename_i σ1 con hp
   split at h
   ·injection h with h;injection h with h1 h2;subst h1;subst h2
    exact one σ σ1 con hp hs
   ·rename_i i S hS
    split at h
    ·rename_i σ2 con2 hp2
     injection h with h;injection h with h1 h2;subst h1;subst h2
     exact one _ σ2 con2 hp2 (aAo (bOe (i::S) σ hs.1) hs)
    ·injection h with h;injection h with h1 h2;subst h1;subst h2
     exact one σ σ1 con hp hs
  ·cases h
 |seq x y ihx ihy =>
  intro σ a w e σ' hd hl hnz hnd h hs
  simp only[dM,eA,mN,nV,AI]at hd hl hnz hnd
  simp only[ex]at h
  split at h
  ·rename_i σ1 h1
   refine hW.seq (hW.mono (ihx σ a w _ _ hd.1 hl.1 hnz.1 (fun e=>(hnd e).1) h1 hs) ?_)
   rintro e' a' w' ⟨rfl,hs'⟩
   exact ihy _ a' w' _ _ hd.2 hl.2 hnz.2 (fun e=>(hnd e).2) h hs'
  ·rename_i hne
   refine hW.seq (hW.mono (ihx σ a w _ _ hd.1 hl.1 hnz.1 (fun e=>(hnd e).1) h hs) ?_)
   rintro e' a' w' ⟨rfl,hs'⟩
   cases e' with
   |normal=>exact(hne _ h).elim
   |_=>exact⟨rfl,hs'⟩
 |cond c x y ihx ihy =>
  intro σ a w e σ' hd hl hnz hnd h hs
  simp only[dM,eA,mN,nV,AI]at hd hl hnz hnd
  have hc:∀ t,oev σ.Γ c=.d (.b t)→a.eval c=.bool t:=by
   intro t ht
   obtain⟨_,_,F,ι,_,_,hV,_⟩:=hs
   have:=fI (Γ:=σ.Γ) (a:=a) (x:=c) (F:=F) (w:=w) (ι:=ι) fun t _=>hV t
   rw[ht]at this
   generalize a.eval c=v at this
   cases this with|d _ _ h=>cases h;rfl
  simp only[ex]at h
  split at h
  ·rename_i ht;exact hW.cond (hc _ ht) (ihx σ a w _ _ hd.1 hl.1 hnz.1 (fun e=>(hnd e).1) h hs)
  ·rename_i ht;exact hW.cond (hc _ ht) (ihy σ a w _ _ hd.2 hl.2 hnz.2 (fun e=>(hnd e).2) h hs)
  ·cases h
 |block id c ih =>
  intro σ a w e σ' hd hl hnz hnd h hs
  simp only[ex]at h
  split at h
  ·rename_i id' σ1 h1
   refine hW.block (hW.mono (ih σ a w _ _ hd hl hnz hnd h1 hs) ?_)
   rintro e' a' w' ⟨rfl,hs'⟩
   simp only[Exit.inBlock]
   split at h
   ·rename_i he;injection h with h;injection h with h1 h2;subst h1;subst h2;rw[Ag he];exact⟨rfl,hs'⟩
   ·rename_i he;injection h with h;injection h with h1 h2;subst h1;subst h2;rw[Ae he];exact⟨rfl,hs'⟩
  ·rename_i hne
   refine hW.block (hW.mono (ih σ a w _ _ hd hl hnz hnd h hs) ?_)
   rintro e' a' w' ⟨rfl,hs'⟩
   cases e' with
   |exit id'=>exact(hne _ _ h).elim
   |_=>exact⟨rfl,hs'⟩
 |loop c ih =>
  intro σ a w e σ' hd hl hnz hnd h hs
  simp only[ex]at h
  refine hW.loop (fun n a w=>∃ σ,iter (ex P E fuel c) n σ=some (e,σ')∧SR G N ds σ a w) ⟨fuel,σ,h,hs⟩ ?_
  rintro n a w ⟨σ1,h1,hs1⟩
  cases n with
  |zero=>cases h1
  |succ n =>
   simp only[iter]at h1
   split at h1
   ·rename_i σ2 h2
    refine hW.mono (ih σ1 a w _ _ hd hl hnz hnd h2 hs1) ?_
    rintro e' a' w' ⟨rfl,hs'⟩
    exact⟨n,Ad n,_,h1,hs'⟩
   ·rename_i hne
    refine hW.mono (ih σ1 a w _ _ hd hl hnz hnd h1 hs1) ?_
    rintro e' a' w' ⟨rfl,hs'⟩
    cases e' with
    |normal=>exact(hne _ h1).elim
    |_=>exact⟨rfl,hs'⟩
 |exit id=>intro σ a w e σ' _ _ _ _ h hs;simp only[ex,AT,DZ]at h;obtain⟨rfl,rfl⟩:=h;exact hW.exit ⟨rfl,hs⟩
 |ret=>intro σ a w e σ' _ _ _ _ h hs;simp only[ex,AT,DZ]at h;obtain⟨rfl,rfl⟩:=h;exact hW.ret ⟨rfl,hs⟩
 |label l=>intro σ a w e σ' _ _ _ _ h hs;simp only[ex,AT,DZ]at h;obtain⟨rfl,rfl⟩:=h;exact hW.label ⟨rfl,hs⟩
 |scope c ih =>
  intro σ a w e σ' hd hl hnz hnd h hs
  simp only[ex]at h
  split at h
  ·cases h
  ·rename_i hne
   have hrd:rd=false:=by
    cases rd with
    |false=>rfl
    |true=>exact absurd (hnd rfl) (by simp[nV])
   refine hW.scope hrd (hW.mono (ih σ a w _ _ hd hl hnz (fun e=>by rw[hrd]at e;cases e) h hs) ?_)
   rintro e' a' w' ⟨rfl,hs'⟩
   cases e' with
   |goto l=>exact(hne _ _ h).elim
   |_=>exact⟨rfl,hs'⟩
 |_=>intro σ a w e σ' _ _ _ _ h;cases h
theorem xD(hE:aFg P E)(hm:P.follows .mixedOrders=true)(hZ:∀ d,G.Z d=none)(fuel:Nat)(c:Code)(σ:St)(a:Act)(w:World)(e:Exit)(σ':St)(hd:dM N c=true)(hl:eA P c=true)(h:ex P E fuel c σ=some (e,σ'))(hs:SR G N ds σ a w) :
  c.wp P (fun e' a' w'=>e'=e∧SR G N ds σ' a' w') a w :=
 aZi (WpR.plain P) hE hm (z:=fun _=>false) (fun d v e=>by rw[hZ]at e;cases e) fuel c σ a w e σ' hd hl (xM c) (fun e=>by cases e) h hs
end
def aRg (P:Program) (fn:Func) (c:Code):Bool:=dM fn.ntmps c && eA P c && !(fn.name == "runtime.NumGoroutine")
def bCz(c:Code):Option (Code×FuncId×Code):=match c with
 |.seq r0 (.seq rd rest)=>(tW rd).map fun g=>(r0,g,rest)
 |_=>none
theorem aPt {P:Program} {f N:Nat} {fn:Func} {c:Code} {args:List D} {r:D} {e:Exit} {σ:St} (hf:P.funcs[f]? = some fn) (hb:fn.body=some c) (hname:(fn.name == "runtime.NumGoroutine")=false) (hN:fn.ntmps=N)
  (ha:args.length≤N) (h:∀(G:Ctx) (a:Act) (w:World),(∀ d,G.Z d=none)→SR G N [] (St0 args N) a w→c.wp P (fun e' a' w'=>e'=e∧SR G N [] σ a' w') a w) (he:e=.normal∨e=.ret) (hr:mW P fn.results.toList σ=some r):Spec P f args r:=by
 intro A W vs hA hl hv
 have hn:¬ fn.name = "runtime.NumGoroutine" := by simpa using hname
 refine⟨fun w=>by simp[callFunc,hf,hn,hb],?_⟩
 refine calls_of_wp hf hb ?_
 subst hN
 refine wp_mono (h _ _ _ (fun _=>rfl) (SR0 hA hl hv ha)) ?_
 rintro e' a w ⟨rfl,hs⟩
 obtain⟨v,hrun,hvd⟩:=iX hs hr
 obtain⟨_,_,F,ι,hR,_,_,_,hdf,_⟩:=hs
 have hend:a.defers=[]∧∃ v,(results fn a.tmps).run P w=.ok v w∧∃ v',Dx v=.returned v'∧Below W.heap.size W w∧VD (fun b=>A b∨(W.heap.size≤b∧b<w.heap.size)) w r v':=by
  refine⟨hdf,v,hrun,v,rfl,⟨hR.kept.os,hR.kept.tape,hR.kept.output,hR.kept.size,fun k hk=>hR.kept.block k hk (fun h=>h)⟩,hvd.mono ?_⟩
  rintro b (h|h|h)
  ·exact .inl h
  ·exact h.elim
  ·exact .inr h
 rcases he with rfl|rfl<;>exact hend
theorem aLa {P:Program} {f N:Nat} {fn:Func} {g:FuncId} {r0 rd rest:Code} {args:List D} {r:D} {e:Exit} {σ0 σ:St} (hf:P.funcs[f]? = some fn) (hb:fn.body=some (.seq r0 (.seq rd rest))) (hname:(fn.name == "runtime.NumGoroutine")=false)
  (hN:fn.ntmps=N) (hg:tW rd=some g) (hrec:lG P g) (ha:args.length≤N) (h:∀(G:Ctx) (a:Act) (w:World),(∀ d,G.Z d=none)→SR G N [] (St0 args N) a w→r0.wp P (fun e' a' w'=>e'=.normal∧SR G N [] σ0 a' w') a w)
  (h':∀(G:Ctx) (a:Act) (w:World),(∀ d,G.Z d=none)→SR G N [{ target:=.fn (.func g) #[],args:=#[] }] σ0 a w→rest.wp P (fun e' a' w'=>e'=e∧SR G N [{ target:=.fn (.func g) #[],args:=#[] }] σ a' w') a w)
  (he:e=.normal∨e=.ret) (hr:mW P fn.results.toList σ=some r):Spec P f args r:=by
 intro A W vs hA hl hv
 have hn:¬ fn.name = "runtime.NumGoroutine" := by simpa using hname
 refine⟨fun w=>by simp[callFunc,hf,hn,hb],?_⟩
 refine calls_of_wp_defers hf hb ?_
 subst hN
 refine wp_seq (wp_mono (h _ _ _ (fun _=>rfl) (SR0 hA hl hv ha)) ?_)
 rintro e' a w ⟨rfl,hs0⟩
 refine wp_seq (uN hg ?_)
 refine wp_mono (h' _ _ _ (fun _=>rfl) (aEm { target:=.fn (.func g) #[],args:=#[] } hs0)) ?_
 rintro e' a w ⟨rfl,hs⟩
 obtain⟨v,hrun,hvd⟩:=iX hs hr
 obtain⟨_,_,F,ι,hR,_,_,_,hdf,_⟩:=hs
 have hend:Leaves P fn a.tmps (fun e w'=>∃ v,e=.returned v∧Below W.heap.size W w'∧VD (fun b=>A b∨(W.heap.size≤b∧b<w'.heap.size)) w' r v) a.defers .returning w:=by
  rw[hdf]
  refine leaves_cons (by simp) (args:=#[]) (f:=g) ?_ ((hrec.2 w).mono ?_)
  ·have:=hrec.1 w
   simpa[invoke]using this
  ·rintro e u' w' ⟨rfl,rfl,rfl⟩
   refine⟨v,by simpa[settle]using hrun,v,rfl,⟨hR.kept.os,hR.kept.tape,hR.kept.output,hR.kept.size,fun k hk=>hR.kept.block k hk (fun h=>h)⟩,hvd.mono ?_⟩
   rintro b (h|h|h)
   ·exact .inl h
   ·exact h.elim
   ·exact .inr h
 rcases he with rfl|rfl<;>exact hend
def bOv(P:Program)(fn:Func):Option (Exit×St)→Option D
 |some (.normal,σ)=>mW P fn.results.toList σ
 |some (.ret,σ)=>mW P fn.results.toList σ
 |_=>none
def bSi(P:Program)(E:Kn)(fuel:Nat)(f:FuncId)(args:List D):Option D :=
 match P.funcs[f]? with
 |none=>none
 |some fn=>match fn.body with
  |none=>none
  |some c=>match bCz c with
   |none=>if aRg P fn c&&decide (args.length≤fn.ntmps)then bOv P fn (ex P E fuel c (St0 args fn.ntmps))else none
   |some (r0,g,rest)=>if aRg P fn r0&&aRg P fn rest&&E.recs g&&decide (args.length≤fn.ntmps)then match ex P E fuel r0 (St0 args fn.ntmps)with
     |some (.normal,σ)=>bOv P fn (ex P E fuel rest σ)
     |_=>none
    else none
def bCd(P:Program)(E:Kn)(fuel:Nat)(f:FuncId)(h:AV)(o:HO)(args:List D):Option (HO×D) :=
 match P.funcs[f]? with
 |none=>none
 |some fn=>match fn.body,o with
  |some c,.map _ _=>if aRg P fn c&&decide (args.length+1≤fn.ntmps)then match ex P E fuel c (St1 h o args fn.ntmps)with
   |some (e,σ)=>match σ.H 0,bOv P fn (some (e,σ))with
    |some (.map k es),some r=>if pG (.map k es)&&nmB 8 r then some (.map k es,r)else none
    |_,_=>none
   |none=>none
   else none
  |_,_=>none
def runK(P:Program)(E:Kn)(fuel:Nat):Nat→Kn
 |0=>{ E with call:=fun _ _=>none,ocall:=fun _ _ _ _=>none }
 |n+1=>{ E with
   call:=fun f args=>match E.call f args with|some r=>some r|none=>bSi P (runK P E fuel n) fuel f args
   ocall:=fun f h o args=>match E.ocall f h o args with|some r=>some r|none=>bCd P (runK P E fuel n) fuel f h o args }
theorem yP{P:Program}{fn:Func}{e:Exit}{σ:St}{r:D}(h:bOv P fn (some (e,σ))=some r):(e=.normal∨e=.ret)∧mW P fn.results.toList σ=some r:=by
 cases e<;>first|exact⟨.inl rfl,h⟩|exact⟨.inr rfl,h⟩|cases h
theorem aQb{P:Program}{E:Kn}{fuel:Nat}(hm:P.follows .mixedOrders=true)(hE:aFg P E){f:FuncId}{args:List D}{r:D}(h:bSi P E fuel f args=some r):Spec P f args r:=by
 unfold bSi at h
 split at h
 ·cases h
 rename_i fn hfn
 split at h
 ·cases h
 rename_i c hc
 split at h
 ·split at h
  case isFalse=>cases h
  rename_i hok
  simp only[aRg,AI,C8,AH]at hok
  obtain⟨⟨⟨h1,h2⟩,h3⟩,h4⟩:=hok
  cases hex:ex P E fuel c (St0 args fn.ntmps)with
  |none=>rw[hex]at h;cases h
  |some p =>
   obtain⟨e,σ⟩:=p
   rw[hex]at h
   obtain⟨he,hr⟩:=yP h
   exact aPt hfn hc h3 rfl h4 (fun G a w hZ hs=>xD hE hm hZ fuel c _ a w _ _ h1 h2 hex hs) he hr
 ·rename_i r0 g rest hp
  split at h
  case isFalse=>cases h
  rename_i hok
  simp only[aRg,AI,C8,AH]at hok
  obtain⟨⟨⟨⟨⟨h1,h2⟩,h3⟩,⟨h1',h2'⟩,_⟩,hg⟩,h4⟩:=hok
  split at h
  case h_2=>cases h
  rename_i σ0 hex0
  cases hex:ex P E fuel rest σ0 with
  |none=>rw[hex]at h;cases h
  |some p =>
   obtain⟨e,σ⟩:=p
   rw[hex]at h
   obtain⟨he,hr⟩:=yP h
   unfold bCz at hp
   split at hp
   case h_2=>cases hp
   rename_i r0' rd rest'
   obtain⟨g',hg',hp⟩:=Ao.1 hp
   injection hp with e1 hp;injection hp with e2 e3;subst e1;subst e2;subst e3
   exact aLa hfn hc h3 rfl hg' (hE.recs _ hg) h4 (fun G a w hZ hs=>wp_mono (xD hE hm hZ fuel _ _ a w _ _ h1 h2 hex0 hs) fun e a w h=>h)
    (fun G a w hZ hs=>xD hE hm hZ fuel _ _ a w _ _ h1' h2' hex hs) he hr
theorem aLj{P:Program}{E:Kn}{fuel:Nat}(hm:P.follows .mixedOrders=true)(hE:aFg P E){f:FuncId}{h0:AV}{o o':HO}{args:List D}{r:D}(h:bCd P E fuel f h0 o args=some (o',r)):mP P f h0 o args o' r:=by
 unfold bCd at h
 split at h
 ·cases h
 rename_i fn hfn
 split at h
 case h_2=>cases h
 rename_i c kd es hc
 split at h
 case isFalse=>cases h
 rename_i hok
 simp only[aRg,AI,C8,AH]at hok
 obtain⟨⟨⟨h1,h2⟩,h3⟩,h4⟩:=hok
 split at h
 case h_2=>cases h
 rename_i e σ hex
 split at h
 case h_2=>cases h
 rename_i k1 es1 r1 hH hr
 split at h
 case isFalse=>cases h
 rename_i hfl
 rw[AI]at hfl
 obtain⟨hfl,hnm⟩:=hfl
 injection h with h;injection h with e1 e2;subst e1;subst e2
 have hr2:=yP hr
 obtain⟨he,hr3⟩:=hr2
 refine aMh hfn hc h3 rfl h4 ⟨_,_,rfl⟩ ⟨_,_,rfl⟩ hfl (aCa _ _ hnm) fun G a w hZ hs=>wp_mono (xD hE hm hZ fuel c _ a w _ _ h1 h2 hex hs) ?_
 rintro e' a' w' ⟨rfl,hs'⟩
 exact⟨σ,⟨he,hr3,hH⟩,hs'⟩
theorem zY{P:Program}{E:Kn}{fuel:Nat}(hm:P.follows .mixedOrders=true)(hE:aFg P E):∀ n,aFg P (runK P E fuel n)
 |0=>⟨(fun _ _ _ h=>by cases h),(fun _ _ _ _ _ _ h=>by cases h),hE.keys,hE.sorted,hE.recs⟩
 |n+1=>by
  have ih:=zY (fuel:=fuel) hm hE n
  refine⟨fun f ds r h=>?_,fun f h0 o ds o' r h=>?_,hE.keys,hE.sorted,hE.recs⟩
  ·unfold runK at h
   simp only at h
   split at h
   ·rename_i r' hr';injection h with h;subst h;exact hE.call _ _ _ hr'
   ·exact aQb hm ih h
  ·unfold runK at h
   simp only at h
   split at h
   ·rename_i r' hr';injection h with h;subst h;exact hE.ocall _ _ _ _ _ _ hr'
   ·exact aLj hm ih h
end Go.Am
end

section
set_option linter.unusedVariables false
set_option linter.unusedSimpArgs false
namespace Go.Am
variable {P:Program}
@[congr]theorem bVg{c:Code}{σ σ':St}{Q:Exit→St→Prop}(h:σ=σ'):AWP P c σ Q=AWP P c σ' Q:=by rw[h]
theorem aOr(σ:St)(Q:Exit→St→Prop):AWP P .skip σ Q=Q .normal σ:=rfl
theorem aWc(x y:Code)(σ:St)(Q:Exit→St→Prop):AWP P (.seq x y) σ Q=AWP P x σ fun e σ'=>match e with|.normal=>AWP P y σ' Q|e=>Q e σ':=rfl
theorem aHh(id:Nat)(c:Code)(σ:St)(Q:Exit→St→Prop):AWP P (.block id c) σ Q=AWP P c σ fun e σ'=>match e with|.exit id'=>if id'=id then Q .normal σ' else Q (.exit id') σ'|e=>Q e σ':=rfl
theorem aOs(id:Nat)(σ:St)(Q:Exit→St→Prop):AWP P (.exit id) σ Q=Q (.exit id) σ:=rfl
theorem aWd(σ:St)(Q:Exit→St→Prop):AWP P .ret σ Q=Q .ret σ:=rfl
theorem aHf(l:Nat)(σ:St)(Q:Exit→St→Prop):AWP P (.label l) σ Q=Q .normal σ:=rfl
theorem aHd(c:Code)(σ:St)(Q:Exit→St→Prop):AWP P (.scope c) σ Q=AWP P c σ fun e σ'=>match e with|.goto _=>False|e=>Q e σ':=rfl
def IfA(t:Bool)(A B:Prop):Prop:=if t then A else B
@[congr]theorem bVf{t t':Bool}{A B:Prop}(h:t=t'):IfA t A B=IfA t' A B:=by rw[h]
def bRg(P:Program)(f:FuncId)(avs:List AV)(H:Nat→Option HO)(k:D→Prop):Prop:=∃ ds r,iB H avs=some ds∧Spec P f ds r∧k r
@[congr]theorem bRa{f:FuncId}{avs avs':List AV}{H H':Nat→Option HO}{k:D→Prop}(h:avs=avs')(h2:H=H'):bRg P f avs H k=bRg P f avs' H' k:=by rw[h,h2]
theorem iS(H:Nat→Option HO)(n id off len sz:Nat):frz H (n+1) (.own id off len sz)=match H id with
  |some (.cells _ cs)=>if(off+len)*sz≤cs.length∧0<sz then(((cs.drop (off*sz)).take (len*sz)).mapM (frz H n)).map fun l=>.sl (chunk sz len l)else none
  |_=>none:=rfl
theorem bTt(H:Nat→Option HO)(n:Nat)(els:List (List D)):frz H (n+1) (.fd els)=some (.sl els):=rfl
theorem bOb(H:Nat→Option HO)(n:Nat):frz H (n+1) .nil=some (.sl []):=rfl
theorem aVh(H:Nat→Option HO)(n:Nat)(x:D):frz H (n+1) (.d x)=some x:=rfl
theorem tD(l:List Nat)(ds:List D):(ds.map AV.d).map (eN l)=ds.map AV.d:=by simp[eN,Function.comp_def]
theorem nP(H:Nat→Option HO)(n:Nat):∀(ds:List D),(ds.map AV.d).mapM (frz H (n+1))=some ds
 |[]=>rfl
 |d::ds=>by rw[AR,B7,nP H n ds,aVh];rfl
theorem aKp:∀(n:Nat) (x:AV),vis (fun _=>none) n x=[]
 |0,_=>rfl
 |n+1,x=>by
  have ih:=aKp n
  cases x<;>simp[vis,ih]
theorem aQy(avs:List AV)(r:D):cE (fun _=>none) avs r=[]:=by
 unfold cE gT
 split
 ·rfl
 ·simp[aKp]
end Go.Am
end

section
set_option linter.unusedVariables false
set_option linter.unusedSimpArgs false
namespace Go.Am
def iT:List (Nat×AV)→Nat→AV
 |[]=>fun _=>.any
 |p::l=>upd (iT l) p.1 p.2
def nZ:Nat→List HO→Nat→Option HO
 |_,[]=>fun _=>none
 |i,o::os=>upd (nZ (i+1) os) i (some o)
def bUv(o0:Option HO)(H:Nat→Option HO):Nat→Option HO:=match o0 with
 |none=>H
 |some o=>upd H 0 (some o)
def StL(sl:List (Nat×AV))(o0:Option HO)(hs:List HO):St:=⟨iT sl,bUv o0 (nZ 1 hs),hs.length+1⟩
theorem sK:∀(hs:List HO) (i j:Nat),nZ i hs j=if i≤j then hs[j-i]? else none
 |[],i,j=>by simp[nZ]
 |o::os,i,j=>by
  unfold nZ upd
  by_cases h:j=i
  ·subst h;simp
  ·rw[Ae h,sK os (i+1) j]
   by_cases h1:i+1≤j
   ·rw[Ag h1,Ag (by omega),show j-i=(j-(i+1))+1 from by omega,List.getElem?_cons_succ]
   ·rw[Ae h1,Ae (by omega)]
theorem aJy(sl:List (Nat×AV))(o0:Option HO)(hs:List HO):(StL sl o0 hs).H 0=o0:=by
 unfold StL bUv
 cases o0 with
 |none=>simp[sK]
 |some o=>rfl
theorem yX(sl:List (Nat×AV))(o0:Option HO)(hs:List HO)(i:Nat):(StL sl o0 hs).H (i+1)=hs[i]? := by
 unfold StL bUv
 cases o0 with
 |none=>simp[sK]
 |some o=>simp[upd,sK]
theorem vO:∀(l:List (Nat×AV)) (t:Nat),iT l t=.any∨∃ p∈l,p.1=t∧iT l t=p.2
 |[],t=>.inl rfl
 |p::l,t=>by
  by_cases h:t=p.1
  ·exact .inr ⟨p,Av ..,h.symm,by simp[iT,upd,h]⟩
  ·have e:iT (p::l) t=iT l t:=by simp[iT,upd,h]
   rw[e]
   rcases vO l t with h|⟨q,hq,h⟩
   ·exact .inl h
   ·exact .inr ⟨q,As _ hq,h⟩
def aIi(rs:List Nat):Nat→Nat:=fun id=>match id with|0=>0|i+1=>rs.getD i 0
def mV(H H':Nat→Option HO)(ρ:Nat→Nat)(Γ:Nat→AV):List (Nat×AV)→Prop
 |[]=>True
 |p::l=>Sub H H' ρ (Γ p.1) p.2∧mV H H' ρ Γ l
def bY(H H':Nat→Option HO)(ρ:Nat→Nat):List Nat→List HO→Prop
 |[],[]=>True
 |r::rs,o::os=>(∃ o0,H r=some o0∧lU H H' ρ o0 o)∧bY H H' ρ rs os
 |_,_=>False
theorem oG{H H':Nat→Option HO}{ρ:Nat→Nat}{Γ:Nat→AV}:∀{l:List (Nat×AV)},mV H H' ρ Γ l→∀ p∈l,Sub H H' ρ (Γ p.1) p.2
 |p::l,h,q,hq=>by
  rcases AD.1 hq with rfl|hq
  ·exact h.1
  ·exact oG h.2 q hq
theorem aDz{H H':Nat→Option HO}{ρ:Nat→Nat}:∀{rs:List Nat} {os:List HO},bY H H' ρ rs os→rs.length=os.length∧∀(i:Nat) o,os[i]? = some o→∃ o0,H (rs.getD i 0)=some o0∧lU H H' ρ o0 o
 |[],[],_=>⟨rfl,fun i o h=>by simp at h⟩
 |r::rs,o::os,h=>by
  obtain⟨h1,h2⟩:=h
  obtain⟨q1,q2⟩:=aDz h2
  refine⟨by simp[q1],fun i o' hi=>?_⟩
  rcases i with _|i
  ·simp at hi;subst hi;simpa using h1
  ·simpa using q2 i o' (by simpa using hi)
 |[],_::_,h=>h.elim
 |_::_,[],h=>h.elim
theorem aAi{l:List Nat}{i:Nat}(h:i<l.length):l.getD i 0=l[i]:=by
 rw[Ac,Aa h];rfl
theorem mS{H H':Nat→Option HO}{ρ:Nat→Nat}(x:AV):Sub H H' ρ x .any:=by cases x<;>trivial
theorem zU{σ:St}{sl:List (Nat×AV)}{o0:Option HO}{hs:List HO}(rs:List Nat)(hnd:(0::rs).Nodup)
  (hslot:mV σ.H (StL sl o0 hs).H (aIi rs) σ.Γ sl) (h0:∀ o',o0=some o'→∃ o,σ.H 0=some o∧lU σ.H (StL sl o0 hs).H (aIi rs) o o')
  (hblk:bY σ.H (StL sl o0 hs).H (aIi rs) rs hs):Wk σ (StL sl o0 hs) (aIi rs):=by
 obtain⟨hlen,hget⟩:=aDz hblk
 have hlt:∀ i,(((StL sl o0 hs).H (i+1)).isSome=true)→i<rs.length:=fun i h=>by
  rw[hlen]
  rw[yX]at h
  rcases Bc i hs.length with h'|h'
  ·exact h'
  ·rw[AG h']at h;cases h
 have hno:∀ i,i<rs.length→rs.getD i 0≠0:=fun i hi h=>by
  have:rs[i]∈rs:=Ak hi
  rw[aAi hi]at h
  rw[h]at this
  exact(Df.1 hnd).1 this
 refine⟨fun id h=>?_,fun t=>?_,fun id o' h=>?_,fun id id' h h' e=>?_,fun _=>rfl,fun h=>by simp[StL]at h⟩
 ·cases id with
  |zero=>simp[StL]at h
  |succ i=>rw[yX];simp only[StL]at h;exact AG (by omega)
 ·show Sub _ _ _ _ (iT sl t)
  rcases vO sl t with h|⟨p,hp,rfl,h⟩
  ·rw[h];exact mS _
  ·rw[h];exact oG hslot _ hp
 ·cases id with
  |zero=>rw[aJy]at h;exact h0 o' h
  |succ i=>rw[yX]at h;exact hget i o' h
 ·cases id with
  |zero=>cases id' with
   |zero=>rfl
   |succ j=>exact absurd e.symm (hno j (hlt j h'))
  |succ i=>cases id' with
   |zero=>exact absurd e (hno i (hlt i h))
   |succ j =>
    have hi:=hlt i h
    have hj:=hlt j h'
    simp only[aIi]at e
    rw[aAi hi,aAi hj]at e
    have:=(List.getElem_inj (Df.1 hnd).2).1 e
    rw[this]
theorem aY{σ:St}{sl:List (Nat×AV)}{hs:List HO}(rs:List Nat)(hnd:(0::rs).Nodup)
  (hslot:mV σ.H (StL sl none hs).H (aIi rs) σ.Γ sl) (hblk:bY σ.H (StL sl none hs).H (aIi rs) rs hs):∃ ρ,Wk σ (StL sl none hs) ρ :=
 ⟨_,zU rs hnd hslot (fun _ h=>by cases h) hblk⟩
theorem tA{H H':Nat→Option HO}{ρ:Nat→Nat}(e:TypeId)(l:List D):lU H H' ρ (.cells e (l.map .d)) (.cells e (l.map .d)):=by
 refine⟨rfl,rfl,fun k c d h1 h2=>?_⟩
 rw[h1]at h2;injection h2 with h2;subst h2
 rw[Ax]at h1
 obtain⟨x,_,rfl⟩:=Ao.1 h1
 exact⟨rfl,fun a ha=>by simp[vis]at ha⟩
theorem aPq{H H':Nat→Option HO}{ρ:Nat→Nat}{e:TypeId}{l:List D}{c c':List AV}(h:c=l.map .d)(h':c'=l.map .d):lU H H' ρ (.cells e c) (.cells e c'):=by
 subst h;subst h';exact tA e l
theorem bQi{H H':Nat→Option HO}{ρ:Nat→Nat}(x:D):Sub H H' ρ (.d x) (.d x):=⟨rfl,fun a ha=>by simp[vis]at ha⟩
theorem bRs{H H':Nat→Option HO}{ρ:Nat→Nat}{x y:D}(h:x=y):Sub H H' ρ (.d x) (.d y):=h ▸ bQi x
theorem aFm{H H':Nat→Option HO}{ρ:Nat→Nat}(x y:D):Sub H H' ρ (.d x) (.d y)↔x=y:=by
 constructor
 ·intro h
  have:frz H 8 (.d x)=some y:=h.1
  rw[aVh]at this
  injection this
 ·exact bRs
theorem aKw{H H':Nat→Option HO}{ρ:Nat→Nat}{a o l s b o' l' s':Nat}:Sub H H' ρ (.own a o l s) (.own b o' l' s')↔(a=ρ b∧o=o'∧l=l'∧s=s'∧(H' b).isSome=true):=EJ
theorem aKv{H H':Nat→Option HO}{ρ:Nat→Nat}{a o b o':Nat}:Sub H H' ρ (.ptr a o) (.ptr b o')↔(a=ρ b∧o=o'∧(H' b).isSome=true):=EJ
theorem aPo{H H':Nat→Option HO}{ρ:Nat→Nat}{a b:Nat}:Sub H H' ρ (.mp a) (.mp b)↔(a=ρ b∧(H' b).isSome=true):=EJ
theorem bKm{H H':Nat→Option HO}{ρ:Nat→Nat}:Sub H H' ρ .nil .nil↔True:=EJ
theorem bRr{H H':Nat→Option HO}{ρ:Nat→Nat}:Sub H H' ρ .un .un↔True:=EJ
theorem kW{H H':Nat→Option HO}{ρ:Nat→Nat}{x:AV}{y:D}(h:frz H 8 x=some y)(hv:∀ a∈vis H 8 x,∀ id,(H' id).isSome=true→ρ id≠a):Sub H H' ρ x (.d y):=by
 have h2:oB H H' ρ x (.d y):=by cases x<;>exact⟨h,hv⟩
 cases x<;>exact h2
/-! Cells -/
theorem wR(l:List D)(off:Nat)(x:D)(h:off<l.length):lay (l.map AV.d) off [.d x]=(l.set off x).map .d:=by
 have h1:off+[AV.d x].length≤(l.map AV.d).length:=by rw[List.length_map];exact h
 apply Ca
 intro k
 rw[wS h1,Ax,Ax,List.getElem?_set]
 by_cases e:off=k
 ·subst e;simp[h]
 ·rw[Ae e,Ae]
  simp only[List.length_singleton];omega
theorem tZ(l:List D)(n:Nat)(h:n=l.length):chunk 1 n l=l.map fun x=>[x]:=by
 subst h
 unfold chunk
 apply Ca
 intro k
 by_cases hk:k<l.length
 ·simp only[Ax,List.getElem?_range hk,Option.map_some,CK,Aa hk]
  congr 1
  rw[List.drop_eq_getElem_cons hk];rfl
 ·rw[AG (by simpa using hk),AG (by simpa using hk)]
theorem zK(l:List (List D))(h:∀ x∈l,x.length=3):chunk 3 l.length l.flatten=l:=by
 induction l with
 |nil=>rfl
 |cons a l ih =>
  have ha:=h a (Av ..)
  have:=ih fun x hx=>h x (As _ hx)
  unfold chunk at this ⊢
  rw[AB,List.range_succ_eq_map,AR,List.map_map,BP]
  congr 1
  ·simp[ha]
  ·conv=>rhs;rw[←this]
   apply List.map_congr_left
   intro i _
   simp only[Function.comp]
   rw[show Nat.succ i*3=a.length+i*3 from by omega,List.drop_append,List.drop_eq_nil_of_le (by omega)]
   simp
theorem bCl(n:Nat)(x:D):(Ay n [AV.d x]).flatten=(Ay n x).map .d:=by
 induction n with
 |zero=>rfl
 |succ n ih=>simp only[Dh,BP,ih];rfl
theorem bTu(H:Nat→Option HO)(n:Nat)(cs:List AV):frz H (n+1) (.ag cs)=(cs.mapM (frz H n)).map .ag:=rfl
def iF(H H':Nat→Option HO)(ρ:Nat→Nat):List AV→List AV→Prop
 |[],[]=>True
 |c::cs,d::ds=>oB H H' ρ c d∧iF H H' ρ cs ds
 |_,_=>False
theorem eK{H H':Nat→Option HO}{ρ:Nat→Nat}:∀{cs ds:List AV},iF H H' ρ cs ds↔(cs.length=ds.length∧∀(k:Nat) c d,cs[k]? = some c→ds[k]? = some d→oB H H' ρ c d)
 |[],[]=>by simp[iF]
 |c::cs,d::ds=>by
  rw[iF,eK]
  constructor
  ·rintro⟨h1,h2,h3⟩
   refine⟨by simp[h2],fun k a b ha hb=>?_⟩
   rcases k with _|k
   ·simp at ha hb;subst ha;subst hb;exact h1
   ·exact h3 k a b (by simpa using ha) (by simpa using hb)
  ·rintro⟨h1,h2⟩
   exact⟨h2 0 c d rfl rfl,by simpa using h1,fun k a b ha hb=>h2 (k+1) a b (by simpa using ha) (by simpa using hb)⟩
 |[],_::_=>by simp[iF]
 |_::_,[]=>by simp[iF]
theorem eJ{H H':Nat→Option HO}{ρ:Nat→Nat}{e e':TypeId}{cs ds:List AV}:lU H H' ρ (.cells e cs) (.cells e' ds)↔(e=e'∧iF H H' ρ cs ds):=by
 rw[eK];rfl
theorem jO{H H':Nat→Option HO}{ρ:Nat→Nat}(x y:D):oB H H' ρ (.d x) (.d y)↔x=y:=aFm x y
theorem bBb{H H':Nat→Option HO}{ρ:Nat→Nat}:oB H H' ρ .nil .nil↔True:=EJ
theorem bKp{H H':Nat→Option HO}{ρ:Nat→Nat}:oB H H' ρ .un .un↔True:=EJ
theorem aJm{H H':Nat→Option HO}{ρ:Nat→Nat}{c c':List AV}{l:List D}(h:c=l.map .d)(h':c'=l.map .d):iF H H' ρ c c':=by
 have:=aPq (H:=H) (H':=H') (ρ:=ρ) (e:=0) h h'
 exact(eJ.1 this).2
theorem aOm{H H':Nat→Option HO}{ρ:Nat→Nat}{l l':List D}:iF H H' ρ (l.map .d) (l'.map .d)↔l=l':=by
 constructor
 ·intro h
  obtain⟨h1,h2⟩:=eK.1 h
  apply Ca
  intro k
  by_cases hk:k<l.length
  ·have hk':k<l'.length:=by simpa using(by simpa using h1:l.length=l'.length) ▸ hk
   have:=h2 k (.d l[k]) (.d l'[k]) (by simp[hk]) (by simp[hk'])
   rw[jO]at this
   rw[Aa hk,Aa hk',this]
  ·have hl:l.length=l'.length:=by simpa using h1
   have hk':¬k<l'.length:=by omega
   rw[AG (by omega),AG (by omega)]
 ·rintro rfl;exact aJm rfl rfl
theorem aBc{H H':Nat→Option HO}{ρ:Nat→Nat}{k:IntKind}{es:List (Int×AV)}(h:∀ x∈es,Sub H H' ρ x.2 x.2):lU H H' ρ (.map k es) (.map k es):=by
 refine⟨rfl,rfl,fun j x y hx hy=>?_⟩
 rw[hx]at hy;injection hy with hy;subst hy
 exact⟨rfl,.inr (h x (List.mem_of_getElem? hx))⟩
theorem aJl{H H':Nat→Option HO}{ρ:Nat→Nat}{l:List D}{c c':List AV}:iF H H' ρ (l.map .d++c) (l.map .d++c')↔iF H H' ρ c c':=by
 induction l with
 |nil=>rfl
 |cons x l ih=>simp only[AR,B8,iF,ih,jO,true_and]
end Go.Am
end

section
set_option linter.unusedVariables false
set_option linter.unusedSimpArgs false
namespace Go.Am
variable {P:Program}
inductive Dm{α:Sort _}(a:α):Type where
 |mk
def dR{α:Type}(x:Option α)(k:α→Prop)(_:Dm k):Prop:=match x with|some a=>k a|none=>False
theorem aSf{α:Type}(a:α)(k:α→Prop)(d:Dm k):dR (some a) k d=k a:=rfl
def IfD(t:Bool)(A B:Prop)(_:Dm (A,B)):Prop:=if t then A else B
theorem bFp(A B:Prop)(d:Dm (A,B)):IfD true A B d=A:=rfl
theorem aYw(A B:Prop)(d:Dm (A,B)):IfD false A B d=B:=by simp[IfD]
def OWd(P:Program)(ops:Array Oper)(l:List Oper)(σ:St)(con:List Nat)(k:St→List Nat→Prop)(_:Dm (ops,l,k)):Prop:=OW P ops l σ con k
def O1d(P:Program)(o:Oper)(σ:St)(con:List Nat)(k:St→List Nat→Prop)(_:Dm (o,k)):Prop:=O1 P o σ con k
def aFh(σ:St)(con:List Nat)(k:St→Prop)(_:Dm k):Prop:=k (fin σ con)
theorem aS(σ:St)(k:St→Prop)(d:Dm k):aFh σ [] k d=k σ:=rfl
theorem aZe(σ:St)(c:Nat)(l:List Nat)(k:St→Prop)(d:Dm k):aFh σ (c::l) k d=k ⟨fun t=>kI (c::l) (σ.Γ t),fun id=>(σ.H id).map (eC (c::l)),σ.n⟩:=rfl
def bJm(P:Program)(v:AV)(x y:Code)(σ:St)(Q:Exit→St→Prop)(_:Dm (x,y,Q)):Prop:=match v with|.d (.b t)=>IfD t (AWP P x σ Q) (AWP P y σ Q) .mk|.ub=>AWP P x σ Q∧AWP P y σ Q|_=>False
theorem bPb(t:Bool)(x y:Code)(σ:St)(Q:Exit→St→Prop)(d:Dm (x,y,Q)):bJm P (.d (.b t)) x y σ Q d=IfD t (AWP P x σ Q) (AWP P y σ Q) .mk:=rfl
theorem bHa(x y:Code)(σ:St)(Q:Exit→St→Prop)(d:Dm (x,y,Q)):bJm P .ub x y σ Q d=(AWP P x σ Q∧AWP P y σ Q):=rfl
theorem aHg(c:Operand)(x y:Code)(σ:St)(Q:Exit→St→Prop):AWP P (.cond c x y) σ Q=bJm P (oev σ.Γ c) x y σ Q .mk:=rfl
theorem zM(id:Nat)(l:List Oper)(draw:Bool)(σ:St)(Q:Exit→St→Prop):AWP P (.region id l.toArray draw) σ Q=OWd P l.toArray l σ [] (fun σ' con=>aFh σ' con (Q .normal) .mk) .mk:=rfl
def aPb(P:Program)(c:Code)(σ:St)(Q:Exit→St→Prop)(_:Dm (c,Q)):Prop:=AWP P (.loop c) σ Q
theorem aHe(c:Code)(σ:St)(Q:Exit→St→Prop):AWP P (.loop c) σ Q=aPb P c σ Q .mk:=rfl
theorem rX{τ:Type}{c:Code}{σ:St}{Q:Exit→St→Prop}{d:Dm (c,Q)}(S:τ→St)(m:τ→Nat)(x0:τ)(h0:∃ ρ,Wk σ (S x0) ρ)
  (h:∀ x,AWP P c (S x) fun e σ'=>match e with|.normal=>∃ y,m y<m x∧WkR σ' (S y)|e=>Q e σ'):aPb P c σ Q d:=aEb S m x0 (.inr h0) h
def LuP(P:Program)(c:Code)(n:Nat)(σ:St)(Q:Exit→St→Prop)(_:Dm (c,Q)):Prop:=LU P c n σ Q
theorem cT(c:Code)(n:Nat)(σ:St)(Q:Exit→St→Prop)(d:Dm (c,Q)):LuP P c (n+1) σ Q d=AWP P c σ fun e σ'=>match e with|.normal=>LuP P c n σ' Q .mk|e=>Q e σ':=rfl
theorem wL(n:Nat){c:Code}{σ:St}{Q:Exit→St→Prop}{d:Dm (c,Q)}(h:LuP P c n σ Q .mk):aPb P c σ Q d:=bNf h
def Nxt{τ:Type}(I:τ→Prop)(m:τ→Nat)(S:τ→St)(x:τ)(σ':St)(_:Dm (I,m,S,x)):Prop:=∃ y,I y∧m y<m x∧WkR σ' (S y)
theorem aJ{τ:Type}{I:τ→Prop}{m:τ→Nat}{S:τ→St}{x:τ}{σ':St}{d:Dm (I,m,S,x)}(y:τ)(h1:I y)(h2:m y<m x)(h3:∃ ρ,Wk σ' (S y) ρ):Nxt I m S x σ' d:=⟨y,h1,h2,.inr h3⟩
theorem aU{τ:Type}{c:Code}{σ:St}{Q:Exit→St→Prop}{d:Dm (c,Q)}(I:τ→Prop)(S:τ→St)(m:τ→Nat)(x0:τ)(hI:I x0)(h0:∃ ρ,Wk σ (S x0) ρ)
  (h:∀ x,I x→AWP P c (S x) fun e σ'=>match e with|.normal=>Nxt I m S x σ' .mk|e=>Q e σ'):aPb P c σ Q d:=by
 refine rX (τ:={ x:τ // I x }) (fun x=>S x.1) (fun x=>m x.1) ⟨x0,hI⟩ h0 fun x=>?_
 refine cast (congrArg (AWP P c (S x.1)) ?_) (h x.1 x.2)
 funext e σ'
 cases e with
 |normal=>exact propext ⟨fun⟨y,h1,h2,h3⟩=>⟨⟨y,h1⟩,h2,h3⟩,fun⟨y,h2,h3⟩=>⟨y.1,y.2,h2,h3⟩⟩
 |_=>rfl
def ExP(Q:Exit→St→Prop)(e:Exit)(σ:St)(_:Dm Q):Prop:=∃ σ2,WkR σ σ2∧Q e σ2
theorem bGj{Q:Exit→St→Prop}{e:Exit}{σ:St}{d:Dm Q}(σ2:St)(hw:∃ ρ,Wk σ σ2 ρ)(h:Q e σ2):ExP Q e σ d:=⟨σ2,.inr hw,h⟩
theorem aCh{τ:Type}{c:Code}{σ:St}{Q:Exit→St→Prop}{d:Dm (c,Q)}(I:τ→Prop)(S:τ→St)(m:τ→Nat)(x0:τ)(hI:I x0)(h0:∃ ρ,Wk σ (S x0) ρ)
  (h:∀ x,I x→AWP P c (S x) fun e σ'=>match e with|.normal=>Nxt I m S x σ' .mk|e=>ExP Q e σ' .mk):aPb P c σ Q d:=by
 refine(⟨{ x:τ // I x },fun x=>S x.1,fun x=>m x.1,⟨x0,hI⟩,.inr h0,fun x=>?_⟩:AWP P (.loop c) σ Q)
 refine aEq c (fun e σ' h=>?_) (h x.1 x.2)
 cases e with
 |normal=>obtain⟨y,h1,h2,h3⟩:=h;exact⟨⟨y,h1⟩,h2,h3⟩
 |_=>exact h
theorem cW{o:Oper}{σ:St}{con:List Nat}{k:St→List Nat→Prop}{d:Dm (o,k)} (h:O1 P o σ con k=(kind P o.op=0∧match nev P o.op σ.Γ σ.n with
  |some (av,nb)=>k ⟨bT σ.Γ o.dst av,jF σ.H σ.n nb,cnt nb σ.n⟩ con
  |none=>False)) (hk:kind P o.op=0):O1d P o σ con k d=dR (nev P o.op σ.Γ σ.n) (fun p=>k ⟨bT σ.Γ o.dst p.1,jF σ.H σ.n p.2,cnt p.2 σ.n⟩ con) .mk:=by
 rw[O1d,h]
 simp only[hk,true_and]
 cases nev P o.op σ.Γ σ.n with
 |none=>rfl
 |some p=>obtain⟨a,b⟩:=p;rfl
section
variable (dst:Option Tmp) (ty:TypeId) (pos:String) (after:Array Edge) (guard:Option (Nat×Bool)) (σ:St) (con:List Nat) (k:St→List Nat→Prop)
theorem aUk(x:Operand)(d:Dm ((⟨dst,.move x,ty,pos,after,guard⟩:Oper),k)):O1d P ⟨dst,.move x,ty,pos,after,guard⟩ σ con k d=dR (nev P (.move x) σ.Γ σ.n) (fun p=>k ⟨bT σ.Γ dst p.1,jF σ.H σ.n p.2,cnt p.2 σ.n⟩ con) .mk:=cW rfl rfl
theorem zF(x:Operand)(d:Dm ((⟨dst,.nilCheck x,ty,pos,after,guard⟩:Oper),k)):O1d P ⟨dst,.nilCheck x,ty,pos,after,guard⟩ σ con k d=dR (nev P (.nilCheck x) σ.Γ σ.n) (fun p=>k ⟨bT σ.Γ dst p.1,jF σ.H σ.n p.2,cnt p.2 σ.n⟩ con) .mk:=cW rfl rfl
theorem aGf(x:Operand)(d:Dm ((⟨dst,.assign x,ty,pos,after,guard⟩:Oper),k)):O1d P ⟨dst,.assign x,ty,pos,after,guard⟩ σ con k d=dR (nev P (.assign x) σ.Γ σ.n) (fun p=>k ⟨bT σ.Γ dst p.1,jF σ.H σ.n p.2,cnt p.2 σ.n⟩ con) .mk:=cW rfl rfl
theorem aUj(a b c:Operand)(d:Dm ((⟨dst,.pick a b c,ty,pos,after,guard⟩:Oper),k)):O1d P ⟨dst,.pick a b c,ty,pos,after,guard⟩ σ con k d=dR (nev P (.pick a b c) σ.Γ σ.n) (fun p=>k ⟨bT σ.Γ dst p.1,jF σ.H σ.n p.2,cnt p.2 σ.n⟩ con) .mk:=cW rfl rfl
theorem aMv(e:TypeId)(d:Dm ((⟨dst,.alloc e,ty,pos,after,guard⟩:Oper),k)):O1d P ⟨dst,.alloc e,ty,pos,after,guard⟩ σ con k d=dR (nev P (.alloc e) σ.Γ σ.n) (fun p=>k ⟨bT σ.Γ dst p.1,jF σ.H σ.n p.2,cnt p.2 σ.n⟩ con) .mk:=cW rfl rfl
theorem bDl(e:TypeId)(x:Operand)(d:Dm ((⟨dst,.box e x,ty,pos,after,guard⟩:Oper),k)):O1d P ⟨dst,.box e x,ty,pos,after,guard⟩ σ con k d=dR (nev P (.box e x) σ.Γ σ.n) (fun p=>k ⟨bT σ.Γ dst p.1,jF σ.H σ.n p.2,cnt p.2 σ.n⟩ con) .mk:=cW rfl rfl
theorem aMt(e:TypeId)(x:Array (Nat×Operand))(d:Dm ((⟨dst,.build e x,ty,pos,after,guard⟩:Oper),k)):O1d P ⟨dst,.build e x,ty,pos,after,guard⟩ σ con k d=dR (nev P (.build e x) σ.Γ σ.n) (fun p=>k ⟨bT σ.Γ dst p.1,jF σ.H σ.n p.2,cnt p.2 σ.n⟩ con) .mk:=cW rfl rfl
theorem uK(e:TypeId)(n:Nat)(x:Array (Nat×Operand))(d:Dm ((⟨dst,.buildSlice e n x,ty,pos,after,guard⟩:Oper),k)):O1d P ⟨dst,.buildSlice e n x,ty,pos,after,guard⟩ σ con k d=dR (nev P (.buildSlice e n x) σ.Γ σ.n) (fun p=>k ⟨bT σ.Γ dst p.1,jF σ.H σ.n p.2,cnt p.2 σ.n⟩ con) .mk:=cW rfl rfl
theorem wB(e:TypeId)(x y:Operand)(d:Dm ((⟨dst,.makeSlice e x y,ty,pos,after,guard⟩:Oper),k)):O1d P ⟨dst,.makeSlice e x y,ty,pos,after,guard⟩ σ con k d=dR (nev P (.makeSlice e x y) σ.Γ σ.n) (fun p=>k ⟨bT σ.Γ dst p.1,jF σ.H σ.n p.2,cnt p.2 σ.n⟩ con) .mk:=cW rfl rfl
theorem aBx(e:TypeId)(x:Option Operand)(d:Dm ((⟨dst,.makeMap e x,ty,pos,after,guard⟩:Oper),k)):O1d P ⟨dst,.makeMap e x,ty,pos,after,guard⟩ σ con k d=dR (nev P (.makeMap e x) σ.Γ σ.n) (fun p=>k ⟨bT σ.Γ dst p.1,jF σ.H σ.n p.2,cnt p.2 σ.n⟩ con) .mk:=cW rfl rfl
theorem aMu(b:BinOp)(t:TypeId)(x y:Operand)(u:TypeId)(d:Dm ((⟨dst,.binOp b t x y u,ty,pos,after,guard⟩:Oper),k)):O1d P ⟨dst,.binOp b t x y u,ty,pos,after,guard⟩ σ con k d=dR (nev P (.binOp b t x y u) σ.Γ σ.n) (fun p=>k ⟨bT σ.Γ dst p.1,jF σ.H σ.n p.2,cnt p.2 σ.n⟩ con) .mk:=cW rfl rfl
theorem aUi(b:UnOp)(t:TypeId)(x:Operand)(d:Dm ((⟨dst,.unOp b t x,ty,pos,after,guard⟩:Oper),k)):O1d P ⟨dst,.unOp b t x,ty,pos,after,guard⟩ σ con k d=dR (nev P (.unOp b t x) σ.Γ σ.n) (fun p=>k ⟨bT σ.Γ dst p.1,jF σ.H σ.n p.2,cnt p.2 σ.n⟩ con) .mk:=cW rfl rfl
theorem aBz(s t:TypeId)(x:Operand)(d:Dm ((⟨dst,.convert s t x,ty,pos,after,guard⟩:Oper),k)):O1d P ⟨dst,.convert s t x,ty,pos,after,guard⟩ σ con k d=dR (nev P (.convert s t x) σ.Γ σ.n) (fun p=>k ⟨bT σ.Γ dst p.1,jF σ.H σ.n p.2,cnt p.2 σ.n⟩ con) .mk:=cW rfl rfl
theorem wD(s:TypeId)(x:Operand)(f:Nat)(d:Dm ((⟨dst,.fieldAddr s x f,ty,pos,after,guard⟩:Oper),k)):O1d P ⟨dst,.fieldAddr s x f,ty,pos,after,guard⟩ σ con k d=dR (nev P (.fieldAddr s x f) σ.Γ σ.n) (fun p=>k ⟨bT σ.Γ dst p.1,jF σ.H σ.n p.2,cnt p.2 σ.n⟩ con) .mk:=cW rfl rfl
theorem aMq(s:TypeId)(x:Operand)(f:Nat)(d:Dm ((⟨dst,.field s x f,ty,pos,after,guard⟩:Oper),k)):O1d P ⟨dst,.field s x f,ty,pos,after,guard⟩ σ con k d=dR (nev P (.field s x f) σ.Γ σ.n) (fun p=>k ⟨bT σ.Γ dst p.1,jF σ.H σ.n p.2,cnt p.2 σ.n⟩ con) .mk:=cW rfl rfl
theorem wC(s:TypeId)(x y:Operand)(d:Dm ((⟨dst,.indexAddr s x y,ty,pos,after,guard⟩:Oper),k)):O1d P ⟨dst,.indexAddr s x y,ty,pos,after,guard⟩ σ con k d=dR (nev P (.indexAddr s x y) σ.Γ σ.n) (fun p=>k ⟨bT σ.Γ dst p.1,jF σ.H σ.n p.2,cnt p.2 σ.n⟩ con) .mk:=cW rfl rfl
theorem aBy(x:Operand)(i:Nat)(d:Dm ((⟨dst,.extract x i,ty,pos,after,guard⟩:Oper),k)):O1d P ⟨dst,.extract x i,ty,pos,after,guard⟩ σ con k d=dR (nev P (.extract x i) σ.Γ σ.n) (fun p=>k ⟨bT σ.Γ dst p.1,jF σ.H σ.n p.2,cnt p.2 σ.n⟩ con) .mk:=cW rfl rfl
theorem aMp(t:TypeId)(x:Operand)(a b c:Option Operand)(d:Dm ((⟨dst,.slice t x a b c,ty,pos,after,guard⟩:Oper),k)):O1d P ⟨dst,.slice t x a b c,ty,pos,after,guard⟩ σ con k d=dR (nev P (.slice t x a b c) σ.Γ σ.n) (fun p=>k ⟨bT σ.Γ dst p.1,jF σ.H σ.n p.2,cnt p.2 σ.n⟩ con) .mk:=cW rfl rfl
theorem bDk(args:Array Operand)(ts:Array TypeId)(d:Dm ((⟨dst,.call ⟨.builtin .len,args,ts⟩,ty,pos,after,guard⟩:Oper),k)):O1d P ⟨dst,.call ⟨.builtin .len,args,ts⟩,ty,pos,after,guard⟩ σ con k d=dR (nev P (.call ⟨.builtin .len,args,ts⟩) σ.Γ σ.n) (fun p=>k ⟨bT σ.Γ dst p.1,jF σ.H σ.n p.2,cnt p.2 σ.n⟩ con) .mk:=cW rfl rfl
theorem bDj(args:Array Operand)(ts:Array TypeId)(d:Dm ((⟨dst,.call ⟨.builtin .max,args,ts⟩,ty,pos,after,guard⟩:Oper),k)):O1d P ⟨dst,.call ⟨.builtin .max,args,ts⟩,ty,pos,after,guard⟩ σ con k d=dR (nev P (.call ⟨.builtin .max,args,ts⟩) σ.Γ σ.n) (fun p=>k ⟨bT σ.Γ dst p.1,jF σ.H σ.n p.2,cnt p.2 σ.n⟩ con) .mk:=cW rfl rfl
theorem bDi(args:Array Operand)(ts:Array TypeId)(d:Dm ((⟨dst,.call ⟨.builtin .min,args,ts⟩,ty,pos,after,guard⟩:Oper),k)):O1d P ⟨dst,.call ⟨.builtin .min,args,ts⟩,ty,pos,after,guard⟩ σ con k d=dR (nev P (.call ⟨.builtin .min,args,ts⟩) σ.Γ σ.n) (fun p=>k ⟨bT σ.Γ dst p.1,jF σ.H σ.n p.2,cnt p.2 σ.n⟩ con) .mk:=cW rfl rfl
theorem aUl(t:TypeId)(x:Operand)(d:Dm ((⟨dst,.load t x,ty,pos,after,guard⟩:Oper),k)):O1d P ⟨dst,.load t x,ty,pos,after,guard⟩ σ con k d=dR (wN P σ.H t (oev σ.Γ x)) (fun v=>k ⟨bT σ.Γ dst v,σ.H,σ.n⟩ con) .mk:=by
 unfold O1d;simp only[O1,dR];split<;>simp_all
theorem aGc(t:TypeId)(m x:Operand)(ok:Bool)(d:Dm ((⟨dst,.lookup t m x ok,ty,pos,after,guard⟩:Oper),k)):O1d P ⟨dst,.lookup t m x ok,ty,pos,after,guard⟩ σ con k d=dR (lJ P σ.H t (oev σ.Γ m) (oev σ.Γ x) ok) (fun v=>k ⟨bT σ.Γ dst v,σ.H,σ.n⟩ con) .mk:=by
 unfold O1d;simp only[O1,dR];split<;>simp_all
theorem aMr(x:Operand)(d:Dm ((⟨dst,.entry x,ty,pos,after,guard⟩:Oper),k)):O1d P ⟨dst,.entry x,ty,pos,after,guard⟩ σ con k d=dR (bGo σ.H (oev σ.Γ x)) (fun v=>k ⟨bT σ.Γ dst v,σ.H,σ.n⟩ con) .mk:=by
 unfold O1d;simp only[O1,dR];split<;>simp_all
def bJj(x:Option (Nat×IntKind×List (Int×D)))(k0:Prop)(k1:Nat→IntKind→List (Int×D)→Int×D→Prop)(_:Dm (k0,k1)):Prop:=match x with
 |some (id,kd,es)=>(es=[]→k0)∧∀(j:Nat) e,es[j]? = some e→k1 id kd (es.eraseIdx j) e
 |none=>False
theorem aMz{id:Nat}{kd:IntKind}{es:List (Int×D)}{k0:Prop}{k1:Nat→IntKind→List (Int×D)→Int×D→Prop}{d:Dm (k0,k1)}(h0:es=[]→k0)(h1:∀(j:Nat) e,es[j]? = some e→k1 id kd (es.eraseIdx j) e):bJj (some (id,kd,es)) k0 k1 d:=⟨h0,h1⟩
theorem bMk(x:Operand)(d:Dm ((⟨dst,.next x false,ty,pos,after,guard⟩:Oper),k)):O1d P ⟨dst,.next x false,ty,pos,after,guard⟩ σ con k d=bJj (itA σ.H (oev σ.Γ x)) (k ⟨bT σ.Γ dst (.tp [.d (.b false)]),σ.H,σ.n⟩ con)
  (fun id kd es e=>k ⟨bT σ.Γ dst (.tp [.d (.b true),.any,.any]),upd σ.H id (some (.iter kd (some e) es)),σ.n⟩ con) .mk:=by
 unfold O1d bJj;simp only[O1,true_and];cases itA σ.H (oev σ.Γ x)<;>rfl
theorem bDh(t:TypeId)(x:Operand)(d:Dm ((⟨dst,.range t x,ty,pos,after,guard⟩:Oper),k)):O1d P ⟨dst,.range t x,ty,pos,after,guard⟩ σ con k d=dR (nev P (.range t x) σ.Γ σ.n) (fun p=>k ⟨bT σ.Γ dst p.1,jF σ.H σ.n p.2,cnt p.2 σ.n⟩ con) .mk:=cW rfl rfl
theorem aMo(t:TypeId)(ad x:Operand)(d:Dm ((⟨dst,.store t ad x,ty,pos,after,guard⟩:Oper),k)):O1d P ⟨dst,.store t ad x,ty,pos,after,guard⟩ σ con k d=dR (oU P σ.H t (oev σ.Γ ad) (oev σ.Γ x)) (fun p=>k ⟨bT σ.Γ dst .un,upd σ.H p.1 (some p.2),σ.n⟩ con) .mk:=by
 unfold O1d;simp only[O1,dR];split<;>simp_all
theorem wA(t:TypeId)(m x v:Operand)(d:Dm ((⟨dst,.mapUpdate t m x v,ty,pos,after,guard⟩:Oper),k)):O1d P ⟨dst,.mapUpdate t m x v,ty,pos,after,guard⟩ σ con k d=dR (rI P σ.H t (oev σ.Γ m) (oev σ.Γ x) (some (oev σ.Γ v))) (fun p=>k ⟨bT σ.Γ dst .any,upd σ.H p.1 (some p.2),σ.n⟩ con) .mk:=by
 unfold O1d;simp only[O1,dR];split<;>simp_all
theorem aGd(t:TypeId)(m x v:Operand)(d:Dm ((⟨dst,.insert t m x v,ty,pos,after,guard⟩:Oper),k)):O1d P ⟨dst,.insert t m x v,ty,pos,after,guard⟩ σ con k d=dR (rI P σ.H t (oev σ.Γ m) (oev σ.Γ x) (some (oev σ.Γ v))) (fun p=>k ⟨bT σ.Γ dst .any,upd σ.H p.1 (some p.2),σ.n⟩ con) .mk:=by
 unfold O1d;simp only[O1,dR];split<;>simp_all
theorem aGe(m x:Operand)(t u:TypeId)(d:Dm ((⟨dst,.call ⟨.builtin .delete,#[m,x],#[t,u]⟩,ty,pos,after,guard⟩:Oper),k)):O1d P ⟨dst,.call ⟨.builtin .delete,#[m,x],#[t,u]⟩,ty,pos,after,guard⟩ σ con k d=dR (rI P σ.H t (oev σ.Γ m) (oev σ.Γ x) none) (fun p=>k ⟨bT σ.Γ dst .any,upd σ.H p.1 (some p.2),σ.n⟩ con) .mk:=by
 unfold O1d;simp only[O1,dR];split<;>simp_all
theorem aGg(s x:Operand)(t:TypeId)(d:Dm ((⟨dst,.call ⟨.builtin .append,#[s,x],#[t,t]⟩,ty,pos,after,guard⟩:Oper),k)):O1d P ⟨dst,.call ⟨.builtin .append,#[s,x],#[t,t]⟩,ty,pos,after,guard⟩ σ con k d=dR (zQ P σ.H t (oev σ.Γ s) (oev σ.Γ x) σ.n) (fun p=>k ⟨bT σ.Γ dst p.1,jF (kill p.2.2 σ.H) σ.n p.2.1,cnt p.2.1 σ.n⟩ (p.2.2++con)) .mk:=by
 unfold O1d;simp only[O1,dR];simp only[true_and]
 cases zQ P σ.H t (oev σ.Γ s) (oev σ.Γ x) σ.n with
 |none=>rfl
 |some p=>obtain⟨a,b,c⟩:=p;rfl
end
def bJo(P:Program)(f:FuncId)(avs:List AV)(H:Nat→Option HO)(k:D→Prop)(_:Dm k):Prop:=∃ ds r,iB H avs=some ds∧Spec P f ds r∧k r
theorem aA{f:FuncId}{avs:List AV}{H:Nat→Option HO}{k:D→Prop}{d:Dm k}{ds:List D}{r:D}(h1:iB H avs=some ds)(h2:Spec P f ds r)(h3:k r):bJo P f avs H k d:=⟨ds,r,h1,h2,h3⟩
def bRf(P:Program)(f:FuncId)(x:Option (Nat×AV))(rest:List AV)(H:Nat→Option HO)(k:Nat→HO→D→Prop)(_:Dm k):Prop :=
 ∃ id h ho,x=some (id,h)∧H id=some ho∧pG ho=true∧gT H rest=[]∧∃ ds ho' r,iB H rest=some ds∧mP P f h ho ds ho' r∧ho'.len=ho.len∧pG ho'=true∧k id ho' r
theorem zL{f:FuncId}{rest:List AV}{H:Nat→Option HO}{k:Nat→HO→D→Prop}{d:Dm k}{id:Nat}{h:AV}{ho ho':HO}{ds:List D}{r:D}(h1:H id=some ho)(h2:pG ho=true)(h3:gT H rest=[])
  (h4:iB H rest=some ds) (h5:mP P f h ho ds ho' r) (h6:ho'.len=ho.len) (h7:pG ho'=true) (h8:k id ho' r):bRf P f (some (id,h)) rest H k d:=⟨id,h,ho,rfl,h1,h2,h3,ds,ho',r,h4,h5,h6,h7,h8⟩
def bWp:List AV→Bool
 |[.kf _ _]=>true
 |_=>false
theorem aUm(dst:Option Tmp)(ty:TypeId)(pos:String)(after:Array Edge)(guard:Option (Nat×Bool))(σ:St)(con:List Nat)(k:St→List Nat→Prop)(f:FuncId)(args:List Operand)(ts:Array TypeId)
  (d:Dm ((⟨dst,.call ⟨.value (.func f),args.toArray,ts⟩,ty,pos,after,guard⟩:Oper),k)) (hm:bH P f=false) (hn:bI P f=false) (hk:bWp (args.map (oev σ.Γ))=false):O1d P ⟨dst,.call ⟨.value (.func f),args.toArray,ts⟩,ty,pos,after,guard⟩ σ con k d =
  bJo P f (args.map (oev σ.Γ)) σ.H (fun r=>k ⟨bT σ.Γ dst (inj r),kill (cE σ.H (args.map (oev σ.Γ)) r) σ.H,σ.n⟩ (cE σ.H (args.map (oev σ.Γ)) r++con)) .mk:=by
 show OC P f args.toArray dst σ con k=_
 unfold OC bJo
 simp only[hm,hn,AU,if_false,false_and,false_or]
 split
 ·rename_i hx;rw[show args.map (oev σ.Γ)=_ from hx]at hk;cases hk
 ·rfl
theorem aMs{dst:Option Tmp}{ty:TypeId}{pos:String}{after:Array Edge}{guard:Option (Nat×Bool)}{σ:St}{con:List Nat}{k:St→List Nat→Prop}{f:FuncId}{x:Operand}{rest:List Operand}{ts:Array TypeId}
  {d:Dm ((⟨dst,.call ⟨.value (.func f),(x::rest).toArray,ts⟩,ty,pos,after,guard⟩:Oper),k)} (hm:bH P f=true)
  (h:bRf P f (hd1 (oev σ.Γ x)) (rest.map (oev σ.Γ)) σ.H (fun id ho' r=>k ⟨bT σ.Γ dst (inj r),upd σ.H id (some ho'),σ.n⟩ con) .mk):O1d P ⟨dst,.call ⟨.value (.func f),(x::rest).toArray,ts⟩,ty,pos,after,guard⟩ σ con k d:=by
 obtain⟨id,hh,ho,h1,h2,h3,h4,h5⟩:=h
 show OC P f (x::rest).toArray dst σ con k
 unfold OC
 simp only[hm,if_true,h1,h2]
 exact .inr (.inl ⟨h3,h4,h5⟩)
theorem iZ{dst:Option Tmp}{ty:TypeId}{pos:String}{after:Array Edge}{guard:Option (Nat×Bool)}{σ:St}{con:List Nat}{k:St→List Nat→Prop}{f:FuncId}{args:List Operand}{ts:Array TypeId}
  {d:Dm ((⟨dst,.call ⟨.value (.func f),args.toArray,ts⟩,ty,pos,after,guard⟩:Oper),k)} (ds:List D) (v:Nat→AV) (hs:Nat→List HO) (hm:bH P f=false) (hn:bI P f=true) (hpos:0<σ.n) (hfr:iB σ.H (args.map (oev σ.Γ))=some ds)
  (hvis:gT σ.H (args.map (oev σ.Γ))=[]) (hsp:rG P f ds v hs) (hk:k ⟨bT σ.Γ dst (v σ.n),fE σ.H σ.n (hs σ.n),σ.n+(hs σ.n).length⟩ con) :
  O1d P ⟨dst,.call ⟨.value (.func f),args.toArray,ts⟩,ty,pos,after,guard⟩ σ con k d:=by
 show OC P f args.toArray dst σ con k
 unfold OC
 simp only[hm,AU,if_false]
 exact .inl ⟨hn,hpos,ds,v,hs,hfr,hvis,hsp,hk⟩
theorem bDg{dst:Option Tmp}{ty:TypeId}{pos:String}{after:Array Edge}{guard:Option (Nat×Bool)}{σ:St}{con:List Nat}{k:St→List Nat→Prop}{f:FuncId}{x:Operand}{rest:List Operand}{ts:Array TypeId}
  {d:Dm ((⟨dst,.call ⟨.value (.func f),(x::rest).toArray,ts⟩,ty,pos,after,guard⟩:Oper),k)} (ν:Nat→Nat) (h:AV) (ro:HO) (hs:List HO) (ds:List D) (ro':HO) (hs':List HO) (r:D) (hm:bH P f=true) (hpos:0<σ.n) (hx:oev σ.Γ x=uF ν h) (hid:lB 0 h=true) (hlf:lf0 (hs.length+1) h=true)
  (hν:∀ i j,i<hs.length+1→j<hs.length+1→ν i=ν j→i=j) (hH:∀ i ob,(ro::hs)[i]? = some ob→lfO (hs.length+1) ob=true∧σ.H (ν i)=some (kQ ν ob)) (hment:∀ i,0<i→i<hs.length+1→∃ j ob,j<i∧(ro::hs)[j]? = some ob∧aEx i ob=true)
  (hvis:gT σ.H (rest.map (oev σ.Γ))=[]) (hfr:iB σ.H (rest.map (oev σ.Γ))=some ds) (hsp:xT P f h ro hs ds ro' hs' r)
  (hk:k ⟨bT σ.Γ dst (inj r),tcH σ.H σ.n (ν 0) (nuL ν hs.length) ro' hs',σ.n+hs'.length⟩ (nuL ν hs.length++con)):O1d P ⟨dst,.call ⟨.value (.func f),(x::rest).toArray,ts⟩,ty,pos,after,guard⟩ σ con k d:=by
 show OC P f (x::rest).toArray dst σ con k
 unfold OC
 have h0:=(hH 0 ro rfl).2
 have hd:∃ h2,hd1 (oev σ.Γ x)=some (ν 0,h2):=by
  rw[hx]
  cases h<;>first|(cases hid;done)|(simp only[lB,beq_iff_eq]at hid;subst hid;exact⟨_,rfl⟩)
 obtain⟨h2,hd⟩:=hd
 simp only[hm,if_true,hd,h0]
 exact .inr (.inr ⟨hpos,ν,h,ro,hs,ds,ro',hs',r,hx,hid,hlf,hν,hH,hment,hvis,hfr,hsp,hk⟩)
theorem oJ(ops:Array Oper)(σ:St)(con:List Nat)(k:St→List Nat→Prop)(d:Dm (ops,([]:List Oper),k)):OWd P ops [] σ con k d=k σ con:=rfl
theorem aMg(ops:Array Oper)(dst:Option Tmp)(op:Op)(ty:TypeId)(pos:String)(after:Array Edge)(l:List Oper)(σ:St)(con:List Nat)(k:St→List Nat→Prop)(d:Dm (ops,(⟨dst,op,ty,pos,after,none⟩::l:List Oper),k)) :
  OWd P ops (⟨dst,op,ty,pos,after,none⟩::l) σ con k d=O1d P ⟨dst,op,ty,pos,after,none⟩ σ con (fun σ' con'=>OWd P ops l σ' con' k .mk) .mk:=rfl
theorem aMf(ops:Array Oper)(dst:Option Tmp)(op:Op)(ty:TypeId)(pos:String)(after:Array Edge)(g:Nat×Bool)(l:List Oper)(σ:St)(con:List Nat)(k:St→List Nat→Prop)(d:Dm (ops,(⟨dst,op,ty,pos,after,some g⟩::l:List Oper),k)) :
  OWd P ops (⟨dst,op,ty,pos,after,some g⟩::l) σ con k d=dR (dX ops ⟨dst,op,ty,pos,after,some g⟩ σ.Γ) (fun t=>IfD t (O1d P ⟨dst,op,ty,pos,after,some g⟩ σ con (fun σ' con'=>OWd P ops l σ' con' k .mk) .mk) (OWd P ops l ⟨bT σ.Γ dst .un,σ.H,σ.n⟩ con k .mk) .mk) .mk:=by
 show(match dX ops ⟨dst,op,ty,pos,after,some g⟩ σ.Γ with
 |some true=>O1 P ⟨dst,op,ty,pos,after,some g⟩ σ con fun σ' con'=>OW P ops l σ' con' k
 |some false=>OW P ops l ⟨bT σ.Γ dst .un,σ.H,σ.n⟩ con k
 |none=>False)=_
 cases dX ops ⟨dst,op,ty,pos,after,some g⟩ σ.Γ with
 |none=>rfl
 |some t=>cases t<;>simp[dR,IfD,O1d,OWd]
theorem bTj(t:Bool)(x y:Bool):(if t=true then AV.d (.b x)else AV.d (.b y))=AV.d (.b (if t then x else y)):=by cases t<;>rfl
end Go.Am
end

section
set_option linter.unusedVariables false
set_option linter.unusedSimpArgs false
namespace Go.Am
open RowKit (Below)
variable {P:Program}
theorem kH{σ:St}{sl:List (Nat×AV)}{H':Nat→Option HO}{n':Nat}(hslot:mV σ.H H' (fun i=>i) σ.Γ sl)(hblk:∀ id o',H' id=some o'→∃ o,σ.H id=some o∧lU σ.H H' (fun i=>i) o o')
  (htop:∀ id,n'≤id→H' id=none) (hn:n'≠0):Wk σ ⟨iT sl,H',n'⟩ (fun i=>i):=by
 refine⟨htop,fun t=>?_,hblk,fun _ _ _ _ e=>e,fun _=>rfl,fun h=>absurd h hn⟩
 show Sub _ _ _ _ (iT sl t)
 rcases vO sl t with h|⟨p,hp,rfl,h⟩
 ·rw[h];exact mS _
 ·rw[h];exact oG hslot _ hp
theorem aPh{σ:St}{sl:List (Nat×AV)}{H':Nat→Option HO}{n':Nat}(ρ:Nat→Nat)(hslot:mV σ.H H' ρ σ.Γ sl)(hblk:∀ id o',H' id=some o'→∃ o,σ.H (ρ id)=some o∧lU σ.H H' ρ o o')
  (hinj:∀ id id',(H' id).isSome=true→(H' id').isSome=true→ρ id=ρ id'→id=id') (hpin:(H' 0).isSome=true→ρ 0=0) (htop:∀ id,n'≤id→H' id=none) (hn:n'≠0):Wk σ ⟨iT sl,H',n'⟩ ρ:=by
 refine⟨htop,fun t=>?_,hblk,hinj,hpin,fun h=>absurd h hn⟩
 show Sub _ _ _ _ (iT sl t)
 rcases vO sl t with h|⟨p,hp,rfl,h⟩
 ·rw[h];exact mS _
 ·rw[h];exact oG hslot _ hp
theorem bLd{G:Ctx}{fn:Func}{σ:St}{a:Act}{w:World}{ad:Tmp}{t:TypeId}{av:AV}{F:Nat→Prop}{ι:Nat→Option Nat}(hR:HR G F w ι bX σ.H)(hV:∀ t,V F w ι (σ.Γ t) (a.tmps.getD t undef))(hres:fn.results.toList=[.cell ad t])(h:mE P σ (.cell ad t)=some av) :
  ∃ v,(results fn a.tmps).run P w=.ok v w∧V F w ι av v:=by
 have hx:∃ v,(do loadVar t (←asAddr (a.tmps.getD ad undef)):Sem Value).run P w=.ok v w∧V F w ι av v:=by
  simp only[mE]at h
  obtain⟨u,hu,hv⟩:=aAe (P:=P) hR (fun _ _ h=>h) h (hV ad)
  refine⟨u,?_,hv⟩
  simp only[Ec]at hu
  generalize a.tmps.getD ad undef=p at hu ⊢
  cases p with
  |pointer q=>cases q with
   |some q=>simpa[Ck,asAddr]using hu
   |none=>simp[Ck,stuck,Sem.run]at hu
  |_=>simp[Ck,stuck,Sem.run]at hu
 obtain⟨v,h1,h2⟩:=hx
 refine⟨v,?_,h2⟩
 have h1':([ResultVar.cell ad t].mapM (m:=Sem) fun|.tmp t=>pure (a.tmps.getD t undef)|.cell ad t=>do loadVar t (←asAddr (a.tmps.getD ad undef))).run P w=.ok [v] w:=by
  simp only[B7,Ft,A4,h1,A0,Bw]
 simp only[results,Dr,A4,Sem.run_map,hres]
 erw [h1']
 simp
def fM(v:Nat→AV)(hs:Nat→List HO)(m:Nat):St:=⟨upd (fun _=>.any) 0 (v m),fE (fun _=>none) m (hs m),m+(hs m).length⟩
end Go.Am
end

section
set_option linter.unusedVariables false
set_option linter.unusedSimpArgs false
namespace Go.Am
open RowKit (Below)
variable {P:Program}
def StT(h:AV)(o:HO)(hs:List HO)(args:List D)(N:Nat):St:=⟨fun t=>match t with|0=>h|t+1=>Γ0 args N t,fun id=>(o::hs)[id]?,hs.length+1⟩
theorem SRT{A:Nat→Prop}{W:World}{vs:Array Value}{args:List D}{h:AV}{o:HO}{hs:List HO}{ι:Nat→Option Nat}{N:Nat}(hA:∀ b,A b→b<W.heap.size)(hdom:∀ id,(∃ b,ι id=some b)↔id<hs.length+1)(hlt:∀ id b,ι id=some b→b<W.heap.size∧¬A b)
  (hinj:∀ id id' b,ι id=some b→ι id'=some b→id=id') (hobj:∀ i b ob,(o::hs)[i]? = some ob→ι i=some b→∃ x,W.heap[b]? = some x∧CR A W ι ob x) (hl:args.length+1=vs.size) (h0:∃ v,vs[0]? = some v∧V A W ι h v)
  (hv:∀(k:Nat) d v,args[k]? = some d→vs[k+1]? = some v→VD A W d v) (hN:args.length+1≤N) :
  SR ⟨W,A,fun b=>∃ id,ι id=some b,fun b=>ι 0=some b,fun _=>none⟩ N [] (StT h o hs args N) { tmps:=vs++Bx (N-vs.size) undef,defers:=[] } W:=by
 refine⟨fun id h=>by simp only[StT]at h ⊢;exact AG (by simpa using h),fun h=>by simp[StT]at h,A,ι,⟨.refl _ _ _,hA,fun b h=>.inl h,fun id b e=>⟨.inl ⟨id,e⟩,(hlt id b e).1,fun _=>(hlt id b e).2⟩,fun id b ob e e'=>hobj id b ob e' e,fun id id' b e e' _ _=>hinj id id' b e e',fun id id' b o1 o2 e e' _ h1 h2=>?_⟩,
  fun id=>?_,fun t=>?_,⟨by simp;omega,fun _ _ h=>by cases h⟩,rfl,fun b e=>e⟩
 ·have:=hinj id id' b e e'
  subst this
  rw[h1]at h2;injection h2 with h2;subst h2;exact Az _
 ·rw[hdom]
  simp only[StT]
  constructor
  ·intro h;rw[Aa (by simpa using h)];rfl
  ·intro h
   rcases Bc id (hs.length+1)with h'|h'
   ·exact h'
   ·rw[AG (by simpa using h')]at h;cases h
 ·have hget:∀ k,k<vs.size→(vs++Bx (N-vs.size) undef).getD k undef=vs.getD k undef:=fun k hk=>by
   simp only[Bh];rw[Cw hk]
  have hget2:∀ k,vs.size≤k→(vs++Bx (N-vs.size) undef).getD k undef=undef:=fun k hk=>by
   simp only[Bh]
   rw[D3 hk]
   by_cases h2:k-vs.size<N-vs.size
   ·rw[B4,Ag h2];rfl
   ·rw[B4,Ae h2];rfl
  cases t with
  |zero =>
   obtain⟨v,hv0,hV0⟩:=h0
   show V A W ι h _
   rw[show(({ tmps:=vs++Bx (N-vs.size) undef,defers:=[] }:Act).tmps.getD 0 undef)=v from by
    rw[hget 0 (by omega)];simp[Bh,hv0]]
   exact hV0
  |succ t =>
   show V A W ι (Γ0 args N t) _
   simp only[Γ0]
   by_cases ht:t<args.length
   ·have ht':t+1<vs.size:=by omega
    rw[Aa ht,hget _ ht',Bh,AK ht']
    exact sN (hv t _ _ (Aa ht) (AK ht'))
   ·rw[AG (by omega),hget2 _ (by omega)]
    simp only[ite_self]
    exact .un
theorem xY {f N:Nat} {fn:Func} {c:Code} {h:AV} {o o':HO} {hs hs':List HO} {args:List D} (hm:P.follows .mixedOrders=true) (hf:P.funcs[f]? = some fn) (hb:fn.body=some c) (hname:(fn.name == "runtime.NumGoroutine")=false) (hN:fn.ntmps=N)
  (hres:fn.results.toList=[]) (hd:dM N c=true) (hl':eA P c=true) (ha:args.length+1≤N)
  (hA:AWP P c (StT h o hs args N) fun e σ=>(e=.normal∨e=.ret)∧∃ ρ,Wk σ (StL [] (some o') hs') ρ):xT P f h o hs args o' hs' (.tp []):=by
 intro A W vs ι hAl hdom0 hlt0 hinj0 hobj0 hl hv0 hv
 have hn:¬ fn.name = "runtime.NumGoroutine" := by simpa using hname
 refine⟨fun w=>by simp[callFunc,hf,hn,hb],?_⟩
 refine calls_of_wp hf hb ?_
 subst hN
 have hsr:=SRT (N:=fn.ntmps) hAl hdom0 hlt0 hinj0 hobj0 hl hv0 hv ha
 refine wp_mono (gS hm (fun _=>rfl) c _ _ _ _ hd hl' hA hsr) ?_
 rintro e a w ⟨σ,⟨he,ρ,hw⟩,hs1⟩
 have hs2:=hs1
 obtain⟨_,_,F0,ι0,hR0,_,hV0,_,hdf,_⟩:=hs1
 obtain⟨v,hrun,hvd⟩:=qC (r:=.tp []) (P:=P) hR0 hV0 (by rw[hres];rfl)
 obtain⟨_,_,F,ι',hR,hdom,_,_,_,hp⟩:=aAo hw hs2
 have hH:∀ i ob,(o'::hs')[i]? = some ob→(StL [] (some o') hs').H i=some ob:=fun i ob hi=>by
  cases i with
  |zero=>rw[aJy];simpa using hi
  |succ i=>rw[yX];simpa using hi
 have hsome:∀ id,((StL [] (some o') hs').H id).isSome=true↔id<hs'.length+1:=fun id=>by
  cases id with
  |zero=>rw[aJy];simp
  |succ i=>rw[yX];simp
 obtain⟨b0,hb0⟩:=(hdom 0).2 ((hsome 0).2 (by omega))
 have hb00:ι 0=some b0:=hp b0 hb0
 have hend:a.defers=[]∧∃ v,(results fn a.tmps).run P w=.ok v w∧∃ v' F' ι',Dx v=.returned v'∧Kept (fun b=>∃ id,ι id=some b) W.heap.size W w ∧
   (∀ b,F' b→A b∨(∃ id,0<id∧ι id=some b)∨(W.heap.size≤b∧b<w.heap.size))∧VD F' w (.tp []) v'∧(∀ id,(∃ b,ι' id=some b)↔id<hs'.length+1)∧ι' 0=ι 0 ∧
   (∀ id b,ι' id=some b→b<w.heap.size∧¬F' b∧((∃ j,ι j=some b)∨W.heap.size≤b))∧(∀ id id' b,ι' id=some b→ι' id'=some b→id=id') ∧
   (∀ i b ob,(o'::hs')[i]? = some ob→ι' i=some b→∃ x,w.heap[b]? = some x∧CR F' w ι' ob x):=by
  refine⟨hdf,v,hrun,v,F,ι',rfl,hR.kept,fun b hb=>?_,aRh (by rfl) hvd,fun id=>by rw[hdom,hsome],by rw[hb0,hb00],fun id b hb=>?_,fun id id' b e1 e2=>hR.inj id id' b e1 e2 (fun h=>h) (fun h=>h),fun i b ob hi hb=>hR.obj i b ob hb (hH i ob hi)⟩
  ·rcases hR.F_ok b hb with h|⟨id,h⟩|h
   ·exact .inl h
   ·rcases Nat.eq_zero_or_pos id with rfl|hpos
    ·rw[hb00]at h;injection h with h;subst h
     exact((hR.place 0 b0 hb0).2.2 (fun h=>h) hb).elim
    ·exact .inr (.inl ⟨id,hpos,h⟩)
   ·exact .inr (.inr ⟨h,hR.F_lt b hb⟩)
  ·obtain⟨q1,q2,q3⟩:=hR.place id b hb
   exact⟨q2,q3 (fun h=>h),q1⟩
 rcases he with rfl|rfl<;>exact hend
end Go.Am
end

section
set_option linter.unusedVariables false
set_option linter.unusedSimpArgs false
namespace Go.Am
variable {P:Program}
def qV:List Value→Bool
 |[]=>true
 |v::l=>v.oneCell'&&qV l
theorem aSi:qV []=true:=rfl
theorem aOv(v:Value)(l:List Value):qV (v::l)=(v.oneCell'&&qV l):=rfl
theorem yW(a:Array Value):a.all Cj=qV a.toList:=by
 rw[←Array.all_toList]
 generalize a.toList=l
 induction l with
 |nil=>rfl
 |cons v l ih=>simp only[List.all_cons,qV,ih]
section
variable (Γ:Nat→AV) (n:Nat)
theorem bMo(x:Operand):nev P (.move x) Γ n=some (oev Γ x,none):=rfl
theorem aYa(x:Operand):nev P (.assign x) Γ n=some (oev Γ x,none):=rfl
theorem bMn(c a b:Operand):nev P (.pick c a b) Γ n=eQ ((xP (oev Γ c)).map fun t=>if t then oev Γ a else oev Γ b):=rfl
theorem bDr(e:TypeId):nev P (.alloc e) Γ n=(tz P e).map fun z=>(.ptr n 0,some (.cells e (z.cells.toList.map cv1))):=rfl
theorem bSy(e:TypeId)(x:Operand):nev P (.box e x) Γ n=(eS (oev Γ x)).map fun cs=>(.ptr n 0,some (.cells e cs)):=rfl
theorem bDp(t : TypeId)(ps : List (Nat×Operand)) : nev P (.build t ps.toArray) Γ n = eQ ((tz P t).bind fun z => (plc P t).bind fun pl => if qV z.cells.toList then
      (mH pl (z.cells.toList.map cv1) (ps.map fun p=>(p.1,oev Γ p.2))).map .ag else none):=by
 simp only[nev,yW]
theorem bLy(t:TypeId):plc P t=match jP P t with
 |some fl=>some (fl[·]?)
 |none=>(yA P t).bind fun p=>(tsz P p.2).map fun sz=>fun i=>some (i*sz,sz):=rfl
theorem aEv(t : TypeId)(len : Nat)(ps : List (Nat×Operand)) : nev P (.buildSlice t len ps.toArray) Γ n = (tel P t).bind fun e => (tsz P e).bind fun sz => (tz P e).bind fun z =>
      if z.cells.toList.length=sz∧0<sz∧len*sz≤16777216∧qV z.cells.toList=true then
        (mH (fun i=>some (i*sz,sz)) ((Ay len (z.cells.toList.map cv1)).flatten) (ps.map fun p=>(p.1,oev Γ p.2))).map fun cs=>(.own n 0 len sz,some (.cells e cs))
      else none:=by
 simp only[nev,yW,BM]
theorem aIq(t : TypeId)(l c : Operand) : nev P (.makeSlice t l c) Γ n = (tel P t).bind fun e => (tsz P e).bind fun sz => (tz P e).bind fun z => (tby P e).bind fun by_ => (hJ (oev Γ l)).bind fun a => (hJ (oev Γ c)).bind fun b =>
      if z.cells.toList.length=sz∧0<sz∧qV z.cells.toList=true∧0≤a∧a≤b∧(by_:Int)*b≤281474976710656∧b≤9223372036854775807 then
        some (.own n 0 a.toNat sz,some (.cells e (Ay a.toNat (z.cells.toList.map cv1)).flatten))
      else none:=by
 simp only[nev,yW,BM]
theorem bDq(op:BinOp)(t:TypeId)(x y:Operand)(u:TypeId):nev P (.binOp op t x y u) Γ n=eQ (match aMy op (tel P t) (oev Γ x) (oev Γ y)with|some r=>some r|none=>match jM op (cI P t) (oev Γ x) (oev Γ y)with|some r=>some (.d r)|none=>(bIl op (tai P t) (oev Γ x) (oev Γ y)).map .d):=rfl
theorem aMw(x:Operand):nev P (.nilCheck x) Γ n=eQ (bHj (oev Γ x)):=rfl
theorem bHi(id o:Nat):bHj (.ptr id o)=some (.ptr id o):=rfl
theorem bPj(cs:List D):bHj (.fp cs)=some (.fp cs):=rfl
theorem bMm(op:UnOp)(t:TypeId)(x:Operand):nev P (.unOp op t x) Γ n=eQ ((unA op (oev Γ x)).map .d):=rfl
theorem aQo(s t:TypeId)(x:Operand):nev P (.convert s t x) Γ n=eQ ((gW P t).bind fun k=>(hJ (oev Γ x)).bind fun m=>if(P.underlying s).isSome then some (.d (.i k (k.wrap m)))else none):=rfl
theorem aIs(s:TypeId)(x:Operand)(f:Nat):nev P (.fieldAddr s x f) Γ n=eQ ((jP P s).bind fun fl=>(fl[f]?).bind fun p=>if p.2=0 then none else yO p.1 (oev Γ x)):=rfl
theorem aIr(t : TypeId)(x i : Operand) : nev P (.indexAddr t x i) Γ n = eQ ((hJ (oev Γ i)).bind fun k => match tel P t with
      |some e=>(tsz P e).bind fun sz=>vA sz k (oev Γ x)
      |none=>(yA P t).bind fun p=>(tsz P p.2).bind fun sz=>yM sz p.1 k (oev Γ x)):=rfl
theorem aQn(x:Operand)(i:Nat):nev P (.extract x i) Γ n=eQ ((aWr (oev Γ x)).bind fun vs=>vs[i]?):=rfl
theorem bDm(t : TypeId)(x : Operand)(lo hi mx : Option Operand) : nev P (.slice t x lo hi mx) Γ n = eQ ((tel P t).bind fun e => (tsz P e).bind fun sz => (aFa (oev Γ x)).bind fun n => (aMi lo Γ 0).bind fun l => (aMi hi Γ n).bind fun h =>
      match mx with
      |none=>oV sz (oev Γ x) l h false
      |some y=>(hJ (oev Γ y)).bind fun m=>if m=h∧hi.isSome then oV sz (oev Γ x) l h true else none):=rfl
theorem bSx(x:Operand)(t:TypeId):nev P (.call ⟨.builtin .len,#[x],#[t]⟩) Γ n=eQ ((tel P t).bind fun _=>(aFa (oev Γ x)).map fun n=>.d (.i .i64 n)):=rfl
def bWg:AV→AV→Option AV
 |.d (.i k a),.d (.i _ b)=>some (.d (.i k (if b>a then b else a)))
 |_,_=>none
def bWf:AV→AV→Option AV
 |.d (.i k a),.d (.i _ b)=>some (.d (.i k (if b<a then b else a)))
 |_,_=>none
theorem bTd(k k':IntKind)(a b:Int):bWg (.d (.i k a)) (.d (.i k' b))=some (.d (.i k (if b>a then b else a))):=rfl
theorem bTc(k k':IntKind)(a b:Int):bWf (.d (.i k a)) (.d (.i k' b))=some (.d (.i k (if b<a then b else a))):=rfl
theorem bSw(x y:Operand)(ts:Array TypeId):nev P (.call ⟨.builtin .max,#[x,y],ts⟩) Γ n=eQ (bWg (oev Γ x) (oev Γ y)):=rfl
theorem bSv(x y:Operand)(ts:Array TypeId):nev P (.call ⟨.builtin .min,#[x,y],ts⟩) Γ n=eQ (bWf (oev Γ x) (oev Γ y)):=rfl
theorem bDo(s:TypeId)(x:Operand)(f:Nat):nev P (.field s x f) Γ n=eQ ((bKk P s f).bind fun p=>(aFf (oev Γ x)).bind fun cs=>if p.2.1 then(if p.1+p.2.2≤cs.length then some (.ag ((cs.drop p.1).take p.2.2))else none)else cs[p.1]?):=rfl
theorem aQm(t:TypeId)(r:Option Operand):nev P (.makeMap t r) Γ n=(tmp P t).bind fun p=>(gW P p.1).bind fun k=>(match r with|none=>some 0|some x=>hJ (oev Γ x)).map fun _=>(.mp n,some (.map k [])):=rfl
end
theorem bNa(H:Nat→Option HO)(ds:List D):(ds.map AV.d).mapM (frz H 7)=some ds:=nP H 6 ds
theorem bNb(H:Nat→Option HO)(ds:List D):(ds.map AV.d).mapM (frz H 6)=some ds:=nP H 5 ds
theorem qU(sz:Nat)(l:List D):chunk sz 0 l=[]:=rfl
theorem bPi(sz:Nat)(l:List D):chunk sz 1 l=[l.take sz]:=by simp[chunk,List.range_succ]
theorem bPh(sz:Nat)(l:List D):chunk sz 2 l=[l.take sz,(l.drop sz).take sz]:=by simp[chunk,List.range_succ]
theorem bEw(H:Nat→Option HO)(avs:List AV)(l:List D):cE H avs (.ag l)=gT H avs:=rfl
theorem bNl(H:Nat→Option HO)(avs:List AV)(x:Bool):cE H avs (.b x)=[]:=rfl
theorem bNk(H:Nat→Option HO)(avs:List AV)(k:IntKind)(n:Int):cE H avs (.i k n)=[]:=rfl
theorem bEs(H:Nat→Option HO)(avs:List AV)(l:List D):cE H avs (.tp l)=if l.all zI then[]else gT H avs:=rfl
theorem bEt(H:Nat→Option HO)(avs:List AV)(l:List (List D)):cE H avs (.sl l)=gT H avs:=rfl
theorem pC(H:Nat→Option HO):gT H []=[]:=rfl
theorem sW(H:Nat→Option HO)(a:AV)(l:List AV):gT H (a::l)=vis H 8 a++gT H l:=rfl
theorem aKq(H:Nat→Option HO)(n:Nat)(x:D):vis H n (.d x)=[]:=by cases n<;>rfl
theorem bKc(H:Nat→Option HO)(n:Nat):vis H n .nil=[]:=by cases n<;>rfl
theorem bRl(H:Nat→Option HO)(n:Nat)(x:List (List D)):vis H n (.fd x)=[]:=by cases n<;>rfl
theorem aHv(H:Nat→Option HO)(n:Nat)(cs:List AV):vis H (n+1) (.ag cs)=cs.flatMap (vis H n):=rfl
theorem bAs(H:Nat→Option HO)(n:Nat)(ds:List D):(ds.map AV.d).flatMap (vis H n)=[]:=by
 induction ds with
 |nil=>rfl
 |cons d ds ih=>rw[AR,List.flatMap_cons,ih,aKq];rfl
def bVi(H:Nat→Option HO)(n id off len sz:Nat)(ho:Option HO):List Nat:=match ho with
 |some (.cells _ cs)=>id::((cs.drop (off*sz)).take (len*sz)).flatMap (vis H n)
 |_=>[]
theorem aTc(H:Nat→Option HO)(n id off len sz:Nat):vis H (n+1) (.own id off len sz)=bVi H n id off len sz (H id):=rfl
theorem aAx(H:Nat→Option HO)(n id off len sz:Nat)(e:TypeId)(cs:List AV):bVi H n id off len sz (some (.cells e cs))=id::((cs.drop (off*sz)).take (len*sz)).flatMap (vis H n):=rfl
theorem bEq(c:AV)(cells:List AV)(off:Nat)(cs:List AV):lay (c::cells) off cs=(c::cells).take off++cs++(c::cells).drop (off+cs.length):=rfl
theorem aQi(v:AV):eQ (some v)=some (v,none):=rfl
theorem bXn(sl:List (Nat×AV))(o0:Option HO)(hs:List HO):(StL sl o0 hs).Γ=iT sl:=rfl
theorem bXp(sl:List (Nat×AV))(hs:List HO):(StL sl none hs).H=nZ 1 hs:=rfl
theorem bVb(sl:List (Nat×AV))(o:HO)(hs:List HO):(StL sl (some o) hs).H=upd (nZ 1 hs) 0 (some o):=rfl
theorem bXo(sl:List (Nat×AV))(o0:Option HO)(hs:List HO):(StL sl o0 hs).n=hs.length+1:=rfl
theorem aIf(p:Nat×AV)(l:List (Nat×AV))(t:Nat):iT (p::l) t=if t=p.1 then p.2 else iT l t:=rfl
theorem bBl(t:Nat):iT [] t=.any:=rfl
theorem mD(i:Nat)(o:HO)(os:List HO)(j:Nat):nZ i (o::os) j=if j=i then some o else nZ (i+1) os j:=rfl
theorem aEa(i j:Nat):nZ i [] j=none:=rfl
theorem iQ(Γ:Nat→AV)(t:Nat):oev Γ (.tmp t)=Γ t:=rfl
theorem bVs(Γ:Nat→AV)(k:IntKind)(n:Int):oev Γ (.const (.int k n))=.d (.i k n):=rfl
theorem bVt(Γ:Nat→AV)(x:Bool):oev Γ (.const (.bool x))=.d (.b x):=rfl
theorem bMi(Γ:Nat→AV):oev Γ (.const (.slice none 0 0))=.nil:=rfl
theorem bMj(Γ:Nat→AV)(cs:Array Value):oev Γ (.const (.agg cs))=.ag (cs.toList.map cv1):=rfl
theorem bXf(k:IntKind)(n:Int):cv1 (.int k n)=.d (.i k n):=rfl
theorem bXg(x:Bool):cv1 (.bool x)=.d (.b x):=rfl
theorem bPa:cv1 (.slice none 0 0)=.nil:=rfl
theorem aZt(cs:Array Value):DP (.agg cs)=cs:=rfl
theorem bPl(k:IntKind)(n:Int):DP (.int k n)=#[.int k n]:=rfl
theorem bPm(x:Bool):DP (.bool x)=#[.bool x]:=rfl
theorem bHo(a:Option Addr)(n c:Nat):DP (.slice a n c)=#[.slice a n c]:=rfl
theorem bSt(k:IntKind)(n:Int):Cj (.int k n)=true:=rfl
theorem bSu(x:Bool):Cj (.bool x)=true:=rfl
theorem bMg(a:Option Addr)(n c:Nat):Cj (.slice a n c)=true:=rfl
theorem bSs(x:Bool):one (.d (.b x))=true:=rfl
theorem bSr(k:IntKind)(n:Int):one (.d (.i k n))=true:=rfl
theorem bMe(l:List (List D)):one (.d (.sl l))=true:=rfl
theorem bMd:one .nil=true:=rfl
theorem bMc(a b c d:Nat):one (.own a b c d)=true:=rfl
theorem bMb(a b:Nat):one (.ptr a b)=true:=rfl
theorem bSo(a:Nat):one (.mp a)=true:=rfl
theorem bSq(l:List (List D)):one (.fd l)=true:=rfl
theorem bSp(l:List D):one (.fp l)=true:=rfl
theorem aZy(x:Bool):eS (.d (.b x))=some [.d (.b x)]:=rfl
theorem aZx(k:IntKind)(n:Int):eS (.d (.i k n))=some [.d (.i k n)]:=rfl
theorem aRz(l:List (List D)):eS (.d (.sl l))=some [.d (.sl l)]:=rfl
theorem aRy:eS .nil=some [.nil]:=rfl
theorem aRx(a b c d:Nat):eS (.own a b c d)=some [.own a b c d]:=rfl
theorem aRw(a b:Nat):eS (.ptr a b)=some [.ptr a b]:=rfl
theorem aZu(a:Nat):eS (.mp a)=some [.mp a]:=rfl
theorem aZw(l:List (List D)):eS (.fd l)=some [.fd l]:=rfl
theorem aZz(cs:List AV):eS (.ag cs)=if cs.all one then some cs else none:=rfl
theorem aSb(cs:List D):eS (.d (.ag cs))=if(cs.map AV.d).all one then some (cs.map .d)else none:=rfl
theorem bPw(cs:List AV):aFf (.ag cs)=some cs:=rfl
theorem bIt(cs:List D):aFf (.d (.ag cs))=some (cs.map .d):=rfl
theorem bKj(cs:List AV):aWr (.tp cs)=some cs:=rfl
theorem bAv(cs:List D):aWr (.d (.tp cs))=some (cs.map .d):=rfl
theorem bFg(k:IntKind)(n:Int):hJ (.d (.i k n))=some n:=rfl
theorem bAb(x:Bool):xP (.d (.b x))=some x:=rfl
theorem aXv(Γ:Nat→AV)(n:Int):aMi none Γ n=some n:=rfl
theorem aXu(Γ:Nat→AV)(x:Operand)(n:Int):aMi (some x) Γ n=hJ (oev Γ x):=rfl
theorem bEo(l:List (List D)):aFa (.d (.sl l))=some (l.length:Int):=rfl
theorem bNj(l:List (List D)):aFa (.fd l)=some (l.length:Int):=rfl
theorem bEn:aFa .nil=some 0:=rfl
theorem bEm(a b c d:Nat):aFa (.own a b c d)=some (c:Int):=rfl
theorem aRm(off id o:Nat):yO off (.ptr id o)=some (.ptr id (o+off)):=rfl
theorem aZg(off:Nat)(cs:List D):yO off (.fp cs)=some (.fp (cs.drop off)):=rfl
theorem aRb(sz:Nat)(k:Int)(els:List (List D)):vA sz k (.d (.sl els))=if 0≤k then(els[k.toNat]?).bind fun cs=>if cs.length=sz then some (.fp cs)else none else none:=rfl
theorem aYu(sz:Nat)(k:Int)(els:List (List D)):vA sz k (.fd els)=if 0≤k then(els[k.toNat]?).bind fun cs=>if cs.length=sz then some (.fp cs)else none else none:=rfl
theorem aRa(sz:Nat)(k:Int)(id off len sz':Nat):vA sz k (.own id off len sz')=if 0≤k∧k<len∧sz'=sz then some (.ptr id ((off+k.toNat)*sz))else none:=rfl
theorem aRc(sz m:Nat)(k:Int)(id o:Nat):yM sz m k (.ptr id o)=if 0≤k∧k<m then some (.ptr id (o+k.toNat*sz))else none:=rfl
theorem aYv(sz m:Nat)(k:Int)(cs:List D):yM sz m k (.fp cs)=if 0≤k∧k<m then some (.fp (cs.drop (k.toNat*sz)))else none:=rfl
theorem bUw(op:BinOp)(x y:Bool):jM op true (.d (.b x)) (.d (.b y))=match op with|.eql=>some (.b (x==y))|.neq=>some (.b (!(x==y)))|_=>none:=rfl
theorem bId(t:Bool)(k:IntKind)(a b:Int):jM .add t (.d (.i k a)) (.d (.i k b))=some (.i k (k.wrap (a+b))):=by simp[jM,arith]
theorem bHr(t:Bool)(k:IntKind)(a b:Int):jM .sub t (.d (.i k a)) (.d (.i k b))=some (.i k (k.wrap (a-b))):=by simp[jM,arith]
theorem bHx(t:Bool)(k:IntKind)(a b:Int):jM .mul t (.d (.i k a)) (.d (.i k b))=some (.i k (k.wrap (a*b))):=by simp[jM,arith]
theorem bHv(t:Bool)(k:IntKind)(a b:Int):jM .quo t (.d (.i k a)) (.d (.i k b))=if b=0 then none else some (.i k (k.wrap (a.tdiv b))):=by simp[jM,arith]
theorem bHu(t:Bool)(k:IntKind)(a b:Int):jM .rem t (.d (.i k a)) (.d (.i k b))=if b=0 then none else some (.i k (a.tmod b)):=by simp[jM,arith]
theorem bIc(t:Bool)(k:IntKind)(a b:Int):jM .eql t (.d (.i k a)) (.d (.i k b))=some (.b (a==b)):=by simp[jM,arith]
theorem bHw(t:Bool)(k:IntKind)(a b:Int):jM .neq t (.d (.i k a)) (.d (.i k b))=some (.b (a != b)):=by simp[jM,arith]
theorem bHy(t:Bool)(k:IntKind)(a b:Int):jM .lss t (.d (.i k a)) (.d (.i k b))=some (.b (decide (a<b))):=by simp[jM,arith]
theorem bHz(t:Bool)(k:IntKind)(a b:Int):jM .leq t (.d (.i k a)) (.d (.i k b))=some (.b (decide (a≤b))):=by simp[jM,arith]
theorem bIa(t:Bool)(k:IntKind)(a b:Int):jM .gtr t (.d (.i k a)) (.d (.i k b))=some (.b (decide (b<a))):=by simp[jM,arith]
theorem bIb(t:Bool)(k:IntKind)(a b:Int):jM .geq t (.d (.i k a)) (.d (.i k b))=some (.b (decide (b≤a))):=by simp[jM,arith]
theorem bHt(t:Bool)(k k':IntKind)(a b:Int):jM .shl t (.d (.i k a)) (.d (.i k' b))=kA .shl k a b:=by simp[jM]
theorem bHs(t:Bool)(k k':IntKind)(a b:Int):jM .shr t (.d (.i k a)) (.d (.i k' b))=kA .shr k a b:=by simp[jM]
theorem bAd(op:BinOp)(t:Bool)(x:AV):jM op t x .nil=none:=by unfold jM;split<;>simp_all
theorem bKh(p:Bool):unA .not (.d (.b p))=some (.b !p):=rfl
theorem bKi(k:IntKind)(a:Int):unA .neg (.d (.i k a))=some (.i k (k.wrap (0-a))):=rfl
theorem aYc(op:BinOp)(x y:AV):aMy op none x y=none:=rfl
theorem bDv(op:BinOp)(e:TypeId)(x:AV):aMy op (some e) x .nil=(oY x).bind (aYb op):=rfl
theorem bTp(x:Bool):aT (.b x)=.d (.b x):=rfl
theorem bTo(k:IntKind)(n:Int):aT (.i k n)=.d (.i k n):=rfl
theorem bNr(l:List (List D)):aT (.sl l)=.d (.sl l):=rfl
theorem bNu(l:List D):aT (.ag l)=.ag (l.map .d):=rfl
theorem bWr(x:Bool):inj (.b x)=.d (.b x):=rfl
theorem bWq(k:IntKind)(n:Int):inj (.i k n)=.d (.i k n):=rfl
theorem bTl(l:List (List D)):inj (.sl l)=.d (.sl l):=rfl
theorem bTn(l:List D):inj (.ag l)=.ag (l.map .d):=rfl
theorem bTk(l:List D):inj (.tp l)=.tp (l.map aT):=rfl
theorem bLa(l:List Nat)(x:D):kI l (.d x)=.d x:=rfl
theorem aWy(l:List Nat):kI l .nil=.nil:=rfl
theorem bBq(l:List Nat):kI l .un=.un:=rfl
theorem aWz(l:List Nat):kI l .any=.any:=rfl
theorem aWx(l:List Nat)(a b c d:Nat):kI l (.own a b c d)=if a∈l then .any else .own a b c d:=rfl
theorem aWw(l:List Nat)(a b:Nat):kI l (.ptr a b)=if a∈l then .any else .ptr a b:=rfl
theorem bBs(l:List Nat)(a:Nat):kI l (.mp a)=if a∈l then .any else .mp a:=rfl
theorem bBt(l:List Nat)(c:List D):kI l (.fp c)=.fp c:=rfl
theorem bBv(l:List Nat)(c:List (List D)):kI l (.fd c)=.fd c:=rfl
theorem bBw(l:List Nat)(c:List AV):kI l (.ag c)=.ag (c.map (eN l)):=rfl
theorem bBr(l:List Nat)(c:List AV):kI l (.tp c)=.tp (c.map (rO l)):=rfl
theorem bBx(l:List Nat)(x:D):eN l (.d x)=.d x:=rfl
theorem aPz(l:List Nat):eN l .nil=.nil:=rfl
theorem aXa(l:List Nat):eN l .un=.un:=rfl
theorem aQa(l:List Nat):eN l .any=.any:=rfl
theorem uV(l:List Nat)(a b c d:Nat):eN l (.own a b c d)=if a∈l then .any else .own a b c d:=rfl
theorem aPy(l:List Nat)(a b:Nat):eN l (.ptr a b)=if a∈l then .any else .ptr a b:=rfl
theorem qB(l:List Nat)(e:TypeId)(cs:List AV):eC l (.cells e cs)=.cells e (cs.map (eN l)):=rfl
theorem rN(l:List Nat)(e:TypeId)(ds:List D):eC l (.cells e (ds.map .d))=.cells e (ds.map .d):=by rw[qB,tD]
theorem bBe(H:Nat→Option HO)(sz:Nat):yF H sz .nil=some (0,[]):=rfl
theorem bBf(H:Nat→Option HO)(sz:Nat)(els:List (List D)):yF H sz (.d (.sl els))=if gE sz els=true∧(els.flatten.map AV.d).all one=true then some (els.length,els.flatten.map .d)else none:=rfl
theorem bKr(H:Nat→Option HO)(sz:Nat)(els:List (List D)):yF H sz (.fd els)=if gE sz els=true∧(els.flatten.map AV.d).all one=true then some (els.length,els.flatten.map .d)else none:=rfl
def bBc(ho:Option HO)(sz off len sz':Nat):Option (Nat×List AV):=match ho with
  |some (.cells _ cs)=>if sz'=sz∧(off+len)*sz≤cs.length∧((cs.drop (off*sz)).take (len*sz)).all one=true then some (len,(cs.drop (off*sz)).take (len*sz))else none
  |_=>none
theorem bBd(H:Nat→Option HO)(sz id off len sz':Nat):yF H sz (.own id off len sz')=bBc (H id) sz off len sz':=rfl
theorem aIe(e:TypeId)(cs:List AV)(sz off len sz':Nat):bBc (some (.cells e cs)) sz off len sz'=if sz'=sz∧(off+len)*sz≤cs.length∧((cs.drop (off*sz)).take (len*sz)).all one=true then some (len,(cs.drop (off*sz)).take (len*sz))else none:=rfl
theorem aQl(sz:Nat):gE sz []=true:=rfl
theorem aMl(sz:Nat)(a:List D)(l:List (List D)):gE sz (a::l)=(a.length==sz):=rfl
def bAe(e : TypeId)(sz bt n : Nat)(s : AV)(ho : Option HO)(p : Nat×List AV) : Option (AV×Option HO×List Nat) := match s with
      |.nil=>if p.1=0 then some (.nil,none,[])else if p.1*bt≤140737488355328∧p.1≤maxLen then some (.own n 0 p.1 sz,some (.cells e p.2),[])else none
      |.own id off len sz'=>match ho with
        |some (.cells e' cs)=>if off=0∧sz'=sz∧e'=e∧cs.length=len*sz∧(len+p.1)*bt≤140737488355328∧len+p.1≤maxLen then
            some (.own n 0 (len+p.1) sz,some (.cells e (cs++p.2)),[id])else none
        |_=>none
      |.fd els => if 0 < p.1 ∧ gE sz els = true ∧ (els.flatten.map AV.d).all one = true ∧ (els.length + p.1)*bt ≤ 140737488355328 ∧ els.length + p.1 ≤ maxLen then
            some (.own n 0 (els.length+p.1) sz,some (.cells e (els.flatten.map .d++p.2)),[])else if p.1=0 then some (.fd els,none,[])else none
      |_=>none
def aUe:AV→Nat
 |.own id _ _ _=>id
 |_=>0
theorem bIq(H:Nat→Option HO)(t:TypeId)(s x:AV)(n:Nat):zQ P H t s x n=(tel P t).bind fun e=>(tsz P e).bind fun sz=>(tby P e).bind fun bt=>(tz P e).bind fun z=>(yF H sz x).bind fun p =>
  if z.cells.size=sz∧0<sz then bAe e sz bt n s (H (aUe s)) p else none:=by
 unfold zQ
 congr;funext e;congr;funext sz;congr;funext bt;congr;funext z;congr;funext p
 split
 ·cases s<;>rfl
 ·rfl
theorem aXs(a b c d:Nat):aUe (.own a b c d)=a:=rfl
theorem aXt:aUe .nil=0:=rfl
theorem bDa(l:List (List D)):aUe (.fd l)=0:=rfl
theorem bPt(e : TypeId)(sz bt n : Nat)(ho : Option HO)(els : List (List D))(m : Nat)(cs : List AV) : bAe e sz bt n (.fd els) ho (m, cs) = if 0 < m ∧ gE sz els = true ∧ (els.flatten.map AV.d).all one = true ∧ (els.length + m)*bt ≤ 140737488355328 ∧ els.length + m ≤ maxLen then
            some (.own n 0 (els.length+m) sz,some (.cells e (els.flatten.map .d++cs)),[])else if m=0 then some (.fd els,none,[])else none:=rfl
theorem bIp(e:TypeId)(sz bt n:Nat)(ho:Option HO)(m:Nat)(cs:List AV):bAe e sz bt n .nil ho (m,cs)=if m=0 then some (.nil,none,[])else if m*bt≤140737488355328∧m≤maxLen then some (.own n 0 m sz,some (.cells e cs),[])else none:=rfl
theorem bIo(e e' : TypeId)(sz bt n id off len sz' : Nat)(cs : List AV)(m : Nat)(ds : List AV) : bAe e sz bt n (.own id off len sz') (some (.cells e' cs)) (m, ds) = if off = 0 ∧ sz' = sz ∧ e' = e ∧ cs.length = len*sz ∧ (len + m)*bt ≤ 140737488355328 ∧ len + m ≤ maxLen then
            some (.own n 0 (len+m) sz,some (.cells e (cs++ds)),[id])else none:=rfl
def ldC(ag:Bool)(sz:Option Nat)(off:Nat)(ho:Option HO):Option AV:=match ho with
  |some (.cells _ cs)=>if ag then sz.bind fun sz=>if off+sz≤cs.length then some (.ag ((cs.drop off).take sz))else none else cs[off]?
  |_=>none
theorem aYn(H:Nat→Option HO)(t:TypeId)(id off:Nat):wN P H t (.ptr id off)=(dI P t).bind fun ag=>ldC ag (tsz P t) off (H id):=rfl
theorem aYp(ag:Bool)(sz:Option Nat)(off:Nat)(e:TypeId)(cs:List AV):ldC ag sz off (some (.cells e cs))=if ag then sz.bind fun sz=>if off+sz≤cs.length then some (.ag ((cs.drop off).take sz))else none else cs[off]? := rfl
theorem bEg(H:Nat→Option HO)(t:TypeId)(cs:List D):wN P H t (.fp cs)=(dI P t).bind fun ag=>if ag then(tsz P t).bind fun sz=>if sz≤cs.length then some (.ag ((cs.take sz).map .d))else none else(cs[0]?).map .d:=rfl
def stC(id off:Nat)(sz:Option Nat)(vs:Option (List AV))(ho:Option HO):Option (Nat×HO):=match ho with
  |some (.cells e cs)=>vs.bind fun vs=>sz.bind fun sz=>if vs.length=sz∧off+sz≤cs.length then some (id,.cells e (lay cs off vs))else none
  |_=>none
theorem aPs(H:Nat→Option HO)(t:TypeId)(id off:Nat)(x:AV):oU P H t (.ptr id off) x=stC id off (tsz P t) (eS x) (H id):=rfl
theorem aWt(id off:Nat)(sz:Option Nat)(vs:Option (List AV))(e:TypeId)(cs:List AV):stC id off sz vs (some (.cells e cs))=vs.bind fun vs=>sz.bind fun sz=>if vs.length=sz∧off+sz≤cs.length then some (id,.cells e (lay cs off vs))else none:=rfl
theorem jY(H:Nat→Option HO)(n id off len sz:Nat):frz H (n+1) (.own id off len sz)=match H id with
  |some (.cells _ cs)=>if(off+len)*sz≤cs.length∧0<sz then(((cs.drop (off*sz)).take (len*sz)).mapM (frz H n)).map fun l=>.sl (chunk sz len l)else none
  |_=>none:=rfl
theorem aLl(σ:St)(t:Nat):mE P σ (.tmp t)=some (σ.Γ t):=rfl
theorem aFp(σ:St)(ad t:Nat):mE P σ (.cell ad t)=wN P σ.H t (σ.Γ ad):=rfl
theorem bCk(x:ResultVar)(σ:St):mW P [x] σ=(mE P σ x).bind fun av=>frz σ.H 8 av:=by
 unfold mW
 simp only[B7,Ft,Dv,CW]
 cases mE P σ x with
 |none=>rfl
 |some av =>
  simp only[Option.bind_some,iB,B7,Ft,Dv,CW]
  cases frz σ.H 8 av<;>rfl
theorem bEy(H:Nat→Option HO):kill [] H=H:=rfl
theorem bEx(a:Nat)(H:Nat→Option HO):kill [a] H=fun id=>if id=a then none else H id:=by funext id;simp[kill]
theorem bAj(H:Nat→Option HO)(n:Nat):jF H n none=H:=rfl
theorem bAi(H:Nat→Option HO)(n:Nat)(o:HO):jF H n (some o)=upd H n (some o):=rfl
theorem bHf(n:Nat):cnt none n=n:=rfl
theorem bHe(n:Nat)(o:HO):cnt (some o) n=n+1:=rfl
theorem aXn(Γ:Nat→AV)(d:Nat)(v:AV):bT Γ (some d) v=upd Γ d v:=rfl
theorem aXo(Γ:Nat→AV)(v:AV):bT Γ none v=Γ:=rfl
theorem dT{α:Type}(f:Nat→α)(k j:Nat)(x:α):upd f k x j=if j=k then x else f j:=rfl
theorem aZf(place:Nat→Option (Nat×Nat))(cells:List AV):mH place cells []=some cells:=rfl
def bQw(place:Nat→Option (Nat×Nat))(cells:List AV)(pl:Option (Nat×Nat))(cs:Option (List AV))(rest:List (Nat×AV)):Option (List AV):=match pl,cs with
 |some (off,size),some cs=>if cs.length=size∧off+cs.length≤cells.length then mH place (lay cells off cs) rest else none
 |_,_=>none
theorem aRl(place:Nat→Option (Nat×Nat))(cells:List AV)(i:Nat)(x:AV)(rest:List (Nat×AV)):mH place cells ((i,x)::rest)=bQw place cells (place i) (eS x) rest:=rfl
theorem aRk(place:Nat→Option (Nat×Nat))(cells:List AV)(off size:Nat)(cs:List AV)(rest:List (Nat×AV)):bQw place cells (some (off,size)) (some cs) rest=if cs.length=size∧off+cs.length≤cells.length then mH place (lay cells off cs) rest else none:=rfl
theorem aPw(sz:Nat)(els:List (List D))(l h:Int)(full:Bool):oV sz (.d (.sl els)) l h full=if 0≤l∧l≤h then if h≤els.length∧gE sz els=true then some (if full then .fd ((els.take h.toNat).drop l.toNat)else .d (.sl ((els.take h.toNat).drop l.toNat)))else none else none:=rfl
theorem aWv(sz:Nat)(els:List (List D))(l h:Int)(full:Bool):oV sz (.fd els) l h full=if 0≤l∧l≤h then if h≤els.length∧gE sz els=true then some (if full then .fd ((els.take h.toNat).drop l.toNat)else .d (.sl ((els.take h.toNat).drop l.toNat)))else none else none:=rfl
theorem aHr(ops:Array Oper)(dst:Option Tmp)(op:Op)(ty:TypeId)(pos:String)(after:Array Edge)(j:Nat)(w:Bool)(Γ:Nat→AV):dX ops ⟨dst,op,ty,pos,after,some (j,w)⟩ Γ =
  match(ops[j]?).bind (·.dst)with
  |none=>some false
  |some d=>match Γ d with
   |.d (.b x)=>some (x==w)
   |.un=>some false
   |_=>none:=rfl
theorem bRh(args:List D)(N t:Nat):Γ0 args N t=match args[t]? with|some d=>aT d|none=>.un:=by unfold Γ0;cases args[t]?<;>simp
theorem rU(m:List Nat)(f:Nat→D):gE 1 (m.map fun x=>[f x])=true:=by cases m<;>rfl
end Go.Am
end

section
set_option linter.unusedVariables false
set_option linter.unusedSimpArgs false
namespace Go.Am
def val:List Nat→Nat
 |[]=>0
 |x::l=>x+4294967296*val l
def Lim(l:List Nat):Prop:=∀ x∈l,x<4294967296
theorem Lim.nil:Lim []:=fun _ h=>by cases h
theorem Lim.cons{x:Nat}{l:List Nat}(h:x<4294967296)(k:Lim l):Lim (x::l):=fun y hy=>by
 rcases AD.1 hy with rfl|hy
 ·exact h
 ·exact k y hy
theorem Lim.app{a b:List Nat}(h:Lim a)(k:Lim b):Lim (a++b):=fun y hy=>by
 rcases List.mem_append.1 hy with hy|hy
 ·exact h y hy
 ·exact k y hy
theorem Lim.one{x:Nat}(h:x<4294967296):Lim [x]:=.cons h .nil
theorem Lim.take{l:List Nat}(h:Lim l)(n:Nat):Lim (l.take n):=fun y hy=>h y (List.mem_of_mem_take hy)
theorem Lim.get{l:List Nat}(h:Lim l){i:Nat}(hi:i<l.length):l[i]<4294967296:=h _ (Ak hi)
theorem Lim.getD{l:List Nat}(h:Lim l)(i:Nat):l.getD i 0<4294967296:=by
 rw[Ac]
 rcases Bc i l.length with hi|hi
 ·rw[Aa hi];exact h.get hi
 ·rw[AG hi];decide
theorem Lim.rep(n:Nat):Lim (Ay n 0):=fun y hy=>by rw[(List.mem_replicate.1 hy).2];decide
theorem Lim.set{l:List Nat}(h:Lim l)(i:Nat){x:Nat}(hx:x<4294967296):Lim (l.set i x):=fun y hy=>by
 rcases List.mem_or_eq_of_mem_set hy with hy|rfl
 ·exact h y hy
 ·exact hx
theorem mR(a b:List Nat):val (a++b)=val a+4294967296^a.length*val b:=by
 induction a with
 |nil=>simp[val]
 |cons x a ih =>
  simp only[B8,val,ih,AB,Cf,BX]
  rw[Nat.mul_comm (4294967296^a.length) 4294967296,Nat.mul_assoc]
  omega
theorem zV(n:Nat):val (Ay n 0)=0:=by
 induction n with
 |zero=>rfl
 |succ n ih=>simp[Dh,val,ih]
theorem rJ{l:List Nat}(h:Lim l):val l<4294967296^l.length:=by
 induction l with
 |nil=>simp[val]
 |cons x l ih =>
  have h1:=h x (Av ..)
  have h2:=ih fun y hy=>h y (As _ hy)
  simp only[val,AB,Cf]
  omega
theorem dH(l:List Nat)(i:Nat):val (l.take (i+1))=val (l.take i)+4294967296^i*l.getD i 0:=by
 rcases Bc i l.length with hi|hi
 ·rw[List.take_add_one,Aa hi,mR,AM,Da (by omega),Ac,Aa hi]
  simp[val]
 ·rw[Ai (by omega),Ai (by omega),Ac,AG hi]
  simp
def aX(n:Nat):List Nat:=if h:n=0 then[]else n%4294967296::aX (n/4294967296)
termination_by n
decreasing_by omega
theorem cP:aX 0=[]:=by rw[aX];simp
theorem iK{n:Nat}(h:n≠0):aX n=n%4294967296::aX (n/4294967296):=by rw[aX];simp[h]
theorem gD{n:Nat}:aX n=[]↔n=0:=by
 constructor
 ·intro h
  by_cases hn:n=0
  ·exact hn
  ·rw[iK hn]at h;cases h
 ·rintro rfl;exact cP
theorem aDm{p:Nat→Prop}(h0:p 0)(h1:∀ n,n≠0→p (n/4294967296)→p n):∀ n,p n:=fun n=>by
 induction n using Nat.strongRecOn with
 |_ n ih =>
  by_cases hn:n=0
  ·subst hn;exact h0
  ·exact h1 n hn (ih _ (by omega))
theorem cY(n:Nat):val (aX n)=n:=by
 refine aDm (p:=fun n=>val (aX n)=n) (by rw[cP];rfl) (fun n hn ih=>?_) n
 rw[iK hn,val,ih];omega
theorem cM(n:Nat):Lim (aX n):=by
 refine aDm (p:=fun n=>Lim (aX n)) (by rw[cP];exact .nil) (fun n hn ih=>?_) n
 rw[iK hn];exact .cons (by omega) ih
def oE(l:List Nat):Prop:=l.getLast? ≠ some 0
theorem nY(n:Nat):oE (aX n):=by
 refine aDm (p:=fun n=>oE (aX n)) (by rw[cP];simp[oE]) (fun n hn ih=>?_) n
 rw[iK hn]
 by_cases h:n/4294967296=0
 ·rw[h,cP]
  simp only[oE,List.getLast?_singleton,ne_eq,AT]
  omega
 ·unfold oE at ih ⊢
  rw[iK h]at ih ⊢
  simpa[Fv]using ih
def strip:List Nat→List Nat
 |[]=>[]
 |x::l=>match strip l with
  |[]=>if x=0 then[]else[x]
  |l'=>x::l'
theorem gY{l:List Nat}(h:Lim l):strip l=aX (val l):=by
 induction l with
 |nil=>rw[val,cP];rfl
 |cons x l ih =>
  have hx:=h x (Av ..)
  have hl:=ih fun y hy=>h y (As _ hy)
  simp only[strip,val]
  rw[hl]
  by_cases h0:val l=0
  ·rw[h0,cP]
   simp only[Nat.mul_zero,Nat.add_zero]
   by_cases hx0:x=0
   ·subst hx0;rw[cP];rfl
   ·rw[Ae hx0,iK hx0,Nat.mod_eq_of_lt hx,Nat.div_eq_of_lt hx,cP]
  ·rw[iK (n:=x+_) (by omega)]
   have e1:(x+4294967296*val l)%4294967296=x:=by omega
   have e2:(x+4294967296*val l)/4294967296=val l:=by omega
   rw[e1,e2]
   have:aX (val l)≠[]:=fun e=>h0 (gD.1 e)
   cases hd:aX (val l)with
   |nil=>exact(this hd).elim
   |cons=>rfl
theorem aBf(l:List Nat):strip (l++[0])=strip l:=by
 induction l with
 |nil=>rfl
 |cons x l ih=>simp only[B8,strip,ih]
theorem rM{l:List Nat}(h:oE l):strip l=l:=by
 induction l with
 |nil=>rfl
 |cons x l ih =>
  cases l with
  |nil =>
   have:x≠0:=by simpa[oE]using h
   simp[strip,this]
  |cons y l =>
   have h2:oE (y::l):=by simpa[oE,Fv]using h
   have h3:=ih h2
   rw[strip,h3]
theorem bGx{l:List Nat}(h:Lim l)(hc:oE l):aX (val l)=l:=by rw[←gY h,rM hc]
theorem fC{n k:Nat}(h:n<4294967296^k):(aX n).length≤k:=by
 induction k generalizing n with
 |zero=>simp at h;subst h;rw[cP];simp
 |succ k ih =>
  by_cases hn:n=0
  ·subst hn;rw[cP];simp
  ·rw[iK hn,AB]
   have:n/4294967296<4294967296^k:=by rw[Cf]at h;omega
   have:=ih this
   omega
theorem fR{n k:Nat}(h:(aX n).length≤k):n<4294967296^k:=by
 have h1:=rJ (cM n)
 rw[cY]at h1
 exact Nat.lt_of_lt_of_le h1 (Nat.pow_le_pow_right (by decide) h)
theorem dW{a b:Nat}(h:a≤b):(aX a).length≤(aX b).length:=fC (Nat.lt_of_le_of_lt h (fR (Az _)))
theorem jI{a b:Nat}(h:(aX a).length<(aX b).length):a<b:=by
 rcases Bc a b with h'|h'
 ·exact h'
 ·have:=dW h';omega
theorem sX{a b:List Nat}(ha:Lim a){i:Nat}(hl:a.length=b.length)(hi:i<a.length)(hd:a.drop (i+1)=b.drop (i+1))(hlt:a.getD i 0<b.getD i 0):val a<val b:=by
 have e1:a=a.take (i+1)++a.drop (i+1):=(Dp _ _).symm
 have e2:b=b.take (i+1)++b.drop (i+1):=(Dp _ _).symm
 rw[e1,e2,mR,mR,hd,dH,dH]
 have h1:=rJ (ha.take i)
 rw[AM,Da (by omega)]at h1
 have h2:(a.take (i+1)).length=(b.take (i+1)).length:=by simp[hl]
 rw[h2]
 have h3:4294967296^i*(a.getD i 0+1)≤4294967296^i*b.getD i 0:=Nat.mul_le_mul_left _ hlt
 rw[BX,CK]at h3
 omega
/-! Encodings -/
def aN(m:List Nat):D:=.sl (m.map fun(x:Nat)=>[D.i .u32 (x:Int)])
def lms(m:List Nat):List D:=m.map fun(x:Nat)=>D.i .u32 (x:Int)
theorem lY(m:List Nat):(lms m).length=m.length:=by simp[lms]
theorem gC(a b:List Nat):lms (a++b)=lms a++lms b:=by simp[lms]
theorem gJ(x:Nat):lms [x]=[D.i .u32 (x:Int)]:=rfl
theorem aUv{m:List Nat}{i x:Nat}(h:m[i]? = some x):(lms m)[i]? = some (.i .u32 (x:Int)):=by simp[lms,h]
theorem wO(m:List Nat)(i x:Nat):(lms m).set i (.i .u32 (x:Int))=lms (m.set i x):=by simp[lms,List.map_set]
theorem aNj(m:List Nat):(m.map fun(x:Nat)=>[D.i .u32 (x:Int)]).flatten=lms m:=by unfold lms;induction m<;>simp_all
theorem aUw(m:List Nat):((lms m).map AV.d).all one=true:=by simp[lms,one]
theorem bEh(m:List Nat):(∀ x,x∈lms m→one (AV.d x)=true)↔True:=⟨fun _=>trivial,fun _ x hx=>by
 obtain⟨y,_,rfl⟩:=List.mem_map.1 hx;rfl⟩
theorem bNh(n:Nat):Ay n (D.i .u32 0)=lms (Ay n 0):=by simp[lms]
theorem bLk(n:Nat):Ay n (AV.d (D.i .u32 0))=(lms (Ay n 0)).map .d:=by simp[lms]
theorem fX{m:List Nat}{n:Nat}(h:m.length=n):chunk 1 n (lms m)=m.map fun(x:Nat)=>[D.i .u32 (x:Int)]:=by
 rw[tZ _ _ (by rw[lY];exact h.symm)];simp[lms]
theorem dY{m:List Nat}{n:Nat}(h:m.length=n):List.take n ((lms m).map AV.d)=(lms m).map AV.d:=Ai (by simp[lY,h])
def encI(neg:Bool)(m:List Nat):D:=.ag [.b neg,aN m]
def encZ(z:Int):D:=encI (decide (z<0)) (aX z.natAbs)
def sg(neg:Bool)(n:Nat):Int:=if neg then -(n:Int)else n
theorem bOx(neg:Bool)(n:Nat):encI (neg&&decide (n≠0)) (aX n)=encZ (sg neg n):=by
 unfold encZ sg
 cases neg
 ·have h:decide ((n:Int)<0)=false:=by simp
  simp[h]
 ·simp only[Bool.true_and,if_true,Int.natAbs_neg,Int.natAbs_natCast]
  congr 1
  rw[Bool.eq_iff_iff];simp;omega
theorem iN(z:Int):sg (decide (z<0)) z.natAbs=z:=by
 unfold sg
 by_cases h:z<0
 ·rw[Ag (by simpa using h)];omega
 ·rw[Ae (by simpa using h)];omega
/-! Wrapping -/
theorem aR{n:Int}(h1:-9223372036854775808≤n)(h2:n≤9223372036854775807):IntKind.i64.wrap n=n:=by
 simp[Ee,DJ,C4]
 omega
theorem bP{n:Int}(h1:0≤n)(h2:n<18446744073709551616):AY.wrap n=n:=by
 simp[Ee,DJ,C4]
 omega
theorem xW(n:Int):AY.wrap n=n%18446744073709551616:=by
 simp[Ee,DJ,C4]
theorem iM(n:Int):BY.wrap n=n%4294967296:=by
 simp[Ee,DJ,C4]
theorem jS{n:Int}(h1:0≤n)(h2:n<4294967296):BY.wrap n=n:=by
 rw[iM];omega
theorem aAu(n:Int):IntKind.u8.wrap n=n%256:=by
 simp[Ee,DJ,C4]
end Go.Am
end
