/- Numbers to the base 2^32 as lists of limbs: values, canonical lists, sums, differences, products: plain arithmetic, no program in sight. No condition. -/
import Derived.Test.YtmmghmkgjihohaaGreatK2
import Derived.Scope
import Derived.Defers
open Array renaming all_eq_true_iff_forall_mem→Cf,getD_eq_getD_getElem?→Ay,getElem?_append_left→BX,getElem?_append_right→Cj,getElem?_eq_getElem→Ak,getElem?_replicate→Ch,length_toList→BA,mapM_eq_mapM_toList→D5,mem_of_getElem?→BS,replicate→AU
open Bool renaming and_eq_true→AR,false_eq_true→Ae,not_eq_true'→C2
open Go.Exit renaming inBlock→DR
open Go.Instr renaming loadAt→EW,sureAddr→Cp
open Go.IntKind renaming bits→Dt,i64→Al,signed→ET,u32→BR,u64→AB,wrap→Fi
open Go.Result renaming andThen_ok→AH
open Go.Value renaming cells→Er,oneCell'→Co
open Iff renaming rfl→FF
open List renaming all_eq_true→AW,cons_append→DZ,ext_getElem?→C4,getD_eq_getElem?_getD→Ac,getElem?_eq_getElem→Ab,getElem?_eq_none→AX,getElem?_map→Ag,getElem_mem→Bj,getLast?_cons_cons→GC,length_cons→Aj,length_take→Be,mapM_cons→Ce,mapM_nil→GA,map_cons→BO,mem_cons→Bq,mem_cons_of_mem→AJ,mem_cons_self→AI,nodup_cons→Dz,range_succ→FP,replicate→As,replicate_succ→CF,take_append_drop→EJ,take_of_length_le→AG
open Nat renaming le_refl→AA,lt_or_ge→Az,lt_succ_self→Cr,min_eq_left→Da,mul_add→Cd,mul_one→CJ,pow_succ→BH
open Option renaming bind_eq_bind→CU,bind_eq_some_iff→Ad,map_eq_some_iff→Af,pure_def→DO
open Option.some renaming injEq→At
open Prod.mk renaming injEq→Gz
open _root_ renaming decide_eq_true_eq→Bw,if_false→Av,if_neg→Ah,if_pos→Ap
set_option linter.unusedSectionVars false
set_option linter.unusedVariables false
set_option linter.unusedSimpArgs false
section
open List renaming map_map→ζ,mapM_map→ξ
namespace Go.Am
open RowKit (Below)
def WkR(σ σ':St):Prop:=σ=σ'∨∃ ρ,Wk σ σ' ρ
def AWP(P:Program)[M:Mch P]:Code→St→(Exit→St→Prop)→Prop
  |.skip,σ,Q=>Q .normal σ
  |.region _ ops _,σ,Q=>OW P ops ops.toList σ [] fun σ' con=>Q .normal (fin σ' con)
  |.seq x y,σ,Q=>AWP P x σ fun e σ'=>match e with|.normal=>AWP P y σ' Q|e=>Q e σ'
  |.cond c x y,σ,Q=>match oev σ.Γ c with|.d (.b t)=>if t then AWP P x σ Q else AWP P y σ Q|.ub=>AWP P x σ Q∧AWP P y σ Q|_=>False
  |.block id c,σ,Q=>AWP P c σ fun e σ'=>match e with|.exit id'=>if id'=id then Q .normal σ' else Q (.exit id') σ'|e=>Q e σ'
  |.loop c,σ,Q=>∃(τ:Type) (S:τ→St) (m:τ→Nat) (x0:τ),WkR σ (S x0)∧∀ x,AWP P c (S x) fun e σ'=>match e with|.normal=>∃ y,m y<m x∧WkR σ' (S y)|e=>∃ σ2,WkR σ' σ2∧Q e σ2
  |.exit id,σ,Q=>Q (.exit id) σ
  |.ret,σ,Q=>Q .ret σ
  |.label _,σ,Q=>Q .normal σ
  |.scope c,σ,Q=>AWP P c σ fun e σ'=>match e with|.goto _=>False|e=>Q e σ'
  |_,_,_=>False
def aFk(N:Nat)(ops:Array Oper):Bool:=ops.all fun o=>match o.dst with|some d=>decide (d<N)|none=>true
def bH(N:Nat):Code→Bool
  |.region _ ops _=>aFk N ops
  |.seq x y|.cond _ x y=>bH N x&&bH N y
  |.block _ c|.loop c|.scope c=>bH N c
  |_=>true
def bBs(z:Nat→Bool)(ops:Array Oper):Bool:=ops.all fun o=>match o.dst with|some d=>!z d|none=>true
def fF(z:Nat→Bool):Code→Bool
  |.region _ ops _=>bBs z ops
  |.seq x y|.cond _ x y=>fF z x&&fF z y
  |.block _ c|.loop c|.scope c=>fF z c
  |_=>true
theorem aIx(ops:Array Oper):bBs (fun _=>false) ops=true:=by
  refine Cf.2 fun o _=>?_
  cases o.dst<;>rfl
theorem uG(c:Code):fF (fun _=>false) c=true:=by
  induction c with
  |region id ops d=>exact aIx ops
  |seq x y ihx ihy=>simp[fF,ihx,ihy]
  |cond c x y ihx ihy=>simp[fF,ihx,ihy]
  |block id c ih=>exact ih
  |loop c ih=>exact ih
  |scope c ih=>exact ih
  |_=>rfl
def bK(P:Program):Code→Bool
  |.region _ ops draw=>!draw||bDa P ops
  |.seq x y|.cond _ x y=>bK P x&&bK P y
  |.block _ c|.loop c|.scope c=>bK P c
  |_=>true
theorem pA{N:Nat}{ops:Array Oper}(h:aFk N ops=true):∀(i:Nat) (o:Oper) (d:Tmp),ops[i]? = some o→o.dst=some d→d<N:=by
  intro i o d hi hd
  have:=Cf.1 h o (BS hi)
  rw[hd]at this
  simpa using this
theorem tE{N:Nat}{ops:Array Oper}{z:Nat→Bool}{G:Ctx}(hz:∀ d v,G.Z d=some v→z d=true)(h:aFk N ops=true)(hnz:bBs z ops=true) :
    ∀(i:Nat) (o:Oper) (d:Tmp),ops[i]? = some o→o.dst=some d→d<N∧G.Z d=none:=by
  intro i o d hi hd
  refine⟨pA h i o d hi hd,?_⟩
  have:=Cf.1 hnz o (BS hi)
  rw[hd]at this
  cases hZ:G.Z d with
  |none=>rfl
  |some v=>have h2:=hz d v hZ;simp[h2]at this
section
variable {P:Program} [M:Mch P] {G:Ctx} {N:Nat} {ds:List Deferred}
theorem mX{σ σ':St}{a:Act}{w:World}(hk:WkR σ σ')(h:SR G N ds σ a w):SR G N ds σ' a w:=by
  rcases hk with rfl|⟨ρ,hk⟩
  · exact h
  · exact uO hk h
theorem bQl{f:FuncId}{args:Array Operand}{dst:Option Tmp}{σ:St}{con:List Nat}{k k':St→List Nat→Prop}(hk:∀ σ con,k σ con→k' σ con)(h:OC P f args dst σ con k):OC P f args dst σ con k':=by
  unfold OC at h ⊢
  split
  · rename_i hm
    rw[Ap hm]at h
    split
    · rename_i x rest hargs
      simp only[hargs]at h
      split
      · rename_i id hh hx
        simp only[hx]at h
        split
        · rename_i ho hH
          simp only[hH]at h
          rcases h with ⟨g,h1,h2,h3,h4⟩|⟨h1,h2,ds,ho',r,h3,h4,h5,h6,h7⟩|⟨p0,ν,h0,ro,hs,ds,ro',hs',r,p1,p2,p3,p4,p5,p6,p7,p8,p9,p10⟩|⟨h1,h2,ds,r,h3,h4,h5⟩
          · exact .inl ⟨g,h1,h2,h3,hk _ _ h4⟩
          · exact .inr (.inl ⟨h1,h2,ds,ho',r,h3,h4,h5,h6,hk _ _ h7⟩)
          · exact .inr (.inr (.inl ⟨p0,ν,h0,ro,hs,ds,ro',hs',r,p1,p2,p3,p4,p5,p6,p7,p8,p9,hk _ _ p10⟩))
          · exact .inr (.inr (.inr ⟨h1,h2,ds,r,h3,h4,hk _ _ h5⟩))
        · rename_i hH;simp only[hH]at h
      · rename_i hx
        simp only[hx]at h
        rcases h with ⟨h1,ds,r,h3,h4,h5⟩|⟨d0,y,l,id,h,ho,ds,ho',p1,p2,p3,p4,p5,p6,p7,p8,p9,p10,p11⟩
        · exact .inl ⟨h1,ds,r,h3,h4,hk _ _ h5⟩
        · exact .inr ⟨d0,y,l,id,h,ho,ds,ho',p1,p2,p3,p4,p5,p6,p7,p8,p9,p10,hk _ _ p11⟩
    · rename_i hargs;simp only[hargs]at h
  · rename_i hm
    rw[Ah hm]at h
    rcases h with ⟨h0,h1,v,hs,h2,h5⟩|h
    · exact .inl ⟨h0,h1,v,hs,h2,hk _ _ h5⟩
    refine .inr ?_
    split
    · rename_i g id hargs
      simp only[hargs]at h
      split
      · rename_i es hH
        simp only[hH]at h
        exact⟨h.1,h.2.1,h.2.2.1,hk _ _ h.2.2.2⟩
      · rename_i hne
        exfalso
        split at h
        · rename_i es hH;exact hne _ hH
        · exact h
    · rename_i hne
      split at h
      · rename_i g id hargs;exact(hne _ _ hargs).elim
      · obtain⟨ds,r,h1,h2,h3⟩:=h
        exact⟨ds,r,h1,h2,hk _ _ h3⟩
theorem bQm{o:Oper}{σ:St}{con:List Nat}{k k':St→List Nat→Prop}(hk:∀ σ con,k σ con→k' σ con)(h:O1 P o σ con k):O1 P o σ con k':=by
  unfold O1 at h
  unfold O1
  split at h
  · rename_i t x hop
    split at h
    · rename_i v hv;(try simp only[hv]);exact hk _ _ h
    · exact h.elim
  · rename_i t m x ok hop
    split at h
    · rename_i v hv;(try simp only[hv]);exact hk _ _ h
    · exact h.elim
  · rename_i x hop
    split at h
    · rename_i v hv;(try simp only[hv]);exact hk _ _ h
    · exact h.elim
  · exact h.elim
  · rename_i t ad x hop
    split at h
    · rename_i id ho hv;(try simp only[hv]);exact hk _ _ h
    · exact h.elim
  · rename_i t m x v hop
    split at h
    · rename_i id ho hv;(try simp only[hv]);exact hk _ _ h
    · exact h.elim
  · rename_i t m x v hop
    split at h
    · rename_i id ho hv;(try simp only[hv]);exact hk _ _ h
    · exact h.elim
  · rename_i f args ts hop
    exact bQl hk h
  · rename_i t args ts hop
    split at h
    · rename_i f cs hc
      obtain⟨ds,r,h1,h2,h3⟩:=h
      (try simp only[hc])
      exact⟨ds,r,h1,h2,hk _ _ h3⟩
    · rename_i hc
      (try simp only[hc])
      split at h
      · rename_i f d hm
        obtain⟨ds,r,h1,h2,h3⟩:=h
        (try simp only[hm])
        exact⟨ds,r,h1,h2,hk _ _ h3⟩
      · exact h.elim
  · rename_i t name args ts hop
    split at h
    · rename_i ty d hc
      (try simp only[hc])
      split at h
      · rename_i f hm
        obtain⟨ds,r,h1,h2,h3⟩:=h
        (try simp only[hm])
        exact⟨ds,r,h1,h2,hk _ _ h3⟩
      · exact h.elim
    · exact h.elim
  · rename_i args ts hop
    split at h
    · rename_i s x t t' h1 h2
      obtain⟨e,h⟩:=h
      (try simp only[h1,h2])
      refine⟨e,?_⟩
      split at h
      · rename_i av nb cn hv;(try simp only[hv]);exact hk _ _ h
      · exact h.elim
    · exact h.elim
  · rename_i args ts hop
    split at h
    · rename_i m x t kt h1 h2
      (try simp only[h1,h2])
      split at h
      · rename_i id ho hv;(try simp only[hv]);exact hk _ _ h
      · exact h.elim
    · exact h.elim
  · rename_i args ts hop
    split
    · rename_i hlm
      rw[Ap hlm]at h
      split at h
      · rename_i m h1
        (try simp only[h1])
        split at h
        · rename_i n hv;(try simp only[hv]);exact hk _ _ h
        · exact h.elim
      · exact h.elim
    · rename_i hlm
      rw[Ah hlm]at h
      obtain⟨hkd,h⟩:=h
      refine⟨hkd,?_⟩
      split at h
      · rename_i av nb hv;(try simp only[hv]);exact hk _ _ h
      · exact h.elim
  · rename_i h1 h2 h3 h4 h5 h6 h7 h8
    obtain⟨hkd,h⟩:=h
    refine⟨hkd,?_⟩
    split at h
    · rename_i av nb hv;(try simp only[hv]);exact hk _ _ h
    · exact h.elim
theorem aGw{ops:Array Oper}{k k':St→List Nat→Prop}(hk:∀ σ con,k σ con→k' σ con):∀(l:List Oper) (σ:St) (con:List Nat),OW P ops l σ con k→OW P ops l σ con k'
  |[],σ,con,h=>hk _ _ h
  | o::l,σ,con,h=>by
    unfold OW at h ⊢
    split at h
    · exact bQm (fun σ con=>aGw hk l σ con) h
    · exact aGw hk l _ _ h
    · exact h.elim
theorem eY:∀(c:Code) {Q Q':Exit→St→Prop} {σ:St},(∀ e σ,Q e σ→Q' e σ)→AWP P c σ Q→AWP P c σ Q':=by
  intro c
  induction c with
  |skip=>intro Q Q' σ hq h;exact hq _ _ h
  |region id ops draw=>intro Q Q' σ hq h;exact aGw (fun σ con h=>hq _ _ h) _ _ _ h
  | seq x y ihx ihy =>
    intro Q Q' σ hq h
    refine ihx (fun e σ h=>?_) h
    cases e with
    |normal=>exact ihy hq h
    |_=>exact hq _ _ h
  | cond c x y ihx ihy =>
    intro Q Q' σ hq h
    unfold AWP at h ⊢
    split
    · rename_i t ht
      simp only[ht]at h
      cases t
      · exact ihy hq h
      · exact ihx hq h
    · rename_i ht
      simp only[ht]at h
      exact⟨ihx hq h.1,ihy hq h.2⟩
    · rename_i h1 h2
      exfalso
      split at h
      · rename_i t ht;exact h1 _ ht
      · rename_i ht;exact h2 ht
      · exact h
  | block id c ih =>
    intro Q Q' σ hq h
    refine ih (fun e σ h=>?_) h
    cases e with
    | exit id' =>
      simp only at h ⊢
      split
      · rename_i he;rw[Ap he]at h;exact hq _ _ h
      · rename_i he;rw[Ah he]at h;exact hq _ _ h
    |_=>exact hq _ _ h
  | loop c ih =>
    intro Q Q' σ hq h
    obtain⟨τ,S,m,x0,h0,h1⟩:=h
    refine⟨τ,S,m,x0,h0,fun x=>ih (fun e σ h=>?_) (h1 x)⟩
    cases e with
    |normal=>exact h
    |_=>exact let ⟨σ2,hw,h⟩:=h;⟨σ2,hw,hq _ _ h⟩
  |exit id=>intro Q Q' σ hq h;exact hq _ _ h
  |ret=>intro Q Q' σ hq h;exact hq _ _ h
  |label l=>intro Q Q' σ hq h;exact hq _ _ h
  | scope c ih =>
    intro Q Q' σ hq h
    refine ih (fun e σ h=>?_) h
    cases e with
    |goto l=>exact h
    |_=>exact hq _ _ h
  |_=>intro Q Q' σ hq h;exact h.elim
theorem aAq{c:Code}{σ:St}{Q:Exit→St→Prop}{τ:Type}(S:τ→St)(m:τ→Nat)(x0:τ)(h0:WkR σ (S x0))
    (h:∀ x,AWP P c (S x) fun e σ'=>match e with|.normal=>∃ y,m y<m x∧WkR σ' (S y)|e=>Q e σ'):AWP P (.loop c) σ Q :=
  ⟨τ,S,m,x0,h0,fun x=>eY c (fun e σ h=>by
    cases e with
    |normal=>exact h
    |_=>exact⟨σ,.inl rfl,h⟩) (h x)⟩
def LU(P:Program)[M:Mch P](c:Code):Nat→St→(Exit→St→Prop)→Prop
  |0,_,_=>False
  |n+1,σ,Q=>AWP P c σ fun e σ'=>match e with|.normal=>LU P c n σ' Q|e=>Q e σ'
theorem bNj{c:Code}{Q:Exit→St→Prop}{n:Nat}{σ:St}(h:LU P c n σ Q):AWP P (.loop c) σ Q:=by
  refine⟨{ p:Nat×St // LU P c p.1 p.2 Q },fun p=>p.1.2,fun p=>p.1.1,⟨(n,σ),h⟩,.inl rfl,fun x=>?_⟩
  obtain⟨⟨n,σ⟩,hx⟩:=x
  cases n with
  |zero=>exact hx.elim
  | succ n =>
    refine eY c (fun e σ h=>?_) hx
    cases e with
    |normal=>exact⟨⟨(n,σ),h⟩,Cr n,.inl rfl⟩
    |_=>exact⟨σ,.inl rfl,h⟩
theorem sN{rd:Bool}{WW:Code→(Exit→Act→World→Prop)→Act→World→Prop}(hW:WpR P rd WW)(hm:P.follows .mixedOrders=true){z:Nat→Bool}(hz:∀ d v,G.Z d=some v→z d=true) :
    ∀(c:Code) (Q:Exit→St→Prop) (σ:St) (a:Act) (w:World),bH N c=true→bK P c=true→fF z c=true→(rd=true→fT c=true)→AWP P c σ Q→SR G N ds σ a w →
    WW c (fun e a' w'=>∃ σ',Q e σ'∧SR G N ds σ' a' w') a w:=by
  intro c
  induction c with
  |skip=>intro Q σ a w _ _ _ _ h hs;exact hW.skip ⟨σ,h,hs⟩
  | region id ops draw =>
    intro Q σ a w hd hl hnz hnd h hs
    exact sZ hW (Q:=Q .normal) hm (tE hz hd hnz) hnd (fun hdr=>by simpa[bK,hdr]using hl) hs h fun σ' a' w' hq hs'=>⟨σ',hq,hs'⟩
  | seq x y ihx ihy =>
    intro Q σ a w hd hl hnz hnd h hs
    simp only[bH,bK,fF,fT,AR]at hd hl hnz hnd
    refine hW.seq (hW.mono (ihx _ σ a w hd.1 hl.1 hnz.1 (fun e=>(hnd e).1) h hs) ?_)
    rintro e a' w' ⟨σ',hq,hs'⟩
    cases e with
    |normal=>exact ihy Q σ' a' w' hd.2 hl.2 hnz.2 (fun e=>(hnd e).2) hq hs'
    |_=>exact⟨σ',hq,hs'⟩
  | cond c x y ihx ihy =>
    intro Q σ a w hd hl hnz hnd h hs
    simp only[bH,bK,fF,fT,AR]at hd hl hnz hnd
    unfold AWP at h
    split at h
    rotate_left
    · rename_i ht
      have hc:∃ t,a.eval c=.bool t:=by
        obtain⟨_,_,_,F,ι,_,_,hV,_⟩:=hs
        have:=cE (Γ:=σ.Γ) (a:=a) (x:=c) (F:=F) (w:=w) (ι:=ι) fun t _=>hV t
        rw[ht]at this
        generalize a.eval c=v at this
        cases this with|ub t=>exact⟨t,rfl⟩
      obtain⟨t,hc⟩:=hc
      refine hW.cond hc ?_
      cases t
      · exact ihy Q σ a w hd.2 hl.2 hnz.2 (fun e=>(hnd e).2) h.2 hs
      · exact ihx Q σ a w hd.1 hl.1 hnz.1 (fun e=>(hnd e).1) h.1 hs
    · exact h.elim
    · rename_i t ht
      have hc:a.eval c=.bool t:=by
        obtain⟨_,_,_,F,ι,_,_,hV,_⟩:=hs
        have:=cE (Γ:=σ.Γ) (a:=a) (x:=c) (F:=F) (w:=w) (ι:=ι) fun t _=>hV t
        rw[ht]at this
        generalize a.eval c=v at this
        cases this with|d _ _ h=>cases h;rfl
      refine hW.cond hc ?_
      cases t
      · exact ihy Q σ a w hd.2 hl.2 hnz.2 (fun e=>(hnd e).2) h hs
      · exact ihx Q σ a w hd.1 hl.1 hnz.1 (fun e=>(hnd e).1) h hs
  | block id c ih =>
    intro Q σ a w hd hl hnz hnd h hs
    refine hW.block (hW.mono (ih _ σ a w hd hl hnz hnd h hs) ?_)
    rintro e a' w' ⟨σ',hq,hs'⟩
    cases e with
    | exit id' =>
      simp only[DR]at hq ⊢
      split at hq
      · rename_i he;rw[Ap he];exact⟨σ',hq,hs'⟩
      · rename_i he;rw[Ah he];exact⟨σ',hq,hs'⟩
    |_=>exact⟨σ',hq,hs'⟩
  | loop c ih =>
    intro Q σ a w hd hl hnz hnd h hs
    obtain⟨τ,S,m,x0,hk,hround⟩:=h
    refine hW.loop (fun n a w=>∃ x,m x=n∧SR G N ds (S x) a w) ⟨m x0,x0,rfl,mX hk hs⟩ ?_
    rintro n a w ⟨x,rfl,hsx⟩
    refine hW.mono (ih _ (S x) a w hd hl hnz hnd (hround x) hsx) ?_
    rintro e a' w' ⟨σ',hq,hs'⟩
    cases e with
    | normal =>
      obtain⟨y,hlt,hk⟩:=hq
      exact⟨m y,hlt,y,rfl,mX hk hs'⟩
    |_=>exact let ⟨σ2,hw,hq⟩:=hq;⟨σ2,hq,mX hw hs'⟩
  |exit id=>intro Q σ a w _ _ _ _ h hs;exact hW.exit ⟨σ,h,hs⟩
  |ret=>intro Q σ a w _ _ _ _ h hs;exact hW.ret ⟨σ,h,hs⟩
  |label l=>intro Q σ a w _ _ _ _ h hs;exact hW.label ⟨σ,h,hs⟩
  | scope c ih =>
    intro Q σ a w hd hl hnz hnd h hs
    have hrd:rd=false:=by
      cases rd with
      |false=>rfl
      |true=>exact absurd (hnd rfl) (by simp[fT])
    refine hW.scope hrd (hW.mono (ih _ σ a w hd hl hnz (fun e=>by rw[hrd]at e;cases e) h hs) ?_)
    rintro e a' w' ⟨σ',hq,hs'⟩
    cases e with
    |goto l=>exact hq.elim
    |_=>exact⟨σ',hq,hs'⟩
  |_=>intro Q σ a w _ _ _ _ h;exact h.elim
theorem cG(hm:P.follows .mixedOrders=true)(hZ:∀ d,G.Z d=none)(c:Code)(Q:Exit→St→Prop)(σ:St)(a:Act)(w:World)(hd:bH N c=true)(hl:bK P c=true)(h:AWP P c σ Q)(hs:SR G N ds σ a w) :
    WC P c (fun e a' w'=>∃ σ',Q e σ'∧SR G N ds σ' a' w') a w :=
  sN (WpR.plain P) hm (z:=fun _=>false) (fun d v e=>by rw[hZ]at e;cases e) c Q σ a w hd hl (uG c) (fun e=>by cases e) h hs
def jV(P:Program)(σ:St):ResultVar→Option AV
  |.tmp t=>some (σ.Γ t)
  |.cell ad t=>tM P σ.H t (σ.Γ ad)
def iY(P:Program)(rs:List ResultVar)(σ:St):Option D :=
  (rs.mapM (jV P σ)).bind fun avs=>(cI σ.H avs).map fun l=>match l with|[x]=>x|l=>.tp l
theorem jZ{fn:Func}{σ:St}{a:Act}{w:World}{r:D}{F:Nat→Prop}{ι:Nat→Option Nat}(hR:HR G F w ι aW σ.H)(hV:∀ t,V F w ι (σ.Γ t) (a.tmps.getD t undef))(h:iY P fn.results.toList σ=some r) :
    ∃ v,aH P (results fn a.tmps) w=.ok v w∧VD (fun b=>F b∨∃ id,ι id=some b) w r v:=by
  obtain⟨avs,havs,h⟩:=Ad.1 h
  obtain⟨l,hl,rfl⟩:=Af.1 h
  have hrun:∀ (rs:List ResultVar) (avs:List AV),rs.mapM (jV P σ)=some avs→∃ vs:List Value,aH P (rs.mapM (m:=Sem) fun | .tmp t=>pure (a.tmps.getD t undef) | .cell ad t=>do loadVar t (← asAddr (a.tmps.getD ad undef))) w=.ok vs w ∧
      vs.length=avs.length∧∀(k:Nat) c v,avs[k]? = some c→vs[k]? = some v→V F w ι c v:=by
    intro rs
    induction rs with
    |nil=>intro avs h;simp at h;subst h;exact⟨[],by simp,rfl,fun k c v h=>by simp at h⟩
    | cons x rs ih =>
      intro avs h
      simp only[Ce,CU,Ad,DO,At]at h
      obtain⟨av,hav,avs',havs',rfl⟩:=h
      obtain⟨vs,h1,h2,h3⟩:=ih avs' havs'
      have hx:∃ v,aH P ((match x with|.tmp t=>pure (a.tmps.getD t undef)|.cell ad t=>do loadVar t (←asAddr (a.tmps.getD ad undef))):Sem Value) w=.ok v w∧V F w ι av v:=by
        cases x with
        |tmp t=>simp only[jV,At]at hav;subst hav;exact⟨_,by simp,hV t⟩
        | cell ad t =>
          simp only[jV]at hav
          obtain⟨u,hu,hv⟩:=aFw (P:=P) hR (fun _ _ h=>h) hav (hV ad)
          refine⟨u,?_,hv⟩
          show aH P (do loadVar t (←asAddr (a.tmps.getD ad undef)):Sem Value) w=_
          simp only[EW]at hu
          generalize a.tmps.getD ad undef=p at hu ⊢
          cases p with
          | pointer q=>cases q with
            |some q=>simpa[Cp,asAddr]using hu
            |none=>simp[Cp]at hu
          |_=>simp[Cp]at hu
      obtain⟨v,hv,hvv⟩:=hx
      refine⟨v::vs,?_,by simp[h2],fun k c u hc hu=>?_⟩
      · simp only[Ce,Sem.run_bind,hv,AH,h1,Sem.run_pure]
      · rcases k with _|k
        · simp at hc hu;subst hc;subst hu;exact hvv
        · exact h3 k c u (by simpa using hc) (by simpa using hu)
  obtain⟨vs,h1,h2,h3⟩:=hrun _ _ havs
  obtain⟨q1,q2⟩:=fN _ _ _ hl
  have hVD:∀(k:Nat) d v,l[k]? = some d→vs[k]? = some v→VD (fun b=>F b∨∃ id,ι id=some b) w d v:=by
    intro k d v hd hv
    obtain⟨c,hc,hf⟩:=q2 k d hd
    refine(tU hR (fun _ _ h=>h) 8 c v d hf (h3 k c v hc hv)).1.mono ?_
    rintro b (hb|⟨id,hid,hb⟩)
    · exact .inl hb
    · exact .inr ⟨id,hb⟩
  have hres:aH P (results fn a.tmps) w=.ok (if h:vs.toArray.size=1 then vs.toArray[0]else .tuple vs.toArray) w:=by
    simp only[results,D5,Sem.run_bind,Sem.run_map]
    erw [h1]
    simp
  refine⟨_,hres,?_⟩
  have hlen:l.length=vs.length:=by omega
  match l,hlen,hVD with
  | [x],hlen,hVD =>
    match vs,hlen,hVD with
    |[v],_,hVD=>exact hVD 0 x v rfl rfl
  | [],hlen,hVD =>
    have:vs=[]:=List.eq_nil_of_length_eq_zero (by simpa using hlen.symm)
    subst this
    exact .tp _ _ rfl fun k c v h=>by simp at h
  | x::y::l,hlen,hVD =>
    have hne:¬vs.toArray.size=1:=by simp at hlen ⊢;omega
    rw[dif_neg hne]
    exact .tp _ _ (by simpa using hlen) fun k c v hc hv=>hVD k c v hc (by simpa using hv)
theorem dV{fn:Func}{σ:St}{a:Act}{w:World}{r:D}(hs:SR G N ds σ a w)(h:iY P fn.results.toList σ=some r) :
    ∃ v,aH P (results fn a.tmps) w=.ok v w∧VD (fun b=>G.A b∨G.M b∨(G.W.heap.size≤b∧b<w.heap.size)) w r v:=by
  obtain⟨_,_,_,F,ι,hR,hdom,hV,_⟩:=hs
  obtain⟨v,h1,h2⟩:=jZ hR hV h
  refine⟨v,h1,h2.mono ?_⟩
  rintro b (hb|⟨id,hb⟩)
  · rcases hR.F_ok b hb with h|h|h
    · exact .inl h
    · exact .inr (.inl h)
    · exact .inr (.inr ⟨h,hR.F_lt b hb⟩)
  · rcases(hR.place id b hb).1 with h|h
    · exact .inr (.inl h)
    · exact .inr (.inr ⟨h,hR.ι_lt hb⟩)
def Γ0(args:List D)(N:Nat):Nat→AV:=fun t=>match args[t]? with|some d=>aL d|none=>if t<N then .un else .un
def St0(args:List D)(N:Nat):St:=⟨Γ0 args N,fun _=>none,1⟩
theorem SR0{A:Nat→Prop}{W:World}{vs:Array Value}{args:List D}(hok:OkV W)(hA:∀ b,A b→b<W.heap.size)(hl:args.length=vs.size)(hv:∀(k:Nat) d v,args[k]? = some d→vs[k]? = some v→VD A W d v)(hN:args.length≤N) :
    SR ⟨W,A,aW,fun _=>True,fun _=>none⟩ N [] (St0 args N) { tmps:=vs++AU (N-vs.size) undef,defers:=[] } W:=by
  refine⟨fun _ _=>rfl,fun h=>by simp[St0]at h,hok,A,fun _=>none,⟨.refl _ _ _,hA,fun b h=>.inl h,fun _ _ h=>by simp at h,fun _ _ _ h=>by simp at h,fun _ _ _ h=>by simp at h,fun _ _ _ _ _ h=>by simp at h⟩,fun id=>by simp[St0],fun t=>?_,⟨by simp;omega,fun _ _ h=>by cases h⟩,rfl,fun _ h=>by simp at h⟩
  simp only[St0,Γ0]
  by_cases ht:t<args.length
  · rw[Ab ht]
    have ht':t<vs.size:=by omega
    have:(vs++AU (N-vs.size) undef).getD t undef=vs[t]:=by
      simp only[Ay]
      rw[BX ht',Ak ht'];rfl
    rw[this]
    exact mF (hv t _ _ (Ab ht) (Ak ht'))
  · rw[AX (by omega)]
    have:(vs++AU (N-vs.size) undef).getD t undef=undef:=by
      simp only[Ay]
      rw[Cj (by omega)]
      by_cases h2:t-vs.size<N-vs.size
      · rw[Ch,Ap h2];rfl
      · rw[Ch,Ah h2];rfl
    rw[this]
    simp only[ite_self]
    exact .un
theorem SR.env{σ:St}{a:Act}{w v1:World}(h:SR G N ds σ a w)(he:Env w v1):SR G N ds σ a v1:=by
  obtain⟨h1,h2,hok,F,ι,hR,hdom,hV,hN,hds,hp⟩:=h
  obtain⟨hR',hst⟩:=hR.env he
  exact⟨h1,h2,he.okV hok,F,ι,hR',hdom,fun t=>(hV t).step hst,hN,hds,hp⟩
theorem bKe {f N:Nat} {fn:Func} {c:Code} {args:List D} {r:D} (hm:P.follows .mixedOrders=true) (hf:P.funcs[f]? = some fn) (hb:fn.body=some c) (hname:(fn.name == "runtime.NumGoroutine")=false) (hN:fn.ntmps=N)
    (hd:bH N c=true) (hl':bK P c=true) (ha:args.length≤N) (h:AWP P c (St0 args N) fun e σ=>(e=.normal∨e=.ret)∧iY P fn.results.toList σ=some r):Spec P f args r:=by
  intro A W vs hA hl hv
  have hn:¬ fn.name = "runtime.NumGoroutine" := by simpa using hname
  refine⟨fun w=>by simp[callFunc,hf,hn,hb],?_⟩
  refine fS hf hb ?_
  subst hN
  refine(WpR.plain P).okv fun hok=>bQ (cG hm (fun _=>rfl) c _ _ _ _ hd hl' h (SR0 hok hA hl hv ha)) ?_
  rintro e a w ⟨σ,⟨he,hr⟩,hs⟩
  have hend:a.defers=[]∧∀ v1,Env w v1→∃ x,aH P (results fn a.tmps) v1=.ok x v1∧Below W.heap.size W v1∧VD (fun b=>A b∨(W.heap.size≤b∧b<v1.heap.size)) v1 r x:=by
    refine⟨hs.2.2.2.elim fun _ h=>h.elim fun _ h=>h.2.2.2.2.1,fun v1 he=>?_⟩
    have hs1:=hs.env he
    obtain⟨v,hrun,hvd⟩:=dV hs1 hr
    obtain⟨_,_,_,F,ι,hR,_,_,_,hdf,_⟩:=hs1
    refine⟨v,hrun,⟨hR.kept.os,hR.kept.tape,hR.kept.output,hR.kept.size,fun k hk=>hR.kept.block k hk (fun h=>h)⟩,hvd.mono ?_⟩
    rintro b (h|h|h)
    · exact .inl h
    · exact h.elim
    · exact .inr h
  rcases he with rfl|rfl<;>exact hend
def St1(h:AV)(o:HO)(args:List D)(N:Nat):St:=⟨fun t=>match t with|0=>h|t+1=>Γ0 args N t,fun id=>if id=0 then some o else none,1⟩
theorem SR1{A:Nat→Prop}{W:World}{vs:Array Value}{args:List D}{h:AV}{o:HO}{b:Nat}(hok:OkV W)(hA:∀ b,A b→b<W.heap.size)(hAb:¬A b)(hb:b<W.heap.size)(ho:∃ ob,W.heap[b]? = some ob∧CR A W (ι1 b) o ob)
    (hl:args.length+1=vs.size) (h0:∃ v,vs[0]? = some v∧V A W (ι1 b) h v) (hv:∀(k:Nat) d v,args[k]? = some d→vs[k+1]? = some v→VD A W d v) (hN:args.length+1≤N) :
    SR ⟨W,A,(·=b),(·=b),fun _=>none⟩ N [] (St1 h o args N) { tmps:=vs++AU (N-vs.size) undef,defers:=[] } W:=by
  have hι:∀ id b',ι1 b id=some b'→id=0∧b'=b:=fun id b' e=>by
    unfold ι1 at e
    split at e
    · injection e with e;exact⟨by assumption,e.symm⟩
    · cases e
  have hH:∀ id o',(if id=0 then some o else none)=some o'→id=0∧o'=o:=fun id o' e=>by
    split at e
    · injection e with e;exact⟨by assumption,e.symm⟩
    · cases e
  refine⟨fun id h=>by simp only[St1]at h ⊢;rw[Ah (by omega)],fun h=>by simp[St1]at h,hok,A,ι1 b,⟨.refl _ _ _,hA,fun b h=>.inl h,fun id b' e=>?_,fun id b' o' e e'=>?_,fun id id' b' e e' _ _=>?_,fun id id' b' o1 o2 e e' _ h1 h2=>?_⟩,fun id=>?_,fun t=>?_,⟨by simp;omega,fun _ _ h=>by cases h⟩,rfl,fun b' e=>(hι 0 b' e).2⟩
  · obtain⟨_,rfl⟩:=hι id b' e;exact⟨.inl rfl,hb,fun _=>hAb⟩
  · obtain⟨_,rfl⟩:=hι id b' e;obtain⟨_,rfl⟩:=hH id o' e';exact ho
  · rw[(hι _ _ e).1,(hι _ _ e').1]
  · rw[(hH _ _ h1).2,(hH _ _ h2).2];exact AA _
  · simp only[St1,ι1]
    by_cases hid:id=0<;>simp[hid]
  · have hget:∀ k,k<vs.size→(vs++AU (N - vs.size) undef).getD k undef=vs.getD k undef:=fun k hk=>by
      simp only[Ay];rw[BX hk]
    have hget2:∀ k,vs.size≤k→(vs++AU (N-vs.size) undef).getD k undef=undef:=fun k hk=>by
      simp only[Ay]
      rw[Cj hk]
      by_cases h2:k-vs.size<N-vs.size
      · rw[Ch,Ap h2];rfl
      · rw[Ch,Ah h2];rfl
    cases t with
    | zero =>
      obtain⟨v,hv0,hV0⟩:=h0
      show V A W (ι1 b) h _
      rw[show(({ tmps:=vs++AU (N-vs.size) undef,defers:=[] }:Act).tmps.getD 0 undef)=v from by
        rw[hget 0 (by omega)];simp[Ay,hv0]]
      exact hV0
    | succ t =>
      show V A W (ι1 b) (Γ0 args N t) _
      simp only[Γ0]
      by_cases ht:t<args.length
      · have ht':t+1<vs.size:=by omega
        rw[Ab ht,hget _ ht',Ay,Ak ht']
        exact mF (hv t _ _ (Ab ht) (Ak ht'))
      · rw[AX (by omega),hget2 _ (by omega)]
        simp only[ite_self]
        exact .un
theorem bBr {f N:Nat} {fn:Func} {c:Code} {h:AV} {o o':HO} {args:List D} {r:D} (hf:P.funcs[f]? = some fn) (hb:fn.body=some c) (hname:(fn.name == "runtime.NumGoroutine")=false) (hN:fn.ntmps=N)
    (ha:args.length+1≤N) (hmap:∃ k es,o=.map k es) (hmap':∃ k es,o'=.map k es) (hno':qZ o'=true) (hnm:NM r)
    (hA:∀(G:Ctx) (a:Act) (w:World),(∀ d,G.Z d=none)→SR G N [] (St1 h o args N) a w→WC P c (fun e a' w'=>∃ σ,((e=.normal∨e=.ret)∧iY P fn.results.toList σ=some r∧σ.H 0=some o')∧SR G N [] σ a' w') a w):aBc P f h o args o' r:=by
  intro A W vs b hAl hAb hbl hob hl hv0 hv
  have hn:¬ fn.name = "runtime.NumGoroutine" := by simpa using hname
  refine⟨fun w=>by simp[callFunc,hf,hn,hb],?_⟩
  refine fS hf hb ?_
  subst hN
  refine(WpR.plain P).okv fun hok=>?_
  have hsr:=SR1 (N:=fn.ntmps) hok hAl hAb hbl hob hl hv0 hv ha
  refine bQ (hA _ _ _ (fun _=>rfl) hsr) ?_
  rintro e a w0 ⟨σ,⟨he,hr,hH0⟩,hs0⟩
  have hend:a.defers=[]∧∀ w,Env w0 w→∃ v,aH P (results fn a.tmps) w=.ok v w∧∃ ob',Kept (·=b) W.heap.size W w∧w.heap[b]? = some ob' ∧
      (∀ cur e,W.heap[b]? = some (.cells cur e (0,0))→∃ cur',ob'=.cells cur' e (0,0)∧cur'.size=cur.size) ∧
      CR (fun k=>A k∨(W.heap.size≤k∧k<w.heap.size)) w (ι1 b) o' ob'∧VD (fun k=>A k∨(W.heap.size≤k∧k<w.heap.size)) w r v:=by
   refine⟨hs0.2.2.2.elim fun _ h=>h.elim fun _ h=>h.2.2.2.2.1,fun w henv=>?_⟩
   have hs:=hs0.env henv
   obtain⟨_,_,_,F,ι,hR,hdom,hVs,_,hdf,hp⟩:=hs
   obtain⟨v,hrun,hvd⟩:=jZ hR hVs hr
   obtain⟨b',hb'⟩:=(hdom 0).2 (by rw[hH0];rfl)
   have hbb:=hp b' hb'
   simp only at hbb
   subst hbb
   obtain⟨ob',hob',hcr⟩:=hR.obj 0 b' o' hb' hH0
   have hnF:¬F b':=(hR.place 0 b' hb').2.2 (fun x=>x)
   have hFA:∀ k,F k→A k∨(W.heap.size≤k∧k<w.heap.size):=fun k hk=>by
     rcases hR.F_ok k hk with h|h|h
     · exact .inl h
     · simp only at h;subst h;exact(hnF hk).elim
     · exact .inr ⟨h,hR.F_lt k hk⟩
   refine⟨v,hrun,ob',hR.kept,hob',fun cur e he=>?_,(wB hno' hcr).step ⟨hFA,fun _ _=>rfl,fun _ _ h=>h,fun _ _ cur _ _ h=>⟨cur,h,rfl⟩⟩,(bYm hvd hnm).mono ?_⟩
   rotate_left
   · rintro c ⟨hc|⟨id,h2⟩,hnc⟩
     · exact hFA c hc
     · rcases(hR.place id c h2).1 with h|h
       · simp only at h;subst h
         have:=hR.inj id 0 c h2 hb' (fun x=>x) (fun x=>x)
         subst this
         obtain⟨k,es,rfl⟩:=hmap'
         cases hcr with|map _ _ ents clock _ _ _=>exact(hnc ents clock hob').elim
       · exact .inr ⟨h,hR.ι_lt h2⟩
   obtain⟨k,es,rfl⟩:=hmap
   obtain⟨ob,h1,h2⟩:=hob
   rw[he]at h1;injection h1 with h1;subst h1
   cases h2
  rcases he with rfl|rfl<;>exact hend
end
end Go.Am
end
section
open List renaming map_map→ζ,mapM_map→ξ
namespace Go.Am
open RowKit (Below)
structure Kn where
 call:FuncId→List D→Option D
 ocall:FuncId→AV→HO→List D→Option (HO×D)
 keys:FuncId→Option FuncId
 sorted:FuncId→FuncId→Bool
structure aGx(P:Program)[M:Mch P](E:Kn):Prop where
 call:∀ f ds r,E.call f ds=some r→Spec P f ds r
 ocall:∀ f h o ds o' r,E.ocall f h o ds=some (o',r)→aBc P f h o ds o' r
 keys:∀ f g,E.keys f=some g→aBf P f g
 sorted:∀ f g,E.sorted f g=true→sK P f g
def OEC(P:Program)(E:Kn)(f:FuncId)(args:Array Operand)(dst:Option Tmp)(σ:St)(con:List Nat):Option (St×List Nat) :=
 if aM P f then match args.toList with
  | x::rest=>match hd1 (oev σ.Γ x)with
   | some (id,h)=>match σ.H id with
    | some ho=>match rest,h,E.keys f with
     |[],.mp 0,some g=>some (⟨bE σ.Γ dst (.kf g id),σ.H,σ.n⟩,con)
     | _,_,_=>if qZ ho=true∧bT σ.H (rest.map (oev σ.Γ))=[]then match cI σ.H (rest.map (oev σ.Γ))with
      | some ds=>match E.ocall f h ho ds with
       |some (ho',r)=>if ho'.len=ho.len∧qZ ho'=true then some (⟨bE σ.Γ dst (inj r),upd σ.H id (some ho'),σ.n⟩,con)else none
       |none=>none
      |none=>none
      else none
    |none=>none
   | none=>match hd0 (oev σ.Γ x)with
    | some d=>match cI σ.H (rest.map (oev σ.Γ))with
     | some ds=>match E.call f (d::ds)with
      |some r=>some (⟨bE σ.Γ dst (inj r),kill (bT σ.H (rest.map (oev σ.Γ))) σ.H,σ.n⟩,bT σ.H (rest.map (oev σ.Γ))++con)
      |none=>none
     |none=>none
    |none=>none
  |[]=>none
 else match args.toList.map (oev σ.Γ)with
  | [.kf g id]=>match σ.H id with
   |some (.map .i64 es)=>if es.length≤1099511627776∧(es.map (·.1)).all inr=true∧E.sorted f g=true then some (⟨bE σ.Γ dst (.d (.sl ((aJw (es.map (·.1))).map fun n=>[.i .i64 n]))),σ.H,σ.n⟩,con)else none
   |_=>none
  | avs=>match cI σ.H avs with
   | some ds=>match E.call f ds with
    |some r=>some (⟨bE σ.Γ dst (inj r),kill (aX σ.H avs r) σ.H,σ.n⟩,aX σ.H avs r++con)
    |none=>none
   |none=>none
def OE1(P:Program)(E:Kn)(o:Oper)(σ:St)(con:List Nat):Option (St×List Nat) :=
 match o.op with
 | .load t x=>match tM P σ.H t (oev σ.Γ x)with
  |some v=>some (⟨bE σ.Γ o.dst v,σ.H,σ.n⟩,con)
  |none=>none
 | .lookup t m x ok=>match aDh P σ.H t (oev σ.Γ m) (oev σ.Γ x) ok with
  |some v=>some (⟨bE σ.Γ o.dst v,σ.H,σ.n⟩,con)
  |none=>none
 | .store t ad x=>match nB P σ.H t (oev σ.Γ ad) (oev σ.Γ x)with
  |some (id,ho)=>some (⟨bE σ.Γ o.dst .un,upd σ.H id (some ho),σ.n⟩,con)
  |none=>none
 | .mapUpdate t m x v=>match pD P σ.H t (oev σ.Γ m) (oev σ.Γ x) (some (oev σ.Γ v))with
  |some (id,ho)=>some (⟨bE σ.Γ o.dst .any,upd σ.H id (some ho),σ.n⟩,con)
  |none=>none
 | .insert t m x v=>match pD P σ.H t (oev σ.Γ m) (oev σ.Γ x) (some (oev σ.Γ v))with
  |some (id,ho)=>some (⟨bE σ.Γ o.dst .any,upd σ.H id (some ho),σ.n⟩,con)
  |none=>none
 |.call { callee:=.value (.func f),args:=args,argTypes:=_ }=>OEC P E f args o.dst σ con
 | .call { callee:=.value (.tmp t),args:=args,argTypes:=_ }=>match dM (σ.Γ t)with
  | some (f,cs)=>match cI σ.H (args.toList.map (oev σ.Γ)++cs)with
   | some ds=>match E.call f ds with
    |some r=>some (⟨bE σ.Γ o.dst (inj r),kill (aX σ.H (args.toList.map (oev σ.Γ)++cs) r) σ.H,σ.n⟩,aX σ.H (args.toList.map (oev σ.Γ)++cs) r++con)
    |none=>none
   |none=>none
  | none=>match σ.Γ t with
   | .d (.fm f d)=>match cI σ.H (.d d::args.toList.map (oev σ.Γ))with
    | some ds=>match E.call f ds with
     |some r=>some (⟨bE σ.Γ o.dst (inj r),kill (aX σ.H (.d d::args.toList.map (oev σ.Γ)) r) σ.H,σ.n⟩,aX σ.H (.d d::args.toList.map (oev σ.Γ)) r++con)
     |none=>none
    |none=>none
   |_=>none
 | .call { callee:=.invoke (.tmp t) name,args:=args,argTypes:=_ }=>match σ.Γ t with
  | .d (.iff ty d)=>match aJo P ty name with
   | some f=>match cI σ.H (.d d::args.toList.map (oev σ.Γ))with
    | some ds=>match E.call f ds with
     |some r=>some (⟨bE σ.Γ o.dst (inj r),kill (aX σ.H (.d d::args.toList.map (oev σ.Γ)) r) σ.H,σ.n⟩,aX σ.H (.d d::args.toList.map (oev σ.Γ)) r++con)
     |none=>none
    |none=>none
   |none=>none
  |_=>none
 | .call { callee:=.builtin .append,args:=args,argTypes:=ts }=>match args.toList,ts.toList with
  | [s,x],[t,t']=>if t=t' then match aBw P σ.H t (oev σ.Γ s) (oev σ.Γ x) σ.n with
   |some (av,nb,cn)=>some (⟨bE σ.Γ o.dst av,fZ (kill cn σ.H) σ.n nb,cnt nb σ.n⟩,cn++con)
   |none=>none
   else none
  |_,_=>none
 | .call { callee:=.builtin .delete,args:=args,argTypes:=ts }=>match args.toList,ts.toList with
  | [m,x],[t,_]=>match pD P σ.H t (oev σ.Γ m) (oev σ.Γ x) none with
   |some (id,ho)=>some (⟨bE σ.Γ o.dst .any,upd σ.H id (some ho),σ.n⟩,con)
   |none=>none
  |_,_=>none
 | .call { callee:=.builtin .len,args:=args,argTypes:=ts }=>if aNy P ts then none else if kind P (.call { callee:=.builtin .len,args:=args,argTypes:=ts })=0 then match nev P (.call { callee:=.builtin .len,args:=args,argTypes:=ts }) σ.Γ σ.n with
  |some (av,nb)=>some (⟨bE σ.Γ o.dst av,fZ σ.H σ.n nb,cnt nb σ.n⟩,con)
  |none=>none
  else none
 | op=>if kind P op=0 then match nev P op σ.Γ σ.n with
  |some (av,nb)=>some (⟨bE σ.Γ o.dst av,fZ σ.H σ.n nb,cnt nb σ.n⟩,con)
  |none=>none
  else none
def OE(P:Program)(E:Kn)(ops:Array Oper):List Oper→St→List Nat→Option (St×List Nat)
 |[],σ,con=>some (σ,con)
 | o::l,σ,con=>match cR ops o σ.Γ with
  | some true=>match OE1 P E o σ con with
   |some p=>OE P E ops l p.1 p.2
   |none=>none
  |some false=>OE P E ops l ⟨bE σ.Γ o.dst .un,σ.H,σ.n⟩ con
  |none=>none
section
variable {P:Program} [M:Mch P] {E:Kn} (hE:aGx P E)
include hE
theorem aXk{f:FuncId}{args:Array Operand}{dst:Option Tmp}{σ:St}{con:List Nat}{p:St×List Nat}{k:St→List Nat→Prop}(h:OEC P E f args dst σ con=some p)(hk:k p.1 p.2):OC P f args dst σ con k:=by
 unfold OEC at h
 unfold OC
 split at h
 ·rename_i hm
  rw[Ap hm]
  split at h
  case h_2=>cases h
  rename_i x rest hargs
  rw[hargs]
  simp only
  split at h
  case h_2 =>
   rename_i hx
   rw[hx]
   simp only
   split at h
   case h_2=>cases h
   rename_i d hd
   split at h
   case h_2=>cases h
   rename_i ds hds
   split at h
   case h_2=>cases h
   rename_i r hr
   injection h with h;subst h
   exact .inl ⟨bOo hd,ds,r,hds,aYq hd (hE.call _ _ _ hr),hk⟩
  rename_i id hh hx
  rw[hx]
  simp only
  split at h
  case h_2=>cases h
  rename_i ho hH
  rw[hH]
  simp only
  split at h
  ·rename_i g hg
   injection h with h;subst h
   exact .inl ⟨g,rfl,rfl,hE.keys _ _ hg,hk⟩
  ·split at h
   case isFalse=>cases h
   rename_i hc
   split at h
   case h_2=>cases h
   rename_i ds hds
   split at h
   case h_2=>cases h
   rename_i ho' r hr
   split at h
   case isFalse=>cases h
   rename_i hc2
   injection h with h;subst h
   exact .inr (.inl ⟨hc.1,hc.2,ds,ho',r,hds,hE.ocall _ _ _ _ _ _ hr,hc2.1,hc2.2,hk⟩)
 ·rename_i hm
  rw[Ah hm]
  refine .inr ?_
  split at h
  ·rename_i g id hargs
   rw[hargs]
   simp only
   split at h
   ·rename_i es hH
    split at h
    ·rename_i hc
     injection h with h;subst h
     rw[hH]
     exact⟨hc.1,hc.2.1,hE.sorted _ _ hc.2.2,hk⟩
    ·cases h
   ·cases h
  ·rename_i hne
   split at h
   case h_2=>cases h
   rename_i ds hds
   split at h
   case h_2=>cases h
   rename_i r hr
   injection h with h;subst h
   split
   ·rename_i g id hargs;exact(hne _ _ hargs).elim
   ·exact⟨ds,r,hds,hE.call _ _ _ hr,hk⟩
theorem aXl{o:Oper}{σ:St}{con:List Nat}{p:St×List Nat}{k:St→List Nat→Prop}(h:OE1 P E o σ con=some p)(hk:k p.1 p.2):O1 P o σ con k:=by
 unfold OE1 at h
 unfold O1
 split at h
 ·rename_i t x hop
  rw[hop]
  split at h
  ·rename_i v hv;simp only[hv];injection h with h;subst h;exact hk
  ·cases h
 ·rename_i t m x ok hop
  rw[hop]
  split at h
  ·rename_i v hv;simp only[hv];injection h with h;subst h;exact hk
  ·cases h
 ·rename_i t ad x hop
  rw[hop]
  split at h
  ·rename_i id ho hv;simp only[hv];injection h with h;subst h;exact hk
  ·cases h
 ·rename_i t m x v hop
  rw[hop]
  split at h
  ·rename_i id ho hv;simp only[hv];injection h with h;subst h;exact hk
  ·cases h
 ·rename_i t m x v hop
  rw[hop]
  split at h
  ·rename_i id ho hv;simp only[hv];injection h with h;subst h;exact hk
  ·cases h
 ·rename_i f args ts hop
  rw[hop]
  exact aXk hE h hk
 ·rename_i t args ts hop
  rw[hop]
  split at h
  ·rename_i f cs hcal
   simp only[hcal]
   split at h
   ·rename_i ds hds
    split at h
    ·rename_i r hr
     injection h with h;subst h
     exact⟨ds,r,hds,hE.call _ _ _ hr,hk⟩
    ·cases h
   ·cases h
  ·rename_i hcal
   simp only[hcal]
   split at h
   ·rename_i f d hfm
    simp only[hfm]
    split at h
    ·rename_i ds hds
     split at h
     ·rename_i r hr
      injection h with h;subst h
      exact⟨ds,r,hds,hE.call _ _ _ hr,hk⟩
     ·cases h
    ·cases h
   ·cases h
 ·rename_i t name args ts hop
  rw[hop]
  split at h
  ·rename_i ty d hcal
   simp only[hcal]
   split at h
   ·rename_i f hme
    simp only[hme]
    split at h
    ·rename_i ds hds
     split at h
     ·rename_i r hr
      injection h with h;subst h
      exact⟨ds,r,hds,hE.call _ _ _ hr,hk⟩
     ·cases h
    ·cases h
   ·cases h
  ·cases h
 ·rename_i args ts hop
  rw[hop]
  split at h
  ·rename_i s x t t' hargs hts
   simp only[hargs,hts]
   split at h
   ·rename_i htt
    refine⟨htt,?_⟩
    split at h
    ·rename_i av nb cn hv;simp only[hv];injection h with h;subst h;exact hk
    ·cases h
   ·cases h
  ·cases h
 ·rename_i args ts hop
  rw[hop]
  split at h
  ·rename_i m x t kt hargs hts
   simp only[hargs,hts]
   split at h
   ·rename_i id ho hv;simp only[hv];injection h with h;subst h;exact hk
   ·cases h
  ·cases h
 ·rename_i args ts hop
  rw[hop]
  split at h
  ·cases h
  ·rename_i hlm
   simp only
   rw[Ah hlm]
   split at h
   ·rename_i hkd
    split at h
    ·rename_i av nb hv
     injection h with h;subst h
     refine⟨hkd,?_⟩
     simp only[hv];exact hk
    ·cases h
   ·cases h
 ·rename_i op h1 h2 h3 h4 h9 h5 h8 h10 h6 h7 h11
  split at h
  ·rename_i hkd
   split at h
   ·rename_i av nb hv
    injection h with h;subst h
    split
    ·rename_i hop;exact(h1 _ _ hop).elim
    ·rename_i hop;exact(h2 _ _ _ _ hop).elim
    ·rename_i hop;rw[hop]at hkd;cases hkd
    ·rename_i hop;rw[hop]at hv;cases hv
    ·rename_i hop;exact(h3 _ _ _ hop).elim
    ·rename_i hop;exact(h4 _ _ _ _ hop).elim
    ·rename_i hop;exact(h9 _ _ _ _ hop).elim
    ·rename_i hop;exact(h5 _ _ _ hop).elim
    ·rename_i hop;exact(h8 _ _ _ hop).elim
    ·rename_i hop;exact(h10 _ _ _ _ hop).elim
    ·rename_i hop;exact(h6 _ _ hop).elim
    ·rename_i hop;exact(h7 _ _ hop).elim
    ·rename_i hop;exact(h11 _ _ hop).elim
    ·refine⟨hkd,?_⟩
     simp only[hv];exact hk
   ·cases h
  ·cases h
theorem aBd{ops:Array Oper}{k:St→List Nat→Prop}:∀(l:List Oper) (σ:St) (con:List Nat) (p:St×List Nat),OE P E ops l σ con=some p→k p.1 p.2→OW P ops l σ con k
 |[],σ,con,p,h,hk=>by unfold OE at h;injection h with h;subst h;exact hk
 | o::l,σ,con,p,h,hk=>by
  unfold OE at h
  unfold OW
  split at h
  ·rename_i hw
   simp only[hw]
   split at h
   ·rename_i q hq;exact aXl hE hq (aBd l _ _ _ h hk)
   ·cases h
  ·rename_i hw
   simp only[hw]
   exact aBd l _ _ _ h hk
  ·cases h
end
def fzp(H:Hp)(S:List Nat)(x:AV):AV :=
 match x with
 | .ptr id _=>if id∈S then(match frz H 8 x with
   |some (.pt cs)=>if(vis H 8 x).all (fun a=>decide (a∈S))then .fp cs else .any
   |_=>.any)else if(H id).isSome then x else .any
 |.d y=>.d y
 |.fp cs=>.fp cs
 |_=>.any
def fz(H:Hp)(S:List Nat)(x:AV):AV :=
 match x with
 | .own id _ _ _=>if id∈S then(match frz H 8 x with
   |some d=>if(vis H 8 x).all (fun a=>decide (a∈S))then .d d else .any
   |none=>.any)else if(H id).isSome then x else .any
 | .ptr id _=>if id∈S then(match frz H 8 x with
   |some (.pt cs)=>if(vis H 8 x).all (fun a=>decide (a∈S))then .fp cs else .any
   |_=>.any)else if(H id).isSome then x else .any
 |.fn f cs=>.fn f (cs.map (fzp H S))
 |.mp id=>if id∈S then .any else if(H id).isSome then x else .any
 |.kf _ id=>if id∈S then .any else if(H id).isSome then x else .any
 |.ag _=>.any
 |.tp _=>.any
 |x=>x
def fzs(H:Hp)(S:List Nat)(x:AV):AV :=
 match x with
 |.ag cs=>.ag (cs.map (fz H S))
 |x=>fz H S x
def fzm(H:Hp)(S:List Nat)(x:AV):AV :=
 match frz H 8 x with
 |some d=>if(vis H 8 x).all (fun a=>decide (a∈S))then .d d else .any
 |none=>.any
def fzO(H:Hp)(S:List Nat):HO→HO
 |.cells e cs=>.cells e (cs.map (fz H S))
 |.map k es=>.map k (es.map fun p=>(p.1,fzm H S p.2))
 |.iter k l es=>.iter k l es
def vO(S:List Nat)(σ:St):St:=⟨fun t=>fzs σ.H S (σ.Γ t),fun id=>if id∈S then none else(σ.H id).map (fzO σ.H S),σ.n⟩
theorem iI{S:List Nat}{σ:St}{id:Nat}:((vO S σ).H id).isSome=true↔id ∉ S∧(σ.H id).isSome=true:=by
 simp only[vO]
 by_cases h:id∈S<;>simp[h]
theorem gZ{S:List Nat}{σ:St}(x:AV):mG σ.H (vO S σ).H (fun i=>i) x (fz σ.H S x):=by
 have key:∀(x:AV) (d:D),frz σ.H 8 x=some d→(vis σ.H 8 x).all (fun a=>decide (a∈S))=true→mG σ.H (vO S σ).H (fun i=>i) x (.d d):=by
  intro x d h1 h2
  have:frz σ.H 8 x=some d∧∀ a∈vis σ.H 8 x,∀ id,((vO S σ).H id).isSome=true→id≠a:=by
   refine⟨h1,fun a ha id hid e=>?_⟩
   have h3:=AW.1 h2 a ha
   simp only[Bw]at h3
   exact(iI.1 hid).1 (e ▸ h3)
  cases x<;>exact this
 have keyP:∀(x:AV) (d:D),frz σ.H 8 x=some d→(vis σ.H 8 x).all (fun a=>decide (a∈S))=true→frz σ.H 8 x=some d∧∀ a∈vis σ.H 8 x,∀ id,((vO S σ).H id).isSome=true→id≠a:=by
  intro x d h1 h2
  refine⟨h1,fun a ha id hid e=>?_⟩
  have h3:=AW.1 h2 a ha
  simp only[Bw]at h3
  exact(iI.1 hid).1 (e ▸ h3)
 have keyQ:∀(x:AV),bQk σ.H (vO S σ).H (fun i=>i) x (fzp σ.H S x):=by
  intro x
  cases x with
  | ptr id off =>
   simp only[fzp]
   split
   ·split
    ·rename_i cs hd
     split
     ·exact keyP (.ptr id off) _ hd (by assumption)
     ·trivial
    ·trivial
   ·split
    ·exact⟨rfl,rfl,iI.2 ⟨by assumption,by assumption⟩⟩
    ·trivial
  |d y=>exact keyP (.d y) y rfl rfl
  |fp cs=>exact keyP (.fp cs) _ rfl rfl
  |_=>trivial
 cases x with
 | own id off len sz =>
  simp only[fz]
  split
  ·split
   ·rename_i d hd
    split
    ·exact key _ d hd (by assumption)
    ·trivial
   ·trivial
  ·split
   ·exact⟨rfl,rfl,rfl,rfl,iI.2 ⟨by assumption,by assumption⟩⟩
   ·trivial
 | ptr id off =>
  simp only[fz]
  split
  ·split
   ·rename_i cs hd
    split
    ·exact keyP (.ptr id off) _ hd (by assumption)
    ·trivial
   ·trivial
  ·split
   ·exact⟨rfl,rfl,iI.2 ⟨by assumption,by assumption⟩⟩
   ·trivial
 | fn f cs =>
  refine⟨rfl,by simp,fun k c d hc hd=>?_⟩
  rw[Ag,hc]at hd
  injection hd with hd;subst hd
  exact keyQ c
 | mp id =>
  simp only[fz]
  split
  ·trivial
  ·split
   ·exact⟨rfl,iI.2 ⟨by assumption,by assumption⟩⟩
   ·trivial
 | kf f id =>
  simp only[fz]
  split
  ·trivial
  ·split
   ·exact⟨rfl,rfl,iI.2 ⟨by assumption,by assumption⟩⟩
   ·trivial
 |ag cs=>trivial
 |tp cs=>trivial
 |d y=>exact key _ y rfl rfl
 |nil=>trivial
 |fp cs=>exact keyP (.fp cs) _ rfl rfl
 |fd els=>rfl
 |un=>trivial
 |ub=>trivial
 |any=>trivial
theorem bOs(S:List Nat)(σ:St)(htop:∀ id,σ.n≤id→σ.H id=none):Wk σ (vO S σ) (fun i=>i):=by
 refine⟨fun id h=>?_,fun t=>?_,fun id o' h=>?_,fun _ _ _ _ h=>h,fun _=>rfl,fun h=>h⟩
 ·simp only[vO]at h ⊢
  rw[htop id h];simp
 ·show Sub σ.H (vO S σ).H (fun i=>i) (σ.Γ t) (fzs σ.H S (σ.Γ t))
  generalize σ.Γ t=x
  cases x with
  | ag cs =>
   refine⟨by simp,fun k c d hc hd=>?_⟩
   rw[Ag,hc]at hd
   injection hd with hd;subst hd
   exact gZ c
  |d y=>exact gZ (S:=S) (σ:=σ) (.d y)
  |nil=>exact gZ (S:=S) (σ:=σ) .nil
  |un=>exact gZ (S:=S) (σ:=σ) .un
  |ub=>exact gZ (S:=S) (σ:=σ) .ub
  |any=>exact gZ (S:=S) (σ:=σ) .any
  |fp cs=>exact gZ (S:=S) (σ:=σ) (.fp cs)
  |fn f cs=>exact gZ (S:=S) (σ:=σ) (.fn f cs)
  |fd els=>exact gZ (S:=S) (σ:=σ) (.fd els)
  |tp cs=>exact gZ (S:=S) (σ:=σ) (.tp cs)
  | own id off len sz =>
   have h:=gZ (S:=S) (σ:=σ) (.own id off len sz)
   simp only[fzs]
   generalize fz σ.H S (.own id off len sz)=y at h
   cases y<;>exact h
  | ptr id off =>
   have h:=gZ (S:=S) (σ:=σ) (.ptr id off)
   simp only[fzs]
   generalize fz σ.H S (.ptr id off)=y at h
   cases y<;>exact h
  | mp id =>
   have h:=gZ (S:=S) (σ:=σ) (.mp id)
   simp only[fzs]
   generalize fz σ.H S (.mp id)=y at h
   cases y<;>exact h
  | kf f id =>
   have h:=gZ (S:=S) (σ:=σ) (.kf f id)
   simp only[fzs]
   generalize fz σ.H S (.kf f id)=y at h
   cases y<;>exact h
 ·simp only[vO]at h
  split at h
  ·cases h
  ·obtain⟨o,ho,rfl⟩:=Af.1 h
   refine⟨o,ho,?_⟩
   cases o with
   |iter k l es=>exact⟨rfl,rfl,rfl⟩
   | cells e cs =>
    refine⟨rfl,by simp,fun k c d hc hd=>?_⟩
    rw[Ag,hc]at hd
    injection hd with hd;subst hd
    exact gZ c
   | map k es =>
    refine⟨rfl,by simp,fun j x y hx hy=>?_⟩
    rw[Ag,hx]at hy
    injection hy with hy;subst hy
    refine⟨rfl,?_⟩
    simp only[fzm]
    split
    ·rename_i d hd
     split
     ·rename_i hv
      have:frz σ.H 8 x.2=some d∧∀ a∈vis σ.H 8 x.2,∀ id,((vO S σ).H id).isSome=true→id≠a:=by
       refine⟨hd,fun a ha id hid e=>?_⟩
       have h3:=AW.1 hv a ha
       simp only[Bw]at h3
       exact(iI.1 hid).1 (e ▸ h3)
      generalize x.2=z at this
      cases z<;>exact .inl this
     ·generalize x.2=z
      cases z<;>exact .inl trivial
    ·generalize x.2=z
     cases z<;>exact .inl trivial
def iter(body:St→Option (Exit×St)):Nat→St→Option (Exit×St)
 |0,_=>none
 | n+1,σ=>match body σ with
  |some (.normal,σ')=>iter body n σ'
  |r=>r
def ex(P:Program)(E:Kn)(fuel:Nat):Code→St→Option (Exit×St)
 |.skip,σ=>some (.normal,σ)
 | .region _ ops _,σ=>match OE P E ops ops.toList σ []with
  | some (σ',con)=>match con.filter (fun i=>decide (i<σ.n))with
   |[]=>some (.normal,fin σ' con)
   | i::S=>match OE P E ops ops.toList (vO (i::S) σ) []with
    |some (σ2,con2)=>some (.normal,fin σ2 con2)
    |none=>some (.normal,fin σ' con)
  |none=>none
 | .seq x y,σ=>match ex P E fuel x σ with
  |some (.normal,σ')=>ex P E fuel y σ'
  |r=>r
 | .cond c x y,σ=>match oev σ.Γ c with
  |.d (.b true)=>ex P E fuel x σ
  |.d (.b false)=>ex P E fuel y σ
  |_=>none
 | .block id c,σ=>match ex P E fuel c σ with
  |some (.exit id',σ')=>if id'=id then some (.normal,σ')else some (.exit id',σ')
  |r=>r
 |.loop c,σ=>iter (ex P E fuel c) fuel σ
 |.exit id,σ=>some (.exit id,σ)
 |.ret,σ=>some (.ret,σ)
 |.label _,σ=>some (.normal,σ)
 | .scope c,σ=>match ex P E fuel c σ with
  |some (.goto _,_)=>none
  |r=>r
 |_,_=>none
section
variable {P:Program} [M:Mch P] {G:Ctx} {N:Nat} {ds:List Deferred} {E:Kn}
theorem aWc{rd:Bool}{WW:Code→(Exit→Act→World→Prop)→Act→World→Prop}(hW:WpR P rd WW)(hE:aGx P E)(hm:P.follows .mixedOrders=true){z:Nat→Bool}(hz:∀ d v,G.Z d=some v→z d=true)(fuel:Nat) :
  ∀(c:Code) (σ:St) (a:Act) (w:World) (e:Exit) (σ':St),bH N c=true→bK P c=true→fF z c=true→(rd=true→fT c=true)→ex P E fuel c σ=some (e,σ')→SR G N ds σ a w →
  WW c (fun e' a' w'=>e'=e∧SR G N ds σ' a' w') a w:=by
 intro c
 induction c with
 |skip=>intro σ a w e σ' _ _ _ _ h hs;simp only[ex,At,Gz]at h;obtain⟨rfl,rfl⟩:=h;exact hW.skip ⟨rfl,hs⟩
 | region id ops draw =>
  intro σ a w e σ' hd hl hnz hnd h hs
  have one:∀(σ0 σ1:St) (con:List Nat),OE P E ops ops.toList σ0 []=some (σ1,con)→SR G N ds σ0 a w→WW (.region id ops draw) (fun e' a' w'=>e'=.normal∧SR G N ds (fin σ1 con) a' w') a w:=by
   intro σ0 σ1 con hp hs0
   refine sZ hW (Q:=fun s=>s=fin σ1 con) hm (tE hz hd hnz) hnd (fun hdr=>by simpa[bK,hdr]using hl) hs0 (aBd hE _ _ _ _ hp rfl) ?_
   rintro σ' a' w' rfl hs'
   exact⟨rfl,hs'⟩
  simp only[ex]at h
  split at h
  ·rename_i σ1 con hp
   split at h
   ·injection h with h;injection h with h1 h2;subst h1;subst h2
    exact one σ σ1 con hp hs
   ·rename_i i S hS
    split at h
    ·rename_i σ2 con2 hp2
     injection h with h;injection h with h1 h2;subst h1;subst h2
     exact one _ σ2 con2 hp2 (uO (bOs (i::S) σ hs.1) hs)
    ·injection h with h;injection h with h1 h2;subst h1;subst h2
     exact one σ σ1 con hp hs
  ·cases h
 | seq x y ihx ihy =>
  intro σ a w e σ' hd hl hnz hnd h hs
  simp only[bH,bK,fF,fT,AR]at hd hl hnz hnd
  simp only[ex]at h
  split at h
  ·rename_i σ1 h1
   refine hW.seq (hW.mono (ihx σ a w _ _ hd.1 hl.1 hnz.1 (fun e=>(hnd e).1) h1 hs) ?_)
   rintro e' a' w' ⟨rfl,hs'⟩
   exact ihy _ a' w' _ _ hd.2 hl.2 hnz.2 (fun e=>(hnd e).2) h hs'
  ·rename_i hne
   refine hW.seq (hW.mono (ihx σ a w _ _ hd.1 hl.1 hnz.1 (fun e=>(hnd e).1) h hs) ?_)
   rintro e' a' w' ⟨rfl,hs'⟩
   cases e' with
   |normal=>exact(hne _ h).elim
   |_=>exact⟨rfl,hs'⟩
 | cond c x y ihx ihy =>
  intro σ a w e σ' hd hl hnz hnd h hs
  simp only[bH,bK,fF,fT,AR]at hd hl hnz hnd
  have hc:∀ t,oev σ.Γ c=.d (.b t)→a.eval c=.bool t:=by
   intro t ht
   obtain⟨_,_,_,F,ι,_,_,hV,_⟩:=hs
   have:=cE (Γ:=σ.Γ) (a:=a) (x:=c) (F:=F) (w:=w) (ι:=ι) fun t _=>hV t
   rw[ht]at this
   generalize a.eval c=v at this
   cases this with|d _ _ h=>cases h;rfl
  simp only[ex]at h
  split at h
  ·rename_i ht;exact hW.cond (hc _ ht) (ihx σ a w _ _ hd.1 hl.1 hnz.1 (fun e=>(hnd e).1) h hs)
  ·rename_i ht;exact hW.cond (hc _ ht) (ihy σ a w _ _ hd.2 hl.2 hnz.2 (fun e=>(hnd e).2) h hs)
  ·cases h
 | block id c ih =>
  intro σ a w e σ' hd hl hnz hnd h hs
  simp only[ex]at h
  split at h
  ·rename_i id' σ1 h1
   refine hW.block (hW.mono (ih σ a w _ _ hd hl hnz hnd h1 hs) ?_)
   rintro e' a' w' ⟨rfl,hs'⟩
   simp only[DR]
   split at h
   ·rename_i he;injection h with h;injection h with h1 h2;subst h1;subst h2;rw[Ap he];exact⟨rfl,hs'⟩
   ·rename_i he;injection h with h;injection h with h1 h2;subst h1;subst h2;rw[Ah he];exact⟨rfl,hs'⟩
  ·rename_i hne
   refine hW.block (hW.mono (ih σ a w _ _ hd hl hnz hnd h hs) ?_)
   rintro e' a' w' ⟨rfl,hs'⟩
   cases e' with
   |exit id'=>exact(hne _ _ h).elim
   |_=>exact⟨rfl,hs'⟩
 | loop c ih =>
  intro σ a w e σ' hd hl hnz hnd h hs
  simp only[ex]at h
  refine hW.loop (fun n a w=>∃ σ,iter (ex P E fuel c) n σ=some (e,σ')∧SR G N ds σ a w) ⟨fuel,σ,h,hs⟩ ?_
  rintro n a w ⟨σ1,h1,hs1⟩
  cases n with
  |zero=>cases h1
  | succ n =>
   simp only[iter]at h1
   split at h1
   ·rename_i σ2 h2
    refine hW.mono (ih σ1 a w _ _ hd hl hnz hnd h2 hs1) ?_
    rintro e' a' w' ⟨rfl,hs'⟩
    exact⟨n,Cr n,_,h1,hs'⟩
   ·rename_i hne
    refine hW.mono (ih σ1 a w _ _ hd hl hnz hnd h1 hs1) ?_
    rintro e' a' w' ⟨rfl,hs'⟩
    cases e' with
    |normal=>exact(hne _ h1).elim
    |_=>exact⟨rfl,hs'⟩
 |exit id=>intro σ a w e σ' _ _ _ _ h hs;simp only[ex,At,Gz]at h;obtain⟨rfl,rfl⟩:=h;exact hW.exit ⟨rfl,hs⟩
 |ret=>intro σ a w e σ' _ _ _ _ h hs;simp only[ex,At,Gz]at h;obtain⟨rfl,rfl⟩:=h;exact hW.ret ⟨rfl,hs⟩
 |label l=>intro σ a w e σ' _ _ _ _ h hs;simp only[ex,At,Gz]at h;obtain⟨rfl,rfl⟩:=h;exact hW.label ⟨rfl,hs⟩
 | scope c ih =>
  intro σ a w e σ' hd hl hnz hnd h hs
  simp only[ex]at h
  split at h
  ·cases h
  ·rename_i hne
   have hrd:rd=false:=by
    cases rd with
    |false=>rfl
    |true=>exact absurd (hnd rfl) (by simp[fT])
   refine hW.scope hrd (hW.mono (ih σ a w _ _ hd hl hnz (fun e=>by rw[hrd]at e;cases e) h hs) ?_)
   rintro e' a' w' ⟨rfl,hs'⟩
   cases e' with
   |goto l=>exact(hne _ _ h).elim
   |_=>exact⟨rfl,hs'⟩
 |_=>intro σ a w e σ' _ _ _ _ h;cases h
theorem aAd(hE:aGx P E)(hm:P.follows .mixedOrders=true)(hZ:∀ d,G.Z d=none)(fuel:Nat)(c:Code)(σ:St)(a:Act)(w:World)(e:Exit)(σ':St)(hd:bH N c=true)(hl:bK P c=true)(h:ex P E fuel c σ=some (e,σ'))(hs:SR G N ds σ a w) :
  WC P c (fun e' a' w'=>e'=e∧SR G N ds σ' a' w') a w :=
 aWc (WpR.plain P) hE hm (z:=fun _=>false) (fun d v e=>by rw[hZ]at e;cases e) fuel c σ a w e σ' hd hl (uG c) (fun e=>by cases e) h hs
end
def aVx (P:Program) (fn:Func) (c:Code):Bool:=bH fn.ntmps c && bK P c && !(fn.name == "runtime.NumGoroutine")
theorem aMn {P:Program} [M:Mch P] {f N:Nat} {fn:Func} {c:Code} {args:List D} {r:D} {e:Exit} {σ:St} (hf:P.funcs[f]? = some fn) (hb:fn.body=some c) (hname:(fn.name == "runtime.NumGoroutine")=false) (hN:fn.ntmps=N)
  (ha:args.length≤N) (h:∀(G:Ctx) (a:Act) (w:World),(∀ d,G.Z d=none)→SR G N [] (St0 args N) a w→WC P c (fun e' a' w'=>e'=e∧SR G N [] σ a' w') a w) (he:e=.normal∨e=.ret) (hr:iY P fn.results.toList σ=some r):Spec P f args r:=by
 intro A W vs hA hl hv
 have hn:¬ fn.name = "runtime.NumGoroutine" := by simpa using hname
 refine⟨fun w=>by simp[callFunc,hf,hn,hb],?_⟩
 refine fS hf hb ?_
 subst hN
 refine(WpR.plain P).okv fun hok=>bQ (h _ _ _ (fun _=>rfl) (SR0 hok hA hl hv ha)) ?_
 rintro e' a w ⟨rfl,hs⟩
 have hend:a.defers=[]∧∀ v1,Env w v1→∃ x,aH P (results fn a.tmps) v1=.ok x v1∧Below W.heap.size W v1∧VD (fun b=>A b∨(W.heap.size≤b∧b<v1.heap.size)) v1 r x:=by
  refine⟨hs.2.2.2.elim fun _ h=>h.elim fun _ h=>h.2.2.2.2.1,fun v1 he=>?_⟩
  have hs1:=hs.env he
  obtain⟨v,hrun,hvd⟩:=dV hs1 hr
  obtain⟨_,_,_,F,ι,hR,_,_,_,hdf,_⟩:=hs1
  refine⟨v,hrun,⟨hR.kept.os,hR.kept.tape,hR.kept.output,hR.kept.size,fun k hk=>hR.kept.block k hk (fun h=>h)⟩,hvd.mono ?_⟩
  rintro b (h|h|h)
  ·exact .inl h
  ·exact h.elim
  ·exact .inr h
 rcases he with rfl|rfl<;>exact hend
def bPb(P:Program)(fn:Func):Option (Exit×St)→Option D
 |some (.normal,σ)=>iY P fn.results.toList σ
 |some (.ret,σ)=>iY P fn.results.toList σ
 |_=>none
def bTh(P:Program)(E:Kn)(fuel:Nat)(f:FuncId)(args:List D):Option D :=
 match P.funcs[f]? with
 |none=>none
 | some fn=>match fn.body with
  |none=>none
  |some c=>if aVx P fn c&&decide (args.length≤fn.ntmps)then bPb P fn (ex P E fuel c (St0 args fn.ntmps))else none
def bAt(P:Program)(E:Kn)(fuel:Nat)(f:FuncId)(h:AV)(o:HO)(args:List D):Option (HO×D) :=
 match P.funcs[f]? with
 |none=>none
 | some fn=>match fn.body,o with
  | some c,.map _ _=>if aVx P fn c&&decide (args.length+1≤fn.ntmps)then match ex P E fuel c (St1 h o args fn.ntmps)with
   | some (e,σ)=>match σ.H 0,bPb P fn (some (e,σ))with
    |some (.map k es),some r=>if qZ (.map k es)&&nmB 8 r then some (.map k es,r)else none
    |_,_=>none
   |none=>none
   else none
  |_,_=>none
theorem vR{P:Program}{fn:Func}{e:Exit}{σ:St}{r:D}(h:bPb P fn (some (e,σ))=some r):(e=.normal∨e=.ret)∧iY P fn.results.toList σ=some r:=by
 cases e<;>first|exact⟨.inl rfl,h⟩|exact⟨.inr rfl,h⟩|cases h
theorem aMz{P:Program}[M:Mch P]{E:Kn}{fuel:Nat}(hm:P.follows .mixedOrders=true)(hE:aGx P E){f:FuncId}{args:List D}{r:D}(h:bTh P E fuel f args=some r):Spec P f args r:=by
 unfold bTh at h
 split at h
 ·cases h
 rename_i fn hfn
 split at h
 ·cases h
 rename_i c hc
 split at h
 case isFalse=>cases h
 rename_i hok
 simp only[aVx,AR,C2,Bw]at hok
 obtain⟨⟨⟨h1,h2⟩,h3⟩,h4⟩:=hok
 cases hex:ex P E fuel c (St0 args fn.ntmps)with
 |none=>rw[hex]at h;cases h
 | some p =>
  obtain⟨e,σ⟩:=p
  rw[hex]at h
  obtain⟨he,hr⟩:=vR h
  exact aMn hfn hc h3 rfl h4 (fun G a w hZ hs=>aAd hE hm hZ fuel c _ a w _ _ h1 h2 hex hs) he hr
theorem aHx{P:Program}[M:Mch P]{E:Kn}{fuel:Nat}(hm:P.follows .mixedOrders=true)(hE:aGx P E){f:FuncId}{h0:AV}{o o':HO}{args:List D}{r:D}(h:bAt P E fuel f h0 o args=some (o',r)):aBc P f h0 o args o' r:=by
 unfold bAt at h
 split at h
 ·cases h
 rename_i fn hfn
 split at h
 case h_2=>cases h
 rename_i c kd es hc
 split at h
 case isFalse=>cases h
 rename_i hok
 simp only[aVx,AR,C2,Bw]at hok
 obtain⟨⟨⟨h1,h2⟩,h3⟩,h4⟩:=hok
 split at h
 case h_2=>cases h
 rename_i e σ hex
 split at h
 case h_2=>cases h
 rename_i k1 es1 r1 hH hr
 split at h
 case isFalse=>cases h
 rename_i hfl
 rw[AR]at hfl
 obtain⟨hfl,hnm⟩:=hfl
 injection h with h;injection h with e1 e2;subst e1;subst e2
 have hr2:=vR hr
 obtain⟨he,hr3⟩:=hr2
 refine bBr hfn hc h3 rfl h4 ⟨_,_,rfl⟩ ⟨_,_,rfl⟩ hfl (aFr _ _ hnm) fun G a w hZ hs=>bQ (aAd hE hm hZ fuel c _ a w _ _ h1 h2 hex hs) ?_
 rintro e' a' w' ⟨rfl,hs'⟩
 exact⟨σ,⟨he,hr3,hH⟩,hs'⟩
end Go.Am
end
section
open List renaming map_map→ζ,mapM_map→ξ
namespace Go.Am
variable {P:Program} [M:Mch P]
@[congr]theorem bWe{c:Code}{σ σ':St}{Q:Exit→St→Prop}(h:σ=σ'):AWP P c σ Q=AWP P c σ' Q:=by rw[h]
theorem aKx(σ:St)(Q:Exit→St→Prop):AWP P .skip σ Q=Q .normal σ:=rfl
theorem aSh(x y:Code)(σ:St)(Q:Exit→St→Prop):AWP P (.seq x y) σ Q=AWP P x σ fun e σ'=>match e with|.normal=>AWP P y σ' Q|e=>Q e σ':=rfl
theorem aDw(id:Nat)(c:Code)(σ:St)(Q:Exit→St→Prop):AWP P (.block id c) σ Q=AWP P c σ fun e σ'=>match e with|.exit id'=>if id'=id then Q .normal σ' else Q (.exit id') σ'|e=>Q e σ':=rfl
theorem aKy(id:Nat)(σ:St)(Q:Exit→St→Prop):AWP P (.exit id) σ Q=Q (.exit id) σ:=rfl
theorem aSi(σ:St)(Q:Exit→St→Prop):AWP P .ret σ Q=Q .ret σ:=rfl
theorem aDu(l:Nat)(σ:St)(Q:Exit→St→Prop):AWP P (.label l) σ Q=Q .normal σ:=rfl
theorem aDs(c:Code)(σ:St)(Q:Exit→St→Prop):AWP P (.scope c) σ Q=AWP P c σ fun e σ'=>match e with|.goto _=>False|e=>Q e σ':=rfl
def IfA(t:Bool)(A B:Prop):Prop:=if t then A else B
@[congr]theorem bWd{t t':Bool}{A B:Prop}(h:t=t'):IfA t A B=IfA t' A B:=by rw[h]
def bRm(P:Program)[M:Mch P](f:FuncId)(avs:List AV)(H:Hp)(k:D→Prop):Prop:=∃ ds r,cI H avs=some ds∧Spec P f ds r∧k r
@[congr]theorem bRj{f:FuncId}{avs avs':List AV}{H H':Hp}{k:D→Prop}(h:avs=avs')(h2:H=H'):bRm P f avs H k=bRm P f avs' H' k:=by rw[h,h2]
theorem xX(H:Hp)(n id off len sz:Nat):frz H (n+1) (.own id off len sz)=match H id with
  |some (.cells _ cs)=>if(off+len)*sz≤cs.length∧0<sz then(((cs.drop (off*sz)).take (len*sz)).mapM (frz H n)).map fun l=>.sl (chunk sz len l)else none
  |_=>none:=rfl
theorem bVf(H:Hp)(n:Nat)(els:List (List D)):frz H (n+1) (.fd els)=some (.sl els):=rfl
theorem bOp(H:Hp)(n:Nat):frz H (n+1) .nil=some (.sl []):=rfl
theorem aKc(H:Hp)(n:Nat)(x:D):frz H (n+1) (.d x)=some x:=rfl
theorem aCi(l:List Nat)(ds:List D):(ds.map AV.d).map (dS l)=ds.map AV.d:=by simp[dS,Function.comp_def]
theorem zK(H:Hp)(n:Nat):∀(ds:List D),(ds.map AV.d).mapM (frz H (n+1))=some ds
 |[]=>rfl
 |d::ds=>by rw[BO,Ce,zK H n ds,aKc];rfl
theorem aHh:∀(n:Nat) (x:AV),vis (fun _=>none) n x=[]
 |0,_=>rfl
 | n+1,x=>by
  have ih:=aHh n
  cases x<;>simp[vis,ih]
theorem aOc(avs:List AV)(r:D):aX (fun _=>none) avs r=[]:=by
 unfold aX bT
 split
 ·rfl
 ·simp[aHh]
end Go.Am
end
section
open List renaming map_map→ζ,mapM_map→ξ
namespace Go.Am
def fV:List (Nat×AV)→Nat→AV
 |[]=>fun _=>.any
 |p::l=>upd (fV l) p.1 p.2
def xB:Nat→List HO→Hp
 |_,[]=>fun _=>none
 |i,o::os=>upd (xB (i+1) os) i (some o)
def bQc(o0:Option HO)(H:Hp):Hp:=match o0 with
 |none=>H
 |some o=>upd H 0 (some o)
def StL(sl:List (Nat×AV))(o0:Option HO)(hs:List HO):St:=⟨fV sl,bQc o0 (xB 1 hs),hs.length+1⟩
theorem pT:∀(hs:List HO) (i j:Nat),xB i hs j=if i≤j then hs[j-i]? else none
 |[],i,j=>by simp[xB]
 | o::os,i,j=>by
  unfold xB upd
  by_cases h:j=i
  ·subst h;simp
  ·rw[Ah h,pT os (i+1) j]
   by_cases h1:i+1≤j
   ·rw[Ap h1,Ap (by omega),show j-i=(j-(i+1))+1 from by omega,List.getElem?_cons_succ]
   ·rw[Ah h1,Ah (by omega)]
theorem bVx(sl:List (Nat×AV))(o0:Option HO)(hs:List HO):(StL sl o0 hs).H 0=o0:=by
 unfold StL bQc
 cases o0 with
 |none=>simp[pT]
 |some o=>rfl
theorem aPw(sl:List (Nat×AV))(o0:Option HO)(hs:List HO)(i:Nat):(StL sl o0 hs).H (i+1)=hs[i]? := by
 unfold StL bQc
 cases o0 with
 |none=>simp[pT]
 |some o=>simp[upd,pT]
theorem sT:∀(l:List (Nat×AV)) (t:Nat),fV l t=.any∨∃ p∈l,p.1=t∧fV l t=p.2
 |[],t=>.inl rfl
 | p::l,t=>by
  by_cases h:t=p.1
  ·exact .inr ⟨p,AI ..,h.symm,by simp[fV,upd,h]⟩
  ·have e:fV (p::l) t=fV l t:=by simp[fV,upd,h]
   rw[e]
   rcases sT l t with h|⟨q,hq,h⟩
   ·exact .inl h
   ·exact .inr ⟨q,AJ _ hq,h⟩
def wX(rs:List Nat):Nat→Nat:=fun id=>match id with|0=>0|i+1=>rs.getD i 0
def jL(H H':Hp)(ρ:Nat→Nat)(Γ:Nat→AV):List (Nat×AV)→Prop
 |[]=>True
 |p::l=>Sub H H' ρ (Γ p.1) p.2∧jL H H' ρ Γ l
def vT(H H':Hp)(ρ:Nat→Nat):List Nat→List HO→Prop
 |[],[]=>True
 |r::rs,o::os=>(∃ o0,H r=some o0∧mW H H' ρ o0 o)∧vT H H' ρ rs os
 |_,_=>False
theorem lJ{H H':Hp}{ρ:Nat→Nat}{Γ:Nat→AV}:∀{l:List (Nat×AV)},jL H H' ρ Γ l→∀ p∈l,Sub H H' ρ (Γ p.1) p.2
 | p::l,h,q,hq=>by
  rcases Bq.1 hq with rfl|hq
  ·exact h.1
  ·exact lJ h.2 q hq
theorem aAp{H H':Hp}{ρ:Nat→Nat}:∀{rs:List Nat} {os:List HO},vT H H' ρ rs os→rs.length=os.length∧∀(i:Nat) o,os[i]? = some o→∃ o0,H (rs.getD i 0)=some o0∧mW H H' ρ o0 o
 |[],[],_=>⟨rfl,fun i o h=>by simp at h⟩
 | r::rs,o::os,h=>by
  obtain⟨h1,h2⟩:=h
  obtain⟨q1,q2⟩:=aAp h2
  refine⟨by simp[q1],fun i o' hi=>?_⟩
  rcases i with _|i
  ·simp at hi;subst hi;simpa using h1
  ·simpa using q2 i o' (by simpa using hi)
 |[],_::_,h=>h.elim
 |_::_,[],h=>h.elim
theorem xW{l:List Nat}{i:Nat}(h:i<l.length):l.getD i 0=l[i]:=by
 rw[Ac,Ab h];rfl
theorem qG{H H':Hp}{ρ:Nat→Nat}(x:AV):Sub H H' ρ x .any:=by cases x<;>trivial
theorem aQd{σ:St}{sl:List (Nat×AV)}{o0:Option HO}{hs:List HO}(rs:List Nat)(hnd:(0::rs).Nodup)
  (hslot:jL σ.H (StL sl o0 hs).H (wX rs) σ.Γ sl) (h0:∀ o',o0=some o'→∃ o,σ.H 0=some o∧mW σ.H (StL sl o0 hs).H (wX rs) o o')
  (hblk:vT σ.H (StL sl o0 hs).H (wX rs) rs hs):Wk σ (StL sl o0 hs) (wX rs):=by
 obtain⟨hlen,hget⟩:=aAp hblk
 have hlt:∀ i,(((StL sl o0 hs).H (i+1)).isSome=true)→i<rs.length:=fun i h=>by
  rw[hlen]
  rw[aPw]at h
  rcases Az i hs.length with h'|h'
  ·exact h'
  ·rw[AX h']at h;cases h
 have hno:∀ i,i<rs.length→rs.getD i 0≠0:=fun i hi h=>by
  have:rs[i]∈rs:=Bj hi
  rw[xW hi]at h
  rw[h]at this
  exact(Dz.1 hnd).1 this
 refine⟨fun id h=>?_,fun t=>?_,fun id o' h=>?_,fun id id' h h' e=>?_,fun _=>rfl,fun h=>by simp[StL]at h⟩
 ·cases id with
  |zero=>simp[StL]at h
  |succ i=>rw[aPw];simp only[StL]at h;exact AX (by omega)
 ·show Sub _ _ _ _ (fV sl t)
  rcases sT sl t with h|⟨p,hp,rfl,h⟩
  ·rw[h];exact qG _
  ·rw[h];exact lJ hslot _ hp
 ·cases id with
  |zero=>rw[bVx]at h;exact h0 o' h
  |succ i=>rw[aPw]at h;exact hget i o' h
 ·cases id with
  | zero=>cases id' with
   |zero=>rfl
   |succ j=>exact absurd e.symm (hno j (hlt j h'))
  | succ i=>cases id' with
   |zero=>exact absurd e (hno i (hlt i h))
   | succ j =>
    have hi:=hlt i h
    have hj:=hlt j h'
    simp only[wX]at e
    rw[xW hi,xW hj]at e
    have:=(List.getElem_inj (Dz.1 hnd).2).1 e
    rw[this]
theorem bZd{σ:St}{sl:List (Nat×AV)}{hs:List HO}(rs:List Nat)(hnd:(0::rs).Nodup)
  (hslot:jL σ.H (StL sl none hs).H (wX rs) σ.Γ sl) (hblk:vT σ.H (StL sl none hs).H (wX rs) rs hs):∃ ρ,Wk σ (StL sl none hs) ρ :=
 ⟨_,aQd rs hnd hslot (fun _ h=>by cases h) hblk⟩
theorem wkQ{σ:St}{sl:List (Nat×AV)}{hs:List HO}(rs:List Nat)(hslot:jL σ.H (StL sl none hs).H (wX rs) σ.Γ sl)(hblk:vT σ.H (StL sl none hs).H (wX rs) rs hs)(hnd:(0::rs).Nodup:=by simp):∃ ρ,Wk σ (StL sl none hs) ρ:=bZd rs hnd hslot hblk
theorem mJ{H H':Hp}{ρ:Nat→Nat}(e:TypeId)(l:List D):mW H H' ρ (.cells e (l.map .d)) (.cells e (l.map .d)):=by
 refine⟨rfl,rfl,fun k c d h1 h2=>?_⟩
 rw[h1]at h2;injection h2 with h2;subst h2
 rw[Ag]at h1
 obtain⟨x,_,rfl⟩:=Af.1 h1
 exact⟨rfl,fun a ha=>by simp[vis]at ha⟩
theorem aMf{H H':Hp}{ρ:Nat→Nat}{e:TypeId}{l:List D}{c c':List AV}(h:c=l.map .d)(h':c'=l.map .d):mW H H' ρ (.cells e c) (.cells e c'):=by
 subst h;subst h';exact mJ e l
theorem bQr{H H':Hp}{ρ:Nat→Nat}(x:D):Sub H H' ρ (.d x) (.d x):=⟨rfl,fun a ha=>by simp[vis]at ha⟩
theorem bSs{H H':Hp}{ρ:Nat→Nat}{x y:D}(h:x=y):Sub H H' ρ (.d x) (.d y):=h ▸ bQr x
theorem aCg{H H':Hp}{ρ:Nat→Nat}(x y:D):Sub H H' ρ (.d x) (.d y)↔x=y:=by
 constructor
 ·intro h
  have:frz H 8 (.d x)=some y:=h.1
  rw[aKc]at this
  injection this
 ·exact bSs
theorem aHm{H H':Hp}{ρ:Nat→Nat}{a o l s b o' l' s':Nat}:Sub H H' ρ (.own a o l s) (.own b o' l' s')↔(a=ρ b∧o=o'∧l=l'∧s=s'∧(H' b).isSome=true):=FF
theorem aHl{H H':Hp}{ρ:Nat→Nat}{a o b o':Nat}:Sub H H' ρ (.ptr a o) (.ptr b o')↔(a=ρ b∧o=o'∧(H' b).isSome=true):=FF
theorem aMe{H H':Hp}{ρ:Nat→Nat}{a b:Nat}:Sub H H' ρ (.mp a) (.mp b)↔(a=ρ b∧(H' b).isSome=true):=FF
theorem bJs{H H':Hp}{ρ:Nat→Nat}:Sub H H' ρ .nil .nil↔True:=FF
theorem bSr{H H':Hp}{ρ:Nat→Nat}:Sub H H' ρ .un .un↔True:=FF
theorem bJt{H H':Hp}{ρ:Nat→Nat}{x:AV}{y:D}(h:frz H 8 x=some y)(hv:∀ a∈vis H 8 x,∀ id,(H' id).isSome=true→ρ id≠a):Sub H H' ρ x (.d y):=by
 have h2:mG H H' ρ x (.d y):=by cases x<;>exact⟨h,hv⟩
 cases x<;>exact h2
/-! Cells -/
theorem jO(l:List D)(off:Nat)(x:D)(h:off<l.length):lay (l.map AV.d) off [.d x]=(l.set off x).map .d:=by
 have h1:off+[AV.d x].length≤(l.map AV.d).length:=by rw[List.length_map];exact h
 apply C4
 intro k
 rw[xR h1,Ag,Ag,List.getElem?_set]
 by_cases e:off=k
 ·subst e;simp[h]
 ·rw[Ah e,Ah]
  simp only[List.length_singleton];omega
theorem mS(l:List D)(n:Nat)(h:n=l.length):chunk 1 n l=l.map fun x=>[x]:=by
 subst h
 unfold chunk
 apply C4
 intro k
 by_cases hk:k<l.length
 ·simp only[Ag,List.getElem?_range hk,Option.map_some,CJ,Ab hk]
  congr 1
  rw[List.drop_eq_getElem_cons hk];rfl
 ·rw[AX (by simpa using hk),AX (by simpa using hk)]
theorem bBc(n:Nat)(x:D):(As n [AV.d x]).flatten=(As n x).map .d:=by
 induction n with
 |zero=>rfl
 |succ n ih=>simp only[CF,List.flatten_cons,ih];rfl
theorem bVh(H:Hp)(n:Nat)(cs:List AV):frz H (n+1) (.ag cs)=(cs.mapM (frz H n)).map .ag:=rfl
def eX(H H':Hp)(ρ:Nat→Nat):List AV→List AV→Prop
 |[],[]=>True
 |c::cs,d::ds=>mG H H' ρ c d∧eX H H' ρ cs ds
 |_,_=>False
theorem dJ{H H':Hp}{ρ:Nat→Nat}:∀{cs ds:List AV},eX H H' ρ cs ds↔(cs.length=ds.length∧∀(k:Nat) c d,cs[k]? = some c→ds[k]? = some d→mG H H' ρ c d)
 |[],[]=>by simp[eX]
 | c::cs,d::ds=>by
  rw[eX,dJ]
  constructor
  ·rintro⟨h1,h2,h3⟩
   refine⟨by simp[h2],fun k a b ha hb=>?_⟩
   rcases k with _|k
   ·simp at ha hb;subst ha;subst hb;exact h1
   ·exact h3 k a b (by simpa using ha) (by simpa using hb)
  ·rintro⟨h1,h2⟩
   exact⟨h2 0 c d rfl rfl,by simpa using h1,fun k a b ha hb=>h2 (k+1) a b (by simpa using ha) (by simpa using hb)⟩
 |[],_::_=>by simp[eX]
 |_::_,[]=>by simp[eX]
theorem dL{H H':Hp}{ρ:Nat→Nat}{e e':TypeId}{cs ds:List AV}:mW H H' ρ (.cells e cs) (.cells e' ds)↔(e=e'∧eX H H' ρ cs ds):=by
 rw[dJ];rfl
theorem kM{H H':Hp}{ρ:Nat→Nat}(x y:D):mG H H' ρ (.d x) (.d y)↔x=y:=aCg x y
theorem aYz{H H':Hp}{ρ:Nat→Nat}:mG H H' ρ .nil .nil↔True:=FF
theorem bJw{H H':Hp}{ρ:Nat→Nat}:mG H H' ρ .un .un↔True:=FF
theorem aGo{H H':Hp}{ρ:Nat→Nat}{c c':List AV}{l:List D}(h:c=l.map .d)(h':c'=l.map .d):eX H H' ρ c c':=by
 have:=aMf (H:=H) (H':=H') (ρ:=ρ) (e:=0) h h'
 exact(dL.1 this).2
theorem aKr{H H':Hp}{ρ:Nat→Nat}{l l':List D}:eX H H' ρ (l.map .d) (l'.map .d)↔l=l':=by
 constructor
 ·intro h
  obtain⟨h1,h2⟩:=dJ.1 h
  apply C4
  intro k
  by_cases hk:k<l.length
  ·have hk':k<l'.length:=by simpa using(by simpa using h1:l.length=l'.length) ▸ hk
   have:=h2 k (.d l[k]) (.d l'[k]) (by simp[hk]) (by simp[hk'])
   rw[kM]at this
   rw[Ab hk,Ab hk',this]
  ·have hl:l.length=l'.length:=by simpa using h1
   have hk':¬k<l'.length:=by omega
   rw[AX (by omega),AX (by omega)]
 ·rintro rfl;exact aGo rfl rfl
theorem aYy{H H':Hp}{ρ:Nat→Nat}{k:IntKind}{es:List (Int×AV)}(h:∀ x∈es,Sub H H' ρ x.2 x.2):mW H H' ρ (.map k es) (.map k es):=by
 refine⟨rfl,rfl,fun j x y hx hy=>?_⟩
 rw[hx]at hy;injection hy with hy;subst hy
 exact⟨rfl,.inr (h x (List.mem_of_getElem? hx))⟩
theorem aGn{H H':Hp}{ρ:Nat→Nat}{l:List D}{c c':List AV}:eX H H' ρ (l.map .d++c) (l.map .d++c')↔eX H H' ρ c c':=by
 induction l with
 |nil=>rfl
 |cons x l ih=>simp only[BO,DZ,eX,ih,kM,true_and]
end Go.Am
end
section
open List renaming map_map→ζ,mapM_map→ξ
namespace Go.Am
variable {P:Program} [M:Mch P]
inductive Dm{α:Sort _}(a:α):Type where
 |mk
def cJ{α:Type}(x:Option α)(k:α→Prop)(_:Dm k):Prop:=match x with|some a=>k a|none=>False
theorem aPn{α:Type}(a:α)(k:α→Prop)(d:Dm k):cJ (some a) k d=k a:=rfl
def IfD(t:Bool)(A B:Prop)(_:Dm (A,B)):Prop:=if t then A else B
theorem bEg(A B:Prop)(d:Dm (A,B)):IfD true A B d=A:=rfl
theorem aVt(A B:Prop)(d:Dm (A,B)):IfD false A B d=B:=by simp[IfD]
def OWd(P:Program)[M:Mch P](ops:Array Oper)(l:List Oper)(σ:St)(con:List Nat)(k:St→List Nat→Prop)(_:Dm (ops,l,k)):Prop:=OW P ops l σ con k
def O1d(P:Program)[M:Mch P](o:Oper)(σ:St)(con:List Nat)(k:St→List Nat→Prop)(_:Dm (o,k)):Prop:=O1 P o σ con k
def aLl(σ:St)(con:List Nat)(k:St→Prop)(_:Dm k):Prop:=k (fin σ con)
theorem aO(σ:St)(k:St→Prop)(d:Dm k):aLl σ [] k d=k σ:=rfl
theorem aVz(σ:St)(c:Nat)(l:List Nat)(k:St→Prop)(d:Dm k):aLl σ (c::l) k d=k ⟨fun t=>jD (c::l) (σ.Γ t),fun id=>(σ.H id).map (gY (c::l)),σ.n⟩:=rfl
def bIc(P:Program)[M:Mch P](v:AV)(x y:Code)(σ:St)(Q:Exit→St→Prop)(_:Dm (x,y,Q)):Prop:=match v with|.d (.b t)=>IfD t (AWP P x σ Q) (AWP P y σ Q) .mk|.ub=>AWP P x σ Q∧AWP P y σ Q|_=>False
theorem bPq(t:Bool)(x y:Code)(σ:St)(Q:Exit→St→Prop)(d:Dm (x,y,Q)):bIc P (.d (.b t)) x y σ Q d=IfD t (AWP P x σ Q) (AWP P y σ Q) .mk:=rfl
theorem bGa(x y:Code)(σ:St)(Q:Exit→St→Prop)(d:Dm (x,y,Q)):bIc P .ub x y σ Q d=(AWP P x σ Q∧AWP P y σ Q):=rfl
theorem aDv(c:Operand)(x y:Code)(σ:St)(Q:Exit→St→Prop):AWP P (.cond c x y) σ Q=bIc P (oev σ.Γ c) x y σ Q .mk:=rfl
theorem wQ(id:Nat)(l:List Oper)(draw:Bool)(σ:St)(Q:Exit→St→Prop):AWP P (.region id l.toArray draw) σ Q=OWd P l.toArray l σ [] (fun σ' con=>aLl σ' con (Q .normal) .mk) .mk:=rfl
def aLj(P:Program)[M:Mch P](c:Code)(σ:St)(Q:Exit→St→Prop)(_:Dm (c,Q)):Prop:=AWP P (.loop c) σ Q
theorem aDt(c:Code)(σ:St)(Q:Exit→St→Prop):AWP P (.loop c) σ Q=aLj P c σ Q .mk:=rfl
theorem lQ{τ:Type}{c:Code}{σ:St}{Q:Exit→St→Prop}{d:Dm (c,Q)}(S:τ→St)(m:τ→Nat)(x0:τ)(h0:∃ ρ,Wk σ (S x0) ρ)
  (h:∀ x,AWP P c (S x) fun e σ'=>match e with|.normal=>∃ y,m y<m x∧WkR σ' (S y)|e=>Q e σ'):aLj P c σ Q d:=aAq S m x0 (.inr h0) h
def LuP(P:Program)[M:Mch P](c:Code)(n:Nat)(σ:St)(Q:Exit→St→Prop)(_:Dm (c,Q)):Prop:=LU P c n σ Q
theorem aE(c:Code)(n:Nat)(σ:St)(Q:Exit→St→Prop)(d:Dm (c,Q)):LuP P c (n+1) σ Q d=AWP P c σ fun e σ'=>match e with|.normal=>LuP P c n σ' Q .mk|e=>Q e σ':=rfl
theorem gL(n:Nat){c:Code}{σ:St}{Q:Exit→St→Prop}{d:Dm (c,Q)}(h:LuP P c n σ Q .mk):aLj P c σ Q d:=bNj h
def Nxt{τ:Type}(I:τ→Prop)(m:τ→Nat)(S:τ→St)(x:τ)(σ':St)(_:Dm (I,m,S,x)):Prop:=∃ y,I y∧m y<m x∧WkR σ' (S y)
theorem aK{τ:Type}{I:τ→Prop}{m:τ→Nat}{S:τ→St}{x:τ}{σ':St}{d:Dm (I,m,S,x)}(y:τ)(h1:I y)(h2:m y<m x)(h3:∃ ρ,Wk σ' (S y) ρ):Nxt I m S x σ' d:=⟨y,h1,h2,.inr h3⟩
theorem bX{τ:Type}{c:Code}{σ:St}{Q:Exit→St→Prop}{d:Dm (c,Q)}(I:τ→Prop)(S:τ→St)(m:τ→Nat)(x0:τ)(hI:I x0)(h0:∃ ρ,Wk σ (S x0) ρ)
  (h:∀ x,I x→AWP P c (S x) fun e σ'=>match e with|.normal=>Nxt I m S x σ' .mk|e=>Q e σ'):aLj P c σ Q d:=by
 refine lQ (τ:={ x:τ // I x }) (fun x=>S x.1) (fun x=>m x.1) ⟨x0,hI⟩ h0 fun x=>?_
 refine cast (congrArg (AWP P c (S x.1)) ?_) (h x.1 x.2)
 funext e σ'
 cases e with
 |normal=>exact propext ⟨fun⟨y,h1,h2,h3⟩=>⟨⟨y,h1⟩,h2,h3⟩,fun⟨y,h2,h3⟩=>⟨y.1,y.2,h2,h3⟩⟩
 |_=>rfl
def ExP(Q:Exit→St→Prop)(e:Exit)(σ:St)(_:Dm Q):Prop:=∃ σ2,WkR σ σ2∧Q e σ2
theorem bF{Q:Exit→St→Prop}{e:Exit}{σ:St}{d:Dm Q}(h:Q e σ):ExP Q e σ d:=⟨σ,.inl rfl,h⟩
theorem bJ{τ:Type}{c:Code}{σ:St}{Q:Exit→St→Prop}{d:Dm (c,Q)}(I:τ→Prop)(S:τ→St)(m:τ→Nat)(x0:τ)(hI:I x0)(h0:∃ ρ,Wk σ (S x0) ρ)
  (h:∀ x,I x→AWP P c (S x) fun e σ'=>match e with|.normal=>Nxt I m S x σ' .mk|e=>ExP Q e σ' .mk):aLj P c σ Q d:=by
 refine(⟨{ x:τ // I x },fun x=>S x.1,fun x=>m x.1,⟨x0,hI⟩,.inr h0,fun x=>?_⟩:AWP P (.loop c) σ Q)
 refine eY c (fun e σ' h=>?_) (h x.1 x.2)
 cases e with
 |normal=>obtain⟨y,h1,h2,h3⟩:=h;exact⟨⟨y,h1⟩,h2,h3⟩
 |_=>exact h
theorem bO{o:Oper}{σ:St}{con:List Nat}{k:St→List Nat→Prop}{d:Dm (o,k)} (h:O1 P o σ con k=(kind P o.op=0∧match nev P o.op σ.Γ σ.n with
  |some (av,nb)=>k ⟨bE σ.Γ o.dst av,fZ σ.H σ.n nb,cnt nb σ.n⟩ con
  |none=>False)) (hk:kind P o.op=0):O1d P o σ con k d=cJ (nev P o.op σ.Γ σ.n) (fun p=>k ⟨bE σ.Γ o.dst p.1,fZ σ.H σ.n p.2,cnt p.2 σ.n⟩ con) .mk:=by
 rw[O1d,h]
 simp only[hk,true_and]
 cases nev P o.op σ.Γ σ.n with
 |none=>rfl
 |some p=>obtain⟨a,b⟩:=p;rfl
section
variable (dst:Option Tmp) (ty:TypeId) (pos:String) (after:Array Edge) (guard:Option (Nat×Bool)) (σ:St) (con:List Nat) (k:St→List Nat→Prop)
theorem aRe(x:Operand)(d:Dm ((⟨dst,.move x,ty,pos,after,guard⟩:Oper),k)):O1d P ⟨dst,.move x,ty,pos,after,guard⟩ σ con k d=cJ (nev P (.move x) σ.Γ σ.n) (fun p=>k ⟨bE σ.Γ dst p.1,fZ σ.H σ.n p.2,cnt p.2 σ.n⟩ con) .mk:=bO rfl rfl
theorem wG(x:Operand)(d:Dm ((⟨dst,.nilCheck x,ty,pos,after,guard⟩:Oper),k)):O1d P ⟨dst,.nilCheck x,ty,pos,after,guard⟩ σ con k d=cJ (nev P (.nilCheck x) σ.Γ σ.n) (fun p=>k ⟨bE σ.Γ dst p.1,fZ σ.H σ.n p.2,cnt p.2 σ.n⟩ con) .mk:=bO rfl rfl
theorem aCx(x:Operand)(d:Dm ((⟨dst,.assign x,ty,pos,after,guard⟩:Oper),k)):O1d P ⟨dst,.assign x,ty,pos,after,guard⟩ σ con k d=cJ (nev P (.assign x) σ.Γ σ.n) (fun p=>k ⟨bE σ.Γ dst p.1,fZ σ.H σ.n p.2,cnt p.2 σ.n⟩ con) .mk:=bO rfl rfl
theorem aRd(a b c:Operand)(d:Dm ((⟨dst,.pick a b c,ty,pos,after,guard⟩:Oper),k)):O1d P ⟨dst,.pick a b c,ty,pos,after,guard⟩ σ con k d=cJ (nev P (.pick a b c) σ.Γ σ.n) (fun p=>k ⟨bE σ.Γ dst p.1,fZ σ.H σ.n p.2,cnt p.2 σ.n⟩ con) .mk:=bO rfl rfl
theorem aJf(e:TypeId)(d:Dm ((⟨dst,.alloc e,ty,pos,after,guard⟩:Oper),k)):O1d P ⟨dst,.alloc e,ty,pos,after,guard⟩ σ con k d=cJ (nev P (.alloc e) σ.Γ σ.n) (fun p=>k ⟨bE σ.Γ dst p.1,fZ σ.H σ.n p.2,cnt p.2 σ.n⟩ con) .mk:=bO rfl rfl
theorem bCd(e:TypeId)(x:Operand)(d:Dm ((⟨dst,.box e x,ty,pos,after,guard⟩:Oper),k)):O1d P ⟨dst,.box e x,ty,pos,after,guard⟩ σ con k d=cJ (nev P (.box e x) σ.Γ σ.n) (fun p=>k ⟨bE σ.Γ dst p.1,fZ σ.H σ.n p.2,cnt p.2 σ.n⟩ con) .mk:=bO rfl rfl
theorem aJd(e:TypeId)(x:Array (Nat×Operand))(d:Dm ((⟨dst,.build e x,ty,pos,after,guard⟩:Oper),k)):O1d P ⟨dst,.build e x,ty,pos,after,guard⟩ σ con k d=cJ (nev P (.build e x) σ.Γ σ.n) (fun p=>k ⟨bE σ.Γ dst p.1,fZ σ.H σ.n p.2,cnt p.2 σ.n⟩ con) .mk:=bO rfl rfl
theorem rE(e:TypeId)(n:Nat)(x:Array (Nat×Operand))(d:Dm ((⟨dst,.buildSlice e n x,ty,pos,after,guard⟩:Oper),k)):O1d P ⟨dst,.buildSlice e n x,ty,pos,after,guard⟩ σ con k d=cJ (nev P (.buildSlice e n x) σ.Γ σ.n) (fun p=>k ⟨bE σ.Γ dst p.1,fZ σ.H σ.n p.2,cnt p.2 σ.n⟩ con) .mk:=bO rfl rfl
theorem tG(e:TypeId)(x y:Operand)(d:Dm ((⟨dst,.makeSlice e x y,ty,pos,after,guard⟩:Oper),k)):O1d P ⟨dst,.makeSlice e x y,ty,pos,after,guard⟩ σ con k d=cJ (nev P (.makeSlice e x y) σ.Γ σ.n) (fun p=>k ⟨bE σ.Γ dst p.1,fZ σ.H σ.n p.2,cnt p.2 σ.n⟩ con) .mk:=bO rfl rfl
theorem zD(e:TypeId)(x:Option Operand)(d:Dm ((⟨dst,.makeMap e x,ty,pos,after,guard⟩:Oper),k)):O1d P ⟨dst,.makeMap e x,ty,pos,after,guard⟩ σ con k d=cJ (nev P (.makeMap e x) σ.Γ σ.n) (fun p=>k ⟨bE σ.Γ dst p.1,fZ σ.H σ.n p.2,cnt p.2 σ.n⟩ con) .mk:=bO rfl rfl
theorem aJe(b:BinOp)(t:TypeId)(x y:Operand)(u:TypeId)(d:Dm ((⟨dst,.binOp b t x y u,ty,pos,after,guard⟩:Oper),k)):O1d P ⟨dst,.binOp b t x y u,ty,pos,after,guard⟩ σ con k d=cJ (nev P (.binOp b t x y u) σ.Γ σ.n) (fun p=>k ⟨bE σ.Γ dst p.1,fZ σ.H σ.n p.2,cnt p.2 σ.n⟩ con) .mk:=bO rfl rfl
theorem aRc(b:UnOp)(t:TypeId)(x:Operand)(d:Dm ((⟨dst,.unOp b t x,ty,pos,after,guard⟩:Oper),k)):O1d P ⟨dst,.unOp b t x,ty,pos,after,guard⟩ σ con k d=cJ (nev P (.unOp b t x) σ.Γ σ.n) (fun p=>k ⟨bE σ.Γ dst p.1,fZ σ.H σ.n p.2,cnt p.2 σ.n⟩ con) .mk:=bO rfl rfl
theorem zF(s t:TypeId)(x:Operand)(d:Dm ((⟨dst,.convert s t x,ty,pos,after,guard⟩:Oper),k)):O1d P ⟨dst,.convert s t x,ty,pos,after,guard⟩ σ con k d=cJ (nev P (.convert s t x) σ.Γ σ.n) (fun p=>k ⟨bE σ.Γ dst p.1,fZ σ.H σ.n p.2,cnt p.2 σ.n⟩ con) .mk:=bO rfl rfl
theorem tJ(s:TypeId)(x:Operand)(f:Nat)(d:Dm ((⟨dst,.fieldAddr s x f,ty,pos,after,guard⟩:Oper),k)):O1d P ⟨dst,.fieldAddr s x f,ty,pos,after,guard⟩ σ con k d=cJ (nev P (.fieldAddr s x f) σ.Γ σ.n) (fun p=>k ⟨bE σ.Γ dst p.1,fZ σ.H σ.n p.2,cnt p.2 σ.n⟩ con) .mk:=bO rfl rfl
theorem aJc(s:TypeId)(x:Operand)(f:Nat)(d:Dm ((⟨dst,.field s x f,ty,pos,after,guard⟩:Oper),k)):O1d P ⟨dst,.field s x f,ty,pos,after,guard⟩ σ con k d=cJ (nev P (.field s x f) σ.Γ σ.n) (fun p=>k ⟨bE σ.Γ dst p.1,fZ σ.H σ.n p.2,cnt p.2 σ.n⟩ con) .mk:=bO rfl rfl
theorem tI(s:TypeId)(x y:Operand)(d:Dm ((⟨dst,.indexAddr s x y,ty,pos,after,guard⟩:Oper),k)):O1d P ⟨dst,.indexAddr s x y,ty,pos,after,guard⟩ σ con k d=cJ (nev P (.indexAddr s x y) σ.Γ σ.n) (fun p=>k ⟨bE σ.Γ dst p.1,fZ σ.H σ.n p.2,cnt p.2 σ.n⟩ con) .mk:=bO rfl rfl
theorem zE(x:Operand)(i:Nat)(d:Dm ((⟨dst,.extract x i,ty,pos,after,guard⟩:Oper),k)):O1d P ⟨dst,.extract x i,ty,pos,after,guard⟩ σ con k d=cJ (nev P (.extract x i) σ.Γ σ.n) (fun p=>k ⟨bE σ.Γ dst p.1,fZ σ.H σ.n p.2,cnt p.2 σ.n⟩ con) .mk:=bO rfl rfl
theorem aJb(t:TypeId)(x:Operand)(a b c:Option Operand)(d:Dm ((⟨dst,.slice t x a b c,ty,pos,after,guard⟩:Oper),k)):O1d P ⟨dst,.slice t x a b c,ty,pos,after,guard⟩ σ con k d=cJ (nev P (.slice t x a b c) σ.Γ σ.n) (fun p=>k ⟨bE σ.Γ dst p.1,fZ σ.H σ.n p.2,cnt p.2 σ.n⟩ con) .mk:=bO rfl rfl
theorem bCc(args:Array Operand)(ts:Array TypeId)(hm:aNy P ts=false)(d:Dm ((⟨dst,.call ⟨.builtin .len,args,ts⟩,ty,pos,after,guard⟩:Oper),k)):O1d P ⟨dst,.call ⟨.builtin .len,args,ts⟩,ty,pos,after,guard⟩ σ con k d=cJ (nev P (.call ⟨.builtin .len,args,ts⟩) σ.Γ σ.n) (fun p=>k ⟨bE σ.Γ dst p.1,fZ σ.H σ.n p.2,cnt p.2 σ.n⟩ con) .mk:=by
 refine bO ?_ (by simp[kind,hm])
 simp only[O1,hm,Ae,Av]
 rfl
theorem aRg(m:Operand)(ts:Array TypeId)(hm:aNy P ts=true)(d:Dm ((⟨dst,.call ⟨.builtin .len,#[m],ts⟩,ty,pos,after,guard⟩:Oper),k)):O1d P ⟨dst,.call ⟨.builtin .len,#[m],ts⟩,ty,pos,after,guard⟩ σ con k d=cJ (aDc σ.H (oev σ.Γ m)) (fun n=>k ⟨bE σ.Γ dst (.d (.i .i64 n)),σ.H,σ.n⟩ con) .mk:=by
 unfold O1d
 simp only[O1,hm,if_true]
 cases aDc σ.H (oev σ.Γ m)<;>rfl
theorem bCq(H:Hp)(id:Nat):aDc H (.mp id)=match H id with
  |some (.map _ es)=>some es.length
  |_=>none:=rfl
theorem bCb(args:Array Operand)(ts:Array TypeId)(d:Dm ((⟨dst,.call ⟨.builtin .max,args,ts⟩,ty,pos,after,guard⟩:Oper),k)):O1d P ⟨dst,.call ⟨.builtin .max,args,ts⟩,ty,pos,after,guard⟩ σ con k d=cJ (nev P (.call ⟨.builtin .max,args,ts⟩) σ.Γ σ.n) (fun p=>k ⟨bE σ.Γ dst p.1,fZ σ.H σ.n p.2,cnt p.2 σ.n⟩ con) .mk:=bO rfl rfl
theorem bCa(args:Array Operand)(ts:Array TypeId)(d:Dm ((⟨dst,.call ⟨.builtin .min,args,ts⟩,ty,pos,after,guard⟩:Oper),k)):O1d P ⟨dst,.call ⟨.builtin .min,args,ts⟩,ty,pos,after,guard⟩ σ con k d=cJ (nev P (.call ⟨.builtin .min,args,ts⟩) σ.Γ σ.n) (fun p=>k ⟨bE σ.Γ dst p.1,fZ σ.H σ.n p.2,cnt p.2 σ.n⟩ con) .mk:=bO rfl rfl
theorem aRf(t:TypeId)(x:Operand)(d:Dm ((⟨dst,.load t x,ty,pos,after,guard⟩:Oper),k)):O1d P ⟨dst,.load t x,ty,pos,after,guard⟩ σ con k d=cJ (tM P σ.H t (oev σ.Γ x)) (fun v=>k ⟨bE σ.Γ dst v,σ.H,σ.n⟩ con) .mk:=by
 unfold O1d;simp only[O1,cJ];split<;>simp_all
theorem aCu(t:TypeId)(m x:Operand)(ok:Bool)(d:Dm ((⟨dst,.lookup t m x ok,ty,pos,after,guard⟩:Oper),k)):O1d P ⟨dst,.lookup t m x ok,ty,pos,after,guard⟩ σ con k d=cJ (aDh P σ.H t (oev σ.Γ m) (oev σ.Γ x) ok) (fun v=>k ⟨bE σ.Γ dst v,σ.H,σ.n⟩ con) .mk:=by
 unfold O1d;simp only[O1,cJ];split<;>simp_all
theorem aJa(t:TypeId)(ad x:Operand)(d:Dm ((⟨dst,.store t ad x,ty,pos,after,guard⟩:Oper),k)):O1d P ⟨dst,.store t ad x,ty,pos,after,guard⟩ σ con k d=cJ (nB P σ.H t (oev σ.Γ ad) (oev σ.Γ x)) (fun p=>k ⟨bE σ.Γ dst .un,upd σ.H p.1 (some p.2),σ.n⟩ con) .mk:=by
 unfold O1d;simp only[O1,cJ];split<;>simp_all
theorem tF(t:TypeId)(m x v:Operand)(d:Dm ((⟨dst,.mapUpdate t m x v,ty,pos,after,guard⟩:Oper),k)):O1d P ⟨dst,.mapUpdate t m x v,ty,pos,after,guard⟩ σ con k d=cJ (pD P σ.H t (oev σ.Γ m) (oev σ.Γ x) (some (oev σ.Γ v))) (fun p=>k ⟨bE σ.Γ dst .any,upd σ.H p.1 (some p.2),σ.n⟩ con) .mk:=by
 unfold O1d;simp only[O1,cJ];split<;>simp_all
theorem aCv(t:TypeId)(m x v:Operand)(d:Dm ((⟨dst,.insert t m x v,ty,pos,after,guard⟩:Oper),k)):O1d P ⟨dst,.insert t m x v,ty,pos,after,guard⟩ σ con k d=cJ (pD P σ.H t (oev σ.Γ m) (oev σ.Γ x) (some (oev σ.Γ v))) (fun p=>k ⟨bE σ.Γ dst .any,upd σ.H p.1 (some p.2),σ.n⟩ con) .mk:=by
 unfold O1d;simp only[O1,cJ];split<;>simp_all
theorem aCw(m x:Operand)(t u:TypeId)(d:Dm ((⟨dst,.call ⟨.builtin .delete,#[m,x],#[t,u]⟩,ty,pos,after,guard⟩:Oper),k)):O1d P ⟨dst,.call ⟨.builtin .delete,#[m,x],#[t,u]⟩,ty,pos,after,guard⟩ σ con k d=cJ (pD P σ.H t (oev σ.Γ m) (oev σ.Γ x) none) (fun p=>k ⟨bE σ.Γ dst .any,upd σ.H p.1 (some p.2),σ.n⟩ con) .mk:=by
 unfold O1d;simp only[O1,cJ];split<;>simp_all
theorem aCy(s x:Operand)(t:TypeId)(d:Dm ((⟨dst,.call ⟨.builtin .append,#[s,x],#[t,t]⟩,ty,pos,after,guard⟩:Oper),k)):O1d P ⟨dst,.call ⟨.builtin .append,#[s,x],#[t,t]⟩,ty,pos,after,guard⟩ σ con k d=cJ (aBw P σ.H t (oev σ.Γ s) (oev σ.Γ x) σ.n) (fun p=>k ⟨bE σ.Γ dst p.1,fZ (kill p.2.2 σ.H) σ.n p.2.1,cnt p.2.1 σ.n⟩ (p.2.2++con)) .mk:=by
 unfold O1d;simp only[O1,cJ];simp only[true_and]
 cases aBw P σ.H t (oev σ.Γ s) (oev σ.Γ x) σ.n with
 |none=>rfl
 |some p=>obtain⟨a,b,c⟩:=p;rfl
end
def aSn(P:Program)[M:Mch P](f:FuncId)(avs:List AV)(H:Hp)(k:D→Prop)(_:Dm k):Prop:=∃ ds r,cI H avs=some ds∧Spec P f ds r∧k r
theorem aZ{f:FuncId}{avs:List AV}{H:Hp}{k:D→Prop}{d:Dm k}{ds:List D}{r:D}(h1:cI H avs=some ds)(h2:Spec P f ds r)(h3:k r):aSn P f avs H k d:=⟨ds,r,h1,h2,h3⟩
theorem slQ{i n:Nat}(h:i<n):n-(i+1)<n-i:=Nat.sub_lt_sub_left h (Cr _)
theorem aD{f:FuncId}{avs:List AV}{H:Hp}{k:D→Prop}{d:Dm k}{ds:List D}{r:D}(h2:Spec P f ds r)(h3:k r)(h1:cI H avs=some ds:=by rfl):aSn P f avs H k d:=⟨ds,r,h1,h2,h3⟩
def bXy:List AV→Bool
 |[.kf _ _]=>true
 |_=>false
theorem aRh(dst:Option Tmp)(ty:TypeId)(pos:String)(after:Array Edge)(guard:Option (Nat×Bool))(σ:St)(con:List Nat)(k:St→List Nat→Prop)(f:FuncId)(args:List Operand)(ts:Array TypeId)
  (d:Dm ((⟨dst,.call ⟨.value (.func f),args.toArray,ts⟩,ty,pos,after,guard⟩:Oper),k)) (hm:aM P f=false) (hn:aN P f=false) (hk:bXy (args.map (oev σ.Γ))=false):O1d P ⟨dst,.call ⟨.value (.func f),args.toArray,ts⟩,ty,pos,after,guard⟩ σ con k d =
  aSn P f (args.map (oev σ.Γ)) σ.H (fun r=>k ⟨bE σ.Γ dst (inj r),kill (aX σ.H (args.map (oev σ.Γ)) r) σ.H,σ.n⟩ (aX σ.H (args.map (oev σ.Γ)) r++con)) .mk:=by
 show OC P f args.toArray dst σ con k=_
 unfold OC aSn
 simp only[hm,hn,Ae,Av,false_and,false_or]
 split
 ·rename_i hx;rw[show args.map (oev σ.Γ)=_ from hx]at hk;cases hk
 ·rfl
theorem kO{dst:Option Tmp}{ty:TypeId}{pos:String}{after:Array Edge}{guard:Option (Nat×Bool)}{σ:St}{con:List Nat}{k:St→List Nat→Prop}{f:FuncId}{args:List Operand}{ts:Array TypeId}
  {d:Dm ((⟨dst,.call ⟨.value (.func f),args.toArray,ts⟩,ty,pos,after,guard⟩:Oper),k)} (ds:List D) (v:Nat→AV) (hs:Nat→List HO) (hm:aM P f=false) (hn:aN P f=true) (hpos:0<σ.n) (hfr:cI σ.H (args.map (oev σ.Γ))=some ds)
  (hvis:bT σ.H (args.map (oev σ.Γ))=[]) (hsp:rJ P f ds v hs) (hk:k ⟨bE σ.Γ dst (v σ.n),gF σ.H σ.n (hs σ.n),σ.n+(hs σ.n).length⟩ con) :
  O1d P ⟨dst,.call ⟨.value (.func f),args.toArray,ts⟩,ty,pos,after,guard⟩ σ con k d:=by
 show OC P f args.toArray dst σ con k
 unfold OC
 simp only[hm,Ae,Av]
 exact .inl ⟨hn,hpos,v,hs,.inl ⟨ds,hfr,hvis,hsp⟩,hk⟩
theorem aCt{dst:Option Tmp}{ty:TypeId}{pos:String}{after:Array Edge}{guard:Option (Nat×Bool)}{σ:St}{con:List Nat}{k:St→List Nat→Prop}{f:FuncId}{args:List Operand}{ts:Array TypeId}
  {d:Dm ((⟨dst,.call ⟨.value (.func f),args.toArray,ts⟩,ty,pos,after,guard⟩:Oper),k)} (v:Nat→AV) (hs:Nat→List HO) (hm:aM P f=false) (hn:aN P f=true) (hpos:0<σ.n) (hno:(args.map (oev σ.Γ)).all aFq=true)
  (hsp:aBe P f (args.map (oev σ.Γ)) v hs) (hk:k ⟨bE σ.Γ dst (v σ.n),gF σ.H σ.n (hs σ.n),σ.n+(hs σ.n).length⟩ con) :
  O1d P ⟨dst,.call ⟨.value (.func f),args.toArray,ts⟩,ty,pos,after,guard⟩ σ con k d:=by
 show OC P f args.toArray dst σ con k
 unfold OC
 simp only[hm,Ae,Av]
 exact .inl ⟨hn,hpos,v,hs,.inr ⟨hno,hsp⟩,hk⟩
theorem bBz{dst:Option Tmp}{ty:TypeId}{pos:String}{after:Array Edge}{guard:Option (Nat×Bool)}{σ:St}{con:List Nat}{k:St→List Nat→Prop}{f:FuncId}{x y:Operand}{rest:List Operand}{ts:Array TypeId}
  {d:Dm ((⟨dst,.call ⟨.value (.func f),(x::y::rest).toArray,ts⟩,ty,pos,after,guard⟩:Oper),k)} {d0:D} {id:Nat} {h:AV} {ho:HO} {ds:List D} {ho':HO} (hm:aM P f=true) (hx:oev σ.Γ x=.d d0) (hd0:hd1 (.d d0)=none) (hy:hd1 (oev σ.Γ y)=some (id,h)) (hH:σ.H id=some ho) (hfl:tX ho=true)
  (hnv:id ∉ bT σ.H (rest.map (oev σ.Γ))) (hfr:cI σ.H (rest.map (oev σ.Γ))=some ds) (hsp:aLi P f d0 h ho ds ho') (hlen:ho'.len=ho.len) (hfl':tX ho'=true) (hk:k ⟨bE σ.Γ dst (inj (.tp [])),upd σ.H id (some ho'),σ.n⟩ con) :
  O1d P ⟨dst,.call ⟨.value (.func f),(x::y::rest).toArray,ts⟩,ty,pos,after,guard⟩ σ con k d:=by
 show OC P f (x::y::rest).toArray dst σ con k
 unfold OC
 simp only[hm,if_true,hx,hd0]
 exact .inr ⟨d0,_,_,id,h,ho,ds,ho',rfl,rfl,hy,hH,hfl,hnv,hfr,hsp,hlen,hfl',hk⟩
theorem aQy(ops:Array Oper)(σ:St)(con:List Nat)(k:St→List Nat→Prop)(d:Dm (ops,([]:List Oper),k)):OWd P ops [] σ con k d=k σ con:=rfl
theorem aIu(ops:Array Oper)(dst:Option Tmp)(op:Op)(ty:TypeId)(pos:String)(after:Array Edge)(l:List Oper)(σ:St)(con:List Nat)(k:St→List Nat→Prop)(d:Dm (ops,(⟨dst,op,ty,pos,after,none⟩::l:List Oper),k)) :
  OWd P ops (⟨dst,op,ty,pos,after,none⟩::l) σ con k d=O1d P ⟨dst,op,ty,pos,after,none⟩ σ con (fun σ' con'=>OWd P ops l σ' con' k .mk) .mk:=rfl
theorem aIt(ops:Array Oper)(dst:Option Tmp)(op:Op)(ty:TypeId)(pos:String)(after:Array Edge)(g:Nat×Bool)(l:List Oper)(σ:St)(con:List Nat)(k:St→List Nat→Prop)(d:Dm (ops,(⟨dst,op,ty,pos,after,some g⟩::l:List Oper),k)) :
  OWd P ops (⟨dst,op,ty,pos,after,some g⟩::l) σ con k d=cJ (cR ops ⟨dst,op,ty,pos,after,some g⟩ σ.Γ) (fun t=>IfD t (O1d P ⟨dst,op,ty,pos,after,some g⟩ σ con (fun σ' con'=>OWd P ops l σ' con' k .mk) .mk) (OWd P ops l ⟨bE σ.Γ dst .un,σ.H,σ.n⟩ con k .mk) .mk) .mk:=by
 show(match cR ops ⟨dst,op,ty,pos,after,some g⟩ σ.Γ with
 |some true=>O1 P ⟨dst,op,ty,pos,after,some g⟩ σ con fun σ' con'=>OW P ops l σ' con' k
 |some false=>OW P ops l ⟨bE σ.Γ dst .un,σ.H,σ.n⟩ con k
 |none=>False)=_
 cases cR ops ⟨dst,op,ty,pos,after,some g⟩ σ.Γ with
 |none=>rfl
 |some t=>cases t<;>simp[cJ,IfD,O1d,OWd]
theorem bUt(t:Bool)(x y:Bool):(if t=true then AV.d (.b x)else AV.d (.b y))=AV.d (.b (if t then x else y)):=by cases t<;>rfl
end Go.Am
end
section
open List renaming map_map→ζ,mapM_map→ξ
namespace Go.Am
open RowKit (Below)
variable {P:Program} [M:Mch P]
theorem lH{σ:St}{sl:List (Nat×AV)}{H':Hp}{n':Nat}(hslot:jL σ.H H' (fun i=>i) σ.Γ sl)(hblk:∀ id o',H' id=some o'→∃ o,σ.H id=some o∧mW σ.H H' (fun i=>i) o o')
  (htop:∀ id,n'≤id→H' id=none) (hn:n'≠0):Wk σ ⟨fV sl,H',n'⟩ (fun i=>i):=by
 refine⟨htop,fun t=>?_,hblk,fun _ _ _ _ e=>e,fun _=>rfl,fun h=>absurd h hn⟩
 show Sub _ _ _ _ (fV sl t)
 rcases sT sl t with h|⟨p,hp,rfl,h⟩
 ·rw[h];exact qG _
 ·rw[h];exact lJ hslot _ hp
theorem bSc{σ:St}{sl:List (Nat×AV)}{H':Hp}{n':Nat}(ρ:Nat→Nat)(hslot:jL σ.H H' ρ σ.Γ sl)(hblk:∀ id o',H' id=some o'→∃ o,σ.H (ρ id)=some o∧mW σ.H H' ρ o o')
  (hinj:∀ id id',(H' id).isSome=true→(H' id').isSome=true→ρ id=ρ id'→id=id') (hpin:(H' 0).isSome=true→ρ 0=0) (htop:∀ id,n'≤id→H' id=none) (hn:n'≠0):Wk σ ⟨fV sl,H',n'⟩ ρ:=by
 refine⟨htop,fun t=>?_,hblk,hinj,hpin,fun h=>absurd h hn⟩
 show Sub _ _ _ _ (fV sl t)
 rcases sT sl t with h|⟨p,hp,rfl,h⟩
 ·rw[h];exact qG _
 ·rw[h];exact lJ hslot _ hp
theorem bKt{G:Ctx}{fn:Func}{σ:St}{a:Act}{w:World}{ad:Tmp}{t:TypeId}{av:AV}{F:Nat→Prop}{ι:Nat→Option Nat}(hR:HR G F w ι aW σ.H)(hV:∀ t,V F w ι (σ.Γ t) (a.tmps.getD t undef))(hres:fn.results.toList=[.cell ad t])(h:jV P σ (.cell ad t)=some av) :
  ∃ v,aH P (results fn a.tmps) w=.ok v w∧V F w ι av v:=by
 have hx:∃ v,aH P (do loadVar t (←asAddr (a.tmps.getD ad undef)):Sem Value) w=.ok v w∧V F w ι av v:=by
  simp only[jV]at h
  obtain⟨u,hu,hv⟩:=aFw (P:=P) hR (fun _ _ h=>h) h (hV ad)
  refine⟨u,?_,hv⟩
  simp only[EW]at hu
  generalize a.tmps.getD ad undef=p at hu ⊢
  cases p with
  | pointer q=>cases q with
   |some q=>simpa[Cp,asAddr]using hu
   |none=>simp[Cp]at hu
  |_=>simp[Cp]at hu
 obtain⟨v,h1,h2⟩:=hx
 refine⟨v,?_,h2⟩
 have h1':aH P ([ResultVar.cell ad t].mapM (m:=Sem) fun|.tmp t=>pure (a.tmps.getD t undef)|.cell ad t=>do loadVar t (←asAddr (a.tmps.getD ad undef))) w=.ok [v] w:=by
  simp only[Ce,GA,Sem.run_bind,h1,AH,Sem.run_pure]
 simp only[results,D5,Sem.run_bind,Sem.run_map,hres]
 erw [h1']
 simp
def iZ(v:Nat→AV)(hs:Nat→List HO)(m:Nat):St:=⟨upd (fun _=>.any) 0 (v m),gF (fun _=>none) m (hs m),m+(hs m).length⟩
end Go.Am
end
section
open List renaming map_map→ζ,mapM_map→ξ
namespace Go.Am
variable {P:Program} [M:Mch P]
def nV:List Value→Bool
 |[]=>true
 |v::l=>v.oneCell'&&nV l
theorem aPt:nV []=true:=rfl
theorem aLd(v:Value)(l:List Value):nV (v::l)=(v.oneCell'&&nV l):=rfl
theorem vV(a:Array Value):a.all Co=nV a.toList:=by
 rw[←Array.all_toList]
 generalize a.toList=l
 induction l with
 |nil=>rfl
 |cons v l ih=>simp only[List.all_cons,nV,ih]
section
variable (Γ:Nat→AV) (n:Nat)
theorem bMs(x:Operand):nev P (.move x) Γ n=some (oev Γ x,none):=rfl
theorem aVa(x:Operand):nev P (.assign x) Γ n=some (oev Γ x,none):=rfl
theorem bMr(c a b:Operand):nev P (.pick c a b) Γ n=cT ((uH (oev Γ c)).map fun t=>if t then oev Γ a else oev Γ b):=rfl
theorem bCj(e:TypeId):nev P (.alloc e) Γ n=(tz P e).map fun z=>(.ptr n 0,some (.cells e (z.cells.toList.map cv1))):=rfl
theorem bUh(e:TypeId)(x:Operand):nev P (.box e x) Γ n=(dF (oev Γ x)).map fun cs=>(.ptr n 0,some (.cells e cs)):=rfl
theorem bCh(t : TypeId)(ps : List (Nat×Operand)) : nev P (.build t ps.toArray) Γ n = cT ((tz P t).bind fun z => (plc P t).bind fun pl => if nV z.cells.toList then
      (kW pl (z.cells.toList.map cv1) (ps.map fun p=>(p.1,oev Γ p.2))).map .ag else none):=by
 simp only[nev,vV]
theorem bMc(t:TypeId):plc P t=match fE P t with
 |some fl=>some (fl[·]?)
 |none=>(yI P t).bind fun p=>(tsz P p.2).map fun sz=>fun i=>some (i*sz,sz):=rfl
theorem aBr(t : TypeId)(len : Nat)(ps : List (Nat×Operand)) : nev P (.buildSlice t len ps.toArray) Γ n = (tel P t).bind fun e => (tsz P e).bind fun sz => (tz P e).bind fun z =>
      if z.cells.toList.length=sz∧0<sz∧len*sz≤16777216∧nV z.cells.toList=true then
        (kW (fun i=>some (i*sz,sz)) ((As len (z.cells.toList.map cv1)).flatten) (ps.map fun p=>(p.1,oev Γ p.2))).map fun cs=>(.own n 0 len sz,some (.cells e cs))
      else none:=by
 simp only[nev,vV,BA]
theorem aFn(t : TypeId)(l c : Operand) : nev P (.makeSlice t l c) Γ n = (tel P t).bind fun e => (tsz P e).bind fun sz => (tz P e).bind fun z => (tby P e).bind fun by_ => (eM (oev Γ l)).bind fun a => (eM (oev Γ c)).bind fun b =>
      if z.cells.toList.length=sz∧0<sz∧nV z.cells.toList=true∧0≤a∧a≤b∧(by_:Int)*b≤281474976710656∧b≤9223372036854775807 then
        some (.own n 0 a.toNat sz,some (.cells e (As a.toNat (z.cells.toList.map cv1)).flatten))
      else none:=by
 simp only[nev,vV,BA]
theorem bCi(op:BinOp)(t:TypeId)(x y:Operand)(u:TypeId):nev P (.binOp op t x y u) Γ n=cT (match aVc op (tel P t) (oev Γ x) (oev Γ y)with|some r=>some r|none=>match dK op (bI P t) (oev Γ x) (oev Γ y)with|some r=>some (.d r)|none=>match bHj op (tai P t) (oev Γ x) (oev Γ y)with|some r=>some (.d r)|none=>(aXe op (tst P t) (oev Γ x) (oev Γ y)).map .d):=rfl
theorem aJg(x:Operand):nev P (.nilCheck x) Γ n=cT (bGi (oev Γ x)):=rfl
theorem bGh(id o:Nat):bGi (.ptr id o)=some (.ptr id o):=rfl
theorem bPw(cs:List D):bGi (.fp cs)=some (.fp cs):=rfl
theorem bMq(op:UnOp)(t:TypeId)(x:Operand):nev P (.unOp op t x) Γ n=cT ((unA op (oev Γ x)).map .d):=rfl
theorem aNs(s t:TypeId)(x:Operand):nev P (.convert s t x) Γ n=cT ((eQ P t).bind fun k=>(eM (oev Γ x)).bind fun m=>if(P.underlying s).isSome then some (.d (.i k (k.wrap m)))else none):=rfl
theorem aFp(s:TypeId)(x:Operand)(f:Nat):nev P (.fieldAddr s x f) Γ n=cT ((fE P s).bind fun fl=>(fl[f]?).bind fun p=>if p.2=0 then none else vQ p.1 (oev Γ x)):=rfl
theorem aFo(t : TypeId)(x i : Operand) : nev P (.indexAddr t x i) Γ n = cT ((eM (oev Γ i)).bind fun k => match tel P t with
      |some e=>(tsz P e).bind fun sz=>rX sz k (oev Γ x)
      |none=>(yI P t).bind fun p=>(tsz P p.2).bind fun sz=>vK sz p.1 k (oev Γ x)):=rfl
theorem aNr(x:Operand)(i:Nat):nev P (.extract x i) Γ n=cT ((aTf (oev Γ x)).bind fun vs=>vs[i]?):=rfl
theorem bCe(t : TypeId)(x : Operand)(lo hi mx : Option Operand) : nev P (.slice t x lo hi mx) Γ n = cT ((tel P t).bind fun e => (tsz P e).bind fun sz => (aBt (oev Γ x)).bind fun n => (aIw lo Γ 0).bind fun l => (aIw hi Γ n).bind fun h =>
      match mx with
      |none=>jS sz (oev Γ x) l h false
      |some y=>(eM (oev Γ y)).bind fun m=>if m=h∧hi.isSome then jS sz (oev Γ x) l h true else none):=rfl
theorem bUg(x:Operand)(t:TypeId):nev P (.call ⟨.builtin .len,#[x],#[t]⟩) Γ n=cT ((tel P t).bind fun _=>(aBt (oev Γ x)).map fun n=>.d (.i .i64 n)):=rfl
def bXq:AV→AV→Option AV
 |.d (.i k a),.d (.i _ b)=>some (.d (.i k (if b>a then b else a)))
 |_,_=>none
def bXp:AV→AV→Option AV
 |.d (.i k a),.d (.i _ b)=>some (.d (.i k (if b<a then b else a)))
 |_,_=>none
theorem bUq(k k':IntKind)(a b:Int):bXq (.d (.i k a)) (.d (.i k' b))=some (.d (.i k (if b>a then b else a))):=rfl
theorem bUo(k k':IntKind)(a b:Int):bXp (.d (.i k a)) (.d (.i k' b))=some (.d (.i k (if b<a then b else a))):=rfl
theorem bUf(x y:Operand)(ts:Array TypeId):nev P (.call ⟨.builtin .max,#[x,y],ts⟩) Γ n=cT (bXq (oev Γ x) (oev Γ y)):=rfl
theorem bUe(x y:Operand)(ts:Array TypeId):nev P (.call ⟨.builtin .min,#[x,y],ts⟩) Γ n=cT (bXp (oev Γ x) (oev Γ y)):=rfl
theorem bCg(s:TypeId)(x:Operand)(f:Nat):nev P (.field s x f) Γ n=cT ((bSp P s f).bind fun p=>(vX (oev Γ x)).bind fun cs=>if p.2.1 then(if p.1+p.2.2≤cs.length then some (.ag ((cs.drop p.1).take p.2.2))else none)else cs[p.1]?):=rfl
theorem aNq(t:TypeId)(r:Option Operand):nev P (.makeMap t r) Γ n=(tmp P t).bind fun p=>(eQ P p.1).bind fun k=>(match r with|none=>some 0|some x=>eM (oev Γ x)).map fun _=>(.mp n,some (.map k [])):=rfl
end
theorem bNh(H:Hp)(ds:List D):(ds.map AV.d).mapM (frz H 7)=some ds:=zK H 6 ds
theorem bNi(H:Hp)(ds:List D):(ds.map AV.d).mapM (frz H 6)=some ds:=zK H 5 ds
theorem bPt(sz:Nat)(l:List D):chunk sz 0 l=[]:=rfl
theorem bPs(sz:Nat)(l:List D):chunk sz 1 l=[l.take sz]:=by simp[chunk,FP]
theorem bPr(sz:Nat)(l:List D):chunk sz 2 l=[l.take sz,(l.drop sz).take sz]:=by simp[chunk,FP]
theorem bDm(H:Hp)(avs:List AV)(l:List D):aX H avs (.ag l)=bT H avs:=rfl
theorem bNt(H:Hp)(avs:List AV)(x:Bool):aX H avs (.b x)=[]:=rfl
theorem bNs(H:Hp)(avs:List AV)(k:IntKind)(n:Int):aX H avs (.i k n)=[]:=rfl
theorem bDi(H:Hp)(avs:List AV)(l:List D):aX H avs (.tp l)=if l.all wL then[]else bT H avs:=rfl
theorem bDj(H:Hp)(avs:List AV)(l:List (List D)):aX H avs (.sl l)=bT H avs:=rfl
theorem aHf(H:Hp):bT H []=[]:=rfl
theorem aCe(H:Hp)(a:AV)(l:List AV):bT H (a::l)=vis H 8 a++bT H l:=rfl
theorem aYm(H:Hp)(n:Nat)(x:D):vis H n (.d x)=[]:=by cases n<;>rfl
theorem bJh(H:Hp)(n:Nat):vis H n .nil=[]:=by cases n<;>rfl
theorem bSk(H:Hp)(n:Nat)(x:List (List D)):vis H n (.fd x)=[]:=by cases n<;>rfl
theorem bSl(H:Hp)(n:Nat)(cs:List AV):vis H (n+1) (.ag cs)=cs.flatMap (vis H n):=rfl
theorem aYl(H:Hp)(n:Nat)(ds:List D):(ds.map AV.d).flatMap (vis H n)=[]:=by
 induction ds with
 |nil=>rfl
 |cons d ds ih=>rw[BO,List.flatMap_cons,ih,aYm];rfl
def bJk(H:Hp)(n id off len sz:Nat)(ho:Option HO):List Nat:=match ho with
 |some (.cells _ cs)=>id::((cs.drop (off*sz)).take (len*sz)).flatMap (vis H n)
 |_=>[]
theorem bJg(H:Hp)(n id off len sz:Nat):vis H (n+1) (.own id off len sz)=bJk H n id off len sz (H id):=rfl
theorem aLy(H:Hp)(n id off len sz:Nat)(e:TypeId)(cs:List AV):bJk H n id off len sz (some (.cells e cs))=id::((cs.drop (off*sz)).take (len*sz)).flatMap (vis H n):=rfl
theorem bDh(c:AV)(cells:List AV)(off:Nat)(cs:List AV):lay (c::cells) off cs=(c::cells).take off++cs++(c::cells).drop (off+cs.length):=rfl
theorem aNh(v:AV):cT (some v)=some (v,none):=rfl
theorem bYo(sl:List (Nat×AV))(o0:Option HO)(hs:List HO):(StL sl o0 hs).Γ=fV sl:=rfl
theorem bYq(sl:List (Nat×AV))(hs:List HO):(StL sl none hs).H=xB 1 hs:=rfl
theorem bVw(sl:List (Nat×AV))(o:HO)(hs:List HO):(StL sl (some o) hs).H=upd (xB 1 hs) 0 (some o):=rfl
theorem bYp(sl:List (Nat×AV))(o0:Option HO)(hs:List HO):(StL sl o0 hs).n=hs.length+1:=rfl
theorem bKg(p:Nat×AV)(l:List (Nat×AV))(t:Nat):fV (p::l) t=if t=p.1 then p.2 else fV l t:=rfl
theorem aZp(t:Nat):fV [] t=.any:=rfl
theorem bQb(i:Nat)(o:HO)(os:List HO)(j:Nat):xB i (o::os) j=if j=i then some o else xB (i+1) os j:=rfl
theorem bGo(i j:Nat):xB i [] j=none:=rfl
theorem aFl(Γ:Nat→AV)(t:Nat):oev Γ (.tmp t)=Γ t:=rfl
theorem bXc(Γ:Nat→AV)(k:IntKind)(n:Int):oev Γ (.const (.int k n))=.d (.i k n):=rfl
theorem bXd(Γ:Nat→AV)(x:Bool):oev Γ (.const (.bool x))=.d (.b x):=rfl
theorem bMo(Γ:Nat→AV):oev Γ (.const (.slice none 0 0))=.nil:=rfl
theorem bMp(Γ:Nat→AV)(cs:Array Value):oev Γ (.const (.agg cs))=.ag (cs.toList.map cv1):=rfl
theorem bYj(k:IntKind)(n:Int):cv1 (.int k n)=.d (.i k n):=rfl
theorem bYk(x:Bool):cv1 (.bool x)=.d (.b x):=rfl
theorem bPp:cv1 (.slice none 0 0)=.nil:=rfl
theorem aWq(cs:Array Value):Er (.agg cs)=cs:=rfl
theorem bPx(k:IntKind)(n:Int):Er (.int k n)=#[.int k n]:=rfl
theorem bPy(x:Bool):Er (.bool x)=#[.bool x]:=rfl
theorem bGl(a:Option Addr)(n c:Nat):Er (.slice a n c)=#[.slice a n c]:=rfl
theorem bUc(k:IntKind)(n:Int):Co (.int k n)=true:=rfl
theorem bUd(x:Bool):Co (.bool x)=true:=rfl
theorem bMk(a:Option Addr)(n c:Nat):Co (.slice a n c)=true:=rfl
theorem bUb(x:Bool):one (.d (.b x))=true:=rfl
theorem bUa(k:IntKind)(n:Int):one (.d (.i k n))=true:=rfl
theorem bMj(l:List (List D)):one (.d (.sl l))=true:=rfl
theorem bMi:one .nil=true:=rfl
theorem bMh(a b c d:Nat):one (.own a b c d)=true:=rfl
theorem bMg(a b:Nat):one (.ptr a b)=true:=rfl
theorem bTx(a:Nat):one (.mp a)=true:=rfl
theorem bTz(l:List (List D)):one (.fd l)=true:=rfl
theorem bTy(l:List D):one (.fp l)=true:=rfl
theorem aWv(x:Bool):dF (.d (.b x))=some [.d (.b x)]:=rfl
theorem aWu(k:IntKind)(n:Int):dF (.d (.i k n))=some [.d (.i k n)]:=rfl
theorem aPg(l:List (List D)):dF (.d (.sl l))=some [.d (.sl l)]:=rfl
theorem aPf:dF .nil=some [.nil]:=rfl
theorem aPe(a b c d:Nat):dF (.own a b c d)=some [.own a b c d]:=rfl
theorem aPd(a b:Nat):dF (.ptr a b)=some [.ptr a b]:=rfl
theorem aWr(a:Nat):dF (.mp a)=some [.mp a]:=rfl
theorem aWt(l:List (List D)):dF (.fd l)=some [.fd l]:=rfl
theorem aWw(cs:List AV):dF (.ag cs)=if cs.all one then some cs else none:=rfl
theorem aPi(cs:List D):dF (.d (.ag cs))=if(cs.map AV.d).all one then some (cs.map .d)else none:=rfl
theorem bQh(cs:List AV):vX (.ag cs)=some cs:=rfl
theorem bHp(cs:List D):vX (.d (.ag cs))=some (cs.map .d):=rfl
theorem bJr(cs:List AV):aTf (.tp cs)=some cs:=rfl
theorem aYt(cs:List D):aTf (.d (.tp cs))=some (cs.map .d):=rfl
theorem bDy(k:IntKind)(n:Int):eM (.d (.i k n))=some n:=rfl
theorem aWz(x:Bool):uH (.d (.b x))=some x:=rfl
theorem aUw(Γ:Nat→AV)(n:Int):aIw none Γ n=some n:=rfl
theorem aUv(Γ:Nat→AV)(x:Operand)(n:Int):aIw (some x) Γ n=eM (oev Γ x):=rfl
theorem bDe(l:List (List D)):aBt (.d (.sl l))=some (l.length:Int):=rfl
theorem bNp(l:List (List D)):aBt (.fd l)=some (l.length:Int):=rfl
theorem bDd:aBt .nil=some 0:=rfl
theorem bDc(a b c d:Nat):aBt (.own a b c d)=some (c:Int):=rfl
theorem aOr(off id o:Nat):vQ off (.ptr id o)=some (.ptr id (o+off)):=rfl
theorem aWb(off:Nat)(cs:List D):vQ off (.fp cs)=some (.fp (cs.drop off)):=rfl
theorem aOg(sz:Nat)(k:Int)(els:List (List D)):rX sz k (.d (.sl els))=if 0≤k then(els[k.toNat]?).bind fun cs=>if cs.length=sz then some (.fp cs)else none else none:=rfl
theorem aVr(sz:Nat)(k:Int)(els:List (List D)):rX sz k (.fd els)=if 0≤k then(els[k.toNat]?).bind fun cs=>if cs.length=sz then some (.fp cs)else none else none:=rfl
theorem aOf(sz:Nat)(k:Int)(id off len sz':Nat):rX sz k (.own id off len sz')=if 0≤k∧k<len∧sz'=sz then some (.ptr id ((off+k.toNat)*sz))else none:=rfl
theorem aOh(sz m:Nat)(k:Int)(id o:Nat):vK sz m k (.ptr id o)=if 0≤k∧k<m then some (.ptr id (o+k.toNat*sz))else none:=rfl
theorem aVs(sz m:Nat)(k:Int)(cs:List D):vK sz m k (.fp cs)=if 0≤k∧k<m then some (.fp (cs.drop (k.toNat*sz)))else none:=rfl
theorem bVq(op:BinOp)(x y:Bool):dK op true (.d (.b x)) (.d (.b y))=match op with|.eql=>some (.b (x==y))|.neq=>some (.b (!(x==y)))|_=>none:=rfl
theorem bHd(t:Bool)(k:IntKind)(a b:Int):dK .add t (.d (.i k a)) (.d (.i k b))=some (.i k (k.wrap (a+b))):=by simp[dK,arith]
theorem bGr(t:Bool)(k:IntKind)(a b:Int):dK .sub t (.d (.i k a)) (.d (.i k b))=some (.i k (k.wrap (a-b))):=by simp[dK,arith]
theorem bGx(t:Bool)(k:IntKind)(a b:Int):dK .mul t (.d (.i k a)) (.d (.i k b))=some (.i k (k.wrap (a*b))):=by simp[dK,arith]
theorem bGv(t:Bool)(k:IntKind)(a b:Int):dK .quo t (.d (.i k a)) (.d (.i k b))=if b=0 then none else some (.i k (k.wrap (a.tdiv b))):=by simp[dK,arith]
theorem bGu(t:Bool)(k:IntKind)(a b:Int):dK .rem t (.d (.i k a)) (.d (.i k b))=if b=0 then none else some (.i k (a.tmod b)):=by simp[dK,arith]
theorem bHc(t:Bool)(k:IntKind)(a b:Int):dK .eql t (.d (.i k a)) (.d (.i k b))=some (.b (a==b)):=by simp[dK,arith]
theorem bGw(t:Bool)(k:IntKind)(a b:Int):dK .neq t (.d (.i k a)) (.d (.i k b))=some (.b (a != b)):=by simp[dK,arith]
theorem bGy(t:Bool)(k:IntKind)(a b:Int):dK .lss t (.d (.i k a)) (.d (.i k b))=some (.b (decide (a<b))):=by simp[dK,arith]
theorem bGz(t:Bool)(k:IntKind)(a b:Int):dK .leq t (.d (.i k a)) (.d (.i k b))=some (.b (decide (a≤b))):=by simp[dK,arith]
theorem bHa(t:Bool)(k:IntKind)(a b:Int):dK .gtr t (.d (.i k a)) (.d (.i k b))=some (.b (decide (b<a))):=by simp[dK,arith]
theorem bHb(t:Bool)(k:IntKind)(a b:Int):dK .geq t (.d (.i k a)) (.d (.i k b))=some (.b (decide (b≤a))):=by simp[dK,arith]
theorem bGt(t:Bool)(k k':IntKind)(a b:Int):dK .shl t (.d (.i k a)) (.d (.i k' b))=fJ .shl k a b:=by simp[dK]
theorem bGs(t:Bool)(k k':IntKind)(a b:Int):dK .shr t (.d (.i k a)) (.d (.i k' b))=fJ .shr k a b:=by simp[dK]
theorem aXb(op:BinOp)(t:Bool)(x:AV):dK op t x .nil=none:=by unfold dK;split<;>simp_all
theorem bJo(p:Bool):unA .not (.d (.b p))=some (.b !p):=rfl
theorem bJp(k:IntKind)(a:Int):unA .neg (.d (.i k a))=some (.i k (k.wrap (0-a))):=rfl
theorem aVb(op:BinOp)(x y:AV):aVc op none x y=none:=rfl
theorem bCk(op:BinOp)(e:TypeId)(x:AV):aVc op (some e) x .nil=(zO x).bind (bMt op):=rfl
theorem bUz(x:Bool):aL (.b x)=.d (.b x):=rfl
theorem bUy(k:IntKind)(n:Int):aL (.i k n)=.d (.i k n):=rfl
theorem bOa(l:List (List D)):aL (.sl l)=.d (.sl l):=rfl
theorem bOd(l:List D):aL (.ag l)=.ag (l.map .d):=rfl
theorem bYa(x:Bool):inj (.b x)=.d (.b x):=rfl
theorem bXz(k:IntKind)(n:Int):inj (.i k n)=.d (.i k n):=rfl
theorem bUv(l:List (List D)):inj (.sl l)=.d (.sl l):=rfl
theorem bUx(l:List D):inj (.ag l)=.ag (l.map .d):=rfl
theorem bUu(l:List D):inj (.tp l)=.tp (l.map aL):=rfl
theorem bKn(l:List Nat)(x:D):jD l (.d x)=.d x:=rfl
theorem aTs(l:List Nat):jD l .nil=.nil:=rfl
theorem bAa(l:List Nat):jD l .un=.un:=rfl
theorem aTt(l:List Nat):jD l .any=.any:=rfl
theorem aTr(l:List Nat)(a b c d:Nat):jD l (.own a b c d)=if a∈l then .any else .own a b c d:=rfl
theorem aTq(l:List Nat)(a b:Nat):jD l (.ptr a b)=if a∈l then .any else .ptr a b:=rfl
theorem bAc(l:List Nat)(a:Nat):jD l (.mp a)=if a∈l then .any else .mp a:=rfl
theorem bAd(l:List Nat)(c:List D):jD l (.fp c)=.fp c:=rfl
theorem bAf(l:List Nat)(c:List (List D)):jD l (.fd c)=.fd c:=rfl
theorem bAg(l:List Nat)(c:List AV):jD l (.ag c)=.ag (c.map (dS l)):=rfl
theorem bAb(l:List Nat)(c:List AV):jD l (.tp c)=.tp (c.map (yS l)):=rfl
theorem bAh(l:List Nat)(x:D):dS l (.d x)=.d x:=rfl
theorem aMt(l:List Nat):dS l .nil=.nil:=rfl
theorem aTu(l:List Nat):dS l .un=.un:=rfl
theorem aMu(l:List Nat):dS l .any=.any:=rfl
theorem aMs(l:List Nat)(a b c d:Nat):dS l (.own a b c d)=if a∈l then .any else .own a b c d:=rfl
theorem aMr(l:List Nat)(a b:Nat):dS l (.ptr a b)=if a∈l then .any else .ptr a b:=rfl
theorem sV(l:List Nat)(e:TypeId)(cs:List AV):gY l (.cells e cs)=.cells e (cs.map (dS l)):=rfl
theorem aHq(l:List Nat)(e:TypeId)(ds:List D):gY l (.cells e (ds.map .d))=.cells e (ds.map .d):=by rw[sV,aCi]
theorem aZc(H:Hp)(sz:Nat):aBj H sz .nil=some (0,[]):=rfl
theorem aZd(H:Hp)(sz:Nat)(els:List (List D)):aBj H sz (.d (.sl els))=if fD sz els=true∧(els.flatten.map AV.d).all one=true then some (els.length,els.flatten.map .d)else none:=rfl
theorem bJy(H:Hp)(sz:Nat)(els:List (List D)):aBj H sz (.fd els)=if fD sz els=true∧(els.flatten.map AV.d).all one=true then some (els.length,els.flatten.map .d)else none:=rfl
def aZa(ho:Option HO)(sz off len sz':Nat):Option (Nat×List AV):=match ho with
  |some (.cells _ cs)=>if sz'=sz∧(off+len)*sz≤cs.length∧((cs.drop (off*sz)).take (len*sz)).all one=true then some (len,(cs.drop (off*sz)).take (len*sz))else none
  |_=>none
theorem aZb(H:Hp)(sz id off len sz':Nat):aBj H sz (.own id off len sz')=aZa (H id) sz off len sz':=rfl
theorem aEp(e:TypeId)(cs:List AV)(sz off len sz':Nat):aZa (some (.cells e cs)) sz off len sz'=if sz'=sz∧(off+len)*sz≤cs.length∧((cs.drop (off*sz)).take (len*sz)).all one=true then some (len,(cs.drop (off*sz)).take (len*sz))else none:=rfl
theorem aNo(sz:Nat):fD sz []=true:=rfl
theorem aIz(sz:Nat)(a:List D)(l:List (List D)):fD sz (a::l)=(a.length==sz):=rfl
def bHm(e : TypeId)(sz bt n : Nat)(s : AV)(ho : Option HO)(p : Nat×List AV) : Option (AV×Option HO×List Nat) := match s with
      |.nil=>if p.1=0 then some (.nil,none,[])else if p.1*bt≤140737488355328∧p.1≤maxLen then some (.own n 0 p.1 sz,some (.cells e p.2),[])else none
      | .own id off len sz'=>match ho with
        | some (.cells e' cs)=>if off=0∧sz'=sz∧e'=e∧cs.length=len*sz∧(len+p.1)*bt≤140737488355328∧len+p.1≤maxLen then
            some (.own n 0 (len+p.1) sz,some (.cells e (cs++p.2)),[id])else none
        |_=>none
      | .fd els => if 0 < p.1 ∧ fD sz els = true ∧ (els.flatten.map AV.d).all one = true ∧ (els.length + p.1)*bt ≤ 140737488355328 ∧ els.length + p.1 ≤ maxLen then
            some (.own n 0 (els.length+p.1) sz,some (.cells e (els.flatten.map .d++p.2)),[])else if p.1=0 then some (.fd els,none,[])else none
      |_=>none
def aQx:AV→Nat
 |.own id _ _ _=>id
 |_=>0
theorem bHn(H:Hp)(t:TypeId)(s x:AV)(n:Nat):aBw P H t s x n=(tel P t).bind fun e=>(tsz P e).bind fun sz=>(tby P e).bind fun bt=>(tz P e).bind fun z=>(aBj H sz x).bind fun p =>
  if z.cells.size=sz∧0<sz then bHm e sz bt n s (H (aQx s)) p else none:=by
 unfold aBw
 congr;funext e;congr;funext sz;congr;funext bt;congr;funext z;congr;funext p
 split
 ·cases s<;>rfl
 ·rfl
theorem aUt(a b c d:Nat):aQx (.own a b c d)=a:=rfl
theorem aUu:aQx .nil=0:=rfl
theorem bBq(l:List (List D)):aQx (.fd l)=0:=rfl
theorem bQf(e : TypeId)(sz bt n : Nat)(ho : Option HO)(els : List (List D))(m : Nat)(cs : List AV) : bHm e sz bt n (.fd els) ho (m, cs) = if 0 < m ∧ fD sz els = true ∧ (els.flatten.map AV.d).all one = true ∧ (els.length + m)*bt ≤ 140737488355328 ∧ els.length + m ≤ maxLen then
            some (.own n 0 (els.length+m) sz,some (.cells e (els.flatten.map .d++cs)),[])else if m=0 then some (.fd els,none,[])else none:=rfl
theorem bHl(e:TypeId)(sz bt n:Nat)(ho:Option HO)(m:Nat)(cs:List AV):bHm e sz bt n .nil ho (m,cs)=if m=0 then some (.nil,none,[])else if m*bt≤140737488355328∧m≤maxLen then some (.own n 0 m sz,some (.cells e cs),[])else none:=rfl
theorem bHk(e e' : TypeId)(sz bt n id off len sz' : Nat)(cs : List AV)(m : Nat)(ds : List AV) : bHm e sz bt n (.own id off len sz') (some (.cells e' cs)) (m, ds) = if off = 0 ∧ sz' = sz ∧ e' = e ∧ cs.length = len*sz ∧ (len + m)*bt ≤ 140737488355328 ∧ len + m ≤ maxLen then
            some (.own n 0 (len+m) sz,some (.cells e (cs++ds)),[id])else none:=rfl
def ldC(ag:Bool)(sz:Option Nat)(off:Nat)(ho:Option HO):Option AV:=match ho with
  |some (.cells _ cs)=>if ag then sz.bind fun sz=>if off+sz≤cs.length then some (.ag ((cs.drop off).take sz))else none else cs[off]?
  |_=>none
theorem aVl(H:Hp)(t:TypeId)(id off:Nat):tM P H t (.ptr id off)=(cB P t).bind fun ag=>ldC ag (tsz P t) off (H id):=rfl
theorem aVo(ag:Bool)(sz:Option Nat)(off:Nat)(e:TypeId)(cs:List AV):ldC ag sz off (some (.cells e cs))=if ag then sz.bind fun sz=>if off+sz≤cs.length then some (.ag ((cs.drop off).take sz))else none else cs[off]? := rfl
theorem bCv(H:Hp)(t:TypeId)(cs:List D):tM P H t (.fp cs)=(cB P t).bind fun ag=>if ag then(tsz P t).bind fun sz=>if sz≤cs.length then some (.ag ((cs.take sz).map .d))else none else(cs[0]?).map .d:=rfl
def stC(id off:Nat)(sz:Option Nat)(vs:Option (List AV))(ho:Option HO):Option (Nat×HO):=match ho with
  |some (.cells e cs)=>vs.bind fun vs=>sz.bind fun sz=>if vs.length=sz∧off+sz≤cs.length then some (id,.cells e (lay cs off vs))else none
  |_=>none
theorem aMi(H:Hp)(t:TypeId)(id off:Nat)(x:AV):nB P H t (.ptr id off) x=stC id off (tsz P t) (dF x) (H id):=rfl
theorem aTk(id off:Nat)(sz:Option Nat)(vs:Option (List AV))(e:TypeId)(cs:List AV):stC id off sz vs (some (.cells e cs))=vs.bind fun vs=>sz.bind fun sz=>if vs.length=sz∧off+sz≤cs.length then some (id,.cells e (lay cs off vs))else none:=rfl
theorem bEr(H:Hp)(n id off len sz:Nat):frz H (n+1) (.own id off len sz)=match H id with
  |some (.cells _ cs)=>if(off+len)*sz≤cs.length∧0<sz then(((cs.drop (off*sz)).take (len*sz)).mapM (frz H n)).map fun l=>.sl (chunk sz len l)else none
  |_=>none:=rfl
theorem bBb(σ:St)(t:Nat):jV P σ (.tmp t)=some (σ.Γ t):=rfl
theorem aUd(σ:St)(ad t:Nat):jV P σ (.cell ad t)=tM P σ.H t (σ.Γ ad):=rfl
theorem bBa(x:ResultVar)(σ:St):iY P [x] σ=(jV P σ x).bind fun av=>frz σ.H 8 av:=by
 unfold iY
 simp only[Ce,GA,DO,CU]
 cases jV P σ x with
 |none=>rfl
 | some av =>
  simp only[Option.bind_some,cI,Ce,GA,DO,CU]
  cases frz σ.H 8 av<;>rfl
theorem bDo(H:Hp):kill [] H=H:=rfl
theorem bDn(a:Nat)(H:Hp):kill [a] H=fun id=>if id=a then none else H id:=by funext id;simp[kill]
theorem aXh(H:Hp)(n:Nat):fZ H n none=H:=rfl
theorem aXg(H:Hp)(n:Nat)(o:HO):fZ H n (some o)=upd H n (some o):=rfl
theorem bGc(n:Nat):cnt none n=n:=rfl
theorem bGb(n:Nat)(o:HO):cnt (some o) n=n+1:=rfl
theorem aUm(Γ:Nat→AV)(d:Nat)(v:AV):bE Γ (some d) v=upd Γ d v:=rfl
theorem aUn(Γ:Nat→AV)(v:AV):bE Γ none v=Γ:=rfl
theorem aMa{α:Type}(f:Nat→α)(k j:Nat)(x:α):upd f k x j=if j=k then x else f j:=rfl
theorem aWa(place:Nat→Option (Nat×Nat))(cells:List AV):kW place cells []=some cells:=rfl
def bRi(place:Nat→Option (Nat×Nat))(cells:List AV)(pl:Option (Nat×Nat))(cs:Option (List AV))(rest:List (Nat×AV)):Option (List AV):=match pl,cs with
 |some (off,size),some cs=>if cs.length=size∧off+cs.length≤cells.length then kW place (lay cells off cs) rest else none
 |_,_=>none
theorem aOq(place:Nat→Option (Nat×Nat))(cells:List AV)(i:Nat)(x:AV)(rest:List (Nat×AV)):kW place cells ((i,x)::rest)=bRi place cells (place i) (dF x) rest:=rfl
theorem aOo(place:Nat→Option (Nat×Nat))(cells:List AV)(off size:Nat)(cs:List AV)(rest:List (Nat×AV)):bRi place cells (some (off,size)) (some cs) rest=if cs.length=size∧off+cs.length≤cells.length then kW place (lay cells off cs) rest else none:=rfl
theorem aMo(sz:Nat)(els:List (List D))(l h:Int)(full:Bool):jS sz (.d (.sl els)) l h full=if 0≤l∧l≤h then if h≤els.length∧fD sz els=true then some (if full then .fd ((els.take h.toNat).drop l.toNat)else .d (.sl ((els.take h.toNat).drop l.toNat)))else none else none:=rfl
theorem aTo(sz:Nat)(els:List (List D))(l h:Int)(full:Bool):jS sz (.fd els) l h full=if 0≤l∧l≤h then if h≤els.length∧fD sz els=true then some (if full then .fd ((els.take h.toNat).drop l.toNat)else .d (.sl ((els.take h.toNat).drop l.toNat)))else none else none:=rfl
theorem aEg(ops:Array Oper)(dst:Option Tmp)(op:Op)(ty:TypeId)(pos:String)(after:Array Edge)(j:Nat)(w:Bool)(Γ:Nat→AV):cR ops ⟨dst,op,ty,pos,after,some (j,w)⟩ Γ =
  match(ops[j]?).bind (·.dst)with
  |none=>some false
  | some d=>match Γ d with
   |.d (.b x)=>some (x==w)
   |.un=>some false
   |_=>none:=rfl
theorem bRs(args:List D)(N t:Nat):Γ0 args N t=match args[t]? with|some d=>aL d|none=>.un:=by unfold Γ0;cases args[t]?<;>simp
theorem pC(m:List Nat)(f:Nat→D):fD 1 (m.map fun x=>[f x])=true:=by cases m<;>rfl
end Go.Am
end
section
open List renaming map_map→ζ,mapM_map→ξ
namespace Go.Am
def val:List Nat→Nat
 |[]=>0
 |x::l=>x+4294967296*val l
def Lim(l:List Nat):Prop:=∀ x∈l,x<4294967296
theorem Lim.nil:Lim []:=fun _ h=>by cases h
theorem Lim.cons{x:Nat}{l:List Nat}(h:x<4294967296)(k:Lim l):Lim (x::l):=fun y hy=>by
 rcases Bq.1 hy with rfl|hy
 ·exact h
 ·exact k y hy
theorem Lim.app{a b:List Nat}(h:Lim a)(k:Lim b):Lim (a++b):=fun y hy=>by
 rcases List.mem_append.1 hy with hy|hy
 ·exact h y hy
 ·exact k y hy
theorem Lim.one{x:Nat}(h:x<4294967296):Lim [x]:=.cons h .nil
theorem Lim.take{l:List Nat}(h:Lim l)(n:Nat):Lim (l.take n):=fun y hy=>h y (List.mem_of_mem_take hy)
theorem Lim.get{l:List Nat}(h:Lim l){i:Nat}(hi:i<l.length):l[i]<4294967296:=h _ (Bj hi)
theorem Lim.getD{l:List Nat}(h:Lim l)(i:Nat):l.getD i 0<4294967296:=by
 rw[Ac]
 rcases Az i l.length with hi|hi
 ·rw[Ab hi];exact h.get hi
 ·rw[AX hi];decide
theorem Lim.rep(n:Nat):Lim (As n 0):=fun y hy=>by rw[(List.mem_replicate.1 hy).2];decide
theorem Lim.set{l:List Nat}(h:Lim l)(i:Nat){x:Nat}(hx:x<4294967296):Lim (l.set i x):=fun y hy=>by
 rcases List.mem_or_eq_of_mem_set hy with hy|rfl
 ·exact h y hy
 ·exact hx
theorem jY(a b:List Nat):val (a++b)=val a+4294967296^a.length*val b:=by
 induction a with
 |nil=>simp[val]
 | cons x a ih =>
  simp only[DZ,val,ih,Aj,BH,Cd]
  rw[Nat.mul_comm (4294967296^a.length) 4294967296,Nat.mul_assoc]
  omega
theorem xH(n:Nat):val (As n 0)=0:=by
 induction n with
 |zero=>rfl
 |succ n ih=>simp[CF,val,ih]
theorem oO{l:List Nat}(h:Lim l):val l<4294967296^l.length:=by
 induction l with
 |nil=>simp[val]
 | cons x l ih =>
  have h1:=h x (AI ..)
  have h2:=ih fun y hy=>h y (AJ _ hy)
  simp only[val,Aj,BH]
  omega
theorem bW(l:List Nat)(i:Nat):val (l.take (i+1))=val (l.take i)+4294967296^i*l.getD i 0:=by
 rcases Az i l.length with hi|hi
 ·rw[List.take_add_one,Ab hi,jY,Be,Da (by omega),Ac,Ab hi]
  simp[val]
 ·rw[AG (by omega),AG (by omega),Ac,AX hi]
  simp
def aJ(n:Nat):List Nat:=if h:n=0 then[]else n%4294967296::aJ (n/4294967296)
termination_by n
decreasing_by omega
theorem cA:aJ 0=[]:=by rw[aJ];simp
theorem gT{n:Nat}(h:n≠0):aJ n=n%4294967296::aJ (n/4294967296):=by rw[aJ];simp[h]
theorem fQ{n:Nat}:aJ n=[]↔n=0:=by
 constructor
 ·intro h
  by_cases hn:n=0
  ·exact hn
  ·rw[gT hn]at h;cases h
 ·rintro rfl;exact cA
theorem aAg{p:Nat→Prop}(h0:p 0)(h1:∀ n,n≠0→p (n/4294967296)→p n):∀ n,p n:=fun n=>by
 induction n using Nat.strongRecOn with
 | _ n ih =>
  by_cases hn:n=0
  ·subst hn;exact h0
  ·exact h1 n hn (ih _ (by omega))
theorem cC(n:Nat):val (aJ n)=n:=by
 refine aAg (p:=fun n=>val (aJ n)=n) (by rw[cA];rfl) (fun n hn ih=>?_) n
 rw[gT hn,val,ih];omega
theorem bU(n:Nat):Lim (aJ n):=by
 refine aAg (p:=fun n=>Lim (aJ n)) (by rw[cA];exact .nil) (fun n hn ih=>?_) n
 rw[gT hn];exact .cons (by omega) ih
def lF(l:List Nat):Prop:=l.getLast? ≠ some 0
theorem kZ(n:Nat):lF (aJ n):=by
 refine aAg (p:=fun n=>lF (aJ n)) (by rw[cA];simp[lF]) (fun n hn ih=>?_) n
 rw[gT hn]
 by_cases h:n/4294967296=0
 ·rw[h,cA]
  simp only[lF,List.getLast?_singleton,ne_eq,At]
  omega
 ·unfold lF at ih ⊢
  rw[gT h]at ih ⊢
  simpa[GC]using ih
def strip:List Nat→List Nat
 |[]=>[]
 | x::l=>match strip l with
  |[]=>if x=0 then[]else[x]
  |l'=>x::l'
theorem fI{l:List Nat}(h:Lim l):strip l=aJ (val l):=by
 induction l with
 |nil=>rw[val,cA];rfl
 | cons x l ih =>
  have hx:=h x (AI ..)
  have hl:=ih fun y hy=>h y (AJ _ hy)
  simp only[strip,val]
  rw[hl]
  by_cases h0:val l=0
  ·rw[h0,cA]
   simp only[Nat.mul_zero,Nat.add_zero]
   by_cases hx0:x=0
   ·subst hx0;rw[cA];rfl
   ·rw[Ah hx0,gT hx0,Nat.mod_eq_of_lt hx,Nat.div_eq_of_lt hx,cA]
  ·rw[gT (n:=x+_) (by omega)]
   have e1:(x+4294967296*val l)%4294967296=x:=by omega
   have e2:(x+4294967296*val l)/4294967296=val l:=by omega
   rw[e1,e2]
   have:aJ (val l)≠[]:=fun e=>h0 (fQ.1 e)
   cases hd:aJ (val l)with
   |nil=>exact(this hd).elim
   |cons=>rfl
theorem yM(l:List Nat):strip (l++[0])=strip l:=by
 induction l with
 |nil=>rfl
 |cons x l ih=>simp only[DZ,strip,ih]
theorem oQ{l:List Nat}(h:lF l):strip l=l:=by
 induction l with
 |nil=>rfl
 | cons x l ih =>
  cases l with
  | nil =>
   have:x≠0:=by simpa[lF]using h
   simp[strip,this]
  | cons y l =>
   have h2:lF (y::l):=by simpa[lF,GC]using h
   have h3:=ih h2
   rw[strip,h3]
theorem bFp{l:List Nat}(h:Lim l)(hc:lF l):aJ (val l)=l:=by rw[←fI h,oQ hc]
theorem dI{n k:Nat}(h:n<4294967296^k):(aJ n).length≤k:=by
 induction k generalizing n with
 |zero=>simp at h;subst h;rw[cA];simp
 | succ k ih =>
  by_cases hn:n=0
  ·subst hn;rw[cA];simp
  ·rw[gT hn,Aj]
   have:n/4294967296<4294967296^k:=by rw[BH]at h;omega
   have:=ih this
   omega
theorem kQ{n k:Nat}(h:(aJ n).length≤k):n<4294967296^k:=by
 have h1:=oO (bU n)
 rw[cC]at h1
 exact Nat.lt_of_lt_of_le h1 (Nat.pow_le_pow_right (by decide) h)
theorem eD{a b:Nat}(h:a≤b):(aJ a).length≤(aJ b).length:=dI (Nat.lt_of_le_of_lt h (kQ (AA _)))
theorem fX{a b:Nat}(h:(aJ a).length<(aJ b).length):a<b:=by
 rcases Az a b with h'|h'
 ·exact h'
 ·have:=eD h';omega
theorem qE{a b:List Nat}(ha:Lim a){i:Nat}(hl:a.length=b.length)(hi:i<a.length)(hd:a.drop (i+1)=b.drop (i+1))(hlt:a.getD i 0<b.getD i 0):val a<val b:=by
 have e1:a=a.take (i+1)++a.drop (i+1):=(EJ _ _).symm
 have e2:b=b.take (i+1)++b.drop (i+1):=(EJ _ _).symm
 rw[e1,e2,jY,jY,hd,bW,bW]
 have h1:=oO (ha.take i)
 rw[Be,Da (by omega)]at h1
 have h2:(a.take (i+1)).length=(b.take (i+1)).length:=by simp[hl]
 rw[h2]
 have h3:4294967296^i*(a.getD i 0+1)≤4294967296^i*b.getD i 0:=Nat.mul_le_mul_left _ hlt
 rw[Cd,CJ]at h3
 omega
/-! Encodings -/
def aA(m:List Nat):D:=.sl (m.map fun(x:Nat)=>[D.i .u32 (x:Int)])
def lms(m:List Nat):List D:=m.map fun(x:Nat)=>D.i .u32 (x:Int)
theorem jN(m:List Nat):(lms m).length=m.length:=by simp[lms]
theorem dY(a b:List Nat):lms (a++b)=lms a++lms b:=by simp[lms]
theorem eH(x:Nat):lms [x]=[D.i .u32 (x:Int)]:=rfl
theorem aRn{m:List Nat}{i x:Nat}(h:m[i]? = some x):(lms m)[i]? = some (.i .u32 (x:Int)):=by simp[lms,h]
theorem tN(m:List Nat)(i x:Nat):(lms m).set i (.i .u32 (x:Int))=lms (m.set i x):=by simp[lms,List.map_set]
theorem aJu(m:List Nat):(m.map fun(x:Nat)=>[D.i .u32 (x:Int)]).flatten=lms m:=by unfold lms;induction m<;>simp_all
theorem aRo(m:List Nat):((lms m).map AV.d).all one=true:=by simp[lms,one]
theorem bCx(m:List Nat):(∀ x,x∈lms m→one (AV.d x)=true)↔True:=⟨fun _=>trivial,fun _ x hx=>by
 obtain⟨y,_,rfl⟩:=List.mem_map.1 hx;rfl⟩
theorem bNn(n:Nat):As n (D.i .u32 0)=lms (As n 0):=by simp[lms]
theorem bLh(n:Nat):As n (AV.d (D.i .u32 0))=(lms (As n 0)).map .d:=by simp[lms]
theorem dT{m:List Nat}{n:Nat}(h:m.length=n):chunk 1 n (lms m)=m.map fun(x:Nat)=>[D.i .u32 (x:Int)]:=by
 rw[mS _ _ (by rw[jN];exact h.symm)];simp[lms]
theorem cL{m:List Nat}{n:Nat}(h:m.length=n):List.take n ((lms m).map AV.d)=(lms m).map AV.d:=AG (by simp[jN,h])
def encI(neg:Bool)(m:List Nat):D:=.ag [.b neg,aA m]
def encZ(z:Int):D:=encI (decide (z<0)) (aJ z.natAbs)
def sg(neg:Bool)(n:Nat):Int:=if neg then -(n:Int)else n
theorem bPe(neg:Bool)(n:Nat):encI (neg&&decide (n≠0)) (aJ n)=encZ (sg neg n):=by
 unfold encZ sg
 cases neg
 ·have h:decide ((n:Int)<0)=false:=by simp
  simp[h]
 ·simp only[Bool.true_and,if_true,Int.natAbs_neg,Int.natAbs_natCast]
  congr 1
  rw[Bool.eq_iff_iff];simp;omega
theorem fA(z:Int):sg (decide (z<0)) z.natAbs=z:=by
 unfold sg
 by_cases h:z<0
 ·rw[Ap (by simpa using h)];omega
 ·rw[Ah (by simpa using h)];omega
/-! Wrapping -/
theorem wrap_i64{n:Int}(h1:-9223372036854775808≤n)(h2:n≤9223372036854775807):Al.wrap n=n:=by
 simp[Fi,ET,Dt]
 omega
theorem aU{n:Int}(h1:-9223372036854775808≤n:=by omega)(h2:n≤9223372036854775807:=by omega):Al.wrap n=n:=wrap_i64 h1 h2
theorem wrap_u64{n:Int}(h1:0≤n)(h2:n<18446744073709551616):AB.wrap n=n:=by
 simp[Fi,ET,Dt]
 omega
theorem uR(n:Int):AB.wrap n=n%18446744073709551616:=by
 simp[Fi,ET,Dt]
theorem eZ(n:Int):BR.wrap n=n%4294967296:=by
 simp[Fi,ET,Dt]
theorem gJ{n:Int}(h1:0≤n)(h2:n<4294967296):BR.wrap n=n:=by
 rw[eZ];omega
end Go.Am
end
