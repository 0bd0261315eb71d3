/- Numbers to the base 2^32 as lists of limbs: values, canonical lists, sums, differences, products: plain arithmetic, no program in sight. No condition. -/
import Derived.Test.YtdgdlndhaecliaaGreatW2
import Derived.Scope
import Derived.Defers
set_option linter.unusedSectionVars false
set_option linter.unusedVariables false
set_option linter.unusedSimpArgs false
section
open List renaming map_map→ζ,mapM_map→ξ
namespace Go.Am
open RowKit (Below)
def WkR (σ σ':St):Prop:=σ=σ'∨∃ ρ,Wk σ σ' ρ
def AWP (P:Program) [M:Mch P]:Code→St→(Exit→St→Prop)→Prop
  | .skip,σ,Q=>Q .normal σ
  | .region _ ops _,σ,Q=>OW P ops ops.toList σ [] fun σ' con=>Q .normal (fin σ' con)
  | .seq x y,σ,Q=>AWP P x σ fun e σ'=>match e with | .normal=>AWP P y σ' Q | e=>Q e σ'
  | .cond c x y,σ,Q=>match oev σ.Γ c with | .d (.b t)=>if t then AWP P x σ Q else AWP P y σ Q | .ub=>AWP P x σ Q∧AWP P y σ Q | _=>False
  | .block id c,σ,Q=>AWP P c σ fun e σ'=>match e with | .exit id'=>if id'=id then Q .normal σ' else Q (.exit id') σ' | e=>Q e σ'
  | .loop c,σ,Q=>∃ (τ:Type) (S:τ→St) (m:τ→Nat) (x0:τ),WkR σ (S x0)∧∀ x,AWP P c (S x) fun e σ'=>match e with | .normal=>∃ y,m y<m x∧WkR σ' (S y) | e=>∃ σ2,WkR σ' σ2∧Q e σ2
  | .exit id,σ,Q=>Q (.exit id) σ
  | .ret,σ,Q=>Q .ret σ
  | .label _,σ,Q=>Q .normal σ
  | .scope c,σ,Q=>AWP P c σ fun e σ'=>match e with | .goto _=>False | e=>Q e σ'
  | _,_,_=>False
def aDm (N:Nat) (ops:Array Oper):Bool:=ops.all fun o=>match o.dst with | some d=>decide (d<N) | none=>true
def bP (N:Nat):Code→Bool
  | .region _ ops _=>aDm N ops
  | .seq x y | .cond _ x y=>bP N x && bP N y
  | .block _ c | .loop c | .scope c=>bP N c
  | _=>true
def aXl (z:Nat→Bool) (ops:Array Oper):Bool:=ops.all fun o=>match o.dst with | some d=>!z d | none=>true
def fI (z:Nat→Bool):Code→Bool
  | .region _ ops _=>aXl z ops
  | .seq x y | .cond _ x y=>fI z x && fI z y
  | .block _ c | .loop c | .scope c=>fI z c
  | _=>true
theorem aGn (ops:Array Oper):aXl (fun _=>false) ops=true:=by
  refine Array.all_eq_true_iff_forall_mem.2 fun o _=>?_
  cases o.dst <;> rfl
theorem sI (c:Code):fI (fun _=>false) c=true:=by
  induction c with
  | region id ops d=>exact aGn ops
  | seq x y ihx ihy=>simp [fI,ihx,ihy]
  | cond c x y ihx ihy=>simp [fI,ihx,ihy]
  | block id c ih=>exact ih
  | loop c ih=>exact ih
  | scope c ih=>exact ih
  | _=>rfl
def bO (P:Program):Code→Bool
  | .region _ ops draw=>!draw || aYo P ops
  | .seq x y | .cond _ x y=>bO P x && bO P y
  | .block _ c | .loop c | .scope c=>bO P c
  | _=>true
theorem uK {N:Nat} {ops:Array Oper} (h:aDm N ops=true):∀ (i:Nat) (o:Oper) (d:Tmp),ops[i]? = some o→o.dst=some d→d<N:=by
  intro i o d hi hd
  have:=Array.all_eq_true_iff_forall_mem.1 h o (Array.mem_of_getElem? hi)
  rw [hd] at this
  simpa using this
theorem rF {N:Nat} {ops:Array Oper} {z:Nat→Bool} {G:Ctx} (hz:∀ d v,G.Z d=some v→z d=true) (h:aDm N ops=true) (hnz:aXl z ops=true) :
    ∀ (i:Nat) (o:Oper) (d:Tmp),ops[i]? = some o→o.dst=some d→d<N∧G.Z d=none:=by
  intro i o d hi hd
  refine ⟨uK h i o d hi hd,?_⟩
  have:=Array.all_eq_true_iff_forall_mem.1 hnz o (Array.mem_of_getElem? hi)
  rw [hd] at this
  cases hZ:G.Z d with
  | none=>rfl
  | some v=>have h2:=hz d v hZ; simp [h2] at this
section
variable {P:Program} [M:Mch P] {G:Ctx} {N:Nat} {ds:List Deferred}
theorem sQ {σ σ':St} {a:Act} {w:World} (hk:WkR σ σ') (h:SR G N ds σ a w):SR G N ds σ' a w:=by
  rcases hk with rfl | ⟨ρ,hk⟩
  · exact h
  · exact sR hk h
theorem bJh {f:FuncId} {args:Array Operand} {dst:Option Tmp} {σ:St} {con:List Nat} {k k':St→List Nat→Prop} (hk:∀ σ con,k σ con→k' σ con) (h:OC P f args dst σ con k):OC P f args dst σ con k':=by
  unfold OC at h ⊢
  split
  · rename_i hm
    rw [if_pos hm] at h
    split
    · rename_i x rest hargs
      simp only [hargs] at h
      split
      · rename_i id hh hx
        simp only [hx] at h
        split
        · rename_i ho hH
          simp only [hH] at h
          rcases h with ⟨g,h1,h2,h3,h4⟩ | ⟨h1,h2,ds,ho',r,h3,h4,h5,h6,h7⟩ | ⟨p0,ν,h0,ro,hs,ds,ro',hs',r,p1,p2,p3,p4,p5,p6,p7,p8,p9,p10⟩ | ⟨h1,h2,ds,r,h3,h4,h5⟩
          · exact .inl ⟨g,h1,h2,h3,hk _ _ h4⟩
          · exact .inr (.inl ⟨h1,h2,ds,ho',r,h3,h4,h5,h6,hk _ _ h7⟩)
          · exact .inr (.inr (.inl ⟨p0,ν,h0,ro,hs,ds,ro',hs',r,p1,p2,p3,p4,p5,p6,p7,p8,p9,hk _ _ p10⟩))
          · exact .inr (.inr (.inr ⟨h1,h2,ds,r,h3,h4,hk _ _ h5⟩))
        · rename_i hH; simp only [hH] at h
      · rename_i hx
        simp only [hx] at h
        obtain ⟨h1,ds,r,h3,h4,h5⟩:=h
        exact ⟨h1,ds,r,h3,h4,hk _ _ h5⟩
    · rename_i hargs; simp only [hargs] at h
  · rename_i hm
    rw [if_neg hm] at h
    rcases h with ⟨h0,h1,v,hs,h2,h5⟩ | h
    · exact .inl ⟨h0,h1,v,hs,h2,hk _ _ h5⟩
    refine .inr ?_
    split
    · rename_i g id hargs
      simp only [hargs] at h
      split
      · rename_i es hH
        simp only [hH] at h
        exact ⟨h.1,h.2.1,h.2.2.1,hk _ _ h.2.2.2⟩
      · rename_i hne
        exfalso
        split at h
        · rename_i es hH; exact hne _ hH
        · exact h
    · rename_i hne
      split at h
      · rename_i g id hargs; exact (hne _ _ hargs).elim
      · obtain ⟨ds,r,h1,h2,h3⟩:=h
        exact ⟨ds,r,h1,h2,hk _ _ h3⟩
theorem bJi {o:Oper} {σ:St} {con:List Nat} {k k':St→List Nat→Prop} (hk:∀ σ con,k σ con→k' σ con) (h:O1 P o σ con k):O1 P o σ con k':=by
  unfold O1 at h
  unfold O1
  split at h
  · rename_i t x hop
    split at h
    · rename_i v hv; (try simp only [hv]); exact hk _ _ h
    · exact h.elim
  · rename_i t m x ok hop
    split at h
    · rename_i v hv; (try simp only [hv]); exact hk _ _ h
    · exact h.elim
  · rename_i x hop
    split at h
    · rename_i v hv; (try simp only [hv]); exact hk _ _ h
    · exact h.elim
  · exact h.elim
  · rename_i t ad x hop
    split at h
    · rename_i id ho hv; (try simp only [hv]); exact hk _ _ h
    · exact h.elim
  · rename_i t m x v hop
    split at h
    · rename_i id ho hv; (try simp only [hv]); exact hk _ _ h
    · exact h.elim
  · rename_i t m x v hop
    split at h
    · rename_i id ho hv; (try simp only [hv]); exact hk _ _ h
    · exact h.elim
  · rename_i f args ts hop
    exact bJh hk h
  · rename_i t args ts hop
    split at h
    · rename_i f cs hc
      obtain ⟨ds,r,h1,h2,h3⟩:=h
      (try simp only [hc])
      exact ⟨ds,r,h1,h2,hk _ _ h3⟩
    · rename_i hc
      (try simp only [hc])
      split at h
      · rename_i f d hm
        obtain ⟨ds,r,h1,h2,h3⟩:=h
        (try simp only [hm])
        exact ⟨ds,r,h1,h2,hk _ _ h3⟩
      · exact h.elim
  · rename_i t name args ts hop
    split at h
    · rename_i ty d hc
      (try simp only [hc])
      split at h
      · rename_i f hm
        obtain ⟨ds,r,h1,h2,h3⟩:=h
        (try simp only [hm])
        exact ⟨ds,r,h1,h2,hk _ _ h3⟩
      · exact h.elim
    · exact h.elim
  · rename_i args ts hop
    split at h
    · rename_i s x t t' h1 h2
      obtain ⟨e,h⟩:=h
      (try simp only [h1,h2])
      refine ⟨e,?_⟩
      split at h
      · rename_i av nb cn hv; (try simp only [hv]); exact hk _ _ h
      · exact h.elim
    · exact h.elim
  · rename_i args ts hop
    split at h
    · rename_i m x t kt h1 h2
      (try simp only [h1,h2])
      split at h
      · rename_i id ho hv; (try simp only [hv]); exact hk _ _ h
      · exact h.elim
    · exact h.elim
  · rename_i args ts hop
    split
    · rename_i hlm
      rw [if_pos hlm] at h
      split at h
      · rename_i m h1
        (try simp only [h1])
        split at h
        · rename_i n hv; (try simp only [hv]); exact hk _ _ h
        · exact h.elim
      · exact h.elim
    · rename_i hlm
      rw [if_neg hlm] at h
      obtain ⟨hkd,h⟩:=h
      refine ⟨hkd,?_⟩
      split at h
      · rename_i av nb hv; (try simp only [hv]); exact hk _ _ h
      · exact h.elim
  · rename_i h1 h2 h3 h4 h5 h6 h7 h8
    obtain ⟨hkd,h⟩:=h
    refine ⟨hkd,?_⟩
    split at h
    · rename_i av nb hv; (try simp only [hv]); exact hk _ _ h
    · exact h.elim
theorem aEv {ops:Array Oper} {k k':St→List Nat→Prop} (hk:∀ σ con,k σ con→k' σ con):∀ (l:List Oper) (σ:St) (con:List Nat),OW P ops l σ con k→OW P ops l σ con k'
  | [],σ,con,h=>hk _ _ h
  | o::l,σ,con,h=>by
    unfold OW at h ⊢
    split at h
    · exact bJi (fun σ con=>aEv hk l σ con) h
    · exact aEv hk l _ _ h
    · exact h.elim
theorem fC:∀ (c:Code) {Q Q':Exit→St→Prop} {σ:St},(∀ e σ,Q e σ→Q' e σ)→AWP P c σ Q→AWP P c σ Q':=by
  intro c
  induction c with
  | skip=>intro Q Q' σ hq h; exact hq _ _ h
  | region id ops draw=>intro Q Q' σ hq h; exact aEv (fun σ con h=>hq _ _ h) _ _ _ h
  | seq x y ihx ihy =>
    intro Q Q' σ hq h
    refine ihx (fun e σ h=>?_) h
    cases e with
    | normal=>exact ihy hq h
    | _=>exact hq _ _ h
  | cond c x y ihx ihy =>
    intro Q Q' σ hq h
    unfold AWP at h ⊢
    split
    · rename_i t ht
      simp only [ht] at h
      cases t
      · exact ihy hq h
      · exact ihx hq h
    · rename_i ht
      simp only [ht] at h
      exact ⟨ihx hq h.1,ihy hq h.2⟩
    · rename_i h1 h2
      exfalso
      split at h
      · rename_i t ht; exact h1 _ ht
      · rename_i ht; exact h2 ht
      · exact h
  | block id c ih =>
    intro Q Q' σ hq h
    refine ih (fun e σ h=>?_) h
    cases e with
    | exit id' =>
      simp only at h ⊢
      split
      · rename_i he; rw [if_pos he] at h; exact hq _ _ h
      · rename_i he; rw [if_neg he] at h; exact hq _ _ h
    | _=>exact hq _ _ h
  | loop c ih =>
    intro Q Q' σ hq h
    obtain ⟨τ,S,m,x0,h0,h1⟩:=h
    refine ⟨τ,S,m,x0,h0,fun x=>ih (fun e σ h=>?_) (h1 x)⟩
    cases e with
    | normal=>exact h
    | _=>exact let ⟨σ2,hw,h⟩:=h; ⟨σ2,hw,hq _ _ h⟩
  | exit id=>intro Q Q' σ hq h; exact hq _ _ h
  | ret=>intro Q Q' σ hq h; exact hq _ _ h
  | label l=>intro Q Q' σ hq h; exact hq _ _ h
  | scope c ih =>
    intro Q Q' σ hq h
    refine ih (fun e σ h=>?_) h
    cases e with
    | goto l=>exact h
    | _=>exact hq _ _ h
  | _=>intro Q Q' σ hq h; exact h.elim
theorem yY {c:Code} {σ:St} {Q:Exit→St→Prop} {τ:Type} (S:τ→St) (m:τ→Nat) (x0:τ) (h0:WkR σ (S x0))
    (h:∀ x,AWP P c (S x) fun e σ'=>match e with | .normal=>∃ y,m y<m x∧WkR σ' (S y) | e=>Q e σ'):AWP P (.loop c) σ Q :=
  ⟨τ,S,m,x0,h0,fun x=>fC c (fun e σ h=>by
    cases e with
    | normal=>exact h
    | _=>exact ⟨σ,.inl rfl,h⟩) (h x)⟩
def LU (P:Program) [M:Mch P] (c:Code):Nat→St→(Exit→St→Prop)→Prop
  | 0,_,_=>False
  | n+1,σ,Q=>AWP P c σ fun e σ'=>match e with | .normal=>LU P c n σ' Q | e=>Q e σ'
theorem bGt {c:Code} {Q:Exit→St→Prop} {n:Nat} {σ:St} (h:LU P c n σ Q):AWP P (.loop c) σ Q:=by
  refine ⟨{ p:Nat × St // LU P c p.1 p.2 Q },fun p=>p.1.2,fun p=>p.1.1,⟨(n,σ),h⟩,.inl rfl,fun x=>?_⟩
  obtain ⟨⟨n,σ⟩,hx⟩:=x
  cases n with
  | zero=>exact hx.elim
  | succ n =>
    refine fC c (fun e σ h=>?_) hx
    cases e with
    | normal=>exact ⟨⟨(n,σ),h⟩,Nat.lt_succ_self n,.inl rfl⟩
    | _=>exact ⟨σ,.inl rfl,h⟩
theorem qT {rd:Bool} {WW:Code→(Exit→Act→World→Prop)→Act→World→Prop} (hW:WpR P rd WW) (hm:P.follows .mixedOrders=true) {z:Nat→Bool} (hz:∀ d v,G.Z d=some v→z d=true) :
    ∀ (c:Code) (Q:Exit→St→Prop) (σ:St) (a:Act) (w:World),bP N c=true→bO P c=true→fI z c=true→(rd=true→fP c=true)→AWP P c σ Q→SR G N ds σ a w →
    WW c (fun e a' w'=>∃ σ',Q e σ'∧SR G N ds σ' a' w') a w:=by
  intro c
  induction c with
  | skip=>intro Q σ a w _ _ _ _ h hs; exact hW.skip ⟨σ,h,hs⟩
  | region id ops draw =>
    intro Q σ a w hd hl hnz hnd h hs
    exact rB hW (Q:=Q .normal) hm (rF hz hd hnz) hnd (fun hdr=>by simpa [bO,hdr] using hl) hs h fun σ' a' w' hq hs'=>⟨σ',hq,hs'⟩
  | seq x y ihx ihy =>
    intro Q σ a w hd hl hnz hnd h hs
    simp only [bP,bO,fI,fP,Bool.and_eq_true] at hd hl hnz hnd
    refine hW.seq (hW.mono (ihx _ σ a w hd.1 hl.1 hnz.1 (fun e=>(hnd e).1) h hs) ?_)
    rintro e a' w' ⟨σ',hq,hs'⟩
    cases e with
    | normal=>exact ihy Q σ' a' w' hd.2 hl.2 hnz.2 (fun e=>(hnd e).2) hq hs'
    | _=>exact ⟨σ',hq,hs'⟩
  | cond c x y ihx ihy =>
    intro Q σ a w hd hl hnz hnd h hs
    simp only [bP,bO,fI,fP,Bool.and_eq_true] at hd hl hnz hnd
    unfold AWP at h
    split at h
    rotate_left
    · rename_i ht
      have hc:∃ t,a.eval c=.bool t:=by
        obtain ⟨_,_,_,F,ι,_,_,hV,_⟩:=hs
        have:=cH (Γ:=σ.Γ) (a:=a) (x:=c) (F:=F) (w:=w) (ι:=ι) fun t _=>hV t
        rw [ht] at this
        generalize a.eval c=v at this
        cases this with | ub t=>exact ⟨t,rfl⟩
      obtain ⟨t,hc⟩:=hc
      refine hW.cond hc ?_
      cases t
      · exact ihy Q σ a w hd.2 hl.2 hnz.2 (fun e=>(hnd e).2) h.2 hs
      · exact ihx Q σ a w hd.1 hl.1 hnz.1 (fun e=>(hnd e).1) h.1 hs
    · exact h.elim
    · rename_i t ht
      have hc:a.eval c=.bool t:=by
        obtain ⟨_,_,_,F,ι,_,_,hV,_⟩:=hs
        have:=cH (Γ:=σ.Γ) (a:=a) (x:=c) (F:=F) (w:=w) (ι:=ι) fun t _=>hV t
        rw [ht] at this
        generalize a.eval c=v at this
        cases this with | d _ _ h=>cases h; rfl
      refine hW.cond hc ?_
      cases t
      · exact ihy Q σ a w hd.2 hl.2 hnz.2 (fun e=>(hnd e).2) h hs
      · exact ihx Q σ a w hd.1 hl.1 hnz.1 (fun e=>(hnd e).1) h hs
  | block id c ih =>
    intro Q σ a w hd hl hnz hnd h hs
    refine hW.block (hW.mono (ih _ σ a w hd hl hnz hnd h hs) ?_)
    rintro e a' w' ⟨σ',hq,hs'⟩
    cases e with
    | exit id' =>
      simp only [Exit.inBlock] at hq ⊢
      split at hq
      · rename_i he; rw [if_pos he]; exact ⟨σ',hq,hs'⟩
      · rename_i he; rw [if_neg he]; exact ⟨σ',hq,hs'⟩
    | _=>exact ⟨σ',hq,hs'⟩
  | loop c ih =>
    intro Q σ a w hd hl hnz hnd h hs
    obtain ⟨τ,S,m,x0,hk,hround⟩:=h
    refine hW.loop (fun n a w=>∃ x,m x=n∧SR G N ds (S x) a w) ⟨m x0,x0,rfl,sQ hk hs⟩ ?_
    rintro n a w ⟨x,rfl,hsx⟩
    refine hW.mono (ih _ (S x) a w hd hl hnz hnd (hround x) hsx) ?_
    rintro e a' w' ⟨σ',hq,hs'⟩
    cases e with
    | normal =>
      obtain ⟨y,hlt,hk⟩:=hq
      exact ⟨m y,hlt,y,rfl,sQ hk hs'⟩
    | _=>exact let ⟨σ2,hw,hq⟩:=hq; ⟨σ2,hq,sQ hw hs'⟩
  | exit id=>intro Q σ a w _ _ _ _ h hs; exact hW.exit ⟨σ,h,hs⟩
  | ret=>intro Q σ a w _ _ _ _ h hs; exact hW.ret ⟨σ,h,hs⟩
  | label l=>intro Q σ a w _ _ _ _ h hs; exact hW.label ⟨σ,h,hs⟩
  | scope c ih =>
    intro Q σ a w hd hl hnz hnd h hs
    have hrd:rd=false:=by
      cases rd with
      | false=>rfl
      | true=>exact absurd (hnd rfl) (by simp [fP])
    refine hW.scope hrd (hW.mono (ih _ σ a w hd hl hnz (fun e=>by rw [hrd] at e; cases e) h hs) ?_)
    rintro e a' w' ⟨σ',hq,hs'⟩
    cases e with
    | goto l=>exact hq.elim
    | _=>exact ⟨σ',hq,hs'⟩
  | _=>intro Q σ a w _ _ _ _ h; exact h.elim
theorem cF (hm:P.follows .mixedOrders=true) (hZ:∀ d,G.Z d=none) (c:Code) (Q:Exit→St→Prop) (σ:St) (a:Act) (w:World) (hd:bP N c=true) (hl:bO P c=true) (h:AWP P c σ Q) (hs:SR G N ds σ a w) :
    WC P c (fun e a' w'=>∃ σ',Q e σ'∧SR G N ds σ' a' w') a w :=
  qT (WpR.plain P) hm (z:=fun _=>false) (fun d v e=>by rw [hZ] at e; cases e) c Q σ a w hd hl (sI c) (fun e=>by cases e) h hs
def jE (P:Program) (σ:St):ResultVar→Option AV
  | .tmp t=>some (σ.Γ t)
  | .cell ad t=>rN P σ.H t (σ.Γ ad)
def iS (P:Program) (rs:List ResultVar) (σ:St):Option D :=
  (rs.mapM (jE P σ)).bind fun avs=>(cL σ.H avs).map fun l=>match l with | [x]=>x | l=>.tp l
theorem mI {fn:Func} {σ:St} {a:Act} {w:World} {r:D} {F:Nat→Prop} {ι:Nat→Option Nat} (hR:HR G F w ι bF σ.H) (hV:∀ t,V F w ι (σ.Γ t) (a.tmps.getD t undef)) (h:iS P fn.results.toList σ=some r) :
    ∃ v,aM P (results fn a.tmps) w=.ok v w∧VD (fun b=>F b∨∃ id,ι id=some b) w r v:=by
  obtain ⟨avs,havs,h⟩:=Option.bind_eq_some_iff.1 h
  obtain ⟨l,hl,rfl⟩:=Option.map_eq_some_iff.1 h
  have hrun:∀ (rs:List ResultVar) (avs:List AV),rs.mapM (jE P σ)=some avs→∃ vs:List Value,aM P (rs.mapM (m:=Sem) fun | .tmp t=>pure (a.tmps.getD t undef) | .cell ad t=>do loadVar t (← asAddr (a.tmps.getD ad undef))) w=.ok vs w ∧
      vs.length=avs.length∧∀ (k:Nat) c v,avs[k]? = some c→vs[k]? = some v→V F w ι c v:=by
    intro rs
    induction rs with
    | nil=>intro avs h; simp at h; subst h; exact ⟨[],by simp,rfl,fun k c v h=>by simp at h⟩
    | cons x rs ih =>
      intro avs h
      simp only [List.mapM_cons,Option.bind_eq_bind,Option.bind_eq_some_iff,Option.pure_def,Option.some.injEq] at h
      obtain ⟨av,hav,avs',havs',rfl⟩:=h
      obtain ⟨vs,h1,h2,h3⟩:=ih avs' havs'
      have hx:∃ v,aM P ((match x with | .tmp t=>pure (a.tmps.getD t undef) | .cell ad t=>do loadVar t (← asAddr (a.tmps.getD ad undef))):Sem Value) w=.ok v w∧V F w ι av v:=by
        cases x with
        | tmp t=>simp only [jE,Option.some.injEq] at hav; subst hav; exact ⟨_,by simp,hV t⟩
        | cell ad t =>
          simp only [jE] at hav
          obtain ⟨u,hu,hv⟩:=aDw (P:=P) hR (fun _ _ h=>h) hav (hV ad)
          refine ⟨u,?_,hv⟩
          show aM P (do loadVar t (← asAddr (a.tmps.getD ad undef)):Sem Value) w=_
          simp only [Instr.loadAt] at hu
          generalize a.tmps.getD ad undef=p at hu ⊢
          cases p with
          | pointer q=>cases q with
            | some q=>simpa [Instr.sureAddr,asAddr] using hu
            | none=>simp [Instr.sureAddr] at hu
          | _=>simp [Instr.sureAddr] at hu
      obtain ⟨v,hv,hvv⟩:=hx
      refine ⟨v::vs,?_,by simp [h2],fun k c u hc hu=>?_⟩
      · simp only [List.mapM_cons,Sem.run_bind,hv,Result.andThen_ok,h1,Sem.run_pure]
      · rcases k with _ | k
        · simp at hc hu; subst hc; subst hu; exact hvv
        · exact h3 k c u (by simpa using hc) (by simpa using hu)
  obtain ⟨vs,h1,h2,h3⟩:=hrun _ _ havs
  obtain ⟨q1,q2⟩:=fM _ _ _ hl
  have hVD:∀ (k:Nat) d v,l[k]? = some d→vs[k]? = some v→VD (fun b=>F b∨∃ id,ι id=some b) w d v:=by
    intro k d v hd hv
    obtain ⟨c,hc,hf⟩:=q2 k d hd
    refine (rX hR (fun _ _ h=>h) 8 c v d hf (h3 k c v hc hv)).1.mono ?_
    rintro b (hb | ⟨id,hid,hb⟩)
    · exact .inl hb
    · exact .inr ⟨id,hb⟩
  have hres:aM P (results fn a.tmps) w=.ok (if h:vs.toArray.size=1 then vs.toArray[0] else .tuple vs.toArray) w:=by
    simp only [results,Array.mapM_eq_mapM_toList,Sem.run_bind,Sem.run_map]
    erw [h1]
    simp
  refine ⟨_,hres,?_⟩
  have hlen:l.length=vs.length:=by omega
  match l,hlen,hVD with
  | [x],hlen,hVD =>
    match vs,hlen,hVD with
    | [v],_,hVD=>exact hVD 0 x v rfl rfl
  | [],hlen,hVD =>
    have:vs=[]:=List.eq_nil_of_length_eq_zero (by simpa using hlen.symm)
    subst this
    exact .tp _ _ rfl fun k c v h=>by simp at h
  | x::y::l,hlen,hVD =>
    have hne:¬ vs.toArray.size=1:=by simp at hlen ⊢; omega
    rw [dif_neg hne]
    exact .tp _ _ (by simpa using hlen) fun k c v hc hv=>hVD k c v hc (by simpa using hv)
theorem eO {fn:Func} {σ:St} {a:Act} {w:World} {r:D} (hs:SR G N ds σ a w) (h:iS P fn.results.toList σ=some r) :
    ∃ v,aM P (results fn a.tmps) w=.ok v w∧VD (fun b=>G.A b∨G.M b∨(G.W.heap.size≤b∧b<w.heap.size)) w r v:=by
  obtain ⟨_,_,_,F,ι,hR,hdom,hV,_⟩:=hs
  obtain ⟨v,h1,h2⟩:=mI hR hV h
  refine ⟨v,h1,h2.mono ?_⟩
  rintro b (hb | ⟨id,hb⟩)
  · rcases hR.F_ok b hb with h | h | h
    · exact .inl h
    · exact .inr (.inl h)
    · exact .inr (.inr ⟨h,hR.F_lt b hb⟩)
  · rcases (hR.place id b hb).1 with h | h
    · exact .inr (.inl h)
    · exact .inr (.inr ⟨h,hR.ι_lt hb⟩)
def Γ0 (args:List D) (N:Nat):Nat→AV:=fun t=>match args[t]? with | some d=>aS d | none=>if t<N then .un else .un
def St0 (args:List D) (N:Nat):St:=⟨Γ0 args N,fun _=>none,1⟩
theorem SR0 {A:Nat→Prop} {W:World} {vs:Array Value} {args:List D} (hok:OkV W) (hA:∀ b,A b→b<W.heap.size) (hl:args.length=vs.size) (hv:∀ (k:Nat) d v,args[k]? = some d→vs[k]? = some v→VD A W d v) (hN:args.length≤N) :
    SR ⟨W,A,bF,fun _=>True,fun _=>none⟩ N [] (St0 args N) { tmps:=vs++Array.replicate (N - vs.size) undef,defers:=[] } W:=by
  refine ⟨fun _ _=>rfl,fun h=>by simp [St0] at h,hok,A,fun _=>none,⟨.refl _ _ _,hA,fun b h=>.inl h,fun _ _ h=>by simp at h,fun _ _ _ h=>by simp at h,fun _ _ _ h=>by simp at h,fun _ _ _ _ _ h=>by simp at h⟩,fun id=>by simp [St0],fun t=>?_,⟨by simp; omega,fun _ _ h=>by cases h⟩,rfl,fun _ h=>by simp at h⟩
  simp only [St0,Γ0]
  by_cases ht:t<args.length
  · rw [List.getElem?_eq_getElem ht]
    have ht':t<vs.size:=by omega
    have:(vs++Array.replicate (N - vs.size) undef).getD t undef=vs[t]:=by
      simp only [Array.getD_eq_getD_getElem?]
      rw [Array.getElem?_append_left ht',Array.getElem?_eq_getElem ht']; rfl
    rw [this]
    exact oV (hv t _ _ (List.getElem?_eq_getElem ht) (Array.getElem?_eq_getElem ht'))
  · rw [List.getElem?_eq_none (by omega)]
    have:(vs++Array.replicate (N - vs.size) undef).getD t undef=undef:=by
      simp only [Array.getD_eq_getD_getElem?]
      rw [Array.getElem?_append_right (by omega)]
      by_cases h2:t - vs.size<N - vs.size
      · rw [Array.getElem?_replicate,if_pos h2]; rfl
      · rw [Array.getElem?_replicate,if_neg h2]; rfl
    rw [this]
    simp only [ite_self]
    exact .un
theorem SR.env {σ:St} {a:Act} {w v1:World} (h:SR G N ds σ a w) (he:Env w v1):SR G N ds σ a v1:=by
  obtain ⟨h1,h2,hok,F,ι,hR,hdom,hV,hN,hds,hp⟩:=h
  obtain ⟨hR',hst⟩:=hR.env he
  exact ⟨h1,h2,he.okV hok,F,ι,hR',hdom,fun t=>(hV t).step hst,hN,hds,hp⟩
theorem bEn {f N:Nat} {fn:Func} {c:Code} {args:List D} {r:D} (hm:P.follows .mixedOrders=true) (hf:P.funcs[f]? = some fn) (hb:fn.body=some c) (hname:(fn.name == "runtime.NumGoroutine")=false) (hN:fn.ntmps=N)
    (hd:bP N c=true) (hl':bO P c=true) (ha:args.length≤N) (h:AWP P c (St0 args N) fun e σ=>(e=.normal∨e=.ret)∧iS P fn.results.toList σ=some r):Spec P f args r:=by
  intro A W vs hA hl hv
  have hn:¬ fn.name = "runtime.NumGoroutine" := by simpa using hname
  refine ⟨fun w=>by simp [callFunc,hf,hn,hb],?_⟩
  refine iJ hf hb ?_
  subst hN
  refine (WpR.plain P).okv fun hok=>cI (cF hm (fun _=>rfl) c _ _ _ _ hd hl' h (SR0 hok hA hl hv ha)) ?_
  rintro e a w ⟨σ,⟨he,hr⟩,hs⟩
  have hend:a.defers=[]∧∀ v1,Env w v1→∃ x,aM P (results fn a.tmps) v1=.ok x v1∧Below W.heap.size W v1∧VD (fun b=>A b∨(W.heap.size≤b∧b<v1.heap.size)) v1 r x:=by
    refine ⟨hs.2.2.2.elim fun _ h=>h.elim fun _ h=>h.2.2.2.2.1,fun v1 he=>?_⟩
    have hs1:=hs.env he
    obtain ⟨v,hrun,hvd⟩:=eO hs1 hr
    obtain ⟨_,_,_,F,ι,hR,_,_,_,hdf,_⟩:=hs1
    refine ⟨v,hrun,⟨hR.kept.os,hR.kept.tape,hR.kept.output,hR.kept.size,fun k hk=>hR.kept.block k hk (fun h=>h)⟩,hvd.mono ?_⟩
    rintro b (h | h | h)
    · exact .inl h
    · exact h.elim
    · exact .inr h
  rcases he with rfl | rfl <;> exact hend
def St1 (h:AV) (o:HO) (args:List D) (N:Nat):St:=⟨fun t=>match t with | 0=>h | t+1=>Γ0 args N t,fun id=>if id=0 then some o else none,1⟩
theorem SR1 {A:Nat→Prop} {W:World} {vs:Array Value} {args:List D} {h:AV} {o:HO} {b:Nat} (hok:OkV W) (hA:∀ b,A b→b<W.heap.size) (hAb:¬ A b) (hb:b<W.heap.size) (ho:∃ ob,W.heap[b]? = some ob∧CR A W (ι1 b) o ob)
    (hl:args.length+1=vs.size) (h0:∃ v,vs[0]? = some v∧V A W (ι1 b) h v) (hv:∀ (k:Nat) d v,args[k]? = some d→vs[k+1]? = some v→VD A W d v) (hN:args.length+1≤N) :
    SR ⟨W,A,(·=b),(·=b),fun _=>none⟩ N [] (St1 h o args N) { tmps:=vs++Array.replicate (N - vs.size) undef,defers:=[] } W:=by
  have hι:∀ id b',ι1 b id=some b'→id=0∧b'=b:=fun id b' e=>by
    unfold ι1 at e
    split at e
    · injection e with e; exact ⟨by assumption,e.symm⟩
    · cases e
  have hH:∀ id o',(if id=0 then some o else none)=some o'→id=0∧o'=o:=fun id o' e=>by
    split at e
    · injection e with e; exact ⟨by assumption,e.symm⟩
    · cases e
  refine ⟨fun id h=>by simp only [St1] at h ⊢; rw [if_neg (by omega)],fun h=>by simp [St1] at h,hok,A,ι1 b,⟨.refl _ _ _,hA,fun b h=>.inl h,fun id b' e=>?_,fun id b' o' e e'=>?_,fun id id' b' e e' _ _=>?_,fun id id' b' o1 o2 e e' _ h1 h2=>?_⟩,fun id=>?_,fun t=>?_,⟨by simp; omega,fun _ _ h=>by cases h⟩,rfl,fun b' e=>(hι 0 b' e).2⟩
  · obtain ⟨_,rfl⟩:=hι id b' e; exact ⟨.inl rfl,hb,fun _=>hAb⟩
  · obtain ⟨_,rfl⟩:=hι id b' e; obtain ⟨_,rfl⟩:=hH id o' e'; exact ho
  · rw [(hι _ _ e).1,(hι _ _ e').1]
  · rw [(hH _ _ h1).2,(hH _ _ h2).2]; exact Nat.le_refl _
  · simp only [St1,ι1]
    by_cases hid:id=0 <;> simp [hid]
  · have hget:∀ k,k<vs.size→(vs++Array.replicate (N - vs.size) undef).getD k undef=vs.getD k undef:=fun k hk=>by
      simp only [Array.getD_eq_getD_getElem?]; rw [Array.getElem?_append_left hk]
    have hget2:∀ k,vs.size≤k→(vs++Array.replicate (N - vs.size) undef).getD k undef=undef:=fun k hk=>by
      simp only [Array.getD_eq_getD_getElem?]
      rw [Array.getElem?_append_right hk]
      by_cases h2:k - vs.size<N - vs.size
      · rw [Array.getElem?_replicate,if_pos h2]; rfl
      · rw [Array.getElem?_replicate,if_neg h2]; rfl
    cases t with
    | zero =>
      obtain ⟨v,hv0,hV0⟩:=h0
      show V A W (ι1 b) h _
      rw [show (({ tmps:=vs++Array.replicate (N - vs.size) undef,defers:=[] }:Act).tmps.getD 0 undef)=v from by
        rw [hget 0 (by omega)]; simp [Array.getD_eq_getD_getElem?,hv0]]
      exact hV0
    | succ t =>
      show V A W (ι1 b) (Γ0 args N t) _
      simp only [Γ0]
      by_cases ht:t<args.length
      · have ht':t+1<vs.size:=by omega
        rw [List.getElem?_eq_getElem ht,hget _ ht',Array.getD_eq_getD_getElem?,Array.getElem?_eq_getElem ht']
        exact oV (hv t _ _ (List.getElem?_eq_getElem ht) (Array.getElem?_eq_getElem ht'))
      · rw [List.getElem?_eq_none (by omega),hget2 _ (by omega)]
        simp only [ite_self]
        exact .un
theorem aXk {f N:Nat} {fn:Func} {c:Code} {h:AV} {o o':HO} {args:List D} {r:D} (hf:P.funcs[f]? = some fn) (hb:fn.body=some c) (hname:(fn.name == "runtime.NumGoroutine")=false) (hN:fn.ntmps=N)
    (ha:args.length+1≤N) (hmap:∃ k es,o=.map k es) (hmap':∃ k es,o'=.map k es) (hno':kJ o'=true) (hnm:NM r)
    (hA:∀ (G:Ctx) (a:Act) (w:World),(∀ d,G.Z d=none)→SR G N [] (St1 h o args N) a w→WC P c (fun e a' w'=>∃ σ,((e=.normal∨e=.ret)∧iS P fn.results.toList σ=some r∧σ.H 0=some o')∧SR G N [] σ a' w') a w):jH P f h o args o' r:=by
  intro A W vs b hAl hAb hbl hob hl hv0 hv
  have hn:¬ fn.name = "runtime.NumGoroutine" := by simpa using hname
  refine ⟨fun w=>by simp [callFunc,hf,hn,hb],?_⟩
  refine iJ hf hb ?_
  subst hN
  refine (WpR.plain P).okv fun hok=>?_
  have hsr:=SR1 (N:=fn.ntmps) hok hAl hAb hbl hob hl hv0 hv ha
  refine cI (hA _ _ _ (fun _=>rfl) hsr) ?_
  rintro e a w0 ⟨σ,⟨he,hr,hH0⟩,hs0⟩
  have hend:a.defers=[]∧∀ w,Env w0 w→∃ v,aM P (results fn a.tmps) w=.ok v w∧∃ ob',Kept (·=b) W.heap.size W w∧w.heap[b]? = some ob' ∧
      (∀ cur e,W.heap[b]? = some (.cells cur e (0,0))→∃ cur',ob'=.cells cur' e (0,0)∧cur'.size=cur.size) ∧
      CR (fun k=>A k∨(W.heap.size≤k∧k<w.heap.size)) w (ι1 b) o' ob'∧VD (fun k=>A k∨(W.heap.size≤k∧k<w.heap.size)) w r v:=by
   refine ⟨hs0.2.2.2.elim fun _ h=>h.elim fun _ h=>h.2.2.2.2.1,fun w henv=>?_⟩
   have hs:=hs0.env henv
   obtain ⟨_,_,_,F,ι,hR,hdom,hVs,_,hdf,hp⟩:=hs
   obtain ⟨v,hrun,hvd⟩:=mI hR hVs hr
   obtain ⟨b',hb'⟩:=(hdom 0).2 (by rw [hH0]; rfl)
   have hbb:=hp b' hb'
   simp only at hbb
   subst hbb
   obtain ⟨ob',hob',hcr⟩:=hR.obj 0 b' o' hb' hH0
   have hnF:¬ F b':=(hR.place 0 b' hb').2.2 (fun x=>x)
   have hFA:∀ k,F k→A k∨(W.heap.size≤k∧k<w.heap.size):=fun k hk=>by
     rcases hR.F_ok k hk with h | h | h
     · exact .inl h
     · simp only at h; subst h; exact (hnF hk).elim
     · exact .inr ⟨h,hR.F_lt k hk⟩
   refine ⟨v,hrun,ob',hR.kept,hob',fun cur e he=>?_,(zS hno' hcr).step ⟨hFA,fun _ _=>rfl,fun _ _ h=>h,fun _ _ cur _ _ h=>⟨cur,h,rfl⟩⟩,(bPz hvd hnm).mono ?_⟩
   rotate_left
   · rintro c ⟨hc | ⟨id,h2⟩,hnc⟩
     · exact hFA c hc
     · rcases (hR.place id c h2).1 with h | h
       · simp only at h; subst h
         have:=hR.inj id 0 c h2 hb' (fun x=>x) (fun x=>x)
         subst this
         obtain ⟨k,es,rfl⟩:=hmap'
         cases hcr with | map _ _ ents clock _ _ _=>exact (hnc ents clock hob').elim
       · exact .inr ⟨h,hR.ι_lt h2⟩
   obtain ⟨k,es,rfl⟩:=hmap
   obtain ⟨ob,h1,h2⟩:=hob
   rw [he] at h1; injection h1 with h1; subst h1
   cases h2
  rcases he with rfl | rfl <;> exact hend
end
end Go.Am
end
section
open List renaming map_map→ζ,mapM_map→ξ
namespace Go.Am
open RowKit (Below)
structure Kn where
 call:FuncId→List D→Option D
 ocall:FuncId→AV→HO→List D→Option (HO × D)
 keys:FuncId→Option FuncId
 sorted:FuncId→FuncId→Bool
structure aEw (P:Program) [M:Mch P] (E:Kn):Prop where
 call:∀ f ds r,E.call f ds=some r→Spec P f ds r
 ocall:∀ f h o ds o' r,E.ocall f h o ds=some (o',r)→jH P f h o ds o' r
 keys:∀ f g,E.keys f=some g→zO P f g
 sorted:∀ f g,E.sorted f g=true→qQ P f g
def OEC (P:Program) (E:Kn) (f:FuncId) (args:Array Operand) (dst:Option Tmp) (σ:St) (con:List Nat):Option (St × List Nat) :=
 if aP P f then match args.toList with
  | x::rest=>match hd1 (oev σ.Γ x) with
   | some (id,h)=>match σ.H id with
    | some ho=>match rest,h,E.keys f with
     | [],.mp 0,some g=>some (⟨bK σ.Γ dst (.kf g id),σ.H,σ.n⟩,con)
     | _,_,_=>if kJ ho=true∧cG σ.H (rest.map (oev σ.Γ))=[] then match cL σ.H (rest.map (oev σ.Γ)) with
      | some ds=>match E.ocall f h ho ds with
       | some (ho',r)=>if ho'.len=ho.len∧kJ ho'=true then some (⟨bK σ.Γ dst (inj r),upd σ.H id (some ho'),σ.n⟩,con) else none
       | none=>none
      | none=>none
      else none
    | none=>none
   | none=>match hd0 (oev σ.Γ x) with
    | some d=>match cL σ.H (rest.map (oev σ.Γ)) with
     | some ds=>match E.call f (d::ds) with
      | some r=>some (⟨bK σ.Γ dst (inj r),kill (cG σ.H (rest.map (oev σ.Γ))) σ.H,σ.n⟩,cG σ.H (rest.map (oev σ.Γ))++con)
      | none=>none
     | none=>none
    | none=>none
  | []=>none
 else match args.toList.map (oev σ.Γ) with
  | [.kf g id]=>match σ.H id with
   | some (.map .i64 es)=>if es.length≤1099511627776∧(es.map (·.1)).all inr=true∧E.sorted f g=true then some (⟨bK σ.Γ dst (.d (.sl ((aHk (es.map (·.1))).map fun n=>[.i .i64 n]))),σ.H,σ.n⟩,con) else none
   | _=>none
  | avs=>match cL σ.H avs with
   | some ds=>match E.call f ds with
    | some r=>some (⟨bK σ.Γ dst (inj r),kill (bC σ.H avs r) σ.H,σ.n⟩,bC σ.H avs r++con)
    | none=>none
   | none=>none
def OE1 (P:Program) (E:Kn) (o:Oper) (σ:St) (con:List Nat):Option (St × List Nat) :=
 match o.op with
 | .load t x=>match rN P σ.H t (oev σ.Γ x) with
  | some v=>some (⟨bK σ.Γ o.dst v,σ.H,σ.n⟩,con)
  | none=>none
 | .lookup t m x ok=>match aBq P σ.H t (oev σ.Γ m) (oev σ.Γ x) ok with
  | some v=>some (⟨bK σ.Γ o.dst v,σ.H,σ.n⟩,con)
  | none=>none
 | .store t ad x=>match mH P σ.H t (oev σ.Γ ad) (oev σ.Γ x) with
  | some (id,ho)=>some (⟨bK σ.Γ o.dst .un,upd σ.H id (some ho),σ.n⟩,con)
  | none=>none
 | .mapUpdate t m x v=>match oH P σ.H t (oev σ.Γ m) (oev σ.Γ x) (some (oev σ.Γ v)) with
  | some (id,ho)=>some (⟨bK σ.Γ o.dst .any,upd σ.H id (some ho),σ.n⟩,con)
  | none=>none
 | .insert t m x v=>match oH P σ.H t (oev σ.Γ m) (oev σ.Γ x) (some (oev σ.Γ v)) with
  | some (id,ho)=>some (⟨bK σ.Γ o.dst .any,upd σ.H id (some ho),σ.n⟩,con)
  | none=>none
 | .call { callee:=.value (.func f),args:=args,argTypes:=_ }=>OEC P E f args o.dst σ con
 | .call { callee:=.value (.tmp t),args:=args,argTypes:=_ }=>match dK (σ.Γ t) with
  | some (f,cs)=>match cL σ.H (args.toList.map (oev σ.Γ)++cs) with
   | some ds=>match E.call f ds with
    | some r=>some (⟨bK σ.Γ o.dst (inj r),kill (bC σ.H (args.toList.map (oev σ.Γ)++cs) r) σ.H,σ.n⟩,bC σ.H (args.toList.map (oev σ.Γ)++cs) r++con)
    | none=>none
   | none=>none
  | none=>match σ.Γ t with
   | .d (.fm f d)=>match cL σ.H (.d d::args.toList.map (oev σ.Γ)) with
    | some ds=>match E.call f ds with
     | some r=>some (⟨bK σ.Γ o.dst (inj r),kill (bC σ.H (.d d::args.toList.map (oev σ.Γ)) r) σ.H,σ.n⟩,bC σ.H (.d d::args.toList.map (oev σ.Γ)) r++con)
     | none=>none
    | none=>none
   | _=>none
 | .call { callee:=.invoke (.tmp t) name,args:=args,argTypes:=_ }=>match σ.Γ t with
  | .d (.iff ty d)=>match aHf P ty name with
   | some f=>match cL σ.H (.d d::args.toList.map (oev σ.Γ)) with
    | some ds=>match E.call f ds with
     | some r=>some (⟨bK σ.Γ o.dst (inj r),kill (bC σ.H (.d d::args.toList.map (oev σ.Γ)) r) σ.H,σ.n⟩,bC σ.H (.d d::args.toList.map (oev σ.Γ)) r++con)
     | none=>none
    | none=>none
   | none=>none
  | _=>none
 | .call { callee:=.builtin .append,args:=args,argTypes:=ts }=>match args.toList,ts.toList with
  | [s,x],[t,t']=>if t=t' then match aAh P σ.H t (oev σ.Γ s) (oev σ.Γ x) σ.n with
   | some (av,nb,cn)=>some (⟨bK σ.Γ o.dst av,fV (kill cn σ.H) σ.n nb,cnt nb σ.n⟩,cn++con)
   | none=>none
   else none
  | _,_=>none
 | .call { callee:=.builtin .delete,args:=args,argTypes:=ts }=>match args.toList,ts.toList with
  | [m,x],[t,_]=>match oH P σ.H t (oev σ.Γ m) (oev σ.Γ x) none with
   | some (id,ho)=>some (⟨bK σ.Γ o.dst .any,upd σ.H id (some ho),σ.n⟩,con)
   | none=>none
  | _,_=>none
 | .call { callee:=.builtin .len,args:=args,argTypes:=ts }=>if aLj P ts then none else if kind P (.call { callee:=.builtin .len,args:=args,argTypes:=ts })=0 then match nev P (.call { callee:=.builtin .len,args:=args,argTypes:=ts }) σ.Γ σ.n with
  | some (av,nb)=>some (⟨bK σ.Γ o.dst av,fV σ.H σ.n nb,cnt nb σ.n⟩,con)
  | none=>none
  else none
 | op=>if kind P op=0 then match nev P op σ.Γ σ.n with
  | some (av,nb)=>some (⟨bK σ.Γ o.dst av,fV σ.H σ.n nb,cnt nb σ.n⟩,con)
  | none=>none
  else none
def OE (P:Program) (E:Kn) (ops:Array Oper):List Oper→St→List Nat→Option (St × List Nat)
 | [],σ,con=>some (σ,con)
 | o::l,σ,con=>match cX ops o σ.Γ with
  | some true=>match OE1 P E o σ con with
   | some p=>OE P E ops l p.1 p.2
   | none=>none
  | some false=>OE P E ops l ⟨bK σ.Γ o.dst .un,σ.H,σ.n⟩ con
  | none=>none
section
variable {P:Program} [M:Mch P] {E:Kn} (hE:aEw P E)
include hE
theorem aTt {f:FuncId} {args:Array Operand} {dst:Option Tmp} {σ:St} {con:List Nat} {p:St × List Nat} {k:St→List Nat→Prop} (h:OEC P E f args dst σ con=some p) (hk:k p.1 p.2):OC P f args dst σ con k:=by
 unfold OEC at h
 unfold OC
 split at h
 ·rename_i hm
  rw [if_pos hm]
  split at h
  case h_2=>cases h
  rename_i x rest hargs
  rw [hargs]
  simp only
  split at h
  case h_2 =>
   rename_i hx
   rw [hx]
   simp only
   split at h
   case h_2=>cases h
   rename_i d hd
   split at h
   case h_2=>cases h
   rename_i ds hds
   split at h
   case h_2=>cases h
   rename_i r hr
   injection h with h; subst h
   exact ⟨bHn hd,ds,r,hds,aFf hd (hE.call _ _ _ hr),hk⟩
  rename_i id hh hx
  rw [hx]
  simp only
  split at h
  case h_2=>cases h
  rename_i ho hH
  rw [hH]
  simp only
  split at h
  ·rename_i g hg
   injection h with h; subst h
   exact .inl ⟨g,rfl,rfl,hE.keys _ _ hg,hk⟩
  ·split at h
   case isFalse=>cases h
   rename_i hc
   split at h
   case h_2=>cases h
   rename_i ds hds
   split at h
   case h_2=>cases h
   rename_i ho' r hr
   split at h
   case isFalse=>cases h
   rename_i hc2
   injection h with h; subst h
   exact .inr (.inl ⟨hc.1,hc.2,ds,ho',r,hds,hE.ocall _ _ _ _ _ _ hr,hc2.1,hc2.2,hk⟩)
 ·rename_i hm
  rw [if_neg hm]
  refine .inr ?_
  split at h
  ·rename_i g id hargs
   rw [hargs]
   simp only
   split at h
   ·rename_i es hH
    split at h
    ·rename_i hc
     injection h with h; subst h
     rw [hH]
     exact ⟨hc.1,hc.2.1,hE.sorted _ _ hc.2.2,hk⟩
    ·cases h
   ·cases h
  ·rename_i hne
   split at h
   case h_2=>cases h
   rename_i ds hds
   split at h
   case h_2=>cases h
   rename_i r hr
   injection h with h; subst h
   split
   ·rename_i g id hargs; exact (hne _ _ hargs).elim
   ·exact ⟨ds,r,hds,hE.call _ _ _ hr,hk⟩
theorem aTu {o:Oper} {σ:St} {con:List Nat} {p:St × List Nat} {k:St→List Nat→Prop} (h:OE1 P E o σ con=some p) (hk:k p.1 p.2):O1 P o σ con k:=by
 unfold OE1 at h
 unfold O1
 split at h
 ·rename_i t x hop
  rw [hop]
  split at h
  ·rename_i v hv; simp only [hv]; injection h with h; subst h; exact hk
  ·cases h
 ·rename_i t m x ok hop
  rw [hop]
  split at h
  ·rename_i v hv; simp only [hv]; injection h with h; subst h; exact hk
  ·cases h
 ·rename_i t ad x hop
  rw [hop]
  split at h
  ·rename_i id ho hv; simp only [hv]; injection h with h; subst h; exact hk
  ·cases h
 ·rename_i t m x v hop
  rw [hop]
  split at h
  ·rename_i id ho hv; simp only [hv]; injection h with h; subst h; exact hk
  ·cases h
 ·rename_i t m x v hop
  rw [hop]
  split at h
  ·rename_i id ho hv; simp only [hv]; injection h with h; subst h; exact hk
  ·cases h
 ·rename_i f args ts hop
  rw [hop]
  exact aTt hE h hk
 ·rename_i t args ts hop
  rw [hop]
  split at h
  ·rename_i f cs hcal
   simp only [hcal]
   split at h
   ·rename_i ds hds
    split at h
    ·rename_i r hr
     injection h with h; subst h
     exact ⟨ds,r,hds,hE.call _ _ _ hr,hk⟩
    ·cases h
   ·cases h
  ·rename_i hcal
   simp only [hcal]
   split at h
   ·rename_i f d hfm
    simp only [hfm]
    split at h
    ·rename_i ds hds
     split at h
     ·rename_i r hr
      injection h with h; subst h
      exact ⟨ds,r,hds,hE.call _ _ _ hr,hk⟩
     ·cases h
    ·cases h
   ·cases h
 ·rename_i t name args ts hop
  rw [hop]
  split at h
  ·rename_i ty d hcal
   simp only [hcal]
   split at h
   ·rename_i f hme
    simp only [hme]
    split at h
    ·rename_i ds hds
     split at h
     ·rename_i r hr
      injection h with h; subst h
      exact ⟨ds,r,hds,hE.call _ _ _ hr,hk⟩
     ·cases h
    ·cases h
   ·cases h
  ·cases h
 ·rename_i args ts hop
  rw [hop]
  split at h
  ·rename_i s x t t' hargs hts
   simp only [hargs,hts]
   split at h
   ·rename_i htt
    refine ⟨htt,?_⟩
    split at h
    ·rename_i av nb cn hv; simp only [hv]; injection h with h; subst h; exact hk
    ·cases h
   ·cases h
  ·cases h
 ·rename_i args ts hop
  rw [hop]
  split at h
  ·rename_i m x t kt hargs hts
   simp only [hargs,hts]
   split at h
   ·rename_i id ho hv; simp only [hv]; injection h with h; subst h; exact hk
   ·cases h
  ·cases h
 ·rename_i args ts hop
  rw [hop]
  split at h
  ·cases h
  ·rename_i hlm
   simp only
   rw [if_neg hlm]
   split at h
   ·rename_i hkd
    split at h
    ·rename_i av nb hv
     injection h with h; subst h
     refine ⟨hkd,?_⟩
     simp only [hv]; exact hk
    ·cases h
   ·cases h
 ·rename_i op h1 h2 h3 h4 h9 h5 h8 h10 h6 h7 h11
  split at h
  ·rename_i hkd
   split at h
   ·rename_i av nb hv
    injection h with h; subst h
    split
    ·rename_i hop; exact (h1 _ _ hop).elim
    ·rename_i hop; exact (h2 _ _ _ _ hop).elim
    ·rename_i hop; rw [hop] at hkd; cases hkd
    ·rename_i hop; rw [hop] at hv; cases hv
    ·rename_i hop; exact (h3 _ _ _ hop).elim
    ·rename_i hop; exact (h4 _ _ _ _ hop).elim
    ·rename_i hop; exact (h9 _ _ _ _ hop).elim
    ·rename_i hop; exact (h5 _ _ _ hop).elim
    ·rename_i hop; exact (h8 _ _ _ hop).elim
    ·rename_i hop; exact (h10 _ _ _ _ hop).elim
    ·rename_i hop; exact (h6 _ _ hop).elim
    ·rename_i hop; exact (h7 _ _ hop).elim
    ·rename_i hop; exact (h11 _ _ hop).elim
    ·refine ⟨hkd,?_⟩
     simp only [hv]; exact hk
   ·cases h
  ·cases h
theorem zL {ops:Array Oper} {k:St→List Nat→Prop}:∀ (l:List Oper) (σ:St) (con:List Nat) (p:St × List Nat),OE P E ops l σ con=some p→k p.1 p.2→OW P ops l σ con k
 | [],σ,con,p,h,hk=>by unfold OE at h; injection h with h; subst h; exact hk
 | o::l,σ,con,p,h,hk=>by
  unfold OE at h
  unfold OW
  split at h
  ·rename_i hw
   simp only [hw]
   split at h
   ·rename_i q hq; exact aTu hE hq (zL l _ _ _ h hk)
   ·cases h
  ·rename_i hw
   simp only [hw]
   exact zL l _ _ _ h hk
  ·cases h
end
def fzp (H:Hp) (S:List Nat) (x:AV):AV :=
 match x with
 | .ptr id _=>if id∈S then (match frz H 8 x with
   | some (.pt cs)=>if (vis H 8 x).all (fun a=>decide (a∈S)) then .fp cs else .any
   | _=>.any) else if (H id).isSome then x else .any
 | .d y=>.d y
 | .fp cs=>.fp cs
 | _=>.any
def fz (H:Hp) (S:List Nat) (x:AV):AV :=
 match x with
 | .own id _ _ _=>if id∈S then (match frz H 8 x with
   | some d=>if (vis H 8 x).all (fun a=>decide (a∈S)) then .d d else .any
   | none=>.any) else if (H id).isSome then x else .any
 | .ptr id _=>if id∈S then (match frz H 8 x with
   | some (.pt cs)=>if (vis H 8 x).all (fun a=>decide (a∈S)) then .fp cs else .any
   | _=>.any) else if (H id).isSome then x else .any
 | .fn f cs=>.fn f (cs.map (fzp H S))
 | .mp id=>if id∈S then .any else if (H id).isSome then x else .any
 | .kf _ id=>if id∈S then .any else if (H id).isSome then x else .any
 | .ag _=>.any
 | .tp _=>.any
 | x=>x
def fzs (H:Hp) (S:List Nat) (x:AV):AV :=
 match x with
 | .ag cs=>.ag (cs.map (fz H S))
 | x=>fz H S x
def fzm (H:Hp) (S:List Nat) (x:AV):AV :=
 match frz H 8 x with
 | some d=>if (vis H 8 x).all (fun a=>decide (a∈S)) then .d d else .any
 | none=>.any
def fzO (H:Hp) (S:List Nat):HO→HO
 | .cells e cs=>.cells e (cs.map (fz H S))
 | .map k es=>.map k (es.map fun p=>(p.1,fzm H S p.2))
 | .iter k l es=>.iter k l es
def tL (S:List Nat) (σ:St):St:=⟨fun t=>fzs σ.H S (σ.Γ t),fun id=>if id∈S then none else (σ.H id).map (fzO σ.H S),σ.n⟩
theorem gW {S:List Nat} {σ:St} {id:Nat}:((tL S σ).H id).isSome=true↔id ∉ S∧(σ.H id).isSome=true:=by
 simp only [tL]
 by_cases h:id∈S <;> simp [h]
theorem gL {S:List Nat} {σ:St} (x:AV):mC σ.H (tL S σ).H (fun i=>i) x (fz σ.H S x):=by
 have key:∀ (x:AV) (d:D),frz σ.H 8 x=some d→(vis σ.H 8 x).all (fun a=>decide (a∈S))=true→mC σ.H (tL S σ).H (fun i=>i) x (.d d):=by
  intro x d h1 h2
  have:frz σ.H 8 x=some d∧∀ a∈vis σ.H 8 x,∀ id,((tL S σ).H id).isSome=true→id≠a:=by
   refine ⟨h1,fun a ha id hid e=>?_⟩
   have h3:=List.all_eq_true.1 h2 a ha
   simp only [decide_eq_true_eq] at h3
   exact (gW.1 hid).1 (e ▸ h3)
  cases x <;> exact this
 have keyP:∀ (x:AV) (d:D),frz σ.H 8 x=some d→(vis σ.H 8 x).all (fun a=>decide (a∈S))=true→frz σ.H 8 x=some d∧∀ a∈vis σ.H 8 x,∀ id,((tL S σ).H id).isSome=true→id≠a:=by
  intro x d h1 h2
  refine ⟨h1,fun a ha id hid e=>?_⟩
  have h3:=List.all_eq_true.1 h2 a ha
  simp only [decide_eq_true_eq] at h3
  exact (gW.1 hid).1 (e ▸ h3)
 have keyQ:∀ (x:AV),bJg σ.H (tL S σ).H (fun i=>i) x (fzp σ.H S x):=by
  intro x
  cases x with
  | ptr id off =>
   simp only [fzp]
   split
   ·split
    ·rename_i cs hd
     split
     ·exact keyP (.ptr id off) _ hd (by assumption)
     ·trivial
    ·trivial
   ·split
    ·exact ⟨rfl,rfl,gW.2 ⟨by assumption,by assumption⟩⟩
    ·trivial
  | d y=>exact keyP (.d y) y rfl rfl
  | fp cs=>exact keyP (.fp cs) _ rfl rfl
  | _=>trivial
 cases x with
 | own id off len sz =>
  simp only [fz]
  split
  ·split
   ·rename_i d hd
    split
    ·exact key _ d hd (by assumption)
    ·trivial
   ·trivial
  ·split
   ·exact ⟨rfl,rfl,rfl,rfl,gW.2 ⟨by assumption,by assumption⟩⟩
   ·trivial
 | ptr id off =>
  simp only [fz]
  split
  ·split
   ·rename_i cs hd
    split
    ·exact keyP (.ptr id off) _ hd (by assumption)
    ·trivial
   ·trivial
  ·split
   ·exact ⟨rfl,rfl,gW.2 ⟨by assumption,by assumption⟩⟩
   ·trivial
 | fn f cs =>
  refine ⟨rfl,by simp,fun k c d hc hd=>?_⟩
  rw [List.getElem?_map,hc] at hd
  injection hd with hd; subst hd
  exact keyQ c
 | mp id =>
  simp only [fz]
  split
  ·trivial
  ·split
   ·exact ⟨rfl,gW.2 ⟨by assumption,by assumption⟩⟩
   ·trivial
 | kf f id =>
  simp only [fz]
  split
  ·trivial
  ·split
   ·exact ⟨rfl,rfl,gW.2 ⟨by assumption,by assumption⟩⟩
   ·trivial
 | ag cs=>trivial
 | tp cs=>trivial
 | d y=>exact key _ y rfl rfl
 | nil=>trivial
 | fp cs=>exact keyP (.fp cs) _ rfl rfl
 | fd els=>rfl
 | un=>trivial
 | ub=>trivial
 | any=>trivial
theorem bHu (S:List Nat) (σ:St) (htop:∀ id,σ.n≤id→σ.H id=none):Wk σ (tL S σ) (fun i=>i):=by
 refine ⟨fun id h=>?_,fun t=>?_,fun id o' h=>?_,fun _ _ _ _ h=>h,fun _=>rfl,fun h=>h⟩
 ·simp only [tL] at h ⊢
  rw [htop id h]; simp
 ·show Sub σ.H (tL S σ).H (fun i=>i) (σ.Γ t) (fzs σ.H S (σ.Γ t))
  generalize σ.Γ t=x
  cases x with
  | ag cs =>
   refine ⟨by simp,fun k c d hc hd=>?_⟩
   rw [List.getElem?_map,hc] at hd
   injection hd with hd; subst hd
   exact gL c
  | d y=>exact gL (S:=S) (σ:=σ) (.d y)
  | nil=>exact gL (S:=S) (σ:=σ) .nil
  | un=>exact gL (S:=S) (σ:=σ) .un
  | ub=>exact gL (S:=S) (σ:=σ) .ub
  | any=>exact gL (S:=S) (σ:=σ) .any
  | fp cs=>exact gL (S:=S) (σ:=σ) (.fp cs)
  | fn f cs=>exact gL (S:=S) (σ:=σ) (.fn f cs)
  | fd els=>exact gL (S:=S) (σ:=σ) (.fd els)
  | tp cs=>exact gL (S:=S) (σ:=σ) (.tp cs)
  | own id off len sz =>
   have h:=gL (S:=S) (σ:=σ) (.own id off len sz)
   simp only [fzs]
   generalize fz σ.H S (.own id off len sz)=y at h
   cases y <;> exact h
  | ptr id off =>
   have h:=gL (S:=S) (σ:=σ) (.ptr id off)
   simp only [fzs]
   generalize fz σ.H S (.ptr id off)=y at h
   cases y <;> exact h
  | mp id =>
   have h:=gL (S:=S) (σ:=σ) (.mp id)
   simp only [fzs]
   generalize fz σ.H S (.mp id)=y at h
   cases y <;> exact h
  | kf f id =>
   have h:=gL (S:=S) (σ:=σ) (.kf f id)
   simp only [fzs]
   generalize fz σ.H S (.kf f id)=y at h
   cases y <;> exact h
 ·simp only [tL] at h
  split at h
  ·cases h
  ·obtain ⟨o,ho,rfl⟩:=Option.map_eq_some_iff.1 h
   refine ⟨o,ho,?_⟩
   cases o with
   | iter k l es=>exact ⟨rfl,rfl,rfl⟩
   | cells e cs =>
    refine ⟨rfl,by simp,fun k c d hc hd=>?_⟩
    rw [List.getElem?_map,hc] at hd
    injection hd with hd; subst hd
    exact gL c
   | map k es =>
    refine ⟨rfl,by simp,fun j x y hx hy=>?_⟩
    rw [List.getElem?_map,hx] at hy
    injection hy with hy; subst hy
    refine ⟨rfl,?_⟩
    simp only [fzm]
    split
    ·rename_i d hd
     split
     ·rename_i hv
      have:frz σ.H 8 x.2=some d∧∀ a∈vis σ.H 8 x.2,∀ id,((tL S σ).H id).isSome=true→id≠a:=by
       refine ⟨hd,fun a ha id hid e=>?_⟩
       have h3:=List.all_eq_true.1 hv a ha
       simp only [decide_eq_true_eq] at h3
       exact (gW.1 hid).1 (e ▸ h3)
      generalize x.2=z at this
      cases z <;> exact .inl this
     ·generalize x.2=z
      cases z <;> exact .inl trivial
    ·generalize x.2=z
     cases z <;> exact .inl trivial
def iter (body:St→Option (Exit × St)):Nat→St→Option (Exit × St)
 | 0,_=>none
 | n+1,σ=>match body σ with
  | some (.normal,σ')=>iter body n σ'
  | r=>r
def ex (P:Program) (E:Kn) (fuel:Nat):Code→St→Option (Exit × St)
 | .skip,σ=>some (.normal,σ)
 | .region _ ops _,σ=>match OE P E ops ops.toList σ [] with
  | some (σ',con)=>match con.filter (fun i=>decide (i<σ.n)) with
   | []=>some (.normal,fin σ' con)
   | i::S=>match OE P E ops ops.toList (tL (i::S) σ) [] with
    | some (σ2,con2)=>some (.normal,fin σ2 con2)
    | none=>some (.normal,fin σ' con)
  | none=>none
 | .seq x y,σ=>match ex P E fuel x σ with
  | some (.normal,σ')=>ex P E fuel y σ'
  | r=>r
 | .cond c x y,σ=>match oev σ.Γ c with
  | .d (.b true)=>ex P E fuel x σ
  | .d (.b false)=>ex P E fuel y σ
  | _=>none
 | .block id c,σ=>match ex P E fuel c σ with
  | some (.exit id',σ')=>if id'=id then some (.normal,σ') else some (.exit id',σ')
  | r=>r
 | .loop c,σ=>iter (ex P E fuel c) fuel σ
 | .exit id,σ=>some (.exit id,σ)
 | .ret,σ=>some (.ret,σ)
 | .label _,σ=>some (.normal,σ)
 | .scope c,σ=>match ex P E fuel c σ with
  | some (.goto _,_)=>none
  | r=>r
 | _,_=>none
section
variable {P:Program} [M:Mch P] {G:Ctx} {N:Nat} {ds:List Deferred} {E:Kn}
theorem aSq {rd:Bool} {WW:Code→(Exit→Act→World→Prop)→Act→World→Prop} (hW:WpR P rd WW) (hE:aEw P E) (hm:P.follows .mixedOrders=true) {z:Nat→Bool} (hz:∀ d v,G.Z d=some v→z d=true) (fuel:Nat) :
  ∀ (c:Code) (σ:St) (a:Act) (w:World) (e:Exit) (σ':St),bP N c=true→bO P c=true→fI z c=true→(rd=true→fP c=true)→ex P E fuel c σ=some (e,σ')→SR G N ds σ a w →
  WW c (fun e' a' w'=>e'=e∧SR G N ds σ' a' w') a w:=by
 intro c
 induction c with
 | skip=>intro σ a w e σ' _ _ _ _ h hs; simp only [ex,Option.some.injEq,Prod.mk.injEq] at h; obtain ⟨rfl,rfl⟩:=h; exact hW.skip ⟨rfl,hs⟩
 | region id ops draw =>
  intro σ a w e σ' hd hl hnz hnd h hs
  have one:∀ (σ0 σ1:St) (con:List Nat),OE P E ops ops.toList σ0 []=some (σ1,con)→SR G N ds σ0 a w→WW (.region id ops draw) (fun e' a' w'=>e'=.normal∧SR G N ds (fin σ1 con) a' w') a w:=by
   intro σ0 σ1 con hp hs0
   refine rB hW (Q:=fun s=>s=fin σ1 con) hm (rF hz hd hnz) hnd (fun hdr=>by simpa [bO,hdr] using hl) hs0 (zL hE _ _ _ _ hp rfl) ?_
   rintro σ' a' w' rfl hs'
   exact ⟨rfl,hs'⟩
  simp only [ex] at h
  split at h
  ·rename_i σ1 con hp
   split at h
   ·injection h with h; injection h with h1 h2; subst h1; subst h2
    exact one σ σ1 con hp hs
   ·rename_i i S hS
    split at h
    ·rename_i σ2 con2 hp2
     injection h with h; injection h with h1 h2; subst h1; subst h2
     exact one _ σ2 con2 hp2 (sR (bHu (i::S) σ hs.1) hs)
    ·injection h with h; injection h with h1 h2; subst h1; subst h2
     exact one σ σ1 con hp hs
  ·cases h
 | seq x y ihx ihy =>
  intro σ a w e σ' hd hl hnz hnd h hs
  simp only [bP,bO,fI,fP,Bool.and_eq_true] at hd hl hnz hnd
  simp only [ex] at h
  split at h
  ·rename_i σ1 h1
   refine hW.seq (hW.mono (ihx σ a w _ _ hd.1 hl.1 hnz.1 (fun e=>(hnd e).1) h1 hs) ?_)
   rintro e' a' w' ⟨rfl,hs'⟩
   exact ihy _ a' w' _ _ hd.2 hl.2 hnz.2 (fun e=>(hnd e).2) h hs'
  ·rename_i hne
   refine hW.seq (hW.mono (ihx σ a w _ _ hd.1 hl.1 hnz.1 (fun e=>(hnd e).1) h hs) ?_)
   rintro e' a' w' ⟨rfl,hs'⟩
   cases e' with
   | normal=>exact (hne _ h).elim
   | _=>exact ⟨rfl,hs'⟩
 | cond c x y ihx ihy =>
  intro σ a w e σ' hd hl hnz hnd h hs
  simp only [bP,bO,fI,fP,Bool.and_eq_true] at hd hl hnz hnd
  have hc:∀ t,oev σ.Γ c=.d (.b t)→a.eval c=.bool t:=by
   intro t ht
   obtain ⟨_,_,_,F,ι,_,_,hV,_⟩:=hs
   have:=cH (Γ:=σ.Γ) (a:=a) (x:=c) (F:=F) (w:=w) (ι:=ι) fun t _=>hV t
   rw [ht] at this
   generalize a.eval c=v at this
   cases this with | d _ _ h=>cases h; rfl
  simp only [ex] at h
  split at h
  ·rename_i ht; exact hW.cond (hc _ ht) (ihx σ a w _ _ hd.1 hl.1 hnz.1 (fun e=>(hnd e).1) h hs)
  ·rename_i ht; exact hW.cond (hc _ ht) (ihy σ a w _ _ hd.2 hl.2 hnz.2 (fun e=>(hnd e).2) h hs)
  ·cases h
 | block id c ih =>
  intro σ a w e σ' hd hl hnz hnd h hs
  simp only [ex] at h
  split at h
  ·rename_i id' σ1 h1
   refine hW.block (hW.mono (ih σ a w _ _ hd hl hnz hnd h1 hs) ?_)
   rintro e' a' w' ⟨rfl,hs'⟩
   simp only [Exit.inBlock]
   split at h
   ·rename_i he; injection h with h; injection h with h1 h2; subst h1; subst h2; rw [if_pos he]; exact ⟨rfl,hs'⟩
   ·rename_i he; injection h with h; injection h with h1 h2; subst h1; subst h2; rw [if_neg he]; exact ⟨rfl,hs'⟩
  ·rename_i hne
   refine hW.block (hW.mono (ih σ a w _ _ hd hl hnz hnd h hs) ?_)
   rintro e' a' w' ⟨rfl,hs'⟩
   cases e' with
   | exit id'=>exact (hne _ _ h).elim
   | _=>exact ⟨rfl,hs'⟩
 | loop c ih =>
  intro σ a w e σ' hd hl hnz hnd h hs
  simp only [ex] at h
  refine hW.loop (fun n a w=>∃ σ,iter (ex P E fuel c) n σ=some (e,σ')∧SR G N ds σ a w) ⟨fuel,σ,h,hs⟩ ?_
  rintro n a w ⟨σ1,h1,hs1⟩
  cases n with
  | zero=>cases h1
  | succ n =>
   simp only [iter] at h1
   split at h1
   ·rename_i σ2 h2
    refine hW.mono (ih σ1 a w _ _ hd hl hnz hnd h2 hs1) ?_
    rintro e' a' w' ⟨rfl,hs'⟩
    exact ⟨n,Nat.lt_succ_self n,_,h1,hs'⟩
   ·rename_i hne
    refine hW.mono (ih σ1 a w _ _ hd hl hnz hnd h1 hs1) ?_
    rintro e' a' w' ⟨rfl,hs'⟩
    cases e' with
    | normal=>exact (hne _ h1).elim
    | _=>exact ⟨rfl,hs'⟩
 | exit id=>intro σ a w e σ' _ _ _ _ h hs; simp only [ex,Option.some.injEq,Prod.mk.injEq] at h; obtain ⟨rfl,rfl⟩:=h; exact hW.exit ⟨rfl,hs⟩
 | ret=>intro σ a w e σ' _ _ _ _ h hs; simp only [ex,Option.some.injEq,Prod.mk.injEq] at h; obtain ⟨rfl,rfl⟩:=h; exact hW.ret ⟨rfl,hs⟩
 | label l=>intro σ a w e σ' _ _ _ _ h hs; simp only [ex,Option.some.injEq,Prod.mk.injEq] at h; obtain ⟨rfl,rfl⟩:=h; exact hW.label ⟨rfl,hs⟩
 | scope c ih =>
  intro σ a w e σ' hd hl hnz hnd h hs
  simp only [ex] at h
  split at h
  ·cases h
  ·rename_i hne
   have hrd:rd=false:=by
    cases rd with
    | false=>rfl
    | true=>exact absurd (hnd rfl) (by simp [fP])
   refine hW.scope hrd (hW.mono (ih σ a w _ _ hd hl hnz (fun e=>by rw [hrd] at e; cases e) h hs) ?_)
   rintro e' a' w' ⟨rfl,hs'⟩
   cases e' with
   | goto l=>exact (hne _ _ h).elim
   | _=>exact ⟨rfl,hs'⟩
 | _=>intro σ a w e σ' _ _ _ _ h; cases h
theorem yI (hE:aEw P E) (hm:P.follows .mixedOrders=true) (hZ:∀ d,G.Z d=none) (fuel:Nat) (c:Code) (σ:St) (a:Act) (w:World) (e:Exit) (σ':St) (hd:bP N c=true) (hl:bO P c=true) (h:ex P E fuel c σ=some (e,σ')) (hs:SR G N ds σ a w) :
  WC P c (fun e' a' w'=>e'=e∧SR G N ds σ' a' w') a w :=
 aSq (WpR.plain P) hE hm (z:=fun _=>false) (fun d v e=>by rw [hZ] at e; cases e) fuel c σ a w e σ' hd hl (sI c) (fun e=>by cases e) h hs
end
def aSl (P:Program) (fn:Func) (c:Code):Bool:=bP fn.ntmps c && bO P c && !(fn.name == "runtime.NumGoroutine")
theorem aJx {P:Program} [M:Mch P] {f N:Nat} {fn:Func} {c:Code} {args:List D} {r:D} {e:Exit} {σ:St} (hf:P.funcs[f]? = some fn) (hb:fn.body=some c) (hname:(fn.name == "runtime.NumGoroutine")=false) (hN:fn.ntmps=N)
  (ha:args.length≤N) (h:∀ (G:Ctx) (a:Act) (w:World),(∀ d,G.Z d=none)→SR G N [] (St0 args N) a w→WC P c (fun e' a' w'=>e'=e∧SR G N [] σ a' w') a w) (he:e=.normal∨e=.ret) (hr:iS P fn.results.toList σ=some r):Spec P f args r:=by
 intro A W vs hA hl hv
 have hn:¬ fn.name = "runtime.NumGoroutine" := by simpa using hname
 refine ⟨fun w=>by simp [callFunc,hf,hn,hb],?_⟩
 refine iJ hf hb ?_
 subst hN
 refine (WpR.plain P).okv fun hok=>cI (h _ _ _ (fun _=>rfl) (SR0 hok hA hl hv ha)) ?_
 rintro e' a w ⟨rfl,hs⟩
 have hend:a.defers=[]∧∀ v1,Env w v1→∃ x,aM P (results fn a.tmps) v1=.ok x v1∧Below W.heap.size W v1∧VD (fun b=>A b∨(W.heap.size≤b∧b<v1.heap.size)) v1 r x:=by
  refine ⟨hs.2.2.2.elim fun _ h=>h.elim fun _ h=>h.2.2.2.2.1,fun v1 he=>?_⟩
  have hs1:=hs.env he
  obtain ⟨v,hrun,hvd⟩:=eO hs1 hr
  obtain ⟨_,_,_,F,ι,hR,_,_,_,hdf,_⟩:=hs1
  refine ⟨v,hrun,⟨hR.kept.os,hR.kept.tape,hR.kept.output,hR.kept.size,fun k hk=>hR.kept.block k hk (fun h=>h)⟩,hvd.mono ?_⟩
  rintro b (h | h | h)
  ·exact .inl h
  ·exact h.elim
  ·exact .inr h
 rcases he with rfl | rfl <;> exact hend
def bIa (P:Program) (fn:Func):Option (Exit × St)→Option D
 | some (.normal,σ)=>iS P fn.results.toList σ
 | some (.ret,σ)=>iS P fn.results.toList σ
 | _=>none
def bLp (P:Program) (E:Kn) (fuel:Nat) (f:FuncId) (args:List D):Option D :=
 match P.funcs[f]? with
 | none=>none
 | some fn=>match fn.body with
  | none=>none
  | some c=>if aSl P fn c && decide (args.length≤fn.ntmps) then bIa P fn (ex P E fuel c (St0 args fn.ntmps)) else none
def aWu (P:Program) (E:Kn) (fuel:Nat) (f:FuncId) (h:AV) (o:HO) (args:List D):Option (HO × D) :=
 match P.funcs[f]? with
 | none=>none
 | some fn=>match fn.body,o with
  | some c,.map _ _=>if aSl P fn c && decide (args.length+1≤fn.ntmps) then match ex P E fuel c (St1 h o args fn.ntmps) with
   | some (e,σ)=>match σ.H 0,bIa P fn (some (e,σ)) with
    | some (.map k es),some r=>if kJ (.map k es) && nmB 8 r then some (.map k es,r) else none
    | _,_=>none
   | none=>none
   else none
  | _,_=>none
theorem tN {P:Program} {fn:Func} {e:Exit} {σ:St} {r:D} (h:bIa P fn (some (e,σ))=some r):(e=.normal∨e=.ret)∧iS P fn.results.toList σ=some r:=by
 cases e <;> first | exact ⟨.inl rfl,h⟩ | exact ⟨.inr rfl,h⟩ | cases h
theorem aKi {P:Program} [M:Mch P] {E:Kn} {fuel:Nat} (hm:P.follows .mixedOrders=true) (hE:aEw P E) {f:FuncId} {args:List D} {r:D} (h:bLp P E fuel f args=some r):Spec P f args r:=by
 unfold bLp at h
 split at h
 ·cases h
 rename_i fn hfn
 split at h
 ·cases h
 rename_i c hc
 split at h
 case isFalse=>cases h
 rename_i hok
 simp only [aSl,Bool.and_eq_true,Bool.not_eq_true',decide_eq_true_eq] at hok
 obtain ⟨⟨⟨h1,h2⟩,h3⟩,h4⟩:=hok
 cases hex:ex P E fuel c (St0 args fn.ntmps) with
 | none=>rw [hex] at h; cases h
 | some p =>
  obtain ⟨e,σ⟩:=p
  rw [hex] at h
  obtain ⟨he,hr⟩:=tN h
  exact aJx hfn hc h3 rfl h4 (fun G a w hZ hs=>yI hE hm hZ fuel c _ a w _ _ h1 h2 hex hs) he hr
theorem aFv {P:Program} [M:Mch P] {E:Kn} {fuel:Nat} (hm:P.follows .mixedOrders=true) (hE:aEw P E) {f:FuncId} {h0:AV} {o o':HO} {args:List D} {r:D} (h:aWu P E fuel f h0 o args=some (o',r)):jH P f h0 o args o' r:=by
 unfold aWu at h
 split at h
 ·cases h
 rename_i fn hfn
 split at h
 case h_2=>cases h
 rename_i c kd es hc
 split at h
 case isFalse=>cases h
 rename_i hok
 simp only [aSl,Bool.and_eq_true,Bool.not_eq_true',decide_eq_true_eq] at hok
 obtain ⟨⟨⟨h1,h2⟩,h3⟩,h4⟩:=hok
 split at h
 case h_2=>cases h
 rename_i e σ hex
 split at h
 case h_2=>cases h
 rename_i k1 es1 r1 hH hr
 split at h
 case isFalse=>cases h
 rename_i hfl
 rw [Bool.and_eq_true] at hfl
 obtain ⟨hfl,hnm⟩:=hfl
 injection h with h; injection h with e1 e2; subst e1; subst e2
 have hr2:=tN hr
 obtain ⟨he,hr3⟩:=hr2
 refine aXk hfn hc h3 rfl h4 ⟨_,_,rfl⟩ ⟨_,_,rfl⟩ hfl (aDr _ _ hnm) fun G a w hZ hs=>cI (yI hE hm hZ fuel c _ a w _ _ h1 h2 hex hs) ?_
 rintro e' a' w' ⟨rfl,hs'⟩
 exact ⟨σ,⟨he,hr3,hH⟩,hs'⟩
end Go.Am
end
section
open List renaming map_map→ζ,mapM_map→ξ
namespace Go.Am
variable {P:Program} [M:Mch P]
@[congr] theorem bNy {c:Code} {σ σ':St} {Q:Exit→St→Prop} (h:σ=σ'):AWP P c σ Q=AWP P c σ' Q:=by rw [h]
theorem aIi (σ:St) (Q:Exit→St→Prop):AWP P .skip σ Q=Q .normal σ:=rfl
theorem aPf (x y:Code) (σ:St) (Q:Exit→St→Prop):AWP P (.seq x y) σ Q=AWP P x σ fun e σ'=>match e with | .normal=>AWP P y σ' Q | e=>Q e σ':=rfl
theorem aCj (id:Nat) (c:Code) (σ:St) (Q:Exit→St→Prop):AWP P (.block id c) σ Q=AWP P c σ fun e σ'=>match e with | .exit id'=>if id'=id then Q .normal σ' else Q (.exit id') σ' | e=>Q e σ':=rfl
theorem aIj (id:Nat) (σ:St) (Q:Exit→St→Prop):AWP P (.exit id) σ Q=Q (.exit id) σ:=rfl
theorem aPg (σ:St) (Q:Exit→St→Prop):AWP P .ret σ Q=Q .ret σ:=rfl
theorem aCh (l:Nat) (σ:St) (Q:Exit→St→Prop):AWP P (.label l) σ Q=Q .normal σ:=rfl
theorem aCf (c:Code) (σ:St) (Q:Exit→St→Prop):AWP P (.scope c) σ Q=AWP P c σ fun e σ'=>match e with | .goto _=>False | e=>Q e σ':=rfl
def IfA (t:Bool) (A B:Prop):Prop:=if t then A else B
@[congr] theorem bNx {t t':Bool} {A B:Prop} (h:t=t'):IfA t A B=IfA t' A B:=by rw [h]
def bKf (P:Program) [M:Mch P] (f:FuncId) (avs:List AV) (H:Hp) (k:D→Prop):Prop:=∃ ds r,cL H avs=some ds∧Spec P f ds r∧k r
@[congr] theorem bJz {f:FuncId} {avs avs':List AV} {H H':Hp} {k:D→Prop} (h:avs=avs') (h2:H=H'):bKf P f avs H k=bKf P f avs' H' k:=by rw [h,h2]
theorem bHp (H:Hp) (n id off len sz:Nat):frz H (n+1) (.own id off len sz)=match H id with
  | some (.cells _ cs)=>if (off+len) * sz≤cs.length∧0<sz then (((cs.drop (off * sz)).take (len * sz)).mapM (frz H n)).map fun l=>.sl (chunk sz len l) else none
  | _=>none:=rfl
theorem bNa (H:Hp) (n:Nat) (els:List (List D)):frz H (n+1) (.fd els)=some (.sl els):=rfl
theorem bHq (H:Hp) (n:Nat):frz H (n+1) .nil=some (.sl []):=rfl
theorem bAb (H:Hp) (n:Nat) (x:D):frz H (n+1) (.d x)=some x:=rfl
theorem aAt (l:List Nat) (ds:List D):(ds.map AV.d).map (dW l)=ds.map AV.d:=by simp [dW,Function.comp_def]
theorem aLg (H:Hp) (n:Nat):∀ (ds:List D),(ds.map AV.d).mapM (frz H (n+1))=some ds
 | []=>rfl
 | d::ds=>by rw [List.map_cons,List.mapM_cons,aLg H n ds,bAb]; rfl
theorem aFc:∀ (n:Nat) (x:AV),vis (fun _=>none) n x=[]
 | 0,_=>rfl
 | n+1,x=>by
  have ih:=aFc n
  cases x <;> simp [vis,ih]
theorem aLm (avs:List AV) (r:D):bC (fun _=>none) avs r=[]:=by
 unfold bC cG
 split
 ·rfl
 ·simp [aFc]
end Go.Am
end
section
open List renaming map_map→ζ,mapM_map→ξ
namespace Go.Am
def kI:List (Nat × AV)→Nat→AV
 | []=>fun _=>.any
 | p::l=>upd (kI l) p.1 p.2
def vI:Nat→List HO→Hp
 | _,[]=>fun _=>none
 | i,o::os=>upd (vI (i+1) os) i (some o)
def bJa (o0:Option HO) (H:Hp):Hp:=match o0 with
 | none=>H
 | some o=>upd H 0 (some o)
def StL (sl:List (Nat × AV)) (o0:Option HO) (hs:List HO):St:=⟨kI sl,bJa o0 (vI 1 hs),hs.length+1⟩
theorem oR:∀ (hs:List HO) (i j:Nat),vI i hs j=if i≤j then hs[j - i]? else none
 | [],i,j=>by simp [vI]
 | o::os,i,j=>by
  unfold vI upd
  by_cases h:j=i
  ·subst h; simp
  ·rw [if_neg h,oR os (i+1) j]
   by_cases h1:i+1≤j
   ·rw [if_pos h1,if_pos (by omega),show j - i=(j - (i+1))+1 from by omega,List.getElem?_cons_succ]
   ·rw [if_neg h1,if_neg (by omega)]
theorem bNs (sl:List (Nat × AV)) (o0:Option HO) (hs:List HO):(StL sl o0 hs).H 0=o0:=by
 unfold StL bJa
 cases o0 with
 | none=>simp [oR]
 | some o=>rfl
theorem aMv (sl:List (Nat × AV)) (o0:Option HO) (hs:List HO) (i:Nat):(StL sl o0 hs).H (i+1)=hs[i]? := by
 unfold StL bJa
 cases o0 with
 | none=>simp [oR]
 | some o=>simp [upd,oR]
theorem qX:∀ (l:List (Nat × AV)) (t:Nat),kI l t=.any∨∃ p∈l,p.1=t∧kI l t=p.2
 | [],t=>.inl rfl
 | p::l,t=>by
  by_cases h:t=p.1
  ·exact .inr ⟨p,List.mem_cons_self ..,h.symm,by simp [kI,upd,h]⟩
  ·have e:kI (p::l) t=kI l t:=by simp [kI,upd,h]
   rw [e]
   rcases qX l t with h | ⟨q,hq,h⟩
   ·exact .inl h
   ·exact .inr ⟨q,List.mem_cons_of_mem _ hq,h⟩
def vG (rs:List Nat):Nat→Nat:=fun id=>match id with | 0=>0 | i+1=>rs.getD i 0
def jJ (H H':Hp) (ρ:Nat→Nat) (Γ:Nat→AV):List (Nat × AV)→Prop
 | []=>True
 | p::l=>Sub H H' ρ (Γ p.1) p.2∧jJ H H' ρ Γ l
def tS (H H':Hp) (ρ:Nat→Nat):List Nat→List HO→Prop
 | [],[]=>True
 | r::rs,o::os=>(∃ o0,H r=some o0∧sP H H' ρ o0 o)∧tS H H' ρ rs os
 | _,_=>False
theorem kL {H H':Hp} {ρ:Nat→Nat} {Γ:Nat→AV}:∀ {l:List (Nat × AV)},jJ H H' ρ Γ l→∀ p∈l,Sub H H' ρ (Γ p.1) p.2
 | p::l,h,q,hq=>by
  rcases List.mem_cons.1 hq with rfl | hq
  ·exact h.1
  ·exact kL h.2 q hq
theorem yW {H H':Hp} {ρ:Nat→Nat}:∀ {rs:List Nat} {os:List HO},tS H H' ρ rs os→rs.length=os.length∧∀ (i:Nat) o,os[i]? = some o→∃ o0,H (rs.getD i 0)=some o0∧sP H H' ρ o0 o
 | [],[],_=>⟨rfl,fun i o h=>by simp at h⟩
 | r::rs,o::os,h=>by
  obtain ⟨h1,h2⟩:=h
  obtain ⟨q1,q2⟩:=yW h2
  refine ⟨by simp [q1],fun i o' hi=>?_⟩
  rcases i with _ | i
  ·simp at hi; subst hi; simpa using h1
  ·simpa using q2 i o' (by simpa using hi)
 | [],_::_,h=>h.elim
 | _::_,[],h=>h.elim
theorem wB {l:List Nat} {i:Nat} (h:i<l.length):l.getD i 0=l[i]:=by
 rw [List.getD_eq_getElem?_getD,List.getElem?_eq_getElem h]; rfl
theorem vP {H H':Hp} {ρ:Nat→Nat} (x:AV):Sub H H' ρ x .any:=by cases x <;> trivial
theorem aNd {σ:St} {sl:List (Nat × AV)} {o0:Option HO} {hs:List HO} (rs:List Nat) (hnd:(0::rs).Nodup)
  (hslot:jJ σ.H (StL sl o0 hs).H (vG rs) σ.Γ sl) (h0:∀ o',o0=some o'→∃ o,σ.H 0=some o∧sP σ.H (StL sl o0 hs).H (vG rs) o o')
  (hblk:tS σ.H (StL sl o0 hs).H (vG rs) rs hs):Wk σ (StL sl o0 hs) (vG rs):=by
 obtain ⟨hlen,hget⟩:=yW hblk
 have hlt:∀ i,(((StL sl o0 hs).H (i+1)).isSome=true)→i<rs.length:=fun i h=>by
  rw [hlen]
  rw [aMv] at h
  rcases Nat.lt_or_ge i hs.length with h' | h'
  ·exact h'
  ·rw [List.getElem?_eq_none h'] at h; cases h
 have hno:∀ i,i<rs.length→rs.getD i 0≠0:=fun i hi h=>by
  have:rs[i]∈rs:=List.getElem_mem hi
  rw [wB hi] at h
  rw [h] at this
  exact (List.nodup_cons.1 hnd).1 this
 refine ⟨fun id h=>?_,fun t=>?_,fun id o' h=>?_,fun id id' h h' e=>?_,fun _=>rfl,fun h=>by simp [StL] at h⟩
 ·cases id with
  | zero=>simp [StL] at h
  | succ i=>rw [aMv]; simp only [StL] at h; exact List.getElem?_eq_none (by omega)
 ·show Sub _ _ _ _ (kI sl t)
  rcases qX sl t with h | ⟨p,hp,rfl,h⟩
  ·rw [h]; exact vP _
  ·rw [h]; exact kL hslot _ hp
 ·cases id with
  | zero=>rw [bNs] at h; exact h0 o' h
  | succ i=>rw [aMv] at h; exact hget i o' h
 ·cases id with
  | zero=>cases id' with
   | zero=>rfl
   | succ j=>exact absurd e.symm (hno j (hlt j h'))
  | succ i=>cases id' with
   | zero=>exact absurd e (hno i (hlt i h))
   | succ j =>
    have hi:=hlt i h
    have hj:=hlt j h'
    simp only [vG] at e
    rw [wB hi,wB hj] at e
    have:=(List.getElem_inj (List.nodup_cons.1 hnd).2).1 e
    rw [this]
theorem bQo {σ:St} {sl:List (Nat × AV)} {hs:List HO} (rs:List Nat) (hnd:(0::rs).Nodup)
  (hslot:jJ σ.H (StL sl none hs).H (vG rs) σ.Γ sl) (hblk:tS σ.H (StL sl none hs).H (vG rs) rs hs):∃ ρ,Wk σ (StL sl none hs) ρ :=
 ⟨_,aNd rs hnd hslot (fun _ h=>by cases h) hblk⟩
theorem wkQ {σ:St} {sl:List (Nat × AV)} {hs:List HO} (rs:List Nat) (hslot:jJ σ.H (StL sl none hs).H (vG rs) σ.Γ sl) (hblk:tS σ.H (StL sl none hs).H (vG rs) rs hs) (hnd:(0::rs).Nodup:=by simp):∃ ρ,Wk σ (StL sl none hs) ρ:=bQo rs hnd hslot hblk
theorem aAq {H H':Hp} {ρ:Nat→Nat} (e:TypeId) (l:List D):sP H H' ρ (.cells e (l.map .d)) (.cells e (l.map .d)):=by
 refine ⟨rfl,rfl,fun k c d h1 h2=>?_⟩
 rw [h1] at h2; injection h2 with h2; subst h2
 rw [List.getElem?_map] at h1
 obtain ⟨x,_,rfl⟩:=Option.map_eq_some_iff.1 h1
 exact ⟨rfl,fun a ha=>by simp [vis] at ha⟩
theorem aJq {H H':Hp} {ρ:Nat→Nat} {e:TypeId} {l:List D} {c c':List AV} (h:c=l.map .d) (h':c'=l.map .d):sP H H' ρ (.cells e c) (.cells e c'):=by
 subst h; subst h'; exact aAq e l
theorem bOk {H H':Hp} {ρ:Nat→Nat} (x:D):Sub H H' ρ (.d x) (.d x):=⟨rfl,fun a ha=>by simp [vis] at ha⟩
theorem bLc {H H':Hp} {ρ:Nat→Nat} {x y:D} (h:x=y):Sub H H' ρ (.d x) (.d y):=h ▸ bOk x
theorem aAp {H H':Hp} {ρ:Nat→Nat} (x y:D):Sub H H' ρ (.d x) (.d y)↔x=y:=by
 constructor
 ·intro h
  have:frz H 8 (.d x)=some y:=h.1
  rw [bAb] at this
  injection this
 ·exact bLc
theorem aFj {H H':Hp} {ρ:Nat→Nat} {a o l s b o' l' s':Nat}:Sub H H' ρ (.own a o l s) (.own b o' l' s')↔(a=ρ b∧o=o'∧l=l'∧s=s'∧(H' b).isSome=true):=Iff.rfl
theorem aFi {H H':Hp} {ρ:Nat→Nat} {a o b o':Nat}:Sub H H' ρ (.ptr a o) (.ptr b o')↔(a=ρ b∧o=o'∧(H' b).isSome=true):=Iff.rfl
theorem aJp {H H':Hp} {ρ:Nat→Nat} {a b:Nat}:Sub H H' ρ (.mp a) (.mp b)↔(a=ρ b∧(H' b).isSome=true):=Iff.rfl
theorem bEb {H H':Hp} {ρ:Nat→Nat}:Sub H H' ρ .nil .nil↔True:=Iff.rfl
theorem bLb {H H':Hp} {ρ:Nat→Nat}:Sub H H' ρ .un .un↔True:=Iff.rfl
theorem aNj {H H':Hp} {ρ:Nat→Nat} {x:AV} {y:D} (h:frz H 8 x=some y) (hv:∀ a∈vis H 8 x,∀ id,(H' id).isSome=true→ρ id≠a):Sub H H' ρ x (.d y):=by
 have h2:mC H H' ρ x (.d y):=by cases x <;> exact ⟨h,hv⟩
 cases x <;> exact h2
/-! Cells -/
theorem iV (l:List D) (off:Nat) (x:D) (h:off<l.length):lay (l.map AV.d) off [.d x]=(l.set off x).map .d:=by
 have h1:off+[AV.d x].length≤(l.map AV.d).length:=by rw [List.length_map]; exact h
 apply List.ext_getElem?
 intro k
 rw [aDx h1,List.getElem?_map,List.getElem?_map,List.getElem?_set]
 by_cases e:off=k
 ·subst e; simp [h]
 ·rw [if_neg e,if_neg]
  simp only [List.length_singleton]; omega
theorem tQ (l:List D) (n:Nat) (h:n=l.length):chunk 1 n l=l.map fun x=>[x]:=by
 subst h
 unfold chunk
 apply List.ext_getElem?
 intro k
 by_cases hk:k<l.length
 ·simp only [List.getElem?_map,List.getElem?_range hk,Option.map_some,Nat.mul_one,List.getElem?_eq_getElem hk]
  congr 1
  rw [List.drop_eq_getElem_cons hk]; rfl
 ·rw [List.getElem?_eq_none (by simpa using hk),List.getElem?_eq_none (by simpa using hk)]
theorem aXa (n:Nat) (x:D):(List.replicate n [AV.d x]).flatten=(List.replicate n x).map .d:=by
 induction n with
 | zero=>rfl
 | succ n ih=>simp only [List.replicate_succ,List.flatten_cons,ih]; rfl
theorem bNc (H:Hp) (n:Nat) (cs:List AV):frz H (n+1) (.ag cs)=(cs.mapM (frz H n)).map .ag:=rfl
def eZ (H H':Hp) (ρ:Nat→Nat):List AV→List AV→Prop
 | [],[]=>True
 | c::cs,d::ds=>mC H H' ρ c d∧eZ H H' ρ cs ds
 | _,_=>False
theorem gZ {H H':Hp} {ρ:Nat→Nat}:∀ {cs ds:List AV},eZ H H' ρ cs ds↔(cs.length=ds.length∧∀ (k:Nat) c d,cs[k]? = some c→ds[k]? = some d→mC H H' ρ c d)
 | [],[]=>by simp [eZ]
 | c::cs,d::ds=>by
  rw [eZ,gZ]
  constructor
  ·rintro ⟨h1,h2,h3⟩
   refine ⟨by simp [h2],fun k a b ha hb=>?_⟩
   rcases k with _ | k
   ·simp at ha hb; subst ha; subst hb; exact h1
   ·exact h3 k a b (by simpa using ha) (by simpa using hb)
  ·rintro ⟨h1,h2⟩
   exact ⟨h2 0 c d rfl rfl,by simpa using h1,fun k a b ha hb=>h2 (k+1) a b (by simpa using ha) (by simpa using hb)⟩
 | [],_::_=>by simp [eZ]
 | _::_,[]=>by simp [eZ]
theorem gK {H H':Hp} {ρ:Nat→Nat} {e e':TypeId} {cs ds:List AV}:sP H H' ρ (.cells e cs) (.cells e' ds)↔(e=e'∧eZ H H' ρ cs ds):=by
 rw [gZ]; rfl
theorem qB {H H':Hp} {ρ:Nat→Nat} (x y:D):mC H H' ρ (.d x) (.d y)↔x=y:=aAp x y
theorem aVg {H H':Hp} {ρ:Nat→Nat}:mC H H' ρ .nil .nil↔True:=Iff.rfl
theorem bEe {H H':Hp} {ρ:Nat→Nat}:mC H H' ρ .un .un↔True:=Iff.rfl
theorem aEo {H H':Hp} {ρ:Nat→Nat} {c c':List AV} {l:List D} (h:c=l.map .d) (h':c'=l.map .d):eZ H H' ρ c c':=by
 have:=aJq (H:=H) (H':=H') (ρ:=ρ) (e:=0) h h'
 exact (gK.1 this).2
theorem aIb {H H':Hp} {ρ:Nat→Nat} {l l':List D}:eZ H H' ρ (l.map .d) (l'.map .d)↔l=l':=by
 constructor
 ·intro h
  obtain ⟨h1,h2⟩:=gZ.1 h
  apply List.ext_getElem?
  intro k
  by_cases hk:k<l.length
  ·have hk':k<l'.length:=by simpa using (by simpa using h1:l.length=l'.length) ▸ hk
   have:=h2 k (.d l[k]) (.d l'[k]) (by simp [hk]) (by simp [hk'])
   rw [qB] at this
   rw [List.getElem?_eq_getElem hk,List.getElem?_eq_getElem hk',this]
  ·have hl:l.length=l'.length:=by simpa using h1
   have hk':¬ k<l'.length:=by omega
   rw [List.getElem?_eq_none (by omega),List.getElem?_eq_none (by omega)]
 ·rintro rfl; exact aEo rfl rfl
theorem aVf {H H':Hp} {ρ:Nat→Nat} {k:IntKind} {es:List (Int × AV)} (h:∀ x∈es,Sub H H' ρ x.2 x.2):sP H H' ρ (.map k es) (.map k es):=by
 refine ⟨rfl,rfl,fun j x y hx hy=>?_⟩
 rw [hx] at hy; injection hy with hy; subst hy
 exact ⟨rfl,.inr (h x (List.mem_of_getElem? hx))⟩
theorem aEn {H H':Hp} {ρ:Nat→Nat} {l:List D} {c c':List AV}:eZ H H' ρ (l.map .d++c) (l.map .d++c')↔eZ H H' ρ c c':=by
 induction l with
 | nil=>rfl
 | cons x l ih=>simp only [List.map_cons,List.cons_append,eZ,ih,qB,true_and]
end Go.Am
end
section
open List renaming map_map→ζ,mapM_map→ξ
namespace Go.Am
variable {P:Program} [M:Mch P]
inductive Dm {α:Sort _} (a:α):Type where
 | mk
def cJ {α:Type} (x:Option α) (k:α→Prop) (_:Dm k):Prop:=match x with | some a=>k a | none=>False
theorem aMn {α:Type} (a:α) (k:α→Prop) (d:Dm k):cJ (some a) k d=k a:=rfl
def IfD (t:Bool) (A B:Prop) (_:Dm (A,B)):Prop:=if t then A else B
theorem aZr (A B:Prop) (d:Dm (A,B)):IfD true A B d=A:=rfl
theorem aSh (A B:Prop) (d:Dm (A,B)):IfD false A B d=B:=by simp [IfD]
def OWd (P:Program) [M:Mch P] (ops:Array Oper) (l:List Oper) (σ:St) (con:List Nat) (k:St→List Nat→Prop) (_:Dm (ops,l,k)):Prop:=OW P ops l σ con k
def O1d (P:Program) [M:Mch P] (o:Oper) (σ:St) (con:List Nat) (k:St→List Nat→Prop) (_:Dm (o,k)):Prop:=O1 P o σ con k
def aIu (σ:St) (con:List Nat) (k:St→Prop) (_:Dm k):Prop:=k (fin σ con)
theorem aY (σ:St) (k:St→Prop) (d:Dm k):aIu σ [] k d=k σ:=rfl
theorem aSn (σ:St) (c:Nat) (l:List Nat) (k:St→Prop) (d:Dm k):aIu σ (c::l) k d=k ⟨fun t=>iO (c::l) (σ.Γ t),fun id=>(σ.H id).map (fZ (c::l)),σ.n⟩:=rfl
def bCs (P:Program) [M:Mch P] (v:AV) (x y:Code) (σ:St) (Q:Exit→St→Prop) (_:Dm (x,y,Q)):Prop:=match v with | .d (.b t)=>IfD t (AWP P x σ Q) (AWP P y σ Q) .mk | .ub=>AWP P x σ Q∧AWP P y σ Q | _=>False
theorem bIo (t:Bool) (x y:Code) (σ:St) (Q:Exit→St→Prop) (d:Dm (x,y,Q)):bCs P (.d (.b t)) x y σ Q d=IfD t (AWP P x σ Q) (AWP P y σ Q) .mk:=rfl
theorem bAw (x y:Code) (σ:St) (Q:Exit→St→Prop) (d:Dm (x,y,Q)):bCs P .ub x y σ Q d=(AWP P x σ Q∧AWP P y σ Q):=rfl
theorem aCi (c:Operand) (x y:Code) (σ:St) (Q:Exit→St→Prop):AWP P (.cond c x y) σ Q=bCs P (oev σ.Γ c) x y σ Q .mk:=rfl
theorem uV (id:Nat) (l:List Oper) (draw:Bool) (σ:St) (Q:Exit→St→Prop):AWP P (.region id l.toArray draw) σ Q=OWd P l.toArray l σ [] (fun σ' con=>aIu σ' con (Q .normal) .mk) .mk:=rfl
def aIs (P:Program) [M:Mch P] (c:Code) (σ:St) (Q:Exit→St→Prop) (_:Dm (c,Q)):Prop:=AWP P (.loop c) σ Q
theorem aCg (c:Code) (σ:St) (Q:Exit→St→Prop):AWP P (.loop c) σ Q=aIs P c σ Q .mk:=rfl
theorem kR {τ:Type} {c:Code} {σ:St} {Q:Exit→St→Prop} {d:Dm (c,Q)} (S:τ→St) (m:τ→Nat) (x0:τ) (h0:∃ ρ,Wk σ (S x0) ρ)
  (h:∀ x,AWP P c (S x) fun e σ'=>match e with | .normal=>∃ y,m y<m x∧WkR σ' (S y) | e=>Q e σ'):aIs P c σ Q d:=yY S m x0 (.inr h0) h
def LuP (P:Program) [M:Mch P] (c:Code) (n:Nat) (σ:St) (Q:Exit→St→Prop) (_:Dm (c,Q)):Prop:=LU P c n σ Q
theorem aL (c:Code) (n:Nat) (σ:St) (Q:Exit→St→Prop) (d:Dm (c,Q)):LuP P c (n+1) σ Q d=AWP P c σ fun e σ'=>match e with | .normal=>LuP P c n σ' Q .mk | e=>Q e σ':=rfl
theorem fB (n:Nat) {c:Code} {σ:St} {Q:Exit→St→Prop} {d:Dm (c,Q)} (h:LuP P c n σ Q .mk):aIs P c σ Q d:=bGt h
def Nxt {τ:Type} (I:τ→Prop) (m:τ→Nat) (S:τ→St) (x:τ) (σ':St) (_:Dm (I,m,S,x)):Prop:=∃ y,I y∧m y<m x∧WkR σ' (S y)
theorem aN {τ:Type} {I:τ→Prop} {m:τ→Nat} {S:τ→St} {x:τ} {σ':St} {d:Dm (I,m,S,x)} (y:τ) (h1:I y) (h2:m y<m x) (h3:∃ ρ,Wk σ' (S y) ρ):Nxt I m S x σ' d:=⟨y,h1,h2,.inr h3⟩
theorem cO {τ:Type} {c:Code} {σ:St} {Q:Exit→St→Prop} {d:Dm (c,Q)} (I:τ→Prop) (S:τ→St) (m:τ→Nat) (x0:τ) (hI:I x0) (h0:∃ ρ,Wk σ (S x0) ρ)
  (h:∀ x,I x→AWP P c (S x) fun e σ'=>match e with | .normal=>Nxt I m S x σ' .mk | e=>Q e σ'):aIs P c σ Q d:=by
 refine kR (τ:={ x:τ // I x }) (fun x=>S x.1) (fun x=>m x.1) ⟨x0,hI⟩ h0 fun x=>?_
 refine cast (congrArg (AWP P c (S x.1)) ?_) (h x.1 x.2)
 funext e σ'
 cases e with
 | normal=>exact propext ⟨fun ⟨y,h1,h2,h3⟩=>⟨⟨y,h1⟩,h2,h3⟩,fun ⟨y,h2,h3⟩=>⟨y.1,y.2,h2,h3⟩⟩
 | _=>rfl
def ExP (Q:Exit→St→Prop) (e:Exit) (σ:St) (_:Dm Q):Prop:=∃ σ2,WkR σ σ2∧Q e σ2
theorem bG {Q:Exit→St→Prop} {e:Exit} {σ:St} {d:Dm Q} (h:Q e σ):ExP Q e σ d:=⟨σ,.inl rfl,h⟩
theorem bN {τ:Type} {c:Code} {σ:St} {Q:Exit→St→Prop} {d:Dm (c,Q)} (I:τ→Prop) (S:τ→St) (m:τ→Nat) (x0:τ) (hI:I x0) (h0:∃ ρ,Wk σ (S x0) ρ)
  (h:∀ x,I x→AWP P c (S x) fun e σ'=>match e with | .normal=>Nxt I m S x σ' .mk | e=>ExP Q e σ' .mk):aIs P c σ Q d:=by
 refine (⟨{ x:τ // I x },fun x=>S x.1,fun x=>m x.1,⟨x0,hI⟩,.inr h0,fun x=>?_⟩:AWP P (.loop c) σ Q)
 refine fC c (fun e σ' h=>?_) (h x.1 x.2)
 cases e with
 | normal=>obtain ⟨y,h1,h2,h3⟩:=h; exact ⟨⟨y,h1⟩,h2,h3⟩
 | _=>exact h
theorem bZ {o:Oper} {σ:St} {con:List Nat} {k:St→List Nat→Prop} {d:Dm (o,k)} (h:O1 P o σ con k=(kind P o.op=0∧match nev P o.op σ.Γ σ.n with
  | some (av,nb)=>k ⟨bK σ.Γ o.dst av,fV σ.H σ.n nb,cnt nb σ.n⟩ con
  | none=>False)) (hk:kind P o.op=0):O1d P o σ con k d=cJ (nev P o.op σ.Γ σ.n) (fun p=>k ⟨bK σ.Γ o.dst p.1,fV σ.H σ.n p.2,cnt p.2 σ.n⟩ con) .mk:=by
 rw [O1d,h]
 simp only [hk,true_and]
 cases nev P o.op σ.Γ σ.n with
 | none=>rfl
 | some p=>obtain ⟨a,b⟩:=p; rfl
section
variable (dst:Option Tmp) (ty:TypeId) (pos:String) (after:Array Edge) (guard:Option (Nat × Bool)) (σ:St) (con:List Nat) (k:St→List Nat→Prop)
theorem aOf (x:Operand) (d:Dm ((⟨dst,.move x,ty,pos,after,guard⟩:Oper),k)):O1d P ⟨dst,.move x,ty,pos,after,guard⟩ σ con k d=cJ (nev P (.move x) σ.Γ σ.n) (fun p=>k ⟨bK σ.Γ dst p.1,fV σ.H σ.n p.2,cnt p.2 σ.n⟩ con) .mk:=bZ rfl rfl
theorem uL (x:Operand) (d:Dm ((⟨dst,.nilCheck x,ty,pos,after,guard⟩:Oper),k)):O1d P ⟨dst,.nilCheck x,ty,pos,after,guard⟩ σ con k d=cJ (nev P (.nilCheck x) σ.Γ σ.n) (fun p=>k ⟨bK σ.Γ dst p.1,fV σ.H σ.n p.2,cnt p.2 σ.n⟩ con) .mk:=bZ rfl rfl
theorem aBg (x:Operand) (d:Dm ((⟨dst,.assign x,ty,pos,after,guard⟩:Oper),k)):O1d P ⟨dst,.assign x,ty,pos,after,guard⟩ σ con k d=cJ (nev P (.assign x) σ.Γ σ.n) (fun p=>k ⟨bK σ.Γ dst p.1,fV σ.H σ.n p.2,cnt p.2 σ.n⟩ con) .mk:=bZ rfl rfl
theorem aOe (a b c:Operand) (d:Dm ((⟨dst,.pick a b c,ty,pos,after,guard⟩:Oper),k)):O1d P ⟨dst,.pick a b c,ty,pos,after,guard⟩ σ con k d=cJ (nev P (.pick a b c) σ.Γ σ.n) (fun p=>k ⟨bK σ.Γ dst p.1,fV σ.H σ.n p.2,cnt p.2 σ.n⟩ con) .mk:=bZ rfl rfl
theorem aGw (e:TypeId) (d:Dm ((⟨dst,.alloc e,ty,pos,after,guard⟩:Oper),k)):O1d P ⟨dst,.alloc e,ty,pos,after,guard⟩ σ con k d=cJ (nev P (.alloc e) σ.Γ σ.n) (fun p=>k ⟨bK σ.Γ dst p.1,fV σ.H σ.n p.2,cnt p.2 σ.n⟩ con) .mk:=bZ rfl rfl
theorem aXt (e:TypeId) (x:Operand) (d:Dm ((⟨dst,.box e x,ty,pos,after,guard⟩:Oper),k)):O1d P ⟨dst,.box e x,ty,pos,after,guard⟩ σ con k d=cJ (nev P (.box e x) σ.Γ σ.n) (fun p=>k ⟨bK σ.Γ dst p.1,fV σ.H σ.n p.2,cnt p.2 σ.n⟩ con) .mk:=bZ rfl rfl
theorem aGu (e:TypeId) (x:Array (Nat × Operand)) (d:Dm ((⟨dst,.build e x,ty,pos,after,guard⟩:Oper),k)):O1d P ⟨dst,.build e x,ty,pos,after,guard⟩ σ con k d=cJ (nev P (.build e x) σ.Γ σ.n) (fun p=>k ⟨bK σ.Γ dst p.1,fV σ.H σ.n p.2,cnt p.2 σ.n⟩ con) .mk:=bZ rfl rfl
theorem pW (e:TypeId) (n:Nat) (x:Array (Nat × Operand)) (d:Dm ((⟨dst,.buildSlice e n x,ty,pos,after,guard⟩:Oper),k)):O1d P ⟨dst,.buildSlice e n x,ty,pos,after,guard⟩ σ con k d=cJ (nev P (.buildSlice e n x) σ.Γ σ.n) (fun p=>k ⟨bK σ.Γ dst p.1,fV σ.H σ.n p.2,cnt p.2 σ.n⟩ con) .mk:=bZ rfl rfl
theorem rH (e:TypeId) (x y:Operand) (d:Dm ((⟨dst,.makeSlice e x y,ty,pos,after,guard⟩:Oper),k)):O1d P ⟨dst,.makeSlice e x y,ty,pos,after,guard⟩ σ con k d=cJ (nev P (.makeSlice e x y) σ.Γ σ.n) (fun p=>k ⟨bK σ.Γ dst p.1,fV σ.H σ.n p.2,cnt p.2 σ.n⟩ con) .mk:=bZ rfl rfl
theorem xM (e:TypeId) (x:Option Operand) (d:Dm ((⟨dst,.makeMap e x,ty,pos,after,guard⟩:Oper),k)):O1d P ⟨dst,.makeMap e x,ty,pos,after,guard⟩ σ con k d=cJ (nev P (.makeMap e x) σ.Γ σ.n) (fun p=>k ⟨bK σ.Γ dst p.1,fV σ.H σ.n p.2,cnt p.2 σ.n⟩ con) .mk:=bZ rfl rfl
theorem aGv (b:BinOp) (t:TypeId) (x y:Operand) (u:TypeId) (d:Dm ((⟨dst,.binOp b t x y u,ty,pos,after,guard⟩:Oper),k)):O1d P ⟨dst,.binOp b t x y u,ty,pos,after,guard⟩ σ con k d=cJ (nev P (.binOp b t x y u) σ.Γ σ.n) (fun p=>k ⟨bK σ.Γ dst p.1,fV σ.H σ.n p.2,cnt p.2 σ.n⟩ con) .mk:=bZ rfl rfl
theorem aOd (b:UnOp) (t:TypeId) (x:Operand) (d:Dm ((⟨dst,.unOp b t x,ty,pos,after,guard⟩:Oper),k)):O1d P ⟨dst,.unOp b t x,ty,pos,after,guard⟩ σ con k d=cJ (nev P (.unOp b t x) σ.Γ σ.n) (fun p=>k ⟨bK σ.Γ dst p.1,fV σ.H σ.n p.2,cnt p.2 σ.n⟩ con) .mk:=bZ rfl rfl
theorem xO (s t:TypeId) (x:Operand) (d:Dm ((⟨dst,.convert s t x,ty,pos,after,guard⟩:Oper),k)):O1d P ⟨dst,.convert s t x,ty,pos,after,guard⟩ σ con k d=cJ (nev P (.convert s t x) σ.Γ σ.n) (fun p=>k ⟨bK σ.Γ dst p.1,fV σ.H σ.n p.2,cnt p.2 σ.n⟩ con) .mk:=bZ rfl rfl
theorem rJ (s:TypeId) (x:Operand) (f:Nat) (d:Dm ((⟨dst,.fieldAddr s x f,ty,pos,after,guard⟩:Oper),k)):O1d P ⟨dst,.fieldAddr s x f,ty,pos,after,guard⟩ σ con k d=cJ (nev P (.fieldAddr s x f) σ.Γ σ.n) (fun p=>k ⟨bK σ.Γ dst p.1,fV σ.H σ.n p.2,cnt p.2 σ.n⟩ con) .mk:=bZ rfl rfl
theorem aGt (s:TypeId) (x:Operand) (f:Nat) (d:Dm ((⟨dst,.field s x f,ty,pos,after,guard⟩:Oper),k)):O1d P ⟨dst,.field s x f,ty,pos,after,guard⟩ σ con k d=cJ (nev P (.field s x f) σ.Γ σ.n) (fun p=>k ⟨bK σ.Γ dst p.1,fV σ.H σ.n p.2,cnt p.2 σ.n⟩ con) .mk:=bZ rfl rfl
theorem rI (s:TypeId) (x y:Operand) (d:Dm ((⟨dst,.indexAddr s x y,ty,pos,after,guard⟩:Oper),k)):O1d P ⟨dst,.indexAddr s x y,ty,pos,after,guard⟩ σ con k d=cJ (nev P (.indexAddr s x y) σ.Γ σ.n) (fun p=>k ⟨bK σ.Γ dst p.1,fV σ.H σ.n p.2,cnt p.2 σ.n⟩ con) .mk:=bZ rfl rfl
theorem xN (x:Operand) (i:Nat) (d:Dm ((⟨dst,.extract x i,ty,pos,after,guard⟩:Oper),k)):O1d P ⟨dst,.extract x i,ty,pos,after,guard⟩ σ con k d=cJ (nev P (.extract x i) σ.Γ σ.n) (fun p=>k ⟨bK σ.Γ dst p.1,fV σ.H σ.n p.2,cnt p.2 σ.n⟩ con) .mk:=bZ rfl rfl
theorem aGs (t:TypeId) (x:Operand) (a b c:Option Operand) (d:Dm ((⟨dst,.slice t x a b c,ty,pos,after,guard⟩:Oper),k)):O1d P ⟨dst,.slice t x a b c,ty,pos,after,guard⟩ σ con k d=cJ (nev P (.slice t x a b c) σ.Γ σ.n) (fun p=>k ⟨bK σ.Γ dst p.1,fV σ.H σ.n p.2,cnt p.2 σ.n⟩ con) .mk:=bZ rfl rfl
theorem aXs (args:Array Operand) (ts:Array TypeId) (hm:aLj P ts=false) (d:Dm ((⟨dst,.call ⟨.builtin .len,args,ts⟩,ty,pos,after,guard⟩:Oper),k)):O1d P ⟨dst,.call ⟨.builtin .len,args,ts⟩,ty,pos,after,guard⟩ σ con k d=cJ (nev P (.call ⟨.builtin .len,args,ts⟩) σ.Γ σ.n) (fun p=>k ⟨bK σ.Γ dst p.1,fV σ.H σ.n p.2,cnt p.2 σ.n⟩ con) .mk:=by
 refine bZ ?_ (by simp [kind,hm])
 simp only [O1,hm,Bool.false_eq_true,if_false]
 rfl
theorem aOh (m:Operand) (ts:Array TypeId) (hm:aLj P ts=true) (d:Dm ((⟨dst,.call ⟨.builtin .len,#[m],ts⟩,ty,pos,after,guard⟩:Oper),k)):O1d P ⟨dst,.call ⟨.builtin .len,#[m],ts⟩,ty,pos,after,guard⟩ σ con k d=cJ (aBl σ.H (oev σ.Γ m)) (fun n=>k ⟨bK σ.Γ dst (.d (.i .i64 n)),σ.H,σ.n⟩ con) .mk:=by
 unfold O1d
 simp only [O1,hm,if_true]
 cases aBl σ.H (oev σ.Γ m) <;> rfl
theorem aYf (H:Hp) (id:Nat):aBl H (.mp id)=match H id with
  | some (.map _ es)=>some es.length
  | _=>none:=rfl
theorem aXr (args:Array Operand) (ts:Array TypeId) (d:Dm ((⟨dst,.call ⟨.builtin .max,args,ts⟩,ty,pos,after,guard⟩:Oper),k)):O1d P ⟨dst,.call ⟨.builtin .max,args,ts⟩,ty,pos,after,guard⟩ σ con k d=cJ (nev P (.call ⟨.builtin .max,args,ts⟩) σ.Γ σ.n) (fun p=>k ⟨bK σ.Γ dst p.1,fV σ.H σ.n p.2,cnt p.2 σ.n⟩ con) .mk:=bZ rfl rfl
theorem aXq (args:Array Operand) (ts:Array TypeId) (d:Dm ((⟨dst,.call ⟨.builtin .min,args,ts⟩,ty,pos,after,guard⟩:Oper),k)):O1d P ⟨dst,.call ⟨.builtin .min,args,ts⟩,ty,pos,after,guard⟩ σ con k d=cJ (nev P (.call ⟨.builtin .min,args,ts⟩) σ.Γ σ.n) (fun p=>k ⟨bK σ.Γ dst p.1,fV σ.H σ.n p.2,cnt p.2 σ.n⟩ con) .mk:=bZ rfl rfl
theorem aOg (t:TypeId) (x:Operand) (d:Dm ((⟨dst,.load t x,ty,pos,after,guard⟩:Oper),k)):O1d P ⟨dst,.load t x,ty,pos,after,guard⟩ σ con k d=cJ (rN P σ.H t (oev σ.Γ x)) (fun v=>k ⟨bK σ.Γ dst v,σ.H,σ.n⟩ con) .mk:=by
 unfold O1d; simp only [O1,cJ]; split <;> simp_all
theorem aBd (t:TypeId) (m x:Operand) (ok:Bool) (d:Dm ((⟨dst,.lookup t m x ok,ty,pos,after,guard⟩:Oper),k)):O1d P ⟨dst,.lookup t m x ok,ty,pos,after,guard⟩ σ con k d=cJ (aBq P σ.H t (oev σ.Γ m) (oev σ.Γ x) ok) (fun v=>k ⟨bK σ.Γ dst v,σ.H,σ.n⟩ con) .mk:=by
 unfold O1d; simp only [O1,cJ]; split <;> simp_all
theorem aGr (t:TypeId) (ad x:Operand) (d:Dm ((⟨dst,.store t ad x,ty,pos,after,guard⟩:Oper),k)):O1d P ⟨dst,.store t ad x,ty,pos,after,guard⟩ σ con k d=cJ (mH P σ.H t (oev σ.Γ ad) (oev σ.Γ x)) (fun p=>k ⟨bK σ.Γ dst .un,upd σ.H p.1 (some p.2),σ.n⟩ con) .mk:=by
 unfold O1d; simp only [O1,cJ]; split <;> simp_all
theorem rG (t:TypeId) (m x v:Operand) (d:Dm ((⟨dst,.mapUpdate t m x v,ty,pos,after,guard⟩:Oper),k)):O1d P ⟨dst,.mapUpdate t m x v,ty,pos,after,guard⟩ σ con k d=cJ (oH P σ.H t (oev σ.Γ m) (oev σ.Γ x) (some (oev σ.Γ v))) (fun p=>k ⟨bK σ.Γ dst .any,upd σ.H p.1 (some p.2),σ.n⟩ con) .mk:=by
 unfold O1d; simp only [O1,cJ]; split <;> simp_all
theorem aBe (t:TypeId) (m x v:Operand) (d:Dm ((⟨dst,.insert t m x v,ty,pos,after,guard⟩:Oper),k)):O1d P ⟨dst,.insert t m x v,ty,pos,after,guard⟩ σ con k d=cJ (oH P σ.H t (oev σ.Γ m) (oev σ.Γ x) (some (oev σ.Γ v))) (fun p=>k ⟨bK σ.Γ dst .any,upd σ.H p.1 (some p.2),σ.n⟩ con) .mk:=by
 unfold O1d; simp only [O1,cJ]; split <;> simp_all
theorem aBf (m x:Operand) (t u:TypeId) (d:Dm ((⟨dst,.call ⟨.builtin .delete,#[m,x],#[t,u]⟩,ty,pos,after,guard⟩:Oper),k)):O1d P ⟨dst,.call ⟨.builtin .delete,#[m,x],#[t,u]⟩,ty,pos,after,guard⟩ σ con k d=cJ (oH P σ.H t (oev σ.Γ m) (oev σ.Γ x) none) (fun p=>k ⟨bK σ.Γ dst .any,upd σ.H p.1 (some p.2),σ.n⟩ con) .mk:=by
 unfold O1d; simp only [O1,cJ]; split <;> simp_all
theorem aBh (s x:Operand) (t:TypeId) (d:Dm ((⟨dst,.call ⟨.builtin .append,#[s,x],#[t,t]⟩,ty,pos,after,guard⟩:Oper),k)):O1d P ⟨dst,.call ⟨.builtin .append,#[s,x],#[t,t]⟩,ty,pos,after,guard⟩ σ con k d=cJ (aAh P σ.H t (oev σ.Γ s) (oev σ.Γ x) σ.n) (fun p=>k ⟨bK σ.Γ dst p.1,fV (kill p.2.2 σ.H) σ.n p.2.1,cnt p.2.1 σ.n⟩ (p.2.2++con)) .mk:=by
 unfold O1d; simp only [O1,cJ]; simp only [true_and]
 cases aAh P σ.H t (oev σ.Γ s) (oev σ.Γ x) σ.n with
 | none=>rfl
 | some p=>obtain ⟨a,b,c⟩:=p; rfl
end
def aPl (P:Program) [M:Mch P] (f:FuncId) (avs:List AV) (H:Hp) (k:D→Prop) (_:Dm k):Prop:=∃ ds r,cL H avs=some ds∧Spec P f ds r∧k r
theorem bE {f:FuncId} {avs:List AV} {H:Hp} {k:D→Prop} {d:Dm k} {ds:List D} {r:D} (h1:cL H avs=some ds) (h2:Spec P f ds r) (h3:k r):aPl P f avs H k d:=⟨ds,r,h1,h2,h3⟩
theorem slQ {i n:Nat} (h:i<n):n - (i+1)<n - i:=Nat.sub_lt_sub_left h (Nat.lt_succ_self _)
theorem aH {f:FuncId} {avs:List AV} {H:Hp} {k:D→Prop} {d:Dm k} {ds:List D} {r:D} (h2:Spec P f ds r) (h3:k r) (h1:cL H avs=some ds:=by rfl):aPl P f avs H k d:=⟨ds,r,h1,h2,h3⟩
def bKe (P:Program) [M:Mch P] (f:FuncId) (x:Option (Nat × AV)) (rest:List AV) (H:Hp) (k:Nat→HO→D→Prop) (_:Dm k):Prop :=
 ∃ id h ho,x=some (id,h)∧H id=some ho∧kJ ho=true∧cG H rest=[]∧∃ ds ho' r,cL H rest=some ds∧jH P f h ho ds ho' r∧ho'.len=ho.len∧kJ ho'=true∧k id ho' r
theorem iB {f:FuncId} {rest:List AV} {H:Hp} {k:Nat→HO→D→Prop} {d:Dm k} {id:Nat} {h:AV} {ho ho':HO} {ds:List D} {r:D} (h1:H id=some ho) (h2:kJ ho=true) (h3:cG H rest=[])
  (h4:cL H rest=some ds) (h5:jH P f h ho ds ho' r) (h6:ho'.len=ho.len) (h7:kJ ho'=true) (h8:k id ho' r):bKe P f (some (id,h)) rest H k d:=⟨id,h,ho,rfl,h1,h2,h3,ds,ho',r,h4,h5,h6,h7,h8⟩
def bPn:List AV→Bool
 | [.kf _ _]=>true
 | _=>false
theorem aOi (dst:Option Tmp) (ty:TypeId) (pos:String) (after:Array Edge) (guard:Option (Nat × Bool)) (σ:St) (con:List Nat) (k:St→List Nat→Prop) (f:FuncId) (args:List Operand) (ts:Array TypeId)
  (d:Dm ((⟨dst,.call ⟨.value (.func f),args.toArray,ts⟩,ty,pos,after,guard⟩:Oper),k)) (hm:aP P f=false) (hn:aQ P f=false) (hk:bPn (args.map (oev σ.Γ))=false):O1d P ⟨dst,.call ⟨.value (.func f),args.toArray,ts⟩,ty,pos,after,guard⟩ σ con k d =
  aPl P f (args.map (oev σ.Γ)) σ.H (fun r=>k ⟨bK σ.Γ dst (inj r),kill (bC σ.H (args.map (oev σ.Γ)) r) σ.H,σ.n⟩ (bC σ.H (args.map (oev σ.Γ)) r++con)) .mk:=by
 show OC P f args.toArray dst σ con k=_
 unfold OC aPl
 simp only [hm,hn,Bool.false_eq_true,if_false,false_and,false_or]
 split
 ·rename_i hx; rw [show args.map (oev σ.Γ)=_ from hx] at hk; cases hk
 ·rfl
theorem lQ {dst:Option Tmp} {ty:TypeId} {pos:String} {after:Array Edge} {guard:Option (Nat × Bool)} {σ:St} {con:List Nat} {k:St→List Nat→Prop} {f:FuncId} {x:Operand} {rest:List Operand} {ts:Array TypeId}
  {d:Dm ((⟨dst,.call ⟨.value (.func f),(x::rest).toArray,ts⟩,ty,pos,after,guard⟩:Oper),k)} (hm:aP P f=true)
  (h:bKe P f (hd1 (oev σ.Γ x)) (rest.map (oev σ.Γ)) σ.H (fun id ho' r=>k ⟨bK σ.Γ dst (inj r),upd σ.H id (some ho'),σ.n⟩ con) .mk):O1d P ⟨dst,.call ⟨.value (.func f),(x::rest).toArray,ts⟩,ty,pos,after,guard⟩ σ con k d:=by
 obtain ⟨id,hh,ho,h1,h2,h3,h4,h5⟩:=h
 show OC P f (x::rest).toArray dst σ con k
 unfold OC
 simp only [hm,if_true,h1,h2]
 exact .inr (.inl ⟨h3,h4,h5⟩)
theorem xL {dst:Option Tmp} {ty:TypeId} {pos:String} {after:Array Edge} {guard:Option (Nat × Bool)} {σ:St} {con:List Nat} {k:St→List Nat→Prop} {f:FuncId} {args:List Operand} {ts:Array TypeId}
  {d:Dm ((⟨dst,.call ⟨.value (.func f),args.toArray,ts⟩,ty,pos,after,guard⟩:Oper),k)} (ds:List D) (v:Nat→AV) (hs:Nat→List HO) (hm:aP P f=false) (hn:aQ P f=true) (hpos:0<σ.n) (hfr:cL σ.H (args.map (oev σ.Γ))=some ds)
  (hvis:cG σ.H (args.map (oev σ.Γ))=[]) (hsp:uX P f ds v hs) (hk:k ⟨bK σ.Γ dst (v σ.n),kD σ.H σ.n (hs σ.n),σ.n+(hs σ.n).length⟩ con) :
  O1d P ⟨dst,.call ⟨.value (.func f),args.toArray,ts⟩,ty,pos,after,guard⟩ σ con k d:=by
 show OC P f args.toArray dst σ con k
 unfold OC
 simp only [hm,Bool.false_eq_true,if_false]
 exact .inl ⟨hn,hpos,v,hs,.inl ⟨ds,hfr,hvis,hsp⟩,hk⟩
theorem aBc {dst:Option Tmp} {ty:TypeId} {pos:String} {after:Array Edge} {guard:Option (Nat × Bool)} {σ:St} {con:List Nat} {k:St→List Nat→Prop} {f:FuncId} {args:List Operand} {ts:Array TypeId}
  {d:Dm ((⟨dst,.call ⟨.value (.func f),args.toArray,ts⟩,ty,pos,after,guard⟩:Oper),k)} (v:Nat→AV) (hs:Nat→List HO) (hm:aP P f=false) (hn:aQ P f=true) (hpos:0<σ.n) (hno:(args.map (oev σ.Γ)).all aAd=true)
  (hsp:zN P f (args.map (oev σ.Γ)) v hs) (hk:k ⟨bK σ.Γ dst (v σ.n),kD σ.H σ.n (hs σ.n),σ.n+(hs σ.n).length⟩ con) :
  O1d P ⟨dst,.call ⟨.value (.func f),args.toArray,ts⟩,ty,pos,after,guard⟩ σ con k d:=by
 show OC P f args.toArray dst σ con k
 unfold OC
 simp only [hm,Bool.false_eq_true,if_false]
 exact .inl ⟨hn,hpos,v,hs,.inr ⟨hno,hsp⟩,hk⟩
theorem aRq {dst:Option Tmp} {ty:TypeId} {pos:String} {after:Array Edge} {guard:Option (Nat × Bool)} {σ:St} {con:List Nat} {k:St→List Nat→Prop} {f:FuncId} {x:Operand} {rest:List Operand} {ts:Array TypeId}
  {d:Dm ((⟨dst,.call ⟨.value (.func f),(x::rest).toArray,ts⟩,ty,pos,after,guard⟩:Oper),k)} {h:AV} {ds:List D} {r:D} {l:List Nat} (hm:aP P f=true) (hx:oev σ.Γ x=h) (hx1:hd1 h=none) (hno:aAd h=true)
  (hvis:cG σ.H (rest.map (oev σ.Γ))=l) (hfr:cL σ.H (rest.map (oev σ.Γ))=some ds) (hsp:aIq P f h none ds r) (hk:k ⟨bK σ.Γ dst (inj r),kill l σ.H,σ.n⟩ (l++con)) :
  O1d P ⟨dst,.call ⟨.value (.func f),(x::rest).toArray,ts⟩,ty,pos,after,guard⟩ σ con k d:=by
 subst hvis
 subst hx
 show OC P f (x::rest).toArray dst σ con k
 unfold OC
 simp only [hm,if_true,hx1]
 exact ⟨hno,ds,r,hfr,hsp,hk⟩
theorem aOa (ops:Array Oper) (σ:St) (con:List Nat) (k:St→List Nat→Prop) (d:Dm (ops,([]:List Oper),k)):OWd P ops [] σ con k d=k σ con:=rfl
theorem aGl (ops:Array Oper) (dst:Option Tmp) (op:Op) (ty:TypeId) (pos:String) (after:Array Edge) (l:List Oper) (σ:St) (con:List Nat) (k:St→List Nat→Prop) (d:Dm (ops,(⟨dst,op,ty,pos,after,none⟩::l:List Oper),k)) :
  OWd P ops (⟨dst,op,ty,pos,after,none⟩::l) σ con k d=O1d P ⟨dst,op,ty,pos,after,none⟩ σ con (fun σ' con'=>OWd P ops l σ' con' k .mk) .mk:=rfl
theorem aGk (ops:Array Oper) (dst:Option Tmp) (op:Op) (ty:TypeId) (pos:String) (after:Array Edge) (g:Nat × Bool) (l:List Oper) (σ:St) (con:List Nat) (k:St→List Nat→Prop) (d:Dm (ops,(⟨dst,op,ty,pos,after,some g⟩::l:List Oper),k)) :
  OWd P ops (⟨dst,op,ty,pos,after,some g⟩::l) σ con k d=cJ (cX ops ⟨dst,op,ty,pos,after,some g⟩ σ.Γ) (fun t=>IfD t (O1d P ⟨dst,op,ty,pos,after,some g⟩ σ con (fun σ' con'=>OWd P ops l σ' con' k .mk) .mk) (OWd P ops l ⟨bK σ.Γ dst .un,σ.H,σ.n⟩ con k .mk) .mk) .mk:=by
 show (match cX ops ⟨dst,op,ty,pos,after,some g⟩ σ.Γ with
 | some true=>O1 P ⟨dst,op,ty,pos,after,some g⟩ σ con fun σ' con'=>OW P ops l σ' con' k
 | some false=>OW P ops l ⟨bK σ.Γ dst .un,σ.H,σ.n⟩ con k
 | none=>False)=_
 cases cX ops ⟨dst,op,ty,pos,after,some g⟩ σ.Γ with
 | none=>rfl
 | some t=>cases t <;> simp [cJ,IfD,O1d,OWd]
theorem bMr (t:Bool) (x y:Bool):(if t=true then AV.d (.b x) else AV.d (.b y))=AV.d (.b (if t then x else y)):=by cases t <;> rfl
end Go.Am
end
section
open List renaming map_map→ζ,mapM_map→ξ
namespace Go.Am
open RowKit (Below)
variable {P:Program} [M:Mch P]
theorem bOf {σ:St} {sl:List (Nat × AV)} {H':Hp} {n':Nat} (hslot:jJ σ.H H' (fun i=>i) σ.Γ sl) (hblk:∀ id o',H' id=some o'→∃ o,σ.H id=some o∧sP σ.H H' (fun i=>i) o o')
  (htop:∀ id,n'≤id→H' id=none) (hn:n'≠0):Wk σ ⟨kI sl,H',n'⟩ (fun i=>i):=by
 refine ⟨htop,fun t=>?_,hblk,fun _ _ _ _ e=>e,fun _=>rfl,fun h=>absurd h hn⟩
 show Sub _ _ _ _ (kI sl t)
 rcases qX sl t with h | ⟨p,hp,rfl,h⟩
 ·rw [h]; exact vP _
 ·rw [h]; exact kL hslot _ hp
theorem bKu {σ:St} {sl:List (Nat × AV)} {H':Hp} {n':Nat} (ρ:Nat→Nat) (hslot:jJ σ.H H' ρ σ.Γ sl) (hblk:∀ id o',H' id=some o'→∃ o,σ.H (ρ id)=some o∧sP σ.H H' ρ o o')
  (hinj:∀ id id',(H' id).isSome=true→(H' id').isSome=true→ρ id=ρ id'→id=id') (hpin:(H' 0).isSome=true→ρ 0=0) (htop:∀ id,n'≤id→H' id=none) (hn:n'≠0):Wk σ ⟨kI sl,H',n'⟩ ρ:=by
 refine ⟨htop,fun t=>?_,hblk,hinj,hpin,fun h=>absurd h hn⟩
 show Sub _ _ _ _ (kI sl t)
 rcases qX sl t with h | ⟨p,hp,rfl,h⟩
 ·rw [h]; exact vP _
 ·rw [h]; exact kL hslot _ hp
theorem bEw {G:Ctx} {fn:Func} {σ:St} {a:Act} {w:World} {ad:Tmp} {t:TypeId} {av:AV} {F:Nat→Prop} {ι:Nat→Option Nat} (hR:HR G F w ι bF σ.H) (hV:∀ t,V F w ι (σ.Γ t) (a.tmps.getD t undef)) (hres:fn.results.toList=[.cell ad t]) (h:jE P σ (.cell ad t)=some av) :
  ∃ v,aM P (results fn a.tmps) w=.ok v w∧V F w ι av v:=by
 have hx:∃ v,aM P (do loadVar t (← asAddr (a.tmps.getD ad undef)):Sem Value) w=.ok v w∧V F w ι av v:=by
  simp only [jE] at h
  obtain ⟨u,hu,hv⟩:=aDw (P:=P) hR (fun _ _ h=>h) h (hV ad)
  refine ⟨u,?_,hv⟩
  simp only [Instr.loadAt] at hu
  generalize a.tmps.getD ad undef=p at hu ⊢
  cases p with
  | pointer q=>cases q with
   | some q=>simpa [Instr.sureAddr,asAddr] using hu
   | none=>simp [Instr.sureAddr] at hu
  | _=>simp [Instr.sureAddr] at hu
 obtain ⟨v,h1,h2⟩:=hx
 refine ⟨v,?_,h2⟩
 have h1':aM P ([ResultVar.cell ad t].mapM (m:=Sem) fun | .tmp t=>pure (a.tmps.getD t undef) | .cell ad t=>do loadVar t (← asAddr (a.tmps.getD ad undef))) w=.ok [v] w:=by
  simp only [List.mapM_cons,List.mapM_nil,Sem.run_bind,h1,Result.andThen_ok,Sem.run_pure]
 simp only [results,Array.mapM_eq_mapM_toList,Sem.run_bind,Sem.run_map,hres]
 erw [h1']
 simp
def rE (v:Nat→AV) (hs:Nat→List HO) (m:Nat):St:=⟨upd (fun _=>.any) 0 (v m),kD (fun _=>none) m (hs m),m+(hs m).length⟩
end Go.Am
end
section
open List renaming map_map→ζ,mapM_map→ξ
namespace Go.Am
variable {P:Program} [M:Mch P]
def nD:List Value→Bool
 | []=>true
 | v::l=>v.oneCell' && nD l
theorem aMs:nD []=true:=rfl
theorem aIn (v:Value) (l:List Value):nD (v::l)=(v.oneCell' && nD l):=rfl
theorem tX (a:Array Value):a.all Value.oneCell'=nD a.toList:=by
 rw [← Array.all_toList]
 generalize a.toList=l
 induction l with
 | nil=>rfl
 | cons v l ih=>simp only [List.all_cons,nD,ih]
section
variable (Γ:Nat→AV) (n:Nat)
theorem bGf (x:Operand):nev P (.move x) Γ n=some (oev Γ x,none):=rfl
theorem aRr (x:Operand):nev P (.assign x) Γ n=some (oev Γ x,none):=rfl
theorem bGe (c a b:Operand):nev P (.pick c a b) Γ n=cU ((sJ (oev Γ c)).map fun t=>if t then oev Γ a else oev Γ b):=rfl
theorem aXz (e:TypeId):nev P (.alloc e) Γ n=(tz P e).map fun z=>(.ptr n 0,some (.cells e (z.cells.toList.map cv1))):=rfl
theorem bMi (e:TypeId) (x:Operand):nev P (.box e x) Γ n=(dH (oev Γ x)).map fun cs=>(.ptr n 0,some (.cells e cs)):=rfl
theorem aXx (t : TypeId) (ps : List (Nat × Operand)) : nev P (.build t ps.toArray) Γ n = cU ((tz P t).bind fun z => (plc P t).bind fun pl => if nD z.cells.toList then
      (kC pl (z.cells.toList.map cv1) (ps.map fun p=>(p.1,oev Γ p.2))).map .ag else none):=by
 simp only [nev,tX]
theorem bFq (t:TypeId):plc P t=match dZ P t with
 | some fl=>some (fl[·]?)
 | none=>(uZ P t).bind fun p=>(tsz P p.2).map fun sz=>fun i=>some (i * sz,sz):=rfl
theorem aAc (t : TypeId) (len : Nat) (ps : List (Nat × Operand)) : nev P (.buildSlice t len ps.toArray) Γ n = (tel P t).bind fun e => (tsz P e).bind fun sz => (tz P e).bind fun z =>
      if z.cells.toList.length=sz∧0<sz∧len * sz≤16777216∧nD z.cells.toList=true then
        (kC (fun i=>some (i * sz,sz)) ((List.replicate len (z.cells.toList.map cv1)).flatten) (ps.map fun p=>(p.1,oev Γ p.2))).map fun cs=>(.own n 0 len sz,some (.cells e cs))
      else none:=by
 simp only [nev,tX,Array.length_toList]
theorem aDo (t : TypeId) (l c : Operand) : nev P (.makeSlice t l c) Γ n = (tel P t).bind fun e => (tsz P e).bind fun sz => (tz P e).bind fun z => (tby P e).bind fun by_ => (eL (oev Γ l)).bind fun a => (eL (oev Γ c)).bind fun b =>
      if z.cells.toList.length=sz∧0<sz∧nD z.cells.toList=true∧0≤a∧a≤b∧(by_:Int) * b≤281474976710656∧b≤9223372036854775807 then
        some (.own n 0 a.toNat sz,some (.cells e (List.replicate a.toNat (z.cells.toList.map cv1)).flatten))
      else none:=by
 simp only [nev,tX,Array.length_toList]
theorem aXy (op:BinOp) (t:TypeId) (x y:Operand) (u:TypeId):nev P (.binOp op t x y u) Γ n=cU (match aRt op (tel P t) (oev Γ x) (oev Γ y) with | some r=>some r | none=>match dL op (bL P t) (oev Γ x) (oev Γ y) with | some r=>some (.d r) | none=>match bJc op (tai P t) (oev Γ x) (oev Γ y) with | some r=>some (.d r) | none=>(bJb op (tst P t) (oev Γ x) (oev Γ y)).map .d):=rfl
theorem aGx (x:Operand):nev P (.nilCheck x) Γ n=cU (bBe (oev Γ x)):=rfl
theorem bBd (id o:Nat):bBe (.ptr id o)=some (.ptr id o):=rfl
theorem bIu (cs:List D):bBe (.fp cs)=some (.fp cs):=rfl
theorem bGd (op:UnOp) (t:TypeId) (x:Operand):nev P (.unOp op t x) Γ n=cU ((unA op (oev Γ x)).map .d):=rfl
theorem aLa (s t:TypeId) (x:Operand):nev P (.convert s t x) Γ n=cU ((eQ P t).bind fun k=>(eL (oev Γ x)).bind fun m=>if (P.underlying s).isSome then some (.d (.i k (k.wrap m))) else none):=rfl
theorem aDq (s:TypeId) (x:Operand) (f:Nat):nev P (.fieldAddr s x f) Γ n=cU ((dZ P s).bind fun fl=>(fl[f]?).bind fun p=>if p.2=0 then none else tM p.1 (oev Γ x)):=rfl
theorem aDp (t : TypeId) (x i : Operand) : nev P (.indexAddr t x i) Γ n = cU ((eL (oev Γ i)).bind fun k => match tel P t with
      | some e=>(tsz P e).bind fun sz=>qM sz k (oev Γ x)
      | none=>(uZ P t).bind fun p=>(tsz P p.2).bind fun sz=>tG sz p.1 k (oev Γ x)):=rfl
theorem aKz (x:Operand) (i:Nat):nev P (.extract x i) Γ n=cU ((aQd (oev Γ x)).bind fun vs=>vs[i]?):=rfl
theorem aXu (t : TypeId) (x : Operand) (lo hi mx : Option Operand) : nev P (.slice t x lo hi mx) Γ n = cU ((tel P t).bind fun e => (tsz P e).bind fun sz => (aAf (oev Γ x)).bind fun n => (aGm lo Γ 0).bind fun l => (aGm hi Γ n).bind fun h =>
      match mx with
      | none=>jV sz (oev Γ x) l h false
      | some y=>(eL (oev Γ y)).bind fun m=>if m=h∧hi.isSome then jV sz (oev Γ x) l h true else none):=rfl
theorem bMh (x:Operand) (t:TypeId):nev P (.call ⟨.builtin .len,#[x],#[t]⟩) Γ n=cU ((tel P t).bind fun _=>(aAf (oev Γ x)).map fun n=>.d (.i .i64 n)):=rfl
def bPc:AV→AV→Option AV
 | .d (.i k a),.d (.i _ b)=>some (.d (.i k (if b > a then b else a)))
 | _,_=>none
def bPb:AV→AV→Option AV
 | .d (.i k a),.d (.i _ b)=>some (.d (.i k (if b<a then b else a)))
 | _,_=>none
theorem bMm (k k':IntKind) (a b:Int):bPc (.d (.i k a)) (.d (.i k' b))=some (.d (.i k (if b > a then b else a))):=rfl
theorem bMk (k k':IntKind) (a b:Int):bPb (.d (.i k a)) (.d (.i k' b))=some (.d (.i k (if b<a then b else a))):=rfl
theorem bMg (x y:Operand) (ts:Array TypeId):nev P (.call ⟨.builtin .max,#[x,y],ts⟩) Γ n=cU (bPc (oev Γ x) (oev Γ y)):=rfl
theorem bMf (x y:Operand) (ts:Array TypeId):nev P (.call ⟨.builtin .min,#[x,y],ts⟩) Γ n=cU (bPb (oev Γ x) (oev Γ y)):=rfl
theorem aXw (s:TypeId) (x:Operand) (f:Nat):nev P (.field s x f) Γ n=cU ((aVc P s f).bind fun p=>(vJ (oev Γ x)).bind fun cs=>if p.2.1 then (if p.1+p.2.2≤cs.length then some (.ag ((cs.drop p.1).take p.2.2)) else none) else cs[p.1]?):=rfl
theorem aKy (t:TypeId) (r:Option Operand):nev P (.makeMap t r) Γ n=(tmp P t).bind fun p=>(eQ P p.1).bind fun k=>(match r with | none=>some 0 | some x=>eL (oev Γ x)).map fun _=>(.mp n,some (.map k [])):=rfl
end
theorem bGr (H:Hp) (ds:List D):(ds.map AV.d).mapM (frz H 7)=some ds:=aLg H 6 ds
theorem bGs (H:Hp) (ds:List D):(ds.map AV.d).mapM (frz H 6)=some ds:=aLg H 5 ds
theorem bIt (sz:Nat) (l:List D):chunk sz 0 l=[]:=rfl
theorem bIs (sz:Nat) (l:List D):chunk sz 1 l=[l.take sz]:=by simp [chunk,List.range_succ]
theorem bIr (sz:Nat) (l:List D):chunk sz 2 l=[l.take sz,(l.drop sz).take sz]:=by simp [chunk,List.range_succ]
theorem aYz (H:Hp) (avs:List AV) (l:List D):bC H avs (.ag l)=cG H avs:=rfl
theorem bGz (H:Hp) (avs:List AV) (x:Bool):bC H avs (.b x)=[]:=rfl
theorem bGy (H:Hp) (avs:List AV) (k:IntKind) (n:Int):bC H avs (.i k n)=[]:=rfl
theorem aYv (H:Hp) (avs:List AV) (l:List D):bC H avs (.tp l)=if l.all uP then [] else cG H avs:=rfl
theorem aYw (H:Hp) (avs:List AV) (l:List (List D)):bC H avs (.sl l)=cG H avs:=rfl
theorem aUs (H:Hp):cG H []=[]:=rfl
theorem aPx (H:Hp) (a:AV) (l:List AV):cG H (a::l)=vis H 8 a++cG H l:=rfl
theorem bJn (H:Hp) (n:Nat) (x:D):vis H n (.d x)=[]:=by cases n <;> rfl
theorem bDr (H:Hp) (n:Nat):vis H n .nil=[]:=by cases n <;> rfl
theorem bKw (H:Hp) (n:Nat) (x:List (List D)):vis H n (.fd x)=[]:=by cases n <;> rfl
theorem bKx (H:Hp) (n:Nat) (cs:List AV):vis H (n+1) (.ag cs)=cs.flatMap (vis H n):=rfl
theorem aUu (H:Hp) (n:Nat) (ds:List D):(ds.map AV.d).flatMap (vis H n)=[]:=by
 induction ds with
 | nil=>rfl
 | cons d ds ih=>rw [List.map_cons,List.flatMap_cons,ih,bJn]; rfl
def bDu (H:Hp) (n id off len sz:Nat) (ho:Option HO):List Nat:=match ho with
 | some (.cells _ cs)=>id::((cs.drop (off * sz)).take (len * sz)).flatMap (vis H n)
 | _=>[]
theorem bDq (H:Hp) (n id off len sz:Nat):vis H (n+1) (.own id off len sz)=bDu H n id off len sz (H id):=rfl
theorem aJi (H:Hp) (n id off len sz:Nat) (e:TypeId) (cs:List AV):bDu H n id off len sz (some (.cells e cs))=id::((cs.drop (off * sz)).take (len * sz)).flatMap (vis H n):=rfl
theorem aYu (c:AV) (cells:List AV) (off:Nat) (cs:List AV):lay (c::cells) off cs=(c::cells).take off++cs++(c::cells).drop (off+cs.length):=rfl
theorem aKq (v:AV):cU (some v)=some (v,none):=rfl
theorem bQb (sl:List (Nat × AV)) (o0:Option HO) (hs:List HO):(StL sl o0 hs).Γ=kI sl:=rfl
theorem bQd (sl:List (Nat × AV)) (hs:List HO):(StL sl none hs).H=vI 1 hs:=rfl
theorem bNr (sl:List (Nat × AV)) (o:HO) (hs:List HO):(StL sl (some o) hs).H=upd (vI 1 hs) 0 (some o):=rfl
theorem bQc (sl:List (Nat × AV)) (o0:Option HO) (hs:List HO):(StL sl o0 hs).n=hs.length+1:=rfl
theorem bEo (p:Nat × AV) (l:List (Nat × AV)) (t:Nat):kI (p::l) t=if t=p.1 then p.2 else kI l t:=rfl
theorem aVv (t:Nat):kI [] t=.any:=rfl
theorem bIz (i:Nat) (o:HO) (os:List HO) (j:Nat):vI i (o::os) j=if j=i then some o else vI (i+1) os j:=rfl
theorem bBi (i j:Nat):vI i [] j=none:=rfl
theorem aDn (Γ:Nat→AV) (t:Nat):oev Γ (.tmp t)=Γ t:=rfl
theorem bOp (Γ:Nat→AV) (k:IntKind) (n:Int):oev Γ (.const (.int k n))=.d (.i k n):=rfl
theorem bOq (Γ:Nat→AV) (x:Bool):oev Γ (.const (.bool x))=.d (.b x):=rfl
theorem bGb (Γ:Nat→AV):oev Γ (.const (.slice none 0 0))=.nil:=rfl
theorem bGc (Γ:Nat→AV) (cs:Array Value):oev Γ (.const (.agg cs))=.ag (cs.toList.map cv1):=rfl
theorem bPu (k:IntKind) (n:Int):cv1 (.int k n)=.d (.i k n):=rfl
theorem bPv (x:Bool):cv1 (.bool x)=.d (.b x):=rfl
theorem bIm:cv1 (.slice none 0 0)=.nil:=rfl
theorem aTa (cs:Array Value):Value.cells (.agg cs)=cs:=rfl
theorem bIv (k:IntKind) (n:Int):Value.cells (.int k n)=#[.int k n]:=rfl
theorem bIw (x:Bool):Value.cells (.bool x)=#[.bool x]:=rfl
theorem bBf (a:Option Addr) (n c:Nat):Value.cells (.slice a n c)=#[.slice a n c]:=rfl
theorem bMd (k:IntKind) (n:Int):Value.oneCell' (.int k n)=true:=rfl
theorem bMe (x:Bool):Value.oneCell' (.bool x)=true:=rfl
theorem bFy (a:Option Addr) (n c:Nat):Value.oneCell' (.slice a n c)=true:=rfl
theorem bMc (x:Bool):one (.d (.b x))=true:=rfl
theorem bMb (k:IntKind) (n:Int):one (.d (.i k n))=true:=rfl
theorem bFx (l:List (List D)):one (.d (.sl l))=true:=rfl
theorem bFw:one .nil=true:=rfl
theorem bFv (a b c d:Nat):one (.own a b c d)=true:=rfl
theorem bFu (a b:Nat):one (.ptr a b)=true:=rfl
theorem bLy (a:Nat):one (.mp a)=true:=rfl
theorem bMa (l:List (List D)):one (.fd l)=true:=rfl
theorem bLz (l:List D):one (.fp l)=true:=rfl
theorem aTf (x:Bool):dH (.d (.b x))=some [.d (.b x)]:=rfl
theorem aTe (k:IntKind) (n:Int):dH (.d (.i k n))=some [.d (.i k n)]:=rfl
theorem aMf (l:List (List D)):dH (.d (.sl l))=some [.d (.sl l)]:=rfl
theorem aMe:dH .nil=some [.nil]:=rfl
theorem aMd (a b c d:Nat):dH (.own a b c d)=some [.own a b c d]:=rfl
theorem aMc (a b:Nat):dH (.ptr a b)=some [.ptr a b]:=rfl
theorem aTb (a:Nat):dH (.mp a)=some [.mp a]:=rfl
theorem aTd (l:List (List D)):dH (.fd l)=some [.fd l]:=rfl
theorem aTg (cs:List AV):dH (.ag cs)=if cs.all one then some cs else none:=rfl
theorem aMh (cs:List D):dH (.d (.ag cs))=if (cs.map AV.d).all one then some (cs.map .d) else none:=rfl
theorem bJe (cs:List AV):vJ (.ag cs)=some cs:=rfl
theorem bCg (cs:List D):vJ (.d (.ag cs))=some (cs.map .d):=rfl
theorem bEa (cs:List AV):aQd (.tp cs)=some cs:=rfl
theorem aVa (cs:List D):aQd (.d (.tp cs))=some (cs.map .d):=rfl
theorem aZj (k:IntKind) (n:Int):eL (.d (.i k n))=some n:=rfl
theorem aTj (x:Bool):sJ (.d (.b x))=some x:=rfl
theorem aRn (Γ:Nat→AV) (n:Int):aGm none Γ n=some n:=rfl
theorem aRm (Γ:Nat→AV) (x:Operand) (n:Int):aGm (some x) Γ n=eL (oev Γ x):=rfl
theorem aYs (l:List (List D)):aAf (.d (.sl l))=some (l.length:Int):=rfl
theorem bGx (l:List (List D)):aAf (.fd l)=some (l.length:Int):=rfl
theorem aYr:aAf .nil=some 0:=rfl
theorem aYq (a b c d:Nat):aAf (.own a b c d)=some (c:Int):=rfl
theorem aLw (off id o:Nat):tM off (.ptr id o)=some (.ptr id (o+off)):=rfl
theorem aSp (off:Nat) (cs:List D):tM off (.fp cs)=some (.fp (cs.drop off)):=rfl
theorem aLp (sz:Nat) (k:Int) (els:List (List D)):qM sz k (.d (.sl els))=if 0≤k then (els[k.toNat]?).bind fun cs=>if cs.length=sz then some (.fp cs) else none else none:=rfl
theorem aSf (sz:Nat) (k:Int) (els:List (List D)):qM sz k (.fd els)=if 0≤k then (els[k.toNat]?).bind fun cs=>if cs.length=sz then some (.fp cs) else none else none:=rfl
theorem aLo (sz:Nat) (k:Int) (id off len sz':Nat):qM sz k (.own id off len sz')=if 0≤k∧k<len∧sz'=sz then some (.ptr id ((off+k.toNat) * sz)) else none:=rfl
theorem aLq (sz m:Nat) (k:Int) (id o:Nat):tG sz m k (.ptr id o)=if 0≤k∧k<m then some (.ptr id (o+k.toNat * sz)) else none:=rfl
theorem aSg (sz m:Nat) (k:Int) (cs:List D):tG sz m k (.fp cs)=if 0≤k∧k<m then some (.fp (cs.drop (k.toNat * sz))) else none:=rfl
theorem bNl (op:BinOp) (x y:Bool):dL op true (.d (.b x)) (.d (.b y))=match op with | .eql=>some (.b (x == y)) | .neq=>some (.b (!(x == y))) | _=>none:=rfl
theorem bBw (t:Bool) (k:IntKind) (a b:Int):dL .add t (.d (.i k a)) (.d (.i k b))=some (.i k (k.wrap (a+b))):=by simp [dL,arith]
theorem bBk (t:Bool) (k:IntKind) (a b:Int):dL .sub t (.d (.i k a)) (.d (.i k b))=some (.i k (k.wrap (a - b))):=by simp [dL,arith]
theorem bBq (t:Bool) (k:IntKind) (a b:Int):dL .mul t (.d (.i k a)) (.d (.i k b))=some (.i k (k.wrap (a * b))):=by simp [dL,arith]
theorem bBo (t:Bool) (k:IntKind) (a b:Int):dL .quo t (.d (.i k a)) (.d (.i k b))=if b=0 then none else some (.i k (k.wrap (a.tdiv b))):=by simp [dL,arith]
theorem bBn (t:Bool) (k:IntKind) (a b:Int):dL .rem t (.d (.i k a)) (.d (.i k b))=if b=0 then none else some (.i k (a.tmod b)):=by simp [dL,arith]
theorem bBv (t:Bool) (k:IntKind) (a b:Int):dL .eql t (.d (.i k a)) (.d (.i k b))=some (.b (a == b)):=by simp [dL,arith]
theorem bBp (t:Bool) (k:IntKind) (a b:Int):dL .neq t (.d (.i k a)) (.d (.i k b))=some (.b (a != b)):=by simp [dL,arith]
theorem bBr (t:Bool) (k:IntKind) (a b:Int):dL .lss t (.d (.i k a)) (.d (.i k b))=some (.b (decide (a<b))):=by simp [dL,arith]
theorem bBs (t:Bool) (k:IntKind) (a b:Int):dL .leq t (.d (.i k a)) (.d (.i k b))=some (.b (decide (a≤b))):=by simp [dL,arith]
theorem bBt (t:Bool) (k:IntKind) (a b:Int):dL .gtr t (.d (.i k a)) (.d (.i k b))=some (.b (decide (b<a))):=by simp [dL,arith]
theorem bBu (t:Bool) (k:IntKind) (a b:Int):dL .geq t (.d (.i k a)) (.d (.i k b))=some (.b (decide (b≤a))):=by simp [dL,arith]
theorem bBm (t:Bool) (k k':IntKind) (a b:Int):dL .shl t (.d (.i k a)) (.d (.i k' b))=dV .shl k a b:=by simp [dL]
theorem bBl (t:Bool) (k k':IntKind) (a b:Int):dL .shr t (.d (.i k a)) (.d (.i k' b))=dV .shr k a b:=by simp [dL]
theorem aTl (op:BinOp) (t:Bool) (x:AV):dL op t x .nil=none:=by unfold dL; split <;> simp_all
theorem bDx (p:Bool):unA .not (.d (.b p))=some (.b !p):=rfl
theorem bDy (k:IntKind) (a:Int):unA .neg (.d (.i k a))=some (.i k (k.wrap (0 - a))):=rfl
theorem aRs (op:BinOp) (x y:AV):aRt op none x y=none:=rfl
theorem aYb (op:BinOp) (e:TypeId) (x:AV):aRt op (some e) x .nil=(xU x).bind (bGh op):=rfl
theorem bMx (x:Bool):aS (.b x)=.d (.b x):=rfl
theorem bMw (k:IntKind) (n:Int):aS (.i k n)=.d (.i k n):=rfl
theorem bHi (l:List (List D)):aS (.sl l)=.d (.sl l):=rfl
theorem bHl (l:List D):aS (.ag l)=.ag (l.map .d):=rfl
theorem bPp (x:Bool):inj (.b x)=.d (.b x):=rfl
theorem bPo (k:IntKind) (n:Int):inj (.i k n)=.d (.i k n):=rfl
theorem bMt (l:List (List D)):inj (.sl l)=.d (.sl l):=rfl
theorem bMv (l:List D):inj (.ag l)=.ag (l.map .d):=rfl
theorem bMs (l:List D):inj (.tp l)=.tp (l.map aS):=rfl
theorem bEs (l:List Nat) (x:D):iO l (.d x)=.d x:=rfl
theorem aQo (l:List Nat):iO l .nil=.nil:=rfl
theorem aWc (l:List Nat):iO l .un=.un:=rfl
theorem aQp (l:List Nat):iO l .any=.any:=rfl
theorem aQn (l:List Nat) (a b c d:Nat):iO l (.own a b c d)=if a∈l then .any else .own a b c d:=rfl
theorem aQm (l:List Nat) (a b:Nat):iO l (.ptr a b)=if a∈l then .any else .ptr a b:=rfl
theorem aWe (l:List Nat) (a:Nat):iO l (.mp a)=if a∈l then .any else .mp a:=rfl
theorem aWf (l:List Nat) (c:List D):iO l (.fp c)=.fp c:=rfl
theorem aWh (l:List Nat) (c:List (List D)):iO l (.fd c)=.fd c:=rfl
theorem aWi (l:List Nat) (c:List AV):iO l (.ag c)=.ag (c.map (dW l)):=rfl
theorem aWd (l:List Nat) (c:List AV):iO l (.tp c)=.tp (c.map (wY l)):=rfl
theorem aWj (l:List Nat) (x:D):dW l (.d x)=.d x:=rfl
theorem aKd (l:List Nat):dW l .nil=.nil:=rfl
theorem aQq (l:List Nat):dW l .un=.un:=rfl
theorem aKe (l:List Nat):dW l .any=.any:=rfl
theorem aKc (l:List Nat) (a b c d:Nat):dW l (.own a b c d)=if a∈l then .any else .own a b c d:=rfl
theorem aKb (l:List Nat) (a b:Nat):dW l (.ptr a b)=if a∈l then .any else .ptr a b:=rfl
theorem qZ (l:List Nat) (e:TypeId) (cs:List AV):fZ l (.cells e cs)=.cells e (cs.map (dW l)):=rfl
theorem aFo (l:List Nat) (e:TypeId) (ds:List D):fZ l (.cells e (ds.map .d))=.cells e (ds.map .d):=by rw [qZ,aAt]
theorem aVk (H:Hp) (sz:Nat):zU H sz .nil=some (0,[]):=rfl
theorem aVl (H:Hp) (sz:Nat) (els:List (List D)):zU H sz (.d (.sl els))=if fH sz els=true∧(els.flatten.map AV.d).all one=true then some (els.length,els.flatten.map .d) else none:=rfl
theorem bEh (H:Hp) (sz:Nat) (els:List (List D)):zU H sz (.fd els)=if fH sz els=true∧(els.flatten.map AV.d).all one=true then some (els.length,els.flatten.map .d) else none:=rfl
def aVi (ho:Option HO) (sz off len sz':Nat):Option (Nat × List AV):=match ho with
  | some (.cells _ cs)=>if sz'=sz∧(off+len) * sz≤cs.length∧((cs.drop (off * sz)).take (len * sz)).all one=true then some (len,(cs.drop (off * sz)).take (len * sz)) else none
  | _=>none
theorem aVj (H:Hp) (sz id off len sz':Nat):zU H sz (.own id off len sz')=aVi (H id) sz off len sz':=rfl
theorem aCy (e:TypeId) (cs:List AV) (sz off len sz':Nat):aVi (some (.cells e cs)) sz off len sz'=if sz'=sz∧(off+len) * sz≤cs.length∧((cs.drop (off * sz)).take (len * sz)).all one=true then some (len,(cs.drop (off * sz)).take (len * sz)) else none:=rfl
theorem aKv (sz:Nat):fH sz []=true:=rfl
theorem aGq (sz:Nat) (a:List D) (l:List (List D)):fH sz (a::l)=(a.length == sz):=rfl
def bCc (e : TypeId) (sz bt n : Nat) (s : AV) (ho : Option HO) (p : Nat × List AV) : Option (AV × Option HO × List Nat) := match s with
      | .nil=>if p.1=0 then some (.nil,none,[]) else if p.1 * bt≤140737488355328∧p.1≤maxLen then some (.own n 0 p.1 sz,some (.cells e p.2),[]) else none
      | .own id off len sz'=>match ho with
        | some (.cells e' cs)=>if off=0∧sz'=sz∧e'=e∧cs.length=len * sz∧(len+p.1) * bt≤140737488355328∧len+p.1≤maxLen then
            some (.own n 0 (len+p.1) sz,some (.cells e (cs++p.2)),[id]) else none
        | _=>none
      | .fd els => if 0 < p.1 ∧ fH sz els = true ∧ (els.flatten.map AV.d).all one = true ∧ (els.length + p.1) * bt ≤ 140737488355328 ∧ els.length + p.1 ≤ maxLen then
            some (.own n 0 (els.length+p.1) sz,some (.cells e (els.flatten.map .d++p.2)),[]) else if p.1=0 then some (.fd els,none,[]) else none
      | _=>none
def aNz:AV→Nat
 | .own id _ _ _=>id
 | _=>0
theorem bCd (H:Hp) (t:TypeId) (s x:AV) (n:Nat):aAh P H t s x n=(tel P t).bind fun e=>(tsz P e).bind fun sz=>(tby P e).bind fun bt=>(tz P e).bind fun z=>(zU H sz x).bind fun p =>
  if z.cells.size=sz∧0<sz then bCc e sz bt n s (H (aNz s)) p else none:=by
 unfold aAh
 congr; funext e; congr; funext sz; congr; funext bt; congr; funext z; congr; funext p
 split
 ·cases s <;> rfl
 ·rfl
theorem aRk (a b c d:Nat):aNz (.own a b c d)=a:=rfl
theorem aRl:aNz .nil=0:=rfl
theorem aXj (l:List (List D)):aNz (.fd l)=0:=rfl
theorem bJd (e : TypeId) (sz bt n : Nat) (ho : Option HO) (els : List (List D)) (m : Nat) (cs : List AV) : bCc e sz bt n (.fd els) ho (m, cs) = if 0 < m ∧ fH sz els = true ∧ (els.flatten.map AV.d).all one = true ∧ (els.length + m) * bt ≤ 140737488355328 ∧ els.length + m ≤ maxLen then
            some (.own n 0 (els.length+m) sz,some (.cells e (els.flatten.map .d++cs)),[]) else if m=0 then some (.fd els,none,[]) else none:=rfl
theorem bCb (e:TypeId) (sz bt n:Nat) (ho:Option HO) (m:Nat) (cs:List AV):bCc e sz bt n .nil ho (m,cs)=if m=0 then some (.nil,none,[]) else if m * bt≤140737488355328∧m≤maxLen then some (.own n 0 m sz,some (.cells e cs),[]) else none:=rfl
theorem bCa (e e' : TypeId) (sz bt n id off len sz' : Nat) (cs : List AV) (m : Nat) (ds : List AV) : bCc e sz bt n (.own id off len sz') (some (.cells e' cs)) (m, ds) = if off = 0 ∧ sz' = sz ∧ e' = e ∧ cs.length = len * sz ∧ (len + m) * bt ≤ 140737488355328 ∧ len + m ≤ maxLen then
            some (.own n 0 (len+m) sz,some (.cells e (cs++ds)),[id]) else none:=rfl
def ldC (ag:Bool) (sz:Option Nat) (off:Nat) (ho:Option HO):Option AV:=match ho with
  | some (.cells _ cs)=>if ag then sz.bind fun sz=>if off+sz≤cs.length then some (.ag ((cs.drop off).take sz)) else none else cs[off]?
  | _=>none
theorem aSa (H:Hp) (t:TypeId) (id off:Nat):rN P H t (.ptr id off)=(cA P t).bind fun ag=>ldC ag (tsz P t) off (H id):=rfl
theorem aSe (ag:Bool) (sz:Option Nat) (off:Nat) (e:TypeId) (cs:List AV):ldC ag sz off (some (.cells e cs))=if ag then sz.bind fun sz=>if off+sz≤cs.length then some (.ag ((cs.drop off).take sz)) else none else cs[off]? := rfl
theorem aYk (H:Hp) (t:TypeId) (cs:List D):rN P H t (.fp cs)=(cA P t).bind fun ag=>if ag then (tsz P t).bind fun sz=>if sz≤cs.length then some (.ag ((cs.take sz).map .d)) else none else (cs[0]?).map .d:=rfl
def stC (id off:Nat) (sz:Option Nat) (vs:Option (List AV)) (ho:Option HO):Option (Nat × HO):=match ho with
  | some (.cells e cs)=>vs.bind fun vs=>sz.bind fun sz=>if vs.length=sz∧off+sz≤cs.length then some (id,.cells e (lay cs off vs)) else none
  | _=>none
theorem aJs (H:Hp) (t:TypeId) (id off:Nat) (x:AV):mH P H t (.ptr id off) x=stC id off (tsz P t) (dH x) (H id):=rfl
theorem aQh (id off:Nat) (sz:Option Nat) (vs:Option (List AV)) (e:TypeId) (cs:List AV):stC id off sz vs (some (.cells e cs))=vs.bind fun vs=>sz.bind fun sz=>if vs.length=sz∧off+sz≤cs.length then some (id,.cells e (lay cs off vs)) else none:=rfl
theorem yC (H:Hp) (n id off len sz:Nat):frz H (n+1) (.own id off len sz)=match H id with
  | some (.cells _ cs)=>if (off+len) * sz≤cs.length∧0<sz then (((cs.drop (off * sz)).take (len * sz)).mapM (frz H n)).map fun l=>.sl (chunk sz len l) else none
  | _=>none:=rfl
theorem aWz (σ:St) (t:Nat):jE P σ (.tmp t)=some (σ.Γ t):=rfl
theorem aQw (σ:St) (ad t:Nat):jE P σ (.cell ad t)=rN P σ.H t (σ.Γ ad):=rfl
theorem aWy (x:ResultVar) (σ:St):iS P [x] σ=(jE P σ x).bind fun av=>frz σ.H 8 av:=by
 unfold iS
 simp only [List.mapM_cons,List.mapM_nil,Option.pure_def,Option.bind_eq_bind]
 cases jE P σ x with
 | none=>rfl
 | some av =>
  simp only [Option.bind_some,cL,List.mapM_cons,List.mapM_nil,Option.pure_def,Option.bind_eq_bind]
  cases frz σ.H 8 av <;> rfl
theorem aZb (H:Hp):kill [] H=H:=rfl
theorem aZa (a:Nat) (H:Hp):kill [a] H=fun id=>if id=a then none else H id:=by funext id; simp [kill]
theorem aTp (H:Hp) (n:Nat):fV H n none=H:=rfl
theorem aTo (H:Hp) (n:Nat) (o:HO):fV H n (some o)=upd H n (some o):=rfl
theorem bAy (n:Nat):cnt none n=n:=rfl
theorem bAx (n:Nat) (o:HO):cnt (some o) n=n+1:=rfl
theorem aRf (Γ:Nat→AV) (d:Nat) (v:AV):bK Γ (some d) v=upd Γ d v:=rfl
theorem aRg (Γ:Nat→AV) (v:AV):bK Γ none v=Γ:=rfl
theorem aJm {α:Type} (f:Nat→α) (k j:Nat) (x:α):upd f k x j=if j=k then x else f j:=rfl
theorem aSo (place:Nat→Option (Nat × Nat)) (cells:List AV):kC place cells []=some cells:=rfl
def bJy (place:Nat→Option (Nat × Nat)) (cells:List AV) (pl:Option (Nat × Nat)) (cs:Option (List AV)) (rest:List (Nat × AV)):Option (List AV):=match pl,cs with
 | some (off,size),some cs=>if cs.length=size∧off+cs.length≤cells.length then kC place (lay cells off cs) rest else none
 | _,_=>none
theorem aLv (place:Nat→Option (Nat × Nat)) (cells:List AV) (i:Nat) (x:AV) (rest:List (Nat × AV)):kC place cells ((i,x)::rest)=bJy place cells (place i) (dH x) rest:=rfl
theorem aLu (place:Nat→Option (Nat × Nat)) (cells:List AV) (off size:Nat) (cs:List AV) (rest:List (Nat × AV)):bJy place cells (some (off,size)) (some cs) rest=if cs.length=size∧off+cs.length≤cells.length then kC place (lay cells off cs) rest else none:=rfl
theorem aKa (sz:Nat) (els:List (List D)) (l h:Int) (full:Bool):jV sz (.d (.sl els)) l h full=if 0≤l∧l≤h then if h≤els.length∧fH sz els=true then some (if full then .fd ((els.take h.toNat).drop l.toNat) else .d (.sl ((els.take h.toNat).drop l.toNat))) else none else none:=rfl
theorem aQl (sz:Nat) (els:List (List D)) (l h:Int) (full:Bool):jV sz (.fd els) l h full=if 0≤l∧l≤h then if h≤els.length∧fH sz els=true then some (if full then .fd ((els.take h.toNat).drop l.toNat) else .d (.sl ((els.take h.toNat).drop l.toNat))) else none else none:=rfl
theorem aCt (ops:Array Oper) (dst:Option Tmp) (op:Op) (ty:TypeId) (pos:String) (after:Array Edge) (j:Nat) (w:Bool) (Γ:Nat→AV):cX ops ⟨dst,op,ty,pos,after,some (j,w)⟩ Γ =
  match (ops[j]?).bind (·.dst) with
  | none=>some false
  | some d=>match Γ d with
   | .d (.b x)=>some (x == w)
   | .un=>some false
   | _=>none:=rfl
theorem bKk (args:List D) (N t:Nat):Γ0 args N t=match args[t]? with | some d=>aS d | none=>.un:=by unfold Γ0; cases args[t]? <;> simp
theorem oG (m:List Nat) (f:Nat→D):fH 1 (m.map fun x=>[f x])=true:=by cases m <;> rfl
end Go.Am
end
section
open List renaming map_map→ζ,mapM_map→ξ
namespace Go.Am
def val:List Nat→Nat
 | []=>0
 | x::l=>x+4294967296 * val l
def Lim (l:List Nat):Prop:=∀ x∈l,x<4294967296
theorem Lim.nil:Lim []:=fun _ h=>by cases h
theorem Lim.cons {x:Nat} {l:List Nat} (h:x<4294967296) (k:Lim l):Lim (x::l):=fun y hy=>by
 rcases List.mem_cons.1 hy with rfl | hy
 ·exact h
 ·exact k y hy
theorem Lim.app {a b:List Nat} (h:Lim a) (k:Lim b):Lim (a++b):=fun y hy=>by
 rcases List.mem_append.1 hy with hy | hy
 ·exact h y hy
 ·exact k y hy
theorem Lim.one {x:Nat} (h:x<4294967296):Lim [x]:=.cons h .nil
theorem Lim.take {l:List Nat} (h:Lim l) (n:Nat):Lim (l.take n):=fun y hy=>h y (List.mem_of_mem_take hy)
theorem Lim.get {l:List Nat} (h:Lim l) {i:Nat} (hi:i<l.length):l[i]<4294967296:=h _ (List.getElem_mem hi)
theorem Lim.getD {l:List Nat} (h:Lim l) (i:Nat):l.getD i 0<4294967296:=by
 rw [List.getD_eq_getElem?_getD]
 rcases Nat.lt_or_ge i l.length with hi | hi
 ·rw [List.getElem?_eq_getElem hi]; exact h.get hi
 ·rw [List.getElem?_eq_none hi]; decide
theorem Lim.rep (n:Nat):Lim (List.replicate n 0):=fun y hy=>by rw [(List.mem_replicate.1 hy).2]; decide
theorem Lim.set {l:List Nat} (h:Lim l) (i:Nat) {x:Nat} (hx:x<4294967296):Lim (l.set i x):=fun y hy=>by
 rcases List.mem_or_eq_of_mem_set hy with hy | rfl
 ·exact h y hy
 ·exact hx
theorem jI (a b:List Nat):val (a++b)=val a+4294967296 ^ a.length * val b:=by
 induction a with
 | nil=>simp [val]
 | cons x a ih =>
  simp only [List.cons_append,val,ih,List.length_cons,Nat.pow_succ,Nat.mul_add]
  rw [Nat.mul_comm (4294967296 ^ a.length) 4294967296,Nat.mul_assoc]
  omega
theorem vN (n:Nat):val (List.replicate n 0)=0:=by
 induction n with
 | zero=>rfl
 | succ n ih=>simp [List.replicate_succ,val,ih]
theorem nW {l:List Nat} (h:Lim l):val l<4294967296 ^ l.length:=by
 induction l with
 | nil=>simp [val]
 | cons x l ih =>
  have h1:=h x (List.mem_cons_self ..)
  have h2:=ih fun y hy=>h y (List.mem_cons_of_mem _ hy)
  simp only [val,List.length_cons,Nat.pow_succ]
  omega
theorem cC (l:List Nat) (i:Nat):val (l.take (i+1))=val (l.take i)+4294967296 ^ i * l.getD i 0:=by
 rcases Nat.lt_or_ge i l.length with hi | hi
 ·rw [List.take_add_one,List.getElem?_eq_getElem hi,jI,List.length_take,Nat.min_eq_left (by omega),List.getD_eq_getElem?_getD,List.getElem?_eq_getElem hi]
  simp [val]
 ·rw [List.take_of_length_le (by omega),List.take_of_length_le (by omega),List.getD_eq_getElem?_getD,List.getElem?_eq_none hi]
  simp
def aR (n:Nat):List Nat:=if h:n=0 then [] else n % 4294967296::aR (n / 4294967296)
termination_by n
decreasing_by omega
theorem cB:aR 0=[]:=by rw [aR]; simp
theorem gE {n:Nat} (h:n≠0):aR n=n % 4294967296::aR (n / 4294967296):=by rw [aR]; simp [h]
theorem gY {n:Nat}:aR n=[]↔n=0:=by
 constructor
 ·intro h
  by_cases hn:n=0
  ·exact hn
  ·rw [gE hn] at h; cases h
 ·rintro rfl; exact cB
theorem yM {p:Nat→Prop} (h0:p 0) (h1:∀ n,n≠0→p (n / 4294967296)→p n):∀ n,p n:=fun n=>by
 induction n using Nat.strongRecOn with
 | _ n ih =>
  by_cases hn:n=0
  ·subst hn; exact h0
  ·exact h1 n hn (ih _ (by omega))
theorem cE (n:Nat):val (aR n)=n:=by
 refine yM (p:=fun n=>val (aR n)=n) (by rw [cB]; rfl) (fun n hn ih=>?_) n
 rw [gE hn,val,ih]; omega
theorem bW (n:Nat):Lim (aR n):=by
 refine yM (p:=fun n=>Lim (aR n)) (by rw [cB]; exact .nil) (fun n hn ih=>?_) n
 rw [gE hn]; exact .cons (by omega) ih
def kZ (l:List Nat):Prop:=l.getLast? ≠ some 0
theorem nA (n:Nat):kZ (aR n):=by
 refine yM (p:=fun n=>kZ (aR n)) (by rw [cB]; simp [kZ]) (fun n hn ih=>?_) n
 rw [gE hn]
 by_cases h:n / 4294967296=0
 ·rw [h,cB]
  simp only [kZ,List.getLast?_singleton,ne_eq,Option.some.injEq]
  omega
 ·unfold kZ at ih ⊢
  rw [gE h] at ih ⊢
  simpa [List.getLast?_cons_cons] using ih
def strip:List Nat→List Nat
 | []=>[]
 | x::l=>match strip l with
  | []=>if x=0 then [] else [x]
  | l'=>x::l'
theorem fL {l:List Nat} (h:Lim l):strip l=aR (val l):=by
 induction l with
 | nil=>rw [val,cB]; rfl
 | cons x l ih =>
  have hx:=h x (List.mem_cons_self ..)
  have hl:=ih fun y hy=>h y (List.mem_cons_of_mem _ hy)
  simp only [strip,val]
  rw [hl]
  by_cases h0:val l=0
  ·rw [h0,cB]
   simp only [Nat.mul_zero,Nat.add_zero]
   by_cases hx0:x=0
   ·subst hx0; rw [cB]; rfl
   ·rw [if_neg hx0,gE hx0,Nat.mod_eq_of_lt hx,Nat.div_eq_of_lt hx,cB]
  ·rw [gE (n:=x+_) (by omega)]
   have e1:(x+4294967296 * val l) % 4294967296=x:=by omega
   have e2:(x+4294967296 * val l) / 4294967296=val l:=by omega
   rw [e1,e2]
   have:aR (val l)≠[]:=fun e=>h0 (gY.1 e)
   cases hd:aR (val l) with
   | nil=>exact (this hd).elim
   | cons=>rfl
theorem wR (l:List Nat):strip (l++[0])=strip l:=by
 induction l with
 | nil=>rfl
 | cons x l ih=>simp only [List.cons_append,strip,ih]
theorem nX {l:List Nat} (h:kZ l):strip l=l:=by
 induction l with
 | nil=>rfl
 | cons x l ih =>
  cases l with
  | nil =>
   have:x≠0:=by simpa [kZ] using h
   simp [strip,this]
  | cons y l =>
   have h2:kZ (y::l):=by simpa [kZ,List.getLast?_cons_cons] using h
   have h3:=ih h2
   rw [strip,h3]
theorem bAs {l:List Nat} (h:Lim l) (hc:kZ l):aR (val l)=l:=by rw [← fL h,nX hc]
theorem dB {n k:Nat} (h:n<4294967296 ^ k):(aR n).length≤k:=by
 induction k generalizing n with
 | zero=>simp at h; subst h; rw [cB]; simp
 | succ k ih =>
  by_cases hn:n=0
  ·subst hn; rw [cB]; simp
  ·rw [gE hn,List.length_cons]
   have:n / 4294967296<4294967296 ^ k:=by rw [Nat.pow_succ] at h; omega
   have:=ih this
   omega
theorem jX {n k:Nat} (h:(aR n).length≤k):n<4294967296 ^ k:=by
 have h1:=nW (bW n)
 rw [cE] at h1
 exact Nat.lt_of_lt_of_le h1 (Nat.pow_le_pow_right (by decide) h)
theorem dX {a b:Nat} (h:a≤b):(aR a).length≤(aR b).length:=dB (Nat.lt_of_le_of_lt h (jX (Nat.le_refl _)))
theorem fS {a b:Nat} (h:(aR a).length<(aR b).length):a<b:=by
 rcases Nat.lt_or_ge a b with h' | h'
 ·exact h'
 ·have:=dX h'; omega
theorem pD {a b:List Nat} (ha:Lim a) {i:Nat} (hl:a.length=b.length) (hi:i<a.length) (hd:a.drop (i+1)=b.drop (i+1)) (hlt:a.getD i 0<b.getD i 0):val a<val b:=by
 have e1:a=a.take (i+1)++a.drop (i+1):=(List.take_append_drop _ _).symm
 have e2:b=b.take (i+1)++b.drop (i+1):=(List.take_append_drop _ _).symm
 rw [e1,e2,jI,jI,hd,cC,cC]
 have h1:=nW (ha.take i)
 rw [List.length_take,Nat.min_eq_left (by omega)] at h1
 have h2:(a.take (i+1)).length=(b.take (i+1)).length:=by simp [hl]
 rw [h2]
 have h3:4294967296 ^ i * (a.getD i 0+1)≤4294967296 ^ i * b.getD i 0:=Nat.mul_le_mul_left _ hlt
 rw [Nat.mul_add,Nat.mul_one] at h3
 omega
/-! Encodings -/
def aG (m:List Nat):D:=.sl (m.map fun (x:Nat)=>[D.i .u32 (x:Int)])
def lms (m:List Nat):List D:=m.map fun (x:Nat)=>D.i .u32 (x:Int)
theorem iU (m:List Nat):(lms m).length=m.length:=by simp [lms]
theorem dQ (a b:List Nat):lms (a++b)=lms a++lms b:=by simp [lms]
theorem eE (x:Nat):lms [x]=[D.i .u32 (x:Int)]:=rfl
theorem aOn {m:List Nat} {i x:Nat} (h:m[i]? = some x):(lms m)[i]? = some (.i .u32 (x:Int)):=by simp [lms,h]
theorem rO (m:List Nat) (i x:Nat):(lms m).set i (.i .u32 (x:Int))=lms (m.set i x):=by simp [lms,List.map_set]
theorem aHi (m:List Nat):(m.map fun (x:Nat)=>[D.i .u32 (x:Int)]).flatten=lms m:=by unfold lms; induction m <;> simp_all
theorem aOo (m:List Nat):((lms m).map AV.d).all one=true:=by simp [lms,one]
theorem aYl (m:List Nat):(∀ x,x∈lms m→one (AV.d x)=true)↔True:=⟨fun _=>trivial,fun _ x hx=>by
 obtain ⟨y,_,rfl⟩:=List.mem_map.1 hx; rfl⟩
theorem bGv (n:Nat):List.replicate n (D.i .u32 0)=lms (List.replicate n 0):=by simp [lms]
theorem bFe (n:Nat):List.replicate n (AV.d (D.i .u32 0))=(lms (List.replicate n 0)).map .d:=by simp [lms]
theorem dM {m:List Nat} {n:Nat} (h:m.length=n):chunk 1 n (lms m)=m.map fun (x:Nat)=>[D.i .u32 (x:Int)]:=by
 rw [tQ _ _ (by rw [iU]; exact h.symm)]; simp [lms]
theorem cM {m:List Nat} {n:Nat} (h:m.length=n):List.take n ((lms m).map AV.d)=(lms m).map AV.d:=List.take_of_length_le (by simp [iU,h])
def encI (neg:Bool) (m:List Nat):D:=.ag [.b neg,aG m]
def encZ (z:Int):D:=encI (decide (z<0)) (aR z.natAbs)
def sg (neg:Bool) (n:Nat):Int:=if neg then -(n:Int) else n
theorem bIc (neg:Bool) (n:Nat):encI (neg && decide (n≠0)) (aR n)=encZ (sg neg n):=by
 unfold encZ sg
 cases neg
 ·have h:decide ((n:Int)<0)=false:=by simp
  simp [h]
 ·simp only [Bool.true_and,if_true,Int.natAbs_neg,Int.natAbs_natCast]
  congr 1
  rw [Bool.eq_iff_iff]; simp; omega
theorem fE (z:Int):sg (decide (z<0)) z.natAbs=z:=by
 unfold sg
 by_cases h:z<0
 ·rw [if_pos (by simpa using h)]; omega
 ·rw [if_neg (by simpa using h)]; omega
/-! Wrapping -/
theorem wrap_i64 {n:Int} (h1:-9223372036854775808≤n) (h2:n≤9223372036854775807):IntKind.i64.wrap n=n:=by
 simp [IntKind.wrap,IntKind.signed,IntKind.bits]
 omega
theorem bB {n:Int} (h1:-9223372036854775808≤n:=by omega) (h2:n≤9223372036854775807:=by omega):IntKind.i64.wrap n=n:=wrap_i64 h1 h2
theorem wrap_u64 {n:Int} (h1:0≤n) (h2:n<18446744073709551616):IntKind.u64.wrap n=n:=by
 simp [IntKind.wrap,IntKind.signed,IntKind.bits]
 omega
theorem sT (n:Int):IntKind.u64.wrap n=n % 18446744073709551616:=by
 simp [IntKind.wrap,IntKind.signed,IntKind.bits]
theorem fD (n:Int):IntKind.u32.wrap n=n % 4294967296:=by
 simp [IntKind.wrap,IntKind.signed,IntKind.bits]
theorem wrap_u32 {n:Int} (h1:0≤n) (h2:n<4294967296):IntKind.u32.wrap n=n:=by
 rw [fD]; omega
end Go.Am
end
