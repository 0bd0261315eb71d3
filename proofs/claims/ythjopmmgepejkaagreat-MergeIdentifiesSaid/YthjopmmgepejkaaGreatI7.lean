/- The check of chapter 31: it answers true. No condition. -/
import Derived.Test.YthjopmmgepejkaaGreatI6
import Derived.Shelf.SlSortCmp.PdqK
import Derived.Ground.SlsfProg
import Derived.Shelf.SlicesG.Cmp
import Derived.Test.YthjopmmgepejkaaGreatI4
import Derived.Test.YthjopmmgepejkaaGreatI5
section
set_option linter.unusedVariables false
set_option linter.unusedSimpArgs false
namespace Go.Am
open RowKit (Below)
inductive Tr where
 | leaf
 | one (i:Nat) (t:Tr)
 | two (i:Nat) (t:Tr) (j:Nat) (u:Tr)
def noNew (P:Program) (o:Oper):Bool:=match o.op with
 | .move _=>true
 | .assign _=>true
 | .insert ..=>true
 | .call { callee:=.value (.func f),.. }=>!mutF P f && !newF P f
 | _=>false
def opL (ops:Array Oper) (i:Nat):List Oper:=(ops.toList.drop i).take 1
def opsL (ops:Array Oper) (is:List Nat):List Oper:=is.flatMap (opL ops)
theorem opL_get {ops:Array Oper} {i:Nat} {o:Oper} (h:ops[i]? = some o):opL ops i=[o]:=by
 unfold opL
 have h':ops.toList[i]? = some o:=by simpa using h
 obtain ⟨hl,he⟩:=List.getElem?_eq_some_iff.1 h'
 rw [List.drop_eq_getElem_cons hl,he]; rfl
def preOk (P:Program) (ops:Array Oper):List Nat→Array Bool→Option (Array Bool)
 | [],l=>some l
 | i::is,l=>if (Region.ready .any ops l).contains i && free2 P ops l i then preOk P ops is (l.setIfInBounds i true) else none
def nnAt (P:Program) (ops:Array Oper) (i:Nat):Bool:=match ops[i]? with
 | some o=>noNew P o
 | none=>false
def chkT (P:Program) (ops:Array Oper):Nat→Array Bool→Tr→Bool
 | 0,l,.leaf=>(Region.ready .any ops l).isEmpty
 | n+1,l,.one i t=>(Region.ready .any ops l == [i]) && nnAt P ops i && chkT P ops n (l.setIfInBounds i true) t
 | n+1,l,.two i t j u=>(Region.ready .any ops l == [i,j]) && nnAt P ops i && nnAt P ops j && chkT P ops n (l.setIfInBounds i true) t && chkT P ops n (l.setIfInBounds j true) u
 | _,_,_=>false
def OWT (P:Program) (ops:Array Oper):Tr→St→List Nat→(St→List Nat→Prop)→Prop
 | .leaf,σ,con,k=>k σ con
 | .one i t,σ,con,k=>OW P ops (opL ops i) σ con fun σ' con'=>OWT P ops t σ' con' k
 | .two i t j u,σ,con,k=>(OW P ops (opL ops i) σ con fun σ' con'=>OWT P ops t σ' con' k)∧(OW P ops (opL ops j) σ con fun σ' con'=>OWT P ops u σ' con' k)
def treeOk (P:Program) (ops:Array Oper) (pre:List Nat) (t:Tr):Bool:=match preOk P ops pre (Array.replicate ops.size false) with
 | some l=>noNext (opsL ops pre) && decide (pre.length≤ops.size) && chkT P ops (ops.size - pre.length) l t
 | none=>false
section
variable {P:Program} {G:Ctx} {ops:Array Oper}
theorem aAny_pre {Q:AS→Prop} {n:Nat} {l1:Array Bool}:∀ (is:List Nat) (listed:Array Bool) (s:AS),Dc ops listed→preOk P ops is listed=some l1→aLex P G ops (fun s'=>Dc ops l1→aAny P G ops Q n l1 s') (opsL ops is) s→aAny P G ops Q (is.length+n) listed s
 | [],listed,s,hdc,hp,h=>by
  simp only [preOk,Option.some.injEq] at hp; subst hp
  simpa using h hdc
 | i::is,listed,s,hdc,hp,h=>by
  simp only [preOk] at hp
  split at hp
  case isFalse=>cases hp
  rename_i hc
  simp only [Bool.and_eq_true] at hc
  have hr:i∈Region.ready .any ops listed:=by simpa using hc.1
  obtain ⟨_,o,ho,_⟩:=mem_ready.1 hr
  have e:opsL ops (i::is)=o::opsL ops is:=by
   show opL ops i++opsL ops is=_
   rw [opL_get ho]; rfl
  rw [e] at h
  obtain ⟨s',hd,h⟩:=h
  rw [List.length_cons,Nat.add_right_comm]
  exact aAny_first ho (is.length+n) listed s s' hdc (free2_spec ho hc.2) hr hd (aAny_pre is _ _ (Dc_set hdc hr) hp h)
theorem one0 {k:St→List Nat→Prop} {o:Oper} {σ:St} {con:List Nat} (hnn:noNew P o=true) (hn0:σ.n=0→∀ b,G.P0 b) (hwf:Wf σ con) (h:OW P ops [o] σ con k) :
  ∀ s,Agree σ con s→∃ s',Does P G ops o s s'∧∃ σ' con',k σ' con'∧(σ'.n=0→∀ b,G.P0 b)∧Wf σ' con'∧Agree σ' con' s':=by
 unfold OW at h
 have pure0:∀ (av:AV) (con':List Nat) (H':Nat→Option HO),H'=kill con' σ.H→(∀ id∈con',(σ.H id).isSome=true)→k ⟨putA σ.Γ o.dst av,H',σ.n⟩ (con'++con) →
   (∀ s,Agree σ con s→Ev P G o s.Γ s.T s.K s.K av none' (fun i=>i∈con'))→wantedA ops o σ.Γ=some true →
   ∀ s,Agree σ con s→∃ s',Does P G ops o s s'∧∃ σ' con',k σ' con'∧(σ'.n=0→∀ b,G.P0 b)∧Wf σ' con'∧Agree σ' con' s':=by
  intro av con' H' hH' hc' hk hev hw s hs
  subst hH'
  have hwf':Wf ⟨putA σ.Γ o.dst av,kill con' σ.H,σ.n⟩ (con'++con):=by
   refine ⟨fun id hid=>?_,fun id hid=>?_⟩
   ·cases hx:kill con' σ.H id with
    | none=>exact hx
    | some o'=>have:=(kill_some hx).1; rw [hwf.top id hid] at this; cases this
   ·rcases List.mem_append.1 hid with hid | hid
    ·refine ⟨?_,kill_mem hid⟩
     have:=hc' id hid
     rcases Nat.lt_or_ge id σ.n with h | h
     ·exact h
     ·rw [hwf.top id h] at this; cases this
    ·obtain ⟨h1,h2⟩:=hwf.con id hid
     refine ⟨h1,?_⟩
     cases hx:kill con' σ.H id with
     | none=>exact hx
     | some o'=>have:=(kill_some hx).1; rw [h2] at this; cases this
  refine ⟨_,.yes av none' (fun i=>i∈con') s.K (by rw [hs.Γ]; exact hw) (hev s hs) (fun _ h=>h.elim) (fun _ h=>h.elim) (fun h=>h.elim),_,_,hk,hn0,hwf',?_⟩
  refine ⟨by rw [hs.Γ],fun id=>by simp [hs.T,or_comm],fun id o' h=>hs.K id o' (kill_some h).1,fun id=>?_⟩
  simp only [hs.U,none',or_false,List.mem_append]
  by_cases hid:id∈con'
  ·simp [hid,hc' id hid,kill_mem hid]
  ·rw [kill_not hid]; simp [hid]
 have write1:∀ (av:AV) (id:Nat) (ho old:HO) (ts:Nat),Operand.tmp ts∈o.op.operands→hasId id (σ.Γ ts)=true→σ.H id=some old→kind P o.op=2→k ⟨putA σ.Γ o.dst av,upd σ.H id (some ho),σ.n⟩ con →
   (∀ (T2:Nat→Prop) (K2:Nat→Option HO),K2 id=some old→¬ T2 id→Y P G o σ.Γ T2 K2 (wupd K2 T2 id ho) av none' none')→wantedA ops o σ.Γ=some true →
   ∀ s,Agree σ con s→∃ s',Does P G ops o s s'∧∃ σ' con',k σ' con'∧(σ'.n=0→∀ b,G.P0 b)∧Wf σ' con'∧Agree σ' con' s':=by
  intro av id ho old ts hts hΓ hold hkd h hY hw s hs
  have hwf':Wf ⟨putA σ.Γ o.dst av,upd σ.H id (some ho),σ.n⟩ con:=by
   refine ⟨fun i hi=>?_,fun i hi=>?_⟩
   ·simp only at hi ⊢
    rw [upd_ne _ _ (fun e=>by rw [e] at hi; rw [hwf.top id hi] at hold; cases hold)]; exact hwf.top i hi
   ·obtain ⟨h1,h2⟩:=hwf.con i hi
    refine ⟨h1,?_⟩
    simp only
    rw [upd_ne _ _ (fun e=>by rw [e] at h2; rw [h2] at hold; cases hold)]; exact h2
  have hidn:id<σ.n:=by
   rcases Nat.lt_or_ge id σ.n with h | h
   ·exact h
   ·rw [hwf.top id h] at hold; cases hold
  have hnT:¬ s.T id:=fun h=>by have:=(hwf.con id ((hs.T id).1 h)).2; rw [this] at hold; cases hold
  refine ⟨_,.yes av none' none' (wupd s.K s.T id ho) (by rw [hs.Γ]; exact hw) (.inr (.inr (.inl ⟨hkd,rfl,rfl,id,ts,old,ho,hts,by rw [hs.Γ]; exact hΓ,hs.K _ _ hold,hnT,rfl,fun T2 K2 hK2 hT2=>by rw [hs.Γ]; exact hY T2 K2 hK2 hT2⟩))) (fun _ h=>h.elim) (fun _ h=>h.elim) (fun h=>h.elim),_,_,h,hn0,hwf',?_⟩
  refine ⟨by rw [hs.Γ],fun i=>by simp [hs.T,none'],fun i o' h=>?_,fun i=>?_⟩
  ·simp only at h ⊢
   by_cases hid:i=id
   ·subst hid; rw [upd_same] at h; unfold wupd; rw [if_pos rfl]; exact h
   ·rw [upd_ne _ _ hid] at h
    rw [wupd_keep hid (fun ht=>by have:=(hwf.con i ((hs.T i).1 ht)).2; rw [this] at h; cases h)]
    exact hs.K i o' h
  ·simp only [hs.U,none',or_false]
   by_cases hid:i=id
   ·subst hid; simp [upd_same,hold]
   ·rw [upd_ne _ _ hid]
 have wsub:∀ {T2:Nat→Prop} {K2:Nat→Option HO} {id:Nat} {ho:HO} (j:Nat) (o':HO),j≠id→wupd K2 T2 id ho j=some o'→K2 j=some o'∧¬ T2 j:=by
  intro T2 K2 id ho j o' hj h
  unfold wupd at h
  rw [if_neg hj] at h
  split at h
  ·cases h
  ·exact ⟨h,by assumption⟩
 have one1:∀ {K2:Nat→Option HO} {id:Nat} {old:HO},σ.H id=some old→K2 id=some old→∀ i ob,(if i=id then σ.H id else none)=some ob→K2 i=some ob:=by
  intro K2 id old hold hK2 i ob h
  split at h
  ·rename_i e; subst e; rw [hold] at h; rw [hK2]; exact h
  ·cases h
 have val0:∀ (av:AV),kind P o.op=0→nev P o.op σ.Γ σ.n=some (av,none)→k ⟨putA σ.Γ o.dst av,σ.H,σ.n⟩ con→wantedA ops o σ.Γ=some true →
   ∀ s,Agree σ con s→∃ s',Does P G ops o s s'∧∃ σ' con',k σ' con'∧(σ'.n=0→∀ b,G.P0 b)∧Wf σ' con'∧Agree σ' con' s':=by
  intro av hk hnev h hw
  have e0:(fun i=>i∈([]:List Nat))=none':=funext fun i=>by simp [none']
  refine pure0 av [] σ.H rfl (fun _ h=>by cases h) h (fun s hs=>?_) hw
  rw [e0]
  exact .inl ⟨hk,rfl,rfl,fun T2 K2 _=>nev_pure (n:=σ.n) (by rw [hs.Γ]; exact hnev)⟩
 split at h
 case h_3=>exact h.elim
 case h_2 hw =>
  have hwf':Wf ⟨putA σ.Γ o.dst .un,σ.H,σ.n⟩ con:=⟨hwf.top,hwf.con⟩
  exact fun s hs=>⟨_,.no (by rw [hs.Γ]; exact hw),_,_,h,hn0,hwf',⟨by rw [hs.Γ],hs.T,hs.K,hs.U⟩⟩
 case h_1 hw =>
 simp only [OW] at h
 unfold noNew at hnn
 split at hnn
 ·-- move
  rename_i x hop
  unfold O1 at h
  simp only [hop] at h
  obtain ⟨hk,h⟩:=h
  split at h
  ·rename_i av nb hnev
   have e:nb=none:=by
    simp only [nev] at hnev
    injection hnev with hnev; injection hnev with _ h2; exact h2.symm
   subst e
   exact val0 av (by rw [hop]; exact hk) (by rw [hop]; exact hnev) h hw
  ·exact h.elim
 ·-- assign
  rename_i x hop
  unfold O1 at h
  simp only [hop] at h
  obtain ⟨hk,h⟩:=h
  split at h
  ·rename_i av nb hnev
   have e:nb=none:=by
    simp only [nev] at hnev
    injection hnev with hnev; injection hnev with _ h2; exact h2.symm
   subst e
   exact val0 av (by rw [hop]; exact hk) (by rw [hop]; exact hnev) h hw
  ·exact h.elim
 ·-- a new element of a map
  rename_i t m x v hop
  unfold O1 at h
  simp only [hop] at h
  split at h
  ·rename_i id ho hst
   obtain ⟨old,hm,hold,_⟩:=mapW_id hst
   obtain ⟨ts,hts,hΓ⟩:=hd1_tmp (Γ:=σ.Γ) (x:=m) (id:=id) (h:=.mp 0) (by rw [hm]; rfl)
   refine write1 .any id ho old ts (by rw [hop]; simp [Op.operands,hts]) hΓ hold (by rw [hop]; rfl) h (fun T2 K2 hK2 hT2=>?_) hw
   refine y_mapw (H:=fun i=>if i=id then σ.H id else none) (v:=some v) (id:=id) (ho:=ho) (.inl ⟨v,rfl,.inr hop⟩) (one1 hold hK2) ?_ hT2 (by unfold wupd; rw [if_pos rfl]) wsub
   unfold mapW at hst ⊢
   rw [hm] at hst ⊢
   simp only [if_true] at hst ⊢
   exact hst
  ·exact h.elim
 ·-- call
  rename_i f args ts hop
  simp only [Bool.and_eq_true,Bool.not_eq_true'] at hnn
  obtain ⟨hmut,hnew⟩:=hnn
  unfold O1 at h
  simp only [hop] at h
  unfold OC at h
  rw [hmut] at h
  simp only [Bool.false_eq_true,if_false] at h
  have hkd:kind P o.op=1:=by rw [hop]; simp [kind,hmut]
  rcases h with ⟨h1,_⟩ | h
  ·rw [hnew] at h1; cases h1
  split at h
  ·rename_i g id hargs
   obtain ⟨x,hx,hxe⟩:∃ x,args.toList=[x]∧oev σ.Γ x=.kf g id:=by
    cases hl:args.toList with
    | nil=>rw [hl] at hargs; cases hargs
    | cons x l =>
     rw [hl] at hargs
     cases l with
     | nil=>simp only [List.map_cons,List.map_nil,List.cons.injEq,and_true] at hargs; exact ⟨x,rfl,hargs⟩
     | cons y l=>simp at hargs
   split at h
   ·rename_i es hH
    obtain ⟨hn,hrr,hss,h⟩:=h
    refine pure0 _ [] σ.H rfl (fun _ h=>by cases h) h (fun s hs=>.inr (.inl ⟨hkd,rfl,(fun _ h=>by cases h),(fun _ _ _ _ _ _ _ _ h=>by cases h),fun T2 _=>?_⟩)) hw
    have:(fun i=>i∈([]:List Nat))=none':=funext fun i=>by simp [none']
    rw [this]
    exact y_sorted (Γ:=s.Γ) hop hx hs.K (by rw [hs.Γ]; exact hxe) hH hn hrr hss
   ·exact h.elim
  ·obtain ⟨ds,r,hfr,hsp,h⟩:=h
   refine pure0 (inj r) (killsOf σ.H (args.toList.map (oev σ.Γ)) r) _ rfl (fun id hid=>by obtain ⟨o',ho'⟩:=kills_some hid; rw [ho']; rfl) h (fun s hs=>.inr (.inl ⟨hkd,rfl,fun id hid ht=>?_,fun F w ι T2 a hR hops id hid=>?_,fun T2 hT2=>?_⟩)) hw
   ·obtain ⟨o',ho'⟩:=kills_some hid
    have:=(hwf.con id ((hs.T id).1 ht)).2
    rw [this] at ho'; cases ho'
   ·refine call_live (Γ:=σ.Γ) (a:=a) (r:=r) hR hs.K hfr (fun x hx=>V_oev fun t e=>?_) id hid
    rw [← hs.Γ]; exact hops t (by rw [hop]; subst e; simp [Op.operands,Call.operands]; simpa using hx)
   ·have:=y_call (P:=P) (G:=G) (Γ:=s.Γ) (C:=T2) (K:=s.K) (H:=σ.H) (o:=o) (r:=r) hop hs.K (by rw [hs.Γ]; exact hfr) hsp (by rw [hs.Γ]; exact hT2)
    rw [hs.Γ] at this ⊢
    exact this
 ·cases hnn
theorem aAny_tree {k:St→List Nat→Prop}:∀ (n:Nat) (listed:Array Bool) (t:Tr) (σ:St) (con:List Nat),chkT P ops n listed t=true→(σ.n=0→∀ b,G.P0 b)→Wf σ con→OWT P ops t σ con k →
  ∀ s,Agree σ con s→aAny P G ops (fun s'=>∃ σ' con',k σ' con'∧(σ'.n=0→∀ b,G.P0 b)∧Wf σ' con'∧Agree σ' con' s') n listed s
 | 0,listed,t,σ,con,hc,hn0,hwf,h,s,hs=>by
  cases t <;> simp only [chkT,Bool.false_eq_true] at hc
  exact ⟨by simpa using hc,σ,con,h,hn0,hwf,hs⟩
 | n+1,listed,t,σ,con,hc,hn0,hwf,h,s,hs=>by
  have step:∀ (i:Nat) (u:Tr),nnAt P ops i=true→chkT P ops n (listed.setIfInBounds i true) u=true→(OW P ops (opL ops i) σ con fun σ' con'=>OWT P ops u σ' con' k) →
    aOp P G ops i (aAny P G ops (fun s'=>∃ σ' con',k σ' con'∧(σ'.n=0→∀ b,G.P0 b)∧Wf σ' con'∧Agree σ' con' s') n (listed.setIfInBounds i true)) s:=by
   intro i u hn hcu hu
   unfold nnAt at hn
   split at hn
   case h_2=>cases hn
   rename_i o ho
   rw [opL_get ho] at hu
   obtain ⟨s',hd,σ',con',hk,hn',hwf',hs'⟩:=one0 hn hn0 hwf hu s hs
   unfold aOp
   simp only [ho]
   exact .inr ⟨s',hd,aAny_tree n _ u σ' con' hcu hn' hwf' hk s' hs'⟩
  cases t with
  | leaf=>simp only [chkT,Bool.false_eq_true] at hc
  | one i u =>
   simp only [chkT,Bool.and_eq_true,beq_iff_eq] at hc
   refine ⟨fun he=>(by rw [he] at hc; cases hc.1.1),fun j hj=>?_⟩
   rw [hc.1.1,List.mem_singleton] at hj
   subst hj
   exact step j u hc.1.2 hc.2 h
  | two i u j v =>
   simp only [chkT,Bool.and_eq_true,beq_iff_eq] at hc
   obtain ⟨⟨⟨⟨hr,hi⟩,hj⟩,hu⟩,hv⟩:=hc
   refine ⟨fun he=>(by rw [he] at hr; cases hr),fun m hm=>?_⟩
   rw [hr] at hm
   rcases List.mem_cons.1 hm with rfl | hm
   ·exact step m u hi hu h.1
   ·rw [List.mem_singleton] at hm
    subst hm
    exact step m v hj hv h.2
end
theorem aLex_mono {P:Program} {G:Ctx} {ops:Array Oper} {Q Q':AS→Prop} (h:∀ s,Q s→Q' s):∀ (l:List Oper) (s:AS),aLex P G ops Q l s→aLex P G ops Q' l s
 | [],s,hh=>h s hh
 | o::l,s,⟨s',hd,hh⟩=>⟨s',hd,aLex_mono h l s' hh⟩
theorem region_tree {P:Program} {WW:Code→(Exit→Act→World→Prop)→Act→World→Prop} (hW:WpR P false WW) {G:Ctx} {id N:Nat} {ds:List Deferred} {ops:Array Oper} {pre:List Nat} {t:Tr} {Q:St→Prop} {Q':Exit→Act→World→Prop} {σ:St} {a:Act} {w:World} (hm:P.follows .mixedOrders=true)
  (hdst:∀ (i:Nat) (o:Oper) (d:Tmp),ops[i]? = some o→o.dst=some d→d<N∧G.Z d=none) (hB:treeOk P ops pre t=true) (hsr:SR G N ds σ a w)
  (h:OW P ops (opsL ops pre) σ [] fun σ1 con1=>OWT P ops t σ1 con1 fun σ' con=>Q (fin σ' con)) (hQ:∀ σ a w,Q σ→SR G N ds σ a w→Q' .normal a w):WW (.region id ops true) Q' a w:=by
 unfold treeOk at hB
 split at hB
 case h_2=>cases hB
 rename_i l1 hl1
 simp only [Bool.and_eq_true,decide_eq_true_eq] at hB
 obtain ⟨⟨hnx,hlen⟩,hchk⟩:=hB
 obtain ⟨hn0,hwf,hag⟩:=SR_agree hsr
 obtain ⟨fb,hfb⟩:=OW_sound (G:=G) (opsL ops pre) σ [] hnx hn0 hwf h
 obtain ⟨h1,h2⟩:=hag (fun i=>if i<σ.n then σ.H i else fb i) (fun i o hi=>by
  rcases Nat.lt_or_ge i σ.n with hlt | hge
  ·rw [if_pos hlt]; exact hi
  ·rw [hwf.top i hge] at hi; cases hi)
 have h3:=hfb _ h1 (fun i hi=>by simp only; rw [if_neg (by omega)])
 have hQ2:∀ (s:AS) (a:Act) (w:World),(∃ σ' con',Q (fin σ' con')∧(σ'.n=0→∀ b,G.P0 b)∧Wf σ' con'∧Agree σ' con' s)→RelS G N ds s a w→Q' .normal a w:=by
  rintro s a w ⟨σ',con',hq,hn',hwf',hag'⟩ hr
  exact hQ _ a w hq (SR_fin hn' hwf' hag' hr)
 refine hW.regA hm (fun h=>by cases h) (wpA_of_aAny hdst hQ2 _ _ _ a _ h2.drew ?_)
 have h4:=aAny_pre (P:=P) (G:=G) (n:=ops.size - pre.length) (l1:=l1) pre (Array.replicate ops.size false) _ (fun m om hm=>by simp only [Array.getD_eq_getD_getElem?,Array.getElem?_replicate] at hm; split at hm <;> cases hm) hl1
  (aLex_mono (fun s' ⟨σ1,con1,hk,hn1,hwf1,hs1⟩ _=>aAny_tree _ _ _ σ1 con1 hchk hn1 hwf1 hk s' hs1) _ _ h3)
 rw [show pre.length+(ops.size - pre.length)=ops.size by omega] at h4
 exact h4
inductive Fl where
 | st
 | wk
 | tr (pre:List Nat) (t:Tr)
def AWPT (P:Program):List Fl→Code→St→(Exit→St→Prop)→Prop
 | [],c,σ,Q=>AWP P c σ Q
 | .wk::l,c,σ,Q=>∃ σ2,WkR σ σ2∧AWPT P l c σ2 Q
 | .st::l,.seq x y,σ,Q=>AWP P x σ fun e σ'=>match e with | .normal=>AWPT P l y σ' Q | e=>Q e σ'
 | .tr pre t::l,.seq (.region _ ops true) y,σ,Q=>OW P ops (opsL ops pre) σ [] fun σ1 con1=>OWT P ops t σ1 con1 fun σ' con=>AWPT P l y (fin σ' con) Q
 | _::_,_,_,_=>False
def lexT (P:Program):List Fl→Code→Bool
 | [],c=>codeLex P c
 | .wk::l,c=>lexT P l c
 | .st::l,.seq x y=>codeLex P x && lexT P l y
 | .tr pre t::l,.seq (.region _ ops true) y=>treeOk P ops pre t && lexT P l y
 | _::_,_=>false
section
variable {P:Program} {G:Ctx} {N:Nat} {ds:List Deferred}
theorem AWPT_sound (hm:P.follows .mixedOrders=true) (hZ:∀ d,G.Z d=none):∀ (l:List Fl) (c:Code) (Q:Exit→St→Prop) (σ:St) (a:Act) (w:World),codeDst N c=true→lexT P l c=true→AWPT P l c σ Q→SR G N ds σ a w →
  c.wp P (fun e a' w'=>∃ σ',Q e σ'∧SR G N ds σ' a' w') a w:=by
 intro l
 induction l with
 | nil=>intro c Q σ a w hd hl h hs; exact AWP_sound hm hZ c Q σ a w hd hl h hs
 | cons f l ih =>
  intro c Q σ a w hd hl h hs
  cases f with
  | wk =>
   obtain ⟨σ2,hw,h⟩:=h
   exact ih c Q σ2 a w hd hl h (SR_weakR hw hs)
  | st =>
   cases c with
   | seq x y =>
    simp only [codeDst,lexT,Bool.and_eq_true] at hd hl
    refine wp_seq (wp_mono (AWP_sound hm hZ x _ _ a w hd.1 hl.1 h hs) ?_)
    rintro e a' w' ⟨σ1,hq,hs'⟩
    cases e with
    | normal=>exact ih y Q σ1 a' w' hd.2 hl.2 hq hs'
    | _=>exact ⟨σ1,hq,hs'⟩
   | _=>exact h.elim
  | tr pre t =>
   cases c with
   | seq x y =>
    cases x with
    | region id ops draw =>
     cases draw with
     | true =>
      simp only [codeDst,lexT,Bool.and_eq_true] at hd hl
      refine wp_seq ?_
      refine region_tree (WpR.plain P) (Q:=fun σ'=>AWPT P l y σ' Q) hm (fun i o d hi ho=>⟨opsDst_spec hd.1 i o d hi ho,hZ d⟩) hl.1 hs h ?_
      intro σ' a' w' hq hs'
      exact ih y Q σ' a' w' hd.2 hl.2 hq hs'
     | false=>exact h.elim
    | _=>exact h.elim
   | _=>exact h.elim
theorem spec_of_dT {f N:Nat} {fn:Func} {g:FuncId} {r0 rd rest:Code} {args:List D} {r:D} (l:List Fl) (hm:P.follows .mixedOrders=true) (hf:P.funcs[f]? = some fn) (hb:fn.body=some (.seq r0 (.seq rd rest))) (hname:(fn.name == "runtime.NumGoroutine")=false)
  (hN:fn.ntmps=N) (hd0:codeDst N r0=true) (hl0:codeLex P r0=true) (hd1:codeDst N rest=true) (hl1:lexT P l rest=true) (hg:deferOf rd=some g) (hrec:RecSpec P g) (ha:args.length≤N)
  (h:AWP P r0 (St0 args N) fun e σ0=>e=.normal∧AWPT P l rest σ0 fun e σ=>(e=.normal∨e=.ret)∧resD P fn.results.toList σ=some r):Spec P f args r:=by
 intro A W vs hA hl hv
 have hn:¬ fn.name = "runtime.NumGoroutine" := by simpa using hname
 refine ⟨fun w=>by simp [callFunc,hf,hn,hb],?_⟩
 refine calls_of_wp_defers hf hb ?_
 subst hN
 refine wp_seq (wp_mono (AWP_sound hm (fun _=>rfl) r0 _ _ _ _ hd0 hl0 h (SR0 hA hl hv ha)) ?_)
 rintro e a w ⟨σ0,⟨rfl,h1⟩,hs0⟩
 refine wp_seq (wp_deferOf hg ?_)
 refine wp_mono (AWPT_sound hm (fun _=>rfl) l rest _ _ _ _ hd1 hl1 h1 (SR_defer { target:=.fn (.func g) #[],args:=#[] } hs0)) ?_
 rintro e a w ⟨σ,⟨he,hr⟩,hs⟩
 obtain ⟨v,hrun,hvd⟩:=run_results hs hr
 obtain ⟨_,_,F,ι,hR,_,_,_,hdf,_⟩:=hs
 have hend:Leaves P fn a.tmps (fun e w'=>∃ v,e=.returned v∧Below W.heap.size W w'∧VD (fun b=>A b∨(W.heap.size≤b∧b<w'.heap.size)) w' r v) a.defers .returning w:=by
  rw [hdf]
  refine leaves_cons (by simp) (args:=#[]) (f:=g) ?_ ((hrec.2 w).mono ?_)
  ·have:=hrec.1 w
   simpa [invoke] using this
  ·rintro e u' w' ⟨rfl,rfl,rfl⟩
   refine ⟨v,by simpa [settle] using hrun,v,rfl,⟨hR.kept.os,hR.kept.tape,hR.kept.output,hR.kept.size,fun k hk=>hR.kept.block k hk (fun h=>h)⟩,hvd.mono ?_⟩
   rintro b (h | h | h)
   ·exact .inl h
   ·exact h.elim
   ·exact .inr h
 rcases he with rfl | rfl <;> exact hend
end
theorem awpt_nil (P:Program) (c:Code) (σ:St) (Q:Exit→St→Prop):AWPT P [] c σ Q=AWP P c σ Q:=rfl
theorem awpt_st (P:Program) (l:List Fl) (x y:Code) (σ:St) (Q:Exit→St→Prop):AWPT P (.st::l) (.seq x y) σ Q=AWP P x σ fun e σ'=>match e with | .normal=>AWPT P l y σ' Q | e=>Q e σ':=rfl
inductive Tro where
 | leaf
 | one (l:List Oper) (t:Tro)
 | two (l:List Oper) (t:Tro) (m:List Oper) (u:Tro)
def fillT (ops:Array Oper):Tr→Tro
 | .leaf=>.leaf
 | .one i t=>.one (opL ops i) (fillT ops t)
 | .two i t j u=>.two (opL ops i) (fillT ops t) (opL ops j) (fillT ops u)
def OWTo (P:Program) (ops:Array Oper):Tro→St→List Nat→(St→List Nat→Prop)→Prop
 | .leaf,σ,con,k=>k σ con
 | .one l t,σ,con,k=>OW P ops l σ con fun σ' con'=>OWTo P ops t σ' con' k
 | .two l t m u,σ,con,k=>(OW P ops l σ con fun σ' con'=>OWTo P ops t σ' con' k)∧(OW P ops m σ con fun σ' con'=>OWTo P ops u σ' con' k)
theorem owt_fill (P:Program) (ops:Array Oper):∀ (t:Tr) (σ:St) (con:List Nat) (k:St→List Nat→Prop),OWT P ops t σ con k=OWTo P ops (fillT ops t) σ con k
 | .leaf,_,_,_=>rfl
 | .one i t,σ,con,k=>by
  simp only [OWT,OWTo,fillT]
  exact congrArg _ (funext fun σ'=>funext fun con'=>owt_fill P ops t σ' con' k)
 | .two i t j u,σ,con,k=>by
  simp only [OWT,OWTo,fillT]
  exact congr (congrArg And (congrArg _ (funext fun σ'=>funext fun con'=>owt_fill P ops t σ' con' k))) (congrArg _ (funext fun σ'=>funext fun con'=>owt_fill P ops u σ' con' k))
def TreeP (P:Program) (ops:Array Oper) (l:List Oper) (t:Tro) (σ:St) (k:St→Prop) (_:Dm k):Prop:=OWd P ops l σ [] (fun σ1 con1=>OWTo P ops t σ1 con1 fun σ' con=>FinP σ' con k .mk) .mk
theorem awpt_tree {P:Program} {fl:List Fl} {pre:List Nat} {t:Tr} {id:Nat} {ops:Array Oper} {y:Code} {σ:St} {Q:Exit→St→Prop} (l:List Oper) (t':Tro) (h1:opsL ops pre=l) (h2:fillT ops t=t')
  (h:TreeP P ops l t' σ (fun σ'=>AWPT P fl y σ' Q) .mk):AWPT P (.tr pre t::fl) (.seq (.region id ops true) y) σ Q:=by
 subst h1; subst h2
 show OW P ops (opsL ops pre) σ [] fun σ1 con1=>OWT P ops t σ1 con1 fun σ' con=>AWPT P fl y (fin σ' con) Q
 simp only [owt_fill]
 exact h
theorem treeP_eq (P:Program) (ops:Array Oper) (l:List Oper) (t:Tro) (σ:St) (k:St→Prop) (d:Dm k):TreeP P ops l t σ k d=OWd P ops l σ [] (fun σ1 con1=>OWTo P ops t σ1 con1 fun σ' con=>FinP σ' con k .mk) .mk:=rfl
theorem owto_leaf (P:Program) (ops:Array Oper) (σ:St) (con:List Nat) (k:St→List Nat→Prop):OWTo P ops .leaf σ con k=k σ con:=rfl
theorem owto_one (P:Program) (ops:Array Oper) (l:List Oper) (t:Tro) (σ:St) (con:List Nat) (k:St→List Nat→Prop):OWTo P ops (.one l t) σ con k=OWd P ops l σ con (fun σ' con'=>OWTo P ops t σ' con' k) .mk:=rfl
theorem owto_two (P:Program) (ops:Array Oper) (l:List Oper) (t:Tro) (m:List Oper) (u:Tro) (σ:St) (con:List Nat) (k:St→List Nat→Prop):OWTo P ops (.two l t m u) σ con k=(OWd P ops l σ con (fun σ' con'=>OWTo P ops t σ' con' k) .mk∧OWd P ops m σ con (fun σ' con'=>OWTo P ops u σ' con' k) .mk):=rfl
end Go.Am
end

section
set_option linter.unusedVariables false
set_option linter.unusedSimpArgs false
open List (map_map mapM_map)
open Go Go.Am Go.Proofs
namespace Go.Am
theorem rec79:RecSpec Tryz.prog 79:=by
 refine ⟨fun w=>enters_of Tryz.func79 (by kernel_rfl) rfl _ w,fun w=>?_⟩
 refine callsD_of_wpS Tryz.func79 rfl fun c₀ cs hu=>?_
 apply wpS_region
 simp [wpOpsS,go_sem,recoverD,hu,Tryz.ntmps79,bodyPostS,results,Tryz.results79]
 cases c₀; simp only at hu; subst hu; rfl
def lastC (l:Ch) (n:Int):Int:=l.foldl (fun a f=>if f.1=n then f.2 else a) 0
theorem lastC_take {l:Ch} {i:Nat} (h:i<l.length) (n:Int):lastC (l.take (i+1)) n=if l[i].1=n then l[i].2 else lastC (l.take i) n:=by
 unfold lastC
 rw [List.take_add_one,List.getElem?_eq_getElem h,List.foldl_append]; rfl
theorem lastC_mem {l:Ch} {n:Int}:lastC l n=0∨∃ f∈l,lastC l n=f.2:=by
 unfold lastC
 suffices ∀ (l:Ch) (a:Int),l.foldl (fun a f=>if f.1=n then f.2 else a) a=a∨∃ f∈l,l.foldl (fun a f=>if f.1=n then f.2 else a) a=f.2 from this l 0
 intro l
 induction l with
 | nil=>intro a; exact .inl rfl
 | cons f l ih =>
  intro a
  rw [List.foldl_cons]
  rcases ih (if f.1=n then f.2 else a) with h | ⟨g,hg,h⟩
  ·rw [h]
   by_cases e:f.1=n
   ·rw [if_pos e]; exact .inr ⟨f,List.mem_cons_self ..,rfl⟩
   ·rw [if_neg e]; exact .inl rfl
  ·exact .inr ⟨g,List.mem_cons_of_mem _ hg,h⟩
theorem lastC_bnd {l:Ch} {M:Nat} (h:Bnd M l) (n:Int):(lastC l n).natAbs≤M:=by
 rcases lastC_mem (l:=l) (n:=n) with e | ⟨f,hf,e⟩
 ·rw [e]; exact Nat.zero_le _
 ·rw [e]; exact h f hf
theorem freeX_len {c:List Cl} {e:Nat} (hz:SzX e c):(freeX c).length≤10000:=by
 have:∀ d:List Cl,(∀ x∈d,x∈c)→(d.flatMap (frCell c)).length≤100 * d.length:=by
  intro d
  induction d with
  | nil=>intro _; simp
  | cons x d ih =>
   intro h
   rw [List.flatMap_cons,List.length_append,List.length_cons]
   have h1:=ih fun y hy=>h y (List.mem_cons_of_mem _ hy)
   have h2:=hz.bl x (h x (List.mem_cons_self ..))
   have h3:(frCell c x).length≤x.b.length:=by
    unfold frCell
    split
    ·simp
    ·rw [List.length_map]; exact List.length_filter_le _ _
   omega
 have h1:=this c fun _ h=>h
 have h2:=hz.len
 unfold freeX
 omega
theorem inj_encPrs (l:List (Int × Int)):inj (encPrs l)=.d (encPrs l):=rfl
theorem kills_encPrs (H:Nat→Option HO) (avs:List AV) (l:List (Int × Int)):killsOf H avs (encPrs l)=viss H avs:=rfl
theorem freeX_ne {c:List Cl} {a b:Int} (h:(a,b)∈freeX c):a≠b:=by
 unfold freeX at h
 obtain ⟨x,hx,h⟩:=List.mem_flatMap.1 h
 unfold frCell at h
 split at h
 ·cases h
 ·rename_i h0
  obtain ⟨f,hf,he⟩:=List.mem_map.1 h
  injection he with h1 h2
  have h3:=(List.mem_filter.1 hf).2
  unfold frOk at h3
  simp only [Bool.and_eq_true,decide_eq_true_eq] at h3
  intro hab
  rw [h2,← hab,← h1] at h3
  omega
theorem mapX_swap {c:List Cl} {a b:Int} {r:Ch} (h:a≠b):mapX c [(b,r),(a,[])]=mapX c [(a,[]),(b,r)]:=by
 unfold mapX
 refine List.map_congr_left fun x _=>?_
 unfold getG
 by_cases h1:b=x.id
 ·have h2:¬ a=x.id:=fun e=>h (e.trans h1.symm)
  simp [List.find?_cons,h1,h2]
 ·by_cases h2:a=x.id <;> simp [List.find?_cons,h1,h2]
theorem mput2 {a b:Int} (h:a≠b) (v w:AV):mput [(a,v)] b w=[(a,v),(b,w)]:=by
 simp [mput,mfind,List.findIdx?_cons,h]
def keepC (cell face:Int) (z:Cl):Bool:=!decide (z.id=cell) && !decide (z.id=face)
def colC (c:List Cl) (cell face:Int):List Cl:=c.filter (keepC cell face)
theorem colC_take {c:List Cl} {i:Nat} (h:i<c.length) (a b:Int):colC (c.take (i+1)) a b=colC (c.take i) a b++if keepC a b c[i] then [c[i]] else []:=by
 unfold colC
 rw [List.take_add_one,List.getElem?_eq_getElem h,List.filter_append]
 congr 1
 by_cases e:keepC a b c[i]=true <;> simp [e]
theorem colC_len (c:List Cl) (a b:Int):(colC c a b).length≤c.length:=List.length_filter_le _ _
def offL (z n:Int) (l:Ch):Ch:=(l.filter fun f=>!decide (f.1=n)).map fun f=>(f.1,z * f.2)
theorem offL_take {l:Ch} {i:Nat} (h:i<l.length) (z n:Int):offL z n (l.take (i+1))=offL z n (l.take i)++if l[i].1=n then [] else [(l[i].1,z * l[i].2)]:=by
 unfold offL
 rw [List.take_add_one,List.getElem?_eq_getElem h,List.filter_append,List.map_append]
 congr 1
 by_cases e:l[i].1=n <;> simp [e]
theorem offL_len (z n:Int) (l:Ch):(offL z n l).length≤l.length:=by unfold offL; rw [List.length_map]; exact List.length_filter_le _ _
theorem offL_bnd {z n:Int} {l:Ch} {K M:Nat} (hz:z.natAbs≤K) (h:Bnd M l):Bnd (K * M) (offL z n l):=fun x hx=>by
 unfold offL at hx
 obtain ⟨f,hf,rfl⟩:=List.mem_map.1 hx
 rw [Int.natAbs_mul]
 exact Nat.mul_le_mul hz (h f (List.mem_filter.1 hf).1)
theorem offL_keys {z n:Int} {l:Ch} (h:Keys l):Keys (offL z n l):=fun x hx=>by
 unfold offL at hx
 obtain ⟨f,hf,rfl⟩:=List.mem_map.1 hx
 exact h f (List.mem_filter.1 hf).1
def colL (l:Ch) (face:Int):Ch:=offL (-lastC l face) face l
def colG (c:List Cl) (cell face:Int):List (Int × Ch):=[(cell,[]),(face,addR [] (colL (bOf c cell) face))]
def colX (c:List Cl) (cell face:Int):List Cl × List (Int × Ch) × Int :=
 if (findX c cell).isSome=false∨(findX c face).isSome=false then ([],[],250) else if (cell,face) ∉ freeX c then ([],[],310) else (colC c cell face,mapX c (colG c cell face),0)
theorem subL_nil0 {H H':Nat→Option HO} {ρ:Nat→Nat}:SubL H H' ρ .nil (.d (.sl []))↔True:=⟨fun _=>trivial,fun _=>⟨rfl,fun a ha=>by simp [vis] at ha⟩⟩
theorem encC_nil:encC []=.sl []:=rfl
theorem sub_nil0 {H H':Nat→Option HO} {ρ:Nat→Nat}:Sub H H' ρ .nil (.d (.sl []))↔True:=subL_nil0
theorem sub_own_encC {H:Nat→Option HO} {ρ:Nat→Nat} {t:TypeId} {id n:Nat} {l:Ch} (hn:l.length=n) (hH:H id=some (.cells t ((flt encF l).map .d))):Sub H (blkF 1 []) ρ (.own id 0 n 3) (.d (encC l)):=by
 refine sub_frz ?_ fun a _ id h=>by simp [blkF] at h
 have e1:=flt_take encF_len hn
 have e2:=flt_chunk (by decide) encF_len hn
 have e3:=flt_len encF_len l
 rw [hn] at e3
 rw [frz_own,hH]
 simp only [Nat.zero_mul,Nat.zero_add,List.drop_zero,e1,mapM_d,Option.map_some,e2]
 rw [if_pos ⟨by rw [List.length_map]; omega,by omega⟩]; rfl
def fls10:List Fl:=[.st,.st,.st,.st,.st,.st,.st,.st,.st,.st]
def tail29:Tr:=.one 9 (.one 10 (.one 11 (.one 12 (.one 13 .leaf))))
def tree29:Tr:=.two 4 (.one 7 (.one 8 tail29)) 7 (.two 4 (.one 8 tail29) 8 (.one 4 tail29))
def flsC:List Fl:=fls10++[.tr [0,1,2,3,5,6] tree29]
set_option maxHeartbeats 4000000 in
set_option maxRecDepth 10000 in
theorem mgCollapse {c:List Cl} {e:Nat} (a b:Int) (hc:Inc c) (hz:SzX e c) (hk:∀ x∈c,Keys x.b) (he:e+e+14<4398046511104):Spec Tryz.prog 29 [encX c,.i .i64 a,.i .i64 b] (encR3 (colX c a b)):=by
 have hlen:=hz.len
 have hFa:=cxFind hc a (by omega)
 have hFb:=cxFind hc b (by omega)
 have hFr:=mgFree hz (by omega)
 have hfl:=freeX_len hz
 have hCt:=ctPr (freeX c) a b (by omega)
 have hr:∃ p x q y,(findX c a).isSome=p∧(findX c a).getD noCl=x∧(findX c b).isSome=q∧(findX c b).getD noCl=y:=⟨_,_,_,_,rfl,rfl,rfl,rfl⟩
 obtain ⟨p,x,q,y,hp,hx,hq,hy⟩:=hr
 have hba:bOf c a=x.b:=by unfold bOf; rw [hx]
 have hxl:x.b.length≤100:=by rw [← hba]; exact bOf_len hz.bl a
 have hxb:Bnd (2 ^ e) x.b:=by rw [← hba]; exact bOf_bnd hz.bb a
 unfold fndD at hFa hFb
 rw [hp,hx] at hFa
 rw [hq,hy] at hFb
 unfold colX colG
 rw [hp,hq,hba]
 refine spec_of_dT (N:=114) flsC follows_mixed Tryz.func29 rfl rfl rfl (by kernel_rfl) (by kernel_rfl) (by kernel_rfl) (by kernel_rfl) rfl rec79 (by simp) ?_
 simp (maxSteps:=1000000) [-map_map,-mapM_map,↓KW,encX,flsC,fls10,↓awpt_st]
 refine callP_intro (ds:=[encX c,.i .i64 a]) (by rfl) hFa ?_
 simp (maxSteps:=1000000) [-map_map,-mapM_map,↓KW,encX,encCl_eq,one_encC,cellsA_encC,inj1_encC,↓awpt_st]
 refine callP_intro (ds:=[encX c,.i .i64 b]) (by rfl) hFb ?_
 cases p with
 | false=>simp (maxSteps:=1000000) [-map_map,-mapM_map,↓KW,encX,encCl_eq,one_encC,cellsA_encC,inj1_encC,resD_3,encR3,encMp,↓awpt_st]
 | true =>
  cases q with
  | false=>simp (maxSteps:=1000000) [-map_map,-mapM_map,↓KW,encX,encCl_eq,one_encC,cellsA_encC,inj1_encC,resD_3,encR3,encMp,↓awpt_st]
  | true =>
   simp (maxSteps:=1000000) [-map_map,-mapM_map,↓KW,encX,encCl_eq,one_encC,cellsA_encC,inj1_encC,↓awpt_st]
   refine callP_intro (ds:=[encX c]) (by rfl) hFr ?_
   simp (maxSteps:=1000000) [-map_map,-mapM_map,↓KW,encX,encCl_eq,one_encC,cellsA_encC,inj1_encC,inj_encPrs,kills_encPrs,↓awpt_st]
   refine callP_intro (ds:=[encPrs (freeX c),.ag [.i .i64 a,.i .i64 b]]) (by rfl) hCt ?_
   by_cases hin:(a,b)∈freeX c
   rotate_left
   ·rw [decide_eq_false hin]
    simp (maxSteps:=1000000) [-map_map,-mapM_map,↓KW,encX,encCl_eq,one_encC,cellsA_encC,inj1_encC,inj_encPrs,kills_encPrs,resD_3,encR3,encMp,hin,↓awpt_st]
   ·rw [decide_eq_true hin]
    have hkx:Keys x.b:=by
     cases hfx:findX c a with
     | none=>rw [hfx] at hp; cases hp
     | some x' =>
      rw [hfx] at hx
      have:x'=x:=hx
      subst this
      exact hk _ (findX_some hfx).1
    have hne:=freeX_ne hin
    clear hFa hFb hFr hCt hp hq hx hy hfl
    simp (maxSteps:=1000000) [-map_map,-mapM_map,↓KW,encX,encC,encCl_eq,one_encC,cellsA_encC,inj1_encC,inj_encPrs,kills_encPrs,↓awpt_st]
    refine loopP_inv (fun i:Nat=>i≤x.b.length) (fun i=>StL [(0,.d (encX c)),(1,.d (.i .i64 a)),(2,.d (.i .i64 b)),(9,.ptr 1 0),(13,.ptr 2 0),(48,.d (encC x.b)),(49,.d (.i .i64 x.b.length)),(50,.d (.i .i64 (i:Int)))] none [.cells 47 [.d (.i .i64 x.id),.d (.i .i64 x.dim),.d (encC x.b)],.cells 69 [.d (.b (decide (lastC (x.b.take i) b<0))),.d (encM (digs (lastC (x.b.take i) b).natAbs))]]) (fun i=>x.b.length - i) 0 (Nat.zero_le _) ?_ ?_
    ·refine wk_l [1,3] (by simp) ?_ ?_ <;> simp [-map_map,upd,inj1,Γ0,encX,encC,lastC,digs_zero,encM,subL_nil0]
    ·intro i hi
     by_cases hgo:i<x.b.length
     ·have q1:(i:Int)<x.b.length:=by omega
      have hf:x.b[i]? = some x.b[i]:=List.getElem?_eq_getElem hgo
      have hw:IntKind.i64.wrap ((i:Int)+1)=(i:Int)+1:=wrap_i64 (by omega) (by omega)
      have htk:=lastC_take hgo b
      refine (show ∃ f,x.b[i]=f from ⟨_,rfl⟩).elim fun f hfe=>?_
      rw [hfe] at hf htk
      refine (show ∃ z,lastC (x.b.take i) b=z from ⟨_,rfl⟩).elim fun z hze=>?_
      rw [hze] at htk
      simp only [hze]
      have hef:encF f=[.i .i64 f.1,.b (decide (f.2<0)),encM (digs f.2.natAbs)]:=rfl
      by_cases h0:f.1=b
      ·have h0':((f.1 == b):Bool)=true:=by simpa using h0
       rw [if_pos h0] at htk
       have q3:(((b:Int) == (b:Int)):Bool)=true:=by simp
       simp (maxSteps:=1000000) [-map_map,-mapM_map,↓KW,encX,encC,q1,hf,hef,h0,h0',q3,hw,one_encM,cellsA_encM,inj1_encM,one_encC,cellsA_encC,inj1_encC]
       refine nxt_intro (i+1) hgo (Nat.sub_lt_sub_left hgo (Nat.lt_succ_self _)) (wk_l [1,2] (by simp) ?_ ?_) <;> simp [-map_map,upd,inj1,Γ0,encX,encC,htk]
      ·have h0':((f.1 == b):Bool)=false:=by simpa using h0
       rw [if_neg h0] at htk
       simp (maxSteps:=1000000) [-map_map,-mapM_map,↓KW,encX,encC,q1,hf,hef,h0,h0',hw,one_encM,cellsA_encM,inj1_encM,one_encC,cellsA_encC,inj1_encC]
       refine nxt_intro (i+1) hgo (Nat.sub_lt_sub_left hgo (Nat.lt_succ_self _)) (wk_l [1,2] (by simp) ?_ ?_) <;> simp [-map_map,upd,inj1,Γ0,encX,encC,htk]
     ·have q1:¬ (i:Int)<x.b.length:=by omega
      rw [List.take_of_length_le (by omega)]
      have hzb:=lastC_bnd hxb b
      refine (show ∃ z,lastC x.b b=z from ⟨_,rfl⟩).elim fun z hze=>?_
      rw [hze] at hzb
      have hNg:=intNegZ z (szE hzb (by omega))
      obtain ⟨zn,hzn⟩:∃ zn,-z=zn:=⟨_,rfl⟩
      have hzb':zn.natAbs≤2 ^ e:=by rw [← hzn,Int.natAbs_neg]; exact hzb
      have hcol:colL x.b b=offL zn b x.b:=by unfold colL; rw [hze,hzn]
      rw [hzn] at hNg
      clear hzn
      simp only [hze]
      simp (maxSteps:=1000000) [-map_map,-mapM_map,↓KW,encX,encC,q1,one_encC,cellsA_encC,inj1_encC,one_encM,cellsA_encM,inj1_encM,↓awpt_st]
      refine loopP_inv (fun y:Nat × Ch=>y.1≤x.b.length∧offL zn b (x.b.take y.1)=y.2) (fun y=>grQ1 16 [(0,.d (encX c)),(1,.d (.i .i64 a)),(2,.d (.i .i64 b)),(13,.ptr 1 0),(62,.d (encC x.b)),(63,.d (.i .i64 x.b.length)),(64,.d (.i .i64 (y.1:Int)))] (.cells 69 [.d (.b (decide (z<0))),.d (encM (digs z.natAbs))]) 89 3 y.2.length (flt encF y.2)) (fun y=>x.b.length - y.1) (0,[]) ⟨Nat.zero_le _,rfl⟩ ?_ ?_
      ·simp only [List.length_nil,grQ1]
       refine wk_l [2] (by simp) ?_ ?_ <;> simp [-map_map,upd,inj1,Γ0,encX,encC,blksOk]
      ·rintro ⟨j,l⟩ ⟨hj,hl⟩
       simp only at hj hl ⊢
       by_cases hgo:j<x.b.length
       ·have q1:(j:Int)<x.b.length:=by omega
        have hf:x.b[j]? = some x.b[j]:=List.getElem?_eq_getElem hgo
        have hw:IntKind.i64.wrap ((j:Int)+1)=(j:Int)+1:=wrap_i64 (by omega) (by omega)
        have htk:=offL_take hgo zn b
        rw [hl] at htk
        have hll:l.length≤j:=by rw [← hl]; exact Nat.le_trans (offL_len _ _ _) (by rw [List.length_take]; omega)
        have hfb:=hxb _ (List.getElem_mem hgo)
        refine (show ∃ f,x.b[j]=f from ⟨_,rfl⟩).elim fun f hfe=>?_
        rw [hfe] at hf htk hfb
        have hef:encF f=[.i .i64 f.1,.b (decide (f.2<0)),encM (digs f.2.natAbs)]:=rfl
        have hm1:(1:Nat)≤maxLen:=le_maxLen (by decide)
        by_cases h0:f.1=b
        ·have h0':((f.1 != b):Bool)=false:=by simpa using h0
         rw [if_pos h0,List.append_nil] at htk
         have q3:(((b:Int) != (b:Int)):Bool)=false:=by simp
         rcases hn:l.length with _ | k
         ·simp only [hn,grQ1]
          simp (maxSteps:=1000000) [-map_map,-mapM_map,↓KW,encX,encC,q1,hf,hef,h0,h0',q3,hw,one_encM,cellsA_encM,inj1_encM,one_encC,cellsA_encC,inj1_encC]
          refine nxt_intro (τ:=Nat × Ch) (j+1,l) ⟨hgo,htk⟩ (Nat.sub_lt_sub_left hgo (Nat.lt_succ_self _)) ?_
          simp only [hn,grQ1]
          refine wk_l [1] (by simp) ?_ ?_ <;> simp [-map_map,upd,inj1,Γ0,encX,encC,blksOk]
         ·simp only [hn,grQ1]
          simp (maxSteps:=1000000) [-map_map,-mapM_map,↓KW,encX,encC,q1,hf,hef,h0,h0',q3,hw,one_encM,cellsA_encM,inj1_encM,one_encC,cellsA_encC,inj1_encC]
          refine nxt_intro (τ:=Nat × Ch) (j+1,l) ⟨hgo,htk⟩ (Nat.sub_lt_sub_left hgo (Nat.lt_succ_self _)) ?_
          simp only [hn,grQ1]
          refine wk_l [1,2] (by simp) ?_ ?_ <;> simp [-map_map,upd,inj1,Γ0,encX,encC,blksOk]
        ·have h0':((f.1 != b):Bool)=true:=by simpa using h0
         rw [if_neg h0] at htk
         have hMu:=intMulZ zn f.2 (digE hzb' (by omega)) (digE hfb (by omega))
         rcases hn:l.length with _ | k
         ·have e0:l=[]:=List.eq_nil_of_length_eq_zero hn
          simp only [hn,grQ1]
          simp (maxSteps:=1000000) [-map_map,-mapM_map,↓KW,encX,encC,q1,hf,hef,h0,h0',hw,one_encM,cellsA_encM,inj1_encM,one_encC,cellsA_encC,inj1_encC]
          refine callP_intro (ds:=[encZ z]) (by rfl) hNg ?_
          simp (maxSteps:=1000000) [-map_map,-mapM_map,↓KW,encX,encC,encZ_eq,q1,hf,hef,h0,h0',hw,one_encM,cellsA_encM,inj1_encM,one_encC,cellsA_encC,inj1_encC]
          refine callP_intro (ds:=[encZ zn,encZ f.2]) (by rfl) hMu ?_
          simp (maxSteps:=1000000) [-map_map,-mapM_map,↓KW,encX,encC,encZ_eq,q1,hf,hef,h0,h0',hw,hm1,one_encM,cellsA_encM,inj1_encM,one_encC,cellsA_encC,inj1_encC]
          refine nxt_intro (τ:=Nat × Ch) (j+1,l++[(f.1,zn * f.2)]) ⟨hgo,htk⟩ (Nat.sub_lt_sub_left hgo (Nat.lt_succ_self _)) ?_
          simp only [List.length_append,hn,List.length_singleton,grQ1]
          refine wk_l [1,4] (by simp) ?_ ?_ <;> simp [-map_map,upd,inj1,Γ0,encX,encC,encF_eq,e0,flt_one]
         ·have hbb:=app_bounds (n:=k+1) (by omega)
          have hcl:=flt_len encF_len l
          rw [hn] at hcl
          have hal:=flt_all encF_one l
          simp only [hn,grQ1]
          simp (maxSteps:=1000000) [-map_map,-mapM_map,↓KW,encX,encC,q1,hf,hef,h0,h0',hw,one_encM,cellsA_encM,inj1_encM,one_encC,cellsA_encC,inj1_encC]
          refine callP_intro (ds:=[encZ z]) (by rfl) hNg ?_
          simp (maxSteps:=1000000) [-map_map,-mapM_map,↓KW,encX,encC,encZ_eq,q1,hf,hef,h0,h0',hw,one_encM,cellsA_encM,inj1_encM,one_encC,cellsA_encC,inj1_encC]
          refine callP_intro (ds:=[encZ zn,encZ f.2]) (by rfl) hMu ?_
          simp (maxSteps:=1000000) [-map_map,-mapM_map,↓KW,encX,encC,encZ_eq,q1,hf,hef,h0,h0',hw,hm1,hbb,hcl,hal,le_maxLen,one_encM,cellsA_encM,inj1_encM,one_encC,cellsA_encC,inj1_encC]
          refine nxt_intro (τ:=Nat × Ch) (j+1,l++[(f.1,zn * f.2)]) ⟨hgo,htk⟩ (Nat.sub_lt_sub_left hgo (Nat.lt_succ_self _)) ?_
          simp only [List.length_append,hn,List.length_singleton,grQ1]
          refine wk_l [1,5] (by simp) ?_ ?_ <;> simp [-map_map,upd,inj1,Γ0,encX,encC,encF_eq,flt_app,flt_one]
       ·have q1:¬ (j:Int)<x.b.length:=by omega
        rw [List.take_of_length_le (by omega)] at hl
        have hlb:=offL_bnd (n:=b) (z:=zn) hzb' hxb
        have hlk:=offL_keys (n:=b) (z:=zn) hkx
        have hlL:=offL_len zn b x.b
        rw [hl] at hlb hlk hlL hcol
        rcases hn:l.length with _ | k
        ·have e0:l=[]:=List.eq_nil_of_length_eq_zero hn
         simp only [hn,grQ1]
         simp (maxSteps:=1000000) [-map_map,-mapM_map,↓KW,encX,encC,q1,one_encC,cellsA_encC,inj1_encC,one_encM,cellsA_encM,inj1_encM,↓awpt_st]
         refine loopP_inv (fun y:Nat × List Cl=>y.1≤c.length∧colC (c.take y.1) a b=y.2) (fun y=>grS 19 [(0,.d (encX c)),(1,.d (.i .i64 a)),(2,.d (.i .i64 b)),(16,.d (encC l)),(84,.d (encX c)),(85,.d (.i .i64 c.length)),(86,.d (.i .i64 (y.1:Int)))] 47 3 y.2.length (flt encCl y.2)) (fun y=>c.length - y.1) (0,[]) ⟨Nat.zero_le _,rfl⟩ ?_ ?_
         ·simp only [List.length_nil,grS]
          refine wk_l [] (by simp) ?_ ?_ <;> simp [-map_map,upd,inj1,Γ0,encX,blksOk,e0,encC_nil,sub_nil0]
         ·rintro ⟨i,out⟩ ⟨hi,ho⟩
          simp only at hi ho ⊢
          by_cases hgo:i<c.length
          ·have q1:(i:Int)<c.length:=by omega
           have hx:c[i]? = some c[i]:=List.getElem?_eq_getElem hgo
           have hw:IntKind.i64.wrap ((i:Int)+1)=(i:Int)+1:=wrap_i64 (by omega) (by omega)
           have htk:=colC_take hgo a b
           rw [ho] at htk
           have hln:out.length≤i:=by rw [← ho]; exact Nat.le_trans (colC_len _ _ _) (by rw [List.length_take]; omega)
           refine (show ∃ y,c[i]=y from ⟨_,rfl⟩).elim fun y hye=>?_
           rw [hye] at hx htk
           have hyc:encCl y=[D.i .i64 y.id,.i .i64 y.dim,encC y.b]:=rfl
           have hm1:(1:Nat)≤maxLen:=le_maxLen (by decide)
           by_cases h0:y.id=a
           ·have h0':((y.id != a):Bool)=false:=by simpa using h0
            have hkp:keepC a b y=false:=by unfold keepC; simp [h0]
            rw [hkp] at htk
            simp only [Bool.false_eq_true,if_false,List.append_nil] at htk
            have q3:(((a:Int) != (a:Int)):Bool)=false:=by simp
            rcases hn:out.length with _ | m
            ·simp only [hn,grS]
             simp (maxSteps:=1000000) [-map_map,-mapM_map,↓KW,encX,q1,hx,hyc,h0,h0',q3,hw,one_encM,cellsA_encM,inj1_encM,one_encC,cellsA_encC,inj1_encC]
             refine nxt_intro (τ:=Nat × List Cl) (i+1,out) ⟨hgo,htk⟩ (Nat.sub_lt_sub_left hgo (Nat.lt_succ_self _)) ?_
             simp only [hn,grS]
             refine wk_l [] (by simp) ?_ ?_ <;> simp [-map_map,upd,inj1,Γ0,encX,blksOk]
            ·simp only [hn,grS]
             simp (maxSteps:=1000000) [-map_map,-mapM_map,↓KW,encX,q1,hx,hyc,h0,h0',q3,hw,one_encM,cellsA_encM,inj1_encM,one_encC,cellsA_encC,inj1_encC]
             refine nxt_intro (τ:=Nat × List Cl) (i+1,out) ⟨hgo,htk⟩ (Nat.sub_lt_sub_left hgo (Nat.lt_succ_self _)) ?_
             simp only [hn,grS]
             refine wk_l [1] (by simp) ?_ ?_ <;> simp [-map_map,upd,inj1,Γ0,encX,blksOk]
           ·have h0':((y.id != a):Bool)=true:=by simpa using h0
            by_cases h1:y.id=b
            ·have h1':((y.id != b):Bool)=false:=by simpa using h1
             have hkp:keepC a b y=false:=by unfold keepC; simp [h1]
             rw [hkp] at htk
             simp only [Bool.false_eq_true,if_false,List.append_nil] at htk
             have q3:(((b:Int) != (b:Int)):Bool)=false:=by simp
             rw [h1] at h0'
             rcases hn:out.length with _ | m
             ·simp only [hn,grS]
              simp (maxSteps:=1000000) [-map_map,-mapM_map,↓KW,encX,q1,hx,hyc,h1,h0',q3,hw,one_encM,cellsA_encM,inj1_encM,one_encC,cellsA_encC,inj1_encC]
              refine nxt_intro (τ:=Nat × List Cl) (i+1,out) ⟨hgo,htk⟩ (Nat.sub_lt_sub_left hgo (Nat.lt_succ_self _)) ?_
              simp only [hn,grS]
              refine wk_l [] (by simp) ?_ ?_ <;> simp [-map_map,upd,inj1,Γ0,encX,blksOk]
             ·simp only [hn,grS]
              simp (maxSteps:=1000000) [-map_map,-mapM_map,↓KW,encX,q1,hx,hyc,h1,h0',q3,hw,one_encM,cellsA_encM,inj1_encM,one_encC,cellsA_encC,inj1_encC]
              refine nxt_intro (τ:=Nat × List Cl) (i+1,out) ⟨hgo,htk⟩ (Nat.sub_lt_sub_left hgo (Nat.lt_succ_self _)) ?_
              simp only [hn,grS]
              refine wk_l [1] (by simp) ?_ ?_ <;> simp [-map_map,upd,inj1,Γ0,encX,blksOk]
            ·have h1':((y.id != b):Bool)=true:=by simpa using h1
             have hkp:keepC a b y=true:=by unfold keepC; simp [h0,h1]
             rw [hkp,if_pos rfl] at htk
             rcases hn:out.length with _ | m
             ·have e0:out=[]:=List.eq_nil_of_length_eq_zero hn
              simp only [hn,grS]
              simp (maxSteps:=1000000) [-map_map,-mapM_map,↓KW,encX,q1,hx,hyc,h0,h0',h1,h1',hw,hm1,one_encM,cellsA_encM,inj1_encM,one_encC,cellsA_encC,inj1_encC]
              refine nxt_intro (τ:=Nat × List Cl) (i+1,out++[y]) ⟨hgo,htk⟩ (Nat.sub_lt_sub_left hgo (Nat.lt_succ_self _)) ?_
              simp only [List.length_append,hn,List.length_singleton,grS]
              refine wk_l [3] (by simp) ?_ ?_ <;> simp [-map_map,upd,inj1,Γ0,encX,encCl_eq,e0,flt_one]
             ·have hbb:=app_bounds (n:=m+1) (by omega)
              have hcl:=flt_len encCl_len out
              rw [hn] at hcl
              have hal:=flt_all encCl_one out
              simp only [hn,grS]
              simp (maxSteps:=1000000) [-map_map,-mapM_map,↓KW,encX,q1,hx,hyc,h0,h0',h1,h1',hw,hm1,hbb,hcl,hal,le_maxLen,one_encM,cellsA_encM,inj1_encM,one_encC,cellsA_encC,inj1_encC]
              refine nxt_intro (τ:=Nat × List Cl) (i+1,out++[y]) ⟨hgo,htk⟩ (Nat.sub_lt_sub_left hgo (Nat.lt_succ_self _)) ?_
              simp only [List.length_append,hn,List.length_singleton,grS]
              refine wk_l [4] (by simp) ?_ ?_ <;> simp [-map_map,upd,inj1,Γ0,encX,encCl_eq,flt_app,flt_one]
          ·have q1:¬ (i:Int)<c.length:=by omega
           rw [List.take_of_length_le (by omega)] at ho
           have hM:=makeS (l:=l) (e:=e+e) (by rw [← pw_mul]; exact hlb) hlk (by omega) he
           refine (show ∃ r,addR [] l=r from ⟨_,rfl⟩).elim fun r hr=>?_
           rw [hr] at hM
           have hMp1:=mgMapping c [(a,[]),(b,r)] (encG [(a,[]),(b,r)]) rfl (lookG _) (by omega)
           have hMp2:=mgMapping c [(b,r),(a,[])] (encG [(b,r),(a,[])]) rfl (lookG _) (by omega)
           rw [mapX_swap hne] at hMp2
           have hmp1:∀ v w:AV,mput [(a,v)] b w=[(a,v),(b,w)]:=fun v w=>mput2 hne v w
           have hmp2:∀ v w:AV,mput [(b,v)] a w=[(b,v),(a,w)]:=fun v w=>mput2 (Ne.symm hne) v w
           rw [hcol,hr,ho]
           rcases hn:out.length with _ | m
           ·have e0:out=[]:=List.eq_nil_of_length_eq_zero hn
            simp only [grS]
            simp (maxSteps:=1000000) [-map_map,-mapM_map,↓KW,encX,q1]
            refine awpt_tree _ _ rfl rfl ?_
            simp only [opsL,opL,tree29,tail29,fillT,List.flatMap_cons,List.flatMap_nil,List.drop_succ_cons,List.drop_zero,List.take_succ_cons,List.take_zero,List.cons_append,List.nil_append]
            simp (maxSteps:=1000000) [-map_map,-mapM_map,↓KW,encX,q1,↓treeP_eq,↓owto_two,↓owto_one,↓owto_leaf,↓awpt_nil,lookA_mp,mapW_mp]
            refine ⟨?_,?_⟩
            ·refine callP_intro (ds:=[encC l]) (by rfl) hM ?_
             simp (maxSteps:=1000000) [-map_map,-mapM_map,↓KW,encX,q1,↓treeP_eq,↓owto_two,↓owto_one,↓owto_leaf,↓awpt_nil,lookA_mp,mapW_mp,mput_nil,hmp1,hmp2,inj_encC,kills_encC]
             refine callP_intro (ds:=[encX c,encG [(a,[]),(b,r)]]) (by rfl) hMp1 ?_
             simp (maxSteps:=1000000) [-map_map,-mapM_map,↓KW,encX,q1,↓treeP_eq,↓owto_two,↓owto_one,↓owto_leaf,↓awpt_nil,lookA_mp,mapW_mp,mput_nil,hmp1,hmp2,e0,inj_encC,kills_encC,inj_encMp,kills_encMp,vis_mpA,resD_3,encR3,hin]
            ·refine callP_intro (ds:=[encC l]) (by rfl) hM ?_
             simp (maxSteps:=1000000) [-map_map,-mapM_map,↓KW,encX,q1,↓treeP_eq,↓owto_two,↓owto_one,↓owto_leaf,↓awpt_nil,lookA_mp,mapW_mp,mput_nil,hmp1,hmp2,inj_encC,kills_encC]
             refine ⟨?_,?_⟩
             ·refine callP_intro (ds:=[encX c,encG [(a,[]),(b,r)]]) (by rfl) hMp1 ?_
              simp (maxSteps:=1000000) [-map_map,-mapM_map,↓KW,encX,q1,↓treeP_eq,↓owto_two,↓owto_one,↓owto_leaf,↓awpt_nil,lookA_mp,mapW_mp,mput_nil,hmp1,hmp2,e0,inj_encC,kills_encC,inj_encMp,kills_encMp,vis_mpA,resD_3,encR3,hin]
             ·refine callP_intro (ds:=[encX c,encG [(b,r),(a,[])]]) (by rfl) hMp2 ?_
              simp (maxSteps:=1000000) [-map_map,-mapM_map,↓KW,encX,q1,↓treeP_eq,↓owto_two,↓owto_one,↓owto_leaf,↓awpt_nil,lookA_mp,mapW_mp,mput_nil,hmp1,hmp2,e0,inj_encC,kills_encC,inj_encMp,kills_encMp,vis_mpA,resD_3,encR3,hin]
           ·have e1:=flt_take encCl_len hn
            have e2:=flt_chunk (by decide) encCl_len hn
            have e3:=flt_len encCl_len out
            rw [hn] at e3
            simp only [grS]
            simp (maxSteps:=1000000) [-map_map,-mapM_map,↓KW,encX,q1]
            refine awpt_tree _ _ rfl rfl ?_
            simp only [opsL,opL,tree29,tail29,fillT,List.flatMap_cons,List.flatMap_nil,List.drop_succ_cons,List.drop_zero,List.take_succ_cons,List.take_zero,List.cons_append,List.nil_append]
            simp (maxSteps:=1000000) [-map_map,-mapM_map,↓KW,encX,q1,↓treeP_eq,↓owto_two,↓owto_one,↓owto_leaf,↓awpt_nil,lookA_mp,mapW_mp]
            refine ⟨?_,?_⟩
            ·refine callP_intro (ds:=[encC l]) (by rfl) hM ?_
             simp (maxSteps:=1000000) [-map_map,-mapM_map,↓KW,encX,q1,↓treeP_eq,↓owto_two,↓owto_one,↓owto_leaf,↓awpt_nil,lookA_mp,mapW_mp,mput_nil,hmp1,hmp2,inj_encC,kills_encC]
             refine callP_intro (ds:=[encX c,encG [(a,[]),(b,r)]]) (by rfl) hMp1 ?_
             simp (maxSteps:=1000000) [-map_map,-mapM_map,↓KW,encX,q1,↓treeP_eq,↓owto_two,↓owto_one,↓owto_leaf,↓awpt_nil,lookA_mp,mapW_mp,mput_nil,hmp1,hmp2,e1,e2,e3,inj_encC,kills_encC,inj_encMp,kills_encMp,vis_mpA,resD_3,encR3,hin]
            ·refine callP_intro (ds:=[encC l]) (by rfl) hM ?_
             simp (maxSteps:=1000000) [-map_map,-mapM_map,↓KW,encX,q1,↓treeP_eq,↓owto_two,↓owto_one,↓owto_leaf,↓awpt_nil,lookA_mp,mapW_mp,mput_nil,hmp1,hmp2,inj_encC,kills_encC]
             refine ⟨?_,?_⟩
             ·refine callP_intro (ds:=[encX c,encG [(a,[]),(b,r)]]) (by rfl) hMp1 ?_
              simp (maxSteps:=1000000) [-map_map,-mapM_map,↓KW,encX,q1,↓treeP_eq,↓owto_two,↓owto_one,↓owto_leaf,↓awpt_nil,lookA_mp,mapW_mp,mput_nil,hmp1,hmp2,e1,e2,e3,inj_encC,kills_encC,inj_encMp,kills_encMp,vis_mpA,resD_3,encR3,hin]
             ·refine callP_intro (ds:=[encX c,encG [(b,r),(a,[])]]) (by rfl) hMp2 ?_
              simp (maxSteps:=1000000) [-map_map,-mapM_map,↓KW,encX,q1,↓treeP_eq,↓owto_two,↓owto_one,↓owto_leaf,↓awpt_nil,lookA_mp,mapW_mp,mput_nil,hmp1,hmp2,e1,e2,e3,inj_encC,kills_encC,inj_encMp,kills_encMp,vis_mpA,resD_3,encR3,hin]
        ·have hfz:∀ (H:Nat→Option HO) (ρ:Nat→Nat),H 2=some (.cells 89 ((flt encF l).map .d))→Sub H (blkF 1 []) ρ (.own 2 0 (k+1) 3) (.d (encC l)):=fun H ρ hH=>sub_own_encC hn hH
         simp only [hn,grQ1]
         simp (maxSteps:=1000000) [-map_map,-mapM_map,↓KW,encX,encC,q1,one_encC,cellsA_encC,inj1_encC,one_encM,cellsA_encM,inj1_encM,↓awpt_st]
         refine loopP_inv (fun y:Nat × List Cl=>y.1≤c.length∧colC (c.take y.1) a b=y.2) (fun y=>grS 19 [(0,.d (encX c)),(1,.d (.i .i64 a)),(2,.d (.i .i64 b)),(16,.d (encC l)),(84,.d (encX c)),(85,.d (.i .i64 c.length)),(86,.d (.i .i64 (y.1:Int)))] 47 3 y.2.length (flt encCl y.2)) (fun y=>c.length - y.1) (0,[]) ⟨Nat.zero_le _,rfl⟩ ?_ ?_
         ·simp only [List.length_nil,grS]
          refine wk_l [] (by simp) ?_ ?_ <;> simp [-map_map,upd,inj1,Γ0,encX,blksOk,hfz]
         ·rintro ⟨i,out⟩ ⟨hi,ho⟩
          simp only at hi ho ⊢
          by_cases hgo:i<c.length
          ·have q1:(i:Int)<c.length:=by omega
           have hx:c[i]? = some c[i]:=List.getElem?_eq_getElem hgo
           have hw:IntKind.i64.wrap ((i:Int)+1)=(i:Int)+1:=wrap_i64 (by omega) (by omega)
           have htk:=colC_take hgo a b
           rw [ho] at htk
           have hln:out.length≤i:=by rw [← ho]; exact Nat.le_trans (colC_len _ _ _) (by rw [List.length_take]; omega)
           refine (show ∃ y,c[i]=y from ⟨_,rfl⟩).elim fun y hye=>?_
           rw [hye] at hx htk
           have hyc:encCl y=[D.i .i64 y.id,.i .i64 y.dim,encC y.b]:=rfl
           have hm1:(1:Nat)≤maxLen:=le_maxLen (by decide)
           by_cases h0:y.id=a
           ·have h0':((y.id != a):Bool)=false:=by simpa using h0
            have hkp:keepC a b y=false:=by unfold keepC; simp [h0]
            rw [hkp] at htk
            simp only [Bool.false_eq_true,if_false,List.append_nil] at htk
            have q3:(((a:Int) != (a:Int)):Bool)=false:=by simp
            rcases hn:out.length with _ | m
            ·simp only [hn,grS]
             simp (maxSteps:=1000000) [-map_map,-mapM_map,↓KW,encX,q1,hx,hyc,h0,h0',q3,hw,one_encM,cellsA_encM,inj1_encM,one_encC,cellsA_encC,inj1_encC]
             refine nxt_intro (τ:=Nat × List Cl) (i+1,out) ⟨hgo,htk⟩ (Nat.sub_lt_sub_left hgo (Nat.lt_succ_self _)) ?_
             simp only [hn,grS]
             refine wk_l [] (by simp) ?_ ?_ <;> simp [-map_map,upd,inj1,Γ0,encX,blksOk]
            ·simp only [hn,grS]
             simp (maxSteps:=1000000) [-map_map,-mapM_map,↓KW,encX,q1,hx,hyc,h0,h0',q3,hw,one_encM,cellsA_encM,inj1_encM,one_encC,cellsA_encC,inj1_encC]
             refine nxt_intro (τ:=Nat × List Cl) (i+1,out) ⟨hgo,htk⟩ (Nat.sub_lt_sub_left hgo (Nat.lt_succ_self _)) ?_
             simp only [hn,grS]
             refine wk_l [1] (by simp) ?_ ?_ <;> simp [-map_map,upd,inj1,Γ0,encX,blksOk]
           ·have h0':((y.id != a):Bool)=true:=by simpa using h0
            by_cases h1:y.id=b
            ·have h1':((y.id != b):Bool)=false:=by simpa using h1
             have hkp:keepC a b y=false:=by unfold keepC; simp [h1]
             rw [hkp] at htk
             simp only [Bool.false_eq_true,if_false,List.append_nil] at htk
             have q3:(((b:Int) != (b:Int)):Bool)=false:=by simp
             rw [h1] at h0'
             rcases hn:out.length with _ | m
             ·simp only [hn,grS]
              simp (maxSteps:=1000000) [-map_map,-mapM_map,↓KW,encX,q1,hx,hyc,h1,h0',q3,hw,one_encM,cellsA_encM,inj1_encM,one_encC,cellsA_encC,inj1_encC]
              refine nxt_intro (τ:=Nat × List Cl) (i+1,out) ⟨hgo,htk⟩ (Nat.sub_lt_sub_left hgo (Nat.lt_succ_self _)) ?_
              simp only [hn,grS]
              refine wk_l [] (by simp) ?_ ?_ <;> simp [-map_map,upd,inj1,Γ0,encX,blksOk]
             ·simp only [hn,grS]
              simp (maxSteps:=1000000) [-map_map,-mapM_map,↓KW,encX,q1,hx,hyc,h1,h0',q3,hw,one_encM,cellsA_encM,inj1_encM,one_encC,cellsA_encC,inj1_encC]
              refine nxt_intro (τ:=Nat × List Cl) (i+1,out) ⟨hgo,htk⟩ (Nat.sub_lt_sub_left hgo (Nat.lt_succ_self _)) ?_
              simp only [hn,grS]
              refine wk_l [1] (by simp) ?_ ?_ <;> simp [-map_map,upd,inj1,Γ0,encX,blksOk]
            ·have h1':((y.id != b):Bool)=true:=by simpa using h1
             have hkp:keepC a b y=true:=by unfold keepC; simp [h0,h1]
             rw [hkp,if_pos rfl] at htk
             rcases hn:out.length with _ | m
             ·have e0:out=[]:=List.eq_nil_of_length_eq_zero hn
              simp only [hn,grS]
              simp (maxSteps:=1000000) [-map_map,-mapM_map,↓KW,encX,q1,hx,hyc,h0,h0',h1,h1',hw,hm1,one_encM,cellsA_encM,inj1_encM,one_encC,cellsA_encC,inj1_encC]
              refine nxt_intro (τ:=Nat × List Cl) (i+1,out++[y]) ⟨hgo,htk⟩ (Nat.sub_lt_sub_left hgo (Nat.lt_succ_self _)) ?_
              simp only [List.length_append,hn,List.length_singleton,grS]
              refine wk_l [3] (by simp) ?_ ?_ <;> simp [-map_map,upd,inj1,Γ0,encX,encCl_eq,e0,flt_one]
             ·have hbb:=app_bounds (n:=m+1) (by omega)
              have hcl:=flt_len encCl_len out
              rw [hn] at hcl
              have hal:=flt_all encCl_one out
              simp only [hn,grS]
              simp (maxSteps:=1000000) [-map_map,-mapM_map,↓KW,encX,q1,hx,hyc,h0,h0',h1,h1',hw,hm1,hbb,hcl,hal,le_maxLen,one_encM,cellsA_encM,inj1_encM,one_encC,cellsA_encC,inj1_encC]
              refine nxt_intro (τ:=Nat × List Cl) (i+1,out++[y]) ⟨hgo,htk⟩ (Nat.sub_lt_sub_left hgo (Nat.lt_succ_self _)) ?_
              simp only [List.length_append,hn,List.length_singleton,grS]
              refine wk_l [4] (by simp) ?_ ?_ <;> simp [-map_map,upd,inj1,Γ0,encX,encCl_eq,flt_app,flt_one]
          ·have q1:¬ (i:Int)<c.length:=by omega
           rw [List.take_of_length_le (by omega)] at ho
           have hM:=makeS (l:=l) (e:=e+e) (by rw [← pw_mul]; exact hlb) hlk (by omega) he
           refine (show ∃ r,addR [] l=r from ⟨_,rfl⟩).elim fun r hr=>?_
           rw [hr] at hM
           have hMp1:=mgMapping c [(a,[]),(b,r)] (encG [(a,[]),(b,r)]) rfl (lookG _) (by omega)
           have hMp2:=mgMapping c [(b,r),(a,[])] (encG [(b,r),(a,[])]) rfl (lookG _) (by omega)
           rw [mapX_swap hne] at hMp2
           have hmp1:∀ v w:AV,mput [(a,v)] b w=[(a,v),(b,w)]:=fun v w=>mput2 hne v w
           have hmp2:∀ v w:AV,mput [(b,v)] a w=[(b,v),(a,w)]:=fun v w=>mput2 (Ne.symm hne) v w
           rw [hcol,hr,ho]
           rcases hn:out.length with _ | m
           ·have e0:out=[]:=List.eq_nil_of_length_eq_zero hn
            simp only [grS]
            simp (maxSteps:=1000000) [-map_map,-mapM_map,↓KW,encX,q1]
            refine awpt_tree _ _ rfl rfl ?_
            simp only [opsL,opL,tree29,tail29,fillT,List.flatMap_cons,List.flatMap_nil,List.drop_succ_cons,List.drop_zero,List.take_succ_cons,List.take_zero,List.cons_append,List.nil_append]
            simp (maxSteps:=1000000) [-map_map,-mapM_map,↓KW,encX,q1,↓treeP_eq,↓owto_two,↓owto_one,↓owto_leaf,↓awpt_nil,lookA_mp,mapW_mp]
            refine ⟨?_,?_⟩
            ·refine callP_intro (ds:=[encC l]) (by rfl) hM ?_
             simp (maxSteps:=1000000) [-map_map,-mapM_map,↓KW,encX,q1,↓treeP_eq,↓owto_two,↓owto_one,↓owto_leaf,↓awpt_nil,lookA_mp,mapW_mp,mput_nil,hmp1,hmp2,inj_encC,kills_encC]
             refine callP_intro (ds:=[encX c,encG [(a,[]),(b,r)]]) (by rfl) hMp1 ?_
             simp (maxSteps:=1000000) [-map_map,-mapM_map,↓KW,encX,q1,↓treeP_eq,↓owto_two,↓owto_one,↓owto_leaf,↓awpt_nil,lookA_mp,mapW_mp,mput_nil,hmp1,hmp2,e0,inj_encC,kills_encC,inj_encMp,kills_encMp,vis_mpA,resD_3,encR3,hin]
            ·refine callP_intro (ds:=[encC l]) (by rfl) hM ?_
             simp (maxSteps:=1000000) [-map_map,-mapM_map,↓KW,encX,q1,↓treeP_eq,↓owto_two,↓owto_one,↓owto_leaf,↓awpt_nil,lookA_mp,mapW_mp,mput_nil,hmp1,hmp2,inj_encC,kills_encC]
             refine ⟨?_,?_⟩
             ·refine callP_intro (ds:=[encX c,encG [(a,[]),(b,r)]]) (by rfl) hMp1 ?_
              simp (maxSteps:=1000000) [-map_map,-mapM_map,↓KW,encX,q1,↓treeP_eq,↓owto_two,↓owto_one,↓owto_leaf,↓awpt_nil,lookA_mp,mapW_mp,mput_nil,hmp1,hmp2,e0,inj_encC,kills_encC,inj_encMp,kills_encMp,vis_mpA,resD_3,encR3,hin]
             ·refine callP_intro (ds:=[encX c,encG [(b,r),(a,[])]]) (by rfl) hMp2 ?_
              simp (maxSteps:=1000000) [-map_map,-mapM_map,↓KW,encX,q1,↓treeP_eq,↓owto_two,↓owto_one,↓owto_leaf,↓awpt_nil,lookA_mp,mapW_mp,mput_nil,hmp1,hmp2,e0,inj_encC,kills_encC,inj_encMp,kills_encMp,vis_mpA,resD_3,encR3,hin]
           ·have e1:=flt_take encCl_len hn
            have e2:=flt_chunk (by decide) encCl_len hn
            have e3:=flt_len encCl_len out
            rw [hn] at e3
            simp only [grS]
            simp (maxSteps:=1000000) [-map_map,-mapM_map,↓KW,encX,q1]
            refine awpt_tree _ _ rfl rfl ?_
            simp only [opsL,opL,tree29,tail29,fillT,List.flatMap_cons,List.flatMap_nil,List.drop_succ_cons,List.drop_zero,List.take_succ_cons,List.take_zero,List.cons_append,List.nil_append]
            simp (maxSteps:=1000000) [-map_map,-mapM_map,↓KW,encX,q1,↓treeP_eq,↓owto_two,↓owto_one,↓owto_leaf,↓awpt_nil,lookA_mp,mapW_mp]
            refine ⟨?_,?_⟩
            ·refine callP_intro (ds:=[encC l]) (by rfl) hM ?_
             simp (maxSteps:=1000000) [-map_map,-mapM_map,↓KW,encX,q1,↓treeP_eq,↓owto_two,↓owto_one,↓owto_leaf,↓awpt_nil,lookA_mp,mapW_mp,mput_nil,hmp1,hmp2,inj_encC,kills_encC]
             refine callP_intro (ds:=[encX c,encG [(a,[]),(b,r)]]) (by rfl) hMp1 ?_
             simp (maxSteps:=1000000) [-map_map,-mapM_map,↓KW,encX,q1,↓treeP_eq,↓owto_two,↓owto_one,↓owto_leaf,↓awpt_nil,lookA_mp,mapW_mp,mput_nil,hmp1,hmp2,e1,e2,e3,inj_encC,kills_encC,inj_encMp,kills_encMp,vis_mpA,resD_3,encR3,hin]
            ·refine callP_intro (ds:=[encC l]) (by rfl) hM ?_
             simp (maxSteps:=1000000) [-map_map,-mapM_map,↓KW,encX,q1,↓treeP_eq,↓owto_two,↓owto_one,↓owto_leaf,↓awpt_nil,lookA_mp,mapW_mp,mput_nil,hmp1,hmp2,inj_encC,kills_encC]
             refine ⟨?_,?_⟩
             ·refine callP_intro (ds:=[encX c,encG [(a,[]),(b,r)]]) (by rfl) hMp1 ?_
              simp (maxSteps:=1000000) [-map_map,-mapM_map,↓KW,encX,q1,↓treeP_eq,↓owto_two,↓owto_one,↓owto_leaf,↓awpt_nil,lookA_mp,mapW_mp,mput_nil,hmp1,hmp2,e1,e2,e3,inj_encC,kills_encC,inj_encMp,kills_encMp,vis_mpA,resD_3,encR3,hin]
             ·refine callP_intro (ds:=[encX c,encG [(b,r),(a,[])]]) (by rfl) hMp2 ?_
              simp (maxSteps:=1000000) [-map_map,-mapM_map,↓KW,encX,q1,↓treeP_eq,↓owto_two,↓owto_one,↓owto_leaf,↓awpt_nil,lookA_mp,mapW_mp,mput_nil,hmp1,hmp2,e1,e2,e3,inj_encC,kills_encC,inj_encMp,kills_encMp,vis_mpA,resD_3,encR3,hin]
end Go.Am
end

section
set_option linter.unusedVariables false
set_option linter.unusedSimpArgs false
open List (map_map mapM_map)
open Go Go.Am Go.Proofs
namespace Go.Am
theorem flt_set {α:Type} {f:α→List D} {k:Nat} (h:∀ x,(f x).length=k):∀ (l:List α) (i c:Nat) (x y:α) (v:D),l[i]? = some x→c<k→f y=(f x).set c v→(flt f l).set (i * k+c) v=flt f (l.set i y)
 | [],i,c,x,y,v,hx,_,_=>by simp at hx
 | z::l,0,c,x,y,v,hx,hc,hy=>by
  simp at hx; subst hx
  rw [show flt f (z::l)=f z++flt f l from by simp [flt],List.set_cons_zero,show flt f (y::l)=f y++flt f l from by simp [flt],Nat.zero_mul,Nat.zero_add,List.set_append_left _ _ (by rw [h]; exact hc),hy]
 | z::l,i+1,c,x,y,v,hx,hc,hy=>by
  rw [show flt f (z::l)=f z++flt f l from by simp [flt],List.set_cons_succ,show flt f (z::l.set i y)=f z++flt f (l.set i y) from by simp [flt],List.set_append_right _ _ (by rw [h,Nat.add_mul]; omega),h,show (i+1) * k+c - k=i * k+c by rw [Nat.add_mul]; omega,flt_set h l i c x y v (by simpa using hx) hc hy]
set_option maxHeartbeats 1000000 in
theorem r31one (n:Int):Spec Tryz.prog 38 [.i .i64 n] (encC [(n,1)]):=by
 refine spec_of (N:=7) follows_mixed Tryz.func38 rfl rfl rfl (by kernel_rfl) (by kernel_rfl) (by simp) ?_
 have hO:=r01Of 1 (by decide) (by decide)
 simp (maxSteps:=1000000) [-map_map,-mapM_map,↓KW,]
 refine callP_intro (ds:=[.i .i64 1]) (by rfl) hO ?_
 simp (maxSteps:=1000000) [-map_map,-mapM_map,↓KW,encC,encF_eq,encZ_eq,one_encM,cellsA_encM,inj1_encM]
theorem mapX_one {c:List Cl} {i:Nat} (h:i<c.length):mapX (c.take (i+1)) []=mapX (c.take i) []++[(c[i].id,[(c[i].id,1)])]:=mapX_take h []
set_option maxHeartbeats 2000000 in
set_option maxRecDepth 10000 in
theorem r31Itself {c:List Cl} (hl:c.length≤1000000):Spec Tryz.prog 42 [encX c] (encMp (mapX c [])):=by
 refine spec_of (N:=28) follows_mixed Tryz.func42 rfl rfl rfl (by kernel_rfl) (by kernel_rfl) (by simp) ?_
 simp (maxSteps:=1000000) [-map_map,-mapM_map,↓KW,encX]
 refine loopP_inv (fun y:Nat × List (Int × Ch)=>y.1≤c.length∧y.2.length=y.1∧mapX (c.take y.1) []=y.2) (fun y=>StL [(0,.d (encX c)),(3,.own 1 0 y.2.length 2),(4,.d (.i .i64 (y.1:Int)))] none [.cells 97 ((flt encIm y.2).map .d)]) (fun y=>c.length - y.1) (0,[]) ⟨Nat.zero_le _,rfl,rfl⟩ ?_ ?_
 ·refine wk_l [1] (by simp) ?_ ?_ <;> simp [-map_map,upd,inj1,Γ0,encX,flt_nil]
 ·rintro ⟨i,out⟩ ⟨hi,hoi,ho⟩
  simp only at hi hoi ho ⊢
  by_cases hgo:i<c.length
  ·have q1:(i:Int)<c.length:=by omega
   have hx:c[i]? = some c[i]:=List.getElem?_eq_getElem hgo
   have hw:IntKind.i64.wrap ((i:Int)+1)=(i:Int)+1:=wrap_i64 (by omega) (by omega)
   have htk:=mapX_one hgo
   rw [ho] at htk
   refine (show ∃ x,c[i]=x from ⟨_,rfl⟩).elim fun x hxe=>?_
   rw [hxe] at hx htk
   have hyc:encCl x=[D.i .i64 x.id,.i .i64 x.dim,encC x.b]:=rfl
   have hO:=r31one x.id
   have hcl:=flt_len encIm_len out
   have hal:=flt_all encIm_one out
   have hbb:=app_bounds2 (n:=out.length) (by omega)
   simp (maxSteps:=1000000) [-map_map,-mapM_map,↓KW,encX,q1,hx,hyc,one_encC,cellsA_encC,inj1_encC]
   refine callP_intro (ds:=[.i .i64 x.id]) (by rfl) hO ?_
   simp (maxSteps:=1000000) [-map_map,-mapM_map,↓KW,encX,q1,hx,hyc,hw,hcl,hal,hbb,le_maxLen,one_encC,cellsA_encC,inj1_encC,inj_encC,kills_encC]
   refine nxt_intro (τ:=Nat × List (Int × Ch)) (i+1,out++[(x.id,[(x.id,1)])]) ⟨hgo,by rw [List.length_append,hoi]; rfl,htk⟩ (Nat.sub_lt_sub_left hgo (Nat.lt_succ_self _)) ?_
   simp only [List.length_append,List.length_singleton,flt_app,flt_one,encIm_eq]
   refine wk_l [3] (by simp) ?_ ?_ <;> simp [-map_map,upd,inj1,Γ0,encX]
  ·have q1:¬ (i:Int)<c.length:=by omega
   rw [List.take_of_length_le (by omega)] at ho
   have e1:=flt_take encIm_len (rfl:out.length=out.length)
   have e2:=flt_chunk (by decide) encIm_len (rfl:out.length=out.length)
   have e3:=flt_len encIm_len out
   simp (maxSteps:=1000000) [-map_map,-mapM_map,↓KW,encX,q1,e1,e2,e3,ho,encMp]
def witX (m:List (Int × Ch)) (n:Int) (x:Ch):List (Int × Ch):=m.map fun p=>if p.1=n then (p.1,x) else p
def coefR (x:Ch) (n:Int):Int:=((x.find? fun f=>decide (f.1=n)).map (·.2)).getD 0
theorem coefR_drop {x:Ch} {i:Nat} (h:i<x.length) (n:Int):coefR (x.drop i) n=if x[i].1=n then x[i].2 else coefR (x.drop (i+1)) n:=by
 unfold coefR
 rw [List.drop_eq_getElem_cons h,List.find?_cons]
 by_cases e:x[i].1=n <;> simp [e]
set_option maxHeartbeats 2000000 in
set_option maxRecDepth 10000 in
theorem r31Coef {x:Ch} (n:Int) (hl:x.length≤1000000):Spec Tryz.prog 89 [encC x,.i .i64 n] (encZ (coefR x n)):=by
 refine spec_of (N:=25) follows_mixed Tryz.func89 rfl rfl rfl (by kernel_rfl) (by kernel_rfl) (by simp) ?_
 simp (maxSteps:=1000000) [-map_map,-mapM_map,↓KW,encC]
 refine loopP_inv (fun i:Nat=>i≤x.length∧coefR (x.drop i) n=coefR x n) (fun i=>StL [(0,.d (encC x)),(1,.d (.i .i64 n)),(4,.ptr 1 0),(5,.d (.i .i64 (i:Int)))] none [.cells 69 [.d (.b false),.nil]]) (fun i=>x.length - i) 0 ⟨Nat.zero_le _,rfl⟩ ?_ ?_
 ·refine wk_l [1] (by simp) ?_ ?_ <;> simp [-map_map,upd,inj1,Γ0,encC]
 ·rintro i ⟨hi,hd⟩
  by_cases hgo:i<x.length
  ·have q1:(i:Int)<x.length:=by omega
   have hf:x[i]? = some x[i]:=List.getElem?_eq_getElem hgo
   have hw:IntKind.i64.wrap ((i:Int)+1)=(i:Int)+1:=wrap_i64 (by omega) (by omega)
   rw [coefR_drop hgo] at hd
   refine (show ∃ f,x[i]=f from ⟨_,rfl⟩).elim fun f hfe=>?_
   rw [hfe] at hf hd
   have hef:encF f=[.i .i64 f.1,.b (decide (f.2<0)),encM (digs f.2.natAbs)]:=rfl
   by_cases h0:f.1=n
   ·rw [if_pos h0] at hd
    have q3:(((n:Int) == (n:Int)):Bool)=true:=by simp
    simp (maxSteps:=1000000) [-map_map,-mapM_map,↓KW,encC,q1,hf,hef,h0,q3,encZ_eq,← hd,one_encM,cellsA_encM,inj1_encM]
   ·rw [if_neg h0] at hd
    have h0':((f.1 == n):Bool)=false:=by simpa using h0
    simp (maxSteps:=1000000) [-map_map,-mapM_map,↓KW,encC,q1,hf,hef,h0,h0',hw,one_encM,cellsA_encM,inj1_encM]
    refine nxt_intro (i+1) ⟨hgo,hd⟩ (Nat.sub_lt_sub_left hgo (Nat.lt_succ_self _)) (wk_l [1] (by simp) ?_ ?_) <;> simp [-map_map,upd,inj1,Γ0,encC]
  ·have q1:¬ (i:Int)<x.length:=by omega
   have h0:coefR x n=0:=by rw [← hd,List.drop_of_length_le (by omega)]; rfl
   have h1:encM (digs 0)=.sl []:=by rw [digs_zero]; rfl
   simp (maxSteps:=1000000) [-map_map,-mapM_map,↓KW,encC,q1,h0,encZ_eq,h1]
theorem flt_at {α:Type} {f:α→List D} {k:Nat} (h:∀ x,(f x).length=k):∀ (l:List α) (j c:Nat) (x:α),l[j]? = some x→c<k→(flt f l)[j * k+c]? = (f x)[c]?
 | [],j,c,x,hx,_=>by simp at hx
 | y::l,0,c,x,hx,hc=>by
  simp at hx; subst hx
  rw [Nat.zero_mul,Nat.zero_add,show flt f (y::l)=f y++flt f l from by simp [flt],List.getElem?_append_left (by rw [h]; exact hc)]
 | y::l,j+1,c,x,hx,hc=>by
  rw [show flt f (y::l)=f y++flt f l from by simp [flt],List.getElem?_append_right (by rw [h,Nat.add_mul]; omega),h,show (j+1) * k+c - k=j * k+c by rw [Nat.add_mul]; omega]
  exact flt_at h l j c x (by simpa using hx) hc
def witL (m:List (Int × Ch)) (n:Int) (x:Ch) (i:Nat):List (Int × Ch):=witX (m.take i) n x++m.drop i
set_option maxHeartbeats 2000000 in
set_option maxRecDepth 10000 in
theorem r31With {m:List (Int × Ch)} (n:Int) (x:Ch) (hl:m.length≤1000000):Spec Tryz.prog 41 [encMp m,.i .i64 n,encC x] (encMp (witX m n x)):=by
 refine spec_of (N:=31) follows_mixed Tryz.func41 rfl rfl rfl (by kernel_rfl) (by kernel_rfl) (by simp) ?_
 have hbb:m.length * 32≤140737488355328∧m.length≤maxLen:=⟨by omega,le_maxLen (by omega)⟩
 have hal:=eq_true (fun (a:D) (ha:a∈flt encIm m)=>List.all_eq_true.1 (flt_all encIm_one m) (.d a) (List.mem_map.2 ⟨a,ha,rfl⟩))
 have hff:=flt_flat encIm m
 have hcl:=flt_len encIm_len m
 have hok:okHead 2 (m.map encIm)=true:=by cases m <;> simp [okHead,encIm_len]
 simp (maxSteps:=1000000) [-map_map,-mapM_map,↓KW,encMp,hbb,appC,hff,hok,hal]
 refine loopP_inv (fun i:Nat=>i≤m.length) (fun i=>StL [(0,.d (encMp m)),(1,.d (.i .i64 n)),(2,.d (encC x)),(7,.own 1 0 m.length 2),(8,.d (.i .i64 (i:Int)))] none [.cells 97 ((flt encIm (witL m n x i)).map .d)]) (fun i=>m.length - i) 0 (Nat.zero_le _) ?_ ?_
 ·have e0:witL m n x 0=m:=rfl
  rw [e0]
  refine wk_l [2] (by simp) ?_ ?_ <;> simp [-map_map,upd,inj1,Γ0,encMp,encC]
 ·intro i hi
  have hwl:(witL m n x i).length=m.length:=by unfold witL witX; rw [List.length_append,List.length_map,List.length_take,List.length_drop]; omega
  by_cases hgo:i<m.length
  ·have q1:(i:Int)<m.length:=by omega
   have hw:IntKind.i64.wrap ((i:Int)+1)=(i:Int)+1:=wrap_i64 (by omega) (by omega)
   have hx:(witL m n x i)[i]? = some m[i]:=by
    unfold witL
    rw [List.getElem?_append_right (by unfold witX; rw [List.length_map,List.length_take]; omega)]
    simp [witX,List.length_take,Nat.min_eq_left hi,hgo]
   have hnx:witL m n x (i+1)=(witL m n x i).set i (if m[i].1=n then (m[i].1,x) else m[i]):=by
    unfold witL witX
    rw [List.take_add_one,List.getElem?_eq_getElem hgo,List.map_append,List.set_append_right _ _ (by rw [List.length_map,List.length_take]; omega),List.drop_eq_getElem_cons hgo,List.length_map,List.length_take,Nat.min_eq_left hi,Nat.sub_self,List.set_cons_zero]
    simp
   refine (show ∃ p,m[i]=p from ⟨_,rfl⟩).elim fun p hpe=>?_
   rw [hpe] at hx hnx
   refine (show ∃ L,witL m n x i=L from ⟨_,rfl⟩).elim fun L hLe=>?_
   rw [hLe] at hx hnx hwl
   simp only [hLe,hnx]
   have c0:(flt encIm L)[i * 2]? = some (.i .i64 p.1):=flt_at encIm_len L i 0 p hx (by decide)
   have hcl:=flt_len encIm_len L
   rw [hwl] at hcl
   by_cases h0:p.1=n
   ·have q3:(((n:Int) == (n:Int)):Bool)=true:=by simp
    rw [if_pos h0] at hnx
    have hst:lay ((flt encIm L).map AV.d) (i * 2+1) [.d (encC x)]=(flt encIm (L.set i (p.1,x))).map .d:=by
     rw [lay_one _ _ _ (by omega),flt_set encIm_len L i 1 p (p.1,x) _ hx (by decide) rfl]
    have hli:i * 2+1+1≤m.length * 2:=by omega
    rw [h0] at hst
    simp (maxSteps:=1000000) [-map_map,-mapM_map,↓KW,encMp,inj1_encC,one_encC,cellsA_encC,q1,hw,h0,q3,c0,hcl,hst,hli]
    refine nxt_intro (i+1) hgo (Nat.sub_lt_sub_left hgo (Nat.lt_succ_self _)) ?_
    rw [hnx]
    refine wk_l [1] (by simp) ?_ ?_ <;> simp [-map_map,upd,inj1,Γ0,encMp,encC,h0]
   ·have h0':((p.1 == n):Bool)=false:=by simpa using h0
    have hset:L.set i p=L:=by
     obtain ⟨h1,h2⟩:=List.getElem?_eq_some_iff.1 hx
     rw [← h2]; exact List.set_getElem_self h1
    rw [if_neg h0,hset] at hnx
    simp (maxSteps:=1000000) [-map_map,-mapM_map,↓KW,encMp,inj1_encC,q1,hw,h0,h0',c0,hcl]
    refine nxt_intro (i+1) hgo (Nat.sub_lt_sub_left hgo (Nat.lt_succ_self _)) ?_
    rw [hnx]
    refine wk_l [1] (by simp) ?_ ?_ <;> simp [-map_map,upd,inj1,Γ0,encMp,encC]
  ·have q1:¬ (i:Int)<m.length:=by omega
   have hfin:witL m n x i=witX m n x:=by unfold witL; rw [List.take_of_length_le (by omega),List.drop_of_length_le (by omega),List.append_nil]
   rw [hfin] at hwl ⊢
   have e1:=flt_take encIm_len hwl
   have e2:=flt_chunk (by decide) encIm_len hwl
   have e3:=flt_len encIm_len (witX m n x)
   rw [hwl] at e3
   simp (maxSteps:=1000000) [-map_map,-mapM_map,↓KW,encMp,q1,e1,e2,e3]
/-! Cells struck -/
set_option maxHeartbeats 2000000 in
set_option maxRecDepth 10000 in
theorem r31without {c:List Cl} (a b:Int) (hl:c.length≤1000000):Spec Tryz.prog 39 [encX c,.ag [.i .i64 a,.i .i64 b]] (encX (colC c a b)):=by
 refine spec_of (N:=40) follows_mixed Tryz.func39 rfl rfl rfl (by kernel_rfl) (by kernel_rfl) (by simp) ?_
 simp (maxSteps:=1000000) [-map_map,-mapM_map,↓KW,encX]
 refine loopP_inv (fun y:Nat × List Cl=>y.1≤c.length∧colC (c.take y.1) a b=y.2) (fun y=>StL [(0,.d (encX c)),(3,.ptr 1 0),(5,.own 2 0 y.2.length 3),(6,.d (.i .i64 (y.1:Int)))] none [.cells 59 [.d (.i .i64 a),.d (.i .i64 b)],.cells 47 ((flt encCl y.2).map .d)]) (fun y=>c.length - y.1) (0,[]) ⟨Nat.zero_le _,rfl⟩ ?_ ?_
 ·refine wk_l [1,2] (by simp) ?_ ?_ <;> simp [-map_map,upd,inj1,Γ0,encX,flt_nil]
 ·rintro ⟨i,out⟩ ⟨hi,ho⟩
  simp only at hi ho ⊢
  by_cases hgo:i<c.length
  ·have q1:(i:Int)<c.length:=by omega
   have hx:c[i]? = some c[i]:=List.getElem?_eq_getElem hgo
   have hw:IntKind.i64.wrap ((i:Int)+1)=(i:Int)+1:=wrap_i64 (by omega) (by omega)
   have htk:=colC_take hgo a b
   rw [ho] at htk
   have hln:out.length≤i:=by rw [← ho]; exact Nat.le_trans (colC_len _ _ _) (by rw [List.length_take]; omega)
   refine (show ∃ y,c[i]=y from ⟨_,rfl⟩).elim fun y hye=>?_
   rw [hye] at hx htk
   have hyc:encCl y=[D.i .i64 y.id,.i .i64 y.dim,encC y.b]:=rfl
   have hm1:(1:Nat)≤maxLen:=le_maxLen (by decide)
   by_cases h0:y.id=a
   ·have h0':((y.id != a):Bool)=false:=by simpa using h0
    have hkp:keepC a b y=false:=by unfold keepC; simp [h0]
    rw [hkp] at htk
    simp only [Bool.false_eq_true,if_false,List.append_nil] at htk
    have q3:(((a:Int) != (a:Int)):Bool)=false:=by simp
    simp (maxSteps:=1000000) [-map_map,-mapM_map,↓KW,encX,q1,hx,hyc,h0,h0',q3,hw,one_encC,cellsA_encC,inj1_encC]
    refine nxt_intro (τ:=Nat × List Cl) (i+1,out) ⟨hgo,htk⟩ (Nat.sub_lt_sub_left hgo (Nat.lt_succ_self _)) (wk_l [1,2] (by simp) ?_ ?_) <;> simp [-map_map,upd,inj1,Γ0,encX]
   ·have h0':((y.id != a):Bool)=true:=by simpa using h0
    by_cases h1:y.id=b
    ·have h1':((y.id != b):Bool)=false:=by simpa using h1
     have hkp:keepC a b y=false:=by unfold keepC; simp [h1]
     rw [hkp] at htk
     simp only [Bool.false_eq_true,if_false,List.append_nil] at htk
     have q3:(((b:Int) != (b:Int)):Bool)=false:=by simp
     rw [h1] at h0'
     simp (maxSteps:=1000000) [-map_map,-mapM_map,↓KW,encX,q1,hx,hyc,h1,h0',q3,hw,one_encC,cellsA_encC,inj1_encC]
     refine nxt_intro (τ:=Nat × List Cl) (i+1,out) ⟨hgo,htk⟩ (Nat.sub_lt_sub_left hgo (Nat.lt_succ_self _)) (wk_l [1,2] (by simp) ?_ ?_) <;> simp [-map_map,upd,inj1,Γ0,encX]
    ·have h1':((y.id != b):Bool)=true:=by simpa using h1
     have hkp:keepC a b y=true:=by unfold keepC; simp [h0,h1]
     rw [hkp,if_pos rfl] at htk
     have hbb:=app_bounds (n:=out.length) (by omega)
     have hcl:=flt_len encCl_len out
     have hal:=flt_all encCl_one out
     simp (maxSteps:=1000000) [-map_map,-mapM_map,↓KW,encX,q1,hx,hyc,h0,h0',h1,h1',hw,hm1,hbb,hcl,hal,le_maxLen,one_encC,cellsA_encC,inj1_encC]
     refine nxt_intro (τ:=Nat × List Cl) (i+1,out++[y]) ⟨hgo,htk⟩ (Nat.sub_lt_sub_left hgo (Nat.lt_succ_self _)) ?_
     simp only [List.length_append,List.length_singleton,flt_app,flt_one,encCl_eq]
     refine wk_l [1,4] (by simp) ?_ ?_ <;> simp [-map_map,upd,inj1,Γ0,encX]
  ·have q1:¬ (i:Int)<c.length:=by omega
   rw [List.take_of_length_le (by omega)] at ho
   have e1:=flt_take encCl_len (rfl:out.length=out.length)
   have e2:=flt_chunk (by decide) encCl_len (rfl:out.length=out.length)
   have e3:=flt_len encCl_len out
   simp (maxSteps:=1000000) [-map_map,-mapM_map,↓KW,encX,q1,e1,e2,e3,ho]
end Go.Am
end

section
set_option linter.unusedVariables false
set_option linter.unusedSimpArgs false
open List (map_map mapM_map)
open Go Go.Am Go.Proofs
namespace Go.Am
def repCl (n:Int) (y:Ch) (z:Cl):Cl:=if coefR z.b n=0 then z else ⟨z.id,z.dim,plM (coefR z.b n) z.b y⟩
def repC (c:List Cl) (n:Int) (y:Ch):List Cl:=c.map (repCl n y)
def repL (c:List Cl) (n:Int) (y:Ch) (i:Nat):List Cl:=(c.take i).map (repCl n y)++c.drop i
theorem coefR_bnd {x:Ch} {M:Nat} (h:Bnd M x) (n:Int):(coefR x n).natAbs≤M:=by
 unfold coefR
 cases e:x.find? fun f=>decide (f.1=n) with
 | none=>exact Nat.zero_le _
 | some f=>exact h f (List.mem_of_find?_eq_some e)
theorem sign_ne (n:Int):((n.sign != 0):Bool)=!decide (n=0):=by
 by_cases h:n=0
 ·subst h; rfl
 ·have:n.sign≠0:=fun e=>h (Int.sign_eq_zero_iff_zero.1 e)
  simp [this,h]
set_option maxHeartbeats 4000000 in
set_option maxRecDepth 10000 in
theorem r31replaced {c:List Cl} {e f:Nat} (n:Int) (y:Ch) (hz:SzX e c) (hy:Bnd (2 ^ f) y) (hyl:y.length≤1048576) (he:e+f+e+2<4398046511104):Spec Tryz.prog 40 [encX c,.i .i64 n,encC y] (encX (repC c n y)):=by
 have hlen:=hz.len
 refine spec_of (N:=42) follows_mixed Tryz.func40 rfl rfl rfl (by kernel_rfl) (by kernel_rfl) (by simp) ?_
 have hbb:c.length * 40≤140737488355328∧c.length≤maxLen:=⟨by omega,le_maxLen (by omega)⟩
 have hal:=eq_true (fun (a:D) (ha:a∈flt encCl c)=>List.all_eq_true.1 (flt_all encCl_one c) (.d a) (List.mem_map.2 ⟨a,ha,rfl⟩))
 have hff:=flt_flat encCl c
 have hok:=okHead_encX c
 simp (maxSteps:=1000000) [-map_map,-mapM_map,↓KW,encX,hbb,appC,hff,hok,hal]
 refine loopP_inv (fun i:Nat=>i≤c.length) (fun i=>StL [(0,.d (encX c)),(1,.d (.i .i64 n)),(2,.d (encC y)),(7,.own 1 0 c.length 3),(8,.d (.i .i64 (i:Int)))] none [.cells 47 ((flt encCl (repL c n y i)).map .d)]) (fun i=>c.length - i) 0 (Nat.zero_le _) ?_ ?_
 ·have e0:repL c n y 0=c:=rfl
  rw [e0]
  refine wk_l [2] (by simp) ?_ ?_ <;> simp [-map_map,upd,inj1,Γ0,encX,encC]
 ·intro i hi
  have hwl:(repL c n y i).length=c.length:=by unfold repL; rw [List.length_append,List.length_map,List.length_take,List.length_drop]; omega
  by_cases hgo:i<c.length
  ·have q1:(i:Int)<c.length:=by omega
   have hw:IntKind.i64.wrap ((i:Int)+1)=(i:Int)+1:=wrap_i64 (by omega) (by omega)
   have hx:(repL c n y i)[i]? = some c[i]:=by
    unfold repL
    rw [List.getElem?_append_right (by rw [List.length_map,List.length_take]; omega)]
    simp [List.length_take,Nat.min_eq_left hi,hgo]
   have hnx:repL c n y (i+1)=(repL c n y i).set i (repCl n y c[i]):=by
    unfold repL
    rw [List.take_add_one,List.getElem?_eq_getElem hgo,List.map_append,List.set_append_right _ _ (by rw [List.length_map,List.length_take]; omega),List.drop_eq_getElem_cons hgo,List.length_map,List.length_take,Nat.min_eq_left hi,Nat.sub_self,List.set_cons_zero]
    simp
   have hzl:=hz.bl _ (List.getElem_mem hgo)
   have hzb:=hz.bb _ (List.getElem_mem hgo)
   refine (show ∃ z,c[i]=z from ⟨_,rfl⟩).elim fun z hze=>?_
   rw [hze] at hx hnx hzl hzb
   refine (show ∃ L,repL c n y i=L from ⟨_,rfl⟩).elim fun L hLe=>?_
   rw [hLe] at hx hnx hwl
   simp only [hLe]
   have c2:(flt encCl L)[i * 3+2]? = some (encC z.b):=flt_at encCl_len L i 2 z hx (by decide)
   have hcl:=flt_len encCl_len L
   rw [hwl] at hcl
   have hCo:=r31Coef (x:=z.b) n (by omega)
   have hcb:=coefR_bnd hzb n
   have hPl:=r25Plus (k:=coefR z.b n) hzb hy hcb (by omega) (by omega) (by omega) hyl
   have hSg:=r01SignZ (coefR z.b n)
   have hsn:=sign_ne (coefR z.b n)
   have hli:i * 3+2+1≤c.length * 3:=by omega
   refine (show ∃ k,coefR z.b n=k from ⟨_,rfl⟩).elim fun k hke=>?_
   have hrc:repCl n y z=if k=0 then z else ⟨z.id,z.dim,plM k z.b y⟩:=by unfold repCl; rw [hke]
   rw [hke] at hCo hPl hSg hsn
   rw [hrc] at hnx
   simp (maxSteps:=1000000) [-map_map,-mapM_map,↓KW,encX,q1,c2,hcl,one_encC,cellsA_encC,inj1_encC]
   refine callP_intro (ds:=[encC z.b,.i .i64 n]) (by rfl) hCo ?_
   simp (maxSteps:=1000000) [-map_map,-mapM_map,↓KW,encX,encZ_eq,q1,c2,hcl,one_encC,cellsA_encC,inj1_encC,one_encM,cellsA_encM,inj1_encM]
   refine callP_intro (ds:=[encZ k]) (by rfl) hSg ?_
   by_cases h0:k=0
   ·rw [if_pos h0] at hnx
    rw [decide_eq_true h0] at hsn
    have hset:L.set i z=L:=by
     obtain ⟨h1,h2⟩:=List.getElem?_eq_some_iff.1 hx
     rw [← h2]; exact List.set_getElem_self h1
    rw [hset] at hnx
    have hsn':((k.sign != 0):Bool)=false:=hsn
    simp (maxSteps:=1000000) [-map_map,-mapM_map,↓KW,encX,encZ_eq,hsn',hw,one_encC,cellsA_encC,inj1_encC,one_encM,cellsA_encM,inj1_encM]
    refine nxt_intro (i+1) hgo (Nat.sub_lt_sub_left hgo (Nat.lt_succ_self _)) ?_
    rw [hnx]
    refine wk_l [1] (by simp) ?_ ?_ <;> simp [-map_map,upd,inj1,Γ0,encX,encC]
   ·rw [if_neg h0] at hnx
    rw [decide_eq_false h0] at hsn
    have hst:lay ((flt encCl L).map AV.d) (i * 3+2) [.d (encC (plM k z.b y))]=(flt encCl (L.set i ⟨z.id,z.dim,plM k z.b y⟩)).map .d:=by
     rw [lay_one _ _ _ (by omega),flt_set encCl_len L i 2 z ⟨z.id,z.dim,plM k z.b y⟩ _ hx (by decide) rfl]
    have hsn':((k.sign != 0):Bool)=true:=hsn
    simp (maxSteps:=1000000) [-map_map,-mapM_map,↓KW,encX,encZ_eq,hsn',q1,c2,hcl,one_encC,cellsA_encC,inj1_encC,one_encM,cellsA_encM,inj1_encM]
    refine callP_intro (ds:=[encC z.b,encC y,encZ k]) (by rfl) hPl ?_
    simp (maxSteps:=1000000) [-map_map,-mapM_map,↓KW,encX,encZ_eq,hw,q1,c2,hcl,hst,hli,inj_encC,kills_encC,one_encC,cellsA_encC,inj1_encC,one_encM,cellsA_encM,inj1_encM]
    refine nxt_intro (i+1) hgo (Nat.sub_lt_sub_left hgo (Nat.lt_succ_self _)) ?_
    rw [hnx]
    refine wk_l [1] (by simp) ?_ ?_ <;> simp [-map_map,upd,inj1,Γ0,encX,encC]
  ·have q1:¬ (i:Int)<c.length:=by omega
   have hfin:repL c n y i=repC c n y:=by unfold repL repC; rw [List.take_of_length_le (by omega),List.drop_of_length_le (by omega),List.append_nil]
   rw [hfin] at hwl ⊢
   have e1:=flt_take encCl_len hwl
   have e2:=flt_chunk (by decide) encCl_len hwl
   have e3:=flt_len encCl_len (repC c n y)
   rw [hwl] at e3
   simp (maxSteps:=1000000) [-map_map,-mapM_map,↓KW,encX,q1,e1,e2,e3]
end Go.Am
end

section
set_option linter.unusedVariables false
set_option linter.unusedSimpArgs false
open List (map_map mapM_map)
open Go Go.Am Go.Proofs
namespace Go.Am
def encRs (r:List Cl × List (Int × Ch) × Int):D:=.ag [encX r.1,encMp r.2.1,.i .i64 r.2.2]
def ridX (c:List Cl) (a b:Int):List Cl × List (Int × Ch) × Int :=
 if (findX c a).isSome=false∨(findX c b).isSome=false then ([],[],250) else if dOf c a≠dOf c b then ([],[],260) else if a=b∨bOf c a≠bOf c b then ([],[],310)
 else (colC (repC c b (plM (-1) [(a,1)] [(b,1)])) b b,witX (mapX c []) b [(a,1)],0)
theorem repC_len (c:List Cl) (n:Int) (y:Ch):(repC c n y).length=c.length:=by unfold repC; rw [List.length_map]
theorem mapX_len (c:List Cl) (g:List (Int × Ch)):(mapX c g).length=c.length:=by unfold mapX; rw [List.length_map]
theorem inj_encX (c:List Cl):inj (encX c)=.d (encX c):=rfl
theorem kills_encX (H:Nat→Option HO) (avs:List AV) (c:List Cl):killsOf H avs (encX c)=viss H avs:=rfl
theorem one_encX (c:List Cl):one (AV.d (encX c))=true:=rfl
theorem one_encMp (c:List (Int × Ch)):one (AV.d (encMp c))=true:=rfl
theorem cellsA_encX (c:List Cl):cellsA (AV.d (encX c))=some [AV.d (encX c)]:=rfl
theorem cellsA_encMp (c:List (Int × Ch)):cellsA (AV.d (encMp c))=some [AV.d (encMp c)]:=rfl
theorem inj1_encX (c:List Cl):inj1 (encX c)=.d (encX c):=rfl
set_option maxHeartbeats 4000000 in
set_option maxRecDepth 10000 in
theorem r31Identify {c:List Cl} {e:Nat} (a b:Int) (hz:SzX e c) (he:e+e+4<4398046511104):Spec Tryz.prog 11 [encX c,.i .i64 a,.i .i64 b] (encRs (ridX c a b)):=by
 have hlen:=hz.len
 have hFa:=r25Find c a (by omega)
 have hFb:=r25Find c b (by omega)
 have hr:∃ p x q y,(findX c a).isSome=p∧(findX c a).getD noCl=x∧(findX c b).isSome=q∧(findX c b).getD noCl=y:=⟨_,_,_,_,rfl,rfl,rfl,rfl⟩
 obtain ⟨p,x,q,y,hp,hx,hq,hy⟩:=hr
 have hda:dOf c a=x.dim:=by unfold dOf; rw [hx]
 have hdb:dOf c b=y.dim:=by unfold dOf; rw [hy]
 have hba:bOf c a=x.b:=by unfold bOf; rw [hx]
 have hbb:bOf c b=y.b:=by unfold bOf; rw [hy]
 have hxl:x.b.length≤100:=by rw [← hba]; exact bOf_len hz.bl a
 have hyl:y.b.length≤100:=by rw [← hbb]; exact bOf_len hz.bl b
 have hxs:∀ f∈x.b,Sz f.2:=by rw [← hba]; exact (bOf_bnd hz.bb a).sz (by omega)
 have hys:∀ f∈y.b,Sz f.2:=by rw [← hbb]; exact (bOf_bnd hz.bb b).sz (by omega)
 have hE:=r25SameChain x.b y.b hxs hys (by omega) (by omega)
 unfold fndD at hFa hFb
 rw [hp,hx] at hFa
 rw [hq,hy] at hFb
 have hO1:=r31one a
 have hO2:=r31one b
 have hOf:=r01Of (-1) (by decide) (by decide)
 have hPl:=r25Plus (k:=-1) (e:=0) (f:=0) (g:=0) (a:=[(a,1)]) (b:=[(b,1)]) (Bnd.one (Nat.le_refl 1)) (Bnd.one (Nat.le_refl 1)) (by decide) (by omega) (by omega) (by simp) (by simp)
 have hmv:∃ mv,plM (-1) [(a,1)] [(b,1)]=mv:=⟨_,rfl⟩
 obtain ⟨mv,hmv⟩:=hmv
 have hmb:Bnd (2 ^ 0) mv∧mv.length≤1048576:=by
  rw [← hmv]
  have h1:∀ l:Ch,(∀ f∈l,f.2.natAbs≤1)→Bnd (2 ^ 0) l:=fun l h=>h
  by_cases h2:a<b
  ·have e:plM (-1) [(a,1)] [(b,1)]=[(a,1),(b,-1)]:=by simp [plM,nzF,h2]
   rw [e]; exact ⟨h1 _ (by simp),by simp⟩
  ·by_cases h3:b<a
   ·have e:plM (-1) [(a,1)] [(b,1)]=[(b,-1),(a,1)]:=by simp [plM,nzF,h2,h3]
    rw [e]; exact ⟨h1 _ (by simp),by simp⟩
   ·have e:plM (-1) [(a,1)] [(b,1)]=[]:=by simp [plM,nzF,h2,h3]
    rw [e]; exact ⟨h1 _ (by simp),by simp⟩
 unfold ridX
 rw [hp,hq,hda,hdb,hba,hbb,hmv]
 rw [hmv] at hPl
 have hRp:=r31replaced b mv hz hmb.1 hmb.2 (by omega)
 have hWo:=r31without (c:=repC c b mv) b b (by rw [repC_len]; omega)
 have hIt:=r31Itself (c:=c) (by omega)
 have hWi:=r31With (m:=mapX c []) b [(a,1)] (by rw [mapX_len]; omega)
 refine spec_of (N:=70) follows_mixed Tryz.func11 rfl rfl rfl (by kernel_rfl) (by kernel_rfl) (by simp) ?_
 simp (maxSteps:=1000000) [-map_map,-mapM_map,↓KW,encX]
 refine callP_intro (ds:=[encX c,.i .i64 a]) (by rfl) hFa ?_
 simp (maxSteps:=1000000) [-map_map,-mapM_map,↓KW,encX,encCl_eq,one_encC,cellsA_encC,inj1_encC]
 refine callP_intro (ds:=[encX c,.i .i64 b]) (by rfl) hFb ?_
 cases p with
 | false=>simp (maxSteps:=1000000) [-map_map,-mapM_map,↓KW,encX,encCl_eq,one_encC,cellsA_encC,inj1_encC,encRs,encMp]
 | true =>
  cases q with
  | false=>simp (maxSteps:=1000000) [-map_map,-mapM_map,↓KW,encX,encCl_eq,one_encC,cellsA_encC,inj1_encC,encRs,encMp]
  | true =>
   by_cases h1:x.dim=y.dim
   rotate_left
   ·have h1':((x.dim != y.dim):Bool)=true:=by simpa using h1
    simp (maxSteps:=1000000) [-map_map,-mapM_map,↓KW,encX,encCl_eq,one_encC,cellsA_encC,inj1_encC,encRs,encMp,h1',h1]
   ·have h1':((x.dim != y.dim):Bool)=false:=by simpa using h1
    by_cases h2:a=b
    ·have h2':((a == b):Bool)=true:=by simpa using h2
     simp (maxSteps:=1000000) [-map_map,-mapM_map,↓KW,encX,encCl_eq,one_encC,cellsA_encC,inj1_encC,encRs,encMp,h1',h1,h2',h2]
    ·have h2':((a == b):Bool)=false:=by simpa using h2
     simp (maxSteps:=1000000) [-map_map,-mapM_map,↓KW,encX,encCl_eq,one_encC,cellsA_encC,inj1_encC,h1',h1,h2',h2]
     refine callP_intro (ds:=[encC x.b,encC y.b]) (by rfl) hE ?_
     by_cases h3:x.b=y.b
     rotate_left
     ·rw [decide_eq_false h3]
      simp (maxSteps:=1000000) [-map_map,-mapM_map,↓KW,encX,encCl_eq,one_encC,cellsA_encC,inj1_encC,encRs,encMp,h1',h1,h2',h2,h3]
     ·rw [decide_eq_true h3]
      simp (maxSteps:=1000000) [-map_map,-mapM_map,↓KW,encX,encCl_eq,one_encC,cellsA_encC,inj1_encC,h1',h1,h2',h2,h3]
      refine callP_intro (ds:=[.i .i64 a]) (by rfl) hO1 ?_
      simp (maxSteps:=1000000) [-map_map,-mapM_map,↓KW,encX,encZ_eq,one_encM,cellsA_encM,inj1_encM,inj_encM,inj_encC,kills_encC,one_encC,cellsA_encC,inj1_encC]
      refine callP_intro (ds:=[.i .i64 b]) (by rfl) hO2 ?_
      simp (maxSteps:=1000000) [-map_map,-mapM_map,↓KW,encX,encZ_eq,one_encM,cellsA_encM,inj1_encM,inj_encM,inj_encC,kills_encC,one_encC,cellsA_encC,inj1_encC]
      refine callP_intro (ds:=[.i .i64 (-1)]) (by rfl) hOf ?_
      simp (maxSteps:=1000000) [-map_map,-mapM_map,↓KW,encX,encZ_eq,one_encM,cellsA_encM,inj1_encM,inj_encM,inj_encC,kills_encC,one_encC,cellsA_encC,inj1_encC]
      refine callP_intro (ds:=[encC [(a,1)],encC [(b,1)],encZ (-1)]) (by rfl) hPl ?_
      simp (maxSteps:=1000000) [-map_map,-mapM_map,↓KW,encX,encZ_eq,one_encM,cellsA_encM,inj1_encM,inj_encM,inj_encC,kills_encC,one_encC,cellsA_encC,inj1_encC]
      refine callP_intro (ds:=[encX c,.i .i64 b,encC mv]) (by rfl) hRp ?_
      simp (maxSteps:=1000000) [-map_map,-mapM_map,↓KW,encX,encZ_eq,one_encM,cellsA_encM,inj1_encM,inj_encM,inj_encC,kills_encC,one_encC,cellsA_encC,inj1_encC,inj_encX,kills_encX]
      refine callP_intro (ds:=[encX (repC c b mv),.ag [.i .i64 b,.i .i64 b]]) (by rfl) hWo ?_
      simp (maxSteps:=1000000) [-map_map,-mapM_map,↓KW,encX,encZ_eq,one_encM,cellsA_encM,inj1_encM,inj_encM,inj_encC,kills_encC,one_encC,cellsA_encC,inj1_encC,inj_encX,kills_encX]
      refine callP_intro (ds:=[encX c]) (by rfl) hIt ?_
      simp (maxSteps:=1000000) [-map_map,-mapM_map,↓KW,encX,encZ_eq,one_encM,cellsA_encM,inj1_encM,inj_encM,inj_encC,kills_encC,one_encC,cellsA_encC,inj1_encC,inj_encX,kills_encX,inj_encMp,kills_encMp]
      refine callP_intro (ds:=[.i .i64 a]) (by rfl) hO1 ?_
      simp (maxSteps:=1000000) [-map_map,-mapM_map,↓KW,encX,encZ_eq,one_encM,cellsA_encM,inj1_encM,inj_encM,inj_encC,kills_encC,one_encC,cellsA_encC,inj1_encC,inj_encX,kills_encX,inj_encMp,kills_encMp]
      refine callP_intro (ds:=[encMp (mapX c []),.i .i64 b,encC [(a,1)]]) (by rfl) hWi ?_
      simp (maxSteps:=1000000) [-map_map,-mapM_map,↓KW,encX,encZ_eq,one_encM,cellsA_encM,inj1_encM,inj_encM,inj_encC,kills_encC,one_encC,cellsA_encC,inj1_encC,inj_encX,kills_encX,inj_encMp,kills_encMp,one_encX,one_encMp,cellsA_encX,cellsA_encMp,encRs,h1,h2,h3]
set_option maxHeartbeats 2000000 in
set_option maxRecDepth 10000 in
theorem r31SameMap {a b:List (Int × Ch)} (ha:∀ x∈a,∀ f∈x.2,Sz f.2) (hb:∀ x∈b,∀ f∈x.2,Sz f.2) (hla:∀ x∈a,x.2.length≤1073741824) (hlb:∀ x∈b,x.2.length≤1073741824) (hl:a.length≤1073741824) (hl2:b.length≤1073741824):Spec Tryz.prog 49 [encMp a,encMp b] (.b (decide (a=b))):=by
 refine spec_of (N:=42) follows_mixed Tryz.func49 rfl rfl rfl (by kernel_rfl) (by kernel_rfl) (by simp) ?_
 by_cases hn:a.length=b.length
 rotate_left
 ·have h1:((a.length:Int) != b.length)=true:=by simp; omega
  have h2:¬ a=b:=fun e=>hn (by rw [e])
  simp (maxSteps:=1000000) [-map_map,-mapM_map,↓KW,encMp,h1,h2]
 ·have h1:((a.length:Int) != b.length)=false:=by simp; omega
  simp (maxSteps:=1000000) [-map_map,-mapM_map,↓KW,encMp,h1]
  refine loopP_inv (fun i:Nat=>i≤a.length∧a.take i=b.take i) (fun i=>StL [(0,.d (encMp a)),(1,.d (encMp b)),(5,.d (.i .i64 i))] none []) (fun i=>a.length - i) 0 ⟨Nat.zero_le _,by simp⟩ ?_ ?_
  ·refine wk_l [] (by simp) ?_ ?_ <;> simp [-map_map,upd,inj1,Γ0,encMp]
  ·rintro i ⟨hi,ht⟩
   by_cases hgo:i<a.length
   ·have hgb:i<b.length:=by omega
    have q1:(i:Int)<a.length:=by omega
    have hw7:IntKind.i64.wrap ((i:Int)+1)=(i:Int)+1:=wrap_i64 (by omega) (by omega)
    have g1:a[i]? = some a[i]:=List.getElem?_eq_getElem hgo
    have g2:b[i]? = some b[i]:=List.getElem?_eq_getElem hgb
    have hsx:=ha _ (List.getElem_mem hgo)
    have hsy:=hb _ (List.getElem_mem hgb)
    have hlx:=hla _ (List.getElem_mem hgo)
    have hly:=hlb _ (List.getElem_mem hgb)
    have hne:a[i]≠b[i]→¬ a=b:=fun h e=>h (by subst e; rfl)
    have hta:a[i]=b[i]→a.take (i+1)=b.take (i+1):=fun e=>by rw [List.take_add_one,List.take_add_one,ht,g1,g2,e]
    generalize a[i]=x at *
    generalize b[i]=y at *
    obtain ⟨xi,xb⟩:=x
    obtain ⟨yi,yb⟩:=y
    simp only at hsx hsy hlx hly
    by_cases h2:xi=yi
    ·have h3:(xi != yi)=false:=by simpa using h2
     simp (maxSteps:=1000000) [-map_map,-mapM_map,↓KW,encMp,q1,g1,g2,h3,encIm,one_encC,cellsA_encC,inj1_encC]
     refine callP_intro (ds:=[encC xb,encC yb]) (by rfl) (r25SameChain xb yb hsx hsy hlx hly) ?_
     by_cases h4:xb=yb
     ·have h5:=hta (by rw [h2,h4])
      simp (maxSteps:=1000000) [-map_map,-mapM_map,↓KW,h4,hw7]
      refine nxt_intro (i+1) ⟨hgo,h5⟩ (Nat.sub_lt_sub_left hgo (Nat.lt_succ_self i)) (wk_l [] (by simp) ?_ ?_) <;> simp [-map_map,upd,inj1,Γ0,encMp]
     ·have h5:=hne (fun e=>h4 (by injection e))
      simp (maxSteps:=1000000) [-map_map,-mapM_map,↓KW,h4,h5]
    ·have h3:(xi != yi)=true:=by simpa using h2
     have h5:=hne (fun e=>h2 (by injection e))
     simp (maxSteps:=1000000) [-map_map,-mapM_map,↓KW,encMp,q1,g1,g2,h3,h5,encIm,one_encC,cellsA_encC,inj1_encC]
   ·have q1:¬ (i:Int)<a.length:=by omega
    have e:a=b:=by rwa [List.take_of_length_le (by omega),List.take_of_length_le (by omega)] at ht
    subst e
    simp (maxSteps:=1000000) [-map_map,-mapM_map,↓KW,encMp,q1]
structure CmpR (c:List Cl) (m:List (Int × Ch)):Prop where
 cs:∀ x∈c,∀ f∈x.b,Sz f.2
 cl:∀ x∈c,x.b.length≤1073741824
 cn:c.length≤1073741824
 ms:∀ x∈m,∀ f∈x.2,Sz f.2
 ml:∀ x∈m,x.2.length≤1073741824
 mn:m.length≤1073741824
set_option maxHeartbeats 1000000 in
theorem r31Is {r:List Cl × List (Int × Ch) × Int} {c:List Cl} {m:List (Int × Ch)} (hr:CmpR r.1 r.2.1) (hc:CmpR c m):Spec Tryz.prog 13 [encRs r,encX c,encMp m] (.b (decide (r.1=c) && decide (r.2.1=m))):=by
 refine spec_of (N:=17) follows_mixed Tryz.func13 rfl rfl rfl (by kernel_rfl) (by kernel_rfl) (by simp) ?_
 have hS:=r25Same hr.cs hc.cs hr.cl hc.cl hr.cn hc.cn
 have hM:=r31SameMap hr.ms hc.ms hr.ml hc.ml hr.mn hc.mn
 obtain ⟨r1,r2,r3⟩:=r
 simp only at hS hM ⊢
 have he:encRs (r1,r2,r3)=.ag [encX r1,encMp r2,.i .i64 r3]:=rfl
 rw [he]
 simp (maxSteps:=1000000) [-map_map,-mapM_map,↓KW,one_encX,one_encMp,cellsA_encX,cellsA_encMp,inj1_encX,inj1_encMp]
 refine callP_intro (ds:=[encX r1,encX c]) (by rfl) hS ?_
 by_cases h:r1=c
 ·rw [decide_eq_true h]
  simp (maxSteps:=1000000) [-map_map,-mapM_map,↓KW,one_encX,one_encMp,cellsA_encX,cellsA_encMp,inj1_encX,inj1_encMp,h]
  refine callP_intro (ds:=[encMp r2,encMp m]) (by rfl) hM ?_
  simp (maxSteps:=1000000) [-map_map,-mapM_map,↓KW,h]
 ·rw [decide_eq_false h]
  simp (maxSteps:=1000000) [-map_map,-mapM_map,↓KW,one_encX,one_encMp,cellsA_encX,cellsA_encMp,inj1_encX,inj1_encMp,h]
def knX (c:List Cl):List Int:=c.map Cl.id++[99]
def encId1 (n:Int):List D:=[.i .i64 n]
theorem encId1_len (n:Int):(encId1 n).length=1:=rfl
theorem encId1_one (n:Int):((encId1 n).map AV.d).all one=true:=rfl
set_option maxHeartbeats 2000000 in
set_option maxRecDepth 10000 in
theorem lawKnown {c:List Cl} (hl:c.length≤1000000):Spec Tryz.prog 10 [encX c] (encIds (knX c)):=by
 refine spec_of (N:=23) follows_mixed Tryz.func10 rfl rfl rfl (by kernel_rfl) (by kernel_rfl) (by simp) ?_
 simp (maxSteps:=1000000) [-map_map,-mapM_map,↓KW,encX]
 refine loopP_inv (fun i:Nat=>i≤c.length) (fun i=>StL [(0,.d (encX c)),(3,.own 1 0 i 1),(4,.d (.i .i64 (i:Int)))] none [.cells 3 ((flt encId1 ((c.take i).map Cl.id)).map .d)]) (fun i=>c.length - i) 0 (Nat.zero_le _) ?_ ?_
 ·refine wk_l [1] (by simp) ?_ ?_ <;> simp [-map_map,upd,inj1,Γ0,encX,flt_nil]
 ·intro i hi
  by_cases hgo:i<c.length
  ·have q1:(i:Int)<c.length:=by omega
   have hx:c[i]? = some c[i]:=List.getElem?_eq_getElem hgo
   have hw:IntKind.i64.wrap ((i:Int)+1)=(i:Int)+1:=wrap_i64 (by omega) (by omega)
   have htk:(c.take (i+1)).map Cl.id=(c.take i).map Cl.id++[c[i].id]:=by rw [List.take_add_one,hx,List.map_append]; rfl
   have hil:((c.take i).map Cl.id).length=i:=by rw [List.length_map,List.length_take]; omega
   refine (show ∃ x,c[i]=x from ⟨_,rfl⟩).elim fun x hxe=>?_
   rw [hxe] at hx htk
   refine (show ∃ L,(c.take i).map Cl.id=L from ⟨_,rfl⟩).elim fun L hLe=>?_
   rw [hLe] at htk hil
   simp only [hLe]
   have hyc:encCl x=[D.i .i64 x.id,.i .i64 x.dim,encC x.b]:=rfl
   have hcl:=flt_len encId1_len L
   rw [hil] at hcl
   have hal:=flt_all encId1_one L
   have hbb:=app_bounds2 (n:=i) (by omega)
   have hb8:(i+1) * 8≤140737488355328:=by omega
   have hm1:(1:Nat)≤maxLen:=le_maxLen (by decide)
   simp (maxSteps:=1000000) [-map_map,-mapM_map,↓KW,encX,q1,hx,hyc,hw,hcl,hal,hbb,hb8,hm1,le_maxLen,one_encC,cellsA_encC,inj1_encC]
   refine nxt_intro (i+1) hgo (Nat.sub_lt_sub_left hgo (Nat.lt_succ_self _)) ?_
   rw [htk,flt_app,flt_one]
   refine wk_l [3] (by simp) ?_ ?_ <;> simp [-map_map,upd,inj1,Γ0,encX,encId1]
  ·have q1:¬ (i:Int)<c.length:=by omega
   obtain rfl:i=c.length:=by omega
   rw [List.take_of_length_le (by omega)]
   have hil:(c.map Cl.id).length=c.length:=List.length_map _
   have hk:flt encId1 (knX c)=flt encId1 (c.map Cl.id)++[D.i .i64 99]:=by unfold knX; rw [flt_app,flt_one]; rfl
   have hkl:(knX c).length=c.length+1:=by unfold knX; rw [List.length_append,hil]; rfl
   refine (show ∃ L,c.map Cl.id=L from ⟨_,rfl⟩).elim fun L hLe=>?_
   rw [hLe] at hk hil
   simp only [hLe]
   have hcl:=flt_len encId1_len L
   rw [hil] at hcl
   have hal:=flt_all encId1_one L
   have hb8:(c.length+1) * 8≤140737488355328:=by omega
   have hm1:(1:Nat)≤maxLen:=le_maxLen (by decide)
   have hm2:c.length+1≤maxLen:=le_maxLen (by omega)
   have hce:∀ l:List D,l.map AV.d++[AV.d (D.i .i64 99)]=(l++[D.i .i64 99]).map AV.d:=fun l=>by simp
   have e1:=flt_take encId1_len hkl
   rw [Nat.mul_one] at e1
   have e2:=flt_chunk (by decide) encId1_len hkl
   have e3:=flt_len encId1_len (knX c)
   rw [hkl,Nat.mul_one] at e3
   have hen:encIds (knX c)=.sl ((knX c).map encId1):=rfl
   rw [hen]
   simp (maxSteps:=1000000) [-map_map,-mapM_map,↓KW,encX,q1,hcl,hal,hb8,hm1,hm2,hce,← hk,e1,e2,e3]
end Go.Am
end

section
set_option linter.unusedVariables false
set_option linter.unusedSimpArgs false
open Go Go.Am Go.Proofs
namespace Go.Am
theorem cf_ren {a b:Int} (h:a≠b) (n:Int):∀ l:Ch,cf n (l.map (renF a b))=if n=b then 0 else cf n l+if n=a then cf b l else 0
 | []=>by simp [cf]
 | f::l=>by
  rw [List.map_cons]
  simp only [cf]
  rw [cf_ren h n l]
  unfold renF
  by_cases h1:f.1=b
  ·rw [if_pos h1]
   by_cases h2:n=b
   ·have h3:¬ n=a:=fun e=>h (e.symm.trans h2)
    rw [if_pos h2,if_pos h2,if_neg h3]; simp
   ·have h3:¬ n=f.1:=fun e=>h2 (e.trans h1)
    rw [if_neg h2,if_neg h2,if_neg h3]
    by_cases h4:n=a
    ·rw [if_pos h4,if_pos h4,if_pos h4,if_pos h1.symm]; omega
    ·rw [if_neg h4,if_neg h4,if_neg h4]; omega
  ·rw [if_neg h1]
   by_cases h2:n=b
   ·have h3:¬ n=f.1:=fun e=>h1 (e.symm.trans h2)
    rw [if_pos h2,if_pos h2,if_neg h3]; simp
   ·rw [if_neg h2,if_neg h2]
    have h5:¬ b=f.1:=fun e=>h1 e.symm
    rw [if_neg h5]
    by_cases h4:n=a
    ·rw [if_pos h4,if_pos h4]; omega
    ·rw [if_neg h4,if_neg h4]; omega
theorem coefR_cf {l:Ch} (h:Val l) (n:Int):coefR l n=cf n l:=by
 induction l with
 | nil=>rfl
 | cons f l ih =>
  obtain ⟨h1,h2,_⟩:=h.tail
  unfold coefR
  rw [List.find?_cons]
  simp only [cf]
  by_cases e:f.1=n
  ·have h0:cf n l=0:=by
    rw [cf_getM h1,← cf_getM h1]
    have:∀ (l:Ch),(∀ x∈l,x.1≠n)→cf n l=0:=by
     intro l
     induction l with
     | nil=>intro _; rfl
     | cons x l ih=>intro hh; simp only [cf]; rw [if_neg (fun e=>hh x (List.mem_cons_self ..) e.symm),ih fun y hy=>hh y (List.mem_cons_of_mem _ hy)]; rfl
    refine this l fun x hx=>?_
    have:=(List.pairwise_cons.1 h.1).1 x hx
    omega
   simp [e,h0]
  ·have e':¬ n=f.1:=fun x=>e x.symm
   rw [if_neg e']
   simp only [e,decide_false,Bool.false_eq_true,if_false,Int.zero_add]
   exact ih h1
theorem rep_idn {a b:Int} (h:a≠b) {z:Cl} (hz:Val z.b) (hn:z.id≠b):repCl b (plM (-1) [(a,1)] [(b,1)]) z=idnCl a b z:=by
 have va:Val [(a,(1:Int))]:=⟨List.pairwise_singleton _ _,fun y hy=>by rw [List.mem_singleton.1 hy]; simp⟩
 have vb:Val [(b,(1:Int))]:=⟨List.pairwise_singleton _ _,fun y hy=>by rw [List.mem_singleton.1 hy]; simp⟩
 have vm:=plM_val (-1) va vb
 obtain ⟨h1,h2⟩:=addR_val (z.b.map (renF a b)) [] Val.nil
 unfold repCl idnCl
 have hc:=coefR_cf hz b
 by_cases h0:coefR z.b b=0
 ·rw [if_pos h0]
  rw [h0] at hc
  have:z.b=addR [] (z.b.map (renF a b)):=hz.ext h1 fun n=>by
   rw [h2,getM_nil,cf_ren h,← cf_getM hz,← hc]
   by_cases e:n=b
   ·rw [if_pos e,e,← hc]; simp
   ·rw [if_neg e]; simp
  rw [← this]
 ·rw [if_neg h0]
  congr 1
  have vp:=plM_val (coefR z.b b) hz vm
  refine vp.ext h1 fun n=>?_
  rw [h2,getM_nil,← cf_getM vp,cf_plM,cf_plM,cf_ren h,hc]
  simp only [cf]
  by_cases e:n=b
  ·have e2:¬ n=a:=fun x=>h (x.symm.trans e)
   rw [if_pos e,if_neg e2,if_pos e,e]
   omega
  ·rw [if_neg e,if_neg e]
   by_cases e2:n=a
   ·rw [if_pos e2,if_pos e2]; omega
   ·rw [if_neg e2,if_neg e2]; omega
theorem ridX_eq {c:List Cl} (hc:CxV c) (a b:Int):ridX c a b=idnX c a b:=by
 unfold ridX idnX
 split
 ·rfl
 ·split
  ·rfl
  ·split
   ·rfl
   ·rename_i h
    have hab:a≠b:=fun e=>h (.inl e)
    have e1:colC (repC c b (plM (-1) [(a,1)] [(b,1)])) b b=idnC c a b:=by
     unfold colC repC idnC
     rw [List.filter_map]
     have e2:((keepC b b) ∘ repCl b (plM (-1) [(a,1)] [(b,1)]))=fun z:Cl=>!decide (z.id=b):=by
      funext z
      have:(repCl b (plM (-1) [(a,1)] [(b,1)]) z).id=z.id:=by unfold repCl; split <;> rfl
      simp only [Function.comp,keepC,this,Bool.and_self]
     rw [e2]
     refine List.map_congr_left fun z hz=>?_
     obtain ⟨h1,h2⟩:=List.mem_filter.1 hz
     exact rep_idn hab (hc.val z h1) (by simpa using h2)
    have e3:witX (mapX c []) b [(a,1)]=mapX c [(b,[(a,1)])]:=by
     unfold witX mapX
     rw [List.map_map]
     refine List.map_congr_left fun z _=>?_
     simp only [Function.comp,getG]
     by_cases e:z.id=b
     ·simp [e]
     ·have e':¬ b=z.id:=fun x=>e x.symm
      simp [e,e']
    rw [e1,e3]
theorem idn_cases (c:List Cl) (hc:CxV c) (a b:Int):(∃ n,n≠0∧idnX c a b=([],[],n))∨(TwoC c a b∧idnX c a b=(idnC c a b,mapX c [(b,[(a,1)])],0)):=by
 unfold idnX
 split
 ·exact .inl ⟨250,by decide,rfl⟩
 ·rename_i h1
  split
  ·exact .inl ⟨260,by decide,rfl⟩
  ·rename_i h2
   split
   ·exact .inl ⟨310,by decide,rfl⟩
   ·rename_i h3
    refine .inr ⟨⟨fun e=>h3 (.inl e),?_,?_,?_,?_⟩,rfl⟩
    ·cases e:findX c a with
     | none=>exact (h1 (.inl (by rw [e]; rfl))).elim
     | some x=>exact ⟨x,findX_some e⟩
    ·cases e:findX c b with
     | none=>exact (h1 (.inr (by rw [e]; rfl))).elim
     | some x=>exact ⟨x,findX_some e⟩
    ·exact Classical.byContradiction fun e=>h2 e
    ·exact Classical.byContradiction fun e=>h3 (.inr e)
theorem idnC_sz {c:List Cl} {F:Nat} (hz:SzX F c) (a b:Int):SzX (14+F) (idnC c a b):=by
 refine ⟨Nat.le_trans (idnC_len _ _ _) hz.len,fun z hz'=>?_,fun z hz'=>?_⟩
 ·obtain ⟨y,hy,_,rfl⟩:=idnC_mem.1 hz'
  have:=addR_len [] (y.b.map (renF a b))
  simp only [List.length_nil,Nat.zero_add,List.length_map] at this
  exact Nat.le_trans this (hz.bl y hy)
 ·obtain ⟨y,hy,_,rfl⟩:=idnC_mem.1 hz'
  have h1:=addR_bnd (y.b.map (renF a b)) [] (Bnd.nil 0) (renF_bnd (hz.bb y hy))
  simp only [Nat.zero_add,List.length_nil,Nat.zero_mul,List.length_map] at h1
  exact h1.mono (pw_len (Nat.le_trans (hz.bl y hy) (by decide)))
end Go.Am
end

section
set_option linter.unusedVariables false
set_option linter.unusedSimpArgs false
open List (map_map mapM_map)
open Go Go.Am Go.Proofs
namespace Go.Am
structure PairI (c:List Cl) (a b:Int) (r:List Cl × List (Int × Ch) × Int):Prop where
 ref:Spec Tryz.prog 11 [encX c,.i .i64 a,.i .i64 b] (encRs r)
 prg:Spec Tryz.prog 12 [encX c,.i .i64 a,.i .i64 b] (encR3 r)
 is:Spec Tryz.prog 13 [encRs r,encX r.1,encMp r.2.1] (.b true)
 ok:r.2.2=0→Spec Tryz.prog 14 [encX r.1] (.b true)∧Spec Tryz.prog 15 [encX c,encX r.1,encMp r.2.1] (.b true)
theorem MdX.keys {c:List Cl} (h:MdX c):∀ y∈c,Keys y.b:=keys_of h.v fun y hy=>by have:=h.ids y hy; omega
theorem pairI {c:List Cl} (hc:MdX c) (a b:Int) (ha:inr a=true):PairI c a b (idnX c a b):=by
 obtain ⟨F,hF,hz⟩:=hc.sz
 have hlen:=hc.len
 have h1:=r31Identify a b hz (by omega)
 rw [ridX_eq hc.v] at h1
 have h2:=mgIdentify (e:=F) a b hc.v.inc hz hc.keys ha (by omega)
 have hcmp:CmpR (idnX c a b).1 (idnX c a b).2.1∧((idnX c a b).2.2=0→Spec Tryz.prog 14 [encX (idnX c a b).1] (.b true)∧Spec Tryz.prog 15 [encX c,encX (idnX c a b).1,encMp (idnX c a b).2.1] (.b true)):=by
  rcases idn_cases c hc.v a b with ⟨n,hn,e⟩ | ⟨t,e⟩
  ·rw [e]
   exact ⟨⟨by simp,by simp,by simp,by simp,by simp,by simp⟩,fun h=>(hn h).elim⟩
  ·rw [e]
   have hz2:=idnC_sz hz a b
   have hM:=mapX_one_sz (c:=c) (a:=a) (b:=b) (h:=1) (by omega)
   refine ⟨⟨fun x hx=>(hz2.bb x hx).sz (by omega),fun x hx=>by have:=hz2.bl x hx; omega,by have:=hz2.len; simp only; omega,fun x hx=>(hM.bb x hx).sz (by omega),fun x hx=>by have:=hM.bl x hx; omega,by have:=hM.len; simp only; omega⟩,fun _=>?_⟩
   exact ⟨r25Valid (t.valid hc.v) hz2 (by omega),r31Commutes (t.comm hc.v) hz hz2 (t.valid hc.v).val hM (by omega) (by omega)⟩
 have h3:=r31Is (r:=idnX c a b) hcmp.1 hcmp.1
 rw [decide_eq_true rfl,decide_eq_true rfl] at h3
 exact ⟨h1,h2,h3,hcmp.2⟩
theorem knX_inr {c:List Cl} (h:MdX c):∀ n∈knX c,inr n=true:=fun n hn=>by
 unfold knX at hn
 rcases List.mem_append.1 hn with hn | hn
 ·obtain ⟨x,hx,rfl⟩:=List.mem_map.1 hn
  have:=h.ids x hx
  simp only [inr,decide_eq_true_eq]; omega
 ·rw [List.mem_singleton.1 hn]; decide
set_option maxHeartbeats 8000000 in
set_option maxRecDepth 10000 in
theorem lawIdn (s:Int) (q:List Q4) (hs:0≤s∧s≤255) (hq:∀ y∈q,y.ok) (hql:q.length≤9223372036854775807) (hS:Spec Tryz.prog 8 [] (.b true)) :
  Spec Tryz.prog 3 [encRaw s q] (.b true):=by
 obtain ⟨c,sM,hc⟩:=made_ex s q hs hq hql
 have hlen:=hc.len
 have hr:encRaw s q=.ag [.i .u8 s,.sl (q.map encQ)]:=rfl
 obtain ⟨F,hF,hz⟩:=hc.sz
 have hsz:∀ y∈c,∀ f∈y.b,Sz f.2:=fun y hy=>(hz.bb y hy).sz (by omega)
 have hbl2:∀ y∈c,y.b.length≤1073741824:=fun y hy=>by have:=hz.bl y hy; omega
 have sS:=r25Same hsz hsz hbl2 hbl2 (by omega) (by omega)
 rw [decide_eq_true (rfl:c=c)] at sS
 have hK:=lawKnown (c:=c) (by omega)
 have hkl:(knX c).length=c.length+1:=by unfold knX; rw [List.length_append,List.length_map]; rfl
 have hkr:=knX_inr hc
 have hP:∀ a b,inr a=true→PairI c a b (idnX c a b):=fun a b ha=>pairI hc a b ha
 generalize knX c=ids at *
 have hie:encIds ids=.sl (ids.map fun n=>[.i .i64 n]):=rfl
 clear hF hz hsz hbl2 hq hql
 refine spec_of (N:=85) follows_mixed Tryz.func3 rfl rfl rfl (by kernel_rfl) (by kernel_rfl) (by simp) ?_
 simp (maxSteps:=1000000) [-map_map,-mapM_map,↓KW,hr]
 refine callP_intro (ds:=[]) (by rfl) hS ?_
 simp (maxSteps:=1000000) [-map_map,-mapM_map,↓KW,hr]
 refine callP_intro (ds:=[encRaw s q]) (by rfl) sM ?_
 simp (maxSteps:=1000000) [-map_map,-mapM_map,↓KW,hr,inj_encX,kills_encX,one_encX,cellsA_encX,inj1_encX]
 refine callP_intro (ds:=[encX c]) (by rfl) hK ?_
 simp (maxSteps:=1000000) [-map_map,-mapM_map,↓KW,hr,inj_encX,kills_encX,one_encX,cellsA_encX,inj1_encX,hie]
 refine loopP_inv (fun i:Nat=>i≤ids.length) (fun i=>StL [(1,.ptr 1 0),(3,.d (.b true)),(4,.d (encX c)),(5,.d (encIds ids)),(6,.d (.i .i64 (i:Int)))] none [.cells 24 [.d (.i .u8 s),.d (.sl (q.map encQ))]]) (fun i=>ids.length - i) 0 (Nat.zero_le _) ?_ ?_
 ·refine wk_l [1] (by simp) ?_ ?_ <;> simp [-map_map,upd,inj1,Γ0,hie]
 ·intro i hi
  by_cases hgo:i<ids.length
  ·have q1:(i:Int)<ids.length:=by omega
   have hx:ids[i]? = some ids[i]:=List.getElem?_eq_getElem hgo
   have hw:IntKind.i64.wrap ((i:Int)+1)=(i:Int)+1:=wrap_i64 (by omega) (by omega)
   have har:=hkr _ (List.getElem_mem hgo)
   refine (show ∃ a,ids[i]=a from ⟨_,rfl⟩).elim fun a hae=>?_
   rw [hae] at hx har
   simp (maxSteps:=1000000) [-map_map,-mapM_map,↓KW,hie,q1,hx]
   refine loopP_inv (fun k:Nat=>k≤ids.length) (fun k=>StL [(1,.ptr 1 0),(3,.d (.b true)),(4,.d (encX c)),(5,.d (encIds ids)),(6,.d (.i .i64 (i:Int))),(7,.d (.i .i64 (k:Int)))] none [.cells 24 [.d (.i .u8 s),.d (.sl (q.map encQ))]]) (fun k=>ids.length - k) 0 (Nat.zero_le _) ?_ ?_
   ·refine wk_l [1] (by simp) ?_ ?_ <;> simp [-map_map,upd,inj1,Γ0,hie]
   ·intro k hk
    by_cases hgo2:k<ids.length
    ·have q2:(k:Int)<ids.length:=by omega
     have hy:ids[k]? = some ids[k]:=List.getElem?_eq_getElem hgo2
     have hw2:IntKind.i64.wrap ((k:Int)+1)=(k:Int)+1:=wrap_i64 (by omega) (by omega)
     refine (show ∃ b,ids[k]=b from ⟨_,rfl⟩).elim fun b hbe=>?_
     rw [hbe] at hy
     have hPr:=hP a b har
     refine (show ∃ r,idnX c a b=r from ⟨_,rfl⟩).elim fun r hre=>?_
     rw [hre] at hPr
     obtain ⟨p1,p2,p3,p4⟩:=hPr
     obtain ⟨r1,r2,r3⟩:=r
     simp only at p3 p4
     have e1:encRs (r1,r2,r3)=.ag [encX r1,encMp r2,.i .i64 r3]:=rfl
     have e2:encR3 (r1,r2,r3)=.tp [encX r1,encMp r2,.i .i64 r3]:=rfl
     rw [e1] at p1 p3
     rw [e2] at p2
     have q3:(((r3:Int) != (r3:Int)):Bool)=false:=by simp
     simp (maxSteps:=1000000) [-map_map,-mapM_map,↓KW,hie,q1,q2,hx,hy,one_encX,cellsA_encX,inj1_encX]
     refine callP_intro (ds:=[encX c,.i .i64 a,.i .i64 b]) (by rfl) p1 ?_
     simp (maxSteps:=1000000) [-map_map,-mapM_map,↓KW,hie,q1,q2,hx,hy,one_encX,cellsA_encX,inj1_encX,one_encMp,cellsA_encMp,inj1_encMp]
     refine callP_intro (ds:=[encX c,.i .i64 a,.i .i64 b]) (by rfl) p2 ?_
     simp (maxSteps:=1000000) [-map_map,-mapM_map,↓KW,hie,q1,q2,hx,hy,q3,one_encX,cellsA_encX,inj1_encX,one_encMp,cellsA_encMp,inj1_encMp]
     refine callP_intro (ds:=[.ag [encX r1,encMp r2,.i .i64 r3],encX r1,encMp r2]) (by rfl) p3 ?_
     by_cases h0:r3=0
     ·obtain ⟨s1,s2⟩:=p4 h0
      have h0':((r3 == 0):Bool)=true:=by simpa using h0
      simp (maxSteps:=1000000) [-map_map,-mapM_map,↓KW,hie,h0',one_encX,cellsA_encX,inj1_encX,one_encMp,cellsA_encMp,inj1_encMp]
      refine callP_intro (ds:=[encX r1]) (by rfl) s1 ?_
      simp (maxSteps:=1000000) [-map_map,-mapM_map,↓KW,hie,h0',one_encX,cellsA_encX,inj1_encX,one_encMp,cellsA_encMp,inj1_encMp]
      refine callP_intro (ds:=[encX c,encX r1,encMp r2]) (by rfl) s2 ?_
      simp (maxSteps:=1000000) [-map_map,-mapM_map,↓KW,hie,hw2,h0',one_encX,cellsA_encX,inj1_encX,one_encMp,cellsA_encMp,inj1_encMp]
      refine nxt_intro (k+1) hgo2 (Nat.sub_lt_sub_left hgo2 (Nat.lt_succ_self _)) (wk_l [1] (by simp) ?_ ?_) <;> simp [-map_map,upd,inj1,Γ0,hie]
     ·have h0':((r3 == 0):Bool)=false:=by simpa using h0
      simp (maxSteps:=1000000) [-map_map,-mapM_map,↓KW,hie,hw2,h0',one_encX,cellsA_encX,inj1_encX,one_encMp,cellsA_encMp,inj1_encMp]
      refine nxt_intro (k+1) hgo2 (Nat.sub_lt_sub_left hgo2 (Nat.lt_succ_self _)) (wk_l [1] (by simp) ?_ ?_) <;> simp [-map_map,upd,inj1,Γ0,hie]
    ·have q2:¬ (k:Int)<ids.length:=by omega
     simp (maxSteps:=1000000) [-map_map,-mapM_map,↓KW,hie,q2,hw]
     refine nxt_intro (i+1) hgo (Nat.sub_lt_sub_left hgo (Nat.lt_succ_self _)) (wk_l [1] (by simp) ?_ ?_) <;> simp [-map_map,upd,inj1,Γ0,hie]
  ·have q1:¬ (i:Int)<ids.length:=by omega
   simp (maxSteps:=1000000) [-map_map,-mapM_map,↓KW,hie,q1,one_encX,cellsA_encX,inj1_encX]
   refine callP_intro (ds:=[encRaw s q]) (by rfl) sM ?_
   simp (maxSteps:=1000000) [-map_map,-mapM_map,↓KW,hie,one_encX,cellsA_encX,inj1_encX,inj_encX,kills_encX]
   refine callP_intro (ds:=[encX c,encX c]) (by rfl) sS ?_
   simp (maxSteps:=1000000) [-map_map,-mapM_map,↓KW,hie]
end Go.Am
end

section
set_option linter.unusedVariables false
set_option linter.unusedSimpArgs false
namespace Go.Proofs
open Go.RowKit Go.Lib Go.Sort Go.Shelf
def Tryz.sortC_ren:Go.Shelf.Ren:=⟨fun | 14=>105 | 20=>130 | 21=>131 | 22=>132 | 23=>133 | 24=>134 | 25=>135 | 26=>136 | 27=>137 | 46=>155 | 47=>156 | 48=>157 | 49=>158 | 50=>159 | 15=>106 | 57=>179 | 28=>138 | 29=>139 | n=>n,fun | 24=>47 | 22=>26 | 3=>3 | 25=>110 | 4=>4 | 0=>0 | 46=>175 | 45=>174 | 50=>133 | 66=>194 | 39=>122 | 55=>119 | 70=>198 | 76=>221 | 77=>202 | 53=>121 | 5=>5 | 9=>9 | n=>n,fun n=>n⟩
theorem Tryz.sortC:Go.Proofs.SlLaysF0.n14 Tryz.prog Tryz.sortC_ren:={
 mixed:=by kernel_rfl,
 f14:=⟨Tryz.f105.name,by decide,Tryz.func105.trans (congrArg some (by kernel_rfl))⟩,
 f15:=Tryz.func106.trans (congrArg some (by kernel_rfl)),
 f20:=⟨Tryz.f130.name,by decide,Tryz.func130.trans (congrArg some (by kernel_rfl))⟩,
 f21:=⟨Tryz.f131.name,by decide,Tryz.func131.trans (congrArg some (by kernel_rfl))⟩,
 f22:=⟨Tryz.f132.name,by decide,Tryz.func132.trans (congrArg some (by kernel_rfl))⟩,
 f23:=⟨Tryz.f133.name,by decide,Tryz.func133.trans (congrArg some (by kernel_rfl))⟩,
 f24:=⟨Tryz.f134.name,by decide,Tryz.func134.trans (congrArg some (by kernel_rfl))⟩,
 f25:=⟨Tryz.f135.name,by decide,Tryz.func135.trans (congrArg some (by kernel_rfl))⟩,
 f26:=⟨Tryz.f136.name,by decide,Tryz.func136.trans (congrArg some (by kernel_rfl))⟩,
 f27:=⟨Tryz.f137.name,by decide,Tryz.func137.trans (congrArg some (by kernel_rfl))⟩,
 f28:=Tryz.func138.trans (congrArg some (by kernel_rfl)),
 f29:=Tryz.func139.trans (congrArg some (by kernel_rfl)),
 f46:=⟨Tryz.f155.name,by decide,Tryz.func155.trans (congrArg some (by kernel_rfl))⟩,
 f47:=Tryz.func156.trans (congrArg some (by kernel_rfl)),
 f48:=Tryz.func157.trans (congrArg some (by kernel_rfl)),
 f49:=⟨Tryz.f158.name,by decide,Tryz.func158.trans (congrArg some (by kernel_rfl))⟩,
 f50:=⟨Tryz.f159.name,by decide,Tryz.func159.trans (congrArg some (by kernel_rfl))⟩,
 f57:=⟨Tryz.f179.name,by decide,Tryz.func179.trans (congrArg some (by kernel_rfl))⟩,
 t0:=Tryz.underlying0,
 a0:=Tryz.isAgg0,
 z0:=Tryz.sizeOf0,
 v0:=Tryz.zeroValue0,
 t3:=Tryz.underlying3,
 a3:=Tryz.isAgg3,
 z3:=Tryz.sizeOf3,
 v3:=Tryz.zeroValue3,
 t4:=Tryz.underlying4,
 a4:=Tryz.isAgg4,
 z4:=Tryz.sizeOf4,
 v4:=Tryz.zeroValue4,
 t5:=Tryz.underlying5,
 a5:=Tryz.isAgg5,
 z5:=Tryz.sizeOf5,
 v5:=Tryz.zeroValue5,
 t9:=Tryz.underlying9,
 a9:=Tryz.isAgg9,
 z9:=Tryz.sizeOf9,
 v9:=Tryz.zeroValue9,
 t22:=Tryz.underlying26,
 a22:=Tryz.isAgg26,
 z22:=Tryz.sizeOf26,
 v22:=Tryz.zeroValue26,
 t25:=Tryz.underlying110,
 a25:=Tryz.isAgg110,
 z25:=Tryz.sizeOf110,
 v25:=Tryz.zeroValue110,
 t39:=Tryz.underlying122,
 a39:=Tryz.isAgg122,
 z39:=Tryz.sizeOf122,
 v39:=Tryz.zeroValue122,
 t45:=Tryz.underlying174,
 a45:=Tryz.isAgg174,
 z45:=Tryz.sizeOf174,
 v45:=Tryz.zeroValue174,
 t46:=Tryz.underlying175,
 a46:=Tryz.isAgg175,
 z46:=Tryz.sizeOf175,
 v46:=Tryz.zeroValue175,
 t50:=Tryz.underlying133,
 a50:=Tryz.isAgg133,
 z50:=Tryz.sizeOf133,
 v50:=Tryz.zeroValue133,
 t53:=Tryz.underlying121,
 a53:=Tryz.isAgg121,
 z53:=Tryz.sizeOf121,
 v53:=Tryz.zeroValue121,
 t55:=Tryz.underlying119,
 a55:=Tryz.isAgg119,
 z55:=Tryz.sizeOf119,
 v55:=Tryz.zeroValue119,
 t66:=Tryz.underlying194,
 a66:=Tryz.isAgg194,
 z66:=Tryz.sizeOf194,
 v66:=Tryz.zeroValue194,
 t70:=Tryz.underlying198,
 a70:=Tryz.isAgg198,
 z70:=Tryz.sizeOf198,
 v70:=Tryz.zeroValue198,
 t76:=Tryz.underlying221,
 a76:=Tryz.isAgg221,
 z76:=Tryz.sizeOf221,
 v76:=Tryz.zeroValue221,
 t77:=Tryz.underlying202,
 a77:=Tryz.isAgg202,
 z77:=Tryz.sizeOf202,
 v77:=Tryz.zeroValue202 }
section
variable {α:Type} [Inhabited α]
set_option maxHeartbeats 4000000 in
set_option maxRecDepth 100000 in
theorem Tryz.sortFuncC (enc:α→List Value) (hk:∀ x,(enc x).length=3) (h1:∀ x,∀ v∈enc x,v.oneCell'=true) (cf:α→α→Int) (hO:SWO (ltOf cf)) (g:Nat) (cb:Array Value) (blk off cap:Nat) (d:Array α) (w:World)
  (eg:∀ args w,(callFunc g args).run Tryz.prog w=.ok (.enter g args) w) (hcmp:CmpLays Tryz.prog g cb enc 3 cf blk off d.size w) (hH:HoldsK enc 3 w blk off d) (hblk:blk<w.heap.size) (hsz:d.size<4611686018427387904) :
  Calls Tryz.prog 68 #[.slice (some ⟨blk,off,none⟩) d.size cap,.func (.func g) #[] cb] w fun e w' =>
   e=.returned (.tuple #[])∧∃ n os,w'=sortWorldK enc 3 w blk off n (pdq (ltOf cf) d 0 d.size (Lib.bitLen d.size) true true) os:=by
 have e14:∀ args w,(callFunc 105 args).run Tryz.prog w=.ok (.enter 105 args) w:=enters_of Tryz.func105 (by kernel_rfl) rfl
 have e15:∀ args w,(callFunc 106 args).run Tryz.prog w=.ok (.enter 106 args) w:=enters_of Tryz.func106 (by kernel_rfl) rfl
 have hlim:Lib.bitLen d.size<4611686018427387904:=Nat.lt_of_le_of_lt (Lib.bitLen_le d.size 62 (by omega) (by omega)) (by omega)
 have hp:=AnyQ.pdqsortCmpFunc_all Tryz.sortC 3 Tryz.isAgg47 Tryz.sizeOf47 enc cf g cb hO blk off cap d w eg hcmp ⟨hk,h1,hH,hblk⟩ (d.size+1) 0 d.size (Lib.bitLen d.size) d w (by omega) rfl (SWK.start hH) (Nat.zero_le _) (Nat.le_refl _) hsz hlim (Or.inl rfl)
 have hl:Calls Tryz.prog 106 #[.int .u64 (d.size:Int)] w fun e w'=>e=.returned (.int .i64 (Lib.bitLen d.size:Nat))∧w'=w:=by
  have h:=Any.bits_Len (SlLaysF0.n15.bits (P:=Tryz.prog) (ρ:=Tryz.sortC_ren) { Tryz.sortC with }) (d.size:Int) w (by omega) (by omega)
  rwa [Int.toNat_natCast] at h
 change Calls Tryz.prog 105 _ _ _ at hp
 have wr:IntKind.u64.wrap (d.size:Int)=d.size:=by simp [IntKind.wrap,IntKind.bits,IntKind.signed]; omega
 clear hH hcmp hk h1
 go_enter Tryz.func68,Tryz.ntmps68
 go_wp2_with (first | (go_at_call 106; refine hl.mono ?_; rintro e w' ⟨rfl,rfl⟩) | (go_at_call 105; refine hp.mono ?_; rintro e w' ⟨rfl,n,os,rfl⟩))
 go_end0
 exact ⟨rfl,n,os,rfl⟩
end
end Go.Proofs
end

section
set_option linter.unusedVariables false
set_option linter.unusedSimpArgs false
open Go Go.Am
namespace Go.Proofs
open Go.RowKit Go.Lib Go.Sort Go.Shelf
def Tryz.cmpC_ren:Go.Shelf.Ren:=⟨fun | 5=>70 | 7=>107 | n=>n,fun | 22=>3 | 3=>3 | 4=>4 | n=>n,fun | n=>n⟩
theorem Tryz.cmpC:Go.Proofs.SlLaysC2.n5 Tryz.prog Tryz.cmpC_ren:={
 mixed:=by kernel_rfl,
 f5:=⟨"cmp.Compare[int]",by decide,Tryz.func70.trans (congrArg some (by kernel_rfl))⟩,
 f7:=⟨"cmp.isNaN[int]",by decide,Tryz.func107.trans (congrArg some (by kernel_rfl))⟩,
 t3:=Tryz.underlying3,
 a3:=Tryz.isAgg3,
 z3:=Tryz.sizeOf3,
 v3:=Tryz.zeroValue3,
 t4:=Tryz.underlying4,
 a4:=Tryz.isAgg4,
 z4:=Tryz.sizeOf4,
 v4:=Tryz.zeroValue4,
 t22:=Tryz.underlying3,
 a22:=Tryz.isAgg3,
 z22:=Tryz.sizeOf3,
 v22:=Tryz.zeroValue3 }
structure Cv where
 id:Int
 dim:Int
 v:Value
 h1:v.oneCell'=true
instance : Inhabited Cv := ⟨⟨0, 0, .bool false, rfl⟩⟩
def mkCv (x:Cl) (v:Value):Cv:=if h:v.oneCell'=true then ⟨x.id,x.dim,v,h⟩ else ⟨x.id,x.dim,.bool false,rfl⟩
def encCv (x:Cv):List Value:=[.int .i64 x.id,.int .i64 x.dim,x.v]
def cfC (x y:Cv):Int:=Lib.compareInt x.id y.id
theorem ltC (x y:Cv):ltOf cfC x y=decide (x.id<y.id):=by
 unfold ltOf cfC Lib.compareInt
 by_cases h1:x.id<y.id
 ·simp [h1]
 ·by_cases h2:y.id<x.id <;> simp [h1,h2]
theorem swoC:SWO (ltOf cfC) where
 irrefl x:=by rw [ltC]; simp
 trans x y z h1 h2:=by rw [ltC] at *; simp at *; omega
 ntrans x y z h1 h2:=by rw [ltC] at *; simp at *; omega
set_option maxHeartbeats 1000000 in
theorem Tryz.closC (x y:Cv) (W:World):Calls Tryz.prog 69 #[.agg #[.int .i64 x.id,.int .i64 x.dim,x.v],.agg #[.int .i64 y.id,.int .i64 y.dim,y.v]] W fun e w'=>e=.returned (.int .i64 (Lib.compareInt x.id y.id))∧∃ q os',w'=grow (W.drewN q) os':=by
 have hcon:=fun W'=>AnyG.cmp_Compare_int Tryz.cmpC x.id y.id W'
 change ∀ W',Calls Tryz.prog 70 _ _ _ at hcon
 generalize Lib.compareInt x.id y.id=r at hcon ⊢
 obtain ⟨xi,xd,xv,xh⟩:=x
 obtain ⟨yi,yd,yv,yh⟩:=y
 simp only at hcon ⊢
 go_enter Tryz.func69,Tryz.ntmps69
 go_wp2_with (go_at_call 70; refine (hcon _).mono ?_; rintro e w' ⟨rfl,rfl⟩)
 go_ret
 exact ⟨rfl,0,_,by rw [alloc_eq_grow,alloc_eq_grow,grow_grow]; rfl⟩
theorem perm_map_inv {α β:Type} (f:α→β) {l' l:List β} (h:l'.Perm l):∀ {M:List α},M.map f=l→∃ M':List α,M'.Perm M∧l'=M'.map f:=by
 induction h with
 | nil=>intro M hM; exact ⟨M,.refl _,by rw [hM]⟩
 | cons x p ih =>
  intro M hM
  cases M with
  | nil=>cases hM
  | cons a M =>
   injection hM with h1 h2
   obtain ⟨M',h3,h4⟩:=ih h2
   exact ⟨a::M',h3.cons a,by rw [List.map_cons,h1,h4]⟩
 | swap x y l =>
  intro M hM
  match M,hM with
  | a::c::M,hM =>
   injection hM with h1 h2
   injection h2 with h2 h3
   exact ⟨c::a::M,.swap ..,by simp [h1,h2,h3]⟩
 | trans h1 h2 ih1 ih2 =>
  intro M hM
  obtain ⟨M2,h3,h4⟩:=ih2 hM
  obtain ⟨M1,h5,h6⟩:=ih1 h4.symm
  exact ⟨M1,h5.trans h3,h6⟩
theorem inc_perm_eq {L' L:List Cl} (hs:Inc L) (hp:L'.Perm L) (hw:L'.Pairwise fun x y=>x.id≤y.id):L'=L:=by
 induction L generalizing L' with
 | nil=>exact hp.eq_nil
 | cons a L ih =>
  obtain ⟨h1,h2⟩:=List.pairwise_cons.1 hs
  cases L' with
  | nil=>exact absurd hp.symm.eq_nil (by simp)
  | cons a' L' =>
   obtain ⟨h3,h4⟩:=List.pairwise_cons.1 hw
   have e:a'=a:=by
    rcases List.mem_cons.1 (hp.mem_iff.1 (List.mem_cons_self ..)) with h | h
    ·exact h
    ·rcases List.mem_cons.1 (hp.mem_iff.2 (List.mem_cons_self ..)) with h' | h'
     ·exact h'.symm
     ·have:=h1 _ h; have:=h3 _ h'; omega
   subst e
   rw [ih h2 (List.Perm.cons_inv hp) h4]
theorem flt_get {α:Type} {f:α→List D} {k:Nat} (h:∀ x,(f x).length=k):∀ (l:List α) (j c:Nat) (x:α),l[j]? = some x→c<k→(flt f l)[j * k+c]? = (f x)[c]?
 | [],j,c,x,hx,_=>by simp at hx
 | y::l,0,c,x,hx,hc=>by
  simp at hx; subst hx
  rw [Nat.zero_mul,Nat.zero_add,show flt f (y::l)=f y++flt f l from by simp [flt],List.getElem?_append_left (by rw [h]; exact hc)]
 | y::l,j+1,c,x,hx,hc=>by
  rw [show flt f (y::l)=f y++flt f l from by simp [flt],List.getElem?_append_right (by rw [h,Nat.add_mul]; omega),h,show (j+1) * k+c - k=j * k+c by rw [Nat.add_mul]; omega]
  exact flt_get h l j c x (by simpa using hx) hc
theorem slice_one {els:List (List D)} {A:Nat→Prop} {W:World} {v:Value} (h:VD A W (.sl els) v):v.oneCell'=true:=by
 obtain ⟨ad,c,rfl,_⟩:=VD_slice h; rfl
set_option maxHeartbeats 1000000 in
theorem Tryz.sortO {L L':List Cl} (hp:L'.Perm L) (hs:Inc L') (hl:L.length<4611686018427387904) :
  OSpec Tryz.prog 68 (.own 0 0 L.length 3) (.cells 47 ((flt encCl L).map .d)) [.lit (.func (.func 69) #[] #[])] (.cells 47 ((flt encCl L').map .d)) (.tp []):=by
 intro A W vs b hA hnb hb hob hlen hv0 hds
 obtain ⟨ob,hob,hcr⟩:=hob
 obtain ⟨v0,hv0,hV0⟩:=hv0
 have hsz:vs.size=2:=by simpa using hlen.symm
 obtain ⟨v1,hv1⟩:∃ v1,vs[1]? = some v1:=⟨vs[1],Array.getElem?_eq_getElem (by omega)⟩
 have hvs:vs=#[v0,v1]:=by
  apply Array.ext_getElem?
  intro k
  match k with
  | 0=>simpa using hv0
  | 1=>simpa using hv1
  | k+2=>rw [Array.getElem?_eq_none (by omega)]; simp
 have h1:=hds 0 _ v1 rfl hv1
 cases h1
 cases hV0 with
 | own _ _ _ _ b' cap cur e hι hb' hcap hlc hm =>
 have hbb:b'=b:=by
  unfold ι1 at hι; simp at hι; exact hι.symm
 subst hbb
 rw [hob] at hb'
 injection hb' with hb'
 subst hb'
 subst hvs
 generalize hn:L.length=n at hlc hcap hl
 have hent:∀ w,(callFunc 68 #[.slice (some ⟨b',0 * 3,none⟩) n cap,.func (.func 69) #[] #[]]).run Tryz.prog w=.ok (.enter 68 #[.slice (some ⟨b',0 * 3,none⟩) n cap,.func (.func 69) #[] #[]]) w:=enters_of Tryz.func68 (by kernel_rfl) rfl _
 refine ⟨hent,?_⟩
 cases hcr with
 | cells _ _ _ hle hcell =>
 have hat:∀ (j c:Nat) (x:Cl),L[j]? = some x→c<3→∃ y u,(encCl x)[c]? = some y∧cur[j * 3+c]? = some u∧VD A W y u:=by
  intro j c x hx hc
  have h2:=flt_get encCl_len L j c x hx hc
  obtain ⟨y,hy⟩:∃ y,(encCl x)[c]? = some y:=⟨_,List.getElem?_eq_getElem (by rw [encCl_len]; exact hc)⟩
  obtain ⟨u,hu,hV⟩:=hcell (j * 3+c) (.d y) (by rw [List.getElem?_map,h2,hy]; rfl)
  cases hV with
  | d _ _ h=>exact ⟨y,u,hy,hu,h⟩
 let M:List (Cl × Value):=L.mapIdx fun j x=>(x,(cur[j * 3+2]?).getD default)
 have hMl:M.length=n:=by simp [M,hn]
 have hMj:∀ j x,L[j]? = some x→M[j]? = some (x,(cur[j * 3+2]?).getD default):=fun j x hx=>by simp [M,List.getElem?_mapIdx,hx]
 have hM1:M.map Prod.fst=L:=by
  apply List.ext_getElem?
  intro j
  rw [List.getElem?_map]
  cases hx:L[j]? with
  | none=>simp [M,List.getElem?_mapIdx,hx]
  | some x=>rw [hMj j x hx]; rfl
 have hM2:∀ p∈M,VD A W (encC p.1.b) p.2:=by
  intro p hpm
  obtain ⟨j,hj⟩:=List.getElem?_of_mem hpm
  have hjl:j<L.length:=by rw [hn,← hMl]; exact (List.getElem?_eq_some_iff.1 hj).1
  have hx:L[j]? = some L[j]:=List.getElem?_eq_getElem hjl
  rw [hMj j _ hx] at hj
  injection hj with hj
  obtain ⟨y,u,hy,hu,hV⟩:=hat j 2 _ hx (by omega)
  subst hj
  simp only [encCl] at hy
  simp at hy
  subst hy
  rw [hu]; exact hV
 have hM3:∀ p∈M,p.2.oneCell'=true:=fun p hpm=>slice_one (hM2 p hpm)
 let d:Array Cv:=(M.map fun p=>mkCv p.1 p.2).toArray
 have hds:d.size=n:=by simp [d,hMl]
 have hmk:∀ p∈M,encCv (mkCv p.1 p.2)=[.int .i64 p.1.id,.int .i64 p.1.dim,p.2]:=fun p hpm=>by
  unfold mkCv; rw [dif_pos (hM3 p hpm)]; rfl
 have hH:HoldsK encCv 3 W b' 0 d:=by
  intro t ht
  rw [size_flatK,hds] at ht
  have hj:t / 3<L.length:=by rw [hn]; omega
  have hx:L[t / 3]? = some L[t / 3]:=List.getElem?_eq_getElem hj
  have hd:d[t / 3]! = mkCv L[t / 3] ((cur[t / 3 * 3+2]?).getD default):=by
   rw [getElem!_pos d (t / 3) (by rw [hds,← hn]; exact hj)]
   have:=hMj _ _ hx
   have h3:=(List.getElem?_eq_some_iff.1 this).2
   simp only [d,List.getElem_toArray,List.getElem_map,h3]
  have hmem:(L[t / 3],(cur[t / 3 * 3+2]?).getD default)∈M:=List.mem_of_getElem? (hMj _ _ hx)
  rw [get_flatK _ _ _ _ (by rw [hds]; exact ht),hd,hmk _ hmem]
  constructor
  ·simp only [World.cell?,hob,Nat.zero_add,id]
   obtain ⟨y,u,hy,hu,hV⟩:=hat (t / 3) (t % 3) _ hx (Nat.mod_lt _ (by omega))
   rw [Nat.div_add_mod' t 3] at hu
   simp only [Option.isSome_none,Bool.false_eq_true,if_false,hu]
   rcases (by omega:t % 3=0∨t % 3=1∨t % 3=2) with hc | hc | hc
   ·rw [hc] at hy ⊢; simp [encCl] at hy; subst hy; cases hV; rfl
   ·rw [hc] at hy ⊢; simp [encCl] at hy; subst hy; cases hV; rfl
   ·have:t / 3 * 3+2=t:=by omega
    rw [hc,this,hu]; rfl
  ·simp only [World.frozen?,hob]; simp
 have eg:∀ args w,(callFunc 69 args).run Tryz.prog w=.ok (.enter 69 args) w:=enters_of Tryz.func69 (by kernel_rfl) rfl
 have hcall:=Tryz.sortFuncC encCv (fun _=>rfl) (fun x v hv=>by simp [encCv] at hv; rcases hv with rfl | rfl | rfl; rfl; rfl; exact x.h1) cfC swoC 69 #[] b' 0 cap d W eg (fun _ _ _ _ x y=>Tryz.closC x y _) hH hb (by rw [hds]; exact hl)
 rw [hds] at hcall
 refine hcall.mono ?_
 rintro e' w' ⟨rfl,q,os,rfl⟩
 have hpd:=pdq_sorts (ltOf cfC) swoC d 0 n (Lib.bitLen n) true true (Nat.zero_le _) (by rw [hds]; exact Nat.le_refl _) (Or.inl rfl)
 generalize pdq (ltOf cfC) d 0 n (Lib.bitLen n) true true=d' at hpd ⊢
 obtain ⟨⟨hd1,_,hd2⟩,hso⟩:=hpd
 rw [hds] at hd1
 have hdp:d'.toList.Perm d.toList:=by
  have e1:d'.extract 0 n=d':=by rw [← hd1]; simp
  have e2:d.extract 0 n=d:=by rw [← hds]; simp
  rwa [e1,e2] at hd2
 obtain ⟨M',hM',hdM⟩:=perm_map_inv (fun p:Cl × Value=>mkCv p.1 p.2) hdp (M:=M) (by simp [d])
 have hlM:M'.length=n:=by rw [hM'.length_eq,hMl]
 have hidk:∀ p:Cl × Value,(mkCv p.1 p.2).id=p.1.id:=fun p=>by unfold mkCv; split <;> rfl
 have hdj:∀ j (h:j<M'.length),d'[j]! = mkCv M'[j].1 M'[j].2:=fun j h=>by
  rw [getElem!_pos d' j (by rw [hd1,← hlM]; exact h),← Array.getElem_toList]
  simp only [hdM,List.getElem_map]
 have hLM:M'.map Prod.fst=L':=by
  refine inc_perm_eq hs (((hM'.map Prod.fst).trans (by rw [hM1])).trans hp.symm) ?_
  rw [List.pairwise_iff_getElem]
  intro i j hi hj hij
  rw [List.length_map] at hi hj
  have:=hso i j (Nat.zero_le _) hij (by rw [← hlM]; exact hj)
  rw [hdj j hj,hdj i hi,ltC,hidk,hidk] at this
  simp at this
  simpa using this
 have hM2':∀ p∈M',VD A W (encC p.1.b) p.2∧encCv (mkCv p.1 p.2)=[.int .i64 p.1.id,.int .i64 p.1.dim,p.2]:=fun p hpm=>⟨hM2 p (hM'.mem_iff.1 hpm),hmk p (hM'.mem_iff.1 hpm)⟩
 have hw:(sortWorldK encCv 3 W b' 0 q d' os).heap=W.heap.modify b' (onCells (putCells id 0 (flatK encCv 3 d')))++os:=rfl
 have hblk:∀ k,k<W.heap.size→k≠b'→(sortWorldK encCv 3 W b' 0 q d' os).heap[k]? = W.heap[k]? := fun k hk hkb=>by
  rw [hw,Array.getElem?_append_left (by simpa using hk),Array.getElem?_modify,if_neg (Ne.symm hkb)]
 have hbl:(sortWorldK encCv 3 W b' 0 q d' os).heap[b']? = some (.cells (putCells id 0 (flatK encCv 3 d') cur) 47 (0,0)):=by
  rw [hw,Array.getElem?_append_left (by simpa using hb),Array.getElem?_modify,if_pos rfl,hob]; rfl
 have hszc:(putCells id 0 (flatK encCv 3 d') cur).size=cur.size:=by simp [putCells]
 refine ⟨_,_,rfl,⟨rfl,rfl,rfl,by rw [hw]; simp,fun k hk hkb=>hblk k hk hkb,fun k c e hk hc=>?_⟩,hbl,fun c e hc=>?_,?_,.tp _ _ rfl (fun k c v hk=>by simp at hk)⟩
 ·by_cases hkb:k=b'
  ·subst hkb
   rw [hob] at hc; injection hc with hc; injection hc with hc1 hc2; subst hc1; subst hc2
   exact ⟨_,hbl,hszc⟩
  ·exact ⟨c,(hblk k hk hkb).trans hc,rfl⟩
 ·rw [hob] at hc; injection hc with hc; injection hc with hc1 hc2; subst hc1; subst hc2
  exact ⟨_,rfl,hszc⟩
 ·have hLl:L'.length=n:=by rw [← hLM,List.length_map,hlM]
  refine .cells _ _ _ (by rw [List.length_map,flt_len encCl_len,hLl,hszc]; rw [List.length_map,flt_len encCl_len,hn] at hle; exact hle) ?_
  intro k c hk
  have hkl:k<n * 3:=by
   have:=(List.getElem?_eq_some_iff.1 hk).1
   rw [List.length_map,flt_len encCl_len,hLl] at this; exact this
  have hj:k / 3<M'.length:=by rw [hlM]; omega
  have hx:L'[k / 3]? = some M'[k / 3].1:=by
   rw [← hLM,List.getElem?_map,List.getElem?_eq_getElem hj]; rfl
  have h2:=flt_get encCl_len L' (k / 3) (k % 3) _ hx (Nat.mod_lt _ (by omega))
  rw [Nat.div_add_mod' k 3] at h2
  have hcs:k<cur.size:=by
   rw [List.length_map,flt_len encCl_len,hn] at hle; omega
  obtain ⟨hv1,hv2⟩:=hM2' _ (List.getElem_mem hj)
  have hcell':(putCells id 0 (flatK encCv 3 d') cur)[k]? = some (encCv (mkCv M'[k / 3].1 M'[k / 3].2))[k % 3]! := by
   simp only [putCells,Array.getElem?_mapIdx,Array.getElem?_eq_getElem hcs,Option.map_some,size_flatK,hd1]
   rw [if_pos ⟨Nat.zero_le _,by omega⟩,Nat.sub_zero,get_flatK _ _ _ _ (by rw [hd1]; exact hkl),hdj _ hj]; rfl
  rw [hv2] at hcell'
  refine ⟨_,hcell',?_⟩
  rw [List.getElem?_map,h2] at hk
  rcases (by omega:k % 3=0∨k % 3=1∨k % 3=2) with hc | hc | hc
  ·rw [hc] at hk ⊢; simp [encCl] at hk; subst hk; exact .d _ _ (.i ..)
  ·rw [hc] at hk ⊢; simp [encCl] at hk; subst hk; exact .d _ _ (.i ..)
  ·rw [hc] at hk ⊢; simp [encCl] at hk; subst hk
   exact .d _ _ (hv1.step (fun x hx=>.inl hx) fun x hx=>hblk x (hA x hx) fun h=>hnb (h ▸ hx))
end Go.Proofs
end

section
set_option linter.unusedVariables false
set_option linter.unusedSimpArgs false
open List (map_map mapM_map)
open Go Go.Am Go.Proofs
namespace Go.Am
theorem encF_len' (x:Int × Int):(encF x).length=3:=rfl
theorem encF_one' (x:Int × Int):((encF x).map AV.d).all one=true:=rfl
set_option maxHeartbeats 4000000 in
theorem cloneS1 {l:Ch} (h0:l≠[]) (hl:l.length≤1000000):Spec Tryz.prog 67 [encC l] (encC l):=by
 refine spec_of (N:=8) follows_mixed Tryz.func67 rfl rfl rfl (by kernel_rfl) (by kernel_rfl) (by simp) ?_
 obtain ⟨x,r,rfl⟩:=List.exists_cons_of_ne_nil h0
 obtain ⟨a,t,hE,hcond,hval,hlen⟩:∃ a t,encC (x::r)=.sl (a::t)∧(a.length=3∧(∀ x,x∈a→one (AV.d x)=true)∧∀ x,x∈t→∀ y,y∈x→one (AV.d y)=true)∧List.map AV.d a++(t.map (List.map AV.d)).flatten=(flt encF (x::r)).map .d∧t.length+1=(x::r).length:=by
  have h1:∀ x:Int × Int,∀ y∈encF x,one (AV.d y)=true:=fun x y hy=>by
   have:=List.all_eq_true.1 (encF_one' x) (.d y) (List.mem_map.2 ⟨y,hy,rfl⟩)
   exact this
  refine ⟨encF x,r.map encF,rfl,⟨rfl,h1 x,fun z hz y hy=>?_⟩,?_,by simp⟩
  ·obtain ⟨w,_,rfl⟩:=List.mem_map.1 hz
   exact h1 w y hy
  ·simp [flt,List.map_flatten]
 have hall:∀ y,y∈flt encF (x::r)→one (AV.d y)=true:=fun y hy=>List.all_eq_true.1 (flt_all encF_one' (x::r)) (.d y) (List.mem_map.2 ⟨y,hy,rfl⟩)
 have e1:=flt_len encF_len' (x::r)
 have e2:((flt encF (x::r)).map AV.d).take ((x::r).length * 3)=(flt encF (x::r)).map AV.d:=flt_take encF_len' rfl
 have e3:chunk 3 (x::r).length (flt encF (x::r))=(x::r).map encF:=flt_chunk (by decide) encF_len' rfl
 generalize hL:x::r=l at *
 have hall':=eq_true hall
 have hbb:l.length * 40≤140737488355328∧l.length≤maxLen:=⟨by omega,le_maxLen (by omega)⟩
 rw [hE]
 simp (maxSteps:=1000000) [-map_map,-mapM_map,↓KW,hcond,hval,hlen,hbb,appC,hall']
 rw [e2]
 exact ⟨Nat.le_of_eq e1.symm,_,mapM_d _ 6 _,e3.trans (by injection hE)⟩
set_option maxHeartbeats 4000000 in
theorem cloneS0:Spec Tryz.prog 67 [encC []] (encC []):=by
 refine spec_of (N:=8) follows_mixed Tryz.func67 rfl rfl rfl (by kernel_rfl) (by kernel_rfl) (by simp) ?_
 simp (maxSteps:=1000000) [-map_map,-mapM_map,↓KW,encC]
end Go.Am
end

section
set_option linter.unusedVariables false
set_option linter.unusedSimpArgs false
open Go Go.Am Go.Proofs
namespace Go.Am
def eqL {α:Type} (f:α→α→Bool):List α→List α→Bool
 | [],[]=>true
 | x::a,y::b=>f x y && eqL f a b
 | _,_=>false
theorem eqL_ok {α:Type} {f:α→α→Bool} (h:∀ x y,f x y=true→x=y):∀ (a b:List α),eqL f a b=true→a=b
 | [],[],_=>rfl
 | x::a,y::b,e=>by
  simp only [eqL,Bool.and_eq_true] at e
  rw [h _ _ e.1,eqL_ok h _ _ e.2]
 | [],_::_,e=>by cases e
 | _::_,[],e=>by cases e
def eqD:Nat→D→D→Bool
 | 0,_,_=>false
 | n+1,x,y=>match x,y with
  | .b p,.b q=>p == q
  | .i k a,.i l b=>decide (k=l) && decide (a=b)
  | .sl a,.sl b=>eqL (eqL (eqD n)) a b
  | .ag a,.ag b=>eqL (eqD n) a b
  | _,_=>false
theorem eqD_ok:∀ (n:Nat) (x y:D),eqD n x y=true→x=y
 | 0,_,_,h=>by cases h
 | n+1,x,y,h=>by
  have ih:=eqD_ok n
  unfold eqD at h
  split at h
  ·simp only [beq_iff_eq] at h; rw [h]
  ·simp only [Bool.and_eq_true,decide_eq_true_eq] at h; rw [h.1,h.2]
  ·rw [eqL_ok (eqL_ok ih) _ _ h]
  ·rw [eqL_ok ih _ _ h]
  ·cases h
/-! Data with coefficients of one digit, as it stands -/
def encF1 (f:Int × Int):List D:=[.i .i64 f.1,.b (decide (f.2<0)),.sl [[.i .u32 (f.2.natAbs:Int)]]]
def encC1 (l:Ch):D:=.sl (l.map encF1)
def encX1 (c:List Cl):D:=.sl (c.map fun x=>[.i .i64 x.id,.i .i64 x.dim,encC1 x.b])
def dg (f:Int × Int):Bool:=decide (0<f.2.natAbs) && decide (f.2.natAbs<4294967296)
theorem encF1_eq {f:Int × Int} (h:dg f=true):encF f=encF1 f:=by
 simp only [dg,Bool.and_eq_true,decide_eq_true_eq] at h
 simp [encF,encF1,encM,digs_one h.1 h.2]
theorem encC1_eq {l:Ch} (h:l.all dg=true):encC l=encC1 l:=by
 unfold encC encC1
 congr 1
 exact List.map_congr_left fun f hf=>encF1_eq (List.all_eq_true.1 h f hf)
theorem encX1_eq {c:List Cl} (h:(c.all fun x=>x.b.all dg)=true):encX c=encX1 c:=by
 unfold encX encX1
 congr 1
 refine List.map_congr_left fun x hx=>?_
 rw [← encC1_eq (List.all_eq_true.1 h x hx)]; rfl
theorem ospec_in {P:Program} {f:FuncId} {h:AV} {o o1 o':HO} {ds:List D} {r:D} (hcr:∀ A W ι ob,CR A W ι o1 ob→CR A W ι o ob) (hs:OSpec P f h o ds o' r):OSpec P f h o1 ds o' r :=
 fun A W vs b hA hnb hb ⟨ob,hob,hc⟩ hl hv hd=>hs A W vs b hA hnb hb ⟨ob,hob,hcr _ _ _ _ hc⟩ hl hv hd
def leA:AV→AV→Bool
 | .d x,.d y=>eqD 8 x y
 | .nil,.d (.sl [])=>true
 | _,_=>false
theorem leA_V {x y:AV} {F:Nat→Prop} {w:World} {ι:Nat→Option Nat} {v:Value} (h:leA x y=true) (hv:V F w ι x v):V F w ι y v:=by
 unfold leA at h
 split at h
 ·rw [← eqD_ok _ _ _ h]; exact hv
 ·cases hv; exact .d _ _ (.sl0 none 0)
 ·cases h
theorem leL_at {x y:List AV} (h:eqL leA x y=true):x.length=y.length∧∀ (k:Nat) b,y[k]? = some b→∃ a,x[k]? = some a∧leA a b=true:=by
 induction x generalizing y with
 | nil=>cases y with
  | nil=>exact ⟨rfl,fun k b h=>by simp at h⟩
  | cons=>cases h
 | cons a x ih=>cases y with
  | nil=>cases h
  | cons b y =>
   simp only [eqL,Bool.and_eq_true] at h
   obtain ⟨h1,h2⟩:=ih h.2
   refine ⟨by simp [h1],fun k c hc=>?_⟩
   cases k with
   | zero=>simp at hc; subst hc; exact ⟨a,rfl,h.1⟩
   | succ k=>exact h2 k c (by simpa using hc)
def leO:HO→HO→Bool
 | .cells e a,.cells e' b=>decide (e=e') && eqL leA a b
 | _,_=>false
theorem leO_CR {o1 o:HO} (h:leO o1 o=true) (A:Nat→Prop) (W:World) (ι:Nat→Option Nat) (ob:Obj) (hc:CR A W ι o1 ob):CR A W ι o ob:=by
 unfold leO at h
 split at h
 ·simp only [Bool.and_eq_true,decide_eq_true_eq] at h
  obtain ⟨rfl,h⟩:=h
  obtain ⟨h1,h2⟩:=leL_at h
  cases hc with
  | cells _ _ cur hl hh =>
   refine .cells _ _ cur (by omega) fun k c hk=>?_
   obtain ⟨a,ha,hle⟩:=h2 k c hk
   obtain ⟨u,hu,hV⟩:=hh k a ha
   exact ⟨u,hu,leA_V hle hV⟩
 ·cases h
def litS:List D→Bool
 | [.lit (.func (.func g) a b)]=>g == 69 && a.isEmpty && b.isEmpty
 | _=>false
def ownS (n:Nat):AV→Bool
 | .own 0 0 m 3=>m == n
 | _=>false
def E31 (T:List (FuncId × List D × D)) (n:Nat) (o o':HO):Kn:={ E0 with
 call:=fun f ds=>match T.find? (fun p=>p.1 == f && eqL (eqD 8) ds p.2.1) with
   | some p=>some p.2.2
   | none=>E0.call f ds
 ocall:=fun f h o1 ds=>if f=68∧ownS n h=true∧leO o1 o=true∧litS ds=true then some (o',.tp []) else none
 recs:=fun g=>E0.recs g || [43,79,54,65].contains g }
theorem rec54:RecSpec Tryz.prog 54:=by
 refine ⟨fun w=>enters_of Tryz.func54 (by kernel_rfl) rfl _ w,fun w=>?_⟩
 refine callsD_of_wpS Tryz.func54 rfl fun c₀ cs hu=>?_
 apply wpS_region
 simp [wpOpsS,go_sem,recoverD,hu,Tryz.ntmps54,bodyPostS,results,Tryz.results54]
 cases c₀; simp only at hu; subst hu; rfl
theorem rec65:RecSpec Tryz.prog 65:=by
 refine ⟨fun w=>enters_of Tryz.func65 (by kernel_rfl) rfl _ w,fun w=>?_⟩
 refine callsD_of_wpS Tryz.func65 rfl fun c₀ cs hu=>?_
 apply wpS_region
 simp [wpOpsS,go_sem,recoverD,hu,Tryz.ntmps65,bodyPostS,results,Tryz.results65]
 cases c₀; simp only at hu; subst hu; rfl
theorem E31_ok {T:List (FuncId × List D × D)} {n:Nat} {o o':HO} (hT:∀ p∈T,Spec Tryz.prog p.1 p.2.1 p.2.2)
  (hS:OSpec Tryz.prog 68 (.own 0 0 n 3) o [.lit (.func (.func 69) #[] #[])] o' (.tp [])):KnOk Tryz.prog (E31 T n o o'):=by
 have h0:=E0_ok
 refine ⟨fun f ds r hc=>?_,fun f h o1 ds o2 r hc=>?_,h0.keys,h0.sorted,fun g hg=>?_⟩
 ·simp only [E31] at hc
  split at hc
  ·rename_i p hp
   injection hc with hc; subst hc
   have h1:=List.find?_some hp
   simp only [Bool.and_eq_true,beq_iff_eq] at h1
   rw [← h1.1,eqL_ok (eqD_ok 8) _ _ h1.2]
   exact hT p (List.mem_of_find?_eq_some hp)
  ·exact h0.call _ _ _ hc
 ·simp only [E31] at hc
  split at hc
  ·rename_i hh
   obtain ⟨rfl,h1,h2,h3⟩:=hh
   injection hc with hc; injection hc with hc1 hc2; subst hc1; subst hc2
   have e1:h=.own 0 0 n 3:=by
    unfold ownS at h1
    split at h1
    ·simp only [beq_iff_eq] at h1; rw [h1]
    ·cases h1
   have e2:ds=[.lit (.func (.func 69) #[] #[])]:=by
    unfold litS at h3
    split at h3
    ·simp only [Bool.and_eq_true,beq_iff_eq,Array.isEmpty_iff] at h3
     obtain ⟨⟨h3,h4⟩,h5⟩:=h3
     rw [h3,h4,h5]
    ·cases h3
   rw [e1,e2]
   exact ospec_in (leO_CR h2) hS
  ·cases hc
 ·simp only [E31,Bool.or_eq_true,List.contains_eq_mem,decide_eq_true_eq,List.mem_cons,List.mem_nil_iff,or_false] at hg
  rcases hg with hg | rfl | rfl | rfl | rfl
  ·exact h0.recs g hg
  ·exact rec43
  ·exact rec79
  ·exact rec54
  ·exact rec65
def seg31:List Cl:=[⟨1,0,[]⟩,⟨2,0,[]⟩,⟨3,1,[(1,-1),(2,1)]⟩]
def lp31:List Cl:=[⟨1,0,[]⟩,⟨2,1,[(1,2)]⟩]
def sU31:List Cl:=[⟨7,0,[]⟩,⟨8,1,[(2,1),(7,-1)]⟩,⟨1,0,[]⟩,⟨2,0,[]⟩,⟨3,1,[(1,-1),(7,1)]⟩]
def sS31:List Cl:=[⟨1,0,[]⟩,⟨2,0,[]⟩,⟨3,1,[(1,-1),(7,1)]⟩,⟨7,0,[]⟩,⟨8,1,[(2,1),(7,-1)]⟩]
def encCl1 (x:Cl):List D:=[.i .i64 x.id,.i .i64 x.dim,encC1 x.b]
theorem flt1_eq {c:List Cl} (h:(c.all fun x=>x.b.all dg)=true):flt encCl c=flt encCl1 c:=by
 unfold flt
 congr 1
 refine List.map_congr_left fun x hx=>?_
 unfold encCl encCl1
 rw [encC1_eq (List.all_eq_true.1 h x hx)]
def encMp1 (m:List (Int × Ch)):D:=.sl (m.map fun p=>[.i .i64 p.1,encC1 p.2])
def encR31 (r:List Cl × List (Int × Ch) × Int):D:=.tp [encX1 r.1,encMp1 r.2.1,.i .i64 r.2.2]
theorem encMp1_eq {m:List (Int × Ch)} (h:(m.all fun x=>x.2.all dg)=true):encMp m=encMp1 m:=by
 unfold encMp encMp1
 congr 1
 refine List.map_congr_left fun x hx=>?_
 rw [← encC1_eq (List.all_eq_true.1 h x hx)]; rfl
def dgX (c:List Cl):Bool:=c.all fun x=>x.b.all dg
def smX (c:List Cl):Bool:=c.all fun x=>decide (x.b.length≤100) && x.b.all fun f=>decide (f.2.natAbs≤2) && inr f.1
theorem smX_sz {c:List Cl} (hl:c.length≤100) (h2:smX c=true):SzX 1 c∧∀ x∈c,Keys x.b:=by
 refine ⟨⟨hl,fun x hx=>?_,fun x hx f hf=>?_⟩,fun x hx f hf=>?_⟩
 all_goals
  have:=List.all_eq_true.1 h2 x hx
  simp only [Bool.and_eq_true,decide_eq_true_eq] at this
 ·exact this.1
 ·have h3:=List.all_eq_true.1 this.2 f hf
  simp only [Bool.and_eq_true,decide_eq_true_eq] at h3
  exact h3.1
 ·have h3:=List.all_eq_true.1 this.2 f hf
  simp only [Bool.and_eq_true,decide_eq_true_eq] at h3
  exact h3.2
theorem free31 {c:List Cl} {l:List (Int × Int)} (h1:dgX c=true) (hl:c.length≤100) (h2:smX c=true) (hf:freeX c=l):Spec Tryz.prog 22 [encX1 c] (encPrs l):=by
 rw [← encX1_eq h1,← hf]
 exact mgFree (e:=1) (smX_sz hl h2).1 (by omega)
theorem col31 {c:List Cl} {a b:Int} {r:List Cl × List (Int × Ch) × Int} (h1:dgX c=true) (hl:c.length≤100) (h2:smX c=true) (hc:Inc c) (hr:colX c a b=r) (h3:dgX r.1=true) (h4:(r.2.1.all fun x=>x.2.all dg)=true) :
  Spec Tryz.prog 29 [encX1 c,.i .i64 a,.i .i64 b] (encR31 r):=by
 have h:=mgCollapse (e:=1) a b hc (smX_sz hl h2).1 (smX_sz hl h2).2 (by omega)
 rw [hr,encX1_eq h1] at h
 unfold encR3 at h
 rw [encX1_eq h3,encMp1_eq h4] at h
 exact h
def T31:List (FuncId × List D × D):=[(22,[encX1 seg31],encPrs [(3,1),(3,2)]),(22,[encX1 [⟨2,0,[]⟩]],encPrs []),(22,[encX1 []],encPrs []),
 (67,[encC1 []],encC1 []),(67,[encC1 [(1,-1),(2,1)]],encC1 [(1,-1),(2,1)]),
 (29,[encX1 seg31,.i .i64 3,.i .i64 2],encR31 ([⟨1,0,[]⟩],[(1,[(1,1)]),(2,[(1,1)]),(3,[])],0)),(29,[encX1 seg31,.i .i64 3,.i .i64 1],encR31 ([⟨2,0,[]⟩],[(1,[(2,1)]),(2,[(2,1)]),(3,[])],0)),
 (29,[encX1 lp31,.i .i64 2,.i .i64 1],encR31 ([],[],310)),(29,[encX1 seg31,.i .i64 3,.i .i64 9],encR31 ([],[],250))]
theorem T31_ok:∀ p∈T31,Spec Tryz.prog p.1 p.2.1 p.2.2:=by
 intro p hp
 simp only [T31,List.mem_cons,List.mem_nil_iff,or_false] at hp
 rcases hp with rfl | rfl | rfl | rfl | rfl | rfl | rfl | rfl | rfl
 ·exact free31 (by decide) (by decide) (by decide) (by decide)
 ·exact free31 (by decide) (by decide) (by decide) (by decide)
 ·exact free31 (by decide) (by decide) (by decide) (by decide)
 ·have:=cloneS0; rwa [encC1_eq (by decide)] at this
 ·have:=cloneS1 (l:=[(1,-1),(2,1)]) (by simp) (by simp); rwa [encC1_eq (by decide)] at this
 ·exact col31 (by decide) (by decide) (by decide) (by unfold Inc seg31; decide) (by decide) (by decide) (by decide)
 ·exact col31 (by decide) (by decide) (by decide) (by unfold Inc seg31; decide) (by decide) (by decide) (by decide)
 ·exact col31 (by decide) (by decide) (by decide) (by unfold Inc lp31; decide) (by decide) (by decide) (by decide)
 ·exact col31 (by decide) (by decide) (by decide) (by unfold Inc seg31; decide) (by decide) (by decide) (by decide)
theorem S31:OSpec Tryz.prog 68 (.own 0 0 5 3) (.cells 47 ((flt encCl1 sU31).map .d)) [.lit (.func (.func 69) #[] #[])] (.cells 47 ((flt encCl1 sS31).map .d)) (.tp []):=by
 have:=Tryz.sortO (L:=sU31) (L':=sS31) (by decide) (by unfold Inc sS31; decide) (by decide)
 rwa [flt1_eq (by decide),flt1_eq (by decide)] at this
def K31:Kn:=E31 T31 5 (.cells 47 ((flt encCl1 sU31).map .d)) (.cells 47 ((flt encCl1 sS31).map .d))
theorem K31_ok:KnOk Tryz.prog K31:=E31_ok T31_ok S31
end Go.Am
end

section
set_option linter.unusedVariables false
set_option linter.unusedSimpArgs false
open Go Go.Am Go.Proofs
namespace Go.Am
theorem sanity31:Spec Tryz.prog 8 [] (.b true) :=
 (runK_ok (fuel:=100) follows_mixed K31_ok 20).call 8 [] (.b true) (by kernel_rfl)
end Go.Am
end
