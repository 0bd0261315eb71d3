/- The check of chapter 31: it answers true. No condition. -/
import Derived.Test.YtaopbfbimpkomaaGreatE6
import Derived.Test.YtaopbfbimpkomaaGreatE5
import Derived.Test.YtaopbfbimpkomaaGreatE4
import Derived.Shelf.SlSortCmp.PdqK
import Derived.Ground.SlsfProg
import Derived.Shelf.SlicesG.Cmp
open Array renaming getElem?_append_left→Cw,getElem?_eq_getElem→AK,getElem?_modify→D1,replicate→Bx
open Bool renaming and_eq_true→AI,false_eq_true→AU
open Classical renaming byContradiction→Bb
open Go.IntKind renaming i64→Ah
open Go.Lib renaming bitLen→Fe,compareInt→Ff
open Go.Op renaming operands→AL
open Go.Region renaming ready→BL
open Go.Shelf renaming Ren→E1
open Int renaming add_zero→DA,emod_lt_of_pos→Fa,emod_nonneg→Dy,mul_add→CL,mul_assoc→CM,neg_mul→C5,tmod_eq_emod_of_nonneg→Cy,zero_add→Ci
open List renaming all_eq_true→AO,append_assoc→AZ,append_nil→Bd,cons_append→B8,countP_eq_length_filter→EV,drop_eq_getElem_cons→A2,drop_succ_cons→Cp,drop_zero→BS,eq_nil_iff_forall_not_mem→DO,eq_nil_of_length_eq_zero→Au,exists_cons_of_ne_nil→Fc,ext_getElem?→Ca,filter_append→BT,filter_cons→BO,filter_eq_self→Em,filter_filter→E5,find?_cons→CX,flatMap_cons→CO,flatMap_nil→DL,getD_eq_getElem?_getD→Ac,getElem?_append_left→AF,getElem?_append_right→AA,getElem?_cons_succ→A6,getElem?_cons_zero→BD,getElem?_eq_getElem→Aa,getElem?_eq_none→AG,getElem?_eq_some_iff→Aj,getElem?_map→Ax,getElem_map→Cm,getElem_mem→Ak,getElem_of_mem→Bi,getElem_range→Et,length_append→Al,length_cons→AB,length_eq_zero_iff→Ey,length_filter_le→BV,length_map→AN,length_nil→A8,length_pos_iff→DF,length_singleton→Ar,length_take→AM,map→BR,map_append→By,map_congr_left→Bu,map_cons→AR,map_flatten→Eh,map_nil→Di,mem_append→A9,mem_cons→AD,mem_cons_of_mem→As,mem_cons_self→Av,mem_filter→Bk,mem_flatMap→Bj,mem_map→AE,mem_nil_iff→Eg,mem_of_find?_eq_some→Ek,mem_of_getElem?→Aq,mem_of_mem_take→Bs,mem_singleton→AP,nil_append→BQ,pairwise_cons→A5,pairwise_iff_getElem→Bv,pairwise_map→Cs,pairwise_singleton→DN,take_add_one→AJ,take_of_length_le→Ai,take_succ_cons→B6,take_zero→BZ
open List.Pairwise renaming filter→DB
open Nat renaming add_mul→Bp,le_refl→Az,le_trans→Ap,lt_of_le_of_lt→Bt,lt_or_ge→Bc,lt_succ_self→Ad,mod_lt→D9,mul_le_mul_right→AX,mul_one→CK,one_le_two_pow→DV,pow_le_pow_right→BI,sub_lt_sub_left→Ab,sub_self→Cq,succ_mul→CT,zero_add→Bf,zero_le→An,zero_mul→CH
open Option renaming map_some→AW
open Option.some renaming inj→Bg,injEq→AT
open _root_ renaming beq_iff_eq→B0,decide_eq_false→Bq,decide_eq_true→BA,decide_eq_true_eq→AH,decide_false→EB,eq_false→EP,if_false→BB,if_neg→Ae,if_pos→Ag,if_true→BN,or_false→DX
section
set_option linter.unusedVariables false
set_option linter.unusedSimpArgs false
namespace Go.Am
open RowKit (Below)
inductive Tr where
 |leaf
 |one (i:Nat) (t:Tr)
 |two (i:Nat) (t:Tr) (j:Nat) (u:Tr)
def bDt(P:Program)(o:Oper):Bool:=match o.op with
 |.move _=>true
 |.assign _=>true
 |.insert ..=>true
 |.load ..=>true
 |.store ..=>true
 |.convert ..=>true
 |.binOp ..=>true
 |.indexAddr ..=>true
 |.call { callee:=.value (.func f),.. }=>!bH P f && !bI P f
 |_=>false
def opL(ops:Array Oper)(i:Nat):List Oper:=(ops.toList.drop i).take 1
def opsL(ops:Array Oper)(is:List Nat):List Oper:=is.flatMap (opL ops)
theorem aUh{ops:Array Oper}{i:Nat}{o:Oper}(h:ops[i]? = some o):opL ops i=[o]:=by
 unfold opL
 have h':ops.toList[i]? = some o:=by simpa using h
 obtain⟨hl,he⟩:=Aj.1 h'
 rw[A2 hl,he];rfl
def aMa(P:Program)(ops:Array Oper):List Nat→Array Bool→Option (Array Bool)
 |[],l=>some l
 |i::is,l=>if(BL .any ops l).contains i&&aVi P ops l i then aMa P ops is (l.setIfInBounds i true)else none
def bDu(P:Program)(ops:Array Oper)(i:Nat):Bool:=match ops[i]? with
 |some o=>bDt P o
 |none=>false
def aFe(P:Program)(ops:Array Oper):Nat→Array Bool→Tr→Bool
 |0,l,.leaf=>(BL .any ops l).isEmpty
 |n+1,l,.one i t=>(BL .any ops l==[i])&&bDu P ops i&&aFe P ops n (l.setIfInBounds i true) t
 |n+1,l,.two i t j u=>(BL .any ops l==[i,j])&&bDu P ops i&&bDu P ops j&&aFe P ops n (l.setIfInBounds i true) t&&aFe P ops n (l.setIfInBounds j true) u
 |_,_,_=>false
def OWT(P:Program)(ops:Array Oper):Tr→St→List Nat→(St→List Nat→Prop)→Prop
 |.leaf,σ,con,k=>k σ con
 |.one i t,σ,con,k=>OW P ops (opL ops i) σ con fun σ' con'=>OWT P ops t σ' con' k
 |.two i t j u,σ,con,k=>(OW P ops (opL ops i) σ con fun σ' con'=>OWT P ops t σ' con' k)∧(OW P ops (opL ops j) σ con fun σ' con'=>OWT P ops u σ' con' k)
def aHz(P:Program)(ops:Array Oper)(pre:List Nat)(t:Tr):Bool:=match aMa P ops pre (Bx ops.size false)with
 |some l=>qG (opsL ops pre)&&decide (pre.length≤ops.size)&&aFe P ops (ops.size-pre.length) l t
 |none=>false
section
variable {P:Program} {G:Ctx} {ops:Array Oper}
theorem aOz{Q:AS→Prop}{n:Nat}{l1:Array Bool}:∀(is:List Nat) (listed:Array Bool) (s:AS),Dc ops listed→aMa P ops is listed=some l1→zR P G ops (fun s'=>Dc ops l1→aJu P G ops Q n l1 s') (opsL ops is) s→aJu P G ops Q (is.length+n) listed s
 |[],listed,s,hdc,hp,h=>by
  simp only[aMa,AT]at hp;subst hp
  simpa using h hdc
 |i::is,listed,s,hdc,hp,h=>by
  simp only[aMa]at hp
  split at hp
  case isFalse=>cases hp
  rename_i hc
  simp only[AI]at hc
  have hr:i∈BL .any ops listed:=by simpa using hc.1
  obtain⟨_,o,ho,_⟩:=mem_ready.1 hr
  have e:opsL ops (i::is)=o::opsL ops is:=by
   show opL ops i++opsL ops is=_
   rw[aUh ho];rfl
  rw[e]at h
  obtain⟨s',hd,h⟩:=h
  rw[AB,Nat.add_right_comm]
  exact aEg ho (is.length+n) listed s s' hdc (aCw ho hc.2) hr hd (aOz is _ _ (aSo hdc hr) hp h)
theorem aBq{e:Option AV}{av:AV}{nb:Option HO}(h:eQ e=some (av,nb)):nb=none:=by
 unfold eQ at h
 cases e<;>simp at h
 exact h.2.symm
theorem cAo{k:St→List Nat→Prop}{o:Oper}{σ:St}{con:List Nat}(hnn:bDt P o=true)(hn0:σ.n=0→∀ b,G.P0 b)(hwf:Wf σ con)(h:OW P ops [o] σ con k) :
  ∀ s,eI σ con s→∃ s',pB P G ops o s s'∧∃ σ' con',k σ' con'∧(σ'.n=0→∀ b,G.P0 b)∧Wf σ' con'∧eI σ' con' s':=by
 unfold OW at h
 have pure0:∀(av:AV) (con':List Nat) (H':Nat→Option HO),H'=kill con' σ.H→(∀ id∈con',(σ.H id).isSome=true)→k ⟨bT σ.Γ o.dst av,H',σ.n⟩ (con'++con) →
   (∀ s,eI σ con s→Ev P G o s.Γ s.T s.K s.K av bX (fun i=>i∈con'))→dX ops o σ.Γ=some true →
   ∀ s,eI σ con s→∃ s',pB P G ops o s s'∧∃ σ' con',k σ' con'∧(σ'.n=0→∀ b,G.P0 b)∧Wf σ' con'∧eI σ' con' s':=by
  intro av con' H' hH' hc' hk hev hw s hs
  subst hH'
  have hwf':Wf ⟨bT σ.Γ o.dst av,kill con' σ.H,σ.n⟩ (con'++con):=by
   refine⟨fun id hid=>?_,fun id hid=>?_⟩
   ·cases hx:kill con' σ.H id with
    |none=>exact hx
    |some o'=>have:=(jJ hx).1;rw[hwf.top id hid]at this;cases this
   ·rcases A9.1 hid with hid|hid
    ·refine⟨?_,pO hid⟩
     have:=hc' id hid
     rcases Bc id σ.n with h|h
     ·exact h
     ·rw[hwf.top id h]at this;cases this
    ·obtain⟨h1,h2⟩:=hwf.con id hid
     refine⟨h1,?_⟩
     cases hx:kill con' σ.H id with
     |none=>exact hx
     |some o'=>have:=(jJ hx).1;rw[h2]at this;cases this
  refine⟨_,.yes av bX (fun i=>i∈con') s.K (by rw[hs.Γ];exact hw) (hev s hs) (fun _ h=>h.elim) (fun _ h=>h.elim) (fun h=>h.elim),_,_,hk,hn0,hwf',?_⟩
  refine⟨by rw[hs.Γ],fun id=>by simp[hs.T,or_comm],fun id o' h=>hs.K id o' (jJ h).1,fun id=>?_⟩
  simp only[hs.U,bX,DX,A9]
  by_cases hid:id∈con'
  ·simp[hid,hc' id hid,pO hid]
  ·rw[aCk hid];simp[hid]
 have write1:∀(av:AV) (id:Nat) (ho old:HO) (ts:Nat),Operand.tmp ts∈o.op.operands→lB id (σ.Γ ts)=true→σ.H id=some old→kind P o.op=2→k ⟨bT σ.Γ o.dst av,upd σ.H id (some ho),σ.n⟩ con →
   (∀(T2:Nat→Prop) (K2:Nat→Option HO),K2 id=some old→¬T2 id→Y P G o σ.Γ T2 K2 (jN K2 T2 id ho) av bX bX)→dX ops o σ.Γ=some true →
   ∀ s,eI σ con s→∃ s',pB P G ops o s s'∧∃ σ' con',k σ' con'∧(σ'.n=0→∀ b,G.P0 b)∧Wf σ' con'∧eI σ' con' s':=by
  intro av id ho old ts hts hΓ hold hkd h hY hw s hs
  have hwf':Wf ⟨bT σ.Γ o.dst av,upd σ.H id (some ho),σ.n⟩ con:=by
   refine⟨fun i hi=>?_,fun i hi=>?_⟩
   ·simp only at hi ⊢
    rw[dD _ _ (fun e=>by rw[e]at hi;rw[hwf.top id hi]at hold;cases hold)];exact hwf.top i hi
   ·obtain⟨h1,h2⟩:=hwf.con i hi
    refine⟨h1,?_⟩
    simp only
    rw[dD _ _ (fun e=>by rw[e]at h2;rw[h2]at hold;cases hold)];exact h2
  have hidn:id<σ.n:=by
   rcases Bc id σ.n with h|h
   ·exact h
   ·rw[hwf.top id h]at hold;cases hold
  have hnT:¬s.T id:=fun h=>by have:=(hwf.con id ((hs.T id).1 h)).2;rw[this]at hold;cases hold
  refine⟨_,.yes av bX bX (jN s.K s.T id ho) (by rw[hs.Γ];exact hw) (.inr (.inr (.inl ⟨hkd,rfl,rfl,id,ts,old,ho,hts,by rw[hs.Γ];exact hΓ,hs.K _ _ hold,hnT,rfl,fun T2 K2 hK2 hT2=>by rw[hs.Γ];exact hY T2 K2 hK2 hT2⟩))) (fun _ h=>h.elim) (fun _ h=>h.elim) (fun h=>h.elim),_,_,h,hn0,hwf',?_⟩
  refine⟨by rw[hs.Γ],fun i=>by simp[hs.T,bX],fun i o' h=>?_,fun i=>?_⟩
  ·simp only at h ⊢
   by_cases hid:i=id
   ·subst hid;rw[cQ]at h;unfold jN;rw[Ag rfl];exact h
   ·rw[dD _ _ hid]at h
    rw[nE hid (fun ht=>by have:=(hwf.con i ((hs.T i).1 ht)).2;rw[this]at h;cases h)]
    exact hs.K i o' h
  ·simp only[hs.U,bX,DX]
   by_cases hid:i=id
   ·subst hid;simp[cQ,hold]
   ·rw[dD _ _ hid]
 have wsub:∀{T2:Nat→Prop} {K2:Nat→Option HO} {id:Nat} {ho:HO} (j:Nat) (o':HO),j≠id→jN K2 T2 id ho j=some o'→K2 j=some o'∧¬T2 j:=by
  intro T2 K2 id ho j o' hj h
  unfold jN at h
  rw[Ae hj]at h
  split at h
  ·cases h
  ·exact⟨h,by assumption⟩
 have one1:∀{K2:Nat→Option HO} {id:Nat} {old:HO},σ.H id=some old→K2 id=some old→∀ i ob,(if i=id then σ.H id else none)=some ob→K2 i=some ob:=by
  intro K2 id old hold hK2 i ob h
  split at h
  ·rename_i e;subst e;rw[hold]at h;rw[hK2];exact h
  ·cases h
 have val0:∀(av:AV),kind P o.op=0→nev P o.op σ.Γ σ.n=some (av,none)→k ⟨bT σ.Γ o.dst av,σ.H,σ.n⟩ con→dX ops o σ.Γ=some true →
   ∀ s,eI σ con s→∃ s',pB P G ops o s s'∧∃ σ' con',k σ' con'∧(σ'.n=0→∀ b,G.P0 b)∧Wf σ' con'∧eI σ' con' s':=by
  intro av hk hnev h hw
  have e0:(fun i=>i∈([]:List Nat))=bX:=funext fun i=>by simp[bX]
  refine pure0 av [] σ.H rfl (fun _ h=>by cases h) h (fun s hs=>?_) hw
  rw[e0]
  exact .inl ⟨hk,rfl,rfl,fun T2 K2 _=>aNa (n:=σ.n) (by rw[hs.Γ];exact hnev)⟩
 split at h
 case h_3=>exact h.elim
 case h_2 hw =>
  have hwf':Wf ⟨bT σ.Γ o.dst .un,σ.H,σ.n⟩ con:=⟨hwf.top,hwf.con⟩
  exact fun s hs=>⟨_,.no (by rw[hs.Γ];exact hw),_,_,h,hn0,hwf',⟨by rw[hs.Γ],hs.T,hs.K,hs.U⟩⟩
 case h_1 hw =>
 simp only[OW]at h
 unfold bDt at hnn
 split at hnn
 ·-- move
  rename_i x hop
  unfold O1 at h
  simp only[hop]at h
  obtain⟨hk,h⟩:=h
  split at h
  ·rename_i av nb hnev
   have e:nb=none:=by
    simp only[nev]at hnev
    injection hnev with hnev;injection hnev with _ h2;exact h2.symm
   subst e
   exact val0 av (by rw[hop];exact hk) (by rw[hop];exact hnev) h hw
  ·exact h.elim
 ·-- assign
  rename_i x hop
  unfold O1 at h
  simp only[hop]at h
  obtain⟨hk,h⟩:=h
  split at h
  ·rename_i av nb hnev
   have e:nb=none:=by
    simp only[nev]at hnev
    injection hnev with hnev;injection hnev with _ h2;exact h2.symm
   subst e
   exact val0 av (by rw[hop];exact hk) (by rw[hop];exact hnev) h hw
  ·exact h.elim
 ·-- a new element of a map
  rename_i t m x v hop
  unfold O1 at h
  simp only[hop]at h
  split at h
  ·rename_i id ho hst
   obtain⟨old,hm,hold,_⟩:=aAd hst
   obtain⟨ts,hts,hΓ⟩:=qO (Γ:=σ.Γ) (x:=m) (id:=id) (h:=.mp 0) (by rw[hm];rfl)
   refine write1 .any id ho old ts (by rw[hop];simp[AL,hts]) hΓ hold (by rw[hop];rfl) h (fun T2 K2 hK2 hT2=>?_) hw
   refine aHp (H:=fun i=>if i=id then σ.H id else none) (v:=some v) (id:=id) (ho:=ho) (.inl ⟨v,rfl,.inr hop⟩) (one1 hold hK2) ?_ hT2 (by unfold jN;rw[Ag rfl]) wsub
   unfold rI at hst ⊢
   rw[hm]at hst ⊢
   simp only[BN]at hst ⊢
   exact hst
  ·exact h.elim
 ·-- load
  rename_i t x hop
  unfold O1 at h
  simp only[hop]at h
  split at h
  ·rename_i v hv
   refine pure0 v [] σ.H rfl (fun _ h=>by cases h) h (fun s hs=>.inr (.inl ⟨by rw[hop];rfl,rfl,(fun _ h=>by cases h),(fun _ _ _ _ _ _ _ _ h=>by cases h),fun T2 _=>?_⟩)) hw
   have:(fun i=>i∈([]:List Nat))=bX:=funext fun i=>by simp[bX]
   rw[this]
   refine aAq fun F w ι a hR hops=>?_
   obtain⟨u,h1,h2⟩:=aAe (P:=P) hR hs.K hv (fI (Γ:=σ.Γ) (a:=a) fun t e=>by rw[←hs.Γ];exact hops t (by rw[hop];simp[AL,e]))
   exact⟨u,by simp only[execOp,hop,Sem.run_bind,h1];rfl,h2⟩
  ·exact h.elim
 ·-- store
  rename_i t ad x hop
  unfold O1 at h
  simp only[hop]at h
  split at h
  ·rename_i id ho hst
   obtain⟨off,old,hadp,hold⟩:=aFn hst
   obtain⟨ts,hts,hΓ⟩:=qO (Γ:=σ.Γ) (x:=ad) (id:=id) (h:=.ptr 0 off) (by rw[hadp];rfl)
   refine write1 .un id ho old ts (by rw[hop];simp[AL,hts]) hΓ hold (by rw[hop];rfl) h (fun T2 K2 hK2 hT2=>?_) hw
   refine aSv (H:=fun i=>if i=id then σ.H id else none) (id:=id) (ho:=ho) hop (one1 hold hK2) ?_ hT2 (by unfold jN;rw[Ag rfl]) wsub
   unfold oU at hst ⊢
   rw[hadp]at hst ⊢
   simp only[BN]at hst ⊢
   exact hst
  ·exact h.elim
 ·-- conversion
  rename_i f t x hop
  unfold O1 at h
  simp only[hop]at h
  obtain⟨hk,h⟩:=h
  split at h
  ·rename_i av nb hnev
   obtain rfl:=aBq hnev
   exact val0 av (by rw[hop];exact hk) (by rw[hop];exact hnev) h hw
  ·exact h.elim
 ·-- two operands
  rename_i b t x y u hop
  unfold O1 at h
  simp only[hop]at h
  obtain⟨hk,h⟩:=h
  split at h
  ·rename_i av nb hnev
   obtain rfl:=aBq hnev
   exact val0 av (by rw[hop];exact hk) (by rw[hop];exact hnev) h hw
  ·exact h.elim
 ·-- an element's place
  rename_i t x y hop
  unfold O1 at h
  simp only[hop]at h
  obtain⟨hk,h⟩:=h
  split at h
  ·rename_i av nb hnev
   obtain rfl:=aBq hnev
   exact val0 av (by rw[hop];exact hk) (by rw[hop];exact hnev) h hw
  ·exact h.elim
 ·-- call
  rename_i f args ts hop
  simp only[AI,Bool.not_eq_true']at hnn
  obtain⟨hmut,hnew⟩:=hnn
  unfold O1 at h
  simp only[hop]at h
  unfold OC at h
  rw[hmut]at h
  simp only[AU,BB]at h
  have hkd:kind P o.op=1:=by rw[hop];simp[kind,hmut]
  rcases h with ⟨h1,_⟩|h
  ·rw[hnew]at h1;cases h1
  split at h
  ·rename_i g id hargs
   obtain⟨x,hx,hxe⟩:∃ x,args.toList=[x]∧oev σ.Γ x=.kf g id:=by
    cases hl:args.toList with
    |nil=>rw[hl]at hargs;cases hargs
    |cons x l =>
     rw[hl]at hargs
     cases l with
     |nil=>simp only[AR,Di,List.cons.injEq,and_true]at hargs;exact⟨x,rfl,hargs⟩
     |cons y l=>simp at hargs
   split at h
   ·rename_i es hH
    obtain⟨hn,hrr,hss,h⟩:=h
    refine pure0 _ [] σ.H rfl (fun _ h=>by cases h) h (fun s hs=>.inr (.inl ⟨hkd,rfl,(fun _ h=>by cases h),(fun _ _ _ _ _ _ _ _ h=>by cases h),fun T2 _=>?_⟩)) hw
    have:(fun i=>i∈([]:List Nat))=bX:=funext fun i=>by simp[bX]
    rw[this]
    exact aKc (Γ:=s.Γ) hop hx hs.K (by rw[hs.Γ];exact hxe) hH hn hrr hss
   ·exact h.elim
  ·obtain⟨ds,r,hfr,hsp,h⟩:=h
   refine pure0 (inj r) (cE σ.H (args.toList.map (oev σ.Γ)) r) _ rfl (fun id hid=>by obtain⟨o',ho'⟩:=lR hid;rw[ho'];rfl) h (fun s hs=>.inr (.inl ⟨hkd,rfl,fun id hid ht=>?_,fun F w ι T2 a hR hops id hid=>?_,fun T2 hT2=>?_⟩)) hw
   ·obtain⟨o',ho'⟩:=lR hid
    have:=(hwf.con id ((hs.T id).1 ht)).2
    rw[this]at ho';cases ho'
   ·refine aHc (Γ:=σ.Γ) (a:=a) (r:=r) hR hs.K hfr (fun x hx=>fI fun t e=>?_) id hid
    rw[←hs.Γ];exact hops t (by rw[hop];subst e;simp[AL,Call.operands];simpa using hx)
   ·have:=bAo (P:=P) (G:=G) (Γ:=s.Γ) (C:=T2) (K:=s.K) (H:=σ.H) (o:=o) (r:=r) hop hs.K (by rw[hs.Γ];exact hfr) hsp (by rw[hs.Γ];exact hT2)
    rw[hs.Γ]at this ⊢
    exact this
 ·cases hnn
theorem aHl{k:St→List Nat→Prop}:∀(n:Nat) (listed:Array Bool) (t:Tr) (σ:St) (con:List Nat),aFe P ops n listed t=true→(σ.n=0→∀ b,G.P0 b)→Wf σ con→OWT P ops t σ con k →
  ∀ s,eI σ con s→aJu P G ops (fun s'=>∃ σ' con',k σ' con'∧(σ'.n=0→∀ b,G.P0 b)∧Wf σ' con'∧eI σ' con' s') n listed s
 |0,listed,t,σ,con,hc,hn0,hwf,h,s,hs=>by
  cases t<;>simp only[aFe,AU]at hc
  exact⟨by simpa using hc,σ,con,h,hn0,hwf,hs⟩
 |n+1,listed,t,σ,con,hc,hn0,hwf,h,s,hs=>by
  have step:∀(i:Nat) (u:Tr),bDu P ops i=true→aFe P ops n (listed.setIfInBounds i true) u=true→(OW P ops (opL ops i) σ con fun σ' con'=>OWT P ops u σ' con' k) →
    aOp P G ops i (aJu P G ops (fun s'=>∃ σ' con',k σ' con'∧(σ'.n=0→∀ b,G.P0 b)∧Wf σ' con'∧eI σ' con' s') n (listed.setIfInBounds i true)) s:=by
   intro i u hn hcu hu
   unfold bDu at hn
   split at hn
   case h_2=>cases hn
   rename_i o ho
   rw[aUh ho]at hu
   obtain⟨s',hd,σ',con',hk,hn',hwf',hs'⟩:=cAo hn hn0 hwf hu s hs
   unfold aOp
   simp only[ho]
   exact .inr ⟨s',hd,aHl n _ u σ' con' hcu hn' hwf' hk s' hs'⟩
  cases t with
  |leaf=>simp only[aFe,AU]at hc
  |one i u =>
   simp only[aFe,AI,B0]at hc
   refine⟨fun he=>(by rw[he]at hc;cases hc.1.1),fun j hj=>?_⟩
   rw[hc.1.1,AP]at hj
   subst hj
   exact step j u hc.1.2 hc.2 h
  |two i u j v =>
   simp only[aFe,AI,B0]at hc
   obtain⟨⟨⟨⟨hr,hi⟩,hj⟩,hu⟩,hv⟩:=hc
   refine⟨fun he=>(by rw[he]at hr;cases hr),fun m hm=>?_⟩
   rw[hr]at hm
   rcases AD.1 hm with rfl|hm
   ·exact step m u hi hu h.1
   ·rw[AP]at hm
    subst hm
    exact step m v hj hv h.2
end
theorem aHj{P:Program}{G:Ctx}{ops:Array Oper}{Q Q':AS→Prop}(h:∀ s,Q s→Q' s):∀(l:List Oper) (s:AS),zR P G ops Q l s→zR P G ops Q' l s
 |[],s,hh=>h s hh
 |o::l,s,⟨s',hd,hh⟩=>⟨s',hd,aHj h l s' hh⟩
theorem zB{P:Program}{WW:Code→(Exit→Act→World→Prop)→Act→World→Prop}(hW:WpR P false WW){G:Ctx}{id N:Nat}{ds:List Deferred}{ops:Array Oper}{pre:List Nat}{t:Tr}{Q:St→Prop}{Q':Exit→Act→World→Prop}{σ:St}{a:Act}{w:World}(hm:P.follows .mixedOrders=true)
  (hdst:∀(i:Nat) (o:Oper) (d:Tmp),ops[i]? = some o→o.dst=some d→d<N∧G.Z d=none) (hB:aHz P ops pre t=true) (hsr:SR G N ds σ a w)
  (h:OW P ops (opsL ops pre) σ [] fun σ1 con1=>OWT P ops t σ1 con1 fun σ' con=>Q (fin σ' con)) (hQ:∀ σ a w,Q σ→SR G N ds σ a w→Q' .normal a w):WW (.region id ops true) Q' a w:=by
 unfold aHz at hB
 split at hB
 case h_2=>cases hB
 rename_i l1 hl1
 simp only[AI,AH]at hB
 obtain⟨⟨hnx,hlen⟩,hchk⟩:=hB
 obtain⟨hn0,hwf,hag⟩:=xU hsr
 obtain⟨fb,hfb⟩:=sO (G:=G) (opsL ops pre) σ [] hnx hn0 hwf h
 obtain⟨h1,h2⟩:=hag (fun i=>if i<σ.n then σ.H i else fb i) (fun i o hi=>by
  rcases Bc i σ.n with hlt|hge
  ·rw[Ag hlt];exact hi
  ·rw[hwf.top i hge]at hi;cases hi)
 have h3:=hfb _ h1 (fun i hi=>by simp only;rw[Ae (by omega)])
 have hQ2:∀(s:AS) (a:Act) (w:World),(∃ σ' con',Q (fin σ' con')∧(σ'.n=0→∀ b,G.P0 b)∧Wf σ' con'∧eI σ' con' s)→qW G N ds s a w→Q' .normal a w:=by
  rintro s a w ⟨σ',con',hq,hn',hwf',hag'⟩ hr
  exact hQ _ a w hq (aJz hn' hwf' hag' hr)
 refine hW.regA hm (fun h=>by cases h) (oF hdst hQ2 _ _ _ a _ h2.drew ?_)
 have h4:=aOz (P:=P) (G:=G) (n:=ops.size-pre.length) (l1:=l1) pre (Bx ops.size false) _ (fun m om hm=>by simp only[Array.getD_eq_getD_getElem?,Array.getElem?_replicate]at hm;split at hm<;>cases hm) hl1
  (aHj (fun s' ⟨σ1,con1,hk,hn1,hwf1,hs1⟩ _=>aHl _ _ _ σ1 con1 hchk hn1 hwf1 hk s' hs1) _ _ h3)
 rw[show pre.length+(ops.size-pre.length)=ops.size by omega]at h4
 exact h4
inductive Fl where
 |st
 |wk
 |tr (pre:List Nat) (t:Tr)
def zS(P:Program):List Fl→Code→St→(Exit→St→Prop)→Prop
 |[],c,σ,Q=>AWP P c σ Q
 |.wk::l,c,σ,Q=>∃ σ2,WkR σ σ2∧zS P l c σ2 Q
 |.st::l,.seq x y,σ,Q=>AWP P x σ fun e σ'=>match e with|.normal=>zS P l y σ' Q|e=>Q e σ'
 |.tr pre t::l,.seq (.region _ ops true) y,σ,Q=>OW P ops (opsL ops pre) σ [] fun σ1 con1=>OWT P ops t σ1 con1 fun σ' con=>zS P l y (fin σ' con) Q
 |_::_,_,_,_=>False
def aQv(P:Program):List Fl→Code→Bool
 |[],c=>eA P c
 |.wk::l,c=>aQv P l c
 |.st::l,.seq x y=>eA P x&&aQv P l y
 |.tr pre t::l,.seq (.region _ ops true) y=>aHz P ops pre t&&aQv P l y
 |_::_,_=>false
section
variable {P:Program} {G:Ctx} {N:Nat} {ds:List Deferred}
theorem aSt(hm:P.follows .mixedOrders=true)(hZ:∀ d,G.Z d=none):∀(l:List Fl) (c:Code) (Q:Exit→St→Prop) (σ:St) (a:Act) (w:World),dM N c=true→aQv P l c=true→zS P l c σ Q→SR G N ds σ a w →
  c.wp P (fun e a' w'=>∃ σ',Q e σ'∧SR G N ds σ' a' w') a w:=by
 intro l
 induction l with
 |nil=>intro c Q σ a w hd hl h hs;exact gS hm hZ c Q σ a w hd hl h hs
 |cons f l ih =>
  intro c Q σ a w hd hl h hs
  cases f with
  |wk =>
   obtain⟨σ2,hw,h⟩:=h
   exact ih c Q σ2 a w hd hl h (oC hw hs)
  |st =>
   cases c with
   |seq x y =>
    simp only[dM,aQv,AI]at hd hl
    refine wp_seq (wp_mono (gS hm hZ x _ _ a w hd.1 hl.1 h hs) ?_)
    rintro e a' w' ⟨σ1,hq,hs'⟩
    cases e with
    |normal=>exact ih y Q σ1 a' w' hd.2 hl.2 hq hs'
    |_=>exact⟨σ1,hq,hs'⟩
   |_=>exact h.elim
  |tr pre t =>
   cases c with
   |seq x y =>
    cases x with
    |region id ops draw =>
     cases draw with
     |true =>
      simp only[dM,aQv,AI]at hd hl
      refine wp_seq ?_
      refine zB (WpR.plain P) (Q:=fun σ'=>zS P l y σ' Q) hm (fun i o d hi ho=>⟨oK hd.1 i o d hi ho,hZ d⟩) hl.1 hs h ?_
      intro σ' a' w' hq hs'
      exact ih y Q σ' a' w' hd.2 hl.2 hq hs'
     |false=>exact h.elim
    |_=>exact h.elim
   |_=>exact h.elim
theorem aPu {f N:Nat} {fn:Func} {g:FuncId} {r0 rd rest:Code} {args:List D} {r:D} (l:List Fl) (hm:P.follows .mixedOrders=true) (hf:P.funcs[f]? = some fn) (hb:fn.body=some (.seq r0 (.seq rd rest))) (hname:(fn.name == "runtime.NumGoroutine")=false)
  (hN:fn.ntmps=N) (hd0:dM N r0=true) (hl0:eA P r0=true) (hd1:dM N rest=true) (hl1:aQv P l rest=true) (hg:tW rd=some g) (hrec:lG P g) (ha:args.length≤N)
  (h:AWP P r0 (St0 args N) fun e σ0=>e=.normal∧zS P l rest σ0 fun e σ=>(e=.normal∨e=.ret)∧mW P fn.results.toList σ=some r):Spec P f args r:=by
 intro A W vs hA hl hv
 have hn:¬ fn.name = "runtime.NumGoroutine" := by simpa using hname
 refine⟨fun w=>by simp[callFunc,hf,hn,hb],?_⟩
 refine calls_of_wp_defers hf hb ?_
 subst hN
 refine wp_seq (wp_mono (gS hm (fun _=>rfl) r0 _ _ _ _ hd0 hl0 h (SR0 hA hl hv ha)) ?_)
 rintro e a w ⟨σ0,⟨rfl,h1⟩,hs0⟩
 refine wp_seq (uN hg ?_)
 refine wp_mono (aSt hm (fun _=>rfl) l rest _ _ _ _ hd1 hl1 h1 (aEm { target:=.fn (.func g) #[],args:=#[] } hs0)) ?_
 rintro e a w ⟨σ,⟨he,hr⟩,hs⟩
 obtain⟨v,hrun,hvd⟩:=iX hs hr
 obtain⟨_,_,F,ι,hR,_,_,_,hdf,_⟩:=hs
 have hend:Leaves P fn a.tmps (fun e w'=>∃ v,e=.returned v∧Below W.heap.size W w'∧VD (fun b=>A b∨(W.heap.size≤b∧b<w'.heap.size)) w' r v) a.defers .returning w:=by
  rw[hdf]
  refine leaves_cons (by simp) (args:=#[]) (f:=g) ?_ ((hrec.2 w).mono ?_)
  ·have:=hrec.1 w
   simpa[invoke]using this
  ·rintro e u' w' ⟨rfl,rfl,rfl⟩
   refine⟨v,by simpa[settle]using hrun,v,rfl,⟨hR.kept.os,hR.kept.tape,hR.kept.output,hR.kept.size,fun k hk=>hR.kept.block k hk (fun h=>h)⟩,hvd.mono ?_⟩
   rintro b (h|h|h)
   ·exact .inl h
   ·exact h.elim
   ·exact .inr h
 rcases he with rfl|rfl<;>exact hend
end
theorem dN(P:Program)(c:Code)(σ:St)(Q:Exit→St→Prop):zS P [] c σ Q=AWP P c σ Q:=rfl
theorem lF(P:Program)(l:List Fl)(x y:Code)(σ:St)(Q:Exit→St→Prop):zS P (.st::l) (.seq x y) σ Q=AWP P x σ fun e σ'=>match e with|.normal=>zS P l y σ' Q|e=>Q e σ':=rfl
inductive Tro where
 |leaf
 |one (l:List Oper) (t:Tro)
 |two (l:List Oper) (t:Tro) (m:List Oper) (u:Tro)
def pS(ops:Array Oper):Tr→Tro
 |.leaf=>.leaf
 |.one i t=>.one (opL ops i) (pS ops t)
 |.two i t j u=>.two (opL ops i) (pS ops t) (opL ops j) (pS ops u)
def xV(P:Program)(ops:Array Oper):Tro→St→List Nat→(St→List Nat→Prop)→Prop
 |.leaf,σ,con,k=>k σ con
 |.one l t,σ,con,k=>OW P ops l σ con fun σ' con'=>xV P ops t σ' con' k
 |.two l t m u,σ,con,k=>(OW P ops l σ con fun σ' con'=>xV P ops t σ' con' k)∧(OW P ops m σ con fun σ' con'=>xV P ops u σ' con' k)
theorem rS(P:Program)(ops:Array Oper):∀(t:Tr) (σ:St) (con:List Nat) (k:St→List Nat→Prop),OWT P ops t σ con k=xV P ops (pS ops t) σ con k
 |.leaf,_,_,_=>rfl
 |.one i t,σ,con,k=>by
  simp only[OWT,xV,pS]
  exact congrArg _ (funext fun σ'=>funext fun con'=>rS P ops t σ' con' k)
 |.two i t j u,σ,con,k=>by
  simp only[OWT,xV,pS]
  exact congr (congrArg And (congrArg _ (funext fun σ'=>funext fun con'=>rS P ops t σ' con' k))) (congrArg _ (funext fun σ'=>funext fun con'=>rS P ops u σ' con' k))
def bJi(P:Program)(ops:Array Oper)(l:List Oper)(t:Tro)(σ:St)(k:St→Prop)(_:Dm k):Prop:=OWd P ops l σ [] (fun σ1 con1=>xV P ops t σ1 con1 fun σ' con=>aFh σ' con k .mk) .mk
theorem uD{P:Program}{fl:List Fl}{pre:List Nat}{t:Tr}{id:Nat}{ops:Array Oper}{y:Code}{σ:St}{Q:Exit→St→Prop}(l:List Oper)(t':Tro)(h1:opsL ops pre=l)(h2:pS ops t=t')
  (h:bJi P ops l t' σ (fun σ'=>zS P fl y σ' Q) .mk):zS P (.tr pre t::fl) (.seq (.region id ops true) y) σ Q:=by
 subst h1;subst h2
 show OW P ops (opsL ops pre) σ [] fun σ1 con1=>OWT P ops t σ1 con1 fun σ' con=>zS P fl y (fin σ' con) Q
 simp only[rS]
 exact h
theorem dE(P:Program)(ops:Array Oper)(l:List Oper)(t:Tro)(σ:St)(k:St→Prop)(d:Dm k):bJi P ops l t σ k d=OWd P ops l σ [] (fun σ1 con1=>xV P ops t σ1 con1 fun σ' con=>aFh σ' con k .mk) .mk:=rfl
theorem cR(P:Program)(ops:Array Oper)(σ:St)(con:List Nat)(k:St→List Nat→Prop):xV P ops .leaf σ con k=k σ con:=rfl
theorem dG(P:Program)(ops:Array Oper)(l:List Oper)(t:Tro)(σ:St)(con:List Nat)(k:St→List Nat→Prop):xV P ops (.one l t) σ con k=OWd P ops l σ con (fun σ' con'=>xV P ops t σ' con' k) .mk:=rfl
theorem dF(P:Program)(ops:Array Oper)(l:List Oper)(t:Tro)(m:List Oper)(u:Tro)(σ:St)(con:List Nat)(k:St→List Nat→Prop):xV P ops (.two l t m u) σ con k=(OWd P ops l σ con (fun σ' con'=>xV P ops t σ' con' k) .mk∧OWd P ops m σ con (fun σ' con'=>xV P ops u σ' con' k) .mk):=rfl
end Go.Am
end

section
set_option linter.unusedVariables false
set_option linter.unusedSimpArgs false
open List (map_map mapM_map)
open Go Go.Am Go.Proofs
namespace Go.Am
theorem bQn:lG Tryz.prog 46:=by
 refine⟨fun w=>enters_of Tryz.func46 (by kernel_rfl) rfl _ w,fun w=>?_⟩
 refine callsD_of_wpS Tryz.func46 rfl fun c₀ cs hu=>?_
 apply wpS_region
 simp[wpOpsS,go_sem,recoverD,hu,Tryz.ntmps46,bodyPostS,results,Tryz.results46]
 cases c₀;simp only at hu;subst hu;rfl
def nQ(l:Ch)(n:Int):Int:=l.foldl (fun a f=>if f.1=n then f.2 else a) 0
theorem aQx{l:Ch}{i:Nat}(h:i<l.length)(n:Int):nQ (l.take (i+1)) n=if l[i].1=n then l[i].2 else nQ (l.take i) n:=by
 unfold nQ
 rw[AJ,Aa h,List.foldl_append];rfl
theorem aYr{l:Ch}{n:Int}:nQ l n=0∨∃ f∈l,nQ l n=f.2:=by
 unfold nQ
 suffices ∀(l:Ch) (a:Int),l.foldl (fun a f=>if f.1=n then f.2 else a) a=a∨∃ f∈l,l.foldl (fun a f=>if f.1=n then f.2 else a) a=f.2 from this l 0
 intro l
 induction l with
 |nil=>intro a;exact .inl rfl
 |cons f l ih =>
  intro a
  rw[List.foldl_cons]
  rcases ih (if f.1=n then f.2 else a)with h|⟨g,hg,h⟩
  ·rw[h]
   by_cases e:f.1=n
   ·rw[Ag e];exact .inr ⟨f,Av ..,rfl⟩
   ·rw[Ae e];exact .inl rfl
  ·exact .inr ⟨g,As _ hg,h⟩
theorem aYs{l:Ch}{M:Nat}(h:Bnd M l)(n:Int):(nQ l n).natAbs≤M:=by
 rcases aYr (l:=l) (n:=n)with e|⟨f,hf,e⟩
 ·rw[e];exact An _
 ·rw[e];exact h f hf
theorem aGu{c:List Cl}{e:Nat}(hz:SzX e c):(fU c).length≤10000:=by
 have:∀ d:List Cl,(∀ x∈d,x∈c)→(d.flatMap (iC c)).length≤100*d.length:=by
  intro d
  induction d with
  |nil=>intro _;simp
  |cons x d ih =>
   intro h
   rw[CO,Al,AB]
   have h1:=ih fun y hy=>h y (As _ hy)
   have h2:=hz.bl x (h x (Av ..))
   have h3:(iC c x).length≤x.b.length:=by
    unfold iC
    split
    ·simp
    ·rw[AN];exact BV _ _
   omega
 have h1:=this c fun _ h=>h
 have h2:=hz.len
 unfold fU
 omega
theorem nR(l:List (Int×Int)):inj (cU l)=.d (cU l):=rfl
theorem kZ(H:Nat→Option HO)(avs:List AV)(l:List (Int×Int)):cE H avs (cU l)=gT H avs:=rfl
theorem bGc{c:List Cl}{a b:Int}(h:(a,b)∈fU c):a≠b:=by
 unfold fU at h
 obtain⟨x,hx,h⟩:=Bj.1 h
 unfold iC at h
 split at h
 ·cases h
 ·rename_i h0
  obtain⟨f,hf,he⟩:=AE.1 h
  injection he with h1 h2
  have h3:=(Bk.1 hf).2
  unfold gU at h3
  simp only[AI,AH]at h3
  intro hab
  rw[h2,←hab,←h1]at h3
  omega
theorem aGn{c:List Cl}{a b:Int}{r:Ch}(h:a≠b):dO c [(b,r),(a,[])]=dO c [(a,[]),(b,r)]:=by
 unfold dO
 refine Bu fun x _=>?_
 unfold kD
 by_cases h1:b=x.id
 ·have h2:¬a=x.id:=fun e=>h (e.trans h1.symm)
  simp[CX,h1,h2]
 ·by_cases h2:a=x.id<;>simp[CX,h1,h2]
theorem aUo{a b:Int}(h:a≠b)(v w:AV):pJ [(a,v)] b w=[(a,v),(b,w)]:=by
 simp[pJ,gM,List.findIdx?_cons,h]
def mG(cell face:Int)(z:Cl):Bool:=!decide (z.id=cell) && !decide (z.id=face)
def jE(c:List Cl)(cell face:Int):List Cl:=c.filter (mG cell face)
theorem aGz{c:List Cl}{i:Nat}(h:i<c.length)(a b:Int):jE (c.take (i+1)) a b=jE (c.take i) a b++if mG a b c[i]then[c[i]]else[]:=by
 unfold jE
 rw[AJ,Aa h,BT]
 congr 1
 by_cases e:mG a b c[i]=true<;>simp[e]
theorem aDr(c:List Cl)(a b:Int):(jE c a b).length≤c.length:=BV _ _
def pF(z n:Int)(l:Ch):Ch:=(l.filter fun f=>!decide (f.1=n)).map fun f=>(f.1,z*f.2)
theorem aXw{l:Ch}{i:Nat}(h:i<l.length)(z n:Int):pF z n (l.take (i+1))=pF z n (l.take i)++if l[i].1=n then[]else[(l[i].1,z*l[i].2)]:=by
 unfold pF
 rw[AJ,Aa h,BT,By]
 congr 1
 by_cases e:l[i].1=n<;>simp[e]
theorem aBw(z n:Int)(l:Ch):(pF z n l).length≤l.length:=by unfold pF;rw[AN];exact BV _ _
theorem aMn{z n:Int}{l:Ch}{K M:Nat}(hz:z.natAbs≤K)(h:Bnd M l):Bnd (K*M) (pF z n l):=fun x hx=>by
 unfold pF at hx
 obtain⟨f,hf,rfl⟩:=AE.1 hx
 rw[Int.natAbs_mul]
 exact Nat.mul_le_mul hz (h f (Bk.1 hf).1)
theorem aXx{z n:Int}{l:Ch}(h:Keys l):Keys (pF z n l):=fun x hx=>by
 unfold pF at hx
 obtain⟨f,hf,rfl⟩:=AE.1 hx
 exact h f (Bk.1 hf).1
def bPc(l:Ch)(face:Int):Ch:=pF (-nQ l face) face l
def qS(c:List Cl)(cell face:Int):List (Int×Ch):=[(cell,[]),(face,bV [] (bPc (bOf c cell) face))]
def bHb(c:List Cl)(cell face:Int):List Cl×List (Int×Ch)×Int :=
 if(bW c cell).isSome=false∨(bW c face).isSome=false then([],[],250)else if(cell,face) ∉ fU c then([],[],310)else(jE c cell face,dO c (qS c cell face),0)
theorem yE{H H':Nat→Option HO}{ρ:Nat→Nat}:oB H H' ρ .nil (.d (.sl []))↔True:=⟨fun _=>trivial,fun _=>⟨rfl,fun a ha=>by simp[vis]at ha⟩⟩
theorem aOg:aG []=.sl []:=rfl
theorem bAx{H H':Nat→Option HO}{ρ:Nat→Nat}:Sub H H' ρ .nil (.d (.sl []))↔True:=yE
theorem aIc{H:Nat→Option HO}{ρ:Nat→Nat}{t:TypeId}{id n:Nat}{l:Ch}(hn:l.length=n)(hH:H id=some (.cells t ((flt dK l).map .d))):Sub H (nZ 1 []) ρ (.own id 0 n 3) (.d (aG l)):=by
 refine kW ?_ fun a _ id h=>by simp[nZ]at h
 have e1:=eR cG hn
 have e2:=eF (by decide) cG hn
 have e3:=cB cG l
 rw[hn]at e3
 rw[iS,hH]
 simp only[CH,Bf,BS,e1,nP,AW,e2]
 rw[Ag ⟨by rw[AN];omega,by omega⟩];rfl
def bQv:List Fl:=[.st,.st,.st,.st,.st,.st,.st,.st,.st,.st]
def uS:Tr:=.one 9 (.one 10 (.one 11 (.one 12 (.one 13 .leaf))))
def aAz:Tr:=.two 4 (.one 7 (.one 8 uS)) 7 (.two 4 (.one 8 uS) 8 (.one 4 uS))
def bWw:List Fl:=bQv++[.tr [0,1,2,3,5,6] aAz]
set_option maxHeartbeats 4000000 in
set_option maxRecDepth 10000 in
theorem uX{c:List Cl}{e:Nat}(a b:Int)(hc:Inc c)(hz:SzX e c)(hk:∀ x∈c,Keys x.b)(he:e+e+14<4398046511104):Spec Tryz.prog 16 [aF c,.i .i64 a,.i .i64 b] (eG (bHb c a b)):=by
 have hlen:=hz.len
 have hFa:=vG hc a (by omega)
 have hFb:=vG hc b (by omega)
 have hFr:=aQt hz (by omega)
 have hfl:=aGu hz
 have hCt:=cAt (fU c) a b (by omega)
 have hr:∃ p x q y,(bW c a).isSome=p∧(bW c a).getD pH=x∧(bW c b).isSome=q∧(bW c b).getD pH=y:=⟨_,_,_,_,rfl,rfl,rfl,rfl⟩
 obtain⟨p,x,q,y,hp,hx,hq,hy⟩:=hr
 have hba:bOf c a=x.b:=by unfold bOf;rw[hx]
 have hxl:x.b.length≤100:=by rw[←hba];exact uC hz.bl a
 have hxb:Bnd (2^e) x.b:=by rw[←hba];exact oR hz.bb a
 unfold vB at hFa hFb
 rw[hp,hx]at hFa
 rw[hq,hy]at hFb
 unfold bHb qS
 rw[hp,hq,hba]
 refine aPu (N:=114) bWw aI Tryz.func16 rfl rfl rfl (by kernel_rfl) (by kernel_rfl) (by kernel_rfl) (by kernel_rfl) rfl bQn (by simp) ?_
 simp[-map_map,-mapM_map,↓KW,aF,bWw,bQv,↓lF]
 refine aA (ds:=[aF c,.i .i64 a]) (by rfl) hFa ?_
 simp[-map_map,-mapM_map,↓KW,aF,bS,aE,aB,aC,↓lF]
 refine aA (ds:=[aF c,.i .i64 b]) (by rfl) hFb ?_
 cases p with
 |false=>simp[-map_map,-mapM_map,↓KW,aF,bS,aE,aB,aC,cN,eG,aV,↓lF]
 |true =>
  cases q with
  |false=>simp[-map_map,-mapM_map,↓KW,aF,bS,aE,aB,aC,cN,eG,aV,↓lF]
  |true =>
   simp[-map_map,-mapM_map,↓KW,aF,bS,aE,aB,aC,↓lF]
   refine aA (ds:=[aF c]) (by rfl) hFr ?_
   simp[-map_map,-mapM_map,↓KW,aF,bS,aE,aB,aC,nR,kZ,↓lF]
   refine aA (ds:=[cU (fU c),.ag [.i .i64 a,.i .i64 b]]) (by rfl) hCt ?_
   by_cases hin:(a,b)∈fU c
   rotate_left
   ·rw[Bq hin]
    simp[-map_map,-mapM_map,↓KW,aF,bS,aE,aB,aC,nR,kZ,cN,eG,aV,hin,↓lF]
   ·rw[BA hin]
    have hkx:Keys x.b:=by
     cases hfx:bW c a with
     |none=>rw[hfx]at hp;cases hp
     |some x' =>
      rw[hfx]at hx
      have:x'=x:=hx
      subst this
      exact hk _ (cV hfx).1
    have hne:=bGc hin
    clear hFa hFb hFr hCt hp hq hx hy hfl
    simp[-map_map,-mapM_map,↓KW,aF,aG,bS,aE,aB,aC,nR,kZ,↓lF]
    refine aU (fun i:Nat=>i≤x.b.length) (fun i=>StL [(0,.d (aF c)),(1,.d (.i .i64 a)),(2,.d (.i .i64 b)),(9,.ptr 1 0),(13,.ptr 2 0),(48,.d (aG x.b)),(49,.d (.i .i64 x.b.length)),(50,.d (.i .i64 (i:Int)))] none [.cells 43 [.d (.i .i64 x.id),.d (.i .i64 x.dim),.d (aG x.b)],.cells 74 [.d (.b (decide (nQ (x.b.take i) b<0))),.d (aN (aX (nQ (x.b.take i) b).natAbs))]]) (fun i=>x.b.length-i) 0 (An _) ?_ ?_
    ·refine aY [1,3] (by simp) ?_ ?_<;>simp[-map_map,upd,aT,Γ0,aF,aG,nQ,cP,aN,yE]
    ·intro i hi
     by_cases hgo:i<x.b.length
     ·have q1:(i:Int)<x.b.length:=by omega
      have hf:x.b[i]? = some x.b[i]:=Aa hgo
      have hw:Ah.wrap ((i:Int)+1)=(i:Int)+1:=aR (by omega) (by omega)
      have htk:=aQx hgo b
      refine(show ∃ f,x.b[i]=f from⟨_,rfl⟩).elim fun f hfe=>?_
      rw[hfe]at hf htk
      refine(show ∃ z,nQ (x.b.take i) b=z from⟨_,rfl⟩).elim fun z hze=>?_
      rw[hze]at htk
      simp only[hze]
      have hef:dK f=[.i .i64 f.1,.b (decide (f.2<0)),aN (aX f.2.natAbs)]:=rfl
      by_cases h0:f.1=b
      ·have h0':((f.1==b):Bool)=true:=by simpa using h0
       rw[Ag h0]at htk
       have q3:(((b:Int)==(b:Int)):Bool)=true:=by simp
       simp[-map_map,-mapM_map,↓KW,aF,aG,q1,hf,hef,h0,h0',q3,hw,aK,aD,aM,aE,aB,aC]
       refine aJ (i+1) hgo (Ab hgo (Ad _)) (aY [1,2] (by simp) ?_ ?_)<;>simp[-map_map,upd,aT,Γ0,aF,aG,htk]
      ·have h0':((f.1==b):Bool)=false:=by simpa using h0
       rw[Ae h0]at htk
       simp[-map_map,-mapM_map,↓KW,aF,aG,q1,hf,hef,h0,h0',hw,aK,aD,aM,aE,aB,aC]
       refine aJ (i+1) hgo (Ab hgo (Ad _)) (aY [1,2] (by simp) ?_ ?_)<;>simp[-map_map,upd,aT,Γ0,aF,aG,htk]
     ·have q1:¬(i:Int)<x.b.length:=by omega
      rw[Ai (by omega)]
      have hzb:=aYs hxb b
      refine(show ∃ z,nQ x.b b=z from⟨_,rfl⟩).elim fun z hze=>?_
      rw[hze]at hzb
      have hNg:=bNq z (szE hzb (by omega))
      obtain⟨zn,hzn⟩:∃ zn,-z=zn:=⟨_,rfl⟩
      have hzb':zn.natAbs≤2^e:=by rw[←hzn,Int.natAbs_neg];exact hzb
      have hcol:bPc x.b b=pF zn b x.b:=by unfold bPc;rw[hze,hzn]
      rw[hzn]at hNg
      clear hzn
      simp only[hze]
      simp[-map_map,-mapM_map,↓KW,aF,aG,q1,aE,aB,aC,aK,aD,aM,↓lF]
      refine aU (fun y:Nat×Ch=>y.1≤x.b.length∧pF zn b (x.b.take y.1)=y.2) (fun y=>nB 16 [(0,.d (aF c)),(1,.d (.i .i64 a)),(2,.d (.i .i64 b)),(13,.ptr 1 0),(62,.d (aG x.b)),(63,.d (.i .i64 x.b.length)),(64,.d (.i .i64 (y.1:Int)))] (.cells 74 [.d (.b (decide (z<0))),.d (aN (aX z.natAbs))]) 76 3 y.2.length (flt dK y.2)) (fun y=>x.b.length-y.1) (0,[]) ⟨An _,rfl⟩ ?_ ?_
      ·simp only[A8,nB]
       refine aY [2] (by simp) ?_ ?_<;>simp[-map_map,upd,aT,Γ0,aF,aG,bY]
      ·rintro⟨j,l⟩ ⟨hj,hl⟩
       simp only at hj hl ⊢
       by_cases hgo:j<x.b.length
       ·have q1:(j:Int)<x.b.length:=by omega
        have hf:x.b[j]? = some x.b[j]:=Aa hgo
        have hw:Ah.wrap ((j:Int)+1)=(j:Int)+1:=aR (by omega) (by omega)
        have htk:=aXw hgo zn b
        rw[hl]at htk
        have hll:l.length≤j:=by rw[←hl];exact Ap (aBw _ _ _) (by rw[AM];omega)
        have hfb:=hxb _ (Ak hgo)
        refine(show ∃ f,x.b[j]=f from⟨_,rfl⟩).elim fun f hfe=>?_
        rw[hfe]at hf htk hfb
        have hef:dK f=[.i .i64 f.1,.b (decide (f.2<0)),aN (aX f.2.natAbs)]:=rfl
        have hm1:(1:Nat)≤maxLen:=aW (by decide)
        by_cases h0:f.1=b
        ·have h0':((f.1 != b):Bool)=false:=by simpa using h0
         rw[Ag h0,Bd]at htk
         have q3:(((b:Int) != (b:Int)):Bool)=false:=by simp
         rcases hn:l.length with _|k
         ·simp only[hn,nB]
          simp[-map_map,-mapM_map,↓KW,aF,aG,q1,hf,hef,h0,h0',q3,hw,aK,aD,aM,aE,aB,aC]
          refine aJ (τ:=Nat×Ch) (j+1,l) ⟨hgo,htk⟩ (Ab hgo (Ad _)) ?_
          simp only[hn,nB]
          refine aY [1] (by simp) ?_ ?_<;>simp[-map_map,upd,aT,Γ0,aF,aG,bY]
         ·simp only[hn,nB]
          simp[-map_map,-mapM_map,↓KW,aF,aG,q1,hf,hef,h0,h0',q3,hw,aK,aD,aM,aE,aB,aC]
          refine aJ (τ:=Nat×Ch) (j+1,l) ⟨hgo,htk⟩ (Ab hgo (Ad _)) ?_
          simp only[hn,nB]
          refine aY [1,2] (by simp) ?_ ?_<;>simp[-map_map,upd,aT,Γ0,aF,aG,bY]
        ·have h0':((f.1 != b):Bool)=true:=by simpa using h0
         rw[Ae h0]at htk
         have hMu:=tO zn f.2 (mM hzb' (by omega)) (mM hfb (by omega))
         rcases hn:l.length with _|k
         ·have e0:l=[]:=Au hn
          simp only[hn,nB]
          simp[-map_map,-mapM_map,↓KW,aF,aG,q1,hf,hef,h0,h0',hw,aK,aD,aM,aE,aB,aC]
          refine aA (ds:=[encZ z]) (by rfl) hNg ?_
          simp[-map_map,-mapM_map,↓KW,aF,aG,bF,q1,hf,hef,h0,h0',hw,aK,aD,aM,aE,aB,aC]
          refine aA (ds:=[encZ zn,encZ f.2]) (by rfl) hMu ?_
          simp[-map_map,-mapM_map,↓KW,aF,aG,bF,q1,hf,hef,h0,h0',hw,hm1,aK,aD,aM,aE,aB,aC]
          refine aJ (τ:=Nat×Ch) (j+1,l++[(f.1,zn*f.2)]) ⟨hgo,htk⟩ (Ab hgo (Ad _)) ?_
          simp only[Al,hn,Ar,nB]
          refine aY [1,4] (by simp) ?_ ?_<;>simp[-map_map,upd,aT,Γ0,aF,aG,bB,e0,bZ]
         ·have hbb:=cC (n:=k+1) (by omega)
          have hcl:=cB cG l
          rw[hn]at hcl
          have hal:=dZ iJ l
          simp only[hn,nB]
          simp[-map_map,-mapM_map,↓KW,aF,aG,q1,hf,hef,h0,h0',hw,aK,aD,aM,aE,aB,aC]
          refine aA (ds:=[encZ z]) (by rfl) hNg ?_
          simp[-map_map,-mapM_map,↓KW,aF,aG,bF,q1,hf,hef,h0,h0',hw,aK,aD,aM,aE,aB,aC]
          refine aA (ds:=[encZ zn,encZ f.2]) (by rfl) hMu ?_
          simp[-map_map,-mapM_map,↓KW,aF,aG,bF,q1,hf,hef,h0,h0',hw,hm1,hbb,hcl,hal,aW,aK,aD,aM,aE,aB,aC]
          refine aJ (τ:=Nat×Ch) (j+1,l++[(f.1,zn*f.2)]) ⟨hgo,htk⟩ (Ab hgo (Ad _)) ?_
          simp only[Al,hn,Ar,nB]
          refine aY [1,5] (by simp) ?_ ?_<;>simp[-map_map,upd,aT,Γ0,aF,aG,bB,dP,bZ]
       ·have q1:¬(j:Int)<x.b.length:=by omega
        rw[Ai (by omega)]at hl
        have hlb:=aMn (n:=b) (z:=zn) hzb' hxb
        have hlk:=aXx (n:=b) (z:=zn) hkx
        have hlL:=aBw zn b x.b
        rw[hl]at hlb hlk hlL hcol
        rcases hn:l.length with _|k
        ·have e0:l=[]:=Au hn
         simp only[hn,nB]
         simp[-map_map,-mapM_map,↓KW,aF,aG,q1,aE,aB,aC,aK,aD,aM,↓lF]
         refine aU (fun y:Nat×List Cl=>y.1≤c.length∧jE (c.take y.1) a b=y.2) (fun y=>grS 19 [(0,.d (aF c)),(1,.d (.i .i64 a)),(2,.d (.i .i64 b)),(16,.d (aG l)),(84,.d (aF c)),(85,.d (.i .i64 c.length)),(86,.d (.i .i64 (y.1:Int)))] 43 3 y.2.length (flt bJ y.2)) (fun y=>c.length-y.1) (0,[]) ⟨An _,rfl⟩ ?_ ?_
         ·simp only[A8,grS]
          refine aY [] (by simp) ?_ ?_<;>simp[-map_map,upd,aT,Γ0,aF,bY,e0,aOg,bAx]
         ·rintro⟨i,out⟩ ⟨hi,ho⟩
          simp only at hi ho ⊢
          by_cases hgo:i<c.length
          ·have q1:(i:Int)<c.length:=by omega
           have hx:c[i]? = some c[i]:=Aa hgo
           have hw:Ah.wrap ((i:Int)+1)=(i:Int)+1:=aR (by omega) (by omega)
           have htk:=aGz hgo a b
           rw[ho]at htk
           have hln:out.length≤i:=by rw[←ho];exact Ap (aDr _ _ _) (by rw[AM];omega)
           refine(show ∃ y,c[i]=y from⟨_,rfl⟩).elim fun y hye=>?_
           rw[hye]at hx htk
           have hyc:bJ y=[D.i .i64 y.id,.i .i64 y.dim,aG y.b]:=rfl
           have hm1:(1:Nat)≤maxLen:=aW (by decide)
           by_cases h0:y.id=a
           ·have h0':((y.id != a):Bool)=false:=by simpa using h0
            have hkp:mG a b y=false:=by unfold mG;simp[h0]
            rw[hkp]at htk
            simp only[AU,BB,Bd]at htk
            have q3:(((a:Int) != (a:Int)):Bool)=false:=by simp
            rcases hn:out.length with _|m
            ·simp only[hn,grS]
             simp[-map_map,-mapM_map,↓KW,aF,q1,hx,hyc,h0,h0',q3,hw,aK,aD,aM,aE,aB,aC]
             refine aJ (τ:=Nat×List Cl) (i+1,out) ⟨hgo,htk⟩ (Ab hgo (Ad _)) ?_
             simp only[hn,grS]
             refine aY [] (by simp) ?_ ?_<;>simp[-map_map,upd,aT,Γ0,aF,bY]
            ·simp only[hn,grS]
             simp[-map_map,-mapM_map,↓KW,aF,q1,hx,hyc,h0,h0',q3,hw,aK,aD,aM,aE,aB,aC]
             refine aJ (τ:=Nat×List Cl) (i+1,out) ⟨hgo,htk⟩ (Ab hgo (Ad _)) ?_
             simp only[hn,grS]
             refine aY [1] (by simp) ?_ ?_<;>simp[-map_map,upd,aT,Γ0,aF,bY]
           ·have h0':((y.id != a):Bool)=true:=by simpa using h0
            by_cases h1:y.id=b
            ·have h1':((y.id != b):Bool)=false:=by simpa using h1
             have hkp:mG a b y=false:=by unfold mG;simp[h1]
             rw[hkp]at htk
             simp only[AU,BB,Bd]at htk
             have q3:(((b:Int) != (b:Int)):Bool)=false:=by simp
             rw[h1]at h0'
             rcases hn:out.length with _|m
             ·simp only[hn,grS]
              simp[-map_map,-mapM_map,↓KW,aF,q1,hx,hyc,h1,h0',q3,hw,aK,aD,aM,aE,aB,aC]
              refine aJ (τ:=Nat×List Cl) (i+1,out) ⟨hgo,htk⟩ (Ab hgo (Ad _)) ?_
              simp only[hn,grS]
              refine aY [] (by simp) ?_ ?_<;>simp[-map_map,upd,aT,Γ0,aF,bY]
             ·simp only[hn,grS]
              simp[-map_map,-mapM_map,↓KW,aF,q1,hx,hyc,h1,h0',q3,hw,aK,aD,aM,aE,aB,aC]
              refine aJ (τ:=Nat×List Cl) (i+1,out) ⟨hgo,htk⟩ (Ab hgo (Ad _)) ?_
              simp only[hn,grS]
              refine aY [1] (by simp) ?_ ?_<;>simp[-map_map,upd,aT,Γ0,aF,bY]
            ·have h1':((y.id != b):Bool)=true:=by simpa using h1
             have hkp:mG a b y=true:=by unfold mG;simp[h0,h1]
             rw[hkp,Ag rfl]at htk
             rcases hn:out.length with _|m
             ·have e0:out=[]:=Au hn
              simp only[hn,grS]
              simp[-map_map,-mapM_map,↓KW,aF,q1,hx,hyc,h0,h0',h1,h1',hw,hm1,aK,aD,aM,aE,aB,aC]
              refine aJ (τ:=Nat×List Cl) (i+1,out++[y]) ⟨hgo,htk⟩ (Ab hgo (Ad _)) ?_
              simp only[Al,hn,Ar,grS]
              refine aY [3] (by simp) ?_ ?_<;>simp[-map_map,upd,aT,Γ0,aF,bS,e0,bZ]
             ·have hbb:=cC (n:=m+1) (by omega)
              have hcl:=cB cS out
              rw[hn]at hcl
              have hal:=dZ pW out
              simp only[hn,grS]
              simp[-map_map,-mapM_map,↓KW,aF,q1,hx,hyc,h0,h0',h1,h1',hw,hm1,hbb,hcl,hal,aW,aK,aD,aM,aE,aB,aC]
              refine aJ (τ:=Nat×List Cl) (i+1,out++[y]) ⟨hgo,htk⟩ (Ab hgo (Ad _)) ?_
              simp only[Al,hn,Ar,grS]
              refine aY [4] (by simp) ?_ ?_<;>simp[-map_map,upd,aT,Γ0,aF,bS,dP,bZ]
          ·have q1:¬(i:Int)<c.length:=by omega
           rw[Ai (by omega)]at ho
           have hM:=rW (l:=l) (e:=e+e) (by rw[←mK];exact hlb) hlk (by omega) he
           refine(show ∃ r,bV [] l=r from⟨_,rfl⟩).elim fun r hr=>?_
           rw[hr]at hM
           have hMp1:=lQ c [(a,[]),(b,r)] (kG [(a,[]),(b,r)]) rfl (aGp _) (by omega)
           have hMp2:=lQ c [(b,r),(a,[])] (kG [(b,r),(a,[])]) rfl (aGp _) (by omega)
           rw[aGn hne]at hMp2
           have hmp1:∀ v w:AV,pJ [(a,v)] b w=[(a,v),(b,w)]:=fun v w=>aUo hne v w
           have hmp2:∀ v w:AV,pJ [(b,v)] a w=[(b,v),(a,w)]:=fun v w=>aUo (Ne.symm hne) v w
           rw[hcol,hr,ho]
           rcases hn:out.length with _|m
           ·have e0:out=[]:=Au hn
            simp only[grS]
            simp[-map_map,-mapM_map,↓KW,aF,q1]
            refine uD _ _ rfl rfl ?_
            simp only[opsL,opL,aAz,uS,pS,CO,DL,Cp,BS,B6,BZ,B8,BQ]
            simp[-map_map,-mapM_map,↓KW,aF,q1,↓dE,↓dF,↓dG,↓cR,↓dN,cD,cJ]
            refine⟨?_,?_⟩
            ·refine aA (ds:=[aG l]) (by rfl) hM ?_
             simp[-map_map,-mapM_map,↓KW,aF,q1,↓dE,↓dF,↓dG,↓cR,↓dN,cD,cJ,dA,hmp1,hmp2,aQ,bG]
             refine aA (ds:=[aF c,kG [(a,[]),(b,r)]]) (by rfl) hMp1 ?_
             simp[-map_map,-mapM_map,↓KW,aF,q1,↓dE,↓dF,↓dG,↓cR,↓dN,cD,cJ,dA,hmp1,hmp2,e0,aQ,bG,eE,dB,gV,cN,eG,hin]
            ·refine aA (ds:=[aG l]) (by rfl) hM ?_
             simp[-map_map,-mapM_map,↓KW,aF,q1,↓dE,↓dF,↓dG,↓cR,↓dN,cD,cJ,dA,hmp1,hmp2,aQ,bG]
             refine⟨?_,?_⟩
             ·refine aA (ds:=[aF c,kG [(a,[]),(b,r)]]) (by rfl) hMp1 ?_
              simp[-map_map,-mapM_map,↓KW,aF,q1,↓dE,↓dF,↓dG,↓cR,↓dN,cD,cJ,dA,hmp1,hmp2,e0,aQ,bG,eE,dB,gV,cN,eG,hin]
             ·refine aA (ds:=[aF c,kG [(b,r),(a,[])]]) (by rfl) hMp2 ?_
              simp[-map_map,-mapM_map,↓KW,aF,q1,↓dE,↓dF,↓dG,↓cR,↓dN,cD,cJ,dA,hmp1,hmp2,e0,aQ,bG,eE,dB,gV,cN,eG,hin]
           ·have e1:=eR cS hn
            have e2:=eF (by decide) cS hn
            have e3:=cB cS out
            rw[hn]at e3
            simp only[grS]
            simp[-map_map,-mapM_map,↓KW,aF,q1]
            refine uD _ _ rfl rfl ?_
            simp only[opsL,opL,aAz,uS,pS,CO,DL,Cp,BS,B6,BZ,B8,BQ]
            simp[-map_map,-mapM_map,↓KW,aF,q1,↓dE,↓dF,↓dG,↓cR,↓dN,cD,cJ]
            refine⟨?_,?_⟩
            ·refine aA (ds:=[aG l]) (by rfl) hM ?_
             simp[-map_map,-mapM_map,↓KW,aF,q1,↓dE,↓dF,↓dG,↓cR,↓dN,cD,cJ,dA,hmp1,hmp2,aQ,bG]
             refine aA (ds:=[aF c,kG [(a,[]),(b,r)]]) (by rfl) hMp1 ?_
             simp[-map_map,-mapM_map,↓KW,aF,q1,↓dE,↓dF,↓dG,↓cR,↓dN,cD,cJ,dA,hmp1,hmp2,e1,e2,e3,aQ,bG,eE,dB,gV,cN,eG,hin]
            ·refine aA (ds:=[aG l]) (by rfl) hM ?_
             simp[-map_map,-mapM_map,↓KW,aF,q1,↓dE,↓dF,↓dG,↓cR,↓dN,cD,cJ,dA,hmp1,hmp2,aQ,bG]
             refine⟨?_,?_⟩
             ·refine aA (ds:=[aF c,kG [(a,[]),(b,r)]]) (by rfl) hMp1 ?_
              simp[-map_map,-mapM_map,↓KW,aF,q1,↓dE,↓dF,↓dG,↓cR,↓dN,cD,cJ,dA,hmp1,hmp2,e1,e2,e3,aQ,bG,eE,dB,gV,cN,eG,hin]
             ·refine aA (ds:=[aF c,kG [(b,r),(a,[])]]) (by rfl) hMp2 ?_
              simp[-map_map,-mapM_map,↓KW,aF,q1,↓dE,↓dF,↓dG,↓cR,↓dN,cD,cJ,dA,hmp1,hmp2,e1,e2,e3,aQ,bG,eE,dB,gV,cN,eG,hin]
        ·have hfz:∀(H:Nat→Option HO) (ρ:Nat→Nat),H 2=some (.cells 76 ((flt dK l).map .d))→Sub H (nZ 1 []) ρ (.own 2 0 (k+1) 3) (.d (aG l)):=fun H ρ hH=>aIc hn hH
         simp only[hn,nB]
         simp[-map_map,-mapM_map,↓KW,aF,aG,q1,aE,aB,aC,aK,aD,aM,↓lF]
         refine aU (fun y:Nat×List Cl=>y.1≤c.length∧jE (c.take y.1) a b=y.2) (fun y=>grS 19 [(0,.d (aF c)),(1,.d (.i .i64 a)),(2,.d (.i .i64 b)),(16,.d (aG l)),(84,.d (aF c)),(85,.d (.i .i64 c.length)),(86,.d (.i .i64 (y.1:Int)))] 43 3 y.2.length (flt bJ y.2)) (fun y=>c.length-y.1) (0,[]) ⟨An _,rfl⟩ ?_ ?_
         ·simp only[A8,grS]
          refine aY [] (by simp) ?_ ?_<;>simp[-map_map,upd,aT,Γ0,aF,bY,hfz]
         ·rintro⟨i,out⟩ ⟨hi,ho⟩
          simp only at hi ho ⊢
          by_cases hgo:i<c.length
          ·have q1:(i:Int)<c.length:=by omega
           have hx:c[i]? = some c[i]:=Aa hgo
           have hw:Ah.wrap ((i:Int)+1)=(i:Int)+1:=aR (by omega) (by omega)
           have htk:=aGz hgo a b
           rw[ho]at htk
           have hln:out.length≤i:=by rw[←ho];exact Ap (aDr _ _ _) (by rw[AM];omega)
           refine(show ∃ y,c[i]=y from⟨_,rfl⟩).elim fun y hye=>?_
           rw[hye]at hx htk
           have hyc:bJ y=[D.i .i64 y.id,.i .i64 y.dim,aG y.b]:=rfl
           have hm1:(1:Nat)≤maxLen:=aW (by decide)
           by_cases h0:y.id=a
           ·have h0':((y.id != a):Bool)=false:=by simpa using h0
            have hkp:mG a b y=false:=by unfold mG;simp[h0]
            rw[hkp]at htk
            simp only[AU,BB,Bd]at htk
            have q3:(((a:Int) != (a:Int)):Bool)=false:=by simp
            rcases hn:out.length with _|m
            ·simp only[hn,grS]
             simp[-map_map,-mapM_map,↓KW,aF,q1,hx,hyc,h0,h0',q3,hw,aK,aD,aM,aE,aB,aC]
             refine aJ (τ:=Nat×List Cl) (i+1,out) ⟨hgo,htk⟩ (Ab hgo (Ad _)) ?_
             simp only[hn,grS]
             refine aY [] (by simp) ?_ ?_<;>simp[-map_map,upd,aT,Γ0,aF,bY]
            ·simp only[hn,grS]
             simp[-map_map,-mapM_map,↓KW,aF,q1,hx,hyc,h0,h0',q3,hw,aK,aD,aM,aE,aB,aC]
             refine aJ (τ:=Nat×List Cl) (i+1,out) ⟨hgo,htk⟩ (Ab hgo (Ad _)) ?_
             simp only[hn,grS]
             refine aY [1] (by simp) ?_ ?_<;>simp[-map_map,upd,aT,Γ0,aF,bY]
           ·have h0':((y.id != a):Bool)=true:=by simpa using h0
            by_cases h1:y.id=b
            ·have h1':((y.id != b):Bool)=false:=by simpa using h1
             have hkp:mG a b y=false:=by unfold mG;simp[h1]
             rw[hkp]at htk
             simp only[AU,BB,Bd]at htk
             have q3:(((b:Int) != (b:Int)):Bool)=false:=by simp
             rw[h1]at h0'
             rcases hn:out.length with _|m
             ·simp only[hn,grS]
              simp[-map_map,-mapM_map,↓KW,aF,q1,hx,hyc,h1,h0',q3,hw,aK,aD,aM,aE,aB,aC]
              refine aJ (τ:=Nat×List Cl) (i+1,out) ⟨hgo,htk⟩ (Ab hgo (Ad _)) ?_
              simp only[hn,grS]
              refine aY [] (by simp) ?_ ?_<;>simp[-map_map,upd,aT,Γ0,aF,bY]
             ·simp only[hn,grS]
              simp[-map_map,-mapM_map,↓KW,aF,q1,hx,hyc,h1,h0',q3,hw,aK,aD,aM,aE,aB,aC]
              refine aJ (τ:=Nat×List Cl) (i+1,out) ⟨hgo,htk⟩ (Ab hgo (Ad _)) ?_
              simp only[hn,grS]
              refine aY [1] (by simp) ?_ ?_<;>simp[-map_map,upd,aT,Γ0,aF,bY]
            ·have h1':((y.id != b):Bool)=true:=by simpa using h1
             have hkp:mG a b y=true:=by unfold mG;simp[h0,h1]
             rw[hkp,Ag rfl]at htk
             rcases hn:out.length with _|m
             ·have e0:out=[]:=Au hn
              simp only[hn,grS]
              simp[-map_map,-mapM_map,↓KW,aF,q1,hx,hyc,h0,h0',h1,h1',hw,hm1,aK,aD,aM,aE,aB,aC]
              refine aJ (τ:=Nat×List Cl) (i+1,out++[y]) ⟨hgo,htk⟩ (Ab hgo (Ad _)) ?_
              simp only[Al,hn,Ar,grS]
              refine aY [3] (by simp) ?_ ?_<;>simp[-map_map,upd,aT,Γ0,aF,bS,e0,bZ]
             ·have hbb:=cC (n:=m+1) (by omega)
              have hcl:=cB cS out
              rw[hn]at hcl
              have hal:=dZ pW out
              simp only[hn,grS]
              simp[-map_map,-mapM_map,↓KW,aF,q1,hx,hyc,h0,h0',h1,h1',hw,hm1,hbb,hcl,hal,aW,aK,aD,aM,aE,aB,aC]
              refine aJ (τ:=Nat×List Cl) (i+1,out++[y]) ⟨hgo,htk⟩ (Ab hgo (Ad _)) ?_
              simp only[Al,hn,Ar,grS]
              refine aY [4] (by simp) ?_ ?_<;>simp[-map_map,upd,aT,Γ0,aF,bS,dP,bZ]
          ·have q1:¬(i:Int)<c.length:=by omega
           rw[Ai (by omega)]at ho
           have hM:=rW (l:=l) (e:=e+e) (by rw[←mK];exact hlb) hlk (by omega) he
           refine(show ∃ r,bV [] l=r from⟨_,rfl⟩).elim fun r hr=>?_
           rw[hr]at hM
           have hMp1:=lQ c [(a,[]),(b,r)] (kG [(a,[]),(b,r)]) rfl (aGp _) (by omega)
           have hMp2:=lQ c [(b,r),(a,[])] (kG [(b,r),(a,[])]) rfl (aGp _) (by omega)
           rw[aGn hne]at hMp2
           have hmp1:∀ v w:AV,pJ [(a,v)] b w=[(a,v),(b,w)]:=fun v w=>aUo hne v w
           have hmp2:∀ v w:AV,pJ [(b,v)] a w=[(b,v),(a,w)]:=fun v w=>aUo (Ne.symm hne) v w
           rw[hcol,hr,ho]
           rcases hn:out.length with _|m
           ·have e0:out=[]:=Au hn
            simp only[grS]
            simp[-map_map,-mapM_map,↓KW,aF,q1]
            refine uD _ _ rfl rfl ?_
            simp only[opsL,opL,aAz,uS,pS,CO,DL,Cp,BS,B6,BZ,B8,BQ]
            simp[-map_map,-mapM_map,↓KW,aF,q1,↓dE,↓dF,↓dG,↓cR,↓dN,cD,cJ]
            refine⟨?_,?_⟩
            ·refine aA (ds:=[aG l]) (by rfl) hM ?_
             simp[-map_map,-mapM_map,↓KW,aF,q1,↓dE,↓dF,↓dG,↓cR,↓dN,cD,cJ,dA,hmp1,hmp2,aQ,bG]
             refine aA (ds:=[aF c,kG [(a,[]),(b,r)]]) (by rfl) hMp1 ?_
             simp[-map_map,-mapM_map,↓KW,aF,q1,↓dE,↓dF,↓dG,↓cR,↓dN,cD,cJ,dA,hmp1,hmp2,e0,aQ,bG,eE,dB,gV,cN,eG,hin]
            ·refine aA (ds:=[aG l]) (by rfl) hM ?_
             simp[-map_map,-mapM_map,↓KW,aF,q1,↓dE,↓dF,↓dG,↓cR,↓dN,cD,cJ,dA,hmp1,hmp2,aQ,bG]
             refine⟨?_,?_⟩
             ·refine aA (ds:=[aF c,kG [(a,[]),(b,r)]]) (by rfl) hMp1 ?_
              simp[-map_map,-mapM_map,↓KW,aF,q1,↓dE,↓dF,↓dG,↓cR,↓dN,cD,cJ,dA,hmp1,hmp2,e0,aQ,bG,eE,dB,gV,cN,eG,hin]
             ·refine aA (ds:=[aF c,kG [(b,r),(a,[])]]) (by rfl) hMp2 ?_
              simp[-map_map,-mapM_map,↓KW,aF,q1,↓dE,↓dF,↓dG,↓cR,↓dN,cD,cJ,dA,hmp1,hmp2,e0,aQ,bG,eE,dB,gV,cN,eG,hin]
           ·have e1:=eR cS hn
            have e2:=eF (by decide) cS hn
            have e3:=cB cS out
            rw[hn]at e3
            simp only[grS]
            simp[-map_map,-mapM_map,↓KW,aF,q1]
            refine uD _ _ rfl rfl ?_
            simp only[opsL,opL,aAz,uS,pS,CO,DL,Cp,BS,B6,BZ,B8,BQ]
            simp[-map_map,-mapM_map,↓KW,aF,q1,↓dE,↓dF,↓dG,↓cR,↓dN,cD,cJ]
            refine⟨?_,?_⟩
            ·refine aA (ds:=[aG l]) (by rfl) hM ?_
             simp[-map_map,-mapM_map,↓KW,aF,q1,↓dE,↓dF,↓dG,↓cR,↓dN,cD,cJ,dA,hmp1,hmp2,aQ,bG]
             refine aA (ds:=[aF c,kG [(a,[]),(b,r)]]) (by rfl) hMp1 ?_
             simp[-map_map,-mapM_map,↓KW,aF,q1,↓dE,↓dF,↓dG,↓cR,↓dN,cD,cJ,dA,hmp1,hmp2,e1,e2,e3,aQ,bG,eE,dB,gV,cN,eG,hin]
            ·refine aA (ds:=[aG l]) (by rfl) hM ?_
             simp[-map_map,-mapM_map,↓KW,aF,q1,↓dE,↓dF,↓dG,↓cR,↓dN,cD,cJ,dA,hmp1,hmp2,aQ,bG]
             refine⟨?_,?_⟩
             ·refine aA (ds:=[aF c,kG [(a,[]),(b,r)]]) (by rfl) hMp1 ?_
              simp[-map_map,-mapM_map,↓KW,aF,q1,↓dE,↓dF,↓dG,↓cR,↓dN,cD,cJ,dA,hmp1,hmp2,e1,e2,e3,aQ,bG,eE,dB,gV,cN,eG,hin]
             ·refine aA (ds:=[aF c,kG [(b,r),(a,[])]]) (by rfl) hMp2 ?_
              simp[-map_map,-mapM_map,↓KW,aF,q1,↓dE,↓dF,↓dG,↓cR,↓dN,cD,cJ,dA,hmp1,hmp2,e1,e2,e3,aQ,bG,eE,dB,gV,cN,eG,hin]
end Go.Am
end

section
set_option linter.unusedVariables false
set_option linter.unusedSimpArgs false
open Go Go.Am Go.Proofs
namespace Go.Am
/-! Maps by weights -/
theorem aAc(c:List Cl)(g:List (Int×Ch)):(dO c g).length=c.length:=by unfold dO;rw[AN]
def wM:List (Int×Ch)→(Int→Int)→Int→Int
 |[],_,_=>0
 |p::m,w,k=>(if p.1=k then bK w p.2 else 0)+wM m w k
theorem aKe(w:Int→Int)(f:Int×Int):∀ m:List (Int×Ch),bK w (apP m f)=f.2*wM m w f.1
 |[]=>by simp[apP,wM,bK]
 |p::m=>by
  have ih:=aKe w f m
  show bK w ((if p.1=f.1 then mulR f.2 p.2 else[])++apP m f)=_
  rw[nL,ih]
  simp only[wM]
  rw[CL]
  by_cases h:p.1=f.1
  ·rw[Ag h,Ag h,nF]
  ·rw[Ae h,Ae h];simp[bK]
theorem aFk(w:Int→Int)(m:List (Int×Ch)):∀ x:Ch,bK w (apL m x)=bK (wM m w) x
 |[]=>rfl
 |f::x=>by
  show bK w (apP m f++apL m x)=_
  rw[nL,aKe,aFk w m x];rfl
theorem nM(w:Int→Int)(m:List (Int×Ch))(x:Ch):bK w (apX m x)=bK (wM m w) x:=by unfold apX;rw[dJ,aFk]
theorem aTa{w:Int→Int}{k:Int}:∀{m:List (Int×Ch)},(∀ p∈m,p.1≠k)→wM m w k=0
 |[],_=>rfl
 |p::m,h=>by simp only[wM];rw[Ae (h p (Av ..)),aTa fun q hq=>h q (As _ hq)];rfl
theorem bQh{w:Int→Int}:∀{m:List (Int×Ch)} {p:Int×Ch},(m.map (·.1)).Pairwise (·<·)→p∈m→wM m w p.1=bK w p.2
 |q::m,p,hm,hp=>by
  rw[AR]at hm
  obtain⟨h1,h2⟩:=A5.1 hm
  simp only[wM]
  rcases AD.1 hp with rfl|hp
  ·rw[Ag rfl,aTa fun r hr=>by have:=h1 r.1 (AE.2 ⟨r,hr,rfl⟩);omega,DA]
  ·have:=h1 p.1 (AE.2 ⟨p,hp,rfl⟩)
   rw[Ae (by omega),bQh h2 hp,Ci]
theorem CmT.keys{a b:List Cl}{m:List (Int×Ch)}(h:CmT a b m):m.map (·.1)=a.map Cl.id:=by
 apply Ca
 intro i
 rw[Ax,Ax]
 rcases Bc i a.length with hi|hi
 ·have h1:a[i]? = some a[i]:=Aa hi
  have h2:m[i]? = some (m[i]'(by rw[h.len];exact hi)):=Aa _
  rw[h1,h2,AW,AW,h.id i _ _ h1 h2]
 ·rw[AG hi,AG (by rw[h.len];exact hi)];rfl
theorem CmT.inc{a b:List Cl}{m:List (Int×Ch)}(h:CmT a b m)(ha:Inc a):(m.map (·.1)).Pairwise (·<·):=by rw[h.keys,Cs];exact ha
theorem CmT.at{a b:List Cl}{m:List (Int×Ch)}(h:CmT a b m){y:Cl}(hy:y∈a):∃(i:Nat) (p:Int×Ch),a[i]? = some y∧m[i]? = some p∧p.1=y.id:=by
 obtain⟨i,hi,rfl⟩:=Bi hy
 have h1:a[i]? = some a[i]:=Aa hi
 have h2:m[i]? = some (m[i]'(by rw[h.len];exact hi)):=Aa _
 exact⟨i,_,h1,h2,h.id i _ _ h1 h2⟩
theorem CmT.W{a b:List Cl}{m:List (Int×Ch)}(h:CmT a b m)(ha:Inc a)(w:Int→Int){y:Cl}(hy:y∈a):wM m (fun k=>bK w (bOf b k)) y.id=bK (wM m w) y.b:=by
 obtain⟨i,p,h1,h2,h3⟩:=h.at hy
 rw[←h3,bQh (h.inc ha) (Aq h2),←kT,←nM,←h.bd i y p h1 h2]
 unfold bdX;rw[dJ]
def oZ(m n:List (Int×Ch)):List (Int×Ch):=m.map fun p=>(p.1,apX n p.2)
theorem aDt(m n:List (Int×Ch)):(oZ m n).length=m.length:=by unfold oZ;rw[AN]
theorem bAr(n:List (Int×Ch))(w:Int→Int)(k:Int):∀ m:List (Int×Ch),wM (oZ m n) w k=wM m (wM n w) k
 |[]=>rfl
 |p::m=>by
  show(if p.1=k then bK w (apX n p.2)else 0)+wM (oZ m n) w k=_
  rw[bAr n w k m,nM];rfl
theorem aJq{m:List (Int×Ch)}{x:Ch}{g:Int×Int}(h:g∈apL m x):∃ f∈x,∃ p∈m,p.1=f.1∧∃ u∈p.2,u.1=g.1:=by
 obtain⟨f,hf,h⟩:=Bj.1 h
 obtain⟨p,hp,h⟩:=Bj.1 h
 by_cases e:p.1=f.1
 ·rw[Ag e]at h
  obtain⟨u,hu,rfl⟩:=AE.1 h
  exact⟨f,hf,p,hp,e,u,hu,rfl⟩
 ·rw[Ae e]at h;cases h
theorem aWf{m:List (Int×Ch)}{x:Ch}{g:Int×Int}(h:g∈apX m x):∃ f∈x,∃ p∈m,p.1=f.1∧∃ u∈p.2,u.1=g.1:=by
 obtain⟨q,hq,e⟩:=pM h
 rw[←e];exact aJq hq
theorem CmT.comp{c d e:List Cl}{m n:List (Int×Ch)}(h1:CmT c d m)(h2:CmT d e n)(hd:Inc d):CmT c e (oZ m n):=by
 have hget:∀(i:Nat) q,(oZ m n)[i]? = some q→∃ p,m[i]? = some p∧q=(p.1,apX n p.2):=fun i q hq=>by
  unfold oZ at hq
  rw[Ax]at hq
  cases e:m[i]? with
  |none=>rw[e]at hq;cases hq
  |some p=>rw[e]at hq;injection hq with hq;exact⟨p,rfl,hq.symm⟩
 refine⟨by rw[aDt];exact h1.len,fun i x q hx hq=>?_,fun i x q hx hq f hf=>?_,fun i x q hx hq=>?_⟩
 ·obtain⟨p,hp,rfl⟩:=hget i q hq
  exact h1.id i x p hx hp
 ·obtain⟨p,hp,rfl⟩:=hget i q hq
  obtain⟨f0,hf0,r,hr,e1,u,hu,e2⟩:=aWf hf
  obtain⟨y,hy,hyd⟩:=h1.key i x p hx hp f0 hf0
  obtain⟨hyd1,hyd2⟩:=cV hy
  obtain⟨j,hj,rfl⟩:=Bi hr
  have hjd:j<d.length:=by rw[←h2.len];exact hj
  have k1:d[j]? = some d[j]:=Aa hjd
  have k2:n[j]? = some n[j]:=Aa hj
  have k3:=h2.id j _ _ k1 k2
  have k4:d[j]=y:=hd.eq (Ak hjd) hyd1 (by rw[←k3,e1,hyd2])
  obtain⟨z,hz,hzd⟩:=h2.key j _ _ k1 k2 u hu
  exact⟨z,by rw[←e2];exact hz,by rw[hzd,k4,hyd]⟩
 ·obtain⟨p,hp,rfl⟩:=hget i q hq
  refine aKr (cO _ [] Val.nil).1 (cO _ [] Val.nil).1 fun w=>?_
  have e1:bK w (bdX e (apX n p.2))=bK (wM n fun k=>bK w (bOf e k)) p.2:=by
   unfold bdX;rw[dJ,kT,nM]
  have e2:bK (wM n fun k=>bK w (bOf e k)) p.2=bK (fun k=>bK (wM n w) (bOf d k)) p.2:=dQ fun f hf=>by
   obtain⟨y,hy,_⟩:=h1.key i x p hx hp f hf
   obtain⟨y1,y2⟩:=cV hy
   have:=h2.W hd w y1
   rw[y2]at this
   rw[this];unfold Go.Am.bOf;rw[hy];rfl
  have e3:bK (fun k=>bK (wM n w) (bOf d k)) p.2=bK (wM n w) (apX m x.b):=by
   rw[←h1.bd i x p hx hp];unfold bdX;rw[dJ,kT]
  show bK w (bdX e (apX n p.2))=bK w (apX (oZ m n) x.b)
  rw[e1,e2,e3,nM,nM]
  exact dQ fun f _=>(bAr n w f.1 m).symm
theorem CmT.one{c:List Cl}(h:CxV c):CmT c c (dO c []):=by
 have hget:∀(i:Nat) x p,c[i]? = some x→(dO c [])[i]? = some p→p=(x.id,[(x.id,1)]):=fun i x p hx hp=>by
  unfold dO at hp
  rw[Ax,hx]at hp
  injection hp with hp
  exact hp.symm
 refine⟨by rw[aAc],fun i x p hx hp=>by rw[hget i x p hx hp],fun i x p hx hp f hf=>?_,fun i x p hx hp=>?_⟩
 ·rw[hget i x p hx hp]at hf
  rw[AP.1 hf]
  exact⟨x,h.inc.find (Aq hx),rfl⟩
 ·have hxc:=Aq hx
  rw[hget i x p hx hp]
  refine aKr (cO _ [] Val.nil).1 (cO _ [] Val.nil).1 fun w=>?_
  rw[bIf h hxc]
  unfold apX
  rw[dJ,vK h.inc w fun f hf=>let ⟨y,hy,k,_⟩:=h.face x hxc f hf;⟨y,hy,k⟩]
  exact(dQ fun f _=>by simp[kD,bK]).symm
/-! A free pair collapsed -/
theorem sH{n:Int}{l:Ch}:0<qT n l↔∃ f∈l,f.1=n:=by
 unfold qT
 rw[List.countP_pos_iff]
 simp
theorem xN{n:Int}:∀{c:List Cl} {x:Cl},x∈c→qT n x.b≤kS n c
 |y::c,x,h=>by
  show _≤qT n y.b+kS n c
  rcases AD.1 h with rfl|h
  ·omega
  ·have:=xN (n:=n) h;omega
theorem aOl{n:Int}:∀{c:List Cl} {x y:Cl},x∈c→y∈c→x≠y→qT n x.b+qT n y.b≤kS n c
 |z::c,x,y,hx,hy,hne=>by
  show _≤qT n z.b+kS n c
  rcases AD.1 hx with rfl|hx2
  ·rcases AD.1 hy with rfl|hy2
   ·exact(hne rfl).elim
   ·have:=xN (n:=n) hy2;omega
  ·rcases AD.1 hy with rfl|hy2
   ·have:=xN (n:=n) hx2;omega
   ·have:=aOl (n:=n) hx2 hy2 hne;omega
theorem aFi(w:Int→Int)(z n:Int):∀ l:Ch,bK w (pF z n l)=z*(bK w l-cf n l*w n)
 |[]=>by simp[pF,bK,cf]
 |f::l=>by
  have ih:=aFi w z n l
  unfold pF at ih ⊢
  simp only[cf]
  by_cases h:f.1=n
  ·have h':n=f.1:=h.symm
   simp only[BO,h,decide_true,Bool.not_true,AU,BB,BN,ih,bK]
   congr 1
   rw[Int.add_mul];omega
  ·have h':¬n=f.1:=fun x=>h x.symm
   simp only[BO,h,EB,Bool.not_false,BN,AR,bK,ih,Ae h']
   rw[CM,←CL]
   congr 1
   rw[Ci];omega
structure oD(c:List Cl)(a b z:Int)(xa xb:Cl):Prop where
 ina:xa∈c
 ida:xa.id=a
 inb:xb∈c
 idb:xb.id=b
 dim:xb.dim=xa.dim-1
 ua:∀ y∈c,∀ f∈y.b,f.1≠a
 ub:∀ y∈c,∀ f∈y.b,f.1=b→y=xa
 mem:(b,z)∈xa.b
 unit:z=1∨z=-1
theorem xL{c:List Cl}(h:CxV c){a b:Int}(hf:(a,b)∈fU c):∃ z xa xb,oD c a b z xa xb:=by
 unfold fU at hf
 obtain⟨x,hx,hf⟩:=Bj.1 hf
 unfold iC at hf
 split at hf
 ·cases hf
 ·rename_i h0
  obtain⟨f,hm,he⟩:=AE.1 hf
  injection he with e1 e2
  obtain⟨hfx,hok⟩:=Bk.1 hm
  unfold gU at hok
  simp only[AI,AH]at hok
  obtain⟨n,z⟩:=f
  simp only at e2 hok hfx
  subst e2
  obtain⟨y,hy,k1,k2⟩:=h.face x hx _ hfx
  refine⟨z,x,y,hx,e1,hy,k1,k2,fun u hu f hf q=>?_,fun u hu f hf q=>?_,hfx,by omega⟩
  ·have h1:=xN (n:=a) hu
   have h2:0<qT a u.b:=sH.2 ⟨f,hf,q⟩
   rw[e1]at h0;omega
  ·refine Bb fun hne=>?_
   have h1:=aOl (n:=n) hu hx hne
   have h2:0<qT n u.b:=sH.2 ⟨f,hf,q⟩
   have h3:0<qT n x.b:=sH.2 ⟨_,hfx,rfl⟩
   omega
section
variable {c:List Cl} {a b z:Int} {xa xb:Cl}
theorem aDq{y:Cl}:y∈jE c a b↔y∈c∧y.id≠a∧y.id≠b:=by
 unfold jE mG
 rw[Bk]
 simp
theorem aDs(h:Inc c):Inc (jE c a b):=DB _ h
theorem aDo(h:Inc c){y:Cl}(hy:y∈c)(h1:y.id≠a)(h2:y.id≠b):bW (jE c a b) y.id=some y:=(aDs h).find (aDq.2 ⟨hy,h1,h2⟩)
theorem aJi(h:Inc c){y:Cl}(hy:y∈c)(h1:y.id≠a)(h2:y.id≠b):bOf (jE c a b) y.id=y.b:=by unfold Go.Am.bOf;rw[aDo h hy h1 h2];rfl
theorem oD.ne(t:oD c a b z xa xb):a≠b:=fun e=>by
 have:=t.ua xa t.ina _ t.mem
 exact this e.symm
theorem oD.bOf(t:oD c a b z xa xb)(h:CxV c):Go.Am.bOf c a=xa.b:=by rw[←t.ida];exact h.bOf t.ina
theorem oD.cf(t:oD c a b z xa xb)(h:CxV c):Go.Am.cf b xa.b=z:=by rw[fS (h.val xa t.ina)];exact fB (h.val xa t.ina) t.mem
theorem oD.cf0(t:oD c a b z xa xb){y:Cl}(hy:y∈c)(hne:y≠xa):Go.Am.cf b y.b=0:=mC fun f hf e=>hne (t.ub y hy f hf e)
theorem oD.last(t:oD c a b z xa xb)(h:CxV c):nQ xa.b b=z:=by
 have e:nQ xa.b b=lv b xa.b:=rfl
 rw[e,qJ (h.val xa t.ina)];exact fB (h.val xa t.ina) t.mem
theorem oD.stay(t:oD c a b z xa xb)(h:CxV c){y:Cl}(hy:y∈c){f:Int×Int}(hf:f∈y.b)(hne:y≠xa∨f.1≠b):∃ u∈c,u.id=f.1∧u.dim=y.dim-1∧u.id≠a∧u.id≠b:=by
 obtain⟨u,hu,k1,k2⟩:=h.face y hy f hf
 refine⟨u,hu,k1,k2,by rw[k1];exact t.ua y hy f hf,fun e=>?_⟩
 rcases hne with q|q
 ·exact q (t.ub y hy f hf (k1.symm.trans e))
 ·exact q (k1.symm.trans e)
theorem oD.valid(t:oD c a b z xa xb)(h:CxV c):CxV (jE c a b):=by
 have hs:∀{y:Cl},y∈jE c a b→y∈c∧y≠xa:=fun hy=>by
  obtain⟨h1,h2,_⟩:=aDq.1 hy
  exact⟨h1,fun e=>h2 (by rw[e];exact t.ida)⟩
 refine⟨aDs h.inc,fun y hy=>h.dim y (hs hy).1,fun y hy=>h.val y (hs hy).1,fun y hy f hf=>?_,fun y hy n=>?_⟩
 ·obtain⟨u,hu,k1,k2,k3,k4⟩:=t.stay h (hs hy).1 hf (.inl (hs hy).2)
  exact⟨u,aDq.2 ⟨hu,k3,k4⟩,k1,k2⟩
 ·rw[←h.cyc y (hs hy).1 n]
  refine dQ fun f hf=>?_
  obtain⟨u,hu,k1,k2,k3,k4⟩:=t.stay h (hs hy).1 hf (.inl (hs hy).2)
  rw[←k1,aJi h.inc hu k3 k4,h.bOf hu]
def sF(b z:Int)(l:Ch):Ch:=bV [] (pF (-z) b l)
theorem oD.g(t:oD c a b z xa xb)(h:CxV c):qS c a b=[(a,[]),(b,sF b z xa.b)]:=by
 unfold qS bPc sF;rw[t.bOf h,t.last h]
theorem bHc(w:Int→Int)(b z:Int)(l:Ch):bK w (sF b z l)=-z*(bK w l-Go.Am.cf b l*w b):=by unfold sF;rw[dJ,aFi]
theorem aOi{f:Int×Int}(l:Ch)(h:f∈sF b z l):∃ g∈l,g.1=f.1∧g.1≠b:=by
 obtain⟨g,hg,e⟩:=pM h
 unfold pF at hg
 obtain⟨g0,h0,rfl⟩:=AE.1 hg
 obtain⟨h1,h2⟩:=Bk.1 h0
 exact⟨g0,h1,e,by simpa using h2⟩
theorem aCr(h:a≠b)(R:Ch)(n:Int):(kD [(a,[]),(b,R)] n).getD [(n,1)]=if n=a then[]else if n=b then R else[(n,1)]:=by
 unfold kD
 by_cases h1:n=a
 ·simp[h1]
 ·have h1':¬a=n:=fun e=>h1 e.symm
  by_cases h2:n=b
  ·have h3:¬b=a:=fun e=>h e.symm
   simp[CX,h2,h,h3]
  ·have h2':¬b=n:=fun e=>h2 e.symm
   simp[CX,h1,h1',h2,h2']
theorem oD.comm(t:oD c a b z xa xb)(h:CxV c):CmT c (jE c a b) (dO c (qS c a b)):=by
 rw[t.g h]
 have hget:∀(i:Nat) x p,c[i]? = some x→(dO c [(a,[]),(b,sF b z xa.b)])[i]? = some p→p=(x.id,if x.id=a then[]else if x.id=b then sF b z xa.b else[(x.id,1)]):=fun i x p hx hp=>by
  unfold dO at hp
  rw[Ax,hx]at hp
  injection hp with hp
  simp only[aCr t.ne]at hp
  exact hp.symm
 refine⟨by rw[aAc],fun i x p hx hp=>by rw[hget i x p hx hp],fun i x p hx hp f hf=>?_,fun i x p hx hp=>?_⟩
 ·have hxc:=Aq hx
  rw[hget i x p hx hp]at hf
  simp only at hf
  by_cases q1:x.id=a
  ·rw[Ag q1]at hf;cases hf
  ·rw[Ae q1]at hf
   by_cases q2:x.id=b
   ·rw[Ag q2]at hf
    obtain⟨g,hg,e1,e2⟩:=aOi _ hf
    obtain⟨u,hu,k1,k2,k3,k4⟩:=t.stay h t.ina hg (.inr e2)
    have hxx:x=xb:=h.inc.eq hxc t.inb (q2.trans t.idb.symm)
    refine⟨u,by rw[←e1,←k1];exact aDo h.inc hu k3 k4,by rw[k2,hxx,t.dim]⟩
   ·rw[Ae q2]at hf
    rw[AP.1 hf]
    exact⟨x,aDo h.inc hxc q1 q2,rfl⟩
 ·have hxc:=Aq hx
  rw[hget i x p hx hp]
  have hfc:∀ f∈x.b,∃ y∈c,y.id=f.1:=fun f hf=>let ⟨y,hy,k,_⟩:=h.face x hxc f hf;⟨y,hy,k⟩
  refine aKr (cO _ [] Val.nil).1 (cO _ [] Val.nil).1 fun w=>?_
  unfold bdX apX
  rw[dJ,dJ,kT,vK h.inc w hfc]
  simp only
  obtain⟨W,hW⟩:∃ W,bK w (sF b z xa.b)=W:=⟨_,rfl⟩
  have hzz:z*z=1:=by rcases t.unit with e|e<;>rw[e]<;>rfl
  have hWv:W=-z*bK w xa.b+w b:=by
   rw[←hW,bHc,t.cf h,Int.mul_sub,←CM,C5 z z,hzz];omega
  have hr:bK (fun k=>bK w ((kD [(a,[]),(b,sF b z xa.b)] k).getD [(k,1)])) x.b=bK w x.b+(W-w b)*Go.Am.cf b x.b:=by
   have e1:bK (fun k=>bK w ((kD [(a,[]),(b,sF b z xa.b)] k).getD [(k,1)])) x.b=bK (fun k=>w k+(W-w b)*(if k=b then 1 else 0)-0*0) x.b:=dQ fun f hf=>by
    rw[aCr t.ne,Ae (t.ua x hxc f hf)]
    by_cases q:f.1=b
    ·rw[Ag q,Ag q,hW,q];omega
    ·rw[Ae q,Ae q];simp[bK]
   have e2:bK (fun m=>if m=b then(1:Int)else 0) x.b=Go.Am.cf b x.b:=by
    rw[nD];exact dQ fun f _=>aRd f.1 b
   rw[e1,sS w _ (fun _=>0) _ 0,e2]
   omega
  rw[hr]
  by_cases q1:x.id=a
  ·have hxx:x=xa:=h.inc.eq hxc t.ina (q1.trans t.ida.symm)
   rw[Ag q1,hxx,t.cf h]
   have:(W-w b)*z=-bK w xa.b:=by
    rw[hWv,Int.add_sub_cancel,Int.mul_comm (-z),CM,C5,hzz];omega
   rw[this]
   simp only[bK];omega
  ·have hxx:x≠xa:=fun e=>q1 (by rw[e];exact t.ida)
   rw[Ae q1,t.cf0 hxc hxx,Int.mul_zero,DA]
   by_cases q2:x.id=b
   ·rw[Ag q2]
    have hxb:x=xb:=h.inc.eq hxc t.inb (q2.trans t.idb.symm)
    have e1:bK (fun m=>bK w (Go.Am.bOf (jE c a b) m)) (sF b z xa.b)=bK (fun m=>bK w (Go.Am.bOf c m)) (sF b z xa.b):=dQ fun f hf=>by
     obtain⟨g,hg,k1,k2⟩:=aOi _ hf
     obtain⟨u,hu,j1,j2,j3,j4⟩:=t.stay h t.ina hg (.inr k2)
     rw[←k1,←j1,aJi h.inc hu j3 j4,h.bOf hu]
    have e2:bK (fun m=>bK w (Go.Am.bOf c m)) xa.b=0:=h.wcyc t.ina w
    rw[e1,bHc,e2,t.cf h,Int.zero_sub,Int.neg_mul_neg,←CM,hzz,Int.one_mul,←q2,h.bOf hxc]
   ·rw[Ae q2]
    simp only[bK]
    rw[aJi h.inc hxc q1 q2];omega
end
theorem aVs{c:List Cl}(h:CxV c){a b z:Int}{xa xb:Cl}(t:oD c a b z xa xb)(hf:(a,b)∈fU c):bHb c a b=(jE c a b,dO c (qS c a b),0):=by
 unfold bHb
 have e1:bW c a=some xa:=by rw[←t.ida];exact h.inc.find t.ina
 have e2:bW c b=some xb:=by rw[←t.idb];exact h.inc.find t.inb
 rw[Ae (by rw[e1,e2];simp),Ae (by simpa using hf)]
/-! Sizes -/
theorem aVt{c:List Cl}{F:Nat}(hz:SzX F c)(a b:Int):SzX F (jE c a b) :=
 ⟨Ap (aDr _ _ _) hz.len,fun y hy=>hz.bl y (Bk.1 hy).1,fun y hy=>hz.bb y (Bk.1 hy).1⟩
theorem aJj{c:List Cl}{F:Nat}{a b z:Int}{xa xb:Cl}(t:oD c a b z xa xb)(h:CxV c)(hz:SzX F c):SzM (14+F) (dO c (qS c a b)):=by
 have hR:(sF b z xa.b).length≤100∧Bnd (2^(14+F)) (sF b z xa.b)∧Val (sF b z xa.b):=by
  have h1:=hz.bl xa t.ina
  have h2:=hz.bb xa t.ina
  have h3:=aBw (-z) b xa.b
  have h4:=aMn (n:=b) (z:=-z) (K:=1) (by rcases t.unit with e|e<;>rw[e]<;>decide) h2
  rw[Nat.one_mul]at h4
  have k1:=iL [] (pF (-z) b xa.b)
  have k2:=gQ (pF (-z) b xa.b) [] (Bnd.nil 0) h4
  simp only[A8,Bf]at k1 k2
  unfold sF
  exact⟨by omega,k2.mono (lP (Ap (by omega:(pF (-z) b xa.b).length≤100) (by decide))),(cO _ [] Val.nil).1⟩
 have hp:∀ p∈dO c (qS c a b),p.2=[]∨p.2=sF b z xa.b∨∃ n,p.2=[(n,1)]:=fun p hp=>by
  rw[t.g h]at hp
  obtain⟨y,_,rfl⟩:=AE.1 hp
  simp only[aCr t.ne]
  split
  ·exact .inl rfl
  ·split
   ·exact .inr (.inl rfl)
   ·exact .inr (.inr ⟨_,rfl⟩)
 refine⟨by rw[aAc];exact hz.len,fun p h1=>?_,fun p h1=>?_,fun p h1=>?_⟩
 ·rcases hp p h1 with e|e|⟨n,e⟩<;>rw[e]
  ·exact An _
  ·exact hR.1
  ·simp
 ·rcases hp p h1 with e|e|⟨n,e⟩<;>rw[e]
  ·exact Bnd.nil _
  ·exact hR.2.1
  ·exact Bnd.one (Ap (by decide:(1:Int).natAbs≤2^0) (BI (by decide) (An _)))
 ·rcases hp p h1 with e|e|⟨n,e⟩<;>rw[e]
  ·exact Val.nil
  ·exact hR.2.2
  ·exact vY n
theorem bMf{c:List Cl}(h:c.length≤100):SzM 0 (dO c []):=by
 have hp:∀ p∈dO c [],∃ n,p.2=[(n,1)]:=fun p hp=>by
  obtain⟨y,_,rfl⟩:=AE.1 hp;exact⟨_,rfl⟩
 refine⟨by rw[aAc];exact h,fun p h1=>?_,fun p h1=>?_,fun p h1=>?_⟩
 ·obtain⟨n,e⟩:=hp p h1;rw[e];simp
 ·obtain⟨n,e⟩:=hp p h1;rw[e];exact Bnd.one (Az 1)
 ·obtain⟨n,e⟩:=hp p h1;rw[e];exact vY n
theorem bHl{d:List Cl}(hd:Inc d){x:Ch}(hx:Val x)(hk:∀ f∈x,∃ y,bW d f.1=some y):x.length≤d.length:=by
 have:=aAg (d.map Cl.id) (x.map (·.1)) (by rw[Cs];exact hx.1) (by rw[Cs];exact hd) fun n hn=>by
  obtain⟨f,hf,rfl⟩:=AE.1 hn
  obtain⟨y,hy⟩:=hk f hf
  obtain⟨h1,h2⟩:=cV hy
  exact AE.2 ⟨y,h1,h2⟩
 simpa using this
theorem CmT.len2{a b:List Cl}{m:List (Int×Ch)}(h:CmT a b m)(hb:Inc b)(hv:∀ p∈m,Val p.2){p:Int×Ch}(hp:p∈m):p.2.length≤b.length:=by
 obtain⟨i,hi,rfl⟩:=Bi hp
 have hia:i<a.length:=by rw[←h.len];exact hi
 exact bHl hb (hv _ hp) fun f hf=>let ⟨y,hy,_⟩:=h.key i _ _ (Aa hia) (Aa hi) f hf;⟨y,hy⟩
theorem bUf{c d e:List Cl}{m n:List (Int×Ch)}{g k:Nat}(h1:CmT c d m)(h2:CmT d e n)(hd:Inc d)(he:Inc e)(hm:SzM g m)(hn:SzM k n)(hel:e.length≤100):SzM (20+(g+k)) (oZ m n):=by
 have hv:∀ p∈oZ m n,Val p.2:=fun p hp=>by
  obtain⟨q,_,rfl⟩:=AE.1 hp
  exact(cO _ [] Val.nil).1
 refine⟨by rw[aDt];exact hm.len,fun p hp=>Ap ((h1.comp h2 hd).len2 he hv hp) hel,fun p hp=>?_,hv⟩
 obtain⟨q,hq,rfl⟩:=AE.1 hp
 have hql:=hm.bl q hq
 obtain⟨k1,k2⟩:=aEd hn (x:=q.2) (hm.bb q hq)
 have k3:=gQ (apL n q.2) [] (Bnd.nil 0) k2
 simp only[A8,Bf]at k3
 have h5:=AX 10000 hql
 exact k3.mono (lP (Ap (Ap k1 h5) (by decide)))
/-! Shrunk complexes -/
def uE:Nat→List Cl→List (Int×Ch)→List Cl×List (Int×Ch)
 |0,c,m=>(c,m)
 |n+1,c,m=>match fU c with
  |[]=>(c,m)
  |p::_=>uE n (jE c p.1 p.2) (oZ m (dO c (qS c p.1 p.2)))
structure ShI(F:Nat)(c0:List Cl)(j:Nat)(c:List Cl)(m:List (Int×Ch)):Prop where
 v:CxV c
 len:c.length+2*j≤11
 sz:SzX F c
 ids:∀ x∈c,1≤x.id∧x.id≤17
 cm:CmT c0 c m
 szm:SzM (j*(F+40)) m
theorem aDp{c:List Cl}{a b z:Int}{xa xb:Cl}(t:oD c a b z xa xb)(h:Inc c):(jE c a b).length+2=c.length:=by
 have h1:∀{c:List Cl} {x:Cl},Inc c→x∈c→(c.filter fun y=>!decide (y.id=x.id)).length+1=c.length:=by
  intro c
  induction c with
  |nil=>intro x _ hx;cases hx
  |cons y c ih =>
   intro x hc hx
   obtain⟨p1,p2⟩:=A5.1 hc
   rcases AD.1 hx with rfl|hx
   ·have:c.filter (fun y=>!decide (y.id=x.id))=c:=Em.2 fun u hu=>by
     have:=p1 u hu;simp;omega
    simp[BO,this]
   ·have:=p1 x hx
    have hne:¬y.id=x.id:=by omega
    have:=ih p2 hx
    simp[BO,hne];exact this
 have e:jE c a b=(c.filter fun y=>!decide (y.id=xa.id)).filter fun y=>!decide (y.id=xb.id):=by
  unfold jE mG
  rw[E5,t.ida,t.idb]
  exact List.filter_congr fun y _=>by rw[Bool.and_comm]
 have h2:=h1 h t.ina
 have h3:=h1 (c:=c.filter fun y=>!decide (y.id=xa.id)) (x:=xb) (DB _ h) (Bk.2 ⟨t.inb,by
  have:=t.ne;rw[t.idb,t.ida];simpa using fun e=>this e.symm⟩)
 rw[e];omega
theorem ShI.step{F j:Nat}{c0 c:List Cl}{m:List (Int×Ch)}(s:ShI F c0 j c m){p:Int×Int}(hp:p∈fU c):ShI F c0 (j+1) (jE c p.1 p.2) (oZ m (dO c (qS c p.1 p.2))):=by
 obtain⟨a,b⟩:=p
 obtain⟨z,xa,xb,t⟩:=xL s.v hp
 have hl:=s.len
 have h2:=aDp t s.v.inc
 have h3:=bUf s.cm (t.comm s.v) s.v.inc (aDs s.v.inc) s.szm (aJj t s.v s.sz) (by omega)
 refine⟨t.valid s.v,by simp only;omega,aVt s.sz a b,fun x hx=>s.ids x (Bk.1 hx).1,s.cm.comp (t.comm s.v) s.v.inc,?_⟩
 have e:20+(j*(F+40)+(14+F))≤(j+1)*(F+40):=by rw[CT];omega
 exact⟨h3.len,h3.bl,fun p hp=>(h3.bb p hp).mono (BI (by decide) e),h3.val⟩
theorem ShI.one{F:Nat}{c:List Cl}(hc:MdX c)(hz:SzX F c):ShI F c 0 c (dO c []) :=
 ⟨hc.v,by have:=hc.len;omega,hz,hc.ids,CmT.one hc.v,by rw[CH];exact bMf (by have:=hc.len;omega)⟩
theorem ShI.inr{F j:Nat}{c0 c:List Cl}{m:List (Int×Ch)}(s:ShI F c0 j c m){x:Cl}(hx:x∈c):inr x.id=true:=by
 have:=s.ids x hx
 simp only[Go.Am.inr,AH];omega
theorem ShI.keys{F j:Nat}{c0 c:List Cl}{m:List (Int×Ch)}(s:ShI F c0 j c m):∀ x∈c,Keys x.b:=fun x hx f hf=>by
 obtain⟨y,hy,e,_⟩:=s.v.face x hx f hf
 rw[←e];exact s.inr hy
theorem aBg{n:Nat}{c:List Cl}{m:List (Int×Ch)}(h:fU c=[]):uE n c m=(c,m):=by
 cases n with
 |zero=>rfl
 |succ n=>simp only[uE,h]
theorem yG{n:Nat}{c:List Cl}{m:List (Int×Ch)}{p:Int×Int}{l:List (Int×Int)}(h:fU c=p::l):uE (n+1) c m=uE n (jE c p.1 p.2) (oZ m (dO c (qS c p.1 p.2))):=by
 simp only[uE,h]
theorem bGb{c:List Cl}{p:Int×Int}{l:List (Int×Int)}(h:fU c=p::l):0<c.length:=by
 cases c with
 |nil=>cases h
 |cons x c=>exact Nat.zero_lt_succ _
theorem aTm{F:Nat}{c0:List Cl}:∀{n j:Nat} {c:List Cl} {m:List (Int×Ch)},ShI F c0 j c m→c.length≤n→∃ k,ShI F c0 k (uE n c m).1 (uE n c m).2∧fU (uE n c m).1=[]
 |0,j,c,m,s,h=>by
  have:c=[]:=Au (by omega)
  subst this
  exact⟨j,s,rfl⟩
 |n+1,j,c,m,s,h=>by
  cases e:fU c with
  |nil=>rw[aBg e];exact⟨j,s,e⟩
  |cons p l =>
   rw[yG e]
   have hp:p∈fU c:=by rw[e];exact Av ..
   obtain⟨z,xa,xb,t⟩:=xL (a:=p.1) (b:=p.2) s.v hp
   have:=aDp t s.v.inc
   exact aTm (s.step hp) (by omega)
end Go.Am
end

section
set_option linter.unusedVariables false
set_option linter.unusedSimpArgs false
open Go Go.Am Go.Proofs
namespace Go.Am
theorem aEl.trans{R c k' k'':Nat}{M M' M'':List (List Int)}(h:aEl R c k' M M')(h':aEl k' c k'' M' M''):aEl R c k'' M M'':=fun i hi=>by
 have h0:∀ i,∃ a:Nat→Int,i<k'→∀ t,t<c→sgm R (fun j=>a j*ent M j t)=ent M' i t:=fun i=>by
  by_cases e:i<k'
  ·obtain⟨a,ha⟩:=h i e;exact⟨a,fun _=>ha⟩
  ·exact⟨fun _=>0,fun h=>absurd h e⟩
 obtain⟨f,hf⟩:=Classical.axiomOfChoice h0
 obtain⟨b,hb⟩:=h' i hi
 refine⟨fun j=>sgm k' fun i=>b i*f i j,fun t ht=>?_⟩
 rw[←hb t ht,cF (g:=fun j=>sgm k' fun i=>b i*(f i j*ent M j t)) fun j _=>by rw[←aLd];exact cF fun i _=>CM _ _ _,aLe]
 exact cF fun i hi=>by rw[tC,hf i hi t ht]
theorem bGn{k r s:Nat}{M:List (List Int)}(h:r<k):ent (M.take k) r s=ent M r s:=by
 unfold ent;rw[Ac (l:=List.take _ _),List.getElem?_take,Ag h,←Ac]
theorem aOd{r s:Nat}{M N:List (List Int)}(h:r<M.length):ent (M++N) r s=ent M r s:=by
 unfold ent;rw[Ac (l:=M++N),AF h,←Ac]
theorem aOc{s:Nat}{M:List (List Int)}{v:List Int}:ent (M++[v]) M.length s=v.getD s 0:=by
 unfold ent;rw[Ac (l:=M++[v]),AA (Az _)];simp
structure bJs(R c:Nat)(A B:List (List Int)):Prop where
 spec:Spec Tryz.prog 80 [bN R c A] (bN B.length c B)
 le:B.length≤R
 sh:Sh B.length c B
 hn:∃ p,Hn B.length c c B.length B p
 s1:aEl B.length c R B A
 s2:aEl R c B.length A B
 sz:∀ v∈B,∀ z∈v,Sz z
theorem sY{R i t:Nat}{A:List (List Int)}(hi:i<R):sgm R (fun j=>(if j=i then 1 else 0)*ent A j t)=ent A i t:=lW hi fun j=>ent A j t
theorem aOq{R c e:Nat}{A:List (List Int)}(hA:Sh R c A)(hR:R≤15)(hc:c≤1000)(hB:Be e A)(he:dbl (tr R) e<1099511627776):∃ B,bJs R c A B:=by
 obtain⟨wf,k,e',f1,f2,f3,f4,f5,f6,f7,f8⟩:=aJa hA hR hB he
 have he1:e<1099511627776:=Bt (qR _ _) he
 have he2:e'<1099511627776:=Bt (Ap (qR _ _) f6) he
 have hS:=aLt hA hR hc (hB.mem he1) f1 f4.m
 rw[f2]at hS
 have hlen:(wf.M.take k).length=k:=by rw[AM,f4.m.len];omega
 obtain⟨k1,p,n1,n2⟩:=bGd f1 (An _) (An _) (Hn.start _ _ _)
 obtain rfl:k1=k:=by rw[←n2.rank n1 f4.m];exact f2
 have e0:∀{r t},r<k1→ent (wf.M.take k1) r t=ent wf.M r t:=fun h=>bGn h
 refine⟨wf.M.take k1,by rw[hlen];exact hS,by omega,⟨rfl,fun v hv=>f4.m.row v (Bs hv)⟩,⟨p,?_⟩,?_,?_,fun v hv=>f5.m.mem he2 v (Bs hv)⟩
 ·rw[hlen]
  exact⟨n2.inc,n2.lt,fun i hi=>by rw[e0 hi];exact n2.pos i hi,fun i t hi ht=>by rw[e0 hi];exact n2.bef i t hi ht,fun j i hj hi=>by rw[e0 hi,e0 (by omega)];exact n2.red j i hj hi,fun r t h1 h2 _=>by omega⟩
 ·rw[hlen]
  intro i hi
  obtain⟨a,a1,_⟩:=InP.fo f1 (x:=fun t=>ent A i t) (y:=fun t=>ent (idM R) i t) ⟨fun j=>if j=i then 1 else 0,fun t _=>sY hi,fun t _=>sY hi⟩
  refine⟨a,fun t ht=>?_⟩
  have h1:=yH k1 (fun j=>a j*ent wf.M j t) (R-k1)
  rw[show k1+(R-k1)=R by omega,a1 t ht,show sgm (R-k1) (fun j=>a (k1+j)*ent wf.M (k1+j) t)=0 from nI fun j hj=>by rw[f8 (k1+j) t (by omega) (by omega) ht];simp]at h1
  rw[cF fun j hj=>by rw[e0 hj]];exact(h1.trans (DA _)).symm
 ·rw[hlen]
  exact fun i hi=>⟨fun j=>ent wf.U i j,fun t ht=>by rw[e0 hi];exact f7 i t (by omega) ht⟩
theorem bIi{R R' c:Nat}{A A' B B':List (List Int)}(h:bJs R c A B)(h':bJs R' c A' B')(s:aEl R c R' A A')(s':aEl R' c R A' A):B=B':=by
 obtain⟨p,hp⟩:=h.hn
 obtain⟨p',hp'⟩:=h'.hn
 obtain⟨e1,e2⟩:=aZa hp (Az _) hp' (Az _) (h.s1.trans (s.trans h'.s2)) (h'.s1.trans (s'.trans h.s2))
 exact aUr h.sh (e1 ▸ h'.sh) e2
def InL(R c:Nat)(A:List (List Int))(v:List Int):Prop:=∃ a:Nat→Int,∀ t,t<c→sgm R (fun j=>a j*ent A j t)=v.getD t 0
theorem bIn{R c:Nat}{A:List (List Int)}{v:List Int}(hA:Sh R c A)(hv:v.length=c):Sh (R+1) c (A++[v]) :=
 ⟨by rw[Al,hA.len];rfl,fun u hu=>by
  rcases A9.1 hu with h|h
  ·exact hA.row u h
  ·rw[AP.1 h];exact hv⟩
theorem contains_iff{R c:Nat}{A B B':List (List Int)}{v:List Int}(hA:Sh R c A)(h:bJs R c A B)(h':bJs (R+1) c (A++[v]) B'):B'=B↔InL R c A v:=by
 have e1:∀{r t},r<R→ent (A++[v]) r t=ent A r t:=fun hr=>aOd (by rw[hA.len];exact hr)
 have e2:∀{t},ent (A++[v]) R t=v.getD t 0:=fun{t}=>by have:=aOc (M:=A) (v:=v) (s:=t);rwa [hA.len]at this
 constructor
 ·rintro rfl
  obtain⟨a,ha⟩:=(h.s2.trans h'.s1) R (by omega)
  exact⟨a,fun t ht=>by rw[ha t ht,e2]⟩
 ·rintro⟨a,ha⟩
  refine bIi h' h (fun i hi=>⟨fun j=>if j=i then 1 else 0,fun t ht=>by rw[sY (by omega:i<R+1),e1 hi]⟩) fun i hi=>?_
  by_cases e:i=R
  ·exact⟨a,fun t ht=>by rw[e,e2];exact ha t ht⟩
  ·exact⟨fun j=>if j=i then 1 else 0,fun t ht=>by rw[sY (by omega:i<R),e1 (by omega)]⟩
end Go.Am
end

section
set_option linter.unusedVariables false
set_option linter.unusedSimpArgs false
open Go Go.Am Go.Proofs
namespace Go.Am
section
variable {c d:List Cl} {m:List (Int×Ch)}
theorem aJo(m:List (Int×Ch))(x:Ch):Val (apX m x):=(cO _ [] Val.nil).1
theorem In.cell{k:Int}{z:Ch}(hz:In c k z):∀ f∈z,∃ y∈c,y.id=f.1:=fun f hf=>let ⟨y,h1,_,h2⟩:=gA.1 (hz f hf);⟨y,h1,h2⟩
theorem bPq(h:CmT c d m)(hc:CxV c){z:Ch}(hz:∀ f∈z,∃ y∈c,y.id=f.1):bdX d (apX m z)=apX m (bdX c z):=by
 refine aKr (uB _ _).1 (aJo _ _) fun w=>?_
 unfold bdX
 rw[dJ,kT,nM,nM,dJ,kT]
 refine dQ fun f hf=>?_
 obtain⟨y,hy,e⟩:=hz f hf
 rw[←e,h.W hc.inc w hy,hc.bOf hy]
theorem bIr(h:CmT c d m)(hc:Inc c){k:Int}{z:Ch}(hz:In c k z):In d k (apX m z):=fun g hg=>by
 obtain⟨f,hf,p,hp,e,u,hu,e2⟩:=aWf hg
 obtain⟨y,hy,hd,hi⟩:=gA.1 (hz f hf)
 obtain⟨i,q,h1,h2,h3⟩:=h.at hy
 have hqp:q=p:=by
  have hp2:=(h.inc hc)
  obtain⟨j,hj,e4⟩:=Bi hp
  obtain⟨hi',e5⟩:=Aj.1 h2
  have e6:q.1=p.1:=by rw[h3,e,hi]
  rcases Nat.lt_trichotomy i j with l|l|l
  ·have:=Bv.1 hp2 i j (by simpa using hi') (by simpa using hj) l
   simp only[Cm,e4,e5]at this;omega
  ·subst l;rw[←e4,←e5]
  ·have:=Bv.1 hp2 j i (by simpa using hj) (by simpa using hi') l
   simp only[Cm,e4,e5]at this;omega
 subst hqp
 obtain⟨x,hx,hxd⟩:=h.key i y q h1 h2 u hu
 obtain⟨g1,g2⟩:=cV hx
 exact gA.2 ⟨x,g1,by omega,by omega⟩
theorem aTp(hc:Inc c){k:Int}{x y:Ch}(hx:Val x)(hy:Val y)(ix:In c k x)(iy:In c k y)(h:fG (bR c k) x=fG (bR c k) y):x=y :=
 hx.ext hy fun n=>by
  by_cases hn:n∈bR c k
  ·obtain⟨t,ht,e⟩:=Bi hn
   have hq:=Aa ht
   have h1:=iY (x:=x) hq
   rw[h,iY hq,e,qJ hx,qJ hy]at h1
   exact(Bg h1).symm
  ·rw[fN (l:=x) fun f hf e=>hn (by rw[←e];exact ix f hf),fN (l:=y) fun f hf e=>hn (by rw[←e];exact iy f hf)]
theorem aPf{c:List Cl}{k:Int}{v:List Int}:In c k (bV [] ((bR c k).zip v)):=fun f hf=>by
 obtain⟨g,hg,e⟩:=pM hf
 rw[←e];exact(List.of_mem_zip hg).1
theorem bJu(hc:Inc c){k:Int}{z:Ch}(hz:Val z)(hi:In c k z):bV [] ((bR c k).zip (fG (bR c k) z))=z :=
 aTp hc (cO _ [] Val.nil).1 hz aPf hi (aQc (hc.ids k) (iG _ _))
theorem bNw(hc:CxV c){K:Int}{y:Ch}(hy:Val y)(hi:In c (K-1) y):InL (bR c K).length (bR c (K-1)).length (mF c K) (fG (bR c (K-1)) y)↔∃ z,Val z∧In c K z∧bdX c z=y:=by
 constructor
 ·rintro⟨a,ha⟩
  refine⟨bV [] ((bR c K).zip (rg (bR c K).length a)),(cO _ [] Val.nil).1,aPf,?_⟩
  refine aTp hc.inc (uB _ _).1 hy (bXk hc aPf) hi ?_
  rw[bIe hc K (aQd _ _),bNi (l:=fG (bR c (K-1)) y) (iG _ _)]
  refine bCh fun t ht=>?_
  rw[←ha t ht]
  exact cF fun j hj=>by rw[aTr _ hj]
 ·rintro⟨z,hz,iz,rfl⟩
  refine⟨fun j=>(fG (bR c K) z).getD j 0,fun t ht=>?_⟩
  have h1:=bIe hc K (v:=fG (bR c K) z) (iG _ _)
  rw[bJu hc.inc hz iz]at h1
  rw[h1,aTr _ ht]
theorem aSe(h:CmT c d m)(hc:CxV c){K:Int}{y:Ch}(hy:∃ z,Val z∧In c K z∧bdX c z=y):∃ z,Val z∧In d K z∧bdX d z=apX m y:=by
 obtain⟨z,hz,iz,rfl⟩:=hy
 exact⟨apX m z,aJo _ _,bIr h hc.inc iz,bPq h hc iz.cell⟩
end
/-! The number of Euler -/
def sgD(x:Cl):Int:=if x.dim.tmod 2=0 then 1 else -1
def iE(c:List Cl):Int:=c.foldr (fun x n=>sgD x+n) 0
theorem jC(x:Cl)(c:List Cl):iE (x::c)=sgD x+iE c:=rfl
theorem aJg:∀ a b:List Cl,iE (a++b)=iE a+iE b
 |[],b=>by simp[iE]
 |x::a,b=>by rw[B8,jC,jC,aJg a b];omega
theorem bGl{a b:List Cl}(h:a.Perm b):iE a=iE b:=by
 induction h with
 |nil=>rfl
 |cons x _ ih=>rw[jC,jC,ih]
 |swap x y l=>simp only[jC];omega
 |trans _ _ h1 h2=>rw[h1,h2]
theorem aJe{f:Cl→Cl}(h:∀ x,(f x).dim=x.dim):∀ c:List Cl,iE (c.map f)=iE c
 |[]=>rfl
 |x::c=>by rw[AR,jC,jC,aJe h c];unfold sgD;rw[h]
theorem bTx{n:Int}:∀{c:List Cl},(∀ y∈c,y.id≠n)→iE (c.filter fun z=>!decide (z.id=n))=iE c:=fun h=>by
 rw[Em.2 fun y hy=>by simp[h y hy]]
theorem aAk{x:Cl}:∀{c:List Cl},Inc c→x∈c→iE (c.filter fun z=>!decide (z.id=x.id))+sgD x=iE c
 |[],_,hx=>by cases hx
 |y::c,hi,hx=>by
  obtain⟨h1,h2⟩:=A5.1 hi
  rcases AD.1 hx with rfl|hx
  ·rw[BO,Ae (by simp),bTx fun y hy=>by have:=h1 y hy;omega,jC];omega
  ·have:=h1 x hx
   rw[BO,Ag (by simp;omega),jC,jC]
   have:=aAk (c:=c) h2 hx;omega
theorem bKz{x y:Cl}(hx:0≤x.dim)(hy:0≤y.dim)(h:y.dim=x.dim-1):sgD x+sgD y=0:=by
 unfold sgD
 rw[Cy hx,Cy hy,h]
 split<;>split<;>omega
theorem bOq{c:List Cl}(h:Inc c){a b:Int}{x:Cl}(hx:x∈c)(e:x.id=b):iE (kR c a b)+sgD x=iE c:=by
 unfold kR;rw[aJe (f:=pR a b) (fun _=>rfl),←e];exact aAk h hx
theorem bOp(c:List Cl)(e w0 w1:Int):iE (mU c e w0 w1)=iE c:=by
 rw[bGl (tB c e w0 w1)]
 unfold aId
 rw[aJg,aJe (f:=jT e w0 w1 (bOf c e)) (fun _=>rfl)]
 show(1:Int)+(-1+0)+_=_;omega
theorem aVn{c:List Cl}(h:CxV c){a b z:Int}{xa xb:Cl}(t:oD c a b z xa xb):iE (jE c a b)=iE c:=by
 have e:jE c a b=(c.filter fun z=>!decide (z.id=b)).filter fun z=>!decide (z.id=a):=by
  unfold jE;rw[E5];rfl
 have h1:=aAk h.inc t.inb
 have h2:=aAk (c:=c.filter fun z=>!decide (z.id=b)) (x:=xa) (DB _ h.inc) (Bk.2 ⟨t.ina,by have:=t.ne;have:=t.ida;simp;omega⟩)
 rw[t.idb]at h1
 rw[t.ida]at h2
 have h3:=bKz (h.dim xa t.ina).1 (h.dim xb t.inb).1 t.dim
 rw[e];omega
theorem aVm{F:Nat}{c0:List Cl}:∀{n j:Nat} {c:List Cl} {m:List (Int×Ch)},ShI F c0 j c m→iE (uE n c m).1=iE c
 |0,_,_,_,_=>rfl
 |n+1,j,c,m,s=>by
  cases hf:fU c with
  |nil=>rw[aBg hf]
  |cons p l =>
   have hp:p∈fU c:=by rw[hf];exact Av ..
   obtain⟨z,xa,xb,t⟩:=xL s.v hp
   rw[yG hf,aVm (s.step hp),aVn s.v t]
end Go.Am
end

section
set_option linter.unusedVariables false
set_option linter.unusedSimpArgs false
open List (map_map mapM_map)
open Go Go.Am Go.Proofs
namespace Go.Am
theorem bGk{c:List Cl}{i:Nat}(h:i<c.length):iE (c.take (i+1))=iE (c.take i)+sgD c[i]:=by
 rw[AJ,Aa h,aJg]
 show _+(sgD c[i]+0)=_;omega
theorem aJf:∀ c:List Cl,-(c.length:Int)≤iE c∧iE c≤c.length
 |[]=>⟨by simp[iE],by simp[iE]⟩
 |x::c=>by
  obtain⟨h1,h2⟩:=aJf c
  rw[jC,AB]
  have:-1≤sgD x∧sgD x≤1:=by unfold sgD;split<;>omega
  omega
set_option maxHeartbeats 1000000 in
set_option maxRecDepth 10000 in
theorem aBn(c:List Cl)(hl:c.length≤1000000):Spec Tryz.prog 7 [aF c] (.i .i64 (iE c)):=by
 refine aZ (N:=23) aI Tryz.func7 rfl rfl rfl (by kernel_rfl) (by kernel_rfl) (by simp) ?_
 simp[-map_map,-mapM_map,↓KW,aF]
 refine aU (fun i:Nat=>i≤c.length) (fun i=>StL [(0,.d (aF c)),(3,.d (.i .i64 (iE (c.take i)))),(4,.d (.i .i64 (i:Int)))] none []) (fun i=>c.length-i) 0 (An _) ?_ ?_
 ·refine aY [] (by simp) ?_ ?_<;>simp[-map_map,upd,aT,Γ0,aF,iE]
 ·intro i hi
  by_cases hgo:i<c.length
  ·have q1:(i:Int)<c.length:=by omega
   have hx:c[i]? = some c[i]:=Aa hgo
   have hw:Ah.wrap ((i:Int)+1)=(i:Int)+1:=aR (by omega) (by omega)
   have htk:=bGk hgo
   have hbn:=aJf (c.take i)
   rw[AM]at hbn
   generalize iE (c.take i)=n at *
   unfold sgD at htk
   generalize c[i]=x at *
   have hw1:Ah.wrap (n+1)=n+1:=aR (by omega) (by omega)
   have hw2:Ah.wrap (n-1)=n-1:=aR (by omega) (by omega)
   by_cases h0:x.dim.tmod 2=0
   ·rw[Ag h0]at htk
    have h0':((x.dim.tmod 2==0):Bool)=true:=by simpa using h0
    simp[-map_map,-mapM_map,↓KW,aF,bJ,q1,hx,h0',hw,hw1,aE,aB,aC]
    refine aJ (i+1) hgo (Ab hgo (Ad _)) (aY [] (by simp) ?_ ?_)<;>simp[-map_map,upd,aT,Γ0,aF,htk]
   ·rw[Ae h0]at htk
    have h0':((x.dim.tmod 2==0):Bool)=false:=by simpa using h0
    simp[-map_map,-mapM_map,↓KW,aF,bJ,q1,hx,h0',hw,hw2,aE,aB,aC]
    refine aJ (i+1) hgo (Ab hgo (Ad _)) (aY [] (by simp) ?_ ?_)<;>simp[-map_map,upd,aT,Γ0,aF,htk]
    omega
  ·have q1:¬(i:Int)<c.length:=by omega
   rw[Ai (by omega)]
   simp[-map_map,-mapM_map,↓KW,aF,q1]
/-! Combinations of cycles -/
def eH(l:List Int):D:=.sl (l.map fun n=>[.i .i8 n])
theorem bFy{e:Nat}{cyc:List (List (Int×Int))}{xs:List Int}(hb:∀ y∈cyc,Bnd (2^e) y)(hl:∀ y∈cyc,y.length≤16):∀ i,i≤cyc.length→Bnd (i*(16*(2^2*2^e))) (gB cyc xs i)∧(gB cyc xs i).length≤i*16
 |0,_=>⟨Bnd.nil _,Az _⟩
 |i+1,hc=>by
  obtain⟨h1,h2⟩:=bFy hb hl i (by omega)
  have hm:cyc.getD i []∈cyc:=by rw[Ac,Aa (by omega)];exact Ak _
  have h4:=gQ (mulR ((xs.getD (i+1) 0).tmod 4) (cyc.getD i [])) (gB cyc xs i) h1 (pI (vM _).1 (hb _ hm))
  have h5:=iL (gB cyc xs i) (mulR ((xs.getD (i+1) 0).tmod 4) (cyc.getD i []))
  rw[wF]at h4 h5
  have h6:=hl _ hm
  refine⟨h4.mono ?_,?_⟩
  ·exact Ap (Nat.add_le_add_left (AX _ h6) _) (Nat.le_of_eq (CT i _).symm)
  ·show(bV _ _).length≤_
   omega
theorem cAr{i e n:Nat}(hi:i≤16)(hn:n≤16):i*(16*(2^2*2^e))+n*(2^2*2^e)≤2^(e+20):=by
 rw[mK,←Nat.mul_assoc,←Bp,show e+20=18+(2+e)by omega]
 exact lP (Ap (show i*16+n≤300 by omega) (by decide))
set_option maxHeartbeats 4000000 in
set_option maxRecDepth 10000 in
theorem aXi{e:Nat}(c:List Cl)(k:Int)(cyc:List (List (Int×Int)))(vs:List Int)(hv:∀ x∈vs,-128≤x∧x≤127)(hvl:vs.length≤9223372036854775807)
  (hS:Spec Tryz.prog 38 [aF c,.i .i64 k] (gP cyc)) (hcl:cyc.length≤16) (hb:∀ y∈cyc,Bnd (2^e) y) (hyl:∀ y∈cyc,y.length≤16) (he:e+20<4398046511104) :
  Spec Tryz.prog 11 [aF c,.i .i64 k,eH vs] (aG (gB cyc (0::vs) (min cyc.length vs.length))):=by
 have hgs:=bFy (xs:=0::vs) hb hyl
 refine aZ (N:=40) aI Tryz.func11 rfl rfl rfl (by kernel_rfl) (by kernel_rfl) (by simp) ?_
 obtain⟨bb,hbe⟩:∃ b,gB cyc (0::vs) (min cyc.length vs.length)=b:=⟨_,rfl⟩
 rw[hbe]
 simp[-map_map,-mapM_map,↓KW,aF,eH]
 refine aA (ds:=[aF c,.i .i64 k]) (by rfl) hS ?_
 simp[-map_map,-mapM_map,↓KW,aF,gP]
 refine aU (fun y:Nat×List (Int×Int)=>y.1≤min cyc.length vs.length∧gB cyc (0::vs) y.1=y.2) (fun y=>StL [(0,.d (aF c)),(2,.d (eH vs)),(7,.d (gP cyc)),(8,.d (aG y.2)),(9,.d (.i .i64 (y.1:Int)))] none []) (fun y=>min cyc.length vs.length-y.1) (0,[]) ⟨An _,rfl⟩ ?_ ?_
 ·refine aY [] (by simp) ?_ ?_
  ·simp[-map_map,upd,aT,Γ0,aF,gP,aG,eH,gB]
   exact kW (by simp[iS,upd,qU]) (fun a ha id h=>by
    simp[nZ,upd]at h)
  ·simp[-map_map,upd,aT,Γ0,aF,gP]
 ·rintro⟨i,o⟩ ⟨hi,ho⟩
  simp only at hi ho ⊢
  have hgs0:=hgs i (by omega)
  rw[ho]at hgs0
  by_cases hgo:i<cyc.length∧i<vs.length
  ·have q1:(i:Int)<cyc.length:=by omega
   have q3:(i:Int)<vs.length:=by omega
   have g1:=hgo.1
   have g2:=hgo.2
   have hq0:(0::vs).getD (i+1) 0=vs[i]:=by rw[Ac,A6,Aa g2];rfl
   have hvx:vs[i]? = some vs[i]:=Aa g2
   have hvb:=hv _ (Ak g2)
   refine(show ∃ q,vs[i]=q from⟨_,rfl⟩).elim fun q hqe=>?_
   rw[hqe]at hq0 hvx hvb
   have hvx':∀ h:i<vs.length,vs[i]'h=q:=fun h=>hqe
   have t1:=(vM q).1
   have t2:=(vM q).2.1
   have t3:=(vM q).2.2
   have hw8:IntKind.i8.wrap (q.tmod 4)=q.tmod 4:=aKg (by omega) (by omega)
   have hw:Ah.wrap ((i:Int)+1)=(i:Int)+1:=aR (by omega) (by omega)
   have hwt:Ah.wrap (q.tmod 4)=q.tmod 4:=aR (by omega) (by omega)
   have hof:=vV (q.tmod 4) (by omega) (by omega)
   have hgy:cyc[i]? = some (cyc.getD i []):=by rw[Ac,Aa g1];rfl
   have hyb:=hb _ (Aq hgy)
   have hyl1:=hyl _ (Aq hgy)
   have hnx:gB cyc (0::vs) (i+1)=bV o (mulR (q.tmod 4) (cyc.getD i [])):=by rw[gB,hq0,ho]
   clear ho hgs
   refine(show ∃ y,cyc.getD i []=y from⟨_,rfl⟩).elim fun y hye=>?_
   rw[hye]at hgy hyb hyl1 hnx
   have hgy':∀ h:i<cyc.length,cyc[i]'h=y:=fun h=>Bg ((Aa h).symm.trans hgy)
   refine(show ∃ z,q.tmod 4=z from⟨_,rfl⟩).elim fun z hz=>?_
   rw[hz]at t1 t2 t3 hw8 hwt hof hnx
   have hA:=bCr o y z _ (2^e) (2^2) hgs0.1 hyb t1 (mM (cAr (by omega) hyl1) he) (mM (by rw[mK];exact uJ (show 2+e≤e+20 by omega)) he) (mM (uJ (show 2≤e+20 by omega)) he) (mM (uJ (show e≤e+20 by omega)) he) (by omega)
   simp[-map_map,-mapM_map,↓KW,aF,gP,eH,g1,g2,q1,q3,hgy,hgy',hvx,hvx',hwt,hw8,hw,hz]
   refine aA (ds:=[.i .i64 z]) (by rfl) hof ?_
   simp[-map_map,-mapM_map,↓KW,bF,aG,aD,aK,aM,bE,bC]
   refine aA (ds:=[aG o,aG y,encZ z]) (by rfl) hA ?_
   simp[-map_map,-mapM_map,↓KW,aG,hw]
   refine aJ (i+1,bV o (mulR z y)) ⟨by simp only;omega,hnx⟩ (by simp only;omega) (aY [] (by simp) ?_ ?_)<;>simp[-map_map,upd,aT,Γ0,aF,gP,aG,eH]
  ·have hob:bb=o:=by rw[←hbe,show min cyc.length vs.length=i by omega,ho]
   by_cases g1:i<cyc.length
   ·have q1:(i:Int)<cyc.length:=by omega
    have q3:¬(i:Int)<vs.length:=by omega
    have g2:¬i<vs.length:=by omega
    simp[-map_map,-mapM_map,↓KW,aF,gP,eH,aG,g1,g2,q1,q3,hob]
   ·have q1:¬(i:Int)<cyc.length:=by omega
    simp[-map_map,-mapM_map,↓KW,aF,gP,eH,aG,g1,q1,hob]
end Go.Am
end

section
set_option linter.unusedVariables false
set_option linter.unusedSimpArgs false
open List (map_map mapM_map)
open Go Go.Am Go.Proofs
namespace Go.Am
def aEy(R c:Nat)(A:List (List Int)):HO:=.cells 95 [.d (.i .i64 (R:Int)),.d (.i .i64 (c:Int)),.d (.sl (A.map fun v=>[bO v]))]
set_option maxHeartbeats 2000000 in
set_option maxRecDepth 10000 in
theorem bLs{R R' c:Nat}{A B:List (List Int)}(hA:Sh R c A)(hB:Sh R' c B)(hAs:∀ v∈A,∀ z∈v,Sz z)(hBs:∀ v∈B,∀ z∈v,Sz z)(hR:R≤1000)(hR':R'≤1000)(hc:c≤1000) :
  Spec Tryz.prog 79 [bN R c A,bN R' c B] (.b (decide (A=B))):=by
 refine aZ (N:=46) aI Tryz.func79 rfl rfl rfl (by kernel_rfl) (by kernel_rfl) (by simp) ?_
 have hAl:=hA.len
 have hBl:=hB.len
 have q0:(((c:Int) != (c:Int)):Bool)=false:=by simp
 by_cases hn:R=R'
 rotate_left
 ·have h1:(((R:Int) != (R':Int)):Bool)=true:=by simp;omega
  have h2:decide (A=B)=false:=by simp;intro e;rw[e]at hAl;omega
  simp[-map_map,-mapM_map,↓KW,bN,h1,h2]
 ·subst hn
  have h1:(((R:Int) != (R:Int)):Bool)=false:=by simp
  simp[-map_map,-mapM_map,↓KW,bN,h1,q0,hAl,hBl]
  refine aU (fun i:Nat=>i≤R∧∀ j,j<i→A[j]? = B[j]?) (fun i=>StL [(2,.ptr 1 0),(3,.ptr 2 0),(5,.d (.i .i64 (i:Int)))] none [aEy R c A,aEy R c B]) (fun i=>R-i) 0 ⟨An _,fun j h=>by omega⟩ ?_ ?_
  ·refine aY [1,2] (by simp) ?_ ?_<;>simp[-map_map,upd,aT,Γ0,aEy]
  ·rintro i ⟨hi,hok⟩
   by_cases hgo:i<R
   ·have q1:(i:Int)<R:=by omega
    have g1:i<A.length:=by omega
    have g2:i<B.length:=by omega
    have hx:A[i]? = some A[i]:=Aa g1
    have hy:B[i]? = some B[i]:=Aa g2
    have hxs:=hAs _ (Ak g1)
    have hys:=hBs _ (Ak g2)
    have hxl:=hA.row _ (Ak g1)
    have hw:Ah.wrap ((i:Int)+1)=(i:Int)+1:=aR (by omega) (by omega)
    generalize A[i]=x at *
    generalize B[i]=y at *
    have hS:=aQh hxs hys (by omega)
    have hne:¬(x=y)→decide (A=B)=false:=fun h=>by
     simp only[decide_eq_false_iff_not]
     intro e
     rw[e,hy]at hx
     injection hx with hx
     exact h hx.symm
    have ex:bO x=.sl (x.map qP):=rfl
    have ey:bO y=.sl (y.map qP):=rfl
    by_cases hxy:x=y
    ·rw[BA hxy]at hS
     simp[-map_map,-mapM_map,↓KW,aEy,q1,g1,g2,hAl,hBl,hx,hy,ex,ey]
     refine aA (ds:=[bO x,bO y]) (by rfl) hS ?_
     simp[-map_map,-mapM_map,↓KW,aEy,hw]
     refine aJ (i+1) ⟨hgo,fun j hj=>?_⟩ (Ab hgo (Ad _)) (aY [1,2] (by simp) ?_ ?_)
     ·by_cases e:j=i
      ·rw[e,hx,hy,hxy]
      ·exact hok j (by omega)
     ·simp[-map_map,upd,aT,Γ0,aEy]
     ·simp[-map_map,upd,aT,Γ0,aEy]
    ·rw[Bq hxy]at hS
     simp[-map_map,-mapM_map,↓KW,aEy,q1,g1,g2,hAl,hBl,hx,hy,ex,ey]
     refine aA (ds:=[bO x,bO y]) (by rfl) hS ?_
     simp[-map_map,-mapM_map,↓KW,aEy,hne hxy]
   ·have q1:¬(i:Int)<R:=by omega
    have e:decide (A=B)=true:=by
     rw[AH]
     exact aGw (by omega) fun j hj=>hok j (by omega)
    simp[-map_map,-mapM_map,↓KW,aEy,q1,hAl,hBl,e]
/-! A matrix with one more row -/
theorem bKl:bKk Tryz.prog 95 2=some (2,false,1):=by kernel_rfl
set_option maxHeartbeats 2000000 in
set_option maxRecDepth 10000 in
theorem bLt(v:List Int)(hl:v.length≤1000000):Spec Tryz.prog 82 [bO v] (bN 1 v.length [v]):=by
 refine aZ (N:=8) aI Tryz.func82 rfl rfl rfl (by kernel_rfl) (by kernel_rfl) (by simp) ?_
 have hm1:(1:Nat)≤maxLen:=aW (by decide)
 simp[-map_map,-mapM_map,↓KW,bN,bO,hm1]
theorem bGa{H:Nat→Option HO}{e:TypeId}{R p:Nat}{os:List AV}{M:List (List Int)}(k:Nat)(hl:os.length=R)(hM:M.length=R)(h0:H p=some (.cells e os))(h:∀ i x,os[i]? = some x→frz H (k+2) x=some (bO (M.getD i []))):frz H (k+3) (.own p 0 R 1)=some (.sl (M.map fun v=>[bO v])):=by
 rw[jY,h0]
 simp only[Bf,CK,CH,BS]
 rw[Ag ⟨by omega,by decide⟩,Ai (by omega)]
 rw[mapM_some (frz H (k+2)) (fun i=>bO (M.getD i [])) _ h]
 simp only[AW,hl]
 congr 2
 unfold chunk
 refine List.ext_getElem (by simp[hM]) fun i a1 a2=>?_
 have hi:i<R:=by simpa using a1
 have hiM:i<M.length:=by rw[hM];exact hi
 simp only[Cm,Et,CK]
 rw[A2 (by simpa using hi)]
 simp only[Cm,Et,B6,BZ]
 rw[Ac,Aa hiM];rfl
theorem aWs{σ:St}{r c:Int}{x:AV}{l:List (List D)}(h4:σ.Γ 4=.ptr 3 0)(h5:σ.Γ 5=.d (.i .i64 0))(h3:σ.H 3=some (.cells 95 [.d (.i .i64 r),.d (.i .i64 c),x]))(hx:one x=true)(hf:frz σ.H 7 x=some (.sl l)) :
  mW Tryz.prog [.cell 4 95,.tmp 5] σ=some (.tp [.ag [.i .i64 r,.i .i64 c,.sl l],.i .i64 0]):=by
 rw[fV,aFp,aLl,h4,h5]
 simp[h3,hx,hf,aVh]
theorem aZb(c R m:Nat)(hm:4<m):(hdr c R 5++[AV.own m 0 c 2]).map (eN [4])=hdr c R 5++[AV.own m 0 c 2]:=by
 rw[Bu (g:=id) fun x hx=>?_,List.map_id]
 rcases A9.1 hx with h|h
 ·obtain⟨j,_,rfl⟩:=AE.1 h
  rw[uV,Ae (by simp<;>omega)];rfl
 ·rw[AP.1 h,uV,Ae (by simp<;>omega)];rfl
set_option maxHeartbeats 8000000 in
set_option maxRecDepth 10000 in
theorem aXk{R c:Nat}{A:List (List Int)}{v:List Int}(hA:Sh R c A)(hv:v.length=c)(hR:R≤999)(hc:c≤1000)(hAs:∀ v∈A,∀ z∈v,Sz z)(hvs:∀ z∈v,Sz z) :
  Spec Tryz.prog 110 [bN R c A,bN 1 c [v]] (.tp [bN ((R+1:Nat):Int) c (A++[v]),.i .i64 0]):=by
 have hN1:=yK hA (by omega) hc hAs
 have hV:Sh 1 c [v]:=⟨rfl,fun u hu=>by rw[AP.1 hu];exact hv⟩
 have hN2:=yK hV (by omega) hc fun u hu=>by rw[AP.1 hu];exact hvs
 have hl:∀ m,(mB c A m).length=R+1:=fun m=>by rw[cL,hA.len]
 have hl2:∀ m,(mB c [v] m).length=2:=fun m=>rfl
 have q0:(((c:Int) != (c:Int)):Bool)=false:=by simp
 have hw:Ah.wrap ((R:Int)+1)=(R:Int)+1:=aR (by omega) (by omega)
 refine aZ (N:=29) aI Tryz.func110 rfl rfl rfl (by kernel_rfl) (by kernel_rfl) (by simp) ?_
 simp[-map_map,-mapM_map,↓KW,bN,q0]
 refine iZ [bN R c A] (nwV R c) (mB c A) (by simp) (by simp) (by simp) (by rfl) (by rfl) hN1 ?_
 have n1:¬1=4+(R+1):=by omega
 have n2:¬2=4+(R+1):=by omega
 have n3:¬3=4+(R+1):=by omega
 simp[-map_map,-mapM_map,↓KW,nwV,hl,fE,hw,n1,n2,n3]
 refine iZ [bN 1 c [v]] (nwV 1 c) (mB c [v]) (by simp) (by simp) (by simp) (by rfl) (by rfl) hN2 ?_
 have n4:¬4+(R+1)≤3:=by omega
 have m1:∀(m:Nat) (h:0<(mB c [v] m).length),(mB c [v] m)[0]'h=.cells 97 [.own (m+1) 0 c 2]:=fun m h=>by simp[mB,hdr]
 have m2:∀(m:Nat) (h:0<(mB c A m).length),(mB c A m)[0]'h=.cells 97 (hdr c R (m+1)):=fun m h=>by rw[←hA.len];rfl
 have hdl:(hdr c R 5).length=R:=cK _ _ _
 have b1:(R+1)*24≤140737488355328:=by omega
 have b2:R+1≤maxLen:=aW (by omega)
 have n5:(4+(R+1)=4+(R+1)+1+2)=False:=EP (by omega)
 have n6:(4+(R+1)+1≤4+(R+1))=False:=EP (by omega)
 have n7:(3=4+(R+1)+1+2)=False:=EP (by omega)
 have n8:(4+(R+1)+1≤3)=False:=EP (by omega)
 have n9:(4+(R+1)=1)=False:=EP (by omega)
 have na:(4+(R+1)=2)=False:=EP (by omega)
 have nb:(4+(R+1)=3)=False:=EP (by omega)
 have nc:(4+(R+1)+1+2=3)=False:=EP (by omega)
 have nd:(4+(R+1)+1+2=4+(R+1))=False:=EP (by omega)
 simp[-map_map,-mapM_map,↓KW,nwV,hl,hl2,fE,hw,n1,n2,n3,n4,n5,n6,n7,n8,n9,na,nb,nc,nd,m1,m2,hdl,b1,b2,bKl]
 refine aWs (by simp[upd]) (by simp[upd]) (by simp only[upd,BN];rfl) rfl ?_
 have hAl:=hA.len
 refine(bGa (M:=A++[v]) 4 (e:=97) (os:=hdr c R 5++[AV.own (4+(R+1)+1+1) 0 c 2]) (by simp[cK]) (by simp[hAl]) ?_ fun i x hx=>?_).trans (by simp)
 ·simp only[upd,nc,nd,BB,BN,AW,qB]
  rw[aZb _ _ _ (by omega)]
 ·by_cases hi:i<R
  ·rw[AF (by rw[hdl];exact hi),dC hi]at hx
   injection hx with hx;subst hx
   have hiA:i<A.length:=by omega
   have hM:(A++[v]).getD i []=A[i]:=by rw[Ac,AF hiA,Aa hiA];rfl
   rw[hM]
   refine aCv 4 (e:=74) ?_ (hA.row _ (Ak hiA))
   have g1:¬i+5=3:=by omega
   have g2:¬i+5=4+(R+1):=by omega
   have g3:¬i+5=4+(R+1)+1+2:=by omega
   have g4:¬i+5=4:=by omega
   have g5:¬(4+(R+1)+1≤i+5∧i+5<4+(R+1)+1+2):=by omega
   have g6:4≤i+5∧i+5<4+(R+1):=by omega
   simp only[upd,g1,g2,g3,g4,g5,g6,BB,BN,and_self]
   rw[show i+5-4=i+1 by omega]
   simp only[mB,A6,Ax,Aa hiA,AW,vR,rN]
  ·have hiR:i=R:=by
    have:=(Aj.1 hx).1
    rw[Al,hdl,Ar]at this;omega
   subst hiR
   rw[AA (by omega),hdl,Cq,BD]at hx
   injection hx with hx;subst hx
   have hM:(A++[v]).getD i []=v:=by rw[Ac,AA (by omega),hAl,Cq];rfl
   rw[hM]
   refine aCv 4 (e:=74) ?_ hv
   have g1:¬4+(i+1)+1+1=3:=by omega
   have g2:¬4+(i+1)+1+1=4+(i+1):=by omega
   have g3:¬4+(i+1)+1+1=4+(i+1)+1+2:=by omega
   have g4:¬4+(i+1)+1+1=4:=by omega
   have g5:4+(i+1)+1≤4+(i+1)+1+1∧4+(i+1)+1+1<4+(i+1)+1+2:=by omega
   simp only[upd,g1,g2,g3,g4,g5,BB,BN,and_self]
   rw[show 4+(i+1)+1+1-(4+(i+1)+1)=1 by omega]
   simp only[mB,AR,Di,A6,BD,AW,vR,rN]
set_option maxHeartbeats 2000000 in
set_option maxRecDepth 10000 in
theorem aLp{R c:Nat}{A:List (List Int)}{v:List Int}(hA:Sh R c A)(hv:v.length=c)(hR:R≤999)(hc:c≤1000)(hAs:∀ v∈A,∀ z∈v,Sz z)(hvs:∀ z∈v,Sz z) :
  Spec Tryz.prog 81 [bN R c A,bN 1 c [v]] (bN ((R+1:Nat):Int) c (A++[v])):=by
 have h:=aXk hA hv hR hc hAs hvs
 refine aZ (N:=14) aI Tryz.func81 rfl rfl rfl (by kernel_rfl) (by kernel_rfl) (by simp) ?_
 generalize A++[v]=B at *
 have e1:bN 1 c [v]=.ag [.i .i64 1,.i .i64 c,.sl [[bO v]]]:=rfl
 have e2:∀ n:Int,bN n c B=.ag [.i .i64 n,.i .i64 c,.sl (B.map fun v=>[bO v])]:=fun n=>rfl
 have e3:bN R c A=.ag [.i .i64 R,.i .i64 c,.sl (A.map fun v=>[bO v])]:=rfl
 rw[e1,e2,e3]
 rw[e1,e2,e3]at h
 simp[-map_map,-mapM_map,↓KW,]
 refine aA (ds:=[.ag [.i .i64 R,.i .i64 c,.sl (A.map fun v=>[bO v])],.ag [.i .i64 1,.i .i64 c,.sl [[bO v]]]]) (by rfl) h ?_
 simp[-map_map,-mapM_map,↓KW,]
set_option maxHeartbeats 4000000 in
set_option maxRecDepth 10000 in
theorem aLq{R c e:Nat}{A:List (List Int)}{v:List Int}(hA:Sh R c A)(hv:v.length=c)(hR:R≤14)(hc:c≤1000)(hB:Be e A)(hvb:∀ z∈v,z.natAbs≤2^e)(he:dbl (tr (R+1)) e<1099511627776) :
  ∃ b,Spec Tryz.prog 42 [bN R c A,bO v] (.b b)∧(b=true↔InL R c A v):=by
 have he0:e<1099511627776:=Bt (qR _ _) he
 have hBA:Be e (A++[v]):=Be.of (bIn hA hv) fun r t hr ht=>by
  by_cases h:r<R
  ·rw[aOd (by rw[hA.len];exact h)];exact hB r t
  ·have:=aOc (M:=A) (v:=v) (s:=t)
   rw[hA.len]at this
   rw[show r=R by omega,this,Ac,Aa (by omega)]
   exact hvb _ (Ak _)
 obtain⟨B,b1⟩:=aOq hA (by omega) hc hB (Bt (jD (show tr R≤tr (R+1)by simp only[tr];omega)) he)
 obtain⟨B',b2⟩:=aOq (bIn hA hv) (by omega) hc hBA he
 have hS:=bLs b2.sh b1.sh b2.sz b1.sz (by have:=b2.le;omega) (by have:=b1.le;omega) hc
 refine⟨decide (B'=B),?_,by rw[AH];exact contains_iff hA b1 b2⟩
 have hvs:∀ z∈v,Sz z:=fun z hz=>by
  have:=hBA.mem he0 v (List.mem_append_right _ (List.mem_singleton_self _)) z hz
  exact this
 have hRw:=bLt v (by omega)
 have hT:=aLp hA hv (by omega) hc (hB.mem he0) hvs
 have s1:=b1.spec
 have s2:=b2.spec
 rw[hv]at hRw
 generalize A++[v]=AV' at *
 generalize decide (B'=B)=r at *
 have e1:bN 1 c [v]=.ag [.i .i64 1,.i .i64 c,.sl [[bO v]]]:=rfl
 have e2:∀(n:Int) (X:List (List Int)),bN n c X=.ag [.i .i64 n,.i .i64 c,.sl (X.map fun v=>[bO v])]:=fun n X=>rfl
 have e3:((c:Int) != (c:Int))=false:=by simp
 have e4:bO v=.sl (v.map qP):=rfl
 refine aZ (N:=18) aI Tryz.func42 rfl rfl rfl (by kernel_rfl) (by kernel_rfl) (by simp) ?_
 rw[e4]
 simp[-map_map,-mapM_map,↓KW,bN,e3,hv]
 refine aA (ds:=[bO v]) (by rfl) hRw ?_
 simp[-map_map,-mapM_map,↓KW,bN]
 refine aA (ds:=[bN R c A,bN 1 c [v]]) (by rfl) hT ?_
 simp[-map_map,-mapM_map,↓KW,bN]
 refine aA (ds:=[bN ((R+1:Nat):Int) c AV']) (by rfl) s2 ?_
 simp[-map_map,-mapM_map,↓KW,bN]
 refine aA (ds:=[bN R c A]) (by rfl) s1 ?_
 simp[-map_map,-mapM_map,↓KW,bN]
 refine aA (ds:=[bN B'.length c B',bN B.length c B]) (by rfl) hS ?_
 simp[-map_map,-mapM_map,↓KW,]
end Go.Am
end

section
set_option linter.unusedVariables false
set_option linter.unusedSimpArgs false
open List (map_map mapM_map)
open Go Go.Am Go.Proofs
namespace Go.Am
theorem bKf{c:List Cl}(hv:CxV c){k:Int}{x:List (Int×Int)}(h:In c k x):(xX c k x).1=fG (bR c k) x:=by
 obtain⟨h1,h2⟩:=bGv hv h
 unfold xX
 rw[Ag h1,Ae fun h=>h.2 (h2 h.1)]
theorem bLf{ids:List Int}{x:List (Int×Int)}{M:Nat}(h:Bnd M x):∀ z∈fG ids x,z.natAbs≤M:=fun z hz=>by
 obtain⟨n,_,rfl⟩:=AE.1 hz
 exact bEe h n
set_option maxHeartbeats 4000000 in
set_option maxRecDepth 10000 in
theorem aFr{c:List Cl}{K:Int}{y:Ch}{e:Nat}(hv:CxV c)(hl:c.length≤100)(hbl:∀ x∈c,x.b.length≤100)(hK:0≤K∧K≤10)(hy:Val y)(hyl:y.length≤100)(hi:In c (K-1) y)(hb:∀ x∈c,x.dim=K→Bnd (2^e) x.b)(hyb:Bnd (2^e) y)
  (hR:(bR c K).length≤14) (he:dbl (tr ((bR c K).length+1)) e<1099511627776) :
  ∃ b,Spec Tryz.prog 12 [aF c,aG y] (.b b)∧(b=true↔y=[]∨∃ z,Val z∧In c K z∧bdX c z=y):=by
 have hD:=bCp c y (by omega) (by omega)
 obtain⟨d1,d2⟩:=bGv hv hi
 rw[d1]at hD
 by_cases h0:y.length=0
 ·have e0:y=[]:=Au h0
  refine⟨true,?_,by simp[e0]⟩
  refine aZ (N:=27) aI Tryz.func12 rfl rfl rfl (by kernel_rfl) (by kernel_rfl) (by simp) ?_
  generalize(qQ c y).1=d at *
  subst e0
  simp[-map_map,-mapM_map,↓KW,aF,aG]
  refine aA (ds:=[aF c,aG []]) (by rfl) hD ?_
  simp[-map_map,-mapM_map,↓KW,aF,aG]
 ·rw[d2 (by omega)]at hD
  have hB:=zC c K (by omega) (by omega) (fun x hx=>by have:=hbl x hx;omega)
  have hW:=bSj c (K-1) y (by omega) (by omega)
  rw[bKf hv hi]at hW
  obtain⟨b,hC,hiff⟩:=aLq (mZ c K) (iG (bR c (K-1)) y) hR (by have:=fA c (K-1);omega) (tN hv.inc hb) (bLf hyb) he
  refine⟨b,?_,by
   rw[hiff,bNw hv hy hi]
   exact⟨.inr,fun h=>h.resolve_left fun e=>h0 (by rw[e];rfl)⟩⟩
  have hw:Ah.wrap K=K:=aR (by omega) (by omega)
  have hw1:K-1+1=K:=by omega
  have q0:(((y.length:Int)==0):Bool)=false:=by simp;intro e;exact h0 (by rw[e];rfl)
  generalize(bR c K).length=R at *
  generalize(bR c (K-1)).length=C at *
  generalize mF c K=M at *
  generalize fG (bR c (K-1)) y=v at *
  have e4:bO v=.sl (v.map qP):=rfl
  refine aZ (N:=27) aI Tryz.func12 rfl rfl rfl (by kernel_rfl) (by kernel_rfl) (by simp) ?_
  simp[-map_map,-mapM_map,↓KW,aF,aG]
  refine aA (ds:=[aF c,aG y]) (by rfl) hD ?_
  simp[-map_map,-mapM_map,↓KW,aF,aG,q0,hw,hw1]
  refine aA (ds:=[aF c,.i .i64 K]) (by rfl) hB ?_
  simp[-map_map,-mapM_map,↓KW,aF,aG,bN]
  refine aA (ds:=[aF c,.i .i64 (K-1),aG y]) (by rfl) hW ?_
  simp[-map_map,-mapM_map,↓KW,aF,aG,bN,e4]
  refine aA (ds:=[bN R C M,bO v]) (by rfl) hC ?_
  simp[-map_map,-mapM_map,↓KW,]
end Go.Am
end

section
set_option linter.unusedVariables false
set_option linter.unusedSimpArgs false
open Go Go.Am Go.Proofs
namespace Go.Am
/-! A twin, plain -/
section
variable {c:List Cl} {x:Cl} {N:Int}
theorem aNi{a b:Int}{h:Nat}(hl:c.length≤100):SzM h (dO c [(b,[(a,1)])]):=by
 have hp:∀ p∈dO c [(b,[(a,1)])],∃ n,p.2=[(n,1)]:=fun p hp=>by
  obtain⟨y,_,rfl⟩:=AE.1 hp
  exact⟨_,wX a b y.id⟩
 refine⟨by simpa[dO]using hl,fun p h1=>?_,fun p h1=>?_,fun p h1=>?_⟩
 ·obtain⟨n,e⟩:=hp p h1;rw[e];exact Nat.le_of_ble_eq_true rfl
 ·obtain⟨n,e⟩:=hp p h1;rw[e]
  exact Bnd.one (by show(1:Int).natAbs≤_;exact DV)
 ·obtain⟨n,e⟩:=hp p h1;rw[e]
  exact⟨DN _ _,fun y hy=>by rw[AP.1 hy];simp⟩
end
theorem iA(m:List (Int×Ch)):aT (aV m)=.d (aV m):=rfl
theorem bNm{c:List Cl}(h:CxV c)(hb:∀ y∈c,-9223372036854775808≤y.id∧y.id≤9223372036854775807):∀ y∈c,Keys y.b:=fun y hy f hf=>by
 obtain⟨z,hz,e,_⟩:=h.face y hy f hf
 have:=hb z hz
 rw[←e]
 simp only[inr,AH];omega
end Go.Am
end

section
set_option linter.unusedVariables false
set_option linter.unusedSimpArgs false
open List (map_map mapM_map)
open Go Go.Am Go.Proofs
namespace Go.Am
def gH(x:Ch)(n:Int):Int:=((x.find? fun f=>decide (f.1=n)).map (·.2)).getD 0
theorem aRq{x:Ch}{i:Nat}(h:i<x.length)(n:Int):gH (x.drop i) n=if x[i].1=n then x[i].2 else gH (x.drop (i+1)) n:=by
 unfold gH
 rw[A2 h,CX]
 by_cases e:x[i].1=n<;>simp[e]
set_option maxHeartbeats 2000000 in
set_option maxRecDepth 10000 in
theorem aIj{x:Ch}(n:Int)(hl:x.length≤1000000):Spec Tryz.prog 98 [aG x,.i .i64 n] (encZ (gH x n)):=by
 refine aZ (N:=25) aI Tryz.func98 rfl rfl rfl (by kernel_rfl) (by kernel_rfl) (by simp) ?_
 simp[-map_map,-mapM_map,↓KW,aG]
 refine aU (fun i:Nat=>i≤x.length∧gH (x.drop i) n=gH x n) (fun i=>StL [(0,.d (aG x)),(1,.d (.i .i64 n)),(4,.ptr 1 0),(5,.d (.i .i64 (i:Int)))] none [.cells 74 [.d (.b false),.nil]]) (fun i=>x.length-i) 0 ⟨An _,rfl⟩ ?_ ?_
 ·refine aY [1] (by simp) ?_ ?_<;>simp[-map_map,upd,aT,Γ0,aG]
 ·rintro i ⟨hi,hd⟩
  by_cases hgo:i<x.length
  ·have q1:(i:Int)<x.length:=by omega
   have hf:x[i]? = some x[i]:=Aa hgo
   have hw:Ah.wrap ((i:Int)+1)=(i:Int)+1:=aR (by omega) (by omega)
   rw[aRq hgo]at hd
   refine(show ∃ f,x[i]=f from⟨_,rfl⟩).elim fun f hfe=>?_
   rw[hfe]at hf hd
   have hef:dK f=[.i .i64 f.1,.b (decide (f.2<0)),aN (aX f.2.natAbs)]:=rfl
   by_cases h0:f.1=n
   ·rw[Ag h0]at hd
    have q3:(((n:Int)==(n:Int)):Bool)=true:=by simp
    simp[-map_map,-mapM_map,↓KW,aG,q1,hf,hef,h0,q3,bF,←hd,aK,aD,aM]
   ·rw[Ae h0]at hd
    have h0':((f.1==n):Bool)=false:=by simpa using h0
    simp[-map_map,-mapM_map,↓KW,aG,q1,hf,hef,h0,h0',hw,aK,aD,aM]
    refine aJ (i+1) ⟨hgo,hd⟩ (Ab hgo (Ad _)) (aY [1] (by simp) ?_ ?_)<;>simp[-map_map,upd,aT,Γ0,aG]
  ·have q1:¬(i:Int)<x.length:=by omega
   have h0:gH x n=0:=by rw[←hd,List.drop_of_length_le (by omega)];rfl
   have h1:aN (aX 0)=.sl []:=by rw[cP];rfl
   simp[-map_map,-mapM_map,↓KW,aG,q1,h0,bF,h1]
/-! Cells struck -/
end Go.Am
end

section
set_option linter.unusedVariables false
set_option linter.unusedSimpArgs false
open List (map_map mapM_map)
open Go Go.Am Go.Proofs
namespace Go.Am
theorem pU(x:Int×Int):(dK x).length=3:=rfl
theorem tV(x:Int×Int):((dK x).map AV.d).all one=true:=rfl
theorem bMa{Γ:Nat→AV}{H:Nat→Option HO}{n0 k n sz:Nat}{e:TypeId}{cs:List D}(hH:H k=some (.cells e (cs.map .d)))(m:Nat)(hm:0<m):Wk ⟨upd Γ 0 (.own k 0 n sz),H,n0⟩ (fM (fun m=>.own m 0 n sz) (fun _=>[.cells e (cs.map .d)]) m) (fun _=>k):=by
 refine⟨fun id hid=>?_,fun t'=>?_,fun id o' ho=>?_,fun id id' h1 h2 _=>?_,fun h=>?_,fun h=>?_⟩
 ·simp only[fM,fE]at hid ⊢
  rw[Ae (by simp at hid ⊢;omega)]
 ·by_cases h:t'=0
  ·subst h
   show Sub H _ _ (upd Γ 0 (.own k 0 n sz) 0) (upd (fun _=>.any) 0 (.own m 0 n sz) 0)
   rw[cQ,cQ]
   exact⟨rfl,rfl,rfl,rfl,by simp[fM,fE]⟩
  ·simp only[fM,upd,Ae h];exact mS _
 ·simp only[fM,fE]at ho
  split at ho
  ·rename_i hid
   simp at hid
   obtain rfl:id=m:=by omega
   simp at ho
   subst ho
   refine⟨_,hH,eJ.2 ⟨rfl,eK.2 ⟨rfl,fun k x y h1 h2=>?_⟩⟩⟩
   rw[h1]at h2;injection h2 with h2;subst h2
   rw[Ax]at h1
   obtain⟨d,_,rfl⟩:=Option.map_eq_some_iff.1 h1
   exact(jO _ _).2 rfl
  ·cases ho
 ·simp only[fM,fE]at h1 h2
  split at h1
  ·split at h2
   ·simp at *;omega
   ·cases h2
  ·cases h1
 ·simp only[fM,fE]at h
  split at h
  ·simp at *;omega
  ·cases h
 ·simp only[fM]at h;simp at h
theorem aUg{Γ:Nat→AV}{H:Nat→Option HO}{n0:Nat}{x:AV}(hx:frz H 8 x=some (.sl []))(m:Nat)(hm:0<m):Wk ⟨upd Γ 0 x,H,n0⟩ (fM (fun _=>.d (.sl [])) (fun _=>[]) m) (fun _=>0):=by
 refine⟨fun id hid=>?_,fun t'=>?_,fun id o' ho=>?_,fun id id' h1 h2 _=>?_,fun h=>?_,fun h=>?_⟩
 ·simp[fM,fE]
 ·by_cases h:t'=0
  ·subst h
   show Sub H _ _ (upd Γ 0 x 0) (upd (fun _=>.any) 0 (.d (.sl [])) 0)
   rw[cQ,cQ]
   exact kW hx fun a _ id hid=>by simp[fM,fE]at hid
  ·simp only[fM,upd,Ae h];exact mS _
 ·simp[fM,fE]at ho
 ·simp[fM,fE]at h1
 ·simp[fM,fE]at h
 ·simp only[fM]at h;simp at h;omega
set_option maxHeartbeats 4000000 in
theorem bPf:rG Tryz.prog 53 [aG []] (fun _=>.d (aG [])) (fun _=>[]):=by
 refine nN (N:=8) aI Tryz.func53 rfl rfl rfl (by decide) (by kernel_rfl) (by kernel_rfl) (by simp) rfl ?_
 simp[-map_map,-mapM_map,↓KW,aG]
 refine⟨fun m hm=>⟨_,aUg rfl m hm⟩,fun m hm=>⟨_,aUg ?_ m hm⟩⟩
 simp[iS,eC,chunk]
set_option maxHeartbeats 4000000 in
theorem bUg{l:Ch}(h0:l≠[])(hl:l.length≤1000000):rG Tryz.prog 53 [aG l] (fun m=>.own m 0 l.length 3) (fun _=>[.cells 76 ((flt dK l).map .d)]):=by
 refine nN (N:=8) aI Tryz.func53 rfl rfl rfl (by decide) (by kernel_rfl) (by kernel_rfl) (by simp) rfl ?_
 obtain⟨x,r,rfl⟩:=Fc h0
 obtain⟨a,t,hE,hcond,hval,hlen⟩:∃ a t,aG (x::r)=.sl (a::t)∧(a.length=3∧(∀ x,x∈a→one (AV.d x)=true)∧∀ x,x∈t→∀ y,y∈x→one (AV.d y)=true)∧BR AV.d a++(t.map (BR AV.d)).flatten=(flt dK (x::r)).map .d∧t.length+1=(x::r).length:=by
  have h1:∀ x:Int×Int,∀ y∈dK x,one (AV.d y)=true:=fun x y hy=>by
   have:=AO.1 (tV x) (.d y) (AE.2 ⟨y,hy,rfl⟩)
   exact this
  refine⟨dK x,r.map dK,rfl,⟨rfl,h1 x,fun z hz y hy=>?_⟩,?_,by simp⟩
  ·obtain⟨w,_,rfl⟩:=AE.1 hz
   exact h1 w y hy
  ·simp[flt,Eh]
 have hall:∀ y,y∈flt dK (x::r)→one (AV.d y)=true:=fun y hy=>AO.1 (dZ tV (x::r)) (.d y) (AE.2 ⟨y,hy,rfl⟩)
 have e1:=cB pU (x::r)
 have e2:((flt dK (x::r)).map AV.d).take ((x::r).length*3)=(flt dK (x::r)).map AV.d:=eR pU rfl
 generalize hL:x::r=l at *
 have hall':=eq_true hall
 have hbb:l.length*40≤140737488355328∧l.length≤maxLen:=⟨by omega,aW (by omega)⟩
 rw[hE]
 simp[-map_map,-mapM_map,↓KW,hcond,hval,hlen,hbb,bAe,hall']
 refine fun m hm=>⟨_,bMa ?_ m hm⟩
 simp[eC]
set_option maxHeartbeats 4000000 in
theorem bPd{l:Ch}(h0:l≠[])(hl:l.length≤1000000):Spec Tryz.prog 53 [aG l] (aG l):=by
 refine aZ (N:=8) aI Tryz.func53 rfl rfl rfl (by kernel_rfl) (by kernel_rfl) (by simp) ?_
 obtain⟨x,r,rfl⟩:=Fc h0
 obtain⟨a,t,hE,hcond,hval,hlen⟩:∃ a t,aG (x::r)=.sl (a::t)∧(a.length=3∧(∀ x,x∈a→one (AV.d x)=true)∧∀ x,x∈t→∀ y,y∈x→one (AV.d y)=true)∧BR AV.d a++(t.map (BR AV.d)).flatten=(flt dK (x::r)).map .d∧t.length+1=(x::r).length:=by
  have h1:∀ x:Int×Int,∀ y∈dK x,one (AV.d y)=true:=fun x y hy=>by
   have:=AO.1 (tV x) (.d y) (AE.2 ⟨y,hy,rfl⟩)
   exact this
  refine⟨dK x,r.map dK,rfl,⟨rfl,h1 x,fun z hz y hy=>?_⟩,?_,by simp⟩
  ·obtain⟨w,_,rfl⟩:=AE.1 hz
   exact h1 w y hy
  ·simp[flt,Eh]
 have hall:∀ y,y∈flt dK (x::r)→one (AV.d y)=true:=fun y hy=>AO.1 (dZ tV (x::r)) (.d y) (AE.2 ⟨y,hy,rfl⟩)
 have e1:=cB pU (x::r)
 have e2:((flt dK (x::r)).map AV.d).take ((x::r).length*3)=(flt dK (x::r)).map AV.d:=eR pU rfl
 have e3:chunk 3 (x::r).length (flt dK (x::r))=(x::r).map dK:=eF (by decide) pU rfl
 generalize hL:x::r=l at *
 have hall':=eq_true hall
 have hbb:l.length*40≤140737488355328∧l.length≤maxLen:=⟨by omega,aW (by omega)⟩
 rw[hE]
 simp[-map_map,-mapM_map,↓KW,hcond,hval,hlen,hbb,bAe,hall']
 rw[e2]
 exact⟨Nat.le_of_eq e1.symm,_,nP _ 6 _,e3.trans (by injection hE)⟩
set_option maxHeartbeats 4000000 in
theorem bPe:Spec Tryz.prog 53 [aG []] (aG []):=by
 refine aZ (N:=8) aI Tryz.func53 rfl rfl rfl (by kernel_rfl) (by kernel_rfl) (by simp) ?_
 simp[-map_map,-mapM_map,↓KW,aG]
end Go.Am
end

section
set_option linter.unusedVariables false
set_option linter.unusedSimpArgs false
open Go Go.Am Go.Proofs
namespace Go.Am
theorem aTl(n:Int):((n.sign != 0):Bool)=!decide (n=0):=by
 by_cases h:n=0
 ·subst h;rfl
 ·have:n.sign≠0:=fun e=>h (Int.sign_eq_zero_iff_zero.1 e)
  simp[this,h]
end Go.Am
end

section
set_option linter.unusedVariables false
set_option linter.unusedSimpArgs false
open Go Go.Am Go.Proofs
namespace Go.Am
theorem bEc(c:List Cl)(g:List (Int×Ch)):(dO c g).length=c.length:=by unfold dO;rw[AN]
theorem pQ(c:List Cl):inj (aF c)=.d (aF c):=rfl
theorem lS(H:Nat→Option HO)(avs:List AV)(c:List Cl):cE H avs (aF c)=gT H avs:=rfl
theorem iH(c:List Cl):one (AV.d (aF c))=true:=rfl
theorem jH(c:List (Int×Ch)):one (AV.d (aV c))=true:=rfl
theorem eL(c:List Cl):eS (AV.d (aF c))=some [AV.d (aF c)]:=rfl
theorem fK(c:List (Int×Ch)):eS (AV.d (aV c))=some [AV.d (aV c)]:=rfl
theorem fW(c:List Cl):aT (aF c)=.d (aF c):=rfl
end Go.Am
end

section
set_option linter.unusedVariables false
set_option linter.unusedSimpArgs false
open Go Go.Am Go.Proofs
namespace Go.Am
theorem bHm{a b:Int}(h:a≠b)(n:Int):∀ l:Ch,cf n (l.map (fL a b))=if n=b then 0 else cf n l+if n=a then cf b l else 0
 |[]=>by simp[cf]
 |f::l=>by
  rw[AR]
  simp only[cf]
  rw[bHm h n l]
  unfold fL
  by_cases h1:f.1=b
  ·rw[Ag h1]
   by_cases h2:n=b
   ·have h3:¬n=a:=fun e=>h (e.symm.trans h2)
    rw[Ag h2,Ag h2,Ae h3];simp
   ·have h3:¬n=f.1:=fun e=>h2 (e.trans h1)
    rw[Ae h2,Ae h2,Ae h3]
    by_cases h4:n=a
    ·rw[Ag h4,Ag h4,Ag h4,Ag h1.symm];omega
    ·rw[Ae h4,Ae h4,Ae h4];omega
  ·rw[Ae h1]
   by_cases h2:n=b
   ·have h3:¬n=f.1:=fun e=>h1 (e.symm.trans h2)
    rw[Ag h2,Ag h2,Ae h3];simp
   ·rw[Ae h2,Ae h2]
    have h5:¬b=f.1:=fun e=>h1 e.symm
    rw[Ae h5]
    by_cases h4:n=a
    ·rw[Ag h4,Ag h4];omega
    ·rw[Ae h4,Ae h4];omega
theorem aOk{l:Ch}(h:Val l)(n:Int):gH l n=cf n l:=by
 induction l with
 |nil=>rfl
 |cons f l ih =>
  obtain⟨h1,h2,_⟩:=h.tail
  unfold gH
  rw[CX]
  simp only[cf]
  by_cases e:f.1=n
  ·have h0:cf n l=0:=by
    rw[fS h1,←fS h1]
    have:∀(l:Ch),(∀ x∈l,x.1≠n)→cf n l=0:=by
     intro l
     induction l with
     |nil=>intro _;rfl
     |cons x l ih=>intro hh;simp only[cf];rw[Ae (fun e=>hh x (Av ..) e.symm),ih fun y hy=>hh y (As _ hy)];rfl
    refine this l fun x hx=>?_
    have:=(A5.1 h.1).1 x hx
    omega
   simp[e,h0]
  ·have e':¬n=f.1:=fun x=>e x.symm
   rw[Ae e']
   simp only[e,EB,AU,BB,Ci]
   exact ih h1
theorem aYy(c:List Cl)(hc:CxV c)(a b:Int):(∃ n,n≠0∧bFr c a b=([],[],n))∨(aJx c a b∧bFr c a b=(kR c a b,dO c [(b,[(a,1)])],0)):=by
 unfold bFr
 split
 ·exact .inl ⟨250,by decide,rfl⟩
 ·rename_i h1
  split
  ·exact .inl ⟨260,by decide,rfl⟩
  ·rename_i h2
   split
   ·exact .inl ⟨310,by decide,rfl⟩
   ·rename_i h3
    refine .inr ⟨⟨fun e=>h3 (.inl e),?_,?_,?_,?_⟩,rfl⟩
    ·cases e:bW c a with
     |none=>exact(h1 (.inl (by rw[e];rfl))).elim
     |some x=>exact⟨x,cV e⟩
    ·cases e:bW c b with
     |none=>exact(h1 (.inr (by rw[e];rfl))).elim
     |some x=>exact⟨x,cV e⟩
    ·exact Bb fun e=>h2 e
    ·exact Bb fun e=>h3 (.inr e)
theorem bNz{c:List Cl}{F:Nat}(hz:SzX F c)(a b:Int):SzX (14+F) (kR c a b):=by
 refine⟨Ap (aNq _ _ _) hz.len,fun z hz'=>?_,fun z hz'=>?_⟩
 ·obtain⟨y,hy,_,rfl⟩:=jV.1 hz'
  have:=iL [] (y.b.map (fL a b))
  simp only[A8,Bf,AN]at this
  exact Ap this (hz.bl y hy)
 ·obtain⟨y,hy,_,rfl⟩:=jV.1 hz'
  have h1:=gQ (y.b.map (fL a b)) [] (Bnd.nil 0) (aBm (hz.bb y hy))
  simp only[Bf,A8,CH,AN]at h1
  exact h1.mono (lP (Ap (hz.bl y hy) (by decide)))
end Go.Am
end

section
set_option linter.unusedVariables false
set_option linter.unusedSimpArgs false
open List (map_map mapM_map)
open Go Go.Am Go.Proofs
namespace Go.Am
theorem bLw(x:Int)(hx:(aX x.natAbs).length≤549755813888):Spec Tryz.prog 99 [encZ x] (encZ (x.natAbs:Int)):=by
 refine aZ (N:=6) aI Tryz.func99 rfl rfl rfl (by kernel_rfl) (by kernel_rfl) (by simp) ?_
 have la:=cM x.natAbs
 have va:=cY x.natAbs
 have ex:encZ x=.ag [.b (decide (x<0)),aN (aX x.natAbs)]:=rfl
 have hm:=fZ (aX x.natAbs) false (by omega)
 rw[dV la,va]at hm
 have e:sg false x.natAbs=(x.natAbs:Int):=by unfold sg;simp
 rw[e]at hm
 rw[ex]
 generalize aX x.natAbs=a at *
 generalize decide (x<0)=nx at *
 simp[-map_map,-mapM_map,↓KW,aN]
 refine aA (ds:=[aN a,.b false]) (by rfl) hm ?_
 simp[-map_map,-mapM_map,↓KW,aN,encZ,encI]
/-! Free pairs, the reference's way -/
def usR(c:List Cl)(n:Int):Nat:=c.countP fun y=>decide (gH y.b n≠0)
def qK(c:List Cl)(a b:Int):Bool:=decide (usR c a=0)&&decide (usR c b=1)&&decide ((gH (bOf c a) b).natAbs=1)
theorem aKt{c:List Cl}{i:Nat}(h:i<c.length)(n:Int):usR (c.take (i+1)) n=usR (c.take i) n+if gH c[i].b n≠0 then 1 else 0:=by
 unfold usR
 rw[AJ,Aa h,List.countP_append]
 congr 1
 by_cases e:gH c[i].b n=0<;>simp[e]
theorem bRo(c:List Cl)(n:Int)(i:Nat):usR (c.take i) n≤i:=by
 unfold usR
 exact Ap (List.countP_le_length ..) (by rw[AM];omega)
theorem bRn{c:List Cl}{i:Nat}(h:i<c.length){n:Int}(hn:gH c[i].b n≠0):usR c n≠0:=by
 unfold usR
 rw[Nat.ne_zero_iff_zero_lt,List.countP_pos_iff]
 exact⟨c[i],Ak h,by simpa using hn⟩
theorem aRr{l:Ch}{M:Nat}(h:Bnd M l)(n:Int):(gH l n).natAbs≤M:=by
 unfold gH
 cases e:l.find? fun f=>decide (f.1=n)with
 |none=>exact An _
 |some f=>exact h f (Ek e)
set_option maxHeartbeats 2000000 in
set_option maxRecDepth 10000 in
theorem aXg{c:List Cl}{F:Nat}(a b:Int)(hz:SzX F c)(hF:F+4<4398046511104):Spec Tryz.prog 65 [aF c,.i .i64 a,.i .i64 b] (.b (qK c a b)):=by
 have hlen:=hz.len
 have hFa:=qE c a (by omega)
 have hr:∃ p x,(bW c a).isSome=p∧(bW c a).getD pH=x:=⟨_,_,rfl,rfl⟩
 obtain⟨p,x,hp,hx⟩:=hr
 have hba:bOf c a=x.b:=by unfold bOf;rw[hx]
 have hxl:x.b.length≤100:=by rw[←hba];exact uC hz.bl a
 have hxb:Bnd (2^F) x.b:=by rw[←hba];exact oR hz.bb a
 unfold vB at hFa
 rw[hp,hx]at hFa
 refine aZ (N:=54) aI Tryz.func65 rfl rfl rfl (by kernel_rfl) (by kernel_rfl) (by simp) ?_
 simp[-map_map,-mapM_map,↓KW,aF]
 refine aA (ds:=[aF c,.i .i64 a]) (by rfl) hFa ?_
 simp[-map_map,-mapM_map,↓KW,aF,bS,aE,aB,aC]
 refine aU (fun i:Nat=>i≤c.length∧usR (c.take i) a=0) (fun i=>StL [(0,.d (aF c)),(1,.d (.i .i64 a)),(2,.d (.i .i64 b)),(7,.ptr 1 0),(9,.d (.i .i64 (usR (c.take i) b:Nat))),(10,.d (.i .i64 (i:Int)))] none [.cells 43 [.d (.i .i64 x.id),.d (.i .i64 x.dim),.d (aG x.b)]]) (fun i=>c.length-i) 0 ⟨An _,rfl⟩ ?_ ?_
 ·refine aY [1] (by simp) ?_ ?_<;>simp[-map_map,upd,aT,Γ0,aF,aG,usR]
 ·rintro i ⟨hi,ha0⟩
  by_cases hgo:i<c.length
  ·have q1:(i:Int)<c.length:=by omega
   have hy:c[i]? = some c[i]:=Aa hgo
   have hw:Ah.wrap ((i:Int)+1)=(i:Int)+1:=aR (by omega) (by omega)
   have ht1:=aKt hgo a
   have ht2:=aKt hgo b
   have hul:=bRo c b i
   have hne:=@bRn c i hgo a
   have hyl:=hz.bl _ (Ak hgo)
   have hyb:=hz.bb _ (Ak hgo)
   refine(show ∃ y,c[i]=y from⟨_,rfl⟩).elim fun y hye=>?_
   rw[hye]at hy ht1 ht2 hne hyl hyb
   refine(show ∃ u,usR (c.take i) b=u from⟨_,rfl⟩).elim fun u hue=>?_
   rw[hue]at ht2 hul
   simp only[hue]
   have hyc:bJ y=[D.i .i64 y.id,.i .i64 y.dim,aG y.b]:=rfl
   have hC1:=aIj (x:=y.b) b (by omega)
   have hC2:=aIj (x:=y.b) a (by omega)
   have hS1:=eX (gH y.b b)
   have hS2:=eX (gH y.b a)
   have hn1:=aTl (gH y.b b)
   have hn2:=aTl (gH y.b a)
   refine(show ∃ k,gH y.b b=k from⟨_,rfl⟩).elim fun k hke=>?_
   rw[hke]at hC1 hS1 hn1 ht2
   refine(show ∃ k,gH y.b a=k from⟨_,rfl⟩).elim fun k2 hke2=>?_
   rw[hke2]at hC2 hS2 hn2 ht1 hne
   have hwu:Ah.wrap ((u:Int)+1)=((u+1:Nat):Int):=by rw[aR (by omega) (by omega)];omega
   simp[-map_map,-mapM_map,↓KW,aF,q1,hy,hyc,aE,aB,aC]
   refine aA (ds:=[aG y.b,.i .i64 b]) (by rfl) hC1 ?_
   simp[-map_map,-mapM_map,↓KW,aF,bF,q1,hy,hyc,aE,aB,aC,aK,aD,aM]
   refine aA (ds:=[encZ k]) (by rfl) hS1 ?_
   by_cases h1:k=0
   ·have h1':((k.sign != 0):Bool)=false:=by rw[hn1,h1];rfl
    have hub:usR (c.take (i+1)) b=u:=by rw[ht2,h1];simp
    simp[-map_map,-mapM_map,↓KW,aF,bF,q1,hy,hyc,h1',hwu,aE,aB,aC,aK,aD,aM]
    refine aA (ds:=[aG y.b,.i .i64 a]) (by rfl) hC2 ?_
    simp[-map_map,-mapM_map,↓KW,aF,bF,q1,hy,hyc,h1',aE,aB,aC,aK,aD,aM]
    refine aA (ds:=[encZ k2]) (by rfl) hS2 ?_
    by_cases h2:k2=0
    ·have h2':((k2.sign != 0):Bool)=false:=by rw[hn2,h2];rfl
     have hua:usR (c.take (i+1)) a=0:=by rw[ht1,h2,ha0];simp
     simp[-map_map,-mapM_map,↓KW,aF,hw,h2']
     refine aJ (i+1) ⟨hgo,hua⟩ (Ab hgo (Ad _)) ?_
     rw[hub]
     refine aY [1] (by simp) ?_ ?_<;>simp[-map_map,upd,aT,Γ0,aF,aG]
    ·have h2':((k2.sign != 0):Bool)=true:=by rw[hn2];simpa using h2
     have hfa:qK c a b=false:=by unfold qK;rw[Bq (hne h2)];rfl
     simp[-map_map,-mapM_map,↓KW,aF,h2',hfa]
   ·have h1':((k.sign != 0):Bool)=true:=by rw[hn1];simpa using h1
    have hub:usR (c.take (i+1)) b=u+1:=by rw[ht2];simp[h1]
    simp[-map_map,-mapM_map,↓KW,aF,bF,q1,hy,hyc,h1',hwu,aE,aB,aC,aK,aD,aM]
    refine aA (ds:=[aG y.b,.i .i64 a]) (by rfl) hC2 ?_
    simp[-map_map,-mapM_map,↓KW,aF,bF,q1,hy,hyc,h1',aE,aB,aC,aK,aD,aM]
    refine aA (ds:=[encZ k2]) (by rfl) hS2 ?_
    by_cases h2:k2=0
    ·have h2':((k2.sign != 0):Bool)=false:=by rw[hn2,h2];rfl
     have hua:usR (c.take (i+1)) a=0:=by rw[ht1,h2,ha0];simp
     simp[-map_map,-mapM_map,↓KW,aF,hw,h2']
     refine aJ (i+1) ⟨hgo,hua⟩ (Ab hgo (Ad _)) ?_
     rw[hub]
     refine aY [1] (by simp) ?_ ?_<;>simp[-map_map,upd,aT,Γ0,aF,aG]
    ·have h2':((k2.sign != 0):Bool)=true:=by rw[hn2];simpa using h2
     have hfa:qK c a b=false:=by unfold qK;rw[Bq (hne h2)];rfl
     simp[-map_map,-mapM_map,↓KW,aF,h2',hfa]
  ·have q1:¬(i:Int)<c.length:=by omega
   rw[Ai (by omega)]at ha0 ⊢
   have hres:qK c a b=(decide (usR c b=1)&&decide ((gH x.b b).natAbs=1)):=by unfold qK;rw[ha0,hba];simp
   rw[hres]
   refine(show ∃ u,usR c b=u from⟨_,rfl⟩).elim fun u hue=>?_
   simp only[hue]
   by_cases h1:u=1
   ·have h1':(((u:Int)==(1:Int)):Bool)=true:=by simp;omega
    have hC:=aIj (x:=x.b) b (by omega)
    have hkb:=aRr hxb b
    refine(show ∃ k,gH x.b b=k from⟨_,rfl⟩).elim fun k hke=>?_
    rw[hke]at hC hkb
    have hks:(aX k.natAbs).length≤549755813888:=Ap (szE hkb (by omega)) (by decide)
    have hA:=bLw k hks
    have hO:=vV 1 (by decide) (by decide)
    have hS:=aBp (k.natAbs:Int) 1 (by rw[Int.natAbs_natCast];exact Ap hks (by decide)) (Ap sz1 (by decide))
    have hd:decide (((k.natAbs:Nat):Int)=1)=decide (k.natAbs=1):=by
     by_cases h:k.natAbs=1
     ·simp[h]
     ·have:¬((k.natAbs:Nat):Int)=1:=by omega
      rw[Bq h,Bq this]
    rw[hd]at hS
    rw[BA h1,Bool.true_and,hke]
    refine(show ∃ r,decide (k.natAbs=1)=r from⟨_,rfl⟩).elim fun r hre=>?_
    rw[hre]at hS ⊢
    refine(show ∃ z,((k.natAbs:Nat):Int)=z from⟨_,rfl⟩).elim fun z hze=>?_
    rw[hze]at hA hS
    simp[-map_map,-mapM_map,↓KW,aF,q1,h1',aE,aB,aC]
    refine aA (ds:=[aG x.b,.i .i64 b]) (by rfl) hC ?_
    simp[-map_map,-mapM_map,↓KW,aF,bF,q1,h1',aE,aB,aC,aK,aD,aM]
    refine aA (ds:=[encZ k]) (by rfl) hA ?_
    simp[-map_map,-mapM_map,↓KW,aF,bF,q1,h1',aE,aB,aC,aK,aD,aM]
    refine aA (ds:=[.i .i64 1]) (by rfl) hO ?_
    simp[-map_map,-mapM_map,↓KW,aF,bF,q1,h1',aE,aB,aC,aK,aD,aM]
    refine aA (ds:=[encZ z,encZ 1]) (by rfl) hS ?_
    simp[-map_map,-mapM_map,↓KW,aF,q1,h1']
   ·have h1':(((u:Int)==(1:Int)):Bool)=false:=by simp;omega
    rw[Bq h1,Bool.false_and]
    simp[-map_map,-mapM_map,↓KW,aF,q1,h1']
def tE(c:List Cl)(x:Cl):List (Int×Int):=(x.b.filter fun f=>qK c x.id f.1).map fun f=>(x.id,f.1)
def bLh(c:List Cl):List (Int×Int):=c.flatMap (tE c)
theorem aVv{n:Int}:∀{l:Ch},Val l→qT n l≤1
 |[],_=>An _
 |f::l,h=>by
  obtain⟨h1,h2,_⟩:=h.tail
  have ih:=aVv (n:=n) h1
  unfold qT at ih ⊢
  rw[List.countP_cons]
  by_cases e:f.1=n
  ·have h0:l.countP (fun f=>decide (f.1=n))=0:=by
    rw[List.countP_eq_zero]
    intro y hy
    have:=h2 y hy
    simp;omega
   rw[h0];simp[e]
  ·simpa[e]using ih
theorem aOj{l:Ch}(h:Val l){f:Int×Int}(hf:f∈l):gH l f.1=f.2:=by rw[aOk h,fS h];exact fB h hf
theorem bHd{l:Ch}(h:Val l)(n:Int):(if gH l n≠0 then 1 else 0)=qT n l:=by
 have h1:=aVv (n:=n) h
 by_cases e:∃ f∈l,f.1=n
 ·have h2:=sH.2 e
  obtain⟨f,hf,rfl⟩:=e
  rw[aOj h hf,Ag (h.2 f hf)];omega
 ·have h2:qT n l=0:=by
   have h0:¬0<qT n l:=fun h=>e (sH.1 h)
   omega
  have h3:gH l n=0:=by rw[aOk h];exact mC fun f hf q=>e ⟨f,hf,q⟩
  rw[h3,h2];simp
theorem aHy{c:List Cl}(h:∀ y∈c,Val y.b)(n:Int):usR c n=kS n c:=by
 induction c with
 |nil=>rfl
 |cons y c ih =>
  have e:=bHd (h y (Av ..)) n
  have i:=ih fun z hz=>h z (As _ hz)
  unfold usR at i ⊢
  rw[List.countP_cons]
  simp only[kS,←e,←i]
  by_cases q:gH y.b n=0
  ·simp[q]
  ·simp[q];omega
theorem bLg{c:List Cl}(h:CxV c):bLh c=fU c:=by
 unfold bLh fU
 rw[List.flatMap_def,List.flatMap_def]
 congr 1
 refine Bu fun x hx=>?_
 unfold tE iC
 by_cases h0:0<kS x.id c
 ·rw[Ag h0]
  have:(x.b.filter fun f=>qK c x.id f.1)=[]:=List.filter_eq_nil_iff.2 fun f _=>by
   unfold qK
   rw[aHy h.val,Bq (by omega)];simp
  rw[this];rfl
 ·rw[Ae h0]
  congr 1
  refine List.filter_congr fun f hf=>?_
  unfold qK gU
  rw[aHy h.val,aHy h.val,BA (show kS x.id c=0 by omega),h.bOf hx,aOj (h.val x hx) hf];simp
theorem aXf{c d:List Cl}{i:Nat}(h:i<c.length):(c.take (i+1)).flatMap (tE d)=(c.take i).flatMap (tE d)++tE d c[i]:=by
 rw[AJ,Aa h,List.flatMap_append];simp
theorem aQf{c:List Cl}{l:Ch}{i:Nat}(n:Int)(h:i<l.length):((l.take (i+1)).filter fun f=>qK c n f.1).map (fun f=>(n,f.1))=((l.take i).filter fun f=>qK c n f.1).map (fun f=>(n,f.1))++if qK c n l[i].1=true then[(n,l[i].1)]else[]:=by
 rw[AJ,Aa h,BT,By]
 congr 1
 by_cases e:qK c n l[i].1=true<;>simp[e]
set_option maxHeartbeats 2000000 in
set_option maxRecDepth 10000 in
theorem bLq{c:List Cl}{F:Nat}(hz:SzX F c)(hF:F+4<4398046511104):Spec Tryz.prog 26 [aF c] (cU (bLh c)):=by
 have hlen:=hz.len
 refine aZ (N:=58) aI Tryz.func26 rfl rfl rfl (by kernel_rfl) (by kernel_rfl) (by simp) ?_
 simp[-map_map,-mapM_map,↓KW,aF]
 refine aU (fun y:Nat×List (Int×Int)=>y.1≤c.length∧y.2.length≤100*y.1∧(c.take y.1).flatMap (tE c)=y.2) (fun y=>StL [(0,.d (aF c)),(3,.own 1 0 y.2.length 2),(4,.d (.i .i64 (y.1:Int)))] none [.cells 56 ((flt lD y.2).map .d)]) (fun y=>c.length-y.1) (0,[]) ⟨An _,An _,rfl⟩ ?_ ?_
 ·refine aY [1] (by simp) ?_ ?_<;>simp[-map_map,upd,aT,Γ0,aF,bOg]
 ·rintro⟨i,l⟩ ⟨hi,hll,hl⟩
  simp only at hi hll hl ⊢
  by_cases hgo:i<c.length
  ·have q1:(i:Int)<c.length:=by omega
   have hx:c[i]? = some c[i]:=Aa hgo
   have hw:Ah.wrap ((i:Int)+1)=(i:Int)+1:=aR (by omega) (by omega)
   have htk:=aXf (d:=c) hgo
   rw[hl]at htk
   have hxl:=hz.bl _ (Ak hgo)
   refine(show ∃ x,c[i]=x from⟨_,rfl⟩).elim fun x hxe=>?_
   rw[hxe]at hx htk hxl
   have hyc:bJ x=[D.i .i64 x.id,.i .i64 x.dim,aG x.b]:=rfl
   simp[-map_map,-mapM_map,↓KW,aF,q1]
   refine aU (fun y:Nat×List (Int×Int)=>y.1≤x.b.length∧y.2.length≤100*i+y.1∧l++((x.b.take y.1).filter fun f=>qK c x.id f.1).map (fun f=>(x.id,f.1))=y.2) (fun y=>StL [(0,.d (aF c)),(3,.own 1 0 y.2.length 2),(4,.d (.i .i64 (i:Int))),(5,.d (.i .i64 (y.1:Int)))] none [.cells 56 ((flt lD y.2).map .d)]) (fun y=>x.b.length-y.1) (0,l) ⟨An _,by simp only;omega,by simp⟩ ?_ ?_
   ·refine aY [1] (by simp) ?_ ?_<;>simp[-map_map,upd,aT,Γ0,aF]
   ·rintro⟨j,l2⟩ ⟨hj,hl2,hinv⟩
    simp only at hj hl2 hinv ⊢
    by_cases hgo2:j<x.b.length
    ·have q2:(j:Int)<x.b.length:=by omega
     have hf:x.b[j]? = some x.b[j]:=Aa hgo2
     have hw2:Ah.wrap ((j:Int)+1)=(j:Int)+1:=aR (by omega) (by omega)
     have htk2:=aQf (c:=c) x.id hgo2
     refine(show ∃ f,x.b[j]=f from⟨_,rfl⟩).elim fun f hfe=>?_
     rw[hfe]at hf htk2
     have hef:dK f=[.i .i64 f.1,.b (decide (f.2<0)),aN (aX f.2.natAbs)]:=rfl
     have hI:=aXg x.id f.1 hz hF
     have hinv2:l++((x.b.take (j+1)).filter fun f=>qK c x.id f.1).map (fun f=>(x.id,f.1))=l2++if qK c x.id f.1=true then[(x.id,f.1)]else[]:=by rw[htk2,←AZ,hinv]
     simp[-map_map,-mapM_map,↓KW,aF,aG,q2,hx,hyc,hf,hef,aE,aB,aC,aK,aD,aM]
     refine aA (ds:=[aF c,.i .i64 x.id,.i .i64 f.1]) (by rfl) hI ?_
     cases hfx:qK c x.id f.1 with
     |true =>
      rw[hfx,Ag rfl]at hinv2
      have hcl:=cB jK l2
      have hal:=dZ yQ l2
      have hbb:=sL (n:=l2.length) (by omega)
      have hb8:(l2.length+1)*16≤140737488355328:=by omega
      have hm1:(1:Nat)≤maxLen:=aW (by decide)
      simp[-map_map,-mapM_map,↓KW,aF,aG,q2,hx,hyc,hf,hef,hw2,hcl,hal,hbb,hb8,hm1,aW,aE,aB,aC,aK,aD,aM]
      refine aJ (τ:=Nat×List (Int×Int)) (j+1,l2++[(x.id,f.1)]) ⟨hgo2,by simp only[Al,Ar];omega,hinv2⟩ (Ab hgo2 (Ad _)) ?_
      simp only[Al,Ar,dP,bZ,sC]
      refine aY [3] (by simp) ?_ ?_<;>simp[-map_map,upd,aT,Γ0,aF]
     |false =>
      rw[hfx]at hinv2
      simp only[AU,BB,Bd]at hinv2
      simp[-map_map,-mapM_map,↓KW,aF,hw2]
      refine aJ (τ:=Nat×List (Int×Int)) (j+1,l2) ⟨hgo2,by simp only;omega,hinv2⟩ (Ab hgo2 (Ad _)) (aY [1] (by simp) ?_ ?_)<;>simp[-map_map,upd,aT,Γ0,aF]
    ·have q2:¬(j:Int)<x.b.length:=by omega
     rw[Ai (by omega)]at hinv
     simp[-map_map,-mapM_map,↓KW,aF,aG,q2,hx,hyc,hw,aE,aB,aC]
     refine aJ (τ:=Nat×List (Int×Int)) (i+1,l2) ⟨hgo,by simp only;omega,by rw[htk,←hinv];rfl⟩ (Ab hgo (Ad _)) (aY [1] (by simp) ?_ ?_)<;>simp[-map_map,upd,aT,Γ0,aF]
  ·have q1:¬(i:Int)<c.length:=by omega
   rw[Ai (by omega)]at hl
   have hl':bLh c=l:=hl
   have e1:=eR jK (rfl:l.length=l.length)
   have e2:=eF (by decide) jK (rfl:l.length=l.length)
   have e3:=cB jK l
   simp[-map_map,-mapM_map,↓KW,aF,cU,q1,hl',e1,e2,e3]
end Go.Am
end

section
set_option linter.unusedVariables false
set_option linter.unusedSimpArgs false
open Go Go.Am Go.Proofs
namespace Go.Am
end Go.Am
end

section
set_option linter.unusedVariables false
set_option linter.unusedSimpArgs false
open List (map_map mapM_map)
open Go Go.Am Go.Proofs
namespace Go.Am
def chD(v:Ch):D:=aG v
def coE(m:List (Int×Ch)):List (Int×AV):=enA (fun v=>.d (chD v)) m
theorem bDz(m:List (Int×Ch))(n:Int)(v:Ch):pJ (coE m) n (.d (aG v))=coE (apt m n v):=wG (fun v=>AV.d (chD v)) _ _ _
theorem bBa{H H':Nat→Option HO}{ρ:Nat→Nat}(m:List (Int×Ch)):lU H H' ρ (.map .i64 (coE m)) (.map .i64 (coE m))↔True:=pZ _
theorem aBj(l:List Nat)(m:List (Int×Ch)):eC l (.map .i64 (coE m))=.map .i64 (coE m):=uU _ _ _
theorem aWe{β:Type}(n:Int)(v:β):∀{m:List (Int×β)},(∀ p∈m,p.1≠n)→apt m n v=m++[(n,v)]
 |[],_=>rfl
 |p::m,h=>by
  simp only[apt]
  rw[Ae (h p (Av ..)),aWe n v fun q hq=>h q (As _ hq)];rfl
theorem bIm{N:List (Int×Ch)}(h:(N.map (·.1)).Pairwise (·<·)){i:Nat}(hi:i<N.length):apt (N.take i) N[i].1 N[i].2=N.take (i+1):=by
 rw[aWe _ _ fun p hp=>?_,AJ,Aa hi]
 ·rfl
 ·obtain⟨k,hk,rfl⟩:=Bi hp
  rw[AM]at hk
  have:=(Bv.1 h) k i (by rw[AN];omega) (by rw[AN];exact hi) (by omega)
  rw[Cm,Cm]at this
  rw[List.getElem_take];omega
theorem bEf(g:List (Int×Ch))(H:Nat→Option HO)(n:Int)(v:Ch)(h:kD g n=some v):lJ Tryz.prog H 80 (.d (kG g)) (.d (.i .i64 n)) false=some (.d (aG v)):=by
 have h1:tmp Tryz.prog 80=some (3,41):=by kernel_rfl
 have h2:gW Tryz.prog 3=some .i64:=by kernel_rfl
 have h3:tz Tryz.prog 41=some (.slice none 0 0):=by kernel_rfl
 show uL Tryz.prog 80 .i64 (aCn (g.map (·.1)) (g.map fun p=>aG p.2)) (.d (.i .i64 n)) false=_
 simp only[uL,aGk,h]
 simp[h1,h2,h3]
theorem aVe{N:List (Int×Ch)}:∀{q:Int×Ch},(N.map (·.1)).Pairwise (·<·)→q∈N→kD N q.1=some q.2:=by
 induction N with
 |nil=>intro q _ h;cases h
 |cons p N ih =>
  intro q h hq
  rw[AR]at h
  obtain⟨h1,h2⟩:=A5.1 h
  unfold kD
  rw[CX]
  rcases AD.1 hq with rfl|hq
  ·simp
  ·have:=h1 q.1 (AE.2 ⟨q,hq,rfl⟩)
   have hne:¬p.1=q.1:=by omega
   simp only[hne,EB]
   exact ih h2 hq
theorem aWg{N:List (Int×Ch)}:∀{q:Int×Ch} {f:Int×Int},(N.map (·.1)).Pairwise (·<·)→q∈N→q.1=f.1→apP N f=mulR f.2 q.2:=by
 induction N with
 |nil=>intro q f _ h;cases h
 |cons p N ih =>
  intro q f h hq e
  rw[AR]at h
  obtain⟨h1,h2⟩:=A5.1 h
  have hnone:∀{N:List (Int×Ch)},(∀ r∈N,r.1≠f.1)→apP N f=[]:=by
   intro N
   induction N with
   |nil=>intro _;rfl
   |cons u N ih =>
    intro hh
    show(if u.1=f.1 then _ else[])++apP N f=[]
    rw[Ae (hh u (Av ..)),ih fun r hr=>hh r (As _ hr)];rfl
  show(if p.1=f.1 then mulR f.2 p.2 else[])++apP N f=_
  rcases AD.1 hq with rfl|hq
  ·rw[Ag e,hnone fun r hr=>by have:=h1 r.1 (AE.2 ⟨r,hr,rfl⟩);omega,Bd]
  ·have:=h1 q.1 (AE.2 ⟨q,hq,rfl⟩)
   rw[Ae (by omega),BQ,ih h2 hq e]
theorem tK{v:Ch}{k:Nat}(h:k<v.length)(z:Int):mulR z (v.take (k+1))=mulR z (v.take k)++[(v[k].1,z*v[k].2)]:=by
 unfold mulR
 rw[AJ,Aa h,By];rfl
theorem aZn{M:List (Int×Ch)}{i:Nat}(h:i<M.length)(N:List (Int×Ch)):oZ (M.take (i+1)) N=oZ (M.take i) N++[(M[i].1,apX N M[i].2)]:=by
 unfold oZ
 rw[AJ,Aa h,By];rfl
def jW(t1 t2:Nat)(sl:List (Nat×AV))(zb fb:HO)(e1:TypeId)(s1 n1:Nat)(c1:List D)(e2:TypeId)(s2 n2:Nat)(c2:List D):St:=match n1,n2 with
 |0,0=>StL ((t1,.nil)::(t2,.nil)::sl) none [zb,fb]
 |0,n+1=>StL ((t1,.nil)::(t2,.own 3 0 (n+1) s2)::sl) none [zb,fb,.cells e2 (c2.map .d)]
 |m+1,0=>StL ((t1,.own 3 0 (m+1) s1)::(t2,.nil)::sl) none [zb,fb,.cells e1 (c1.map .d)]
 |m+1,n+1=>StL ((t1,.own 3 0 (m+1) s1)::(t2,.own 4 0 (n+1) s2)::sl) none [zb,fb,.cells e1 (c1.map .d),.cells e2 (c2.map .d)]
set_option maxHeartbeats 4000000 in
set_option maxRecDepth 10000 in
theorem aYj{M N:List (Int×Ch)}{g h:Nat}(hms:SzM g M)(hns:SzM h N)(hN:(N.map (·.1)).Pairwise (·<·))(hall:∀ p∈M,∀ f∈p.2,∃ q∈N,q.1=f.1)(hk:∀ q∈N,Keys q.2)(hgh:g+h+24<4398046511104) :
  Spec Tryz.prog 63 [aV M,aV N] (aV (oZ M N)):=by
 have hMl:=hms.len
 have hNl:=hns.len
 refine aZ (N:=76) aI Tryz.func63 rfl rfl rfl (by kernel_rfl) (by kernel_rfl) (by simp) ?_
 simp[-map_map,-mapM_map,↓KW,aV]
 refine aCh (fun j:Nat=>j≤N.length) (fun j=>StL [(0,.d (aV M)),(5,.mp 1),(19,.d (aV N)),(20,.d (.i .i64 N.length)),(21,.d (.i .i64 (j:Int)))] none [.map .i64 (coE (N.take j))]) (fun j=>N.length-j) 0 (An _) ?_ ?_
 ·refine aY [1] (by simp) ?_ ?_
  ·simp[-map_map,upd,aT,Γ0,aV]
  ·exact⟨⟨_,by simp[upd];rfl,aBd rfl⟩,trivial⟩
 ·intro j hj
  by_cases hgo:j<N.length
  ·have q1:(j:Int)<N.length:=by omega
   have hx:N[j]? = some N[j]:=Aa hgo
   have hw:Ah.wrap ((j:Int)+1)=(j:Int)+1:=aR (by omega) (by omega)
   have htk:=bIm hN hgo
   refine(show ∃ p,N[j]=p from⟨_,rfl⟩).elim fun p hpe=>?_
   rw[hpe]at hx htk
   have hyc:mO p=[D.i .i64 p.1,aG p.2]:=rfl
   simp[-map_map,-mapM_map,↓KW,aV,q1,hx,hyc,hw,cJ,bDz,htk,aBj,aE,aB,aC]
   refine aJ (j+1) hgo (Ab hgo (Ad _)) (aY [1] (by simp) ?_ ?_)<;>simp[-map_map,upd,aT,Γ0,aV,aBj,bBa]
  ·have q1:¬(j:Int)<N.length:=by omega
   rw[Ai (by omega)]
   simp[-map_map,-mapM_map,↓KW,aV,q1]
   refine bGj (StL [(0,.d (aV M)),(5,.d (kG N))] none []) (aY [] (by simp) ?_ ?_) ?_
   ·simp[-map_map,upd,aT,Γ0,aV]
    exact kW (aVg chD _ 6 1 N rfl) (fun a _ id h=>by simp[nZ]at h)
   ·trivial
   ·simp[-map_map,-mapM_map,↓KW,aV]
    refine aU (fun s:Nat×List (Int×Ch)=>s.1≤M.length∧oZ (M.take s.1) N=s.2) (fun s=>grS 8 [(5,.d (kG N)),(31,.d (aV M)),(32,.d (.i .i64 M.length)),(33,.d (.i .i64 (s.1:Int)))] 84 2 s.2.length (flt mO s.2)) (fun s=>M.length-s.1) (0,[]) ⟨An _,rfl⟩ ?_ ?_
    ·simp only[A8,grS]
     refine aY [] (by simp) ?_ ?_<;>simp[-map_map,upd,aT,Γ0,aV,bY]
    ·clear hj hgo q1 j
     rintro⟨i,out⟩ ⟨hi,ho⟩
     simp only at hi ho ⊢
     by_cases hgo:i<M.length
     ·have q1:(i:Int)<M.length:=by omega
      have hx:M[i]? = some M[i]:=Aa hgo
      have hw:Ah.wrap ((i:Int)+1)=(i:Int)+1:=aR (by omega) (by omega)
      have htk:=aZn hgo N
      rw[ho]at htk
      have hln:out.length≤i:=by rw[←ho,aDt,AM];omega
      have hyl:=hms.bl _ (Ak hgo)
      have hyb:=hms.bb _ (Ak hgo)
      have hyf:=hall _ (Ak hgo)
      refine(show ∃ p,M[i]=p from⟨_,rfl⟩).elim fun p hpe=>?_
      rw[hpe]at hx htk hyl hyb hyf
      obtain⟨n,y⟩:=p
      simp only at htk hyl hyb hyf
      refine(show ∃ r,bV [] (apL N y)=r from⟨_,rfl⟩).elim fun r hre=>?_
      have hre':apX N y=r:=hre
      rw[hre']at htk
      have hyc:mO (n,y)=[D.i .i64 n,aG y]:=rfl
      rcases hn:out.length with _|m0
      ·simp only[hn,grS]
       simp[-map_map,-mapM_map,↓KW,aV,aG,q1,hx,hyc,aE,aB,aC]
       refine aU (fun s:Nat×Ch=>s.1≤y.length∧s.2.length≤100*s.1∧apL N (y.take s.1)=s.2) (fun s=>gr2 8 11 [(5,.d (kG N)),(10,.ptr 1 0),(31,.d (aV M)),(32,.d (.i .i64 M.length)),(33,.d (.i .i64 (i:Int))),(38,.d (aG y)),(39,.d (.i .i64 y.length)),(40,.d (.i .i64 (s.1:Int)))] (.cells 84 [.d (.i .i64 n),.d (aG y)]) 84 2 out.length (flt mO out) 76 3 s.2.length (flt dK s.2)) (fun s=>y.length-s.1) (0,[]) ⟨An _,An _,rfl⟩ ?_ ?_
       ·simp only[A8,hn,gr2]
        refine aY [1] (by simp) ?_ ?_<;>simp[-map_map,upd,aT,Γ0,aV,aG,bY]
       ·rintro⟨j,l⟩ ⟨hj,hll,hl⟩
        simp only at hj hll hl ⊢
        by_cases hgo2:j<y.length
        ·have q2:(j:Int)<y.length:=by omega
         have hf:y[j]? = some y[j]:=Aa hgo2
         have hw2:Ah.wrap ((j:Int)+1)=(j:Int)+1:=aR (by omega) (by omega)
         have htk2:=aEc (m:=N) hgo2
         rw[hl]at htk2
         obtain⟨q,hq,hqe⟩:=hyf _ (Ak hgo2)
         have hfb:=hyb _ (Ak hgo2)
         rw[aWg hN hq hqe]at htk2
         have hlk:=fun H=>bEf N H q.1 q.2 (aVe hN hq)
         rw[hqe]at hlk
         have hvl:=hns.bl q hq
         have hvb:=hns.bb q hq
         refine(show ∃ v,q.2=v from⟨_,rfl⟩).elim fun v hve=>?_
         rw[hve]at htk2 hlk hvl hvb
         refine(show ∃ f,y[j]=f from⟨_,rfl⟩).elim fun f hfe=>?_
         rw[hfe]at hf htk2 hlk hfb
         clear hve hfe hqe hq
         have hef:dK f=[.i .i64 f.1,.b (decide (f.2<0)),aN (aX f.2.natAbs)]:=rfl
         rcases hn2:l.length with _|k0
         ·simp only[hn,hn2,gr2]
          simp[-map_map,-mapM_map,↓KW,aV,aG,q2,hf,hef,hlk,aE,aB,aC,aK,aD,aM]
          refine aU (fun s:Nat×Ch=>s.1≤v.length∧s.2.length≤100*j+s.1∧l++mulR f.2 (v.take s.1)=s.2) (fun s=>jW 8 11 [(5,.d (kG N)),(10,.ptr 1 0),(13,.ptr 2 0),(31,.d (aV M)),(32,.d (.i .i64 M.length)),(33,.d (.i .i64 (i:Int))),(38,.d (aG y)),(39,.d (.i .i64 y.length)),(40,.d (.i .i64 (j:Int))),(47,.d (aG v)),(48,.d (.i .i64 v.length)),(49,.d (.i .i64 (s.1:Int)))] (.cells 84 [.d (.i .i64 n),.d (aG y)]) (.cells 76 [.d (.i .i64 f.1),.d (.b (decide (f.2<0))),.d (aN (aX f.2.natAbs))]) 84 2 out.length (flt mO out) 76 3 s.2.length (flt dK s.2)) (fun s=>v.length-s.1) (0,l) ⟨An _,by simp only;omega,by simp[mulR]⟩ ?_ ?_
          ·simp only[hn,hn2,jW]
           refine aY [1,2] (by simp) ?_ ?_<;>simp[-map_map,upd,aT,Γ0,aV,aG,bY]
          ·rintro⟨k,l2⟩ ⟨hk2,hl2,hinv⟩
           simp only at hk2 hl2 hinv ⊢
           by_cases hgo3:k<v.length
           ·have q3:(k:Int)<v.length:=by omega
            have hg2:v[k]? = some v[k]:=Aa hgo3
            have hw3:Ah.wrap ((k:Int)+1)=(k:Int)+1:=aR (by omega) (by omega)
            have htk3:l++mulR f.2 (v.take (k+1))=l2++[(v[k].1,f.2*v[k].2)]:=by rw[tK hgo3,←AZ,hinv]
            have hub:=hvb _ (Ak hgo3)
            refine(show ∃ u,v[k]=u from⟨_,rfl⟩).elim fun u hue=>?_
            rw[hue]at hg2 htk3 hub
            have heu:dK u=[.i .i64 u.1,.b (decide (u.2<0)),aN (aX u.2.natAbs)]:=rfl
            have hMu:=tO f.2 u.2 (mM hfb (by omega)) (mM hub (by omega))
            have hm1:(1:Nat)≤maxLen:=aW (by decide)
            have hll2:(l2++[(u.1,f.2*u.2)]).length=l2.length+1:=by rw[Al];rfl
            rcases hn3:l2.length with _|k1
            ·have e0:l2=[]:=Au hn3
             simp only[hn,hn3,jW]
             simp[-map_map,-mapM_map,↓KW,aV,aG,q3,hg2,heu,hw3,aE,aB,aC,aK,aD,aM]
             refine aA (ds:=[encZ f.2,encZ u.2]) (by rfl) hMu ?_
             simp[-map_map,-mapM_map,↓KW,aV,aG,bF,q3,hg2,heu,hw3,hm1,aE,aB,aC,aK,aD,aM]
             refine aJ (τ:=Nat×Ch) (k+1,l2++[(u.1,f.2*u.2)]) ⟨hgo3,by simp only;omega,htk3⟩ (Ab hgo3 (Ad _)) ?_
             simp only[hll2,hn,hn3,jW]
             refine aY [1,2,5] (by simp) ?_ ?_<;>simp[-map_map,upd,aT,Γ0,aV,aG,bB,e0,bZ]
            ·have hbb:=cC (n:=k1+1) (by omega)
             have hcl:=cB cG l2
             rw[hn3]at hcl
             have hal:=dZ iJ l2
             simp only[hn,hn3,jW]
             simp[-map_map,-mapM_map,↓KW,aV,aG,q3,hg2,heu,hw3,aE,aB,aC,aK,aD,aM]
             refine aA (ds:=[encZ f.2,encZ u.2]) (by rfl) hMu ?_
             simp[-map_map,-mapM_map,↓KW,aV,aG,bF,q3,hg2,heu,hw3,hm1,hbb,hcl,hal,aW,aE,aB,aC,aK,aD,aM]
             refine aJ (τ:=Nat×Ch) (k+1,l2++[(u.1,f.2*u.2)]) ⟨hgo3,by simp only;omega,htk3⟩ (Ab hgo3 (Ad _)) ?_
             simp only[hll2,hn,hn3,jW]
             refine aY [1,2,6] (by simp) ?_ ?_<;>simp[-map_map,upd,aT,Γ0,aV,aG,bB,dP,bZ]
           ·have q3:¬(k:Int)<v.length:=by omega
            rw[Ai (by omega)]at hinv
            rcases hn3:l2.length with _|k1
            ·simp only[hn,hn3,jW]
             simp[-map_map,-mapM_map,↓KW,aV,aG,q3,hw2,aE,aB,aC]
             refine aJ (τ:=Nat×Ch) (j+1,l2) ⟨hgo2,by simp only;omega,by rw[htk2];exact hinv⟩ (Ab hgo2 (Ad _)) ?_
             simp only[hn,hn3,gr2]
             refine aY [1] (by simp) ?_ ?_<;>simp[-map_map,upd,aT,Γ0,aV,aG,bY]
            ·simp only[hn,hn3,jW]
             simp[-map_map,-mapM_map,↓KW,aV,aG,q3,hw2,aE,aB,aC]
             refine aJ (τ:=Nat×Ch) (j+1,l2) ⟨hgo2,by simp only;omega,by rw[htk2];exact hinv⟩ (Ab hgo2 (Ad _)) ?_
             simp only[hn,hn3,gr2]
             refine aY [1,3] (by simp) ?_ ?_<;>simp[-map_map,upd,aT,Γ0,aV,aG,bY]
         ·simp only[hn,hn2,gr2]
          simp[-map_map,-mapM_map,↓KW,aV,aG,q2,hf,hef,hlk,aE,aB,aC,aK,aD,aM]
          refine aU (fun s:Nat×Ch=>s.1≤v.length∧s.2.length≤100*j+s.1∧l++mulR f.2 (v.take s.1)=s.2) (fun s=>jW 8 11 [(5,.d (kG N)),(10,.ptr 1 0),(13,.ptr 2 0),(31,.d (aV M)),(32,.d (.i .i64 M.length)),(33,.d (.i .i64 (i:Int))),(38,.d (aG y)),(39,.d (.i .i64 y.length)),(40,.d (.i .i64 (j:Int))),(47,.d (aG v)),(48,.d (.i .i64 v.length)),(49,.d (.i .i64 (s.1:Int)))] (.cells 84 [.d (.i .i64 n),.d (aG y)]) (.cells 76 [.d (.i .i64 f.1),.d (.b (decide (f.2<0))),.d (aN (aX f.2.natAbs))]) 84 2 out.length (flt mO out) 76 3 s.2.length (flt dK s.2)) (fun s=>v.length-s.1) (0,l) ⟨An _,by simp only;omega,by simp[mulR]⟩ ?_ ?_
          ·simp only[hn,hn2,jW]
           refine aY [1,3,2] (by simp) ?_ ?_<;>simp[-map_map,upd,aT,Γ0,aV,aG,bY]
          ·rintro⟨k,l2⟩ ⟨hk2,hl2,hinv⟩
           simp only at hk2 hl2 hinv ⊢
           by_cases hgo3:k<v.length
           ·have q3:(k:Int)<v.length:=by omega
            have hg2:v[k]? = some v[k]:=Aa hgo3
            have hw3:Ah.wrap ((k:Int)+1)=(k:Int)+1:=aR (by omega) (by omega)
            have htk3:l++mulR f.2 (v.take (k+1))=l2++[(v[k].1,f.2*v[k].2)]:=by rw[tK hgo3,←AZ,hinv]
            have hub:=hvb _ (Ak hgo3)
            refine(show ∃ u,v[k]=u from⟨_,rfl⟩).elim fun u hue=>?_
            rw[hue]at hg2 htk3 hub
            have heu:dK u=[.i .i64 u.1,.b (decide (u.2<0)),aN (aX u.2.natAbs)]:=rfl
            have hMu:=tO f.2 u.2 (mM hfb (by omega)) (mM hub (by omega))
            have hm1:(1:Nat)≤maxLen:=aW (by decide)
            have hll2:(l2++[(u.1,f.2*u.2)]).length=l2.length+1:=by rw[Al];rfl
            rcases hn3:l2.length with _|k1
            ·have e0:l2=[]:=Au hn3
             simp only[hn,hn3,jW]
             simp[-map_map,-mapM_map,↓KW,aV,aG,q3,hg2,heu,hw3,aE,aB,aC,aK,aD,aM]
             refine aA (ds:=[encZ f.2,encZ u.2]) (by rfl) hMu ?_
             simp[-map_map,-mapM_map,↓KW,aV,aG,bF,q3,hg2,heu,hw3,hm1,aE,aB,aC,aK,aD,aM]
             refine aJ (τ:=Nat×Ch) (k+1,l2++[(u.1,f.2*u.2)]) ⟨hgo3,by simp only;omega,htk3⟩ (Ab hgo3 (Ad _)) ?_
             simp only[hll2,hn,hn3,jW]
             refine aY [1,2,5] (by simp) ?_ ?_<;>simp[-map_map,upd,aT,Γ0,aV,aG,bB,e0,bZ]
            ·have hbb:=cC (n:=k1+1) (by omega)
             have hcl:=cB cG l2
             rw[hn3]at hcl
             have hal:=dZ iJ l2
             simp only[hn,hn3,jW]
             simp[-map_map,-mapM_map,↓KW,aV,aG,q3,hg2,heu,hw3,aE,aB,aC,aK,aD,aM]
             refine aA (ds:=[encZ f.2,encZ u.2]) (by rfl) hMu ?_
             simp[-map_map,-mapM_map,↓KW,aV,aG,bF,q3,hg2,heu,hw3,hm1,hbb,hcl,hal,aW,aE,aB,aC,aK,aD,aM]
             refine aJ (τ:=Nat×Ch) (k+1,l2++[(u.1,f.2*u.2)]) ⟨hgo3,by simp only;omega,htk3⟩ (Ab hgo3 (Ad _)) ?_
             simp only[hll2,hn,hn3,jW]
             refine aY [1,2,6] (by simp) ?_ ?_<;>simp[-map_map,upd,aT,Γ0,aV,aG,bB,dP,bZ]
           ·have q3:¬(k:Int)<v.length:=by omega
            rw[Ai (by omega)]at hinv
            rcases hn3:l2.length with _|k1
            ·simp only[hn,hn3,jW]
             simp[-map_map,-mapM_map,↓KW,aV,aG,q3,hw2,aE,aB,aC]
             refine aJ (τ:=Nat×Ch) (j+1,l2) ⟨hgo2,by simp only;omega,by rw[htk2];exact hinv⟩ (Ab hgo2 (Ad _)) ?_
             simp only[hn,hn3,gr2]
             refine aY [1] (by simp) ?_ ?_<;>simp[-map_map,upd,aT,Γ0,aV,aG,bY]
            ·simp only[hn,hn3,jW]
             simp[-map_map,-mapM_map,↓KW,aV,aG,q3,hw2,aE,aB,aC]
             refine aJ (τ:=Nat×Ch) (j+1,l2) ⟨hgo2,by simp only;omega,by rw[htk2];exact hinv⟩ (Ab hgo2 (Ad _)) ?_
             simp only[hn,hn3,gr2]
             refine aY [1,3] (by simp) ?_ ?_<;>simp[-map_map,upd,aT,Γ0,aV,aG,bY]
        ·have q2:¬(j:Int)<y.length:=by omega
         rw[Ai (by omega)]at hl
         have hlb:=(aEd hns (x:=y) hyb).2
         rw[hl]at hlb
         have hlk:Keys l:=by
          rw[←hl]
          intro u hu
          obtain⟨f,_,p,hp,_,w,hw,e⟩:=aJq hu
          rw[←e];exact hk p hp w hw
         have hM:=rW (l:=l) (e:=g+h) hlb hlk (by omega) (by omega)
         have hr:bV [] l=r:=by rw[←hl];exact hre
         rw[hr]at hM
         have hcl1:=cB jL out
         have hal1:=dZ yR out
         rw[hn]at hcl1
         have hm1:(1:Nat)≤maxLen:=aW (by decide)
         rcases hn2:l.length with _|k0
         ·have e0:l=[]:=Au hn2
          rw[e0]at hM
          simp only[hn,gr2]
          simp[-map_map,-mapM_map,↓KW,aV,aG,q2,aE,aB,aC]
          refine aA (ds:=[aG []]) (by rfl) hM ?_
          have eo:out=[]:=Au hn
          rw[eo]at htk
          simp[-map_map,-mapM_map,↓KW,aV,aG,hm1,hm1,hw,aQ,bG,aE,aB,aC]
          refine aJ (τ:=Nat×List (Int×Ch)) (i+1,[(n,r)]) ⟨hgo,htk⟩ (Ab hgo (Ad _)) ?_
          simp only[Ar,grS,bZ,fH]
          refine aY [3] (by simp) ?_ ?_<;>simp[-map_map,upd,aT,Γ0,aV,aG]
         ·have e1:=eR cG hn2
          have e2:=eF (by decide) cG hn2
          have e3:=cB cG l
          rw[hn2]at e3
          simp only[hn,gr2]
          simp[-map_map,-mapM_map,↓KW,aV,aG,q2,aE,aB,aC]
          refine aA (ds:=[aG l]) (by simp[-map_map,-mapM_map,aG,upd,e1,e2,e3]) hM ?_
          have eo:out=[]:=Au hn
          rw[eo]at htk
          simp[-map_map,-mapM_map,↓KW,aV,aG,e1,hm1,hw,aQ,bG,aE,aB,aC]
          refine aJ (τ:=Nat×List (Int×Ch)) (i+1,[(n,r)]) ⟨hgo,htk⟩ (Ab hgo (Ad _)) ?_
          simp only[Ar,grS,bZ,fH]
          refine aY [4] (by simp) ?_ ?_<;>simp[-map_map,upd,aT,Γ0,aV,aG]
      ·simp only[hn,grS]
       simp[-map_map,-mapM_map,↓KW,aV,aG,q1,hx,hyc,aE,aB,aC]
       refine aU (fun s:Nat×Ch=>s.1≤y.length∧s.2.length≤100*s.1∧apL N (y.take s.1)=s.2) (fun s=>gr2 8 11 [(5,.d (kG N)),(10,.ptr 1 0),(31,.d (aV M)),(32,.d (.i .i64 M.length)),(33,.d (.i .i64 (i:Int))),(38,.d (aG y)),(39,.d (.i .i64 y.length)),(40,.d (.i .i64 (s.1:Int)))] (.cells 84 [.d (.i .i64 n),.d (aG y)]) 84 2 out.length (flt mO out) 76 3 s.2.length (flt dK s.2)) (fun s=>y.length-s.1) (0,[]) ⟨An _,An _,rfl⟩ ?_ ?_
       ·simp only[A8,hn,gr2]
        refine aY [2,1] (by simp) ?_ ?_<;>simp[-map_map,upd,aT,Γ0,aV,aG,bY]
       ·rintro⟨j,l⟩ ⟨hj,hll,hl⟩
        simp only at hj hll hl ⊢
        by_cases hgo2:j<y.length
        ·have q2:(j:Int)<y.length:=by omega
         have hf:y[j]? = some y[j]:=Aa hgo2
         have hw2:Ah.wrap ((j:Int)+1)=(j:Int)+1:=aR (by omega) (by omega)
         have htk2:=aEc (m:=N) hgo2
         rw[hl]at htk2
         obtain⟨q,hq,hqe⟩:=hyf _ (Ak hgo2)
         have hfb:=hyb _ (Ak hgo2)
         rw[aWg hN hq hqe]at htk2
         have hlk:=fun H=>bEf N H q.1 q.2 (aVe hN hq)
         rw[hqe]at hlk
         have hvl:=hns.bl q hq
         have hvb:=hns.bb q hq
         refine(show ∃ v,q.2=v from⟨_,rfl⟩).elim fun v hve=>?_
         rw[hve]at htk2 hlk hvl hvb
         refine(show ∃ f,y[j]=f from⟨_,rfl⟩).elim fun f hfe=>?_
         rw[hfe]at hf htk2 hlk hfb
         clear hve hfe hqe hq
         have hef:dK f=[.i .i64 f.1,.b (decide (f.2<0)),aN (aX f.2.natAbs)]:=rfl
         rcases hn2:l.length with _|k0
         ·simp only[hn,hn2,gr2]
          simp[-map_map,-mapM_map,↓KW,aV,aG,q2,hf,hef,hlk,aE,aB,aC,aK,aD,aM]
          refine aU (fun s:Nat×Ch=>s.1≤v.length∧s.2.length≤100*j+s.1∧l++mulR f.2 (v.take s.1)=s.2) (fun s=>jW 8 11 [(5,.d (kG N)),(10,.ptr 1 0),(13,.ptr 2 0),(31,.d (aV M)),(32,.d (.i .i64 M.length)),(33,.d (.i .i64 (i:Int))),(38,.d (aG y)),(39,.d (.i .i64 y.length)),(40,.d (.i .i64 (j:Int))),(47,.d (aG v)),(48,.d (.i .i64 v.length)),(49,.d (.i .i64 (s.1:Int)))] (.cells 84 [.d (.i .i64 n),.d (aG y)]) (.cells 76 [.d (.i .i64 f.1),.d (.b (decide (f.2<0))),.d (aN (aX f.2.natAbs))]) 84 2 out.length (flt mO out) 76 3 s.2.length (flt dK s.2)) (fun s=>v.length-s.1) (0,l) ⟨An _,by simp only;omega,by simp[mulR]⟩ ?_ ?_
          ·simp only[hn,hn2,jW]
           refine aY [1,3,2] (by simp) ?_ ?_<;>simp[-map_map,upd,aT,Γ0,aV,aG,bY]
          ·rintro⟨k,l2⟩ ⟨hk2,hl2,hinv⟩
           simp only at hk2 hl2 hinv ⊢
           by_cases hgo3:k<v.length
           ·have q3:(k:Int)<v.length:=by omega
            have hg2:v[k]? = some v[k]:=Aa hgo3
            have hw3:Ah.wrap ((k:Int)+1)=(k:Int)+1:=aR (by omega) (by omega)
            have htk3:l++mulR f.2 (v.take (k+1))=l2++[(v[k].1,f.2*v[k].2)]:=by rw[tK hgo3,←AZ,hinv]
            have hub:=hvb _ (Ak hgo3)
            refine(show ∃ u,v[k]=u from⟨_,rfl⟩).elim fun u hue=>?_
            rw[hue]at hg2 htk3 hub
            have heu:dK u=[.i .i64 u.1,.b (decide (u.2<0)),aN (aX u.2.natAbs)]:=rfl
            have hMu:=tO f.2 u.2 (mM hfb (by omega)) (mM hub (by omega))
            have hm1:(1:Nat)≤maxLen:=aW (by decide)
            have hll2:(l2++[(u.1,f.2*u.2)]).length=l2.length+1:=by rw[Al];rfl
            rcases hn3:l2.length with _|k1
            ·have e0:l2=[]:=Au hn3
             simp only[hn,hn3,jW]
             simp[-map_map,-mapM_map,↓KW,aV,aG,q3,hg2,heu,hw3,aE,aB,aC,aK,aD,aM]
             refine aA (ds:=[encZ f.2,encZ u.2]) (by rfl) hMu ?_
             simp[-map_map,-mapM_map,↓KW,aV,aG,bF,q3,hg2,heu,hw3,hm1,aE,aB,aC,aK,aD,aM]
             refine aJ (τ:=Nat×Ch) (k+1,l2++[(u.1,f.2*u.2)]) ⟨hgo3,by simp only;omega,htk3⟩ (Ab hgo3 (Ad _)) ?_
             simp only[hll2,hn,hn3,jW]
             refine aY [1,2,3,6] (by simp) ?_ ?_<;>simp[-map_map,upd,aT,Γ0,aV,aG,bB,e0,bZ]
            ·have hbb:=cC (n:=k1+1) (by omega)
             have hcl:=cB cG l2
             rw[hn3]at hcl
             have hal:=dZ iJ l2
             simp only[hn,hn3,jW]
             simp[-map_map,-mapM_map,↓KW,aV,aG,q3,hg2,heu,hw3,aE,aB,aC,aK,aD,aM]
             refine aA (ds:=[encZ f.2,encZ u.2]) (by rfl) hMu ?_
             simp[-map_map,-mapM_map,↓KW,aV,aG,bF,q3,hg2,heu,hw3,hm1,hbb,hcl,hal,aW,aE,aB,aC,aK,aD,aM]
             refine aJ (τ:=Nat×Ch) (k+1,l2++[(u.1,f.2*u.2)]) ⟨hgo3,by simp only;omega,htk3⟩ (Ab hgo3 (Ad _)) ?_
             simp only[hll2,hn,hn3,jW]
             refine aY [1,2,3,7] (by simp) ?_ ?_<;>simp[-map_map,upd,aT,Γ0,aV,aG,bB,dP,bZ]
           ·have q3:¬(k:Int)<v.length:=by omega
            rw[Ai (by omega)]at hinv
            rcases hn3:l2.length with _|k1
            ·simp only[hn,hn3,jW]
             simp[-map_map,-mapM_map,↓KW,aV,aG,q3,hw2,aE,aB,aC]
             refine aJ (τ:=Nat×Ch) (j+1,l2) ⟨hgo2,by simp only;omega,by rw[htk2];exact hinv⟩ (Ab hgo2 (Ad _)) ?_
             simp only[hn,hn3,gr2]
             refine aY [1,3] (by simp) ?_ ?_<;>simp[-map_map,upd,aT,Γ0,aV,aG,bY]
            ·simp only[hn,hn3,jW]
             simp[-map_map,-mapM_map,↓KW,aV,aG,q3,hw2,aE,aB,aC]
             refine aJ (τ:=Nat×Ch) (j+1,l2) ⟨hgo2,by simp only;omega,by rw[htk2];exact hinv⟩ (Ab hgo2 (Ad _)) ?_
             simp only[hn,hn3,gr2]
             refine aY [1,3,4] (by simp) ?_ ?_<;>simp[-map_map,upd,aT,Γ0,aV,aG,bY]
         ·simp only[hn,hn2,gr2]
          simp[-map_map,-mapM_map,↓KW,aV,aG,q2,hf,hef,hlk,aE,aB,aC,aK,aD,aM]
          refine aU (fun s:Nat×Ch=>s.1≤v.length∧s.2.length≤100*j+s.1∧l++mulR f.2 (v.take s.1)=s.2) (fun s=>jW 8 11 [(5,.d (kG N)),(10,.ptr 1 0),(13,.ptr 2 0),(31,.d (aV M)),(32,.d (.i .i64 M.length)),(33,.d (.i .i64 (i:Int))),(38,.d (aG y)),(39,.d (.i .i64 y.length)),(40,.d (.i .i64 (j:Int))),(47,.d (aG v)),(48,.d (.i .i64 v.length)),(49,.d (.i .i64 (s.1:Int)))] (.cells 84 [.d (.i .i64 n),.d (aG y)]) (.cells 76 [.d (.i .i64 f.1),.d (.b (decide (f.2<0))),.d (aN (aX f.2.natAbs))]) 84 2 out.length (flt mO out) 76 3 s.2.length (flt dK s.2)) (fun s=>v.length-s.1) (0,l) ⟨An _,by simp only;omega,by simp[mulR]⟩ ?_ ?_
          ·simp only[hn,hn2,jW]
           refine aY [1,4,2,3] (by simp) ?_ ?_<;>simp[-map_map,upd,aT,Γ0,aV,aG,bY]
          ·rintro⟨k,l2⟩ ⟨hk2,hl2,hinv⟩
           simp only at hk2 hl2 hinv ⊢
           by_cases hgo3:k<v.length
           ·have q3:(k:Int)<v.length:=by omega
            have hg2:v[k]? = some v[k]:=Aa hgo3
            have hw3:Ah.wrap ((k:Int)+1)=(k:Int)+1:=aR (by omega) (by omega)
            have htk3:l++mulR f.2 (v.take (k+1))=l2++[(v[k].1,f.2*v[k].2)]:=by rw[tK hgo3,←AZ,hinv]
            have hub:=hvb _ (Ak hgo3)
            refine(show ∃ u,v[k]=u from⟨_,rfl⟩).elim fun u hue=>?_
            rw[hue]at hg2 htk3 hub
            have heu:dK u=[.i .i64 u.1,.b (decide (u.2<0)),aN (aX u.2.natAbs)]:=rfl
            have hMu:=tO f.2 u.2 (mM hfb (by omega)) (mM hub (by omega))
            have hm1:(1:Nat)≤maxLen:=aW (by decide)
            have hll2:(l2++[(u.1,f.2*u.2)]).length=l2.length+1:=by rw[Al];rfl
            rcases hn3:l2.length with _|k1
            ·have e0:l2=[]:=Au hn3
             simp only[hn,hn3,jW]
             simp[-map_map,-mapM_map,↓KW,aV,aG,q3,hg2,heu,hw3,aE,aB,aC,aK,aD,aM]
             refine aA (ds:=[encZ f.2,encZ u.2]) (by rfl) hMu ?_
             simp[-map_map,-mapM_map,↓KW,aV,aG,bF,q3,hg2,heu,hw3,hm1,aE,aB,aC,aK,aD,aM]
             refine aJ (τ:=Nat×Ch) (k+1,l2++[(u.1,f.2*u.2)]) ⟨hgo3,by simp only;omega,htk3⟩ (Ab hgo3 (Ad _)) ?_
             simp only[hll2,hn,hn3,jW]
             refine aY [1,2,3,6] (by simp) ?_ ?_<;>simp[-map_map,upd,aT,Γ0,aV,aG,bB,e0,bZ]
            ·have hbb:=cC (n:=k1+1) (by omega)
             have hcl:=cB cG l2
             rw[hn3]at hcl
             have hal:=dZ iJ l2
             simp only[hn,hn3,jW]
             simp[-map_map,-mapM_map,↓KW,aV,aG,q3,hg2,heu,hw3,aE,aB,aC,aK,aD,aM]
             refine aA (ds:=[encZ f.2,encZ u.2]) (by rfl) hMu ?_
             simp[-map_map,-mapM_map,↓KW,aV,aG,bF,q3,hg2,heu,hw3,hm1,hbb,hcl,hal,aW,aE,aB,aC,aK,aD,aM]
             refine aJ (τ:=Nat×Ch) (k+1,l2++[(u.1,f.2*u.2)]) ⟨hgo3,by simp only;omega,htk3⟩ (Ab hgo3 (Ad _)) ?_
             simp only[hll2,hn,hn3,jW]
             refine aY [1,2,3,7] (by simp) ?_ ?_<;>simp[-map_map,upd,aT,Γ0,aV,aG,bB,dP,bZ]
           ·have q3:¬(k:Int)<v.length:=by omega
            rw[Ai (by omega)]at hinv
            rcases hn3:l2.length with _|k1
            ·simp only[hn,hn3,jW]
             simp[-map_map,-mapM_map,↓KW,aV,aG,q3,hw2,aE,aB,aC]
             refine aJ (τ:=Nat×Ch) (j+1,l2) ⟨hgo2,by simp only;omega,by rw[htk2];exact hinv⟩ (Ab hgo2 (Ad _)) ?_
             simp only[hn,hn3,gr2]
             refine aY [1,3] (by simp) ?_ ?_<;>simp[-map_map,upd,aT,Γ0,aV,aG,bY]
            ·simp only[hn,hn3,jW]
             simp[-map_map,-mapM_map,↓KW,aV,aG,q3,hw2,aE,aB,aC]
             refine aJ (τ:=Nat×Ch) (j+1,l2) ⟨hgo2,by simp only;omega,by rw[htk2];exact hinv⟩ (Ab hgo2 (Ad _)) ?_
             simp only[hn,hn3,gr2]
             refine aY [1,3,4] (by simp) ?_ ?_<;>simp[-map_map,upd,aT,Γ0,aV,aG,bY]
        ·have q2:¬(j:Int)<y.length:=by omega
         rw[Ai (by omega)]at hl
         have hlb:=(aEd hns (x:=y) hyb).2
         rw[hl]at hlb
         have hlk:Keys l:=by
          rw[←hl]
          intro u hu
          obtain⟨f,_,p,hp,_,w,hw,e⟩:=aJq hu
          rw[←e];exact hk p hp w hw
         have hM:=rW (l:=l) (e:=g+h) hlb hlk (by omega) (by omega)
         have hr:bV [] l=r:=by rw[←hl];exact hre
         rw[hr]at hM
         have hcl1:=cB jL out
         have hal1:=dZ yR out
         rw[hn]at hcl1
         have hm1:(1:Nat)≤maxLen:=aW (by decide)
         rcases hn2:l.length with _|k0
         ·have e0:l=[]:=Au hn2
          rw[e0]at hM
          simp only[hn,gr2]
          simp[-map_map,-mapM_map,↓KW,aV,aG,q2,aE,aB,aC]
          refine aA (ds:=[aG []]) (by rfl) hM ?_
          have hbb:=cC (n:=m0+1) (by omega)
          have hb8:(m0+1+1)*32≤140737488355328:=by omega
          simp[-map_map,-mapM_map,↓KW,aV,aG,hm1,hm1,hw,hbb,hb8,hcl1,hal1,aW,aQ,bG,aE,aB,aC]
          refine aJ (τ:=Nat×List (Int×Ch)) (i+1,out++[(n,r)]) ⟨hgo,htk⟩ (Ab hgo (Ad _)) ?_
          simp only[Al,hn,Ar,grS,dP,bZ,fH]
          refine aY [4] (by simp) ?_ ?_<;>simp[-map_map,upd,aT,Γ0,aV,aG]
         ·have e1:=eR cG hn2
          have e2:=eF (by decide) cG hn2
          have e3:=cB cG l
          rw[hn2]at e3
          simp only[hn,gr2]
          simp[-map_map,-mapM_map,↓KW,aV,aG,q2,aE,aB,aC]
          refine aA (ds:=[aG l]) (by simp[-map_map,-mapM_map,aG,upd,e1,e2,e3]) hM ?_
          have hbb:=cC (n:=m0+1) (by omega)
          have hb8:(m0+1+1)*32≤140737488355328:=by omega
          simp[-map_map,-mapM_map,↓KW,aV,aG,e1,hm1,hw,hbb,hb8,hcl1,hal1,aW,aQ,bG,aE,aB,aC]
          refine aJ (τ:=Nat×List (Int×Ch)) (i+1,out++[(n,r)]) ⟨hgo,htk⟩ (Ab hgo (Ad _)) ?_
          simp only[Al,hn,Ar,grS,dP,bZ,fH]
          refine aY [5] (by simp) ?_ ?_<;>simp[-map_map,upd,aT,Γ0,aV,aG]
     ·have q1:¬(i:Int)<M.length:=by omega
      rw[Ai (by omega)]at ho
      rw[ho]
      rcases hn:out.length with _|m0
      ·have e0:out=[]:=Au hn
       simp only[grS]
       simp[-map_map,-mapM_map,↓KW,aV,q1,e0]
      ·have e1:=eR jL hn
       have e2:=eF (by decide) jL hn
       have e3:=cB jL out
       rw[hn]at e3
       simp only[grS]
       simp[-map_map,-mapM_map,↓KW,aV,q1,e1,e2,e3,hn]
theorem bDe(Γ:Nat→AV):oev Γ (.const (.map none))=.d (.lit (.map none)):=rfl
theorem rec62:lG Tryz.prog 62:=by
 refine⟨fun w=>enters_of Tryz.func62 (by kernel_rfl) rfl _ w,fun w=>?_⟩
 refine callsD_of_wpS Tryz.func62 rfl fun c₀ cs hu=>?_
 apply wpS_region
 simp[wpOpsS,go_sem,recoverD,hu,Tryz.ntmps62,bodyPostS,results,Tryz.results62]
 cases c₀;simp only at hu;subst hu;rfl
set_option maxHeartbeats 2000000 in
set_option maxRecDepth 10000 in
theorem bEb{c:List Cl}{F:Nat}(hc:MdX c)(hz:SzX F c)(hF:7*F+400<4398046511104):Spec Tryz.prog 23 [aF c] (.tp [aF (uE c.length c (dO c [])).1,aV (uE c.length c (dO c [])).2]):=by
 have hlen:=hc.len
 have hS0:=ShI.one hc hz
 have hMp:=lQ c [] (.lit (.map none)) rfl bTf (by omega)
 refine nH (N:=40) aI Tryz.func23 rfl rfl rfl (by kernel_rfl) (by kernel_rfl) (by kernel_rfl) (by kernel_rfl) rfl rec62 (by simp) ?_
 simp[-map_map,-mapM_map,↓KW,pQ,lS,iH,eL,fW]
 refine aA (ds:=[aF c,.lit (.map none)]) (by rfl) hMp ?_
 simp[-map_map,-mapM_map,↓KW,bDe,pQ,lS,iH,eL,fW,eE,dB,jH,fK,iA]
 refine(show ∃ R,uE c.length c (dO c [])=R from⟨_,rfl⟩).elim fun R hR=>?_
 rw[hR]
 refine aU (fun y:Nat×Nat×List Cl×List (Int×Ch)=>ShI F c y.2.1 y.2.2.1 y.2.2.2∧y.2.2.1.length≤y.1∧uE y.1 y.2.2.1 y.2.2.2=R) (fun y=>StL [(0,.d (aF y.2.2.1)),(4,.d (aV y.2.2.2))] none []) (fun y=>y.2.2.1.length) (c.length,0,c,dO c []) ⟨hS0,Az _,hR⟩ ?_ ?_
 ·refine aY [] (by simp) ?_ ?_<;>simp[-map_map,upd,aT,Γ0,aF,aV]
 ·clear hS0 hMp hR
  rintro⟨n,j,c1,m1⟩ ⟨hS,hn,hR⟩
  simp only at hS hn hR ⊢
  have hj:=hS.len
  have hFr:=aQt hS.sz (by omega)
  cases hfr:fU c1 with
  |nil =>
   rw[aBg hfr]at hR
   subst hR
   rw[hfr]at hFr
   have hpe:cU []=.sl []:=rfl
   simp[-map_map,-mapM_map,↓KW,iH,eL,fW,jH,fK,iA]
   refine aA (ds:=[aF c1]) (by rfl) hFr ?_
   simp[-map_map,-mapM_map,↓KW,hpe,iH,eL,fW,jH,fK,iA,nR,kZ]
   rfl
  |cons p l =>
   rw[hfr]at hFr
   have hp:p∈fU c1:=by rw[hfr];exact Av ..
   have hst:=hS.step hp
   obtain⟨a,b⟩:=p
   obtain⟨z,xa,xb,t⟩:=xL hS.v hp
   have h2:=aDp t hS.v.inc
   have hcolS:=uX a b hS.v.inc hS.sz hS.keys (by omega)
   rw[aVs hS.v t hp]at hcolS
   have hjb:j*(F+40)≤5*(F+40):=AX _ (by omega)
   have hcm:=t.comm hS.v
   have hkeys:∀ q∈dO c1 (qS c1 a b),Keys q.2:=fun q hq f hf=>by
    obtain⟨i,hi,rfl⟩:=Bi hq
    have hia:i<c1.length:=by rw[←hcm.len];exact hi
    obtain⟨y,hy,_⟩:=hcm.key i _ _ (Aa hia) (Aa hi) f hf
    obtain⟨k1,k2⟩:=cV hy
    rw[←k2];exact hS.inr (Bk.1 k1).1
   have hall:∀ q∈m1,∀ f∈q.2,∃ r∈dO c1 (qS c1 a b),r.1=f.1:=fun q hq f hf=>by
    obtain⟨i,hi,rfl⟩:=Bi hq
    have hia:i<c.length:=by rw[←hS.cm.len];exact hi
    obtain⟨y,hy,_⟩:=hS.cm.key i _ _ (Aa hia) (Aa hi) f hf
    obtain⟨k1,k2⟩:=cV hy
    exact⟨_,AE.2 ⟨y,k1,rfl⟩,k2⟩
   have hCm:=aYj hS.szm (aJj t hS.v hS.sz) (hcm.inc hS.v.inc) hall hkeys (by omega)
   obtain⟨n0,rfl⟩:∃ n0,n=n0+1:=⟨n-1,by have:=bGb hfr;omega⟩
   rw[yG hfr]at hR
   simp only at hst hR
   have hI2:ShI F c (j+1) (jE c1 a b) (oZ m1 (dO c1 (qS c1 a b)))∧(jE c1 a b).length≤n0∧uE n0 (jE c1 a b) (oZ m1 (dO c1 (qS c1 a b)))=R:=⟨hst,by omega,hR⟩
   have hlt:(jE c1 a b).length<c1.length:=by omega
   have hrs:eG (jE c1 a b,dO c1 (qS c1 a b),0)=.tp [aF (jE c1 a b),aV (dO c1 (qS c1 a b)),.i .i64 0]:=rfl
   rw[hrs]at hcolS
   refine(show ∃ c2,jE c1 a b=c2 from⟨_,rfl⟩).elim fun c2 hc2=>?_
   refine(show ∃ m2,dO c1 (qS c1 a b)=m2 from⟨_,rfl⟩).elim fun m2 hm2=>?_
   rw[hc2,hm2]at hcolS hI2
   rw[hc2]at hlt
   rw[hm2]at hCm
   refine(show ∃ m3,oZ m1 m2=m3 from⟨_,rfl⟩).elim fun m3 hm3=>?_
   rw[hm3]at hCm hI2
   have hq1:(((l.length:Int)+1==0):Bool)=false:=by simp;omega
   have hpe:cU ((a,b)::l)=.sl ([.i .i64 a,.i .i64 b]::l.map lD):=rfl
   clear hS hst hR t hc2 hm2 hm3 hfr hcm hkeys hall
   simp[-map_map,-mapM_map,↓KW,iH,eL,fW,jH,fK,iA]
   refine aA (ds:=[aF c1]) (by rfl) hFr ?_
   simp[-map_map,-mapM_map,↓KW,hpe,hq1,iH,eL,fW,jH,fK,iA,nR,kZ]
   refine aA (ds:=[aF c1,.i .i64 a,.i .i64 b]) (by rfl) hcolS ?_
   simp[-map_map,-mapM_map,↓KW,iH,eL,fW,jH,fK,iA]
   refine aA (ds:=[aV m1,aV m2]) (by rfl) hCm ?_
   simp[-map_map,-mapM_map,↓KW,pQ,lS,eE,dB,iH,eL,fW,jH,fK,iA]
   refine aJ (τ:=Nat×Nat×List Cl×List (Int×Ch)) (n0,j+1,c2,m3) hI2 hlt (aY [] (by simp) ?_ ?_)<;>simp[-map_map,upd,aT,Γ0,aF,aV]
end Go.Am
end

section
set_option linter.unusedVariables false
set_option linter.unusedSimpArgs false
open Go Go.Am Go.Proofs
namespace Go.Am
end Go.Am
end

section
set_option linter.unusedVariables false
set_option linter.unusedSimpArgs false
namespace Go.Proofs
open Go.RowKit Go.Lib Go.Sort Go.Shelf
def Tryz.sortC_ren:E1:=⟨fun|14=>92|20=>113|21=>114|22=>115|23=>116|24=>117|25=>118|26=>119|27=>120|46=>138|47=>139|48=>140|49=>141|50=>142|15=>93|57=>150|28=>121|29=>122|n=>n,fun|24=>43|22=>28|3=>3|25=>108|4=>4|0=>0|46=>168|45=>167|50=>116|66=>187|39=>132|55=>129|70=>191|76=>200|77=>201|53=>131|5=>5|9=>9|n=>n,fun n=>n⟩
theorem Tryz.sortC:Go.Proofs.SlLaysF0.n14 Tryz.prog Tryz.sortC_ren:={
 mixed:=by kernel_rfl,
 f14:=⟨Tryz.f92.name,by decide,Tryz.func92.trans (congrArg some (by kernel_rfl))⟩,
 f15:=Tryz.func93.trans (congrArg some (by kernel_rfl)),
 f20:=⟨Tryz.f113.name,by decide,Tryz.func113.trans (congrArg some (by kernel_rfl))⟩,
 f21:=⟨Tryz.f114.name,by decide,Tryz.func114.trans (congrArg some (by kernel_rfl))⟩,
 f22:=⟨Tryz.f115.name,by decide,Tryz.func115.trans (congrArg some (by kernel_rfl))⟩,
 f23:=⟨Tryz.f116.name,by decide,Tryz.func116.trans (congrArg some (by kernel_rfl))⟩,
 f24:=⟨Tryz.f117.name,by decide,Tryz.func117.trans (congrArg some (by kernel_rfl))⟩,
 f25:=⟨Tryz.f118.name,by decide,Tryz.func118.trans (congrArg some (by kernel_rfl))⟩,
 f26:=⟨Tryz.f119.name,by decide,Tryz.func119.trans (congrArg some (by kernel_rfl))⟩,
 f27:=⟨Tryz.f120.name,by decide,Tryz.func120.trans (congrArg some (by kernel_rfl))⟩,
 f28:=Tryz.func121.trans (congrArg some (by kernel_rfl)),
 f29:=Tryz.func122.trans (congrArg some (by kernel_rfl)),
 f46:=⟨Tryz.f138.name,by decide,Tryz.func138.trans (congrArg some (by kernel_rfl))⟩,
 f47:=Tryz.func139.trans (congrArg some (by kernel_rfl)),
 f48:=Tryz.func140.trans (congrArg some (by kernel_rfl)),
 f49:=⟨Tryz.f141.name,by decide,Tryz.func141.trans (congrArg some (by kernel_rfl))⟩,
 f50:=⟨Tryz.f142.name,by decide,Tryz.func142.trans (congrArg some (by kernel_rfl))⟩,
 f57:=⟨Tryz.f150.name,by decide,Tryz.func150.trans (congrArg some (by kernel_rfl))⟩,
 t0:=Tryz.underlying0,
 a0:=Tryz.isAgg0,
 z0:=Tryz.sizeOf0,
 v0:=Tryz.zeroValue0,
 t3:=Tryz.underlying3,
 a3:=Tryz.isAgg3,
 z3:=Tryz.sizeOf3,
 v3:=Tryz.zeroValue3,
 t4:=Tryz.underlying4,
 a4:=Tryz.isAgg4,
 z4:=Tryz.sizeOf4,
 v4:=Tryz.zeroValue4,
 t5:=Tryz.underlying5,
 a5:=Tryz.isAgg5,
 z5:=Tryz.sizeOf5,
 v5:=Tryz.zeroValue5,
 t9:=Tryz.underlying9,
 a9:=Tryz.isAgg9,
 z9:=Tryz.sizeOf9,
 v9:=Tryz.zeroValue9,
 t22:=Tryz.underlying28,
 a22:=Tryz.isAgg28,
 z22:=Tryz.sizeOf28,
 v22:=Tryz.zeroValue28,
 t25:=Tryz.underlying108,
 a25:=Tryz.isAgg108,
 z25:=Tryz.sizeOf108,
 v25:=Tryz.zeroValue108,
 t39:=Tryz.underlying132,
 a39:=Tryz.isAgg132,
 z39:=Tryz.sizeOf132,
 v39:=Tryz.zeroValue132,
 t45:=Tryz.underlying167,
 a45:=Tryz.isAgg167,
 z45:=Tryz.sizeOf167,
 v45:=Tryz.zeroValue167,
 t46:=Tryz.underlying168,
 a46:=Tryz.isAgg168,
 z46:=Tryz.sizeOf168,
 v46:=Tryz.zeroValue168,
 t50:=Tryz.underlying116,
 a50:=Tryz.isAgg116,
 z50:=Tryz.sizeOf116,
 v50:=Tryz.zeroValue116,
 t53:=Tryz.underlying131,
 a53:=Tryz.isAgg131,
 z53:=Tryz.sizeOf131,
 v53:=Tryz.zeroValue131,
 t55:=Tryz.underlying129,
 a55:=Tryz.isAgg129,
 z55:=Tryz.sizeOf129,
 v55:=Tryz.zeroValue129,
 t66:=Tryz.underlying187,
 a66:=Tryz.isAgg187,
 z66:=Tryz.sizeOf187,
 v66:=Tryz.zeroValue187,
 t70:=Tryz.underlying191,
 a70:=Tryz.isAgg191,
 z70:=Tryz.sizeOf191,
 v70:=Tryz.zeroValue191,
 t76:=Tryz.underlying200,
 a76:=Tryz.isAgg200,
 z76:=Tryz.sizeOf200,
 v76:=Tryz.zeroValue200,
 t77:=Tryz.underlying201,
 a77:=Tryz.isAgg201,
 z77:=Tryz.sizeOf201,
 v77:=Tryz.zeroValue201 }
section
variable {α:Type} [Inhabited α]
set_option maxHeartbeats 4000000 in
set_option maxRecDepth 100000 in
theorem Tryz.sortFuncC(enc:α→List Value)(hk:∀ x,(enc x).length=3)(h1:∀ x,∀ v∈enc x,v.oneCell'=true)(cf:α→α→Int)(hO:SWO (ltOf cf))(g:Nat)(cb:Array Value)(blk off cap:Nat)(d:Array α)(w:World)
  (eg:∀ args w,(callFunc g args).run Tryz.prog w=.ok (.enter g args) w) (hcmp:CmpLays Tryz.prog g cb enc 3 cf blk off d.size w) (hH:HoldsK enc 3 w blk off d) (hblk:blk<w.heap.size) (hsz:d.size<4611686018427387904) :
  Calls Tryz.prog 54 #[.slice (some ⟨blk,off,none⟩) d.size cap,.func (.func g) #[] cb] w fun e w' =>
   e=.returned (.tuple #[])∧∃ n os,w'=sortWorldK enc 3 w blk off n (pdq (ltOf cf) d 0 d.size (Fe d.size) true true) os:=by
 have e14:∀ args w,(callFunc 92 args).run Tryz.prog w=.ok (.enter 92 args) w:=enters_of Tryz.func92 (by kernel_rfl) rfl
 have e15:∀ args w,(callFunc 93 args).run Tryz.prog w=.ok (.enter 93 args) w:=enters_of Tryz.func93 (by kernel_rfl) rfl
 have hlim:Fe d.size<4611686018427387904:=Bt (Lib.bitLen_le d.size 62 (by omega) (by omega)) (by omega)
 have hp:=AnyQ.pdqsortCmpFunc_all Tryz.sortC 3 Tryz.isAgg43 Tryz.sizeOf43 enc cf g cb hO blk off cap d w eg hcmp ⟨hk,h1,hH,hblk⟩ (d.size+1) 0 d.size (Fe d.size) d w (by omega) rfl (SWK.start hH) (An _) (Az _) hsz hlim (Or.inl rfl)
 have hl:Calls Tryz.prog 93 #[.int .u64 (d.size:Int)] w fun e w'=>e=.returned (.int .i64 (Fe d.size:Nat))∧w'=w:=by
  have h:=Any.bits_Len (SlLaysF0.n15.bits (P:=Tryz.prog) (ρ:=Tryz.sortC_ren) { Tryz.sortC with }) (d.size:Int) w (by omega) (by omega)
  rwa [Int.toNat_natCast]at h
 change Calls Tryz.prog 92 _ _ _ at hp
 have wr:IntKind.u64.wrap (d.size:Int)=d.size:=by simp[IntKind.wrap,IntKind.bits,IntKind.signed];omega
 clear hH hcmp hk h1
 go_enter Tryz.func54,Tryz.ntmps54
 go_wp2_with (first|(go_at_call 93;refine hl.mono ?_;rintro e w' ⟨rfl,rfl⟩)|(go_at_call 92;refine hp.mono ?_;rintro e w' ⟨rfl,n,os,rfl⟩))
 go_end0
 exact⟨rfl,n,os,rfl⟩
end
end Go.Proofs
end

section
set_option linter.unusedVariables false
set_option linter.unusedSimpArgs false
open Go Go.Am
namespace Go.Proofs
open Go.RowKit Go.Lib Go.Sort Go.Shelf
def Tryz.cmpC_ren:E1:=⟨fun|5=>56|7=>94|n=>n,fun|22=>3|3=>3|4=>4|n=>n,fun|n=>n⟩
theorem Tryz.cmpC:Go.Proofs.SlLaysC2.n5 Tryz.prog Tryz.cmpC_ren:={
 mixed:=by kernel_rfl,
 f5:=⟨"cmp.Compare[int]",by decide,Tryz.func56.trans (congrArg some (by kernel_rfl))⟩,
 f7:=⟨"cmp.isNaN[int]",by decide,Tryz.func94.trans (congrArg some (by kernel_rfl))⟩,
 t3:=Tryz.underlying3,
 a3:=Tryz.isAgg3,
 z3:=Tryz.sizeOf3,
 v3:=Tryz.zeroValue3,
 t4:=Tryz.underlying4,
 a4:=Tryz.isAgg4,
 z4:=Tryz.sizeOf4,
 v4:=Tryz.zeroValue4,
 t22:=Tryz.underlying3,
 a22:=Tryz.isAgg3,
 z22:=Tryz.sizeOf3,
 v22:=Tryz.zeroValue3 }
structure Cv where
 id:Int
 dim:Int
 v:Value
 h1:v.oneCell'=true
instance : Inhabited Cv := ⟨⟨0, 0, .bool false, rfl⟩⟩
def aEw(x:Cl)(v:Value):Cv:=if h:v.oneCell'=true then⟨x.id,x.dim,v,h⟩else⟨x.id,x.dim,.bool false,rfl⟩
def pV(x:Cv):List Value:=[.int .i64 x.id,.int .i64 x.dim,x.v]
def cfC(x y:Cv):Int:=Ff x.id y.id
theorem ltC(x y:Cv):ltOf cfC x y=decide (x.id<y.id):=by
 unfold ltOf cfC Ff
 by_cases h1:x.id<y.id
 ·simp[h1]
 ·by_cases h2:y.id<x.id<;>simp[h1,h2]
theorem bVl:SWO (ltOf cfC) where
 irrefl x:=by rw[ltC];simp
 trans x y z h1 h2:=by rw[ltC]at *;simp at *;omega
 ntrans x y z h1 h2:=by rw[ltC]at *;simp at *;omega
set_option maxHeartbeats 1000000 in
theorem Tryz.closC(x y:Cv)(W:World):Calls Tryz.prog 55 #[.agg #[.int .i64 x.id,.int .i64 x.dim,x.v],.agg #[.int .i64 y.id,.int .i64 y.dim,y.v]] W fun e w'=>e=.returned (.int .i64 (Ff x.id y.id))∧∃ q os',w'=grow (W.drewN q) os':=by
 have hcon:=fun W'=>AnyG.cmp_Compare_int Tryz.cmpC x.id y.id W'
 change ∀ W',Calls Tryz.prog 56 _ _ _ at hcon
 generalize Ff x.id y.id=r at hcon ⊢
 obtain⟨xi,xd,xv,xh⟩:=x
 obtain⟨yi,yd,yv,yh⟩:=y
 simp only at hcon ⊢
 go_enter Tryz.func55,Tryz.ntmps55
 go_wp2_with (go_at_call 56;refine(hcon _).mono ?_;rintro e w' ⟨rfl,rfl⟩)
 go_ret
 exact⟨rfl,0,_,by rw[alloc_eq_grow,alloc_eq_grow,grow_grow];rfl⟩
theorem aIp{α β:Type}(f:α→β){l' l:List β}(h:l'.Perm l):∀{M:List α},M.map f=l→∃ M':List α,M'.Perm M∧l'=M'.map f:=by
 induction h with
 |nil=>intro M hM;exact⟨M,.refl _,by rw[hM]⟩
 |cons x p ih =>
  intro M hM
  cases M with
  |nil=>cases hM
  |cons a M =>
   injection hM with h1 h2
   obtain⟨M',h3,h4⟩:=ih h2
   exact⟨a::M',h3.cons a,by rw[AR,h1,h4]⟩
 |swap x y l =>
  intro M hM
  match M,hM with
  |a::c::M,hM =>
   injection hM with h1 h2
   injection h2 with h2 h3
   exact⟨c::a::M,.swap ..,by simp[h1,h2,h3]⟩
 |trans h1 h2 ih1 ih2 =>
  intro M hM
  obtain⟨M2,h3,h4⟩:=ih2 hM
  obtain⟨M1,h5,h6⟩:=ih1 h4.symm
  exact⟨M1,h5.trans h3,h6⟩
theorem aNo{L' L:List Cl}(hs:Inc L)(hp:L'.Perm L)(hw:L'.Pairwise fun x y=>x.id≤y.id):L'=L:=by
 induction L generalizing L' with
 |nil=>exact hp.eq_nil
 |cons a L ih =>
  obtain⟨h1,h2⟩:=A5.1 hs
  cases L' with
  |nil=>exact absurd hp.symm.eq_nil (by simp)
  |cons a' L' =>
   obtain⟨h3,h4⟩:=A5.1 hw
   have e:a'=a:=by
    rcases AD.1 (hp.mem_iff.1 (Av ..))with h|h
    ·exact h
    ·rcases AD.1 (hp.mem_iff.2 (Av ..))with h'|h'
     ·exact h'.symm
     ·have:=h1 _ h;have:=h3 _ h';omega
   subst e
   rw[ih h2 (List.Perm.cons_inv hp) h4]
theorem aJb{α:Type}{f:α→List D}{k:Nat}(h:∀ x,(f x).length=k):∀(l:List α) (j c:Nat) (x:α),l[j]? = some x→c<k→(flt f l)[j*k+c]? = (f x)[c]?
 |[],j,c,x,hx,_=>by simp at hx
 |y::l,0,c,x,hx,hc=>by
  simp at hx;subst hx
  rw[CH,Bf,show flt f (y::l)=f y++flt f l from by simp[flt],AF (by rw[h];exact hc)]
 |y::l,j+1,c,x,hx,hc=>by
  rw[show flt f (y::l)=f y++flt f l from by simp[flt],AA (by rw[h,Bp];omega),h,show(j+1)*k+c-k=j*k+c by rw[Bp];omega]
  exact aJb h l j c x (by simpa using hx) hc
theorem aWu{els:List (List D)}{A:Nat→Prop}{W:World}{v:Value}(h:VD A W (.sl els) v):v.oneCell'=true:=by
 obtain⟨ad,c,rfl,_⟩:=oA h;rfl
set_option maxHeartbeats 1000000 in
theorem Tryz.sortO{L L':List Cl}(hp:L'.Perm L)(hs:Inc L')(hl:L.length<4611686018427387904) :
  mP Tryz.prog 54 (.own 0 0 L.length 3) (.cells 43 ((flt bJ L).map .d)) [.lit (.func (.func 55) #[] #[])] (.cells 43 ((flt bJ L').map .d)) (.tp []):=by
 intro A W vs b hA hnb hb hob hlen hv0 hds
 obtain⟨ob,hob,hcr⟩:=hob
 obtain⟨v0,hv0,hV0⟩:=hv0
 have hsz:vs.size=2:=by simpa using hlen.symm
 obtain⟨v1,hv1⟩:∃ v1,vs[1]? = some v1:=⟨vs[1],AK (by omega)⟩
 have hvs:vs=#[v0,v1]:=by
  apply Array.ext_getElem?
  intro k
  match k with
  |0=>simpa using hv0
  |1=>simpa using hv1
  |k+2=>rw[Array.getElem?_eq_none (by omega)];simp
 have h1:=hds 0 _ v1 rfl hv1
 cases h1
 cases hV0 with
 |own _ _ _ _ b' cap cur e hι hb' hcap hlc hm =>
 have hbb:b'=b:=by
  unfold ι1 at hι;simp at hι;exact hι.symm
 subst hbb
 rw[hob]at hb'
 injection hb' with hb'
 subst hb'
 subst hvs
 generalize hn:L.length=n at hlc hcap hl
 have hent:∀ w,(callFunc 54 #[.slice (some ⟨b',0*3,none⟩) n cap,.func (.func 55) #[] #[]]).run Tryz.prog w=.ok (.enter 54 #[.slice (some ⟨b',0*3,none⟩) n cap,.func (.func 55) #[] #[]]) w:=enters_of Tryz.func54 (by kernel_rfl) rfl _
 refine⟨hent,?_⟩
 cases hcr with
 |cells _ _ _ hle hcell =>
 have hat:∀(j c:Nat) (x:Cl),L[j]? = some x→c<3→∃ y u,(bJ x)[c]? = some y∧cur[j*3+c]? = some u∧VD A W y u:=by
  intro j c x hx hc
  have h2:=aJb cS L j c x hx hc
  obtain⟨y,hy⟩:∃ y,(bJ x)[c]? = some y:=⟨_,Aa (by rw[cS];exact hc)⟩
  obtain⟨u,hu,hV⟩:=hcell (j*3+c) (.d y) (by rw[Ax,h2,hy];rfl)
  cases hV with
  |d _ _ h=>exact⟨y,u,hy,hu,h⟩
 let M:List (Cl×Value):=L.mapIdx fun j x=>(x,(cur[j*3+2]?).getD default)
 have hMl:M.length=n:=by simp[M,hn]
 have hMj:∀ j x,L[j]? = some x→M[j]? = some (x,(cur[j*3+2]?).getD default):=fun j x hx=>by simp[M,List.getElem?_mapIdx,hx]
 have hM1:M.map Prod.fst=L:=by
  apply Ca
  intro j
  rw[Ax]
  cases hx:L[j]? with
  |none=>simp[M,List.getElem?_mapIdx,hx]
  |some x=>rw[hMj j x hx];rfl
 have hM2:∀ p∈M,VD A W (aG p.1.b) p.2:=by
  intro p hpm
  obtain⟨j,hj⟩:=List.getElem?_of_mem hpm
  have hjl:j<L.length:=by rw[hn,←hMl];exact(Aj.1 hj).1
  have hx:L[j]? = some L[j]:=Aa hjl
  rw[hMj j _ hx]at hj
  injection hj with hj
  obtain⟨y,u,hy,hu,hV⟩:=hat j 2 _ hx (by omega)
  subst hj
  simp only[bJ]at hy
  simp at hy
  subst hy
  rw[hu];exact hV
 have hM3:∀ p∈M,p.2.oneCell'=true:=fun p hpm=>aWu (hM2 p hpm)
 let d:Array Cv:=(M.map fun p=>aEw p.1 p.2).toArray
 have hds:d.size=n:=by simp[d,hMl]
 have hmk:∀ p∈M,pV (aEw p.1 p.2)=[.int .i64 p.1.id,.int .i64 p.1.dim,p.2]:=fun p hpm=>by
  unfold aEw;rw[dif_pos (hM3 p hpm)];rfl
 have hH:HoldsK pV 3 W b' 0 d:=by
  intro t ht
  rw[size_flatK,hds]at ht
  have hj:t/3<L.length:=by rw[hn];omega
  have hx:L[t/3]? = some L[t/3]:=Aa hj
  have hd:d[t/3]! = aEw L[t/3] ((cur[t/3*3+2]?).getD default):=by
   rw[getElem!_pos d (t/3) (by rw[hds,←hn];exact hj)]
   have:=hMj _ _ hx
   have h3:=(Aj.1 this).2
   simp only[d,List.getElem_toArray,Cm,h3]
  have hmem:(L[t/3],(cur[t/3*3+2]?).getD default)∈M:=Aq (hMj _ _ hx)
  rw[get_flatK _ _ _ _ (by rw[hds];exact ht),hd,hmk _ hmem]
  constructor
  ·simp only[World.cell?,hob,Bf,id]
   obtain⟨y,u,hy,hu,hV⟩:=hat (t/3) (t%3) _ hx (D9 _ (by omega))
   rw[Nat.div_add_mod' t 3]at hu
   simp only[Option.isSome_none,AU,BB,hu]
   rcases(by omega:t%3=0∨t%3=1∨t%3=2)with hc|hc|hc
   ·rw[hc]at hy ⊢;simp[bJ]at hy;subst hy;cases hV;rfl
   ·rw[hc]at hy ⊢;simp[bJ]at hy;subst hy;cases hV;rfl
   ·have:t/3*3+2=t:=by omega
    rw[hc,this,hu];rfl
  ·simp only[World.frozen?,hob];simp
 have eg:∀ args w,(callFunc 55 args).run Tryz.prog w=.ok (.enter 55 args) w:=enters_of Tryz.func55 (by kernel_rfl) rfl
 have hcall:=Tryz.sortFuncC pV (fun _=>rfl) (fun x v hv=>by simp[pV]at hv;rcases hv with rfl|rfl|rfl;rfl;rfl;exact x.h1) cfC bVl 55 #[] b' 0 cap d W eg (fun _ _ _ _ x y=>Tryz.closC x y _) hH hb (by rw[hds];exact hl)
 rw[hds]at hcall
 refine hcall.mono ?_
 rintro e' w' ⟨rfl,q,os,rfl⟩
 have hpd:=pdq_sorts (ltOf cfC) bVl d 0 n (Fe n) true true (An _) (by rw[hds];exact Az _) (Or.inl rfl)
 generalize pdq (ltOf cfC) d 0 n (Fe n) true true=d' at hpd ⊢
 obtain⟨⟨hd1,_,hd2⟩,hso⟩:=hpd
 rw[hds]at hd1
 have hdp:d'.toList.Perm d.toList:=by
  have e1:d'.extract 0 n=d':=by rw[←hd1];simp
  have e2:d.extract 0 n=d:=by rw[←hds];simp
  rwa [e1,e2]at hd2
 obtain⟨M',hM',hdM⟩:=aIp (fun p:Cl×Value=>aEw p.1 p.2) hdp (M:=M) (by simp[d])
 have hlM:M'.length=n:=by rw[hM'.length_eq,hMl]
 have hidk:∀ p:Cl×Value,(aEw p.1 p.2).id=p.1.id:=fun p=>by unfold aEw;split<;>rfl
 have hdj:∀ j (h:j<M'.length),d'[j]! = aEw M'[j].1 M'[j].2:=fun j h=>by
  rw[getElem!_pos d' j (by rw[hd1,←hlM];exact h),←Array.getElem_toList]
  simp only[hdM,Cm]
 have hLM:M'.map Prod.fst=L':=by
  refine aNo hs (((hM'.map Prod.fst).trans (by rw[hM1])).trans hp.symm) ?_
  rw[Bv]
  intro i j hi hj hij
  rw[AN]at hi hj
  have:=hso i j (An _) hij (by rw[←hlM];exact hj)
  rw[hdj j hj,hdj i hi,ltC,hidk,hidk]at this
  simp at this
  simpa using this
 have hM2':∀ p∈M',VD A W (aG p.1.b) p.2∧pV (aEw p.1 p.2)=[.int .i64 p.1.id,.int .i64 p.1.dim,p.2]:=fun p hpm=>⟨hM2 p (hM'.mem_iff.1 hpm),hmk p (hM'.mem_iff.1 hpm)⟩
 have hw:(sortWorldK pV 3 W b' 0 q d' os).heap=W.heap.modify b' (onCells (putCells id 0 (flatK pV 3 d')))++os:=rfl
 have hblk:∀ k,k<W.heap.size→k≠b'→(sortWorldK pV 3 W b' 0 q d' os).heap[k]? = W.heap[k]? := fun k hk hkb=>by
  rw[hw,Cw (by simpa using hk),D1,Ae (Ne.symm hkb)]
 have hbl:(sortWorldK pV 3 W b' 0 q d' os).heap[b']? = some (.cells (putCells id 0 (flatK pV 3 d') cur) 43 (0,0)):=by
  rw[hw,Cw (by simpa using hb),D1,Ag rfl,hob];rfl
 have hszc:(putCells id 0 (flatK pV 3 d') cur).size=cur.size:=by simp[putCells]
 refine⟨_,_,rfl,⟨rfl,rfl,rfl,by rw[hw];simp,fun k hk hkb=>hblk k hk hkb,fun k c e hk hc=>?_⟩,hbl,fun c e hc=>?_,?_,.tp _ _ rfl (fun k c v hk=>by simp at hk)⟩
 ·by_cases hkb:k=b'
  ·subst hkb
   rw[hob]at hc;injection hc with hc;injection hc with hc1 hc2;subst hc1;subst hc2
   exact⟨_,hbl,hszc⟩
  ·exact⟨c,(hblk k hk hkb).trans hc,rfl⟩
 ·rw[hob]at hc;injection hc with hc;injection hc with hc1 hc2;subst hc1;subst hc2
  exact⟨_,rfl,hszc⟩
 ·have hLl:L'.length=n:=by rw[←hLM,AN,hlM]
  refine .cells _ _ _ (by rw[AN,cB cS,hLl,hszc];rw[AN,cB cS,hn]at hle;exact hle) ?_
  intro k c hk
  have hkl:k<n*3:=by
   have:=(Aj.1 hk).1
   rw[AN,cB cS,hLl]at this;exact this
  have hj:k/3<M'.length:=by rw[hlM];omega
  have hx:L'[k/3]? = some M'[k/3].1:=by
   rw[←hLM,Ax,Aa hj];rfl
  have h2:=aJb cS L' (k/3) (k%3) _ hx (D9 _ (by omega))
  rw[Nat.div_add_mod' k 3]at h2
  have hcs:k<cur.size:=by
   rw[AN,cB cS,hn]at hle;omega
  obtain⟨hv1,hv2⟩:=hM2' _ (Ak hj)
  have hcell':(putCells id 0 (flatK pV 3 d') cur)[k]? = some (pV (aEw M'[k/3].1 M'[k/3].2))[k%3]! := by
   simp only[putCells,Array.getElem?_mapIdx,AK hcs,AW,size_flatK,hd1]
   rw[Ag ⟨An _,by omega⟩,Nat.sub_zero,get_flatK _ _ _ _ (by rw[hd1];exact hkl),hdj _ hj];rfl
  rw[hv2]at hcell'
  refine⟨_,hcell',?_⟩
  rw[Ax,h2]at hk
  rcases(by omega:k%3=0∨k%3=1∨k%3=2)with hc|hc|hc
  ·rw[hc]at hk ⊢;simp[bJ]at hk;subst hk;exact .d _ _ (.i ..)
  ·rw[hc]at hk ⊢;simp[bJ]at hk;subst hk;exact .d _ _ (.i ..)
  ·rw[hc]at hk ⊢;simp[bJ]at hk;subst hk
   exact .d _ _ (hv1.step (fun x hx=>.inl hx) fun x hx=>hblk x (hA x hx) fun h=>hnb (h ▸ hx))
end Go.Proofs
end

section
set_option linter.unusedVariables false
set_option linter.unusedSimpArgs false
open List (map_map mapM_map)
open Go Go.Am Go.Proofs
namespace Go.Am
theorem rec50:lG Tryz.prog 50:=by
 refine⟨fun w=>enters_of Tryz.func50 (by kernel_rfl) rfl _ w,fun w=>?_⟩
 refine callsD_of_wpS Tryz.func50 rfl fun c₀ cs hu=>?_
 apply wpS_region
 simp[wpOpsS,go_sem,recoverD,hu,Tryz.ntmps50,bodyPostS,results,Tryz.results50]
 cases c₀;simp only at hu;subst hu;rfl
theorem aEs{H H':Nat→Option HO}{ρ:Nat→Nat}{t:TypeId}{id n:Nat}{l:Ch}(hn:l.length=n)(hH:H id=some (.cells t ((flt dK l).map .d)))(hv:∀ j,(H' j).isSome=true→ρ j≠id):Sub H H' ρ (.own id 0 n 3) (.d (aG l)):=by
 have e1:=eR cG hn
 have e2:=eF (by decide) cG hn
 have e3:=cB cG l
 rw[hn]at e3
 refine kW ?_ fun a ha j h=>?_
 ·rw[iS,hH]
  simp only[CH,Bf,BS,e1,nP,AW,e2]
  rw[Ag ⟨by rw[AN];omega,by omega⟩];rfl
 ·have e:vis H 8 (.own id 0 n 3)=id::((flt dK l).map AV.d).flatMap (vis H 7):=by
   rw[aTc,hH,aAx,CH,BS,e1]
  rw[e]at ha
  rcases AD.1 ha with rfl|ha
  ·exact hv j h
  ·obtain⟨x,hx,hxa⟩:=Bj.1 ha
   obtain⟨d,_,rfl⟩:=AE.1 hx
   simp[vis]at hxa
theorem iW{H H':Nat→Option HO}{ρ:Nat→Nat}(cs:List D):Sub H H' ρ (.fp cs) (.fp cs)↔True:=⟨fun _=>trivial,fun _=>⟨rfl,fun a ha=>by simp[vis]at ha⟩⟩
theorem aPn{H H':Nat→Option HO}{ρ:Nat→Nat}{t:TypeId}{id:Nat}{cs:List D}(hH:H id=some (.cells t (cs.map .d)))(hv:∀ j,(H' j).isSome=true→ρ j≠id):Sub H H' ρ (.ptr id 0) (.fp cs):=by
 have h1:frz H 8 (.ptr id 0)=some (.pt cs):=by
  rw[aNz,hH]
  simp only[An,BN,BS,nP,AW]
 have h2:∀ a∈vis H 8 (.ptr id 0),∀ j,(H' j).isSome=true→ρ j≠a:=fun a ha j h=>by
  rw[aKo,hH]at ha
  simp only[BS]at ha
  rcases AD.1 ha with rfl|ha
  ·exact hv j h
  ·obtain⟨x,hx,hxa⟩:=Bj.1 ha
   obtain⟨d,_,rfl⟩:=AE.1 hx
   simp[vis]at hxa
 exact⟨h1,h2⟩
theorem xC(H:Nat→Option HO)(n:Nat):fE H n []=H:=by
 funext id;simp only[fE,A8];rw[Ae (by omega)]
theorem aDd(H:Nat→Option HO)(n:Nat)(o:HO):fE H n [o]=upd H n (some o):=by
 funext id
 simp only[fE,Ar]
 by_cases h:id=n
 ·subst h;rw[Ag (by omega),cQ,Cq];rfl
 ·rw[Ae (by omega),dD _ _ h]
theorem aXq{l:Ch}{i:Nat}(h:i<l.length):aIo (l.take (i+1))=aIo (l.take i)++if 0<l[i].2 then[l[i]]else[]:=by
 unfold aIo
 rw[AJ,Aa h,BT]
 congr 1
 by_cases e:0<l[i].2<;>simp[e]
theorem aYe{l:Ch}{i:Nat}(h:i<l.length):aNb (l.take (i+1))=aNb (l.take i)++if 0<l[i].2 then[]else[l[i]]:=by
 unfold aNb
 rw[AJ,Aa h,BT]
 congr 1
 by_cases e:0<l[i].2<;>simp[e]
theorem bIy{l:Ch}{i:Nat}(h:i<l.length)(e w1:Int):adF e w1 (l.take (i+1))=adF e w1 (l.take i)++if l[i].1=e then[(w1,l[i].2)]else[]:=by
 unfold adF
 rw[AJ,Aa h,BT,By]
 congr 1
 by_cases q:l[i].1=e<;>simp[q]
theorem aBr(l:Ch):(aIo l).length≤l.length:=BV _ _
theorem aCb(l:Ch):(aNb l).length≤l.length:=BV _ _
theorem bPy(e w:Int)(l:Ch):(adF e w l).length≤l.length:=by unfold adF;rw[AN];exact BV _ _
theorem bKw(z:Int):decide (0<z.sign)=decide (0<z):=by
 rcases Int.lt_trichotomy z 0 with h|h|h
 ·rw[Int.sign_eq_neg_one_of_neg h];simp;omega
 ·subst h;rfl
 ·rw[Int.sign_eq_one_of_pos h];simp[h]
theorem bLx{e:Nat}{w:Int}{z:Int}{l:Ch}(hz:z.natAbs=1)(h:Bnd (2^e) l):Bnd (2^e) ((w,z)::l):=fun x hx=>by
 rcases AD.1 hx with rfl|hx
 ·show z.natAbs≤_;rw[hz];exact DV
 ·exact h x hx
set_option maxHeartbeats 8000000 in
set_option maxRecDepth 10000 in
theorem aNf{c:List Cl}{F:Nat}(e w0 w1:Int)(hc:Inc c)(hz:SzX F c)(hk:∀ x∈c,Keys x.b)(hi0:inr w0=true)(hi1:inr w1=true)(hie:inr e=true)(hne:∀ f∈bOf c e,f.1≠e)(hF:F+20<4398046511104) :
  Spec Tryz.prog 18 [aF c,.i .i64 e,.ag [.i .i64 w0,.i .i64 w1]] (eG (bKn c e w0 w1)):=by
 have hlen:=hz.len
 have hFe:=vG hc e (by omega)
 have hF0:=vG hc w0 (by omega)
 have hF1:=vG hc w1 (by omega)
 have hr:∃ p x,(bW c e).isSome=p∧(bW c e).getD pH=x:=⟨_,_,rfl,rfl⟩
 obtain⟨p,x,hp,hx⟩:=hr
 have hde:dOf c e=x.dim:=by unfold dOf;rw[hx]
 have hbe:bOf c e=x.b:=by unfold bOf;rw[hx]
 have hxl:x.b.length≤100:=by rw[←hbe];exact uC hz.bl e
 have hxb:Bnd (2^F) x.b:=by rw[←hbe];exact oR hz.bb e
 unfold vB at hFe hF0 hF1
 rw[hp,hx]at hFe
 have hk0:kn c w0=(bW c w0).isSome:=rfl
 have hk1:kn c w1=(bW c w1).isSome:=rfl
 obtain⟨u0,y0,hu0,hy0⟩:∃ u y,(bW c w0).isSome=u∧(bW c w0).getD pH=y:=⟨_,_,rfl,rfl⟩
 obtain⟨u1,y1,hu1,hy1⟩:∃ u y,(bW c w1).isSome=u∧(bW c w1).getD pH=y:=⟨_,_,rfl,rfl⟩
 rw[hu0,hy0]at hF0
 rw[hu1,hy1]at hF1
 rw[hu0]at hk0
 rw[hu1]at hk1
 unfold bKn
 rw[hp,hde,hk0,hk1]
 refine nH (N:=165) aI Tryz.func18 rfl rfl rfl (by kernel_rfl) (by kernel_rfl) (by kernel_rfl) (by kernel_rfl) rfl rec50 (by simp) ?_
 simp[-map_map,-mapM_map,↓KW,aF]
 refine aA (ds:=[aF c,.i .i64 e]) (by rfl) hFe ?_
 cases p with
 |false=>simp[-map_map,-mapM_map,↓KW,aF,bS,aE,aB,aC,cN,eG,aV]
 |true =>
  by_cases h1:x.dim=1
  rotate_left
  ·have h1':((x.dim != 1):Bool)=true:=by simpa using h1
   simp[-map_map,-mapM_map,↓KW,aF,bS,aE,aB,aC,cN,eG,aV,h1,h1']
  ·have h1':((x.dim != 1):Bool)=false:=by simpa using h1
   simp[-map_map,-mapM_map,↓KW,aF,bS,aE,aB,aC,h1,h1']
   refine aA (ds:=[aF c,.i .i64 w0]) (by rfl) hF0 ?_
   simp[-map_map,-mapM_map,↓KW,aF,bS,aE,aB,aC,h1,h1']
   refine aA (ds:=[aF c,.i .i64 w1]) (by rfl) hF1 ?_
   by_cases h2:w0=w1
   ·have h2':((w0==w1):Bool)=true:=by simpa using h2
    simp[-map_map,-mapM_map,↓KW,aF,bS,aE,aB,aC,cN,eG,aV,h1,h1',h2,h2']
   ·have h2':((w0==w1):Bool)=false:=by simpa using h2
    cases u0 with
    |true=>simp[-map_map,-mapM_map,↓KW,aF,bS,aE,aB,aC,cN,eG,aV,h1,h1',h2,h2']
    |false =>
     cases u1 with
     |true=>simp[-map_map,-mapM_map,↓KW,aF,bS,aE,aB,aC,cN,eG,aV,h1,h1',h2,h2']
     |false =>
      have h3:¬(398:Int)<c.length:=by omega
      have h3':¬398<c.length:=by omega
      have hkx:Keys x.b:=by
       cases hfx:bW c e with
       |none=>rw[hfx]at hp;cases hp
       |some x' =>
        rw[hfx]at hx
        have:x'=x:=hx
        subst this
        exact hk _ (cV hfx).1
      have hO1:=uZ
      have hOm:=bNp
      simp[-map_map,-mapM_map,↓KW,aF,bS,aE,aB,aC,h1,h1',h2,h2',h3,h3']
      refine aA (ds:=[.i .i64 1]) (by rfl) hO1 ?_
      simp[-map_map,-mapM_map,↓KW,aF,bF,bS,aE,aB,aC,aK,aD,aM]
      refine aA (ds:=[.i .i64 (-1)]) (by rfl) hOm ?_
      simp[-map_map,-mapM_map,↓KW,aF,aG,bF,bS,aE,aB,aC,aK,aD,aM]
      clear hFe hF0 hF1 hO1 hOm hy0 hy1 hu0 hu1 hp hx
      refine aU (fun y:Nat×Ch×Ch=>y.1≤x.b.length∧mT w0 (x.b.take y.1)=y.2.1∧lM w0 (x.b.take y.1)=y.2.2) (fun y=>StL [(0,.d (aF c)),(1,.d (.i .i64 e)),(5,.fp [.i .i64 w0,.i .i64 w1]),(15,.own 1 0 y.2.1.length 3),(16,.own 2 0 y.2.2.length 3),(76,.d (aG x.b)),(77,.d (.i .i64 x.b.length)),(78,.d (.i .i64 (y.1:Int)))] none [.cells 76 ((flt dK y.2.1).map .d),.cells 76 ((flt dK y.2.2).map .d)]) (fun y=>x.b.length-y.1) (0,[(w0,1)],[(w0,-1)]) ⟨An _,rfl,rfl⟩ ?_ ?_
      ·refine aY [5,6] (by simp) ?_ ?_<;>simp[-map_map,upd,aT,Γ0,aF,aG,bZ,bB]
       exact aPn (cs:=[.i .i64 w0,.i .i64 w1]) rfl fun j hj=>aTq hj (by simp) (by decide)
      ·rintro⟨i,r,p⟩ ⟨hi,hr,hp⟩
       simp only at hi hr hp ⊢
       by_cases hgo:i<x.b.length
       ·have q1:(i:Int)<x.b.length:=by omega
        have hf:x.b[i]? = some x.b[i]:=Aa hgo
        have hw:Ah.wrap ((i:Int)+1)=(i:Int)+1:=aR (by omega) (by omega)
        have tkr:=aYe hgo
        have tkp:=aXq hgo
        have hfb:=hxb _ (Ak hgo)
        have hrl:r.length≤i+1:=by
         have:=aCb (x.b.take i)
         rw[←hr];unfold mT;rw[AB];rw[AM]at this;omega
        have hpl:p.length≤i+1:=by
         have:=aBr (x.b.take i)
         rw[←hp];unfold lM;rw[AB];rw[AM]at this;omega
        refine(show ∃ f,x.b[i]=f from⟨_,rfl⟩).elim fun f hfe=>?_
        rw[hfe]at hf tkr tkp hfb
        have hef:dK f=[.i .i64 f.1,.b (decide (f.2<0)),aN (aX f.2.natAbs)]:=rfl
        have hSg:=aCl f.2 (szE hfb (by omega))
        have hsg:=bKw f.2
        have hm1:(1:Nat)≤maxLen:=aW (by decide)
        simp[-map_map,-mapM_map,↓KW,aF,aG,q1,hf,hef,aK,aD,aM,aE,aB,aC]
        refine aA (ds:=[encZ f.2]) (by rfl) hSg ?_
        by_cases h0:0<f.2
        ·have hs0:decide (0<f.2.sign)=true:=by rw[hsg];exact BA h0
         have hs1:0<f.2.sign:=of_decide_eq_true hs0
         rw[Ag h0]at tkr tkp
         rw[Bd]at tkr
         have hbb:=cC (n:=p.length) (by omega)
         have hcl:=cB cG p
         have hal:=dZ iJ p
         simp[-map_map,-mapM_map,↓KW,aF,aG,q1,hf,hef,hs0,hs1,hw,hm1,hbb,hcl,hal,aW,aK,aD,aM,aE,aB,aC]
         refine aJ (τ:=Nat×Ch×Ch) (i+1,r,p++[f]) ⟨hgo,by rw[←hr];unfold mT;rw[tkr],by rw[←hp];unfold lM;rw[tkp];rfl⟩ (Ab hgo (Ad _)) ?_
         simp only[Al,Ar,dP,bZ,bB]
         refine aY [1,5] (by simp) ?_ ?_<;>simp[-map_map,upd,aT,Γ0,aF,aG,iW]
        ·have hs0:decide (0<f.2.sign)=false:=by rw[hsg];exact Bq h0
         have hs1:¬0<f.2.sign:=of_decide_eq_false hs0
         rw[Ae h0]at tkr tkp
         rw[Bd]at tkp
         have hbb:=cC (n:=r.length) (by omega)
         have hcl:=cB cG r
         have hal:=dZ iJ r
         simp[-map_map,-mapM_map,↓KW,aF,aG,q1,hf,hef,hs0,hs1,hw,hm1,hbb,hcl,hal,aW,aK,aD,aM,aE,aB,aC]
         refine aJ (τ:=Nat×Ch×Ch) (i+1,r++[f],p) ⟨hgo,by rw[←hr];unfold mT;rw[tkr];rfl,by rw[←hp];unfold lM;rw[tkp]⟩ (Ab hgo (Ad _)) ?_
         simp only[Al,Ar,dP,bZ,bB]
         refine aY [5,2] (by simp) ?_ ?_<;>simp[-map_map,upd,aT,Γ0,aF,aG,iW]
       ·have q1:¬(i:Int)<x.b.length:=by omega
        rw[Ai (by omega)]at hr hp
        have hpl:p.length≤101:=by
         have:=aBr x.b
         rw[←hp];unfold lM;rw[AB];omega
        have hrl:r.length≤101:=by
         have:=aCb x.b
         rw[←hr];unfold mT;rw[AB];omega
        have hpb:Bnd (2^F) p:=by
         rw[←hp];exact bLx rfl fun f hf=>hxb f (Bk.1 hf).1
        have hrb:Bnd (2^F) r:=by
         rw[←hr];exact bLx rfl fun f hf=>hxb f (Bk.1 hf).1
        have hpk:Keys p:=by
         rw[←hp];intro f hf
         rcases AD.1 hf with rfl|hf
         ·exact hi0
         ·exact hkx f (Bk.1 hf).1
        have hrk:Keys r:=by
         rw[←hr];intro f hf
         rcases AD.1 hf with rfl|hf
         ·exact hi0
         ·exact hkx f (Bk.1 hf).1
        have hMp:=rW (l:=p) (e:=F) hpb hpk (by omega) (by omega)
        have e1:=eR cG (rfl:p.length=p.length)
        have e2:=eF (by decide) cG (rfl:p.length=p.length)
        have e3:=cB cG p
        have hpe:aKx w0 w1 (bOf c e)=⟨w1,1,bV [] p⟩:=by rw[hbe];unfold aKx;rw[hp]
        refine(show ∃ P,bV [] p=P from⟨_,rfl⟩).elim fun P hPe=>?_
        rw[hPe]at hMp hpe
        simp[-map_map,-mapM_map,↓KW,aF,aG,q1,aK,aD,aM,aE,aB,aC]
        refine aA (ds:=[aG p]) (by simp[-map_map,-mapM_map,aG,upd,e1,e2,e3]) hMp ?_
        simp[-map_map,-mapM_map,↓KW,aF,aG,q1,e1,e2,e3,aQ,bG,aK,aD,aM,aE,aB,aC]
        have hsub:∀ z:Cl,z.id=e→subL e w0 w1 (bOf c e) z=r:=fun z h=>by unfold subL;rw[Ag h,hbe,hr]
        have hsub2:∀ z:Cl,z.id≠e→subL e w0 w1 (bOf c e) z=z.b++adF e w1 z.b:=fun z h=>by unfold subL;rw[Ae h]
        refine(show ∃ U,(⟨w0,0,[]⟩:Cl)::[⟨w1,1,P⟩]=U from⟨_,rfl⟩).elim fun U hU=>?_
        have hUl:U.length=2:=by rw[←hU];rfl
        have hUu:aId c e w0 w1=U++c.map (jT e w0 w1 (bOf c e)):=by unfold aId aPp;rw[hpe,←hU]
        refine aU (fun y:Nat×List Cl=>y.1≤c.length∧y.2.length=y.1+2∧U++(c.take y.1).map (jT e w0 w1 (bOf c e))=y.2) (fun y=>StL [(0,.d (aF c)),(1,.d (.i .i64 e)),(5,.fp [.i .i64 w0,.i .i64 w1]),(15,.d (aG r)),(19,.own 1 0 y.2.length 3),(104,.d (aF c)),(105,.d (.i .i64 c.length)),(106,.d (.i .i64 (y.1:Int)))] none [.cells 43 ((flt bJ y.2).map .d)]) (fun y=>c.length-y.1) (0,U) ⟨An _,hUl,by simp⟩ ?_ ?_
        ·simp only[hUl]
         refine aY [3] (by simp) ?_ ?_
         ·simp[-map_map,upd,aT,Γ0,aF,iW]
          exact aEs (t:=76) rfl (by simp[eC,tD]) fun j hj=>aTq hj (by simp) (by decide)
         ·rw[←hU]
          simp[-map_map,upd,aT,Γ0,aF,iW,flt,bS,aOg,yE]
          rfl
        ·rintro⟨i,d⟩ ⟨hi,hdl,hd⟩
         simp only at hi hdl hd ⊢
         by_cases hgo:i<c.length
         ·have q1:(i:Int)<c.length:=by omega
          have hx1:c[i]? = some c[i]:=Aa hgo
          have hw:Ah.wrap ((i:Int)+1)=(i:Int)+1:=aR (by omega) (by omega)
          have htk:U++(c.take (i+1)).map (jT e w0 w1 (bOf c e))=d++[jT e w0 w1 (bOf c e) c[i]]:=by rw[AJ,hx1,By,←AZ,hd];rfl
          have hzl:=hz.bl _ (Ak hgo)
          have hzb:=hz.bb _ (Ak hgo)
          have hzk:=hk _ (Ak hgo)
          have hzf:c[i].id=e→bOf c e=c[i].b:=fun h=>by rw[←h];unfold bOf;rw[hc.find (Ak hgo)];rfl
          refine(show ∃ z,c[i]=z from⟨_,rfl⟩).elim fun z hze=>?_
          rw[hze]at hx1 htk hzl hzb hzk hzf
          have hyc:bJ z=[D.i .i64 z.id,.i .i64 z.dim,aG z.b]:=rfl
          have hcd:=cB cS d
          have had:=dZ pW d
          have hbb:=cC (n:=d.length) (by omega)
          have hm1:(1:Nat)≤maxLen:=aW (by decide)
          have hs1:=hsub z
          have hs2:=hsub2 z
          simp[-map_map,-mapM_map,↓KW,aF,q1,hx1,hyc,aE,aB,aC]
          by_cases hzn:z.b=[]
          ·have hno:∀ f∈z.b,f.1≠e:=fun f hf=>by rw[hzn]at hf;cases hf
           have hcl0:rG Tryz.prog 53 [aG z.b] (fun _=>.d (aG [])) (fun _=>[]):=by rw[hzn];exact bPf
           refine iZ [aG z.b] (fun _=>.d (aG [])) (fun _=>[]) (by simp) (by simp) (by simp) (by rfl) (by rfl) hcl0 ?_
           by_cases hze':z.id=e
           ·have hse:=hs1 hze'
            have hzeq:((z.id==e):Bool)=true:=by simpa using hze'
            have hMk:=rW (l:=r) (e:=F) hrb hrk (by omega) (by omega)
            simp[-map_map,-mapM_map,↓KW,aF,aG,xC,hzeq,hw,aE,aB,aC]
            refine aU (fun j:Nat=>j≤z.b.length) (fun j=>StL [(0,.d (aF c)),(1,.d (.i .i64 e)),(5,.fp [.i .i64 w0,.i .i64 w1]),(15,.d (aG r)),(19,.own 1 0 d.length 3),(21,.ptr 2 0),(22,.d (aG r)),(104,.d (aF c)),(105,.d (.i .i64 c.length)),(106,.d (.i .i64 (i:Int))),(119,.d (aG z.b)),(120,.d (.i .i64 z.b.length)),(121,.d (.i .i64 (j:Int)))] none [.cells 43 ((flt bJ d).map .d),.cells 43 [.d (.i .i64 z.id),.d (.i .i64 z.dim),.d (aG z.b)]]) (fun j=>z.b.length-j) 0 (An _) ?_ ?_
            ·refine aY [1,2] (by simp) ?_ ?_<;>simp[-map_map,upd,aT,Γ0,aF,aG,iW,xC,hzeq]
            ·intro j hj
             by_cases hgo2:j<z.b.length
             ·have q2:(j:Int)<z.b.length:=by omega
              have hf:z.b[j]? = some z.b[j]:=Aa hgo2
              have hw2:Ah.wrap ((j:Int)+1)=(j:Int)+1:=aR (by omega) (by omega)
              have hfn:=hno _ (Ak hgo2)
              refine(show ∃ f,z.b[j]=f from⟨_,rfl⟩).elim fun f hfe=>?_
              rw[hfe]at hf hfn
              have hfn':((f.1==e):Bool)=false:=by simpa using hfn
              have hef:dK f=[.i .i64 f.1,.b (decide (f.2<0)),aN (aX f.2.natAbs)]:=rfl
              simp[-map_map,-mapM_map,↓KW,aF,aG,q2,hf,hef,hfn',hw2,aK,aD,aM,aE,aB,aC]
              refine aJ (j+1) hgo2 (Ab hgo2 (Ad _)) (aY [1,2] (by simp) ?_ ?_)<;>simp[-map_map,upd,aT,Γ0,aF,aG,iW]
             ·have q2:¬(j:Int)<z.b.length:=by omega
              simp[-map_map,-mapM_map,↓KW,aF,aG,q2,aE,aB,aC]
              refine aA (ds:=[aG r]) (by rfl) hMk ?_
              simp[-map_map,-mapM_map,↓KW,aF,aG,hw,hm1,hbb,hcd,had,aW,aQ,bG,aE,aB,aC,hse]
              refine aJ (τ:=Nat×List Cl) (i+1,d++[jT e w0 w1 (bOf c e) z]) ⟨hgo,by rw[Al,hdl];rfl,htk⟩ (Ab hgo (Ad _)) ?_
              simp only[Al,Ar,dP,bZ,bS,jT,hse]
              refine aY [4] (by simp) ?_ ?_<;>simp[-map_map,upd,aT,Γ0,aF,aG,iW]
           ·have hse:subL e w0 w1 (bOf c e) z=[]:=by rw[hs2 hze',hzn];rfl
            have hzeq:((z.id==e):Bool)=false:=by simpa using hze'
            have hMk:=rW (l:=[]) (e:=F) (Bnd.nil _) (fun f hf=>by cases hf) (by simp) (by omega)
            simp[-map_map,-mapM_map,↓KW,aF,aG,xC,hzeq,hw,aE,aB,aC]
            refine aU (fun j:Nat=>j≤z.b.length) (fun j=>StL [(0,.d (aF c)),(1,.d (.i .i64 e)),(5,.fp [.i .i64 w0,.i .i64 w1]),(15,.d (aG r)),(19,.own 1 0 d.length 3),(21,.ptr 2 0),(22,.d (aG ([]:Ch))),(104,.d (aF c)),(105,.d (.i .i64 c.length)),(106,.d (.i .i64 (i:Int))),(119,.d (aG z.b)),(120,.d (.i .i64 z.b.length)),(121,.d (.i .i64 (j:Int)))] none [.cells 43 ((flt bJ d).map .d),.cells 43 [.d (.i .i64 z.id),.d (.i .i64 z.dim),.d (aG z.b)]]) (fun j=>z.b.length-j) 0 (An _) ?_ ?_
            ·refine aY [1,2] (by simp) ?_ ?_<;>simp[-map_map,upd,aT,Γ0,aF,aG,iW,xC,hzeq]
            ·intro j hj
             by_cases hgo2:j<z.b.length
             ·have q2:(j:Int)<z.b.length:=by omega
              have hf:z.b[j]? = some z.b[j]:=Aa hgo2
              have hw2:Ah.wrap ((j:Int)+1)=(j:Int)+1:=aR (by omega) (by omega)
              have hfn:=hno _ (Ak hgo2)
              refine(show ∃ f,z.b[j]=f from⟨_,rfl⟩).elim fun f hfe=>?_
              rw[hfe]at hf hfn
              have hfn':((f.1==e):Bool)=false:=by simpa using hfn
              have hef:dK f=[.i .i64 f.1,.b (decide (f.2<0)),aN (aX f.2.natAbs)]:=rfl
              simp[-map_map,-mapM_map,↓KW,aF,aG,q2,hf,hef,hfn',hw2,aK,aD,aM,aE,aB,aC]
              refine aJ (j+1) hgo2 (Ab hgo2 (Ad _)) (aY [1,2] (by simp) ?_ ?_)<;>simp[-map_map,upd,aT,Γ0,aF,aG,iW]
             ·have q2:¬(j:Int)<z.b.length:=by omega
              simp[-map_map,-mapM_map,↓KW,aF,aG,q2,aE,aB,aC]
              refine aA (ds:=[aG ([]:Ch)]) (by rfl) hMk ?_
              simp[-map_map,-mapM_map,↓KW,aF,aG,hw,hm1,hbb,hcd,had,aW,aQ,bG,aE,aB,aC,hse]
              refine aJ (τ:=Nat×List Cl) (i+1,d++[jT e w0 w1 (bOf c e) z]) ⟨hgo,by rw[Al,hdl];rfl,htk⟩ (Ab hgo (Ad _)) ?_
              simp only[Al,Ar,dP,bZ,bS,jT,hse]
              refine aY [4] (by simp) ?_ ?_<;>simp[-map_map,upd,aT,Γ0,aF,aG,iW]
          ·have hcl1:=bUg hzn (by omega)
           refine iZ [aG z.b] (fun m=>.own m 0 z.b.length 3) (fun _=>[.cells 76 ((flt dK z.b).map .d)]) (by simp) (by simp) (by simp) (by rfl) (by rfl) hcl1 ?_
           by_cases hze':z.id=e
           ·have hno:∀ f∈z.b,f.1≠e:=fun f hf=>hne f (by rw[hzf hze'];exact hf)
            have hse:=hs1 hze'
            have hzeq:((z.id==e):Bool)=true:=by simpa using hze'
            have hMk:=rW (l:=r) (e:=F) hrb hrk (by omega) (by omega)
            simp[-map_map,-mapM_map,↓KW,aF,aG,aDd,hzeq,hw,aE,aB,aC]
            refine aU (fun j:Nat=>j≤z.b.length) (fun j=>StL [(0,.d (aF c)),(1,.d (.i .i64 e)),(5,.fp [.i .i64 w0,.i .i64 w1]),(15,.d (aG r)),(19,.own 1 0 d.length 3),(21,.ptr 2 0),(22,.d (aG r)),(104,.d (aF c)),(105,.d (.i .i64 c.length)),(106,.d (.i .i64 (i:Int))),(119,.d (aG z.b)),(120,.d (.i .i64 z.b.length)),(121,.d (.i .i64 (j:Int)))] none [.cells 43 ((flt bJ d).map .d),.cells 43 [.d (.i .i64 z.id),.d (.i .i64 z.dim),.d (aG z.b)]]) (fun j=>z.b.length-j) 0 (An _) ?_ ?_
            ·refine aY [1,2] (by simp) ?_ ?_<;>simp[-map_map,upd,aT,Γ0,aF,aG,iW,aDd,hzeq]
            ·intro j hj
             by_cases hgo2:j<z.b.length
             ·have q2:(j:Int)<z.b.length:=by omega
              have hf:z.b[j]? = some z.b[j]:=Aa hgo2
              have hw2:Ah.wrap ((j:Int)+1)=(j:Int)+1:=aR (by omega) (by omega)
              have hfn:=hno _ (Ak hgo2)
              refine(show ∃ f,z.b[j]=f from⟨_,rfl⟩).elim fun f hfe=>?_
              rw[hfe]at hf hfn
              have hfn':((f.1==e):Bool)=false:=by simpa using hfn
              have hef:dK f=[.i .i64 f.1,.b (decide (f.2<0)),aN (aX f.2.natAbs)]:=rfl
              simp[-map_map,-mapM_map,↓KW,aF,aG,q2,hf,hef,hfn',hw2,aK,aD,aM,aE,aB,aC]
              refine aJ (j+1) hgo2 (Ab hgo2 (Ad _)) (aY [1,2] (by simp) ?_ ?_)<;>simp[-map_map,upd,aT,Γ0,aF,aG,iW]
             ·have q2:¬(j:Int)<z.b.length:=by omega
              simp[-map_map,-mapM_map,↓KW,aF,aG,q2,aE,aB,aC]
              refine aA (ds:=[aG r]) (by rfl) hMk ?_
              simp[-map_map,-mapM_map,↓KW,aF,aG,hw,hm1,hbb,hcd,had,aW,aQ,bG,aE,aB,aC,hse]
              refine aJ (τ:=Nat×List Cl) (i+1,d++[jT e w0 w1 (bOf c e) z]) ⟨hgo,by rw[Al,hdl];rfl,htk⟩ (Ab hgo (Ad _)) ?_
              simp only[Al,Ar,dP,bZ,bS,jT,hse]
              refine aY [4] (by simp) ?_ ?_<;>simp[-map_map,upd,aT,Γ0,aF,aG,iW]
           ·have hse:=hs2 hze'
            have hzeq:((z.id==e):Bool)=false:=by simpa using hze'
            simp[-map_map,-mapM_map,↓KW,aF,aG,aDd,hzeq,hw,aE,aB,aC]
            refine aU (fun y:Nat×Ch=>y.1≤z.b.length∧y.2.length≤z.b.length+y.1∧z.b++adF e w1 (z.b.take y.1)=y.2) (fun y=>StL [(0,.d (aF c)),(1,.d (.i .i64 e)),(5,.fp [.i .i64 w0,.i .i64 w1]),(15,.d (aG r)),(19,.own 1 0 d.length 3),(21,.ptr 2 0),(22,.own 3 0 y.2.length 3),(104,.d (aF c)),(105,.d (.i .i64 c.length)),(106,.d (.i .i64 (i:Int))),(119,.d (aG z.b)),(120,.d (.i .i64 z.b.length)),(121,.d (.i .i64 (y.1:Int)))] none [.cells 43 ((flt bJ d).map .d),.cells 43 [.d (.i .i64 z.id),.d (.i .i64 z.dim),.d (aG z.b)],.cells 76 ((flt dK y.2).map .d)]) (fun y=>z.b.length-y.1) (0,z.b) ⟨An _,by simp,by simp[adF]⟩ ?_ ?_
            ·refine aY [1,2,3] (by simp) ?_ ?_<;>simp[-map_map,upd,aT,Γ0,aF,aG,iW]
            ·rintro⟨j,l⟩ ⟨hj,hll,hl⟩
             simp only at hj hll hl ⊢
             by_cases hgo2:j<z.b.length
             ·have q2:(j:Int)<z.b.length:=by omega
              have hf:z.b[j]? = some z.b[j]:=Aa hgo2
              have hw2:Ah.wrap ((j:Int)+1)=(j:Int)+1:=aR (by omega) (by omega)
              have htk2:=bIy hgo2 e w1
              refine(show ∃ f,z.b[j]=f from⟨_,rfl⟩).elim fun f hfe=>?_
              rw[hfe]at hf htk2
              have hef:dK f=[.i .i64 f.1,.b (decide (f.2<0)),aN (aX f.2.natAbs)]:=rfl
              by_cases h5:f.1=e
              ·rw[Ag h5]at htk2
               have q3:(((e:Int)==(e:Int)):Bool)=true:=by simp
               have hb2:=cC (n:=l.length) (by omega)
               have hc2:=cB cG l
               have ha2:=dZ iJ l
               simp[-map_map,-mapM_map,↓KW,aF,aG,q2,hf,hef,h5,q3,hw2,hm1,hb2,hc2,ha2,aW,aK,aD,aM,aE,aB,aC]
               refine aJ (τ:=Nat×Ch) (j+1,l++[(w1,f.2)]) ⟨hgo2,by simp only[Al,Ar];omega,by rw[htk2,←AZ,hl]⟩ (Ab hgo2 (Ad _)) ?_
               simp only[Al,Ar,dP,bZ,bB]
               refine aY [1,2,6] (by simp) ?_ ?_<;>simp[-map_map,upd,aT,Γ0,aF,aG,iW]
              ·rw[Ae h5,Bd]at htk2
               have h5':((f.1==e):Bool)=false:=by simpa using h5
               simp[-map_map,-mapM_map,↓KW,aF,aG,q2,hf,hef,h5,h5',hw2,aK,aD,aM,aE,aB,aC]
               refine aJ (τ:=Nat×Ch) (j+1,l) ⟨hgo2,by simp only;omega,by rw[htk2,hl]⟩ (Ab hgo2 (Ad _)) (aY [1,2,3] (by simp) ?_ ?_)<;>simp[-map_map,upd,aT,Γ0,aF,aG,iW]
             ·have q2:¬(j:Int)<z.b.length:=by omega
              rw[Ai (by omega)]at hl
              rw[hl]at hse
              have hlb:Bnd (2^F) l:=by
               rw[←hl]
               exact hzb.app fun f hf=>by
                unfold adF at hf
                obtain⟨g,hg,rfl⟩:=AE.1 hf
                exact hzb g (Bk.1 hg).1
              have hlk:Keys l:=by
               rw[←hl];intro f hf
               rcases A9.1 hf with hf|hf
               ·exact hzk f hf
               ·unfold adF at hf
                obtain⟨g,hg,rfl⟩:=AE.1 hf
                exact hi1
              have hMk:=rW (l:=l) (e:=F) hlb hlk (by omega) (by omega)
              have e4:=eR cG (rfl:l.length=l.length)
              have e5:=eF (by decide) cG (rfl:l.length=l.length)
              have e6:=cB cG l
              simp[-map_map,-mapM_map,↓KW,aF,aG,q2,aE,aB,aC]
              refine aA (ds:=[aG l]) (by simp[-map_map,-mapM_map,aG,upd,e4,e5,e6]) hMk ?_
              simp[-map_map,-mapM_map,↓KW,aF,aG,hw,hm1,hbb,hcd,had,e4,e5,e6,aW,aQ,bG,aE,aB,aC]
              refine aJ (τ:=Nat×List Cl) (i+1,d++[jT e w0 w1 (bOf c e) z]) ⟨hgo,by rw[Al,hdl];rfl,htk⟩ (Ab hgo (Ad _)) ?_
              simp only[Al,Ar,dP,bZ,bS,jT,hse]
              refine aY [5] (by simp) ?_ ?_<;>simp[-map_map,upd,aT,Γ0,aF,aG,iW]
         ·have q1:¬(i:Int)<c.length:=by omega
          rw[Ai (by omega),←hUu]at hd
          have hsl:=aKy c e w0 w1
          have hul:=bAz c e w0 w1
          rw[hd]at hul
          have hSo:=Tryz.sortO (tB c e w0 w1) (aKz hc hk0 hk1 h2) (by rw[hd,hul];omega)
          rw[hd]at hSo
          have hcd:=cB cS d
          have hcs:=cB cS (mU c e w0 w1)
          refine(show ∃ S,mU c e w0 w1=S from⟨_,rfl⟩).elim fun S hSe=>?_
          rw[hSe]at hSo hsl hcs
          rw[hSe]
          have hno1:∀ l:List D,pG (.cells 43 (l.map .d))=true:=fun l=>by
           unfold pG;rw[AO];intro x hx
           obtain⟨y,_,rfl⟩:=AE.1 hx;rfl
          have hSg0:=wI e
          have hSg1:=wI w1
          have va:Val [(e,(1:Int))]:=⟨DN _ _,fun y hy=>by rw[AP.1 hy];simp⟩
          have hAd:=aZr [(e,1)] [(w1,1)] 1 1 1 1 (Bnd.one (Az 1)) (Bnd.one (Az 1)) (Az 1) (mM (e:=1) (by simp) (by omega)) (mM (e:=0) (by decide) (by omega)) (mM (e:=0) (by decide) (by omega)) (mM (e:=0) (by decide) (by omega)) (mM (e:=0) (by decide) (by omega)) (fun f hf=>by rw[AP.1 hf];exact hie) (fun f hf=>by rw[AP.1 hf];exact hi1) (by simp)
          rw[add_eq va]at hAd
          refine(show ∃ B,bV [(e,1)] (mulR 1 [(w1,1)])=B from⟨_,rfl⟩).elim fun B hB=>?_
          rw[hB]at hAd
          rw[hB]
          have hMp:=lQ c [(e,B)] (kG [(e,B)]) rfl (aGp _) (by omega)
          have e1:=eR cS (hsl.trans hul.symm)
          have e2:=eF (by decide) cS (hsl.trans hul.symm)
          rw[hsl,←hul]at hcs
          have hO1:=uZ
          simp[-map_map,-mapM_map,↓KW,aF,q1]
          refine aMs (by simp) ?_
          refine zL (id:=1) (h:=.own 0 0 d.length 3) (by simp[upd,nZ]) (hno1 _) (by rfl) (by rfl) hSo ?_ (hno1 _) ?_
          ·show(BR _ _).length=(BR _ _).length
           rw[AN,AN,hcd,hcs]
          ·simp[-map_map,-mapM_map,↓KW,aF]
           refine aA (ds:=[.i .i64 e]) (by rfl) hSg0 ?_
           simp[-map_map,-mapM_map,↓KW,aF,aQ,bG,aE,aB,aC]
           refine aA (ds:=[.i .i64 w1]) (by rfl) hSg1 ?_
           simp[-map_map,-mapM_map,↓KW,aF,aQ,bG,aE,aB,aC]
           refine aA (ds:=[.i .i64 1]) (by rfl) hO1 ?_
           simp[-map_map,-mapM_map,↓KW,aF,bF,bE,bC,aQ,bG,aE,aB,aC,aK,aD,aM]
           refine aA (ds:=[aG [(e,1)],aG [(w1,1)],encZ 1]) (by rfl) hAd ?_
           simp[-map_map,-mapM_map,↓KW,aF,cD,cJ,dA,aQ,bG,aE,aB,aC]
           refine aA (ds:=[aF c,kG [(e,B)]]) (by rfl) hMp ?_
           simp[-map_map,-mapM_map,↓KW,aF,cD,cJ,dA,e1,e2,hcs,aQ,bG,aE,aB,aC,eE,dB,gV,cN,eG,h1,h2,h3']
end Go.Am
end

section
set_option linter.unusedVariables false
set_option linter.unusedSimpArgs false
open Go Go.Am Go.Proofs
namespace Go.Am
end Go.Am
end

section
set_option linter.unusedVariables false
set_option linter.unusedSimpArgs false
open Go Go.Am Go.Proofs
namespace Go.Am
end Go.Am
end

section
set_option linter.unusedVariables false
set_option linter.unusedSimpArgs false
open Go Go.Am Go.Proofs
namespace Go.Am
end Go.Am
end

section
set_option linter.unusedVariables false
set_option linter.unusedSimpArgs false
open Go Go.Am Go.Proofs
namespace Go.Am
theorem MdX.keys{c:List Cl}(h:MdX c):∀ y∈c,Keys y.b:=bNm h.v fun y hy=>by have:=h.ids y hy;omega
end Go.Am
end

section
set_option linter.unusedVariables false
set_option linter.unusedSimpArgs false
open Go Go.Am Go.Proofs
namespace Go.Am
theorem bKq{c:List Cl}{F:Nat}(h:CxV c)(hl:c.length≤11)(hz:SzX F c)(e w0 w1:Int):SzX (14+F) (mU c e w0 w1):=by
 have hbl:=h.bLenOf e
 have hbb:Bnd (2^F) (bOf c e):=oR hz.bb e
 have hred:∀ l:Ch,l.length≤24→Bnd (2^F) l→(bV [] l).length≤100∧Bnd (2^(14+F)) (bV [] l):=fun l h1 h2=>by
  have k1:=iL [] l
  have k2:=gQ l [] (Bnd.nil 0) h2
  simp only[A8,Bf]at k1 k2
  exact⟨by omega,k2.mono (lP (Ap h1 (by decide)))⟩
 have hp:=hred (lM w0 (bOf c e)) (by have:=aBr (bOf c e);unfold lM;rw[AB];omega) (bLx rfl fun f hf=>hbb f (aUp hf))
 have hy:∀ y∈c,(bV [] (subL e w0 w1 (bOf c e) y)).length≤100∧Bnd (2^(14+F)) (bV [] (subL e w0 w1 (bOf c e) y)):=fun y hy=>by
  have k1:=h.bLen hy
  unfold subL
  split
  ·exact hred _ (by have:=aCb (bOf c e);unfold mT;rw[AB];omega) (bLx rfl fun f hf=>hbb f (aUq hf))
  ·refine hred _ (by have:=bPy e w1 y.b;rw[Al];omega) ((hz.bb y hy).app fun f hf=>?_)
   unfold adF at hf
   obtain⟨g,hg,rfl⟩:=AE.1 hf
   exact hz.bb y hy g (Bk.1 hg).1
 refine⟨by rw[aKy];omega,fun z hz'=>?_,fun z hz'=>?_⟩
 ·rcases gL.1 hz' with rfl|rfl|⟨y,hy',rfl⟩
  ·exact An _
  ·exact hp.1
  ·exact(hy y hy').1
 ·rcases gL.1 hz' with rfl|rfl|⟨y,hy',rfl⟩
  ·exact Bnd.nil _
  ·exact hp.2
  ·exact(hy y hy').2
theorem bKo{c:List Cl}(hl:c.length≤100)(e w1:Int):SzM 2 (dO c [(e,rH e w1)]):=by
 have hB:(rH e w1).length≤100∧Bnd (2^2) (rH e w1)∧Val (rH e w1):=by
  unfold rH
  have k1:=iL [(e,1)] (mulR 1 [(w1,1)])
  have k2:=gQ (M:=1) (K:=1) (mulR 1 [(w1,1)]) [(e,1)] (Bnd.one (Az 1)) (Bnd.one (Az 1))
  simp[mulR]at k1 k2
  exact⟨by simp only[mulR,AR,Di];simp at k1 ⊢;omega,by simp only[mulR,AR,Di];exact k2.mono (by decide),(cO _ _ (vY e)).1⟩
 have hp:∀ p∈dO c [(e,rH e w1)],p.2=rH e w1∨∃ n,p.2=[(n,1)]:=fun p hp=>by
  obtain⟨y,_,rfl⟩:=AE.1 hp
  simp only[aCq]
  split
  ·exact .inl rfl
  ·exact .inr ⟨_,rfl⟩
 refine⟨by rw[bEc];exact hl,fun p h1=>?_,fun p h1=>?_,fun p h1=>?_⟩
 ·rcases hp p h1 with e|⟨n,e⟩<;>rw[e]
  ·exact hB.1
  ·simp
 ·rcases hp p h1 with e|⟨n,e⟩<;>rw[e]
  ·exact hB.2.1
  ·exact Bnd.one (by show(1:Int).natAbs≤4;decide)
 ·rcases hp p h1 with e|⟨n,e⟩<;>rw[e]
  ·exact hB.2.2
  ·exact vY n
end Go.Am
end

section
set_option linter.unusedVariables false
set_option linter.unusedSimpArgs false
open List (map_map mapM_map)
open Go Go.Am Go.Proofs
namespace Go.Am
abbrev Pc:=List Cl×List (Int×Ch)
def pcD(r:Pc):List D:=[aF r.1,aV r.2,.i .i64 0]
structure bQc(c:List Cl)(r:Pc):Prop where
 v:Spec Tryz.prog 9 [aF r.1] (.b true)
 m:Spec Tryz.prog 10 [aF c,aF r.1,aV r.2] (.b true)
 e:iE r.1=iE c
 l:r.1.length≤100
def shP(c:List Cl):Pc:=uE c.length c (dO c [])
def coP(c:List Cl)(a b:Int):Pc:=(jE c a b,dO c (qS c a b))
def suP(c:List Cl)(e:Int):Pc:=(mU c e (-1) 99,dO c [(e,rH e 99)])
theorem bSg{c:List Cl}(hc:MdX c):Spec Tryz.prog 23 [aF c] (.tp [aF (shP c).1,aV (shP c).2])∧bQc c (shP c):=by
 obtain⟨F,hF,hz⟩:=hc.sz
 have hP:=bEb hc hz (by omega)
 obtain⟨k,hI,hE⟩:=aTm (ShI.one hc hz) (Az c.length)
 have hk:=hI.len
 have hlen:=hc.len
 have hjb:k*(F+40)≤5*(F+40):=AX _ (by omega)
 exact⟨hP,vU hI.v hI.sz (by omega),oH hI.cm hz hI.sz hI.v.val hI.szm (by omega) (by omega),aVm (ShI.one hc hz),hI.sz.len⟩
theorem bUe{c:List Cl}(hc:MdX c){a b:Int}(hf:(a,b)∈fU c):Spec Tryz.prog 16 [aF c,.i .i64 a,.i .i64 b] (eG ((coP c a b).1,(coP c a b).2,0))∧bQc c (coP c a b):=by
 obtain⟨F,hF,hz⟩:=hc.sz
 obtain⟨z,xa,xb,t⟩:=xL hc.v hf
 have hP:=uX a b hc.v.inc hz hc.keys (by omega)
 rw[aVs hc.v t hf]at hP
 have hv:=t.valid hc.v
 have hs:=aVt hz a b
 exact⟨hP,vU hv hs (by omega),oH (t.comm hc.v) hz hs hv.val (aJj t hc.v hz) (by omega) (by omega),aVn hc.v t,hs.len⟩
theorem bRt{c:List Cl}(hc:MdX c){e:Int}(he:e∈bR c 1):Spec Tryz.prog 18 [aF c,.i .i64 e,.ag [.i .i64 (-1),.i .i64 99]] (eG ((suP c e).1,(suP c e).2,0))∧bQc c (suP c e):=by
 obtain⟨F,hF,hz⟩:=hc.sz
 have hlen:=hc.len
 obtain⟨x,hx,hd,hi⟩:=gA.1 he
 have hxi:=hc.ids x hx
 have s:jR c e (-1) 99:=⟨⟨x,hx,hi,hd⟩,fun y hy=>by have:=hc.ids y hy;omega,fun y hy=>by have:=hc.ids y hy;omega,by decide⟩
 have hno:∀ f∈bOf c e,f.1≠e:=fun f hf hfe=>by
  rw[←hi,hc.v.bOf hx]at hf
  obtain⟨y,hy,e1,e2⟩:=hc.v.face x hx f hf
  have:y=x:=Bg ((hc.v.inc.find hy).symm.trans (by rw[show y.id=x.id by omega];exact hc.v.inc.find hx))
  rw[this]at e2;omega
 have hP:=aNf e (-1) 99 hc.v.inc hz hc.keys (by decide) (by decide) (by simp only[inr,AH];omega) hno (by omega)
 have hX:bKn c e (-1) 99=(mU c e (-1) 99,dO c [(e,rH e 99)],0):=by
  unfold bKn
  have h1:bW c e=some x:=by rw[←hi];exact hc.v.inc.find hx
  have h2:dOf c e=1:=by unfold dOf;rw[h1];exact hd
  rw[h1,h2,aUx s.n0,aUx s.n1,Ae (by simp),Ae (by simp),Ae (by simp),Ae (by omega)];rfl
 rw[hX]at hP
 have hv:=s.valid hc.v
 have hs:=bKq hc.v hlen hz e (-1) 99
 exact⟨hP,vU hv hs (by omega),oH (s.comm hc.v) hz hs hv.val (bKo (by omega) e 99) (by omega) (by omega),bOp c e (-1) 99,hs.len⟩
def vE(L:List Pc):D:=.sl (L.map pcD)
set_option maxHeartbeats 4000000 in
set_option maxRecDepth 10000 in
theorem aYq{c:List Cl}{at_:Int}(hc:MdX c)(ha:0≤at_∧at_≤255):∃ L,Spec Tryz.prog 6 [aF c,.i .u8 at_] (.tp [vE L,.b true])∧L.length≤3∧∀ r∈L,bQc c r:=by
 obtain⟨F,hF,hz⟩:=hc.sz
 have hlen:=hc.len
 have hFr:=bLq hz (by omega)
 rw[bLg hc.v]at hFr
 have hCe:=rQ c 1 (by omega)
 obtain⟨s1,p1⟩:=bSg hc
 have hco:=fun a b=>bUe (a:=a) (b:=b) hc
 have hsu:=fun e=>bRt (e:=e) hc
 have hfl:=aGu hz
 have hil:=fA c 1
 have w1:Ah.wrap 1=1:=rfl
 have w2:Ah.wrap 2=2:=rfl
 have w3:Ah.wrap 3=3:=rfl
 have w4:Ah.wrap at_=at_:=aR (by omega) (by omega)
 obtain⟨v1,c1,_,l1⟩:=id p1
 generalize shP c=r1 at *
 obtain⟨d1,m1⟩:=r1
 simp only at s1 v1 c1
 generalize fU c=fr at *
 generalize bR c 1=es at *
 clear hz hF hc
 have key:∀{n:Nat},0<n→∃ k:Nat,k<n∧at_.tmod (n:Int)=(k:Int):=fun{n} hn=>by
  have h1:=Dy at_ (b:=(n:Int)) (by omega)
  have h2:=Fa at_ (b:=(n:Int)) (by omega)
  exact⟨(at_%n).toNat,by omega,by rw[Cy ha.1];omega⟩
 have hfr:fr=[]∨∃(k:Nat) (a b:Int),¬fr=[]∧0<fr.length∧k<fr.length∧at_.tmod (fr.length:Int)=(k:Int)∧fr[k]? = some (a,b)∧(∀ h:k<fr.length,fr[k]'h=(a,b))∧(a,b)∈fr:=by
  by_cases h:fr=[]
  ·exact .inl h
  ·obtain⟨k,k1,k2⟩:=key (DF.2 h)
   exact .inr ⟨k,fr[k].1,fr[k].2,h,by omega,k1,k2,Aa k1,fun _=>rfl,Ak k1⟩
 have hes:es=[]∨∃(k:Nat) (e:Int),¬es=[]∧0<es.length∧k<es.length∧at_.tmod (es.length:Int)=(k:Int)∧es[k]? = some e∧(∀ h:k<es.length,es[k]'h=e)∧e∈es:=by
  by_cases h:es=[]
  ·exact .inl h
  ·obtain⟨k,k1,k2⟩:=key (DF.2 h)
   exact .inr ⟨k,es[k],h,by omega,k1,k2,Aa k1,fun _=>rfl,Ak k1⟩
 rcases hfr with rfl|⟨k,a,b,f0,f6,f1,f2,f3,f4,f5⟩
 ·rcases hes with rfl|⟨j,e,e0,e6,e1,e2,e3,e4,e5⟩
  ·refine⟨[(d1,m1)],?_,by simp,fun r hr=>by rw[AP.1 hr];exact p1⟩
   have hE:vE [(d1,m1)]=.sl [[aF d1,aV m1,.i .i64 0]]:=rfl
   rw[hE]
   refine aZ (N:=126) aI Tryz.func6 rfl rfl rfl (by kernel_rfl) (by kernel_rfl) (by simp) ?_
   simp[-map_map,-mapM_map,↓KW,aF]
   refine aA (ds:=[aF c]) (by rfl) hFr ?_
   simp[-map_map,-mapM_map,↓KW,aF,cU]
   refine aA (ds:=[aF c,.i .i64 1]) (by rfl) hCe ?_
   simp[-map_map,-mapM_map,↓KW,aF,cU,bL]
   refine aA (ds:=[aF c]) (by rfl) s1 ?_
   simp[-map_map,-mapM_map,↓KW,aF,aV,cU,bL,lD,aW,w1]
   refine wL 2 ?_
   simp[-map_map,-mapM_map,↓KW,↓cT,aF,aV,w1,w2,w3]
   refine aA (ds:=[aF d1]) (by rfl) v1 ?_
   simp[-map_map,-mapM_map,↓KW,aF,aV,w1,w2,w3]
   refine aA (ds:=[aF c,aF d1,aV m1]) (by rfl) c1 ?_
   simp[-map_map,-mapM_map,↓KW,↓cT,aF,aV,w1,w2,w3,fV,jY]
  ·obtain⟨s3,p3⟩:=hsu e e5
   obtain⟨v3,c3,_,l3⟩:=id p3
   generalize suP c e=r3 at *
   obtain⟨d3,m3⟩:=r3
   simp only at s3 v3 c3
   refine⟨[(d1,m1),(d3,m3)],?_,by simp,fun r hr=>by
    rcases AD.1 hr with rfl|hr
    ·exact p1
    ·rw[AP.1 hr];exact p3⟩
   have hE:vE [(d1,m1),(d3,m3)]=.sl [[aF d1,aV m1,.i .i64 0],[aF d3,aV m3,.i .i64 0]]:=rfl
   rw[hE]
   refine aZ (N:=126) aI Tryz.func6 rfl rfl rfl (by kernel_rfl) (by kernel_rfl) (by simp) ?_
   simp[-map_map,-mapM_map,↓KW,aF]
   refine aA (ds:=[aF c]) (by rfl) hFr ?_
   simp[-map_map,-mapM_map,↓KW,aF,cU]
   refine aA (ds:=[aF c,.i .i64 1]) (by rfl) hCe ?_
   simp[-map_map,-mapM_map,↓KW,aF,cU,bL]
   refine aA (ds:=[aF c]) (by rfl) s1 ?_
   simp[-map_map,-mapM_map,↓KW,aF,aV,cU,bL,lD,aW,w1,w4,e0,e6,e1,e2,e3,e4]
   refine aA (ds:=[aF c,.i .i64 e,.ag [.i .i64 (-1),.i .i64 99]]) (by rfl) s3 ?_
   simp[-map_map,-mapM_map,↓KW,eG,aF,aV,bL,cU,lD,aW,w1]
   refine wL 3 ?_
   simp[-map_map,-mapM_map,↓KW,↓cT,aF,aV,w1,w2,w3]
   refine aA (ds:=[aF d1]) (by rfl) v1 ?_
   simp[-map_map,-mapM_map,↓KW,aF,aV,w1,w2,w3]
   refine aA (ds:=[aF c,aF d1,aV m1]) (by rfl) c1 ?_
   simp[-map_map,-mapM_map,↓KW,↓cT,aF,aV,w1,w2,w3,fV,jY]
   refine aA (ds:=[aF d3]) (by rfl) v3 ?_
   simp[-map_map,-mapM_map,↓KW,aF,aV,w1,w2,w3]
   refine aA (ds:=[aF c,aF d3,aV m3]) (by rfl) c3 ?_
   simp[-map_map,-mapM_map,↓KW,↓cT,aF,aV,w1,w2,w3,fV,jY]
 ·obtain⟨s2,p2⟩:=hco a b f5
  obtain⟨v2,c2,_,l2⟩:=id p2
  generalize coP c a b=r2 at *
  obtain⟨d2,m2⟩:=r2
  simp only at s2 v2 c2
  rcases hes with rfl|⟨j,e,e0,e6,e1,e2,e3,e4,e5⟩
  ·refine⟨[(d1,m1),(d2,m2)],?_,by simp,fun r hr=>by
    rcases AD.1 hr with rfl|hr
    ·exact p1
    ·rw[AP.1 hr];exact p2⟩
   have hE:vE [(d1,m1),(d2,m2)]=.sl [[aF d1,aV m1,.i .i64 0],[aF d2,aV m2,.i .i64 0]]:=rfl
   rw[hE]
   refine aZ (N:=126) aI Tryz.func6 rfl rfl rfl (by kernel_rfl) (by kernel_rfl) (by simp) ?_
   simp[-map_map,-mapM_map,↓KW,aF]
   refine aA (ds:=[aF c]) (by rfl) hFr ?_
   simp[-map_map,-mapM_map,↓KW,aF,cU]
   refine aA (ds:=[aF c,.i .i64 1]) (by rfl) hCe ?_
   simp[-map_map,-mapM_map,↓KW,aF,cU,bL]
   refine aA (ds:=[aF c]) (by rfl) s1 ?_
   simp[-map_map,-mapM_map,↓KW,aF,aV,cU,bL,lD,aW,w1,w4,f0,f6,f1,f2,f3,f4]
   refine aA (ds:=[aF c,.i .i64 a,.i .i64 b]) (by rfl) s2 ?_
   simp[-map_map,-mapM_map,↓KW,eG,aF,aV,bL,cU,lD,aW,w1]
   refine wL 3 ?_
   simp[-map_map,-mapM_map,↓KW,↓cT,aF,aV,w1,w2,w3]
   refine aA (ds:=[aF d1]) (by rfl) v1 ?_
   simp[-map_map,-mapM_map,↓KW,aF,aV,w1,w2,w3]
   refine aA (ds:=[aF c,aF d1,aV m1]) (by rfl) c1 ?_
   simp[-map_map,-mapM_map,↓KW,↓cT,aF,aV,w1,w2,w3,fV,jY]
   refine aA (ds:=[aF d2]) (by rfl) v2 ?_
   simp[-map_map,-mapM_map,↓KW,aF,aV,w1,w2,w3]
   refine aA (ds:=[aF c,aF d2,aV m2]) (by rfl) c2 ?_
   simp[-map_map,-mapM_map,↓KW,↓cT,aF,aV,w1,w2,w3,fV,jY]
  ·obtain⟨s3,p3⟩:=hsu e e5
   obtain⟨v3,c3,_,l3⟩:=id p3
   generalize suP c e=r3 at *
   obtain⟨d3,m3⟩:=r3
   simp only at s3 v3 c3
   refine⟨[(d1,m1),(d2,m2),(d3,m3)],?_,by simp,fun r hr=>by
    rcases AD.1 hr with rfl|hr
    ·exact p1
    ·rcases AD.1 hr with rfl|hr
     ·exact p2
     ·rw[AP.1 hr];exact p3⟩
   have hE:vE [(d1,m1),(d2,m2),(d3,m3)]=.sl [[aF d1,aV m1,.i .i64 0],[aF d2,aV m2,.i .i64 0],[aF d3,aV m3,.i .i64 0]]:=rfl
   rw[hE]
   refine aZ (N:=126) aI Tryz.func6 rfl rfl rfl (by kernel_rfl) (by kernel_rfl) (by simp) ?_
   simp[-map_map,-mapM_map,↓KW,aF]
   refine aA (ds:=[aF c]) (by rfl) hFr ?_
   simp[-map_map,-mapM_map,↓KW,aF,cU]
   refine aA (ds:=[aF c,.i .i64 1]) (by rfl) hCe ?_
   simp[-map_map,-mapM_map,↓KW,aF,cU,bL]
   refine aA (ds:=[aF c]) (by rfl) s1 ?_
   simp[-map_map,-mapM_map,↓KW,aF,aV,cU,bL,lD,aW,w1,w4,f0,f6,f1,f2,f3,f4]
   refine aA (ds:=[aF c,.i .i64 a,.i .i64 b]) (by rfl) s2 ?_
   simp[-map_map,-mapM_map,↓KW,eG,aF,aV,bL,cU,lD,aW,w1,w4,e0,e6,e1,e2,e3,e4]
   refine aA (ds:=[aF c,.i .i64 e,.ag [.i .i64 (-1),.i .i64 99]]) (by rfl) s3 ?_
   simp[-map_map,-mapM_map,↓KW,eG,aF,aV,bL,cU,lD,aW,w1]
   refine wL 4 ?_
   simp[-map_map,-mapM_map,↓KW,↓cT,aF,aV,w1,w2,w3]
   refine aA (ds:=[aF d1]) (by rfl) v1 ?_
   simp[-map_map,-mapM_map,↓KW,aF,aV,w1,w2,w3]
   refine aA (ds:=[aF c,aF d1,aV m1]) (by rfl) c1 ?_
   simp[-map_map,-mapM_map,↓KW,↓cT,aF,aV,w1,w2,w3,fV,jY]
   refine aA (ds:=[aF d2]) (by rfl) v2 ?_
   simp[-map_map,-mapM_map,↓KW,aF,aV,w1,w2,w3]
   refine aA (ds:=[aF c,aF d2,aV m2]) (by rfl) c2 ?_
   simp[-map_map,-mapM_map,↓KW,↓cT,aF,aV,w1,w2,w3,fV,jY]
   refine aA (ds:=[aF d3]) (by rfl) v3 ?_
   simp[-map_map,-mapM_map,↓KW,aF,aV,w1,w2,w3]
   refine aA (ds:=[aF c,aF d3,aV m3]) (by rfl) c3 ?_
   simp[-map_map,-mapM_map,↓KW,↓cT,aF,aV,w1,w2,w3,fV,jY]
   rfl
end Go.Am
end

section
set_option linter.unusedVariables false
set_option linter.unusedSimpArgs false
open Go Go.Am Go.Proofs
namespace Go.Am
/-! Sizes of a complex of which two cells are one -/
theorem bLn{a b:Int}{l:Ch}{M:Nat}(hab:a≠b)(hl:Val l)(h:Bnd M l):Bnd (2*M) (bV [] (l.map (fL a b))):=by
 obtain⟨h1,h2⟩:=cO (l.map (fL a b)) [] Val.nil
 refine sJ h1 fun n=>?_
 rw[h2,gN,Ci,bHm hab,fS hl,fS hl]
 have g1:=tP h n
 have g2:=tP h b
 split
 ·exact An _
 ·split<;>omega
theorem aTs{a b:Int}{l:Ch}{e:Nat}(hab:a≠b)(hl:Val l)(h:Bnd (2^e) l):Bnd (2^(e+1)) (bV [] (l.map (fL a b))):=by
 rw[Nat.pow_succ,Nat.mul_comm];exact bLn hab hl h
theorem bNx(c:List Cl)(a b K:Int):(bR (kR c a b) K).length≤(bR c K).length:=by
 have e:∀ l:List Cl,(bR (l.map (pR a b)) K).length=(bR l K).length:=fun l=>by
  induction l with
  |nil=>rfl
  |cons x l ih =>
   unfold bR at ih ⊢
   rw[AR,BO,BO]
   have:(pR a b x).dim=x.dim:=rfl
   rw[this];split<;>simp_all
 unfold kR
 rw[e]
 unfold bR
 rw[AN,AN,←EV,←EV]
 exact(List.filter_sublist).countP_le
theorem bPv{c:List Cl}(hi:Inc c)(a b:Int){y:Ch}(hy:∀ f∈y,∃ z∈c,z.id=f.1):apX (dO c [(b,[(a,1)])]) y=bV [] (y.map (fL a b)):=by
 unfold apX
 rw[aJr hi (rn a b) (fun z _=>wX a b z.id) hy,vS]
/-! Cycles -/
theorem aIa:∀(n m:Nat),n≤m→tr n≤tr m:=fun n m h=>by
 induction m with
 |zero=>rw[show n=0 by omega];exact Az _
 |succ m ih =>
  by_cases e:n=m+1
  ·rw[e];exact Az _
  ·have:=ih (by omega);simp only[tr];omega
theorem tr7(R:Nat)(h:R≤7):tr R≤28:=aIa R 7 h
def eB(k:Int):Nat:=if k=0 then 9 else if k=1 then 1400 else if k=2 then 130000 else 5000000
structure CyM(c:List Cl)(k:Int)(cyc:List Ch)(E:Nat):Prop where
 spec:Spec Tryz.prog 38 [aF c,.i .i64 k] (gP cyc)
 len:cyc.length≤11
 all:∀ y∈cyc,(Val y∧Bnd (2^E) y∧(∀ f∈y,f.1∈bR c k))∧y.length≤16
 sz:E+7≤eB k
theorem bXe{c:List Cl}(hc:MdX c){k:Int}(hk:0≤k∧k≤3):(∀ x∈c,x.dim=k+1→Bnd (2^eB k) x.b)∧eD (k+1)+1≤eB k∧dbl (tr ((bR c (k+1)).length+1)) (eB k)<1099511627776∧(bR c (k+1)).length≤13:=by
 have hd:eD (k+1)+1≤eB k:=by
  have:k=0∨k=1∨k=2∨k=3:=by omega
  rcases this with rfl|rfl|rfl|rfl<;>decide
 refine⟨fun x hx e=>(hc.eb x hx).pw (by rw[e];omega),hd,?_,?_⟩
 ·have e3:(bR c 4).length=0:=by
   rw[Ey]
   refine DO.2 fun n hn=>?_
   obtain⟨x,hx,hdx,_⟩:=gA.1 hn
   have:=(hc.v.dim x hx).2;omega
  have tm:=aIa
  have:k=0∨k=1∨k=2∨k=3:=by omega
  rcases this with rfl|rfl|rfl|rfl
  ·have h1:=jD (e:=eB 0) (tm ((bR c (0+1)).length+1) 8 (by have:=hc.n1;show(bR c 1).length+1≤8;omega))
   have h2:=jQ (tr 8) (eB 0)
   rw[show 2^tr 8*(eB 0+4)=893353197568 from rfl]at h2
   omega
  ·have h1:=jD (e:=eB 1) (tm ((bR c (1+1)).length+1) 7 (by have:=hc.n2;show(bR c 2).length+1≤7;omega))
   have h2:=jQ (tr 7) (eB 1)
   rw[show 2^tr 7*(eB 1+4)=376883380224 from rfl]at h2
   omega
  ·have h1:=jD (e:=eB 2) (tm ((bR c (2+1)).length+1) 6 (by have:=hc.n3;show(bR c 3).length+1≤6;omega))
   have h2:=jQ (tr 6) (eB 2)
   rw[show 2^tr 6*(eB 2+4)=272638148608 from rfl]at h2
   omega
  ·have h1:=jD (e:=eB 3) (tm ((bR c (3+1)).length+1) 1 (by show(bR c 4).length+1≤1;omega))
   have h2:=jQ (tr 1) (eB 3)
   rw[show 2^tr 1*(eB 3+4)=10000008 from rfl]at h2
   omega
 ·have:=fA c (k+1);have:=hc.len;omega
theorem cAs{c:List Cl}(hc:MdX c){k:Int}(hk:0≤k∧k≤3):∃ cyc E,CyM c k cyc E:=by
 have hlen:=hc.len
 have hbl:∀ x∈c,x.b.length≤1000000:=fun x hx=>by
  obtain⟨F,_,hz⟩:=hc.sz
  have:=hz.bl x hx;omega
 have fin:∀(k:Int) (E:Nat) L,0≤k→k≤3→E+7≤eB k→eB k≤5000000→aHm (bR c k).length (bR c (k-1)).length E (mF c k) L→∃ cyc E,CyM c k cyc E:=fun k E L h1 h2 h3 h4 hL=>by
  have hC:=bGz hc.v hL
  have hil:=fA c k
  exact⟨_,E,aFs c k L (by omega) (by omega) hbl hL (by omega),by rw[AN];have:=hL.len;omega,fun y hy=>by
   obtain⟨⟨g1,g2,g3,_⟩,g5⟩:=hC y hy
   exact⟨⟨g1,g2,g3⟩,by omega⟩,h3⟩
 have:k=0∨k=1∨k=2∨k=3:=by omega
 rcases this with rfl|rfl|rfl|rfl
 ·have h0:(bR c (0-1)).length=0:=by
   rw[Ey]
   refine DO.2 fun n hn=>?_
   obtain⟨x,hx,hdx,_⟩:=gA.1 hn
   have:=(hc.v.dim x hx).1;omega
  have hs:=mZ c 0
  rw[h0]at hs
  have hl:=left_id hs (by have:=fA c 0;omega)
  exact fin 0 0 _ (by decide) (by decide) (by decide) (by decide) (by rw[h0];exact hl)
 ·have hb:Be 4 (mF c 1):=tN hc.v.inc fun x hx hdx=>by have:=hc.eb x hx;rw[hdx]at this;exact this
  have hn:=hc.n1
  have h1:=jD (e:=4) (tr7 (bR c 1).length hn)
  have h2:=jQ 28 4
  rw[show 2^28*(4+4)=2147483648 from rfl]at h2
  obtain⟨L,hL⟩:=wQ (mZ c 1) (by omega) (by have:=fA c (1-1);omega) hb (by omega)
  have h3:=aNy (b:=4) hn
  rw[show gG 7 4=649 from rfl]at h3
  exact fin 1 _ L (by decide) (by decide) (by show _≤1400;omega) (by decide) hL
 ·obtain⟨E2,hE2,hE3⟩:∃ E,E=eD 2∧E=1024:=⟨eD 2,rfl,rfl⟩
  have hb:Be E2 (mF c 2):=tN hc.v.inc fun x hx hdx=>by have:=hc.eb x hx;rw[hdx,←hE2]at this;exact this
  have hn:=hc.n2
  have h1:=jD (e:=E2) (tr6 (bR c 2).length hn)
  have h2:=jQ 21 E2
  rw[show 2^21*(E2+4)=2155872256 by rw[hE3]]at h2
  obtain⟨L,hL⟩:=wQ (mZ c 2) (by omega) (by have:=fA c (2-1);omega) hb (by omega)
  have h3:=aNy (b:=E2) hn
  rw[show gG 6 E2=64584 by rw[hE3];rfl]at h3
  exact fin 2 _ L (by decide) (by decide) (by show _≤130000;omega) (by decide) hL
 ·obtain⟨E2,hE2,hE3⟩:∃ E,E=eD 3∧E=65536:=⟨eD 3,rfl,rfl⟩
  have hb:Be E2 (mF c 3):=tN hc.v.inc fun x hx hdx=>by have:=hc.eb x hx;rw[hdx,←hE2]at this;exact this
  have hn:=hc.n3
  have h1:=jD (e:=E2) (tr5 (bR c 3).length hn)
  have h2:=jQ 15 E2
  rw[show 2^15*(E2+4)=2147614720 by rw[hE3]]at h2
  obtain⟨L,hL⟩:=wQ (mZ c 3) (by omega) (by have:=fA c (3-1);omega) hb (by omega)
  have h3:=aNy (b:=E2) hn
  rw[show gG 5 E2=2031652 by rw[hE3];rfl]at h3
  exact fin 3 _ L (by decide) (by decide) (by show _≤5000000;omega) (by decide) hL
structure CyY(c:List Cl)(k:Int)(y:Ch):Prop where
 val:Val y
 bnd:Bnd (2^(eB k-1)) y
 ins:In c k y
theorem cyY{c:List Cl}{k:Int}{cyc:List Ch}{E:Nat}(h:CyM c k cyc E)(xs:List Int){n:Nat}(hn:n≤cyc.length):CyY c k (gB cyc xs n):=by
 obtain⟨b1,b2,b3,_⟩:=aCs (c:=c) (xs:=xs) (S:=fun n=>n∈bR c k) (W:=fun _ _=>0) (fun y hy=>⟨(h.all y hy).1.1,(h.all y hy).1.2.1,(h.all y hy).1.2.2,fun n=>sR fun _ _=>rfl⟩) n hn
 refine⟨b1,b2.mono ?_,b3⟩
 have:=h.len
 have:=h.sz
 rw[mK]
 refine Ap (lP (l:=4) (x:=2+E) (Ap (show n≤11 by omega) (by decide))) (uJ (by omega))
/-! Two cells made one -/
structure bXq(c:List Cl)(a b:Int)(d:List Cl)(m:List (Int×Ch)):Prop where
 prg:Spec Tryz.prog 8 [aF c,.i .i64 a,.i .i64 b] (.tp [aF d,aV m,.i .i64 0])
 val:Spec Tryz.prog 9 [aF d] (.b true)
 com:Spec Tryz.prog 10 [aF c,aF d,aV m] (.b true)
 len:d.length≤100
 eul:∀ x∈c,x.id=a→iE d=iE c+(if x.dim.tmod 2=0 then -1 else 1)
 cyc:∀(k:Int) (y:Ch),0≤k∧k≤3→CyY c k y→∃ b1 b2 y',Spec Tryz.prog 13 [aV m,aG y] (aG y')∧Spec Tryz.prog 12 [aF c,aG y] (.b b1)∧Spec Tryz.prog 12 [aF d,aG y'] (.b b2)∧(b1=true→b2=true)
theorem bVp{c:List Cl}(hc:MdX c)(a b:Int)(ha:inr a=true):(∃ n:Int,n≠0∧Spec Tryz.prog 8 [aF c,.i .i64 a,.i .i64 b] (.tp [aF [],aV [],.i .i64 n]))∨∃ d m,bXq c a b d m:=by
 obtain⟨F,hF,hz⟩:=hc.sz
 have hlen:=hc.len
 have h2:=aQs (e:=F) a b hc.v.inc hz hc.keys ha (by omega)
 rcases aYy c hc.v a b with ⟨n,hn,e⟩|⟨t,e⟩
 ·rw[e]at h2;exact .inl ⟨n,hn,h2⟩
 ·rw[e]at h2
  refine .inr ⟨kR c a b,dO c [(b,[(a,1)])],?_⟩
  have hz2:=bNz hz a b
  have hM:=aNi (c:=c) (a:=a) (b:=b) (h:=1) (by omega)
  have hv:=t.valid hc.v
  have hcm:=t.comm hc.v
  have hdl:(kR c a b).length≤c.length:=by unfold kR;rw[AN];exact BV _ _
  refine⟨h2,vU hv hz2 (by omega),oH hcm hz hz2 hv.val hM (by omega) (by omega),hz2.len,fun x hx hxa=>?_,fun k y hk hy=>?_⟩
  ·obtain⟨z,hz',hzb⟩:=t.inb
   have h1:=bOq hc.v.inc (a:=a) hz' hzb
   have h3:=t.dim
   rw[←hxa,←hzb,aJh hc.v.inc hx,aJh hc.v.inc hz']at h3
   unfold sgD at h1
   rw[←h3]at h1
   split<;>rename_i h<;>simp only[h,BN,BB]at h1<;>omega
  ·have hkk:k+1-1=k:=by omega
   obtain⟨e1,e2,e3,e4⟩:=bXe hc hk
   have hbl:∀ x∈c,x.b.length≤100:=hz.bl
   have hyl:y.length≤c.length:=bHl hc.v.inc hy.val fun f hf=>by
    obtain⟨z,g1,g2,_,_⟩:=wZ hc.v (hy.ins f hf);exact⟨z,g2⟩
   obtain⟨b1,B1,I1⟩:=aFr (K:=k+1) (e:=eB k) hc.v (by omega) hbl (by omega) hy.val (by omega) (by rw[hkk];exact hy.ins) e1 (hy.bnd.pw (by omega)) (by omega) e3
   have hA:=aLo (g:=eB k-1) hM (by omega) hy.bnd (by unfold eB;split<;>(try split)<;>(try split)<;>omega)
   have iy:=bIr hcm hc.v.inc hy.ins
   have vy:=aJo (dO c [(b,[(a,1)])]) y
   have by':Bnd (2^eB k) (apX (dO c [(b,[(a,1)])]) y):=by
    rw[bPv hc.v.inc a b hy.ins.cell]
    have:=aTs t.ne hy.val hy.bnd
    rwa [show eB k-1+1=eB k by omega]at this
   have hyl2:=bHl hv.inc vy fun f hf=>by
    obtain⟨z,g1,g2,_,_⟩:=wZ hv (iy f hf);exact⟨z,g2⟩
   have hmono:=bNx c a b (k+1)
   obtain⟨b2,B2,I2⟩:=aFr (c:=kR c a b) (K:=k+1) (e:=eB k) hv (by omega) hz2.bl (by omega) vy (by omega) (by rw[hkk];exact iy) (fun x hx hxd=>by
    obtain⟨z,hz',_,rfl⟩:=jV.1 hx
    have hzd:z.dim=k+1:=hxd
    have:=hc.eb z hz'
    rw[hzd]at this
    exact(aTs t.ne (hc.v.val z hz') this).pw e2) by' (by omega) (Bt (jD (aIa _ _ (by omega))) e3)
   refine⟨b1,b2,_,hA,B1,B2,fun h=>I2.2 ?_⟩
   rcases I1.1 h with h|h
   ·left;rw[h];rfl
   ·right;exact aSe hcm hc.v h
end Go.Am
end

section
set_option linter.unusedVariables false
set_option linter.unusedSimpArgs false
namespace Go.Am
open RowKit (Below)
inductive Fx where
 |aw
 |rg (pre:List Nat) (t:Tr)
 |sq (f g:Fx)
 |bk (f:Fx)
 |lp (f:Fx)
def sQ(P:Program):Fx→Code→St→(Exit→St→Prop)→Prop
 |.aw,c,σ,Q=>AWP P c σ Q
 |.rg pre t,.region _ ops true,σ,Q=>∃ σ2,(OW P ops (opsL ops pre) σ [] fun σ1 con1=>OWT P ops t σ1 con1 fun σ' con=>WkR (fin σ' con) σ2)∧Q .normal σ2
 |.sq f g,.seq x y,σ,Q=>sQ P f x σ fun e σ'=>match e with|.normal=>sQ P g y σ' Q|e=>Q e σ'
 |.bk f,.block id c,σ,Q=>sQ P f c σ fun e σ'=>match e with|.exit id'=>if id'=id then Q .normal σ' else Q (.exit id') σ'|e=>Q e σ'
 |.lp f,.loop c,σ,Q=>∃(τ:Type) (S:τ→St) (m:τ→Nat) (x0:τ),WkR σ (S x0)∧∀ x,sQ P f c (S x) fun e σ'=>match e with|.normal=>∃ y,m y<m x∧WkR σ' (S y)|e=>Q e σ'
 |_,_,_,_=>False
def aQu(P:Program):Fx→Code→Bool
 |.aw,c=>eA P c
 |.rg pre t,.region _ ops true=>aHz P ops pre t
 |.sq f g,.seq x y=>aQu P f x&&aQu P g y
 |.bk f,.block _ c=>aQu P f c
 |.lp f,.loop c=>aQu P f c
 |_,_=>false
section
variable {P:Program} {G:Ctx} {N:Nat} {ds:List Deferred}
theorem aSs(hm:P.follows .mixedOrders=true)(hZ:∀ d,G.Z d=none):∀(f:Fx) (c:Code) (Q:Exit→St→Prop) (σ:St) (a:Act) (w:World),dM N c=true→aQu P f c=true→sQ P f c σ Q→SR G N ds σ a w →
  c.wp P (fun e a' w'=>∃ σ',Q e σ'∧SR G N ds σ' a' w') a w:=by
 intro f
 induction f with
 |aw=>intro c Q σ a w hd hl h hs;exact gS hm hZ c Q σ a w hd hl h hs
 |rg pre t =>
  intro c Q σ a w hd hl h hs
  cases c with
  |region id ops draw =>
   cases draw with
   |true =>
    obtain⟨σ2,h,hq⟩:=h
    refine zB (WpR.plain P) (Q:=fun σ'=>WkR σ' σ2) hm (fun i o d hi ho=>⟨oK hd i o d hi ho,hZ d⟩) hl hs h ?_
    intro σ' a' w' hw hs'
    exact⟨σ2,hq,oC hw hs'⟩
   |false=>exact h.elim
  |_=>exact h.elim
 |sq f g ihf ihg =>
  intro c Q σ a w hd hl h hs
  cases c with
  |seq x y =>
   simp only[dM,aQu,AI]at hd hl
   refine wp_seq (wp_mono (ihf x _ σ a w hd.1 hl.1 h hs) ?_)
   rintro e a' w' ⟨σ1,hq,hs'⟩
   cases e with
   |normal=>exact ihg y Q σ1 a' w' hd.2 hl.2 hq hs'
   |_=>exact⟨σ1,hq,hs'⟩
  |_=>exact h.elim
 |bk f ih =>
  intro c Q σ a w hd hl h hs
  cases c with
  |block id c =>
   refine(WpR.plain P).block (wp_mono (ih c _ σ a w hd hl h hs) ?_)
   rintro e a' w' ⟨σ',hq,hs'⟩
   cases e with
   |exit id' =>
    simp only[Exit.inBlock]at hq ⊢
    split at hq
    ·rename_i he;rw[Ag he];exact⟨σ',hq,hs'⟩
    ·rename_i he;rw[Ae he];exact⟨σ',hq,hs'⟩
   |_=>exact⟨σ',hq,hs'⟩
  |_=>exact h.elim
 |lp f ih =>
  intro c Q σ a w hd hl h hs
  cases c with
  |loop c =>
   obtain⟨τ,S,m,x0,hk,hround⟩:=h
   refine(WpR.plain P).loop (fun n a w=>∃ x,m x=n∧SR G N ds (S x) a w) ⟨m x0,x0,rfl,oC hk hs⟩ ?_
   rintro n a w ⟨x,rfl,hsx⟩
   refine wp_mono (ih c _ (S x) a w hd hl (hround x) hsx) ?_
   rintro e a' w' ⟨σ',hq,hs'⟩
   cases e with
   |normal =>
    obtain⟨y,hlt,hk⟩:=hq
    exact⟨m y,hlt,y,rfl,oC hk hs'⟩
   |_=>exact⟨σ',hq,hs'⟩
  |_=>exact h.elim
theorem bBi {f N:Nat} {fn:Func} {c:Code} {args:List D} {r:D} (l:Fx) (hm:P.follows .mixedOrders=true) (hf:P.funcs[f]? = some fn) (hb:fn.body=some c) (hname:(fn.name == "runtime.NumGoroutine")=false) (hN:fn.ntmps=N)
  (hd:dM N c=true) (hl':aQu P l c=true) (ha:args.length≤N) (h:sQ P l c (St0 args N) fun e σ=>(e=.normal∨e=.ret)∧mW P fn.results.toList σ=some r):Spec P f args r:=by
 intro A W vs hA hl hv
 have hn:¬ fn.name = "runtime.NumGoroutine" := by simpa using hname
 refine⟨fun w=>by simp[callFunc,hf,hn,hb],?_⟩
 refine calls_of_wp hf hb ?_
 subst hN
 refine wp_mono (aSs hm (fun _=>rfl) l c _ _ _ _ hd hl' h (SR0 hA hl hv ha)) ?_
 rintro e a w ⟨σ,⟨he,hr⟩,hs⟩
 obtain⟨v,hrun,hvd⟩:=iX hs hr
 obtain⟨_,_,F,ι,hR,_,_,_,hdf,_⟩:=hs
 have hend:a.defers=[]∧∃ v,(results fn a.tmps).run P w=.ok v w∧∃ v',Ending.returned v=.returned v'∧Below W.heap.size W w∧VD (fun b=>A b∨(W.heap.size≤b∧b<w.heap.size)) w r v':=by
  refine⟨hdf,v,hrun,v,rfl,⟨hR.kept.os,hR.kept.tape,hR.kept.output,hR.kept.size,fun k hk=>hR.kept.block k hk (fun h=>h)⟩,hvd.mono ?_⟩
  rintro b (h|h|h)
  ·exact .inl h
  ·exact h.elim
  ·exact .inr h
 rcases he with rfl|rfl<;>exact hend
end
theorem oT(P:Program)(c:Code)(σ:St)(Q:Exit→St→Prop):sQ P .aw c σ Q=AWP P c σ Q:=rfl
theorem oS(P:Program)(f g:Fx)(x y:Code)(σ:St)(Q:Exit→St→Prop):sQ P (.sq f g) (.seq x y) σ Q=sQ P f x σ fun e σ'=>match e with|.normal=>sQ P g y σ' Q|e=>Q e σ':=rfl
theorem aWb(P:Program)(f:Fx)(id:Nat)(c:Code)(σ:St)(Q:Exit→St→Prop):sQ P (.bk f) (.block id c) σ Q=sQ P f c σ fun e σ'=>match e with|.exit id'=>if id'=id then Q .normal σ' else Q (.exit id') σ'|e=>Q e σ':=rfl
def bRe(P:Program)(f:Fx)(c:Code)(σ:St)(Q:Exit→St→Prop)(_:Dm (c,Q)):Prop:=sQ P (.lp f) (.loop c) σ Q
theorem bPs(P:Program)(f:Fx)(c:Code)(σ:St)(Q:Exit→St→Prop):sQ P (.lp f) (.loop c) σ Q=bRe P f c σ Q .mk:=rfl
theorem aYm{P:Program}{f:Fx}{τ:Type}{c:Code}{σ:St}{Q:Exit→St→Prop}{d:Dm (c,Q)}(I:τ→Prop)(S:τ→St)(m:τ→Nat)(x0:τ)(hI:I x0)(h0:∃ ρ,Wk σ (S x0) ρ)
  (h:∀ x,I x→sQ P f c (S x) fun e σ'=>match e with|.normal=>Nxt I m S x σ' .mk|e=>Q e σ'):bRe P f c σ Q d:=by
 refine⟨{ x:τ // I x },fun x=>S x.1,fun x=>m x.1,⟨x0,hI⟩,.inr h0,fun x=>?_⟩
 refine cast (congrArg (sQ P f c (S x.1)) ?_) (h x.1 x.2)
 funext e σ'
 cases e with
 |normal=>exact propext ⟨fun⟨y,h1,h2,h3⟩=>⟨⟨y,h1⟩,h2,h3⟩,fun⟨y,h2,h3⟩=>⟨y.1,y.2,h2,h3⟩⟩
 |_=>rfl
def RgX(P:Program)(pre:List Nat)(t:Tr)(ops:Array Oper)(σ:St)(Q:St→Prop)(_:Dm (ops,Q)):Prop:=∃ σ2,(OW P ops (opsL ops pre) σ [] fun σ1 con1=>OWT P ops t σ1 con1 fun σ' con=>WkR (fin σ' con) σ2)∧Q σ2
theorem bPr(P:Program)(pre:List Nat)(t:Tr)(id:Nat)(ops:Array Oper)(σ:St)(Q:Exit→St→Prop):sQ P (.rg pre t) (.region id ops true) σ Q=RgX P pre t ops σ (Q .normal) .mk:=rfl
theorem aXe{P:Program}{pre:List Nat}{t:Tr}{ops:Array Oper}{σ:St}{Q:St→Prop}{d:Dm (ops,Q)}(σ2:St)(l:List Oper)(t':Tro)(h1:opsL ops pre=l)(h2:pS ops t=t')
  (h:bJi P ops l t' σ (fun σ'=>WkR σ' σ2) .mk) (hq:Q σ2):RgX P pre t ops σ Q d:=by
 subst h1;subst h2
 refine⟨σ2,?_,hq⟩
 simp only[rS]
 exact h
end Go.Am
end

section
set_option linter.unusedVariables false
set_option linter.unusedSimpArgs false
open List (map_map mapM_map)
open Go Go.Am Go.Proofs
namespace Go.Am
def bVo:List Nat:=[0,1,2,3,4,5,8,9,13,14]
def bUr:Tr:=.one 16 .leaf
def bUs:Tr:=.one 12 bUr
def bUt:Tr:=.one 11 bUs
def bUu:Tr:=.one 10 bUt
def c7E:Tr:=.one 7 bUu
def c6E:Tr:=.one 6 c7E
def bVj:Tr:=.two 6 (.two 7 (.two 10 (.two 11 (.two 12 (.one 15 bUr) 15 bUs) 15 bUt) 15 bUu) 15 c7E) 15 c6E
def fxE:Fx:=.sq .aw (.sq .aw (.sq .aw (.sq .aw (.sq .aw (.sq .aw (.sq .aw (.sq (.sq .aw (.bk (.lp (.sq .aw (.sq (.bk (.sq (.rg bVo bVj) .aw)) .aw))))) .aw)))))))
set_option maxHeartbeats 16000000 in
set_option maxRecDepth 10000 in
theorem bTi(s:Int)(q:List Q4)(u0 u1 u2:Int)(vs:List Int)(hs:0≤s∧s≤255)(hq:∀ y∈q,y.ok)(hql:q.length≤9223372036854775807)(h0:0≤u0∧u0≤255)(h1:0≤u1∧u1≤255)(h2:0≤u2∧u2≤255)
  (hv:∀ x∈vs,-128≤x∧x≤127) (hvl:vs.length≤9223372036854775807) (hS:Spec Tryz.prog 4 [] (.b true)) :
  Spec Tryz.prog 3 [vC s q,.ag [.i .u8 u0,.i .u8 u1,.i .u8 u2],eH vs] (.b true):=by
 obtain⟨c,sM,hc⟩:=bNd s q hs hq hql
 have hlen:=hc.len
 have hr:vC s q=.ag [.i .u8 s,.sl (q.map vD)]:=rfl
 obtain⟨L,hP,hL3,hLa⟩:=aYq hc h0
 have hE:=aBn c (by omega)
 have hEb:=aJf c
 have hk:0≤u2.tmod 4∧u2.tmod 4≤3:=by rw[Cy h2.1];omega
 obtain⟨cyc,E,hC⟩:=cAs hc hk
 have hY:=cyY hC (0::vs) (n:=min cyc.length vs.length) (Nat.min_le_left _ _)
 have heB:eB (u2.tmod 4)≤5000000:=by unfold eB;split<;>(try split)<;>(try split)<;>omega
 have hCy:=aXi (e:=E) c (u2.tmod 4) cyc vs hv hvl hC.spec (by have:=hC.len;omega) (fun y hy=>(hC.all y hy).1.2.1) (fun y hy=>(hC.all y hy).2) (by have:=hC.sz;omega)
 have hpr:=fun a b ha=>bVp hc a b ha
 have hids:=hc.ids
 generalize gB cyc (0::vs) (min cyc.length vs.length)=y at *
 have w1:Ah.wrap u1=u1:=aR (by omega) (by omega)
 have w2:Ah.wrap u2=u2:=aR (by omega) (by omega)
 have hLe:vE L=.sl (L.map pcD):=rfl
 have hpD:∀ r:Pc,pcD r=[aF r.1,aV r.2,.i .i64 0]:=fun r=>rfl
 have hLE:∀ r∈L,Spec Tryz.prog 7 [aF r.1] (.i .i64 (iE c)):=fun r hr=>by
  have:=aBn r.1 (by have:=(hLa r hr).l;omega)
  rwa [(hLa r hr).e]at this
 refine(show ∃ n,iE c=n from⟨_,rfl⟩).elim fun n hn=>?_
 have hDE:∀ d:List Cl,d.length≤100→Spec Tryz.prog 7 [aF d] (.i .i64 (iE d)):=fun d hd=>aBn d (by omega)
 rw[hn]at hE hEb hLE
 refine(show ∃ k,u2.tmod 4=k from⟨_,rfl⟩).elim fun kk hkk=>?_
 rw[hkk]at hk hCy hY
 clear hC hLa hq hql hvl hv heB
 refine bBi (N:=121) fxE aI Tryz.func3 rfl rfl rfl (by kernel_rfl) (by kernel_rfl) (by simp) ?_
 simp[-map_map,-mapM_map,↓KW,hr,eH,fxE,↓oS,↓oT]
 refine aA (ds:=[]) (by rfl) hS ?_
 simp[-map_map,-mapM_map,↓KW,↓oS,↓oT,hr,eH]
 refine aA (ds:=[vC s q]) (by rfl) sM ?_
 simp[-map_map,-mapM_map,↓KW,↓oS,↓oT,hr,eH,pQ,lS,iH,eL,fW]
 refine aA (ds:=[aF c,.i .u8 u0]) (by rfl) hP ?_
 simp[-map_map,-mapM_map,↓KW,↓oS,↓oT,hr,hLe,eH,pQ,lS,iH,eL,fW]
 refine aA (ds:=[aF c]) (by rfl) hE ?_
 simp[-map_map,-mapM_map,↓KW,↓oS,↓oT,hr,hLe,eH,pQ,lS,iH,eL,fW]
 refine aU (fun i:Nat=>i≤L.length) (fun i=>StL [(2,.d (eH vs)),(4,.ptr 1 0),(7,.d (.b true)),(8,.d (aF c)),(9,.d (vE L)),(11,.d (.i .i64 n)),(12,.d (.i .i64 (i:Int)))] none [.cells 25 [.d (.i .u8 u0),.d (.i .u8 u1),.d (.i .u8 u2)]]) (fun i=>L.length-i) 0 (An _) ?_ ?_
 ·refine aY [2] (by simp) ?_ ?_<;>simp[-map_map,upd,aT,Γ0,eH,hLe]
 ·intro i hi
  by_cases hgo:i<L.length
  ·have q1:(i:Int)<L.length:=by omega
   have hx:L[i]? = some L[i]:=Aa hgo
   have hw:Ah.wrap ((i:Int)+1)=(i:Int)+1:=aR (by omega) (by omega)
   have hre:=hLE _ (Ak hgo)
   refine(show ∃ r,L[i]=r from⟨_,rfl⟩).elim fun r hr=>?_
   have hx':∀ h:i<L.length,L[i]'h=r:=fun _=>hr
   rw[hr]at hx hre
   have qn:((n != n):Bool)=false:=by simp
   simp[-map_map,-mapM_map,↓KW,hLe,hgo,q1,hx,hx',hpD,iH,eL,fW,jH,fK,iA]
   refine aA (ds:=[aF r.1]) (by rfl) hre ?_
   simp[-map_map,-mapM_map,↓KW,hw,qn]
   refine aJ (i+1) hgo (Ab hgo (Ad _)) (aY [1] (by simp) ?_ ?_)<;>simp[-map_map,upd,aT,Γ0,eH,hLe]
  ·have q1:¬(i:Int)<L.length:=by omega
   simp[-map_map,-mapM_map,↓KW,↓oS,↓oT,↓aWb,↓bPs,hLe,hgo,q1]
   refine aYm (fun i:Nat=>i≤c.length) (fun i=>StL [(2,.d (eH vs)),(4,.ptr 1 0),(7,.d (.b true)),(8,.d (aF c)),(11,.d (.i .i64 n)),(13,.d (.i .i64 (i:Int)))] none [.cells 25 [.d (.i .u8 u0),.d (.i .u8 u1),.d (.i .u8 u2)]]) (fun i=>c.length-i) 0 (An _) ?_ ?_
   ·refine aY [1] (by simp) ?_ ?_<;>simp[-map_map,upd,aT,Γ0,eH]
   ·intro i hi
    by_cases hgo:i<c.length
    ·have q2:(i:Int)<c.length:=by omega
     have hw:Ah.wrap ((i:Int)+1)=(i:Int)+1:=aR (by omega) (by omega)
     have hx:c[i]? = some c[i]:=Aa hgo
     have hxm:c[i]∈c:=Ak hgo
     refine(show ∃ x,c[i]=x from⟨_,rfl⟩).elim fun x hxe=>?_
     have hx':∀ h:i<c.length,c[i]'h=x:=fun _=>hxe
     rw[hxe]at hx hxm
     have m1:=Dy u1 (b:=(c.length:Int)) (by omega)
     have m2:=Fa u1 (b:=(c.length:Int)) (by omega)
     obtain⟨j,j1,j2⟩:∃ j:Nat,j<c.length∧u1.tmod (c.length:Int)=(j:Int):=⟨(u1%c.length).toNat,by omega,by rw[Cy h1.1];omega⟩
     have j3:(j:Int)<c.length:=by omega
     have hz:c[j]? = some c[j]:=Aa j1
     have hzm:c[j]∈c:=Ak j1
     refine(show ∃ z,c[j]=z from⟨_,rfl⟩).elim fun z hze=>?_
     have hz':∀ h:j<c.length,c[j]'h=z:=fun _=>hze
     rw[hze]at hz hzm
     have hne:¬c=[]:=fun e=>by rw[e]at hgo;exact absurd hgo (Nat.not_lt_zero _)
     have hxi:=hids x hxm
     have hp:=hpr x.id z.id (by simp only[inr,AH];omega)
     have ex:bJ x=[.i .i64 x.id,.i .i64 x.dim,aG x.b]:=rfl
     have ez:bJ z=[.i .i64 z.id,.i .i64 z.dim,aG z.b]:=rfl
     simp[-map_map,-mapM_map,↓KW,↓oS,↓oT,↓aWb,↓bPr,aF,hgo,q2]
     refine aXe (StL [(2,.d (eH vs)),(4,.ptr 1 0),(7,.d (.b true)),(8,.d (aF c)),(11,.d (.i .i64 n)),(13,.d (.i .i64 (i:Int))),(14,.ptr 2 0),(15,.ptr 3 0)] none [.cells 25 [.d (.i .u8 u0),.d (.i .u8 u1),.d (.i .u8 u2)],.cells 43 ((bJ x).map .d),.cells 43 ((bJ z).map .d)]) _ _ rfl rfl ?_ ?_
     ·simp only[opsL,opL,bVo,bVj,c6E,c7E,bUu,bUt,bUs,bUr,pS,CO,DL,Cp,BS,B6,BZ,B8,BQ]
      simp[-map_map,-mapM_map,↓KW,aF,hgo,q2,hx,hx',w1,j1,j2,j3,hz,hz',hne,ex,ez,aE,aB,aC,↓dE,↓dF,↓dG,↓cR]
      refine .inr (aY [1,2,3] (by simp) ?_ ?_)<;>simp[-map_map,upd,aT,Γ0,eH,aF]
     ·rcases hp with ⟨e,he,hI⟩|⟨d,m,hI⟩
      ·have he':((e != 0):Bool)=true:=by simpa using he
       simp[-map_map,-mapM_map,↓KW,ex,ez,aE,aB,aC]
       refine aA (ds:=[aF c,.i .i64 x.id,.i .i64 z.id]) (by rfl) hI ?_
       simp[-map_map,-mapM_map,↓KW,hw,he',aF,jH,fK,iA]
       refine aJ (i+1) hgo (Ab hgo (Ad _)) (aY [1] (by simp) ?_ ?_)<;>simp[-map_map,upd,aT,Γ0,eH,aF]
      ·obtain⟨I1,I2,I3,I4,I5,I6⟩:=hI
       obtain⟨b1,b2,y',A1,B1,B2,hB⟩:=I6 kk y hk hY
       have hDe:=hDE d I4
       rw[I5 x hxm rfl,hn]at hDe
       by_cases hpar:x.dim.tmod 2=0
       ·rw[Ag hpar]at hDe
        have hpar':((x.dim.tmod 2==0):Bool)=true:=by simpa using hpar
        have hws:Ah.wrap (n+-1)=n+-1:=aR (by omega) (by omega)
        simp[-map_map,-mapM_map,↓KW,ex,ez,aE,aB,aC]
        refine aA (ds:=[aF c,.i .i64 x.id,.i .i64 z.id]) (by rfl) I1 ?_
        simp[-map_map,-mapM_map,↓KW,hpar',ex,ez,aF,aV,aE,aB,aC]
        refine aA (ds:=[aF d]) (by rfl) I2 ?_
        simp[-map_map,-mapM_map,↓KW,aF,aV]
        refine aA (ds:=[aF c,aF d,aV m]) (by rfl) I3 ?_
        simp[-map_map,-mapM_map,↓KW,aF,aV]
        refine aA (ds:=[aF d]) (by rfl) hDe ?_
        simp[-map_map,-mapM_map,↓KW,hws,w2,hkk,aF,aV,eH]
        refine aA (ds:=[aF c,.i .i64 kk,eH vs]) (by rfl) hCy ?_
        simp[-map_map,-mapM_map,↓KW,aF,aV,aG]
        refine aA (ds:=[aF c,aG y]) (by rfl) B1 ?_
        cases b1 with
        |false =>
         simp[-map_map,-mapM_map,↓KW,hw,aF,aV,aG]
         refine aJ (i+1) hgo (Ab hgo (Ad _)) (aY [1] (by simp) ?_ ?_)<;>simp[-map_map,upd,aT,Γ0,eH,aF]
        |true =>
         rw[hB rfl]at B2
         simp[-map_map,-mapM_map,↓KW,aF,aV,aG]
         refine aA (ds:=[aV m,aG y]) (by rfl) A1 ?_
         simp[-map_map,-mapM_map,↓KW,aF,aV,aG]
         refine aA (ds:=[aF d,aG y']) (by rfl) B2 ?_
         simp[-map_map,-mapM_map,↓KW,hw,aF,aV,aG]
         refine aJ (i+1) hgo (Ab hgo (Ad _)) (aY [1] (by simp) ?_ ?_)<;>simp[-map_map,upd,aT,Γ0,eH,aF]
       ·rw[Ae hpar]at hDe
        have hpar':((x.dim.tmod 2==0):Bool)=false:=by simpa using hpar
        have hws:Ah.wrap (n+1)=n+1:=aR (by omega) (by omega)
        simp[-map_map,-mapM_map,↓KW,ex,ez,aE,aB,aC]
        refine aA (ds:=[aF c,.i .i64 x.id,.i .i64 z.id]) (by rfl) I1 ?_
        simp[-map_map,-mapM_map,↓KW,hpar',ex,ez,aF,aV,aE,aB,aC]
        refine aA (ds:=[aF d]) (by rfl) I2 ?_
        simp[-map_map,-mapM_map,↓KW,aF,aV]
        refine aA (ds:=[aF c,aF d,aV m]) (by rfl) I3 ?_
        simp[-map_map,-mapM_map,↓KW,aF,aV]
        refine aA (ds:=[aF d]) (by rfl) hDe ?_
        simp[-map_map,-mapM_map,↓KW,hws,w2,hkk,aF,aV,eH]
        refine aA (ds:=[aF c,.i .i64 kk,eH vs]) (by rfl) hCy ?_
        simp[-map_map,-mapM_map,↓KW,aF,aV,aG]
        refine aA (ds:=[aF c,aG y]) (by rfl) B1 ?_
        cases b1 with
        |false =>
         simp[-map_map,-mapM_map,↓KW,hw,aF,aV,aG]
         refine aJ (i+1) hgo (Ab hgo (Ad _)) (aY [1] (by simp) ?_ ?_)<;>simp[-map_map,upd,aT,Γ0,eH,aF]
        |true =>
         rw[hB rfl]at B2
         simp[-map_map,-mapM_map,↓KW,aF,aV,aG]
         refine aA (ds:=[aV m,aG y]) (by rfl) A1 ?_
         simp[-map_map,-mapM_map,↓KW,aF,aV,aG]
         refine aA (ds:=[aF d,aG y']) (by rfl) B2 ?_
         simp[-map_map,-mapM_map,↓KW,hw,aF,aV,aG]
         refine aJ (i+1) hgo (Ab hgo (Ad _)) (aY [1] (by simp) ?_ ?_)<;>simp[-map_map,upd,aT,Γ0,eH,aF]
    ·have q2:¬(i:Int)<c.length:=by omega
     simp[-map_map,-mapM_map,↓KW,↓oS,↓oT,aF,hgo,q2]
end Go.Am
end

section
set_option linter.unusedVariables false
set_option linter.unusedSimpArgs false
open Go Go.Am Go.Proofs
namespace Go.Am
def eqL{α:Type}(f:α→α→Bool):List α→List α→Bool
 |[],[]=>true
 |x::a,y::b=>f x y&&eqL f a b
 |_,_=>false
theorem aDh{α:Type}{f:α→α→Bool}(h:∀ x y,f x y=true→x=y):∀(a b:List α),eqL f a b=true→a=b
 |[],[],_=>rfl
 |x::a,y::b,e=>by
  simp only[eqL,AI]at e
  rw[h _ _ e.1,aDh h _ _ e.2]
 |[],_::_,e=>by cases e
 |_::_,[],e=>by cases e
def eqD:Nat→D→D→Bool
 |0,_,_=>false
 |n+1,x,y=>match x,y with
  |.b p,.b q=>p==q
  |.i k a,.i l b=>decide (k=l)&&decide (a=b)
  |.sl a,.sl b=>eqL (eqL (eqD n)) a b
  |.ag a,.ag b=>eqL (eqD n) a b
  |_,_=>false
theorem aRn:∀(n:Nat) (x y:D),eqD n x y=true→x=y
 |0,_,_,h=>by cases h
 |n+1,x,y,h=>by
  have ih:=aRn n
  unfold eqD at h
  split at h
  ·simp only[B0]at h;rw[h]
  ·simp only[AI,AH]at h;rw[h.1,h.2]
  ·rw[aDh (aDh ih) _ _ h]
  ·rw[aDh ih _ _ h]
  ·cases h
/-! Data with coefficients of one digit, as it stands -/
def bGq(f:Int×Int):List D:=[.i .i64 f.1,.b (decide (f.2<0)),.sl [[.i .u32 (f.2.natAbs:Int)]]]
def xG(l:Ch):D:=.sl (l.map bGq)
def rF(c:List Cl):D:=.sl (c.map fun x=>[.i .i64 x.id,.i .i64 x.dim,xG x.b])
def dg(f:Int×Int):Bool:=decide (0<f.2.natAbs)&&decide (f.2.natAbs<4294967296)
theorem bGp{f:Int×Int}(h:dg f=true):dK f=bGq f:=by
 simp only[dg,AI,AH]at h
 simp[dK,bGq,aN,bGy h.1 h.2]
theorem sD{l:Ch}(h:l.all dg=true):aG l=xG l:=by
 unfold aG xG
 congr 1
 exact Bu fun f hf=>bGp (AO.1 h f hf)
theorem aDj{c:List Cl}(h:(c.all fun x=>x.b.all dg)=true):aF c=rF c:=by
 unfold aF rF
 congr 1
 refine Bu fun x hx=>?_
 rw[←sD (AO.1 h x hx)];rfl
theorem bDb{P:Program}{f:FuncId}{h:AV}{o o1 o':HO}{ds:List D}{r:D}(hcr:∀ A W ι ob,CR A W ι o1 ob→CR A W ι o ob)(hs:mP P f h o ds o' r):mP P f h o1 ds o' r :=
 fun A W vs b hA hnb hb ⟨ob,hob,hc⟩ hl hv hd=>hs A W vs b hA hnb hb ⟨ob,hob,hcr _ _ _ _ hc⟩ hl hv hd
def leA:AV→AV→Bool
 |.d x,.d y=>eqD 8 x y
 |.nil,.d (.sl [])=>true
 |_,_=>false
theorem bWo{x y:AV}{F:Nat→Prop}{w:World}{ι:Nat→Option Nat}{v:Value}(h:leA x y=true)(hv:V F w ι x v):V F w ι y v:=by
 unfold leA at h
 split at h
 ·rw[←aRn _ _ _ h];exact hv
 ·cases hv;exact .d _ _ (.sl0 none 0)
 ·cases h
theorem bTh{x y:List AV}(h:eqL leA x y=true):x.length=y.length∧∀(k:Nat) b,y[k]? = some b→∃ a,x[k]? = some a∧leA a b=true:=by
 induction x generalizing y with
 |nil=>cases y with
  |nil=>exact⟨rfl,fun k b h=>by simp at h⟩
  |cons=>cases h
 |cons a x ih=>cases y with
  |nil=>cases h
  |cons b y =>
   simp only[eqL,AI]at h
   obtain⟨h1,h2⟩:=ih h.2
   refine⟨by simp[h1],fun k c hc=>?_⟩
   cases k with
   |zero=>simp at hc;subst hc;exact⟨a,rfl,h.1⟩
   |succ k=>exact h2 k c (by simpa using hc)
def leO:HO→HO→Bool
 |.cells e a,.cells e' b=>decide (e=e')&&eqL leA a b
 |_,_=>false
theorem bTg{o1 o:HO}(h:leO o1 o=true)(A:Nat→Prop)(W:World)(ι:Nat→Option Nat)(ob:Obj)(hc:CR A W ι o1 ob):CR A W ι o ob:=by
 unfold leO at h
 split at h
 ·simp only[AI,AH]at h
  obtain⟨rfl,h⟩:=h
  obtain⟨h1,h2⟩:=bTh h
  cases hc with
  |cells _ _ cur hl hh =>
   refine .cells _ _ cur (by omega) fun k c hk=>?_
   obtain⟨a,ha,hle⟩:=h2 k c hk
   obtain⟨u,hu,hV⟩:=hh k a ha
   exact⟨u,hu,bWo hle hV⟩
 ·cases h
def bWj:List D→Bool
 |[.lit (.func (.func g) a b)]=>g==55&&a.isEmpty&&b.isEmpty
 |_=>false
def bVq(n:Nat):AV→Bool
 |.own 0 0 m 3=>m==n
 |_=>false
def E31(T:List (FuncId×List D×D))(n:Nat)(o o':HO):Kn:={ E0 with
 call:=fun f ds=>match T.find? (fun p=>p.1==f&&eqL (eqD 8) ds p.2.1)with
   |some p=>some p.2.2
   |none=>E0.call f ds
 ocall:=fun f h o1 ds=>if f=54∧bVq n h=true∧leO o1 o=true∧bWj ds=true then some (o',.tp [])else none
 recs:=fun g=>E0.recs g||[28,46,62,50].contains g }
theorem bVd{T:List (FuncId×List D×D)}{n:Nat}{o o':HO}(hT:∀ p∈T,Spec Tryz.prog p.1 p.2.1 p.2.2)
  (hS:mP Tryz.prog 54 (.own 0 0 n 3) o [.lit (.func (.func 55) #[] #[])] o' (.tp [])):aFg Tryz.prog (E31 T n o o'):=by
 have h0:=bJl
 refine⟨fun f ds r hc=>?_,fun f h o1 ds o2 r hc=>?_,h0.keys,h0.sorted,fun g hg=>?_⟩
 ·simp only[E31]at hc
  split at hc
  ·rename_i p hp
   injection hc with hc;subst hc
   have h1:=List.find?_some hp
   simp only[AI,B0]at h1
   rw[←h1.1,aDh (aRn 8) _ _ h1.2]
   exact hT p (Ek hp)
  ·exact h0.call _ _ _ hc
 ·simp only[E31]at hc
  split at hc
  ·rename_i hh
   obtain⟨rfl,h1,h2,h3⟩:=hh
   injection hc with hc;injection hc with hc1 hc2;subst hc1;subst hc2
   have e1:h=.own 0 0 n 3:=by
    unfold bVq at h1
    split at h1
    ·simp only[B0]at h1;rw[h1]
    ·cases h1
   have e2:ds=[.lit (.func (.func 55) #[] #[])]:=by
    unfold bWj at h3
    split at h3
    ·simp only[AI,B0,Array.isEmpty_iff]at h3
     obtain⟨⟨h3,h4⟩,h5⟩:=h3
     rw[h3,h4,h5]
    ·cases h3
   rw[e1,e2]
   exact bDb (bTg h2) hS
  ·cases hc
 ·simp only[E31,Bool.or_eq_true,List.contains_eq_mem,AH,AD,Eg,DX]at hg
  rcases hg with hg|rfl|rfl|rfl|rfl
  ·exact h0.recs g hg
  ·exact bQo
  ·exact bQn
  ·exact rec62
  ·exact rec50
def aBh:List Cl:=[⟨1,0,[]⟩,⟨2,0,[]⟩,⟨3,1,[(1,-1),(2,1)]⟩]
def bWh:List Cl:=[⟨1,0,[]⟩,⟨2,1,[(1,2)]⟩]
def bSh:List Cl:=[⟨7,0,[]⟩,⟨8,1,[(2,1),(7,-1)]⟩,⟨1,0,[]⟩,⟨2,0,[]⟩,⟨3,1,[(1,-1),(7,1)]⟩]
def bLb:List Cl:=[⟨1,0,[]⟩,⟨2,0,[]⟩,⟨3,1,[(1,-1),(7,1)]⟩,⟨7,0,[]⟩,⟨8,1,[(2,1),(7,-1)]⟩]
def yS(x:Cl):List D:=[.i .i64 x.id,.i .i64 x.dim,xG x.b]
theorem aVj{c:List Cl}(h:(c.all fun x=>x.b.all dg)=true):flt bJ c=flt yS c:=by
 unfold flt
 congr 1
 refine Bu fun x hx=>?_
 unfold bJ yS
 rw[sD (AO.1 h x hx)]
def aRo(m:List (Int×Ch)):D:=.sl (m.map fun p=>[.i .i64 p.1,xG p.2])
def aDk(r:List Cl×List (Int×Ch)×Int):D:=.tp [rF r.1,aRo r.2.1,.i .i64 r.2.2]
theorem aZk{m:List (Int×Ch)}(h:(m.all fun x=>x.2.all dg)=true):aV m=aRo m:=by
 unfold aV aRo
 congr 1
 refine Bu fun x hx=>?_
 rw[←sD (AO.1 h x hx)];rfl
def dgX(c:List Cl):Bool:=c.all fun x=>x.b.all dg
def smX(c:List Cl):Bool:=c.all fun x=>decide (x.b.length≤100)&&x.b.all fun f=>decide (f.2.natAbs≤2)&&inr f.1
theorem aPv{c:List Cl}(hl:c.length≤100)(h2:smX c=true):SzX 1 c∧∀ x∈c,Keys x.b:=by
 refine⟨⟨hl,fun x hx=>?_,fun x hx f hf=>?_⟩,fun x hx f hf=>?_⟩
 all_goals
  have:=AO.1 h2 x hx
  simp only[AI,AH]at this
 ·exact this.1
 ·have h3:=AO.1 this.2 f hf
  simp only[AI,AH]at h3
  exact h3.1
 ·have h3:=AO.1 this.2 f hf
  simp only[AI,AH]at h3
  exact h3.2
theorem aRf{c:List Cl}{l:List (Int×Int)}(h1:dgX c=true)(hl:c.length≤100)(h2:smX c=true)(hf:fU c=l):Spec Tryz.prog 19 [rF c] (cU l):=by
 rw[←aDj h1,←hf]
 exact aQt (e:=1) (aPv hl h2).1 (by omega)
theorem aVu{c:List Cl}{a b:Int}{r:List Cl×List (Int×Ch)×Int}(h1:dgX c=true)(hl:c.length≤100)(h2:smX c=true)(hc:Inc c)(hr:bHb c a b=r)(h3:dgX r.1=true)(h4:(r.2.1.all fun x=>x.2.all dg)=true) :
  Spec Tryz.prog 16 [rF c,.i .i64 a,.i .i64 b] (aDk r):=by
 have h:=uX (e:=1) a b hc (aPv hl h2).1 (aPv hl h2).2 (by omega)
 rw[hr,aDj h1]at h
 unfold eG at h
 rw[aDj h3,aZk h4]at h
 exact h
def T31:List (FuncId×List D×D):=[(19,[rF aBh],cU [(3,1),(3,2)]),(19,[rF [⟨2,0,[]⟩]],cU []),(19,[rF []],cU []),
 (53,[xG []],xG []),(53,[xG [(1,-1),(2,1)]],xG [(1,-1),(2,1)]),
 (16,[rF aBh,.i .i64 3,.i .i64 2],aDk ([⟨1,0,[]⟩],[(1,[(1,1)]),(2,[(1,1)]),(3,[])],0)),(16,[rF aBh,.i .i64 3,.i .i64 1],aDk ([⟨2,0,[]⟩],[(1,[(2,1)]),(2,[(2,1)]),(3,[])],0)),
 (16,[rF bWh,.i .i64 2,.i .i64 1],aDk ([],[],310)),(16,[rF aBh,.i .i64 3,.i .i64 9],aDk ([],[],250))]
theorem bVa:∀ p∈T31,Spec Tryz.prog p.1 p.2.1 p.2.2:=by
 intro p hp
 simp only[T31,AD,Eg,DX]at hp
 rcases hp with rfl|rfl|rfl|rfl|rfl|rfl|rfl|rfl|rfl
 ·exact aRf (by decide) (by decide) (by decide) (by decide)
 ·exact aRf (by decide) (by decide) (by decide) (by decide)
 ·exact aRf (by decide) (by decide) (by decide) (by decide)
 ·have:=bPe;rwa [sD (by decide)]at this
 ·have:=bPd (l:=[(1,-1),(2,1)]) (by simp) (by simp);rwa [sD (by decide)]at this
 ·exact aVu (by decide) (by decide) (by decide) (by unfold Inc aBh;decide) (by decide) (by decide) (by decide)
 ·exact aVu (by decide) (by decide) (by decide) (by unfold Inc aBh;decide) (by decide) (by decide) (by decide)
 ·exact aVu (by decide) (by decide) (by decide) (by unfold Inc bWh;decide) (by decide) (by decide) (by decide)
 ·exact aVu (by decide) (by decide) (by decide) (by unfold Inc aBh;decide) (by decide) (by decide) (by decide)
theorem S31:mP Tryz.prog 54 (.own 0 0 5 3) (.cells 43 ((flt yS bSh).map .d)) [.lit (.func (.func 55) #[] #[])] (.cells 43 ((flt yS bLb).map .d)) (.tp []):=by
 have:=Tryz.sortO (L:=bSh) (L':=bLb) (by decide) (by unfold Inc bLb;decide) (by decide)
 rwa [aVj (by decide),aVj (by decide)]at this
def K31:Kn:=E31 T31 5 (.cells 43 ((flt yS bSh).map .d)) (.cells 43 ((flt yS bLb).map .d))
theorem bVc:aFg Tryz.prog K31:=bVd bVa S31
end Go.Am
end

section
set_option linter.unusedVariables false
set_option linter.unusedSimpArgs false
open Go Go.Am Go.Proofs
namespace Go.Am
theorem bBy:Spec Tryz.prog 4 [] (.b true) :=
 (zY (fuel:=100) aI bVc 20).call 4 [] (.b true) (by kernel_rfl)
end Go.Am
end
