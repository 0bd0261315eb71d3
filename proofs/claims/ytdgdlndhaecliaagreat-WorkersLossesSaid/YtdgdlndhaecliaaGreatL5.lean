/- Elimination with fractions computes the determinant (four rows at most). Plain. No condition. -/
import Derived.Test.YtdgdlndhaecliaaGreatL4
import Derived.Test.YtdgdlndhaecliaaGreatL3
import Derived.Laws.Bits64b
open Array renaming getD_eq_getD_getElem?→Av,getElem?_eq_getElem→Ak,replicate→AX
open Bool renaming and_eq_true→A1,not_eq_true'→CW
open Decidable renaming byContradiction→BW
open Go.Act renaming eval→C5
open Go.Builtin renaming append_→BR,zeroCells→CU
open Go.IntKind renaming bits→Cz,i64→Ag,u32→BC,u64→Az,wrap_u32→Ei
open Go.Proofs.Tryz renaming f103→E7,prog→Aa
open Go.Region renaming wanted→Bs
open Go.Value renaming int→Fv,slice→EH
open Int renaming emod_eq_zero_of_dvd→Gw,emod_nonneg→Ez,fdiv_eq_ediv_of_nonneg→CL,lt_trichotomy→Ff,mul_comm→Fh,mul_le_mul_of_nonneg_right→Fw,mul_neg→D3,natAbs_ediv_le_natAbs→F8,natAbs_mul→DQ,natAbs_natCast→Cn,natAbs_neg→Fe,natCast_add→Ey,natCast_dvd_natCast→E9,natCast_ediv→EN,natCast_mul→CB,sign_eq_neg_one_of_neg→DN,sign_eq_one_of_pos→DG,sign_eq_zero_iff_zero→F3,sq_nonneg→Ca,tmod_eq_emod_of_nonneg→B5,toNat_of_nonneg→B0
open List renaming all_eq_true→A4,append_nil→E0,cons_append→Ci,contains_cons→Bq,drop_eq_nil_of_le→C8,drop_zero→FW,eq_nil_of_length_eq_zero→BS,flatten_cons→Cv,getD_eq_getElem?_getD→Af,getElem?_cons_succ→B7,getElem?_cons_zero→Ch,getElem?_eq_getElem→Ab,getElem?_eq_some_iff→Aq,getElem?_map→Ai,getElem?_range→BF,getElem?_replicate→Dr,getElem_mem→BH,getLast?_eq_getElem?→F0,length_append→A9,length_cons→Ah,length_drop→CM,length_map→Bm,length_nil→As,length_pos_iff→Eb,length_replicate→Fp,length_set→Dh,length_take→AT,lookup_cons→Fu,map→CI,map_append→Ex,map_congr_left→CF,map_cons→BI,map_map→DD,map_replicate→FX,mem_append→BZ,mem_cons→BB,mem_cons_of_mem→AD,mem_cons_self→AH,mem_map→AZ,mem_map_of_mem→Dy,mem_of_getElem?→Ao,mem_of_mem_drop→FB,mem_of_mem_take→Bl,mem_range→CK,mem_singleton→Cb,nil_append→DV,nodup_append→D5,nodup_cons→Dv,pairwise_map→Gg,range→AK,range_succ_eq_map→Em,replicate→Aw,replicate_succ→Db,take→DM,take_add_one→A7,take_of_length_le→Ax,take_sublist→CY,take_zero→BG
open List.Sublist renaming nodup→Er
open Nat renaming Coprime→EI,add_comm→En,add_mul→B2,add_mul_mod_self_left→EU,add_zero→B6,div_add_mod→Ew,div_eq_of_lt→C4,div_le_self→DW,dvd_of_mod_eq_zero→Cm,eq_zero_or_pos→Be,le_of_dvd→Gr,le_of_lt→EO,le_refl→AE,le_trans→AO,lt_of_le_of_lt→Bo,lt_of_lt_of_le→A3,lt_or_ge→AY,lt_succ_self→Cj,lt_trans→FM,min_eq_left→Df,mod_eq_of_lt→Ce,mod_lt→BY,mod_mod→Ek,mod_two_eq_zero_or_one→FV,mul_add→Cq,mul_assoc→BT,mul_comm→BV,mul_le_mul→Bg,mul_le_mul_left→Cc,mul_le_mul_right→B3,mul_left_comm→Fg,mul_mod→D4,mul_one→DJ,mul_pos→E4,one_mul→Dg,pow_add→E6,pow_le_pow_right→B4,pow_succ→BJ,sub_mod_eq_zero_of_mod_eq→El,sub_self→Eo,zero_add→AB,zero_le→A8,zero_mul→Fb
open Nat.Coprime renaming eq_one_of_dvd→F9
open Option renaming map_eq_some_iff→Ae,map_some→AW,toList_some→Ep
open Option.some renaming injEq→Au
open Rat renaming intCast_mul→Dw,intCast_natCast→CO
open _root_ renaming beq_eq_false_iff_ne→Dx,decide_eq_false→Bn,decide_eq_false_iff_not→E8,decide_eq_true→BU,decide_eq_true_eq→BO,getElem!_pos→B8,if_neg→Aj,if_pos→Ar
set_option linter.unusedSectionVars false
set_option linter.unusedVariables false
set_option linter.unusedSimpArgs false
section
open List renaming map_map→ζ,mapM_map→ξ
open Go Go.Am Go.Proofs
namespace Go.Am
def dnL(n m:Nat):List (List D):=(AK (n-m)).map fun k=>[.i .u64 ((n-1-k:Nat):Int)]
theorem qW(n m:Nat):(dnL n m).length=n-m:=by simp[dnL]
theorem aPe{n m k:Nat}(h:k<n-m):(dnL n m)[k]? = some [.i .u64 ((n-1-k:Nat):Int)]:=by
 simp[dnL,h]
set_option maxHeartbeats 8000000 in
set_option maxRecDepth 10000 in
theorem bOk[M:Mch Aa](n m:Nat)(h:m<n)(hn:n≤2147483648):lR Aa 200 [.pt [.i .u64 n]] (dnL n m):=by
 refine bAi (N:=15) aW Tryz.func200 rfl rfl rfl (by kernel_rfl) (by kernel_rfl) (by simp) fun l=>?_
 refine qY (by kernel_rfl) ?_
 simp[-ζ,-ξ,↓KW,↓aL,↓aF,↓aJ,↓aK]
 have hmin:(if(2147483648:Int)<(n:Int)then(2147483648:Int)else(n:Int))=n:=by rw[Aj (by omega)]
 rw[hmin]
 refine nW ?_
 refine aEl (τ:=Nat) (by kernel_rfl) (fun k=>k<n-m) (fun k=>StL [(0,.d (.lit (.func (.yield l) #[] #[]))),(3,.d (.i .u64 ((n-k:Nat):Int)))] none []) (fun k=>k) (fun k=>n-k) 0 (by omega) rfl ?_ ?_
 ·refine wkQ [] ?_ ?_
  ·simp[-ζ,upd,aT,Γ0]
  ·simp[-ζ,upd,aT,Γ0]
 ·intro k hk
  have h1:0<n-k:=by omega
  have h2:Az.wrap (((n-k:Nat):Int)-1)=((n-1-k:Nat):Int):=by
   rw[show(((n-k:Nat):Int)-1)=((n-1-k:Nat):Int)from by omega]
   exact wrap_u64 (by omega) (by omega)
  refine qY (by kernel_rfl) ?_
  simp[-ζ,-ξ,↓KW,↓aL,↓aF,↓aJ,↓aK,h1]
  refine uG (P:=Aa) ?_
  refine nW ?_
  refine uG ?_
  refine aAy (P:=Aa) (by kernel_rfl) rfl ?_
  simp[-ζ,-ξ,↓KW,↓aL,↓aF,↓aJ,↓aK,h1,h2]
  have hnk:n-k-1=n-1-k:=by omega
  refine aHp (dd:=[.i .u64 ((n-1-k:Nat):Int)]) (l2:=[]) (by rfl) (by rfl) (aPe hk) (by rfl) ?_
  rw[qW]
  by_cases hl:k+1=n-m
  ·have e1:decide (k+1≠n-m)=false:=by simp[hl]
   rw[e1]
   simp[-ζ,-ξ,↓KW,↓aL,↓aF,↓aJ,↓aK,lA,fin]
   refine iE _ (by kernel_rfl) ?_
   simp[-ζ,-ξ,↓KW,↓aL,↓aF,↓aJ,↓aK,qW,hl]
   exact⟨_,rfl⟩
  ·have e1:decide (k+1≠n-m)=true:=by simp[hl]
   have e2:n-(k+1)=n-1-k:=by omega
   rw[e1]
   simp[-ζ,-ξ,↓KW,↓aL,↓aF,↓aJ,↓aK,lA,fin]
   refine iE _ (by kernel_rfl) ?_
   simp[-ζ,-ξ,↓KW,↓aL,↓aF,↓aJ,↓aK]
   refine iE _ (by kernel_rfl) ?_
   simp[-ζ,-ξ,↓KW,↓aL,↓aF,↓aJ,↓aK,h2]
   refine⟨k+1,by omega,by show n-(k+1)<n-k;omega,rfl,wkQ [] ?_ ?_⟩<;>simp[-ζ,upd,aT,Γ0,e2]
theorem bFl[M:Mch Aa](n:Nat):Spec Aa 190 [.i .u64 n] (.fn 200 [.pt [.i .u64 n]]):=by
 refine bI (N:=4) Tryz.func190 ?_
 simp[-ζ,-ξ,↓KW,↓aL,↓aF,↓aJ,↓aK]
set_option maxHeartbeats 8000000 in
set_option maxRecDepth 10000 in
theorem aWf[M:Mch Aa](n m:Nat)(h:m<n)(hn:n≤2147483648)(hp:∀ v:Nat,m≤v→v<n→Spec Aa 52 [.i .u64 v] (.b (decide (v=m)))) :
  Spec Aa 189 [.fn 200 [.pt [.i .u64 n]]] (.i .u64 m):=by
 refine oU (N:=9) aW Tryz.func189 rfl rfl rfl (by kernel_rfl) (by kernel_rfl) (by simp) ?_
 refine cY (by kernel_rfl) ?_
 simp[-ζ,-ξ,↓KW,↓aL,↓aF,↓aJ,↓aK]
 refine aAz ?_
 refine cY (by kernel_rfl) ?_
 simp[-ζ,-ξ,↓KW,↓aL,↓aF,↓aJ,↓aK]
 refine sK ?_
 refine pS (dnL n m) (fun k=>StL [(2,.ptr 1 0)] none [.cells 51 [.d (.i .u64 (if k<n-m then 0 else m))]]) [3,5,6,7,8] .ret .ret (.inl rfl) (gf:=200) (caps:=[.pt [.i .u64 n]]) (by rfl) (by rfl) (by rfl) (bOk n m h hn) ?_ (by kernel_rfl) (by rw[qW];omega) ?_ ?_ ?_
 ·rw[Ar (by omega)]
  refine wkQ [1] ?_ ?_<;>simp[-ζ,upd,aT,Γ0]
 ·intro k x hk hx
  rw[qW]at hk
  rw[aPe (by omega)]at hx
  injection hx with hx;subst hx
  refine⟨rfl,?_⟩
  have hP:=hp (n-1-k) (by omega) (by omega)
  rw[Bn (by omega)]at hP
  rw[Ar (by omega),Ar (by omega)]
  show AWP _ _ ⟨upd _ 5 (.d (.i .u64 ((n-1-k:Nat):Int))),_,_⟩ _
  simp[-ζ,-ξ,↓KW,↓aL,↓aF,↓aJ,↓aK]
  refine aH hP ?_
  simp[-ζ,-ξ,↓KW,↓aL,↓aF,↓aJ,↓aK]
  refine wkQ [1] ?_ ?_<;>simp[-ζ,upd,aT,Γ0]
 ·intro k x hk hx
  rw[qW]at hk
  rw[aPe (by omega)]at hx
  injection hx with hx;subst hx
  refine⟨rfl,?_⟩
  have hP:=hp (n-1-k) (by omega) (by omega)
  have hm:n-1-k=m:=by omega
  rw[hm,BU rfl]at hP
  rw[Ar (by omega),Aj (by omega),hm]
  show AWP _ _ ⟨upd _ 5 (.d (.i .u64 (m:Int))),_,_⟩ _
  simp[-ζ,-ξ,↓KW,↓aL,↓aF,↓aJ,↓aK]
  refine aH hP ?_
  simp[-ζ,-ξ,↓KW,↓aL,↓aF,↓aJ,↓aK]
  refine wkQ [1] ?_ ?_<;>simp[-ζ,upd,aT,Γ0]
 ·rw[qW,Aj (by omega)]
  simp[-ζ,-ξ,↓KW,↓aL,↓aF,↓aJ,↓aK]
theorem aPu[M:Mch Aa](n m:Nat)(h:m<n)(hn:n≤2147483648)(hp:∀ v:Nat,m≤v→v<n→Spec Aa 52 [.i .u64 v] (.b (decide (v=m)))) :
  Spec Aa 163 [.i .u64 n] (.i .u64 m):=by
 refine bI (N:=6) Tryz.func163 ?_
 simp[-ζ,-ξ,↓KW,↓aL,↓aF,↓aJ,↓aK]
 refine aH (bFl n) ?_
 simp[-ζ,-ξ,↓KW,↓aL,↓aF,↓aJ,↓aK]
 refine aH (aWf n m h hn hp) ?_
 simp[-ζ,-ξ,↓KW,↓aL,↓aF,↓aJ,↓aK]
def jA[M:Mch Aa]:Nat→List Nat→Prop
 |_,[]=>True
 |n,p::l=>0<p∧p<2147483648∧Spec Aa 163 [.i .u64 n] (.i .u64 p)∧jA p l
def psL(ps:List Nat):List (List D):=ps.map fun(p:Nat)=>[.i .u64 (p:Int)]
theorem jA.at[M:Mch Aa]:∀{n:Nat} {ps:List Nat} {k p q:Nat},jA n ps→ps[k]? = some p→ps[k+1]? = some q→Spec Aa 163 [.i .u64 p] (.i .u64 q)
 |n,[],k,p,q,_,h,_=>by simp at h
 | n,x::l,0,p,q,hd,h,h2=>by
  simp only[Ch,Au]at h;subst h
  simp only[B7]at h2
  cases l with
  |nil=>simp at h2
  |cons y l=>simp only[Ch,Au]at h2;subst h2;exact hd.2.2.2.2.2.1
 |n,x::l,k+1,p,q,hd,h,h2=>jA.at (k:=k) hd.2.2.2 (by simpa using h) (by simpa using h2)
theorem jA.pos[M:Mch Aa]:∀{n:Nat} {ps:List Nat} {k p:Nat},jA n ps→ps[k]? = some p→0<p∧p<2147483648
 |n,[],k,p,_,h=>by simp at h
 | n,x::l,0,p,hd,h=>by
  simp only[Ch,Au]at h;subst h;exact⟨hd.1,hd.2.1⟩
 |n,x::l,k+1,p,hd,h=>jA.pos (k:=k) hd.2.2.2 (by simpa using h)
set_option maxHeartbeats 8000000 in
set_option maxRecDepth 10000 in
theorem aLo[M:Mch Aa](n p0:Nat)(ps:List Nat)(hd:jA n (p0::ps)):lR Aa 162 [.pt [.i .u64 n]] (psL (p0::ps)):=by
 refine bAi (N:=14) aW Tryz.func162 rfl rfl rfl (by kernel_rfl) (by kernel_rfl) (by simp) fun l=>?_
 refine qY (by kernel_rfl) ?_
 simp[-ζ,-ξ,↓KW,↓aL,↓aF,↓aJ,↓aK]
 refine aH hd.2.2.1 ?_
 simp[-ζ,-ξ,↓KW,↓aL,↓aF,↓aJ,↓aK]
 refine nW ?_
 refine aEl (τ:=Nat×Nat) (by kernel_rfl) (fun x=>(p0::ps)[x.1]? = some x.2) (fun x=>StL [(0,.d (.lit (.func (.yield l) #[] #[]))),(3,.d (.i .u64 (x.2:Int)))] none []) (fun x=>x.1) (fun x=>(p0::ps).length-x.1) (0,p0) (by rfl) rfl ?_ ?_
 ·refine wkQ [] ?_ ?_
  ·simp[-ζ,upd,aT,Γ0]
  ·simp[-ζ,upd,aT,Γ0]
 ·rintro⟨k,p⟩ hk
  simp only at hk ⊢
  obtain⟨hp0,hp1⟩:=jA.pos hd hk
  have hlt:=(Aq.1 hk).1
  have hx:(psL (p0::ps))[k]? = some [.i .u64 (p:Int)]:=by
   unfold psL;rw[Ai,hk];rfl
  have hlen:(psL (p0::ps)).length=(p0::ps).length:=by simp[psL]
  generalize hL:(p0::ps)=L at *
  refine qY (by kernel_rfl) ?_
  simp[-ζ,-ξ,↓KW,↓aL,↓aF,↓aJ,↓aK,hp0]
  refine uG (P:=Aa) ?_
  refine nW ?_
  refine uG ?_
  refine aAy (P:=Aa) (by kernel_rfl) rfl ?_
  simp[-ζ,-ξ,↓KW,↓aL,↓aF,↓aJ,↓aK,hp0]
  refine aHp (dd:=[.i .u64 (p:Int)]) (l2:=[]) (by rfl) (by rfl) hx (by rfl) ?_
  rw[hlen]
  by_cases hl:k+1=L.length
  ·have e1:decide (k+1≠L.length)=false:=by simp[hl]
   rw[e1]
   simp[-ζ,-ξ,↓KW,↓aL,↓aF,↓aJ,↓aK,lA,fin]
   refine iE _ (by kernel_rfl) ?_
   simp[-ζ,-ξ,↓KW,↓aL,↓aF,↓aJ,↓aK,hlen,hl]
   exact⟨_,rfl⟩
  ·have e1:decide (k+1≠L.length)=true:=by simp[hl]
   rw[e1]
   obtain⟨q,hq⟩:∃ q,L[k+1]? = some q:=⟨_,Ab (by omega)⟩
   have hB:=jA.at hd hk hq
   simp[-ζ,-ξ,↓KW,↓aL,↓aF,↓aJ,↓aK,lA,fin]
   refine iE _ (by kernel_rfl) ?_
   simp[-ζ,-ξ,↓KW,↓aL,↓aF,↓aJ,↓aK]
   refine iE _ (by kernel_rfl) ?_
   simp[-ζ,-ξ,↓KW,↓aL,↓aF,↓aJ,↓aK]
   refine aH hB ?_
   simp[-ζ,-ξ,↓KW,↓aL,↓aF,↓aJ,↓aK]
   refine⟨(k+1,q),hq,by show L.length-(k+1)<L.length-k;omega,rfl,wkQ [] ?_ ?_⟩<;>simp[-ζ,upd,aT,Γ0]
theorem aEf[M:Mch Aa](n:Nat):Spec Aa 102 [.i .u64 n] (.fn 162 [.pt [.i .u64 n]]):=by
 refine bI (N:=4) Tryz.func102 ?_
 simp[-ζ,-ξ,↓KW,↓aL,↓aF,↓aJ,↓aK]
theorem gF{n:Nat}(h:n≤2147483648):(n+1)*8≤140737488355328∧n+1≤1099511627776∧(n+1+1)*8≤140737488355328∧n+1+1≤1099511627776:=by
 refine⟨by omega,by omega,by omega,by omega⟩
def cM(l:List Nat):D:=.sl (l.map fun(p:Nat)=>[.i .u64 (p:Int)])
def dU(l:List Nat):List D:=l.map fun(p:Nat)=>.i .u64 (p:Int)
theorem eK(l:List Nat):(dU l).length=l.length:=by simp[dU]
theorem jL(x:Nat)(a b:List Nat):dU (x::(a++b))=dU (x::a)++dU b:=by simp[dU]
theorem jU(x:Nat):dU [x]=[.i .u64 (x:Int)]:=rfl
theorem mS{l:List Nat}{n:Nat}(h:l.length=n):chunk 1 n (dU l)=l.map fun(p:Nat)=>[D.i .u64 (p:Int)]:=by
 rw[qX _ _ (by rw[eK];exact h.symm)];simp[dU]
theorem jQ{l:List Nat}{n:Nat}(h:l.length=n):DM n ((dU l).map AV.d)=(dU l).map AV.d:=Ax (by simp[eK,h])
theorem bQ{H H':Hp}{ρ:Nat→Nat}{a o l s b o' l' s':Nat}:mE H H' ρ (.own a o l s) (.own b o' l' s')↔(a=ρ b∧o=o'∧l=l'∧s=s'∧(H' b).isSome=true):=Iff.rfl
def prS(n:Int):List Nat→St
 |[]=>StL [(3,.ptr 1 0),(5,.ptr 2 0)] none [.cells 3 [.d (.i .i64 n)],.cells 46 [.nil]]
 |x::l=>StL [(3,.ptr 1 0),(5,.ptr 2 0)] none [.cells 3 [.d (.i .i64 n)],.cells 46 [.own 3 0 (l.length+1) 1],.cells 51 ((dU (x::l)).map .d)]
set_option maxHeartbeats 8000000 in
set_option maxRecDepth 10000 in
theorem rV[M:Mch Aa](n p0:Nat)(ps:List Nat)(hd:jA n (p0::ps))(hl:ps.length≤1000000) :
  Spec Aa 57 [.i .u64 n,.i .i64 ((ps.length+1:Nat):Int)] (cM (p0::ps)):=by
 have hx0:∀ k:Nat,(psL (p0::ps))[k]? = ((p0::ps)[k]?).map (fun(p:Nat)=>[D.i .u64 (p:Int)]):=fun k=>by simp only[psL,Ai]
 have hlen:(psL (p0::ps)).length=ps.length+1:=by simp[psL]
 have hseq:=aLo n p0 ps hd
 obtain⟨K,hK⟩:∃ K,K=ps.length+1:=⟨_,rfl⟩
 rw[←hK]at hlen ⊢
 have hLl:(p0::ps).length=K:=by rw[hK];rfl
 generalize hL:p0::ps=L at hx0 hlen hseq hLl hd ⊢
 have hK0:0<K:=by omega
 have hK1:¬(K=0):=by omega
 refine oU (N:=22) aW Tryz.func57 rfl rfl rfl (by kernel_rfl) (by kernel_rfl) (by simp) ?_
 refine cY (by kernel_rfl) ?_
 simp[-ζ,-ξ,↓KW,↓aL,↓aF,↓aJ,↓aK]
 refine aBa ?_
 refine cY (by kernel_rfl) ?_
 simp[-ζ,-ξ,↓KW,↓aL,↓aF,↓aJ,↓aK,hK1]
 refine cY (by kernel_rfl) ?_
 simp[-ζ,-ξ,↓KW,↓aL,↓aF,↓aJ,↓aK]
 refine cY (by kernel_rfl) ?_
 simp[-ζ,-ξ,↓KW,↓aL,↓aF,↓aJ,↓aK]
 refine aAz (P:=Aa) ?_
 refine cY (by kernel_rfl) ?_
 simp[-ζ,-ξ,↓KW,↓aL,↓aF,↓aJ,↓aK]
 refine aH (aEf n) ?_
 simp[-ζ,-ξ,↓KW,↓aL,↓aF,↓aJ,↓aK]
 refine sK ?_
 refine pS (psL L) (fun k=>prS K (L.take k)) [6,11,12,13,14,15,16,17,18,19,20] (.exit 0) (.exit 0) (.inr ⟨0,rfl⟩) (gf:=162) (caps:=[.pt [.i .u64 n]]) (by rfl) (by rfl) (by rfl) hseq ?_ (by kernel_rfl) (by rw[hlen];omega) ?_ ?_ ?_
 ·rw[BG]
  refine wkQ [1,2] ?_ ?_<;>simp[-ζ,upd,aT,Γ0]
 ·intro k x hk hx
  rw[hlen]at hk
  rw[hx0,Ae]at hx
  obtain⟨p,hp,rfl⟩:=hx
  refine⟨rfl,?_⟩
  rw[A7,hp,Ep]
  have htl:(L.take k).length=k:=by rw[AT];omega
  generalize L.take k=T at htl ⊢
  cases T with
  | nil =>
   have hk0:k=0:=htl.symm
   have hKk:((1:Int)==(K:Int))=false:=by simp;omega
   show AWP _ _ ⟨upd (prS K []).Γ 11 (.d (.i .u64 (p:Int))),(prS K []).H,(prS K []).n⟩ _
   have hm1:(1:Nat)≤maxLen:=bU (by decide)
   simp[-ζ,-ξ,↓KW,↓aL,↓aF,↓aJ,↓aK,prS,hKk,hm1]
   refine wkQ [1,2,4] ?_ ?_<;>simp[-ζ,upd,aT,Γ0,Bq,bQ,jL,jU]
  | cons y T =>
   have hk0:T.length+1=k:=htl
   have hKk:((T.length:Int)+1+1==(K:Int))=false:=by simp;omega
   have hbb:=gF (n:=T.length+1) (by omega)
   show AWP _ _ ⟨upd (prS K (y::T)).Γ 11 (.d (.i .u64 (p:Int))),(prS K (y::T)).H,(prS K (y::T)).n⟩ _
   simp[-ζ,-ξ,↓KW,↓aL,↓aF,↓aJ,↓aK,prS,hKk,eK,hbb,bU]
   refine wkQ [1,2,5] ?_ ?_<;>simp[-ζ,upd,aT,Γ0,Bq,bQ,jL,jU]
 ·intro k x hk hx
  rw[hlen]at hk
  rw[hx0,Ae]at hx
  obtain⟨p,hp,rfl⟩:=hx
  refine⟨rfl,?_⟩
  rw[A7,hp,Ep]
  have htl:(L.take k).length=k:=by rw[AT];omega
  generalize L.take k=T at htl ⊢
  cases T with
  | nil =>
   have hk0:k=0:=htl.symm
   have hKk:((1:Int)==(K:Int))=true:=by simp;omega
   show AWP _ _ ⟨upd (prS K []).Γ 11 (.d (.i .u64 (p:Int))),(prS K []).H,(prS K []).n⟩ _
   have hm1:(1:Nat)≤maxLen:=bU (by decide)
   simp[-ζ,-ξ,↓KW,↓aL,↓aF,↓aJ,↓aK,prS,hKk,hm1]
   refine wkQ [1,2,4] ?_ ?_<;>simp[-ζ,upd,aT,Γ0,Bq,bQ,jL,jU]
  | cons y T =>
   have hk0:T.length+1=k:=htl
   have hKk:((T.length:Int)+1+1==(K:Int))=true:=by simp;omega
   have hbb:=gF (n:=T.length+1) (by omega)
   show AWP _ _ ⟨upd (prS K (y::T)).Γ 11 (.d (.i .u64 (p:Int))),(prS K (y::T)).H,(prS K (y::T)).n⟩ _
   simp[-ζ,-ξ,↓KW,↓aL,↓aF,↓aJ,↓aK,prS,hKk,eK,hbb,bU]
   refine wkQ [1,2,5] ?_ ?_<;>simp[-ζ,upd,aT,Γ0,Bq,bQ,jL,jU]
 ·rw[hlen,←hLl,List.take_length,←hL]
  simp[-ζ,-ξ,↓KW,↓aL,↓aF,↓aJ,↓aK,prS]
  refine aBb _ (by kernel_rfl) ?_
  have hln2:(p0::ps).length=ps.length+1:=rfl
  have hfl:=eK (p0::ps)
  rw[hln2]at hfl
  simp[-ζ,-ξ,↓KW,↓aL,↓aF,↓aJ,↓aK,prS,cM,hfl,mS hln2,jQ hln2]
set_option maxRecDepth 10000 in
theorem aJf[M:Mch Aa](n:Nat):Spec Aa 57 [.i .u64 n,.i .i64 0] (cM []):=by
 refine oU (N:=22) aW Tryz.func57 rfl rfl rfl (by kernel_rfl) (by kernel_rfl) (by simp) ?_
 refine cY (by kernel_rfl) ?_
 simp[-ζ,-ξ,↓KW,↓aL,↓aF,↓aJ,↓aK]
 refine aBa ?_
 refine cY (by kernel_rfl) ?_
 simp[-ζ,-ξ,↓KW,↓aL,↓aF,↓aJ,↓aK,cM]
end Go.Am
end
section
open List renaming map_map→ζ,mapM_map→ξ
namespace Go.Am
open Go.Conc
open RowKit (Below)
section
variable {P:Program} [M:Mch P]
theorem wC {f N:Nat} {fn:Func} {c:Code} {h:AV} {o o':HO} {args:List D} (hf:P.funcs[f]? = some fn) (hb:fn.body=some c) (hname:(fn.name == "runtime.NumGoroutine")=false) (hN:fn.ntmps=N)
    (ha:args.length+1≤N) (hno':lB o'=true)
    (hA:∀(G:Ctx) (a:Act) (w:World),(∀ d,G.Z d=none)→SR G N [] (St1 h o args N) a w→WC P c (fun e a' w'=>∃ σ,((e=.normal∨e=.ret)∧iX P fn.results.toList σ=some (.tp [])∧σ.H 0=some o')∧SR G N [] σ a' w') a w):jX P f h o args o' (.tp []):=by
  intro A W vs b hAl hAb hbl hob hl hv0 hv
  have hn:¬ fn.name = "runtime.NumGoroutine" := by simpa using hname
  refine⟨fun w=>by simp[callFunc,hf,hn,hb],?_⟩
  refine gX hf hb ?_
  subst hN
  refine(WpR.plain P).okv fun hok=>?_
  have hsr:=SR1 (N:=fn.ntmps) hok hAl hAb hbl hob hl hv0 hv ha
  refine cD (hA _ _ _ (fun _=>rfl) hsr) ?_
  rintro e a w0 ⟨σ,⟨he,hr,hH0⟩,hs0⟩
  have hend:a.defers=[]∧∀ w,Env w0 w→∃ v,aO P (results fn a.tmps) w=.ok v w∧∃ ob',Kept (·=b) W.heap.size W w∧w.heap[b]? = some ob' ∧
      (∀ cur e,W.heap[b]? = some (.cells cur e (0,0))→∃ cur',ob'=.cells cur' e (0,0)∧cur'.size=cur.size) ∧
      CR (fun k=>A k∨(W.heap.size≤k∧k<w.heap.size)) w (ι1 b) o' ob'∧VD (fun k=>A k∨(W.heap.size≤k∧k<w.heap.size)) w (.tp []) v:=by
   refine⟨hs0.2.2.2.elim fun _ h=>h.elim fun _ h=>h.2.2.2.2.1,fun w henv=>?_⟩
   have hs:=hs0.env henv
   obtain⟨_,_,_,F,ι,hR,hdom,hVs,_,hdf,hp⟩:=hs
   obtain⟨v,hrun,hvd⟩:=mZ hR hVs hr
   obtain⟨b',hb'⟩:=(hdom 0).2 (by rw[hH0];rfl)
   have hbb:=hp b' hb'
   simp only at hbb
   subst hbb
   obtain⟨ob',hob',hcr⟩:=hR.obj 0 b' o' hb' hH0
   have hnF:¬F b':=(hR.place 0 b' hb').2.2 (fun x=>x)
   have hFA:∀ k,F k→A k∨(W.heap.size≤k∧k<w.heap.size):=fun k hk=>by
     rcases hR.F_ok k hk with h|h|h
     · exact .inl h
     · simp only at h;subst h;exact(hnF hk).elim
     · exact .inr ⟨h,hR.F_lt k hk⟩
   refine⟨v,hrun,ob',hR.kept,hob',fun cur e he=>?_,(aBp hno' hcr).step ⟨hFA,fun _ _=>rfl,fun _ _ h=>h,fun _ _ cur _ _ h=>⟨cur,h,rfl⟩⟩,?_⟩
   · obtain⟨cur',h1,h2⟩:=hR.kept.shape b' cur e hbl he
     rw[hob']at h1;injection h1 with h1
     exact⟨cur',h1,h2⟩
   · cases hvd with|tp ds vs hl hh=>exact .tp _ _ hl fun k d v hk=>by simp at hk
  rcases he with rfl|rfl<;>exact hend
def bBa(P:Program)(E:Kn)(fuel:Nat)(f:FuncId)(h:AV)(o:HO)(args:List D):Option (HO×D) :=
  match P.funcs[f]? with
  |none=>none
  | some fn=>match fn.body with
    | some c=>if aWe P fn c&&decide (args.length+1≤fn.ntmps)then match ex P E fuel c (St1 h o args fn.ntmps)with
      | some (e,σ)=>match σ.H 0,bOh P fn (some (e,σ))with
        |some o',some (.tp [])=>if lB o' then some (o',.tp [])else none
        |_,_=>none
      |none=>none
      else none
    |_=>none
theorem aIn{E:Kn}{fuel:Nat}(hm:P.follows .mixedOrders=true)(hE:aHl P E){f:FuncId}{h0:AV}{o o':HO}{args:List D}{r:D}(h:bBa P E fuel f h0 o args=some (o',r)):jX P f h0 o args o' r:=by
  unfold bBa at h
  split at h
  · cases h
  rename_i fn hfn
  split at h
  case h_2=>cases h
  rename_i c hc
  split at h
  case isFalse=>cases h
  rename_i hok
  simp only[aWe,A1,CW,BO]at hok
  obtain⟨⟨⟨h1,h2⟩,h3⟩,h4⟩:=hok
  split at h
  case h_2=>cases h
  rename_i e σ hex
  split at h
  case h_2=>cases h
  rename_i o1 hH hr
  split at h
  case isFalse=>cases h
  rename_i hfl
  injection h with h;injection h with e1 e2;subst e1;subst e2
  obtain⟨he,hr3⟩:=vO hr
  refine wC hfn hc h3 rfl h4 hfl fun G a w hZ hs=>cD (aAg hE hm hZ fuel c _ a w _ _ h1 h2 hex hs) ?_
  rintro e' a' w' ⟨rfl,hs'⟩
  exact⟨σ,⟨he,hr3,hH⟩,hs'⟩
def jW(P:Program)(E:Kn)(fuel:Nat):Nat→Kn
  |0=>{ E with call:=fun _ _=>none,ocall:=fun _ _ _ _=>none }
  | n+1=>{ E with
      call:=fun f args=>match E.call f args with|some r=>some r|none=>bSq P (jW P E fuel n) fuel f args
      ocall:=fun f h o args=>match E.ocall f h o args with|some r=>some r|none=>match o with
        |.cells _ _=>bBa P (jW P E fuel n) fuel f h o args
        |_=>bBb P (jW P E fuel n) fuel f h o args }
theorem oY{E:Kn}{fuel:Nat}(hm:P.follows .mixedOrders=true)(hE:aHl P E):∀ n,aHl P (jW P E fuel n)
  |0=>⟨(fun _ _ _ h=>by cases h),(fun _ _ _ _ _ _ h=>by cases h),hE.keys,hE.sorted⟩
  | n+1=>by
    have ih:=oY (fuel:=fuel) hm hE n
    refine⟨fun f ds r h=>?_,fun f h0 o ds o' r h=>?_,hE.keys,hE.sorted⟩
    · unfold jW at h
      simp only at h
      split at h
      · rename_i r' hr';injection h with h;subst h;exact hE.call _ _ _ hr'
      · exact aNn hm ih h
    · unfold jW at h
      simp only at h
      split at h
      · rename_i r' hr';injection h with h;subst h;exact hE.ocall _ _ _ _ _ _ hr'
      · split at h
        · exact aIn hm ih h
        · exact aIo hm ih h
def E00:Kn:=⟨fun _ _=>none,fun _ _ _ _=>none,fun _=>none,fun _ _=>false⟩
end
end Go.Am
end
section
open List renaming map_map→ζ,mapM_map→ξ
open Go Go.Am Go.Proofs
namespace Go.Am
theorem xP[M:Mch Aa](x p:Nat)(hp:0<p):Spec Aa 100 [.i .u64 x,.i .u64 p] (.i .u64 (x%p:Nat)):=by
 refine bI (N:=10) Tryz.func100 ?_
 have h0:((p:Int)==0)=false:=by simp;omega
 have ht:((x:Int).tmod (p:Int))=(x:Int)%(p:Int):=B5 (by omega)
 have h1:¬p=0:=by omega
 simp[-ζ,-ξ,↓KW,h0,h1,ht]
theorem xU[M:Mch Aa](p a b:Nat)(hp:0<p)(hab:a*b<18446744073709551616):Spec Aa 89 [.i .u64 p,.i .u64 a,.i .u64 b] (.i .u64 (a*b%p:Nat)):=by
 refine bI (N:=12) Tryz.func89 ?_
 have hw:Az.wrap ((a:Int)*(b:Int))=((a*b:Nat):Int):=by rw[←CB];exact wrap_u64 (by omega) (by omega)
 have hR:=xP (a*b) p hp
 generalize a*b%p=r at *
 generalize a*b=z at *
 simp[-ζ,-ξ,↓KW,hw]
 refine aH hR ?_
 simp[-ζ,-ξ,↓KW]
def rX(p:Nat):Nat→Nat→Nat→Nat→Nat
 |0,r,_,_=>r
 |n+1,r,a,e=>if e=0 then r else rX p n (if e%2=1 then r*a%p else r) (a*a%p) (e/2)
theorem aUw(p n r a:Nat):rX p n r a 0=r:=by cases n<;>simp[rX]
set_option maxHeartbeats 4000000 in
set_option maxRecDepth 10000 in
theorem aRb[M:Mch Aa](p a e:Nat)(hp:0<p)(hp1:p≤2147483648)(ha:a≤2147483648)(he:e<18446744073709551616) :
  Spec Aa 99 [.i .u64 p,.i .u64 a,.i .u64 e] (.i .u64 (rX p 64 (1%p) a e:Nat)):=by
 refine bI (N:=26) Tryz.func99 ?_
 have hR:=xP 1 p hp
 simp[-ζ,-ξ,↓KW]
 refine aH hR ?_
 simp[-ζ,-ξ,↓KW]
 have hm:∀ x:Nat,x%p≤2147483648:=fun x=>by have:=BY x hp;omega
 have hmm:∀ x y:Nat,x≤2147483648→y≤2147483648→x*y<18446744073709551616:=fun x y h1 h2=>Bo (Bg h1 h2) (by decide)
 obtain⟨R,hRR⟩:∃ R,rX p 64 (1%p) a e=R:=⟨_,rfl⟩
 have hc1:((1:Int)%(p:Int))=((1%p:Nat):Int):=by simp
 rw[hRR,hc1]
 have hr0:=hm 1
 generalize 1%p=r0 at *
 refine lL (τ:={ x:Nat×Nat×Nat×Nat // rX p x.1 x.2.1 x.2.2.1 x.2.2.2=R∧x.2.2.2<2^x.1∧x.1≤64∧x.2.1≤2147483648∧x.2.2.1≤2147483648 })
  (S:=fun x=>StL [(0,.d (.i .u64 p)),(1,.d (.i .u64 (x.1.2.2.1:Nat))),(2,.d (.i .u64 (x.1.2.2.2:Nat))),(7,.d (.i .u64 (x.1.2.1:Nat)))] none []) (m:=fun x=>x.1.1) ⟨(64,r0,a,e),hRR,by simpa using he,AE _,hr0,ha⟩ ?_ ?_
 ·refine wkQ [] ?_ ?_<;>simp[-ζ,upd,aT,Γ0]
 ·rintro⟨⟨n,r,a,e⟩,h1,h2,h3,h4,h5⟩
  simp only at h1 h2 h3 h4 h5 ⊢
  rcases Be e with he0|he0
  ·subst he0
   rw[aUw]at h1
   subst h1
   simp[-ζ,-ξ,↓KW]
  ·obtain⟨n,rfl⟩:∃ k,n=k+1:=by
    cases n with
    |zero=>simp at h2;omega
    |succ n=>exact⟨n,rfl⟩
   have hsh:dW .shr .u64 (e:Int) 1=some (.i .u64 ((e/2:Nat):Int)):=by
    simp only[dW,Cz]
    rw[Aj (by decide)]
    congr 2
    rw[show(2:Int)^(min (1:Int).toNat 64)=2 from by decide,CL _ (by decide)]
    simp
   have heb:e<18446744073709551616:=A3 h2 (AO (B4 (by decide) h3) (by decide))
   have hbt:bits .and .u64 (e:Int) 1=((e%2:Nat):Int):=by
    have:=bits_and_u64_nat e 1 heb (by decide)
    rw[Nat.and_one_is_mod]at this
    exact this
   have hn2:e/2<2^n:=by rw[BJ]at h2;omega
   unfold rX at h1
   rw[Aj (by omega)]at h1
   have hM2:=xU p a a hp (hmm a a h5 h5)
   have hm2:=hm (a*a)
   generalize a*a%p=a2 at *
   generalize e/2=e2 at *
   by_cases hodd:e%2=1
   ·have hM1:=xU p r a hp (hmm r a h4 h5)
    have hm1:=hm (r*a)
    rw[Ar hodd]at h1
    generalize r*a%p=r2 at *
    rw[hodd]at hbt
    replace hbt:dJ .and false (.d (.i .u64 (e:Int))) (.d (.i .u64 1))=some (.i .u64 1):=by show some (D.i .u64 (bits .and .u64 (e:Int) 1))=_;rw[hbt];rfl
    simp[-ζ,-ξ,↓KW,he0,hbt]
    refine aH hM1 ?_
    simp[-ζ,-ξ,↓KW]
    refine aH hM2 ?_
    simp[-ζ,-ξ,↓KW,hsh]
    refine⟨n,Cj _,r2,a2,e2,⟨h1,hn2,by omega,hm1,hm2⟩,.inr (wkQ [] ?_ ?_)⟩<;>simp[-ζ,upd,aT,Γ0]
   ·have hz:e%2=0:=by omega
    rw[Aj hodd]at h1
    rw[hz]at hbt
    replace hbt:dJ .and false (.d (.i .u64 (e:Int))) (.d (.i .u64 1))=some (.i .u64 0):=by show some (D.i .u64 (bits .and .u64 (e:Int) 1))=_;rw[hbt];rfl
    simp[-ζ,-ξ,↓KW,he0,hbt]
    refine aH hM2 ?_
    simp[-ζ,-ξ,↓KW,hsh]
    refine⟨n,Cj _,r,a2,e2,⟨h1,hn2,by omega,h4,hm2⟩,.inr (wkQ [] ?_ ?_)⟩<;>simp[-ζ,upd,aT,Γ0]
def EPc(f:FuncId)(ds:List D):Option D :=
 if f=99 then match ds with
  |[.i .u64 p,.i .u64 a,.i .u64 e]=>if 0<p∧p≤2147483648∧0≤a∧a≤2147483648∧0≤e∧e<18446744073709551616 then some (.i .u64 (rX p.toNat 64 (1%p.toNat) a.toNat e.toNat:Nat))else none
  |_=>none
 else if f=89 then match ds with
  |[.i .u64 p,.i .u64 a,.i .u64 b]=>if 0<p∧0≤a∧0≤b∧a*b<18446744073709551616 then some (.i .u64 (a.toNat*b.toNat%p.toNat:Nat))else none
  |_=>none
 else none
theorem bVl[M:Mch Aa]{f:FuncId}{ds:List D}{r:D}(h:EPc f ds=some r):Spec Aa f ds r:=by
 unfold EPc at h
 split at h
 ·rename_i hf;subst hf
  split at h
  ·rename_i p a e
   split at h
   ·rename_i hc
    injection h with h;subst h
    obtain⟨h1,h2,h3,h4,h5,h6⟩:=hc
    have:=aRb p.toNat a.toNat e.toNat (by omega) (by omega) (by omega) (by omega)
    rwa [B0 (by omega),B0 h3,B0 h5]at this
   ·cases h
  ·cases h
 ·split at h
  ·rename_i hf;subst hf
   split at h
   ·rename_i p a b
    split at h
    ·rename_i hc
     injection h with h;subst h
     obtain⟨h1,h2,h3,h4⟩:=hc
     have:=xU p.toNat a.toNat b.toNat (by omega) (by
      have:((a.toNat*b.toNat:Nat):Int)=a*b:=by rw[CB,B0 h2,B0 h3]
      omega)
     rwa [B0 (by omega),B0 h2,B0 h3]at this
    ·cases h
   ·cases h
  ·cases h
def EP:Kn:={ E00 with call:=EPc }
theorem aSt[M:Mch Aa]:aHl Aa EP:=⟨fun f ds r h=>bVl h,fun _ _ _ _ _ _ h=>by(cases h),fun _ _ h=>by(cases h),fun _ _ h=>by(cases h)⟩
noncomputable def prB(n:Nat):Nat:=match(jW Aa EP 100 20).call 52 [.i .u64 n]with
 |some (.b true)=>1
 |some (.b false)=>2
 |_=>0
theorem bBq[M:Mch Aa]{n:Nat}{b:Bool}(h:prB n=if b then 1 else 2):Spec Aa 52 [.i .u64 n] (.b b):=by
 refine(oY (fuel:=100) aW aSt 20).call _ _ _ ?_
 unfold prB at h
 split at h
 ·rename_i he;rw[he];cases b<;>first|rfl|cases h
 ·rename_i he;rw[he];cases b<;>first|rfl|cases h
 ·cases b<;>cases h
noncomputable def zW(n m:Nat):Bool:=(AK (n-m)).all fun k=>prB (m+k)==if k==0 then 1 else 2
theorem fO[M:Mch Aa]{n m:Nat}(h:m<n)(hn:n≤2147483648)(hg:zW n m=true):Spec Aa 163 [.i .u64 n] (.i .u64 m):=by
 refine aPu n m h hn fun v h1 h2=>bBq ?_
 have:=A4.1 hg (v-m) (CK.2 (by omega))
 rw[show m+(v-m)=v from by omega,beq_iff_eq]at this
 rw[this]
 by_cases hv:v=m
 ·subst hv;simp
 ·have:v-m≠0:=by omega
  simp[hv,this]
theorem cAc:zW 2147483648 2147483647=true:=by kernel_rfl
theorem cAb:zW 2147483647 2147483629=true:=by kernel_rfl
theorem cAa:zW 2147483629 2147483587=true:=by kernel_rfl
theorem bZz:zW 2147483587 2147483579=true:=by kernel_rfl
theorem bZy:zW 2147483579 2147483563=true:=by kernel_rfl
theorem bZx:zW 2147483563 2147483549=true:=by kernel_rfl
theorem bZw:zW 2147483549 2147483543=true:=by kernel_rfl
theorem bZv:zW 2147483543 2147483497=true:=by kernel_rfl
theorem bZu:zW 2147483497 2147483489=true:=by kernel_rfl
theorem bZt:zW 2147483489 2147483477=true:=by kernel_rfl
def P10:List Nat:=[2147483647,2147483629,2147483587,2147483579,2147483563,2147483549,2147483543,2147483497,2147483489,2147483477]
theorem bFs[M:Mch Aa]:jA 2147483648 P10 :=
 ⟨by decide,by decide,fO (by decide) (by decide) cAc,by decide,by decide,fO (by decide) (by decide) cAb,by decide,by decide,fO (by decide) (by decide) cAa,by decide,by decide,fO (by decide) (by decide) bZz,by decide,by decide,fO (by decide) (by decide) bZy,by decide,by decide,fO (by decide) (by decide) bZx,by decide,by decide,fO (by decide) (by decide) bZw,by decide,by decide,fO (by decide) (by decide) bZv,by decide,by decide,fO (by decide) (by decide) bZu,by decide,by decide,fO (by decide) (by decide) bZt,trivial⟩
theorem jA.drop[M:Mch Aa]:∀{k n:Nat} {l:List Nat},jA n l→k<l.length→jA (if k=0 then n else l[k-1]!) (l.drop k)
 |0,n,l,h,_=>h
 |k+1,n,[],h,hk=>by simp at hk
 |1,n,x::l,h,hk=>h.2.2.2
 | k+2,n,x::l,h,hk=>by
  have:=jA.drop (k:=k+1) h.2.2.2 (by simp only[Ah]at hk;omega)
  simpa using this
theorem jA.take[M:Mch Aa]:∀{k n:Nat} {l:List Nat},jA n l→jA n (l.take k)
 |0,n,l,h=>trivial
 |k+1,n,[],h=>trivial
 |k+1,n,x::l,h=>⟨h.1,h.2.1,h.2.2.1,jA.take h.2.2.2⟩
theorem aWs(m n:Nat):kX (aM m) (aM n)=0↔m=n:=by
 unfold kX
 rw[fF,fF]
 by_cases h1:m<n
 ·simp[h1];omega
 ·by_cases h2:n<m
  ·simp[h1,h2];omega
  ·simp[h1,h2];omega
theorem bGd(a b:List Nat):-1≤kX a b∧kX a b≤1:=by
 unfold kX
 split
 ·exact⟨by decide,by decide⟩
 ·split<;>exact⟨by decide,by decide⟩
theorem bGc(m n:Nat):kX (aM m) (aM n)=if m<n then -1 else if n<m then 1 else 0:=by
 unfold kX
 rw[fF,fF]
 by_cases h1:m<n
 ·simp[h1]
 ·by_cases h2:n<m
  ·simp[h1,h2]
  ·simp[h1,h2]
theorem jH(x:Int):x.sign=if x<0 then -1 else if x=0 then 0 else 1:=by
 rcases Ff x 0 with h|h|h
 ·rw[DN h,Ar h]
 ·subst h;rfl
 ·rw[DG h,Aj (by omega),Aj (by omega)]
theorem bKd{x y:Int}(hs:x.sign=y.sign):0<x.sign*kX (aM x.natAbs) (aM y.natAbs)↔y<x:=by
 rw[bGc]
 rw[jH,jH]at hs
 rw[jH]
 split at hs<;>(try split at hs)<;>(try split at hs)<;>(try split at hs)<;>simp_all<;>(try omega)
 all_goals (split<;>(try split)<;>omega)
theorem bAd{x y:Int}(hs:¬x.sign=y.sign):0<mD x.sign y.sign↔y<x:=by
 unfold mD
 rw[jH,jH]at hs ⊢
 split at hs<;>(try split at hs)<;>(try split at hs)<;>(try split at hs)<;>simp_all<;>(try omega)
theorem aRw[M:Mch Aa](x y:Int)(hx:Sz x)(hy:Sz y):∃ r:Int,Spec Aa 48 [encZ x,encZ y] (.i .i64 r)∧(0<r↔y<x):=by
 have hSx:=zP x hx
 have hSy:=zP y hy
 have hTx:=lM (aM x.natAbs) (AO hx (by decide))
 have hTy:=lM (aM y.natAbs) (AO hy (by decide))
 rw[oT (nU _)]at hTx hTy
 have hC:=zQ (aM x.natAbs) (aM y.natAbs) (bW _) (bW _) (AO hx (by decide)) (AO hy (by decide))
 have hc0:=aWs x.natAbs y.natAbs
 have hcb:=bGd (aM x.natAbs) (aM y.natAbs)
 have hI:=bGe x.sign y.sign
 by_cases hs:x.sign=y.sign
 ·refine⟨x.sign*kX (aM x.natAbs) (aM y.natAbs),?_,?_⟩
  rotate_left
  ·exact bKd hs
  ·refine bI (N:=26) Tryz.func48 ?_
   have hne:((x.sign != y.sign):Bool)=false:=by simp[hs]
   have hsb:-1≤x.sign∧x.sign≤1:=by
    rcases Ff x 0 with h|h|h
    ·rw[DN h];decide
    ·subst h;decide
    ·rw[DG h];decide
   generalize kX (aM x.natAbs) (aM y.natAbs)=r at *
   generalize y.sign=sy at *
   generalize x.sign=sx at *
   have hw:Ag.wrap (sx*r)=sx*r:=by
    have h1:sx=-1∨sx=0∨sx=1:=by omega
    rcases h1 with rfl|rfl|rfl<;>exact aV
   simp[-ζ,-ξ,↓KW,bF,aA,aD,aC,aE,aB]
   refine aH hSx ?_
   simp[-ζ,-ξ,↓KW,bF,aA,aD,aC,aE,aB]
   refine aH hSy ?_
   simp[-ζ,-ξ,↓KW,hne,aA,aD,aC,aE,aB]
   refine aH hTx ?_
   simp[-ζ,-ξ,↓KW,aA,aD,aC,aE,aB]
   refine aH hTy ?_
   simp[-ζ,-ξ,↓KW,aA,aD,aC,aE,aB]
   refine aH hC ?_
   simp[-ζ,-ξ,↓KW,hw,aA,aD,aC,aE,aB]
 ·refine⟨mD x.sign y.sign,?_,?_⟩
  rotate_left
  ·exact bAd hs
  ·refine bI (N:=26) Tryz.func48 ?_
   have hne:((x.sign != y.sign):Bool)=true:=by simpa using hs
   generalize y.sign=sy at *
   generalize x.sign=sx at *
   simp[-ζ,-ξ,↓KW,bF,aA,aD,aC,aE,aB]
   refine aH hSx ?_
   simp[-ζ,-ξ,↓KW,bF,aA,aD,aC,aE,aB]
   refine aH hSy ?_
   simp[-ζ,-ξ,↓KW,hne,aA,aD,aC,aE,aB]
   refine aH hI ?_
   simp[-ζ,-ξ,↓KW]
theorem eQ{P:Program}(σ:St)(x y:ResultVar):iX P [x,y] σ=(jT P σ x).bind fun a=>(jT P σ y).bind fun b=>(frz σ.H 8 a).bind fun u=>(frz σ.H 8 b).bind fun v=>some (.tp [u,v]):=by
 unfold iX
 cases h1:jT P σ x<;>cases h2:jT P σ y<;>simp[cO,h1,h2]
 rename_i a b
 cases frz σ.H 8 a<;>cases frz σ.H 8 b<;>simp
theorem aNq{P:Program}(σ:St)(x y z:ResultVar):iX P [x,y,z] σ=(jT P σ x).bind fun a=>(jT P σ y).bind fun b=>(jT P σ z).bind fun c=>(frz σ.H 8 a).bind fun u=>(frz σ.H 8 b).bind fun v=>(frz σ.H 8 c).bind fun w=>some (.tp [u,v,w]):=by
 unfold iX
 cases h1:jT P σ x<;>cases h2:jT P σ y<;>cases h3:jT P σ z<;>simp[cO,h1,h2,h3]
 rename_i a b c
 cases frz σ.H 8 a<;>cases frz σ.H 8 b<;>cases frz σ.H 8 c<;>simp
def shS(a:List Nat)(d:Nat):Nat→List Nat×Nat
 |0=>(Aw a.length 0,0)
 |k+1=>((shS a d k).1.set (a.length-1-k) (((shS a d k).2*4294967296+a.getD (a.length-1-k) 0)/d),((shS a d k).2*4294967296+a.getD (a.length-1-k) 0)%d)
theorem bAc{o v v' p q d r r' x t t' w:Nat}(hs:v'+p*o=v+p*q)(ho:o=0)(ht:r*4294967296+x=t)(hq:r'+d*q=t)(hv:v*d+p*4294967296*r+(t'+p*x)=w):v'*d+p*r'+t'=w:=by
 subst ho
 have h1:v'=v+p*q:=by omega
 have h2:p*t=p*(r*4294967296)+p*x:=by rw[←ht,Cq]
 have h3:p*t=p*r'+p*(d*q):=by rw[←hq,Cq]
 have h4:p*q*d=p*(d*q):=by rw[BT,BV q]
 have h5:p*4294967296*r=p*(r*4294967296):=by rw[BT,BV r]
 rw[h1,B2,h4]
 omega
theorem bQa{r x d:Nat}(hr:r<d)(hx:x<4294967296):(r*4294967296+x)/d<4294967296:=by
 rw[Nat.div_lt_iff_lt_mul (by omega)]
 have:r*4294967296+4294967296≤d*4294967296:=by
  have:=B3 4294967296 (Nat.succ_le_of_lt hr)
  rw[Nat.succ_mul]at this;exact this
 rw[BV 4294967296]
 omega
theorem aQq{a:List Nat}{d:Nat}(ha:Lim a)(hd:0<d)(k:Nat)(hk:k≤a.length) :
  (shS a d k).1.length=a.length∧(shS a d k).2<d∧Lim (shS a d k).1∧(∀ i,i<a.length-k→(shS a d k).1.getD i 0=0) ∧
  val (shS a d k).1*d+4294967296^(a.length-k)*(shS a d k).2+val (a.take (a.length-k))=val a:=by
 induction k with
 |zero=>exact⟨by simp[shS],hd,.rep _,fun i _=>by simp[shS,Dr];split<;>rfl,by simp[shS,xK]⟩
 | succ k ih =>
  obtain⟨h1,h2,h3,h4,h5⟩:=ih (by omega)
  obtain⟨j,hj⟩:∃ j,a.length-1-k=j:=⟨_,rfl⟩
  have hj1:a.length-k=j+1:=by omega
  have hj2:a.length-(k+1)=j:=by omega
  have hx:=ha.getD j
  have hset:=aEy (l:=(shS a d k).1) (j:=j) (by omega) (((shS a d k).2*4294967296+a.getD j 0)/d)
  have hoj:=h4 j (by omega)
  simp only[shS,hj,hj2]
  rw[hj1,cF,BJ]at h5
  have hlt:=bQa h2 hx
  refine⟨by simp[h1],BY _ hd,h3.set _ hlt,fun i hi=>?_,?_⟩
  ·rw[Af,List.getElem?_set_ne (by omega),←Af]
   exact h4 i (by omega)
  ·exact bAc hset hoj rfl (Nat.mod_add_div _ _) h5
def shQ(a:List Nat)(d:Nat):List Nat:=(shS a d a.length).1
theorem aFd{a:List Nat}{d:Nat}(ha:Lim a)(hd:0<d):(shQ a d).length=a.length∧Lim (shQ a d)∧val (shQ a d)=val a/d∧(shS a d a.length).2=val a%d:=by
 obtain⟨h1,h2,h3,_,h5⟩:=aQq ha hd a.length (AE _)
 rw[Eo,Nat.pow_zero,Dg,BG,val,B6]at h5
 have:=(Nat.div_mod_unique hd).2 ⟨show(shS a d a.length).2+d*val (shQ a d)=val a by rw[BV,En];exact h5,h2⟩
 exact⟨h1,h3,this.1.symm,this.2.symm⟩
set_option maxRecDepth 10000 in
theorem aIw[M:Mch Aa](a:List Nat)(d:Nat)(ha:Lim a)(hd:0<d)(hd2:d<4294967296)(hla:a.length≤1099511627776):Spec Aa 196 [aG a,.i .u32 d] (.tp [aG (shQ a d),.i .u32 ((val a%d:Nat):Int)]):=by
 refine bI (N:=42) Tryz.func196 ?_
 obtain⟨n,hn⟩:∃ n,a.length=n:=⟨_,rfl⟩
 have hm1:(4:Int)*n≤281474976710656:=by omega
 have hm2:(n:Int)≤9223372036854775807:=by omega
 have hw1:Ag.wrap ((n:Int)-1)=(n:Int)-1:=aV
 have hwd:Az.wrap (d:Int)=d:=wrap_u64 (by omega) (by omega)
 have hdz:¬d=0:=by omega
 have h00:(shS a d 0).1=Aw n 0:=by rw[←hn];rfl
 have h01:(shS a d 0).2=0:=rfl
 simp[-ζ,-ξ,↓KW,aG,hn,hw1,hm1,hm2]
 refine cL (fun k:Nat=>k≤n)
  (fun k=>StL [(0,.d (aG a)),(1,.d (.i .u32 d)),(6,.own 1 0 n 1),(7,.d (.i .u64 (shS a d k).2)),(8,.d (.i .i64 ((n:Int)-1-k)))] none
   [.cells 89 ((lms (shS a d k).1).map .d)]) (fun k=>n-k) 0 (A8 _) ?_ ?_
 ·refine wkQ [1] ?_ ?_<;>simp[-ζ,upd,aT,Γ0,aG,h00,h01]
 ·intro k hk
  obtain⟨ol,oc,om,_,_⟩:=aQq ha hd k (by omega)
  rw[hn]at ol
  by_cases hgo:k<n
  ·have q1:(0:Int)≤(n:Int)-1-k:=by omega
   obtain⟨j,hj⟩:∃ j,a.length-1-k=j:=⟨_,rfl⟩
   have hji:(n:Int)-1-k=j:=by omega
   have hsucc:shS a d (k+1)=((shS a d k).1.set j (((shS a d k).2*4294967296+a.getD j 0)/d),((shS a d k).2*4294967296+a.getD j 0)%d):=by rw[←hj];rfl
   have g1:=getD_some (l:=a) (i:=j) (by omega)
   have hx:=ha.getD j
   have hlt:=bQa oc hx
   generalize hout:(shS a d k).1=out at *
   generalize hcar:(shS a d k).2=r at *
   generalize a.getD j 0=x at *
   obtain⟨t,ht⟩:∃ t,r*4294967296+x=t:=⟨_,rfl⟩
   rw[ht]at hsucc hlt
   obtain⟨q,hq⟩:∃ q,t/d=q:=⟨_,rfl⟩
   obtain⟨r',hr'⟩:∃ r',t%d=r':=⟨_,rfl⟩
   rw[hq,hr']at hsucc
   rw[hq]at hlt
   have hr'd:r'<d:=by rw[←hr'];exact BY _ hd
   have hwx:Az.wrap (x:Int)=x:=wrap_u64 (by omega) (by omega)
   have hwr:Az.wrap ((r:Int)*4294967296)=(r:Int)*4294967296:=wrap_u64 (by omega) (by omega)
   have hwt:Az.wrap ((r:Int)*4294967296+x)=t:=by rw[wrap_u64 (by omega) (by omega)];omega
   have hwq:Az.wrap ((t:Int)/d)=q:=by rw[←EN,hq,wrap_u64 (by omega) (by omega)]
   have hwq2:BC.wrap (q:Int)=q:=wrap_u32 (by omega) (by omega)
   have hwm:Int.tmod (t:Int) d=r':=by rw[←Int.ofNat_tmod,hr']
   have hw8:Ag.wrap ((j:Int)-1)=(j:Int)-1:=aV
   have hjn:j<n:=by omega
   have hjl3:j+1≤n:=by omega
   have hlay:lay (CI AV.d (lms out)) j [AV.d (D.i .u32 (q:Int))]=CI AV.d (lms (out.set j q)):=by
    rw[fR _ _ _ (by rw[jJ];omega),tO]
   have he:(n:Int)-1-((k:Int)+1)=(j:Int)-1:=by omega
   rw[hji]
   simp[-ζ,-ξ,↓KW,aG,g1,hwx,hwr,hwt,hwd,hdz,hwq,hwq2,hwm,hw8,hjn,hjl3,hlay,ol]
   refine aN (k+1) hgo ?_ (wkQ [1] ?_ ?_)
   ·omega
   ·simp[-ζ,upd,aT,Γ0,aG,hsucc,he]
   ·simp[-ζ,upd,aT,Γ0,aG,hsucc,he]
  ·have e:k=n:=by omega
   have q1:¬(k:Int)≤(n:Int)-1:=by omega
   obtain⟨s1,s2,s3,s4⟩:=aFd ha hd
   have e1:(shS a d k).1=shQ a d:=by rw[e,←hn];rfl
   have e2:(shS a d k).2=val a%d:=by rw[e,←hn];exact s4
   rw[hn]at s1
   have hrd:val a%d<d:=BY _ hd
   have e3:(val a:Int)%d=((val a%d:Nat):Int):=by rw[Int.natCast_emod]
   rw[e1,e2]
   generalize val a%d=r at *
   have hwr:BC.wrap (r:Int)=r:=wrap_u32 (by omega) (by omega)
   simp[-ζ,-ξ,↓KW,aG,q1,s1,dT s1,cR s1,hwr,e3,eQ]
theorem aTj{u:Nat}(hu:u<18446744073709551616):∃ lo hi:Nat,Lim [lo,hi]∧val [lo,hi]=u∧BC.wrap (u:Int)=lo∧dW .shr .u64 (u:Int) 32=some (.i .u64 hi)∧BC.wrap (hi:Int)=hi:=by
 refine⟨u%4294967296,u/4294967296,.cons (by omega) (.one (by omega)),by simp only[val];omega,by rw[fL];omega,?_,by rw[wrap_u32 (by omega) (by omega)]⟩
 simp only[dW,Cz]
 rw[Aj (by decide)]
 congr 2
 rw[show(2:Int)^(min (32:Int).toNat 64)=4294967296 from by decide,CL _ (by decide)]
 omega
theorem yK{l:List Nat}{n:Nat}(hn:l.length=n+1):val l=val (l.take n)+4294967296^n*l.getD n 0:=by
 rw[←cF,Ax (by omega)]
theorem aZb{l:List Nat}{n:Nat}(hn:l.length=n+2):val l=val (l.take n)+4294967296^n*(l.getD (n+1) 0*4294967296+l.getD n 0):=by
 rw[yK hn,cF,BJ,Cq,BT,BV 4294967296];omega
theorem aMo{l:List Nat}{n:Nat}(h:Lim l)(hn:l.length=n+1):val l<4294967296^n*(l.getD n 0+1):=by
 have h1:=oQ (h.take n)
 rw[AT,Df (by omega)]at h1
 rw[yK hn,Cq,DJ];omega
theorem bEy{p q e low t D R:Nat}(hD:D≤q*low)(he:e*low≤t)(hR:p*q*t≤R):p*e*D≤R:=by
 refine AO (Cc _ hD) (AO ?_ hR)
 have:p*e*(q*low)=p*q*(e*low):=by
  rw[BT,BT,Fg e]
 rw[this];exact Cc _ he
theorem aVv{a b:List Nat}(hb:Lim b)(hc:lS a)(hla:Lim a)(h:val a≤val b):a.length≤b.length:=by
 have e1:=bFp hla hc
 rw[←e1]
 exact dB (Bo h (oQ hb))
set_option maxRecDepth 10000 in
theorem aIy[M:Mch Aa](r d:List Nat)(hr:Lim r)(hd:Lim d)(hcr:lS r)(hcd:lS d)(hd0:d≠[])(hle:val d≤val r)(hl:r.length≤137438953472) :
  ∃ e:Nat,0<e∧e*val d≤val r∧Spec Aa 197 [aG r,aG d] (encZ e):=by
 have hlen:=aVv hr hcd hd hle
 have hdl:0<d.length:=Eb.2 hd0
 obtain⟨m,hm⟩:∃ m,d.length=m+1:=⟨d.length-1,by omega⟩
 obtain⟨k,hk⟩:∃ k,r.length=k+(m+1):=⟨r.length-d.length,by omega⟩
 have gd:=getD_some (l:=d) (i:=m) (by omega)
 have gr:=getD_some (l:=r) (i:=k+m) (by omega)
 have hdm:=hd.getD m
 have hrm:=hr.getD (k+m)
 have hdv:=EO (aMo hd hm)
 have hrtop:0<r.getD (k+m) 0:=by
  have h1:r.getLast? = some (r.getD (k+m) 0):=by rw[F0,show r.length-1=k+m by omega];exact gr
  have h2:r.getLast? ≠ some 0:=hcr
  rw[h1]at h2
  rcases Be (r.getD (k+m) 0)with h|h
  ·rw[h]at h2;exact absurd rfl h2
  ·exact h
 generalize hdt:d.getD m 0=dt at *
 obtain⟨low,hlow⟩:∃ low,dt+1=low:=⟨_,rfl⟩
 rw[hlow]at hdv
 have c1:Ag.wrap ((r.length:Int)-d.length)=(k:Int):=by rw[aV];omega
 have c2:Ag.wrap ((d.length:Int)-1)=(m:Int):=by rw[aV];omega
 have c3:Az.wrap (dt:Int)=dt:=wrap_u64 (by omega) (by omega)
 have c4:Az.wrap ((dt:Int)+1)=low:=by rw[wrap_u64 (by omega) (by omega)];omega
 have c5:Ag.wrap ((r.length:Int)-1)=((k+m:Nat):Int):=by rw[aV];omega
 have c6:¬low=0:=by omega
 by_cases hk0:k=0
 ·subst hk0
  rw[AB]at gr hrm hrtop hk
  rw[show((0+m:Nat):Int)=(m:Int)by omega]at c5
  have hv1:4294967296^m*r.getD m 0≤val r:=by rw[yK hk];omega
  generalize r.getD m 0=rt at *
  obtain⟨e0,he0⟩:∃ e0,rt/low=e0:=⟨_,rfl⟩
  have he0':e0*low≤rt:=by rw[←he0];exact Nat.div_mul_le_self _ _
  have he0l:e0≤rt:=by rw[←he0];exact DW _ _
  have c7:Az.wrap (rt:Int)=rt:=wrap_u64 (by omega) (by omega)
  have c8:Az.wrap ((rt:Int)/low)=e0:=by rw[←EN,he0,wrap_u64 (by omega) (by omega)]
  obtain⟨e,he⟩:∃ e:Nat,max 1 e0=e:=⟨_,rfl⟩
  have c9:Ag.wrap (e:Int)=e:=aV
  refine⟨e,by omega,?_,?_⟩
  ·by_cases h1:e0≤1
   ·have:e=1:=by omega
    rw[this,Dg];exact hle
   ·have:e=e0:=by omega
    rw[this]
    have:=bEy (p:=1) hdv he0' (by rw[Dg];exact hv1)
    rwa [Dg]at this
  ·refine bI (N:=66) Tryz.func197 ?_
   simp[-ζ,-ξ,↓KW,aG,c1,c2,c3,c4,c5,c6,c7,c8,gd,gr,hdt,c9]
   refine bJ (ds:=[.i .i64 e]) ?_ (aIz e (by omega) (by omega)) ?_
   ·have he2:(if(1:Int)<(e0:Int)then(e0:Int)else 1)=e:=by split<;>omega
    simp[-ζ,-ξ,↓KW,he2,c9]
   ·simp[-ζ,-ξ,↓KW,aG,encZ,encI]
 ·obtain⟨j,hj⟩:∃ j,k=j+1:=⟨k-1,by omega⟩
  have hk2:r.length=(j+m)+2:=by omega
  have gs:=getD_some (l:=r) (i:=j+m) (by omega)
  have hrs:=hr.getD (j+m)
  have hv2:=aZb hk2
  rw[show j+m+1=k+m by omega]at hv2
  have c10:Ag.wrap ((r.length:Int)-2)=((j+m:Nat):Int):=by rw[aV];omega
  have c11:Ag.wrap ((k:Int)-1)=(j:Int):=by rw[aV];omega
  obtain⟨n1,hn1⟩:∃ n1,k+m=n1:=⟨_,rfl⟩
  obtain⟨n2,hn2⟩:∃ n2,j+m=n2:=⟨_,rfl⟩
  rw[hn1]at gr hrm hrtop c5 hv2
  rw[hn2]at gs hrs c10 hv2
  generalize r.getD n1 0=rt at *
  generalize r.getD n2 0=rs at *
  have c12:Az.wrap (rt:Int)=rt:=wrap_u64 (by omega) (by omega)
  have c13:Az.wrap (rs:Int)=rs:=wrap_u64 (by omega) (by omega)
  have c14:Az.wrap ((rt:Int)*4294967296)=(rt:Int)*4294967296:=wrap_u64 (by omega) (by omega)
  obtain⟨t,ht⟩:∃ t,rt*4294967296+rs=t:=⟨_,rfl⟩
  rw[ht]at hv2
  have c15:Az.wrap ((rt:Int)*4294967296+rs)=t:=by rw[wrap_u64 (by omega) (by omega)];omega
  obtain⟨e,he⟩:∃ e,t/low=e:=⟨_,rfl⟩
  have he1:e*low≤t:=by rw[←he];exact Nat.div_mul_le_self _ _
  have hel:e≤t:=by rw[←he];exact DW _ _
  have he0:0<e:=by rw[←he];exact Nat.div_pos (by omega) (by omega)
  have c16:Az.wrap ((t:Int)/low)=e:=by rw[←EN,he,wrap_u64 (by omega) (by omega)]
  obtain⟨lo,hi,k1,k2,e3,e4,e5⟩:=aTj (u:=e) (by omega)
  have hpow:4294967296^j*4294967296^m=4294967296^n2:=by rw[←E6,hn2]
  refine⟨4294967296^j*e,E4 (Nat.pow_pos (by decide)) he0,bEy hdv he1 (by rw[hpow];omega),?_⟩
  have hlim:Lim (Aw j 0++[lo,hi]):=(Lim.rep j).app k1
  have hval:val (Aw j 0++[lo,hi])=4294967296^j*e:=by rw[jY,xK,Fp,k2,AB]
  have hlen2:(Aw j 0++[lo,hi]).length=j+2:=by simp
  have hm2:=eB (Aw j 0++[lo,hi]) false (by rw[hlen2];omega)
  rw[cS hlim,hval,show sg false (4294967296^j*e)=((4294967296^j*e:Nat):Int)from rfl]at hm2
  have m1:(4:Int)*j≤281474976710656:=by omega
  have m2:(j:Int)≤9223372036854775807:=by omega
  have m3:(j+2)*4≤140737488355328:=by omega
  have m4:j+2≤maxLen:=by unfold maxLen;omega
  have hrep:(CI AV.d (lms (Aw j 0))).length=j:=by simp[jJ]
  refine bI (N:=66) Tryz.func197 ?_
  generalize 4294967296^j*e=res at *
  have hcells:CI AV.d (lms (Aw j 0))++[AV.d (D.i .u32 (lo:Int)),AV.d (D.i .u32 (hi:Int))]=CI AV.d (lms (Aw j 0++[lo,hi])):=by rw[eC,Ex];rfl
  have hkk:((k:Int)==0)=false:=by simp only[Dx,ne_eq];omega
  simp[-ζ,-ξ,↓KW,aG,c1,c2,c3,c4,c5,c6,c10,c11,c12,c13,c14,c15,c16,gd,gr,gs,hdt,e3,e4,e5,hkk,m1,m2,m3,m4,hrep]
  rw[hcells]
  generalize Aw j 0++[lo,hi]=L at *
  refine bJ (ds:=[aG L,.b false]) ?_ hm2 ?_
  ·simp[-ζ,-ξ,↓KW,aG,hlen2,dT hlen2,cR hlen2]
  ·simp[-ζ,-ξ,↓KW,aG,encZ,encI,hlen2,dT hlen2,cR hlen2]
theorem qJ[M:Mch Aa](x:Int)(hx:(aM x.natAbs).length≤549755813888):Spec Aa 104 [encZ x] (encZ (-x)):=by
 refine bI (N:=9) Tryz.func104 ?_
 have la:=bW x.natAbs
 have va:=cE x.natAbs
 have sx:=fM x
 have ex:encZ x=.ag [.b (decide (x<0)),aG (aM x.natAbs)]:=rfl
 have hm:=eB (aM x.natAbs) (!decide (x<0)) (by omega)
 rw[cS la,va]at hm
 have e:sg (!decide (x<0)) x.natAbs=-x:=by
  unfold sg;by_cases h:x<0<;>simp[h]<;>omega
 rw[e]at hm
 rw[ex]
 generalize aM x.natAbs=a at *
 generalize decide (x<0)=nx at *
 simp[-ζ,-ξ,↓KW,aG]
 refine bJ (ds:=[aG a,.b (!nx)]) ?_ hm ?_
 ·cases nx<;>rfl
 ·simp[-ζ,-ξ,↓KW,aG,encZ,encI]
theorem aFp[M:Mch Aa](x y:Int)(hx:(aM x.natAbs).length≤549755813888)(hy:(aM y.natAbs).length≤549755813888):Spec Aa 65 [encZ x,encZ y] (encZ (x-y)):=by
 refine bI (N:=9) Tryz.func65 ?_
 have h1:=qJ y hy
 have h2:=sZ x (-y) hx (by rw[Fe];exact hy)
 rw[←Int.sub_eq_add_neg]at h2
 simp[-ζ,-ξ,↓KW,encZ,encI,aG]
 refine aH h1 ?_
 simp[-ζ,-ξ,↓KW,encZ,encI,aG]
 refine bJ (ds:=[encZ x,encZ (-y)]) ?_ h2 ?_
 ·simp[-ζ,-ξ,↓KW,encZ,encI,aG]
 ·simp[-ζ,-ξ,↓KW,encZ,encI,aG]
theorem aGx{n:Nat}(h0:n≠0)(h:n<4294967296):aM n=[n]:=by
 rw[gB h0,Ce h,C4 h,cA]
theorem aAh{n:Nat}(h0:n≠0)(h:n<4294967296):encZ (n:Int)=.ag [.b false,.sl [[.i .u32 (n:Int)]]]:=by
 have hd:decide ((n:Int)<0)=false:=by simp
 rw[bF,hd]
 simp[aG,aGx h0 h]
theorem bDt[M:Mch Aa]:Spec Aa 82 [.i .i64 1] (encZ 1):=by
 rw[show(1:Int)=((1:Nat):Int)from rfl,aAh (by decide) (by decide)]
 exact(oY (fuel:=100) aW aSt 20).call 82 [.i .i64 1] (.ag [.b false,.sl [[.i .u32 1]]]) (by kernel_rfl)
noncomputable def wdB(p:Nat):Bool:=match(jW Aa EP 100 20).call 84 [.i .u64 p]with
 |some (.ag [.b false,.sl [[.i .u32 q]]])=>q==(p:Int)
 |_=>false
theorem bVz[M:Mch Aa]{p:Nat}(h0:p≠0)(h:p<4294967296)(hw:wdB p=true):Spec Aa 84 [.i .u64 p] (encZ (p:Int)):=by
 rw[aAh h0 h]
 refine(oY (fuel:=100) aW aSt 20).call _ _ _ ?_
 unfold wdB at hw
 split at hw
 ·rename_i q he
  rw[he,beq_iff_eq]at *
  subst hw;rfl
 ·cases hw
theorem bYn:(P10.all wdB)=true:=by kernel_rfl
theorem aYl[M:Mch Aa]{p:Nat}(h:p∈P10):Spec Aa 84 [.i .u64 p] (encZ (p:Int)):=by
 have hb:∀ q∈P10,q≠0∧q<4294967296:=by decide
 exact bVz (hb p h).1 (hb p h).2 (A4.1 bYn p h)
theorem rM{z:Int}(h:z.natAbs<2^256):Sz z:=by
 have:=dB (n:=z.natAbs) (k:=8) (A3 h (by decide))
 unfold Sz;omega
theorem bYs:Sz 1:=rM (by decide)
set_option maxRecDepth 10000 in
theorem aSd[M:Mch Aa](b:Int)(hb:Sz b)(hb2:Sz (b+b))(h0:0≤b):Spec Aa 44 [.sl [],encZ b] (.b (decide (b=0))):=by
 refine bI (N:=26) Tryz.func44 ?_
 have hA:=aGj b b hb hb
 obtain⟨r,hC,hr⟩:=aRw 1 (b+b) (bYs) hb2
 have hd:decide (0<r)=decide (b=0):=by
  by_cases h:b=0
  ·subst h;simp[hr.2]
  ·have:¬0<r:=fun h'=>h (by have:=hr.1 h';omega)
   simp[h,this]
 generalize b+b=c at *
 simp[-ζ,-ξ,↓KW,bF b,aA,aD,aC,aE,aB]
 refine aH bDt ?_
 rw[bF 1]
 simp[-ζ,-ξ,↓KW,aA,aD,aC,aE,aB]
 refine fI 2 ?_
 simp[-ζ,-ξ,↓KW,↓aL,↓aF,↓aJ,↓aK,aA,aD,aC,aE,aB]
 refine aH hA ?_
 rw[bF c]
 simp[-ζ,-ξ,↓KW,aA,aD,aC,aE,aB]
 refine aH hC ?_
 simp[-ζ,-ξ,↓KW,hd]
def bN(n:Nat):D:=.ag [.b false,aG (aM n)]
theorem aP(n:Nat):bN n=.ag [.b false,aG (aM n)]:=rfl
theorem dD(n:Nat):encZ (n:Int)=bN n:=by
 rw[bF,aP]
 simp
theorem szN{n:Nat}(h:n<2^256):Sz (n:Int):=rM (by simpa using h)
theorem aXm[M:Mch Aa]{x y:Nat}(hx:x<2^256)(hy:y<2^256):Spec Aa 85 [bN x,bN y] (bN (x+y)):=by
 have:=aGj (x:Int) (y:Int) (szN hx) (szN hy)
 rwa [←Ey,dD,dD,dD]at this
theorem aOd[M:Mch Aa]{x y:Nat}(hx:x<2^256)(hy:y<2^256):Spec Aa 83 [bN x,bN y] (bN (x*y)):=by
 have:=bNi (x:Int) (y:Int) (szN hx) (szN hy)
 rwa [←CB,dD,dD,dD]at this
theorem bGb[M:Mch Aa]{x y:Nat}(hx:x<2^256)(hy:y<2^256):∃ r:Int,Spec Aa 48 [bN x,bN y] (.i .i64 r)∧(0<r↔y<x):=by
 obtain⟨r,h1,h2⟩:=aRw (x:Int) (y:Int) (szN hx) (szN hy)
 rw[dD,dD]at h1
 exact⟨r,h1,by rw[h2];omega⟩
theorem bZh[M:Mch Aa]:Spec Aa 82 [.i .i64 1] (bN 1):=by rw[←dD];exact bDt
theorem bVw[M:Mch Aa]{p:Nat}(h:p∈P10):Spec Aa 84 [.i .u64 p] (bN p):=by rw[←dD];exact aYl h
theorem bOf[M:Mch Aa]{b:Nat}(h0:0<b)(h:b<2^200):Spec Aa 44 [.sl [],bN b] (.b false):=by
 have:=aSd (b:Int) (szN (by omega)) (rM (by omega)) (by omega)
 rwa [Bn (by omega),dD]at this
def cH:List Nat→Nat
 |[]=>1
 |p::l=>p*cH l
theorem rU(l:List Nat)(p:Nat):cH (l++[p])=cH l*p:=by
 induction l with
 |nil=>simp[cH]
 |cons x l ih=>simp only[Ci,cH,ih,BT]
theorem qM:∀(l:List Nat),(∀ p∈l,p<2147483648)→cH l≤2147483648^l.length
 |[],_=>by simp[cH]
 | p::l,h=>by
  have h1:=h p (AH ..)
  have h2:=qM l fun q hq=>h q (AD _ hq)
  simp only[cH,Ah,BJ]
  rw[BV]
  exact Bg h2 (by omega)
structure Ndd(b:Nat)(l:List Nat):Prop where
 big:2*b<cH l
 low:∀ k,k<l.length→cH (l.take k)≤2*b
def neF(c:Nat):List Nat→St
 |[]=>StL [(4,.ptr 1 0),(5,.ptr 2 0),(6,.ptr 3 0),(7,.ptr 4 0)] none [.cells 46 [.nil],.cells 46 [.nil],.cells 31 [.d (.b false),.d (aG (aM 1))],.cells 31 [.d (.b false),.d (aG (aM c))]]
 |x::l=>StL [(4,.ptr 1 0),(5,.ptr 2 0),(6,.ptr 3 0),(7,.ptr 4 0)] none [.cells 46 [.nil],.cells 46 [.own 5 0 (l.length+1) 1],.cells 31 [.d (.b false),.d (aG (aM (cH (x::l))))],.cells 31 [.d (.b false),.d (aG (aM c))],.cells 51 ((dU (x::l)).map .d)]
def neS(c:Nat)(L:List Nat)(k:Nat):St :=
 if k<L.length then neF c (L.take k)else StL [(4,.ptr 1 0)] none [.cells 46 [.own 2 0 L.length 1],.cells 51 ((dU L).map .d)]
set_option maxHeartbeats 8000000 in
set_option maxRecDepth 10000 in
theorem aOc[M:Mch Aa](b n p0:Nat)(ps:List Nat)(hb:b<2^100)(hb0:0<b)(hd:jA n (p0::ps))(hl:ps.length≤6)(hn:Ndd b (p0::ps))(hw:∀ p∈p0::ps,Spec Aa 84 [.i .u64 p] (bN p)) :
  Spec Aa 59 [bN b,.i .u64 n] (cM (p0::ps)):=by
 have hx0:∀ k:Nat,(psL (p0::ps))[k]? = ((p0::ps)[k]?).map (fun(p:Nat)=>[D.i .u64 (p:Int)]):=fun k=>by simp only[psL,Ai]
 have hlen:(psL (p0::ps)).length=(p0::ps).length:=by simp[psL]
 have hseq:=aLo n p0 ps hd
 have hE:=bOf hb0 (A3 hb (by decide))
 have hA:=aXm (x:=b) (y:=b) (by omega) (by omega)
 have hlL:(p0::ps).length≤7:=by simp;omega
 have hL0:0<(p0::ps).length:=by simp
 have hlt:∀ p∈p0::ps,p<2147483648:=fun p hp=>by
  obtain⟨k,hk,rfl⟩:=List.mem_iff_getElem.1 hp
  exact(jA.pos hd (Ab hk)).2
 generalize p0::ps=L at *
 obtain⟨hbig,hlow⟩:=hn
 rw[←Nat.two_mul]at hA
 have hc:2*b<2^256:=by omega
 generalize 2*b=c at *
 have hO:=bZh
 refine oU (N:=31) aW Tryz.func59 rfl rfl rfl (by kernel_rfl) (by kernel_rfl) (by simp) ?_
 refine cY (by kernel_rfl) ?_
 simp[-ζ,-ξ,↓KW,↓aL,↓aF,↓aJ,↓aK,aP b,aA,aD]
 refine cY (by kernel_rfl) ?_
 simp[-ζ,-ξ,↓KW,↓aL,↓aF,↓aJ,↓aK,aP b,aA,aD,aC,aE,aB]
 refine aH hE ?_
 simp[-ζ,-ξ,↓KW,↓aL,↓aF,↓aJ,↓aK,aP b,aA,aD,aC,aE,aB]
 refine cY (by kernel_rfl) ?_
 simp[-ζ,-ξ,↓KW,↓aL,↓aF,↓aJ,↓aK]
 refine cY (by kernel_rfl) ?_
 simp[-ζ,-ξ,↓KW,↓aL,↓aF,↓aJ,↓aK,aA,aD,aC,aE,aB]
 refine aH hO ?_
 rw[aP 1]
 simp[-ζ,-ξ,↓KW,↓aL,↓aF,↓aJ,↓aK,aA,aD,aC,aE,aB]
 refine aH hA ?_
 rw[aP c]
 simp[-ζ,-ξ,↓KW,↓aL,↓aF,↓aJ,↓aK,aA,aD,aC,aE,aB]
 refine aAz (P:=Aa) ?_
 refine cY (by kernel_rfl) ?_
 simp[-ζ,-ξ,↓KW,↓aL,↓aF,↓aJ,↓aK]
 refine aH (aEf n) ?_
 simp[-ζ,-ξ,↓KW,↓aL,↓aF,↓aJ,↓aK]
 refine sK ?_
 refine pS (psL L) (fun k=>neS c L k) [8,17,18,19,20,21,22,23,24,25,26,27,28,29,30] .ret .ret (.inl rfl) (gf:=162) (caps:=[.pt [.i .u64 n]]) (by rfl) (by rfl) (by rfl) hseq ?_ (by kernel_rfl) (by rw[hlen];omega) ?_ ?_ ?_
 ·show ∃ ρ,Wk _ (neS c L 0) ρ
  unfold neS
  rw[Ar hL0,BG]
  refine wkQ [2,3,4,5] ?_ ?_<;>simp[-ζ,upd,aT,Γ0,neF]
 ·intro k x hk hx
  rw[hlen]at hk
  rw[hx0,Ae]at hx
  obtain⟨p,hp,rfl⟩:=hx
  refine⟨rfl,?_⟩
  have hpL:=Ao hp
  have hW:=hw p hpL
  have hp31:=hlt p hpL
  have htl:(L.take k).length=k:=by rw[AT];omega
  have hPb:cH (L.take k)≤2147483648^7:=AO (qM _ fun q hq=>hlt q (Bl hq)) (B4 (by decide) (by omega))
  have hP2:cH (L.take k)*p<2^256:=Bo (Bg hPb (EO hp31)) (by decide)
  have hM:=aOd (x:=cH (L.take k)) (y:=p) (Bo hPb (by decide)) (by omega)
  obtain⟨r,hC,hr⟩:=bGb (x:=cH (L.take k)*p) (y:=c) hP2 hc
  have hsn:L.take (k+1)=L.take k++[p]:=by rw[A7,hp];rfl
  have hps:=rU (L.take k) p
  have hle:=hlow (k+1) hk
  rw[hsn,hps]at hle
  have hrr:¬0<r:=fun h=>by have:=hr.1 h;omega
  unfold neS
  rw[Ar (by omega),Ar hk,hsn]
  generalize L.take k=T at *
  generalize hPp:cH T*p=Pp at *
  cases T with
  | nil =>
   have hm1:(1:Nat)≤maxLen:=bU (by decide)
   show AWP _ _ ⟨upd (neF c []).Γ 17 (.d (.i .u64 (p:Int))),(neF c []).H,(neF c []).n⟩ _
   change Spec _ _ [bN 1,bN p] _ at hM
   simp[-ζ,-ξ,↓KW,↓aL,↓aF,↓aJ,↓aK,neF,hm1,aA,aD,aC,aE,aB]
   refine aH hW ?_
   rw[aP p]
   simp[-ζ,-ξ,↓KW,↓aL,↓aF,↓aJ,↓aK,aA,aD,aC,aE,aB]
   refine aH hM ?_
   rw[aP Pp]
   simp[-ζ,-ξ,↓KW,↓aL,↓aF,↓aJ,↓aK,aA,aD,aC,aE,aB]
   refine aH hC ?_
   simp[-ζ,-ξ,↓KW,↓aL,↓aF,↓aJ,↓aK,hrr,aA,aD,aC,aE,aB]
   have hps':cH [p]=Pp:=hps
   refine wkQ [1,2,3,4,6] ?_ ?_<;>simp[-ζ,upd,aT,Γ0,Bq,bQ,jL,jU,hps']
  | cons y T =>
   have hps':cH (y::(T++[p]))=Pp:=hps
   have hbb:=gF (n:=T.length+1) (by simp at htl;omega)
   show AWP _ _ ⟨upd (neF c (y::T)).Γ 17 (.d (.i .u64 (p:Int))),(neF c (y::T)).H,(neF c (y::T)).n⟩ _
   simp[-ζ,-ξ,↓KW,↓aL,↓aF,↓aJ,↓aK,neF,eK,hbb,bU,aA,aD,aC,aE,aB]
   refine aH hW ?_
   rw[aP p]
   simp[-ζ,-ξ,↓KW,↓aL,↓aF,↓aJ,↓aK,aA,aD,aC,aE,aB]
   refine aH hM ?_
   rw[aP Pp]
   simp[-ζ,-ξ,↓KW,↓aL,↓aF,↓aJ,↓aK,aA,aD,aC,aE,aB]
   refine aH hC ?_
   simp[-ζ,-ξ,↓KW,↓aL,↓aF,↓aJ,↓aK,hrr,aA,aD,aC,aE,aB]
   refine wkQ [1,2,3,4,7] ?_ ?_<;>simp[-ζ,upd,aT,Γ0,Bq,bQ,jL,jU,hps']
 ·intro k x hk hx
  rw[hlen]at hk
  rw[hx0,Ae]at hx
  obtain⟨p,hp,rfl⟩:=hx
  refine⟨rfl,?_⟩
  have hpL:=Ao hp
  have hW:=hw p hpL
  have hp31:=hlt p hpL
  have htl:(L.take k).length=k:=by rw[AT];omega
  have hPb:cH (L.take k)≤2147483648^7:=AO (qM _ fun q hq=>hlt q (Bl hq)) (B4 (by decide) (by omega))
  have hP2:cH (L.take k)*p<2^256:=Bo (Bg hPb (EO hp31)) (by decide)
  have hM:=aOd (x:=cH (L.take k)) (y:=p) (Bo hPb (by decide)) (by omega)
  obtain⟨r,hC,hr⟩:=bGb (x:=cH (L.take k)*p) (y:=c) hP2 hc
  have hsn:L.take (k+1)=L.take k++[p]:=by rw[A7,hp];rfl
  have hps:=rU (L.take k) p
  have hLe:L.take (k+1)=L:=by rw[hk];exact List.take_length
  rw[hLe]at hsn
  rw[hLe.symm.trans (hLe.trans hsn),hps]at hbig
  have hrr:0<r:=hr.2 hbig
  unfold neS
  rw[Ar (by omega),Aj (by omega)]
  have hTl:L.length=k+1:=hk.symm
  rw[hTl]
  generalize L.take k=T at *
  subst hsn
  generalize hPp:cH T*p=Pp at *
  cases T with
  | nil =>
   have hm1:(1:Nat)≤maxLen:=bU (by decide)
   have hk0:k=0:=htl.symm
   subst hk0
   show AWP _ _ ⟨upd (neF c []).Γ 17 (.d (.i .u64 (p:Int))),(neF c []).H,(neF c []).n⟩ _
   change Spec _ _ [bN 1,bN p] _ at hM
   simp[-ζ,-ξ,↓KW,↓aL,↓aF,↓aJ,↓aK,neF,hm1,aA,aD,aC,aE,aB]
   refine aH hW ?_
   rw[aP p]
   simp[-ζ,-ξ,↓KW,↓aL,↓aF,↓aJ,↓aK,aA,aD,aC,aE,aB]
   refine aH hM ?_
   rw[aP Pp]
   simp[-ζ,-ξ,↓KW,↓aL,↓aF,↓aJ,↓aK,aA,aD,aC,aE,aB]
   refine aH hC ?_
   simp[-ζ,-ξ,↓KW,↓aL,↓aF,↓aJ,↓aK,hrr,aA,aD,aC,aE,aB]
   refine wkQ [1,6] ?_ ?_<;>simp[-ζ,upd,aT,Γ0,Bq,bQ,jL,jU]
  | cons y T =>
   have hk0:k=T.length+1:=htl.symm
   subst hk0
   have hbb:=gF (n:=T.length+1) (by omega)
   show AWP _ _ ⟨upd (neF c (y::T)).Γ 17 (.d (.i .u64 (p:Int))),(neF c (y::T)).H,(neF c (y::T)).n⟩ _
   simp[-ζ,-ξ,↓KW,↓aL,↓aF,↓aJ,↓aK,neF,eK,hbb,bU,aA,aD,aC,aE,aB]
   refine aH hW ?_
   rw[aP p]
   simp[-ζ,-ξ,↓KW,↓aL,↓aF,↓aJ,↓aK,aA,aD,aC,aE,aB]
   refine aH hM ?_
   rw[aP Pp]
   simp[-ζ,-ξ,↓KW,↓aL,↓aF,↓aJ,↓aK,aA,aD,aC,aE,aB]
   refine aH hC ?_
   simp[-ζ,-ξ,↓KW,↓aL,↓aF,↓aJ,↓aK,hrr,aA,aD,aC,aE,aB]
   refine wkQ [1,7] ?_ ?_<;>simp[-ζ,upd,aT,Γ0,Bq,bQ,jL,jU]
 ·rw[hlen]
  unfold neS
  rw[Aj (by omega)]
  have hfl:=eK L
  simp[-ζ,-ξ,↓KW,↓aL,↓aF,↓aJ,↓aK,cM,hfl,mS (rfl:L.length=L.length),jQ (rfl:L.length=L.length)]
end Go.Am
end
section
open List renaming map_map→ζ,mapM_map→ξ
open Go Go.Am Go.Proofs
namespace Go.Am
open Go.RowKit (Below)
theorem sX{P:Program}(w:World)(t tn ty e:TypeId)(i:TypeInfo)(z:Value)(kq kn:IntKind)(ht:P.underlying t=some (.slice e))(htn:P.underlying tn=some (.int kn))(hi:P.info? e=some i)(hz:i.zero=some z)
    (k:Nat) (h0:0<k) (hs:0<i.size) (h63:(k:Int)≤9223372036854775807) (h48:k*i.bytes≤281474976710656) :
    aO P (BR #[t,tn] ty #[.slice none 0 0,.int kq k]) w =
      .ok (.slice (some ⟨w.heap.size,0,none⟩) k (grownCap w k 0 e))
        (w.drew.alloc (.cells (CU z.cells k++CU z.cells (grownCap w k 0 e-k)) e)):=by
  have hk:k≠0:=by omega
  have hw:Ag.wrap (k:Int)=k:=by rw[IntKind.wrap_i64];omega
  have h63':¬(9223372036854775807<(k:Int)):=by omega
  have h48':¬(281474976710656<Builtin.nextslicecap k 0*i.bytes):=by rw[nextslicecap_zero h0];omega
  have h48i:¬(281474976710656<(k:Int)*(i.bytes:Int)):=by rw[←CB];omega
  have hneg:¬((k:Int)<0):=by omega
  have hns:¬(k*i.size=0):=Nat.mul_ne_zero hk (by omega)
  simp[BR,aI ht,aI htn,sizeOf,typeInfo,zeroValue,hi,hz,asInt,asIntOf,hw,hk,hneg,hns,h63',h48',h48i,Question.forced,jV,newRow,grownCap]
structure AL(n:Nat)(l:List (Nat×Value))(a:Act):Prop where
  size:a.tmps.size=n
  defs:a.defers=[]
  get:∀ t x,l.lookup t=some x→a.eval (.tmp t)=x
theorem AL.put{n:Nat}{l:List (Nat×Value)}{a:Act}(h:AL n l a){d:Nat}(hd:d<n)(x:Value):AL n ((d,x)::l) (a.put (some d) x) where
  size:=by simp[Act.put,h.size]
  defs:=h.defs
  get t y hy:=by
    have hg:=iV a (some d) x (fun _ e=>by injection e with e;subst e;rw[h.size];exact hd) t
    have he:(a.put (some d) x).eval (.tmp t)=if(some d:Option Nat)=some t then x else a.eval (.tmp t):=by simpa[C5]using hg
    rw[he]
    rw[Fu]at hy
    by_cases e:t=d
    · subst e;simp at hy;simp[hy]
    · rw[show(t==d)=false from by simp[e]]at hy
      rw[Aj (by simpa using Ne.symm e)]
      exact h.get t y hy
def evL(l:List (Nat×Value)):Operand→Option Value
  |.tmp t=>l.lookup t
  |.const v=>some v
  |_=>none
theorem AL.ev{n:Nat}{l:List (Nat×Value)}{a:Act}(h:AL n l a){o:Operand}{x:Value}(hx:evL l o=some x):a.eval o=x:=by
  cases o with
  |tmp t=>exact h.get t x hx
  | const v => have e : v = x := by simpa[evL]using hx
               subst e;rfl
  |_=>cases hx
section
variable {P:Program} [M:Mch P] {Q:Exit→Act→World→Prop} {ops:Array Oper} {n:Nat} {l:List (Nat×Value)}
theorem qD{W v:World}{d:Nat}{op:Op}{ty:TypeId}{pos:String}{after:Array Edge}{rest:List Oper}{a:Act}(x:Value)(hA:AL n l a)(he:Env W v)(hd:d<n)(hr:∀ w,aO P (execOp a.eval ⟨some d,op,ty,pos,after,none⟩) w=.ok (.value x) w)
    (h:∀ a' v',AL n ((d,x)::l) a'→Env W v'→gR P ops Q rest a' v'):gR P ops Q (⟨some d,op,ty,pos,after,none⟩::rest) a v:=by
  have hw:Bs (⟨some d,op,ty,pos,after,none⟩:Oper) (yielded ops a.tmps)=true:=rfl
  unfold gR
  rw[Ar hw]
  intro v1 he1
  unfold wpX
  rw[hr]
  exact h _ _ (hA.put hd x) (he.trans he1)
def dv:D→Value
  |.b x=>.bool x
  |.i k n=>.int k n
  |_=>undef
theorem oP{W v:World}{dst:Nat}{op:BinOp}{t t2:TypeId}{x y:Operand}{pos:String}{ty:TypeId}{after:Array Edge}{rest:List Oper}{a:Act}{k k':IntKind}{m m':Int}(d:D)(hA:AL n l a)(he:Env W v)(hdst:dst<n)(hx:evL l x=some (.int k m))(hy:evL l y=some (.int k' m'))
    (hd:dJ op (bO P t) (.d (.i k m)) (.d (.i k' m'))=some d) (hd2:(∃ b,d=.b b)∨∃ k n,d=.i k n)
    (h:∀ a' v',AL n ((dst,dv d)::l) a'→Env W v'→gR P ops Q rest a' v'):gR P ops Q (⟨some dst,.binOp op t x y t2,ty,pos,after,none⟩::rest) a v:=by
  refine qD _ hA he hdst (fun w=>?_) h
  obtain⟨z,⟨h1,h2⟩,hz⟩:=aIl (P:=P) (F:=fun _=>False) (w:=w) (ι:=fun _=>none) (u:=.int k m) (v:=.int k' m') hd (.d _ _ (.i k m)) (.d _ _ (.i k' m')) x y
  have hzd:z=dv d:=by
    rcases hd2 with ⟨b,rfl⟩|⟨k,n,rfl⟩<;>cases hz<;>rfl
  subst hzd
  simp[execOp,hA.ev hx,hA.ev hy,h1,h2]
theorem eM{W v:World}{dst:Nat}{x:Operand}{pos:String}{ty:TypeId}{after:Array Edge}{rest:List Oper}{a:Act}{u:Value}(hA:AL n l a)(he:Env W v)(hdst:dst<n)(hx:evL l x=some u)
    (h:∀ a' v',AL n ((dst,u)::l) a'→Env W v'→gR P ops Q rest a' v'):gR P ops Q (⟨some dst,.move x,ty,pos,after,none⟩::rest) a v :=
  qD _ hA he hdst (fun w=>by simp[execOp,hA.ev hx]) h
theorem rL{W v:World}{dst:Nat}{x:Operand}{pos:String}{ty:TypeId}{after:Array Edge}{rest:List Oper}{a:Act}{u:Value}(hA:AL n l a)(he:Env W v)(hdst:dst<n)(hx:evL l x=some u)
    (h:∀ a' v',AL n ((dst,u)::l) a'→Env W v'→gR P ops Q rest a' v'):gR P ops Q (⟨some dst,.assign x,ty,pos,after,none⟩::rest) a v :=
  qD _ hA he hdst (fun w=>by simp[execOp,hA.ev hx]) h
theorem aMj{W v:World}{dst:Nat}{x:Operand}{pos:String}{ty t e:TypeId}{after:Array Edge}{rest:List Oper}{a:Act}{b:Option Addr}{len cap:Nat}(hA:AL n l a)(he:Env W v)(hdst:dst<n)(ht:P.underlying t=some (.slice e))(hx:evL l x=some (.slice b len cap))
    (h:∀ a' v',AL n ((dst,.int .i64 cap)::l) a'→Env W v'→gR P ops Q rest a' v'):gR P ops Q (⟨some dst,.call ⟨.builtin .cap,#[x],#[t]⟩,ty,pos,after,none⟩::rest) a v :=
  qD _ hA he hdst (fun w=>by simp[execOp,resolve,invoke,builtin,hA.ev hx,aI ht,Builtin.cap_];rfl) h
theorem aMi{W v:World}{dst:Nat}{x:Operand}{pos:String}{ty t e:TypeId}{after:Array Edge}{rest:List Oper}{a:Act}{b:Option Addr}{len cap:Nat}(hA:AL n l a)(he:Env W v)(hdst:dst<n)(ht:P.underlying t=some (.slice e))(hx:evL l x=some (.slice b len cap))
    (h:∀ a' v',AL n ((dst,.int .i64 len)::l) a'→Env W v'→gR P ops Q rest a' v'):gR P ops Q (⟨some dst,.call ⟨.builtin .len,#[x],#[t]⟩,ty,pos,after,none⟩::rest) a v :=
  qD _ hA he hdst (fun w=>by simp[execOp,resolve,invoke,builtin,hA.ev hx,aI ht,Builtin.len_,Builtin.lenOf];rfl) h
theorem bRp{v:World}{d:Nat}{op:Op}{ty:TypeId}{pos:String}{after:Array Edge}{rest:List Oper}{a:Act}(hA:AL n l a)(hd:d<n)
    (h:∀ v1,Env v v1→∃ x w1,aO P (execOp a.eval ⟨some d,op,ty,pos,after,none⟩) v1=.ok (.value x) w1∧∀ a',AL n ((d,x)::l) a'→gR P ops Q rest a' w1):gR P ops Q (⟨some d,op,ty,pos,after,none⟩::rest) a v:=by
  have hw:Bs (⟨some d,op,ty,pos,after,none⟩:Oper) (yielded ops a.tmps)=true:=rfl
  unfold gR
  rw[Ar hw]
  intro v1 he1
  obtain⟨x,w1,h1,h2⟩:=h v1 he1
  unfold wpX
  rw[h1]
  exact h2 _ (hA.put hd x)
theorem aCj{W v:World}{dst:Nat}{x hi:Operand}{pos:String}{ty t e:TypeId}{sz:Nat}{after:Array Edge}{rest:List Oper}{a:Act}{b:Option Addr}{len cap:Nat}(hA:AL n l a)(he:Env W v)(hdst:dst<n)(ht:tel P t=some e)(hs:tsz P e=some sz)(hc:len≤cap)(hx:evL l x=some (.slice b len cap))(hh:evL l hi=some (.int .i64 0))(hb:b=none∧cap=0∨0<cap∧∃ k,b=some ⟨k,0,none⟩)
    (h:∀ a' v',AL n ((dst,.slice b 0 cap)::l) a'→Env W v'→gR P ops Q rest a' v'):gR P ops Q (⟨some dst,.slice t x none (some hi) none,ty,pos,after,none⟩::rest) a v:=by
  refine qD _ hA he hdst (fun w=>?_) h
  have hr:=lV (P:=P) w ht hs b len cap hc none (some (.int .i64 0)) none 0 0 (.inl ⟨rfl,rfl⟩) (.inr ⟨_,rfl⟩) (by omega) (by omega) (by omega) cap (.inl ⟨rfl,rfl⟩)
  simp only[execOp,hA.ev hx,hA.ev hh,AW,Option.map_none,Sem.run_bind,hr,Result.andThen_ok]
  rcases hb with ⟨rfl,rfl⟩|⟨h0,k,rfl⟩
  · simp
  · simp[Addr.add,Nat.ne_of_gt h0]
theorem kL{a:Act}{v:World}(h:Q .normal a v):gR P ops Q [] a v:=h
end
theorem AL.start(x y:Value)(k:Nat):AL (2+k) [(0,x),(1,y)] ⟨#[x,y]++AX k undef,[]⟩ where
  size:=by simp
  defs:=rfl
  get t z hz:=by
    have h2:∀ t,t<2→(#[x,y]++AX k undef:Array Value).getD t undef=(#[x,y]:Array Value).getD t undef:=fun t ht=>by
      simp only[Av];rw[Array.getElem?_append_left (by simpa using ht)]
    match t with
    |0=>rw[Fu]at hz;simp at hz;subst hz;show Array.getD _ _ _=_;rw[h2 0 (by decide)];rfl
    |1=>simp[Fu]at hz;subst hz;show Array.getD _ _ _=_;rw[h2 1 (by decide)];rfl
    |t+2=>simp[Fu]at hz
noncomputable def aTn:TypeInfo:=((Aa).info? 51).get (by kernel_rfl)
theorem bJn:(Aa).info? 51=some aTn:=by kernel_rfl
noncomputable def aZf:Value:=aTn.zero.get (by kernel_rfl)
theorem aTl:aTn.zero=some aZf:=by kernel_rfl
theorem aTk:aZf.cells.size=1:=by kernel_rfl
theorem aTm:aTn.size=1:=by kernel_rfl
theorem aMq:aTn.bytes=8:=by kernel_rfl
set_option maxHeartbeats 400000 in
set_option maxRecDepth 100000 in
theorem bEe[M : Mch Aa](n : Nat)(W : World)(h0 : 0 < n)(hn : n ≤ 1000000) : CX Aa 103 #[.slice none 0 0, .int .i64 n] W fun x w' => ∃ b G ROW, n ≤ G ∧ G ≤ maxLen ∧ G ≤ ROW.size ∧ W.heap.size ≤ b ∧
      x=.slice (some ⟨b,0,none⟩) 0 G∧w'.heap[b]? = some (.cells ROW 51 (0,0))∧Below W.heap.size W w':=by
  refine gX Tryz.func103 rfl ?_
  have hu46:(Aa).underlying 46=some (.slice 51):=by kernel_rfl
  have hu3:(Aa).underlying 3=some (.int .i64):=by kernel_rfl
  have e0:Env W W:=.refl W
  have hb0:∀ t,dJ .sub t (.d (.i .i64 0)) (.d (.i .i64 0))=some (.i .i64 0):=fun t=>by simp[dJ,arith];decide
  have hwn:Ag.wrap (n:Int)=n:=aV
  have hb1:∀ t,dJ .sub t (.d (.i .i64 (n:Int))) (.d (.i .i64 0))=some (.i .i64 n):=fun t=>by simp[dJ,arith,hwn]
  have hA:AL 27 [(0,.slice none 0 0),(1,.int .i64 n)] { tmps:=#[EH none 0 0,Fv .i64 n]++AX (E7.ntmps - #[EH none 0 0,Fv .i64 n].size) undef,defers:=[] }:=AL.start _ _ 25
  generalize({ tmps:=#[EH none 0 0,Fv .i64 n]++AX (E7.ntmps - #[EH none 0 0,Fv .i64 n].size) undef,defers:=[] }:Act)=a0 at hA ⊢
  refine eF (iB ?_)
  refine rL hA e0 (by decide) rfl fun a v hA e1=>kL ?_
  refine eF (eF (iB ?_))
  refine eM hA e1 (by decide) rfl fun a v hA e2=>?_
  refine oP (.b false) hA e2 (by decide) rfl rfl (by simp[dJ,arith]) (.inl ⟨_,rfl⟩) fun a v hA e3=>kL ?_
  refine mX (t:=false) (hA.get _ _ rfl) (xH ?_)
  refine eF (eF (iB ?_))
  refine eM hA e3 (by decide) rfl fun a v hA e4=>?_
  refine eM hA e4 (by decide) rfl fun a v hA e5=>?_
  refine aMj hA e5 (by decide) hu46 rfl fun a v hA e6=>?_
  refine eM hA e6 (by decide) rfl fun a v hA e7=>?_
  refine aMi hA e7 (by decide) hu46 rfl fun a v hA e8=>?_
  refine oP (.i .i64 0) hA e8 (by decide) rfl rfl (hb0 _) (.inr ⟨_,_,rfl⟩) fun a v hA e9=>?_
  refine oP (.i .i64 n) hA e9 (by decide) rfl rfl (hb1 _) (.inr ⟨_,_,rfl⟩) fun a v hA e10=>?_
  refine rL hA e10 (by decide) rfl fun a v hA e11=>kL ?_
  refine eF (iB ?_)
  refine eM hA e11 (by decide) rfl fun a v hA e12=>?_
  refine oP (.b true) hA e12 (by decide) rfl rfl (by simp[dJ,arith,h0]) (.inl ⟨_,rfl⟩) fun a v hA e13=>kL ?_
  refine mX (t:=true) (hA.get _ _ rfl) (iB ?_)
  refine eM hA e13 (by decide) rfl fun a v hA e14=>?_
  refine eM hA e14 (by decide) rfl fun a v hA e15=>?_
  refine aMj hA e15 (by decide) hu46 rfl fun a v hA e16=>?_
  refine aCj (e:=51) (sz:=1) hA e16 (by decide) (by kernel_rfl) (by kernel_rfl) (AE _) rfl rfl (.inl ⟨rfl,rfl⟩) fun a v hA e17=>?_
  refine eM hA e17 (by decide) rfl fun a v hA e18=>?_
  refine bRp hA (by decide) fun w e19=>?_
  have e20:=e18.trans e19
  obtain⟨G,hG⟩:∃ G,G=grownCap w n 0 51:=⟨_,rfl⟩
  obtain⟨ROW,hROW⟩:∃ ROW,ROW=CU aZf.cells n++CU aZf.cells (G-n):=⟨_,rfl⟩
  have hGn:n≤G:=hG ▸ grownCap_ge w _ _ _
  have hGm:G≤maxLen:=hG ▸ grownCap_le_maxLen w n 0 51 (by unfold maxLen;omega)
  have hRl:G≤ROW.size:=by
    rw[hROW]
    simp only[Array.size_append,CU,Array.size_map,Array.size_range,aTk]
    omega
  refine⟨.slice (some ⟨w.heap.size,0,none⟩) n G,w.drew.alloc (.cells ROW 51),?_,fun a hA=>?_⟩
  · have hr:=sX w 46 3 46 51 aTn aZf .i64 .i64 hu46 hu3 bJn aTl n h0 (by rw[aTm];decide) (by omega) (by rw[aMq];omega)
    rw[←hG,←hROW]at hr
    simp only[execOp,resolve,invoke,builtin]
    simp[hA.get 20 _ rfl,hA.get 21 _ rfl,dv,hr]
  have hw0:Below W.heap.size W w:=by
    exact⟨e20.os,e20.tape,e20.output,e20.size,fun k hk=>e20.get hk⟩
  have hb:Below W.heap.size W (w.drew.alloc (.cells ROW 51)):=by
    have h:=hw0.alloc hw0.size (.cells ROW 51)
    exact⟨h.os,h.tape,h.output,h.size,h.block⟩
  have hat:(w.drew.alloc (.cells ROW 51)).heap[w.heap.size]? = some (.cells ROW 51 (0,0)):=by
    simp only[World.alloc,World.drew]
    rw[Array.getElem?_push,Ar rfl]
  have hsz:w.heap.size<(w.drew.alloc (.cells ROW 51)).heap.size:=by simp only[World.alloc,World.drew,Array.size_push];omega
  generalize w.drew.alloc (.cells ROW 51)=W1 at hb hat hsz ⊢
  have f0:Env W1 W1:=.refl _
  have hG0:0<G:=by omega
  refine eM hA f0 (by decide) rfl fun a v hA f1=>?_
  refine aMi hA f1 (by decide) hu46 rfl fun a v hA f2=>?_
  refine aCj (e:=51) (sz:=1) hA f2 (by decide) (by kernel_rfl) (by kernel_rfl) hGn rfl rfl (.inr ⟨hG0,_,rfl⟩) fun a v hA f3=>?_
  refine rL hA f3 (by decide) rfl fun a v hA f4=>kL ?_
  refine eF (iB ?_)
  refine eM hA f4 (by decide) rfl fun a v hA f5=>?_
  refine rL hA f5 (by decide) rfl fun a v hA f6=>kL (yI ?_)
  refine⟨hA.defs,fun v1 f7=>⟨.slice (some ⟨w.heap.size,0,none⟩) 0 G,?_,w.heap.size,G,ROW,hGn,hGm,hRl,e20.size,rfl,?_,?_⟩⟩
  · have hr:=hA.get 4 _ rfl
    show aO _ (results _ a.tmps) v1=_
    have hrs:E7.results=#[.tmp 4]:=rfl
    simp only[results,hrs]
    simp only[C5,Av]at hr
    simp[hr]
  · rw[(f6.trans f7).get hsz];exact hat
  · have f8:=f6.trans f7
    exact⟨f8.os.trans hb.os,f8.tape.trans hb.tape,f8.output.trans hb.output,AO hb.size f8.size,fun k hk=>(f8.get (A3 hk hb.size)).trans (hb.block k hk)⟩
set_option maxHeartbeats 400000 in
set_option maxRecDepth 100000 in
theorem aWb[M:Mch Aa](W:World):CX Aa 103 #[.slice none 0 0,.int .i64 0] W fun x w'=>x=.slice none 0 0∧Below W.heap.size W w':=by
  refine gX Tryz.func103 rfl ?_
  have hu46:(Aa).underlying 46=some (.slice 51):=by kernel_rfl
  have e0:Env W W:=.refl W
  have hb0:∀ t,dJ .sub t (.d (.i .i64 0)) (.d (.i .i64 0))=some (.i .i64 0):=fun t=>by simp[dJ,arith];decide
  have hA:AL 27 [(0,.slice none 0 0),(1,.int .i64 0)] { tmps:=#[EH none 0 0,Fv .i64 0]++AX (E7.ntmps - #[EH none 0 0,Fv .i64 0].size) undef,defers:=[] }:=AL.start _ _ 25
  generalize({ tmps:=#[EH none 0 0,Fv .i64 0]++AX (E7.ntmps - #[EH none 0 0,Fv .i64 0].size) undef,defers:=[] }:Act)=a0 at hA ⊢
  refine eF (iB ?_)
  refine rL hA e0 (by decide) rfl fun a v hA e1=>kL ?_
  refine eF (eF (iB ?_))
  refine eM hA e1 (by decide) rfl fun a v hA e2=>?_
  refine oP (.b false) hA e2 (by decide) rfl rfl (by simp[dJ,arith]) (.inl ⟨_,rfl⟩) fun a v hA e3=>kL ?_
  refine mX (t:=false) (hA.get _ _ rfl) (xH ?_)
  refine eF (eF (iB ?_))
  refine eM hA e3 (by decide) rfl fun a v hA e4=>?_
  refine eM hA e4 (by decide) rfl fun a v hA e5=>?_
  refine aMj hA e5 (by decide) hu46 rfl fun a v hA e6=>?_
  refine eM hA e6 (by decide) rfl fun a v hA e7=>?_
  refine aMi hA e7 (by decide) hu46 rfl fun a v hA e8=>?_
  refine oP (.i .i64 0) hA e8 (by decide) rfl rfl (hb0 _) (.inr ⟨_,_,rfl⟩) fun a v hA e9=>?_
  refine oP (.i .i64 0) hA e9 (by decide) rfl rfl (hb0 _) (.inr ⟨_,_,rfl⟩) fun a v hA e10=>?_
  refine rL hA e10 (by decide) rfl fun a v hA e11=>kL ?_
  refine eF (iB ?_)
  refine eM hA e11 (by decide) rfl fun a v hA e12=>?_
  refine oP (.b false) hA e12 (by decide) rfl rfl (by simp[dJ,arith]) (.inl ⟨_,rfl⟩) fun a v hA e13=>kL ?_
  refine mX (t:=false) (hA.get _ _ rfl) (xH ?_)
  refine eF (iB ?_)
  refine eM hA e13 (by decide) rfl fun a v hA e14=>?_
  refine rL hA e14 (by decide) rfl fun a v hA e15=>kL (yI ?_)
  refine⟨hA.defs,fun v1 f7=>⟨.slice none 0 0,?_,rfl,?_⟩⟩
  · have hr:=hA.get 4 _ rfl
    show aO _ (results _ a.tmps) v1=_
    have hrs:E7.results=#[.tmp 4]:=rfl
    simp only[results,hrs]
    simp only[C5,Av]at hr
    simp[hr]
  · have f8:=e15.trans f7
    exact⟨f8.os,f8.tape,f8.output,f8.size,fun k hk=>f8.get hk⟩
theorem aHx{vs:Array Value}(h:2=vs.size):∃ v0 v1,vs=#[v0,v1]:=by
  obtain⟨v0,hv0⟩:∃ v1,vs[0]? = some v1:=⟨vs[0],Ak (by omega)⟩
  obtain⟨v1,hv1⟩:∃ v1,vs[1]? = some v1:=⟨vs[1],Ak (by omega)⟩
  refine⟨v0,v1,?_⟩
  apply Array.ext_getElem?
  intro k
  match k with
  |0=>simpa using hv0
  |1=>simpa using hv1
  |k+2=>rw[Array.getElem?_eq_none (by omega)];simp
theorem wG(vs:Array Value)(w:World):aO Aa (callFunc 103 vs) w=.ok (.enter 103 vs) w:=by
  have hn:¬ E7.name = "runtime.NumGoroutine" := by
    have:(E7.name == "runtime.NumGoroutine")=false:=rfl
    simpa using this
  have hb:E7.body=some _:=rfl
  simp[callFunc,Tryz.func103,hn,hb]
theorem bXp[M:Mch Aa](n:Nat)(h0:0<n)(hn:n≤1000000):aBk Aa 103 [.nil,.d (.i .i64 (n:Int))] (fun m=>.own m 0 0 1) (fun _=>[.cells 51 []]):=by
  intro A W vs hA hl hv
  obtain⟨v0,v1,rfl⟩:=aHx hl
  have h1:=hv 0 _ v0 rfl rfl
  cases h1
  have h2:=hv 1 _ v1 rfl rfl
  cases h2 with|d _ _ h2 =>
  cases h2
  refine⟨wG _,?_⟩
  refine(bEe n W h0 hn).mono ?_
  rintro e w' ⟨b,G,ROW,hG,hGm,hR,hbW,rfl,hat,hb⟩
  have hsz:b<w'.heap.size:=bG hat
  refine⟨hb,fun m hm=>⟨A,fun id=>if id=m then some b else none,fun b h=>.inl h,?_,fun id=>?_,fun id b' h=>?_,fun i o b' ho hb'=>?_,fun id id' b' h h'=>?_⟩⟩
  · have:=V.own (F:=A) (w:=w') (ι:=fun id=>if id=m then some b else none) m 0 0 1 b G ROW 51 (Ar rfl) hat (by omega) (by omega) hGm
    rwa [Fb]at this
  · constructor
    · rintro⟨b',h⟩
      simp only at h
      split at h
      · rename_i e;subst e;exact⟨AE _,by simp⟩
      · cases h
    · rintro⟨h1,h2⟩
      have e:id=m:=by simp at h2;omega
      exact⟨_,Ar e⟩
  · simp only at h
    split at h
    · injection h with h;subst h
      exact⟨hbW,hsz,fun h=>Nat.lt_irrefl _ (A3 (hA _ h) hbW)⟩
    · cases h
  · have hi:i=0:=by
      have:=(Aq.1 ho).1
      simp at this;exact this
    subst hi
    simp at ho;subst ho
    simp at hb';subst hb'
    exact⟨_,hat,.cells _ _ _ (A8 _) fun k c h=>by simp at h⟩
  · simp only at h h'
    split at h
    · rename_i e
      split at h'
      · rename_i e';exact e.trans e'.symm
      · cases h'
    · cases h
theorem bUk[M:Mch Aa]:aBk Aa 103 [.nil,.d (.i .i64 0)] (fun _=>.nil) (fun _=>[]):=by
  intro A W vs hA hl hv
  obtain⟨v0,v1,rfl⟩:=aHx hl
  have h1:=hv 0 _ v0 rfl rfl
  cases h1
  have h2:=hv 1 _ v1 rfl rfl
  cases h2 with|d _ _ h2 =>
  cases h2
  refine⟨wG _,?_⟩
  refine(aWb W).mono ?_
  rintro e w' ⟨rfl,hb⟩
  exact⟨hb,fun m hm=>⟨A,fun _=>none,fun b h=>.inl h,.nil,fun id=>⟨fun⟨b,h⟩=>(by cases h),fun h=>(by simp at h;omega)⟩,fun id b h=>(by cases h),fun i o b h=>(by simp at h),fun id id' b h h'=>(by cases h)⟩⟩
end Go.Am
end
section
open List renaming map_map→ζ,mapM_map→ξ
open Go Go.Am Go.Proofs
namespace Go.Am
theorem iS(l:List Nat):one (.d (cM l))=true:=rfl
theorem eE(l:List Nat):dG (.d (cM l))=some [.d (cM l)]:=rfl
theorem gL(l:List Nat):aT (cM l)=.d (cM l):=rfl
theorem bEw(H:Hp)(n:Nat):iZ H n []=H:=by
 funext id;unfold iZ;rw[Aj (by simp)]
theorem aAf(H:Hp)(n:Nat)(o:HO):iZ H n [o]=upd H n (some o):=by
 funext id;unfold iZ upd
 by_cases h:id=n
 ·subst h;simp
 ·rw[Aj (by simp;omega)];simp[h]
theorem bOn(l:List Nat):((l.map fun(p:Nat)=>[D.i .u64 (p:Int)]).map (CI AV.d)).flatten=(dU l).map AV.d:=by
 induction l with
 |nil=>rfl
 |cons x l ih=>simp only[BI,Cv,ih];rfl
theorem aPg(a b:List Nat):dU (a++b)=dU a++dU b:=by simp[dU]
theorem bOm(l:List Nat):((dU l).map AV.d).all one=true:=by
 rw[A4]
 intro x hx
 obtain⟨d,hd,rfl⟩:=AZ.1 hx
 obtain⟨p,_,rfl⟩:=AZ.1 hd
 rfl
def aDz(a b:List Nat):D:=.sl [[cM a],[cM b]]
set_option maxHeartbeats 4000000 in
set_option maxRecDepth 10000 in
theorem aSm[M:Mch Aa](a b:List Nat)(ha:a.length≤10000)(hb:b.length≤10000):Spec Aa 58 [aDz a b] (cM (a++b)):=by
 have hw0:Ag.wrap (a.length:Int)=(a.length:Int):=aV
 have hw1:Ag.wrap ((a.length:Int)+b.length)=(a.length:Int)+b.length:=aV
 have hwz:Ag.wrap 1=1:=by decide
 have hwz2:Ag.wrap 2=2:=by decide
 have h00:¬(a.length:Int)<0:=by omega
 have h01:¬(a.length:Int)+b.length<0:=by omega
 refine bI (N:=36) Tryz.func58 ?_
 simp[-ζ,-ξ,↓KW,aDz,iS,eE,gL]
 refine fI 3 ?_
 simp[-ζ,-ξ,↓KW,↓aL,↓aF,↓aJ,↓aK,aDz,cM,iS,eE,gL,hw0,hw1,hwz,hwz2,h00,h01]
 by_cases hab:a.length+b.length=0
 ·have ea:a=[]:=BS (by omega)
  have eb:b=[]:=BS (by omega)
  subst ea;subst eb
  refine aDe (fun _=>.nil) (fun _=>[]) (by simp) (by simp) (by simp) (by rfl) (by simpa[aFt,aMp]using bUk) ?_
  simp[-ζ,-ξ,↓KW,bEw,cM]
  refine fI 3 ?_
  simp[-ζ,-ξ,↓KW,↓aL,↓aF,↓aJ,↓aK,aDz,cM,iS,eE,gL,hwz,hwz2]
 ·refine aDe (fun m=>.own m 0 0 1) (fun _=>[.cells 51 []]) (by simp) (by simp) (by simp) (by rfl) (by simpa[aFt,aMp]using bXp (a.length+b.length) (by omega) (by omega)) ?_
  have hok:∀ l:List Nat,eW 1 (l.map fun(p:Nat)=>[D.i .u64 (p:Int)])=true:=fun l=>by cases l<;>simp[eW]
  have hff:=bOn
  have hla:=eK a
  have hlb:=eK b
  have hbb:a.length*8≤140737488355328∧a.length≤maxLen:=⟨by omega,bU (by omega)⟩
  have hbb2:(a.length+b.length)*8≤140737488355328∧a.length+b.length≤maxLen:=⟨by omega,bU (by omega)⟩
  have hab':(a++b).length=a.length+b.length:=A9
  have e1:DM (a.length+b.length) ((dU (a++b)).map AV.d)=(dU (a++b)).map AV.d:=jQ hab'
  have e2:chunk 1 (a.length+b.length) (dU (a++b))=(a++b).map fun(p:Nat)=>[D.i .u64 (p:Int)]:=mS hab'
  have e3:=eK (a++b)
  rw[hab']at e3
  have e4:(dU a).map AV.d++(dU b).map AV.d=(dU (a++b)).map AV.d:=by rw[aPg,Ex]
  have hone:=bOm
  simp[-ζ,-ξ,↓KW,aAf,cM]
  refine fI 3 ?_
  simp[-ζ,-ξ,↓KW,↓aL,↓aF,↓aJ,↓aK,aDz,cM,iS,eE,gL,hwz,hwz2,bHj,hok,hone,hff,hla,hlb,hbb,hbb2,e1,e2,e3,e4]
theorem pK(l:List Nat):inj (cM l)=.d (cM l):=rfl
theorem kQ(H:Hp)(avs:List AV)(l:List Nat):bC H avs (cM l)=cC H avs:=rfl
set_option maxRecDepth 10000 in
theorem bMf[M:Mch Aa](n:Nat):Spec Aa 59 [bN 0,.i .u64 n] (cM []):=by
 have hE:=aSd 0 (rM (by decide)) (rM (by decide)) (by decide)
 have h0:encZ 0=bN 0:=dD 0
 rw[h0]at hE
 simp only[decide_true]at hE
 refine oU (N:=31) aW Tryz.func59 rfl rfl rfl (by kernel_rfl) (by kernel_rfl) (by simp) ?_
 refine cY (by kernel_rfl) ?_
 simp[-ζ,-ξ,↓KW,↓aL,↓aF,↓aJ,↓aK,aP 0,aA,aD]
 refine cY (by kernel_rfl) ?_
 simp[-ζ,-ξ,↓KW,↓aL,↓aF,↓aJ,↓aK,aP 0,aA,aD,aC,aE,aB]
 refine aH hE ?_
 simp[-ζ,-ξ,↓KW,↓aL,↓aF,↓aJ,↓aK,aP 0,aA,aD,aC,aE,aB,cM]
def fH(c:Nat):Nat→List Nat→List Nat
 |acc,[]=>[]
 |acc,p::l=>if c<acc then[]else p::fH c (acc*p) l
theorem iT(c:Nat):∀(l:List Nat) (acc:Nat),∃ k,fH c acc l=l.take k
 |[],acc=>⟨0,by simp[fH]⟩
 | p::l,acc=>by
  unfold fH
  split
  ·exact⟨0,rfl⟩
  ·obtain⟨k,hk⟩:=iT c l (acc*p)
   exact⟨k+1,by simp[hk]⟩
theorem vF(c:Nat):∀(l:List Nat) (acc:Nat),c<acc*cH l→c<acc*cH (fH c acc l)
 |[],acc,h=>by simpa[fH]using h
 | p::l,acc,h=>by
  unfold fH
  split
  ·rename_i h1;simpa[cH]using h1
  ·have:=vF c l (acc*p) (by simpa[cH,BT]using h)
   simpa[cH,BT]using this
theorem qQ(c:Nat):∀(l:List Nat) (acc k:Nat),k<(fH c acc l).length→acc*cH ((fH c acc l).take k)≤c
 |[],acc,k,h=>by simp[fH]at h
 | p::l,acc,k,h=>by
  unfold fH at h ⊢
  split
  ·rename_i h1;simp[h1]at h
  ·rename_i h1
   rw[Aj h1]at h
   cases k with
   |zero=>simp[cH];omega
   | succ k =>
    have:=qQ c l (acc*p) k (by simpa using h)
    simpa[cH,BT]using this
theorem aVm{b:Nat}{l:List Nat}(h:2*b<cH l):Ndd b (fH (2*b) 1 l) where
 big:=by have:=vF (2*b) l 1 (by simpa using h);simpa using this
 low k hk:=by have:=qQ (2*b) l 1 k hk;simpa using this
def wpL(b k:Nat):List Nat:=P10.take (2*k)++fH (2*b) 1 (P10.drop (2*k))
set_option maxHeartbeats 4000000 in
set_option maxRecDepth 10000 in
theorem bRl[M:Mch Aa](b:Nat)(N:List Nat)(hN:N.length≤1000)(hNe:Spec Aa 59 [bN b,.i .u64 2147483648] (cM N)):Spec Aa 19 [bN b,.i .i64 0] (cM N):=by
 have hPr:=aJf 2147483648
 have hC:=aSm [] N (by simp) (by omega)
 rw[DV]at hC
 refine bI (N:=26) Tryz.func19 ?_
 simp[-ζ,-ξ,↓KW,aP b,aA,aD]
 refine aH hPr ?_
 have hnil:cM []=.sl []:=rfl
 simp[-ζ,-ξ,↓KW,hnil,aA,aD,aC,aE,aB]
 refine aH hNe ?_
 simp[-ζ,-ξ,↓KW,iS,eE,gL,pK,kQ]
 refine aH hC ?_
 simp[-ζ,-ξ,↓KW,iS,eE,gL,pK,kQ]
set_option maxHeartbeats 4000000 in
set_option maxRecDepth 10000 in
theorem aEq[M:Mch Aa](b k p:Nat)(T N:List Nat)(hN:N.length≤1000)(hk:k≤3)(hT:T.length+1=2*k)(hPr:Spec Aa 57 [.i .u64 2147483648,.i .i64 ((2*k:Nat):Int)] (cM (T++[p])))(hNe:Spec Aa 59 [bN b,.i .u64 p] (cM N)):Spec Aa 19 [bN b,.i .i64 k] (cM (T++[p]++N)):=by
 have hC:=aSm (T++[p]) N (by simp;omega) (by omega)
 have hmin:(if(1073741824:Int)<(k:Int)then(1073741824:Int)else(k:Int))=k:=by rw[Aj (by omega)]
 have hw:Ag.wrap (2*(k:Int))=((2*k:Nat):Int):=by rw[show 2*(k:Int)=((2*k:Nat):Int)from by omega];exact aV
 have hwl:Ag.wrap (T.length:Int)=(T.length:Int):=aV
 have h0:(0:Int)<(T.length:Int)+1:=by omega
 refine bI (N:=26) Tryz.func19 ?_
 simp[-ζ,-ξ,↓KW,aP b,aA,aD]
 rw[hmin]
 simp[-ζ,-ξ,↓KW,hw]
 refine aH hPr ?_
 have hlen:∃ l,cM (T++[p])=.sl l∧l.length=T.length+1∧l[T.length]? = some [.i .u64 (p:Int)]:=⟨_,rfl,by simp,by simp⟩
 obtain⟨l,hl,hl1,hl2⟩:=hlen
 have hl3:inj (cM (T++[p]))=.d (.sl l):=by rw[pK,hl]
 have hl4:aDz (T++[p]) N=.sl [[.sl l],[cM N]]:=by rw[←hl];rfl
 rw[hl4]at hC
 have hl5:∀ h,l[T.length]'h=[.i .u64 (p:Int)]:=fun h=>by rw[Ab h]at hl2;injection hl2
 simp[-ζ,-ξ,↓KW,hl3,kQ,hl1,h0,hwl,hl2,hl5,iS,eE,gL,aA,aD,aC,aE,aB]
 refine aH hNe ?_
 simp[-ζ,-ξ,↓KW,iS,eE,gL,pK,kQ]
 refine aH hC ?_
 simp[-ζ,-ξ,↓KW,iS,eE,gL,pK,kQ]
theorem tA:P10.length=10:=rfl
theorem aVp{c acc:Nat}{l:List Nat}{p:Nat}(h:p∈fH c acc l):p∈l:=by
 obtain⟨k,hk⟩:=iT c l acc
 rw[hk]at h
 exact Bl h
theorem bHb:∀ k:Nat,k≤3→2*2^96<cH (P10.drop (2*k)):=by decide
theorem bMe[M:Mch Aa](b k:Nat)(hb:b<2^96)(hk:k≤3):Spec Aa 59 [bN b,.i .u64 ((if 2*k=0 then 2147483648 else P10[2*k-1]! : Nat):Int)] (cM (fH (2*b) 1 (P10.drop (2*k)))):=by
 have hbig:=bHb k hk
 have hD:=jA.drop (k:=2*k) bFs (by rw[tA];omega)
 have hm:∀ p∈P10.drop (2*k),p∈P10:=fun p hp=>FB hp
 have hln:(P10.drop (2*k)).length≤10:=by rw[CM,tA];omega
 generalize(if 2*k=0 then 2147483648 else P10[2*k-1]! : Nat)=n at *
 generalize P10.drop (2*k)=L at *
 rcases Be b with h0|h0
 ·subst h0
  have e:fH (2*0) 1 L=[]:=by
   cases L with
   |nil=>rfl
   |cons p L=>rfl
  rw[e];exact bMf n
 ·have hN:=aVm (b:=b) (l:=L) (by omega)
  have hlow:=qQ (2*b) L 1
  have hmm:∀ p∈fH (2*b) 1 L,p∈P10:=fun p hp=>hm p (aVp hp)
  obtain⟨j,hj⟩:=iT (2*b) L 1
  have hD2:jA n (fH (2*b) 1 L):=by rw[hj];exact jA.take hD
  generalize fH (2*b) 1 L=N at *
  have hl6:N.length≤7:=by
   refine BW fun hc=>?_
   have h8:=hlow 7 (by omega)
   have hmin:∀ l:List Nat,(∀ p∈l,1073741824≤p)→1073741824^l.length≤cH l:=by
    intro l
    induction l with
    |nil=>intro _;simp[cH]
    | cons x l ih =>
     intro h
     rw[Ah,BJ,BV]
     exact Bg (h x (AH ..)) (ih fun p hp=>h p (AD _ hp))
   have hge:∀ p∈P10,1073741824≤p:=by decide
   have h9:=hmin (N.take 7) fun p hp=>hge p (hmm p (Bl hp))
   have hl7:(N.take 7).length=7:=by rw[AT];omega
   rw[hl7]at h9
   have h10:(1073741824:Nat)^7=2^210:=by decide
   have h11:(2:Nat)^96*2^114=2^210:=by decide
   have h12:(2:Nat)^114=20769187434139310514121985316880384:=by decide
   have h13:(2:Nat)^96=79228162514264337593543950336:=by decide
   omega
  cases N with
  |nil=>exact absurd hN.big (by simp[cH];omega)
  |cons p0 ps=>exact aOc b n p0 ps (by omega) h0 hD2 (by simp at hl6;omega) hN fun p hp=>bVw (hmm p hp)
theorem aEv[M:Mch Aa](b k:Nat)(hb:b<2^96)(hk:k≤3):Spec Aa 19 [bN b,.i .i64 k] (cM (wpL b k)):=by
 have hN:=bMe b k hb hk
 have hl:(fH (2*b) 1 (P10.drop (2*k))).length≤1000:=by
  obtain⟨j,hj⟩:=iT (2*b) (P10.drop (2*k)) 1
  have:=List.length_take_le' j (P10.drop (2*k))
  have h2:(P10.drop (2*k)).length≤10:=by rw[CM,tA];omega
  rw[hj];omega
 have hd:=bFs
 unfold wpL
 have hk4:k=0∨k=1∨k=2∨k=3:=by omega
 rcases hk4 with rfl|rfl|rfl|rfl
 ·exact bRl b _ hl hN
 ·exact aEq b 1 2147483629 [2147483647] _ hl (by omega) rfl (rV 2147483648 2147483647 [2147483629] (jA.take (k:=2) hd) (by decide)) hN
 ·exact aEq b 2 2147483579 [2147483647,2147483629,2147483587] _ hl (by omega) rfl (rV 2147483648 2147483647 [2147483629,2147483587,2147483579] (jA.take (k:=4) hd) (by decide)) hN
 ·exact aEq b 3 2147483549 [2147483647,2147483629,2147483587,2147483579,2147483563] _ hl (by omega) rfl (rV 2147483648 2147483647 [2147483629,2147483587,2147483579,2147483563,2147483549] (jA.take (k:=6) hd) (by decide)) hN
def Pr3(n:Nat):Prop:=2≤n∧n<2147483648∧∀ d,2≤d→d*d≤n→n%d≠0
set_option maxHeartbeats 4000000 in
set_option maxRecDepth 10000 in
theorem aIu[M:Mch Aa](n:Nat)(b:Bool)(hb:b=true↔Pr3 n)(hn:n<18446744073709551616):Spec Aa 98 [.i .u64 n] (.b b):=by
 refine bI (N:=21) Tryz.func98 ?_
 simp[-ζ,-ξ,↓KW]
 by_cases h1:n<2
 ·have hbf:b=false:=by
   cases b with
   |false=>rfl
   |true=>have:=hb.1 rfl;unfold Pr3 at this;omega
  have hi:decide ((n:Int)<2)=true:=by simp;omega
  subst hbf
  simp[-ζ,-ξ,↓KW,hi,h1]
 by_cases h2:2147483648≤n
 ·have hbf:b=false:=by
   cases b with
   |false=>rfl
   |true=>have:=hb.1 rfl;unfold Pr3 at this;omega
  subst hbf
  have hi:¬((n:Int)<2):=by omega
  have hj:(2147483648:Int)≤(n:Int):=by omega
  simp[-ζ,-ξ,↓KW,hi,hj,h1,h2]
 have hi:¬((n:Int)<2):=by omega
 have hj:¬(2147483648:Int)≤(n:Int):=by omega
 simp[-ζ,-ξ,↓KW,hi,hj,h1,h2]
 refine cL (τ:=Nat) (fun d=>2≤d∧d≤46341∧∀ e,2≤e→e<d→n%e≠0) (fun d=>StL [(0,.d (.i .u64 n)),(3,.d (.i .u64 d))] none []) (fun d=>46341-d) 2 ⟨by omega,by omega,fun e h1 h2=>by omega⟩ ?_ ?_
 ·refine wkQ [] ?_ ?_<;>simp[-ζ,upd,aT,Γ0]
 ·rintro d ⟨h3,h4,h5⟩
  have hw:Az.wrap ((d:Int)*(d:Int))=((d*d:Nat):Int):=by
   rw[←CB]
   have:=Bg h4 h4
   exact wrap_u64 (by omega) (by omega)
  have hd0:((d:Int)==0)=false:=by simp;omega
  have hd1:¬d=0:=by omega
  have htm:((n:Int).tmod (d:Int))=((n%d:Nat):Int):=by rw[B5 (by omega)];rfl
  have hw1:Az.wrap ((d:Int)+1)=((d+1:Nat):Int):=wrap_u64 (by omega) (by omega)
  by_cases hd:d*d≤n
  ·have hle:decide (((d*d:Nat):Int)≤(n:Int))=true:=by simp only[BO];omega
   have hd2:d<46341:=by
    refine BW fun hc=>?_
    have:d=46341:=by omega
    subst this;omega
   by_cases hz:n%d=0
   ·have hbf:b=false:=by
     cases b with
     |false=>rfl
     |true=>exact absurd hz ((hb.1 rfl).2.2 d h3 hd)
    have hzi:(((n%d:Nat):Int)==0)=true:=by rw[hz];rfl
    subst hbf
    generalize d*d=dd at *
    generalize n%d=r at *
    simp[-ζ,-ξ,↓KW,hw,hd,hd0,hd1,htm,hzi]
   ·have hzi:(((n%d:Nat):Int)==0)=false:=by simp;omega
    have hst:∀ e,2≤e→e<d+1→n%e≠0:=fun e g1 g2=>by
     by_cases g:e=d
     ·subst g;exact hz
     ·exact h5 e g1 (by omega)
    generalize d*d=dd at *
    generalize n%d=r at *
    simp[-ζ,-ξ,↓KW,hw,hd,hd0,hd1,htm,hzi,hw1]
    refine aN (d+1) ⟨by omega,by omega,hst⟩ (by show 46341-(d+1)<46341-d;omega) (wkQ [] ?_ ?_)<;>simp[-ζ,upd,aT,Γ0]
  ·have hle:decide (((d*d:Nat):Int)≤(n:Int))=false:=by simp only[E8];omega
   have hbt:b=true:=hb.2 ⟨by omega,by omega,fun e g1 g2=>h5 e g1 (by
    refine BW fun hc=>hd ?_
    exact AO (Bg (by omega) (by omega)) g2)⟩
   subst hbt
   generalize d*d=dd at *
   simp[-ζ,-ξ,↓KW,hw,hd]
set_option maxHeartbeats 4000000 in
set_option maxRecDepth 10000 in
theorem aUo[M:Mch Aa](n m:Nat)(h:m<n)(hn:n≤2147483648)(hp:∀ v:Nat,m≤v→v<n→Spec Aa 98 [.i .u64 v] (.b (decide (v=m)))):Spec Aa 60 [.i .u64 n] (.i .u64 m):=by
 refine bI (N:=15) Tryz.func60 ?_
 have hmin:(if(2147483648:Int)<(n:Int)then(2147483648:Int)else(n:Int))=n:=by rw[Aj (by omega)]
 simp[-ζ,-ξ,↓KW]
 rw[hmin]
 refine cL (τ:=Nat) (fun v=>m<v∧v≤n) (fun v=>StL [(3,.d (.i .u64 v))] none []) (fun v=>v) n ⟨h,AE _⟩ ?_ ?_
 ·refine wkQ [] ?_ ?_<;>simp[-ζ,upd,aT,Γ0]
 ·rintro v ⟨h1,h2⟩
  have hv0:0<v:=by omega
  have hw:Az.wrap ((v:Int)-1)=((v-1:Nat):Int):=by
   rw[show((v:Int)-1)=((v-1:Nat):Int)from by omega]
   exact wrap_u64 (by omega) (by omega)
  have hP:=hp (v-1) (by omega) (by omega)
  by_cases he:v-1=m
  ·rw[BU he]at hP
   generalize v-1=u at *
   subst he
   simp[-ζ,-ξ,↓KW,hv0,hw]
   refine aH hP ?_
   simp[-ζ,-ξ,↓KW]
  ·rw[Bn he]at hP
   have hlt:v-1<v:=by omega
   have hmv:m<v-1:=by omega
   have hvn:v-1≤n:=by omega
   generalize v-1=u at *
   simp[-ζ,-ξ,↓KW,hv0,hw]
   refine aH hP ?_
   simp[-ζ,-ξ,↓KW]
   refine aN u ⟨hmv,hvn⟩ hlt (wkQ [] ?_ ?_)<;>simp[-ζ,upd,aT,Γ0]
def rD(n:Nat):Nat→Nat→Bool
 |0,d=>!(Nat.beq (n%d) 0)
 |k+1,d=>rD n k d&&rD n k (d+2*2^k)
theorem aFy{n:Nat}:∀{k d:Nat},rD n k d=true→∀ i,i<2^k→n%(d+2*i)≠0
 | 0,d,h,i,hi=>by
  have:i=0:=by simpa using hi
  subst this
  intro hz
  unfold rD at h
  simp only[Nat.mul_zero,B6]at hz
  rw[hz]at h;cases h
 | k+1,d,h,i,hi=>by
  unfold rD at h
  simp only[A1]at h
  by_cases hk:i<2^k
  ·exact aFy h.1 i hk
  ·have:=aFy h.2 (i-2^k) (by rw[BJ]at hi;omega)
   rwa [show d+2*2^k+2*(i-2^k)=d+2*i from by omega]at this
theorem eR{n:Nat}(h0:2≤n)(h1:n<2147483648)(h2:n%2≠0)(h3:rD n 15 3=true):Pr3 n:=by
 refine⟨h0,h1,fun d g1 g2 hz=>?_⟩
 have hd:d<46341:=by
  refine BW fun hc=>?_
  have:=Bg (show 46341≤d by omega) (show 46341≤d by omega)
  omega
 rcases FV d with he|he
 ·have:=Nat.mod_mod_of_dvd n (Cm he)
  rw[hz]at this
  exact h2 this.symm
 ·have hk:=aFy h3 ((d-3)/2) (by show(d-3)/2<32768;omega)
  rw[show 3+2*((d-3)/2)=d from by omega]at hk
  exact hk hz
def aSn:Nat→List Nat→Bool
 |_,[]=>true
 |v,d::l=>Nat.beq (v%d) 0&&(Nat.ble 2 d&&(Nat.ble (d*d) v&&aSn (v+1) l))
theorem aLd:∀{v:Nat} {l:List Nat},aSn v l=true→∀ k,k<l.length→¬Pr3 (v+k)
 |v,[],h,k,hk=>by simp at hk
 | v,d::l,h,k,hk=>by
  unfold aSn at h
  simp only[A1,Nat.beq_eq_true_eq]at h
  cases k with
  |zero=>exact fun hp=>hp.2.2 d (Nat.le_of_ble_eq_true h.2.1) (Nat.le_of_ble_eq_true h.2.2.1) (Nat.eq_of_beq_eq_true h.1)
  | succ k =>
   have:=aLd h.2.2.2 k (by simpa using hk)
   rwa [show v+1+k=v+(k+1)from by omega]at this
theorem lW[M:Mch Aa]{n m:Nat}{l:List Nat}(hl:l.length=n-(m+1))(h:m<n)(hn:n≤2147483648)(hm:Pr3 m)(hc:aSn (m+1) l=true):Spec Aa 60 [.i .u64 n] (.i .u64 m):=by
 refine aUo n m h hn fun v h1 h2=>aIu v _ ?_ (by omega)
 by_cases hv:v=m
 ·subst hv;simp[hm]
 ·have:=aLd hc (v-(m+1)) (by omega)
  rw[show m+1+(v-(m+1))=v from by omega]at this
  simp[hv,this]
def ws0:List Nat:=[]
theorem np0:rD 2147483647 15 3=true:=by kernel_rfl
theorem bZd[M:Mch Aa]:Spec Aa 60 [.i .u64 2147483648] (.i .u64 2147483647):=lW (n:=2147483648) (m:=2147483647) (l:=ws0) (by kernel_rfl) (by decide) (by decide) (eR (by decide) (by decide) (by decide) np0) (by kernel_rfl)
def ws1:List Nat:=[2,3,2,5843,2,5,2,3,2,7,2,2699,2,3,2,5,2]
theorem np1:rD 2147483629 15 3=true:=by kernel_rfl
theorem bZc[M:Mch Aa]:Spec Aa 60 [.i .u64 2147483647] (.i .u64 2147483629):=lW (n:=2147483647) (m:=2147483629) (l:=ws1) (by kernel_rfl) (by decide) (by decide) (eR (by decide) (by decide) (by decide) np1) (by kernel_rfl)
def ws2:List Nat:=[2,3,2,11,2,59,2,3,2,7,2,1657,2,3,2,1187,2,5,2,3,2,41,2,7,2,3,2,5,2,6733,2,3,2,14741,2,79,2,3,2,47,2]
theorem np2:rD 2147483587 15 3=true:=by kernel_rfl
theorem bZb[M:Mch Aa]:Spec Aa 60 [.i .u64 2147483629] (.i .u64 2147483587):=lW (n:=2147483629) (m:=2147483587) (l:=ws2) (by kernel_rfl) (by decide) (by decide) (eR (by decide) (by decide) (by decide) np2) (by kernel_rfl)
def ws3:List Nat:=[2,89,2,3,2,5,2]
theorem np3:rD 2147483579 15 3=true:=by kernel_rfl
theorem bZa[M:Mch Aa]:Spec Aa 60 [.i .u64 2147483587] (.i .u64 2147483579):=lW (n:=2147483587) (m:=2147483579) (l:=ws3) (by kernel_rfl) (by decide) (by decide) (eR (by decide) (by decide) (by decide) np3) (by kernel_rfl)
def ws4:List Nat:=[2,3,2,11503,2,7,2,3,2,23,2,5,2,3,2]
theorem np4:rD 2147483563 15 3=true:=by kernel_rfl
theorem bYz[M:Mch Aa]:Spec Aa 60 [.i .u64 2147483579] (.i .u64 2147483563):=lW (n:=2147483579) (m:=2147483563) (l:=ws4) (by kernel_rfl) (by decide) (by decide) (eR (by decide) (by decide) (by decide) np4) (by kernel_rfl)
def ws5:List Nat:=[2,32063,2,3,2,5,2,3181,2,3,2,167,2]
theorem np5:rD 2147483549 15 3=true:=by kernel_rfl
theorem bYy[M:Mch Aa]:Spec Aa 60 [.i .u64 2147483563] (.i .u64 2147483549):=lW (n:=2147483563) (m:=2147483549) (l:=ws5) (by kernel_rfl) (by decide) (by decide) (eR (by decide) (by decide) (by decide) np5) (by kernel_rfl)
def ws6:List Nat:=[2,5,2,3,2]
theorem np6:rD 2147483543 15 3=true:=by kernel_rfl
theorem bYx[M:Mch Aa]:Spec Aa 60 [.i .u64 2147483549] (.i .u64 2147483543):=lW (n:=2147483549) (m:=2147483543) (l:=ws6) (by kernel_rfl) (by decide) (by decide) (eR (by decide) (by decide) (by decide) np6) (by kernel_rfl)
def ws7:List Nat:=[2,3,2,523,2,11,2,3,2,13,2,149,2,3,2,7,2,5,2,3,2,257,2,53,2,3,2,5,2,7,2,3,2,19,2,13,2,3,2,17,2,409,2,3,2]
theorem np7:rD 2147483497 15 3=true:=by kernel_rfl
theorem bYw[M:Mch Aa]:Spec Aa 60 [.i .u64 2147483543] (.i .u64 2147483497):=lW (n:=2147483543) (m:=2147483497) (l:=ws7) (by kernel_rfl) (by decide) (by decide) (eR (by decide) (by decide) (by decide) np7) (by kernel_rfl)
def ws8:List Nat:=[2,31,2,3,2,5,2]
theorem np8:rD 2147483489 15 3=true:=by kernel_rfl
theorem bYv[M:Mch Aa]:Spec Aa 60 [.i .u64 2147483497] (.i .u64 2147483489):=lW (n:=2147483497) (m:=2147483489) (l:=ws8) (by kernel_rfl) (by decide) (by decide) (eR (by decide) (by decide) (by decide) np8) (by kernel_rfl)
def ws9:List Nat:=[2,191,2,3,2,30649,2,5,2,3,2]
theorem np9:rD 2147483477 15 3=true:=by kernel_rfl
theorem bYu[M:Mch Aa]:Spec Aa 60 [.i .u64 2147483489] (.i .u64 2147483477):=lW (n:=2147483489) (m:=2147483477) (l:=ws9) (by kernel_rfl) (by decide) (by decide) (eR (by decide) (by decide) (by decide) np9) (by kernel_rfl)
def wR[M:Mch Aa]:Nat→List Nat→Prop
 |_,[]=>True
 |n,p::l=>0<p∧p<2147483648∧Spec Aa 60 [.i .u64 n] (.i .u64 p)∧wR p l
theorem bOl[M:Mch Aa]:wR 2147483648 P10:=⟨by decide,by decide,bZd,by decide,by decide,bZc,by decide,by decide,bZb,by decide,by decide,bZa,by decide,by decide,bYz,by decide,by decide,bYy,by decide,by decide,bYx,by decide,by decide,bYw,by decide,by decide,bYv,by decide,by decide,bYu,trivial⟩
theorem szR{z:Int}(h:z.natAbs<2^256):(aM z.natAbs).length≤137438953472∧(aM z.natAbs).length≤549755813888:=by
 have:=dB (n:=z.natAbs) (k:=8) (A3 h (by decide))
 omega
theorem aQz[M:Mch Aa](x y:Int)(hx:x.natAbs<2^255)(hy:y.natAbs<2^255):Spec Aa 23 [encZ x,encZ y] (.i .i64 (x-y).sign):=by
 have hS:=aFp x y (szR (by omega)).2 (szR (by omega)).2
 have hG:=kN (x-y)
 generalize x-y=z at *
 refine bI (N:=9) Tryz.func23 ?_
 simp[-ζ,-ξ,↓KW,bF x,bF y,aA,aD,aC,aE,aB]
 refine aH hS ?_
 simp[-ζ,-ξ,↓KW,bF z,aA,aD,aC,aE,aB]
 refine aH hG ?_
 simp[-ζ,-ξ,↓KW]
theorem xS[M:Mch Aa]{x y:Nat}(hx:x<2^255)(hy:y<2^255):Spec Aa 22 [bN x,bN y] (bN (x+y)):=by
 have:=sZ (x:Int) (y:Int) (szR (by simp;omega)).2 (szR (by simp;omega)).2
 rwa [←Ey,dD,dD,dD]at this
theorem xR[M:Mch Aa]{x y:Nat}(hx:x<2^255)(hy:y<2^255):Spec Aa 24 [bN x,bN y] (bN (x*y)):=by
 have:=jI (x:Int) (y:Int) (szR (by simp;omega)).1 (szR (by simp;omega)).1
 rwa [←CB,dD,dD,dD]at this
theorem rR[M:Mch Aa]{x:Nat}(hx:x<9223372036854775808):Spec Aa 11 [.i .i64 x] (bN x):=by
 have:=aIz (x:Int) (by omega) (by omega)
 rwa [dD]at this
theorem aQy[M:Mch Aa]{x y:Nat}(hx:x<2^255)(hy:y<2^255):∃ r:Int,Spec Aa 23 [bN x,bN y] (.i .i64 r)∧(r≤0↔x≤y)∧(0<r↔y<x):=by
 have:=aQz (x:Int) (y:Int) (by simpa using hx) (by simpa using hy)
 rw[dD,dD]at this
 refine⟨_,this,?_⟩
 rw[jH]
 constructor<;>split<;>(try split)<;>omega
def pvL(n:Nat)(L:List Nat)(k:Nat):Nat:=match k with|0=>n|k+1=>L[k]!
theorem wR.at[M:Mch Aa]:∀{n:Nat} {L:List Nat} {k:Nat},wR n L→k<L.length→(0<L[k]! ∧ L[k]! < 2147483648)∧Spec Aa 60 [.i .u64 (pvL n L k)] (.i .u64 (L[k]! : Nat))
 |n,[],k,h,hk=>by simp at hk
 |n,x::l,0,h,hk=>⟨⟨h.1,h.2.1⟩,h.2.2.1⟩
 | n,x::l,1,h,hk=>by
  have:=wR.at (k:=0) h.2.2.2 (by simpa using hk)
  simpa[pvL]using this
 | n,x::l,k+2,h,hk=>by
  have:=wR.at (k:=k+1) h.2.2.2 (by simp only[Ah]at hk;omega)
  simpa[pvL]using this
theorem aJb(n:Nat)(L:List Nat)(k:Nat):pvL n L (k+1)=L[k]! := rfl
def rS(k b c q i:Nat)(T:List Nat)(p:Nat):St:=StL [(1,.d (.i .i64 (k:Int))),(2,.ptr 1 0),(5,.own 2 0 T.length 1),(6,.ptr 3 0),(7,.d (.i .u64 (p:Int))),(8,.ptr 4 0),(9,.d (.i .i64 (i:Int)))] none [.cells 31 [.d (.b false),.d (aG (aM b))],.cells 51 ((dU T).map .d),.cells 31 [.d (.b false),.d (aG (aM q))],.cells 31 [.d (.b false),.d (aG (aM c))]]
def rS2(b c q:Nat)(T:List Nat)(p:Nat):St:=StL [(2,.ptr 1 0),(5,.own 2 0 T.length 1),(6,.ptr 3 0),(7,.d (.i .u64 (p:Int))),(8,.ptr 4 0)] none [.cells 31 [.d (.b false),.d (aG (aM b))],.cells 51 ((dU T).map .d),.cells 31 [.d (.b false),.d (aG (aM q))],.cells 31 [.d (.b false),.d (aG (aM c))]]
set_option maxHeartbeats 4000000 in
set_option maxRecDepth 10000 in
theorem aUj[M:Mch Aa](b k:Nat)(hb:b<2^96)(hk:k≤3):Spec Aa 21 [bN b,.i .i64 k] (cM (wpL b k)):=by
 have hO:=rR (x:=1) (by omega)
 have hA:=xS (x:=b) (y:=b) (by omega) (by omega)
 rw[←Nat.two_mul]at hA
 have hD:=bOl
 unfold wpL
 obtain⟨L,hL⟩:∃ L,L=P10:=⟨_,rfl⟩
 rw[←hL]at hD ⊢
 obtain⟨c,hc⟩:∃ c,2*b=c:=⟨_,rfl⟩
 rw[hc]at hA ⊢
 refine bI (N:=43) Tryz.func21 ?_
 simp[-ζ,-ξ,↓KW,aP b,aA,aD]
 refine aH hO ?_
 simp[-ζ,-ξ,↓KW,aP 1,aP b,aA,aD,aC,aE,aB]
 refine aH hA ?_
 simp[-ζ,-ξ,↓KW,aP c,aP b,aA,aD,aC,aE,aB]
 have hlen:L.length=10:=by rw[hL];rfl
 refine bL (τ:=Nat) (fun i=>i≤2*k) (fun i=>rS k b c 1 i (L.take i) (pvL 2147483648 L i)) (fun i=>2*k-i) 0 (A8 _) ?_ ?_
 ·unfold rS
  refine wkQ [1,2,3,4] ?_ ?_<;>simp[-ζ,upd,aT,Γ0,pvL,dU]
 ·intro i hi
  have hw:Ag.wrap (2*(k:Int))=((2*k:Nat):Int):=by rw[show 2*(k:Int)=((2*k:Nat):Int)from by omega];exact aV
  have hw1:Ag.wrap ((i:Int)+1)=((i+1:Nat):Int):=aV
  by_cases hlt:i<2*k
  ·obtain⟨hx,hB⟩:=wR.at (k:=i) hD (by omega)
   have hps:=aJb 2147483648 L i
   have hge:L[i]? = some L[i]! := by rw[B8 L i (by omega)];exact Ab (by omega)
   have hT:L.take (i+1)=L.take i++[L[i]!]:=by rw[A7,hge];rfl
   have hTl:(L.take i).length=i:=by rw[AT];omega
   generalize L.take i=T at *
   generalize pvL 2147483648 L i=p at *
   generalize L[i]! = p' at *
   have hli:(i:Int)<2*(k:Int):=by omega
   have hbb:=gF (n:=T.length) (by omega)
   unfold rS
   simp[-ζ,-ξ,↓KW,hw,hli,eK]
   refine aH hB ?_
   simp[-ζ,-ξ,↓KW,eK,hbb,bU,aA,aD,hw1]
   refine aN (i+1) (by omega) (by show 2*k-(i+1)<2*k-i;omega) ?_
   show ∃ ρ,Wk _ (StL _ _ _) ρ
   rw[hT,hps]
   refine wkQ [1,6,3,4] ?_ ?_<;>simp[-ζ,upd,aT,Γ0,Bq,bQ,aPg,jU]
  ·have hie:i=2*k:=by omega
   have hli:¬(i:Int)<2*(k:Int):=by omega
   have hTl:(L.take i).length=i:=by rw[AT];omega
   have hcat:∀ j,L.take i++(L.drop i).take j=L.take (i+j):=fun j=>List.take_add.symm
   have hbigL:c<cH (L.drop i):=by rw[hie,hL,←hc];exact Bo (by omega) (bHb k hk)
   have hmem:∀ p∈L,p<2147483648:=by rw[hL];decide
   rw[←hie]
   obtain⟨J,hJ⟩:=iT c (L.drop i) 1
   have hlow:=qQ c (L.drop i) 1
   have hbig:=vF c (L.drop i) 1 (by omega)
   have hJJ:∃ J,fH c 1 (L.drop i)=(L.drop i).take J∧J≤(L.drop i).length:=⟨min J (L.drop i).length,by rw[hJ];simp[List.take_eq_take_iff],by omega⟩
   obtain⟨J,hJ,hJl⟩:=hJJ
   have hNl:(fH c 1 (L.drop i)).length=J:=by rw[hJ,AT];omega
   rw[hNl]at hlow
   have hlow':∀ j,j<J→cH ((L.drop i).take j)≤c:=fun j hj=>by
    have:=hlow j hj
    rw[hJ,List.take_take,Df (by omega),Dg]at this
    exact this
   rw[hJ,Dg]at hbig
   rw[hJ,hcat]
   rw[CM]at hJl
   have hqb:∀ j,j≤4→cH ((L.drop i).take j)≤2^124:=fun j hj=>by
    refine AO (qM _ fun p hp=>hmem p (FB (Bl hp))) ?_
    refine AO (B4 (j:=4) (by decide) (by rw[AT];omega)) (by decide)
   have hJ4:J≤4:=by
    refine BW fun hcn=>?_
    have h1:=hlow' 4 (by omega)
    have h2:2*2^96<cH ((L.drop i).take 4):=by
     rw[hie,hL]
     have:∀ k:Nat,k≤3→2*2^96<cH ((P10.drop (2*k)).take 4):=by decide
     exact this k hk
    omega
   simp[-ζ,-ξ,↓KW,rS,hw,hli,eK]
   refine bUw (rS2 b c 1 (L.take i) (pvL 2147483648 L i)) ?_ ?_
   ·unfold rS2
    refine wkQ [1,2,3,4] ?_ ?_<;>simp[-ζ,upd,aT,Γ0]
   simp[-ζ,-ξ,↓KW]
   have hcN:c<2^255:=by omega
   have hA4:i+4≤10:=by omega
   clear hbigL hlow hNl hJ hw hli hA
   refine bL (τ:=Nat) (fun j=>j≤J) (fun j=>rS2 b c (cH ((L.drop i).take j)) (L.take (i+j)) (pvL 2147483648 L (i+j))) (fun j=>J-j) 0 (A8 _) ?_ ?_
   ·rw[BG,B6]
    show ∃ ρ,Wk _ (rS2 b c 1 _ _) ρ
    unfold rS2
    refine wkQ [1,2,3,4] ?_ ?_<;>simp[-ζ,upd,aT,Γ0]
   ·intro j hj
    have hTl:(L.take (i+j)).length=i+j:=by rw[AT];omega
    have hqj:=hqb j (by omega)
    have hbb:=gF (n:=i+j) (by omega)
    obtain⟨r,hC,hr,hr2⟩:=aQy (x:=cH ((L.drop i).take j)) (y:=c) (by omega) hcN
    by_cases hjl:j<J
    ·obtain⟨hx,hB⟩:=wR.at (k:=i+j) hD (by omega)
     have hps:pvL 2147483648 L (i+(j+1))=L[i+j]! := aJb 2147483648 L (i+j)
     have hge:L[i+j]? = some L[i+j]! := by rw[B8 L (i+j) (by omega)];exact Ab (by omega)
     have hT:L.take (i+(j+1))=L.take (i+j)++[L[i+j]!]:=by rw[←Nat.add_assoc,A7,hge];rfl
     have hq:cH ((L.drop i).take (j+1))=cH ((L.drop i).take j)*L[i+j]! := by
      rw[A7,List.getElem?_drop,hge];exact rU _ _
     have hr1:=hr.2 (hlow' j hjl)
     have hO:=rR (x:=L[i+j]!) (by omega)
     have hMl:=xR (x:=cH ((L.drop i).take j)) (y:=L[i+j]!) (by omega) (by omega)
     have hw:Ag.wrap ((L[i+j]! : Nat):Int)=((L[i+j]! : Nat):Int):=aV
     rw[←hq]at hMl
     obtain⟨q',hq'⟩:∃ q',cH ((L.drop i).take (j+1))=q':=⟨_,rfl⟩
     rw[hq']at hMl
     generalize cH ((L.drop i).take j)=q at *
     generalize L.take (i+j)=T at *
     generalize pvL 2147483648 L (i+j)=p at *
     generalize L[i+j]! = p' at *
     show AWP _ _ (rS2 b c q T p) _
     simp[-ζ,-ξ,↓KW,rS2,eK,aA,aD,aC,aE,aB]
     refine aH hC ?_
     simp[-ζ,-ξ,↓KW,hr1,aA,aD,aC,aE,aB]
     refine aH hB ?_
     rw[←hTl]at hbb
     simp[-ζ,-ξ,↓KW,eK,hbb,bU,aA,aD,aC,aE,aB,hw]
     refine aH hO ?_
     simp[-ζ,-ξ,↓KW,aP p',aA,aD,aC,aE,aB]
     refine aH hMl ?_
     simp[-ζ,-ξ,↓KW,aP q',aA,aD,aC,aE,aB]
     refine aN (j+1) (by omega) (by show J-(j+1)<J-j;omega) ?_
     show ∃ ρ,Wk _ (StL _ _ _) ρ
     rw[hT,hps,hq']
     refine wkQ [1,6,3,4] ?_ ?_<;>simp[-ζ,upd,aT,Γ0,Bq,bQ,aPg,jU]
    ·have hjJ:j=J:=by omega
     rw[←hjJ]at hbig ⊢
     have hr1:¬r≤0:=fun h=>by have:=hr.1 h;omega
     have e1:DM (i+j) ((dU (L.take (i+j))).map AV.d)=(dU (L.take (i+j))).map AV.d:=jQ hTl
     have e2:=mS hTl
     have e3:=eK (L.take (i+j))
     rw[hTl]at e3
     generalize cH ((L.drop i).take j)=q at *
     show AWP _ _ (rS2 b c q (L.take (i+j)) _) _
     generalize pvL 2147483648 L (i+j)=p at *
     generalize L.take (i+j)=T at *
     simp[-ζ,-ξ,↓KW,rS2,eK,hTl,aA,aD,aC,aE,aB]
     refine aH hC ?_
     simp[-ζ,-ξ,↓KW,hr1,cM,hTl,e1,e2,e3,aA,aD,aC,aE,aB]
     refine bE ?_
     simp[-ζ,-ξ,↓KW,cM,hTl,e1,e2,e3]
theorem aWm{x y c q r:Nat}(hc:0<c)(hy:0<y)(h:q*(y*c)+r=x*c)(hr:r<y*c):q=x/y∧r/c=x%y:=by
 have hq:x*c/(y*c)=q:=by
  have:=(Nat.div_mod_unique (E4 hy hc) (a:=x*c) (d:=q) (c:=r)).2 ⟨by rw[BV (y*c)];omega,hr⟩
  exact this.1
 rw[Nat.mul_div_mul_right _ _ hc]at hq
 refine⟨hq.symm,?_⟩
 have h2:r=x%y*c:=by
  have h3:=Ew x y
  rw[hq]at h3
  have h4:(y*q+x%y)*c=x*c:=by rw[h3]
  rw[B2]at h4
  have h5:y*q*c=q*(y*c):=by rw[BV y,BT]
  omega
 rw[h2,Nat.mul_div_cancel _ hc]
theorem bFk{dt c:Nat}(htop:0<dt)(hs:dt*c<4294967296):∃ t,dt*c=t∧c≤t∧t<4294967296∧(t<2147483648→dt*(2*c)<4294967296) :=
 ⟨_,rfl,Nat.le_mul_of_pos_left _ htop,hs,fun h=>by rw[Fg];omega⟩
def zq(q:Nat):AV:=if q=0 then .nil else .d (aG (aM q))
theorem uA{x c n:Nat}(h1:(aM x).length≤n)(h2:c<4294967296):(aM (x*c)).length≤n+1 :=
 dB (by rw[BJ];exact Nat.mul_lt_mul'' (kP h1) h2)
theorem bHn[M:Mch Aa]{x c X:Nat}(h:x+c=X)(h1:(aM (x:Int).natAbs).length≤549755813888)(h2:(aM (c:Int).natAbs).length≤549755813888):Spec Aa 22 [encZ (x:Int),encZ (c:Int)] (encZ (X:Int)):=by
 have:=sZ (x:Int) (c:Int) h1 h2
 rwa [←Ey,h]at this
theorem aZj[M:Mch Aa]{x c X:Nat}(h:x=X+c)(h1:(aM (x:Int).natAbs).length≤549755813888)(h2:(aM (c:Int).natAbs).length≤549755813888):Spec Aa 65 [encZ (x:Int),encZ (c:Int)] (encZ (X:Int)):=by
 have:=aFp (x:Int) (c:Int) h1 h2
 rwa [show(x:Int)-c=X by omega]at this
theorem bFo{q Y r X e E r':Nat}(hp:q*Y+r=X)(hE:e*Y=E)(hr:r=r'+E)(he:0<e)(hY:0<Y):(q+e)*Y+r'=X∧r'<r∧q+e≤X∧E≤X:=by
 have h1:(q+e)*Y+r'=X:=by rw[B2,hE];omega
 have h2:0<E:=by rw[←hE];exact E4 he hY
 have h3:q+e≤(q+e)*Y:=Nat.le_mul_of_pos_right _ hY
 exact⟨h1,by omega,by omega,by omega⟩
theorem bCy{c:Nat}(h:c<4294967296):(aM (c:Int).natAbs).length≤1:=dB (by simpa using h)
theorem zJ[M:Mch Aa]{x c X:Nat}(h:x*c=X)(h1:(aM (x:Int).natAbs).length≤137438953472)(h2:(aM (c:Int).natAbs).length≤137438953472):Spec Aa 24 [encZ (x:Int),encZ (c:Int)] (encZ (X:Int)):=by
 have:=jI (x:Int) (c:Int) h1 h2
 rwa [←CB,h]at this
theorem aKh[M:Mch Aa](n:Nat)(hn:n<4294967296):Spec Aa 18 [aG [n],.b false] (encZ (n:Int)):=by
 have hm:=eB [n] false (by simp)
 rw[cS (.one hn)]at hm
 simpa[val,sg]using hm
set_option maxRecDepth 10000 in
theorem aUp[M:Mch Aa](x y qq rr:Nat)(hqq:x/y=qq)(hrr:x%y=rr)(hy:0<y)(hlx:(aM x).length≤130000000000)(hly:(aM y).length≤130000000000):Spec Aa 178 [aG (aM x),aG (aM y)] (.tp [encZ (qq:Int),encZ (rr:Int)]):=by
 refine bI (N:=86) Tryz.func178 ?_
 have lx:=bW x
 have ly:=bW y
 have vx:=cE x
 have vy:=cE y
 have cy:=nU y
 have hne:aM y≠[]:=fun h=>by rw[iL]at h;omega
 have hyl:0<(aM y).length:=Eb.2 hne
 have hmx:∀ n:Nat,n<4294967296→Spec Aa 18 [aG [n],.b false] (encZ (n:Int)):=fun n hn=>by
  have hm:=eB [n] false (by simp)
  rw[cS (.one hn)]at hm
  simpa[val,sg]using hm
 by_cases h1:(aM y).length=1
 ·obtain⟨d,hd⟩:=List.length_eq_one_iff.1 h1
  have hdl:d<4294967296:=ly d (by rw[hd];simp)
  have hdv:d=y:=by rw[hd]at vy;simpa[val]using vy
  have hs:=aIw (aM x) d lx (by omega) hdl (by omega)
  obtain⟨s1,s2,s3,_⟩:=aFd (a:=aM x) (d:=d) lx (by omega)
  have hm1:=eB (shQ (aM x) d) false (by omega)
  rw[cS s2,s3,vx,show sg false (x/d)=((x/d:Nat):Int)from rfl]at hm1
  have hm2:=hmx (val (aM x)%d) (by have:=BY (val (aM x)) (show d>0 by omega);omega)
  rw[hd]
  rw[vx,hdv,hrr]at hm2 hs
  rw[hdv,hqq]at hm1
  rw[hdv]
  generalize shQ (aM x) y=Q at *
  generalize aM x=a at *
  simp[-ζ,-ξ,↓KW,aG]
  refine aH hs ?_
  simp[-ζ,-ξ,↓KW,aG]
  refine aH hm1 ?_
  simp[-ζ,-ξ,↓KW,aG]
  refine bJ (ds:=[aG [rr],.b false]) ?_ hm2 ?_
  ·simp[-ζ,-ξ,↓KW,aG]
  simp[-ζ,-ξ,↓KW,aG,encZ,encI,eQ]
 ·have hq1:(((aM y).length:Int)==1)=false:=by simp only[Dx,ne_eq];omega
  obtain⟨m,hm⟩:∃ m,(aM y).length=m+1:=⟨(aM y).length-1,by omega⟩
  have gd:=getD_some (l:=aM y) (i:=m) (by omega)
  have hdm:=ly.getD m
  have htop:0<(aM y).getD m 0:=by
   have h2:(aM y).getLast? ≠ some 0:=cy
   rw[F0,show(aM y).length-1=m by omega,gd]at h2
   rcases Be ((aM y).getD m 0)with h|h
   ·rw[h]at h2;exact absurd rfl h2
   ·exact h
  generalize(aM y).getD m 0=dt at *
  have c2:Ag.wrap (((aM y).length:Int)-1)=(m:Int):=by rw[aV];omega
  have c3:Az.wrap (dt:Int)=dt:=wrap_u64 (by omega) (by omega)
  have hma:=eB (aM x) false (by omega)
  rw[cS lx,vx,show sg false x=(x:Int)from rfl]at hma
  have hmb:=eB (aM y) false (by omega)
  rw[cS ly,vy,show sg false y=(y:Int)from rfl]at hmb
  have hX:(aM (x:Int).natAbs).length≤130000000000:=hlx
  have hY:(aM (y:Int).natAbs).length≤130000000000:=hly
  generalize aM x=a at *
  generalize aM y=b at *
  clear hmx lx ly vx vy cy hne
  simp[-ζ,-ξ,↓KW,aG,hq1]
  refine cL (fun c:Nat=>0<c∧dt*c<4294967296)
   (fun c=>StL [(0,.d (aG a)),(1,.d (aG b)),(4,.ptr 1 0),(5,.ptr 2 0),(8,.d (.i .u32 (c:Int)))] none
    [.cells 31 [.d (.b false),.nil],.cells 31 [.d (.b false),.nil]]) (fun c=>4294967296-c) 1 ⟨by decide,by omega⟩ ?_ ?_
  ·refine wkQ [1,2] ?_ ?_<;>simp[-ζ,upd,aT,Γ0,aG]
  ·intro c hs
   refine(bFk htop hs.2).elim fun t h5=>?_
   have hc0:=hs.1
   have ht:=h5.1
   have hcd:=h5.2.1
   have hs2:=h5.2.2.1
   have hdc:=h5.2.2.2
   have c4:Az.wrap (c:Int)=c:=wrap_u64 (by omega) (by omega)
   have c5:Az.wrap ((dt:Int)*c)=t:=by rw[←CB,ht,wrap_u64 (by omega) (by omega)]
   by_cases hgo:t<2147483648
   ·have q1:(t:Int)<2147483648:=by omega
    have c6:BC.wrap (2*(c:Int))=2*(c:Int):=wrap_u32 (by omega) (by omega)
    simp[-ζ,-ξ,↓KW,aG,c2,c3,c4,c5,c6,gd,q1]
    refine aN (2*c) ⟨by omega,hdc hgo⟩ ?_ (wkQ [1,2] ?_ ?_)
    ·omega
    ·simp[-ζ,upd,aT,Γ0,aG]
    ·simp[-ζ,upd,aT,Γ0,aG]
   ·have q1:¬(t:Int)<2147483648:=by omega
    have hc32:c<4294967296:=by omega
    have hmc:=aKh c hc32
    simp[-ζ,-ξ,↓KW,aG,c2,c3,c4,c5,gd,q1]
    refine bJ (ds:=[aG [c],.b false]) ?_ hmc ?_
    ·simp[-ζ,-ξ,↓KW,aG]
    simp[-ζ,-ξ,↓KW,aG,encZ,encI]
    refine aH hma ?_
    simp[-ζ,-ξ,↓KW,encZ,encI,aG]
    refine(⟨_,rfl⟩:∃ X,x*c=X).elim fun X hXe=>?_
    refine(⟨_,rfl⟩:∃ X,y*c=X).elim fun Y hYe=>?_
    have hC:=bCy hc32
    have hXl:(aM X).length≤130000000001:=by rw[←hXe];exact uA hX hc32
    have hYl:(aM Y).length≤130000000001:=by rw[←hYe];exact uA hY hc32
    have hY0:0<Y:=by rw[←hYe];exact E4 hy hc0
    have hMx:=zJ (X:=X) hXe (by omega) (by omega) (x:=x) (c:=c)
    have hMy:=zJ (X:=Y) hYe (by omega) (by omega) (x:=y) (c:=c)
    refine bJ (ds:=[encZ x,encZ c]) ?_ hMx ?_
    ·simp[-ζ,-ξ,↓KW,encZ,encI,aG]
    simp[-ζ,-ξ,↓KW,encZ,encI,aG]
    refine aH hmb ?_
    simp[-ζ,-ξ,↓KW,encZ,encI,aG]
    refine bJ (ds:=[encZ y,encZ c]) ?_ hMy ?_
    ·simp[-ζ,-ξ,↓KW,encZ,encI,aG]
    simp[-ζ,-ξ,↓KW,encZ,encI,aG]
    refine cL (fun p:Nat×Nat=>p.1*Y+p.2=X)
     (fun p=>StL [(4,.ptr 1 0),(5,.ptr 2 0),(8,.d (.i .u32 (c:Int))),(10,.ptr 3 0),(11,.ptr 4 0),(12,.ptr 5 0)] none
      [.cells 31 [.d (.b false),.nil],.cells 31 [.d (.b false),.nil],.cells 31 [.d (.b false),.d (aG (aM p.2))],.cells 31 [.d (.b false),.d (aG (aM Y))],.cells 31 [.d (.b false),zq p.1]]) (fun p=>p.2) (0,X) (by simp) ?_ ?_
    ·refine wkQ [1,2,5,6,7] ?_ ?_<;>simp[-ζ,upd,aT,Γ0,aG,zq]
    ·intro p hp
     have hpX:p.2≤X:=by rw[←hp];exact Nat.le_add_left _ _
     have hpl:=AO (eJ hpX) hXl
     have hless:=xQ (aM p.2) (aM Y) (bW _) (bW _) (by omega) (by omega)
     rw[fF]at hless
     simp[-ζ,-ξ,↓KW,aG]
     refine aH hless ?_
     by_cases hgo:p.2<Y
     ·simp[-ζ,-ξ,↓KW,hgo]
      have hsh:=aIw (aM p.2) c (bW _) hc0 hc32 (by omega)
      have hsv:=aFd (bW p.2) hc0
      have hmd:=eB (shQ (aM p.2) c) false (by have:=hsv.1;omega)
      have hfin:=aWm hc0 hy (x:=x) (q:=p.1) (r:=p.2) (by rw[hYe,hXe];exact hp) (by rw[hYe];exact hgo)
      rw[cS hsv.2.1,hsv.2.2.1,cE,hfin.2,hrr,show sg false rr=(rr:Int)from rfl]at hmd
      refine aH hsh ?_
      simp[-ζ,-ξ,↓KW,aG]
      refine aH hmd ?_
      have hq1:p.1=qq:=hfin.1.trans hqq
      rw[hq1]
      by_cases hq0:qq=0
      ·simp[-ζ,-ξ,↓KW,encZ,encI,aG,eQ,zq,hq0,cA]
      ·simp[-ζ,-ξ,↓KW,encZ,encI,aG,eQ,zq,hq0]
     ·simp[-ζ,-ξ,↓KW,hgo]
      refine(aIy (aM p.2) (aM Y) (bW _) (bW _) (nU _) (nU _) (fun h=>by rw[iL]at h;omega) (by rw[cE,cE];omega) (by omega)).elim fun e he=>?_
      have he1:=he.2.1
      rw[cE,cE]at he1
      refine(⟨_,rfl⟩:∃ E,e*Y=E).elim fun E hE=>?_
      rw[hE]at he1
      refine(⟨_,rfl⟩:∃ F,p.2-E=F).elim fun R' hR'=>?_
      have hR2:p.2=R'+E:=by omega
      have hst:=bFo hp hE hR2 he.1 hY0
      refine(⟨_,rfl⟩:∃ F,p.1+e=F).elim fun q' hq'=>?_
      rw[hq']at hst
      have hel:(aM (e:Int).natAbs).length≤130000000001:=AO (eJ (show e≤X by omega)) hXl
      have hqpl:(aM (p.1:Int).natAbs).length≤130000000001:=AO (eJ (show p.1≤X by omega)) hXl
      have hEl:(aM (E:Int).natAbs).length≤130000000001:=AO (eJ (show E≤X by omega)) hXl
      have hrl:(aM (p.2:Int).natAbs).length≤130000000001:=hpl
      have hYl2:(aM (Y:Int).natAbs).length≤130000000001:=hYl
      have hadd:=bHn hq' (by omega) (by omega)
      have hmul:=zJ hE (by omega) (by omega)
      have hsub:=aZj hR2 (by omega) (by omega)
      by_cases hq0:p.1=0
      ·have hz:zq p.1=.nil:=Ar hq0
       refine aH he.2.2 ?_
       simp[-ζ,-ξ,↓KW,aG,encZ,encI,hz]
       refine bJ (ds:=[encZ p.1,encZ e]) ?_ hadd ?_
       ·simp[-ζ,-ξ,↓KW,encZ,encI,aG,hq0,cA]
       simp[-ζ,-ξ,↓KW,aG,encZ,encI]
       refine bJ (ds:=[encZ e,encZ Y]) ?_ hmul ?_
       ·simp[-ζ,-ξ,↓KW,encZ,encI,aG]
       simp[-ζ,-ξ,↓KW,aG,encZ,encI]
       refine bJ (ds:=[encZ p.2,encZ E]) ?_ hsub ?_
       ·simp[-ζ,-ξ,↓KW,encZ,encI,aG]
       simp[-ζ,-ξ,↓KW,aG,encZ,encI]
       have hz2:zq q'=.d (aG (aM q')):=Aj (by have:=he.1;omega)
       refine aN (q',R') hst.1 hst.2.1 (wkQ [1,2,3,4,5] ?_ ?_)
       ·simp[-ζ,upd,aT,Γ0,aG,hz2]
       ·simp[-ζ,upd,aT,Γ0,aG,hz2]
      ·have hz:zq p.1=.d (aG (aM p.1)):=Aj hq0
       refine aH he.2.2 ?_
       simp[-ζ,-ξ,↓KW,aG,encZ,encI,hz]
       refine bJ (ds:=[encZ p.1,encZ e]) ?_ hadd ?_
       ·simp[-ζ,-ξ,↓KW,encZ,encI,aG,hq0,cA]
       simp[-ζ,-ξ,↓KW,aG,encZ,encI]
       refine bJ (ds:=[encZ e,encZ Y]) ?_ hmul ?_
       ·simp[-ζ,-ξ,↓KW,encZ,encI,aG]
       simp[-ζ,-ξ,↓KW,aG,encZ,encI]
       refine bJ (ds:=[encZ p.2,encZ E]) ?_ hsub ?_
       ·simp[-ζ,-ξ,↓KW,encZ,encI,aG]
       simp[-ζ,-ξ,↓KW,aG,encZ,encI]
       have hz2:zq q'=.d (aG (aM q')):=Aj (by have:=he.1;omega)
       refine aN (q',R') hst.1 hst.2.1 (wkQ [1,2,3,4,5] ?_ ?_)
       ·simp[-ζ,upd,aT,Γ0,aG,hz2]
       ·simp[-ζ,upd,aT,Γ0,aG,hz2]
theorem iK{x y q r:Int}(hy:y≠0)(h:r+y*q=x)(h0:0≤r)(h1:r<(y.natAbs:Int)):x/y=q∧x%y=r:=by
 by_cases hp:0<y
 ·exact(Int.ediv_emod_unique hp).2 ⟨h,h0,by omega⟩
 ·obtain⟨z,hz⟩:∃ z,y=-z:=⟨-y,by omega⟩
  subst hz
  have:=(Int.ediv_emod_unique (a:=x) (b:=z) (q:=-q) (r:=r) (by omega)).2 ⟨by rw[←h,D3,Int.neg_mul],h0,by omega⟩
  rw[Int.ediv_neg,Int.emod_neg]
  omega
theorem aDo[M:Mch Aa](x:Int)(hx:(aM x.natAbs).length≤1099511627776):Spec Aa 18 [aG (aM x.natAbs),.b (decide (x<0))] (encZ x):=by
 have hm:=eB (aM x.natAbs) (decide (x<0)) hx
 rwa [cS (bW _),cE,fM]at hm
theorem bFn(x y:Int)(hy:y≠0){qq rr:Nat}(hqq:x.natAbs/y.natAbs=qq)(hrr:x.natAbs%y.natAbs=rr) :
  (rr<y.natAbs)∧qq*y.natAbs+rr=x.natAbs∧(¬x<0→¬y<0→x/y=qq∧x%y=rr)∧(¬x<0→y<0→x/y=-(qq:Int)∧x%y=rr) ∧
  (x<0→rr=0→¬y<0→x/y=-(qq:Int)∧x%y=0)∧(x<0→rr=0→y<0→x/y=qq∧x%y=0) ∧
  (x<0→0<rr→¬y<0→x/y=-((qq:Int)+1)∧x%y=(y.natAbs:Int)-rr)∧(x<0→0<rr→y<0→x/y=(qq:Int)+1∧x%y=(y.natAbs:Int)-rr):=by
 have hya:0<y.natAbs:=by omega
 have h1:rr<y.natAbs:=by rw[←hrr];exact BY _ hya
 have h2:qq*y.natAbs+rr=x.natAbs:=by rw[←hqq,←hrr,BV];exact Ew ..
 have h3:(qq:Int)*(y.natAbs:Int)+rr=(x.natAbs:Int):=by exact_mod_cast h2
 have ep:¬y<0→(y.natAbs:Int)=y:=fun h=>by omega
 have en:y<0→(y.natAbs:Int)=-y:=fun h=>by omega
 refine⟨h1,h2,fun hx h=>?_,fun hx h=>?_,fun hx h0 h=>?_,fun hx h0 h=>?_,fun hx h0 h=>?_,fun hx h0 h=>?_⟩
 ·exact iK hy (by rw[ep h,Fh]at h3;omega) (by omega) (by omega)
 ·exact iK hy (by rw[en h,D3,Fh]at h3;rw[D3];omega) (by omega) (by omega)
 ·exact iK hy (by rw[ep h,Fh]at h3;rw[D3];omega) (by omega) (by omega)
 ·exact iK hy (by rw[en h,D3,Fh]at h3;omega) (by omega) (by omega)
 ·exact iK hy (by rw[ep h,Fh]at h3;rw[ep h,D3,Int.mul_add];omega) (by omega) (by omega)
 ·exact iK hy (by rw[en h,D3,Fh]at h3;rw[en h,Int.mul_add];omega) (by omega) (by omega)
theorem aCc(n:Nat):(aM (n+1)).length≤(aM n).length+1:=by
 have h:=kP (AE (aM n).length)
 refine dB ?_
 rw[BJ]
 have:0<4294967296^(aM n).length:=Nat.pow_pos (by decide)
 omega
theorem aVr[M:Mch Aa](y:Int)(hy:(aM y.natAbs).length≤1099511627776):Spec Aa 18 [aG (aM y.natAbs),.b false] (encZ (y.natAbs:Int)):=by
 have hm:=eB (aM y.natAbs) false hy
 rw[cS (bW _),cE]at hm
 exact hm
set_option maxRecDepth 10000 in
theorem kJ[M:Mch Aa](x y:Int)(hy:y≠0)(hx:(aM x.natAbs).length≤130000000000)(hyl:(aM y.natAbs).length≤130000000000):Spec Aa 134 [encZ x,encZ y] (.tp [encZ (x/y),encZ (x%y),.i .i64 0]):=by
 have hx0:=hx
 have hyl0:=hyl
 refine aZy (N:=56) aW Tryz.func134 rfl rfl rfl (by kernel_rfl) (by kernel_rfl) (by simp) ?_
 obtain⟨qq,hqq⟩:∃ q,x.natAbs/y.natAbs=q:=⟨_,rfl⟩
 obtain⟨rr,hrr⟩:∃ q,x.natAbs%y.natAbs=q:=⟨_,rfl⟩
 have hf:=bFn x y hy hqq hrr
 obtain⟨Q,hQ⟩:∃ Q,x/y=Q:=⟨_,rfl⟩
 obtain⟨R,hR⟩:∃ Q,x%y=Q:=⟨_,rfl⟩
 have hm1:=aDo x (by omega)
 have hm2:=aDo y (by omega)
 have hd:=aUp x.natAbs y.natAbs qq rr hqq hrr (by omega) hx hyl
 have hs:=kN y
 have hs0:y.sign≠0:=fun h=>hy (F3.1 h)
 have hmy:=aVr y (by omega)
 have hlq:(aM qq).length≤130000000000:=AO (eJ (by rw[←hqq];exact DW ..)) hx0
 have hlr:(aM rr).length≤130000000000:=AO (eJ (by have:=hf.1;omega)) hyl0
 have hnq:((qq:Int)).natAbs=qq:=Cn qq
 have hnr:((rr:Int)).natAbs=rr:=Cn rr
 have hny0:((y.natAbs:Int)).natAbs=y.natAbs:=Cn _
 have hof:=aIz 1 (by decide) (by decide)
 have had:=sZ (qq:Int) 1 (by rw[hnq];omega) (AO (dB (k:=1) (by decide)) (by decide))
 have hsu:=aFp (y.natAbs:Int) (rr:Int) (by rw[hny0];omega) (by rw[hnr];omega)
 have hn1:=qJ (qq:Int) (by rw[hnq];omega)
 have hn2:=qJ ((qq:Int)+1) (by
  have:((qq:Int)+1).natAbs=qq+1:=by omega
  rw[this]
  have:=aCc qq
  omega)
 have hsr:=kN (rr:Int)
 have hz:∀ z:Int,∃ s m,encZ z=.ag [.b s,aG m]:=fun z=>⟨_,_,rfl⟩
 obtain⟨sq,mq,eq⟩:=hz qq
 obtain⟨sr,mr,er⟩:=hz rr
 obtain⟨s1,m1,e1⟩:=hz 1
 obtain⟨sp,mp,ep⟩:=hz ((qq:Int)+1)
 obtain⟨sy,my,ey0⟩:=hz (y.natAbs:Int)
 obtain⟨sd,md,ed⟩:=hz ((y.natAbs:Int)-rr)
 obtain⟨sn,mn,en1⟩:=hz (-(qq:Int))
 obtain⟨sm,mm,en2⟩:=hz (-((qq:Int)+1))
 rw[eq,er]at hd
 rw[e1]at hof
 rw[eq,e1,ep]at had
 rw[ey0,er,ed]at hsu
 rw[eq,en1]at hn1
 rw[ep,en2]at hn2
 rw[er]at hsr
 rw[ey0]at hmy
 have hsg0:rr=0→(rr:Int).sign=0:=fun h=>by rw[h];rfl
 have hsg1:¬rr=0→(rr:Int).sign=1:=fun h=>DG (by omega)
 rw[hQ,hR]at hf ⊢
 have ex:encZ x=.ag [.b (decide (x<0)),aG (aM x.natAbs)]:=rfl
 have ey:encZ y=.ag [.b (decide (y<0)),aG (aM y.natAbs)]:=rfl
 rw[ex]at hm1 ⊢
 rw[ey]at hm2 hs ⊢
 generalize aM x.natAbs=a at *
 generalize aM y.natAbs=b at *
 have hs1:(y.sign==0)=false:=by simpa using hs0
 simp[-ζ,-ξ,↓KW,↓aX,↓aY,aU,aG]
 refine aH hm1 ?_
 simp[-ζ,-ξ,↓KW,↓aX,↓aY,aU,aG]
 refine aH hm2 ?_
 simp[-ζ,-ξ,↓KW,↓aX,↓aY,aU,aG]
 refine bJ (ds:=[.ag [.b (decide (y<0)),aG b]]) ?_ hs ?_
 ·simp[-ζ,-ξ,↓KW,↓aX,↓aY,aU,aG,hs1]
 simp[-ζ,-ξ,↓KW,↓aX,↓aY,aU,aG,hs1]
 refine aH hd ?_
 by_cases hnx:x<0<;>by_cases hny:y<0
 rw[BU hnx,BU hny]at *
 by_cases hr0:rr=0
 obtain⟨f1,f2⟩:=hf.2.2.2.2.2.1 hnx hr0 hny
 have e0:encZ 0=.ag [.b sr,aG mr]:=by rw[←er,hr0];rfl
 have hsg:=hsg0 hr0
 rw[f1,f2,eq,e0]
 simp[-ζ,-ξ,↓KW,↓aX,↓aY,aU,aG]
 refine bJ (ds:=[.ag [.b sr,aG mr]]) ?_ hsr ?_
 ·simp[-ζ,-ξ,↓KW,↓aX,↓aY,aU,aG,hsg]
 simp[-ζ,-ξ,↓KW,↓aX,↓aY,aU,aG,hsg]
 rotate_left
 obtain⟨f1,f2⟩:=hf.2.2.2.2.2.2.2 hnx (by omega) hny
 have hsg:=hsg1 hr0
 rw[f1,f2,ep,ed]
 simp[-ζ,-ξ,↓KW,↓aX,↓aY,aU,aG]
 refine bJ (ds:=[.ag [.b sr,aG mr]]) ?_ hsr ?_
 ·simp[-ζ,-ξ,↓KW,↓aX,↓aY,aU,aG,hsg]
 simp[-ζ,-ξ,↓KW,↓aX,↓aY,aU,aG,hsg]
 refine aH hof ?_
 simp[-ζ,-ξ,↓KW,↓aX,↓aY,aU,aG]
 refine bJ (ds:=[.ag [.b sq,aG mq],.ag [.b s1,aG m1]]) ?_ had ?_
 ·simp[-ζ,-ξ,↓KW,↓aX,↓aY,aU,aG]
 simp[-ζ,-ξ,↓KW,↓aX,↓aY,aU,aG]
 refine aH hmy ?_
 simp[-ζ,-ξ,↓KW,↓aX,↓aY,aU,aG]
 refine bJ (ds:=[.ag [.b sy,aG my],.ag [.b sr,aG mr]]) ?_ hsu ?_
 ·simp[-ζ,-ξ,↓KW,↓aX,↓aY,aU,aG]
 simp[-ζ,-ξ,↓KW,↓aX,↓aY,aU,aG]
 rotate_left
 rw[BU hnx,Bn hny]at *
 by_cases hr0:rr=0
 obtain⟨f1,f2⟩:=hf.2.2.2.2.1 hnx hr0 hny
 have e0:encZ 0=.ag [.b sr,aG mr]:=by rw[←er,hr0];rfl
 have hsg:=hsg0 hr0
 rw[f1,f2,en1,e0]
 simp[-ζ,-ξ,↓KW,↓aX,↓aY,aU,aG]
 refine bJ (ds:=[.ag [.b sr,aG mr]]) ?_ hsr ?_
 ·simp[-ζ,-ξ,↓KW,↓aX,↓aY,aU,aG,hsg]
 simp[-ζ,-ξ,↓KW,↓aX,↓aY,aU,aG,hsg]
 refine bJ (ds:=[.ag [.b sq,aG mq]]) ?_ hn1 ?_
 ·simp[-ζ,-ξ,↓KW,↓aX,↓aY,aU,aG]
 simp[-ζ,-ξ,↓KW,↓aX,↓aY,aU,aG]
 rotate_left
 obtain⟨f1,f2⟩:=hf.2.2.2.2.2.2.1 hnx (by omega) hny
 have hsg:=hsg1 hr0
 rw[f1,f2,en2,ed]
 simp[-ζ,-ξ,↓KW,↓aX,↓aY,aU,aG]
 refine bJ (ds:=[.ag [.b sr,aG mr]]) ?_ hsr ?_
 ·simp[-ζ,-ξ,↓KW,↓aX,↓aY,aU,aG,hsg]
 simp[-ζ,-ξ,↓KW,↓aX,↓aY,aU,aG,hsg]
 refine aH hof ?_
 simp[-ζ,-ξ,↓KW,↓aX,↓aY,aU,aG]
 refine bJ (ds:=[.ag [.b sq,aG mq],.ag [.b s1,aG m1]]) ?_ had ?_
 ·simp[-ζ,-ξ,↓KW,↓aX,↓aY,aU,aG]
 simp[-ζ,-ξ,↓KW,↓aX,↓aY,aU,aG]
 refine aH hmy ?_
 simp[-ζ,-ξ,↓KW,↓aX,↓aY,aU,aG]
 refine bJ (ds:=[.ag [.b sy,aG my],.ag [.b sr,aG mr]]) ?_ hsu ?_
 ·simp[-ζ,-ξ,↓KW,↓aX,↓aY,aU,aG]
 simp[-ζ,-ξ,↓KW,↓aX,↓aY,aU,aG]
 refine bJ (ds:=[.ag [.b sp,aG mp]]) ?_ hn2 ?_
 ·simp[-ζ,-ξ,↓KW,↓aX,↓aY,aU,aG]
 simp[-ζ,-ξ,↓KW,↓aX,↓aY,aU,aG]
 rotate_left
 rw[Bn hnx,BU hny]at *
 obtain⟨f1,f2⟩:=hf.2.2.2.1 hnx hny
 rw[f1,f2,en1,er]
 simp[-ζ,-ξ,↓KW,↓aX,↓aY,aU,aG]
 refine bJ (ds:=[.ag [.b sq,aG mq]]) ?_ hn1 ?_
 ·simp[-ζ,-ξ,↓KW,↓aX,↓aY,aU,aG]
 simp[-ζ,-ξ,↓KW,↓aX,↓aY,aU,aG]
 rotate_left
 rw[Bn hnx,Bn hny]at *
 obtain⟨f1,f2⟩:=hf.2.2.1 hnx hny
 rw[f1,f2,eq,er]
 simp[-ζ,-ξ,↓KW,↓aX,↓aY,aU,aG]
 rotate_left
 all_goals
  refine aFu 0 1 (by kernel_rfl) rfl rfl ?_ ?_
  ·simp[-ζ,-ξ,↓KW,↓aX,↓aY,aU,aG]
   refine aFu 1 2 (by kernel_rfl) rfl rfl ?_ ?_
   ·simp[-ζ,-ξ,↓KW,↓aX,↓aY,aU,aG]
    refine fX 2 (by kernel_rfl) rfl ?_
    simp[-ζ,-ξ,↓KW,↓aX,↓aY,aU,aG]
    refine fX 3 (by kernel_rfl) rfl ?_
    simp[-ζ,-ξ,↓KW,↓aX,↓aY,aU,aG]
    refine fX 4 (by kernel_rfl) rfl ?_
    simp[-ζ,-ξ,↓KW,↓aX,↓aY,aU,aG]
    refine vE (by kernel_rfl) ?_
    simp[-ζ,-ξ,↓KW,↓aX,↓aY,aU,aG,aNq]
   ·simp[-ζ,-ξ,↓KW,↓aX,↓aY,aU,aG]
    refine fX 1 (by kernel_rfl) rfl ?_
    simp[-ζ,-ξ,↓KW,↓aX,↓aY,aU,aG]
    refine fX 3 (by kernel_rfl) rfl ?_
    simp[-ζ,-ξ,↓KW,↓aX,↓aY,aU,aG]
    refine fX 4 (by kernel_rfl) rfl ?_
    simp[-ζ,-ξ,↓KW,↓aX,↓aY,aU,aG]
    refine vE (by kernel_rfl) ?_
    simp[-ζ,-ξ,↓KW,↓aX,↓aY,aU,aG,aNq]
  ·simp[-ζ,-ξ,↓KW,↓aX,↓aY,aU,aG]
   refine fX 0 (by kernel_rfl) rfl ?_
   simp[-ζ,-ξ,↓KW,↓aX,↓aY,aU,aG]
   refine fX 2 (by kernel_rfl) rfl ?_
   simp[-ζ,-ξ,↓KW,↓aX,↓aY,aU,aG]
   refine fX 3 (by kernel_rfl) rfl ?_
   simp[-ζ,-ξ,↓KW,↓aX,↓aY,aU,aG]
   refine fX 4 (by kernel_rfl) rfl ?_
   simp[-ζ,-ξ,↓KW,↓aX,↓aY,aU,aG]
   refine vE (by kernel_rfl) ?_
   simp[-ζ,-ξ,↓KW,↓aX,↓aY,aU,aG,aNq]
def aXk:Nat:=4294967296^128
def SB(z:Int):Prop:=z.natAbs<aXk
theorem SB.len{z:Int}(h:SB z):(aM z.natAbs).length≤128:=dB h
theorem SB.le{z:Int}{n:Nat}(h:SB z)(hn:128≤n):(aM z.natAbs).length≤n:=AO h.len hn
theorem aNe{b:Int}(h:b≠0):(b.sign != 0)=true:=by
 rw[bne_iff_ne];exact fun h'=>h (F3.1 h')
theorem bEg(a b:Int):Int.gcd b (a%b)=Int.gcd a b:=by
 rw[Int.gcd_comm b,Int.emod_def,Int.gcd_sub_mul_left_left]
set_option maxHeartbeats 4000000 in
set_option maxRecDepth 10000 in
theorem bBo[M:Mch Aa](x y:Int)(hx:SB x)(hy:SB y):Spec Aa 203 [encZ x,encZ y] (bN (Int.gcd x y)):=by
 refine aZw (N:=23) aW Tryz.func203 rfl rfl rfl (by kernel_rfl) (by simp) ?_
 refine fV (by kernel_rfl) ?_
 simp[-ζ,-ξ,↓KW,bF x,bF y,aA,aD,aC,aE,aB]
 refine xI (aCn (aYv (τ:=Int×Int) (fun t=>SB t.1∧SB t.2∧Int.gcd t.1 t.2=Int.gcd x y) (fun t=>StL [(2,.ptr 1 0),(3,.ptr 2 0),(4,.ptr 3 0)] none [.cells 31 [.d (.b (decide (t.1<0))),.d (aG (aM t.1.natAbs))],.cells 31 [.d (.b (decide (t.2<0))),.d (aG (aM t.2.natAbs))],.cells 31 [.d (.b false),.nil]]) (fun t=>t.2.natAbs) (x,y) ⟨hx,hy,rfl⟩ ?_ ?_))
 ·refine wkQ [1,2,3] ?_ ?_<;>simp[-ζ,upd,aT,Γ0]
 ·rintro⟨a,b⟩ ⟨ha,hb,hg⟩
  simp only at ha hb hg
  have hSg:=kN b
  refine fV (by kernel_rfl) ?_
  by_cases h0:b=0
  ·subst h0
   have hMd:=eB (aM a.natAbs) false (ha.le (by decide))
   rw[fD (bW _),cE]at hMd
   simp only[Bool.false_and]at hMd
   have hMd':Spec Aa 18 [aG (aM a.natAbs),.b false] (bN a.natAbs):=hMd
   rw[Int.gcd_zero_right]at hg
   rw[←hg]
   generalize a.natAbs=n at *
   simp[-ζ,-ξ,↓KW]
   refine aH hSg ?_
   simp[-ζ,-ξ,↓KW]
   refine xJ (by kernel_rfl) ?_
   simp[-ζ,-ξ,↓KW,aA,aD,aC,aE,aB]
   refine aH hMd' ?_
   simp[-ζ,-ξ,↓KW,aP n,aA,aD,aC,aE,aB]
  ·have hs:=aNe h0
   have hDm:=kJ a b h0 (ha.le (by decide)) (hb.le (by decide))
   have hr:SB (a%b):=by
    have h1:=Ez a h0
    have h2:=Int.emod_lt a h0
    unfold SB at *;omega
   have hlt:(a%b).natAbs<b.natAbs:=by
    have h1:=Ez a h0
    have h2:=Int.emod_lt a h0
    omega
   have hg2:=bEg a b
   generalize a%b=r at *
   generalize a/b=q at *
   generalize b.sign=s at *
   simp[-ζ,-ξ,↓KW,bF b,aA,aD,aC,aE,aB]
   refine aH hSg ?_
   simp[-ζ,-ξ,↓KW,hs,aA,aD,aC,aE,aB]
   refine aCn (fV (by kernel_rfl) ?_)
   simp[-ζ,-ξ,↓KW,aA,aD,aC,aE,aB]
   refine aH hDm ?_
   simp[-ζ,-ξ,↓KW,bF q,bF r,aA,aD,aC,aE,aB]
   refine aYu (by kernel_rfl) ?_
   refine aFu 0 1 (by kernel_rfl) rfl rfl ?_ ?_
   ·simp[-ζ,-ξ,↓KW,aU,aA,aD,aC,aE,aB]
    refine aFu 1 2 (by kernel_rfl) rfl rfl ?_ ?_
    ·simp[-ζ,-ξ,↓KW,aU,aA,aD,aC,aE,aB]
     refine fX 2 (by kernel_rfl) rfl ?_
     simp[-ζ,-ξ,↓KW,aU,aA,aD,aC,aE,aB]
     refine fX 3 (by kernel_rfl) rfl ?_
     simp[-ζ,-ξ,↓KW,aU,aA,aD,aC,aE,aB]
     refine vE (by kernel_rfl) ?_
     refine⟨b,r,⟨hb,hr,by rw[hg2];exact hg⟩,hlt,?_⟩
     refine wkQ [1,2,3] ?_ ?_<;>simp[-ζ,upd,aT,Γ0]
    ·simp[-ζ,-ξ,↓KW,aU,aA,aD,aC,aE,aB]
     refine fX 1 (by kernel_rfl) rfl ?_
     simp[-ζ,-ξ,↓KW,aU,aA,aD,aC,aE,aB]
     refine fX 3 (by kernel_rfl) rfl ?_
     simp[-ζ,-ξ,↓KW,aU,aA,aD,aC,aE,aB]
     refine vE (by kernel_rfl) ?_
     refine⟨b,r,⟨hb,hr,by rw[hg2];exact hg⟩,hlt,?_⟩
     refine wkQ [1,2,3] ?_ ?_<;>simp[-ζ,upd,aT,Γ0]
   ·simp[-ζ,-ξ,↓KW,aU,aA,aD,aC,aE,aB]
    refine fX 0 (by kernel_rfl) rfl ?_
    simp[-ζ,-ξ,↓KW,aU,aA,aD,aC,aE,aB]
    refine fX 2 (by kernel_rfl) rfl ?_
    simp[-ζ,-ξ,↓KW,aU,aA,aD,aC,aE,aB]
    refine fX 3 (by kernel_rfl) rfl ?_
    simp[-ζ,-ξ,↓KW,aU,aA,aD,aC,aE,aB]
    refine vE (by kernel_rfl) ?_
    refine⟨b,r,⟨hb,hr,by rw[hg2];exact hg⟩,hlt,?_⟩
    refine wkQ [1,2,3] ?_ ?_<;>simp[-ζ,upd,aT,Γ0]
end Go.Am
end
section
open List renaming map_map→ζ,mapM_map→ξ
namespace Go.Am
def fq(n d:Int):Rat:=if d<0 then mkRat (-n) (-d).toNat else mkRat n d.toNat
theorem bEp(n d:Int):fq n d=(n:Rat)/(d:Rat):=by
 unfold fq
 split
 ·rename_i h
  rw[Rat.mkRat_eq_div]
  have:(((-d).toNat:Nat):Rat)=-(d:Rat):=by
   rw[←Rat.intCast_neg,←CO,B0 (by omega)]
  rw[this,Rat.intCast_neg]
  have h0:(d:Rat)≠0:=by
   intro h';have:=Rat.intCast_eq_zero_iff.1 h';omega
  grind
 ·rename_i h
  rw[Rat.mkRat_eq_div]
  have:((d.toNat:Nat):Rat)=(d:Rat):=by
   rw[←CO,B0 (by omega)]
  rw[this]
theorem aGa{n:Int}{k:Nat}(h:k≠0):(mkRat n k).num=n/((n.natAbs.gcd k:Nat):Int)∧(mkRat n k).den=k/n.natAbs.gcd k:=by
 rw[Rat.mkRat_def,dif_neg h,Rat.normalize_eq]
 exact⟨rfl,rfl⟩
theorem aUt(a:Rat):a=(a.num:Rat)/(a.den:Rat):=by rw[←Rat.mkRat_eq_div,Rat.mkRat_self]
theorem aCz(a:Rat):(a.den:Rat)≠0:=by
 intro h
 have:=a.den_nz
 exact this (by exact_mod_cast h)
theorem bEn(a b:Rat):fq (a.num*b.num) ((a.den:Int)*(b.den:Int))=a*b:=by
 rw[bEp,Dw,Dw,CO,CO]
 have h1:=aCz a
 have h2:=aCz b
 have e1:=aUt a
 have e2:=aUt b
 generalize(a.den:Rat)=x at *
 generalize(b.den:Rat)=y at *
 generalize(a.num:Rat)=u at *
 generalize(b.num:Rat)=v at *
 subst e1;subst e2
 grind
theorem bEr(a b:Rat):fq (a.num*(b.den:Int)+b.num*(a.den:Int)) ((a.den:Int)*(b.den:Int))=a+b:=by
 rw[bEp,Dw,Rat.intCast_add,Dw,Dw,CO,CO]
 have h1:=aCz a
 have h2:=aCz b
 have e1:=aUt a
 have e2:=aUt b
 generalize(a.den:Rat)=x at *
 generalize(b.den:Rat)=y at *
 generalize(a.num:Rat)=u at *
 generalize(b.num:Rat)=v at *
 subst e1;subst e2
 grind
theorem bEq(a b:Rat)(hb:b≠0):fq (a.num*(b.den:Int)) ((a.den:Int)*b.num)=a/b:=by
 rw[bEp,Dw,Dw,CO,CO]
 have h1:=aCz a
 have h2:=aCz b
 have e1:=aUt a
 have e2:=aUt b
 have h3:(b.num:Rat)≠0:=by
  intro h;rw[h]at e2;apply hb;rw[e2];grind
 generalize(a.den:Rat)=x at *
 generalize(b.den:Rat)=y at *
 generalize(a.num:Rat)=u at *
 generalize(b.num:Rat)=v at *
 subst e1;subst e2
 grind
theorem bEo{n d:Int}(hd:d≠0):(fq n d).num.natAbs≤n.natAbs∧(fq n d).den≤d.natAbs:=by
 unfold fq
 split
 ·obtain⟨h1,h2⟩:=aGa (n:=-n) (k:=(-d).toNat) (by omega)
  rw[h1,h2]
  refine⟨AO (F8 _ _) (by omega),AO (DW ..) (by omega)⟩
 ·obtain⟨h1,h2⟩:=aGa (n:=n) (k:=d.toNat) (by omega)
  rw[h1,h2]
  refine⟨AO (F8 _ _) (by omega),AO (DW ..) (by omega)⟩
def QB(B:Nat)(q:Rat):Prop:=q.num.natAbs≤B∧q.den≤B
theorem QB.mono{B C:Nat}{q:Rat}(h:QB B q)(hc:B≤C):QB C q:=⟨AO h.1 hc,AO h.2 hc⟩
theorem bOj(q:Rat):(q.den:Int)≠0:=by have:=q.den_nz;omega
theorem bMm(a b:Rat):(a.den:Int)*(b.den:Int)≠0:=Int.mul_ne_zero (bOj a) (bOj b)
theorem QB.mul{B C:Nat}{a b:Rat}(ha:QB B a)(hb:QB C b):QB (B*C) (a*b):=by
 obtain⟨h1,h2⟩:=bEo (n:=a.num*b.num) (bMm a b)
 rw[bEn]at h1 h2
 rw[DQ]at h1 h2
 exact⟨AO h1 (Bg ha.1 hb.1),AO h2 (Bg ha.2 hb.2)⟩
theorem QB.add{B C:Nat}{a b:Rat}(ha:QB B a)(hb:QB C b):QB (2*(B*C)) (a+b):=by
 obtain⟨h1,h2⟩:=bEo (n:=a.num*(b.den:Int)+b.num*(a.den:Int)) (bMm a b)
 rw[bEr]at h1 h2
 rw[DQ]at h2
 have h3:=Bg ha.1 hb.2
 have h4:=Bg hb.1 ha.2
 have h5:=Bg ha.2 hb.2
 have h6:(a.num*(b.den:Int)+b.num*(a.den:Int)).natAbs≤a.num.natAbs*b.den+b.num.natAbs*a.den:=by
  refine AO (Int.natAbs_add_le _ _) ?_
  rw[DQ,DQ];simp
 rw[BV C B]at h4
 simp only[Cn]at h2
 exact⟨by omega,by omega⟩
theorem QB.neg{B:Nat}{a:Rat}(ha:QB B a):QB B (-a):=by
 unfold QB;rw[Rat.neg_num,Rat.neg_den,Fe];exact ha
theorem QB.sub{B C:Nat}{a b:Rat}(ha:QB B a)(hb:QB C b):QB (2*(B*C)) (a-b):=by
 rw[Rat.sub_eq_add_neg];exact ha.add hb.neg
theorem QB.div{B C:Nat}{a b:Rat}(ha:QB B a)(hb:QB C b)(h0:b≠0):QB (B*C) (a/b):=by
 obtain⟨h1,h2⟩:=bEo (n:=a.num*(b.den:Int)) (d:=(a.den:Int)*b.num) (Int.mul_ne_zero (bOj a) (fun h=>h0 (Rat.num_eq_zero.1 h)))
 rw[bEq a b h0]at h1 h2
 rw[DQ]at h1 h2
 simp only[Cn]at h1 h2
 exact⟨AO h1 (Bg ha.1 hb.2),AO h2 (Bg ha.2 hb.1)⟩
theorem QB.int{B:Nat}{z:Int}(h:z.natAbs≤B)(h1:1≤B):QB B (z:Rat):=⟨by rw[Rat.num_intCast];exact h,by rw[Rat.den_intCast];exact h1⟩
def mC{α:Type}[_root_.Add α][_root_.Sub α][_root_.Mul α](x:Nat→Nat→α):α :=
 x 0 0*(x 1 1*(x 2 2*x 3 3-x 2 3*x 3 2)-x 1 2*(x 2 1*x 3 3-x 2 3*x 3 1)+x 1 3*(x 2 1*x 3 2-x 2 2*x 3 1))
 - x 0 1*(x 1 0*(x 2 2*x 3 3-x 2 3*x 3 2)-x 1 2*(x 2 0*x 3 3-x 2 3*x 3 0)+x 1 3*(x 2 0*x 3 2-x 2 2*x 3 0))
 + x 0 2*(x 1 0*(x 2 1*x 3 3-x 2 3*x 3 1)-x 1 1*(x 2 0*x 3 3-x 2 3*x 3 0)+x 1 3*(x 2 0*x 3 1-x 2 1*x 3 0))
 - x 0 3*(x 1 0*(x 2 1*x 3 2-x 2 2*x 3 1)-x 1 1*(x 2 0*x 3 2-x 2 2*x 3 0)+x 1 2*(x 2 0*x 3 1-x 2 1*x 3 0))
theorem aWp(x:Nat→Nat→Int):mC (fun i j=>((x i j:Int):Rat))=((mC x:Int):Rat):=by
 simp only[mC,Dw,Rat.intCast_sub,Rat.intCast_add]
def swp(k a i:Nat):Nat:=if i=k then a else if i=a then k else i
theorem aWo(x:Nat→Nat→Rat){k a:Nat}(h:k<a)(ha:a≤3):mC (fun i j=>x (swp k a i) j)=- mC x:=by
 have:(k=0∧a=1)∨(k=0∧a=2)∨(k=0∧a=3)∨(k=1∧a=2)∨(k=1∧a=3)∨(k=2∧a=3):=by omega
 rcases this with ⟨rfl,rfl⟩|⟨rfl,rfl⟩|⟨rfl,rfl⟩|⟨rfl,rfl⟩|⟨rfl,rfl⟩|⟨rfl,rfl⟩<;>(simp[mC,swp];grind)
theorem bFr(x:Nat→Nat→Rat)(c:Rat){k a:Nat}(h:k<a)(ha:a≤3):mC (fun i j=>if i=a then x a j-c*x k j else x i j)=mC x:=by
 have:(k=0∧a=1)∨(k=0∧a=2)∨(k=0∧a=3)∨(k=1∧a=2)∨(k=1∧a=3)∨(k=2∧a=3):=by omega
 rcases this with ⟨rfl,rfl⟩|⟨rfl,rfl⟩|⟨rfl,rfl⟩|⟨rfl,rfl⟩|⟨rfl,rfl⟩|⟨rfl,rfl⟩<;>(simp[mC];grind)
theorem bFq(x:Nat→Nat→Rat)(h:∀ i j,j<i→i≤3→x i j=0):mC x=x 0 0*x 1 1*x 2 2*x 3 3:=by
 have h10:=h 1 0 (by decide) (by decide)
 have h20:=h 2 0 (by decide) (by decide)
 have h30:=h 3 0 (by decide) (by decide)
 have h21:=h 2 1 (by decide) (by decide)
 have h31:=h 3 1 (by decide) (by decide)
 have h32:=h 3 2 (by decide) (by decide)
 simp only[mC,h10,h20,h30,h21,h31,h32]
 grind
theorem aWn(x:Nat→Nat→Rat){k:Nat}(hk:k≤3)(h:∀ i j,j<i→j<k→i≤3→x i j=0)(h0:∀ i,k≤i→i≤3→x i k=0):mC x=0:=by
 have:k=0∨k=1∨k=2∨k=3:=by omega
 rcases this with rfl|rfl|rfl|rfl
 ·simp only[mC,h0 0 (by decide) (by decide),h0 1 (by decide) (by decide),h0 2 (by decide) (by decide),h0 3 (by decide) (by decide)];grind
 ·simp only[mC,h 1 0 (by decide) (by decide) (by decide),h 2 0 (by decide) (by decide) (by decide),h 3 0 (by decide) (by decide) (by decide),h0 1 (by decide) (by decide),h0 2 (by decide) (by decide),h0 3 (by decide) (by decide)];grind
 ·simp only[mC,h 1 0 (by decide) (by decide) (by decide),h 2 0 (by decide) (by decide) (by decide),h 3 0 (by decide) (by decide) (by decide),h 2 1 (by decide) (by decide) (by decide),h 3 1 (by decide) (by decide) (by decide),h0 2 (by decide) (by decide),h0 3 (by decide) (by decide)];grind
 ·simp only[mC,h 1 0 (by decide) (by decide) (by decide),h 2 0 (by decide) (by decide) (by decide),h 3 0 (by decide) (by decide) (by decide),h 2 1 (by decide) (by decide) (by decide),h 3 1 (by decide) (by decide) (by decide),h 3 2 (by decide) (by decide) (by decide),h0 3 (by decide) (by decide)];grind
theorem bRu(a b c d e f g h:Int):(a*f-b*e)^2+(a*g-c*e)^2+(a*h-d*e)^2+(b*g-c*f)^2+(b*h-d*f)^2+(c*h-d*g)^2≤(a^2+b^2+c^2+d^2)*(e^2+f^2+g^2+h^2):=by
 have h1:(a*f-b*e)^2+(a*g-c*e)^2+(a*h-d*e)^2+(b*g-c*f)^2+(b*h-d*f)^2+(c*h-d*g)^2+(a*e+b*f+c*g+d*h)^2=(a^2+b^2+c^2+d^2)*(e^2+f^2+g^2+h^2):=by grind
 have h2:0≤(a*e+b*f+c*g+d*h)^2:=Ca _
 omega
theorem bRt(p q r s t u a b c d:Int):(p*c-q*b+s*a)^2+(p*d-r*b+t*a)^2+(q*d-r*c+u*a)^2+(s*d-t*c+u*b)^2≤(p^2+q^2+r^2+s^2+t^2+u^2)*(a^2+b^2+c^2+d^2):=by
 have h1:(p*c-q*b+s*a)^2+(p*d-r*b+t*a)^2+(q*d-r*c+u*a)^2+(s*d-t*c+u*b)^2+((p*b+q*c+r*d)^2+(-p*a+s*c+t*d)^2+(-q*a-s*b+u*d)^2+(-r*a-t*b-u*c)^2)=(p^2+q^2+r^2+s^2+t^2+u^2)*(a^2+b^2+c^2+d^2):=by grind
 have h2:0≤(p*b+q*c+r*d)^2:=Ca _
 have h3:0≤(-p*a+s*c+t*d)^2:=Ca _
 have h4:0≤(-q*a-s*b+u*d)^2:=Ca _
 have h5:0≤(-r*a-t*b-u*c)^2:=Ca _
 omega
theorem bRs(p q r s a b c d:Int):(p*d-q*c+r*b-s*a)^2≤(p^2+q^2+r^2+s^2)*(a^2+b^2+c^2+d^2):=by
 have h1:(p*d-q*c+r*b-s*a)^2+((p*c+q*d)^2+(p*b-r*d)^2+(p*a+s*d)^2+(q*b+r*c)^2+(q*a-s*c)^2+(r*a+s*b)^2)=(p^2+q^2+r^2+s^2)*(a^2+b^2+c^2+d^2):=by grind
 have h2:0≤(p*c+q*d)^2:=Ca _
 have h3:0≤(p*b-r*d)^2:=Ca _
 have h4:0≤(p*a+s*d)^2:=Ca _
 have h5:0≤(q*b+r*c)^2:=Ca _
 have h6:0≤(q*a-s*c)^2:=Ca _
 have h7:0≤(r*a+s*b)^2:=Ca _
 omega
set_option maxRecDepth 10000 in
theorem bZs(x:Nat→Nat→Int):(mC x)^2≤(x 0 0^2+x 0 1^2+x 0 2^2+x 0 3^2)*(x 1 0^2+x 1 1^2+x 1 2^2+x 1 3^2)*(x 2 0^2+x 2 1^2+x 2 2^2+x 2 3^2)*(x 3 0^2+x 3 1^2+x 3 2^2+x 3 3^2):=by
 have h1:=bRu (x 0 0) (x 0 1) (x 0 2) (x 0 3) (x 1 0) (x 1 1) (x 1 2) (x 1 3)
 have h2:=bRt (x 0 0*x 1 1-x 0 1*x 1 0) (x 0 0*x 1 2-x 0 2*x 1 0) (x 0 0*x 1 3-x 0 3*x 1 0) (x 0 1*x 1 2-x 0 2*x 1 1) (x 0 1*x 1 3-x 0 3*x 1 1) (x 0 2*x 1 3-x 0 3*x 1 2) (x 2 0) (x 2 1) (x 2 2) (x 2 3)
 generalize hp:x 0 0*x 1 1-x 0 1*x 1 0=p at *
 generalize hq:x 0 0*x 1 2-x 0 2*x 1 0=q at *
 generalize hr:x 0 0*x 1 3-x 0 3*x 1 0=r at *
 generalize hs:x 0 1*x 1 2-x 0 2*x 1 1=s at *
 generalize ht:x 0 1*x 1 3-x 0 3*x 1 1=t at *
 generalize hu:x 0 2*x 1 3-x 0 3*x 1 2=u at *
 have h3:=bRs (p*x 2 2-q*x 2 1+s*x 2 0) (p*x 2 3-r*x 2 1+t*x 2 0) (q*x 2 3-r*x 2 2+u*x 2 0) (s*x 2 3-t*x 2 2+u*x 2 1) (x 3 0) (x 3 1) (x 3 2) (x 3 3)
 have hd:mC x=(p*x 2 2-q*x 2 1+s*x 2 0)*x 3 3-(p*x 2 3-r*x 2 1+t*x 2 0)*x 3 2+(q*x 2 3-r*x 2 2+u*x 2 0)*x 3 1-(s*x 2 3-t*x 2 2+u*x 2 1)*x 3 0:=by
  subst hp hq hr hs ht hu
  unfold mC
  grind
 rw[hd]
 have n2:0≤x 2 0^2+x 2 1^2+x 2 2^2+x 2 3^2:=by
  have a:=Ca (x 2 0);have b:=Ca (x 2 1);have c:=Ca (x 2 2);have d:=Ca (x 2 3);omega
 have n3:0≤x 3 0^2+x 3 1^2+x 3 2^2+x 3 3^2:=by
  have a:=Ca (x 3 0);have b:=Ca (x 3 1);have c:=Ca (x 3 2);have d:=Ca (x 3 3);omega
 refine Int.le_trans h3 (Fw ?_ n3)
 exact Int.le_trans h2 (Fw h1 n2)
end Go.Am
end
section
open List renaming map_map→ζ,mapM_map→ξ
open Go Go.Am Go.Proofs
namespace Go.Am
def dK(q:Rat):D:=.ag [.b (decide (q.num<0)),aG (aM q.num.natAbs),.b false,aG (aM q.den)]
theorem cN(q:Rat):dK q=.ag [.b (decide (q.num<0)),aG (aM q.num.natAbs),.b false,aG (aM q.den)]:=rfl
theorem aNj{n:Nat}(h:n<aXk):SB (n:Int):=by unfold SB;rw[Cn];exact h
set_option maxHeartbeats 8000000 in
set_option maxRecDepth 10000 in
theorem bQf[M:Mch Aa](n d:Int)(hd:d≠0)(hn:SB n)(hdb:SB d):Spec Aa 194 [encZ n,encZ d] (.tp [dK (fq n d),.i .i64 0]):=by
 have hSg:=kN d
 have hse:(d.sign==0)=false:=by
  have:=aNe hd
  rw[bne,CW]at this;exact this
 by_cases h0:d<0
 ·have hs1:d.sign<0:=(jH d).symm ▸ (by rw[Ar h0];decide)
  have hN1:=qJ n (hn.le (by decide))
  have hN2:=qJ d (hdb.le (by decide))
  have hn':SB (-n):=by unfold SB at *;rwa [Fe]
  have hd':SB (-d):=by unfold SB at *;rwa [Fe]
  have hG:=bBo (-n) (-d) hn' hd'
  obtain⟨g,hg⟩:∃ g,Int.gcd (-n) (-d)=g:=⟨_,rfl⟩
  have hg0:(g:Int)≠0:=by
   rw[←hg];intro h
   have h2:Int.gcd (-n) (-d)=0:=by omega
   rw[Int.gcd_eq_zero_iff]at h2;omega
  have hgb:SB (g:Int):=by
   refine aNj ?_
   have h1:=Int.gcd_dvd_right (-n) (-d)
   rw[hg]at h1
   have h2:=Int.le_of_dvd (by omega) h1
   unfold SB at hd';omega
  have hD1:=kJ (-n) g hg0 (hn'.le (by decide)) (hgb.le (by decide))
  have hD2:=kJ (-d) g hg0 (hd'.le (by decide)) (hgb.le (by decide))
  obtain⟨q1,q2⟩:=aGa (n:=-n) (k:=(-d).toNat) (by omega)
  have hgg:(-n).natAbs.gcd (-d).toNat=g:=by rw[←hg];show _=(-n).natAbs.gcd (-d).natAbs;congr 1;omega
  rw[hgg]at q1 q2
  have hR:dK (fq n d)=.ag [.b (decide ((-n)/(g:Int)<0)),aG (aM ((-n)/(g:Int)).natAbs),.b (decide ((-d)/(g:Int)<0)),aG (aM ((-d)/(g:Int)).natAbs)]:=by
   have e1:fq n d=mkRat (-n) (-d).toNat:=by unfold fq;rw[Ar h0]
   have e2:(((-d).toNat/g:Nat):Int)=(-d)/(g:Int):=by rw[EN,B0 (by omega)]
   have e3:¬(-d)/(g:Int)<0:=by rw[←e2];omega
   have e4:((-d)/(g:Int)).natAbs=(-d).toNat/g:=by rw[←e2,Cn]
   unfold dK
   rw[e1,q1,q2,Bn e3,e4]
  rw[hR]
  rw[hg]at hG
  rw[←dD]at hG
  generalize(-n)/(g:Int)=u1 at *
  generalize(-n)%(g:Int)=u2 at *
  generalize(-d)/(g:Int)=u3 at *
  generalize(-d)%(g:Int)=u4 at *
  generalize d.sign=s at *
  generalize -n=n1 at *
  generalize -d=d1 at *
  refine bI (N:=44) Tryz.func194 ?_
  simp[-ζ,-ξ,↓KW,bF n,bF d,aA,aD,aC,aE,aB]
  refine aH hSg ?_
  simp[-ζ,-ξ,↓KW,hse,aA,aD,aC,aE,aB]
  refine aH hSg ?_
  simp[-ζ,-ξ,↓KW,hs1,aA,aD,aC,aE,aB]
  refine aH hN1 ?_
  simp[-ζ,-ξ,↓KW,bF n1,aA,aD,aC,aE,aB]
  refine aH hN2 ?_
  simp[-ζ,-ξ,↓KW,bF d1,aA,aD,aC,aE,aB]
  refine aH hG ?_
  simp[-ζ,-ξ,↓KW,bF (g:Int),aA,aD,aC,aE,aB]
  refine aH hD1 ?_
  simp[-ζ,-ξ,↓KW,bF u1,bF u2,aA,aD,aC,aE,aB]
  refine aH hD2 ?_
  simp[-ζ,-ξ,↓KW,bF u3,bF u4,aA,aD,aC,aE,aB,eQ]
 ·have hs1:¬d.sign<0:=by
   rw[jH,Aj h0];split<;>decide
  have hG:=bBo n d hn hdb
  obtain⟨g,hg⟩:∃ g,Int.gcd n d=g:=⟨_,rfl⟩
  have hg0:(g:Int)≠0:=by
   rw[←hg];intro h
   have h2:Int.gcd n d=0:=by omega
   rw[Int.gcd_eq_zero_iff]at h2;omega
  have hgb:SB (g:Int):=by
   refine aNj ?_
   have h1:=Int.gcd_dvd_right n d
   rw[hg]at h1
   have h2:=Int.le_of_dvd (by omega) h1
   unfold SB at hdb;omega
  have hD1:=kJ n g hg0 (hn.le (by decide)) (hgb.le (by decide))
  have hD2:=kJ d g hg0 (hdb.le (by decide)) (hgb.le (by decide))
  obtain⟨q1,q2⟩:=aGa (n:=n) (k:=d.toNat) (by omega)
  have hgg:n.natAbs.gcd d.toNat=g:=by rw[←hg];show _=n.natAbs.gcd d.natAbs;congr 1;omega
  rw[hgg]at q1 q2
  have hR:dK (fq n d)=.ag [.b (decide (n/(g:Int)<0)),aG (aM (n/(g:Int)).natAbs),.b (decide (d/(g:Int)<0)),aG (aM (d/(g:Int)).natAbs)]:=by
   have e1:fq n d=mkRat n d.toNat:=by unfold fq;rw[Aj h0]
   have e2:((d.toNat/g:Nat):Int)=d/(g:Int):=by rw[EN,B0 (by omega)]
   have e3:¬d/(g:Int)<0:=by rw[←e2];omega
   have e4:(d/(g:Int)).natAbs=d.toNat/g:=by rw[←e2,Cn]
   unfold dK
   rw[e1,q1,q2,Bn e3,e4]
  rw[hR]
  rw[hg]at hG
  rw[←dD]at hG
  generalize n/(g:Int)=u1 at *
  generalize n%(g:Int)=u2 at *
  generalize d/(g:Int)=u3 at *
  generalize d%(g:Int)=u4 at *
  generalize d.sign=s at *
  refine bI (N:=44) Tryz.func194 ?_
  simp[-ζ,-ξ,↓KW,bF n,bF d,aA,aD,aC,aE,aB]
  refine aH hSg ?_
  simp[-ζ,-ξ,↓KW,hse,aA,aD,aC,aE,aB]
  refine aH hSg ?_
  simp[-ζ,-ξ,↓KW,hs1,aA,aD,aC,aE,aB]
  refine aH hG ?_
  simp[-ζ,-ξ,↓KW,bF (g:Int),aA,aD,aC,aE,aB]
  refine aH hD1 ?_
  simp[-ζ,-ξ,↓KW,bF u1,bF u2,aA,aD,aC,aE,aB]
  refine aH hD2 ?_
  simp[-ζ,-ξ,↓KW,bF u3,bF u4,aA,aD,aC,aE,aB,eQ]
def b1k:Nat:=4294967296^32
theorem bHc:2*(b1k*b1k)<aXk:=by unfold b1k aXk;decide
theorem bHd:b1k<aXk:=by unfold b1k aXk;decide
def QS(q:Rat):Prop:=QB b1k q
theorem QS.num{q:Rat}(h:QS q):SB q.num:=Bo h.1 bHd
theorem QS.den{q:Rat}(h:QS q):SB (q.den:Int):=aNj (Bo h.2 bHd)
theorem rP{x y:Int}(hx:x.natAbs≤b1k)(hy:y.natAbs≤b1k):SB (x*y):=by
 have:=Bg hx hy
 have h2:=bHc
 unfold SB;rw[DQ];omega
theorem bSm{x y u v:Int}(hx:x.natAbs≤b1k)(hy:y.natAbs≤b1k)(hu:u.natAbs≤b1k)(hv:v.natAbs≤b1k):SB (x*y+u*v):=by
 have h1:=Bg hx hy
 have h2:=Bg hu hv
 have h3:=bHc
 have h4:=Int.natAbs_add_le (x*y) (u*v)
 rw[DQ,DQ]at h4
 unfold SB;omega
theorem QS.n{q:Rat}(h:QS q):q.num.natAbs≤b1k:=h.1
theorem QS.d{q:Rat}(h:QS q):(q.den:Int).natAbs≤b1k:=by rw[Cn];exact h.2
theorem qV(q:Rat):dK q=.ag [.b (decide (q.num<0)),aG (aM q.num.natAbs),.b (decide ((q.den:Int)<0)),aG (aM (q.den:Int).natAbs)]:=by
 rw[dK,Cn,Bn (show ¬(q.den:Int)<0 by omega)]
set_option maxHeartbeats 4000000 in
set_option maxRecDepth 10000 in
theorem bQe[M:Mch Aa](n d:Int)(hd:d≠0)(hn:SB n)(hdb:SB d):Spec Aa 175 [encZ n,encZ d] (dK (fq n d)):=by
 have hO:=bQf n d hd hn hdb
 generalize fq n d=q at *
 refine bI (N:=14) Tryz.func175 ?_
 simp[-ζ,-ξ,↓KW,bF n,bF d,aA,aD,aC,aE,aB]
 refine aH hO ?_
 simp[-ζ,-ξ,↓KW,cN q,aA,aD,aC,aE,aB]
set_option maxHeartbeats 4000000 in
set_option maxRecDepth 10000 in
theorem bBl[M:Mch Aa](q:Rat)(hq:QS q):Spec Aa 130 [dK q] (dK (-q)):=by
 have hN:=qJ q.num (hq.num.le (by decide))
 have hR:dK (-q)=.ag [.b (decide (-q.num<0)),aG (aM (-q.num).natAbs),.b false,aG (aM q.den)]:=by unfold dK;rw[Rat.neg_num,Rat.neg_den]
 rw[hR]
 generalize -q.num=u at *
 refine bI (N:=9) Tryz.func130 ?_
 simp[-ζ,-ξ,↓KW,cN q,aA,aD,aC,aE,aB]
 refine aH hN ?_
 simp[-ζ,-ξ,↓KW,bF u,aA,aD,aC,aE,aB]
set_option maxHeartbeats 4000000 in
set_option maxRecDepth 10000 in
theorem bLd[M:Mch Aa](q:Rat):Spec Aa 129 [dK q] (.i .i64 q.num.sign):=by
 have hS:=kN q.num
 generalize q.num.sign=s at *
 refine bI (N:=6) Tryz.func129 ?_
 simp[-ζ,-ξ,↓KW,cN q,aA,aD,aC,aE,aB]
 refine aH hS ?_
 simp[-ζ,-ξ,↓KW]
set_option maxHeartbeats 4000000 in
set_option maxRecDepth 10000 in
theorem aIv[M:Mch Aa](z:Int):Spec Aa 174 [encZ z] (dK (z:Rat)):=by
 have hO:=rR (x:=1) (by omega)
 have hR:dK (z:Rat)=.ag [.b (decide (z<0)),aG (aM z.natAbs),.b false,aG (aM 1)]:=by unfold dK;rw[Rat.num_intCast,Rat.den_intCast]
 rw[hR]
 refine bI (N:=6) Tryz.func174 ?_
 simp[-ζ,-ξ,↓KW,bF z,aA,aD,aC,aE,aB]
 refine aH hO ?_
 simp[-ζ,-ξ,↓KW,aP 1,aA,aD,aC,aE,aB]
set_option maxHeartbeats 4000000 in
set_option maxRecDepth 10000 in
theorem bSv[M:Mch Aa]:Spec Aa 127 [.i .i64 1] (dK 1):=by
 have hO:=aIz 1 (by decide) (by decide)
 have hW:=aIv 1
 rw[show((1:Int):Rat)=1 from rfl]at hW
 refine bI (N:=6) Tryz.func127 ?_
 simp[-ζ,-ξ,↓KW]
 refine aH hO ?_
 simp[-ζ,-ξ,↓KW,bF 1,aA,aD,aC,aE,aB]
 refine aH hW ?_
 simp[-ζ,-ξ,↓KW,cN 1,aA,aD,aC,aE,aB]
set_option maxHeartbeats 4000000 in
set_option maxRecDepth 10000 in
theorem bBm[M:Mch Aa](a b:Rat)(ha:QS a)(hb:QS b):Spec Aa 131 [dK a,dK b] (dK (a*b)):=by
 have h1:=jI a.num b.num (ha.num.le (by decide)) (hb.num.le (by decide))
 have h2:=jI (a.den:Int) (b.den:Int) (ha.den.le (by decide)) (hb.den.le (by decide))
 have h3:=bQe (a.num*b.num) ((a.den:Int)*(b.den:Int)) (bMm a b) (rP ha.n hb.n) (rP ha.d hb.d)
 rw[bEn]at h3
 generalize a*b=q at *
 generalize a.num*b.num=x at *
 generalize(a.den:Int)*(b.den:Int)=y at *
 refine bI (N:=16) Tryz.func131 ?_
 simp[-ζ,-ξ,↓KW,qV a,qV b,aA,aD,aC,aE,aB]
 refine aH h1 ?_
 simp[-ζ,-ξ,↓KW,bF x,aA,aD,aC,aE,aB]
 refine aH h2 ?_
 simp[-ζ,-ξ,↓KW,bF y,aA,aD,aC,aE,aB]
 refine aH h3 ?_
 simp[-ζ,-ξ,↓KW,cN q,aA,aD,aC,aE,aB]
set_option maxHeartbeats 4000000 in
set_option maxRecDepth 10000 in
theorem bSx[M:Mch Aa](a b:Rat)(ha:QS a)(hb:QS b):Spec Aa 195 [dK a,dK b] (dK (a+b)):=by
 have h1:=jI a.num (b.den:Int) (ha.num.le (by decide)) (hb.den.le (by decide))
 have h2:=jI b.num (a.den:Int) (hb.num.le (by decide)) (ha.den.le (by decide))
 have h3:=sZ (a.num*(b.den:Int)) (b.num*(a.den:Int)) ((rP ha.n hb.d).le (by decide)) ((rP hb.n ha.d).le (by decide))
 have h4:=jI (a.den:Int) (b.den:Int) (ha.den.le (by decide)) (hb.den.le (by decide))
 have h5:=bQe (a.num*(b.den:Int)+b.num*(a.den:Int)) ((a.den:Int)*(b.den:Int)) (bMm a b) (bSm ha.n hb.d hb.n ha.d) (rP ha.d hb.d)
 rw[bEr]at h5
 generalize a+b=q at *
 generalize a.num*(b.den:Int)+b.num*(a.den:Int)=w at *
 generalize a.num*(b.den:Int)=x at *
 generalize b.num*(a.den:Int)=u at *
 generalize(a.den:Int)*(b.den:Int)=y at *
 refine bI (N:=24) Tryz.func195 ?_
 simp[-ζ,-ξ,↓KW,qV a,qV b,aA,aD,aC,aE,aB]
 refine aH h1 ?_
 simp[-ζ,-ξ,↓KW,bF x,aA,aD,aC,aE,aB]
 refine aH h2 ?_
 simp[-ζ,-ξ,↓KW,bF u,aA,aD,aC,aE,aB]
 refine aH h3 ?_
 simp[-ζ,-ξ,↓KW,bF w,aA,aD,aC,aE,aB]
 refine aH h4 ?_
 simp[-ζ,-ξ,↓KW,bF y,aA,aD,aC,aE,aB]
 refine aH h5 ?_
 simp[-ζ,-ξ,↓KW,cN q,aA,aD,aC,aE,aB]
set_option maxHeartbeats 4000000 in
set_option maxRecDepth 10000 in
theorem bSu[M:Mch Aa](a b:Rat)(ha:QS a)(hb:QS b):Spec Aa 176 [dK a,dK b] (dK (a-b)):=by
 have h1:=bBl b hb
 have h2:=bSx a (-b) ha hb.neg
 rw[←Rat.sub_eq_add_neg]at h2
 generalize a-b=q at *
 generalize -b=c at *
 refine bI (N:=9) Tryz.func176 ?_
 simp[-ζ,-ξ,↓KW,cN a,cN b,aA,aD,aC,aE,aB]
 refine aH h1 ?_
 simp[-ζ,-ξ,↓KW,cN c,aA,aD,aC,aE,aB]
 refine aH h2 ?_
 simp[-ζ,-ξ,↓KW,cN q,aA,aD,aC,aE,aB]
set_option maxHeartbeats 4000000 in
set_option maxRecDepth 10000 in
theorem bSw[M:Mch Aa](a b:Rat)(h0:b≠0)(ha:QS a)(hb:QS b):Spec Aa 177 [dK a,dK b] (.tp [dK (a/b),.i .i64 0]):=by
 have h1:=jI a.num (b.den:Int) (ha.num.le (by decide)) (hb.den.le (by decide))
 have h2:=jI (a.den:Int) b.num (ha.den.le (by decide)) (hb.num.le (by decide))
 have h3:=bQf (a.num*(b.den:Int)) ((a.den:Int)*b.num) (Int.mul_ne_zero (bOj a) (fun h=>h0 (Rat.num_eq_zero.1 h))) (rP ha.n hb.d) (rP ha.d hb.n)
 rw[bEq a b h0]at h3
 generalize a/b=q at *
 generalize a.num*(b.den:Int)=x at *
 generalize(a.den:Int)*b.num=y at *
 refine bI (N:=19) Tryz.func177 ?_
 simp[-ζ,-ξ,↓KW,qV a,qV b,aA,aD,aC,aE,aB]
 refine aH h1 ?_
 simp[-ζ,-ξ,↓KW,bF x,aA,aD,aC,aE,aB]
 refine aH h2 ?_
 simp[-ζ,-ξ,↓KW,bF y,aA,aD,aC,aE,aB]
 refine aH h3 ?_
 simp[-ζ,-ξ,↓KW,cN q,aA,aD,aC,aE,aB,eQ]
set_option maxHeartbeats 4000000 in
set_option maxRecDepth 10000 in
theorem bLe[M:Mch Aa](a b:Rat)(h0:b≠0)(ha:QS a)(hb:QS b):Spec Aa 133 [dK a,dK b] (dK (a/b)):=by
 have h1:=bSw a b h0 ha hb
 generalize a/b=q at *
 refine bI (N:=14) Tryz.func133 ?_
 simp[-ζ,-ξ,↓KW,cN a,cN b,aA,aD,aC,aE,aB]
 refine aH h1 ?_
 simp[-ζ,-ξ,↓KW,cN q,aA,aD,aC,aE,aB]
end Go.Am
end
section
open List renaming map_map→ζ,mapM_map→ξ
namespace Go.Am
def PrN(n:Nat):Prop:=2≤n∧∀ d,2≤d→d*d≤n→n%d≠0
theorem PrN.dvd{p d:Nat}(hp:PrN p)(hd:d ∣ p):d=1∨d=p:=by
 obtain⟨e,he⟩:=hd
 have hp2:=hp.1
 rcases AY d 2 with h1|h1
 ·left
  rcases Be d with h0|h0
  ·subst h0;simp at he;omega
  ·omega
 rcases AY e 2 with h2|h2
 ·right
  rcases Be e with h0|h0
  ·subst h0;simp at he;omega
  ·have:e=1:=by omega
   subst this;omega
 exfalso
 rcases Nat.le_total d e with h|h
 ·exact hp.2 d h1 (by rw[he];exact Cc d h) (by rw[he];exact Nat.mul_mod_right d e)
 ·exact hp.2 e h2 (by rw[he];exact B3 e h) (by rw[he];exact Nat.mul_mod_left d e)
theorem PrN.cop{p a:Nat}(hp:PrN p)(ha:a%p≠0):EI p a:=by
 rcases hp.dvd (Nat.gcd_dvd_left p a)with h|h
 ·exact h
 ·exact absurd (Nat.mod_eq_zero_of_dvd (h ▸ Nat.gcd_dvd_right p a)) ha
theorem PrN.two{p q:Nat}(hp:PrN p)(hq:PrN q)(h:p≠q):EI p q:=by
 refine hp.cop fun hz=>?_
 rcases hq.dvd (Cm hz)with h1|h1
 ·have:=hp.1;omega
 ·exact h h1
def bH:List Nat→Nat
 |[]=>1
 |p::l=>p*bH l
theorem zC{l m:List Nat}(h:l.Perm m):bH l=bH m:=by
 induction h with
 |nil=>rfl
 |cons x _ ih=>simp only[bH,ih]
 |swap x y l=>simp only[bH,←BT,BV x y]
 |trans _ _ h1 h2=>exact h1.trans h2
theorem bLm{l m:List Nat}:l.Nodup→(∀ x∈l,x∈m)→m.length≤l.length→l.Perm m:=by
 induction l generalizing m with
 | nil =>
  intro _ _ hl
  have:m=[]:=BS (by simpa using hl)
  subst this;exact .refl _
 | cons x l ih =>
  intro hn hs hl
  have hx:x∈m:=hs x (AH ..)
  rw[Dv]at hn
  have hp:=List.perm_cons_erase hx
  refine .trans (List.Perm.cons x (ih hn.2 (fun y hy=>?_) ?_)) hp.symm
  ·have hyx:y≠x:=fun e=>hn.1 (e ▸ hy)
   exact(List.mem_erase_of_ne hyx).2 (hs y (AD _ hy))
  ·have:=hp.length_eq
   simp only[Ah]at this hl
   omega
theorem rH(p a:Nat):∀ l:List Nat,bH (l.map fun i=>a*i%p)%p=a^l.length*bH l%p
 |[]=>by simp[bH]
 | x::l=>by
  have ih:=rH p a l
  simp only[BI,bH,Ah,BJ]
  rw[D4,ih,Ek,←D4]
  congr 1
  ac_rfl
theorem uZ{p:Nat}:∀{l:List Nat},(∀ x∈l,EI p x)→EI p (bH l)
 |[],_=>by simp[bH]
 |x::l,h=>Nat.Coprime.mul_right (h x (AH ..)) (uZ fun y hy=>h y (AD _ hy))
theorem bUu{p a:Nat}(hp:PrN p)(ha:a%p≠0):a^(p-1)%p=1:=by
 have hp2:=hp.1
 have hcop:=hp.cop ha
 obtain⟨L,hL⟩:∃ L,L=(AK (p-1)).map (·+1):=⟨_,rfl⟩
 have hmem:∀ x,x∈L↔0<x∧x<p:=fun x=>by
  rw[hL,AZ]
  constructor
  ·rintro⟨y,hy,rfl⟩
   rw[CK]at hy
   omega
  ·rintro⟨h1,h2⟩
   exact⟨x-1,CK.2 (by omega),by omega⟩
 have hlen:L.length=p-1:=by rw[hL];simp
 have hcx:∀ x∈L,EI p x:=fun x hx=>by
  obtain⟨h1,h2⟩:=(hmem x).1 hx
  exact hp.cop (by rw[Ce h2];omega)
 have hnd:(L.map fun i=>a*i%p).Nodup:=by
  rw[List.Nodup,Gg]
  have h0:L.Pairwise (·≠·):=by
   rw[hL,Gg]
   exact List.Pairwise.imp (fun h=>by omega) List.nodup_range
  refine List.Pairwise.imp_of_mem (fun{x y} hx hy hne he=>hne ?_) h0
  obtain⟨x1,x2⟩:=(hmem x).1 hx
  obtain⟨y1,y2⟩:=(hmem y).1 hy
  rcases Nat.le_total x y with hxy|hxy
  ·have h1:(a*y-a*x)%p=0:=El he.symm
   rw[←Nat.mul_sub]at h1
   have h2:=hcop.dvd_of_dvd_mul_left (Cm h1)
   have:=fun h=>Gr h h2
   rcases Be (y-x)with h3|h3
   ·omega
   ·have:=this h3;omega
  ·have h1:(a*x-a*y)%p=0:=El he
   rw[←Nat.mul_sub]at h1
   have h2:=hcop.dvd_of_dvd_mul_left (Cm h1)
   have:=fun h=>Gr h h2
   rcases Be (x-y)with h3|h3
   ·omega
   ·have:=this h3;omega
 have hperm:(L.map fun i=>a*i%p).Perm L:=by
  refine bLm hnd (fun x hx=>?_) (by simp)
  obtain⟨i,hi,rfl⟩:=AZ.1 hx
  obtain⟨i1,i2⟩:=(hmem i).1 hi
  refine(hmem _).2 ⟨?_,BY _ (by omega)⟩
  refine Nat.pos_of_ne_zero fun hz=>?_
  have:=hcop.dvd_of_dvd_mul_left (Cm hz)
  have:=Gr i1 this
  omega
 have h1:=rH p a L
 rw[zC hperm,hlen]at h1
 have hcP:=uZ hcx
 have hpos:0<a^(p-1):=Nat.pow_pos (Nat.pos_of_ne_zero fun h=>ha (by subst h;simp))
 have h2:(a^(p-1)*bH L-1*bH L)%p=0:=El (by rw[Dg];exact h1.symm)
 rw[←Nat.sub_mul]at h2
 have h3:=hcP.dvd_of_dvd_mul_right (Cm h2)
 obtain⟨k,hk⟩:=h3
 have:a^(p-1)=1+p*k:=by omega
 rw[this,EU,Ce (by omega)]
theorem aOx{p a:Nat}(hp:PrN p)(ha:a%p≠0):a^(p-2)*a%p=1:=by
 have h2:=hp.1
 rw[←BJ,show(p-2).succ=p-1 from by omega]
 exact bUu hp ha
theorem aJg(p:Nat):∀(n r a e:Nat),e<2^n→rX p n r a e%p=r*a^e%p
 | 0,r,a,e,h=>by
  have:e=0:=by simpa using h
  subst this;simp[rX]
 | n+1,r,a,e,h=>by
  unfold rX
  split
  ·rename_i h0;subst h0;simp
  ·have ih:=aJg p n (if e%2=1 then r*a%p else r) (a*a%p) (e/2) (by rw[BJ]at h;omega)
   rw[ih]
   have h2:a^e=(a*a)^(e/2)*a^(e%2):=by
    rw[←Nat.pow_two,←Nat.pow_mul,←E6];congr 1;omega
   rw[h2]
   rcases FV e with he|he
   ·rw[he,Aj (by decide),Nat.pow_zero,DJ,D4,←Nat.pow_mod,←D4]
   ·rw[he,Ar rfl,Nat.pow_one,D4,Ek,←Nat.pow_mod,←D4]
    congr 1;ac_rfl
theorem aRc(p:Nat)(hp:0<p):∀(n r a e:Nat),r<p→rX p n r a e<p
 |0,r,a,e,h=>by simpa[rX]using h
 | n+1,r,a,e,h=>by
  unfold rX
  split
  ·exact h
  ·refine aRc p hp n _ _ _ ?_
   split
   ·exact BY _ hp
   ·exact h
theorem bBr{p a e:Nat}(hp:0<p)(he:e<18446744073709551616):rX p 64 (1%p) a e=a^e%p:=by
 have h1:=aJg p 64 (1%p) a e he
 have h2:=aRc p hp 64 (1%p) a e (BY _ hp)
 rw[Ce h2]at h1
 rw[h1,D4,Ek,←D4,Dg]
def rE(p v a m:Nat):Nat:=(v+p-a%p)%p*((m%p)^(p-2)%p)%p
def nR:List (Nat×Nat)→Nat→Nat→Nat×Nat
 |[],a,m=>(a,m)
 |(p,v)::l,a,m=>nR l (a+m*rE p v a m) (m*p)
def aGz(l:List (Nat×Nat)):Int:=let x:=nR l 0 1;if x.2<x.1+x.1 then(x.1:Int)-x.2 else x.1
theorem bCo{p a b c d:Nat}(h1:a%p=b%p)(h2:c%p=d%p):a*c%p=b*d%p:=by rw[D4,h1,h2,←D4]
theorem bXv{p a b c d:Nat}(h1:a%p=b%p)(h2:c%p=d%p):(a+c)%p=(b+d)%p:=by rw[Nat.add_mod,h1,h2,←Nat.add_mod]
theorem aSl{p v a m:Nat}(hp:0<p):rE p v a m<p:=BY _ hp
theorem bOu{p v a m:Nat}(hp:PrN p)(hv:v<p)(hm:m%p≠0):(a+m*rE p v a m)%p=v:=by
 have hp0:0<p:=by have:=hp.1;omega
 have hinv:(m%p)^(p-2)*(m%p)%p=1:=aOx hp (by rw[Ek];exact hm)
 unfold rE
 have ha:=BY a hp0
 have hs:a+(v+p-a%p)=v+p*(a/p+1):=by
  have:=Ew a p
  rw[Cq,DJ]
  omega
 generalize(m%p)^(p-2)=u at *
 generalize v+p-a%p=s at *
 have e2:u*m%p=1%p:=by rw[bCo (b:=u) (d:=m%p) rfl (Ek _ _).symm,hinv,Ce (by have:=hp.1;omega)]
 have e1:m*(s%p*(u%p)%p)%p=s%p:=by
  rw[bCo (b:=m) (d:=s*u) rfl (by rw[Ek];exact bCo (Ek _ _) (Ek _ _))]
  rw[show m*(s*u)=s*(u*m)by ac_rfl,bCo (b:=s) (d:=1) rfl e2,DJ]
 rw[bXv (b:=a) (d:=s) rfl e1,hs,EU,Ce hv]
structure aXq(l:List (Nat×Nat)):Prop where
 pr:∀ x∈l,PrN x.1
 lt:∀ x∈l,x.2<x.1
 nd:(l.map (·.1)).Nodup
theorem aAo{p:Nat}{l:List Nat}(hp:PrN p)(h:∀ q∈l,PrN q)(hn:p ∉ l):EI p (bH l) :=
 uZ fun q hq=>hp.two (h q hq) fun e=>hn (e ▸ hq)
theorem aJd{n:Nat}:∀{l:List Nat},(∀ q∈l,PrN q)→l.Nodup→(∀ q∈l,q ∣ n)→bH l ∣ n
 |[],_,_,_=>by simp[bH]
 | p::l,h,hn,hd=>by
  rw[Dv]at hn
  have h1:=aJd (n:=n) (l:=l) (fun q hq=>h q (AD _ hq)) hn.2 fun q hq=>hd q (AD _ hq)
  exact(aAo (h p (AH ..)) (fun q hq=>h q (AD _ hq)) hn.1).mul_dvd_of_dvd_of_dvd (hd p (AH ..)) h1
theorem aLa{l:List Nat}(h:∀ q∈l,PrN q)(hn:l.Nodup){x y:Int}(hr:∀ q∈l,(x-y)%(q:Int)=0)(hb:(x-y).natAbs<bH l):x=y:=by
 have hd:bH l ∣ (x-y).natAbs:=aJd h hn fun q hq=>E9.1 (Int.dvd_natAbs.2 (Int.dvd_of_emod_eq_zero (hr q hq)))
 rcases Be (x-y).natAbs with h0|h0
 ·omega
 ·have:=Gr h0 hd;omega
theorem aHa:∀(l done:List (Nat×Nat)) (a m:Nat),aXq (done++l)→m=bH (done.map (·.1))→a<m→(∀ x∈done,a%x.1=x.2) →
  (nR l a m).2=bH ((done++l).map (·.1))∧(nR l a m).1<(nR l a m).2∧∀ x∈done++l,(nR l a m).1%x.1=x.2
 |[],done,a,m,hP,hm,ha,hr=>by simp only[nR,E0];exact⟨hm,ha,hr⟩
 | (p,v)::l,done,a,m,hP,hm,ha,hr=>by
  have hp:PrN p:=hP.pr (p,v) (by simp)
  have hv:v<p:=hP.lt (p,v) (by simp)
  have hnd:=hP.nd
  rw[Ex,D5]at hnd
  have hpn:p ∉ done.map (·.1):=fun h=>hnd.2.2 p h p (by simp) rfl
  have hcop:EI p m:=by
   rw[hm]
   refine aAo hp (fun q hq=>?_) hpn
   obtain⟨x,hx,rfl⟩:=AZ.1 hq
   exact hP.pr x (List.mem_append_left _ hx)
  have hp2:=hp.1
  have hmp:m%p≠0:=fun h=>by
   have h1:=F9 hcop (Cm h)
   omega
  have ht:=aSl (v:=v) (a:=a) (m:=m) (show 0<p by omega)
  have hok:=bOu (a:=a) (m:=m) hp hv hmp
  have ih:=aHa l (done++[(p,v)]) (a+m*rE p v a m) (m*p) (by simpa using hP) (by
   rw[hm]
   have:∀(xs:List Nat),bH (xs++[p])=bH xs*p:=fun xs=>by
    induction xs with
    |nil=>simp[bH]
    |cons x xs ih=>simp only[Ci,bH,ih,BT]
   rw[Ex];exact(this _).symm) (by
   have:m*(rE p v a m+1)≤m*p:=Cc m ht
   rw[Cq,DJ]at this
   omega) (fun x hx=>by
   rcases BZ.1 hx with h|h
   ·have h1:=hr x h
    have hd:x.1 ∣ m:=by
     rw[hm]
     have:∀(xs:List Nat) (q:Nat),q∈xs→q ∣ bH xs:=fun xs q hq=>by
      induction xs with
      |nil=>cases hq
      | cons y xs ih =>
       rcases BB.1 hq with rfl|h
       ·exact⟨_,rfl⟩
       ·obtain⟨k,hk⟩:=ih h
        exact⟨y*k,by simp only[bH,hk];ac_rfl⟩
     exact this _ _ (Dy h)
    obtain⟨k,hk⟩:=hd
    rw[hk,BT,EU];exact h1
   ·simp only[Cb]at h;subst h;exact hok)
  simp only[nR]
  simpa using ih
theorem aSk{l:List (Nat×Nat)}(hP:aXq l):(∀ x∈l,(aGz l)%(x.1:Int)=(x.2:Int))∧2*aGz l≤(bH (l.map (·.1)):Int)∧-(bH (l.map (·.1)):Int)<2*aGz l:=by
 obtain⟨h1,h2,h3⟩:=aHa l [] 0 1 (by simpa using hP) rfl (by decide) (by simp)
 simp only[DV]at h1 h3
 unfold aGz
 rw[h1]at h2
 simp only[h1]
 generalize(nR l 0 1).1=a at *
 have hdv:∀ x∈l,((bH (l.map (·.1)):Nat):Int)%(x.1:Int)=0:=fun x hx=>by
  have:∀(xs:List Nat) (q:Nat),q∈xs→q ∣ bH xs:=fun xs q hq=>by
   induction xs with
   |nil=>cases hq
   | cons y xs ih =>
    rcases BB.1 hq with rfl|h
    ·exact⟨_,rfl⟩
    ·obtain⟨k,hk⟩:=ih h
     exact⟨y*k,by simp only[bH,hk];ac_rfl⟩
  exact Gw (E9.2 (this _ _ (Dy hx)))
 generalize bH (l.map (·.1))=Mm at *
 split
 ·refine⟨fun x hx=>?_,by omega,by omega⟩
  have:=h3 x hx
  rw[Int.sub_emod,hdv x hx,Int.sub_zero,Int.emod_emod_of_dvd _ (Int.dvd_refl _)]
  omega
 ·refine⟨fun x hx=>?_,by omega,by omega⟩
  have:=h3 x hx
  omega
end Go.Am
end
section
open List renaming map_map→ζ,mapM_map→ξ
open Go Go.Am Go.Proofs
namespace Go.Am
def oJ(k:Nat):Int:=(k:Int)-1
theorem rW(k:Nat):oJ (k+1)=(k:Int):=by unfold oJ;omega
theorem aNu:oJ 0=-1:=rfl
def rmd(p x:Nat):Nat:=x%p
theorem aZc{m:List Nat}{k:Nat}(h:k<m.length):val (m.drop k)=m[k]! + 4294967296*val (m.drop (k+1)):=by
 rw[List.drop_eq_getElem_cons h,B8 m k h];rfl
theorem aSe(m:List Nat):∃ L,aG m=.sl L∧L.length=m.length∧∀ i,i<m.length→L[i]? = some [.i .u32 ((m[i]! : Nat):Int)]:=⟨_,rfl,by simp,fun i hi=>by rw[Ai,Ab hi,B8 m i hi];rfl⟩
set_option maxHeartbeats 4000000 in
set_option maxRecDepth 10000 in
theorem bLa[M:Mch Aa](p:Nat)(neg:Bool)(m:List Nat)(hp:0<p)(hp1:p≤2147483648)(hm:Lim m)(hl:m.length≤9223372036854775807) :
  Spec Aa 53 [.i .u64 p,.ag [.b neg,aG m]] (.i .u64 (if neg=true∧0<val m%p then p-val m%p else val m%p:Nat)):=by
 obtain⟨L,hL,hLl,hLg⟩:=aSe m
 have h1L:one (.d (.sl L))=true:=rfl
 refine bI (N:=36) Tryz.func53 ?_
 rw[hL]
 simp[-ζ,-ξ,↓KW]
 have hlw:Ag.wrap ((L.length:Int)-1)=oJ m.length:=by
  rw[hLl];unfold oJ;exact aV
 have hmod:∀ x:Nat,x%p<p:=fun x=>BY x hp
 refine bL (τ:=Nat) (fun k=>k≤m.length) (fun k=>StL [(0,.d (.i .u64 p)),(3,.ptr 1 0),(5,.d (.i .u64 (rmd p (val (m.drop k)):Nat))),(6,.d (.i .i64 (oJ k)))] none [.cells 31 [.d (.b neg),.d (.sl L)]]) (fun k=>k) m.length (AE _) ?_ ?_
 ·rw[List.drop_length]
  refine wkQ [1] ?_ ?_<;>simp[-ζ,upd,aT,Γ0,val,hlw,rmd]
 ·intro k hk
  cases k with
  | zero =>
   rw[aNu,FW]
   show AWP _ _ (StL [(0,_),(3,_),(5,.d (.i .u64 ((val m%p:Nat):Int))),(6,_)] none _) _
   have hr:=hmod (val m)
   generalize val m%p=r at *
   simp[-ζ,-ξ,↓KW]
   refine bE ?_
   cases neg with
   |false=>simp[-ζ,-ξ,↓KW]
   | true =>
    rcases Be r with h0|h0
    ·subst h0
     simp[-ζ,-ξ,↓KW]
    ·have hi:(0:Int)<(r:Int):=by omega
     have hw:Az.wrap ((p:Int)-(r:Int))=((p-r:Nat):Int):=by
      rw[show(p:Int)-(r:Int)=((p-r:Nat):Int)from by omega];exact wrap_u64 (by omega) (by omega)
     simp[-ζ,-ξ,↓KW,hi,h0,hw]
  | succ k =>
   rw[rW]
   show AWP _ _ (StL [(0,_),(3,_),(5,.d (.i .u64 ((val (m.drop (k+1))%p:Nat):Int))),(6,_)] none _) _
   have hx:m[k]! < 4294967296:=by rw[B8 m k (by omega)];exact hm _ (BH ..)
   have hLk:=hLg k (by omega)
   have hLk':∀ h,L[k]'h=[.i .u32 ((m[k]! : Nat):Int)]:=fun h=>by rw[Ab h]at hLk;injection hLk
   have hv:val (m.drop k)%p=(val (m.drop (k+1))%p*4294967296+m[k]!)%p:=by
    rw[aZc (by omega)]
    rw[En m[k]!,BV 4294967296]
    exact bXv (bCo (Ek _ _).symm rfl) rfl
   obtain⟨r',hr'⟩:∃ r',val (m.drop k)%p=r':=⟨_,rfl⟩
   have hr:=hmod (val (m.drop (k+1)))
   rw[hr']at hv
   generalize val (m.drop (k+1))%p=r at *
   generalize m[k]! = x at *
   have hR:=xP (r*4294967296+x) p hp
   rw[←hv]at hR
   have hk0:(0:Int)≤(k:Int):=by omega
   have hkl:k<L.length:=by omega
   have hwk:Ag.wrap (k:Int)=k:=aV
   have hwk1:Ag.wrap ((k:Int)-1)=oJ k:=by unfold oJ;exact aV
   have hsh:dW .shl .u64 (r:Int) 32=some (.i .u64 ((r*4294967296:Nat):Int)):=by
    simp only[dW,Cz]
    rw[Aj (by decide)]
    congr 2
    rw[show(2:Int)^(min (32:Int).toNat 64)=4294967296 from by decide]
    rw[show(r:Int)*4294967296=((r*4294967296:Nat):Int)from by omega]
    exact wrap_u64 (by omega) (by omega)
   have hwx:Az.wrap (x:Int)=x:=wrap_u64 (by omega) (by omega)
   have hor:dJ .or false (.d (.i .u64 ((r*4294967296:Nat):Int))) (.d (.i .u64 (x:Int)))=some (.i .u64 ((r*4294967296+x:Nat):Int)):=by
    show some (D.i .u64 (bits .or .u64 ((r*4294967296:Nat):Int) (x:Int)))=_
    rw[bits_or_u64_nat _ _ (by omega) (by omega)]
    congr 3
    have:=Nat.shiftLeft_add_eq_or_of_lt (i:=32) (b:=x) (by omega) r
    rw[Nat.shiftLeft_eq]at this
    exact this.symm
   generalize r*4294967296=R at *
   generalize R+x=Rx at *
   simp[-ζ,-ξ,↓KW,hk0,hsh,hkl,hwk,hwk1,hLk,hLk',hwx,hor]
   refine aH hR ?_
   simp[-ζ,-ξ,↓KW,hwk1]
   refine aN k (by omega) (by omega) ?_
   show ∃ ρ,Wk _ (StL _ _ _) ρ
   rw[show rmd p (val (m.drop k))=r' from hr']
   refine wkQ [1] ?_ ?_<;>simp[-ζ,upd,aT,Γ0]
theorem aQw[M:Mch Aa](p:Nat)(z:Int)(hp:0<p)(hp1:p≤2147483648)(hz:Sz z):Spec Aa 53 [.i .u64 p,encZ z] (.i .u64 (z%(p:Int))):=by
 have h:=bLa p (decide (z<0)) (aM z.natAbs) hp hp1 (bW _) (AO hz (by decide))
 rw[←bF,cE]at h
 have e:(((if decide (z<0)=true∧0<z.natAbs%p then p-z.natAbs%p else z.natAbs%p:Nat)):Int)=z%(p:Int):=by
  simp only[BO]
  have hlt:=BY z.natAbs hp
  by_cases hz:z<0
  ·have hzz:z=-(z.natAbs:Int):=by omega
   have hm:z%(p:Int)=(-(z.natAbs:Int))%(p:Int):=by rw[←hzz]
   have hd:=Ew z.natAbs p
   rw[hm]
   generalize z.natAbs=n at *
   rcases Be (n%p)with h0|h0
   ·rw[Aj (by omega),h0]
    have:(p:Int) ∣ -(n:Int):=Int.dvd_neg.2 (E9.2 (Cm h0))
    rw[Gw this];rfl
   ·rw[Ar ⟨hz,h0⟩]
    have:-(n:Int)=((p-n%p:Nat):Int)+(p:Int)*(-(n/p:Nat)-1:Int):=by
     have h2:(n:Int)=(p:Int)*((n/p:Nat):Int)+((n%p:Nat):Int):=by rw[←CB,←Ey,hd]
     rw[Int.mul_sub,D3,Int.mul_one]
     omega
    rw[this,Int.add_mul_emod_self_left]
    rw[Int.emod_eq_of_lt (by omega) (by omega)]
  ·rw[Aj (by omega)]
   have:z=(z.natAbs:Int):=by omega
   conv=>rhs;rw[this]
   rfl
 rwa [e]at h
theorem aQx[M:Mch Aa](p n:Nat)(hp:0<p)(hp1:p≤2147483648)(hn:n<2^256):Spec Aa 53 [.i .u64 p,bN n] (.i .u64 (n%p:Nat)):=by
 have h:=aQw p (n:Int) hp hp1 (by
  have:=dB (n:=n) (k:=8) (A3 hn (by decide))
  unfold Sz;simp;omega)
 rw[dD]at h
 exact h
theorem bNe[M:Mch Aa](p a:Nat)(hp:2≤p)(hp1:p≤2147483648)(ha:a<p)(h0:a≠0):Spec Aa 88 [.i .u64 p,.i .u64 a] (.tp [.i .u64 (a^(p-2)%p:Nat),.i .i64 0]):=by
 have hP:=aRb p a (p-2) (by omega) hp1 (by omega) (by omega)
 rw[bBr (by omega) (by omega)]at hP
 generalize a^(p-2)%p=r at *
 have hw:Az.wrap ((p:Int)-2)=((p-2:Nat):Int):=by
  rw[show(p:Int)-2=((p-2:Nat):Int)from by omega];exact wrap_u64 (by omega) (by omega)
 have hi:((a:Int)==0)=false:=by simp;omega
 generalize p-2=e at *
 refine bI (N:=13) Tryz.func88 ?_
 simp[-ζ,-ξ,↓KW,hi,h0,hw]
 refine aH hP ?_
 simp[-ζ,-ξ,↓KW]
 rfl
theorem bJs[M:Mch Aa](p a b:Nat)(hp:0<p)(hp1:p≤2147483648)(ha:a<p)(hb:b<p):Spec Aa 90 [.i .u64 p,.i .u64 a,.i .u64 b] (.i .u64 ((a+p-b)%p:Nat)):=by
 have hR:=xP (a+p-b) p hp
 generalize(a+p-b)%p=r at *
 have hw1:Az.wrap ((a:Int)+(p:Int))=((a+p:Nat):Int):=by rw[←Ey];exact wrap_u64 (by omega) (by omega)
 have hw2:Az.wrap (((a+p:Nat):Int)-(b:Int))=((a+p-b:Nat):Int):=by
  rw[show((a+p:Nat):Int)-(b:Int)=((a+p-b:Nat):Int)from by omega];exact wrap_u64 (by omega) (by omega)
 generalize a+p-b=x at *
 generalize a+p=y at *
 refine bI (N:=14) Tryz.func90 ?_
 simp[-ζ,-ξ,↓KW,hw1,hw2]
 refine aH hR ?_
 simp[-ζ,-ξ,↓KW]
theorem aVu[M:Mch Aa](n:Nat)(hn:n<18446744073709551616):Spec Aa 147 [.i .u64 n] (aG [n%4294967296,n/4294967296]):=by
 have hw0:BC.wrap (n:Int)=((n%4294967296:Nat):Int):=by rw[Ei];omega
 have hw1:BC.wrap ((n/4294967296:Nat):Int)=((n/4294967296:Nat):Int):=by rw[Ei];omega
 have hsh:=aCu (t:=n)
 generalize n/4294967296=hi at *
 generalize n%4294967296=lo at *
 refine bI (N:=9) Tryz.func147 ?_
 simp[-ζ,-ξ,↓KW,hw0,hw1,hsh]
 rfl
theorem nK[M:Mch Aa]{n:Nat}(hn:n<9223372036854775808):Spec Aa 82 [.i .i64 n] (bN n):=by
 have hL:=aVu n (by omega)
 have hV:=aKn false [n%4294967296,n/4294967296] (by simp)
 rw[fD (by intro x hx;simp at hx;rcases hx with rfl|rfl<;>omega)]at hV
 have hv:val [n%4294967296,n/4294967296]=n:=by simp[val];omega
 rw[hv]at hV
 have hV':Spec Aa 95 [.b false,aG [n%4294967296,n/4294967296]] (bN n):=hV
 generalize[n%4294967296,n/4294967296]=l at *
 have hw:Az.wrap (n:Int)=n:=wrap_u64 (by omega) (by omega)
 have hlt:¬(n:Int)<0:=by omega
 refine bI (N:=15) Tryz.func82 ?_
 simp[-ζ,-ξ,↓KW,hw,hlt]
 refine aH hL ?_
 simp[-ζ,-ξ,↓KW,aA,aD,aC,aE,aB]
 refine aH hV' ?_
 simp[-ζ,-ξ,↓KW,aP n,aA,aD,aC,aE,aB]
theorem bQr{n:Nat}(hn:n<4294967296):dJ .and false (.d (.i .u64 (n:Int))) (.d (.i .u64 4294967295))=some (.i .u64 (n:Int)):=by
 show some (D.i .u64 (bits .and .u64 (n:Int) 4294967295))=_
 have:=bits_and_u64_nat n 4294967295 (by omega) (by decide)
 rw[show(4294967295:Int)=((4294967295:Nat):Int)from rfl,this]
 congr 3
 exact(Nat.and_two_pow_sub_one_eq_mod n 32).trans (Ce hn)
theorem bPw[M:Mch Aa]{n:Nat}(hn:n<4294967296):Spec Aa 91 [.i .u64 n] (bN n):=by
 have h0:=nK (n:=0) (by omega)
 have h2:=nK (n:=4294967296) (by omega)
 have hM:=aOd (x:=0) (y:=4294967296) (by decide) (by decide)
 have hO:=nK (n:=n) (by omega)
 have hA:=aXm (x:=0) (y:=n) (by decide) (by omega)
 rw[Fb]at hM
 rw[AB]at hA
 have hsh:=aCu (t:=n)
 rw[C4 hn]at hsh
 have ha:=bQr hn
 have hw:Ag.wrap (n:Int)=n:=aV
 have hw0:Ag.wrap 0=0:=by decide
 refine bI (N:=16) Tryz.func91 ?_
 simp[-ζ,-ξ,↓KW,hsh,hw0]
 refine aH h0 ?_
 simp[-ζ,-ξ,↓KW,aP 0,aA,aD,aC,aE,aB]
 refine aH h2 ?_
 simp[-ζ,-ξ,↓KW,aP 4294967296,aA,aD,aC,aE,aB]
 refine aH hM ?_
 simp[-ζ,-ξ,↓KW,aP 0,aA,aD,aC,aE,aB,ha,hw]
 refine aH hO ?_
 simp[-ζ,-ξ,↓KW,aP n,aA,aD,aC,aE,aB]
 refine aH hA ?_
 simp[-ζ,-ξ,↓KW,aP n,aA,aD,aC,aE,aB]
theorem bVx[M:Mch Aa]{n:Nat}(hn:n<4294967296):Spec Aa 84 [.i .u64 n] (bN n):=by
 have h0:=nK (n:=0) (by omega)
 have h2:=nK (n:=4294967296) (by omega)
 have hM:=aOd (x:=0) (y:=4294967296) (by decide) (by decide)
 have hO:=nK (n:=n) (by omega)
 have hA:=aXm (x:=0) (y:=n) (by decide) (by omega)
 rw[Fb]at hM
 rw[AB]at hA
 have hsh:=aCu (t:=n)
 rw[C4 hn]at hsh
 have ha:=bQr hn
 have hw:Ag.wrap (n:Int)=n:=aV
 have hw0:Ag.wrap 0=0:=by decide
 refine bI (N:=16) Tryz.func84 ?_
 simp[-ζ,-ξ,↓KW,hsh,hw0]
 refine aH h0 ?_
 simp[-ζ,-ξ,↓KW,aP 0,aA,aD,aC,aE,aB]
 refine aH h2 ?_
 simp[-ζ,-ξ,↓KW,aP 4294967296,aA,aD,aC,aE,aB]
 refine aH hM ?_
 simp[-ζ,-ξ,↓KW,aP 0,aA,aD,aC,aE,aB,ha,hw]
 refine aH hO ?_
 simp[-ζ,-ξ,↓KW,aP n,aA,aD,aC,aE,aB]
 refine aH hA ?_
 simp[-ζ,-ξ,↓KW,aP n,aA,aD,aC,aE,aB]
theorem bNf[M:Mch Aa]{x y:Nat}(hx:x<2^255)(hy:y<2^255)(h0:0<y):Spec Aa 92 [bN x,bN y] (encZ ((x:Int)-y)):=by
 have hA:=aGj (x:Int) (-(y:Int)) (szN (by omega)) (rM (by simp;omega))
 rw[←Int.sub_eq_add_neg,dD]at hA
 have hny:encZ (-(y:Int))=.ag [.b true,aG (aM y)]:=by
  rw[bF,show decide (-(y:Int)<0)=true from by simp;omega]
  simp
 rw[hny]at hA
 generalize(x:Int)-(y:Int)=z at *
 refine bI (N:=13) Tryz.func92 ?_
 simp[-ζ,-ξ,↓KW,aP x,aP y,aA,aD,aC,aE,aB]
 refine aH hA ?_
 simp[-ζ,-ξ,↓KW,bF z,aA,aD,aC,aE,aB]
def eP(T:List Int):List (Int×AV):=T.map fun n=>(n,.d (.b true))
def uI(l:List Nat):List Int:=l.map fun(p:Nat)=>(p:Int)
theorem tX(l:List Nat):∃ L,cM l=.sl L∧L.length=l.length∧∀ i,i<l.length→L[i]? = some [.i .u64 ((l[i]! : Nat):Int)]:=⟨_,rfl,by simp,fun i hi=>by rw[Ai,Ab hi,B8 l i hi];rfl⟩
theorem rY(n:Int):∀ T:List Int,(eX n (eP T)=none↔n ∉ T)∧∀ j,eX n (eP T)=some j→(eP T)[j]? = some (n,.d (.b true))
 |[]=>⟨by simp[eP,eX],by simp[eP,eX]⟩
 | x::T=>by
  obtain⟨h1,h2⟩:=rY n T
  show(eX n ((x,_)::eP T)=none↔_)∧∀ j,eX n ((x,_)::eP T)=some j→((x,AV.d (.b true))::eP T)[j]? = _
  unfold eX
  by_cases h:x=n
  ·subst h;simp
  ·have hn:¬n=x:=fun e=>h e.symm
   simp only[h,if_false,Option.map_eq_none_iff,BB,not_or,hn,not_false_eq_true,true_and]
   refine⟨h1,fun j hj=>?_⟩
   obtain⟨i,hi,rfl⟩:=Ae.1 hj
   simpa using h2 i hi
theorem aDp(P:Program)(t kt vt:TypeId)(k:IntKind)(T:List Int)(n:Int)(ht:tmp P t=some (kt,vt))(hk:fB P kt=some k)(hz:tz P vt=some (.bool false)):tM P t k (eP T) (.d (.i k n)) false=some (.d (.b (decide (n∈T)))):=by
 obtain⟨h1,h2⟩:=rY n T
 unfold tM
 simp only[ht,Option.bind_some,hk,and_self,if_true,aRq]
 cases hm:eX n (eP T)with
 | none =>
  have:=h1.1 hm
  simp[hz,this];rfl
 | some j =>
  have hj:=h2 j hm
  have:n∈T:=BW fun h=>by rw[h1.2 h]at hm;cases hm
  simp[hj,this]
theorem vG(n:Int)(T:List Int)(h:n ∉ T):aKc (eP T) n (.d (.b true))=eP (T++[n]):=by
 unfold aKc
 rw[(rY n T).1.2 h]
 simp[eP]
theorem qH{H H':Hp}{ρ:Nat→Nat}{k:IntKind}(T:List Int):pV H H' ρ (.map k (eP T)) (.map k (eP T))↔True:=⟨fun _=>trivial,fun _=>aZl fun x hx=>by
 obtain⟨n,_,rfl⟩:=AZ.1 hx
 simp⟩
theorem aFa{H H':Hp}{ρ:Nat→Nat}{k:IntKind}:pV H H' ρ (.map k []) (.map k [])↔True:=⟨fun _=>trivial,fun _=>⟨rfl,rfl,fun _ _ _ h=>by simp at h⟩⟩
theorem nG{l:List Nat}{p:Nat}:((p:Int)∈uI l)↔p∈l:=by
 unfold uI
 rw[AZ]
 constructor
 ·rintro⟨q,hq,e⟩
  have:q=p:=by omega
  subst this;exact hq
 ·exact fun h=>⟨p,h,rfl⟩
theorem nE{α:Type}{T:List α}{p:α}(h:T.Nodup)(hp:p ∉ T):(T++[p]).Nodup:=by
 rw[D5]
 exact⟨h,by simp,fun a ha b hb e=>by simp at hb;subst hb;exact hp (e ▸ ha)⟩
theorem bCr:tmp Aa 148=some (51,4):=by kernel_rfl
theorem bCs:tmp Aa 125=some (3,4):=by kernel_rfl
theorem aOi(T:List Int)(n:Int):tM Aa 148 .u64 (eP T) (.d (.i .u64 n)) false=some (.d (.b (decide (n∈T)))):=aDp _ _ _ _ _ _ _ bCr (by kernel_rfl) (by kernel_rfl)
theorem bTx(T:List Int)(n:Int):tM Aa 125 .i64 (eP T) (.d (.i .i64 n)) false=some (.d (.b (decide (n∈T)))):=aDp _ _ _ _ _ _ _ bCs (by kernel_rfl) (by kernel_rfl)
theorem xW{P:Program}(H:Hp)(t:TypeId)(id:Nat)(x:AV)(v:Option AV):pE P H t (.mp id) x v=match H id with
  | some (.map k es)=>(tmp P t).bind fun p=>match x with
   |.d (.i k' n)=>if k'=k∧fB P p.1=some k then some (id,.map k (match v with|some v=>aKc es n v|none=>aVq es n))else none
   |_=>none
  |_=>none:=rfl
theorem fZ{P:Program}{H:Hp}{t:TypeId}{id:Nat}{x:AV}{ok:Bool}:aDq P H t (.mp id) x ok=match H id with|some (.map k es)=>tM P t k es x ok|_=>none:=rfl
set_option maxHeartbeats 4000000 in
set_option maxRecDepth 10000 in
theorem aPf[M:Mch Aa](l:List Nat)(hl:l.length≤1000000)(hP:∀ p∈l,Spec Aa 52 [.i .u64 (p:Nat)] (.b true)):Spec Aa 70 [cM l] (.b (decide l.Nodup)):=by
 obtain⟨L,hL,hLl,hLg⟩:=tX l
 rw[hL]
 refine bI (N:=24) Tryz.func70 ?_
 simp[-ζ,-ξ,↓KW]
 refine bL (τ:=Nat) (fun i=>i≤l.length∧(l.take i).Nodup) (fun i=>StL [(3,.mp 1),(7,.d (.sl L)),(8,.d (.i .i64 L.length)),(9,.d (.i .i64 i))] none [.map .u64 (eP (uI (l.take i)))]) (fun i=>l.length-i) 0 ⟨A8 _,by simp⟩ ?_ ?_
 ·rw[BG]
  refine wkQ [1] ?_ ?_<;>simp[-ζ,upd,aT,Γ0,show eP (uI [])=[]from rfl,aFa]
 ·rintro i ⟨hi,hn⟩
  by_cases hlt:i<l.length
  ·have hLi:=hLg i hlt
   have hLi':∀ h,L[i]'h=[.i .u64 ((l[i]! : Nat):Int)]:=fun h=>by rw[Ab h]at hLi;injection hLi
   have hiL:i<L.length:=by omega
   generalize hT:l.take i=T at *
   generalize hp:l[i]! = p at *
   have hPp:Spec Aa 52 [.i .u64 (p:Nat)] (.b true):=hP p (by rw[←hp,B8 l i hlt];exact BH ..)
   have hge:l[i]? = some p:=by rw[←hp,B8 l i hlt];exact Ab hlt
   have hT1:l.take (i+1)=T++[p]:=by rw[A7,hge,hT];rfl
   by_cases hm:p∈T
   ·have hdl:decide l.Nodup=false:=by
     simp only[E8]
     intro hnd
     have:(l.take (i+1)).Nodup:=Er (CY ..) hnd
     rw[hT1,D5]at this
     exact this.2.2 p hm p (by simp) rfl
    rw[hdl]
    have hlk:=aOi (uI T) p
    rw[BU (nG.2 hm)]at hlk
    simp[-ζ,-ξ,↓KW,hiL,hLi,hLi',fZ,hlk]
    exact bE (by simp[-ζ,-ξ,↓KW])
   ·have hlk:=aOi (uI T) p
    rw[Bn (fun h=>hm (nG.1 h))]at hlk
    have hmp:=vG (p:Int) (uI T) (fun h=>hm (nG.1 h))
    have hu:uI T++[(p:Int)]=uI (T++[p]):=by simp[uI]
    rw[hu]at hmp
    have hw1:Ag.wrap ((i:Int)+1)=((i+1:Nat):Int):=aV
    simp[-ζ,-ξ,↓KW,hiL,hLi,hLi',fZ,hlk]
    refine aH hPp ?_
    simp[-ζ,-ξ,↓KW,xW,hmp,hw1]
    refine aN (i+1) ⟨by omega,by rw[hT1];exact nE hn hm⟩ (by show l.length-(i+1)<l.length-i;omega) ?_
    show ∃ ρ,Wk _ (StL _ _ _) ρ
    rw[hT1]
    refine wkQ [1] ?_ ?_<;>simp[-ζ,upd,aT,Γ0,qH]
  ·have hiL:¬i<L.length:=by omega
   have hdl:decide l.Nodup=true:=by
    rw[Ax (by omega)]at hn
    simpa using hn
   rw[hdl]
   simp[-ζ,-ξ,↓KW,hiL]
   exact bE (by simp[-ζ,-ξ,↓KW])
def oM(l:List (Nat×Nat)):D:=.sl (l.map fun x=>[.i .u64 (x.1:Int),.i .u64 (x.2:Int)])
theorem aGu(l:List (Nat×Nat)):∃ L,oM l=.sl L∧L.length=l.length∧∀(i:Nat) (x:Nat×Nat),l[i]? = some x→L[i]? = some [D.i .u64 (x.1:Int),D.i .u64 (x.2:Int)]:=⟨_,rfl,by simp,fun i x hx=>by rw[Ai,hx];rfl⟩
def dX(l:List (Nat×Nat×Nat)):D:=.sl (l.map fun x=>[.i .i64 (x.1:Int),.i .u64 (x.2.1:Int),.i .u64 (x.2.2:Int)])
theorem mR(l:List (Nat×Nat×Nat)):∃ L,dX l=.sl L∧L.length=l.length∧∀(i:Nat) (x:Nat×Nat×Nat),l[i]? = some x→L[i]? = some [D.i .i64 (x.1:Int),D.i .u64 (x.2.1:Int),D.i .u64 (x.2.2:Int)]:=⟨_,rfl,by simp,fun i x hx=>by rw[Ai,hx];rfl⟩
theorem cK{L:List (List D)}{i:Nat}{x:List D}(h:L[i]? = some x):∀ h',L[i]'h'=x:=fun h'=>by rw[Ab h']at h;injection h
def prR(l:List (Nat×Nat)):List Nat:=l.map (·.1)
def okR(l:List (Nat×Nat)):Prop:=(prR l).Nodup∧∀ x∈l,x.2<x.1
theorem zE(l:List (Nat×Nat))(i:Nat):prR (l.take i)=(prR l).take i:=by simp[prR]
set_option maxHeartbeats 4000000 in
set_option maxRecDepth 10000 in
theorem bFw[M:Mch Aa](l:List (Nat×Nat))(b:Bool)(hb:b=true↔okR l)(hl:l.length≤1000000)(hP:∀ x∈l,Spec Aa 52 [.i .u64 (x.1:Nat)] (.b true)):Spec Aa 86 [oM l] (.b b):=by
 obtain⟨L,hL,hLl,hLg⟩:=aGu l
 rw[hL]
 refine bI (N:=34) Tryz.func86 ?_
 simp[-ζ,-ξ,↓KW]
 refine bL (τ:=Nat) (fun i=>i≤l.length∧okR (l.take i)) (fun i=>StL [(3,.mp 1),(7,.d (.sl L)),(8,.d (.i .i64 L.length)),(9,.d (.i .i64 i))] none [.map .u64 (eP (uI (prR (l.take i))))]) (fun i=>l.length-i) 0 ⟨A8 _,by simp[okR,prR]⟩ ?_ ?_
 ·rw[BG]
  refine wkQ [1] ?_ ?_<;>simp[-ζ,upd,aT,Γ0,show eP (uI (prR []))=[]from rfl,aFa]
 ·rintro i ⟨hi,hn⟩
  by_cases hlt:i<l.length
  ·obtain⟨⟨p,v⟩,hge⟩:∃ x,l[i]? = some x:=⟨_,Ab hlt⟩
   have hmem:=Ao hge
   have hLi:=hLg i _ hge
   simp only at hLi
   have hLi':=cK hLi
   have hiL:i<L.length:=by omega
   have hT1:l.take (i+1)=l.take i++[(p,v)]:=by rw[A7,hge];rfl
   have hall:okR l→okR (l.take (i+1)):=fun h=>⟨by rw[zE];exact Er (CY ..) h.1,fun x hx=>h.2 x (Bl hx)⟩
   have hPp:Spec Aa 52 [.i .u64 (p:Nat)] (.b true):=hP _ hmem
   have hw1:Ag.wrap ((i:Int)+1)=((i+1:Nat):Int):=aV
   have hpT:prR (l.take (i+1))=prR (l.take i)++[p]:=by rw[hT1];simp[prR]
   generalize hTT:prR (l.take i)=T at *
   have hlk:=aOi (uI T) p
   by_cases hm:p∈T
   ·have hbf:b=false:=by
     cases b with
     |false=>rfl
     | true =>
      have h1:=(hall (hb.1 rfl)).1
      rw[hpT,D5]at h1
      exact absurd rfl (h1.2.2 p hm p (by simp))
    subst hbf
    rw[BU (nG.2 hm)]at hlk
    simp[-ζ,-ξ,↓KW,hiL,hLi,hLi',fZ,hlk]
    exact bE (by simp[-ζ,-ξ,↓KW])
   ·rw[Bn (fun h=>hm (nG.1 h))]at hlk
    have hmp:=vG (p:Int) (uI T) (fun h=>hm (nG.1 h))
    have hu:uI T++[(p:Int)]=uI (T++[p]):=by simp[uI]
    rw[hu]at hmp
    by_cases hv:v<p
    ·have hpv:¬(p:Int)≤(v:Int):=by omega
     have hpv':¬p≤v:=by omega
     have hokn:okR (l.take (i+1)):=⟨by rw[hpT];exact nE (hTT ▸ hn.1) hm,fun x hx=>by
      rw[hT1]at hx
      rcases BZ.1 hx with h|h
      ·exact hn.2 x h
      ·simp only[Cb]at h;subst h;exact hv⟩
     simp[-ζ,-ξ,↓KW,hiL,hLi,hLi',fZ,hlk]
     refine aH hPp ?_
     simp[-ζ,-ξ,↓KW,hpv,hpv',xW,hmp,hw1]
     refine aN (i+1) ⟨by omega,hokn⟩ (by show l.length-(i+1)<l.length-i;omega) ?_
     show ∃ ρ,Wk _ (StL _ _ _) ρ
     rw[hpT]
     refine wkQ [1] ?_ ?_<;>simp[-ζ,upd,aT,Γ0,qH]
    ·have hpv:(p:Int)≤(v:Int):=by omega
     have hpv':p≤v:=by omega
     have hbf:b=false:=by
      cases b with
      |false=>rfl
      |true=>exact absurd ((hb.1 rfl).2 _ hmem) (by simpa using hpv')
     subst hbf
     simp[-ζ,-ξ,↓KW,hiL,hLi,hLi',fZ,hlk]
     refine aH hPp ?_
     simp[-ζ,-ξ,↓KW,hpv,hpv']
     exact bE (by simp[-ζ,-ξ,↓KW])
  ·have hiL:¬i<L.length:=by omega
   have hbt:b=true:=by
    rw[Ax (by omega)]at hn
    exact hb.2 hn
   subst hbt
   simp[-ζ,-ξ,↓KW,hiL]
   exact bE (by simp[-ζ,-ξ,↓KW])
def wkL(l:List (Nat×Nat×Nat)):List Nat:=l.map (·.1)
def pmL(l:List (Nat×Nat×Nat)):List Nat:=l.map (·.2.1)
def aJo(l:List (Nat×Nat×Nat)):Prop:=(wkL l).Nodup∧∀ x∈l,x.2.2<x.2.1
theorem aYn(l:List (Nat×Nat×Nat))(i:Nat):wkL (l.take i)=(wkL l).take i:=by simp[wkL]
theorem yT(c:List Nat)(k:IntKind)(W:List Int):gT c (.map k (eP W))=.map k (eP W):=by
 simp[gT,eP]
 exact fun _ _=>rfl
theorem bUq{H:Hp}{id:Nat}{e:TypeId}{T:List Nat}{n:Nat}(hn:T.length=n)(hH:H id=some (.cells e ((dU T).map AV.d))):frz H 8 (.own id 0 n 1)=some (cM T):=by
 have e1:=jQ hn
 have e2:=mS hn
 have e3:=eK T
 rw[hn]at e3
 simp[-ζ,-ξ,zZ,hH,e1,e2,e3,cM]
theorem bEi{H:Hp}{x:AV}{d:D}(h:frz H 8 x=some d):cO H [x]=some [d]:=by simp[cO,h]
def ppS(L:List (List D))(n i:Nat)(W:List Int):List Nat→St
 |[]=>StL [(3,.mp 1),(4,.nil),(8,.d (.sl L)),(9,.d (.i .i64 n)),(10,.d (.i .i64 i))] none [.map .i64 (eP W)]
 |x::T=>StL [(3,.mp 1),(4,.own 2 0 (T.length+1) 1),(8,.d (.sl L)),(9,.d (.i .i64 n)),(10,.d (.i .i64 i))] none [.map .i64 (eP W),.cells 51 ((dU (x::T)).map .d)]
set_option maxHeartbeats 4000000 in
set_option maxRecDepth 10000 in
theorem aNs[M:Mch Aa](l:List (Nat×Nat×Nat))(b:Bool)(hb:b=true↔aJo l∧(pmL l).Nodup)(hl:l.length≤1000000)(hP:∀ x∈l,Spec Aa 52 [.i .u64 (x.2.1:Nat)] (.b true)):Spec Aa 42 [dX l] (.b b):=by
 obtain⟨L,hL,hLl,hLg⟩:=mR l
 have hD:=aPf (pmL l) (by simp[pmL];omega) (fun p hp=>by
  obtain⟨x,hx,rfl⟩:=AZ.1 hp
  exact hP x hx)
 rw[hL]
 refine bI (N:=39) Tryz.func42 ?_
 simp[-ζ,-ξ,↓KW]
 refine bL (τ:=Nat) (fun i=>i≤l.length∧aJo (l.take i)) (fun i=>ppS L L.length i (uI (wkL (l.take i))) (pmL (l.take i))) (fun i=>l.length-i) 0 ⟨A8 _,by simp[aJo,wkL]⟩ ?_ ?_
 ·rw[BG]
  show ∃ ρ,Wk _ (ppS _ _ _ [] []) ρ
  unfold ppS
  refine wkQ [1] ?_ ?_<;>simp[-ζ,upd,aT,Γ0,show eP []=[]from rfl,aFa]
 ·rintro i ⟨hi,hn⟩
  by_cases hlt:i<l.length
  ·obtain⟨⟨w,p,v⟩,hge⟩:∃ x,l[i]? = some x:=⟨_,Ab hlt⟩
   have hmem:=Ao hge
   have hLi:=hLg i _ hge
   simp only at hLi
   have hLi':=cK hLi
   have hiL:i<L.length:=by omega
   have hT1:l.take (i+1)=l.take i++[(w,p,v)]:=by rw[A7,hge];rfl
   have hall:aJo l→aJo (l.take (i+1)):=fun h=>⟨by rw[aYn];exact Er (CY ..) h.1,fun x hx=>h.2 x (Bl hx)⟩
   have hw1:Ag.wrap ((i:Int)+1)=((i+1:Nat):Int):=aV
   have hwT:wkL (l.take (i+1))=wkL (l.take i)++[w]:=by rw[hT1];simp[wkL]
   have hpT:pmL (l.take (i+1))=pmL (l.take i)++[p]:=by rw[hT1];simp[pmL]
   have hPl:(pmL (l.take i)).length=i:=by simp[pmL];omega
   generalize hTT:wkL (l.take i)=T at *
   generalize pmL (l.take i)=PT at *
   have hlk:=bTx (uI T) w
   by_cases hm:w∈T
   ·have hbf:b=false:=by
     cases b with
     |false=>rfl
     | true =>
      have h1:=(hall (hb.1 rfl).1).1
      rw[hwT,D5]at h1
      exact absurd rfl (h1.2.2 w hm w (by simp))
    subst hbf
    rw[BU (nG.2 hm)]at hlk
    cases PT with
    | nil =>
     simp[-ζ,-ξ,↓KW,ppS,hiL,hLi,hLi',fZ,hlk]
     exact bE (by simp[-ζ,-ξ,↓KW])
    | cons x PT =>
     simp[-ζ,-ξ,↓KW,ppS,hiL,hLi,hLi',fZ,hlk]
     exact bE (by simp[-ζ,-ξ,↓KW])
   ·rw[Bn (fun h=>hm (nG.1 h))]at hlk
    have hmp:=vG (w:Int) (uI T) (fun h=>hm (nG.1 h))
    have hu:uI T++[(w:Int)]=uI (T++[w]):=by simp[uI]
    rw[hu]at hmp
    by_cases hv:v<p
    ·have hpv:¬(p:Int)≤(v:Int):=by omega
     have hpv':¬p≤v:=by omega
     have hokn:aJo (l.take (i+1)):=⟨by rw[hwT];exact nE (hTT ▸ hn.1) hm,fun x hx=>by
      rw[hT1]at hx
      rcases BZ.1 hx with h|h
      ·exact hn.2 x h
      ·simp only[Cb]at h;subst h;exact hv⟩
     cases PT with
     | nil =>
      have hm1:(1:Nat)≤maxLen:=bU (by decide)
      simp[-ζ,-ξ,↓KW,ppS,hiL,hLi,hLi',fZ,hlk,hpv,hpv',xW,hmp,hw1,hm1]
      refine aN (i+1) ⟨by omega,hokn⟩ (by show l.length-(i+1)<l.length-i;omega) ?_
      show ∃ ρ,Wk _ (ppS _ _ _ _ _) ρ
      rw[hwT,hpT]
      show ∃ ρ,Wk _ (ppS _ _ _ _ (p::[])) ρ
      unfold ppS
      refine wkQ [1,4] ?_ ?_<;>simp[-ζ,upd,aT,Γ0,Bq,bQ,jL,jU,qH,yT]
     | cons x PT =>
      have hbb:=gF (n:=PT.length+1) (by simp at hPl;omega)
      simp[-ζ,-ξ,↓KW,ppS,hiL,hLi,hLi',fZ,hlk,hpv,hpv',xW,hmp,hw1,eK,hbb,bU]
      refine aN (i+1) ⟨by omega,hokn⟩ (by show l.length-(i+1)<l.length-i;omega) ?_
      show ∃ ρ,Wk _ (ppS _ _ _ _ _) ρ
      rw[hwT,hpT]
      show ∃ ρ,Wk _ (ppS _ _ _ _ (x::(PT++[p]))) ρ
      unfold ppS
      refine wkQ [1,5] ?_ ?_<;>simp[-ζ,upd,aT,Γ0,Bq,bQ,jL,jU,qH,yT]
    ·have hpv:(p:Int)≤(v:Int):=by omega
     have hpv':p≤v:=by omega
     have hbf:b=false:=by
      cases b with
      |false=>rfl
      |true=>exact absurd ((hb.1 rfl).1.2 _ hmem) (by simpa using hpv')
     subst hbf
     cases PT with
     | nil =>
      simp[-ζ,-ξ,↓KW,ppS,hiL,hLi,hLi',fZ,hlk,hpv,hpv']
      exact bE (by simp[-ζ,-ξ,↓KW])
     | cons x PT =>
      simp[-ζ,-ξ,↓KW,ppS,hiL,hLi,hLi',fZ,hlk,hpv,hpv']
      exact bE (by simp[-ζ,-ξ,↓KW])
  ·have hiL:¬i<L.length:=by omega
   rw[Ax (show l.length≤i by omega)]at hn ⊢
   have hbe:b=decide (pmL l).Nodup:=by
    cases b with
    |false=>symm;rw[E8];exact fun h=>by have:=hb.2 ⟨hn,h⟩;cases this
    |true=>symm;rw[BO];exact(hb.1 rfl).2
   rw[hbe]
   generalize decide (pmL l).Nodup=bb at *
   generalize hPT:pmL l=PT at *
   cases PT with
   | nil =>
    simp[-ζ,-ξ,↓KW,ppS,hiL]
    refine bE ?_
    simp[-ζ,-ξ,↓KW]
    refine aH hD ?_
    simp[-ζ,-ξ,↓KW]
   | cons x PT =>
    simp[-ζ,-ξ,↓KW,ppS,hiL]
    refine bE ?_
    simp[-ζ,-ξ,↓KW]
    refine bJ (ds:=[cM (x::PT)]) ?_ hD ?_
    ·exact bEi (bUq (T:=x::PT) rfl rfl)
    simp[-ζ,-ξ,↓KW]
theorem bMc{P:Program}(f:FuncId)(x:Operand)(Γ:Nat→AV)(n:Nat):nev P (.makeFunc (.func f) #[x] #[]) Γ n=cZ (match oev Γ x with|.d d=>some (.d (.fm f d))|_=>none):=by
 show(match[oev Γ x]with|[.d d]=>cZ (some (AV.d (.fm f d)))|_=>none)=_
 cases oev Γ x<;>rfl
theorem aAr(f:FuncId)(d:D):dS (.d (.fm f d))=none:=rfl
theorem aAs{P:Program}[M:Mch P](x:AV)(avs:List AV)(H:Hp)(k:List AV→D→Prop)(d:Dm k):aSu P none x avs H k d=aSw P x avs H k .mk:=rfl
theorem wN{P:Program}[M:Mch P]{f:FuncId}{x:D}{avs:List AV}{H:Hp}{k:List AV→D→Prop}{d:Dm k}{ds:List D}{r:D}(h1:cO H (.d x::avs)=some ds)(h2:Spec P f ds r)(h3:k (.d x::avs) r):aSw P (.d (.fm f x)) avs H k d:=⟨ds,r,h1,h2,h3⟩
theorem qL:∀{l:List Nat},(∀ q∈l,0<q)→0<bH l
 |[],_=>by simp[bH]
 |p::l,h=>E4 (h p (AH ..)) (qL fun q hq=>h q (AD _ hq))
theorem lX:∀{l:List Nat},(∀ q∈l,0<q)→∀ i,bH (l.take i)≤bH l
 |[],_,i=>by simp
 | p::l,h,0=>by
  rw[BG];exact qL h
 | p::l,h,i+1=>by
  rw[List.take_succ_cons]
  exact Cc p (lX (fun q hq=>h q (AD _ hq)) i)
theorem tf0:aZi Aa 76 0=some (0,false,1):=by kernel_rfl
theorem tf1:aZi Aa 76 1=some (1,false,1):=by kernel_rfl
theorem aEa(p v:Nat):∀(T:List (Nat×Nat)) (a m:Nat),nR (T++[(p,v)]) a m=((nR T a m).1+(nR T a m).2*rE p v (nR T a m).1 (nR T a m).2,(nR T a m).2*p)
 |[],a,m=>rfl
 | (q,w)::T,a,m=>by
  simp only[Ci,nR]
  exact aEa p v T _ _
theorem bVf[M:Mch Aa](l:List (Nat×Nat))(i:Nat)(p v:Nat)(h:l[i]? = some (p,v))(hl:l.length≤1000000):Spec Aa 87 [oM l,.i .i64 i] (.ag [.i .u64 p,.i .u64 v]):=by
 obtain⟨L,hL,hLl,hLg⟩:=aGu l
 have hLi:=hLg i _ h
 simp only at hLi
 have hLi':=cK hLi
 have hlt:=(Aq.1 h).1
 have hiL:i<L.length:=by omega
 have hw0:Ag.wrap (i:Int)=i:=aV
 rw[hL]
 refine bI (N:=9) Tryz.func87 ?_
 simp[-ζ,-ξ,↓KW,hiL,hLi,hLi',hw0]
set_option maxHeartbeats 4000000 in
set_option maxRecDepth 10000 in
theorem aLe[M:Mch Aa](l:List (Nat×Nat))(hR:aXq l)(hl:l.length≤1000)(hB:bH (prR l)<2^250)(hp31:∀ x∈l,x.1<2147483648)(hP:∀ x∈l,Spec Aa 52 [.i .u64 (x.1:Nat)] (.b true)) :
  Spec Aa 46 [oM l] (.tp [encZ (aGz l),.i .i64 0]):=by
 have hV:=bFw l true ⟨fun _=>⟨hR.nd,hR.lt⟩,fun _=>rfl⟩ (by omega) hP
 have hat:=fun(i p v:Nat) (h:l[i]? = some (p,v))=>bVf l i p v h (by omega)
 obtain⟨L,hL,hLl,hLg⟩:=aGu l
 rw[hL]at hV hat ⊢
 have h0:=nK (n:=0) (by omega)
 have h1:=nK (n:=1) (by omega)
 refine bI (N:=72) Tryz.func46 ?_
 simp[-ζ,-ξ,↓KW]
 refine aH hV ?_
 simp[-ζ,-ξ,↓KW]
 refine aH h0 ?_
 simp[-ζ,-ξ,↓KW,aP 0,aA,aD,aC,aE,aB]
 refine aH h1 ?_
 simp[-ζ,-ξ,↓KW,↓aL,↓aF,↓aJ,↓aK,aP 1,aA,aD,aC,aE,aB]
 simp[-ζ,-ξ,↓KW,↓aL,↓aF,↓aJ,↓aK,bMc]
 obtain⟨st,hst⟩:∃ st:Nat→Nat×Nat,∀ i,st i=nR (l.take i) 0 1:=⟨fun i=>nR (l.take i) 0 1,fun i=>rfl⟩
 have hinv:∀ i,i≤l.length→(st i).2=bH (prR (l.take i))∧(st i).1<(st i).2∧(st i).2<2^250:=fun i hi=>by
  have hPT:aXq (l.take i):=⟨fun x hx=>hR.pr x (Bl hx),fun x hx=>hR.lt x (Bl hx),by rw[List.map_take];exact Er (CY ..) hR.nd⟩
  obtain⟨k1,k2,_⟩:=aHa (l.take i) [] 0 1 (by simpa using hPT) rfl (by decide) (by simp)
  rw[←hst i]at k1 k2
  refine⟨by simpa[prR]using k1,k2,?_⟩
  rw[k1]
  refine Bo ?_ hB
  rw[DV]
  show bH (prR (l.take i))≤_
  rw[zE]
  exact lX (fun q hq=>by
   obtain⟨x,hx,rfl⟩:=AZ.1 hq
   have:=(hR.pr x hx).1;omega) i
 have hmod:∀ i p v,l[i]? = some (p,v)→(st i).2%p≠0:=fun i p v hge hz=>by
  have hxm:=Ao hge
  have hlt:=(Aq.1 hge).1
  have hpr:PrN p:=hR.pr _ hxm
  have hT1:l.take (i+1)=l.take i++[(p,v)]:=by rw[A7,hge];rfl
  have hnd:(prR (l.take (i+1))).Nodup:=by rw[zE];exact Er (CY ..) hR.nd
  rw[hT1]at hnd
  have hpn:p ∉ prR (l.take i):=fun h=>by
   have e:prR (l.take i++[(p,v)])=prR (l.take i)++[p]:=by simp[prR]
   rw[e,D5]at hnd
   exact hnd.2.2 p h p (by simp) rfl
  have hcop:EI p (st i).2:=by
   rw[(hinv i (by omega)).1]
   refine aAo hpr (fun q hq=>?_) hpn
   obtain⟨x,hx,rfl⟩:=AZ.1 hq
   exact hR.pr x (Bl hx)
  have:=F9 hcop (Cm hz)
  have:=hpr.1
  omega
 refine bL (τ:=Nat) (fun i=>i≤l.length) (fun i=>StL [(2,.ptr 1 0),(4,.ptr 2 0),(5,.ptr 3 0),(6,.d (.fm 87 (.sl L))),(22,.d (.i .i64 L.length)),(23,.d (.i .i64 i))] none [.cells 31 [.d (.b false),.nil],.cells 31 [.d (.b false),.d (aG (aM (st i).1))],.cells 31 [.d (.b false),.d (aG (aM (st i).2))]]) (fun i=>l.length-i) 0 (A8 _) ?_ ?_
 ·rw[hst,BG]
  refine wkQ [1,2,3] ?_ ?_<;>simp[-ζ,upd,aT,Γ0,nR]
 ·intro i hi
  by_cases hlt:i<l.length
  ·obtain⟨⟨p,v⟩,hge⟩:∃ x,l[i]? = some x:=⟨_,Ab hlt⟩
   have hA:=hat i p v hge
   have hiL:i<L.length:=by omega
   have hxm:=Ao hge
   have hpr:PrN p:=hR.pr _ hxm
   have hvp:v<p:=hR.lt _ hxm
   have hp31':p<2147483648:=hp31 _ hxm
   have hp2:=hpr.1
   have hT1:l.take (i+1)=l.take i++[(p,v)]:=by rw[A7,hge];rfl
   have hst1:st (i+1)=((st i).1+(st i).2*rE p v (st i).1 (st i).2,(st i).2*p):=by rw[hst,hst,hT1];exact aEa p v _ 0 1
   obtain⟨g1,g2,g3⟩:=hinv i hi
   obtain⟨g4,g5,g6⟩:=hinv (i+1) hlt
   rw[hst1]at g4 g5 g6
   simp only at g4 g5 g6
   have hmp:(st i).2%p≠0:=hmod i p v hge
   have hm1:=BY (st i).2 (show 0<p by omega)
   have ha1:=BY (st i).1 (show 0<p by omega)
   have hRm:=aQx p (st i).2 (by omega) (by omega) (by omega)
   have hRa:=aQx p (st i).1 (by omega) (by omega) (by omega)
   have hI:=bNe p ((st i).2%p) hp2 (by omega) hm1 hmp
   have hSb:=bJs p v ((st i).1%p) (by omega) (by omega) hvp ha1
   have hs1:=BY (v+p-(st i).1%p) (show 0<p by omega)
   have hi1:=BY (((st i).2%p)^(p-2)) (show 0<p by omega)
   have hMl:=xU p ((v+p-(st i).1%p)%p) (((st i).2%p)^(p-2)%p) (by omega) (Bo (Bg (EO (FM hs1 hp31')) (EO (FM hi1 hp31'))) (by decide))
   have hct:(v+p-(st i).1%p)%p*(((st i).2%p)^(p-2)%p)%p=rE p v (st i).1 (st i).2:=rfl
   rw[hct]at hMl
   have htl:rE p v (st i).1 (st i).2<p:=aSl (by omega)
   have hWt:=bPw (n:=rE p v (st i).1 (st i).2) (by omega)
   have hWp:=bPw (n:=p) (by omega)
   have hMt:=aOd (x:=(st i).2) (y:=rE p v (st i).1 (st i).2) (by omega) (by omega)
   have hMp:=aOd (x:=(st i).2) (y:=p) (by omega) (by omega)
   have hmt2:(st i).2*rE p v (st i).1 (st i).2≤(st i).2*p:=Cc _ (EO htl)
   have hAd:=aXm (x:=(st i).1) (y:=(st i).2*rE p v (st i).1 (st i).2) (by omega) (by omega)
   have hw1:Ag.wrap ((i:Int)+1)=((i+1:Nat):Int):=aV
   have hn1:(st (i+1)).1=(st i).1+(st i).2*rE p v (st i).1 (st i).2:=by rw[hst1]
   have hn2:(st (i+1)).2=(st i).2*p:=by rw[hst1]
   rw[←hn1]at hAd
   rw[←hn2]at hMp
   generalize rE p v (st i).1 (st i).2=t at *
   generalize((st i).2%p)^(p-2)%p=iv at *
   generalize(v+p-(st i).1%p)%p=sv at *
   generalize(st i).2*t=mt at *
   generalize(st i).1%p=ap at *
   generalize(st i).2%p=mp at *
   generalize(st i).1=a at *
   generalize(st i).2=m at *
   obtain⟨a',ha'⟩:∃ a',(st (i+1)).1=a':=⟨_,rfl⟩
   obtain⟨m',hm'⟩:∃ m',(st (i+1)).2=m':=⟨_,rfl⟩
   rw[ha']at hAd
   rw[hm']at hMp
   simp[-ζ,-ξ,↓KW,↓aL,↓aF,↓aJ,↓aK,hiL,aAr,aAs]
   refine wN (ds:=[.sl L,.i .i64 i]) (by rfl) hA ?_
   simp[-ζ,-ξ,↓KW,↓aL,↓aF,↓aJ,↓aK,aAr,aAs,tf0,tf1]
   refine wN (ds:=[.sl L,.i .i64 i]) (by rfl) hA ?_
   simp[-ζ,-ξ,↓KW,↓aL,↓aF,↓aJ,↓aK,tf0,tf1,aA,aD,aC,aE,aB]
   refine aH hRm ?_
   simp[-ζ,-ξ,↓KW,↓aL,↓aF,↓aJ,↓aK,aA,aD,aC,aE,aB]
   refine aH hI ?_
   simp[-ζ,-ξ,↓KW,↓aL,↓aF,↓aJ,↓aK,aA,aD,aC,aE,aB]
   refine aH hRa ?_
   simp[-ζ,-ξ,↓KW,↓aL,↓aF,↓aJ,↓aK,aA,aD,aC,aE,aB]
   refine aH hSb ?_
   simp[-ζ,-ξ,↓KW,↓aL,↓aF,↓aJ,↓aK,aA,aD,aC,aE,aB]
   refine aH hMl ?_
   simp[-ζ,-ξ,↓KW,↓aL,↓aF,↓aJ,↓aK,aA,aD,aC,aE,aB]
   refine aH hWt ?_
   simp[-ζ,-ξ,↓KW,↓aL,↓aF,↓aJ,↓aK,aP t,aA,aD,aC,aE,aB]
   refine aH hMt ?_
   simp[-ζ,-ξ,↓KW,↓aL,↓aF,↓aJ,↓aK,aP mt,aA,aD,aC,aE,aB]
   refine aH hAd ?_
   simp[-ζ,-ξ,↓KW,↓aL,↓aF,↓aJ,↓aK,aP a',aA,aD,aC,aE,aB]
   refine aH hWp ?_
   simp[-ζ,-ξ,↓KW,↓aL,↓aF,↓aJ,↓aK,aP p,aA,aD,aC,aE,aB]
   refine aH hMp ?_
   simp[-ζ,-ξ,↓KW,↓aL,↓aF,↓aJ,↓aK,aP m',hw1,aA,aD,aC,aE,aB]
   refine aN (i+1) (by omega) (by show l.length-(i+1)<l.length-i;omega) ?_
   show ∃ ρ,Wk _ (StL _ _ _) ρ
   rw[ha',hm']
   refine wkQ [1,2,3] ?_ ?_<;>simp[-ζ,upd,aT,Γ0]
  ·have hiL:¬i<L.length:=by omega
   obtain⟨g1,g2,g3⟩:=hinv i hi
   have hz:aGz l=if(st i).2<(st i).1+(st i).1 then((st i).1:Int)-((st i).2:Int)else((st i).1:Int):=by
    unfold aGz
    rw[hst,Ax (by omega)]
   rw[hz]
   have hAA:=aXm (x:=(st i).1) (y:=(st i).1) (by omega) (by omega)
   obtain⟨r,hC,hr⟩:=bGb (x:=(st i).1+(st i).1) (y:=(st i).2) (by omega) (by omega)
   have hSb:=bNf (x:=(st i).1) (y:=(st i).2) (by omega) (by omega) (by omega)
   generalize(st i).1=a at *
   generalize(st i).2=m at *
   generalize a+a=aa at *
   simp[-ζ,-ξ,↓KW,↓aL,↓aF,↓aJ,↓aK,hiL]
   refine bE ?_
   simp[-ζ,-ξ,↓KW,↓aL,↓aF,↓aJ,↓aK,aA,aD,aC,aE,aB]
   refine aH hAA ?_
   simp[-ζ,-ξ,↓KW,↓aL,↓aF,↓aJ,↓aK,aP aa,aA,aD,aC,aE,aB]
   refine aH hC ?_
   by_cases h:m<aa
   ·have hr1:=hr.2 h
    rw[Ar h]
    generalize(a:Int)-(m:Int)=z at *
    simp[-ζ,-ξ,↓KW,↓aL,↓aF,↓aJ,↓aK,hr1,aA,aD,aC,aE,aB]
    refine aH hSb ?_
    simp[-ζ,-ξ,↓KW,↓aL,↓aF,↓aJ,↓aK,bF z,aA,aD,aC,aE,aB,eQ]
   ·have hr1:¬0<r:=fun h'=>h (hr.1 h')
    rw[Aj h,dD]
    simp[-ζ,-ξ,↓KW,↓aL,↓aF,↓aJ,↓aK,hr1,aP a,aA,aD,aC,aE,aB,eQ]
def xB(z:Int):List D:=[.b (decide (z<0)),aG (aM z.natAbs)]
def fS(v:List Int):D:=.sl (v.map xB)
def vcs(v:List Int):List D:=(v.map xB).flatten
theorem aEx(l:List Int):(vcs l).length=l.length*2:=by
 unfold vcs
 induction l with
 |nil=>rfl
 |cons x l ih=>simp only[BI,Cv,A9,ih,xB,Ah,As];omega
theorem aWu(l:List (List D))(h:∀ x∈l,x.length=2):chunk 2 l.length l.flatten=l:=by
 induction l with
 |nil=>rfl
 | cons a l ih =>
  have ha:=h a (AH ..)
  have:=ih fun x hx=>h x (AD _ hx)
  unfold chunk at this ⊢
  rw[Ah,Em,BI,DD,Cv]
  congr 1
  ·simp[ha]
  ·conv=>rhs;rw[←this]
   apply CF
   intro i _
   simp only[Function.comp]
   rw[show Nat.succ i*2=a.length+i*2 from by omega,List.drop_append,C8 (by omega)]
   simp
theorem aWt{l:List Int}{n:Nat}(h:l.length=n):chunk 2 n (vcs l)=l.map xB:=by
 subst h
 have:=aWu (l.map xB) (fun x hx=>by obtain⟨y,_,rfl⟩:=AZ.1 hx;rfl)
 rwa [Bm]at this
theorem aEw{l:List Int}{n:Nat}(h:l.length=n):DM (n*2) ((vcs l).map AV.d)=(vcs l).map AV.d:=Ax (by simp[aEx,h])
theorem bEj{H:Hp}{B:Nat}{e:TypeId}{v:List Int}{n:Nat}(m:Nat)(hB:H B=some (.cells e ((vcs v).map .d)))(hv:v.length=n):frz H (m+2) (.own B 0 n 2)=some (fS v):=by
 have hl:=aEx v
 rw[hv]at hl
 rw[aGl,hB]
 simp only[AB,Bm,hl,Fb,FW]
 rw[aEw hv,Ar ⟨AE _,by decide⟩]
 have:List.mapM (frz H (m+1)) ((vcs v).map AV.d)=some (vcs v):=aGf H m (vcs v)
 rw[this,AW,aWt hv];rfl
theorem sR(z:Int)(v:List Int):vcs (z::v)=xB z++vcs v:=by simp[vcs]
theorem aQm:∀{v:List Int} {k:Nat} (z:Int),k<v.length→(vcs v).take (k*2)++xB z++(vcs v).drop (k*2+2)=vcs (v.set k z)
 |[],k,z,h=>by simp at h
 | y::v,0,z,h=>by
  rw[List.set_cons_zero,sR,sR];rfl
 | y::v,k+1,z,h=>by
  have ih:=aQm (v:=v) (k:=k) z (by simpa using h)
  rw[List.set_cons_succ,sR,sR,←ih,show(k+1)*2=2+k*2 by omega,show 2+k*2+2=2+(k*2+2)by omega]
  have e1:∀ n,DM (2+n) (xB y++vcs v)=xB y++DM n (vcs v):=fun n=>by rw[List.take_append,Ax (by show 2≤2+n;omega)];congr 2;show 2+n-2=n;omega
  have e2:∀ n,List.drop (2+n) (xB y++vcs v)=List.drop n (vcs v):=fun n=>by rw[←List.drop_drop];rfl
  rw[e1,e2];simp
theorem mapM_some{α β:Type}(f:α→Option β)(g:Nat→β):∀(l:List α),(∀ k x,l[k]? = some x→f x=some (g k))→l.mapM f=some ((AK l.length).map g)
 |[],_=>rfl
 | x::l,h=>by
  rw[List.mapM_cons,h 0 x rfl,mapM_some f (fun k=>g (k+1)) l fun k y hy=>h (k+1) y (by simpa using hy),Ah,Em]
  simp[Function.comp_def]
def zr(cols:Nat):List AV:=(Aw cols [AV.d (.b false),AV.nil]).flatten
theorem bId{H H':Hp}{ρ:Nat→Nat}(cols:Nat):fG H H' ρ (zr cols) (zr cols):=by
 refine gE.2 ⟨rfl,fun k c d h1 h2=>?_⟩
 rw[h1]at h2;injection h2 with h2;subst h2
 have hm:=Ao h1
 unfold zr at hm
 rw[List.mem_flatten]at hm
 obtain⟨l,hl,hc⟩:=hm
 rw[List.eq_of_mem_replicate hl]at hc
 rcases BB.1 hc with rfl|hc
 ·exact(oS _ _).2 rfl
 ·rw[Cb.1 hc];trivial
theorem aXx{H H':Hp}{ρ:Nat→Nat}:∀ c:Nat,fG H H' ρ (zr c) ((vcs (Aw c 0)).map .d)
 |0=>trivial
 | c+1=>by
  have ih:=aXx (H:=H) (H':=H') (ρ:=ρ) c
  have e1:zr (c+1)=AV.d (.b false)::AV.nil::zr c:=by simp[zr,Db]
  have e2:(vcs (Aw (c+1) 0)).map AV.d=AV.d (.b (decide ((0:Int)<0)))::AV.d (aG (aM (0:Int).natAbs))::(vcs (Aw c 0)).map AV.d:=by
   rw[Db];rfl
  rw[e1,e2]
  refine⟨?_,?_,ih⟩
  ·exact(oS _ _).2 rfl
  ·exact⟨by rw[show((0:Int).natAbs)=0 from rfl,cA];rfl,fun a ha=>by simp[vis]at ha⟩
def nwV(rows cols m:Nat):AV:=.ag [.d (.i .i64 (rows:Int)),.d (.i .i64 (cols:Int)),.own m 0 rows 1]
def hdr(c n b:Nat):List AV:=(AK n).map fun j=>AV.own (j+b) 0 c 2
def aIp(v:List Int):HO:=.cells 31 ((vcs v).map .d)
def mB(c:Nat)(M:List (List Int))(m:Nat):List HO:=.cells 110 (hdr c M.length (m+1))::M.map aIp
theorem kG(c n b:Nat):(hdr c n b).length=n:=by simp[hdr]
theorem xZ{c n b i:Nat}(h:i<n):(hdr c n b)[i]? = some (.own (i+b) 0 c 2):=by
 unfold hdr;rw[Ai,BF h];rfl
theorem bEc(c n b:Nat):hdr c (n+1) b=hdr c n b++[.own (n+b) 0 c 2]:=by simp[hdr,List.range_succ]
theorem nH(c:Nat)(M:List (List Int))(m:Nat):(mB c M m).length=M.length+1:=by simp[mB]
def nwH(cols i:Nat):Hp:=fun id =>
 if id=1 then some (.cells 61 [.d (.i .i64 0),.d (.i .i64 0),.nil])else if id=2 then some (.cells 110 (hdr cols i 3))else if 3≤id∧id<i+3 then some (.cells 31 (zr cols))else none
set_option maxHeartbeats 8000000 in
set_option maxRecDepth 10000 in
theorem aFo[M:Mch Aa](rows cols:Nat)(hr:rows≤1000)(hc:cols≤1000):wQ Aa 38 [.i .i64 (rows:Int),.i .i64 (cols:Int)] (nwV rows cols) (mB cols (Aw rows (Aw cols 0))):=by
 refine bCl (N:=22) aW Tryz.func38 rfl rfl rfl (by decide) (by kernel_rfl) (by kernel_rfl) (by simp) rfl ?_
 have m1:¬(rows:Int)<0:=by omega
 have m2:¬(cols:Int)<0:=by omega
 have hm3:32*(cols:Int)≤281474976710656:=by omega
 have hm4:(cols:Int)≤9223372036854775807:=by omega
 simp[-ζ,-ξ,↓KW,m1,m2,bU]
 refine cL (fun i:Nat=>i≤rows) (fun i=>⟨kB [(0,.d (.i .i64 (rows:Int))),(1,.d (.i .i64 (cols:Int))),(4,.ptr 1 0),(5,.own 2 0 i 1),(6,.d (.i .i64 (i:Int)))],nwH cols i,i+3⟩) (fun i=>rows-i) 0 (A8 _) ?_ ?_
 ·refine⟨_,aCk ?_ (fun id o' ho=>?_) (fun id hid=>?_) (by simp)⟩
  ·simp[-ζ,upd,aT,Γ0,nwH]
  ·simp only[nwH]at ho
   split at ho
   ·rename_i e;subst e
    injection ho with ho;subst ho
    exact⟨_,rfl,by simp[-ζ,upd,aT,Γ0]⟩
   ·split at ho
    ·rename_i e;subst e
     injection ho with ho;subst ho
     exact⟨_,rfl,fW.2 ⟨rfl,trivial⟩⟩
    ·rw[Aj (by omega)]at ho;cases ho
  ·simp only[nwH]
   rw[Aj (by omega),Aj (by omega),Aj (by omega)]
 ·intro i hi
  have hH1:nwH cols i 1=some (.cells 61 [.d (.i .i64 0),.d (.i .i64 0),.nil]):=rfl
  have hH2:nwH cols i 2=some (.cells 110 (hdr cols i 3)):=rfl
  have hlen:(hdr cols i 3).length=i:=kG ..
  by_cases hgo:i<rows
  ·have q1:(i:Int)<rows:=by omega
   have hw:Ag.wrap ((i:Int)+1)=(i:Int)+1:=aV
   generalize hHg:nwH cols i=H at *
   generalize hcl:hdr cols i 3=cells at *
   have hb:(i+1)*24≤140737488355328:=by omega
   have hb2:i+1≤maxLen:=bU (by omega)
   simp[-ζ,-ξ,↓KW,q1,hgo,hw,hm3,hm4,hH1,hH2,hlen,m1,m2,hb,hb2]
   have hn1:(nwH cols (i+1) 1).isSome=true:=rfl
   have hn2:(nwH cols (i+1) 2).isSome=true:=rfl
   have hnj:∀ j,j<i+1→(nwH cols (i+1) (j+3)).isSome=true:=fun j hj=>by
    unfold nwH;rw[Aj (by omega),Aj (by omega),Ar (by omega)];rfl
   refine aN (i+1) hgo (slQ hgo) ⟨_,bRq (fun id=>if id=2 then i+5 else id) ?_ (fun id o' ho=>?_) (fun id id' h1 h2 e=>?_) (fun _=>rfl) (fun id hid=>?_) (by simp)⟩
   ·simp[-ζ,upd,aT,Γ0,hn1,hn2]
   ·simp only[nwH]at ho
    split at ho
    ·rename_i e;subst e
     injection ho with ho;subst ho
     refine⟨.cells 61 [.d (.i .i64 0),.d (.i .i64 0),.nil],?_,by simp[-ζ,upd,aT,Γ0]⟩
     rw[Aj (by omega)]
     simp only
     rw[Aj (by omega),Aj (by omega),Aj (by omega),Aj (by omega),hH1]
     rfl
    ·split at ho
     ·rename_i e;subst e
      injection ho with ho;subst ho
      refine⟨.cells 110 (hdr cols (i+1) 3),?_,fW.2 ⟨rfl,gE.2 ⟨rfl,fun k x y h1 h2=>?_⟩⟩⟩
      ·show Option.map (gT [2]) (if i+5=i+3+1+1 then some (HO.cells 110 (cells++[AV.own (i+3) 0 cols 2]))else _)=_
       rw[Ar (by omega),bEc,hcl]
       simp only[AW,gT,Ex,BI,List.map_nil]
       have e1:cells.map (eH [2])=cells:=by
        rw[←hcl]
        unfold hdr
        rw[DD]
        apply CF
        intro j hj
        simp[eH]
       rw[e1]
       simp[eH]
      ·rw[h1]at h2;injection h2 with h2;subst h2
       have hk:k<i+1:=by have:=(Aq.1 h1).1;rwa [kG]at this
       rw[xZ hk]at h1;injection h1 with h1;subst h1
       exact⟨by simp only;rw[Aj (by omega)],rfl,rfl,rfl,hnj k hk⟩
     ·split at ho
      ·rename_i e2 e3
       injection ho with ho;subst ho
       refine⟨.cells 31 (zr cols),?_,fW.2 ⟨rfl,bId cols⟩⟩
       rw[Aj e2]
       simp only
       rw[Aj (by omega),Aj e2,Aj (by omega)]
       have ez:Option.map (gT [2]) (some (HO.cells 31 (zr cols)))=some (.cells 31 (zr cols)):=by
        simp only[AW,gT]
        congr 2
        unfold zr
        rw[List.map_flatten,FX];rfl
       by_cases e4:id=i+3
       ·rw[Ar e4];exact ez
       ·rw[Aj e4,←hHg]
        unfold nwH
        rw[Aj (by omega),Aj (by omega),Ar (by omega)]
        exact ez
      ·cases ho
   ·have k1:∀ id,(nwH cols (i+1) id).isSome=true→1≤id∧id<i+4:=fun id h=>by
     unfold nwH at h
     split at h
     ·omega
     ·split at h
      ·omega
      ·split at h
       ·omega
       ·cases h
    have b1:=k1 id h1
    have b2:=k1 id' h2
    have e':(if id=2 then i+5 else id)=(if id'=2 then i+5 else id'):=e
    split at e'<;>split at e'<;>omega
   ·simp only[nwH]
    rw[Aj (by omega),Aj (by omega),Aj (by omega)]
  ·have q1:¬(i:Int)<rows:=by omega
   have e:i=rows:=by omega
   subst e
   generalize hHg:nwH cols i=H at *
   simp[-ζ,-ξ,↓KW,q1,hH1,hH2]
   intro m hm0
   have hML:(mB cols (Aw i (Aw cols (0:Int))) m).length=i+1:=by simp[nH]
   have hin:∀ id,m≤id→id<m+(i+1)→(tC (nwV i cols) (mB cols (Aw i (Aw cols 0))) m).H id=(mB cols (Aw i (Aw cols 0)) m)[id-m]? := fun id h1 h2=>by
    simp only[tC,iZ]
    rw[Ar ⟨h1,by rw[hML];exact h2⟩]
   have hout:∀ id,¬(m≤id∧id<m+(i+1))→(tC (nwV i cols) (mB cols (Aw i (Aw cols 0))) m).H id=none:=fun id h=>by
    simp only[tC,iZ]
    rw[Aj (by rw[hML];exact h)]
   have hsome:∀ id,((tC (nwV i cols) (mB cols (Aw i (Aw cols 0))) m).H id).isSome=true→m≤id∧id<m+(i+1):=fun id h=>by
    by_cases hr:m≤id∧id<m+(i+1)
    ·exact hr
    ·rw[hout id hr]at h;cases h
   have hS0:((tC (nwV i cols) (mB cols (Aw i (Aw cols 0))) m).H m).isSome=true:=by
    rw[hin m (AE _) (by omega),Eo];rfl
   have hSj:∀ j,j<i→(tC (nwV i cols) (mB cols (Aw i (Aw cols 0))) m).H (j+(m+1))=some (aIp (Aw cols 0)):=fun j hj=>by
    rw[hin _ (by omega) (by omega),show j+(m+1)-m=j+1 by omega]
    simp only[mB,B7,FX,Dr,Ar hj]
   refine⟨fun id=>id-m+2,fun id hid=>hout id (by simp only[tC]at hid;rw[hML]at hid;omega),fun t=>?_,fun id o' ho=>?_,fun id id' h1 h2 e=>?_,fun h=>?_,fun h=>?_⟩
   ·show Sub _ _ _ _ (upd (fun _=>.any) 0 (nwV i cols m) t)
    by_cases e:t=0
    ·subst e
     simp only[upd_same,nwV]
     refine⟨rfl,fun k c d h1 h2=>?_⟩
     rcases k with _|_|_|k
     ·simp at h1 h2;subst h1;subst h2;exact(oS _ _).2 rfl
     ·simp at h1 h2;subst h1;subst h2;exact(oS _ _).2 rfl
     ·simp at h1 h2;subst h1;subst h2
      exact⟨by simp,rfl,rfl,rfl,hS0⟩
     ·simp at h1
    ·rw[upd_ne _ _ e];exact xM _
   ·have hr:=hsome id (by rw[ho];rfl)
    rw[hin id hr.1 hr.2]at ho
    simp only
    obtain⟨j,rfl⟩:∃ j,id=m+j:=⟨id-m,by omega⟩
    rw[show m+j-m=j by omega]at ho ⊢
    rcases j with _|j
    ·simp only[mB,Ch,Fp]at ho
     injection ho with ho;subst ho
     refine⟨.cells 110 (hdr cols i 3),by simp only[upd];rw[Aj (by omega)];exact hH2,fW.2 ⟨rfl,gE.2 ⟨by rw[kG,kG],fun k c d h1 h2=>?_⟩⟩⟩
     have hlt:k<i:=by have:=(Aq.1 h1).1;rwa [kG]at this
     rw[xZ hlt]at h1 h2
     injection h1 with h1;injection h2 with h2;subst h1;subst h2
     exact⟨by show k+3=k+(m+1)-m+2;omega,rfl,rfl,rfl,by rw[hSj k hlt];rfl⟩
    ·have hlt:j<i:=by omega
     simp only[mB,B7,FX,Dr,Ar hlt]at ho
     injection ho with ho;subst ho
     refine⟨.cells 31 (zr cols),?_,fW.2 ⟨rfl,aXx cols⟩⟩
     simp only[upd]
     rw[Aj (by omega),←hHg]
     unfold nwH
     rw[Aj (by omega),Aj (by omega),Ar (by omega)]
   ·have q1':=hsome id h1
    have q2':=hsome id' h2
    have e':id-m+2=id'-m+2:=e
    omega
   ·have:=hsome 0 h;omega
   ·simp only[tC]at h;omega
theorem fJ[M:Mch Aa]{f:FuncId}{args:List D}{r:D}(h:(jW Aa EP 100 20).call f args=some r):Spec Aa f args r:=(oY (fuel:=100) aW aSt 20).call _ _ _ h
def mA:D:=.ag [.i .i64 1,.i .i64 1,.sl [[.sl [[.b true,.sl [[.i .u32 1]]]]]]]
theorem aGs(H:Hp)(n:Nat)(a b:HO):iZ H n [a,b]=upd (upd H n (some a)) (n+1) (some b):=by
 funext id
 unfold iZ upd
 by_cases h1:id=n+1
 ·subst h1;simp
 ·by_cases h2:id=n
  ·subst h2;simp
  ·simp only[h1,h2,if_false,Ah,As]
   rw[Aj (by omega)]
set_option maxHeartbeats 4000000 in
set_option maxRecDepth 10000 in
theorem bXj[M:Mch Aa]:Spec Aa 37 [.i .i64 1,.i .i64 1,.sl [[.i .i64 (-1)]]] mA:=by
 refine bI (N:=50) Tryz.func37 ?_
 have hN:wQ Aa 38 [.i .i64 1,.i .i64 1] (nwV 1 1) (mB 1 [[0]]):=aFo 1 1 (by decide) (by decide)
 have hmB:mB 1 [[0]] 2=[.cells 110 [.own 3 0 1 2],.cells 31 [.d (.b (decide ((0:Int)<0))),.d (aG (aM (0:Int).natAbs))]]:=rfl
 have hO:Spec Aa 11 [.i .i64 (-1)] (.ag [.b true,.sl [[.i .u32 1]]]):=fJ (by kernel_rfl)
 simp[-ζ,-ξ,↓KW]
 refine tE [.i .i64 1,.i .i64 1] (nwV 1 1) (mB 1 [[0]]) (by simp) (by simp) (by simp) (by rfl) (by rfl) hN ?_
 simp[-ζ,-ξ,↓KW,nwV,hmB,aGs]
 have hz0:Ag.wrap 0=0:=by decide
 have hz1:Ag.wrap 1=1:=by decide
 refine fI 2 ?_
 simp[-ζ,-ξ,↓KW,↓aL,↓aF,↓aJ,↓aK,hz0,hz1]
 refine fI 2 ?_
 simp[-ζ,-ξ,↓KW,↓aL,↓aF,↓aJ,↓aK,hz0,hz1]
 refine aH hO ?_
 simp[-ζ,-ξ,↓KW,↓aL,↓aF,↓aJ,↓aK,hz0,hz1]
 rfl
theorem gJ {P:Program} [M:Mch P] {f N:Nat} {fn:Func} {c:Code} {h:AV} {o o':HO} {args:List D} (hm:P.follows .mixedOrders=true) (hf:P.funcs[f]? = some fn) (hb:fn.body=some c) (hname:(fn.name == "runtime.NumGoroutine")=false) (hN:fn.ntmps=N)
  (hd:bT N c=true) (hl:bV P c=true) (ha:args.length+1≤N) (hno':lB o'=true)
  (hA:AWP P c (St1 h o args N) fun e σ=>(e=.normal∨e=.ret)∧iX P fn.results.toList σ=some (.tp [])∧σ.H 0=some o'):jX P f h o args o' (.tp []) :=
 wC hf hb hname hN ha hno' fun G a w hZ hs=>cJ hm hZ c _ _ a w hd hl hA hs
theorem jM{P:Program}(σ:St):iX P [] σ=some (.tp []):=rfl
theorem aBq{σ:St}{sl:List (Nat×AV)}{e:TypeId}{dl:List D}(hslot:kC σ.H (StL sl (some (.cells e (dl.map .d))) []).H (wY []) σ.Γ sl)(h0:σ.H 0=some (.cells e (dl.map .d))):∃ ρ,Wk σ (StL sl (some (.cells e (dl.map .d))) []) ρ :=
 ⟨_,aQi [] (by simp) hslot (fun o' h=>⟨_,h0,by injection h with h;subst h;exact aCr ..⟩) (by simp)⟩
def rA(k:Nat):Int:=((k+1:Nat):Int)
def pP:Nat→List Int→List Int
 |0,l=>l
 |j+1,l=>if l[j+1]! < l[j]! then pP j ((l.set (j+1) l[j]!).set j l[j+1]!)else l
def jO(l:List Int):Nat→List Int
 |0=>l
 |k+1=>pP (k+1) (jO l k)
def dV(l:List Int):List Int:=jO l (l.length-1)
theorem aLk:∀(j:Nat) (l:List Int),(pP j l).length=l.length
 |0,l=>rfl
 | j+1,l=>by
  unfold pP
  split
  ·rw[aLk];simp
  ·rfl
theorem eD(l:List Int):∀ k,(jO l k).length=l.length
 |0=>rfl
 |k+1=>by unfold jO;rw[aLk,eD l k]
theorem aTp{l:List Int}{i j:Nat}(hi:i<l.length)(hj:j<l.length):((l.set i l[j]!).set j l[i]!).Perm l:=by
 rw[B8 l i hi,B8 l j hj]
 exact List.set_set_perm hi hj
theorem aEd:∀(j:Nat) (l:List Int),j<l.length→(pP j l).Perm l
 |0,l,_=>.refl _
 | j+1,l,h=>by
  unfold pP
  split
  ·refine(aEd j _ (by simp;omega)).trans (aTp h (by omega))
  ·exact .refl _
theorem aDr(l:List Int):∀ k,k<l.length∨k=0→(jO l k).Perm l
 |0,_=>.refl _
 | k+1,h=>by
  unfold jO
  exact(aEd (k+1) _ (by rw[eD];omega)).trans (aDr l k (by omega))
theorem aCt(l:List Int):(dV l).Perm l:=aDr l _ (by omega)
def dzU(l:List Int):List D:=l.map fun n=>.i .u64 n
theorem lP(l:List Int):(dzU l).length=l.length:=by simp[dzU]
theorem bFh{l:List Int}{i:Nat}(h:i<l.length):(dzU l)[i]? = some (.i .u64 l[i]!):=by
 unfold dzU;rw[Ai,Ab h,B8 l i h];rfl
theorem aGv(l:List Int)(i:Nat)(x:Int):(dzU l).set i (.i .u64 x)=dzU (l.set i x):=by simp[dzU]
theorem nC(e:TypeId)(l:List Int):lB (.cells e ((dzU l).map .d))=true:=by
 simp only[lB,A4]
 intro x hx
 obtain⟨d,hd,rfl⟩:=AZ.1 hx
 obtain⟨n,_,rfl⟩:=AZ.1 hd
 rfl
theorem bXc[M:Mch Aa](x y:Int):Spec Aa 142 [.i .u64 x,.i .u64 y] (.b (decide (x<y))):=by
 have hN:∀ z:Int,Spec Aa 184 [.i .u64 z] (.b false):=fun z=>by
  refine bI (N:=6) Tryz.func184 ?_
  simp[-ζ,-ξ,↓KW]
 refine bI (N:=17) Tryz.func142 ?_
 simp[-ζ,-ξ,↓KW]
 refine aH (hN x) ?_
 simp[-ζ,-ξ,↓KW]
set_option maxHeartbeats 8000000 in
set_option maxRecDepth 10000 in
theorem bZq[M:Mch Aa](l:List Int)(hl:l.length≤1000):jX Aa 136 (.own 0 0 l.length 1) (.cells 51 ((dzU l).map .d)) [.i .i64 0,.i .i64 l.length] (.cells 51 ((dzU (dV l)).map .d)) (.tp []):=by
 refine gJ (N:=49) aW Tryz.func136 rfl rfl rfl (by kernel_rfl) (by kernel_rfl) (by simp) (nC _ _) ?_
 have hw1:Ag.wrap 1=1:=by decide
 by_cases h0:l.length=0
 ·have hl0:l=[]:=BS h0
  subst hl0
  simp[-ζ,-ξ,↓KW,St1,hw1]
  refine fI 1 ?_
  simp[-ζ,-ξ,↓KW,↓aL,↓aF,↓aJ,↓aK,show dV []=[]from rfl,jM]
 replace h0:0<l.length:=by omega
 simp[-ζ,-ξ,↓KW,St1,hw1]
 refine bL (τ:=Nat) (fun k=>k+1≤l.length) (fun k=>StL [(0,.own 0 0 l.length 1),(1,.d (.i .i64 0)),(2,.d (.i .i64 l.length)),(6,.d (.i .i64 (rA k)))] (some (.cells 51 ((dzU (jO l k)).map .d))) []) (fun k=>l.length-k) 0 (by omega) ?_ ?_
 ·refine aBq ?_ rfl
  simp[-ζ,upd,aT,Γ0,rA,jO]
 ·intro k hk
  have hkl:=eD l k
  by_cases hlt:k+1<l.length
  ·have hR:jO l (k+1)=pP (k+1) (jO l k):=rfl
   obtain⟨R,hRR⟩:∃ R,jO l (k+1)=R:=⟨_,rfl⟩
   rw[hRR]at hR
   obtain⟨i,hi⟩:∃ i,k+1=i:=⟨_,rfl⟩
   rw[hi]at hR hlt
   have hs:rA k=(i:Int):=by unfold rA;omega
   have hs1:Ag.wrap ((i:Int)+1)=rA (k+1):=by unfold rA;rw[show(i:Int)+1=((k+1+1:Nat):Int)from by omega];exact aV
   rw[hs]
   generalize jO l k=T0 at *
   generalize l.length=n at *
   simp[-ζ,-ξ,↓KW,hlt]
   refine bL (τ:=Nat×List Int) (fun x=>x.1≤i∧x.2.length=n∧pP x.1 x.2=R) (fun x=>StL [(0,.own 0 0 n 1),(1,.d (.i .i64 0)),(2,.d (.i .i64 n)),(6,.d (.i .i64 i)),(7,.d (.i .i64 (x.1:Nat)))] (some (.cells 51 ((dzU x.2).map .d))) []) (fun x=>x.1) (i,T0) ⟨AE _,hkl,hR.symm⟩ ?_ ?_
   ·refine aBq ?_ rfl
    simp[-ζ,upd,aT,Γ0]
   ·rintro⟨j,T⟩ ⟨h1,h2,h3⟩
    simp only at h1 h2 h3 ⊢
    cases j with
    | zero =>
     have h3':T=R:=h3
     subst h3'
     simp[-ζ,-ξ,↓KW]
     refine bE ?_
     simp[-ζ,-ξ,↓KW,hs1]
     refine aN (k+1) (by omega) (by show n-(k+1)<n-k;omega) ?_
     show ∃ ρ,Wk _ (StL _ _ _) ρ
     rw[hRR]
     refine aBq ?_ rfl
     simp[-ζ,upd,aT,Γ0]
    | succ j =>
     have hL:=bXc T[j+1]! T[j]!
     have ha:=bFh (l:=T) (i:=j+1) (by omega)
     have hb:=bFh (l:=T) (i:=j) (by omega)
     have ha':∀ h,(dzU T)[j+1]'h=.i .u64 T[j+1]! := fun h=>by rw[Ab h]at ha;injection ha
     have hb':∀ h,(dzU T)[j]'h=.i .u64 T[j]! := fun h=>by rw[Ab h]at hb;injection hb
     have hdl:=lP T
     have hjn:j+1<n:=by omega
     have hjn':j<n:=by omega
     have hw0:Ag.wrap (j:Int)=j:=aV
     have hset:((dzU T).set (j+1) (.i .u64 T[j]!)).set j (.i .u64 T[j+1]!)=dzU ((T.set (j+1) T[j]!).set j T[j+1]!):=by rw[aGv,aGv]
     have hbub:pP (j+1) T=if T[j+1]! < T[j]! then pP j ((T.set (j+1) T[j]!).set j T[j+1]!)else T:=rfl
     have hTl:((T.set (j+1) T[j]!).set j T[j+1]!).length=n:=by simp[h2]
     rw[hbub]at h3
     generalize(T.set (j+1) T[j]!).set j T[j+1]! = T2 at *
     have hwJ:Ag.wrap (((j+1:Nat):Int)-1)=j:=by rw[show((j+1:Nat):Int)-1=(j:Int)from by omega];exact hw0
     have hwJ0:Ag.wrap ((j+1:Nat):Int)=((j+1:Nat):Int):=aV
     have hJ0:0<j+1:=by omega
     have hJj:¬j+1=j:=by omega
     generalize T[j+1]! = x at *
     generalize T[j]! = y at *
     obtain⟨DT,hDT⟩:∃ DT,dzU T=DT:=⟨_,rfl⟩
     rw[hDT]at ha hb ha' hb' hdl hset ⊢
     obtain⟨J,hJ⟩:∃ J,j+1=J:=⟨_,rfl⟩
     have hJlt:j<J:=by omega
     simp only[hJ]at *
     have hJ1:J+1≤n:=by omega
     have hJ2:j+1≤n:=by omega
     have hJ3:J≤n:=by omega
     have e1:lay (DT.map AV.d) J [.d (.i .u64 y)]=(DT.set J (.i .u64 y)).map .d:=fR _ _ _ (by omega)
     have e2:lay ((DT.set J (.i .u64 y)).map AV.d) j [.d (.i .u64 x)]=(dzU T2).map .d:=by rw[fR _ _ _ (by rw[Dh];omega),hset]
     have e3:lay ((DT.map AV.d).set J (.d (.i .u64 y))) j [.d (.i .u64 x)]=(dzU T2).map .d:=by rw[←e2,List.map_set]
     by_cases hxy:x<y
     ·rw[Ar hxy]at h3
      rw[BU hxy]at hL
      simp[-ζ,-ξ,↓KW,ha,ha',hb,hb',hw0,hwJ,hwJ0,hJ0,hdl,h2,hjn,hjn']
      refine aH hL ?_
      simp[-ζ,-ξ,↓KW,ha,ha',hb,hb',hw0,hwJ,hwJ0,hJ0,hdl,h2,hjn,hjn',hJ1,hJ2,hJ3,e1,e2,e3]
      refine aN (j,T2) ⟨by omega,hTl,h3⟩ (by show j<j+1;omega) ?_
      show ∃ ρ,Wk _ (StL _ _ _) ρ
      refine aBq ?_ ?_<;>simp[-ζ,upd,aT,Γ0,e3]
     ·rw[Aj hxy]at h3
      rw[Bn hxy]at hL
      simp[-ζ,-ξ,↓KW,ha,ha',hb,hb',hw0,hwJ,hwJ0,hJ0,hdl,h2,hjn,hjn']
      refine aH hL ?_
      simp[-ζ,-ξ,↓KW,ha,ha',hb,hb',hw0,hwJ,hwJ0,hJ0,hdl,h2,hjn,hjn']
      subst h3
      refine bE ?_
      simp[-ζ,-ξ,↓KW,hs1]
      refine aN (k+1) (by omega) (by show n-(k+1)<n-k;omega) ?_
      show ∃ ρ,Wk _ (StL _ _ _) ρ
      rw[hRR]
      refine aBq ?_ ?_<;>simp[-ζ,upd,aT,Γ0,hDT]
  ·have hk1:k+1=l.length:=by omega
   have hsr:dV l=jO l k:=by unfold dV;rw[show l.length-1=k from by omega]
   rw[hsr]
   have hs:rA k=(l.length:Int):=by unfold rA;omega
   rw[hs]
   simp[-ζ,-ξ,↓KW]
   exact bE (by simp[-ζ,-ξ,↓KW,jM])
set_option maxRecDepth 10000 in
theorem bZe[M:Mch Aa](l:List Int)(r:Int)(hl:l.length≤12):jX Aa 80 (.own 0 0 l.length 1) (.cells 51 ((dzU l).map .d)) [.i .i64 0,.i .i64 l.length,.i .i64 r] (.cells 51 ((dzU (dV l)).map .d)) (.tp []):=by
 have hI:=bZq l (by omega)
 have hlen:(dzU (dV l)).length=(dzU l).length:=by rw[lP,lP];exact eD l _
 have hno1:=nC 51 l
 have hno2:=nC 51 (dV l)
 have hw0:Ag.wrap (l.length:Int)=l.length:=aV
 have hle:(l.length:Int)≤12:=by omega
 refine gJ (N:=134) aW Tryz.func80 rfl rfl rfl (by kernel_rfl) (by kernel_rfl) (by simp) hno2 ?_
 generalize dV l=T at *
 generalize l.length=n at *
 generalize dzU T=DT at *
 generalize dzU l=DL at *
 simp[-ζ,-ξ,↓KW,St1]
 refine fI 1 ?_
 simp[-ζ,-ξ,↓KW,↓aL,↓aF,↓aJ,↓aK,hw0,hl,hle]
 refine mJ (by simp) ?_
 refine iM (id:=0) (h:=.own 0 0 n 1) (by rfl) hno1 (by rfl) (by rfl) hI (by simp[HO.len,hlen]) hno2 ?_
 simp[-ζ,-ξ,↓KW,jM]
theorem bXt[M:Mch Aa](n:Nat)(hn:n≤12):∃ r,Spec Aa 81 [.i .u64 n] (.i .i64 r):=by
 have h:((AK 13).all fun n=>match(jW Aa EP 100 20).call 81 [.i .u64 (n:Nat)]with|some (.i .i64 r)=>true|_=>false)=true:=by kernel_rfl
 have:=A4.1 h n (CK.2 (by omega))
 split at this
 ·rename_i r hr;exact⟨r,fJ hr⟩
 ·cases this
set_option maxRecDepth 10000 in
theorem bWe[M:Mch Aa](l:List Int)(hl:l.length≤12):jX Aa 43 (.own 0 0 l.length 1) (.cells 51 ((dzU l).map .d)) [] (.cells 51 ((dzU (dV l)).map .d)) (.tp []):=by
 obtain⟨r,hB⟩:=bXt l.length hl
 have hI:=bZe l r hl
 have hlen:(dzU (dV l)).length=(dzU l).length:=by rw[lP,lP];exact eD l _
 have hno1:=nC 51 l
 have hno2:=nC 51 (dV l)
 have hw0:Az.wrap (l.length:Int)=l.length:=wrap_u64 (by omega) (by omega)
 refine gJ (N:=11) aW Tryz.func43 rfl rfl rfl (by kernel_rfl) (by kernel_rfl) (by simp) hno2 ?_
 generalize dV l=T at *
 generalize l.length=n at *
 generalize dzU T=DT at *
 generalize dzU l=DL at *
 simp[-ζ,-ξ,↓KW,St1,hw0]
 refine aH hB ?_
 simp[-ζ,-ξ,↓KW,St1,hw0]
 refine mJ (by simp) ?_
 refine iM (id:=0) (h:=.own 0 0 n 1) (by rfl) hno1 (by rfl) (by rfl) hI (by simp[HO.len,hlen]) hno2 ?_
 simp[-ζ,-ξ,↓KW,jM]
def dzI(l:List Int):List D:=l.map fun n=>.i .i64 n
def ezI(l:List Int):D:=.sl (l.map fun n=>[.i .i64 n])
theorem jK(l:List Int):(dzI l).length=l.length:=by simp[dzI]
theorem bFj{l:List Int}{i:Nat}(h:i<l.length):(dzI l)[i]? = some (.i .i64 l[i]!):=by
 unfold dzI;rw[Ai,Ab h,B8 l i h];rfl
theorem aSh(l:List Int)(i:Nat)(x:Int):(dzI l).set i (.i .i64 x)=dzI (l.set i x):=by simp[dzI]
theorem nD(e:TypeId)(l:List Int):lB (.cells e ((dzI l).map .d))=true:=by
 simp only[lB,A4]
 intro x hx
 obtain⟨d,hd,rfl⟩:=AZ.1 hx
 obtain⟨n,_,rfl⟩:=AZ.1 hd
 rfl
theorem bXd[M:Mch Aa](x y:Int):Spec Aa 159 [.i .i64 x,.i .i64 y] (.b (decide (x<y))):=by
 have hN:∀ z:Int,Spec Aa 151 [.i .i64 z] (.b false):=fun z=>by
  refine bI (N:=6) Tryz.func151 ?_
  simp[-ζ,-ξ,↓KW]
 refine bI (N:=17) Tryz.func159 ?_
 simp[-ζ,-ξ,↓KW]
 refine aH (hN x) ?_
 simp[-ζ,-ξ,↓KW]
set_option maxHeartbeats 8000000 in
set_option maxRecDepth 10000 in
theorem bZr[M:Mch Aa](l:List Int)(hl:l.length≤1000):jX Aa 153 (.own 0 0 l.length 1) (.cells 3 ((dzI l).map .d)) [.i .i64 0,.i .i64 l.length] (.cells 3 ((dzI (dV l)).map .d)) (.tp []):=by
 refine gJ (N:=49) aW Tryz.func153 rfl rfl rfl (by kernel_rfl) (by kernel_rfl) (by simp) (nD _ _) ?_
 have hw1:Ag.wrap 1=1:=by decide
 by_cases h0:l.length=0
 ·have hl0:l=[]:=BS h0
  subst hl0
  simp[-ζ,-ξ,↓KW,St1,hw1]
  refine fI 1 ?_
  simp[-ζ,-ξ,↓KW,↓aL,↓aF,↓aJ,↓aK,show dV []=[]from rfl,jM]
 replace h0:0<l.length:=by omega
 simp[-ζ,-ξ,↓KW,St1,hw1]
 refine bL (τ:=Nat) (fun k=>k+1≤l.length) (fun k=>StL [(0,.own 0 0 l.length 1),(1,.d (.i .i64 0)),(2,.d (.i .i64 l.length)),(6,.d (.i .i64 (rA k)))] (some (.cells 3 ((dzI (jO l k)).map .d))) []) (fun k=>l.length-k) 0 (by omega) ?_ ?_
 ·refine aBq ?_ rfl
  simp[-ζ,upd,aT,Γ0,rA,jO]
 ·intro k hk
  have hkl:=eD l k
  by_cases hlt:k+1<l.length
  ·have hR:jO l (k+1)=pP (k+1) (jO l k):=rfl
   obtain⟨R,hRR⟩:∃ R,jO l (k+1)=R:=⟨_,rfl⟩
   rw[hRR]at hR
   obtain⟨i,hi⟩:∃ i,k+1=i:=⟨_,rfl⟩
   rw[hi]at hR hlt
   have hs:rA k=(i:Int):=by unfold rA;omega
   have hs1:Ag.wrap ((i:Int)+1)=rA (k+1):=by unfold rA;rw[show(i:Int)+1=((k+1+1:Nat):Int)from by omega];exact aV
   rw[hs]
   generalize jO l k=T0 at *
   generalize l.length=n at *
   simp[-ζ,-ξ,↓KW,hlt]
   refine bL (τ:=Nat×List Int) (fun x=>x.1≤i∧x.2.length=n∧pP x.1 x.2=R) (fun x=>StL [(0,.own 0 0 n 1),(1,.d (.i .i64 0)),(2,.d (.i .i64 n)),(6,.d (.i .i64 i)),(7,.d (.i .i64 (x.1:Nat)))] (some (.cells 3 ((dzI x.2).map .d))) []) (fun x=>x.1) (i,T0) ⟨AE _,hkl,hR.symm⟩ ?_ ?_
   ·refine aBq ?_ rfl
    simp[-ζ,upd,aT,Γ0]
   ·rintro⟨j,T⟩ ⟨h1,h2,h3⟩
    simp only at h1 h2 h3 ⊢
    cases j with
    | zero =>
     have h3':T=R:=h3
     subst h3'
     simp[-ζ,-ξ,↓KW]
     refine bE ?_
     simp[-ζ,-ξ,↓KW,hs1]
     refine aN (k+1) (by omega) (by show n-(k+1)<n-k;omega) ?_
     show ∃ ρ,Wk _ (StL _ _ _) ρ
     rw[hRR]
     refine aBq ?_ rfl
     simp[-ζ,upd,aT,Γ0]
    | succ j =>
     have hL:=bXd T[j+1]! T[j]!
     have ha:=bFj (l:=T) (i:=j+1) (by omega)
     have hb:=bFj (l:=T) (i:=j) (by omega)
     have ha':∀ h,(dzI T)[j+1]'h=.i .i64 T[j+1]! := fun h=>by rw[Ab h]at ha;injection ha
     have hb':∀ h,(dzI T)[j]'h=.i .i64 T[j]! := fun h=>by rw[Ab h]at hb;injection hb
     have hdl:=jK T
     have hjn:j+1<n:=by omega
     have hjn':j<n:=by omega
     have hw0:Ag.wrap (j:Int)=j:=aV
     have hset:((dzI T).set (j+1) (.i .i64 T[j]!)).set j (.i .i64 T[j+1]!)=dzI ((T.set (j+1) T[j]!).set j T[j+1]!):=by rw[aSh,aSh]
     have hbub:pP (j+1) T=if T[j+1]! < T[j]! then pP j ((T.set (j+1) T[j]!).set j T[j+1]!)else T:=rfl
     have hTl:((T.set (j+1) T[j]!).set j T[j+1]!).length=n:=by simp[h2]
     rw[hbub]at h3
     generalize(T.set (j+1) T[j]!).set j T[j+1]! = T2 at *
     have hwJ:Ag.wrap (((j+1:Nat):Int)-1)=j:=by rw[show((j+1:Nat):Int)-1=(j:Int)from by omega];exact hw0
     have hwJ0:Ag.wrap ((j+1:Nat):Int)=((j+1:Nat):Int):=aV
     have hJ0:0<j+1:=by omega
     have hJj:¬j+1=j:=by omega
     generalize T[j+1]! = x at *
     generalize T[j]! = y at *
     obtain⟨DT,hDT⟩:∃ DT,dzI T=DT:=⟨_,rfl⟩
     rw[hDT]at ha hb ha' hb' hdl hset ⊢
     obtain⟨J,hJ⟩:∃ J,j+1=J:=⟨_,rfl⟩
     have hJlt:j<J:=by omega
     simp only[hJ]at *
     have hJ1:J+1≤n:=by omega
     have hJ2:j+1≤n:=by omega
     have hJ3:J≤n:=by omega
     have e1:lay (DT.map AV.d) J [.d (.i .i64 y)]=(DT.set J (.i .i64 y)).map .d:=fR _ _ _ (by omega)
     have e2:lay ((DT.set J (.i .i64 y)).map AV.d) j [.d (.i .i64 x)]=(dzI T2).map .d:=by rw[fR _ _ _ (by rw[Dh];omega),hset]
     have e3:lay ((DT.map AV.d).set J (.d (.i .i64 y))) j [.d (.i .i64 x)]=(dzI T2).map .d:=by rw[←e2,List.map_set]
     by_cases hxy:x<y
     ·rw[Ar hxy]at h3
      rw[BU hxy]at hL
      simp[-ζ,-ξ,↓KW,ha,ha',hb,hb',hw0,hwJ,hwJ0,hJ0,hdl,h2,hjn,hjn']
      refine aH hL ?_
      simp[-ζ,-ξ,↓KW,ha,ha',hb,hb',hw0,hwJ,hwJ0,hJ0,hdl,h2,hjn,hjn',hJ1,hJ2,hJ3,e1,e2,e3]
      refine aN (j,T2) ⟨by omega,hTl,h3⟩ (by show j<j+1;omega) ?_
      show ∃ ρ,Wk _ (StL _ _ _) ρ
      refine aBq ?_ ?_<;>simp[-ζ,upd,aT,Γ0,e3]
     ·rw[Aj hxy]at h3
      rw[Bn hxy]at hL
      simp[-ζ,-ξ,↓KW,ha,ha',hb,hb',hw0,hwJ,hwJ0,hJ0,hdl,h2,hjn,hjn']
      refine aH hL ?_
      simp[-ζ,-ξ,↓KW,ha,ha',hb,hb',hw0,hwJ,hwJ0,hJ0,hdl,h2,hjn,hjn']
      subst h3
      refine bE ?_
      simp[-ζ,-ξ,↓KW,hs1]
      refine aN (k+1) (by omega) (by show n-(k+1)<n-k;omega) ?_
      show ∃ ρ,Wk _ (StL _ _ _) ρ
      rw[hRR]
      refine aBq ?_ ?_<;>simp[-ζ,upd,aT,Γ0,hDT]
  ·have hk1:k+1=l.length:=by omega
   have hsr:dV l=jO l k:=by unfold dV;rw[show l.length-1=k from by omega]
   rw[hsr]
   have hs:rA k=(l.length:Int):=by unfold rA;omega
   rw[hs]
   simp[-ζ,-ξ,↓KW]
   exact bE (by simp[-ζ,-ξ,↓KW,jM])
set_option maxRecDepth 10000 in
theorem bZf[M:Mch Aa](l:List Int)(r:Int)(hl:l.length≤12):jX Aa 101 (.own 0 0 l.length 1) (.cells 3 ((dzI l).map .d)) [.i .i64 0,.i .i64 l.length,.i .i64 r] (.cells 3 ((dzI (dV l)).map .d)) (.tp []):=by
 have hI:=bZr l (by omega)
 have hlen:(dzI (dV l)).length=(dzI l).length:=by rw[jK,jK];exact eD l _
 have hno1:=nD 3 l
 have hno2:=nD 3 (dV l)
 have hw0:Ag.wrap (l.length:Int)=l.length:=aV
 have hle:(l.length:Int)≤12:=by omega
 refine gJ (N:=134) aW Tryz.func101 rfl rfl rfl (by kernel_rfl) (by kernel_rfl) (by simp) hno2 ?_
 generalize dV l=T at *
 generalize l.length=n at *
 generalize dzI T=DT at *
 generalize dzI l=DL at *
 simp[-ζ,-ξ,↓KW,St1]
 refine fI 1 ?_
 simp[-ζ,-ξ,↓KW,↓aL,↓aF,↓aJ,↓aK,hw0,hl,hle]
 refine mJ (by simp) ?_
 refine iM (id:=0) (h:=.own 0 0 n 1) (by rfl) hno1 (by rfl) (by rfl) hI (by simp[HO.len,hlen]) hno2 ?_
 simp[-ζ,-ξ,↓KW,jM]
theorem bXu[M:Mch Aa](n:Nat)(hn:n≤12):∃ r,Spec Aa 81 [.i .u64 n] (.i .i64 r):=by
 have h:((AK 13).all fun n=>match(jW Aa EP 100 20).call 81 [.i .u64 (n:Nat)]with|some (.i .i64 r)=>true|_=>false)=true:=by kernel_rfl
 have:=A4.1 h n (CK.2 (by omega))
 split at this
 ·rename_i r hr;exact⟨r,fJ hr⟩
 ·cases this
set_option maxRecDepth 10000 in
theorem bWf[M:Mch Aa](l:List Int)(hl:l.length≤12):jX Aa 54 (.own 0 0 l.length 1) (.cells 3 ((dzI l).map .d)) [] (.cells 3 ((dzI (dV l)).map .d)) (.tp []):=by
 obtain⟨r,hB⟩:=bXu l.length hl
 have hI:=bZf l r hl
 have hlen:(dzI (dV l)).length=(dzI l).length:=by rw[jK,jK];exact eD l _
 have hno1:=nD 3 l
 have hno2:=nD 3 (dV l)
 have hw0:Az.wrap (l.length:Int)=l.length:=wrap_u64 (by omega) (by omega)
 refine gJ (N:=11) aW Tryz.func54 rfl rfl rfl (by kernel_rfl) (by kernel_rfl) (by simp) hno2 ?_
 generalize dV l=T at *
 generalize l.length=n at *
 generalize dzI T=DT at *
 generalize dzI l=DL at *
 simp[-ζ,-ξ,↓KW,St1,hw0]
 refine aH hB ?_
 simp[-ζ,-ξ,↓KW,St1,hw0]
 refine mJ (by simp) ?_
 refine iM (id:=0) (h:=.own 0 0 n 1) (by rfl) hno1 (by rfl) (by rfl) hI (by simp[HO.len,hlen]) hno2 ?_
 simp[-ζ,-ξ,↓KW,jM]
theorem bSg[M:Mch Aa]:Spec Aa 54 [.sl []] (.tp []):=fJ (by kernel_rfl)
end Go.Am
end
section
open List renaming map_map→ζ,mapM_map→ξ
namespace Go.Am
theorem bEf{T:List Int}{i j:Nat}{x:Int}(hi:i<T.length):(T.set i x)[j]! = if i=j then x else T[j]! := by
 by_cases hj:j<T.length
 ·rw[B8 (T.set i x) j (by simpa using hj),List.getElem_set,B8 T j hj]
 ·have h:¬i=j:=by omega
  rw[Aj h,getElem!_neg (T.set i x) j (by simpa using hj),getElem!_neg T j hj]
theorem aAu:∀(j:Nat) (T:List Int) (m:Nat),j≤m→m<T.length→(∀ p q,p<q→q≤m→p≠j→q≠j→T[p]! ≤ T[q]!)→(∀ q,j<q→q≤m→T[j]! ≤ T[q]!)→∀ p q,p<q→q≤m→(pP j T)[p]! ≤ (pP j T)[q]!
 | 0,T,m,_,hm,h1,h2,p,q,hpq,hq=>by
  show T[p]! ≤ T[q]!
  rcases Be p with hp|hp
  ·subst hp;exact h2 q hpq hq
  ·exact h1 p q hpq hq (by omega) (by omega)
 | j+1,T,m,hj,hm,h1,h2,p,q,hpq,hq=>by
  unfold pP
  split
  ·rename_i hlt
   have hg:∀ i,((T.set (j+1) T[j]!).set j T[j+1]!)[i]! = if j=i then T[j+1]! else if j+1=i then T[j]! else T[i]! := fun i=>by
    rw[bEf (by simp;omega),bEf (by omega)]
   refine aAu j _ m (by omega) (by simp;omega) (fun p q hpq hq hp hqj=>?_) (fun q hq1 hq2=>?_) p q hpq hq
   ·rw[hg,hg,Aj (show ¬j=p by omega),Aj (show ¬j=q by omega)]
    by_cases hp1:j+1=p
    ·rw[Ar hp1,Aj (show ¬j+1=q by omega)]
     exact h1 j q (by omega) hq (by omega) (by omega)
    ·rw[Aj hp1]
     by_cases hq1:j+1=q
     ·rw[Ar hq1]
      exact h1 p j (by omega) (by omega) (by omega) (by omega)
     ·rw[Aj hq1]
      exact h1 p q hpq hq (by omega) (by omega)
   ·rw[hg,hg,Ar rfl,Aj (show ¬j=q by omega)]
    by_cases hq3:j+1=q
    ·rw[Ar hq3];omega
    ·rw[Aj hq3];exact h2 q (by omega) hq2
  ·rename_i hge
   have hle:T[j]! ≤ T[j+1]! := by omega
   by_cases hq1:q=j+1
   ·subst hq1
    by_cases hp1:p=j
    ·subst hp1;exact hle
    ·exact Int.le_trans (h1 p j (by omega) (by omega) (by omega) (by omega)) hle
   ·by_cases hp1:p=j+1
    ·subst hp1;exact h2 q hpq hq
    ·exact h1 p q hpq hq hp1 hq1
theorem zR(l:List Int):∀ k,k<l.length→∀ p q,p<q→q≤k→(jO l k)[p]! ≤ (jO l k)[q]!
 |0,_,p,q,h1,h2=>by omega
 | k+1,hk,p,q,h1,h2=>by
  have ih:=zR l k (by omega)
  unfold jO
  exact aAu (k+1) (jO l k) (k+1) (AE _) (by rw[eD];exact hk) (fun p q a b c d=>ih p q a (by omega)) (fun q a b=>by omega) p q h1 h2
theorem aNa(l:List Int):(dV l).Pairwise (·≤·):=by
 rw[List.pairwise_iff_getElem]
 intro i j hi hj hij
 have hl:(dV l).length=l.length:=eD l _
 have:=zR l (l.length-1) (by omega) i j hij (by omega)
 unfold dV at *
 rwa [B8 (jO l (l.length-1)) i hi,B8 (jO l (l.length-1)) j hj]at this
end Go.Am
end
section
open List renaming map_map→ζ,mapM_map→ξ
open Go Go.Am Go.Proofs
namespace Go.Am
def iN:Nat→Nat→Nat
 |0,_=>0
 |k+1,s=>s%2+iN k (s/2)
def fA{α:Type}:List α→Nat→List α
 |[],_=>[]
 |x::l,s=>if s%2=1 then x::fA l (s/2)else fA l (s/2)
theorem pR{α:Type}:∀(l:List α) (s:Nat),(fA l s).length=iN l.length s
 |[],s=>rfl
 | x::l,s=>by
  unfold fA
  split
  ·rename_i h;rw[Ah,pR l,Ah,iN,h];omega
  ·rename_i h;rw[pR l,Ah,iN];omega
theorem aEe{α:Type}(x:α):∀(l:List α) (s:Nat),fA (l++[x]) s=fA l s++if s/2^l.length%2=1 then[x]else[]
 |[],s=>by simp only[fA,DV,As,Nat.pow_zero,Nat.div_one]
 | y::l,s=>by
  simp only[Ci,fA,aEe x l,Ah]
  have e:s/2^(l.length+1)=s/2/2^l.length:=by rw[BJ,BV (2^l.length) 2,←Nat.div_div_eq_div_mul]
  simp only[e]
  split<;>simp
theorem qN:∀(k m s:Nat),s<2^k→iN (k+m) s=iN k s
 | 0,m,s,h=>by
  have:s=0:=by simpa using h
  subst this
  have h0:∀ n,iN n 0=0:=fun n=>by
   induction n with
   |zero=>rfl
   |succ n ih=>simp[iN,ih]
  rw[h0,h0]
 | k+1,m,s,h=>by
  rw[show k+1+m=(k+m)+1 from by omega]
  unfold iN
  rw[qN k m (s/2) (by rw[BJ]at h;omega)]
theorem aLt(a:Nat)(ha:a<4294967296):bits .and .u32 (a:Int) 1=((a%2:Nat):Int):=by
 have h1:(BitVec.ofInt 32 (a:Int)).toNat=a:=by
  rw[BitVec.ofInt_natCast,BitVec.toNat_ofNat];exact Ce (by omega)
 have h2:(BitVec.ofInt 32 (1:Int)).toNat=1:=by decide
 show BC.wrap ((BitVec.ofInt 32 (a:Int) &&& BitVec.ofInt 32 (1:Int)).toNat:Int)=_
 rw[BitVec.toNat_and,h1,h2,Nat.and_one_is_mod,Ei]
 omega
theorem aQp(s i:Nat)(hi:i≤32):dW .shr .u32 (s:Int) (i:Int)=some (.i .u32 ((s/2^i:Nat):Int)):=by
 simp only[dW,Cz]
 rw[Aj (by omega)]
 congr 2
 rw[show min (i:Int).toNat 32=i from by omega,CL _ (Int.le_of_lt (Int.pow_pos (by decide)))]
 rw[show(2:Int)^i=((2^i:Nat):Int)from by simp]
 rfl
theorem aAp{k:Nat}(hk:0<k)(l:List (List D))(h:∀ x∈l,x.length=k):chunk k l.length l.flatten=l:=by
 induction l with
 |nil=>rfl
 | cons a l ih =>
  have ha:=h a (AH ..)
  have:=ih fun x hx=>h x (AD _ hx)
  unfold chunk at this ⊢
  rw[Ah,Em,BI,DD,Cv]
  congr 1
  ·simp[←ha]
  ·conv=>rhs;rw[←this]
   apply CF
   intro i _
   simp only[Function.comp]
   rw[show Nat.succ i*k=a.length+i*k from by rw[Nat.succ_mul,ha,En],List.drop_append,C8 (by omega)]
   simp
def dR(l:List (Nat×Nat)):List D:=(l.map fun x=>[.i .u64 (x.1:Int),.i .u64 (x.2:Int)]).flatten
theorem aGy(l:List (Nat×Nat)):(dR l).length=l.length*2:=by
 unfold dR
 induction l with
 |nil=>rfl
 |cons x l ih=>simp only[BI,Cv,A9,ih,Ah,As];omega
theorem bFt(p v:Nat):dR [(p,v)]=[.i .u64 p,.i .u64 v]:=rfl
theorem wJ{l:List (Nat×Nat)}{n:Nat}(h:l.length=n):((dR l).map AV.d).take (n*2)=(dR l).map AV.d:=Ax (by rw[Bm,aGy,h];exact AE _)
theorem aLf{l:List (Nat×Nat)}{n:Nat}(h:l.length=n):chunk 2 n (dR l)=l.map fun x=>[D.i .u64 (x.1:Int),D.i .u64 (x.2:Int)]:=by
 subst h
 have:=aAp (k:=2) (by decide) (l.map fun x=>[D.i .u64 (x.1:Int),D.i .u64 (x.2:Int)]) (fun x hx=>by
  obtain⟨y,_,rfl⟩:=AZ.1 hx;rfl)
 rwa [Bm]at this
theorem bUr{H:Hp}{id:Nat}{e:TypeId}{T:List (Nat×Nat)}{n:Nat}(hn:T.length=n)(hH:H id=some (.cells e ((dR T).map AV.d))):frz H 8 (.own id 0 n 2)=some (oM T):=by
 have e1:=wJ hn
 have e2:=aLf hn
 have e3:=aGy T
 rw[hn]at e3
 simp[-ζ,-ξ,zZ,hH,e1,e2,e3,oM]
def rsL(l:List (Nat×Nat×Nat)):List (Nat×Nat):=l.map (·.2)
def chS(L:List (List D))(s n i:Nat):List (Nat×Nat)→St
 |[]=>StL [(1,.d (.i .u32 s)),(5,.nil),(8,.d (.sl L)),(9,.d (.i .i64 n)),(10,.d (.i .i64 i))] none []
 |x::T=>StL [(1,.d (.i .u32 s)),(5,.own 1 0 (T.length+1) 2),(8,.d (.sl L)),(9,.d (.i .i64 n)),(10,.d (.i .i64 i))] none [.cells 76 ((dR (x::T)).map .d)]
theorem bOq(x:Nat×Nat)(a b:List (Nat×Nat)):dR (x::(a++b))=dR (x::a)++dR b:=by simp[dR]
set_option maxHeartbeats 4000000 in
set_option maxRecDepth 10000 in
theorem aPi[M:Mch Aa](l:List (Nat×Nat×Nat))(s:Nat)(hl:l.length≤30)(hs:s<4294967296):Spec Aa 47 [dX l,.i .u32 s] (oM (fA (rsL l) s)):=by
 obtain⟨L,hL,hLl,hLg⟩:=mR l
 rw[hL]
 refine bI (N:=27) Tryz.func47 ?_
 simp[-ζ,-ξ,↓KW]
 refine bL (τ:=Nat) (fun i=>i≤l.length) (fun i=>chS L s L.length i (fA (rsL (l.take i)) s)) (fun i=>l.length-i) 0 (A8 _) ?_ ?_
 ·rw[BG]
  show ∃ ρ,Wk _ (chS _ _ _ _ []) ρ
  unfold chS
  refine wkQ [] ?_ ?_<;>simp[-ζ,upd,aT,Γ0]
 ·intro i hi
  by_cases hlt:i<l.length
  ·obtain⟨⟨w,p,v⟩,hge⟩:∃ x,l[i]? = some x:=⟨_,Ab hlt⟩
   have hLi:=hLg i _ hge
   simp only at hLi
   have hLi':=cK hLi
   have hiL:i<L.length:=by omega
   have hT1:rsL (l.take (i+1))=rsL (l.take i)++[(p,v)]:=by rw[A7,hge];simp[rsL]
   have hB1:fA (rsL (l.take (i+1))) s=fA (rsL (l.take i)) s++if s/2^i%2=1 then[(p,v)]else[]:=by
    rw[hT1,aEe]
    have:(rsL (l.take i)).length=i:=by simp[rsL];omega
    rw[this]
   have hBl:(fA (rsL (l.take i)) s).length≤i:=by
    have h1:=pR (rsL (l.take i)) s
    have h2:∀ k s,iN k s≤k:=fun k=>by
     induction k with
     |zero=>intro s;simp[iN]
     |succ k ih=>intro s;have:=ih (s/2);simp only[iN];omega
    have h3:(rsL (l.take i)).length=i:=by simp[rsL];omega
    have:=h2 (rsL (l.take i)).length s
    omega
   have hw1:Ag.wrap ((i:Int)+1)=((i+1:Nat):Int):=aV
   have hw0:Ag.wrap (i:Int)=i:=aV
   have hsh:=aQp s i (by omega)
   have hx32:s/2^i<4294967296:=Bo (DW ..) hs
   have hand:dJ .and false (.d (.i .u32 ((s/2^i:Nat):Int))) (.d (.i .u32 1))=some (.i .u32 ((s/2^i%2:Nat):Int)):=by
    show some (D.i .u32 (bits .and .u32 ((s/2^i:Nat):Int) 1))=_
    rw[aLt _ hx32]
   generalize s/2^i=z at *
   generalize fA (rsL (l.take i)) s=T at *
   by_cases hz:z%2=1
   ·rw[Ar hz]at hB1
    rw[hz]at hand
    cases T with
    | nil =>
     have hm1:(1:Nat)≤maxLen:=bU (by decide)
     simp[-ζ,-ξ,↓KW,chS,hiL,hLi,hLi',hsh,hand,hw0,hw1,hm1]
     refine aN (i+1) (by omega) (by show l.length-(i+1)<l.length-i;omega) ?_
     show ∃ ρ,Wk _ (chS _ _ _ _ _) ρ
     rw[hB1]
     show ∃ ρ,Wk _ (chS _ _ _ _ ((p,v)::[])) ρ
     unfold chS
     refine wkQ [3] ?_ ?_<;>simp[-ζ,upd,aT,Γ0,Bq,bQ,bFt]
    | cons x T =>
     have hbb:(T.length+1)*16≤140737488355328∧T.length+1≤1099511627776∧(T.length+1+1)*16≤140737488355328∧T.length+1+1≤1099511627776:=by
      simp only[Ah]at hBl;omega
     simp[-ζ,-ξ,↓KW,chS,hiL,hLi,hLi',hsh,hand,hw0,hw1,aGy,hbb,bU]
     refine aN (i+1) (by omega) (by show l.length-(i+1)<l.length-i;omega) ?_
     show ∃ ρ,Wk _ (chS _ _ _ _ _) ρ
     rw[hB1]
     show ∃ ρ,Wk _ (chS _ _ _ _ (x::(T++[(p,v)]))) ρ
     unfold chS
     refine wkQ [4] ?_ ?_<;>simp[-ζ,upd,aT,Γ0,Bq,bQ,bOq,bFt]
   ·rw[Aj hz,E0]at hB1
    have hz0:z%2=0:=by omega
    rw[hz0]at hand
    cases T with
    | nil =>
     simp[-ζ,-ξ,↓KW,chS,hiL,hLi,hLi',hsh,hand,hw0,hw1]
     refine aN (i+1) (by omega) (by show l.length-(i+1)<l.length-i;omega) ?_
     show ∃ ρ,Wk _ (chS _ _ _ _ _) ρ
     rw[hB1]
     unfold chS
     refine wkQ [] ?_ ?_<;>simp[-ζ,upd,aT,Γ0]
    | cons x T =>
     simp[-ζ,-ξ,↓KW,chS,hiL,hLi,hLi',hsh,hand,hw0,hw1]
     refine aN (i+1) (by omega) (by show l.length-(i+1)<l.length-i;omega) ?_
     show ∃ ρ,Wk _ (chS _ _ _ _ _) ρ
     rw[hB1]
     unfold chS
     refine wkQ [1] ?_ ?_<;>simp[-ζ,upd,aT,Γ0]
  ·have hiL:¬i<L.length:=by omega
   rw[Ax (show l.length≤i by omega)]
   generalize fA (rsL l) s=T at *
   cases T with
   | nil =>
    simp[-ζ,-ξ,↓KW,chS,hiL]
    refine bE ?_
    simp[-ζ,-ξ,↓KW,oM]
   | cons x T =>
    have hf:∀ H:Hp,H 1=some (.cells 76 ((dR (x::T)).map AV.d))→frz H 8 (.own 1 0 (T.length+1) 2)=some (oM (x::T)):=fun H hH=>bUr rfl hH
    have e1:=wJ (l:=x::T) (n:=T.length+1) rfl
    have e2:=aLf (l:=x::T) (n:=T.length+1) rfl
    have e3:=aGy (x::T)
    rw[show(x::T).length=T.length+1 from rfl]at e3
    simp[-ζ,-ξ,↓KW,chS,hiL]
    refine bE ?_
    simp[-ζ,-ξ,↓KW,oM,e1,e2,e3]
def aKy(q:Rat):List D:=[.b (decide (q.num<0)),aG (aM q.num.natAbs),.b false,aG (aM q.den)]
def gP(l:List Rat):D:=.sl (l.map aKy)
def dQ(l:List Rat):List D:=(l.map aKy).flatten
theorem aAm(l:List Rat):(dQ l).length=l.length*4:=by
 unfold dQ
 induction l with
 |nil=>rfl
 |cons x l ih=>simp only[BI,Cv,A9,ih,Ah,aKy,As];omega
theorem bFv(a b:List Rat):dQ (a++b)=dQ a++dQ b:=by simp[dQ]
theorem bFu(q:Rat):dQ [q]=[.b (decide (q.num<0)),aG (aM q.num.natAbs),.b false,aG (aM q.den)]:=rfl
theorem wK{l:List Rat}{n:Nat}(h:l.length=n):((dQ l).map AV.d).take (n*4)=(dQ l).map AV.d:=Ax (by rw[Bm,aAm,h];exact AE _)
theorem aLg{l:List Rat}{n:Nat}(h:l.length=n):chunk 4 n (dQ l)=l.map aKy:=by
 subst h
 have:=aAp (k:=4) (by decide) (l.map aKy) (fun x hx=>by
  obtain⟨y,_,rfl⟩:=AZ.1 hx;rfl)
 rwa [Bm]at this
theorem tY(l:List Rat):∃ L,gP l=.sl L∧L.length=l.length∧∀(i:Nat) (q:Rat),l[i]? = some q→L[i]? = some [.b (decide (q.num<0)),aG (aM q.num.natAbs),.b false,aG (aM q.den)]:=⟨_,rfl,by simp,fun i x hx=>by rw[Ai,hx];rfl⟩
theorem aKx(v:List Int):∃ L,fS v=.sl L∧L.length=v.length∧∀(i:Nat) (z:Int),v[i]? = some z→L[i]? = some [.b (decide (z<0)),aG (aM z.natAbs)]:=⟨_,rfl,by simp,fun i x hx=>by rw[Ai,hx];rfl⟩
def pA(v:List Int):List Rat:=v.map fun(z:Int)=>(z:Rat)
def qsS(L:List (List D))(i:Nat)(T:List Rat):St:=StL [(0,.d (.sl L)),(3,.own 1 0 T.length 4),(4,.d (.i .i64 i))] none [.cells 169 ((dQ T).map .d)]
set_option maxHeartbeats 4000000 in
set_option maxRecDepth 10000 in
theorem aFn[M:Mch Aa](v:List Int)(hv:v.length≤1000):Spec Aa 128 [fS v] (gP (pA v)):=by
 obtain⟨L,hL,hLl,hLg⟩:=aKx v
 rw[hL]
 refine bI (N:=21) Tryz.func128 ?_
 simp[-ζ,-ξ,↓KW]
 refine bL (τ:=Nat) (fun i=>i≤v.length) (fun i=>qsS L i (pA (v.take i))) (fun i=>v.length-i) 0 (A8 _) ?_ ?_
 ·rw[BG]
  show ∃ ρ,Wk _ (qsS _ _ []) ρ
  unfold qsS
  refine wkQ [1] ?_ ?_<;>simp[-ζ,upd,aT,Γ0,dQ]
 ·intro i hi
  have hTl:(pA (v.take i)).length=i:=by simp[pA];omega
  by_cases hlt:i<v.length
  ·obtain⟨z,hge⟩:∃ x,v[i]? = some x:=⟨_,Ab hlt⟩
   have hLi:=hLg i _ hge
   have hLi':=cK hLi
   have hiL:i<L.length:=by omega
   have hW:=aIv z
   have hT1:pA (v.take (i+1))=(pA (v.take i))++[(z:Rat)]:=by rw[A7,hge];simp[pA]
   have hw0:Ag.wrap (i:Int)=i:=aV
   have hw1:Ag.wrap ((i:Int)+1)=((i+1:Nat):Int):=aV
   generalize(z:Rat)=q at *
   generalize(pA (v.take i))=T at *
   have hbb:(i+1)*64≤140737488355328∧i+1≤1099511627776:=by omega
   simp[-ζ,-ξ,↓KW,qsS,hiL,hLi,hLi',hw0,aA,aD,aC,aE,aB]
   refine aH hW ?_
   simp[-ζ,-ξ,↓KW,cN q,aAm,hTl,hbb,bU,hw1,aA,aD,aC,aE,aB]
   refine aN (i+1) (by omega) (by show v.length-(i+1)<v.length-i;omega) ?_
   show ∃ ρ,Wk _ (qsS _ _ _) ρ
   rw[hT1]
   unfold qsS
   refine wkQ [3] ?_ ?_<;>simp[-ζ,upd,aT,Γ0,Bq,bQ,bFv,bFu,A9,hTl]
  ·have hiL:¬i<L.length:=by omega
   rw[Ax (show v.length≤i by omega)]at hTl ⊢
   generalize(pA v)=T at *
   have e1:=wK hTl
   have e2:=aLg hTl
   have e3:=aAm T
   rw[hTl]at e3
   simp[-ζ,-ξ,↓KW,qsS,hiL]
   exact bE (by simp[-ζ,-ξ,↓KW,hTl,e1,e2,e3,gP])
def iU(a b:List Rat)(c:Rat):List Rat:=(AK a.length).map fun i=>a.getD i 0-c*b.getD i 0
def lsS(A B:List (List D))(c:Rat)(i:Nat)(T:List Rat):St:=StL [(0,.d (.sl A)),(1,.d (.sl B)),(5,.ptr 1 0),(7,.own 2 0 T.length 4),(8,.d (.i .i64 i))] none [.cells 169 [.d (.b (decide (c.num<0))),.d (aG (aM c.num.natAbs)),.d (.b false),.d (aG (aM c.den))],.cells 169 ((dQ T).map .d)]
set_option maxHeartbeats 4000000 in
set_option maxRecDepth 10000 in
theorem bLc[M:Mch Aa](a b:List Rat)(c:Rat)(ha:a.length≤1000)(hab:a.length≤b.length)(hc:QS c)(hA:∀ q∈a,QS q)(hB:∀ q∈b,QS q)(hcb:∀ q∈b,QS (c*q)) :
  Spec Aa 132 [gP a,gP b,dK c] (gP (iU a b c)):=by
 obtain⟨LA,hLA,hLAl,hLAg⟩:=tY a
 obtain⟨LB,hLB,hLBl,hLBg⟩:=tY b
 rw[hLA,hLB]
 refine bI (N:=31) Tryz.func132 ?_
 simp[-ζ,-ξ,↓KW,cN c,aA,aD,aC,aE,aB]
 refine bL (τ:=Nat) (fun i=>i≤a.length) (fun i=>lsS LA LB c i ((iU a b c).take i)) (fun i=>a.length-i) 0 (A8 _) ?_ ?_
 ·rw[BG]
  show ∃ ρ,Wk _ (lsS _ _ _ _ []) ρ
  unfold lsS
  refine wkQ [1,2] ?_ ?_<;>simp[-ζ,upd,aT,Γ0,dQ]
 ·intro i hi
  have hTl:((iU a b c).take i).length=i:=by simp[iU];omega
  by_cases hlt:i<a.length
  ·obtain⟨x,hx⟩:∃ x,a[i]? = some x:=⟨_,Ab hlt⟩
   obtain⟨y,hy⟩:∃ x,b[i]? = some x:=⟨_,Ab (by omega)⟩
   have hLi:=hLAg i _ hx
   have hLi':=cK hLi
   have hLb:=hLBg i _ hy
   have hLb':=cK hLb
   have hiL:i<LA.length:=by omega
   have hiB:i<LB.length:=by omega
   have hMl:=bBm c y hc (hB y (Ao hy))
   have hSb:=bSu x (c*y) (hA x (Ao hx)) (hcb y (Ao hy))
   have hT1:(iU a b c).take (i+1)=(iU a b c).take i++[x-c*y]:=by
    rw[A7]
    congr 1
    unfold iU
    rw[Ai,BF hlt,AW,Ep,Af,Af,hx,hy];rfl
   have hw0:Ag.wrap (i:Int)=i:=aV
   have hw1:Ag.wrap ((i:Int)+1)=((i+1:Nat):Int):=aV
   generalize x-c*y=u at *
   generalize c*y=w at *
   generalize(iU a b c).take i=T at *
   have hbb:(i+1)*64≤140737488355328∧i+1≤1099511627776:=by omega
   simp[-ζ,-ξ,↓KW,lsS,hiL,hiB,hLi,hLi',hLb,hLb',hw0,aA,aD,aC,aE,aB]
   refine aH hMl ?_
   simp[-ζ,-ξ,↓KW,cN w,aA,aD,aC,aE,aB]
   refine aH hSb ?_
   simp[-ζ,-ξ,↓KW,cN u,aAm,hTl,hbb,bU,hw1,aA,aD,aC,aE,aB]
   refine aN (i+1) (by omega) (by show a.length-(i+1)<a.length-i;omega) ?_
   show ∃ ρ,Wk _ (lsS _ _ _ _ _) ρ
   rw[hT1]
   unfold lsS
   refine wkQ [1,4] ?_ ?_<;>simp[-ζ,upd,aT,Γ0,Bq,bQ,bFv,bFu,A9,hTl]
  ·have hiL:¬i<LA.length:=by omega
   rw[Ax (show(iU a b c).length≤i by simp[iU];omega)]at hTl ⊢
   generalize iU a b c=T at *
   have e1:=wK hTl
   have e2:=aLg hTl
   have e3:=aAm T
   rw[hTl]at e3
   simp[-ζ,-ξ,↓KW,lsS,hiL]
   exact bE (by simp[-ζ,-ξ,↓KW,hTl,e1,e2,e3,gP])
end Go.Am
end
section
open List renaming map_map→ζ,mapM_map→ξ
namespace Go.Am
def en(M:List (List Rat))(i j:Nat):Rat:=(M.getD i []).getD j 0
def pad(n:Nat)(M:List (List Rat))(i j:Nat):Rat:=if i<n∧j<n then en M i j else if i=j then 1 else 0
theorem vC{n:Nat}{M:List (List Rat)}{i j:Nat}(h:i<n∧j<n):pad n M i j=en M i j:=Ar h
theorem qO{n:Nat}{M:List (List Rat)}{i j:Nat}(h:¬(i<n∧j<n)):pad n M i j=if i=j then 1 else 0:=Aj h
def dN(n:Nat)(M:List (List Rat)):Rat:=mC (pad n M)
def dg(M:List (List Rat)):Nat→Rat
 |0=>1
 |k+1=>dg M k*en M k k
theorem aAj{M M':List (List Rat)}:∀ k:Nat,(∀ i j,i<k→en M' i j=en M i j)→dg M' k=dg M k
 |0,_=>rfl
 |k+1,h=>by rw[dg,dg,h k k (Cj k),aAj k fun i j hi=>h i j (Nat.lt_succ_of_lt hi)]
theorem gW{α:Type}{l:List α}{i r:Nat}{x d:α}(hi:i<l.length):(l.set i x).getD r d=if r=i then x else l.getD r d:=by
 rw[Af,List.getElem?_set]
 by_cases h:r=i
 ·subst h;rw[Ar rfl,Ar rfl,Ar hi];rfl
 ·rw[Aj (fun e=>h e.symm),Aj h,Af]
def Sg(n k:Nat)(D:Rat)(M:List (List Rat))(o:Rat):Prop:=∃ s:Rat,(s=1∨s=-1)∧o=s*dg M k∧D=s*dN n M
def Lo(n k:Nat)(M:List (List Rat)):Prop:=∀ i j,j<k→j<i→i<n→en M i j=0
def Rw(n:Nat)(M:List (List Rat)):Prop:=M.length=n∧∀ i,i<n→(M.getD i []).length=n
theorem bAe(n:Nat)(M:List (List Rat)):Sg n 0 (dN n M) M 1:=⟨1,.inl rfl,by simp[dg],by simp⟩
theorem bKe{n k:Nat}{D o:Rat}{M:List (List Rat)}(hn:n≤4)(hk:k<n)(h:Sg n k D M o)(hl:Lo n k M)(h0:∀ i,k≤i→i<n→en M i k=0):D=0:=by
 obtain⟨s,_,_,rfl⟩:=h
 have:dN n M=0:=by
  refine aWn (pad n M) (k:=k) (by omega) (fun i j h1 h2 h3=>?_) fun i h1 h2=>?_
  ·unfold pad
   by_cases h:i<n∧j<n
   ·rw[Ar h];exact hl i j h2 h1 h.1
   ·rw[Aj h,Aj (by omega)]
  ·unfold pad
   by_cases h:i<n∧k<n
   ·rw[Ar h];exact h0 i h1 h.1
   ·rw[Aj h,Aj (by omega)]
 rw[this];simp
def oR(M:List (List Rat))(k a:Nat):List (List Rat):=(M.set k (M.getD a [])).set a (M.getD k [])
theorem bFc{M:List (List Rat)}{k a:Nat}(hk:k<M.length)(ha:a<M.length)(hka:k≠a)(i j:Nat):en (oR M k a) i j=en M (swp k a i) j:=by
 unfold en oR swp
 rw[gW (by simpa using ha),gW hk]
 by_cases h1:i=a
 ·rw[Ar h1,h1,Aj (fun e=>hka e.symm),Ar rfl]
 ·rw[Aj h1]
  by_cases h2:i=k
  ·rw[Ar h2,Ar h2]
  ·rw[Aj h2,Aj h2,Aj h1]
theorem bKf{n k a:Nat}{D o:Rat}{M:List (List Rat)}(hn:n≤4)(hM:M.length=n)(hk:k<a)(ha:a<n)(h:Sg n k D M o):Sg n k D (oR M k a) (-o):=by
 obtain⟨s,hs,rfl,rfl⟩:=h
 have he:=bFc (M:=M) (k:=k) (a:=a) (by omega) (by omega) (by omega)
 have hd:dN n (oR M k a)=- dN n M:=by
  unfold dN
  rw[←aWo (pad n M) hk (by omega)]
  congr 1
  funext i j
  have h1:swp k a i<n↔i<n:=by unfold swp;split<;>(try split)<;>omega
  by_cases h:i<n∧j<n
  ·rw[vC h,vC ⟨h1.2 h.1,h.2⟩,he]
  ·rw[qO h,qO fun h'=>h ⟨h1.1 h'.1,h'.2⟩]
   by_cases h3:i<n
   ·rw[Aj (by omega),Aj (by have:=h1.2 h3;omega)]
   ·have:swp k a i=i:=by unfold swp;rw[Aj (by omega),Aj (by omega)]
    rw[this]
 refine⟨-s,by rcases hs with rfl|rfl<;>simp,?_,?_⟩
 ·rw[aAj (M:=M) (M':=oR M k a) k fun i j hi=>by rw[he];unfold swp;rw[Aj (by omega),Aj (by omega)]]
  grind
 ·rw[hd];grind
theorem bMt{n k a:Nat}{M:List (List Rat)}(hM:M.length=n)(hk:k<a)(ha:a<n)(h:Lo n k M):Lo n k (oR M k a):=fun i j h1 h2 h3=>by
 rw[bFc (by omega) (by omega) (by omega)]
 unfold swp
 split
 ·exact h a j h1 (by omega) ha
 ·split
  ·exact h k j h1 (by omega) (by omega)
  ·exact h i j h1 h2 h3
theorem bKj{n k a:Nat}{M:List (List Rat)}(hM:Rw n M)(hk:k<n)(ha:a<n):Rw n (oR M k a):=by
 refine⟨by simp[oR,hM.1],fun i hi=>?_⟩
 unfold oR
 rw[gW (by rw[Dh,hM.1];exact ha),gW (by rw[hM.1];exact hk)]
 split
 ·exact hM.2 k hk
 ·split
  ·exact hM.2 a ha
  ·exact hM.2 i hi
def elR(M:List (List Rat))(k i:Nat)(c:Rat):List (List Rat):=M.set i (iU (M.getD i []) (M.getD k []) c)
theorem bFd{n:Nat}{M:List (List Rat)}{k a:Nat}(c:Rat)(hM:Rw n M)(ha:a<n)(i j:Nat)(hj:j<n):en (elR M k a c) i j=if i=a then en M a j-c*en M k j else en M i j:=by
 unfold en elR
 rw[gW (by rw[hM.1];exact ha)]
 by_cases h:i=a
 ·rw[Ar h,Ar h]
  unfold iU
  rw[Af,Ai,BF (by rw[hM.2 a ha];exact hj)];rfl
 ·rw[Aj h,Aj h]
theorem bQb{n:Nat}{M:List (List Rat)}{k a:Nat}(c:Rat)(hM:Rw n M)(ha:a<n):Rw n (elR M k a c):=by
 refine⟨by simp[elR,hM.1],fun i hi=>?_⟩
 unfold elR
 rw[gW (by rw[hM.1];exact ha)]
 split
 ·simp only[iU,Bm,List.length_range];exact hM.2 a ha
 ·exact hM.2 i hi
theorem bWg{n k K a:Nat}{D o:Rat}{M:List (List Rat)}(c:Rat)(hn:n≤4)(hM:Rw n M)(hk:k<a)(ha:a<n)(hK:K≤a)(hKn:K≤n)(h:Sg n K D M o):Sg n K D (elR M k a c) o:=by
 obtain⟨s,hs,rfl,rfl⟩:=h
 have he:=bFd (k:=k) c hM ha
 refine⟨s,hs,?_,?_⟩
 ·rw[aAj (M:=M) (M':=elR M k a c) K fun i j hi=>by
   unfold en elR
   rw[gW (by rw[hM.1];exact ha),Aj (by omega)]]
 ·congr 1
  unfold dN
  rw[←bFr (pad n M) c hk (by omega)]
  congr 1
  funext i j
  symm
  by_cases h:i<n∧j<n
  ·rw[vC h,he i j h.2,vC ⟨ha,h.2⟩,vC ⟨by omega,h.2⟩,vC h]
  ·rw[qO h]
   by_cases h2:i=a
   ·subst h2
    rw[Ar rfl,qO (by omega),qO (by omega),Aj (by omega),Aj (by omega)];grind
   ·rw[Aj h2,qO h]
theorem bXb{n k a:Nat}{M:List (List Rat)}(c:Rat)(hM:Rw n M)(hk:k<a)(ha:a<n)(h:Lo n k M):Lo n k (elR M k a c):=fun i j h1 h2 h3=>by
 rw[bFd c hM ha i j (by omega)]
 split
 ·rw[h a j h1 (by omega) ha,h k j h1 (by omega) (by omega)];grind
 ·exact h i j h1 h2 h3
theorem bSj{n k:Nat}{D o:Rat}{M:List (List Rat)}(h:Sg n k D M o):Sg n (k+1) D M (o*en M k k):=by
 obtain⟨s,hs,rfl,rfl⟩:=h
 exact⟨s,hs,by rw[dg,Rat.mul_assoc],rfl⟩
theorem bMu{n k:Nat}{M:List (List Rat)}(h:Lo n k M)(h0:∀ r,k<r→r<n→en M r k=0):Lo n (k+1) M:=fun i j h1 h2 h3=>by
 by_cases hj:j=k
 ·rw[hj];exact h0 i (by omega) h3
 ·exact h i j (by omega) h2 h3
theorem bUz{M:List (List Rat)}{k i r:Nat}{c:Rat}(hi:i<M.length):(elR M k i c).getD r []=if r=i then iU (M.getD i []) (M.getD k []) c else M.getD r []:=by
 unfold elR;rw[gW hi]
theorem bSb{M:List (List Rat)}{k a r:Nat}(hk:k<M.length)(ha:a<M.length):(oR M k a).getD r []=if r=a then M.getD k []else if r=k then M.getD a []else M.getD r []:=by
 unfold oR;rw[gW (by simpa using ha),gW hk]
theorem bSk{n:Nat}{D o:Rat}{M:List (List Rat)}(hn:n≤4)(h:Sg n n D M o)(hl:Lo n n M):o=D:=by
 obtain⟨s,_,rfl,rfl⟩:=h
 congr 1
 have ht:=bFq (pad n M) fun i j h1 h2=>by
  unfold pad
  by_cases h:i<n∧j<n
  ·rw[Ar h];exact hl i j h.2 h1 h.1
  ·rw[Aj h,Aj (by omega)]
 unfold dN
 rw[ht]
 have:n=0∨n=1∨n=2∨n=3∨n=4:=by omega
 rcases this with rfl|rfl|rfl|rfl|rfl<;>simp[pad,dg]
end Go.Am
end
