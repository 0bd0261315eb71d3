/- Elimination with fractions computes the determinant (four rows at most). Plain. No condition. -/
import Derived.Test.YtdgdlndhaecliaaGreatU4
import Derived.Test.YtdgdlndhaecliaaGreatU3
import Derived.Laws.Bits64b
open Array renaming getD_eq_getD_getElem?→Aw,getElem?_eq_getElem→Ak,replicate→AY
open Bool renaming and_eq_true→A1,not_eq_true'→CQ
open Decidable renaming byContradiction→BW
open Go.Act renaming eval→C3
open Go.Builtin renaming append_→BS,zeroCells→CP
open Go.IntKind renaming bits→CB,i64→Ag,u32→BC,u64→AA,wrap_u32→Ej
open Go.Proofs.Tryz renaming f103→Fa,prog→Aa
open Go.Region renaming wanted→Bq
open Go.Value renaming int→Fy,slice→EI
open Int renaming emod_eq_zero_of_dvd→Gy,emod_nonneg→Ez,fdiv_eq_ediv_of_nonneg→CK,lt_trichotomy→Fj,mul_comm→Fo,mul_le_mul_of_nonneg_right→Fz,mul_neg→D2,natAbs_ediv_le_natAbs→F9,natAbs_mul→DM,natAbs_natCast→Cm,natAbs_neg→Fi,natCast_add→Ey,natCast_dvd_natCast→Fc,natCast_ediv→ER,natCast_mul→CC,sign_eq_neg_one_of_neg→DI,sign_eq_one_of_pos→Dz,sign_eq_zero_iff_zero→F8,sq_nonneg→B8,tmod_eq_emod_of_nonneg→Ce,toNat_of_nonneg→B0
open List renaming all_eq_true→A6,append_nil→E4,cons_append→Ch,contains_cons→Bl,drop_eq_nil_of_le→C6,drop_zero→FX,eq_nil_of_length_eq_zero→BT,flatten_cons→Cw,getD_eq_getElem?_getD→Af,getElem?_cons_succ→B6,getElem?_cons_zero→Cg,getElem?_eq_getElem→Ab,getElem?_eq_some_iff→Aq,getElem?_map→Ai,getElem?_range→BO,getElem?_replicate→Dk,getElem_mem→BG,getLast?_eq_getElem?→F3,length_append→Bb,length_cons→Ah,length_drop→Ed,length_map→BB,length_nil→Au,length_pos_iff→Ea,length_replicate→Ft,length_set→Df,length_take→AT,lookup_cons→Fx,map→Co,map_append→Ex,map_congr_left→CG,map_cons→BH,map_map→Dx,map_replicate→FY,mem_append→BZ,mem_cons→Bu,mem_cons_of_mem→AE,mem_cons_self→AH,mem_map→AZ,mem_map_of_mem→Du,mem_of_getElem?→Al,mem_of_mem_drop→FD,mem_of_mem_take→Bn,mem_range→CJ,mem_singleton→Ca,nil_append→Dq,nodup_append→D4,nodup_cons→Dr,pairwise_map→Gh,range→AK,range_succ_eq_map→En,replicate→Ax,replicate_succ→C9,take→DH,take_add_one→A3,take_of_length_le→As,take_sublist→C7,take_zero→Bw
open List.Sublist renaming nodup→Ep
open Nat renaming Coprime→EJ,add_comm→EL,add_mul→B2,add_mul_mod_self_left→EX,add_zero→B5,div_add_mod→Ew,div_eq_of_lt→C2,div_le_self→DU,dvd_of_mod_eq_zero→Cl,eq_zero_or_pos→Bf,le_of_dvd→Gs,le_of_lt→ES,le_refl→Az,le_trans→AO,lt_of_le_of_lt→Bo,lt_of_lt_of_le→A4,lt_or_ge→AX,lt_succ_self→Ci,lt_trans→FO,min_eq_left→Dd,mod_eq_of_lt→Cu,mod_lt→B9,mod_mod→El,mod_two_eq_zero_or_one→FW,mul_add→Cq,mul_assoc→BU,mul_comm→BV,mul_le_mul→Bg,mul_le_mul_left→Cb,mul_le_mul_right→B3,mul_left_comm→Fl,mul_mod→D3,mul_one→DF,mul_pos→E7,one_mul→De,pow_add→E9,pow_le_pow_right→B4,pow_succ→BI,sub_mod_eq_zero_of_mod_eq→Em,sub_self→Eo,zero_add→AD,zero_le→A5,zero_mul→Fg
open Nat.Coprime renaming eq_one_of_dvd→Ga
open Option renaming map_eq_some_iff→Ae,map_some→AW,toList_some→C0
open Option.some renaming injEq→Av
open Rat renaming intCast_mul→Dt,intCast_natCast→CM
open _root_ renaming beq_eq_false_iff_ne→Eb,decide_eq_false→Bj,decide_eq_false_iff_not→Fb,decide_eq_true→BK,decide_eq_true_eq→BP,getElem!_pos→BX,if_neg→Aj,if_pos→Ar
set_option linter.unusedSectionVars false
set_option linter.unusedVariables false
set_option linter.unusedSimpArgs false
section
open List renaming map_map→ζ,mapM_map→ξ
open Go Go.Am Go.Proofs
namespace Go.Am
def dnL(n m:Nat):List (List D):=(AK (n-m)).map fun k=>[.i .u64 ((n-1-k:Nat):Int)]
theorem rA(n m:Nat):(dnL n m).length=n-m:=by simp[dnL]
theorem aPq{n m k:Nat}(h:k<n-m):(dnL n m)[k]? = some [.i .u64 ((n-1-k:Nat):Int)]:=by
 simp[dnL,h]
set_option maxHeartbeats 8000000 in
set_option maxRecDepth 10000 in
theorem bPh[M:Mch Aa](n m:Nat)(h:m<n)(hn:n≤2147483648):lW Aa 200 [.pt [.i .u64 n]] (dnL n m):=by
 refine bBd (N:=15) aW Tryz.func200 rfl rfl rfl (by kernel_rfl) (by kernel_rfl) (by simp) fun l=>?_
 refine rC (by kernel_rfl) ?_
 simp[-ζ,-ξ,↓KW,↓aL,↓aF,↓aJ,↓aK]
 have hmin:(if(2147483648:Int)<(n:Int)then(2147483648:Int)else(n:Int))=n:=by rw[Aj (by omega)]
 rw[hmin]
 refine nX ?_
 refine aEv (τ:=Nat) (by kernel_rfl) (fun k=>k<n-m) (fun k=>StL [(0,.d (.lit (.func (.yield l) #[] #[]))),(3,.d (.i .u64 ((n-k:Nat):Int)))] none []) (fun k=>k) (fun k=>n-k) 0 (by omega) rfl ?_ ?_
 ·refine wkQ [] ?_ ?_
  ·simp[-ζ,upd,aR,Γ0]
  ·simp[-ζ,upd,aR,Γ0]
 ·intro k hk
  have h1:0<n-k:=by omega
  have h2:AA.wrap (((n-k:Nat):Int)-1)=((n-1-k:Nat):Int):=by
   rw[show(((n-k:Nat):Int)-1)=((n-1-k:Nat):Int)from by omega]
   exact wrap_u64 (by omega) (by omega)
  refine rC (by kernel_rfl) ?_
  simp[-ζ,-ξ,↓KW,↓aL,↓aF,↓aJ,↓aK,h1]
  refine uM (P:=Aa) ?_
  refine nX ?_
  refine uM ?_
  refine aBg (P:=Aa) (by kernel_rfl) rfl ?_
  simp[-ζ,-ξ,↓KW,↓aL,↓aF,↓aJ,↓aK,h1,h2]
  have hnk:n-k-1=n-1-k:=by omega
  refine aIe (dd:=[.i .u64 ((n-1-k:Nat):Int)]) (l2:=[]) (by rfl) (by rfl) (aPq hk) (by rfl) ?_
  rw[rA]
  by_cases hl:k+1=n-m
  ·have e1:decide (k+1≠n-m)=false:=by simp[hl]
   rw[e1]
   simp[-ζ,-ξ,↓KW,↓aL,↓aF,↓aJ,↓aK,lG,fin]
   refine iG _ (by kernel_rfl) ?_
   simp[-ζ,-ξ,↓KW,↓aL,↓aF,↓aJ,↓aK,rA,hl]
   exact⟨_,rfl⟩
  ·have e1:decide (k+1≠n-m)=true:=by simp[hl]
   have e2:n-(k+1)=n-1-k:=by omega
   rw[e1]
   simp[-ζ,-ξ,↓KW,↓aL,↓aF,↓aJ,↓aK,lG,fin]
   refine iG _ (by kernel_rfl) ?_
   simp[-ζ,-ξ,↓KW,↓aL,↓aF,↓aJ,↓aK]
   refine iG _ (by kernel_rfl) ?_
   simp[-ζ,-ξ,↓KW,↓aL,↓aF,↓aJ,↓aK,h2]
   refine⟨k+1,by omega,by show n-(k+1)<n-k;omega,rfl,wkQ [] ?_ ?_⟩<;>simp[-ζ,upd,aR,Γ0,e2]
theorem bGj[M:Mch Aa](n:Nat):Spec Aa 190 [.i .u64 n] (.fn 200 [.pt [.i .u64 n]]):=by
 refine bF (N:=4) Tryz.func190 ?_
 simp[-ζ,-ξ,↓KW,↓aL,↓aF,↓aJ,↓aK]
set_option maxHeartbeats 8000000 in
set_option maxRecDepth 10000 in
theorem aWy[M:Mch Aa](n m:Nat)(h:m<n)(hn:n≤2147483648)(hp:∀ v:Nat,m≤v→v<n→Spec Aa 52 [.i .u64 v] (.b (decide (v=m)))) :
  Spec Aa 189 [.fn 200 [.pt [.i .u64 n]]] (.i .u64 m):=by
 refine oV (N:=9) aW Tryz.func189 rfl rfl rfl (by kernel_rfl) (by kernel_rfl) (by simp) ?_
 refine cZ (by kernel_rfl) ?_
 simp[-ζ,-ξ,↓KW,↓aL,↓aF,↓aJ,↓aK]
 refine aBh ?_
 refine cZ (by kernel_rfl) ?_
 simp[-ζ,-ξ,↓KW,↓aL,↓aF,↓aJ,↓aK]
 refine sO ?_
 refine pT (dnL n m) (fun k=>StL [(2,.ptr 1 0)] none [.cells 51 [.d (.i .u64 (if k<n-m then 0 else m))]]) [3,5,6,7,8] .ret .ret (.inl rfl) (gf:=200) (caps:=[.pt [.i .u64 n]]) (by rfl) (by rfl) (by rfl) (bPh n m h hn) ?_ (by kernel_rfl) (by rw[rA];omega) ?_ ?_ ?_
 ·rw[Ar (by omega)]
  refine wkQ [1] ?_ ?_<;>simp[-ζ,upd,aR,Γ0]
 ·intro k x hk hx
  rw[rA]at hk
  rw[aPq (by omega)]at hx
  injection hx with hx;subst hx
  refine⟨rfl,?_⟩
  have hP:=hp (n-1-k) (by omega) (by omega)
  rw[Bj (by omega)]at hP
  rw[Ar (by omega),Ar (by omega)]
  show AWP _ _ ⟨upd _ 5 (.d (.i .u64 ((n-1-k:Nat):Int))),_,_⟩ _
  simp[-ζ,-ξ,↓KW,↓aL,↓aF,↓aJ,↓aK]
  refine aH hP ?_
  simp[-ζ,-ξ,↓KW,↓aL,↓aF,↓aJ,↓aK]
  refine wkQ [1] ?_ ?_<;>simp[-ζ,upd,aR,Γ0]
 ·intro k x hk hx
  rw[rA]at hk
  rw[aPq (by omega)]at hx
  injection hx with hx;subst hx
  refine⟨rfl,?_⟩
  have hP:=hp (n-1-k) (by omega) (by omega)
  have hm:n-1-k=m:=by omega
  rw[hm,BK rfl]at hP
  rw[Ar (by omega),Aj (by omega),hm]
  show AWP _ _ ⟨upd _ 5 (.d (.i .u64 (m:Int))),_,_⟩ _
  simp[-ζ,-ξ,↓KW,↓aL,↓aF,↓aJ,↓aK]
  refine aH hP ?_
  simp[-ζ,-ξ,↓KW,↓aL,↓aF,↓aJ,↓aK]
  refine wkQ [1] ?_ ?_<;>simp[-ζ,upd,aR,Γ0]
 ·rw[rA,Aj (by omega)]
  simp[-ζ,-ξ,↓KW,↓aL,↓aF,↓aJ,↓aK]
theorem aQh[M:Mch Aa](n m:Nat)(h:m<n)(hn:n≤2147483648)(hp:∀ v:Nat,m≤v→v<n→Spec Aa 52 [.i .u64 v] (.b (decide (v=m)))) :
  Spec Aa 163 [.i .u64 n] (.i .u64 m):=by
 refine bF (N:=6) Tryz.func163 ?_
 simp[-ζ,-ξ,↓KW,↓aL,↓aF,↓aJ,↓aK]
 refine aH (bGj n) ?_
 simp[-ζ,-ξ,↓KW,↓aL,↓aF,↓aJ,↓aK]
 refine aH (aWy n m h hn hp) ?_
 simp[-ζ,-ξ,↓KW,↓aL,↓aF,↓aJ,↓aK]
def jA[M:Mch Aa]:Nat→List Nat→Prop
 |_,[]=>True
 |n,p::l=>0<p∧p<2147483648∧Spec Aa 163 [.i .u64 n] (.i .u64 p)∧jA p l
def psL(ps:List Nat):List (List D):=ps.map fun(p:Nat)=>[.i .u64 (p:Int)]
theorem jA.at[M:Mch Aa]:∀{n:Nat} {ps:List Nat} {k p q:Nat},jA n ps→ps[k]? = some p→ps[k+1]? = some q→Spec Aa 163 [.i .u64 p] (.i .u64 q)
 |n,[],k,p,q,_,h,_=>by simp at h
 | n,x::l,0,p,q,hd,h,h2=>by
  simp only[Cg,Av]at h;subst h
  simp only[B6]at h2
  cases l with
  |nil=>simp at h2
  |cons y l=>simp only[Cg,Av]at h2;subst h2;exact hd.2.2.2.2.2.1
 |n,x::l,k+1,p,q,hd,h,h2=>jA.at (k:=k) hd.2.2.2 (by simpa using h) (by simpa using h2)
theorem jA.pos[M:Mch Aa]:∀{n:Nat} {ps:List Nat} {k p:Nat},jA n ps→ps[k]? = some p→0<p∧p<2147483648
 |n,[],k,p,_,h=>by simp at h
 | n,x::l,0,p,hd,h=>by
  simp only[Cg,Av]at h;subst h;exact⟨hd.1,hd.2.1⟩
 |n,x::l,k+1,p,hd,h=>jA.pos (k:=k) hd.2.2.2 (by simpa using h)
set_option maxHeartbeats 8000000 in
set_option maxRecDepth 10000 in
theorem aMd[M:Mch Aa](n p0:Nat)(ps:List Nat)(hd:jA n (p0::ps)):lW Aa 162 [.pt [.i .u64 n]] (psL (p0::ps)):=by
 refine bBd (N:=14) aW Tryz.func162 rfl rfl rfl (by kernel_rfl) (by kernel_rfl) (by simp) fun l=>?_
 refine rC (by kernel_rfl) ?_
 simp[-ζ,-ξ,↓KW,↓aL,↓aF,↓aJ,↓aK]
 refine aH hd.2.2.1 ?_
 simp[-ζ,-ξ,↓KW,↓aL,↓aF,↓aJ,↓aK]
 refine nX ?_
 refine aEv (τ:=Nat×Nat) (by kernel_rfl) (fun x=>(p0::ps)[x.1]? = some x.2) (fun x=>StL [(0,.d (.lit (.func (.yield l) #[] #[]))),(3,.d (.i .u64 (x.2:Int)))] none []) (fun x=>x.1) (fun x=>(p0::ps).length-x.1) (0,p0) (by rfl) rfl ?_ ?_
 ·refine wkQ [] ?_ ?_
  ·simp[-ζ,upd,aR,Γ0]
  ·simp[-ζ,upd,aR,Γ0]
 ·rintro⟨k,p⟩ hk
  simp only at hk ⊢
  obtain⟨hp0,hp1⟩:=jA.pos hd hk
  have hlt:=(Aq.1 hk).1
  have hx:(psL (p0::ps))[k]? = some [.i .u64 (p:Int)]:=by
   unfold psL;rw[Ai,hk];rfl
  have hlen:(psL (p0::ps)).length=(p0::ps).length:=by simp[psL]
  generalize hL:(p0::ps)=L at *
  refine rC (by kernel_rfl) ?_
  simp[-ζ,-ξ,↓KW,↓aL,↓aF,↓aJ,↓aK,hp0]
  refine uM (P:=Aa) ?_
  refine nX ?_
  refine uM ?_
  refine aBg (P:=Aa) (by kernel_rfl) rfl ?_
  simp[-ζ,-ξ,↓KW,↓aL,↓aF,↓aJ,↓aK,hp0]
  refine aIe (dd:=[.i .u64 (p:Int)]) (l2:=[]) (by rfl) (by rfl) hx (by rfl) ?_
  rw[hlen]
  by_cases hl:k+1=L.length
  ·have e1:decide (k+1≠L.length)=false:=by simp[hl]
   rw[e1]
   simp[-ζ,-ξ,↓KW,↓aL,↓aF,↓aJ,↓aK,lG,fin]
   refine iG _ (by kernel_rfl) ?_
   simp[-ζ,-ξ,↓KW,↓aL,↓aF,↓aJ,↓aK,hlen,hl]
   exact⟨_,rfl⟩
  ·have e1:decide (k+1≠L.length)=true:=by simp[hl]
   rw[e1]
   obtain⟨q,hq⟩:∃ q,L[k+1]? = some q:=⟨_,Ab (by omega)⟩
   have hB:=jA.at hd hk hq
   simp[-ζ,-ξ,↓KW,↓aL,↓aF,↓aJ,↓aK,lG,fin]
   refine iG _ (by kernel_rfl) ?_
   simp[-ζ,-ξ,↓KW,↓aL,↓aF,↓aJ,↓aK]
   refine iG _ (by kernel_rfl) ?_
   simp[-ζ,-ξ,↓KW,↓aL,↓aF,↓aJ,↓aK]
   refine aH hB ?_
   simp[-ζ,-ξ,↓KW,↓aL,↓aF,↓aJ,↓aK]
   refine⟨(k+1,q),hq,by show L.length-(k+1)<L.length-k;omega,rfl,wkQ [] ?_ ?_⟩<;>simp[-ζ,upd,aR,Γ0]
theorem aEp[M:Mch Aa](n:Nat):Spec Aa 102 [.i .u64 n] (.fn 162 [.pt [.i .u64 n]]):=by
 refine bF (N:=4) Tryz.func102 ?_
 simp[-ζ,-ξ,↓KW,↓aL,↓aF,↓aJ,↓aK]
theorem dX{n:Nat}(h:n≤2147483648):(n+1)*8≤140737488355328∧n+1≤1099511627776∧(n+1+1)*8≤140737488355328∧n+1+1≤1099511627776:=by
 refine⟨by omega,by omega,by omega,by omega⟩
def cP(l:List Nat):D:=.sl (l.map fun(p:Nat)=>[.i .u64 (p:Int)])
def dU(l:List Nat):List D:=l.map fun(p:Nat)=>.i .u64 (p:Int)
theorem eK(l:List Nat):(dU l).length=l.length:=by simp[dU]
theorem jK(x:Nat)(a b:List Nat):dU (x::(a++b))=dU (x::a)++dU b:=by simp[dU]
theorem jT(x:Nat):dU [x]=[.i .u64 (x:Int)]:=rfl
theorem mV{l:List Nat}{n:Nat}(h:l.length=n):chunk 1 n (dU l)=l.map fun(p:Nat)=>[D.i .u64 (p:Int)]:=by
 rw[rB _ _ (by rw[eK];exact h.symm)];simp[dU]
theorem jP{l:List Nat}{n:Nat}(h:l.length=n):DH n ((dU l).map AV.d)=(dU l).map AV.d:=As (by simp[eK,h])
theorem bO{H H':Hp}{ρ:Nat→Nat}{a o l s b o' l' s':Nat}:mI H H' ρ (.own a o l s) (.own b o' l' s')↔(a=ρ b∧o=o'∧l=l'∧s=s'∧(H' b).isSome=true):=Iff.rfl
def prS(n:Int):List Nat→St
 |[]=>StL [(3,.ptr 1 0),(5,.ptr 2 0)] none [.cells 3 [.d (.i .i64 n)],.cells 46 [.nil]]
 |x::l=>StL [(3,.ptr 1 0),(5,.ptr 2 0)] none [.cells 3 [.d (.i .i64 n)],.cells 46 [.own 3 0 (l.length+1) 1],.cells 51 ((dU (x::l)).map .d)]
set_option maxHeartbeats 8000000 in
set_option maxRecDepth 10000 in
theorem sI[M:Mch Aa](n p0:Nat)(ps:List Nat)(hd:jA n (p0::ps))(hl:ps.length≤1000000) :
  Spec Aa 57 [.i .u64 n,.i .i64 ((ps.length+1:Nat):Int)] (cP (p0::ps)):=by
 have hx0:∀ k:Nat,(psL (p0::ps))[k]? = ((p0::ps)[k]?).map (fun(p:Nat)=>[D.i .u64 (p:Int)]):=fun k=>by simp only[psL,Ai]
 have hlen:(psL (p0::ps)).length=ps.length+1:=by simp[psL]
 have hseq:=aMd n p0 ps hd
 obtain⟨K,hK⟩:∃ K,K=ps.length+1:=⟨_,rfl⟩
 rw[←hK]at hlen ⊢
 have hLl:(p0::ps).length=K:=by rw[hK];rfl
 generalize hL:p0::ps=L at hx0 hlen hseq hLl hd ⊢
 have hK0:0<K:=by omega
 have hK1:¬(K=0):=by omega
 refine oV (N:=22) aW Tryz.func57 rfl rfl rfl (by kernel_rfl) (by kernel_rfl) (by simp) ?_
 refine cZ (by kernel_rfl) ?_
 simp[-ζ,-ξ,↓KW,↓aL,↓aF,↓aJ,↓aK]
 refine aBi ?_
 refine cZ (by kernel_rfl) ?_
 simp[-ζ,-ξ,↓KW,↓aL,↓aF,↓aJ,↓aK,hK1]
 refine cZ (by kernel_rfl) ?_
 simp[-ζ,-ξ,↓KW,↓aL,↓aF,↓aJ,↓aK]
 refine cZ (by kernel_rfl) ?_
 simp[-ζ,-ξ,↓KW,↓aL,↓aF,↓aJ,↓aK]
 refine aBh (P:=Aa) ?_
 refine cZ (by kernel_rfl) ?_
 simp[-ζ,-ξ,↓KW,↓aL,↓aF,↓aJ,↓aK]
 refine aH (aEp n) ?_
 simp[-ζ,-ξ,↓KW,↓aL,↓aF,↓aJ,↓aK]
 refine sO ?_
 refine pT (psL L) (fun k=>prS K (L.take k)) [6,11,12,13,14,15,16,17,18,19,20] (.exit 0) (.exit 0) (.inr ⟨0,rfl⟩) (gf:=162) (caps:=[.pt [.i .u64 n]]) (by rfl) (by rfl) (by rfl) hseq ?_ (by kernel_rfl) (by rw[hlen];omega) ?_ ?_ ?_
 ·rw[Bw]
  refine wkQ [1,2] ?_ ?_<;>simp[-ζ,upd,aR,Γ0]
 ·intro k x hk hx
  rw[hlen]at hk
  rw[hx0,Ae]at hx
  obtain⟨p,hp,rfl⟩:=hx
  refine⟨rfl,?_⟩
  rw[A3,hp,C0]
  have htl:(L.take k).length=k:=by rw[AT];omega
  generalize L.take k=T at htl ⊢
  cases T with
  | nil =>
   have hk0:k=0:=htl.symm
   have hKk:((1:Int)==(K:Int))=false:=by simp;omega
   show AWP _ _ ⟨upd (prS K []).Γ 11 (.d (.i .u64 (p:Int))),(prS K []).H,(prS K []).n⟩ _
   have hm1:(1:Nat)≤maxLen:=bT (by decide)
   simp[-ζ,-ξ,↓KW,↓aL,↓aF,↓aJ,↓aK,prS,hKk,hm1]
   refine wkQ [1,2,4] ?_ ?_<;>simp[-ζ,upd,aR,Γ0,Bl,bO,jK,jT]
  | cons y T =>
   have hk0:T.length+1=k:=htl
   have hKk:((T.length:Int)+1+1==(K:Int))=false:=by simp;omega
   have hbb:=dX (n:=T.length+1) (by omega)
   show AWP _ _ ⟨upd (prS K (y::T)).Γ 11 (.d (.i .u64 (p:Int))),(prS K (y::T)).H,(prS K (y::T)).n⟩ _
   simp[-ζ,-ξ,↓KW,↓aL,↓aF,↓aJ,↓aK,prS,hKk,eK,hbb,bT]
   refine wkQ [1,2,5] ?_ ?_<;>simp[-ζ,upd,aR,Γ0,Bl,bO,jK,jT]
 ·intro k x hk hx
  rw[hlen]at hk
  rw[hx0,Ae]at hx
  obtain⟨p,hp,rfl⟩:=hx
  refine⟨rfl,?_⟩
  rw[A3,hp,C0]
  have htl:(L.take k).length=k:=by rw[AT];omega
  generalize L.take k=T at htl ⊢
  cases T with
  | nil =>
   have hk0:k=0:=htl.symm
   have hKk:((1:Int)==(K:Int))=true:=by simp;omega
   show AWP _ _ ⟨upd (prS K []).Γ 11 (.d (.i .u64 (p:Int))),(prS K []).H,(prS K []).n⟩ _
   have hm1:(1:Nat)≤maxLen:=bT (by decide)
   simp[-ζ,-ξ,↓KW,↓aL,↓aF,↓aJ,↓aK,prS,hKk,hm1]
   refine wkQ [1,2,4] ?_ ?_<;>simp[-ζ,upd,aR,Γ0,Bl,bO,jK,jT]
  | cons y T =>
   have hk0:T.length+1=k:=htl
   have hKk:((T.length:Int)+1+1==(K:Int))=true:=by simp;omega
   have hbb:=dX (n:=T.length+1) (by omega)
   show AWP _ _ ⟨upd (prS K (y::T)).Γ 11 (.d (.i .u64 (p:Int))),(prS K (y::T)).H,(prS K (y::T)).n⟩ _
   simp[-ζ,-ξ,↓KW,↓aL,↓aF,↓aJ,↓aK,prS,hKk,eK,hbb,bT]
   refine wkQ [1,2,5] ?_ ?_<;>simp[-ζ,upd,aR,Γ0,Bl,bO,jK,jT]
 ·rw[hlen,←hLl,List.take_length,←hL]
  simp[-ζ,-ξ,↓KW,↓aL,↓aF,↓aJ,↓aK,prS]
  refine aBj _ (by kernel_rfl) ?_
  have hln2:(p0::ps).length=ps.length+1:=rfl
  have hfl:=eK (p0::ps)
  rw[hln2]at hfl
  simp[-ζ,-ξ,↓KW,↓aL,↓aF,↓aJ,↓aK,prS,cP,hfl,mV hln2,jP hln2]
set_option maxRecDepth 10000 in
theorem aJu[M:Mch Aa](n:Nat):Spec Aa 57 [.i .u64 n,.i .i64 0] (cP []):=by
 refine oV (N:=22) aW Tryz.func57 rfl rfl rfl (by kernel_rfl) (by kernel_rfl) (by simp) ?_
 refine cZ (by kernel_rfl) ?_
 simp[-ζ,-ξ,↓KW,↓aL,↓aF,↓aJ,↓aK]
 refine aBi ?_
 refine cZ (by kernel_rfl) ?_
 simp[-ζ,-ξ,↓KW,↓aL,↓aF,↓aJ,↓aK,cP]
end Go.Am
end
section
open List renaming map_map→ζ,mapM_map→ξ
namespace Go.Am
open Go.Conc
open RowKit (Below)
section
variable {P:Program} [M:Mch P]
theorem wG {f N:Nat} {fn:Func} {c:Code} {h:AV} {o o':HO} {args:List D} (hf:P.funcs[f]? = some fn) (hb:fn.body=some c) (hname:(fn.name == "runtime.NumGoroutine")=false) (hN:fn.ntmps=N)
    (ha:args.length+1≤N) (hno':lH o'=true)
    (hA:∀(G:Ctx) (a:Act) (w:World),(∀ d,G.Z d=none)→SR G N [] (St1 h o args N) a w→WC P c (fun e a' w'=>∃ σ,((e=.normal∨e=.ret)∧iX P fn.results.toList σ=some (.tp [])∧σ.H 0=some o')∧SR G N [] σ a' w') a w):jW P f h o args o' (.tp []):=by
  intro A W vs b hAl hAb hbl hob hl hv0 hv
  have hn:¬ fn.name = "runtime.NumGoroutine" := by simpa using hname
  refine⟨fun w=>by simp[callFunc,hf,hn,hb],?_⟩
  refine gZ hf hb ?_
  subst hN
  refine(WpR.plain P).okv fun hok=>?_
  have hsr:=SR1 (N:=fn.ntmps) hok hAl hAb hbl hob hl hv0 hv ha
  refine cG (hA _ _ _ (fun _=>rfl) hsr) ?_
  rintro e a w0 ⟨σ,⟨he,hr,hH0⟩,hs0⟩
  have hend:a.defers=[]∧∀ w,Env w0 w→∃ v,aP P (results fn a.tmps) w=.ok v w∧∃ ob',Kept (·=b) W.heap.size W w∧w.heap[b]? = some ob' ∧
      (∀ cur e,W.heap[b]? = some (.cells cur e (0,0))→∃ cur',ob'=.cells cur' e (0,0)∧cur'.size=cur.size) ∧
      CR (fun k=>A k∨(W.heap.size≤k∧k<w.heap.size)) w (ι1 b) o' ob'∧VD (fun k=>A k∨(W.heap.size≤k∧k<w.heap.size)) w (.tp []) v:=by
   refine⟨hs0.2.2.2.elim fun _ h=>h.elim fun _ h=>h.2.2.2.2.1,fun w henv=>?_⟩
   have hs:=hs0.env henv
   obtain⟨_,_,_,F,ι,hR,hdom,hVs,_,hdf,hp⟩:=hs
   obtain⟨v,hrun,hvd⟩:=nC hR hVs hr
   obtain⟨b',hb'⟩:=(hdom 0).2 (by rw[hH0];rfl)
   have hbb:=hp b' hb'
   simp only at hbb
   subst hbb
   obtain⟨ob',hob',hcr⟩:=hR.obj 0 b' o' hb' hH0
   have hnF:¬F b':=(hR.place 0 b' hb').2.2 (fun x=>x)
   have hFA:∀ k,F k→A k∨(W.heap.size≤k∧k<w.heap.size):=fun k hk=>by
     rcases hR.F_ok k hk with h|h|h
     · exact .inl h
     · simp only at h;subst h;exact(hnF hk).elim
     · exact .inr ⟨h,hR.F_lt k hk⟩
   refine⟨v,hrun,ob',hR.kept,hob',fun cur e he=>?_,(aBx hno' hcr).step ⟨hFA,fun _ _=>rfl,fun _ _ h=>h,fun _ _ cur _ _ h=>⟨cur,h,rfl⟩⟩,?_⟩
   · obtain⟨cur',h1,h2⟩:=hR.kept.shape b' cur e hbl he
     rw[hob']at h1;injection h1 with h1
     exact⟨cur',h1,h2⟩
   · cases hvd with|tp ds vs hl hh=>exact .tp _ _ hl fun k d v hk=>by simp at hk
  rcases he with rfl|rfl<;>exact hend
def bBv(P:Program)(E:Kn)(fuel:Nat)(f:FuncId)(h:AV)(o:HO)(args:List D):Option (HO×D) :=
  match P.funcs[f]? with
  |none=>none
  | some fn=>match fn.body with
    | some c=>if aWx P fn c&&decide (args.length+1≤fn.ntmps)then match ex P E fuel c (St1 h o args fn.ntmps)with
      | some (e,σ)=>match σ.H 0,bPd P fn (some (e,σ))with
        |some o',some (.tp [])=>if lH o' then some (o',.tp [])else none
        |_,_=>none
      |none=>none
      else none
    |_=>none
theorem aJb{E:Kn}{fuel:Nat}(hm:P.follows .mixedOrders=true)(hE:aIb P E){f:FuncId}{h0:AV}{o o':HO}{args:List D}{r:D}(h:bBv P E fuel f h0 o args=some (o',r)):jW P f h0 o args o' r:=by
  unfold bBv at h
  split at h
  · cases h
  rename_i fn hfn
  split at h
  case h_2=>cases h
  rename_i c hc
  split at h
  case isFalse=>cases h
  rename_i hok
  simp only[aWx,A1,CQ,BP]at hok
  obtain⟨⟨⟨h1,h2⟩,h3⟩,h4⟩:=hok
  split at h
  case h_2=>cases h
  rename_i e σ hex
  split at h
  case h_2=>cases h
  rename_i o1 hH hr
  split at h
  case isFalse=>cases h
  rename_i hfl
  injection h with h;injection h with e1 e2;subst e1;subst e2
  obtain⟨he,hr3⟩:=vQ hr
  refine wG hfn hc h3 rfl h4 hfl fun G a w hZ hs=>cG (aAm hE hm hZ fuel c _ a w _ _ h1 h2 hex hs) ?_
  rintro e' a' w' ⟨rfl,hs'⟩
  exact⟨σ,⟨he,hr3,hH⟩,hs'⟩
def jV(P:Program)(E:Kn)(fuel:Nat):Nat→Kn
  |0=>{ E with call:=fun _ _=>none,ocall:=fun _ _ _ _=>none }
  | n+1=>{ E with
      call:=fun f args=>match E.call f args with|some r=>some r|none=>bTq P (jV P E fuel n) fuel f args
      ocall:=fun f h o args=>match E.ocall f h o args with|some r=>some r|none=>match o with
        |.cells _ _=>bBv P (jV P E fuel n) fuel f h o args
        |_=>bBw P (jV P E fuel n) fuel f h o args }
theorem oZ{E:Kn}{fuel:Nat}(hm:P.follows .mixedOrders=true)(hE:aIb P E):∀ n,aIb P (jV P E fuel n)
  |0=>⟨(fun _ _ _ h=>by cases h),(fun _ _ _ _ _ _ h=>by cases h),hE.keys,hE.sorted⟩
  | n+1=>by
    have ih:=oZ (fuel:=fuel) hm hE n
    refine⟨fun f ds r h=>?_,fun f h0 o ds o' r h=>?_,hE.keys,hE.sorted⟩
    · unfold jV at h
      simp only at h
      split at h
      · rename_i r' hr';injection h with h;subst h;exact hE.call _ _ _ hr'
      · exact aOa hm ih h
    · unfold jV at h
      simp only at h
      split at h
      · rename_i r' hr';injection h with h;subst h;exact hE.ocall _ _ _ _ _ _ hr'
      · split at h
        · exact aJb hm ih h
        · exact aJc hm ih h
def E00:Kn:=⟨fun _ _=>none,fun _ _ _ _=>none,fun _=>none,fun _ _=>false⟩
end
end Go.Am
end
section
open List renaming map_map→ζ,mapM_map→ξ
open Go Go.Am Go.Proofs
namespace Go.Am
theorem xR[M:Mch Aa](x p:Nat)(hp:0<p):Spec Aa 100 [.i .u64 x,.i .u64 p] (.i .u64 (x%p:Nat)):=by
 refine bF (N:=10) Tryz.func100 ?_
 have h0:((p:Int)==0)=false:=by simp;omega
 have ht:((x:Int).tmod (p:Int))=(x:Int)%(p:Int):=Ce (by omega)
 have h1:¬p=0:=by omega
 simp[-ζ,-ξ,↓KW,h0,h1,ht]
theorem xW[M:Mch Aa](p a b:Nat)(hp:0<p)(hab:a*b<18446744073709551616):Spec Aa 89 [.i .u64 p,.i .u64 a,.i .u64 b] (.i .u64 (a*b%p:Nat)):=by
 refine bF (N:=12) Tryz.func89 ?_
 have hw:AA.wrap ((a:Int)*(b:Int))=((a*b:Nat):Int):=by rw[←CC];exact wrap_u64 (by omega) (by omega)
 have hR:=xR (a*b) p hp
 generalize a*b%p=r at *
 generalize a*b=z at *
 simp[-ζ,-ξ,↓KW,hw]
 refine aH hR ?_
 simp[-ζ,-ξ,↓KW]
def sK(p:Nat):Nat→Nat→Nat→Nat→Nat
 |0,r,_,_=>r
 |n+1,r,a,e=>if e=0 then r else sK p n (if e%2=1 then r*a%p else r) (a*a%p) (e/2)
theorem aVq(p n r a:Nat):sK p n r a 0=r:=by cases n<;>simp[sK]
set_option maxHeartbeats 4000000 in
set_option maxRecDepth 10000 in
theorem aRs[M:Mch Aa](p a e:Nat)(hp:0<p)(hp1:p≤2147483648)(ha:a≤2147483648)(he:e<18446744073709551616) :
  Spec Aa 99 [.i .u64 p,.i .u64 a,.i .u64 e] (.i .u64 (sK p 64 (1%p) a e:Nat)):=by
 refine bF (N:=26) Tryz.func99 ?_
 have hR:=xR 1 p hp
 simp[-ζ,-ξ,↓KW]
 refine aH hR ?_
 simp[-ζ,-ξ,↓KW]
 have hm:∀ x:Nat,x%p≤2147483648:=fun x=>by have:=B9 x hp;omega
 have hmm:∀ x y:Nat,x≤2147483648→y≤2147483648→x*y<18446744073709551616:=fun x y h1 h2=>Bo (Bg h1 h2) (by decide)
 obtain⟨R,hRR⟩:∃ R,sK p 64 (1%p) a e=R:=⟨_,rfl⟩
 have hc1:((1:Int)%(p:Int))=((1%p:Nat):Int):=by simp
 rw[hRR,hc1]
 have hr0:=hm 1
 generalize 1%p=r0 at *
 refine lP (τ:={ x:Nat×Nat×Nat×Nat // sK p x.1 x.2.1 x.2.2.1 x.2.2.2=R∧x.2.2.2<2^x.1∧x.1≤64∧x.2.1≤2147483648∧x.2.2.1≤2147483648 })
  (S:=fun x=>StL [(0,.d (.i .u64 p)),(1,.d (.i .u64 (x.1.2.2.1:Nat))),(2,.d (.i .u64 (x.1.2.2.2:Nat))),(7,.d (.i .u64 (x.1.2.1:Nat)))] none []) (m:=fun x=>x.1.1) ⟨(64,r0,a,e),hRR,by simpa using he,Az _,hr0,ha⟩ ?_ ?_
 ·refine wkQ [] ?_ ?_<;>simp[-ζ,upd,aR,Γ0]
 ·rintro⟨⟨n,r,a,e⟩,h1,h2,h3,h4,h5⟩
  simp only at h1 h2 h3 h4 h5 ⊢
  rcases Bf e with he0|he0
  ·subst he0
   rw[aVq]at h1
   subst h1
   simp[-ζ,-ξ,↓KW]
  ·obtain⟨n,rfl⟩:∃ k,n=k+1:=by
    cases n with
    |zero=>simp at h2;omega
    |succ n=>exact⟨n,rfl⟩
   have hsh:dW .shr .u64 (e:Int) 1=some (.i .u64 ((e/2:Nat):Int)):=by
    simp only[dW,CB]
    rw[Aj (by decide)]
    congr 2
    rw[show(2:Int)^(min (1:Int).toNat 64)=2 from by decide,CK _ (by decide)]
    simp
   have heb:e<18446744073709551616:=A4 h2 (AO (B4 (by decide) h3) (by decide))
   have hbt:bits .and .u64 (e:Int) 1=((e%2:Nat):Int):=by
    have:=bits_and_u64_nat e 1 heb (by decide)
    rw[Nat.and_one_is_mod]at this
    exact this
   have hn2:e/2<2^n:=by rw[BI]at h2;omega
   unfold sK at h1
   rw[Aj (by omega)]at h1
   have hM2:=xW p a a hp (hmm a a h5 h5)
   have hm2:=hm (a*a)
   generalize a*a%p=a2 at *
   generalize e/2=e2 at *
   by_cases hodd:e%2=1
   ·have hM1:=xW p r a hp (hmm r a h4 h5)
    have hm1:=hm (r*a)
    rw[Ar hodd]at h1
    generalize r*a%p=r2 at *
    rw[hodd]at hbt
    replace hbt:dJ .and false (.d (.i .u64 (e:Int))) (.d (.i .u64 1))=some (.i .u64 1):=by show some (D.i .u64 (bits .and .u64 (e:Int) 1))=_;rw[hbt];rfl
    simp[-ζ,-ξ,↓KW,he0,hbt]
    refine aH hM1 ?_
    simp[-ζ,-ξ,↓KW]
    refine aH hM2 ?_
    simp[-ζ,-ξ,↓KW,hsh]
    refine⟨n,Ci _,r2,a2,e2,⟨h1,hn2,by omega,hm1,hm2⟩,.inr (wkQ [] ?_ ?_)⟩<;>simp[-ζ,upd,aR,Γ0]
   ·have hz:e%2=0:=by omega
    rw[Aj hodd]at h1
    rw[hz]at hbt
    replace hbt:dJ .and false (.d (.i .u64 (e:Int))) (.d (.i .u64 1))=some (.i .u64 0):=by show some (D.i .u64 (bits .and .u64 (e:Int) 1))=_;rw[hbt];rfl
    simp[-ζ,-ξ,↓KW,he0,hbt]
    refine aH hM2 ?_
    simp[-ζ,-ξ,↓KW,hsh]
    refine⟨n,Ci _,r,a2,e2,⟨h1,hn2,by omega,h4,hm2⟩,.inr (wkQ [] ?_ ?_)⟩<;>simp[-ζ,upd,aR,Γ0]
def EPc(f:FuncId)(ds:List D):Option D :=
 if f=99 then match ds with
  |[.i .u64 p,.i .u64 a,.i .u64 e]=>if 0<p∧p≤2147483648∧0≤a∧a≤2147483648∧0≤e∧e<18446744073709551616 then some (.i .u64 (sK p.toNat 64 (1%p.toNat) a.toNat e.toNat:Nat))else none
  |_=>none
 else if f=89 then match ds with
  |[.i .u64 p,.i .u64 a,.i .u64 b]=>if 0<p∧0≤a∧0≤b∧a*b<18446744073709551616 then some (.i .u64 (a.toNat*b.toNat%p.toNat:Nat))else none
  |_=>none
 else none
theorem bWh[M:Mch Aa]{f:FuncId}{ds:List D}{r:D}(h:EPc f ds=some r):Spec Aa f ds r:=by
 unfold EPc at h
 split at h
 ·rename_i hf;subst hf
  split at h
  ·rename_i p a e
   split at h
   ·rename_i hc
    injection h with h;subst h
    obtain⟨h1,h2,h3,h4,h5,h6⟩:=hc
    have:=aRs p.toNat a.toNat e.toNat (by omega) (by omega) (by omega) (by omega)
    rwa [B0 (by omega),B0 h3,B0 h5]at this
   ·cases h
  ·cases h
 ·split at h
  ·rename_i hf;subst hf
   split at h
   ·rename_i p a b
    split at h
    ·rename_i hc
     injection h with h;subst h
     obtain⟨h1,h2,h3,h4⟩:=hc
     have:=xW p.toNat a.toNat b.toNat (by omega) (by
      have:((a.toNat*b.toNat:Nat):Int)=a*b:=by rw[CC,B0 h2,B0 h3]
      omega)
     rwa [B0 (by omega),B0 h2,B0 h3]at this
    ·cases h
   ·cases h
  ·cases h
def EP:Kn:={ E00 with call:=EPc }
theorem aTn[M:Mch Aa]:aIb Aa EP:=⟨fun f ds r h=>bWh h,fun _ _ _ _ _ _ h=>by(cases h),fun _ _ h=>by(cases h),fun _ _ h=>by(cases h)⟩
noncomputable def prB(n:Nat):Nat:=match(jV Aa EP 100 20).call 52 [.i .u64 n]with
 |some (.b true)=>1
 |some (.b false)=>2
 |_=>0
theorem bCn[M:Mch Aa]{n:Nat}{b:Bool}(h:prB n=if b then 1 else 2):Spec Aa 52 [.i .u64 n] (.b b):=by
 refine(oZ (fuel:=100) aW aTn 20).call _ _ _ ?_
 unfold prB at h
 split at h
 ·rename_i he;rw[he];cases b<;>first|rfl|cases h
 ·rename_i he;rw[he];cases b<;>first|rfl|cases h
 ·cases b<;>cases h
noncomputable def aAc(n m:Nat):Bool:=(AK (n-m)).all fun k=>prB (m+k)==if k==0 then 1 else 2
theorem fQ[M:Mch Aa]{n m:Nat}(h:m<n)(hn:n≤2147483648)(hg:aAc n m=true):Spec Aa 163 [.i .u64 n] (.i .u64 m):=by
 refine aQh n m h hn fun v h1 h2=>bCn ?_
 have:=A6.1 hg (v-m) (CJ.2 (by omega))
 rw[show m+(v-m)=v from by omega,beq_iff_eq]at this
 rw[this]
 by_cases hv:v=m
 ·subst hv;simp
 ·have:v-m≠0:=by omega
  simp[hv,this]
theorem cAw:aAc 2147483648 2147483647=true:=by kernel_rfl
theorem cAv:aAc 2147483647 2147483629=true:=by kernel_rfl
theorem cAu:aAc 2147483629 2147483587=true:=by kernel_rfl
theorem cAt:aAc 2147483587 2147483579=true:=by kernel_rfl
theorem cAs:aAc 2147483579 2147483563=true:=by kernel_rfl
theorem cAr:aAc 2147483563 2147483549=true:=by kernel_rfl
theorem cAq:aAc 2147483549 2147483543=true:=by kernel_rfl
theorem cAp:aAc 2147483543 2147483497=true:=by kernel_rfl
theorem cAo:aAc 2147483497 2147483489=true:=by kernel_rfl
theorem cAn:aAc 2147483489 2147483477=true:=by kernel_rfl
def P10:List Nat:=[2147483647,2147483629,2147483587,2147483579,2147483563,2147483549,2147483543,2147483497,2147483489,2147483477]
theorem bGq[M:Mch Aa]:jA 2147483648 P10 :=
 ⟨by decide,by decide,fQ (by decide) (by decide) cAw,by decide,by decide,fQ (by decide) (by decide) cAv,by decide,by decide,fQ (by decide) (by decide) cAu,by decide,by decide,fQ (by decide) (by decide) cAt,by decide,by decide,fQ (by decide) (by decide) cAs,by decide,by decide,fQ (by decide) (by decide) cAr,by decide,by decide,fQ (by decide) (by decide) cAq,by decide,by decide,fQ (by decide) (by decide) cAp,by decide,by decide,fQ (by decide) (by decide) cAo,by decide,by decide,fQ (by decide) (by decide) cAn,trivial⟩
theorem jA.drop[M:Mch Aa]:∀{k n:Nat} {l:List Nat},jA n l→k<l.length→jA (if k=0 then n else l[k-1]!) (l.drop k)
 |0,n,l,h,_=>h
 |k+1,n,[],h,hk=>by simp at hk
 |1,n,x::l,h,hk=>h.2.2.2
 | k+2,n,x::l,h,hk=>by
  have:=jA.drop (k:=k+1) h.2.2.2 (by simp only[Ah]at hk;omega)
  simpa using this
theorem jA.take[M:Mch Aa]:∀{k n:Nat} {l:List Nat},jA n l→jA n (l.take k)
 |0,n,l,h=>trivial
 |k+1,n,[],h=>trivial
 |k+1,n,x::l,h=>⟨h.1,h.2.1,h.2.2.1,jA.take h.2.2.2⟩
theorem aXl(m n:Nat):kY (aN m) (aN n)=0↔m=n:=by
 unfold kY
 rw[fG,fG]
 by_cases h1:m<n
 ·simp[h1];omega
 ·by_cases h2:n<m
  ·simp[h1,h2];omega
  ·simp[h1,h2];omega
theorem bHb(a b:List Nat):-1≤kY a b∧kY a b≤1:=by
 unfold kY
 split
 ·exact⟨by decide,by decide⟩
 ·split<;>exact⟨by decide,by decide⟩
theorem bHa(m n:Nat):kY (aN m) (aN n)=if m<n then -1 else if n<m then 1 else 0:=by
 unfold kY
 rw[fG,fG]
 by_cases h1:m<n
 ·simp[h1]
 ·by_cases h2:n<m
  ·simp[h1,h2]
  ·simp[h1,h2]
theorem jH(x:Int):x.sign=if x<0 then -1 else if x=0 then 0 else 1:=by
 rcases Fj x 0 with h|h|h
 ·rw[DI h,Ar h]
 ·subst h;rfl
 ·rw[Dz h,Aj (by omega),Aj (by omega)]
theorem bKz{x y:Int}(hs:x.sign=y.sign):0<x.sign*kY (aN x.natAbs) (aN y.natAbs)↔y<x:=by
 rw[bHa]
 rw[jH,jH]at hs
 rw[jH]
 split at hs<;>(try split at hs)<;>(try split at hs)<;>(try split at hs)<;>simp_all<;>(try omega)
 all_goals (split<;>(try split)<;>omega)
theorem bAx{x y:Int}(hs:¬x.sign=y.sign):0<mH x.sign y.sign↔y<x:=by
 unfold mH
 rw[jH,jH]at hs ⊢
 split at hs<;>(try split at hs)<;>(try split at hs)<;>(try split at hs)<;>simp_all<;>(try omega)
theorem aSp[M:Mch Aa](x y:Int)(hx:Sz x)(hy:Sz y):∃ r:Int,Spec Aa 48 [encZ x,encZ y] (.i .i64 r)∧(0<r↔y<x):=by
 have hSx:=zV x hx
 have hSy:=zV y hy
 have hTx:=lR (aN x.natAbs) (AO hx (by decide))
 have hTy:=lR (aN y.natAbs) (AO hy (by decide))
 rw[oU (kZ _)]at hTx hTy
 have hC:=zW (aN x.natAbs) (aN y.natAbs) (bW _) (bW _) (AO hx (by decide)) (AO hy (by decide))
 have hc0:=aXl x.natAbs y.natAbs
 have hcb:=bHb (aN x.natAbs) (aN y.natAbs)
 have hI:=bHc x.sign y.sign
 by_cases hs:x.sign=y.sign
 ·refine⟨x.sign*kY (aN x.natAbs) (aN y.natAbs),?_,?_⟩
  rotate_left
  ·exact bKz hs
  ·refine bF (N:=26) Tryz.func48 ?_
   have hne:((x.sign != y.sign):Bool)=false:=by simp[hs]
   have hsb:-1≤x.sign∧x.sign≤1:=by
    rcases Fj x 0 with h|h|h
    ·rw[DI h];decide
    ·subst h;decide
    ·rw[Dz h];decide
   generalize kY (aN x.natAbs) (aN y.natAbs)=r at *
   generalize y.sign=sy at *
   generalize x.sign=sx at *
   have hw:Ag.wrap (sx*r)=sx*r:=by
    have h1:sx=-1∨sx=0∨sx=1:=by omega
    rcases h1 with rfl|rfl|rfl<;>exact aU
   simp[-ζ,-ξ,↓KW,bB,aA,aD,aC,aE,aB]
   refine aH hSx ?_
   simp[-ζ,-ξ,↓KW,bB,aA,aD,aC,aE,aB]
   refine aH hSy ?_
   simp[-ζ,-ξ,↓KW,hne,aA,aD,aC,aE,aB]
   refine aH hTx ?_
   simp[-ζ,-ξ,↓KW,aA,aD,aC,aE,aB]
   refine aH hTy ?_
   simp[-ζ,-ξ,↓KW,aA,aD,aC,aE,aB]
   refine aH hC ?_
   simp[-ζ,-ξ,↓KW,hw,aA,aD,aC,aE,aB]
 ·refine⟨mH x.sign y.sign,?_,?_⟩
  rotate_left
  ·exact bAx hs
  ·refine bF (N:=26) Tryz.func48 ?_
   have hne:((x.sign != y.sign):Bool)=true:=by simpa using hs
   generalize y.sign=sy at *
   generalize x.sign=sx at *
   simp[-ζ,-ξ,↓KW,bB,aA,aD,aC,aE,aB]
   refine aH hSx ?_
   simp[-ζ,-ξ,↓KW,bB,aA,aD,aC,aE,aB]
   refine aH hSy ?_
   simp[-ζ,-ξ,↓KW,hne,aA,aD,aC,aE,aB]
   refine aH hI ?_
   simp[-ζ,-ξ,↓KW]
theorem eR{P:Program}(σ:St)(x y:ResultVar):iX P [x,y] σ=(jS P σ x).bind fun a=>(jS P σ y).bind fun b=>(frz σ.H 8 a).bind fun u=>(frz σ.H 8 b).bind fun v=>some (.tp [u,v]):=by
 unfold iX
 cases h1:jS P σ x<;>cases h2:jS P σ y<;>simp[cQ,h1,h2]
 rename_i a b
 cases frz σ.H 8 a<;>cases frz σ.H 8 b<;>simp
theorem aOd{P:Program}(σ:St)(x y z:ResultVar):iX P [x,y,z] σ=(jS P σ x).bind fun a=>(jS P σ y).bind fun b=>(jS P σ z).bind fun c=>(frz σ.H 8 a).bind fun u=>(frz σ.H 8 b).bind fun v=>(frz σ.H 8 c).bind fun w=>some (.tp [u,v,w]):=by
 unfold iX
 cases h1:jS P σ x<;>cases h2:jS P σ y<;>cases h3:jS P σ z<;>simp[cQ,h1,h2,h3]
 rename_i a b c
 cases frz σ.H 8 a<;>cases frz σ.H 8 b<;>cases frz σ.H 8 c<;>simp
def shS(a:List Nat)(d:Nat):Nat→List Nat×Nat
 |0=>(Ax a.length 0,0)
 |k+1=>((shS a d k).1.set (a.length-1-k) (((shS a d k).2*4294967296+a.getD (a.length-1-k) 0)/d),((shS a d k).2*4294967296+a.getD (a.length-1-k) 0)%d)
theorem bAw{o v v' p q d r r' x t t' w:Nat}(hs:v'+p*o=v+p*q)(ho:o=0)(ht:r*4294967296+x=t)(hq:r'+d*q=t)(hv:v*d+p*4294967296*r+(t'+p*x)=w):v'*d+p*r'+t'=w:=by
 subst ho
 have h1:v'=v+p*q:=by omega
 have h2:p*t=p*(r*4294967296)+p*x:=by rw[←ht,Cq]
 have h3:p*t=p*r'+p*(d*q):=by rw[←hq,Cq]
 have h4:p*q*d=p*(d*q):=by rw[BU,BV q]
 have h5:p*4294967296*r=p*(r*4294967296):=by rw[BU,BV r]
 rw[h1,B2,h4]
 omega
theorem bRa{r x d:Nat}(hr:r<d)(hx:x<4294967296):(r*4294967296+x)/d<4294967296:=by
 rw[Nat.div_lt_iff_lt_mul (by omega)]
 have:r*4294967296+4294967296≤d*4294967296:=by
  have:=B3 4294967296 (Nat.succ_le_of_lt hr)
  rw[Nat.succ_mul]at this;exact this
 rw[BV 4294967296]
 omega
theorem aRe{a:List Nat}{d:Nat}(ha:Lim a)(hd:0<d)(k:Nat)(hk:k≤a.length) :
  (shS a d k).1.length=a.length∧(shS a d k).2<d∧Lim (shS a d k).1∧(∀ i,i<a.length-k→(shS a d k).1.getD i 0=0) ∧
  val (shS a d k).1*d+4294967296^(a.length-k)*(shS a d k).2+val (a.take (a.length-k))=val a:=by
 induction k with
 |zero=>exact⟨by simp[shS],hd,.rep _,fun i _=>by simp[shS,Dk];split<;>rfl,by simp[shS,xM]⟩
 | succ k ih =>
  obtain⟨h1,h2,h3,h4,h5⟩:=ih (by omega)
  obtain⟨j,hj⟩:∃ j,a.length-1-k=j:=⟨_,rfl⟩
  have hj1:a.length-k=j+1:=by omega
  have hj2:a.length-(k+1)=j:=by omega
  have hx:=ha.getD j
  have hset:=aFk (l:=(shS a d k).1) (j:=j) (by omega) (((shS a d k).2*4294967296+a.getD j 0)/d)
  have hoj:=h4 j (by omega)
  simp only[shS,hj,hj2]
  rw[hj1,cH,BI]at h5
  have hlt:=bRa h2 hx
  refine⟨by simp[h1],B9 _ hd,h3.set _ hlt,fun i hi=>?_,?_⟩
  ·rw[Af,List.getElem?_set_ne (by omega),←Af]
   exact h4 i (by omega)
  ·exact bAw hset hoj rfl (Nat.mod_add_div _ _) h5
def shQ(a:List Nat)(d:Nat):List Nat:=(shS a d a.length).1
theorem aFp{a:List Nat}{d:Nat}(ha:Lim a)(hd:0<d):(shQ a d).length=a.length∧Lim (shQ a d)∧val (shQ a d)=val a/d∧(shS a d a.length).2=val a%d:=by
 obtain⟨h1,h2,h3,_,h5⟩:=aRe ha hd a.length (Az _)
 rw[Eo,Nat.pow_zero,De,Bw,val,B5]at h5
 have:=(Nat.div_mod_unique hd).2 ⟨show(shS a d a.length).2+d*val (shQ a d)=val a by rw[BV,EL];exact h5,h2⟩
 exact⟨h1,h3,this.1.symm,this.2.symm⟩
set_option maxRecDepth 10000 in
theorem aJl[M:Mch Aa](a:List Nat)(d:Nat)(ha:Lim a)(hd:0<d)(hd2:d<4294967296)(hla:a.length≤1099511627776):Spec Aa 196 [aG a,.i .u32 d] (.tp [aG (shQ a d),.i .u32 ((val a%d:Nat):Int)]):=by
 refine bF (N:=42) Tryz.func196 ?_
 obtain⟨n,hn⟩:∃ n,a.length=n:=⟨_,rfl⟩
 have hm1:(4:Int)*n≤281474976710656:=by omega
 have hm2:(n:Int)≤9223372036854775807:=by omega
 have hw1:Ag.wrap ((n:Int)-1)=(n:Int)-1:=aU
 have hwd:AA.wrap (d:Int)=d:=wrap_u64 (by omega) (by omega)
 have hdz:¬d=0:=by omega
 have h00:(shS a d 0).1=Ax n 0:=by rw[←hn];rfl
 have h01:(shS a d 0).2=0:=rfl
 simp[-ζ,-ξ,↓KW,aG,hn,hw1,hm1,hm2]
 refine cM (fun k:Nat=>k≤n)
  (fun k=>StL [(0,.d (aG a)),(1,.d (.i .u32 d)),(6,.own 1 0 n 1),(7,.d (.i .u64 (shS a d k).2)),(8,.d (.i .i64 ((n:Int)-1-k)))] none
   [.cells 89 ((lms (shS a d k).1).map .d)]) (fun k=>n-k) 0 (A5 _) ?_ ?_
 ·refine wkQ [1] ?_ ?_<;>simp[-ζ,upd,aR,Γ0,aG,h00,h01]
 ·intro k hk
  obtain⟨ol,oc,om,_,_⟩:=aRe ha hd k (by omega)
  rw[hn]at ol
  by_cases hgo:k<n
  ·have q1:(0:Int)≤(n:Int)-1-k:=by omega
   obtain⟨j,hj⟩:∃ j,a.length-1-k=j:=⟨_,rfl⟩
   have hji:(n:Int)-1-k=j:=by omega
   have hsucc:shS a d (k+1)=((shS a d k).1.set j (((shS a d k).2*4294967296+a.getD j 0)/d),((shS a d k).2*4294967296+a.getD j 0)%d):=by rw[←hj];rfl
   have g1:=getD_some (l:=a) (i:=j) (by omega)
   have hx:=ha.getD j
   have hlt:=bRa oc hx
   generalize hout:(shS a d k).1=out at *
   generalize hcar:(shS a d k).2=r at *
   generalize a.getD j 0=x at *
   obtain⟨t,ht⟩:∃ t,r*4294967296+x=t:=⟨_,rfl⟩
   rw[ht]at hsucc hlt
   obtain⟨q,hq⟩:∃ q,t/d=q:=⟨_,rfl⟩
   obtain⟨r',hr'⟩:∃ r',t%d=r':=⟨_,rfl⟩
   rw[hq,hr']at hsucc
   rw[hq]at hlt
   have hr'd:r'<d:=by rw[←hr'];exact B9 _ hd
   have hwx:AA.wrap (x:Int)=x:=wrap_u64 (by omega) (by omega)
   have hwr:AA.wrap ((r:Int)*4294967296)=(r:Int)*4294967296:=wrap_u64 (by omega) (by omega)
   have hwt:AA.wrap ((r:Int)*4294967296+x)=t:=by rw[wrap_u64 (by omega) (by omega)];omega
   have hwq:AA.wrap ((t:Int)/d)=q:=by rw[←ER,hq,wrap_u64 (by omega) (by omega)]
   have hwq2:BC.wrap (q:Int)=q:=wrap_u32 (by omega) (by omega)
   have hwm:Int.tmod (t:Int) d=r':=by rw[←Int.ofNat_tmod,hr']
   have hw8:Ag.wrap ((j:Int)-1)=(j:Int)-1:=aU
   have hjn:j<n:=by omega
   have hjl3:j+1≤n:=by omega
   have hlay:lay (Co AV.d (lms out)) j [AV.d (D.i .u32 (q:Int))]=Co AV.d (lms (out.set j q)):=by
    rw[fH _ _ _ (by rw[jJ];omega),tR]
   have he:(n:Int)-1-((k:Int)+1)=(j:Int)-1:=by omega
   rw[hji]
   simp[-ζ,-ξ,↓KW,aG,g1,hwx,hwr,hwt,hwd,hdz,hwq,hwq2,hwm,hw8,hjn,hjl3,hlay,ol]
   refine aM (k+1) hgo ?_ (wkQ [1] ?_ ?_)
   ·omega
   ·simp[-ζ,upd,aR,Γ0,aG,hsucc,he]
   ·simp[-ζ,upd,aR,Γ0,aG,hsucc,he]
  ·have e:k=n:=by omega
   have q1:¬(k:Int)≤(n:Int)-1:=by omega
   obtain⟨s1,s2,s3,s4⟩:=aFp ha hd
   have e1:(shS a d k).1=shQ a d:=by rw[e,←hn];rfl
   have e2:(shS a d k).2=val a%d:=by rw[e,←hn];exact s4
   rw[hn]at s1
   have hrd:val a%d<d:=B9 _ hd
   have e3:(val a:Int)%d=((val a%d:Nat):Int):=by rw[Int.natCast_emod]
   rw[e1,e2]
   generalize val a%d=r at *
   have hwr:BC.wrap (r:Int)=r:=wrap_u32 (by omega) (by omega)
   simp[-ζ,-ξ,↓KW,aG,q1,s1,dV s1,cT s1,hwr,e3,eR]
theorem aUd{u:Nat}(hu:u<18446744073709551616):∃ lo hi:Nat,Lim [lo,hi]∧val [lo,hi]=u∧BC.wrap (u:Int)=lo∧dW .shr .u64 (u:Int) 32=some (.i .u64 hi)∧BC.wrap (hi:Int)=hi:=by
 refine⟨u%4294967296,u/4294967296,.cons (by omega) (.one (by omega)),by simp only[val];omega,by rw[fN];omega,?_,by rw[wrap_u32 (by omega) (by omega)]⟩
 simp only[dW,CB]
 rw[Aj (by decide)]
 congr 2
 rw[show(2:Int)^(min (32:Int).toNat 64)=4294967296 from by decide,CK _ (by decide)]
 omega
theorem yM{l:List Nat}{n:Nat}(hn:l.length=n+1):val l=val (l.take n)+4294967296^n*l.getD n 0:=by
 rw[←cH,As (by omega)]
theorem aZu{l:List Nat}{n:Nat}(hn:l.length=n+2):val l=val (l.take n)+4294967296^n*(l.getD (n+1) 0*4294967296+l.getD n 0):=by
 rw[yM hn,cH,BI,Cq,BU,BV 4294967296];omega
theorem aNd{l:List Nat}{n:Nat}(h:Lim l)(hn:l.length=n+1):val l<4294967296^n*(l.getD n 0+1):=by
 have h1:=oR (h.take n)
 rw[AT,Dd (by omega)]at h1
 rw[yM hn,Cq,DF];omega
theorem bFw{p q e low t D R:Nat}(hD:D≤q*low)(he:e*low≤t)(hR:p*q*t≤R):p*e*D≤R:=by
 refine AO (Cb _ hD) (AO ?_ hR)
 have:p*e*(q*low)=p*q*(e*low):=by
  rw[BU,BU,Fl e]
 rw[this];exact Cb _ he
theorem aWo{a b:List Nat}(hb:Lim b)(hc:lF a)(hla:Lim a)(h:val a≤val b):a.length≤b.length:=by
 have e1:=bGn hla hc
 rw[←e1]
 exact dD (Bo h (oR hb))
set_option maxRecDepth 10000 in
theorem aJn[M:Mch Aa](r d:List Nat)(hr:Lim r)(hd:Lim d)(hcr:lF r)(hcd:lF d)(hd0:d≠[])(hle:val d≤val r)(hl:r.length≤137438953472) :
  ∃ e:Nat,0<e∧e*val d≤val r∧Spec Aa 197 [aG r,aG d] (encZ e):=by
 have hlen:=aWo hr hcd hd hle
 have hdl:0<d.length:=Ea.2 hd0
 obtain⟨m,hm⟩:∃ m,d.length=m+1:=⟨d.length-1,by omega⟩
 obtain⟨k,hk⟩:∃ k,r.length=k+(m+1):=⟨r.length-d.length,by omega⟩
 have gd:=getD_some (l:=d) (i:=m) (by omega)
 have gr:=getD_some (l:=r) (i:=k+m) (by omega)
 have hdm:=hd.getD m
 have hrm:=hr.getD (k+m)
 have hdv:=ES (aNd hd hm)
 have hrtop:0<r.getD (k+m) 0:=by
  have h1:r.getLast? = some (r.getD (k+m) 0):=by rw[F3,show r.length-1=k+m by omega];exact gr
  have h2:r.getLast? ≠ some 0:=hcr
  rw[h1]at h2
  rcases Bf (r.getD (k+m) 0)with h|h
  ·rw[h]at h2;exact absurd rfl h2
  ·exact h
 generalize hdt:d.getD m 0=dt at *
 obtain⟨low,hlow⟩:∃ low,dt+1=low:=⟨_,rfl⟩
 rw[hlow]at hdv
 have c1:Ag.wrap ((r.length:Int)-d.length)=(k:Int):=by rw[aU];omega
 have c2:Ag.wrap ((d.length:Int)-1)=(m:Int):=by rw[aU];omega
 have c3:AA.wrap (dt:Int)=dt:=wrap_u64 (by omega) (by omega)
 have c4:AA.wrap ((dt:Int)+1)=low:=by rw[wrap_u64 (by omega) (by omega)];omega
 have c5:Ag.wrap ((r.length:Int)-1)=((k+m:Nat):Int):=by rw[aU];omega
 have c6:¬low=0:=by omega
 by_cases hk0:k=0
 ·subst hk0
  rw[AD]at gr hrm hrtop hk
  rw[show((0+m:Nat):Int)=(m:Int)by omega]at c5
  have hv1:4294967296^m*r.getD m 0≤val r:=by rw[yM hk];omega
  generalize r.getD m 0=rt at *
  obtain⟨e0,he0⟩:∃ e0,rt/low=e0:=⟨_,rfl⟩
  have he0':e0*low≤rt:=by rw[←he0];exact Nat.div_mul_le_self _ _
  have he0l:e0≤rt:=by rw[←he0];exact DU _ _
  have c7:AA.wrap (rt:Int)=rt:=wrap_u64 (by omega) (by omega)
  have c8:AA.wrap ((rt:Int)/low)=e0:=by rw[←ER,he0,wrap_u64 (by omega) (by omega)]
  obtain⟨e,he⟩:∃ e:Nat,max 1 e0=e:=⟨_,rfl⟩
  have c9:Ag.wrap (e:Int)=e:=aU
  refine⟨e,by omega,?_,?_⟩
  ·by_cases h1:e0≤1
   ·have:e=1:=by omega
    rw[this,De];exact hle
   ·have:e=e0:=by omega
    rw[this]
    have:=bFw (p:=1) hdv he0' (by rw[De];exact hv1)
    rwa [De]at this
  ·refine bF (N:=66) Tryz.func197 ?_
   simp[-ζ,-ξ,↓KW,aG,c1,c2,c3,c4,c5,c6,c7,c8,gd,gr,hdt,c9]
   refine bJ (ds:=[.i .i64 e]) ?_ (aJo e (by omega) (by omega)) ?_
   ·have he2:(if(1:Int)<(e0:Int)then(e0:Int)else 1)=e:=by split<;>omega
    simp[-ζ,-ξ,↓KW,he2,c9]
   ·simp[-ζ,-ξ,↓KW,aG,encZ,encI]
 ·obtain⟨j,hj⟩:∃ j,k=j+1:=⟨k-1,by omega⟩
  have hk2:r.length=(j+m)+2:=by omega
  have gs:=getD_some (l:=r) (i:=j+m) (by omega)
  have hrs:=hr.getD (j+m)
  have hv2:=aZu hk2
  rw[show j+m+1=k+m by omega]at hv2
  have c10:Ag.wrap ((r.length:Int)-2)=((j+m:Nat):Int):=by rw[aU];omega
  have c11:Ag.wrap ((k:Int)-1)=(j:Int):=by rw[aU];omega
  obtain⟨n1,hn1⟩:∃ n1,k+m=n1:=⟨_,rfl⟩
  obtain⟨n2,hn2⟩:∃ n2,j+m=n2:=⟨_,rfl⟩
  rw[hn1]at gr hrm hrtop c5 hv2
  rw[hn2]at gs hrs c10 hv2
  generalize r.getD n1 0=rt at *
  generalize r.getD n2 0=rs at *
  have c12:AA.wrap (rt:Int)=rt:=wrap_u64 (by omega) (by omega)
  have c13:AA.wrap (rs:Int)=rs:=wrap_u64 (by omega) (by omega)
  have c14:AA.wrap ((rt:Int)*4294967296)=(rt:Int)*4294967296:=wrap_u64 (by omega) (by omega)
  obtain⟨t,ht⟩:∃ t,rt*4294967296+rs=t:=⟨_,rfl⟩
  rw[ht]at hv2
  have c15:AA.wrap ((rt:Int)*4294967296+rs)=t:=by rw[wrap_u64 (by omega) (by omega)];omega
  obtain⟨e,he⟩:∃ e,t/low=e:=⟨_,rfl⟩
  have he1:e*low≤t:=by rw[←he];exact Nat.div_mul_le_self _ _
  have hel:e≤t:=by rw[←he];exact DU _ _
  have he0:0<e:=by rw[←he];exact Nat.div_pos (by omega) (by omega)
  have c16:AA.wrap ((t:Int)/low)=e:=by rw[←ER,he,wrap_u64 (by omega) (by omega)]
  obtain⟨lo,hi,k1,k2,e3,e4,e5⟩:=aUd (u:=e) (by omega)
  have hpow:4294967296^j*4294967296^m=4294967296^n2:=by rw[←E9,hn2]
  refine⟨4294967296^j*e,E7 (Nat.pow_pos (by decide)) he0,bFw hdv he1 (by rw[hpow];omega),?_⟩
  have hlim:Lim (Ax j 0++[lo,hi]):=(Lim.rep j).app k1
  have hval:val (Ax j 0++[lo,hi])=4294967296^j*e:=by rw[jX,xM,Ft,k2,AD]
  have hlen2:(Ax j 0++[lo,hi]).length=j+2:=by simp
  have hm2:=eB (Ax j 0++[lo,hi]) false (by rw[hlen2];omega)
  rw[cU hlim,hval,show sg false (4294967296^j*e)=((4294967296^j*e:Nat):Int)from rfl]at hm2
  have m1:(4:Int)*j≤281474976710656:=by omega
  have m2:(j:Int)≤9223372036854775807:=by omega
  have m3:(j+2)*4≤140737488355328:=by omega
  have m4:j+2≤maxLen:=by unfold maxLen;omega
  have hrep:(Co AV.d (lms (Ax j 0))).length=j:=by simp[jJ]
  refine bF (N:=66) Tryz.func197 ?_
  generalize 4294967296^j*e=res at *
  have hcells:Co AV.d (lms (Ax j 0))++[AV.d (D.i .u32 (lo:Int)),AV.d (D.i .u32 (hi:Int))]=Co AV.d (lms (Ax j 0++[lo,hi])):=by rw[eC,Ex];rfl
  have hkk:((k:Int)==0)=false:=by simp only[Eb,ne_eq];omega
  simp[-ζ,-ξ,↓KW,aG,c1,c2,c3,c4,c5,c6,c10,c11,c12,c13,c14,c15,c16,gd,gr,gs,hdt,e3,e4,e5,hkk,m1,m2,m3,m4,hrep]
  rw[hcells]
  generalize Ax j 0++[lo,hi]=L at *
  refine bJ (ds:=[aG L,.b false]) ?_ hm2 ?_
  ·simp[-ζ,-ξ,↓KW,aG,hlen2,dV hlen2,cT hlen2]
  ·simp[-ζ,-ξ,↓KW,aG,encZ,encI,hlen2,dV hlen2,cT hlen2]
theorem qM[M:Mch Aa](x:Int)(hx:(aN x.natAbs).length≤549755813888):Spec Aa 104 [encZ x] (encZ (-x)):=by
 refine bF (N:=9) Tryz.func104 ?_
 have la:=bW x.natAbs
 have va:=cF x.natAbs
 have sx:=fO x
 have ex:encZ x=.ag [.b (decide (x<0)),aG (aN x.natAbs)]:=rfl
 have hm:=eB (aN x.natAbs) (!decide (x<0)) (by omega)
 rw[cU la,va]at hm
 have e:sg (!decide (x<0)) x.natAbs=-x:=by
  unfold sg;by_cases h:x<0<;>simp[h]<;>omega
 rw[e]at hm
 rw[ex]
 generalize aN x.natAbs=a at *
 generalize decide (x<0)=nx at *
 simp[-ζ,-ξ,↓KW,aG]
 refine bJ (ds:=[aG a,.b (!nx)]) ?_ hm ?_
 ·cases nx<;>rfl
 ·simp[-ζ,-ξ,↓KW,aG,encZ,encI]
theorem aGb[M:Mch Aa](x y:Int)(hx:(aN x.natAbs).length≤549755813888)(hy:(aN y.natAbs).length≤549755813888):Spec Aa 65 [encZ x,encZ y] (encZ (x-y)):=by
 refine bF (N:=9) Tryz.func65 ?_
 have h1:=qM y hy
 have h2:=tC x (-y) hx (by rw[Fi];exact hy)
 rw[←Int.sub_eq_add_neg]at h2
 simp[-ζ,-ξ,↓KW,encZ,encI,aG]
 refine aH h1 ?_
 simp[-ζ,-ξ,↓KW,encZ,encI,aG]
 refine bJ (ds:=[encZ x,encZ (-y)]) ?_ h2 ?_
 ·simp[-ζ,-ξ,↓KW,encZ,encI,aG]
 ·simp[-ζ,-ξ,↓KW,encZ,encI,aG]
theorem aHk{n:Nat}(h0:n≠0)(h:n<4294967296):aN n=[n]:=by
 rw[gD h0,Cu h,C2 h,cA]
theorem aAn{n:Nat}(h0:n≠0)(h:n<4294967296):encZ (n:Int)=.ag [.b false,.sl [[.i .u32 (n:Int)]]]:=by
 have hd:decide ((n:Int)<0)=false:=by simp
 rw[bB,hd]
 simp[aG,aHk h0 h]
theorem bEr[M:Mch Aa]:Spec Aa 82 [.i .i64 1] (encZ 1):=by
 rw[show(1:Int)=((1:Nat):Int)from rfl,aAn (by decide) (by decide)]
 exact(oZ (fuel:=100) aW aTn 20).call 82 [.i .i64 1] (.ag [.b false,.sl [[.i .u32 1]]]) (by kernel_rfl)
noncomputable def wdB(p:Nat):Bool:=match(jV Aa EP 100 20).call 84 [.i .u64 p]with
 |some (.ag [.b false,.sl [[.i .u32 q]]])=>q==(p:Int)
 |_=>false
theorem bWv[M:Mch Aa]{p:Nat}(h0:p≠0)(h:p<4294967296)(hw:wdB p=true):Spec Aa 84 [.i .u64 p] (encZ (p:Int)):=by
 rw[aAn h0 h]
 refine(oZ (fuel:=100) aW aTn 20).call _ _ _ ?_
 unfold wdB at hw
 split at hw
 ·rename_i q he
  rw[he,beq_iff_eq]at *
  subst hw;rfl
 ·cases hw
theorem bZh:(P10.all wdB)=true:=by kernel_rfl
theorem aZe[M:Mch Aa]{p:Nat}(h:p∈P10):Spec Aa 84 [.i .u64 p] (encZ (p:Int)):=by
 have hb:∀ q∈P10,q≠0∧q<4294967296:=by decide
 exact bWv (hb p h).1 (hb p h).2 (A6.1 bZh p h)
theorem rR{z:Int}(h:z.natAbs<2^256):Sz z:=by
 have:=dD (n:=z.natAbs) (k:=8) (A4 h (by decide))
 unfold Sz;omega
theorem bZm:Sz 1:=rR (by decide)
set_option maxRecDepth 10000 in
theorem aSy[M:Mch Aa](b:Int)(hb:Sz b)(hb2:Sz (b+b))(h0:0≤b):Spec Aa 44 [.sl [],encZ b] (.b (decide (b=0))):=by
 refine bF (N:=26) Tryz.func44 ?_
 have hA:=aGw b b hb hb
 obtain⟨r,hC,hr⟩:=aSp 1 (b+b) (bZm) hb2
 have hd:decide (0<r)=decide (b=0):=by
  by_cases h:b=0
  ·subst h;simp[hr.2]
  ·have:¬0<r:=fun h'=>h (by have:=hr.1 h';omega)
   simp[h,this]
 generalize b+b=c at *
 simp[-ζ,-ξ,↓KW,bB b,aA,aD,aC,aE,aB]
 refine aH bEr ?_
 rw[bB 1]
 simp[-ζ,-ξ,↓KW,aA,aD,aC,aE,aB]
 refine fK 2 ?_
 simp[-ζ,-ξ,↓KW,↓aL,↓aF,↓aJ,↓aK,aA,aD,aC,aE,aB]
 refine aH hA ?_
 rw[bB c]
 simp[-ζ,-ξ,↓KW,aA,aD,aC,aE,aB]
 refine aH hC ?_
 simp[-ζ,-ξ,↓KW,hd]
def bN(n:Nat):D:=.ag [.b false,aG (aN n)]
theorem aO(n:Nat):bN n=.ag [.b false,aG (aN n)]:=rfl
theorem dC(n:Nat):encZ (n:Int)=bN n:=by
 rw[bB,aO]
 simp
theorem szN{n:Nat}(h:n<2^256):Sz (n:Int):=rR (by simpa using h)
theorem aYe[M:Mch Aa]{x y:Nat}(hx:x<2^256)(hy:y<2^256):Spec Aa 85 [bN x,bN y] (bN (x+y)):=by
 have:=aGw (x:Int) (y:Int) (szN hx) (szN hy)
 rwa [←Ey,dC,dC,dC]at this
theorem aOs[M:Mch Aa]{x y:Nat}(hx:x<2^256)(hy:y<2^256):Spec Aa 83 [bN x,bN y] (bN (x*y)):=by
 have:=bOf (x:Int) (y:Int) (szN hx) (szN hy)
 rwa [←CC,dC,dC,dC]at this
theorem bGz[M:Mch Aa]{x y:Nat}(hx:x<2^256)(hy:y<2^256):∃ r:Int,Spec Aa 48 [bN x,bN y] (.i .i64 r)∧(0<r↔y<x):=by
 obtain⟨r,h1,h2⟩:=aSp (x:Int) (y:Int) (szN hx) (szN hy)
 rw[dC,dC]at h1
 exact⟨r,h1,by rw[h2];omega⟩
theorem cAb[M:Mch Aa]:Spec Aa 82 [.i .i64 1] (bN 1):=by rw[←dC];exact bEr
theorem bWs[M:Mch Aa]{p:Nat}(h:p∈P10):Spec Aa 84 [.i .u64 p] (bN p):=by rw[←dC];exact aZe h
theorem bPb[M:Mch Aa]{b:Nat}(h0:0<b)(h:b<2^200):Spec Aa 44 [.sl [],bN b] (.b false):=by
 have:=aSy (b:Int) (szN (by omega)) (rR (by omega)) (by omega)
 rwa [Bj (by omega),dC]at this
def cJ:List Nat→Nat
 |[]=>1
 |p::l=>p*cJ l
theorem rZ(l:List Nat)(p:Nat):cJ (l++[p])=cJ l*p:=by
 induction l with
 |nil=>simp[cJ]
 |cons x l ih=>simp only[Ch,cJ,ih,BU]
theorem qP:∀(l:List Nat),(∀ p∈l,p<2147483648)→cJ l≤2147483648^l.length
 |[],_=>by simp[cJ]
 | p::l,h=>by
  have h1:=h p (AH ..)
  have h2:=qP l fun q hq=>h q (AE _ hq)
  simp only[cJ,Ah,BI]
  rw[BV]
  exact Bg h2 (by omega)
structure Ndd(b:Nat)(l:List Nat):Prop where
 big:2*b<cJ l
 low:∀ k,k<l.length→cJ (l.take k)≤2*b
def neF(c:Nat):List Nat→St
 |[]=>StL [(4,.ptr 1 0),(5,.ptr 2 0),(6,.ptr 3 0),(7,.ptr 4 0)] none [.cells 46 [.nil],.cells 46 [.nil],.cells 31 [.d (.b false),.d (aG (aN 1))],.cells 31 [.d (.b false),.d (aG (aN c))]]
 |x::l=>StL [(4,.ptr 1 0),(5,.ptr 2 0),(6,.ptr 3 0),(7,.ptr 4 0)] none [.cells 46 [.nil],.cells 46 [.own 5 0 (l.length+1) 1],.cells 31 [.d (.b false),.d (aG (aN (cJ (x::l))))],.cells 31 [.d (.b false),.d (aG (aN c))],.cells 51 ((dU (x::l)).map .d)]
def neS(c:Nat)(L:List Nat)(k:Nat):St :=
 if k<L.length then neF c (L.take k)else StL [(4,.ptr 1 0)] none [.cells 46 [.own 2 0 L.length 1],.cells 51 ((dU L).map .d)]
set_option maxHeartbeats 8000000 in
set_option maxRecDepth 10000 in
theorem aOr[M:Mch Aa](b n p0:Nat)(ps:List Nat)(hb:b<2^100)(hb0:0<b)(hd:jA n (p0::ps))(hl:ps.length≤6)(hn:Ndd b (p0::ps))(hw:∀ p∈p0::ps,Spec Aa 84 [.i .u64 p] (bN p)) :
  Spec Aa 59 [bN b,.i .u64 n] (cP (p0::ps)):=by
 have hx0:∀ k:Nat,(psL (p0::ps))[k]? = ((p0::ps)[k]?).map (fun(p:Nat)=>[D.i .u64 (p:Int)]):=fun k=>by simp only[psL,Ai]
 have hlen:(psL (p0::ps)).length=(p0::ps).length:=by simp[psL]
 have hseq:=aMd n p0 ps hd
 have hE:=bPb hb0 (A4 hb (by decide))
 have hA:=aYe (x:=b) (y:=b) (by omega) (by omega)
 have hlL:(p0::ps).length≤7:=by simp;omega
 have hL0:0<(p0::ps).length:=by simp
 have hlt:∀ p∈p0::ps,p<2147483648:=fun p hp=>by
  obtain⟨k,hk,rfl⟩:=List.mem_iff_getElem.1 hp
  exact(jA.pos hd (Ab hk)).2
 generalize p0::ps=L at *
 obtain⟨hbig,hlow⟩:=hn
 rw[←Nat.two_mul]at hA
 have hc:2*b<2^256:=by omega
 generalize 2*b=c at *
 have hO:=cAb
 refine oV (N:=31) aW Tryz.func59 rfl rfl rfl (by kernel_rfl) (by kernel_rfl) (by simp) ?_
 refine cZ (by kernel_rfl) ?_
 simp[-ζ,-ξ,↓KW,↓aL,↓aF,↓aJ,↓aK,aO b,aA,aD]
 refine cZ (by kernel_rfl) ?_
 simp[-ζ,-ξ,↓KW,↓aL,↓aF,↓aJ,↓aK,aO b,aA,aD,aC,aE,aB]
 refine aH hE ?_
 simp[-ζ,-ξ,↓KW,↓aL,↓aF,↓aJ,↓aK,aO b,aA,aD,aC,aE,aB]
 refine cZ (by kernel_rfl) ?_
 simp[-ζ,-ξ,↓KW,↓aL,↓aF,↓aJ,↓aK]
 refine cZ (by kernel_rfl) ?_
 simp[-ζ,-ξ,↓KW,↓aL,↓aF,↓aJ,↓aK,aA,aD,aC,aE,aB]
 refine aH hO ?_
 rw[aO 1]
 simp[-ζ,-ξ,↓KW,↓aL,↓aF,↓aJ,↓aK,aA,aD,aC,aE,aB]
 refine aH hA ?_
 rw[aO c]
 simp[-ζ,-ξ,↓KW,↓aL,↓aF,↓aJ,↓aK,aA,aD,aC,aE,aB]
 refine aBh (P:=Aa) ?_
 refine cZ (by kernel_rfl) ?_
 simp[-ζ,-ξ,↓KW,↓aL,↓aF,↓aJ,↓aK]
 refine aH (aEp n) ?_
 simp[-ζ,-ξ,↓KW,↓aL,↓aF,↓aJ,↓aK]
 refine sO ?_
 refine pT (psL L) (fun k=>neS c L k) [8,17,18,19,20,21,22,23,24,25,26,27,28,29,30] .ret .ret (.inl rfl) (gf:=162) (caps:=[.pt [.i .u64 n]]) (by rfl) (by rfl) (by rfl) hseq ?_ (by kernel_rfl) (by rw[hlen];omega) ?_ ?_ ?_
 ·show ∃ ρ,Wk _ (neS c L 0) ρ
  unfold neS
  rw[Ar hL0,Bw]
  refine wkQ [2,3,4,5] ?_ ?_<;>simp[-ζ,upd,aR,Γ0,neF]
 ·intro k x hk hx
  rw[hlen]at hk
  rw[hx0,Ae]at hx
  obtain⟨p,hp,rfl⟩:=hx
  refine⟨rfl,?_⟩
  have hpL:=Al hp
  have hW:=hw p hpL
  have hp31:=hlt p hpL
  have htl:(L.take k).length=k:=by rw[AT];omega
  have hPb:cJ (L.take k)≤2147483648^7:=AO (qP _ fun q hq=>hlt q (Bn hq)) (B4 (by decide) (by omega))
  have hP2:cJ (L.take k)*p<2^256:=Bo (Bg hPb (ES hp31)) (by decide)
  have hM:=aOs (x:=cJ (L.take k)) (y:=p) (Bo hPb (by decide)) (by omega)
  obtain⟨r,hC,hr⟩:=bGz (x:=cJ (L.take k)*p) (y:=c) hP2 hc
  have hsn:L.take (k+1)=L.take k++[p]:=by rw[A3,hp];rfl
  have hps:=rZ (L.take k) p
  have hle:=hlow (k+1) hk
  rw[hsn,hps]at hle
  have hrr:¬0<r:=fun h=>by have:=hr.1 h;omega
  unfold neS
  rw[Ar (by omega),Ar hk,hsn]
  generalize L.take k=T at *
  generalize hPp:cJ T*p=Pp at *
  cases T with
  | nil =>
   have hm1:(1:Nat)≤maxLen:=bT (by decide)
   show AWP _ _ ⟨upd (neF c []).Γ 17 (.d (.i .u64 (p:Int))),(neF c []).H,(neF c []).n⟩ _
   change Spec _ _ [bN 1,bN p] _ at hM
   simp[-ζ,-ξ,↓KW,↓aL,↓aF,↓aJ,↓aK,neF,hm1,aA,aD,aC,aE,aB]
   refine aH hW ?_
   rw[aO p]
   simp[-ζ,-ξ,↓KW,↓aL,↓aF,↓aJ,↓aK,aA,aD,aC,aE,aB]
   refine aH hM ?_
   rw[aO Pp]
   simp[-ζ,-ξ,↓KW,↓aL,↓aF,↓aJ,↓aK,aA,aD,aC,aE,aB]
   refine aH hC ?_
   simp[-ζ,-ξ,↓KW,↓aL,↓aF,↓aJ,↓aK,hrr,aA,aD,aC,aE,aB]
   have hps':cJ [p]=Pp:=hps
   refine wkQ [1,2,3,4,6] ?_ ?_<;>simp[-ζ,upd,aR,Γ0,Bl,bO,jK,jT,hps']
  | cons y T =>
   have hps':cJ (y::(T++[p]))=Pp:=hps
   have hbb:=dX (n:=T.length+1) (by simp at htl;omega)
   show AWP _ _ ⟨upd (neF c (y::T)).Γ 17 (.d (.i .u64 (p:Int))),(neF c (y::T)).H,(neF c (y::T)).n⟩ _
   simp[-ζ,-ξ,↓KW,↓aL,↓aF,↓aJ,↓aK,neF,eK,hbb,bT,aA,aD,aC,aE,aB]
   refine aH hW ?_
   rw[aO p]
   simp[-ζ,-ξ,↓KW,↓aL,↓aF,↓aJ,↓aK,aA,aD,aC,aE,aB]
   refine aH hM ?_
   rw[aO Pp]
   simp[-ζ,-ξ,↓KW,↓aL,↓aF,↓aJ,↓aK,aA,aD,aC,aE,aB]
   refine aH hC ?_
   simp[-ζ,-ξ,↓KW,↓aL,↓aF,↓aJ,↓aK,hrr,aA,aD,aC,aE,aB]
   refine wkQ [1,2,3,4,7] ?_ ?_<;>simp[-ζ,upd,aR,Γ0,Bl,bO,jK,jT,hps']
 ·intro k x hk hx
  rw[hlen]at hk
  rw[hx0,Ae]at hx
  obtain⟨p,hp,rfl⟩:=hx
  refine⟨rfl,?_⟩
  have hpL:=Al hp
  have hW:=hw p hpL
  have hp31:=hlt p hpL
  have htl:(L.take k).length=k:=by rw[AT];omega
  have hPb:cJ (L.take k)≤2147483648^7:=AO (qP _ fun q hq=>hlt q (Bn hq)) (B4 (by decide) (by omega))
  have hP2:cJ (L.take k)*p<2^256:=Bo (Bg hPb (ES hp31)) (by decide)
  have hM:=aOs (x:=cJ (L.take k)) (y:=p) (Bo hPb (by decide)) (by omega)
  obtain⟨r,hC,hr⟩:=bGz (x:=cJ (L.take k)*p) (y:=c) hP2 hc
  have hsn:L.take (k+1)=L.take k++[p]:=by rw[A3,hp];rfl
  have hps:=rZ (L.take k) p
  have hLe:L.take (k+1)=L:=by rw[hk];exact List.take_length
  rw[hLe]at hsn
  rw[hLe.symm.trans (hLe.trans hsn),hps]at hbig
  have hrr:0<r:=hr.2 hbig
  unfold neS
  rw[Ar (by omega),Aj (by omega)]
  have hTl:L.length=k+1:=hk.symm
  rw[hTl]
  generalize L.take k=T at *
  subst hsn
  generalize hPp:cJ T*p=Pp at *
  cases T with
  | nil =>
   have hm1:(1:Nat)≤maxLen:=bT (by decide)
   have hk0:k=0:=htl.symm
   subst hk0
   show AWP _ _ ⟨upd (neF c []).Γ 17 (.d (.i .u64 (p:Int))),(neF c []).H,(neF c []).n⟩ _
   change Spec _ _ [bN 1,bN p] _ at hM
   simp[-ζ,-ξ,↓KW,↓aL,↓aF,↓aJ,↓aK,neF,hm1,aA,aD,aC,aE,aB]
   refine aH hW ?_
   rw[aO p]
   simp[-ζ,-ξ,↓KW,↓aL,↓aF,↓aJ,↓aK,aA,aD,aC,aE,aB]
   refine aH hM ?_
   rw[aO Pp]
   simp[-ζ,-ξ,↓KW,↓aL,↓aF,↓aJ,↓aK,aA,aD,aC,aE,aB]
   refine aH hC ?_
   simp[-ζ,-ξ,↓KW,↓aL,↓aF,↓aJ,↓aK,hrr,aA,aD,aC,aE,aB]
   refine wkQ [1,6] ?_ ?_<;>simp[-ζ,upd,aR,Γ0,Bl,bO,jK,jT]
  | cons y T =>
   have hk0:k=T.length+1:=htl.symm
   subst hk0
   have hbb:=dX (n:=T.length+1) (by omega)
   show AWP _ _ ⟨upd (neF c (y::T)).Γ 17 (.d (.i .u64 (p:Int))),(neF c (y::T)).H,(neF c (y::T)).n⟩ _
   simp[-ζ,-ξ,↓KW,↓aL,↓aF,↓aJ,↓aK,neF,eK,hbb,bT,aA,aD,aC,aE,aB]
   refine aH hW ?_
   rw[aO p]
   simp[-ζ,-ξ,↓KW,↓aL,↓aF,↓aJ,↓aK,aA,aD,aC,aE,aB]
   refine aH hM ?_
   rw[aO Pp]
   simp[-ζ,-ξ,↓KW,↓aL,↓aF,↓aJ,↓aK,aA,aD,aC,aE,aB]
   refine aH hC ?_
   simp[-ζ,-ξ,↓KW,↓aL,↓aF,↓aJ,↓aK,hrr,aA,aD,aC,aE,aB]
   refine wkQ [1,7] ?_ ?_<;>simp[-ζ,upd,aR,Γ0,Bl,bO,jK,jT]
 ·rw[hlen]
  unfold neS
  rw[Aj (by omega)]
  have hfl:=eK L
  simp[-ζ,-ξ,↓KW,↓aL,↓aF,↓aJ,↓aK,cP,hfl,mV (rfl:L.length=L.length),jP (rfl:L.length=L.length)]
end Go.Am
end
section
open List renaming map_map→ζ,mapM_map→ξ
open Go Go.Am Go.Proofs
namespace Go.Am
open Go.RowKit (Below)
theorem tA{P:Program}(w:World)(t tn ty e:TypeId)(i:TypeInfo)(z:Value)(kq kn:IntKind)(ht:P.underlying t=some (.slice e))(htn:P.underlying tn=some (.int kn))(hi:P.info? e=some i)(hz:i.zero=some z)
    (k:Nat) (h0:0<k) (hs:0<i.size) (h63:(k:Int)≤9223372036854775807) (h48:k*i.bytes≤281474976710656) :
    aP P (BS #[t,tn] ty #[.slice none 0 0,.int kq k]) w =
      .ok (.slice (some ⟨w.heap.size,0,none⟩) k (grownCap w k 0 e))
        (w.drew.alloc (.cells (CP z.cells k++CP z.cells (grownCap w k 0 e-k)) e)):=by
  have hk:k≠0:=by omega
  have hw:Ag.wrap (k:Int)=k:=by rw[IntKind.wrap_i64];omega
  have h63':¬(9223372036854775807<(k:Int)):=by omega
  have h48':¬(281474976710656<Builtin.nextslicecap k 0*i.bytes):=by rw[nextslicecap_zero h0];omega
  have h48i:¬(281474976710656<(k:Int)*(i.bytes:Int)):=by rw[←CC];omega
  have hneg:¬((k:Int)<0):=by omega
  have hns:¬(k*i.size=0):=Nat.mul_ne_zero hk (by omega)
  simp[BS,aI ht,aI htn,sizeOf,typeInfo,zeroValue,hi,hz,asInt,asIntOf,hw,hk,hneg,hns,h63',h48',h48i,Question.forced,jU,newRow,grownCap]
structure AL(n:Nat)(l:List (Nat×Value))(a:Act):Prop where
  size:a.tmps.size=n
  defs:a.defers=[]
  get:∀ t x,l.lookup t=some x→a.eval (.tmp t)=x
theorem AL.put{n:Nat}{l:List (Nat×Value)}{a:Act}(h:AL n l a){d:Nat}(hd:d<n)(x:Value):AL n ((d,x)::l) (a.put (some d) x) where
  size:=by simp[Act.put,h.size]
  defs:=h.defs
  get t y hy:=by
    have hg:=iV a (some d) x (fun _ e=>by injection e with e;subst e;rw[h.size];exact hd) t
    have he:(a.put (some d) x).eval (.tmp t)=if(some d:Option Nat)=some t then x else a.eval (.tmp t):=by simpa[C3]using hg
    rw[he]
    rw[Fx]at hy
    by_cases e:t=d
    · subst e;simp at hy;simp[hy]
    · rw[show(t==d)=false from by simp[e]]at hy
      rw[Aj (by simpa using Ne.symm e)]
      exact h.get t y hy
def evL(l:List (Nat×Value)):Operand→Option Value
  |.tmp t=>l.lookup t
  |.const v=>some v
  |_=>none
theorem AL.ev{n:Nat}{l:List (Nat×Value)}{a:Act}(h:AL n l a){o:Operand}{x:Value}(hx:evL l o=some x):a.eval o=x:=by
  cases o with
  |tmp t=>exact h.get t x hx
  | const v => have e : v = x := by simpa[evL]using hx
               subst e;rfl
  |_=>cases hx
section
variable {P:Program} [M:Mch P] {Q:Exit→Act→World→Prop} {ops:Array Oper} {n:Nat} {l:List (Nat×Value)}
theorem qE{W v:World}{d:Nat}{op:Op}{ty:TypeId}{pos:String}{after:Array Edge}{rest:List Oper}{a:Act}(x:Value)(hA:AL n l a)(he:Env W v)(hd:d<n)(hr:∀ w,aP P (execOp a.eval ⟨some d,op,ty,pos,after,none⟩) w=.ok (.value x) w)
    (h:∀ a' v',AL n ((d,x)::l) a'→Env W v'→gT P ops Q rest a' v'):gT P ops Q (⟨some d,op,ty,pos,after,none⟩::rest) a v:=by
  have hw:Bq (⟨some d,op,ty,pos,after,none⟩:Oper) (yielded ops a.tmps)=true:=rfl
  unfold gT
  rw[Ar hw]
  intro v1 he1
  unfold wpX
  rw[hr]
  exact h _ _ (hA.put hd x) (he.trans he1)
def dv:D→Value
  |.b x=>.bool x
  |.i k n=>.int k n
  |_=>undef
theorem oQ{W v:World}{dst:Nat}{op:BinOp}{t t2:TypeId}{x y:Operand}{pos:String}{ty:TypeId}{after:Array Edge}{rest:List Oper}{a:Act}{k k':IntKind}{m m':Int}(d:D)(hA:AL n l a)(he:Env W v)(hdst:dst<n)(hx:evL l x=some (.int k m))(hy:evL l y=some (.int k' m'))
    (hd:dJ op (bP P t) (.d (.i k m)) (.d (.i k' m'))=some d) (hd2:(∃ b,d=.b b)∨∃ k n,d=.i k n)
    (h:∀ a' v',AL n ((dst,dv d)::l) a'→Env W v'→gT P ops Q rest a' v'):gT P ops Q (⟨some dst,.binOp op t x y t2,ty,pos,after,none⟩::rest) a v:=by
  refine qE _ hA he hdst (fun w=>?_) h
  obtain⟨z,⟨h1,h2⟩,hz⟩:=aIz (P:=P) (F:=fun _=>False) (w:=w) (ι:=fun _=>none) (u:=.int k m) (v:=.int k' m') hd (.d _ _ (.i k m)) (.d _ _ (.i k' m')) x y
  have hzd:z=dv d:=by
    rcases hd2 with ⟨b,rfl⟩|⟨k,n,rfl⟩<;>cases hz<;>rfl
  subst hzd
  simp[execOp,hA.ev hx,hA.ev hy,h1,h2]
theorem eM{W v:World}{dst:Nat}{x:Operand}{pos:String}{ty:TypeId}{after:Array Edge}{rest:List Oper}{a:Act}{u:Value}(hA:AL n l a)(he:Env W v)(hdst:dst<n)(hx:evL l x=some u)
    (h:∀ a' v',AL n ((dst,u)::l) a'→Env W v'→gT P ops Q rest a' v'):gT P ops Q (⟨some dst,.move x,ty,pos,after,none⟩::rest) a v :=
  qE _ hA he hdst (fun w=>by simp[execOp,hA.ev hx]) h
theorem rQ{W v:World}{dst:Nat}{x:Operand}{pos:String}{ty:TypeId}{after:Array Edge}{rest:List Oper}{a:Act}{u:Value}(hA:AL n l a)(he:Env W v)(hdst:dst<n)(hx:evL l x=some u)
    (h:∀ a' v',AL n ((dst,u)::l) a'→Env W v'→gT P ops Q rest a' v'):gT P ops Q (⟨some dst,.assign x,ty,pos,after,none⟩::rest) a v :=
  qE _ hA he hdst (fun w=>by simp[execOp,hA.ev hx]) h
theorem aMy{W v:World}{dst:Nat}{x:Operand}{pos:String}{ty t e:TypeId}{after:Array Edge}{rest:List Oper}{a:Act}{b:Option Addr}{len cap:Nat}(hA:AL n l a)(he:Env W v)(hdst:dst<n)(ht:P.underlying t=some (.slice e))(hx:evL l x=some (.slice b len cap))
    (h:∀ a' v',AL n ((dst,.int .i64 cap)::l) a'→Env W v'→gT P ops Q rest a' v'):gT P ops Q (⟨some dst,.call ⟨.builtin .cap,#[x],#[t]⟩,ty,pos,after,none⟩::rest) a v :=
  qE _ hA he hdst (fun w=>by simp[execOp,resolve,invoke,builtin,hA.ev hx,aI ht,Builtin.cap_];rfl) h
theorem aMx{W v:World}{dst:Nat}{x:Operand}{pos:String}{ty t e:TypeId}{after:Array Edge}{rest:List Oper}{a:Act}{b:Option Addr}{len cap:Nat}(hA:AL n l a)(he:Env W v)(hdst:dst<n)(ht:P.underlying t=some (.slice e))(hx:evL l x=some (.slice b len cap))
    (h:∀ a' v',AL n ((dst,.int .i64 len)::l) a'→Env W v'→gT P ops Q rest a' v'):gT P ops Q (⟨some dst,.call ⟨.builtin .len,#[x],#[t]⟩,ty,pos,after,none⟩::rest) a v :=
  qE _ hA he hdst (fun w=>by simp[execOp,resolve,invoke,builtin,hA.ev hx,aI ht,Builtin.len_,Builtin.lenOf];rfl) h
theorem bSp{v:World}{d:Nat}{op:Op}{ty:TypeId}{pos:String}{after:Array Edge}{rest:List Oper}{a:Act}(hA:AL n l a)(hd:d<n)
    (h:∀ v1,Env v v1→∃ x w1,aP P (execOp a.eval ⟨some d,op,ty,pos,after,none⟩) v1=.ok (.value x) w1∧∀ a',AL n ((d,x)::l) a'→gT P ops Q rest a' w1):gT P ops Q (⟨some d,op,ty,pos,after,none⟩::rest) a v:=by
  have hw:Bq (⟨some d,op,ty,pos,after,none⟩:Oper) (yielded ops a.tmps)=true:=rfl
  unfold gT
  rw[Ar hw]
  intro v1 he1
  obtain⟨x,w1,h1,h2⟩:=h v1 he1
  unfold wpX
  rw[h1]
  exact h2 _ (hA.put hd x)
theorem aCr{W v:World}{dst:Nat}{x hi:Operand}{pos:String}{ty t e:TypeId}{sz:Nat}{after:Array Edge}{rest:List Oper}{a:Act}{b:Option Addr}{len cap:Nat}(hA:AL n l a)(he:Env W v)(hdst:dst<n)(ht:tel P t=some e)(hs:tsz P e=some sz)(hc:len≤cap)(hx:evL l x=some (.slice b len cap))(hh:evL l hi=some (.int .i64 0))(hb:b=none∧cap=0∨0<cap∧∃ k,b=some ⟨k,0,none⟩)
    (h:∀ a' v',AL n ((dst,.slice b 0 cap)::l) a'→Env W v'→gT P ops Q rest a' v'):gT P ops Q (⟨some dst,.slice t x none (some hi) none,ty,pos,after,none⟩::rest) a v:=by
  refine qE _ hA he hdst (fun w=>?_) h
  have hr:=lZ (P:=P) w ht hs b len cap hc none (some (.int .i64 0)) none 0 0 (.inl ⟨rfl,rfl⟩) (.inr ⟨_,rfl⟩) (by omega) (by omega) (by omega) cap (.inl ⟨rfl,rfl⟩)
  simp only[execOp,hA.ev hx,hA.ev hh,AW,Option.map_none,Sem.run_bind,hr,Result.andThen_ok]
  rcases hb with ⟨rfl,rfl⟩|⟨h0,k,rfl⟩
  · simp
  · simp[Addr.add,Nat.ne_of_gt h0]
theorem kK{a:Act}{v:World}(h:Q .normal a v):gT P ops Q [] a v:=h
end
theorem AL.start(x y:Value)(k:Nat):AL (2+k) [(0,x),(1,y)] ⟨#[x,y]++AY k undef,[]⟩ where
  size:=by simp
  defs:=rfl
  get t z hz:=by
    have h2:∀ t,t<2→(#[x,y]++AY k undef:Array Value).getD t undef=(#[x,y]:Array Value).getD t undef:=fun t ht=>by
      simp only[Aw];rw[Array.getElem?_append_left (by simpa using ht)]
    match t with
    |0=>rw[Fx]at hz;simp at hz;subst hz;show Array.getD _ _ _=_;rw[h2 0 (by decide)];rfl
    |1=>simp[Fx]at hz;subst hz;show Array.getD _ _ _=_;rw[h2 1 (by decide)];rfl
    |t+2=>simp[Fx]at hz
noncomputable def aUh:TypeInfo:=((Aa).info? 51).get (by kernel_rfl)
theorem bKk:(Aa).info? 51=some aUh:=by kernel_rfl
noncomputable def aZy:Value:=aUh.zero.get (by kernel_rfl)
theorem aUf:aUh.zero=some aZy:=by kernel_rfl
theorem aUe:aZy.cells.size=1:=by kernel_rfl
theorem aUg:aUh.size=1:=by kernel_rfl
theorem aNf:aUh.bytes=8:=by kernel_rfl
set_option maxHeartbeats 400000 in
set_option maxRecDepth 100000 in
theorem bFc[M : Mch Aa](n : Nat)(W : World)(h0 : 0 < n)(hn : n ≤ 1000000) : CX Aa 103 #[.slice none 0 0, .int .i64 n] W fun x w' => ∃ b G ROW, n ≤ G ∧ G ≤ maxLen ∧ G ≤ ROW.size ∧ W.heap.size ≤ b ∧
      x=.slice (some ⟨b,0,none⟩) 0 G∧w'.heap[b]? = some (.cells ROW 51 (0,0))∧Below W.heap.size W w':=by
  refine gZ Tryz.func103 rfl ?_
  have hu46:(Aa).underlying 46=some (.slice 51):=by kernel_rfl
  have hu3:(Aa).underlying 3=some (.int .i64):=by kernel_rfl
  have e0:Env W W:=.refl W
  have hb0:∀ t,dJ .sub t (.d (.i .i64 0)) (.d (.i .i64 0))=some (.i .i64 0):=fun t=>by simp[dJ,arith];decide
  have hwn:Ag.wrap (n:Int)=n:=aU
  have hb1:∀ t,dJ .sub t (.d (.i .i64 (n:Int))) (.d (.i .i64 0))=some (.i .i64 n):=fun t=>by simp[dJ,arith,hwn]
  have hA:AL 27 [(0,.slice none 0 0),(1,.int .i64 n)] { tmps:=#[EI none 0 0,Fy .i64 n]++AY (Fa.ntmps - #[EI none 0 0,Fy .i64 n].size) undef,defers:=[] }:=AL.start _ _ 25
  generalize({ tmps:=#[EI none 0 0,Fy .i64 n]++AY (Fa.ntmps - #[EI none 0 0,Fy .i64 n].size) undef,defers:=[] }:Act)=a0 at hA ⊢
  refine eF (iE ?_)
  refine rQ hA e0 (by decide) rfl fun a v hA e1=>kK ?_
  refine eF (eF (iE ?_))
  refine eM hA e1 (by decide) rfl fun a v hA e2=>?_
  refine oQ (.b false) hA e2 (by decide) rfl rfl (by simp[dJ,arith]) (.inl ⟨_,rfl⟩) fun a v hA e3=>kK ?_
  refine nA (t:=false) (hA.get _ _ rfl) (xL ?_)
  refine eF (eF (iE ?_))
  refine eM hA e3 (by decide) rfl fun a v hA e4=>?_
  refine eM hA e4 (by decide) rfl fun a v hA e5=>?_
  refine aMy hA e5 (by decide) hu46 rfl fun a v hA e6=>?_
  refine eM hA e6 (by decide) rfl fun a v hA e7=>?_
  refine aMx hA e7 (by decide) hu46 rfl fun a v hA e8=>?_
  refine oQ (.i .i64 0) hA e8 (by decide) rfl rfl (hb0 _) (.inr ⟨_,_,rfl⟩) fun a v hA e9=>?_
  refine oQ (.i .i64 n) hA e9 (by decide) rfl rfl (hb1 _) (.inr ⟨_,_,rfl⟩) fun a v hA e10=>?_
  refine rQ hA e10 (by decide) rfl fun a v hA e11=>kK ?_
  refine eF (iE ?_)
  refine eM hA e11 (by decide) rfl fun a v hA e12=>?_
  refine oQ (.b true) hA e12 (by decide) rfl rfl (by simp[dJ,arith,h0]) (.inl ⟨_,rfl⟩) fun a v hA e13=>kK ?_
  refine nA (t:=true) (hA.get _ _ rfl) (iE ?_)
  refine eM hA e13 (by decide) rfl fun a v hA e14=>?_
  refine eM hA e14 (by decide) rfl fun a v hA e15=>?_
  refine aMy hA e15 (by decide) hu46 rfl fun a v hA e16=>?_
  refine aCr (e:=51) (sz:=1) hA e16 (by decide) (by kernel_rfl) (by kernel_rfl) (Az _) rfl rfl (.inl ⟨rfl,rfl⟩) fun a v hA e17=>?_
  refine eM hA e17 (by decide) rfl fun a v hA e18=>?_
  refine bSp hA (by decide) fun w e19=>?_
  have e20:=e18.trans e19
  obtain⟨G,hG⟩:∃ G,G=grownCap w n 0 51:=⟨_,rfl⟩
  obtain⟨ROW,hROW⟩:∃ ROW,ROW=CP aZy.cells n++CP aZy.cells (G-n):=⟨_,rfl⟩
  have hGn:n≤G:=hG ▸ grownCap_ge w _ _ _
  have hGm:G≤maxLen:=hG ▸ grownCap_le_maxLen w n 0 51 (by unfold maxLen;omega)
  have hRl:G≤ROW.size:=by
    rw[hROW]
    simp only[Array.size_append,CP,Array.size_map,Array.size_range,aUe]
    omega
  refine⟨.slice (some ⟨w.heap.size,0,none⟩) n G,w.drew.alloc (.cells ROW 51),?_,fun a hA=>?_⟩
  · have hr:=tA w 46 3 46 51 aUh aZy .i64 .i64 hu46 hu3 bKk aUf n h0 (by rw[aUg];decide) (by omega) (by rw[aNf];omega)
    rw[←hG,←hROW]at hr
    simp only[execOp,resolve,invoke,builtin]
    simp[hA.get 20 _ rfl,hA.get 21 _ rfl,dv,hr]
  have hw0:Below W.heap.size W w:=by
    exact⟨e20.os,e20.tape,e20.output,e20.size,fun k hk=>e20.get hk⟩
  have hb:Below W.heap.size W (w.drew.alloc (.cells ROW 51)):=by
    have h:=hw0.alloc hw0.size (.cells ROW 51)
    exact⟨h.os,h.tape,h.output,h.size,h.block⟩
  have hat:(w.drew.alloc (.cells ROW 51)).heap[w.heap.size]? = some (.cells ROW 51 (0,0)):=by
    simp only[World.alloc,World.drew]
    rw[Array.getElem?_push,Ar rfl]
  have hsz:w.heap.size<(w.drew.alloc (.cells ROW 51)).heap.size:=by simp only[World.alloc,World.drew,Array.size_push];omega
  generalize w.drew.alloc (.cells ROW 51)=W1 at hb hat hsz ⊢
  have f0:Env W1 W1:=.refl _
  have hG0:0<G:=by omega
  refine eM hA f0 (by decide) rfl fun a v hA f1=>?_
  refine aMx hA f1 (by decide) hu46 rfl fun a v hA f2=>?_
  refine aCr (e:=51) (sz:=1) hA f2 (by decide) (by kernel_rfl) (by kernel_rfl) hGn rfl rfl (.inr ⟨hG0,_,rfl⟩) fun a v hA f3=>?_
  refine rQ hA f3 (by decide) rfl fun a v hA f4=>kK ?_
  refine eF (iE ?_)
  refine eM hA f4 (by decide) rfl fun a v hA f5=>?_
  refine rQ hA f5 (by decide) rfl fun a v hA f6=>kK (yK ?_)
  refine⟨hA.defs,fun v1 f7=>⟨.slice (some ⟨w.heap.size,0,none⟩) 0 G,?_,w.heap.size,G,ROW,hGn,hGm,hRl,e20.size,rfl,?_,?_⟩⟩
  · have hr:=hA.get 4 _ rfl
    show aP _ (results _ a.tmps) v1=_
    have hrs:Fa.results=#[.tmp 4]:=rfl
    simp only[results,hrs]
    simp only[C3,Aw]at hr
    simp[hr]
  · rw[(f6.trans f7).get hsz];exact hat
  · have f8:=f6.trans f7
    exact⟨f8.os.trans hb.os,f8.tape.trans hb.tape,f8.output.trans hb.output,AO hb.size f8.size,fun k hk=>(f8.get (A4 hk hb.size)).trans (hb.block k hk)⟩
set_option maxHeartbeats 400000 in
set_option maxRecDepth 100000 in
theorem aWu[M:Mch Aa](W:World):CX Aa 103 #[.slice none 0 0,.int .i64 0] W fun x w'=>x=.slice none 0 0∧Below W.heap.size W w':=by
  refine gZ Tryz.func103 rfl ?_
  have hu46:(Aa).underlying 46=some (.slice 51):=by kernel_rfl
  have e0:Env W W:=.refl W
  have hb0:∀ t,dJ .sub t (.d (.i .i64 0)) (.d (.i .i64 0))=some (.i .i64 0):=fun t=>by simp[dJ,arith];decide
  have hA:AL 27 [(0,.slice none 0 0),(1,.int .i64 0)] { tmps:=#[EI none 0 0,Fy .i64 0]++AY (Fa.ntmps - #[EI none 0 0,Fy .i64 0].size) undef,defers:=[] }:=AL.start _ _ 25
  generalize({ tmps:=#[EI none 0 0,Fy .i64 0]++AY (Fa.ntmps - #[EI none 0 0,Fy .i64 0].size) undef,defers:=[] }:Act)=a0 at hA ⊢
  refine eF (iE ?_)
  refine rQ hA e0 (by decide) rfl fun a v hA e1=>kK ?_
  refine eF (eF (iE ?_))
  refine eM hA e1 (by decide) rfl fun a v hA e2=>?_
  refine oQ (.b false) hA e2 (by decide) rfl rfl (by simp[dJ,arith]) (.inl ⟨_,rfl⟩) fun a v hA e3=>kK ?_
  refine nA (t:=false) (hA.get _ _ rfl) (xL ?_)
  refine eF (eF (iE ?_))
  refine eM hA e3 (by decide) rfl fun a v hA e4=>?_
  refine eM hA e4 (by decide) rfl fun a v hA e5=>?_
  refine aMy hA e5 (by decide) hu46 rfl fun a v hA e6=>?_
  refine eM hA e6 (by decide) rfl fun a v hA e7=>?_
  refine aMx hA e7 (by decide) hu46 rfl fun a v hA e8=>?_
  refine oQ (.i .i64 0) hA e8 (by decide) rfl rfl (hb0 _) (.inr ⟨_,_,rfl⟩) fun a v hA e9=>?_
  refine oQ (.i .i64 0) hA e9 (by decide) rfl rfl (hb0 _) (.inr ⟨_,_,rfl⟩) fun a v hA e10=>?_
  refine rQ hA e10 (by decide) rfl fun a v hA e11=>kK ?_
  refine eF (iE ?_)
  refine eM hA e11 (by decide) rfl fun a v hA e12=>?_
  refine oQ (.b false) hA e12 (by decide) rfl rfl (by simp[dJ,arith]) (.inl ⟨_,rfl⟩) fun a v hA e13=>kK ?_
  refine nA (t:=false) (hA.get _ _ rfl) (xL ?_)
  refine eF (iE ?_)
  refine eM hA e13 (by decide) rfl fun a v hA e14=>?_
  refine rQ hA e14 (by decide) rfl fun a v hA e15=>kK (yK ?_)
  refine⟨hA.defs,fun v1 f7=>⟨.slice none 0 0,?_,rfl,?_⟩⟩
  · have hr:=hA.get 4 _ rfl
    show aP _ (results _ a.tmps) v1=_
    have hrs:Fa.results=#[.tmp 4]:=rfl
    simp only[results,hrs]
    simp only[C3,Aw]at hr
    simp[hr]
  · have f8:=e15.trans f7
    exact⟨f8.os,f8.tape,f8.output,f8.size,fun k hk=>f8.get hk⟩
theorem aIl{vs:Array Value}(h:2=vs.size):∃ v0 v1,vs=#[v0,v1]:=by
  obtain⟨v0,hv0⟩:∃ v1,vs[0]? = some v1:=⟨vs[0],Ak (by omega)⟩
  obtain⟨v1,hv1⟩:∃ v1,vs[1]? = some v1:=⟨vs[1],Ak (by omega)⟩
  refine⟨v0,v1,?_⟩
  apply Array.ext_getElem?
  intro k
  match k with
  |0=>simpa using hv0
  |1=>simpa using hv1
  |k+2=>rw[Array.getElem?_eq_none (by omega)];simp
theorem wK(vs:Array Value)(w:World):aP Aa (callFunc 103 vs) w=.ok (.enter 103 vs) w:=by
  have hn:¬ Fa.name = "runtime.NumGoroutine" := by
    have:(Fa.name == "runtime.NumGoroutine")=false:=rfl
    simpa using this
  have hb:Fa.body=some _:=rfl
  simp[callFunc,Tryz.func103,hn,hb]
theorem bYj[M:Mch Aa](n:Nat)(h0:0<n)(hn:n≤1000000):aBs Aa 103 [.nil,.d (.i .i64 (n:Int))] (fun m=>.own m 0 0 1) (fun _=>[.cells 51 []]):=by
  intro A W vs hA hl hv
  obtain⟨v0,v1,rfl⟩:=aIl hl
  have h1:=hv 0 _ v0 rfl rfl
  cases h1
  have h2:=hv 1 _ v1 rfl rfl
  cases h2 with|d _ _ h2 =>
  cases h2
  refine⟨wK _,?_⟩
  refine(bFc n W h0 hn).mono ?_
  rintro e w' ⟨b,G,ROW,hG,hGm,hR,hbW,rfl,hat,hb⟩
  have hsz:b<w'.heap.size:=bH hat
  refine⟨hb,fun m hm=>⟨A,fun id=>if id=m then some b else none,fun b h=>.inl h,?_,fun id=>?_,fun id b' h=>?_,fun i o b' ho hb'=>?_,fun id id' b' h h'=>?_⟩⟩
  · have:=V.own (F:=A) (w:=w') (ι:=fun id=>if id=m then some b else none) m 0 0 1 b G ROW 51 (Ar rfl) hat (by omega) (by omega) hGm
    rwa [Fg]at this
  · constructor
    · rintro⟨b',h⟩
      simp only at h
      split at h
      · rename_i e;subst e;exact⟨Az _,by simp⟩
      · cases h
    · rintro⟨h1,h2⟩
      have e:id=m:=by simp at h2;omega
      exact⟨_,Ar e⟩
  · simp only at h
    split at h
    · injection h with h;subst h
      exact⟨hbW,hsz,fun h=>Nat.lt_irrefl _ (A4 (hA _ h) hbW)⟩
    · cases h
  · have hi:i=0:=by
      have:=(Aq.1 ho).1
      simp at this;exact this
    subst hi
    simp at ho;subst ho
    simp at hb';subst hb'
    exact⟨_,hat,.cells _ _ _ (A5 _) fun k c h=>by simp at h⟩
  · simp only at h h'
    split at h
    · rename_i e
      split at h'
      · rename_i e';exact e.trans e'.symm
      · cases h'
    · cases h
theorem bVj[M:Mch Aa]:aBs Aa 103 [.nil,.d (.i .i64 0)] (fun _=>.nil) (fun _=>[]):=by
  intro A W vs hA hl hv
  obtain⟨v0,v1,rfl⟩:=aIl hl
  have h1:=hv 0 _ v0 rfl rfl
  cases h1
  have h2:=hv 1 _ v1 rfl rfl
  cases h2 with|d _ _ h2 =>
  cases h2
  refine⟨wK _,?_⟩
  refine(aWu W).mono ?_
  rintro e w' ⟨rfl,hb⟩
  exact⟨hb,fun m hm=>⟨A,fun _=>none,fun b h=>.inl h,.nil,fun id=>⟨fun⟨b,h⟩=>(by cases h),fun h=>(by simp at h;omega)⟩,fun id b h=>(by cases h),fun i o b h=>(by simp at h),fun id id' b h h'=>(by cases h)⟩⟩
end Go.Am
end
section
open List renaming map_map→ζ,mapM_map→ξ
open Go Go.Am Go.Proofs
namespace Go.Am
theorem iT(l:List Nat):one (.d (cP l))=true:=rfl
theorem eE(l:List Nat):dF (.d (cP l))=some [.d (cP l)]:=rfl
theorem gM(l:List Nat):aR (cP l)=.d (cP l):=rfl
theorem bFu(H:Hp)(n:Nat):iZ H n []=H:=by
 funext id;unfold iZ;rw[Aj (by simp)]
theorem aAl(H:Hp)(n:Nat)(o:HO):iZ H n [o]=upd H n (some o):=by
 funext id;unfold iZ upd
 by_cases h:id=n
 ·subst h;simp
 ·rw[Aj (by simp;omega)];simp[h]
theorem bPk(l:List Nat):((l.map fun(p:Nat)=>[D.i .u64 (p:Int)]).map (Co AV.d)).flatten=(dU l).map AV.d:=by
 induction l with
 |nil=>rfl
 |cons x l ih=>simp only[BH,Cw,ih];rfl
theorem aPs(a b:List Nat):dU (a++b)=dU a++dU b:=by simp[dU]
theorem bPj(l:List Nat):((dU l).map AV.d).all one=true:=by
 rw[A6]
 intro x hx
 obtain⟨d,hd,rfl⟩:=AZ.1 hx
 obtain⟨p,_,rfl⟩:=AZ.1 hd
 rfl
def aEj(a b:List Nat):D:=.sl [[cP a],[cP b]]
set_option maxHeartbeats 4000000 in
set_option maxRecDepth 10000 in
theorem aTg[M:Mch Aa](a b:List Nat)(ha:a.length≤10000)(hb:b.length≤10000):Spec Aa 58 [aEj a b] (cP (a++b)):=by
 have hw0:Ag.wrap (a.length:Int)=(a.length:Int):=aU
 have hw1:Ag.wrap ((a.length:Int)+b.length)=(a.length:Int)+b.length:=aU
 have hwz:Ag.wrap 1=1:=by decide
 have hwz2:Ag.wrap 2=2:=by decide
 have h00:¬(a.length:Int)<0:=by omega
 have h01:¬(a.length:Int)+b.length<0:=by omega
 refine bF (N:=36) Tryz.func58 ?_
 simp[-ζ,-ξ,↓KW,aEj,iT,eE,gM]
 refine fK 3 ?_
 simp[-ζ,-ξ,↓KW,↓aL,↓aF,↓aJ,↓aK,aEj,cP,iT,eE,gM,hw0,hw1,hwz,hwz2,h00,h01]
 by_cases hab:a.length+b.length=0
 ·have ea:a=[]:=BT (by omega)
  have eb:b=[]:=BT (by omega)
  subst ea;subst eb
  refine aDm (fun _=>.nil) (fun _=>[]) (by simp) (by simp) (by simp) (by rfl) (by simpa[aGg,aNe]using bVj) ?_
  simp[-ζ,-ξ,↓KW,bFu,cP]
  refine fK 3 ?_
  simp[-ζ,-ξ,↓KW,↓aL,↓aF,↓aJ,↓aK,aEj,cP,iT,eE,gM,hwz,hwz2]
 ·refine aDm (fun m=>.own m 0 0 1) (fun _=>[.cells 51 []]) (by simp) (by simp) (by simp) (by rfl) (by simpa[aGg,aNe]using bYj (a.length+b.length) (by omega) (by omega)) ?_
  have hok:∀ l:List Nat,fF 1 (l.map fun(p:Nat)=>[D.i .u64 (p:Int)])=true:=fun l=>by cases l<;>simp[fF]
  have hff:=bPk
  have hla:=eK a
  have hlb:=eK b
  have hbb:a.length*8≤140737488355328∧a.length≤maxLen:=⟨by omega,bT (by omega)⟩
  have hbb2:(a.length+b.length)*8≤140737488355328∧a.length+b.length≤maxLen:=⟨by omega,bT (by omega)⟩
  have hab':(a++b).length=a.length+b.length:=Bb
  have e1:DH (a.length+b.length) ((dU (a++b)).map AV.d)=(dU (a++b)).map AV.d:=jP hab'
  have e2:chunk 1 (a.length+b.length) (dU (a++b))=(a++b).map fun(p:Nat)=>[D.i .u64 (p:Int)]:=mV hab'
  have e3:=eK (a++b)
  rw[hab']at e3
  have e4:(dU a).map AV.d++(dU b).map AV.d=(dU (a++b)).map AV.d:=by rw[aPs,Ex]
  have hone:=bPj
  simp[-ζ,-ξ,↓KW,aAl,cP]
  refine fK 3 ?_
  simp[-ζ,-ξ,↓KW,↓aL,↓aF,↓aJ,↓aK,aEj,cP,iT,eE,gM,hwz,hwz2,bIf,hok,hone,hff,hla,hlb,hbb,hbb2,e1,e2,e3,e4]
theorem pK(l:List Nat):inj (cP l)=.d (cP l):=rfl
theorem kQ(H:Hp)(avs:List AV)(l:List Nat):bD H avs (cP l)=cB H avs:=rfl
set_option maxRecDepth 10000 in
theorem bNd[M:Mch Aa](n:Nat):Spec Aa 59 [bN 0,.i .u64 n] (cP []):=by
 have hE:=aSy 0 (rR (by decide)) (rR (by decide)) (by decide)
 have h0:encZ 0=bN 0:=dC 0
 rw[h0]at hE
 simp only[decide_true]at hE
 refine oV (N:=31) aW Tryz.func59 rfl rfl rfl (by kernel_rfl) (by kernel_rfl) (by simp) ?_
 refine cZ (by kernel_rfl) ?_
 simp[-ζ,-ξ,↓KW,↓aL,↓aF,↓aJ,↓aK,aO 0,aA,aD]
 refine cZ (by kernel_rfl) ?_
 simp[-ζ,-ξ,↓KW,↓aL,↓aF,↓aJ,↓aK,aO 0,aA,aD,aC,aE,aB]
 refine aH hE ?_
 simp[-ζ,-ξ,↓KW,↓aL,↓aF,↓aJ,↓aK,aO 0,aA,aD,aC,aE,aB,cP]
def fJ(c:Nat):Nat→List Nat→List Nat
 |acc,[]=>[]
 |acc,p::l=>if c<acc then[]else p::fJ c (acc*p) l
theorem iU(c:Nat):∀(l:List Nat) (acc:Nat),∃ k,fJ c acc l=l.take k
 |[],acc=>⟨0,by simp[fJ]⟩
 | p::l,acc=>by
  unfold fJ
  split
  ·exact⟨0,rfl⟩
  ·obtain⟨k,hk⟩:=iU c l (acc*p)
   exact⟨k+1,by simp[hk]⟩
theorem vI(c:Nat):∀(l:List Nat) (acc:Nat),c<acc*cJ l→c<acc*cJ (fJ c acc l)
 |[],acc,h=>by simpa[fJ]using h
 | p::l,acc,h=>by
  unfold fJ
  split
  ·rename_i h1;simpa[cJ]using h1
  ·have:=vI c l (acc*p) (by simpa[cJ,BU]using h)
   simpa[cJ,BU]using this
theorem qU(c:Nat):∀(l:List Nat) (acc k:Nat),k<(fJ c acc l).length→acc*cJ ((fJ c acc l).take k)≤c
 |[],acc,k,h=>by simp[fJ]at h
 | p::l,acc,k,h=>by
  unfold fJ at h ⊢
  split
  ·rename_i h1;simp[h1]at h
  ·rename_i h1
   rw[Aj h1]at h
   cases k with
   |zero=>simp[cJ];omega
   | succ k =>
    have:=qU c l (acc*p) k (by simpa using h)
    simpa[cJ,BU]using this
theorem aWg{b:Nat}{l:List Nat}(h:2*b<cJ l):Ndd b (fJ (2*b) 1 l) where
 big:=by have:=vI (2*b) l 1 (by simpa using h);simpa using this
 low k hk:=by have:=qU (2*b) l 1 k hk;simpa using this
def wpL(b k:Nat):List Nat:=P10.take (2*k)++fJ (2*b) 1 (P10.drop (2*k))
set_option maxHeartbeats 4000000 in
set_option maxRecDepth 10000 in
theorem bSl[M:Mch Aa](b:Nat)(N:List Nat)(hN:N.length≤1000)(hNe:Spec Aa 59 [bN b,.i .u64 2147483648] (cP N)):Spec Aa 19 [bN b,.i .i64 0] (cP N):=by
 have hPr:=aJu 2147483648
 have hC:=aTg [] N (by simp) (by omega)
 rw[Dq]at hC
 refine bF (N:=26) Tryz.func19 ?_
 simp[-ζ,-ξ,↓KW,aO b,aA,aD]
 refine aH hPr ?_
 have hnil:cP []=.sl []:=rfl
 simp[-ζ,-ξ,↓KW,hnil,aA,aD,aC,aE,aB]
 refine aH hNe ?_
 simp[-ζ,-ξ,↓KW,iT,eE,gM,pK,kQ]
 refine aH hC ?_
 simp[-ζ,-ξ,↓KW,iT,eE,gM,pK,kQ]
set_option maxHeartbeats 4000000 in
set_option maxRecDepth 10000 in
theorem aFa[M:Mch Aa](b k p:Nat)(T N:List Nat)(hN:N.length≤1000)(hk:k≤3)(hT:T.length+1=2*k)(hPr:Spec Aa 57 [.i .u64 2147483648,.i .i64 ((2*k:Nat):Int)] (cP (T++[p])))(hNe:Spec Aa 59 [bN b,.i .u64 p] (cP N)):Spec Aa 19 [bN b,.i .i64 k] (cP (T++[p]++N)):=by
 have hC:=aTg (T++[p]) N (by simp;omega) (by omega)
 have hmin:(if(1073741824:Int)<(k:Int)then(1073741824:Int)else(k:Int))=k:=by rw[Aj (by omega)]
 have hw:Ag.wrap (2*(k:Int))=((2*k:Nat):Int):=by rw[show 2*(k:Int)=((2*k:Nat):Int)from by omega];exact aU
 have hwl:Ag.wrap (T.length:Int)=(T.length:Int):=aU
 have h0:(0:Int)<(T.length:Int)+1:=by omega
 refine bF (N:=26) Tryz.func19 ?_
 simp[-ζ,-ξ,↓KW,aO b,aA,aD]
 rw[hmin]
 simp[-ζ,-ξ,↓KW,hw]
 refine aH hPr ?_
 have hlen:∃ l,cP (T++[p])=.sl l∧l.length=T.length+1∧l[T.length]? = some [.i .u64 (p:Int)]:=⟨_,rfl,by simp,by simp⟩
 obtain⟨l,hl,hl1,hl2⟩:=hlen
 have hl3:inj (cP (T++[p]))=.d (.sl l):=by rw[pK,hl]
 have hl4:aEj (T++[p]) N=.sl [[.sl l],[cP N]]:=by rw[←hl];rfl
 rw[hl4]at hC
 have hl5:∀ h,l[T.length]'h=[.i .u64 (p:Int)]:=fun h=>by rw[Ab h]at hl2;injection hl2
 simp[-ζ,-ξ,↓KW,hl3,kQ,hl1,h0,hwl,hl2,hl5,iT,eE,gM,aA,aD,aC,aE,aB]
 refine aH hNe ?_
 simp[-ζ,-ξ,↓KW,iT,eE,gM,pK,kQ]
 refine aH hC ?_
 simp[-ζ,-ξ,↓KW,iT,eE,gM,pK,kQ]
theorem tD:P10.length=10:=rfl
theorem aWj{c acc:Nat}{l:List Nat}{p:Nat}(h:p∈fJ c acc l):p∈l:=by
 obtain⟨k,hk⟩:=iU c l acc
 rw[hk]at h
 exact Bn h
theorem bHx:∀ k:Nat,k≤3→2*2^96<cJ (P10.drop (2*k)):=by decide
theorem bNc[M:Mch Aa](b k:Nat)(hb:b<2^96)(hk:k≤3):Spec Aa 59 [bN b,.i .u64 ((if 2*k=0 then 2147483648 else P10[2*k-1]! : Nat):Int)] (cP (fJ (2*b) 1 (P10.drop (2*k)))):=by
 have hbig:=bHx k hk
 have hD:=jA.drop (k:=2*k) bGq (by rw[tD];omega)
 have hm:∀ p∈P10.drop (2*k),p∈P10:=fun p hp=>FD hp
 have hln:(P10.drop (2*k)).length≤10:=by rw[Ed,tD];omega
 generalize(if 2*k=0 then 2147483648 else P10[2*k-1]! : Nat)=n at *
 generalize P10.drop (2*k)=L at *
 rcases Bf b with h0|h0
 ·subst h0
  have e:fJ (2*0) 1 L=[]:=by
   cases L with
   |nil=>rfl
   |cons p L=>rfl
  rw[e];exact bNd n
 ·have hN:=aWg (b:=b) (l:=L) (by omega)
  have hlow:=qU (2*b) L 1
  have hmm:∀ p∈fJ (2*b) 1 L,p∈P10:=fun p hp=>hm p (aWj hp)
  obtain⟨j,hj⟩:=iU (2*b) L 1
  have hD2:jA n (fJ (2*b) 1 L):=by rw[hj];exact jA.take hD
  generalize fJ (2*b) 1 L=N at *
  have hl6:N.length≤7:=by
   refine BW fun hc=>?_
   have h8:=hlow 7 (by omega)
   have hmin:∀ l:List Nat,(∀ p∈l,1073741824≤p)→1073741824^l.length≤cJ l:=by
    intro l
    induction l with
    |nil=>intro _;simp[cJ]
    | cons x l ih =>
     intro h
     rw[Ah,BI,BV]
     exact Bg (h x (AH ..)) (ih fun p hp=>h p (AE _ hp))
   have hge:∀ p∈P10,1073741824≤p:=by decide
   have h9:=hmin (N.take 7) fun p hp=>hge p (hmm p (Bn hp))
   have hl7:(N.take 7).length=7:=by rw[AT];omega
   rw[hl7]at h9
   have h10:(1073741824:Nat)^7=2^210:=by decide
   have h11:(2:Nat)^96*2^114=2^210:=by decide
   have h12:(2:Nat)^114=20769187434139310514121985316880384:=by decide
   have h13:(2:Nat)^96=79228162514264337593543950336:=by decide
   omega
  cases N with
  |nil=>exact absurd hN.big (by simp[cJ];omega)
  |cons p0 ps=>exact aOr b n p0 ps (by omega) h0 hD2 (by simp at hl6;omega) hN fun p hp=>bWs (hmm p hp)
theorem aFh[M:Mch Aa](b k:Nat)(hb:b<2^96)(hk:k≤3):Spec Aa 19 [bN b,.i .i64 k] (cP (wpL b k)):=by
 have hN:=bNc b k hb hk
 have hl:(fJ (2*b) 1 (P10.drop (2*k))).length≤1000:=by
  obtain⟨j,hj⟩:=iU (2*b) (P10.drop (2*k)) 1
  have:=List.length_take_le' j (P10.drop (2*k))
  have h2:(P10.drop (2*k)).length≤10:=by rw[Ed,tD];omega
  rw[hj];omega
 have hd:=bGq
 unfold wpL
 have hk4:k=0∨k=1∨k=2∨k=3:=by omega
 rcases hk4 with rfl|rfl|rfl|rfl
 ·exact bSl b _ hl hN
 ·exact aFa b 1 2147483629 [2147483647] _ hl (by omega) rfl (sI 2147483648 2147483647 [2147483629] (jA.take (k:=2) hd) (by decide)) hN
 ·exact aFa b 2 2147483579 [2147483647,2147483629,2147483587] _ hl (by omega) rfl (sI 2147483648 2147483647 [2147483629,2147483587,2147483579] (jA.take (k:=4) hd) (by decide)) hN
 ·exact aFa b 3 2147483549 [2147483647,2147483629,2147483587,2147483579,2147483563] _ hl (by omega) rfl (sI 2147483648 2147483647 [2147483629,2147483587,2147483579,2147483563,2147483549] (jA.take (k:=6) hd) (by decide)) hN
def Pr3(n:Nat):Prop:=2≤n∧n<2147483648∧∀ d,2≤d→d*d≤n→n%d≠0
set_option maxHeartbeats 4000000 in
set_option maxRecDepth 10000 in
theorem aJj[M:Mch Aa](n:Nat)(b:Bool)(hb:b=true↔Pr3 n)(hn:n<18446744073709551616):Spec Aa 98 [.i .u64 n] (.b b):=by
 refine bF (N:=21) Tryz.func98 ?_
 simp[-ζ,-ξ,↓KW]
 by_cases h1:n<2
 ·have hbf:b=false:=by
   cases b with
   |false=>rfl
   |true=>have:=hb.1 rfl;unfold Pr3 at this;omega
  have hi:decide ((n:Int)<2)=true:=by simp;omega
  subst hbf
  simp[-ζ,-ξ,↓KW,hi,h1]
 by_cases h2:2147483648≤n
 ·have hbf:b=false:=by
   cases b with
   |false=>rfl
   |true=>have:=hb.1 rfl;unfold Pr3 at this;omega
  subst hbf
  have hi:¬((n:Int)<2):=by omega
  have hj:(2147483648:Int)≤(n:Int):=by omega
  simp[-ζ,-ξ,↓KW,hi,hj,h1,h2]
 have hi:¬((n:Int)<2):=by omega
 have hj:¬(2147483648:Int)≤(n:Int):=by omega
 simp[-ζ,-ξ,↓KW,hi,hj,h1,h2]
 refine cM (τ:=Nat) (fun d=>2≤d∧d≤46341∧∀ e,2≤e→e<d→n%e≠0) (fun d=>StL [(0,.d (.i .u64 n)),(3,.d (.i .u64 d))] none []) (fun d=>46341-d) 2 ⟨by omega,by omega,fun e h1 h2=>by omega⟩ ?_ ?_
 ·refine wkQ [] ?_ ?_<;>simp[-ζ,upd,aR,Γ0]
 ·rintro d ⟨h3,h4,h5⟩
  have hw:AA.wrap ((d:Int)*(d:Int))=((d*d:Nat):Int):=by
   rw[←CC]
   have:=Bg h4 h4
   exact wrap_u64 (by omega) (by omega)
  have hd0:((d:Int)==0)=false:=by simp;omega
  have hd1:¬d=0:=by omega
  have htm:((n:Int).tmod (d:Int))=((n%d:Nat):Int):=by rw[Ce (by omega)];rfl
  have hw1:AA.wrap ((d:Int)+1)=((d+1:Nat):Int):=wrap_u64 (by omega) (by omega)
  by_cases hd:d*d≤n
  ·have hle:decide (((d*d:Nat):Int)≤(n:Int))=true:=by simp only[BP];omega
   have hd2:d<46341:=by
    refine BW fun hc=>?_
    have:d=46341:=by omega
    subst this;omega
   by_cases hz:n%d=0
   ·have hbf:b=false:=by
     cases b with
     |false=>rfl
     |true=>exact absurd hz ((hb.1 rfl).2.2 d h3 hd)
    have hzi:(((n%d:Nat):Int)==0)=true:=by rw[hz];rfl
    subst hbf
    generalize d*d=dd at *
    generalize n%d=r at *
    simp[-ζ,-ξ,↓KW,hw,hd,hd0,hd1,htm,hzi]
   ·have hzi:(((n%d:Nat):Int)==0)=false:=by simp;omega
    have hst:∀ e,2≤e→e<d+1→n%e≠0:=fun e g1 g2=>by
     by_cases g:e=d
     ·subst g;exact hz
     ·exact h5 e g1 (by omega)
    generalize d*d=dd at *
    generalize n%d=r at *
    simp[-ζ,-ξ,↓KW,hw,hd,hd0,hd1,htm,hzi,hw1]
    refine aM (d+1) ⟨by omega,by omega,hst⟩ (by show 46341-(d+1)<46341-d;omega) (wkQ [] ?_ ?_)<;>simp[-ζ,upd,aR,Γ0]
  ·have hle:decide (((d*d:Nat):Int)≤(n:Int))=false:=by simp only[Fb];omega
   have hbt:b=true:=hb.2 ⟨by omega,by omega,fun e g1 g2=>h5 e g1 (by
    refine BW fun hc=>hd ?_
    exact AO (Bg (by omega) (by omega)) g2)⟩
   subst hbt
   generalize d*d=dd at *
   simp[-ζ,-ξ,↓KW,hw,hd]
set_option maxHeartbeats 4000000 in
set_option maxRecDepth 10000 in
theorem aVi[M:Mch Aa](n m:Nat)(h:m<n)(hn:n≤2147483648)(hp:∀ v:Nat,m≤v→v<n→Spec Aa 98 [.i .u64 v] (.b (decide (v=m)))):Spec Aa 60 [.i .u64 n] (.i .u64 m):=by
 refine bF (N:=15) Tryz.func60 ?_
 have hmin:(if(2147483648:Int)<(n:Int)then(2147483648:Int)else(n:Int))=n:=by rw[Aj (by omega)]
 simp[-ζ,-ξ,↓KW]
 rw[hmin]
 refine cM (τ:=Nat) (fun v=>m<v∧v≤n) (fun v=>StL [(3,.d (.i .u64 v))] none []) (fun v=>v) n ⟨h,Az _⟩ ?_ ?_
 ·refine wkQ [] ?_ ?_<;>simp[-ζ,upd,aR,Γ0]
 ·rintro v ⟨h1,h2⟩
  have hv0:0<v:=by omega
  have hw:AA.wrap ((v:Int)-1)=((v-1:Nat):Int):=by
   rw[show((v:Int)-1)=((v-1:Nat):Int)from by omega]
   exact wrap_u64 (by omega) (by omega)
  have hP:=hp (v-1) (by omega) (by omega)
  by_cases he:v-1=m
  ·rw[BK he]at hP
   generalize v-1=u at *
   subst he
   simp[-ζ,-ξ,↓KW,hv0,hw]
   refine aH hP ?_
   simp[-ζ,-ξ,↓KW]
  ·rw[Bj he]at hP
   have hlt:v-1<v:=by omega
   have hmv:m<v-1:=by omega
   have hvn:v-1≤n:=by omega
   generalize v-1=u at *
   simp[-ζ,-ξ,↓KW,hv0,hw]
   refine aH hP ?_
   simp[-ζ,-ξ,↓KW]
   refine aM u ⟨hmv,hvn⟩ hlt (wkQ [] ?_ ?_)<;>simp[-ζ,upd,aR,Γ0]
def rH(n:Nat):Nat→Nat→Bool
 |0,d=>!(Nat.beq (n%d) 0)
 |k+1,d=>rH n k d&&rH n k (d+2*2^k)
theorem aGl{n:Nat}:∀{k d:Nat},rH n k d=true→∀ i,i<2^k→n%(d+2*i)≠0
 | 0,d,h,i,hi=>by
  have:i=0:=by simpa using hi
  subst this
  intro hz
  unfold rH at h
  simp only[Nat.mul_zero,B5]at hz
  rw[hz]at h;cases h
 | k+1,d,h,i,hi=>by
  unfold rH at h
  simp only[A1]at h
  by_cases hk:i<2^k
  ·exact aGl h.1 i hk
  ·have:=aGl h.2 (i-2^k) (by rw[BI]at hi;omega)
   rwa [show d+2*2^k+2*(i-2^k)=d+2*i from by omega]at this
theorem eW{n:Nat}(h0:2≤n)(h1:n<2147483648)(h2:n%2≠0)(h3:rH n 15 3=true):Pr3 n:=by
 refine⟨h0,h1,fun d g1 g2 hz=>?_⟩
 have hd:d<46341:=by
  refine BW fun hc=>?_
  have:=Bg (show 46341≤d by omega) (show 46341≤d by omega)
  omega
 rcases FW d with he|he
 ·have:=Nat.mod_mod_of_dvd n (Cl he)
  rw[hz]at this
  exact h2 this.symm
 ·have hk:=aGl h3 ((d-3)/2) (by show(d-3)/2<32768;omega)
  rw[show 3+2*((d-3)/2)=d from by omega]at hk
  exact hk hz
def aTh:Nat→List Nat→Bool
 |_,[]=>true
 |v,d::l=>Nat.beq (v%d) 0&&(Nat.ble 2 d&&(Nat.ble (d*d) v&&aTh (v+1) l))
theorem aLt:∀{v:Nat} {l:List Nat},aTh v l=true→∀ k,k<l.length→¬Pr3 (v+k)
 |v,[],h,k,hk=>by simp at hk
 | v,d::l,h,k,hk=>by
  unfold aTh at h
  simp only[A1,Nat.beq_eq_true_eq]at h
  cases k with
  |zero=>exact fun hp=>hp.2.2 d (Nat.le_of_ble_eq_true h.2.1) (Nat.le_of_ble_eq_true h.2.2.1) (Nat.eq_of_beq_eq_true h.1)
  | succ k =>
   have:=aLt h.2.2.2 k (by simpa using hk)
   rwa [show v+1+k=v+(k+1)from by omega]at this
theorem mC[M:Mch Aa]{n m:Nat}{l:List Nat}(hl:l.length=n-(m+1))(h:m<n)(hn:n≤2147483648)(hm:Pr3 m)(hc:aTh (m+1) l=true):Spec Aa 60 [.i .u64 n] (.i .u64 m):=by
 refine aVi n m h hn fun v h1 h2=>aJj v _ ?_ (by omega)
 by_cases hv:v=m
 ·subst hv;simp[hm]
 ·have:=aLt hc (v-(m+1)) (by omega)
  rw[show m+1+(v-(m+1))=v from by omega]at this
  simp[hv,this]
def ws0:List Nat:=[]
theorem np0:rH 2147483647 15 3=true:=by kernel_rfl
theorem bZx[M:Mch Aa]:Spec Aa 60 [.i .u64 2147483648] (.i .u64 2147483647):=mC (n:=2147483648) (m:=2147483647) (l:=ws0) (by kernel_rfl) (by decide) (by decide) (eW (by decide) (by decide) (by decide) np0) (by kernel_rfl)
def ws1:List Nat:=[2,3,2,5843,2,5,2,3,2,7,2,2699,2,3,2,5,2]
theorem np1:rH 2147483629 15 3=true:=by kernel_rfl
theorem bZw[M:Mch Aa]:Spec Aa 60 [.i .u64 2147483647] (.i .u64 2147483629):=mC (n:=2147483647) (m:=2147483629) (l:=ws1) (by kernel_rfl) (by decide) (by decide) (eW (by decide) (by decide) (by decide) np1) (by kernel_rfl)
def ws2:List Nat:=[2,3,2,11,2,59,2,3,2,7,2,1657,2,3,2,1187,2,5,2,3,2,41,2,7,2,3,2,5,2,6733,2,3,2,14741,2,79,2,3,2,47,2]
theorem np2:rH 2147483587 15 3=true:=by kernel_rfl
theorem bZv[M:Mch Aa]:Spec Aa 60 [.i .u64 2147483629] (.i .u64 2147483587):=mC (n:=2147483629) (m:=2147483587) (l:=ws2) (by kernel_rfl) (by decide) (by decide) (eW (by decide) (by decide) (by decide) np2) (by kernel_rfl)
def ws3:List Nat:=[2,89,2,3,2,5,2]
theorem np3:rH 2147483579 15 3=true:=by kernel_rfl
theorem bZu[M:Mch Aa]:Spec Aa 60 [.i .u64 2147483587] (.i .u64 2147483579):=mC (n:=2147483587) (m:=2147483579) (l:=ws3) (by kernel_rfl) (by decide) (by decide) (eW (by decide) (by decide) (by decide) np3) (by kernel_rfl)
def ws4:List Nat:=[2,3,2,11503,2,7,2,3,2,23,2,5,2,3,2]
theorem np4:rH 2147483563 15 3=true:=by kernel_rfl
theorem bZt[M:Mch Aa]:Spec Aa 60 [.i .u64 2147483579] (.i .u64 2147483563):=mC (n:=2147483579) (m:=2147483563) (l:=ws4) (by kernel_rfl) (by decide) (by decide) (eW (by decide) (by decide) (by decide) np4) (by kernel_rfl)
def ws5:List Nat:=[2,32063,2,3,2,5,2,3181,2,3,2,167,2]
theorem np5:rH 2147483549 15 3=true:=by kernel_rfl
theorem bZs[M:Mch Aa]:Spec Aa 60 [.i .u64 2147483563] (.i .u64 2147483549):=mC (n:=2147483563) (m:=2147483549) (l:=ws5) (by kernel_rfl) (by decide) (by decide) (eW (by decide) (by decide) (by decide) np5) (by kernel_rfl)
def ws6:List Nat:=[2,5,2,3,2]
theorem np6:rH 2147483543 15 3=true:=by kernel_rfl
theorem bZr[M:Mch Aa]:Spec Aa 60 [.i .u64 2147483549] (.i .u64 2147483543):=mC (n:=2147483549) (m:=2147483543) (l:=ws6) (by kernel_rfl) (by decide) (by decide) (eW (by decide) (by decide) (by decide) np6) (by kernel_rfl)
def ws7:List Nat:=[2,3,2,523,2,11,2,3,2,13,2,149,2,3,2,7,2,5,2,3,2,257,2,53,2,3,2,5,2,7,2,3,2,19,2,13,2,3,2,17,2,409,2,3,2]
theorem np7:rH 2147483497 15 3=true:=by kernel_rfl
theorem bZq[M:Mch Aa]:Spec Aa 60 [.i .u64 2147483543] (.i .u64 2147483497):=mC (n:=2147483543) (m:=2147483497) (l:=ws7) (by kernel_rfl) (by decide) (by decide) (eW (by decide) (by decide) (by decide) np7) (by kernel_rfl)
def ws8:List Nat:=[2,31,2,3,2,5,2]
theorem np8:rH 2147483489 15 3=true:=by kernel_rfl
theorem bZp[M:Mch Aa]:Spec Aa 60 [.i .u64 2147483497] (.i .u64 2147483489):=mC (n:=2147483497) (m:=2147483489) (l:=ws8) (by kernel_rfl) (by decide) (by decide) (eW (by decide) (by decide) (by decide) np8) (by kernel_rfl)
def ws9:List Nat:=[2,191,2,3,2,30649,2,5,2,3,2]
theorem np9:rH 2147483477 15 3=true:=by kernel_rfl
theorem bZo[M:Mch Aa]:Spec Aa 60 [.i .u64 2147483489] (.i .u64 2147483477):=mC (n:=2147483489) (m:=2147483477) (l:=ws9) (by kernel_rfl) (by decide) (by decide) (eW (by decide) (by decide) (by decide) np9) (by kernel_rfl)
def wV[M:Mch Aa]:Nat→List Nat→Prop
 |_,[]=>True
 |n,p::l=>0<p∧p<2147483648∧Spec Aa 60 [.i .u64 n] (.i .u64 p)∧wV p l
theorem bPi[M:Mch Aa]:wV 2147483648 P10:=⟨by decide,by decide,bZx,by decide,by decide,bZw,by decide,by decide,bZv,by decide,by decide,bZu,by decide,by decide,bZt,by decide,by decide,bZs,by decide,by decide,bZr,by decide,by decide,bZq,by decide,by decide,bZp,by decide,by decide,bZo,trivial⟩
theorem szR{z:Int}(h:z.natAbs<2^256):(aN z.natAbs).length≤137438953472∧(aN z.natAbs).length≤549755813888:=by
 have:=dD (n:=z.natAbs) (k:=8) (A4 h (by decide))
 omega
theorem aRq[M:Mch Aa](x y:Int)(hx:x.natAbs<2^255)(hy:y.natAbs<2^255):Spec Aa 23 [encZ x,encZ y] (.i .i64 (x-y).sign):=by
 have hS:=aGb x y (szR (by omega)).2 (szR (by omega)).2
 have hG:=kN (x-y)
 generalize x-y=z at *
 refine bF (N:=9) Tryz.func23 ?_
 simp[-ζ,-ξ,↓KW,bB x,bB y,aA,aD,aC,aE,aB]
 refine aH hS ?_
 simp[-ζ,-ξ,↓KW,bB z,aA,aD,aC,aE,aB]
 refine aH hG ?_
 simp[-ζ,-ξ,↓KW]
theorem xU[M:Mch Aa]{x y:Nat}(hx:x<2^255)(hy:y<2^255):Spec Aa 22 [bN x,bN y] (bN (x+y)):=by
 have:=tC (x:Int) (y:Int) (szR (by simp;omega)).2 (szR (by simp;omega)).2
 rwa [←Ey,dC,dC,dC]at this
theorem xT[M:Mch Aa]{x y:Nat}(hx:x<2^255)(hy:y<2^255):Spec Aa 24 [bN x,bN y] (bN (x*y)):=by
 have:=jI (x:Int) (y:Int) (szR (by simp;omega)).1 (szR (by simp;omega)).1
 rwa [←CC,dC,dC,dC]at this
theorem rX[M:Mch Aa]{x:Nat}(hx:x<9223372036854775808):Spec Aa 11 [.i .i64 x] (bN x):=by
 have:=aJo (x:Int) (by omega) (by omega)
 rwa [dC]at this
theorem aGc[M:Mch Aa]{x y:Nat}(hx:x<2^255)(hy:y<2^255):∃ r:Int,Spec Aa 23 [bN x,bN y] (.i .i64 r)∧(r≤0↔x≤y)∧(0<r↔y<x):=by
 have:=aRq (x:Int) (y:Int) (by simpa using hx) (by simpa using hy)
 rw[dC,dC]at this
 refine⟨_,this,?_⟩
 rw[jH]
 constructor<;>split<;>(try split)<;>omega
def pvL(n:Nat)(L:List Nat)(k:Nat):Nat:=match k with|0=>n|k+1=>L[k]!
theorem wV.at[M:Mch Aa]:∀{n:Nat} {L:List Nat} {k:Nat},wV n L→k<L.length→(0<L[k]! ∧ L[k]! < 2147483648)∧Spec Aa 60 [.i .u64 (pvL n L k)] (.i .u64 (L[k]! : Nat))
 |n,[],k,h,hk=>by simp at hk
 |n,x::l,0,h,hk=>⟨⟨h.1,h.2.1⟩,h.2.2.1⟩
 | n,x::l,1,h,hk=>by
  have:=wV.at (k:=0) h.2.2.2 (by simpa using hk)
  simpa[pvL]using this
 | n,x::l,k+2,h,hk=>by
  have:=wV.at (k:=k+1) h.2.2.2 (by simp only[Ah]at hk;omega)
  simpa[pvL]using this
theorem aJq(n:Nat)(L:List Nat)(k:Nat):pvL n L (k+1)=L[k]! := rfl
def rS(k b c q i:Nat)(T:List Nat)(p:Nat):St:=StL [(1,.d (.i .i64 (k:Int))),(2,.ptr 1 0),(5,.own 2 0 T.length 1),(6,.ptr 3 0),(7,.d (.i .u64 (p:Int))),(8,.ptr 4 0),(9,.d (.i .i64 (i:Int)))] none [.cells 31 [.d (.b false),.d (aG (aN b))],.cells 51 ((dU T).map .d),.cells 31 [.d (.b false),.d (aG (aN q))],.cells 31 [.d (.b false),.d (aG (aN c))]]
def rS2(b c q:Nat)(T:List Nat)(p:Nat):St:=StL [(2,.ptr 1 0),(5,.own 2 0 T.length 1),(6,.ptr 3 0),(7,.d (.i .u64 (p:Int))),(8,.ptr 4 0)] none [.cells 31 [.d (.b false),.d (aG (aN b))],.cells 51 ((dU T).map .d),.cells 31 [.d (.b false),.d (aG (aN q))],.cells 31 [.d (.b false),.d (aG (aN c))]]
set_option maxHeartbeats 4000000 in
set_option maxRecDepth 10000 in
theorem aVe[M:Mch Aa](b k:Nat)(hb:b<2^96)(hk:k≤3):Spec Aa 21 [bN b,.i .i64 k] (cP (wpL b k)):=by
 have hO:=rX (x:=1) (by omega)
 have hA:=xU (x:=b) (y:=b) (by omega) (by omega)
 rw[←Nat.two_mul]at hA
 have hD:=bPi
 unfold wpL
 obtain⟨L,hL⟩:∃ L,L=P10:=⟨_,rfl⟩
 rw[←hL]at hD ⊢
 obtain⟨c,hc⟩:∃ c,2*b=c:=⟨_,rfl⟩
 rw[hc]at hA ⊢
 refine bF (N:=43) Tryz.func21 ?_
 simp[-ζ,-ξ,↓KW,aO b,aA,aD]
 refine aH hO ?_
 simp[-ζ,-ξ,↓KW,aO 1,aO b,aA,aD,aC,aE,aB]
 refine aH hA ?_
 simp[-ζ,-ξ,↓KW,aO c,aO b,aA,aD,aC,aE,aB]
 have hlen:L.length=10:=by rw[hL];rfl
 refine bK (τ:=Nat) (fun i=>i≤2*k) (fun i=>rS k b c 1 i (L.take i) (pvL 2147483648 L i)) (fun i=>2*k-i) 0 (A5 _) ?_ ?_
 ·unfold rS
  refine wkQ [1,2,3,4] ?_ ?_<;>simp[-ζ,upd,aR,Γ0,pvL,dU]
 ·intro i hi
  have hw:Ag.wrap (2*(k:Int))=((2*k:Nat):Int):=by rw[show 2*(k:Int)=((2*k:Nat):Int)from by omega];exact aU
  have hw1:Ag.wrap ((i:Int)+1)=((i+1:Nat):Int):=aU
  by_cases hlt:i<2*k
  ·obtain⟨hx,hB⟩:=wV.at (k:=i) hD (by omega)
   have hps:=aJq 2147483648 L i
   have hge:L[i]? = some L[i]! := by rw[BX L i (by omega)];exact Ab (by omega)
   have hT:L.take (i+1)=L.take i++[L[i]!]:=by rw[A3,hge];rfl
   have hTl:(L.take i).length=i:=by rw[AT];omega
   generalize L.take i=T at *
   generalize pvL 2147483648 L i=p at *
   generalize L[i]! = p' at *
   have hli:(i:Int)<2*(k:Int):=by omega
   have hbb:=dX (n:=T.length) (by omega)
   unfold rS
   simp[-ζ,-ξ,↓KW,hw,hli,eK]
   refine aH hB ?_
   simp[-ζ,-ξ,↓KW,eK,hbb,bT,aA,aD,hw1]
   refine aM (i+1) (by omega) (by show 2*k-(i+1)<2*k-i;omega) ?_
   show ∃ ρ,Wk _ (StL _ _ _) ρ
   rw[hT,hps]
   refine wkQ [1,6,3,4] ?_ ?_<;>simp[-ζ,upd,aR,Γ0,Bl,bO,aPs,jT]
  ·have hie:i=2*k:=by omega
   have hli:¬(i:Int)<2*(k:Int):=by omega
   have hTl:(L.take i).length=i:=by rw[AT];omega
   have hcat:∀ j,L.take i++(L.drop i).take j=L.take (i+j):=fun j=>List.take_add.symm
   have hbigL:c<cJ (L.drop i):=by rw[hie,hL,←hc];exact Bo (by omega) (bHx k hk)
   have hmem:∀ p∈L,p<2147483648:=by rw[hL];decide
   rw[←hie]
   obtain⟨J,hJ⟩:=iU c (L.drop i) 1
   have hlow:=qU c (L.drop i) 1
   have hbig:=vI c (L.drop i) 1 (by omega)
   have hJJ:∃ J,fJ c 1 (L.drop i)=(L.drop i).take J∧J≤(L.drop i).length:=⟨min J (L.drop i).length,by rw[hJ];simp[List.take_eq_take_iff],by omega⟩
   obtain⟨J,hJ,hJl⟩:=hJJ
   have hNl:(fJ c 1 (L.drop i)).length=J:=by rw[hJ,AT];omega
   rw[hNl]at hlow
   have hlow':∀ j,j<J→cJ ((L.drop i).take j)≤c:=fun j hj=>by
    have:=hlow j hj
    rw[hJ,List.take_take,Dd (by omega),De]at this
    exact this
   rw[hJ,De]at hbig
   rw[hJ,hcat]
   rw[Ed]at hJl
   have hqb:∀ j,j≤4→cJ ((L.drop i).take j)≤2^124:=fun j hj=>by
    refine AO (qP _ fun p hp=>hmem p (FD (Bn hp))) ?_
    refine AO (B4 (j:=4) (by decide) (by rw[AT];omega)) (by decide)
   have hJ4:J≤4:=by
    refine BW fun hcn=>?_
    have h1:=hlow' 4 (by omega)
    have h2:2*2^96<cJ ((L.drop i).take 4):=by
     rw[hie,hL]
     have:∀ k:Nat,k≤3→2*2^96<cJ ((P10.drop (2*k)).take 4):=by decide
     exact this k hk
    omega
   simp[-ζ,-ξ,↓KW,rS,hw,hli,eK]
   refine bVt (rS2 b c 1 (L.take i) (pvL 2147483648 L i)) ?_ ?_
   ·unfold rS2
    refine wkQ [1,2,3,4] ?_ ?_<;>simp[-ζ,upd,aR,Γ0]
   simp[-ζ,-ξ,↓KW]
   have hcN:c<2^255:=by omega
   have hA4:i+4≤10:=by omega
   clear hbigL hlow hNl hJ hw hli hA
   refine bK (τ:=Nat) (fun j=>j≤J) (fun j=>rS2 b c (cJ ((L.drop i).take j)) (L.take (i+j)) (pvL 2147483648 L (i+j))) (fun j=>J-j) 0 (A5 _) ?_ ?_
   ·rw[Bw,B5]
    show ∃ ρ,Wk _ (rS2 b c 1 _ _) ρ
    unfold rS2
    refine wkQ [1,2,3,4] ?_ ?_<;>simp[-ζ,upd,aR,Γ0]
   ·intro j hj
    have hTl:(L.take (i+j)).length=i+j:=by rw[AT];omega
    have hqj:=hqb j (by omega)
    have hbb:=dX (n:=i+j) (by omega)
    obtain⟨r,hC,hr,hr2⟩:=aGc (x:=cJ ((L.drop i).take j)) (y:=c) (by omega) hcN
    by_cases hjl:j<J
    ·obtain⟨hx,hB⟩:=wV.at (k:=i+j) hD (by omega)
     have hps:pvL 2147483648 L (i+(j+1))=L[i+j]! := aJq 2147483648 L (i+j)
     have hge:L[i+j]? = some L[i+j]! := by rw[BX L (i+j) (by omega)];exact Ab (by omega)
     have hT:L.take (i+(j+1))=L.take (i+j)++[L[i+j]!]:=by rw[←Nat.add_assoc,A3,hge];rfl
     have hq:cJ ((L.drop i).take (j+1))=cJ ((L.drop i).take j)*L[i+j]! := by
      rw[A3,List.getElem?_drop,hge];exact rZ _ _
     have hr1:=hr.2 (hlow' j hjl)
     have hO:=rX (x:=L[i+j]!) (by omega)
     have hMl:=xT (x:=cJ ((L.drop i).take j)) (y:=L[i+j]!) (by omega) (by omega)
     have hw:Ag.wrap ((L[i+j]! : Nat):Int)=((L[i+j]! : Nat):Int):=aU
     rw[←hq]at hMl
     obtain⟨q',hq'⟩:∃ q',cJ ((L.drop i).take (j+1))=q':=⟨_,rfl⟩
     rw[hq']at hMl
     generalize cJ ((L.drop i).take j)=q at *
     generalize L.take (i+j)=T at *
     generalize pvL 2147483648 L (i+j)=p at *
     generalize L[i+j]! = p' at *
     show AWP _ _ (rS2 b c q T p) _
     simp[-ζ,-ξ,↓KW,rS2,eK,aA,aD,aC,aE,aB]
     refine aH hC ?_
     simp[-ζ,-ξ,↓KW,hr1,aA,aD,aC,aE,aB]
     refine aH hB ?_
     rw[←hTl]at hbb
     simp[-ζ,-ξ,↓KW,eK,hbb,bT,aA,aD,aC,aE,aB,hw]
     refine aH hO ?_
     simp[-ζ,-ξ,↓KW,aO p',aA,aD,aC,aE,aB]
     refine aH hMl ?_
     simp[-ζ,-ξ,↓KW,aO q',aA,aD,aC,aE,aB]
     refine aM (j+1) (by omega) (by show J-(j+1)<J-j;omega) ?_
     show ∃ ρ,Wk _ (StL _ _ _) ρ
     rw[hT,hps,hq']
     refine wkQ [1,6,3,4] ?_ ?_<;>simp[-ζ,upd,aR,Γ0,Bl,bO,aPs,jT]
    ·have hjJ:j=J:=by omega
     rw[←hjJ]at hbig ⊢
     have hr1:¬r≤0:=fun h=>by have:=hr.1 h;omega
     have e1:DH (i+j) ((dU (L.take (i+j))).map AV.d)=(dU (L.take (i+j))).map AV.d:=jP hTl
     have e2:=mV hTl
     have e3:=eK (L.take (i+j))
     rw[hTl]at e3
     generalize cJ ((L.drop i).take j)=q at *
     show AWP _ _ (rS2 b c q (L.take (i+j)) _) _
     generalize pvL 2147483648 L (i+j)=p at *
     generalize L.take (i+j)=T at *
     simp[-ζ,-ξ,↓KW,rS2,eK,hTl,aA,aD,aC,aE,aB]
     refine aH hC ?_
     simp[-ζ,-ξ,↓KW,hr1,cP,hTl,e1,e2,e3,aA,aD,aC,aE,aB]
     refine bC ?_
     simp[-ζ,-ξ,↓KW,cP,hTl,e1,e2,e3]
theorem aXf{x y c q r:Nat}(hc:0<c)(hy:0<y)(h:q*(y*c)+r=x*c)(hr:r<y*c):q=x/y∧r/c=x%y:=by
 have hq:x*c/(y*c)=q:=by
  have:=(Nat.div_mod_unique (E7 hy hc) (a:=x*c) (d:=q) (c:=r)).2 ⟨by rw[BV (y*c)];omega,hr⟩
  exact this.1
 rw[Nat.mul_div_mul_right _ _ hc]at hq
 refine⟨hq.symm,?_⟩
 have h2:r=x%y*c:=by
  have h3:=Ew x y
  rw[hq]at h3
  have h4:(y*q+x%y)*c=x*c:=by rw[h3]
  rw[B2]at h4
  have h5:y*q*c=q*(y*c):=by rw[BV y,BU]
  omega
 rw[h2,Nat.mul_div_cancel _ hc]
theorem bGi{dt c:Nat}(htop:0<dt)(hs:dt*c<4294967296):∃ t,dt*c=t∧c≤t∧t<4294967296∧(t<2147483648→dt*(2*c)<4294967296) :=
 ⟨_,rfl,Nat.le_mul_of_pos_left _ htop,hs,fun h=>by rw[Fl];omega⟩
def zq(q:Nat):AV:=if q=0 then .nil else .d (aG (aN q))
theorem uD{x c n:Nat}(h1:(aN x).length≤n)(h2:c<4294967296):(aN (x*c)).length≤n+1 :=
 dD (by rw[BI];exact Nat.mul_lt_mul'' (kP h1) h2)
theorem bIk[M:Mch Aa]{x c X:Nat}(h:x+c=X)(h1:(aN (x:Int).natAbs).length≤549755813888)(h2:(aN (c:Int).natAbs).length≤549755813888):Spec Aa 22 [encZ (x:Int),encZ (c:Int)] (encZ (X:Int)):=by
 have:=tC (x:Int) (c:Int) h1 h2
 rwa [←Ey,h]at this
theorem bAc[M:Mch Aa]{x c X:Nat}(h:x=X+c)(h1:(aN (x:Int).natAbs).length≤549755813888)(h2:(aN (c:Int).natAbs).length≤549755813888):Spec Aa 65 [encZ (x:Int),encZ (c:Int)] (encZ (X:Int)):=by
 have:=aGb (x:Int) (c:Int) h1 h2
 rwa [show(x:Int)-c=X by omega]at this
theorem bGm{q Y r X e E r':Nat}(hp:q*Y+r=X)(hE:e*Y=E)(hr:r=r'+E)(he:0<e)(hY:0<Y):(q+e)*Y+r'=X∧r'<r∧q+e≤X∧E≤X:=by
 have h1:(q+e)*Y+r'=X:=by rw[B2,hE];omega
 have h2:0<E:=by rw[←hE];exact E7 he hY
 have h3:q+e≤(q+e)*Y:=Nat.le_mul_of_pos_right _ hY
 exact⟨h1,by omega,by omega,by omega⟩
theorem bDw{c:Nat}(h:c<4294967296):(aN (c:Int).natAbs).length≤1:=dD (by simpa using h)
theorem zP[M:Mch Aa]{x c X:Nat}(h:x*c=X)(h1:(aN (x:Int).natAbs).length≤137438953472)(h2:(aN (c:Int).natAbs).length≤137438953472):Spec Aa 24 [encZ (x:Int),encZ (c:Int)] (encZ (X:Int)):=by
 have:=jI (x:Int) (c:Int) h1 h2
 rwa [←CC,h]at this
theorem aKw[M:Mch Aa](n:Nat)(hn:n<4294967296):Spec Aa 18 [aG [n],.b false] (encZ (n:Int)):=by
 have hm:=eB [n] false (by simp)
 rw[cU (.one hn)]at hm
 simpa[val,sg]using hm
set_option maxRecDepth 10000 in
theorem aVj[M:Mch Aa](x y qq rr:Nat)(hqq:x/y=qq)(hrr:x%y=rr)(hy:0<y)(hlx:(aN x).length≤130000000000)(hly:(aN y).length≤130000000000):Spec Aa 178 [aG (aN x),aG (aN y)] (.tp [encZ (qq:Int),encZ (rr:Int)]):=by
 refine bF (N:=86) Tryz.func178 ?_
 have lx:=bW x
 have ly:=bW y
 have vx:=cF x
 have vy:=cF y
 have cy:=kZ y
 have hne:aN y≠[]:=fun h=>by rw[gE]at h;omega
 have hyl:0<(aN y).length:=Ea.2 hne
 have hmx:∀ n:Nat,n<4294967296→Spec Aa 18 [aG [n],.b false] (encZ (n:Int)):=fun n hn=>by
  have hm:=eB [n] false (by simp)
  rw[cU (.one hn)]at hm
  simpa[val,sg]using hm
 by_cases h1:(aN y).length=1
 ·obtain⟨d,hd⟩:=List.length_eq_one_iff.1 h1
  have hdl:d<4294967296:=ly d (by rw[hd];simp)
  have hdv:d=y:=by rw[hd]at vy;simpa[val]using vy
  have hs:=aJl (aN x) d lx (by omega) hdl (by omega)
  obtain⟨s1,s2,s3,_⟩:=aFp (a:=aN x) (d:=d) lx (by omega)
  have hm1:=eB (shQ (aN x) d) false (by omega)
  rw[cU s2,s3,vx,show sg false (x/d)=((x/d:Nat):Int)from rfl]at hm1
  have hm2:=hmx (val (aN x)%d) (by have:=B9 (val (aN x)) (show d>0 by omega);omega)
  rw[hd]
  rw[vx,hdv,hrr]at hm2 hs
  rw[hdv,hqq]at hm1
  rw[hdv]
  generalize shQ (aN x) y=Q at *
  generalize aN x=a at *
  simp[-ζ,-ξ,↓KW,aG]
  refine aH hs ?_
  simp[-ζ,-ξ,↓KW,aG]
  refine aH hm1 ?_
  simp[-ζ,-ξ,↓KW,aG]
  refine bJ (ds:=[aG [rr],.b false]) ?_ hm2 ?_
  ·simp[-ζ,-ξ,↓KW,aG]
  simp[-ζ,-ξ,↓KW,aG,encZ,encI,eR]
 ·have hq1:(((aN y).length:Int)==1)=false:=by simp only[Eb,ne_eq];omega
  obtain⟨m,hm⟩:∃ m,(aN y).length=m+1:=⟨(aN y).length-1,by omega⟩
  have gd:=getD_some (l:=aN y) (i:=m) (by omega)
  have hdm:=ly.getD m
  have htop:0<(aN y).getD m 0:=by
   have h2:(aN y).getLast? ≠ some 0:=cy
   rw[F3,show(aN y).length-1=m by omega,gd]at h2
   rcases Bf ((aN y).getD m 0)with h|h
   ·rw[h]at h2;exact absurd rfl h2
   ·exact h
  generalize(aN y).getD m 0=dt at *
  have c2:Ag.wrap (((aN y).length:Int)-1)=(m:Int):=by rw[aU];omega
  have c3:AA.wrap (dt:Int)=dt:=wrap_u64 (by omega) (by omega)
  have hma:=eB (aN x) false (by omega)
  rw[cU lx,vx,show sg false x=(x:Int)from rfl]at hma
  have hmb:=eB (aN y) false (by omega)
  rw[cU ly,vy,show sg false y=(y:Int)from rfl]at hmb
  have hX:(aN (x:Int).natAbs).length≤130000000000:=hlx
  have hY:(aN (y:Int).natAbs).length≤130000000000:=hly
  generalize aN x=a at *
  generalize aN y=b at *
  clear hmx lx ly vx vy cy hne
  simp[-ζ,-ξ,↓KW,aG,hq1]
  refine cM (fun c:Nat=>0<c∧dt*c<4294967296)
   (fun c=>StL [(0,.d (aG a)),(1,.d (aG b)),(4,.ptr 1 0),(5,.ptr 2 0),(8,.d (.i .u32 (c:Int)))] none
    [.cells 31 [.d (.b false),.nil],.cells 31 [.d (.b false),.nil]]) (fun c=>4294967296-c) 1 ⟨by decide,by omega⟩ ?_ ?_
  ·refine wkQ [1,2] ?_ ?_<;>simp[-ζ,upd,aR,Γ0,aG]
  ·intro c hs
   refine(bGi htop hs.2).elim fun t h5=>?_
   have hc0:=hs.1
   have ht:=h5.1
   have hcd:=h5.2.1
   have hs2:=h5.2.2.1
   have hdc:=h5.2.2.2
   have c4:AA.wrap (c:Int)=c:=wrap_u64 (by omega) (by omega)
   have c5:AA.wrap ((dt:Int)*c)=t:=by rw[←CC,ht,wrap_u64 (by omega) (by omega)]
   by_cases hgo:t<2147483648
   ·have q1:(t:Int)<2147483648:=by omega
    have c6:BC.wrap (2*(c:Int))=2*(c:Int):=wrap_u32 (by omega) (by omega)
    simp[-ζ,-ξ,↓KW,aG,c2,c3,c4,c5,c6,gd,q1]
    refine aM (2*c) ⟨by omega,hdc hgo⟩ ?_ (wkQ [1,2] ?_ ?_)
    ·omega
    ·simp[-ζ,upd,aR,Γ0,aG]
    ·simp[-ζ,upd,aR,Γ0,aG]
   ·have q1:¬(t:Int)<2147483648:=by omega
    have hc32:c<4294967296:=by omega
    have hmc:=aKw c hc32
    simp[-ζ,-ξ,↓KW,aG,c2,c3,c4,c5,gd,q1]
    refine bJ (ds:=[aG [c],.b false]) ?_ hmc ?_
    ·simp[-ζ,-ξ,↓KW,aG]
    simp[-ζ,-ξ,↓KW,aG,encZ,encI]
    refine aH hma ?_
    simp[-ζ,-ξ,↓KW,encZ,encI,aG]
    refine(⟨_,rfl⟩:∃ X,x*c=X).elim fun X hXe=>?_
    refine(⟨_,rfl⟩:∃ X,y*c=X).elim fun Y hYe=>?_
    have hC:=bDw hc32
    have hXl:(aN X).length≤130000000001:=by rw[←hXe];exact uD hX hc32
    have hYl:(aN Y).length≤130000000001:=by rw[←hYe];exact uD hY hc32
    have hY0:0<Y:=by rw[←hYe];exact E7 hy hc0
    have hMx:=zP (X:=X) hXe (by omega) (by omega) (x:=x) (c:=c)
    have hMy:=zP (X:=Y) hYe (by omega) (by omega) (x:=y) (c:=c)
    refine bJ (ds:=[encZ x,encZ c]) ?_ hMx ?_
    ·simp[-ζ,-ξ,↓KW,encZ,encI,aG]
    simp[-ζ,-ξ,↓KW,encZ,encI,aG]
    refine aH hmb ?_
    simp[-ζ,-ξ,↓KW,encZ,encI,aG]
    refine bJ (ds:=[encZ y,encZ c]) ?_ hMy ?_
    ·simp[-ζ,-ξ,↓KW,encZ,encI,aG]
    simp[-ζ,-ξ,↓KW,encZ,encI,aG]
    refine cM (fun p:Nat×Nat=>p.1*Y+p.2=X)
     (fun p=>StL [(4,.ptr 1 0),(5,.ptr 2 0),(8,.d (.i .u32 (c:Int))),(10,.ptr 3 0),(11,.ptr 4 0),(12,.ptr 5 0)] none
      [.cells 31 [.d (.b false),.nil],.cells 31 [.d (.b false),.nil],.cells 31 [.d (.b false),.d (aG (aN p.2))],.cells 31 [.d (.b false),.d (aG (aN Y))],.cells 31 [.d (.b false),zq p.1]]) (fun p=>p.2) (0,X) (by simp) ?_ ?_
    ·refine wkQ [1,2,5,6,7] ?_ ?_<;>simp[-ζ,upd,aR,Γ0,aG,zq]
    ·intro p hp
     have hpX:p.2≤X:=by rw[←hp];exact Nat.le_add_left _ _
     have hpl:=AO (eJ hpX) hXl
     have hless:=xS (aN p.2) (aN Y) (bW _) (bW _) (by omega) (by omega)
     rw[fG]at hless
     simp[-ζ,-ξ,↓KW,aG]
     refine aH hless ?_
     by_cases hgo:p.2<Y
     ·simp[-ζ,-ξ,↓KW,hgo]
      have hsh:=aJl (aN p.2) c (bW _) hc0 hc32 (by omega)
      have hsv:=aFp (bW p.2) hc0
      have hmd:=eB (shQ (aN p.2) c) false (by have:=hsv.1;omega)
      have hfin:=aXf hc0 hy (x:=x) (q:=p.1) (r:=p.2) (by rw[hYe,hXe];exact hp) (by rw[hYe];exact hgo)
      rw[cU hsv.2.1,hsv.2.2.1,cF,hfin.2,hrr,show sg false rr=(rr:Int)from rfl]at hmd
      refine aH hsh ?_
      simp[-ζ,-ξ,↓KW,aG]
      refine aH hmd ?_
      have hq1:p.1=qq:=hfin.1.trans hqq
      rw[hq1]
      by_cases hq0:qq=0
      ·simp[-ζ,-ξ,↓KW,encZ,encI,aG,eR,zq,hq0,cA]
      ·simp[-ζ,-ξ,↓KW,encZ,encI,aG,eR,zq,hq0]
     ·simp[-ζ,-ξ,↓KW,hgo]
      refine(aJn (aN p.2) (aN Y) (bW _) (bW _) (kZ _) (kZ _) (fun h=>by rw[gE]at h;omega) (by rw[cF,cF];omega) (by omega)).elim fun e he=>?_
      have he1:=he.2.1
      rw[cF,cF]at he1
      refine(⟨_,rfl⟩:∃ E,e*Y=E).elim fun E hE=>?_
      rw[hE]at he1
      refine(⟨_,rfl⟩:∃ F,p.2-E=F).elim fun R' hR'=>?_
      have hR2:p.2=R'+E:=by omega
      have hst:=bGm hp hE hR2 he.1 hY0
      refine(⟨_,rfl⟩:∃ F,p.1+e=F).elim fun q' hq'=>?_
      rw[hq']at hst
      have hel:(aN (e:Int).natAbs).length≤130000000001:=AO (eJ (show e≤X by omega)) hXl
      have hqpl:(aN (p.1:Int).natAbs).length≤130000000001:=AO (eJ (show p.1≤X by omega)) hXl
      have hEl:(aN (E:Int).natAbs).length≤130000000001:=AO (eJ (show E≤X by omega)) hXl
      have hrl:(aN (p.2:Int).natAbs).length≤130000000001:=hpl
      have hYl2:(aN (Y:Int).natAbs).length≤130000000001:=hYl
      have hadd:=bIk hq' (by omega) (by omega)
      have hmul:=zP hE (by omega) (by omega)
      have hsub:=bAc hR2 (by omega) (by omega)
      by_cases hq0:p.1=0
      ·have hz:zq p.1=.nil:=Ar hq0
       refine aH he.2.2 ?_
       simp[-ζ,-ξ,↓KW,aG,encZ,encI,hz]
       refine bJ (ds:=[encZ p.1,encZ e]) ?_ hadd ?_
       ·simp[-ζ,-ξ,↓KW,encZ,encI,aG,hq0,cA]
       simp[-ζ,-ξ,↓KW,aG,encZ,encI]
       refine bJ (ds:=[encZ e,encZ Y]) ?_ hmul ?_
       ·simp[-ζ,-ξ,↓KW,encZ,encI,aG]
       simp[-ζ,-ξ,↓KW,aG,encZ,encI]
       refine bJ (ds:=[encZ p.2,encZ E]) ?_ hsub ?_
       ·simp[-ζ,-ξ,↓KW,encZ,encI,aG]
       simp[-ζ,-ξ,↓KW,aG,encZ,encI]
       have hz2:zq q'=.d (aG (aN q')):=Aj (by have:=he.1;omega)
       refine aM (q',R') hst.1 hst.2.1 (wkQ [1,2,3,4,5] ?_ ?_)
       ·simp[-ζ,upd,aR,Γ0,aG,hz2]
       ·simp[-ζ,upd,aR,Γ0,aG,hz2]
      ·have hz:zq p.1=.d (aG (aN p.1)):=Aj hq0
       refine aH he.2.2 ?_
       simp[-ζ,-ξ,↓KW,aG,encZ,encI,hz]
       refine bJ (ds:=[encZ p.1,encZ e]) ?_ hadd ?_
       ·simp[-ζ,-ξ,↓KW,encZ,encI,aG,hq0,cA]
       simp[-ζ,-ξ,↓KW,aG,encZ,encI]
       refine bJ (ds:=[encZ e,encZ Y]) ?_ hmul ?_
       ·simp[-ζ,-ξ,↓KW,encZ,encI,aG]
       simp[-ζ,-ξ,↓KW,aG,encZ,encI]
       refine bJ (ds:=[encZ p.2,encZ E]) ?_ hsub ?_
       ·simp[-ζ,-ξ,↓KW,encZ,encI,aG]
       simp[-ζ,-ξ,↓KW,aG,encZ,encI]
       have hz2:zq q'=.d (aG (aN q')):=Aj (by have:=he.1;omega)
       refine aM (q',R') hst.1 hst.2.1 (wkQ [1,2,3,4,5] ?_ ?_)
       ·simp[-ζ,upd,aR,Γ0,aG,hz2]
       ·simp[-ζ,upd,aR,Γ0,aG,hz2]
theorem iM{x y q r:Int}(hy:y≠0)(h:r+y*q=x)(h0:0≤r)(h1:r<(y.natAbs:Int)):x/y=q∧x%y=r:=by
 by_cases hp:0<y
 ·exact(Int.ediv_emod_unique hp).2 ⟨h,h0,by omega⟩
 ·obtain⟨z,hz⟩:∃ z,y=-z:=⟨-y,by omega⟩
  subst hz
  have:=(Int.ediv_emod_unique (a:=x) (b:=z) (q:=-q) (r:=r) (by omega)).2 ⟨by rw[←h,D2,Int.neg_mul],h0,by omega⟩
  rw[Int.ediv_neg,Int.emod_neg]
  omega
theorem aDw[M:Mch Aa](x:Int)(hx:(aN x.natAbs).length≤1099511627776):Spec Aa 18 [aG (aN x.natAbs),.b (decide (x<0))] (encZ x):=by
 have hm:=eB (aN x.natAbs) (decide (x<0)) hx
 rwa [cU (bW _),cF,fO]at hm
theorem bGl(x y:Int)(hy:y≠0){qq rr:Nat}(hqq:x.natAbs/y.natAbs=qq)(hrr:x.natAbs%y.natAbs=rr) :
  (rr<y.natAbs)∧qq*y.natAbs+rr=x.natAbs∧(¬x<0→¬y<0→x/y=qq∧x%y=rr)∧(¬x<0→y<0→x/y=-(qq:Int)∧x%y=rr) ∧
  (x<0→rr=0→¬y<0→x/y=-(qq:Int)∧x%y=0)∧(x<0→rr=0→y<0→x/y=qq∧x%y=0) ∧
  (x<0→0<rr→¬y<0→x/y=-((qq:Int)+1)∧x%y=(y.natAbs:Int)-rr)∧(x<0→0<rr→y<0→x/y=(qq:Int)+1∧x%y=(y.natAbs:Int)-rr):=by
 have hya:0<y.natAbs:=by omega
 have h1:rr<y.natAbs:=by rw[←hrr];exact B9 _ hya
 have h2:qq*y.natAbs+rr=x.natAbs:=by rw[←hqq,←hrr,BV];exact Ew ..
 have h3:(qq:Int)*(y.natAbs:Int)+rr=(x.natAbs:Int):=by exact_mod_cast h2
 have ep:¬y<0→(y.natAbs:Int)=y:=fun h=>by omega
 have en:y<0→(y.natAbs:Int)=-y:=fun h=>by omega
 refine⟨h1,h2,fun hx h=>?_,fun hx h=>?_,fun hx h0 h=>?_,fun hx h0 h=>?_,fun hx h0 h=>?_,fun hx h0 h=>?_⟩
 ·exact iM hy (by rw[ep h,Fo]at h3;omega) (by omega) (by omega)
 ·exact iM hy (by rw[en h,D2,Fo]at h3;rw[D2];omega) (by omega) (by omega)
 ·exact iM hy (by rw[ep h,Fo]at h3;rw[D2];omega) (by omega) (by omega)
 ·exact iM hy (by rw[en h,D2,Fo]at h3;omega) (by omega) (by omega)
 ·exact iM hy (by rw[ep h,Fo]at h3;rw[ep h,D2,Int.mul_add];omega) (by omega) (by omega)
 ·exact iM hy (by rw[en h,D2,Fo]at h3;rw[en h,Int.mul_add];omega) (by omega) (by omega)
theorem aCl(n:Nat):(aN (n+1)).length≤(aN n).length+1:=by
 have h:=kP (Az (aN n).length)
 refine dD ?_
 rw[BI]
 have:0<4294967296^(aN n).length:=Nat.pow_pos (by decide)
 omega
theorem aDx[M:Mch Aa](y:Int)(hy:(aN y.natAbs).length≤1099511627776):Spec Aa 18 [aG (aN y.natAbs),.b false] (encZ (y.natAbs:Int)):=by
 have hm:=eB (aN y.natAbs) false hy
 rw[cU (bW _),cF]at hm
 exact hm
set_option maxRecDepth 10000 in
theorem kI[M:Mch Aa](x y:Int)(hy:y≠0)(hx:(aN x.natAbs).length≤130000000000)(hyl:(aN y.natAbs).length≤130000000000):Spec Aa 134 [encZ x,encZ y] (.tp [encZ (x/y),encZ (x%y),.i .i64 0]):=by
 have hx0:=hx
 have hyl0:=hyl
 refine bAs (N:=56) aW Tryz.func134 rfl rfl rfl (by kernel_rfl) (by kernel_rfl) (by simp) ?_
 obtain⟨qq,hqq⟩:∃ q,x.natAbs/y.natAbs=q:=⟨_,rfl⟩
 obtain⟨rr,hrr⟩:∃ q,x.natAbs%y.natAbs=q:=⟨_,rfl⟩
 have hf:=bGl x y hy hqq hrr
 obtain⟨Q,hQ⟩:∃ Q,x/y=Q:=⟨_,rfl⟩
 obtain⟨R,hR⟩:∃ Q,x%y=Q:=⟨_,rfl⟩
 have hm1:=aDw x (by omega)
 have hm2:=aDw y (by omega)
 have hd:=aVj x.natAbs y.natAbs qq rr hqq hrr (by omega) hx hyl
 have hs:=kN y
 have hs0:y.sign≠0:=fun h=>hy (F8.1 h)
 have hmy:=aDx y (by omega)
 have hlq:(aN qq).length≤130000000000:=AO (eJ (by rw[←hqq];exact DU ..)) hx0
 have hlr:(aN rr).length≤130000000000:=AO (eJ (by have:=hf.1;omega)) hyl0
 have hnq:((qq:Int)).natAbs=qq:=Cm qq
 have hnr:((rr:Int)).natAbs=rr:=Cm rr
 have hny0:((y.natAbs:Int)).natAbs=y.natAbs:=Cm _
 have hof:=aJo 1 (by decide) (by decide)
 have had:=tC (qq:Int) 1 (by rw[hnq];omega) (AO (dD (k:=1) (by decide)) (by decide))
 have hsu:=aGb (y.natAbs:Int) (rr:Int) (by rw[hny0];omega) (by rw[hnr];omega)
 have hn1:=qM (qq:Int) (by rw[hnq];omega)
 have hn2:=qM ((qq:Int)+1) (by
  have:((qq:Int)+1).natAbs=qq+1:=by omega
  rw[this]
  have:=aCl qq
  omega)
 have hsr:=kN (rr:Int)
 have hz:∀ z:Int,∃ s m,encZ z=.ag [.b s,aG m]:=fun z=>⟨_,_,rfl⟩
 obtain⟨sq,mq,eq⟩:=hz qq
 obtain⟨sr,mr,er⟩:=hz rr
 obtain⟨s1,m1,e1⟩:=hz 1
 obtain⟨sp,mp,ep⟩:=hz ((qq:Int)+1)
 obtain⟨sy,my,ey0⟩:=hz (y.natAbs:Int)
 obtain⟨sd,md,ed⟩:=hz ((y.natAbs:Int)-rr)
 obtain⟨sn,mn,en1⟩:=hz (-(qq:Int))
 obtain⟨sm,mm,en2⟩:=hz (-((qq:Int)+1))
 rw[eq,er]at hd
 rw[e1]at hof
 rw[eq,e1,ep]at had
 rw[ey0,er,ed]at hsu
 rw[eq,en1]at hn1
 rw[ep,en2]at hn2
 rw[er]at hsr
 rw[ey0]at hmy
 have hsg0:rr=0→(rr:Int).sign=0:=fun h=>by rw[h];rfl
 have hsg1:¬rr=0→(rr:Int).sign=1:=fun h=>Dz (by omega)
 rw[hQ,hR]at hf ⊢
 have ex:encZ x=.ag [.b (decide (x<0)),aG (aN x.natAbs)]:=rfl
 have ey:encZ y=.ag [.b (decide (y<0)),aG (aN y.natAbs)]:=rfl
 rw[ex]at hm1 ⊢
 rw[ey]at hm2 hs ⊢
 generalize aN x.natAbs=a at *
 generalize aN y.natAbs=b at *
 have hs1:(y.sign==0)=false:=by simpa using hs0
 simp[-ζ,-ξ,↓KW,↓aX,↓aY,aV,aG]
 refine aH hm1 ?_
 simp[-ζ,-ξ,↓KW,↓aX,↓aY,aV,aG]
 refine aH hm2 ?_
 simp[-ζ,-ξ,↓KW,↓aX,↓aY,aV,aG]
 refine bJ (ds:=[.ag [.b (decide (y<0)),aG b]]) ?_ hs ?_
 ·simp[-ζ,-ξ,↓KW,↓aX,↓aY,aV,aG,hs1]
 simp[-ζ,-ξ,↓KW,↓aX,↓aY,aV,aG,hs1]
 refine aH hd ?_
 by_cases hnx:x<0<;>by_cases hny:y<0
 rw[BK hnx,BK hny]at *
 by_cases hr0:rr=0
 obtain⟨f1,f2⟩:=hf.2.2.2.2.2.1 hnx hr0 hny
 have e0:encZ 0=.ag [.b sr,aG mr]:=by rw[←er,hr0];rfl
 have hsg:=hsg0 hr0
 rw[f1,f2,eq,e0]
 simp[-ζ,-ξ,↓KW,↓aX,↓aY,aV,aG]
 refine bJ (ds:=[.ag [.b sr,aG mr]]) ?_ hsr ?_
 ·simp[-ζ,-ξ,↓KW,↓aX,↓aY,aV,aG,hsg]
 simp[-ζ,-ξ,↓KW,↓aX,↓aY,aV,aG,hsg]
 rotate_left
 obtain⟨f1,f2⟩:=hf.2.2.2.2.2.2.2 hnx (by omega) hny
 have hsg:=hsg1 hr0
 rw[f1,f2,ep,ed]
 simp[-ζ,-ξ,↓KW,↓aX,↓aY,aV,aG]
 refine bJ (ds:=[.ag [.b sr,aG mr]]) ?_ hsr ?_
 ·simp[-ζ,-ξ,↓KW,↓aX,↓aY,aV,aG,hsg]
 simp[-ζ,-ξ,↓KW,↓aX,↓aY,aV,aG,hsg]
 refine aH hof ?_
 simp[-ζ,-ξ,↓KW,↓aX,↓aY,aV,aG]
 refine bJ (ds:=[.ag [.b sq,aG mq],.ag [.b s1,aG m1]]) ?_ had ?_
 ·simp[-ζ,-ξ,↓KW,↓aX,↓aY,aV,aG]
 simp[-ζ,-ξ,↓KW,↓aX,↓aY,aV,aG]
 refine aH hmy ?_
 simp[-ζ,-ξ,↓KW,↓aX,↓aY,aV,aG]
 refine bJ (ds:=[.ag [.b sy,aG my],.ag [.b sr,aG mr]]) ?_ hsu ?_
 ·simp[-ζ,-ξ,↓KW,↓aX,↓aY,aV,aG]
 simp[-ζ,-ξ,↓KW,↓aX,↓aY,aV,aG]
 rotate_left
 rw[BK hnx,Bj hny]at *
 by_cases hr0:rr=0
 obtain⟨f1,f2⟩:=hf.2.2.2.2.1 hnx hr0 hny
 have e0:encZ 0=.ag [.b sr,aG mr]:=by rw[←er,hr0];rfl
 have hsg:=hsg0 hr0
 rw[f1,f2,en1,e0]
 simp[-ζ,-ξ,↓KW,↓aX,↓aY,aV,aG]
 refine bJ (ds:=[.ag [.b sr,aG mr]]) ?_ hsr ?_
 ·simp[-ζ,-ξ,↓KW,↓aX,↓aY,aV,aG,hsg]
 simp[-ζ,-ξ,↓KW,↓aX,↓aY,aV,aG,hsg]
 refine bJ (ds:=[.ag [.b sq,aG mq]]) ?_ hn1 ?_
 ·simp[-ζ,-ξ,↓KW,↓aX,↓aY,aV,aG]
 simp[-ζ,-ξ,↓KW,↓aX,↓aY,aV,aG]
 rotate_left
 obtain⟨f1,f2⟩:=hf.2.2.2.2.2.2.1 hnx (by omega) hny
 have hsg:=hsg1 hr0
 rw[f1,f2,en2,ed]
 simp[-ζ,-ξ,↓KW,↓aX,↓aY,aV,aG]
 refine bJ (ds:=[.ag [.b sr,aG mr]]) ?_ hsr ?_
 ·simp[-ζ,-ξ,↓KW,↓aX,↓aY,aV,aG,hsg]
 simp[-ζ,-ξ,↓KW,↓aX,↓aY,aV,aG,hsg]
 refine aH hof ?_
 simp[-ζ,-ξ,↓KW,↓aX,↓aY,aV,aG]
 refine bJ (ds:=[.ag [.b sq,aG mq],.ag [.b s1,aG m1]]) ?_ had ?_
 ·simp[-ζ,-ξ,↓KW,↓aX,↓aY,aV,aG]
 simp[-ζ,-ξ,↓KW,↓aX,↓aY,aV,aG]
 refine aH hmy ?_
 simp[-ζ,-ξ,↓KW,↓aX,↓aY,aV,aG]
 refine bJ (ds:=[.ag [.b sy,aG my],.ag [.b sr,aG mr]]) ?_ hsu ?_
 ·simp[-ζ,-ξ,↓KW,↓aX,↓aY,aV,aG]
 simp[-ζ,-ξ,↓KW,↓aX,↓aY,aV,aG]
 refine bJ (ds:=[.ag [.b sp,aG mp]]) ?_ hn2 ?_
 ·simp[-ζ,-ξ,↓KW,↓aX,↓aY,aV,aG]
 simp[-ζ,-ξ,↓KW,↓aX,↓aY,aV,aG]
 rotate_left
 rw[Bj hnx,BK hny]at *
 obtain⟨f1,f2⟩:=hf.2.2.2.1 hnx hny
 rw[f1,f2,en1,er]
 simp[-ζ,-ξ,↓KW,↓aX,↓aY,aV,aG]
 refine bJ (ds:=[.ag [.b sq,aG mq]]) ?_ hn1 ?_
 ·simp[-ζ,-ξ,↓KW,↓aX,↓aY,aV,aG]
 simp[-ζ,-ξ,↓KW,↓aX,↓aY,aV,aG]
 rotate_left
 rw[Bj hnx,Bj hny]at *
 obtain⟨f1,f2⟩:=hf.2.2.1 hnx hny
 rw[f1,f2,eq,er]
 simp[-ζ,-ξ,↓KW,↓aX,↓aY,aV,aG]
 rotate_left
 all_goals
  refine aGh 0 1 (by kernel_rfl) rfl rfl ?_ ?_
  ·simp[-ζ,-ξ,↓KW,↓aX,↓aY,aV,aG]
   refine aGh 1 2 (by kernel_rfl) rfl rfl ?_ ?_
   ·simp[-ζ,-ξ,↓KW,↓aX,↓aY,aV,aG]
    refine fX 2 (by kernel_rfl) rfl ?_
    simp[-ζ,-ξ,↓KW,↓aX,↓aY,aV,aG]
    refine fX 3 (by kernel_rfl) rfl ?_
    simp[-ζ,-ξ,↓KW,↓aX,↓aY,aV,aG]
    refine fX 4 (by kernel_rfl) rfl ?_
    simp[-ζ,-ξ,↓KW,↓aX,↓aY,aV,aG]
    refine vH (by kernel_rfl) ?_
    simp[-ζ,-ξ,↓KW,↓aX,↓aY,aV,aG,aOd]
   ·simp[-ζ,-ξ,↓KW,↓aX,↓aY,aV,aG]
    refine fX 1 (by kernel_rfl) rfl ?_
    simp[-ζ,-ξ,↓KW,↓aX,↓aY,aV,aG]
    refine fX 3 (by kernel_rfl) rfl ?_
    simp[-ζ,-ξ,↓KW,↓aX,↓aY,aV,aG]
    refine fX 4 (by kernel_rfl) rfl ?_
    simp[-ζ,-ξ,↓KW,↓aX,↓aY,aV,aG]
    refine vH (by kernel_rfl) ?_
    simp[-ζ,-ξ,↓KW,↓aX,↓aY,aV,aG,aOd]
  ·simp[-ζ,-ξ,↓KW,↓aX,↓aY,aV,aG]
   refine fX 0 (by kernel_rfl) rfl ?_
   simp[-ζ,-ξ,↓KW,↓aX,↓aY,aV,aG]
   refine fX 2 (by kernel_rfl) rfl ?_
   simp[-ζ,-ξ,↓KW,↓aX,↓aY,aV,aG]
   refine fX 3 (by kernel_rfl) rfl ?_
   simp[-ζ,-ξ,↓KW,↓aX,↓aY,aV,aG]
   refine fX 4 (by kernel_rfl) rfl ?_
   simp[-ζ,-ξ,↓KW,↓aX,↓aY,aV,aG]
   refine vH (by kernel_rfl) ?_
   simp[-ζ,-ξ,↓KW,↓aX,↓aY,aV,aG,aOd]
def aYc:Nat:=4294967296^128
def SB(z:Int):Prop:=z.natAbs<aYc
theorem SB.len{z:Int}(h:SB z):(aN z.natAbs).length≤128:=dD h
theorem SB.le{z:Int}{n:Nat}(h:SB z)(hn:128≤n):(aN z.natAbs).length≤n:=AO h.len hn
theorem aNr{b:Int}(h:b≠0):(b.sign != 0)=true:=by
 rw[bne_iff_ne];exact fun h'=>h (F8.1 h')
theorem bFe(a b:Int):Int.gcd b (a%b)=Int.gcd a b:=by
 rw[Int.gcd_comm b,Int.emod_def,Int.gcd_sub_mul_left_left]
set_option maxHeartbeats 4000000 in
set_option maxRecDepth 10000 in
theorem bCl[M:Mch Aa](x y:Int)(hx:SB x)(hy:SB y):Spec Aa 203 [encZ x,encZ y] (bN (Int.gcd x y)):=by
 refine bAq (N:=23) aW Tryz.func203 rfl rfl rfl (by kernel_rfl) (by simp) ?_
 refine kL (by kernel_rfl) ?_
 simp[-ζ,-ξ,↓KW,bB x,bB y,aA,aD,aC,aE,aB]
 refine aFf (aCv (aZp (τ:=Int×Int) (fun t=>SB t.1∧SB t.2∧Int.gcd t.1 t.2=Int.gcd x y) (fun t=>StL [(2,.ptr 1 0),(3,.ptr 2 0),(4,.ptr 3 0)] none [.cells 31 [.d (.b (decide (t.1<0))),.d (aG (aN t.1.natAbs))],.cells 31 [.d (.b (decide (t.2<0))),.d (aG (aN t.2.natAbs))],.cells 31 [.d (.b false),.nil]]) (fun t=>t.2.natAbs) (x,y) ⟨hx,hy,rfl⟩ ?_ ?_))
 ·refine wkQ [1,2,3] ?_ ?_<;>simp[-ζ,upd,aR,Γ0]
 ·rintro⟨a,b⟩ ⟨ha,hb,hg⟩
  simp only at ha hb hg
  have hSg:=kN b
  refine kL (by kernel_rfl) ?_
  by_cases h0:b=0
  ·subst h0
   have hMd:=eB (aN a.natAbs) false (ha.le (by decide))
   rw[fD (bW _),cF]at hMd
   simp only[Bool.false_and]at hMd
   have hMd':Spec Aa 18 [aG (aN a.natAbs),.b false] (bN a.natAbs):=hMd
   rw[Int.gcd_zero_right]at hg
   rw[←hg]
   generalize a.natAbs=n at *
   simp[-ζ,-ξ,↓KW]
   refine aH hSg ?_
   simp[-ζ,-ξ,↓KW]
   refine aFg (by kernel_rfl) ?_
   simp[-ζ,-ξ,↓KW,aA,aD,aC,aE,aB]
   refine aH hMd' ?_
   simp[-ζ,-ξ,↓KW,aO n,aA,aD,aC,aE,aB]
  ·have hs:=aNr h0
   have hDm:=kI a b h0 (ha.le (by decide)) (hb.le (by decide))
   have hr:SB (a%b):=by
    have h1:=Ez a h0
    have h2:=Int.emod_lt a h0
    unfold SB at *;omega
   have hlt:(a%b).natAbs<b.natAbs:=by
    have h1:=Ez a h0
    have h2:=Int.emod_lt a h0
    omega
   have hg2:=bFe a b
   generalize a%b=r at *
   generalize a/b=q at *
   generalize b.sign=s at *
   simp[-ζ,-ξ,↓KW,bB b,aA,aD,aC,aE,aB]
   refine aH hSg ?_
   simp[-ζ,-ξ,↓KW,hs,aA,aD,aC,aE,aB]
   refine aCv (kL (by kernel_rfl) ?_)
   simp[-ζ,-ξ,↓KW,aA,aD,aC,aE,aB]
   refine aH hDm ?_
   simp[-ζ,-ξ,↓KW,bB q,bB r,aA,aD,aC,aE,aB]
   refine aZo (by kernel_rfl) ?_
   refine aGh 0 1 (by kernel_rfl) rfl rfl ?_ ?_
   ·simp[-ζ,-ξ,↓KW,aV,aA,aD,aC,aE,aB]
    refine aGh 1 2 (by kernel_rfl) rfl rfl ?_ ?_
    ·simp[-ζ,-ξ,↓KW,aV,aA,aD,aC,aE,aB]
     refine fX 2 (by kernel_rfl) rfl ?_
     simp[-ζ,-ξ,↓KW,aV,aA,aD,aC,aE,aB]
     refine fX 3 (by kernel_rfl) rfl ?_
     simp[-ζ,-ξ,↓KW,aV,aA,aD,aC,aE,aB]
     refine vH (by kernel_rfl) ?_
     refine⟨b,r,⟨hb,hr,by rw[hg2];exact hg⟩,hlt,?_⟩
     refine wkQ [1,2,3] ?_ ?_<;>simp[-ζ,upd,aR,Γ0]
    ·simp[-ζ,-ξ,↓KW,aV,aA,aD,aC,aE,aB]
     refine fX 1 (by kernel_rfl) rfl ?_
     simp[-ζ,-ξ,↓KW,aV,aA,aD,aC,aE,aB]
     refine fX 3 (by kernel_rfl) rfl ?_
     simp[-ζ,-ξ,↓KW,aV,aA,aD,aC,aE,aB]
     refine vH (by kernel_rfl) ?_
     refine⟨b,r,⟨hb,hr,by rw[hg2];exact hg⟩,hlt,?_⟩
     refine wkQ [1,2,3] ?_ ?_<;>simp[-ζ,upd,aR,Γ0]
   ·simp[-ζ,-ξ,↓KW,aV,aA,aD,aC,aE,aB]
    refine fX 0 (by kernel_rfl) rfl ?_
    simp[-ζ,-ξ,↓KW,aV,aA,aD,aC,aE,aB]
    refine fX 2 (by kernel_rfl) rfl ?_
    simp[-ζ,-ξ,↓KW,aV,aA,aD,aC,aE,aB]
    refine fX 3 (by kernel_rfl) rfl ?_
    simp[-ζ,-ξ,↓KW,aV,aA,aD,aC,aE,aB]
    refine vH (by kernel_rfl) ?_
    refine⟨b,r,⟨hb,hr,by rw[hg2];exact hg⟩,hlt,?_⟩
    refine wkQ [1,2,3] ?_ ?_<;>simp[-ζ,upd,aR,Γ0]
end Go.Am
end
section
open List renaming map_map→ζ,mapM_map→ξ
namespace Go.Am
def fq(n d:Int):Rat:=if d<0 then mkRat (-n) (-d).toNat else mkRat n d.toNat
theorem bFn(n d:Int):fq n d=(n:Rat)/(d:Rat):=by
 unfold fq
 split
 ·rename_i h
  rw[Rat.mkRat_eq_div]
  have:(((-d).toNat:Nat):Rat)=-(d:Rat):=by
   rw[←Rat.intCast_neg,←CM,B0 (by omega)]
  rw[this,Rat.intCast_neg]
  have h0:(d:Rat)≠0:=by
   intro h';have:=Rat.intCast_eq_zero_iff.1 h';omega
  grind
 ·rename_i h
  rw[Rat.mkRat_eq_div]
  have:((d.toNat:Nat):Rat)=(d:Rat):=by
   rw[←CM,B0 (by omega)]
  rw[this]
theorem aGn{n:Int}{k:Nat}(h:k≠0):(mkRat n k).num=n/((n.natAbs.gcd k:Nat):Int)∧(mkRat n k).den=k/n.natAbs.gcd k:=by
 rw[Rat.mkRat_def,dif_neg h,Rat.normalize_eq]
 exact⟨rfl,rfl⟩
theorem aVn(a:Rat):a=(a.num:Rat)/(a.den:Rat):=by rw[←Rat.mkRat_eq_div,Rat.mkRat_self]
theorem aDh(a:Rat):(a.den:Rat)≠0:=by
 intro h
 have:=a.den_nz
 exact this (by exact_mod_cast h)
theorem bFl(a b:Rat):fq (a.num*b.num) ((a.den:Int)*(b.den:Int))=a*b:=by
 rw[bFn,Dt,Dt,CM,CM]
 have h1:=aDh a
 have h2:=aDh b
 have e1:=aVn a
 have e2:=aVn b
 generalize(a.den:Rat)=x at *
 generalize(b.den:Rat)=y at *
 generalize(a.num:Rat)=u at *
 generalize(b.num:Rat)=v at *
 subst e1;subst e2
 grind
theorem bFp(a b:Rat):fq (a.num*(b.den:Int)+b.num*(a.den:Int)) ((a.den:Int)*(b.den:Int))=a+b:=by
 rw[bFn,Dt,Rat.intCast_add,Dt,Dt,CM,CM]
 have h1:=aDh a
 have h2:=aDh b
 have e1:=aVn a
 have e2:=aVn b
 generalize(a.den:Rat)=x at *
 generalize(b.den:Rat)=y at *
 generalize(a.num:Rat)=u at *
 generalize(b.num:Rat)=v at *
 subst e1;subst e2
 grind
theorem bFo(a b:Rat)(hb:b≠0):fq (a.num*(b.den:Int)) ((a.den:Int)*b.num)=a/b:=by
 rw[bFn,Dt,Dt,CM,CM]
 have h1:=aDh a
 have h2:=aDh b
 have e1:=aVn a
 have e2:=aVn b
 have h3:(b.num:Rat)≠0:=by
  intro h;rw[h]at e2;apply hb;rw[e2];grind
 generalize(a.den:Rat)=x at *
 generalize(b.den:Rat)=y at *
 generalize(a.num:Rat)=u at *
 generalize(b.num:Rat)=v at *
 subst e1;subst e2
 grind
theorem bFm{n d:Int}(hd:d≠0):(fq n d).num.natAbs≤n.natAbs∧(fq n d).den≤d.natAbs:=by
 unfold fq
 split
 ·obtain⟨h1,h2⟩:=aGn (n:=-n) (k:=(-d).toNat) (by omega)
  rw[h1,h2]
  refine⟨AO (F9 _ _) (by omega),AO (DU ..) (by omega)⟩
 ·obtain⟨h1,h2⟩:=aGn (n:=n) (k:=d.toNat) (by omega)
  rw[h1,h2]
  refine⟨AO (F9 _ _) (by omega),AO (DU ..) (by omega)⟩
def QB(B:Nat)(q:Rat):Prop:=q.num.natAbs≤B∧q.den≤B
theorem QB.mono{B C:Nat}{q:Rat}(h:QB B q)(hc:B≤C):QB C q:=⟨AO h.1 hc,AO h.2 hc⟩
theorem bPg(q:Rat):(q.den:Int)≠0:=by have:=q.den_nz;omega
theorem bNk(a b:Rat):(a.den:Int)*(b.den:Int)≠0:=Int.mul_ne_zero (bPg a) (bPg b)
theorem QB.mul{B C:Nat}{a b:Rat}(ha:QB B a)(hb:QB C b):QB (B*C) (a*b):=by
 obtain⟨h1,h2⟩:=bFm (n:=a.num*b.num) (bNk a b)
 rw[bFl]at h1 h2
 rw[DM]at h1 h2
 exact⟨AO h1 (Bg ha.1 hb.1),AO h2 (Bg ha.2 hb.2)⟩
theorem QB.add{B C:Nat}{a b:Rat}(ha:QB B a)(hb:QB C b):QB (2*(B*C)) (a+b):=by
 obtain⟨h1,h2⟩:=bFm (n:=a.num*(b.den:Int)+b.num*(a.den:Int)) (bNk a b)
 rw[bFp]at h1 h2
 rw[DM]at h2
 have h3:=Bg ha.1 hb.2
 have h4:=Bg hb.1 ha.2
 have h5:=Bg ha.2 hb.2
 have h6:(a.num*(b.den:Int)+b.num*(a.den:Int)).natAbs≤a.num.natAbs*b.den+b.num.natAbs*a.den:=by
  refine AO (Int.natAbs_add_le _ _) ?_
  rw[DM,DM];simp
 rw[BV C B]at h4
 simp only[Cm]at h2
 exact⟨by omega,by omega⟩
theorem QB.neg{B:Nat}{a:Rat}(ha:QB B a):QB B (-a):=by
 unfold QB;rw[Rat.neg_num,Rat.neg_den,Fi];exact ha
theorem QB.sub{B C:Nat}{a b:Rat}(ha:QB B a)(hb:QB C b):QB (2*(B*C)) (a-b):=by
 rw[Rat.sub_eq_add_neg];exact ha.add hb.neg
theorem QB.div{B C:Nat}{a b:Rat}(ha:QB B a)(hb:QB C b)(h0:b≠0):QB (B*C) (a/b):=by
 obtain⟨h1,h2⟩:=bFm (n:=a.num*(b.den:Int)) (d:=(a.den:Int)*b.num) (Int.mul_ne_zero (bPg a) (fun h=>h0 (Rat.num_eq_zero.1 h)))
 rw[bFo a b h0]at h1 h2
 rw[DM]at h1 h2
 simp only[Cm]at h1 h2
 exact⟨AO h1 (Bg ha.1 hb.2),AO h2 (Bg ha.2 hb.1)⟩
theorem QB.int{B:Nat}{z:Int}(h:z.natAbs≤B)(h1:1≤B):QB B (z:Rat):=⟨by rw[Rat.num_intCast];exact h,by rw[Rat.den_intCast];exact h1⟩
def mG{α:Type}[_root_.Add α][_root_.Sub α][_root_.Mul α](x:Nat→Nat→α):α :=
 x 0 0*(x 1 1*(x 2 2*x 3 3-x 2 3*x 3 2)-x 1 2*(x 2 1*x 3 3-x 2 3*x 3 1)+x 1 3*(x 2 1*x 3 2-x 2 2*x 3 1))
 - x 0 1*(x 1 0*(x 2 2*x 3 3-x 2 3*x 3 2)-x 1 2*(x 2 0*x 3 3-x 2 3*x 3 0)+x 1 3*(x 2 0*x 3 2-x 2 2*x 3 0))
 + x 0 2*(x 1 0*(x 2 1*x 3 3-x 2 3*x 3 1)-x 1 1*(x 2 0*x 3 3-x 2 3*x 3 0)+x 1 3*(x 2 0*x 3 1-x 2 1*x 3 0))
 - x 0 3*(x 1 0*(x 2 1*x 3 2-x 2 2*x 3 1)-x 1 1*(x 2 0*x 3 2-x 2 2*x 3 0)+x 1 2*(x 2 0*x 3 1-x 2 1*x 3 0))
theorem aXi(x:Nat→Nat→Int):mG (fun i j=>((x i j:Int):Rat))=((mG x:Int):Rat):=by
 simp only[mG,Dt,Rat.intCast_sub,Rat.intCast_add]
def swp(k a i:Nat):Nat:=if i=k then a else if i=a then k else i
theorem aXh(x:Nat→Nat→Rat){k a:Nat}(h:k<a)(ha:a≤3):mG (fun i j=>x (swp k a i) j)=- mG x:=by
 have:(k=0∧a=1)∨(k=0∧a=2)∨(k=0∧a=3)∨(k=1∧a=2)∨(k=1∧a=3)∨(k=2∧a=3):=by omega
 rcases this with ⟨rfl,rfl⟩|⟨rfl,rfl⟩|⟨rfl,rfl⟩|⟨rfl,rfl⟩|⟨rfl,rfl⟩|⟨rfl,rfl⟩<;>(simp[mG,swp];grind)
theorem bGp(x:Nat→Nat→Rat)(c:Rat){k a:Nat}(h:k<a)(ha:a≤3):mG (fun i j=>if i=a then x a j-c*x k j else x i j)=mG x:=by
 have:(k=0∧a=1)∨(k=0∧a=2)∨(k=0∧a=3)∨(k=1∧a=2)∨(k=1∧a=3)∨(k=2∧a=3):=by omega
 rcases this with ⟨rfl,rfl⟩|⟨rfl,rfl⟩|⟨rfl,rfl⟩|⟨rfl,rfl⟩|⟨rfl,rfl⟩|⟨rfl,rfl⟩<;>(simp[mG];grind)
theorem bGo(x:Nat→Nat→Rat)(h:∀ i j,j<i→i≤3→x i j=0):mG x=x 0 0*x 1 1*x 2 2*x 3 3:=by
 have h10:=h 1 0 (by decide) (by decide)
 have h20:=h 2 0 (by decide) (by decide)
 have h30:=h 3 0 (by decide) (by decide)
 have h21:=h 2 1 (by decide) (by decide)
 have h31:=h 3 1 (by decide) (by decide)
 have h32:=h 3 2 (by decide) (by decide)
 simp only[mG,h10,h20,h30,h21,h31,h32]
 grind
theorem aXg(x:Nat→Nat→Rat){k:Nat}(hk:k≤3)(h:∀ i j,j<i→j<k→i≤3→x i j=0)(h0:∀ i,k≤i→i≤3→x i k=0):mG x=0:=by
 have:k=0∨k=1∨k=2∨k=3:=by omega
 rcases this with rfl|rfl|rfl|rfl
 ·simp only[mG,h0 0 (by decide) (by decide),h0 1 (by decide) (by decide),h0 2 (by decide) (by decide),h0 3 (by decide) (by decide)];grind
 ·simp only[mG,h 1 0 (by decide) (by decide) (by decide),h 2 0 (by decide) (by decide) (by decide),h 3 0 (by decide) (by decide) (by decide),h0 1 (by decide) (by decide),h0 2 (by decide) (by decide),h0 3 (by decide) (by decide)];grind
 ·simp only[mG,h 1 0 (by decide) (by decide) (by decide),h 2 0 (by decide) (by decide) (by decide),h 3 0 (by decide) (by decide) (by decide),h 2 1 (by decide) (by decide) (by decide),h 3 1 (by decide) (by decide) (by decide),h0 2 (by decide) (by decide),h0 3 (by decide) (by decide)];grind
 ·simp only[mG,h 1 0 (by decide) (by decide) (by decide),h 2 0 (by decide) (by decide) (by decide),h 3 0 (by decide) (by decide) (by decide),h 2 1 (by decide) (by decide) (by decide),h 3 1 (by decide) (by decide) (by decide),h 3 2 (by decide) (by decide) (by decide),h0 3 (by decide) (by decide)];grind
theorem bSu(a b c d e f g h:Int):(a*f-b*e)^2+(a*g-c*e)^2+(a*h-d*e)^2+(b*g-c*f)^2+(b*h-d*f)^2+(c*h-d*g)^2≤(a^2+b^2+c^2+d^2)*(e^2+f^2+g^2+h^2):=by
 have h1:(a*f-b*e)^2+(a*g-c*e)^2+(a*h-d*e)^2+(b*g-c*f)^2+(b*h-d*f)^2+(c*h-d*g)^2+(a*e+b*f+c*g+d*h)^2=(a^2+b^2+c^2+d^2)*(e^2+f^2+g^2+h^2):=by grind
 have h2:0≤(a*e+b*f+c*g+d*h)^2:=B8 _
 omega
theorem bSt(p q r s t u a b c d:Int):(p*c-q*b+s*a)^2+(p*d-r*b+t*a)^2+(q*d-r*c+u*a)^2+(s*d-t*c+u*b)^2≤(p^2+q^2+r^2+s^2+t^2+u^2)*(a^2+b^2+c^2+d^2):=by
 have h1:(p*c-q*b+s*a)^2+(p*d-r*b+t*a)^2+(q*d-r*c+u*a)^2+(s*d-t*c+u*b)^2+((p*b+q*c+r*d)^2+(-p*a+s*c+t*d)^2+(-q*a-s*b+u*d)^2+(-r*a-t*b-u*c)^2)=(p^2+q^2+r^2+s^2+t^2+u^2)*(a^2+b^2+c^2+d^2):=by grind
 have h2:0≤(p*b+q*c+r*d)^2:=B8 _
 have h3:0≤(-p*a+s*c+t*d)^2:=B8 _
 have h4:0≤(-q*a-s*b+u*d)^2:=B8 _
 have h5:0≤(-r*a-t*b-u*c)^2:=B8 _
 omega
theorem bSs(p q r s a b c d:Int):(p*d-q*c+r*b-s*a)^2≤(p^2+q^2+r^2+s^2)*(a^2+b^2+c^2+d^2):=by
 have h1:(p*d-q*c+r*b-s*a)^2+((p*c+q*d)^2+(p*b-r*d)^2+(p*a+s*d)^2+(q*b+r*c)^2+(q*a-s*c)^2+(r*a+s*b)^2)=(p^2+q^2+r^2+s^2)*(a^2+b^2+c^2+d^2):=by grind
 have h2:0≤(p*c+q*d)^2:=B8 _
 have h3:0≤(p*b-r*d)^2:=B8 _
 have h4:0≤(p*a+s*d)^2:=B8 _
 have h5:0≤(q*b+r*c)^2:=B8 _
 have h6:0≤(q*a-s*c)^2:=B8 _
 have h7:0≤(r*a+s*b)^2:=B8 _
 omega
set_option maxRecDepth 10000 in
theorem cAm(x:Nat→Nat→Int):(mG x)^2≤(x 0 0^2+x 0 1^2+x 0 2^2+x 0 3^2)*(x 1 0^2+x 1 1^2+x 1 2^2+x 1 3^2)*(x 2 0^2+x 2 1^2+x 2 2^2+x 2 3^2)*(x 3 0^2+x 3 1^2+x 3 2^2+x 3 3^2):=by
 have h1:=bSu (x 0 0) (x 0 1) (x 0 2) (x 0 3) (x 1 0) (x 1 1) (x 1 2) (x 1 3)
 have h2:=bSt (x 0 0*x 1 1-x 0 1*x 1 0) (x 0 0*x 1 2-x 0 2*x 1 0) (x 0 0*x 1 3-x 0 3*x 1 0) (x 0 1*x 1 2-x 0 2*x 1 1) (x 0 1*x 1 3-x 0 3*x 1 1) (x 0 2*x 1 3-x 0 3*x 1 2) (x 2 0) (x 2 1) (x 2 2) (x 2 3)
 generalize hp:x 0 0*x 1 1-x 0 1*x 1 0=p at *
 generalize hq:x 0 0*x 1 2-x 0 2*x 1 0=q at *
 generalize hr:x 0 0*x 1 3-x 0 3*x 1 0=r at *
 generalize hs:x 0 1*x 1 2-x 0 2*x 1 1=s at *
 generalize ht:x 0 1*x 1 3-x 0 3*x 1 1=t at *
 generalize hu:x 0 2*x 1 3-x 0 3*x 1 2=u at *
 have h3:=bSs (p*x 2 2-q*x 2 1+s*x 2 0) (p*x 2 3-r*x 2 1+t*x 2 0) (q*x 2 3-r*x 2 2+u*x 2 0) (s*x 2 3-t*x 2 2+u*x 2 1) (x 3 0) (x 3 1) (x 3 2) (x 3 3)
 have hd:mG x=(p*x 2 2-q*x 2 1+s*x 2 0)*x 3 3-(p*x 2 3-r*x 2 1+t*x 2 0)*x 3 2+(q*x 2 3-r*x 2 2+u*x 2 0)*x 3 1-(s*x 2 3-t*x 2 2+u*x 2 1)*x 3 0:=by
  subst hp hq hr hs ht hu
  unfold mG
  grind
 rw[hd]
 have n2:0≤x 2 0^2+x 2 1^2+x 2 2^2+x 2 3^2:=by
  have a:=B8 (x 2 0);have b:=B8 (x 2 1);have c:=B8 (x 2 2);have d:=B8 (x 2 3);omega
 have n3:0≤x 3 0^2+x 3 1^2+x 3 2^2+x 3 3^2:=by
  have a:=B8 (x 3 0);have b:=B8 (x 3 1);have c:=B8 (x 3 2);have d:=B8 (x 3 3);omega
 refine Int.le_trans h3 (Fz ?_ n3)
 exact Int.le_trans h2 (Fz h1 n2)
end Go.Am
end
section
open List renaming map_map→ζ,mapM_map→ξ
open Go Go.Am Go.Proofs
namespace Go.Am
def dK(q:Rat):D:=.ag [.b (decide (q.num<0)),aG (aN q.num.natAbs),.b false,aG (aN q.den)]
theorem cK(q:Rat):dK q=.ag [.b (decide (q.num<0)),aG (aN q.num.natAbs),.b false,aG (aN q.den)]:=rfl
theorem aNw{n:Nat}(h:n<aYc):SB (n:Int):=by unfold SB;rw[Cm];exact h
set_option maxHeartbeats 8000000 in
set_option maxRecDepth 10000 in
theorem bRf[M:Mch Aa](n d:Int)(hd:d≠0)(hn:SB n)(hdb:SB d):Spec Aa 194 [encZ n,encZ d] (.tp [dK (fq n d),.i .i64 0]):=by
 have hSg:=kN d
 have hse:(d.sign==0)=false:=by
  have:=aNr hd
  rw[bne,CQ]at this;exact this
 by_cases h0:d<0
 ·have hs1:d.sign<0:=(jH d).symm ▸ (by rw[Ar h0];decide)
  have hN1:=qM n (hn.le (by decide))
  have hN2:=qM d (hdb.le (by decide))
  have hn':SB (-n):=by unfold SB at *;rwa [Fi]
  have hd':SB (-d):=by unfold SB at *;rwa [Fi]
  have hG:=bCl (-n) (-d) hn' hd'
  obtain⟨g,hg⟩:∃ g,Int.gcd (-n) (-d)=g:=⟨_,rfl⟩
  have hg0:(g:Int)≠0:=by
   rw[←hg];intro h
   have h2:Int.gcd (-n) (-d)=0:=by omega
   rw[Int.gcd_eq_zero_iff]at h2;omega
  have hgb:SB (g:Int):=by
   refine aNw ?_
   have h1:=Int.gcd_dvd_right (-n) (-d)
   rw[hg]at h1
   have h2:=Int.le_of_dvd (by omega) h1
   unfold SB at hd';omega
  have hD1:=kI (-n) g hg0 (hn'.le (by decide)) (hgb.le (by decide))
  have hD2:=kI (-d) g hg0 (hd'.le (by decide)) (hgb.le (by decide))
  obtain⟨q1,q2⟩:=aGn (n:=-n) (k:=(-d).toNat) (by omega)
  have hgg:(-n).natAbs.gcd (-d).toNat=g:=by rw[←hg];show _=(-n).natAbs.gcd (-d).natAbs;congr 1;omega
  rw[hgg]at q1 q2
  have hR:dK (fq n d)=.ag [.b (decide ((-n)/(g:Int)<0)),aG (aN ((-n)/(g:Int)).natAbs),.b (decide ((-d)/(g:Int)<0)),aG (aN ((-d)/(g:Int)).natAbs)]:=by
   have e1:fq n d=mkRat (-n) (-d).toNat:=by unfold fq;rw[Ar h0]
   have e2:(((-d).toNat/g:Nat):Int)=(-d)/(g:Int):=by rw[ER,B0 (by omega)]
   have e3:¬(-d)/(g:Int)<0:=by rw[←e2];omega
   have e4:((-d)/(g:Int)).natAbs=(-d).toNat/g:=by rw[←e2,Cm]
   unfold dK
   rw[e1,q1,q2,Bj e3,e4]
  rw[hR]
  rw[hg]at hG
  rw[←dC]at hG
  generalize(-n)/(g:Int)=u1 at *
  generalize(-n)%(g:Int)=u2 at *
  generalize(-d)/(g:Int)=u3 at *
  generalize(-d)%(g:Int)=u4 at *
  generalize d.sign=s at *
  generalize -n=n1 at *
  generalize -d=d1 at *
  refine bF (N:=44) Tryz.func194 ?_
  simp[-ζ,-ξ,↓KW,bB n,bB d,aA,aD,aC,aE,aB]
  refine aH hSg ?_
  simp[-ζ,-ξ,↓KW,hse,aA,aD,aC,aE,aB]
  refine aH hSg ?_
  simp[-ζ,-ξ,↓KW,hs1,aA,aD,aC,aE,aB]
  refine aH hN1 ?_
  simp[-ζ,-ξ,↓KW,bB n1,aA,aD,aC,aE,aB]
  refine aH hN2 ?_
  simp[-ζ,-ξ,↓KW,bB d1,aA,aD,aC,aE,aB]
  refine aH hG ?_
  simp[-ζ,-ξ,↓KW,bB (g:Int),aA,aD,aC,aE,aB]
  refine aH hD1 ?_
  simp[-ζ,-ξ,↓KW,bB u1,bB u2,aA,aD,aC,aE,aB]
  refine aH hD2 ?_
  simp[-ζ,-ξ,↓KW,bB u3,bB u4,aA,aD,aC,aE,aB,eR]
 ·have hs1:¬d.sign<0:=by
   rw[jH,Aj h0];split<;>decide
  have hG:=bCl n d hn hdb
  obtain⟨g,hg⟩:∃ g,Int.gcd n d=g:=⟨_,rfl⟩
  have hg0:(g:Int)≠0:=by
   rw[←hg];intro h
   have h2:Int.gcd n d=0:=by omega
   rw[Int.gcd_eq_zero_iff]at h2;omega
  have hgb:SB (g:Int):=by
   refine aNw ?_
   have h1:=Int.gcd_dvd_right n d
   rw[hg]at h1
   have h2:=Int.le_of_dvd (by omega) h1
   unfold SB at hdb;omega
  have hD1:=kI n g hg0 (hn.le (by decide)) (hgb.le (by decide))
  have hD2:=kI d g hg0 (hdb.le (by decide)) (hgb.le (by decide))
  obtain⟨q1,q2⟩:=aGn (n:=n) (k:=d.toNat) (by omega)
  have hgg:n.natAbs.gcd d.toNat=g:=by rw[←hg];show _=n.natAbs.gcd d.natAbs;congr 1;omega
  rw[hgg]at q1 q2
  have hR:dK (fq n d)=.ag [.b (decide (n/(g:Int)<0)),aG (aN (n/(g:Int)).natAbs),.b (decide (d/(g:Int)<0)),aG (aN (d/(g:Int)).natAbs)]:=by
   have e1:fq n d=mkRat n d.toNat:=by unfold fq;rw[Aj h0]
   have e2:((d.toNat/g:Nat):Int)=d/(g:Int):=by rw[ER,B0 (by omega)]
   have e3:¬d/(g:Int)<0:=by rw[←e2];omega
   have e4:(d/(g:Int)).natAbs=d.toNat/g:=by rw[←e2,Cm]
   unfold dK
   rw[e1,q1,q2,Bj e3,e4]
  rw[hR]
  rw[hg]at hG
  rw[←dC]at hG
  generalize n/(g:Int)=u1 at *
  generalize n%(g:Int)=u2 at *
  generalize d/(g:Int)=u3 at *
  generalize d%(g:Int)=u4 at *
  generalize d.sign=s at *
  refine bF (N:=44) Tryz.func194 ?_
  simp[-ζ,-ξ,↓KW,bB n,bB d,aA,aD,aC,aE,aB]
  refine aH hSg ?_
  simp[-ζ,-ξ,↓KW,hse,aA,aD,aC,aE,aB]
  refine aH hSg ?_
  simp[-ζ,-ξ,↓KW,hs1,aA,aD,aC,aE,aB]
  refine aH hG ?_
  simp[-ζ,-ξ,↓KW,bB (g:Int),aA,aD,aC,aE,aB]
  refine aH hD1 ?_
  simp[-ζ,-ξ,↓KW,bB u1,bB u2,aA,aD,aC,aE,aB]
  refine aH hD2 ?_
  simp[-ζ,-ξ,↓KW,bB u3,bB u4,aA,aD,aC,aE,aB,eR]
def b1k:Nat:=4294967296^32
theorem bHy:2*(b1k*b1k)<aYc:=by unfold b1k aYc;decide
theorem bHz:b1k<aYc:=by unfold b1k aYc;decide
def QS(q:Rat):Prop:=QB b1k q
theorem QS.num{q:Rat}(h:QS q):SB q.num:=Bo h.1 bHz
theorem QS.den{q:Rat}(h:QS q):SB (q.den:Int):=aNw (Bo h.2 bHz)
theorem rV{x y:Int}(hx:x.natAbs≤b1k)(hy:y.natAbs≤b1k):SB (x*y):=by
 have:=Bg hx hy
 have h2:=bHy
 unfold SB;rw[DM];omega
theorem bTm{x y u v:Int}(hx:x.natAbs≤b1k)(hy:y.natAbs≤b1k)(hu:u.natAbs≤b1k)(hv:v.natAbs≤b1k):SB (x*y+u*v):=by
 have h1:=Bg hx hy
 have h2:=Bg hu hv
 have h3:=bHy
 have h4:=Int.natAbs_add_le (x*y) (u*v)
 rw[DM,DM]at h4
 unfold SB;omega
theorem QS.n{q:Rat}(h:QS q):q.num.natAbs≤b1k:=h.1
theorem QS.d{q:Rat}(h:QS q):(q.den:Int).natAbs≤b1k:=by rw[Cm];exact h.2
theorem qZ(q:Rat):dK q=.ag [.b (decide (q.num<0)),aG (aN q.num.natAbs),.b (decide ((q.den:Int)<0)),aG (aN (q.den:Int).natAbs)]:=by
 rw[dK,Cm,Bj (show ¬(q.den:Int)<0 by omega)]
set_option maxHeartbeats 4000000 in
set_option maxRecDepth 10000 in
theorem bRe[M:Mch Aa](n d:Int)(hd:d≠0)(hn:SB n)(hdb:SB d):Spec Aa 175 [encZ n,encZ d] (dK (fq n d)):=by
 have hO:=bRf n d hd hn hdb
 generalize fq n d=q at *
 refine bF (N:=14) Tryz.func175 ?_
 simp[-ζ,-ξ,↓KW,bB n,bB d,aA,aD,aC,aE,aB]
 refine aH hO ?_
 simp[-ζ,-ξ,↓KW,cK q,aA,aD,aC,aE,aB]
set_option maxHeartbeats 4000000 in
set_option maxRecDepth 10000 in
theorem bCi[M:Mch Aa](q:Rat)(hq:QS q):Spec Aa 130 [dK q] (dK (-q)):=by
 have hN:=qM q.num (hq.num.le (by decide))
 have hR:dK (-q)=.ag [.b (decide (-q.num<0)),aG (aN (-q.num).natAbs),.b false,aG (aN q.den)]:=by unfold dK;rw[Rat.neg_num,Rat.neg_den]
 rw[hR]
 generalize -q.num=u at *
 refine bF (N:=9) Tryz.func130 ?_
 simp[-ζ,-ξ,↓KW,cK q,aA,aD,aC,aE,aB]
 refine aH hN ?_
 simp[-ζ,-ξ,↓KW,bB u,aA,aD,aC,aE,aB]
set_option maxHeartbeats 4000000 in
set_option maxRecDepth 10000 in
theorem bMb[M:Mch Aa](q:Rat):Spec Aa 129 [dK q] (.i .i64 q.num.sign):=by
 have hS:=kN q.num
 generalize q.num.sign=s at *
 refine bF (N:=6) Tryz.func129 ?_
 simp[-ζ,-ξ,↓KW,cK q,aA,aD,aC,aE,aB]
 refine aH hS ?_
 simp[-ζ,-ξ,↓KW]
set_option maxHeartbeats 4000000 in
set_option maxRecDepth 10000 in
theorem aJk[M:Mch Aa](z:Int):Spec Aa 174 [encZ z] (dK (z:Rat)):=by
 have hO:=rX (x:=1) (by omega)
 have hR:dK (z:Rat)=.ag [.b (decide (z<0)),aG (aN z.natAbs),.b false,aG (aN 1)]:=by unfold dK;rw[Rat.num_intCast,Rat.den_intCast]
 rw[hR]
 refine bF (N:=6) Tryz.func174 ?_
 simp[-ζ,-ξ,↓KW,bB z,aA,aD,aC,aE,aB]
 refine aH hO ?_
 simp[-ζ,-ξ,↓KW,aO 1,aA,aD,aC,aE,aB]
set_option maxHeartbeats 4000000 in
set_option maxRecDepth 10000 in
theorem bTv[M:Mch Aa]:Spec Aa 127 [.i .i64 1] (dK 1):=by
 have hO:=aJo 1 (by decide) (by decide)
 have hW:=aJk 1
 rw[show((1:Int):Rat)=1 from rfl]at hW
 refine bF (N:=6) Tryz.func127 ?_
 simp[-ζ,-ξ,↓KW]
 refine aH hO ?_
 simp[-ζ,-ξ,↓KW,bB 1,aA,aD,aC,aE,aB]
 refine aH hW ?_
 simp[-ζ,-ξ,↓KW,cK 1,aA,aD,aC,aE,aB]
set_option maxHeartbeats 4000000 in
set_option maxRecDepth 10000 in
theorem aOe[M:Mch Aa](a b:Rat)(ha:QS a)(hb:QS b):Spec Aa 131 [dK a,dK b] (dK (a*b)):=by
 have h1:=jI a.num b.num (ha.num.le (by decide)) (hb.num.le (by decide))
 have h2:=jI (a.den:Int) (b.den:Int) (ha.den.le (by decide)) (hb.den.le (by decide))
 have h3:=bRe (a.num*b.num) ((a.den:Int)*(b.den:Int)) (bNk a b) (rV ha.n hb.n) (rV ha.d hb.d)
 rw[bFl]at h3
 generalize a*b=q at *
 generalize a.num*b.num=x at *
 generalize(a.den:Int)*(b.den:Int)=y at *
 refine bF (N:=16) Tryz.func131 ?_
 simp[-ζ,-ξ,↓KW,qZ a,qZ b,aA,aD,aC,aE,aB]
 refine aH h1 ?_
 simp[-ζ,-ξ,↓KW,bB x,aA,aD,aC,aE,aB]
 refine aH h2 ?_
 simp[-ζ,-ξ,↓KW,bB y,aA,aD,aC,aE,aB]
 refine aH h3 ?_
 simp[-ζ,-ξ,↓KW,cK q,aA,aD,aC,aE,aB]
set_option maxHeartbeats 4000000 in
set_option maxRecDepth 10000 in
theorem bTx[M:Mch Aa](a b:Rat)(ha:QS a)(hb:QS b):Spec Aa 195 [dK a,dK b] (dK (a+b)):=by
 have h1:=jI a.num (b.den:Int) (ha.num.le (by decide)) (hb.den.le (by decide))
 have h2:=jI b.num (a.den:Int) (hb.num.le (by decide)) (ha.den.le (by decide))
 have h3:=tC (a.num*(b.den:Int)) (b.num*(a.den:Int)) ((rV ha.n hb.d).le (by decide)) ((rV hb.n ha.d).le (by decide))
 have h4:=jI (a.den:Int) (b.den:Int) (ha.den.le (by decide)) (hb.den.le (by decide))
 have h5:=bRe (a.num*(b.den:Int)+b.num*(a.den:Int)) ((a.den:Int)*(b.den:Int)) (bNk a b) (bTm ha.n hb.d hb.n ha.d) (rV ha.d hb.d)
 rw[bFp]at h5
 generalize a+b=q at *
 generalize a.num*(b.den:Int)+b.num*(a.den:Int)=w at *
 generalize a.num*(b.den:Int)=x at *
 generalize b.num*(a.den:Int)=u at *
 generalize(a.den:Int)*(b.den:Int)=y at *
 refine bF (N:=24) Tryz.func195 ?_
 simp[-ζ,-ξ,↓KW,qZ a,qZ b,aA,aD,aC,aE,aB]
 refine aH h1 ?_
 simp[-ζ,-ξ,↓KW,bB x,aA,aD,aC,aE,aB]
 refine aH h2 ?_
 simp[-ζ,-ξ,↓KW,bB u,aA,aD,aC,aE,aB]
 refine aH h3 ?_
 simp[-ζ,-ξ,↓KW,bB w,aA,aD,aC,aE,aB]
 refine aH h4 ?_
 simp[-ζ,-ξ,↓KW,bB y,aA,aD,aC,aE,aB]
 refine aH h5 ?_
 simp[-ζ,-ξ,↓KW,cK q,aA,aD,aC,aE,aB]
set_option maxHeartbeats 4000000 in
set_option maxRecDepth 10000 in
theorem bTu[M:Mch Aa](a b:Rat)(ha:QS a)(hb:QS b):Spec Aa 176 [dK a,dK b] (dK (a-b)):=by
 have h1:=bCi b hb
 have h2:=bTx a (-b) ha hb.neg
 rw[←Rat.sub_eq_add_neg]at h2
 generalize a-b=q at *
 generalize -b=c at *
 refine bF (N:=9) Tryz.func176 ?_
 simp[-ζ,-ξ,↓KW,cK a,cK b,aA,aD,aC,aE,aB]
 refine aH h1 ?_
 simp[-ζ,-ξ,↓KW,cK c,aA,aD,aC,aE,aB]
 refine aH h2 ?_
 simp[-ζ,-ξ,↓KW,cK q,aA,aD,aC,aE,aB]
set_option maxHeartbeats 4000000 in
set_option maxRecDepth 10000 in
theorem bTw[M:Mch Aa](a b:Rat)(h0:b≠0)(ha:QS a)(hb:QS b):Spec Aa 177 [dK a,dK b] (.tp [dK (a/b),.i .i64 0]):=by
 have h1:=jI a.num (b.den:Int) (ha.num.le (by decide)) (hb.den.le (by decide))
 have h2:=jI (a.den:Int) b.num (ha.den.le (by decide)) (hb.num.le (by decide))
 have h3:=bRf (a.num*(b.den:Int)) ((a.den:Int)*b.num) (Int.mul_ne_zero (bPg a) (fun h=>h0 (Rat.num_eq_zero.1 h))) (rV ha.n hb.d) (rV ha.d hb.n)
 rw[bFo a b h0]at h3
 generalize a/b=q at *
 generalize a.num*(b.den:Int)=x at *
 generalize(a.den:Int)*b.num=y at *
 refine bF (N:=19) Tryz.func177 ?_
 simp[-ζ,-ξ,↓KW,qZ a,qZ b,aA,aD,aC,aE,aB]
 refine aH h1 ?_
 simp[-ζ,-ξ,↓KW,bB x,aA,aD,aC,aE,aB]
 refine aH h2 ?_
 simp[-ζ,-ξ,↓KW,bB y,aA,aD,aC,aE,aB]
 refine aH h3 ?_
 simp[-ζ,-ξ,↓KW,cK q,aA,aD,aC,aE,aB,eR]
set_option maxHeartbeats 4000000 in
set_option maxRecDepth 10000 in
theorem aRp[M:Mch Aa](a b:Rat)(h0:b≠0)(ha:QS a)(hb:QS b):Spec Aa 133 [dK a,dK b] (dK (a/b)):=by
 have h1:=bTw a b h0 ha hb
 generalize a/b=q at *
 refine bF (N:=14) Tryz.func133 ?_
 simp[-ζ,-ξ,↓KW,cK a,cK b,aA,aD,aC,aE,aB]
 refine aH h1 ?_
 simp[-ζ,-ξ,↓KW,cK q,aA,aD,aC,aE,aB]
end Go.Am
end
section
open List renaming map_map→ζ,mapM_map→ξ
namespace Go.Am
def PrN(n:Nat):Prop:=2≤n∧∀ d,2≤d→d*d≤n→n%d≠0
theorem PrN.dvd{p d:Nat}(hp:PrN p)(hd:d ∣ p):d=1∨d=p:=by
 obtain⟨e,he⟩:=hd
 have hp2:=hp.1
 rcases AX d 2 with h1|h1
 ·left
  rcases Bf d with h0|h0
  ·subst h0;simp at he;omega
  ·omega
 rcases AX e 2 with h2|h2
 ·right
  rcases Bf e with h0|h0
  ·subst h0;simp at he;omega
  ·have:e=1:=by omega
   subst this;omega
 exfalso
 rcases Nat.le_total d e with h|h
 ·exact hp.2 d h1 (by rw[he];exact Cb d h) (by rw[he];exact Nat.mul_mod_right d e)
 ·exact hp.2 e h2 (by rw[he];exact B3 e h) (by rw[he];exact Nat.mul_mod_left d e)
theorem PrN.cop{p a:Nat}(hp:PrN p)(ha:a%p≠0):EJ p a:=by
 rcases hp.dvd (Nat.gcd_dvd_left p a)with h|h
 ·exact h
 ·exact absurd (Nat.mod_eq_zero_of_dvd (h ▸ Nat.gcd_dvd_right p a)) ha
theorem PrN.two{p q:Nat}(hp:PrN p)(hq:PrN q)(h:p≠q):EJ p q:=by
 refine hp.cop fun hz=>?_
 rcases hq.dvd (Cl hz)with h1|h1
 ·have:=hp.1;omega
 ·exact h h1
def bI:List Nat→Nat
 |[]=>1
 |p::l=>p*bI l
theorem zG{l m:List Nat}(h:l.Perm m):bI l=bI m:=by
 induction h with
 |nil=>rfl
 |cons x _ ih=>simp only[bI,ih]
 |swap x y l=>simp only[bI,←BU,BV x y]
 |trans _ _ h1 h2=>exact h1.trans h2
theorem bMk{l m:List Nat}:l.Nodup→(∀ x∈l,x∈m)→m.length≤l.length→l.Perm m:=by
 induction l generalizing m with
 | nil =>
  intro _ _ hl
  have:m=[]:=BT (by simpa using hl)
  subst this;exact .refl _
 | cons x l ih =>
  intro hn hs hl
  have hx:x∈m:=hs x (AH ..)
  rw[Dr]at hn
  have hp:=List.perm_cons_erase hx
  refine .trans (List.Perm.cons x (ih hn.2 (fun y hy=>?_) ?_)) hp.symm
  ·have hyx:y≠x:=fun e=>hn.1 (e ▸ hy)
   exact(List.mem_erase_of_ne hyx).2 (hs y (AE _ hy))
  ·have:=hp.length_eq
   simp only[Ah]at this hl
   omega
theorem rL(p a:Nat):∀ l:List Nat,bI (l.map fun i=>a*i%p)%p=a^l.length*bI l%p
 |[]=>by simp[bI]
 | x::l=>by
  have ih:=rL p a l
  simp only[BH,bI,Ah,BI]
  rw[D3,ih,El,←D3]
  congr 1
  ac_rfl
theorem vF{p:Nat}:∀{l:List Nat},(∀ x∈l,EJ p x)→EJ p (bI l)
 |[],_=>by simp[bI]
 |x::l,h=>Nat.Coprime.mul_right (h x (AH ..)) (vF fun y hy=>h y (AE _ hy))
theorem bVr{p a:Nat}(hp:PrN p)(ha:a%p≠0):a^(p-1)%p=1:=by
 have hp2:=hp.1
 have hcop:=hp.cop ha
 obtain⟨L,hL⟩:∃ L,L=(AK (p-1)).map (·+1):=⟨_,rfl⟩
 have hmem:∀ x,x∈L↔0<x∧x<p:=fun x=>by
  rw[hL,AZ]
  constructor
  ·rintro⟨y,hy,rfl⟩
   rw[CJ]at hy
   omega
  ·rintro⟨h1,h2⟩
   exact⟨x-1,CJ.2 (by omega),by omega⟩
 have hlen:L.length=p-1:=by rw[hL];simp
 have hcx:∀ x∈L,EJ p x:=fun x hx=>by
  obtain⟨h1,h2⟩:=(hmem x).1 hx
  exact hp.cop (by rw[Cu h2];omega)
 have hnd:(L.map fun i=>a*i%p).Nodup:=by
  rw[List.Nodup,Gh]
  have h0:L.Pairwise (·≠·):=by
   rw[hL,Gh]
   exact List.Pairwise.imp (fun h=>by omega) List.nodup_range
  refine List.Pairwise.imp_of_mem (fun{x y} hx hy hne he=>hne ?_) h0
  obtain⟨x1,x2⟩:=(hmem x).1 hx
  obtain⟨y1,y2⟩:=(hmem y).1 hy
  rcases Nat.le_total x y with hxy|hxy
  ·have h1:(a*y-a*x)%p=0:=Em he.symm
   rw[←Nat.mul_sub]at h1
   have h2:=hcop.dvd_of_dvd_mul_left (Cl h1)
   have:=fun h=>Gs h h2
   rcases Bf (y-x)with h3|h3
   ·omega
   ·have:=this h3;omega
  ·have h1:(a*x-a*y)%p=0:=Em he
   rw[←Nat.mul_sub]at h1
   have h2:=hcop.dvd_of_dvd_mul_left (Cl h1)
   have:=fun h=>Gs h h2
   rcases Bf (x-y)with h3|h3
   ·omega
   ·have:=this h3;omega
 have hperm:(L.map fun i=>a*i%p).Perm L:=by
  refine bMk hnd (fun x hx=>?_) (by simp)
  obtain⟨i,hi,rfl⟩:=AZ.1 hx
  obtain⟨i1,i2⟩:=(hmem i).1 hi
  refine(hmem _).2 ⟨?_,B9 _ (by omega)⟩
  refine Nat.pos_of_ne_zero fun hz=>?_
  have:=hcop.dvd_of_dvd_mul_left (Cl hz)
  have:=Gs i1 this
  omega
 have h1:=rL p a L
 rw[zG hperm,hlen]at h1
 have hcP:=vF hcx
 have hpos:0<a^(p-1):=Nat.pow_pos (Nat.pos_of_ne_zero fun h=>ha (by subst h;simp))
 have h2:(a^(p-1)*bI L-1*bI L)%p=0:=Em (by rw[De];exact h1.symm)
 rw[←Nat.sub_mul]at h2
 have h3:=hcP.dvd_of_dvd_mul_right (Cl h2)
 obtain⟨k,hk⟩:=h3
 have:a^(p-1)=1+p*k:=by omega
 rw[this,EX,Cu (by omega)]
theorem aPl{p a:Nat}(hp:PrN p)(ha:a%p≠0):a^(p-2)*a%p=1:=by
 have h2:=hp.1
 rw[←BI,show(p-2).succ=p-1 from by omega]
 exact bVr hp ha
theorem aJv(p:Nat):∀(n r a e:Nat),e<2^n→sK p n r a e%p=r*a^e%p
 | 0,r,a,e,h=>by
  have:e=0:=by simpa using h
  subst this;simp[sK]
 | n+1,r,a,e,h=>by
  unfold sK
  split
  ·rename_i h0;subst h0;simp
  ·have ih:=aJv p n (if e%2=1 then r*a%p else r) (a*a%p) (e/2) (by rw[BI]at h;omega)
   rw[ih]
   have h2:a^e=(a*a)^(e/2)*a^(e%2):=by
    rw[←Nat.pow_two,←Nat.pow_mul,←E9];congr 1;omega
   rw[h2]
   rcases FW e with he|he
   ·rw[he,Aj (by decide),Nat.pow_zero,DF,D3,←Nat.pow_mod,←D3]
   ·rw[he,Ar rfl,Nat.pow_one,D3,El,←Nat.pow_mod,←D3]
    congr 1;ac_rfl
theorem aRt(p:Nat)(hp:0<p):∀(n r a e:Nat),r<p→sK p n r a e<p
 |0,r,a,e,h=>by simpa[sK]using h
 | n+1,r,a,e,h=>by
  unfold sK
  split
  ·exact h
  ·refine aRt p hp n _ _ _ ?_
   split
   ·exact B9 _ hp
   ·exact h
theorem bCo{p a e:Nat}(hp:0<p)(he:e<18446744073709551616):sK p 64 (1%p) a e=a^e%p:=by
 have h1:=aJv p 64 (1%p) a e he
 have h2:=aRt p hp 64 (1%p) a e (B9 _ hp)
 rw[Cu h2]at h1
 rw[h1,D3,El,←D3,De]
def rI(p v a m:Nat):Nat:=(v+p-a%p)%p*((m%p)^(p-2)%p)%p
def nU:List (Nat×Nat)→Nat→Nat→Nat×Nat
 |[],a,m=>(a,m)
 |(p,v)::l,a,m=>nU l (a+m*rI p v a m) (m*p)
def aHn(l:List (Nat×Nat)):Int:=let x:=nU l 0 1;if x.2<x.1+x.1 then(x.1:Int)-x.2 else x.1
theorem bDm{p a b c d:Nat}(h1:a%p=b%p)(h2:c%p=d%p):a*c%p=b*d%p:=by rw[D3,h1,h2,←D3]
theorem bYp{p a b c d:Nat}(h1:a%p=b%p)(h2:c%p=d%p):(a+c)%p=(b+d)%p:=by rw[Nat.add_mod,h1,h2,←Nat.add_mod]
theorem aTf{p v a m:Nat}(hp:0<p):rI p v a m<p:=B9 _ hp
theorem bPs{p v a m:Nat}(hp:PrN p)(hv:v<p)(hm:m%p≠0):(a+m*rI p v a m)%p=v:=by
 have hp0:0<p:=by have:=hp.1;omega
 have hinv:(m%p)^(p-2)*(m%p)%p=1:=aPl hp (by rw[El];exact hm)
 unfold rI
 have ha:=B9 a hp0
 have hs:a+(v+p-a%p)=v+p*(a/p+1):=by
  have:=Ew a p
  rw[Cq,DF]
  omega
 generalize(m%p)^(p-2)=u at *
 generalize v+p-a%p=s at *
 have e2:u*m%p=1%p:=by rw[bDm (b:=u) (d:=m%p) rfl (El _ _).symm,hinv,Cu (by have:=hp.1;omega)]
 have e1:m*(s%p*(u%p)%p)%p=s%p:=by
  rw[bDm (b:=m) (d:=s*u) rfl (by rw[El];exact bDm (El _ _) (El _ _))]
  rw[show m*(s*u)=s*(u*m)by ac_rfl,bDm (b:=s) (d:=1) rfl e2,DF]
 rw[bYp (b:=a) (d:=s) rfl e1,hs,EX,Cu hv]
structure aYi(l:List (Nat×Nat)):Prop where
 pr:∀ x∈l,PrN x.1
 lt:∀ x∈l,x.2<x.1
 nd:(l.map (·.1)).Nodup
theorem aAu{p:Nat}{l:List Nat}(hp:PrN p)(h:∀ q∈l,PrN q)(hn:p ∉ l):EJ p (bI l) :=
 vF fun q hq=>hp.two (h q hq) fun e=>hn (e ▸ hq)
theorem aJs{n:Nat}:∀{l:List Nat},(∀ q∈l,PrN q)→l.Nodup→(∀ q∈l,q ∣ n)→bI l ∣ n
 |[],_,_,_=>by simp[bI]
 | p::l,h,hn,hd=>by
  rw[Dr]at hn
  have h1:=aJs (n:=n) (l:=l) (fun q hq=>h q (AE _ hq)) hn.2 fun q hq=>hd q (AE _ hq)
  exact(aAu (h p (AH ..)) (fun q hq=>h q (AE _ hq)) hn.1).mul_dvd_of_dvd_of_dvd (hd p (AH ..)) h1
theorem aLq{l:List Nat}(h:∀ q∈l,PrN q)(hn:l.Nodup){x y:Int}(hr:∀ q∈l,(x-y)%(q:Int)=0)(hb:(x-y).natAbs<bI l):x=y:=by
 have hd:bI l ∣ (x-y).natAbs:=aJs h hn fun q hq=>Fc.1 (Int.dvd_natAbs.2 (Int.dvd_of_emod_eq_zero (hr q hq)))
 rcases Bf (x-y).natAbs with h0|h0
 ·omega
 ·have:=Gs h0 hd;omega
theorem aHo:∀(l done:List (Nat×Nat)) (a m:Nat),aYi (done++l)→m=bI (done.map (·.1))→a<m→(∀ x∈done,a%x.1=x.2) →
  (nU l a m).2=bI ((done++l).map (·.1))∧(nU l a m).1<(nU l a m).2∧∀ x∈done++l,(nU l a m).1%x.1=x.2
 |[],done,a,m,hP,hm,ha,hr=>by simp only[nU,E4];exact⟨hm,ha,hr⟩
 | (p,v)::l,done,a,m,hP,hm,ha,hr=>by
  have hp:PrN p:=hP.pr (p,v) (by simp)
  have hv:v<p:=hP.lt (p,v) (by simp)
  have hnd:=hP.nd
  rw[Ex,D4]at hnd
  have hpn:p ∉ done.map (·.1):=fun h=>hnd.2.2 p h p (by simp) rfl
  have hcop:EJ p m:=by
   rw[hm]
   refine aAu hp (fun q hq=>?_) hpn
   obtain⟨x,hx,rfl⟩:=AZ.1 hq
   exact hP.pr x (List.mem_append_left _ hx)
  have hp2:=hp.1
  have hmp:m%p≠0:=fun h=>by
   have h1:=Ga hcop (Cl h)
   omega
  have ht:=aTf (v:=v) (a:=a) (m:=m) (show 0<p by omega)
  have hok:=bPs (a:=a) (m:=m) hp hv hmp
  have ih:=aHo l (done++[(p,v)]) (a+m*rI p v a m) (m*p) (by simpa using hP) (by
   rw[hm]
   have:∀(xs:List Nat),bI (xs++[p])=bI xs*p:=fun xs=>by
    induction xs with
    |nil=>simp[bI]
    |cons x xs ih=>simp only[Ch,bI,ih,BU]
   rw[Ex];exact(this _).symm) (by
   have:m*(rI p v a m+1)≤m*p:=Cb m ht
   rw[Cq,DF]at this
   omega) (fun x hx=>by
   rcases BZ.1 hx with h|h
   ·have h1:=hr x h
    have hd:x.1 ∣ m:=by
     rw[hm]
     have:∀(xs:List Nat) (q:Nat),q∈xs→q ∣ bI xs:=fun xs q hq=>by
      induction xs with
      |nil=>cases hq
      | cons y xs ih =>
       rcases Bu.1 hq with rfl|h
       ·exact⟨_,rfl⟩
       ·obtain⟨k,hk⟩:=ih h
        exact⟨y*k,by simp only[bI,hk];ac_rfl⟩
     exact this _ _ (Du h)
    obtain⟨k,hk⟩:=hd
    rw[hk,BU,EX];exact h1
   ·simp only[Ca]at h;subst h;exact hok)
  simp only[nU]
  simpa using ih
theorem aTe{l:List (Nat×Nat)}(hP:aYi l):(∀ x∈l,(aHn l)%(x.1:Int)=(x.2:Int))∧2*aHn l≤(bI (l.map (·.1)):Int)∧-(bI (l.map (·.1)):Int)<2*aHn l:=by
 obtain⟨h1,h2,h3⟩:=aHo l [] 0 1 (by simpa using hP) rfl (by decide) (by simp)
 simp only[Dq]at h1 h3
 unfold aHn
 rw[h1]at h2
 simp only[h1]
 generalize(nU l 0 1).1=a at *
 have hdv:∀ x∈l,((bI (l.map (·.1)):Nat):Int)%(x.1:Int)=0:=fun x hx=>by
  have:∀(xs:List Nat) (q:Nat),q∈xs→q ∣ bI xs:=fun xs q hq=>by
   induction xs with
   |nil=>cases hq
   | cons y xs ih =>
    rcases Bu.1 hq with rfl|h
    ·exact⟨_,rfl⟩
    ·obtain⟨k,hk⟩:=ih h
     exact⟨y*k,by simp only[bI,hk];ac_rfl⟩
  exact Gy (Fc.2 (this _ _ (Du hx)))
 generalize bI (l.map (·.1))=Mm at *
 split
 ·refine⟨fun x hx=>?_,by omega,by omega⟩
  have:=h3 x hx
  rw[Int.sub_emod,hdv x hx,Int.sub_zero,Int.emod_emod_of_dvd _ (Int.dvd_refl _)]
  omega
 ·refine⟨fun x hx=>?_,by omega,by omega⟩
  have:=h3 x hx
  omega
end Go.Am
end
section
open List renaming map_map→ζ,mapM_map→ξ
open Go Go.Am Go.Proofs
namespace Go.Am
def oK(k:Nat):Int:=(k:Int)-1
theorem sJ(k:Nat):oK (k+1)=(k:Int):=by unfold oK;omega
theorem aOi:oK 0=-1:=rfl
def rmd(p x:Nat):Nat:=x%p
theorem aZv{m:List Nat}{k:Nat}(h:k<m.length):val (m.drop k)=m[k]! + 4294967296*val (m.drop (k+1)):=by
 rw[List.drop_eq_getElem_cons h,BX m k h];rfl
theorem aSz(m:List Nat):∃ L,aG m=.sl L∧L.length=m.length∧∀ i,i<m.length→L[i]? = some [.i .u32 ((m[i]! : Nat):Int)]:=⟨_,rfl,by simp,fun i hi=>by rw[Ai,Ab hi,BX m i hi];rfl⟩
set_option maxHeartbeats 4000000 in
set_option maxRecDepth 10000 in
theorem bLw[M:Mch Aa](p:Nat)(neg:Bool)(m:List Nat)(hp:0<p)(hp1:p≤2147483648)(hm:Lim m)(hl:m.length≤9223372036854775807) :
  Spec Aa 53 [.i .u64 p,.ag [.b neg,aG m]] (.i .u64 (if neg=true∧0<val m%p then p-val m%p else val m%p:Nat)):=by
 obtain⟨L,hL,hLl,hLg⟩:=aSz m
 have h1L:one (.d (.sl L))=true:=rfl
 refine bF (N:=36) Tryz.func53 ?_
 rw[hL]
 simp[-ζ,-ξ,↓KW]
 have hlw:Ag.wrap ((L.length:Int)-1)=oK m.length:=by
  rw[hLl];unfold oK;exact aU
 have hmod:∀ x:Nat,x%p<p:=fun x=>B9 x hp
 refine bK (τ:=Nat) (fun k=>k≤m.length) (fun k=>StL [(0,.d (.i .u64 p)),(3,.ptr 1 0),(5,.d (.i .u64 (rmd p (val (m.drop k)):Nat))),(6,.d (.i .i64 (oK k)))] none [.cells 31 [.d (.b neg),.d (.sl L)]]) (fun k=>k) m.length (Az _) ?_ ?_
 ·rw[List.drop_length]
  refine wkQ [1] ?_ ?_<;>simp[-ζ,upd,aR,Γ0,val,hlw,rmd]
 ·intro k hk
  cases k with
  | zero =>
   rw[aOi,FX]
   show AWP _ _ (StL [(0,_),(3,_),(5,.d (.i .u64 ((val m%p:Nat):Int))),(6,_)] none _) _
   have hr:=hmod (val m)
   generalize val m%p=r at *
   simp[-ζ,-ξ,↓KW]
   refine bC ?_
   cases neg with
   |false=>simp[-ζ,-ξ,↓KW]
   | true =>
    rcases Bf r with h0|h0
    ·subst h0
     simp[-ζ,-ξ,↓KW]
    ·have hi:(0:Int)<(r:Int):=by omega
     have hw:AA.wrap ((p:Int)-(r:Int))=((p-r:Nat):Int):=by
      rw[show(p:Int)-(r:Int)=((p-r:Nat):Int)from by omega];exact wrap_u64 (by omega) (by omega)
     simp[-ζ,-ξ,↓KW,hi,h0,hw]
  | succ k =>
   rw[sJ]
   show AWP _ _ (StL [(0,_),(3,_),(5,.d (.i .u64 ((val (m.drop (k+1))%p:Nat):Int))),(6,_)] none _) _
   have hx:m[k]! < 4294967296:=by rw[BX m k (by omega)];exact hm _ (BG ..)
   have hLk:=hLg k (by omega)
   have hLk':∀ h,L[k]'h=[.i .u32 ((m[k]! : Nat):Int)]:=fun h=>by rw[Ab h]at hLk;injection hLk
   have hv:val (m.drop k)%p=(val (m.drop (k+1))%p*4294967296+m[k]!)%p:=by
    rw[aZv (by omega)]
    rw[EL m[k]!,BV 4294967296]
    exact bYp (bDm (El _ _).symm rfl) rfl
   obtain⟨r',hr'⟩:∃ r',val (m.drop k)%p=r':=⟨_,rfl⟩
   have hr:=hmod (val (m.drop (k+1)))
   rw[hr']at hv
   generalize val (m.drop (k+1))%p=r at *
   generalize m[k]! = x at *
   have hR:=xR (r*4294967296+x) p hp
   rw[←hv]at hR
   have hk0:(0:Int)≤(k:Int):=by omega
   have hkl:k<L.length:=by omega
   have hwk:Ag.wrap (k:Int)=k:=aU
   have hwk1:Ag.wrap ((k:Int)-1)=oK k:=by unfold oK;exact aU
   have hsh:dW .shl .u64 (r:Int) 32=some (.i .u64 ((r*4294967296:Nat):Int)):=by
    simp only[dW,CB]
    rw[Aj (by decide)]
    congr 2
    rw[show(2:Int)^(min (32:Int).toNat 64)=4294967296 from by decide]
    rw[show(r:Int)*4294967296=((r*4294967296:Nat):Int)from by omega]
    exact wrap_u64 (by omega) (by omega)
   have hwx:AA.wrap (x:Int)=x:=wrap_u64 (by omega) (by omega)
   have hor:dJ .or false (.d (.i .u64 ((r*4294967296:Nat):Int))) (.d (.i .u64 (x:Int)))=some (.i .u64 ((r*4294967296+x:Nat):Int)):=by
    show some (D.i .u64 (bits .or .u64 ((r*4294967296:Nat):Int) (x:Int)))=_
    rw[bits_or_u64_nat _ _ (by omega) (by omega)]
    congr 3
    have:=Nat.shiftLeft_add_eq_or_of_lt (i:=32) (b:=x) (by omega) r
    rw[Nat.shiftLeft_eq]at this
    exact this.symm
   generalize r*4294967296=R at *
   generalize R+x=Rx at *
   simp[-ζ,-ξ,↓KW,hk0,hsh,hkl,hwk,hwk1,hLk,hLk',hwx,hor]
   refine aH hR ?_
   simp[-ζ,-ξ,↓KW,hwk1]
   refine aM k (by omega) (by omega) ?_
   show ∃ ρ,Wk _ (StL _ _ _) ρ
   rw[show rmd p (val (m.drop k))=r' from hr']
   refine wkQ [1] ?_ ?_<;>simp[-ζ,upd,aR,Γ0]
theorem aRl[M:Mch Aa](p:Nat)(z:Int)(hp:0<p)(hp1:p≤2147483648)(hz:Sz z):Spec Aa 53 [.i .u64 p,encZ z] (.i .u64 (z%(p:Int))):=by
 have h:=bLw p (decide (z<0)) (aN z.natAbs) hp hp1 (bW _) (AO hz (by decide))
 rw[←bB,cF]at h
 have e:(((if decide (z<0)=true∧0<z.natAbs%p then p-z.natAbs%p else z.natAbs%p:Nat)):Int)=z%(p:Int):=by
  simp only[BP]
  have hlt:=B9 z.natAbs hp
  by_cases hz:z<0
  ·have hzz:z=-(z.natAbs:Int):=by omega
   have hm:z%(p:Int)=(-(z.natAbs:Int))%(p:Int):=by rw[←hzz]
   have hd:=Ew z.natAbs p
   rw[hm]
   generalize z.natAbs=n at *
   rcases Bf (n%p)with h0|h0
   ·rw[Aj (by omega),h0]
    have:(p:Int) ∣ -(n:Int):=Int.dvd_neg.2 (Fc.2 (Cl h0))
    rw[Gy this];rfl
   ·rw[Ar ⟨hz,h0⟩]
    have:-(n:Int)=((p-n%p:Nat):Int)+(p:Int)*(-(n/p:Nat)-1:Int):=by
     have h2:(n:Int)=(p:Int)*((n/p:Nat):Int)+((n%p:Nat):Int):=by rw[←CC,←Ey,hd]
     rw[Int.mul_sub,D2,Int.mul_one]
     omega
    rw[this,Int.add_mul_emod_self_left]
    rw[Int.emod_eq_of_lt (by omega) (by omega)]
  ·rw[Aj (by omega)]
   have:z=(z.natAbs:Int):=by omega
   conv=>rhs;rw[this]
   rfl
 rwa [e]at h
theorem aRm[M:Mch Aa](p n:Nat)(hp:0<p)(hp1:p≤2147483648)(hn:n<2^256):Spec Aa 53 [.i .u64 p,bN n] (.i .u64 (n%p:Nat)):=by
 have h:=aRl p (n:Int) hp hp1 (by
  have:=dD (n:=n) (k:=8) (A4 hn (by decide))
  unfold Sz;simp;omega)
 rw[dC]at h
 exact h
theorem bOb[M:Mch Aa](p a:Nat)(hp:2≤p)(hp1:p≤2147483648)(ha:a<p)(h0:a≠0):Spec Aa 88 [.i .u64 p,.i .u64 a] (.tp [.i .u64 (a^(p-2)%p:Nat),.i .i64 0]):=by
 have hP:=aRs p a (p-2) (by omega) hp1 (by omega) (by omega)
 rw[bCo (by omega) (by omega)]at hP
 generalize a^(p-2)%p=r at *
 have hw:AA.wrap ((p:Int)-2)=((p-2:Nat):Int):=by
  rw[show(p:Int)-2=((p-2:Nat):Int)from by omega];exact wrap_u64 (by omega) (by omega)
 have hi:((a:Int)==0)=false:=by simp;omega
 generalize p-2=e at *
 refine bF (N:=13) Tryz.func88 ?_
 simp[-ζ,-ξ,↓KW,hi,h0,hw]
 refine aH hP ?_
 simp[-ζ,-ξ,↓KW]
 rfl
theorem bKo[M:Mch Aa](p a b:Nat)(hp:0<p)(hp1:p≤2147483648)(ha:a<p)(hb:b<p):Spec Aa 90 [.i .u64 p,.i .u64 a,.i .u64 b] (.i .u64 ((a+p-b)%p:Nat)):=by
 have hR:=xR (a+p-b) p hp
 generalize(a+p-b)%p=r at *
 have hw1:AA.wrap ((a:Int)+(p:Int))=((a+p:Nat):Int):=by rw[←Ey];exact wrap_u64 (by omega) (by omega)
 have hw2:AA.wrap (((a+p:Nat):Int)-(b:Int))=((a+p-b:Nat):Int):=by
  rw[show((a+p:Nat):Int)-(b:Int)=((a+p-b:Nat):Int)from by omega];exact wrap_u64 (by omega) (by omega)
 generalize a+p-b=x at *
 generalize a+p=y at *
 refine bF (N:=14) Tryz.func90 ?_
 simp[-ζ,-ξ,↓KW,hw1,hw2]
 refine aH hR ?_
 simp[-ζ,-ξ,↓KW]
theorem aWn[M:Mch Aa](n:Nat)(hn:n<18446744073709551616):Spec Aa 147 [.i .u64 n] (aG [n%4294967296,n/4294967296]):=by
 have hw0:BC.wrap (n:Int)=((n%4294967296:Nat):Int):=by rw[Ej];omega
 have hw1:BC.wrap ((n/4294967296:Nat):Int)=((n/4294967296:Nat):Int):=by rw[Ej];omega
 have hsh:=aDa (t:=n)
 generalize n/4294967296=hi at *
 generalize n%4294967296=lo at *
 refine bF (N:=9) Tryz.func147 ?_
 simp[-ζ,-ξ,↓KW,hw0,hw1,hsh]
 rfl
theorem nN[M:Mch Aa]{n:Nat}(hn:n<9223372036854775808):Spec Aa 82 [.i .i64 n] (bN n):=by
 have hL:=aWn n (by omega)
 have hV:=aLc false [n%4294967296,n/4294967296] (by simp)
 rw[fD (by intro x hx;simp at hx;rcases hx with rfl|rfl<;>omega)]at hV
 have hv:val [n%4294967296,n/4294967296]=n:=by simp[val];omega
 rw[hv]at hV
 have hV':Spec Aa 95 [.b false,aG [n%4294967296,n/4294967296]] (bN n):=hV
 generalize[n%4294967296,n/4294967296]=l at *
 have hw:AA.wrap (n:Int)=n:=wrap_u64 (by omega) (by omega)
 have hlt:¬(n:Int)<0:=by omega
 refine bF (N:=15) Tryz.func82 ?_
 simp[-ζ,-ξ,↓KW,hw,hlt]
 refine aH hL ?_
 simp[-ζ,-ξ,↓KW,aA,aD,aC,aE,aB]
 refine aH hV' ?_
 simp[-ζ,-ξ,↓KW,aO n,aA,aD,aC,aE,aB]
theorem bRr{n:Nat}(hn:n<4294967296):dJ .and false (.d (.i .u64 (n:Int))) (.d (.i .u64 4294967295))=some (.i .u64 (n:Int)):=by
 show some (D.i .u64 (bits .and .u64 (n:Int) 4294967295))=_
 have:=bits_and_u64_nat n 4294967295 (by omega) (by decide)
 rw[show(4294967295:Int)=((4294967295:Nat):Int)from rfl,this]
 congr 3
 exact(Nat.and_two_pow_sub_one_eq_mod n 32).trans (Cu hn)
theorem bQw[M:Mch Aa]{n:Nat}(hn:n<4294967296):Spec Aa 91 [.i .u64 n] (bN n):=by
 have h0:=nN (n:=0) (by omega)
 have h2:=nN (n:=4294967296) (by omega)
 have hM:=aOs (x:=0) (y:=4294967296) (by decide) (by decide)
 have hO:=nN (n:=n) (by omega)
 have hA:=aYe (x:=0) (y:=n) (by decide) (by omega)
 rw[Fg]at hM
 rw[AD]at hA
 have hsh:=aDa (t:=n)
 rw[C2 hn]at hsh
 have ha:=bRr hn
 have hw:Ag.wrap (n:Int)=n:=aU
 have hw0:Ag.wrap 0=0:=by decide
 refine bF (N:=16) Tryz.func91 ?_
 simp[-ζ,-ξ,↓KW,hsh,hw0]
 refine aH h0 ?_
 simp[-ζ,-ξ,↓KW,aO 0,aA,aD,aC,aE,aB]
 refine aH h2 ?_
 simp[-ζ,-ξ,↓KW,aO 4294967296,aA,aD,aC,aE,aB]
 refine aH hM ?_
 simp[-ζ,-ξ,↓KW,aO 0,aA,aD,aC,aE,aB,ha,hw]
 refine aH hO ?_
 simp[-ζ,-ξ,↓KW,aO n,aA,aD,aC,aE,aB]
 refine aH hA ?_
 simp[-ζ,-ξ,↓KW,aO n,aA,aD,aC,aE,aB]
theorem bWt[M:Mch Aa]{n:Nat}(hn:n<4294967296):Spec Aa 84 [.i .u64 n] (bN n):=by
 have h0:=nN (n:=0) (by omega)
 have h2:=nN (n:=4294967296) (by omega)
 have hM:=aOs (x:=0) (y:=4294967296) (by decide) (by decide)
 have hO:=nN (n:=n) (by omega)
 have hA:=aYe (x:=0) (y:=n) (by decide) (by omega)
 rw[Fg]at hM
 rw[AD]at hA
 have hsh:=aDa (t:=n)
 rw[C2 hn]at hsh
 have ha:=bRr hn
 have hw:Ag.wrap (n:Int)=n:=aU
 have hw0:Ag.wrap 0=0:=by decide
 refine bF (N:=16) Tryz.func84 ?_
 simp[-ζ,-ξ,↓KW,hsh,hw0]
 refine aH h0 ?_
 simp[-ζ,-ξ,↓KW,aO 0,aA,aD,aC,aE,aB]
 refine aH h2 ?_
 simp[-ζ,-ξ,↓KW,aO 4294967296,aA,aD,aC,aE,aB]
 refine aH hM ?_
 simp[-ζ,-ξ,↓KW,aO 0,aA,aD,aC,aE,aB,ha,hw]
 refine aH hO ?_
 simp[-ζ,-ξ,↓KW,aO n,aA,aD,aC,aE,aB]
 refine aH hA ?_
 simp[-ζ,-ξ,↓KW,aO n,aA,aD,aC,aE,aB]
theorem bOc[M:Mch Aa]{x y:Nat}(hx:x<2^255)(hy:y<2^255)(h0:0<y):Spec Aa 92 [bN x,bN y] (encZ ((x:Int)-y)):=by
 have hA:=aGw (x:Int) (-(y:Int)) (szN (by omega)) (rR (by simp;omega))
 rw[←Int.sub_eq_add_neg,dC]at hA
 have hny:encZ (-(y:Int))=.ag [.b true,aG (aN y)]:=by
  rw[bB,show decide (-(y:Int)<0)=true from by simp;omega]
  simp
 rw[hny]at hA
 generalize(x:Int)-(y:Int)=z at *
 refine bF (N:=13) Tryz.func92 ?_
 simp[-ζ,-ξ,↓KW,aO x,aO y,aA,aD,aC,aE,aB]
 refine aH hA ?_
 simp[-ζ,-ξ,↓KW,bB z,aA,aD,aC,aE,aB]
def eQ(T:List Int):List (Int×AV):=T.map fun n=>(n,.d (.b true))
def uI(l:List Nat):List Int:=l.map fun(p:Nat)=>(p:Int)
theorem uA(l:List Nat):∃ L,cP l=.sl L∧L.length=l.length∧∀ i,i<l.length→L[i]? = some [.i .u64 ((l[i]! : Nat):Int)]:=⟨_,rfl,by simp,fun i hi=>by rw[Ai,Ab hi,BX l i hi];rfl⟩
theorem sL(n:Int):∀ T:List Int,(eX n (eQ T)=none↔n ∉ T)∧∀ j,eX n (eQ T)=some j→(eQ T)[j]? = some (n,.d (.b true))
 |[]=>⟨by simp[eQ,eX],by simp[eQ,eX]⟩
 | x::T=>by
  obtain⟨h1,h2⟩:=sL n T
  show(eX n ((x,_)::eQ T)=none↔_)∧∀ j,eX n ((x,_)::eQ T)=some j→((x,AV.d (.b true))::eQ T)[j]? = _
  unfold eX
  by_cases h:x=n
  ·subst h;simp
  ·have hn:¬n=x:=fun e=>h e.symm
   simp only[h,if_false,Option.map_eq_none_iff,Bu,not_or,hn,not_false_eq_true,true_and]
   refine⟨h1,fun j hj=>?_⟩
   obtain⟨i,hi,rfl⟩:=Ae.1 hj
   simpa using h2 i hi
theorem aDy(P:Program)(t kt vt:TypeId)(k:IntKind)(T:List Int)(n:Int)(ht:tmp P t=some (kt,vt))(hk:fB P kt=some k)(hz:tz P vt=some (.bool false)):tP P t k (eQ T) (.d (.i k n)) false=some (.d (.b (decide (n∈T)))):=by
 obtain⟨h1,h2⟩:=sL n T
 unfold tP
 simp only[ht,Option.bind_some,hk,and_self,if_true,aSi]
 cases hm:eX n (eQ T)with
 | none =>
  have:=h1.1 hm
  simp[hz,this];rfl
 | some j =>
  have hj:=h2 j hm
  have:n∈T:=BW fun h=>by rw[h1.2 h]at hm;cases hm
  simp[hj,this]
theorem vJ(n:Int)(T:List Int)(h:n ∉ T):aKr (eQ T) n (.d (.b true))=eQ (T++[n]):=by
 unfold aKr
 rw[(sL n T).1.2 h]
 simp[eQ]
theorem qI{H H':Hp}{ρ:Nat→Nat}{k:IntKind}(T:List Int):pW H H' ρ (.map k (eQ T)) (.map k (eQ T))↔True:=⟨fun _=>trivial,fun _=>bAe fun x hx=>by
 obtain⟨n,_,rfl⟩:=AZ.1 hx
 simp⟩
theorem aFm{H H':Hp}{ρ:Nat→Nat}{k:IntKind}:pW H H' ρ (.map k []) (.map k [])↔True:=⟨fun _=>trivial,fun _=>⟨rfl,rfl,fun _ _ _ h=>by simp at h⟩⟩
theorem nJ{l:List Nat}{p:Nat}:((p:Int)∈uI l)↔p∈l:=by
 unfold uI
 rw[AZ]
 constructor
 ·rintro⟨q,hq,e⟩
  have:q=p:=by omega
  subst this;exact hq
 ·exact fun h=>⟨p,h,rfl⟩
theorem nH{α:Type}{T:List α}{p:α}(h:T.Nodup)(hp:p ∉ T):(T++[p]).Nodup:=by
 rw[D4]
 exact⟨h,by simp,fun a ha b hb e=>by simp at hb;subst hb;exact hp (e ▸ ha)⟩
theorem bDp:tmp Aa 148=some (51,4):=by kernel_rfl
theorem bDq:tmp Aa 125=some (3,4):=by kernel_rfl
theorem aOx(T:List Int)(n:Int):tP Aa 148 .u64 (eQ T) (.d (.i .u64 n)) false=some (.d (.b (decide (n∈T)))):=aDy _ _ _ _ _ _ _ bDp (by kernel_rfl) (by kernel_rfl)
theorem bUw(T:List Int)(n:Int):tP Aa 125 .i64 (eQ T) (.d (.i .i64 n)) false=some (.d (.b (decide (n∈T)))):=aDy _ _ _ _ _ _ _ bDq (by kernel_rfl) (by kernel_rfl)
theorem xY{P:Program}(H:Hp)(t:TypeId)(id:Nat)(x:AV)(v:Option AV):pH P H t (.mp id) x v=match H id with
  | some (.map k es)=>(tmp P t).bind fun p=>match x with
   |.d (.i k' n)=>if k'=k∧fB P p.1=some k then some (id,.map k (match v with|some v=>aKr es n v|none=>aWk es n))else none
   |_=>none
  |_=>none:=rfl
theorem fZ{P:Program}{H:Hp}{t:TypeId}{id:Nat}{x:AV}{ok:Bool}:aDz P H t (.mp id) x ok=match H id with|some (.map k es)=>tP P t k es x ok|_=>none:=rfl
set_option maxHeartbeats 4000000 in
set_option maxRecDepth 10000 in
theorem aPr[M:Mch Aa](l:List Nat)(hl:l.length≤1000000)(hP:∀ p∈l,Spec Aa 52 [.i .u64 (p:Nat)] (.b true)):Spec Aa 70 [cP l] (.b (decide l.Nodup)):=by
 obtain⟨L,hL,hLl,hLg⟩:=uA l
 rw[hL]
 refine bF (N:=24) Tryz.func70 ?_
 simp[-ζ,-ξ,↓KW]
 refine bK (τ:=Nat) (fun i=>i≤l.length∧(l.take i).Nodup) (fun i=>StL [(3,.mp 1),(7,.d (.sl L)),(8,.d (.i .i64 L.length)),(9,.d (.i .i64 i))] none [.map .u64 (eQ (uI (l.take i)))]) (fun i=>l.length-i) 0 ⟨A5 _,by simp⟩ ?_ ?_
 ·rw[Bw]
  refine wkQ [1] ?_ ?_<;>simp[-ζ,upd,aR,Γ0,show eQ (uI [])=[]from rfl,aFm]
 ·rintro i ⟨hi,hn⟩
  by_cases hlt:i<l.length
  ·have hLi:=hLg i hlt
   have hLi':∀ h,L[i]'h=[.i .u64 ((l[i]! : Nat):Int)]:=fun h=>by rw[Ab h]at hLi;injection hLi
   have hiL:i<L.length:=by omega
   generalize hT:l.take i=T at *
   generalize hp:l[i]! = p at *
   have hPp:Spec Aa 52 [.i .u64 (p:Nat)] (.b true):=hP p (by rw[←hp,BX l i hlt];exact BG ..)
   have hge:l[i]? = some p:=by rw[←hp,BX l i hlt];exact Ab hlt
   have hT1:l.take (i+1)=T++[p]:=by rw[A3,hge,hT];rfl
   by_cases hm:p∈T
   ·have hdl:decide l.Nodup=false:=by
     simp only[Fb]
     intro hnd
     have:(l.take (i+1)).Nodup:=Ep (C7 ..) hnd
     rw[hT1,D4]at this
     exact this.2.2 p hm p (by simp) rfl
    rw[hdl]
    have hlk:=aOx (uI T) p
    rw[BK (nJ.2 hm)]at hlk
    simp[-ζ,-ξ,↓KW,hiL,hLi,hLi',fZ,hlk]
    exact bC (by simp[-ζ,-ξ,↓KW])
   ·have hlk:=aOx (uI T) p
    rw[Bj (fun h=>hm (nJ.1 h))]at hlk
    have hmp:=vJ (p:Int) (uI T) (fun h=>hm (nJ.1 h))
    have hu:uI T++[(p:Int)]=uI (T++[p]):=by simp[uI]
    rw[hu]at hmp
    have hw1:Ag.wrap ((i:Int)+1)=((i+1:Nat):Int):=aU
    simp[-ζ,-ξ,↓KW,hiL,hLi,hLi',fZ,hlk]
    refine aH hPp ?_
    simp[-ζ,-ξ,↓KW,xY,hmp,hw1]
    refine aM (i+1) ⟨by omega,by rw[hT1];exact nH hn hm⟩ (by show l.length-(i+1)<l.length-i;omega) ?_
    show ∃ ρ,Wk _ (StL _ _ _) ρ
    rw[hT1]
    refine wkQ [1] ?_ ?_<;>simp[-ζ,upd,aR,Γ0,qI]
  ·have hiL:¬i<L.length:=by omega
   have hdl:decide l.Nodup=true:=by
    rw[As (by omega)]at hn
    simpa using hn
   rw[hdl]
   simp[-ζ,-ξ,↓KW,hiL]
   exact bC (by simp[-ζ,-ξ,↓KW])
def oN(l:List (Nat×Nat)):D:=.sl (l.map fun x=>[.i .u64 (x.1:Int),.i .u64 (x.2:Int)])
theorem aHh(l:List (Nat×Nat)):∃ L,oN l=.sl L∧L.length=l.length∧∀(i:Nat) (x:Nat×Nat),l[i]? = some x→L[i]? = some [D.i .u64 (x.1:Int),D.i .u64 (x.2:Int)]:=⟨_,rfl,by simp,fun i x hx=>by rw[Ai,hx];rfl⟩
def gY(l:List (Nat×Nat×Nat)):D:=.sl (l.map fun x=>[.i .i64 (x.1:Int),.i .u64 (x.2.1:Int),.i .u64 (x.2.2:Int)])
theorem kW(l:List (Nat×Nat×Nat)):∃ L,gY l=.sl L∧L.length=l.length∧∀(i:Nat) (x:Nat×Nat×Nat),l[i]? = some x→L[i]? = some [D.i .i64 (x.1:Int),D.i .u64 (x.2.1:Int),D.i .u64 (x.2.2:Int)]:=⟨_,rfl,by simp,fun i x hx=>by rw[Ai,hx];rfl⟩
theorem cD{L:List (List D)}{i:Nat}{x:List D}(h:L[i]? = some x):∀ h',L[i]'h'=x:=fun h'=>by rw[Ab h']at h;injection h
def prR(l:List (Nat×Nat)):List Nat:=l.map (·.1)
def okR(l:List (Nat×Nat)):Prop:=(prR l).Nodup∧∀ x∈l,x.2<x.1
theorem zI(l:List (Nat×Nat))(i:Nat):prR (l.take i)=(prR l).take i:=by simp[prR]
set_option maxHeartbeats 4000000 in
set_option maxRecDepth 10000 in
theorem bGu[M:Mch Aa](l:List (Nat×Nat))(b:Bool)(hb:b=true↔okR l)(hl:l.length≤1000000)(hP:∀ x∈l,Spec Aa 52 [.i .u64 (x.1:Nat)] (.b true)):Spec Aa 86 [oN l] (.b b):=by
 obtain⟨L,hL,hLl,hLg⟩:=aHh l
 rw[hL]
 refine bF (N:=34) Tryz.func86 ?_
 simp[-ζ,-ξ,↓KW]
 refine bK (τ:=Nat) (fun i=>i≤l.length∧okR (l.take i)) (fun i=>StL [(3,.mp 1),(7,.d (.sl L)),(8,.d (.i .i64 L.length)),(9,.d (.i .i64 i))] none [.map .u64 (eQ (uI (prR (l.take i))))]) (fun i=>l.length-i) 0 ⟨A5 _,by simp[okR,prR]⟩ ?_ ?_
 ·rw[Bw]
  refine wkQ [1] ?_ ?_<;>simp[-ζ,upd,aR,Γ0,show eQ (uI (prR []))=[]from rfl,aFm]
 ·rintro i ⟨hi,hn⟩
  by_cases hlt:i<l.length
  ·obtain⟨⟨p,v⟩,hge⟩:∃ x,l[i]? = some x:=⟨_,Ab hlt⟩
   have hmem:=Al hge
   have hLi:=hLg i _ hge
   simp only at hLi
   have hLi':=cD hLi
   have hiL:i<L.length:=by omega
   have hT1:l.take (i+1)=l.take i++[(p,v)]:=by rw[A3,hge];rfl
   have hall:okR l→okR (l.take (i+1)):=fun h=>⟨by rw[zI];exact Ep (C7 ..) h.1,fun x hx=>h.2 x (Bn hx)⟩
   have hPp:Spec Aa 52 [.i .u64 (p:Nat)] (.b true):=hP _ hmem
   have hw1:Ag.wrap ((i:Int)+1)=((i+1:Nat):Int):=aU
   have hpT:prR (l.take (i+1))=prR (l.take i)++[p]:=by rw[hT1];simp[prR]
   generalize hTT:prR (l.take i)=T at *
   have hlk:=aOx (uI T) p
   by_cases hm:p∈T
   ·have hbf:b=false:=by
     cases b with
     |false=>rfl
     | true =>
      have h1:=(hall (hb.1 rfl)).1
      rw[hpT,D4]at h1
      exact absurd rfl (h1.2.2 p hm p (by simp))
    subst hbf
    rw[BK (nJ.2 hm)]at hlk
    simp[-ζ,-ξ,↓KW,hiL,hLi,hLi',fZ,hlk]
    exact bC (by simp[-ζ,-ξ,↓KW])
   ·rw[Bj (fun h=>hm (nJ.1 h))]at hlk
    have hmp:=vJ (p:Int) (uI T) (fun h=>hm (nJ.1 h))
    have hu:uI T++[(p:Int)]=uI (T++[p]):=by simp[uI]
    rw[hu]at hmp
    by_cases hv:v<p
    ·have hpv:¬(p:Int)≤(v:Int):=by omega
     have hpv':¬p≤v:=by omega
     have hokn:okR (l.take (i+1)):=⟨by rw[hpT];exact nH (hTT ▸ hn.1) hm,fun x hx=>by
      rw[hT1]at hx
      rcases BZ.1 hx with h|h
      ·exact hn.2 x h
      ·simp only[Ca]at h;subst h;exact hv⟩
     simp[-ζ,-ξ,↓KW,hiL,hLi,hLi',fZ,hlk]
     refine aH hPp ?_
     simp[-ζ,-ξ,↓KW,hpv,hpv',xY,hmp,hw1]
     refine aM (i+1) ⟨by omega,hokn⟩ (by show l.length-(i+1)<l.length-i;omega) ?_
     show ∃ ρ,Wk _ (StL _ _ _) ρ
     rw[hpT]
     refine wkQ [1] ?_ ?_<;>simp[-ζ,upd,aR,Γ0,qI]
    ·have hpv:(p:Int)≤(v:Int):=by omega
     have hpv':p≤v:=by omega
     have hbf:b=false:=by
      cases b with
      |false=>rfl
      |true=>exact absurd ((hb.1 rfl).2 _ hmem) (by simpa using hpv')
     subst hbf
     simp[-ζ,-ξ,↓KW,hiL,hLi,hLi',fZ,hlk]
     refine aH hPp ?_
     simp[-ζ,-ξ,↓KW,hpv,hpv']
     exact bC (by simp[-ζ,-ξ,↓KW])
  ·have hiL:¬i<L.length:=by omega
   have hbt:b=true:=by
    rw[As (by omega)]at hn
    exact hb.2 hn
   subst hbt
   simp[-ζ,-ξ,↓KW,hiL]
   exact bC (by simp[-ζ,-ξ,↓KW])
def wkL(l:List (Nat×Nat×Nat)):List Nat:=l.map (·.1)
def pmL(l:List (Nat×Nat×Nat)):List Nat:=l.map (·.2.1)
def aKd(l:List (Nat×Nat×Nat)):Prop:=(wkL l).Nodup∧∀ x∈l,x.2.2<x.2.1
theorem aZg(l:List (Nat×Nat×Nat))(i:Nat):wkL (l.take i)=(wkL l).take i:=by simp[wkL]
theorem yW(c:List Nat)(k:IntKind)(W:List Int):gU c (.map k (eQ W))=.map k (eQ W):=by
 simp[gU,eQ]
 exact fun _ _=>rfl
theorem bVn{H:Hp}{id:Nat}{e:TypeId}{T:List Nat}{n:Nat}(hn:T.length=n)(hH:H id=some (.cells e ((dU T).map AV.d))):frz H 8 (.own id 0 n 1)=some (cP T):=by
 have e1:=jP hn
 have e2:=mV hn
 have e3:=eK T
 rw[hn]at e3
 simp[-ζ,-ξ,aAf,hH,e1,e2,e3,cP]
theorem bFg{H:Hp}{x:AV}{d:D}(h:frz H 8 x=some d):cQ H [x]=some [d]:=by simp[cQ,h]
def ppS(L:List (List D))(n i:Nat)(W:List Int):List Nat→St
 |[]=>StL [(3,.mp 1),(4,.nil),(8,.d (.sl L)),(9,.d (.i .i64 n)),(10,.d (.i .i64 i))] none [.map .i64 (eQ W)]
 |x::T=>StL [(3,.mp 1),(4,.own 2 0 (T.length+1) 1),(8,.d (.sl L)),(9,.d (.i .i64 n)),(10,.d (.i .i64 i))] none [.map .i64 (eQ W),.cells 51 ((dU (x::T)).map .d)]
set_option maxHeartbeats 4000000 in
set_option maxRecDepth 10000 in
theorem aOg[M:Mch Aa](l:List (Nat×Nat×Nat))(b:Bool)(hb:b=true↔aKd l∧(pmL l).Nodup)(hl:l.length≤1000000)(hP:∀ x∈l,Spec Aa 52 [.i .u64 (x.2.1:Nat)] (.b true)):Spec Aa 42 [gY l] (.b b):=by
 obtain⟨L,hL,hLl,hLg⟩:=kW l
 have hD:=aPr (pmL l) (by simp[pmL];omega) (fun p hp=>by
  obtain⟨x,hx,rfl⟩:=AZ.1 hp
  exact hP x hx)
 rw[hL]
 refine bF (N:=39) Tryz.func42 ?_
 simp[-ζ,-ξ,↓KW]
 refine bK (τ:=Nat) (fun i=>i≤l.length∧aKd (l.take i)) (fun i=>ppS L L.length i (uI (wkL (l.take i))) (pmL (l.take i))) (fun i=>l.length-i) 0 ⟨A5 _,by simp[aKd,wkL]⟩ ?_ ?_
 ·rw[Bw]
  show ∃ ρ,Wk _ (ppS _ _ _ [] []) ρ
  unfold ppS
  refine wkQ [1] ?_ ?_<;>simp[-ζ,upd,aR,Γ0,show eQ []=[]from rfl,aFm]
 ·rintro i ⟨hi,hn⟩
  by_cases hlt:i<l.length
  ·obtain⟨⟨w,p,v⟩,hge⟩:∃ x,l[i]? = some x:=⟨_,Ab hlt⟩
   have hmem:=Al hge
   have hLi:=hLg i _ hge
   simp only at hLi
   have hLi':=cD hLi
   have hiL:i<L.length:=by omega
   have hT1:l.take (i+1)=l.take i++[(w,p,v)]:=by rw[A3,hge];rfl
   have hall:aKd l→aKd (l.take (i+1)):=fun h=>⟨by rw[aZg];exact Ep (C7 ..) h.1,fun x hx=>h.2 x (Bn hx)⟩
   have hw1:Ag.wrap ((i:Int)+1)=((i+1:Nat):Int):=aU
   have hwT:wkL (l.take (i+1))=wkL (l.take i)++[w]:=by rw[hT1];simp[wkL]
   have hpT:pmL (l.take (i+1))=pmL (l.take i)++[p]:=by rw[hT1];simp[pmL]
   have hPl:(pmL (l.take i)).length=i:=by simp[pmL];omega
   generalize hTT:wkL (l.take i)=T at *
   generalize pmL (l.take i)=PT at *
   have hlk:=bUw (uI T) w
   by_cases hm:w∈T
   ·have hbf:b=false:=by
     cases b with
     |false=>rfl
     | true =>
      have h1:=(hall (hb.1 rfl).1).1
      rw[hwT,D4]at h1
      exact absurd rfl (h1.2.2 w hm w (by simp))
    subst hbf
    rw[BK (nJ.2 hm)]at hlk
    cases PT with
    | nil =>
     simp[-ζ,-ξ,↓KW,ppS,hiL,hLi,hLi',fZ,hlk]
     exact bC (by simp[-ζ,-ξ,↓KW])
    | cons x PT =>
     simp[-ζ,-ξ,↓KW,ppS,hiL,hLi,hLi',fZ,hlk]
     exact bC (by simp[-ζ,-ξ,↓KW])
   ·rw[Bj (fun h=>hm (nJ.1 h))]at hlk
    have hmp:=vJ (w:Int) (uI T) (fun h=>hm (nJ.1 h))
    have hu:uI T++[(w:Int)]=uI (T++[w]):=by simp[uI]
    rw[hu]at hmp
    by_cases hv:v<p
    ·have hpv:¬(p:Int)≤(v:Int):=by omega
     have hpv':¬p≤v:=by omega
     have hokn:aKd (l.take (i+1)):=⟨by rw[hwT];exact nH (hTT ▸ hn.1) hm,fun x hx=>by
      rw[hT1]at hx
      rcases BZ.1 hx with h|h
      ·exact hn.2 x h
      ·simp only[Ca]at h;subst h;exact hv⟩
     cases PT with
     | nil =>
      have hm1:(1:Nat)≤maxLen:=bT (by decide)
      simp[-ζ,-ξ,↓KW,ppS,hiL,hLi,hLi',fZ,hlk,hpv,hpv',xY,hmp,hw1,hm1]
      refine aM (i+1) ⟨by omega,hokn⟩ (by show l.length-(i+1)<l.length-i;omega) ?_
      show ∃ ρ,Wk _ (ppS _ _ _ _ _) ρ
      rw[hwT,hpT]
      show ∃ ρ,Wk _ (ppS _ _ _ _ (p::[])) ρ
      unfold ppS
      refine wkQ [1,4] ?_ ?_<;>simp[-ζ,upd,aR,Γ0,Bl,bO,jK,jT,qI,yW]
     | cons x PT =>
      have hbb:=dX (n:=PT.length+1) (by simp at hPl;omega)
      simp[-ζ,-ξ,↓KW,ppS,hiL,hLi,hLi',fZ,hlk,hpv,hpv',xY,hmp,hw1,eK,hbb,bT]
      refine aM (i+1) ⟨by omega,hokn⟩ (by show l.length-(i+1)<l.length-i;omega) ?_
      show ∃ ρ,Wk _ (ppS _ _ _ _ _) ρ
      rw[hwT,hpT]
      show ∃ ρ,Wk _ (ppS _ _ _ _ (x::(PT++[p]))) ρ
      unfold ppS
      refine wkQ [1,5] ?_ ?_<;>simp[-ζ,upd,aR,Γ0,Bl,bO,jK,jT,qI,yW]
    ·have hpv:(p:Int)≤(v:Int):=by omega
     have hpv':p≤v:=by omega
     have hbf:b=false:=by
      cases b with
      |false=>rfl
      |true=>exact absurd ((hb.1 rfl).1.2 _ hmem) (by simpa using hpv')
     subst hbf
     cases PT with
     | nil =>
      simp[-ζ,-ξ,↓KW,ppS,hiL,hLi,hLi',fZ,hlk,hpv,hpv']
      exact bC (by simp[-ζ,-ξ,↓KW])
     | cons x PT =>
      simp[-ζ,-ξ,↓KW,ppS,hiL,hLi,hLi',fZ,hlk,hpv,hpv']
      exact bC (by simp[-ζ,-ξ,↓KW])
  ·have hiL:¬i<L.length:=by omega
   rw[As (show l.length≤i by omega)]at hn ⊢
   have hbe:b=decide (pmL l).Nodup:=by
    cases b with
    |false=>symm;rw[Fb];exact fun h=>by have:=hb.2 ⟨hn,h⟩;cases this
    |true=>symm;rw[BP];exact(hb.1 rfl).2
   rw[hbe]
   generalize decide (pmL l).Nodup=bb at *
   generalize hPT:pmL l=PT at *
   cases PT with
   | nil =>
    simp[-ζ,-ξ,↓KW,ppS,hiL]
    refine bC ?_
    simp[-ζ,-ξ,↓KW]
    refine aH hD ?_
    simp[-ζ,-ξ,↓KW]
   | cons x PT =>
    simp[-ζ,-ξ,↓KW,ppS,hiL]
    refine bC ?_
    simp[-ζ,-ξ,↓KW]
    refine bJ (ds:=[cP (x::PT)]) ?_ hD ?_
    ·exact bFg (bVn (T:=x::PT) rfl rfl)
    simp[-ζ,-ξ,↓KW]
theorem bNa{P:Program}(f:FuncId)(x:Operand)(Γ:Nat→AV)(n:Nat):nev P (.makeFunc (.func f) #[x] #[]) Γ n=dB (match oev Γ x with|.d d=>some (.d (.fm f d))|_=>none):=by
 show(match[oev Γ x]with|[.d d]=>dB (some (AV.d (.fm f d)))|_=>none)=_
 cases oev Γ x<;>rfl
theorem aAy(f:FuncId)(d:D):dT (.d (.fm f d))=none:=rfl
theorem aAz{P:Program}[M:Mch P](x:AV)(avs:List AV)(H:Hp)(k:List AV→D→Prop)(d:Dm k):aTo P none x avs H k d=aTq P x avs H k .mk:=rfl
theorem wR{P:Program}[M:Mch P]{f:FuncId}{x:D}{avs:List AV}{H:Hp}{k:List AV→D→Prop}{d:Dm k}{ds:List D}{r:D}(h1:cQ H (.d x::avs)=some ds)(h2:Spec P f ds r)(h3:k (.d x::avs) r):aTq P (.d (.fm f x)) avs H k d:=⟨ds,r,h1,h2,h3⟩
theorem qO:∀{l:List Nat},(∀ q∈l,0<q)→0<bI l
 |[],_=>by simp[bI]
 |p::l,h=>E7 (h p (AH ..)) (qO fun q hq=>h q (AE _ hq))
theorem mD:∀{l:List Nat},(∀ q∈l,0<q)→∀ i,bI (l.take i)≤bI l
 |[],_,i=>by simp
 | p::l,h,0=>by
  rw[Bw];exact qO h
 | p::l,h,i+1=>by
  rw[List.take_succ_cons]
  exact Cb p (mD (fun q hq=>h q (AE _ hq)) i)
theorem tf0:bAb Aa 76 0=some (0,false,1):=by kernel_rfl
theorem tf1:bAb Aa 76 1=some (1,false,1):=by kernel_rfl
theorem aEk(p v:Nat):∀(T:List (Nat×Nat)) (a m:Nat),nU (T++[(p,v)]) a m=((nU T a m).1+(nU T a m).2*rI p v (nU T a m).1 (nU T a m).2,(nU T a m).2*p)
 |[],a,m=>rfl
 | (q,w)::T,a,m=>by
  simp only[Ch,nU]
  exact aEk p v T _ _
theorem bWb[M:Mch Aa](l:List (Nat×Nat))(i:Nat)(p v:Nat)(h:l[i]? = some (p,v))(hl:l.length≤1000000):Spec Aa 87 [oN l,.i .i64 i] (.ag [.i .u64 p,.i .u64 v]):=by
 obtain⟨L,hL,hLl,hLg⟩:=aHh l
 have hLi:=hLg i _ h
 simp only at hLi
 have hLi':=cD hLi
 have hlt:=(Aq.1 h).1
 have hiL:i<L.length:=by omega
 have hw0:Ag.wrap (i:Int)=i:=aU
 rw[hL]
 refine bF (N:=9) Tryz.func87 ?_
 simp[-ζ,-ξ,↓KW,hiL,hLi,hLi',hw0]
set_option maxHeartbeats 4000000 in
set_option maxRecDepth 10000 in
theorem aLu[M:Mch Aa](l:List (Nat×Nat))(hR:aYi l)(hl:l.length≤1000)(hB:bI (prR l)<2^250)(hp31:∀ x∈l,x.1<2147483648)(hP:∀ x∈l,Spec Aa 52 [.i .u64 (x.1:Nat)] (.b true)) :
  Spec Aa 46 [oN l] (.tp [encZ (aHn l),.i .i64 0]):=by
 have hV:=bGu l true ⟨fun _=>⟨hR.nd,hR.lt⟩,fun _=>rfl⟩ (by omega) hP
 have hat:=fun(i p v:Nat) (h:l[i]? = some (p,v))=>bWb l i p v h (by omega)
 obtain⟨L,hL,hLl,hLg⟩:=aHh l
 rw[hL]at hV hat ⊢
 have h0:=nN (n:=0) (by omega)
 have h1:=nN (n:=1) (by omega)
 refine bF (N:=72) Tryz.func46 ?_
 simp[-ζ,-ξ,↓KW]
 refine aH hV ?_
 simp[-ζ,-ξ,↓KW]
 refine aH h0 ?_
 simp[-ζ,-ξ,↓KW,aO 0,aA,aD,aC,aE,aB]
 refine aH h1 ?_
 simp[-ζ,-ξ,↓KW,↓aL,↓aF,↓aJ,↓aK,aO 1,aA,aD,aC,aE,aB]
 simp[-ζ,-ξ,↓KW,↓aL,↓aF,↓aJ,↓aK,bNa]
 obtain⟨st,hst⟩:∃ st:Nat→Nat×Nat,∀ i,st i=nU (l.take i) 0 1:=⟨fun i=>nU (l.take i) 0 1,fun i=>rfl⟩
 have hinv:∀ i,i≤l.length→(st i).2=bI (prR (l.take i))∧(st i).1<(st i).2∧(st i).2<2^250:=fun i hi=>by
  have hPT:aYi (l.take i):=⟨fun x hx=>hR.pr x (Bn hx),fun x hx=>hR.lt x (Bn hx),by rw[List.map_take];exact Ep (C7 ..) hR.nd⟩
  obtain⟨k1,k2,_⟩:=aHo (l.take i) [] 0 1 (by simpa using hPT) rfl (by decide) (by simp)
  rw[←hst i]at k1 k2
  refine⟨by simpa[prR]using k1,k2,?_⟩
  rw[k1]
  refine Bo ?_ hB
  rw[Dq]
  show bI (prR (l.take i))≤_
  rw[zI]
  exact mD (fun q hq=>by
   obtain⟨x,hx,rfl⟩:=AZ.1 hq
   have:=(hR.pr x hx).1;omega) i
 have hmod:∀ i p v,l[i]? = some (p,v)→(st i).2%p≠0:=fun i p v hge hz=>by
  have hxm:=Al hge
  have hlt:=(Aq.1 hge).1
  have hpr:PrN p:=hR.pr _ hxm
  have hT1:l.take (i+1)=l.take i++[(p,v)]:=by rw[A3,hge];rfl
  have hnd:(prR (l.take (i+1))).Nodup:=by rw[zI];exact Ep (C7 ..) hR.nd
  rw[hT1]at hnd
  have hpn:p ∉ prR (l.take i):=fun h=>by
   have e:prR (l.take i++[(p,v)])=prR (l.take i)++[p]:=by simp[prR]
   rw[e,D4]at hnd
   exact hnd.2.2 p h p (by simp) rfl
  have hcop:EJ p (st i).2:=by
   rw[(hinv i (by omega)).1]
   refine aAu hpr (fun q hq=>?_) hpn
   obtain⟨x,hx,rfl⟩:=AZ.1 hq
   exact hR.pr x (Bn hx)
  have:=Ga hcop (Cl hz)
  have:=hpr.1
  omega
 refine bK (τ:=Nat) (fun i=>i≤l.length) (fun i=>StL [(2,.ptr 1 0),(4,.ptr 2 0),(5,.ptr 3 0),(6,.d (.fm 87 (.sl L))),(22,.d (.i .i64 L.length)),(23,.d (.i .i64 i))] none [.cells 31 [.d (.b false),.nil],.cells 31 [.d (.b false),.d (aG (aN (st i).1))],.cells 31 [.d (.b false),.d (aG (aN (st i).2))]]) (fun i=>l.length-i) 0 (A5 _) ?_ ?_
 ·rw[hst,Bw]
  refine wkQ [1,2,3] ?_ ?_<;>simp[-ζ,upd,aR,Γ0,nU]
 ·intro i hi
  by_cases hlt:i<l.length
  ·obtain⟨⟨p,v⟩,hge⟩:∃ x,l[i]? = some x:=⟨_,Ab hlt⟩
   have hA:=hat i p v hge
   have hiL:i<L.length:=by omega
   have hxm:=Al hge
   have hpr:PrN p:=hR.pr _ hxm
   have hvp:v<p:=hR.lt _ hxm
   have hp31':p<2147483648:=hp31 _ hxm
   have hp2:=hpr.1
   have hT1:l.take (i+1)=l.take i++[(p,v)]:=by rw[A3,hge];rfl
   have hst1:st (i+1)=((st i).1+(st i).2*rI p v (st i).1 (st i).2,(st i).2*p):=by rw[hst,hst,hT1];exact aEk p v _ 0 1
   obtain⟨g1,g2,g3⟩:=hinv i hi
   obtain⟨g4,g5,g6⟩:=hinv (i+1) hlt
   rw[hst1]at g4 g5 g6
   simp only at g4 g5 g6
   have hmp:(st i).2%p≠0:=hmod i p v hge
   have hm1:=B9 (st i).2 (show 0<p by omega)
   have ha1:=B9 (st i).1 (show 0<p by omega)
   have hRm:=aRm p (st i).2 (by omega) (by omega) (by omega)
   have hRa:=aRm p (st i).1 (by omega) (by omega) (by omega)
   have hI:=bOb p ((st i).2%p) hp2 (by omega) hm1 hmp
   have hSb:=bKo p v ((st i).1%p) (by omega) (by omega) hvp ha1
   have hs1:=B9 (v+p-(st i).1%p) (show 0<p by omega)
   have hi1:=B9 (((st i).2%p)^(p-2)) (show 0<p by omega)
   have hMl:=xW p ((v+p-(st i).1%p)%p) (((st i).2%p)^(p-2)%p) (by omega) (Bo (Bg (ES (FO hs1 hp31')) (ES (FO hi1 hp31'))) (by decide))
   have hct:(v+p-(st i).1%p)%p*(((st i).2%p)^(p-2)%p)%p=rI p v (st i).1 (st i).2:=rfl
   rw[hct]at hMl
   have htl:rI p v (st i).1 (st i).2<p:=aTf (by omega)
   have hWt:=bQw (n:=rI p v (st i).1 (st i).2) (by omega)
   have hWp:=bQw (n:=p) (by omega)
   have hMt:=aOs (x:=(st i).2) (y:=rI p v (st i).1 (st i).2) (by omega) (by omega)
   have hMp:=aOs (x:=(st i).2) (y:=p) (by omega) (by omega)
   have hmt2:(st i).2*rI p v (st i).1 (st i).2≤(st i).2*p:=Cb _ (ES htl)
   have hAd:=aYe (x:=(st i).1) (y:=(st i).2*rI p v (st i).1 (st i).2) (by omega) (by omega)
   have hw1:Ag.wrap ((i:Int)+1)=((i+1:Nat):Int):=aU
   have hn1:(st (i+1)).1=(st i).1+(st i).2*rI p v (st i).1 (st i).2:=by rw[hst1]
   have hn2:(st (i+1)).2=(st i).2*p:=by rw[hst1]
   rw[←hn1]at hAd
   rw[←hn2]at hMp
   generalize rI p v (st i).1 (st i).2=t at *
   generalize((st i).2%p)^(p-2)%p=iv at *
   generalize(v+p-(st i).1%p)%p=sv at *
   generalize(st i).2*t=mt at *
   generalize(st i).1%p=ap at *
   generalize(st i).2%p=mp at *
   generalize(st i).1=a at *
   generalize(st i).2=m at *
   obtain⟨a',ha'⟩:∃ a',(st (i+1)).1=a':=⟨_,rfl⟩
   obtain⟨m',hm'⟩:∃ m',(st (i+1)).2=m':=⟨_,rfl⟩
   rw[ha']at hAd
   rw[hm']at hMp
   simp[-ζ,-ξ,↓KW,↓aL,↓aF,↓aJ,↓aK,hiL,aAy,aAz]
   refine wR (ds:=[.sl L,.i .i64 i]) (by rfl) hA ?_
   simp[-ζ,-ξ,↓KW,↓aL,↓aF,↓aJ,↓aK,aAy,aAz,tf0,tf1]
   refine wR (ds:=[.sl L,.i .i64 i]) (by rfl) hA ?_
   simp[-ζ,-ξ,↓KW,↓aL,↓aF,↓aJ,↓aK,tf0,tf1,aA,aD,aC,aE,aB]
   refine aH hRm ?_
   simp[-ζ,-ξ,↓KW,↓aL,↓aF,↓aJ,↓aK,aA,aD,aC,aE,aB]
   refine aH hI ?_
   simp[-ζ,-ξ,↓KW,↓aL,↓aF,↓aJ,↓aK,aA,aD,aC,aE,aB]
   refine aH hRa ?_
   simp[-ζ,-ξ,↓KW,↓aL,↓aF,↓aJ,↓aK,aA,aD,aC,aE,aB]
   refine aH hSb ?_
   simp[-ζ,-ξ,↓KW,↓aL,↓aF,↓aJ,↓aK,aA,aD,aC,aE,aB]
   refine aH hMl ?_
   simp[-ζ,-ξ,↓KW,↓aL,↓aF,↓aJ,↓aK,aA,aD,aC,aE,aB]
   refine aH hWt ?_
   simp[-ζ,-ξ,↓KW,↓aL,↓aF,↓aJ,↓aK,aO t,aA,aD,aC,aE,aB]
   refine aH hMt ?_
   simp[-ζ,-ξ,↓KW,↓aL,↓aF,↓aJ,↓aK,aO mt,aA,aD,aC,aE,aB]
   refine aH hAd ?_
   simp[-ζ,-ξ,↓KW,↓aL,↓aF,↓aJ,↓aK,aO a',aA,aD,aC,aE,aB]
   refine aH hWp ?_
   simp[-ζ,-ξ,↓KW,↓aL,↓aF,↓aJ,↓aK,aO p,aA,aD,aC,aE,aB]
   refine aH hMp ?_
   simp[-ζ,-ξ,↓KW,↓aL,↓aF,↓aJ,↓aK,aO m',hw1,aA,aD,aC,aE,aB]
   refine aM (i+1) (by omega) (by show l.length-(i+1)<l.length-i;omega) ?_
   show ∃ ρ,Wk _ (StL _ _ _) ρ
   rw[ha',hm']
   refine wkQ [1,2,3] ?_ ?_<;>simp[-ζ,upd,aR,Γ0]
  ·have hiL:¬i<L.length:=by omega
   obtain⟨g1,g2,g3⟩:=hinv i hi
   have hz:aHn l=if(st i).2<(st i).1+(st i).1 then((st i).1:Int)-((st i).2:Int)else((st i).1:Int):=by
    unfold aHn
    rw[hst,As (by omega)]
   rw[hz]
   have hAA:=aYe (x:=(st i).1) (y:=(st i).1) (by omega) (by omega)
   obtain⟨r,hC,hr⟩:=bGz (x:=(st i).1+(st i).1) (y:=(st i).2) (by omega) (by omega)
   have hSb:=bOc (x:=(st i).1) (y:=(st i).2) (by omega) (by omega) (by omega)
   generalize(st i).1=a at *
   generalize(st i).2=m at *
   generalize a+a=aa at *
   simp[-ζ,-ξ,↓KW,↓aL,↓aF,↓aJ,↓aK,hiL]
   refine bC ?_
   simp[-ζ,-ξ,↓KW,↓aL,↓aF,↓aJ,↓aK,aA,aD,aC,aE,aB]
   refine aH hAA ?_
   simp[-ζ,-ξ,↓KW,↓aL,↓aF,↓aJ,↓aK,aO aa,aA,aD,aC,aE,aB]
   refine aH hC ?_
   by_cases h:m<aa
   ·have hr1:=hr.2 h
    rw[Ar h]
    generalize(a:Int)-(m:Int)=z at *
    simp[-ζ,-ξ,↓KW,↓aL,↓aF,↓aJ,↓aK,hr1,aA,aD,aC,aE,aB]
    refine aH hSb ?_
    simp[-ζ,-ξ,↓KW,↓aL,↓aF,↓aJ,↓aK,bB z,aA,aD,aC,aE,aB,eR]
   ·have hr1:¬0<r:=fun h'=>h (hr.1 h')
    rw[Aj h,dC]
    simp[-ζ,-ξ,↓KW,↓aL,↓aF,↓aJ,↓aK,hr1,aO a,aA,aD,aC,aE,aB,eR]
def xF(z:Int):List D:=[.b (decide (z<0)),aG (aN z.natAbs)]
def fT(v:List Int):D:=.sl (v.map xF)
def vcs(v:List Int):List D:=(v.map xF).flatten
theorem aFj(l:List Int):(vcs l).length=l.length*2:=by
 unfold vcs
 induction l with
 |nil=>rfl
 |cons x l ih=>simp only[BH,Cw,Bb,ih,xF,Ah,Au];omega
theorem aXn(l:List (List D))(h:∀ x∈l,x.length=2):chunk 2 l.length l.flatten=l:=by
 induction l with
 |nil=>rfl
 | cons a l ih =>
  have ha:=h a (AH ..)
  have:=ih fun x hx=>h x (AE _ hx)
  unfold chunk at this ⊢
  rw[Ah,En,BH,Dx,Cw]
  congr 1
  ·simp[ha]
  ·conv=>rhs;rw[←this]
   apply CG
   intro i _
   simp only[Function.comp]
   rw[show Nat.succ i*2=a.length+i*2 from by omega,List.drop_append,C6 (by omega)]
   simp
theorem aXm{l:List Int}{n:Nat}(h:l.length=n):chunk 2 n (vcs l)=l.map xF:=by
 subst h
 have:=aXn (l.map xF) (fun x hx=>by obtain⟨y,_,rfl⟩:=AZ.1 hx;rfl)
 rwa [BB]at this
theorem aFi{l:List Int}{n:Nat}(h:l.length=n):DH (n*2) ((vcs l).map AV.d)=(vcs l).map AV.d:=As (by simp[aFj,h])
theorem bFh{H:Hp}{B:Nat}{e:TypeId}{v:List Int}{n:Nat}(m:Nat)(hB:H B=some (.cells e ((vcs v).map .d)))(hv:v.length=n):frz H (m+2) (.own B 0 n 2)=some (fT v):=by
 have hl:=aFj v
 rw[hv]at hl
 rw[aGy,hB]
 simp only[AD,BB,hl,Fg,FX]
 rw[aFi hv,Ar ⟨Az _,by decide⟩]
 have:List.mapM (frz H (m+1)) ((vcs v).map AV.d)=some (vcs v):=aGs H m (vcs v)
 rw[this,AW,aXm hv];rfl
theorem sV(z:Int)(v:List Int):vcs (z::v)=xF z++vcs v:=by simp[vcs]
theorem aQz:∀{v:List Int} {k:Nat} (z:Int),k<v.length→(vcs v).take (k*2)++xF z++(vcs v).drop (k*2+2)=vcs (v.set k z)
 |[],k,z,h=>by simp at h
 | y::v,0,z,h=>by
  rw[List.set_cons_zero,sV,sV];rfl
 | y::v,k+1,z,h=>by
  have ih:=aQz (v:=v) (k:=k) z (by simpa using h)
  rw[List.set_cons_succ,sV,sV,←ih,show(k+1)*2=2+k*2 by omega,show 2+k*2+2=2+(k*2+2)by omega]
  have e1:∀ n,DH (2+n) (xF y++vcs v)=xF y++DH n (vcs v):=fun n=>by rw[List.take_append,As (by show 2≤2+n;omega)];congr 2;show 2+n-2=n;omega
  have e2:∀ n,List.drop (2+n) (xF y++vcs v)=List.drop n (vcs v):=fun n=>by rw[←List.drop_drop];rfl
  rw[e1,e2];simp
theorem mapM_some{α β:Type}(f:α→Option β)(g:Nat→β):∀(l:List α),(∀ k x,l[k]? = some x→f x=some (g k))→l.mapM f=some ((AK l.length).map g)
 |[],_=>rfl
 | x::l,h=>by
  rw[List.mapM_cons,h 0 x rfl,mapM_some f (fun k=>g (k+1)) l fun k y hy=>h (k+1) y (by simpa using hy),Ah,En]
  simp[Function.comp_def]
def zr(cols:Nat):List AV:=(Ax cols [AV.d (.b false),AV.nil]).flatten
theorem bJa{H H':Hp}{ρ:Nat→Nat}(cols:Nat):fI H H' ρ (zr cols) (zr cols):=by
 refine gH.2 ⟨rfl,fun k c d h1 h2=>?_⟩
 rw[h1]at h2;injection h2 with h2;subst h2
 have hm:=Al h1
 unfold zr at hm
 rw[List.mem_flatten]at hm
 obtain⟨l,hl,hc⟩:=hm
 rw[List.eq_of_mem_replicate hl]at hc
 rcases Bu.1 hc with rfl|hc
 ·exact(oT _ _).2 rfl
 ·rw[Ca.1 hc];trivial
theorem aYq{H H':Hp}{ρ:Nat→Nat}:∀ c:Nat,fI H H' ρ (zr c) ((vcs (Ax c 0)).map .d)
 |0=>trivial
 | c+1=>by
  have ih:=aYq (H:=H) (H':=H') (ρ:=ρ) c
  have e1:zr (c+1)=AV.d (.b false)::AV.nil::zr c:=by simp[zr,C9]
  have e2:(vcs (Ax (c+1) 0)).map AV.d=AV.d (.b (decide ((0:Int)<0)))::AV.d (aG (aN (0:Int).natAbs))::(vcs (Ax c 0)).map AV.d:=by
   rw[C9];rfl
  rw[e1,e2]
  refine⟨?_,?_,ih⟩
  ·exact(oT _ _).2 rfl
  ·exact⟨by rw[show((0:Int).natAbs)=0 from rfl,cA];rfl,fun a ha=>by simp[vis]at ha⟩
def nwV(rows cols m:Nat):AV:=.ag [.d (.i .i64 (rows:Int)),.d (.i .i64 (cols:Int)),.own m 0 rows 1]
def hdr(c n b:Nat):List AV:=(AK n).map fun j=>AV.own (j+b) 0 c 2
def aJd(v:List Int):HO:=.cells 31 ((vcs v).map .d)
def mB(c:Nat)(M:List (List Int))(m:Nat):List HO:=.cells 110 (hdr c M.length (m+1))::M.map aJd
theorem kD(c n b:Nat):(hdr c n b).length=n:=by simp[hdr]
theorem yB{c n b i:Nat}(h:i<n):(hdr c n b)[i]? = some (.own (i+b) 0 c 2):=by
 unfold hdr;rw[Ai,BO h];rfl
theorem bFa(c n b:Nat):hdr c (n+1) b=hdr c n b++[.own (n+b) 0 c 2]:=by simp[hdr,List.range_succ]
theorem nK(c:Nat)(M:List (List Int))(m:Nat):(mB c M m).length=M.length+1:=by simp[mB]
def nwH(cols i:Nat):Hp:=fun id =>
 if id=1 then some (.cells 61 [.d (.i .i64 0),.d (.i .i64 0),.nil])else if id=2 then some (.cells 110 (hdr cols i 3))else if 3≤id∧id<i+3 then some (.cells 31 (zr cols))else none
set_option maxHeartbeats 8000000 in
set_option maxRecDepth 10000 in
theorem aGa[M:Mch Aa](rows cols:Nat)(hr:rows≤1000)(hc:cols≤1000):wU Aa 38 [.i .i64 (rows:Int),.i .i64 (cols:Int)] (nwV rows cols) (mB cols (Ax rows (Ax cols 0))):=by
 refine bDj (N:=22) aW Tryz.func38 rfl rfl rfl (by decide) (by kernel_rfl) (by kernel_rfl) (by simp) rfl ?_
 have m1:¬(rows:Int)<0:=by omega
 have m2:¬(cols:Int)<0:=by omega
 have hm3:32*(cols:Int)≤281474976710656:=by omega
 have hm4:(cols:Int)≤9223372036854775807:=by omega
 simp[-ζ,-ξ,↓KW,m1,m2,bT]
 refine cM (fun i:Nat=>i≤rows) (fun i=>⟨jZ [(0,.d (.i .i64 (rows:Int))),(1,.d (.i .i64 (cols:Int))),(4,.ptr 1 0),(5,.own 2 0 i 1),(6,.d (.i .i64 (i:Int)))],nwH cols i,i+3⟩) (fun i=>rows-i) 0 (A5 _) ?_ ?_
 ·refine⟨_,aCs ?_ (fun id o' ho=>?_) (fun id hid=>?_) (by simp)⟩
  ·simp[-ζ,upd,aR,Γ0,nwH]
  ·simp only[nwH]at ho
   split at ho
   ·rename_i e;subst e
    injection ho with ho;subst ho
    exact⟨_,rfl,by simp[-ζ,upd,aR,Γ0]⟩
   ·split at ho
    ·rename_i e;subst e
     injection ho with ho;subst ho
     exact⟨_,rfl,fW.2 ⟨rfl,trivial⟩⟩
    ·rw[Aj (by omega)]at ho;cases ho
  ·simp only[nwH]
   rw[Aj (by omega),Aj (by omega),Aj (by omega)]
 ·intro i hi
  have hH1:nwH cols i 1=some (.cells 61 [.d (.i .i64 0),.d (.i .i64 0),.nil]):=rfl
  have hH2:nwH cols i 2=some (.cells 110 (hdr cols i 3)):=rfl
  have hlen:(hdr cols i 3).length=i:=kD ..
  by_cases hgo:i<rows
  ·have q1:(i:Int)<rows:=by omega
   have hw:Ag.wrap ((i:Int)+1)=(i:Int)+1:=aU
   generalize hHg:nwH cols i=H at *
   generalize hcl:hdr cols i 3=cells at *
   have hb:(i+1)*24≤140737488355328:=by omega
   have hb2:i+1≤maxLen:=bT (by omega)
   simp[-ζ,-ξ,↓KW,q1,hgo,hw,hm3,hm4,hH1,hH2,hlen,m1,m2,hb,hb2]
   have hn1:(nwH cols (i+1) 1).isSome=true:=rfl
   have hn2:(nwH cols (i+1) 2).isSome=true:=rfl
   have hnj:∀ j,j<i+1→(nwH cols (i+1) (j+3)).isSome=true:=fun j hj=>by
    unfold nwH;rw[Aj (by omega),Aj (by omega),Ar (by omega)];rfl
   refine aM (i+1) hgo (slQ hgo) ⟨_,bSq (fun id=>if id=2 then i+5 else id) ?_ (fun id o' ho=>?_) (fun id id' h1 h2 e=>?_) (fun _=>rfl) (fun id hid=>?_) (by simp)⟩
   ·simp[-ζ,upd,aR,Γ0,hn1,hn2]
   ·simp only[nwH]at ho
    split at ho
    ·rename_i e;subst e
     injection ho with ho;subst ho
     refine⟨.cells 61 [.d (.i .i64 0),.d (.i .i64 0),.nil],?_,by simp[-ζ,upd,aR,Γ0]⟩
     rw[Aj (by omega)]
     simp only
     rw[Aj (by omega),Aj (by omega),Aj (by omega),Aj (by omega),hH1]
     rfl
    ·split at ho
     ·rename_i e;subst e
      injection ho with ho;subst ho
      refine⟨.cells 110 (hdr cols (i+1) 3),?_,fW.2 ⟨rfl,gH.2 ⟨rfl,fun k x y h1 h2=>?_⟩⟩⟩
      ·show Option.map (gU [2]) (if i+5=i+3+1+1 then some (HO.cells 110 (cells++[AV.own (i+3) 0 cols 2]))else _)=_
       rw[Ar (by omega),bFa,hcl]
       simp only[AW,gU,Ex,BH,List.map_nil]
       have e1:cells.map (eH [2])=cells:=by
        rw[←hcl]
        unfold hdr
        rw[Dx]
        apply CG
        intro j hj
        simp[eH]
       rw[e1]
       simp[eH]
      ·rw[h1]at h2;injection h2 with h2;subst h2
       have hk:k<i+1:=by have:=(Aq.1 h1).1;rwa [kD]at this
       rw[yB hk]at h1;injection h1 with h1;subst h1
       exact⟨by simp only;rw[Aj (by omega)],rfl,rfl,rfl,hnj k hk⟩
     ·split at ho
      ·rename_i e2 e3
       injection ho with ho;subst ho
       refine⟨.cells 31 (zr cols),?_,fW.2 ⟨rfl,bJa cols⟩⟩
       rw[Aj e2]
       simp only
       rw[Aj (by omega),Aj e2,Aj (by omega)]
       have ez:Option.map (gU [2]) (some (HO.cells 31 (zr cols)))=some (.cells 31 (zr cols)):=by
        simp only[AW,gU]
        congr 2
        unfold zr
        rw[List.map_flatten,FY];rfl
       by_cases e4:id=i+3
       ·rw[Ar e4];exact ez
       ·rw[Aj e4,←hHg]
        unfold nwH
        rw[Aj (by omega),Aj (by omega),Ar (by omega)]
        exact ez
      ·cases ho
   ·have k1:∀ id,(nwH cols (i+1) id).isSome=true→1≤id∧id<i+4:=fun id h=>by
     unfold nwH at h
     split at h
     ·omega
     ·split at h
      ·omega
      ·split at h
       ·omega
       ·cases h
    have b1:=k1 id h1
    have b2:=k1 id' h2
    have e':(if id=2 then i+5 else id)=(if id'=2 then i+5 else id'):=e
    split at e'<;>split at e'<;>omega
   ·simp only[nwH]
    rw[Aj (by omega),Aj (by omega),Aj (by omega)]
  ·have q1:¬(i:Int)<rows:=by omega
   have e:i=rows:=by omega
   subst e
   generalize hHg:nwH cols i=H at *
   simp[-ζ,-ξ,↓KW,q1,hH1,hH2]
   intro m hm0
   have hML:(mB cols (Ax i (Ax cols (0:Int))) m).length=i+1:=by simp[nK]
   have hin:∀ id,m≤id→id<m+(i+1)→(tF (nwV i cols) (mB cols (Ax i (Ax cols 0))) m).H id=(mB cols (Ax i (Ax cols 0)) m)[id-m]? := fun id h1 h2=>by
    simp only[tF,iZ]
    rw[Ar ⟨h1,by rw[hML];exact h2⟩]
   have hout:∀ id,¬(m≤id∧id<m+(i+1))→(tF (nwV i cols) (mB cols (Ax i (Ax cols 0))) m).H id=none:=fun id h=>by
    simp only[tF,iZ]
    rw[Aj (by rw[hML];exact h)]
   have hsome:∀ id,((tF (nwV i cols) (mB cols (Ax i (Ax cols 0))) m).H id).isSome=true→m≤id∧id<m+(i+1):=fun id h=>by
    by_cases hr:m≤id∧id<m+(i+1)
    ·exact hr
    ·rw[hout id hr]at h;cases h
   have hS0:((tF (nwV i cols) (mB cols (Ax i (Ax cols 0))) m).H m).isSome=true:=by
    rw[hin m (Az _) (by omega),Eo];rfl
   have hSj:∀ j,j<i→(tF (nwV i cols) (mB cols (Ax i (Ax cols 0))) m).H (j+(m+1))=some (aJd (Ax cols 0)):=fun j hj=>by
    rw[hin _ (by omega) (by omega),show j+(m+1)-m=j+1 by omega]
    simp only[mB,B6,FY,Dk,Ar hj]
   refine⟨fun id=>id-m+2,fun id hid=>hout id (by simp only[tF]at hid;rw[hML]at hid;omega),fun t=>?_,fun id o' ho=>?_,fun id id' h1 h2 e=>?_,fun h=>?_,fun h=>?_⟩
   ·show Sub _ _ _ _ (upd (fun _=>.any) 0 (nwV i cols m) t)
    by_cases e:t=0
    ·subst e
     simp only[upd_same,nwV]
     refine⟨rfl,fun k c d h1 h2=>?_⟩
     rcases k with _|_|_|k
     ·simp at h1 h2;subst h1;subst h2;exact(oT _ _).2 rfl
     ·simp at h1 h2;subst h1;subst h2;exact(oT _ _).2 rfl
     ·simp at h1 h2;subst h1;subst h2
      exact⟨by simp,rfl,rfl,rfl,hS0⟩
     ·simp at h1
    ·rw[upd_ne _ _ e];exact xO _
   ·have hr:=hsome id (by rw[ho];rfl)
    rw[hin id hr.1 hr.2]at ho
    simp only
    obtain⟨j,rfl⟩:∃ j,id=m+j:=⟨id-m,by omega⟩
    rw[show m+j-m=j by omega]at ho ⊢
    rcases j with _|j
    ·simp only[mB,Cg,Ft]at ho
     injection ho with ho;subst ho
     refine⟨.cells 110 (hdr cols i 3),by simp only[upd];rw[Aj (by omega)];exact hH2,fW.2 ⟨rfl,gH.2 ⟨by rw[kD,kD],fun k c d h1 h2=>?_⟩⟩⟩
     have hlt:k<i:=by have:=(Aq.1 h1).1;rwa [kD]at this
     rw[yB hlt]at h1 h2
     injection h1 with h1;injection h2 with h2;subst h1;subst h2
     exact⟨by show k+3=k+(m+1)-m+2;omega,rfl,rfl,rfl,by rw[hSj k hlt];rfl⟩
    ·have hlt:j<i:=by omega
     simp only[mB,B6,FY,Dk,Ar hlt]at ho
     injection ho with ho;subst ho
     refine⟨.cells 31 (zr cols),?_,fW.2 ⟨rfl,aYq cols⟩⟩
     simp only[upd]
     rw[Aj (by omega),←hHg]
     unfold nwH
     rw[Aj (by omega),Aj (by omega),Ar (by omega)]
   ·have q1':=hsome id h1
    have q2':=hsome id' h2
    have e':id-m+2=id'-m+2:=e
    omega
   ·have:=hsome 0 h;omega
   ·simp only[tF]at h;omega
theorem fL[M:Mch Aa]{f:FuncId}{args:List D}{r:D}(h:(jV Aa EP 100 20).call f args=some r):Spec Aa f args r:=(oZ (fuel:=100) aW aTn 20).call _ _ _ h
def mA:D:=.ag [.i .i64 1,.i .i64 1,.sl [[.sl [[.b true,.sl [[.i .u32 1]]]]]]]
theorem aHf(H:Hp)(n:Nat)(a b:HO):iZ H n [a,b]=upd (upd H n (some a)) (n+1) (some b):=by
 funext id
 unfold iZ upd
 by_cases h1:id=n+1
 ·subst h1;simp
 ·by_cases h2:id=n
  ·subst h2;simp
  ·simp only[h1,h2,if_false,Ah,Au]
   rw[Aj (by omega)]
set_option maxHeartbeats 4000000 in
set_option maxRecDepth 10000 in
theorem bYd[M:Mch Aa]:Spec Aa 37 [.i .i64 1,.i .i64 1,.sl [[.i .i64 (-1)]]] mA:=by
 refine bF (N:=50) Tryz.func37 ?_
 have hN:wU Aa 38 [.i .i64 1,.i .i64 1] (nwV 1 1) (mB 1 [[0]]):=aGa 1 1 (by decide) (by decide)
 have hmB:mB 1 [[0]] 2=[.cells 110 [.own 3 0 1 2],.cells 31 [.d (.b (decide ((0:Int)<0))),.d (aG (aN (0:Int).natAbs))]]:=rfl
 have hO:Spec Aa 11 [.i .i64 (-1)] (.ag [.b true,.sl [[.i .u32 1]]]):=fL (by kernel_rfl)
 simp[-ζ,-ξ,↓KW]
 refine tI [.i .i64 1,.i .i64 1] (nwV 1 1) (mB 1 [[0]]) (by simp) (by simp) (by simp) (by rfl) (by rfl) hN ?_
 simp[-ζ,-ξ,↓KW,nwV,hmB,aHf]
 have hz0:Ag.wrap 0=0:=by decide
 have hz1:Ag.wrap 1=1:=by decide
 refine fK 2 ?_
 simp[-ζ,-ξ,↓KW,↓aL,↓aF,↓aJ,↓aK,hz0,hz1]
 refine fK 2 ?_
 simp[-ζ,-ξ,↓KW,↓aL,↓aF,↓aJ,↓aK,hz0,hz1]
 refine aH hO ?_
 simp[-ζ,-ξ,↓KW,↓aL,↓aF,↓aJ,↓aK,hz0,hz1]
 rfl
theorem gK {P:Program} [M:Mch P] {f N:Nat} {fn:Func} {c:Code} {h:AV} {o o':HO} {args:List D} (hm:P.follows .mixedOrders=true) (hf:P.funcs[f]? = some fn) (hb:fn.body=some c) (hname:(fn.name == "runtime.NumGoroutine")=false) (hN:fn.ntmps=N)
  (hd:bU N c=true) (hl:bV P c=true) (ha:args.length+1≤N) (hno':lH o'=true)
  (hA:AWP P c (St1 h o args N) fun e σ=>(e=.normal∨e=.ret)∧iX P fn.results.toList σ=some (.tp [])∧σ.H 0=some o'):jW P f h o args o' (.tp []) :=
 wG hf hb hname hN ha hno' fun G a w hZ hs=>cN hm hZ c _ _ a w hd hl hA hs
theorem jL{P:Program}(σ:St):iX P [] σ=some (.tp []):=rfl
theorem aBy{σ:St}{sl:List (Nat×AV)}{e:TypeId}{dl:List D}(hslot:kA σ.H (StL sl (some (.cells e (dl.map .d))) []).H (xC []) σ.Γ sl)(h0:σ.H 0=some (.cells e (dl.map .d))):∃ ρ,Wk σ (StL sl (some (.cells e (dl.map .d))) []) ρ :=
 ⟨_,aQv [] (by simp) hslot (fun o' h=>⟨_,h0,by injection h with h;subst h;exact aCy ..⟩) (by simp)⟩
def rE(k:Nat):Int:=((k+1:Nat):Int)
def pQ:Nat→List Int→List Int
 |0,l=>l
 |j+1,l=>if l[j+1]! < l[j]! then pQ j ((l.set (j+1) l[j]!).set j l[j+1]!)else l
def jN(l:List Int):Nat→List Int
 |0=>l
 |k+1=>pQ (k+1) (jN l k)
def dS(l:List Int):List Int:=jN l (l.length-1)
theorem aMa:∀(j:Nat) (l:List Int),(pQ j l).length=l.length
 |0,l=>rfl
 | j+1,l=>by
  unfold pQ
  split
  ·rw[aMa];simp
  ·rfl
theorem eD(l:List Int):∀ k,(jN l k).length=l.length
 |0=>rfl
 |k+1=>by unfold jN;rw[aMa,eD l k]
theorem aUj{l:List Int}{i j:Nat}(hi:i<l.length)(hj:j<l.length):((l.set i l[j]!).set j l[i]!).Perm l:=by
 rw[BX l i hi,BX l j hj]
 exact List.set_set_perm hi hj
theorem aEn:∀(j:Nat) (l:List Int),j<l.length→(pQ j l).Perm l
 |0,l,_=>.refl _
 | j+1,l,h=>by
  unfold pQ
  split
  ·refine(aEn j _ (by simp;omega)).trans (aUj h (by omega))
  ·exact .refl _
theorem aEb(l:List Int):∀ k,k<l.length∨k=0→(jN l k).Perm l
 |0,_=>.refl _
 | k+1,h=>by
  unfold jN
  exact(aEn (k+1) _ (by rw[eD];omega)).trans (aEb l k (by omega))
theorem qK(l:List Int):(dS l).Perm l:=aEb l _ (by omega)
def dzU(l:List Int):List D:=l.map fun n=>.i .u64 n
theorem lU(l:List Int):(dzU l).length=l.length:=by simp[dzU]
theorem bGf{l:List Int}{i:Nat}(h:i<l.length):(dzU l)[i]? = some (.i .u64 l[i]!):=by
 unfold dzU;rw[Ai,Ab h,BX l i h];rfl
theorem aHi(l:List Int)(i:Nat)(x:Int):(dzU l).set i (.i .u64 x)=dzU (l.set i x):=by simp[dzU]
theorem nF(e:TypeId)(l:List Int):lH (.cells e ((dzU l).map .d))=true:=by
 simp only[lH,A6]
 intro x hx
 obtain⟨d,hd,rfl⟩:=AZ.1 hx
 obtain⟨n,_,rfl⟩:=AZ.1 hd
 rfl
theorem bXw[M:Mch Aa](x y:Int):Spec Aa 142 [.i .u64 x,.i .u64 y] (.b (decide (x<y))):=by
 have hN:∀ z:Int,Spec Aa 184 [.i .u64 z] (.b false):=fun z=>by
  refine bF (N:=6) Tryz.func184 ?_
  simp[-ζ,-ξ,↓KW]
 refine bF (N:=17) Tryz.func142 ?_
 simp[-ζ,-ξ,↓KW]
 refine aH (hN x) ?_
 simp[-ζ,-ξ,↓KW]
set_option maxHeartbeats 8000000 in
set_option maxRecDepth 10000 in
theorem cAk[M:Mch Aa](l:List Int)(hl:l.length≤1000):jW Aa 136 (.own 0 0 l.length 1) (.cells 51 ((dzU l).map .d)) [.i .i64 0,.i .i64 l.length] (.cells 51 ((dzU (dS l)).map .d)) (.tp []):=by
 refine gK (N:=49) aW Tryz.func136 rfl rfl rfl (by kernel_rfl) (by kernel_rfl) (by simp) (nF _ _) ?_
 have hw1:Ag.wrap 1=1:=by decide
 by_cases h0:l.length=0
 ·have hl0:l=[]:=BT h0
  subst hl0
  simp[-ζ,-ξ,↓KW,St1,hw1]
  refine fK 1 ?_
  simp[-ζ,-ξ,↓KW,↓aL,↓aF,↓aJ,↓aK,show dS []=[]from rfl,jL]
 replace h0:0<l.length:=by omega
 simp[-ζ,-ξ,↓KW,St1,hw1]
 refine bK (τ:=Nat) (fun k=>k+1≤l.length) (fun k=>StL [(0,.own 0 0 l.length 1),(1,.d (.i .i64 0)),(2,.d (.i .i64 l.length)),(6,.d (.i .i64 (rE k)))] (some (.cells 51 ((dzU (jN l k)).map .d))) []) (fun k=>l.length-k) 0 (by omega) ?_ ?_
 ·refine aBy ?_ rfl
  simp[-ζ,upd,aR,Γ0,rE,jN]
 ·intro k hk
  have hkl:=eD l k
  by_cases hlt:k+1<l.length
  ·have hR:jN l (k+1)=pQ (k+1) (jN l k):=rfl
   obtain⟨R,hRR⟩:∃ R,jN l (k+1)=R:=⟨_,rfl⟩
   rw[hRR]at hR
   obtain⟨i,hi⟩:∃ i,k+1=i:=⟨_,rfl⟩
   rw[hi]at hR hlt
   have hs:rE k=(i:Int):=by unfold rE;omega
   have hs1:Ag.wrap ((i:Int)+1)=rE (k+1):=by unfold rE;rw[show(i:Int)+1=((k+1+1:Nat):Int)from by omega];exact aU
   rw[hs]
   generalize jN l k=T0 at *
   generalize l.length=n at *
   simp[-ζ,-ξ,↓KW,hlt]
   refine bK (τ:=Nat×List Int) (fun x=>x.1≤i∧x.2.length=n∧pQ x.1 x.2=R) (fun x=>StL [(0,.own 0 0 n 1),(1,.d (.i .i64 0)),(2,.d (.i .i64 n)),(6,.d (.i .i64 i)),(7,.d (.i .i64 (x.1:Nat)))] (some (.cells 51 ((dzU x.2).map .d))) []) (fun x=>x.1) (i,T0) ⟨Az _,hkl,hR.symm⟩ ?_ ?_
   ·refine aBy ?_ rfl
    simp[-ζ,upd,aR,Γ0]
   ·rintro⟨j,T⟩ ⟨h1,h2,h3⟩
    simp only at h1 h2 h3 ⊢
    cases j with
    | zero =>
     have h3':T=R:=h3
     subst h3'
     simp[-ζ,-ξ,↓KW]
     refine bC ?_
     simp[-ζ,-ξ,↓KW,hs1]
     refine aM (k+1) (by omega) (by show n-(k+1)<n-k;omega) ?_
     show ∃ ρ,Wk _ (StL _ _ _) ρ
     rw[hRR]
     refine aBy ?_ rfl
     simp[-ζ,upd,aR,Γ0]
    | succ j =>
     have hL:=bXw T[j+1]! T[j]!
     have ha:=bGf (l:=T) (i:=j+1) (by omega)
     have hb:=bGf (l:=T) (i:=j) (by omega)
     have ha':∀ h,(dzU T)[j+1]'h=.i .u64 T[j+1]! := fun h=>by rw[Ab h]at ha;injection ha
     have hb':∀ h,(dzU T)[j]'h=.i .u64 T[j]! := fun h=>by rw[Ab h]at hb;injection hb
     have hdl:=lU T
     have hjn:j+1<n:=by omega
     have hjn':j<n:=by omega
     have hw0:Ag.wrap (j:Int)=j:=aU
     have hset:((dzU T).set (j+1) (.i .u64 T[j]!)).set j (.i .u64 T[j+1]!)=dzU ((T.set (j+1) T[j]!).set j T[j+1]!):=by rw[aHi,aHi]
     have hbub:pQ (j+1) T=if T[j+1]! < T[j]! then pQ j ((T.set (j+1) T[j]!).set j T[j+1]!)else T:=rfl
     have hTl:((T.set (j+1) T[j]!).set j T[j+1]!).length=n:=by simp[h2]
     rw[hbub]at h3
     generalize(T.set (j+1) T[j]!).set j T[j+1]! = T2 at *
     have hwJ:Ag.wrap (((j+1:Nat):Int)-1)=j:=by rw[show((j+1:Nat):Int)-1=(j:Int)from by omega];exact hw0
     have hwJ0:Ag.wrap ((j+1:Nat):Int)=((j+1:Nat):Int):=aU
     have hJ0:0<j+1:=by omega
     have hJj:¬j+1=j:=by omega
     generalize T[j+1]! = x at *
     generalize T[j]! = y at *
     obtain⟨DT,hDT⟩:∃ DT,dzU T=DT:=⟨_,rfl⟩
     rw[hDT]at ha hb ha' hb' hdl hset ⊢
     obtain⟨J,hJ⟩:∃ J,j+1=J:=⟨_,rfl⟩
     have hJlt:j<J:=by omega
     simp only[hJ]at *
     have hJ1:J+1≤n:=by omega
     have hJ2:j+1≤n:=by omega
     have hJ3:J≤n:=by omega
     have e1:lay (DT.map AV.d) J [.d (.i .u64 y)]=(DT.set J (.i .u64 y)).map .d:=fH _ _ _ (by omega)
     have e2:lay ((DT.set J (.i .u64 y)).map AV.d) j [.d (.i .u64 x)]=(dzU T2).map .d:=by rw[fH _ _ _ (by rw[Df];omega),hset]
     have e3:lay ((DT.map AV.d).set J (.d (.i .u64 y))) j [.d (.i .u64 x)]=(dzU T2).map .d:=by rw[←e2,List.map_set]
     by_cases hxy:x<y
     ·rw[Ar hxy]at h3
      rw[BK hxy]at hL
      simp[-ζ,-ξ,↓KW,ha,ha',hb,hb',hw0,hwJ,hwJ0,hJ0,hdl,h2,hjn,hjn']
      refine aH hL ?_
      simp[-ζ,-ξ,↓KW,ha,ha',hb,hb',hw0,hwJ,hwJ0,hJ0,hdl,h2,hjn,hjn',hJ1,hJ2,hJ3,e1,e2,e3]
      refine aM (j,T2) ⟨by omega,hTl,h3⟩ (by show j<j+1;omega) ?_
      show ∃ ρ,Wk _ (StL _ _ _) ρ
      refine aBy ?_ ?_<;>simp[-ζ,upd,aR,Γ0,e3]
     ·rw[Aj hxy]at h3
      rw[Bj hxy]at hL
      simp[-ζ,-ξ,↓KW,ha,ha',hb,hb',hw0,hwJ,hwJ0,hJ0,hdl,h2,hjn,hjn']
      refine aH hL ?_
      simp[-ζ,-ξ,↓KW,ha,ha',hb,hb',hw0,hwJ,hwJ0,hJ0,hdl,h2,hjn,hjn']
      subst h3
      refine bC ?_
      simp[-ζ,-ξ,↓KW,hs1]
      refine aM (k+1) (by omega) (by show n-(k+1)<n-k;omega) ?_
      show ∃ ρ,Wk _ (StL _ _ _) ρ
      rw[hRR]
      refine aBy ?_ ?_<;>simp[-ζ,upd,aR,Γ0,hDT]
  ·have hk1:k+1=l.length:=by omega
   have hsr:dS l=jN l k:=by unfold dS;rw[show l.length-1=k from by omega]
   rw[hsr]
   have hs:rE k=(l.length:Int):=by unfold rE;omega
   rw[hs]
   simp[-ζ,-ξ,↓KW]
   exact bC (by simp[-ζ,-ξ,↓KW,jL])
set_option maxRecDepth 10000 in
theorem bZy[M:Mch Aa](l:List Int)(r:Int)(hl:l.length≤12):jW Aa 80 (.own 0 0 l.length 1) (.cells 51 ((dzU l).map .d)) [.i .i64 0,.i .i64 l.length,.i .i64 r] (.cells 51 ((dzU (dS l)).map .d)) (.tp []):=by
 have hI:=cAk l (by omega)
 have hlen:(dzU (dS l)).length=(dzU l).length:=by rw[lU,lU];exact eD l _
 have hno1:=nF 51 l
 have hno2:=nF 51 (dS l)
 have hw0:Ag.wrap (l.length:Int)=l.length:=aU
 have hle:(l.length:Int)≤12:=by omega
 refine gK (N:=134) aW Tryz.func80 rfl rfl rfl (by kernel_rfl) (by kernel_rfl) (by simp) hno2 ?_
 generalize dS l=T at *
 generalize l.length=n at *
 generalize dzU T=DT at *
 generalize dzU l=DL at *
 simp[-ζ,-ξ,↓KW,St1]
 refine fK 1 ?_
 simp[-ζ,-ξ,↓KW,↓aL,↓aF,↓aJ,↓aK,hw0,hl,hle]
 refine mN (by simp) ?_
 refine iN (id:=0) (h:=.own 0 0 n 1) (by rfl) hno1 (by rfl) (by rfl) hI (by simp[HO.len,hlen]) hno2 ?_
 simp[-ζ,-ξ,↓KW,jL]
theorem bYn[M:Mch Aa](n:Nat)(hn:n≤12):∃ r,Spec Aa 81 [.i .u64 n] (.i .i64 r):=by
 have h:((AK 13).all fun n=>match(jV Aa EP 100 20).call 81 [.i .u64 (n:Nat)]with|some (.i .i64 r)=>true|_=>false)=true:=by kernel_rfl
 have:=A6.1 h n (CJ.2 (by omega))
 split at this
 ·rename_i r hr;exact⟨r,fL hr⟩
 ·cases this
set_option maxRecDepth 10000 in
theorem bXa[M:Mch Aa](l:List Int)(hl:l.length≤12):jW Aa 43 (.own 0 0 l.length 1) (.cells 51 ((dzU l).map .d)) [] (.cells 51 ((dzU (dS l)).map .d)) (.tp []):=by
 obtain⟨r,hB⟩:=bYn l.length hl
 have hI:=bZy l r hl
 have hlen:(dzU (dS l)).length=(dzU l).length:=by rw[lU,lU];exact eD l _
 have hno1:=nF 51 l
 have hno2:=nF 51 (dS l)
 have hw0:AA.wrap (l.length:Int)=l.length:=wrap_u64 (by omega) (by omega)
 refine gK (N:=11) aW Tryz.func43 rfl rfl rfl (by kernel_rfl) (by kernel_rfl) (by simp) hno2 ?_
 generalize dS l=T at *
 generalize l.length=n at *
 generalize dzU T=DT at *
 generalize dzU l=DL at *
 simp[-ζ,-ξ,↓KW,St1,hw0]
 refine aH hB ?_
 simp[-ζ,-ξ,↓KW,St1,hw0]
 refine mN (by simp) ?_
 refine iN (id:=0) (h:=.own 0 0 n 1) (by rfl) hno1 (by rfl) (by rfl) hI (by simp[HO.len,hlen]) hno2 ?_
 simp[-ζ,-ξ,↓KW,jL]
def dzI(l:List Int):List D:=l.map fun n=>.i .i64 n
def ezI(l:List Int):D:=.sl (l.map fun n=>[.i .i64 n])
theorem eP(l:List Int):(dzI l).length=l.length:=by simp[dzI]
theorem bGh{l:List Int}{i:Nat}(h:i<l.length):(dzI l)[i]? = some (.i .i64 l[i]!):=by
 unfold dzI;rw[Ai,Ab h,BX l i h];rfl
theorem aTd(l:List Int)(i:Nat)(x:Int):(dzI l).set i (.i .i64 x)=dzI (l.set i x):=by simp[dzI]
theorem nG(e:TypeId)(l:List Int):lH (.cells e ((dzI l).map .d))=true:=by
 simp only[lH,A6]
 intro x hx
 obtain⟨d,hd,rfl⟩:=AZ.1 hx
 obtain⟨n,_,rfl⟩:=AZ.1 hd
 rfl
theorem bXx[M:Mch Aa](x y:Int):Spec Aa 159 [.i .i64 x,.i .i64 y] (.b (decide (x<y))):=by
 have hN:∀ z:Int,Spec Aa 151 [.i .i64 z] (.b false):=fun z=>by
  refine bF (N:=6) Tryz.func151 ?_
  simp[-ζ,-ξ,↓KW]
 refine bF (N:=17) Tryz.func159 ?_
 simp[-ζ,-ξ,↓KW]
 refine aH (hN x) ?_
 simp[-ζ,-ξ,↓KW]
set_option maxHeartbeats 8000000 in
set_option maxRecDepth 10000 in
theorem cAl[M:Mch Aa](l:List Int)(hl:l.length≤1000):jW Aa 153 (.own 0 0 l.length 1) (.cells 3 ((dzI l).map .d)) [.i .i64 0,.i .i64 l.length] (.cells 3 ((dzI (dS l)).map .d)) (.tp []):=by
 refine gK (N:=49) aW Tryz.func153 rfl rfl rfl (by kernel_rfl) (by kernel_rfl) (by simp) (nG _ _) ?_
 have hw1:Ag.wrap 1=1:=by decide
 by_cases h0:l.length=0
 ·have hl0:l=[]:=BT h0
  subst hl0
  simp[-ζ,-ξ,↓KW,St1,hw1]
  refine fK 1 ?_
  simp[-ζ,-ξ,↓KW,↓aL,↓aF,↓aJ,↓aK,show dS []=[]from rfl,jL]
 replace h0:0<l.length:=by omega
 simp[-ζ,-ξ,↓KW,St1,hw1]
 refine bK (τ:=Nat) (fun k=>k+1≤l.length) (fun k=>StL [(0,.own 0 0 l.length 1),(1,.d (.i .i64 0)),(2,.d (.i .i64 l.length)),(6,.d (.i .i64 (rE k)))] (some (.cells 3 ((dzI (jN l k)).map .d))) []) (fun k=>l.length-k) 0 (by omega) ?_ ?_
 ·refine aBy ?_ rfl
  simp[-ζ,upd,aR,Γ0,rE,jN]
 ·intro k hk
  have hkl:=eD l k
  by_cases hlt:k+1<l.length
  ·have hR:jN l (k+1)=pQ (k+1) (jN l k):=rfl
   obtain⟨R,hRR⟩:∃ R,jN l (k+1)=R:=⟨_,rfl⟩
   rw[hRR]at hR
   obtain⟨i,hi⟩:∃ i,k+1=i:=⟨_,rfl⟩
   rw[hi]at hR hlt
   have hs:rE k=(i:Int):=by unfold rE;omega
   have hs1:Ag.wrap ((i:Int)+1)=rE (k+1):=by unfold rE;rw[show(i:Int)+1=((k+1+1:Nat):Int)from by omega];exact aU
   rw[hs]
   generalize jN l k=T0 at *
   generalize l.length=n at *
   simp[-ζ,-ξ,↓KW,hlt]
   refine bK (τ:=Nat×List Int) (fun x=>x.1≤i∧x.2.length=n∧pQ x.1 x.2=R) (fun x=>StL [(0,.own 0 0 n 1),(1,.d (.i .i64 0)),(2,.d (.i .i64 n)),(6,.d (.i .i64 i)),(7,.d (.i .i64 (x.1:Nat)))] (some (.cells 3 ((dzI x.2).map .d))) []) (fun x=>x.1) (i,T0) ⟨Az _,hkl,hR.symm⟩ ?_ ?_
   ·refine aBy ?_ rfl
    simp[-ζ,upd,aR,Γ0]
   ·rintro⟨j,T⟩ ⟨h1,h2,h3⟩
    simp only at h1 h2 h3 ⊢
    cases j with
    | zero =>
     have h3':T=R:=h3
     subst h3'
     simp[-ζ,-ξ,↓KW]
     refine bC ?_
     simp[-ζ,-ξ,↓KW,hs1]
     refine aM (k+1) (by omega) (by show n-(k+1)<n-k;omega) ?_
     show ∃ ρ,Wk _ (StL _ _ _) ρ
     rw[hRR]
     refine aBy ?_ rfl
     simp[-ζ,upd,aR,Γ0]
    | succ j =>
     have hL:=bXx T[j+1]! T[j]!
     have ha:=bGh (l:=T) (i:=j+1) (by omega)
     have hb:=bGh (l:=T) (i:=j) (by omega)
     have ha':∀ h,(dzI T)[j+1]'h=.i .i64 T[j+1]! := fun h=>by rw[Ab h]at ha;injection ha
     have hb':∀ h,(dzI T)[j]'h=.i .i64 T[j]! := fun h=>by rw[Ab h]at hb;injection hb
     have hdl:=eP T
     have hjn:j+1<n:=by omega
     have hjn':j<n:=by omega
     have hw0:Ag.wrap (j:Int)=j:=aU
     have hset:((dzI T).set (j+1) (.i .i64 T[j]!)).set j (.i .i64 T[j+1]!)=dzI ((T.set (j+1) T[j]!).set j T[j+1]!):=by rw[aTd,aTd]
     have hbub:pQ (j+1) T=if T[j+1]! < T[j]! then pQ j ((T.set (j+1) T[j]!).set j T[j+1]!)else T:=rfl
     have hTl:((T.set (j+1) T[j]!).set j T[j+1]!).length=n:=by simp[h2]
     rw[hbub]at h3
     generalize(T.set (j+1) T[j]!).set j T[j+1]! = T2 at *
     have hwJ:Ag.wrap (((j+1:Nat):Int)-1)=j:=by rw[show((j+1:Nat):Int)-1=(j:Int)from by omega];exact hw0
     have hwJ0:Ag.wrap ((j+1:Nat):Int)=((j+1:Nat):Int):=aU
     have hJ0:0<j+1:=by omega
     have hJj:¬j+1=j:=by omega
     generalize T[j+1]! = x at *
     generalize T[j]! = y at *
     obtain⟨DT,hDT⟩:∃ DT,dzI T=DT:=⟨_,rfl⟩
     rw[hDT]at ha hb ha' hb' hdl hset ⊢
     obtain⟨J,hJ⟩:∃ J,j+1=J:=⟨_,rfl⟩
     have hJlt:j<J:=by omega
     simp only[hJ]at *
     have hJ1:J+1≤n:=by omega
     have hJ2:j+1≤n:=by omega
     have hJ3:J≤n:=by omega
     have e1:lay (DT.map AV.d) J [.d (.i .i64 y)]=(DT.set J (.i .i64 y)).map .d:=fH _ _ _ (by omega)
     have e2:lay ((DT.set J (.i .i64 y)).map AV.d) j [.d (.i .i64 x)]=(dzI T2).map .d:=by rw[fH _ _ _ (by rw[Df];omega),hset]
     have e3:lay ((DT.map AV.d).set J (.d (.i .i64 y))) j [.d (.i .i64 x)]=(dzI T2).map .d:=by rw[←e2,List.map_set]
     by_cases hxy:x<y
     ·rw[Ar hxy]at h3
      rw[BK hxy]at hL
      simp[-ζ,-ξ,↓KW,ha,ha',hb,hb',hw0,hwJ,hwJ0,hJ0,hdl,h2,hjn,hjn']
      refine aH hL ?_
      simp[-ζ,-ξ,↓KW,ha,ha',hb,hb',hw0,hwJ,hwJ0,hJ0,hdl,h2,hjn,hjn',hJ1,hJ2,hJ3,e1,e2,e3]
      refine aM (j,T2) ⟨by omega,hTl,h3⟩ (by show j<j+1;omega) ?_
      show ∃ ρ,Wk _ (StL _ _ _) ρ
      refine aBy ?_ ?_<;>simp[-ζ,upd,aR,Γ0,e3]
     ·rw[Aj hxy]at h3
      rw[Bj hxy]at hL
      simp[-ζ,-ξ,↓KW,ha,ha',hb,hb',hw0,hwJ,hwJ0,hJ0,hdl,h2,hjn,hjn']
      refine aH hL ?_
      simp[-ζ,-ξ,↓KW,ha,ha',hb,hb',hw0,hwJ,hwJ0,hJ0,hdl,h2,hjn,hjn']
      subst h3
      refine bC ?_
      simp[-ζ,-ξ,↓KW,hs1]
      refine aM (k+1) (by omega) (by show n-(k+1)<n-k;omega) ?_
      show ∃ ρ,Wk _ (StL _ _ _) ρ
      rw[hRR]
      refine aBy ?_ ?_<;>simp[-ζ,upd,aR,Γ0,hDT]
  ·have hk1:k+1=l.length:=by omega
   have hsr:dS l=jN l k:=by unfold dS;rw[show l.length-1=k from by omega]
   rw[hsr]
   have hs:rE k=(l.length:Int):=by unfold rE;omega
   rw[hs]
   simp[-ζ,-ξ,↓KW]
   exact bC (by simp[-ζ,-ξ,↓KW,jL])
set_option maxRecDepth 10000 in
theorem bZz[M:Mch Aa](l:List Int)(r:Int)(hl:l.length≤12):jW Aa 101 (.own 0 0 l.length 1) (.cells 3 ((dzI l).map .d)) [.i .i64 0,.i .i64 l.length,.i .i64 r] (.cells 3 ((dzI (dS l)).map .d)) (.tp []):=by
 have hI:=cAl l (by omega)
 have hlen:(dzI (dS l)).length=(dzI l).length:=by rw[eP,eP];exact eD l _
 have hno1:=nG 3 l
 have hno2:=nG 3 (dS l)
 have hw0:Ag.wrap (l.length:Int)=l.length:=aU
 have hle:(l.length:Int)≤12:=by omega
 refine gK (N:=134) aW Tryz.func101 rfl rfl rfl (by kernel_rfl) (by kernel_rfl) (by simp) hno2 ?_
 generalize dS l=T at *
 generalize l.length=n at *
 generalize dzI T=DT at *
 generalize dzI l=DL at *
 simp[-ζ,-ξ,↓KW,St1]
 refine fK 1 ?_
 simp[-ζ,-ξ,↓KW,↓aL,↓aF,↓aJ,↓aK,hw0,hl,hle]
 refine mN (by simp) ?_
 refine iN (id:=0) (h:=.own 0 0 n 1) (by rfl) hno1 (by rfl) (by rfl) hI (by simp[HO.len,hlen]) hno2 ?_
 simp[-ζ,-ξ,↓KW,jL]
theorem bYo[M:Mch Aa](n:Nat)(hn:n≤12):∃ r,Spec Aa 81 [.i .u64 n] (.i .i64 r):=by
 have h:((AK 13).all fun n=>match(jV Aa EP 100 20).call 81 [.i .u64 (n:Nat)]with|some (.i .i64 r)=>true|_=>false)=true:=by kernel_rfl
 have:=A6.1 h n (CJ.2 (by omega))
 split at this
 ·rename_i r hr;exact⟨r,fL hr⟩
 ·cases this
set_option maxRecDepth 10000 in
theorem bXb[M:Mch Aa](l:List Int)(hl:l.length≤12):jW Aa 54 (.own 0 0 l.length 1) (.cells 3 ((dzI l).map .d)) [] (.cells 3 ((dzI (dS l)).map .d)) (.tp []):=by
 obtain⟨r,hB⟩:=bYo l.length hl
 have hI:=bZz l r hl
 have hlen:(dzI (dS l)).length=(dzI l).length:=by rw[eP,eP];exact eD l _
 have hno1:=nG 3 l
 have hno2:=nG 3 (dS l)
 have hw0:AA.wrap (l.length:Int)=l.length:=wrap_u64 (by omega) (by omega)
 refine gK (N:=11) aW Tryz.func54 rfl rfl rfl (by kernel_rfl) (by kernel_rfl) (by simp) hno2 ?_
 generalize dS l=T at *
 generalize l.length=n at *
 generalize dzI T=DT at *
 generalize dzI l=DL at *
 simp[-ζ,-ξ,↓KW,St1,hw0]
 refine aH hB ?_
 simp[-ζ,-ξ,↓KW,St1,hw0]
 refine mN (by simp) ?_
 refine iN (id:=0) (h:=.own 0 0 n 1) (by rfl) hno1 (by rfl) (by rfl) hI (by simp[HO.len,hlen]) hno2 ?_
 simp[-ζ,-ξ,↓KW,jL]
theorem bTh[M:Mch Aa]:Spec Aa 54 [.sl []] (.tp []):=fL (by kernel_rfl)
end Go.Am
end
section
open List renaming map_map→ζ,mapM_map→ξ
namespace Go.Am
theorem bFd{T:List Int}{i j:Nat}{x:Int}(hi:i<T.length):(T.set i x)[j]! = if i=j then x else T[j]! := by
 by_cases hj:j<T.length
 ·rw[BX (T.set i x) j (by simpa using hj),List.getElem_set,BX T j hj]
 ·have h:¬i=j:=by omega
  rw[Aj h,getElem!_neg (T.set i x) j (by simpa using hj),getElem!_neg T j hj]
theorem aBb:∀(j:Nat) (T:List Int) (m:Nat),j≤m→m<T.length→(∀ p q,p<q→q≤m→p≠j→q≠j→T[p]! ≤ T[q]!)→(∀ q,j<q→q≤m→T[j]! ≤ T[q]!)→∀ p q,p<q→q≤m→(pQ j T)[p]! ≤ (pQ j T)[q]!
 | 0,T,m,_,hm,h1,h2,p,q,hpq,hq=>by
  show T[p]! ≤ T[q]!
  rcases Bf p with hp|hp
  ·subst hp;exact h2 q hpq hq
  ·exact h1 p q hpq hq (by omega) (by omega)
 | j+1,T,m,hj,hm,h1,h2,p,q,hpq,hq=>by
  unfold pQ
  split
  ·rename_i hlt
   have hg:∀ i,((T.set (j+1) T[j]!).set j T[j+1]!)[i]! = if j=i then T[j+1]! else if j+1=i then T[j]! else T[i]! := fun i=>by
    rw[bFd (by simp;omega),bFd (by omega)]
   refine aBb j _ m (by omega) (by simp;omega) (fun p q hpq hq hp hqj=>?_) (fun q hq1 hq2=>?_) p q hpq hq
   ·rw[hg,hg,Aj (show ¬j=p by omega),Aj (show ¬j=q by omega)]
    by_cases hp1:j+1=p
    ·rw[Ar hp1,Aj (show ¬j+1=q by omega)]
     exact h1 j q (by omega) hq (by omega) (by omega)
    ·rw[Aj hp1]
     by_cases hq1:j+1=q
     ·rw[Ar hq1]
      exact h1 p j (by omega) (by omega) (by omega) (by omega)
     ·rw[Aj hq1]
      exact h1 p q hpq hq (by omega) (by omega)
   ·rw[hg,hg,Ar rfl,Aj (show ¬j=q by omega)]
    by_cases hq3:j+1=q
    ·rw[Ar hq3];omega
    ·rw[Aj hq3];exact h2 q (by omega) hq2
  ·rename_i hge
   have hle:T[j]! ≤ T[j+1]! := by omega
   by_cases hq1:q=j+1
   ·subst hq1
    by_cases hp1:p=j
    ·subst hp1;exact hle
    ·exact Int.le_trans (h1 p j (by omega) (by omega) (by omega) (by omega)) hle
   ·by_cases hp1:p=j+1
    ·subst hp1;exact h2 q hpq hq
    ·exact h1 p q hpq hq hp1 hq1
theorem zX(l:List Int):∀ k,k<l.length→∀ p q,p<q→q≤k→(jN l k)[p]! ≤ (jN l k)[q]!
 |0,_,p,q,h1,h2=>by omega
 | k+1,hk,p,q,h1,h2=>by
  have ih:=zX l k (by omega)
  unfold jN
  exact aBb (k+1) (jN l k) (k+1) (Az _) (by rw[eD];exact hk) (fun p q a b c d=>ih p q a (by omega)) (fun q a b=>by omega) p q h1 h2
theorem yS(l:List Int):(dS l).Pairwise (·≤·):=by
 rw[List.pairwise_iff_getElem]
 intro i j hi hj hij
 have hl:(dS l).length=l.length:=eD l _
 have:=zX l (l.length-1) (by omega) i j hij (by omega)
 unfold dS at *
 rwa [BX (jN l (l.length-1)) i hi,BX (jN l (l.length-1)) j hj]at this
theorem bAg{l m:List Int}(hl:l.Pairwise (·≤·))(hm:m.Pairwise (·≤·))(h:l.Perm m):l=m:=h.eq_of_pairwise (fun a b _ _ h1 h2=>Int.le_antisymm h1 h2) hl hm
theorem bTe{l m:List Int}(hm:m.Pairwise (·≤·))(h:m.Perm l):dS l=m:=bAg (yS l) hm ((qK l).trans h.symm)
end Go.Am
end
section
open List renaming map_map→ζ,mapM_map→ξ
open Go Go.Am Go.Proofs
namespace Go.Am
def iO:Nat→Nat→Nat
 |0,_=>0
 |k+1,s=>s%2+iO k (s/2)
def fA{α:Type}:List α→Nat→List α
 |[],_=>[]
 |x::l,s=>if s%2=1 then x::fA l (s/2)else fA l (s/2)
theorem pS{α:Type}:∀(l:List α) (s:Nat),(fA l s).length=iO l.length s
 |[],s=>rfl
 | x::l,s=>by
  unfold fA
  split
  ·rename_i h;rw[Ah,pS l,Ah,iO,h];omega
  ·rename_i h;rw[pS l,Ah,iO];omega
theorem aEo{α:Type}(x:α):∀(l:List α) (s:Nat),fA (l++[x]) s=fA l s++if s/2^l.length%2=1 then[x]else[]
 |[],s=>by simp only[fA,Dq,Au,Nat.pow_zero,Nat.div_one]
 | y::l,s=>by
  simp only[Ch,fA,aEo x l,Ah]
  have e:s/2^(l.length+1)=s/2/2^l.length:=by rw[BI,BV (2^l.length) 2,←Nat.div_div_eq_div_mul]
  simp only[e]
  split<;>simp
theorem qQ:∀(k m s:Nat),s<2^k→iO (k+m) s=iO k s
 | 0,m,s,h=>by
  have:s=0:=by simpa using h
  subst this
  have h0:∀ n,iO n 0=0:=fun n=>by
   induction n with
   |zero=>rfl
   |succ n ih=>simp[iO,ih]
  rw[h0,h0]
 | k+1,m,s,h=>by
  rw[show k+1+m=(k+m)+1 from by omega]
  unfold iO
  rw[qQ k m (s/2) (by rw[BI]at h;omega)]
theorem aMi(a:Nat)(ha:a<4294967296):bits .and .u32 (a:Int) 1=((a%2:Nat):Int):=by
 have h1:(BitVec.ofInt 32 (a:Int)).toNat=a:=by
  rw[BitVec.ofInt_natCast,BitVec.toNat_ofNat];exact Cu (by omega)
 have h2:(BitVec.ofInt 32 (1:Int)).toNat=1:=by decide
 show BC.wrap ((BitVec.ofInt 32 (a:Int) &&& BitVec.ofInt 32 (1:Int)).toNat:Int)=_
 rw[BitVec.toNat_and,h1,h2,Nat.and_one_is_mod,Ej]
 omega
theorem aRd(s i:Nat)(hi:i≤32):dW .shr .u32 (s:Int) (i:Int)=some (.i .u32 ((s/2^i:Nat):Int)):=by
 simp only[dW,CB]
 rw[Aj (by omega)]
 congr 2
 rw[show min (i:Int).toNat 32=i from by omega,CK _ (Int.le_of_lt (Int.pow_pos (by decide)))]
 rw[show(2:Int)^i=((2^i:Nat):Int)from by simp]
 rfl
theorem aAv{k:Nat}(hk:0<k)(l:List (List D))(h:∀ x∈l,x.length=k):chunk k l.length l.flatten=l:=by
 induction l with
 |nil=>rfl
 | cons a l ih =>
  have ha:=h a (AH ..)
  have:=ih fun x hx=>h x (AE _ hx)
  unfold chunk at this ⊢
  rw[Ah,En,BH,Dx,Cw]
  congr 1
  ·simp[←ha]
  ·conv=>rhs;rw[←this]
   apply CG
   intro i _
   simp only[Function.comp]
   rw[show Nat.succ i*k=a.length+i*k from by rw[Nat.succ_mul,ha,EL],List.drop_append,C6 (by omega)]
   simp
def dR(l:List (Nat×Nat)):List D:=(l.map fun x=>[.i .u64 (x.1:Int),.i .u64 (x.2:Int)]).flatten
theorem aHm(l:List (Nat×Nat)):(dR l).length=l.length*2:=by
 unfold dR
 induction l with
 |nil=>rfl
 |cons x l ih=>simp only[BH,Cw,Bb,ih,Ah,Au];omega
theorem bGr(p v:Nat):dR [(p,v)]=[.i .u64 p,.i .u64 v]:=rfl
theorem wN{l:List (Nat×Nat)}{n:Nat}(h:l.length=n):((dR l).map AV.d).take (n*2)=(dR l).map AV.d:=As (by rw[BB,aHm,h];exact Az _)
theorem aLv{l:List (Nat×Nat)}{n:Nat}(h:l.length=n):chunk 2 n (dR l)=l.map fun x=>[D.i .u64 (x.1:Int),D.i .u64 (x.2:Int)]:=by
 subst h
 have:=aAv (k:=2) (by decide) (l.map fun x=>[D.i .u64 (x.1:Int),D.i .u64 (x.2:Int)]) (fun x hx=>by
  obtain⟨y,_,rfl⟩:=AZ.1 hx;rfl)
 rwa [BB]at this
theorem bVo{H:Hp}{id:Nat}{e:TypeId}{T:List (Nat×Nat)}{n:Nat}(hn:T.length=n)(hH:H id=some (.cells e ((dR T).map AV.d))):frz H 8 (.own id 0 n 2)=some (oN T):=by
 have e1:=wN hn
 have e2:=aLv hn
 have e3:=aHm T
 rw[hn]at e3
 simp[-ζ,-ξ,aAf,hH,e1,e2,e3,oN]
def rsL(l:List (Nat×Nat×Nat)):List (Nat×Nat):=l.map (·.2)
def chS(L:List (List D))(s n i:Nat):List (Nat×Nat)→St
 |[]=>StL [(1,.d (.i .u32 s)),(5,.nil),(8,.d (.sl L)),(9,.d (.i .i64 n)),(10,.d (.i .i64 i))] none []
 |x::T=>StL [(1,.d (.i .u32 s)),(5,.own 1 0 (T.length+1) 2),(8,.d (.sl L)),(9,.d (.i .i64 n)),(10,.d (.i .i64 i))] none [.cells 76 ((dR (x::T)).map .d)]
theorem bPo(x:Nat×Nat)(a b:List (Nat×Nat)):dR (x::(a++b))=dR (x::a)++dR b:=by simp[dR]
set_option maxHeartbeats 4000000 in
set_option maxRecDepth 10000 in
theorem aPu[M:Mch Aa](l:List (Nat×Nat×Nat))(s:Nat)(hl:l.length≤30)(hs:s<4294967296):Spec Aa 47 [gY l,.i .u32 s] (oN (fA (rsL l) s)):=by
 obtain⟨L,hL,hLl,hLg⟩:=kW l
 rw[hL]
 refine bF (N:=27) Tryz.func47 ?_
 simp[-ζ,-ξ,↓KW]
 refine bK (τ:=Nat) (fun i=>i≤l.length) (fun i=>chS L s L.length i (fA (rsL (l.take i)) s)) (fun i=>l.length-i) 0 (A5 _) ?_ ?_
 ·rw[Bw]
  show ∃ ρ,Wk _ (chS _ _ _ _ []) ρ
  unfold chS
  refine wkQ [] ?_ ?_<;>simp[-ζ,upd,aR,Γ0]
 ·intro i hi
  by_cases hlt:i<l.length
  ·obtain⟨⟨w,p,v⟩,hge⟩:∃ x,l[i]? = some x:=⟨_,Ab hlt⟩
   have hLi:=hLg i _ hge
   simp only at hLi
   have hLi':=cD hLi
   have hiL:i<L.length:=by omega
   have hT1:rsL (l.take (i+1))=rsL (l.take i)++[(p,v)]:=by rw[A3,hge];simp[rsL]
   have hB1:fA (rsL (l.take (i+1))) s=fA (rsL (l.take i)) s++if s/2^i%2=1 then[(p,v)]else[]:=by
    rw[hT1,aEo]
    have:(rsL (l.take i)).length=i:=by simp[rsL];omega
    rw[this]
   have hBl:(fA (rsL (l.take i)) s).length≤i:=by
    have h1:=pS (rsL (l.take i)) s
    have h2:∀ k s,iO k s≤k:=fun k=>by
     induction k with
     |zero=>intro s;simp[iO]
     |succ k ih=>intro s;have:=ih (s/2);simp only[iO];omega
    have h3:(rsL (l.take i)).length=i:=by simp[rsL];omega
    have:=h2 (rsL (l.take i)).length s
    omega
   have hw1:Ag.wrap ((i:Int)+1)=((i+1:Nat):Int):=aU
   have hw0:Ag.wrap (i:Int)=i:=aU
   have hsh:=aRd s i (by omega)
   have hx32:s/2^i<4294967296:=Bo (DU ..) hs
   have hand:dJ .and false (.d (.i .u32 ((s/2^i:Nat):Int))) (.d (.i .u32 1))=some (.i .u32 ((s/2^i%2:Nat):Int)):=by
    show some (D.i .u32 (bits .and .u32 ((s/2^i:Nat):Int) 1))=_
    rw[aMi _ hx32]
   generalize s/2^i=z at *
   generalize fA (rsL (l.take i)) s=T at *
   by_cases hz:z%2=1
   ·rw[Ar hz]at hB1
    rw[hz]at hand
    cases T with
    | nil =>
     have hm1:(1:Nat)≤maxLen:=bT (by decide)
     simp[-ζ,-ξ,↓KW,chS,hiL,hLi,hLi',hsh,hand,hw0,hw1,hm1]
     refine aM (i+1) (by omega) (by show l.length-(i+1)<l.length-i;omega) ?_
     show ∃ ρ,Wk _ (chS _ _ _ _ _) ρ
     rw[hB1]
     show ∃ ρ,Wk _ (chS _ _ _ _ ((p,v)::[])) ρ
     unfold chS
     refine wkQ [3] ?_ ?_<;>simp[-ζ,upd,aR,Γ0,Bl,bO,bGr]
    | cons x T =>
     have hbb:(T.length+1)*16≤140737488355328∧T.length+1≤1099511627776∧(T.length+1+1)*16≤140737488355328∧T.length+1+1≤1099511627776:=by
      simp only[Ah]at hBl;omega
     simp[-ζ,-ξ,↓KW,chS,hiL,hLi,hLi',hsh,hand,hw0,hw1,aHm,hbb,bT]
     refine aM (i+1) (by omega) (by show l.length-(i+1)<l.length-i;omega) ?_
     show ∃ ρ,Wk _ (chS _ _ _ _ _) ρ
     rw[hB1]
     show ∃ ρ,Wk _ (chS _ _ _ _ (x::(T++[(p,v)]))) ρ
     unfold chS
     refine wkQ [4] ?_ ?_<;>simp[-ζ,upd,aR,Γ0,Bl,bO,bPo,bGr]
   ·rw[Aj hz,E4]at hB1
    have hz0:z%2=0:=by omega
    rw[hz0]at hand
    cases T with
    | nil =>
     simp[-ζ,-ξ,↓KW,chS,hiL,hLi,hLi',hsh,hand,hw0,hw1]
     refine aM (i+1) (by omega) (by show l.length-(i+1)<l.length-i;omega) ?_
     show ∃ ρ,Wk _ (chS _ _ _ _ _) ρ
     rw[hB1]
     unfold chS
     refine wkQ [] ?_ ?_<;>simp[-ζ,upd,aR,Γ0]
    | cons x T =>
     simp[-ζ,-ξ,↓KW,chS,hiL,hLi,hLi',hsh,hand,hw0,hw1]
     refine aM (i+1) (by omega) (by show l.length-(i+1)<l.length-i;omega) ?_
     show ∃ ρ,Wk _ (chS _ _ _ _ _) ρ
     rw[hB1]
     unfold chS
     refine wkQ [1] ?_ ?_<;>simp[-ζ,upd,aR,Γ0]
  ·have hiL:¬i<L.length:=by omega
   rw[As (show l.length≤i by omega)]
   generalize fA (rsL l) s=T at *
   cases T with
   | nil =>
    simp[-ζ,-ξ,↓KW,chS,hiL]
    refine bC ?_
    simp[-ζ,-ξ,↓KW,oN]
   | cons x T =>
    have hf:∀ H:Hp,H 1=some (.cells 76 ((dR (x::T)).map AV.d))→frz H 8 (.own 1 0 (T.length+1) 2)=some (oN (x::T)):=fun H hH=>bVo rfl hH
    have e1:=wN (l:=x::T) (n:=T.length+1) rfl
    have e2:=aLv (l:=x::T) (n:=T.length+1) rfl
    have e3:=aHm (x::T)
    rw[show(x::T).length=T.length+1 from rfl]at e3
    simp[-ζ,-ξ,↓KW,chS,hiL]
    refine bC ?_
    simp[-ζ,-ξ,↓KW,oN,e1,e2,e3]
def aLo(q:Rat):List D:=[.b (decide (q.num<0)),aG (aN q.num.natAbs),.b false,aG (aN q.den)]
def gB(l:List Rat):D:=.sl (l.map aLo)
def dQ(l:List Rat):List D:=(l.map aLo).flatten
theorem aAs(l:List Rat):(dQ l).length=l.length*4:=by
 unfold dQ
 induction l with
 |nil=>rfl
 |cons x l ih=>simp only[BH,Cw,Bb,ih,Ah,aLo,Au];omega
theorem bGt(a b:List Rat):dQ (a++b)=dQ a++dQ b:=by simp[dQ]
theorem bGs(q:Rat):dQ [q]=[.b (decide (q.num<0)),aG (aN q.num.natAbs),.b false,aG (aN q.den)]:=rfl
theorem wO{l:List Rat}{n:Nat}(h:l.length=n):((dQ l).map AV.d).take (n*4)=(dQ l).map AV.d:=As (by rw[BB,aAs,h];exact Az _)
theorem aLw{l:List Rat}{n:Nat}(h:l.length=n):chunk 4 n (dQ l)=l.map aLo:=by
 subst h
 have:=aAv (k:=4) (by decide) (l.map aLo) (fun x hx=>by
  obtain⟨y,_,rfl⟩:=AZ.1 hx;rfl)
 rwa [BB]at this
theorem pO(l:List Rat):∃ L,gB l=.sl L∧L.length=l.length∧∀(i:Nat) (q:Rat),l[i]? = some q→L[i]? = some [.b (decide (q.num<0)),aG (aN q.num.natAbs),.b false,aG (aN q.den)]:=⟨_,rfl,by simp,fun i x hx=>by rw[Ai,hx];rfl⟩
theorem aLn(v:List Int):∃ L,fT v=.sl L∧L.length=v.length∧∀(i:Nat) (z:Int),v[i]? = some z→L[i]? = some [.b (decide (z<0)),aG (aN z.natAbs)]:=⟨_,rfl,by simp,fun i x hx=>by rw[Ai,hx];rfl⟩
def pB(v:List Int):List Rat:=v.map fun(z:Int)=>(z:Rat)
def qsS(L:List (List D))(i:Nat)(T:List Rat):St:=StL [(0,.d (.sl L)),(3,.own 1 0 T.length 4),(4,.d (.i .i64 i))] none [.cells 169 ((dQ T).map .d)]
set_option maxHeartbeats 4000000 in
set_option maxRecDepth 10000 in
theorem aFz[M:Mch Aa](v:List Int)(hv:v.length≤1000):Spec Aa 128 [fT v] (gB (pB v)):=by
 obtain⟨L,hL,hLl,hLg⟩:=aLn v
 rw[hL]
 refine bF (N:=21) Tryz.func128 ?_
 simp[-ζ,-ξ,↓KW]
 refine bK (τ:=Nat) (fun i=>i≤v.length) (fun i=>qsS L i (pB (v.take i))) (fun i=>v.length-i) 0 (A5 _) ?_ ?_
 ·rw[Bw]
  show ∃ ρ,Wk _ (qsS _ _ []) ρ
  unfold qsS
  refine wkQ [1] ?_ ?_<;>simp[-ζ,upd,aR,Γ0,dQ]
 ·intro i hi
  have hTl:(pB (v.take i)).length=i:=by simp[pB];omega
  by_cases hlt:i<v.length
  ·obtain⟨z,hge⟩:∃ x,v[i]? = some x:=⟨_,Ab hlt⟩
   have hLi:=hLg i _ hge
   have hLi':=cD hLi
   have hiL:i<L.length:=by omega
   have hW:=aJk z
   have hT1:pB (v.take (i+1))=(pB (v.take i))++[(z:Rat)]:=by rw[A3,hge];simp[pB]
   have hw0:Ag.wrap (i:Int)=i:=aU
   have hw1:Ag.wrap ((i:Int)+1)=((i+1:Nat):Int):=aU
   generalize(z:Rat)=q at *
   generalize(pB (v.take i))=T at *
   have hbb:(i+1)*64≤140737488355328∧i+1≤1099511627776:=by omega
   simp[-ζ,-ξ,↓KW,qsS,hiL,hLi,hLi',hw0,aA,aD,aC,aE,aB]
   refine aH hW ?_
   simp[-ζ,-ξ,↓KW,cK q,aAs,hTl,hbb,bT,hw1,aA,aD,aC,aE,aB]
   refine aM (i+1) (by omega) (by show v.length-(i+1)<v.length-i;omega) ?_
   show ∃ ρ,Wk _ (qsS _ _ _) ρ
   rw[hT1]
   unfold qsS
   refine wkQ [3] ?_ ?_<;>simp[-ζ,upd,aR,Γ0,Bl,bO,bGt,bGs,Bb,hTl]
  ·have hiL:¬i<L.length:=by omega
   rw[As (show v.length≤i by omega)]at hTl ⊢
   generalize(pB v)=T at *
   have e1:=wO hTl
   have e2:=aLw hTl
   have e3:=aAs T
   rw[hTl]at e3
   simp[-ζ,-ξ,↓KW,qsS,hiL]
   exact bC (by simp[-ζ,-ξ,↓KW,hTl,e1,e2,e3,gB])
def gQ(a b:List Rat)(c:Rat):List Rat:=(AK a.length).map fun i=>a.getD i 0-c*b.getD i 0
def lsS(A B:List (List D))(c:Rat)(i:Nat)(T:List Rat):St:=StL [(0,.d (.sl A)),(1,.d (.sl B)),(5,.ptr 1 0),(7,.own 2 0 T.length 4),(8,.d (.i .i64 i))] none [.cells 169 [.d (.b (decide (c.num<0))),.d (aG (aN c.num.natAbs)),.d (.b false),.d (aG (aN c.den))],.cells 169 ((dQ T).map .d)]
set_option maxHeartbeats 4000000 in
set_option maxRecDepth 10000 in
theorem aRo[M:Mch Aa](a b:List Rat)(c:Rat)(ha:a.length≤1000)(hab:a.length≤b.length)(hc:QS c)(hA:∀ q∈a,QS q)(hB:∀ q∈b,QS q)(hcb:∀ q∈b,QS (c*q)) :
  Spec Aa 132 [gB a,gB b,dK c] (gB (gQ a b c)):=by
 obtain⟨LA,hLA,hLAl,hLAg⟩:=pO a
 obtain⟨LB,hLB,hLBl,hLBg⟩:=pO b
 rw[hLA,hLB]
 refine bF (N:=31) Tryz.func132 ?_
 simp[-ζ,-ξ,↓KW,cK c,aA,aD,aC,aE,aB]
 refine bK (τ:=Nat) (fun i=>i≤a.length) (fun i=>lsS LA LB c i ((gQ a b c).take i)) (fun i=>a.length-i) 0 (A5 _) ?_ ?_
 ·rw[Bw]
  show ∃ ρ,Wk _ (lsS _ _ _ _ []) ρ
  unfold lsS
  refine wkQ [1,2] ?_ ?_<;>simp[-ζ,upd,aR,Γ0,dQ]
 ·intro i hi
  have hTl:((gQ a b c).take i).length=i:=by simp[gQ];omega
  by_cases hlt:i<a.length
  ·obtain⟨x,hx⟩:∃ x,a[i]? = some x:=⟨_,Ab hlt⟩
   obtain⟨y,hy⟩:∃ x,b[i]? = some x:=⟨_,Ab (by omega)⟩
   have hLi:=hLAg i _ hx
   have hLi':=cD hLi
   have hLb:=hLBg i _ hy
   have hLb':=cD hLb
   have hiL:i<LA.length:=by omega
   have hiB:i<LB.length:=by omega
   have hMl:=aOe c y hc (hB y (Al hy))
   have hSb:=bTu x (c*y) (hA x (Al hx)) (hcb y (Al hy))
   have hT1:(gQ a b c).take (i+1)=(gQ a b c).take i++[x-c*y]:=by
    rw[A3]
    congr 1
    unfold gQ
    rw[Ai,BO hlt,AW,C0,Af,Af,hx,hy];rfl
   have hw0:Ag.wrap (i:Int)=i:=aU
   have hw1:Ag.wrap ((i:Int)+1)=((i+1:Nat):Int):=aU
   generalize x-c*y=u at *
   generalize c*y=w at *
   generalize(gQ a b c).take i=T at *
   have hbb:(i+1)*64≤140737488355328∧i+1≤1099511627776:=by omega
   simp[-ζ,-ξ,↓KW,lsS,hiL,hiB,hLi,hLi',hLb,hLb',hw0,aA,aD,aC,aE,aB]
   refine aH hMl ?_
   simp[-ζ,-ξ,↓KW,cK w,aA,aD,aC,aE,aB]
   refine aH hSb ?_
   simp[-ζ,-ξ,↓KW,cK u,aAs,hTl,hbb,bT,hw1,aA,aD,aC,aE,aB]
   refine aM (i+1) (by omega) (by show a.length-(i+1)<a.length-i;omega) ?_
   show ∃ ρ,Wk _ (lsS _ _ _ _ _) ρ
   rw[hT1]
   unfold lsS
   refine wkQ [1,4] ?_ ?_<;>simp[-ζ,upd,aR,Γ0,Bl,bO,bGt,bGs,Bb,hTl]
  ·have hiL:¬i<LA.length:=by omega
   rw[As (show(gQ a b c).length≤i by simp[gQ];omega)]at hTl ⊢
   generalize gQ a b c=T at *
   have e1:=wO hTl
   have e2:=aLw hTl
   have e3:=aAs T
   rw[hTl]at e3
   simp[-ζ,-ξ,↓KW,lsS,hiL]
   exact bC (by simp[-ζ,-ξ,↓KW,hTl,e1,e2,e3,gB])
end Go.Am
end
section
open List renaming map_map→ζ,mapM_map→ξ
namespace Go.Am
def en(M:List (List Rat))(i j:Nat):Rat:=(M.getD i []).getD j 0
def pad(n:Nat)(M:List (List Rat))(i j:Nat):Rat:=if i<n∧j<n then en M i j else if i=j then 1 else 0
theorem vG{n:Nat}{M:List (List Rat)}{i j:Nat}(h:i<n∧j<n):pad n M i j=en M i j:=Ar h
theorem qS{n:Nat}{M:List (List Rat)}{i j:Nat}(h:¬(i<n∧j<n)):pad n M i j=if i=j then 1 else 0:=Aj h
def dN(n:Nat)(M:List (List Rat)):Rat:=mG (pad n M)
def dg(M:List (List Rat)):Nat→Rat
 |0=>1
 |k+1=>dg M k*en M k k
theorem aAp{M M':List (List Rat)}:∀ k:Nat,(∀ i j,i<k→en M' i j=en M i j)→dg M' k=dg M k
 |0,_=>rfl
 |k+1,h=>by rw[dg,dg,h k k (Ci k),aAp k fun i j hi=>h i j (Nat.lt_succ_of_lt hi)]
theorem gX{α:Type}{l:List α}{i r:Nat}{x d:α}(hi:i<l.length):(l.set i x).getD r d=if r=i then x else l.getD r d:=by
 rw[Af,List.getElem?_set]
 by_cases h:r=i
 ·subst h;rw[Ar rfl,Ar rfl,Ar hi];rfl
 ·rw[Aj (fun e=>h e.symm),Aj h,Af]
def Sg(n k:Nat)(D:Rat)(M:List (List Rat))(o:Rat):Prop:=∃ s:Rat,(s=1∨s=-1)∧o=s*dg M k∧D=s*dN n M
def Lo(n k:Nat)(M:List (List Rat)):Prop:=∀ i j,j<k→j<i→i<n→en M i j=0
def Rw(n:Nat)(M:List (List Rat)):Prop:=M.length=n∧∀ i,i<n→(M.getD i []).length=n
theorem bAy(n:Nat)(M:List (List Rat)):Sg n 0 (dN n M) M 1:=⟨1,.inl rfl,by simp[dg],by simp⟩
theorem bLa{n k:Nat}{D o:Rat}{M:List (List Rat)}(hn:n≤4)(hk:k<n)(h:Sg n k D M o)(hl:Lo n k M)(h0:∀ i,k≤i→i<n→en M i k=0):D=0:=by
 obtain⟨s,_,_,rfl⟩:=h
 have:dN n M=0:=by
  refine aXg (pad n M) (k:=k) (by omega) (fun i j h1 h2 h3=>?_) fun i h1 h2=>?_
  ·unfold pad
   by_cases h:i<n∧j<n
   ·rw[Ar h];exact hl i j h2 h1 h.1
   ·rw[Aj h,Aj (by omega)]
  ·unfold pad
   by_cases h:i<n∧k<n
   ·rw[Ar h];exact h0 i h1 h.1
   ·rw[Aj h,Aj (by omega)]
 rw[this];simp
def oS(M:List (List Rat))(k a:Nat):List (List Rat):=(M.set k (M.getD a [])).set a (M.getD k [])
theorem bGa{M:List (List Rat)}{k a:Nat}(hk:k<M.length)(ha:a<M.length)(hka:k≠a)(i j:Nat):en (oS M k a) i j=en M (swp k a i) j:=by
 unfold en oS swp
 rw[gX (by simpa using ha),gX hk]
 by_cases h1:i=a
 ·rw[Ar h1,h1,Aj (fun e=>hka e.symm),Ar rfl]
 ·rw[Aj h1]
  by_cases h2:i=k
  ·rw[Ar h2,Ar h2]
  ·rw[Aj h2,Aj h2,Aj h1]
theorem bLb{n k a:Nat}{D o:Rat}{M:List (List Rat)}(hn:n≤4)(hM:M.length=n)(hk:k<a)(ha:a<n)(h:Sg n k D M o):Sg n k D (oS M k a) (-o):=by
 obtain⟨s,hs,rfl,rfl⟩:=h
 have he:=bGa (M:=M) (k:=k) (a:=a) (by omega) (by omega) (by omega)
 have hd:dN n (oS M k a)=- dN n M:=by
  unfold dN
  rw[←aXh (pad n M) hk (by omega)]
  congr 1
  funext i j
  have h1:swp k a i<n↔i<n:=by unfold swp;split<;>(try split)<;>omega
  by_cases h:i<n∧j<n
  ·rw[vG h,vG ⟨h1.2 h.1,h.2⟩,he]
  ·rw[qS h,qS fun h'=>h ⟨h1.1 h'.1,h'.2⟩]
   by_cases h3:i<n
   ·rw[Aj (by omega),Aj (by have:=h1.2 h3;omega)]
   ·have:swp k a i=i:=by unfold swp;rw[Aj (by omega),Aj (by omega)]
    rw[this]
 refine⟨-s,by rcases hs with rfl|rfl<;>simp,?_,?_⟩
 ·rw[aAp (M:=M) (M':=oS M k a) k fun i j hi=>by rw[he];unfold swp;rw[Aj (by omega),Aj (by omega)]]
  grind
 ·rw[hd];grind
theorem bNr{n k a:Nat}{M:List (List Rat)}(hM:M.length=n)(hk:k<a)(ha:a<n)(h:Lo n k M):Lo n k (oS M k a):=fun i j h1 h2 h3=>by
 rw[bGa (by omega) (by omega) (by omega)]
 unfold swp
 split
 ·exact h a j h1 (by omega) ha
 ·split
  ·exact h k j h1 (by omega) (by omega)
  ·exact h i j h1 h2 h3
theorem bLf{n k a:Nat}{M:List (List Rat)}(hM:Rw n M)(hk:k<n)(ha:a<n):Rw n (oS M k a):=by
 refine⟨by simp[oS,hM.1],fun i hi=>?_⟩
 unfold oS
 rw[gX (by rw[Df,hM.1];exact ha),gX (by rw[hM.1];exact hk)]
 split
 ·exact hM.2 k hk
 ·split
  ·exact hM.2 a ha
  ·exact hM.2 i hi
def elR(M:List (List Rat))(k i:Nat)(c:Rat):List (List Rat):=M.set i (gQ (M.getD i []) (M.getD k []) c)
theorem aTb{n:Nat}{M:List (List Rat)}{k a:Nat}(c:Rat)(hM:Rw n M)(ha:a<n)(i j:Nat)(hj:j<n):en (elR M k a c) i j=if i=a then en M a j-c*en M k j else en M i j:=by
 unfold en elR
 rw[gX (by rw[hM.1];exact ha)]
 by_cases h:i=a
 ·rw[Ar h,Ar h]
  unfold gQ
  rw[Af,Ai,BO (by rw[hM.2 a ha];exact hj)];rfl
 ·rw[Aj h,Aj h]
theorem aRh{n:Nat}{M:List (List Rat)}{k a:Nat}(c:Rat)(hM:Rw n M)(ha:a<n):Rw n (elR M k a c):=by
 refine⟨by simp[elR,hM.1],fun i hi=>?_⟩
 unfold elR
 rw[gX (by rw[hM.1];exact ha)]
 split
 ·simp only[gQ,BB,List.length_range];exact hM.2 a ha
 ·exact hM.2 i hi
theorem bRb{n k K a:Nat}{D o:Rat}{M:List (List Rat)}(c:Rat)(hn:n≤4)(hM:Rw n M)(hk:k<a)(ha:a<n)(hK:K≤a)(hKn:K≤n)(h:Sg n K D M o):Sg n K D (elR M k a c) o:=by
 obtain⟨s,hs,rfl,rfl⟩:=h
 have he:=aTb (k:=k) c hM ha
 refine⟨s,hs,?_,?_⟩
 ·rw[aAp (M:=M) (M':=elR M k a c) K fun i j hi=>by
   unfold en elR
   rw[gX (by rw[hM.1];exact ha),Aj (by omega)]]
 ·congr 1
  unfold dN
  rw[←bGp (pad n M) c hk (by omega)]
  congr 1
  funext i j
  symm
  by_cases h:i<n∧j<n
  ·rw[vG h,he i j h.2,vG ⟨ha,h.2⟩,vG ⟨by omega,h.2⟩,vG h]
  ·rw[qS h]
   by_cases h2:i=a
   ·subst h2
    rw[Ar rfl,qS (by omega),qS (by omega),Aj (by omega),Aj (by omega)];grind
   ·rw[Aj h2,qS h]
theorem bRk{n k a:Nat}{M:List (List Rat)}(c:Rat)(hM:Rw n M)(hk:k<a)(ha:a<n)(h:Lo n k M):Lo n k (elR M k a c):=fun i j h1 h2 h3=>by
 rw[aTb c hM ha i j (by omega)]
 split
 ·rw[h a j h1 (by omega) ha,h k j h1 (by omega) (by omega)];grind
 ·exact h i j h1 h2 h3
theorem bAz{n k:Nat}{D o:Rat}{M:List (List Rat)}(h:Sg n k D M o):Sg n (k+1) D M (o*en M k k):=by
 obtain⟨s,hs,rfl,rfl⟩:=h
 exact⟨s,hs,by rw[dg,Rat.mul_assoc],rfl⟩
theorem aSl{n k:Nat}{M:List (List Rat)}(h:Lo n k M)(h0:∀ r,k<r→r<n→en M r k=0):Lo n (k+1) M:=fun i j h1 h2 h3=>by
 by_cases hj:j=k
 ·rw[hj];exact h0 i (by omega) h3
 ·exact h i j (by omega) h2 h3
theorem bGd{M:List (List Rat)}{k i r:Nat}{c:Rat}(hi:i<M.length):(elR M k i c).getD r []=if r=i then gQ (M.getD i []) (M.getD k []) c else M.getD r []:=by
 unfold elR;rw[gX hi]
theorem bTb{M:List (List Rat)}{k a r:Nat}(hk:k<M.length)(ha:a<M.length):(oS M k a).getD r []=if r=a then M.getD k []else if r=k then M.getD a []else M.getD r []:=by
 unfold oS;rw[gX (by simpa using ha),gX hk]
theorem bTk{n:Nat}{D o:Rat}{M:List (List Rat)}(hn:n≤4)(h:Sg n n D M o)(hl:Lo n n M):o=D:=by
 obtain⟨s,_,rfl,rfl⟩:=h
 congr 1
 have ht:=bGo (pad n M) fun i j h1 h2=>by
  unfold pad
  by_cases h:i<n∧j<n
  ·rw[Ar h];exact hl i j h.2 h1 h.1
  ·rw[Aj h,Aj (by omega)]
 unfold dN
 rw[ht]
 have:n=0∨n=1∨n=2∨n=3∨n=4:=by omega
 rcases this with rfl|rfl|rfl|rfl|rfl<;>simp[pad,dg]
end Go.Am
end
