/- The reference's spaces. No condition. -/
import Derived.Test.YtaopbfbimpkomaaGreatE4
import Derived.Test.YtaopbfbimpkomaaGreatE3
open Bool renaming and_eq_true→AI,and_true→EK,or_eq_true→Dd,true_and→Eo
open Go.IntKind renaming i64→Ah,u8→Cg
open Int renaming emod_nonneg→Dy,mul_add→CL,mul_assoc→CM,mul_comm→BG,mul_ediv_add_emod→Dq,mul_neg→DQ,natAbs_ediv_le_natAbs→Dt,natAbs_mul→BJ,natAbs_natCast→Cx,natAbs_neg→CF,neg_mul→C5,sign_eq_zero_iff_zero→CY,zero_ediv→Fu
open List renaming all_cons→DD,all_eq_true→AO,append_assoc→AZ,append_nil→Bd,drop→C1,drop_eq_getElem_cons→A2,drop_eq_nil_of_le→Bo,eq_nil_of_length_eq_zero→Au,eq_of_mem_replicate→Ep,ext_getElem→DK,filter_append→BT,getD_eq_getElem?_getD→Ac,getElem?_append_left→AF,getElem?_append_right→AA,getElem?_cons_succ→A6,getElem?_cons_zero→BD,getElem?_eq_getElem→Aa,getElem?_eq_none→AG,getElem?_eq_some_iff→Aj,getElem?_map→Ax,getElem?_replicate→Ct,getElem_map→Cm,getElem_mem→Ak,getElem_of_mem→Bi,getElem_range→Et,length_append→Al,length_cons→AB,length_drop→CJ,length_map→AN,length_nil→A8,length_replicate→D2,length_singleton→Ar,length_take→AM,length_zip→ET,map_congr_left→Bu,map_cons→AR,map_drop→CA,map_map→C3,map_take→Cc,mem_append→A9,mem_cons→AD,mem_cons_of_mem→As,mem_cons_self→Av,mem_of_getElem?→Aq,mem_of_mem_drop→D8,mem_singleton→AP,replicate→Ay,take→Cd,take_add_one→AJ,take_of_length_le→Ai,take_zero→BZ
open Nat renaming add_comm→CB,add_mul→Bp,add_sub_cancel→A7,add_sub_cancel_left→Ex,add_zero→BW,le_refl→Az,le_trans→Ap,lt_of_le_of_lt→Bt,lt_or_ge→Bc,lt_succ_self→Ad,mul_add→BX,mul_assoc→BF,mul_comm→BU,mul_le_mul→B9,mul_le_mul_left→BE,mul_le_mul_right→AX,mul_one→CK,one_le_two_pow→DV,one_mul→Cn,pow_add→CC,pow_le_pow_right→BI,pow_succ→Cf,sub_lt_sub_left→Ab,sub_self→Cq,sub_zero→Ed,succ_ne_zero→Dl,zero_add→Bf,zero_le→An
open Option renaming getD_some→Ba,isSome_iff_exists→CE,map_eq_some_iff→Ao,map_some→AW
open Option.some renaming inj→Bg,injEq→AT
open _root_ renaming decide_eq_false→Bq,decide_eq_true→BA,decide_eq_true_eq→AH,if_neg→Ae,if_pos→Ag
section
set_option linter.unusedVariables false
set_option linter.unusedSimpArgs false
open List (map_map mapM_map)
open Go Go.Am Go.Proofs
namespace Go.Am
theorem kN{x y q r:Int}(hy:y≠0)(h:r+y*q=x)(h0:0≤r)(h1:r<(y.natAbs:Int)):x/y=q∧x%y=r:=by
 by_cases hp:0<y
 ·exact(Int.ediv_emod_unique hp).2 ⟨h,h0,by omega⟩
 ·obtain⟨z,hz⟩:∃ z,y=-z:=⟨-y,by omega⟩
  subst hz
  have:=(Int.ediv_emod_unique (a:=x) (b:=z) (q:=-q) (r:=r) (by omega)).2 ⟨by rw[←h,DQ,C5],h0,by omega⟩
  rw[Int.ediv_neg,Int.emod_neg]
  omega
theorem aGo(x:Int)(hx:(aX x.natAbs).length≤1099511627776):Spec Tryz.prog 78 [aN (aX x.natAbs),.b (decide (x<0))] (encZ x):=by
 have hm:=fZ (aX x.natAbs) (decide (x<0)) hx
 rwa [dV (cM _),cY,iN]at hm
theorem bGt(x y:Int)(hy:y≠0){qq rr:Nat}(hqq:x.natAbs/y.natAbs=qq)(hrr:x.natAbs%y.natAbs=rr) :
  (rr<y.natAbs)∧qq*y.natAbs+rr=x.natAbs∧(¬x<0→¬y<0→x/y=qq∧x%y=rr)∧(¬x<0→y<0→x/y=-(qq:Int)∧x%y=rr) ∧
  (x<0→rr=0→¬y<0→x/y=-(qq:Int)∧x%y=0)∧(x<0→rr=0→y<0→x/y=qq∧x%y=0) ∧
  (x<0→0<rr→¬y<0→x/y=-((qq:Int)+1)∧x%y=(y.natAbs:Int)-rr)∧(x<0→0<rr→y<0→x/y=(qq:Int)+1∧x%y=(y.natAbs:Int)-rr):=by
 have hya:0<y.natAbs:=by omega
 have h1:rr<y.natAbs:=by rw[←hrr];exact Nat.mod_lt _ hya
 have h2:qq*y.natAbs+rr=x.natAbs:=by rw[←hqq,←hrr,BU];exact Nat.div_add_mod ..
 have h3:(qq:Int)*(y.natAbs:Int)+rr=(x.natAbs:Int):=by exact_mod_cast h2
 have ep:¬y<0→(y.natAbs:Int)=y:=fun h=>by omega
 have en:y<0→(y.natAbs:Int)=-y:=fun h=>by omega
 refine⟨h1,h2,fun hx h=>?_,fun hx h=>?_,fun hx h0 h=>?_,fun hx h0 h=>?_,fun hx h0 h=>?_,fun hx h0 h=>?_⟩
 ·exact kN hy (by rw[ep h,BG]at h3;omega) (by omega) (by omega)
 ·exact kN hy (by rw[en h,DQ,BG]at h3;rw[DQ];omega) (by omega) (by omega)
 ·exact kN hy (by rw[ep h,BG]at h3;rw[DQ];omega) (by omega) (by omega)
 ·exact kN hy (by rw[en h,DQ,BG]at h3;omega) (by omega) (by omega)
 ·exact kN hy (by rw[ep h,BG]at h3;rw[ep h,DQ,CL];omega) (by omega) (by omega)
 ·exact kN hy (by rw[en h,DQ,BG]at h3;rw[en h,CL];omega) (by omega) (by omega)
theorem aFd(n:Nat):(aX (n+1)).length≤(aX n).length+1:=by
 have h:=fR (Az (aX n).length)
 refine fC ?_
 rw[Cf]
 have:0<4294967296^(aX n).length:=Nat.pow_pos (by decide)
 omega
theorem aYl(y:Int)(hy:(aX y.natAbs).length≤1099511627776):Spec Tryz.prog 78 [aN (aX y.natAbs),.b false] (encZ (y.natAbs:Int)):=by
 have hm:=fZ (aX y.natAbs) false hy
 rw[dV (cM _),cY]at hm
 exact hm
set_option maxRecDepth 10000 in
theorem aFv(x y:Int)(hy:y≠0)(hx:(aX x.natAbs).length≤34359738368)(hyl:(aX y.natAbs).length≤34359738368):Spec Tryz.prog 130 [encZ x,encZ y] (.tp [encZ (x/y),encZ (x%y),.i .i64 0]):=by
 have hx0:=hx
 have hyl0:=hyl
 refine bBj (N:=56) aI Tryz.func130 rfl rfl rfl (by kernel_rfl) (by kernel_rfl) (by simp) ?_
 obtain⟨qq,hqq⟩:∃ q,x.natAbs/y.natAbs=q:=⟨_,rfl⟩
 obtain⟨rr,hrr⟩:∃ q,x.natAbs%y.natAbs=q:=⟨_,rfl⟩
 have hf:=bGt x y hy hqq hrr
 obtain⟨Q,hQ⟩:∃ Q,x/y=Q:=⟨_,rfl⟩
 obtain⟨R,hR⟩:∃ Q,x%y=Q:=⟨_,rfl⟩
 have hm1:=aGo x (by omega)
 have hm2:=aGo y (by omega)
 have hd:=aXl x.natAbs y.natAbs qq rr hqq hrr (by omega) hx hyl
 have hs:=eX y
 have hs0:y.sign≠0:=fun h=>hy (CY.1 h)
 have hmy:=aYl y (by omega)
 have hlq:(aX qq).length≤34359738368:=Ap (dW (by rw[←hqq];exact Nat.div_le_self ..)) hx0
 have hlr:(aX rr).length≤34359738368:=Ap (dW (by have:=hf.1;omega)) hyl0
 have hnq:((qq:Int)).natAbs=qq:=Cx qq
 have hnr:((rr:Int)).natAbs=rr:=Cx rr
 have hny0:((y.natAbs:Int)).natAbs=y.natAbs:=Cx _
 have hof:=vV 1 (by decide) (by decide)
 have had:=qF (qq:Int) 1 (by rw[hnq];omega) (Ap (fC (k:=1) (by decide)) (by decide))
 have hsu:=aIl (y.natAbs:Int) (rr:Int) (by rw[hny0];omega) (by rw[hnr];omega)
 have hn1:=mX (qq:Int) (by rw[hnq];omega)
 have hn2:=mX ((qq:Int)+1) (by
  have:((qq:Int)+1).natAbs=qq+1:=by omega
  rw[this]
  have:=aFd qq
  omega)
 have hsr:=eX (rr:Int)
 have hz:∀ z:Int,∃ s m,encZ z=.ag [.b s,aN m]:=fun z=>⟨_,_,rfl⟩
 obtain⟨sq,mq,eq⟩:=hz qq
 obtain⟨sr,mr,er⟩:=hz rr
 obtain⟨s1,m1,e1⟩:=hz 1
 obtain⟨sp,mp,ep⟩:=hz ((qq:Int)+1)
 obtain⟨sy,my,ey0⟩:=hz (y.natAbs:Int)
 obtain⟨sd,md,ed⟩:=hz ((y.natAbs:Int)-rr)
 obtain⟨sn,mn,en1⟩:=hz (-(qq:Int))
 obtain⟨sm,mm,en2⟩:=hz (-((qq:Int)+1))
 rw[eq,er]at hd
 rw[e1]at hof
 rw[eq,e1,ep]at had
 rw[ey0,er,ed]at hsu
 rw[eq,en1]at hn1
 rw[ep,en2]at hn2
 rw[er]at hsr
 rw[ey0]at hmy
 have hsg0:rr=0→(rr:Int).sign=0:=fun h=>by rw[h];rfl
 have hsg1:¬rr=0→(rr:Int).sign=1:=fun h=>Int.sign_eq_one_of_pos (by omega)
 rw[hQ,hR]at hf ⊢
 have ex:encZ x=.ag [.b (decide (x<0)),aN (aX x.natAbs)]:=rfl
 have ey:encZ y=.ag [.b (decide (y<0)),aN (aX y.natAbs)]:=rfl
 rw[ex]at hm1 ⊢
 rw[ey]at hm2 hs ⊢
 generalize aX x.natAbs=a at *
 generalize aX y.natAbs=b at *
 by_cases hnx:x<0<;>by_cases hny:y<0
 ·rw[BA hnx,BA hny]at *
  by_cases hr0:rr=0
  ·obtain⟨f1,f2⟩:=hf.2.2.2.2.2.1 hnx hr0 hny
   have e0:encZ 0=.ag [.b sr,aN mr]:=by rw[←er,hr0];rfl
   have hsg:=hsg0 hr0
   rw[f1,f2,eq,e0]
   have hs1:(y.sign==0)=false:=by simpa using hs0
   simp[-map_map,-mapM_map,↓KW,↓aO,↓aP,aS,aN]
   refine aA (ds:=[aN a,.b true]) (by rfl) hm1 ?_
   simp[-map_map,-mapM_map,↓KW,↓aO,↓aP,aS,aN]
   refine aA (ds:=[aN b,.b true]) (by rfl) hm2 ?_
   simp[-map_map,-mapM_map,↓KW,↓aO,↓aP,aS,aN]
   refine aA (ds:=[.ag [.b true,aN b]]) ?_ hs ?_
   ·simp[-map_map,-mapM_map,↓KW,↓aO,↓aP,aS,aN,hs1]
   simp[-map_map,-mapM_map,↓KW,↓aO,↓aP,aS,aN,hs1]
   refine aA (ds:=[aN a,aN b]) (by rfl) hd ?_
   simp[-map_map,-mapM_map,↓KW,↓aO,↓aP,aS,aN]
   refine aA (ds:=[.ag [.b sr,aN mr]]) ?_ hsr ?_
   ·simp[-map_map,-mapM_map,↓KW,↓aO,↓aP,aS,aN,hsg]
   simp[-map_map,-mapM_map,↓KW,↓aO,↓aP,aS,aN,hsg]
   refine mL 0 1 (by kernel_rfl) rfl rfl ?_ ?_
   ·simp[-map_map,-mapM_map,↓KW,↓aO,↓aP,aS,aN]
    refine mL 1 2 (by kernel_rfl) rfl rfl ?_ ?_
    ·simp[-map_map,-mapM_map,↓KW,↓aO,↓aP,aS,aN]
     refine cA 2 (by kernel_rfl) rfl ?_
     simp[-map_map,-mapM_map,↓KW,↓aO,↓aP,aS,aN]
     refine cA 3 (by kernel_rfl) rfl ?_
     simp[-map_map,-mapM_map,↓KW,↓aO,↓aP,aS,aN]
     refine cA 4 (by kernel_rfl) rfl ?_
     simp[-map_map,-mapM_map,↓KW,↓aO,↓aP,aS,aN]
     refine iP (by kernel_rfl) ?_
     simp[-map_map,-mapM_map,↓KW,↓aO,↓aP,aS,aN,cN]
    ·simp[-map_map,-mapM_map,↓KW,↓aO,↓aP,aS,aN]
     refine cA 1 (by kernel_rfl) rfl ?_
     simp[-map_map,-mapM_map,↓KW,↓aO,↓aP,aS,aN]
     refine cA 3 (by kernel_rfl) rfl ?_
     simp[-map_map,-mapM_map,↓KW,↓aO,↓aP,aS,aN]
     refine cA 4 (by kernel_rfl) rfl ?_
     simp[-map_map,-mapM_map,↓KW,↓aO,↓aP,aS,aN]
     refine iP (by kernel_rfl) ?_
     simp[-map_map,-mapM_map,↓KW,↓aO,↓aP,aS,aN,cN]
   ·simp[-map_map,-mapM_map,↓KW,↓aO,↓aP,aS,aN]
    refine cA 0 (by kernel_rfl) rfl ?_
    simp[-map_map,-mapM_map,↓KW,↓aO,↓aP,aS,aN]
    refine cA 2 (by kernel_rfl) rfl ?_
    simp[-map_map,-mapM_map,↓KW,↓aO,↓aP,aS,aN]
    refine cA 3 (by kernel_rfl) rfl ?_
    simp[-map_map,-mapM_map,↓KW,↓aO,↓aP,aS,aN]
    refine cA 4 (by kernel_rfl) rfl ?_
    simp[-map_map,-mapM_map,↓KW,↓aO,↓aP,aS,aN]
    refine iP (by kernel_rfl) ?_
    simp[-map_map,-mapM_map,↓KW,↓aO,↓aP,aS,aN,cN]
  ·obtain⟨f1,f2⟩:=hf.2.2.2.2.2.2.2 hnx (by omega) hny
   have hsg:=hsg1 hr0
   rw[f1,f2,ep,ed]
   have hs1:(y.sign==0)=false:=by simpa using hs0
   simp[-map_map,-mapM_map,↓KW,↓aO,↓aP,aS,aN]
   refine aA (ds:=[aN a,.b true]) (by rfl) hm1 ?_
   simp[-map_map,-mapM_map,↓KW,↓aO,↓aP,aS,aN]
   refine aA (ds:=[aN b,.b true]) (by rfl) hm2 ?_
   simp[-map_map,-mapM_map,↓KW,↓aO,↓aP,aS,aN]
   refine aA (ds:=[.ag [.b true,aN b]]) ?_ hs ?_
   ·simp[-map_map,-mapM_map,↓KW,↓aO,↓aP,aS,aN,hs1]
   simp[-map_map,-mapM_map,↓KW,↓aO,↓aP,aS,aN,hs1]
   refine aA (ds:=[aN a,aN b]) (by rfl) hd ?_
   simp[-map_map,-mapM_map,↓KW,↓aO,↓aP,aS,aN]
   refine aA (ds:=[.ag [.b sr,aN mr]]) ?_ hsr ?_
   ·simp[-map_map,-mapM_map,↓KW,↓aO,↓aP,aS,aN,hsg]
   simp[-map_map,-mapM_map,↓KW,↓aO,↓aP,aS,aN,hsg]
   refine aA (ds:=[.i .i64 1]) (by rfl) hof ?_
   simp[-map_map,-mapM_map,↓KW,↓aO,↓aP,aS,aN]
   refine aA (ds:=[.ag [.b sq,aN mq],.ag [.b s1,aN m1]]) ?_ had ?_
   ·simp[-map_map,-mapM_map,↓KW,↓aO,↓aP,aS,aN]
   simp[-map_map,-mapM_map,↓KW,↓aO,↓aP,aS,aN]
   refine aA (ds:=[aN b,.b false]) (by rfl) hmy ?_
   simp[-map_map,-mapM_map,↓KW,↓aO,↓aP,aS,aN]
   refine aA (ds:=[.ag [.b sy,aN my],.ag [.b sr,aN mr]]) ?_ hsu ?_
   ·simp[-map_map,-mapM_map,↓KW,↓aO,↓aP,aS,aN]
   simp[-map_map,-mapM_map,↓KW,↓aO,↓aP,aS,aN]
   refine mL 0 1 (by kernel_rfl) rfl rfl ?_ ?_
   ·simp[-map_map,-mapM_map,↓KW,↓aO,↓aP,aS,aN]
    refine mL 1 2 (by kernel_rfl) rfl rfl ?_ ?_
    ·simp[-map_map,-mapM_map,↓KW,↓aO,↓aP,aS,aN]
     refine cA 2 (by kernel_rfl) rfl ?_
     simp[-map_map,-mapM_map,↓KW,↓aO,↓aP,aS,aN]
     refine cA 3 (by kernel_rfl) rfl ?_
     simp[-map_map,-mapM_map,↓KW,↓aO,↓aP,aS,aN]
     refine cA 4 (by kernel_rfl) rfl ?_
     simp[-map_map,-mapM_map,↓KW,↓aO,↓aP,aS,aN]
     refine iP (by kernel_rfl) ?_
     simp[-map_map,-mapM_map,↓KW,↓aO,↓aP,aS,aN,cN]
    ·simp[-map_map,-mapM_map,↓KW,↓aO,↓aP,aS,aN]
     refine cA 1 (by kernel_rfl) rfl ?_
     simp[-map_map,-mapM_map,↓KW,↓aO,↓aP,aS,aN]
     refine cA 3 (by kernel_rfl) rfl ?_
     simp[-map_map,-mapM_map,↓KW,↓aO,↓aP,aS,aN]
     refine cA 4 (by kernel_rfl) rfl ?_
     simp[-map_map,-mapM_map,↓KW,↓aO,↓aP,aS,aN]
     refine iP (by kernel_rfl) ?_
     simp[-map_map,-mapM_map,↓KW,↓aO,↓aP,aS,aN,cN]
   ·simp[-map_map,-mapM_map,↓KW,↓aO,↓aP,aS,aN]
    refine cA 0 (by kernel_rfl) rfl ?_
    simp[-map_map,-mapM_map,↓KW,↓aO,↓aP,aS,aN]
    refine cA 2 (by kernel_rfl) rfl ?_
    simp[-map_map,-mapM_map,↓KW,↓aO,↓aP,aS,aN]
    refine cA 3 (by kernel_rfl) rfl ?_
    simp[-map_map,-mapM_map,↓KW,↓aO,↓aP,aS,aN]
    refine cA 4 (by kernel_rfl) rfl ?_
    simp[-map_map,-mapM_map,↓KW,↓aO,↓aP,aS,aN]
    refine iP (by kernel_rfl) ?_
    simp[-map_map,-mapM_map,↓KW,↓aO,↓aP,aS,aN,cN]
 ·rw[BA hnx,Bq hny]at *
  by_cases hr0:rr=0
  ·obtain⟨f1,f2⟩:=hf.2.2.2.2.1 hnx hr0 hny
   have e0:encZ 0=.ag [.b sr,aN mr]:=by rw[←er,hr0];rfl
   have hsg:=hsg0 hr0
   rw[f1,f2,en1,e0]
   have hs1:(y.sign==0)=false:=by simpa using hs0
   simp[-map_map,-mapM_map,↓KW,↓aO,↓aP,aS,aN]
   refine aA (ds:=[aN a,.b true]) (by rfl) hm1 ?_
   simp[-map_map,-mapM_map,↓KW,↓aO,↓aP,aS,aN]
   refine aA (ds:=[aN b,.b false]) (by rfl) hm2 ?_
   simp[-map_map,-mapM_map,↓KW,↓aO,↓aP,aS,aN]
   refine aA (ds:=[.ag [.b false,aN b]]) ?_ hs ?_
   ·simp[-map_map,-mapM_map,↓KW,↓aO,↓aP,aS,aN,hs1]
   simp[-map_map,-mapM_map,↓KW,↓aO,↓aP,aS,aN,hs1]
   refine aA (ds:=[aN a,aN b]) (by rfl) hd ?_
   simp[-map_map,-mapM_map,↓KW,↓aO,↓aP,aS,aN]
   refine aA (ds:=[.ag [.b sr,aN mr]]) ?_ hsr ?_
   ·simp[-map_map,-mapM_map,↓KW,↓aO,↓aP,aS,aN,hsg]
   simp[-map_map,-mapM_map,↓KW,↓aO,↓aP,aS,aN,hsg]
   refine aA (ds:=[.ag [.b sq,aN mq]]) ?_ hn1 ?_
   ·simp[-map_map,-mapM_map,↓KW,↓aO,↓aP,aS,aN]
   simp[-map_map,-mapM_map,↓KW,↓aO,↓aP,aS,aN]
   refine mL 0 1 (by kernel_rfl) rfl rfl ?_ ?_
   ·simp[-map_map,-mapM_map,↓KW,↓aO,↓aP,aS,aN]
    refine mL 1 2 (by kernel_rfl) rfl rfl ?_ ?_
    ·simp[-map_map,-mapM_map,↓KW,↓aO,↓aP,aS,aN]
     refine cA 2 (by kernel_rfl) rfl ?_
     simp[-map_map,-mapM_map,↓KW,↓aO,↓aP,aS,aN]
     refine cA 3 (by kernel_rfl) rfl ?_
     simp[-map_map,-mapM_map,↓KW,↓aO,↓aP,aS,aN]
     refine cA 4 (by kernel_rfl) rfl ?_
     simp[-map_map,-mapM_map,↓KW,↓aO,↓aP,aS,aN]
     refine iP (by kernel_rfl) ?_
     simp[-map_map,-mapM_map,↓KW,↓aO,↓aP,aS,aN,cN]
    ·simp[-map_map,-mapM_map,↓KW,↓aO,↓aP,aS,aN]
     refine cA 1 (by kernel_rfl) rfl ?_
     simp[-map_map,-mapM_map,↓KW,↓aO,↓aP,aS,aN]
     refine cA 3 (by kernel_rfl) rfl ?_
     simp[-map_map,-mapM_map,↓KW,↓aO,↓aP,aS,aN]
     refine cA 4 (by kernel_rfl) rfl ?_
     simp[-map_map,-mapM_map,↓KW,↓aO,↓aP,aS,aN]
     refine iP (by kernel_rfl) ?_
     simp[-map_map,-mapM_map,↓KW,↓aO,↓aP,aS,aN,cN]
   ·simp[-map_map,-mapM_map,↓KW,↓aO,↓aP,aS,aN]
    refine cA 0 (by kernel_rfl) rfl ?_
    simp[-map_map,-mapM_map,↓KW,↓aO,↓aP,aS,aN]
    refine cA 2 (by kernel_rfl) rfl ?_
    simp[-map_map,-mapM_map,↓KW,↓aO,↓aP,aS,aN]
    refine cA 3 (by kernel_rfl) rfl ?_
    simp[-map_map,-mapM_map,↓KW,↓aO,↓aP,aS,aN]
    refine cA 4 (by kernel_rfl) rfl ?_
    simp[-map_map,-mapM_map,↓KW,↓aO,↓aP,aS,aN]
    refine iP (by kernel_rfl) ?_
    simp[-map_map,-mapM_map,↓KW,↓aO,↓aP,aS,aN,cN]
  ·obtain⟨f1,f2⟩:=hf.2.2.2.2.2.2.1 hnx (by omega) hny
   have hsg:=hsg1 hr0
   rw[f1,f2,en2,ed]
   have hs1:(y.sign==0)=false:=by simpa using hs0
   simp[-map_map,-mapM_map,↓KW,↓aO,↓aP,aS,aN]
   refine aA (ds:=[aN a,.b true]) (by rfl) hm1 ?_
   simp[-map_map,-mapM_map,↓KW,↓aO,↓aP,aS,aN]
   refine aA (ds:=[aN b,.b false]) (by rfl) hm2 ?_
   simp[-map_map,-mapM_map,↓KW,↓aO,↓aP,aS,aN]
   refine aA (ds:=[.ag [.b false,aN b]]) ?_ hs ?_
   ·simp[-map_map,-mapM_map,↓KW,↓aO,↓aP,aS,aN,hs1]
   simp[-map_map,-mapM_map,↓KW,↓aO,↓aP,aS,aN,hs1]
   refine aA (ds:=[aN a,aN b]) (by rfl) hd ?_
   simp[-map_map,-mapM_map,↓KW,↓aO,↓aP,aS,aN]
   refine aA (ds:=[.ag [.b sr,aN mr]]) ?_ hsr ?_
   ·simp[-map_map,-mapM_map,↓KW,↓aO,↓aP,aS,aN,hsg]
   simp[-map_map,-mapM_map,↓KW,↓aO,↓aP,aS,aN,hsg]
   refine aA (ds:=[.i .i64 1]) (by rfl) hof ?_
   simp[-map_map,-mapM_map,↓KW,↓aO,↓aP,aS,aN]
   refine aA (ds:=[.ag [.b sq,aN mq],.ag [.b s1,aN m1]]) ?_ had ?_
   ·simp[-map_map,-mapM_map,↓KW,↓aO,↓aP,aS,aN]
   simp[-map_map,-mapM_map,↓KW,↓aO,↓aP,aS,aN]
   refine aA (ds:=[aN b,.b false]) (by rfl) hmy ?_
   simp[-map_map,-mapM_map,↓KW,↓aO,↓aP,aS,aN]
   refine aA (ds:=[.ag [.b sy,aN my],.ag [.b sr,aN mr]]) ?_ hsu ?_
   ·simp[-map_map,-mapM_map,↓KW,↓aO,↓aP,aS,aN]
   simp[-map_map,-mapM_map,↓KW,↓aO,↓aP,aS,aN]
   refine aA (ds:=[.ag [.b sp,aN mp]]) ?_ hn2 ?_
   ·simp[-map_map,-mapM_map,↓KW,↓aO,↓aP,aS,aN]
   simp[-map_map,-mapM_map,↓KW,↓aO,↓aP,aS,aN]
   refine mL 0 1 (by kernel_rfl) rfl rfl ?_ ?_
   ·simp[-map_map,-mapM_map,↓KW,↓aO,↓aP,aS,aN]
    refine mL 1 2 (by kernel_rfl) rfl rfl ?_ ?_
    ·simp[-map_map,-mapM_map,↓KW,↓aO,↓aP,aS,aN]
     refine cA 2 (by kernel_rfl) rfl ?_
     simp[-map_map,-mapM_map,↓KW,↓aO,↓aP,aS,aN]
     refine cA 3 (by kernel_rfl) rfl ?_
     simp[-map_map,-mapM_map,↓KW,↓aO,↓aP,aS,aN]
     refine cA 4 (by kernel_rfl) rfl ?_
     simp[-map_map,-mapM_map,↓KW,↓aO,↓aP,aS,aN]
     refine iP (by kernel_rfl) ?_
     simp[-map_map,-mapM_map,↓KW,↓aO,↓aP,aS,aN,cN]
    ·simp[-map_map,-mapM_map,↓KW,↓aO,↓aP,aS,aN]
     refine cA 1 (by kernel_rfl) rfl ?_
     simp[-map_map,-mapM_map,↓KW,↓aO,↓aP,aS,aN]
     refine cA 3 (by kernel_rfl) rfl ?_
     simp[-map_map,-mapM_map,↓KW,↓aO,↓aP,aS,aN]
     refine cA 4 (by kernel_rfl) rfl ?_
     simp[-map_map,-mapM_map,↓KW,↓aO,↓aP,aS,aN]
     refine iP (by kernel_rfl) ?_
     simp[-map_map,-mapM_map,↓KW,↓aO,↓aP,aS,aN,cN]
   ·simp[-map_map,-mapM_map,↓KW,↓aO,↓aP,aS,aN]
    refine cA 0 (by kernel_rfl) rfl ?_
    simp[-map_map,-mapM_map,↓KW,↓aO,↓aP,aS,aN]
    refine cA 2 (by kernel_rfl) rfl ?_
    simp[-map_map,-mapM_map,↓KW,↓aO,↓aP,aS,aN]
    refine cA 3 (by kernel_rfl) rfl ?_
    simp[-map_map,-mapM_map,↓KW,↓aO,↓aP,aS,aN]
    refine cA 4 (by kernel_rfl) rfl ?_
    simp[-map_map,-mapM_map,↓KW,↓aO,↓aP,aS,aN]
    refine iP (by kernel_rfl) ?_
    simp[-map_map,-mapM_map,↓KW,↓aO,↓aP,aS,aN,cN]
 ·rw[Bq hnx,BA hny]at *
  obtain⟨f1,f2⟩:=hf.2.2.2.1 hnx hny
  rw[f1,f2,en1,er]
  have hs1:(y.sign==0)=false:=by simpa using hs0
  simp[-map_map,-mapM_map,↓KW,↓aO,↓aP,aS,aN]
  refine aA (ds:=[aN a,.b false]) (by rfl) hm1 ?_
  simp[-map_map,-mapM_map,↓KW,↓aO,↓aP,aS,aN]
  refine aA (ds:=[aN b,.b true]) (by rfl) hm2 ?_
  simp[-map_map,-mapM_map,↓KW,↓aO,↓aP,aS,aN]
  refine aA (ds:=[.ag [.b true,aN b]]) ?_ hs ?_
  ·simp[-map_map,-mapM_map,↓KW,↓aO,↓aP,aS,aN,hs1]
  simp[-map_map,-mapM_map,↓KW,↓aO,↓aP,aS,aN,hs1]
  refine aA (ds:=[aN a,aN b]) (by rfl) hd ?_
  simp[-map_map,-mapM_map,↓KW,↓aO,↓aP,aS,aN]
  refine aA (ds:=[.ag [.b sq,aN mq]]) ?_ hn1 ?_
  ·simp[-map_map,-mapM_map,↓KW,↓aO,↓aP,aS,aN]
  simp[-map_map,-mapM_map,↓KW,↓aO,↓aP,aS,aN]
  refine mL 0 1 (by kernel_rfl) rfl rfl ?_ ?_
  ·simp[-map_map,-mapM_map,↓KW,↓aO,↓aP,aS,aN]
   refine mL 1 2 (by kernel_rfl) rfl rfl ?_ ?_
   ·simp[-map_map,-mapM_map,↓KW,↓aO,↓aP,aS,aN]
    refine cA 2 (by kernel_rfl) rfl ?_
    simp[-map_map,-mapM_map,↓KW,↓aO,↓aP,aS,aN]
    refine cA 3 (by kernel_rfl) rfl ?_
    simp[-map_map,-mapM_map,↓KW,↓aO,↓aP,aS,aN]
    refine cA 4 (by kernel_rfl) rfl ?_
    simp[-map_map,-mapM_map,↓KW,↓aO,↓aP,aS,aN]
    refine iP (by kernel_rfl) ?_
    simp[-map_map,-mapM_map,↓KW,↓aO,↓aP,aS,aN,cN]
   ·simp[-map_map,-mapM_map,↓KW,↓aO,↓aP,aS,aN]
    refine cA 1 (by kernel_rfl) rfl ?_
    simp[-map_map,-mapM_map,↓KW,↓aO,↓aP,aS,aN]
    refine cA 3 (by kernel_rfl) rfl ?_
    simp[-map_map,-mapM_map,↓KW,↓aO,↓aP,aS,aN]
    refine cA 4 (by kernel_rfl) rfl ?_
    simp[-map_map,-mapM_map,↓KW,↓aO,↓aP,aS,aN]
    refine iP (by kernel_rfl) ?_
    simp[-map_map,-mapM_map,↓KW,↓aO,↓aP,aS,aN,cN]
  ·simp[-map_map,-mapM_map,↓KW,↓aO,↓aP,aS,aN]
   refine cA 0 (by kernel_rfl) rfl ?_
   simp[-map_map,-mapM_map,↓KW,↓aO,↓aP,aS,aN]
   refine cA 2 (by kernel_rfl) rfl ?_
   simp[-map_map,-mapM_map,↓KW,↓aO,↓aP,aS,aN]
   refine cA 3 (by kernel_rfl) rfl ?_
   simp[-map_map,-mapM_map,↓KW,↓aO,↓aP,aS,aN]
   refine cA 4 (by kernel_rfl) rfl ?_
   simp[-map_map,-mapM_map,↓KW,↓aO,↓aP,aS,aN]
   refine iP (by kernel_rfl) ?_
   simp[-map_map,-mapM_map,↓KW,↓aO,↓aP,aS,aN,cN]
 ·rw[Bq hnx,Bq hny]at *
  obtain⟨f1,f2⟩:=hf.2.2.1 hnx hny
  rw[f1,f2,eq,er]
  have hs1:(y.sign==0)=false:=by simpa using hs0
  simp[-map_map,-mapM_map,↓KW,↓aO,↓aP,aS,aN]
  refine aA (ds:=[aN a,.b false]) (by rfl) hm1 ?_
  simp[-map_map,-mapM_map,↓KW,↓aO,↓aP,aS,aN]
  refine aA (ds:=[aN b,.b false]) (by rfl) hm2 ?_
  simp[-map_map,-mapM_map,↓KW,↓aO,↓aP,aS,aN]
  refine aA (ds:=[.ag [.b false,aN b]]) ?_ hs ?_
  ·simp[-map_map,-mapM_map,↓KW,↓aO,↓aP,aS,aN,hs1]
  simp[-map_map,-mapM_map,↓KW,↓aO,↓aP,aS,aN,hs1]
  refine aA (ds:=[aN a,aN b]) (by rfl) hd ?_
  simp[-map_map,-mapM_map,↓KW,↓aO,↓aP,aS,aN]
  refine mL 0 1 (by kernel_rfl) rfl rfl ?_ ?_
  ·simp[-map_map,-mapM_map,↓KW,↓aO,↓aP,aS,aN]
   refine mL 1 2 (by kernel_rfl) rfl rfl ?_ ?_
   ·simp[-map_map,-mapM_map,↓KW,↓aO,↓aP,aS,aN]
    refine cA 2 (by kernel_rfl) rfl ?_
    simp[-map_map,-mapM_map,↓KW,↓aO,↓aP,aS,aN]
    refine cA 3 (by kernel_rfl) rfl ?_
    simp[-map_map,-mapM_map,↓KW,↓aO,↓aP,aS,aN]
    refine cA 4 (by kernel_rfl) rfl ?_
    simp[-map_map,-mapM_map,↓KW,↓aO,↓aP,aS,aN]
    refine iP (by kernel_rfl) ?_
    simp[-map_map,-mapM_map,↓KW,↓aO,↓aP,aS,aN,cN]
   ·simp[-map_map,-mapM_map,↓KW,↓aO,↓aP,aS,aN]
    refine cA 1 (by kernel_rfl) rfl ?_
    simp[-map_map,-mapM_map,↓KW,↓aO,↓aP,aS,aN]
    refine cA 3 (by kernel_rfl) rfl ?_
    simp[-map_map,-mapM_map,↓KW,↓aO,↓aP,aS,aN]
    refine cA 4 (by kernel_rfl) rfl ?_
    simp[-map_map,-mapM_map,↓KW,↓aO,↓aP,aS,aN]
    refine iP (by kernel_rfl) ?_
    simp[-map_map,-mapM_map,↓KW,↓aO,↓aP,aS,aN,cN]
  ·simp[-map_map,-mapM_map,↓KW,↓aO,↓aP,aS,aN]
   refine cA 0 (by kernel_rfl) rfl ?_
   simp[-map_map,-mapM_map,↓KW,↓aO,↓aP,aS,aN]
   refine cA 2 (by kernel_rfl) rfl ?_
   simp[-map_map,-mapM_map,↓KW,↓aO,↓aP,aS,aN]
   refine cA 3 (by kernel_rfl) rfl ?_
   simp[-map_map,-mapM_map,↓KW,↓aO,↓aP,aS,aN]
   refine cA 4 (by kernel_rfl) rfl ?_
   simp[-map_map,-mapM_map,↓KW,↓aO,↓aP,aS,aN]
   refine iP (by kernel_rfl) ?_
   simp[-map_map,-mapM_map,↓KW,↓aO,↓aP,aS,aN,cN]
end Go.Am
end

section
set_option linter.unusedVariables false
set_option linter.unusedSimpArgs false
open List (map_map mapM_map)
open Go Go.Am Go.Proofs
namespace Go.Am
theorem aPg{Γ:Nat→AV}{H:Nat→Option HO}{n:Nat}{av:AV}{R c m0:Nat}{M:List (List Int)}(hM:Sh R c M)(hn:n≠0)(hav:av=.ag [.d (.i .i64 (R:Int)),.d (.i .i64 (c:Int)),.own m0 0 R 1])(hH:∀(i:Nat) o,(mB c M m0)[i]? = some o→H (i+m0)=some o) :
  ∀ m,0<m→∃ ρ,Wk ⟨upd Γ 0 av,H,n⟩ (fM (nwV R c) (mB c M) m) ρ:=by
 intro m hm0
 subst hav
 have hML:(mB c M m).length=R+1:=by rw[cL,hM.len]
 have hin:∀ i,i<R+1→(fM (nwV R c) (mB c M) m).H (i+m)=(mB c M m)[i]? := fun i h=>by
  simp only[fM,fE]
  rw[Ag ⟨by omega,by rw[hML];omega⟩,A7]
 have hout:∀ id,¬(m≤id∧id<m+(R+1))→(fM (nwV R c) (mB c M) m).H id=none:=fun id h=>by
  simp only[fM,fE]
  rw[Ae (by rw[hML];exact h)]
 have hsome:∀ id,((fM (nwV R c) (mB c M) m).H id).isSome=true→∃ i,id=i+m∧i<R+1:=fun id h=>by
  by_cases hr:m≤id∧id<m+(R+1)
  ·exact⟨id-m,by omega,by omega⟩
  ·rw[hout id hr]at h;cases h
 have hget:∀ i,i<R+1→((fM (nwV R c) (mB c M) m).H (i+m)).isSome=true:=fun i h=>by
  rw[hin i h,Aa (by rw[hML];exact h)];rfl
 refine⟨fun id=>id-m+m0,fun id hid=>hout id (by simp only[fM]at hid;rw[hML]at hid;omega),fun t=>?_,fun id o' ho=>?_,fun id id' h1 h2 e=>?_,fun h=>?_,fun h=>?_⟩
 ·show Sub _ _ _ _ (upd (fun _=>.any) 0 (nwV R c m) t)
  by_cases e:t=0
  ·subst e
   simp only[cQ,nwV]
   refine⟨rfl,fun k c d h1 h2=>?_⟩
   rcases k with _|_|_|k
   ·simp at h1 h2;subst h1;subst h2;exact(jO _ _).2 rfl
   ·simp at h1 h2;subst h1;subst h2;exact(jO _ _).2 rfl
   ·simp at h1 h2;subst h1;subst h2
    exact⟨by simp,rfl,rfl,rfl,by have:=hget 0 (by omega);rwa [Bf]at this⟩
   ·simp at h1
  ·rw[dD _ _ e];exact mS _
 ·obtain⟨i,rfl,hi⟩:=hsome id (by rw[ho];rfl)
  rw[hin i hi]at ho
  simp only[A7]
  rcases i with _|i
  ·simp only[mB,BD]at ho
   injection ho with ho;subst ho
   refine⟨_,hH 0 _ rfl,eJ.2 ⟨rfl,eK.2 ⟨by rw[cK,cK],fun k x y h1 h2=>?_⟩⟩⟩
   have hlt:k<M.length:=by have:=(Aj.1 h1).1;rwa [cK]at this
   rw[dC hlt]at h1 h2
   injection h1 with h1;injection h2 with h2;subst h1;subst h2
   rw[hM.len]at hlt
   exact⟨by show k+(m0+1)=k+(m+1)-m+m0;omega,rfl,rfl,rfl,by have:=hget (k+1) (by omega);rwa [show k+1+m=k+(m+1)by omega]at this⟩
  ·refine⟨o',hH (i+1) o' (by simpa only[mB,A6]using ho),?_⟩
   simp only[mB,A6,Ax]at ho
   obtain⟨v,_,rfl⟩:=Ao.1 ho
   exact tA _ _
 ·obtain⟨i,rfl,_⟩:=hsome id h1
  obtain⟨j,rfl,_⟩:=hsome id' h2
  have e':i+m-m+m0=j+m-m+m0:=e
  omega
 ·obtain⟨i,hi,_⟩:=hsome 0 h;omega
 ·simp only[fM]at h;omega
def scF(M:List (List Int))(k:Int)(i j:Nat)(r s:Nat):Int:=if r<i∨(r=i∧s<j)then ent M r s*k else 0
def rP(R c:Nat)(A:List (List Int))(k:Int):List HO :=
 [.cells 95 [.d (.i .i64 (R:Int)),.d (.i .i64 (c:Int)),.d (.sl (A.map fun v=>[bO v]))],.cells 74 [.d (.b (decide (k<0))),.d (aN (aX k.natAbs))],
  .cells 95 [.d (.i .i64 0),.d (.i .i64 0),.nil]]
def aBk(R c:Nat):HO:=.cells 95 [.d (.i .i64 (R:Int)),.d (.i .i64 (c:Int)),.own 4 0 R 1]
def scH(R c:Nat)(A:List (List Int))(k:Int)(M:List (List Int)):Nat→Option HO:=gI 1 (rP R c A k++mB c M 4++[aBk R c])
theorem vQ{R c:Nat}{A:List (List Int)}{k:Int}{M:List (List Int)}(hM:Sh R c M){H:Nat→Option HO}{id:Nat}{o:HO}(ho:scH R c A k M id=some o):lU H (scH R c A k M) (fun i=>i) o o:=by
 refine aDb (fun o ho=>?_) ho
 rw[tU,hM.len,show(rP R c A k).length=3 from rfl,show[aBk R c].length=1 from rfl]
 rcases A9.1 ho with ho|ho
 ·rcases A9.1 ho with ho|ho
  ·simp only[rP,AD,List.mem_nil_iff,or_false]at ho
   rcases ho with rfl|rfl|rfl<;>rfl
  ·exact uW (by omega) (by rw[hM.len];omega) o ho
 ·rw[AP.1 ho]
  simp only[rfO,aBk,rfC,DD,List.all_nil,EK,Eo,AH];omega
theorem zX{R c:Nat}{A:List (List Int)}{k:Int}{M:List (List Int)}(hM:Sh R c M){id:Nat}(h:R+6≤id):scH R c A k M id=none :=
 xB (by rw[tU,hM.len,show(rP R c A k).length=3 from rfl,show[aBk R c].length=1 from rfl];omega)
theorem jU{R c:Nat}{A:List (List Int)}{k:Int}{M:List (List Int)}(hM:Sh R c M){id:Nat}(h1:1≤id)(h2:id<R+6):(scH R c A k M id).isSome=true :=
 kM h1 (by rw[tU,hM.len,show(rP R c A k).length=3 from rfl,show[aBk R c].length=1 from rfl];omega)
set_option maxHeartbeats 8000000 in
set_option maxRecDepth 10000 in
theorem bCu{R c:Nat}{A:List (List Int)}{k:Int}(hA:Sh R c A)(hR:R≤1000)(hc:c≤1000)(hk:Sz k)(hAs:∀ v∈A,∀ z∈v,Sz z) :
  rG Tryz.prog 149 [bN R c A,encZ k] (nwV R c) (mB c (mk R c fun r s=>ent A r s*k)):=by
 refine nN (N:=43) aI Tryz.func149 rfl rfl rfl (by decide) (by kernel_rfl) (by kernel_rfl) (by simp) rfl ?_
 have hN:=bCv R c hR hc
 simp[-map_map,-mapM_map,↓KW,bN,bF,aD,aK,aM,bE,bC]
 refine iZ [.i .i64 (R:Int),.i .i64 (c:Int)] (nwV R c) (mB c (Ay R (Ay c 0))) (by simp) (by simp) (by simp) (by rfl) (by rfl) hN ?_
 have hne1:¬1=4+(R+1):=by omega
 have hne2:¬2=4+(R+1):=by omega
 have hne3:¬3=4+(R+1):=by omega
 have hH0:∀ p:HO,upd (fE (upd (upd (upd (fun _=>none) 1 (some (.cells 95 [.d (.i .i64 (R:Int)),.d (.i .i64 (c:Int)),.d (.sl (A.map fun v=>[bO v]))]))) 2 (some (.cells 74 [.d (.b (decide (k<0))),.d (aN (aX k.natAbs))])))
   3 (some (.cells 95 [.d (.i .i64 0),.d (.i .i64 0),.nil]))) 4 (mB c (Ay R (Ay c 0)) 4)) (4+(R+1)) (some p)=gI 1 (rP R c A k++mB c (Ay R (Ay c 0)) 4++[p]):=fun p=>by
  rw[aZh,aAj (n:=4) (pre:=[_,_,_]) rfl,pT (by rw[Al,cL,D2,AB,AB,AB,A8];omega)];rfl
 have hz0:Sh R c (Ay R (Ay c (0:Int))):=⟨by simp,fun v hv=>by rw[Ep hv];simp⟩
 simp[-map_map,-mapM_map,↓KW,nwV,cL,fE,hne1,hne2,hne3]
 refine aU (fun x:Nat×List (List Int)=>x.1≤R∧Sh R c x.2∧∀ r s,r<R→s<c→ent x.2 r s=scF A k x.1 0 r s) (fun x=>⟨iT [(2,.ptr 1 0),(3,.ptr 2 0),(4,.ptr 3 0),(5,.ptr (R+5) 0),(6,.d (.i .i64 (x.1:Int)))],scH R c A k x.2,R+6⟩) (fun x=>R-x.1)
  (0,Ay R (Ay c 0)) ⟨An _,hz0,fun r s hr hs=>?_⟩ ?_ ?_
 ·unfold ent scF
  rw[Ae (by omega),Ac (l:=Ay R _),Ct,Ag hr]
  simp only[Ba]
  rw[Ac,Ct,Ag hs];rfl
 ·rw[aFl,hH0]
  refine⟨_,kH ?_ (fun id o' ho=>⟨o',ho,vQ hz0 ho⟩) (fun id hid=>zX hz0 hid) (by simp)⟩
  have g1:=jU (A:=A) (k:=k) hz0 (id:=1) (by omega) (by omega)
  have g2:=jU (A:=A) (k:=k) hz0 (id:=2) (by omega) (by omega)
  have g3:=jU (A:=A) (k:=k) hz0 (id:=3) (by omega) (by omega)
  have g4:=jU (A:=A) (k:=k) hz0 (id:=R+5) (by omega) (by omega)
  have g5:4+(R+1)=R+5:=by omega
  simp[-map_map,upd,aT,Γ0,g1,g2,g3,g4,g5]
 ·rintro⟨i,M⟩ ⟨hi,hM,hME⟩
  simp only at hi hM hME
  have hH1:scH R c A k M 1=some (.cells 95 [.d (.i .i64 (R:Int)),.d (.i .i64 (c:Int)),.d (.sl (A.map fun v=>[bO v]))]):=rfl
  have hH3:scH R c A k M 3=some (.cells 95 [.d (.i .i64 0),.d (.i .i64 0),.nil]):=rfl
  have hHo:scH R c A k M (R+5)=some (aBk R c):=aDc (by rw[hM.len,show(rP R c A k).length=3 from rfl];omega)
  by_cases hgi:i<R
  ·have q1:(i:Int)<R:=by omega
   have hw:Ah.wrap ((i:Int)+1)=(i:Int)+1:=aR (by omega) (by omega)
   have hsome:=fun id=>jU (A:=A) (k:=k) hM (id:=id)
   have htop:=fun id=>zX (A:=A) (k:=k) hM (id:=id)
   have hself:=fun(H:Nat→Option HO) id o=>vQ (A:=A) (k:=k) hM (H:=H) (id:=id) (o:=o)
   generalize hHg:scH R c A k M=H at *
   simp[-map_map,-mapM_map,↓KW,q1,hH1]
   refine aU (fun x:Nat×List (List Int)=>x.1≤c∧Sh R c x.2∧∀ r s,r<R→s<c→ent x.2 r s=scF A k i x.1 r s) (fun x=>⟨iT [(2,.ptr 1 0),(3,.ptr 2 0),(4,.ptr 3 0),(5,.ptr (R+5) 0),(6,.d (.i .i64 (i:Int))),(7,.d (.i .i64 (x.1:Int)))],scH R c A k x.2,R+6⟩) (fun x=>c-x.1)
    (0,M) ⟨An _,hM,hME⟩ ?_ ?_
   ·rw[hHg]
    refine⟨_,kH ?_ (fun id o' ho=>⟨o',ho,hself _ _ _ ho⟩) (fun id hid=>htop id hid) (by simp)⟩
    have g1:=hsome 1 (by omega) (by omega)
    have g2:=hsome 2 (by omega) (by omega)
    have g3:=hsome 3 (by omega) (by omega)
    have g4:=hsome (R+5) (by omega) (by omega)
    simp[-map_map,upd,aT,Γ0,g1,g2,g3,g4]
   ·clear hHg hH1 hH3 hHo hsome htop hself hM hME
    rintro⟨j,M⟩ ⟨hj,hM,hME⟩
    simp only at hj hM hME
    have hH1:scH R c A k M 1=some (.cells 95 [.d (.i .i64 (R:Int)),.d (.i .i64 (c:Int)),.d (.sl (A.map fun v=>[bO v]))]):=rfl
    have hH2:scH R c A k M 2=some (.cells 74 [.d (.b (decide (k<0))),.d (aN (aX k.natAbs))]):=rfl
    have hHo:scH R c A k M (R+5)=some (.cells 95 [.d (.i .i64 (R:Int)),.d (.i .i64 (c:Int)),.own 4 0 R 1]):=aDc (by rw[hM.len,show(rP R c A k).length=3 from rfl];omega)
    have hHh:scH R c A k M 4=some (.cells 97 (hdr c R 5)):=by rw[←hM.len];exact xA rfl
    obtain⟨v,hv,hvl,hve⟩:=hM.get hgi
    have hHi:scH R c A k M (i+5)=some (.cells 74 ((vcs v).map .d)):=tT (m:=4) rfl hv
    by_cases hgj:j<c
    ·have q2:(j:Int)<c:=by omega
     have hw2:Ah.wrap ((j:Int)+1)=(j:Int)+1:=aR (by omega) (by omega)
     obtain⟨av,hav,havl,have1⟩:=hA.get hgi
     have hz:av[j]? = some (ent A i j):=by
      rw[←have1 j,Ac,Aa (by omega)];rfl
     have hzS:Sz (ent A i j):=hAs _ (Aq hav) _ (Aq hz)
     have hmul:=oI (ent A i j) k hzS hk
     have hM':Sh R c (M.set i (v.set j (ent A i j*k))):=gF hM hv
     have hupd:upd (scH R c A k M) (i+5) (some (.cells 74 ((vcs (v.set j (ent A i j*k))).map .d)))=scH R c A k (M.set i (v.set j (ent A i j*k))):=vL (m:=4) rfl (by rw[hM.len];exact hgi)
     have hlay:=kY (v:=v) (ent A i j*k) (by rw[hvl];exact hgj)
     have hvcl:=eO v
     rw[hvl]at hvcl
     have hj2:j*2+2≤c*2:=by omega
     have hg:=dC (c:=c) (b:=5) hgi
     have hgl:=cK c R 5
     have hg2:∀ h:i<(hdr c R 5).length,(hdr c R 5)[i]'h=.own (i+5) 0 c 2:=fun h=>Bg ((Aa h).symm.trans hg)
     generalize hze:ent A i j=z at *
     generalize hz':z*k=z' at *
     generalize hHg:scH R c A k M=H at *
     generalize hdr c R 5=cellsR at *
     simp[-map_map,-mapM_map,↓KW,q2,hH1,hH2,hHo,hHh,hHi,hg,hg2,hgl,hgi,hgj,hav,hz,hj2,hvcl,bO,aAl,aD,aK,aM,bE,bC]
     refine aA (ds:=[encZ z,encZ k]) (by rfl) hmul ?_
     rw[bF]
     simp[-map_map,-mapM_map,↓KW,hw2,hH1,hH2,hHo,hHh,hHi,hg,hg2,hgl,hgi,hgj,hj2,hvcl,hlay,aD,aK,aM,bE,bC]
     rw[hupd]
     refine aJ (j+1,M.set i (v.set j z')) ⟨hgj,hM',fun r s hr hs=>?_⟩ (Ab hgj (Ad _)) ?_
     ·rw[lZ hM hgi hgj hv,hME r s hr hs]
      simp only[scF]
      split
      ·rename_i e;rw[Ag (by omega),e.1,e.2,hze,hz']
      ·split
       ·rw[Ag (by omega)]
       ·rw[Ae (by omega)]
     ·refine⟨_,kH ?_ (fun id o' ho=>⟨o',ho,vQ hM' ho⟩) (fun id hid=>zX hM' hid) (by simp)⟩
      have g1:=jU (A:=A) (k:=k) hM' (id:=1) (by omega) (by omega)
      have g2:=jU (A:=A) (k:=k) hM' (id:=2) (by omega) (by omega)
      have g3:=jU (A:=A) (k:=k) hM' (id:=3) (by omega) (by omega)
      have g4:=jU (A:=A) (k:=k) hM' (id:=R+5) (by omega) (by omega)
      simp[-map_map,upd,aT,Γ0,g1,g2,g3,g4]
    ·have q2:¬(j:Int)<c:=by omega
     have ej:j=c:=by omega
     have hsome:=fun id=>jU (A:=A) (k:=k) hM (id:=id)
     have htop:=fun id=>zX (A:=A) (k:=k) hM (id:=id)
     have hself:=fun(H:Nat→Option HO) id o=>vQ (A:=A) (k:=k) hM (H:=H) (id:=id) (o:=o)
     generalize hHg:scH R c A k M=H at *
     simp[-map_map,-mapM_map,↓KW,q2,hH1,hw]
     refine aJ (i+1,M) ⟨hgi,hM,fun r s hr hs=>?_⟩ (Ab hgi (Ad _)) ?_
     ·rw[hME r s hr hs]
      simp only[scF]
      by_cases e:r<i∨(r=i∧s<j)
      ·rw[Ag e,Ag (by omega)]
      ·rw[Ae e,Ae (by omega)]
     ·rw[hHg]
      refine⟨_,kH ?_ (fun id o' ho=>⟨o',ho,hself _ _ _ ho⟩) (fun id hid=>htop id hid) (by simp)⟩
      have g1:=hsome 1 (by omega) (by omega)
      have g2:=hsome 2 (by omega) (by omega)
      have g3:=hsome 3 (by omega) (by omega)
      have g4:=hsome (R+5) (by omega) (by omega)
      simp[-map_map,upd,aT,Γ0,g1,g2,g3,g4]
  ·have q1:¬(i:Int)<R:=by omega
   have ei:i=R:=by omega
   have hMk:M=mk R c fun r s=>ent A r s*k:=rD hM fun r s hr hs=>by
    rw[hME r s hr hs];simp only[scF];rw[Ag (by omega)]
   have hmb:∀(i:Nat) o,(mB c M 4)[i]? = some o→scH R c A k M (i+4)=some o:=fun i o h=>by
    have hi:=(Aj.1 h).1
    unfold scH
    rw[show i+4=(i+3)+1 by omega,lC,AF (by rw[Al,show(rP R c A k).length=3 from rfl];omega),AA (by rw[show(rP R c A k).length=3 from rfl];omega),show(rP R c A k).length=3 from rfl,A7]
    exact h
   rw[aBk]at hHo
   generalize hHg:scH R c A k M=H at *
   simp[-map_map,-mapM_map,↓KW,q1,hH1,hH3,hHo]
   rw[←hMk]
   refine aPg hM (Dl _) rfl fun i o h=>?_
   simp only[upd]
   rw[Ae (by omega)]
   exact hmb i o h
end Go.Am
end

section
set_option linter.unusedVariables false
set_option linter.unusedSimpArgs false
open List (map_map mapM_map)
open Go Go.Am Go.Proofs
namespace Go.Am
set_option maxHeartbeats 8000000 in
set_option maxRecDepth 10000 in
theorem yK{R c:Nat}{A:List (List Int)}(hA:Sh R c A)(hR:R≤1000)(hc:c≤1000)(hAs:∀ v∈A,∀ z∈v,Sz z) :
  rG Tryz.prog 137 [bN R c A] (nwV R c) (mB c A):=by
 refine nN (N:=6) aI Tryz.func137 rfl rfl rfl (by decide) (by kernel_rfl) (by kernel_rfl) (by simp) rfl ?_
 have hof:=vV 1 (by decide) (by decide)
 have hN:=bCu (k:=1) hA hR hc (Ap (fC (n:=1) (k:=1) (by decide)) (by decide)) hAs
 have hMk:(mk R c fun r s=>ent A r s*1)=A:=(rD hA fun r s _ _=>by rw[Int.mul_one]).symm
 rw[hMk]at hN
 have hl:(mB c A 3).length=R+1:=by rw[cL,hA.len]
 simp[-map_map,-mapM_map,↓KW,bN]
 refine aA (ds:=[.i .i64 1]) (by rfl) hof ?_
 rw[bF]
 simp[-map_map,-mapM_map,↓KW,bN,aD,aK,aM,bE,bC]
 refine iZ [bN R c A,encZ 1] (nwV R c) (mB c A) (by simp) (by simp) (by simp) (by rfl) (by rfl) hN ?_
 have hne1:¬1=3+(R+1):=by omega
 simp[-map_map,-mapM_map,↓KW,nwV,hl,fE]
 refine aPg hA (Dl _) rfl fun i o h=>?_
 have hi:=(Aj.1 h).1
 rw[hl]at hi
 simp only[upd,fE,hl]
 rw[Ae (by omega),Ag (by omega),A7]
 exact h
def idM(n:Nat):List (List Int):=mk n n fun r s=>if r=s then 1 else 0
def idF(i r s:Nat):Int:=if r<i∧r=s then 1 else 0
def idH(n:Nat)(M:List (List Int)):Nat→Option HO:=gI 1 ([.cells 95 [.d (.i .i64 0),.d (.i .i64 0),.nil]]++mB n M 2++[.cells 95 [.d (.i .i64 (n:Int)),.d (.i .i64 (n:Int)),.own 2 0 n 1]])
theorem aNs{n:Nat}{M:List (List Int)}(hM:Sh n n M){H:Nat→Option HO}{id:Nat}{o:HO}(ho:idH n M id=some o):lU H (idH n M) (fun i=>i) o o:=by
 refine aDb (fun o ho=>?_) ho
 rw[tU,hM.len,Ar,Ar]
 rcases A9.1 ho with ho|ho
 ·rcases A9.1 ho with ho|ho
  ·rw[AP.1 ho];rfl
  ·exact uW (by omega) (by rw[hM.len];omega) o ho
 ·rw[AP.1 ho]
  simp only[rfO,rfC,DD,List.all_nil,EK,Eo,AH];omega
theorem aVd{n:Nat}{M:List (List Int)}(hM:Sh n n M){id:Nat}(h:n+4≤id):idH n M id=none :=
 xB (by rw[tU,hM.len,Ar,Ar];omega)
theorem wV{n:Nat}{M:List (List Int)}(hM:Sh n n M){id:Nat}(h1:1≤id)(h2:id<n+4):(idH n M id).isSome=true :=
 kM h1 (by rw[tU,hM.len,Ar,Ar];omega)
set_option maxHeartbeats 8000000 in
set_option maxRecDepth 10000 in
theorem aLu(n:Nat)(hR:n≤1000):rG Tryz.prog 146 [.i .i64 (n:Int)] (nwV n n) (mB n (idM n)):=by
 refine nN (N:=22) aI Tryz.func146 rfl rfl rfl (by decide) (by kernel_rfl) (by kernel_rfl) (by simp) rfl ?_
 have hN:=bCv n n hR hR
 have hof:=vV 1 (by decide) (by decide)
 simp[-map_map,-mapM_map,↓KW,]
 refine iZ [.i .i64 (n:Int),.i .i64 (n:Int)] (nwV n n) (mB n (Ay n (Ay n 0))) (by simp) (by simp) (by simp) (by rfl) (by rfl) hN ?_
 have hne1:¬1=2+(n+1):=by omega
 have hz0:Sh n n (Ay n (Ay n (0:Int))):=⟨by simp,fun v hv=>by rw[Ep hv];simp⟩
 have hH0:∀ p q:HO,upd (fE (upd (fun _=>none) 1 (some q)) 2 (mB n (Ay n (Ay n 0)) 2)) (2+(n+1)) (some p)=gI 1 ([q]++mB n (Ay n (Ay n 0)) 2++[p]):=fun p q=>by
  rw[aVl,aAj (n:=2) (pre:=[_]) rfl,pT (by rw[Al,cL,D2,Ar];omega)]
 simp[-map_map,-mapM_map,↓KW,nwV,cL,fE,hne1]
 refine aU (fun x:Nat×List (List Int)=>x.1≤n∧Sh n n x.2∧∀ r s,r<n→s<n→ent x.2 r s=idF x.1 r s) (fun x=>⟨iT [(0,.d (.i .i64 (n:Int))),(2,.ptr 1 0),(3,.ptr (n+3) 0),(4,.d (.i .i64 (x.1:Int)))],idH n x.2,n+4⟩) (fun x=>n-x.1)
  (0,Ay n (Ay n 0)) ⟨An _,hz0,fun r s hr hs=>?_⟩ ?_ ?_
 ·unfold ent idF
  rw[Ae (by omega),Ac (l:=Ay n _),Ct,Ag hr]
  simp only[Ba]
  rw[Ac,Ct,Ag hs];rfl
 ·rw[aFl,hH0]
  refine⟨_,kH ?_ (fun id o' ho=>⟨o',ho,aNs hz0 ho⟩) (fun id hid=>aVd hz0 hid) (by simp)⟩
  have g1:=wV hz0 (id:=1) (by omega) (by omega)
  have g4:=wV hz0 (id:=n+3) (by omega) (by omega)
  have g5:2+(n+1)=n+3:=by omega
  simp[-map_map,upd,aT,Γ0,g1,g4,g5]
 ·rintro⟨i,M⟩ ⟨hi,hM,hME⟩
  simp only at hi hM hME
  have hH1:idH n M 1=some (.cells 95 [.d (.i .i64 0),.d (.i .i64 0),.nil]):=rfl
  have hHo:idH n M (n+3)=some (.cells 95 [.d (.i .i64 (n:Int)),.d (.i .i64 (n:Int)),.own 2 0 n 1]):=aDc (by rw[hM.len,Ar];omega)
  by_cases hgi:i<n
  ·have q1:(i:Int)<n:=by omega
   have hw:Ah.wrap ((i:Int)+1)=(i:Int)+1:=aR (by omega) (by omega)
   have hHh:idH n M 2=some (.cells 97 (hdr n n 3)):=by
    have:=xA (b:=1) (c:=n) (m:=2) (pre:=[.cells 95 [.d (.i .i64 0),.d (.i .i64 0),.nil]]) (M:=M) (post:=[.cells 95 [.d (.i .i64 (n:Int)),.d (.i .i64 (n:Int)),.own 2 0 n 1]]) rfl
    rwa [hM.len]at this
   obtain⟨v,hv,hvl,hve⟩:=hM.get hgi
   have hHi:idH n M (i+3)=some (.cells 74 ((vcs v).map .d)):=tT (m:=2) rfl hv
   obtain⟨z',hz'⟩:∃ z',z'=(1:Int):=⟨1,rfl⟩
   have hofz:Spec Tryz.prog 40 [.i .i64 1] (encZ z'):=by rw[hz'];exact hof
   have hM':Sh n n (M.set i (v.set i z')):=gF hM hv
   have hupd:upd (idH n M) (i+3) (some (.cells 74 ((vcs (v.set i z')).map .d)))=idH n (M.set i (v.set i z')):=vL (m:=2) rfl (by rw[hM.len];exact hgi)
   have hlay:=kY (v:=v) z' (j:=i) (by rw[hvl];exact hgi)
   have hvcl:=eO v
   rw[hvl]at hvcl
   have hj2:i*2+2≤n*2:=by omega
   have hg:=dC (c:=n) (b:=3) hgi
   have hgl:=cK n n 3
   have hg2:∀ h:i<(hdr n n 3).length,(hdr n n 3)[i]'h=.own (i+3) 0 n 2:=fun h=>Bg ((Aa h).symm.trans hg)
   generalize hHg:idH n M=H at *
   generalize hdr n n 3=cellsR at *
   simp[-map_map,-mapM_map,↓KW,q1,hH1,hHo,hHh,hHi,hg,hg2,hgl,hgi]
   refine aA (ds:=[.i .i64 1]) (by rfl) hofz ?_
   rw[bF]
   simp[-map_map,-mapM_map,↓KW,hw,hH1,hHo,hHh,hHi,hg,hg2,hgl,hgi,hj2,hvcl,hlay,aD,aK,aM,bE,bC]
   rw[hupd]
   refine aJ (i+1,M.set i (v.set i z')) ⟨hgi,hM',fun r s hr hs=>?_⟩ (Ab hgi (Ad _)) ?_
   ·rw[lZ hM hgi hgi hv,hME r s hr hs,hz']
    simp only[idF]
    by_cases e:r=i∧s=i
    ·rw[Ag e,Ag (by omega)]
    ·rw[Ae e]
     by_cases e2:r<i∧r=s
     ·rw[Ag e2,Ag (by omega)]
     ·rw[Ae e2,Ae (by omega)]
   ·refine⟨_,kH ?_ (fun id o' ho=>⟨o',ho,aNs hM' ho⟩) (fun id hid=>aVd hM' hid) (by simp)⟩
    have g1:=wV hM' (id:=1) (by omega) (by omega)
    have g4:=wV hM' (id:=n+3) (by omega) (by omega)
    simp[-map_map,upd,aT,Γ0,g1,g4]
  ·have q1:¬(i:Int)<n:=by omega
   have hMk:M=idM n:=rD hM fun r s hr hs=>by
    rw[hME r s hr hs];simp only[idF]
    by_cases e:r=s
    ·rw[Ag e,Ag ⟨by omega,e⟩]
    ·rw[Ae e,Ae (fun h=>e h.2)]
   have hmb:∀(i:Nat) o,(mB n M 2)[i]? = some o→idH n M (i+2)=some o:=fun i o h=>by
    have hi:=(Aj.1 h).1
    unfold idH
    rw[show i+2=(i+1)+1 by omega,lC,AF (by rw[Al,Ar];omega),AA (by rw[Ar];omega),Ar,A7]
    exact h
   generalize hHg:idH n M=H at *
   simp[-map_map,-mapM_map,↓KW,q1,hH1,hHo]
   rw[←hMk]
   refine aPg hM (Dl _) rfl fun i o h=>?_
   simp only[upd]
   rw[Ae (by omega)]
   exact hmb i o h
end Go.Am
end

section
set_option linter.unusedVariables false
set_option linter.unusedSimpArgs false
open Go Go.Am Go.Proofs
namespace Go.Am
def wRt(R c p q r:Nat):HO:=.cells 180 [.d (.i .i64 (R:Int)),.d (.i .i64 (c:Int)),.own p 0 R 1,.d (.i .i64 (R:Int)),.d (.i .i64 (R:Int)),.own q 0 R 1,.d (.i .i64 (R:Int)),.d (.i .i64 (R:Int)),.own r 0 R 1]
def wHs(R c:Nat)(M U V:List (List Int))(p q r:Nat):List HO:=mB c M p++mB R U q++mB R V r
def wH(R c:Nat)(M U V:List (List Int)):List HO:=wHs R c M U V 1 (R+2) (2*R+3)
def wR0(R c:Nat):HO:=wRt R c 1 (R+2) (2*R+3)
structure WS(R c:Nat)(M U V:List (List Int)):Prop where
 m:Sh R c M
 u:Sh R R U
 v:Sh R R V
theorem fY{R c:Nat}{M U V:List (List Int)}(h:WS R c M U V)(p q r:Nat):(wHs R c M U V p q r).length=3*R+3:=by
 unfold wHs
 rw[Al,Al,cL,cL,cL,h.m.len,h.u.len,h.v.len];omega
theorem aKm{R c i p q r:Nat}{M U V:List (List Int)}(h:WS R c M U V)(hi:i<R+1):(wHs R c M U V p q r)[i]? = (mB c M p)[i]? := by
 unfold wHs
 rw[AZ,AF (by rw[cL,h.m.len];exact hi)]
theorem aKl{R c i p q r:Nat}{M U V:List (List Int)}(h:WS R c M U V)(hi:i<R+1):(wHs R c M U V p q r)[i+(R+1)]? = (mB R U q)[i]? := by
 unfold wHs
 rw[AZ,AA (by rw[cL,h.m.len];omega),cL,h.m.len,A7,AF (by rw[cL,h.u.len];exact hi)]
theorem aKk{R c i p q r:Nat}{M U V:List (List Int)}(h:WS R c M U V)(hi:i<R+1):(wHs R c M U V p q r)[i+(2*R+2)]? = (mB R V r)[i]? := by
 unfold wHs
 rw[AA (by rw[Al,cL,cL,h.m.len,h.u.len];omega),Al,cL,cL,h.m.len,h.u.len,show i+(2*R+2)-(R+1+(R+1))=i by omega]
theorem bWt{R i:Nat}(h:i<3*R+3):i<R+1∨(∃ t,t<R+1∧i=t+(R+1))∨∃ t,t<R+1∧i=t+(2*R+2):=by
 by_cases h1:i<R+1
 ·exact .inl h1
 ·by_cases h2:i<2*R+2
  ·exact .inr (.inl ⟨i-(R+1),by omega,by omega⟩)
  ·exact .inr (.inr ⟨i-(2*R+2),by omega,by omega⟩)
structure HW(H:Nat→Option HO)(b p q r R c:Nat)(M U V:List (List Int)):Prop where
 root:H b=some (wRt R c p q r)
 m:∀(i:Nat) o,(mB c M p)[i]? = some o→H (i+p)=some o
 u:∀(i:Nat) o,(mB R U q)[i]? = some o→H (i+q)=some o
 v:∀(i:Nat) o,(mB R V r)[i]? = some o→H (i+r)=some o
def wNu(b p q r R:Nat)(i:Nat):Nat:=if i=0 then b else if i<R+2 then p+(i-1)else if i<2*R+3 then q+(i-(R+2))else r+(i-(2*R+3))
theorem aSz{b p q r R t:Nat}(h:t<R+1):wNu b p q r R (t+1)=p+t:=by
 unfold wNu;rw[Ae (by omega),Ag (by omega)];rfl
theorem aSy{b p q r R t:Nat}(h:t<R+1):wNu b p q r R (t+(R+2))=q+t:=by
 unfold wNu;rw[Ae (by omega),Ae (by omega),Ag (by omega),A7]
theorem aSx{b p q r R t:Nat}:wNu b p q r R (t+(2*R+3))=r+t:=by
 unfold wNu;rw[Ae (by omega),Ae (by omega),Ae (by omega),A7]
theorem bLl(ν:Nat→Nat)(v:List Int):kQ ν (vR v)=vR v:=by
 simp only[kQ,vR,C3];congr 1
theorem bLm{ν:Nat→Nat}{c n m m':Nat}(h:∀ t,t<n→ν (t+m)=t+m'):(hdr c n m).map (uF ν)=hdr c n m':=by
 unfold hdr
 rw[C3]
 refine Bu fun j hj=>?_
 simp only[Function.comp,uF]
 rw[h j (List.mem_range.1 hj)]
theorem bCm{ν:Nat→Nat}{c m m':Nat}{M:List (List Int)}(h:∀ t,t<M.length→ν (t+(m+1))=t+(m'+1)):(mB c M m).map (kQ ν)=mB c M m':=by
 unfold mB
 rw[AR,C3]
 congr 1
 ·simp only[kQ];rw[bLm h]
 ·refine Bu fun v _=>?_
  exact bLl ν v
theorem aLm(b p q r R c:Nat):kQ (wNu b p q r R) (wR0 R c)=wRt R c p q r:=by
 have h1:wNu b p q r R 1=p:=aSz (t:=0) (by omega)
 have h2:wNu b p q r R (R+2)=q:=by have:=aSy (b:=b) (p:=p) (q:=q) (r:=r) (R:=R) (t:=0) (by omega);rwa [Bf,BW]at this
 have h3:wNu b p q r R (2*R+3)=r:=by have:=aSx (b:=b) (p:=p) (q:=q) (r:=r) (R:=R) (t:=0);rwa [Bf,BW]at this
 simp only[wR0,wRt,kQ,AR,List.map_nil,uF,h1,h2,h3]
theorem bWk{a n:Nat}{o:HO}(h:rfO a n o=true):lfO n o=true:=by
 cases o with
 |map _ _=>cases h
 |iter _ _ _=>cases h
 |cells e cs =>
  refine AO.2 fun c hc=>?_
  have:=AO.1 h c hc
  cases c<;>first|rfl|(cases this;done)|(simp only[rfC,lf0,AH]at this ⊢;omega)
theorem aFo{R c:Nat}{M U V:List (List Int)}(h:WS R c M U V):∀ o∈wR0 R c::wH R c M U V,rfO 1 (3*R+4) o=true:=by
 intro o ho
 rcases AD.1 ho with rfl|ho
 ·simp only[wR0,wRt,rfO,rfC,DD,List.all_nil,EK,Eo,AI,AH];omega
 ·unfold wH wHs at ho
  rcases A9.1 ho with ho|ho
  ·rcases A9.1 ho with ho|ho
   ·exact uW (by omega) (by rw[h.m.len];omega) o ho
   ·exact uW (by omega) (by rw[h.u.len];omega) o ho
  ·exact uW (by omega) (by rw[h.v.len];omega) o ho
theorem aCg{c n m t:Nat}(h:t<n):aEx (t+m) (.cells 97 (hdr c n m))=true:=by
 simp only[aEx]
 refine List.any_eq_true.2 ⟨.own (t+m) 0 c 2,Aq (dC h),by simp[lB]⟩
theorem bRk{R c:Nat}{M U V:List (List Int)}(h:WS R c M U V):∀ i,0<i→i<(wH R c M U V).length+1→∃ j ob,j<i∧(wR0 R c::wH R c M U V)[j]? = some ob∧aEx i ob=true:=by
 intro i hi hl
 rw[show(wH R c M U V).length=3*R+3 from fY h _ _ _]at hl
 obtain⟨k,rfl⟩:∃ k,i=k+1:=⟨i-1,by omega⟩
 rcases bWt (i:=k) (R:=R) (by omega)with ht|⟨t,ht,rfl⟩|⟨t,ht,rfl⟩
 ·rcases k with _|t
  ·exact⟨0,_,by omega,rfl,by simp[aEx,wR0,wRt,lB]⟩
  ·refine⟨1,.cells 97 (hdr c R 2),by omega,?_,?_⟩
   ·rw[A6]
    show(wHs R c M U V _ _ _)[0]? = _
    rw[aKm h (by omega)]
    simp only[mB,BD,h.m.len]
   ·have:=aCg (c:=c) (n:=R) (m:=2) (t:=t) (by omega)
    rwa [show t+2=t+1+1 by omega]at this
 ·rcases t with _|t
  ·refine⟨0,_,by omega,rfl,?_⟩
   simp only[aEx,wR0,wRt,lB,List.any_cons,List.any_nil,Bool.or_false,Dd,beq_iff_eq];omega
  ·refine⟨R+2,.cells 97 (hdr R R (R+3)),by omega,?_,?_⟩
   ·rw[show R+2=(0+(R+1))+1 by omega,A6]
    show(wHs R c M U V _ _ _)[0+(R+1)]? = _
    rw[aKl h (by omega)]
    simp only[mB,BD,h.u.len]
   ·have:=aCg (c:=R) (n:=R) (m:=R+3) (t:=t) (by omega)
    rwa [show t+(R+3)=t+1+(R+1)+1 by omega]at this
 ·rcases t with _|t
  ·refine⟨0,_,by omega,rfl,?_⟩
   simp only[aEx,wR0,wRt,lB,List.any_cons,List.any_nil,Bool.or_false,Dd,beq_iff_eq];omega
  ·refine⟨2*R+3,.cells 97 (hdr R R (2*R+4)),by omega,?_,?_⟩
   ·rw[show 2*R+3=(0+(2*R+2))+1 by omega,A6]
    show(wHs R c M U V _ _ _)[0+(2*R+2)]? = _
    rw[aKk h (by omega)]
    simp only[mB,BD,h.v.len]
   ·have:=aCg (c:=R) (n:=R) (m:=2*R+4) (t:=t) (by omega)
    rwa [show t+(2*R+4)=t+1+(2*R+2)+1 by omega]at this
theorem HW.get{H:Nat→Option HO}{b p q r R c:Nat}{M U V:List (List Int)}(h:HW H b p q r R c M U V)(hs:WS R c M U V)(i:Nat)(ob:HO)(ho:(wR0 R c::wH R c M U V)[i]? = some ob):H (wNu b p q r R i)=some (kQ (wNu b p q r R) ob):=by
 rcases i with _|i
 ·simp only[BD,AT]at ho
  subst ho
  rw[aLm];exact h.root
 ·rw[A6]at ho
  have hlt:=(Aj.1 ho).1
  rw[show(wH R c M U V).length=3*R+3 from fY hs _ _ _]at hlt
  have key:∀{c' m m':Nat} {N:List (List Int)} {t:Nat},(∀ t,t<N.length→wNu b p q r R (t+(m+1))=t+(m'+1))→(mB c' N m)[t]? = some ob→(mB c' N m')[t]? = some (kQ (wNu b p q r R) ob):=fun hν ht=>by
   rw[←bCm hν,Ax,ht];rfl
  rcases bWt hlt with ht|⟨t,ht,rfl⟩|⟨t,ht,rfl⟩
  ·unfold wH at ho
   rw[aKm hs ht]at ho
   rw[aSz ht,CB p i]
   exact h.m i _ (key (fun t ht=>by rw[hs.m.len]at ht;rw[show t+(1+1)=(t+1)+1 by omega,aSz (by omega)];omega) ho)
  ·unfold wH at ho
   rw[aKl hs ht]at ho
   rw[show t+(R+1)+1=t+(R+2)by omega,aSy ht,CB q t]
   exact h.u t _ (key (fun t ht=>by rw[hs.u.len]at ht;rw[show t+(R+2+1)=(t+1)+(R+2)by omega,aSy (by omega)];omega) ho)
  ·unfold wH at ho
   rw[aKk hs ht]at ho
   rw[show t+(2*R+2)+1=t+(2*R+3)by omega,aSx,CB r t]
   exact h.v t _ (key (fun t ht=>by rw[show t+(2*R+3+1)=(t+1)+(2*R+3)by omega,aSx];omega) ho)
theorem aHt{b p q r R:Nat}(h1:b<p∨r+R<b)(h2:p+R<q)(h3:q+R<r)(i j:Nat)(hi:i<3*R+4)(hj:j<3*R+4)(he:wNu b p q r R i=wNu b p q r R j):i=j:=by
 unfold wNu at he
 split at he<;>split at he<;>first|omega|(split at he<;>first|omega|(split at he<;>first|omega|(split at he<;>first|omega|(split at he<;>omega))))
end Go.Am
end

section
set_option linter.unusedVariables false
set_option linter.unusedSimpArgs false
open Go Go.Am Go.Proofs
namespace Go.Am
structure HF(H:Nat→Option HO)(pre:List HO)(p q r R c:Nat)(M U V:List (List Int)):Prop where
 w:HW H (pre.length+1) p q r R c M U V
 pre:∀(i:Nat) o,pre[i]? = some o→H (i+1)=some o
theorem HW.hdrM{H:Nat→Option HO}{b p q r R c:Nat}{M U V:List (List Int)}(h:HW H b p q r R c M U V)(hs:WS R c M U V):H p=some (.cells 97 (hdr c R (p+1))):=by
 have:=h.m 0 _ rfl
 rwa [Bf,hs.m.len]at this
theorem HW.rowM{H:Nat→Option HO}{b p q r R c i:Nat}{M U V:List (List Int)}(h:HW H b p q r R c M U V){v:List Int}(hv:M[i]? = some v):H (i+(p+1))=some (.cells 74 ((vcs v).map .d)):=by
 have:=h.m (i+1) (vR v) (by simp only[mB,A6,Ax,hv,AW])
 rwa [show i+1+p=i+(p+1)by omega]at this
theorem bDs(b n R:Nat):nuT b n=wNu b n (n+R+1) (n+2*R+2) R:=by
 funext j
 unfold nuT wNu
 by_cases h:j=0
 ·rw[Ag h,Ag h]
 ·rw[Ae h,Ae h]
  split
  ·rfl
  ·split<;>omega
theorem bQg{b p q r R n:Nat}(h1:b<p)(h2:p+R<q)(h3:q+R<r)(h4:r+R<n){id:Nat}(h:id∈nuL (wNu b p q r R) (3*R+3)):b<id∧id<n:=by
 obtain⟨j,hj,hj2,rfl⟩:=tJ.1 h
 unfold wNu
 rw[Ae (by omega)]
 split
 ·omega
 ·split<;>omega
theorem bDf{P:Program}{dst:Option Tmp}{ty:TypeId}{pos:String}{after:Array Edge}{guard:Option (Nat×Bool)}{σ:St}{con:List Nat}{k:St→List Nat→Prop}{f:FuncId}{x:Operand}{rest:List Operand}{ts:Array TypeId}
  {d:Dm ((⟨dst,.call ⟨.value (.func f),(x::rest).toArray,ts⟩,ty,pos,after,guard⟩:Oper),k)} {b p q r R c:Nat} {M U V M' U' V':List (List Int)} {ds:List D} (hm:bH P f=true) (hpos:0<σ.n) (hx:oev σ.Γ x=.ptr b 0)
  (hW:HW σ.H b p q r R c M U V) (hs:WS R c M U V) (h1:b<p) (h2:p+R<q) (h3:q+R<r) (hvis:gT σ.H (rest.map (oev σ.Γ))=[]) (hfr:iB σ.H (rest.map (oev σ.Γ))=some ds)
  (hs':WS R c M' U' V') (hsp:xT P f (.ptr 0 0) (wR0 R c) (wH R c M U V) ds (wR0 R c) (wH R c M' U' V') (.tp []))
  (hk:k ⟨bT σ.Γ dst (inj (.tp [])),tcH σ.H σ.n b (nuL (wNu b p q r R) (3*R+3)) (wR0 R c) (wH R c M' U' V'),σ.n+(3*R+3)⟩ (nuL (wNu b p q r R) (3*R+3)++con)):O1d P ⟨dst,.call ⟨.value (.func f),(x::rest).toArray,ts⟩,ty,pos,after,guard⟩ σ con k d:=by
 have hl:(wH R c M U V).length=3*R+3:=fY hs _ _ _
 have hl':(wH R c M' U' V').length=3*R+3:=fY hs' _ _ _
 refine bDg (wNu b p q r R) (.ptr 0 0) (wR0 R c) (wH R c M U V) ds (wR0 R c) (wH R c M' U' V') (.tp []) hm hpos ?_ rfl (by simp[lf0]) (fun i j hi hj he=>?_) (fun i ob ho=>⟨?_,hW.get hs i ob ho⟩) (bRk hs) hvis hfr hsp ?_
 ·rw[hx];rfl
 ·exact aHt (.inl h1) h2 h3 i j (by omega) (by omega) he
 ·have:=bWk (aFo hs ob (Aq ho))
  rwa [hl]
 ·rw[hl,hl'];exact hk
theorem bOj(σ:St){con:List Nat}(h:con≠[])(k:St→Prop)(d:Dm k):aFh σ con k d=k ⟨fun t=>kI con (σ.Γ t),fun id=>(σ.H id).map (eC con),σ.n⟩:=by
 cases con with
 |nil=>exact(h rfl).elim
 |cons c l=>rfl
theorem bSz(ν:Nat→Nat)(n:Nat):nuL ν (n+1)++[]≠[]:=by
 unfold nuL
 intro h
 have:=congrArg List.length h
 simp at this
theorem aLg{l:List Nat}{a n:Nat}{o:HO}(hl:∀ id∈l,id<a∨n≤id)(ho:rfO a n o=true):eC l o=o:=by
 cases o with
 |map _ _=>cases ho
 |iter _ _ _=>cases ho
 |cells e cs =>
  simp only[eC]
  congr 1
  conv=>rhs;rw[←List.map_id cs]
  refine Bu fun c hc=>?_
  have:=AO.1 ho c hc
  cases c<;>first|rfl|(cases this;done)|(simp only[rfC,AH]at this;simp only[eN,id];rw[Ae];intro hm;have:=hl _ hm;omega)
theorem HF.call{H:Nat→Option HO}{pre:List HO}{p q r R c n:Nat}{M U V M' U' V':List (List Int)}(h:HF H pre p q r R c M U V)(hs':WS R c M' U' V')(h1:pre.length+1<p)(h2:p+R<q)(h3:q+R<r)(h4:r+R<n)(hpre:∀ o∈pre,rfO 0 0 o=true) :
  HF (fun id=>(tcH H n (pre.length+1) (nuL (wNu (pre.length+1) p q r R) (3*R+3)) (wR0 R c) (wH R c M' U' V') id).map (eC (nuL (wNu (pre.length+1) p q r R) (3*R+3)))) pre n (n+R+1) (n+2*R+2) R c M' U' V':=by
 have hl':(wH R c M' U' V').length=3*R+3:=fY hs' _ _ _
 have hids:=fun id h=>bQg h1 h2 h3 h4 (id:=id) h
 generalize nuL (wNu (pre.length+1) p q r R) (3*R+3)=l at *
 have hsc:∀{o:HO},rfO n (n+3*R+3) o=true→eC l o=o:=fun ho=>aLg (fun id hid=>.inl (hids id hid).2) ho
 have hrf:∀{c' m':Nat} {N:List (List Int)},n≤m'→m'+1+N.length≤n+3*R+3→∀ o∈mB c' N m',eC l o=o:=fun h1 h2 o ho=>hsc (uW (by omega) h2 o ho)
 have hnew:∀(i:Nat) ob,(wH R c M' U' V')[i]? = some ob→tcH H n (pre.length+1) l (wR0 R c) (wH R c M' U' V') (i+n)=some (kQ (wNu (pre.length+1) n (n+R+1) (n+2*R+2) R) ob):=fun i ob ho=>by
  have hi:=(Aj.1 ho).1
  unfold tcH
  rw[Ag ⟨by omega,by omega⟩,A7,ho,←bDs];rfl
 have key:∀{c' m m':Nat} {N:List (List Int)} {t:Nat} {o:HO},(∀ t,t<N.length→wNu (pre.length+1) n (n+R+1) (n+2*R+2) R (t+(m+1))=t+(m'+1))→(mB c' N m')[t]? = some o→∃ ob,(mB c' N m)[t]? = some ob∧o=kQ (wNu (pre.length+1) n (n+R+1) (n+2*R+2) R) ob:=fun hν ht=>by
  rw[←bCm hν,Ax]at ht
  obtain⟨ob,h1,h2⟩:=Ao.1 ht
  exact⟨ob,h1,h2.symm⟩
 have hmlen:M'.length=R:=hs'.m.len
 have hulen:U'.length=R:=hs'.u.len
 have hvlen:V'.length=R:=hs'.v.len
 refine⟨⟨?_,fun i o ho=>?_,fun i o ho=>?_,fun i o ho=>?_⟩,fun i o ho=>?_⟩
 ·have:tcH H n (pre.length+1) l (wR0 R c) (wH R c M' U' V') (pre.length+1)=some (wRt R c n (n+R+1) (n+2*R+2)):=by
   unfold tcH
   rw[Ae (by omega),Ag rfl,bDs _ _ R,aLm]
  rw[this]
  simp only[AW]
  rw[hsc]
  simp only[wRt,rfO,rfC,DD,List.all_nil,EK,Eo,AI,AH];omega
 ·have hi:i<R+1:=by have:=(Aj.1 ho).1;rwa [cL,hmlen]at this
  obtain⟨ob,g1,g2⟩:=key (m:=1) (fun t ht=>by rw[hmlen]at ht;rw[show t+(1+1)=(t+1)+1 by omega,aSz (by omega)];omega) ho
  rw[hnew i ob (by unfold wH;rw[aKm hs' hi];exact g1),←g2]
  simp only[AW]
  rw[hrf (by omega) (by omega) o (Aq ho)]
 ·have hi:i<R+1:=by have:=(Aj.1 ho).1;rwa [cL,hulen]at this
  obtain⟨ob,g1,g2⟩:=key (m:=R+2) (fun t ht=>by rw[hulen]at ht;rw[show t+(R+2+1)=(t+1)+(R+2)by omega,aSy (by omega)];omega) ho
  have:=hnew (i+(R+1)) ob (by unfold wH;rw[aKl hs' hi];exact g1)
  rw[show i+(n+R+1)=i+(R+1)+n by omega,this,←g2]
  simp only[AW]
  rw[hrf (by omega) (by omega) o (Aq ho)]
 ·have hi:i<R+1:=by have:=(Aj.1 ho).1;rwa [cL,hvlen]at this
  obtain⟨ob,g1,g2⟩:=key (m:=2*R+3) (fun t ht=>by rw[show t+(2*R+3+1)=(t+1)+(2*R+3)by omega,aSx];omega) ho
  have:=hnew (i+(2*R+2)) ob (by unfold wH;rw[aKk hs' hi];exact g1)
  rw[show i+(n+2*R+2)=i+(2*R+2)+n by omega,this,←g2]
  simp only[AW]
  rw[hrf (by omega) (by omega) o (Aq ho)]
 ·have hi:=(Aj.1 ho).1
  have:tcH H n (pre.length+1) l (wR0 R c) (wH R c M' U' V') (i+1)=some o:=by
   unfold tcH
   rw[Ae (by omega),Ae (by omega),Ae (fun hm=>by have:=(hids _ hm).1;omega)]
   exact h.pre i o ho
  rw[this]
  simp only[AW]
  rw[aLg (a:=0) (n:=0) (fun id _=>.inr (An _)) (hpre o (Aq ho))]
def wFl(pre:List HO)(R c:Nat)(M U V:List (List Int)):List HO:=pre++(wRt R c (pre.length+2) (pre.length+R+3) (pre.length+2*R+4)::wHs R c M U V (pre.length+2) (pre.length+R+3) (pre.length+2*R+4))
def kP(pre:List HO)(R c:Nat)(M U V:List (List Int)):Nat→Option HO:=gI 1 (wFl pre R c M U V)
theorem aTb{pre:List HO}{R c:Nat}{M U V:List (List Int)}(hs:WS R c M U V):(wFl pre R c M U V).length=pre.length+3*R+4:=by
 unfold wFl
 rw[Al,AB,fY hs];omega
theorem aHu{pre:List HO}{R c:Nat}{M U V:List (List Int)}(hs:WS R c M U V):HF (kP pre R c M U V) pre (pre.length+2) (pre.length+R+3) (pre.length+2*R+4) R c M U V:=by
 have hget:∀ i,kP pre R c M U V (i+(pre.length+2))=(wHs R c M U V (pre.length+2) (pre.length+R+3) (pre.length+2*R+4))[i]? := fun i=>by
  unfold kP wFl
  rw[show i+(pre.length+2)=(i+1+pre.length)+1 by omega,lC,AA (by omega),A7,A6]
 refine⟨⟨?_,fun i o ho=>?_,fun i o ho=>?_,fun i o ho=>?_⟩,fun i o ho=>?_⟩
 ·unfold kP wFl
  rw[lC,AA (Az _),Cq];rfl
 ·have hi:i<R+1:=by have:=(Aj.1 ho).1;rwa [cL,hs.m.len]at this
  rw[hget,aKm hs hi];exact ho
 ·have hi:i<R+1:=by have:=(Aj.1 ho).1;rwa [cL,hs.u.len]at this
  rw[show i+(pre.length+R+3)=(i+(R+1))+(pre.length+2)by omega,hget,aKl hs hi];exact ho
 ·have hi:i<R+1:=by have:=(Aj.1 ho).1;rwa [cL,hs.v.len]at this
  rw[show i+(pre.length+2*R+4)=(i+(2*R+2))+(pre.length+2)by omega,hget,aKk hs hi];exact ho
 ·unfold kP wFl
  rw[lC,AF (Aj.1 ho).1];exact ho
def aHs(b p q r R:Nat)(id:Nat):Nat:=if id<b then id else wNu b p q r R (id-b)
theorem bCj{H H':Nat→Option HO}{ρ ν μ:Nat→Nat}{a n:Nat}{c:AV}(hc:rfC a n c=true)(h:∀ id,a≤id→id<n→ν id=ρ (μ id)∧(H' (μ id)).isSome=true):oB H H' ρ (uF ν c) (uF μ c):=by
 cases c<;>first
  |(cases hc;done)
  |exact(jO _ _).2 rfl
  |trivial
  |(simp only[rfC,AH]at hc;obtain⟨h1,h2⟩:=h _ hc.1 hc.2;exact⟨h1,rfl,rfl,rfl,h2⟩)
  |(simp only[rfC,AH]at hc;obtain⟨h1,h2⟩:=h _ hc.1 hc.2;exact⟨h1,rfl,h2⟩)
theorem bCi{H H':Nat→Option HO}{ρ ν μ:Nat→Nat}{a n:Nat}{o:HO}(ho:rfO a n o=true)(h:∀ id,a≤id→id<n→ν id=ρ (μ id)∧(H' (μ id)).isSome=true):lU H H' ρ (kQ ν o) (kQ μ o):=by
 cases o with
 |map k es=>cases ho
 |iter _ _ _=>cases ho
 |cells e cs =>
  refine eJ.2 ⟨rfl,eK.2 ⟨by simp,fun k c d h1 h2=>?_⟩⟩
  rw[Ax]at h1 h2
  obtain⟨c0,hc0,rfl⟩:=Ao.1 h1
  rw[hc0]at h2
  injection h2 with h2;subst h2
  exact bCj (AO.1 ho c0 (Aq hc0)) h
theorem sV{R b i:Nat}:wNu b (b+1) (b+R+2) (b+2*R+3) R i=b+i:=by
 unfold wNu
 split
 ·omega
 ·split
  ·omega
  ·split<;>omega
theorem lL{H:Nat→Option HO}{pre:List HO}{p q r R c n b:Nat}{M U V:List (List Int)}{Γ:Nat→AV}{sl:List (Nat×AV)}(h:HF H pre p q r R c M U V)(hs:WS R c M U V)(hb:b=pre.length+1)(h1:b<p)(h2:p+R<q)(h3:q+R<r)(hpre:∀ o∈pre,rfO 0 0 o=true)
  (hslot:mV H (kP pre R c M U V) (aHs b p q r R) Γ sl):∃ ρ,Wk ⟨Γ,H,n⟩ ⟨iT sl,kP pre R c M U V,b+3*R+4⟩ ρ:=by
 subst hb
 have hF:=aHu (pre:=pre) hs
 have hlen:=aTb (pre:=pre) hs
 have hcan:∀ i,i<3*R+4→(kP pre R c M U V (i+(pre.length+1))).isSome=true:=fun i hi=>kM (by omega) (by rw[hlen];omega)
 have hge:∀ id o',kP pre R c M U V id=some o'→1≤id∧id<pre.length+3*R+5:=fun id o' ho=>by
  have:=aJd (b:=1) (l:=wFl pre R c M U V) (id:=id) (by unfold kP at ho;rw[ho];rfl)
  rw[hlen]at this;omega
 refine⟨_,aPh (aHs (pre.length+1) p q r R) hslot (fun id o' ho=>?_) (fun id id' e1 e2 e=>?_) (fun h0=>?_) (fun id hid=>?_) (by omega)⟩
 ·obtain⟨g1,g2⟩:=hge id o' ho
  by_cases hid:id<pre.length+1
  ·obtain⟨k,rfl⟩:∃ k,id=k+1:=⟨id-1,by omega⟩
   have hk:pre[k]? = some o':=by
    unfold kP wFl at ho
    rwa [lC,AF (by omega)]at ho
   refine⟨o',?_,zZ (hpre o' (Aq hk)) fun id _ h2=>absurd h2 (Nat.not_lt_zero _)⟩
   unfold aHs
   rw[Ag hid]
   exact h.pre k o' hk
  ·obtain⟨i,rfl⟩:∃ i,id=i+(pre.length+1):=⟨id-(pre.length+1),by omega⟩
   have hi:i<3*R+4:=by omega
   have hl4:i<(wR0 R c::wH R c M U V).length:=by rw[AB,show(wH R c M U V).length=3*R+3 from fY hs _ _ _];omega
   obtain⟨ob,hob⟩:∃ ob,(wR0 R c::wH R c M U V)[i]? = some ob:=⟨_,Aa hl4⟩
   have e1:=h.w.get hs i ob hob
   have e2:=hF.w.get hs i ob hob
   rw[show pre.length+2=pre.length+1+1 by omega,show pre.length+R+3=pre.length+1+R+2 by omega,show pre.length+2*R+4=pre.length+1+2*R+3 by omega]at e2
   rw[sV,CB (pre.length+1) i,ho]at e2
   injection e2 with e2
   rw[e2]
   refine⟨kQ (wNu (pre.length+1) p q r R) ob,?_,bCi (ν:=wNu (pre.length+1) p q r R) (aFo hs ob (Aq hob)) fun id g1 g2=>⟨?_,?_⟩⟩
   ·unfold aHs
    rw[Ae (by omega),A7];exact e1
   ·rw[sV]
    unfold aHs
    rw[Ae (by omega),Ex]
   ·rw[sV,CB]
    exact hcan id g2
 ·obtain⟨o1,ho1⟩:=CE.1 e1
  obtain⟨o2,ho2⟩:=CE.1 e2
  have g1:=hge id o1 ho1
  have g2:=hge id' o2 ho2
  have hbig:∀ i,pre.length+1≤wNu (pre.length+1) p q r R i:=fun i=>by
   unfold wNu
   split
   ·exact Az _
   ·split
    ·omega
    ·split<;>omega
  unfold aHs at e
  split at e<;>split at e
  ·exact e
  ·have:=hbig (id'-(pre.length+1));omega
  ·have:=hbig (id-(pre.length+1));omega
  ·have:=aHt (.inl h1) h2 h3 (id-(pre.length+1)) (id'-(pre.length+1)) (by omega) (by omega) e
   omega
 ·obtain⟨o1,ho1⟩:=CE.1 h0
  have:=hge 0 o1 ho1
  omega
 ·exact xB (by rw[hlen];omega)
end Go.Am
end

section
set_option linter.unusedVariables false
set_option linter.unusedSimpArgs false
open List (map_map mapM_map)
open Go Go.Am Go.Proofs
namespace Go.Am
def uP(R c:Nat)(M U V:List (List Int))(m:Nat):List HO:=wRt R c (m+1) (m+R+2) (m+2*R+3)::wHs R c M U V (m+1) (m+R+2) (m+2*R+3)
theorem aKj{R c:Nat}{M U V:List (List Int)}(hs:WS R c M U V)(m:Nat):(uP R c M U V m).length=3*R+4:=by
 unfold uP;rw[AB,fY hs]
theorem bAq{R c:Nat}{M U V:List (List Int)}(hs:WS R c M U V){m i:Nat}{ob:HO}(ho:(wR0 R c::wH R c M U V)[i]? = some ob):(uP R c M U V m)[i]? = some (kQ (wNu m (m+1) (m+R+2) (m+2*R+3) R) ob):=by
 have hW:HW (fun id=>if id<m then none else(uP R c M U V m)[id-m]?) m (m+1) (m+R+2) (m+2*R+3) R c M U V:=by
  refine⟨by rw[Ae (by omega),Cq];rfl,fun i o ho=>?_,fun i o ho=>?_,fun i o ho=>?_⟩
  ·have hi:i<R+1:=by have:=(Aj.1 ho).1;rwa [cL,hs.m.len]at this
   rw[Ae (by omega),show i+(m+1)-m=i+1 by omega]
   show(wHs R c M U V (m+1) (m+R+2) (m+2*R+3))[i]? = _
   rw[aKm hs hi];exact ho
  ·have hi:i<R+1:=by have:=(Aj.1 ho).1;rwa [cL,hs.u.len]at this
   rw[Ae (by omega),show i+(m+R+2)-m=(i+(R+1))+1 by omega]
   show(wHs R c M U V (m+1) (m+R+2) (m+2*R+3))[i+(R+1)]? = _
   rw[aKl hs hi];exact ho
  ·have hi:i<R+1:=by have:=(Aj.1 ho).1;rwa [cL,hs.v.len]at this
   rw[Ae (by omega),show i+(m+2*R+3)-m=(i+(2*R+2))+1 by omega]
   show(wHs R c M U V (m+1) (m+R+2) (m+2*R+3))[i+(2*R+2)]? = _
   rw[aKk hs hi];exact ho
 have:=hW.get hs i ob ho
 rw[sV]at this
 rwa [Ae (by omega),Ex]at this
theorem bKb{Γ:Nat→AV}{H:Nat→Option HO}{n b p q r R c:Nat}{M U V:List (List Int)}(hW:HW H b p q r R c M U V)(hs:WS R c M U V)(hn:n≠0)(h1:b<p∨r+R<b)(h2:p+R<q)(h3:q+R<r) :
  ∀ m,0<m→∃ ρ,Wk ⟨upd Γ 0 (.ptr b 0),H,n⟩ (fM (fun m=>.ptr m 0) (uP R c M U V) m) ρ:=by
 intro m hm0
 have hl:=aKj hs m
 have hin:∀ i,i<3*R+4→(fM (fun m=>.ptr m 0) (uP R c M U V) m).H (i+m)=(uP R c M U V m)[i]? := fun i h=>by
  simp only[fM,fE]
  rw[Ag ⟨by omega,by rw[hl];omega⟩,A7]
 have hout:∀ id,¬(m≤id∧id<m+(3*R+4))→(fM (fun m=>.ptr m 0) (uP R c M U V) m).H id=none:=fun id h=>by
  simp only[fM,fE]
  rw[Ae (by rw[hl];exact h)]
 have hsome:∀ id,((fM (fun m=>.ptr m 0) (uP R c M U V) m).H id).isSome=true→∃ i,id=i+m∧i<3*R+4:=fun id h=>by
  by_cases hr:m≤id∧id<m+(3*R+4)
  ·exact⟨id-m,by omega,by omega⟩
  ·rw[hout id hr]at h;cases h
 have hget:∀ i,i<3*R+4→((fM (fun m=>.ptr m 0) (uP R c M U V) m).H (i+m)).isSome=true:=fun i h=>by
  rw[hin i h,Aa (by rw[hl];exact h)];rfl
 refine⟨fun id=>wNu b p q r R (id-m),fun id hid=>hout id (by simp only[fM]at hid;rw[hl]at hid;omega),fun t=>?_,fun id o' ho=>?_,fun id id' g1 g2 e=>?_,fun h=>?_,fun h=>?_⟩
 ·show Sub _ _ _ _ (upd (fun _=>.any) 0 (.ptr m 0) t)
  by_cases e:t=0
  ·subst e
   simp only[cQ]
   refine⟨?_,rfl,by have:=hget 0 (by omega);rwa [Bf]at this⟩
   show b=wNu b p q r R (m-m)
   rw[Cq];rfl
  ·rw[dD _ _ e];exact mS _
 ·obtain⟨i,rfl,hi⟩:=hsome id (by rw[ho];rfl)
  rw[hin i hi]at ho
  simp only[A7]
  have hl4:i<(wR0 R c::wH R c M U V).length:=by rw[AB,show(wH R c M U V).length=3*R+3 from fY hs _ _ _];omega
  obtain⟨ob,hob⟩:∃ ob,(wR0 R c::wH R c M U V)[i]? = some ob:=⟨_,Aa hl4⟩
  rw[bAq hs hob]at ho
  injection ho with ho
  rw[←ho]
  refine⟨_,hW.get hs i ob hob,bCi (ν:=wNu b p q r R) (aFo hs ob (Aq hob)) fun id g1 g2=>⟨?_,?_⟩⟩
  ·rw[sV,Ex]
  ·rw[sV,CB];exact hget id g2
 ·obtain⟨i,rfl,hi⟩:=hsome id g1
  obtain⟨j,rfl,hj⟩:=hsome id' g2
  have e':wNu b p q r R (i+m-m)=wNu b p q r R (j+m-m):=e
  rw[A7,A7]at e'
  have:=aHt h1 h2 h3 i j hi hj e'
  omega
 ·obtain⟨i,hi,_⟩:=hsome 0 h;omega
 ·simp only[fM]at h;omega
set_option maxHeartbeats 8000000 in
set_option maxRecDepth 10000 in
theorem bCs{R c:Nat}{A:List (List Int)}(hA:Sh R c A)(hR:R≤1000)(hc:c≤1000)(hAs:∀ v∈A,∀ z∈v,Sz z) :
  rG Tryz.prog 129 [bN R c A] (fun m=>.ptr m 0) (uP R c A (idM R) (idM R)):=by
 refine nN (N:=13) aI Tryz.func129 rfl rfl rfl (by decide) (by kernel_rfl) (by kernel_rfl) (by simp) rfl ?_
 have hN1:=yK hA hR hc hAs
 have hN2:=aLu R hR
 have hl:∀ m,(mB c A m).length=R+1:=fun m=>by rw[cL,hA.len]
 have hl2:∀ m,(mB R (idM R) m).length=R+1:=fun m=>by rw[cL,show(idM R).length=R from(iR _ _ _).len]
 simp[-map_map,-mapM_map,↓KW,bN]
 refine iZ [bN R c A] (nwV R c) (mB c A) (by simp) (by simp) (by simp) (by rfl) (by rfl) hN1 ?_
 have hne1:¬2≤1:=by omega
 have hne2:¬2+(R+1)≤1:=by omega
 have hne3:¬2+(R+1)+(R+1)≤1:=by omega
 simp[-map_map,-mapM_map,↓KW,nwV,hl,fE,hne1]
 refine iZ [.i .i64 (R:Int)] (nwV R R) (mB R (idM R)) (by simp) (by simp) (show 0<2+(R+1)by omega) (by rfl) (by rfl) hN2 ?_
 simp[-map_map,-mapM_map,↓KW,nwV,hl,hl2,fE,hne1,hne2]
 refine iZ [.i .i64 (R:Int)] (nwV R R) (mB R (idM R)) (by simp) (by simp) (show 0<2+(R+1)+(R+1)by omega) (by rfl) (by rfl) hN2 ?_
 simp[-map_map,-mapM_map,↓KW,nwV,hl,hl2,fE,hne1,hne2,hne3]
 have hs:WS R c A (idM R) (idM R):=⟨hA,iR _ _ _,iR _ _ _⟩
 refine bKb (b:=2+(R+1)+(R+1)+(R+1)) (p:=2) (q:=2+(R+1)) (r:=2+(R+1)+(R+1)) ?_ hs (Dl _) (by omega) (by omega) (by omega)
 refine⟨by rw[cQ];rfl,fun i o ho=>?_,fun i o ho=>?_,fun i o ho=>?_⟩
 ·have hi:i<R+1:=by have:=(Aj.1 ho).1;rwa [hl]at this
  simp only[upd,fE,hl,hl2]
  rw[Ae (by omega),Ae (by omega),Ae (by omega),Ag (by omega),A7];exact ho
 ·have hi:i<R+1:=by have:=(Aj.1 ho).1;rwa [hl2]at this
  simp only[upd,fE,hl,hl2]
  rw[Ae (by omega),Ae (by omega),Ag (by omega),A7];exact ho
 ·have hi:i<R+1:=by have:=(Aj.1 ho).1;rwa [hl2]at this
  simp only[upd,fE,hl,hl2]
  rw[Ae (by omega),Ag (by omega),A7];exact ho
end Go.Am
end

section
set_option linter.unusedVariables false
set_option linter.unusedSimpArgs false
open Go Go.Am Go.Proofs
namespace Go.Am
def aL(R c:Nat)(M U V:List (List Int))(x:List HO):List HO:=[wR0 R c]++mB c M 1++(mB R U (R+2)++mB R V (2*R+3)++x)
def aH(R c:Nat)(M U V:List (List Int))(x:List HO):Nat→Option HO:=gI 0 (aL R c M U V x)
theorem bPz(R c:Nat)(M U V:List (List Int))(x:List HO):aL R c M U V x=(wR0 R c::mB c M 1)++mB R U (R+2)++(mB R V (2*R+3)++x):=by simp[aL]
theorem aSl(R c:Nat)(M U V:List (List Int))(x:List HO):aL R c M U V x=(wR0 R c::(mB c M 1++mB R U (R+2)))++mB R V (2*R+3)++x:=by simp[aL]
theorem aHk(R c:Nat)(M U V:List (List Int))(x:List HO):aL R c M U V x=wR0 R c::(wH R c M U V++x):=by simp[aL,wH,wHs]
variable {R c:Nat} {M U V:List (List Int)} {x:List HO}
theorem aEf(hs:WS R c M U V):(aL R c M U V x).length=3*R+4+x.length:=by
 rw[aHk,AB,Al,show(wH R c M U V).length=3*R+3 from fY hs _ _ _];omega
theorem aWi{i:Nat}{v:List Int}(hs:WS R c M U V)(hi:i<R):upd (aH R c M U V x) (i+2) (some (.cells 74 ((vcs v).map .d)))=aH R c (M.set i v) U V x :=
 vL (m:=1) rfl (by rw[hs.m.len];exact hi)
theorem aWh{i:Nat}{v:List Int}(hs:WS R c M U V)(hi:i<R):upd (aH R c M U V x) (i+(R+3)) (some (.cells 74 ((vcs v).map .d)))=aH R c M (U.set i v) V x:=by
 unfold aH
 rw[bPz,bPz]
 exact vL (m:=R+2) (by rw[AB,cL,hs.m.len]<;>omega) (by rw[hs.u.len];exact hi)
theorem aAn{i:Nat}{v:List Int}(hs:WS R c M U V)(hi:i<R):upd (aH R c M U V x) (i+(2*R+4)) (some (.cells 74 ((vcs v).map .d)))=aH R c M U (V.set i v) x:=by
 unfold aH
 rw[aSl,aSl]
 exact vL (m:=2*R+3) (by rw[AB,Al,cL,cL,hs.m.len,hs.u.len];omega) (by rw[hs.v.len];exact hi)
theorem aWj:aH R c M U V x 0=some (wR0 R c):=rfl
theorem aWl(hs:WS R c M U V):aH R c M U V x 1=some (.cells 97 (hdr c R 2)):=by
 have:=xA (b:=0) (c:=c) (m:=1) (pre:=[wR0 R c]) (M:=M) (post:=mB R U (R+2)++mB R V (2*R+3)++x) rfl
 rwa [hs.m.len]at this
theorem aWk(hs:WS R c M U V):aH R c M U V x (R+2)=some (.cells 97 (hdr R R (R+3))):=by
 have:=xA (b:=0) (c:=R) (m:=R+2) (pre:=wR0 R c::mB c M 1) (M:=U) (post:=mB R V (2*R+3)++x) (by rw[AB,cL,hs.m.len]<;>omega)
 rw[←bPz,hs.u.len]at this
 exact this
theorem bJb(hs:WS R c M U V):aH R c M U V x (2*R+3)=some (.cells 97 (hdr R R (2*R+4))):=by
 have:=xA (b:=0) (c:=R) (m:=2*R+3) (pre:=wR0 R c::(mB c M 1++mB R U (R+2))) (M:=V) (post:=x) (by rw[AB,Al,cL,cL,hs.m.len,hs.u.len];omega)
 rw[←aSl,hs.v.len]at this
 exact this
theorem aOy{i:Nat}{v:List Int}(hv:M[i]? = some v):aH R c M U V x (i+2)=some (.cells 74 ((vcs v).map .d)):=tT (m:=1) rfl hv
theorem aOx{i:Nat}{v:List Int}(hs:WS R c M U V)(hv:U[i]? = some v):aH R c M U V x (i+(R+3))=some (.cells 74 ((vcs v).map .d)):=by
 unfold aH
 rw[bPz]
 exact tT (m:=R+2) (by rw[AB,cL,hs.m.len]<;>omega) hv
theorem bIz{i:Nat}{v:List Int}(hs:WS R c M U V)(hv:V[i]? = some v):aH R c M U V x (i+(2*R+4))=some (.cells 74 ((vcs v).map .d)):=by
 unfold aH
 rw[aSl]
 exact tT (m:=2*R+3) (by rw[AB,Al,cL,cL,hs.m.len,hs.u.len];omega) hv
theorem bUx(hs:WS R c M U V){i:Nat}{o:HO}(ho:x[i]? = some o):aH R c M U V x (i+(3*R+4))=some o:=by
 unfold aH gI
 rw[Ae (by omega),aHk,Ed,show i+(3*R+4)=(i+(3*R+3))+1 by omega,A6,AA (by rw[show(wH R c M U V).length=3*R+3 from fY hs _ _ _];omega),
  show(wH R c M U V).length=3*R+3 from fY hs _ _ _,A7];exact ho
theorem fF(hs:WS R c M U V)(hx:∀ o∈x,rfO 0 0 o=true){H:Nat→Option HO}{id:Nat}{o:HO}(ho:aH R c M U V x id=some o):lU H (aH R c M U V x) (fun i=>i) o o:=by
 refine aDb (fun o ho=>?_) ho
 rw[aEf hs]
 rw[aHk,AD,A9]at ho
 rcases ho with ho|ho|ho
 ·exact aBl (An _) (by omega) (aFo hs o (by rw[ho];exact Av ..))
 ·exact aBl (An _) (by omega) (aFo hs o (As _ ho))
 ·exact aBl (An _) (An _) (hx o ho)
theorem gR(hs:WS R c M U V){id:Nat}(h:3*R+4+x.length≤id):aH R c M U V x id=none:=xB (by rw[aEf hs];omega)
theorem dS(hs:WS R c M U V){id:Nat}(h:id<3*R+4+x.length):(aH R c M U V x id).isSome=true:=kM (An _) (by rw[aEf hs];omega)
theorem aSm{Γ:Nat→AV}{n:Nat}(hs:WS R c M U V)(hn:n≠0):∃ ρ,Wk ⟨Γ,aH R c M U V x,n⟩ (StL [] (some (wR0 R c)) (wH R c M U V)) ρ:=by
 have hH:∀ id,(StL [] (some (wR0 R c)) (wH R c M U V)).H id=(wR0 R c::wH R c M U V)[id]? := fun id=>by
  cases id with
  |zero=>rw[aJy];rfl
  |succ i=>rw[yX,A6]
 have hl:(wR0 R c::wH R c M U V).length=3*R+4:=by rw[AB,show(wH R c M U V).length=3*R+3 from fY hs _ _ _]
 have hsome:∀ id,id<3*R+4→((StL [] (some (wR0 R c)) (wH R c M U V)).H id).isSome=true:=fun id h=>by
  rw[hH,Aa (by rw[hl];exact h)];rfl
 refine⟨fun i=>i,fun id hid=>?_,fun t=>?_,fun id o' ho=>?_,fun _ _ _ _ e=>e,fun _=>rfl,fun h=>?_⟩
 ·rw[hH]
  refine AG ?_
  rw[hl]
  simp only[StL,show(wH R c M U V).length=3*R+3 from fY hs _ _ _]at hid
  omega
 ·show Sub _ _ _ _ (iT [] t)
  exact mS _
 ·rw[hH]at ho
  have hlt:=(Aj.1 ho).1
  refine⟨o',?_,zZ (aFo hs o' (Aq ho)) fun id _ h2=>⟨rfl,hsome id h2⟩⟩
  show gI 0 _ id=_
  unfold gI
  rw[Ae (by omega),aHk,Ed,←List.cons_append,AF hlt];exact ho
 ·simp[StL]at h
theorem sE{x y:Int}{a b:Nat}(h1:(aX x.natAbs).length≤a)(h2:(aX y.natAbs).length≤b):(aX (x*y).natAbs).length≤a+b:=by
 have e1:=fR h1
 have e2:=fR h2
 refine fC ?_
 rw[BJ,CC]
 exact Nat.mul_lt_mul'' e1 e2
def Sy(z:Int):Prop:=(aX z.natAbs).length≤68719476736
def SyM(M:List (List Int)):Prop:=∀ v∈M,∀ z∈v,Sy z
theorem SyM.ent{M:List (List Int)}(h:SyM M)(r s:Nat):Sy (ent M r s):=by
 unfold Am.ent
 by_cases hr:r<M.length
 ·rw[Ac (l:=M),Aa hr]
  simp only[Ba]
  by_cases hs:s<M[r].length
  ·rw[Ac,Aa hs]
   exact h _ (Ak hr) _ (Ak hs)
  ·rw[Ac,AG (by omega)]
   show(aX 0).length≤_
   rw[cP];simp
 ·rw[Ac (l:=M),AG (by omega)]
  show(aX 0).length≤_
  rw[cP];simp
end Go.Am
end

section
set_option linter.unusedVariables false
set_option linter.unusedSimpArgs false
open Go Go.Am Go.Proofs
namespace Go.Am
/-! Sums -/
def sgm:Nat→(Nat→Int)→Int
 |0,_=>0
 |n+1,f=>sgm n f+f n
theorem cF{n:Nat}{f g:Nat→Int}(h:∀ j,j<n→f j=g j):sgm n f=sgm n g:=by
 induction n with
 |zero=>rfl
 |succ n ih=>simp only[sgm];rw[ih fun j hj=>h j (by omega),h n (by omega)]
theorem qA(n:Nat)(f g:Nat→Int):sgm n (fun j=>f j+g j)=sgm n f+sgm n g:=by
 induction n with
 |zero=>rfl
 |succ n ih=>simp only[sgm];rw[ih];omega
theorem tC(n:Nat)(k:Int)(f:Nat→Int):sgm n (fun j=>k*f j)=k*sgm n f:=by
 induction n with
 |zero=>simp[sgm]
 |succ n ih=>simp only[sgm];rw[ih,CL]
theorem vP(n:Nat):sgm n (fun _=>0)=0:=by
 induction n with
 |zero=>rfl
 |succ n ih=>simp only[sgm];rw[ih];rfl
theorem lW{n k:Nat}(hk:k<n)(f:Nat→Int):sgm n (fun j=>(if j=k then 1 else 0)*f j)=f k:=by
 induction n with
 |zero=>omega
 |succ n ih =>
  simp only[sgm]
  by_cases e:k=n
  ·subst e
   rw[Ag rfl,cF (g:=fun _=>0) fun j hj=>by rw[Ae (by omega)];simp,vP];simp
  ·rw[ih (by omega),Ae (fun h=>e h.symm)];simp
/-! The work's operations -/
structure W3 where
 M:List (List Int)
 U:List (List Int)
 V:List (List Int)
def aSk(M:List (List Int))(i j:Nat)(k:Int)(s r t:Nat):Int:=if r=i∧t<s then ent M i t+k*ent M j t else ent M r t
def bIx(V:List (List Int))(i j:Nat)(k:Int)(s r t:Nat):Int:=if t=j∧r<s then ent V r j-k*ent V r i else ent V r t
def qD(R c:Nat)(M:List (List Int))(i j:Nat)(k:Int):List (List Int):=mk R c (aSk M i j k c)
def aSj(R:Nat)(V:List (List Int))(i j:Nat)(k:Int):List (List Int):=mk R R (bIx V i j k R)
def swp(i j r:Nat):Nat:=if r=i then j else if r=j then i else r
def swR(R c:Nat)(M:List (List Int))(i j:Nat):List (List Int):=mk R c fun r t=>ent M (swp i j r) t
def swC(V:List (List Int))(i j:Nat)(s r t:Nat):Int:=if r<s then ent V r (swp i j t)else ent V r t
def swV(R:Nat)(V:List (List Int))(i j:Nat):List (List Int):=mk R R (swC V i j R)
def ngF(M:List (List Int))(i:Nat)(s r t:Nat):Int:=if r=i∧t<s then-ent M i t else ent M r t
def ngC(V:List (List Int))(i:Nat)(s r t:Nat):Int:=if t=i∧r<s then-ent V r i else ent V r t
def ngR(R c:Nat)(M:List (List Int))(i:Nat):List (List Int):=mk R c (ngF M i c)
def ngV(R:Nat)(V:List (List Int))(i:Nat):List (List Int):=mk R R (ngC V i R)
def W3.add(R c:Nat)(w:W3)(i j:Nat)(k:Int):W3:=⟨qD R c w.M i j k,qD R R w.U i j k,aSj R w.V i j k⟩
def W3.sw(R c:Nat)(w:W3)(i j:Nat):W3:=⟨swR R c w.M i j,swR R R w.U i j,swV R w.V i j⟩
def W3.ng(R c:Nat)(w:W3)(i:Nat):W3:=⟨ngR R c w.M i,ngR R R w.U i,ngV R w.V i⟩
def W3.sh(R c:Nat)(w:W3):Prop:=WS R c w.M w.U w.V
theorem W3.add_sh(R c:Nat)(w:W3)(i j:Nat)(k:Int):(w.add R c i j k).sh R c:=⟨iR _ _ _,iR _ _ _,iR _ _ _⟩
theorem W3.sw_sh(R c:Nat)(w:W3)(i j:Nat):(w.sw R c i j).sh R c:=⟨iR _ _ _,iR _ _ _,iR _ _ _⟩
theorem W3.ng_sh(R c:Nat)(w:W3)(i:Nat):(w.ng R c i).sh R c:=⟨iR _ _ _,iR _ _ _,iR _ _ _⟩
theorem yB{R i j r:Nat}(hi:i<R)(hj:j<R)(hr:r<R):swp i j r<R:=by
 unfold swp;split
 ·exact hj
 ·split
  ·exact hi
  ·exact hr
theorem aTj(i j r:Nat):swp i j (swp i j r)=r:=by
 unfold swp
 by_cases h1:r=i
 ·rw[Ag h1];by_cases h2:j=i
  ·rw[Ag h2,h1,h2]
  ·rw[Ae h2,Ag rfl,h1]
 ·rw[Ae h1]
  by_cases h2:r=j
  ·rw[Ag h2,Ag rfl,h2]
  ·rw[Ae h2,Ae h1,Ae h2]
theorem gO{R c i j r t:Nat}{M:List (List Int)}{k:Int}(hr:r<R)(ht:t<c):ent (qD R c M i j k) r t=if r=i then ent M i t+k*ent M j t else ent M r t:=by
 unfold qD;rw[qH _ hr ht];unfold aSk
 by_cases e:r=i
 ·rw[Ag ⟨e,ht⟩,Ag e]
 ·rw[Ae (fun h=>e h.1),Ae e]
theorem aOe{R i j r t:Nat}{V:List (List Int)}{k:Int}(hr:r<R)(ht:t<R):ent (aSj R V i j k) r t=if t=j then ent V r j-k*ent V r i else ent V r t:=by
 unfold aSj;rw[qH _ hr ht];unfold bIx
 by_cases e:t=j
 ·rw[Ag ⟨e,hr⟩,Ag e]
 ·rw[Ae (fun h=>e h.1),Ae e]
theorem xE{R c i j r t:Nat}{M:List (List Int)}(hr:r<R)(ht:t<c):ent (swR R c M i j) r t=ent M (swp i j r) t:=by unfold swR;rw[qH _ hr ht]
theorem bOt{R i j r t:Nat}{V:List (List Int)}(hr:r<R)(ht:t<R):ent (swV R V i j) r t=ent V r (swp i j t):=by unfold swV;rw[qH _ hr ht];unfold swC;rw[Ag hr]
theorem mA{R c i r t:Nat}{M:List (List Int)}(hr:r<R)(ht:t<c):ent (ngR R c M i) r t=if r=i then-ent M i t else ent M r t:=by
 unfold ngR;rw[qH _ hr ht];unfold ngF
 by_cases e:r=i
 ·rw[Ag ⟨e,ht⟩,Ag e]
 ·rw[Ae (fun h=>e h.1),Ae e]
theorem bOu{R i r t:Nat}{V:List (List Int)}(hr:r<R)(ht:t<R):ent (ngV R V i) r t=if t=i then-ent V r i else ent V r t:=by
 unfold ngV;rw[qH _ hr ht];unfold ngC
 by_cases e:t=i
 ·rw[Ag ⟨e,hr⟩,Ag e]
 ·rw[Ae (fun h=>e h.1),Ae e]
/-! U A = M is kept -/
def vJ(R c n:Nat)(U A M:List (List Int)):Prop:=∀ r t,r<R→t<c→sgm n (fun j=>ent U r j*ent A j t)=ent M r t
theorem vJ.add{R c:Nat}{U A M:List (List Int)}{i j:Nat}{k:Int}(h:vJ R c R U A M)(hi:i<R)(hj:j<R):vJ R c R (qD R R U i j k) A (qD R c M i j k):=by
 intro r t hr ht
 rw[gO hr ht]
 by_cases e:r=i
 ·rw[Ag e,←h i t hi ht,←h j t hj ht,←tC,←qA]
  exact cF fun q hq=>by rw[gO hr hq,Ag e,Int.add_mul,CM]
 ·rw[Ae e,←h r t hr ht]
  exact cF fun q hq=>by rw[gO hr hq,Ae e]
theorem vJ.sw{R c:Nat}{U A M:List (List Int)}{i j:Nat}(h:vJ R c R U A M)(hi:i<R)(hj:j<R):vJ R c R (swR R R U i j) A (swR R c M i j):=by
 intro r t hr ht
 rw[xE hr ht,←h _ t (yB hi hj hr) ht]
 exact cF fun q hq=>by rw[xE hr hq]
theorem vJ.ng{R c:Nat}{U A M:List (List Int)}{i:Nat}(h:vJ R c R U A M)(hi:i<R):vJ R c R (ngR R R U i) A (ngR R c M i):=by
 intro r t hr ht
 rw[mA hr ht]
 by_cases e:r=i
 ·rw[Ag e,←h i t hi ht,show-sgm R (fun j=>ent U i j*ent A j t)=(-1)*sgm R (fun j=>ent U i j*ent A j t)by omega,←tC]
  exact cF fun q hq=>by rw[mA hr hq,Ag e,←CM];congr 1;omega
 ·rw[Ae e,←h r t hr ht]
  exact cF fun q hq=>by rw[mA hr hq,Ae e]
/-! What Form does -/
def Sd(z:Int):Prop:=(aX z.natAbs).length≤34359738368
def SdM(M:List (List Int)):Prop:=∀ r t,Sd (ent M r t)
structure Ok(R c:Nat)(w:W3):Prop where
 sh:w.sh R c
 m:SdM w.M
 u:SdM w.U
 v:SdM w.V
def euT(R c col top i:Nat)(w:W3):W3:=if ent w.M top col=0 then w else w.add R c top i (-(ent w.M top col/ent w.M i col))
def euS(R c col top i:Nat)(w:W3):W3:=(euT R c col top i w).sw R c top i
inductive Eu(R c col top i:Nat):W3→W3→Prop where
 |done (w:W3) (ok:Ok R c w) (h:ent w.M i col=0):Eu R c col top i w w
 |go (w w':W3) (ok:Ok R c w) (h:ent w.M i col≠0) (h2:Eu R c col top i (euS R c col top i w) w'):Eu R c col top i w w'
inductive Ei(R c col top:Nat):Nat→W3→W3→Prop where
 |done (i:Nat) (w:W3) (ok:Ok R c w) (h:i=R):Ei R c col top i w w
 |go (i:Nat) (w w1 w2:W3) (h:i<R) (h1:Eu R c col top i w w1) (h2:Ei R c col top (i+1) w1 w2):Ei R c col top i w w2
def rdS(R c col top i:Nat)(w:W3):W3:=w.add R c i top (-(ent w.M i col/ent w.M top col))
inductive Rd(R c col top:Nat):Nat→W3→W3→Prop where
 |done (i:Nat) (w:W3) (ok:Ok R c w) (h:i=top):Rd R c col top i w w
 |go (i:Nat) (w w2:W3) (ok:Ok R c w) (h:i<top) (h2:Rd R c col top (i+1) (rdS R c col top i w) w2):Rd R c col top i w w2
def ngS(R c col top:Nat)(w:W3):W3:=if ent w.M top col<0 then w.ng R c top else w
inductive Fo(R c:Nat):Nat→Nat→W3→W3→Prop where
 |done (col top:Nat) (w:W3) (ok:Ok R c w) (h:¬(col<c∧top<R)):Fo R c col top w w
 |zero (col top:Nat) (w w1 w2:W3) (h1:col<c) (h2:top<R) (h3:Ei R c col top (top+1) w w1) (h4:ent w1.M top col=0) (h5:Fo R c (col+1) top w1 w2):Fo R c col top w w2
 |piv (col top:Nat) (w w1 w2 w3:W3) (h1:col<c) (h2:top<R) (h3:Ei R c col top (top+1) w w1) (h4:ent w1.M top col≠0) (h5:Rd R c col top 0 (ngS R c col top w1) w2) (h6:Fo R c (col+1) (top+1) w2 w3):Fo R c col top w w3
/-! Bounds -/
theorem bRd{z:Int}{E:Nat}(h:z.natAbs≤2^E)(k:Nat)(hE:E<32*k):(aX z.natAbs).length≤k:=by
 refine fC (Bt h ?_)
 rw[show(4294967296:Nat)=2^32 from rfl,←Nat.pow_mul]
 exact Nat.pow_lt_pow_right (by omega) hE
def Be(e:Nat)(M:List (List Int)):Prop:=∀ r t,(ent M r t).natAbs≤2^e
theorem Be.mono{e e':Nat}{M:List (List Int)}(h:Be e M)(he:e≤e'):Be e' M:=fun r t=>Ap (h r t) (BI (by omega) he)
theorem Be.sd{e:Nat}{M:List (List Int)}(h:Be e M)(he:e<1099511627776):SdM M:=fun r t=>bRd (h r t) _ (by omega)
theorem Be.of{R c e:Nat}{M:List (List Int)}(hs:Sh R c M)(h:∀ r t,r<R→t<c→(ent M r t).natAbs≤2^e):Be e M:=fun r t=>by
 by_cases hr:r<R∧t<c
 ·exact h r t hr.1 hr.2
 ·rw[xF hs hr];exact An _
structure B3(e:Nat)(w:W3):Prop where
 m:Be e w.M
 u:Be e w.U
 v:Be e w.V
theorem B3.mono{e e':Nat}{w:W3}(h:B3 e w)(he:e≤e'):B3 e' w:=⟨h.m.mono he,h.u.mono he,h.v.mono he⟩
theorem B3.ok{R c e:Nat}{w:W3}(h:B3 e w)(hs:w.sh R c)(he:e<1099511627776):Ok R c w:=⟨hs,h.m.sd he,h.u.sd he,h.v.sd he⟩
def phi(a b x y:Int):Nat:=(if y<0 then 3 else 1)*(a.natAbs*y.natAbs+b.natAbs*x.natAbs+(if x<0 then 2*(b.natAbs*y.natAbs)else 0))
theorem bOy(x y:Int)(hy:y≠0):(x/y).natAbs*y.natAbs+(x%y).natAbs≤x.natAbs+(if x<0 then 2*(x%y).natAbs else 0):=by
 have h1:=Dq x y
 have h2:=Dy x hy
 have h3:=Int.emod_lt x hy
 have h4:0≤x→x%y≤x:=fun hx=>by
  obtain⟨n,rfl⟩:∃ n:Nat,x=n:=⟨x.toNat,by omega⟩
  show((n%y.natAbs:Nat):Int)≤n
  have:=Nat.mod_le n y.natAbs;omega
 have h5:(x/y).natAbs*y.natAbs=(x-x%y).natAbs:=by rw[←BJ,BG];congr 1;omega
 rw[h5]
 split<;>omega
theorem aBu{a b x y a':Int}(hy:y≠0)(ha:a'.natAbs≤a.natAbs+(x/y).natAbs*b.natAbs):phi b a' y (x%y)≤phi a b x y:=by
 have h1:=bOy x y hy
 have h2:=Dy x hy
 have h3:(x%y).natAbs≤y.natAbs:=by have:=Int.emod_lt x hy;omega
 generalize x%y=r at *
 have hr:¬r<0:=by omega
 unfold phi
 rw[Ae hr]
 generalize(x/y).natAbs=q at *
 generalize a'.natAbs=A' at *
 generalize a.natAbs=A at *
 generalize b.natAbs=B at *
 generalize hr2:r.natAbs=r' at *
 generalize hy2:y.natAbs=y' at *
 generalize hx2:x.natAbs=x' at *
 -- T = A y' + B x' + ..
 have k1:A'*y'≤A*y'+B*(q*y'):=by
  have:=AX y' ha
  rw[Bp]at this
  rw[show B*(q*y')=q*B*y' by rw[←BF,BU B q]]
  exact this
 have k2:B*(q*y')+B*r'≤B*x'+(if x<0 then 2*(B*y')else 0):=by
  rw[←BX]
  refine Ap (BE B h1) ?_
  rw[BX]
  split
  ·rw[show B*(2*r')=2*(B*r')by rw[Nat.mul_left_comm]]
   have:=BE B h3
   omega
  ·simp
 have k3:A'*r'≤A'*y':=BE A' h3
 generalize A'*r'=z1 at *
 generalize A'*y'=z2 at *
 generalize A*y'=z3 at *
 generalize B*(q*y')=z4 at *
 generalize B*r'=z5 at *
 generalize B*x'=z6 at *
 generalize B*y'=z7 at *
 split<;>split at k2<;>simp_all<;>omega
theorem aBv{a b x y:Int}{e:Nat}(ha:a.natAbs≤2^e)(hb:b.natAbs≤2^e)(hx:x.natAbs≤2^e)(hy:y.natAbs≤2^e):phi a b x y≤2^(2*e+4):=by
 have h1:=B9 ha hy
 have h2:=B9 hb hx
 have h3:=B9 hb hy
 rw[show 2^(2*e+4)=16*(2^e*2^e)by rw[CC,show 2*e=e+e by omega,CC,BU]]
 unfold phi
 split<;>split<;>omega
theorem bCy{a b x y:Int}(hx:x≠0):b.natAbs≤phi a b x y:=by
 have:b.natAbs*1≤b.natAbs*x.natAbs:=BE _ (by omega)
 unfold phi
 split<;>omega
/-! The first loop inside -/
structure Gd(R c:Nat)(A:List (List Int))(e col top:Nat)(w:W3):Prop where
 sh:w.sh R c
 b:B3 e w
 eq:vJ R c R w.U A w.M
 low:∀ r t,top≤r→r<R→t<col→ent w.M r t=0
 hi:∀ r,r<top→∃ t,t<col∧ent w.M r t≠0
section
variable {R c col top i:Nat} {A:List (List Int)} {w:W3}
theorem bWz{r t:Nat}(hr:r<R)(ht:t<c):ent (euT R c col top i w).M r t=if r=top then ent w.M top t-(ent w.M top col/ent w.M i col)*ent w.M i t else ent w.M r t:=by
 unfold euT
 split
 ·rename_i h;rw[h,Fu];split
  ·rename_i e;rw[e];simp
  ·rfl
 ·show ent (qD R c w.M top i _) r t=_
  rw[gO hr ht];split
  ·rw[C5];rfl
  ·rfl
theorem bWy{r t:Nat}(hr:r<R)(ht:t<R):ent (euT R c col top i w).U r t=if r=top then ent w.U top t-(ent w.M top col/ent w.M i col)*ent w.U i t else ent w.U r t:=by
 unfold euT
 split
 ·rename_i h;rw[h,Fu];split
  ·rename_i e;rw[e];simp
  ·rfl
 ·show ent (qD R R w.U top i _) r t=_
  rw[gO hr ht];split
  ·rw[C5];rfl
  ·rfl
theorem bWx{r t:Nat}(hr:r<R)(ht:t<R):ent (euT R c col top i w).V r t=if t=i then ent w.V r i+(ent w.M top col/ent w.M i col)*ent w.V r top else ent w.V r t:=by
 unfold euT
 split
 ·rename_i h;rw[h,Fu];split
  ·rename_i e;rw[e];simp
  ·rfl
 ·show ent (aSj R w.V top i _) r t=_
  rw[aOe hr ht];split
  ·rw[C5];omega
  ·rfl
theorem bTz(h:vJ R c R w.U A w.M)(ht:top<R)(hi:i<R):vJ R c R (euT R c col top i w).U A (euT R c col top i w).M:=by
 unfold euT;split
 ·exact h
 ·exact h.add ht hi
theorem bUa(h:vJ R c R w.U A w.M)(ht:top<R)(hi:i<R):vJ R c R (euS R c col top i w).U A (euS R c col top i w).M:=(bTz h ht hi).sw ht hi
theorem aOb(hti:top≠i)(htR:top<R)(hi:i<R){r t:Nat}(hr:r<R)(ht:t<c):ent (euS R c col top i w).M r t=if r=top then ent w.M i t else if r=i then ent w.M top t-(ent w.M top col/ent w.M i col)*ent w.M i t else ent w.M r t:=by
 show ent (swR R c _ top i) r t=_
 rw[xE hr ht,bWz (yB htR hi hr) ht]
 unfold swp
 by_cases e1:r=top
 ·rw[Ag e1,Ag e1,Ae (fun h=>hti h.symm)]
 ·rw[Ae e1,Ae e1]
  by_cases e2:r=i
  ·rw[Ag e2,Ag e2,Ag rfl]
  ·rw[Ae e2,Ae e2,Ae e1]
theorem bXb(hti:top≠i)(htR:top<R)(hi:i<R){r t:Nat}(hr:r<R)(ht:t<R):ent (euS R c col top i w).U r t=if r=top then ent w.U i t else if r=i then ent w.U top t-(ent w.M top col/ent w.M i col)*ent w.U i t else ent w.U r t:=by
 show ent (swR R R _ top i) r t=_
 rw[xE hr ht,bWy (yB htR hi hr) ht]
 unfold swp
 by_cases e1:r=top
 ·rw[Ag e1,Ag e1,Ae (fun h=>hti h.symm)]
 ·rw[Ae e1,Ae e1]
  by_cases e2:r=i
  ·rw[Ag e2,Ag e2,Ag rfl]
  ·rw[Ae e2,Ae e2,Ae e1]
theorem bXa(hti:top≠i)(htR:top<R)(hi:i<R){r t:Nat}(hr:r<R)(ht:t<R):ent (euS R c col top i w).V r t=if t=top then ent w.V r i+(ent w.M top col/ent w.M i col)*ent w.V r top else if t=i then ent w.V r top else ent w.V r t:=by
 show ent (swV R _ top i) r t=_
 rw[bOt hr ht,bWx hr (yB htR hi ht)]
 unfold swp
 by_cases e1:t=top
 ·rw[Ag e1,Ag e1,Ag rfl]
 ·rw[Ae e1,Ae e1]
  by_cases e2:t=i
  ·rw[Ag e2,Ag e2,Ae hti]
  ·rw[Ae e2,Ae e2,Ae e2]
end
section
variable {R c col top i e:Nat} {A:List (List Int)} {w:W3}
structure Ew(R c:Nat)(A:List (List Int))(e col top i:Nat)(w:W3):Prop where
 g:Gd R c A (2*e+4) col top w
 z:∀ r,top<r→r<i→ent w.M r col=0
 pm:∀ t,t<c→phi (ent w.M top t) (ent w.M i t) (ent w.M top col) (ent w.M i col)≤2^(2*e+4)
 pu:∀ t,t<R→phi (ent w.U top t) (ent w.U i t) (ent w.M top col) (ent w.M i col)≤2^(2*e+4)
 pv:∀ r,r<R→phi (ent w.V r i) (ent w.V r top) (ent w.M top col) (ent w.M i col)≤2^(2*e+4)
theorem Ew.init(g:Gd R c A e col top w)(z:∀ r,top<r→r<i→ent w.M r col=0):Ew R c A e col top i w :=
 ⟨⟨g.sh,g.b.mono (by omega),g.eq,g.low,g.hi⟩,z,fun t _=>aBv (g.b.m _ _) (g.b.m _ _) (g.b.m _ _) (g.b.m _ _),fun t _=>aBv (g.b.u _ _) (g.b.u _ _) (g.b.m _ _) (g.b.m _ _),fun t _=>aBv (g.b.v _ _) (g.b.v _ _) (g.b.m _ _) (g.b.m _ _)⟩
theorem Ew.step(h:Ew R c A e col top i w)(hcol:col<c)(hti:top<i)(hiR:i<R)(hy:ent w.M i col≠0):Ew R c A e col top i (euS R c col top i w):=by
 have htR:top<R:=by omega
 have hne:top≠i:=by omega
 have hne':¬i=top:=by omega
 have eM:=fun r t hr ht=>aOb (w:=w) (c:=c) (col:=col) hne htR hiR (r:=r) (t:=t) hr ht
 have eU:=fun r t hr ht=>bXb (w:=w) (c:=c) (col:=col) hne htR hiR (r:=r) (t:=t) hr ht
 have eV:=fun r t hr ht=>bXa (w:=w) (c:=c) (col:=col) hne htR hiR (r:=r) (t:=t) hr ht
 have hsh:(euS R c col top i w).sh R c:=W3.sw_sh ..
 have hx1:ent (euS R c col top i w).M top col=ent w.M i col:=by rw[eM _ _ htR hcol,Ag rfl]
 have hy1:ent (euS R c col top i w).M i col=ent w.M top col%ent w.M i col:=by
  rw[eM _ _ hiR hcol,Ae hne',Ag rfl]
  have:=Dq (ent w.M top col) (ent w.M i col)
  rw[BG (ent w.M top col/_)];omega
 have pm:∀ t,t<c→phi (ent (euS R c col top i w).M top t) (ent (euS R c col top i w).M i t) (ent w.M i col) (ent w.M top col%ent w.M i col)≤2^(2*e+4):=fun t ht=>by
  rw[eM _ _ htR ht,Ag rfl,eM _ _ hiR ht,Ae hne',Ag rfl]
  refine Ap (aBu hy ?_) (h.pm t ht)
  rw[←BJ];omega
 have pu:∀ t,t<R→phi (ent (euS R c col top i w).U top t) (ent (euS R c col top i w).U i t) (ent w.M i col) (ent w.M top col%ent w.M i col)≤2^(2*e+4):=fun t ht=>by
  rw[eU _ _ htR ht,Ag rfl,eU _ _ hiR ht,Ae hne',Ag rfl]
  refine Ap (aBu hy ?_) (h.pu t ht)
  rw[←BJ];omega
 have pv:∀ r,r<R→phi (ent (euS R c col top i w).V r i) (ent (euS R c col top i w).V r top) (ent w.M i col) (ent w.M top col%ent w.M i col)≤2^(2*e+4):=fun r hr=>by
  rw[eV _ _ hr htR,Ag rfl,eV _ _ hr hiR,Ae hne',Ag rfl]
  refine Ap (aBu hy ?_) (h.pv r hr)
  rw[←BJ];omega
 refine⟨⟨hsh,⟨.of hsh.m fun r t hr ht=>?_,.of hsh.u fun r t hr ht=>?_,.of hsh.v fun r t hr ht=>?_⟩,bUa h.g.eq htR hiR,fun r t h1 h2 h3=>?_,fun r hr=>?_⟩,fun r h1 h2=>?_,fun t ht=>by rw[hx1,hy1];exact pm t ht,fun t ht=>by rw[hx1,hy1];exact pu t ht,fun t ht=>by rw[hx1,hy1];exact pv t ht⟩
 ·by_cases e2:r=i
  ·rw[e2];exact Ap (bCy hy) (pm t ht)
  ·rw[eM _ _ hr ht]
   split
   ·exact h.g.b.m _ _
   ·exact h.g.b.m _ _
 ·by_cases e2:r=i
  ·rw[e2];exact Ap (bCy hy) (pu t ht)
  ·rw[eU _ _ hr ht]
   split
   ·exact h.g.b.u _ _
   ·exact h.g.b.u _ _
 ·by_cases e2:t=top
  ·rw[e2];exact Ap (bCy hy) (pv r hr)
  ·rw[eV _ _ hr ht,Ae e2]
   split
   ·exact h.g.b.v _ _
   ·exact h.g.b.v _ _
 ·have hl:∀ r,top≤r→r<R→ent w.M r t=0:=fun r h1 h2=>h.g.low r t h1 h2 h3
  rw[eM _ _ h2 (by omega),hl i (by omega) hiR,hl top (by omega) htR,hl r h1 h2]
  split
  ·rfl
  ·split
   ·simp
   ·rfl
 ·obtain⟨t,ht,h0⟩:=h.g.hi r hr
  exact⟨t,ht,by rw[eM _ _ (by omega) (by omega),Ae (by omega),Ae (by omega)];exact h0⟩
 ·rw[eM _ _ (by omega) hcol,Ae (by omega),Ae (by omega)]
  exact h.z r h1 h2
theorem bQx(hcol:col<c)(hti:top<i)(hiR:i<R)(he:2*e+4<1099511627776):∀(n:Nat) (w:W3),(ent w.M i col).natAbs≤n→Ew R c A e col top i w→∃ w',Eu R c col top i w w'∧Ew R c A e col top i w'∧ent w'.M i col=0
 |n,w,hn,h=>by
  have ok:Ok R c w:=h.g.b.ok h.g.sh he
  by_cases hy:ent w.M i col=0
  ·exact⟨w,.done w ok hy,h,hy⟩
  ·have h1:=h.step hcol hti hiR hy
   have hy1:ent (euS R c col top i w).M i col=ent w.M top col%ent w.M i col:=by
    rw[aOb (by omega) (by omega) hiR hiR hcol,Ae (by omega),Ag rfl]
    have:=Dq (ent w.M top col) (ent w.M i col)
    rw[BG (ent w.M top col/_)];omega
   have hlt:=Int.emod_lt (ent w.M top col) hy
   have hnn:=Dy (ent w.M top col) hy
   cases n with
   |zero=>omega
   |succ n =>
    obtain⟨w',e1,e2,e3⟩:=bQx hcol hti hiR he n _ (by rw[hy1];omega) h1
    exact⟨w',.go w w' ok hy e1,e2,e3⟩
theorem bTy(hcol:col<c)(hti:top<i)(hiR:i<R){w w':W3}(h:Eu R c col top i w w'):(w'=w∨ent w'.M top col≠0)∧(ent w.M top col≠0→ent w'.M top col≠0):=by
 induction h with
 |done w ok h=>exact⟨.inl rfl,fun h=>h⟩
 |go w w' ok hy h2 ih =>
  have hx1:ent (euS R c col top i w).M top col≠0:=by rw[aOb (by omega) (by omega) hiR (by omega) hcol,Ag rfl];exact hy
  exact⟨.inr (ih.2 hx1),fun _=>ih.2 hx1⟩
def dbl:Nat→Nat→Nat
 |0,e=>e
 |n+1,e=>dbl n (2*e+4)
theorem jQ:∀ n e,dbl n e+4=2^n*(e+4)
 |0,e=>by simp[dbl]
 |n+1,e=>by rw[dbl,jQ n,Cf,BF];congr 1
theorem qR(n e:Nat):e≤dbl n e:=by
 have:=jQ n e
 have h2:1*(e+4)≤2^n*(e+4):=AX _ (DV)
 omega
theorem jD{n m e:Nat}(h:n≤m):dbl n e≤dbl m e:=by
 have h1:=jQ n e
 have h2:=jQ m e
 have:2^n*(e+4)≤2^m*(e+4):=AX _ (BI (by omega) h)
 omega
theorem tX(n m e:Nat):dbl n (dbl m e)=dbl (m+n) e:=by
 have h1:=jQ n (dbl m e)
 have h2:=jQ m e
 have h3:=jQ (m+n) e
 rw[h2,←BF,←CC,CB n m]at h1
 omega
theorem bQz(hcol:col<c)(hR:top<R):∀(n i e:Nat) (w:W3),n+i=R→top<i→Gd R c A e col top w→(∀ r,top<r→r<i→ent w.M r col=0)→dbl n e<1099511627776 →
  ∃ w',Ei R c col top i w w'∧Gd R c A (dbl n e) col top w'∧(∀ r,top<r→r<R→ent w'.M r col=0)∧(w'=w∨ent w'.M top col≠0)∧(ent w.M top col≠0→ent w'.M top col≠0)
 |0,i,e,w,hi,hti,g,z,hb=>⟨w,.done i w (g.b.ok g.sh hb) (by omega),g,fun r h1 h2=>z r h1 (by omega),.inl rfl,fun h=>h⟩
 |n+1,i,e,w,hi,hti,g,z,hb=>by
  have h1:2*e+4<1099511627776:=Bt (qR n (2*e+4)) hb
  obtain⟨w1,e1,e2,e3⟩:=bQx (A:=A) (e:=e) hcol hti (by omega:i<R) h1 _ w (Az _) (.init g z)
  have ht:=bTy hcol hti (by omega) e1
  obtain⟨w2,f1,f2,f3,f4,f5⟩:=bQz hcol hR n (i+1) (2*e+4) w1 (by omega) (by omega) e2.g (fun r h1 h2=>if h:r=i then h ▸ e3 else e2.z r h1 (by omega)) hb
  refine⟨w2,.go i w w1 w2 (by omega) e1 f1,f2,f3,?_,fun h=>f5 (ht.2 h)⟩
  rcases ht.1 with h|h
  ·subst h;exact f4
  ·exact .inr (f5 h)
end
section
variable {R c col top i e:Nat} {A:List (List Int)} {w:W3}
theorem bTb(g:Gd R c A e col top w)(hcol:col<c)(hR:top<R):Gd R c A e col top (ngS R c col top w):=by
 unfold ngS
 split
 ·refine⟨W3.ng_sh ..,⟨.of (iR _ _ _) fun r t hr ht=>?_,.of (iR _ _ _) fun r t hr ht=>?_,.of (iR _ _ _) fun r t hr ht=>?_⟩,g.eq.ng hR,fun r t h1 h2 h3=>?_,fun r hr=>?_⟩
  ·show(ent (ngR R c w.M top) r t).natAbs≤_
   rw[mA hr ht];split
   ·rw[CF];exact g.b.m _ _
   ·exact g.b.m _ _
  ·show(ent (ngR R R w.U top) r t).natAbs≤_
   rw[mA hr ht];split
   ·rw[CF];exact g.b.u _ _
   ·exact g.b.u _ _
  ·show(ent (ngV R w.V top) r t).natAbs≤_
   rw[bOu hr ht];split
   ·rw[CF];exact g.b.v _ _
   ·exact g.b.v _ _
  ·show ent (ngR R c w.M top) r t=0
   rw[mA h2 (by omega),g.low top t (Az _) hR h3,g.low r t h1 h2 h3];split<;>rfl
  ·obtain⟨t,h1,h2⟩:=g.hi r hr
   refine⟨t,h1,?_⟩
   show ent (ngR R c w.M top) r t≠0
   rw[mA (by omega) (by omega),Ae (by omega)];exact h2
 ·exact g
theorem aIt(hcol:col<c)(hR:top<R){r:Nat}(hr:r<R):(ent (ngS R c col top w).M r col=0↔ent w.M r col=0):=by
 unfold ngS
 split
 ·show ent (ngR R c w.M top) r col=0↔_
  rw[mA hr hcol];split
  ·rename_i e;rw[e];omega
  ·exact Iff.rfl
 ·exact Iff.rfl
structure Rv(R c:Nat)(A:List (List Int))(e col top i:Nat)(w:W3):Prop where
 g:Gd R c A (2*e+4) col top w
 m:∀ r t,i≤r→(ent w.M r t).natAbs≤2^e
 u:∀ r t,i≤r→(ent w.U r t).natAbs≤2^e
 v:∀ r t,t≠top→(ent w.V r t).natAbs≤2^e
 vt:∀ r,(ent w.V r top).natAbs≤(i+1)*2^(2*e)
theorem bBh(e:Nat):2^(2*e+4)=16*2^(2*e)∧2^e*2^e=2^(2*e)∧2^e≤2^(2*e) :=
 ⟨by rw[CC,BU],by rw[←CC];congr 1;omega,BI (by omega) (by omega)⟩
theorem Rv.init(g:Gd R c A e col top w):Rv R c A e col top 0 w :=
 ⟨⟨g.sh,g.b.mono (by omega),g.eq,g.low,g.hi⟩,fun r t _=>g.b.m r t,fun r t _=>g.b.u r t,fun r t _=>g.b.v r t,fun r=>by rw[Bf,Cn];exact Ap (g.b.v r top) (bBh e).2.2⟩
theorem Rv.step(h:Rv R c A e col top i w)(hcol:col<c)(hR:top<R)(hR2:R≤15)(hi:i<top):Rv R c A e col top (i+1) (rdS R c col top i w):=by
 obtain⟨p1,p2,p3⟩:=bBh e
 obtain⟨k,hk⟩:∃ k:Int,-(ent w.M i col/ent w.M top col)=k:=⟨_,rfl⟩
 have hkb:k.natAbs≤2^e:=by
  rw[←hk,CF]
  exact Ap (Dt _ _) (h.m i col (Az _))
 have hmul:∀{z:Int},z.natAbs≤2^e→(k*z).natAbs≤2^(2*e):=fun hz=>by rw[BJ,←p2];exact B9 hkb hz
 have hS:rdS R c col top i w=w.add R c i top k:=by unfold rdS;rw[hk]
 have hsh:(w.add R c i top k).sh R c:=W3.add_sh ..
 have eM:∀{r t},r<R→t<c→ent (w.add R c i top k).M r t=_:=fun hr ht=>gO (M:=w.M) (i:=i) (j:=top) (k:=k) hr ht
 have eU:∀{r t},r<R→t<R→ent (w.add R c i top k).U r t=_:=fun hr ht=>gO (M:=w.U) (i:=i) (j:=top) (k:=k) hr ht
 have eV:∀{r t},r<R→t<R→ent (w.add R c i top k).V r t=_:=fun hr ht=>aOe (V:=w.V) (i:=i) (j:=top) (k:=k) hr ht
 have outM:∀{r t},¬(r<R∧t<c)→ent (w.add R c i top k).M r t=0:=fun h=>xF hsh.m h
 have outU:∀{r t},¬(r<R∧t<R)→ent (w.add R c i top k).U r t=0:=fun h=>xF hsh.u h
 have outV:∀{r t},¬(r<R∧t<R)→ent (w.add R c i top k).V r t=0:=fun h=>xF hsh.v h
 have hvt:∀ r,(ent (w.add R c i top k).V r top).natAbs≤(i+1+1)*2^(2*e):=fun r=>by
  by_cases hr:r<R
  ·rw[eV hr hR,Ag rfl]
   have h1:=h.vt r
   have h2:=hmul (h.v r i (by omega))
   rw[Bp (i+1),Cn]
   omega
  ·rw[outV (fun h=>hr h.1)];exact An _
 rw[hS]
 refine⟨⟨hsh,⟨.of hsh.m fun r t hr ht=>?_,.of hsh.u fun r t hr ht=>?_,.of hsh.v fun r t hr ht=>?_⟩,h.g.eq.add (by omega) hR,fun r t h1 h2 h3=>?_,fun r hr=>?_⟩,fun r t hr=>?_,fun r t hr=>?_,fun r t ht=>?_,hvt⟩
 ·rw[eM hr ht];split
  ·have h1:=h.m i t (Az _)
   have h2:=hmul (h.m top t (by omega))
   rw[p1];omega
  ·exact h.g.b.m _ _
 ·rw[eU hr ht];split
  ·have h1:=h.u i t (Az _)
   have h2:=hmul (h.u top t (by omega))
   rw[p1];omega
  ·exact h.g.b.u _ _
 ·by_cases e2:t=top
  ·rw[e2]
   refine Ap (hvt r) ?_
   rw[p1]
   exact AX _ (by omega)
  ·rw[eV hr ht,Ae e2]
   exact h.g.b.v _ _
 ·rw[eM h2 (by omega),Ae (by omega)];exact h.g.low r t h1 h2 h3
 ·obtain⟨t,h1,h2⟩:=h.g.hi r hr
  refine⟨t,h1,?_⟩
  rw[eM (by omega) (by omega)]
  split
  ·rename_i e2
   rw[h.g.low top t (Az _) hR h1,←e2];simpa using h2
  ·exact h2
 ·by_cases hb:r<R∧t<c
  ·rw[eM hb.1 hb.2,Ae (by omega)];exact h.m r t (by omega)
  ·rw[outM hb];exact An _
 ·by_cases hb:r<R∧t<R
  ·rw[eU hb.1 hb.2,Ae (by omega)];exact h.u r t (by omega)
  ·rw[outU hb];exact An _
 ·by_cases hb:r<R∧t<R
  ·rw[eV hb.1 hb.2,Ae ht];exact h.v r t ht
  ·rw[outV hb];exact An _
theorem bQq(hcol:col<c)(hR:top<R)(hR2:R≤15)(he:2*e+4<1099511627776):∀(n i:Nat) (w:W3),n+i=top→Rv R c A e col top i w→(∀ r,top<r→r<R→ent w.M r col=0)→ent w.M top col≠0→∃ w',Rd R c col top i w w'∧Gd R c A (2*e+4) (col+1) (top+1) w'
 |0,i,w,hi,h,z,hp=>by
  refine⟨w,.done i w (h.g.b.ok h.g.sh he) (by omega),h.g.sh,h.g.b,h.g.eq,fun r t h1 h2 h3=>?_,fun r hr=>?_⟩
  ·by_cases e2:t=col
   ·rw[e2];exact z r (by omega) h2
   ·exact h.g.low r t (by omega) h2 (by omega)
  ·by_cases e2:r=top
   ·rw[e2];exact⟨col,by omega,hp⟩
   ·obtain⟨t,h1,h2⟩:=h.g.hi r (by omega)
    exact⟨t,by omega,h2⟩
 |n+1,i,w,hi,h,z,hp=>by
  have hs:=h.step hcol hR hR2 (by omega)
  have eM:∀{r t},i<r→r<R→t<c→ent (rdS R c col top i w).M r t=ent w.M r t:=fun h1 hr ht=>by
   show ent (qD R c w.M i top _) _ _=_
   rw[gO hr ht,Ae (by omega)]
  obtain⟨w',h1,h2⟩:=bQq hcol hR hR2 he n (i+1) _ (by omega) hs (fun r h1 h2=>by rw[eM (by omega) h2 hcol];exact z r h1 h2) (by rw[eM (by omega) hR hcol];exact hp)
  exact⟨w',.go i w w' (h.g.b.ok h.g.sh he) (by omega) h1,h2⟩
def tr:Nat→Nat
 |0=>0
 |n+1=>tr n+(n+1)
theorem bGe(hR2:R≤15):∀(n col top e:Nat) (w:W3),n+col=c→top≤R→Gd R c A e col top w→dbl (tr (R-top)) e<1099511627776→∃ w' k e',Fo R c col top w w'∧k≤R∧Gd R c A e' c k w'∧(∀ r t,k≤r→r<R→t<c→ent w'.M r t=0)∧dbl (tr (R-k)) e'≤dbl (tr (R-top)) e
 |0,col,top,e,w,hc,ht,g,hb=>by
  have:col=c:=by omega
  subst this
  exact⟨w,top,e,.done col top w (g.b.ok g.sh (Bt (qR _ _) hb)) (by omega),ht,g,fun r t h1 h2 h3=>g.low r t h1 h2 h3,Az _⟩
 |n+1,col,top,e,w,hc,ht,g,hb=>by
  have hcol:col<c:=by omega
  by_cases hR:top<R
  ·have e1:tr (R-top)=(R-top-1)+1+tr (R-(top+1)):=by
    rw[show R-top=(R-(top+1))+1 by omega,tr];omega
   rw[e1,←tX,←tX,show ∀ x,dbl 1 x=2*x+4 from fun x=>rfl]at hb ⊢
   have hb1:=Bt (qR _ _) hb
   obtain⟨w1,h3,g1,z1,q1,_⟩:=bQz hcol hR (R-top-1) (top+1) e w (by omega) (by omega) g (fun r h1 h2=>by omega) (by omega)
   by_cases h4:ent w1.M top col=0
   ·have:w1=w:=q1.resolve_right fun h=>h h4
    subst this
    have g2:Gd R c A e (col+1) top w1:=⟨g.sh,g.b,g.eq,fun r t h1 h2 h3=>by
     by_cases e2:t=col
     ·rw[e2]
      by_cases e3:r=top
      ·rw[e3];exact h4
      ·exact z1 r (by omega) h2
     ·exact g.low r t h1 h2 (by omega),fun r hr=>let ⟨t,h1,h2⟩:=g.hi r hr;⟨t,by omega,h2⟩⟩
    obtain⟨w',k,e',f1,f2,f3,f4,f5⟩:=bGe hR2 n (col+1) top e w1 (by omega) ht g2 (by rw[e1,←tX,←tX];exact hb)
    exact⟨w',k,e',.zero col top w1 w1 w' hcol hR h3 h4 f1,f2,f3,f4,by rw[e1,←tX,←tX]at f5;exact f5⟩
   ·have g2:=bTb g1 hcol hR
    obtain⟨w2,h5,g3⟩:=bQq hcol hR hR2 hb1 top 0 _ (by omega) (.init g2) (fun r h1 h2=>(aIt hcol hR h2).2 (z1 r h1 h2)) (fun h=>h4 ((aIt hcol hR hR).1 h))
    obtain⟨w',k,e',f1,f2,f3,f4,f5⟩:=bGe hR2 n (col+1) (top+1) _ w2 (by omega) (by omega) g3 hb
    exact⟨w',k,e',.piv col top w w1 w2 w' hcol hR h3 h4 h5 f1,f2,f3,f4,f5⟩
  ·have:top=R:=by omega
   subst this
   exact⟨w,top,e,.done col top w (g.b.ok g.sh (Bt (qR _ _) hb)) (by omega),ht,⟨g.sh,g.b,g.eq,fun r t h1 h2 h3=>absurd h2 (by omega),fun r hr=>let ⟨t,h1,h2⟩:=g.hi r hr;⟨t,by omega,h2⟩⟩,fun r t h1 h2 h3=>absurd h2 (by omega),Az _⟩
end
end Go.Am
end

section
set_option linter.unusedVariables false
set_option linter.unusedSimpArgs false
open List (map_map mapM_map)
open Go Go.Am Go.Proofs
namespace Go.Am
def kO(k:Int):List HO:=[.cells 74 [.d (.b (decide (k<0))),.d (aN (aX k.natAbs))]]
theorem wT(k:Int):∀ o∈kO k,rfO 0 0 o=true:=fun o ho=>by rw[AP.1 ho];rfl
set_option maxHeartbeats 16000000 in
set_option maxRecDepth 10000 in
theorem aBo{R c i j:Nat}{M U V:List (List Int)}{k:Int}(hs:WS R c M U V)(hR:R≤1000)(hc:c≤1000)(hi:i<R)(hj:j<R)(hk:Sy k)(hM:∀ r t,Sy (ent M r t))(hU:∀ r t,Sy (ent U r t))(hV:∀ r t,Sy (ent V r t)) :
  xT Tryz.prog 131 (.ptr 0 0) (wR0 R c) (wH R c M U V) [.i .i64 (i:Int),.i .i64 (j:Int),encZ k] (wR0 R c) (wH R c (qD R c M i j k) (qD R R U i j k) (aSj R V i j k)) (.tp []):=by
 refine xY (N:=143) aI Tryz.func131 rfl rfl rfl rfl (by kernel_rfl) (by kernel_rfl) (by simp) ?_
 have hl:(wH R c M U V).length=3*R+3:=fY hs _ _ _
 have hH0:∀ p:HO,upd (fun id=>(wR0 R c::wH R c M U V)[id]?) (3*R+3+1) (some p)=aH R c M U V [p]:=fun p=>by
  have e:(fun id=>(wR0 R c::wH R c M U V)[id]?)=gI 0 (wR0 R c::wH R c M U V):=by funext id;rfl
  rw[e,pT (by rw[AB,hl])]
  unfold aH
  rw[aHk];rfl
 simp[-map_map,-mapM_map,↓KW,StT,bF,aD,aK,aM,bE,bC,hl,hH0]
 have hko:[HO.cells 74 [.d (.b (decide (k<0))),.d (aN (aX k.natAbs))]]=kO k:=rfl
 rw[hko,show 3*R+3+1=3*R+4 by omega]
 refine aU (fun y:Nat×List (List Int)=>y.1≤c∧Sh R c y.2∧∀ r t,r<R→t<c→ent y.2 r t=aSk M i j k y.1 r t) (fun y=>⟨iT [(0,.ptr 0 0),(1,.d (.i .i64 (i:Int))),(2,.d (.i .i64 (j:Int))),(7,.ptr (3*R+4) 0),(8,.d (.i .i64 (y.1:Int)))],aH R c y.2 U V (kO k),3*R+5⟩) (fun y=>c-y.1)
  (0,M) ⟨An _,hs.m,fun r t hr ht=>(Ae (by omega)).symm⟩ ?_ ?_
 ·refine⟨_,kH ?_ (fun id o' ho=>⟨o',ho,fF hs (wT k) ho⟩) (fun id hid=>gR hs hid) (by simp)⟩
  have g0:=dS (x:=(kO k)) hs (id:=0) (by omega)
  have g1:=dS (x:=(kO k)) hs (id:=3*R+4) (by show _<_+1;omega)
  simp[-map_map,upd,aT,Γ0,g0,g1]
 ·rintro⟨s,M1⟩ ⟨hsb,hM1,hME⟩
  simp only at hsb hM1 hME
  have hs0:WS R c M1 U V:=⟨hM1,hs.u,hs.v⟩
  have hHr:aH R c M1 U V (kO k) 0=some (.cells 180 [.d (.i .i64 (R:Int)),.d (.i .i64 (c:Int)),.own 1 0 R 1,.d (.i .i64 (R:Int)),.d (.i .i64 (R:Int)),.own (R+2) 0 R 1,.d (.i .i64 (R:Int)),.d (.i .i64 (R:Int)),.own (2*R+3) 0 R 1]):=rfl
  by_cases hgo:s<c
  ·have q1:(s:Int)<c:=by omega
   have hw:Ah.wrap ((s:Int)+1)=(s:Int)+1:=aR (by omega) (by omega)
   have hHh:aH R c M1 U V (kO k) 1=some (.cells 97 (hdr c R 2)):=aWl hs0
   have hHk:aH R c M1 U V (kO k) (3*R+4)=some (.cells 74 [.d (.b (decide (k<0))),.d (aN (aX k.natAbs))]):=by
    have:=bUx hs0 (x:=(kO k)) (i:=0) rfl
    rwa [Bf]at this
   obtain⟨vi,hvi,hvli,hvei⟩:=hM1.get hi
   have hHi:aH R c M1 U V (kO k) (i+2)=some (.cells 74 ((vcs vi).map .d)):=aOy hvi
   have hgi:=dC (c:=c) (b:=2) hi
   have hggi:∀ h:i<(hdr c R 2).length,(hdr c R 2)[i]'h=.own (i+2) 0 c 2:=fun h=>Bg ((Aa h).symm.trans hgi)
   have hvci:=eO vi
   rw[hvli]at hvci
   obtain⟨vj,hvj,hvlj,hvej⟩:=hM1.get hj
   have hHj:aH R c M1 U V (kO k) (j+2)=some (.cells 74 ((vcs vj).map .d)):=aOy hvj
   have hgj:=dC (c:=c) (b:=2) hj
   have hggj:∀ h:j<(hdr c R 2).length,(hdr c R 2)[j]'h=.own (j+2) 0 c 2:=fun h=>Bg ((Aa h).symm.trans hgj)
   have hvcj:=eO vj
   rw[hvlj]at hvcj
   have hbs:s*2+2≤c*2:=by omega
   have hz0:ent M1 i s=ent M i s:=by rw[hME i s (by omega) (by omega)];exact Ae (by omega)
   have hrd0:Cd 2 (C1 (s*2) ((vcs vi).map AV.d))=[.d (.b (decide (ent M i s<0))),.d (aN (aX (ent M i s).natAbs))]:=by
    rw[←hz0,←hvei s,←CA,←Cc,gK (z:=vi.getD s 0) (by rw[Ac,Aa (by omega)];rfl)];rfl
   have hzs0:Sy (ent M i s):=hM i s
   have hz1:ent M1 j s=ent M j s:=by rw[hME j s (by omega) (by omega)];exact Ae (by omega)
   have hrd1:Cd 2 (C1 (s*2) ((vcs vj).map AV.d))=[.d (.b (decide (ent M j s<0))),.d (aN (aX (ent M j s).natAbs))]:=by
    rw[←hz1,←hvej s,←CA,←Cc,gK (z:=vj.getD s 0) (by rw[Ac,Aa (by omega)];rfl)];rfl
   have hzs1:Sy (ent M j s):=hM j s
   have hmul:=oI k (ent M j s) (Ap hk (by decide)) (Ap hzs1 (by decide))
   have hadd:=qF (ent M i s) (k*ent M j s) (Ap hzs0 (by decide)) (Ap (sE hk hzs1) (by decide))
   obtain⟨z,hZ⟩:∃ z,ent M i s+k*ent M j s=z:=⟨_,rfl⟩
   rw[hZ]at hadd
   have hM2:Sh R c (M1.set i (vi.set s z)):=gF hM1 hvi
   have hs1:WS R c (M1.set i (vi.set s z)) U V:=⟨hM2,hs.u,hs.v⟩
   have hupd:upd (aH R c M1 U V (kO k)) (i+2) (some (.cells 74 ((vcs (vi.set s z)).map .d)))=aH R c (M1.set i (vi.set s z)) U V (kO k):=aWi hs0 hi
   have hlay:=kY (v:=vi) z (j:=s) (by rw[hvli];omega)
   have hgl:=cK c R 2
   generalize hzm:k*ent M j s=zm at *
   generalize hz0g:ent M i s=z0 at *
   generalize hz1g:ent M j s=z1 at *
   generalize hHg:aH R c M1 U V (kO k)=H at *
   generalize hdr c R 2=cellsR at *
   simp[-map_map,-mapM_map,↓KW,q1,hHr,hHh,hHk,hHi,hgi,hggi,hvci,hi,hHj,hgj,hggj,hvcj,hj,hbs,hgo,hrd0,hrd1,hgl,aD,aK,aM,bE,bC]
   refine aA (ds:=[encZ k,encZ z1]) (by rfl) hmul ?_
   rw[bF]
   simp[-map_map,-mapM_map,↓KW,hHr,hHh,hHk,hHi,hgi,hggi,hvci,hi,hHj,hgj,hggj,hvcj,hj,hbs,hgo,hrd0,hrd1,hgl,aD,aK,aM,bE,bC]
   refine aA (ds:=[encZ z0,encZ zm]) (by rfl) hadd ?_
   rw[bF]
   simp[-map_map,-mapM_map,↓KW,hHr,hHh,hHk,hHi,hgi,hggi,hvci,hi,hHj,hgj,hggj,hvcj,hj,hbs,hgo,hrd0,hrd1,hgl,hw,hlay,aD,aK,aM,bE,bC]
   rw[hupd]
   refine aJ (s+1,M1.set i (vi.set s z)) ⟨hgo,hM2,fun r t hr ht=>?_⟩ (Ab hgo (Ad _)) ?_
   ·rw[lZ hM1 hi (by omega) hvi,hME r t hr ht,←hZ]
    unfold aSk
    by_cases e:r=i∧t=s
    ·obtain⟨e1,e2⟩:=e
     subst e1;subst e2
     rw[Ag ⟨rfl,rfl⟩,Ag (by omega)]
     rw[←hzm,←hz0g,←hz1g]
    ·rw[Ae e]
     split
     ·rw[Ag (by omega)]
     ·rw[Ae (by omega)]
   ·refine⟨_,kH ?_ (fun id o' ho=>⟨o',ho,fF hs1 (wT k) ho⟩) (fun id hid=>gR hs1 hid) (by simp)⟩
    have g0:=dS (x:=(kO k)) hs1 (id:=0) (by omega)
    have g1:=dS (x:=(kO k)) hs1 (id:=3*R+4) (by show _<_+1;omega)
    simp[-map_map,upd,aT,Γ0,g0,g1]
  ·have q1:¬(s:Int)<c:=by omega
   have es:s=c:=by omega
   have hNe:M1=qD R c M i j k:=rD hM1 fun r t hr ht=>by rw[hME r t hr ht,es]
   have hsome:=fun id=>dS (x:=(kO k)) hs0 (id:=id)
   have hself:=fun(H:Nat→Option HO) id o=>fF (x:=(kO k)) hs0 (wT k) (H:=H) (id:=id) (o:=o)
   have htop:=fun id=>gR (x:=(kO k)) hs0 (id:=id)
   clear hM1 hME
   rw[←hNe]
   clear hNe
   generalize hHg:aH R c M1 U V (kO k)=H at *
   simp[-map_map,-mapM_map,↓KW,q1,hHr]
   rw[←hHg]
   have hs:=hs0
   clear hs0 hHr hself hsome htop hHg
   refine aU (fun y:Nat×List (List Int)=>y.1≤R∧Sh R R y.2∧∀ r t,r<R→t<R→ent y.2 r t=aSk U i j k y.1 r t) (fun y=>⟨iT [(0,.ptr 0 0),(1,.d (.i .i64 (i:Int))),(2,.d (.i .i64 (j:Int))),(7,.ptr (3*R+4) 0),(9,.d (.i .i64 (y.1:Int)))],aH R c M1 y.2 V (kO k),3*R+5⟩) (fun y=>R-y.1)
    (0,U) ⟨An _,hs.u,fun r t hr ht=>(Ae (by omega)).symm⟩ ?_ ?_
   ·refine⟨_,kH ?_ (fun id o' ho=>⟨o',ho,fF hs (wT k) ho⟩) (fun id hid=>gR hs hid) (by simp)⟩
    have g0:=dS (x:=(kO k)) hs (id:=0) (by omega)
    have g1:=dS (x:=(kO k)) hs (id:=3*R+4) (by show _<_+1;omega)
    simp[-map_map,upd,aT,Γ0,g0,g1]
   ·rintro⟨s,U1⟩ ⟨hsb,hM1,hME⟩
    simp only at hsb hM1 hME
    have hs0:WS R c M1 U1 V:=⟨hs.m,hM1,hs.v⟩
    have hHr:aH R c M1 U1 V (kO k) 0=some (.cells 180 [.d (.i .i64 (R:Int)),.d (.i .i64 (c:Int)),.own 1 0 R 1,.d (.i .i64 (R:Int)),.d (.i .i64 (R:Int)),.own (R+2) 0 R 1,.d (.i .i64 (R:Int)),.d (.i .i64 (R:Int)),.own (2*R+3) 0 R 1]):=rfl
    by_cases hgo:s<R
    ·have q1:(s:Int)<R:=by omega
     have hw:Ah.wrap ((s:Int)+1)=(s:Int)+1:=aR (by omega) (by omega)
     have hHh:aH R c M1 U1 V (kO k) (R+2)=some (.cells 97 (hdr R R (R+3))):=aWk hs0
     have hHk:aH R c M1 U1 V (kO k) (3*R+4)=some (.cells 74 [.d (.b (decide (k<0))),.d (aN (aX k.natAbs))]):=by
      have:=bUx hs0 (x:=(kO k)) (i:=0) rfl
      rwa [Bf]at this
     obtain⟨vi,hvi,hvli,hvei⟩:=hM1.get hi
     have hHi:aH R c M1 U1 V (kO k) (i+(R+3))=some (.cells 74 ((vcs vi).map .d)):=aOx hs0 hvi
     have hgi:=dC (c:=R) (b:=(R+3)) hi
     have hggi:∀ h:i<(hdr R R (R+3)).length,(hdr R R (R+3))[i]'h=.own (i+(R+3)) 0 R 2:=fun h=>Bg ((Aa h).symm.trans hgi)
     have hvci:=eO vi
     rw[hvli]at hvci
     obtain⟨vj,hvj,hvlj,hvej⟩:=hM1.get hj
     have hHj:aH R c M1 U1 V (kO k) (j+(R+3))=some (.cells 74 ((vcs vj).map .d)):=aOx hs0 hvj
     have hgj:=dC (c:=R) (b:=(R+3)) hj
     have hggj:∀ h:j<(hdr R R (R+3)).length,(hdr R R (R+3))[j]'h=.own (j+(R+3)) 0 R 2:=fun h=>Bg ((Aa h).symm.trans hgj)
     have hvcj:=eO vj
     rw[hvlj]at hvcj
     have hbs:s*2+2≤R*2:=by omega
     have hz0:ent U1 i s=ent U i s:=by rw[hME i s (by omega) (by omega)];exact Ae (by omega)
     have hrd0:Cd 2 (C1 (s*2) ((vcs vi).map AV.d))=[.d (.b (decide (ent U i s<0))),.d (aN (aX (ent U i s).natAbs))]:=by
      rw[←hz0,←hvei s,←CA,←Cc,gK (z:=vi.getD s 0) (by rw[Ac,Aa (by omega)];rfl)];rfl
     have hzs0:Sy (ent U i s):=hU i s
     have hz1:ent U1 j s=ent U j s:=by rw[hME j s (by omega) (by omega)];exact Ae (by omega)
     have hrd1:Cd 2 (C1 (s*2) ((vcs vj).map AV.d))=[.d (.b (decide (ent U j s<0))),.d (aN (aX (ent U j s).natAbs))]:=by
      rw[←hz1,←hvej s,←CA,←Cc,gK (z:=vj.getD s 0) (by rw[Ac,Aa (by omega)];rfl)];rfl
     have hzs1:Sy (ent U j s):=hU j s
     have hmul:=oI k (ent U j s) (Ap hk (by decide)) (Ap hzs1 (by decide))
     have hadd:=qF (ent U i s) (k*ent U j s) (Ap hzs0 (by decide)) (Ap (sE hk hzs1) (by decide))
     obtain⟨z,hZ⟩:∃ z,ent U i s+k*ent U j s=z:=⟨_,rfl⟩
     rw[hZ]at hadd
     have hM2:Sh R R (U1.set i (vi.set s z)):=gF hM1 hvi
     have hs1:WS R c M1 (U1.set i (vi.set s z)) V:=⟨hs.m,hM2,hs.v⟩
     have hupd:upd (aH R c M1 U1 V (kO k)) (i+(R+3)) (some (.cells 74 ((vcs (vi.set s z)).map .d)))=aH R c M1 (U1.set i (vi.set s z)) V (kO k):=aWh hs0 hi
     have hlay:=kY (v:=vi) z (j:=s) (by rw[hvli];omega)
     have hgl:=cK R R (R+3)
     generalize hzm:k*ent U j s=zm at *
     generalize hz0g:ent U i s=z0 at *
     generalize hz1g:ent U j s=z1 at *
     generalize hHg:aH R c M1 U1 V (kO k)=H at *
     generalize hdr R R (R+3)=cellsR at *
     simp[-map_map,-mapM_map,↓KW,q1,hHr,hHh,hHk,hHi,hgi,hggi,hvci,hi,hHj,hgj,hggj,hvcj,hj,hbs,hgo,hrd0,hrd1,hgl,aD,aK,aM,bE,bC]
     refine aA (ds:=[encZ k,encZ z1]) (by rfl) hmul ?_
     rw[bF]
     simp[-map_map,-mapM_map,↓KW,hHr,hHh,hHk,hHi,hgi,hggi,hvci,hi,hHj,hgj,hggj,hvcj,hj,hbs,hgo,hrd0,hrd1,hgl,aD,aK,aM,bE,bC]
     refine aA (ds:=[encZ z0,encZ zm]) (by rfl) hadd ?_
     rw[bF]
     simp[-map_map,-mapM_map,↓KW,hHr,hHh,hHk,hHi,hgi,hggi,hvci,hi,hHj,hgj,hggj,hvcj,hj,hbs,hgo,hrd0,hrd1,hgl,hw,hlay,aD,aK,aM,bE,bC]
     rw[hupd]
     refine aJ (s+1,U1.set i (vi.set s z)) ⟨hgo,hM2,fun r t hr ht=>?_⟩ (Ab hgo (Ad _)) ?_
     ·rw[lZ hM1 hi (by omega) hvi,hME r t hr ht,←hZ]
      unfold aSk
      by_cases e:r=i∧t=s
      ·obtain⟨e1,e2⟩:=e
       subst e1;subst e2
       rw[Ag ⟨rfl,rfl⟩,Ag (by omega)]
       rw[←hzm,←hz0g,←hz1g]
      ·rw[Ae e]
       split
       ·rw[Ag (by omega)]
       ·rw[Ae (by omega)]
     ·refine⟨_,kH ?_ (fun id o' ho=>⟨o',ho,fF hs1 (wT k) ho⟩) (fun id hid=>gR hs1 hid) (by simp)⟩
      have g0:=dS (x:=(kO k)) hs1 (id:=0) (by omega)
      have g1:=dS (x:=(kO k)) hs1 (id:=3*R+4) (by show _<_+1;omega)
      simp[-map_map,upd,aT,Γ0,g0,g1]
    ·have q1:¬(s:Int)<R:=by omega
     have es:s=R:=by omega
     have hNe:U1=qD R R U i j k:=rD hM1 fun r t hr ht=>by rw[hME r t hr ht,es]
     have hsome:=fun id=>dS (x:=(kO k)) hs0 (id:=id)
     have hself:=fun(H:Nat→Option HO) id o=>fF (x:=(kO k)) hs0 (wT k) (H:=H) (id:=id) (o:=o)
     have htop:=fun id=>gR (x:=(kO k)) hs0 (id:=id)
     clear hM1 hME
     rw[←hNe]
     clear hNe
     generalize hHg:aH R c M1 U1 V (kO k)=H at *
     simp[-map_map,-mapM_map,↓KW,q1,hHr]
     rw[←hHg]
     have hs:=hs0
     clear hs0 hHr hself hsome htop hHg
     refine aU (fun y:Nat×List (List Int)=>y.1≤R∧Sh R R y.2∧∀ r t,r<R→t<R→ent y.2 r t=bIx V i j k y.1 r t) (fun y=>⟨iT [(0,.ptr 0 0),(1,.d (.i .i64 (i:Int))),(2,.d (.i .i64 (j:Int))),(7,.ptr (3*R+4) 0),(10,.d (.i .i64 (y.1:Int)))],aH R c M1 U1 y.2 (kO k),3*R+5⟩) (fun y=>R-y.1)
      (0,V) ⟨An _,hs.v,fun r t hr ht=>(Ae (by omega)).symm⟩ ?_ ?_
     ·refine⟨_,kH ?_ (fun id o' ho=>⟨o',ho,fF hs (wT k) ho⟩) (fun id hid=>gR hs hid) (by simp)⟩
      have g0:=dS (x:=(kO k)) hs (id:=0) (by omega)
      have g1:=dS (x:=(kO k)) hs (id:=3*R+4) (by show _<_+1;omega)
      simp[-map_map,upd,aT,Γ0,g0,g1]
     ·rintro⟨s,V1⟩ ⟨hsb,hM1,hME⟩
      simp only at hsb hM1 hME
      have hs0:WS R c M1 U1 V1:=⟨hs.m,hs.u,hM1⟩
      have hHr:aH R c M1 U1 V1 (kO k) 0=some (.cells 180 [.d (.i .i64 (R:Int)),.d (.i .i64 (c:Int)),.own 1 0 R 1,.d (.i .i64 (R:Int)),.d (.i .i64 (R:Int)),.own (R+2) 0 R 1,.d (.i .i64 (R:Int)),.d (.i .i64 (R:Int)),.own (2*R+3) 0 R 1]):=rfl
      by_cases hgo:s<R
      ·have q1:(s:Int)<R:=by omega
       have hw:Ah.wrap ((s:Int)+1)=(s:Int)+1:=aR (by omega) (by omega)
       have hHh:aH R c M1 U1 V1 (kO k) (2*R+3)=some (.cells 97 (hdr R R (2*R+4))):=bJb hs0
       have hHk:aH R c M1 U1 V1 (kO k) (3*R+4)=some (.cells 74 [.d (.b (decide (k<0))),.d (aN (aX k.natAbs))]):=by
        have:=bUx hs0 (x:=(kO k)) (i:=0) rfl
        rwa [Bf]at this
       obtain⟨vs,hvs,hvls,hves⟩:=hM1.get hgo
       have hHs:aH R c M1 U1 V1 (kO k) (s+(2*R+4))=some (.cells 74 ((vcs vs).map .d)):=bIz hs0 hvs
       have hgs:=dC (c:=R) (b:=(2*R+4)) hgo
       have hggs:∀ h:s<(hdr R R (2*R+4)).length,(hdr R R (2*R+4))[s]'h=.own (s+(2*R+4)) 0 R 2:=fun h=>Bg ((Aa h).symm.trans hgs)
       have hvcs:=eO vs
       rw[hvls]at hvcs
       have hbj:j*2+2≤R*2:=by omega
       have hbi:i*2+2≤R*2:=by omega
       have hz0:ent V1 s j=ent V s j:=by rw[hME s j (by omega) (by omega)];exact Ae (by omega)
       have hrd0:Cd 2 (C1 (j*2) ((vcs vs).map AV.d))=[.d (.b (decide (ent V s j<0))),.d (aN (aX (ent V s j).natAbs))]:=by
        rw[←hz0,←hves j,←CA,←Cc,gK (z:=vs.getD j 0) (by rw[Ac,Aa (by omega)];rfl)];rfl
       have hzs0:Sy (ent V s j):=hV s j
       have hz1:ent V1 s i=ent V s i:=by rw[hME s i (by omega) (by omega)];exact Ae (by omega)
       have hrd1:Cd 2 (C1 (i*2) ((vcs vs).map AV.d))=[.d (.b (decide (ent V s i<0))),.d (aN (aX (ent V s i).natAbs))]:=by
        rw[←hz1,←hves i,←CA,←Cc,gK (z:=vs.getD i 0) (by rw[Ac,Aa (by omega)];rfl)];rfl
       have hzs1:Sy (ent V s i):=hV s i
       have hmul:=oI k (ent V s i) (Ap hk (by decide)) (Ap hzs1 (by decide))
       have hsub:=aIl (ent V s j) (k*ent V s i) (Ap hzs0 (by decide)) (Ap (sE hk hzs1) (by decide))
       obtain⟨z,hZ⟩:∃ z,ent V s j-k*ent V s i=z:=⟨_,rfl⟩
       rw[hZ]at hsub
       have hM2:Sh R R (V1.set s (vs.set j z)):=gF hM1 hvs
       have hs1:WS R c M1 U1 (V1.set s (vs.set j z)):=⟨hs.m,hs.u,hM2⟩
       have hupd:upd (aH R c M1 U1 V1 (kO k)) (s+(2*R+4)) (some (.cells 74 ((vcs (vs.set j z)).map .d)))=aH R c M1 U1 (V1.set s (vs.set j z)) (kO k):=aAn hs0 hgo
       have hlay:=kY (v:=vs) z (j:=j) (by rw[hvls];omega)
       have hgl:=cK R R (2*R+4)
       generalize hzm:k*ent V s i=zm at *
       generalize hz0g:ent V s j=z0 at *
       generalize hz1g:ent V s i=z1 at *
       generalize hHg:aH R c M1 U1 V1 (kO k)=H at *
       generalize hdr R R (2*R+4)=cellsR at *
       simp[-map_map,-mapM_map,↓KW,q1,hHr,hHh,hHk,hHs,hgs,hggs,hvcs,hgo,hbj,hbi,hj,hi,hrd0,hrd1,hgl,aD,aK,aM,bE,bC]
       refine aA (ds:=[encZ k,encZ z1]) (by rfl) hmul ?_
       rw[bF]
       simp[-map_map,-mapM_map,↓KW,hHr,hHh,hHk,hHs,hgs,hggs,hvcs,hgo,hbj,hbi,hj,hi,hrd0,hrd1,hgl,aD,aK,aM,bE,bC]
       refine aA (ds:=[encZ z0,encZ zm]) (by rfl) hsub ?_
       rw[bF]
       simp[-map_map,-mapM_map,↓KW,hHr,hHh,hHk,hHs,hgs,hggs,hvcs,hgo,hbj,hbi,hj,hi,hrd0,hrd1,hgl,hw,hlay,aD,aK,aM,bE,bC]
       rw[hupd]
       refine aJ (s+1,V1.set s (vs.set j z)) ⟨hgo,hM2,fun r t hr ht=>?_⟩ (Ab hgo (Ad _)) ?_
       ·rw[lZ hM1 hgo (by omega) hvs,hME r t hr ht,←hZ]
        unfold bIx
        by_cases e:r=s∧t=j
        ·obtain⟨e1,e2⟩:=e
         subst e1;subst e2
         rw[Ag ⟨rfl,rfl⟩,Ag (by omega)]
         rw[←hzm,←hz0g,←hz1g]
        ·rw[Ae e]
         split
         ·rw[Ag (by omega)]
         ·rw[Ae (by omega)]
       ·refine⟨_,kH ?_ (fun id o' ho=>⟨o',ho,fF hs1 (wT k) ho⟩) (fun id hid=>gR hs1 hid) (by simp)⟩
        have g0:=dS (x:=(kO k)) hs1 (id:=0) (by omega)
        have g1:=dS (x:=(kO k)) hs1 (id:=3*R+4) (by show _<_+1;omega)
        simp[-map_map,upd,aT,Γ0,g0,g1]
      ·have q1:¬(s:Int)<R:=by omega
       have es:s=R:=by omega
       have hNe:V1=aSj R V i j k:=rD hM1 fun r t hr ht=>by rw[hME r t hr ht,es]
       have hsome:=fun id=>dS (x:=(kO k)) hs0 (id:=id)
       have hself:=fun(H:Nat→Option HO) id o=>fF (x:=(kO k)) hs0 (wT k) (H:=H) (id:=id) (o:=o)
       have htop:=fun id=>gR (x:=(kO k)) hs0 (id:=id)
       clear hM1 hME
       rw[←hNe]
       clear hNe
       generalize hHg:aH R c M1 U1 V1 (kO k)=H at *
       simp[-map_map,-mapM_map,↓KW,q1,hHr]
       rw[←hHg]
       exact aSm hs0 (Dl _)
end Go.Am
end

section
set_option linter.unusedVariables false
set_option linter.unusedSimpArgs false
open List (map_map mapM_map)
open Go Go.Am Go.Proofs
namespace Go.Am
theorem bJa{R c:Nat}{M U V:List (List Int)}:(fun id=>(wR0 R c::wH R c M U V)[id]?)=aH R c M U V []:=by
 funext id
 unfold aH gI
 rw[Ae (by omega),aHk,Bd,Ed]
set_option maxHeartbeats 16000000 in
set_option maxRecDepth 10000 in
theorem aXj{R c i:Nat}{M U V:List (List Int)}(hs:WS R c M U V)(hR:R≤1000)(hc:c≤1000)(hi:i<R)(hM:∀ r t,Sy (ent M r t))(hU:∀ r t,Sy (ent U r t))(hV:∀ r t,Sy (ent V r t)) :
  xT Tryz.prog 134 (.ptr 0 0) (wR0 R c) (wH R c M U V) [.i .i64 (i:Int)] (wR0 R c) (wH R c (ngR R c M i) (ngR R R U i) (ngV R V i)) (.tp []):=by
 refine xY (N:=100) aI Tryz.func134 rfl rfl rfl rfl (by kernel_rfl) (by kernel_rfl) (by simp) ?_
 have hl:(wH R c M U V).length=3*R+3:=fY hs _ _ _
 simp[-map_map,-mapM_map,↓KW,StT,hl,bJa]
 rw[show 3*R+3+1=3*R+4 by omega]
 refine aU (fun y:Nat×List (List Int)=>y.1≤c∧Sh R c y.2∧∀ r t,r<R→t<c→ent y.2 r t=ngF M i y.1 r t) (fun y=>⟨iT [(0,.ptr 0 0),(1,.d (.i .i64 (i:Int))),(4,.d (.i .i64 (y.1:Int)))],aH R c y.2 U V [],3*R+4⟩) (fun y=>c-y.1)
  (0,M) ⟨An _,hs.m,fun r t hr ht=>(Ae (by omega)).symm⟩ ?_ ?_
 ·refine⟨_,kH ?_ (fun id o' ho=>⟨o',ho,fF hs (fun o ho=>by cases ho) ho⟩) (fun id hid=>gR hs hid) (by simp)⟩
  have g0:=dS (x:=[]) hs (id:=0) (by omega)
  simp[-map_map,upd,aT,Γ0,g0]
 ·rintro⟨s,M1⟩ ⟨hsb,hM1,hME⟩
  simp only at hsb hM1 hME
  have hs0:WS R c M1 U V:=⟨hM1,hs.u,hs.v⟩
  have hHr:aH R c M1 U V [] 0=some (.cells 180 [.d (.i .i64 (R:Int)),.d (.i .i64 (c:Int)),.own 1 0 R 1,.d (.i .i64 (R:Int)),.d (.i .i64 (R:Int)),.own (R+2) 0 R 1,.d (.i .i64 (R:Int)),.d (.i .i64 (R:Int)),.own (2*R+3) 0 R 1]):=rfl
  by_cases hgo:s<c
  ·have q1:(s:Int)<c:=by omega
   have hw:Ah.wrap ((s:Int)+1)=(s:Int)+1:=aR (by omega) (by omega)
   have hHh:aH R c M1 U V [] 1=some (.cells 97 (hdr c R 2)):=aWl hs0
   obtain⟨vi,hvi,hvli,hvei⟩:=hM1.get hi
   have hHi:aH R c M1 U V [] (i+2)=some (.cells 74 ((vcs vi).map .d)):=aOy hvi
   have hgi:=dC (c:=c) (b:=2) hi
   have hggi:∀ h:i<(hdr c R 2).length,(hdr c R 2)[i]'h=.own (i+2) 0 c 2:=fun h=>Bg ((Aa h).symm.trans hgi)
   have hvci:=eO vi
   rw[hvli]at hvci
   have hbs:s*2+2≤c*2:=by omega
   have hz0:ent M1 i s=ent M i s:=by rw[hME i s (by omega) (by omega)];exact Ae (by omega)
   have hrd0:Cd 2 (C1 (s*2) ((vcs vi).map AV.d))=[.d (.b (decide (ent M i s<0))),.d (aN (aX (ent M i s).natAbs))]:=by
    rw[←hz0,←hvei s,←CA,←Cc,gK (z:=vi.getD s 0) (by rw[Ac,Aa (by omega)];rfl)];rfl
   have hzs0:Sy (ent M i s):=hM i s
   have hneg:=mX (ent M i s) (Ap hzs0 (by decide))
   obtain⟨z,hZ⟩:∃ z,-ent M i s=z:=⟨_,rfl⟩
   rw[hZ]at hneg
   have hM2:Sh R c (M1.set i (vi.set s z)):=gF hM1 hvi
   have hs1:WS R c (M1.set i (vi.set s z)) U V:=⟨hM2,hs.u,hs.v⟩
   have hupd:upd (aH R c M1 U V []) (i+2) (some (.cells 74 ((vcs (vi.set s z)).map .d)))=aH R c (M1.set i (vi.set s z)) U V []:=aWi hs0 hi
   have hlay:=kY (v:=vi) z (j:=s) (by rw[hvli];omega)
   have hgl:=cK c R 2
   generalize hz0g:ent M i s=z0 at *
   generalize hHg:aH R c M1 U V []=H at *
   generalize hdr c R 2=cellsR at *
   simp[-map_map,-mapM_map,↓KW,q1,hHr,hHh,hHi,hgi,hggi,hvci,hi,hbs,hgo,hrd0,hgl,aD,aK,aM,bE,bC]
   refine aA (ds:=[encZ z0]) (by rfl) hneg ?_
   rw[bF]
   simp[-map_map,-mapM_map,↓KW,hHr,hHh,hHi,hgi,hggi,hvci,hi,hbs,hgo,hrd0,hgl,hw,hlay,aD,aK,aM,bE,bC]
   rw[hupd]
   refine aJ (s+1,M1.set i (vi.set s z)) ⟨hgo,hM2,fun r t hr ht=>?_⟩ (Ab hgo (Ad _)) ?_
   ·rw[lZ hM1 hi (by omega) hvi,hME r t hr ht,←hZ]
    unfold ngF
    by_cases e:r=i∧t=s
    ·obtain⟨e1,e2⟩:=e
     subst e1;subst e2
     rw[Ag ⟨rfl,rfl⟩,Ag (by omega)]
     rw[←hz0g]
    ·rw[Ae e]
     split
     ·rw[Ag (by omega)]
     ·rw[Ae (by omega)]
   ·refine⟨_,kH ?_ (fun id o' ho=>⟨o',ho,fF hs1 (fun o ho=>by cases ho) ho⟩) (fun id hid=>gR hs1 hid) (by simp)⟩
    have g0:=dS (x:=[]) hs1 (id:=0) (by omega)
    simp[-map_map,upd,aT,Γ0,g0]
  ·have q1:¬(s:Int)<c:=by omega
   have es:s=c:=by omega
   have hNe:M1=ngR R c M i:=rD hM1 fun r t hr ht=>by rw[hME r t hr ht,es]
   have hsome:=fun id=>dS (x:=[]) hs0 (id:=id)
   have hself:=fun(H:Nat→Option HO) id o=>fF (x:=[]) hs0 (fun o ho=>by cases ho) (H:=H) (id:=id) (o:=o)
   have htop:=fun id=>gR (x:=[]) hs0 (id:=id)
   clear hM1 hME
   rw[←hNe]
   clear hNe
   generalize hHg:aH R c M1 U V []=H at *
   simp[-map_map,-mapM_map,↓KW,q1,hHr]
   rw[←hHg]
   have hs:=hs0
   clear hs0 hHr hself hsome htop hHg
   refine aU (fun y:Nat×List (List Int)=>y.1≤R∧Sh R R y.2∧∀ r t,r<R→t<R→ent y.2 r t=ngF U i y.1 r t) (fun y=>⟨iT [(0,.ptr 0 0),(1,.d (.i .i64 (i:Int))),(5,.d (.i .i64 (y.1:Int)))],aH R c M1 y.2 V [],3*R+4⟩) (fun y=>R-y.1)
    (0,U) ⟨An _,hs.u,fun r t hr ht=>(Ae (by omega)).symm⟩ ?_ ?_
   ·refine⟨_,kH ?_ (fun id o' ho=>⟨o',ho,fF hs (fun o ho=>by cases ho) ho⟩) (fun id hid=>gR hs hid) (by simp)⟩
    have g0:=dS (x:=[]) hs (id:=0) (by omega)
    simp[-map_map,upd,aT,Γ0,g0]
   ·rintro⟨s,U1⟩ ⟨hsb,hM1,hME⟩
    simp only at hsb hM1 hME
    have hs0:WS R c M1 U1 V:=⟨hs.m,hM1,hs.v⟩
    have hHr:aH R c M1 U1 V [] 0=some (.cells 180 [.d (.i .i64 (R:Int)),.d (.i .i64 (c:Int)),.own 1 0 R 1,.d (.i .i64 (R:Int)),.d (.i .i64 (R:Int)),.own (R+2) 0 R 1,.d (.i .i64 (R:Int)),.d (.i .i64 (R:Int)),.own (2*R+3) 0 R 1]):=rfl
    by_cases hgo:s<R
    ·have q1:(s:Int)<R:=by omega
     have hw:Ah.wrap ((s:Int)+1)=(s:Int)+1:=aR (by omega) (by omega)
     have hHh:aH R c M1 U1 V [] (R+2)=some (.cells 97 (hdr R R (R+3))):=aWk hs0
     obtain⟨vi,hvi,hvli,hvei⟩:=hM1.get hi
     have hHi:aH R c M1 U1 V [] (i+(R+3))=some (.cells 74 ((vcs vi).map .d)):=aOx hs0 hvi
     have hgi:=dC (c:=R) (b:=(R+3)) hi
     have hggi:∀ h:i<(hdr R R (R+3)).length,(hdr R R (R+3))[i]'h=.own (i+(R+3)) 0 R 2:=fun h=>Bg ((Aa h).symm.trans hgi)
     have hvci:=eO vi
     rw[hvli]at hvci
     have hbs:s*2+2≤R*2:=by omega
     have hz0:ent U1 i s=ent U i s:=by rw[hME i s (by omega) (by omega)];exact Ae (by omega)
     have hrd0:Cd 2 (C1 (s*2) ((vcs vi).map AV.d))=[.d (.b (decide (ent U i s<0))),.d (aN (aX (ent U i s).natAbs))]:=by
      rw[←hz0,←hvei s,←CA,←Cc,gK (z:=vi.getD s 0) (by rw[Ac,Aa (by omega)];rfl)];rfl
     have hzs0:Sy (ent U i s):=hU i s
     have hneg:=mX (ent U i s) (Ap hzs0 (by decide))
     obtain⟨z,hZ⟩:∃ z,-ent U i s=z:=⟨_,rfl⟩
     rw[hZ]at hneg
     have hM2:Sh R R (U1.set i (vi.set s z)):=gF hM1 hvi
     have hs1:WS R c M1 (U1.set i (vi.set s z)) V:=⟨hs.m,hM2,hs.v⟩
     have hupd:upd (aH R c M1 U1 V []) (i+(R+3)) (some (.cells 74 ((vcs (vi.set s z)).map .d)))=aH R c M1 (U1.set i (vi.set s z)) V []:=aWh hs0 hi
     have hlay:=kY (v:=vi) z (j:=s) (by rw[hvli];omega)
     have hgl:=cK R R (R+3)
     generalize hz0g:ent U i s=z0 at *
     generalize hHg:aH R c M1 U1 V []=H at *
     generalize hdr R R (R+3)=cellsR at *
     simp[-map_map,-mapM_map,↓KW,q1,hHr,hHh,hHi,hgi,hggi,hvci,hi,hbs,hgo,hrd0,hgl,aD,aK,aM,bE,bC]
     refine aA (ds:=[encZ z0]) (by rfl) hneg ?_
     rw[bF]
     simp[-map_map,-mapM_map,↓KW,hHr,hHh,hHi,hgi,hggi,hvci,hi,hbs,hgo,hrd0,hgl,hw,hlay,aD,aK,aM,bE,bC]
     rw[hupd]
     refine aJ (s+1,U1.set i (vi.set s z)) ⟨hgo,hM2,fun r t hr ht=>?_⟩ (Ab hgo (Ad _)) ?_
     ·rw[lZ hM1 hi (by omega) hvi,hME r t hr ht,←hZ]
      unfold ngF
      by_cases e:r=i∧t=s
      ·obtain⟨e1,e2⟩:=e
       subst e1;subst e2
       rw[Ag ⟨rfl,rfl⟩,Ag (by omega)]
       rw[←hz0g]
      ·rw[Ae e]
       split
       ·rw[Ag (by omega)]
       ·rw[Ae (by omega)]
     ·refine⟨_,kH ?_ (fun id o' ho=>⟨o',ho,fF hs1 (fun o ho=>by cases ho) ho⟩) (fun id hid=>gR hs1 hid) (by simp)⟩
      have g0:=dS (x:=[]) hs1 (id:=0) (by omega)
      simp[-map_map,upd,aT,Γ0,g0]
    ·have q1:¬(s:Int)<R:=by omega
     have es:s=R:=by omega
     have hNe:U1=ngR R R U i:=rD hM1 fun r t hr ht=>by rw[hME r t hr ht,es]
     have hsome:=fun id=>dS (x:=[]) hs0 (id:=id)
     have hself:=fun(H:Nat→Option HO) id o=>fF (x:=[]) hs0 (fun o ho=>by cases ho) (H:=H) (id:=id) (o:=o)
     have htop:=fun id=>gR (x:=[]) hs0 (id:=id)
     clear hM1 hME
     rw[←hNe]
     clear hNe
     generalize hHg:aH R c M1 U1 V []=H at *
     simp[-map_map,-mapM_map,↓KW,q1,hHr]
     rw[←hHg]
     have hs:=hs0
     clear hs0 hHr hself hsome htop hHg
     refine aU (fun y:Nat×List (List Int)=>y.1≤R∧Sh R R y.2∧∀ r t,r<R→t<R→ent y.2 r t=ngC V i y.1 r t) (fun y=>⟨iT [(0,.ptr 0 0),(1,.d (.i .i64 (i:Int))),(6,.d (.i .i64 (y.1:Int)))],aH R c M1 U1 y.2 [],3*R+4⟩) (fun y=>R-y.1)
      (0,V) ⟨An _,hs.v,fun r t hr ht=>(Ae (by omega)).symm⟩ ?_ ?_
     ·refine⟨_,kH ?_ (fun id o' ho=>⟨o',ho,fF hs (fun o ho=>by cases ho) ho⟩) (fun id hid=>gR hs hid) (by simp)⟩
      have g0:=dS (x:=[]) hs (id:=0) (by omega)
      simp[-map_map,upd,aT,Γ0,g0]
     ·rintro⟨s,V1⟩ ⟨hsb,hM1,hME⟩
      simp only at hsb hM1 hME
      have hs0:WS R c M1 U1 V1:=⟨hs.m,hs.u,hM1⟩
      have hHr:aH R c M1 U1 V1 [] 0=some (.cells 180 [.d (.i .i64 (R:Int)),.d (.i .i64 (c:Int)),.own 1 0 R 1,.d (.i .i64 (R:Int)),.d (.i .i64 (R:Int)),.own (R+2) 0 R 1,.d (.i .i64 (R:Int)),.d (.i .i64 (R:Int)),.own (2*R+3) 0 R 1]):=rfl
      by_cases hgo:s<R
      ·have q1:(s:Int)<R:=by omega
       have hw:Ah.wrap ((s:Int)+1)=(s:Int)+1:=aR (by omega) (by omega)
       have hHh:aH R c M1 U1 V1 [] (2*R+3)=some (.cells 97 (hdr R R (2*R+4))):=bJb hs0
       obtain⟨vs,hvs,hvls,hves⟩:=hM1.get hgo
       have hHs:aH R c M1 U1 V1 [] (s+(2*R+4))=some (.cells 74 ((vcs vs).map .d)):=bIz hs0 hvs
       have hgs:=dC (c:=R) (b:=(2*R+4)) hgo
       have hggs:∀ h:s<(hdr R R (2*R+4)).length,(hdr R R (2*R+4))[s]'h=.own (s+(2*R+4)) 0 R 2:=fun h=>Bg ((Aa h).symm.trans hgs)
       have hvcs:=eO vs
       rw[hvls]at hvcs
       have hbi:i*2+2≤R*2:=by omega
       have hz0:ent V1 s i=ent V s i:=by rw[hME s i (by omega) (by omega)];exact Ae (by omega)
       have hrd0:Cd 2 (C1 (i*2) ((vcs vs).map AV.d))=[.d (.b (decide (ent V s i<0))),.d (aN (aX (ent V s i).natAbs))]:=by
        rw[←hz0,←hves i,←CA,←Cc,gK (z:=vs.getD i 0) (by rw[Ac,Aa (by omega)];rfl)];rfl
       have hzs0:Sy (ent V s i):=hV s i
       have hneg:=mX (ent V s i) (Ap hzs0 (by decide))
       obtain⟨z,hZ⟩:∃ z,-ent V s i=z:=⟨_,rfl⟩
       rw[hZ]at hneg
       have hM2:Sh R R (V1.set s (vs.set i z)):=gF hM1 hvs
       have hs1:WS R c M1 U1 (V1.set s (vs.set i z)):=⟨hs.m,hs.u,hM2⟩
       have hupd:upd (aH R c M1 U1 V1 []) (s+(2*R+4)) (some (.cells 74 ((vcs (vs.set i z)).map .d)))=aH R c M1 U1 (V1.set s (vs.set i z)) []:=aAn hs0 hgo
       have hlay:=kY (v:=vs) z (j:=i) (by rw[hvls];omega)
       have hgl:=cK R R (2*R+4)
       generalize hz0g:ent V s i=z0 at *
       generalize hHg:aH R c M1 U1 V1 []=H at *
       generalize hdr R R (2*R+4)=cellsR at *
       simp[-map_map,-mapM_map,↓KW,q1,hHr,hHh,hHs,hgs,hggs,hvcs,hgo,hbi,hi,hrd0,hgl,aD,aK,aM,bE,bC]
       refine aA (ds:=[encZ z0]) (by rfl) hneg ?_
       rw[bF]
       simp[-map_map,-mapM_map,↓KW,hHr,hHh,hHs,hgs,hggs,hvcs,hgo,hbi,hi,hrd0,hgl,hw,hlay,aD,aK,aM,bE,bC]
       rw[hupd]
       refine aJ (s+1,V1.set s (vs.set i z)) ⟨hgo,hM2,fun r t hr ht=>?_⟩ (Ab hgo (Ad _)) ?_
       ·rw[lZ hM1 hgo (by omega) hvs,hME r t hr ht,←hZ]
        unfold ngC
        by_cases e:r=s∧t=i
        ·obtain⟨e1,e2⟩:=e
         subst e1;subst e2
         rw[Ag ⟨rfl,rfl⟩,Ag (by omega)]
         rw[←hz0g]
        ·rw[Ae e]
         split
         ·rw[Ag (by omega)]
         ·rw[Ae (by omega)]
       ·refine⟨_,kH ?_ (fun id o' ho=>⟨o',ho,fF hs1 (fun o ho=>by cases ho) ho⟩) (fun id hid=>gR hs1 hid) (by simp)⟩
        have g0:=dS (x:=[]) hs1 (id:=0) (by omega)
        simp[-map_map,upd,aT,Γ0,g0]
      ·have q1:¬(s:Int)<R:=by omega
       have es:s=R:=by omega
       have hNe:V1=ngV R V i:=rD hM1 fun r t hr ht=>by rw[hME r t hr ht,es]
       have hsome:=fun id=>dS (x:=[]) hs0 (id:=id)
       have hself:=fun(H:Nat→Option HO) id o=>fF (x:=[]) hs0 (fun o ho=>by cases ho) (H:=H) (id:=id) (o:=o)
       have htop:=fun id=>gR (x:=[]) hs0 (id:=id)
       clear hM1 hME
       rw[←hNe]
       clear hNe
       generalize hHg:aH R c M1 U1 V1 []=H at *
       simp[-map_map,-mapM_map,↓KW,q1,hHr]
       rw[←hHg]
       exact aSm hs0 (Dl _)
end Go.Am
end

section
set_option linter.unusedVariables false
set_option linter.unusedSimpArgs false
open List (map_map mapM_map)
open Go Go.Am Go.Proofs
namespace Go.Am
def aNv(c n b i j:Nat):List AV:=lay (lay (hdr c n b) i [.own (j+b) 0 c 2]) j [.own (i+b) 0 c 2]
theorem aNt{c n b i j:Nat}(hi:i<n)(hj:j<n):(aNv c n b i j).length=n:=by
 unfold aNv
 have h1:(lay (hdr c n b) i [.own (j+b) 0 c 2]).length=n:=by rw[gZ (by rw[cK];exact hi),cK]
 rw[gZ (by rw[h1];exact hj),h1]
theorem aNu{c n b i j k:Nat}(hi:i<n)(hj:j<n)(hk:k<n):(aNv c n b i j)[k]? = some (.own (swp i j k+b) 0 c 2):=by
 unfold aNv
 have h1:(lay (hdr c n b) i [.own (j+b) 0 c 2]).length=n:=by rw[gZ (by rw[cK];exact hi),cK]
 rw[wS (by rw[h1];exact hj),wS (by rw[cK];exact hi)]
 simp only[Ar]
 unfold swp
 by_cases e1:k=j
 ·subst e1
  rw[Ag (by omega),Cq]
  by_cases e2:k=i
  ·subst e2;rw[Ag rfl];rfl
  ·rw[Ae e2,Ag rfl];rfl
 ·rw[Ae (by omega)]
  by_cases e2:k=i
  ·subst e2;rw[Ag (by omega),Ag rfl,Cq];rfl
  ·rw[Ae (by omega),Ae e2,Ae e1,dC hk]
theorem aTk{R c i j t:Nat}{M:List (List Int)}(h:Sh R c M)(hi:i<R)(hj:j<R)(ht:t<R):(swR R c M i j)[t]? = M[swp i j t]? := by
 obtain⟨v,h1,h2,h3⟩:=(iR R c fun r t=>ent M (swp i j r) t).get ht
 obtain⟨v',g1,g2,g3⟩:=h.get (yB hi hj ht)
 unfold swR
 rw[h1,g1]
 congr 1
 refine DK (by rw[h2,g2]) fun s a1 a2=>?_
 have e1:=h3 s
 have e2:=g3 s
 rw[qH _ ht (by omega)]at e1
 rw[Ac,Aa a1]at e1
 rw[Ac,Aa a2]at e2
 simp only[Ba]at e1 e2
 rw[e1,e2]
theorem aSg{α:Type}{a b:List α}{n k:Nat}(h:a.length=n):(a++b)[k+n]? = b[k]? := by
 rw[AA (by omega),h,A7]
def swN(R i j:Nat)(id:Nat):Nat:=if 2≤id∧id<R+2 then swp i j (id-2)+2 else if R+3≤id∧id<2*R+3 then swp i j (id-(R+3))+(R+3)else id
theorem bVh{R c i j n:Nat}{M U V:List (List Int)}{Γ:Nat→AV}{sl:List (Nat×AV)}{H:Nat→Option HO}(hs:WS R c M U V)(hi:i<R)(hj:j<R)
  (h1:H 1=some (.cells 97 (aNv c R 2 i j))) (h2:H (R+2)=some (.cells 97 (aNv R R (R+3) i j))) (ho:∀ id,id≠1→id≠R+2→H id=aH R c M U V [] id)
  (hslot:mV H (aH R c (swR R c M i j) (swR R R U i j) V []) (swN R i j) Γ sl):∃ ρ,Wk ⟨Γ,H,n+1⟩ ⟨iT sl,aH R c (swR R c M i j) (swR R R U i j) V [],3*R+4⟩ ρ:=by
 have hs':WS R c (swR R c M i j) (swR R R U i j) V:=⟨iR _ _ _,iR _ _ _,hs.v⟩
 have hlen:=aEf (x:=[]) hs'
 have hsome:=fun id=>dS (x:=[]) hs' (id:=id)
 have hge:∀ id,(aH R c (swR R c M i j) (swR R R U i j) V [] id).isSome=true→id<3*R+4:=fun id h=>by
  have:=(aJd h).2
  rw[hlen]at this;simpa using this
 have n2:∀ t,t<R→swN R i j (t+2)=swp i j t+2:=fun t ht=>by unfold swN;rw[Ag (by omega),A7]
 have n3:∀ t,t<R→swN R i j (t+(R+3))=swp i j t+(R+3):=fun t ht=>by unfold swN;rw[Ae (by omega),Ag (by omega),A7]
 have n0:∀ id,id<2→swN R i j id=id:=fun id h=>by unfold swN;rw[Ae (by omega),Ae (by omega)]
 have n1:swN R i j (R+2)=R+2:=by unfold swN;rw[Ae (by omega),Ae (by omega)]
 have n4:∀ id,2*R+3≤id→swN R i j id=id:=fun id h=>by unfold swN;rw[Ae (by omega),Ae (by omega)]
 have hk:∀ t,t<R→swp i j t<R:=fun t ht=>yB hi hj ht
 have cases5:∀ id,id<3*R+4→id=0∨id=1∨(∃ t,t<R∧id=t+2)∨id=R+2∨(∃ t,t<R∧id=t+(R+3))∨2*R+3≤id:=fun id h=>by
  by_cases a:id<2
  ·omega
  ·by_cases b:id<R+2
   ·exact .inr (.inr (.inl ⟨id-2,by omega,by omega⟩))
   ·by_cases d:id=R+2
    ·exact .inr (.inr (.inr (.inl d)))
    ·by_cases f:id<2*R+3
     ·exact .inr (.inr (.inr (.inr (.inl ⟨id-(R+3),by omega,by omega⟩))))
     ·exact .inr (.inr (.inr (.inr (.inr (by omega)))))
 refine⟨_,aPh (swN R i j) hslot (fun id o' h=>?_) (fun id id' g1 g2 e=>?_) (fun _=>n0 0 (by omega)) (fun id hid=>gR hs' hid) (by omega)⟩
 ·show ∃ o,H (swN R i j id)=some o∧lU H _ (swN R i j) o o'
  have hid:=hge id (by rw[h];rfl)
  rcases cases5 id hid with rfl|rfl|⟨t,ht,rfl⟩|rfl|⟨t,ht,rfl⟩|hbig
  ·rw[n0 0 (by omega),ho 0 (by omega) (by omega)]
   rw[aWj]at h
   injection h with h;subst h
   have m1:=n0 1 (by omega)
   have m2:=n4 (2*R+3) (by omega)
   have s1:=hsome 1 (by omega)
   have s2:=hsome (R+2) (by omega)
   have s3:=hsome (2*R+3) (by omega)
   refine⟨_,aWj,?_⟩
   unfold wR0 wRt
   simp[-map_map,upd,aT,Γ0,]
   exact⟨⟨m1.symm,rfl,rfl,rfl,s1⟩,⟨n1.symm,rfl,rfl,rfl,s2⟩,⟨m2.symm,rfl,rfl,rfl,s3⟩⟩
  ·rw[n0 1 (by omega),h1]
   rw[aWl hs']at h
   injection h with h;subst h
   refine⟨_,rfl,eJ.2 ⟨rfl,eK.2 ⟨by rw[aNt hi hj,cK],fun k x y a1 a2=>?_⟩⟩⟩
   have hkR:k<R:=by have:=(Aj.1 a2).1;rwa [cK]at this
   rw[aNu hi hj hkR]at a1;injection a1 with a1;subst a1
   rw[dC hkR]at a2;injection a2 with a2;subst a2
   exact⟨(n2 k hkR).symm,rfl,rfl,rfl,hsome _ (by omega)⟩
  ·rw[n2 t ht,ho _ (by omega) (by have:=hk t ht;omega)]
   obtain⟨v,hv,_⟩:=hs.m.get (hk t ht)
   rw[aOy (v:=v) (by rw[aTk hs.m hi hj ht];exact hv)]at h
   injection h with h;subst h
   exact⟨_,aOy hv,tA _ _⟩
  ·rw[n1,h2]
   rw[aWk hs']at h
   injection h with h;subst h
   refine⟨_,rfl,eJ.2 ⟨rfl,eK.2 ⟨by rw[aNt hi hj,cK],fun k x y a1 a2=>?_⟩⟩⟩
   have hkR:k<R:=by have:=(Aj.1 a2).1;rwa [cK]at this
   rw[aNu hi hj hkR]at a1;injection a1 with a1;subst a1
   rw[dC hkR]at a2;injection a2 with a2;subst a2
   exact⟨(n3 k hkR).symm,rfl,rfl,rfl,hsome _ (by omega)⟩
  ·rw[n3 t ht,ho _ (by have:=hk t ht;omega) (by omega)]
   obtain⟨v,hv,_⟩:=hs.u.get (hk t ht)
   rw[aOx hs' (v:=v) (by rw[aTk hs.u hi hj ht];exact hv)]at h
   injection h with h;subst h
   exact⟨_,aOx hs hv,tA _ _⟩
  ·rw[n4 id hbig,ho id (by omega) (by omega)]
   have hmem:o'∈mB R V (2*R+3):=by
    obtain⟨k,rfl⟩:∃ k,id=k+(2*R+3):=⟨id-(2*R+3),by omega⟩
    unfold aH at h
    rw[aSl]at h
    have l2:(wR0 R c::(mB c (swR R c M i j) 1++mB R (swR R R U i j) (R+2))).length=2*R+3:=by rw[AB,Al,cL,cL,hs'.m.len,hs'.u.len];omega
    unfold gI at h
    rw[Ae (by omega),AZ,Ed,aSg l2,Bd]at h
    exact Aq h
   have eqV:aH R c M U V [] id=aH R c (swR R c M i j) (swR R R U i j) V [] id:=by
    unfold aH
    rw[aSl,aSl]
    obtain⟨k,rfl⟩:∃ k,id=k+(2*R+3):=⟨id-(2*R+3),by omega⟩
    have l1:(wR0 R c::(mB c M 1++mB R U (R+2))).length=2*R+3:=by rw[AB,Al,cL,cL,hs.m.len,hs.u.len];omega
    have l2:(wR0 R c::(mB c (swR R c M i j) 1++mB R (swR R R U i j) (R+2))).length=2*R+3:=by rw[AB,Al,cL,cL,hs'.m.len,hs'.u.len];omega
    unfold gI
    rw[Ae (by omega),Ae (by omega),AZ,AZ,Ed,aSg l1,aSg l2]
   rw[eqV,h]
   refine⟨o',rfl,zZ (uW (a:=2*R+3) (n:=3*R+4) (by omega) (by rw[hs.v.len];omega) o' hmem) fun id g1 g2=>⟨(n4 id g1).symm,hsome id (by show _<_+0;omega)⟩⟩
 ·have inv:∀ id,id<3*R+4→swN R i j (swN R i j id)=id:=fun id h=>by
   rcases cases5 id h with rfl|rfl|⟨t,ht,rfl⟩|rfl|⟨t,ht,rfl⟩|hbig
   ·rw[n0 0 (by omega),n0 0 (by omega)]
   ·rw[n0 1 (by omega),n0 1 (by omega)]
   ·rw[n2 t ht,n2 _ (hk t ht),aTj]
   ·rw[n1,n1]
   ·rw[n3 t ht,n3 _ (hk t ht),aTj]
   ·rw[n4 id hbig,n4 id hbig]
  rw[←inv id (hge id g1),←inv id' (hge id' g2)]
  exact congrArg _ e
end Go.Am
end

section
set_option linter.unusedVariables false
set_option linter.unusedSimpArgs false
open List (map_map mapM_map)
open Go Go.Am Go.Proofs
namespace Go.Am
set_option maxHeartbeats 1000000 in
set_option maxRecDepth 10000 in
theorem aTu{R c i j:Nat}{M U V:List (List Int)}(hs:WS R c M U V)(hR:R≤1000)(hc:c≤1000)(hi:i<R)(hj:j<R) :
  xT Tryz.prog 133 (.ptr 0 0) (wR0 R c) (wH R c M U V) [.i .i64 (i:Int),.i .i64 (j:Int)] (wR0 R c) (wH R c (swR R c M i j) (swR R R U i j) (swV R V i j)) (.tp []):=by
 refine xY (N:=123) aI Tryz.func133 rfl rfl rfl rfl (by kernel_rfl) (by kernel_rfl) (by simp) ?_
 have hl:(wH R c M U V).length=3*R+3:=fY hs _ _ _
 have hHr:aH R c M U V [] 0=some (.cells 180 [.d (.i .i64 (R:Int)),.d (.i .i64 (c:Int)),.own 1 0 R 1,.d (.i .i64 (R:Int)),.d (.i .i64 (R:Int)),.own (R+2) 0 R 1,.d (.i .i64 (R:Int)),.d (.i .i64 (R:Int)),.own (2*R+3) 0 R 1]):=rfl
 have hHh:aH R c M U V [] 1=some (.cells 97 (hdr c R 2)):=aWl hs
 have hHu:aH R c M U V [] (R+2)=some (.cells 97 (hdr R R (R+3))):=aWk hs
 have hgi:=dC (c:=c) (b:=2) hi
 have hgj:=dC (c:=c) (b:=2) hj
 have hui:=dC (c:=R) (b:=R+3) hi
 have huj:=dC (c:=R) (b:=R+3) hj
 have hgl:=cK c R 2
 have hul:=cK R R (R+3)
 obtain⟨m1,hm1⟩:∃ m1,lay (hdr c R 2) i [.own (j+2) 0 c 2]=m1:=⟨_,rfl⟩
 obtain⟨m2,hm2⟩:∃ m2,lay m1 j [.own (i+2) 0 c 2]=m2:=⟨_,rfl⟩
 obtain⟨u1,hu1⟩:∃ u1,lay (hdr R R (R+3)) i [.own (j+(R+3)) 0 R 2]=u1:=⟨_,rfl⟩
 obtain⟨u2,hu2⟩:∃ u2,lay u1 j [.own (i+(R+3)) 0 R 2]=u2:=⟨_,rfl⟩
 have hm1l:m1.length=R:=by rw[←hm1,gZ (by rw[cK];exact hi),cK]
 have hu1l:u1.length=R:=by rw[←hu1,gZ (by rw[cK];exact hi),cK]
 have hm3:m2=aNv c R 2 i j:=by rw[←hm2,←hm1];rfl
 have hu3:u2=aNv R R (R+3) i j:=by rw[←hu2,←hu1];rfl
 have e1:R+2≠1:=by omega
 have e2:∀ h:i<(hdr c R 2).length,(hdr c R 2)[i]'h=.own (i+2) 0 c 2:=fun h=>Bg ((Aa h).symm.trans hgi)
 have e3:∀ h:j<(hdr c R 2).length,(hdr c R 2)[j]'h=.own (j+2) 0 c 2:=fun h=>Bg ((Aa h).symm.trans hgj)
 have e4:∀ h:i<(hdr R R (R+3)).length,(hdr R R (R+3))[i]'h=.own (i+(R+3)) 0 R 2:=fun h=>Bg ((Aa h).symm.trans hui)
 have e5:∀ h:j<(hdr R R (R+3)).length,(hdr R R (R+3))[j]'h=.own (j+(R+3)) 0 R 2:=fun h=>Bg ((Aa h).symm.trans huj)
 have hst:StT (.ptr 0 0) (wR0 R c) (wH R c M U V) [.i .i64 (i:Int),.i .i64 (j:Int)] 123=⟨(StT (.ptr 0 0) (wR0 R c) (wH R c M U V) [.i .i64 (i:Int),.i .i64 (j:Int)] 123).Γ,aH R c M U V [],3*R+4⟩:=by
  rw[←bJa];unfold StT;rw[hl]
 have hself:=fun id o=>fF (x:=[]) hs (fun o ho=>by cases ho) (H:=aH R c M U V []) (id:=id) (o:=o)
 rw[hst]
 clear hst
 obtain⟨H,hHg⟩:∃ H,aH R c M U V []=H:=⟨_,rfl⟩
 obtain⟨cellsM,hcM⟩:∃ l,hdr c R 2=l:=⟨_,rfl⟩
 obtain⟨cellsU,hcU⟩:∃ l,hdr R R (R+3)=l:=⟨_,rfl⟩
 rw[hHg,hcM]at hHh
 rw[hHg,hcU]at hHu
 rw[hHg]at hHr ⊢
 simp only[hcM]at hgi hgj hgl hm1 e2 e3
 simp only[hcU]at hui huj hul hu1 e4 e5
 have hi1:i+1≤R:=hi
 have hj1:j+1≤R:=hj
 simp[-map_map,-mapM_map,↓KW,StT,hi1,hj1,hHr,hHh,hHu,hgi,hgj,hui,huj,hgl,hul,hm1,hm2,hu1,hu2,hm1l,hu1l,e1,e2,e3,e4,e5,hi,hj]
 have hs':WS R c (swR R c M i j) (swR R R U i j) V:=⟨iR _ _ _,iR _ _ _,hs.v⟩
 refine aU (fun y:Nat×List (List Int)=>y.1≤R∧Sh R R y.2∧∀ r t,r<R→t<R→ent y.2 r t=swC V i j y.1 r t) (fun y=>⟨iT [(0,.ptr 0 0),(1,.d (.i .i64 (i:Int))),(2,.d (.i .i64 (j:Int))),(7,.d (.i .i64 (y.1:Int)))],aH R c (swR R c M i j) (swR R R U i j) y.2 [],3*R+4⟩) (fun y=>R-y.1)
  (0,V) ⟨An _,hs.v,fun r t hr ht=>by unfold swC;rw[Ae (by omega)]⟩ ?_ ?_
 ·refine bVh (n:=3*R+3) hs hi hj ?_ ?_ (fun id h1 h2=>?_) ?_
  ·simp[upd,hm3]
  ·simp[upd,hu3]
  ·simp only[upd]
   rw[Ae h2,Ae h2,Ae h1,Ae h1,hHg]
  ·have g0:=dS (x:=[]) hs' (id:=0) (by omega)
   have g1:swN R i j 0=0:=by unfold swN;rw[Ae (by omega),Ae (by omega)]
   simp[-map_map,upd,aT,Γ0,g0,g1]
 ·rintro⟨s,V1⟩ ⟨hsb,hM1,hME⟩
  simp only at hsb hM1 hME
  have hm:(swR R c M i j)=(swR R c M i j):=rfl
  generalize hMg:swR R c M i j=M1 at *
  generalize hUg:swR R R U i j=U1 at *
  have hs0:WS R c M1 U1 V1:=⟨hs'.m,hs'.u,hM1⟩
  have hHr:aH R c M1 U1 V1 [] 0=some (.cells 180 [.d (.i .i64 (R:Int)),.d (.i .i64 (c:Int)),.own 1 0 R 1,.d (.i .i64 (R:Int)),.d (.i .i64 (R:Int)),.own (R+2) 0 R 1,.d (.i .i64 (R:Int)),.d (.i .i64 (R:Int)),.own (2*R+3) 0 R 1]):=rfl
  by_cases hgo:s<R
  ·have q1:(s:Int)<R:=by omega
   have hw:Ah.wrap ((s:Int)+1)=(s:Int)+1:=aR (by omega) (by omega)
   have hHh:aH R c M1 U1 V1 [] (2*R+3)=some (.cells 97 (hdr R R (2*R+4))):=bJb hs0
   obtain⟨vs,hvs,hvls,hves⟩:=hM1.get hgo
   have hHs:aH R c M1 U1 V1 [] (s+(2*R+4))=some (.cells 74 ((vcs vs).map .d)):=bIz hs0 hvs
   have hgs:=dC (c:=R) (b:=(2*R+4)) hgo
   have hggs:∀ h:s<(hdr R R (2*R+4)).length,(hdr R R (2*R+4))[s]'h=.own (s+(2*R+4)) 0 R 2:=fun h=>Bg ((Aa h).symm.trans hgs)
   have hvcs:=eO vs
   rw[hvls]at hvcs
   have hbi:i*2+2≤R*2:=by omega
   have hbj:j*2+2≤R*2:=by omega
   obtain⟨z0,hz0⟩:∃ z,ent V1 s i=z:=⟨_,rfl⟩
   obtain⟨z1,hz1⟩:∃ z,ent V1 s j=z:=⟨_,rfl⟩
   have hrd0:Cd 2 (C1 (i*2) ((vcs vs).map AV.d))=[.d (.b (decide (z0<0))),.d (aN (aX z0.natAbs))]:=by
    rw[←hz0,←hves i,←CA,←Cc,gK (z:=vs.getD i 0) (by rw[Ac,Aa (by omega)];rfl)];rfl
   have hrd1:Cd 2 (C1 (j*2) ((vcs vs).map AV.d))=[.d (.b (decide (z1<0))),.d (aN (aX z1.natAbs))]:=by
    rw[←hz1,←hves j,←CA,←Cc,gK (z:=vs.getD j 0) (by rw[Ac,Aa (by omega)];rfl)];rfl
   obtain⟨vs1,hvs1⟩:∃ v,vs.set i z1=v:=⟨_,rfl⟩
   have hlay:=kY (v:=vs) z1 (j:=i) (by rw[hvls];omega)
   rw[hvs1]at hlay
   have hvls1:vs1.length=R:=by rw[←hvs1,List.length_set];exact hvls
   have hvcs1:=eO vs1
   rw[hvls1]at hvcs1
   have hlay1:=kY (v:=vs1) z0 (j:=j) (by rw[hvls1];omega)
   have hM2:Sh R R (V1.set s vs1):=by rw[←hvs1];exact gF hM1 hvs
   have hvs2:(V1.set s vs1)[s]? = some vs1:=List.getElem?_set_self (by rw[hM1.len];exact hgo)
   have hM3:Sh R R ((V1.set s vs1).set s (vs1.set j z0)):=gF hM2 hvs2
   have hs1:WS R c M1 U1 ((V1.set s vs1).set s (vs1.set j z0)):=⟨hs'.m,hs'.u,hM3⟩
   have hs2:WS R c M1 U1 (V1.set s vs1):=⟨hs'.m,hs'.u,hM2⟩
   have hupd:upd (aH R c M1 U1 V1 []) (s+(2*R+4)) (some (.cells 74 ((vcs vs1).map .d)))=aH R c M1 U1 (V1.set s vs1) []:=aAn hs0 hgo
   have hupd2:upd (aH R c M1 U1 (V1.set s vs1) []) (s+(2*R+4)) (some (.cells 74 ((vcs (vs1.set j z0)).map .d)))=aH R c M1 U1 ((V1.set s vs1).set s (vs1.set j z0)) []:=aAn hs2 hgo
   have hgl:=cK R R (2*R+4)
   have k1:s+(2*R+4)≠3*R+4:=by omega
   have k2:2*R+3≠3*R+4:=by omega
   have k3:2*R+3≠s+(2*R+4):=by omega
   have k4:3*R+4≠s+(2*R+4):=by omega
   have k1':¬s+2*R=3*R:=by omega
   have k2':¬2*R=3*R+1:=by omega
   have k3':¬2*R=s+(2*R+1):=by omega
   have k4':¬3*R=s+2*R:=by omega
   obtain⟨H,hHg⟩:∃ H,aH R c M1 U1 V1 []=H:=⟨_,rfl⟩
   obtain⟨cells,hc⟩:∃ l,hdr R R (2*R+4)=l:=⟨_,rfl⟩
   rw[hHg]at hHr hHh hHs hupd ⊢
   simp only[hc]at hHh hgs hggs hgl
   simp[-map_map,-mapM_map,↓KW,q1,hHr,hHh,hHs,hgs,hggs,hvcs,hvcs1,hi,hj,hbi,hbj,hrd0,hrd1,hlay,hlay1,hgl,hgo,hw,k1,k2,k3,k4,k1',k2',k3',k4',aD,aK,aM,bE,bC]
   refine aJ (s+1,(V1.set s vs1).set s (vs1.set j z0)) ⟨hgo,hM3,fun r t hr ht=>?_⟩ (Ab hgo (Ad _)) ?_
   ·have a1:=lZ (i:=s) (j:=i) (z:=z1) hM1 hgo hi hvs r t
    rw[hvs1]at a1
    rw[lZ hM2 hgo hj hvs2,a1,hME r t hr ht,←hz0,←hz1,hME s i hgo hi,hME s j hgo hj]
    unfold swC swp
    by_cases e:r=s
    ·subst e
     simp only[true_and,Nat.lt_irrefl,if_false,Ad,if_true]
     by_cases a:t=j
     ·subst a
      rw[Ag rfl]
      by_cases b:t=i
      ·rw[Ag b,b]
      ·rw[Ae b,Ag rfl]
     ·rw[Ae a]
      by_cases b:t=i
      ·rw[Ag b,Ag b]
      ·rw[Ae b,Ae b,Ae a]
    ·simp only[e,false_and,if_false]
     by_cases g:r<s
     ·rw[Ag g,Ag (show r<s+1 by omega)]
     ·rw[Ae g,Ae (show ¬r<s+1 by omega)]
   ·refine⟨_,kH ?_ (fun id o' ho=>?_) (fun id hid=>gR hs1 hid) (by simp)⟩
    ·have g0:=dS (x:=[]) hs1 (id:=0) (by omega)
     rw[List.set_set]at g0
     simp[-map_map,upd,aT,Γ0,g0]
    ·have hlt:id<3*R+4:=by
      have:=(aJd (b:=0) (l:=aL R c M1 U1 ((V1.set s vs1).set s (vs1.set j z0)) []) (id:=id) (by unfold aH at ho;rw[ho];rfl)).2
      rw[aEf hs1]at this;simpa using this
     refine⟨o',?_,fF hs1 (fun o ho=>by cases ho) ho⟩
     rw[←hupd2,←hupd]at ho
     simp only[upd]at ho ⊢
     by_cases e:id=s+(2*R+4)
     ·rw[Ag e]at ho ⊢;exact ho
     ·rw[Ae e,Ae e]at ho
      rw[Ae e,Ae e,Ae (by omega),Ae (by omega)];exact ho
  ·have q1:¬(s:Int)<R:=by omega
   have es:s=R:=by omega
   have hNe:V1=swV R V i j:=rD hM1 fun r t hr ht=>by rw[hME r t hr ht,es]
   obtain⟨H,hHg⟩:∃ H,aH R c M1 U1 V1 []=H:=⟨_,rfl⟩
   rw[hHg]at hHr
   rw[←hNe,hHg]
   simp[-map_map,-mapM_map,↓KW,q1,hHr]
   rw[←hHg]
   exact aSm hs0 (Dl _)
end Go.Am
end

section
set_option linter.unusedVariables false
set_option linter.unusedSimpArgs false
open List (map_map mapM_map)
open Go Go.Am Go.Proofs
namespace Go.Am
/-! What a relation says of its first state -/
theorem Eu.ok{R c col top i:Nat}{w w':W3}(h:Eu R c col top i w w'):Ok R c w:=by cases h<;>assumption
theorem Ei.ok{R c col top i:Nat}{w w':W3}(h:Ei R c col top i w w'):Ok R c w:=by
 cases h with
 |done _ _ ok _=>exact ok
 |go _ _ _ _ _ h1 _=>exact h1.ok
theorem Rd.ok{R c col top i:Nat}{w w':W3}(h:Rd R c col top i w w'):Ok R c w:=by cases h<;>assumption
theorem Fo.ok{R c col top:Nat}{w w':W3}(h:Fo R c col top w w'):Ok R c w:=by
 cases h with
 |done _ _ _ ok _=>exact ok
 |zero _ _ _ _ _ _ _ h3 _ _=>exact h3.ok
 |piv _ _ _ _ _ _ _ _ h3 _ _ _=>exact h3.ok
theorem Eu.end{R c col top i:Nat}{w w':W3}(h:Eu R c col top i w w')(h0:ent w.M i col=0):w=w':=by
 cases h with
 |done _ _ _=>rfl
 |go _ _ _ h1 _=>exact absurd h0 h1
theorem Eu.next{R c col top i:Nat}{w w':W3}(h:Eu R c col top i w w')(h0:ent w.M i col≠0):Eu R c col top i (euS R c col top i w) w':=by
 cases h with
 |done _ _ h1=>exact absurd h1 h0
 |go _ _ _ _ h2=>exact h2
theorem Eu.less{R c col top i:Nat}{w:W3}(hcol:col<c)(hti:top<i)(hiR:i<R)(hy:ent w.M i col≠0):(ent (euS R c col top i w).M i col).natAbs<(ent w.M i col).natAbs:=by
 have hy1:ent (euS R c col top i w).M i col=ent w.M top col%ent w.M i col:=by
  rw[aOb (by omega) (by omega) hiR hiR hcol,Ae (by omega),Ag rfl]
  have:=Dq (ent w.M top col) (ent w.M i col)
  rw[BG (ent w.M top col/_)];omega
 have hlt:=Int.emod_lt (ent w.M top col) hy
 have hnn:=Dy (ent w.M top col) hy
 rw[hy1];omega
theorem Ei.end{R c col top i:Nat}{w w':W3}(h:Ei R c col top i w w')(h0:¬i<R):w=w':=by
 cases h with
 |done _ _ _ _=>rfl
 |go _ _ _ _ h1 _ _=>exact absurd h1 h0
theorem Ei.next{R c col top i:Nat}{w w':W3}(h:Ei R c col top i w w')(h0:i<R):∃ w1,Eu R c col top i w w1∧Ei R c col top (i+1) w1 w':=by
 cases h with
 |done _ _ _ h1=>omega
 |go _ _ w1 _ _ h1 h2=>exact⟨w1,h1,h2⟩
theorem Rd.end{R c col top i:Nat}{w w':W3}(h:Rd R c col top i w w')(h0:¬i<top):w=w':=by
 cases h with
 |done _ _ _ _=>rfl
 |go _ _ _ _ h1 _=>exact absurd h1 h0
theorem Rd.next{R c col top i:Nat}{w w':W3}(h:Rd R c col top i w w')(h0:i<top):Rd R c col top (i+1) (rdS R c col top i w) w':=by
 cases h with
 |done _ _ _ h1=>omega
 |go _ _ _ _ _ h2=>exact h2
theorem Fo.end{R c col top:Nat}{w w':W3}(h:Fo R c col top w w')(h0:¬(col<c∧top<R)):w=w':=by
 cases h with
 |done _ _ _ _ _=>rfl
 |zero _ _ _ _ _ h1 h2 _ _ _=>exact absurd ⟨h1,h2⟩ h0
 |piv _ _ _ _ _ _ h1 h2 _ _ _ _=>exact absurd ⟨h1,h2⟩ h0
theorem Fo.next{R c col top:Nat}{w w':W3}(h:Fo R c col top w w')(h0:col<c∧top<R):∃ w1,Ei R c col top (top+1) w w1∧((ent w1.M top col=0∧Fo R c (col+1) top w1 w')∨(ent w1.M top col≠0∧∃ w2,Rd R c col top 0 (ngS R c col top w1) w2∧Fo R c (col+1) (top+1) w2 w')):=by
 cases h with
 |done _ _ _ _ h1=>exact absurd h0 h1
 |zero _ _ _ w1 _ _ _ h3 h4 h5=>exact⟨w1,h3,.inl ⟨h4,h5⟩⟩
 |piv _ _ _ w1 w2 _ _ _ h3 h4 h5 h6=>exact⟨w1,h3,.inr ⟨h4,w2,h5,h6⟩⟩
theorem Rd.col{R c col top i:Nat}{w w':W3}(hcol:col<c)(hR:top<R)(h:Rd R c col top i w w'):∀ r,top≤r→r<R→ent w'.M r col=ent w.M r col:=by
 induction h with
 |done _ _ _ _=>intro r _ _;rfl
 |go i w w2 _ h1 _ ih =>
  intro r h2 h3
  rw[ih r h2 h3]
  show ent (qD R c w.M i top _) r col=_
  rw[gO h3 hcol,Ae (by omega)]
theorem fQ{z:Int}(h:Sd z):Sy z:=Ap h (by decide)
/-! The heap -/
def cAq:HO:=.cells 157 [.d (.i .i64 0),.d (.i .i64 0),.nil,.d (.i .i64 0),.d (.i .i64 0),.nil,.d (.i .i64 0),.d (.i .i64 0),.nil]
def aOa(R c:Nat)(A:List (List Int)):List HO:=[.cells 95 [.d (.i .i64 (R:Int)),.d (.i .i64 (c:Int)),.d (.sl (A.map fun v=>[bO v]))],cAq]
theorem bGf(R c:Nat)(A:List (List Int)):∀ o∈aOa R c A,rfO 0 0 o=true:=by
 intro o ho
 simp only[aOa,AD,List.not_mem_nil,or_false]at ho
 rcases ho with rfl|rfl<;>rfl
theorem HF.upd{H:Nat→Option HO}{pre:List HO}{p q r R c n:Nat}{M U V:List (List Int)}{x:Option HO}(h:HF H pre p q r R c M U V)(hs:WS R c M U V)(h0:pre.length+1<p)(h2:p+R<q)(h3:q+R<r)(hn:r+R<n):HF (upd H n x) pre p q r R c M U V:=by
 have hl:∀{c' m:Nat} {N:List (List Int)} {i:Nat} {o:HO},N.length=R→(mB c' N m)[i]? = some o→i<R+1:=fun hN h=>by
  have:=(Aj.1 h).1;rwa [cL,hN]at this
 refine⟨⟨?_,fun i o ho=>?_,fun i o ho=>?_,fun i o ho=>?_⟩,fun i o ho=>?_⟩
 ·rw[dD _ _ (by omega)];exact h.w.root
 ·have:=hl hs.m.len ho
  rw[dD _ _ (by omega)];exact h.w.m i o ho
 ·have:=hl hs.u.len ho
  rw[dD _ _ (by omega)];exact h.w.u i o ho
 ·have:=hl hs.v.len ho
  rw[dD _ _ (by omega)];exact h.w.v i o ho
 ·have:=(Aj.1 ho).1
  rw[dD _ _ (by omega)];exact h.pre i o ho
theorem aDx{pre:List HO}{R c:Nat}{M U V:List (List Int)}{H:Nat→Option HO}(hs:WS R c M U V)(hH:kP pre R c M U V=H):∃ p q r,pre.length+1<p∧p+R<q∧q+R<r∧r+R<pre.length+3*R+5∧HF H pre p q r R c M U V :=
 ⟨_,_,_,by omega,by omega,by omega,by omega,hH ▸ aHu hs⟩
theorem fO{pre:List HO}{p q r R c:Nat}{M U V:List (List Int)}(hpl:pre.length=2)(hs:WS R c M U V):aHs 3 p q r R 1=1∧aHs 3 p q r R 2=2∧aHs 3 p q r R 3=3∧(kP pre R c M U V 1).isSome=true∧(kP pre R c M U V 2).isSome=true∧(kP pre R c M U V 3).isSome=true:=by
 have hl:=aTb (pre:=pre) hs
 exact⟨rfl,rfl,rfl,kM (by omega) (by rw[hl];omega),kM (by omega) (by rw[hl];omega),kM (by omega) (by rw[hl];omega)⟩
theorem HF.root2{H:Nat→Option HO}{pre:List HO}{p q r R c:Nat}{M U V:List (List Int)}(h:HF H pre p q r R c M U V)(hpl:pre.length=2) :
  H 3=some (.cells 180 [.d (.i .i64 (R:Int)),.d (.i .i64 (c:Int)),.own p 0 R 1,.d (.i .i64 (R:Int)),.d (.i .i64 (R:Int)),.own q 0 R 1,.d (.i .i64 (R:Int)),.d (.i .i64 (R:Int)),.own r 0 R 1]):=by
 have:=h.w.root
 rwa [hpl]at this
structure Rdg(H:Nat→Option HO)(p R c i s:Nat)(z:Int):Prop where
 hd:∃ v:List Int,H (i+(p+1))=some (.cells 74 ((vcs v).map .d))∧(vcs v).length=c*2∧Cd 2 (C1 (s*2) ((vcs v).map AV.d))=[.d (.b (decide (z<0))),.d (aN (aX z.natAbs))]
theorem HF.rd{H:Nat→Option HO}{pre:List HO}{p q r R c i s:Nat}{M U V:List (List Int)}(h:HF H pre p q r R c M U V)(hs:WS R c M U V)(hi:i<R)(hc:s<c):Rdg H p R c i s (ent M i s):=by
 obtain⟨v,hv,hl,he⟩:=hs.m.get hi
 have h2:=eO v
 refine⟨v,h.w.rowM hv,by rw[h2,hl],?_⟩
 rw[←he s,←CA,←Cc,gK (z:=v.getD s 0) (by rw[Ac,Aa (by omega)];rfl)];rfl
theorem tI{P:Program}{dst:Option Tmp}{ty:TypeId}{pos:String}{after:Array Edge}{guard:Option (Nat×Bool)}{σ:St}{k:St→List Nat→Prop}{f:FuncId}{x:Operand}{rest:List Operand}{ts:Array TypeId}
  {d:Dm ((⟨dst,.call ⟨.value (.func f),(x::rest).toArray,ts⟩,ty,pos,after,guard⟩:Oper),k)} {pre:List HO} {p q r R c:Nat} {w w':W3} {ds:List D} {K:St→Prop} {dm:Dm K} (hkk:∀ σ' con',k σ' con'=aFh σ' con' K dm) (hm:bH P f=true) (hx:oev σ.Γ x=.ptr (pre.length+1) 0)
  (hF:HF σ.H pre p q r R c w.M w.U w.V) (hpre:∀ o∈pre,rfO 0 0 o=true) (hs:w.sh R c) (h1:pre.length+1<p) (h2:p+R<q) (h3:q+R<r) (h4:r+R<σ.n) (hvis:gT σ.H (rest.map (oev σ.Γ))=[]) (hfr:iB σ.H (rest.map (oev σ.Γ))=some ds)
  (hs':w'.sh R c) (hsp:xT P f (.ptr 0 0) (wR0 R c) (wH R c w.M w.U w.V) ds (wR0 R c) (wH R c w'.M w'.U w'.V) (.tp []))
  (hk:∀(l:List Nat) (H':Nat→Option HO) (p' q' r' n':Nat),(∀ id,id≤pre.length+1→¬id∈l)→pre.length+1<p'→p'+R<q'→q'+R<r'→r'+R<n'→HF H' pre p' q' r' R c w'.M w'.U w'.V→K ⟨fun t=>kI l (bT σ.Γ dst (inj (.tp [])) t),H',n'⟩):O1d P ⟨dst,.call ⟨.value (.func f),(x::rest).toArray,ts⟩,ty,pos,after,guard⟩ σ [] k d:=by
 refine bDf (b:=pre.length+1) hm (by omega) hx hF.w hs h1 h2 h3 hvis hfr hs' hsp ?_
 rw[hkk,bOj _ (bSz _ _),Bd]
 refine hk _ _ σ.n (σ.n+R+1) (σ.n+2*R+2) _ (fun id hid hm=>?_) (by omega) (by omega) (by omega) (by simp only;omega) (HF.call hF hs' h1 h2 h3 h4 hpre)
 have:=bQg h1 h2 h3 h4 hm
 omega
theorem aIz{H:Nat→Option HO}{R c p:Nat}{M:List (List Int)}(k:Nat)(hM:Sh R c M)(h:∀(i:Nat) o,(mB c M p)[i]? = some o→H (i+p)=some o):frz H (k+3) (.own p 0 R 1)=some (.sl (M.map fun v=>[bO v])):=by
 have h0:H p=some (.cells 97 (hdr c R (p+1))):=by
  have:=h 0 _ rfl
  rwa [Bf,hM.len]at this
 rw[jY,h0]
 simp only[Bf,CK,cK,Nat.zero_mul,List.drop_zero]
 rw[Ag ⟨Az _,by decide⟩,Ai (by rw[cK];exact Az _)]
 rw[mapM_some (frz H (k+2)) (fun i=>bO (M.getD i [])) _ fun i x hx=>?_]
 ·simp only[AW,cK]
  congr 2
  unfold chunk
  refine DK (by simp[hM.len]) fun i a1 a2=>?_
  have hi:i<R:=by simpa using a1
  have hiM:i<M.length:=by rw[hM.len];exact hi
  simp only[Cm,Et,CK]
  rw[A2 (by simpa using hi)]
  simp only[Cm,Et,List.take_succ_cons,BZ]
  rw[Ac,Aa hiM];rfl
 ·have hi:i<R:=by have:=(Aj.1 hx).1;rwa [cK]at this
  rw[dC hi]at hx;injection hx with hx;subst hx
  have hiM:i<M.length:=by rw[hM.len];exact hi
  rw[Ac,Aa hiM,Ba]
  have:=h (i+1) (vR M[i]) (by simp only[mB,A6,Ax,Aa hiM,AW])
  exact aCv k (by rwa [show i+1+p=i+(p+1)by omega]at this) (hM.row _ (Ak hiM))
/-! A Hermite decomposition as data -/
def aDl(R c:Nat)(w:W3):D:=.ag [.i .i64 (R:Int),.i .i64 (c:Int),.sl (w.M.map fun v=>[bO v]),.i .i64 (R:Int),.i .i64 (R:Int),.sl (w.U.map fun v=>[bO v]),.i .i64 (R:Int),.i .i64 (R:Int),.sl (w.V.map fun v=>[bO v])]
theorem aLs(x y:Int)(hy:y≠0)(hx:Sd x)(hyl:Sd y):Spec Tryz.prog 135 [encZ x,encZ y] (encZ (x/y)):=by
 refine aZ (N:=16) aI Tryz.func135 rfl rfl rfl (by kernel_rfl) (by kernel_rfl) (by simp) ?_
 have h:=aFv x y hy hx hyl
 simp[-map_map,-mapM_map,↓KW,bF,aD,aK,aM,bE,bC]
 refine aA (ds:=[encZ x,encZ y]) (by rfl) h ?_
 rw[bF,bF]
 simp[-map_map,-mapM_map,↓KW,bF,aD,aK,aM,bE,bC]
end Go.Am
end

section
set_option linter.unusedVariables false
set_option linter.unusedSimpArgs false
open List (map_map mapM_map)
open Go Go.Am Go.Proofs
namespace Go.Am
set_option maxHeartbeats 2000000 in
set_option maxRecDepth 10000 in
theorem aTw{R c:Nat}{A:List (List Int)}{wf:W3}(hA:Sh R c A)(hR:R≤15)(hc:c≤1000)(hAs:∀ v∈A,∀ z∈v,Sz z)(hFo:Fo R c 0 0 ⟨A,idM R,idM R⟩ wf) :
  Spec Tryz.prog 105 [bN R c A] (aDl R c wf):=by
 refine aZ (N:=173) aI Tryz.func105 rfl rfl rfl (by kernel_rfl) (by kernel_rfl) (by simp) ?_
 have hst:=bCs hA (by omega) hc hAs
 have hH0:fE (upd (upd (fun _=>none) 1 (some (.cells 95 [.d (.i .i64 (R:Int)),.d (.i .i64 (c:Int)),.d (.sl (A.map fun v=>[bO v]))]))) 2 (some (.cells 157 [.d (.i .i64 0),.d (.i .i64 0),.nil,.d (.i .i64 0),.d (.i .i64 0),.nil,.d (.i .i64 0),.d (.i .i64 0),.nil]))) 3 (uP R c A (idM R) (idM R) 3)=kP (aOa R c A) R c A (idM R) (idM R):=by
  rw[aVk,aAj (n:=3) rfl]
  have e1:(aOa R c A).length=2:=rfl
  unfold kP wFl uP
  rw[e1,show 3+1=2+2 by omega,show 3+R+2=2+R+3 by omega,show 3+2*R+3=2+2*R+4 by omega];rfl
 have hlo:(uP R c A (idM R) (idM R) 3).length=3*R+4:=aKj ⟨hA,iR _ _ _,iR _ _ _⟩ 3
 obtain⟨pre,hpre⟩:∃ l,aOa R c A=l:=⟨_,rfl⟩
 have hpl:pre.length=2:=by rw[←hpre];rfl
 have hprf:∀ o∈pre,rfO 0 0 o=true:=by rw[←hpre];exact bGf R c A
 have hp1:pre[0]? = some (.cells 95 [.d (.i .i64 (R:Int)),.d (.i .i64 (c:Int)),.d (.sl (A.map fun v=>[bO v]))]):=by rw[←hpre];rfl
 have hp2:pre[1]? = some (.cells 157 [.d (.i .i64 0),.d (.i .i64 0),.nil,.d (.i .i64 0),.d (.i .i64 0),.nil,.d (.i .i64 0),.d (.i .i64 0),.nil]):=by rw[←hpre];rfl
 rw[hpre]at hH0
 obtain⟨w0,hw0⟩:∃ w:W3,⟨A,idM R,idM R⟩=w:=⟨_,rfl⟩
 have hM0:w0.M=A:=by rw[←hw0]
 have hU0:w0.U=idM R:=by rw[←hw0]
 have hV0:w0.V=idM R:=by rw[←hw0]
 rw[hw0]at hFo
 have hH1:kP pre R c A (idM R) (idM R)=kP pre R c w0.M w0.U w0.V:=by rw[hM0,hU0,hV0]
 rw[hH1]at hH0
 simp[-map_map,-mapM_map,↓KW,bN]
 refine iZ [bN R c A] (fun m=>.ptr m 0) (uP R c A (idM R) (idM R)) (by simp) (by simp) (by simp) (by rfl) (by rfl) hst ?_
 simp[-map_map,-mapM_map,↓KW,hH0,hlo]
 refine aU (fun x:Nat×Nat×W3×(Nat→Option HO)=>Fo R c x.1 x.2.1 x.2.2.1 wf∧x.1≤c∧x.2.1≤R∧kP pre R c x.2.2.1.M x.2.2.1.U x.2.2.1.V=x.2.2.2) (fun x=>⟨iT [(1,.ptr 1 0),(2,.ptr 2 0),(3,.ptr 3 0),(4,.d (.i .i64 (x.2.1:Int))),(5,.d (.i .i64 (x.1:Int)))],x.2.2.2,3+3*R+4⟩) (fun x=>c-x.1) (0,0,w0,kP pre R c w0.M w0.U w0.V) ⟨hFo,An _,An _,rfl⟩ ?_ ?_
 ·have hs:=hFo.ok.sh
  obtain⟨g1,g2,g3,s1,s2,s3⟩:=fO (p:=pre.length+2) (q:=pre.length+R+3) (r:=pre.length+2*R+4) hpl hs
  refine lL (aHu hs) hs (by omega) (by omega) (by omega) (by omega) hprf ?_
  simp[-map_map,upd,aT,Γ0,g1,g2,g3,s1,s2,s3]
 ·rintro⟨col,top,w,H⟩ ⟨hf,hcb,htb,hHg⟩
  simp only at hf hcb htb hHg
  have hs:=hf.ok.sh
  refine(aDx (pre:=pre) hs hHg).elim fun p hh=>hh.elim fun q hh=>hh.elim fun r hh=>?_
  have h1:=hh.1
  have h2:=hh.2.1
  have h3:=hh.2.2.1
  have h4:=hh.2.2.2.1
  have hF:=hh.2.2.2.2
  rw[hpl]at h1 h4
  clear hh
  have hH1:H 1=_:=hF.pre 0 _ hp1
  have hH2:H 2=_:=hF.pre 1 _ hp2
  have hH3:=hF.root2 hpl
  by_cases hgo:col<c∧top<R
  ·have q1:(col:Int)<c:=by omega
   have q2:(top:Int)<R:=by omega
   have hw1:Ah.wrap ((top:Int)+1)=(top:Int)+1:=aR (by omega) (by omega)
   have hw2:Ah.wrap ((col:Int)+1)=(col:Int)+1:=aR (by omega) (by omega)
   refine(hf.next hgo).elim fun w1 hw=>?_
   have hei:=hw.1
   have hrest:=hw.2
   simp[-map_map,-mapM_map,↓KW,q1,q2,hgo.1,hgo.2,hH1,hw1]
   refine aU (fun x:Nat×W3×(Nat→Option HO)=>Ei R c col top x.1 x.2.1 w1∧top<x.1∧x.1≤R∧kP pre R c x.2.1.M x.2.1.U x.2.1.V=x.2.2) (fun x=>⟨iT [(1,.ptr 1 0),(2,.ptr 2 0),(3,.ptr 3 0),(4,.d (.i .i64 (top:Int))),(5,.d (.i .i64 (col:Int))),(6,.d (.i .i64 (x.1:Int)))],x.2.2,3+3*R+4⟩) (fun x=>R-x.1) (top+1,w,H) ⟨hei,Ad _,hgo.2,hHg⟩ ?_ ?_
   ·obtain⟨g1,g2,g3,s1,s2,s3⟩:=fO (p:=p) (q:=q) (r:=r) hpl hs
    subst hHg
    refine lL hF hs (by omega) (by omega) h2 h3 hprf ?_
    simp[-map_map,upd,aT,Γ0,g1,g2,g3,s1,s2,s3]
   ·clear hei hH1 hH2 hH3 hF hHg h1 h2 h3 h4 hs
    rintro⟨i,w,H⟩ ⟨hei,hti,hiR,hHg⟩
    simp only at hei hti hiR hHg
    have hs:=hei.ok.sh
    refine(aDx (pre:=pre) hs hHg).elim fun p hh=>hh.elim fun q hh=>hh.elim fun r hh=>?_
    have h1:=hh.1
    have h2:=hh.2.1
    have h3:=hh.2.2.1
    have h4:=hh.2.2.2.1
    have hF:=hh.2.2.2.2
    rw[hpl]at h1 h4
    clear hh
    have hH1:H 1=_:=hF.pre 0 _ hp1
    have hH2:H 2=_:=hF.pre 1 _ hp2
    have hH3:=hF.root2 hpl
    by_cases hi:i<R
    ·have q3:(i:Int)<R:=by omega
     have hw3:Ah.wrap ((i:Int)+1)=(i:Int)+1:=aR (by omega) (by omega)
     refine(hei.next hi).elim fun w2 hw=>?_
     have heu:=hw.1
     have hei2:=hw.2
     simp[-map_map,-mapM_map,↓KW,q3,hi,hH1]
     refine aU (fun x:W3×(Nat→Option HO)=>Eu R c col top i x.1 w2∧kP pre R c x.1.M x.1.U x.1.V=x.2) (fun x=>⟨iT [(1,.ptr 1 0),(2,.ptr 2 0),(3,.ptr 3 0),(4,.d (.i .i64 (top:Int))),(5,.d (.i .i64 (col:Int))),(6,.d (.i .i64 (i:Int)))],x.2,3+3*R+4⟩) (fun x=>(ent x.1.M i col).natAbs) (w,H) ⟨heu,hHg⟩ ?_ ?_
     ·obtain⟨g1,g2,g3,s1,s2,s3⟩:=fO (p:=p) (q:=q) (r:=r) hpl hs
      subst hHg
      refine lL hF hs (by omega) (by omega) h2 h3 hprf ?_
      simp[-map_map,upd,aT,Γ0,g1,g2,g3,s1,s2,s3]
     ·clear heu hH1 hH2 hH3 hF hHg h1 h2 h3 h4 hs
      rintro⟨w,H⟩ ⟨heu,hHg⟩
      simp only at heu hHg
      have ok:=heu.ok
      have hs:=ok.sh
      refine(aDx (pre:=pre) hs hHg).elim fun p hh=>hh.elim fun q hh=>hh.elim fun r hh=>?_
      have h1:=hh.1
      have h2:=hh.2.1
      have h3:=hh.2.2.1
      have h4:=hh.2.2.2.1
      have hF:=hh.2.2.2.2
      rw[hpl]at h1 h4
      clear hh
      have hH3:=hF.root2 hpl
      have hHd:=hF.w.hdrM hs
      have hgi:=dC (c:=c) (b:=p+1) hi
      have hgt:=dC (c:=c) (b:=p+1) hgo.2
      have hgl:=cK c R (p+1)
      refine(show ∃ l,hdr c R (p+1)=l from⟨_,rfl⟩).elim fun cells hcl=>?_
      rw[hcl]at hHd hgi hgt hgl
      have hggi:∀ h:i<cells.length,cells[i]'h=.own (i+(p+1)) 0 c 2:=fun h=>Bg ((Aa h).symm.trans hgi)
      have hggt:∀ h:top<cells.length,cells[top]'h=.own (top+(p+1)) 0 c 2:=fun h=>Bg ((Aa h).symm.trans hgt)
      refine(hF.rd hs hi hgo.1).hd.elim fun vi hh=>?_
      have hHi:=hh.1
      have hvi:=hh.2.1
      have hri:=hh.2.2
      clear hh
      refine(hF.rd hs hgo.2 hgo.1).hd.elim fun vt hh=>?_
      have hHt:=hh.1
      have hvt:=hh.2.1
      have hrt:=hh.2.2
      clear hh
      have hbc:col*2+2≤c*2:=by omega
      have hg1:=hgo.1
      have hg2:=hgo.2
      have hsgi:=eX (ent w.M i col)
      have hsgt:=eX (ent w.M top col)
      refine(show ∃ y,ent w.M i col=y from⟨_,rfl⟩).elim fun y hy=>?_
      refine(show ∃ x,ent w.M top col=x from⟨_,rfl⟩).elim fun x hx=>?_
      rw[hy]at hri hsgi
      rw[hx]at hrt hsgt
      by_cases hy0:y=0
      ·have hys:(y.sign != 0)=false:=by simp[hy0]
       have e:=heu.end (hy.trans hy0)
       simp[-map_map,-mapM_map,↓KW,hH3,hHd,hgi,hgt,hgl,hggi,hggt,hHi,hHt,hvi,hvt,hri,hrt,hbc,hg1,hg2,hi,hys,aD,aK,aM,bE,bC]
       refine aA (ds:=[encZ y]) (by rfl) hsgi ?_
       simp[-map_map,-mapM_map,↓KW,hH3,hHd,hgi,hgt,hgl,hggi,hggt,hHi,hHt,hvi,hvt,hri,hrt,hbc,hg1,hg2,hi,hys,aD,aK,aM,bE,bC,hw3]
       refine aJ (i+1,w,H) ⟨e ▸ hei2,by omega,hi,hHg⟩ (by omega) ?_
       subst hHg
       have e:=fO (p:=p) (q:=q) (r:=r) hpl hs
       refine lL hF hs (by omega) (by omega) h2 h3 hprf ?_
       simp[-map_map,upd,aT,Γ0,e.1,e.2.1,e.2.2.1,e.2.2.2.1,e.2.2.2.2.1,e.2.2.2.2.2]
      ·have hys:(y.sign != 0)=true:=by simp[hy0]
       simp[-map_map,-mapM_map,↓KW,hH3,hHd,hgi,hgt,hgl,hggi,hggt,hHi,hHt,hvi,hvt,hri,hrt,hbc,hg1,hg2,hi,hys,aD,aK,aM,bE,bC]
       refine aA (ds:=[encZ y]) (by rfl) hsgi ?_
       simp[-map_map,-mapM_map,↓KW,hH3,hHd,hgi,hgt,hgl,hggi,hggt,hHi,hHt,hvi,hvt,hri,hrt,hbc,hg1,hg2,hi,hys,aD,aK,aM,bE,bC]
       refine aA (ds:=[encZ x]) (by rfl) hsgt ?_
       by_cases hx0:x=0
       ·have hxs:(x.sign != 0)=false:=by simp[hx0]
        have hsw:=aTu hs (by omega) hc hgo.2 hi
        have hS:euS R c col top i w=w.sw R c top i:=by unfold euS euT;rw[Ag (hx.trans hx0)]
        have heu2:=heu.next (fun h=>hy0 (hy.symm.trans h))
        have hless:=Eu.less (w:=w) hgo.1 hti hi (fun h=>hy0 (hy.symm.trans h))
        rw[hS]at heu2 hless
        simp[-map_map,-mapM_map,↓KW,hH3,hHd,hgi,hgt,hgl,hggi,hggt,hHi,hHt,hvi,hvt,hri,hrt,hbc,hg1,hg2,hi,hys,aD,aK,aM,bE,bC,hxs]
        refine tI (pre:=pre) (w:=w) (w':=w.sw R c top i) (fun _ _=>by first|rfl|exact oJ _ _ _ _ _) (by simp) (by rw[hpl];rfl) hF hprf hs (by omega) h2 h3 (by simp only;omega) (by rfl) (by rfl) (W3.sw_sh ..) hsw ?_
        intro l H' p' q' r' n' hl g1 g2 g3 g4 hF'
        have hl1:=hl 1 (by omega)
        have hl2:=hl 2 (by omega)
        have hl3:=hl 3 (by omega)
        refine aJ (w.sw R c top i,kP pre R c (w.sw R c top i).M (w.sw R c top i).U (w.sw R c top i).V) ⟨heu2,rfl⟩ hless ?_
        have e:=fO (p:=p') (q:=q') (r:=r') hpl (W3.sw_sh R c w top i)
        refine lL hF' (W3.sw_sh R c w top i) (by omega) (by omega) g2 g3 hprf ?_
        simp[-map_map,upd,aT,Γ0,e.1,e.2.1,e.2.2.1,e.2.2.2.1,e.2.2.2.2.1,e.2.2.2.2.2,hl1,hl2,hl3]
       ·have hxs:(x.sign != 0)=true:=by simp[hx0]
        simp[-map_map,-mapM_map,↓KW,hH3,hHd,hgi,hgt,hgl,hggi,hggt,hHi,hHt,hvi,hvt,hri,hrt,hbc,hg1,hg2,hi,hys,aD,aK,aM,bE,bC,hxs]
        have hq:=aFv x y hy0 (by rw[←hx];exact ok.m _ _) (by rw[←hy];exact ok.m _ _)
        have hqs:Sd (x/y):=Ap (dW (Dt x y)) (by rw[←hx];exact ok.m _ _)
        have hS:euS R c col top i w=(w.add R c top i (-(x/y))).sw R c top i:=by unfold euS euT;rw[Ae (fun h=>hx0 (hx.symm.trans h)),hx,hy]
        have heu2:=heu.next (fun h=>hy0 (hy.symm.trans h))
        have hless:=Eu.less (w:=w) hgo.1 hti hi (fun h=>hy0 (hy.symm.trans h))
        rw[hS]at heu2 hless
        refine(show ∃ qq,x/y=qq from⟨_,rfl⟩).elim fun qq hqq=>?_
        refine(show ∃ rr,x%y=rr from⟨_,rfl⟩).elim fun rr hrr=>?_
        rw[hqq,hrr]at hq
        rw[hqq]at hqs heu2 hless
        have hng:=mX qq (Ap hqs (by decide))
        have hsn:Sd (-qq):=by unfold Sd;rw[CF];exact hqs
        refine(show ∃ nq,-qq=nq from⟨_,rfl⟩).elim fun nq hnq=>?_
        rw[hnq]at hng hsn heu2 hless
        have hs2:(w.add R c top i nq).sh R c:=W3.add_sh ..
        have had:=aBo hs (by omega) hc hgo.2 hi (fQ hsn) (fun r t=>fQ (ok.m r t)) (fun r t=>fQ (ok.u r t)) (fun r t=>fQ (ok.v r t))
        have hsw:=aTu hs2 (by omega) hc hgo.2 hi
        refine aA (ds:=[encZ x,encZ y]) (by rfl) hq ?_
        simp[-map_map,-mapM_map,↓KW,bF,hH3,hHd,hgi,hgt,hgl,hggi,hggt,hHi,hHt,hvi,hvt,hri,hrt,hbc,hg1,hg2,hi,hys,aD,aK,aM,bE,bC]
        refine aA (ds:=[encZ qq]) (by rfl) hng ?_
        simp[-map_map,-mapM_map,↓KW,bF,hH3,hHd,hgi,hgt,hgl,hggi,hggt,hHi,hHt,hvi,hvt,hri,hrt,hbc,hg1,hg2,hi,hys,aD,aK,aM,bE,bC]
        refine tI (pre:=pre) (w:=w) (w':=w.add R c top i nq) (ds:=[.i .i64 (top:Int),.i .i64 (i:Int),encZ nq]) (fun _ _=>by first|rfl|exact oJ _ _ _ _ _) (by simp) (by rw[hpl];rfl) ((((hF.upd hs (by omega) h2 h3 (by omega)).upd hs (by omega) h2 h3 (by omega)).upd hs (by omega) h2 h3 (by omega)).upd hs (by omega) h2 h3 (by omega)) hprf hs (by omega) h2 h3 (by simp only;omega) (by rfl) (by rfl) hs2 had ?_
        intro l H' p' q' r' n' hl g1 g2 g3 g4 hF'
        have hl1:=hl 1 (by omega)
        have hl2:=hl 2 (by omega)
        have hl3:=hl 3 (by omega)
        simp[-map_map,-mapM_map,↓KW,hl1,hl2,hl3]
        refine tI (pre:=pre) (w:=w.add R c top i nq) (w':=(w.add R c top i nq).sw R c top i) (ds:=[.i .i64 (top:Int),.i .i64 (i:Int)]) (fun _ _=>by first|rfl|exact oJ _ _ _ _ _) (by simp) (by rw[hpl];rfl) hF' hprf hs2 (by omega) g2 g3 g4 (by rfl) (by rfl) (W3.sw_sh ..) hsw ?_
        intro l2 H2 p2 q2 r2 n2 kl k1 k2 k3 k4 kF
        have kl1:=kl 1 (by omega)
        have kl2:=kl 2 (by omega)
        have kl3:=kl 3 (by omega)
        refine aJ ((w.add R c top i nq).sw R c top i,kP pre R c ((w.add R c top i nq).sw R c top i).M ((w.add R c top i nq).sw R c top i).U ((w.add R c top i nq).sw R c top i).V) ⟨heu2,rfl⟩ hless ?_
        have e:=fO (p:=p2) (q:=q2) (r:=r2) hpl (W3.sw_sh R c (w.add R c top i nq) top i)
        refine lL kF (W3.sw_sh R c (w.add R c top i nq) top i) (by omega) (by omega) k2 k3 hprf ?_
        simp[-map_map,upd,aT,Γ0,e.1,e.2.1,e.2.2.1,e.2.2.2.1,e.2.2.2.2.1,e.2.2.2.2.2,hl1,hl2,hl3,kl1,kl2,kl3]
    ·have hq3:¬(i:Int)<R:=by omega
     have e:=hei.end hi
     have ok:=hei.ok
     have hHd:=hF.w.hdrM hs
     have hgt:=dC (c:=c) (b:=p+1) hgo.2
     have hgl:=cK c R (p+1)
     refine(show ∃ l,hdr c R (p+1)=l from⟨_,rfl⟩).elim fun cells hcl=>?_
     rw[hcl]at hHd hgt hgl
     have hggt:∀ h:top<cells.length,cells[top]'h=.own (top+(p+1)) 0 c 2:=fun h=>Bg ((Aa h).symm.trans hgt)
     refine(hF.rd hs hgo.2 hgo.1).hd.elim fun vt hh=>?_
     have hHt:=hh.1
     have hvt:=hh.2.1
     have hrt:=hh.2.2
     clear hh
     have hbc:col*2+2≤c*2:=by omega
     have hg1:=hgo.1
     have hg2:=hgo.2
     have hsgt:=eX (ent w.M top col)
     have hrest':=hrest
     rw[←e]at hrest'
     refine(show ∃ x,ent w.M top col=x from⟨_,rfl⟩).elim fun x hx=>?_
     rw[hx]at hrt hsgt hrest'
     simp[-map_map,-mapM_map,↓KW,hq3,hi,hH1]
     simp[-map_map,-mapM_map,↓KW,hH3,hHd,hgt,hgl,hggt,hHt,hvt,hrt,hbc,hg1,hg2,aD,aK,aM,bE,bC]
     refine aA (ds:=[encZ x]) (by rfl) hsgt ?_
     by_cases hx0:x=0
     ·have hxs:(x.sign==0)=true:=by simp[hx0]
      have hfo:=(hrest'.resolve_right fun h=>h.1 hx0).2
      simp[-map_map,-mapM_map,↓KW,hH3,hHd,hgt,hgl,hggt,hHt,hvt,hrt,hbc,hg1,hg2,aD,aK,aM,bE,bC,hxs,hw2]
      refine aJ (col+1,top,w,H) ⟨hfo,hgo.1,htb,hHg⟩ (by omega) ?_
      subst hHg
      have e:=fO (p:=p) (q:=q) (r:=r) hpl hs
      refine lL hF hs (by omega) (by omega) h2 h3 hprf ?_
      simp[-map_map,upd,aT,Γ0,e.1,e.2.1,e.2.2.1,e.2.2.2.1,e.2.2.2.2.1,e.2.2.2.2.2]
     ·have hxs:(x.sign==0)=false:=by simp[hx0]
      refine(hrest'.resolve_left fun h=>hx0 h.1).2.elim fun w2 hh=>?_
      have hrd0:=hh.1
      have hfo:=hh.2
      clear hh
      simp[-map_map,-mapM_map,↓KW,hH3,hHd,hgt,hgl,hggt,hHt,hvt,hrt,hbc,hg1,hg2,aD,aK,aM,bE,bC,hxs]
      refine aA (ds:=[encZ x]) (by rfl) hsgt ?_
      by_cases hxn:x<0
      ·have hxl:x.sign<0:=by rw[Int.sign_eq_neg_one_of_neg hxn];decide
       have hng:=aXj hs (by omega) hc hgo.2 (fun r t=>fQ (ok.m r t)) (fun r t=>fQ (ok.u r t)) (fun r t=>fQ (ok.v r t))
       have hS:ngS R c col top w=w.ng R c top:=by unfold ngS;rw[hx,Ag hxn]
       have hx1:ent (w.ng R c top).M top col≠0:=by
        have:=aIt (w:=w) hgo.1 hgo.2 hgo.2
        rw[hS,hx]at this
        exact fun h=>hx0 (this.1 h)
       rw[hS]at hrd0
       simp[-map_map,-mapM_map,↓KW,hH3,hHd,hgt,hgl,hggt,hHt,hvt,hrt,hbc,hg1,hg2,aD,aK,aM,bE,bC,hxl]
       refine tI (pre:=pre) (w:=w) (w':=w.ng R c top) (ds:=[.i .i64 (top:Int)]) (fun _ _=>by first|rfl|exact oJ _ _ _ _ _) (by simp) (by rw[hpl];rfl) hF hprf hs (by omega) h2 h3 (by simp only;omega) (by rfl) (by rfl) (W3.ng_sh ..) hng ?_
       intro l H' p' q' r' n' hl g1 g2 g3 g4 hF'
       have hl1:=hl 1 (by omega)
       have hl2:=hl 2 (by omega)
       have hl3:=hl 3 (by omega)
       simp[-map_map,-mapM_map,↓KW,hl1,hl2,hl3]
       refine aU (fun x:Nat×W3×(Nat→Option HO)=>Rd R c col top x.1 x.2.1 w2∧x.1≤top∧ent x.2.1.M top col≠0∧kP pre R c x.2.1.M x.2.1.U x.2.1.V=x.2.2) (fun x=>⟨iT [(1,.ptr 1 0),(2,.ptr 2 0),(3,.ptr 3 0),(4,.d (.i .i64 (top:Int))),(5,.d (.i .i64 (col:Int))),(10,.d (.i .i64 (x.1:Int)))],x.2.2,3+3*R+4⟩) (fun x=>top-x.1) (0,w.ng R c top,kP pre R c (w.ng R c top).M (w.ng R c top).U (w.ng R c top).V) ⟨hrd0,An _,hx1,rfl⟩ ?_ ?_
       ·have e:=fO (p:=p') (q:=q') (r:=r') hpl (W3.ng_sh R c w top)
        refine lL hF' (W3.ng_sh R c w top) (by omega) (by omega) g2 g3 hprf ?_
        simp[-map_map,upd,aT,Γ0,e.1,e.2.1,e.2.2.1,e.2.2.2.1,e.2.2.2.2.1,e.2.2.2.2.2,hl1,hl2,hl3]
       ·clear hH3 hHd hgt hgl hggt hHt hvt hrt hF h1 h2 h3 h4 hs hHg hx hsgt hei
        rintro⟨i,w,H⟩ ⟨hrd,hit,hxc,hHg⟩
        simp only at hrd hit hxc hHg
        have ok:=hrd.ok
        have hs:=ok.sh
        refine(aDx (pre:=pre) hs hHg).elim fun p hh=>hh.elim fun q hh=>hh.elim fun r hh=>?_
        have h1:=hh.1
        have h2:=hh.2.1
        have h3:=hh.2.2.1
        have h4:=hh.2.2.2.1
        have hF:=hh.2.2.2.2
        rw[hpl]at h1 h4
        clear hh
        have hH3:=hF.root2 hpl
        by_cases hig:i<top
        ·have q5:(i:Int)<top:=by omega
         have hi:i<R:=by omega
         have hw5:Ah.wrap ((i:Int)+1)=(i:Int)+1:=aR (by omega) (by omega)
         have hHd:=hF.w.hdrM hs
         have hgi:=dC (c:=c) (b:=p+1) hi
         have hgt:=dC (c:=c) (b:=p+1) hgo.2
         have hgl:=cK c R (p+1)
         refine(show ∃ l,hdr c R (p+1)=l from⟨_,rfl⟩).elim fun cells hcl=>?_
         rw[hcl]at hHd hgi hgt hgl
         have hggi:∀ h:i<cells.length,cells[i]'h=.own (i+(p+1)) 0 c 2:=fun h=>Bg ((Aa h).symm.trans hgi)
         have hggt:∀ h:top<cells.length,cells[top]'h=.own (top+(p+1)) 0 c 2:=fun h=>Bg ((Aa h).symm.trans hgt)
         refine(hF.rd hs hi hgo.1).hd.elim fun vi hh=>?_
         have hHi:=hh.1
         have hvi:=hh.2.1
         have hri:=hh.2.2
         clear hh
         refine(hF.rd hs hgo.2 hgo.1).hd.elim fun vt hh=>?_
         have hHt:=hh.1
         have hvt:=hh.2.1
         have hrt:=hh.2.2
         clear hh
         have hnext:=hrd.next hig
         have hxn:ent (rdS R c col top i w).M top col≠0:=by
          show ent (qD R c w.M i top _) top col≠0
          rw[gO hgo.2 hgo.1,Ae (by omega)];exact hxc
         have hS:rdS R c col top i w=w.add R c i top (-(ent w.M i col/ent w.M top col)):=rfl
         have hyd:Sd (ent w.M i col):=ok.m i col
         have hxd:Sd (ent w.M top col):=ok.m top col
         have hqs:Sd (ent w.M i col/ent w.M top col):=Ap (dW (Dt _ _)) hyd
         have hfl:=aLs (ent w.M i col) (ent w.M top col) hxc hyd hxd
         have hng:=mX (ent w.M i col/ent w.M top col) (Ap hqs (by decide))
         refine(show ∃ nq,-(ent w.M i col/ent w.M top col)=nq from⟨_,rfl⟩).elim fun nq hnq=>?_
         have hsn:Sd nq:=by rw[←hnq];unfold Sd;rw[CF];exact hqs
         rw[hnq]at hng hS
         rw[hS]at hnext hxn
         refine(show ∃ qq,ent w.M i col/ent w.M top col=qq from⟨_,rfl⟩).elim fun qq hqq=>?_
         rw[hqq]at hng hfl
         refine(show ∃ y,ent w.M i col=y from⟨_,rfl⟩).elim fun y hy=>?_
         refine(show ∃ x,ent w.M top col=x from⟨_,rfl⟩).elim fun x hx=>?_
         rw[hy]at hri hfl
         rw[hx]at hrt hfl
         have hs2:(w.add R c i top nq).sh R c:=W3.add_sh ..
         have had:=aBo hs (by omega) hc hi hgo.2 (fQ hsn) (fun r t=>fQ (ok.m r t)) (fun r t=>fQ (ok.u r t)) (fun r t=>fQ (ok.v r t))
         have hbc:col*2+2≤c*2:=by omega
         have hg1:=hgo.1
         have hg2:=hgo.2
         simp[-map_map,-mapM_map,↓KW,q5,hig,hH3,hHd,hgi,hgt,hgl,hggi,hggt,hHi,hHt,hvi,hvt,hri,hrt,hbc,hg1,hg2,hi,aD,aK,aM,bE,bC]
         refine aA (ds:=[encZ y,encZ x]) (by rfl) hfl ?_
         simp[-map_map,-mapM_map,↓KW,bF,hH3,hHd,hgi,hgt,hgl,hggi,hggt,hHi,hHt,hvi,hvt,hri,hrt,hbc,hg1,hg2,hi,aD,aK,aM,bE,bC]
         refine aA (ds:=[encZ qq]) (by rfl) hng ?_
         simp[-map_map,-mapM_map,↓KW,bF,hH3,hHd,hgi,hgt,hgl,hggi,hggt,hHi,hHt,hvi,hvt,hri,hrt,hbc,hg1,hg2,hi,aD,aK,aM,bE,bC]
         refine tI (pre:=pre) (w:=w) (w':=w.add R c i top nq) (ds:=[.i .i64 (i:Int),.i .i64 (top:Int),encZ nq]) (fun _ _=>by first|rfl|exact oJ _ _ _ _ _) (by simp) (by rw[hpl];rfl) hF hprf hs (by omega) h2 h3 (by simp only;omega) (by rfl) (by rfl) hs2 had ?_
         intro l H' p' q' r' n' hl g1 g2 g3 g4 hF'
         have hl1:=hl 1 (by omega)
         have hl2:=hl 2 (by omega)
         have hl3:=hl 3 (by omega)
         simp[-map_map,-mapM_map,↓KW,hl1,hl2,hl3,hw5]
         refine aJ (i+1,w.add R c i top nq,kP pre R c (w.add R c i top nq).M (w.add R c i top nq).U (w.add R c i top nq).V) ⟨hnext,hig,hxn,rfl⟩ (by omega) ?_
         have e:=fO (p:=p') (q:=q') (r:=r') hpl hs2
         refine lL hF' hs2 (by omega) (by omega) g2 g3 hprf ?_
         simp[-map_map,upd,aT,Γ0,e.1,e.2.1,e.2.2.1,e.2.2.2.1,e.2.2.2.2.1,e.2.2.2.2.2,hl1,hl2,hl3]
        ·have q5:¬(i:Int)<top:=by omega
         have e:=hrd.end hig
         simp[-map_map,-mapM_map,↓KW,q5,hig,hw1,hw2]
         refine aJ (col+1,top+1,w,H) ⟨e ▸ hfo,hgo.1,hgo.2,hHg⟩ (by omega) ?_
         subst hHg
         have e:=fO (p:=p) (q:=q) (r:=r) hpl hs
         refine lL hF hs (by omega) (by omega) h2 h3 hprf ?_
         simp[-map_map,upd,aT,Γ0,e.1,e.2.1,e.2.2.1,e.2.2.2.1,e.2.2.2.2.1,e.2.2.2.2.2]
      ·have hxl:¬x.sign<0:=by
        have:=Int.sign_nonneg_iff.2 (show 0≤x by omega)
        omega
       have hS:ngS R c col top w=w:=by unfold ngS;rw[hx,Ae hxn]
       rw[hS]at hrd0
       simp[-map_map,-mapM_map,↓KW,hH3,hHd,hgt,hgl,hggt,hHt,hvt,hrt,hbc,hg1,hg2,aD,aK,aM,bE,bC,hxl]
       refine aU (fun x:Nat×W3×(Nat→Option HO)=>Rd R c col top x.1 x.2.1 w2∧x.1≤top∧ent x.2.1.M top col≠0∧kP pre R c x.2.1.M x.2.1.U x.2.1.V=x.2.2) (fun x=>⟨iT [(1,.ptr 1 0),(2,.ptr 2 0),(3,.ptr 3 0),(4,.d (.i .i64 (top:Int))),(5,.d (.i .i64 (col:Int))),(10,.d (.i .i64 (x.1:Int)))],x.2.2,3+3*R+4⟩) (fun x=>top-x.1) (0,w,H) ⟨hrd0,An _,fun h=>hx0 (hx.symm.trans h),hHg⟩ ?_ ?_
       ·subst hHg
        have e:=fO (p:=p) (q:=q) (r:=r) hpl hs
        refine lL hF hs (by omega) (by omega) h2 h3 hprf ?_
        simp[-map_map,upd,aT,Γ0,e.1,e.2.1,e.2.2.1,e.2.2.2.1,e.2.2.2.2.1,e.2.2.2.2.2]
       ·clear hH3 hHd hgt hgl hggt hHt hvt hrt hF h1 h2 h3 h4 hs hHg hx hsgt hei
        rintro⟨i,w,H⟩ ⟨hrd,hit,hxc,hHg⟩
        simp only at hrd hit hxc hHg
        have ok:=hrd.ok
        have hs:=ok.sh
        refine(aDx (pre:=pre) hs hHg).elim fun p hh=>hh.elim fun q hh=>hh.elim fun r hh=>?_
        have h1:=hh.1
        have h2:=hh.2.1
        have h3:=hh.2.2.1
        have h4:=hh.2.2.2.1
        have hF:=hh.2.2.2.2
        rw[hpl]at h1 h4
        clear hh
        have hH3:=hF.root2 hpl
        by_cases hig:i<top
        ·have q5:(i:Int)<top:=by omega
         have hi:i<R:=by omega
         have hw5:Ah.wrap ((i:Int)+1)=(i:Int)+1:=aR (by omega) (by omega)
         have hHd:=hF.w.hdrM hs
         have hgi:=dC (c:=c) (b:=p+1) hi
         have hgt:=dC (c:=c) (b:=p+1) hgo.2
         have hgl:=cK c R (p+1)
         refine(show ∃ l,hdr c R (p+1)=l from⟨_,rfl⟩).elim fun cells hcl=>?_
         rw[hcl]at hHd hgi hgt hgl
         have hggi:∀ h:i<cells.length,cells[i]'h=.own (i+(p+1)) 0 c 2:=fun h=>Bg ((Aa h).symm.trans hgi)
         have hggt:∀ h:top<cells.length,cells[top]'h=.own (top+(p+1)) 0 c 2:=fun h=>Bg ((Aa h).symm.trans hgt)
         refine(hF.rd hs hi hgo.1).hd.elim fun vi hh=>?_
         have hHi:=hh.1
         have hvi:=hh.2.1
         have hri:=hh.2.2
         clear hh
         refine(hF.rd hs hgo.2 hgo.1).hd.elim fun vt hh=>?_
         have hHt:=hh.1
         have hvt:=hh.2.1
         have hrt:=hh.2.2
         clear hh
         have hnext:=hrd.next hig
         have hxn:ent (rdS R c col top i w).M top col≠0:=by
          show ent (qD R c w.M i top _) top col≠0
          rw[gO hgo.2 hgo.1,Ae (by omega)];exact hxc
         have hS:rdS R c col top i w=w.add R c i top (-(ent w.M i col/ent w.M top col)):=rfl
         have hyd:Sd (ent w.M i col):=ok.m i col
         have hxd:Sd (ent w.M top col):=ok.m top col
         have hqs:Sd (ent w.M i col/ent w.M top col):=Ap (dW (Dt _ _)) hyd
         have hfl:=aLs (ent w.M i col) (ent w.M top col) hxc hyd hxd
         have hng:=mX (ent w.M i col/ent w.M top col) (Ap hqs (by decide))
         refine(show ∃ nq,-(ent w.M i col/ent w.M top col)=nq from⟨_,rfl⟩).elim fun nq hnq=>?_
         have hsn:Sd nq:=by rw[←hnq];unfold Sd;rw[CF];exact hqs
         rw[hnq]at hng hS
         rw[hS]at hnext hxn
         refine(show ∃ qq,ent w.M i col/ent w.M top col=qq from⟨_,rfl⟩).elim fun qq hqq=>?_
         rw[hqq]at hng hfl
         refine(show ∃ y,ent w.M i col=y from⟨_,rfl⟩).elim fun y hy=>?_
         refine(show ∃ x,ent w.M top col=x from⟨_,rfl⟩).elim fun x hx=>?_
         rw[hy]at hri hfl
         rw[hx]at hrt hfl
         have hs2:(w.add R c i top nq).sh R c:=W3.add_sh ..
         have had:=aBo hs (by omega) hc hi hgo.2 (fQ hsn) (fun r t=>fQ (ok.m r t)) (fun r t=>fQ (ok.u r t)) (fun r t=>fQ (ok.v r t))
         have hbc:col*2+2≤c*2:=by omega
         have hg1:=hgo.1
         have hg2:=hgo.2
         simp[-map_map,-mapM_map,↓KW,q5,hig,hH3,hHd,hgi,hgt,hgl,hggi,hggt,hHi,hHt,hvi,hvt,hri,hrt,hbc,hg1,hg2,hi,aD,aK,aM,bE,bC]
         refine aA (ds:=[encZ y,encZ x]) (by rfl) hfl ?_
         simp[-map_map,-mapM_map,↓KW,bF,hH3,hHd,hgi,hgt,hgl,hggi,hggt,hHi,hHt,hvi,hvt,hri,hrt,hbc,hg1,hg2,hi,aD,aK,aM,bE,bC]
         refine aA (ds:=[encZ qq]) (by rfl) hng ?_
         simp[-map_map,-mapM_map,↓KW,bF,hH3,hHd,hgi,hgt,hgl,hggi,hggt,hHi,hHt,hvi,hvt,hri,hrt,hbc,hg1,hg2,hi,aD,aK,aM,bE,bC]
         refine tI (pre:=pre) (w:=w) (w':=w.add R c i top nq) (ds:=[.i .i64 (i:Int),.i .i64 (top:Int),encZ nq]) (fun _ _=>by first|rfl|exact oJ _ _ _ _ _) (by simp) (by rw[hpl];rfl) hF hprf hs (by omega) h2 h3 (by simp only;omega) (by rfl) (by rfl) hs2 had ?_
         intro l H' p' q' r' n' hl g1 g2 g3 g4 hF'
         have hl1:=hl 1 (by omega)
         have hl2:=hl 2 (by omega)
         have hl3:=hl 3 (by omega)
         simp[-map_map,-mapM_map,↓KW,hl1,hl2,hl3,hw5]
         refine aJ (i+1,w.add R c i top nq,kP pre R c (w.add R c i top nq).M (w.add R c i top nq).U (w.add R c i top nq).V) ⟨hnext,hig,hxn,rfl⟩ (by omega) ?_
         have e:=fO (p:=p') (q:=q') (r:=r') hpl hs2
         refine lL hF' hs2 (by omega) (by omega) g2 g3 hprf ?_
         simp[-map_map,upd,aT,Γ0,e.1,e.2.1,e.2.2.1,e.2.2.2.1,e.2.2.2.2.1,e.2.2.2.2.2,hl1,hl2,hl3]
        ·have q5:¬(i:Int)<top:=by omega
         have e:=hrd.end hig
         simp[-map_map,-mapM_map,↓KW,q5,hig,hw1,hw2]
         refine aJ (col+1,top+1,w,H) ⟨e ▸ hfo,hgo.1,hgo.2,hHg⟩ (by omega) ?_
         subst hHg
         have e:=fO (p:=p) (q:=q) (r:=r) hpl hs
         refine lL hF hs (by omega) (by omega) h2 h3 hprf ?_
         simp[-map_map,upd,aT,Γ0,e.1,e.2.1,e.2.2.1,e.2.2.2.1,e.2.2.2.2.1,e.2.2.2.2.2]
  ·have e:=hf.end hgo
   subst e
   have hu:∀{c' m:Nat} {N:List (List Int)} (x:Option HO),3<m→(∀(i:Nat) o,(mB c' N m)[i]? = some o→H (i+m)=some o)→∀(i:Nat) o,(mB c' N m)[i]? = some o→upd H 2 x (i+m)=some o:=fun x hm h i o ho=>by
    rw[dD _ _ (by omega)];exact h i o ho
   have f1:=fun x k=>aIz (H:=upd H 2 x) k hs.m (hu x (by omega) hF.w.m)
   have f2:=fun x k=>aIz (H:=upd H 2 x) k hs.u (hu x (by omega) hF.w.u)
   have f3:=fun x k=>aIz (H:=upd H 2 x) k hs.v (hu x (by omega) hF.w.v)
   by_cases q1:col<c
   ·have q2:¬top<R:=fun h=>hgo ⟨q1,h⟩
    have q1':(col:Int)<c:=by omega
    have q2':¬(top:Int)<R:=by omega
    simp[-map_map,-mapM_map,↓KW,q1,q1',q2,q2',hH1,hH2,hH3,f1,f2,f3,-iS]
    rfl
   ·have q1':¬(col:Int)<c:=by omega
    simp[-map_map,-mapM_map,↓KW,q1,q1',hH1,hH2,hH3,f1,f2,f3,-iS]
    rfl
end Go.Am
end

section
set_option linter.unusedVariables false
set_option linter.unusedSimpArgs false
open List (map_map mapM_map)
open Go Go.Am Go.Proofs
namespace Go.Am
def pvF:Nat→List Int→Int
 |_,[]=>-1
 |k,z::l=>if z=0 then pvF (k+1) l else(k:Int)
def aQj(v:List Int):Int:=pvF 0 v
theorem cAm{z:Int}(h:z=0):(z.sign != 0)=false:=by rw[h];rfl
theorem cAl{z:Int}(h:¬z=0):(z.sign != 0)=true:=by
 have:z.sign≠0:=fun e=>h (CY.1 e)
 simpa using this
set_option maxHeartbeats 1000000 in
set_option maxRecDepth 10000 in
theorem bCt(v:List Int)(hl:v.length≤1000000):Spec Tryz.prog 136 [bO v] (.i .i64 (aQj v)):=by
 refine aZ (N:=17) aI Tryz.func136 rfl rfl rfl (by kernel_rfl) (by kernel_rfl) (by simp) ?_
 simp[-map_map,-mapM_map,↓KW,bO]
 refine aU (fun i:Nat=>i≤v.length∧pvF i (v.drop i)=aQj v) (fun i=>StL [(0,.d (bO v)),(3,.d (.i .i64 (i:Int)))] none []) (fun i=>v.length-i) 0 ⟨An _,rfl⟩ ?_ ?_
 ·refine aY [] (by simp) ?_ ?_<;>simp[-map_map,upd,aT,Γ0,bO,bY]
 ·intro i ⟨hi,hp⟩
  by_cases hgo:i<v.length
  ·have q1:(i:Int)<v.length:=by omega
   have hx:v[i]? = some v[i]:=Aa hgo
   have hw:Ah.wrap ((i:Int)+1)=(i:Int)+1:=aR (by omega) (by omega)
   rw[A2 hgo,pvF]at hp
   generalize v[i]=z at *
   have hS:=eX z
   simp[-map_map,-mapM_map,↓KW,bO,q1,hx,aAl]
   refine aA (ds:=[encZ z]) (by rfl) hS ?_
   by_cases h0:z=0
   ·have hs:=cAm h0
    rw[Ag h0]at hp
    generalize z.sign=sn at *
    simp[-map_map,-mapM_map,↓KW,hw,hs]
    refine aJ (i+1) ⟨hgo,hp⟩ (Ab hgo (Ad _)) (aY [] (by simp) ?_ ?_)<;>simp[-map_map,upd,aT,Γ0,bO,bY]
   ·have hs:=cAl h0
    rw[Ae h0]at hp
    generalize z.sign=sn at *
    simp[-map_map,-mapM_map,↓KW,hw,hs,←hp]
  ·have q1:¬(i:Int)<v.length:=by omega
   rw[Bo (by omega),pvF]at hp
   simp[-map_map,-mapM_map,↓KW,bO,q1,←hp]
def rkR(A:List (List Int)):Nat:=(A.filter fun v=>decide (0≤aQj v)).length
theorem bCf{A:List (List Int)}{i:Nat}(h:i<A.length):rkR (A.take (i+1))=rkR (A.take i)+if 0≤aQj A[i]then 1 else 0:=by
 rw[AJ,Aa h]
 unfold rkR
 rw[BT,Al]
 congr 1
 by_cases e:0≤aQj A[i]<;>simp[e]
theorem bCg(A:List (List Int)):rkR A≤A.length:=List.length_filter_le _ _
theorem aLk(A:List (List Int))(i:Nat):rkR (A.take i)≤i:=Ap (bCg _) (by simp;omega)
set_option maxHeartbeats 1000000 in
set_option maxRecDepth 10000 in
theorem aTv{R c:Nat}{A:List (List Int)}(hA:Sh R c A)(hR:R≤1000)(hc:c≤1000):Spec Tryz.prog 106 [bN R c A] (.i .i64 (rkR A:Int)):=by
 refine aZ (N:=21) aI Tryz.func106 rfl rfl rfl (by kernel_rfl) (by kernel_rfl) (by simp) ?_
 simp[-map_map,-mapM_map,↓KW,bN]
 refine aU (fun i:Nat=>i≤R) (fun i=>StL [(1,.ptr 1 0),(3,.d (.i .i64 (rkR (A.take i):Int))),(4,.d (.i .i64 (i:Int)))] none [.cells 95 [.d (.i .i64 (R:Int)),.d (.i .i64 (c:Int)),.d (.sl (A.map fun v=>[bO v]))]]) (fun i=>R-i) 0 (An _) ?_ ?_
 ·refine aY [1] (by simp) ?_ ?_<;>simp[-map_map,upd,aT,Γ0,rkR]
 ·intro i hi
  have hAl:=hA.len
  by_cases hgo:i<R
  ·have q1:(i:Int)<R:=by omega
   have hgA:i<A.length:=by omega
   have hx:A[i]? = some A[i]:=Aa hgA
   have hw:Ah.wrap ((i:Int)+1)=(i:Int)+1:=aR (by omega) (by omega)
   have htk:=bCf hgA
   have hvl:=hA.row _ (Ak hgA)
   have hrl:=aLk A i
   generalize A[i]=v at *
   generalize rkR (A.take i)=n at *
   have hw2:Ah.wrap ((n:Int)+1)=(n:Int)+1:=aR (by omega) (by omega)
   have hS:=bCt v (by omega)
   have hv2:bO v=.sl (v.map qP):=rfl
   simp[-map_map,-mapM_map,↓KW,q1,hx,hv2]
   refine aA (ds:=[bO v]) (by rfl) hS ?_
   by_cases h0:0≤aQj v
   ·rw[Ag h0]at htk
    simp[-map_map,-mapM_map,↓KW,hw,hw2,h0]
    refine aJ (i+1) hgo (Ab hgo (Ad _)) (aY [1] (by simp) ?_ ?_)<;>simp[-map_map,upd,aT,Γ0,htk]
   ·rw[Ae h0]at htk
    simp[-map_map,-mapM_map,↓KW,hw,hw2,h0]
    refine aJ (i+1) hgo (Ab hgo (Ad _)) (aY [1] (by simp) ?_ ?_)<;>simp[-map_map,upd,aT,Γ0,htk]
  ·have q1:¬(i:Int)<R:=by omega
   rw[Ai (by omega)]
   simp[-map_map,-mapM_map,↓KW,q1]
theorem zE(A:List (List Int)):gE 1 (A.map fun v=>[bO v])=true:=by cases A<;>rfl
set_option maxHeartbeats 1000000 in
set_option maxRecDepth 10000 in
theorem bSl{R c:Nat}{A:List (List Int)}(hA:Sh R c A)(n:Nat)(hn:n≤R)(hR:R≤1000)(hc:c≤1000):Spec Tryz.prog 109 [bN R c A,.i .i64 (n:Int)] (bN n c (A.take n)):=by
 refine aZ (N:=13) aI Tryz.func109 rfl rfl rfl (by kernel_rfl) (by kernel_rfl) (by simp) ?_
 have hAl:=hA.len
 have q1:(n:Int)≤A.length:=by omega
 have q2:n≤A.length:=by omega
 have q3:=zE A
 simp[-map_map,-mapM_map,↓KW,bN,oV,q1,q2,q3,hAl,hn,Cc]
set_option maxHeartbeats 1000000 in
set_option maxRecDepth 10000 in
theorem aLt{R c:Nat}{A:List (List Int)}{wf:W3}(hA:Sh R c A)(hR:R≤15)(hc:c≤1000)(hAs:∀ v∈A,∀ z∈v,Sz z)(hFo:Fo R c 0 0 ⟨A,idM R,idM R⟩ wf)(hw:Sh R c wf.M) :
  Spec Tryz.prog 80 [bN R c A] (bN (rkR wf.M) c (wf.M.take (rkR wf.M))):=by
 refine aZ (N:=12) aI Tryz.func80 rfl rfl rfl (by kernel_rfl) (by kernel_rfl) (by simp) ?_
 have hF:=aTw hA hR hc hAs hFo
 have hK:=aTv hw (by omega) hc
 have hle:rkR wf.M≤R:=by have:=bCg wf.M;rwa [hw.len]at this
 have hT:=bSl hw (rkR wf.M) hle (by omega) hc
 generalize rkR wf.M=k at *
 simp[-map_map,-mapM_map,↓KW,bN]
 refine aA (ds:=[bN R c A]) (by rfl) hF ?_
 simp[-map_map,-mapM_map,↓KW,aDl]
 refine aA (ds:=[bN R c wf.M]) (by rfl) hK ?_
 simp[-map_map,-mapM_map,↓KW,aDl]
 refine aA (ds:=[bN R c wf.M,.i .i64 (k:Int)]) (by rfl) hT ?_
 simp[-map_map,-mapM_map,↓KW,bN]
set_option maxHeartbeats 1000000 in
set_option maxRecDepth 10000 in
theorem aLr{R c:Nat}{A B:List (List Int)}{wf wg:W3}(hA:Sh R c A)(hR:R≤15)(hc:c≤1000)(hAs:∀ v∈A,∀ z∈v,Sz z)(hFo:Fo R c 0 0 ⟨A,idM R,idM R⟩ wf)(hw:Sh R c wf.M)(hu:Sh R R wf.U)
  (hk:rkR wf.M≤R) (hB:wf.U.drop (rkR wf.M)=B) (hBs:∀ v∈B,∀ z∈v,Sz z) (hFg:Fo (R-rkR wf.M) R 0 0 ⟨B,idM (R-rkR wf.M),idM (R-rkR wf.M)⟩ wg) (hg:Sh (R-rkR wf.M) R wg.M) :
  Spec Tryz.prog 74 [bN R c A] (bN (rkR wg.M) R (wg.M.take (rkR wg.M))):=by
 refine aZ (N:=25) aI Tryz.func74 rfl rfl rfl (by kernel_rfl) (by kernel_rfl) (by simp) ?_
 have hF:=aTw hA hR hc hAs hFo
 have hK:=aTv hw (by omega) hc
 have hBh:Sh (R-rkR wf.M) R B:=⟨by rw[←hB,CJ,hu.len],fun v hv=>hu.row v (D8 (hB ▸ hv))⟩
 have hG:=aLt hBh (by omega) (by omega) hBs hFg hg
 have hul:=hu.len
 generalize rkR wf.M=k at *
 have q1:(k:Int)≤wf.U.length:=by omega
 have q2:k≤wf.U.length:=by omega
 have q3:=zE wf.U
 have q5:Cd R (wf.U.map fun v=>[bO v])=wf.U.map fun v=>[bO v]:=Ai (by simp;omega)
 have q4:((R-k:Nat):Int)=(R:Int)-k:=by omega
 have hwr:Ah.wrap ((R:Int)-k)=(R:Int)-k:=aR (by omega) (by omega)
 rw[q4]at hG
 simp[-map_map,-mapM_map,↓KW,bN]
 refine aA (ds:=[bN R c A]) (by rfl) hF ?_
 simp[-map_map,-mapM_map,↓KW,aDl]
 refine aA (ds:=[bN R c wf.M]) (by rfl) hK ?_
 simp[-map_map,-mapM_map,↓KW,aDl,hwr,oV,q1,q2,q3,q5,hul,hk]
 refine aA (ds:=[bN ((R:Int)-k) R B]) (by simp only[←hB,bN,CA];rfl) hG ?_
 simp[-map_map,-mapM_map,↓KW,bN]
end Go.Am
end

section
set_option linter.unusedVariables false
set_option linter.unusedSimpArgs false
open Go Go.Am Go.Proofs
namespace Go.Am
theorem aIm:∀(v:List Int) (k:Nat),0≤pvF k v↔∃ z∈v,z≠0
 |[],k=>by simp[pvF]
 |z::v,k=>by
  unfold pvF
  by_cases h:z=0
  ·rw[Ag h,aIm v (k+1)]
   simp[h]
  ·rw[Ae h]
   exact⟨fun _=>⟨z,Av ..,h⟩,fun _=>by omega⟩
theorem bFx{v:List Int}{t:Nat}(h:v.getD t 0≠0):v.getD t 0∈v:=by
 rw[Ac]at h ⊢
 cases e:v[t]? with
 |none=>rw[e]at h;exact(h rfl).elim
 |some z=>exact Aq e
theorem wJ{v:List Int}{z:Int}(h:z∈v):∃ t,t<v.length∧v.getD t 0=z:=by
 obtain⟨t,ht,e⟩:=Bi h
 exact⟨t,ht,by rw[Ac,Aa ht,e];rfl⟩
theorem aAa{R c k:Nat}{M:List (List Int)}(hM:Sh R c M)(hk:k≤R)(hz:∀ r t,k≤r→r<R→t<c→ent M r t=0)(hn:∀ r,r<k→∃ t,t<c∧ent M r t≠0):rkR M=k:=by
 unfold rkR
 have hl:=hM.len
 have e:(M.take k++M.drop k).filter (fun v=>decide (0≤aQj v))=M.take k:=by
  rw[BT,List.filter_eq_self.2,List.filter_eq_nil_iff.2,Bd]
  ·intro v hv
   obtain⟨i,hi,e⟩:=Bi hv
   rw[List.getElem_drop]at e
   have hi2:k+i<R:=by rw[CJ]at hi;omega
   intro h
   obtain⟨z,hzv,hz0⟩:=(aIm v 0).1 (of_decide_eq_true h)
   obtain⟨t,ht,et⟩:=wJ hzv
   have hvc:v.length=c:=hM.row v (D8 hv)
   refine hz0 ?_
   rw[←et]
   have:=hz (k+i) t (by omega) hi2 (by omega)
   unfold ent at this
   rwa [Ac (l:=M),Aa (by omega),Ba,e]at this
  ·intro v hv
   obtain⟨i,hi,e⟩:=Bi hv
   rw[List.getElem_take]at e
   have hi2:i<k:=by rw[AM]at hi;omega
   obtain⟨t,ht,ht0⟩:=hn i hi2
   unfold ent at ht0
   rw[Ac (l:=M),Aa (by omega),Ba,e]at ht0
   exact BA ((aIm v 0).2 ⟨_,bFx ht0,ht0⟩)
 rw[List.take_append_drop]at e
 rw[e,AM];omega
theorem Be.mem{e:Nat}{M:List (List Int)}(h:Be e M)(he:e<1099511627776):∀ v∈M,∀ z∈v,Sz z:=fun v hv z hz=>by
 obtain⟨i,hi,e1⟩:=Bi hv
 obtain⟨t,ht,e2⟩:=wJ hz
 have:=h.sd he i t
 unfold ent at this
 rw[Ac (l:=M),Aa hi,Ba,e1,e2]at this
 exact Ap this (by decide)
theorem kC(R:Nat):Sh R R (idM R):=iR _ _ _
theorem qM{R r s:Nat}(hr:r<R)(hs:s<R):ent (idM R) r s=if r=s then 1 else 0:=qH _ hr hs
theorem qN(R e:Nat):Be e (idM R):=Be.of (kC R) fun r t hr ht=>by
 rw[qM hr ht]
 have:1≤2^e:=DV
 split<;>simp<;>omega
theorem aJa{R c e:Nat}{A:List (List Int)}(hA:Sh R c A)(hR:R≤15)(hB:Be e A)(he:dbl (tr R) e<1099511627776) :
  ∃ wf k e',Fo R c 0 0 ⟨A,idM R,idM R⟩ wf∧rkR wf.M=k∧k≤R∧wf.sh R c∧B3 e' wf∧dbl (tr (R-k)) e'≤dbl (tr R) e∧vJ R c R wf.U A wf.M∧∀ r t,k≤r→r<R→t<c→ent wf.M r t=0:=by
 have g:Gd R c A e 0 0 ⟨A,idM R,idM R⟩:=⟨⟨hA,kC R,kC R⟩,⟨hB,qN R e,qN R e⟩,fun r t hr ht=>by
  show sgm R (fun j=>ent (idM R) r j*ent A j t)=ent A r t
  rw[←lW hr fun j=>ent A j t]
  refine cF fun j hj=>?_
  rw[qM hr hj]
  by_cases e:r=j
  ·rw[Ag e,Ag e.symm]
  ·rw[Ae e,Ae fun h=>e h.symm],fun r t _ _ h=>by omega,fun r h=>by omega⟩
 obtain⟨w',k,e',h1,h2,h3,h4,h5⟩:=bGe (A:=A) hR c 0 0 e _ (by omega) (An _) g he
 exact⟨w',k,e',h1,aAa h3.sh.m h2 h4 h3.hi,h2,h3.sh,h3.b,h5,h3.eq,h4⟩
theorem aLe(n m:Nat)(f:Nat→Nat→Int):sgm n (fun i=>sgm m (fun j=>f i j))=sgm m (fun j=>sgm n (fun i=>f i j)):=by
 induction n with
 |zero=>exact(vP m).symm
 |succ n ih =>
  show sgm n _+sgm m _=_
  rw[ih,←qA];rfl
theorem aLd(n:Nat)(k:Int)(f:Nat→Int):sgm n (fun j=>f j*k)=sgm n f*k:=by
 rw[BG,←tC]
 exact cF fun j _=>BG _ _
theorem aDi{k r s:Nat}{M:List (List Int)}:ent (M.drop k) r s=ent M (k+r) s:=by
 unfold ent
 rw[Ac (l:=M.drop k),List.getElem?_drop,Ac (l:=M)]
structure aHm(R c E:Nat)(A L:List (List Int)):Prop where
 spec:Spec Tryz.prog 74 [bN R c A] (bN L.length R L)
 len:L.length≤R
 row:∀ v∈L,v.length=R
 be:∀ v∈L,∀ z∈v,z.natAbs≤2^E
 ker:∀ v∈L,∀ t,t<c→sgm R (fun j=>v.getD j 0*ent A j t)=0
/-! No columns -/
theorem aXd{R c i j:Nat}{M:List (List Int)}(h:Sh R c M):qD R c M i j 0=M :=
 (rD h fun r t hr ht=>by unfold aSk;split<;>simp_all).symm
theorem bAf{R i j:Nat}{V:List (List Int)}(h:Sh R R V):aSj R V i j 0=V :=
 (rD h fun r t hr ht=>by unfold bIx;split<;>simp_all).symm
theorem aCp(R:Nat):Ok R R ⟨idM R,idM R,idM R⟩ :=
 have h:B3 0 ⟨idM R,idM R,idM R⟩:=⟨qN R 0,qN R 0,qN R 0⟩
 h.ok ⟨kC R,kC R,kC R⟩ (by decide)
theorem bQy{R col:Nat}(hc:col<R):∀(n i:Nat),n+i=R→col<i→Ei R R col col i ⟨idM R,idM R,idM R⟩ ⟨idM R,idM R,idM R⟩
 |0,i,h,_=>.done i _ (aCp R) (by omega)
 |n+1,i,h,h2=>.go i _ _ _ (by omega) (.done _ (aCp R) (by rw[qM (by omega) hc,Ae (by omega)])) (bQy hc n (i+1) (by omega) (by omega))
theorem bQp{R col:Nat}(hc:col<R):∀(n i:Nat),n+i=col→Rd R R col col i ⟨idM R,idM R,idM R⟩ ⟨idM R,idM R,idM R⟩
 |0,i,h=>.done i _ (aCp R) (by omega)
 |n+1,i,h=>.go i _ _ (aCp R) (by omega) (by
  have e:rdS R R col col i ⟨idM R,idM R,idM R⟩=⟨idM R,idM R,idM R⟩:=by
   unfold rdS W3.add
   simp only
   rw[qM (show i<R by omega) hc,Ae (by omega),Fu,Int.neg_zero,aXd (kC R),bAf (kC R)]
  rw[e]
  exact bQp hc n (i+1) (by omega))
theorem bQu{R:Nat}:∀(n col:Nat),n+col=R→Fo R R col col ⟨idM R,idM R,idM R⟩ ⟨idM R,idM R,idM R⟩
 |0,col,h=>.done col col _ (aCp R) (by omega)
 |n+1,col,h=>by
  have hc:col<R:=by omega
  have h1:ent (idM R) col col=1:=by rw[qM hc hc,Ag rfl]
  refine .piv col col _ _ _ _ hc hc (bQy hc (R-(col+1)) (col+1) (by omega) (by omega)) (by rw[h1];decide) ?_ (bQu n (col+1) (by omega))
  have e:ngS R R col col ⟨idM R,idM R,idM R⟩=⟨idM R,idM R,idM R⟩:=by
   unfold ngS
   rw[h1,Ae (by decide)]
  rw[e]
  exact bQp hc col 0 (by omega)
theorem left_id{R:Nat}{A:List (List Int)}(hA:Sh R 0 A)(hR:R≤15):aHm R 0 0 A (idM R):=by
 have hr0:rkR A=0:=aAa hA (An _) (fun r t _ _ h=>by omega) (fun r h=>by omega)
 have hr1:rkR (idM R)=R:=aAa (kC R) (Az _) (fun r t h1 h2 _=>by omega) (fun r h=>⟨r,h,by rw[qM h h,Ag rfl];decide⟩)
 have hAs:∀ v∈A,∀ z∈v,Sz z:=fun v hv z hz=>by
  have:=hA.row v hv
  rw[Au this]at hz;cases hz
 have hb:B3 0 ⟨A,idM R,idM R⟩:=⟨fun r t=>by rw[xF hA (by omega)];exact An _,qN R 0,qN R 0⟩
 have hIs:=(qN R 0).mem (by decide)
 have hl:(idM R).length=R:=(kC R).len
 have hd:(idM R).drop (rkR A)=idM R:=by rw[hr0];rfl
 have hS:=aLr (B:=idM R) (wf:=⟨A,idM R,idM R⟩) (wg:=⟨idM R,idM R,idM R⟩) hA hR (by decide) hAs (.done 0 0 _ (hb.ok ⟨hA,kC R,kC R⟩ (by decide)) (by omega)) hA (kC R) (by rw[hr0];omega) hd hIs
  (by rw[hr0];exact bQu R 0 rfl) (by rw[hr0];exact kC R)
 have e1:(idM R).take R=idM R:=Ai (by omega)
 simp only[hr1,e1]at hS
 exact⟨by rw[hl];exact hS,by omega,(kC R).row,fun v hv z hz=>by
  obtain⟨r,hr,e2⟩:=Bi hv
  obtain⟨s,hs,e3⟩:=wJ hz
  have:=qN R 0 r s
  unfold ent at this
  rwa [Ac (l:=idM R),Aa hr,Ba,e2,e3]at this,fun v hv t ht=>by omega⟩
end Go.Am
end

section
set_option linter.unusedVariables false
set_option linter.unusedSimpArgs false
open List (map_map mapM_map)
open Go Go.Am Go.Proofs
namespace Go.Am
theorem bMv{a b:List Int}{k:Nat}{z:Int}(hl:a.length=b.length)(hk:k<a.length)(hz:a[k]? = some z):(a.take k++b.drop k).set k z=a.take (k+1)++b.drop (k+1):=by
 have e:k-(a.take k).length=0:=by rw[AM];omega
 rw[List.set_append_right _ _ (by rw[AM];omega),e,A2 (show k<b.length by omega),List.set_cons_zero,AJ,hz];simp
theorem bEa{a b:List Int}{k:Nat}(hl:a.length=b.length)(hk:k<a.length)(hz:a[k]? = b[k]?):a.take k++b.drop k=a.take (k+1)++b.drop (k+1):=by
 rw[AJ,A2 (show k<b.length by omega),hz,Aa (by omega)];simp
theorem iG(ids:List Int)(x:List (Int×Int)):(fG ids x).length=ids.length:=by simp[fG]
theorem iY{ids:List Int}{x:List (Int×Int)}{k:Nat}{q:Int}(h:ids[k]? = some q):(fG ids x)[k]? = some (lv q x):=by simp[fG,h]
theorem bCe(ids:List Int):fG ids []=Ay ids.length 0:=by
 unfold fG
 rw[List.map_eq_replicate_iff.2]
 intro n _;rfl
set_option maxHeartbeats 2000000 in
set_option maxRecDepth 10000 in
theorem bSk(x:List (Int×Int))(ids:List Int)(hl:x.length≤1000000)(hn:ids.length≤1000000):Spec Tryz.prog 83 [aG x,bL ids] (bO (fG ids x)):=by
 refine aZ (N:=42) aI Tryz.func83 rfl rfl rfl (by kernel_rfl) (by kernel_rfl) (by simp) ?_
 have hmx:32*(ids.length:Int)≤281474976710656∧(ids.length:Int)≤9223372036854775807:=by omega
 have hmx2:ids.length≤maxLen:=aW (by omega)
 have hmx3:ids.length*32≤140737488355328:=by omega
 simp[-map_map,-mapM_map,↓KW,aG,bL,hmx,hmx2,hmx3]
 refine aU (fun i:Nat=>i≤x.length) (fun i=>StL [(0,.d (aG x)),(1,.d (bL ids)),(5,.own 1 0 ids.length 2),(6,.d (.i .i64 (i:Int)))] none [.cells 74 ((vcs (fG ids (x.take i))).map .d)]) (fun i=>x.length-i) 0 (An _) ?_ ?_
 ·have hz:=fun(H H':Nat→Option HO) ρ=>aPd (H:=H) (H':=H') (ρ:=ρ) ids.length
  refine aY [1] (by simp) ?_ ?_
  ·simp[-map_map,upd,aT,Γ0,aG,bL]
  ·rw[BZ,bCe]
   exact⟨⟨_,by simp[dT];rfl,eJ.2 ⟨rfl,hz _ _ _⟩⟩,trivial⟩
 ·intro i hi
  by_cases hgo:i<x.length
  ·have q1:(i:Int)<x.length:=by omega
   have hx:x[i]? = some x[i]:=Aa hgo
   have hw:Ah.wrap ((i:Int)+1)=(i:Int)+1:=aR (by omega) (by omega)
   have htk:=fun q=>aIv hgo q
   have hra:=iG ids (x.take i)
   have hrb:=iG ids (x.take (i+1))
   have hrg:=fun(k:Nat) (q:Int) (h:ids[k]? = some q)=>iY (x:=x.take i) h
   have hrg1:=fun(k:Nat) (q:Int) (h:ids[k]? = some q)=>iY (x:=x.take (i+1)) h
   obtain⟨a,ha⟩:∃ a,fG ids (x.take i)=a:=⟨_,rfl⟩
   obtain⟨b,hb⟩:∃ b,fG ids (x.take (i+1))=b:=⟨_,rfl⟩
   rw[ha]at hra hrg
   rw[hb]at hrb hrg1
   simp only[ha]
   generalize x[i]=f at *
   obtain⟨fn,fc⟩:=f
   have hvl:=eO a
   rw[hra]at hvl
   simp[-map_map,-mapM_map,↓KW,aG,bL,q1]
   refine aU (fun k:Nat=>k≤ids.length) (fun k=>StL [(0,.d (aG x)),(1,.d (bL ids)),(5,.own 1 0 ids.length 2),(6,.d (.i .i64 (i:Int))),(7,.d (.i .i64 (k:Int)))] none [.cells 74 ((vcs (b.take k++a.drop k)).map .d)]) (fun k=>ids.length-k) 0 (An _) ?_ ?_
   ·refine aY [1] (by simp) ?_ ?_<;>simp[-map_map,upd,aT,Γ0,aG,bL]
   ·intro k hk
    have hml:(b.take k++a.drop k).length=ids.length:=by rw[Al,AM,CJ];omega
    by_cases hgk:k<ids.length
    ·have q2:(k:Int)<ids.length:=by omega
     have hy:ids[k]? = some ids[k]:=Aa hgk
     have hwk:Ah.wrap ((k:Int)+1)=(k:Int)+1:=aR (by omega) (by omega)
     have hm1:=bMv (a:=b) (b:=a) (k:=k) (z:=fc) (by omega) (by omega)
     have hm2:=bEa (a:=b) (b:=a) (k:=k) (by omega) (by omega)
     have hg1:=hrg k _ hy
     have hg2:=hrg1 k _ hy
     rw[htk]at hg2
     generalize ids[k]=q at *
     have hy':∀ h:k<ids.length,ids[k]'h=q:=fun h=>Bg ((Aa h).symm.trans hy)
     obtain⟨v,hv⟩:∃ v,b.take k++a.drop k=v:=⟨_,rfl⟩
     obtain⟨v',hv'⟩:∃ v,b.take (k+1)++a.drop (k+1)=v:=⟨_,rfl⟩
     rw[hv,hv']at hm1 hm2
     rw[hv]at hml
     simp only[hv]
     have hvc:=eO v
     rw[hml]at hvc
     have hb2:k*2+2≤ids.length*2:=by omega
     have hlay:=kY (v:=v) fc (j:=k) (by omega)
     by_cases h0:q=fn
     ·have h0':((q==fn):Bool)=true:=by simpa using h0
      rw[Ag h0.symm]at hg2
      rw[hm1 hg2]at hlay
      subst h0
      have q3:((q==q):Bool)=true:=by simp
      simp[-map_map,-mapM_map,↓KW,aG,bL,bB,q1,q2,hx,hy,h0',q3,hb2,hvc,hlay,hwk,hgk,hy',aD,aK,aM,bE]
      refine aJ (k+1) hgk (Ab hgk (Ad _)) (aY [1] (by simp) ?_ ?_)<;>simp[-map_map,upd,aT,Γ0,aG,bL,hv',hvc]
     ·have h0':((q==fn):Bool)=false:=by simpa using h0
      rw[Ae fun e=>h0 e.symm]at hg2
      rw[hm2 (hg2.trans hg1.symm)]
      simp[-map_map,-mapM_map,↓KW,aG,bL,bB,q1,q2,hx,hy,h0,h0',hwk,aD,aK,aM,bE]
      refine aJ (k+1) hgk (Ab hgk (Ad _)) (aY [1] (by simp) ?_ ?_)<;>simp[-map_map,upd,aT,Γ0,aG,bL,hv']
    ·have q2:¬(k:Int)<ids.length:=by omega
     have e:b.take k++a.drop k=b:=by rw[Ai (by omega),Bo (by omega),Bd]
     rw[e]
     simp[-map_map,-mapM_map,↓KW,aG,bL,q2,hw]
     refine aJ (i+1) hgo (Ab hgo (Ad _)) (aY [1] (by simp) ?_ ?_)<;>simp[-map_map,upd,aT,Γ0,aG,bL,hb]
  ·have q1:¬(i:Int)<x.length:=by omega
   rw[Ai (by omega)]
   have hfl:=eO (fG ids x)
   have hvl:=iG ids x
   rw[hvl]at hfl
   generalize fG ids x=out at *
   simp[-map_map,-mapM_map,↓KW,aG,bL,bO,q1,hfl,tY hvl,mQ hvl]
theorem aGw{α:Type}{a b:List α}(hl:a.length=b.length)(h:∀ j,j<a.length→a[j]? = b[j]?):a=b:=by
 apply List.ext_getElem?
 intro j
 rcases Bc j a.length with h1|h1
 ·exact h j h1
 ·rw[AG h1,AG (by omega)]
theorem aQh{a b:List Int}(ha:∀ x∈a,Sz x)(hb:∀ x∈b,Sz x)(hla:a.length≤4294967296):Spec Tryz.prog 108 [bO a,bO b] (.b (decide (a=b))):=by
 refine aZ (N:=27) aI Tryz.func108 rfl rfl rfl (by kernel_rfl) (by kernel_rfl) (by simp) ?_
 by_cases hn:a.length=b.length
 rotate_left
 ·have h1:(((a.length:Int) != b.length):Bool)=true:=by simp;omega
  have h2:decide (a=b)=false:=by simp;intro e;rw[e]at hn;exact hn rfl
  simp[-map_map,-mapM_map,↓KW,bO,h1,h2]
 ·have h1:(((a.length:Int) != b.length):Bool)=false:=by simp;omega
  simp[-map_map,-mapM_map,↓KW,bO,h1]
  refine aU (fun i:Nat=>i≤a.length∧∀ j,j<i→a[j]? = b[j]?) (fun i=>StL [(0,.d (bO a)),(1,.d (bO b)),(5,.d (.i .i64 (i:Int)))] none []) (fun i=>a.length-i) 0 ⟨An _,fun j h=>by omega⟩ ?_ ?_
  ·refine aY [] (by simp) ?_ ?_<;>simp[-map_map,upd,aT,Γ0,bO]
  ·rintro i ⟨hi,hok⟩
   by_cases hgo:i<a.length
   ·have q1:(i:Int)<a.length:=by omega
    have hgb:i<b.length:=by omega
    have hx:a[i]? = some a[i]:=Aa hgo
    have hy:b[i]? = some b[i]:=Aa hgb
    have hxs:=ha _ (Ak hgo)
    have hys:=hb _ (Ak hgb)
    have hw:Ah.wrap ((i:Int)+1)=(i:Int)+1:=aR (by omega) (by omega)
    generalize a[i]=x at *
    generalize b[i]=y at *
    have hS:=aBp x y (Ap hxs (by decide)) (Ap hys (by decide))
    have hne:¬(x=y)→decide (a=b)=false:=fun h=>by
     simp only[decide_eq_false_iff_not]
     intro e
     rw[e,hy]at hx
     injection hx with hx
     exact h hx.symm
    simp[-map_map,-mapM_map,↓KW,bO,aAl,q1,hx,hy,aD,aK]
    refine aA (ds:=[encZ x,encZ y]) (by rfl) hS ?_
    by_cases hv:x=y
    ·subst hv
     rw[BA rfl]
     simp[-map_map,-mapM_map,↓KW,hw]
     refine aJ (i+1) ⟨hgo,fun j hj=>?_⟩ (Ab hgo (Ad _)) (aY [] (by simp) ?_ ?_)
     ·rcases Bc j i with h2|h2
      ·exact hok j h2
      ·rw[show j=i by omega,hx,hy]
     ·simp[-map_map,upd,aT,Γ0,bO]
     ·trivial
    ·rw[Bq hv]
     have e2:=hne hv
     simp[-map_map,-mapM_map,↓KW,e2]
   ·have q1:¬(i:Int)<a.length:=by omega
    have e:decide (a=b)=true:=by simpa using aGw hn fun j hj=>hok j (by omega)
    simp[-map_map,-mapM_map,↓KW,bO,q1,e]
end Go.Am
end

section
set_option linter.unusedVariables false
set_option linter.unusedSimpArgs false
open List (map_map mapM_map)
open Go Go.Am Go.Proofs
namespace Go.Am
theorem aNh(c:List Cl)(k:Int):(mF c k).length=(bR c k).length:=by simp[mF]
theorem wK{c:List Cl}{k:Int}{i:Nat}{q:Int}(h:(bR c k)[i]? = some q):(mF c k)[i]? = some (fG (bR c (k-1)) (bOf c q)):=by simp[mF,h]
def bdS(c:List Cl)(R:List Int)(cs:List Int)(M:List (List Int)):Nat→St
 |0=>StL [(0,.d (aF c)),(4,.ptr 1 0),(5,.d (bL R)),(6,.d (bL cs)),(7,.ptr 2 0),(8,.d (.i .i64 0))] none [.cells 95 [.d (.i .i64 0),.d (.i .i64 0),.nil],.cells 95 [.d (.i .i64 R.length),.d (.i .i64 cs.length),.nil]]
 |i+1=>StL [(0,.d (aF c)),(4,.ptr 1 0),(5,.d (bL R)),(6,.d (bL cs)),(7,.ptr 2 0),(8,.d (.i .i64 ((i:Int)+1)))] none [.cells 95 [.d (.i .i64 0),.d (.i .i64 0),.nil],.cells 95 [.d (.i .i64 R.length),.d (.i .i64 cs.length),.own 3 0 (i+1) 1],.cells 97 (((M.take (i+1)).map bO).map .d)]
theorem aGb(v:List Int):one (.d (bO v))=true:=rfl
theorem xO(v:List Int):eS (.d (bO v))=some [.d (bO v)]:=rfl
theorem aCo(v:List Int):aT (bO v)=.d (bO v):=rfl
theorem aGt(v:List Int):inj (bO v)=.d (bO v):=rfl
theorem zH(H:Nat→Option HO)(avs:List AV)(v:List Int):cE H avs (bO v)=gT H avs:=rfl
set_option maxHeartbeats 2000000 in
set_option maxRecDepth 10000 in
theorem zC(c:List Cl)(k:Int)(hk:-1000≤k∧k≤1000)(hl:c.length≤1000)(hb:∀ x∈c,x.b.length≤1000000) :
  Spec Tryz.prog 43 [aF c,.i .i64 k] (bN (bR c k).length (bR c (k-1)).length (mF c k)):=by
 refine aZ (N:=48) aI Tryz.func43 rfl rfl rfl (by kernel_rfl) (by kernel_rfl) (by simp) ?_
 have h1:=rQ c k (by omega)
 have h2:=rQ c (k-1) (by omega)
 have hwk:Ah.wrap (k-1)=k-1:=aR (by omega) (by omega)
 have hml:=aNh c k
 have hmg:=fun i q h=>wK (c:=c) (k:=k) (i:=i) (q:=q) h
 have hrl:=fA c k
 have hcl:=fA c (k-1)
 generalize bR c (k-1)=cs at *
 generalize bR c k=R at *
 generalize mF c k=M at *
 have hfnd:=fun n=>qE c n (by omega)
 have hbl:∀ n,(bOf c n).length≤1000000:=fun n=>by
  unfold bOf
  cases e:bW c n with
  |none=>exact An _
  |some x=>exact hb x (cV e).1
 have hrow:=fun n=>bSk (bOf c n) cs (hbl n) (by omega)
 simp[-map_map,-mapM_map,↓KW,aF]
 refine aA (ds:=[aF c,.i .i64 k]) (by rfl) h1 ?_
 simp[-map_map,-mapM_map,↓KW,aF,bL,hwk]
 refine aA (ds:=[aF c,.i .i64 (k-1)]) (by rfl) h2 ?_
 simp[-map_map,-mapM_map,↓KW,aF,bL]
 refine aU (fun i:Nat=>i≤R.length) (bdS c R cs M) (fun i=>R.length-i) 0 (An _) ?_ ?_
 ·refine aY [1,2] (by simp) ?_ ?_<;>simp[-map_map,upd,aT,Γ0,aF,bL,bdS]
 ·intro i hi
  by_cases hgo:i<R.length
  ·have hx:R[i]? = some R[i]:=Aa hgo
   have hm:=hmg i _ hx
   have htk:M.take (i+1)=M.take i++[fG cs (bOf c R[i])]:=by rw[AJ,hm];rfl
   have hF:=hfnd R[i]
   have hR:=hrow R[i]
   generalize R[i]=q at *
   have hnb:((bW c q).getD pH).b=bOf c q:=rfl
   unfold vB at hF
   generalize((bW c q).getD pH)=y at *
   generalize(bW c q).isSome=t at *
   obtain⟨yi,yd,yb⟩:=y
   simp only at hnb
   subst hnb
   generalize fG cs (bOf c q)=row at *
   generalize bOf c q=yb at *
   rcases i with _|i
   ·have q1:0<R.length:=hgo
    rw[BZ,List.nil_append]at htk
    have hx':∀ h:0<R.length,R[0]'h=q:=fun h=>Bg ((Aa h).symm.trans hx)
    have hh:R.head? = some q:=by rw[List.head?_eq_getElem?];exact hx
    have hw:Ah.wrap 1=1:=by decide
    have hm1:(1:Nat)≤maxLen:=aW (by decide)
    unfold bdS
    simp[-map_map,-mapM_map,↓KW,aF,bL,q1,hx,hx',hh]
    refine aA (ds:=[aF c,.i .i64 q]) (by rfl) hF ?_
    simp[-map_map,-mapM_map,↓KW,aF,bL,bJ,aE,aB,aC,aQ]
    refine aA (ds:=[aG yb,bL cs]) (by rfl) hR ?_
    simp[-map_map,-mapM_map,↓KW,aF,bL,bJ,hw,hm1,aE,aB,aC,aQ,aGb,xO,aCo,aGt,zH]
    refine aJ (0+1) hgo (Ab hgo (Ad _)) ?_
    simp only[bdS]
    refine aY [1,2,5] (by simp) ?_ ?_<;>simp[-map_map,upd,aT,Γ0,aF,bL,htk,uH]
   ·have q1:(i:Int)+1<R.length:=by omega
    have q0:(0:Int)≤(i:Int)+1:=by omega
    have hx':∀ h:i+1<R.length,R[i+1]'h=q:=fun h=>Bg ((Aa h).symm.trans hx)
    have hw:Ah.wrap ((i:Int)+1+1)=(i:Int)+1+1:=aR (by omega) (by omega)
    have hbb:=cC (n:=i+1) (by omega)
    have hb8:(i+1+1)*24≤140737488355328:=by omega
    have hml1:(M.take (i+1)).length=i+1:=by rw[AM];omega
    have hml2:((M.take (i+1)).map bO).length=i+1:=by rw[AN];exact hml1
    unfold bdS
    simp only[]
    generalize M.take (i+1)=out at *
    simp[-map_map,-mapM_map,↓KW,aF,bL,q1,q0,hx,hx']
    refine aA (ds:=[aF c,.i .i64 q]) (by rfl) hF ?_
    simp[-map_map,-mapM_map,↓KW,aF,bL,bJ,aE,aB,aC,aQ]
    refine aA (ds:=[aG yb,bL cs]) (by rfl) hR ?_
    simp[-map_map,-mapM_map,↓KW,aF,bL,bJ,hw,hbb,hb8,hml1,hml2,aW,aE,aB,aC,aQ,aGb,xO,aCo,aGt,zH]
    refine aJ (i+1+1) hgo (Ab hgo (Ad _)) ?_
    simp only[bdS]
    refine aY [1,2,6] (by simp) ?_ ?_<;>simp[-map_map,upd,aT,Γ0,aF,bL,htk,uH]
  ·have e:i=R.length:=by omega
   rcases i with _|i
   ·have q1:¬0<R.length:=by omega
    have eM:M=[]:=Au (by omega)
    unfold bdS
    simp[-map_map,-mapM_map,↓KW,aF,bL,q1,eM,bN]
   ·have q1:¬(i:Int)+1<R.length:=by omega
    have e2:M.take (i+1)=M:=Ai (by omega)
    have e3:(M.map bO).length=i+1:=by rw[AN];omega
    have e4:chunk 1 (i+1) (M.map bO)=M.map fun v=>[bO v]:=by rw[tZ _ _ e3.symm,C3];rfl
    have e5:Cd (i+1) ((M.map bO).map AV.d)=(M.map bO).map AV.d:=Ai (by simp;omega)
    have e6:M.length=i+1:=by omega
    unfold bdS
    simp[-map_map,-mapM_map,↓KW,aF,bL,q1,e2,e3,e4,e5,e6,bN]
set_option maxHeartbeats 2000000 in
set_option maxRecDepth 10000 in
theorem bCp(c:List Cl)(x:List (Int×Int))(hl:c.length≤1000)(hx:x.length≤1000):Spec Tryz.prog 41 [aF c,aG x] (.tp [.i .i64 (qQ c x).1,.i .i64 (qQ c x).2]):=by
 refine aZ (N:=41) aI Tryz.func41 rfl rfl rfl (by kernel_rfl) (by kernel_rfl) (by simp) ?_
 have hfnd:=fun n=>qE c n (by omega)
 simp[-map_map,-mapM_map,↓KW,aF,aG]
 refine aU (fun i:Nat=>i≤x.length∧∀ j,j<i→kn c (x.getD j (0,0)).1=true) (fun i=>StL [(0,.d (aF c)),(1,.d (aG x)),(6,.d (.i .i64 (xK c x i))),(7,.d (.b (aCe c x i))),(8,.d (.i .i64 (i:Int)))] none []) (fun i=>x.length-i) 0 ⟨An _,fun j h=>by omega⟩ ?_ ?_
 ·refine aY [] (by simp) ?_ ?_<;>simp[-map_map,upd,aT,Γ0,aF,aG,xK,aCe,bY]
 ·rintro i ⟨hi,hok⟩
  by_cases hgo:i<x.length
  ·have q1:(i:Int)<x.length:=by omega
   have hxi:x[i]? = some x[i]:=Aa hgo
   have hgd:x.getD i (0,0)=x[i]:=by rw[Ac,hxi];rfl
   have hw:Ah.wrap ((i:Int)+1)=(i:Int)+1:=aR (by omega) (by omega)
   have hkn:kn c x[i].1=(bW c x[i].1).isSome:=rfl
   have hdo:dOf c x[i].1=((bW c x[i].1).getD pH).dim:=rfl
   have hl1:xK c x (i+1)=dOf c x[i].1:=by rw[xK,hgd]
   have hm1:aCe c x (i+1)=(aCe c x i||(decide (0<i)&&decide (dOf c x[i].1≠xK c x i))):=by
    rw[aCe,hgd]
    cases i with
    |zero=>rfl
    |succ i=>rfl
   have hF:=hfnd x[i].1
   have hall:kn c x[i].1=false→qQ c x=(0,250):=fun h=>by
    unfold qQ
    have:aCj c x=false:=by
     unfold aCj
     rw[List.all_eq_false]
     exact⟨x[i],Ak hgo,by rw[h];decide⟩
    rw[this];rfl
   have hok2:kn c x[i].1=true→∀ j,j<i+1→kn c (x.getD j (0,0)).1=true:=fun h j hj=>by
    rcases Bc j i with h2|h2
    ·exact hok j h2
    ·rw[show j=i by omega,hgd];exact h
   rw[hkn]at hall hok2
   rw[hdo]at hl1 hm1
   clear hkn hdo hok
   generalize x[i]=f at *
   obtain⟨fn,fc⟩:=f
   simp only at hF hall hok2 hl1 hm1
   unfold vB at hF
   generalize((bW c fn).getD pH)=y at *
   generalize(bW c fn).isSome=t at *
   obtain⟨yi,yd,yb⟩:=y
   simp only at hl1 hm1
   generalize xK c x i=d at *
   generalize aCe c x i=m at *
   simp[-map_map,-mapM_map,↓KW,aF,aG,bB,q1,hxi]
   refine aA (ds:=[aF c,.i .i64 fn]) (by rfl) hF ?_
   cases t with
   |false =>
    have e:=hall rfl
    simp[-map_map,-mapM_map,↓KW,aF,aG,bJ,e,aE,aB,aC,aQ]
    rfl
   |true =>
    have e:=hok2 rfl
    by_cases h0:0<i
    ·have h0':(0:Int)<i:=by omega
     by_cases h1:yd=d
     ·have h1':((yd != d):Bool)=false:=by simpa using h1
      simp[-map_map,-mapM_map,↓KW,aF,aG,bJ,h0,h0',h1,h1',hw,aE,aB,aC,aQ]
      refine aJ (i+1) ⟨hgo,e⟩ (Ab hgo (Ad _)) (aY [] (by simp) ?_ ?_)<;>simp[-map_map,upd,aT,Γ0,aF,aG,hl1,hm1,h0,h1,bY]
     ·have h1':((yd != d):Bool)=true:=by simpa using h1
      simp[-map_map,-mapM_map,↓KW,aF,aG,bJ,h0,h0',h1,h1',hw,aE,aB,aC,aQ]
      refine aJ (i+1) ⟨hgo,e⟩ (Ab hgo (Ad _)) (aY [] (by simp) ?_ ?_)<;>simp[-map_map,upd,aT,Γ0,aF,aG,hl1,hm1,h0,h1,bY]
    ·have h0':¬(0:Int)<i:=by omega
     have h00:i=0:=by omega
     simp[-map_map,-mapM_map,↓KW,aF,aG,bJ,h0,h0',hw,aE,aB,aC,aQ]
     refine aJ (i+1) ⟨hgo,e⟩ (Ab hgo (Ad _)) (aY [] (by simp) ?_ ?_)<;>simp[-map_map,upd,aT,Γ0,aF,aG,hl1,hm1,h0,bY]
  ·have q1:¬(i:Int)<x.length:=by omega
   have e:i=x.length:=by omega
   have hall:aCj c x=true:=by
    unfold aCj
    rw[AO]
    intro f hf
    obtain⟨j,hj,e2⟩:=Bi hf
    have:=hok j (by omega)
    rw[Ac,Aa hj,e2]at this
    exact this
   subst e
   unfold qQ
   rw[hall]
   generalize aCe c x x.length=m at *
   generalize xK c x x.length=d at *
   cases m
   ·simp[-map_map,-mapM_map,↓KW,aG,q1]
    rfl
   ·simp[-map_map,-mapM_map,↓KW,aG,q1]
    rfl
end Go.Am
end

section
set_option linter.unusedVariables false
set_option linter.unusedSimpArgs false
open Go Go.Am Go.Proofs
namespace Go.Am
/-! Sizes -/
theorem mM{e n:Nat}(h:n≤2^e)(he:e<4398046511104):(aX n).length≤137438953472:=by
 have:=bRd (z:=(n:Int)) (E:=e) (by simpa using h) 137438953472 (by omega)
 simpa using this
theorem szE{e:Nat}{z:Int}(h:z.natAbs≤2^e)(he:e<4398046511104):Sz z:=mM h he
theorem mK(a b:Nat):2^a*2^b=2^(a+b):=(CC 2 a b).symm
theorem uJ{a b:Nat}(h:a≤b):2^a≤2^b:=BI (by decide) h
theorem lP{n l x:Nat}(h:n≤2^l):n*2^x≤2^(l+x):=by rw[←mK];exact AX _ h
theorem Bnd.pw{a b:Nat}{l:List (Int×Int)}(h:Bnd (2^a) l)(k:a≤b):Bnd (2^b) l:=h.mono (uJ k)
theorem Bnd.sz{e:Nat}{l:List (Int×Int)}(h:Bnd (2^e) l)(he:e<4398046511104):∀ x∈l,Sz x.2:=fun x hx=>szE (h x hx) he
theorem wF(k:Int)(b:List (Int×Int)):(mulR k b).length=b.length:=by simp[mulR]
theorem uC{c:List Cl}{L:Nat}(hb:∀ x∈c,x.b.length≤L)(n:Int):(bOf c n).length≤L:=by
 unfold bOf
 cases e:bW c n with
 |none=>exact An _
 |some x=>exact hb x (cV e).1
theorem oR{c:List Cl}{M:Nat}(hb:∀ x∈c,Bnd M x.b)(n:Int):Bnd M (bOf c n):=by
 unfold bOf
 cases e:bW c n with
 |none=>exact Bnd.nil M
 |some x=>exact hb x (cV e).1
theorem aVy{c:List Cl}{L:Nat}(hb:∀ x∈c,x.b.length≤L):∀ x:List (Int×Int),(bdL c x).length≤x.length*L
 |[]=>An _
 |f::x=>by
  have:=aVy hb x
  have h2:=uC hb f.1
  show(mulR f.2 (bOf c f.1)++bdL c x).length≤_
  rw[Al,wF,AB,Nat.succ_mul];omega
theorem aVz{c:List Cl}{K M:Nat}(hb:∀ x∈c,Bnd M x.b):∀{x:List (Int×Int)},Bnd K x→Bnd (K*M) (bdL c x)
 |[],_=>Bnd.nil _
 |f::x,h=>(pI (h f (Av ..)) (oR hb f.1)).app (aVz hb fun y hy=>h y (As _ hy))
structure SzX(f:Nat)(c:List Cl):Prop where
 len:c.length≤100
 bl:∀ x∈c,x.b.length≤100
 bb:∀ x∈c,Bnd (2^f) x.b
theorem bIh{f g:Nat}{c:List Cl}{x:List (Int×Int)}(hc:SzX f c)(hx:x.length≤100)(hg:Bnd (2^g) x):(bdL c x).length≤10000∧Bnd (2^(f+g)) (bdL c x):=by
 refine⟨Ap (aVy hc.bl x) (by omega),?_⟩
 have:=aVz hc.bb hg
 rwa [mK,CB]at this
theorem bPp{f g:Nat}{c:List Cl}{x:List (Int×Int)}(hc:SzX f c)(hx:x.length≤100)(hg:Bnd (2^g) x):Bnd (2^(f+g+14)) (bdX c x)∧(bdX c x).length≤10000:=by
 obtain⟨h1,h2⟩:=bIh hc hx hg
 have h3:=gQ (bdL c x) [] (Bnd.nil 0) h2
 have h4:=iL [] (bdL c x)
 refine⟨h3.mono ?_,by simp only[A8]at h4;unfold bdX;omega⟩
 have:=lP (n:=(bdL c x).length) (l:=14) (x:=f+g) (Ap h1 (by decide))
 rw[show 14+(f+g)=f+g+14 by omega]at this;omega
end Go.Am
end

section
set_option linter.unusedVariables false
set_option linter.unusedSimpArgs false
open Go Go.Am Go.Proofs
namespace Go.Am
end Go.Am
end

section
set_option linter.unusedVariables false
set_option linter.unusedSimpArgs false
open List (map_map mapM_map)
open Go Go.Am Go.Proofs
namespace Go.Am
set_option maxHeartbeats 4000000 in
set_option maxRecDepth 10000 in
theorem aXh(c:List Cl)(k:Int)(x:List (Int×Int))(hl:c.length≤100)(hx:x.length≤100):Spec Tryz.prog 84 [aF c,.i .i64 k,aG x] (.tp [bO (xX c k x).1,.i .i64 (xX c k x).2]):=by
 have hD:=bCp c x (by omega) (by omega)
 have hI:=rQ c k (by omega)
 have hil:=fA c k
 by_cases he:(qQ c x).2=0
 rotate_left
 ·have hr:xX c k x=([],(qQ c x).2):=by unfold xX;rw[Ae he]
  rw[hr]
  generalize(qQ c x).1=d at *
  generalize(qQ c x).2=e at *
  have he':((e != 0):Bool)=true:=by simpa using he
  refine aZ (N:=69) aI Tryz.func84 rfl rfl rfl (by kernel_rfl) (by kernel_rfl) (by simp) ?_
  simp[-map_map,-mapM_map,↓KW,aF,aG]
  refine aA (ds:=[aF c,aG x]) (by rfl) hD ?_
  simp[-map_map,-mapM_map,↓KW,aF,aG,he,he',bO]
  rfl
 ·by_cases hb:0<x.length∧(qQ c x).1≠k
  ·have hr:xX c k x=([],260):=by unfold xX;rw[Ag he,Ag hb]
   rw[hr]
   rw[he]at hD
   clear he hr
   generalize(qQ c x).1=d at *
   have b1:=hb.1
   have b1':(0:Int)<x.length:=by omega
   have b2:((d != k):Bool)=true:=by simpa using hb.2
   refine aZ (N:=69) aI Tryz.func84 rfl rfl rfl (by kernel_rfl) (by kernel_rfl) (by simp) ?_
   simp[-map_map,-mapM_map,↓KW,aF,aG]
   refine aA (ds:=[aF c,aG x]) (by rfl) hD ?_
   simp[-map_map,-mapM_map,↓KW,aF,aG,b1,b1',b2,bO]
   rfl
  ·have hr:xX c k x=(fG (bR c k) x,0):=by unfold xX;rw[Ag he,Ae hb]
   rw[hr]
   rw[he]at hD
   clear he hr
   generalize(qQ c x).1=d at *
   generalize bR c k=ids at *
   refine aZ (N:=69) aI Tryz.func84 rfl rfl rfl (by kernel_rfl) (by kernel_rfl) (by simp) ?_
   have hof:=vV 0 (by decide) (by decide)
   simp[-map_map,-mapM_map,↓KW,aF,aG]
   refine aA (ds:=[aF c,aG x]) (by rfl) hD ?_
   by_cases b1:0<x.length
   ·have b2':d=k:=Decidable.byContradiction fun h=>hb ⟨b1,h⟩
    have b2:((d != k):Bool)=false:=by simpa using b2'
    have b1':(0:Int)<x.length:=by omega
    simp[-map_map,-mapM_map,↓KW,aF,aG,b1,b1',b2,b2']
    refine aA (ds:=[aF c,.i .i64 k]) (by rfl) hI ?_
    simp[-map_map,-mapM_map,↓KW,aF,aG,bL]
    refine aU (fun j:Nat=>j≤ids.length) (fun j=>StL [(2,.d (aG x)),(10,.d (bL ids)),(11,.own 1 0 j 2),(12,.d (.i .i64 (j:Int)))] none [.cells 74 ((vcs ((fG ids x).take j)).map .d)]) (fun j=>ids.length-j) 0 (An _) ?_ ?_
    ·refine aY [1] (by simp) ?_ ?_<;>simp[-map_map,upd,aT,Γ0,aF,aG,bL,aTf]
    ·intro j hj
     have hrl:=iG ids x
     by_cases hgo:j<ids.length
     ·have q1:(j:Int)<ids.length:=by omega
      have hy:ids[j]? = some ids[j]:=Aa hgo
      have hrg:=iY (x:=x) hy
      have hw:Ah.wrap ((j:Int)+1)=(j:Int)+1:=aR (by omega) (by omega)
      have htk:(fG ids x).take (j+1)=(fG ids x).take j++[lv ids[j] x]:=by rw[AJ,hrg];rfl
      have hfl:=eO ((fG ids x).take j)
      have hol:((fG ids x).take j).length=j:=by rw[AM];omega
      rw[hol]at hfl
      have hbb:=sL (n:=j) (by omega)
      generalize(fG ids x).take j=out at *
      generalize ids[j]=q at *
      simp[-map_map,-mapM_map,↓KW,aF,aG,bL,q1]
      refine aA (ds:=[.i .i64 0]) (by rfl) hof ?_
      rw[bF]
      simp[-map_map,-mapM_map,↓KW,aG,aD,aK,aM,bE,bC]
      refine aU (fun i:Nat=>i≤x.length) (fun i=>StL [(2,.d (aG x)),(10,.d (bL ids)),(11,.own 1 0 j 2),(12,.d (.i .i64 (j:Int))),(13,.ptr 2 0),(14,.d (.i .i64 (i:Int)))] none
       [.cells 74 ((vcs out).map .d),.cells 74 [.d (.b (decide (lv q (x.take i)<0))),.d (aN (aX (lv q (x.take i)).natAbs))]]) (fun i=>x.length-i) 0 (An _) ?_ ?_
      ·refine aY [1,2] (by simp) ?_ ?_<;>simp[-map_map,upd,aT,Γ0,aF,aG,bL,lv]
      ·intro i hi
       by_cases hgi:i<x.length
       ·have q2:(i:Int)<x.length:=by omega
        have hx:x[i]? = some x[i]:=Aa hgi
        have hw2:Ah.wrap ((i:Int)+1)=(i:Int)+1:=aR (by omega) (by omega)
        have htk2:=aIv hgi q
        generalize lv q (x.take i)=z at *
        generalize x[i]=f at *
        obtain⟨fn,fc⟩:=f
        by_cases h0:fn=q
        ·subst h0
         rw[Ag rfl]at htk2
         have q3:((fn==fn):Bool)=true:=by simp
         simp[-map_map,-mapM_map,↓KW,aF,aG,bL,bB,q2,hx,hy,q3,hw2,aD,aK,aM,bE]
         refine aJ (i+1) hgi (Ab hgi (Ad _)) (aY [1,2] (by simp) ?_ ?_)<;>simp[-map_map,upd,aT,Γ0,aF,aG,bL,htk2]
        ·rw[Ae h0]at htk2
         have q3:((fn==q):Bool)=false:=by simpa using h0
         simp[-map_map,-mapM_map,↓KW,aF,aG,bL,bB,q2,hx,hy,q3,h0,hw2,aD,aK,aM,bE]
         refine aJ (i+1) hgi (Ab hgi (Ad _)) (aY [1,2] (by simp) ?_ ?_)<;>simp[-map_map,upd,aT,Γ0,aF,aG,bL,htk2]
       ·have q2:¬(i:Int)<x.length:=by omega
        rw[Ai (by omega)]
        generalize lv q x=z at *
        simp[-map_map,-mapM_map,↓KW,aF,aG,bL,q2,hw,hbb,hfl,aW,aD,aK,aM,bE]
        refine aJ (j+1) hgo (Ab hgo (Ad _)) (aY [4] (by simp) ?_ ?_)<;>simp[-map_map,upd,aT,Γ0,aF,aG,bL,htk,aTg,aTe]
     ·have e:j=ids.length:=by omega
      subst e
      have q1:¬(ids.length:Int)<ids.length:=by omega
      have e2:(fG ids x).take ids.length=fG ids x:=Ai (by omega)
      have hfl:=eO (fG ids x)
      rw[hrl]at hfl
      rw[e2]
      generalize fG ids x=out at *
      simp[-map_map,-mapM_map,↓KW,bO,bL,q1,hfl,fV,tY hrl,mQ hrl]
   ·have b1':¬(0:Int)<x.length:=by omega
    simp[-map_map,-mapM_map,↓KW,aF,aG,b1,b1']
    refine aA (ds:=[aF c,.i .i64 k]) (by rfl) hI ?_
    simp[-map_map,-mapM_map,↓KW,aF,aG,bL]
    refine aU (fun j:Nat=>j≤ids.length) (fun j=>StL [(2,.d (aG x)),(10,.d (bL ids)),(11,.own 1 0 j 2),(12,.d (.i .i64 (j:Int)))] none [.cells 74 ((vcs ((fG ids x).take j)).map .d)]) (fun j=>ids.length-j) 0 (An _) ?_ ?_
    ·refine aY [1] (by simp) ?_ ?_<;>simp[-map_map,upd,aT,Γ0,aF,aG,bL,aTf]
    ·intro j hj
     have hrl:=iG ids x
     by_cases hgo:j<ids.length
     ·have q1:(j:Int)<ids.length:=by omega
      have hy:ids[j]? = some ids[j]:=Aa hgo
      have hrg:=iY (x:=x) hy
      have hw:Ah.wrap ((j:Int)+1)=(j:Int)+1:=aR (by omega) (by omega)
      have htk:(fG ids x).take (j+1)=(fG ids x).take j++[lv ids[j] x]:=by rw[AJ,hrg];rfl
      have hfl:=eO ((fG ids x).take j)
      have hol:((fG ids x).take j).length=j:=by rw[AM];omega
      rw[hol]at hfl
      have hbb:=sL (n:=j) (by omega)
      generalize(fG ids x).take j=out at *
      generalize ids[j]=q at *
      simp[-map_map,-mapM_map,↓KW,aF,aG,bL,q1]
      refine aA (ds:=[.i .i64 0]) (by rfl) hof ?_
      rw[bF]
      simp[-map_map,-mapM_map,↓KW,aG,aD,aK,aM,bE,bC]
      refine aU (fun i:Nat=>i≤x.length) (fun i=>StL [(2,.d (aG x)),(10,.d (bL ids)),(11,.own 1 0 j 2),(12,.d (.i .i64 (j:Int))),(13,.ptr 2 0),(14,.d (.i .i64 (i:Int)))] none
       [.cells 74 ((vcs out).map .d),.cells 74 [.d (.b (decide (lv q (x.take i)<0))),.d (aN (aX (lv q (x.take i)).natAbs))]]) (fun i=>x.length-i) 0 (An _) ?_ ?_
      ·refine aY [1,2] (by simp) ?_ ?_<;>simp[-map_map,upd,aT,Γ0,aF,aG,bL,lv]
      ·intro i hi
       by_cases hgi:i<x.length
       ·have q2:(i:Int)<x.length:=by omega
        have hx:x[i]? = some x[i]:=Aa hgi
        have hw2:Ah.wrap ((i:Int)+1)=(i:Int)+1:=aR (by omega) (by omega)
        have htk2:=aIv hgi q
        generalize lv q (x.take i)=z at *
        generalize x[i]=f at *
        obtain⟨fn,fc⟩:=f
        by_cases h0:fn=q
        ·subst h0
         rw[Ag rfl]at htk2
         have q3:((fn==fn):Bool)=true:=by simp
         simp[-map_map,-mapM_map,↓KW,aF,aG,bL,bB,q2,hx,hy,q3,hw2,aD,aK,aM,bE]
         refine aJ (i+1) hgi (Ab hgi (Ad _)) (aY [1,2] (by simp) ?_ ?_)<;>simp[-map_map,upd,aT,Γ0,aF,aG,bL,htk2]
        ·rw[Ae h0]at htk2
         have q3:((fn==q):Bool)=false:=by simpa using h0
         simp[-map_map,-mapM_map,↓KW,aF,aG,bL,bB,q2,hx,hy,q3,h0,hw2,aD,aK,aM,bE]
         refine aJ (i+1) hgi (Ab hgi (Ad _)) (aY [1,2] (by simp) ?_ ?_)<;>simp[-map_map,upd,aT,Γ0,aF,aG,bL,htk2]
       ·have q2:¬(i:Int)<x.length:=by omega
        rw[Ai (by omega)]
        generalize lv q x=z at *
        simp[-map_map,-mapM_map,↓KW,aF,aG,bL,q2,hw,hbb,hfl,aW,aD,aK,aM,bE]
        refine aJ (j+1) hgo (Ab hgo (Ad _)) (aY [4] (by simp) ?_ ?_)<;>simp[-map_map,upd,aT,Γ0,aF,aG,bL,htk,aTg,aTe]
     ·have e:j=ids.length:=by omega
      subst e
      have q1:¬(ids.length:Int)<ids.length:=by omega
      have e2:(fG ids x).take ids.length=fG ids x:=Ai (by omega)
      have hfl:=eO (fG ids x)
      rw[hrl]at hfl
      rw[e2]
      generalize fG ids x=out at *
      simp[-map_map,-mapM_map,↓KW,bO,bL,q1,hfl,fV,tY hrl,mQ hrl]
end Go.Am
end

section
set_option linter.unusedVariables false
set_option linter.unusedSimpArgs false
open List (map_map mapM_map)
open Go Go.Am Go.Proofs
namespace Go.Am
theorem bAn{ids v:List Int}{i:Nat}(h1:i<ids.length)(h2:i<v.length):(ids.zip v).take (i+1)=(ids.zip v).take i++[(ids[i],v[i])]:=by
 have h:i<(ids.zip v).length:=by rw[ET];omega
 rw[AJ,Aa h,List.getElem_zip];rfl
theorem bJv{ids v:List Int}{M:Nat}(h:∀ z∈v,z.natAbs≤M):Bnd M (ids.zip v):=fun x hx=>h _ (List.of_mem_zip hx).2
theorem Bnd.take{M i:Nat}{l:List (Int×Int)}(h:Bnd M l):Bnd M (l.take i):=fun x hx=>h x (List.mem_of_mem_take hx)
set_option maxHeartbeats 2000000 in
set_option maxRecDepth 10000 in
theorem bCq{g:Nat}(c:List Cl)(k:Int)(v:List Int)(hl:c.length≤100)(hv:∀ z∈v,z.natAbs≤2^g)(hg:g+20<4398046511104) :
  Spec Tryz.prog 107 [aF c,.i .i64 k,bO v] (.tp [aG (chX c k v).1,.i .i64 (chX c k v).2]):=by
 have hI:=rQ c k (by omega)
 have hil:=fA c k
 by_cases he:v.length=(bR c k).length
 ·have hr:chX c k v=(bV [] ((bR c k).zip v),0):=by unfold chX;rw[Ag he]
  rw[hr]
  clear hr
  generalize bR c k=ids at *
  have hb:=bJv (ids:=ids) hv
  have he':(((v.length:Int) != ids.length):Bool)=false:=by simp;omega
  refine aZ (N:=38) aI Tryz.func107 rfl rfl rfl (by kernel_rfl) (by kernel_rfl) (by simp) ?_
  simp[-map_map,-mapM_map,↓KW,aF,bO]
  refine aA (ds:=[aF c,.i .i64 k]) (by rfl) hI ?_
  simp[-map_map,-mapM_map,↓KW,aF,bL,he']
  refine aU (fun i:Nat=>i≤v.length) (fun i=>StL [(2,.d (bO v)),(8,.d (bL ids)),(9,.d (aG (bV [] ((ids.zip v).take i)))),(10,.d (.i .i64 (i:Int)))] none []) (fun i=>v.length-i) 0 (An _) ?_ ?_
  ·refine aY [] (by simp) ?_ ?_
   ·simp[-map_map,upd,aT,Γ0,bO,bL,aG,bV]
    exact kW (by simp[iS,upd,qU]) (fun a _ id h=>by simp[nZ]at h)
   ·trivial
  ·intro i hi
   by_cases hgo:i<v.length
   ·have q1:(i:Int)<v.length:=by omega
    have hgi:i<ids.length:=by omega
    have hx:v[i]? = some v[i]:=Aa hgo
    have hy:ids[i]? = some ids[i]:=Aa hgi
    have hz:=hv _ (Ak hgo)
    have htk:bV [] ((ids.zip v).take (i+1))=nA (bV [] ((ids.zip v).take i)) (ids[i],v[i]):=by rw[bAn hgi hgo,aEe];rfl
    have ho:=gQ ((ids.zip v).take i) [] (Bnd.nil 0) hb.take
    have hol:=iL [] ((ids.zip v).take i)
    have hzl:((ids.zip v).take i).length≤100:=by rw[AM,ET];omega
    have hw:Ah.wrap ((i:Int)+1)=(i:Int)+1:=aR (by omega) (by omega)
    have hob:Bnd (2^(7+g)) (bV [] ((ids.zip v).take i)):=ho.mono (by
     have:=lP (x:=g) (Ap hzl (show 100≤2^7 by decide));omega)
    generalize bV [] ((ids.zip v).take i)=out at *
    generalize v[i]=z at *
    generalize ids[i]=q at *
    have hin:=yJ out q z (szE hz (by omega)) (hob.sz (by omega)) (by simp only[A8]at hol;omega)
    simp[-map_map,-mapM_map,↓KW,bO,bL,aAl,q1,hx,hy,aD,aK]
    refine aA (ds:=[aG out,.ag (dK (q,z))]) (by rfl) hin ?_
    simp[-map_map,-mapM_map,↓KW,aG,hw]
    refine aJ (i+1) hgo (Ab hgo (Ad _)) (aY [] (by simp) ?_ ?_)
    ·simp[-map_map,upd,aT,Γ0,bO,bL,aG,htk]
    ·trivial
   ·have q1:¬(i:Int)<v.length:=by omega
    rw[Ai (by rw[ET];omega)]
    generalize bV [] (ids.zip v)=out at *
    simp[-map_map,-mapM_map,↓KW,bO,bL,aG,q1,fV]
 ·have hr:chX c k v=([],50):=by unfold chX;rw[Ae he]
  rw[hr]
  clear hr
  generalize bR c k=ids at *
  have he':(((v.length:Int) != ids.length):Bool)=true:=by simp;omega
  refine aZ (N:=38) aI Tryz.func107 rfl rfl rfl (by kernel_rfl) (by kernel_rfl) (by simp) ?_
  simp[-map_map,-mapM_map,↓KW,aF,bO]
  refine aA (ds:=[aF c,.i .i64 k]) (by rfl) hI ?_
  simp[-map_map,-mapM_map,↓KW,aF,bL,aG,he',fV]
set_option maxHeartbeats 1000000 in
set_option maxRecDepth 10000 in
theorem bVn{g:Nat}(c:List Cl)(k:Int)(v:List Int)(hl:c.length≤100)(hv:∀ z∈v,z.natAbs≤2^g)(hg:g+20<4398046511104) :
  Spec Tryz.prog 75 [aF c,.i .i64 k,bO v] (aG (chX c k v).1):=by
 refine aZ (N:=17) aI Tryz.func75 rfl rfl rfl (by kernel_rfl) (by kernel_rfl) (by simp) ?_
 have h:=bCq c k v hl hv hg
 generalize(chX c k v).1=out at *
 generalize(chX c k v).2=e at *
 simp[-map_map,-mapM_map,↓KW,aF,bO]
 refine aA (ds:=[aF c,.i .i64 k,bO v]) (by rfl) h ?_
 simp[-map_map,-mapM_map,↓KW,aG]
set_option maxHeartbeats 1000000 in
set_option maxRecDepth 10000 in
theorem bSj(c:List Cl)(k:Int)(x:List (Int×Int))(hl:c.length≤100)(hx:x.length≤100):Spec Tryz.prog 44 [aF c,.i .i64 k,aG x] (bO (xX c k x).1):=by
 refine aZ (N:=17) aI Tryz.func44 rfl rfl rfl (by kernel_rfl) (by kernel_rfl) (by simp) ?_
 have h:=aXh c k x hl hx
 generalize(xX c k x).1=out at *
 generalize(xX c k x).2=e at *
 simp[-map_map,-mapM_map,↓KW,aF,aG]
 refine aA (ds:=[aF c,.i .i64 k,aG x]) (by rfl) h ?_
 simp[-map_map,-mapM_map,↓KW,bO]
def bQ(l:List Int):D:=.sl (l.map fun n=>[.i .i64 n])
def prs:List Int→List (Int×Int)
 |a::b::l=>(a,b)::prs l
 |_=>[]
theorem aLz:∀(l:List Int) (i:Nat),2*i+1<l.length→prs (l.drop (2*i))=(l.getD (2*i) 0,l.getD (2*i+1) 0)::prs (l.drop (2*(i+1)))
 |[],i,h=>by simp at h
 |[a],i,h=>by simp at h
 |a::b::l,0,h=>rfl
 |a::b::l,i+1,h=>by
  have:=aLz l i (by simp only[AB]at h;omega)
  rw[show 2*(i+1)=2*i+1+1 by omega,show 2*(i+1+1)=2*(i+1)+1+1 by omega]
  simp only[List.drop_succ_cons,List.getD_cons_succ]
  exact this
theorem aXp{l:List Int}(h:l.length≤1):prs l=[]:=by
 rcases l with _|⟨a,_|⟨b,l⟩⟩
 ·rfl
 ·rfl
 ·simp at h
set_option maxHeartbeats 2000000 in
set_option maxRecDepth 10000 in
theorem eW(id dim:Int)(l:List Int)(hl:l.length≤100)(hb:∀ z∈l,-1000≤z∧z≤1000):Spec Tryz.prog 64 [.i .i64 id,.i .i64 dim,bQ l] (.ag (bJ ⟨id,dim,bV [] (prs l)⟩)):=by
 refine aZ (N:=34) aI Tryz.func64 rfl rfl rfl (by kernel_rfl) (by kernel_rfl) (by simp) ?_
 simp[-map_map,-mapM_map,↓KW,bQ]
 refine aU (fun y:Nat×List (Int×Int)=>2*y.1≤l.length+1∧bV y.2 (prs (l.drop (2*y.1)))=bV [] (prs l)∧y.2.length≤y.1∧Bnd (y.1*1000) y.2) (fun y=>StL [(0,.d (.i .i64 id)),(1,.d (.i .i64 dim)),(2,.d (bQ l)),(6,.ptr 1 0),(7,.d (aG y.2)),(8,.d (.i .i64 ((2*y.1:Nat):Int)))] none [.cells 43 [.d (.i .i64 0),.d (.i .i64 0),.nil]]) (fun y=>l.length+1-2*y.1) (0,[]) ⟨An _,rfl,An _,Bnd.nil _⟩ ?_ ?_
 ·refine aY [1] (by simp) ?_ ?_
  ·simp[-map_map,upd,aT,Γ0,bQ,aG]
   exact kW (by simp[iS,upd,qU]) (fun a ha id h=>by
    simp[upd]at ha
    by_cases e:id=1
    ·subst e;rw[ha];show(1:Nat)≠2;decide
    ·simp[nZ,upd,e]at h)
  ·simp[-map_map,upd,aT,Γ0,bQ,aG]
 ·rintro⟨i,out⟩ ⟨hi,ho,hol,hob⟩
  simp only at hi ho hol hob ⊢
  have hw1:Ah.wrap (((2*i:Nat):Int)+1)=((2*i:Nat):Int)+1:=aR (by omega) (by omega)
  have hw2:Ah.wrap (((2*i:Nat):Int)+2)=((2*i:Nat):Int)+2:=aR (by omega) (by omega)
  by_cases hgo:2*i+1<l.length
  ·have q1:((2*i:Nat):Int)+1<l.length:=by omega
   have hg2:2*i<l.length:=by omega
   have hx:l[2*i]? = some (l.getD (2*i) 0):=by rw[Ac,Aa hg2];rfl
   have hy:l[2*i+1]? = some (l.getD (2*i+1) 0):=by rw[Ac,Aa hgo];rfl
   have hbx:=hb _ (Aq hx)
   have hby:=hb _ (Aq hy)
   rw[aLz l i hgo]at ho
   generalize l.getD (2*i) 0=a at *
   generalize l.getD (2*i+1) 0=b at *
   have hof:=vV b (by omega) (by omega)
   have hin:=yJ out a b (szE (e:=10) (by omega) (by decide)) (fun x hx=>szE (e:=20) (Ap (hob x hx) (by omega)) (by decide)) (by omega)
   have hnb:Bnd ((i+1)*1000) (nA out (a,b)):=(aNm (K:=1000) hob (by show b.natAbs≤1000;omega)).mono (by omega)
   have hnl:=aGs out (a,b)
   have ec:(((2*i:Nat):Int)+2)=((2*(i+1):Nat):Int):=by omega
   have ec1:(((2*i:Nat):Int)+1)=((2*i+1:Nat):Int):=by omega
   rw[ec1]at hw1 q1
   rw[ec]at hw2
   generalize hm1:2*i+1=m1 at *
   generalize hm2:2*(i+1)=m2 at *
   generalize hm:2*i=m at *
   simp[-map_map,-mapM_map,↓KW,bQ,hw1,q1,hx,hy,ec1]
   refine aA (ds:=[.i .i64 b]) (by rfl) hof ?_
   rw[bF]
   simp[-map_map,-mapM_map,↓KW,aG,aD,aK,aM,bE,bC]
   refine aA (ds:=[aG out,.ag (dK (a,b))]) (by rfl) hin ?_
   simp[-map_map,-mapM_map,↓KW,aG,hw2,ec]
   refine aJ (i+1,nA out (a,b)) ⟨by omega,by rw[hm2];exact ho,by simp only;omega,hnb⟩ (by simp only;omega) (aY [1] (by simp) ?_ ?_)
   ·simp[-map_map,upd,aT,Γ0,bQ,aG,hm2]
    omega
   ·simp[-map_map,upd,aT,Γ0,bQ,aG,hm2]
  ·have q1:¬((2*i:Nat):Int)+1<l.length:=by omega
   rw[aXp (by rw[CJ];omega)]at ho
   generalize hm:2*i=m at *
   rw[←ho]
   have e:bV out []=out:=rfl
   rw[e]
   simp[-map_map,-mapM_map,↓KW,bQ,bJ,aG,hw1,q1]
end Go.Am
end

section
set_option linter.unusedVariables false
set_option linter.unusedSimpArgs false
open List (map_map mapM_map)
open Go Go.Am Go.Proofs
namespace Go.Am
def spc:Nat→List Cl
 |0=>[]
 |1=>[⟨1,0,[]⟩]
 |2=>[⟨1,0,[]⟩,⟨7,0,[]⟩]
 |3=>[⟨1,0,[]⟩,⟨2,0,[]⟩,⟨3,1,[(1,-1),(2,1)]⟩]
 |4=>[⟨1,0,[]⟩,⟨2,1,[]⟩]
 |5=>[⟨1,0,[]⟩,⟨2,0,[]⟩,⟨3,0,[]⟩,⟨4,1,[(1,-1),(2,1)]⟩,⟨5,1,[(2,-1),(3,1)]⟩,⟨6,1,[(1,1),(3,-1)]⟩]
 |6=>[⟨1,0,[]⟩,⟨2,0,[]⟩,⟨3,0,[]⟩,⟨4,1,[(1,-1),(2,1)]⟩,⟨5,1,[(2,-1),(3,1)]⟩,⟨6,1,[(1,1),(3,-1)]⟩,⟨9,2,[(4,1),(5,1),(6,1)]⟩]
 |7=>[⟨1,0,[]⟩,⟨2,2,[]⟩]
 |8=>[⟨1,0,[]⟩,⟨2,1,[]⟩,⟨3,1,[]⟩,⟨4,2,[]⟩]
 |9=>[⟨1,0,[]⟩,⟨2,1,[]⟩,⟨3,2,[(2,2)]⟩]
 |10=>[⟨1,0,[]⟩,⟨2,1,[]⟩,⟨3,1,[]⟩,⟨4,2,[(2,2)]⟩]
 |11=>[⟨1,0,[]⟩,⟨2,1,[]⟩,⟨3,2,[(2,3)]⟩,⟨4,3,[]⟩]
 |12=>[⟨1,0,[]⟩,⟨2,1,[]⟩,⟨3,2,[(2,4)]⟩,⟨4,2,[(2,6)]⟩]
 |13=>[⟨1,0,[]⟩,⟨2,1,[]⟩,⟨3,0,[]⟩,⟨5,1,[]⟩,⟨6,2,[(5,2)]⟩]
 |_=>[]
theorem oQ:Spec Tryz.prog 64 [.i .i64 1,.i .i64 0,bQ []] (.ag [.i .i64 1,.i .i64 0,aG []]):=eW 1 0 [] (by decide) (by decide)
theorem oP:Spec Tryz.prog 64 [.i .i64 2,.i .i64 1,bQ []] (.ag [.i .i64 2,.i .i64 1,aG []]):=eW 2 1 [] (by decide) (by decide)
theorem nX:Spec Tryz.prog 64 [.i .i64 2,.i .i64 0,bQ []] (.ag [.i .i64 2,.i .i64 0,aG []]):=eW 2 0 [] (by decide) (by decide)
theorem nW:Spec Tryz.prog 64 [.i .i64 3,.i .i64 0,bQ []] (.ag [.i .i64 3,.i .i64 0,aG []]):=eW 3 0 [] (by decide) (by decide)
theorem oO:Spec Tryz.prog 64 [.i .i64 4,.i .i64 1,bQ [1,-1,2,1]] (.ag [.i .i64 4,.i .i64 1,aG [(1,-1),(2,1)]]):=eW 4 1 [1,-1,2,1] (by decide) (by decide)
theorem oN:Spec Tryz.prog 64 [.i .i64 5,.i .i64 1,bQ [2,-1,3,1]] (.ag [.i .i64 5,.i .i64 1,aG [(2,-1),(3,1)]]):=eW 5 1 [2,-1,3,1] (by decide) (by decide)
theorem oM:Spec Tryz.prog 64 [.i .i64 6,.i .i64 1,bQ [1,1,3,-1]] (.ag [.i .i64 6,.i .i64 1,aG [(1,1),(3,-1)]]):=eW 6 1 [1,1,3,-1] (by decide) (by decide)
theorem bXj:Spec Tryz.prog 64 [.i .i64 7,.i .i64 0,bQ []] (.ag [.i .i64 7,.i .i64 0,aG []]):=eW 7 0 [] (by decide) (by decide)
theorem bXi:Spec Tryz.prog 64 [.i .i64 3,.i .i64 1,bQ [1,-1,2,1]] (.ag [.i .i64 3,.i .i64 1,aG [(1,-1),(2,1)]]):=eW 3 1 [1,-1,2,1] (by decide) (by decide)
theorem bXh:Spec Tryz.prog 64 [.i .i64 9,.i .i64 2,bQ [4,1,5,1,6,1]] (.ag [.i .i64 9,.i .i64 2,aG [(4,1),(5,1),(6,1)]]):=eW 9 2 [4,1,5,1,6,1] (by decide) (by decide)
theorem bUq:Spec Tryz.prog 64 [.i .i64 2,.i .i64 2,bQ []] (.ag [.i .i64 2,.i .i64 2,aG []]):=eW 2 2 [] (by decide) (by decide)
theorem bHq:Spec Tryz.prog 64 [.i .i64 3,.i .i64 1,bQ []] (.ag [.i .i64 3,.i .i64 1,aG []]):=eW 3 1 [] (by decide) (by decide)
theorem bUp:Spec Tryz.prog 64 [.i .i64 4,.i .i64 2,bQ []] (.ag [.i .i64 4,.i .i64 2,aG []]):=eW 4 2 [] (by decide) (by decide)
theorem bUo:Spec Tryz.prog 64 [.i .i64 3,.i .i64 2,bQ [2,2]] (.ag [.i .i64 3,.i .i64 2,aG [(2,2)]]):=eW 3 2 [2,2] (by decide) (by decide)
theorem bUn:Spec Tryz.prog 64 [.i .i64 4,.i .i64 2,bQ [2,2]] (.ag [.i .i64 4,.i .i64 2,aG [(2,2)]]):=eW 4 2 [2,2] (by decide) (by decide)
theorem bUm:Spec Tryz.prog 64 [.i .i64 3,.i .i64 2,bQ [2,3]] (.ag [.i .i64 3,.i .i64 2,aG [(2,3)]]):=eW 3 2 [2,3] (by decide) (by decide)
theorem bUl:Spec Tryz.prog 64 [.i .i64 4,.i .i64 3,bQ []] (.ag [.i .i64 4,.i .i64 3,aG []]):=eW 4 3 [] (by decide) (by decide)
theorem bUk:Spec Tryz.prog 64 [.i .i64 3,.i .i64 2,bQ [2,4]] (.ag [.i .i64 3,.i .i64 2,aG [(2,4)]]):=eW 3 2 [2,4] (by decide) (by decide)
theorem bUj:Spec Tryz.prog 64 [.i .i64 4,.i .i64 2,bQ [2,6]] (.ag [.i .i64 4,.i .i64 2,aG [(2,6)]]):=eW 4 2 [2,6] (by decide) (by decide)
theorem bUi:Spec Tryz.prog 64 [.i .i64 5,.i .i64 1,bQ []] (.ag [.i .i64 5,.i .i64 1,aG []]):=eW 5 1 [] (by decide) (by decide)
theorem bUh:Spec Tryz.prog 64 [.i .i64 6,.i .i64 2,bQ [5,2]] (.ag [.i .i64 6,.i .i64 2,aG [(5,2)]]):=eW 6 2 [5,2] (by decide) (by decide)
set_option maxHeartbeats 2000000 in
set_option maxRecDepth 10000 in
theorem bSe(k:Int)(hk:k.tmod 14=0):Spec Tryz.prog 24 [.i .u8 k] (aF (spc 0)):=by
 have hr:aF (spc 0)=.sl []:=rfl
 have hw:Cg.wrap 0=0:=by decide
 have hm2:∀ n,n≤100→n≤maxLen:=fun n h=>aW (by omega)
 rw[hr]
 refine aZ (N:=104) aI Tryz.func24 rfl rfl rfl (by kernel_rfl) (by kernel_rfl) (by simp) ?_
 simp[-map_map,-mapM_map,↓KW,]
 refine aA (ds:=[.i .i64 1,.i .i64 0,bQ []]) (by rfl) oQ ?_
 simp[-map_map,-mapM_map,↓KW,hk,hw,hm2,aE,aB,aC,aQ]
 refine aA (ds:=[.i .i64 2,.i .i64 1,bQ []]) (by rfl) oP ?_
 simp[-map_map,-mapM_map,↓KW,hk,hw,hm2,aE,aB,aC,aQ]
 refine aA (ds:=[.i .i64 2,.i .i64 0,bQ []]) (by rfl) nX ?_
 simp[-map_map,-mapM_map,↓KW,hk,hw,hm2,aE,aB,aC,aQ]
 refine aA (ds:=[.i .i64 3,.i .i64 0,bQ []]) (by rfl) nW ?_
 simp[-map_map,-mapM_map,↓KW,hk,hw,hm2,aE,aB,aC,aQ]
 refine aA (ds:=[.i .i64 4,.i .i64 1,bQ [1,-1,2,1]]) (by rfl) oO ?_
 simp[-map_map,-mapM_map,↓KW,hk,hw,hm2,aE,aB,aC,aQ]
 refine aA (ds:=[.i .i64 5,.i .i64 1,bQ [2,-1,3,1]]) (by rfl) oN ?_
 simp[-map_map,-mapM_map,↓KW,hk,hw,hm2,aE,aB,aC,aQ]
 refine aA (ds:=[.i .i64 6,.i .i64 1,bQ [1,1,3,-1]]) (by rfl) oM ?_
 simp[-map_map,-mapM_map,↓KW,hk,hw,hm2,aE,aB,aC,aQ]
set_option maxHeartbeats 2000000 in
set_option maxRecDepth 10000 in
theorem bSd(k:Int)(hk:k.tmod 14=1):Spec Tryz.prog 24 [.i .u8 k] (aF (spc 1)):=by
 have hr:aF (spc 1)=.sl [[.i .i64 1,.i .i64 0,aG []]]:=rfl
 have hw:Cg.wrap 1=1:=by decide
 have hm2:∀ n,n≤100→n≤maxLen:=fun n h=>aW (by omega)
 rw[hr]
 refine aZ (N:=104) aI Tryz.func24 rfl rfl rfl (by kernel_rfl) (by kernel_rfl) (by simp) ?_
 simp[-map_map,-mapM_map,↓KW,]
 refine aA (ds:=[.i .i64 1,.i .i64 0,bQ []]) (by rfl) oQ ?_
 simp[-map_map,-mapM_map,↓KW,hk,hw,hm2,aE,aB,aC,aQ]
 refine aA (ds:=[.i .i64 2,.i .i64 1,bQ []]) (by rfl) oP ?_
 simp[-map_map,-mapM_map,↓KW,hk,hw,hm2,aE,aB,aC,aQ]
 refine aA (ds:=[.i .i64 2,.i .i64 0,bQ []]) (by rfl) nX ?_
 simp[-map_map,-mapM_map,↓KW,hk,hw,hm2,aE,aB,aC,aQ]
 refine aA (ds:=[.i .i64 3,.i .i64 0,bQ []]) (by rfl) nW ?_
 simp[-map_map,-mapM_map,↓KW,hk,hw,hm2,aE,aB,aC,aQ]
 refine aA (ds:=[.i .i64 4,.i .i64 1,bQ [1,-1,2,1]]) (by rfl) oO ?_
 simp[-map_map,-mapM_map,↓KW,hk,hw,hm2,aE,aB,aC,aQ]
 refine aA (ds:=[.i .i64 5,.i .i64 1,bQ [2,-1,3,1]]) (by rfl) oN ?_
 simp[-map_map,-mapM_map,↓KW,hk,hw,hm2,aE,aB,aC,aQ]
 refine aA (ds:=[.i .i64 6,.i .i64 1,bQ [1,1,3,-1]]) (by rfl) oM ?_
 simp[-map_map,-mapM_map,↓KW,hk,hw,hm2,aE,aB,aC,aQ]
set_option maxHeartbeats 2000000 in
set_option maxRecDepth 10000 in
theorem bSc(k:Int)(hk:k.tmod 14=2):Spec Tryz.prog 24 [.i .u8 k] (aF (spc 2)):=by
 have hr:aF (spc 2)=.sl [[.i .i64 1,.i .i64 0,aG []],[.i .i64 7,.i .i64 0,aG []]]:=rfl
 have hw:Cg.wrap 2=2:=by decide
 have hm2:∀ n,n≤100→n≤maxLen:=fun n h=>aW (by omega)
 rw[hr]
 refine aZ (N:=104) aI Tryz.func24 rfl rfl rfl (by kernel_rfl) (by kernel_rfl) (by simp) ?_
 simp[-map_map,-mapM_map,↓KW,]
 refine aA (ds:=[.i .i64 1,.i .i64 0,bQ []]) (by rfl) oQ ?_
 simp[-map_map,-mapM_map,↓KW,hk,hw,hm2,aE,aB,aC,aQ]
 refine aA (ds:=[.i .i64 2,.i .i64 1,bQ []]) (by rfl) oP ?_
 simp[-map_map,-mapM_map,↓KW,hk,hw,hm2,aE,aB,aC,aQ]
 refine aA (ds:=[.i .i64 2,.i .i64 0,bQ []]) (by rfl) nX ?_
 simp[-map_map,-mapM_map,↓KW,hk,hw,hm2,aE,aB,aC,aQ]
 refine aA (ds:=[.i .i64 3,.i .i64 0,bQ []]) (by rfl) nW ?_
 simp[-map_map,-mapM_map,↓KW,hk,hw,hm2,aE,aB,aC,aQ]
 refine aA (ds:=[.i .i64 4,.i .i64 1,bQ [1,-1,2,1]]) (by rfl) oO ?_
 simp[-map_map,-mapM_map,↓KW,hk,hw,hm2,aE,aB,aC,aQ]
 refine aA (ds:=[.i .i64 5,.i .i64 1,bQ [2,-1,3,1]]) (by rfl) oN ?_
 simp[-map_map,-mapM_map,↓KW,hk,hw,hm2,aE,aB,aC,aQ]
 refine aA (ds:=[.i .i64 6,.i .i64 1,bQ [1,1,3,-1]]) (by rfl) oM ?_
 simp[-map_map,-mapM_map,↓KW,hk,hw,hm2,aE,aB,aC,aQ]
 refine aA (ds:=[.i .i64 7,.i .i64 0,bQ []]) (by rfl) bXj ?_
 simp[-map_map,-mapM_map,↓KW,hk,hw,hm2,aE,aB,aC,aQ]
set_option maxHeartbeats 2000000 in
set_option maxRecDepth 10000 in
theorem bSb(k:Int)(hk:k.tmod 14=3):Spec Tryz.prog 24 [.i .u8 k] (aF (spc 3)):=by
 have hr:aF (spc 3)=.sl [[.i .i64 1,.i .i64 0,aG []],[.i .i64 2,.i .i64 0,aG []],[.i .i64 3,.i .i64 1,aG [(1,-1),(2,1)]]]:=rfl
 have hw:Cg.wrap 3=3:=by decide
 have hm2:∀ n,n≤100→n≤maxLen:=fun n h=>aW (by omega)
 rw[hr]
 refine aZ (N:=104) aI Tryz.func24 rfl rfl rfl (by kernel_rfl) (by kernel_rfl) (by simp) ?_
 simp[-map_map,-mapM_map,↓KW,]
 refine aA (ds:=[.i .i64 1,.i .i64 0,bQ []]) (by rfl) oQ ?_
 simp[-map_map,-mapM_map,↓KW,hk,hw,hm2,aE,aB,aC,aQ]
 refine aA (ds:=[.i .i64 2,.i .i64 1,bQ []]) (by rfl) oP ?_
 simp[-map_map,-mapM_map,↓KW,hk,hw,hm2,aE,aB,aC,aQ]
 refine aA (ds:=[.i .i64 2,.i .i64 0,bQ []]) (by rfl) nX ?_
 simp[-map_map,-mapM_map,↓KW,hk,hw,hm2,aE,aB,aC,aQ]
 refine aA (ds:=[.i .i64 3,.i .i64 0,bQ []]) (by rfl) nW ?_
 simp[-map_map,-mapM_map,↓KW,hk,hw,hm2,aE,aB,aC,aQ]
 refine aA (ds:=[.i .i64 4,.i .i64 1,bQ [1,-1,2,1]]) (by rfl) oO ?_
 simp[-map_map,-mapM_map,↓KW,hk,hw,hm2,aE,aB,aC,aQ]
 refine aA (ds:=[.i .i64 5,.i .i64 1,bQ [2,-1,3,1]]) (by rfl) oN ?_
 simp[-map_map,-mapM_map,↓KW,hk,hw,hm2,aE,aB,aC,aQ]
 refine aA (ds:=[.i .i64 6,.i .i64 1,bQ [1,1,3,-1]]) (by rfl) oM ?_
 simp[-map_map,-mapM_map,↓KW,hk,hw,hm2,aE,aB,aC,aQ]
 refine aA (ds:=[.i .i64 2,.i .i64 0,bQ []]) (by rfl) nX ?_
 simp[-map_map,-mapM_map,↓KW,hk,hw,hm2,aE,aB,aC,aQ]
 refine aA (ds:=[.i .i64 3,.i .i64 1,bQ [1,-1,2,1]]) (by rfl) bXi ?_
 simp[-map_map,-mapM_map,↓KW,hk,hw,hm2,aE,aB,aC,aQ]
 rfl
set_option maxHeartbeats 2000000 in
set_option maxRecDepth 10000 in
theorem bSa(k:Int)(hk:k.tmod 14=4):Spec Tryz.prog 24 [.i .u8 k] (aF (spc 4)):=by
 have hr:aF (spc 4)=.sl [[.i .i64 1,.i .i64 0,aG []],[.i .i64 2,.i .i64 1,aG []]]:=rfl
 have hw:Cg.wrap 4=4:=by decide
 have hm2:∀ n,n≤100→n≤maxLen:=fun n h=>aW (by omega)
 rw[hr]
 refine aZ (N:=104) aI Tryz.func24 rfl rfl rfl (by kernel_rfl) (by kernel_rfl) (by simp) ?_
 simp[-map_map,-mapM_map,↓KW,]
 refine aA (ds:=[.i .i64 1,.i .i64 0,bQ []]) (by rfl) oQ ?_
 simp[-map_map,-mapM_map,↓KW,hk,hw,hm2,aE,aB,aC,aQ]
 refine aA (ds:=[.i .i64 2,.i .i64 1,bQ []]) (by rfl) oP ?_
 simp[-map_map,-mapM_map,↓KW,hk,hw,hm2,aE,aB,aC,aQ]
 refine aA (ds:=[.i .i64 2,.i .i64 0,bQ []]) (by rfl) nX ?_
 simp[-map_map,-mapM_map,↓KW,hk,hw,hm2,aE,aB,aC,aQ]
 refine aA (ds:=[.i .i64 3,.i .i64 0,bQ []]) (by rfl) nW ?_
 simp[-map_map,-mapM_map,↓KW,hk,hw,hm2,aE,aB,aC,aQ]
 refine aA (ds:=[.i .i64 4,.i .i64 1,bQ [1,-1,2,1]]) (by rfl) oO ?_
 simp[-map_map,-mapM_map,↓KW,hk,hw,hm2,aE,aB,aC,aQ]
 refine aA (ds:=[.i .i64 5,.i .i64 1,bQ [2,-1,3,1]]) (by rfl) oN ?_
 simp[-map_map,-mapM_map,↓KW,hk,hw,hm2,aE,aB,aC,aQ]
 refine aA (ds:=[.i .i64 6,.i .i64 1,bQ [1,1,3,-1]]) (by rfl) oM ?_
 simp[-map_map,-mapM_map,↓KW,hk,hw,hm2,aE,aB,aC,aQ]
set_option maxHeartbeats 2000000 in
set_option maxRecDepth 10000 in
theorem bRz(k:Int)(hk:k.tmod 14=5):Spec Tryz.prog 24 [.i .u8 k] (aF (spc 5)):=by
 have hr:aF (spc 5)=.sl [[.i .i64 1,.i .i64 0,aG []],[.i .i64 2,.i .i64 0,aG []],[.i .i64 3,.i .i64 0,aG []],[.i .i64 4,.i .i64 1,aG [(1,-1),(2,1)]],[.i .i64 5,.i .i64 1,aG [(2,-1),(3,1)]],[.i .i64 6,.i .i64 1,aG [(1,1),(3,-1)]]]:=rfl
 have hw:Cg.wrap 5=5:=by decide
 have hm2:∀ n,n≤100→n≤maxLen:=fun n h=>aW (by omega)
 rw[hr]
 refine aZ (N:=104) aI Tryz.func24 rfl rfl rfl (by kernel_rfl) (by kernel_rfl) (by simp) ?_
 simp[-map_map,-mapM_map,↓KW,]
 refine aA (ds:=[.i .i64 1,.i .i64 0,bQ []]) (by rfl) oQ ?_
 simp[-map_map,-mapM_map,↓KW,hk,hw,hm2,aE,aB,aC,aQ]
 refine aA (ds:=[.i .i64 2,.i .i64 1,bQ []]) (by rfl) oP ?_
 simp[-map_map,-mapM_map,↓KW,hk,hw,hm2,aE,aB,aC,aQ]
 refine aA (ds:=[.i .i64 2,.i .i64 0,bQ []]) (by rfl) nX ?_
 simp[-map_map,-mapM_map,↓KW,hk,hw,hm2,aE,aB,aC,aQ]
 refine aA (ds:=[.i .i64 3,.i .i64 0,bQ []]) (by rfl) nW ?_
 simp[-map_map,-mapM_map,↓KW,hk,hw,hm2,aE,aB,aC,aQ]
 refine aA (ds:=[.i .i64 4,.i .i64 1,bQ [1,-1,2,1]]) (by rfl) oO ?_
 simp[-map_map,-mapM_map,↓KW,hk,hw,hm2,aE,aB,aC,aQ]
 refine aA (ds:=[.i .i64 5,.i .i64 1,bQ [2,-1,3,1]]) (by rfl) oN ?_
 simp[-map_map,-mapM_map,↓KW,hk,hw,hm2,aE,aB,aC,aQ]
 refine aA (ds:=[.i .i64 6,.i .i64 1,bQ [1,1,3,-1]]) (by rfl) oM ?_
 simp[-map_map,-mapM_map,↓KW,hk,hw,hm2,aE,aB,aC,aQ]
 rfl
set_option maxHeartbeats 2000000 in
set_option maxRecDepth 10000 in
theorem bRy(k:Int)(hk:k.tmod 14=6):Spec Tryz.prog 24 [.i .u8 k] (aF (spc 6)):=by
 have hr:aF (spc 6)=.sl [[.i .i64 1,.i .i64 0,aG []],[.i .i64 2,.i .i64 0,aG []],[.i .i64 3,.i .i64 0,aG []],[.i .i64 4,.i .i64 1,aG [(1,-1),(2,1)]],[.i .i64 5,.i .i64 1,aG [(2,-1),(3,1)]],[.i .i64 6,.i .i64 1,aG [(1,1),(3,-1)]],[.i .i64 9,.i .i64 2,aG [(4,1),(5,1),(6,1)]]]:=rfl
 have hw:Cg.wrap 6=6:=by decide
 have hm2:∀ n,n≤100→n≤maxLen:=fun n h=>aW (by omega)
 rw[hr]
 refine aZ (N:=104) aI Tryz.func24 rfl rfl rfl (by kernel_rfl) (by kernel_rfl) (by simp) ?_
 simp[-map_map,-mapM_map,↓KW,]
 refine aA (ds:=[.i .i64 1,.i .i64 0,bQ []]) (by rfl) oQ ?_
 simp[-map_map,-mapM_map,↓KW,hk,hw,hm2,aE,aB,aC,aQ]
 refine aA (ds:=[.i .i64 2,.i .i64 1,bQ []]) (by rfl) oP ?_
 simp[-map_map,-mapM_map,↓KW,hk,hw,hm2,aE,aB,aC,aQ]
 refine aA (ds:=[.i .i64 2,.i .i64 0,bQ []]) (by rfl) nX ?_
 simp[-map_map,-mapM_map,↓KW,hk,hw,hm2,aE,aB,aC,aQ]
 refine aA (ds:=[.i .i64 3,.i .i64 0,bQ []]) (by rfl) nW ?_
 simp[-map_map,-mapM_map,↓KW,hk,hw,hm2,aE,aB,aC,aQ]
 refine aA (ds:=[.i .i64 4,.i .i64 1,bQ [1,-1,2,1]]) (by rfl) oO ?_
 simp[-map_map,-mapM_map,↓KW,hk,hw,hm2,aE,aB,aC,aQ]
 refine aA (ds:=[.i .i64 5,.i .i64 1,bQ [2,-1,3,1]]) (by rfl) oN ?_
 simp[-map_map,-mapM_map,↓KW,hk,hw,hm2,aE,aB,aC,aQ]
 refine aA (ds:=[.i .i64 6,.i .i64 1,bQ [1,1,3,-1]]) (by rfl) oM ?_
 simp[-map_map,-mapM_map,↓KW,hk,hw,hm2,aE,aB,aC,aQ]
 refine aA (ds:=[.i .i64 9,.i .i64 2,bQ [4,1,5,1,6,1]]) (by rfl) bXh ?_
 simp[-map_map,-mapM_map,↓KW,hk,hw,hm2,aE,aB,aC,aQ]
 rfl
set_option maxHeartbeats 2000000 in
set_option maxRecDepth 10000 in
theorem bRx(k:Int)(hk:k.tmod 14=7):Spec Tryz.prog 24 [.i .u8 k] (aF (spc 7)):=by
 have hr:aF (spc 7)=.sl [[.i .i64 1,.i .i64 0,aG []],[.i .i64 2,.i .i64 2,aG []]]:=rfl
 have hw:Cg.wrap 7=7:=by decide
 have hm2:∀ n,n≤100→n≤maxLen:=fun n h=>aW (by omega)
 rw[hr]
 refine aZ (N:=104) aI Tryz.func24 rfl rfl rfl (by kernel_rfl) (by kernel_rfl) (by simp) ?_
 simp[-map_map,-mapM_map,↓KW,]
 refine aA (ds:=[.i .i64 1,.i .i64 0,bQ []]) (by rfl) oQ ?_
 simp[-map_map,-mapM_map,↓KW,hk,hw,hm2,aE,aB,aC,aQ]
 refine aA (ds:=[.i .i64 2,.i .i64 1,bQ []]) (by rfl) oP ?_
 simp[-map_map,-mapM_map,↓KW,hk,hw,hm2,aE,aB,aC,aQ]
 refine aA (ds:=[.i .i64 2,.i .i64 0,bQ []]) (by rfl) nX ?_
 simp[-map_map,-mapM_map,↓KW,hk,hw,hm2,aE,aB,aC,aQ]
 refine aA (ds:=[.i .i64 3,.i .i64 0,bQ []]) (by rfl) nW ?_
 simp[-map_map,-mapM_map,↓KW,hk,hw,hm2,aE,aB,aC,aQ]
 refine aA (ds:=[.i .i64 4,.i .i64 1,bQ [1,-1,2,1]]) (by rfl) oO ?_
 simp[-map_map,-mapM_map,↓KW,hk,hw,hm2,aE,aB,aC,aQ]
 refine aA (ds:=[.i .i64 5,.i .i64 1,bQ [2,-1,3,1]]) (by rfl) oN ?_
 simp[-map_map,-mapM_map,↓KW,hk,hw,hm2,aE,aB,aC,aQ]
 refine aA (ds:=[.i .i64 6,.i .i64 1,bQ [1,1,3,-1]]) (by rfl) oM ?_
 simp[-map_map,-mapM_map,↓KW,hk,hw,hm2,aE,aB,aC,aQ]
 refine aA (ds:=[.i .i64 2,.i .i64 2,bQ []]) (by rfl) bUq ?_
 simp[-map_map,-mapM_map,↓KW,hk,hw,hm2,aE,aB,aC,aQ]
set_option maxHeartbeats 2000000 in
set_option maxRecDepth 10000 in
theorem bRw(k:Int)(hk:k.tmod 14=8):Spec Tryz.prog 24 [.i .u8 k] (aF (spc 8)):=by
 have hr:aF (spc 8)=.sl [[.i .i64 1,.i .i64 0,aG []],[.i .i64 2,.i .i64 1,aG []],[.i .i64 3,.i .i64 1,aG []],[.i .i64 4,.i .i64 2,aG []]]:=rfl
 have hw:Cg.wrap 8=8:=by decide
 have hm2:∀ n,n≤100→n≤maxLen:=fun n h=>aW (by omega)
 rw[hr]
 refine aZ (N:=104) aI Tryz.func24 rfl rfl rfl (by kernel_rfl) (by kernel_rfl) (by simp) ?_
 simp[-map_map,-mapM_map,↓KW,]
 refine aA (ds:=[.i .i64 1,.i .i64 0,bQ []]) (by rfl) oQ ?_
 simp[-map_map,-mapM_map,↓KW,hk,hw,hm2,aE,aB,aC,aQ]
 refine aA (ds:=[.i .i64 2,.i .i64 1,bQ []]) (by rfl) oP ?_
 simp[-map_map,-mapM_map,↓KW,hk,hw,hm2,aE,aB,aC,aQ]
 refine aA (ds:=[.i .i64 2,.i .i64 0,bQ []]) (by rfl) nX ?_
 simp[-map_map,-mapM_map,↓KW,hk,hw,hm2,aE,aB,aC,aQ]
 refine aA (ds:=[.i .i64 3,.i .i64 0,bQ []]) (by rfl) nW ?_
 simp[-map_map,-mapM_map,↓KW,hk,hw,hm2,aE,aB,aC,aQ]
 refine aA (ds:=[.i .i64 4,.i .i64 1,bQ [1,-1,2,1]]) (by rfl) oO ?_
 simp[-map_map,-mapM_map,↓KW,hk,hw,hm2,aE,aB,aC,aQ]
 refine aA (ds:=[.i .i64 5,.i .i64 1,bQ [2,-1,3,1]]) (by rfl) oN ?_
 simp[-map_map,-mapM_map,↓KW,hk,hw,hm2,aE,aB,aC,aQ]
 refine aA (ds:=[.i .i64 6,.i .i64 1,bQ [1,1,3,-1]]) (by rfl) oM ?_
 simp[-map_map,-mapM_map,↓KW,hk,hw,hm2,aE,aB,aC,aQ]
 refine aA (ds:=[.i .i64 3,.i .i64 1,bQ []]) (by rfl) bHq ?_
 simp[-map_map,-mapM_map,↓KW,hk,hw,hm2,aE,aB,aC,aQ]
 refine aA (ds:=[.i .i64 4,.i .i64 2,bQ []]) (by rfl) bUp ?_
 simp[-map_map,-mapM_map,↓KW,hk,hw,hm2,aE,aB,aC,aQ]
 rfl
set_option maxHeartbeats 2000000 in
set_option maxRecDepth 10000 in
theorem bRv(k:Int)(hk:k.tmod 14=9):Spec Tryz.prog 24 [.i .u8 k] (aF (spc 9)):=by
 have hr:aF (spc 9)=.sl [[.i .i64 1,.i .i64 0,aG []],[.i .i64 2,.i .i64 1,aG []],[.i .i64 3,.i .i64 2,aG [(2,2)]]]:=rfl
 have hw:Cg.wrap 9=9:=by decide
 have hm2:∀ n,n≤100→n≤maxLen:=fun n h=>aW (by omega)
 rw[hr]
 refine aZ (N:=104) aI Tryz.func24 rfl rfl rfl (by kernel_rfl) (by kernel_rfl) (by simp) ?_
 simp[-map_map,-mapM_map,↓KW,]
 refine aA (ds:=[.i .i64 1,.i .i64 0,bQ []]) (by rfl) oQ ?_
 simp[-map_map,-mapM_map,↓KW,hk,hw,hm2,aE,aB,aC,aQ]
 refine aA (ds:=[.i .i64 2,.i .i64 1,bQ []]) (by rfl) oP ?_
 simp[-map_map,-mapM_map,↓KW,hk,hw,hm2,aE,aB,aC,aQ]
 refine aA (ds:=[.i .i64 2,.i .i64 0,bQ []]) (by rfl) nX ?_
 simp[-map_map,-mapM_map,↓KW,hk,hw,hm2,aE,aB,aC,aQ]
 refine aA (ds:=[.i .i64 3,.i .i64 0,bQ []]) (by rfl) nW ?_
 simp[-map_map,-mapM_map,↓KW,hk,hw,hm2,aE,aB,aC,aQ]
 refine aA (ds:=[.i .i64 4,.i .i64 1,bQ [1,-1,2,1]]) (by rfl) oO ?_
 simp[-map_map,-mapM_map,↓KW,hk,hw,hm2,aE,aB,aC,aQ]
 refine aA (ds:=[.i .i64 5,.i .i64 1,bQ [2,-1,3,1]]) (by rfl) oN ?_
 simp[-map_map,-mapM_map,↓KW,hk,hw,hm2,aE,aB,aC,aQ]
 refine aA (ds:=[.i .i64 6,.i .i64 1,bQ [1,1,3,-1]]) (by rfl) oM ?_
 simp[-map_map,-mapM_map,↓KW,hk,hw,hm2,aE,aB,aC,aQ]
 refine aA (ds:=[.i .i64 3,.i .i64 2,bQ [2,2]]) (by rfl) bUo ?_
 simp[-map_map,-mapM_map,↓KW,hk,hw,hm2,aE,aB,aC,aQ]
 rfl
set_option maxHeartbeats 2000000 in
set_option maxRecDepth 10000 in
theorem bKv(k:Int)(hk:k.tmod 14=10):Spec Tryz.prog 24 [.i .u8 k] (aF (spc 10)):=by
 have hr:aF (spc 10)=.sl [[.i .i64 1,.i .i64 0,aG []],[.i .i64 2,.i .i64 1,aG []],[.i .i64 3,.i .i64 1,aG []],[.i .i64 4,.i .i64 2,aG [(2,2)]]]:=rfl
 have hw:Cg.wrap 10=10:=by decide
 have hm2:∀ n,n≤100→n≤maxLen:=fun n h=>aW (by omega)
 rw[hr]
 refine aZ (N:=104) aI Tryz.func24 rfl rfl rfl (by kernel_rfl) (by kernel_rfl) (by simp) ?_
 simp[-map_map,-mapM_map,↓KW,]
 refine aA (ds:=[.i .i64 1,.i .i64 0,bQ []]) (by rfl) oQ ?_
 simp[-map_map,-mapM_map,↓KW,hk,hw,hm2,aE,aB,aC,aQ]
 refine aA (ds:=[.i .i64 2,.i .i64 1,bQ []]) (by rfl) oP ?_
 simp[-map_map,-mapM_map,↓KW,hk,hw,hm2,aE,aB,aC,aQ]
 refine aA (ds:=[.i .i64 2,.i .i64 0,bQ []]) (by rfl) nX ?_
 simp[-map_map,-mapM_map,↓KW,hk,hw,hm2,aE,aB,aC,aQ]
 refine aA (ds:=[.i .i64 3,.i .i64 0,bQ []]) (by rfl) nW ?_
 simp[-map_map,-mapM_map,↓KW,hk,hw,hm2,aE,aB,aC,aQ]
 refine aA (ds:=[.i .i64 4,.i .i64 1,bQ [1,-1,2,1]]) (by rfl) oO ?_
 simp[-map_map,-mapM_map,↓KW,hk,hw,hm2,aE,aB,aC,aQ]
 refine aA (ds:=[.i .i64 5,.i .i64 1,bQ [2,-1,3,1]]) (by rfl) oN ?_
 simp[-map_map,-mapM_map,↓KW,hk,hw,hm2,aE,aB,aC,aQ]
 refine aA (ds:=[.i .i64 6,.i .i64 1,bQ [1,1,3,-1]]) (by rfl) oM ?_
 simp[-map_map,-mapM_map,↓KW,hk,hw,hm2,aE,aB,aC,aQ]
 refine aA (ds:=[.i .i64 3,.i .i64 1,bQ []]) (by rfl) bHq ?_
 simp[-map_map,-mapM_map,↓KW,hk,hw,hm2,aE,aB,aC,aQ]
 refine aA (ds:=[.i .i64 4,.i .i64 2,bQ [2,2]]) (by rfl) bUn ?_
 simp[-map_map,-mapM_map,↓KW,hk,hw,hm2,aE,aB,aC,aQ]
 rfl
set_option maxHeartbeats 2000000 in
set_option maxRecDepth 10000 in
theorem bKu(k:Int)(hk:k.tmod 14=11):Spec Tryz.prog 24 [.i .u8 k] (aF (spc 11)):=by
 have hr:aF (spc 11)=.sl [[.i .i64 1,.i .i64 0,aG []],[.i .i64 2,.i .i64 1,aG []],[.i .i64 3,.i .i64 2,aG [(2,3)]],[.i .i64 4,.i .i64 3,aG []]]:=rfl
 have hw:Cg.wrap 11=11:=by decide
 have hm2:∀ n,n≤100→n≤maxLen:=fun n h=>aW (by omega)
 rw[hr]
 refine aZ (N:=104) aI Tryz.func24 rfl rfl rfl (by kernel_rfl) (by kernel_rfl) (by simp) ?_
 simp[-map_map,-mapM_map,↓KW,]
 refine aA (ds:=[.i .i64 1,.i .i64 0,bQ []]) (by rfl) oQ ?_
 simp[-map_map,-mapM_map,↓KW,hk,hw,hm2,aE,aB,aC,aQ]
 refine aA (ds:=[.i .i64 2,.i .i64 1,bQ []]) (by rfl) oP ?_
 simp[-map_map,-mapM_map,↓KW,hk,hw,hm2,aE,aB,aC,aQ]
 refine aA (ds:=[.i .i64 2,.i .i64 0,bQ []]) (by rfl) nX ?_
 simp[-map_map,-mapM_map,↓KW,hk,hw,hm2,aE,aB,aC,aQ]
 refine aA (ds:=[.i .i64 3,.i .i64 0,bQ []]) (by rfl) nW ?_
 simp[-map_map,-mapM_map,↓KW,hk,hw,hm2,aE,aB,aC,aQ]
 refine aA (ds:=[.i .i64 4,.i .i64 1,bQ [1,-1,2,1]]) (by rfl) oO ?_
 simp[-map_map,-mapM_map,↓KW,hk,hw,hm2,aE,aB,aC,aQ]
 refine aA (ds:=[.i .i64 5,.i .i64 1,bQ [2,-1,3,1]]) (by rfl) oN ?_
 simp[-map_map,-mapM_map,↓KW,hk,hw,hm2,aE,aB,aC,aQ]
 refine aA (ds:=[.i .i64 6,.i .i64 1,bQ [1,1,3,-1]]) (by rfl) oM ?_
 simp[-map_map,-mapM_map,↓KW,hk,hw,hm2,aE,aB,aC,aQ]
 refine aA (ds:=[.i .i64 3,.i .i64 2,bQ [2,3]]) (by rfl) bUm ?_
 simp[-map_map,-mapM_map,↓KW,hk,hw,hm2,aE,aB,aC,aQ]
 refine aA (ds:=[.i .i64 4,.i .i64 3,bQ []]) (by rfl) bUl ?_
 simp[-map_map,-mapM_map,↓KW,hk,hw,hm2,aE,aB,aC,aQ]
 rfl
set_option maxHeartbeats 2000000 in
set_option maxRecDepth 10000 in
theorem bKt(k:Int)(hk:k.tmod 14=12):Spec Tryz.prog 24 [.i .u8 k] (aF (spc 12)):=by
 have hr:aF (spc 12)=.sl [[.i .i64 1,.i .i64 0,aG []],[.i .i64 2,.i .i64 1,aG []],[.i .i64 3,.i .i64 2,aG [(2,4)]],[.i .i64 4,.i .i64 2,aG [(2,6)]]]:=rfl
 have hw:Cg.wrap 12=12:=by decide
 have hm2:∀ n,n≤100→n≤maxLen:=fun n h=>aW (by omega)
 rw[hr]
 refine aZ (N:=104) aI Tryz.func24 rfl rfl rfl (by kernel_rfl) (by kernel_rfl) (by simp) ?_
 simp[-map_map,-mapM_map,↓KW,]
 refine aA (ds:=[.i .i64 1,.i .i64 0,bQ []]) (by rfl) oQ ?_
 simp[-map_map,-mapM_map,↓KW,hk,hw,hm2,aE,aB,aC,aQ]
 refine aA (ds:=[.i .i64 2,.i .i64 1,bQ []]) (by rfl) oP ?_
 simp[-map_map,-mapM_map,↓KW,hk,hw,hm2,aE,aB,aC,aQ]
 refine aA (ds:=[.i .i64 2,.i .i64 0,bQ []]) (by rfl) nX ?_
 simp[-map_map,-mapM_map,↓KW,hk,hw,hm2,aE,aB,aC,aQ]
 refine aA (ds:=[.i .i64 3,.i .i64 0,bQ []]) (by rfl) nW ?_
 simp[-map_map,-mapM_map,↓KW,hk,hw,hm2,aE,aB,aC,aQ]
 refine aA (ds:=[.i .i64 4,.i .i64 1,bQ [1,-1,2,1]]) (by rfl) oO ?_
 simp[-map_map,-mapM_map,↓KW,hk,hw,hm2,aE,aB,aC,aQ]
 refine aA (ds:=[.i .i64 5,.i .i64 1,bQ [2,-1,3,1]]) (by rfl) oN ?_
 simp[-map_map,-mapM_map,↓KW,hk,hw,hm2,aE,aB,aC,aQ]
 refine aA (ds:=[.i .i64 6,.i .i64 1,bQ [1,1,3,-1]]) (by rfl) oM ?_
 simp[-map_map,-mapM_map,↓KW,hk,hw,hm2,aE,aB,aC,aQ]
 refine aA (ds:=[.i .i64 3,.i .i64 2,bQ [2,4]]) (by rfl) bUk ?_
 simp[-map_map,-mapM_map,↓KW,hk,hw,hm2,aE,aB,aC,aQ]
 refine aA (ds:=[.i .i64 4,.i .i64 2,bQ [2,6]]) (by rfl) bUj ?_
 simp[-map_map,-mapM_map,↓KW,hk,hw,hm2,aE,aB,aC,aQ]
 rfl
set_option maxHeartbeats 2000000 in
set_option maxRecDepth 10000 in
theorem bKs(k:Int)(hk:k.tmod 14=13):Spec Tryz.prog 24 [.i .u8 k] (aF (spc 13)):=by
 have hr:aF (spc 13)=.sl [[.i .i64 1,.i .i64 0,aG []],[.i .i64 2,.i .i64 1,aG []],[.i .i64 3,.i .i64 0,aG []],[.i .i64 5,.i .i64 1,aG []],[.i .i64 6,.i .i64 2,aG [(5,2)]]]:=rfl
 have hw:Cg.wrap 13=13:=by decide
 have hm2:∀ n,n≤100→n≤maxLen:=fun n h=>aW (by omega)
 rw[hr]
 refine aZ (N:=104) aI Tryz.func24 rfl rfl rfl (by kernel_rfl) (by kernel_rfl) (by simp) ?_
 simp[-map_map,-mapM_map,↓KW,]
 refine aA (ds:=[.i .i64 1,.i .i64 0,bQ []]) (by rfl) oQ ?_
 simp[-map_map,-mapM_map,↓KW,hk,hw,hm2,aE,aB,aC,aQ]
 refine aA (ds:=[.i .i64 2,.i .i64 1,bQ []]) (by rfl) oP ?_
 simp[-map_map,-mapM_map,↓KW,hk,hw,hm2,aE,aB,aC,aQ]
 refine aA (ds:=[.i .i64 2,.i .i64 0,bQ []]) (by rfl) nX ?_
 simp[-map_map,-mapM_map,↓KW,hk,hw,hm2,aE,aB,aC,aQ]
 refine aA (ds:=[.i .i64 3,.i .i64 0,bQ []]) (by rfl) nW ?_
 simp[-map_map,-mapM_map,↓KW,hk,hw,hm2,aE,aB,aC,aQ]
 refine aA (ds:=[.i .i64 4,.i .i64 1,bQ [1,-1,2,1]]) (by rfl) oO ?_
 simp[-map_map,-mapM_map,↓KW,hk,hw,hm2,aE,aB,aC,aQ]
 refine aA (ds:=[.i .i64 5,.i .i64 1,bQ [2,-1,3,1]]) (by rfl) oN ?_
 simp[-map_map,-mapM_map,↓KW,hk,hw,hm2,aE,aB,aC,aQ]
 refine aA (ds:=[.i .i64 6,.i .i64 1,bQ [1,1,3,-1]]) (by rfl) oM ?_
 simp[-map_map,-mapM_map,↓KW,hk,hw,hm2,aE,aB,aC,aQ]
 refine aA (ds:=[.i .i64 3,.i .i64 0,bQ []]) (by rfl) nW ?_
 simp[-map_map,-mapM_map,↓KW,hk,hw,hm2,aE,aB,aC,aQ]
 refine aA (ds:=[.i .i64 5,.i .i64 1,bQ []]) (by rfl) bUi ?_
 simp[-map_map,-mapM_map,↓KW,hk,hw,hm2,aE,aB,aC,aQ]
 refine aA (ds:=[.i .i64 6,.i .i64 2,bQ [5,2]]) (by rfl) bUh ?_
 simp[-map_map,-mapM_map,↓KW,hk,hw,hm2,aE,aB,aC,aQ]
 rfl
end Go.Am
end
