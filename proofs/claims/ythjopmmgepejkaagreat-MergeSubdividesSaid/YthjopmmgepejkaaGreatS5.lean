/- The reference's complexes: Cycles, Grown. No condition. -/
import Derived.Test.YthjopmmgepejkaaGreatS4
import Derived.Test.YthjopmmgepejkaaGreatS3
section
set_option linter.unusedVariables false
set_option linter.unusedSimpArgs false
open List (map_map mapM_map)
open Go Go.Am Go.Proofs
namespace Go.Am
theorem jP {x y q r:Int} (hy:y≠0) (h:r+y * q=x) (h0:0≤r) (h1:r<(y.natAbs:Int)):x / y=q∧x % y=r:=by
 by_cases hp:0<y
 ·exact (Int.ediv_emod_unique hp).2 ⟨h,h0,by omega⟩
 ·obtain ⟨z,hz⟩:∃ z,y=-z:=⟨-y,by omega⟩
  subst hz
  have:=(Int.ediv_emod_unique (a:=x) (b:=z) (q:=-q) (r:=r) (by omega)).2 ⟨by rw [← h,Int.mul_neg,Int.neg_mul],h0,by omega⟩
  rw [Int.ediv_neg,Int.emod_neg]
  omega
theorem aEk (x:Int) (hx:(aV x.natAbs).length≤1099511627776):Spec Tryz.prog 78 [aG (aV x.natAbs),.b (decide (x<0))] (encZ x):=by
 have hm:=fT (aV x.natAbs) (decide (x<0)) hx
 rwa [dR (cD _),cQ,gT] at hm
theorem bCg (x y:Int) (hy:y≠0) {qq rr:Nat} (hqq:x.natAbs / y.natAbs=qq) (hrr:x.natAbs % y.natAbs=rr) :
  (rr<y.natAbs)∧qq * y.natAbs+rr=x.natAbs∧(¬ x<0→¬ y<0→x / y=qq∧x % y=rr)∧(¬ x<0→y<0→x / y=-(qq:Int)∧x % y=rr) ∧
  (x<0→rr=0→¬ y<0→x / y=-(qq:Int)∧x % y=0)∧(x<0→rr=0→y<0→x / y=qq∧x % y=0) ∧
  (x<0→0<rr→¬ y<0→x / y=-((qq:Int)+1)∧x % y=(y.natAbs:Int) - rr)∧(x<0→0<rr→y<0→x / y=(qq:Int)+1∧x % y=(y.natAbs:Int) - rr):=by
 have hya:0<y.natAbs:=by omega
 have h1:rr<y.natAbs:=by rw [← hrr]; exact Nat.mod_lt _ hya
 have h2:qq * y.natAbs+rr=x.natAbs:=by rw [← hqq,← hrr,Nat.mul_comm]; exact Nat.div_add_mod ..
 have h3:(qq:Int) * (y.natAbs:Int)+rr=(x.natAbs:Int):=by exact_mod_cast h2
 have ep:¬ y<0→(y.natAbs:Int)=y:=fun h=>by omega
 have en:y<0→(y.natAbs:Int)=-y:=fun h=>by omega
 refine ⟨h1,h2,fun hx h=>?_,fun hx h=>?_,fun hx h0 h=>?_,fun hx h0 h=>?_,fun hx h0 h=>?_,fun hx h0 h=>?_⟩
 ·exact jP hy (by rw [ep h,Int.mul_comm] at h3; omega) (by omega) (by omega)
 ·exact jP hy (by rw [en h,Int.mul_neg,Int.mul_comm] at h3; rw [Int.mul_neg]; omega) (by omega) (by omega)
 ·exact jP hy (by rw [ep h,Int.mul_comm] at h3; rw [Int.mul_neg]; omega) (by omega) (by omega)
 ·exact jP hy (by rw [en h,Int.mul_neg,Int.mul_comm] at h3; omega) (by omega) (by omega)
 ·exact jP hy (by rw [ep h,Int.mul_comm] at h3; rw [ep h,Int.mul_neg,Int.mul_add]; omega) (by omega) (by omega)
 ·exact jP hy (by rw [en h,Int.mul_neg,Int.mul_comm] at h3; rw [en h,Int.mul_add]; omega) (by omega) (by omega)
theorem aCy (n:Nat):(aV (n+1)).length≤(aV n).length+1:=by
 have h:=fG (Nat.le_refl (aV n).length)
 refine eO ?_
 rw [Nat.pow_succ]
 have:0<4294967296 ^ (aV n).length:=Nat.pow_pos (by decide)
 omega
theorem aUf (y:Int) (hy:(aV y.natAbs).length≤1099511627776):Spec Tryz.prog 78 [aG (aV y.natAbs),.b false] (encZ (y.natAbs:Int)):=by
 have hm:=fT (aV y.natAbs) false hy
 rw [dR (cD _),cQ] at hm
 exact hm
set_option maxRecDepth 10000 in
theorem aDo (x y:Int) (hy:y≠0) (hx:(aV x.natAbs).length≤34359738368) (hyl:(aV y.natAbs).length≤34359738368):Spec Tryz.prog 171 [encZ x,encZ y] (.tp [encZ (x / y),encZ (x % y),.i .i64 0]):=by
 have hx0:=hx
 have hyl0:=hyl
 refine aWw (N:=56) aF Tryz.func171 rfl rfl rfl (by kernel_rfl) (by kernel_rfl) (by simp) ?_
 obtain ⟨qq,hqq⟩:∃ q,x.natAbs / y.natAbs=q:=⟨_,rfl⟩
 obtain ⟨rr,hrr⟩:∃ q,x.natAbs % y.natAbs=q:=⟨_,rfl⟩
 have hf:=bCg x y hy hqq hrr
 obtain ⟨Q,hQ⟩:∃ Q,x / y=Q:=⟨_,rfl⟩
 obtain ⟨R,hR⟩:∃ Q,x % y=Q:=⟨_,rfl⟩
 have hm1:=aEk x (by omega)
 have hm2:=aEk y (by omega)
 have hd:=aTg x.natAbs y.natAbs qq rr hqq hrr (by omega) hx hyl
 have hs:=eJ y
 have hs0:y.sign≠0:=fun h=>hy (Int.sign_eq_zero_iff_zero.1 h)
 have hmy:=aUf y (by omega)
 have hlq:(aV qq).length≤34359738368:=Nat.le_trans (dN (by rw [← hqq]; exact Nat.div_le_self ..)) hx0
 have hlr:(aV rr).length≤34359738368:=Nat.le_trans (dN (by have:=hf.1; omega)) hyl0
 have hnq:((qq:Int)).natAbs=qq:=Int.natAbs_natCast qq
 have hnr:((rr:Int)).natAbs=rr:=Int.natAbs_natCast rr
 have hny0:((y.natAbs:Int)).natAbs=y.natAbs:=Int.natAbs_natCast _
 have hof:=uC 1 (by decide) (by decide)
 have had:=oU (qq:Int) 1 (by rw [hnq]; omega) (Nat.le_trans (eO (k:=1) (by decide)) (by decide))
 have hsu:=aGc (y.natAbs:Int) (rr:Int) (by rw [hny0]; omega) (by rw [hnr]; omega)
 have hn1:=lT (qq:Int) (by rw [hnq]; omega)
 have hn2:=lT ((qq:Int)+1) (by
  have:((qq:Int)+1).natAbs=qq+1:=by omega
  rw [this]
  have:=aCy qq
  omega)
 have hsr:=eJ (rr:Int)
 have hz:∀ z:Int,∃ s m,encZ z=.ag [.b s,aG m]:=fun z=>⟨_,_,rfl⟩
 obtain ⟨sq,mq,eq⟩:=hz qq
 obtain ⟨sr,mr,er⟩:=hz rr
 obtain ⟨s1,m1,e1⟩:=hz 1
 obtain ⟨sp,mp,ep⟩:=hz ((qq:Int)+1)
 obtain ⟨sy,my,ey0⟩:=hz (y.natAbs:Int)
 obtain ⟨sd,md,ed⟩:=hz ((y.natAbs:Int) - rr)
 obtain ⟨sn,mn,en1⟩:=hz (-(qq:Int))
 obtain ⟨sm,mm,en2⟩:=hz (-((qq:Int)+1))
 rw [eq,er] at hd
 rw [e1] at hof
 rw [eq,e1,ep] at had
 rw [ey0,er,ed] at hsu
 rw [eq,en1] at hn1
 rw [ep,en2] at hn2
 rw [er] at hsr
 rw [ey0] at hmy
 have hsg0:rr=0→(rr:Int).sign=0:=fun h=>by rw [h]; rfl
 have hsg1:¬ rr=0→(rr:Int).sign=1:=fun h=>Int.sign_eq_one_of_pos (by omega)
 rw [hQ,hR] at hf ⊢
 have ex:encZ x=.ag [.b (decide (x<0)),aG (aV x.natAbs)]:=rfl
 have ey:encZ y=.ag [.b (decide (y<0)),aG (aV y.natAbs)]:=rfl
 rw [ex] at hm1 ⊢
 rw [ey] at hm2 hs ⊢
 generalize aV x.natAbs=a at *
 generalize aV y.natAbs=b at *
 by_cases hnx:x<0 <;> by_cases hny:y<0
 ·rw [decide_eq_true hnx,decide_eq_true hny] at *
  by_cases hr0:rr=0
  ·obtain ⟨f1,f2⟩:=hf.2.2.2.2.2.1 hnx hr0 hny
   have e0:encZ 0=.ag [.b sr,aG mr]:=by rw [← er,hr0]; rfl
   have hsg:=hsg0 hr0
   rw [f1,f2,eq,e0]
   have hs1:(y.sign == 0)=false:=by simpa using hs0
   simp [-map_map,-mapM_map,↓KW,↓aN,↓aO,aR,aG]
   refine aA (ds:=[aG a,.b true]) (by rfl) hm1 ?_
   simp [-map_map,-mapM_map,↓KW,↓aN,↓aO,aR,aG]
   refine aA (ds:=[aG b,.b true]) (by rfl) hm2 ?_
   simp [-map_map,-mapM_map,↓KW,↓aN,↓aO,aR,aG]
   refine aA (ds:=[.ag [.b true,aG b]]) ?_ hs ?_
   ·simp [-map_map,-mapM_map,↓KW,↓aN,↓aO,aR,aG,hs1]
   simp [-map_map,-mapM_map,↓KW,↓aN,↓aO,aR,aG,hs1]
   refine aA (ds:=[aG a,aG b]) (by rfl) hd ?_
   simp [-map_map,-mapM_map,↓KW,↓aN,↓aO,aR,aG]
   refine aA (ds:=[.ag [.b sr,aG mr]]) ?_ hsr ?_
   ·simp [-map_map,-mapM_map,↓KW,↓aN,↓aO,aR,aG,hsg]
   simp [-map_map,-mapM_map,↓KW,↓aN,↓aO,aR,aG,hsg]
   refine lL 0 1 (by kernel_rfl) rfl rfl ?_ ?_
   ·simp [-map_map,-mapM_map,↓KW,↓aN,↓aO,aR,aG]
    refine lL 1 2 (by kernel_rfl) rfl rfl ?_ ?_
    ·simp [-map_map,-mapM_map,↓KW,↓aN,↓aO,aR,aG]
     refine bS 2 (by kernel_rfl) rfl ?_
     simp [-map_map,-mapM_map,↓KW,↓aN,↓aO,aR,aG]
     refine bS 3 (by kernel_rfl) rfl ?_
     simp [-map_map,-mapM_map,↓KW,↓aN,↓aO,aR,aG]
     refine bS 4 (by kernel_rfl) rfl ?_
     simp [-map_map,-mapM_map,↓KW,↓aN,↓aO,aR,aG]
     refine gY (by kernel_rfl) ?_
     simp [-map_map,-mapM_map,↓KW,↓aN,↓aO,aR,aG,cT]
    ·simp [-map_map,-mapM_map,↓KW,↓aN,↓aO,aR,aG]
     refine bS 1 (by kernel_rfl) rfl ?_
     simp [-map_map,-mapM_map,↓KW,↓aN,↓aO,aR,aG]
     refine bS 3 (by kernel_rfl) rfl ?_
     simp [-map_map,-mapM_map,↓KW,↓aN,↓aO,aR,aG]
     refine bS 4 (by kernel_rfl) rfl ?_
     simp [-map_map,-mapM_map,↓KW,↓aN,↓aO,aR,aG]
     refine gY (by kernel_rfl) ?_
     simp [-map_map,-mapM_map,↓KW,↓aN,↓aO,aR,aG,cT]
   ·simp [-map_map,-mapM_map,↓KW,↓aN,↓aO,aR,aG]
    refine bS 0 (by kernel_rfl) rfl ?_
    simp [-map_map,-mapM_map,↓KW,↓aN,↓aO,aR,aG]
    refine bS 2 (by kernel_rfl) rfl ?_
    simp [-map_map,-mapM_map,↓KW,↓aN,↓aO,aR,aG]
    refine bS 3 (by kernel_rfl) rfl ?_
    simp [-map_map,-mapM_map,↓KW,↓aN,↓aO,aR,aG]
    refine bS 4 (by kernel_rfl) rfl ?_
    simp [-map_map,-mapM_map,↓KW,↓aN,↓aO,aR,aG]
    refine gY (by kernel_rfl) ?_
    simp [-map_map,-mapM_map,↓KW,↓aN,↓aO,aR,aG,cT]
  ·obtain ⟨f1,f2⟩:=hf.2.2.2.2.2.2.2 hnx (by omega) hny
   have hsg:=hsg1 hr0
   rw [f1,f2,ep,ed]
   have hs1:(y.sign == 0)=false:=by simpa using hs0
   simp [-map_map,-mapM_map,↓KW,↓aN,↓aO,aR,aG]
   refine aA (ds:=[aG a,.b true]) (by rfl) hm1 ?_
   simp [-map_map,-mapM_map,↓KW,↓aN,↓aO,aR,aG]
   refine aA (ds:=[aG b,.b true]) (by rfl) hm2 ?_
   simp [-map_map,-mapM_map,↓KW,↓aN,↓aO,aR,aG]
   refine aA (ds:=[.ag [.b true,aG b]]) ?_ hs ?_
   ·simp [-map_map,-mapM_map,↓KW,↓aN,↓aO,aR,aG,hs1]
   simp [-map_map,-mapM_map,↓KW,↓aN,↓aO,aR,aG,hs1]
   refine aA (ds:=[aG a,aG b]) (by rfl) hd ?_
   simp [-map_map,-mapM_map,↓KW,↓aN,↓aO,aR,aG]
   refine aA (ds:=[.ag [.b sr,aG mr]]) ?_ hsr ?_
   ·simp [-map_map,-mapM_map,↓KW,↓aN,↓aO,aR,aG,hsg]
   simp [-map_map,-mapM_map,↓KW,↓aN,↓aO,aR,aG,hsg]
   refine aA (ds:=[.i .i64 1]) (by rfl) hof ?_
   simp [-map_map,-mapM_map,↓KW,↓aN,↓aO,aR,aG]
   refine aA (ds:=[.ag [.b sq,aG mq],.ag [.b s1,aG m1]]) ?_ had ?_
   ·simp [-map_map,-mapM_map,↓KW,↓aN,↓aO,aR,aG]
   simp [-map_map,-mapM_map,↓KW,↓aN,↓aO,aR,aG]
   refine aA (ds:=[aG b,.b false]) (by rfl) hmy ?_
   simp [-map_map,-mapM_map,↓KW,↓aN,↓aO,aR,aG]
   refine aA (ds:=[.ag [.b sy,aG my],.ag [.b sr,aG mr]]) ?_ hsu ?_
   ·simp [-map_map,-mapM_map,↓KW,↓aN,↓aO,aR,aG]
   simp [-map_map,-mapM_map,↓KW,↓aN,↓aO,aR,aG]
   refine lL 0 1 (by kernel_rfl) rfl rfl ?_ ?_
   ·simp [-map_map,-mapM_map,↓KW,↓aN,↓aO,aR,aG]
    refine lL 1 2 (by kernel_rfl) rfl rfl ?_ ?_
    ·simp [-map_map,-mapM_map,↓KW,↓aN,↓aO,aR,aG]
     refine bS 2 (by kernel_rfl) rfl ?_
     simp [-map_map,-mapM_map,↓KW,↓aN,↓aO,aR,aG]
     refine bS 3 (by kernel_rfl) rfl ?_
     simp [-map_map,-mapM_map,↓KW,↓aN,↓aO,aR,aG]
     refine bS 4 (by kernel_rfl) rfl ?_
     simp [-map_map,-mapM_map,↓KW,↓aN,↓aO,aR,aG]
     refine gY (by kernel_rfl) ?_
     simp [-map_map,-mapM_map,↓KW,↓aN,↓aO,aR,aG,cT]
    ·simp [-map_map,-mapM_map,↓KW,↓aN,↓aO,aR,aG]
     refine bS 1 (by kernel_rfl) rfl ?_
     simp [-map_map,-mapM_map,↓KW,↓aN,↓aO,aR,aG]
     refine bS 3 (by kernel_rfl) rfl ?_
     simp [-map_map,-mapM_map,↓KW,↓aN,↓aO,aR,aG]
     refine bS 4 (by kernel_rfl) rfl ?_
     simp [-map_map,-mapM_map,↓KW,↓aN,↓aO,aR,aG]
     refine gY (by kernel_rfl) ?_
     simp [-map_map,-mapM_map,↓KW,↓aN,↓aO,aR,aG,cT]
   ·simp [-map_map,-mapM_map,↓KW,↓aN,↓aO,aR,aG]
    refine bS 0 (by kernel_rfl) rfl ?_
    simp [-map_map,-mapM_map,↓KW,↓aN,↓aO,aR,aG]
    refine bS 2 (by kernel_rfl) rfl ?_
    simp [-map_map,-mapM_map,↓KW,↓aN,↓aO,aR,aG]
    refine bS 3 (by kernel_rfl) rfl ?_
    simp [-map_map,-mapM_map,↓KW,↓aN,↓aO,aR,aG]
    refine bS 4 (by kernel_rfl) rfl ?_
    simp [-map_map,-mapM_map,↓KW,↓aN,↓aO,aR,aG]
    refine gY (by kernel_rfl) ?_
    simp [-map_map,-mapM_map,↓KW,↓aN,↓aO,aR,aG,cT]
 ·rw [decide_eq_true hnx,decide_eq_false hny] at *
  by_cases hr0:rr=0
  ·obtain ⟨f1,f2⟩:=hf.2.2.2.2.1 hnx hr0 hny
   have e0:encZ 0=.ag [.b sr,aG mr]:=by rw [← er,hr0]; rfl
   have hsg:=hsg0 hr0
   rw [f1,f2,en1,e0]
   have hs1:(y.sign == 0)=false:=by simpa using hs0
   simp [-map_map,-mapM_map,↓KW,↓aN,↓aO,aR,aG]
   refine aA (ds:=[aG a,.b true]) (by rfl) hm1 ?_
   simp [-map_map,-mapM_map,↓KW,↓aN,↓aO,aR,aG]
   refine aA (ds:=[aG b,.b false]) (by rfl) hm2 ?_
   simp [-map_map,-mapM_map,↓KW,↓aN,↓aO,aR,aG]
   refine aA (ds:=[.ag [.b false,aG b]]) ?_ hs ?_
   ·simp [-map_map,-mapM_map,↓KW,↓aN,↓aO,aR,aG,hs1]
   simp [-map_map,-mapM_map,↓KW,↓aN,↓aO,aR,aG,hs1]
   refine aA (ds:=[aG a,aG b]) (by rfl) hd ?_
   simp [-map_map,-mapM_map,↓KW,↓aN,↓aO,aR,aG]
   refine aA (ds:=[.ag [.b sr,aG mr]]) ?_ hsr ?_
   ·simp [-map_map,-mapM_map,↓KW,↓aN,↓aO,aR,aG,hsg]
   simp [-map_map,-mapM_map,↓KW,↓aN,↓aO,aR,aG,hsg]
   refine aA (ds:=[.ag [.b sq,aG mq]]) ?_ hn1 ?_
   ·simp [-map_map,-mapM_map,↓KW,↓aN,↓aO,aR,aG]
   simp [-map_map,-mapM_map,↓KW,↓aN,↓aO,aR,aG]
   refine lL 0 1 (by kernel_rfl) rfl rfl ?_ ?_
   ·simp [-map_map,-mapM_map,↓KW,↓aN,↓aO,aR,aG]
    refine lL 1 2 (by kernel_rfl) rfl rfl ?_ ?_
    ·simp [-map_map,-mapM_map,↓KW,↓aN,↓aO,aR,aG]
     refine bS 2 (by kernel_rfl) rfl ?_
     simp [-map_map,-mapM_map,↓KW,↓aN,↓aO,aR,aG]
     refine bS 3 (by kernel_rfl) rfl ?_
     simp [-map_map,-mapM_map,↓KW,↓aN,↓aO,aR,aG]
     refine bS 4 (by kernel_rfl) rfl ?_
     simp [-map_map,-mapM_map,↓KW,↓aN,↓aO,aR,aG]
     refine gY (by kernel_rfl) ?_
     simp [-map_map,-mapM_map,↓KW,↓aN,↓aO,aR,aG,cT]
    ·simp [-map_map,-mapM_map,↓KW,↓aN,↓aO,aR,aG]
     refine bS 1 (by kernel_rfl) rfl ?_
     simp [-map_map,-mapM_map,↓KW,↓aN,↓aO,aR,aG]
     refine bS 3 (by kernel_rfl) rfl ?_
     simp [-map_map,-mapM_map,↓KW,↓aN,↓aO,aR,aG]
     refine bS 4 (by kernel_rfl) rfl ?_
     simp [-map_map,-mapM_map,↓KW,↓aN,↓aO,aR,aG]
     refine gY (by kernel_rfl) ?_
     simp [-map_map,-mapM_map,↓KW,↓aN,↓aO,aR,aG,cT]
   ·simp [-map_map,-mapM_map,↓KW,↓aN,↓aO,aR,aG]
    refine bS 0 (by kernel_rfl) rfl ?_
    simp [-map_map,-mapM_map,↓KW,↓aN,↓aO,aR,aG]
    refine bS 2 (by kernel_rfl) rfl ?_
    simp [-map_map,-mapM_map,↓KW,↓aN,↓aO,aR,aG]
    refine bS 3 (by kernel_rfl) rfl ?_
    simp [-map_map,-mapM_map,↓KW,↓aN,↓aO,aR,aG]
    refine bS 4 (by kernel_rfl) rfl ?_
    simp [-map_map,-mapM_map,↓KW,↓aN,↓aO,aR,aG]
    refine gY (by kernel_rfl) ?_
    simp [-map_map,-mapM_map,↓KW,↓aN,↓aO,aR,aG,cT]
  ·obtain ⟨f1,f2⟩:=hf.2.2.2.2.2.2.1 hnx (by omega) hny
   have hsg:=hsg1 hr0
   rw [f1,f2,en2,ed]
   have hs1:(y.sign == 0)=false:=by simpa using hs0
   simp [-map_map,-mapM_map,↓KW,↓aN,↓aO,aR,aG]
   refine aA (ds:=[aG a,.b true]) (by rfl) hm1 ?_
   simp [-map_map,-mapM_map,↓KW,↓aN,↓aO,aR,aG]
   refine aA (ds:=[aG b,.b false]) (by rfl) hm2 ?_
   simp [-map_map,-mapM_map,↓KW,↓aN,↓aO,aR,aG]
   refine aA (ds:=[.ag [.b false,aG b]]) ?_ hs ?_
   ·simp [-map_map,-mapM_map,↓KW,↓aN,↓aO,aR,aG,hs1]
   simp [-map_map,-mapM_map,↓KW,↓aN,↓aO,aR,aG,hs1]
   refine aA (ds:=[aG a,aG b]) (by rfl) hd ?_
   simp [-map_map,-mapM_map,↓KW,↓aN,↓aO,aR,aG]
   refine aA (ds:=[.ag [.b sr,aG mr]]) ?_ hsr ?_
   ·simp [-map_map,-mapM_map,↓KW,↓aN,↓aO,aR,aG,hsg]
   simp [-map_map,-mapM_map,↓KW,↓aN,↓aO,aR,aG,hsg]
   refine aA (ds:=[.i .i64 1]) (by rfl) hof ?_
   simp [-map_map,-mapM_map,↓KW,↓aN,↓aO,aR,aG]
   refine aA (ds:=[.ag [.b sq,aG mq],.ag [.b s1,aG m1]]) ?_ had ?_
   ·simp [-map_map,-mapM_map,↓KW,↓aN,↓aO,aR,aG]
   simp [-map_map,-mapM_map,↓KW,↓aN,↓aO,aR,aG]
   refine aA (ds:=[aG b,.b false]) (by rfl) hmy ?_
   simp [-map_map,-mapM_map,↓KW,↓aN,↓aO,aR,aG]
   refine aA (ds:=[.ag [.b sy,aG my],.ag [.b sr,aG mr]]) ?_ hsu ?_
   ·simp [-map_map,-mapM_map,↓KW,↓aN,↓aO,aR,aG]
   simp [-map_map,-mapM_map,↓KW,↓aN,↓aO,aR,aG]
   refine aA (ds:=[.ag [.b sp,aG mp]]) ?_ hn2 ?_
   ·simp [-map_map,-mapM_map,↓KW,↓aN,↓aO,aR,aG]
   simp [-map_map,-mapM_map,↓KW,↓aN,↓aO,aR,aG]
   refine lL 0 1 (by kernel_rfl) rfl rfl ?_ ?_
   ·simp [-map_map,-mapM_map,↓KW,↓aN,↓aO,aR,aG]
    refine lL 1 2 (by kernel_rfl) rfl rfl ?_ ?_
    ·simp [-map_map,-mapM_map,↓KW,↓aN,↓aO,aR,aG]
     refine bS 2 (by kernel_rfl) rfl ?_
     simp [-map_map,-mapM_map,↓KW,↓aN,↓aO,aR,aG]
     refine bS 3 (by kernel_rfl) rfl ?_
     simp [-map_map,-mapM_map,↓KW,↓aN,↓aO,aR,aG]
     refine bS 4 (by kernel_rfl) rfl ?_
     simp [-map_map,-mapM_map,↓KW,↓aN,↓aO,aR,aG]
     refine gY (by kernel_rfl) ?_
     simp [-map_map,-mapM_map,↓KW,↓aN,↓aO,aR,aG,cT]
    ·simp [-map_map,-mapM_map,↓KW,↓aN,↓aO,aR,aG]
     refine bS 1 (by kernel_rfl) rfl ?_
     simp [-map_map,-mapM_map,↓KW,↓aN,↓aO,aR,aG]
     refine bS 3 (by kernel_rfl) rfl ?_
     simp [-map_map,-mapM_map,↓KW,↓aN,↓aO,aR,aG]
     refine bS 4 (by kernel_rfl) rfl ?_
     simp [-map_map,-mapM_map,↓KW,↓aN,↓aO,aR,aG]
     refine gY (by kernel_rfl) ?_
     simp [-map_map,-mapM_map,↓KW,↓aN,↓aO,aR,aG,cT]
   ·simp [-map_map,-mapM_map,↓KW,↓aN,↓aO,aR,aG]
    refine bS 0 (by kernel_rfl) rfl ?_
    simp [-map_map,-mapM_map,↓KW,↓aN,↓aO,aR,aG]
    refine bS 2 (by kernel_rfl) rfl ?_
    simp [-map_map,-mapM_map,↓KW,↓aN,↓aO,aR,aG]
    refine bS 3 (by kernel_rfl) rfl ?_
    simp [-map_map,-mapM_map,↓KW,↓aN,↓aO,aR,aG]
    refine bS 4 (by kernel_rfl) rfl ?_
    simp [-map_map,-mapM_map,↓KW,↓aN,↓aO,aR,aG]
    refine gY (by kernel_rfl) ?_
    simp [-map_map,-mapM_map,↓KW,↓aN,↓aO,aR,aG,cT]
 ·rw [decide_eq_false hnx,decide_eq_true hny] at *
  obtain ⟨f1,f2⟩:=hf.2.2.2.1 hnx hny
  rw [f1,f2,en1,er]
  have hs1:(y.sign == 0)=false:=by simpa using hs0
  simp [-map_map,-mapM_map,↓KW,↓aN,↓aO,aR,aG]
  refine aA (ds:=[aG a,.b false]) (by rfl) hm1 ?_
  simp [-map_map,-mapM_map,↓KW,↓aN,↓aO,aR,aG]
  refine aA (ds:=[aG b,.b true]) (by rfl) hm2 ?_
  simp [-map_map,-mapM_map,↓KW,↓aN,↓aO,aR,aG]
  refine aA (ds:=[.ag [.b true,aG b]]) ?_ hs ?_
  ·simp [-map_map,-mapM_map,↓KW,↓aN,↓aO,aR,aG,hs1]
  simp [-map_map,-mapM_map,↓KW,↓aN,↓aO,aR,aG,hs1]
  refine aA (ds:=[aG a,aG b]) (by rfl) hd ?_
  simp [-map_map,-mapM_map,↓KW,↓aN,↓aO,aR,aG]
  refine aA (ds:=[.ag [.b sq,aG mq]]) ?_ hn1 ?_
  ·simp [-map_map,-mapM_map,↓KW,↓aN,↓aO,aR,aG]
  simp [-map_map,-mapM_map,↓KW,↓aN,↓aO,aR,aG]
  refine lL 0 1 (by kernel_rfl) rfl rfl ?_ ?_
  ·simp [-map_map,-mapM_map,↓KW,↓aN,↓aO,aR,aG]
   refine lL 1 2 (by kernel_rfl) rfl rfl ?_ ?_
   ·simp [-map_map,-mapM_map,↓KW,↓aN,↓aO,aR,aG]
    refine bS 2 (by kernel_rfl) rfl ?_
    simp [-map_map,-mapM_map,↓KW,↓aN,↓aO,aR,aG]
    refine bS 3 (by kernel_rfl) rfl ?_
    simp [-map_map,-mapM_map,↓KW,↓aN,↓aO,aR,aG]
    refine bS 4 (by kernel_rfl) rfl ?_
    simp [-map_map,-mapM_map,↓KW,↓aN,↓aO,aR,aG]
    refine gY (by kernel_rfl) ?_
    simp [-map_map,-mapM_map,↓KW,↓aN,↓aO,aR,aG,cT]
   ·simp [-map_map,-mapM_map,↓KW,↓aN,↓aO,aR,aG]
    refine bS 1 (by kernel_rfl) rfl ?_
    simp [-map_map,-mapM_map,↓KW,↓aN,↓aO,aR,aG]
    refine bS 3 (by kernel_rfl) rfl ?_
    simp [-map_map,-mapM_map,↓KW,↓aN,↓aO,aR,aG]
    refine bS 4 (by kernel_rfl) rfl ?_
    simp [-map_map,-mapM_map,↓KW,↓aN,↓aO,aR,aG]
    refine gY (by kernel_rfl) ?_
    simp [-map_map,-mapM_map,↓KW,↓aN,↓aO,aR,aG,cT]
  ·simp [-map_map,-mapM_map,↓KW,↓aN,↓aO,aR,aG]
   refine bS 0 (by kernel_rfl) rfl ?_
   simp [-map_map,-mapM_map,↓KW,↓aN,↓aO,aR,aG]
   refine bS 2 (by kernel_rfl) rfl ?_
   simp [-map_map,-mapM_map,↓KW,↓aN,↓aO,aR,aG]
   refine bS 3 (by kernel_rfl) rfl ?_
   simp [-map_map,-mapM_map,↓KW,↓aN,↓aO,aR,aG]
   refine bS 4 (by kernel_rfl) rfl ?_
   simp [-map_map,-mapM_map,↓KW,↓aN,↓aO,aR,aG]
   refine gY (by kernel_rfl) ?_
   simp [-map_map,-mapM_map,↓KW,↓aN,↓aO,aR,aG,cT]
 ·rw [decide_eq_false hnx,decide_eq_false hny] at *
  obtain ⟨f1,f2⟩:=hf.2.2.1 hnx hny
  rw [f1,f2,eq,er]
  have hs1:(y.sign == 0)=false:=by simpa using hs0
  simp [-map_map,-mapM_map,↓KW,↓aN,↓aO,aR,aG]
  refine aA (ds:=[aG a,.b false]) (by rfl) hm1 ?_
  simp [-map_map,-mapM_map,↓KW,↓aN,↓aO,aR,aG]
  refine aA (ds:=[aG b,.b false]) (by rfl) hm2 ?_
  simp [-map_map,-mapM_map,↓KW,↓aN,↓aO,aR,aG]
  refine aA (ds:=[.ag [.b false,aG b]]) ?_ hs ?_
  ·simp [-map_map,-mapM_map,↓KW,↓aN,↓aO,aR,aG,hs1]
  simp [-map_map,-mapM_map,↓KW,↓aN,↓aO,aR,aG,hs1]
  refine aA (ds:=[aG a,aG b]) (by rfl) hd ?_
  simp [-map_map,-mapM_map,↓KW,↓aN,↓aO,aR,aG]
  refine lL 0 1 (by kernel_rfl) rfl rfl ?_ ?_
  ·simp [-map_map,-mapM_map,↓KW,↓aN,↓aO,aR,aG]
   refine lL 1 2 (by kernel_rfl) rfl rfl ?_ ?_
   ·simp [-map_map,-mapM_map,↓KW,↓aN,↓aO,aR,aG]
    refine bS 2 (by kernel_rfl) rfl ?_
    simp [-map_map,-mapM_map,↓KW,↓aN,↓aO,aR,aG]
    refine bS 3 (by kernel_rfl) rfl ?_
    simp [-map_map,-mapM_map,↓KW,↓aN,↓aO,aR,aG]
    refine bS 4 (by kernel_rfl) rfl ?_
    simp [-map_map,-mapM_map,↓KW,↓aN,↓aO,aR,aG]
    refine gY (by kernel_rfl) ?_
    simp [-map_map,-mapM_map,↓KW,↓aN,↓aO,aR,aG,cT]
   ·simp [-map_map,-mapM_map,↓KW,↓aN,↓aO,aR,aG]
    refine bS 1 (by kernel_rfl) rfl ?_
    simp [-map_map,-mapM_map,↓KW,↓aN,↓aO,aR,aG]
    refine bS 3 (by kernel_rfl) rfl ?_
    simp [-map_map,-mapM_map,↓KW,↓aN,↓aO,aR,aG]
    refine bS 4 (by kernel_rfl) rfl ?_
    simp [-map_map,-mapM_map,↓KW,↓aN,↓aO,aR,aG]
    refine gY (by kernel_rfl) ?_
    simp [-map_map,-mapM_map,↓KW,↓aN,↓aO,aR,aG,cT]
  ·simp [-map_map,-mapM_map,↓KW,↓aN,↓aO,aR,aG]
   refine bS 0 (by kernel_rfl) rfl ?_
   simp [-map_map,-mapM_map,↓KW,↓aN,↓aO,aR,aG]
   refine bS 2 (by kernel_rfl) rfl ?_
   simp [-map_map,-mapM_map,↓KW,↓aN,↓aO,aR,aG]
   refine bS 3 (by kernel_rfl) rfl ?_
   simp [-map_map,-mapM_map,↓KW,↓aN,↓aO,aR,aG]
   refine bS 4 (by kernel_rfl) rfl ?_
   simp [-map_map,-mapM_map,↓KW,↓aN,↓aO,aR,aG]
   refine gY (by kernel_rfl) ?_
   simp [-map_map,-mapM_map,↓KW,↓aN,↓aO,aR,aG,cT]
end Go.Am
end

section
set_option linter.unusedVariables false
set_option linter.unusedSimpArgs false
open List (map_map mapM_map)
open Go Go.Am Go.Proofs
namespace Go.Am
theorem aMe {Γ:Nat→AV} {H:Nat→Option HO} {n:Nat} {av:AV} {R c m0:Nat} {M:List (List Int)} (hM:Sh R c M) (hn:n≠0) (hav:av=.ag [.d (.i .i64 (R:Int)),.d (.i .i64 (c:Int)),.own m0 0 R 1]) (hH:∀ (i:Nat) o,(mB c M m0)[i]? = some o→H (i+m0)=some o) :
  ∀ m,0<m→∃ ρ,Wk ⟨upd Γ 0 av,H,n⟩ (fA (nwV R c) (mB c M) m) ρ:=by
 intro m hm0
 subst hav
 have hML:(mB c M m).length=R+1:=by rw [cA,hM.len]
 have hin:∀ i,i<R+1→(fA (nwV R c) (mB c M) m).H (i+m)=(mB c M m)[i]? := fun i h=>by
  simp only [fA,eS]
  rw [if_pos ⟨by omega,by rw [hML]; omega⟩,Nat.add_sub_cancel]
 have hout:∀ id,¬ (m≤id∧id<m+(R+1))→(fA (nwV R c) (mB c M) m).H id=none:=fun id h=>by
  simp only [fA,eS]
  rw [if_neg (by rw [hML]; exact h)]
 have hsome:∀ id,((fA (nwV R c) (mB c M) m).H id).isSome=true→∃ i,id=i+m∧i<R+1:=fun id h=>by
  by_cases hr:m≤id∧id<m+(R+1)
  ·exact ⟨id - m,by omega,by omega⟩
  ·rw [hout id hr] at h; cases h
 have hget:∀ i,i<R+1→((fA (nwV R c) (mB c M) m).H (i+m)).isSome=true:=fun i h=>by
  rw [hin i h,List.getElem?_eq_getElem (by rw [hML]; exact h)]; rfl
 refine ⟨fun id=>id - m+m0,fun id hid=>hout id (by simp only [fA] at hid; rw [hML] at hid; omega),fun t=>?_,fun id o' ho=>?_,fun id id' h1 h2 e=>?_,fun h=>?_,fun h=>?_⟩
 ·show Sub _ _ _ _ (upd (fun _=>.any) 0 (nwV R c m) t)
  by_cases e:t=0
  ·subst e
   simp only [cG,nwV]
   refine ⟨rfl,fun k c d h1 h2=>?_⟩
   rcases k with _ | _ | _ | k
   ·simp at h1 h2; subst h1; subst h2; exact (iU _ _).2 rfl
   ·simp at h1 h2; subst h1; subst h2; exact (iU _ _).2 rfl
   ·simp at h1 h2; subst h1; subst h2
    exact ⟨by simp,rfl,rfl,rfl,by have:=hget 0 (by omega); rwa [Nat.zero_add] at this⟩
   ·simp at h1
  ·rw [cU _ _ e]; exact lR _
 ·obtain ⟨i,rfl,hi⟩:=hsome id (by rw [ho]; rfl)
  rw [hin i hi] at ho
  simp only [Nat.add_sub_cancel]
  rcases i with _ | i
  ·simp only [mB,List.getElem?_cons_zero] at ho
   injection ho with ho; subst ho
   refine ⟨_,hH 0 _ rfl,dV.2 ⟨rfl,dZ.2 ⟨by rw [cB,cB],fun k x y h1 h2=>?_⟩⟩⟩
   have hlt:k<M.length:=by have:=(List.getElem?_eq_some_iff.1 h1).1; rwa [cB] at this
   rw [cW hlt] at h1 h2
   injection h1 with h1; injection h2 with h2; subst h1; subst h2
   rw [hM.len] at hlt
   exact ⟨by show k+(m0+1)=k+(m+1) - m+m0; omega,rfl,rfl,rfl,by have:=hget (k+1) (by omega); rwa [show k+1+m=k+(m+1) by omega] at this⟩
  ·refine ⟨o',hH (i+1) o' (by simpa only [mB,List.getElem?_cons_succ] using ho),?_⟩
   simp only [mB,List.getElem?_cons_succ,List.getElem?_map] at ho
   obtain ⟨v,_,rfl⟩:=Option.map_eq_some_iff.1 ho
   exact rI _ _
 ·obtain ⟨i,rfl,_⟩:=hsome id h1
  obtain ⟨j,rfl,_⟩:=hsome id' h2
  have e':i+m - m+m0=j+m - m+m0:=e
  omega
 ·obtain ⟨i,hi,_⟩:=hsome 0 h; omega
 ·simp only [fA] at h; omega
def scF (M:List (List Int)) (k:Int) (i j:Nat) (r s:Nat):Int:=if r<i∨(r=i∧s<j) then ent M r s * k else 0
def qD (R c:Nat) (A:List (List Int)) (k:Int):List HO :=
 [.cells 155 [.d (.i .i64 (R:Int)),.d (.i .i64 (c:Int)),.d (.sl (A.map fun v=>[cH v]))],.cells 69 [.d (.b (decide (k<0))),.d (aG (aV k.natAbs))],
  .cells 155 [.d (.i .i64 0),.d (.i .i64 0),.nil]]
def zX (R c:Nat):HO:=.cells 155 [.d (.i .i64 (R:Int)),.d (.i .i64 (c:Int)),.own 4 0 R 1]
def scH (R c:Nat) (A:List (List Int)) (k:Int) (M:List (List Int)):Nat→Option HO:=fS 1 (qD R c A k++mB c M 4++[zX R c])
theorem tY {R c:Nat} {A:List (List Int)} {k:Int} {M:List (List Int)} (hM:Sh R c M) {H:Nat→Option HO} {id:Nat} {o:HO} (ho:scH R c A k M id=some o):lJ H (scH R c A k M) (fun i=>i) o o:=by
 refine aBh (fun o ho=>?_) ho
 rw [rX,hM.len,show (qD R c A k).length=3 from rfl,show [zX R c].length=1 from rfl]
 rcases List.mem_append.1 ho with ho | ho
 ·rcases List.mem_append.1 ho with ho | ho
  ·simp only [qD,List.mem_cons,List.mem_nil_iff,or_false] at ho
   rcases ho with rfl | rfl | rfl <;> rfl
  ·exact tC (by omega) (by rw [hM.len]; omega) o ho
 ·rw [List.mem_singleton.1 ho]
  simp only [rfO,zX,rfC,List.all_cons,List.all_nil,Bool.and_true,Bool.true_and,decide_eq_true_eq]; omega
theorem yJ {R c:Nat} {A:List (List Int)} {k:Int} {M:List (List Int)} (hM:Sh R c M) {id:Nat} (h:R+6≤id):scH R c A k M id=none :=
 uY (by rw [rX,hM.len,show (qD R c A k).length=3 from rfl,show [zX R c].length=1 from rfl]; omega)
theorem iY {R c:Nat} {A:List (List Int)} {k:Int} {M:List (List Int)} (hM:Sh R c M) {id:Nat} (h1:1≤id) (h2:id<R+6):(scH R c A k M id).isSome=true :=
 jN h1 (by rw [rX,hM.len,show (qD R c A k).length=3 from rfl,show [zX R c].length=1 from rfl]; omega)
set_option maxHeartbeats 8000000 in
set_option maxRecDepth 10000 in
theorem aYn {R c:Nat} {A:List (List Int)} {k:Int} (hA:Sh R c A) (hR:R≤1000) (hc:c≤1000) (hk:Sz k) (hAs:∀ v∈A,∀ z∈v,Sz z) :
  oN Tryz.prog 180 [cP R c A,encZ k] (nwV R c) (mB c (mk R c fun r s=>ent A r s * k)):=by
 refine lD (N:=43) aF Tryz.func180 rfl rfl rfl (by decide) (by kernel_rfl) (by kernel_rfl) (by simp) rfl ?_
 have hN:=aYo R c hR hc
 simp [-map_map,-mapM_map,↓KW,cP,bI,aD,aJ,aP,bH,aX]
 refine iZ [.i .i64 (R:Int),.i .i64 (c:Int)] (nwV R c) (mB c (List.replicate R (List.replicate c 0))) (by simp) (by simp) (by simp) (by rfl) (by rfl) hN ?_
 have hne1:¬ 1=4+(R+1):=by omega
 have hne2:¬ 2=4+(R+1):=by omega
 have hne3:¬ 3=4+(R+1):=by omega
 have hH0:∀ p:HO,upd (eS (upd (upd (upd (fun _=>none) 1 (some (.cells 155 [.d (.i .i64 (R:Int)),.d (.i .i64 (c:Int)),.d (.sl (A.map fun v=>[cH v]))]))) 2 (some (.cells 69 [.d (.b (decide (k<0))),.d (aG (aV k.natAbs))])))
   3 (some (.cells 155 [.d (.i .i64 0),.d (.i .i64 0),.nil]))) 4 (mB c (List.replicate R (List.replicate c 0)) 4)) (4+(R+1)) (some p)=fS 1 (qD R c A k++mB c (List.replicate R (List.replicate c 0)) 4++[p]):=fun p=>by
  rw [aUw,zB (n:=4) (pre:=[_,_,_]) rfl,oH (by rw [List.length_append,cA,List.length_replicate,List.length_cons,List.length_cons,List.length_cons,List.length_nil]; omega)]; rfl
 have hz0:Sh R c (List.replicate R (List.replicate c (0:Int))):=⟨by simp,fun v hv=>by rw [List.eq_of_mem_replicate hv]; simp⟩
 simp [-map_map,-mapM_map,↓KW,nwV,cA,eS,hne1,hne2,hne3]
 refine aU (fun x:Nat × List (List Int)=>x.1≤R∧Sh R c x.2∧∀ r s,r<R→s<c→ent x.2 r s=scF A k x.1 0 r s) (fun x=>⟨iC [(2,.ptr 1 0),(3,.ptr 2 0),(4,.ptr 3 0),(5,.ptr (R+5) 0),(6,.d (.i .i64 (x.1:Int)))],scH R c A k x.2,R+6⟩) (fun x=>R - x.1)
  (0,List.replicate R (List.replicate c 0)) ⟨Nat.zero_le _,hz0,fun r s hr hs=>?_⟩ ?_ ?_
 ·unfold ent scF
  rw [if_neg (by omega),List.getD_eq_getElem?_getD (l:=List.replicate R _),List.getElem?_replicate,if_pos hr]
  simp only [Option.getD_some]
  rw [List.getD_eq_getElem?_getD,List.getElem?_replicate,if_pos hs]; rfl
 ·rw [aDh,hH0]
  refine ⟨_,jH ?_ (fun id o' ho=>⟨o',ho,tY hz0 ho⟩) (fun id hid=>yJ hz0 hid) (by simp)⟩
  have g1:=iY (A:=A) (k:=k) hz0 (id:=1) (by omega) (by omega)
  have g2:=iY (A:=A) (k:=k) hz0 (id:=2) (by omega) (by omega)
  have g3:=iY (A:=A) (k:=k) hz0 (id:=3) (by omega) (by omega)
  have g4:=iY (A:=A) (k:=k) hz0 (id:=R+5) (by omega) (by omega)
  have g5:4+(R+1)=R+5:=by omega
  simp [-map_map,upd,aT,Γ0,g1,g2,g3,g4,g5]
 ·rintro ⟨i,M⟩ ⟨hi,hM,hME⟩
  simp only at hi hM hME
  have hH1:scH R c A k M 1=some (.cells 155 [.d (.i .i64 (R:Int)),.d (.i .i64 (c:Int)),.d (.sl (A.map fun v=>[cH v]))]):=rfl
  have hH3:scH R c A k M 3=some (.cells 155 [.d (.i .i64 0),.d (.i .i64 0),.nil]):=rfl
  have hHo:scH R c A k M (R+5)=some (zX R c):=aBi (by rw [hM.len,show (qD R c A k).length=3 from rfl]; omega)
  by_cases hgi:i<R
  ·have q1:(i:Int)<R:=by omega
   have hw:IntKind.i64.wrap ((i:Int)+1)=(i:Int)+1:=aS (by omega) (by omega)
   have hsome:=fun id=>iY (A:=A) (k:=k) hM (id:=id)
   have htop:=fun id=>yJ (A:=A) (k:=k) hM (id:=id)
   have hself:=fun (H:Nat→Option HO) id o=>tY (A:=A) (k:=k) hM (H:=H) (id:=id) (o:=o)
   generalize hHg:scH R c A k M=H at *
   simp [-map_map,-mapM_map,↓KW,q1,hH1]
   refine aU (fun x:Nat × List (List Int)=>x.1≤c∧Sh R c x.2∧∀ r s,r<R→s<c→ent x.2 r s=scF A k i x.1 r s) (fun x=>⟨iC [(2,.ptr 1 0),(3,.ptr 2 0),(4,.ptr 3 0),(5,.ptr (R+5) 0),(6,.d (.i .i64 (i:Int))),(7,.d (.i .i64 (x.1:Int)))],scH R c A k x.2,R+6⟩) (fun x=>c - x.1)
    (0,M) ⟨Nat.zero_le _,hM,hME⟩ ?_ ?_
   ·rw [hHg]
    refine ⟨_,jH ?_ (fun id o' ho=>⟨o',ho,hself _ _ _ ho⟩) (fun id hid=>htop id hid) (by simp)⟩
    have g1:=hsome 1 (by omega) (by omega)
    have g2:=hsome 2 (by omega) (by omega)
    have g3:=hsome 3 (by omega) (by omega)
    have g4:=hsome (R+5) (by omega) (by omega)
    simp [-map_map,upd,aT,Γ0,g1,g2,g3,g4]
   ·clear hHg hH1 hH3 hHo hsome htop hself hM hME
    rintro ⟨j,M⟩ ⟨hj,hM,hME⟩
    simp only at hj hM hME
    have hH1:scH R c A k M 1=some (.cells 155 [.d (.i .i64 (R:Int)),.d (.i .i64 (c:Int)),.d (.sl (A.map fun v=>[cH v]))]):=rfl
    have hH2:scH R c A k M 2=some (.cells 69 [.d (.b (decide (k<0))),.d (aG (aV k.natAbs))]):=rfl
    have hHo:scH R c A k M (R+5)=some (.cells 155 [.d (.i .i64 (R:Int)),.d (.i .i64 (c:Int)),.own 4 0 R 1]):=aBi (by rw [hM.len,show (qD R c A k).length=3 from rfl]; omega)
    have hHh:scH R c A k M 4=some (.cells 112 (hdr c R 5)):=by rw [← hM.len]; exact uX rfl
    obtain ⟨v,hv,hvl,hve⟩:=hM.get hgi
    have hHi:scH R c A k M (i+5)=some (.cells 69 ((vcs v).map .d)):=rW (m:=4) rfl hv
    by_cases hgj:j<c
    ·have q2:(j:Int)<c:=by omega
     have hw2:IntKind.i64.wrap ((j:Int)+1)=(j:Int)+1:=aS (by omega) (by omega)
     obtain ⟨av,hav,havl,have1⟩:=hA.get hgi
     have hz:av[j]? = some (ent A i j):=by
      rw [← have1 j,List.getD_eq_getElem?_getD,List.getElem?_eq_getElem (by omega)]; rfl
     have hzS:Sz (ent A i j):=hAs _ (List.mem_of_getElem? hav) _ (List.mem_of_getElem? hz)
     have hmul:=nD (ent A i j) k hzS hk
     have hM':Sh R c (M.set i (v.set j (ent A i j * k))):=fR hM hv
     have hupd:upd (scH R c A k M) (i+5) (some (.cells 69 ((vcs (v.set j (ent A i j * k))).map .d)))=scH R c A k (M.set i (v.set j (ent A i j * k))):=tR (m:=4) rfl (by rw [hM.len]; exact hgi)
     have hlay:=kA (v:=v) (ent A i j * k) (by rw [hvl]; exact hgj)
     have hvcl:=fI v
     rw [hvl] at hvcl
     have hj2:j * 2+2≤c * 2:=by omega
     have hg:=cW (c:=c) (b:=5) hgi
     have hgl:=cB c R 5
     have hg2:∀ h:i<(hdr c R 5).length,(hdr c R 5)[i]'h=.own (i+5) 0 c 2:=fun h=>Option.some.inj ((List.getElem?_eq_getElem h).symm.trans hg)
     generalize hze:ent A i j=z at *
     generalize hz':z * k=z' at *
     generalize hHg:scH R c A k M=H at *
     generalize hdr c R 5=cellsR at *
     simp [-map_map,-mapM_map,↓KW,q2,hH1,hH2,hHo,hHh,hHi,hg,hg2,hgl,hgi,hgj,hav,hz,hj2,hvcl,cH,aGv,aD,aJ,aP,bH,aX]
     refine aA (ds:=[encZ z,encZ k]) (by rfl) hmul ?_
     rw [bI]
     simp [-map_map,-mapM_map,↓KW,hw2,hH1,hH2,hHo,hHh,hHi,hg,hg2,hgl,hgi,hgj,hj2,hvcl,hlay,aD,aJ,aP,bH,aX]
     rw [hupd]
     refine aK (j+1,M.set i (v.set j z')) ⟨hgj,hM',fun r s hr hs=>?_⟩ (Nat.sub_lt_sub_left hgj (Nat.lt_succ_self _)) ?_
     ·rw [kZ hM hgi hgj hv,hME r s hr hs]
      simp only [scF]
      split
      ·rename_i e; rw [if_pos (by omega),e.1,e.2,hze,hz']
      ·split
       ·rw [if_pos (by omega)]
       ·rw [if_neg (by omega)]
     ·refine ⟨_,jH ?_ (fun id o' ho=>⟨o',ho,tY hM' ho⟩) (fun id hid=>yJ hM' hid) (by simp)⟩
      have g1:=iY (A:=A) (k:=k) hM' (id:=1) (by omega) (by omega)
      have g2:=iY (A:=A) (k:=k) hM' (id:=2) (by omega) (by omega)
      have g3:=iY (A:=A) (k:=k) hM' (id:=3) (by omega) (by omega)
      have g4:=iY (A:=A) (k:=k) hM' (id:=R+5) (by omega) (by omega)
      simp [-map_map,upd,aT,Γ0,g1,g2,g3,g4]
    ·have q2:¬ (j:Int)<c:=by omega
     have ej:j=c:=by omega
     have hsome:=fun id=>iY (A:=A) (k:=k) hM (id:=id)
     have htop:=fun id=>yJ (A:=A) (k:=k) hM (id:=id)
     have hself:=fun (H:Nat→Option HO) id o=>tY (A:=A) (k:=k) hM (H:=H) (id:=id) (o:=o)
     generalize hHg:scH R c A k M=H at *
     simp [-map_map,-mapM_map,↓KW,q2,hH1,hw]
     refine aK (i+1,M) ⟨hgi,hM,fun r s hr hs=>?_⟩ (Nat.sub_lt_sub_left hgi (Nat.lt_succ_self _)) ?_
     ·rw [hME r s hr hs]
      simp only [scF]
      by_cases e:r<i∨(r=i∧s<j)
      ·rw [if_pos e,if_pos (by omega)]
      ·rw [if_neg e,if_neg (by omega)]
     ·rw [hHg]
      refine ⟨_,jH ?_ (fun id o' ho=>⟨o',ho,hself _ _ _ ho⟩) (fun id hid=>htop id hid) (by simp)⟩
      have g1:=hsome 1 (by omega) (by omega)
      have g2:=hsome 2 (by omega) (by omega)
      have g3:=hsome 3 (by omega) (by omega)
      have g4:=hsome (R+5) (by omega) (by omega)
      simp [-map_map,upd,aT,Γ0,g1,g2,g3,g4]
  ·have q1:¬ (i:Int)<R:=by omega
   have ei:i=R:=by omega
   have hMk:M=mk R c fun r s=>ent A r s * k:=pO hM fun r s hr hs=>by
    rw [hME r s hr hs]; simp only [scF]; rw [if_pos (by omega)]
   have hmb:∀ (i:Nat) o,(mB c M 4)[i]? = some o→scH R c A k M (i+4)=some o:=fun i o h=>by
    have hi:=(List.getElem?_eq_some_iff.1 h).1
    unfold scH
    rw [show i+4=(i+3)+1 by omega,kD,List.getElem?_append_left (by rw [List.length_append,show (qD R c A k).length=3 from rfl]; omega),List.getElem?_append_right (by rw [show (qD R c A k).length=3 from rfl]; omega),show (qD R c A k).length=3 from rfl,Nat.add_sub_cancel]
    exact h
   rw [zX] at hHo
   generalize hHg:scH R c A k M=H at *
   simp [-map_map,-mapM_map,↓KW,q1,hH1,hH3,hHo]
   rw [← hMk]
   refine aMe hM (Nat.succ_ne_zero _) rfl fun i o h=>?_
   simp only [upd]
   rw [if_neg (by omega)]
   exact hmb i o h
end Go.Am
end

section
set_option linter.unusedVariables false
set_option linter.unusedSimpArgs false
open List (map_map mapM_map)
open Go Go.Am Go.Proofs
namespace Go.Am
set_option maxHeartbeats 8000000 in
set_option maxRecDepth 10000 in
theorem aTf {R c:Nat} {A:List (List Int)} (hA:Sh R c A) (hR:R≤1000) (hc:c≤1000) (hAs:∀ v∈A,∀ z∈v,Sz z) :
  oN Tryz.prog 161 [cP R c A] (nwV R c) (mB c A):=by
 refine lD (N:=6) aF Tryz.func161 rfl rfl rfl (by decide) (by kernel_rfl) (by kernel_rfl) (by simp) rfl ?_
 have hof:=uC 1 (by decide) (by decide)
 have hN:=aYn (k:=1) hA hR hc (Nat.le_trans (eO (n:=1) (k:=1) (by decide)) (by decide)) hAs
 have hMk:(mk R c fun r s=>ent A r s * 1)=A:=(pO hA fun r s _ _=>by rw [Int.mul_one]).symm
 rw [hMk] at hN
 have hl:(mB c A 3).length=R+1:=by rw [cA,hA.len]
 simp [-map_map,-mapM_map,↓KW,cP]
 refine aA (ds:=[.i .i64 1]) (by rfl) hof ?_
 rw [bI]
 simp [-map_map,-mapM_map,↓KW,cP,aD,aJ,aP,bH,aX]
 refine iZ [cP R c A,encZ 1] (nwV R c) (mB c A) (by simp) (by simp) (by simp) (by rfl) (by rfl) hN ?_
 have hne1:¬ 1=3+(R+1):=by omega
 simp [-map_map,-mapM_map,↓KW,nwV,hl,eS]
 refine aMe hA (Nat.succ_ne_zero _) rfl fun i o h=>?_
 have hi:=(List.getElem?_eq_some_iff.1 h).1
 rw [hl] at hi
 simp only [upd,eS,hl]
 rw [if_neg (by omega),if_pos (by omega),Nat.add_sub_cancel]
 exact h
def idM (n:Nat):List (List Int):=mk n n fun r s=>if r=s then 1 else 0
def idF (i r s:Nat):Int:=if r<i∧r=s then 1 else 0
def idH (n:Nat) (M:List (List Int)):Nat→Option HO:=fS 1 ([.cells 155 [.d (.i .i64 0),.d (.i .i64 0),.nil]]++mB n M 2++[.cells 155 [.d (.i .i64 (n:Int)),.d (.i .i64 (n:Int)),.own 2 0 n 1]])
theorem aKu {n:Nat} {M:List (List Int)} (hM:Sh n n M) {H:Nat→Option HO} {id:Nat} {o:HO} (ho:idH n M id=some o):lJ H (idH n M) (fun i=>i) o o:=by
 refine aBh (fun o ho=>?_) ho
 rw [rX,hM.len,List.length_singleton,List.length_singleton]
 rcases List.mem_append.1 ho with ho | ho
 ·rcases List.mem_append.1 ho with ho | ho
  ·rw [List.mem_singleton.1 ho]; rfl
  ·exact tC (by omega) (by rw [hM.len]; omega) o ho
 ·rw [List.mem_singleton.1 ho]
  simp only [rfO,rfC,List.all_cons,List.all_nil,Bool.and_true,Bool.true_and,decide_eq_true_eq]; omega
theorem aRi {n:Nat} {M:List (List Int)} (hM:Sh n n M) {id:Nat} (h:n+4≤id):idH n M id=none :=
 uY (by rw [rX,hM.len,List.length_singleton,List.length_singleton]; omega)
theorem uT {n:Nat} {M:List (List Int)} (hM:Sh n n M) {id:Nat} (h1:1≤id) (h2:id<n+4):(idH n M id).isSome=true :=
 jN h1 (by rw [rX,hM.len,List.length_singleton,List.length_singleton]; omega)
set_option maxHeartbeats 8000000 in
set_option maxRecDepth 10000 in
theorem aIz (n:Nat) (hR:n≤1000):oN Tryz.prog 162 [.i .i64 (n:Int)] (nwV n n) (mB n (idM n)):=by
 refine lD (N:=22) aF Tryz.func162 rfl rfl rfl (by decide) (by kernel_rfl) (by kernel_rfl) (by simp) rfl ?_
 have hN:=aYo n n hR hR
 have hof:=uC 1 (by decide) (by decide)
 simp [-map_map,-mapM_map,↓KW,]
 refine iZ [.i .i64 (n:Int),.i .i64 (n:Int)] (nwV n n) (mB n (List.replicate n (List.replicate n 0))) (by simp) (by simp) (by simp) (by rfl) (by rfl) hN ?_
 have hne1:¬ 1=2+(n+1):=by omega
 have hz0:Sh n n (List.replicate n (List.replicate n (0:Int))):=⟨by simp,fun v hv=>by rw [List.eq_of_mem_replicate hv]; simp⟩
 have hH0:∀ p q:HO,upd (eS (upd (fun _=>none) 1 (some q)) 2 (mB n (List.replicate n (List.replicate n 0)) 2)) (2+(n+1)) (some p)=fS 1 ([q]++mB n (List.replicate n (List.replicate n 0)) 2++[p]):=fun p q=>by
  rw [aRo,zB (n:=2) (pre:=[_]) rfl,oH (by rw [List.length_append,cA,List.length_replicate,List.length_singleton]; omega)]
 simp [-map_map,-mapM_map,↓KW,nwV,cA,eS,hne1]
 refine aU (fun x:Nat × List (List Int)=>x.1≤n∧Sh n n x.2∧∀ r s,r<n→s<n→ent x.2 r s=idF x.1 r s) (fun x=>⟨iC [(0,.d (.i .i64 (n:Int))),(2,.ptr 1 0),(3,.ptr (n+3) 0),(4,.d (.i .i64 (x.1:Int)))],idH n x.2,n+4⟩) (fun x=>n - x.1)
  (0,List.replicate n (List.replicate n 0)) ⟨Nat.zero_le _,hz0,fun r s hr hs=>?_⟩ ?_ ?_
 ·unfold ent idF
  rw [if_neg (by omega),List.getD_eq_getElem?_getD (l:=List.replicate n _),List.getElem?_replicate,if_pos hr]
  simp only [Option.getD_some]
  rw [List.getD_eq_getElem?_getD,List.getElem?_replicate,if_pos hs]; rfl
 ·rw [aDh,hH0]
  refine ⟨_,jH ?_ (fun id o' ho=>⟨o',ho,aKu hz0 ho⟩) (fun id hid=>aRi hz0 hid) (by simp)⟩
  have g1:=uT hz0 (id:=1) (by omega) (by omega)
  have g4:=uT hz0 (id:=n+3) (by omega) (by omega)
  have g5:2+(n+1)=n+3:=by omega
  simp [-map_map,upd,aT,Γ0,g1,g4,g5]
 ·rintro ⟨i,M⟩ ⟨hi,hM,hME⟩
  simp only at hi hM hME
  have hH1:idH n M 1=some (.cells 155 [.d (.i .i64 0),.d (.i .i64 0),.nil]):=rfl
  have hHo:idH n M (n+3)=some (.cells 155 [.d (.i .i64 (n:Int)),.d (.i .i64 (n:Int)),.own 2 0 n 1]):=aBi (by rw [hM.len,List.length_singleton]; omega)
  by_cases hgi:i<n
  ·have q1:(i:Int)<n:=by omega
   have hw:IntKind.i64.wrap ((i:Int)+1)=(i:Int)+1:=aS (by omega) (by omega)
   have hHh:idH n M 2=some (.cells 112 (hdr n n 3)):=by
    have:=uX (b:=1) (c:=n) (m:=2) (pre:=[.cells 155 [.d (.i .i64 0),.d (.i .i64 0),.nil]]) (M:=M) (post:=[.cells 155 [.d (.i .i64 (n:Int)),.d (.i .i64 (n:Int)),.own 2 0 n 1]]) rfl
    rwa [hM.len] at this
   obtain ⟨v,hv,hvl,hve⟩:=hM.get hgi
   have hHi:idH n M (i+3)=some (.cells 69 ((vcs v).map .d)):=rW (m:=2) rfl hv
   obtain ⟨z',hz'⟩:∃ z',z'=(1:Int):=⟨1,rfl⟩
   have hofz:Spec Tryz.prog 28 [.i .i64 1] (encZ z'):=by rw [hz']; exact hof
   have hM':Sh n n (M.set i (v.set i z')):=fR hM hv
   have hupd:upd (idH n M) (i+3) (some (.cells 69 ((vcs (v.set i z')).map .d)))=idH n (M.set i (v.set i z')):=tR (m:=2) rfl (by rw [hM.len]; exact hgi)
   have hlay:=kA (v:=v) z' (j:=i) (by rw [hvl]; exact hgi)
   have hvcl:=fI v
   rw [hvl] at hvcl
   have hj2:i * 2+2≤n * 2:=by omega
   have hg:=cW (c:=n) (b:=3) hgi
   have hgl:=cB n n 3
   have hg2:∀ h:i<(hdr n n 3).length,(hdr n n 3)[i]'h=.own (i+3) 0 n 2:=fun h=>Option.some.inj ((List.getElem?_eq_getElem h).symm.trans hg)
   generalize hHg:idH n M=H at *
   generalize hdr n n 3=cellsR at *
   simp [-map_map,-mapM_map,↓KW,q1,hH1,hHo,hHh,hHi,hg,hg2,hgl,hgi]
   refine aA (ds:=[.i .i64 1]) (by rfl) hofz ?_
   rw [bI]
   simp [-map_map,-mapM_map,↓KW,hw,hH1,hHo,hHh,hHi,hg,hg2,hgl,hgi,hj2,hvcl,hlay,aD,aJ,aP,bH,aX]
   rw [hupd]
   refine aK (i+1,M.set i (v.set i z')) ⟨hgi,hM',fun r s hr hs=>?_⟩ (Nat.sub_lt_sub_left hgi (Nat.lt_succ_self _)) ?_
   ·rw [kZ hM hgi hgi hv,hME r s hr hs,hz']
    simp only [idF]
    by_cases e:r=i∧s=i
    ·rw [if_pos e,if_pos (by omega)]
    ·rw [if_neg e]
     by_cases e2:r<i∧r=s
     ·rw [if_pos e2,if_pos (by omega)]
     ·rw [if_neg e2,if_neg (by omega)]
   ·refine ⟨_,jH ?_ (fun id o' ho=>⟨o',ho,aKu hM' ho⟩) (fun id hid=>aRi hM' hid) (by simp)⟩
    have g1:=uT hM' (id:=1) (by omega) (by omega)
    have g4:=uT hM' (id:=n+3) (by omega) (by omega)
    simp [-map_map,upd,aT,Γ0,g1,g4]
  ·have q1:¬ (i:Int)<n:=by omega
   have hMk:M=idM n:=pO hM fun r s hr hs=>by
    rw [hME r s hr hs]; simp only [idF]
    by_cases e:r=s
    ·rw [if_pos e,if_pos ⟨by omega,e⟩]
    ·rw [if_neg e,if_neg (fun h=>e h.2)]
   have hmb:∀ (i:Nat) o,(mB n M 2)[i]? = some o→idH n M (i+2)=some o:=fun i o h=>by
    have hi:=(List.getElem?_eq_some_iff.1 h).1
    unfold idH
    rw [show i+2=(i+1)+1 by omega,kD,List.getElem?_append_left (by rw [List.length_append,List.length_singleton]; omega),List.getElem?_append_right (by rw [List.length_singleton]; omega),List.length_singleton,Nat.add_sub_cancel]
    exact h
   generalize hHg:idH n M=H at *
   simp [-map_map,-mapM_map,↓KW,q1,hH1,hHo]
   rw [← hMk]
   refine aMe hM (Nat.succ_ne_zero _) rfl fun i o h=>?_
   simp only [upd]
   rw [if_neg (by omega)]
   exact hmb i o h
end Go.Am
end

section
set_option linter.unusedVariables false
set_option linter.unusedSimpArgs false
open Go Go.Am Go.Proofs
namespace Go.Am
def wRt (R c p q r:Nat):HO:=.cells 212 [.d (.i .i64 (R:Int)),.d (.i .i64 (c:Int)),.own p 0 R 1,.d (.i .i64 (R:Int)),.d (.i .i64 (R:Int)),.own q 0 R 1,.d (.i .i64 (R:Int)),.d (.i .i64 (R:Int)),.own r 0 R 1]
def wHs (R c:Nat) (M U V:List (List Int)) (p q r:Nat):List HO:=mB c M p++mB R U q++mB R V r
def wH (R c:Nat) (M U V:List (List Int)):List HO:=wHs R c M U V 1 (R+2) (2 * R+3)
def wR0 (R c:Nat):HO:=wRt R c 1 (R+2) (2 * R+3)
structure WS (R c:Nat) (M U V:List (List Int)):Prop where
 m:Sh R c M
 u:Sh R R U
 v:Sh R R V
theorem fL {R c:Nat} {M U V:List (List Int)} (h:WS R c M U V) (p q r:Nat):(wHs R c M U V p q r).length=3 * R+3:=by
 unfold wHs
 rw [List.length_append,List.length_append,cA,cA,cA,h.m.len,h.u.len,h.v.len]; omega
theorem aHu {R c i p q r:Nat} {M U V:List (List Int)} (h:WS R c M U V) (hi:i<R+1):(wHs R c M U V p q r)[i]? = (mB c M p)[i]? := by
 unfold wHs
 rw [List.append_assoc,List.getElem?_append_left (by rw [cA,h.m.len]; exact hi)]
theorem aHt {R c i p q r:Nat} {M U V:List (List Int)} (h:WS R c M U V) (hi:i<R+1):(wHs R c M U V p q r)[i+(R+1)]? = (mB R U q)[i]? := by
 unfold wHs
 rw [List.append_assoc,List.getElem?_append_right (by rw [cA,h.m.len]; omega),cA,h.m.len,Nat.add_sub_cancel,List.getElem?_append_left (by rw [cA,h.u.len]; exact hi)]
theorem aHs {R c i p q r:Nat} {M U V:List (List Int)} (h:WS R c M U V) (hi:i<R+1):(wHs R c M U V p q r)[i+(2 * R+2)]? = (mB R V r)[i]? := by
 unfold wHs
 rw [List.getElem?_append_right (by rw [List.length_append,cA,cA,h.m.len,h.u.len]; omega),List.length_append,cA,cA,h.m.len,h.u.len,show i+(2 * R+2) - (R+1+(R+1))=i by omega]
theorem bRc {R i:Nat} (h:i<3 * R+3):i<R+1∨(∃ t,t<R+1∧i=t+(R+1))∨∃ t,t<R+1∧i=t+(2 * R+2):=by
 by_cases h1:i<R+1
 ·exact .inl h1
 ·by_cases h2:i<2 * R+2
  ·exact .inr (.inl ⟨i - (R+1),by omega,by omega⟩)
  ·exact .inr (.inr ⟨i - (2 * R+2),by omega,by omega⟩)
structure HW (H:Nat→Option HO) (b p q r R c:Nat) (M U V:List (List Int)):Prop where
 root:H b=some (wRt R c p q r)
 m:∀ (i:Nat) o,(mB c M p)[i]? = some o→H (i+p)=some o
 u:∀ (i:Nat) o,(mB R U q)[i]? = some o→H (i+q)=some o
 v:∀ (i:Nat) o,(mB R V r)[i]? = some o→H (i+r)=some o
def wNu (b p q r R:Nat) (i:Nat):Nat:=if i=0 then b else if i<R+2 then p+(i - 1) else if i<2 * R+3 then q+(i - (R+2)) else r+(i - (2 * R+3))
theorem aPp {b p q r R t:Nat} (h:t<R+1):wNu b p q r R (t+1)=p+t:=by
 unfold wNu; rw [if_neg (by omega),if_pos (by omega)]; rfl
theorem aPo {b p q r R t:Nat} (h:t<R+1):wNu b p q r R (t+(R+2))=q+t:=by
 unfold wNu; rw [if_neg (by omega),if_neg (by omega),if_pos (by omega),Nat.add_sub_cancel]
theorem aPn {b p q r R t:Nat}:wNu b p q r R (t+(2 * R+3))=r+t:=by
 unfold wNu; rw [if_neg (by omega),if_neg (by omega),if_neg (by omega),Nat.add_sub_cancel]
theorem bGk (ν:Nat→Nat) (v:List Int):jR ν (xV v)=xV v:=by
 simp only [jR,xV,List.map_map]; congr 1
theorem bGl {ν:Nat→Nat} {c n m m':Nat} (h:∀ t,t<n→ν (t+m)=t+m'):(hdr c n m).map (sJ ν)=hdr c n m':=by
 unfold hdr
 rw [List.map_map]
 refine List.map_congr_left fun j hj=>?_
 simp only [Function.comp,sJ]
 rw [h j (List.mem_range.1 hj)]
theorem aYd {ν:Nat→Nat} {c m m':Nat} {M:List (List Int)} (h:∀ t,t<M.length→ν (t+(m+1))=t+(m'+1)):(mB c M m).map (jR ν)=mB c M m':=by
 unfold mB
 rw [List.map_cons,List.map_map]
 congr 1
 ·simp only [jR]; rw [bGl h]
 ·refine List.map_congr_left fun v _=>?_
  exact bGk ν v
theorem aIs (b p q r R c:Nat):jR (wNu b p q r R) (wR0 R c)=wRt R c p q r:=by
 have h1:wNu b p q r R 1=p:=aPp (t:=0) (by omega)
 have h2:wNu b p q r R (R+2)=q:=by have:=aPo (b:=b) (p:=p) (q:=q) (r:=r) (R:=R) (t:=0) (by omega); rwa [Nat.zero_add,Nat.add_zero] at this
 have h3:wNu b p q r R (2 * R+3)=r:=by have:=aPn (b:=b) (p:=p) (q:=q) (r:=r) (R:=R) (t:=0); rwa [Nat.zero_add,Nat.add_zero] at this
 simp only [wR0,wRt,jR,List.map_cons,List.map_nil,sJ,h1,h2,h3]
theorem bQt {a n:Nat} {o:HO} (h:rfO a n o=true):lfO n o=true:=by
 cases o with
 | map _ _=>cases h
 | iter _ _ _=>cases h
 | cells e cs =>
  refine List.all_eq_true.2 fun c hc=>?_
  have:=List.all_eq_true.1 h c hc
  cases c <;> first | rfl | (cases this; done) | (simp only [rfC,lf0,decide_eq_true_eq] at this ⊢; omega)
theorem aDk {R c:Nat} {M U V:List (List Int)} (h:WS R c M U V):∀ o∈wR0 R c::wH R c M U V,rfO 1 (3 * R+4) o=true:=by
 intro o ho
 rcases List.mem_cons.1 ho with rfl | ho
 ·simp only [wR0,wRt,rfO,rfC,List.all_cons,List.all_nil,Bool.and_true,Bool.true_and,Bool.and_eq_true,decide_eq_true_eq]; omega
 ·unfold wH wHs at ho
  rcases List.mem_append.1 ho with ho | ho
  ·rcases List.mem_append.1 ho with ho | ho
   ·exact tC (by omega) (by rw [h.m.len]; omega) o ho
   ·exact tC (by omega) (by rw [h.u.len]; omega) o ho
  ·exact tC (by omega) (by rw [h.v.len]; omega) o ho
theorem aAp {c n m t:Nat} (h:t<n):aCs (t+m) (.cells 112 (hdr c n m))=true:=by
 simp only [aCs]
 refine List.any_eq_true.2 ⟨.own (t+m) 0 c 2,List.mem_of_getElem? (cW h),by simp [kC]⟩
theorem bLw {R c:Nat} {M U V:List (List Int)} (h:WS R c M U V):∀ i,0<i→i<(wH R c M U V).length+1→∃ j ob,j<i∧(wR0 R c::wH R c M U V)[j]? = some ob∧aCs i ob=true:=by
 intro i hi hl
 rw [show (wH R c M U V).length=3 * R+3 from fL h _ _ _] at hl
 obtain ⟨k,rfl⟩:∃ k,i=k+1:=⟨i - 1,by omega⟩
 rcases bRc (i:=k) (R:=R) (by omega) with ht | ⟨t,ht,rfl⟩ | ⟨t,ht,rfl⟩
 ·rcases k with _ | t
  ·exact ⟨0,_,by omega,rfl,by simp [aCs,wR0,wRt,kC]⟩
  ·refine ⟨1,.cells 112 (hdr c R 2),by omega,?_,?_⟩
   ·rw [List.getElem?_cons_succ]
    show (wHs R c M U V _ _ _)[0]? = _
    rw [aHu h (by omega)]
    simp only [mB,List.getElem?_cons_zero,h.m.len]
   ·have:=aAp (c:=c) (n:=R) (m:=2) (t:=t) (by omega)
    rwa [show t+2=t+1+1 by omega] at this
 ·rcases t with _ | t
  ·refine ⟨0,_,by omega,rfl,?_⟩
   simp only [aCs,wR0,wRt,kC,List.any_cons,List.any_nil,Bool.or_false,Bool.or_eq_true,beq_iff_eq]; omega
  ·refine ⟨R+2,.cells 112 (hdr R R (R+3)),by omega,?_,?_⟩
   ·rw [show R+2=(0+(R+1))+1 by omega,List.getElem?_cons_succ]
    show (wHs R c M U V _ _ _)[0+(R+1)]? = _
    rw [aHt h (by omega)]
    simp only [mB,List.getElem?_cons_zero,h.u.len]
   ·have:=aAp (c:=R) (n:=R) (m:=R+3) (t:=t) (by omega)
    rwa [show t+(R+3)=t+1+(R+1)+1 by omega] at this
 ·rcases t with _ | t
  ·refine ⟨0,_,by omega,rfl,?_⟩
   simp only [aCs,wR0,wRt,kC,List.any_cons,List.any_nil,Bool.or_false,Bool.or_eq_true,beq_iff_eq]; omega
  ·refine ⟨2 * R+3,.cells 112 (hdr R R (2 * R+4)),by omega,?_,?_⟩
   ·rw [show 2 * R+3=(0+(2 * R+2))+1 by omega,List.getElem?_cons_succ]
    show (wHs R c M U V _ _ _)[0+(2 * R+2)]? = _
    rw [aHs h (by omega)]
    simp only [mB,List.getElem?_cons_zero,h.v.len]
   ·have:=aAp (c:=R) (n:=R) (m:=2 * R+4) (t:=t) (by omega)
    rwa [show t+(2 * R+4)=t+1+(2 * R+2)+1 by omega] at this
theorem HW.get {H:Nat→Option HO} {b p q r R c:Nat} {M U V:List (List Int)} (h:HW H b p q r R c M U V) (hs:WS R c M U V) (i:Nat) (ob:HO) (ho:(wR0 R c::wH R c M U V)[i]? = some ob):H (wNu b p q r R i)=some (jR (wNu b p q r R) ob):=by
 rcases i with _ | i
 ·simp only [List.getElem?_cons_zero,Option.some.injEq] at ho
  subst ho
  rw [aIs]; exact h.root
 ·rw [List.getElem?_cons_succ] at ho
  have hlt:=(List.getElem?_eq_some_iff.1 ho).1
  rw [show (wH R c M U V).length=3 * R+3 from fL hs _ _ _] at hlt
  have key:∀ {c' m m':Nat} {N:List (List Int)} {t:Nat},(∀ t,t<N.length→wNu b p q r R (t+(m+1))=t+(m'+1))→(mB c' N m)[t]? = some ob→(mB c' N m')[t]? = some (jR (wNu b p q r R) ob):=fun hν ht=>by
   rw [← aYd hν,List.getElem?_map,ht]; rfl
  rcases bRc hlt with ht | ⟨t,ht,rfl⟩ | ⟨t,ht,rfl⟩
  ·unfold wH at ho
   rw [aHu hs ht] at ho
   rw [aPp ht,Nat.add_comm p i]
   exact h.m i _ (key (fun t ht=>by rw [hs.m.len] at ht; rw [show t+(1+1)=(t+1)+1 by omega,aPp (by omega)]; omega) ho)
  ·unfold wH at ho
   rw [aHt hs ht] at ho
   rw [show t+(R+1)+1=t+(R+2) by omega,aPo ht,Nat.add_comm q t]
   exact h.u t _ (key (fun t ht=>by rw [hs.u.len] at ht; rw [show t+(R+2+1)=(t+1)+(R+2) by omega,aPo (by omega)]; omega) ho)
  ·unfold wH at ho
   rw [aHs hs ht] at ho
   rw [show t+(2 * R+2)+1=t+(2 * R+3) by omega,aPn,Nat.add_comm r t]
   exact h.v t _ (key (fun t ht=>by rw [show t+(2 * R+3+1)=(t+1)+(2 * R+3) by omega,aPn]; omega) ho)
theorem aFn {b p q r R:Nat} (h1:b<p∨r+R<b) (h2:p+R<q) (h3:q+R<r) (i j:Nat) (hi:i<3 * R+4) (hj:j<3 * R+4) (he:wNu b p q r R i=wNu b p q r R j):i=j:=by
 unfold wNu at he
 split at he <;> split at he <;> first | omega | (split at he <;> first | omega | (split at he <;> first | omega | (split at he <;> first | omega | (split at he <;> omega))))
end Go.Am
end

section
set_option linter.unusedVariables false
set_option linter.unusedSimpArgs false
open Go Go.Am Go.Proofs
namespace Go.Am
structure HF (H:Nat→Option HO) (pre:List HO) (p q r R c:Nat) (M U V:List (List Int)):Prop where
 w:HW H (pre.length+1) p q r R c M U V
 pre:∀ (i:Nat) o,pre[i]? = some o→H (i+1)=some o
theorem HW.hdrM {H:Nat→Option HO} {b p q r R c:Nat} {M U V:List (List Int)} (h:HW H b p q r R c M U V) (hs:WS R c M U V):H p=some (.cells 112 (hdr c R (p+1))):=by
 have:=h.m 0 _ rfl
 rwa [Nat.zero_add,hs.m.len] at this
theorem HW.rowM {H:Nat→Option HO} {b p q r R c i:Nat} {M U V:List (List Int)} (h:HW H b p q r R c M U V) {v:List Int} (hv:M[i]? = some v):H (i+(p+1))=some (.cells 69 ((vcs v).map .d)):=by
 have:=h.m (i+1) (xV v) (by simp only [mB,List.getElem?_cons_succ,List.getElem?_map,hv,Option.map_some])
 rwa [show i+1+p=i+(p+1) by omega] at this
theorem aZm (b n R:Nat):nuT b n=wNu b n (n+R+1) (n+2 * R+2) R:=by
 funext j
 unfold nuT wNu
 by_cases h:j=0
 ·rw [if_pos h,if_pos h]
 ·rw [if_neg h,if_neg h]
  split
  ·rfl
  ·split <;> omega
theorem bKp {b p q r R n:Nat} (h1:b<p) (h2:p+R<q) (h3:q+R<r) (h4:r+R<n) {id:Nat} (h:id∈nuL (wNu b p q r R) (3 * R+3)):b<id∧id<n:=by
 obtain ⟨j,hj,hj2,rfl⟩:=rP.1 h
 unfold wNu
 rw [if_neg (by omega)]
 split
 ·omega
 ·split <;> omega
theorem aYz {P:Program} {dst:Option Tmp} {ty:TypeId} {pos:String} {after:Array Edge} {guard:Option (Nat × Bool)} {σ:St} {con:List Nat} {k:St→List Nat→Prop} {f:FuncId} {x:Operand} {rest:List Operand} {ts:Array TypeId}
  {d:Dm ((⟨dst,.call ⟨.value (.func f),(x::rest).toArray,ts⟩,ty,pos,after,guard⟩:Oper),k)} {b p q r R c:Nat} {M U V M' U' V':List (List Int)} {ds:List D} (hm:bE P f=true) (hpos:0<σ.n) (hx:oev σ.Γ x=.ptr b 0)
  (hW:HW σ.H b p q r R c M U V) (hs:WS R c M U V) (h1:b<p) (h2:p+R<q) (h3:q+R<r) (hvis:gD σ.H (rest.map (oev σ.Γ))=[]) (hfr:gN σ.H (rest.map (oev σ.Γ))=some ds)
  (hs':WS R c M' U' V') (hsp:vQ P f (.ptr 0 0) (wR0 R c) (wH R c M U V) ds (wR0 R c) (wH R c M' U' V') (.tp []))
  (hk:k ⟨bO σ.Γ dst (inj (.tp [])),tcH σ.H σ.n b (nuL (wNu b p q r R) (3 * R+3)) (wR0 R c) (wH R c M' U' V'),σ.n+(3 * R+3)⟩ (nuL (wNu b p q r R) (3 * R+3)++con)):O1d P ⟨dst,.call ⟨.value (.func f),(x::rest).toArray,ts⟩,ty,pos,after,guard⟩ σ con k d:=by
 have hl:(wH R c M U V).length=3 * R+3:=fL hs _ _ _
 have hl':(wH R c M' U' V').length=3 * R+3:=fL hs' _ _ _
 refine aZa (wNu b p q r R) (.ptr 0 0) (wR0 R c) (wH R c M U V) ds (wR0 R c) (wH R c M' U' V') (.tp []) hm hpos ?_ rfl (by simp [lf0]) (fun i j hi hj he=>?_) (fun i ob ho=>⟨?_,hW.get hs i ob ho⟩) (bLw hs) hvis hfr hsp ?_
 ·rw [hx]; rfl
 ·exact aFn (.inl h1) h2 h3 i j (by omega) (by omega) he
 ·have:=bQt (aDk hs ob (List.mem_of_getElem? ho))
  rwa [hl]
 ·rw [hl,hl']; exact hk
theorem bJa (σ:St) {con:List Nat} (h:con≠[]) (k:St→Prop) (d:Dm k):aDd σ con k d=k ⟨fun t=>jI con (σ.Γ t),fun id=>(σ.H id).map (dT con),σ.n⟩:=by
 cases con with
 | nil=>exact (h rfl).elim
 | cons c l=>rfl
theorem bNg (ν:Nat→Nat) (n:Nat):nuL ν (n+1)++[]≠[]:=by
 unfold nuL
 intro h
 have:=congrArg List.length h
 simp at this
theorem aIm {l:List Nat} {a n:Nat} {o:HO} (hl:∀ id∈l,id<a∨n≤id) (ho:rfO a n o=true):dT l o=o:=by
 cases o with
 | map _ _=>cases ho
 | iter _ _ _=>cases ho
 | cells e cs =>
  simp only [dT]
  congr 1
  conv=>rhs; rw [← List.map_id cs]
  refine List.map_congr_left fun c hc=>?_
  have:=List.all_eq_true.1 ho c hc
  cases c <;> first | rfl | (cases this; done) | (simp only [rfC,decide_eq_true_eq] at this; simp only [eF,id]; rw [if_neg]; intro hm; have:=hl _ hm; omega)
theorem HF.call {H:Nat→Option HO} {pre:List HO} {p q r R c n:Nat} {M U V M' U' V':List (List Int)} (h:HF H pre p q r R c M U V) (hs':WS R c M' U' V') (h1:pre.length+1<p) (h2:p+R<q) (h3:q+R<r) (h4:r+R<n) (hpre:∀ o∈pre,rfO 0 0 o=true) :
  HF (fun id=>(tcH H n (pre.length+1) (nuL (wNu (pre.length+1) p q r R) (3 * R+3)) (wR0 R c) (wH R c M' U' V') id).map (dT (nuL (wNu (pre.length+1) p q r R) (3 * R+3)))) pre n (n+R+1) (n+2 * R+2) R c M' U' V':=by
 have hl':(wH R c M' U' V').length=3 * R+3:=fL hs' _ _ _
 have hids:=fun id h=>bKp h1 h2 h3 h4 (id:=id) h
 generalize nuL (wNu (pre.length+1) p q r R) (3 * R+3)=l at *
 have hsc:∀ {o:HO},rfO n (n+3 * R+3) o=true→dT l o=o:=fun ho=>aIm (fun id hid=>.inl (hids id hid).2) ho
 have hrf:∀ {c' m':Nat} {N:List (List Int)},n≤m'→m'+1+N.length≤n+3 * R+3→∀ o∈mB c' N m',dT l o=o:=fun h1 h2 o ho=>hsc (tC (by omega) h2 o ho)
 have hnew:∀ (i:Nat) ob,(wH R c M' U' V')[i]? = some ob→tcH H n (pre.length+1) l (wR0 R c) (wH R c M' U' V') (i+n)=some (jR (wNu (pre.length+1) n (n+R+1) (n+2 * R+2) R) ob):=fun i ob ho=>by
  have hi:=(List.getElem?_eq_some_iff.1 ho).1
  unfold tcH
  rw [if_pos ⟨by omega,by omega⟩,Nat.add_sub_cancel,ho,← aZm]; rfl
 have key:∀ {c' m m':Nat} {N:List (List Int)} {t:Nat} {o:HO},(∀ t,t<N.length→wNu (pre.length+1) n (n+R+1) (n+2 * R+2) R (t+(m+1))=t+(m'+1))→(mB c' N m')[t]? = some o→∃ ob,(mB c' N m)[t]? = some ob∧o=jR (wNu (pre.length+1) n (n+R+1) (n+2 * R+2) R) ob:=fun hν ht=>by
  rw [← aYd hν,List.getElem?_map] at ht
  obtain ⟨ob,h1,h2⟩:=Option.map_eq_some_iff.1 ht
  exact ⟨ob,h1,h2.symm⟩
 have hmlen:M'.length=R:=hs'.m.len
 have hulen:U'.length=R:=hs'.u.len
 have hvlen:V'.length=R:=hs'.v.len
 refine ⟨⟨?_,fun i o ho=>?_,fun i o ho=>?_,fun i o ho=>?_⟩,fun i o ho=>?_⟩
 ·have:tcH H n (pre.length+1) l (wR0 R c) (wH R c M' U' V') (pre.length+1)=some (wRt R c n (n+R+1) (n+2 * R+2)):=by
   unfold tcH
   rw [if_neg (by omega),if_pos rfl,aZm _ _ R,aIs]
  rw [this]
  simp only [Option.map_some]
  rw [hsc]
  simp only [wRt,rfO,rfC,List.all_cons,List.all_nil,Bool.and_true,Bool.true_and,Bool.and_eq_true,decide_eq_true_eq]; omega
 ·have hi:i<R+1:=by have:=(List.getElem?_eq_some_iff.1 ho).1; rwa [cA,hmlen] at this
  obtain ⟨ob,g1,g2⟩:=key (m:=1) (fun t ht=>by rw [hmlen] at ht; rw [show t+(1+1)=(t+1)+1 by omega,aPp (by omega)]; omega) ho
  rw [hnew i ob (by unfold wH; rw [aHu hs' hi]; exact g1),← g2]
  simp only [Option.map_some]
  rw [hrf (by omega) (by omega) o (List.mem_of_getElem? ho)]
 ·have hi:i<R+1:=by have:=(List.getElem?_eq_some_iff.1 ho).1; rwa [cA,hulen] at this
  obtain ⟨ob,g1,g2⟩:=key (m:=R+2) (fun t ht=>by rw [hulen] at ht; rw [show t+(R+2+1)=(t+1)+(R+2) by omega,aPo (by omega)]; omega) ho
  have:=hnew (i+(R+1)) ob (by unfold wH; rw [aHt hs' hi]; exact g1)
  rw [show i+(n+R+1)=i+(R+1)+n by omega,this,← g2]
  simp only [Option.map_some]
  rw [hrf (by omega) (by omega) o (List.mem_of_getElem? ho)]
 ·have hi:i<R+1:=by have:=(List.getElem?_eq_some_iff.1 ho).1; rwa [cA,hvlen] at this
  obtain ⟨ob,g1,g2⟩:=key (m:=2 * R+3) (fun t ht=>by rw [show t+(2 * R+3+1)=(t+1)+(2 * R+3) by omega,aPn]; omega) ho
  have:=hnew (i+(2 * R+2)) ob (by unfold wH; rw [aHs hs' hi]; exact g1)
  rw [show i+(n+2 * R+2)=i+(2 * R+2)+n by omega,this,← g2]
  simp only [Option.map_some]
  rw [hrf (by omega) (by omega) o (List.mem_of_getElem? ho)]
 ·have hi:=(List.getElem?_eq_some_iff.1 ho).1
  have:tcH H n (pre.length+1) l (wR0 R c) (wH R c M' U' V') (i+1)=some o:=by
   unfold tcH
   rw [if_neg (by omega),if_neg (by omega),if_neg (fun hm=>by have:=(hids _ hm).1; omega)]
   exact h.pre i o ho
  rw [this]
  simp only [Option.map_some]
  rw [aIm (a:=0) (n:=0) (fun id _=>.inr (Nat.zero_le _)) (hpre o (List.mem_of_getElem? ho))]
def wFl (pre:List HO) (R c:Nat) (M U V:List (List Int)):List HO:=pre++(wRt R c (pre.length+2) (pre.length+R+3) (pre.length+2 * R+4)::wHs R c M U V (pre.length+2) (pre.length+R+3) (pre.length+2 * R+4))
def jQ (pre:List HO) (R c:Nat) (M U V:List (List Int)):Nat→Option HO:=fS 1 (wFl pre R c M U V)
theorem aPq {pre:List HO} {R c:Nat} {M U V:List (List Int)} (hs:WS R c M U V):(wFl pre R c M U V).length=pre.length+3 * R+4:=by
 unfold wFl
 rw [List.length_append,List.length_cons,fL hs]; omega
theorem aFo {pre:List HO} {R c:Nat} {M U V:List (List Int)} (hs:WS R c M U V):HF (jQ pre R c M U V) pre (pre.length+2) (pre.length+R+3) (pre.length+2 * R+4) R c M U V:=by
 have hget:∀ i,jQ pre R c M U V (i+(pre.length+2))=(wHs R c M U V (pre.length+2) (pre.length+R+3) (pre.length+2 * R+4))[i]? := fun i=>by
  unfold jQ wFl
  rw [show i+(pre.length+2)=(i+1+pre.length)+1 by omega,kD,List.getElem?_append_right (by omega),Nat.add_sub_cancel,List.getElem?_cons_succ]
 refine ⟨⟨?_,fun i o ho=>?_,fun i o ho=>?_,fun i o ho=>?_⟩,fun i o ho=>?_⟩
 ·unfold jQ wFl
  rw [kD,List.getElem?_append_right (Nat.le_refl _),Nat.sub_self]; rfl
 ·have hi:i<R+1:=by have:=(List.getElem?_eq_some_iff.1 ho).1; rwa [cA,hs.m.len] at this
  rw [hget,aHu hs hi]; exact ho
 ·have hi:i<R+1:=by have:=(List.getElem?_eq_some_iff.1 ho).1; rwa [cA,hs.u.len] at this
  rw [show i+(pre.length+R+3)=(i+(R+1))+(pre.length+2) by omega,hget,aHt hs hi]; exact ho
 ·have hi:i<R+1:=by have:=(List.getElem?_eq_some_iff.1 ho).1; rwa [cA,hs.v.len] at this
  rw [show i+(pre.length+2 * R+4)=(i+(2 * R+2))+(pre.length+2) by omega,hget,aHs hs hi]; exact ho
 ·unfold jQ wFl
  rw [kD,List.getElem?_append_left (List.getElem?_eq_some_iff.1 ho).1]; exact ho
def aFm (b p q r R:Nat) (id:Nat):Nat:=if id<b then id else wNu b p q r R (id - b)
theorem aXy {H H':Nat→Option HO} {ρ ν μ:Nat→Nat} {a n:Nat} {c:AV} (hc:rfC a n c=true) (h:∀ id,a≤id→id<n→ν id=ρ (μ id)∧(H' (μ id)).isSome=true):mU H H' ρ (sJ ν c) (sJ μ c):=by
 cases c <;> first
  | (cases hc; done)
  | exact (iU _ _).2 rfl
  | trivial
  | (simp only [rfC,decide_eq_true_eq] at hc; obtain ⟨h1,h2⟩:=h _ hc.1 hc.2; exact ⟨h1,rfl,rfl,rfl,h2⟩)
  | (simp only [rfC,decide_eq_true_eq] at hc; obtain ⟨h1,h2⟩:=h _ hc.1 hc.2; exact ⟨h1,rfl,h2⟩)
theorem aXx {H H':Nat→Option HO} {ρ ν μ:Nat→Nat} {a n:Nat} {o:HO} (ho:rfO a n o=true) (h:∀ id,a≤id→id<n→ν id=ρ (μ id)∧(H' (μ id)).isSome=true):lJ H H' ρ (jR ν o) (jR μ o):=by
 cases o with
 | map k es=>cases ho
 | iter _ _ _=>cases ho
 | cells e cs =>
  refine dV.2 ⟨rfl,dZ.2 ⟨by simp,fun k c d h1 h2=>?_⟩⟩
  rw [List.getElem?_map] at h1 h2
  obtain ⟨c0,hc0,rfl⟩:=Option.map_eq_some_iff.1 h1
  rw [hc0] at h2
  injection h2 with h2; subst h2
  exact aXy (List.all_eq_true.1 ho c0 (List.mem_of_getElem? hc0)) h
theorem rE {R b i:Nat}:wNu b (b+1) (b+R+2) (b+2 * R+3) R i=b+i:=by
 unfold wNu
 split
 ·omega
 ·split
  ·omega
  ·split <;> omega
theorem kP {H:Nat→Option HO} {pre:List HO} {p q r R c n b:Nat} {M U V:List (List Int)} {Γ:Nat→AV} {sl:List (Nat × AV)} (h:HF H pre p q r R c M U V) (hs:WS R c M U V) (hb:b=pre.length+1) (h1:b<p) (h2:p+R<q) (h3:q+R<r) (hpre:∀ o∈pre,rfO 0 0 o=true)
  (hslot:lS H (jQ pre R c M U V) (aFm b p q r R) Γ sl):∃ ρ,Wk ⟨Γ,H,n⟩ ⟨iC sl,jQ pre R c M U V,b+3 * R+4⟩ ρ:=by
 subst hb
 have hF:=aFo (pre:=pre) hs
 have hlen:=aPq (pre:=pre) hs
 have hcan:∀ i,i<3 * R+4→(jQ pre R c M U V (i+(pre.length+1))).isSome=true:=fun i hi=>jN (by omega) (by rw [hlen]; omega)
 have hge:∀ id o',jQ pre R c M U V id=some o'→1≤id∧id<pre.length+3 * R+5:=fun id o' ho=>by
  have:=aGu (b:=1) (l:=wFl pre R c M U V) (id:=id) (by unfold jQ at ho; rw [ho]; rfl)
  rw [hlen] at this; omega
 refine ⟨_,aMf (aFm (pre.length+1) p q r R) hslot (fun id o' ho=>?_) (fun id id' e1 e2 e=>?_) (fun h0=>?_) (fun id hid=>?_) (by omega)⟩
 ·obtain ⟨g1,g2⟩:=hge id o' ho
  by_cases hid:id<pre.length+1
  ·obtain ⟨k,rfl⟩:∃ k,id=k+1:=⟨id - 1,by omega⟩
   have hk:pre[k]? = some o':=by
    unfold jQ wFl at ho
    rwa [kD,List.getElem?_append_left (by omega)] at ho
   refine ⟨o',?_,yL (hpre o' (List.mem_of_getElem? hk)) fun id _ h2=>absurd h2 (Nat.not_lt_zero _)⟩
   unfold aFm
   rw [if_pos hid]
   exact h.pre k o' hk
  ·obtain ⟨i,rfl⟩:∃ i,id=i+(pre.length+1):=⟨id - (pre.length+1),by omega⟩
   have hi:i<3 * R+4:=by omega
   have hl4:i<(wR0 R c::wH R c M U V).length:=by rw [List.length_cons,show (wH R c M U V).length=3 * R+3 from fL hs _ _ _]; omega
   obtain ⟨ob,hob⟩:∃ ob,(wR0 R c::wH R c M U V)[i]? = some ob:=⟨_,List.getElem?_eq_getElem hl4⟩
   have e1:=h.w.get hs i ob hob
   have e2:=hF.w.get hs i ob hob
   rw [show pre.length+2=pre.length+1+1 by omega,show pre.length+R+3=pre.length+1+R+2 by omega,show pre.length+2 * R+4=pre.length+1+2 * R+3 by omega] at e2
   rw [rE,Nat.add_comm (pre.length+1) i,ho] at e2
   injection e2 with e2
   rw [e2]
   refine ⟨jR (wNu (pre.length+1) p q r R) ob,?_,aXx (ν:=wNu (pre.length+1) p q r R) (aDk hs ob (List.mem_of_getElem? hob)) fun id g1 g2=>⟨?_,?_⟩⟩
   ·unfold aFm
    rw [if_neg (by omega),Nat.add_sub_cancel]; exact e1
   ·rw [rE]
    unfold aFm
    rw [if_neg (by omega),Nat.add_sub_cancel_left]
   ·rw [rE,Nat.add_comm]
    exact hcan id g2
 ·obtain ⟨o1,ho1⟩:=Option.isSome_iff_exists.1 e1
  obtain ⟨o2,ho2⟩:=Option.isSome_iff_exists.1 e2
  have g1:=hge id o1 ho1
  have g2:=hge id' o2 ho2
  have hbig:∀ i,pre.length+1≤wNu (pre.length+1) p q r R i:=fun i=>by
   unfold wNu
   split
   ·exact Nat.le_refl _
   ·split
    ·omega
    ·split <;> omega
  unfold aFm at e
  split at e <;> split at e
  ·exact e
  ·have:=hbig (id' - (pre.length+1)); omega
  ·have:=hbig (id - (pre.length+1)); omega
  ·have:=aFn (.inl h1) h2 h3 (id - (pre.length+1)) (id' - (pre.length+1)) (by omega) (by omega) e
   omega
 ·obtain ⟨o1,ho1⟩:=Option.isSome_iff_exists.1 h0
  have:=hge 0 o1 ho1
  omega
 ·exact uY (by rw [hlen]; omega)
end Go.Am
end

section
set_option linter.unusedVariables false
set_option linter.unusedSimpArgs false
open List (map_map mapM_map)
open Go Go.Am Go.Proofs
namespace Go.Am
def sX (R c:Nat) (M U V:List (List Int)) (m:Nat):List HO:=wRt R c (m+1) (m+R+2) (m+2 * R+3)::wHs R c M U V (m+1) (m+R+2) (m+2 * R+3)
theorem aHr {R c:Nat} {M U V:List (List Int)} (hs:WS R c M U V) (m:Nat):(sX R c M U V m).length=3 * R+4:=by
 unfold sX; rw [List.length_cons,fL hs]
theorem aWf {R c:Nat} {M U V:List (List Int)} (hs:WS R c M U V) {m i:Nat} {ob:HO} (ho:(wR0 R c::wH R c M U V)[i]? = some ob):(sX R c M U V m)[i]? = some (jR (wNu m (m+1) (m+R+2) (m+2 * R+3) R) ob):=by
 have hW:HW (fun id=>if id<m then none else (sX R c M U V m)[id - m]?) m (m+1) (m+R+2) (m+2 * R+3) R c M U V:=by
  refine ⟨by rw [if_neg (by omega),Nat.sub_self]; rfl,fun i o ho=>?_,fun i o ho=>?_,fun i o ho=>?_⟩
  ·have hi:i<R+1:=by have:=(List.getElem?_eq_some_iff.1 ho).1; rwa [cA,hs.m.len] at this
   rw [if_neg (by omega),show i+(m+1) - m=i+1 by omega]
   show (wHs R c M U V (m+1) (m+R+2) (m+2 * R+3))[i]? = _
   rw [aHu hs hi]; exact ho
  ·have hi:i<R+1:=by have:=(List.getElem?_eq_some_iff.1 ho).1; rwa [cA,hs.u.len] at this
   rw [if_neg (by omega),show i+(m+R+2) - m=(i+(R+1))+1 by omega]
   show (wHs R c M U V (m+1) (m+R+2) (m+2 * R+3))[i+(R+1)]? = _
   rw [aHt hs hi]; exact ho
  ·have hi:i<R+1:=by have:=(List.getElem?_eq_some_iff.1 ho).1; rwa [cA,hs.v.len] at this
   rw [if_neg (by omega),show i+(m+2 * R+3) - m=(i+(2 * R+2))+1 by omega]
   show (wHs R c M U V (m+1) (m+R+2) (m+2 * R+3))[i+(2 * R+2)]? = _
   rw [aHs hs hi]; exact ho
 have:=hW.get hs i ob ho
 rw [rE] at this
 rwa [if_neg (by omega),Nat.add_sub_cancel_left] at this
theorem bFe {Γ:Nat→AV} {H:Nat→Option HO} {n b p q r R c:Nat} {M U V:List (List Int)} (hW:HW H b p q r R c M U V) (hs:WS R c M U V) (hn:n≠0) (h1:b<p∨r+R<b) (h2:p+R<q) (h3:q+R<r) :
  ∀ m,0<m→∃ ρ,Wk ⟨upd Γ 0 (.ptr b 0),H,n⟩ (fA (fun m=>.ptr m 0) (sX R c M U V) m) ρ:=by
 intro m hm0
 have hl:=aHr hs m
 have hin:∀ i,i<3 * R+4→(fA (fun m=>.ptr m 0) (sX R c M U V) m).H (i+m)=(sX R c M U V m)[i]? := fun i h=>by
  simp only [fA,eS]
  rw [if_pos ⟨by omega,by rw [hl]; omega⟩,Nat.add_sub_cancel]
 have hout:∀ id,¬ (m≤id∧id<m+(3 * R+4))→(fA (fun m=>.ptr m 0) (sX R c M U V) m).H id=none:=fun id h=>by
  simp only [fA,eS]
  rw [if_neg (by rw [hl]; exact h)]
 have hsome:∀ id,((fA (fun m=>.ptr m 0) (sX R c M U V) m).H id).isSome=true→∃ i,id=i+m∧i<3 * R+4:=fun id h=>by
  by_cases hr:m≤id∧id<m+(3 * R+4)
  ·exact ⟨id - m,by omega,by omega⟩
  ·rw [hout id hr] at h; cases h
 have hget:∀ i,i<3 * R+4→((fA (fun m=>.ptr m 0) (sX R c M U V) m).H (i+m)).isSome=true:=fun i h=>by
  rw [hin i h,List.getElem?_eq_getElem (by rw [hl]; exact h)]; rfl
 refine ⟨fun id=>wNu b p q r R (id - m),fun id hid=>hout id (by simp only [fA] at hid; rw [hl] at hid; omega),fun t=>?_,fun id o' ho=>?_,fun id id' g1 g2 e=>?_,fun h=>?_,fun h=>?_⟩
 ·show Sub _ _ _ _ (upd (fun _=>.any) 0 (.ptr m 0) t)
  by_cases e:t=0
  ·subst e
   simp only [cG]
   refine ⟨?_,rfl,by have:=hget 0 (by omega); rwa [Nat.zero_add] at this⟩
   show b=wNu b p q r R (m - m)
   rw [Nat.sub_self]; rfl
  ·rw [cU _ _ e]; exact lR _
 ·obtain ⟨i,rfl,hi⟩:=hsome id (by rw [ho]; rfl)
  rw [hin i hi] at ho
  simp only [Nat.add_sub_cancel]
  have hl4:i<(wR0 R c::wH R c M U V).length:=by rw [List.length_cons,show (wH R c M U V).length=3 * R+3 from fL hs _ _ _]; omega
  obtain ⟨ob,hob⟩:∃ ob,(wR0 R c::wH R c M U V)[i]? = some ob:=⟨_,List.getElem?_eq_getElem hl4⟩
  rw [aWf hs hob] at ho
  injection ho with ho
  rw [← ho]
  refine ⟨_,hW.get hs i ob hob,aXx (ν:=wNu b p q r R) (aDk hs ob (List.mem_of_getElem? hob)) fun id g1 g2=>⟨?_,?_⟩⟩
  ·rw [rE,Nat.add_sub_cancel_left]
  ·rw [rE,Nat.add_comm]; exact hget id g2
 ·obtain ⟨i,rfl,hi⟩:=hsome id g1
  obtain ⟨j,rfl,hj⟩:=hsome id' g2
  have e':wNu b p q r R (i+m - m)=wNu b p q r R (j+m - m):=e
  rw [Nat.add_sub_cancel,Nat.add_sub_cancel] at e'
  have:=aFn h1 h2 h3 i j hi hj e'
  omega
 ·obtain ⟨i,hi,_⟩:=hsome 0 h; omega
 ·simp only [fA] at h; omega
set_option maxHeartbeats 8000000 in
set_option maxRecDepth 10000 in
theorem aYk {R c:Nat} {A:List (List Int)} (hA:Sh R c A) (hR:R≤1000) (hc:c≤1000) (hAs:∀ v∈A,∀ z∈v,Sz z) :
  oN Tryz.prog 170 [cP R c A] (fun m=>.ptr m 0) (sX R c A (idM R) (idM R)):=by
 refine lD (N:=13) aF Tryz.func170 rfl rfl rfl (by decide) (by kernel_rfl) (by kernel_rfl) (by simp) rfl ?_
 have hN1:=aTf hA hR hc hAs
 have hN2:=aIz R hR
 have hl:∀ m,(mB c A m).length=R+1:=fun m=>by rw [cA,hA.len]
 have hl2:∀ m,(mB R (idM R) m).length=R+1:=fun m=>by rw [cA,show (idM R).length=R from (iA _ _ _).len]
 simp [-map_map,-mapM_map,↓KW,cP]
 refine iZ [cP R c A] (nwV R c) (mB c A) (by simp) (by simp) (by simp) (by rfl) (by rfl) hN1 ?_
 have hne1:¬ 2≤1:=by omega
 have hne2:¬ 2+(R+1)≤1:=by omega
 have hne3:¬ 2+(R+1)+(R+1)≤1:=by omega
 simp [-map_map,-mapM_map,↓KW,nwV,hl,eS,hne1]
 refine iZ [.i .i64 (R:Int)] (nwV R R) (mB R (idM R)) (by simp) (by simp) (show 0<2+(R+1) by omega) (by rfl) (by rfl) hN2 ?_
 simp [-map_map,-mapM_map,↓KW,nwV,hl,hl2,eS,hne1,hne2]
 refine iZ [.i .i64 (R:Int)] (nwV R R) (mB R (idM R)) (by simp) (by simp) (show 0<2+(R+1)+(R+1) by omega) (by rfl) (by rfl) hN2 ?_
 simp [-map_map,-mapM_map,↓KW,nwV,hl,hl2,eS,hne1,hne2,hne3]
 have hs:WS R c A (idM R) (idM R):=⟨hA,iA _ _ _,iA _ _ _⟩
 refine bFe (b:=2+(R+1)+(R+1)+(R+1)) (p:=2) (q:=2+(R+1)) (r:=2+(R+1)+(R+1)) ?_ hs (Nat.succ_ne_zero _) (by omega) (by omega) (by omega)
 refine ⟨by rw [cG]; rfl,fun i o ho=>?_,fun i o ho=>?_,fun i o ho=>?_⟩
 ·have hi:i<R+1:=by have:=(List.getElem?_eq_some_iff.1 ho).1; rwa [hl] at this
  simp only [upd,eS,hl,hl2]
  rw [if_neg (by omega),if_neg (by omega),if_neg (by omega),if_pos (by omega),Nat.add_sub_cancel]; exact ho
 ·have hi:i<R+1:=by have:=(List.getElem?_eq_some_iff.1 ho).1; rwa [hl2] at this
  simp only [upd,eS,hl,hl2]
  rw [if_neg (by omega),if_neg (by omega),if_pos (by omega),Nat.add_sub_cancel]; exact ho
 ·have hi:i<R+1:=by have:=(List.getElem?_eq_some_iff.1 ho).1; rwa [hl2] at this
  simp only [upd,eS,hl,hl2]
  rw [if_neg (by omega),if_pos (by omega),Nat.add_sub_cancel]; exact ho
end Go.Am
end

section
set_option linter.unusedVariables false
set_option linter.unusedSimpArgs false
open Go Go.Am Go.Proofs
namespace Go.Am
def aL (R c:Nat) (M U V:List (List Int)) (x:List HO):List HO:=[wR0 R c]++mB c M 1++(mB R U (R+2)++mB R V (2 * R+3)++x)
def aH (R c:Nat) (M U V:List (List Int)) (x:List HO):Nat→Option HO:=fS 0 (aL R c M U V x)
theorem bKj (R c:Nat) (M U V:List (List Int)) (x:List HO):aL R c M U V x=(wR0 R c::mB c M 1)++mB R U (R+2)++(mB R V (2 * R+3)++x):=by simp [aL]
theorem aPe (R c:Nat) (M U V:List (List Int)) (x:List HO):aL R c M U V x=(wR0 R c::(mB c M 1++mB R U (R+2)))++mB R V (2 * R+3)++x:=by simp [aL]
theorem aFf (R c:Nat) (M U V:List (List Int)) (x:List HO):aL R c M U V x=wR0 R c::(wH R c M U V++x):=by simp [aL,wH,wHs]
variable {R c:Nat} {M U V:List (List Int)} {x:List HO}
theorem aCd (hs:WS R c M U V):(aL R c M U V x).length=3 * R+4+x.length:=by
 rw [aFf,List.length_cons,List.length_append,show (wH R c M U V).length=3 * R+3 from fL hs _ _ _]; omega
theorem aSe {i:Nat} {v:List Int} (hs:WS R c M U V) (hi:i<R):upd (aH R c M U V x) (i+2) (some (.cells 69 ((vcs v).map .d)))=aH R c (M.set i v) U V x :=
 tR (m:=1) rfl (by rw [hs.m.len]; exact hi)
theorem aSd {i:Nat} {v:List Int} (hs:WS R c M U V) (hi:i<R):upd (aH R c M U V x) (i+(R+3)) (some (.cells 69 ((vcs v).map .d)))=aH R c M (U.set i v) V x:=by
 unfold aH
 rw [bKj,bKj]
 exact tR (m:=R+2) (by rw [List.length_cons,cA,hs.m.len] <;> omega) (by rw [hs.u.len]; exact hi)
theorem zD {i:Nat} {v:List Int} (hs:WS R c M U V) (hi:i<R):upd (aH R c M U V x) (i+(2 * R+4)) (some (.cells 69 ((vcs v).map .d)))=aH R c M U (V.set i v) x:=by
 unfold aH
 rw [aPe,aPe]
 exact tR (m:=2 * R+3) (by rw [List.length_cons,List.length_append,cA,cA,hs.m.len,hs.u.len]; omega) (by rw [hs.v.len]; exact hi)
theorem aSf:aH R c M U V x 0=some (wR0 R c):=rfl
theorem aSh (hs:WS R c M U V):aH R c M U V x 1=some (.cells 112 (hdr c R 2)):=by
 have:=uX (b:=0) (c:=c) (m:=1) (pre:=[wR0 R c]) (M:=M) (post:=mB R U (R+2)++mB R V (2 * R+3)++x) rfl
 rwa [hs.m.len] at this
theorem aSg (hs:WS R c M U V):aH R c M U V x (R+2)=some (.cells 112 (hdr R R (R+3))):=by
 have:=uX (b:=0) (c:=R) (m:=R+2) (pre:=wR0 R c::mB c M 1) (M:=U) (post:=mB R V (2 * R+3)++x) (by rw [List.length_cons,cA,hs.m.len] <;> omega)
 rw [← bKj,hs.u.len] at this
 exact this
theorem bEg (hs:WS R c M U V):aH R c M U V x (2 * R+3)=some (.cells 112 (hdr R R (2 * R+4))):=by
 have:=uX (b:=0) (c:=R) (m:=2 * R+3) (pre:=wR0 R c::(mB c M 1++mB R U (R+2))) (M:=V) (post:=x) (by rw [List.length_cons,List.length_append,cA,cA,hs.m.len,hs.u.len]; omega)
 rw [← aPe,hs.v.len] at this
 exact this
theorem aLv {i:Nat} {v:List Int} (hv:M[i]? = some v):aH R c M U V x (i+2)=some (.cells 69 ((vcs v).map .d)):=rW (m:=1) rfl hv
theorem aLu {i:Nat} {v:List Int} (hs:WS R c M U V) (hv:U[i]? = some v):aH R c M U V x (i+(R+3))=some (.cells 69 ((vcs v).map .d)):=by
 unfold aH
 rw [bKj]
 exact rW (m:=R+2) (by rw [List.length_cons,cA,hs.m.len] <;> omega) hv
theorem bEe {i:Nat} {v:List Int} (hs:WS R c M U V) (hv:V[i]? = some v):aH R c M U V x (i+(2 * R+4))=some (.cells 69 ((vcs v).map .d)):=by
 unfold aH
 rw [aPe]
 exact rW (m:=2 * R+3) (by rw [List.length_cons,List.length_append,cA,cA,hs.m.len,hs.u.len]; omega) hv
theorem bPc (hs:WS R c M U V) {i:Nat} {o:HO} (ho:x[i]? = some o):aH R c M U V x (i+(3 * R+4))=some o:=by
 unfold aH fS
 rw [if_neg (by omega),aFf,Nat.sub_zero,show i+(3 * R+4)=(i+(3 * R+3))+1 by omega,List.getElem?_cons_succ,List.getElem?_append_right (by rw [show (wH R c M U V).length=3 * R+3 from fL hs _ _ _]; omega),
  show (wH R c M U V).length=3 * R+3 from fL hs _ _ _,Nat.add_sub_cancel]; exact ho
theorem eQ (hs:WS R c M U V) (hx:∀ o∈x,rfO 0 0 o=true) {H:Nat→Option HO} {id:Nat} {o:HO} (ho:aH R c M U V x id=some o):lJ H (aH R c M U V x) (fun i=>i) o o:=by
 refine aBh (fun o ho=>?_) ho
 rw [aCd hs]
 rw [aFf,List.mem_cons,List.mem_append] at ho
 rcases ho with ho | ho | ho
 ·exact zY (Nat.zero_le _) (by omega) (aDk hs o (by rw [ho]; exact List.mem_cons_self ..))
 ·exact zY (Nat.zero_le _) (by omega) (aDk hs o (List.mem_cons_of_mem _ ho))
 ·exact zY (Nat.zero_le _) (Nat.zero_le _) (hx o ho)
theorem gC (hs:WS R c M U V) {id:Nat} (h:3 * R+4+x.length≤id):aH R c M U V x id=none:=uY (by rw [aCd hs]; omega)
theorem dG (hs:WS R c M U V) {id:Nat} (h:id<3 * R+4+x.length):(aH R c M U V x id).isSome=true:=jN (Nat.zero_le _) (by rw [aCd hs]; omega)
theorem aPf {Γ:Nat→AV} {n:Nat} (hs:WS R c M U V) (hn:n≠0):∃ ρ,Wk ⟨Γ,aH R c M U V x,n⟩ (StL [] (some (wR0 R c)) (wH R c M U V)) ρ:=by
 have hH:∀ id,(StL [] (some (wR0 R c)) (wH R c M U V)).H id=(wR0 R c::wH R c M U V)[id]? := fun id=>by
  cases id with
  | zero=>rw [aHg]; rfl
  | succ i=>rw [xA,List.getElem?_cons_succ]
 have hl:(wR0 R c::wH R c M U V).length=3 * R+4:=by rw [List.length_cons,show (wH R c M U V).length=3 * R+3 from fL hs _ _ _]
 have hsome:∀ id,id<3 * R+4→((StL [] (some (wR0 R c)) (wH R c M U V)).H id).isSome=true:=fun id h=>by
  rw [hH,List.getElem?_eq_getElem (by rw [hl]; exact h)]; rfl
 refine ⟨fun i=>i,fun id hid=>?_,fun t=>?_,fun id o' ho=>?_,fun _ _ _ _ e=>e,fun _=>rfl,fun h=>?_⟩
 ·rw [hH]
  refine List.getElem?_eq_none ?_
  rw [hl]
  simp only [StL,show (wH R c M U V).length=3 * R+3 from fL hs _ _ _] at hid
  omega
 ·show Sub _ _ _ _ (iC [] t)
  exact lR _
 ·rw [hH] at ho
  have hlt:=(List.getElem?_eq_some_iff.1 ho).1
  refine ⟨o',?_,yL (aDk hs o' (List.mem_of_getElem? ho)) fun id _ h2=>⟨rfl,hsome id h2⟩⟩
  show fS 0 _ id=_
  unfold fS
  rw [if_neg (by omega),aFf,Nat.sub_zero,← List.cons_append,List.getElem?_append_left hlt]; exact ho
 ·simp [StL] at h
theorem qW {x y:Int} {a b:Nat} (h1:(aV x.natAbs).length≤a) (h2:(aV y.natAbs).length≤b):(aV (x * y).natAbs).length≤a+b:=by
 have e1:=fG h1
 have e2:=fG h2
 refine eO ?_
 rw [Int.natAbs_mul,Nat.pow_add]
 exact Nat.mul_lt_mul'' e1 e2
def Sy (z:Int):Prop:=(aV z.natAbs).length≤68719476736
def SyM (M:List (List Int)):Prop:=∀ v∈M,∀ z∈v,Sy z
theorem SyM.ent {M:List (List Int)} (h:SyM M) (r s:Nat):Sy (ent M r s):=by
 unfold Am.ent
 by_cases hr:r<M.length
 ·rw [List.getD_eq_getElem?_getD (l:=M),List.getElem?_eq_getElem hr]
  simp only [Option.getD_some]
  by_cases hs:s<M[r].length
  ·rw [List.getD_eq_getElem?_getD,List.getElem?_eq_getElem hs]
   exact h _ (List.getElem_mem hr) _ (List.getElem_mem hs)
  ·rw [List.getD_eq_getElem?_getD,List.getElem?_eq_none (by omega)]
   show (aV 0).length≤_
   rw [cE]; simp
 ·rw [List.getD_eq_getElem?_getD (l:=M),List.getElem?_eq_none (by omega)]
  show (aV 0).length≤_
  rw [cE]; simp
end Go.Am
end

section
set_option linter.unusedVariables false
set_option linter.unusedSimpArgs false
open Go Go.Am Go.Proofs
namespace Go.Am
/-! Sums -/
def sgm:Nat→(Nat→Int)→Int
 | 0,_=>0
 | n+1,f=>sgm n f+f n
theorem cK {n:Nat} {f g:Nat→Int} (h:∀ j,j<n→f j=g j):sgm n f=sgm n g:=by
 induction n with
 | zero=>rfl
 | succ n ih=>simp only [sgm]; rw [ih fun j hj=>h j (by omega),h n (by omega)]
theorem rK (n:Nat) (f g:Nat→Int):sgm n (fun j=>f j+g j)=sgm n f+sgm n g:=by
 induction n with
 | zero=>rfl
 | succ n ih=>simp only [sgm]; rw [ih]; omega
theorem tW (n:Nat) (k:Int) (f:Nat→Int):sgm n (fun j=>k * f j)=k * sgm n f:=by
 induction n with
 | zero=>simp [sgm]
 | succ n ih=>simp only [sgm]; rw [ih,Int.mul_add]
theorem tV (n:Nat):sgm n (fun _=>0)=0:=by
 induction n with
 | zero=>rfl
 | succ n ih=>simp only [sgm]; rw [ih]; rfl
theorem nB {n k:Nat} (hk:k<n) (f:Nat→Int):sgm n (fun j=>(if j=k then 1 else 0) * f j)=f k:=by
 induction n with
 | zero=>omega
 | succ n ih =>
  simp only [sgm]
  by_cases e:k=n
  ·subst e
   rw [if_pos rfl,cK (g:=fun _=>0) fun j hj=>by rw [if_neg (by omega)]; simp,tV]; simp
  ·rw [ih (by omega),if_neg (fun h=>e h.symm)]; simp
/-! The work's operations -/
structure W3 where
 M:List (List Int)
 U:List (List Int)
 V:List (List Int)
def aPd (M:List (List Int)) (i j:Nat) (k:Int) (s r t:Nat):Int:=if r=i∧t<s then ent M i t+k * ent M j t else ent M r t
def bEc (V:List (List Int)) (i j:Nat) (k:Int) (s r t:Nat):Int:=if t=j∧r<s then ent V r j - k * ent V r i else ent V r t
def oR (R c:Nat) (M:List (List Int)) (i j:Nat) (k:Int):List (List Int):=mk R c (aPd M i j k c)
def aPc (R:Nat) (V:List (List Int)) (i j:Nat) (k:Int):List (List Int):=mk R R (bEc V i j k R)
def swp (i j r:Nat):Nat:=if r=i then j else if r=j then i else r
def swR (R c:Nat) (M:List (List Int)) (i j:Nat):List (List Int):=mk R c fun r t=>ent M (swp i j r) t
def swC (V:List (List Int)) (i j:Nat) (s r t:Nat):Int:=if r<s then ent V r (swp i j t) else ent V r t
def swV (R:Nat) (V:List (List Int)) (i j:Nat):List (List Int):=mk R R (swC V i j R)
def ngF (M:List (List Int)) (i:Nat) (s r t:Nat):Int:=if r=i∧t<s then - ent M i t else ent M r t
def ngC (V:List (List Int)) (i:Nat) (s r t:Nat):Int:=if t=i∧r<s then - ent V r i else ent V r t
def ngR (R c:Nat) (M:List (List Int)) (i:Nat):List (List Int):=mk R c (ngF M i c)
def ngV (R:Nat) (V:List (List Int)) (i:Nat):List (List Int):=mk R R (ngC V i R)
def W3.add (R c:Nat) (w:W3) (i j:Nat) (k:Int):W3:=⟨oR R c w.M i j k,oR R R w.U i j k,aPc R w.V i j k⟩
def W3.sw (R c:Nat) (w:W3) (i j:Nat):W3:=⟨swR R c w.M i j,swR R R w.U i j,swV R w.V i j⟩
def W3.ng (R c:Nat) (w:W3) (i:Nat):W3:=⟨ngR R c w.M i,ngR R R w.U i,ngV R w.V i⟩
def W3.sh (R c:Nat) (w:W3):Prop:=WS R c w.M w.U w.V
theorem W3.add_sh (R c:Nat) (w:W3) (i j:Nat) (k:Int):(w.add R c i j k).sh R c:=⟨iA _ _ _,iA _ _ _,iA _ _ _⟩
theorem W3.sw_sh (R c:Nat) (w:W3) (i j:Nat):(w.sw R c i j).sh R c:=⟨iA _ _ _,iA _ _ _,iA _ _ _⟩
theorem W3.ng_sh (R c:Nat) (w:W3) (i:Nat):(w.ng R c i).sh R c:=⟨iA _ _ _,iA _ _ _,iA _ _ _⟩
theorem wA {R i j r:Nat} (hi:i<R) (hj:j<R) (hr:r<R):swp i j r<R:=by
 unfold swp; split
 ·exact hj
 ·split
  ·exact hi
  ·exact hr
theorem aPv (i j r:Nat):swp i j (swp i j r)=r:=by
 unfold swp
 by_cases h1:r=i
 ·rw [if_pos h1]; by_cases h2:j=i
  ·rw [if_pos h2,h1,h2]
  ·rw [if_neg h2,if_pos rfl,h1]
 ·rw [if_neg h1]
  by_cases h2:r=j
  ·rw [if_pos h2,if_pos rfl,h2]
  ·rw [if_neg h2,if_neg h1,if_neg h2]
theorem fZ {R c i j r t:Nat} {M:List (List Int)} {k:Int} (hr:r<R) (ht:t<c):ent (oR R c M i j k) r t=if r=i then ent M i t+k * ent M j t else ent M r t:=by
 unfold oR; rw [oY _ hr ht]; unfold aPd
 by_cases e:r=i
 ·rw [if_pos ⟨e,ht⟩,if_pos e]
 ·rw [if_neg (fun h=>e h.1),if_neg e]
theorem aLf {R i j r t:Nat} {V:List (List Int)} {k:Int} (hr:r<R) (ht:t<R):ent (aPc R V i j k) r t=if t=j then ent V r j - k * ent V r i else ent V r t:=by
 unfold aPc; rw [oY _ hr ht]; unfold bEc
 by_cases e:t=j
 ·rw [if_pos ⟨e,hr⟩,if_pos e]
 ·rw [if_neg (fun h=>e h.1),if_neg e]
theorem vC {R c i j r t:Nat} {M:List (List Int)} (hr:r<R) (ht:t<c):ent (swR R c M i j) r t=ent M (swp i j r) t:=by unfold swR; rw [oY _ hr ht]
theorem bJi {R i j r t:Nat} {V:List (List Int)} (hr:r<R) (ht:t<R):ent (swV R V i j) r t=ent V r (swp i j t):=by unfold swV; rw [oY _ hr ht]; unfold swC; rw [if_pos hr]
theorem lA {R c i r t:Nat} {M:List (List Int)} (hr:r<R) (ht:t<c):ent (ngR R c M i) r t=if r=i then - ent M i t else ent M r t:=by
 unfold ngR; rw [oY _ hr ht]; unfold ngF
 by_cases e:r=i
 ·rw [if_pos ⟨e,ht⟩,if_pos e]
 ·rw [if_neg (fun h=>e h.1),if_neg e]
theorem bJj {R i r t:Nat} {V:List (List Int)} (hr:r<R) (ht:t<R):ent (ngV R V i) r t=if t=i then - ent V r i else ent V r t:=by
 unfold ngV; rw [oY _ hr ht]; unfold ngC
 by_cases e:t=i
 ·rw [if_pos ⟨e,hr⟩,if_pos e]
 ·rw [if_neg (fun h=>e h.1),if_neg e]
/-! U A = M is kept -/
def tP (R c n:Nat) (U A M:List (List Int)):Prop:=∀ r t,r<R→t<c→sgm n (fun j=>ent U r j * ent A j t)=ent M r t
theorem tP.add {R c:Nat} {U A M:List (List Int)} {i j:Nat} {k:Int} (h:tP R c R U A M) (hi:i<R) (hj:j<R):tP R c R (oR R R U i j k) A (oR R c M i j k):=by
 intro r t hr ht
 rw [fZ hr ht]
 by_cases e:r=i
 ·rw [if_pos e,← h i t hi ht,← h j t hj ht,← tW,← rK]
  exact cK fun q hq=>by rw [fZ hr hq,if_pos e,Int.add_mul,Int.mul_assoc]
 ·rw [if_neg e,← h r t hr ht]
  exact cK fun q hq=>by rw [fZ hr hq,if_neg e]
theorem tP.sw {R c:Nat} {U A M:List (List Int)} {i j:Nat} (h:tP R c R U A M) (hi:i<R) (hj:j<R):tP R c R (swR R R U i j) A (swR R c M i j):=by
 intro r t hr ht
 rw [vC hr ht,← h _ t (wA hi hj hr) ht]
 exact cK fun q hq=>by rw [vC hr hq]
theorem tP.ng {R c:Nat} {U A M:List (List Int)} {i:Nat} (h:tP R c R U A M) (hi:i<R):tP R c R (ngR R R U i) A (ngR R c M i):=by
 intro r t hr ht
 rw [lA hr ht]
 by_cases e:r=i
 ·rw [if_pos e,← h i t hi ht,show - sgm R (fun j=>ent U i j * ent A j t)=(-1) * sgm R (fun j=>ent U i j * ent A j t) by omega,← tW]
  exact cK fun q hq=>by rw [lA hr hq,if_pos e,← Int.mul_assoc]; congr 1; omega
 ·rw [if_neg e,← h r t hr ht]
  exact cK fun q hq=>by rw [lA hr hq,if_neg e]
/-! What Form does -/
def Sd (z:Int):Prop:=(aV z.natAbs).length≤34359738368
def SdM (M:List (List Int)):Prop:=∀ r t,Sd (ent M r t)
structure Ok (R c:Nat) (w:W3):Prop where
 sh:w.sh R c
 m:SdM w.M
 u:SdM w.U
 v:SdM w.V
def euT (R c col top i:Nat) (w:W3):W3:=if ent w.M top col=0 then w else w.add R c top i (-(ent w.M top col / ent w.M i col))
def euS (R c col top i:Nat) (w:W3):W3:=(euT R c col top i w).sw R c top i
inductive Eu (R c col top i:Nat):W3→W3→Prop where
 | done (w:W3) (ok:Ok R c w) (h:ent w.M i col=0):Eu R c col top i w w
 | go (w w':W3) (ok:Ok R c w) (h:ent w.M i col≠0) (h2:Eu R c col top i (euS R c col top i w) w'):Eu R c col top i w w'
inductive Ei (R c col top:Nat):Nat→W3→W3→Prop where
 | done (i:Nat) (w:W3) (ok:Ok R c w) (h:i=R):Ei R c col top i w w
 | go (i:Nat) (w w1 w2:W3) (h:i<R) (h1:Eu R c col top i w w1) (h2:Ei R c col top (i+1) w1 w2):Ei R c col top i w w2
def rdS (R c col top i:Nat) (w:W3):W3:=w.add R c i top (-(ent w.M i col / ent w.M top col))
inductive Rd (R c col top:Nat):Nat→W3→W3→Prop where
 | done (i:Nat) (w:W3) (ok:Ok R c w) (h:i=top):Rd R c col top i w w
 | go (i:Nat) (w w2:W3) (ok:Ok R c w) (h:i<top) (h2:Rd R c col top (i+1) (rdS R c col top i w) w2):Rd R c col top i w w2
def ngS (R c col top:Nat) (w:W3):W3:=if ent w.M top col<0 then w.ng R c top else w
inductive Fo (R c:Nat):Nat→Nat→W3→W3→Prop where
 | done (col top:Nat) (w:W3) (ok:Ok R c w) (h:¬ (col<c∧top<R)):Fo R c col top w w
 | zero (col top:Nat) (w w1 w2:W3) (h1:col<c) (h2:top<R) (h3:Ei R c col top (top+1) w w1) (h4:ent w1.M top col=0) (h5:Fo R c (col+1) top w1 w2):Fo R c col top w w2
 | piv (col top:Nat) (w w1 w2 w3:W3) (h1:col<c) (h2:top<R) (h3:Ei R c col top (top+1) w w1) (h4:ent w1.M top col≠0) (h5:Rd R c col top 0 (ngS R c col top w1) w2) (h6:Fo R c (col+1) (top+1) w2 w3):Fo R c col top w w3
/-! Bounds -/
theorem bLo {z:Int} {E:Nat} (h:z.natAbs≤2 ^ E) (k:Nat) (hE:E<32 * k):(aV z.natAbs).length≤k:=by
 refine eO (Nat.lt_of_le_of_lt h ?_)
 rw [show (4294967296:Nat)=2 ^ 32 from rfl,← Nat.pow_mul]
 exact Nat.pow_lt_pow_right (by omega) hE
def Be (e:Nat) (M:List (List Int)):Prop:=∀ r t,(ent M r t).natAbs≤2 ^ e
theorem Be.mono {e e':Nat} {M:List (List Int)} (h:Be e M) (he:e≤e'):Be e' M:=fun r t=>Nat.le_trans (h r t) (Nat.pow_le_pow_right (by omega) he)
theorem Be.sd {e:Nat} {M:List (List Int)} (h:Be e M) (he:e<1099511627776):SdM M:=fun r t=>bLo (h r t) _ (by omega)
theorem Be.of {R c e:Nat} {M:List (List Int)} (hs:Sh R c M) (h:∀ r t,r<R→t<c→(ent M r t).natAbs≤2 ^ e):Be e M:=fun r t=>by
 by_cases hr:r<R∧t<c
 ·exact h r t hr.1 hr.2
 ·rw [vD hs hr]; exact Nat.zero_le _
structure B3 (e:Nat) (w:W3):Prop where
 m:Be e w.M
 u:Be e w.U
 v:Be e w.V
theorem B3.mono {e e':Nat} {w:W3} (h:B3 e w) (he:e≤e'):B3 e' w:=⟨h.m.mono he,h.u.mono he,h.v.mono he⟩
theorem B3.ok {R c e:Nat} {w:W3} (h:B3 e w) (hs:w.sh R c) (he:e<1099511627776):Ok R c w:=⟨hs,h.m.sd he,h.u.sd he,h.v.sd he⟩
def phi (a b x y:Int):Nat:=(if y<0 then 3 else 1) * (a.natAbs * y.natAbs+b.natAbs * x.natAbs+(if x<0 then 2 * (b.natAbs * y.natAbs) else 0))
theorem bJn (x y:Int) (hy:y≠0):(x / y).natAbs * y.natAbs+(x % y).natAbs≤x.natAbs+(if x<0 then 2 * (x % y).natAbs else 0):=by
 have h1:=Int.mul_ediv_add_emod x y
 have h2:=Int.emod_nonneg x hy
 have h3:=Int.emod_lt x hy
 have h4:0≤x→x % y≤x:=fun hx=>by
  obtain ⟨n,rfl⟩:∃ n:Nat,x=n:=⟨x.toNat,by omega⟩
  show ((n % y.natAbs:Nat):Int)≤n
  have:=Nat.mod_le n y.natAbs; omega
 have h5:(x / y).natAbs * y.natAbs=(x - x % y).natAbs:=by rw [← Int.natAbs_mul,Int.mul_comm]; congr 1; omega
 rw [h5]
 split <;> omega
theorem aAd {a b x y a':Int} (hy:y≠0) (ha:a'.natAbs≤a.natAbs+(x / y).natAbs * b.natAbs):phi b a' y (x % y)≤phi a b x y:=by
 have h1:=bJn x y hy
 have h2:=Int.emod_nonneg x hy
 have h3:(x % y).natAbs≤y.natAbs:=by have:=Int.emod_lt x hy; omega
 generalize x % y=r at *
 have hr:¬ r<0:=by omega
 unfold phi
 rw [if_neg hr]
 generalize (x / y).natAbs=q at *
 generalize a'.natAbs=A' at *
 generalize a.natAbs=A at *
 generalize b.natAbs=B at *
 generalize hr2:r.natAbs=r' at *
 generalize hy2:y.natAbs=y' at *
 generalize hx2:x.natAbs=x' at *
 -- T = A y' + B x' + ..
 have k1:A' * y'≤A * y'+B * (q * y'):=by
  have:=Nat.mul_le_mul_right y' ha
  rw [Nat.add_mul] at this
  rw [show B * (q * y')=q * B * y' by rw [← Nat.mul_assoc,Nat.mul_comm B q]]
  exact this
 have k2:B * (q * y')+B * r'≤B * x'+(if x<0 then 2 * (B * y') else 0):=by
  rw [← Nat.mul_add]
  refine Nat.le_trans (Nat.mul_le_mul_left B h1) ?_
  rw [Nat.mul_add]
  split
  ·rw [show B * (2 * r')=2 * (B * r') by rw [Nat.mul_left_comm]]
   have:=Nat.mul_le_mul_left B h3
   omega
  ·simp
 have k3:A' * r'≤A' * y':=Nat.mul_le_mul_left A' h3
 generalize A' * r'=z1 at *
 generalize A' * y'=z2 at *
 generalize A * y'=z3 at *
 generalize B * (q * y')=z4 at *
 generalize B * r'=z5 at *
 generalize B * x'=z6 at *
 generalize B * y'=z7 at *
 split <;> split at k2 <;> simp_all <;> omega
theorem aAe {a b x y:Int} {e:Nat} (ha:a.natAbs≤2 ^ e) (hb:b.natAbs≤2 ^ e) (hx:x.natAbs≤2 ^ e) (hy:y.natAbs≤2 ^ e):phi a b x y≤2 ^ (2 * e+4):=by
 have h1:=Nat.mul_le_mul ha hy
 have h2:=Nat.mul_le_mul hb hx
 have h3:=Nat.mul_le_mul hb hy
 rw [show 2 ^ (2 * e+4)=16 * (2 ^ e * 2 ^ e) by rw [Nat.pow_add,show 2 * e=e+e by omega,Nat.pow_add,Nat.mul_comm]]
 unfold phi
 split <;> split <;> omega
theorem aYs {a b x y:Int} (hx:x≠0):b.natAbs≤phi a b x y:=by
 have:b.natAbs * 1≤b.natAbs * x.natAbs:=Nat.mul_le_mul_left _ (by omega)
 unfold phi
 split <;> omega
/-! The first loop inside -/
structure Gd (R c:Nat) (A:List (List Int)) (e col top:Nat) (w:W3):Prop where
 sh:w.sh R c
 b:B3 e w
 eq:tP R c R w.U A w.M
 low:∀ r t,top≤r→r<R→t<col→ent w.M r t=0
 hi:∀ r,r<top→∃ t,t<col∧ent w.M r t≠0
section
variable {R c col top i:Nat} {A:List (List Int)} {w:W3}
theorem bRi {r t:Nat} (hr:r<R) (ht:t<c):ent (euT R c col top i w).M r t=if r=top then ent w.M top t - (ent w.M top col / ent w.M i col) * ent w.M i t else ent w.M r t:=by
 unfold euT
 split
 ·rename_i h; rw [h,Int.zero_ediv]; split
  ·rename_i e; rw [e]; simp
  ·rfl
 ·show ent (oR R c w.M top i _) r t=_
  rw [fZ hr ht]; split
  ·rw [Int.neg_mul]; rfl
  ·rfl
theorem bRh {r t:Nat} (hr:r<R) (ht:t<R):ent (euT R c col top i w).U r t=if r=top then ent w.U top t - (ent w.M top col / ent w.M i col) * ent w.U i t else ent w.U r t:=by
 unfold euT
 split
 ·rename_i h; rw [h,Int.zero_ediv]; split
  ·rename_i e; rw [e]; simp
  ·rfl
 ·show ent (oR R R w.U top i _) r t=_
  rw [fZ hr ht]; split
  ·rw [Int.neg_mul]; rfl
  ·rfl
theorem bRg {r t:Nat} (hr:r<R) (ht:t<R):ent (euT R c col top i w).V r t=if t=i then ent w.V r i+(ent w.M top col / ent w.M i col) * ent w.V r top else ent w.V r t:=by
 unfold euT
 split
 ·rename_i h; rw [h,Int.zero_ediv]; split
  ·rename_i e; rw [e]; simp
  ·rfl
 ·show ent (aPc R w.V top i _) r t=_
  rw [aLf hr ht]; split
  ·rw [Int.neg_mul]; omega
  ·rfl
theorem bOe (h:tP R c R w.U A w.M) (ht:top<R) (hi:i<R):tP R c R (euT R c col top i w).U A (euT R c col top i w).M:=by
 unfold euT; split
 ·exact h
 ·exact h.add ht hi
theorem bOg (h:tP R c R w.U A w.M) (ht:top<R) (hi:i<R):tP R c R (euS R c col top i w).U A (euS R c col top i w).M:=(bOe h ht hi).sw ht hi
theorem aLe (hti:top≠i) (htR:top<R) (hi:i<R) {r t:Nat} (hr:r<R) (ht:t<c):ent (euS R c col top i w).M r t=if r=top then ent w.M i t else if r=i then ent w.M top t - (ent w.M top col / ent w.M i col) * ent w.M i t else ent w.M r t:=by
 show ent (swR R c _ top i) r t=_
 rw [vC hr ht,bRi (wA htR hi hr) ht]
 unfold swp
 by_cases e1:r=top
 ·rw [if_pos e1,if_pos e1,if_neg (fun h=>hti h.symm)]
 ·rw [if_neg e1,if_neg e1]
  by_cases e2:r=i
  ·rw [if_pos e2,if_pos e2,if_pos rfl]
  ·rw [if_neg e2,if_neg e2,if_neg e1]
theorem bRk (hti:top≠i) (htR:top<R) (hi:i<R) {r t:Nat} (hr:r<R) (ht:t<R):ent (euS R c col top i w).U r t=if r=top then ent w.U i t else if r=i then ent w.U top t - (ent w.M top col / ent w.M i col) * ent w.U i t else ent w.U r t:=by
 show ent (swR R R _ top i) r t=_
 rw [vC hr ht,bRh (wA htR hi hr) ht]
 unfold swp
 by_cases e1:r=top
 ·rw [if_pos e1,if_pos e1,if_neg (fun h=>hti h.symm)]
 ·rw [if_neg e1,if_neg e1]
  by_cases e2:r=i
  ·rw [if_pos e2,if_pos e2,if_pos rfl]
  ·rw [if_neg e2,if_neg e2,if_neg e1]
theorem bRj (hti:top≠i) (htR:top<R) (hi:i<R) {r t:Nat} (hr:r<R) (ht:t<R):ent (euS R c col top i w).V r t=if t=top then ent w.V r i+(ent w.M top col / ent w.M i col) * ent w.V r top else if t=i then ent w.V r top else ent w.V r t:=by
 show ent (swV R _ top i) r t=_
 rw [bJi hr ht,bRg hr (wA htR hi ht)]
 unfold swp
 by_cases e1:t=top
 ·rw [if_pos e1,if_pos e1,if_pos rfl]
 ·rw [if_neg e1,if_neg e1]
  by_cases e2:t=i
  ·rw [if_pos e2,if_pos e2,if_neg hti]
  ·rw [if_neg e2,if_neg e2,if_neg e2]
end
section
variable {R c col top i e:Nat} {A:List (List Int)} {w:W3}
structure Ew (R c:Nat) (A:List (List Int)) (e col top i:Nat) (w:W3):Prop where
 g:Gd R c A (2 * e+4) col top w
 z:∀ r,top<r→r<i→ent w.M r col=0
 pm:∀ t,t<c→phi (ent w.M top t) (ent w.M i t) (ent w.M top col) (ent w.M i col)≤2 ^ (2 * e+4)
 pu:∀ t,t<R→phi (ent w.U top t) (ent w.U i t) (ent w.M top col) (ent w.M i col)≤2 ^ (2 * e+4)
 pv:∀ r,r<R→phi (ent w.V r i) (ent w.V r top) (ent w.M top col) (ent w.M i col)≤2 ^ (2 * e+4)
theorem Ew.init (g:Gd R c A e col top w) (z:∀ r,top<r→r<i→ent w.M r col=0):Ew R c A e col top i w :=
 ⟨⟨g.sh,g.b.mono (by omega),g.eq,g.low,g.hi⟩,z,fun t _=>aAe (g.b.m _ _) (g.b.m _ _) (g.b.m _ _) (g.b.m _ _),fun t _=>aAe (g.b.u _ _) (g.b.u _ _) (g.b.m _ _) (g.b.m _ _),fun t _=>aAe (g.b.v _ _) (g.b.v _ _) (g.b.m _ _) (g.b.m _ _)⟩
theorem Ew.step (h:Ew R c A e col top i w) (hcol:col<c) (hti:top<i) (hiR:i<R) (hy:ent w.M i col≠0):Ew R c A e col top i (euS R c col top i w):=by
 have htR:top<R:=by omega
 have hne:top≠i:=by omega
 have hne':¬ i=top:=by omega
 have eM:=fun r t hr ht=>aLe (w:=w) (c:=c) (col:=col) hne htR hiR (r:=r) (t:=t) hr ht
 have eU:=fun r t hr ht=>bRk (w:=w) (c:=c) (col:=col) hne htR hiR (r:=r) (t:=t) hr ht
 have eV:=fun r t hr ht=>bRj (w:=w) (c:=c) (col:=col) hne htR hiR (r:=r) (t:=t) hr ht
 have hsh:(euS R c col top i w).sh R c:=W3.sw_sh ..
 have hx1:ent (euS R c col top i w).M top col=ent w.M i col:=by rw [eM _ _ htR hcol,if_pos rfl]
 have hy1:ent (euS R c col top i w).M i col=ent w.M top col % ent w.M i col:=by
  rw [eM _ _ hiR hcol,if_neg hne',if_pos rfl]
  have:=Int.mul_ediv_add_emod (ent w.M top col) (ent w.M i col)
  rw [Int.mul_comm (ent w.M top col / _)]; omega
 have pm:∀ t,t<c→phi (ent (euS R c col top i w).M top t) (ent (euS R c col top i w).M i t) (ent w.M i col) (ent w.M top col % ent w.M i col)≤2 ^ (2 * e+4):=fun t ht=>by
  rw [eM _ _ htR ht,if_pos rfl,eM _ _ hiR ht,if_neg hne',if_pos rfl]
  refine Nat.le_trans (aAd hy ?_) (h.pm t ht)
  rw [← Int.natAbs_mul]; omega
 have pu:∀ t,t<R→phi (ent (euS R c col top i w).U top t) (ent (euS R c col top i w).U i t) (ent w.M i col) (ent w.M top col % ent w.M i col)≤2 ^ (2 * e+4):=fun t ht=>by
  rw [eU _ _ htR ht,if_pos rfl,eU _ _ hiR ht,if_neg hne',if_pos rfl]
  refine Nat.le_trans (aAd hy ?_) (h.pu t ht)
  rw [← Int.natAbs_mul]; omega
 have pv:∀ r,r<R→phi (ent (euS R c col top i w).V r i) (ent (euS R c col top i w).V r top) (ent w.M i col) (ent w.M top col % ent w.M i col)≤2 ^ (2 * e+4):=fun r hr=>by
  rw [eV _ _ hr htR,if_pos rfl,eV _ _ hr hiR,if_neg hne',if_pos rfl]
  refine Nat.le_trans (aAd hy ?_) (h.pv r hr)
  rw [← Int.natAbs_mul]; omega
 refine ⟨⟨hsh,⟨.of hsh.m fun r t hr ht=>?_,.of hsh.u fun r t hr ht=>?_,.of hsh.v fun r t hr ht=>?_⟩,bOg h.g.eq htR hiR,fun r t h1 h2 h3=>?_,fun r hr=>?_⟩,fun r h1 h2=>?_,fun t ht=>by rw [hx1,hy1]; exact pm t ht,fun t ht=>by rw [hx1,hy1]; exact pu t ht,fun t ht=>by rw [hx1,hy1]; exact pv t ht⟩
 ·by_cases e2:r=i
  ·rw [e2]; exact Nat.le_trans (aYs hy) (pm t ht)
  ·rw [eM _ _ hr ht]
   split
   ·exact h.g.b.m _ _
   ·exact h.g.b.m _ _
 ·by_cases e2:r=i
  ·rw [e2]; exact Nat.le_trans (aYs hy) (pu t ht)
  ·rw [eU _ _ hr ht]
   split
   ·exact h.g.b.u _ _
   ·exact h.g.b.u _ _
 ·by_cases e2:t=top
  ·rw [e2]; exact Nat.le_trans (aYs hy) (pv r hr)
  ·rw [eV _ _ hr ht,if_neg e2]
   split
   ·exact h.g.b.v _ _
   ·exact h.g.b.v _ _
 ·have hl:∀ r,top≤r→r<R→ent w.M r t=0:=fun r h1 h2=>h.g.low r t h1 h2 h3
  rw [eM _ _ h2 (by omega),hl i (by omega) hiR,hl top (by omega) htR,hl r h1 h2]
  split
  ·rfl
  ·split
   ·simp
   ·rfl
 ·obtain ⟨t,ht,h0⟩:=h.g.hi r hr
  exact ⟨t,ht,by rw [eM _ _ (by omega) (by omega),if_neg (by omega),if_neg (by omega)]; exact h0⟩
 ·rw [eM _ _ (by omega) hcol,if_neg (by omega),if_neg (by omega)]
  exact h.z r h1 h2
theorem bLh (hcol:col<c) (hti:top<i) (hiR:i<R) (he:2 * e+4<1099511627776):∀ (n:Nat) (w:W3),(ent w.M i col).natAbs≤n→Ew R c A e col top i w→∃ w',Eu R c col top i w w'∧Ew R c A e col top i w'∧ent w'.M i col=0
 | n,w,hn,h=>by
  have ok:Ok R c w:=h.g.b.ok h.g.sh he
  by_cases hy:ent w.M i col=0
  ·exact ⟨w,.done w ok hy,h,hy⟩
  ·have h1:=h.step hcol hti hiR hy
   have hy1:ent (euS R c col top i w).M i col=ent w.M top col % ent w.M i col:=by
    rw [aLe (by omega) (by omega) hiR hiR hcol,if_neg (by omega),if_pos rfl]
    have:=Int.mul_ediv_add_emod (ent w.M top col) (ent w.M i col)
    rw [Int.mul_comm (ent w.M top col / _)]; omega
   have hlt:=Int.emod_lt (ent w.M top col) hy
   have hnn:=Int.emod_nonneg (ent w.M top col) hy
   cases n with
   | zero=>omega
   | succ n =>
    obtain ⟨w',e1,e2,e3⟩:=bLh hcol hti hiR he n _ (by rw [hy1]; omega) h1
    exact ⟨w',.go w w' ok hy e1,e2,e3⟩
theorem bOd (hcol:col<c) (hti:top<i) (hiR:i<R) {w w':W3} (h:Eu R c col top i w w'):(w'=w∨ent w'.M top col≠0)∧(ent w.M top col≠0→ent w'.M top col≠0):=by
 induction h with
 | done w ok h=>exact ⟨.inl rfl,fun h=>h⟩
 | go w w' ok hy h2 ih =>
  have hx1:ent (euS R c col top i w).M top col≠0:=by rw [aLe (by omega) (by omega) hiR (by omega) hcol,if_pos rfl]; exact hy
  exact ⟨.inr (ih.2 hx1),fun _=>ih.2 hx1⟩
def dbl:Nat→Nat→Nat
 | 0,e=>e
 | n+1,e=>dbl n (2 * e+4)
theorem pF:∀ n e,dbl n e+4=2 ^ n * (e+4)
 | 0,e=>by simp [dbl]
 | n+1,e=>by rw [dbl,pF n,Nat.pow_succ,Nat.mul_assoc]; congr 1
theorem wW (n e:Nat):e≤dbl n e:=by
 have:=pF n e
 have h2:1 * (e+4)≤2 ^ n * (e+4):=Nat.mul_le_mul_right _ (Nat.one_le_two_pow)
 omega
theorem aLi {n m e:Nat} (h:n≤m):dbl n e≤dbl m e:=by
 have h1:=pF n e
 have h2:=pF m e
 have:2 ^ n * (e+4)≤2 ^ m * (e+4):=Nat.mul_le_mul_right _ (Nat.pow_le_pow_right (by omega) h)
 omega
theorem sA (n m e:Nat):dbl n (dbl m e)=dbl (m+n) e:=by
 have h1:=pF n (dbl m e)
 have h2:=pF m e
 have h3:=pF (m+n) e
 rw [h2,← Nat.mul_assoc,← Nat.pow_add,Nat.add_comm n m] at h1
 omega
theorem bLj (hcol:col<c) (hR:top<R):∀ (n i e:Nat) (w:W3),n+i=R→top<i→Gd R c A e col top w→(∀ r,top<r→r<i→ent w.M r col=0)→dbl n e<1099511627776 →
  ∃ w',Ei R c col top i w w'∧Gd R c A (dbl n e) col top w'∧(∀ r,top<r→r<R→ent w'.M r col=0)∧(w'=w∨ent w'.M top col≠0)∧(ent w.M top col≠0→ent w'.M top col≠0)
 | 0,i,e,w,hi,hti,g,z,hb=>⟨w,.done i w (g.b.ok g.sh hb) (by omega),g,fun r h1 h2=>z r h1 (by omega),.inl rfl,fun h=>h⟩
 | n+1,i,e,w,hi,hti,g,z,hb=>by
  have h1:2 * e+4<1099511627776:=Nat.lt_of_le_of_lt (wW n (2 * e+4)) hb
  obtain ⟨w1,e1,e2,e3⟩:=bLh (A:=A) (e:=e) hcol hti (by omega:i<R) h1 _ w (Nat.le_refl _) (.init g z)
  have ht:=bOd hcol hti (by omega) e1
  obtain ⟨w2,f1,f2,f3,f4,f5⟩:=bLj hcol hR n (i+1) (2 * e+4) w1 (by omega) (by omega) e2.g (fun r h1 h2=>if h:r=i then h ▸ e3 else e2.z r h1 (by omega)) hb
  refine ⟨w2,.go i w w1 w2 (by omega) e1 f1,f2,f3,?_,fun h=>f5 (ht.2 h)⟩
  rcases ht.1 with h | h
  ·subst h; exact f4
  ·exact .inr (f5 h)
end
section
variable {R c col top i e:Nat} {A:List (List Int)} {w:W3}
theorem bNi (g:Gd R c A e col top w) (hcol:col<c) (hR:top<R):Gd R c A e col top (ngS R c col top w):=by
 unfold ngS
 split
 ·refine ⟨W3.ng_sh ..,⟨.of (iA _ _ _) fun r t hr ht=>?_,.of (iA _ _ _) fun r t hr ht=>?_,.of (iA _ _ _) fun r t hr ht=>?_⟩,g.eq.ng hR,fun r t h1 h2 h3=>?_,fun r hr=>?_⟩
  ·show (ent (ngR R c w.M top) r t).natAbs≤_
   rw [lA hr ht]; split
   ·rw [Int.natAbs_neg]; exact g.b.m _ _
   ·exact g.b.m _ _
  ·show (ent (ngR R R w.U top) r t).natAbs≤_
   rw [lA hr ht]; split
   ·rw [Int.natAbs_neg]; exact g.b.u _ _
   ·exact g.b.u _ _
  ·show (ent (ngV R w.V top) r t).natAbs≤_
   rw [bJj hr ht]; split
   ·rw [Int.natAbs_neg]; exact g.b.v _ _
   ·exact g.b.v _ _
  ·show ent (ngR R c w.M top) r t=0
   rw [lA h2 (by omega),g.low top t (Nat.le_refl _) hR h3,g.low r t h1 h2 h3]; split <;> rfl
  ·obtain ⟨t,h1,h2⟩:=g.hi r hr
   refine ⟨t,h1,?_⟩
   show ent (ngR R c w.M top) r t≠0
   rw [lA (by omega) (by omega),if_neg (by omega)]; exact h2
 ·exact g
theorem aGk (hcol:col<c) (hR:top<R) {r:Nat} (hr:r<R):(ent (ngS R c col top w).M r col=0↔ent w.M r col=0):=by
 unfold ngS
 split
 ·show ent (ngR R c w.M top) r col=0↔_
  rw [lA hr hcol]; split
  ·rename_i e; rw [e]; omega
  ·exact Iff.rfl
 ·exact Iff.rfl
structure Rv (R c:Nat) (A:List (List Int)) (e col top i:Nat) (w:W3):Prop where
 g:Gd R c A (2 * e+4) col top w
 m:∀ r t,i≤r→(ent w.M r t).natAbs≤2 ^ e
 u:∀ r t,i≤r→(ent w.U r t).natAbs≤2 ^ e
 v:∀ r t,t≠top→(ent w.V r t).natAbs≤2 ^ e
 vt:∀ r,(ent w.V r top).natAbs≤(i+1) * 2 ^ (2 * e)
theorem aWv (e:Nat):2 ^ (2 * e+4)=16 * 2 ^ (2 * e)∧2 ^ e * 2 ^ e=2 ^ (2 * e)∧2 ^ e≤2 ^ (2 * e) :=
 ⟨by rw [Nat.pow_add,Nat.mul_comm],by rw [← Nat.pow_add]; congr 1; omega,Nat.pow_le_pow_right (by omega) (by omega)⟩
theorem Rv.init (g:Gd R c A e col top w):Rv R c A e col top 0 w :=
 ⟨⟨g.sh,g.b.mono (by omega),g.eq,g.low,g.hi⟩,fun r t _=>g.b.m r t,fun r t _=>g.b.u r t,fun r t _=>g.b.v r t,fun r=>by rw [Nat.zero_add,Nat.one_mul]; exact Nat.le_trans (g.b.v r top) (aWv e).2.2⟩
theorem Rv.step (h:Rv R c A e col top i w) (hcol:col<c) (hR:top<R) (hR2:R≤15) (hi:i<top):Rv R c A e col top (i+1) (rdS R c col top i w):=by
 obtain ⟨p1,p2,p3⟩:=aWv e
 obtain ⟨k,hk⟩:∃ k:Int,-(ent w.M i col / ent w.M top col)=k:=⟨_,rfl⟩
 have hkb:k.natAbs≤2 ^ e:=by
  rw [← hk,Int.natAbs_neg]
  exact Nat.le_trans (Int.natAbs_ediv_le_natAbs _ _) (h.m i col (Nat.le_refl _))
 have hmul:∀ {z:Int},z.natAbs≤2 ^ e→(k * z).natAbs≤2 ^ (2 * e):=fun hz=>by rw [Int.natAbs_mul,← p2]; exact Nat.mul_le_mul hkb hz
 have hS:rdS R c col top i w=w.add R c i top k:=by unfold rdS; rw [hk]
 have hsh:(w.add R c i top k).sh R c:=W3.add_sh ..
 have eM:∀ {r t},r<R→t<c→ent (w.add R c i top k).M r t=_:=fun hr ht=>fZ (M:=w.M) (i:=i) (j:=top) (k:=k) hr ht
 have eU:∀ {r t},r<R→t<R→ent (w.add R c i top k).U r t=_:=fun hr ht=>fZ (M:=w.U) (i:=i) (j:=top) (k:=k) hr ht
 have eV:∀ {r t},r<R→t<R→ent (w.add R c i top k).V r t=_:=fun hr ht=>aLf (V:=w.V) (i:=i) (j:=top) (k:=k) hr ht
 have outM:∀ {r t},¬ (r<R∧t<c)→ent (w.add R c i top k).M r t=0:=fun h=>vD hsh.m h
 have outU:∀ {r t},¬ (r<R∧t<R)→ent (w.add R c i top k).U r t=0:=fun h=>vD hsh.u h
 have outV:∀ {r t},¬ (r<R∧t<R)→ent (w.add R c i top k).V r t=0:=fun h=>vD hsh.v h
 have hvt:∀ r,(ent (w.add R c i top k).V r top).natAbs≤(i+1+1) * 2 ^ (2 * e):=fun r=>by
  by_cases hr:r<R
  ·rw [eV hr hR,if_pos rfl]
   have h1:=h.vt r
   have h2:=hmul (h.v r i (by omega))
   rw [Nat.add_mul (i+1),Nat.one_mul]
   omega
  ·rw [outV (fun h=>hr h.1)]; exact Nat.zero_le _
 rw [hS]
 refine ⟨⟨hsh,⟨.of hsh.m fun r t hr ht=>?_,.of hsh.u fun r t hr ht=>?_,.of hsh.v fun r t hr ht=>?_⟩,h.g.eq.add (by omega) hR,fun r t h1 h2 h3=>?_,fun r hr=>?_⟩,fun r t hr=>?_,fun r t hr=>?_,fun r t ht=>?_,hvt⟩
 ·rw [eM hr ht]; split
  ·have h1:=h.m i t (Nat.le_refl _)
   have h2:=hmul (h.m top t (by omega))
   rw [p1]; omega
  ·exact h.g.b.m _ _
 ·rw [eU hr ht]; split
  ·have h1:=h.u i t (Nat.le_refl _)
   have h2:=hmul (h.u top t (by omega))
   rw [p1]; omega
  ·exact h.g.b.u _ _
 ·by_cases e2:t=top
  ·rw [e2]
   refine Nat.le_trans (hvt r) ?_
   rw [p1]
   exact Nat.mul_le_mul_right _ (by omega)
  ·rw [eV hr ht,if_neg e2]
   exact h.g.b.v _ _
 ·rw [eM h2 (by omega),if_neg (by omega)]; exact h.g.low r t h1 h2 h3
 ·obtain ⟨t,h1,h2⟩:=h.g.hi r hr
  refine ⟨t,h1,?_⟩
  rw [eM (by omega) (by omega)]
  split
  ·rename_i e2
   rw [h.g.low top t (Nat.le_refl _) hR h1,← e2]; simpa using h2
  ·exact h2
 ·by_cases hb:r<R∧t<c
  ·rw [eM hb.1 hb.2,if_neg (by omega)]; exact h.m r t (by omega)
  ·rw [outM hb]; exact Nat.zero_le _
 ·by_cases hb:r<R∧t<R
  ·rw [eU hb.1 hb.2,if_neg (by omega)]; exact h.u r t (by omega)
  ·rw [outU hb]; exact Nat.zero_le _
 ·by_cases hb:r<R∧t<R
  ·rw [eV hb.1 hb.2,if_neg ht]; exact h.v r t ht
  ·rw [outV hb]; exact Nat.zero_le _
theorem bKw (hcol:col<c) (hR:top<R) (hR2:R≤15) (he:2 * e+4<1099511627776):∀ (n i:Nat) (w:W3),n+i=top→Rv R c A e col top i w→(∀ r,top<r→r<R→ent w.M r col=0)→ent w.M top col≠0→∃ w',Rd R c col top i w w'∧Gd R c A (2 * e+4) (col+1) (top+1) w'
 | 0,i,w,hi,h,z,hp=>by
  refine ⟨w,.done i w (h.g.b.ok h.g.sh he) (by omega),h.g.sh,h.g.b,h.g.eq,fun r t h1 h2 h3=>?_,fun r hr=>?_⟩
  ·by_cases e2:t=col
   ·rw [e2]; exact z r (by omega) h2
   ·exact h.g.low r t (by omega) h2 (by omega)
  ·by_cases e2:r=top
   ·rw [e2]; exact ⟨col,by omega,hp⟩
   ·obtain ⟨t,h1,h2⟩:=h.g.hi r (by omega)
    exact ⟨t,by omega,h2⟩
 | n+1,i,w,hi,h,z,hp=>by
  have hs:=h.step hcol hR hR2 (by omega)
  have eM:∀ {r t},i<r→r<R→t<c→ent (rdS R c col top i w).M r t=ent w.M r t:=fun h1 hr ht=>by
   show ent (oR R c w.M i top _) _ _=_
   rw [fZ hr ht,if_neg (by omega)]
  obtain ⟨w',h1,h2⟩:=bKw hcol hR hR2 he n (i+1) _ (by omega) hs (fun r h1 h2=>by rw [eM (by omega) h2 hcol]; exact z r h1 h2) (by rw [eM (by omega) hR hcol]; exact hp)
  exact ⟨w',.go i w w' (h.g.b.ok h.g.sh he) (by omega) h1,h2⟩
def tr:Nat→Nat
 | 0=>0
 | n+1=>tr n+(n+1)
theorem bBu (hR2:R≤15):∀ (n col top e:Nat) (w:W3),n+col=c→top≤R→Gd R c A e col top w→dbl (tr (R - top)) e<1099511627776→∃ w' k e',Fo R c col top w w'∧k≤R∧Gd R c A e' c k w'∧(∀ r t,k≤r→r<R→t<c→ent w'.M r t=0)∧dbl (tr (R - k)) e'≤dbl (tr (R - top)) e
 | 0,col,top,e,w,hc,ht,g,hb=>by
  have:col=c:=by omega
  subst this
  exact ⟨w,top,e,.done col top w (g.b.ok g.sh (Nat.lt_of_le_of_lt (wW _ _) hb)) (by omega),ht,g,fun r t h1 h2 h3=>g.low r t h1 h2 h3,Nat.le_refl _⟩
 | n+1,col,top,e,w,hc,ht,g,hb=>by
  have hcol:col<c:=by omega
  by_cases hR:top<R
  ·have e1:tr (R - top)=(R - top - 1)+1+tr (R - (top+1)):=by
    rw [show R - top=(R - (top+1))+1 by omega,tr]; omega
   rw [e1,← sA,← sA,show ∀ x,dbl 1 x=2 * x+4 from fun x=>rfl] at hb ⊢
   have hb1:=Nat.lt_of_le_of_lt (wW _ _) hb
   obtain ⟨w1,h3,g1,z1,q1,_⟩:=bLj hcol hR (R - top - 1) (top+1) e w (by omega) (by omega) g (fun r h1 h2=>by omega) (by omega)
   by_cases h4:ent w1.M top col=0
   ·have:w1=w:=q1.resolve_right fun h=>h h4
    subst this
    have g2:Gd R c A e (col+1) top w1:=⟨g.sh,g.b,g.eq,fun r t h1 h2 h3=>by
     by_cases e2:t=col
     ·rw [e2]
      by_cases e3:r=top
      ·rw [e3]; exact h4
      ·exact z1 r (by omega) h2
     ·exact g.low r t h1 h2 (by omega),fun r hr=>let ⟨t,h1,h2⟩:=g.hi r hr; ⟨t,by omega,h2⟩⟩
    obtain ⟨w',k,e',f1,f2,f3,f4,f5⟩:=bBu hR2 n (col+1) top e w1 (by omega) ht g2 (by rw [e1,← sA,← sA]; exact hb)
    exact ⟨w',k,e',.zero col top w1 w1 w' hcol hR h3 h4 f1,f2,f3,f4,by rw [e1,← sA,← sA] at f5; exact f5⟩
   ·have g2:=bNi g1 hcol hR
    obtain ⟨w2,h5,g3⟩:=bKw hcol hR hR2 hb1 top 0 _ (by omega) (.init g2) (fun r h1 h2=>(aGk hcol hR h2).2 (z1 r h1 h2)) (fun h=>h4 ((aGk hcol hR hR).1 h))
    obtain ⟨w',k,e',f1,f2,f3,f4,f5⟩:=bBu hR2 n (col+1) (top+1) _ w2 (by omega) (by omega) g3 hb
    exact ⟨w',k,e',.piv col top w w1 w2 w' hcol hR h3 h4 h5 f1,f2,f3,f4,f5⟩
  ·have:top=R:=by omega
   subst this
   exact ⟨w,top,e,.done col top w (g.b.ok g.sh (Nat.lt_of_le_of_lt (wW _ _) hb)) (by omega),ht,⟨g.sh,g.b,g.eq,fun r t h1 h2 h3=>absurd h2 (by omega),fun r hr=>let ⟨t,h1,h2⟩:=g.hi r hr; ⟨t,by omega,h2⟩⟩,fun r t h1 h2 h3=>absurd h2 (by omega),Nat.le_refl _⟩
end
end Go.Am
end

section
set_option linter.unusedVariables false
set_option linter.unusedSimpArgs false
open List (map_map mapM_map)
open Go Go.Am Go.Proofs
namespace Go.Am
def kO (k:Int):List HO:=[.cells 69 [.d (.b (decide (k<0))),.d (aG (aV k.natAbs))]]
theorem uS (k:Int):∀ o∈kO k,rfO 0 0 o=true:=fun o ho=>by rw [List.mem_singleton.1 ho]; rfl
set_option maxHeartbeats 16000000 in
set_option maxRecDepth 10000 in
theorem aAa {R c i j:Nat} {M U V:List (List Int)} {k:Int} (hs:WS R c M U V) (hR:R≤1000) (hc:c≤1000) (hi:i<R) (hj:j<R) (hk:Sy k) (hM:∀ r t,Sy (ent M r t)) (hU:∀ r t,Sy (ent U r t)) (hV:∀ r t,Sy (ent V r t)) :
  vQ Tryz.prog 172 (.ptr 0 0) (wR0 R c) (wH R c M U V) [.i .i64 (i:Int),.i .i64 (j:Int),encZ k] (wR0 R c) (wH R c (oR R c M i j k) (oR R R U i j k) (aPc R V i j k)) (.tp []):=by
 refine vX (N:=143) aF Tryz.func172 rfl rfl rfl rfl (by kernel_rfl) (by kernel_rfl) (by simp) ?_
 have hl:(wH R c M U V).length=3 * R+3:=fL hs _ _ _
 have hH0:∀ p:HO,upd (fun id=>(wR0 R c::wH R c M U V)[id]?) (3 * R+3+1) (some p)=aH R c M U V [p]:=fun p=>by
  have e:(fun id=>(wR0 R c::wH R c M U V)[id]?)=fS 0 (wR0 R c::wH R c M U V):=by funext id; rfl
  rw [e,oH (by rw [List.length_cons,hl])]
  unfold aH
  rw [aFf]; rfl
 simp [-map_map,-mapM_map,↓KW,StT,bI,aD,aJ,aP,bH,aX,hl,hH0]
 have hko:[HO.cells 69 [.d (.b (decide (k<0))),.d (aG (aV k.natAbs))]]=kO k:=rfl
 rw [hko,show 3 * R+3+1=3 * R+4 by omega]
 refine aU (fun y:Nat × List (List Int)=>y.1≤c∧Sh R c y.2∧∀ r t,r<R→t<c→ent y.2 r t=aPd M i j k y.1 r t) (fun y=>⟨iC [(0,.ptr 0 0),(1,.d (.i .i64 (i:Int))),(2,.d (.i .i64 (j:Int))),(7,.ptr (3 * R+4) 0),(8,.d (.i .i64 (y.1:Int)))],aH R c y.2 U V (kO k),3 * R+5⟩) (fun y=>c - y.1)
  (0,M) ⟨Nat.zero_le _,hs.m,fun r t hr ht=>(if_neg (by omega)).symm⟩ ?_ ?_
 ·refine ⟨_,jH ?_ (fun id o' ho=>⟨o',ho,eQ hs (uS k) ho⟩) (fun id hid=>gC hs hid) (by simp)⟩
  have g0:=dG (x:=(kO k)) hs (id:=0) (by omega)
  have g1:=dG (x:=(kO k)) hs (id:=3 * R+4) (by show _<_+1; omega)
  simp [-map_map,upd,aT,Γ0,g0,g1]
 ·rintro ⟨s,M1⟩ ⟨hsb,hM1,hME⟩
  simp only at hsb hM1 hME
  have hs0:WS R c M1 U V:=⟨hM1,hs.u,hs.v⟩
  have hHr:aH R c M1 U V (kO k) 0=some (.cells 212 [.d (.i .i64 (R:Int)),.d (.i .i64 (c:Int)),.own 1 0 R 1,.d (.i .i64 (R:Int)),.d (.i .i64 (R:Int)),.own (R+2) 0 R 1,.d (.i .i64 (R:Int)),.d (.i .i64 (R:Int)),.own (2 * R+3) 0 R 1]):=rfl
  by_cases hgo:s<c
  ·have q1:(s:Int)<c:=by omega
   have hw:IntKind.i64.wrap ((s:Int)+1)=(s:Int)+1:=aS (by omega) (by omega)
   have hHh:aH R c M1 U V (kO k) 1=some (.cells 112 (hdr c R 2)):=aSh hs0
   have hHk:aH R c M1 U V (kO k) (3 * R+4)=some (.cells 69 [.d (.b (decide (k<0))),.d (aG (aV k.natAbs))]):=by
    have:=bPc hs0 (x:=(kO k)) (i:=0) rfl
    rwa [Nat.zero_add] at this
   obtain ⟨vi,hvi,hvli,hvei⟩:=hM1.get hi
   have hHi:aH R c M1 U V (kO k) (i+2)=some (.cells 69 ((vcs vi).map .d)):=aLv hvi
   have hgi:=cW (c:=c) (b:=2) hi
   have hggi:∀ h:i<(hdr c R 2).length,(hdr c R 2)[i]'h=.own (i+2) 0 c 2:=fun h=>Option.some.inj ((List.getElem?_eq_getElem h).symm.trans hgi)
   have hvci:=fI vi
   rw [hvli] at hvci
   obtain ⟨vj,hvj,hvlj,hvej⟩:=hM1.get hj
   have hHj:aH R c M1 U V (kO k) (j+2)=some (.cells 69 ((vcs vj).map .d)):=aLv hvj
   have hgj:=cW (c:=c) (b:=2) hj
   have hggj:∀ h:j<(hdr c R 2).length,(hdr c R 2)[j]'h=.own (j+2) 0 c 2:=fun h=>Option.some.inj ((List.getElem?_eq_getElem h).symm.trans hgj)
   have hvcj:=fI vj
   rw [hvlj] at hvcj
   have hbs:s * 2+2≤c * 2:=by omega
   have hz0:ent M1 i s=ent M i s:=by rw [hME i s (by omega) (by omega)]; exact if_neg (by omega)
   have hrd0:List.take 2 (List.drop (s * 2) ((vcs vi).map AV.d))=[.d (.b (decide (ent M i s<0))),.d (aG (aV (ent M i s).natAbs))]:=by
    rw [← hz0,← hvei s,← List.map_drop,← List.map_take,fV (z:=vi.getD s 0) (by rw [List.getD_eq_getElem?_getD,List.getElem?_eq_getElem (by omega)]; rfl)]; rfl
   have hzs0:Sy (ent M i s):=hM i s
   have hz1:ent M1 j s=ent M j s:=by rw [hME j s (by omega) (by omega)]; exact if_neg (by omega)
   have hrd1:List.take 2 (List.drop (s * 2) ((vcs vj).map AV.d))=[.d (.b (decide (ent M j s<0))),.d (aG (aV (ent M j s).natAbs))]:=by
    rw [← hz1,← hvej s,← List.map_drop,← List.map_take,fV (z:=vj.getD s 0) (by rw [List.getD_eq_getElem?_getD,List.getElem?_eq_getElem (by omega)]; rfl)]; rfl
   have hzs1:Sy (ent M j s):=hM j s
   have hmul:=nD k (ent M j s) (Nat.le_trans hk (by decide)) (Nat.le_trans hzs1 (by decide))
   have hadd:=oU (ent M i s) (k * ent M j s) (Nat.le_trans hzs0 (by decide)) (Nat.le_trans (qW hk hzs1) (by decide))
   obtain ⟨z,hZ⟩:∃ z,ent M i s+k * ent M j s=z:=⟨_,rfl⟩
   rw [hZ] at hadd
   have hM2:Sh R c (M1.set i (vi.set s z)):=fR hM1 hvi
   have hs1:WS R c (M1.set i (vi.set s z)) U V:=⟨hM2,hs.u,hs.v⟩
   have hupd:upd (aH R c M1 U V (kO k)) (i+2) (some (.cells 69 ((vcs (vi.set s z)).map .d)))=aH R c (M1.set i (vi.set s z)) U V (kO k):=aSe hs0 hi
   have hlay:=kA (v:=vi) z (j:=s) (by rw [hvli]; omega)
   have hgl:=cB c R 2
   generalize hzm:k * ent M j s=zm at *
   generalize hz0g:ent M i s=z0 at *
   generalize hz1g:ent M j s=z1 at *
   generalize hHg:aH R c M1 U V (kO k)=H at *
   generalize hdr c R 2=cellsR at *
   simp [-map_map,-mapM_map,↓KW,q1,hHr,hHh,hHk,hHi,hgi,hggi,hvci,hi,hHj,hgj,hggj,hvcj,hj,hbs,hgo,hrd0,hrd1,hgl,aD,aJ,aP,bH,aX]
   refine aA (ds:=[encZ k,encZ z1]) (by rfl) hmul ?_
   rw [bI]
   simp [-map_map,-mapM_map,↓KW,hHr,hHh,hHk,hHi,hgi,hggi,hvci,hi,hHj,hgj,hggj,hvcj,hj,hbs,hgo,hrd0,hrd1,hgl,aD,aJ,aP,bH,aX]
   refine aA (ds:=[encZ z0,encZ zm]) (by rfl) hadd ?_
   rw [bI]
   simp [-map_map,-mapM_map,↓KW,hHr,hHh,hHk,hHi,hgi,hggi,hvci,hi,hHj,hgj,hggj,hvcj,hj,hbs,hgo,hrd0,hrd1,hgl,hw,hlay,aD,aJ,aP,bH,aX]
   rw [hupd]
   refine aK (s+1,M1.set i (vi.set s z)) ⟨hgo,hM2,fun r t hr ht=>?_⟩ (Nat.sub_lt_sub_left hgo (Nat.lt_succ_self _)) ?_
   ·rw [kZ hM1 hi (by omega) hvi,hME r t hr ht,← hZ]
    unfold aPd
    by_cases e:r=i∧t=s
    ·obtain ⟨e1,e2⟩:=e
     subst e1; subst e2
     rw [if_pos ⟨rfl,rfl⟩,if_pos (by omega)]
     rw [← hzm,← hz0g,← hz1g]
    ·rw [if_neg e]
     split
     ·rw [if_pos (by omega)]
     ·rw [if_neg (by omega)]
   ·refine ⟨_,jH ?_ (fun id o' ho=>⟨o',ho,eQ hs1 (uS k) ho⟩) (fun id hid=>gC hs1 hid) (by simp)⟩
    have g0:=dG (x:=(kO k)) hs1 (id:=0) (by omega)
    have g1:=dG (x:=(kO k)) hs1 (id:=3 * R+4) (by show _<_+1; omega)
    simp [-map_map,upd,aT,Γ0,g0,g1]
  ·have q1:¬ (s:Int)<c:=by omega
   have es:s=c:=by omega
   have hNe:M1=oR R c M i j k:=pO hM1 fun r t hr ht=>by rw [hME r t hr ht,es]
   have hsome:=fun id=>dG (x:=(kO k)) hs0 (id:=id)
   have hself:=fun (H:Nat→Option HO) id o=>eQ (x:=(kO k)) hs0 (uS k) (H:=H) (id:=id) (o:=o)
   have htop:=fun id=>gC (x:=(kO k)) hs0 (id:=id)
   clear hM1 hME
   rw [← hNe]
   clear hNe
   generalize hHg:aH R c M1 U V (kO k)=H at *
   simp [-map_map,-mapM_map,↓KW,q1,hHr]
   rw [← hHg]
   have hs:=hs0
   clear hs0 hHr hself hsome htop hHg
   refine aU (fun y:Nat × List (List Int)=>y.1≤R∧Sh R R y.2∧∀ r t,r<R→t<R→ent y.2 r t=aPd U i j k y.1 r t) (fun y=>⟨iC [(0,.ptr 0 0),(1,.d (.i .i64 (i:Int))),(2,.d (.i .i64 (j:Int))),(7,.ptr (3 * R+4) 0),(9,.d (.i .i64 (y.1:Int)))],aH R c M1 y.2 V (kO k),3 * R+5⟩) (fun y=>R - y.1)
    (0,U) ⟨Nat.zero_le _,hs.u,fun r t hr ht=>(if_neg (by omega)).symm⟩ ?_ ?_
   ·refine ⟨_,jH ?_ (fun id o' ho=>⟨o',ho,eQ hs (uS k) ho⟩) (fun id hid=>gC hs hid) (by simp)⟩
    have g0:=dG (x:=(kO k)) hs (id:=0) (by omega)
    have g1:=dG (x:=(kO k)) hs (id:=3 * R+4) (by show _<_+1; omega)
    simp [-map_map,upd,aT,Γ0,g0,g1]
   ·rintro ⟨s,U1⟩ ⟨hsb,hM1,hME⟩
    simp only at hsb hM1 hME
    have hs0:WS R c M1 U1 V:=⟨hs.m,hM1,hs.v⟩
    have hHr:aH R c M1 U1 V (kO k) 0=some (.cells 212 [.d (.i .i64 (R:Int)),.d (.i .i64 (c:Int)),.own 1 0 R 1,.d (.i .i64 (R:Int)),.d (.i .i64 (R:Int)),.own (R+2) 0 R 1,.d (.i .i64 (R:Int)),.d (.i .i64 (R:Int)),.own (2 * R+3) 0 R 1]):=rfl
    by_cases hgo:s<R
    ·have q1:(s:Int)<R:=by omega
     have hw:IntKind.i64.wrap ((s:Int)+1)=(s:Int)+1:=aS (by omega) (by omega)
     have hHh:aH R c M1 U1 V (kO k) (R+2)=some (.cells 112 (hdr R R (R+3))):=aSg hs0
     have hHk:aH R c M1 U1 V (kO k) (3 * R+4)=some (.cells 69 [.d (.b (decide (k<0))),.d (aG (aV k.natAbs))]):=by
      have:=bPc hs0 (x:=(kO k)) (i:=0) rfl
      rwa [Nat.zero_add] at this
     obtain ⟨vi,hvi,hvli,hvei⟩:=hM1.get hi
     have hHi:aH R c M1 U1 V (kO k) (i+(R+3))=some (.cells 69 ((vcs vi).map .d)):=aLu hs0 hvi
     have hgi:=cW (c:=R) (b:=(R+3)) hi
     have hggi:∀ h:i<(hdr R R (R+3)).length,(hdr R R (R+3))[i]'h=.own (i+(R+3)) 0 R 2:=fun h=>Option.some.inj ((List.getElem?_eq_getElem h).symm.trans hgi)
     have hvci:=fI vi
     rw [hvli] at hvci
     obtain ⟨vj,hvj,hvlj,hvej⟩:=hM1.get hj
     have hHj:aH R c M1 U1 V (kO k) (j+(R+3))=some (.cells 69 ((vcs vj).map .d)):=aLu hs0 hvj
     have hgj:=cW (c:=R) (b:=(R+3)) hj
     have hggj:∀ h:j<(hdr R R (R+3)).length,(hdr R R (R+3))[j]'h=.own (j+(R+3)) 0 R 2:=fun h=>Option.some.inj ((List.getElem?_eq_getElem h).symm.trans hgj)
     have hvcj:=fI vj
     rw [hvlj] at hvcj
     have hbs:s * 2+2≤R * 2:=by omega
     have hz0:ent U1 i s=ent U i s:=by rw [hME i s (by omega) (by omega)]; exact if_neg (by omega)
     have hrd0:List.take 2 (List.drop (s * 2) ((vcs vi).map AV.d))=[.d (.b (decide (ent U i s<0))),.d (aG (aV (ent U i s).natAbs))]:=by
      rw [← hz0,← hvei s,← List.map_drop,← List.map_take,fV (z:=vi.getD s 0) (by rw [List.getD_eq_getElem?_getD,List.getElem?_eq_getElem (by omega)]; rfl)]; rfl
     have hzs0:Sy (ent U i s):=hU i s
     have hz1:ent U1 j s=ent U j s:=by rw [hME j s (by omega) (by omega)]; exact if_neg (by omega)
     have hrd1:List.take 2 (List.drop (s * 2) ((vcs vj).map AV.d))=[.d (.b (decide (ent U j s<0))),.d (aG (aV (ent U j s).natAbs))]:=by
      rw [← hz1,← hvej s,← List.map_drop,← List.map_take,fV (z:=vj.getD s 0) (by rw [List.getD_eq_getElem?_getD,List.getElem?_eq_getElem (by omega)]; rfl)]; rfl
     have hzs1:Sy (ent U j s):=hU j s
     have hmul:=nD k (ent U j s) (Nat.le_trans hk (by decide)) (Nat.le_trans hzs1 (by decide))
     have hadd:=oU (ent U i s) (k * ent U j s) (Nat.le_trans hzs0 (by decide)) (Nat.le_trans (qW hk hzs1) (by decide))
     obtain ⟨z,hZ⟩:∃ z,ent U i s+k * ent U j s=z:=⟨_,rfl⟩
     rw [hZ] at hadd
     have hM2:Sh R R (U1.set i (vi.set s z)):=fR hM1 hvi
     have hs1:WS R c M1 (U1.set i (vi.set s z)) V:=⟨hs.m,hM2,hs.v⟩
     have hupd:upd (aH R c M1 U1 V (kO k)) (i+(R+3)) (some (.cells 69 ((vcs (vi.set s z)).map .d)))=aH R c M1 (U1.set i (vi.set s z)) V (kO k):=aSd hs0 hi
     have hlay:=kA (v:=vi) z (j:=s) (by rw [hvli]; omega)
     have hgl:=cB R R (R+3)
     generalize hzm:k * ent U j s=zm at *
     generalize hz0g:ent U i s=z0 at *
     generalize hz1g:ent U j s=z1 at *
     generalize hHg:aH R c M1 U1 V (kO k)=H at *
     generalize hdr R R (R+3)=cellsR at *
     simp [-map_map,-mapM_map,↓KW,q1,hHr,hHh,hHk,hHi,hgi,hggi,hvci,hi,hHj,hgj,hggj,hvcj,hj,hbs,hgo,hrd0,hrd1,hgl,aD,aJ,aP,bH,aX]
     refine aA (ds:=[encZ k,encZ z1]) (by rfl) hmul ?_
     rw [bI]
     simp [-map_map,-mapM_map,↓KW,hHr,hHh,hHk,hHi,hgi,hggi,hvci,hi,hHj,hgj,hggj,hvcj,hj,hbs,hgo,hrd0,hrd1,hgl,aD,aJ,aP,bH,aX]
     refine aA (ds:=[encZ z0,encZ zm]) (by rfl) hadd ?_
     rw [bI]
     simp [-map_map,-mapM_map,↓KW,hHr,hHh,hHk,hHi,hgi,hggi,hvci,hi,hHj,hgj,hggj,hvcj,hj,hbs,hgo,hrd0,hrd1,hgl,hw,hlay,aD,aJ,aP,bH,aX]
     rw [hupd]
     refine aK (s+1,U1.set i (vi.set s z)) ⟨hgo,hM2,fun r t hr ht=>?_⟩ (Nat.sub_lt_sub_left hgo (Nat.lt_succ_self _)) ?_
     ·rw [kZ hM1 hi (by omega) hvi,hME r t hr ht,← hZ]
      unfold aPd
      by_cases e:r=i∧t=s
      ·obtain ⟨e1,e2⟩:=e
       subst e1; subst e2
       rw [if_pos ⟨rfl,rfl⟩,if_pos (by omega)]
       rw [← hzm,← hz0g,← hz1g]
      ·rw [if_neg e]
       split
       ·rw [if_pos (by omega)]
       ·rw [if_neg (by omega)]
     ·refine ⟨_,jH ?_ (fun id o' ho=>⟨o',ho,eQ hs1 (uS k) ho⟩) (fun id hid=>gC hs1 hid) (by simp)⟩
      have g0:=dG (x:=(kO k)) hs1 (id:=0) (by omega)
      have g1:=dG (x:=(kO k)) hs1 (id:=3 * R+4) (by show _<_+1; omega)
      simp [-map_map,upd,aT,Γ0,g0,g1]
    ·have q1:¬ (s:Int)<R:=by omega
     have es:s=R:=by omega
     have hNe:U1=oR R R U i j k:=pO hM1 fun r t hr ht=>by rw [hME r t hr ht,es]
     have hsome:=fun id=>dG (x:=(kO k)) hs0 (id:=id)
     have hself:=fun (H:Nat→Option HO) id o=>eQ (x:=(kO k)) hs0 (uS k) (H:=H) (id:=id) (o:=o)
     have htop:=fun id=>gC (x:=(kO k)) hs0 (id:=id)
     clear hM1 hME
     rw [← hNe]
     clear hNe
     generalize hHg:aH R c M1 U1 V (kO k)=H at *
     simp [-map_map,-mapM_map,↓KW,q1,hHr]
     rw [← hHg]
     have hs:=hs0
     clear hs0 hHr hself hsome htop hHg
     refine aU (fun y:Nat × List (List Int)=>y.1≤R∧Sh R R y.2∧∀ r t,r<R→t<R→ent y.2 r t=bEc V i j k y.1 r t) (fun y=>⟨iC [(0,.ptr 0 0),(1,.d (.i .i64 (i:Int))),(2,.d (.i .i64 (j:Int))),(7,.ptr (3 * R+4) 0),(10,.d (.i .i64 (y.1:Int)))],aH R c M1 U1 y.2 (kO k),3 * R+5⟩) (fun y=>R - y.1)
      (0,V) ⟨Nat.zero_le _,hs.v,fun r t hr ht=>(if_neg (by omega)).symm⟩ ?_ ?_
     ·refine ⟨_,jH ?_ (fun id o' ho=>⟨o',ho,eQ hs (uS k) ho⟩) (fun id hid=>gC hs hid) (by simp)⟩
      have g0:=dG (x:=(kO k)) hs (id:=0) (by omega)
      have g1:=dG (x:=(kO k)) hs (id:=3 * R+4) (by show _<_+1; omega)
      simp [-map_map,upd,aT,Γ0,g0,g1]
     ·rintro ⟨s,V1⟩ ⟨hsb,hM1,hME⟩
      simp only at hsb hM1 hME
      have hs0:WS R c M1 U1 V1:=⟨hs.m,hs.u,hM1⟩
      have hHr:aH R c M1 U1 V1 (kO k) 0=some (.cells 212 [.d (.i .i64 (R:Int)),.d (.i .i64 (c:Int)),.own 1 0 R 1,.d (.i .i64 (R:Int)),.d (.i .i64 (R:Int)),.own (R+2) 0 R 1,.d (.i .i64 (R:Int)),.d (.i .i64 (R:Int)),.own (2 * R+3) 0 R 1]):=rfl
      by_cases hgo:s<R
      ·have q1:(s:Int)<R:=by omega
       have hw:IntKind.i64.wrap ((s:Int)+1)=(s:Int)+1:=aS (by omega) (by omega)
       have hHh:aH R c M1 U1 V1 (kO k) (2 * R+3)=some (.cells 112 (hdr R R (2 * R+4))):=bEg hs0
       have hHk:aH R c M1 U1 V1 (kO k) (3 * R+4)=some (.cells 69 [.d (.b (decide (k<0))),.d (aG (aV k.natAbs))]):=by
        have:=bPc hs0 (x:=(kO k)) (i:=0) rfl
        rwa [Nat.zero_add] at this
       obtain ⟨vs,hvs,hvls,hves⟩:=hM1.get hgo
       have hHs:aH R c M1 U1 V1 (kO k) (s+(2 * R+4))=some (.cells 69 ((vcs vs).map .d)):=bEe hs0 hvs
       have hgs:=cW (c:=R) (b:=(2 * R+4)) hgo
       have hggs:∀ h:s<(hdr R R (2 * R+4)).length,(hdr R R (2 * R+4))[s]'h=.own (s+(2 * R+4)) 0 R 2:=fun h=>Option.some.inj ((List.getElem?_eq_getElem h).symm.trans hgs)
       have hvcs:=fI vs
       rw [hvls] at hvcs
       have hbj:j * 2+2≤R * 2:=by omega
       have hbi:i * 2+2≤R * 2:=by omega
       have hz0:ent V1 s j=ent V s j:=by rw [hME s j (by omega) (by omega)]; exact if_neg (by omega)
       have hrd0:List.take 2 (List.drop (j * 2) ((vcs vs).map AV.d))=[.d (.b (decide (ent V s j<0))),.d (aG (aV (ent V s j).natAbs))]:=by
        rw [← hz0,← hves j,← List.map_drop,← List.map_take,fV (z:=vs.getD j 0) (by rw [List.getD_eq_getElem?_getD,List.getElem?_eq_getElem (by omega)]; rfl)]; rfl
       have hzs0:Sy (ent V s j):=hV s j
       have hz1:ent V1 s i=ent V s i:=by rw [hME s i (by omega) (by omega)]; exact if_neg (by omega)
       have hrd1:List.take 2 (List.drop (i * 2) ((vcs vs).map AV.d))=[.d (.b (decide (ent V s i<0))),.d (aG (aV (ent V s i).natAbs))]:=by
        rw [← hz1,← hves i,← List.map_drop,← List.map_take,fV (z:=vs.getD i 0) (by rw [List.getD_eq_getElem?_getD,List.getElem?_eq_getElem (by omega)]; rfl)]; rfl
       have hzs1:Sy (ent V s i):=hV s i
       have hmul:=nD k (ent V s i) (Nat.le_trans hk (by decide)) (Nat.le_trans hzs1 (by decide))
       have hsub:=aGc (ent V s j) (k * ent V s i) (Nat.le_trans hzs0 (by decide)) (Nat.le_trans (qW hk hzs1) (by decide))
       obtain ⟨z,hZ⟩:∃ z,ent V s j - k * ent V s i=z:=⟨_,rfl⟩
       rw [hZ] at hsub
       have hM2:Sh R R (V1.set s (vs.set j z)):=fR hM1 hvs
       have hs1:WS R c M1 U1 (V1.set s (vs.set j z)):=⟨hs.m,hs.u,hM2⟩
       have hupd:upd (aH R c M1 U1 V1 (kO k)) (s+(2 * R+4)) (some (.cells 69 ((vcs (vs.set j z)).map .d)))=aH R c M1 U1 (V1.set s (vs.set j z)) (kO k):=zD hs0 hgo
       have hlay:=kA (v:=vs) z (j:=j) (by rw [hvls]; omega)
       have hgl:=cB R R (2 * R+4)
       generalize hzm:k * ent V s i=zm at *
       generalize hz0g:ent V s j=z0 at *
       generalize hz1g:ent V s i=z1 at *
       generalize hHg:aH R c M1 U1 V1 (kO k)=H at *
       generalize hdr R R (2 * R+4)=cellsR at *
       simp [-map_map,-mapM_map,↓KW,q1,hHr,hHh,hHk,hHs,hgs,hggs,hvcs,hgo,hbj,hbi,hj,hi,hrd0,hrd1,hgl,aD,aJ,aP,bH,aX]
       refine aA (ds:=[encZ k,encZ z1]) (by rfl) hmul ?_
       rw [bI]
       simp [-map_map,-mapM_map,↓KW,hHr,hHh,hHk,hHs,hgs,hggs,hvcs,hgo,hbj,hbi,hj,hi,hrd0,hrd1,hgl,aD,aJ,aP,bH,aX]
       refine aA (ds:=[encZ z0,encZ zm]) (by rfl) hsub ?_
       rw [bI]
       simp [-map_map,-mapM_map,↓KW,hHr,hHh,hHk,hHs,hgs,hggs,hvcs,hgo,hbj,hbi,hj,hi,hrd0,hrd1,hgl,hw,hlay,aD,aJ,aP,bH,aX]
       rw [hupd]
       refine aK (s+1,V1.set s (vs.set j z)) ⟨hgo,hM2,fun r t hr ht=>?_⟩ (Nat.sub_lt_sub_left hgo (Nat.lt_succ_self _)) ?_
       ·rw [kZ hM1 hgo (by omega) hvs,hME r t hr ht,← hZ]
        unfold bEc
        by_cases e:r=s∧t=j
        ·obtain ⟨e1,e2⟩:=e
         subst e1; subst e2
         rw [if_pos ⟨rfl,rfl⟩,if_pos (by omega)]
         rw [← hzm,← hz0g,← hz1g]
        ·rw [if_neg e]
         split
         ·rw [if_pos (by omega)]
         ·rw [if_neg (by omega)]
       ·refine ⟨_,jH ?_ (fun id o' ho=>⟨o',ho,eQ hs1 (uS k) ho⟩) (fun id hid=>gC hs1 hid) (by simp)⟩
        have g0:=dG (x:=(kO k)) hs1 (id:=0) (by omega)
        have g1:=dG (x:=(kO k)) hs1 (id:=3 * R+4) (by show _<_+1; omega)
        simp [-map_map,upd,aT,Γ0,g0,g1]
      ·have q1:¬ (s:Int)<R:=by omega
       have es:s=R:=by omega
       have hNe:V1=aPc R V i j k:=pO hM1 fun r t hr ht=>by rw [hME r t hr ht,es]
       have hsome:=fun id=>dG (x:=(kO k)) hs0 (id:=id)
       have hself:=fun (H:Nat→Option HO) id o=>eQ (x:=(kO k)) hs0 (uS k) (H:=H) (id:=id) (o:=o)
       have htop:=fun id=>gC (x:=(kO k)) hs0 (id:=id)
       clear hM1 hME
       rw [← hNe]
       clear hNe
       generalize hHg:aH R c M1 U1 V1 (kO k)=H at *
       simp [-map_map,-mapM_map,↓KW,q1,hHr]
       rw [← hHg]
       exact aPf hs0 (Nat.succ_ne_zero _)
end Go.Am
end

section
set_option linter.unusedVariables false
set_option linter.unusedSimpArgs false
open List (map_map mapM_map)
open Go Go.Am Go.Proofs
namespace Go.Am
theorem bEf {R c:Nat} {M U V:List (List Int)}:(fun id=>(wR0 R c::wH R c M U V)[id]?)=aH R c M U V []:=by
 funext id
 unfold aH fS
 rw [if_neg (by omega),aFf,List.append_nil,Nat.sub_zero]
set_option maxHeartbeats 16000000 in
set_option maxRecDepth 10000 in
theorem aTe {R c i:Nat} {M U V:List (List Int)} (hs:WS R c M U V) (hR:R≤1000) (hc:c≤1000) (hi:i<R) (hM:∀ r t,Sy (ent M r t)) (hU:∀ r t,Sy (ent U r t)) (hV:∀ r t,Sy (ent V r t)) :
  vQ Tryz.prog 174 (.ptr 0 0) (wR0 R c) (wH R c M U V) [.i .i64 (i:Int)] (wR0 R c) (wH R c (ngR R c M i) (ngR R R U i) (ngV R V i)) (.tp []):=by
 refine vX (N:=100) aF Tryz.func174 rfl rfl rfl rfl (by kernel_rfl) (by kernel_rfl) (by simp) ?_
 have hl:(wH R c M U V).length=3 * R+3:=fL hs _ _ _
 simp [-map_map,-mapM_map,↓KW,StT,hl,bEf]
 rw [show 3 * R+3+1=3 * R+4 by omega]
 refine aU (fun y:Nat × List (List Int)=>y.1≤c∧Sh R c y.2∧∀ r t,r<R→t<c→ent y.2 r t=ngF M i y.1 r t) (fun y=>⟨iC [(0,.ptr 0 0),(1,.d (.i .i64 (i:Int))),(4,.d (.i .i64 (y.1:Int)))],aH R c y.2 U V [],3 * R+4⟩) (fun y=>c - y.1)
  (0,M) ⟨Nat.zero_le _,hs.m,fun r t hr ht=>(if_neg (by omega)).symm⟩ ?_ ?_
 ·refine ⟨_,jH ?_ (fun id o' ho=>⟨o',ho,eQ hs (fun o ho=>by cases ho) ho⟩) (fun id hid=>gC hs hid) (by simp)⟩
  have g0:=dG (x:=[]) hs (id:=0) (by omega)
  simp [-map_map,upd,aT,Γ0,g0]
 ·rintro ⟨s,M1⟩ ⟨hsb,hM1,hME⟩
  simp only at hsb hM1 hME
  have hs0:WS R c M1 U V:=⟨hM1,hs.u,hs.v⟩
  have hHr:aH R c M1 U V [] 0=some (.cells 212 [.d (.i .i64 (R:Int)),.d (.i .i64 (c:Int)),.own 1 0 R 1,.d (.i .i64 (R:Int)),.d (.i .i64 (R:Int)),.own (R+2) 0 R 1,.d (.i .i64 (R:Int)),.d (.i .i64 (R:Int)),.own (2 * R+3) 0 R 1]):=rfl
  by_cases hgo:s<c
  ·have q1:(s:Int)<c:=by omega
   have hw:IntKind.i64.wrap ((s:Int)+1)=(s:Int)+1:=aS (by omega) (by omega)
   have hHh:aH R c M1 U V [] 1=some (.cells 112 (hdr c R 2)):=aSh hs0
   obtain ⟨vi,hvi,hvli,hvei⟩:=hM1.get hi
   have hHi:aH R c M1 U V [] (i+2)=some (.cells 69 ((vcs vi).map .d)):=aLv hvi
   have hgi:=cW (c:=c) (b:=2) hi
   have hggi:∀ h:i<(hdr c R 2).length,(hdr c R 2)[i]'h=.own (i+2) 0 c 2:=fun h=>Option.some.inj ((List.getElem?_eq_getElem h).symm.trans hgi)
   have hvci:=fI vi
   rw [hvli] at hvci
   have hbs:s * 2+2≤c * 2:=by omega
   have hz0:ent M1 i s=ent M i s:=by rw [hME i s (by omega) (by omega)]; exact if_neg (by omega)
   have hrd0:List.take 2 (List.drop (s * 2) ((vcs vi).map AV.d))=[.d (.b (decide (ent M i s<0))),.d (aG (aV (ent M i s).natAbs))]:=by
    rw [← hz0,← hvei s,← List.map_drop,← List.map_take,fV (z:=vi.getD s 0) (by rw [List.getD_eq_getElem?_getD,List.getElem?_eq_getElem (by omega)]; rfl)]; rfl
   have hzs0:Sy (ent M i s):=hM i s
   have hneg:=lT (ent M i s) (Nat.le_trans hzs0 (by decide))
   obtain ⟨z,hZ⟩:∃ z,-ent M i s=z:=⟨_,rfl⟩
   rw [hZ] at hneg
   have hM2:Sh R c (M1.set i (vi.set s z)):=fR hM1 hvi
   have hs1:WS R c (M1.set i (vi.set s z)) U V:=⟨hM2,hs.u,hs.v⟩
   have hupd:upd (aH R c M1 U V []) (i+2) (some (.cells 69 ((vcs (vi.set s z)).map .d)))=aH R c (M1.set i (vi.set s z)) U V []:=aSe hs0 hi
   have hlay:=kA (v:=vi) z (j:=s) (by rw [hvli]; omega)
   have hgl:=cB c R 2
   generalize hz0g:ent M i s=z0 at *
   generalize hHg:aH R c M1 U V []=H at *
   generalize hdr c R 2=cellsR at *
   simp [-map_map,-mapM_map,↓KW,q1,hHr,hHh,hHi,hgi,hggi,hvci,hi,hbs,hgo,hrd0,hgl,aD,aJ,aP,bH,aX]
   refine aA (ds:=[encZ z0]) (by rfl) hneg ?_
   rw [bI]
   simp [-map_map,-mapM_map,↓KW,hHr,hHh,hHi,hgi,hggi,hvci,hi,hbs,hgo,hrd0,hgl,hw,hlay,aD,aJ,aP,bH,aX]
   rw [hupd]
   refine aK (s+1,M1.set i (vi.set s z)) ⟨hgo,hM2,fun r t hr ht=>?_⟩ (Nat.sub_lt_sub_left hgo (Nat.lt_succ_self _)) ?_
   ·rw [kZ hM1 hi (by omega) hvi,hME r t hr ht,← hZ]
    unfold ngF
    by_cases e:r=i∧t=s
    ·obtain ⟨e1,e2⟩:=e
     subst e1; subst e2
     rw [if_pos ⟨rfl,rfl⟩,if_pos (by omega)]
     rw [← hz0g]
    ·rw [if_neg e]
     split
     ·rw [if_pos (by omega)]
     ·rw [if_neg (by omega)]
   ·refine ⟨_,jH ?_ (fun id o' ho=>⟨o',ho,eQ hs1 (fun o ho=>by cases ho) ho⟩) (fun id hid=>gC hs1 hid) (by simp)⟩
    have g0:=dG (x:=[]) hs1 (id:=0) (by omega)
    simp [-map_map,upd,aT,Γ0,g0]
  ·have q1:¬ (s:Int)<c:=by omega
   have es:s=c:=by omega
   have hNe:M1=ngR R c M i:=pO hM1 fun r t hr ht=>by rw [hME r t hr ht,es]
   have hsome:=fun id=>dG (x:=[]) hs0 (id:=id)
   have hself:=fun (H:Nat→Option HO) id o=>eQ (x:=[]) hs0 (fun o ho=>by cases ho) (H:=H) (id:=id) (o:=o)
   have htop:=fun id=>gC (x:=[]) hs0 (id:=id)
   clear hM1 hME
   rw [← hNe]
   clear hNe
   generalize hHg:aH R c M1 U V []=H at *
   simp [-map_map,-mapM_map,↓KW,q1,hHr]
   rw [← hHg]
   have hs:=hs0
   clear hs0 hHr hself hsome htop hHg
   refine aU (fun y:Nat × List (List Int)=>y.1≤R∧Sh R R y.2∧∀ r t,r<R→t<R→ent y.2 r t=ngF U i y.1 r t) (fun y=>⟨iC [(0,.ptr 0 0),(1,.d (.i .i64 (i:Int))),(5,.d (.i .i64 (y.1:Int)))],aH R c M1 y.2 V [],3 * R+4⟩) (fun y=>R - y.1)
    (0,U) ⟨Nat.zero_le _,hs.u,fun r t hr ht=>(if_neg (by omega)).symm⟩ ?_ ?_
   ·refine ⟨_,jH ?_ (fun id o' ho=>⟨o',ho,eQ hs (fun o ho=>by cases ho) ho⟩) (fun id hid=>gC hs hid) (by simp)⟩
    have g0:=dG (x:=[]) hs (id:=0) (by omega)
    simp [-map_map,upd,aT,Γ0,g0]
   ·rintro ⟨s,U1⟩ ⟨hsb,hM1,hME⟩
    simp only at hsb hM1 hME
    have hs0:WS R c M1 U1 V:=⟨hs.m,hM1,hs.v⟩
    have hHr:aH R c M1 U1 V [] 0=some (.cells 212 [.d (.i .i64 (R:Int)),.d (.i .i64 (c:Int)),.own 1 0 R 1,.d (.i .i64 (R:Int)),.d (.i .i64 (R:Int)),.own (R+2) 0 R 1,.d (.i .i64 (R:Int)),.d (.i .i64 (R:Int)),.own (2 * R+3) 0 R 1]):=rfl
    by_cases hgo:s<R
    ·have q1:(s:Int)<R:=by omega
     have hw:IntKind.i64.wrap ((s:Int)+1)=(s:Int)+1:=aS (by omega) (by omega)
     have hHh:aH R c M1 U1 V [] (R+2)=some (.cells 112 (hdr R R (R+3))):=aSg hs0
     obtain ⟨vi,hvi,hvli,hvei⟩:=hM1.get hi
     have hHi:aH R c M1 U1 V [] (i+(R+3))=some (.cells 69 ((vcs vi).map .d)):=aLu hs0 hvi
     have hgi:=cW (c:=R) (b:=(R+3)) hi
     have hggi:∀ h:i<(hdr R R (R+3)).length,(hdr R R (R+3))[i]'h=.own (i+(R+3)) 0 R 2:=fun h=>Option.some.inj ((List.getElem?_eq_getElem h).symm.trans hgi)
     have hvci:=fI vi
     rw [hvli] at hvci
     have hbs:s * 2+2≤R * 2:=by omega
     have hz0:ent U1 i s=ent U i s:=by rw [hME i s (by omega) (by omega)]; exact if_neg (by omega)
     have hrd0:List.take 2 (List.drop (s * 2) ((vcs vi).map AV.d))=[.d (.b (decide (ent U i s<0))),.d (aG (aV (ent U i s).natAbs))]:=by
      rw [← hz0,← hvei s,← List.map_drop,← List.map_take,fV (z:=vi.getD s 0) (by rw [List.getD_eq_getElem?_getD,List.getElem?_eq_getElem (by omega)]; rfl)]; rfl
     have hzs0:Sy (ent U i s):=hU i s
     have hneg:=lT (ent U i s) (Nat.le_trans hzs0 (by decide))
     obtain ⟨z,hZ⟩:∃ z,-ent U i s=z:=⟨_,rfl⟩
     rw [hZ] at hneg
     have hM2:Sh R R (U1.set i (vi.set s z)):=fR hM1 hvi
     have hs1:WS R c M1 (U1.set i (vi.set s z)) V:=⟨hs.m,hM2,hs.v⟩
     have hupd:upd (aH R c M1 U1 V []) (i+(R+3)) (some (.cells 69 ((vcs (vi.set s z)).map .d)))=aH R c M1 (U1.set i (vi.set s z)) V []:=aSd hs0 hi
     have hlay:=kA (v:=vi) z (j:=s) (by rw [hvli]; omega)
     have hgl:=cB R R (R+3)
     generalize hz0g:ent U i s=z0 at *
     generalize hHg:aH R c M1 U1 V []=H at *
     generalize hdr R R (R+3)=cellsR at *
     simp [-map_map,-mapM_map,↓KW,q1,hHr,hHh,hHi,hgi,hggi,hvci,hi,hbs,hgo,hrd0,hgl,aD,aJ,aP,bH,aX]
     refine aA (ds:=[encZ z0]) (by rfl) hneg ?_
     rw [bI]
     simp [-map_map,-mapM_map,↓KW,hHr,hHh,hHi,hgi,hggi,hvci,hi,hbs,hgo,hrd0,hgl,hw,hlay,aD,aJ,aP,bH,aX]
     rw [hupd]
     refine aK (s+1,U1.set i (vi.set s z)) ⟨hgo,hM2,fun r t hr ht=>?_⟩ (Nat.sub_lt_sub_left hgo (Nat.lt_succ_self _)) ?_
     ·rw [kZ hM1 hi (by omega) hvi,hME r t hr ht,← hZ]
      unfold ngF
      by_cases e:r=i∧t=s
      ·obtain ⟨e1,e2⟩:=e
       subst e1; subst e2
       rw [if_pos ⟨rfl,rfl⟩,if_pos (by omega)]
       rw [← hz0g]
      ·rw [if_neg e]
       split
       ·rw [if_pos (by omega)]
       ·rw [if_neg (by omega)]
     ·refine ⟨_,jH ?_ (fun id o' ho=>⟨o',ho,eQ hs1 (fun o ho=>by cases ho) ho⟩) (fun id hid=>gC hs1 hid) (by simp)⟩
      have g0:=dG (x:=[]) hs1 (id:=0) (by omega)
      simp [-map_map,upd,aT,Γ0,g0]
    ·have q1:¬ (s:Int)<R:=by omega
     have es:s=R:=by omega
     have hNe:U1=ngR R R U i:=pO hM1 fun r t hr ht=>by rw [hME r t hr ht,es]
     have hsome:=fun id=>dG (x:=[]) hs0 (id:=id)
     have hself:=fun (H:Nat→Option HO) id o=>eQ (x:=[]) hs0 (fun o ho=>by cases ho) (H:=H) (id:=id) (o:=o)
     have htop:=fun id=>gC (x:=[]) hs0 (id:=id)
     clear hM1 hME
     rw [← hNe]
     clear hNe
     generalize hHg:aH R c M1 U1 V []=H at *
     simp [-map_map,-mapM_map,↓KW,q1,hHr]
     rw [← hHg]
     have hs:=hs0
     clear hs0 hHr hself hsome htop hHg
     refine aU (fun y:Nat × List (List Int)=>y.1≤R∧Sh R R y.2∧∀ r t,r<R→t<R→ent y.2 r t=ngC V i y.1 r t) (fun y=>⟨iC [(0,.ptr 0 0),(1,.d (.i .i64 (i:Int))),(6,.d (.i .i64 (y.1:Int)))],aH R c M1 U1 y.2 [],3 * R+4⟩) (fun y=>R - y.1)
      (0,V) ⟨Nat.zero_le _,hs.v,fun r t hr ht=>(if_neg (by omega)).symm⟩ ?_ ?_
     ·refine ⟨_,jH ?_ (fun id o' ho=>⟨o',ho,eQ hs (fun o ho=>by cases ho) ho⟩) (fun id hid=>gC hs hid) (by simp)⟩
      have g0:=dG (x:=[]) hs (id:=0) (by omega)
      simp [-map_map,upd,aT,Γ0,g0]
     ·rintro ⟨s,V1⟩ ⟨hsb,hM1,hME⟩
      simp only at hsb hM1 hME
      have hs0:WS R c M1 U1 V1:=⟨hs.m,hs.u,hM1⟩
      have hHr:aH R c M1 U1 V1 [] 0=some (.cells 212 [.d (.i .i64 (R:Int)),.d (.i .i64 (c:Int)),.own 1 0 R 1,.d (.i .i64 (R:Int)),.d (.i .i64 (R:Int)),.own (R+2) 0 R 1,.d (.i .i64 (R:Int)),.d (.i .i64 (R:Int)),.own (2 * R+3) 0 R 1]):=rfl
      by_cases hgo:s<R
      ·have q1:(s:Int)<R:=by omega
       have hw:IntKind.i64.wrap ((s:Int)+1)=(s:Int)+1:=aS (by omega) (by omega)
       have hHh:aH R c M1 U1 V1 [] (2 * R+3)=some (.cells 112 (hdr R R (2 * R+4))):=bEg hs0
       obtain ⟨vs,hvs,hvls,hves⟩:=hM1.get hgo
       have hHs:aH R c M1 U1 V1 [] (s+(2 * R+4))=some (.cells 69 ((vcs vs).map .d)):=bEe hs0 hvs
       have hgs:=cW (c:=R) (b:=(2 * R+4)) hgo
       have hggs:∀ h:s<(hdr R R (2 * R+4)).length,(hdr R R (2 * R+4))[s]'h=.own (s+(2 * R+4)) 0 R 2:=fun h=>Option.some.inj ((List.getElem?_eq_getElem h).symm.trans hgs)
       have hvcs:=fI vs
       rw [hvls] at hvcs
       have hbi:i * 2+2≤R * 2:=by omega
       have hz0:ent V1 s i=ent V s i:=by rw [hME s i (by omega) (by omega)]; exact if_neg (by omega)
       have hrd0:List.take 2 (List.drop (i * 2) ((vcs vs).map AV.d))=[.d (.b (decide (ent V s i<0))),.d (aG (aV (ent V s i).natAbs))]:=by
        rw [← hz0,← hves i,← List.map_drop,← List.map_take,fV (z:=vs.getD i 0) (by rw [List.getD_eq_getElem?_getD,List.getElem?_eq_getElem (by omega)]; rfl)]; rfl
       have hzs0:Sy (ent V s i):=hV s i
       have hneg:=lT (ent V s i) (Nat.le_trans hzs0 (by decide))
       obtain ⟨z,hZ⟩:∃ z,-ent V s i=z:=⟨_,rfl⟩
       rw [hZ] at hneg
       have hM2:Sh R R (V1.set s (vs.set i z)):=fR hM1 hvs
       have hs1:WS R c M1 U1 (V1.set s (vs.set i z)):=⟨hs.m,hs.u,hM2⟩
       have hupd:upd (aH R c M1 U1 V1 []) (s+(2 * R+4)) (some (.cells 69 ((vcs (vs.set i z)).map .d)))=aH R c M1 U1 (V1.set s (vs.set i z)) []:=zD hs0 hgo
       have hlay:=kA (v:=vs) z (j:=i) (by rw [hvls]; omega)
       have hgl:=cB R R (2 * R+4)
       generalize hz0g:ent V s i=z0 at *
       generalize hHg:aH R c M1 U1 V1 []=H at *
       generalize hdr R R (2 * R+4)=cellsR at *
       simp [-map_map,-mapM_map,↓KW,q1,hHr,hHh,hHs,hgs,hggs,hvcs,hgo,hbi,hi,hrd0,hgl,aD,aJ,aP,bH,aX]
       refine aA (ds:=[encZ z0]) (by rfl) hneg ?_
       rw [bI]
       simp [-map_map,-mapM_map,↓KW,hHr,hHh,hHs,hgs,hggs,hvcs,hgo,hbi,hi,hrd0,hgl,hw,hlay,aD,aJ,aP,bH,aX]
       rw [hupd]
       refine aK (s+1,V1.set s (vs.set i z)) ⟨hgo,hM2,fun r t hr ht=>?_⟩ (Nat.sub_lt_sub_left hgo (Nat.lt_succ_self _)) ?_
       ·rw [kZ hM1 hgo (by omega) hvs,hME r t hr ht,← hZ]
        unfold ngC
        by_cases e:r=s∧t=i
        ·obtain ⟨e1,e2⟩:=e
         subst e1; subst e2
         rw [if_pos ⟨rfl,rfl⟩,if_pos (by omega)]
         rw [← hz0g]
        ·rw [if_neg e]
         split
         ·rw [if_pos (by omega)]
         ·rw [if_neg (by omega)]
       ·refine ⟨_,jH ?_ (fun id o' ho=>⟨o',ho,eQ hs1 (fun o ho=>by cases ho) ho⟩) (fun id hid=>gC hs1 hid) (by simp)⟩
        have g0:=dG (x:=[]) hs1 (id:=0) (by omega)
        simp [-map_map,upd,aT,Γ0,g0]
      ·have q1:¬ (s:Int)<R:=by omega
       have es:s=R:=by omega
       have hNe:V1=ngV R V i:=pO hM1 fun r t hr ht=>by rw [hME r t hr ht,es]
       have hsome:=fun id=>dG (x:=[]) hs0 (id:=id)
       have hself:=fun (H:Nat→Option HO) id o=>eQ (x:=[]) hs0 (fun o ho=>by cases ho) (H:=H) (id:=id) (o:=o)
       have htop:=fun id=>gC (x:=[]) hs0 (id:=id)
       clear hM1 hME
       rw [← hNe]
       clear hNe
       generalize hHg:aH R c M1 U1 V1 []=H at *
       simp [-map_map,-mapM_map,↓KW,q1,hHr]
       rw [← hHg]
       exact aPf hs0 (Nat.succ_ne_zero _)
end Go.Am
end

section
set_option linter.unusedVariables false
set_option linter.unusedSimpArgs false
open List (map_map mapM_map)
open Go Go.Am Go.Proofs
namespace Go.Am
def aKx (c n b i j:Nat):List AV:=lay (lay (hdr c n b) i [.own (j+b) 0 c 2]) j [.own (i+b) 0 c 2]
theorem aKv {c n b i j:Nat} (hi:i<n) (hj:j<n):(aKx c n b i j).length=n:=by
 unfold aKx
 have h1:(lay (hdr c n b) i [.own (j+b) 0 c 2]).length=n:=by rw [gK (by rw [cB]; exact hi),cB]
 rw [gK (by rw [h1]; exact hj),h1]
theorem aKw {c n b i j k:Nat} (hi:i<n) (hj:j<n) (hk:k<n):(aKx c n b i j)[k]? = some (.own (swp i j k+b) 0 c 2):=by
 unfold aKx
 have h1:(lay (hdr c n b) i [.own (j+b) 0 c 2]).length=n:=by rw [gK (by rw [cB]; exact hi),cB]
 rw [uQ (by rw [h1]; exact hj),uQ (by rw [cB]; exact hi)]
 simp only [List.length_singleton]
 unfold swp
 by_cases e1:k=j
 ·subst e1
  rw [if_pos (by omega),Nat.sub_self]
  by_cases e2:k=i
  ·subst e2; rw [if_pos rfl]; rfl
  ·rw [if_neg e2,if_pos rfl]; rfl
 ·rw [if_neg (by omega)]
  by_cases e2:k=i
  ·subst e2; rw [if_pos (by omega),if_pos rfl,Nat.sub_self]; rfl
  ·rw [if_neg (by omega),if_neg e2,if_neg e1,cW hk]
theorem aPw {R c i j t:Nat} {M:List (List Int)} (h:Sh R c M) (hi:i<R) (hj:j<R) (ht:t<R):(swR R c M i j)[t]? = M[swp i j t]? := by
 obtain ⟨v,h1,h2,h3⟩:=(iA R c fun r t=>ent M (swp i j r) t).get ht
 obtain ⟨v',g1,g2,g3⟩:=h.get (wA hi hj ht)
 unfold swR
 rw [h1,g1]
 congr 1
 refine List.ext_getElem (by rw [h2,g2]) fun s a1 a2=>?_
 have e1:=h3 s
 have e2:=g3 s
 rw [oY _ ht (by omega)] at e1
 rw [List.getD_eq_getElem?_getD,List.getElem?_eq_getElem a1] at e1
 rw [List.getD_eq_getElem?_getD,List.getElem?_eq_getElem a2] at e2
 simp only [Option.getD_some] at e1 e2
 rw [e1,e2]
theorem aOz {α:Type} {a b:List α} {n k:Nat} (h:a.length=n):(a++b)[k+n]? = b[k]? := by
 rw [List.getElem?_append_right (by omega),h,Nat.add_sub_cancel]
def swN (R i j:Nat) (id:Nat):Nat:=if 2≤id∧id<R+2 then swp i j (id - 2)+2 else if R+3≤id∧id<2 * R+3 then swp i j (id - (R+3))+(R+3) else id
theorem bPn {R c i j n:Nat} {M U V:List (List Int)} {Γ:Nat→AV} {sl:List (Nat × AV)} {H:Nat→Option HO} (hs:WS R c M U V) (hi:i<R) (hj:j<R)
  (h1:H 1=some (.cells 112 (aKx c R 2 i j))) (h2:H (R+2)=some (.cells 112 (aKx R R (R+3) i j))) (ho:∀ id,id≠1→id≠R+2→H id=aH R c M U V [] id)
  (hslot:lS H (aH R c (swR R c M i j) (swR R R U i j) V []) (swN R i j) Γ sl):∃ ρ,Wk ⟨Γ,H,n+1⟩ ⟨iC sl,aH R c (swR R c M i j) (swR R R U i j) V [],3 * R+4⟩ ρ:=by
 have hs':WS R c (swR R c M i j) (swR R R U i j) V:=⟨iA _ _ _,iA _ _ _,hs.v⟩
 have hlen:=aCd (x:=[]) hs'
 have hsome:=fun id=>dG (x:=[]) hs' (id:=id)
 have hge:∀ id,(aH R c (swR R c M i j) (swR R R U i j) V [] id).isSome=true→id<3 * R+4:=fun id h=>by
  have:=(aGu h).2
  rw [hlen] at this; simpa using this
 have n2:∀ t,t<R→swN R i j (t+2)=swp i j t+2:=fun t ht=>by unfold swN; rw [if_pos (by omega),Nat.add_sub_cancel]
 have n3:∀ t,t<R→swN R i j (t+(R+3))=swp i j t+(R+3):=fun t ht=>by unfold swN; rw [if_neg (by omega),if_pos (by omega),Nat.add_sub_cancel]
 have n0:∀ id,id<2→swN R i j id=id:=fun id h=>by unfold swN; rw [if_neg (by omega),if_neg (by omega)]
 have n1:swN R i j (R+2)=R+2:=by unfold swN; rw [if_neg (by omega),if_neg (by omega)]
 have n4:∀ id,2 * R+3≤id→swN R i j id=id:=fun id h=>by unfold swN; rw [if_neg (by omega),if_neg (by omega)]
 have hk:∀ t,t<R→swp i j t<R:=fun t ht=>wA hi hj ht
 have cases5:∀ id,id<3 * R+4→id=0∨id=1∨(∃ t,t<R∧id=t+2)∨id=R+2∨(∃ t,t<R∧id=t+(R+3))∨2 * R+3≤id:=fun id h=>by
  by_cases a:id<2
  ·omega
  ·by_cases b:id<R+2
   ·exact .inr (.inr (.inl ⟨id - 2,by omega,by omega⟩))
   ·by_cases d:id=R+2
    ·exact .inr (.inr (.inr (.inl d)))
    ·by_cases f:id<2 * R+3
     ·exact .inr (.inr (.inr (.inr (.inl ⟨id - (R+3),by omega,by omega⟩))))
     ·exact .inr (.inr (.inr (.inr (.inr (by omega)))))
 refine ⟨_,aMf (swN R i j) hslot (fun id o' h=>?_) (fun id id' g1 g2 e=>?_) (fun _=>n0 0 (by omega)) (fun id hid=>gC hs' hid) (by omega)⟩
 ·show ∃ o,H (swN R i j id)=some o∧lJ H _ (swN R i j) o o'
  have hid:=hge id (by rw [h]; rfl)
  rcases cases5 id hid with rfl | rfl | ⟨t,ht,rfl⟩ | rfl | ⟨t,ht,rfl⟩ | hbig
  ·rw [n0 0 (by omega),ho 0 (by omega) (by omega)]
   rw [aSf] at h
   injection h with h; subst h
   have m1:=n0 1 (by omega)
   have m2:=n4 (2 * R+3) (by omega)
   have s1:=hsome 1 (by omega)
   have s2:=hsome (R+2) (by omega)
   have s3:=hsome (2 * R+3) (by omega)
   refine ⟨_,aSf,?_⟩
   unfold wR0 wRt
   simp [-map_map,upd,aT,Γ0,]
   exact ⟨⟨m1.symm,rfl,rfl,rfl,s1⟩,⟨n1.symm,rfl,rfl,rfl,s2⟩,⟨m2.symm,rfl,rfl,rfl,s3⟩⟩
  ·rw [n0 1 (by omega),h1]
   rw [aSh hs'] at h
   injection h with h; subst h
   refine ⟨_,rfl,dV.2 ⟨rfl,dZ.2 ⟨by rw [aKv hi hj,cB],fun k x y a1 a2=>?_⟩⟩⟩
   have hkR:k<R:=by have:=(List.getElem?_eq_some_iff.1 a2).1; rwa [cB] at this
   rw [aKw hi hj hkR] at a1; injection a1 with a1; subst a1
   rw [cW hkR] at a2; injection a2 with a2; subst a2
   exact ⟨(n2 k hkR).symm,rfl,rfl,rfl,hsome _ (by omega)⟩
  ·rw [n2 t ht,ho _ (by omega) (by have:=hk t ht; omega)]
   obtain ⟨v,hv,_⟩:=hs.m.get (hk t ht)
   rw [aLv (v:=v) (by rw [aPw hs.m hi hj ht]; exact hv)] at h
   injection h with h; subst h
   exact ⟨_,aLv hv,rI _ _⟩
  ·rw [n1,h2]
   rw [aSg hs'] at h
   injection h with h; subst h
   refine ⟨_,rfl,dV.2 ⟨rfl,dZ.2 ⟨by rw [aKv hi hj,cB],fun k x y a1 a2=>?_⟩⟩⟩
   have hkR:k<R:=by have:=(List.getElem?_eq_some_iff.1 a2).1; rwa [cB] at this
   rw [aKw hi hj hkR] at a1; injection a1 with a1; subst a1
   rw [cW hkR] at a2; injection a2 with a2; subst a2
   exact ⟨(n3 k hkR).symm,rfl,rfl,rfl,hsome _ (by omega)⟩
  ·rw [n3 t ht,ho _ (by have:=hk t ht; omega) (by omega)]
   obtain ⟨v,hv,_⟩:=hs.u.get (hk t ht)
   rw [aLu hs' (v:=v) (by rw [aPw hs.u hi hj ht]; exact hv)] at h
   injection h with h; subst h
   exact ⟨_,aLu hs hv,rI _ _⟩
  ·rw [n4 id hbig,ho id (by omega) (by omega)]
   have hmem:o'∈mB R V (2 * R+3):=by
    obtain ⟨k,rfl⟩:∃ k,id=k+(2 * R+3):=⟨id - (2 * R+3),by omega⟩
    unfold aH at h
    rw [aPe] at h
    have l2:(wR0 R c::(mB c (swR R c M i j) 1++mB R (swR R R U i j) (R+2))).length=2 * R+3:=by rw [List.length_cons,List.length_append,cA,cA,hs'.m.len,hs'.u.len]; omega
    unfold fS at h
    rw [if_neg (by omega),List.append_assoc,Nat.sub_zero,aOz l2,List.append_nil] at h
    exact List.mem_of_getElem? h
   have eqV:aH R c M U V [] id=aH R c (swR R c M i j) (swR R R U i j) V [] id:=by
    unfold aH
    rw [aPe,aPe]
    obtain ⟨k,rfl⟩:∃ k,id=k+(2 * R+3):=⟨id - (2 * R+3),by omega⟩
    have l1:(wR0 R c::(mB c M 1++mB R U (R+2))).length=2 * R+3:=by rw [List.length_cons,List.length_append,cA,cA,hs.m.len,hs.u.len]; omega
    have l2:(wR0 R c::(mB c (swR R c M i j) 1++mB R (swR R R U i j) (R+2))).length=2 * R+3:=by rw [List.length_cons,List.length_append,cA,cA,hs'.m.len,hs'.u.len]; omega
    unfold fS
    rw [if_neg (by omega),if_neg (by omega),List.append_assoc,List.append_assoc,Nat.sub_zero,aOz l1,aOz l2]
   rw [eqV,h]
   refine ⟨o',rfl,yL (tC (a:=2 * R+3) (n:=3 * R+4) (by omega) (by rw [hs.v.len]; omega) o' hmem) fun id g1 g2=>⟨(n4 id g1).symm,hsome id (by show _<_+0; omega)⟩⟩
 ·have inv:∀ id,id<3 * R+4→swN R i j (swN R i j id)=id:=fun id h=>by
   rcases cases5 id h with rfl | rfl | ⟨t,ht,rfl⟩ | rfl | ⟨t,ht,rfl⟩ | hbig
   ·rw [n0 0 (by omega),n0 0 (by omega)]
   ·rw [n0 1 (by omega),n0 1 (by omega)]
   ·rw [n2 t ht,n2 _ (hk t ht),aPv]
   ·rw [n1,n1]
   ·rw [n3 t ht,n3 _ (hk t ht),aPv]
   ·rw [n4 id hbig,n4 id hbig]
  rw [← inv id (hge id g1),← inv id' (hge id' g2)]
  exact congrArg _ e
end Go.Am
end

section
set_option linter.unusedVariables false
set_option linter.unusedSimpArgs false
open List (map_map mapM_map)
open Go Go.Am Go.Proofs
namespace Go.Am
set_option maxHeartbeats 1000000 in
set_option maxRecDepth 10000 in
theorem aQb {R c i j:Nat} {M U V:List (List Int)} (hs:WS R c M U V) (hR:R≤1000) (hc:c≤1000) (hi:i<R) (hj:j<R) :
  vQ Tryz.prog 173 (.ptr 0 0) (wR0 R c) (wH R c M U V) [.i .i64 (i:Int),.i .i64 (j:Int)] (wR0 R c) (wH R c (swR R c M i j) (swR R R U i j) (swV R V i j)) (.tp []):=by
 refine vX (N:=123) aF Tryz.func173 rfl rfl rfl rfl (by kernel_rfl) (by kernel_rfl) (by simp) ?_
 have hl:(wH R c M U V).length=3 * R+3:=fL hs _ _ _
 have hHr:aH R c M U V [] 0=some (.cells 212 [.d (.i .i64 (R:Int)),.d (.i .i64 (c:Int)),.own 1 0 R 1,.d (.i .i64 (R:Int)),.d (.i .i64 (R:Int)),.own (R+2) 0 R 1,.d (.i .i64 (R:Int)),.d (.i .i64 (R:Int)),.own (2 * R+3) 0 R 1]):=rfl
 have hHh:aH R c M U V [] 1=some (.cells 112 (hdr c R 2)):=aSh hs
 have hHu:aH R c M U V [] (R+2)=some (.cells 112 (hdr R R (R+3))):=aSg hs
 have hgi:=cW (c:=c) (b:=2) hi
 have hgj:=cW (c:=c) (b:=2) hj
 have hui:=cW (c:=R) (b:=R+3) hi
 have huj:=cW (c:=R) (b:=R+3) hj
 have hgl:=cB c R 2
 have hul:=cB R R (R+3)
 obtain ⟨m1,hm1⟩:∃ m1,lay (hdr c R 2) i [.own (j+2) 0 c 2]=m1:=⟨_,rfl⟩
 obtain ⟨m2,hm2⟩:∃ m2,lay m1 j [.own (i+2) 0 c 2]=m2:=⟨_,rfl⟩
 obtain ⟨u1,hu1⟩:∃ u1,lay (hdr R R (R+3)) i [.own (j+(R+3)) 0 R 2]=u1:=⟨_,rfl⟩
 obtain ⟨u2,hu2⟩:∃ u2,lay u1 j [.own (i+(R+3)) 0 R 2]=u2:=⟨_,rfl⟩
 have hm1l:m1.length=R:=by rw [← hm1,gK (by rw [cB]; exact hi),cB]
 have hu1l:u1.length=R:=by rw [← hu1,gK (by rw [cB]; exact hi),cB]
 have hm3:m2=aKx c R 2 i j:=by rw [← hm2,← hm1]; rfl
 have hu3:u2=aKx R R (R+3) i j:=by rw [← hu2,← hu1]; rfl
 have e1:R+2≠1:=by omega
 have e2:∀ h:i<(hdr c R 2).length,(hdr c R 2)[i]'h=.own (i+2) 0 c 2:=fun h=>Option.some.inj ((List.getElem?_eq_getElem h).symm.trans hgi)
 have e3:∀ h:j<(hdr c R 2).length,(hdr c R 2)[j]'h=.own (j+2) 0 c 2:=fun h=>Option.some.inj ((List.getElem?_eq_getElem h).symm.trans hgj)
 have e4:∀ h:i<(hdr R R (R+3)).length,(hdr R R (R+3))[i]'h=.own (i+(R+3)) 0 R 2:=fun h=>Option.some.inj ((List.getElem?_eq_getElem h).symm.trans hui)
 have e5:∀ h:j<(hdr R R (R+3)).length,(hdr R R (R+3))[j]'h=.own (j+(R+3)) 0 R 2:=fun h=>Option.some.inj ((List.getElem?_eq_getElem h).symm.trans huj)
 have hst:StT (.ptr 0 0) (wR0 R c) (wH R c M U V) [.i .i64 (i:Int),.i .i64 (j:Int)] 123=⟨(StT (.ptr 0 0) (wR0 R c) (wH R c M U V) [.i .i64 (i:Int),.i .i64 (j:Int)] 123).Γ,aH R c M U V [],3 * R+4⟩:=by
  rw [← bEf]; unfold StT; rw [hl]
 have hself:=fun id o=>eQ (x:=[]) hs (fun o ho=>by cases ho) (H:=aH R c M U V []) (id:=id) (o:=o)
 rw [hst]
 clear hst
 obtain ⟨H,hHg⟩:∃ H,aH R c M U V []=H:=⟨_,rfl⟩
 obtain ⟨cellsM,hcM⟩:∃ l,hdr c R 2=l:=⟨_,rfl⟩
 obtain ⟨cellsU,hcU⟩:∃ l,hdr R R (R+3)=l:=⟨_,rfl⟩
 rw [hHg,hcM] at hHh
 rw [hHg,hcU] at hHu
 rw [hHg] at hHr ⊢
 simp only [hcM] at hgi hgj hgl hm1 e2 e3
 simp only [hcU] at hui huj hul hu1 e4 e5
 have hi1:i+1≤R:=hi
 have hj1:j+1≤R:=hj
 simp [-map_map,-mapM_map,↓KW,StT,hi1,hj1,hHr,hHh,hHu,hgi,hgj,hui,huj,hgl,hul,hm1,hm2,hu1,hu2,hm1l,hu1l,e1,e2,e3,e4,e5,hi,hj]
 have hs':WS R c (swR R c M i j) (swR R R U i j) V:=⟨iA _ _ _,iA _ _ _,hs.v⟩
 refine aU (fun y:Nat × List (List Int)=>y.1≤R∧Sh R R y.2∧∀ r t,r<R→t<R→ent y.2 r t=swC V i j y.1 r t) (fun y=>⟨iC [(0,.ptr 0 0),(1,.d (.i .i64 (i:Int))),(2,.d (.i .i64 (j:Int))),(7,.d (.i .i64 (y.1:Int)))],aH R c (swR R c M i j) (swR R R U i j) y.2 [],3 * R+4⟩) (fun y=>R - y.1)
  (0,V) ⟨Nat.zero_le _,hs.v,fun r t hr ht=>by unfold swC; rw [if_neg (by omega)]⟩ ?_ ?_
 ·refine bPn (n:=3 * R+3) hs hi hj ?_ ?_ (fun id h1 h2=>?_) ?_
  ·simp [upd,hm3]
  ·simp [upd,hu3]
  ·simp only [upd]
   rw [if_neg h2,if_neg h2,if_neg h1,if_neg h1,hHg]
  ·have g0:=dG (x:=[]) hs' (id:=0) (by omega)
   have g1:swN R i j 0=0:=by unfold swN; rw [if_neg (by omega),if_neg (by omega)]
   simp [-map_map,upd,aT,Γ0,g0,g1]
 ·rintro ⟨s,V1⟩ ⟨hsb,hM1,hME⟩
  simp only at hsb hM1 hME
  have hm:(swR R c M i j)=(swR R c M i j):=rfl
  generalize hMg:swR R c M i j=M1 at *
  generalize hUg:swR R R U i j=U1 at *
  have hs0:WS R c M1 U1 V1:=⟨hs'.m,hs'.u,hM1⟩
  have hHr:aH R c M1 U1 V1 [] 0=some (.cells 212 [.d (.i .i64 (R:Int)),.d (.i .i64 (c:Int)),.own 1 0 R 1,.d (.i .i64 (R:Int)),.d (.i .i64 (R:Int)),.own (R+2) 0 R 1,.d (.i .i64 (R:Int)),.d (.i .i64 (R:Int)),.own (2 * R+3) 0 R 1]):=rfl
  by_cases hgo:s<R
  ·have q1:(s:Int)<R:=by omega
   have hw:IntKind.i64.wrap ((s:Int)+1)=(s:Int)+1:=aS (by omega) (by omega)
   have hHh:aH R c M1 U1 V1 [] (2 * R+3)=some (.cells 112 (hdr R R (2 * R+4))):=bEg hs0
   obtain ⟨vs,hvs,hvls,hves⟩:=hM1.get hgo
   have hHs:aH R c M1 U1 V1 [] (s+(2 * R+4))=some (.cells 69 ((vcs vs).map .d)):=bEe hs0 hvs
   have hgs:=cW (c:=R) (b:=(2 * R+4)) hgo
   have hggs:∀ h:s<(hdr R R (2 * R+4)).length,(hdr R R (2 * R+4))[s]'h=.own (s+(2 * R+4)) 0 R 2:=fun h=>Option.some.inj ((List.getElem?_eq_getElem h).symm.trans hgs)
   have hvcs:=fI vs
   rw [hvls] at hvcs
   have hbi:i * 2+2≤R * 2:=by omega
   have hbj:j * 2+2≤R * 2:=by omega
   obtain ⟨z0,hz0⟩:∃ z,ent V1 s i=z:=⟨_,rfl⟩
   obtain ⟨z1,hz1⟩:∃ z,ent V1 s j=z:=⟨_,rfl⟩
   have hrd0:List.take 2 (List.drop (i * 2) ((vcs vs).map AV.d))=[.d (.b (decide (z0<0))),.d (aG (aV z0.natAbs))]:=by
    rw [← hz0,← hves i,← List.map_drop,← List.map_take,fV (z:=vs.getD i 0) (by rw [List.getD_eq_getElem?_getD,List.getElem?_eq_getElem (by omega)]; rfl)]; rfl
   have hrd1:List.take 2 (List.drop (j * 2) ((vcs vs).map AV.d))=[.d (.b (decide (z1<0))),.d (aG (aV z1.natAbs))]:=by
    rw [← hz1,← hves j,← List.map_drop,← List.map_take,fV (z:=vs.getD j 0) (by rw [List.getD_eq_getElem?_getD,List.getElem?_eq_getElem (by omega)]; rfl)]; rfl
   obtain ⟨vs1,hvs1⟩:∃ v,vs.set i z1=v:=⟨_,rfl⟩
   have hlay:=kA (v:=vs) z1 (j:=i) (by rw [hvls]; omega)
   rw [hvs1] at hlay
   have hvls1:vs1.length=R:=by rw [← hvs1,List.length_set]; exact hvls
   have hvcs1:=fI vs1
   rw [hvls1] at hvcs1
   have hlay1:=kA (v:=vs1) z0 (j:=j) (by rw [hvls1]; omega)
   have hM2:Sh R R (V1.set s vs1):=by rw [← hvs1]; exact fR hM1 hvs
   have hvs2:(V1.set s vs1)[s]? = some vs1:=List.getElem?_set_self (by rw [hM1.len]; exact hgo)
   have hM3:Sh R R ((V1.set s vs1).set s (vs1.set j z0)):=fR hM2 hvs2
   have hs1:WS R c M1 U1 ((V1.set s vs1).set s (vs1.set j z0)):=⟨hs'.m,hs'.u,hM3⟩
   have hs2:WS R c M1 U1 (V1.set s vs1):=⟨hs'.m,hs'.u,hM2⟩
   have hupd:upd (aH R c M1 U1 V1 []) (s+(2 * R+4)) (some (.cells 69 ((vcs vs1).map .d)))=aH R c M1 U1 (V1.set s vs1) []:=zD hs0 hgo
   have hupd2:upd (aH R c M1 U1 (V1.set s vs1) []) (s+(2 * R+4)) (some (.cells 69 ((vcs (vs1.set j z0)).map .d)))=aH R c M1 U1 ((V1.set s vs1).set s (vs1.set j z0)) []:=zD hs2 hgo
   have hgl:=cB R R (2 * R+4)
   have k1:s+(2 * R+4)≠3 * R+4:=by omega
   have k2:2 * R+3≠3 * R+4:=by omega
   have k3:2 * R+3≠s+(2 * R+4):=by omega
   have k4:3 * R+4≠s+(2 * R+4):=by omega
   have k1':¬ s+2 * R=3 * R:=by omega
   have k2':¬ 2 * R=3 * R+1:=by omega
   have k3':¬ 2 * R=s+(2 * R+1):=by omega
   have k4':¬ 3 * R=s+2 * R:=by omega
   obtain ⟨H,hHg⟩:∃ H,aH R c M1 U1 V1 []=H:=⟨_,rfl⟩
   obtain ⟨cells,hc⟩:∃ l,hdr R R (2 * R+4)=l:=⟨_,rfl⟩
   rw [hHg] at hHr hHh hHs hupd ⊢
   simp only [hc] at hHh hgs hggs hgl
   simp [-map_map,-mapM_map,↓KW,q1,hHr,hHh,hHs,hgs,hggs,hvcs,hvcs1,hi,hj,hbi,hbj,hrd0,hrd1,hlay,hlay1,hgl,hgo,hw,k1,k2,k3,k4,k1',k2',k3',k4',aD,aJ,aP,bH,aX]
   refine aK (s+1,(V1.set s vs1).set s (vs1.set j z0)) ⟨hgo,hM3,fun r t hr ht=>?_⟩ (Nat.sub_lt_sub_left hgo (Nat.lt_succ_self _)) ?_
   ·have a1:=kZ (i:=s) (j:=i) (z:=z1) hM1 hgo hi hvs r t
    rw [hvs1] at a1
    rw [kZ hM2 hgo hj hvs2,a1,hME r t hr ht,← hz0,← hz1,hME s i hgo hi,hME s j hgo hj]
    unfold swC swp
    by_cases e:r=s
    ·subst e
     simp only [true_and,Nat.lt_irrefl,if_false,Nat.lt_succ_self,if_true]
     by_cases a:t=j
     ·subst a
      rw [if_pos rfl]
      by_cases b:t=i
      ·rw [if_pos b,b]
      ·rw [if_neg b,if_pos rfl]
     ·rw [if_neg a]
      by_cases b:t=i
      ·rw [if_pos b,if_pos b]
      ·rw [if_neg b,if_neg b,if_neg a]
    ·simp only [e,false_and,if_false]
     by_cases g:r<s
     ·rw [if_pos g,if_pos (show r<s+1 by omega)]
     ·rw [if_neg g,if_neg (show ¬ r<s+1 by omega)]
   ·refine ⟨_,jH ?_ (fun id o' ho=>?_) (fun id hid=>gC hs1 hid) (by simp)⟩
    ·have g0:=dG (x:=[]) hs1 (id:=0) (by omega)
     rw [List.set_set] at g0
     simp [-map_map,upd,aT,Γ0,g0]
    ·have hlt:id<3 * R+4:=by
      have:=(aGu (b:=0) (l:=aL R c M1 U1 ((V1.set s vs1).set s (vs1.set j z0)) []) (id:=id) (by unfold aH at ho; rw [ho]; rfl)).2
      rw [aCd hs1] at this; simpa using this
     refine ⟨o',?_,eQ hs1 (fun o ho=>by cases ho) ho⟩
     rw [← hupd2,← hupd] at ho
     simp only [upd] at ho ⊢
     by_cases e:id=s+(2 * R+4)
     ·rw [if_pos e] at ho ⊢; exact ho
     ·rw [if_neg e,if_neg e] at ho
      rw [if_neg e,if_neg e,if_neg (by omega),if_neg (by omega)]; exact ho
  ·have q1:¬ (s:Int)<R:=by omega
   have es:s=R:=by omega
   have hNe:V1=swV R V i j:=pO hM1 fun r t hr ht=>by rw [hME r t hr ht,es]
   obtain ⟨H,hHg⟩:∃ H,aH R c M1 U1 V1 []=H:=⟨_,rfl⟩
   rw [hHg] at hHr
   rw [← hNe,hHg]
   simp [-map_map,-mapM_map,↓KW,q1,hHr]
   rw [← hHg]
   exact aPf hs0 (Nat.succ_ne_zero _)
end Go.Am
end

section
set_option linter.unusedVariables false
set_option linter.unusedSimpArgs false
open List (map_map mapM_map)
open Go Go.Am Go.Proofs
namespace Go.Am
/-! What a relation says of its first state -/
theorem Eu.ok {R c col top i:Nat} {w w':W3} (h:Eu R c col top i w w'):Ok R c w:=by cases h <;> assumption
theorem Ei.ok {R c col top i:Nat} {w w':W3} (h:Ei R c col top i w w'):Ok R c w:=by
 cases h with
 | done _ _ ok _=>exact ok
 | go _ _ _ _ _ h1 _=>exact h1.ok
theorem Rd.ok {R c col top i:Nat} {w w':W3} (h:Rd R c col top i w w'):Ok R c w:=by cases h <;> assumption
theorem Fo.ok {R c col top:Nat} {w w':W3} (h:Fo R c col top w w'):Ok R c w:=by
 cases h with
 | done _ _ _ ok _=>exact ok
 | zero _ _ _ _ _ _ _ h3 _ _=>exact h3.ok
 | piv _ _ _ _ _ _ _ _ h3 _ _ _=>exact h3.ok
theorem Eu.end {R c col top i:Nat} {w w':W3} (h:Eu R c col top i w w') (h0:ent w.M i col=0):w=w':=by
 cases h with
 | done _ _ _=>rfl
 | go _ _ _ h1 _=>exact absurd h0 h1
theorem Eu.next {R c col top i:Nat} {w w':W3} (h:Eu R c col top i w w') (h0:ent w.M i col≠0):Eu R c col top i (euS R c col top i w) w':=by
 cases h with
 | done _ _ h1=>exact absurd h1 h0
 | go _ _ _ _ h2=>exact h2
theorem Eu.less {R c col top i:Nat} {w:W3} (hcol:col<c) (hti:top<i) (hiR:i<R) (hy:ent w.M i col≠0):(ent (euS R c col top i w).M i col).natAbs<(ent w.M i col).natAbs:=by
 have hy1:ent (euS R c col top i w).M i col=ent w.M top col % ent w.M i col:=by
  rw [aLe (by omega) (by omega) hiR hiR hcol,if_neg (by omega),if_pos rfl]
  have:=Int.mul_ediv_add_emod (ent w.M top col) (ent w.M i col)
  rw [Int.mul_comm (ent w.M top col / _)]; omega
 have hlt:=Int.emod_lt (ent w.M top col) hy
 have hnn:=Int.emod_nonneg (ent w.M top col) hy
 rw [hy1]; omega
theorem Ei.end {R c col top i:Nat} {w w':W3} (h:Ei R c col top i w w') (h0:¬ i<R):w=w':=by
 cases h with
 | done _ _ _ _=>rfl
 | go _ _ _ _ h1 _ _=>exact absurd h1 h0
theorem Ei.next {R c col top i:Nat} {w w':W3} (h:Ei R c col top i w w') (h0:i<R):∃ w1,Eu R c col top i w w1∧Ei R c col top (i+1) w1 w':=by
 cases h with
 | done _ _ _ h1=>omega
 | go _ _ w1 _ _ h1 h2=>exact ⟨w1,h1,h2⟩
theorem Rd.end {R c col top i:Nat} {w w':W3} (h:Rd R c col top i w w') (h0:¬ i<top):w=w':=by
 cases h with
 | done _ _ _ _=>rfl
 | go _ _ _ _ h1 _=>exact absurd h1 h0
theorem Rd.next {R c col top i:Nat} {w w':W3} (h:Rd R c col top i w w') (h0:i<top):Rd R c col top (i+1) (rdS R c col top i w) w':=by
 cases h with
 | done _ _ _ h1=>omega
 | go _ _ _ _ _ h2=>exact h2
theorem Fo.end {R c col top:Nat} {w w':W3} (h:Fo R c col top w w') (h0:¬ (col<c∧top<R)):w=w':=by
 cases h with
 | done _ _ _ _ _=>rfl
 | zero _ _ _ _ _ h1 h2 _ _ _=>exact absurd ⟨h1,h2⟩ h0
 | piv _ _ _ _ _ _ h1 h2 _ _ _ _=>exact absurd ⟨h1,h2⟩ h0
theorem Fo.next {R c col top:Nat} {w w':W3} (h:Fo R c col top w w') (h0:col<c∧top<R):∃ w1,Ei R c col top (top+1) w w1∧((ent w1.M top col=0∧Fo R c (col+1) top w1 w')∨(ent w1.M top col≠0∧∃ w2,Rd R c col top 0 (ngS R c col top w1) w2∧Fo R c (col+1) (top+1) w2 w')):=by
 cases h with
 | done _ _ _ _ h1=>exact absurd h0 h1
 | zero _ _ _ w1 _ _ _ h3 h4 h5=>exact ⟨w1,h3,.inl ⟨h4,h5⟩⟩
 | piv _ _ _ w1 w2 _ _ _ h3 h4 h5 h6=>exact ⟨w1,h3,.inr ⟨h4,w2,h5,h6⟩⟩
theorem Rd.col {R c col top i:Nat} {w w':W3} (hcol:col<c) (hR:top<R) (h:Rd R c col top i w w'):∀ r,top≤r→r<R→ent w'.M r col=ent w.M r col:=by
 induction h with
 | done _ _ _ _=>intro r _ _; rfl
 | go i w w2 _ h1 _ ih =>
  intro r h2 h3
  rw [ih r h2 h3]
  show ent (oR R c w.M i top _) r col=_
  rw [fZ h3 hcol,if_neg (by omega)]
theorem fE {z:Int} (h:Sd z):Sy z:=Nat.le_trans h (by decide)
/-! The heap -/
def bVb:HO:=.cells 189 [.d (.i .i64 0),.d (.i .i64 0),.nil,.d (.i .i64 0),.d (.i .i64 0),.nil,.d (.i .i64 0),.d (.i .i64 0),.nil]
def aLd (R c:Nat) (A:List (List Int)):List HO:=[.cells 155 [.d (.i .i64 (R:Int)),.d (.i .i64 (c:Int)),.d (.sl (A.map fun v=>[cH v]))],bVb]
theorem bBv (R c:Nat) (A:List (List Int)):∀ o∈aLd R c A,rfO 0 0 o=true:=by
 intro o ho
 simp only [aLd,List.mem_cons,List.not_mem_nil,or_false] at ho
 rcases ho with rfl | rfl <;> rfl
theorem HF.upd {H:Nat→Option HO} {pre:List HO} {p q r R c n:Nat} {M U V:List (List Int)} {x:Option HO} (h:HF H pre p q r R c M U V) (hs:WS R c M U V) (h0:pre.length+1<p) (h2:p+R<q) (h3:q+R<r) (hn:r+R<n):HF (upd H n x) pre p q r R c M U V:=by
 have hl:∀ {c' m:Nat} {N:List (List Int)} {i:Nat} {o:HO},N.length=R→(mB c' N m)[i]? = some o→i<R+1:=fun hN h=>by
  have:=(List.getElem?_eq_some_iff.1 h).1; rwa [cA,hN] at this
 refine ⟨⟨?_,fun i o ho=>?_,fun i o ho=>?_,fun i o ho=>?_⟩,fun i o ho=>?_⟩
 ·rw [cU _ _ (by omega)]; exact h.w.root
 ·have:=hl hs.m.len ho
  rw [cU _ _ (by omega)]; exact h.w.m i o ho
 ·have:=hl hs.u.len ho
  rw [cU _ _ (by omega)]; exact h.w.u i o ho
 ·have:=hl hs.v.len ho
  rw [cU _ _ (by omega)]; exact h.w.v i o ho
 ·have:=(List.getElem?_eq_some_iff.1 ho).1
  rw [cU _ _ (by omega)]; exact h.pre i o ho
theorem aBx {pre:List HO} {R c:Nat} {M U V:List (List Int)} {H:Nat→Option HO} (hs:WS R c M U V) (hH:jQ pre R c M U V=H):∃ p q r,pre.length+1<p∧p+R<q∧q+R<r∧r+R<pre.length+3 * R+5∧HF H pre p q r R c M U V :=
 ⟨_,_,_,by omega,by omega,by omega,by omega,hH ▸ aFo hs⟩
theorem fC {pre:List HO} {p q r R c:Nat} {M U V:List (List Int)} (hpl:pre.length=2) (hs:WS R c M U V):aFm 3 p q r R 1=1∧aFm 3 p q r R 2=2∧aFm 3 p q r R 3=3∧(jQ pre R c M U V 1).isSome=true∧(jQ pre R c M U V 2).isSome=true∧(jQ pre R c M U V 3).isSome=true:=by
 have hl:=aPq (pre:=pre) hs
 exact ⟨rfl,rfl,rfl,jN (by omega) (by rw [hl]; omega),jN (by omega) (by rw [hl]; omega),jN (by omega) (by rw [hl]; omega)⟩
theorem HF.root2 {H:Nat→Option HO} {pre:List HO} {p q r R c:Nat} {M U V:List (List Int)} (h:HF H pre p q r R c M U V) (hpl:pre.length=2) :
  H 3=some (.cells 212 [.d (.i .i64 (R:Int)),.d (.i .i64 (c:Int)),.own p 0 R 1,.d (.i .i64 (R:Int)),.d (.i .i64 (R:Int)),.own q 0 R 1,.d (.i .i64 (R:Int)),.d (.i .i64 (R:Int)),.own r 0 R 1]):=by
 have:=h.w.root
 rwa [hpl] at this
structure Rdg (H:Nat→Option HO) (p R c i s:Nat) (z:Int):Prop where
 hd:∃ v:List Int,H (i+(p+1))=some (.cells 69 ((vcs v).map .d))∧(vcs v).length=c * 2∧List.take 2 (List.drop (s * 2) ((vcs v).map AV.d))=[.d (.b (decide (z<0))),.d (aG (aV z.natAbs))]
theorem HF.rd {H:Nat→Option HO} {pre:List HO} {p q r R c i s:Nat} {M U V:List (List Int)} (h:HF H pre p q r R c M U V) (hs:WS R c M U V) (hi:i<R) (hc:s<c):Rdg H p R c i s (ent M i s):=by
 obtain ⟨v,hv,hl,he⟩:=hs.m.get hi
 have h2:=fI v
 refine ⟨v,h.w.rowM hv,by rw [h2,hl],?_⟩
 rw [← he s,← List.map_drop,← List.map_take,fV (z:=v.getD s 0) (by rw [List.getD_eq_getElem?_getD,List.getElem?_eq_getElem (by omega)]; rfl)]; rfl
theorem rO {P:Program} {dst:Option Tmp} {ty:TypeId} {pos:String} {after:Array Edge} {guard:Option (Nat × Bool)} {σ:St} {k:St→List Nat→Prop} {f:FuncId} {x:Operand} {rest:List Operand} {ts:Array TypeId}
  {d:Dm ((⟨dst,.call ⟨.value (.func f),(x::rest).toArray,ts⟩,ty,pos,after,guard⟩:Oper),k)} {pre:List HO} {p q r R c:Nat} {w w':W3} {ds:List D} {K:St→Prop} {dm:Dm K} (hkk:∀ σ' con',k σ' con'=aDd σ' con' K dm) (hm:bE P f=true) (hx:oev σ.Γ x=.ptr (pre.length+1) 0)
  (hF:HF σ.H pre p q r R c w.M w.U w.V) (hpre:∀ o∈pre,rfO 0 0 o=true) (hs:w.sh R c) (h1:pre.length+1<p) (h2:p+R<q) (h3:q+R<r) (h4:r+R<σ.n) (hvis:gD σ.H (rest.map (oev σ.Γ))=[]) (hfr:gN σ.H (rest.map (oev σ.Γ))=some ds)
  (hs':w'.sh R c) (hsp:vQ P f (.ptr 0 0) (wR0 R c) (wH R c w.M w.U w.V) ds (wR0 R c) (wH R c w'.M w'.U w'.V) (.tp []))
  (hk:∀ (l:List Nat) (H':Nat→Option HO) (p' q' r' n':Nat),(∀ id,id≤pre.length+1→¬ id∈l)→pre.length+1<p'→p'+R<q'→q'+R<r'→r'+R<n'→HF H' pre p' q' r' R c w'.M w'.U w'.V→K ⟨fun t=>jI l (bO σ.Γ dst (inj (.tp [])) t),H',n'⟩):O1d P ⟨dst,.call ⟨.value (.func f),(x::rest).toArray,ts⟩,ty,pos,after,guard⟩ σ [] k d:=by
 refine aYz (b:=pre.length+1) hm (by omega) hx hF.w hs h1 h2 h3 hvis hfr hs' hsp ?_
 rw [hkk,bJa _ (bNg _ _),List.append_nil]
 refine hk _ _ σ.n (σ.n+R+1) (σ.n+2 * R+2) _ (fun id hid hm=>?_) (by omega) (by omega) (by omega) (by simp only; omega) (HF.call hF hs' h1 h2 h3 h4 hpre)
 have:=bKp h1 h2 h3 h4 hm
 omega
theorem aGq {H:Nat→Option HO} {R c p:Nat} {M:List (List Int)} (k:Nat) (hM:Sh R c M) (h:∀ (i:Nat) o,(mB c M p)[i]? = some o→H (i+p)=some o):frz H (k+3) (.own p 0 R 1)=some (.sl (M.map fun v=>[cH v])):=by
 have h0:H p=some (.cells 112 (hdr c R (p+1))):=by
  have:=h 0 _ rfl
  rwa [Nat.zero_add,hM.len] at this
 rw [bBr,h0]
 simp only [Nat.zero_add,Nat.mul_one,cB,Nat.zero_mul,List.drop_zero]
 rw [if_pos ⟨Nat.le_refl _,by decide⟩,List.take_of_length_le (by rw [cB]; exact Nat.le_refl _)]
 rw [mapM_some (frz H (k+2)) (fun i=>cH (M.getD i [])) _ fun i x hx=>?_]
 ·simp only [Option.map_some,cB]
  congr 2
  unfold chunk
  refine List.ext_getElem (by simp [hM.len]) fun i a1 a2=>?_
  have hi:i<R:=by simpa using a1
  have hiM:i<M.length:=by rw [hM.len]; exact hi
  simp only [List.getElem_map,List.getElem_range,Nat.mul_one]
  rw [List.drop_eq_getElem_cons (by simpa using hi)]
  simp only [List.getElem_map,List.getElem_range,List.take_succ_cons,List.take_zero]
  rw [List.getD_eq_getElem?_getD,List.getElem?_eq_getElem hiM]; rfl
 ·have hi:i<R:=by have:=(List.getElem?_eq_some_iff.1 hx).1; rwa [cB] at this
  rw [cW hi] at hx; injection hx with hx; subst hx
  have hiM:i<M.length:=by rw [hM.len]; exact hi
  rw [List.getD_eq_getElem?_getD,List.getElem?_eq_getElem hiM,Option.getD_some]
  have:=h (i+1) (xV M[i]) (by simp only [mB,List.getElem?_cons_succ,List.getElem?_map,List.getElem?_eq_getElem hiM,Option.map_some])
  exact bBq k (by rwa [show i+1+p=i+(p+1) by omega] at this) (hM.row _ (List.getElem_mem hiM))
/-! A Hermite decomposition as data -/
def aBq (R c:Nat) (w:W3):D:=.ag [.i .i64 (R:Int),.i .i64 (c:Int),.sl (w.M.map fun v=>[cH v]),.i .i64 (R:Int),.i .i64 (R:Int),.sl (w.U.map fun v=>[cH v]),.i .i64 (R:Int),.i .i64 (R:Int),.sl (w.V.map fun v=>[cH v])]
theorem aIy (x y:Int) (hy:y≠0) (hx:Sd x) (hyl:Sd y):Spec Tryz.prog 175 [encZ x,encZ y] (encZ (x / y)):=by
 refine aY (N:=16) aF Tryz.func175 rfl rfl rfl (by kernel_rfl) (by kernel_rfl) (by simp) ?_
 have h:=aDo x y hy hx hyl
 simp [-map_map,-mapM_map,↓KW,bI,aD,aJ,aP,bH,aX]
 refine aA (ds:=[encZ x,encZ y]) (by rfl) h ?_
 rw [bI,bI]
 simp [-map_map,-mapM_map,↓KW,bI,aD,aJ,aP,bH,aX]
end Go.Am
end

section
set_option linter.unusedVariables false
set_option linter.unusedSimpArgs false
open List (map_map mapM_map)
open Go Go.Am Go.Proofs
namespace Go.Am
set_option maxHeartbeats 2000000 in
set_option maxRecDepth 10000 in
theorem aQd {R c:Nat} {A:List (List Int)} {wf:W3} (hA:Sh R c A) (hR:R≤15) (hc:c≤1000) (hAs:∀ v∈A,∀ z∈v,Sz z) (hFo:Fo R c 0 0 ⟨A,idM R,idM R⟩ wf) :
  Spec Tryz.prog 146 [cP R c A] (aBq R c wf):=by
 refine aY (N:=173) aF Tryz.func146 rfl rfl rfl (by kernel_rfl) (by kernel_rfl) (by simp) ?_
 have hst:=aYk hA (by omega) hc hAs
 have hH0:eS (upd (upd (fun _=>none) 1 (some (.cells 155 [.d (.i .i64 (R:Int)),.d (.i .i64 (c:Int)),.d (.sl (A.map fun v=>[cH v]))]))) 2 (some (.cells 189 [.d (.i .i64 0),.d (.i .i64 0),.nil,.d (.i .i64 0),.d (.i .i64 0),.nil,.d (.i .i64 0),.d (.i .i64 0),.nil]))) 3 (sX R c A (idM R) (idM R) 3)=jQ (aLd R c A) R c A (idM R) (idM R):=by
  rw [aRn,zB (n:=3) rfl]
  have e1:(aLd R c A).length=2:=rfl
  unfold jQ wFl sX
  rw [e1,show 3+1=2+2 by omega,show 3+R+2=2+R+3 by omega,show 3+2 * R+3=2+2 * R+4 by omega]; rfl
 have hlo:(sX R c A (idM R) (idM R) 3).length=3 * R+4:=aHr ⟨hA,iA _ _ _,iA _ _ _⟩ 3
 obtain ⟨pre,hpre⟩:∃ l,aLd R c A=l:=⟨_,rfl⟩
 have hpl:pre.length=2:=by rw [← hpre]; rfl
 have hprf:∀ o∈pre,rfO 0 0 o=true:=by rw [← hpre]; exact bBv R c A
 have hp1:pre[0]? = some (.cells 155 [.d (.i .i64 (R:Int)),.d (.i .i64 (c:Int)),.d (.sl (A.map fun v=>[cH v]))]):=by rw [← hpre]; rfl
 have hp2:pre[1]? = some (.cells 189 [.d (.i .i64 0),.d (.i .i64 0),.nil,.d (.i .i64 0),.d (.i .i64 0),.nil,.d (.i .i64 0),.d (.i .i64 0),.nil]):=by rw [← hpre]; rfl
 rw [hpre] at hH0
 obtain ⟨w0,hw0⟩:∃ w:W3,⟨A,idM R,idM R⟩=w:=⟨_,rfl⟩
 have hM0:w0.M=A:=by rw [← hw0]
 have hU0:w0.U=idM R:=by rw [← hw0]
 have hV0:w0.V=idM R:=by rw [← hw0]
 rw [hw0] at hFo
 have hH1:jQ pre R c A (idM R) (idM R)=jQ pre R c w0.M w0.U w0.V:=by rw [hM0,hU0,hV0]
 rw [hH1] at hH0
 simp [-map_map,-mapM_map,↓KW,cP]
 refine iZ [cP R c A] (fun m=>.ptr m 0) (sX R c A (idM R) (idM R)) (by simp) (by simp) (by simp) (by rfl) (by rfl) hst ?_
 simp [-map_map,-mapM_map,↓KW,hH0,hlo]
 refine aU (fun x:Nat × Nat × W3 × (Nat→Option HO)=>Fo R c x.1 x.2.1 x.2.2.1 wf∧x.1≤c∧x.2.1≤R∧jQ pre R c x.2.2.1.M x.2.2.1.U x.2.2.1.V=x.2.2.2) (fun x=>⟨iC [(1,.ptr 1 0),(2,.ptr 2 0),(3,.ptr 3 0),(4,.d (.i .i64 (x.2.1:Int))),(5,.d (.i .i64 (x.1:Int)))],x.2.2.2,3+3 * R+4⟩) (fun x=>c - x.1) (0,0,w0,jQ pre R c w0.M w0.U w0.V) ⟨hFo,Nat.zero_le _,Nat.zero_le _,rfl⟩ ?_ ?_
 ·have hs:=hFo.ok.sh
  obtain ⟨g1,g2,g3,s1,s2,s3⟩:=fC (p:=pre.length+2) (q:=pre.length+R+3) (r:=pre.length+2 * R+4) hpl hs
  refine kP (aFo hs) hs (by omega) (by omega) (by omega) (by omega) hprf ?_
  simp [-map_map,upd,aT,Γ0,g1,g2,g3,s1,s2,s3]
 ·rintro ⟨col,top,w,H⟩ ⟨hf,hcb,htb,hHg⟩
  simp only at hf hcb htb hHg
  have hs:=hf.ok.sh
  refine (aBx (pre:=pre) hs hHg).elim fun p hh=>hh.elim fun q hh=>hh.elim fun r hh=>?_
  have h1:=hh.1
  have h2:=hh.2.1
  have h3:=hh.2.2.1
  have h4:=hh.2.2.2.1
  have hF:=hh.2.2.2.2
  rw [hpl] at h1 h4
  clear hh
  have hH1:H 1=_:=hF.pre 0 _ hp1
  have hH2:H 2=_:=hF.pre 1 _ hp2
  have hH3:=hF.root2 hpl
  by_cases hgo:col<c∧top<R
  ·have q1:(col:Int)<c:=by omega
   have q2:(top:Int)<R:=by omega
   have hw1:IntKind.i64.wrap ((top:Int)+1)=(top:Int)+1:=aS (by omega) (by omega)
   have hw2:IntKind.i64.wrap ((col:Int)+1)=(col:Int)+1:=aS (by omega) (by omega)
   refine (hf.next hgo).elim fun w1 hw=>?_
   have hei:=hw.1
   have hrest:=hw.2
   simp [-map_map,-mapM_map,↓KW,q1,q2,hgo.1,hgo.2,hH1,hw1]
   refine aU (fun x:Nat × W3 × (Nat→Option HO)=>Ei R c col top x.1 x.2.1 w1∧top<x.1∧x.1≤R∧jQ pre R c x.2.1.M x.2.1.U x.2.1.V=x.2.2) (fun x=>⟨iC [(1,.ptr 1 0),(2,.ptr 2 0),(3,.ptr 3 0),(4,.d (.i .i64 (top:Int))),(5,.d (.i .i64 (col:Int))),(6,.d (.i .i64 (x.1:Int)))],x.2.2,3+3 * R+4⟩) (fun x=>R - x.1) (top+1,w,H) ⟨hei,Nat.lt_succ_self _,hgo.2,hHg⟩ ?_ ?_
   ·obtain ⟨g1,g2,g3,s1,s2,s3⟩:=fC (p:=p) (q:=q) (r:=r) hpl hs
    subst hHg
    refine kP hF hs (by omega) (by omega) h2 h3 hprf ?_
    simp [-map_map,upd,aT,Γ0,g1,g2,g3,s1,s2,s3]
   ·clear hei hH1 hH2 hH3 hF hHg h1 h2 h3 h4 hs
    rintro ⟨i,w,H⟩ ⟨hei,hti,hiR,hHg⟩
    simp only at hei hti hiR hHg
    have hs:=hei.ok.sh
    refine (aBx (pre:=pre) hs hHg).elim fun p hh=>hh.elim fun q hh=>hh.elim fun r hh=>?_
    have h1:=hh.1
    have h2:=hh.2.1
    have h3:=hh.2.2.1
    have h4:=hh.2.2.2.1
    have hF:=hh.2.2.2.2
    rw [hpl] at h1 h4
    clear hh
    have hH1:H 1=_:=hF.pre 0 _ hp1
    have hH2:H 2=_:=hF.pre 1 _ hp2
    have hH3:=hF.root2 hpl
    by_cases hi:i<R
    ·have q3:(i:Int)<R:=by omega
     have hw3:IntKind.i64.wrap ((i:Int)+1)=(i:Int)+1:=aS (by omega) (by omega)
     refine (hei.next hi).elim fun w2 hw=>?_
     have heu:=hw.1
     have hei2:=hw.2
     simp [-map_map,-mapM_map,↓KW,q3,hi,hH1]
     refine aU (fun x:W3 × (Nat→Option HO)=>Eu R c col top i x.1 w2∧jQ pre R c x.1.M x.1.U x.1.V=x.2) (fun x=>⟨iC [(1,.ptr 1 0),(2,.ptr 2 0),(3,.ptr 3 0),(4,.d (.i .i64 (top:Int))),(5,.d (.i .i64 (col:Int))),(6,.d (.i .i64 (i:Int)))],x.2,3+3 * R+4⟩) (fun x=>(ent x.1.M i col).natAbs) (w,H) ⟨heu,hHg⟩ ?_ ?_
     ·obtain ⟨g1,g2,g3,s1,s2,s3⟩:=fC (p:=p) (q:=q) (r:=r) hpl hs
      subst hHg
      refine kP hF hs (by omega) (by omega) h2 h3 hprf ?_
      simp [-map_map,upd,aT,Γ0,g1,g2,g3,s1,s2,s3]
     ·clear heu hH1 hH2 hH3 hF hHg h1 h2 h3 h4 hs
      rintro ⟨w,H⟩ ⟨heu,hHg⟩
      simp only at heu hHg
      have ok:=heu.ok
      have hs:=ok.sh
      refine (aBx (pre:=pre) hs hHg).elim fun p hh=>hh.elim fun q hh=>hh.elim fun r hh=>?_
      have h1:=hh.1
      have h2:=hh.2.1
      have h3:=hh.2.2.1
      have h4:=hh.2.2.2.1
      have hF:=hh.2.2.2.2
      rw [hpl] at h1 h4
      clear hh
      have hH3:=hF.root2 hpl
      have hHd:=hF.w.hdrM hs
      have hgi:=cW (c:=c) (b:=p+1) hi
      have hgt:=cW (c:=c) (b:=p+1) hgo.2
      have hgl:=cB c R (p+1)
      refine (show ∃ l,hdr c R (p+1)=l from ⟨_,rfl⟩).elim fun cells hcl=>?_
      rw [hcl] at hHd hgi hgt hgl
      have hggi:∀ h:i<cells.length,cells[i]'h=.own (i+(p+1)) 0 c 2:=fun h=>Option.some.inj ((List.getElem?_eq_getElem h).symm.trans hgi)
      have hggt:∀ h:top<cells.length,cells[top]'h=.own (top+(p+1)) 0 c 2:=fun h=>Option.some.inj ((List.getElem?_eq_getElem h).symm.trans hgt)
      refine (hF.rd hs hi hgo.1).hd.elim fun vi hh=>?_
      have hHi:=hh.1
      have hvi:=hh.2.1
      have hri:=hh.2.2
      clear hh
      refine (hF.rd hs hgo.2 hgo.1).hd.elim fun vt hh=>?_
      have hHt:=hh.1
      have hvt:=hh.2.1
      have hrt:=hh.2.2
      clear hh
      have hbc:col * 2+2≤c * 2:=by omega
      have hg1:=hgo.1
      have hg2:=hgo.2
      have hsgi:=eJ (ent w.M i col)
      have hsgt:=eJ (ent w.M top col)
      refine (show ∃ y,ent w.M i col=y from ⟨_,rfl⟩).elim fun y hy=>?_
      refine (show ∃ x,ent w.M top col=x from ⟨_,rfl⟩).elim fun x hx=>?_
      rw [hy] at hri hsgi
      rw [hx] at hrt hsgt
      by_cases hy0:y=0
      ·have hys:(y.sign != 0)=false:=by simp [hy0]
       have e:=heu.end (hy.trans hy0)
       simp [-map_map,-mapM_map,↓KW,hH3,hHd,hgi,hgt,hgl,hggi,hggt,hHi,hHt,hvi,hvt,hri,hrt,hbc,hg1,hg2,hi,hys,aD,aJ,aP,bH,aX]
       refine aA (ds:=[encZ y]) (by rfl) hsgi ?_
       simp [-map_map,-mapM_map,↓KW,hH3,hHd,hgi,hgt,hgl,hggi,hggt,hHi,hHt,hvi,hvt,hri,hrt,hbc,hg1,hg2,hi,hys,aD,aJ,aP,bH,aX,hw3]
       refine aK (i+1,w,H) ⟨e ▸ hei2,by omega,hi,hHg⟩ (by omega) ?_
       subst hHg
       have e:=fC (p:=p) (q:=q) (r:=r) hpl hs
       refine kP hF hs (by omega) (by omega) h2 h3 hprf ?_
       simp [-map_map,upd,aT,Γ0,e.1,e.2.1,e.2.2.1,e.2.2.2.1,e.2.2.2.2.1,e.2.2.2.2.2]
      ·have hys:(y.sign != 0)=true:=by simp [hy0]
       simp [-map_map,-mapM_map,↓KW,hH3,hHd,hgi,hgt,hgl,hggi,hggt,hHi,hHt,hvi,hvt,hri,hrt,hbc,hg1,hg2,hi,hys,aD,aJ,aP,bH,aX]
       refine aA (ds:=[encZ y]) (by rfl) hsgi ?_
       simp [-map_map,-mapM_map,↓KW,hH3,hHd,hgi,hgt,hgl,hggi,hggt,hHi,hHt,hvi,hvt,hri,hrt,hbc,hg1,hg2,hi,hys,aD,aJ,aP,bH,aX]
       refine aA (ds:=[encZ x]) (by rfl) hsgt ?_
       by_cases hx0:x=0
       ·have hxs:(x.sign != 0)=false:=by simp [hx0]
        have hsw:=aQb hs (by omega) hc hgo.2 hi
        have hS:euS R c col top i w=w.sw R c top i:=by unfold euS euT; rw [if_pos (hx.trans hx0)]
        have heu2:=heu.next (fun h=>hy0 (hy.symm.trans h))
        have hless:=Eu.less (w:=w) hgo.1 hti hi (fun h=>hy0 (hy.symm.trans h))
        rw [hS] at heu2 hless
        simp [-map_map,-mapM_map,↓KW,hH3,hHd,hgi,hgt,hgl,hggi,hggt,hHi,hHt,hvi,hvt,hri,hrt,hbc,hg1,hg2,hi,hys,aD,aJ,aP,bH,aX,hxs]
        refine rO (pre:=pre) (w:=w) (w':=w.sw R c top i) (fun _ _=>by first | rfl | exact nF _ _ _ _ _) (by simp) (by rw [hpl]; rfl) hF hprf hs (by omega) h2 h3 (by simp only; omega) (by rfl) (by rfl) (W3.sw_sh ..) hsw ?_
        intro l H' p' q' r' n' hl g1 g2 g3 g4 hF'
        have hl1:=hl 1 (by omega)
        have hl2:=hl 2 (by omega)
        have hl3:=hl 3 (by omega)
        refine aK (w.sw R c top i,jQ pre R c (w.sw R c top i).M (w.sw R c top i).U (w.sw R c top i).V) ⟨heu2,rfl⟩ hless ?_
        have e:=fC (p:=p') (q:=q') (r:=r') hpl (W3.sw_sh R c w top i)
        refine kP hF' (W3.sw_sh R c w top i) (by omega) (by omega) g2 g3 hprf ?_
        simp [-map_map,upd,aT,Γ0,e.1,e.2.1,e.2.2.1,e.2.2.2.1,e.2.2.2.2.1,e.2.2.2.2.2,hl1,hl2,hl3]
       ·have hxs:(x.sign != 0)=true:=by simp [hx0]
        simp [-map_map,-mapM_map,↓KW,hH3,hHd,hgi,hgt,hgl,hggi,hggt,hHi,hHt,hvi,hvt,hri,hrt,hbc,hg1,hg2,hi,hys,aD,aJ,aP,bH,aX,hxs]
        have hq:=aDo x y hy0 (by rw [← hx]; exact ok.m _ _) (by rw [← hy]; exact ok.m _ _)
        have hqs:Sd (x / y):=Nat.le_trans (dN (Int.natAbs_ediv_le_natAbs x y)) (by rw [← hx]; exact ok.m _ _)
        have hS:euS R c col top i w=(w.add R c top i (-(x / y))).sw R c top i:=by unfold euS euT; rw [if_neg (fun h=>hx0 (hx.symm.trans h)),hx,hy]
        have heu2:=heu.next (fun h=>hy0 (hy.symm.trans h))
        have hless:=Eu.less (w:=w) hgo.1 hti hi (fun h=>hy0 (hy.symm.trans h))
        rw [hS] at heu2 hless
        refine (show ∃ qq,x / y=qq from ⟨_,rfl⟩).elim fun qq hqq=>?_
        refine (show ∃ rr,x % y=rr from ⟨_,rfl⟩).elim fun rr hrr=>?_
        rw [hqq,hrr] at hq
        rw [hqq] at hqs heu2 hless
        have hng:=lT qq (Nat.le_trans hqs (by decide))
        have hsn:Sd (-qq):=by unfold Sd; rw [Int.natAbs_neg]; exact hqs
        refine (show ∃ nq,-qq=nq from ⟨_,rfl⟩).elim fun nq hnq=>?_
        rw [hnq] at hng hsn heu2 hless
        have hs2:(w.add R c top i nq).sh R c:=W3.add_sh ..
        have had:=aAa hs (by omega) hc hgo.2 hi (fE hsn) (fun r t=>fE (ok.m r t)) (fun r t=>fE (ok.u r t)) (fun r t=>fE (ok.v r t))
        have hsw:=aQb hs2 (by omega) hc hgo.2 hi
        refine aA (ds:=[encZ x,encZ y]) (by rfl) hq ?_
        simp [-map_map,-mapM_map,↓KW,bI,hH3,hHd,hgi,hgt,hgl,hggi,hggt,hHi,hHt,hvi,hvt,hri,hrt,hbc,hg1,hg2,hi,hys,aD,aJ,aP,bH,aX]
        refine aA (ds:=[encZ qq]) (by rfl) hng ?_
        simp [-map_map,-mapM_map,↓KW,bI,hH3,hHd,hgi,hgt,hgl,hggi,hggt,hHi,hHt,hvi,hvt,hri,hrt,hbc,hg1,hg2,hi,hys,aD,aJ,aP,bH,aX]
        refine rO (pre:=pre) (w:=w) (w':=w.add R c top i nq) (ds:=[.i .i64 (top:Int),.i .i64 (i:Int),encZ nq]) (fun _ _=>by first | rfl | exact nF _ _ _ _ _) (by simp) (by rw [hpl]; rfl) ((((hF.upd hs (by omega) h2 h3 (by omega)).upd hs (by omega) h2 h3 (by omega)).upd hs (by omega) h2 h3 (by omega)).upd hs (by omega) h2 h3 (by omega)) hprf hs (by omega) h2 h3 (by simp only; omega) (by rfl) (by rfl) hs2 had ?_
        intro l H' p' q' r' n' hl g1 g2 g3 g4 hF'
        have hl1:=hl 1 (by omega)
        have hl2:=hl 2 (by omega)
        have hl3:=hl 3 (by omega)
        simp [-map_map,-mapM_map,↓KW,hl1,hl2,hl3]
        refine rO (pre:=pre) (w:=w.add R c top i nq) (w':=(w.add R c top i nq).sw R c top i) (ds:=[.i .i64 (top:Int),.i .i64 (i:Int)]) (fun _ _=>by first | rfl | exact nF _ _ _ _ _) (by simp) (by rw [hpl]; rfl) hF' hprf hs2 (by omega) g2 g3 g4 (by rfl) (by rfl) (W3.sw_sh ..) hsw ?_
        intro l2 H2 p2 q2 r2 n2 kl k1 k2 k3 k4 kF
        have kl1:=kl 1 (by omega)
        have kl2:=kl 2 (by omega)
        have kl3:=kl 3 (by omega)
        refine aK ((w.add R c top i nq).sw R c top i,jQ pre R c ((w.add R c top i nq).sw R c top i).M ((w.add R c top i nq).sw R c top i).U ((w.add R c top i nq).sw R c top i).V) ⟨heu2,rfl⟩ hless ?_
        have e:=fC (p:=p2) (q:=q2) (r:=r2) hpl (W3.sw_sh R c (w.add R c top i nq) top i)
        refine kP kF (W3.sw_sh R c (w.add R c top i nq) top i) (by omega) (by omega) k2 k3 hprf ?_
        simp [-map_map,upd,aT,Γ0,e.1,e.2.1,e.2.2.1,e.2.2.2.1,e.2.2.2.2.1,e.2.2.2.2.2,hl1,hl2,hl3,kl1,kl2,kl3]
    ·have hq3:¬ (i:Int)<R:=by omega
     have e:=hei.end hi
     have ok:=hei.ok
     have hHd:=hF.w.hdrM hs
     have hgt:=cW (c:=c) (b:=p+1) hgo.2
     have hgl:=cB c R (p+1)
     refine (show ∃ l,hdr c R (p+1)=l from ⟨_,rfl⟩).elim fun cells hcl=>?_
     rw [hcl] at hHd hgt hgl
     have hggt:∀ h:top<cells.length,cells[top]'h=.own (top+(p+1)) 0 c 2:=fun h=>Option.some.inj ((List.getElem?_eq_getElem h).symm.trans hgt)
     refine (hF.rd hs hgo.2 hgo.1).hd.elim fun vt hh=>?_
     have hHt:=hh.1
     have hvt:=hh.2.1
     have hrt:=hh.2.2
     clear hh
     have hbc:col * 2+2≤c * 2:=by omega
     have hg1:=hgo.1
     have hg2:=hgo.2
     have hsgt:=eJ (ent w.M top col)
     have hrest':=hrest
     rw [← e] at hrest'
     refine (show ∃ x,ent w.M top col=x from ⟨_,rfl⟩).elim fun x hx=>?_
     rw [hx] at hrt hsgt hrest'
     simp [-map_map,-mapM_map,↓KW,hq3,hi,hH1]
     simp [-map_map,-mapM_map,↓KW,hH3,hHd,hgt,hgl,hggt,hHt,hvt,hrt,hbc,hg1,hg2,aD,aJ,aP,bH,aX]
     refine aA (ds:=[encZ x]) (by rfl) hsgt ?_
     by_cases hx0:x=0
     ·have hxs:(x.sign == 0)=true:=by simp [hx0]
      have hfo:=(hrest'.resolve_right fun h=>h.1 hx0).2
      simp [-map_map,-mapM_map,↓KW,hH3,hHd,hgt,hgl,hggt,hHt,hvt,hrt,hbc,hg1,hg2,aD,aJ,aP,bH,aX,hxs,hw2]
      refine aK (col+1,top,w,H) ⟨hfo,hgo.1,htb,hHg⟩ (by omega) ?_
      subst hHg
      have e:=fC (p:=p) (q:=q) (r:=r) hpl hs
      refine kP hF hs (by omega) (by omega) h2 h3 hprf ?_
      simp [-map_map,upd,aT,Γ0,e.1,e.2.1,e.2.2.1,e.2.2.2.1,e.2.2.2.2.1,e.2.2.2.2.2]
     ·have hxs:(x.sign == 0)=false:=by simp [hx0]
      refine (hrest'.resolve_left fun h=>hx0 h.1).2.elim fun w2 hh=>?_
      have hrd0:=hh.1
      have hfo:=hh.2
      clear hh
      simp [-map_map,-mapM_map,↓KW,hH3,hHd,hgt,hgl,hggt,hHt,hvt,hrt,hbc,hg1,hg2,aD,aJ,aP,bH,aX,hxs]
      refine aA (ds:=[encZ x]) (by rfl) hsgt ?_
      by_cases hxn:x<0
      ·have hxl:x.sign<0:=by rw [Int.sign_eq_neg_one_of_neg hxn]; decide
       have hng:=aTe hs (by omega) hc hgo.2 (fun r t=>fE (ok.m r t)) (fun r t=>fE (ok.u r t)) (fun r t=>fE (ok.v r t))
       have hS:ngS R c col top w=w.ng R c top:=by unfold ngS; rw [hx,if_pos hxn]
       have hx1:ent (w.ng R c top).M top col≠0:=by
        have:=aGk (w:=w) hgo.1 hgo.2 hgo.2
        rw [hS,hx] at this
        exact fun h=>hx0 (this.1 h)
       rw [hS] at hrd0
       simp [-map_map,-mapM_map,↓KW,hH3,hHd,hgt,hgl,hggt,hHt,hvt,hrt,hbc,hg1,hg2,aD,aJ,aP,bH,aX,hxl]
       refine rO (pre:=pre) (w:=w) (w':=w.ng R c top) (ds:=[.i .i64 (top:Int)]) (fun _ _=>by first | rfl | exact nF _ _ _ _ _) (by simp) (by rw [hpl]; rfl) hF hprf hs (by omega) h2 h3 (by simp only; omega) (by rfl) (by rfl) (W3.ng_sh ..) hng ?_
       intro l H' p' q' r' n' hl g1 g2 g3 g4 hF'
       have hl1:=hl 1 (by omega)
       have hl2:=hl 2 (by omega)
       have hl3:=hl 3 (by omega)
       simp [-map_map,-mapM_map,↓KW,hl1,hl2,hl3]
       refine aU (fun x:Nat × W3 × (Nat→Option HO)=>Rd R c col top x.1 x.2.1 w2∧x.1≤top∧ent x.2.1.M top col≠0∧jQ pre R c x.2.1.M x.2.1.U x.2.1.V=x.2.2) (fun x=>⟨iC [(1,.ptr 1 0),(2,.ptr 2 0),(3,.ptr 3 0),(4,.d (.i .i64 (top:Int))),(5,.d (.i .i64 (col:Int))),(10,.d (.i .i64 (x.1:Int)))],x.2.2,3+3 * R+4⟩) (fun x=>top - x.1) (0,w.ng R c top,jQ pre R c (w.ng R c top).M (w.ng R c top).U (w.ng R c top).V) ⟨hrd0,Nat.zero_le _,hx1,rfl⟩ ?_ ?_
       ·have e:=fC (p:=p') (q:=q') (r:=r') hpl (W3.ng_sh R c w top)
        refine kP hF' (W3.ng_sh R c w top) (by omega) (by omega) g2 g3 hprf ?_
        simp [-map_map,upd,aT,Γ0,e.1,e.2.1,e.2.2.1,e.2.2.2.1,e.2.2.2.2.1,e.2.2.2.2.2,hl1,hl2,hl3]
       ·clear hH3 hHd hgt hgl hggt hHt hvt hrt hF h1 h2 h3 h4 hs hHg hx hsgt hei
        rintro ⟨i,w,H⟩ ⟨hrd,hit,hxc,hHg⟩
        simp only at hrd hit hxc hHg
        have ok:=hrd.ok
        have hs:=ok.sh
        refine (aBx (pre:=pre) hs hHg).elim fun p hh=>hh.elim fun q hh=>hh.elim fun r hh=>?_
        have h1:=hh.1
        have h2:=hh.2.1
        have h3:=hh.2.2.1
        have h4:=hh.2.2.2.1
        have hF:=hh.2.2.2.2
        rw [hpl] at h1 h4
        clear hh
        have hH3:=hF.root2 hpl
        by_cases hig:i<top
        ·have q5:(i:Int)<top:=by omega
         have hi:i<R:=by omega
         have hw5:IntKind.i64.wrap ((i:Int)+1)=(i:Int)+1:=aS (by omega) (by omega)
         have hHd:=hF.w.hdrM hs
         have hgi:=cW (c:=c) (b:=p+1) hi
         have hgt:=cW (c:=c) (b:=p+1) hgo.2
         have hgl:=cB c R (p+1)
         refine (show ∃ l,hdr c R (p+1)=l from ⟨_,rfl⟩).elim fun cells hcl=>?_
         rw [hcl] at hHd hgi hgt hgl
         have hggi:∀ h:i<cells.length,cells[i]'h=.own (i+(p+1)) 0 c 2:=fun h=>Option.some.inj ((List.getElem?_eq_getElem h).symm.trans hgi)
         have hggt:∀ h:top<cells.length,cells[top]'h=.own (top+(p+1)) 0 c 2:=fun h=>Option.some.inj ((List.getElem?_eq_getElem h).symm.trans hgt)
         refine (hF.rd hs hi hgo.1).hd.elim fun vi hh=>?_
         have hHi:=hh.1
         have hvi:=hh.2.1
         have hri:=hh.2.2
         clear hh
         refine (hF.rd hs hgo.2 hgo.1).hd.elim fun vt hh=>?_
         have hHt:=hh.1
         have hvt:=hh.2.1
         have hrt:=hh.2.2
         clear hh
         have hnext:=hrd.next hig
         have hxn:ent (rdS R c col top i w).M top col≠0:=by
          show ent (oR R c w.M i top _) top col≠0
          rw [fZ hgo.2 hgo.1,if_neg (by omega)]; exact hxc
         have hS:rdS R c col top i w=w.add R c i top (-(ent w.M i col / ent w.M top col)):=rfl
         have hyd:Sd (ent w.M i col):=ok.m i col
         have hxd:Sd (ent w.M top col):=ok.m top col
         have hqs:Sd (ent w.M i col / ent w.M top col):=Nat.le_trans (dN (Int.natAbs_ediv_le_natAbs _ _)) hyd
         have hfl:=aIy (ent w.M i col) (ent w.M top col) hxc hyd hxd
         have hng:=lT (ent w.M i col / ent w.M top col) (Nat.le_trans hqs (by decide))
         refine (show ∃ nq,-(ent w.M i col / ent w.M top col)=nq from ⟨_,rfl⟩).elim fun nq hnq=>?_
         have hsn:Sd nq:=by rw [← hnq]; unfold Sd; rw [Int.natAbs_neg]; exact hqs
         rw [hnq] at hng hS
         rw [hS] at hnext hxn
         refine (show ∃ qq,ent w.M i col / ent w.M top col=qq from ⟨_,rfl⟩).elim fun qq hqq=>?_
         rw [hqq] at hng hfl
         refine (show ∃ y,ent w.M i col=y from ⟨_,rfl⟩).elim fun y hy=>?_
         refine (show ∃ x,ent w.M top col=x from ⟨_,rfl⟩).elim fun x hx=>?_
         rw [hy] at hri hfl
         rw [hx] at hrt hfl
         have hs2:(w.add R c i top nq).sh R c:=W3.add_sh ..
         have had:=aAa hs (by omega) hc hi hgo.2 (fE hsn) (fun r t=>fE (ok.m r t)) (fun r t=>fE (ok.u r t)) (fun r t=>fE (ok.v r t))
         have hbc:col * 2+2≤c * 2:=by omega
         have hg1:=hgo.1
         have hg2:=hgo.2
         simp [-map_map,-mapM_map,↓KW,q5,hig,hH3,hHd,hgi,hgt,hgl,hggi,hggt,hHi,hHt,hvi,hvt,hri,hrt,hbc,hg1,hg2,hi,aD,aJ,aP,bH,aX]
         refine aA (ds:=[encZ y,encZ x]) (by rfl) hfl ?_
         simp [-map_map,-mapM_map,↓KW,bI,hH3,hHd,hgi,hgt,hgl,hggi,hggt,hHi,hHt,hvi,hvt,hri,hrt,hbc,hg1,hg2,hi,aD,aJ,aP,bH,aX]
         refine aA (ds:=[encZ qq]) (by rfl) hng ?_
         simp [-map_map,-mapM_map,↓KW,bI,hH3,hHd,hgi,hgt,hgl,hggi,hggt,hHi,hHt,hvi,hvt,hri,hrt,hbc,hg1,hg2,hi,aD,aJ,aP,bH,aX]
         refine rO (pre:=pre) (w:=w) (w':=w.add R c i top nq) (ds:=[.i .i64 (i:Int),.i .i64 (top:Int),encZ nq]) (fun _ _=>by first | rfl | exact nF _ _ _ _ _) (by simp) (by rw [hpl]; rfl) hF hprf hs (by omega) h2 h3 (by simp only; omega) (by rfl) (by rfl) hs2 had ?_
         intro l H' p' q' r' n' hl g1 g2 g3 g4 hF'
         have hl1:=hl 1 (by omega)
         have hl2:=hl 2 (by omega)
         have hl3:=hl 3 (by omega)
         simp [-map_map,-mapM_map,↓KW,hl1,hl2,hl3,hw5]
         refine aK (i+1,w.add R c i top nq,jQ pre R c (w.add R c i top nq).M (w.add R c i top nq).U (w.add R c i top nq).V) ⟨hnext,hig,hxn,rfl⟩ (by omega) ?_
         have e:=fC (p:=p') (q:=q') (r:=r') hpl hs2
         refine kP hF' hs2 (by omega) (by omega) g2 g3 hprf ?_
         simp [-map_map,upd,aT,Γ0,e.1,e.2.1,e.2.2.1,e.2.2.2.1,e.2.2.2.2.1,e.2.2.2.2.2,hl1,hl2,hl3]
        ·have q5:¬ (i:Int)<top:=by omega
         have e:=hrd.end hig
         simp [-map_map,-mapM_map,↓KW,q5,hig,hw1,hw2]
         refine aK (col+1,top+1,w,H) ⟨e ▸ hfo,hgo.1,hgo.2,hHg⟩ (by omega) ?_
         subst hHg
         have e:=fC (p:=p) (q:=q) (r:=r) hpl hs
         refine kP hF hs (by omega) (by omega) h2 h3 hprf ?_
         simp [-map_map,upd,aT,Γ0,e.1,e.2.1,e.2.2.1,e.2.2.2.1,e.2.2.2.2.1,e.2.2.2.2.2]
      ·have hxl:¬ x.sign<0:=by
        have:=Int.sign_nonneg_iff.2 (show 0≤x by omega)
        omega
       have hS:ngS R c col top w=w:=by unfold ngS; rw [hx,if_neg hxn]
       rw [hS] at hrd0
       simp [-map_map,-mapM_map,↓KW,hH3,hHd,hgt,hgl,hggt,hHt,hvt,hrt,hbc,hg1,hg2,aD,aJ,aP,bH,aX,hxl]
       refine aU (fun x:Nat × W3 × (Nat→Option HO)=>Rd R c col top x.1 x.2.1 w2∧x.1≤top∧ent x.2.1.M top col≠0∧jQ pre R c x.2.1.M x.2.1.U x.2.1.V=x.2.2) (fun x=>⟨iC [(1,.ptr 1 0),(2,.ptr 2 0),(3,.ptr 3 0),(4,.d (.i .i64 (top:Int))),(5,.d (.i .i64 (col:Int))),(10,.d (.i .i64 (x.1:Int)))],x.2.2,3+3 * R+4⟩) (fun x=>top - x.1) (0,w,H) ⟨hrd0,Nat.zero_le _,fun h=>hx0 (hx.symm.trans h),hHg⟩ ?_ ?_
       ·subst hHg
        have e:=fC (p:=p) (q:=q) (r:=r) hpl hs
        refine kP hF hs (by omega) (by omega) h2 h3 hprf ?_
        simp [-map_map,upd,aT,Γ0,e.1,e.2.1,e.2.2.1,e.2.2.2.1,e.2.2.2.2.1,e.2.2.2.2.2]
       ·clear hH3 hHd hgt hgl hggt hHt hvt hrt hF h1 h2 h3 h4 hs hHg hx hsgt hei
        rintro ⟨i,w,H⟩ ⟨hrd,hit,hxc,hHg⟩
        simp only at hrd hit hxc hHg
        have ok:=hrd.ok
        have hs:=ok.sh
        refine (aBx (pre:=pre) hs hHg).elim fun p hh=>hh.elim fun q hh=>hh.elim fun r hh=>?_
        have h1:=hh.1
        have h2:=hh.2.1
        have h3:=hh.2.2.1
        have h4:=hh.2.2.2.1
        have hF:=hh.2.2.2.2
        rw [hpl] at h1 h4
        clear hh
        have hH3:=hF.root2 hpl
        by_cases hig:i<top
        ·have q5:(i:Int)<top:=by omega
         have hi:i<R:=by omega
         have hw5:IntKind.i64.wrap ((i:Int)+1)=(i:Int)+1:=aS (by omega) (by omega)
         have hHd:=hF.w.hdrM hs
         have hgi:=cW (c:=c) (b:=p+1) hi
         have hgt:=cW (c:=c) (b:=p+1) hgo.2
         have hgl:=cB c R (p+1)
         refine (show ∃ l,hdr c R (p+1)=l from ⟨_,rfl⟩).elim fun cells hcl=>?_
         rw [hcl] at hHd hgi hgt hgl
         have hggi:∀ h:i<cells.length,cells[i]'h=.own (i+(p+1)) 0 c 2:=fun h=>Option.some.inj ((List.getElem?_eq_getElem h).symm.trans hgi)
         have hggt:∀ h:top<cells.length,cells[top]'h=.own (top+(p+1)) 0 c 2:=fun h=>Option.some.inj ((List.getElem?_eq_getElem h).symm.trans hgt)
         refine (hF.rd hs hi hgo.1).hd.elim fun vi hh=>?_
         have hHi:=hh.1
         have hvi:=hh.2.1
         have hri:=hh.2.2
         clear hh
         refine (hF.rd hs hgo.2 hgo.1).hd.elim fun vt hh=>?_
         have hHt:=hh.1
         have hvt:=hh.2.1
         have hrt:=hh.2.2
         clear hh
         have hnext:=hrd.next hig
         have hxn:ent (rdS R c col top i w).M top col≠0:=by
          show ent (oR R c w.M i top _) top col≠0
          rw [fZ hgo.2 hgo.1,if_neg (by omega)]; exact hxc
         have hS:rdS R c col top i w=w.add R c i top (-(ent w.M i col / ent w.M top col)):=rfl
         have hyd:Sd (ent w.M i col):=ok.m i col
         have hxd:Sd (ent w.M top col):=ok.m top col
         have hqs:Sd (ent w.M i col / ent w.M top col):=Nat.le_trans (dN (Int.natAbs_ediv_le_natAbs _ _)) hyd
         have hfl:=aIy (ent w.M i col) (ent w.M top col) hxc hyd hxd
         have hng:=lT (ent w.M i col / ent w.M top col) (Nat.le_trans hqs (by decide))
         refine (show ∃ nq,-(ent w.M i col / ent w.M top col)=nq from ⟨_,rfl⟩).elim fun nq hnq=>?_
         have hsn:Sd nq:=by rw [← hnq]; unfold Sd; rw [Int.natAbs_neg]; exact hqs
         rw [hnq] at hng hS
         rw [hS] at hnext hxn
         refine (show ∃ qq,ent w.M i col / ent w.M top col=qq from ⟨_,rfl⟩).elim fun qq hqq=>?_
         rw [hqq] at hng hfl
         refine (show ∃ y,ent w.M i col=y from ⟨_,rfl⟩).elim fun y hy=>?_
         refine (show ∃ x,ent w.M top col=x from ⟨_,rfl⟩).elim fun x hx=>?_
         rw [hy] at hri hfl
         rw [hx] at hrt hfl
         have hs2:(w.add R c i top nq).sh R c:=W3.add_sh ..
         have had:=aAa hs (by omega) hc hi hgo.2 (fE hsn) (fun r t=>fE (ok.m r t)) (fun r t=>fE (ok.u r t)) (fun r t=>fE (ok.v r t))
         have hbc:col * 2+2≤c * 2:=by omega
         have hg1:=hgo.1
         have hg2:=hgo.2
         simp [-map_map,-mapM_map,↓KW,q5,hig,hH3,hHd,hgi,hgt,hgl,hggi,hggt,hHi,hHt,hvi,hvt,hri,hrt,hbc,hg1,hg2,hi,aD,aJ,aP,bH,aX]
         refine aA (ds:=[encZ y,encZ x]) (by rfl) hfl ?_
         simp [-map_map,-mapM_map,↓KW,bI,hH3,hHd,hgi,hgt,hgl,hggi,hggt,hHi,hHt,hvi,hvt,hri,hrt,hbc,hg1,hg2,hi,aD,aJ,aP,bH,aX]
         refine aA (ds:=[encZ qq]) (by rfl) hng ?_
         simp [-map_map,-mapM_map,↓KW,bI,hH3,hHd,hgi,hgt,hgl,hggi,hggt,hHi,hHt,hvi,hvt,hri,hrt,hbc,hg1,hg2,hi,aD,aJ,aP,bH,aX]
         refine rO (pre:=pre) (w:=w) (w':=w.add R c i top nq) (ds:=[.i .i64 (i:Int),.i .i64 (top:Int),encZ nq]) (fun _ _=>by first | rfl | exact nF _ _ _ _ _) (by simp) (by rw [hpl]; rfl) hF hprf hs (by omega) h2 h3 (by simp only; omega) (by rfl) (by rfl) hs2 had ?_
         intro l H' p' q' r' n' hl g1 g2 g3 g4 hF'
         have hl1:=hl 1 (by omega)
         have hl2:=hl 2 (by omega)
         have hl3:=hl 3 (by omega)
         simp [-map_map,-mapM_map,↓KW,hl1,hl2,hl3,hw5]
         refine aK (i+1,w.add R c i top nq,jQ pre R c (w.add R c i top nq).M (w.add R c i top nq).U (w.add R c i top nq).V) ⟨hnext,hig,hxn,rfl⟩ (by omega) ?_
         have e:=fC (p:=p') (q:=q') (r:=r') hpl hs2
         refine kP hF' hs2 (by omega) (by omega) g2 g3 hprf ?_
         simp [-map_map,upd,aT,Γ0,e.1,e.2.1,e.2.2.1,e.2.2.2.1,e.2.2.2.2.1,e.2.2.2.2.2,hl1,hl2,hl3]
        ·have q5:¬ (i:Int)<top:=by omega
         have e:=hrd.end hig
         simp [-map_map,-mapM_map,↓KW,q5,hig,hw1,hw2]
         refine aK (col+1,top+1,w,H) ⟨e ▸ hfo,hgo.1,hgo.2,hHg⟩ (by omega) ?_
         subst hHg
         have e:=fC (p:=p) (q:=q) (r:=r) hpl hs
         refine kP hF hs (by omega) (by omega) h2 h3 hprf ?_
         simp [-map_map,upd,aT,Γ0,e.1,e.2.1,e.2.2.1,e.2.2.2.1,e.2.2.2.2.1,e.2.2.2.2.2]
  ·have e:=hf.end hgo
   subst e
   have hu:∀ {c' m:Nat} {N:List (List Int)} (x:Option HO),3<m→(∀ (i:Nat) o,(mB c' N m)[i]? = some o→H (i+m)=some o)→∀ (i:Nat) o,(mB c' N m)[i]? = some o→upd H 2 x (i+m)=some o:=fun x hm h i o ho=>by
    rw [cU _ _ (by omega)]; exact h i o ho
   have f1:=fun x k=>aGq (H:=upd H 2 x) k hs.m (hu x (by omega) hF.w.m)
   have f2:=fun x k=>aGq (H:=upd H 2 x) k hs.u (hu x (by omega) hF.w.u)
   have f3:=fun x k=>aGq (H:=upd H 2 x) k hs.v (hu x (by omega) hF.w.v)
   by_cases q1:col<c
   ·have q2:¬ top<R:=fun h=>hgo ⟨q1,h⟩
    have q1':(col:Int)<c:=by omega
    have q2':¬ (top:Int)<R:=by omega
    simp [-map_map,-mapM_map,↓KW,q1,q1',q2,q2',hH1,hH2,hH3,f1,f2,f3,-iB]
    rfl
   ·have q1':¬ (col:Int)<c:=by omega
    simp [-map_map,-mapM_map,↓KW,q1,q1',hH1,hH2,hH3,f1,f2,f3,-iB]
    rfl
end Go.Am
end

section
set_option linter.unusedVariables false
set_option linter.unusedSimpArgs false
open List (map_map mapM_map)
open Go Go.Am Go.Proofs
namespace Go.Am
def pvF:Nat→List Int→Int
 | _,[]=>-1
 | k,z::l=>if z=0 then pvF (k+1) l else (k:Int)
def aNe (v:List Int):Int:=pvF 0 v
theorem bUx {z:Int} (h:z=0):(z.sign != 0)=false:=by rw [h]; rfl
theorem bUw {z:Int} (h:¬ z=0):(z.sign != 0)=true:=by
 have:z.sign≠0:=fun e=>h (Int.sign_eq_zero_iff_zero.1 e)
 simpa using this
set_option maxHeartbeats 1000000 in
set_option maxRecDepth 10000 in
theorem aYl (v:List Int) (hl:v.length≤1000000):Spec Tryz.prog 176 [cH v] (.i .i64 (aNe v)):=by
 refine aY (N:=17) aF Tryz.func176 rfl rfl rfl (by kernel_rfl) (by kernel_rfl) (by simp) ?_
 simp [-map_map,-mapM_map,↓KW,cH]
 refine aU (fun i:Nat=>i≤v.length∧pvF i (v.drop i)=aNe v) (fun i=>StL [(0,.d (cH v)),(3,.d (.i .i64 (i:Int)))] none []) (fun i=>v.length - i) 0 ⟨Nat.zero_le _,rfl⟩ ?_ ?_
 ·refine bC [] (by simp) ?_ ?_ <;> simp [-map_map,upd,aT,Γ0,cH,cV]
 ·intro i ⟨hi,hp⟩
  by_cases hgo:i<v.length
  ·have q1:(i:Int)<v.length:=by omega
   have hx:v[i]? = some v[i]:=List.getElem?_eq_getElem hgo
   have hw:IntKind.i64.wrap ((i:Int)+1)=(i:Int)+1:=aS (by omega) (by omega)
   rw [List.drop_eq_getElem_cons hgo,pvF] at hp
   generalize v[i]=z at *
   have hS:=eJ z
   simp [-map_map,-mapM_map,↓KW,cH,q1,hx,aGv]
   refine aA (ds:=[encZ z]) (by rfl) hS ?_
   by_cases h0:z=0
   ·have hs:=bUx h0
    rw [if_pos h0] at hp
    generalize z.sign=sn at *
    simp [-map_map,-mapM_map,↓KW,hw,hs]
    refine aK (i+1) ⟨hgo,hp⟩ (Nat.sub_lt_sub_left hgo (Nat.lt_succ_self _)) (bC [] (by simp) ?_ ?_) <;> simp [-map_map,upd,aT,Γ0,cH,cV]
   ·have hs:=bUw h0
    rw [if_neg h0] at hp
    generalize z.sign=sn at *
    simp [-map_map,-mapM_map,↓KW,hw,hs,← hp]
  ·have q1:¬ (i:Int)<v.length:=by omega
   rw [List.drop_eq_nil_of_le (by omega),pvF] at hp
   simp [-map_map,-mapM_map,↓KW,cH,q1,← hp]
def rkR (A:List (List Int)):Nat:=(A.filter fun v=>decide (0≤aNe v)).length
theorem aXv {A:List (List Int)} {i:Nat} (h:i<A.length):rkR (A.take (i+1))=rkR (A.take i)+if 0≤aNe A[i] then 1 else 0:=by
 rw [List.take_add_one,List.getElem?_eq_getElem h]
 unfold rkR
 rw [List.filter_append,List.length_append]
 congr 1
 by_cases e:0≤aNe A[i] <;> simp [e]
theorem aXw (A:List (List Int)):rkR A≤A.length:=List.length_filter_le _ _
theorem aIr (A:List (List Int)) (i:Nat):rkR (A.take i)≤i:=Nat.le_trans (aXw _) (by simp; omega)
set_option maxHeartbeats 1000000 in
set_option maxRecDepth 10000 in
theorem aQc {R c:Nat} {A:List (List Int)} (hA:Sh R c A) (hR:R≤1000) (hc:c≤1000):Spec Tryz.prog 147 [cP R c A] (.i .i64 (rkR A:Int)):=by
 refine aY (N:=21) aF Tryz.func147 rfl rfl rfl (by kernel_rfl) (by kernel_rfl) (by simp) ?_
 simp [-map_map,-mapM_map,↓KW,cP]
 refine aU (fun i:Nat=>i≤R) (fun i=>StL [(1,.ptr 1 0),(3,.d (.i .i64 (rkR (A.take i):Int))),(4,.d (.i .i64 (i:Int)))] none [.cells 155 [.d (.i .i64 (R:Int)),.d (.i .i64 (c:Int)),.d (.sl (A.map fun v=>[cH v]))]]) (fun i=>R - i) 0 (Nat.zero_le _) ?_ ?_
 ·refine bC [1] (by simp) ?_ ?_ <;> simp [-map_map,upd,aT,Γ0,rkR]
 ·intro i hi
  have hAl:=hA.len
  by_cases hgo:i<R
  ·have q1:(i:Int)<R:=by omega
   have hgA:i<A.length:=by omega
   have hx:A[i]? = some A[i]:=List.getElem?_eq_getElem hgA
   have hw:IntKind.i64.wrap ((i:Int)+1)=(i:Int)+1:=aS (by omega) (by omega)
   have htk:=aXv hgA
   have hvl:=hA.row _ (List.getElem_mem hgA)
   have hrl:=aIr A i
   generalize A[i]=v at *
   generalize rkR (A.take i)=n at *
   have hw2:IntKind.i64.wrap ((n:Int)+1)=(n:Int)+1:=aS (by omega) (by omega)
   have hS:=aYl v (by omega)
   have hv2:cH v=.sl (v.map tK):=rfl
   simp [-map_map,-mapM_map,↓KW,q1,hx,hv2]
   refine aA (ds:=[cH v]) (by rfl) hS ?_
   by_cases h0:0≤aNe v
   ·rw [if_pos h0] at htk
    simp [-map_map,-mapM_map,↓KW,hw,hw2,h0]
    refine aK (i+1) hgo (Nat.sub_lt_sub_left hgo (Nat.lt_succ_self _)) (bC [1] (by simp) ?_ ?_) <;> simp [-map_map,upd,aT,Γ0,htk]
   ·rw [if_neg h0] at htk
    simp [-map_map,-mapM_map,↓KW,hw,hw2,h0]
    refine aK (i+1) hgo (Nat.sub_lt_sub_left hgo (Nat.lt_succ_self _)) (bC [1] (by simp) ?_ ?_) <;> simp [-map_map,upd,aT,Γ0,htk]
  ·have q1:¬ (i:Int)<R:=by omega
   rw [List.take_of_length_le (by omega)]
   simp [-map_map,-mapM_map,↓KW,q1]
theorem xF (A:List (List Int)):fF 1 (A.map fun v=>[cH v])=true:=by cases A <;> rfl
set_option maxHeartbeats 1000000 in
set_option maxRecDepth 10000 in
theorem bMu {R c:Nat} {A:List (List Int)} (hA:Sh R c A) (n:Nat) (hn:n≤R) (hR:R≤1000) (hc:c≤1000):Spec Tryz.prog 160 [cP R c A,.i .i64 (n:Int)] (cP n c (A.take n)):=by
 refine aY (N:=13) aF Tryz.func160 rfl rfl rfl (by kernel_rfl) (by kernel_rfl) (by simp) ?_
 have hAl:=hA.len
 have q1:(n:Int)≤A.length:=by omega
 have q2:n≤A.length:=by omega
 have q3:=xF A
 simp [-map_map,-mapM_map,↓KW,cP,nO,q1,q2,q3,hAl,hn,List.map_take]
set_option maxHeartbeats 1000000 in
set_option maxRecDepth 10000 in
theorem aYm {R c:Nat} {A:List (List Int)} {wf:W3} (hA:Sh R c A) (hR:R≤15) (hc:c≤1000) (hAs:∀ v∈A,∀ z∈v,Sz z) (hFo:Fo R c 0 0 ⟨A,idM R,idM R⟩ wf) (hw:Sh R c wf.M) :
  Spec Tryz.prog 143 [cP R c A] (cP (rkR wf.M) c (wf.M.take (rkR wf.M))):=by
 refine aY (N:=12) aF Tryz.func143 rfl rfl rfl (by kernel_rfl) (by kernel_rfl) (by simp) ?_
 have hF:=aQd hA hR hc hAs hFo
 have hK:=aQc hw (by omega) hc
 have hle:rkR wf.M≤R:=by have:=aXw wf.M; rwa [hw.len] at this
 have hT:=bMu hw (rkR wf.M) hle (by omega) hc
 generalize rkR wf.M=k at *
 simp [-map_map,-mapM_map,↓KW,cP]
 refine aA (ds:=[cP R c A]) (by rfl) hF ?_
 simp [-map_map,-mapM_map,↓KW,aBq]
 refine aA (ds:=[cP R c wf.M]) (by rfl) hK ?_
 simp [-map_map,-mapM_map,↓KW,aBq]
 refine aA (ds:=[cP R c wf.M,.i .i64 (k:Int)]) (by rfl) hT ?_
 simp [-map_map,-mapM_map,↓KW,cP]
set_option maxHeartbeats 1000000 in
set_option maxRecDepth 10000 in
theorem aIx {R c:Nat} {A B:List (List Int)} {wf wg:W3} (hA:Sh R c A) (hR:R≤15) (hc:c≤1000) (hAs:∀ v∈A,∀ z∈v,Sz z) (hFo:Fo R c 0 0 ⟨A,idM R,idM R⟩ wf) (hw:Sh R c wf.M) (hu:Sh R R wf.U)
  (hk:rkR wf.M≤R) (hB:wf.U.drop (rkR wf.M)=B) (hBs:∀ v∈B,∀ z∈v,Sz z) (hFg:Fo (R - rkR wf.M) R 0 0 ⟨B,idM (R - rkR wf.M),idM (R - rkR wf.M)⟩ wg) (hg:Sh (R - rkR wf.M) R wg.M) :
  Spec Tryz.prog 121 [cP R c A] (cP (rkR wg.M) R (wg.M.take (rkR wg.M))):=by
 refine aY (N:=25) aF Tryz.func121 rfl rfl rfl (by kernel_rfl) (by kernel_rfl) (by simp) ?_
 have hF:=aQd hA hR hc hAs hFo
 have hK:=aQc hw (by omega) hc
 have hBh:Sh (R - rkR wf.M) R B:=⟨by rw [← hB,List.length_drop,hu.len],fun v hv=>hu.row v (List.mem_of_mem_drop (hB ▸ hv))⟩
 have hG:=aYm hBh (by omega) (by omega) hBs hFg hg
 have hul:=hu.len
 generalize rkR wf.M=k at *
 have q1:(k:Int)≤wf.U.length:=by omega
 have q2:k≤wf.U.length:=by omega
 have q3:=xF wf.U
 have q5:List.take R (wf.U.map fun v=>[cH v])=wf.U.map fun v=>[cH v]:=List.take_of_length_le (by simp; omega)
 have q4:((R - k:Nat):Int)=(R:Int) - k:=by omega
 have hwr:IntKind.i64.wrap ((R:Int) - k)=(R:Int) - k:=aS (by omega) (by omega)
 rw [q4] at hG
 simp [-map_map,-mapM_map,↓KW,cP]
 refine aA (ds:=[cP R c A]) (by rfl) hF ?_
 simp [-map_map,-mapM_map,↓KW,aBq]
 refine aA (ds:=[cP R c wf.M]) (by rfl) hK ?_
 simp [-map_map,-mapM_map,↓KW,aBq,hwr,nO,q1,q2,q3,q5,hul,hk]
 refine aA (ds:=[cP ((R:Int) - k) R B]) (by simp only [← hB,cP,List.map_drop]; rfl) hG ?_
 simp [-map_map,-mapM_map,↓KW,cP]
end Go.Am
end

section
set_option linter.unusedVariables false
set_option linter.unusedSimpArgs false
open Go Go.Am Go.Proofs
namespace Go.Am
theorem aGd:∀ (v:List Int) (k:Nat),0≤pvF k v↔∃ z∈v,z≠0
 | [],k=>by simp [pvF]
 | z::v,k=>by
  unfold pvF
  by_cases h:z=0
  ·rw [if_pos h,aGd v (k+1)]
   simp [h]
  ·rw [if_neg h]
   exact ⟨fun _=>⟨z,List.mem_cons_self ..,h⟩,fun _=>by omega⟩
theorem bBo {v:List Int} {t:Nat} (h:v.getD t 0≠0):v.getD t 0∈v:=by
 rw [List.getD_eq_getElem?_getD] at h ⊢
 cases e:v[t]? with
 | none=>rw [e] at h; exact (h rfl).elim
 | some z=>exact List.mem_of_getElem? e
theorem uM {v:List Int} {z:Int} (h:z∈v):∃ t,t<v.length∧v.getD t 0=z:=by
 obtain ⟨t,ht,e⟩:=List.getElem_of_mem h
 exact ⟨t,ht,by rw [List.getD_eq_getElem?_getD,List.getElem?_eq_getElem ht,e]; rfl⟩
theorem yN {R c k:Nat} {M:List (List Int)} (hM:Sh R c M) (hk:k≤R) (hz:∀ r t,k≤r→r<R→t<c→ent M r t=0) (hn:∀ r,r<k→∃ t,t<c∧ent M r t≠0):rkR M=k:=by
 unfold rkR
 have hl:=hM.len
 have e:(M.take k++M.drop k).filter (fun v=>decide (0≤aNe v))=M.take k:=by
  rw [List.filter_append,List.filter_eq_self.2,List.filter_eq_nil_iff.2,List.append_nil]
  ·intro v hv
   obtain ⟨i,hi,e⟩:=List.getElem_of_mem hv
   rw [List.getElem_drop] at e
   have hi2:k+i<R:=by rw [List.length_drop] at hi; omega
   intro h
   obtain ⟨z,hzv,hz0⟩:=(aGd v 0).1 (of_decide_eq_true h)
   obtain ⟨t,ht,et⟩:=uM hzv
   have hvc:v.length=c:=hM.row v (List.mem_of_mem_drop hv)
   refine hz0 ?_
   rw [← et]
   have:=hz (k+i) t (by omega) hi2 (by omega)
   unfold ent at this
   rwa [List.getD_eq_getElem?_getD (l:=M),List.getElem?_eq_getElem (by omega),Option.getD_some,e] at this
  ·intro v hv
   obtain ⟨i,hi,e⟩:=List.getElem_of_mem hv
   rw [List.getElem_take] at e
   have hi2:i<k:=by rw [List.length_take] at hi; omega
   obtain ⟨t,ht,ht0⟩:=hn i hi2
   unfold ent at ht0
   rw [List.getD_eq_getElem?_getD (l:=M),List.getElem?_eq_getElem (by omega),Option.getD_some,e] at ht0
   exact decide_eq_true ((aGd v 0).2 ⟨_,bBo ht0,ht0⟩)
 rw [List.take_append_drop] at e
 rw [e,List.length_take]; omega
theorem Be.mem {e:Nat} {M:List (List Int)} (h:Be e M) (he:e<1099511627776):∀ v∈M,∀ z∈v,Sz z:=fun v hv z hz=>by
 obtain ⟨i,hi,e1⟩:=List.getElem_of_mem hv
 obtain ⟨t,ht,e2⟩:=uM hz
 have:=h.sd he i t
 unfold ent at this
 rw [List.getD_eq_getElem?_getD (l:=M),List.getElem?_eq_getElem hi,Option.getD_some,e1,e2] at this
 exact Nat.le_trans this (by decide)
theorem jF (R:Nat):Sh R R (idM R):=iA _ _ _
theorem pC {R r s:Nat} (hr:r<R) (hs:s<R):ent (idM R) r s=if r=s then 1 else 0:=oY _ hr hs
theorem pD (R e:Nat):Be e (idM R):=Be.of (jF R) fun r t hr ht=>by
 rw [pC hr ht]
 have:1≤2 ^ e:=Nat.one_le_two_pow
 split <;> simp <;> omega
theorem aRl {R c e:Nat} {A:List (List Int)} (hA:Sh R c A) (hR:R≤15) (hB:Be e A) (he:dbl (tr R) e<1099511627776) :
  ∃ wf k e',Fo R c 0 0 ⟨A,idM R,idM R⟩ wf∧rkR wf.M=k∧k≤R∧wf.sh R c∧B3 e' wf∧dbl (tr (R - k)) e'≤dbl (tr R) e∧tP R c R wf.U A wf.M∧∀ r t,k≤r→r<R→t<c→ent wf.M r t=0:=by
 have g:Gd R c A e 0 0 ⟨A,idM R,idM R⟩:=⟨⟨hA,jF R,jF R⟩,⟨hB,pD R e,pD R e⟩,fun r t hr ht=>by
  show sgm R (fun j=>ent (idM R) r j * ent A j t)=ent A r t
  rw [← nB hr fun j=>ent A j t]
  refine cK fun j hj=>?_
  rw [pC hr hj]
  by_cases e:r=j
  ·rw [if_pos e,if_pos e.symm]
  ·rw [if_neg e,if_neg fun h=>e h.symm],fun r t _ _ h=>by omega,fun r h=>by omega⟩
 obtain ⟨w',k,e',h1,h2,h3,h4,h5⟩:=bBu (A:=A) hR c 0 0 e _ (by omega) (Nat.zero_le _) g he
 exact ⟨w',k,e',h1,yN h3.sh.m h2 h4 h3.hi,h2,h3.sh,h3.b,h5,h3.eq,h4⟩
theorem aXe (n m:Nat) (f:Nat→Nat→Int):sgm n (fun i=>sgm m (fun j=>f i j))=sgm m (fun j=>sgm n (fun i=>f i j)):=by
 induction n with
 | zero=>exact (tV m).symm
 | succ n ih =>
  show sgm n _+sgm m _=_
  rw [ih,← rK]; rfl
theorem aXb (n:Nat) (k:Int) (f:Nat→Int):sgm n (fun j=>f j * k)=sgm n f * k:=by
 rw [Int.mul_comm,← tW]
 exact cK fun j _=>Int.mul_comm _ _
theorem aBm {k r s:Nat} {M:List (List Int)}:ent (M.drop k) r s=ent M (k+r) s:=by
 unfold ent
 rw [List.getD_eq_getElem?_getD (l:=M.drop k),List.getElem?_drop,List.getD_eq_getElem?_getD (l:=M)]
structure aLz (R c E:Nat) (A L:List (List Int)):Prop where
 spec:Spec Tryz.prog 121 [cP R c A] (cP L.length R L)
 len:L.length≤R
 row:∀ v∈L,v.length=R
 be:∀ v∈L,∀ z∈v,z.natAbs≤2 ^ E
 ker:∀ v∈L,∀ t,t<c→sgm R (fun j=>v.getD j 0 * ent A j t)=0
/-! No columns -/
theorem aTa {R c i j:Nat} {M:List (List Int)} (h:Sh R c M):oR R c M i j 0=M :=
 (pO h fun r t hr ht=>by unfold aPd; split <;> simp_all).symm
theorem aVt {R i j:Nat} {V:List (List Int)} (h:Sh R R V):aPc R V i j 0=V :=
 (pO h fun r t hr ht=>by unfold bEc; split <;> simp_all).symm
theorem aAz (R:Nat):Ok R R ⟨idM R,idM R,idM R⟩ :=
 have h:B3 0 ⟨idM R,idM R,idM R⟩:=⟨pD R 0,pD R 0,pD R 0⟩
 h.ok ⟨jF R,jF R,jF R⟩ (by decide)
theorem bLi {R col:Nat} (hc:col<R):∀ (n i:Nat),n+i=R→col<i→Ei R R col col i ⟨idM R,idM R,idM R⟩ ⟨idM R,idM R,idM R⟩
 | 0,i,h,_=>.done i _ (aAz R) (by omega)
 | n+1,i,h,h2=>.go i _ _ _ (by omega) (.done _ (aAz R) (by rw [pC (by omega) hc,if_neg (by omega)])) (bLi hc n (i+1) (by omega) (by omega))
theorem bKv {R col:Nat} (hc:col<R):∀ (n i:Nat),n+i=col→Rd R R col col i ⟨idM R,idM R,idM R⟩ ⟨idM R,idM R,idM R⟩
 | 0,i,h=>.done i _ (aAz R) (by omega)
 | n+1,i,h=>.go i _ _ (aAz R) (by omega) (by
  have e:rdS R R col col i ⟨idM R,idM R,idM R⟩=⟨idM R,idM R,idM R⟩:=by
   unfold rdS W3.add
   simp only
   rw [pC (show i<R by omega) hc,if_neg (by omega),Int.zero_ediv,Int.neg_zero,aTa (jF R),aVt (jF R)]
  rw [e]
  exact bKv hc n (i+1) (by omega))
theorem bLd {R:Nat}:∀ (n col:Nat),n+col=R→Fo R R col col ⟨idM R,idM R,idM R⟩ ⟨idM R,idM R,idM R⟩
 | 0,col,h=>.done col col _ (aAz R) (by omega)
 | n+1,col,h=>by
  have hc:col<R:=by omega
  have h1:ent (idM R) col col=1:=by rw [pC hc hc,if_pos rfl]
  refine .piv col col _ _ _ _ hc hc (bLi hc (R - (col+1)) (col+1) (by omega) (by omega)) (by rw [h1]; decide) ?_ (bLd n (col+1) (by omega))
  have e:ngS R R col col ⟨idM R,idM R,idM R⟩=⟨idM R,idM R,idM R⟩:=by
   unfold ngS
   rw [h1,if_neg (by decide)]
  rw [e]
  exact bKv hc col 0 (by omega)
theorem left_id {R:Nat} {A:List (List Int)} (hA:Sh R 0 A) (hR:R≤15):aLz R 0 0 A (idM R):=by
 have hr0:rkR A=0:=yN hA (Nat.zero_le _) (fun r t _ _ h=>by omega) (fun r h=>by omega)
 have hr1:rkR (idM R)=R:=yN (jF R) (Nat.le_refl _) (fun r t h1 h2 _=>by omega) (fun r h=>⟨r,h,by rw [pC h h,if_pos rfl]; decide⟩)
 have hAs:∀ v∈A,∀ z∈v,Sz z:=fun v hv z hz=>by
  have:=hA.row v hv
  rw [List.eq_nil_of_length_eq_zero this] at hz; cases hz
 have hb:B3 0 ⟨A,idM R,idM R⟩:=⟨fun r t=>by rw [vD hA (by omega)]; exact Nat.zero_le _,pD R 0,pD R 0⟩
 have hIs:=(pD R 0).mem (by decide)
 have hl:(idM R).length=R:=(jF R).len
 have hd:(idM R).drop (rkR A)=idM R:=by rw [hr0]; rfl
 have hS:=aIx (B:=idM R) (wf:=⟨A,idM R,idM R⟩) (wg:=⟨idM R,idM R,idM R⟩) hA hR (by decide) hAs (.done 0 0 _ (hb.ok ⟨hA,jF R,jF R⟩ (by decide)) (by omega)) hA (jF R) (by rw [hr0]; omega) hd hIs
  (by rw [hr0]; exact bLd R 0 rfl) (by rw [hr0]; exact jF R)
 have e1:(idM R).take R=idM R:=List.take_of_length_le (by omega)
 simp only [hr1,e1] at hS
 exact ⟨by rw [hl]; exact hS,by omega,(jF R).row,fun v hv z hz=>by
  obtain ⟨r,hr,e2⟩:=List.getElem_of_mem hv
  obtain ⟨s,hs,e3⟩:=uM hz
  have:=pD R 0 r s
  unfold ent at this
  rwa [List.getD_eq_getElem?_getD (l:=idM R),List.getElem?_eq_getElem hr,Option.getD_some,e2,e3] at this,fun v hv t ht=>by omega⟩
end Go.Am
end

section
set_option linter.unusedVariables false
set_option linter.unusedSimpArgs false
open List (map_map mapM_map)
open Go Go.Am Go.Proofs
namespace Go.Am
theorem bHp {a b:List Int} {k:Nat} {z:Int} (hl:a.length=b.length) (hk:k<a.length) (hz:a[k]? = some z):(a.take k++b.drop k).set k z=a.take (k+1)++b.drop (k+1):=by
 have e:k - (a.take k).length=0:=by rw [List.length_take]; omega
 rw [List.set_append_right _ _ (by rw [List.length_take]; omega),e,List.drop_eq_getElem_cons (show k<b.length by omega),List.set_cons_zero,List.take_add_one,hz]; simp
theorem aZt {a b:List Int} {k:Nat} (hl:a.length=b.length) (hk:k<a.length) (hz:a[k]? = b[k]?):a.take k++b.drop k=a.take (k+1)++b.drop (k+1):=by
 rw [List.take_add_one,List.drop_eq_getElem_cons (show k<b.length by omega),hz,List.getElem?_eq_getElem (by omega)]; simp
theorem tZ (ids:List Int) (x:List (Int × Int)):(sI ids x).length=ids.length:=by simp [sI]
theorem uA {ids:List Int} {x:List (Int × Int)} {k:Nat} {q:Int} (h:ids[k]? = some q):(sI ids x)[k]? = some (lv q x):=by simp [sI,h]
theorem aXu (ids:List Int):sI ids []=List.replicate ids.length 0:=by
 unfold sI
 rw [List.map_eq_replicate_iff.2]
 intro n _; rfl
set_option maxHeartbeats 2000000 in
set_option maxRecDepth 10000 in
theorem bMt (x:List (Int × Int)) (ids:List Int) (hl:x.length≤1000000) (hn:ids.length≤1000000):Spec Tryz.prog 148 [aM x,cF ids] (cH (sI ids x)):=by
 refine aY (N:=42) aF Tryz.func148 rfl rfl rfl (by kernel_rfl) (by kernel_rfl) (by simp) ?_
 have hmx:32 * (ids.length:Int)≤281474976710656∧(ids.length:Int)≤9223372036854775807:=by omega
 have hmx2:ids.length≤maxLen:=aW (by omega)
 have hmx3:ids.length * 32≤140737488355328:=by omega
 simp [-map_map,-mapM_map,↓KW,aM,cF,hmx,hmx2,hmx3]
 refine aU (fun i:Nat=>i≤x.length) (fun i=>StL [(0,.d (aM x)),(1,.d (cF ids)),(5,.own 1 0 ids.length 2),(6,.d (.i .i64 (i:Int)))] none [.cells 69 ((vcs (sI ids (x.take i))).map .d)]) (fun i=>x.length - i) 0 (Nat.zero_le _) ?_ ?_
 ·have hz:=fun (H H':Nat→Option HO) ρ=>aMc (H:=H) (H':=H') (ρ:=ρ) ids.length
  refine bC [1] (by simp) ?_ ?_
  ·simp [-map_map,upd,aT,Γ0,aM,cF]
  ·rw [List.take_zero,aXu]
   exact ⟨⟨_,by simp [dJ]; rfl,dV.2 ⟨rfl,hz _ _ _⟩⟩,trivial⟩
 ·intro i hi
  by_cases hgo:i<x.length
  ·have q1:(i:Int)<x.length:=by omega
   have hx:x[i]? = some x[i]:=List.getElem?_eq_getElem hgo
   have hw:IntKind.i64.wrap ((i:Int)+1)=(i:Int)+1:=aS (by omega) (by omega)
   have htk:=fun q=>bHy hgo q
   have hra:=tZ ids (x.take i)
   have hrb:=tZ ids (x.take (i+1))
   have hrg:=fun (k:Nat) (q:Int) (h:ids[k]? = some q)=>uA (x:=x.take i) h
   have hrg1:=fun (k:Nat) (q:Int) (h:ids[k]? = some q)=>uA (x:=x.take (i+1)) h
   obtain ⟨a,ha⟩:∃ a,sI ids (x.take i)=a:=⟨_,rfl⟩
   obtain ⟨b,hb⟩:∃ b,sI ids (x.take (i+1))=b:=⟨_,rfl⟩
   rw [ha] at hra hrg
   rw [hb] at hrb hrg1
   simp only [ha]
   generalize x[i]=f at *
   obtain ⟨fn,fc⟩:=f
   have hvl:=fI a
   rw [hra] at hvl
   simp [-map_map,-mapM_map,↓KW,aM,cF,q1]
   refine aU (fun k:Nat=>k≤ids.length) (fun k=>StL [(0,.d (aM x)),(1,.d (cF ids)),(5,.own 1 0 ids.length 2),(6,.d (.i .i64 (i:Int))),(7,.d (.i .i64 (k:Int)))] none [.cells 69 ((vcs (b.take k++a.drop k)).map .d)]) (fun k=>ids.length - k) 0 (Nat.zero_le _) ?_ ?_
   ·refine bC [1] (by simp) ?_ ?_ <;> simp [-map_map,upd,aT,Γ0,aM,cF]
   ·intro k hk
    have hml:(b.take k++a.drop k).length=ids.length:=by rw [List.length_append,List.length_take,List.length_drop]; omega
    by_cases hgk:k<ids.length
    ·have q2:(k:Int)<ids.length:=by omega
     have hy:ids[k]? = some ids[k]:=List.getElem?_eq_getElem hgk
     have hwk:IntKind.i64.wrap ((k:Int)+1)=(k:Int)+1:=aS (by omega) (by omega)
     have hm1:=bHp (a:=b) (b:=a) (k:=k) (z:=fc) (by omega) (by omega)
     have hm2:=aZt (a:=b) (b:=a) (k:=k) (by omega) (by omega)
     have hg1:=hrg k _ hy
     have hg2:=hrg1 k _ hy
     rw [htk] at hg2
     generalize ids[k]=q at *
     have hy':∀ h:k<ids.length,ids[k]'h=q:=fun h=>Option.some.inj ((List.getElem?_eq_getElem h).symm.trans hy)
     obtain ⟨v,hv⟩:∃ v,b.take k++a.drop k=v:=⟨_,rfl⟩
     obtain ⟨v',hv'⟩:∃ v,b.take (k+1)++a.drop (k+1)=v:=⟨_,rfl⟩
     rw [hv,hv'] at hm1 hm2
     rw [hv] at hml
     simp only [hv]
     have hvc:=fI v
     rw [hml] at hvc
     have hb2:k * 2+2≤ids.length * 2:=by omega
     have hlay:=kA (v:=v) fc (j:=k) (by omega)
     by_cases h0:q=fn
     ·have h0':((q == fn):Bool)=true:=by simpa using h0
      rw [if_pos h0.symm] at hg2
      rw [hm1 hg2] at hlay
      subst h0
      have q3:((q == q):Bool)=true:=by simp
      simp [-map_map,-mapM_map,↓KW,aM,cF,bB,q1,q2,hx,hy,h0',q3,hb2,hvc,hlay,hwk,hgk,hy',aD,aJ,aP,bH]
      refine aK (k+1) hgk (Nat.sub_lt_sub_left hgk (Nat.lt_succ_self _)) (bC [1] (by simp) ?_ ?_) <;> simp [-map_map,upd,aT,Γ0,aM,cF,hv',hvc]
     ·have h0':((q == fn):Bool)=false:=by simpa using h0
      rw [if_neg fun e=>h0 e.symm] at hg2
      rw [hm2 (hg2.trans hg1.symm)]
      simp [-map_map,-mapM_map,↓KW,aM,cF,bB,q1,q2,hx,hy,h0,h0',hwk,aD,aJ,aP,bH]
      refine aK (k+1) hgk (Nat.sub_lt_sub_left hgk (Nat.lt_succ_self _)) (bC [1] (by simp) ?_ ?_) <;> simp [-map_map,upd,aT,Γ0,aM,cF,hv']
    ·have q2:¬ (k:Int)<ids.length:=by omega
     have e:b.take k++a.drop k=b:=by rw [List.take_of_length_le (by omega),List.drop_eq_nil_of_le (by omega),List.append_nil]
     rw [e]
     simp [-map_map,-mapM_map,↓KW,aM,cF,q2,hw]
     refine aK (i+1) hgo (Nat.sub_lt_sub_left hgo (Nat.lt_succ_self _)) (bC [1] (by simp) ?_ ?_) <;> simp [-map_map,upd,aT,Γ0,aM,cF,hb]
  ·have q1:¬ (i:Int)<x.length:=by omega
   rw [List.take_of_length_le (by omega)]
   have hfl:=fI (sI ids x)
   have hvl:=tZ ids x
   rw [hvl] at hfl
   generalize sI ids x=out at *
   simp [-map_map,-mapM_map,↓KW,aM,cF,cH,q1,hfl,aEw hvl,tQ hvl]
end Go.Am
end

section
set_option linter.unusedVariables false
set_option linter.unusedSimpArgs false
open List (map_map mapM_map)
open Go Go.Am Go.Proofs
namespace Go.Am
theorem aKk (c:List Cl) (k:Int):(pT c k).length=(cS c k).length:=by simp [pT]
theorem aAq {c:List Cl} {k:Int} {i:Nat} {q:Int} (h:(cS c k)[i]? = some q):(pT c k)[i]? = some (sI (cS c (k - 1)) (bOf c q)):=by simp [pT,h]
def bdS (c:List Cl) (R:List Int) (cs:List Int) (M:List (List Int)):Nat→St
 | 0=>StL [(0,.d (aI c)),(4,.ptr 1 0),(5,.d (cF R)),(6,.d (cF cs)),(7,.ptr 2 0),(8,.d (.i .i64 0))] none [.cells 155 [.d (.i .i64 0),.d (.i .i64 0),.nil],.cells 155 [.d (.i .i64 R.length),.d (.i .i64 cs.length),.nil]]
 | i+1=>StL [(0,.d (aI c)),(4,.ptr 1 0),(5,.d (cF R)),(6,.d (cF cs)),(7,.ptr 2 0),(8,.d (.i .i64 ((i:Int)+1)))] none [.cells 155 [.d (.i .i64 0),.d (.i .i64 0),.nil],.cells 155 [.d (.i .i64 R.length),.d (.i .i64 cs.length),.own 3 0 (i+1) 1],.cells 112 (((M.take (i+1)).map cH).map .d)]
theorem aDw (v:List Int):one (.d (cH v))=true:=rfl
theorem vK (v:List Int):eG (.d (cH v))=some [.d (cH v)]:=rfl
theorem aAw (v:List Int):aT (cH v)=.d (cH v):=rfl
theorem aEo (v:List Int):inj (cH v)=.d (cH v):=rfl
theorem xJ (H:Nat→Option HO) (avs:List AV) (v:List Int):bX H avs (cH v)=gD H avs:=rfl
set_option maxHeartbeats 2000000 in
set_option maxRecDepth 10000 in
theorem aIw (c:List Cl) (k:Int) (hk:-1000≤k∧k≤1000) (hl:c.length≤1000) (hb:∀ x∈c,x.b.length≤1000000) :
  Spec Tryz.prog 122 [aI c,.i .i64 k] (cP (cS c k).length (cS c (k - 1)).length (pT c k)):=by
 refine aY (N:=48) aF Tryz.func122 rfl rfl rfl (by kernel_rfl) (by kernel_rfl) (by simp) ?_
 have h1:=zZ c k (by omega)
 have h2:=zZ c (k - 1) (by omega)
 have hwk:IntKind.i64.wrap (k - 1)=k - 1:=aS (by omega) (by omega)
 have hml:=aKk c k
 have hmg:=fun i q h=>aAq (c:=c) (k:=k) (i:=i) (q:=q) h
 have hrl:=lE c k
 have hcl:=lE c (k - 1)
 generalize cS c (k - 1)=cs at *
 generalize cS c k=R at *
 generalize pT c k=M at *
 have hfnd:=fun n=>nC c n (by omega)
 have hbl:∀ n,(bOf c n).length≤1000000:=fun n=>by
  unfold bOf
  cases e:bT c n with
  | none=>exact Nat.zero_le _
  | some x=>exact hb x (dQ e).1
 have hrow:=fun n=>bMt (bOf c n) cs (hbl n) (by omega)
 simp [-map_map,-mapM_map,↓KW,aI]
 refine aA (ds:=[aI c,.i .i64 k]) (by rfl) h1 ?_
 simp [-map_map,-mapM_map,↓KW,aI,cF,hwk]
 refine aA (ds:=[aI c,.i .i64 (k - 1)]) (by rfl) h2 ?_
 simp [-map_map,-mapM_map,↓KW,aI,cF]
 refine aU (fun i:Nat=>i≤R.length) (bdS c R cs M) (fun i=>R.length - i) 0 (Nat.zero_le _) ?_ ?_
 ·refine bC [1,2] (by simp) ?_ ?_ <;> simp [-map_map,upd,aT,Γ0,aI,cF,bdS]
 ·intro i hi
  by_cases hgo:i<R.length
  ·have hx:R[i]? = some R[i]:=List.getElem?_eq_getElem hgo
   have hm:=hmg i _ hx
   have htk:M.take (i+1)=M.take i++[sI cs (bOf c R[i])]:=by rw [List.take_add_one,hm]; rfl
   have hF:=hfnd R[i]
   have hR:=hrow R[i]
   generalize R[i]=q at *
   have hnb:((bT c q).getD qK).b=bOf c q:=rfl
   unfold wP at hF
   generalize ((bT c q).getD qK)=y at *
   generalize (bT c q).isSome=t at *
   obtain ⟨yi,yd,yb⟩:=y
   simp only at hnb
   subst hnb
   generalize sI cs (bOf c q)=row at *
   generalize bOf c q=yb at *
   rcases i with _ | i
   ·have q1:0<R.length:=hgo
    rw [List.take_zero,List.nil_append] at htk
    have hx':∀ h:0<R.length,R[0]'h=q:=fun h=>Option.some.inj ((List.getElem?_eq_getElem h).symm.trans hx)
    have hh:R.head? = some q:=by rw [List.head?_eq_getElem?]; exact hx
    have hw:IntKind.i64.wrap 1=1:=by decide
    have hm1:(1:Nat)≤maxLen:=aW (by decide)
    unfold bdS
    simp [-map_map,-mapM_map,↓KW,aI,cF,q1,hx,hx',hh]
    refine aA (ds:=[aI c,.i .i64 q]) (by rfl) hF ?_
    simp [-map_map,-mapM_map,↓KW,aI,cF,aZ,aE,aB,aC,aQ]
    refine aA (ds:=[aM yb,cF cs]) (by rfl) hR ?_
    simp [-map_map,-mapM_map,↓KW,aI,cF,aZ,hw,hm1,aE,aB,aC,aQ,aDw,vK,aAw,aEo,xJ]
    refine aK (0+1) hgo (Nat.sub_lt_sub_left hgo (Nat.lt_succ_self _)) ?_
    simp only [bdS]
    refine bC [1,2,5] (by simp) ?_ ?_ <;> simp [-map_map,upd,aT,Γ0,aI,cF,htk,sP]
   ·have q1:(i:Int)+1<R.length:=by omega
    have q0:(0:Int)≤(i:Int)+1:=by omega
    have hx':∀ h:i+1<R.length,R[i+1]'h=q:=fun h=>Option.some.inj ((List.getElem?_eq_getElem h).symm.trans hx)
    have hw:IntKind.i64.wrap ((i:Int)+1+1)=(i:Int)+1+1:=aS (by omega) (by omega)
    have hbb:=cO (n:=i+1) (by omega)
    have hb8:(i+1+1) * 24≤140737488355328:=by omega
    have hml1:(M.take (i+1)).length=i+1:=by rw [List.length_take]; omega
    have hml2:((M.take (i+1)).map cH).length=i+1:=by rw [List.length_map]; exact hml1
    unfold bdS
    simp only []
    generalize M.take (i+1)=out at *
    simp [-map_map,-mapM_map,↓KW,aI,cF,q1,q0,hx,hx']
    refine aA (ds:=[aI c,.i .i64 q]) (by rfl) hF ?_
    simp [-map_map,-mapM_map,↓KW,aI,cF,aZ,aE,aB,aC,aQ]
    refine aA (ds:=[aM yb,cF cs]) (by rfl) hR ?_
    simp [-map_map,-mapM_map,↓KW,aI,cF,aZ,hw,hbb,hb8,hml1,hml2,aW,aE,aB,aC,aQ,aDw,vK,aAw,aEo,xJ]
    refine aK (i+1+1) hgo (Nat.sub_lt_sub_left hgo (Nat.lt_succ_self _)) ?_
    simp only [bdS]
    refine bC [1,2,6] (by simp) ?_ ?_ <;> simp [-map_map,upd,aT,Γ0,aI,cF,htk,sP]
  ·have e:i=R.length:=by omega
   rcases i with _ | i
   ·have q1:¬ 0<R.length:=by omega
    have eM:M=[]:=List.eq_nil_of_length_eq_zero (by omega)
    unfold bdS
    simp [-map_map,-mapM_map,↓KW,aI,cF,q1,eM,cP]
   ·have q1:¬ (i:Int)+1<R.length:=by omega
    have e2:M.take (i+1)=M:=List.take_of_length_le (by omega)
    have e3:(M.map cH).length=i+1:=by rw [List.length_map]; omega
    have e4:chunk 1 (i+1) (M.map cH)=M.map fun v=>[cH v]:=by rw [sB _ _ e3.symm,List.map_map]; rfl
    have e5:List.take (i+1) ((M.map cH).map AV.d)=(M.map cH).map AV.d:=List.take_of_length_le (by simp; omega)
    have e6:M.length=i+1:=by omega
    unfold bdS
    simp [-map_map,-mapM_map,↓KW,aI,cF,q1,e2,e3,e4,e5,e6,cP]
end Go.Am
end

section
set_option linter.unusedVariables false
set_option linter.unusedSimpArgs false
open Go Go.Am Go.Proofs
namespace Go.Am
/-! Sizes -/
theorem wU {e n:Nat} (h:n≤2 ^ e) (he:e<4398046511104):(aV n).length≤137438953472:=by
 have:=bLo (z:=(n:Int)) (E:=e) (by simpa using h) 137438953472 (by omega)
 simpa using this
theorem szE {e:Nat} {z:Int} (h:z.natAbs≤2 ^ e) (he:e<4398046511104):Sz z:=wU h he
theorem oV (a b:Nat):2 ^ a * 2 ^ b=2 ^ (a+b):=(Nat.pow_add 2 a b).symm
theorem aDp {a b:Nat} (h:a≤b):2 ^ a≤2 ^ b:=Nat.pow_le_pow_right (by decide) h
theorem qE {n l x:Nat} (h:n≤2 ^ l):n * 2 ^ x≤2 ^ (l+x):=by rw [← oV]; exact Nat.mul_le_mul_right _ h
theorem Bnd.pw {a b:Nat} {l:List (Int × Int)} (h:Bnd (2 ^ a) l) (k:a≤b):Bnd (2 ^ b) l:=h.mono (aDp k)
theorem Bnd.sz {e:Nat} {l:List (Int × Int)} (h:Bnd (2 ^ e) l) (he:e<4398046511104):∀ x∈l,Sz x.2:=fun x hx=>szE (h x hx) he
theorem aAk (k:Int) (b:List (Int × Int)):(mulR k b).length=b.length:=by simp [mulR]
theorem vM {c:List Cl} {L:Nat} (hb:∀ x∈c,x.b.length≤L) (n:Int):(bOf c n).length≤L:=by
 unfold bOf
 cases e:bT c n with
 | none=>exact Nat.zero_le _
 | some x=>exact hb x (dQ e).1
theorem sF {c:List Cl} {M:Nat} (hb:∀ x∈c,Bnd M x.b) (n:Int):Bnd M (bOf c n):=by
 unfold bOf
 cases e:bT c n with
 | none=>exact Bnd.nil M
 | some x=>exact hb x (dQ e).1
theorem aRx {c:List Cl} {L:Nat} (hb:∀ x∈c,x.b.length≤L):∀ x:List (Int × Int),(bdL c x).length≤x.length * L
 | []=>Nat.zero_le _
 | f::x=>by
  have:=aRx hb x
  have h2:=vM hb f.1
  show (mulR f.2 (bOf c f.1)++bdL c x).length≤_
  rw [List.length_append,aAk,List.length_cons,Nat.succ_mul]; omega
theorem aRy {c:List Cl} {K M:Nat} (hb:∀ x∈c,Bnd M x.b):∀ {x:List (Int × Int)},Bnd K x→Bnd (K * M) (bdL c x)
 | [],_=>Bnd.nil _
 | f::x,h=>(qL (h f (List.mem_cons_self ..)) (sF hb f.1)).app (aRy hb fun y hy=>h y (List.mem_cons_of_mem _ hy))
structure SzX (f:Nat) (c:List Cl):Prop where
 len:c.length≤100
 bl:∀ x∈c,x.b.length≤100
 bb:∀ x∈c,Bnd (2 ^ f) x.b
theorem bDn {f g:Nat} {c:List Cl} {x:List (Int × Int)} (hc:SzX f c) (hx:x.length≤100) (hg:Bnd (2 ^ g) x):(bdL c x).length≤10000∧Bnd (2 ^ (f+g)) (bdL c x):=by
 refine ⟨Nat.le_trans (aRx hc.bl x) (by omega),?_⟩
 have:=aRy hc.bb hg
 rwa [oV,Nat.add_comm] at this
theorem bKd {f g:Nat} {c:List Cl} {x:List (Int × Int)} (hc:SzX f c) (hx:x.length≤100) (hg:Bnd (2 ^ g) x):Bnd (2 ^ (f+g+14)) (bdX c x)∧(bdX c x).length≤10000:=by
 obtain ⟨h1,h2⟩:=bDn hc hx hg
 have h3:=kI (bdL c x) [] (Bnd.nil 0) h2
 have h4:=kH [] (bdL c x)
 refine ⟨h3.mono ?_,by simp only [List.length_nil] at h4; unfold bdX; omega⟩
 have:=qE (n:=(bdL c x).length) (l:=14) (x:=f+g) (Nat.le_trans h1 (by decide))
 rw [show 14+(f+g)=f+g+14 by omega] at this; omega
end Go.Am
end

section
set_option linter.unusedVariables false
set_option linter.unusedSimpArgs false
open Go Go.Am Go.Proofs
namespace Go.Am
end Go.Am
end

section
set_option linter.unusedVariables false
set_option linter.unusedSimpArgs false
open Go Go.Am Go.Proofs
namespace Go.Am
end Go.Am
end

section
set_option linter.unusedVariables false
set_option linter.unusedSimpArgs false
open List (map_map mapM_map)
open Go Go.Am Go.Proofs
namespace Go.Am
theorem aWb {ids v:List Int} {i:Nat} (h1:i<ids.length) (h2:i<v.length):(ids.zip v).take (i+1)=(ids.zip v).take i++[(ids[i],v[i])]:=by
 have h:i<(ids.zip v).length:=by rw [List.length_zip]; omega
 rw [List.take_add_one,List.getElem?_eq_getElem h,List.getElem_zip]; rfl
theorem bEx {ids v:List Int} {M:Nat} (h:∀ z∈v,z.natAbs≤M):Bnd M (ids.zip v):=fun x hx=>h _ (List.of_mem_zip hx).2
theorem Bnd.take {M i:Nat} {l:List (Int × Int)} (h:Bnd M l):Bnd M (l.take i):=fun x hx=>h x (List.mem_of_mem_take hx)
set_option maxHeartbeats 2000000 in
set_option maxRecDepth 10000 in
theorem aYi {g:Nat} (c:List Cl) (k:Int) (v:List Int) (hl:c.length≤100) (hv:∀ z∈v,z.natAbs≤2 ^ g) (hg:g+20<4398046511104) :
  Spec Tryz.prog 109 [aI c,.i .i64 k,cH v] (.tp [aM (chX c k v).1,.i .i64 (chX c k v).2]):=by
 have hI:=zZ c k (by omega)
 have hil:=lE c k
 by_cases he:v.length=(cS c k).length
 ·have hr:chX c k v=(bV [] ((cS c k).zip v),0):=by unfold chX; rw [if_pos he]
  rw [hr]
  clear hr
  generalize cS c k=ids at *
  have hb:=bEx (ids:=ids) hv
  have he':(((v.length:Int) != ids.length):Bool)=false:=by simp; omega
  refine aY (N:=38) aF Tryz.func109 rfl rfl rfl (by kernel_rfl) (by kernel_rfl) (by simp) ?_
  simp [-map_map,-mapM_map,↓KW,aI,cH]
  refine aA (ds:=[aI c,.i .i64 k]) (by rfl) hI ?_
  simp [-map_map,-mapM_map,↓KW,aI,cF,he']
  refine aU (fun i:Nat=>i≤v.length) (fun i=>StL [(2,.d (cH v)),(8,.d (cF ids)),(9,.d (aM (bV [] ((ids.zip v).take i)))),(10,.d (.i .i64 (i:Int)))] none []) (fun i=>v.length - i) 0 (Nat.zero_le _) ?_ ?_
  ·refine bC [] (by simp) ?_ ?_
   ·simp [-map_map,upd,aT,Γ0,cH,cF,aM,bV]
    exact lQ (by simp [iB,upd,sD]) (fun a _ id h=>by simp [mS] at h)
   ·trivial
  ·intro i hi
   by_cases hgo:i<v.length
   ·have q1:(i:Int)<v.length:=by omega
    have hgi:i<ids.length:=by omega
    have hx:v[i]? = some v[i]:=List.getElem?_eq_getElem hgo
    have hy:ids[i]? = some ids[i]:=List.getElem?_eq_getElem hgi
    have hz:=hv _ (List.getElem_mem hgo)
    have htk:bV [] ((ids.zip v).take (i+1))=lV (bV [] ((ids.zip v).take i)) (ids[i],v[i]):=by rw [aWb hgi hgo,aCc]; rfl
    have ho:=kI ((ids.zip v).take i) [] (Bnd.nil 0) hb.take
    have hol:=kH [] ((ids.zip v).take i)
    have hzl:((ids.zip v).take i).length≤100:=by rw [List.length_take,List.length_zip]; omega
    have hw:IntKind.i64.wrap ((i:Int)+1)=(i:Int)+1:=aS (by omega) (by omega)
    have hob:Bnd (2 ^ (7+g)) (bV [] ((ids.zip v).take i)):=ho.mono (by
     have:=qE (x:=g) (Nat.le_trans hzl (show 100≤2 ^ 7 by decide)); omega)
    generalize bV [] ((ids.zip v).take i)=out at *
    generalize v[i]=z at *
    generalize ids[i]=q at *
    have hin:=wL out q z (szE hz (by omega)) (hob.sz (by omega)) (by simp only [List.length_nil] at hol; omega)
    simp [-map_map,-mapM_map,↓KW,cH,cF,aGv,q1,hx,hy,aD,aJ]
    refine aA (ds:=[aM out,.ag (eE (q,z))]) (by rfl) hin ?_
    simp [-map_map,-mapM_map,↓KW,aM,hw]
    refine aK (i+1) hgo (Nat.sub_lt_sub_left hgo (Nat.lt_succ_self _)) (bC [] (by simp) ?_ ?_)
    ·simp [-map_map,upd,aT,Γ0,cH,cF,aM,htk]
    ·trivial
   ·have q1:¬ (i:Int)<v.length:=by omega
    rw [List.take_of_length_le (by rw [List.length_zip]; omega)]
    generalize bV [] (ids.zip v)=out at *
    simp [-map_map,-mapM_map,↓KW,cH,cF,aM,q1,mG]
 ·have hr:chX c k v=([],50):=by unfold chX; rw [if_neg he]
  rw [hr]
  clear hr
  generalize cS c k=ids at *
  have he':(((v.length:Int) != ids.length):Bool)=true:=by simp; omega
  refine aY (N:=38) aF Tryz.func109 rfl rfl rfl (by kernel_rfl) (by kernel_rfl) (by simp) ?_
  simp [-map_map,-mapM_map,↓KW,aI,cH]
  refine aA (ds:=[aI c,.i .i64 k]) (by rfl) hI ?_
  simp [-map_map,-mapM_map,↓KW,aI,cF,aM,he',mG]
set_option maxHeartbeats 1000000 in
set_option maxRecDepth 10000 in
theorem bPv {g:Nat} (c:List Cl) (k:Int) (v:List Int) (hl:c.length≤100) (hv:∀ z∈v,z.natAbs≤2 ^ g) (hg:g+20<4398046511104) :
  Spec Tryz.prog 72 [aI c,.i .i64 k,cH v] (aM (chX c k v).1):=by
 refine aY (N:=17) aF Tryz.func72 rfl rfl rfl (by kernel_rfl) (by kernel_rfl) (by simp) ?_
 have h:=aYi c k v hl hv hg
 generalize (chX c k v).1=out at *
 generalize (chX c k v).2=e at *
 simp [-map_map,-mapM_map,↓KW,aI,cH]
 refine aA (ds:=[aI c,.i .i64 k,cH v]) (by rfl) h ?_
 simp [-map_map,-mapM_map,↓KW,aM]
def bL (l:List Int):D:=.sl (l.map fun n=>[.i .i64 n])
def prs:List Int→List (Int × Int)
 | a::b::l=>(a,b)::prs l
 | _=>[]
theorem aJe:∀ (l:List Int) (i:Nat),2 * i+1<l.length→prs (l.drop (2 * i))=(l.getD (2 * i) 0,l.getD (2 * i+1) 0)::prs (l.drop (2 * (i+1)))
 | [],i,h=>by simp at h
 | [a],i,h=>by simp at h
 | a::b::l,0,h=>rfl
 | a::b::l,i+1,h=>by
  have:=aJe l i (by simp only [List.length_cons] at h; omega)
  rw [show 2 * (i+1)=2 * i+1+1 by omega,show 2 * (i+1+1)=2 * (i+1)+1+1 by omega]
  simp only [List.drop_succ_cons,List.getD_cons_succ]
  exact this
theorem aTk {l:List Int} (h:l.length≤1):prs l=[]:=by
 rcases l with _ | ⟨a,_ | ⟨b,l⟩⟩
 ·rfl
 ·rfl
 ·simp at h
set_option maxHeartbeats 2000000 in
set_option maxRecDepth 10000 in
theorem eH (id dim:Int) (l:List Int) (hl:l.length≤100) (hb:∀ z∈l,-1000≤z∧z≤1000):Spec Tryz.prog 86 [.i .i64 id,.i .i64 dim,bL l] (.ag (aZ ⟨id,dim,bV [] (prs l)⟩)):=by
 refine aY (N:=34) aF Tryz.func86 rfl rfl rfl (by kernel_rfl) (by kernel_rfl) (by simp) ?_
 simp [-map_map,-mapM_map,↓KW,bL]
 refine aU (fun y:Nat × List (Int × Int)=>2 * y.1≤l.length+1∧bV y.2 (prs (l.drop (2 * y.1)))=bV [] (prs l)∧y.2.length≤y.1∧Bnd (y.1 * 1000) y.2) (fun y=>StL [(0,.d (.i .i64 id)),(1,.d (.i .i64 dim)),(2,.d (bL l)),(6,.ptr 1 0),(7,.d (aM y.2)),(8,.d (.i .i64 ((2 * y.1:Nat):Int)))] none [.cells 47 [.d (.i .i64 0),.d (.i .i64 0),.nil]]) (fun y=>l.length+1 - 2 * y.1) (0,[]) ⟨Nat.zero_le _,rfl,Nat.zero_le _,Bnd.nil _⟩ ?_ ?_
 ·refine bC [1] (by simp) ?_ ?_
  ·simp [-map_map,upd,aT,Γ0,bL,aM]
   exact lQ (by simp [iB,upd,sD]) (fun a ha id h=>by
    simp [upd] at ha
    by_cases e:id=1
    ·subst e; rw [ha]; show (1:Nat)≠2; decide
    ·simp [mS,upd,e] at h)
  ·simp [-map_map,upd,aT,Γ0,bL,aM]
 ·rintro ⟨i,out⟩ ⟨hi,ho,hol,hob⟩
  simp only at hi ho hol hob ⊢
  have hw1:IntKind.i64.wrap (((2 * i:Nat):Int)+1)=((2 * i:Nat):Int)+1:=aS (by omega) (by omega)
  have hw2:IntKind.i64.wrap (((2 * i:Nat):Int)+2)=((2 * i:Nat):Int)+2:=aS (by omega) (by omega)
  by_cases hgo:2 * i+1<l.length
  ·have q1:((2 * i:Nat):Int)+1<l.length:=by omega
   have hg2:2 * i<l.length:=by omega
   have hx:l[2 * i]? = some (l.getD (2 * i) 0):=by rw [List.getD_eq_getElem?_getD,List.getElem?_eq_getElem hg2]; rfl
   have hy:l[2 * i+1]? = some (l.getD (2 * i+1) 0):=by rw [List.getD_eq_getElem?_getD,List.getElem?_eq_getElem hgo]; rfl
   have hbx:=hb _ (List.mem_of_getElem? hx)
   have hby:=hb _ (List.mem_of_getElem? hy)
   rw [aJe l i hgo] at ho
   generalize l.getD (2 * i) 0=a at *
   generalize l.getD (2 * i+1) 0=b at *
   have hof:=uC b (by omega) (by omega)
   have hin:=wL out a b (szE (e:=10) (by omega) (by decide)) (fun x hx=>szE (e:=20) (Nat.le_trans (hob x hx) (by omega)) (by decide)) (by omega)
   have hnb:Bnd ((i+1) * 1000) (lV out (a,b)):=(aKp (K:=1000) hob (by show b.natAbs≤1000; omega)).mono (by omega)
   have hnl:=aEn out (a,b)
   have ec:(((2 * i:Nat):Int)+2)=((2 * (i+1):Nat):Int):=by omega
   have ec1:(((2 * i:Nat):Int)+1)=((2 * i+1:Nat):Int):=by omega
   rw [ec1] at hw1 q1
   rw [ec] at hw2
   generalize hm1:2 * i+1=m1 at *
   generalize hm2:2 * (i+1)=m2 at *
   generalize hm:2 * i=m at *
   simp [-map_map,-mapM_map,↓KW,bL,hw1,q1,hx,hy,ec1]
   refine aA (ds:=[.i .i64 b]) (by rfl) hof ?_
   rw [bI]
   simp [-map_map,-mapM_map,↓KW,aM,aD,aJ,aP,bH,aX]
   refine aA (ds:=[aM out,.ag (eE (a,b))]) (by rfl) hin ?_
   simp [-map_map,-mapM_map,↓KW,aM,hw2,ec]
   refine aK (i+1,lV out (a,b)) ⟨by omega,by rw [hm2]; exact ho,by simp only; omega,hnb⟩ (by simp only; omega) (bC [1] (by simp) ?_ ?_)
   ·simp [-map_map,upd,aT,Γ0,bL,aM,hm2]
    omega
   ·simp [-map_map,upd,aT,Γ0,bL,aM,hm2]
  ·have q1:¬ ((2 * i:Nat):Int)+1<l.length:=by omega
   rw [aTk (by rw [List.length_drop]; omega)] at ho
   generalize hm:2 * i=m at *
   rw [← ho]
   have e:bV out []=out:=rfl
   rw [e]
   simp [-map_map,-mapM_map,↓KW,bL,aZ,aM,hw1,q1]
end Go.Am
end

section
set_option linter.unusedVariables false
set_option linter.unusedSimpArgs false
open List (map_map mapM_map)
open Go Go.Am Go.Proofs
namespace Go.Am
def spc:Nat→List Cl
 | 0=>[]
 | 1=>[⟨1,0,[]⟩]
 | 2=>[⟨1,0,[]⟩,⟨7,0,[]⟩]
 | 3=>[⟨1,0,[]⟩,⟨2,0,[]⟩,⟨3,1,[(1,-1),(2,1)]⟩]
 | 4=>[⟨1,0,[]⟩,⟨2,1,[]⟩]
 | 5=>[⟨1,0,[]⟩,⟨2,0,[]⟩,⟨3,0,[]⟩,⟨4,1,[(1,-1),(2,1)]⟩,⟨5,1,[(2,-1),(3,1)]⟩,⟨6,1,[(1,1),(3,-1)]⟩]
 | 6=>[⟨1,0,[]⟩,⟨2,0,[]⟩,⟨3,0,[]⟩,⟨4,1,[(1,-1),(2,1)]⟩,⟨5,1,[(2,-1),(3,1)]⟩,⟨6,1,[(1,1),(3,-1)]⟩,⟨9,2,[(4,1),(5,1),(6,1)]⟩]
 | 7=>[⟨1,0,[]⟩,⟨2,2,[]⟩]
 | 8=>[⟨1,0,[]⟩,⟨2,1,[]⟩,⟨3,1,[]⟩,⟨4,2,[]⟩]
 | 9=>[⟨1,0,[]⟩,⟨2,1,[]⟩,⟨3,2,[(2,2)]⟩]
 | 10=>[⟨1,0,[]⟩,⟨2,1,[]⟩,⟨3,1,[]⟩,⟨4,2,[(2,2)]⟩]
 | 11=>[⟨1,0,[]⟩,⟨2,1,[]⟩,⟨3,2,[(2,3)]⟩,⟨4,3,[]⟩]
 | 12=>[⟨1,0,[]⟩,⟨2,1,[]⟩,⟨3,2,[(2,4)]⟩,⟨4,2,[(2,6)]⟩]
 | 13=>[⟨1,0,[]⟩,⟨2,1,[]⟩,⟨3,0,[]⟩,⟨5,1,[]⟩,⟨6,2,[(5,2)]⟩]
 | _=>[]
theorem nN:Spec Tryz.prog 86 [.i .i64 1,.i .i64 0,bL []] (.ag [.i .i64 1,.i .i64 0,aM []]):=eH 1 0 [] (by decide) (by decide)
theorem nM:Spec Tryz.prog 86 [.i .i64 2,.i .i64 1,bL []] (.ag [.i .i64 2,.i .i64 1,aM []]):=eH 2 1 [] (by decide) (by decide)
theorem mQ:Spec Tryz.prog 86 [.i .i64 2,.i .i64 0,bL []] (.ag [.i .i64 2,.i .i64 0,aM []]):=eH 2 0 [] (by decide) (by decide)
theorem mP:Spec Tryz.prog 86 [.i .i64 3,.i .i64 0,bL []] (.ag [.i .i64 3,.i .i64 0,aM []]):=eH 3 0 [] (by decide) (by decide)
theorem nL:Spec Tryz.prog 86 [.i .i64 4,.i .i64 1,bL [1,-1,2,1]] (.ag [.i .i64 4,.i .i64 1,aM [(1,-1),(2,1)]]):=eH 4 1 [1,-1,2,1] (by decide) (by decide)
theorem nK:Spec Tryz.prog 86 [.i .i64 5,.i .i64 1,bL [2,-1,3,1]] (.ag [.i .i64 5,.i .i64 1,aM [(2,-1),(3,1)]]):=eH 5 1 [2,-1,3,1] (by decide) (by decide)
theorem nJ:Spec Tryz.prog 86 [.i .i64 6,.i .i64 1,bL [1,1,3,-1]] (.ag [.i .i64 6,.i .i64 1,aM [(1,1),(3,-1)]]):=eH 6 1 [1,1,3,-1] (by decide) (by decide)
theorem bRs:Spec Tryz.prog 86 [.i .i64 7,.i .i64 0,bL []] (.ag [.i .i64 7,.i .i64 0,aM []]):=eH 7 0 [] (by decide) (by decide)
theorem bRr:Spec Tryz.prog 86 [.i .i64 3,.i .i64 1,bL [1,-1,2,1]] (.ag [.i .i64 3,.i .i64 1,aM [(1,-1),(2,1)]]):=eH 3 1 [1,-1,2,1] (by decide) (by decide)
theorem bRq:Spec Tryz.prog 86 [.i .i64 9,.i .i64 2,bL [4,1,5,1,6,1]] (.ag [.i .i64 9,.i .i64 2,aM [(4,1),(5,1),(6,1)]]):=eH 9 2 [4,1,5,1,6,1] (by decide) (by decide)
theorem bOx:Spec Tryz.prog 86 [.i .i64 2,.i .i64 2,bL []] (.ag [.i .i64 2,.i .i64 2,aM []]):=eH 2 2 [] (by decide) (by decide)
theorem bCy:Spec Tryz.prog 86 [.i .i64 3,.i .i64 1,bL []] (.ag [.i .i64 3,.i .i64 1,aM []]):=eH 3 1 [] (by decide) (by decide)
theorem bOw:Spec Tryz.prog 86 [.i .i64 4,.i .i64 2,bL []] (.ag [.i .i64 4,.i .i64 2,aM []]):=eH 4 2 [] (by decide) (by decide)
theorem bOv:Spec Tryz.prog 86 [.i .i64 3,.i .i64 2,bL [2,2]] (.ag [.i .i64 3,.i .i64 2,aM [(2,2)]]):=eH 3 2 [2,2] (by decide) (by decide)
theorem bOu:Spec Tryz.prog 86 [.i .i64 4,.i .i64 2,bL [2,2]] (.ag [.i .i64 4,.i .i64 2,aM [(2,2)]]):=eH 4 2 [2,2] (by decide) (by decide)
theorem bOt:Spec Tryz.prog 86 [.i .i64 3,.i .i64 2,bL [2,3]] (.ag [.i .i64 3,.i .i64 2,aM [(2,3)]]):=eH 3 2 [2,3] (by decide) (by decide)
theorem bOs:Spec Tryz.prog 86 [.i .i64 4,.i .i64 3,bL []] (.ag [.i .i64 4,.i .i64 3,aM []]):=eH 4 3 [] (by decide) (by decide)
theorem bOr:Spec Tryz.prog 86 [.i .i64 3,.i .i64 2,bL [2,4]] (.ag [.i .i64 3,.i .i64 2,aM [(2,4)]]):=eH 3 2 [2,4] (by decide) (by decide)
theorem bOq:Spec Tryz.prog 86 [.i .i64 4,.i .i64 2,bL [2,6]] (.ag [.i .i64 4,.i .i64 2,aM [(2,6)]]):=eH 4 2 [2,6] (by decide) (by decide)
theorem bOp:Spec Tryz.prog 86 [.i .i64 5,.i .i64 1,bL []] (.ag [.i .i64 5,.i .i64 1,aM []]):=eH 5 1 [] (by decide) (by decide)
theorem bOo:Spec Tryz.prog 86 [.i .i64 6,.i .i64 2,bL [5,2]] (.ag [.i .i64 6,.i .i64 2,aM [(5,2)]]):=eH 6 2 [5,2] (by decide) (by decide)
set_option maxHeartbeats 2000000 in
set_option maxRecDepth 10000 in
theorem bMo (k:Int) (hk:k.tmod 14=0):Spec Tryz.prog 35 [.i .u8 k] (aI (spc 0)):=by
 have hr:aI (spc 0)=.sl []:=rfl
 have hw:IntKind.u8.wrap 0=0:=by decide
 have hm2:∀ n,n≤100→n≤maxLen:=fun n h=>aW (by omega)
 rw [hr]
 refine aY (N:=104) aF Tryz.func35 rfl rfl rfl (by kernel_rfl) (by kernel_rfl) (by simp) ?_
 simp [-map_map,-mapM_map,↓KW,]
 refine aA (ds:=[.i .i64 1,.i .i64 0,bL []]) (by rfl) nN ?_
 simp [-map_map,-mapM_map,↓KW,hk,hw,hm2,aE,aB,aC,aQ]
 refine aA (ds:=[.i .i64 2,.i .i64 1,bL []]) (by rfl) nM ?_
 simp [-map_map,-mapM_map,↓KW,hk,hw,hm2,aE,aB,aC,aQ]
 refine aA (ds:=[.i .i64 2,.i .i64 0,bL []]) (by rfl) mQ ?_
 simp [-map_map,-mapM_map,↓KW,hk,hw,hm2,aE,aB,aC,aQ]
 refine aA (ds:=[.i .i64 3,.i .i64 0,bL []]) (by rfl) mP ?_
 simp [-map_map,-mapM_map,↓KW,hk,hw,hm2,aE,aB,aC,aQ]
 refine aA (ds:=[.i .i64 4,.i .i64 1,bL [1,-1,2,1]]) (by rfl) nL ?_
 simp [-map_map,-mapM_map,↓KW,hk,hw,hm2,aE,aB,aC,aQ]
 refine aA (ds:=[.i .i64 5,.i .i64 1,bL [2,-1,3,1]]) (by rfl) nK ?_
 simp [-map_map,-mapM_map,↓KW,hk,hw,hm2,aE,aB,aC,aQ]
 refine aA (ds:=[.i .i64 6,.i .i64 1,bL [1,1,3,-1]]) (by rfl) nJ ?_
 simp [-map_map,-mapM_map,↓KW,hk,hw,hm2,aE,aB,aC,aQ]
set_option maxHeartbeats 2000000 in
set_option maxRecDepth 10000 in
theorem bMn (k:Int) (hk:k.tmod 14=1):Spec Tryz.prog 35 [.i .u8 k] (aI (spc 1)):=by
 have hr:aI (spc 1)=.sl [[.i .i64 1,.i .i64 0,aM []]]:=rfl
 have hw:IntKind.u8.wrap 1=1:=by decide
 have hm2:∀ n,n≤100→n≤maxLen:=fun n h=>aW (by omega)
 rw [hr]
 refine aY (N:=104) aF Tryz.func35 rfl rfl rfl (by kernel_rfl) (by kernel_rfl) (by simp) ?_
 simp [-map_map,-mapM_map,↓KW,]
 refine aA (ds:=[.i .i64 1,.i .i64 0,bL []]) (by rfl) nN ?_
 simp [-map_map,-mapM_map,↓KW,hk,hw,hm2,aE,aB,aC,aQ]
 refine aA (ds:=[.i .i64 2,.i .i64 1,bL []]) (by rfl) nM ?_
 simp [-map_map,-mapM_map,↓KW,hk,hw,hm2,aE,aB,aC,aQ]
 refine aA (ds:=[.i .i64 2,.i .i64 0,bL []]) (by rfl) mQ ?_
 simp [-map_map,-mapM_map,↓KW,hk,hw,hm2,aE,aB,aC,aQ]
 refine aA (ds:=[.i .i64 3,.i .i64 0,bL []]) (by rfl) mP ?_
 simp [-map_map,-mapM_map,↓KW,hk,hw,hm2,aE,aB,aC,aQ]
 refine aA (ds:=[.i .i64 4,.i .i64 1,bL [1,-1,2,1]]) (by rfl) nL ?_
 simp [-map_map,-mapM_map,↓KW,hk,hw,hm2,aE,aB,aC,aQ]
 refine aA (ds:=[.i .i64 5,.i .i64 1,bL [2,-1,3,1]]) (by rfl) nK ?_
 simp [-map_map,-mapM_map,↓KW,hk,hw,hm2,aE,aB,aC,aQ]
 refine aA (ds:=[.i .i64 6,.i .i64 1,bL [1,1,3,-1]]) (by rfl) nJ ?_
 simp [-map_map,-mapM_map,↓KW,hk,hw,hm2,aE,aB,aC,aQ]
set_option maxHeartbeats 2000000 in
set_option maxRecDepth 10000 in
theorem bMm (k:Int) (hk:k.tmod 14=2):Spec Tryz.prog 35 [.i .u8 k] (aI (spc 2)):=by
 have hr:aI (spc 2)=.sl [[.i .i64 1,.i .i64 0,aM []],[.i .i64 7,.i .i64 0,aM []]]:=rfl
 have hw:IntKind.u8.wrap 2=2:=by decide
 have hm2:∀ n,n≤100→n≤maxLen:=fun n h=>aW (by omega)
 rw [hr]
 refine aY (N:=104) aF Tryz.func35 rfl rfl rfl (by kernel_rfl) (by kernel_rfl) (by simp) ?_
 simp [-map_map,-mapM_map,↓KW,]
 refine aA (ds:=[.i .i64 1,.i .i64 0,bL []]) (by rfl) nN ?_
 simp [-map_map,-mapM_map,↓KW,hk,hw,hm2,aE,aB,aC,aQ]
 refine aA (ds:=[.i .i64 2,.i .i64 1,bL []]) (by rfl) nM ?_
 simp [-map_map,-mapM_map,↓KW,hk,hw,hm2,aE,aB,aC,aQ]
 refine aA (ds:=[.i .i64 2,.i .i64 0,bL []]) (by rfl) mQ ?_
 simp [-map_map,-mapM_map,↓KW,hk,hw,hm2,aE,aB,aC,aQ]
 refine aA (ds:=[.i .i64 3,.i .i64 0,bL []]) (by rfl) mP ?_
 simp [-map_map,-mapM_map,↓KW,hk,hw,hm2,aE,aB,aC,aQ]
 refine aA (ds:=[.i .i64 4,.i .i64 1,bL [1,-1,2,1]]) (by rfl) nL ?_
 simp [-map_map,-mapM_map,↓KW,hk,hw,hm2,aE,aB,aC,aQ]
 refine aA (ds:=[.i .i64 5,.i .i64 1,bL [2,-1,3,1]]) (by rfl) nK ?_
 simp [-map_map,-mapM_map,↓KW,hk,hw,hm2,aE,aB,aC,aQ]
 refine aA (ds:=[.i .i64 6,.i .i64 1,bL [1,1,3,-1]]) (by rfl) nJ ?_
 simp [-map_map,-mapM_map,↓KW,hk,hw,hm2,aE,aB,aC,aQ]
 refine aA (ds:=[.i .i64 7,.i .i64 0,bL []]) (by rfl) bRs ?_
 simp [-map_map,-mapM_map,↓KW,hk,hw,hm2,aE,aB,aC,aQ]
set_option maxHeartbeats 2000000 in
set_option maxRecDepth 10000 in
theorem bMl (k:Int) (hk:k.tmod 14=3):Spec Tryz.prog 35 [.i .u8 k] (aI (spc 3)):=by
 have hr:aI (spc 3)=.sl [[.i .i64 1,.i .i64 0,aM []],[.i .i64 2,.i .i64 0,aM []],[.i .i64 3,.i .i64 1,aM [(1,-1),(2,1)]]]:=rfl
 have hw:IntKind.u8.wrap 3=3:=by decide
 have hm2:∀ n,n≤100→n≤maxLen:=fun n h=>aW (by omega)
 rw [hr]
 refine aY (N:=104) aF Tryz.func35 rfl rfl rfl (by kernel_rfl) (by kernel_rfl) (by simp) ?_
 simp [-map_map,-mapM_map,↓KW,]
 refine aA (ds:=[.i .i64 1,.i .i64 0,bL []]) (by rfl) nN ?_
 simp [-map_map,-mapM_map,↓KW,hk,hw,hm2,aE,aB,aC,aQ]
 refine aA (ds:=[.i .i64 2,.i .i64 1,bL []]) (by rfl) nM ?_
 simp [-map_map,-mapM_map,↓KW,hk,hw,hm2,aE,aB,aC,aQ]
 refine aA (ds:=[.i .i64 2,.i .i64 0,bL []]) (by rfl) mQ ?_
 simp [-map_map,-mapM_map,↓KW,hk,hw,hm2,aE,aB,aC,aQ]
 refine aA (ds:=[.i .i64 3,.i .i64 0,bL []]) (by rfl) mP ?_
 simp [-map_map,-mapM_map,↓KW,hk,hw,hm2,aE,aB,aC,aQ]
 refine aA (ds:=[.i .i64 4,.i .i64 1,bL [1,-1,2,1]]) (by rfl) nL ?_
 simp [-map_map,-mapM_map,↓KW,hk,hw,hm2,aE,aB,aC,aQ]
 refine aA (ds:=[.i .i64 5,.i .i64 1,bL [2,-1,3,1]]) (by rfl) nK ?_
 simp [-map_map,-mapM_map,↓KW,hk,hw,hm2,aE,aB,aC,aQ]
 refine aA (ds:=[.i .i64 6,.i .i64 1,bL [1,1,3,-1]]) (by rfl) nJ ?_
 simp [-map_map,-mapM_map,↓KW,hk,hw,hm2,aE,aB,aC,aQ]
 refine aA (ds:=[.i .i64 2,.i .i64 0,bL []]) (by rfl) mQ ?_
 simp [-map_map,-mapM_map,↓KW,hk,hw,hm2,aE,aB,aC,aQ]
 refine aA (ds:=[.i .i64 3,.i .i64 1,bL [1,-1,2,1]]) (by rfl) bRr ?_
 simp [-map_map,-mapM_map,↓KW,hk,hw,hm2,aE,aB,aC,aQ]
 rfl
set_option maxHeartbeats 2000000 in
set_option maxRecDepth 10000 in
theorem bMk (k:Int) (hk:k.tmod 14=4):Spec Tryz.prog 35 [.i .u8 k] (aI (spc 4)):=by
 have hr:aI (spc 4)=.sl [[.i .i64 1,.i .i64 0,aM []],[.i .i64 2,.i .i64 1,aM []]]:=rfl
 have hw:IntKind.u8.wrap 4=4:=by decide
 have hm2:∀ n,n≤100→n≤maxLen:=fun n h=>aW (by omega)
 rw [hr]
 refine aY (N:=104) aF Tryz.func35 rfl rfl rfl (by kernel_rfl) (by kernel_rfl) (by simp) ?_
 simp [-map_map,-mapM_map,↓KW,]
 refine aA (ds:=[.i .i64 1,.i .i64 0,bL []]) (by rfl) nN ?_
 simp [-map_map,-mapM_map,↓KW,hk,hw,hm2,aE,aB,aC,aQ]
 refine aA (ds:=[.i .i64 2,.i .i64 1,bL []]) (by rfl) nM ?_
 simp [-map_map,-mapM_map,↓KW,hk,hw,hm2,aE,aB,aC,aQ]
 refine aA (ds:=[.i .i64 2,.i .i64 0,bL []]) (by rfl) mQ ?_
 simp [-map_map,-mapM_map,↓KW,hk,hw,hm2,aE,aB,aC,aQ]
 refine aA (ds:=[.i .i64 3,.i .i64 0,bL []]) (by rfl) mP ?_
 simp [-map_map,-mapM_map,↓KW,hk,hw,hm2,aE,aB,aC,aQ]
 refine aA (ds:=[.i .i64 4,.i .i64 1,bL [1,-1,2,1]]) (by rfl) nL ?_
 simp [-map_map,-mapM_map,↓KW,hk,hw,hm2,aE,aB,aC,aQ]
 refine aA (ds:=[.i .i64 5,.i .i64 1,bL [2,-1,3,1]]) (by rfl) nK ?_
 simp [-map_map,-mapM_map,↓KW,hk,hw,hm2,aE,aB,aC,aQ]
 refine aA (ds:=[.i .i64 6,.i .i64 1,bL [1,1,3,-1]]) (by rfl) nJ ?_
 simp [-map_map,-mapM_map,↓KW,hk,hw,hm2,aE,aB,aC,aQ]
set_option maxHeartbeats 2000000 in
set_option maxRecDepth 10000 in
theorem bMj (k:Int) (hk:k.tmod 14=5):Spec Tryz.prog 35 [.i .u8 k] (aI (spc 5)):=by
 have hr:aI (spc 5)=.sl [[.i .i64 1,.i .i64 0,aM []],[.i .i64 2,.i .i64 0,aM []],[.i .i64 3,.i .i64 0,aM []],[.i .i64 4,.i .i64 1,aM [(1,-1),(2,1)]],[.i .i64 5,.i .i64 1,aM [(2,-1),(3,1)]],[.i .i64 6,.i .i64 1,aM [(1,1),(3,-1)]]]:=rfl
 have hw:IntKind.u8.wrap 5=5:=by decide
 have hm2:∀ n,n≤100→n≤maxLen:=fun n h=>aW (by omega)
 rw [hr]
 refine aY (N:=104) aF Tryz.func35 rfl rfl rfl (by kernel_rfl) (by kernel_rfl) (by simp) ?_
 simp [-map_map,-mapM_map,↓KW,]
 refine aA (ds:=[.i .i64 1,.i .i64 0,bL []]) (by rfl) nN ?_
 simp [-map_map,-mapM_map,↓KW,hk,hw,hm2,aE,aB,aC,aQ]
 refine aA (ds:=[.i .i64 2,.i .i64 1,bL []]) (by rfl) nM ?_
 simp [-map_map,-mapM_map,↓KW,hk,hw,hm2,aE,aB,aC,aQ]
 refine aA (ds:=[.i .i64 2,.i .i64 0,bL []]) (by rfl) mQ ?_
 simp [-map_map,-mapM_map,↓KW,hk,hw,hm2,aE,aB,aC,aQ]
 refine aA (ds:=[.i .i64 3,.i .i64 0,bL []]) (by rfl) mP ?_
 simp [-map_map,-mapM_map,↓KW,hk,hw,hm2,aE,aB,aC,aQ]
 refine aA (ds:=[.i .i64 4,.i .i64 1,bL [1,-1,2,1]]) (by rfl) nL ?_
 simp [-map_map,-mapM_map,↓KW,hk,hw,hm2,aE,aB,aC,aQ]
 refine aA (ds:=[.i .i64 5,.i .i64 1,bL [2,-1,3,1]]) (by rfl) nK ?_
 simp [-map_map,-mapM_map,↓KW,hk,hw,hm2,aE,aB,aC,aQ]
 refine aA (ds:=[.i .i64 6,.i .i64 1,bL [1,1,3,-1]]) (by rfl) nJ ?_
 simp [-map_map,-mapM_map,↓KW,hk,hw,hm2,aE,aB,aC,aQ]
 rfl
set_option maxHeartbeats 2000000 in
set_option maxRecDepth 10000 in
theorem bMi (k:Int) (hk:k.tmod 14=6):Spec Tryz.prog 35 [.i .u8 k] (aI (spc 6)):=by
 have hr:aI (spc 6)=.sl [[.i .i64 1,.i .i64 0,aM []],[.i .i64 2,.i .i64 0,aM []],[.i .i64 3,.i .i64 0,aM []],[.i .i64 4,.i .i64 1,aM [(1,-1),(2,1)]],[.i .i64 5,.i .i64 1,aM [(2,-1),(3,1)]],[.i .i64 6,.i .i64 1,aM [(1,1),(3,-1)]],[.i .i64 9,.i .i64 2,aM [(4,1),(5,1),(6,1)]]]:=rfl
 have hw:IntKind.u8.wrap 6=6:=by decide
 have hm2:∀ n,n≤100→n≤maxLen:=fun n h=>aW (by omega)
 rw [hr]
 refine aY (N:=104) aF Tryz.func35 rfl rfl rfl (by kernel_rfl) (by kernel_rfl) (by simp) ?_
 simp [-map_map,-mapM_map,↓KW,]
 refine aA (ds:=[.i .i64 1,.i .i64 0,bL []]) (by rfl) nN ?_
 simp [-map_map,-mapM_map,↓KW,hk,hw,hm2,aE,aB,aC,aQ]
 refine aA (ds:=[.i .i64 2,.i .i64 1,bL []]) (by rfl) nM ?_
 simp [-map_map,-mapM_map,↓KW,hk,hw,hm2,aE,aB,aC,aQ]
 refine aA (ds:=[.i .i64 2,.i .i64 0,bL []]) (by rfl) mQ ?_
 simp [-map_map,-mapM_map,↓KW,hk,hw,hm2,aE,aB,aC,aQ]
 refine aA (ds:=[.i .i64 3,.i .i64 0,bL []]) (by rfl) mP ?_
 simp [-map_map,-mapM_map,↓KW,hk,hw,hm2,aE,aB,aC,aQ]
 refine aA (ds:=[.i .i64 4,.i .i64 1,bL [1,-1,2,1]]) (by rfl) nL ?_
 simp [-map_map,-mapM_map,↓KW,hk,hw,hm2,aE,aB,aC,aQ]
 refine aA (ds:=[.i .i64 5,.i .i64 1,bL [2,-1,3,1]]) (by rfl) nK ?_
 simp [-map_map,-mapM_map,↓KW,hk,hw,hm2,aE,aB,aC,aQ]
 refine aA (ds:=[.i .i64 6,.i .i64 1,bL [1,1,3,-1]]) (by rfl) nJ ?_
 simp [-map_map,-mapM_map,↓KW,hk,hw,hm2,aE,aB,aC,aQ]
 refine aA (ds:=[.i .i64 9,.i .i64 2,bL [4,1,5,1,6,1]]) (by rfl) bRq ?_
 simp [-map_map,-mapM_map,↓KW,hk,hw,hm2,aE,aB,aC,aQ]
 rfl
set_option maxHeartbeats 2000000 in
set_option maxRecDepth 10000 in
theorem bMh (k:Int) (hk:k.tmod 14=7):Spec Tryz.prog 35 [.i .u8 k] (aI (spc 7)):=by
 have hr:aI (spc 7)=.sl [[.i .i64 1,.i .i64 0,aM []],[.i .i64 2,.i .i64 2,aM []]]:=rfl
 have hw:IntKind.u8.wrap 7=7:=by decide
 have hm2:∀ n,n≤100→n≤maxLen:=fun n h=>aW (by omega)
 rw [hr]
 refine aY (N:=104) aF Tryz.func35 rfl rfl rfl (by kernel_rfl) (by kernel_rfl) (by simp) ?_
 simp [-map_map,-mapM_map,↓KW,]
 refine aA (ds:=[.i .i64 1,.i .i64 0,bL []]) (by rfl) nN ?_
 simp [-map_map,-mapM_map,↓KW,hk,hw,hm2,aE,aB,aC,aQ]
 refine aA (ds:=[.i .i64 2,.i .i64 1,bL []]) (by rfl) nM ?_
 simp [-map_map,-mapM_map,↓KW,hk,hw,hm2,aE,aB,aC,aQ]
 refine aA (ds:=[.i .i64 2,.i .i64 0,bL []]) (by rfl) mQ ?_
 simp [-map_map,-mapM_map,↓KW,hk,hw,hm2,aE,aB,aC,aQ]
 refine aA (ds:=[.i .i64 3,.i .i64 0,bL []]) (by rfl) mP ?_
 simp [-map_map,-mapM_map,↓KW,hk,hw,hm2,aE,aB,aC,aQ]
 refine aA (ds:=[.i .i64 4,.i .i64 1,bL [1,-1,2,1]]) (by rfl) nL ?_
 simp [-map_map,-mapM_map,↓KW,hk,hw,hm2,aE,aB,aC,aQ]
 refine aA (ds:=[.i .i64 5,.i .i64 1,bL [2,-1,3,1]]) (by rfl) nK ?_
 simp [-map_map,-mapM_map,↓KW,hk,hw,hm2,aE,aB,aC,aQ]
 refine aA (ds:=[.i .i64 6,.i .i64 1,bL [1,1,3,-1]]) (by rfl) nJ ?_
 simp [-map_map,-mapM_map,↓KW,hk,hw,hm2,aE,aB,aC,aQ]
 refine aA (ds:=[.i .i64 2,.i .i64 2,bL []]) (by rfl) bOx ?_
 simp [-map_map,-mapM_map,↓KW,hk,hw,hm2,aE,aB,aC,aQ]
set_option maxHeartbeats 2000000 in
set_option maxRecDepth 10000 in
theorem bMg (k:Int) (hk:k.tmod 14=8):Spec Tryz.prog 35 [.i .u8 k] (aI (spc 8)):=by
 have hr:aI (spc 8)=.sl [[.i .i64 1,.i .i64 0,aM []],[.i .i64 2,.i .i64 1,aM []],[.i .i64 3,.i .i64 1,aM []],[.i .i64 4,.i .i64 2,aM []]]:=rfl
 have hw:IntKind.u8.wrap 8=8:=by decide
 have hm2:∀ n,n≤100→n≤maxLen:=fun n h=>aW (by omega)
 rw [hr]
 refine aY (N:=104) aF Tryz.func35 rfl rfl rfl (by kernel_rfl) (by kernel_rfl) (by simp) ?_
 simp [-map_map,-mapM_map,↓KW,]
 refine aA (ds:=[.i .i64 1,.i .i64 0,bL []]) (by rfl) nN ?_
 simp [-map_map,-mapM_map,↓KW,hk,hw,hm2,aE,aB,aC,aQ]
 refine aA (ds:=[.i .i64 2,.i .i64 1,bL []]) (by rfl) nM ?_
 simp [-map_map,-mapM_map,↓KW,hk,hw,hm2,aE,aB,aC,aQ]
 refine aA (ds:=[.i .i64 2,.i .i64 0,bL []]) (by rfl) mQ ?_
 simp [-map_map,-mapM_map,↓KW,hk,hw,hm2,aE,aB,aC,aQ]
 refine aA (ds:=[.i .i64 3,.i .i64 0,bL []]) (by rfl) mP ?_
 simp [-map_map,-mapM_map,↓KW,hk,hw,hm2,aE,aB,aC,aQ]
 refine aA (ds:=[.i .i64 4,.i .i64 1,bL [1,-1,2,1]]) (by rfl) nL ?_
 simp [-map_map,-mapM_map,↓KW,hk,hw,hm2,aE,aB,aC,aQ]
 refine aA (ds:=[.i .i64 5,.i .i64 1,bL [2,-1,3,1]]) (by rfl) nK ?_
 simp [-map_map,-mapM_map,↓KW,hk,hw,hm2,aE,aB,aC,aQ]
 refine aA (ds:=[.i .i64 6,.i .i64 1,bL [1,1,3,-1]]) (by rfl) nJ ?_
 simp [-map_map,-mapM_map,↓KW,hk,hw,hm2,aE,aB,aC,aQ]
 refine aA (ds:=[.i .i64 3,.i .i64 1,bL []]) (by rfl) bCy ?_
 simp [-map_map,-mapM_map,↓KW,hk,hw,hm2,aE,aB,aC,aQ]
 refine aA (ds:=[.i .i64 4,.i .i64 2,bL []]) (by rfl) bOw ?_
 simp [-map_map,-mapM_map,↓KW,hk,hw,hm2,aE,aB,aC,aQ]
 rfl
set_option maxHeartbeats 2000000 in
set_option maxRecDepth 10000 in
theorem bMf (k:Int) (hk:k.tmod 14=9):Spec Tryz.prog 35 [.i .u8 k] (aI (spc 9)):=by
 have hr:aI (spc 9)=.sl [[.i .i64 1,.i .i64 0,aM []],[.i .i64 2,.i .i64 1,aM []],[.i .i64 3,.i .i64 2,aM [(2,2)]]]:=rfl
 have hw:IntKind.u8.wrap 9=9:=by decide
 have hm2:∀ n,n≤100→n≤maxLen:=fun n h=>aW (by omega)
 rw [hr]
 refine aY (N:=104) aF Tryz.func35 rfl rfl rfl (by kernel_rfl) (by kernel_rfl) (by simp) ?_
 simp [-map_map,-mapM_map,↓KW,]
 refine aA (ds:=[.i .i64 1,.i .i64 0,bL []]) (by rfl) nN ?_
 simp [-map_map,-mapM_map,↓KW,hk,hw,hm2,aE,aB,aC,aQ]
 refine aA (ds:=[.i .i64 2,.i .i64 1,bL []]) (by rfl) nM ?_
 simp [-map_map,-mapM_map,↓KW,hk,hw,hm2,aE,aB,aC,aQ]
 refine aA (ds:=[.i .i64 2,.i .i64 0,bL []]) (by rfl) mQ ?_
 simp [-map_map,-mapM_map,↓KW,hk,hw,hm2,aE,aB,aC,aQ]
 refine aA (ds:=[.i .i64 3,.i .i64 0,bL []]) (by rfl) mP ?_
 simp [-map_map,-mapM_map,↓KW,hk,hw,hm2,aE,aB,aC,aQ]
 refine aA (ds:=[.i .i64 4,.i .i64 1,bL [1,-1,2,1]]) (by rfl) nL ?_
 simp [-map_map,-mapM_map,↓KW,hk,hw,hm2,aE,aB,aC,aQ]
 refine aA (ds:=[.i .i64 5,.i .i64 1,bL [2,-1,3,1]]) (by rfl) nK ?_
 simp [-map_map,-mapM_map,↓KW,hk,hw,hm2,aE,aB,aC,aQ]
 refine aA (ds:=[.i .i64 6,.i .i64 1,bL [1,1,3,-1]]) (by rfl) nJ ?_
 simp [-map_map,-mapM_map,↓KW,hk,hw,hm2,aE,aB,aC,aQ]
 refine aA (ds:=[.i .i64 3,.i .i64 2,bL [2,2]]) (by rfl) bOv ?_
 simp [-map_map,-mapM_map,↓KW,hk,hw,hm2,aE,aB,aC,aQ]
 rfl
set_option maxHeartbeats 2000000 in
set_option maxRecDepth 10000 in
theorem bFu (k:Int) (hk:k.tmod 14=10):Spec Tryz.prog 35 [.i .u8 k] (aI (spc 10)):=by
 have hr:aI (spc 10)=.sl [[.i .i64 1,.i .i64 0,aM []],[.i .i64 2,.i .i64 1,aM []],[.i .i64 3,.i .i64 1,aM []],[.i .i64 4,.i .i64 2,aM [(2,2)]]]:=rfl
 have hw:IntKind.u8.wrap 10=10:=by decide
 have hm2:∀ n,n≤100→n≤maxLen:=fun n h=>aW (by omega)
 rw [hr]
 refine aY (N:=104) aF Tryz.func35 rfl rfl rfl (by kernel_rfl) (by kernel_rfl) (by simp) ?_
 simp [-map_map,-mapM_map,↓KW,]
 refine aA (ds:=[.i .i64 1,.i .i64 0,bL []]) (by rfl) nN ?_
 simp [-map_map,-mapM_map,↓KW,hk,hw,hm2,aE,aB,aC,aQ]
 refine aA (ds:=[.i .i64 2,.i .i64 1,bL []]) (by rfl) nM ?_
 simp [-map_map,-mapM_map,↓KW,hk,hw,hm2,aE,aB,aC,aQ]
 refine aA (ds:=[.i .i64 2,.i .i64 0,bL []]) (by rfl) mQ ?_
 simp [-map_map,-mapM_map,↓KW,hk,hw,hm2,aE,aB,aC,aQ]
 refine aA (ds:=[.i .i64 3,.i .i64 0,bL []]) (by rfl) mP ?_
 simp [-map_map,-mapM_map,↓KW,hk,hw,hm2,aE,aB,aC,aQ]
 refine aA (ds:=[.i .i64 4,.i .i64 1,bL [1,-1,2,1]]) (by rfl) nL ?_
 simp [-map_map,-mapM_map,↓KW,hk,hw,hm2,aE,aB,aC,aQ]
 refine aA (ds:=[.i .i64 5,.i .i64 1,bL [2,-1,3,1]]) (by rfl) nK ?_
 simp [-map_map,-mapM_map,↓KW,hk,hw,hm2,aE,aB,aC,aQ]
 refine aA (ds:=[.i .i64 6,.i .i64 1,bL [1,1,3,-1]]) (by rfl) nJ ?_
 simp [-map_map,-mapM_map,↓KW,hk,hw,hm2,aE,aB,aC,aQ]
 refine aA (ds:=[.i .i64 3,.i .i64 1,bL []]) (by rfl) bCy ?_
 simp [-map_map,-mapM_map,↓KW,hk,hw,hm2,aE,aB,aC,aQ]
 refine aA (ds:=[.i .i64 4,.i .i64 2,bL [2,2]]) (by rfl) bOu ?_
 simp [-map_map,-mapM_map,↓KW,hk,hw,hm2,aE,aB,aC,aQ]
 rfl
set_option maxHeartbeats 2000000 in
set_option maxRecDepth 10000 in
theorem bFt (k:Int) (hk:k.tmod 14=11):Spec Tryz.prog 35 [.i .u8 k] (aI (spc 11)):=by
 have hr:aI (spc 11)=.sl [[.i .i64 1,.i .i64 0,aM []],[.i .i64 2,.i .i64 1,aM []],[.i .i64 3,.i .i64 2,aM [(2,3)]],[.i .i64 4,.i .i64 3,aM []]]:=rfl
 have hw:IntKind.u8.wrap 11=11:=by decide
 have hm2:∀ n,n≤100→n≤maxLen:=fun n h=>aW (by omega)
 rw [hr]
 refine aY (N:=104) aF Tryz.func35 rfl rfl rfl (by kernel_rfl) (by kernel_rfl) (by simp) ?_
 simp [-map_map,-mapM_map,↓KW,]
 refine aA (ds:=[.i .i64 1,.i .i64 0,bL []]) (by rfl) nN ?_
 simp [-map_map,-mapM_map,↓KW,hk,hw,hm2,aE,aB,aC,aQ]
 refine aA (ds:=[.i .i64 2,.i .i64 1,bL []]) (by rfl) nM ?_
 simp [-map_map,-mapM_map,↓KW,hk,hw,hm2,aE,aB,aC,aQ]
 refine aA (ds:=[.i .i64 2,.i .i64 0,bL []]) (by rfl) mQ ?_
 simp [-map_map,-mapM_map,↓KW,hk,hw,hm2,aE,aB,aC,aQ]
 refine aA (ds:=[.i .i64 3,.i .i64 0,bL []]) (by rfl) mP ?_
 simp [-map_map,-mapM_map,↓KW,hk,hw,hm2,aE,aB,aC,aQ]
 refine aA (ds:=[.i .i64 4,.i .i64 1,bL [1,-1,2,1]]) (by rfl) nL ?_
 simp [-map_map,-mapM_map,↓KW,hk,hw,hm2,aE,aB,aC,aQ]
 refine aA (ds:=[.i .i64 5,.i .i64 1,bL [2,-1,3,1]]) (by rfl) nK ?_
 simp [-map_map,-mapM_map,↓KW,hk,hw,hm2,aE,aB,aC,aQ]
 refine aA (ds:=[.i .i64 6,.i .i64 1,bL [1,1,3,-1]]) (by rfl) nJ ?_
 simp [-map_map,-mapM_map,↓KW,hk,hw,hm2,aE,aB,aC,aQ]
 refine aA (ds:=[.i .i64 3,.i .i64 2,bL [2,3]]) (by rfl) bOt ?_
 simp [-map_map,-mapM_map,↓KW,hk,hw,hm2,aE,aB,aC,aQ]
 refine aA (ds:=[.i .i64 4,.i .i64 3,bL []]) (by rfl) bOs ?_
 simp [-map_map,-mapM_map,↓KW,hk,hw,hm2,aE,aB,aC,aQ]
 rfl
set_option maxHeartbeats 2000000 in
set_option maxRecDepth 10000 in
theorem bFs (k:Int) (hk:k.tmod 14=12):Spec Tryz.prog 35 [.i .u8 k] (aI (spc 12)):=by
 have hr:aI (spc 12)=.sl [[.i .i64 1,.i .i64 0,aM []],[.i .i64 2,.i .i64 1,aM []],[.i .i64 3,.i .i64 2,aM [(2,4)]],[.i .i64 4,.i .i64 2,aM [(2,6)]]]:=rfl
 have hw:IntKind.u8.wrap 12=12:=by decide
 have hm2:∀ n,n≤100→n≤maxLen:=fun n h=>aW (by omega)
 rw [hr]
 refine aY (N:=104) aF Tryz.func35 rfl rfl rfl (by kernel_rfl) (by kernel_rfl) (by simp) ?_
 simp [-map_map,-mapM_map,↓KW,]
 refine aA (ds:=[.i .i64 1,.i .i64 0,bL []]) (by rfl) nN ?_
 simp [-map_map,-mapM_map,↓KW,hk,hw,hm2,aE,aB,aC,aQ]
 refine aA (ds:=[.i .i64 2,.i .i64 1,bL []]) (by rfl) nM ?_
 simp [-map_map,-mapM_map,↓KW,hk,hw,hm2,aE,aB,aC,aQ]
 refine aA (ds:=[.i .i64 2,.i .i64 0,bL []]) (by rfl) mQ ?_
 simp [-map_map,-mapM_map,↓KW,hk,hw,hm2,aE,aB,aC,aQ]
 refine aA (ds:=[.i .i64 3,.i .i64 0,bL []]) (by rfl) mP ?_
 simp [-map_map,-mapM_map,↓KW,hk,hw,hm2,aE,aB,aC,aQ]
 refine aA (ds:=[.i .i64 4,.i .i64 1,bL [1,-1,2,1]]) (by rfl) nL ?_
 simp [-map_map,-mapM_map,↓KW,hk,hw,hm2,aE,aB,aC,aQ]
 refine aA (ds:=[.i .i64 5,.i .i64 1,bL [2,-1,3,1]]) (by rfl) nK ?_
 simp [-map_map,-mapM_map,↓KW,hk,hw,hm2,aE,aB,aC,aQ]
 refine aA (ds:=[.i .i64 6,.i .i64 1,bL [1,1,3,-1]]) (by rfl) nJ ?_
 simp [-map_map,-mapM_map,↓KW,hk,hw,hm2,aE,aB,aC,aQ]
 refine aA (ds:=[.i .i64 3,.i .i64 2,bL [2,4]]) (by rfl) bOr ?_
 simp [-map_map,-mapM_map,↓KW,hk,hw,hm2,aE,aB,aC,aQ]
 refine aA (ds:=[.i .i64 4,.i .i64 2,bL [2,6]]) (by rfl) bOq ?_
 simp [-map_map,-mapM_map,↓KW,hk,hw,hm2,aE,aB,aC,aQ]
 rfl
set_option maxHeartbeats 2000000 in
set_option maxRecDepth 10000 in
theorem bFr (k:Int) (hk:k.tmod 14=13):Spec Tryz.prog 35 [.i .u8 k] (aI (spc 13)):=by
 have hr:aI (spc 13)=.sl [[.i .i64 1,.i .i64 0,aM []],[.i .i64 2,.i .i64 1,aM []],[.i .i64 3,.i .i64 0,aM []],[.i .i64 5,.i .i64 1,aM []],[.i .i64 6,.i .i64 2,aM [(5,2)]]]:=rfl
 have hw:IntKind.u8.wrap 13=13:=by decide
 have hm2:∀ n,n≤100→n≤maxLen:=fun n h=>aW (by omega)
 rw [hr]
 refine aY (N:=104) aF Tryz.func35 rfl rfl rfl (by kernel_rfl) (by kernel_rfl) (by simp) ?_
 simp [-map_map,-mapM_map,↓KW,]
 refine aA (ds:=[.i .i64 1,.i .i64 0,bL []]) (by rfl) nN ?_
 simp [-map_map,-mapM_map,↓KW,hk,hw,hm2,aE,aB,aC,aQ]
 refine aA (ds:=[.i .i64 2,.i .i64 1,bL []]) (by rfl) nM ?_
 simp [-map_map,-mapM_map,↓KW,hk,hw,hm2,aE,aB,aC,aQ]
 refine aA (ds:=[.i .i64 2,.i .i64 0,bL []]) (by rfl) mQ ?_
 simp [-map_map,-mapM_map,↓KW,hk,hw,hm2,aE,aB,aC,aQ]
 refine aA (ds:=[.i .i64 3,.i .i64 0,bL []]) (by rfl) mP ?_
 simp [-map_map,-mapM_map,↓KW,hk,hw,hm2,aE,aB,aC,aQ]
 refine aA (ds:=[.i .i64 4,.i .i64 1,bL [1,-1,2,1]]) (by rfl) nL ?_
 simp [-map_map,-mapM_map,↓KW,hk,hw,hm2,aE,aB,aC,aQ]
 refine aA (ds:=[.i .i64 5,.i .i64 1,bL [2,-1,3,1]]) (by rfl) nK ?_
 simp [-map_map,-mapM_map,↓KW,hk,hw,hm2,aE,aB,aC,aQ]
 refine aA (ds:=[.i .i64 6,.i .i64 1,bL [1,1,3,-1]]) (by rfl) nJ ?_
 simp [-map_map,-mapM_map,↓KW,hk,hw,hm2,aE,aB,aC,aQ]
 refine aA (ds:=[.i .i64 3,.i .i64 0,bL []]) (by rfl) mP ?_
 simp [-map_map,-mapM_map,↓KW,hk,hw,hm2,aE,aB,aC,aQ]
 refine aA (ds:=[.i .i64 5,.i .i64 1,bL []]) (by rfl) bOp ?_
 simp [-map_map,-mapM_map,↓KW,hk,hw,hm2,aE,aB,aC,aQ]
 refine aA (ds:=[.i .i64 6,.i .i64 2,bL [5,2]]) (by rfl) bOo ?_
 simp [-map_map,-mapM_map,↓KW,hk,hw,hm2,aE,aB,aC,aQ]
 rfl
end Go.Am
end

section
set_option linter.unusedVariables false
set_option linter.unusedSimpArgs false
open List (map_map mapM_map)
open Go Go.Am Go.Proofs
namespace Go.Am
def lH (l:List (List (Int × Int))):D:=.sl (l.map fun x=>[aM x])
set_option maxHeartbeats 2000000 in
set_option maxRecDepth 10000 in
theorem aNc (c:List Cl) (k:Int) (hk:k<0):Spec Tryz.prog 87 [aI c,.i .i64 k] (lH []):=by
 refine aY (N:=34) aF Tryz.func87 rfl rfl rfl (by kernel_rfl) (by kernel_rfl) (by simp) ?_
 simp [-map_map,-mapM_map,↓KW,aI,lH,hk]
set_option maxHeartbeats 2000000 in
set_option maxRecDepth 10000 in
theorem aTd {E:Nat} (c:List Cl) (k:Int) (L:List (List Int)) (hk:0≤k∧k≤1000) (hl:c.length≤100) (hb:∀ x∈c,x.b.length≤1000000)
  (hL:aLz (cS c k).length (cS c (k - 1)).length E (pT c k) L) (hE:E+20<4398046511104):Spec Tryz.prog 87 [aI c,.i .i64 k] (lH (L.map fun v=>(chX c k v).1)):=by
 refine aY (N:=34) aF Tryz.func87 rfl rfl rfl (by kernel_rfl) (by kernel_rfl) (by simp) ?_
 have hB:=aIw c k (by omega) (by omega) hb
 have hS:=hL.spec
 have hOf:=fun v hv=>bPv c k v hl (hL.be v hv) hE
 have hLl:=Nat.le_trans hL.len (lE c k)
 have hneg:¬ k<0:=by omega
 generalize (cS c k).length=R at *
 generalize (cS c (k - 1)).length=C at *
 generalize pT c k=M at *
 simp [-map_map,-mapM_map,↓KW,aI,hneg]
 refine aA (ds:=[aI c,.i .i64 k]) (by rfl) hB ?_
 simp [-map_map,-mapM_map,↓KW,cP]
 refine aA (ds:=[cP R C M]) (by rfl) hS ?_
 simp [-map_map,-mapM_map,↓KW,cP]
 obtain ⟨out,hout⟩:∃ o,(L.map fun v=>(chX c k v).1)=o:=⟨_,rfl⟩
 have hol:out.length=L.length:=by rw [← hout,List.length_map]
 have hog:∀ i v,L[i]? = some v→out[i]? = some (chX c k v).1:=fun i v h=>by rw [← hout,List.getElem?_map,h]; rfl
 rw [hout]
 refine aU (fun i:Nat=>i≤L.length) (fun i=>StL [(0,.d (aI c)),(1,.d (.i .i64 k)),(5,.own 1 0 i 1),(6,.ptr 2 0),(7,.d (.i .i64 (i:Int)))] none [.cells 45 (((out.take i).map aM).map .d),.cells 155 [.d (.i .i64 (L.length:Int)),.d (.i .i64 (R:Int)),.d (.sl (L.map fun v=>[cH v]))]]) (fun i=>L.length - i) 0 (Nat.zero_le _) ?_ ?_
 ·refine bC [1,2] (by simp) ?_ ?_ <;> simp [-map_map,upd,aT,Γ0,aI]
 ·intro i hi
  by_cases hgo:i<L.length
  ·have q1:(i:Int)<L.length:=by omega
   have hx:L[i]? = some L[i]:=List.getElem?_eq_getElem hgo
   have hO:=hOf _ (List.getElem_mem hgo)
   have hg:=hog i _ hx
   have htk:out.take (i+1)=out.take i++[(chX c k L[i]).1]:=by rw [List.take_add_one,hg]; rfl
   have hw:IntKind.i64.wrap ((i:Int)+1)=(i:Int)+1:=aS (by omega) (by omega)
   have hol1:(out.take i).length=i:=by rw [List.length_take]; omega
   have hol2:((out.take i).map aM).length=i:=by rw [List.length_map]; exact hol1
   have hbb:=cO (n:=i) (by omega)
   have hb8:(i+1) * 24≤140737488355328:=by omega
   generalize out.take i=o1 at *
   generalize (chX c k L[i]).1=y at *
   generalize L[i]=v at *
   have hv2:cH v=.sl (v.map tK):=rfl
   simp [-map_map,-mapM_map,↓KW,aI,q1,hx,hv2]
   refine aA (ds:=[aI c,.i .i64 k,cH v]) (by rfl) hO ?_
   simp [-map_map,-mapM_map,↓KW,hw,hbb,hb8,hol1,hol2,aW,aE,aB,aC,aQ,bF,cH]
   refine aK (i+1) hgo (Nat.sub_lt_sub_left hgo (Nat.lt_succ_self _)) (bC [4,2] (by simp) ?_ ?_) <;> simp [-map_map,upd,aT,Γ0,aI,htk]
  ·have q1:¬ (i:Int)<L.length:=by omega
   have e:i=L.length:=by omega
   have e2:out.take i=out:=List.take_of_length_le (by omega)
   have e3:(out.map aM).length=i:=by rw [List.length_map]; omega
   have e4:chunk 1 i (out.map aM)=out.map fun x=>[aM x]:=by rw [sB _ _ e3.symm,List.map_map]; rfl
   have e5:List.take i ((out.map aM).map AV.d)=(out.map aM).map AV.d:=List.take_of_length_le (by simp; omega)
   have e6:out.length=i:=by omega
   simp [-map_map,-mapM_map,↓KW,lH,q1,e2,e3,e4,e5,e6]
/-! One more cell -/
def gB (cyc:List (List (Int × Int))) (xs:List Int):Nat→List (Int × Int)
 | 0=>[]
 | i+1=>bV (gB cyc xs i) (mulR ((xs.getD (i+1) 0).tmod 4) (cyc.getD i []))
def mL (x0:Int):Int:=(x0 % 256) % 4
def gId (c:List Cl) (x0:Int):Int:=match c.getLast? with
 | none=>1
 | some y=>y.id+1+(x0 % 256) / 128
def grown (c:List Cl) (x0 x1 x2 x3:Int) (cyc:List (List (Int × Int))):List Cl:=c++[⟨gId c x0,mL x0,gB cyc [x0,x1,x2,x3] (min 3 cyc.length)⟩]
theorem aIa (x:Int):(x.tmod 4).natAbs≤2 ^ 2∧-4<x.tmod 4∧x.tmod 4<4:=by
 have h1:=Int.tmod_lt_of_pos x (b:=4) (by decide)
 have h2:=Int.tmod_lt_of_pos (-x) (b:=4) (by decide)
 rw [Int.neg_tmod] at h2
 exact ⟨by omega,by omega,h1⟩
theorem bBp {e:Nat} {cyc:List (List (Int × Int))} {xs:List Int} (hb:∀ y∈cyc,Bnd (2 ^ e) y) (hl:∀ y∈cyc,y.length≤16):∀ i,i≤3→i≤cyc.length→Bnd (i * (16 * (2 ^ 2 * 2 ^ e))) (gB cyc xs i)∧(gB cyc xs i).length≤i * 16
 | 0,_,_=>⟨Bnd.nil _,Nat.le_refl _⟩
 | i+1,h3,hc=>by
  obtain ⟨h1,h2⟩:=bBp hb hl i (by omega) (by omega)
  have hm:cyc.getD i []∈cyc:=by rw [List.getD_eq_getElem?_getD,List.getElem?_eq_getElem (by omega)]; exact List.getElem_mem _
  have h4:=kI (mulR ((xs.getD (i+1) 0).tmod 4) (cyc.getD i [])) (gB cyc xs i) h1 (qL (aIa _).1 (hb _ hm))
  have h5:=kH (gB cyc xs i) (mulR ((xs.getD (i+1) 0).tmod 4) (cyc.getD i []))
  rw [aAk] at h4 h5
  have h6:=hl _ hm
  refine ⟨h4.mono ?_,?_⟩
  ·exact Nat.le_trans (Nat.add_le_add_left (Nat.mul_le_mul_right _ h6) _) (Nat.le_of_eq (Nat.succ_mul i _).symm)
  ·show (bV _ _).length≤_
   omega
theorem aWd {n:Int} (h1:-128≤n) (h2:n≤127):IntKind.i8.wrap n=n:=by
 show IntKind.i8.wrap n=n
 unfold IntKind.wrap
 simp [IntKind.bits,IntKind.signed]
 omega
theorem bKb (c:List Cl):(c.map aZ).flatten.length=c.length * 3:=by
 induction c with
 | nil=>rfl
 | cons x c ih=>simp only [List.map_cons,List.flatten_cons,List.length_append,ih,aZ,List.length_cons,List.length_nil]; omega
theorem aVf (c:List Cl) (y:Cl):chunk 3 (c.length+1) ((c.map aZ).flatten++aZ y)=c.map aZ++[aZ y]:=by
 have h:=xN (c.map aZ++[aZ y]) (fun x hx=>by
  rcases List.mem_append.1 hx with hx | hx
  ·obtain ⟨z,_,rfl⟩:=List.mem_map.1 hx; rfl
  ·rw [List.mem_singleton.1 hx]; rfl)
 rw [List.length_append,List.length_map,List.flatten_append] at h
 simpa using h
theorem aRu (c:List Cl):∀ (x:Cl),x∈c→∀ (x_1:D),x_1∈aZ x→one (AV.d x_1)=true:=fun x _ d hd=>by
 simp only [aZ,List.mem_cons,List.not_mem_nil,or_false] at hd
 rcases hd with rfl | rfl | rfl <;> rfl
theorem gsz {i e n:Nat} (hi:i≤3) (hn:n≤16):i * (16 * (2 ^ 2 * 2 ^ e))+n * (2 ^ 2 * 2 ^ e)≤2 ^ (e+20):=by
 rw [oV,← Nat.mul_assoc,← Nat.add_mul,show e+20=18+(2+e) by omega]
 exact qE (Nat.le_trans (show i * 16+n≤100 by omega) (by decide))
set_option maxHeartbeats 4000000 in
set_option maxRecDepth 10000 in
theorem aYh {e:Nat} (c:List Cl) (x0 x1 x2 x3:Int) (cyc:List (List (Int × Int))) (hx0:-128≤x0∧x0≤127) (hx1:-128≤x1∧x1≤127) (hx2:-128≤x2∧x2≤127) (hx3:-128≤x3∧x3≤127) (hl:c.length≤100)
  (hid:∀ y∈c,-1000≤y.id∧y.id≤1000) (hS:Spec Tryz.prog 87 [aI c,.i .i64 (mL x0 - 1)] (lH cyc)) (hcl:cyc.length≤100) (hb:∀ y∈cyc,Bnd (2 ^ e) y) (hyl:∀ y∈cyc,y.length≤16) (he:e+20<4398046511104) :
  Spec Tryz.prog 36 [aI c,.ag [.i .i8 x0,.i .i8 x1,.i .i8 x2,.i .i8 x3]] (aI (grown c x0 x1 x2 x3 cyc)):=by
 have hu:IntKind.u8.wrap x0=x0 % 256:=zI x0
 have hr:(x0 % 256).tmod 4=mL x0:=by
  rw [Int.tmod_eq_emod_of_nonneg (by omega)]; rfl
 have hd:0≤mL x0∧mL x0≤3:=by unfold mL; omega
 have hu2:IntKind.u8.wrap (mL x0)=mL x0:=by rw [zI]; omega
 have hw1:IntKind.i64.wrap (mL x0)=mL x0:=aS (by omega) (by omega)
 have hw2:IntKind.i64.wrap (mL x0 - 1)=mL x0 - 1:=aS (by omega) (by omega)
 obtain ⟨xs,hxs⟩:∃ l,[x0,x1,x2,x3]=l:=⟨_,rfl⟩
 have hgs:=bBp (xs:=xs) hb hyl
 have hfin:aI (grown c x0 x1 x2 x3 cyc)=.sl (c.map aZ++[aZ ⟨gId c x0,mL x0,gB cyc xs (min 3 cyc.length)⟩]):=by unfold grown aI; rw [hxs,List.map_append]; rfl
 rw [hfin]
 clear hfin
 generalize hdd:mL x0=d at *
 obtain ⟨bb,hbe⟩:∃ b,gB cyc xs (min 3 cyc.length)=b:=⟨_,rfl⟩
 obtain ⟨gi,hgi⟩:∃ b,gId c x0=b:=⟨_,rfl⟩
 rw [hbe,hgi]
 refine aY (N:=71) aF Tryz.func36 rfl rfl rfl (by kernel_rfl) (by kernel_rfl) (by simp) ?_
 simp [-map_map,-mapM_map,↓KW,aI,hu,hr,hu2,hw1]
 refine aA (ds:=[aI c,.i .i64 (d - 1)]) (by rw [hw2]; rfl) hS ?_
 simp [-map_map,-mapM_map,↓KW,aI,lH]
 refine aU (fun y:Nat × List (Int × Int)=>y.1≤min 3 cyc.length∧gB cyc xs y.1=y.2) (fun y=>StL [(0,.d (aI c)),(3,.ptr 1 0),(5,.d (.i .i64 d)),(6,.d (aM y.2)),(7,.d (.i .i64 1)),(8,.d (lH cyc)),(9,.d (.i .i64 (y.1:Int)))] none [.cells 80 [.d (.i .i8 x0),.d (.i .i8 x1),.d (.i .i8 x2),.d (.i .i8 x3)]]) (fun y=>3 - y.1) (0,[]) ⟨Nat.zero_le _,rfl⟩ ?_ ?_
 ·refine bC [1] (by simp) ?_ ?_
  ·simp [-map_map,upd,aT,Γ0,aI,lH,aM,gB]
   exact lQ (by simp [iB,upd,sD]) (fun a ha id h=>by
    simp [upd] at ha
    by_cases e:id=1
    ·subst e; rw [ha]; show (1:Nat)≠2; decide
    ·simp [mS,upd,e] at h)
  ·simp [-map_map,upd,aT,Γ0,aI,lH]
 ·rintro ⟨i,o⟩ ⟨hi,ho⟩
  simp only at hi ho ⊢
  have hgs0:=hgs i (by omega) (by omega)
  rw [ho] at hgs0
  by_cases hgo:i<cyc.length∧i<3
  ·have q1:(i:Int)<cyc.length:=by omega
   have q3:(i:Int)<3:=by omega
   have g1:=hgo.1
   have g2:=hgo.2
   have a1:(0:Int)≤(i:Int)+1:=by omega
   have a2:(i:Int)+1<4:=by omega
   have a3:i+1+1≤4:=by omega
   have a4:i+1<4:=by omega
   have a5:i≤2:=by omega
   refine (show ∃ q,xs.getD (i+1) 0=q from ⟨_,rfl⟩).elim fun q hq=>?_
   have hrd:List.take 1 (List.drop i [AV.d (.i .i8 x1),AV.d (.i .i8 x2),AV.d (.i .i8 x3)])=[AV.d (.i .i8 q)]:=by
    rw [← hq,← hxs]
    rcases i with _ | _ | _ | i
    ·rfl
    ·rfl
    ·rfl
    ·omega
   have hre:∀ h:i<[AV.d (.i .i8 x1),AV.d (.i .i8 x2),AV.d (.i .i8 x3)].length,[AV.d (.i .i8 x1),AV.d (.i .i8 x2),AV.d (.i .i8 x3)][i]'h=AV.d (.i .i8 q):=fun h=>by
    subst hq; subst hxs
    rcases i with _ | _ | _ | i
    ·rfl
    ·rfl
    ·rfl
    ·omega
   have t1:=(aIa q).1
   have t2:=(aIa q).2.1
   have t3:=(aIa q).2.2
   have hw8:IntKind.i8.wrap (q.tmod 4)=q.tmod 4:=aWd (by omega) (by omega)
   have hw:IntKind.i64.wrap ((i:Int)+1)=(i:Int)+1:=aS (by omega) (by omega)
   have hwt:IntKind.i64.wrap (q.tmod 4)=q.tmod 4:=aS (by omega) (by omega)
   have hof:=uC (q.tmod 4) (by omega) (by omega)
   have hgy:cyc[i]? = some (cyc.getD i []):=by rw [List.getD_eq_getElem?_getD,List.getElem?_eq_getElem g1]; rfl
   have hyb:=hb _ (List.mem_of_getElem? hgy)
   have hyl1:=hyl _ (List.mem_of_getElem? hgy)
   have hnx:gB cyc xs (i+1)=bV o (mulR (q.tmod 4) (cyc.getD i [])):=by rw [gB,hq,ho]
   clear ho hgs
   refine (show ∃ y,cyc.getD i []=y from ⟨_,rfl⟩).elim fun y hye=>?_
   rw [hye] at hgy hyb hyl1 hnx
   have hgy':∀ h:i<cyc.length,cyc[i]'h=y:=fun h=>Option.some.inj ((List.getElem?_eq_getElem h).symm.trans hgy)
   refine (show ∃ z,q.tmod 4=z from ⟨_,rfl⟩).elim fun z hz=>?_
   rw [hz] at t1 t2 t3 hw8 hwt hof hnx
   have hA:=bMs o y z _ (2 ^ e) (2 ^ 2) hgs0.1 hyb t1 (wU (gsz (by omega) hyl1) he) (wU (by rw [oV]; exact aDp (show 2+e≤e+20 by omega)) he) (wU (aDp (show 2≤e+20 by omega)) he) (wU (aDp (show e≤e+20 by omega)) he) (by omega)
   simp [-map_map,-mapM_map,↓KW,aI,lH,g1,g2,q1,q3,a1,a2,a3,a4,a5,hgy,hgy',hwt,hw8,hw,hrd,hre,hz]
   refine aA (ds:=[.i .i64 z]) (by rfl) hof ?_
   simp [-map_map,-mapM_map,↓KW,bI,aM,aD,aJ,aP,bH,aX]
   refine aA (ds:=[aM o,aM y,encZ z]) (by rfl) hA ?_
   simp [-map_map,-mapM_map,↓KW,aM,hw]
   refine aK (i+1,bV o (mulR z y)) ⟨by simp only; omega,hnx⟩ (by simp only; omega) (bC [1] (by simp) ?_ ?_) <;> simp [-map_map,upd,aT,Γ0,aI,lH,aM]
  ·have hmin:min 3 cyc.length=i:=by omega
   have hob:bb=o:=by rw [← hbe,hmin,ho]
   clear hgs0 hgs hS hb hyl ho hmin hi hbe
   have hfl:(c.map aZ).flatten.length=c.length * 3:=bKb c
   have hok:=gE c
   have hfin:∀ y:Cl,chunk 3 (c.length+1) ((c.map aZ).flatten++aZ y)=c.map aZ++[aZ y]:=aVf c
   have hr2:(x0 % 256).tdiv 128=x0 % 256 / 128:=Int.tdiv_eq_ediv_of_nonneg (by omega)
   refine (show ∃ u,x0 % 256 / 128=u from ⟨_,rfl⟩).elim fun u hue=>?_
   have hu3:IntKind.u8.wrap u=u:=by rw [zI]; omega
   have hu4:IntKind.i64.wrap u=u:=aS (by omega) (by omega)
   have hub:0≤u∧u≤1:=by omega
   rw [hue] at hr2
   have b1:(c.length+1) * 40≤140737488355328:=by omega
   have b2:c.length * 40≤140737488355328:=by omega
   have b3:c.length+1≤maxLen:=aW (by omega)
   have b4:c.length≤maxLen:=aW (by omega)
   have key:∀ (gi:Int) (sl:Nat→AV),True:=fun _ _=>trivial
   by_cases g1:i<cyc.length
   ·have g2:¬ i<3:=fun h=>hgo ⟨g1,h⟩
    have q1:(i:Int)<cyc.length:=by omega
    have q3:¬ (i:Int)<3:=by omega
    by_cases hc0:0<c.length
    ·have hc0':(0:Int)<c.length:=by omega
     refine (show ∃ y,c[c.length - 1]? = some y from ⟨c[c.length - 1],List.getElem?_eq_getElem (by omega)⟩).elim fun y hy=>?_
     have hgy:c.getLast? = some y:=by rw [List.getLast?_eq_getElem?]; exact hy
     have hgi2:gi=y.id+1+u:=by rw [← hgi,← hue]; unfold gId; rw [hgy]
     have hyb:=hid y (List.mem_of_getElem? hy)
     have hw5:IntKind.i64.wrap ((c.length:Int) - 1)=((c.length - 1:Nat):Int):=by rw [aS (by omega) (by omega)]; omega
     have hw6:IntKind.i64.wrap (y.id+1)=y.id+1:=aS (by omega) (by omega)
     have hw7:IntKind.i64.wrap (y.id+1+u)=y.id+1+u:=aS (by omega) (by omega)
     have hf2:chunk 3 (c.length+1) ((c.map aZ).flatten++[D.i .i64 (y.id+1+u),.i .i64 d,aM o])=c.map aZ++[[D.i .i64 (y.id+1+u),.i .i64 d,aM o]]:=hfin ⟨y.id+1+u,d,o⟩
     have hyc:aZ y=[D.i .i64 y.id,.i .i64 y.dim,aM y.b]:=rfl
     have hec:aZ ⟨y.id+1+u,d,o⟩=[D.i .i64 (y.id+1+u),.i .i64 d,aM o]:=rfl
     have hfl2:((c.map aZ).flatten.map AV.d).length=c.length * 3:=by rw [List.length_map]; exact hfl
     have hfl3:¬ c.length * 3=0:=by omega
     have hcn:¬ c.length=0:=by omega
     have hone:(∀ (x:Cl),x∈c→∀ (x_1:D),x_1∈aZ x→one (AV.d x_1)=true)↔True:=⟨fun _=>trivial,fun _=>aRu c⟩
     refine (show ∃ fl,(c.map aZ).flatten=fl from ⟨_,rfl⟩).elim fun fl hfe=>?_
     have hfm:(List.map (List.map AV.d) (List.map aZ c)).flatten=fl.map AV.d:=by rw [← hfe,List.map_flatten]
     have hl1:fl.length=c.length * 3:=by rw [← hfe]; exact hfl
     have hf3:chunk 3 (c.length+1) (fl++[D.i .i64 (y.id+1+u),.i .i64 d,aM o])=c.map aZ++[[D.i .i64 (y.id+1+u),.i .i64 d,aM o]]:=by rw [← hfe]; exact hf2
     simp [-map_map,-mapM_map,↓KW,aI,lH,q1,q3,hob,hc0,hc0',hw5,hy,hyc,hu,hr2,hu3,hu4,hw6,hw7]
     simp [-map_map,-mapM_map,↓KW,hok,hone,hfm,hl1,hfl3,hcn,hf3,b1,b2,b3,b4,aE,aB,aC]
     refine ⟨by omega,fl++[D.i .i64 (y.id+1+u),.i .i64 d,aM o],?_,?_⟩
     ·rw [List.take_of_length_le (by simp; omega),show List.map AV.d fl++[AV.d (D.i IntKind.i64 (y.id+1+u)),AV.d (D.i IntKind.i64 d),AV.d (aM o)]=(fl++[D.i .i64 (y.id+1+u),.i .i64 d,aM o]).map AV.d by simp]
      exact kS _ 6 _
     ·rw [hf3,hgi2,hob,hec]
    ·have hc0':¬ (0:Int)<c.length:=by omega
     have hce:c=[]:=List.eq_nil_of_length_eq_zero (by omega)
     subst hce
     have hgi2:gi=1:=by rw [← hgi]; rfl
     have hm1:(1:Nat)≤maxLen:=aW (by decide)
     have hec:aZ ⟨1,d,o⟩=[D.i .i64 1,.i .i64 d,aM o]:=rfl
     simp [-map_map,-mapM_map,↓KW,aI,lH,q1,q3,hob,hm1,aE,aB,aC]
     simp [-map_map,-mapM_map,↓KW,hgi2,hec]
   ·have q1:¬ (i:Int)<cyc.length:=by omega
    by_cases hc0:0<c.length
    ·have hc0':(0:Int)<c.length:=by omega
     refine (show ∃ y,c[c.length - 1]? = some y from ⟨c[c.length - 1],List.getElem?_eq_getElem (by omega)⟩).elim fun y hy=>?_
     have hgy:c.getLast? = some y:=by rw [List.getLast?_eq_getElem?]; exact hy
     have hgi2:gi=y.id+1+u:=by rw [← hgi,← hue]; unfold gId; rw [hgy]
     have hyb:=hid y (List.mem_of_getElem? hy)
     have hw5:IntKind.i64.wrap ((c.length:Int) - 1)=((c.length - 1:Nat):Int):=by rw [aS (by omega) (by omega)]; omega
     have hw6:IntKind.i64.wrap (y.id+1)=y.id+1:=aS (by omega) (by omega)
     have hw7:IntKind.i64.wrap (y.id+1+u)=y.id+1+u:=aS (by omega) (by omega)
     have hf2:chunk 3 (c.length+1) ((c.map aZ).flatten++[D.i .i64 (y.id+1+u),.i .i64 d,aM o])=c.map aZ++[[D.i .i64 (y.id+1+u),.i .i64 d,aM o]]:=hfin ⟨y.id+1+u,d,o⟩
     have hyc:aZ y=[D.i .i64 y.id,.i .i64 y.dim,aM y.b]:=rfl
     have hec:aZ ⟨y.id+1+u,d,o⟩=[D.i .i64 (y.id+1+u),.i .i64 d,aM o]:=rfl
     have hfl2:((c.map aZ).flatten.map AV.d).length=c.length * 3:=by rw [List.length_map]; exact hfl
     have hfl3:¬ c.length * 3=0:=by omega
     have hcn:¬ c.length=0:=by omega
     have hone:(∀ (x:Cl),x∈c→∀ (x_1:D),x_1∈aZ x→one (AV.d x_1)=true)↔True:=⟨fun _=>trivial,fun _=>aRu c⟩
     refine (show ∃ fl,(c.map aZ).flatten=fl from ⟨_,rfl⟩).elim fun fl hfe=>?_
     have hfm:(List.map (List.map AV.d) (List.map aZ c)).flatten=fl.map AV.d:=by rw [← hfe,List.map_flatten]
     have hl1:fl.length=c.length * 3:=by rw [← hfe]; exact hfl
     have hf3:chunk 3 (c.length+1) (fl++[D.i .i64 (y.id+1+u),.i .i64 d,aM o])=c.map aZ++[[D.i .i64 (y.id+1+u),.i .i64 d,aM o]]:=by rw [← hfe]; exact hf2
     simp [-map_map,-mapM_map,↓KW,aI,lH,q1,hob,hc0,hc0',hw5,hy,hyc,hu,hr2,hu3,hu4,hw6,hw7]
     simp [-map_map,-mapM_map,↓KW,hok,hone,hfm,hl1,hfl3,hcn,hf3,b1,b2,b3,b4,aE,aB,aC]
     refine ⟨by omega,fl++[D.i .i64 (y.id+1+u),.i .i64 d,aM o],?_,?_⟩
     ·rw [List.take_of_length_le (by simp; omega),show List.map AV.d fl++[AV.d (D.i IntKind.i64 (y.id+1+u)),AV.d (D.i IntKind.i64 d),AV.d (aM o)]=(fl++[D.i .i64 (y.id+1+u),.i .i64 d,aM o]).map AV.d by simp]
      exact kS _ 6 _
     ·rw [hf3,hgi2,hob,hec]
    ·have hc0':¬ (0:Int)<c.length:=by omega
     have hce:c=[]:=List.eq_nil_of_length_eq_zero (by omega)
     subst hce
     have hgi2:gi=1:=by rw [← hgi]; rfl
     have hm1:(1:Nat)≤maxLen:=aW (by decide)
     have hec:aZ ⟨1,d,o⟩=[D.i .i64 1,.i .i64 d,aM o]:=rfl
     simp [-map_map,-mapM_map,↓KW,aI,lH,q1,hob,hm1,aE,aB,aC]
     simp [-map_map,-mapM_map,↓KW,hgi2,hec]
end Go.Am
end
