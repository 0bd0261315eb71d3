/- The reference's chains in a complex: Chain, Of, Row, Cell. No condition. -/
import Derived.Test.YthjopmmgepejkaaGreatI4
import Derived.Test.YthjopmmgepejkaaGreatI3
section
set_option linter.unusedVariables false
set_option linter.unusedSimpArgs false
open List (map_map mapM_map)
open Go Go.Am Go.Proofs
namespace Go.Am
theorem div_scale {x y c q r:Nat} (hc:0<c) (hy:0<y) (h:q * (y * c)+r=x * c) (hr:r<y * c):q=x / y∧r / c=x % y:=by
 have hq:x * c / (y * c)=q:=by
  have:=(Nat.div_mod_unique (Nat.mul_pos hy hc) (a:=x * c) (d:=q) (c:=r)).2 ⟨by rw [Nat.mul_comm (y * c)]; omega,hr⟩
  exact this.1
 rw [Nat.mul_div_mul_right _ _ hc] at hq
 refine ⟨hq.symm,?_⟩
 have h2:r=x % y * c:=by
  have h3:=Nat.div_add_mod x y
  rw [hq] at h3
  have h4:(y * q+x % y) * c=x * c:=by rw [h3]
  rw [Nat.add_mul] at h4
  have h5:y * q * c=q * (y * c):=by rw [Nat.mul_comm y,Nat.mul_assoc]
  omega
 rw [h2,Nat.mul_div_cancel _ hc]
theorem digs_one {n:Nat} (h:0<n) (h2:n<4294967296):digs n=[n]:=by
 rw [digs_pos (by omega),Nat.mod_eq_of_lt h2,Nat.div_eq_of_lt h2,digs_zero]
theorem dv_facts {dt c:Nat} (htop:0<dt) (hs:dt * c<4294967296):∃ t,dt * c=t∧c≤t∧t<4294967296∧(t<2147483648→dt * (2 * c)<4294967296) :=
 ⟨_,rfl,Nat.le_mul_of_pos_left _ htop,hs,fun h=>by rw [Nat.mul_left_comm]; omega⟩
def zq (q:Nat):AV:=if q=0 then .nil else .d (encM (digs q))
theorem digs_mul_len {x c n:Nat} (h1:(digs x).length≤n) (h2:c<4294967296):(digs (x * c)).length≤n+1 :=
 digs_len_le (by rw [Nat.pow_succ]; exact Nat.mul_lt_mul'' (lt_of_digs_len h1) h2)
theorem add_cast {x c X:Nat} (h:x+c=X) (h1:(digs (x:Int).natAbs).length≤549755813888) (h2:(digs (c:Int).natAbs).length≤549755813888):Spec Tryz.prog 77 [encZ (x:Int),encZ (c:Int)] (encZ (X:Int)):=by
 have:=r01AddZ (x:Int) (c:Int) h1 h2
 rwa [← Int.natCast_add,h] at this
theorem sub_cast {x c X:Nat} (h:x=X+c) (h1:(digs (x:Int).natAbs).length≤549755813888) (h2:(digs (c:Int).natAbs).length≤549755813888):Spec Tryz.prog 145 [encZ (x:Int),encZ (c:Int)] (encZ (X:Int)):=by
 have:=r01SubB (x:Int) (c:Int) h1 h2
 rwa [show (x:Int) - c=X by omega] at this
theorem div_step {q Y r X e E r':Nat} (hp:q * Y+r=X) (hE:e * Y=E) (hr:r=r'+E) (he:0<e) (hY:0<Y):(q+e) * Y+r'=X∧r'<r∧q+e≤X∧E≤X:=by
 have h1:(q+e) * Y+r'=X:=by rw [Nat.add_mul,hE]; omega
 have h2:0<E:=by rw [← hE]; exact Nat.mul_pos he hY
 have h3:q+e≤(q+e) * Y:=Nat.le_mul_of_pos_right _ hY
 exact ⟨h1,by omega,by omega,by omega⟩
theorem len_cast {c:Nat} (h:c<4294967296):(digs (c:Int).natAbs).length≤1:=digs_len_le (by simpa using h)
theorem mul_cast {x c X:Nat} (h:x * c=X) (h1:(digs (x:Int).natAbs).length≤137438953472) (h2:(digs (c:Int).natAbs).length≤137438953472):Spec Tryz.prog 76 [encZ (x:Int),encZ (c:Int)] (encZ (X:Int)):=by
 have:=r01MulZ (x:Int) (c:Int) h1 h2
 rwa [← Int.natCast_mul,h] at this
theorem made_one (n:Nat) (hn:n<4294967296):Spec Tryz.prog 78 [encM [n],.b false] (encZ (n:Int)):=by
 have hm:=r01Made [n] false (by simp)
 rw [made_encZ (.one hn)] at hm
 simpa [val,sg] using hm
set_option maxRecDepth 10000 in
theorem r01divide (x y qq rr:Nat) (hqq:x / y=qq) (hrr:x % y=rr) (hy:0<y) (hlx:(digs x).length≤34359738368) (hly:(digs y).length≤34359738368):Spec Tryz.prog 185 [encM (digs x),encM (digs y)] (.tp [encZ (qq:Int),encZ (rr:Int)]):=by
 refine spec_of (N:=86) follows_mixed Tryz.func185 rfl rfl rfl (by kernel_rfl) (by kernel_rfl) (by simp) ?_
 have lx:=lim_digs x
 have ly:=lim_digs y
 have vx:=val_digs x
 have vy:=val_digs y
 have cy:=canon_digs y
 have hne:digs y≠[]:=fun h=>by rw [digs_eq_nil] at h; omega
 have hyl:0<(digs y).length:=List.length_pos_iff.2 hne
 have hmx:∀ n:Nat,n<4294967296→Spec Tryz.prog 78 [encM [n],.b false] (encZ (n:Int)):=fun n hn=>by
  have hm:=r01Made [n] false (by simp)
  rw [made_encZ (.one hn)] at hm
  simpa [val,sg] using hm
 by_cases h1:(digs y).length=1
 ·obtain ⟨d,hd⟩:=List.length_eq_one_iff.1 h1
  have hdl:d<4294967296:=ly d (by rw [hd]; simp)
  have hdv:d=y:=by rw [hd] at vy; simpa [val] using vy
  have hs:=r01short (digs x) d lx (by omega) hdl (by omega)
  obtain ⟨s1,s2,s3,_⟩:=shQ_val (a:=digs x) (d:=d) lx (by omega)
  have hm1:=r01Made (shQ (digs x) d) false (by omega)
  rw [made_encZ s2,s3,vx,show sg false (x / d)=((x / d:Nat):Int) from rfl] at hm1
  have hm2:=hmx (val (digs x) % d) (by have:=Nat.mod_lt (val (digs x)) (show d > 0 by omega); omega)
  rw [hd]
  rw [vx,hdv,hrr] at hm2 hs
  rw [hdv,hqq] at hm1
  rw [hdv]
  generalize shQ (digs x) y=Q at *
  generalize digs x=a at *
  simp (maxSteps:=1000000) [-map_map,-mapM_map,↓KW,encM]
  refine callP_intro (ds:=[encM a,.i .u32 y]) (by rfl) hs ?_
  simp (maxSteps:=1000000) [-map_map,-mapM_map,↓KW,encM]
  refine callP_intro (ds:=[encM Q,.b false]) (by rfl) hm1 ?_
  simp (maxSteps:=1000000) [-map_map,-mapM_map,↓KW,encM]
  refine callP_intro (ds:=[encM [rr],.b false]) ?_ hm2 ?_
  ·simp (maxSteps:=1000000) [-map_map,-mapM_map,↓KW,encM]
  simp (maxSteps:=1000000) [-map_map,-mapM_map,↓KW,encM,encZ,encI,resD_2]
 ·have hq1:(((digs y).length:Int) == 1)=false:=by simp only [beq_eq_false_iff_ne,ne_eq]; omega
  obtain ⟨m,hm⟩:∃ m,(digs y).length=m+1:=⟨(digs y).length - 1,by omega⟩
  have gd:=getD_some (l:=digs y) (i:=m) (by omega)
  have hdm:=ly.getD m
  have htop:0<(digs y).getD m 0:=by
   have h2:(digs y).getLast? ≠ some 0:=cy
   rw [List.getLast?_eq_getElem?,show (digs y).length - 1=m by omega,gd] at h2
   rcases Nat.eq_zero_or_pos ((digs y).getD m 0) with h | h
   ·rw [h] at h2; exact absurd rfl h2
   ·exact h
  generalize (digs y).getD m 0=dt at *
  have c2:IntKind.i64.wrap (((digs y).length:Int) - 1)=(m:Int):=by rw [wrap_i64 (by omega) (by omega)]; omega
  have c3:IntKind.u64.wrap (dt:Int)=dt:=wrap_u64 (by omega) (by omega)
  have hma:=r01Made (digs x) false (by omega)
  rw [made_encZ lx,vx,show sg false x=(x:Int) from rfl] at hma
  have hmb:=r01Made (digs y) false (by omega)
  rw [made_encZ ly,vy,show sg false y=(y:Int) from rfl] at hmb
  have hX:(digs (x:Int).natAbs).length≤34359738368:=hlx
  have hY:(digs (y:Int).natAbs).length≤34359738368:=hly
  generalize digs x=a at *
  generalize digs y=b at *
  clear hmx lx ly vx vy cy hne
  simp (maxSteps:=1000000) [-map_map,-mapM_map,↓KW,encM,hq1]
  refine loopP_inv (fun c:Nat=>0<c∧dt * c<4294967296)
   (fun c=>StL [(0,.d (encM a)),(1,.d (encM b)),(4,.ptr 1 0),(5,.ptr 2 0),(8,.d (.i .u32 (c:Int)))] none
    [.cells 69 [.d (.b false),.nil],.cells 69 [.d (.b false),.nil]]) (fun c=>4294967296 - c) 1 ⟨by decide,by omega⟩ ?_ ?_
  ·refine wk_l [1,2] (by simp) ?_ ?_ <;> simp [-map_map,upd,inj1,Γ0,encM]
  ·intro c hs
   refine (dv_facts htop hs.2).elim fun t h5=>?_
   have hc0:=hs.1
   have ht:=h5.1
   have hcd:=h5.2.1
   have hs2:=h5.2.2.1
   have hdc:=h5.2.2.2
   have c4:IntKind.u64.wrap (c:Int)=c:=wrap_u64 (by omega) (by omega)
   have c5:IntKind.u64.wrap ((dt:Int) * c)=t:=by rw [← Int.natCast_mul,ht,wrap_u64 (by omega) (by omega)]
   by_cases hgo:t<2147483648
   ·have q1:(t:Int)<2147483648:=by omega
    have c6:IntKind.u32.wrap (2 * (c:Int))=2 * (c:Int):=wrap_u32 (by omega) (by omega)
    simp (maxSteps:=1000000) [-map_map,-mapM_map,↓KW,encM,c2,c3,c4,c5,c6,gd,q1]
    refine nxt_intro (2 * c) ⟨by omega,hdc hgo⟩ ?_ (wk_l [1,2] (by simp) ?_ ?_)
    ·omega
    ·simp [-map_map,upd,inj1,Γ0,encM]
    ·simp [-map_map,upd,inj1,Γ0,encM]
   ·have q1:¬ (t:Int)<2147483648:=by omega
    have hc32:c<4294967296:=by omega
    have hmc:=made_one c hc32
    simp (maxSteps:=1000000) [-map_map,-mapM_map,↓KW,encM,c2,c3,c4,c5,gd,q1]
    refine callP_intro (ds:=[encM [c],.b false]) ?_ hmc ?_
    ·simp (maxSteps:=1000000) [-map_map,-mapM_map,↓KW,encM]
    simp (maxSteps:=1000000) [-map_map,-mapM_map,↓KW,encM,encZ,encI]
    refine callP_intro (ds:=[encM a,.b false]) (by rfl) hma ?_
    simp (maxSteps:=1000000) [-map_map,-mapM_map,↓KW,encZ,encI,encM]
    refine (⟨_,rfl⟩:∃ X,x * c=X).elim fun X hXe=>?_
    refine (⟨_,rfl⟩:∃ X,y * c=X).elim fun Y hYe=>?_
    have hC:=len_cast hc32
    have hXl:(digs X).length≤34359738369:=by rw [← hXe]; exact digs_mul_len hX hc32
    have hYl:(digs Y).length≤34359738369:=by rw [← hYe]; exact digs_mul_len hY hc32
    have hY0:0<Y:=by rw [← hYe]; exact Nat.mul_pos hy hc0
    have hMx:=mul_cast (X:=X) hXe (by omega) (by omega) (x:=x) (c:=c)
    have hMy:=mul_cast (X:=Y) hYe (by omega) (by omega) (x:=y) (c:=c)
    refine callP_intro (ds:=[encZ x,encZ c]) ?_ hMx ?_
    ·simp (maxSteps:=1000000) [-map_map,-mapM_map,↓KW,encZ,encI,encM]
    simp (maxSteps:=1000000) [-map_map,-mapM_map,↓KW,encZ,encI,encM]
    refine callP_intro (ds:=[encM b,.b false]) (by rfl) hmb ?_
    simp (maxSteps:=1000000) [-map_map,-mapM_map,↓KW,encZ,encI,encM]
    refine callP_intro (ds:=[encZ y,encZ c]) ?_ hMy ?_
    ·simp (maxSteps:=1000000) [-map_map,-mapM_map,↓KW,encZ,encI,encM]
    simp (maxSteps:=1000000) [-map_map,-mapM_map,↓KW,encZ,encI,encM]
    refine loopP_inv (fun p:Nat × Nat=>p.1 * Y+p.2=X)
     (fun p=>StL [(4,.ptr 1 0),(5,.ptr 2 0),(8,.d (.i .u32 (c:Int))),(10,.ptr 3 0),(11,.ptr 4 0),(12,.ptr 5 0)] none
      [.cells 69 [.d (.b false),.nil],.cells 69 [.d (.b false),.nil],.cells 69 [.d (.b false),.d (encM (digs p.2))],.cells 69 [.d (.b false),.d (encM (digs Y))],.cells 69 [.d (.b false),zq p.1]]) (fun p=>p.2) (0,X) (by simp) ?_ ?_
    ·refine wk_l [1,2,5,6,7] (by simp) ?_ ?_ <;> simp [-map_map,upd,inj1,Γ0,encM,zq]
    ·intro p hp
     have hpX:p.2≤X:=by rw [← hp]; exact Nat.le_add_left _ _
     have hpl:=Nat.le_trans (digs_len_mono hpX) hXl
     have hless:=r01less (digs p.2) (digs Y) (lim_digs _) (lim_digs _) (by omega) (by omega)
     rw [lessL_digs] at hless
     simp (maxSteps:=1000000) [-map_map,-mapM_map,↓KW,encM]
     refine callP_intro (ds:=[encM (digs p.2),encM (digs Y)]) (by rfl) hless ?_
     by_cases hgo:p.2<Y
     ·simp (maxSteps:=1000000) [-map_map,-mapM_map,↓KW,hgo]
      have hsh:=r01short (digs p.2) c (lim_digs _) hc0 hc32 (by omega)
      have hsv:=shQ_val (lim_digs p.2) hc0
      have hmd:=r01Made (shQ (digs p.2) c) false (by have:=hsv.1; omega)
      have hfin:=div_scale hc0 hy (x:=x) (q:=p.1) (r:=p.2) (by rw [hYe,hXe]; exact hp) (by rw [hYe]; exact hgo)
      rw [made_encZ hsv.2.1,hsv.2.2.1,val_digs,hfin.2,hrr,show sg false rr=(rr:Int) from rfl] at hmd
      refine callP_intro (ds:=[encM (digs p.2),.i .u32 c]) (by rfl) hsh ?_
      simp (maxSteps:=1000000) [-map_map,-mapM_map,↓KW,encM]
      refine callP_intro (ds:=[encM (shQ (digs p.2) c),.b false]) (by rfl) hmd ?_
      have hq1:p.1=qq:=hfin.1.trans hqq
      rw [hq1]
      by_cases hq0:qq=0
      ·simp (maxSteps:=1000000) [-map_map,-mapM_map,↓KW,encZ,encI,encM,resD_2,zq,hq0,digs_zero]
      ·simp (maxSteps:=1000000) [-map_map,-mapM_map,↓KW,encZ,encI,encM,resD_2,zq,hq0]
     ·simp (maxSteps:=1000000) [-map_map,-mapM_map,↓KW,hgo]
      refine (r01estimate (digs p.2) (digs Y) (lim_digs _) (lim_digs _) (canon_digs _) (canon_digs _) (fun h=>by rw [digs_eq_nil] at h; omega) (by rw [val_digs,val_digs]; omega) (by omega)).elim fun e he=>?_
      have he1:=he.2.1
      rw [val_digs,val_digs] at he1
      refine (⟨_,rfl⟩:∃ E,e * Y=E).elim fun E hE=>?_
      rw [hE] at he1
      refine (⟨_,rfl⟩:∃ F,p.2 - E=F).elim fun R' hR'=>?_
      have hR2:p.2=R'+E:=by omega
      have hst:=div_step hp hE hR2 he.1 hY0
      refine (⟨_,rfl⟩:∃ F,p.1+e=F).elim fun q' hq'=>?_
      rw [hq'] at hst
      have hel:(digs (e:Int).natAbs).length≤34359738369:=Nat.le_trans (digs_len_mono (show e≤X by omega)) hXl
      have hqpl:(digs (p.1:Int).natAbs).length≤34359738369:=Nat.le_trans (digs_len_mono (show p.1≤X by omega)) hXl
      have hEl:(digs (E:Int).natAbs).length≤34359738369:=Nat.le_trans (digs_len_mono (show E≤X by omega)) hXl
      have hrl:(digs (p.2:Int).natAbs).length≤34359738369:=hpl
      have hYl2:(digs (Y:Int).natAbs).length≤34359738369:=hYl
      have hadd:=add_cast hq' (by omega) (by omega)
      have hmul:=mul_cast hE (by omega) (by omega)
      have hsub:=sub_cast hR2 (by omega) (by omega)
      by_cases hq0:p.1=0
      ·have hz:zq p.1=.nil:=if_pos hq0
       refine callP_intro (ds:=[encM (digs p.2),encM (digs Y)]) (by rfl) he.2.2 ?_
       simp (maxSteps:=1000000) [-map_map,-mapM_map,↓KW,encM,encZ,encI,hz]
       refine callP_intro (ds:=[encZ p.1,encZ e]) ?_ hadd ?_
       ·simp (maxSteps:=1000000) [-map_map,-mapM_map,↓KW,encZ,encI,encM,hq0,digs_zero]
       simp (maxSteps:=1000000) [-map_map,-mapM_map,↓KW,encM,encZ,encI]
       refine callP_intro (ds:=[encZ e,encZ Y]) ?_ hmul ?_
       ·simp (maxSteps:=1000000) [-map_map,-mapM_map,↓KW,encZ,encI,encM]
       simp (maxSteps:=1000000) [-map_map,-mapM_map,↓KW,encM,encZ,encI]
       refine callP_intro (ds:=[encZ p.2,encZ E]) ?_ hsub ?_
       ·simp (maxSteps:=1000000) [-map_map,-mapM_map,↓KW,encZ,encI,encM]
       simp (maxSteps:=1000000) [-map_map,-mapM_map,↓KW,encM,encZ,encI]
       have hz2:zq q'=.d (encM (digs q')):=if_neg (by have:=he.1; omega)
       refine nxt_intro (q',R') hst.1 hst.2.1 (wk_l [1,2,3,4,5] (by simp) ?_ ?_)
       ·simp [-map_map,upd,inj1,Γ0,encM,hz2]
       ·simp [-map_map,upd,inj1,Γ0,encM,hz2]
      ·have hz:zq p.1=.d (encM (digs p.1)):=if_neg hq0
       refine callP_intro (ds:=[encM (digs p.2),encM (digs Y)]) (by rfl) he.2.2 ?_
       simp (maxSteps:=1000000) [-map_map,-mapM_map,↓KW,encM,encZ,encI,hz]
       refine callP_intro (ds:=[encZ p.1,encZ e]) ?_ hadd ?_
       ·simp (maxSteps:=1000000) [-map_map,-mapM_map,↓KW,encZ,encI,encM,hq0,digs_zero]
       simp (maxSteps:=1000000) [-map_map,-mapM_map,↓KW,encM,encZ,encI]
       refine callP_intro (ds:=[encZ e,encZ Y]) ?_ hmul ?_
       ·simp (maxSteps:=1000000) [-map_map,-mapM_map,↓KW,encZ,encI,encM]
       simp (maxSteps:=1000000) [-map_map,-mapM_map,↓KW,encM,encZ,encI]
       refine callP_intro (ds:=[encZ p.2,encZ E]) ?_ hsub ?_
       ·simp (maxSteps:=1000000) [-map_map,-mapM_map,↓KW,encZ,encI,encM]
       simp (maxSteps:=1000000) [-map_map,-mapM_map,↓KW,encM,encZ,encI]
       have hz2:zq q'=.d (encM (digs q')):=if_neg (by have:=he.1; omega)
       refine nxt_intro (q',R') hst.1 hst.2.1 (wk_l [1,2,3,4,5] (by simp) ?_ ?_)
       ·simp [-map_map,upd,inj1,Γ0,encM,hz2]
       ·simp [-map_map,upd,inj1,Γ0,encM,hz2]
end Go.Am
end

section
set_option linter.unusedVariables false
set_option linter.unusedSimpArgs false
open List (map_map mapM_map)
open Go Go.Am Go.Proofs
namespace Go.Am
theorem ediv_unique {x y q r:Int} (hy:y≠0) (h:r+y * q=x) (h0:0≤r) (h1:r<(y.natAbs:Int)):x / y=q∧x % y=r:=by
 by_cases hp:0<y
 ·exact (Int.ediv_emod_unique hp).2 ⟨h,h0,by omega⟩
 ·obtain ⟨z,hz⟩:∃ z,y=-z:=⟨-y,by omega⟩
  subst hz
  have:=(Int.ediv_emod_unique (a:=x) (b:=z) (q:=-q) (r:=r) (by omega)).2 ⟨by rw [← h,Int.mul_neg,Int.neg_mul],h0,by omega⟩
  rw [Int.ediv_neg,Int.emod_neg]
  omega
theorem made_self (x:Int) (hx:(digs x.natAbs).length≤1099511627776):Spec Tryz.prog 78 [encM (digs x.natAbs),.b (decide (x<0))] (encZ x):=by
 have hm:=r01Made (digs x.natAbs) (decide (x<0)) hx
 rwa [made_encZ (lim_digs _),val_digs,sg_natAbs] at hm
theorem dm_facts (x y:Int) (hy:y≠0) {qq rr:Nat} (hqq:x.natAbs / y.natAbs=qq) (hrr:x.natAbs % y.natAbs=rr) :
  (rr<y.natAbs)∧qq * y.natAbs+rr=x.natAbs∧(¬ x<0→¬ y<0→x / y=qq∧x % y=rr)∧(¬ x<0→y<0→x / y=-(qq:Int)∧x % y=rr) ∧
  (x<0→rr=0→¬ y<0→x / y=-(qq:Int)∧x % y=0)∧(x<0→rr=0→y<0→x / y=qq∧x % y=0) ∧
  (x<0→0<rr→¬ y<0→x / y=-((qq:Int)+1)∧x % y=(y.natAbs:Int) - rr)∧(x<0→0<rr→y<0→x / y=(qq:Int)+1∧x % y=(y.natAbs:Int) - rr):=by
 have hya:0<y.natAbs:=by omega
 have h1:rr<y.natAbs:=by rw [← hrr]; exact Nat.mod_lt _ hya
 have h2:qq * y.natAbs+rr=x.natAbs:=by rw [← hqq,← hrr,Nat.mul_comm]; exact Nat.div_add_mod ..
 have h3:(qq:Int) * (y.natAbs:Int)+rr=(x.natAbs:Int):=by exact_mod_cast h2
 have ep:¬ y<0→(y.natAbs:Int)=y:=fun h=>by omega
 have en:y<0→(y.natAbs:Int)=-y:=fun h=>by omega
 refine ⟨h1,h2,fun hx h=>?_,fun hx h=>?_,fun hx h0 h=>?_,fun hx h0 h=>?_,fun hx h0 h=>?_,fun hx h0 h=>?_⟩
 ·exact ediv_unique hy (by rw [ep h,Int.mul_comm] at h3; omega) (by omega) (by omega)
 ·exact ediv_unique hy (by rw [en h,Int.mul_neg,Int.mul_comm] at h3; rw [Int.mul_neg]; omega) (by omega) (by omega)
 ·exact ediv_unique hy (by rw [ep h,Int.mul_comm] at h3; rw [Int.mul_neg]; omega) (by omega) (by omega)
 ·exact ediv_unique hy (by rw [en h,Int.mul_neg,Int.mul_comm] at h3; omega) (by omega) (by omega)
 ·exact ediv_unique hy (by rw [ep h,Int.mul_comm] at h3; rw [ep h,Int.mul_neg,Int.mul_add]; omega) (by omega) (by omega)
 ·exact ediv_unique hy (by rw [en h,Int.mul_neg,Int.mul_comm] at h3; rw [en h,Int.mul_add]; omega) (by omega) (by omega)
theorem digs_len_succ (n:Nat):(digs (n+1)).length≤(digs n).length+1:=by
 have h:=lt_of_digs_len (Nat.le_refl (digs n).length)
 refine digs_len_le ?_
 rw [Nat.pow_succ]
 have:0<4294967296 ^ (digs n).length:=Nat.pow_pos (by decide)
 omega
theorem made_cast (y:Int) (hy:(digs y.natAbs).length≤1099511627776):Spec Tryz.prog 78 [encM (digs y.natAbs),.b false] (encZ (y.natAbs:Int)):=by
 have hm:=r01Made (digs y.natAbs) false hy
 rw [made_encZ (lim_digs _),val_digs] at hm
 exact hm
set_option maxRecDepth 10000 in
theorem r01DivMod (x y:Int) (hy:y≠0) (hx:(digs x.natAbs).length≤34359738368) (hyl:(digs y.natAbs).length≤34359738368):Spec Tryz.prog 171 [encZ x,encZ y] (.tp [encZ (x / y),encZ (x % y),.i .i64 0]):=by
 have hx0:=hx
 have hyl0:=hyl
 refine spec_ofL (N:=56) follows_mixed Tryz.func171 rfl rfl rfl (by kernel_rfl) (by kernel_rfl) (by simp) ?_
 obtain ⟨qq,hqq⟩:∃ q,x.natAbs / y.natAbs=q:=⟨_,rfl⟩
 obtain ⟨rr,hrr⟩:∃ q,x.natAbs % y.natAbs=q:=⟨_,rfl⟩
 have hf:=dm_facts x y hy hqq hrr
 obtain ⟨Q,hQ⟩:∃ Q,x / y=Q:=⟨_,rfl⟩
 obtain ⟨R,hR⟩:∃ Q,x % y=Q:=⟨_,rfl⟩
 have hm1:=made_self x (by omega)
 have hm2:=made_self y (by omega)
 have hd:=r01divide x.natAbs y.natAbs qq rr hqq hrr (by omega) hx hyl
 have hs:=r01SignZ y
 have hs0:y.sign≠0:=fun h=>hy (Int.sign_eq_zero_iff_zero.1 h)
 have hmy:=made_cast y (by omega)
 have hlq:(digs qq).length≤34359738368:=Nat.le_trans (digs_len_mono (by rw [← hqq]; exact Nat.div_le_self ..)) hx0
 have hlr:(digs rr).length≤34359738368:=Nat.le_trans (digs_len_mono (by have:=hf.1; omega)) hyl0
 have hnq:((qq:Int)).natAbs=qq:=Int.natAbs_natCast qq
 have hnr:((rr:Int)).natAbs=rr:=Int.natAbs_natCast rr
 have hny0:((y.natAbs:Int)).natAbs=y.natAbs:=Int.natAbs_natCast _
 have hof:=r01Of 1 (by decide) (by decide)
 have had:=r01AddZ (qq:Int) 1 (by rw [hnq]; omega) (Nat.le_trans (digs_len_le (k:=1) (by decide)) (by decide))
 have hsu:=r01SubB (y.natAbs:Int) (rr:Int) (by rw [hny0]; omega) (by rw [hnr]; omega)
 have hn1:=r01NegB (qq:Int) (by rw [hnq]; omega)
 have hn2:=r01NegB ((qq:Int)+1) (by
  have:((qq:Int)+1).natAbs=qq+1:=by omega
  rw [this]
  have:=digs_len_succ qq
  omega)
 have hsr:=r01SignZ (rr:Int)
 have hz:∀ z:Int,∃ s m,encZ z=.ag [.b s,encM m]:=fun z=>⟨_,_,rfl⟩
 obtain ⟨sq,mq,eq⟩:=hz qq
 obtain ⟨sr,mr,er⟩:=hz rr
 obtain ⟨s1,m1,e1⟩:=hz 1
 obtain ⟨sp,mp,ep⟩:=hz ((qq:Int)+1)
 obtain ⟨sy,my,ey0⟩:=hz (y.natAbs:Int)
 obtain ⟨sd,md,ed⟩:=hz ((y.natAbs:Int) - rr)
 obtain ⟨sn,mn,en1⟩:=hz (-(qq:Int))
 obtain ⟨sm,mm,en2⟩:=hz (-((qq:Int)+1))
 rw [eq,er] at hd
 rw [e1] at hof
 rw [eq,e1,ep] at had
 rw [ey0,er,ed] at hsu
 rw [eq,en1] at hn1
 rw [ep,en2] at hn2
 rw [er] at hsr
 rw [ey0] at hmy
 have hsg0:rr=0→(rr:Int).sign=0:=fun h=>by rw [h]; rfl
 have hsg1:¬ rr=0→(rr:Int).sign=1:=fun h=>Int.sign_eq_one_of_pos (by omega)
 rw [hQ,hR] at hf ⊢
 have ex:encZ x=.ag [.b (decide (x<0)),encM (digs x.natAbs)]:=rfl
 have ey:encZ y=.ag [.b (decide (y<0)),encM (digs y.natAbs)]:=rfl
 rw [ex] at hm1 ⊢
 rw [ey] at hm2 hs ⊢
 generalize digs x.natAbs=a at *
 generalize digs y.natAbs=b at *
 by_cases hnx:x<0 <;> by_cases hny:y<0
 ·rw [decide_eq_true hnx,decide_eq_true hny] at *
  by_cases hr0:rr=0
  ·obtain ⟨f1,f2⟩:=hf.2.2.2.2.2.1 hnx hr0 hny
   have e0:encZ 0=.ag [.b sr,encM mr]:=by rw [← er,hr0]; rfl
   have hsg:=hsg0 hr0
   rw [f1,f2,eq,e0]
   have hs1:(y.sign == 0)=false:=by simpa using hs0
   simp (maxSteps:=1000000) [-map_map,-mapM_map,↓KW,↓awpl_seqB,↓awpl_retB,finP_nil,encM]
   refine callP_intro (ds:=[encM a,.b true]) (by rfl) hm1 ?_
   simp (maxSteps:=1000000) [-map_map,-mapM_map,↓KW,↓awpl_seqB,↓awpl_retB,finP_nil,encM]
   refine callP_intro (ds:=[encM b,.b true]) (by rfl) hm2 ?_
   simp (maxSteps:=1000000) [-map_map,-mapM_map,↓KW,↓awpl_seqB,↓awpl_retB,finP_nil,encM]
   refine callP_intro (ds:=[.ag [.b true,encM b]]) ?_ hs ?_
   ·simp (maxSteps:=1000000) [-map_map,-mapM_map,↓KW,↓awpl_seqB,↓awpl_retB,finP_nil,encM,hs1]
   simp (maxSteps:=1000000) [-map_map,-mapM_map,↓KW,↓awpl_seqB,↓awpl_retB,finP_nil,encM,hs1]
   refine callP_intro (ds:=[encM a,encM b]) (by rfl) hd ?_
   simp (maxSteps:=1000000) [-map_map,-mapM_map,↓KW,↓awpl_seqB,↓awpl_retB,finP_nil,encM]
   refine callP_intro (ds:=[.ag [.b sr,encM mr]]) ?_ hsr ?_
   ·simp (maxSteps:=1000000) [-map_map,-mapM_map,↓KW,↓awpl_seqB,↓awpl_retB,finP_nil,encM,hsg]
   simp (maxSteps:=1000000) [-map_map,-mapM_map,↓KW,↓awpl_seqB,↓awpl_retB,finP_nil,encM,hsg]
   refine oa_two 0 1 (by kernel_rfl) rfl rfl ?_ ?_
   ·simp (maxSteps:=1000000) [-map_map,-mapM_map,↓KW,↓awpl_seqB,↓awpl_retB,finP_nil,encM]
    refine oa_two 1 2 (by kernel_rfl) rfl rfl ?_ ?_
    ·simp (maxSteps:=1000000) [-map_map,-mapM_map,↓KW,↓awpl_seqB,↓awpl_retB,finP_nil,encM]
     refine oa_one 2 (by kernel_rfl) rfl ?_
     simp (maxSteps:=1000000) [-map_map,-mapM_map,↓KW,↓awpl_seqB,↓awpl_retB,finP_nil,encM]
     refine oa_one 3 (by kernel_rfl) rfl ?_
     simp (maxSteps:=1000000) [-map_map,-mapM_map,↓KW,↓awpl_seqB,↓awpl_retB,finP_nil,encM]
     refine oa_one 4 (by kernel_rfl) rfl ?_
     simp (maxSteps:=1000000) [-map_map,-mapM_map,↓KW,↓awpl_seqB,↓awpl_retB,finP_nil,encM]
     refine oa_end (by kernel_rfl) ?_
     simp (maxSteps:=1000000) [-map_map,-mapM_map,↓KW,↓awpl_seqB,↓awpl_retB,finP_nil,encM,resD_3]
    ·simp (maxSteps:=1000000) [-map_map,-mapM_map,↓KW,↓awpl_seqB,↓awpl_retB,finP_nil,encM]
     refine oa_one 1 (by kernel_rfl) rfl ?_
     simp (maxSteps:=1000000) [-map_map,-mapM_map,↓KW,↓awpl_seqB,↓awpl_retB,finP_nil,encM]
     refine oa_one 3 (by kernel_rfl) rfl ?_
     simp (maxSteps:=1000000) [-map_map,-mapM_map,↓KW,↓awpl_seqB,↓awpl_retB,finP_nil,encM]
     refine oa_one 4 (by kernel_rfl) rfl ?_
     simp (maxSteps:=1000000) [-map_map,-mapM_map,↓KW,↓awpl_seqB,↓awpl_retB,finP_nil,encM]
     refine oa_end (by kernel_rfl) ?_
     simp (maxSteps:=1000000) [-map_map,-mapM_map,↓KW,↓awpl_seqB,↓awpl_retB,finP_nil,encM,resD_3]
   ·simp (maxSteps:=1000000) [-map_map,-mapM_map,↓KW,↓awpl_seqB,↓awpl_retB,finP_nil,encM]
    refine oa_one 0 (by kernel_rfl) rfl ?_
    simp (maxSteps:=1000000) [-map_map,-mapM_map,↓KW,↓awpl_seqB,↓awpl_retB,finP_nil,encM]
    refine oa_one 2 (by kernel_rfl) rfl ?_
    simp (maxSteps:=1000000) [-map_map,-mapM_map,↓KW,↓awpl_seqB,↓awpl_retB,finP_nil,encM]
    refine oa_one 3 (by kernel_rfl) rfl ?_
    simp (maxSteps:=1000000) [-map_map,-mapM_map,↓KW,↓awpl_seqB,↓awpl_retB,finP_nil,encM]
    refine oa_one 4 (by kernel_rfl) rfl ?_
    simp (maxSteps:=1000000) [-map_map,-mapM_map,↓KW,↓awpl_seqB,↓awpl_retB,finP_nil,encM]
    refine oa_end (by kernel_rfl) ?_
    simp (maxSteps:=1000000) [-map_map,-mapM_map,↓KW,↓awpl_seqB,↓awpl_retB,finP_nil,encM,resD_3]
  ·obtain ⟨f1,f2⟩:=hf.2.2.2.2.2.2.2 hnx (by omega) hny
   have hsg:=hsg1 hr0
   rw [f1,f2,ep,ed]
   have hs1:(y.sign == 0)=false:=by simpa using hs0
   simp (maxSteps:=1000000) [-map_map,-mapM_map,↓KW,↓awpl_seqB,↓awpl_retB,finP_nil,encM]
   refine callP_intro (ds:=[encM a,.b true]) (by rfl) hm1 ?_
   simp (maxSteps:=1000000) [-map_map,-mapM_map,↓KW,↓awpl_seqB,↓awpl_retB,finP_nil,encM]
   refine callP_intro (ds:=[encM b,.b true]) (by rfl) hm2 ?_
   simp (maxSteps:=1000000) [-map_map,-mapM_map,↓KW,↓awpl_seqB,↓awpl_retB,finP_nil,encM]
   refine callP_intro (ds:=[.ag [.b true,encM b]]) ?_ hs ?_
   ·simp (maxSteps:=1000000) [-map_map,-mapM_map,↓KW,↓awpl_seqB,↓awpl_retB,finP_nil,encM,hs1]
   simp (maxSteps:=1000000) [-map_map,-mapM_map,↓KW,↓awpl_seqB,↓awpl_retB,finP_nil,encM,hs1]
   refine callP_intro (ds:=[encM a,encM b]) (by rfl) hd ?_
   simp (maxSteps:=1000000) [-map_map,-mapM_map,↓KW,↓awpl_seqB,↓awpl_retB,finP_nil,encM]
   refine callP_intro (ds:=[.ag [.b sr,encM mr]]) ?_ hsr ?_
   ·simp (maxSteps:=1000000) [-map_map,-mapM_map,↓KW,↓awpl_seqB,↓awpl_retB,finP_nil,encM,hsg]
   simp (maxSteps:=1000000) [-map_map,-mapM_map,↓KW,↓awpl_seqB,↓awpl_retB,finP_nil,encM,hsg]
   refine callP_intro (ds:=[.i .i64 1]) (by rfl) hof ?_
   simp (maxSteps:=1000000) [-map_map,-mapM_map,↓KW,↓awpl_seqB,↓awpl_retB,finP_nil,encM]
   refine callP_intro (ds:=[.ag [.b sq,encM mq],.ag [.b s1,encM m1]]) ?_ had ?_
   ·simp (maxSteps:=1000000) [-map_map,-mapM_map,↓KW,↓awpl_seqB,↓awpl_retB,finP_nil,encM]
   simp (maxSteps:=1000000) [-map_map,-mapM_map,↓KW,↓awpl_seqB,↓awpl_retB,finP_nil,encM]
   refine callP_intro (ds:=[encM b,.b false]) (by rfl) hmy ?_
   simp (maxSteps:=1000000) [-map_map,-mapM_map,↓KW,↓awpl_seqB,↓awpl_retB,finP_nil,encM]
   refine callP_intro (ds:=[.ag [.b sy,encM my],.ag [.b sr,encM mr]]) ?_ hsu ?_
   ·simp (maxSteps:=1000000) [-map_map,-mapM_map,↓KW,↓awpl_seqB,↓awpl_retB,finP_nil,encM]
   simp (maxSteps:=1000000) [-map_map,-mapM_map,↓KW,↓awpl_seqB,↓awpl_retB,finP_nil,encM]
   refine oa_two 0 1 (by kernel_rfl) rfl rfl ?_ ?_
   ·simp (maxSteps:=1000000) [-map_map,-mapM_map,↓KW,↓awpl_seqB,↓awpl_retB,finP_nil,encM]
    refine oa_two 1 2 (by kernel_rfl) rfl rfl ?_ ?_
    ·simp (maxSteps:=1000000) [-map_map,-mapM_map,↓KW,↓awpl_seqB,↓awpl_retB,finP_nil,encM]
     refine oa_one 2 (by kernel_rfl) rfl ?_
     simp (maxSteps:=1000000) [-map_map,-mapM_map,↓KW,↓awpl_seqB,↓awpl_retB,finP_nil,encM]
     refine oa_one 3 (by kernel_rfl) rfl ?_
     simp (maxSteps:=1000000) [-map_map,-mapM_map,↓KW,↓awpl_seqB,↓awpl_retB,finP_nil,encM]
     refine oa_one 4 (by kernel_rfl) rfl ?_
     simp (maxSteps:=1000000) [-map_map,-mapM_map,↓KW,↓awpl_seqB,↓awpl_retB,finP_nil,encM]
     refine oa_end (by kernel_rfl) ?_
     simp (maxSteps:=1000000) [-map_map,-mapM_map,↓KW,↓awpl_seqB,↓awpl_retB,finP_nil,encM,resD_3]
    ·simp (maxSteps:=1000000) [-map_map,-mapM_map,↓KW,↓awpl_seqB,↓awpl_retB,finP_nil,encM]
     refine oa_one 1 (by kernel_rfl) rfl ?_
     simp (maxSteps:=1000000) [-map_map,-mapM_map,↓KW,↓awpl_seqB,↓awpl_retB,finP_nil,encM]
     refine oa_one 3 (by kernel_rfl) rfl ?_
     simp (maxSteps:=1000000) [-map_map,-mapM_map,↓KW,↓awpl_seqB,↓awpl_retB,finP_nil,encM]
     refine oa_one 4 (by kernel_rfl) rfl ?_
     simp (maxSteps:=1000000) [-map_map,-mapM_map,↓KW,↓awpl_seqB,↓awpl_retB,finP_nil,encM]
     refine oa_end (by kernel_rfl) ?_
     simp (maxSteps:=1000000) [-map_map,-mapM_map,↓KW,↓awpl_seqB,↓awpl_retB,finP_nil,encM,resD_3]
   ·simp (maxSteps:=1000000) [-map_map,-mapM_map,↓KW,↓awpl_seqB,↓awpl_retB,finP_nil,encM]
    refine oa_one 0 (by kernel_rfl) rfl ?_
    simp (maxSteps:=1000000) [-map_map,-mapM_map,↓KW,↓awpl_seqB,↓awpl_retB,finP_nil,encM]
    refine oa_one 2 (by kernel_rfl) rfl ?_
    simp (maxSteps:=1000000) [-map_map,-mapM_map,↓KW,↓awpl_seqB,↓awpl_retB,finP_nil,encM]
    refine oa_one 3 (by kernel_rfl) rfl ?_
    simp (maxSteps:=1000000) [-map_map,-mapM_map,↓KW,↓awpl_seqB,↓awpl_retB,finP_nil,encM]
    refine oa_one 4 (by kernel_rfl) rfl ?_
    simp (maxSteps:=1000000) [-map_map,-mapM_map,↓KW,↓awpl_seqB,↓awpl_retB,finP_nil,encM]
    refine oa_end (by kernel_rfl) ?_
    simp (maxSteps:=1000000) [-map_map,-mapM_map,↓KW,↓awpl_seqB,↓awpl_retB,finP_nil,encM,resD_3]
 ·rw [decide_eq_true hnx,decide_eq_false hny] at *
  by_cases hr0:rr=0
  ·obtain ⟨f1,f2⟩:=hf.2.2.2.2.1 hnx hr0 hny
   have e0:encZ 0=.ag [.b sr,encM mr]:=by rw [← er,hr0]; rfl
   have hsg:=hsg0 hr0
   rw [f1,f2,en1,e0]
   have hs1:(y.sign == 0)=false:=by simpa using hs0
   simp (maxSteps:=1000000) [-map_map,-mapM_map,↓KW,↓awpl_seqB,↓awpl_retB,finP_nil,encM]
   refine callP_intro (ds:=[encM a,.b true]) (by rfl) hm1 ?_
   simp (maxSteps:=1000000) [-map_map,-mapM_map,↓KW,↓awpl_seqB,↓awpl_retB,finP_nil,encM]
   refine callP_intro (ds:=[encM b,.b false]) (by rfl) hm2 ?_
   simp (maxSteps:=1000000) [-map_map,-mapM_map,↓KW,↓awpl_seqB,↓awpl_retB,finP_nil,encM]
   refine callP_intro (ds:=[.ag [.b false,encM b]]) ?_ hs ?_
   ·simp (maxSteps:=1000000) [-map_map,-mapM_map,↓KW,↓awpl_seqB,↓awpl_retB,finP_nil,encM,hs1]
   simp (maxSteps:=1000000) [-map_map,-mapM_map,↓KW,↓awpl_seqB,↓awpl_retB,finP_nil,encM,hs1]
   refine callP_intro (ds:=[encM a,encM b]) (by rfl) hd ?_
   simp (maxSteps:=1000000) [-map_map,-mapM_map,↓KW,↓awpl_seqB,↓awpl_retB,finP_nil,encM]
   refine callP_intro (ds:=[.ag [.b sr,encM mr]]) ?_ hsr ?_
   ·simp (maxSteps:=1000000) [-map_map,-mapM_map,↓KW,↓awpl_seqB,↓awpl_retB,finP_nil,encM,hsg]
   simp (maxSteps:=1000000) [-map_map,-mapM_map,↓KW,↓awpl_seqB,↓awpl_retB,finP_nil,encM,hsg]
   refine callP_intro (ds:=[.ag [.b sq,encM mq]]) ?_ hn1 ?_
   ·simp (maxSteps:=1000000) [-map_map,-mapM_map,↓KW,↓awpl_seqB,↓awpl_retB,finP_nil,encM]
   simp (maxSteps:=1000000) [-map_map,-mapM_map,↓KW,↓awpl_seqB,↓awpl_retB,finP_nil,encM]
   refine oa_two 0 1 (by kernel_rfl) rfl rfl ?_ ?_
   ·simp (maxSteps:=1000000) [-map_map,-mapM_map,↓KW,↓awpl_seqB,↓awpl_retB,finP_nil,encM]
    refine oa_two 1 2 (by kernel_rfl) rfl rfl ?_ ?_
    ·simp (maxSteps:=1000000) [-map_map,-mapM_map,↓KW,↓awpl_seqB,↓awpl_retB,finP_nil,encM]
     refine oa_one 2 (by kernel_rfl) rfl ?_
     simp (maxSteps:=1000000) [-map_map,-mapM_map,↓KW,↓awpl_seqB,↓awpl_retB,finP_nil,encM]
     refine oa_one 3 (by kernel_rfl) rfl ?_
     simp (maxSteps:=1000000) [-map_map,-mapM_map,↓KW,↓awpl_seqB,↓awpl_retB,finP_nil,encM]
     refine oa_one 4 (by kernel_rfl) rfl ?_
     simp (maxSteps:=1000000) [-map_map,-mapM_map,↓KW,↓awpl_seqB,↓awpl_retB,finP_nil,encM]
     refine oa_end (by kernel_rfl) ?_
     simp (maxSteps:=1000000) [-map_map,-mapM_map,↓KW,↓awpl_seqB,↓awpl_retB,finP_nil,encM,resD_3]
    ·simp (maxSteps:=1000000) [-map_map,-mapM_map,↓KW,↓awpl_seqB,↓awpl_retB,finP_nil,encM]
     refine oa_one 1 (by kernel_rfl) rfl ?_
     simp (maxSteps:=1000000) [-map_map,-mapM_map,↓KW,↓awpl_seqB,↓awpl_retB,finP_nil,encM]
     refine oa_one 3 (by kernel_rfl) rfl ?_
     simp (maxSteps:=1000000) [-map_map,-mapM_map,↓KW,↓awpl_seqB,↓awpl_retB,finP_nil,encM]
     refine oa_one 4 (by kernel_rfl) rfl ?_
     simp (maxSteps:=1000000) [-map_map,-mapM_map,↓KW,↓awpl_seqB,↓awpl_retB,finP_nil,encM]
     refine oa_end (by kernel_rfl) ?_
     simp (maxSteps:=1000000) [-map_map,-mapM_map,↓KW,↓awpl_seqB,↓awpl_retB,finP_nil,encM,resD_3]
   ·simp (maxSteps:=1000000) [-map_map,-mapM_map,↓KW,↓awpl_seqB,↓awpl_retB,finP_nil,encM]
    refine oa_one 0 (by kernel_rfl) rfl ?_
    simp (maxSteps:=1000000) [-map_map,-mapM_map,↓KW,↓awpl_seqB,↓awpl_retB,finP_nil,encM]
    refine oa_one 2 (by kernel_rfl) rfl ?_
    simp (maxSteps:=1000000) [-map_map,-mapM_map,↓KW,↓awpl_seqB,↓awpl_retB,finP_nil,encM]
    refine oa_one 3 (by kernel_rfl) rfl ?_
    simp (maxSteps:=1000000) [-map_map,-mapM_map,↓KW,↓awpl_seqB,↓awpl_retB,finP_nil,encM]
    refine oa_one 4 (by kernel_rfl) rfl ?_
    simp (maxSteps:=1000000) [-map_map,-mapM_map,↓KW,↓awpl_seqB,↓awpl_retB,finP_nil,encM]
    refine oa_end (by kernel_rfl) ?_
    simp (maxSteps:=1000000) [-map_map,-mapM_map,↓KW,↓awpl_seqB,↓awpl_retB,finP_nil,encM,resD_3]
  ·obtain ⟨f1,f2⟩:=hf.2.2.2.2.2.2.1 hnx (by omega) hny
   have hsg:=hsg1 hr0
   rw [f1,f2,en2,ed]
   have hs1:(y.sign == 0)=false:=by simpa using hs0
   simp (maxSteps:=1000000) [-map_map,-mapM_map,↓KW,↓awpl_seqB,↓awpl_retB,finP_nil,encM]
   refine callP_intro (ds:=[encM a,.b true]) (by rfl) hm1 ?_
   simp (maxSteps:=1000000) [-map_map,-mapM_map,↓KW,↓awpl_seqB,↓awpl_retB,finP_nil,encM]
   refine callP_intro (ds:=[encM b,.b false]) (by rfl) hm2 ?_
   simp (maxSteps:=1000000) [-map_map,-mapM_map,↓KW,↓awpl_seqB,↓awpl_retB,finP_nil,encM]
   refine callP_intro (ds:=[.ag [.b false,encM b]]) ?_ hs ?_
   ·simp (maxSteps:=1000000) [-map_map,-mapM_map,↓KW,↓awpl_seqB,↓awpl_retB,finP_nil,encM,hs1]
   simp (maxSteps:=1000000) [-map_map,-mapM_map,↓KW,↓awpl_seqB,↓awpl_retB,finP_nil,encM,hs1]
   refine callP_intro (ds:=[encM a,encM b]) (by rfl) hd ?_
   simp (maxSteps:=1000000) [-map_map,-mapM_map,↓KW,↓awpl_seqB,↓awpl_retB,finP_nil,encM]
   refine callP_intro (ds:=[.ag [.b sr,encM mr]]) ?_ hsr ?_
   ·simp (maxSteps:=1000000) [-map_map,-mapM_map,↓KW,↓awpl_seqB,↓awpl_retB,finP_nil,encM,hsg]
   simp (maxSteps:=1000000) [-map_map,-mapM_map,↓KW,↓awpl_seqB,↓awpl_retB,finP_nil,encM,hsg]
   refine callP_intro (ds:=[.i .i64 1]) (by rfl) hof ?_
   simp (maxSteps:=1000000) [-map_map,-mapM_map,↓KW,↓awpl_seqB,↓awpl_retB,finP_nil,encM]
   refine callP_intro (ds:=[.ag [.b sq,encM mq],.ag [.b s1,encM m1]]) ?_ had ?_
   ·simp (maxSteps:=1000000) [-map_map,-mapM_map,↓KW,↓awpl_seqB,↓awpl_retB,finP_nil,encM]
   simp (maxSteps:=1000000) [-map_map,-mapM_map,↓KW,↓awpl_seqB,↓awpl_retB,finP_nil,encM]
   refine callP_intro (ds:=[encM b,.b false]) (by rfl) hmy ?_
   simp (maxSteps:=1000000) [-map_map,-mapM_map,↓KW,↓awpl_seqB,↓awpl_retB,finP_nil,encM]
   refine callP_intro (ds:=[.ag [.b sy,encM my],.ag [.b sr,encM mr]]) ?_ hsu ?_
   ·simp (maxSteps:=1000000) [-map_map,-mapM_map,↓KW,↓awpl_seqB,↓awpl_retB,finP_nil,encM]
   simp (maxSteps:=1000000) [-map_map,-mapM_map,↓KW,↓awpl_seqB,↓awpl_retB,finP_nil,encM]
   refine callP_intro (ds:=[.ag [.b sp,encM mp]]) ?_ hn2 ?_
   ·simp (maxSteps:=1000000) [-map_map,-mapM_map,↓KW,↓awpl_seqB,↓awpl_retB,finP_nil,encM]
   simp (maxSteps:=1000000) [-map_map,-mapM_map,↓KW,↓awpl_seqB,↓awpl_retB,finP_nil,encM]
   refine oa_two 0 1 (by kernel_rfl) rfl rfl ?_ ?_
   ·simp (maxSteps:=1000000) [-map_map,-mapM_map,↓KW,↓awpl_seqB,↓awpl_retB,finP_nil,encM]
    refine oa_two 1 2 (by kernel_rfl) rfl rfl ?_ ?_
    ·simp (maxSteps:=1000000) [-map_map,-mapM_map,↓KW,↓awpl_seqB,↓awpl_retB,finP_nil,encM]
     refine oa_one 2 (by kernel_rfl) rfl ?_
     simp (maxSteps:=1000000) [-map_map,-mapM_map,↓KW,↓awpl_seqB,↓awpl_retB,finP_nil,encM]
     refine oa_one 3 (by kernel_rfl) rfl ?_
     simp (maxSteps:=1000000) [-map_map,-mapM_map,↓KW,↓awpl_seqB,↓awpl_retB,finP_nil,encM]
     refine oa_one 4 (by kernel_rfl) rfl ?_
     simp (maxSteps:=1000000) [-map_map,-mapM_map,↓KW,↓awpl_seqB,↓awpl_retB,finP_nil,encM]
     refine oa_end (by kernel_rfl) ?_
     simp (maxSteps:=1000000) [-map_map,-mapM_map,↓KW,↓awpl_seqB,↓awpl_retB,finP_nil,encM,resD_3]
    ·simp (maxSteps:=1000000) [-map_map,-mapM_map,↓KW,↓awpl_seqB,↓awpl_retB,finP_nil,encM]
     refine oa_one 1 (by kernel_rfl) rfl ?_
     simp (maxSteps:=1000000) [-map_map,-mapM_map,↓KW,↓awpl_seqB,↓awpl_retB,finP_nil,encM]
     refine oa_one 3 (by kernel_rfl) rfl ?_
     simp (maxSteps:=1000000) [-map_map,-mapM_map,↓KW,↓awpl_seqB,↓awpl_retB,finP_nil,encM]
     refine oa_one 4 (by kernel_rfl) rfl ?_
     simp (maxSteps:=1000000) [-map_map,-mapM_map,↓KW,↓awpl_seqB,↓awpl_retB,finP_nil,encM]
     refine oa_end (by kernel_rfl) ?_
     simp (maxSteps:=1000000) [-map_map,-mapM_map,↓KW,↓awpl_seqB,↓awpl_retB,finP_nil,encM,resD_3]
   ·simp (maxSteps:=1000000) [-map_map,-mapM_map,↓KW,↓awpl_seqB,↓awpl_retB,finP_nil,encM]
    refine oa_one 0 (by kernel_rfl) rfl ?_
    simp (maxSteps:=1000000) [-map_map,-mapM_map,↓KW,↓awpl_seqB,↓awpl_retB,finP_nil,encM]
    refine oa_one 2 (by kernel_rfl) rfl ?_
    simp (maxSteps:=1000000) [-map_map,-mapM_map,↓KW,↓awpl_seqB,↓awpl_retB,finP_nil,encM]
    refine oa_one 3 (by kernel_rfl) rfl ?_
    simp (maxSteps:=1000000) [-map_map,-mapM_map,↓KW,↓awpl_seqB,↓awpl_retB,finP_nil,encM]
    refine oa_one 4 (by kernel_rfl) rfl ?_
    simp (maxSteps:=1000000) [-map_map,-mapM_map,↓KW,↓awpl_seqB,↓awpl_retB,finP_nil,encM]
    refine oa_end (by kernel_rfl) ?_
    simp (maxSteps:=1000000) [-map_map,-mapM_map,↓KW,↓awpl_seqB,↓awpl_retB,finP_nil,encM,resD_3]
 ·rw [decide_eq_false hnx,decide_eq_true hny] at *
  obtain ⟨f1,f2⟩:=hf.2.2.2.1 hnx hny
  rw [f1,f2,en1,er]
  have hs1:(y.sign == 0)=false:=by simpa using hs0
  simp (maxSteps:=1000000) [-map_map,-mapM_map,↓KW,↓awpl_seqB,↓awpl_retB,finP_nil,encM]
  refine callP_intro (ds:=[encM a,.b false]) (by rfl) hm1 ?_
  simp (maxSteps:=1000000) [-map_map,-mapM_map,↓KW,↓awpl_seqB,↓awpl_retB,finP_nil,encM]
  refine callP_intro (ds:=[encM b,.b true]) (by rfl) hm2 ?_
  simp (maxSteps:=1000000) [-map_map,-mapM_map,↓KW,↓awpl_seqB,↓awpl_retB,finP_nil,encM]
  refine callP_intro (ds:=[.ag [.b true,encM b]]) ?_ hs ?_
  ·simp (maxSteps:=1000000) [-map_map,-mapM_map,↓KW,↓awpl_seqB,↓awpl_retB,finP_nil,encM,hs1]
  simp (maxSteps:=1000000) [-map_map,-mapM_map,↓KW,↓awpl_seqB,↓awpl_retB,finP_nil,encM,hs1]
  refine callP_intro (ds:=[encM a,encM b]) (by rfl) hd ?_
  simp (maxSteps:=1000000) [-map_map,-mapM_map,↓KW,↓awpl_seqB,↓awpl_retB,finP_nil,encM]
  refine callP_intro (ds:=[.ag [.b sq,encM mq]]) ?_ hn1 ?_
  ·simp (maxSteps:=1000000) [-map_map,-mapM_map,↓KW,↓awpl_seqB,↓awpl_retB,finP_nil,encM]
  simp (maxSteps:=1000000) [-map_map,-mapM_map,↓KW,↓awpl_seqB,↓awpl_retB,finP_nil,encM]
  refine oa_two 0 1 (by kernel_rfl) rfl rfl ?_ ?_
  ·simp (maxSteps:=1000000) [-map_map,-mapM_map,↓KW,↓awpl_seqB,↓awpl_retB,finP_nil,encM]
   refine oa_two 1 2 (by kernel_rfl) rfl rfl ?_ ?_
   ·simp (maxSteps:=1000000) [-map_map,-mapM_map,↓KW,↓awpl_seqB,↓awpl_retB,finP_nil,encM]
    refine oa_one 2 (by kernel_rfl) rfl ?_
    simp (maxSteps:=1000000) [-map_map,-mapM_map,↓KW,↓awpl_seqB,↓awpl_retB,finP_nil,encM]
    refine oa_one 3 (by kernel_rfl) rfl ?_
    simp (maxSteps:=1000000) [-map_map,-mapM_map,↓KW,↓awpl_seqB,↓awpl_retB,finP_nil,encM]
    refine oa_one 4 (by kernel_rfl) rfl ?_
    simp (maxSteps:=1000000) [-map_map,-mapM_map,↓KW,↓awpl_seqB,↓awpl_retB,finP_nil,encM]
    refine oa_end (by kernel_rfl) ?_
    simp (maxSteps:=1000000) [-map_map,-mapM_map,↓KW,↓awpl_seqB,↓awpl_retB,finP_nil,encM,resD_3]
   ·simp (maxSteps:=1000000) [-map_map,-mapM_map,↓KW,↓awpl_seqB,↓awpl_retB,finP_nil,encM]
    refine oa_one 1 (by kernel_rfl) rfl ?_
    simp (maxSteps:=1000000) [-map_map,-mapM_map,↓KW,↓awpl_seqB,↓awpl_retB,finP_nil,encM]
    refine oa_one 3 (by kernel_rfl) rfl ?_
    simp (maxSteps:=1000000) [-map_map,-mapM_map,↓KW,↓awpl_seqB,↓awpl_retB,finP_nil,encM]
    refine oa_one 4 (by kernel_rfl) rfl ?_
    simp (maxSteps:=1000000) [-map_map,-mapM_map,↓KW,↓awpl_seqB,↓awpl_retB,finP_nil,encM]
    refine oa_end (by kernel_rfl) ?_
    simp (maxSteps:=1000000) [-map_map,-mapM_map,↓KW,↓awpl_seqB,↓awpl_retB,finP_nil,encM,resD_3]
  ·simp (maxSteps:=1000000) [-map_map,-mapM_map,↓KW,↓awpl_seqB,↓awpl_retB,finP_nil,encM]
   refine oa_one 0 (by kernel_rfl) rfl ?_
   simp (maxSteps:=1000000) [-map_map,-mapM_map,↓KW,↓awpl_seqB,↓awpl_retB,finP_nil,encM]
   refine oa_one 2 (by kernel_rfl) rfl ?_
   simp (maxSteps:=1000000) [-map_map,-mapM_map,↓KW,↓awpl_seqB,↓awpl_retB,finP_nil,encM]
   refine oa_one 3 (by kernel_rfl) rfl ?_
   simp (maxSteps:=1000000) [-map_map,-mapM_map,↓KW,↓awpl_seqB,↓awpl_retB,finP_nil,encM]
   refine oa_one 4 (by kernel_rfl) rfl ?_
   simp (maxSteps:=1000000) [-map_map,-mapM_map,↓KW,↓awpl_seqB,↓awpl_retB,finP_nil,encM]
   refine oa_end (by kernel_rfl) ?_
   simp (maxSteps:=1000000) [-map_map,-mapM_map,↓KW,↓awpl_seqB,↓awpl_retB,finP_nil,encM,resD_3]
 ·rw [decide_eq_false hnx,decide_eq_false hny] at *
  obtain ⟨f1,f2⟩:=hf.2.2.1 hnx hny
  rw [f1,f2,eq,er]
  have hs1:(y.sign == 0)=false:=by simpa using hs0
  simp (maxSteps:=1000000) [-map_map,-mapM_map,↓KW,↓awpl_seqB,↓awpl_retB,finP_nil,encM]
  refine callP_intro (ds:=[encM a,.b false]) (by rfl) hm1 ?_
  simp (maxSteps:=1000000) [-map_map,-mapM_map,↓KW,↓awpl_seqB,↓awpl_retB,finP_nil,encM]
  refine callP_intro (ds:=[encM b,.b false]) (by rfl) hm2 ?_
  simp (maxSteps:=1000000) [-map_map,-mapM_map,↓KW,↓awpl_seqB,↓awpl_retB,finP_nil,encM]
  refine callP_intro (ds:=[.ag [.b false,encM b]]) ?_ hs ?_
  ·simp (maxSteps:=1000000) [-map_map,-mapM_map,↓KW,↓awpl_seqB,↓awpl_retB,finP_nil,encM,hs1]
  simp (maxSteps:=1000000) [-map_map,-mapM_map,↓KW,↓awpl_seqB,↓awpl_retB,finP_nil,encM,hs1]
  refine callP_intro (ds:=[encM a,encM b]) (by rfl) hd ?_
  simp (maxSteps:=1000000) [-map_map,-mapM_map,↓KW,↓awpl_seqB,↓awpl_retB,finP_nil,encM]
  refine oa_two 0 1 (by kernel_rfl) rfl rfl ?_ ?_
  ·simp (maxSteps:=1000000) [-map_map,-mapM_map,↓KW,↓awpl_seqB,↓awpl_retB,finP_nil,encM]
   refine oa_two 1 2 (by kernel_rfl) rfl rfl ?_ ?_
   ·simp (maxSteps:=1000000) [-map_map,-mapM_map,↓KW,↓awpl_seqB,↓awpl_retB,finP_nil,encM]
    refine oa_one 2 (by kernel_rfl) rfl ?_
    simp (maxSteps:=1000000) [-map_map,-mapM_map,↓KW,↓awpl_seqB,↓awpl_retB,finP_nil,encM]
    refine oa_one 3 (by kernel_rfl) rfl ?_
    simp (maxSteps:=1000000) [-map_map,-mapM_map,↓KW,↓awpl_seqB,↓awpl_retB,finP_nil,encM]
    refine oa_one 4 (by kernel_rfl) rfl ?_
    simp (maxSteps:=1000000) [-map_map,-mapM_map,↓KW,↓awpl_seqB,↓awpl_retB,finP_nil,encM]
    refine oa_end (by kernel_rfl) ?_
    simp (maxSteps:=1000000) [-map_map,-mapM_map,↓KW,↓awpl_seqB,↓awpl_retB,finP_nil,encM,resD_3]
   ·simp (maxSteps:=1000000) [-map_map,-mapM_map,↓KW,↓awpl_seqB,↓awpl_retB,finP_nil,encM]
    refine oa_one 1 (by kernel_rfl) rfl ?_
    simp (maxSteps:=1000000) [-map_map,-mapM_map,↓KW,↓awpl_seqB,↓awpl_retB,finP_nil,encM]
    refine oa_one 3 (by kernel_rfl) rfl ?_
    simp (maxSteps:=1000000) [-map_map,-mapM_map,↓KW,↓awpl_seqB,↓awpl_retB,finP_nil,encM]
    refine oa_one 4 (by kernel_rfl) rfl ?_
    simp (maxSteps:=1000000) [-map_map,-mapM_map,↓KW,↓awpl_seqB,↓awpl_retB,finP_nil,encM]
    refine oa_end (by kernel_rfl) ?_
    simp (maxSteps:=1000000) [-map_map,-mapM_map,↓KW,↓awpl_seqB,↓awpl_retB,finP_nil,encM,resD_3]
  ·simp (maxSteps:=1000000) [-map_map,-mapM_map,↓KW,↓awpl_seqB,↓awpl_retB,finP_nil,encM]
   refine oa_one 0 (by kernel_rfl) rfl ?_
   simp (maxSteps:=1000000) [-map_map,-mapM_map,↓KW,↓awpl_seqB,↓awpl_retB,finP_nil,encM]
   refine oa_one 2 (by kernel_rfl) rfl ?_
   simp (maxSteps:=1000000) [-map_map,-mapM_map,↓KW,↓awpl_seqB,↓awpl_retB,finP_nil,encM]
   refine oa_one 3 (by kernel_rfl) rfl ?_
   simp (maxSteps:=1000000) [-map_map,-mapM_map,↓KW,↓awpl_seqB,↓awpl_retB,finP_nil,encM]
   refine oa_one 4 (by kernel_rfl) rfl ?_
   simp (maxSteps:=1000000) [-map_map,-mapM_map,↓KW,↓awpl_seqB,↓awpl_retB,finP_nil,encM]
   refine oa_end (by kernel_rfl) ?_
   simp (maxSteps:=1000000) [-map_map,-mapM_map,↓KW,↓awpl_seqB,↓awpl_retB,finP_nil,encM,resD_3]
end Go.Am
end

section
set_option linter.unusedVariables false
set_option linter.unusedSimpArgs false
open List (map_map mapM_map)
open Go Go.Am Go.Proofs
namespace Go.Am
theorem wk_out {Γ:Nat→AV} {H:Nat→Option HO} {n:Nat} {av:AV} {R c m0:Nat} {M:List (List Int)} (hM:Sh R c M) (hn:n≠0) (hav:av=.ag [.d (.i .i64 (R:Int)),.d (.i .i64 (c:Int)),.own m0 0 R 1]) (hH:∀ (i:Nat) o,(mB c M m0)[i]? = some o→H (i+m0)=some o) :
  ∀ m,0<m→∃ ρ,Wk ⟨upd Γ 0 av,H,n⟩ (outS (nwV R c) (mB c M) m) ρ:=by
 intro m hm0
 subst hav
 have hML:(mB c M m).length=R+1:=by rw [mB_len,hM.len]
 have hin:∀ i,i<R+1→(outS (nwV R c) (mB c M) m).H (i+m)=(mB c M m)[i]? := fun i h=>by
  simp only [outS,extB]
  rw [if_pos ⟨by omega,by rw [hML]; omega⟩,Nat.add_sub_cancel]
 have hout:∀ id,¬ (m≤id∧id<m+(R+1))→(outS (nwV R c) (mB c M) m).H id=none:=fun id h=>by
  simp only [outS,extB]
  rw [if_neg (by rw [hML]; exact h)]
 have hsome:∀ id,((outS (nwV R c) (mB c M) m).H id).isSome=true→∃ i,id=i+m∧i<R+1:=fun id h=>by
  by_cases hr:m≤id∧id<m+(R+1)
  ·exact ⟨id - m,by omega,by omega⟩
  ·rw [hout id hr] at h; cases h
 have hget:∀ i,i<R+1→((outS (nwV R c) (mB c M) m).H (i+m)).isSome=true:=fun i h=>by
  rw [hin i h,List.getElem?_eq_getElem (by rw [hML]; exact h)]; rfl
 refine ⟨fun id=>id - m+m0,fun id hid=>hout id (by simp only [outS] at hid; rw [hML] at hid; omega),fun t=>?_,fun id o' ho=>?_,fun id id' h1 h2 e=>?_,fun h=>?_,fun h=>?_⟩
 ·show Sub _ _ _ _ (upd (fun _=>.any) 0 (nwV R c m) t)
  by_cases e:t=0
  ·subst e
   simp only [upd_same,nwV]
   refine ⟨rfl,fun k c d h1 h2=>?_⟩
   rcases k with _ | _ | _ | k
   ·simp at h1 h2; subst h1; subst h2; exact (subL_d _ _).2 rfl
   ·simp at h1 h2; subst h1; subst h2; exact (subL_d _ _).2 rfl
   ·simp at h1 h2; subst h1; subst h2
    exact ⟨by simp,rfl,rfl,rfl,by have:=hget 0 (by omega); rwa [Nat.zero_add] at this⟩
   ·simp at h1
  ·rw [upd_ne _ _ e]; exact sub_any _
 ·obtain ⟨i,rfl,hi⟩:=hsome id (by rw [ho]; rfl)
  rw [hin i hi] at ho
  simp only [Nat.add_sub_cancel]
  rcases i with _ | i
  ·simp only [mB,List.getElem?_cons_zero] at ho
   injection ho with ho; subst ho
   refine ⟨_,hH 0 _ rfl,subO_cells.2 ⟨rfl,cellsOk_iff.2 ⟨by rw [hdr_len,hdr_len],fun k x y h1 h2=>?_⟩⟩⟩
   have hlt:k<M.length:=by have:=(List.getElem?_eq_some_iff.1 h1).1; rwa [hdr_len] at this
   rw [hdr_get hlt] at h1 h2
   injection h1 with h1; injection h2 with h2; subst h1; subst h2
   rw [hM.len] at hlt
   exact ⟨by show k+(m0+1)=k+(m+1) - m+m0; omega,rfl,rfl,rfl,by have:=hget (k+1) (by omega); rwa [show k+1+m=k+(m+1) by omega] at this⟩
  ·refine ⟨o',hH (i+1) o' (by simpa only [mB,List.getElem?_cons_succ] using ho),?_⟩
   simp only [mB,List.getElem?_cons_succ,List.getElem?_map] at ho
   obtain ⟨v,_,rfl⟩:=Option.map_eq_some_iff.1 ho
   exact subO_data _ _
 ·obtain ⟨i,rfl,_⟩:=hsome id h1
  obtain ⟨j,rfl,_⟩:=hsome id' h2
  have e':i+m - m+m0=j+m - m+m0:=e
  omega
 ·obtain ⟨i,hi,_⟩:=hsome 0 h; omega
 ·simp only [outS] at h; omega
def scF (M:List (List Int)) (k:Int) (i j:Nat) (r s:Nat):Int:=if r<i∨(r=i∧s<j) then ent M r s * k else 0
def scPre (R c:Nat) (A:List (List Int)) (k:Int):List HO :=
 [.cells 155 [.d (.i .i64 (R:Int)),.d (.i .i64 (c:Int)),.d (.sl (A.map fun v=>[encV2 v]))],.cells 69 [.d (.b (decide (k<0))),.d (encM (digs k.natAbs))],
  .cells 155 [.d (.i .i64 0),.d (.i .i64 0),.nil]]
def scOut (R c:Nat):HO:=.cells 155 [.d (.i .i64 (R:Int)),.d (.i .i64 (c:Int)),.own 4 0 R 1]
def scH (R c:Nat) (A:List (List Int)) (k:Int) (M:List (List Int)):Nat→Option HO:=famH 1 (scPre R c A k++mB c M 4++[scOut R c])
theorem scH_self {R c:Nat} {A:List (List Int)} {k:Int} {M:List (List Int)} (hM:Sh R c M) {H:Nat→Option HO} {id:Nat} {o:HO} (ho:scH R c A k M id=some o):SubO H (scH R c A k M) (fun i=>i) o o:=by
 refine fam_self (fun o ho=>?_) ho
 rw [fam_len,hM.len,show (scPre R c A k).length=3 from rfl,show [scOut R c].length=1 from rfl]
 rcases List.mem_append.1 ho with ho | ho
 ·rcases List.mem_append.1 ho with ho | ho
  ·simp only [scPre,List.mem_cons,List.mem_nil_iff,or_false] at ho
   rcases ho with rfl | rfl | rfl <;> rfl
  ·exact rfO_mB (by omega) (by rw [hM.len]; omega) o ho
 ·rw [List.mem_singleton.1 ho]
  simp only [rfO,scOut,rfC,List.all_cons,List.all_nil,Bool.and_true,Bool.true_and,decide_eq_true_eq]; omega
theorem scH_top {R c:Nat} {A:List (List Int)} {k:Int} {M:List (List Int)} (hM:Sh R c M) {id:Nat} (h:R+6≤id):scH R c A k M id=none :=
 famH_top (by rw [fam_len,hM.len,show (scPre R c A k).length=3 from rfl,show [scOut R c].length=1 from rfl]; omega)
theorem scH_some {R c:Nat} {A:List (List Int)} {k:Int} {M:List (List Int)} (hM:Sh R c M) {id:Nat} (h1:1≤id) (h2:id<R+6):(scH R c A k M id).isSome=true :=
 famH_some h1 (by rw [fam_len,hM.len,show (scPre R c A k).length=3 from rfl,show [scOut R c].length=1 from rfl]; omega)
set_option maxHeartbeats 8000000 in
set_option maxRecDepth 10000 in
theorem r05Scale {R c:Nat} {A:List (List Int)} {k:Int} (hA:Sh R c A) (hR:R≤1000) (hc:c≤1000) (hk:Sz k) (hAs:∀ v∈A,∀ z∈v,Sz z) :
  NSpec Tryz.prog 180 [encMat R c A,encZ k] (nwV R c) (mB c (mk R c fun r s=>ent A r s * k)):=by
 refine nspec_of (N:=43) follows_mixed Tryz.func180 rfl rfl rfl (by decide) (by kernel_rfl) (by kernel_rfl) (by simp) rfl ?_
 have hN:=r05New R c hR hc
 simp (maxSteps:=1000000) [-map_map,-mapM_map,↓KW,encMat,encZ_eq,cellsA_encM,one_encM,inj1_encM,inj_encM,kills_encM]
 refine o1_ncall [.i .i64 (R:Int),.i .i64 (c:Int)] (nwV R c) (mB c (List.replicate R (List.replicate c 0))) (by simp) (by simp) (by simp) (by rfl) (by rfl) hN ?_
 have hne1:¬ 1=4+(R+1):=by omega
 have hne2:¬ 2=4+(R+1):=by omega
 have hne3:¬ 3=4+(R+1):=by omega
 have hH0:∀ p:HO,upd (extB (upd (upd (upd (fun _=>none) 1 (some (.cells 155 [.d (.i .i64 (R:Int)),.d (.i .i64 (c:Int)),.d (.sl (A.map fun v=>[encV2 v]))]))) 2 (some (.cells 69 [.d (.b (decide (k<0))),.d (encM (digs k.natAbs))])))
   3 (some (.cells 155 [.d (.i .i64 0),.d (.i .i64 0),.nil]))) 4 (mB c (List.replicate R (List.replicate c 0)) 4)) (4+(R+1)) (some p)=famH 1 (scPre R c A k++mB c (List.replicate R (List.replicate c 0)) 4++[p]):=fun p=>by
  rw [fam_three,fam_ext (n:=4) (pre:=[_,_,_]) rfl,fam_snoc (by rw [List.length_append,mB_len,List.length_replicate,List.length_cons,List.length_cons,List.length_cons,List.length_nil]; omega)]; rfl
 have hz0:Sh R c (List.replicate R (List.replicate c (0:Int))):=⟨by simp,fun v hv=>by rw [List.eq_of_mem_replicate hv]; simp⟩
 simp (maxSteps:=1000000) [-map_map,-mapM_map,↓KW,nwV,mB_len,extB,hne1,hne2,hne3]
 refine loopP_inv (fun x:Nat × List (List Int)=>x.1≤R∧Sh R c x.2∧∀ r s,r<R→s<c→ent x.2 r s=scF A k x.1 0 r s) (fun x=>⟨sltF [(2,.ptr 1 0),(3,.ptr 2 0),(4,.ptr 3 0),(5,.ptr (R+5) 0),(6,.d (.i .i64 (x.1:Int)))],scH R c A k x.2,R+6⟩) (fun x=>R - x.1)
  (0,List.replicate R (List.replicate c 0)) ⟨Nat.zero_le _,hz0,fun r s hr hs=>?_⟩ ?_ ?_
 ·unfold ent scF
  rw [if_neg (by omega),List.getD_eq_getElem?_getD (l:=List.replicate R _),List.getElem?_replicate,if_pos hr]
  simp only [Option.getD_some]
  rw [List.getD_eq_getElem?_getD,List.getElem?_replicate,if_pos hs]; rfl
 ·rw [upd_twice,hH0]
  refine ⟨_,wk_id ?_ (fun id o' ho=>⟨o',ho,scH_self hz0 ho⟩) (fun id hid=>scH_top hz0 hid) (by simp)⟩
  have g1:=scH_some (A:=A) (k:=k) hz0 (id:=1) (by omega) (by omega)
  have g2:=scH_some (A:=A) (k:=k) hz0 (id:=2) (by omega) (by omega)
  have g3:=scH_some (A:=A) (k:=k) hz0 (id:=3) (by omega) (by omega)
  have g4:=scH_some (A:=A) (k:=k) hz0 (id:=R+5) (by omega) (by omega)
  have g5:4+(R+1)=R+5:=by omega
  simp [-map_map,upd,inj1,Γ0,g1,g2,g3,g4,g5]
 ·rintro ⟨i,M⟩ ⟨hi,hM,hME⟩
  simp only at hi hM hME
  have hH1:scH R c A k M 1=some (.cells 155 [.d (.i .i64 (R:Int)),.d (.i .i64 (c:Int)),.d (.sl (A.map fun v=>[encV2 v]))]):=rfl
  have hH3:scH R c A k M 3=some (.cells 155 [.d (.i .i64 0),.d (.i .i64 0),.nil]):=rfl
  have hHo:scH R c A k M (R+5)=some (scOut R c):=fam_last (by rw [hM.len,show (scPre R c A k).length=3 from rfl]; omega)
  by_cases hgi:i<R
  ·have q1:(i:Int)<R:=by omega
   have hw:IntKind.i64.wrap ((i:Int)+1)=(i:Int)+1:=wrap_i64 (by omega) (by omega)
   have hsome:=fun id=>scH_some (A:=A) (k:=k) hM (id:=id)
   have htop:=fun id=>scH_top (A:=A) (k:=k) hM (id:=id)
   have hself:=fun (H:Nat→Option HO) id o=>scH_self (A:=A) (k:=k) hM (H:=H) (id:=id) (o:=o)
   generalize hHg:scH R c A k M=H at *
   simp (maxSteps:=1000000) [-map_map,-mapM_map,↓KW,q1,hH1]
   refine loopP_inv (fun x:Nat × List (List Int)=>x.1≤c∧Sh R c x.2∧∀ r s,r<R→s<c→ent x.2 r s=scF A k i x.1 r s) (fun x=>⟨sltF [(2,.ptr 1 0),(3,.ptr 2 0),(4,.ptr 3 0),(5,.ptr (R+5) 0),(6,.d (.i .i64 (i:Int))),(7,.d (.i .i64 (x.1:Int)))],scH R c A k x.2,R+6⟩) (fun x=>c - x.1)
    (0,M) ⟨Nat.zero_le _,hM,hME⟩ ?_ ?_
   ·rw [hHg]
    refine ⟨_,wk_id ?_ (fun id o' ho=>⟨o',ho,hself _ _ _ ho⟩) (fun id hid=>htop id hid) (by simp)⟩
    have g1:=hsome 1 (by omega) (by omega)
    have g2:=hsome 2 (by omega) (by omega)
    have g3:=hsome 3 (by omega) (by omega)
    have g4:=hsome (R+5) (by omega) (by omega)
    simp [-map_map,upd,inj1,Γ0,g1,g2,g3,g4]
   ·clear hHg hH1 hH3 hHo hsome htop hself hM hME
    rintro ⟨j,M⟩ ⟨hj,hM,hME⟩
    simp only at hj hM hME
    have hH1:scH R c A k M 1=some (.cells 155 [.d (.i .i64 (R:Int)),.d (.i .i64 (c:Int)),.d (.sl (A.map fun v=>[encV2 v]))]):=rfl
    have hH2:scH R c A k M 2=some (.cells 69 [.d (.b (decide (k<0))),.d (encM (digs k.natAbs))]):=rfl
    have hHo:scH R c A k M (R+5)=some (.cells 155 [.d (.i .i64 (R:Int)),.d (.i .i64 (c:Int)),.own 4 0 R 1]):=fam_last (by rw [hM.len,show (scPre R c A k).length=3 from rfl]; omega)
    have hHh:scH R c A k M 4=some (.cells 112 (hdr c R 5)):=by rw [← hM.len]; exact fam_hdr rfl
    obtain ⟨v,hv,hvl,hve⟩:=hM.get hgi
    have hHi:scH R c A k M (i+5)=some (.cells 69 ((vcs v).map .d)):=fam_row (m:=4) rfl hv
    by_cases hgj:j<c
    ·have q2:(j:Int)<c:=by omega
     have hw2:IntKind.i64.wrap ((j:Int)+1)=(j:Int)+1:=wrap_i64 (by omega) (by omega)
     obtain ⟨av,hav,havl,have1⟩:=hA.get hgi
     have hz:av[j]? = some (ent A i j):=by
      rw [← have1 j,List.getD_eq_getElem?_getD,List.getElem?_eq_getElem (by omega)]; rfl
     have hzS:Sz (ent A i j):=hAs _ (List.mem_of_getElem? hav) _ (List.mem_of_getElem? hz)
     have hmul:=r01MulZ (ent A i j) k hzS hk
     have hM':Sh R c (M.set i (v.set j (ent A i j * k))):=ent_set_sh hM hv
     have hupd:upd (scH R c A k M) (i+5) (some (.cells 69 ((vcs (v.set j (ent A i j * k))).map .d)))=scH R c A k (M.set i (v.set j (ent A i j * k))):=upd_fam (m:=4) rfl (by rw [hM.len]; exact hgi)
     have hlay:=lay_row (v:=v) (ent A i j * k) (by rw [hvl]; exact hgj)
     have hvcl:=vcs_len v
     rw [hvl] at hvcl
     have hj2:j * 2+2≤c * 2:=by omega
     have hg:=hdr_get (c:=c) (b:=5) hgi
     have hgl:=hdr_len c R 5
     have hg2:∀ h:i<(hdr c R 5).length,(hdr c R 5)[i]'h=.own (i+5) 0 c 2:=fun h=>Option.some.inj ((List.getElem?_eq_getElem h).symm.trans hg)
     generalize hze:ent A i j=z at *
     generalize hz':z * k=z' at *
     generalize hHg:scH R c A k M=H at *
     generalize hdr c R 5=cellsR at *
     simp (maxSteps:=1000000) [-map_map,-mapM_map,↓KW,q2,hH1,hH2,hHo,hHh,hHi,hg,hg2,hgl,hgi,hgj,hav,hz,hj2,hvcl,encV2,encN_eq,cellsA_encM,one_encM,inj1_encM,inj_encM,kills_encM]
     refine callP_intro (ds:=[encZ z,encZ k]) (by rfl) hmul ?_
     rw [encZ_eq]
     simp (maxSteps:=1000000) [-map_map,-mapM_map,↓KW,hw2,hH1,hH2,hHo,hHh,hHi,hg,hg2,hgl,hgi,hgj,hj2,hvcl,hlay,cellsA_encM,one_encM,inj1_encM,inj_encM,kills_encM]
     rw [hupd]
     refine nxt_intro (j+1,M.set i (v.set j z')) ⟨hgj,hM',fun r s hr hs=>?_⟩ (Nat.sub_lt_sub_left hgj (Nat.lt_succ_self _)) ?_
     ·rw [ent_set hM hgi hgj hv,hME r s hr hs]
      simp only [scF]
      split
      ·rename_i e; rw [if_pos (by omega),e.1,e.2,hze,hz']
      ·split
       ·rw [if_pos (by omega)]
       ·rw [if_neg (by omega)]
     ·refine ⟨_,wk_id ?_ (fun id o' ho=>⟨o',ho,scH_self hM' ho⟩) (fun id hid=>scH_top hM' hid) (by simp)⟩
      have g1:=scH_some (A:=A) (k:=k) hM' (id:=1) (by omega) (by omega)
      have g2:=scH_some (A:=A) (k:=k) hM' (id:=2) (by omega) (by omega)
      have g3:=scH_some (A:=A) (k:=k) hM' (id:=3) (by omega) (by omega)
      have g4:=scH_some (A:=A) (k:=k) hM' (id:=R+5) (by omega) (by omega)
      simp [-map_map,upd,inj1,Γ0,g1,g2,g3,g4]
    ·have q2:¬ (j:Int)<c:=by omega
     have ej:j=c:=by omega
     have hsome:=fun id=>scH_some (A:=A) (k:=k) hM (id:=id)
     have htop:=fun id=>scH_top (A:=A) (k:=k) hM (id:=id)
     have hself:=fun (H:Nat→Option HO) id o=>scH_self (A:=A) (k:=k) hM (H:=H) (id:=id) (o:=o)
     generalize hHg:scH R c A k M=H at *
     simp (maxSteps:=1000000) [-map_map,-mapM_map,↓KW,q2,hH1,hw]
     refine nxt_intro (i+1,M) ⟨hgi,hM,fun r s hr hs=>?_⟩ (Nat.sub_lt_sub_left hgi (Nat.lt_succ_self _)) ?_
     ·rw [hME r s hr hs]
      simp only [scF]
      by_cases e:r<i∨(r=i∧s<j)
      ·rw [if_pos e,if_pos (by omega)]
      ·rw [if_neg e,if_neg (by omega)]
     ·rw [hHg]
      refine ⟨_,wk_id ?_ (fun id o' ho=>⟨o',ho,hself _ _ _ ho⟩) (fun id hid=>htop id hid) (by simp)⟩
      have g1:=hsome 1 (by omega) (by omega)
      have g2:=hsome 2 (by omega) (by omega)
      have g3:=hsome 3 (by omega) (by omega)
      have g4:=hsome (R+5) (by omega) (by omega)
      simp [-map_map,upd,inj1,Γ0,g1,g2,g3,g4]
  ·have q1:¬ (i:Int)<R:=by omega
   have ei:i=R:=by omega
   have hMk:M=mk R c fun r s=>ent A r s * k:=mk_of hM fun r s hr hs=>by
    rw [hME r s hr hs]; simp only [scF]; rw [if_pos (by omega)]
   have hmb:∀ (i:Nat) o,(mB c M 4)[i]? = some o→scH R c A k M (i+4)=some o:=fun i o h=>by
    have hi:=(List.getElem?_eq_some_iff.1 h).1
    unfold scH
    rw [show i+4=(i+3)+1 by omega,famH_get,List.getElem?_append_left (by rw [List.length_append,show (scPre R c A k).length=3 from rfl]; omega),List.getElem?_append_right (by rw [show (scPre R c A k).length=3 from rfl]; omega),show (scPre R c A k).length=3 from rfl,Nat.add_sub_cancel]
    exact h
   rw [scOut] at hHo
   generalize hHg:scH R c A k M=H at *
   simp (maxSteps:=1000000) [-map_map,-mapM_map,↓KW,q1,hH1,hH3,hHo]
   rw [← hMk]
   refine wk_out hM (Nat.succ_ne_zero _) rfl fun i o h=>?_
   simp only [upd]
   rw [if_neg (by omega)]
   exact hmb i o h
end Go.Am
end

section
set_option linter.unusedVariables false
set_option linter.unusedSimpArgs false
open List (map_map mapM_map)
open Go Go.Am Go.Proofs
namespace Go.Am
set_option maxHeartbeats 8000000 in
set_option maxRecDepth 10000 in
theorem r05Copied {R c:Nat} {A:List (List Int)} (hA:Sh R c A) (hR:R≤1000) (hc:c≤1000) (hAs:∀ v∈A,∀ z∈v,Sz z) :
  NSpec Tryz.prog 161 [encMat R c A] (nwV R c) (mB c A):=by
 refine nspec_of (N:=6) follows_mixed Tryz.func161 rfl rfl rfl (by decide) (by kernel_rfl) (by kernel_rfl) (by simp) rfl ?_
 have hof:=r01Of 1 (by decide) (by decide)
 have hN:=r05Scale (k:=1) hA hR hc (Nat.le_trans (digs_len_le (n:=1) (k:=1) (by decide)) (by decide)) hAs
 have hMk:(mk R c fun r s=>ent A r s * 1)=A:=(mk_of hA fun r s _ _=>by rw [Int.mul_one]).symm
 rw [hMk] at hN
 have hl:(mB c A 3).length=R+1:=by rw [mB_len,hA.len]
 simp (maxSteps:=1000000) [-map_map,-mapM_map,↓KW,encMat]
 refine callP_intro (ds:=[.i .i64 1]) (by rfl) hof ?_
 rw [encZ_eq]
 simp (maxSteps:=1000000) [-map_map,-mapM_map,↓KW,encMat,cellsA_encM,one_encM,inj1_encM,inj_encM,kills_encM]
 refine o1_ncall [encMat R c A,encZ 1] (nwV R c) (mB c A) (by simp) (by simp) (by simp) (by rfl) (by rfl) hN ?_
 have hne1:¬ 1=3+(R+1):=by omega
 simp (maxSteps:=1000000) [-map_map,-mapM_map,↓KW,nwV,hl,extB]
 refine wk_out hA (Nat.succ_ne_zero _) rfl fun i o h=>?_
 have hi:=(List.getElem?_eq_some_iff.1 h).1
 rw [hl] at hi
 simp only [upd,extB,hl]
 rw [if_neg (by omega),if_pos (by omega),Nat.add_sub_cancel]
 exact h
def idM (n:Nat):List (List Int):=mk n n fun r s=>if r=s then 1 else 0
def idF (i r s:Nat):Int:=if r<i∧r=s then 1 else 0
def idH (n:Nat) (M:List (List Int)):Nat→Option HO:=famH 1 ([.cells 155 [.d (.i .i64 0),.d (.i .i64 0),.nil]]++mB n M 2++[.cells 155 [.d (.i .i64 (n:Int)),.d (.i .i64 (n:Int)),.own 2 0 n 1]])
theorem idH_self {n:Nat} {M:List (List Int)} (hM:Sh n n M) {H:Nat→Option HO} {id:Nat} {o:HO} (ho:idH n M id=some o):SubO H (idH n M) (fun i=>i) o o:=by
 refine fam_self (fun o ho=>?_) ho
 rw [fam_len,hM.len,List.length_singleton,List.length_singleton]
 rcases List.mem_append.1 ho with ho | ho
 ·rcases List.mem_append.1 ho with ho | ho
  ·rw [List.mem_singleton.1 ho]; rfl
  ·exact rfO_mB (by omega) (by rw [hM.len]; omega) o ho
 ·rw [List.mem_singleton.1 ho]
  simp only [rfO,rfC,List.all_cons,List.all_nil,Bool.and_true,Bool.true_and,decide_eq_true_eq]; omega
theorem idH_top {n:Nat} {M:List (List Int)} (hM:Sh n n M) {id:Nat} (h:n+4≤id):idH n M id=none :=
 famH_top (by rw [fam_len,hM.len,List.length_singleton,List.length_singleton]; omega)
theorem idH_some {n:Nat} {M:List (List Int)} (hM:Sh n n M) {id:Nat} (h1:1≤id) (h2:id<n+4):(idH n M id).isSome=true :=
 famH_some h1 (by rw [fam_len,hM.len,List.length_singleton,List.length_singleton]; omega)
set_option maxHeartbeats 8000000 in
set_option maxRecDepth 10000 in
theorem r05Identity (n:Nat) (hR:n≤1000):NSpec Tryz.prog 162 [.i .i64 (n:Int)] (nwV n n) (mB n (idM n)):=by
 refine nspec_of (N:=22) follows_mixed Tryz.func162 rfl rfl rfl (by decide) (by kernel_rfl) (by kernel_rfl) (by simp) rfl ?_
 have hN:=r05New n n hR hR
 have hof:=r01Of 1 (by decide) (by decide)
 simp (maxSteps:=1000000) [-map_map,-mapM_map,↓KW,]
 refine o1_ncall [.i .i64 (n:Int),.i .i64 (n:Int)] (nwV n n) (mB n (List.replicate n (List.replicate n 0))) (by simp) (by simp) (by simp) (by rfl) (by rfl) hN ?_
 have hne1:¬ 1=2+(n+1):=by omega
 have hz0:Sh n n (List.replicate n (List.replicate n (0:Int))):=⟨by simp,fun v hv=>by rw [List.eq_of_mem_replicate hv]; simp⟩
 have hH0:∀ p q:HO,upd (extB (upd (fun _=>none) 1 (some q)) 2 (mB n (List.replicate n (List.replicate n 0)) 2)) (2+(n+1)) (some p)=famH 1 ([q]++mB n (List.replicate n (List.replicate n 0)) 2++[p]):=fun p q=>by
  rw [fam_one,fam_ext (n:=2) (pre:=[_]) rfl,fam_snoc (by rw [List.length_append,mB_len,List.length_replicate,List.length_singleton]; omega)]
 simp (maxSteps:=1000000) [-map_map,-mapM_map,↓KW,nwV,mB_len,extB,hne1]
 refine loopP_inv (fun x:Nat × List (List Int)=>x.1≤n∧Sh n n x.2∧∀ r s,r<n→s<n→ent x.2 r s=idF x.1 r s) (fun x=>⟨sltF [(0,.d (.i .i64 (n:Int))),(2,.ptr 1 0),(3,.ptr (n+3) 0),(4,.d (.i .i64 (x.1:Int)))],idH n x.2,n+4⟩) (fun x=>n - x.1)
  (0,List.replicate n (List.replicate n 0)) ⟨Nat.zero_le _,hz0,fun r s hr hs=>?_⟩ ?_ ?_
 ·unfold ent idF
  rw [if_neg (by omega),List.getD_eq_getElem?_getD (l:=List.replicate n _),List.getElem?_replicate,if_pos hr]
  simp only [Option.getD_some]
  rw [List.getD_eq_getElem?_getD,List.getElem?_replicate,if_pos hs]; rfl
 ·rw [upd_twice,hH0]
  refine ⟨_,wk_id ?_ (fun id o' ho=>⟨o',ho,idH_self hz0 ho⟩) (fun id hid=>idH_top hz0 hid) (by simp)⟩
  have g1:=idH_some hz0 (id:=1) (by omega) (by omega)
  have g4:=idH_some hz0 (id:=n+3) (by omega) (by omega)
  have g5:2+(n+1)=n+3:=by omega
  simp [-map_map,upd,inj1,Γ0,g1,g4,g5]
 ·rintro ⟨i,M⟩ ⟨hi,hM,hME⟩
  simp only at hi hM hME
  have hH1:idH n M 1=some (.cells 155 [.d (.i .i64 0),.d (.i .i64 0),.nil]):=rfl
  have hHo:idH n M (n+3)=some (.cells 155 [.d (.i .i64 (n:Int)),.d (.i .i64 (n:Int)),.own 2 0 n 1]):=fam_last (by rw [hM.len,List.length_singleton]; omega)
  by_cases hgi:i<n
  ·have q1:(i:Int)<n:=by omega
   have hw:IntKind.i64.wrap ((i:Int)+1)=(i:Int)+1:=wrap_i64 (by omega) (by omega)
   have hHh:idH n M 2=some (.cells 112 (hdr n n 3)):=by
    have:=fam_hdr (b:=1) (c:=n) (m:=2) (pre:=[.cells 155 [.d (.i .i64 0),.d (.i .i64 0),.nil]]) (M:=M) (post:=[.cells 155 [.d (.i .i64 (n:Int)),.d (.i .i64 (n:Int)),.own 2 0 n 1]]) rfl
    rwa [hM.len] at this
   obtain ⟨v,hv,hvl,hve⟩:=hM.get hgi
   have hHi:idH n M (i+3)=some (.cells 69 ((vcs v).map .d)):=fam_row (m:=2) rfl hv
   obtain ⟨z',hz'⟩:∃ z',z'=(1:Int):=⟨1,rfl⟩
   have hofz:Spec Tryz.prog 28 [.i .i64 1] (encZ z'):=by rw [hz']; exact hof
   have hM':Sh n n (M.set i (v.set i z')):=ent_set_sh hM hv
   have hupd:upd (idH n M) (i+3) (some (.cells 69 ((vcs (v.set i z')).map .d)))=idH n (M.set i (v.set i z')):=upd_fam (m:=2) rfl (by rw [hM.len]; exact hgi)
   have hlay:=lay_row (v:=v) z' (j:=i) (by rw [hvl]; exact hgi)
   have hvcl:=vcs_len v
   rw [hvl] at hvcl
   have hj2:i * 2+2≤n * 2:=by omega
   have hg:=hdr_get (c:=n) (b:=3) hgi
   have hgl:=hdr_len n n 3
   have hg2:∀ h:i<(hdr n n 3).length,(hdr n n 3)[i]'h=.own (i+3) 0 n 2:=fun h=>Option.some.inj ((List.getElem?_eq_getElem h).symm.trans hg)
   generalize hHg:idH n M=H at *
   generalize hdr n n 3=cellsR at *
   simp (maxSteps:=1000000) [-map_map,-mapM_map,↓KW,q1,hH1,hHo,hHh,hHi,hg,hg2,hgl,hgi]
   refine callP_intro (ds:=[.i .i64 1]) (by rfl) hofz ?_
   rw [encZ_eq]
   simp (maxSteps:=1000000) [-map_map,-mapM_map,↓KW,hw,hH1,hHo,hHh,hHi,hg,hg2,hgl,hgi,hj2,hvcl,hlay,cellsA_encM,one_encM,inj1_encM,inj_encM,kills_encM]
   rw [hupd]
   refine nxt_intro (i+1,M.set i (v.set i z')) ⟨hgi,hM',fun r s hr hs=>?_⟩ (Nat.sub_lt_sub_left hgi (Nat.lt_succ_self _)) ?_
   ·rw [ent_set hM hgi hgi hv,hME r s hr hs,hz']
    simp only [idF]
    by_cases e:r=i∧s=i
    ·rw [if_pos e,if_pos (by omega)]
    ·rw [if_neg e]
     by_cases e2:r<i∧r=s
     ·rw [if_pos e2,if_pos (by omega)]
     ·rw [if_neg e2,if_neg (by omega)]
   ·refine ⟨_,wk_id ?_ (fun id o' ho=>⟨o',ho,idH_self hM' ho⟩) (fun id hid=>idH_top hM' hid) (by simp)⟩
    have g1:=idH_some hM' (id:=1) (by omega) (by omega)
    have g4:=idH_some hM' (id:=n+3) (by omega) (by omega)
    simp [-map_map,upd,inj1,Γ0,g1,g4]
  ·have q1:¬ (i:Int)<n:=by omega
   have hMk:M=idM n:=mk_of hM fun r s hr hs=>by
    rw [hME r s hr hs]; simp only [idF]
    by_cases e:r=s
    ·rw [if_pos e,if_pos ⟨by omega,e⟩]
    ·rw [if_neg e,if_neg (fun h=>e h.2)]
   have hmb:∀ (i:Nat) o,(mB n M 2)[i]? = some o→idH n M (i+2)=some o:=fun i o h=>by
    have hi:=(List.getElem?_eq_some_iff.1 h).1
    unfold idH
    rw [show i+2=(i+1)+1 by omega,famH_get,List.getElem?_append_left (by rw [List.length_append,List.length_singleton]; omega),List.getElem?_append_right (by rw [List.length_singleton]; omega),List.length_singleton,Nat.add_sub_cancel]
    exact h
   generalize hHg:idH n M=H at *
   simp (maxSteps:=1000000) [-map_map,-mapM_map,↓KW,q1,hH1,hHo]
   rw [← hMk]
   refine wk_out hM (Nat.succ_ne_zero _) rfl fun i o h=>?_
   simp only [upd]
   rw [if_neg (by omega)]
   exact hmb i o h
end Go.Am
end

section
set_option linter.unusedVariables false
set_option linter.unusedSimpArgs false
open Go Go.Am Go.Proofs
namespace Go.Am
def wRt (R c p q r:Nat):HO:=.cells 212 [.d (.i .i64 (R:Int)),.d (.i .i64 (c:Int)),.own p 0 R 1,.d (.i .i64 (R:Int)),.d (.i .i64 (R:Int)),.own q 0 R 1,.d (.i .i64 (R:Int)),.d (.i .i64 (R:Int)),.own r 0 R 1]
def wHs (R c:Nat) (M U V:List (List Int)) (p q r:Nat):List HO:=mB c M p++mB R U q++mB R V r
def wH (R c:Nat) (M U V:List (List Int)):List HO:=wHs R c M U V 1 (R+2) (2 * R+3)
def wR0 (R c:Nat):HO:=wRt R c 1 (R+2) (2 * R+3)
structure WS (R c:Nat) (M U V:List (List Int)):Prop where
 m:Sh R c M
 u:Sh R R U
 v:Sh R R V
theorem wHs_len {R c:Nat} {M U V:List (List Int)} (h:WS R c M U V) (p q r:Nat):(wHs R c M U V p q r).length=3 * R+3:=by
 unfold wHs
 rw [List.length_append,List.length_append,mB_len,mB_len,mB_len,h.m.len,h.u.len,h.v.len]; omega
theorem wHs_M {R c i p q r:Nat} {M U V:List (List Int)} (h:WS R c M U V) (hi:i<R+1):(wHs R c M U V p q r)[i]? = (mB c M p)[i]? := by
 unfold wHs
 rw [List.append_assoc,List.getElem?_append_left (by rw [mB_len,h.m.len]; exact hi)]
theorem wHs_U {R c i p q r:Nat} {M U V:List (List Int)} (h:WS R c M U V) (hi:i<R+1):(wHs R c M U V p q r)[i+(R+1)]? = (mB R U q)[i]? := by
 unfold wHs
 rw [List.append_assoc,List.getElem?_append_right (by rw [mB_len,h.m.len]; omega),mB_len,h.m.len,Nat.add_sub_cancel,List.getElem?_append_left (by rw [mB_len,h.u.len]; exact hi)]
theorem wHs_V {R c i p q r:Nat} {M U V:List (List Int)} (h:WS R c M U V) (hi:i<R+1):(wHs R c M U V p q r)[i+(2 * R+2)]? = (mB R V r)[i]? := by
 unfold wHs
 rw [List.getElem?_append_right (by rw [List.length_append,mB_len,mB_len,h.m.len,h.u.len]; omega),List.length_append,mB_len,mB_len,h.m.len,h.u.len,show i+(2 * R+2) - (R+1+(R+1))=i by omega]
theorem idx3 {R i:Nat} (h:i<3 * R+3):i<R+1∨(∃ t,t<R+1∧i=t+(R+1))∨∃ t,t<R+1∧i=t+(2 * R+2):=by
 by_cases h1:i<R+1
 ·exact .inl h1
 ·by_cases h2:i<2 * R+2
  ·exact .inr (.inl ⟨i - (R+1),by omega,by omega⟩)
  ·exact .inr (.inr ⟨i - (2 * R+2),by omega,by omega⟩)
structure HW (H:Nat→Option HO) (b p q r R c:Nat) (M U V:List (List Int)):Prop where
 root:H b=some (wRt R c p q r)
 m:∀ (i:Nat) o,(mB c M p)[i]? = some o→H (i+p)=some o
 u:∀ (i:Nat) o,(mB R U q)[i]? = some o→H (i+q)=some o
 v:∀ (i:Nat) o,(mB R V r)[i]? = some o→H (i+r)=some o
def wNu (b p q r R:Nat) (i:Nat):Nat:=if i=0 then b else if i<R+2 then p+(i - 1) else if i<2 * R+3 then q+(i - (R+2)) else r+(i - (2 * R+3))
theorem wNu_M {b p q r R t:Nat} (h:t<R+1):wNu b p q r R (t+1)=p+t:=by
 unfold wNu; rw [if_neg (by omega),if_pos (by omega)]; rfl
theorem wNu_U {b p q r R t:Nat} (h:t<R+1):wNu b p q r R (t+(R+2))=q+t:=by
 unfold wNu; rw [if_neg (by omega),if_neg (by omega),if_pos (by omega),Nat.add_sub_cancel]
theorem wNu_V {b p q r R t:Nat}:wNu b p q r R (t+(2 * R+3))=r+t:=by
 unfold wNu; rw [if_neg (by omega),if_neg (by omega),if_neg (by omega),Nat.add_sub_cancel]
theorem ren_row (ν:Nat→Nat) (v:List Int):renO ν (rowO v)=rowO v:=by
 simp only [renO,rowO,List.map_map]; congr 1
theorem ren_hdr {ν:Nat→Nat} {c n m m':Nat} (h:∀ t,t<n→ν (t+m)=t+m'):(hdr c n m).map (ren0 ν)=hdr c n m':=by
 unfold hdr
 rw [List.map_map]
 refine List.map_congr_left fun j hj=>?_
 simp only [Function.comp,ren0]
 rw [h j (List.mem_range.1 hj)]
theorem ren_mB {ν:Nat→Nat} {c m m':Nat} {M:List (List Int)} (h:∀ t,t<M.length→ν (t+(m+1))=t+(m'+1)):(mB c M m).map (renO ν)=mB c M m':=by
 unfold mB
 rw [List.map_cons,List.map_map]
 congr 1
 ·simp only [renO]; rw [ren_hdr h]
 ·refine List.map_congr_left fun v _=>?_
  exact ren_row ν v
theorem ren_root (b p q r R c:Nat):renO (wNu b p q r R) (wR0 R c)=wRt R c p q r:=by
 have h1:wNu b p q r R 1=p:=wNu_M (t:=0) (by omega)
 have h2:wNu b p q r R (R+2)=q:=by have:=wNu_U (b:=b) (p:=p) (q:=q) (r:=r) (R:=R) (t:=0) (by omega); rwa [Nat.zero_add,Nat.add_zero] at this
 have h3:wNu b p q r R (2 * R+3)=r:=by have:=wNu_V (b:=b) (p:=p) (q:=q) (r:=r) (R:=R) (t:=0); rwa [Nat.zero_add,Nat.add_zero] at this
 simp only [wR0,wRt,renO,List.map_cons,List.map_nil,ren0,h1,h2,h3]
theorem lf_rf {a n:Nat} {o:HO} (h:rfO a n o=true):lfO n o=true:=by
 cases o with
 | map _ _=>cases h
 | iter _ _ _=>cases h
 | cells e cs =>
  refine List.all_eq_true.2 fun c hc=>?_
  have:=List.all_eq_true.1 h c hc
  cases c <;> first | rfl | (cases this; done) | (simp only [rfC,lf0,decide_eq_true_eq] at this ⊢; omega)
theorem rf_wH {R c:Nat} {M U V:List (List Int)} (h:WS R c M U V):∀ o∈wR0 R c::wH R c M U V,rfO 1 (3 * R+4) o=true:=by
 intro o ho
 rcases List.mem_cons.1 ho with rfl | ho
 ·simp only [wR0,wRt,rfO,rfC,List.all_cons,List.all_nil,Bool.and_true,Bool.true_and,Bool.and_eq_true,decide_eq_true_eq]; omega
 ·unfold wH wHs at ho
  rcases List.mem_append.1 ho with ho | ho
  ·rcases List.mem_append.1 ho with ho | ho
   ·exact rfO_mB (by omega) (by rw [h.m.len]; omega) o ho
   ·exact rfO_mB (by omega) (by rw [h.u.len]; omega) o ho
  ·exact rfO_mB (by omega) (by rw [h.v.len]; omega) o ho
theorem ment_hdr {c n m t:Nat} (h:t<n):ment (t+m) (.cells 112 (hdr c n m))=true:=by
 simp only [ment]
 refine List.any_eq_true.2 ⟨.own (t+m) 0 c 2,List.mem_of_getElem? (hdr_get h),by simp [hasId]⟩
theorem w_ment {R c:Nat} {M U V:List (List Int)} (h:WS R c M U V):∀ i,0<i→i<(wH R c M U V).length+1→∃ j ob,j<i∧(wR0 R c::wH R c M U V)[j]? = some ob∧ment i ob=true:=by
 intro i hi hl
 rw [show (wH R c M U V).length=3 * R+3 from wHs_len h _ _ _] at hl
 obtain ⟨k,rfl⟩:∃ k,i=k+1:=⟨i - 1,by omega⟩
 rcases idx3 (i:=k) (R:=R) (by omega) with ht | ⟨t,ht,rfl⟩ | ⟨t,ht,rfl⟩
 ·rcases k with _ | t
  ·exact ⟨0,_,by omega,rfl,by simp [ment,wR0,wRt,hasId]⟩
  ·refine ⟨1,.cells 112 (hdr c R 2),by omega,?_,?_⟩
   ·rw [List.getElem?_cons_succ]
    show (wHs R c M U V _ _ _)[0]? = _
    rw [wHs_M h (by omega)]
    simp only [mB,List.getElem?_cons_zero,h.m.len]
   ·have:=ment_hdr (c:=c) (n:=R) (m:=2) (t:=t) (by omega)
    rwa [show t+2=t+1+1 by omega] at this
 ·rcases t with _ | t
  ·refine ⟨0,_,by omega,rfl,?_⟩
   simp only [ment,wR0,wRt,hasId,List.any_cons,List.any_nil,Bool.or_false,Bool.or_eq_true,beq_iff_eq]; omega
  ·refine ⟨R+2,.cells 112 (hdr R R (R+3)),by omega,?_,?_⟩
   ·rw [show R+2=(0+(R+1))+1 by omega,List.getElem?_cons_succ]
    show (wHs R c M U V _ _ _)[0+(R+1)]? = _
    rw [wHs_U h (by omega)]
    simp only [mB,List.getElem?_cons_zero,h.u.len]
   ·have:=ment_hdr (c:=R) (n:=R) (m:=R+3) (t:=t) (by omega)
    rwa [show t+(R+3)=t+1+(R+1)+1 by omega] at this
 ·rcases t with _ | t
  ·refine ⟨0,_,by omega,rfl,?_⟩
   simp only [ment,wR0,wRt,hasId,List.any_cons,List.any_nil,Bool.or_false,Bool.or_eq_true,beq_iff_eq]; omega
  ·refine ⟨2 * R+3,.cells 112 (hdr R R (2 * R+4)),by omega,?_,?_⟩
   ·rw [show 2 * R+3=(0+(2 * R+2))+1 by omega,List.getElem?_cons_succ]
    show (wHs R c M U V _ _ _)[0+(2 * R+2)]? = _
    rw [wHs_V h (by omega)]
    simp only [mB,List.getElem?_cons_zero,h.v.len]
   ·have:=ment_hdr (c:=R) (n:=R) (m:=2 * R+4) (t:=t) (by omega)
    rwa [show t+(2 * R+4)=t+1+(2 * R+2)+1 by omega] at this
theorem HW.get {H:Nat→Option HO} {b p q r R c:Nat} {M U V:List (List Int)} (h:HW H b p q r R c M U V) (hs:WS R c M U V) (i:Nat) (ob:HO) (ho:(wR0 R c::wH R c M U V)[i]? = some ob):H (wNu b p q r R i)=some (renO (wNu b p q r R) ob):=by
 rcases i with _ | i
 ·simp only [List.getElem?_cons_zero,Option.some.injEq] at ho
  subst ho
  rw [ren_root]; exact h.root
 ·rw [List.getElem?_cons_succ] at ho
  have hlt:=(List.getElem?_eq_some_iff.1 ho).1
  rw [show (wH R c M U V).length=3 * R+3 from wHs_len hs _ _ _] at hlt
  have key:∀ {c' m m':Nat} {N:List (List Int)} {t:Nat},(∀ t,t<N.length→wNu b p q r R (t+(m+1))=t+(m'+1))→(mB c' N m)[t]? = some ob→(mB c' N m')[t]? = some (renO (wNu b p q r R) ob):=fun hν ht=>by
   rw [← ren_mB hν,List.getElem?_map,ht]; rfl
  rcases idx3 hlt with ht | ⟨t,ht,rfl⟩ | ⟨t,ht,rfl⟩
  ·unfold wH at ho
   rw [wHs_M hs ht] at ho
   rw [wNu_M ht,Nat.add_comm p i]
   exact h.m i _ (key (fun t ht=>by rw [hs.m.len] at ht; rw [show t+(1+1)=(t+1)+1 by omega,wNu_M (by omega)]; omega) ho)
  ·unfold wH at ho
   rw [wHs_U hs ht] at ho
   rw [show t+(R+1)+1=t+(R+2) by omega,wNu_U ht,Nat.add_comm q t]
   exact h.u t _ (key (fun t ht=>by rw [hs.u.len] at ht; rw [show t+(R+2+1)=(t+1)+(R+2) by omega,wNu_U (by omega)]; omega) ho)
  ·unfold wH at ho
   rw [wHs_V hs ht] at ho
   rw [show t+(2 * R+2)+1=t+(2 * R+3) by omega,wNu_V,Nat.add_comm r t]
   exact h.v t _ (key (fun t ht=>by rw [show t+(2 * R+3+1)=(t+1)+(2 * R+3) by omega,wNu_V]; omega) ho)
theorem wNu_inj {b p q r R:Nat} (h1:b<p∨r+R<b) (h2:p+R<q) (h3:q+R<r) (i j:Nat) (hi:i<3 * R+4) (hj:j<3 * R+4) (he:wNu b p q r R i=wNu b p q r R j):i=j:=by
 unfold wNu at he
 split at he <;> split at he <;> first | omega | (split at he <;> first | omega | (split at he <;> first | omega | (split at he <;> first | omega | (split at he <;> omega))))
end Go.Am
end

section
set_option linter.unusedVariables false
set_option linter.unusedSimpArgs false
open Go Go.Am Go.Proofs
namespace Go.Am
structure HF (H:Nat→Option HO) (pre:List HO) (p q r R c:Nat) (M U V:List (List Int)):Prop where
 w:HW H (pre.length+1) p q r R c M U V
 pre:∀ (i:Nat) o,pre[i]? = some o→H (i+1)=some o
theorem HW.hdrM {H:Nat→Option HO} {b p q r R c:Nat} {M U V:List (List Int)} (h:HW H b p q r R c M U V) (hs:WS R c M U V):H p=some (.cells 112 (hdr c R (p+1))):=by
 have:=h.m 0 _ rfl
 rwa [Nat.zero_add,hs.m.len] at this
theorem HW.rowM {H:Nat→Option HO} {b p q r R c i:Nat} {M U V:List (List Int)} (h:HW H b p q r R c M U V) {v:List Int} (hv:M[i]? = some v):H (i+(p+1))=some (.cells 69 ((vcs v).map .d)):=by
 have:=h.m (i+1) (rowO v) (by simp only [mB,List.getElem?_cons_succ,List.getElem?_map,hv,Option.map_some])
 rwa [show i+1+p=i+(p+1) by omega] at this
theorem nuT_eq (b n R:Nat):nuT b n=wNu b n (n+R+1) (n+2 * R+2) R:=by
 funext j
 unfold nuT wNu
 by_cases h:j=0
 ·rw [if_pos h,if_pos h]
 ·rw [if_neg h,if_neg h]
  split
  ·rfl
  ·split <;> omega
theorem w_ids {b p q r R n:Nat} (h1:b<p) (h2:p+R<q) (h3:q+R<r) (h4:r+R<n) {id:Nat} (h:id∈nuL (wNu b p q r R) (3 * R+3)):b<id∧id<n:=by
 obtain ⟨j,hj,hj2,rfl⟩:=nuL_mem.1 h
 unfold wNu
 rw [if_neg (by omega)]
 split
 ·omega
 ·split <;> omega
theorem o1_wcall {P:Program} {dst:Option Tmp} {ty:TypeId} {pos:String} {after:Array Edge} {guard:Option (Nat × Bool)} {σ:St} {con:List Nat} {k:St→List Nat→Prop} {f:FuncId} {x:Operand} {rest:List Operand} {ts:Array TypeId}
  {d:Dm ((⟨dst,.call ⟨.value (.func f),(x::rest).toArray,ts⟩,ty,pos,after,guard⟩:Oper),k)} {b p q r R c:Nat} {M U V M' U' V':List (List Int)} {ds:List D} (hm:mutF P f=true) (hpos:0<σ.n) (hx:oev σ.Γ x=.ptr b 0)
  (hW:HW σ.H b p q r R c M U V) (hs:WS R c M U V) (h1:b<p) (h2:p+R<q) (h3:q+R<r) (hvis:viss σ.H (rest.map (oev σ.Γ))=[]) (hfr:frzs σ.H (rest.map (oev σ.Γ))=some ds)
  (hs':WS R c M' U' V') (hsp:TSpec P f (.ptr 0 0) (wR0 R c) (wH R c M U V) ds (wR0 R c) (wH R c M' U' V') (.tp []))
  (hk:k ⟨putA σ.Γ dst (inj (.tp [])),tcH σ.H σ.n b (nuL (wNu b p q r R) (3 * R+3)) (wR0 R c) (wH R c M' U' V'),σ.n+(3 * R+3)⟩ (nuL (wNu b p q r R) (3 * R+3)++con)):O1d P ⟨dst,.call ⟨.value (.func f),(x::rest).toArray,ts⟩,ty,pos,after,guard⟩ σ con k d:=by
 have hl:(wH R c M U V).length=3 * R+3:=wHs_len hs _ _ _
 have hl':(wH R c M' U' V').length=3 * R+3:=wHs_len hs' _ _ _
 refine o1_tcall (wNu b p q r R) (.ptr 0 0) (wR0 R c) (wH R c M U V) ds (wR0 R c) (wH R c M' U' V') (.tp []) hm hpos ?_ rfl (by simp [lf0]) (fun i j hi hj he=>?_) (fun i ob ho=>⟨?_,hW.get hs i ob ho⟩) (w_ment hs) hvis hfr hsp ?_
 ·rw [hx]; rfl
 ·exact wNu_inj (.inl h1) h2 h3 i j (by omega) (by omega) he
 ·have:=lf_rf (rf_wH hs ob (List.mem_of_getElem? ho))
  rwa [hl]
 ·rw [hl,hl']; exact hk
theorem finP_ne (σ:St) {con:List Nat} (h:con≠[]) (k:St→Prop) (d:Dm k):FinP σ con k d=k ⟨fun t=>scrub con (σ.Γ t),fun id=>(σ.H id).map (scrubO con),σ.n⟩:=by
 cases con with
 | nil=>exact (h rfl).elim
 | cons c l=>rfl
theorem nuL_ne (ν:Nat→Nat) (n:Nat):nuL ν (n+1)++[]≠[]:=by
 unfold nuL
 intro h
 have:=congrArg List.length h
 simp at this
theorem scrub_rf {l:List Nat} {a n:Nat} {o:HO} (hl:∀ id∈l,id<a∨n≤id) (ho:rfO a n o=true):scrubO l o=o:=by
 cases o with
 | map _ _=>cases ho
 | iter _ _ _=>cases ho
 | cells e cs =>
  simp only [scrubO]
  congr 1
  conv=>rhs; rw [← List.map_id cs]
  refine List.map_congr_left fun c hc=>?_
  have:=List.all_eq_true.1 ho c hc
  cases c <;> first | rfl | (cases this; done) | (simp only [rfC,decide_eq_true_eq] at this; simp only [scrub0,id]; rw [if_neg]; intro hm; have:=hl _ hm; omega)
theorem HF.call {H:Nat→Option HO} {pre:List HO} {p q r R c n:Nat} {M U V M' U' V':List (List Int)} (h:HF H pre p q r R c M U V) (hs':WS R c M' U' V') (h1:pre.length+1<p) (h2:p+R<q) (h3:q+R<r) (h4:r+R<n) (hpre:∀ o∈pre,rfO 0 0 o=true) :
  HF (fun id=>(tcH H n (pre.length+1) (nuL (wNu (pre.length+1) p q r R) (3 * R+3)) (wR0 R c) (wH R c M' U' V') id).map (scrubO (nuL (wNu (pre.length+1) p q r R) (3 * R+3)))) pre n (n+R+1) (n+2 * R+2) R c M' U' V':=by
 have hl':(wH R c M' U' V').length=3 * R+3:=wHs_len hs' _ _ _
 have hids:=fun id h=>w_ids h1 h2 h3 h4 (id:=id) h
 generalize nuL (wNu (pre.length+1) p q r R) (3 * R+3)=l at *
 have hsc:∀ {o:HO},rfO n (n+3 * R+3) o=true→scrubO l o=o:=fun ho=>scrub_rf (fun id hid=>.inl (hids id hid).2) ho
 have hrf:∀ {c' m':Nat} {N:List (List Int)},n≤m'→m'+1+N.length≤n+3 * R+3→∀ o∈mB c' N m',scrubO l o=o:=fun h1 h2 o ho=>hsc (rfO_mB (by omega) h2 o ho)
 have hnew:∀ (i:Nat) ob,(wH R c M' U' V')[i]? = some ob→tcH H n (pre.length+1) l (wR0 R c) (wH R c M' U' V') (i+n)=some (renO (wNu (pre.length+1) n (n+R+1) (n+2 * R+2) R) ob):=fun i ob ho=>by
  have hi:=(List.getElem?_eq_some_iff.1 ho).1
  unfold tcH
  rw [if_pos ⟨by omega,by omega⟩,Nat.add_sub_cancel,ho,← nuT_eq]; rfl
 have key:∀ {c' m m':Nat} {N:List (List Int)} {t:Nat} {o:HO},(∀ t,t<N.length→wNu (pre.length+1) n (n+R+1) (n+2 * R+2) R (t+(m+1))=t+(m'+1))→(mB c' N m')[t]? = some o→∃ ob,(mB c' N m)[t]? = some ob∧o=renO (wNu (pre.length+1) n (n+R+1) (n+2 * R+2) R) ob:=fun hν ht=>by
  rw [← ren_mB hν,List.getElem?_map] at ht
  obtain ⟨ob,h1,h2⟩:=Option.map_eq_some_iff.1 ht
  exact ⟨ob,h1,h2.symm⟩
 have hmlen:M'.length=R:=hs'.m.len
 have hulen:U'.length=R:=hs'.u.len
 have hvlen:V'.length=R:=hs'.v.len
 refine ⟨⟨?_,fun i o ho=>?_,fun i o ho=>?_,fun i o ho=>?_⟩,fun i o ho=>?_⟩
 ·have:tcH H n (pre.length+1) l (wR0 R c) (wH R c M' U' V') (pre.length+1)=some (wRt R c n (n+R+1) (n+2 * R+2)):=by
   unfold tcH
   rw [if_neg (by omega),if_pos rfl,nuT_eq _ _ R,ren_root]
  rw [this]
  simp only [Option.map_some]
  rw [hsc]
  simp only [wRt,rfO,rfC,List.all_cons,List.all_nil,Bool.and_true,Bool.true_and,Bool.and_eq_true,decide_eq_true_eq]; omega
 ·have hi:i<R+1:=by have:=(List.getElem?_eq_some_iff.1 ho).1; rwa [mB_len,hmlen] at this
  obtain ⟨ob,g1,g2⟩:=key (m:=1) (fun t ht=>by rw [hmlen] at ht; rw [show t+(1+1)=(t+1)+1 by omega,wNu_M (by omega)]; omega) ho
  rw [hnew i ob (by unfold wH; rw [wHs_M hs' hi]; exact g1),← g2]
  simp only [Option.map_some]
  rw [hrf (by omega) (by omega) o (List.mem_of_getElem? ho)]
 ·have hi:i<R+1:=by have:=(List.getElem?_eq_some_iff.1 ho).1; rwa [mB_len,hulen] at this
  obtain ⟨ob,g1,g2⟩:=key (m:=R+2) (fun t ht=>by rw [hulen] at ht; rw [show t+(R+2+1)=(t+1)+(R+2) by omega,wNu_U (by omega)]; omega) ho
  have:=hnew (i+(R+1)) ob (by unfold wH; rw [wHs_U hs' hi]; exact g1)
  rw [show i+(n+R+1)=i+(R+1)+n by omega,this,← g2]
  simp only [Option.map_some]
  rw [hrf (by omega) (by omega) o (List.mem_of_getElem? ho)]
 ·have hi:i<R+1:=by have:=(List.getElem?_eq_some_iff.1 ho).1; rwa [mB_len,hvlen] at this
  obtain ⟨ob,g1,g2⟩:=key (m:=2 * R+3) (fun t ht=>by rw [show t+(2 * R+3+1)=(t+1)+(2 * R+3) by omega,wNu_V]; omega) ho
  have:=hnew (i+(2 * R+2)) ob (by unfold wH; rw [wHs_V hs' hi]; exact g1)
  rw [show i+(n+2 * R+2)=i+(2 * R+2)+n by omega,this,← g2]
  simp only [Option.map_some]
  rw [hrf (by omega) (by omega) o (List.mem_of_getElem? ho)]
 ·have hi:=(List.getElem?_eq_some_iff.1 ho).1
  have:tcH H n (pre.length+1) l (wR0 R c) (wH R c M' U' V') (i+1)=some o:=by
   unfold tcH
   rw [if_neg (by omega),if_neg (by omega),if_neg (fun hm=>by have:=(hids _ hm).1; omega)]
   exact h.pre i o ho
  rw [this]
  simp only [Option.map_some]
  rw [scrub_rf (a:=0) (n:=0) (fun id _=>.inr (Nat.zero_le _)) (hpre o (List.mem_of_getElem? ho))]
def wFl (pre:List HO) (R c:Nat) (M U V:List (List Int)):List HO:=pre++(wRt R c (pre.length+2) (pre.length+R+3) (pre.length+2 * R+4)::wHs R c M U V (pre.length+2) (pre.length+R+3) (pre.length+2 * R+4))
def wFam (pre:List HO) (R c:Nat) (M U V:List (List Int)):Nat→Option HO:=famH 1 (wFl pre R c M U V)
theorem wFl_len {pre:List HO} {R c:Nat} {M U V:List (List Int)} (hs:WS R c M U V):(wFl pre R c M U V).length=pre.length+3 * R+4:=by
 unfold wFl
 rw [List.length_append,List.length_cons,wHs_len hs]; omega
theorem wFam_HF {pre:List HO} {R c:Nat} {M U V:List (List Int)} (hs:WS R c M U V):HF (wFam pre R c M U V) pre (pre.length+2) (pre.length+R+3) (pre.length+2 * R+4) R c M U V:=by
 have hget:∀ i,wFam pre R c M U V (i+(pre.length+2))=(wHs R c M U V (pre.length+2) (pre.length+R+3) (pre.length+2 * R+4))[i]? := fun i=>by
  unfold wFam wFl
  rw [show i+(pre.length+2)=(i+1+pre.length)+1 by omega,famH_get,List.getElem?_append_right (by omega),Nat.add_sub_cancel,List.getElem?_cons_succ]
 refine ⟨⟨?_,fun i o ho=>?_,fun i o ho=>?_,fun i o ho=>?_⟩,fun i o ho=>?_⟩
 ·unfold wFam wFl
  rw [famH_get,List.getElem?_append_right (Nat.le_refl _),Nat.sub_self]; rfl
 ·have hi:i<R+1:=by have:=(List.getElem?_eq_some_iff.1 ho).1; rwa [mB_len,hs.m.len] at this
  rw [hget,wHs_M hs hi]; exact ho
 ·have hi:i<R+1:=by have:=(List.getElem?_eq_some_iff.1 ho).1; rwa [mB_len,hs.u.len] at this
  rw [show i+(pre.length+R+3)=(i+(R+1))+(pre.length+2) by omega,hget,wHs_U hs hi]; exact ho
 ·have hi:i<R+1:=by have:=(List.getElem?_eq_some_iff.1 ho).1; rwa [mB_len,hs.v.len] at this
  rw [show i+(pre.length+2 * R+4)=(i+(2 * R+2))+(pre.length+2) by omega,hget,wHs_V hs hi]; exact ho
 ·unfold wFam wFl
  rw [famH_get,List.getElem?_append_left (List.getElem?_eq_some_iff.1 ho).1]; exact ho
def wRho (b p q r R:Nat) (id:Nat):Nat:=if id<b then id else wNu b p q r R (id - b)
theorem rfC_subP {H H':Nat→Option HO} {ρ ν μ:Nat→Nat} {a n:Nat} {c:AV} (hc:rfC a n c=true) (h:∀ id,a≤id→id<n→ν id=ρ (μ id)∧(H' (μ id)).isSome=true):SubL H H' ρ (ren0 ν c) (ren0 μ c):=by
 cases c <;> first
  | (cases hc; done)
  | exact (subL_d _ _).2 rfl
  | trivial
  | (simp only [rfC,decide_eq_true_eq] at hc; obtain ⟨h1,h2⟩:=h _ hc.1 hc.2; exact ⟨h1,rfl,rfl,rfl,h2⟩)
  | (simp only [rfC,decide_eq_true_eq] at hc; obtain ⟨h1,h2⟩:=h _ hc.1 hc.2; exact ⟨h1,rfl,h2⟩)
theorem rf_ren {H H':Nat→Option HO} {ρ ν μ:Nat→Nat} {a n:Nat} {o:HO} (ho:rfO a n o=true) (h:∀ id,a≤id→id<n→ν id=ρ (μ id)∧(H' (μ id)).isSome=true):SubO H H' ρ (renO ν o) (renO μ o):=by
 cases o with
 | map k es=>cases ho
 | iter _ _ _=>cases ho
 | cells e cs =>
  refine subO_cells.2 ⟨rfl,cellsOk_iff.2 ⟨by simp,fun k c d h1 h2=>?_⟩⟩
  rw [List.getElem?_map] at h1 h2
  obtain ⟨c0,hc0,rfl⟩:=Option.map_eq_some_iff.1 h1
  rw [hc0] at h2
  injection h2 with h2; subst h2
  exact rfC_subP (List.all_eq_true.1 ho c0 (List.mem_of_getElem? hc0)) h
theorem wNu_can {R b i:Nat}:wNu b (b+1) (b+R+2) (b+2 * R+3) R i=b+i:=by
 unfold wNu
 split
 ·omega
 ·split
  ·omega
  ·split <;> omega
theorem wk_can {H:Nat→Option HO} {pre:List HO} {p q r R c n b:Nat} {M U V:List (List Int)} {Γ:Nat→AV} {sl:List (Nat × AV)} (h:HF H pre p q r R c M U V) (hs:WS R c M U V) (hb:b=pre.length+1) (h1:b<p) (h2:p+R<q) (h3:q+R<r) (hpre:∀ o∈pre,rfO 0 0 o=true)
  (hslot:slotsOk H (wFam pre R c M U V) (wRho b p q r R) Γ sl):∃ ρ,Wk ⟨Γ,H,n⟩ ⟨sltF sl,wFam pre R c M U V,b+3 * R+4⟩ ρ:=by
 subst hb
 have hF:=wFam_HF (pre:=pre) hs
 have hlen:=wFl_len (pre:=pre) hs
 have hcan:∀ i,i<3 * R+4→(wFam pre R c M U V (i+(pre.length+1))).isSome=true:=fun i hi=>famH_some (by omega) (by rw [hlen]; omega)
 have hge:∀ id o',wFam pre R c M U V id=some o'→1≤id∧id<pre.length+3 * R+5:=fun id o' ho=>by
  have:=famH_lt (b:=1) (l:=wFl pre R c M U V) (id:=id) (by unfold wFam at ho; rw [ho]; rfl)
  rw [hlen] at this; omega
 refine ⟨_,wk_gen (wRho (pre.length+1) p q r R) hslot (fun id o' ho=>?_) (fun id id' e1 e2 e=>?_) (fun h0=>?_) (fun id hid=>?_) (by omega)⟩
 ·obtain ⟨g1,g2⟩:=hge id o' ho
  by_cases hid:id<pre.length+1
  ·obtain ⟨k,rfl⟩:∃ k,id=k+1:=⟨id - 1,by omega⟩
   have hk:pre[k]? = some o':=by
    unfold wFam wFl at ho
    rwa [famH_get,List.getElem?_append_left (by omega)] at ho
   refine ⟨o',?_,rf_self (hpre o' (List.mem_of_getElem? hk)) fun id _ h2=>absurd h2 (Nat.not_lt_zero _)⟩
   unfold wRho
   rw [if_pos hid]
   exact h.pre k o' hk
  ·obtain ⟨i,rfl⟩:∃ i,id=i+(pre.length+1):=⟨id - (pre.length+1),by omega⟩
   have hi:i<3 * R+4:=by omega
   have hl4:i<(wR0 R c::wH R c M U V).length:=by rw [List.length_cons,show (wH R c M U V).length=3 * R+3 from wHs_len hs _ _ _]; omega
   obtain ⟨ob,hob⟩:∃ ob,(wR0 R c::wH R c M U V)[i]? = some ob:=⟨_,List.getElem?_eq_getElem hl4⟩
   have e1:=h.w.get hs i ob hob
   have e2:=hF.w.get hs i ob hob
   rw [show pre.length+2=pre.length+1+1 by omega,show pre.length+R+3=pre.length+1+R+2 by omega,show pre.length+2 * R+4=pre.length+1+2 * R+3 by omega] at e2
   rw [wNu_can,Nat.add_comm (pre.length+1) i,ho] at e2
   injection e2 with e2
   rw [e2]
   refine ⟨renO (wNu (pre.length+1) p q r R) ob,?_,rf_ren (ν:=wNu (pre.length+1) p q r R) (rf_wH hs ob (List.mem_of_getElem? hob)) fun id g1 g2=>⟨?_,?_⟩⟩
   ·unfold wRho
    rw [if_neg (by omega),Nat.add_sub_cancel]; exact e1
   ·rw [wNu_can]
    unfold wRho
    rw [if_neg (by omega),Nat.add_sub_cancel_left]
   ·rw [wNu_can,Nat.add_comm]
    exact hcan id g2
 ·obtain ⟨o1,ho1⟩:=Option.isSome_iff_exists.1 e1
  obtain ⟨o2,ho2⟩:=Option.isSome_iff_exists.1 e2
  have g1:=hge id o1 ho1
  have g2:=hge id' o2 ho2
  have hbig:∀ i,pre.length+1≤wNu (pre.length+1) p q r R i:=fun i=>by
   unfold wNu
   split
   ·exact Nat.le_refl _
   ·split
    ·omega
    ·split <;> omega
  unfold wRho at e
  split at e <;> split at e
  ·exact e
  ·have:=hbig (id' - (pre.length+1)); omega
  ·have:=hbig (id - (pre.length+1)); omega
  ·have:=wNu_inj (.inl h1) h2 h3 (id - (pre.length+1)) (id' - (pre.length+1)) (by omega) (by omega) e
   omega
 ·obtain ⟨o1,ho1⟩:=Option.isSome_iff_exists.1 h0
  have:=hge 0 o1 ho1
  omega
 ·exact famH_top (by rw [hlen]; omega)
end Go.Am
end

section
set_option linter.unusedVariables false
set_option linter.unusedSimpArgs false
open List (map_map mapM_map)
open Go Go.Am Go.Proofs
namespace Go.Am
def wOut (R c:Nat) (M U V:List (List Int)) (m:Nat):List HO:=wRt R c (m+1) (m+R+2) (m+2 * R+3)::wHs R c M U V (m+1) (m+R+2) (m+2 * R+3)
theorem wOut_len {R c:Nat} {M U V:List (List Int)} (hs:WS R c M U V) (m:Nat):(wOut R c M U V m).length=3 * R+4:=by
 unfold wOut; rw [List.length_cons,wHs_len hs]
theorem wOut_get {R c:Nat} {M U V:List (List Int)} (hs:WS R c M U V) {m i:Nat} {ob:HO} (ho:(wR0 R c::wH R c M U V)[i]? = some ob):(wOut R c M U V m)[i]? = some (renO (wNu m (m+1) (m+R+2) (m+2 * R+3) R) ob):=by
 have hW:HW (fun id=>if id<m then none else (wOut R c M U V m)[id - m]?) m (m+1) (m+R+2) (m+2 * R+3) R c M U V:=by
  refine ⟨by rw [if_neg (by omega),Nat.sub_self]; rfl,fun i o ho=>?_,fun i o ho=>?_,fun i o ho=>?_⟩
  ·have hi:i<R+1:=by have:=(List.getElem?_eq_some_iff.1 ho).1; rwa [mB_len,hs.m.len] at this
   rw [if_neg (by omega),show i+(m+1) - m=i+1 by omega]
   show (wHs R c M U V (m+1) (m+R+2) (m+2 * R+3))[i]? = _
   rw [wHs_M hs hi]; exact ho
  ·have hi:i<R+1:=by have:=(List.getElem?_eq_some_iff.1 ho).1; rwa [mB_len,hs.u.len] at this
   rw [if_neg (by omega),show i+(m+R+2) - m=(i+(R+1))+1 by omega]
   show (wHs R c M U V (m+1) (m+R+2) (m+2 * R+3))[i+(R+1)]? = _
   rw [wHs_U hs hi]; exact ho
  ·have hi:i<R+1:=by have:=(List.getElem?_eq_some_iff.1 ho).1; rwa [mB_len,hs.v.len] at this
   rw [if_neg (by omega),show i+(m+2 * R+3) - m=(i+(2 * R+2))+1 by omega]
   show (wHs R c M U V (m+1) (m+R+2) (m+2 * R+3))[i+(2 * R+2)]? = _
   rw [wHs_V hs hi]; exact ho
 have:=hW.get hs i ob ho
 rw [wNu_can] at this
 rwa [if_neg (by omega),Nat.add_sub_cancel_left] at this
theorem wk_outW {Γ:Nat→AV} {H:Nat→Option HO} {n b p q r R c:Nat} {M U V:List (List Int)} (hW:HW H b p q r R c M U V) (hs:WS R c M U V) (hn:n≠0) (h1:b<p∨r+R<b) (h2:p+R<q) (h3:q+R<r) :
  ∀ m,0<m→∃ ρ,Wk ⟨upd Γ 0 (.ptr b 0),H,n⟩ (outS (fun m=>.ptr m 0) (wOut R c M U V) m) ρ:=by
 intro m hm0
 have hl:=wOut_len hs m
 have hin:∀ i,i<3 * R+4→(outS (fun m=>.ptr m 0) (wOut R c M U V) m).H (i+m)=(wOut R c M U V m)[i]? := fun i h=>by
  simp only [outS,extB]
  rw [if_pos ⟨by omega,by rw [hl]; omega⟩,Nat.add_sub_cancel]
 have hout:∀ id,¬ (m≤id∧id<m+(3 * R+4))→(outS (fun m=>.ptr m 0) (wOut R c M U V) m).H id=none:=fun id h=>by
  simp only [outS,extB]
  rw [if_neg (by rw [hl]; exact h)]
 have hsome:∀ id,((outS (fun m=>.ptr m 0) (wOut R c M U V) m).H id).isSome=true→∃ i,id=i+m∧i<3 * R+4:=fun id h=>by
  by_cases hr:m≤id∧id<m+(3 * R+4)
  ·exact ⟨id - m,by omega,by omega⟩
  ·rw [hout id hr] at h; cases h
 have hget:∀ i,i<3 * R+4→((outS (fun m=>.ptr m 0) (wOut R c M U V) m).H (i+m)).isSome=true:=fun i h=>by
  rw [hin i h,List.getElem?_eq_getElem (by rw [hl]; exact h)]; rfl
 refine ⟨fun id=>wNu b p q r R (id - m),fun id hid=>hout id (by simp only [outS] at hid; rw [hl] at hid; omega),fun t=>?_,fun id o' ho=>?_,fun id id' g1 g2 e=>?_,fun h=>?_,fun h=>?_⟩
 ·show Sub _ _ _ _ (upd (fun _=>.any) 0 (.ptr m 0) t)
  by_cases e:t=0
  ·subst e
   simp only [upd_same]
   refine ⟨?_,rfl,by have:=hget 0 (by omega); rwa [Nat.zero_add] at this⟩
   show b=wNu b p q r R (m - m)
   rw [Nat.sub_self]; rfl
  ·rw [upd_ne _ _ e]; exact sub_any _
 ·obtain ⟨i,rfl,hi⟩:=hsome id (by rw [ho]; rfl)
  rw [hin i hi] at ho
  simp only [Nat.add_sub_cancel]
  have hl4:i<(wR0 R c::wH R c M U V).length:=by rw [List.length_cons,show (wH R c M U V).length=3 * R+3 from wHs_len hs _ _ _]; omega
  obtain ⟨ob,hob⟩:∃ ob,(wR0 R c::wH R c M U V)[i]? = some ob:=⟨_,List.getElem?_eq_getElem hl4⟩
  rw [wOut_get hs hob] at ho
  injection ho with ho
  rw [← ho]
  refine ⟨_,hW.get hs i ob hob,rf_ren (ν:=wNu b p q r R) (rf_wH hs ob (List.mem_of_getElem? hob)) fun id g1 g2=>⟨?_,?_⟩⟩
  ·rw [wNu_can,Nat.add_sub_cancel_left]
  ·rw [wNu_can,Nat.add_comm]; exact hget id g2
 ·obtain ⟨i,rfl,hi⟩:=hsome id g1
  obtain ⟨j,rfl,hj⟩:=hsome id' g2
  have e':wNu b p q r R (i+m - m)=wNu b p q r R (j+m - m):=e
  rw [Nat.add_sub_cancel,Nat.add_sub_cancel] at e'
  have:=wNu_inj h1 h2 h3 i j hi hj e'
  omega
 ·obtain ⟨i,hi,_⟩:=hsome 0 h; omega
 ·simp only [outS] at h; omega
set_option maxHeartbeats 8000000 in
set_option maxRecDepth 10000 in
theorem r12Start {R c:Nat} {A:List (List Int)} (hA:Sh R c A) (hR:R≤1000) (hc:c≤1000) (hAs:∀ v∈A,∀ z∈v,Sz z) :
  NSpec Tryz.prog 170 [encMat R c A] (fun m=>.ptr m 0) (wOut R c A (idM R) (idM R)):=by
 refine nspec_of (N:=13) follows_mixed Tryz.func170 rfl rfl rfl (by decide) (by kernel_rfl) (by kernel_rfl) (by simp) rfl ?_
 have hN1:=r05Copied hA hR hc hAs
 have hN2:=r05Identity R hR
 have hl:∀ m,(mB c A m).length=R+1:=fun m=>by rw [mB_len,hA.len]
 have hl2:∀ m,(mB R (idM R) m).length=R+1:=fun m=>by rw [mB_len,show (idM R).length=R from (mk_sh _ _ _).len]
 simp (maxSteps:=1000000) [-map_map,-mapM_map,↓KW,encMat]
 refine o1_ncall [encMat R c A] (nwV R c) (mB c A) (by simp) (by simp) (by simp) (by rfl) (by rfl) hN1 ?_
 have hne1:¬ 2≤1:=by omega
 have hne2:¬ 2+(R+1)≤1:=by omega
 have hne3:¬ 2+(R+1)+(R+1)≤1:=by omega
 simp (maxSteps:=1000000) [-map_map,-mapM_map,↓KW,nwV,hl,extB,hne1]
 refine o1_ncall [.i .i64 (R:Int)] (nwV R R) (mB R (idM R)) (by simp) (by simp) (show 0<2+(R+1) by omega) (by rfl) (by rfl) hN2 ?_
 simp (maxSteps:=1000000) [-map_map,-mapM_map,↓KW,nwV,hl,hl2,extB,hne1,hne2]
 refine o1_ncall [.i .i64 (R:Int)] (nwV R R) (mB R (idM R)) (by simp) (by simp) (show 0<2+(R+1)+(R+1) by omega) (by rfl) (by rfl) hN2 ?_
 simp (maxSteps:=1000000) [-map_map,-mapM_map,↓KW,nwV,hl,hl2,extB,hne1,hne2,hne3]
 have hs:WS R c A (idM R) (idM R):=⟨hA,mk_sh _ _ _,mk_sh _ _ _⟩
 refine wk_outW (b:=2+(R+1)+(R+1)+(R+1)) (p:=2) (q:=2+(R+1)) (r:=2+(R+1)+(R+1)) ?_ hs (Nat.succ_ne_zero _) (by omega) (by omega) (by omega)
 refine ⟨by rw [upd_same]; rfl,fun i o ho=>?_,fun i o ho=>?_,fun i o ho=>?_⟩
 ·have hi:i<R+1:=by have:=(List.getElem?_eq_some_iff.1 ho).1; rwa [hl] at this
  simp only [upd,extB,hl,hl2]
  rw [if_neg (by omega),if_neg (by omega),if_neg (by omega),if_pos (by omega),Nat.add_sub_cancel]; exact ho
 ·have hi:i<R+1:=by have:=(List.getElem?_eq_some_iff.1 ho).1; rwa [hl2] at this
  simp only [upd,extB,hl,hl2]
  rw [if_neg (by omega),if_neg (by omega),if_pos (by omega),Nat.add_sub_cancel]; exact ho
 ·have hi:i<R+1:=by have:=(List.getElem?_eq_some_iff.1 ho).1; rwa [hl2] at this
  simp only [upd,extB,hl,hl2]
  rw [if_neg (by omega),if_pos (by omega),Nat.add_sub_cancel]; exact ho
end Go.Am
end

section
set_option linter.unusedVariables false
set_option linter.unusedSimpArgs false
open Go Go.Am Go.Proofs
namespace Go.Am
def aL (R c:Nat) (M U V:List (List Int)) (x:List HO):List HO:=[wR0 R c]++mB c M 1++(mB R U (R+2)++mB R V (2 * R+3)++x)
def aH (R c:Nat) (M U V:List (List Int)) (x:List HO):Nat→Option HO:=famH 0 (aL R c M U V x)
theorem aL_U (R c:Nat) (M U V:List (List Int)) (x:List HO):aL R c M U V x=(wR0 R c::mB c M 1)++mB R U (R+2)++(mB R V (2 * R+3)++x):=by simp [aL]
theorem aL_V (R c:Nat) (M U V:List (List Int)) (x:List HO):aL R c M U V x=(wR0 R c::(mB c M 1++mB R U (R+2)))++mB R V (2 * R+3)++x:=by simp [aL]
theorem aL_eq (R c:Nat) (M U V:List (List Int)) (x:List HO):aL R c M U V x=wR0 R c::(wH R c M U V++x):=by simp [aL,wH,wHs]
variable {R c:Nat} {M U V:List (List Int)} {x:List HO}
theorem aL_len (hs:WS R c M U V):(aL R c M U V x).length=3 * R+4+x.length:=by
 rw [aL_eq,List.length_cons,List.length_append,show (wH R c M U V).length=3 * R+3 from wHs_len hs _ _ _]; omega
theorem aH_updM {i:Nat} {v:List Int} (hs:WS R c M U V) (hi:i<R):upd (aH R c M U V x) (i+2) (some (.cells 69 ((vcs v).map .d)))=aH R c (M.set i v) U V x :=
 upd_fam (m:=1) rfl (by rw [hs.m.len]; exact hi)
theorem aH_updU {i:Nat} {v:List Int} (hs:WS R c M U V) (hi:i<R):upd (aH R c M U V x) (i+(R+3)) (some (.cells 69 ((vcs v).map .d)))=aH R c M (U.set i v) V x:=by
 unfold aH
 rw [aL_U,aL_U]
 exact upd_fam (m:=R+2) (by rw [List.length_cons,mB_len,hs.m.len] <;> omega) (by rw [hs.u.len]; exact hi)
theorem aH_updV {i:Nat} {v:List Int} (hs:WS R c M U V) (hi:i<R):upd (aH R c M U V x) (i+(2 * R+4)) (some (.cells 69 ((vcs v).map .d)))=aH R c M U (V.set i v) x:=by
 unfold aH
 rw [aL_V,aL_V]
 exact upd_fam (m:=2 * R+3) (by rw [List.length_cons,List.length_append,mB_len,mB_len,hs.m.len,hs.u.len]; omega) (by rw [hs.v.len]; exact hi)
theorem aH_root:aH R c M U V x 0=some (wR0 R c):=rfl
theorem aH_hM (hs:WS R c M U V):aH R c M U V x 1=some (.cells 112 (hdr c R 2)):=by
 have:=fam_hdr (b:=0) (c:=c) (m:=1) (pre:=[wR0 R c]) (M:=M) (post:=mB R U (R+2)++mB R V (2 * R+3)++x) rfl
 rwa [hs.m.len] at this
theorem aH_hU (hs:WS R c M U V):aH R c M U V x (R+2)=some (.cells 112 (hdr R R (R+3))):=by
 have:=fam_hdr (b:=0) (c:=R) (m:=R+2) (pre:=wR0 R c::mB c M 1) (M:=U) (post:=mB R V (2 * R+3)++x) (by rw [List.length_cons,mB_len,hs.m.len] <;> omega)
 rw [← aL_U,hs.u.len] at this
 exact this
theorem aH_hV (hs:WS R c M U V):aH R c M U V x (2 * R+3)=some (.cells 112 (hdr R R (2 * R+4))):=by
 have:=fam_hdr (b:=0) (c:=R) (m:=2 * R+3) (pre:=wR0 R c::(mB c M 1++mB R U (R+2))) (M:=V) (post:=x) (by rw [List.length_cons,List.length_append,mB_len,mB_len,hs.m.len,hs.u.len]; omega)
 rw [← aL_V,hs.v.len] at this
 exact this
theorem aH_rM {i:Nat} {v:List Int} (hv:M[i]? = some v):aH R c M U V x (i+2)=some (.cells 69 ((vcs v).map .d)):=fam_row (m:=1) rfl hv
theorem aH_rU {i:Nat} {v:List Int} (hs:WS R c M U V) (hv:U[i]? = some v):aH R c M U V x (i+(R+3))=some (.cells 69 ((vcs v).map .d)):=by
 unfold aH
 rw [aL_U]
 exact fam_row (m:=R+2) (by rw [List.length_cons,mB_len,hs.m.len] <;> omega) hv
theorem aH_rV {i:Nat} {v:List Int} (hs:WS R c M U V) (hv:V[i]? = some v):aH R c M U V x (i+(2 * R+4))=some (.cells 69 ((vcs v).map .d)):=by
 unfold aH
 rw [aL_V]
 exact fam_row (m:=2 * R+3) (by rw [List.length_cons,List.length_append,mB_len,mB_len,hs.m.len,hs.u.len]; omega) hv
theorem aH_x (hs:WS R c M U V) {i:Nat} {o:HO} (ho:x[i]? = some o):aH R c M U V x (i+(3 * R+4))=some o:=by
 unfold aH famH
 rw [if_neg (by omega),aL_eq,Nat.sub_zero,show i+(3 * R+4)=(i+(3 * R+3))+1 by omega,List.getElem?_cons_succ,List.getElem?_append_right (by rw [show (wH R c M U V).length=3 * R+3 from wHs_len hs _ _ _]; omega),
  show (wH R c M U V).length=3 * R+3 from wHs_len hs _ _ _,Nat.add_sub_cancel]; exact ho
theorem aH_self (hs:WS R c M U V) (hx:∀ o∈x,rfO 0 0 o=true) {H:Nat→Option HO} {id:Nat} {o:HO} (ho:aH R c M U V x id=some o):SubO H (aH R c M U V x) (fun i=>i) o o:=by
 refine fam_self (fun o ho=>?_) ho
 rw [aL_len hs]
 rw [aL_eq,List.mem_cons,List.mem_append] at ho
 rcases ho with ho | ho | ho
 ·exact rfO_mono (Nat.zero_le _) (by omega) (rf_wH hs o (by rw [ho]; exact List.mem_cons_self ..))
 ·exact rfO_mono (Nat.zero_le _) (by omega) (rf_wH hs o (List.mem_cons_of_mem _ ho))
 ·exact rfO_mono (Nat.zero_le _) (Nat.zero_le _) (hx o ho)
theorem aH_top (hs:WS R c M U V) {id:Nat} (h:3 * R+4+x.length≤id):aH R c M U V x id=none:=famH_top (by rw [aL_len hs]; omega)
theorem aH_some (hs:WS R c M U V) {id:Nat} (h:id<3 * R+4+x.length):(aH R c M U V x id).isSome=true:=famH_some (Nat.zero_le _) (by rw [aL_len hs]; omega)
theorem aH_end {Γ:Nat→AV} {n:Nat} (hs:WS R c M U V) (hn:n≠0):∃ ρ,Wk ⟨Γ,aH R c M U V x,n⟩ (StL [] (some (wR0 R c)) (wH R c M U V)) ρ:=by
 have hH:∀ id,(StL [] (some (wR0 R c)) (wH R c M U V)).H id=(wR0 R c::wH R c M U V)[id]? := fun id=>by
  cases id with
  | zero=>rw [StL_H0]; rfl
  | succ i=>rw [StL_Hs,List.getElem?_cons_succ]
 have hl:(wR0 R c::wH R c M U V).length=3 * R+4:=by rw [List.length_cons,show (wH R c M U V).length=3 * R+3 from wHs_len hs _ _ _]
 have hsome:∀ id,id<3 * R+4→((StL [] (some (wR0 R c)) (wH R c M U V)).H id).isSome=true:=fun id h=>by
  rw [hH,List.getElem?_eq_getElem (by rw [hl]; exact h)]; rfl
 refine ⟨fun i=>i,fun id hid=>?_,fun t=>?_,fun id o' ho=>?_,fun _ _ _ _ e=>e,fun _=>rfl,fun h=>?_⟩
 ·rw [hH]
  refine List.getElem?_eq_none ?_
  rw [hl]
  simp only [StL,show (wH R c M U V).length=3 * R+3 from wHs_len hs _ _ _] at hid
  omega
 ·show Sub _ _ _ _ (sltF [] t)
  exact sub_any _
 ·rw [hH] at ho
  have hlt:=(List.getElem?_eq_some_iff.1 ho).1
  refine ⟨o',?_,rf_self (rf_wH hs o' (List.mem_of_getElem? ho)) fun id _ h2=>⟨rfl,hsome id h2⟩⟩
  show famH 0 _ id=_
  unfold famH
  rw [if_neg (by omega),aL_eq,Nat.sub_zero,← List.cons_append,List.getElem?_append_left hlt]; exact ho
 ·simp [StL] at h
theorem digs_mul_le {x y:Int} {a b:Nat} (h1:(digs x.natAbs).length≤a) (h2:(digs y.natAbs).length≤b):(digs (x * y).natAbs).length≤a+b:=by
 have e1:=lt_of_digs_len h1
 have e2:=lt_of_digs_len h2
 refine digs_len_le ?_
 rw [Int.natAbs_mul,Nat.pow_add]
 exact Nat.mul_lt_mul'' e1 e2
def Sy (z:Int):Prop:=(digs z.natAbs).length≤68719476736
def SyM (M:List (List Int)):Prop:=∀ v∈M,∀ z∈v,Sy z
theorem SyM.ent {M:List (List Int)} (h:SyM M) (r s:Nat):Sy (ent M r s):=by
 unfold Am.ent
 by_cases hr:r<M.length
 ·rw [List.getD_eq_getElem?_getD (l:=M),List.getElem?_eq_getElem hr]
  simp only [Option.getD_some]
  by_cases hs:s<M[r].length
  ·rw [List.getD_eq_getElem?_getD,List.getElem?_eq_getElem hs]
   exact h _ (List.getElem_mem hr) _ (List.getElem_mem hs)
  ·rw [List.getD_eq_getElem?_getD,List.getElem?_eq_none (by omega)]
   show (digs 0).length≤_
   rw [digs_zero]; simp
 ·rw [List.getD_eq_getElem?_getD (l:=M),List.getElem?_eq_none (by omega)]
  show (digs 0).length≤_
  rw [digs_zero]; simp
end Go.Am
end

section
set_option linter.unusedVariables false
set_option linter.unusedSimpArgs false
open Go Go.Am Go.Proofs
namespace Go.Am
/-! Sums -/
def sgm:Nat→(Nat→Int)→Int
 | 0,_=>0
 | n+1,f=>sgm n f+f n
theorem sgm_congr {n:Nat} {f g:Nat→Int} (h:∀ j,j<n→f j=g j):sgm n f=sgm n g:=by
 induction n with
 | zero=>rfl
 | succ n ih=>simp only [sgm]; rw [ih fun j hj=>h j (by omega),h n (by omega)]
theorem sgm_add (n:Nat) (f g:Nat→Int):sgm n (fun j=>f j+g j)=sgm n f+sgm n g:=by
 induction n with
 | zero=>rfl
 | succ n ih=>simp only [sgm]; rw [ih]; omega
theorem sgm_mul (n:Nat) (k:Int) (f:Nat→Int):sgm n (fun j=>k * f j)=k * sgm n f:=by
 induction n with
 | zero=>simp [sgm]
 | succ n ih=>simp only [sgm]; rw [ih,Int.mul_add]
theorem sgm_zero (n:Nat):sgm n (fun _=>0)=0:=by
 induction n with
 | zero=>rfl
 | succ n ih=>simp only [sgm]; rw [ih]; rfl
theorem sgm_one {n k:Nat} (hk:k<n) (f:Nat→Int):sgm n (fun j=>(if j=k then 1 else 0) * f j)=f k:=by
 induction n with
 | zero=>omega
 | succ n ih =>
  simp only [sgm]
  by_cases e:k=n
  ·subst e
   rw [if_pos rfl,sgm_congr (g:=fun _=>0) fun j hj=>by rw [if_neg (by omega)]; simp,sgm_zero]; simp
  ·rw [ih (by omega),if_neg (fun h=>e h.symm)]; simp
/-! The work's operations -/
structure W3 where
 M:List (List Int)
 U:List (List Int)
 V:List (List Int)
def addF (M:List (List Int)) (i j:Nat) (k:Int) (s r t:Nat):Int:=if r=i∧t<s then ent M i t+k * ent M j t else ent M r t
def addC (V:List (List Int)) (i j:Nat) (k:Int) (s r t:Nat):Int:=if t=j∧r<s then ent V r j - k * ent V r i else ent V r t
def rowA (R c:Nat) (M:List (List Int)) (i j:Nat) (k:Int):List (List Int):=mk R c (addF M i j k c)
def addV (R:Nat) (V:List (List Int)) (i j:Nat) (k:Int):List (List Int):=mk R R (addC V i j k R)
def swp (i j r:Nat):Nat:=if r=i then j else if r=j then i else r
def swR (R c:Nat) (M:List (List Int)) (i j:Nat):List (List Int):=mk R c fun r t=>ent M (swp i j r) t
def swC (V:List (List Int)) (i j:Nat) (s r t:Nat):Int:=if r<s then ent V r (swp i j t) else ent V r t
def swV (R:Nat) (V:List (List Int)) (i j:Nat):List (List Int):=mk R R (swC V i j R)
def ngF (M:List (List Int)) (i:Nat) (s r t:Nat):Int:=if r=i∧t<s then - ent M i t else ent M r t
def ngC (V:List (List Int)) (i:Nat) (s r t:Nat):Int:=if t=i∧r<s then - ent V r i else ent V r t
def ngR (R c:Nat) (M:List (List Int)) (i:Nat):List (List Int):=mk R c (ngF M i c)
def ngV (R:Nat) (V:List (List Int)) (i:Nat):List (List Int):=mk R R (ngC V i R)
def W3.add (R c:Nat) (w:W3) (i j:Nat) (k:Int):W3:=⟨rowA R c w.M i j k,rowA R R w.U i j k,addV R w.V i j k⟩
def W3.sw (R c:Nat) (w:W3) (i j:Nat):W3:=⟨swR R c w.M i j,swR R R w.U i j,swV R w.V i j⟩
def W3.ng (R c:Nat) (w:W3) (i:Nat):W3:=⟨ngR R c w.M i,ngR R R w.U i,ngV R w.V i⟩
def W3.sh (R c:Nat) (w:W3):Prop:=WS R c w.M w.U w.V
theorem W3.add_sh (R c:Nat) (w:W3) (i j:Nat) (k:Int):(w.add R c i j k).sh R c:=⟨mk_sh _ _ _,mk_sh _ _ _,mk_sh _ _ _⟩
theorem W3.sw_sh (R c:Nat) (w:W3) (i j:Nat):(w.sw R c i j).sh R c:=⟨mk_sh _ _ _,mk_sh _ _ _,mk_sh _ _ _⟩
theorem W3.ng_sh (R c:Nat) (w:W3) (i:Nat):(w.ng R c i).sh R c:=⟨mk_sh _ _ _,mk_sh _ _ _,mk_sh _ _ _⟩
theorem swp_lt {R i j r:Nat} (hi:i<R) (hj:j<R) (hr:r<R):swp i j r<R:=by
 unfold swp; split
 ·exact hj
 ·split
  ·exact hi
  ·exact hr
theorem swp_swp (i j r:Nat):swp i j (swp i j r)=r:=by
 unfold swp
 by_cases h1:r=i
 ·rw [if_pos h1]; by_cases h2:j=i
  ·rw [if_pos h2,h1,h2]
  ·rw [if_neg h2,if_pos rfl,h1]
 ·rw [if_neg h1]
  by_cases h2:r=j
  ·rw [if_pos h2,if_pos rfl,h2]
  ·rw [if_neg h2,if_neg h1,if_neg h2]
theorem ent_rowA {R c i j r t:Nat} {M:List (List Int)} {k:Int} (hr:r<R) (ht:t<c):ent (rowA R c M i j k) r t=if r=i then ent M i t+k * ent M j t else ent M r t:=by
 unfold rowA; rw [mk_ent _ hr ht]; unfold addF
 by_cases e:r=i
 ·rw [if_pos ⟨e,ht⟩,if_pos e]
 ·rw [if_neg (fun h=>e h.1),if_neg e]
theorem ent_addV {R i j r t:Nat} {V:List (List Int)} {k:Int} (hr:r<R) (ht:t<R):ent (addV R V i j k) r t=if t=j then ent V r j - k * ent V r i else ent V r t:=by
 unfold addV; rw [mk_ent _ hr ht]; unfold addC
 by_cases e:t=j
 ·rw [if_pos ⟨e,hr⟩,if_pos e]
 ·rw [if_neg (fun h=>e h.1),if_neg e]
theorem ent_swR {R c i j r t:Nat} {M:List (List Int)} (hr:r<R) (ht:t<c):ent (swR R c M i j) r t=ent M (swp i j r) t:=by unfold swR; rw [mk_ent _ hr ht]
theorem ent_swV {R i j r t:Nat} {V:List (List Int)} (hr:r<R) (ht:t<R):ent (swV R V i j) r t=ent V r (swp i j t):=by unfold swV; rw [mk_ent _ hr ht]; unfold swC; rw [if_pos hr]
theorem ent_ngR {R c i r t:Nat} {M:List (List Int)} (hr:r<R) (ht:t<c):ent (ngR R c M i) r t=if r=i then - ent M i t else ent M r t:=by
 unfold ngR; rw [mk_ent _ hr ht]; unfold ngF
 by_cases e:r=i
 ·rw [if_pos ⟨e,ht⟩,if_pos e]
 ·rw [if_neg (fun h=>e h.1),if_neg e]
theorem ent_ngV {R i r t:Nat} {V:List (List Int)} (hr:r<R) (ht:t<R):ent (ngV R V i) r t=if t=i then - ent V r i else ent V r t:=by
 unfold ngV; rw [mk_ent _ hr ht]; unfold ngC
 by_cases e:t=i
 ·rw [if_pos ⟨e,hr⟩,if_pos e]
 ·rw [if_neg (fun h=>e h.1),if_neg e]
/-! U A = M is kept -/
def PrEq (R c n:Nat) (U A M:List (List Int)):Prop:=∀ r t,r<R→t<c→sgm n (fun j=>ent U r j * ent A j t)=ent M r t
theorem PrEq.add {R c:Nat} {U A M:List (List Int)} {i j:Nat} {k:Int} (h:PrEq R c R U A M) (hi:i<R) (hj:j<R):PrEq R c R (rowA R R U i j k) A (rowA R c M i j k):=by
 intro r t hr ht
 rw [ent_rowA hr ht]
 by_cases e:r=i
 ·rw [if_pos e,← h i t hi ht,← h j t hj ht,← sgm_mul,← sgm_add]
  exact sgm_congr fun q hq=>by rw [ent_rowA hr hq,if_pos e,Int.add_mul,Int.mul_assoc]
 ·rw [if_neg e,← h r t hr ht]
  exact sgm_congr fun q hq=>by rw [ent_rowA hr hq,if_neg e]
theorem PrEq.sw {R c:Nat} {U A M:List (List Int)} {i j:Nat} (h:PrEq R c R U A M) (hi:i<R) (hj:j<R):PrEq R c R (swR R R U i j) A (swR R c M i j):=by
 intro r t hr ht
 rw [ent_swR hr ht,← h _ t (swp_lt hi hj hr) ht]
 exact sgm_congr fun q hq=>by rw [ent_swR hr hq]
theorem PrEq.ng {R c:Nat} {U A M:List (List Int)} {i:Nat} (h:PrEq R c R U A M) (hi:i<R):PrEq R c R (ngR R R U i) A (ngR R c M i):=by
 intro r t hr ht
 rw [ent_ngR hr ht]
 by_cases e:r=i
 ·rw [if_pos e,← h i t hi ht,show - sgm R (fun j=>ent U i j * ent A j t)=(-1) * sgm R (fun j=>ent U i j * ent A j t) by omega,← sgm_mul]
  exact sgm_congr fun q hq=>by rw [ent_ngR hr hq,if_pos e,← Int.mul_assoc]; congr 1; omega
 ·rw [if_neg e,← h r t hr ht]
  exact sgm_congr fun q hq=>by rw [ent_ngR hr hq,if_neg e]
/-! What Form does -/
def Sd (z:Int):Prop:=(digs z.natAbs).length≤34359738368
def SdM (M:List (List Int)):Prop:=∀ r t,Sd (ent M r t)
structure Ok (R c:Nat) (w:W3):Prop where
 sh:w.sh R c
 m:SdM w.M
 u:SdM w.U
 v:SdM w.V
def euT (R c col top i:Nat) (w:W3):W3:=if ent w.M top col=0 then w else w.add R c top i (-(ent w.M top col / ent w.M i col))
def euS (R c col top i:Nat) (w:W3):W3:=(euT R c col top i w).sw R c top i
inductive Eu (R c col top i:Nat):W3→W3→Prop where
 | done (w:W3) (ok:Ok R c w) (h:ent w.M i col=0):Eu R c col top i w w
 | go (w w':W3) (ok:Ok R c w) (h:ent w.M i col≠0) (h2:Eu R c col top i (euS R c col top i w) w'):Eu R c col top i w w'
inductive Ei (R c col top:Nat):Nat→W3→W3→Prop where
 | done (i:Nat) (w:W3) (ok:Ok R c w) (h:i=R):Ei R c col top i w w
 | go (i:Nat) (w w1 w2:W3) (h:i<R) (h1:Eu R c col top i w w1) (h2:Ei R c col top (i+1) w1 w2):Ei R c col top i w w2
def rdS (R c col top i:Nat) (w:W3):W3:=w.add R c i top (-(ent w.M i col / ent w.M top col))
inductive Rd (R c col top:Nat):Nat→W3→W3→Prop where
 | done (i:Nat) (w:W3) (ok:Ok R c w) (h:i=top):Rd R c col top i w w
 | go (i:Nat) (w w2:W3) (ok:Ok R c w) (h:i<top) (h2:Rd R c col top (i+1) (rdS R c col top i w) w2):Rd R c col top i w w2
def ngS (R c col top:Nat) (w:W3):W3:=if ent w.M top col<0 then w.ng R c top else w
inductive Fo (R c:Nat):Nat→Nat→W3→W3→Prop where
 | done (col top:Nat) (w:W3) (ok:Ok R c w) (h:¬ (col<c∧top<R)):Fo R c col top w w
 | zero (col top:Nat) (w w1 w2:W3) (h1:col<c) (h2:top<R) (h3:Ei R c col top (top+1) w w1) (h4:ent w1.M top col=0) (h5:Fo R c (col+1) top w1 w2):Fo R c col top w w2
 | piv (col top:Nat) (w w1 w2 w3:W3) (h1:col<c) (h2:top<R) (h3:Ei R c col top (top+1) w w1) (h4:ent w1.M top col≠0) (h5:Rd R c col top 0 (ngS R c col top w1) w2) (h6:Fo R c (col+1) (top+1) w2 w3):Fo R c col top w w3
/-! Bounds -/
theorem Sd_of {z:Int} {E:Nat} (h:z.natAbs≤2 ^ E) (k:Nat) (hE:E<32 * k):(digs z.natAbs).length≤k:=by
 refine digs_len_le (Nat.lt_of_le_of_lt h ?_)
 rw [show (4294967296:Nat)=2 ^ 32 from rfl,← Nat.pow_mul]
 exact Nat.pow_lt_pow_right (by omega) hE
def Be (e:Nat) (M:List (List Int)):Prop:=∀ r t,(ent M r t).natAbs≤2 ^ e
theorem Be.mono {e e':Nat} {M:List (List Int)} (h:Be e M) (he:e≤e'):Be e' M:=fun r t=>Nat.le_trans (h r t) (Nat.pow_le_pow_right (by omega) he)
theorem Be.sd {e:Nat} {M:List (List Int)} (h:Be e M) (he:e<1099511627776):SdM M:=fun r t=>Sd_of (h r t) _ (by omega)
theorem Be.of {R c e:Nat} {M:List (List Int)} (hs:Sh R c M) (h:∀ r t,r<R→t<c→(ent M r t).natAbs≤2 ^ e):Be e M:=fun r t=>by
 by_cases hr:r<R∧t<c
 ·exact h r t hr.1 hr.2
 ·rw [ent_out hs hr]; exact Nat.zero_le _
structure B3 (e:Nat) (w:W3):Prop where
 m:Be e w.M
 u:Be e w.U
 v:Be e w.V
theorem B3.mono {e e':Nat} {w:W3} (h:B3 e w) (he:e≤e'):B3 e' w:=⟨h.m.mono he,h.u.mono he,h.v.mono he⟩
theorem B3.ok {R c e:Nat} {w:W3} (h:B3 e w) (hs:w.sh R c) (he:e<1099511627776):Ok R c w:=⟨hs,h.m.sd he,h.u.sd he,h.v.sd he⟩
def phi (a b x y:Int):Nat:=(if y<0 then 3 else 1) * (a.natAbs * y.natAbs+b.natAbs * x.natAbs+(if x<0 then 2 * (b.natAbs * y.natAbs) else 0))
theorem div_abs (x y:Int) (hy:y≠0):(x / y).natAbs * y.natAbs+(x % y).natAbs≤x.natAbs+(if x<0 then 2 * (x % y).natAbs else 0):=by
 have h1:=Int.mul_ediv_add_emod x y
 have h2:=Int.emod_nonneg x hy
 have h3:=Int.emod_lt x hy
 have h4:0≤x→x % y≤x:=fun hx=>by
  obtain ⟨n,rfl⟩:∃ n:Nat,x=n:=⟨x.toNat,by omega⟩
  show ((n % y.natAbs:Nat):Int)≤n
  have:=Nat.mod_le n y.natAbs; omega
 have h5:(x / y).natAbs * y.natAbs=(x - x % y).natAbs:=by rw [← Int.natAbs_mul,Int.mul_comm]; congr 1; omega
 rw [h5]
 split <;> omega
theorem phi_step {a b x y a':Int} (hy:y≠0) (ha:a'.natAbs≤a.natAbs+(x / y).natAbs * b.natAbs):phi b a' y (x % y)≤phi a b x y:=by
 have h1:=div_abs x y hy
 have h2:=Int.emod_nonneg x hy
 have h3:(x % y).natAbs≤y.natAbs:=by have:=Int.emod_lt x hy; omega
 generalize x % y=r at *
 have hr:¬ r<0:=by omega
 unfold phi
 rw [if_neg hr]
 generalize (x / y).natAbs=q at *
 generalize a'.natAbs=A' at *
 generalize a.natAbs=A at *
 generalize b.natAbs=B at *
 generalize hr2:r.natAbs=r' at *
 generalize hy2:y.natAbs=y' at *
 generalize hx2:x.natAbs=x' at *
 -- T = A y' + B x' + ..
 have k1:A' * y'≤A * y'+B * (q * y'):=by
  have:=Nat.mul_le_mul_right y' ha
  rw [Nat.add_mul] at this
  rw [show B * (q * y')=q * B * y' by rw [← Nat.mul_assoc,Nat.mul_comm B q]]
  exact this
 have k2:B * (q * y')+B * r'≤B * x'+(if x<0 then 2 * (B * y') else 0):=by
  rw [← Nat.mul_add]
  refine Nat.le_trans (Nat.mul_le_mul_left B h1) ?_
  rw [Nat.mul_add]
  split
  ·rw [show B * (2 * r')=2 * (B * r') by rw [Nat.mul_left_comm]]
   have:=Nat.mul_le_mul_left B h3
   omega
  ·simp
 have k3:A' * r'≤A' * y':=Nat.mul_le_mul_left A' h3
 generalize A' * r'=z1 at *
 generalize A' * y'=z2 at *
 generalize A * y'=z3 at *
 generalize B * (q * y')=z4 at *
 generalize B * r'=z5 at *
 generalize B * x'=z6 at *
 generalize B * y'=z7 at *
 split <;> split at k2 <;> simp_all <;> omega
theorem phi_init {a b x y:Int} {e:Nat} (ha:a.natAbs≤2 ^ e) (hb:b.natAbs≤2 ^ e) (hx:x.natAbs≤2 ^ e) (hy:y.natAbs≤2 ^ e):phi a b x y≤2 ^ (2 * e+4):=by
 have h1:=Nat.mul_le_mul ha hy
 have h2:=Nat.mul_le_mul hb hx
 have h3:=Nat.mul_le_mul hb hy
 rw [show 2 ^ (2 * e+4)=16 * (2 ^ e * 2 ^ e) by rw [Nat.pow_add,show 2 * e=e+e by omega,Nat.pow_add,Nat.mul_comm]]
 unfold phi
 split <;> split <;> omega
theorem phi_b {a b x y:Int} (hx:x≠0):b.natAbs≤phi a b x y:=by
 have:b.natAbs * 1≤b.natAbs * x.natAbs:=Nat.mul_le_mul_left _ (by omega)
 unfold phi
 split <;> omega
/-! The first loop inside -/
structure Gd (R c:Nat) (A:List (List Int)) (e col top:Nat) (w:W3):Prop where
 sh:w.sh R c
 b:B3 e w
 eq:PrEq R c R w.U A w.M
 low:∀ r t,top≤r→r<R→t<col→ent w.M r t=0
 hi:∀ r,r<top→∃ t,t<col∧ent w.M r t≠0
section
variable {R c col top i:Nat} {A:List (List Int)} {w:W3}
theorem euT_M {r t:Nat} (hr:r<R) (ht:t<c):ent (euT R c col top i w).M r t=if r=top then ent w.M top t - (ent w.M top col / ent w.M i col) * ent w.M i t else ent w.M r t:=by
 unfold euT
 split
 ·rename_i h; rw [h,Int.zero_ediv]; split
  ·rename_i e; rw [e]; simp
  ·rfl
 ·show ent (rowA R c w.M top i _) r t=_
  rw [ent_rowA hr ht]; split
  ·rw [Int.neg_mul]; rfl
  ·rfl
theorem euT_U {r t:Nat} (hr:r<R) (ht:t<R):ent (euT R c col top i w).U r t=if r=top then ent w.U top t - (ent w.M top col / ent w.M i col) * ent w.U i t else ent w.U r t:=by
 unfold euT
 split
 ·rename_i h; rw [h,Int.zero_ediv]; split
  ·rename_i e; rw [e]; simp
  ·rfl
 ·show ent (rowA R R w.U top i _) r t=_
  rw [ent_rowA hr ht]; split
  ·rw [Int.neg_mul]; rfl
  ·rfl
theorem euT_V {r t:Nat} (hr:r<R) (ht:t<R):ent (euT R c col top i w).V r t=if t=i then ent w.V r i+(ent w.M top col / ent w.M i col) * ent w.V r top else ent w.V r t:=by
 unfold euT
 split
 ·rename_i h; rw [h,Int.zero_ediv]; split
  ·rename_i e; rw [e]; simp
  ·rfl
 ·show ent (addV R w.V top i _) r t=_
  rw [ent_addV hr ht]; split
  ·rw [Int.neg_mul]; omega
  ·rfl
theorem euT_eq (h:PrEq R c R w.U A w.M) (ht:top<R) (hi:i<R):PrEq R c R (euT R c col top i w).U A (euT R c col top i w).M:=by
 unfold euT; split
 ·exact h
 ·exact h.add ht hi
theorem euS_eq (h:PrEq R c R w.U A w.M) (ht:top<R) (hi:i<R):PrEq R c R (euS R c col top i w).U A (euS R c col top i w).M:=(euT_eq h ht hi).sw ht hi
theorem euS_M (hti:top≠i) (htR:top<R) (hi:i<R) {r t:Nat} (hr:r<R) (ht:t<c):ent (euS R c col top i w).M r t=if r=top then ent w.M i t else if r=i then ent w.M top t - (ent w.M top col / ent w.M i col) * ent w.M i t else ent w.M r t:=by
 show ent (swR R c _ top i) r t=_
 rw [ent_swR hr ht,euT_M (swp_lt htR hi hr) ht]
 unfold swp
 by_cases e1:r=top
 ·rw [if_pos e1,if_pos e1,if_neg (fun h=>hti h.symm)]
 ·rw [if_neg e1,if_neg e1]
  by_cases e2:r=i
  ·rw [if_pos e2,if_pos e2,if_pos rfl]
  ·rw [if_neg e2,if_neg e2,if_neg e1]
theorem euS_U (hti:top≠i) (htR:top<R) (hi:i<R) {r t:Nat} (hr:r<R) (ht:t<R):ent (euS R c col top i w).U r t=if r=top then ent w.U i t else if r=i then ent w.U top t - (ent w.M top col / ent w.M i col) * ent w.U i t else ent w.U r t:=by
 show ent (swR R R _ top i) r t=_
 rw [ent_swR hr ht,euT_U (swp_lt htR hi hr) ht]
 unfold swp
 by_cases e1:r=top
 ·rw [if_pos e1,if_pos e1,if_neg (fun h=>hti h.symm)]
 ·rw [if_neg e1,if_neg e1]
  by_cases e2:r=i
  ·rw [if_pos e2,if_pos e2,if_pos rfl]
  ·rw [if_neg e2,if_neg e2,if_neg e1]
theorem euS_V (hti:top≠i) (htR:top<R) (hi:i<R) {r t:Nat} (hr:r<R) (ht:t<R):ent (euS R c col top i w).V r t=if t=top then ent w.V r i+(ent w.M top col / ent w.M i col) * ent w.V r top else if t=i then ent w.V r top else ent w.V r t:=by
 show ent (swV R _ top i) r t=_
 rw [ent_swV hr ht,euT_V hr (swp_lt htR hi ht)]
 unfold swp
 by_cases e1:t=top
 ·rw [if_pos e1,if_pos e1,if_pos rfl]
 ·rw [if_neg e1,if_neg e1]
  by_cases e2:t=i
  ·rw [if_pos e2,if_pos e2,if_neg hti]
  ·rw [if_neg e2,if_neg e2,if_neg e2]
end
section
variable {R c col top i e:Nat} {A:List (List Int)} {w:W3}
structure Ew (R c:Nat) (A:List (List Int)) (e col top i:Nat) (w:W3):Prop where
 g:Gd R c A (2 * e+4) col top w
 z:∀ r,top<r→r<i→ent w.M r col=0
 pm:∀ t,t<c→phi (ent w.M top t) (ent w.M i t) (ent w.M top col) (ent w.M i col)≤2 ^ (2 * e+4)
 pu:∀ t,t<R→phi (ent w.U top t) (ent w.U i t) (ent w.M top col) (ent w.M i col)≤2 ^ (2 * e+4)
 pv:∀ r,r<R→phi (ent w.V r i) (ent w.V r top) (ent w.M top col) (ent w.M i col)≤2 ^ (2 * e+4)
theorem Ew.init (g:Gd R c A e col top w) (z:∀ r,top<r→r<i→ent w.M r col=0):Ew R c A e col top i w :=
 ⟨⟨g.sh,g.b.mono (by omega),g.eq,g.low,g.hi⟩,z,fun t _=>phi_init (g.b.m _ _) (g.b.m _ _) (g.b.m _ _) (g.b.m _ _),fun t _=>phi_init (g.b.u _ _) (g.b.u _ _) (g.b.m _ _) (g.b.m _ _),fun t _=>phi_init (g.b.v _ _) (g.b.v _ _) (g.b.m _ _) (g.b.m _ _)⟩
theorem Ew.step (h:Ew R c A e col top i w) (hcol:col<c) (hti:top<i) (hiR:i<R) (hy:ent w.M i col≠0):Ew R c A e col top i (euS R c col top i w):=by
 have htR:top<R:=by omega
 have hne:top≠i:=by omega
 have hne':¬ i=top:=by omega
 have eM:=fun r t hr ht=>euS_M (w:=w) (c:=c) (col:=col) hne htR hiR (r:=r) (t:=t) hr ht
 have eU:=fun r t hr ht=>euS_U (w:=w) (c:=c) (col:=col) hne htR hiR (r:=r) (t:=t) hr ht
 have eV:=fun r t hr ht=>euS_V (w:=w) (c:=c) (col:=col) hne htR hiR (r:=r) (t:=t) hr ht
 have hsh:(euS R c col top i w).sh R c:=W3.sw_sh ..
 have hx1:ent (euS R c col top i w).M top col=ent w.M i col:=by rw [eM _ _ htR hcol,if_pos rfl]
 have hy1:ent (euS R c col top i w).M i col=ent w.M top col % ent w.M i col:=by
  rw [eM _ _ hiR hcol,if_neg hne',if_pos rfl]
  have:=Int.mul_ediv_add_emod (ent w.M top col) (ent w.M i col)
  rw [Int.mul_comm (ent w.M top col / _)]; omega
 have pm:∀ t,t<c→phi (ent (euS R c col top i w).M top t) (ent (euS R c col top i w).M i t) (ent w.M i col) (ent w.M top col % ent w.M i col)≤2 ^ (2 * e+4):=fun t ht=>by
  rw [eM _ _ htR ht,if_pos rfl,eM _ _ hiR ht,if_neg hne',if_pos rfl]
  refine Nat.le_trans (phi_step hy ?_) (h.pm t ht)
  rw [← Int.natAbs_mul]; omega
 have pu:∀ t,t<R→phi (ent (euS R c col top i w).U top t) (ent (euS R c col top i w).U i t) (ent w.M i col) (ent w.M top col % ent w.M i col)≤2 ^ (2 * e+4):=fun t ht=>by
  rw [eU _ _ htR ht,if_pos rfl,eU _ _ hiR ht,if_neg hne',if_pos rfl]
  refine Nat.le_trans (phi_step hy ?_) (h.pu t ht)
  rw [← Int.natAbs_mul]; omega
 have pv:∀ r,r<R→phi (ent (euS R c col top i w).V r i) (ent (euS R c col top i w).V r top) (ent w.M i col) (ent w.M top col % ent w.M i col)≤2 ^ (2 * e+4):=fun r hr=>by
  rw [eV _ _ hr htR,if_pos rfl,eV _ _ hr hiR,if_neg hne',if_pos rfl]
  refine Nat.le_trans (phi_step hy ?_) (h.pv r hr)
  rw [← Int.natAbs_mul]; omega
 refine ⟨⟨hsh,⟨.of hsh.m fun r t hr ht=>?_,.of hsh.u fun r t hr ht=>?_,.of hsh.v fun r t hr ht=>?_⟩,euS_eq h.g.eq htR hiR,fun r t h1 h2 h3=>?_,fun r hr=>?_⟩,fun r h1 h2=>?_,fun t ht=>by rw [hx1,hy1]; exact pm t ht,fun t ht=>by rw [hx1,hy1]; exact pu t ht,fun t ht=>by rw [hx1,hy1]; exact pv t ht⟩
 ·by_cases e2:r=i
  ·rw [e2]; exact Nat.le_trans (phi_b hy) (pm t ht)
  ·rw [eM _ _ hr ht]
   split
   ·exact h.g.b.m _ _
   ·exact h.g.b.m _ _
 ·by_cases e2:r=i
  ·rw [e2]; exact Nat.le_trans (phi_b hy) (pu t ht)
  ·rw [eU _ _ hr ht]
   split
   ·exact h.g.b.u _ _
   ·exact h.g.b.u _ _
 ·by_cases e2:t=top
  ·rw [e2]; exact Nat.le_trans (phi_b hy) (pv r hr)
  ·rw [eV _ _ hr ht,if_neg e2]
   split
   ·exact h.g.b.v _ _
   ·exact h.g.b.v _ _
 ·have hl:∀ r,top≤r→r<R→ent w.M r t=0:=fun r h1 h2=>h.g.low r t h1 h2 h3
  rw [eM _ _ h2 (by omega),hl i (by omega) hiR,hl top (by omega) htR,hl r h1 h2]
  split
  ·rfl
  ·split
   ·simp
   ·rfl
 ·obtain ⟨t,ht,h0⟩:=h.g.hi r hr
  exact ⟨t,ht,by rw [eM _ _ (by omega) (by omega),if_neg (by omega),if_neg (by omega)]; exact h0⟩
 ·rw [eM _ _ (by omega) hcol,if_neg (by omega),if_neg (by omega)]
  exact h.z r h1 h2
theorem eu_ex (hcol:col<c) (hti:top<i) (hiR:i<R) (he:2 * e+4<1099511627776):∀ (n:Nat) (w:W3),(ent w.M i col).natAbs≤n→Ew R c A e col top i w→∃ w',Eu R c col top i w w'∧Ew R c A e col top i w'∧ent w'.M i col=0
 | n,w,hn,h=>by
  have ok:Ok R c w:=h.g.b.ok h.g.sh he
  by_cases hy:ent w.M i col=0
  ·exact ⟨w,.done w ok hy,h,hy⟩
  ·have h1:=h.step hcol hti hiR hy
   have hy1:ent (euS R c col top i w).M i col=ent w.M top col % ent w.M i col:=by
    rw [euS_M (by omega) (by omega) hiR hiR hcol,if_neg (by omega),if_pos rfl]
    have:=Int.mul_ediv_add_emod (ent w.M top col) (ent w.M i col)
    rw [Int.mul_comm (ent w.M top col / _)]; omega
   have hlt:=Int.emod_lt (ent w.M top col) hy
   have hnn:=Int.emod_nonneg (ent w.M top col) hy
   cases n with
   | zero=>omega
   | succ n =>
    obtain ⟨w',e1,e2,e3⟩:=eu_ex hcol hti hiR he n _ (by rw [hy1]; omega) h1
    exact ⟨w',.go w w' ok hy e1,e2,e3⟩
theorem eu_top (hcol:col<c) (hti:top<i) (hiR:i<R) {w w':W3} (h:Eu R c col top i w w'):(w'=w∨ent w'.M top col≠0)∧(ent w.M top col≠0→ent w'.M top col≠0):=by
 induction h with
 | done w ok h=>exact ⟨.inl rfl,fun h=>h⟩
 | go w w' ok hy h2 ih =>
  have hx1:ent (euS R c col top i w).M top col≠0:=by rw [euS_M (by omega) (by omega) hiR (by omega) hcol,if_pos rfl]; exact hy
  exact ⟨.inr (ih.2 hx1),fun _=>ih.2 hx1⟩
def dbl:Nat→Nat→Nat
 | 0,e=>e
 | n+1,e=>dbl n (2 * e+4)
theorem dbl_eq:∀ n e,dbl n e+4=2 ^ n * (e+4)
 | 0,e=>by simp [dbl]
 | n+1,e=>by rw [dbl,dbl_eq n,Nat.pow_succ,Nat.mul_assoc]; congr 1
theorem dbl_le (n e:Nat):e≤dbl n e:=by
 have:=dbl_eq n e
 have h2:1 * (e+4)≤2 ^ n * (e+4):=Nat.mul_le_mul_right _ (Nat.one_le_two_pow)
 omega
theorem dbl_mono {n m e:Nat} (h:n≤m):dbl n e≤dbl m e:=by
 have h1:=dbl_eq n e
 have h2:=dbl_eq m e
 have:2 ^ n * (e+4)≤2 ^ m * (e+4):=Nat.mul_le_mul_right _ (Nat.pow_le_pow_right (by omega) h)
 omega
theorem dbl_dbl (n m e:Nat):dbl n (dbl m e)=dbl (m+n) e:=by
 have h1:=dbl_eq n (dbl m e)
 have h2:=dbl_eq m e
 have h3:=dbl_eq (m+n) e
 rw [h2,← Nat.mul_assoc,← Nat.pow_add,Nat.add_comm n m] at h1
 omega
theorem ei_ex (hcol:col<c) (hR:top<R):∀ (n i e:Nat) (w:W3),n+i=R→top<i→Gd R c A e col top w→(∀ r,top<r→r<i→ent w.M r col=0)→dbl n e<1099511627776 →
  ∃ w',Ei R c col top i w w'∧Gd R c A (dbl n e) col top w'∧(∀ r,top<r→r<R→ent w'.M r col=0)∧(w'=w∨ent w'.M top col≠0)∧(ent w.M top col≠0→ent w'.M top col≠0)
 | 0,i,e,w,hi,hti,g,z,hb=>⟨w,.done i w (g.b.ok g.sh hb) (by omega),g,fun r h1 h2=>z r h1 (by omega),.inl rfl,fun h=>h⟩
 | n+1,i,e,w,hi,hti,g,z,hb=>by
  have h1:2 * e+4<1099511627776:=Nat.lt_of_le_of_lt (dbl_le n (2 * e+4)) hb
  obtain ⟨w1,e1,e2,e3⟩:=eu_ex (A:=A) (e:=e) hcol hti (by omega:i<R) h1 _ w (Nat.le_refl _) (.init g z)
  have ht:=eu_top hcol hti (by omega) e1
  obtain ⟨w2,f1,f2,f3,f4,f5⟩:=ei_ex hcol hR n (i+1) (2 * e+4) w1 (by omega) (by omega) e2.g (fun r h1 h2=>if h:r=i then h ▸ e3 else e2.z r h1 (by omega)) hb
  refine ⟨w2,.go i w w1 w2 (by omega) e1 f1,f2,f3,?_,fun h=>f5 (ht.2 h)⟩
  rcases ht.1 with h | h
  ·subst h; exact f4
  ·exact .inr (f5 h)
end
section
variable {R c col top i e:Nat} {A:List (List Int)} {w:W3}
theorem ngS_gd (g:Gd R c A e col top w) (hcol:col<c) (hR:top<R):Gd R c A e col top (ngS R c col top w):=by
 unfold ngS
 split
 ·refine ⟨W3.ng_sh ..,⟨.of (mk_sh _ _ _) fun r t hr ht=>?_,.of (mk_sh _ _ _) fun r t hr ht=>?_,.of (mk_sh _ _ _) fun r t hr ht=>?_⟩,g.eq.ng hR,fun r t h1 h2 h3=>?_,fun r hr=>?_⟩
  ·show (ent (ngR R c w.M top) r t).natAbs≤_
   rw [ent_ngR hr ht]; split
   ·rw [Int.natAbs_neg]; exact g.b.m _ _
   ·exact g.b.m _ _
  ·show (ent (ngR R R w.U top) r t).natAbs≤_
   rw [ent_ngR hr ht]; split
   ·rw [Int.natAbs_neg]; exact g.b.u _ _
   ·exact g.b.u _ _
  ·show (ent (ngV R w.V top) r t).natAbs≤_
   rw [ent_ngV hr ht]; split
   ·rw [Int.natAbs_neg]; exact g.b.v _ _
   ·exact g.b.v _ _
  ·show ent (ngR R c w.M top) r t=0
   rw [ent_ngR h2 (by omega),g.low top t (Nat.le_refl _) hR h3,g.low r t h1 h2 h3]; split <;> rfl
  ·obtain ⟨t,h1,h2⟩:=g.hi r hr
   refine ⟨t,h1,?_⟩
   show ent (ngR R c w.M top) r t≠0
   rw [ent_ngR (by omega) (by omega),if_neg (by omega)]; exact h2
 ·exact g
theorem ngS_col (hcol:col<c) (hR:top<R) {r:Nat} (hr:r<R):(ent (ngS R c col top w).M r col=0↔ent w.M r col=0):=by
 unfold ngS
 split
 ·show ent (ngR R c w.M top) r col=0↔_
  rw [ent_ngR hr hcol]; split
  ·rename_i e; rw [e]; omega
  ·exact Iff.rfl
 ·exact Iff.rfl
structure Rv (R c:Nat) (A:List (List Int)) (e col top i:Nat) (w:W3):Prop where
 g:Gd R c A (2 * e+4) col top w
 m:∀ r t,i≤r→(ent w.M r t).natAbs≤2 ^ e
 u:∀ r t,i≤r→(ent w.U r t).natAbs≤2 ^ e
 v:∀ r t,t≠top→(ent w.V r t).natAbs≤2 ^ e
 vt:∀ r,(ent w.V r top).natAbs≤(i+1) * 2 ^ (2 * e)
theorem sq_pow (e:Nat):2 ^ (2 * e+4)=16 * 2 ^ (2 * e)∧2 ^ e * 2 ^ e=2 ^ (2 * e)∧2 ^ e≤2 ^ (2 * e) :=
 ⟨by rw [Nat.pow_add,Nat.mul_comm],by rw [← Nat.pow_add]; congr 1; omega,Nat.pow_le_pow_right (by omega) (by omega)⟩
theorem Rv.init (g:Gd R c A e col top w):Rv R c A e col top 0 w :=
 ⟨⟨g.sh,g.b.mono (by omega),g.eq,g.low,g.hi⟩,fun r t _=>g.b.m r t,fun r t _=>g.b.u r t,fun r t _=>g.b.v r t,fun r=>by rw [Nat.zero_add,Nat.one_mul]; exact Nat.le_trans (g.b.v r top) (sq_pow e).2.2⟩
theorem Rv.step (h:Rv R c A e col top i w) (hcol:col<c) (hR:top<R) (hR2:R≤15) (hi:i<top):Rv R c A e col top (i+1) (rdS R c col top i w):=by
 obtain ⟨p1,p2,p3⟩:=sq_pow e
 obtain ⟨k,hk⟩:∃ k:Int,-(ent w.M i col / ent w.M top col)=k:=⟨_,rfl⟩
 have hkb:k.natAbs≤2 ^ e:=by
  rw [← hk,Int.natAbs_neg]
  exact Nat.le_trans (Int.natAbs_ediv_le_natAbs _ _) (h.m i col (Nat.le_refl _))
 have hmul:∀ {z:Int},z.natAbs≤2 ^ e→(k * z).natAbs≤2 ^ (2 * e):=fun hz=>by rw [Int.natAbs_mul,← p2]; exact Nat.mul_le_mul hkb hz
 have hS:rdS R c col top i w=w.add R c i top k:=by unfold rdS; rw [hk]
 have hsh:(w.add R c i top k).sh R c:=W3.add_sh ..
 have eM:∀ {r t},r<R→t<c→ent (w.add R c i top k).M r t=_:=fun hr ht=>ent_rowA (M:=w.M) (i:=i) (j:=top) (k:=k) hr ht
 have eU:∀ {r t},r<R→t<R→ent (w.add R c i top k).U r t=_:=fun hr ht=>ent_rowA (M:=w.U) (i:=i) (j:=top) (k:=k) hr ht
 have eV:∀ {r t},r<R→t<R→ent (w.add R c i top k).V r t=_:=fun hr ht=>ent_addV (V:=w.V) (i:=i) (j:=top) (k:=k) hr ht
 have outM:∀ {r t},¬ (r<R∧t<c)→ent (w.add R c i top k).M r t=0:=fun h=>ent_out hsh.m h
 have outU:∀ {r t},¬ (r<R∧t<R)→ent (w.add R c i top k).U r t=0:=fun h=>ent_out hsh.u h
 have outV:∀ {r t},¬ (r<R∧t<R)→ent (w.add R c i top k).V r t=0:=fun h=>ent_out hsh.v h
 have hvt:∀ r,(ent (w.add R c i top k).V r top).natAbs≤(i+1+1) * 2 ^ (2 * e):=fun r=>by
  by_cases hr:r<R
  ·rw [eV hr hR,if_pos rfl]
   have h1:=h.vt r
   have h2:=hmul (h.v r i (by omega))
   rw [Nat.add_mul (i+1),Nat.one_mul]
   omega
  ·rw [outV (fun h=>hr h.1)]; exact Nat.zero_le _
 rw [hS]
 refine ⟨⟨hsh,⟨.of hsh.m fun r t hr ht=>?_,.of hsh.u fun r t hr ht=>?_,.of hsh.v fun r t hr ht=>?_⟩,h.g.eq.add (by omega) hR,fun r t h1 h2 h3=>?_,fun r hr=>?_⟩,fun r t hr=>?_,fun r t hr=>?_,fun r t ht=>?_,hvt⟩
 ·rw [eM hr ht]; split
  ·have h1:=h.m i t (Nat.le_refl _)
   have h2:=hmul (h.m top t (by omega))
   rw [p1]; omega
  ·exact h.g.b.m _ _
 ·rw [eU hr ht]; split
  ·have h1:=h.u i t (Nat.le_refl _)
   have h2:=hmul (h.u top t (by omega))
   rw [p1]; omega
  ·exact h.g.b.u _ _
 ·by_cases e2:t=top
  ·rw [e2]
   refine Nat.le_trans (hvt r) ?_
   rw [p1]
   exact Nat.mul_le_mul_right _ (by omega)
  ·rw [eV hr ht,if_neg e2]
   exact h.g.b.v _ _
 ·rw [eM h2 (by omega),if_neg (by omega)]; exact h.g.low r t h1 h2 h3
 ·obtain ⟨t,h1,h2⟩:=h.g.hi r hr
  refine ⟨t,h1,?_⟩
  rw [eM (by omega) (by omega)]
  split
  ·rename_i e2
   rw [h.g.low top t (Nat.le_refl _) hR h1,← e2]; simpa using h2
  ·exact h2
 ·by_cases hb:r<R∧t<c
  ·rw [eM hb.1 hb.2,if_neg (by omega)]; exact h.m r t (by omega)
  ·rw [outM hb]; exact Nat.zero_le _
 ·by_cases hb:r<R∧t<R
  ·rw [eU hb.1 hb.2,if_neg (by omega)]; exact h.u r t (by omega)
  ·rw [outU hb]; exact Nat.zero_le _
 ·by_cases hb:r<R∧t<R
  ·rw [eV hb.1 hb.2,if_neg ht]; exact h.v r t ht
  ·rw [outV hb]; exact Nat.zero_le _
theorem rd_ex (hcol:col<c) (hR:top<R) (hR2:R≤15) (he:2 * e+4<1099511627776):∀ (n i:Nat) (w:W3),n+i=top→Rv R c A e col top i w→(∀ r,top<r→r<R→ent w.M r col=0)→ent w.M top col≠0→∃ w',Rd R c col top i w w'∧Gd R c A (2 * e+4) (col+1) (top+1) w'
 | 0,i,w,hi,h,z,hp=>by
  refine ⟨w,.done i w (h.g.b.ok h.g.sh he) (by omega),h.g.sh,h.g.b,h.g.eq,fun r t h1 h2 h3=>?_,fun r hr=>?_⟩
  ·by_cases e2:t=col
   ·rw [e2]; exact z r (by omega) h2
   ·exact h.g.low r t (by omega) h2 (by omega)
  ·by_cases e2:r=top
   ·rw [e2]; exact ⟨col,by omega,hp⟩
   ·obtain ⟨t,h1,h2⟩:=h.g.hi r (by omega)
    exact ⟨t,by omega,h2⟩
 | n+1,i,w,hi,h,z,hp=>by
  have hs:=h.step hcol hR hR2 (by omega)
  have eM:∀ {r t},i<r→r<R→t<c→ent (rdS R c col top i w).M r t=ent w.M r t:=fun h1 hr ht=>by
   show ent (rowA R c w.M i top _) _ _=_
   rw [ent_rowA hr ht,if_neg (by omega)]
  obtain ⟨w',h1,h2⟩:=rd_ex hcol hR hR2 he n (i+1) _ (by omega) hs (fun r h1 h2=>by rw [eM (by omega) h2 hcol]; exact z r h1 h2) (by rw [eM (by omega) hR hcol]; exact hp)
  exact ⟨w',.go i w w' (h.g.b.ok h.g.sh he) (by omega) h1,h2⟩
def tr:Nat→Nat
 | 0=>0
 | n+1=>tr n+(n+1)
theorem fo_ex (hR2:R≤15):∀ (n col top e:Nat) (w:W3),n+col=c→top≤R→Gd R c A e col top w→dbl (tr (R - top)) e<1099511627776→∃ w' k e',Fo R c col top w w'∧k≤R∧Gd R c A e' c k w'∧(∀ r t,k≤r→r<R→t<c→ent w'.M r t=0)∧dbl (tr (R - k)) e'≤dbl (tr (R - top)) e
 | 0,col,top,e,w,hc,ht,g,hb=>by
  have:col=c:=by omega
  subst this
  exact ⟨w,top,e,.done col top w (g.b.ok g.sh (Nat.lt_of_le_of_lt (dbl_le _ _) hb)) (by omega),ht,g,fun r t h1 h2 h3=>g.low r t h1 h2 h3,Nat.le_refl _⟩
 | n+1,col,top,e,w,hc,ht,g,hb=>by
  have hcol:col<c:=by omega
  by_cases hR:top<R
  ·have e1:tr (R - top)=(R - top - 1)+1+tr (R - (top+1)):=by
    rw [show R - top=(R - (top+1))+1 by omega,tr]; omega
   rw [e1,← dbl_dbl,← dbl_dbl,show ∀ x,dbl 1 x=2 * x+4 from fun x=>rfl] at hb ⊢
   have hb1:=Nat.lt_of_le_of_lt (dbl_le _ _) hb
   obtain ⟨w1,h3,g1,z1,q1,_⟩:=ei_ex hcol hR (R - top - 1) (top+1) e w (by omega) (by omega) g (fun r h1 h2=>by omega) (by omega)
   by_cases h4:ent w1.M top col=0
   ·have:w1=w:=q1.resolve_right fun h=>h h4
    subst this
    have g2:Gd R c A e (col+1) top w1:=⟨g.sh,g.b,g.eq,fun r t h1 h2 h3=>by
     by_cases e2:t=col
     ·rw [e2]
      by_cases e3:r=top
      ·rw [e3]; exact h4
      ·exact z1 r (by omega) h2
     ·exact g.low r t h1 h2 (by omega),fun r hr=>let ⟨t,h1,h2⟩:=g.hi r hr; ⟨t,by omega,h2⟩⟩
    obtain ⟨w',k,e',f1,f2,f3,f4,f5⟩:=fo_ex hR2 n (col+1) top e w1 (by omega) ht g2 (by rw [e1,← dbl_dbl,← dbl_dbl]; exact hb)
    exact ⟨w',k,e',.zero col top w1 w1 w' hcol hR h3 h4 f1,f2,f3,f4,by rw [e1,← dbl_dbl,← dbl_dbl] at f5; exact f5⟩
   ·have g2:=ngS_gd g1 hcol hR
    obtain ⟨w2,h5,g3⟩:=rd_ex hcol hR hR2 hb1 top 0 _ (by omega) (.init g2) (fun r h1 h2=>(ngS_col hcol hR h2).2 (z1 r h1 h2)) (fun h=>h4 ((ngS_col hcol hR hR).1 h))
    obtain ⟨w',k,e',f1,f2,f3,f4,f5⟩:=fo_ex hR2 n (col+1) (top+1) _ w2 (by omega) (by omega) g3 hb
    exact ⟨w',k,e',.piv col top w w1 w2 w' hcol hR h3 h4 h5 f1,f2,f3,f4,f5⟩
  ·have:top=R:=by omega
   subst this
   exact ⟨w,top,e,.done col top w (g.b.ok g.sh (Nat.lt_of_le_of_lt (dbl_le _ _) hb)) (by omega),ht,⟨g.sh,g.b,g.eq,fun r t h1 h2 h3=>absurd h2 (by omega),fun r hr=>let ⟨t,h1,h2⟩:=g.hi r hr; ⟨t,by omega,h2⟩⟩,fun r t h1 h2 h3=>absurd h2 (by omega),Nat.le_refl _⟩
end
end Go.Am
end

section
set_option linter.unusedVariables false
set_option linter.unusedSimpArgs false
open List (map_map mapM_map)
open Go Go.Am Go.Proofs
namespace Go.Am
def kO (k:Int):List HO:=[.cells 69 [.d (.b (decide (k<0))),.d (encM (digs k.natAbs))]]
theorem kO_rf (k:Int):∀ o∈kO k,rfO 0 0 o=true:=fun o ho=>by rw [List.mem_singleton.1 ho]; rfl
set_option maxHeartbeats 16000000 in
set_option maxRecDepth 10000 in
theorem r12AddTo {R c i j:Nat} {M U V:List (List Int)} {k:Int} (hs:WS R c M U V) (hR:R≤1000) (hc:c≤1000) (hi:i<R) (hj:j<R) (hk:Sy k) (hM:∀ r t,Sy (ent M r t)) (hU:∀ r t,Sy (ent U r t)) (hV:∀ r t,Sy (ent V r t)) :
  TSpec Tryz.prog 172 (.ptr 0 0) (wR0 R c) (wH R c M U V) [.i .i64 (i:Int),.i .i64 (j:Int),encZ k] (wR0 R c) (wH R c (rowA R c M i j k) (rowA R R U i j k) (addV R V i j k)) (.tp []):=by
 refine tspec_of0 (N:=143) follows_mixed Tryz.func172 rfl rfl rfl rfl (by kernel_rfl) (by kernel_rfl) (by simp) ?_
 have hl:(wH R c M U V).length=3 * R+3:=wHs_len hs _ _ _
 have hH0:∀ p:HO,upd (fun id=>(wR0 R c::wH R c M U V)[id]?) (3 * R+3+1) (some p)=aH R c M U V [p]:=fun p=>by
  have e:(fun id=>(wR0 R c::wH R c M U V)[id]?)=famH 0 (wR0 R c::wH R c M U V):=by funext id; rfl
  rw [e,fam_snoc (by rw [List.length_cons,hl])]
  unfold aH
  rw [aL_eq]; rfl
 simp (maxSteps:=1000000) [-map_map,-mapM_map,↓KW,StT,encZ_eq,cellsA_encM,one_encM,inj1_encM,inj_encM,kills_encM,hl,hH0]
 have hko:[HO.cells 69 [.d (.b (decide (k<0))),.d (encM (digs k.natAbs))]]=kO k:=rfl
 rw [hko,show 3 * R+3+1=3 * R+4 by omega]
 refine loopP_inv (fun y:Nat × List (List Int)=>y.1≤c∧Sh R c y.2∧∀ r t,r<R→t<c→ent y.2 r t=addF M i j k y.1 r t) (fun y=>⟨sltF [(0,.ptr 0 0),(1,.d (.i .i64 (i:Int))),(2,.d (.i .i64 (j:Int))),(7,.ptr (3 * R+4) 0),(8,.d (.i .i64 (y.1:Int)))],aH R c y.2 U V (kO k),3 * R+5⟩) (fun y=>c - y.1)
  (0,M) ⟨Nat.zero_le _,hs.m,fun r t hr ht=>(if_neg (by omega)).symm⟩ ?_ ?_
 ·refine ⟨_,wk_id ?_ (fun id o' ho=>⟨o',ho,aH_self hs (kO_rf k) ho⟩) (fun id hid=>aH_top hs hid) (by simp)⟩
  have g0:=aH_some (x:=(kO k)) hs (id:=0) (by omega)
  have g1:=aH_some (x:=(kO k)) hs (id:=3 * R+4) (by show _<_+1; omega)
  simp [-map_map,upd,inj1,Γ0,g0,g1]
 ·rintro ⟨s,M1⟩ ⟨hsb,hM1,hME⟩
  simp only at hsb hM1 hME
  have hs0:WS R c M1 U V:=⟨hM1,hs.u,hs.v⟩
  have hHr:aH R c M1 U V (kO k) 0=some (.cells 212 [.d (.i .i64 (R:Int)),.d (.i .i64 (c:Int)),.own 1 0 R 1,.d (.i .i64 (R:Int)),.d (.i .i64 (R:Int)),.own (R+2) 0 R 1,.d (.i .i64 (R:Int)),.d (.i .i64 (R:Int)),.own (2 * R+3) 0 R 1]):=rfl
  by_cases hgo:s<c
  ·have q1:(s:Int)<c:=by omega
   have hw:IntKind.i64.wrap ((s:Int)+1)=(s:Int)+1:=wrap_i64 (by omega) (by omega)
   have hHh:aH R c M1 U V (kO k) 1=some (.cells 112 (hdr c R 2)):=aH_hM hs0
   have hHk:aH R c M1 U V (kO k) (3 * R+4)=some (.cells 69 [.d (.b (decide (k<0))),.d (encM (digs k.natAbs))]):=by
    have:=aH_x hs0 (x:=(kO k)) (i:=0) rfl
    rwa [Nat.zero_add] at this
   obtain ⟨vi,hvi,hvli,hvei⟩:=hM1.get hi
   have hHi:aH R c M1 U V (kO k) (i+2)=some (.cells 69 ((vcs vi).map .d)):=aH_rM hvi
   have hgi:=hdr_get (c:=c) (b:=2) hi
   have hggi:∀ h:i<(hdr c R 2).length,(hdr c R 2)[i]'h=.own (i+2) 0 c 2:=fun h=>Option.some.inj ((List.getElem?_eq_getElem h).symm.trans hgi)
   have hvci:=vcs_len vi
   rw [hvli] at hvci
   obtain ⟨vj,hvj,hvlj,hvej⟩:=hM1.get hj
   have hHj:aH R c M1 U V (kO k) (j+2)=some (.cells 69 ((vcs vj).map .d)):=aH_rM hvj
   have hgj:=hdr_get (c:=c) (b:=2) hj
   have hggj:∀ h:j<(hdr c R 2).length,(hdr c R 2)[j]'h=.own (j+2) 0 c 2:=fun h=>Option.some.inj ((List.getElem?_eq_getElem h).symm.trans hgj)
   have hvcj:=vcs_len vj
   rw [hvlj] at hvcj
   have hbs:s * 2+2≤c * 2:=by omega
   have hz0:ent M1 i s=ent M i s:=by rw [hME i s (by omega) (by omega)]; exact if_neg (by omega)
   have hrd0:List.take 2 (List.drop (s * 2) ((vcs vi).map AV.d))=[.d (.b (decide (ent M i s<0))),.d (encM (digs (ent M i s).natAbs))]:=by
    rw [← hz0,← hvei s,← List.map_drop,← List.map_take,vcs_get2 (z:=vi.getD s 0) (by rw [List.getD_eq_getElem?_getD,List.getElem?_eq_getElem (by omega)]; rfl)]; rfl
   have hzs0:Sy (ent M i s):=hM i s
   have hz1:ent M1 j s=ent M j s:=by rw [hME j s (by omega) (by omega)]; exact if_neg (by omega)
   have hrd1:List.take 2 (List.drop (s * 2) ((vcs vj).map AV.d))=[.d (.b (decide (ent M j s<0))),.d (encM (digs (ent M j s).natAbs))]:=by
    rw [← hz1,← hvej s,← List.map_drop,← List.map_take,vcs_get2 (z:=vj.getD s 0) (by rw [List.getD_eq_getElem?_getD,List.getElem?_eq_getElem (by omega)]; rfl)]; rfl
   have hzs1:Sy (ent M j s):=hM j s
   have hmul:=r01MulZ k (ent M j s) (Nat.le_trans hk (by decide)) (Nat.le_trans hzs1 (by decide))
   have hadd:=r01AddZ (ent M i s) (k * ent M j s) (Nat.le_trans hzs0 (by decide)) (Nat.le_trans (digs_mul_le hk hzs1) (by decide))
   obtain ⟨z,hZ⟩:∃ z,ent M i s+k * ent M j s=z:=⟨_,rfl⟩
   rw [hZ] at hadd
   have hM2:Sh R c (M1.set i (vi.set s z)):=ent_set_sh hM1 hvi
   have hs1:WS R c (M1.set i (vi.set s z)) U V:=⟨hM2,hs.u,hs.v⟩
   have hupd:upd (aH R c M1 U V (kO k)) (i+2) (some (.cells 69 ((vcs (vi.set s z)).map .d)))=aH R c (M1.set i (vi.set s z)) U V (kO k):=aH_updM hs0 hi
   have hlay:=lay_row (v:=vi) z (j:=s) (by rw [hvli]; omega)
   have hgl:=hdr_len c R 2
   generalize hzm:k * ent M j s=zm at *
   generalize hz0g:ent M i s=z0 at *
   generalize hz1g:ent M j s=z1 at *
   generalize hHg:aH R c M1 U V (kO k)=H at *
   generalize hdr c R 2=cellsR at *
   simp (maxSteps:=1000000) [-map_map,-mapM_map,↓KW,q1,hHr,hHh,hHk,hHi,hgi,hggi,hvci,hi,hHj,hgj,hggj,hvcj,hj,hbs,hgo,hrd0,hrd1,hgl,cellsA_encM,one_encM,inj1_encM,inj_encM,kills_encM]
   refine callP_intro (ds:=[encZ k,encZ z1]) (by rfl) hmul ?_
   rw [encZ_eq]
   simp (maxSteps:=1000000) [-map_map,-mapM_map,↓KW,hHr,hHh,hHk,hHi,hgi,hggi,hvci,hi,hHj,hgj,hggj,hvcj,hj,hbs,hgo,hrd0,hrd1,hgl,cellsA_encM,one_encM,inj1_encM,inj_encM,kills_encM]
   refine callP_intro (ds:=[encZ z0,encZ zm]) (by rfl) hadd ?_
   rw [encZ_eq]
   simp (maxSteps:=1000000) [-map_map,-mapM_map,↓KW,hHr,hHh,hHk,hHi,hgi,hggi,hvci,hi,hHj,hgj,hggj,hvcj,hj,hbs,hgo,hrd0,hrd1,hgl,hw,hlay,cellsA_encM,one_encM,inj1_encM,inj_encM,kills_encM]
   rw [hupd]
   refine nxt_intro (s+1,M1.set i (vi.set s z)) ⟨hgo,hM2,fun r t hr ht=>?_⟩ (Nat.sub_lt_sub_left hgo (Nat.lt_succ_self _)) ?_
   ·rw [ent_set hM1 hi (by omega) hvi,hME r t hr ht,← hZ]
    unfold addF
    by_cases e:r=i∧t=s
    ·obtain ⟨e1,e2⟩:=e
     subst e1; subst e2
     rw [if_pos ⟨rfl,rfl⟩,if_pos (by omega)]
     rw [← hzm,← hz0g,← hz1g]
    ·rw [if_neg e]
     split
     ·rw [if_pos (by omega)]
     ·rw [if_neg (by omega)]
   ·refine ⟨_,wk_id ?_ (fun id o' ho=>⟨o',ho,aH_self hs1 (kO_rf k) ho⟩) (fun id hid=>aH_top hs1 hid) (by simp)⟩
    have g0:=aH_some (x:=(kO k)) hs1 (id:=0) (by omega)
    have g1:=aH_some (x:=(kO k)) hs1 (id:=3 * R+4) (by show _<_+1; omega)
    simp [-map_map,upd,inj1,Γ0,g0,g1]
  ·have q1:¬ (s:Int)<c:=by omega
   have es:s=c:=by omega
   have hNe:M1=rowA R c M i j k:=mk_of hM1 fun r t hr ht=>by rw [hME r t hr ht,es]
   have hsome:=fun id=>aH_some (x:=(kO k)) hs0 (id:=id)
   have hself:=fun (H:Nat→Option HO) id o=>aH_self (x:=(kO k)) hs0 (kO_rf k) (H:=H) (id:=id) (o:=o)
   have htop:=fun id=>aH_top (x:=(kO k)) hs0 (id:=id)
   clear hM1 hME
   rw [← hNe]
   clear hNe
   generalize hHg:aH R c M1 U V (kO k)=H at *
   simp (maxSteps:=1000000) [-map_map,-mapM_map,↓KW,q1,hHr]
   rw [← hHg]
   have hs:=hs0
   clear hs0 hHr hself hsome htop hHg
   refine loopP_inv (fun y:Nat × List (List Int)=>y.1≤R∧Sh R R y.2∧∀ r t,r<R→t<R→ent y.2 r t=addF U i j k y.1 r t) (fun y=>⟨sltF [(0,.ptr 0 0),(1,.d (.i .i64 (i:Int))),(2,.d (.i .i64 (j:Int))),(7,.ptr (3 * R+4) 0),(9,.d (.i .i64 (y.1:Int)))],aH R c M1 y.2 V (kO k),3 * R+5⟩) (fun y=>R - y.1)
    (0,U) ⟨Nat.zero_le _,hs.u,fun r t hr ht=>(if_neg (by omega)).symm⟩ ?_ ?_
   ·refine ⟨_,wk_id ?_ (fun id o' ho=>⟨o',ho,aH_self hs (kO_rf k) ho⟩) (fun id hid=>aH_top hs hid) (by simp)⟩
    have g0:=aH_some (x:=(kO k)) hs (id:=0) (by omega)
    have g1:=aH_some (x:=(kO k)) hs (id:=3 * R+4) (by show _<_+1; omega)
    simp [-map_map,upd,inj1,Γ0,g0,g1]
   ·rintro ⟨s,U1⟩ ⟨hsb,hM1,hME⟩
    simp only at hsb hM1 hME
    have hs0:WS R c M1 U1 V:=⟨hs.m,hM1,hs.v⟩
    have hHr:aH R c M1 U1 V (kO k) 0=some (.cells 212 [.d (.i .i64 (R:Int)),.d (.i .i64 (c:Int)),.own 1 0 R 1,.d (.i .i64 (R:Int)),.d (.i .i64 (R:Int)),.own (R+2) 0 R 1,.d (.i .i64 (R:Int)),.d (.i .i64 (R:Int)),.own (2 * R+3) 0 R 1]):=rfl
    by_cases hgo:s<R
    ·have q1:(s:Int)<R:=by omega
     have hw:IntKind.i64.wrap ((s:Int)+1)=(s:Int)+1:=wrap_i64 (by omega) (by omega)
     have hHh:aH R c M1 U1 V (kO k) (R+2)=some (.cells 112 (hdr R R (R+3))):=aH_hU hs0
     have hHk:aH R c M1 U1 V (kO k) (3 * R+4)=some (.cells 69 [.d (.b (decide (k<0))),.d (encM (digs k.natAbs))]):=by
      have:=aH_x hs0 (x:=(kO k)) (i:=0) rfl
      rwa [Nat.zero_add] at this
     obtain ⟨vi,hvi,hvli,hvei⟩:=hM1.get hi
     have hHi:aH R c M1 U1 V (kO k) (i+(R+3))=some (.cells 69 ((vcs vi).map .d)):=aH_rU hs0 hvi
     have hgi:=hdr_get (c:=R) (b:=(R+3)) hi
     have hggi:∀ h:i<(hdr R R (R+3)).length,(hdr R R (R+3))[i]'h=.own (i+(R+3)) 0 R 2:=fun h=>Option.some.inj ((List.getElem?_eq_getElem h).symm.trans hgi)
     have hvci:=vcs_len vi
     rw [hvli] at hvci
     obtain ⟨vj,hvj,hvlj,hvej⟩:=hM1.get hj
     have hHj:aH R c M1 U1 V (kO k) (j+(R+3))=some (.cells 69 ((vcs vj).map .d)):=aH_rU hs0 hvj
     have hgj:=hdr_get (c:=R) (b:=(R+3)) hj
     have hggj:∀ h:j<(hdr R R (R+3)).length,(hdr R R (R+3))[j]'h=.own (j+(R+3)) 0 R 2:=fun h=>Option.some.inj ((List.getElem?_eq_getElem h).symm.trans hgj)
     have hvcj:=vcs_len vj
     rw [hvlj] at hvcj
     have hbs:s * 2+2≤R * 2:=by omega
     have hz0:ent U1 i s=ent U i s:=by rw [hME i s (by omega) (by omega)]; exact if_neg (by omega)
     have hrd0:List.take 2 (List.drop (s * 2) ((vcs vi).map AV.d))=[.d (.b (decide (ent U i s<0))),.d (encM (digs (ent U i s).natAbs))]:=by
      rw [← hz0,← hvei s,← List.map_drop,← List.map_take,vcs_get2 (z:=vi.getD s 0) (by rw [List.getD_eq_getElem?_getD,List.getElem?_eq_getElem (by omega)]; rfl)]; rfl
     have hzs0:Sy (ent U i s):=hU i s
     have hz1:ent U1 j s=ent U j s:=by rw [hME j s (by omega) (by omega)]; exact if_neg (by omega)
     have hrd1:List.take 2 (List.drop (s * 2) ((vcs vj).map AV.d))=[.d (.b (decide (ent U j s<0))),.d (encM (digs (ent U j s).natAbs))]:=by
      rw [← hz1,← hvej s,← List.map_drop,← List.map_take,vcs_get2 (z:=vj.getD s 0) (by rw [List.getD_eq_getElem?_getD,List.getElem?_eq_getElem (by omega)]; rfl)]; rfl
     have hzs1:Sy (ent U j s):=hU j s
     have hmul:=r01MulZ k (ent U j s) (Nat.le_trans hk (by decide)) (Nat.le_trans hzs1 (by decide))
     have hadd:=r01AddZ (ent U i s) (k * ent U j s) (Nat.le_trans hzs0 (by decide)) (Nat.le_trans (digs_mul_le hk hzs1) (by decide))
     obtain ⟨z,hZ⟩:∃ z,ent U i s+k * ent U j s=z:=⟨_,rfl⟩
     rw [hZ] at hadd
     have hM2:Sh R R (U1.set i (vi.set s z)):=ent_set_sh hM1 hvi
     have hs1:WS R c M1 (U1.set i (vi.set s z)) V:=⟨hs.m,hM2,hs.v⟩
     have hupd:upd (aH R c M1 U1 V (kO k)) (i+(R+3)) (some (.cells 69 ((vcs (vi.set s z)).map .d)))=aH R c M1 (U1.set i (vi.set s z)) V (kO k):=aH_updU hs0 hi
     have hlay:=lay_row (v:=vi) z (j:=s) (by rw [hvli]; omega)
     have hgl:=hdr_len R R (R+3)
     generalize hzm:k * ent U j s=zm at *
     generalize hz0g:ent U i s=z0 at *
     generalize hz1g:ent U j s=z1 at *
     generalize hHg:aH R c M1 U1 V (kO k)=H at *
     generalize hdr R R (R+3)=cellsR at *
     simp (maxSteps:=1000000) [-map_map,-mapM_map,↓KW,q1,hHr,hHh,hHk,hHi,hgi,hggi,hvci,hi,hHj,hgj,hggj,hvcj,hj,hbs,hgo,hrd0,hrd1,hgl,cellsA_encM,one_encM,inj1_encM,inj_encM,kills_encM]
     refine callP_intro (ds:=[encZ k,encZ z1]) (by rfl) hmul ?_
     rw [encZ_eq]
     simp (maxSteps:=1000000) [-map_map,-mapM_map,↓KW,hHr,hHh,hHk,hHi,hgi,hggi,hvci,hi,hHj,hgj,hggj,hvcj,hj,hbs,hgo,hrd0,hrd1,hgl,cellsA_encM,one_encM,inj1_encM,inj_encM,kills_encM]
     refine callP_intro (ds:=[encZ z0,encZ zm]) (by rfl) hadd ?_
     rw [encZ_eq]
     simp (maxSteps:=1000000) [-map_map,-mapM_map,↓KW,hHr,hHh,hHk,hHi,hgi,hggi,hvci,hi,hHj,hgj,hggj,hvcj,hj,hbs,hgo,hrd0,hrd1,hgl,hw,hlay,cellsA_encM,one_encM,inj1_encM,inj_encM,kills_encM]
     rw [hupd]
     refine nxt_intro (s+1,U1.set i (vi.set s z)) ⟨hgo,hM2,fun r t hr ht=>?_⟩ (Nat.sub_lt_sub_left hgo (Nat.lt_succ_self _)) ?_
     ·rw [ent_set hM1 hi (by omega) hvi,hME r t hr ht,← hZ]
      unfold addF
      by_cases e:r=i∧t=s
      ·obtain ⟨e1,e2⟩:=e
       subst e1; subst e2
       rw [if_pos ⟨rfl,rfl⟩,if_pos (by omega)]
       rw [← hzm,← hz0g,← hz1g]
      ·rw [if_neg e]
       split
       ·rw [if_pos (by omega)]
       ·rw [if_neg (by omega)]
     ·refine ⟨_,wk_id ?_ (fun id o' ho=>⟨o',ho,aH_self hs1 (kO_rf k) ho⟩) (fun id hid=>aH_top hs1 hid) (by simp)⟩
      have g0:=aH_some (x:=(kO k)) hs1 (id:=0) (by omega)
      have g1:=aH_some (x:=(kO k)) hs1 (id:=3 * R+4) (by show _<_+1; omega)
      simp [-map_map,upd,inj1,Γ0,g0,g1]
    ·have q1:¬ (s:Int)<R:=by omega
     have es:s=R:=by omega
     have hNe:U1=rowA R R U i j k:=mk_of hM1 fun r t hr ht=>by rw [hME r t hr ht,es]
     have hsome:=fun id=>aH_some (x:=(kO k)) hs0 (id:=id)
     have hself:=fun (H:Nat→Option HO) id o=>aH_self (x:=(kO k)) hs0 (kO_rf k) (H:=H) (id:=id) (o:=o)
     have htop:=fun id=>aH_top (x:=(kO k)) hs0 (id:=id)
     clear hM1 hME
     rw [← hNe]
     clear hNe
     generalize hHg:aH R c M1 U1 V (kO k)=H at *
     simp (maxSteps:=1000000) [-map_map,-mapM_map,↓KW,q1,hHr]
     rw [← hHg]
     have hs:=hs0
     clear hs0 hHr hself hsome htop hHg
     refine loopP_inv (fun y:Nat × List (List Int)=>y.1≤R∧Sh R R y.2∧∀ r t,r<R→t<R→ent y.2 r t=addC V i j k y.1 r t) (fun y=>⟨sltF [(0,.ptr 0 0),(1,.d (.i .i64 (i:Int))),(2,.d (.i .i64 (j:Int))),(7,.ptr (3 * R+4) 0),(10,.d (.i .i64 (y.1:Int)))],aH R c M1 U1 y.2 (kO k),3 * R+5⟩) (fun y=>R - y.1)
      (0,V) ⟨Nat.zero_le _,hs.v,fun r t hr ht=>(if_neg (by omega)).symm⟩ ?_ ?_
     ·refine ⟨_,wk_id ?_ (fun id o' ho=>⟨o',ho,aH_self hs (kO_rf k) ho⟩) (fun id hid=>aH_top hs hid) (by simp)⟩
      have g0:=aH_some (x:=(kO k)) hs (id:=0) (by omega)
      have g1:=aH_some (x:=(kO k)) hs (id:=3 * R+4) (by show _<_+1; omega)
      simp [-map_map,upd,inj1,Γ0,g0,g1]
     ·rintro ⟨s,V1⟩ ⟨hsb,hM1,hME⟩
      simp only at hsb hM1 hME
      have hs0:WS R c M1 U1 V1:=⟨hs.m,hs.u,hM1⟩
      have hHr:aH R c M1 U1 V1 (kO k) 0=some (.cells 212 [.d (.i .i64 (R:Int)),.d (.i .i64 (c:Int)),.own 1 0 R 1,.d (.i .i64 (R:Int)),.d (.i .i64 (R:Int)),.own (R+2) 0 R 1,.d (.i .i64 (R:Int)),.d (.i .i64 (R:Int)),.own (2 * R+3) 0 R 1]):=rfl
      by_cases hgo:s<R
      ·have q1:(s:Int)<R:=by omega
       have hw:IntKind.i64.wrap ((s:Int)+1)=(s:Int)+1:=wrap_i64 (by omega) (by omega)
       have hHh:aH R c M1 U1 V1 (kO k) (2 * R+3)=some (.cells 112 (hdr R R (2 * R+4))):=aH_hV hs0
       have hHk:aH R c M1 U1 V1 (kO k) (3 * R+4)=some (.cells 69 [.d (.b (decide (k<0))),.d (encM (digs k.natAbs))]):=by
        have:=aH_x hs0 (x:=(kO k)) (i:=0) rfl
        rwa [Nat.zero_add] at this
       obtain ⟨vs,hvs,hvls,hves⟩:=hM1.get hgo
       have hHs:aH R c M1 U1 V1 (kO k) (s+(2 * R+4))=some (.cells 69 ((vcs vs).map .d)):=aH_rV hs0 hvs
       have hgs:=hdr_get (c:=R) (b:=(2 * R+4)) hgo
       have hggs:∀ h:s<(hdr R R (2 * R+4)).length,(hdr R R (2 * R+4))[s]'h=.own (s+(2 * R+4)) 0 R 2:=fun h=>Option.some.inj ((List.getElem?_eq_getElem h).symm.trans hgs)
       have hvcs:=vcs_len vs
       rw [hvls] at hvcs
       have hbj:j * 2+2≤R * 2:=by omega
       have hbi:i * 2+2≤R * 2:=by omega
       have hz0:ent V1 s j=ent V s j:=by rw [hME s j (by omega) (by omega)]; exact if_neg (by omega)
       have hrd0:List.take 2 (List.drop (j * 2) ((vcs vs).map AV.d))=[.d (.b (decide (ent V s j<0))),.d (encM (digs (ent V s j).natAbs))]:=by
        rw [← hz0,← hves j,← List.map_drop,← List.map_take,vcs_get2 (z:=vs.getD j 0) (by rw [List.getD_eq_getElem?_getD,List.getElem?_eq_getElem (by omega)]; rfl)]; rfl
       have hzs0:Sy (ent V s j):=hV s j
       have hz1:ent V1 s i=ent V s i:=by rw [hME s i (by omega) (by omega)]; exact if_neg (by omega)
       have hrd1:List.take 2 (List.drop (i * 2) ((vcs vs).map AV.d))=[.d (.b (decide (ent V s i<0))),.d (encM (digs (ent V s i).natAbs))]:=by
        rw [← hz1,← hves i,← List.map_drop,← List.map_take,vcs_get2 (z:=vs.getD i 0) (by rw [List.getD_eq_getElem?_getD,List.getElem?_eq_getElem (by omega)]; rfl)]; rfl
       have hzs1:Sy (ent V s i):=hV s i
       have hmul:=r01MulZ k (ent V s i) (Nat.le_trans hk (by decide)) (Nat.le_trans hzs1 (by decide))
       have hsub:=r01SubB (ent V s j) (k * ent V s i) (Nat.le_trans hzs0 (by decide)) (Nat.le_trans (digs_mul_le hk hzs1) (by decide))
       obtain ⟨z,hZ⟩:∃ z,ent V s j - k * ent V s i=z:=⟨_,rfl⟩
       rw [hZ] at hsub
       have hM2:Sh R R (V1.set s (vs.set j z)):=ent_set_sh hM1 hvs
       have hs1:WS R c M1 U1 (V1.set s (vs.set j z)):=⟨hs.m,hs.u,hM2⟩
       have hupd:upd (aH R c M1 U1 V1 (kO k)) (s+(2 * R+4)) (some (.cells 69 ((vcs (vs.set j z)).map .d)))=aH R c M1 U1 (V1.set s (vs.set j z)) (kO k):=aH_updV hs0 hgo
       have hlay:=lay_row (v:=vs) z (j:=j) (by rw [hvls]; omega)
       have hgl:=hdr_len R R (2 * R+4)
       generalize hzm:k * ent V s i=zm at *
       generalize hz0g:ent V s j=z0 at *
       generalize hz1g:ent V s i=z1 at *
       generalize hHg:aH R c M1 U1 V1 (kO k)=H at *
       generalize hdr R R (2 * R+4)=cellsR at *
       simp (maxSteps:=1000000) [-map_map,-mapM_map,↓KW,q1,hHr,hHh,hHk,hHs,hgs,hggs,hvcs,hgo,hbj,hbi,hj,hi,hrd0,hrd1,hgl,cellsA_encM,one_encM,inj1_encM,inj_encM,kills_encM]
       refine callP_intro (ds:=[encZ k,encZ z1]) (by rfl) hmul ?_
       rw [encZ_eq]
       simp (maxSteps:=1000000) [-map_map,-mapM_map,↓KW,hHr,hHh,hHk,hHs,hgs,hggs,hvcs,hgo,hbj,hbi,hj,hi,hrd0,hrd1,hgl,cellsA_encM,one_encM,inj1_encM,inj_encM,kills_encM]
       refine callP_intro (ds:=[encZ z0,encZ zm]) (by rfl) hsub ?_
       rw [encZ_eq]
       simp (maxSteps:=1000000) [-map_map,-mapM_map,↓KW,hHr,hHh,hHk,hHs,hgs,hggs,hvcs,hgo,hbj,hbi,hj,hi,hrd0,hrd1,hgl,hw,hlay,cellsA_encM,one_encM,inj1_encM,inj_encM,kills_encM]
       rw [hupd]
       refine nxt_intro (s+1,V1.set s (vs.set j z)) ⟨hgo,hM2,fun r t hr ht=>?_⟩ (Nat.sub_lt_sub_left hgo (Nat.lt_succ_self _)) ?_
       ·rw [ent_set hM1 hgo (by omega) hvs,hME r t hr ht,← hZ]
        unfold addC
        by_cases e:r=s∧t=j
        ·obtain ⟨e1,e2⟩:=e
         subst e1; subst e2
         rw [if_pos ⟨rfl,rfl⟩,if_pos (by omega)]
         rw [← hzm,← hz0g,← hz1g]
        ·rw [if_neg e]
         split
         ·rw [if_pos (by omega)]
         ·rw [if_neg (by omega)]
       ·refine ⟨_,wk_id ?_ (fun id o' ho=>⟨o',ho,aH_self hs1 (kO_rf k) ho⟩) (fun id hid=>aH_top hs1 hid) (by simp)⟩
        have g0:=aH_some (x:=(kO k)) hs1 (id:=0) (by omega)
        have g1:=aH_some (x:=(kO k)) hs1 (id:=3 * R+4) (by show _<_+1; omega)
        simp [-map_map,upd,inj1,Γ0,g0,g1]
      ·have q1:¬ (s:Int)<R:=by omega
       have es:s=R:=by omega
       have hNe:V1=addV R V i j k:=mk_of hM1 fun r t hr ht=>by rw [hME r t hr ht,es]
       have hsome:=fun id=>aH_some (x:=(kO k)) hs0 (id:=id)
       have hself:=fun (H:Nat→Option HO) id o=>aH_self (x:=(kO k)) hs0 (kO_rf k) (H:=H) (id:=id) (o:=o)
       have htop:=fun id=>aH_top (x:=(kO k)) hs0 (id:=id)
       clear hM1 hME
       rw [← hNe]
       clear hNe
       generalize hHg:aH R c M1 U1 V1 (kO k)=H at *
       simp (maxSteps:=1000000) [-map_map,-mapM_map,↓KW,q1,hHr]
       rw [← hHg]
       exact aH_end hs0 (Nat.succ_ne_zero _)
end Go.Am
end

section
set_option linter.unusedVariables false
set_option linter.unusedSimpArgs false
open List (map_map mapM_map)
open Go Go.Am Go.Proofs
namespace Go.Am
theorem aH_nil {R c:Nat} {M U V:List (List Int)}:(fun id=>(wR0 R c::wH R c M U V)[id]?)=aH R c M U V []:=by
 funext id
 unfold aH famH
 rw [if_neg (by omega),aL_eq,List.append_nil,Nat.sub_zero]
set_option maxHeartbeats 16000000 in
set_option maxRecDepth 10000 in
theorem r12Negate {R c i:Nat} {M U V:List (List Int)} (hs:WS R c M U V) (hR:R≤1000) (hc:c≤1000) (hi:i<R) (hM:∀ r t,Sy (ent M r t)) (hU:∀ r t,Sy (ent U r t)) (hV:∀ r t,Sy (ent V r t)) :
  TSpec Tryz.prog 174 (.ptr 0 0) (wR0 R c) (wH R c M U V) [.i .i64 (i:Int)] (wR0 R c) (wH R c (ngR R c M i) (ngR R R U i) (ngV R V i)) (.tp []):=by
 refine tspec_of0 (N:=100) follows_mixed Tryz.func174 rfl rfl rfl rfl (by kernel_rfl) (by kernel_rfl) (by simp) ?_
 have hl:(wH R c M U V).length=3 * R+3:=wHs_len hs _ _ _
 simp (maxSteps:=1000000) [-map_map,-mapM_map,↓KW,StT,hl,aH_nil]
 rw [show 3 * R+3+1=3 * R+4 by omega]
 refine loopP_inv (fun y:Nat × List (List Int)=>y.1≤c∧Sh R c y.2∧∀ r t,r<R→t<c→ent y.2 r t=ngF M i y.1 r t) (fun y=>⟨sltF [(0,.ptr 0 0),(1,.d (.i .i64 (i:Int))),(4,.d (.i .i64 (y.1:Int)))],aH R c y.2 U V [],3 * R+4⟩) (fun y=>c - y.1)
  (0,M) ⟨Nat.zero_le _,hs.m,fun r t hr ht=>(if_neg (by omega)).symm⟩ ?_ ?_
 ·refine ⟨_,wk_id ?_ (fun id o' ho=>⟨o',ho,aH_self hs (fun o ho=>by cases ho) ho⟩) (fun id hid=>aH_top hs hid) (by simp)⟩
  have g0:=aH_some (x:=[]) hs (id:=0) (by omega)
  simp [-map_map,upd,inj1,Γ0,g0]
 ·rintro ⟨s,M1⟩ ⟨hsb,hM1,hME⟩
  simp only at hsb hM1 hME
  have hs0:WS R c M1 U V:=⟨hM1,hs.u,hs.v⟩
  have hHr:aH R c M1 U V [] 0=some (.cells 212 [.d (.i .i64 (R:Int)),.d (.i .i64 (c:Int)),.own 1 0 R 1,.d (.i .i64 (R:Int)),.d (.i .i64 (R:Int)),.own (R+2) 0 R 1,.d (.i .i64 (R:Int)),.d (.i .i64 (R:Int)),.own (2 * R+3) 0 R 1]):=rfl
  by_cases hgo:s<c
  ·have q1:(s:Int)<c:=by omega
   have hw:IntKind.i64.wrap ((s:Int)+1)=(s:Int)+1:=wrap_i64 (by omega) (by omega)
   have hHh:aH R c M1 U V [] 1=some (.cells 112 (hdr c R 2)):=aH_hM hs0
   obtain ⟨vi,hvi,hvli,hvei⟩:=hM1.get hi
   have hHi:aH R c M1 U V [] (i+2)=some (.cells 69 ((vcs vi).map .d)):=aH_rM hvi
   have hgi:=hdr_get (c:=c) (b:=2) hi
   have hggi:∀ h:i<(hdr c R 2).length,(hdr c R 2)[i]'h=.own (i+2) 0 c 2:=fun h=>Option.some.inj ((List.getElem?_eq_getElem h).symm.trans hgi)
   have hvci:=vcs_len vi
   rw [hvli] at hvci
   have hbs:s * 2+2≤c * 2:=by omega
   have hz0:ent M1 i s=ent M i s:=by rw [hME i s (by omega) (by omega)]; exact if_neg (by omega)
   have hrd0:List.take 2 (List.drop (s * 2) ((vcs vi).map AV.d))=[.d (.b (decide (ent M i s<0))),.d (encM (digs (ent M i s).natAbs))]:=by
    rw [← hz0,← hvei s,← List.map_drop,← List.map_take,vcs_get2 (z:=vi.getD s 0) (by rw [List.getD_eq_getElem?_getD,List.getElem?_eq_getElem (by omega)]; rfl)]; rfl
   have hzs0:Sy (ent M i s):=hM i s
   have hneg:=r01NegB (ent M i s) (Nat.le_trans hzs0 (by decide))
   obtain ⟨z,hZ⟩:∃ z,-ent M i s=z:=⟨_,rfl⟩
   rw [hZ] at hneg
   have hM2:Sh R c (M1.set i (vi.set s z)):=ent_set_sh hM1 hvi
   have hs1:WS R c (M1.set i (vi.set s z)) U V:=⟨hM2,hs.u,hs.v⟩
   have hupd:upd (aH R c M1 U V []) (i+2) (some (.cells 69 ((vcs (vi.set s z)).map .d)))=aH R c (M1.set i (vi.set s z)) U V []:=aH_updM hs0 hi
   have hlay:=lay_row (v:=vi) z (j:=s) (by rw [hvli]; omega)
   have hgl:=hdr_len c R 2
   generalize hz0g:ent M i s=z0 at *
   generalize hHg:aH R c M1 U V []=H at *
   generalize hdr c R 2=cellsR at *
   simp (maxSteps:=1000000) [-map_map,-mapM_map,↓KW,q1,hHr,hHh,hHi,hgi,hggi,hvci,hi,hbs,hgo,hrd0,hgl,cellsA_encM,one_encM,inj1_encM,inj_encM,kills_encM]
   refine callP_intro (ds:=[encZ z0]) (by rfl) hneg ?_
   rw [encZ_eq]
   simp (maxSteps:=1000000) [-map_map,-mapM_map,↓KW,hHr,hHh,hHi,hgi,hggi,hvci,hi,hbs,hgo,hrd0,hgl,hw,hlay,cellsA_encM,one_encM,inj1_encM,inj_encM,kills_encM]
   rw [hupd]
   refine nxt_intro (s+1,M1.set i (vi.set s z)) ⟨hgo,hM2,fun r t hr ht=>?_⟩ (Nat.sub_lt_sub_left hgo (Nat.lt_succ_self _)) ?_
   ·rw [ent_set hM1 hi (by omega) hvi,hME r t hr ht,← hZ]
    unfold ngF
    by_cases e:r=i∧t=s
    ·obtain ⟨e1,e2⟩:=e
     subst e1; subst e2
     rw [if_pos ⟨rfl,rfl⟩,if_pos (by omega)]
     rw [← hz0g]
    ·rw [if_neg e]
     split
     ·rw [if_pos (by omega)]
     ·rw [if_neg (by omega)]
   ·refine ⟨_,wk_id ?_ (fun id o' ho=>⟨o',ho,aH_self hs1 (fun o ho=>by cases ho) ho⟩) (fun id hid=>aH_top hs1 hid) (by simp)⟩
    have g0:=aH_some (x:=[]) hs1 (id:=0) (by omega)
    simp [-map_map,upd,inj1,Γ0,g0]
  ·have q1:¬ (s:Int)<c:=by omega
   have es:s=c:=by omega
   have hNe:M1=ngR R c M i:=mk_of hM1 fun r t hr ht=>by rw [hME r t hr ht,es]
   have hsome:=fun id=>aH_some (x:=[]) hs0 (id:=id)
   have hself:=fun (H:Nat→Option HO) id o=>aH_self (x:=[]) hs0 (fun o ho=>by cases ho) (H:=H) (id:=id) (o:=o)
   have htop:=fun id=>aH_top (x:=[]) hs0 (id:=id)
   clear hM1 hME
   rw [← hNe]
   clear hNe
   generalize hHg:aH R c M1 U V []=H at *
   simp (maxSteps:=1000000) [-map_map,-mapM_map,↓KW,q1,hHr]
   rw [← hHg]
   have hs:=hs0
   clear hs0 hHr hself hsome htop hHg
   refine loopP_inv (fun y:Nat × List (List Int)=>y.1≤R∧Sh R R y.2∧∀ r t,r<R→t<R→ent y.2 r t=ngF U i y.1 r t) (fun y=>⟨sltF [(0,.ptr 0 0),(1,.d (.i .i64 (i:Int))),(5,.d (.i .i64 (y.1:Int)))],aH R c M1 y.2 V [],3 * R+4⟩) (fun y=>R - y.1)
    (0,U) ⟨Nat.zero_le _,hs.u,fun r t hr ht=>(if_neg (by omega)).symm⟩ ?_ ?_
   ·refine ⟨_,wk_id ?_ (fun id o' ho=>⟨o',ho,aH_self hs (fun o ho=>by cases ho) ho⟩) (fun id hid=>aH_top hs hid) (by simp)⟩
    have g0:=aH_some (x:=[]) hs (id:=0) (by omega)
    simp [-map_map,upd,inj1,Γ0,g0]
   ·rintro ⟨s,U1⟩ ⟨hsb,hM1,hME⟩
    simp only at hsb hM1 hME
    have hs0:WS R c M1 U1 V:=⟨hs.m,hM1,hs.v⟩
    have hHr:aH R c M1 U1 V [] 0=some (.cells 212 [.d (.i .i64 (R:Int)),.d (.i .i64 (c:Int)),.own 1 0 R 1,.d (.i .i64 (R:Int)),.d (.i .i64 (R:Int)),.own (R+2) 0 R 1,.d (.i .i64 (R:Int)),.d (.i .i64 (R:Int)),.own (2 * R+3) 0 R 1]):=rfl
    by_cases hgo:s<R
    ·have q1:(s:Int)<R:=by omega
     have hw:IntKind.i64.wrap ((s:Int)+1)=(s:Int)+1:=wrap_i64 (by omega) (by omega)
     have hHh:aH R c M1 U1 V [] (R+2)=some (.cells 112 (hdr R R (R+3))):=aH_hU hs0
     obtain ⟨vi,hvi,hvli,hvei⟩:=hM1.get hi
     have hHi:aH R c M1 U1 V [] (i+(R+3))=some (.cells 69 ((vcs vi).map .d)):=aH_rU hs0 hvi
     have hgi:=hdr_get (c:=R) (b:=(R+3)) hi
     have hggi:∀ h:i<(hdr R R (R+3)).length,(hdr R R (R+3))[i]'h=.own (i+(R+3)) 0 R 2:=fun h=>Option.some.inj ((List.getElem?_eq_getElem h).symm.trans hgi)
     have hvci:=vcs_len vi
     rw [hvli] at hvci
     have hbs:s * 2+2≤R * 2:=by omega
     have hz0:ent U1 i s=ent U i s:=by rw [hME i s (by omega) (by omega)]; exact if_neg (by omega)
     have hrd0:List.take 2 (List.drop (s * 2) ((vcs vi).map AV.d))=[.d (.b (decide (ent U i s<0))),.d (encM (digs (ent U i s).natAbs))]:=by
      rw [← hz0,← hvei s,← List.map_drop,← List.map_take,vcs_get2 (z:=vi.getD s 0) (by rw [List.getD_eq_getElem?_getD,List.getElem?_eq_getElem (by omega)]; rfl)]; rfl
     have hzs0:Sy (ent U i s):=hU i s
     have hneg:=r01NegB (ent U i s) (Nat.le_trans hzs0 (by decide))
     obtain ⟨z,hZ⟩:∃ z,-ent U i s=z:=⟨_,rfl⟩
     rw [hZ] at hneg
     have hM2:Sh R R (U1.set i (vi.set s z)):=ent_set_sh hM1 hvi
     have hs1:WS R c M1 (U1.set i (vi.set s z)) V:=⟨hs.m,hM2,hs.v⟩
     have hupd:upd (aH R c M1 U1 V []) (i+(R+3)) (some (.cells 69 ((vcs (vi.set s z)).map .d)))=aH R c M1 (U1.set i (vi.set s z)) V []:=aH_updU hs0 hi
     have hlay:=lay_row (v:=vi) z (j:=s) (by rw [hvli]; omega)
     have hgl:=hdr_len R R (R+3)
     generalize hz0g:ent U i s=z0 at *
     generalize hHg:aH R c M1 U1 V []=H at *
     generalize hdr R R (R+3)=cellsR at *
     simp (maxSteps:=1000000) [-map_map,-mapM_map,↓KW,q1,hHr,hHh,hHi,hgi,hggi,hvci,hi,hbs,hgo,hrd0,hgl,cellsA_encM,one_encM,inj1_encM,inj_encM,kills_encM]
     refine callP_intro (ds:=[encZ z0]) (by rfl) hneg ?_
     rw [encZ_eq]
     simp (maxSteps:=1000000) [-map_map,-mapM_map,↓KW,hHr,hHh,hHi,hgi,hggi,hvci,hi,hbs,hgo,hrd0,hgl,hw,hlay,cellsA_encM,one_encM,inj1_encM,inj_encM,kills_encM]
     rw [hupd]
     refine nxt_intro (s+1,U1.set i (vi.set s z)) ⟨hgo,hM2,fun r t hr ht=>?_⟩ (Nat.sub_lt_sub_left hgo (Nat.lt_succ_self _)) ?_
     ·rw [ent_set hM1 hi (by omega) hvi,hME r t hr ht,← hZ]
      unfold ngF
      by_cases e:r=i∧t=s
      ·obtain ⟨e1,e2⟩:=e
       subst e1; subst e2
       rw [if_pos ⟨rfl,rfl⟩,if_pos (by omega)]
       rw [← hz0g]
      ·rw [if_neg e]
       split
       ·rw [if_pos (by omega)]
       ·rw [if_neg (by omega)]
     ·refine ⟨_,wk_id ?_ (fun id o' ho=>⟨o',ho,aH_self hs1 (fun o ho=>by cases ho) ho⟩) (fun id hid=>aH_top hs1 hid) (by simp)⟩
      have g0:=aH_some (x:=[]) hs1 (id:=0) (by omega)
      simp [-map_map,upd,inj1,Γ0,g0]
    ·have q1:¬ (s:Int)<R:=by omega
     have es:s=R:=by omega
     have hNe:U1=ngR R R U i:=mk_of hM1 fun r t hr ht=>by rw [hME r t hr ht,es]
     have hsome:=fun id=>aH_some (x:=[]) hs0 (id:=id)
     have hself:=fun (H:Nat→Option HO) id o=>aH_self (x:=[]) hs0 (fun o ho=>by cases ho) (H:=H) (id:=id) (o:=o)
     have htop:=fun id=>aH_top (x:=[]) hs0 (id:=id)
     clear hM1 hME
     rw [← hNe]
     clear hNe
     generalize hHg:aH R c M1 U1 V []=H at *
     simp (maxSteps:=1000000) [-map_map,-mapM_map,↓KW,q1,hHr]
     rw [← hHg]
     have hs:=hs0
     clear hs0 hHr hself hsome htop hHg
     refine loopP_inv (fun y:Nat × List (List Int)=>y.1≤R∧Sh R R y.2∧∀ r t,r<R→t<R→ent y.2 r t=ngC V i y.1 r t) (fun y=>⟨sltF [(0,.ptr 0 0),(1,.d (.i .i64 (i:Int))),(6,.d (.i .i64 (y.1:Int)))],aH R c M1 U1 y.2 [],3 * R+4⟩) (fun y=>R - y.1)
      (0,V) ⟨Nat.zero_le _,hs.v,fun r t hr ht=>(if_neg (by omega)).symm⟩ ?_ ?_
     ·refine ⟨_,wk_id ?_ (fun id o' ho=>⟨o',ho,aH_self hs (fun o ho=>by cases ho) ho⟩) (fun id hid=>aH_top hs hid) (by simp)⟩
      have g0:=aH_some (x:=[]) hs (id:=0) (by omega)
      simp [-map_map,upd,inj1,Γ0,g0]
     ·rintro ⟨s,V1⟩ ⟨hsb,hM1,hME⟩
      simp only at hsb hM1 hME
      have hs0:WS R c M1 U1 V1:=⟨hs.m,hs.u,hM1⟩
      have hHr:aH R c M1 U1 V1 [] 0=some (.cells 212 [.d (.i .i64 (R:Int)),.d (.i .i64 (c:Int)),.own 1 0 R 1,.d (.i .i64 (R:Int)),.d (.i .i64 (R:Int)),.own (R+2) 0 R 1,.d (.i .i64 (R:Int)),.d (.i .i64 (R:Int)),.own (2 * R+3) 0 R 1]):=rfl
      by_cases hgo:s<R
      ·have q1:(s:Int)<R:=by omega
       have hw:IntKind.i64.wrap ((s:Int)+1)=(s:Int)+1:=wrap_i64 (by omega) (by omega)
       have hHh:aH R c M1 U1 V1 [] (2 * R+3)=some (.cells 112 (hdr R R (2 * R+4))):=aH_hV hs0
       obtain ⟨vs,hvs,hvls,hves⟩:=hM1.get hgo
       have hHs:aH R c M1 U1 V1 [] (s+(2 * R+4))=some (.cells 69 ((vcs vs).map .d)):=aH_rV hs0 hvs
       have hgs:=hdr_get (c:=R) (b:=(2 * R+4)) hgo
       have hggs:∀ h:s<(hdr R R (2 * R+4)).length,(hdr R R (2 * R+4))[s]'h=.own (s+(2 * R+4)) 0 R 2:=fun h=>Option.some.inj ((List.getElem?_eq_getElem h).symm.trans hgs)
       have hvcs:=vcs_len vs
       rw [hvls] at hvcs
       have hbi:i * 2+2≤R * 2:=by omega
       have hz0:ent V1 s i=ent V s i:=by rw [hME s i (by omega) (by omega)]; exact if_neg (by omega)
       have hrd0:List.take 2 (List.drop (i * 2) ((vcs vs).map AV.d))=[.d (.b (decide (ent V s i<0))),.d (encM (digs (ent V s i).natAbs))]:=by
        rw [← hz0,← hves i,← List.map_drop,← List.map_take,vcs_get2 (z:=vs.getD i 0) (by rw [List.getD_eq_getElem?_getD,List.getElem?_eq_getElem (by omega)]; rfl)]; rfl
       have hzs0:Sy (ent V s i):=hV s i
       have hneg:=r01NegB (ent V s i) (Nat.le_trans hzs0 (by decide))
       obtain ⟨z,hZ⟩:∃ z,-ent V s i=z:=⟨_,rfl⟩
       rw [hZ] at hneg
       have hM2:Sh R R (V1.set s (vs.set i z)):=ent_set_sh hM1 hvs
       have hs1:WS R c M1 U1 (V1.set s (vs.set i z)):=⟨hs.m,hs.u,hM2⟩
       have hupd:upd (aH R c M1 U1 V1 []) (s+(2 * R+4)) (some (.cells 69 ((vcs (vs.set i z)).map .d)))=aH R c M1 U1 (V1.set s (vs.set i z)) []:=aH_updV hs0 hgo
       have hlay:=lay_row (v:=vs) z (j:=i) (by rw [hvls]; omega)
       have hgl:=hdr_len R R (2 * R+4)
       generalize hz0g:ent V s i=z0 at *
       generalize hHg:aH R c M1 U1 V1 []=H at *
       generalize hdr R R (2 * R+4)=cellsR at *
       simp (maxSteps:=1000000) [-map_map,-mapM_map,↓KW,q1,hHr,hHh,hHs,hgs,hggs,hvcs,hgo,hbi,hi,hrd0,hgl,cellsA_encM,one_encM,inj1_encM,inj_encM,kills_encM]
       refine callP_intro (ds:=[encZ z0]) (by rfl) hneg ?_
       rw [encZ_eq]
       simp (maxSteps:=1000000) [-map_map,-mapM_map,↓KW,hHr,hHh,hHs,hgs,hggs,hvcs,hgo,hbi,hi,hrd0,hgl,hw,hlay,cellsA_encM,one_encM,inj1_encM,inj_encM,kills_encM]
       rw [hupd]
       refine nxt_intro (s+1,V1.set s (vs.set i z)) ⟨hgo,hM2,fun r t hr ht=>?_⟩ (Nat.sub_lt_sub_left hgo (Nat.lt_succ_self _)) ?_
       ·rw [ent_set hM1 hgo (by omega) hvs,hME r t hr ht,← hZ]
        unfold ngC
        by_cases e:r=s∧t=i
        ·obtain ⟨e1,e2⟩:=e
         subst e1; subst e2
         rw [if_pos ⟨rfl,rfl⟩,if_pos (by omega)]
         rw [← hz0g]
        ·rw [if_neg e]
         split
         ·rw [if_pos (by omega)]
         ·rw [if_neg (by omega)]
       ·refine ⟨_,wk_id ?_ (fun id o' ho=>⟨o',ho,aH_self hs1 (fun o ho=>by cases ho) ho⟩) (fun id hid=>aH_top hs1 hid) (by simp)⟩
        have g0:=aH_some (x:=[]) hs1 (id:=0) (by omega)
        simp [-map_map,upd,inj1,Γ0,g0]
      ·have q1:¬ (s:Int)<R:=by omega
       have es:s=R:=by omega
       have hNe:V1=ngV R V i:=mk_of hM1 fun r t hr ht=>by rw [hME r t hr ht,es]
       have hsome:=fun id=>aH_some (x:=[]) hs0 (id:=id)
       have hself:=fun (H:Nat→Option HO) id o=>aH_self (x:=[]) hs0 (fun o ho=>by cases ho) (H:=H) (id:=id) (o:=o)
       have htop:=fun id=>aH_top (x:=[]) hs0 (id:=id)
       clear hM1 hME
       rw [← hNe]
       clear hNe
       generalize hHg:aH R c M1 U1 V1 []=H at *
       simp (maxSteps:=1000000) [-map_map,-mapM_map,↓KW,q1,hHr]
       rw [← hHg]
       exact aH_end hs0 (Nat.succ_ne_zero _)
end Go.Am
end

section
set_option linter.unusedVariables false
set_option linter.unusedSimpArgs false
open List (map_map mapM_map)
open Go Go.Am Go.Proofs
namespace Go.Am
def hdsw (c n b i j:Nat):List AV:=lay (lay (hdr c n b) i [.own (j+b) 0 c 2]) j [.own (i+b) 0 c 2]
theorem hdsw_len {c n b i j:Nat} (hi:i<n) (hj:j<n):(hdsw c n b i j).length=n:=by
 unfold hdsw
 have h1:(lay (hdr c n b) i [.own (j+b) 0 c 2]).length=n:=by rw [lay_length (by rw [hdr_len]; exact hi),hdr_len]
 rw [lay_length (by rw [h1]; exact hj),h1]
theorem hdsw_get {c n b i j k:Nat} (hi:i<n) (hj:j<n) (hk:k<n):(hdsw c n b i j)[k]? = some (.own (swp i j k+b) 0 c 2):=by
 unfold hdsw
 have h1:(lay (hdr c n b) i [.own (j+b) 0 c 2]).length=n:=by rw [lay_length (by rw [hdr_len]; exact hi),hdr_len]
 rw [lay_get (by rw [h1]; exact hj),lay_get (by rw [hdr_len]; exact hi)]
 simp only [List.length_singleton]
 unfold swp
 by_cases e1:k=j
 ·subst e1
  rw [if_pos (by omega),Nat.sub_self]
  by_cases e2:k=i
  ·subst e2; rw [if_pos rfl]; rfl
  ·rw [if_neg e2,if_pos rfl]; rfl
 ·rw [if_neg (by omega)]
  by_cases e2:k=i
  ·subst e2; rw [if_pos (by omega),if_pos rfl,Nat.sub_self]; rfl
  ·rw [if_neg (by omega),if_neg e2,if_neg e1,hdr_get hk]
theorem swR_get {R c i j t:Nat} {M:List (List Int)} (h:Sh R c M) (hi:i<R) (hj:j<R) (ht:t<R):(swR R c M i j)[t]? = M[swp i j t]? := by
 obtain ⟨v,h1,h2,h3⟩:=(mk_sh R c fun r t=>ent M (swp i j r) t).get ht
 obtain ⟨v',g1,g2,g3⟩:=h.get (swp_lt hi hj ht)
 unfold swR
 rw [h1,g1]
 congr 1
 refine List.ext_getElem (by rw [h2,g2]) fun s a1 a2=>?_
 have e1:=h3 s
 have e2:=g3 s
 rw [mk_ent _ ht (by omega)] at e1
 rw [List.getD_eq_getElem?_getD,List.getElem?_eq_getElem a1] at e1
 rw [List.getD_eq_getElem?_getD,List.getElem?_eq_getElem a2] at e2
 simp only [Option.getD_some] at e1 e2
 rw [e1,e2]
theorem app_at {α:Type} {a b:List α} {n k:Nat} (h:a.length=n):(a++b)[k+n]? = b[k]? := by
 rw [List.getElem?_append_right (by omega),h,Nat.add_sub_cancel]
def swN (R i j:Nat) (id:Nat):Nat:=if 2≤id∧id<R+2 then swp i j (id - 2)+2 else if R+3≤id∧id<2 * R+3 then swp i j (id - (R+3))+(R+3) else id
theorem wk_sw {R c i j n:Nat} {M U V:List (List Int)} {Γ:Nat→AV} {sl:List (Nat × AV)} {H:Nat→Option HO} (hs:WS R c M U V) (hi:i<R) (hj:j<R)
  (h1:H 1=some (.cells 112 (hdsw c R 2 i j))) (h2:H (R+2)=some (.cells 112 (hdsw R R (R+3) i j))) (ho:∀ id,id≠1→id≠R+2→H id=aH R c M U V [] id)
  (hslot:slotsOk H (aH R c (swR R c M i j) (swR R R U i j) V []) (swN R i j) Γ sl):∃ ρ,Wk ⟨Γ,H,n+1⟩ ⟨sltF sl,aH R c (swR R c M i j) (swR R R U i j) V [],3 * R+4⟩ ρ:=by
 have hs':WS R c (swR R c M i j) (swR R R U i j) V:=⟨mk_sh _ _ _,mk_sh _ _ _,hs.v⟩
 have hlen:=aL_len (x:=[]) hs'
 have hsome:=fun id=>aH_some (x:=[]) hs' (id:=id)
 have hge:∀ id,(aH R c (swR R c M i j) (swR R R U i j) V [] id).isSome=true→id<3 * R+4:=fun id h=>by
  have:=(famH_lt h).2
  rw [hlen] at this; simpa using this
 have n2:∀ t,t<R→swN R i j (t+2)=swp i j t+2:=fun t ht=>by unfold swN; rw [if_pos (by omega),Nat.add_sub_cancel]
 have n3:∀ t,t<R→swN R i j (t+(R+3))=swp i j t+(R+3):=fun t ht=>by unfold swN; rw [if_neg (by omega),if_pos (by omega),Nat.add_sub_cancel]
 have n0:∀ id,id<2→swN R i j id=id:=fun id h=>by unfold swN; rw [if_neg (by omega),if_neg (by omega)]
 have n1:swN R i j (R+2)=R+2:=by unfold swN; rw [if_neg (by omega),if_neg (by omega)]
 have n4:∀ id,2 * R+3≤id→swN R i j id=id:=fun id h=>by unfold swN; rw [if_neg (by omega),if_neg (by omega)]
 have hk:∀ t,t<R→swp i j t<R:=fun t ht=>swp_lt hi hj ht
 have cases5:∀ id,id<3 * R+4→id=0∨id=1∨(∃ t,t<R∧id=t+2)∨id=R+2∨(∃ t,t<R∧id=t+(R+3))∨2 * R+3≤id:=fun id h=>by
  by_cases a:id<2
  ·omega
  ·by_cases b:id<R+2
   ·exact .inr (.inr (.inl ⟨id - 2,by omega,by omega⟩))
   ·by_cases d:id=R+2
    ·exact .inr (.inr (.inr (.inl d)))
    ·by_cases f:id<2 * R+3
     ·exact .inr (.inr (.inr (.inr (.inl ⟨id - (R+3),by omega,by omega⟩))))
     ·exact .inr (.inr (.inr (.inr (.inr (by omega)))))
 refine ⟨_,wk_gen (swN R i j) hslot (fun id o' h=>?_) (fun id id' g1 g2 e=>?_) (fun _=>n0 0 (by omega)) (fun id hid=>aH_top hs' hid) (by omega)⟩
 ·show ∃ o,H (swN R i j id)=some o∧SubO H _ (swN R i j) o o'
  have hid:=hge id (by rw [h]; rfl)
  rcases cases5 id hid with rfl | rfl | ⟨t,ht,rfl⟩ | rfl | ⟨t,ht,rfl⟩ | hbig
  ·rw [n0 0 (by omega),ho 0 (by omega) (by omega)]
   rw [aH_root] at h
   injection h with h; subst h
   have m1:=n0 1 (by omega)
   have m2:=n4 (2 * R+3) (by omega)
   have s1:=hsome 1 (by omega)
   have s2:=hsome (R+2) (by omega)
   have s3:=hsome (2 * R+3) (by omega)
   refine ⟨_,aH_root,?_⟩
   unfold wR0 wRt
   simp [-map_map,upd,inj1,Γ0,]
   exact ⟨⟨m1.symm,rfl,rfl,rfl,s1⟩,⟨n1.symm,rfl,rfl,rfl,s2⟩,⟨m2.symm,rfl,rfl,rfl,s3⟩⟩
  ·rw [n0 1 (by omega),h1]
   rw [aH_hM hs'] at h
   injection h with h; subst h
   refine ⟨_,rfl,subO_cells.2 ⟨rfl,cellsOk_iff.2 ⟨by rw [hdsw_len hi hj,hdr_len],fun k x y a1 a2=>?_⟩⟩⟩
   have hkR:k<R:=by have:=(List.getElem?_eq_some_iff.1 a2).1; rwa [hdr_len] at this
   rw [hdsw_get hi hj hkR] at a1; injection a1 with a1; subst a1
   rw [hdr_get hkR] at a2; injection a2 with a2; subst a2
   exact ⟨(n2 k hkR).symm,rfl,rfl,rfl,hsome _ (by omega)⟩
  ·rw [n2 t ht,ho _ (by omega) (by have:=hk t ht; omega)]
   obtain ⟨v,hv,_⟩:=hs.m.get (hk t ht)
   rw [aH_rM (v:=v) (by rw [swR_get hs.m hi hj ht]; exact hv)] at h
   injection h with h; subst h
   exact ⟨_,aH_rM hv,subO_data _ _⟩
  ·rw [n1,h2]
   rw [aH_hU hs'] at h
   injection h with h; subst h
   refine ⟨_,rfl,subO_cells.2 ⟨rfl,cellsOk_iff.2 ⟨by rw [hdsw_len hi hj,hdr_len],fun k x y a1 a2=>?_⟩⟩⟩
   have hkR:k<R:=by have:=(List.getElem?_eq_some_iff.1 a2).1; rwa [hdr_len] at this
   rw [hdsw_get hi hj hkR] at a1; injection a1 with a1; subst a1
   rw [hdr_get hkR] at a2; injection a2 with a2; subst a2
   exact ⟨(n3 k hkR).symm,rfl,rfl,rfl,hsome _ (by omega)⟩
  ·rw [n3 t ht,ho _ (by have:=hk t ht; omega) (by omega)]
   obtain ⟨v,hv,_⟩:=hs.u.get (hk t ht)
   rw [aH_rU hs' (v:=v) (by rw [swR_get hs.u hi hj ht]; exact hv)] at h
   injection h with h; subst h
   exact ⟨_,aH_rU hs hv,subO_data _ _⟩
  ·rw [n4 id hbig,ho id (by omega) (by omega)]
   have hmem:o'∈mB R V (2 * R+3):=by
    obtain ⟨k,rfl⟩:∃ k,id=k+(2 * R+3):=⟨id - (2 * R+3),by omega⟩
    unfold aH at h
    rw [aL_V] at h
    have l2:(wR0 R c::(mB c (swR R c M i j) 1++mB R (swR R R U i j) (R+2))).length=2 * R+3:=by rw [List.length_cons,List.length_append,mB_len,mB_len,hs'.m.len,hs'.u.len]; omega
    unfold famH at h
    rw [if_neg (by omega),List.append_assoc,Nat.sub_zero,app_at l2,List.append_nil] at h
    exact List.mem_of_getElem? h
   have eqV:aH R c M U V [] id=aH R c (swR R c M i j) (swR R R U i j) V [] id:=by
    unfold aH
    rw [aL_V,aL_V]
    obtain ⟨k,rfl⟩:∃ k,id=k+(2 * R+3):=⟨id - (2 * R+3),by omega⟩
    have l1:(wR0 R c::(mB c M 1++mB R U (R+2))).length=2 * R+3:=by rw [List.length_cons,List.length_append,mB_len,mB_len,hs.m.len,hs.u.len]; omega
    have l2:(wR0 R c::(mB c (swR R c M i j) 1++mB R (swR R R U i j) (R+2))).length=2 * R+3:=by rw [List.length_cons,List.length_append,mB_len,mB_len,hs'.m.len,hs'.u.len]; omega
    unfold famH
    rw [if_neg (by omega),if_neg (by omega),List.append_assoc,List.append_assoc,Nat.sub_zero,app_at l1,app_at l2]
   rw [eqV,h]
   refine ⟨o',rfl,rf_self (rfO_mB (a:=2 * R+3) (n:=3 * R+4) (by omega) (by rw [hs.v.len]; omega) o' hmem) fun id g1 g2=>⟨(n4 id g1).symm,hsome id (by show _<_+0; omega)⟩⟩
 ·have inv:∀ id,id<3 * R+4→swN R i j (swN R i j id)=id:=fun id h=>by
   rcases cases5 id h with rfl | rfl | ⟨t,ht,rfl⟩ | rfl | ⟨t,ht,rfl⟩ | hbig
   ·rw [n0 0 (by omega),n0 0 (by omega)]
   ·rw [n0 1 (by omega),n0 1 (by omega)]
   ·rw [n2 t ht,n2 _ (hk t ht),swp_swp]
   ·rw [n1,n1]
   ·rw [n3 t ht,n3 _ (hk t ht),swp_swp]
   ·rw [n4 id hbig,n4 id hbig]
  rw [← inv id (hge id g1),← inv id' (hge id' g2)]
  exact congrArg _ e
end Go.Am
end

section
set_option linter.unusedVariables false
set_option linter.unusedSimpArgs false
open List (map_map mapM_map)
open Go Go.Am Go.Proofs
namespace Go.Am
set_option maxHeartbeats 1000000 in
set_option maxRecDepth 10000 in
theorem r12Swap {R c i j:Nat} {M U V:List (List Int)} (hs:WS R c M U V) (hR:R≤1000) (hc:c≤1000) (hi:i<R) (hj:j<R) :
  TSpec Tryz.prog 173 (.ptr 0 0) (wR0 R c) (wH R c M U V) [.i .i64 (i:Int),.i .i64 (j:Int)] (wR0 R c) (wH R c (swR R c M i j) (swR R R U i j) (swV R V i j)) (.tp []):=by
 refine tspec_of0 (N:=123) follows_mixed Tryz.func173 rfl rfl rfl rfl (by kernel_rfl) (by kernel_rfl) (by simp) ?_
 have hl:(wH R c M U V).length=3 * R+3:=wHs_len hs _ _ _
 have hHr:aH R c M U V [] 0=some (.cells 212 [.d (.i .i64 (R:Int)),.d (.i .i64 (c:Int)),.own 1 0 R 1,.d (.i .i64 (R:Int)),.d (.i .i64 (R:Int)),.own (R+2) 0 R 1,.d (.i .i64 (R:Int)),.d (.i .i64 (R:Int)),.own (2 * R+3) 0 R 1]):=rfl
 have hHh:aH R c M U V [] 1=some (.cells 112 (hdr c R 2)):=aH_hM hs
 have hHu:aH R c M U V [] (R+2)=some (.cells 112 (hdr R R (R+3))):=aH_hU hs
 have hgi:=hdr_get (c:=c) (b:=2) hi
 have hgj:=hdr_get (c:=c) (b:=2) hj
 have hui:=hdr_get (c:=R) (b:=R+3) hi
 have huj:=hdr_get (c:=R) (b:=R+3) hj
 have hgl:=hdr_len c R 2
 have hul:=hdr_len R R (R+3)
 obtain ⟨m1,hm1⟩:∃ m1,lay (hdr c R 2) i [.own (j+2) 0 c 2]=m1:=⟨_,rfl⟩
 obtain ⟨m2,hm2⟩:∃ m2,lay m1 j [.own (i+2) 0 c 2]=m2:=⟨_,rfl⟩
 obtain ⟨u1,hu1⟩:∃ u1,lay (hdr R R (R+3)) i [.own (j+(R+3)) 0 R 2]=u1:=⟨_,rfl⟩
 obtain ⟨u2,hu2⟩:∃ u2,lay u1 j [.own (i+(R+3)) 0 R 2]=u2:=⟨_,rfl⟩
 have hm1l:m1.length=R:=by rw [← hm1,lay_length (by rw [hdr_len]; exact hi),hdr_len]
 have hu1l:u1.length=R:=by rw [← hu1,lay_length (by rw [hdr_len]; exact hi),hdr_len]
 have hm3:m2=hdsw c R 2 i j:=by rw [← hm2,← hm1]; rfl
 have hu3:u2=hdsw R R (R+3) i j:=by rw [← hu2,← hu1]; rfl
 have e1:R+2≠1:=by omega
 have e2:∀ h:i<(hdr c R 2).length,(hdr c R 2)[i]'h=.own (i+2) 0 c 2:=fun h=>Option.some.inj ((List.getElem?_eq_getElem h).symm.trans hgi)
 have e3:∀ h:j<(hdr c R 2).length,(hdr c R 2)[j]'h=.own (j+2) 0 c 2:=fun h=>Option.some.inj ((List.getElem?_eq_getElem h).symm.trans hgj)
 have e4:∀ h:i<(hdr R R (R+3)).length,(hdr R R (R+3))[i]'h=.own (i+(R+3)) 0 R 2:=fun h=>Option.some.inj ((List.getElem?_eq_getElem h).symm.trans hui)
 have e5:∀ h:j<(hdr R R (R+3)).length,(hdr R R (R+3))[j]'h=.own (j+(R+3)) 0 R 2:=fun h=>Option.some.inj ((List.getElem?_eq_getElem h).symm.trans huj)
 have hst:StT (.ptr 0 0) (wR0 R c) (wH R c M U V) [.i .i64 (i:Int),.i .i64 (j:Int)] 123=⟨(StT (.ptr 0 0) (wR0 R c) (wH R c M U V) [.i .i64 (i:Int),.i .i64 (j:Int)] 123).Γ,aH R c M U V [],3 * R+4⟩:=by
  rw [← aH_nil]; unfold StT; rw [hl]
 have hself:=fun id o=>aH_self (x:=[]) hs (fun o ho=>by cases ho) (H:=aH R c M U V []) (id:=id) (o:=o)
 rw [hst]
 clear hst
 obtain ⟨H,hHg⟩:∃ H,aH R c M U V []=H:=⟨_,rfl⟩
 obtain ⟨cellsM,hcM⟩:∃ l,hdr c R 2=l:=⟨_,rfl⟩
 obtain ⟨cellsU,hcU⟩:∃ l,hdr R R (R+3)=l:=⟨_,rfl⟩
 rw [hHg,hcM] at hHh
 rw [hHg,hcU] at hHu
 rw [hHg] at hHr ⊢
 simp only [hcM] at hgi hgj hgl hm1 e2 e3
 simp only [hcU] at hui huj hul hu1 e4 e5
 have hi1:i+1≤R:=hi
 have hj1:j+1≤R:=hj
 simp (maxSteps:=1000000) [-map_map,-mapM_map,↓KW,StT,hi1,hj1,hHr,hHh,hHu,hgi,hgj,hui,huj,hgl,hul,hm1,hm2,hu1,hu2,hm1l,hu1l,e1,e2,e3,e4,e5,hi,hj]
 have hs':WS R c (swR R c M i j) (swR R R U i j) V:=⟨mk_sh _ _ _,mk_sh _ _ _,hs.v⟩
 refine loopP_inv (fun y:Nat × List (List Int)=>y.1≤R∧Sh R R y.2∧∀ r t,r<R→t<R→ent y.2 r t=swC V i j y.1 r t) (fun y=>⟨sltF [(0,.ptr 0 0),(1,.d (.i .i64 (i:Int))),(2,.d (.i .i64 (j:Int))),(7,.d (.i .i64 (y.1:Int)))],aH R c (swR R c M i j) (swR R R U i j) y.2 [],3 * R+4⟩) (fun y=>R - y.1)
  (0,V) ⟨Nat.zero_le _,hs.v,fun r t hr ht=>by unfold swC; rw [if_neg (by omega)]⟩ ?_ ?_
 ·refine wk_sw (n:=3 * R+3) hs hi hj ?_ ?_ (fun id h1 h2=>?_) ?_
  ·simp [upd,hm3]
  ·simp [upd,hu3]
  ·simp only [upd]
   rw [if_neg h2,if_neg h2,if_neg h1,if_neg h1,hHg]
  ·have g0:=aH_some (x:=[]) hs' (id:=0) (by omega)
   have g1:swN R i j 0=0:=by unfold swN; rw [if_neg (by omega),if_neg (by omega)]
   simp [-map_map,upd,inj1,Γ0,g0,g1]
 ·rintro ⟨s,V1⟩ ⟨hsb,hM1,hME⟩
  simp only at hsb hM1 hME
  have hm:(swR R c M i j)=(swR R c M i j):=rfl
  generalize hMg:swR R c M i j=M1 at *
  generalize hUg:swR R R U i j=U1 at *
  have hs0:WS R c M1 U1 V1:=⟨hs'.m,hs'.u,hM1⟩
  have hHr:aH R c M1 U1 V1 [] 0=some (.cells 212 [.d (.i .i64 (R:Int)),.d (.i .i64 (c:Int)),.own 1 0 R 1,.d (.i .i64 (R:Int)),.d (.i .i64 (R:Int)),.own (R+2) 0 R 1,.d (.i .i64 (R:Int)),.d (.i .i64 (R:Int)),.own (2 * R+3) 0 R 1]):=rfl
  by_cases hgo:s<R
  ·have q1:(s:Int)<R:=by omega
   have hw:IntKind.i64.wrap ((s:Int)+1)=(s:Int)+1:=wrap_i64 (by omega) (by omega)
   have hHh:aH R c M1 U1 V1 [] (2 * R+3)=some (.cells 112 (hdr R R (2 * R+4))):=aH_hV hs0
   obtain ⟨vs,hvs,hvls,hves⟩:=hM1.get hgo
   have hHs:aH R c M1 U1 V1 [] (s+(2 * R+4))=some (.cells 69 ((vcs vs).map .d)):=aH_rV hs0 hvs
   have hgs:=hdr_get (c:=R) (b:=(2 * R+4)) hgo
   have hggs:∀ h:s<(hdr R R (2 * R+4)).length,(hdr R R (2 * R+4))[s]'h=.own (s+(2 * R+4)) 0 R 2:=fun h=>Option.some.inj ((List.getElem?_eq_getElem h).symm.trans hgs)
   have hvcs:=vcs_len vs
   rw [hvls] at hvcs
   have hbi:i * 2+2≤R * 2:=by omega
   have hbj:j * 2+2≤R * 2:=by omega
   obtain ⟨z0,hz0⟩:∃ z,ent V1 s i=z:=⟨_,rfl⟩
   obtain ⟨z1,hz1⟩:∃ z,ent V1 s j=z:=⟨_,rfl⟩
   have hrd0:List.take 2 (List.drop (i * 2) ((vcs vs).map AV.d))=[.d (.b (decide (z0<0))),.d (encM (digs z0.natAbs))]:=by
    rw [← hz0,← hves i,← List.map_drop,← List.map_take,vcs_get2 (z:=vs.getD i 0) (by rw [List.getD_eq_getElem?_getD,List.getElem?_eq_getElem (by omega)]; rfl)]; rfl
   have hrd1:List.take 2 (List.drop (j * 2) ((vcs vs).map AV.d))=[.d (.b (decide (z1<0))),.d (encM (digs z1.natAbs))]:=by
    rw [← hz1,← hves j,← List.map_drop,← List.map_take,vcs_get2 (z:=vs.getD j 0) (by rw [List.getD_eq_getElem?_getD,List.getElem?_eq_getElem (by omega)]; rfl)]; rfl
   obtain ⟨vs1,hvs1⟩:∃ v,vs.set i z1=v:=⟨_,rfl⟩
   have hlay:=lay_row (v:=vs) z1 (j:=i) (by rw [hvls]; omega)
   rw [hvs1] at hlay
   have hvls1:vs1.length=R:=by rw [← hvs1,List.length_set]; exact hvls
   have hvcs1:=vcs_len vs1
   rw [hvls1] at hvcs1
   have hlay1:=lay_row (v:=vs1) z0 (j:=j) (by rw [hvls1]; omega)
   have hM2:Sh R R (V1.set s vs1):=by rw [← hvs1]; exact ent_set_sh hM1 hvs
   have hvs2:(V1.set s vs1)[s]? = some vs1:=List.getElem?_set_self (by rw [hM1.len]; exact hgo)
   have hM3:Sh R R ((V1.set s vs1).set s (vs1.set j z0)):=ent_set_sh hM2 hvs2
   have hs1:WS R c M1 U1 ((V1.set s vs1).set s (vs1.set j z0)):=⟨hs'.m,hs'.u,hM3⟩
   have hs2:WS R c M1 U1 (V1.set s vs1):=⟨hs'.m,hs'.u,hM2⟩
   have hupd:upd (aH R c M1 U1 V1 []) (s+(2 * R+4)) (some (.cells 69 ((vcs vs1).map .d)))=aH R c M1 U1 (V1.set s vs1) []:=aH_updV hs0 hgo
   have hupd2:upd (aH R c M1 U1 (V1.set s vs1) []) (s+(2 * R+4)) (some (.cells 69 ((vcs (vs1.set j z0)).map .d)))=aH R c M1 U1 ((V1.set s vs1).set s (vs1.set j z0)) []:=aH_updV hs2 hgo
   have hgl:=hdr_len R R (2 * R+4)
   have k1:s+(2 * R+4)≠3 * R+4:=by omega
   have k2:2 * R+3≠3 * R+4:=by omega
   have k3:2 * R+3≠s+(2 * R+4):=by omega
   have k4:3 * R+4≠s+(2 * R+4):=by omega
   have k1':¬ s+2 * R=3 * R:=by omega
   have k2':¬ 2 * R=3 * R+1:=by omega
   have k3':¬ 2 * R=s+(2 * R+1):=by omega
   have k4':¬ 3 * R=s+2 * R:=by omega
   obtain ⟨H,hHg⟩:∃ H,aH R c M1 U1 V1 []=H:=⟨_,rfl⟩
   obtain ⟨cells,hc⟩:∃ l,hdr R R (2 * R+4)=l:=⟨_,rfl⟩
   rw [hHg] at hHr hHh hHs hupd ⊢
   simp only [hc] at hHh hgs hggs hgl
   simp (maxSteps:=1000000) [-map_map,-mapM_map,↓KW,q1,hHr,hHh,hHs,hgs,hggs,hvcs,hvcs1,hi,hj,hbi,hbj,hrd0,hrd1,hlay,hlay1,hgl,hgo,hw,k1,k2,k3,k4,k1',k2',k3',k4',cellsA_encM,one_encM,inj1_encM,inj_encM,kills_encM]
   refine nxt_intro (s+1,(V1.set s vs1).set s (vs1.set j z0)) ⟨hgo,hM3,fun r t hr ht=>?_⟩ (Nat.sub_lt_sub_left hgo (Nat.lt_succ_self _)) ?_
   ·have a1:=ent_set (i:=s) (j:=i) (z:=z1) hM1 hgo hi hvs r t
    rw [hvs1] at a1
    rw [ent_set hM2 hgo hj hvs2,a1,hME r t hr ht,← hz0,← hz1,hME s i hgo hi,hME s j hgo hj]
    unfold swC swp
    by_cases e:r=s
    ·subst e
     simp only [true_and,Nat.lt_irrefl,if_false,Nat.lt_succ_self,if_true]
     by_cases a:t=j
     ·subst a
      rw [if_pos rfl]
      by_cases b:t=i
      ·rw [if_pos b,b]
      ·rw [if_neg b,if_pos rfl]
     ·rw [if_neg a]
      by_cases b:t=i
      ·rw [if_pos b,if_pos b]
      ·rw [if_neg b,if_neg b,if_neg a]
    ·simp only [e,false_and,if_false]
     by_cases g:r<s
     ·rw [if_pos g,if_pos (show r<s+1 by omega)]
     ·rw [if_neg g,if_neg (show ¬ r<s+1 by omega)]
   ·refine ⟨_,wk_id ?_ (fun id o' ho=>?_) (fun id hid=>aH_top hs1 hid) (by simp)⟩
    ·have g0:=aH_some (x:=[]) hs1 (id:=0) (by omega)
     rw [List.set_set] at g0
     simp [-map_map,upd,inj1,Γ0,g0]
    ·have hlt:id<3 * R+4:=by
      have:=(famH_lt (b:=0) (l:=aL R c M1 U1 ((V1.set s vs1).set s (vs1.set j z0)) []) (id:=id) (by unfold aH at ho; rw [ho]; rfl)).2
      rw [aL_len hs1] at this; simpa using this
     refine ⟨o',?_,aH_self hs1 (fun o ho=>by cases ho) ho⟩
     rw [← hupd2,← hupd] at ho
     simp only [upd] at ho ⊢
     by_cases e:id=s+(2 * R+4)
     ·rw [if_pos e] at ho ⊢; exact ho
     ·rw [if_neg e,if_neg e] at ho
      rw [if_neg e,if_neg e,if_neg (by omega),if_neg (by omega)]; exact ho
  ·have q1:¬ (s:Int)<R:=by omega
   have es:s=R:=by omega
   have hNe:V1=swV R V i j:=mk_of hM1 fun r t hr ht=>by rw [hME r t hr ht,es]
   obtain ⟨H,hHg⟩:∃ H,aH R c M1 U1 V1 []=H:=⟨_,rfl⟩
   rw [hHg] at hHr
   rw [← hNe,hHg]
   simp (maxSteps:=1000000) [-map_map,-mapM_map,↓KW,q1,hHr]
   rw [← hHg]
   exact aH_end hs0 (Nat.succ_ne_zero _)
end Go.Am
end

section
set_option linter.unusedVariables false
set_option linter.unusedSimpArgs false
open List (map_map mapM_map)
open Go Go.Am Go.Proofs
namespace Go.Am
/-! What a relation says of its first state -/
theorem Eu.ok {R c col top i:Nat} {w w':W3} (h:Eu R c col top i w w'):Ok R c w:=by cases h <;> assumption
theorem Ei.ok {R c col top i:Nat} {w w':W3} (h:Ei R c col top i w w'):Ok R c w:=by
 cases h with
 | done _ _ ok _=>exact ok
 | go _ _ _ _ _ h1 _=>exact h1.ok
theorem Rd.ok {R c col top i:Nat} {w w':W3} (h:Rd R c col top i w w'):Ok R c w:=by cases h <;> assumption
theorem Fo.ok {R c col top:Nat} {w w':W3} (h:Fo R c col top w w'):Ok R c w:=by
 cases h with
 | done _ _ _ ok _=>exact ok
 | zero _ _ _ _ _ _ _ h3 _ _=>exact h3.ok
 | piv _ _ _ _ _ _ _ _ h3 _ _ _=>exact h3.ok
theorem Eu.end {R c col top i:Nat} {w w':W3} (h:Eu R c col top i w w') (h0:ent w.M i col=0):w=w':=by
 cases h with
 | done _ _ _=>rfl
 | go _ _ _ h1 _=>exact absurd h0 h1
theorem Eu.next {R c col top i:Nat} {w w':W3} (h:Eu R c col top i w w') (h0:ent w.M i col≠0):Eu R c col top i (euS R c col top i w) w':=by
 cases h with
 | done _ _ h1=>exact absurd h1 h0
 | go _ _ _ _ h2=>exact h2
theorem Eu.less {R c col top i:Nat} {w:W3} (hcol:col<c) (hti:top<i) (hiR:i<R) (hy:ent w.M i col≠0):(ent (euS R c col top i w).M i col).natAbs<(ent w.M i col).natAbs:=by
 have hy1:ent (euS R c col top i w).M i col=ent w.M top col % ent w.M i col:=by
  rw [euS_M (by omega) (by omega) hiR hiR hcol,if_neg (by omega),if_pos rfl]
  have:=Int.mul_ediv_add_emod (ent w.M top col) (ent w.M i col)
  rw [Int.mul_comm (ent w.M top col / _)]; omega
 have hlt:=Int.emod_lt (ent w.M top col) hy
 have hnn:=Int.emod_nonneg (ent w.M top col) hy
 rw [hy1]; omega
theorem Ei.end {R c col top i:Nat} {w w':W3} (h:Ei R c col top i w w') (h0:¬ i<R):w=w':=by
 cases h with
 | done _ _ _ _=>rfl
 | go _ _ _ _ h1 _ _=>exact absurd h1 h0
theorem Ei.next {R c col top i:Nat} {w w':W3} (h:Ei R c col top i w w') (h0:i<R):∃ w1,Eu R c col top i w w1∧Ei R c col top (i+1) w1 w':=by
 cases h with
 | done _ _ _ h1=>omega
 | go _ _ w1 _ _ h1 h2=>exact ⟨w1,h1,h2⟩
theorem Rd.end {R c col top i:Nat} {w w':W3} (h:Rd R c col top i w w') (h0:¬ i<top):w=w':=by
 cases h with
 | done _ _ _ _=>rfl
 | go _ _ _ _ h1 _=>exact absurd h1 h0
theorem Rd.next {R c col top i:Nat} {w w':W3} (h:Rd R c col top i w w') (h0:i<top):Rd R c col top (i+1) (rdS R c col top i w) w':=by
 cases h with
 | done _ _ _ h1=>omega
 | go _ _ _ _ _ h2=>exact h2
theorem Fo.end {R c col top:Nat} {w w':W3} (h:Fo R c col top w w') (h0:¬ (col<c∧top<R)):w=w':=by
 cases h with
 | done _ _ _ _ _=>rfl
 | zero _ _ _ _ _ h1 h2 _ _ _=>exact absurd ⟨h1,h2⟩ h0
 | piv _ _ _ _ _ _ h1 h2 _ _ _ _=>exact absurd ⟨h1,h2⟩ h0
theorem Fo.next {R c col top:Nat} {w w':W3} (h:Fo R c col top w w') (h0:col<c∧top<R):∃ w1,Ei R c col top (top+1) w w1∧((ent w1.M top col=0∧Fo R c (col+1) top w1 w')∨(ent w1.M top col≠0∧∃ w2,Rd R c col top 0 (ngS R c col top w1) w2∧Fo R c (col+1) (top+1) w2 w')):=by
 cases h with
 | done _ _ _ _ h1=>exact absurd h0 h1
 | zero _ _ _ w1 _ _ _ h3 h4 h5=>exact ⟨w1,h3,.inl ⟨h4,h5⟩⟩
 | piv _ _ _ w1 w2 _ _ _ h3 h4 h5 h6=>exact ⟨w1,h3,.inr ⟨h4,w2,h5,h6⟩⟩
theorem Rd.col {R c col top i:Nat} {w w':W3} (hcol:col<c) (hR:top<R) (h:Rd R c col top i w w'):∀ r,top≤r→r<R→ent w'.M r col=ent w.M r col:=by
 induction h with
 | done _ _ _ _=>intro r _ _; rfl
 | go i w w2 _ h1 _ ih =>
  intro r h2 h3
  rw [ih r h2 h3]
  show ent (rowA R c w.M i top _) r col=_
  rw [ent_rowA h3 hcol,if_neg (by omega)]
theorem sy_of_sd {z:Int} (h:Sd z):Sy z:=Nat.le_trans h (by decide)
/-! The heap -/
def herZ:HO:=.cells 189 [.d (.i .i64 0),.d (.i .i64 0),.nil,.d (.i .i64 0),.d (.i .i64 0),.nil,.d (.i .i64 0),.d (.i .i64 0),.nil]
def foPre (R c:Nat) (A:List (List Int)):List HO:=[.cells 155 [.d (.i .i64 (R:Int)),.d (.i .i64 (c:Int)),.d (.sl (A.map fun v=>[encV2 v]))],herZ]
theorem foPre_rf (R c:Nat) (A:List (List Int)):∀ o∈foPre R c A,rfO 0 0 o=true:=by
 intro o ho
 simp only [foPre,List.mem_cons,List.not_mem_nil,or_false] at ho
 rcases ho with rfl | rfl <;> rfl
theorem HF.upd {H:Nat→Option HO} {pre:List HO} {p q r R c n:Nat} {M U V:List (List Int)} {x:Option HO} (h:HF H pre p q r R c M U V) (hs:WS R c M U V) (h0:pre.length+1<p) (h2:p+R<q) (h3:q+R<r) (hn:r+R<n):HF (upd H n x) pre p q r R c M U V:=by
 have hl:∀ {c' m:Nat} {N:List (List Int)} {i:Nat} {o:HO},N.length=R→(mB c' N m)[i]? = some o→i<R+1:=fun hN h=>by
  have:=(List.getElem?_eq_some_iff.1 h).1; rwa [mB_len,hN] at this
 refine ⟨⟨?_,fun i o ho=>?_,fun i o ho=>?_,fun i o ho=>?_⟩,fun i o ho=>?_⟩
 ·rw [upd_ne _ _ (by omega)]; exact h.w.root
 ·have:=hl hs.m.len ho
  rw [upd_ne _ _ (by omega)]; exact h.w.m i o ho
 ·have:=hl hs.u.len ho
  rw [upd_ne _ _ (by omega)]; exact h.w.u i o ho
 ·have:=hl hs.v.len ho
  rw [upd_ne _ _ (by omega)]; exact h.w.v i o ho
 ·have:=(List.getElem?_eq_some_iff.1 ho).1
  rw [upd_ne _ _ (by omega)]; exact h.pre i o ho
theorem can_HF {pre:List HO} {R c:Nat} {M U V:List (List Int)} {H:Nat→Option HO} (hs:WS R c M U V) (hH:wFam pre R c M U V=H):∃ p q r,pre.length+1<p∧p+R<q∧q+R<r∧r+R<pre.length+3 * R+5∧HF H pre p q r R c M U V :=
 ⟨_,_,_,by omega,by omega,by omega,by omega,hH ▸ wFam_HF hs⟩
theorem can_facts {pre:List HO} {p q r R c:Nat} {M U V:List (List Int)} (hpl:pre.length=2) (hs:WS R c M U V):wRho 3 p q r R 1=1∧wRho 3 p q r R 2=2∧wRho 3 p q r R 3=3∧(wFam pre R c M U V 1).isSome=true∧(wFam pre R c M U V 2).isSome=true∧(wFam pre R c M U V 3).isSome=true:=by
 have hl:=wFl_len (pre:=pre) hs
 exact ⟨rfl,rfl,rfl,famH_some (by omega) (by rw [hl]; omega),famH_some (by omega) (by rw [hl]; omega),famH_some (by omega) (by rw [hl]; omega)⟩
theorem HF.root2 {H:Nat→Option HO} {pre:List HO} {p q r R c:Nat} {M U V:List (List Int)} (h:HF H pre p q r R c M U V) (hpl:pre.length=2) :
  H 3=some (.cells 212 [.d (.i .i64 (R:Int)),.d (.i .i64 (c:Int)),.own p 0 R 1,.d (.i .i64 (R:Int)),.d (.i .i64 (R:Int)),.own q 0 R 1,.d (.i .i64 (R:Int)),.d (.i .i64 (R:Int)),.own r 0 R 1]):=by
 have:=h.w.root
 rwa [hpl] at this
structure Rdg (H:Nat→Option HO) (p R c i s:Nat) (z:Int):Prop where
 hd:∃ v:List Int,H (i+(p+1))=some (.cells 69 ((vcs v).map .d))∧(vcs v).length=c * 2∧List.take 2 (List.drop (s * 2) ((vcs v).map AV.d))=[.d (.b (decide (z<0))),.d (encM (digs z.natAbs))]
theorem HF.rd {H:Nat→Option HO} {pre:List HO} {p q r R c i s:Nat} {M U V:List (List Int)} (h:HF H pre p q r R c M U V) (hs:WS R c M U V) (hi:i<R) (hc:s<c):Rdg H p R c i s (ent M i s):=by
 obtain ⟨v,hv,hl,he⟩:=hs.m.get hi
 have h2:=vcs_len v
 refine ⟨v,h.w.rowM hv,by rw [h2,hl],?_⟩
 rw [← he s,← List.map_drop,← List.map_take,vcs_get2 (z:=v.getD s 0) (by rw [List.getD_eq_getElem?_getD,List.getElem?_eq_getElem (by omega)]; rfl)]; rfl
theorem o1_wend {P:Program} {dst:Option Tmp} {ty:TypeId} {pos:String} {after:Array Edge} {guard:Option (Nat × Bool)} {σ:St} {k:St→List Nat→Prop} {f:FuncId} {x:Operand} {rest:List Operand} {ts:Array TypeId}
  {d:Dm ((⟨dst,.call ⟨.value (.func f),(x::rest).toArray,ts⟩,ty,pos,after,guard⟩:Oper),k)} {pre:List HO} {p q r R c:Nat} {w w':W3} {ds:List D} {K:St→Prop} {dm:Dm K} (hkk:∀ σ' con',k σ' con'=FinP σ' con' K dm) (hm:mutF P f=true) (hx:oev σ.Γ x=.ptr (pre.length+1) 0)
  (hF:HF σ.H pre p q r R c w.M w.U w.V) (hpre:∀ o∈pre,rfO 0 0 o=true) (hs:w.sh R c) (h1:pre.length+1<p) (h2:p+R<q) (h3:q+R<r) (h4:r+R<σ.n) (hvis:viss σ.H (rest.map (oev σ.Γ))=[]) (hfr:frzs σ.H (rest.map (oev σ.Γ))=some ds)
  (hs':w'.sh R c) (hsp:TSpec P f (.ptr 0 0) (wR0 R c) (wH R c w.M w.U w.V) ds (wR0 R c) (wH R c w'.M w'.U w'.V) (.tp []))
  (hk:∀ (l:List Nat) (H':Nat→Option HO) (p' q' r' n':Nat),(∀ id,id≤pre.length+1→¬ id∈l)→pre.length+1<p'→p'+R<q'→q'+R<r'→r'+R<n'→HF H' pre p' q' r' R c w'.M w'.U w'.V→K ⟨fun t=>scrub l (putA σ.Γ dst (inj (.tp [])) t),H',n'⟩):O1d P ⟨dst,.call ⟨.value (.func f),(x::rest).toArray,ts⟩,ty,pos,after,guard⟩ σ [] k d:=by
 refine o1_wcall (b:=pre.length+1) hm (by omega) hx hF.w hs h1 h2 h3 hvis hfr hs' hsp ?_
 rw [hkk,finP_ne _ (nuL_ne _ _),List.append_nil]
 refine hk _ _ σ.n (σ.n+R+1) (σ.n+2 * R+2) _ (fun id hid hm=>?_) (by omega) (by omega) (by omega) (by simp only; omega) (HF.call hF hs' h1 h2 h3 h4 hpre)
 have:=w_ids h1 h2 h3 h4 hm
 omega
theorem frz_mat {H:Nat→Option HO} {R c p:Nat} {M:List (List Int)} (k:Nat) (hM:Sh R c M) (h:∀ (i:Nat) o,(mB c M p)[i]? = some o→H (i+p)=some o):frz H (k+3) (.own p 0 R 1)=some (.sl (M.map fun v=>[encV2 v])):=by
 have h0:H p=some (.cells 112 (hdr c R (p+1))):=by
  have:=h 0 _ rfl
  rwa [Nat.zero_add,hM.len] at this
 rw [frz_own',h0]
 simp only [Nat.zero_add,Nat.mul_one,hdr_len,Nat.zero_mul,List.drop_zero]
 rw [if_pos ⟨Nat.le_refl _,by decide⟩,List.take_of_length_le (by rw [hdr_len]; exact Nat.le_refl _)]
 rw [mapM_some (frz H (k+2)) (fun i=>encV2 (M.getD i [])) _ fun i x hx=>?_]
 ·simp only [Option.map_some,hdr_len]
  congr 2
  unfold chunk
  refine List.ext_getElem (by simp [hM.len]) fun i a1 a2=>?_
  have hi:i<R:=by simpa using a1
  have hiM:i<M.length:=by rw [hM.len]; exact hi
  simp only [List.getElem_map,List.getElem_range,Nat.mul_one]
  rw [List.drop_eq_getElem_cons (by simpa using hi)]
  simp only [List.getElem_map,List.getElem_range,List.take_succ_cons,List.take_zero]
  rw [List.getD_eq_getElem?_getD,List.getElem?_eq_getElem hiM]; rfl
 ·have hi:i<R:=by have:=(List.getElem?_eq_some_iff.1 hx).1; rwa [hdr_len] at this
  rw [hdr_get hi] at hx; injection hx with hx; subst hx
  have hiM:i<M.length:=by rw [hM.len]; exact hi
  rw [List.getD_eq_getElem?_getD,List.getElem?_eq_getElem hiM,Option.getD_some]
  have:=h (i+1) (rowO M[i]) (by simp only [mB,List.getElem?_cons_succ,List.getElem?_map,List.getElem?_eq_getElem hiM,Option.map_some])
  exact frz_vcsN k (by rwa [show i+1+p=i+(p+1) by omega] at this) (hM.row _ (List.getElem_mem hiM))
/-! A Hermite decomposition as data -/
def encHer (R c:Nat) (w:W3):D:=.ag [.i .i64 (R:Int),.i .i64 (c:Int),.sl (w.M.map fun v=>[encV2 v]),.i .i64 (R:Int),.i .i64 (R:Int),.sl (w.U.map fun v=>[encV2 v]),.i .i64 (R:Int),.i .i64 (R:Int),.sl (w.V.map fun v=>[encV2 v])]
theorem r12Floor (x y:Int) (hy:y≠0) (hx:Sd x) (hyl:Sd y):Spec Tryz.prog 175 [encZ x,encZ y] (encZ (x / y)):=by
 refine spec_of (N:=16) follows_mixed Tryz.func175 rfl rfl rfl (by kernel_rfl) (by kernel_rfl) (by simp) ?_
 have h:=r01DivMod x y hy hx hyl
 simp (maxSteps:=1000000) [-map_map,-mapM_map,↓KW,encZ_eq,cellsA_encM,one_encM,inj1_encM,inj_encM,kills_encM]
 refine callP_intro (ds:=[encZ x,encZ y]) (by rfl) h ?_
 rw [encZ_eq,encZ_eq]
 simp (maxSteps:=1000000) [-map_map,-mapM_map,↓KW,encZ_eq,cellsA_encM,one_encM,inj1_encM,inj_encM,kills_encM]
end Go.Am
end

section
set_option linter.unusedVariables false
set_option linter.unusedSimpArgs false
open List (map_map mapM_map)
open Go Go.Am Go.Proofs
namespace Go.Am
set_option maxHeartbeats 2000000 in
set_option maxRecDepth 10000 in
theorem r12Form {R c:Nat} {A:List (List Int)} {wf:W3} (hA:Sh R c A) (hR:R≤15) (hc:c≤1000) (hAs:∀ v∈A,∀ z∈v,Sz z) (hFo:Fo R c 0 0 ⟨A,idM R,idM R⟩ wf) :
  Spec Tryz.prog 146 [encMat R c A] (encHer R c wf):=by
 refine spec_of (N:=173) follows_mixed Tryz.func146 rfl rfl rfl (by kernel_rfl) (by kernel_rfl) (by simp) ?_
 have hst:=r12Start hA (by omega) hc hAs
 have hH0:extB (upd (upd (fun _=>none) 1 (some (.cells 155 [.d (.i .i64 (R:Int)),.d (.i .i64 (c:Int)),.d (.sl (A.map fun v=>[encV2 v]))]))) 2 (some (.cells 189 [.d (.i .i64 0),.d (.i .i64 0),.nil,.d (.i .i64 0),.d (.i .i64 0),.nil,.d (.i .i64 0),.d (.i .i64 0),.nil]))) 3 (wOut R c A (idM R) (idM R) 3)=wFam (foPre R c A) R c A (idM R) (idM R):=by
  rw [fam_two,fam_ext (n:=3) rfl]
  have e1:(foPre R c A).length=2:=rfl
  unfold wFam wFl wOut
  rw [e1,show 3+1=2+2 by omega,show 3+R+2=2+R+3 by omega,show 3+2 * R+3=2+2 * R+4 by omega]; rfl
 have hlo:(wOut R c A (idM R) (idM R) 3).length=3 * R+4:=wOut_len ⟨hA,mk_sh _ _ _,mk_sh _ _ _⟩ 3
 obtain ⟨pre,hpre⟩:∃ l,foPre R c A=l:=⟨_,rfl⟩
 have hpl:pre.length=2:=by rw [← hpre]; rfl
 have hprf:∀ o∈pre,rfO 0 0 o=true:=by rw [← hpre]; exact foPre_rf R c A
 have hp1:pre[0]? = some (.cells 155 [.d (.i .i64 (R:Int)),.d (.i .i64 (c:Int)),.d (.sl (A.map fun v=>[encV2 v]))]):=by rw [← hpre]; rfl
 have hp2:pre[1]? = some (.cells 189 [.d (.i .i64 0),.d (.i .i64 0),.nil,.d (.i .i64 0),.d (.i .i64 0),.nil,.d (.i .i64 0),.d (.i .i64 0),.nil]):=by rw [← hpre]; rfl
 rw [hpre] at hH0
 obtain ⟨w0,hw0⟩:∃ w:W3,⟨A,idM R,idM R⟩=w:=⟨_,rfl⟩
 have hM0:w0.M=A:=by rw [← hw0]
 have hU0:w0.U=idM R:=by rw [← hw0]
 have hV0:w0.V=idM R:=by rw [← hw0]
 rw [hw0] at hFo
 have hH1:wFam pre R c A (idM R) (idM R)=wFam pre R c w0.M w0.U w0.V:=by rw [hM0,hU0,hV0]
 rw [hH1] at hH0
 simp (maxSteps:=1000000) [-map_map,-mapM_map,↓KW,encMat]
 refine o1_ncall [encMat R c A] (fun m=>.ptr m 0) (wOut R c A (idM R) (idM R)) (by simp) (by simp) (by simp) (by rfl) (by rfl) hst ?_
 simp (maxSteps:=1000000) [-map_map,-mapM_map,↓KW,hH0,hlo]
 refine loopP_inv (fun x:Nat × Nat × W3 × (Nat→Option HO)=>Fo R c x.1 x.2.1 x.2.2.1 wf∧x.1≤c∧x.2.1≤R∧wFam pre R c x.2.2.1.M x.2.2.1.U x.2.2.1.V=x.2.2.2) (fun x=>⟨sltF [(1,.ptr 1 0),(2,.ptr 2 0),(3,.ptr 3 0),(4,.d (.i .i64 (x.2.1:Int))),(5,.d (.i .i64 (x.1:Int)))],x.2.2.2,3+3 * R+4⟩) (fun x=>c - x.1) (0,0,w0,wFam pre R c w0.M w0.U w0.V) ⟨hFo,Nat.zero_le _,Nat.zero_le _,rfl⟩ ?_ ?_
 ·have hs:=hFo.ok.sh
  obtain ⟨g1,g2,g3,s1,s2,s3⟩:=can_facts (p:=pre.length+2) (q:=pre.length+R+3) (r:=pre.length+2 * R+4) hpl hs
  refine wk_can (wFam_HF hs) hs (by omega) (by omega) (by omega) (by omega) hprf ?_
  simp [-map_map,upd,inj1,Γ0,g1,g2,g3,s1,s2,s3]
 ·rintro ⟨col,top,w,H⟩ ⟨hf,hcb,htb,hHg⟩
  simp only at hf hcb htb hHg
  have hs:=hf.ok.sh
  refine (can_HF (pre:=pre) hs hHg).elim fun p hh=>hh.elim fun q hh=>hh.elim fun r hh=>?_
  have h1:=hh.1
  have h2:=hh.2.1
  have h3:=hh.2.2.1
  have h4:=hh.2.2.2.1
  have hF:=hh.2.2.2.2
  rw [hpl] at h1 h4
  clear hh
  have hH1:H 1=_:=hF.pre 0 _ hp1
  have hH2:H 2=_:=hF.pre 1 _ hp2
  have hH3:=hF.root2 hpl
  by_cases hgo:col<c∧top<R
  ·have q1:(col:Int)<c:=by omega
   have q2:(top:Int)<R:=by omega
   have hw1:IntKind.i64.wrap ((top:Int)+1)=(top:Int)+1:=wrap_i64 (by omega) (by omega)
   have hw2:IntKind.i64.wrap ((col:Int)+1)=(col:Int)+1:=wrap_i64 (by omega) (by omega)
   refine (hf.next hgo).elim fun w1 hw=>?_
   have hei:=hw.1
   have hrest:=hw.2
   simp (maxSteps:=1000000) [-map_map,-mapM_map,↓KW,q1,q2,hgo.1,hgo.2,hH1,hw1]
   refine loopP_inv (fun x:Nat × W3 × (Nat→Option HO)=>Ei R c col top x.1 x.2.1 w1∧top<x.1∧x.1≤R∧wFam pre R c x.2.1.M x.2.1.U x.2.1.V=x.2.2) (fun x=>⟨sltF [(1,.ptr 1 0),(2,.ptr 2 0),(3,.ptr 3 0),(4,.d (.i .i64 (top:Int))),(5,.d (.i .i64 (col:Int))),(6,.d (.i .i64 (x.1:Int)))],x.2.2,3+3 * R+4⟩) (fun x=>R - x.1) (top+1,w,H) ⟨hei,Nat.lt_succ_self _,hgo.2,hHg⟩ ?_ ?_
   ·obtain ⟨g1,g2,g3,s1,s2,s3⟩:=can_facts (p:=p) (q:=q) (r:=r) hpl hs
    subst hHg
    refine wk_can hF hs (by omega) (by omega) h2 h3 hprf ?_
    simp [-map_map,upd,inj1,Γ0,g1,g2,g3,s1,s2,s3]
   ·clear hei hH1 hH2 hH3 hF hHg h1 h2 h3 h4 hs
    rintro ⟨i,w,H⟩ ⟨hei,hti,hiR,hHg⟩
    simp only at hei hti hiR hHg
    have hs:=hei.ok.sh
    refine (can_HF (pre:=pre) hs hHg).elim fun p hh=>hh.elim fun q hh=>hh.elim fun r hh=>?_
    have h1:=hh.1
    have h2:=hh.2.1
    have h3:=hh.2.2.1
    have h4:=hh.2.2.2.1
    have hF:=hh.2.2.2.2
    rw [hpl] at h1 h4
    clear hh
    have hH1:H 1=_:=hF.pre 0 _ hp1
    have hH2:H 2=_:=hF.pre 1 _ hp2
    have hH3:=hF.root2 hpl
    by_cases hi:i<R
    ·have q3:(i:Int)<R:=by omega
     have hw3:IntKind.i64.wrap ((i:Int)+1)=(i:Int)+1:=wrap_i64 (by omega) (by omega)
     refine (hei.next hi).elim fun w2 hw=>?_
     have heu:=hw.1
     have hei2:=hw.2
     simp (maxSteps:=1000000) [-map_map,-mapM_map,↓KW,q3,hi,hH1]
     refine loopP_inv (fun x:W3 × (Nat→Option HO)=>Eu R c col top i x.1 w2∧wFam pre R c x.1.M x.1.U x.1.V=x.2) (fun x=>⟨sltF [(1,.ptr 1 0),(2,.ptr 2 0),(3,.ptr 3 0),(4,.d (.i .i64 (top:Int))),(5,.d (.i .i64 (col:Int))),(6,.d (.i .i64 (i:Int)))],x.2,3+3 * R+4⟩) (fun x=>(ent x.1.M i col).natAbs) (w,H) ⟨heu,hHg⟩ ?_ ?_
     ·obtain ⟨g1,g2,g3,s1,s2,s3⟩:=can_facts (p:=p) (q:=q) (r:=r) hpl hs
      subst hHg
      refine wk_can hF hs (by omega) (by omega) h2 h3 hprf ?_
      simp [-map_map,upd,inj1,Γ0,g1,g2,g3,s1,s2,s3]
     ·clear heu hH1 hH2 hH3 hF hHg h1 h2 h3 h4 hs
      rintro ⟨w,H⟩ ⟨heu,hHg⟩
      simp only at heu hHg
      have ok:=heu.ok
      have hs:=ok.sh
      refine (can_HF (pre:=pre) hs hHg).elim fun p hh=>hh.elim fun q hh=>hh.elim fun r hh=>?_
      have h1:=hh.1
      have h2:=hh.2.1
      have h3:=hh.2.2.1
      have h4:=hh.2.2.2.1
      have hF:=hh.2.2.2.2
      rw [hpl] at h1 h4
      clear hh
      have hH3:=hF.root2 hpl
      have hHd:=hF.w.hdrM hs
      have hgi:=hdr_get (c:=c) (b:=p+1) hi
      have hgt:=hdr_get (c:=c) (b:=p+1) hgo.2
      have hgl:=hdr_len c R (p+1)
      refine (show ∃ l,hdr c R (p+1)=l from ⟨_,rfl⟩).elim fun cells hcl=>?_
      rw [hcl] at hHd hgi hgt hgl
      have hggi:∀ h:i<cells.length,cells[i]'h=.own (i+(p+1)) 0 c 2:=fun h=>Option.some.inj ((List.getElem?_eq_getElem h).symm.trans hgi)
      have hggt:∀ h:top<cells.length,cells[top]'h=.own (top+(p+1)) 0 c 2:=fun h=>Option.some.inj ((List.getElem?_eq_getElem h).symm.trans hgt)
      refine (hF.rd hs hi hgo.1).hd.elim fun vi hh=>?_
      have hHi:=hh.1
      have hvi:=hh.2.1
      have hri:=hh.2.2
      clear hh
      refine (hF.rd hs hgo.2 hgo.1).hd.elim fun vt hh=>?_
      have hHt:=hh.1
      have hvt:=hh.2.1
      have hrt:=hh.2.2
      clear hh
      have hbc:col * 2+2≤c * 2:=by omega
      have hg1:=hgo.1
      have hg2:=hgo.2
      have hsgi:=r01SignZ (ent w.M i col)
      have hsgt:=r01SignZ (ent w.M top col)
      refine (show ∃ y,ent w.M i col=y from ⟨_,rfl⟩).elim fun y hy=>?_
      refine (show ∃ x,ent w.M top col=x from ⟨_,rfl⟩).elim fun x hx=>?_
      rw [hy] at hri hsgi
      rw [hx] at hrt hsgt
      by_cases hy0:y=0
      ·have hys:(y.sign != 0)=false:=by simp [hy0]
       have e:=heu.end (hy.trans hy0)
       simp (maxSteps:=1000000) [-map_map,-mapM_map,↓KW,hH3,hHd,hgi,hgt,hgl,hggi,hggt,hHi,hHt,hvi,hvt,hri,hrt,hbc,hg1,hg2,hi,hys,cellsA_encM,one_encM,inj1_encM,inj_encM,kills_encM]
       refine callP_intro (ds:=[encZ y]) (by rfl) hsgi ?_
       simp (maxSteps:=1000000) [-map_map,-mapM_map,↓KW,hH3,hHd,hgi,hgt,hgl,hggi,hggt,hHi,hHt,hvi,hvt,hri,hrt,hbc,hg1,hg2,hi,hys,cellsA_encM,one_encM,inj1_encM,inj_encM,kills_encM,hw3]
       refine nxt_intro (i+1,w,H) ⟨e ▸ hei2,by omega,hi,hHg⟩ (by omega) ?_
       subst hHg
       have e:=can_facts (p:=p) (q:=q) (r:=r) hpl hs
       refine wk_can hF hs (by omega) (by omega) h2 h3 hprf ?_
       simp [-map_map,upd,inj1,Γ0,e.1,e.2.1,e.2.2.1,e.2.2.2.1,e.2.2.2.2.1,e.2.2.2.2.2]
      ·have hys:(y.sign != 0)=true:=by simp [hy0]
       simp (maxSteps:=1000000) [-map_map,-mapM_map,↓KW,hH3,hHd,hgi,hgt,hgl,hggi,hggt,hHi,hHt,hvi,hvt,hri,hrt,hbc,hg1,hg2,hi,hys,cellsA_encM,one_encM,inj1_encM,inj_encM,kills_encM]
       refine callP_intro (ds:=[encZ y]) (by rfl) hsgi ?_
       simp (maxSteps:=1000000) [-map_map,-mapM_map,↓KW,hH3,hHd,hgi,hgt,hgl,hggi,hggt,hHi,hHt,hvi,hvt,hri,hrt,hbc,hg1,hg2,hi,hys,cellsA_encM,one_encM,inj1_encM,inj_encM,kills_encM]
       refine callP_intro (ds:=[encZ x]) (by rfl) hsgt ?_
       by_cases hx0:x=0
       ·have hxs:(x.sign != 0)=false:=by simp [hx0]
        have hsw:=r12Swap hs (by omega) hc hgo.2 hi
        have hS:euS R c col top i w=w.sw R c top i:=by unfold euS euT; rw [if_pos (hx.trans hx0)]
        have heu2:=heu.next (fun h=>hy0 (hy.symm.trans h))
        have hless:=Eu.less (w:=w) hgo.1 hti hi (fun h=>hy0 (hy.symm.trans h))
        rw [hS] at heu2 hless
        simp (maxSteps:=1000000) [-map_map,-mapM_map,↓KW,hH3,hHd,hgi,hgt,hgl,hggi,hggt,hHi,hHt,hvi,hvt,hri,hrt,hbc,hg1,hg2,hi,hys,cellsA_encM,one_encM,inj1_encM,inj_encM,kills_encM,hxs]
        refine o1_wend (pre:=pre) (w:=w) (w':=w.sw R c top i) (fun _ _=>by first | rfl | exact ow_nil' _ _ _ _ _) (by simp) (by rw [hpl]; rfl) hF hprf hs (by omega) h2 h3 (by simp only; omega) (by rfl) (by rfl) (W3.sw_sh ..) hsw ?_
        intro l H' p' q' r' n' hl g1 g2 g3 g4 hF'
        have hl1:=hl 1 (by omega)
        have hl2:=hl 2 (by omega)
        have hl3:=hl 3 (by omega)
        refine nxt_intro (w.sw R c top i,wFam pre R c (w.sw R c top i).M (w.sw R c top i).U (w.sw R c top i).V) ⟨heu2,rfl⟩ hless ?_
        have e:=can_facts (p:=p') (q:=q') (r:=r') hpl (W3.sw_sh R c w top i)
        refine wk_can hF' (W3.sw_sh R c w top i) (by omega) (by omega) g2 g3 hprf ?_
        simp [-map_map,upd,inj1,Γ0,e.1,e.2.1,e.2.2.1,e.2.2.2.1,e.2.2.2.2.1,e.2.2.2.2.2,hl1,hl2,hl3]
       ·have hxs:(x.sign != 0)=true:=by simp [hx0]
        simp (maxSteps:=1000000) [-map_map,-mapM_map,↓KW,hH3,hHd,hgi,hgt,hgl,hggi,hggt,hHi,hHt,hvi,hvt,hri,hrt,hbc,hg1,hg2,hi,hys,cellsA_encM,one_encM,inj1_encM,inj_encM,kills_encM,hxs]
        have hq:=r01DivMod x y hy0 (by rw [← hx]; exact ok.m _ _) (by rw [← hy]; exact ok.m _ _)
        have hqs:Sd (x / y):=Nat.le_trans (digs_len_mono (Int.natAbs_ediv_le_natAbs x y)) (by rw [← hx]; exact ok.m _ _)
        have hS:euS R c col top i w=(w.add R c top i (-(x / y))).sw R c top i:=by unfold euS euT; rw [if_neg (fun h=>hx0 (hx.symm.trans h)),hx,hy]
        have heu2:=heu.next (fun h=>hy0 (hy.symm.trans h))
        have hless:=Eu.less (w:=w) hgo.1 hti hi (fun h=>hy0 (hy.symm.trans h))
        rw [hS] at heu2 hless
        refine (show ∃ qq,x / y=qq from ⟨_,rfl⟩).elim fun qq hqq=>?_
        refine (show ∃ rr,x % y=rr from ⟨_,rfl⟩).elim fun rr hrr=>?_
        rw [hqq,hrr] at hq
        rw [hqq] at hqs heu2 hless
        have hng:=r01NegB qq (Nat.le_trans hqs (by decide))
        have hsn:Sd (-qq):=by unfold Sd; rw [Int.natAbs_neg]; exact hqs
        refine (show ∃ nq,-qq=nq from ⟨_,rfl⟩).elim fun nq hnq=>?_
        rw [hnq] at hng hsn heu2 hless
        have hs2:(w.add R c top i nq).sh R c:=W3.add_sh ..
        have had:=r12AddTo hs (by omega) hc hgo.2 hi (sy_of_sd hsn) (fun r t=>sy_of_sd (ok.m r t)) (fun r t=>sy_of_sd (ok.u r t)) (fun r t=>sy_of_sd (ok.v r t))
        have hsw:=r12Swap hs2 (by omega) hc hgo.2 hi
        refine callP_intro (ds:=[encZ x,encZ y]) (by rfl) hq ?_
        simp (maxSteps:=1000000) [-map_map,-mapM_map,↓KW,encZ_eq,hH3,hHd,hgi,hgt,hgl,hggi,hggt,hHi,hHt,hvi,hvt,hri,hrt,hbc,hg1,hg2,hi,hys,cellsA_encM,one_encM,inj1_encM,inj_encM,kills_encM]
        refine callP_intro (ds:=[encZ qq]) (by rfl) hng ?_
        simp (maxSteps:=1000000) [-map_map,-mapM_map,↓KW,encZ_eq,hH3,hHd,hgi,hgt,hgl,hggi,hggt,hHi,hHt,hvi,hvt,hri,hrt,hbc,hg1,hg2,hi,hys,cellsA_encM,one_encM,inj1_encM,inj_encM,kills_encM]
        refine o1_wend (pre:=pre) (w:=w) (w':=w.add R c top i nq) (ds:=[.i .i64 (top:Int),.i .i64 (i:Int),encZ nq]) (fun _ _=>by first | rfl | exact ow_nil' _ _ _ _ _) (by simp) (by rw [hpl]; rfl) ((((hF.upd hs (by omega) h2 h3 (by omega)).upd hs (by omega) h2 h3 (by omega)).upd hs (by omega) h2 h3 (by omega)).upd hs (by omega) h2 h3 (by omega)) hprf hs (by omega) h2 h3 (by simp only; omega) (by rfl) (by rfl) hs2 had ?_
        intro l H' p' q' r' n' hl g1 g2 g3 g4 hF'
        have hl1:=hl 1 (by omega)
        have hl2:=hl 2 (by omega)
        have hl3:=hl 3 (by omega)
        simp (maxSteps:=1000000) [-map_map,-mapM_map,↓KW,hl1,hl2,hl3]
        refine o1_wend (pre:=pre) (w:=w.add R c top i nq) (w':=(w.add R c top i nq).sw R c top i) (ds:=[.i .i64 (top:Int),.i .i64 (i:Int)]) (fun _ _=>by first | rfl | exact ow_nil' _ _ _ _ _) (by simp) (by rw [hpl]; rfl) hF' hprf hs2 (by omega) g2 g3 g4 (by rfl) (by rfl) (W3.sw_sh ..) hsw ?_
        intro l2 H2 p2 q2 r2 n2 kl k1 k2 k3 k4 kF
        have kl1:=kl 1 (by omega)
        have kl2:=kl 2 (by omega)
        have kl3:=kl 3 (by omega)
        refine nxt_intro ((w.add R c top i nq).sw R c top i,wFam pre R c ((w.add R c top i nq).sw R c top i).M ((w.add R c top i nq).sw R c top i).U ((w.add R c top i nq).sw R c top i).V) ⟨heu2,rfl⟩ hless ?_
        have e:=can_facts (p:=p2) (q:=q2) (r:=r2) hpl (W3.sw_sh R c (w.add R c top i nq) top i)
        refine wk_can kF (W3.sw_sh R c (w.add R c top i nq) top i) (by omega) (by omega) k2 k3 hprf ?_
        simp [-map_map,upd,inj1,Γ0,e.1,e.2.1,e.2.2.1,e.2.2.2.1,e.2.2.2.2.1,e.2.2.2.2.2,hl1,hl2,hl3,kl1,kl2,kl3]
    ·have hq3:¬ (i:Int)<R:=by omega
     have e:=hei.end hi
     have ok:=hei.ok
     have hHd:=hF.w.hdrM hs
     have hgt:=hdr_get (c:=c) (b:=p+1) hgo.2
     have hgl:=hdr_len c R (p+1)
     refine (show ∃ l,hdr c R (p+1)=l from ⟨_,rfl⟩).elim fun cells hcl=>?_
     rw [hcl] at hHd hgt hgl
     have hggt:∀ h:top<cells.length,cells[top]'h=.own (top+(p+1)) 0 c 2:=fun h=>Option.some.inj ((List.getElem?_eq_getElem h).symm.trans hgt)
     refine (hF.rd hs hgo.2 hgo.1).hd.elim fun vt hh=>?_
     have hHt:=hh.1
     have hvt:=hh.2.1
     have hrt:=hh.2.2
     clear hh
     have hbc:col * 2+2≤c * 2:=by omega
     have hg1:=hgo.1
     have hg2:=hgo.2
     have hsgt:=r01SignZ (ent w.M top col)
     have hrest':=hrest
     rw [← e] at hrest'
     refine (show ∃ x,ent w.M top col=x from ⟨_,rfl⟩).elim fun x hx=>?_
     rw [hx] at hrt hsgt hrest'
     simp (maxSteps:=1000000) [-map_map,-mapM_map,↓KW,hq3,hi,hH1]
     simp (maxSteps:=1000000) [-map_map,-mapM_map,↓KW,hH3,hHd,hgt,hgl,hggt,hHt,hvt,hrt,hbc,hg1,hg2,cellsA_encM,one_encM,inj1_encM,inj_encM,kills_encM]
     refine callP_intro (ds:=[encZ x]) (by rfl) hsgt ?_
     by_cases hx0:x=0
     ·have hxs:(x.sign == 0)=true:=by simp [hx0]
      have hfo:=(hrest'.resolve_right fun h=>h.1 hx0).2
      simp (maxSteps:=1000000) [-map_map,-mapM_map,↓KW,hH3,hHd,hgt,hgl,hggt,hHt,hvt,hrt,hbc,hg1,hg2,cellsA_encM,one_encM,inj1_encM,inj_encM,kills_encM,hxs,hw2]
      refine nxt_intro (col+1,top,w,H) ⟨hfo,hgo.1,htb,hHg⟩ (by omega) ?_
      subst hHg
      have e:=can_facts (p:=p) (q:=q) (r:=r) hpl hs
      refine wk_can hF hs (by omega) (by omega) h2 h3 hprf ?_
      simp [-map_map,upd,inj1,Γ0,e.1,e.2.1,e.2.2.1,e.2.2.2.1,e.2.2.2.2.1,e.2.2.2.2.2]
     ·have hxs:(x.sign == 0)=false:=by simp [hx0]
      refine (hrest'.resolve_left fun h=>hx0 h.1).2.elim fun w2 hh=>?_
      have hrd0:=hh.1
      have hfo:=hh.2
      clear hh
      simp (maxSteps:=1000000) [-map_map,-mapM_map,↓KW,hH3,hHd,hgt,hgl,hggt,hHt,hvt,hrt,hbc,hg1,hg2,cellsA_encM,one_encM,inj1_encM,inj_encM,kills_encM,hxs]
      refine callP_intro (ds:=[encZ x]) (by rfl) hsgt ?_
      by_cases hxn:x<0
      ·have hxl:x.sign<0:=by rw [Int.sign_eq_neg_one_of_neg hxn]; decide
       have hng:=r12Negate hs (by omega) hc hgo.2 (fun r t=>sy_of_sd (ok.m r t)) (fun r t=>sy_of_sd (ok.u r t)) (fun r t=>sy_of_sd (ok.v r t))
       have hS:ngS R c col top w=w.ng R c top:=by unfold ngS; rw [hx,if_pos hxn]
       have hx1:ent (w.ng R c top).M top col≠0:=by
        have:=ngS_col (w:=w) hgo.1 hgo.2 hgo.2
        rw [hS,hx] at this
        exact fun h=>hx0 (this.1 h)
       rw [hS] at hrd0
       simp (maxSteps:=1000000) [-map_map,-mapM_map,↓KW,hH3,hHd,hgt,hgl,hggt,hHt,hvt,hrt,hbc,hg1,hg2,cellsA_encM,one_encM,inj1_encM,inj_encM,kills_encM,hxl]
       refine o1_wend (pre:=pre) (w:=w) (w':=w.ng R c top) (ds:=[.i .i64 (top:Int)]) (fun _ _=>by first | rfl | exact ow_nil' _ _ _ _ _) (by simp) (by rw [hpl]; rfl) hF hprf hs (by omega) h2 h3 (by simp only; omega) (by rfl) (by rfl) (W3.ng_sh ..) hng ?_
       intro l H' p' q' r' n' hl g1 g2 g3 g4 hF'
       have hl1:=hl 1 (by omega)
       have hl2:=hl 2 (by omega)
       have hl3:=hl 3 (by omega)
       simp (maxSteps:=1000000) [-map_map,-mapM_map,↓KW,hl1,hl2,hl3]
       refine loopP_inv (fun x:Nat × W3 × (Nat→Option HO)=>Rd R c col top x.1 x.2.1 w2∧x.1≤top∧ent x.2.1.M top col≠0∧wFam pre R c x.2.1.M x.2.1.U x.2.1.V=x.2.2) (fun x=>⟨sltF [(1,.ptr 1 0),(2,.ptr 2 0),(3,.ptr 3 0),(4,.d (.i .i64 (top:Int))),(5,.d (.i .i64 (col:Int))),(10,.d (.i .i64 (x.1:Int)))],x.2.2,3+3 * R+4⟩) (fun x=>top - x.1) (0,w.ng R c top,wFam pre R c (w.ng R c top).M (w.ng R c top).U (w.ng R c top).V) ⟨hrd0,Nat.zero_le _,hx1,rfl⟩ ?_ ?_
       ·have e:=can_facts (p:=p') (q:=q') (r:=r') hpl (W3.ng_sh R c w top)
        refine wk_can hF' (W3.ng_sh R c w top) (by omega) (by omega) g2 g3 hprf ?_
        simp [-map_map,upd,inj1,Γ0,e.1,e.2.1,e.2.2.1,e.2.2.2.1,e.2.2.2.2.1,e.2.2.2.2.2,hl1,hl2,hl3]
       ·clear hH3 hHd hgt hgl hggt hHt hvt hrt hF h1 h2 h3 h4 hs hHg hx hsgt hei
        rintro ⟨i,w,H⟩ ⟨hrd,hit,hxc,hHg⟩
        simp only at hrd hit hxc hHg
        have ok:=hrd.ok
        have hs:=ok.sh
        refine (can_HF (pre:=pre) hs hHg).elim fun p hh=>hh.elim fun q hh=>hh.elim fun r hh=>?_
        have h1:=hh.1
        have h2:=hh.2.1
        have h3:=hh.2.2.1
        have h4:=hh.2.2.2.1
        have hF:=hh.2.2.2.2
        rw [hpl] at h1 h4
        clear hh
        have hH3:=hF.root2 hpl
        by_cases hig:i<top
        ·have q5:(i:Int)<top:=by omega
         have hi:i<R:=by omega
         have hw5:IntKind.i64.wrap ((i:Int)+1)=(i:Int)+1:=wrap_i64 (by omega) (by omega)
         have hHd:=hF.w.hdrM hs
         have hgi:=hdr_get (c:=c) (b:=p+1) hi
         have hgt:=hdr_get (c:=c) (b:=p+1) hgo.2
         have hgl:=hdr_len c R (p+1)
         refine (show ∃ l,hdr c R (p+1)=l from ⟨_,rfl⟩).elim fun cells hcl=>?_
         rw [hcl] at hHd hgi hgt hgl
         have hggi:∀ h:i<cells.length,cells[i]'h=.own (i+(p+1)) 0 c 2:=fun h=>Option.some.inj ((List.getElem?_eq_getElem h).symm.trans hgi)
         have hggt:∀ h:top<cells.length,cells[top]'h=.own (top+(p+1)) 0 c 2:=fun h=>Option.some.inj ((List.getElem?_eq_getElem h).symm.trans hgt)
         refine (hF.rd hs hi hgo.1).hd.elim fun vi hh=>?_
         have hHi:=hh.1
         have hvi:=hh.2.1
         have hri:=hh.2.2
         clear hh
         refine (hF.rd hs hgo.2 hgo.1).hd.elim fun vt hh=>?_
         have hHt:=hh.1
         have hvt:=hh.2.1
         have hrt:=hh.2.2
         clear hh
         have hnext:=hrd.next hig
         have hxn:ent (rdS R c col top i w).M top col≠0:=by
          show ent (rowA R c w.M i top _) top col≠0
          rw [ent_rowA hgo.2 hgo.1,if_neg (by omega)]; exact hxc
         have hS:rdS R c col top i w=w.add R c i top (-(ent w.M i col / ent w.M top col)):=rfl
         have hyd:Sd (ent w.M i col):=ok.m i col
         have hxd:Sd (ent w.M top col):=ok.m top col
         have hqs:Sd (ent w.M i col / ent w.M top col):=Nat.le_trans (digs_len_mono (Int.natAbs_ediv_le_natAbs _ _)) hyd
         have hfl:=r12Floor (ent w.M i col) (ent w.M top col) hxc hyd hxd
         have hng:=r01NegB (ent w.M i col / ent w.M top col) (Nat.le_trans hqs (by decide))
         refine (show ∃ nq,-(ent w.M i col / ent w.M top col)=nq from ⟨_,rfl⟩).elim fun nq hnq=>?_
         have hsn:Sd nq:=by rw [← hnq]; unfold Sd; rw [Int.natAbs_neg]; exact hqs
         rw [hnq] at hng hS
         rw [hS] at hnext hxn
         refine (show ∃ qq,ent w.M i col / ent w.M top col=qq from ⟨_,rfl⟩).elim fun qq hqq=>?_
         rw [hqq] at hng hfl
         refine (show ∃ y,ent w.M i col=y from ⟨_,rfl⟩).elim fun y hy=>?_
         refine (show ∃ x,ent w.M top col=x from ⟨_,rfl⟩).elim fun x hx=>?_
         rw [hy] at hri hfl
         rw [hx] at hrt hfl
         have hs2:(w.add R c i top nq).sh R c:=W3.add_sh ..
         have had:=r12AddTo hs (by omega) hc hi hgo.2 (sy_of_sd hsn) (fun r t=>sy_of_sd (ok.m r t)) (fun r t=>sy_of_sd (ok.u r t)) (fun r t=>sy_of_sd (ok.v r t))
         have hbc:col * 2+2≤c * 2:=by omega
         have hg1:=hgo.1
         have hg2:=hgo.2
         simp (maxSteps:=1000000) [-map_map,-mapM_map,↓KW,q5,hig,hH3,hHd,hgi,hgt,hgl,hggi,hggt,hHi,hHt,hvi,hvt,hri,hrt,hbc,hg1,hg2,hi,cellsA_encM,one_encM,inj1_encM,inj_encM,kills_encM]
         refine callP_intro (ds:=[encZ y,encZ x]) (by rfl) hfl ?_
         simp (maxSteps:=1000000) [-map_map,-mapM_map,↓KW,encZ_eq,hH3,hHd,hgi,hgt,hgl,hggi,hggt,hHi,hHt,hvi,hvt,hri,hrt,hbc,hg1,hg2,hi,cellsA_encM,one_encM,inj1_encM,inj_encM,kills_encM]
         refine callP_intro (ds:=[encZ qq]) (by rfl) hng ?_
         simp (maxSteps:=1000000) [-map_map,-mapM_map,↓KW,encZ_eq,hH3,hHd,hgi,hgt,hgl,hggi,hggt,hHi,hHt,hvi,hvt,hri,hrt,hbc,hg1,hg2,hi,cellsA_encM,one_encM,inj1_encM,inj_encM,kills_encM]
         refine o1_wend (pre:=pre) (w:=w) (w':=w.add R c i top nq) (ds:=[.i .i64 (i:Int),.i .i64 (top:Int),encZ nq]) (fun _ _=>by first | rfl | exact ow_nil' _ _ _ _ _) (by simp) (by rw [hpl]; rfl) hF hprf hs (by omega) h2 h3 (by simp only; omega) (by rfl) (by rfl) hs2 had ?_
         intro l H' p' q' r' n' hl g1 g2 g3 g4 hF'
         have hl1:=hl 1 (by omega)
         have hl2:=hl 2 (by omega)
         have hl3:=hl 3 (by omega)
         simp (maxSteps:=1000000) [-map_map,-mapM_map,↓KW,hl1,hl2,hl3,hw5]
         refine nxt_intro (i+1,w.add R c i top nq,wFam pre R c (w.add R c i top nq).M (w.add R c i top nq).U (w.add R c i top nq).V) ⟨hnext,hig,hxn,rfl⟩ (by omega) ?_
         have e:=can_facts (p:=p') (q:=q') (r:=r') hpl hs2
         refine wk_can hF' hs2 (by omega) (by omega) g2 g3 hprf ?_
         simp [-map_map,upd,inj1,Γ0,e.1,e.2.1,e.2.2.1,e.2.2.2.1,e.2.2.2.2.1,e.2.2.2.2.2,hl1,hl2,hl3]
        ·have q5:¬ (i:Int)<top:=by omega
         have e:=hrd.end hig
         simp (maxSteps:=1000000) [-map_map,-mapM_map,↓KW,q5,hig,hw1,hw2]
         refine nxt_intro (col+1,top+1,w,H) ⟨e ▸ hfo,hgo.1,hgo.2,hHg⟩ (by omega) ?_
         subst hHg
         have e:=can_facts (p:=p) (q:=q) (r:=r) hpl hs
         refine wk_can hF hs (by omega) (by omega) h2 h3 hprf ?_
         simp [-map_map,upd,inj1,Γ0,e.1,e.2.1,e.2.2.1,e.2.2.2.1,e.2.2.2.2.1,e.2.2.2.2.2]
      ·have hxl:¬ x.sign<0:=by
        have:=Int.sign_nonneg_iff.2 (show 0≤x by omega)
        omega
       have hS:ngS R c col top w=w:=by unfold ngS; rw [hx,if_neg hxn]
       rw [hS] at hrd0
       simp (maxSteps:=1000000) [-map_map,-mapM_map,↓KW,hH3,hHd,hgt,hgl,hggt,hHt,hvt,hrt,hbc,hg1,hg2,cellsA_encM,one_encM,inj1_encM,inj_encM,kills_encM,hxl]
       refine loopP_inv (fun x:Nat × W3 × (Nat→Option HO)=>Rd R c col top x.1 x.2.1 w2∧x.1≤top∧ent x.2.1.M top col≠0∧wFam pre R c x.2.1.M x.2.1.U x.2.1.V=x.2.2) (fun x=>⟨sltF [(1,.ptr 1 0),(2,.ptr 2 0),(3,.ptr 3 0),(4,.d (.i .i64 (top:Int))),(5,.d (.i .i64 (col:Int))),(10,.d (.i .i64 (x.1:Int)))],x.2.2,3+3 * R+4⟩) (fun x=>top - x.1) (0,w,H) ⟨hrd0,Nat.zero_le _,fun h=>hx0 (hx.symm.trans h),hHg⟩ ?_ ?_
       ·subst hHg
        have e:=can_facts (p:=p) (q:=q) (r:=r) hpl hs
        refine wk_can hF hs (by omega) (by omega) h2 h3 hprf ?_
        simp [-map_map,upd,inj1,Γ0,e.1,e.2.1,e.2.2.1,e.2.2.2.1,e.2.2.2.2.1,e.2.2.2.2.2]
       ·clear hH3 hHd hgt hgl hggt hHt hvt hrt hF h1 h2 h3 h4 hs hHg hx hsgt hei
        rintro ⟨i,w,H⟩ ⟨hrd,hit,hxc,hHg⟩
        simp only at hrd hit hxc hHg
        have ok:=hrd.ok
        have hs:=ok.sh
        refine (can_HF (pre:=pre) hs hHg).elim fun p hh=>hh.elim fun q hh=>hh.elim fun r hh=>?_
        have h1:=hh.1
        have h2:=hh.2.1
        have h3:=hh.2.2.1
        have h4:=hh.2.2.2.1
        have hF:=hh.2.2.2.2
        rw [hpl] at h1 h4
        clear hh
        have hH3:=hF.root2 hpl
        by_cases hig:i<top
        ·have q5:(i:Int)<top:=by omega
         have hi:i<R:=by omega
         have hw5:IntKind.i64.wrap ((i:Int)+1)=(i:Int)+1:=wrap_i64 (by omega) (by omega)
         have hHd:=hF.w.hdrM hs
         have hgi:=hdr_get (c:=c) (b:=p+1) hi
         have hgt:=hdr_get (c:=c) (b:=p+1) hgo.2
         have hgl:=hdr_len c R (p+1)
         refine (show ∃ l,hdr c R (p+1)=l from ⟨_,rfl⟩).elim fun cells hcl=>?_
         rw [hcl] at hHd hgi hgt hgl
         have hggi:∀ h:i<cells.length,cells[i]'h=.own (i+(p+1)) 0 c 2:=fun h=>Option.some.inj ((List.getElem?_eq_getElem h).symm.trans hgi)
         have hggt:∀ h:top<cells.length,cells[top]'h=.own (top+(p+1)) 0 c 2:=fun h=>Option.some.inj ((List.getElem?_eq_getElem h).symm.trans hgt)
         refine (hF.rd hs hi hgo.1).hd.elim fun vi hh=>?_
         have hHi:=hh.1
         have hvi:=hh.2.1
         have hri:=hh.2.2
         clear hh
         refine (hF.rd hs hgo.2 hgo.1).hd.elim fun vt hh=>?_
         have hHt:=hh.1
         have hvt:=hh.2.1
         have hrt:=hh.2.2
         clear hh
         have hnext:=hrd.next hig
         have hxn:ent (rdS R c col top i w).M top col≠0:=by
          show ent (rowA R c w.M i top _) top col≠0
          rw [ent_rowA hgo.2 hgo.1,if_neg (by omega)]; exact hxc
         have hS:rdS R c col top i w=w.add R c i top (-(ent w.M i col / ent w.M top col)):=rfl
         have hyd:Sd (ent w.M i col):=ok.m i col
         have hxd:Sd (ent w.M top col):=ok.m top col
         have hqs:Sd (ent w.M i col / ent w.M top col):=Nat.le_trans (digs_len_mono (Int.natAbs_ediv_le_natAbs _ _)) hyd
         have hfl:=r12Floor (ent w.M i col) (ent w.M top col) hxc hyd hxd
         have hng:=r01NegB (ent w.M i col / ent w.M top col) (Nat.le_trans hqs (by decide))
         refine (show ∃ nq,-(ent w.M i col / ent w.M top col)=nq from ⟨_,rfl⟩).elim fun nq hnq=>?_
         have hsn:Sd nq:=by rw [← hnq]; unfold Sd; rw [Int.natAbs_neg]; exact hqs
         rw [hnq] at hng hS
         rw [hS] at hnext hxn
         refine (show ∃ qq,ent w.M i col / ent w.M top col=qq from ⟨_,rfl⟩).elim fun qq hqq=>?_
         rw [hqq] at hng hfl
         refine (show ∃ y,ent w.M i col=y from ⟨_,rfl⟩).elim fun y hy=>?_
         refine (show ∃ x,ent w.M top col=x from ⟨_,rfl⟩).elim fun x hx=>?_
         rw [hy] at hri hfl
         rw [hx] at hrt hfl
         have hs2:(w.add R c i top nq).sh R c:=W3.add_sh ..
         have had:=r12AddTo hs (by omega) hc hi hgo.2 (sy_of_sd hsn) (fun r t=>sy_of_sd (ok.m r t)) (fun r t=>sy_of_sd (ok.u r t)) (fun r t=>sy_of_sd (ok.v r t))
         have hbc:col * 2+2≤c * 2:=by omega
         have hg1:=hgo.1
         have hg2:=hgo.2
         simp (maxSteps:=1000000) [-map_map,-mapM_map,↓KW,q5,hig,hH3,hHd,hgi,hgt,hgl,hggi,hggt,hHi,hHt,hvi,hvt,hri,hrt,hbc,hg1,hg2,hi,cellsA_encM,one_encM,inj1_encM,inj_encM,kills_encM]
         refine callP_intro (ds:=[encZ y,encZ x]) (by rfl) hfl ?_
         simp (maxSteps:=1000000) [-map_map,-mapM_map,↓KW,encZ_eq,hH3,hHd,hgi,hgt,hgl,hggi,hggt,hHi,hHt,hvi,hvt,hri,hrt,hbc,hg1,hg2,hi,cellsA_encM,one_encM,inj1_encM,inj_encM,kills_encM]
         refine callP_intro (ds:=[encZ qq]) (by rfl) hng ?_
         simp (maxSteps:=1000000) [-map_map,-mapM_map,↓KW,encZ_eq,hH3,hHd,hgi,hgt,hgl,hggi,hggt,hHi,hHt,hvi,hvt,hri,hrt,hbc,hg1,hg2,hi,cellsA_encM,one_encM,inj1_encM,inj_encM,kills_encM]
         refine o1_wend (pre:=pre) (w:=w) (w':=w.add R c i top nq) (ds:=[.i .i64 (i:Int),.i .i64 (top:Int),encZ nq]) (fun _ _=>by first | rfl | exact ow_nil' _ _ _ _ _) (by simp) (by rw [hpl]; rfl) hF hprf hs (by omega) h2 h3 (by simp only; omega) (by rfl) (by rfl) hs2 had ?_
         intro l H' p' q' r' n' hl g1 g2 g3 g4 hF'
         have hl1:=hl 1 (by omega)
         have hl2:=hl 2 (by omega)
         have hl3:=hl 3 (by omega)
         simp (maxSteps:=1000000) [-map_map,-mapM_map,↓KW,hl1,hl2,hl3,hw5]
         refine nxt_intro (i+1,w.add R c i top nq,wFam pre R c (w.add R c i top nq).M (w.add R c i top nq).U (w.add R c i top nq).V) ⟨hnext,hig,hxn,rfl⟩ (by omega) ?_
         have e:=can_facts (p:=p') (q:=q') (r:=r') hpl hs2
         refine wk_can hF' hs2 (by omega) (by omega) g2 g3 hprf ?_
         simp [-map_map,upd,inj1,Γ0,e.1,e.2.1,e.2.2.1,e.2.2.2.1,e.2.2.2.2.1,e.2.2.2.2.2,hl1,hl2,hl3]
        ·have q5:¬ (i:Int)<top:=by omega
         have e:=hrd.end hig
         simp (maxSteps:=1000000) [-map_map,-mapM_map,↓KW,q5,hig,hw1,hw2]
         refine nxt_intro (col+1,top+1,w,H) ⟨e ▸ hfo,hgo.1,hgo.2,hHg⟩ (by omega) ?_
         subst hHg
         have e:=can_facts (p:=p) (q:=q) (r:=r) hpl hs
         refine wk_can hF hs (by omega) (by omega) h2 h3 hprf ?_
         simp [-map_map,upd,inj1,Γ0,e.1,e.2.1,e.2.2.1,e.2.2.2.1,e.2.2.2.2.1,e.2.2.2.2.2]
  ·have e:=hf.end hgo
   subst e
   have hu:∀ {c' m:Nat} {N:List (List Int)} (x:Option HO),3<m→(∀ (i:Nat) o,(mB c' N m)[i]? = some o→H (i+m)=some o)→∀ (i:Nat) o,(mB c' N m)[i]? = some o→upd H 2 x (i+m)=some o:=fun x hm h i o ho=>by
    rw [upd_ne _ _ (by omega)]; exact h i o ho
   have f1:=fun x k=>frz_mat (H:=upd H 2 x) k hs.m (hu x (by omega) hF.w.m)
   have f2:=fun x k=>frz_mat (H:=upd H 2 x) k hs.u (hu x (by omega) hF.w.u)
   have f3:=fun x k=>frz_mat (H:=upd H 2 x) k hs.v (hu x (by omega) hF.w.v)
   by_cases q1:col<c
   ·have q2:¬ top<R:=fun h=>hgo ⟨q1,h⟩
    have q1':(col:Int)<c:=by omega
    have q2':¬ (top:Int)<R:=by omega
    simp (maxSteps:=1000000) [-map_map,-mapM_map,↓KW,q1,q1',q2,q2',hH1,hH2,hH3,f1,f2,f3,-frz_own]
    rfl
   ·have q1':¬ (col:Int)<c:=by omega
    simp (maxSteps:=1000000) [-map_map,-mapM_map,↓KW,q1,q1',hH1,hH2,hH3,f1,f2,f3,-frz_own]
    rfl
end Go.Am
end

section
set_option linter.unusedVariables false
set_option linter.unusedSimpArgs false
open List (map_map mapM_map)
open Go Go.Am Go.Proofs
namespace Go.Am
def pvF:Nat→List Int→Int
 | _,[]=>-1
 | k,z::l=>if z=0 then pvF (k+1) l else (k:Int)
def pivR (v:List Int):Int:=pvF 0 v
theorem sgn0 {z:Int} (h:z=0):(z.sign != 0)=false:=by rw [h]; rfl
theorem sgn1 {z:Int} (h:¬ z=0):(z.sign != 0)=true:=by
 have:z.sign≠0:=fun e=>h (Int.sign_eq_zero_iff_zero.1 e)
 simpa using this
set_option maxHeartbeats 1000000 in
set_option maxRecDepth 10000 in
theorem r12Pivot (v:List Int) (hl:v.length≤1000000):Spec Tryz.prog 176 [encV2 v] (.i .i64 (pivR v)):=by
 refine spec_of (N:=17) follows_mixed Tryz.func176 rfl rfl rfl (by kernel_rfl) (by kernel_rfl) (by simp) ?_
 simp (maxSteps:=1000000) [-map_map,-mapM_map,↓KW,encV2]
 refine loopP_inv (fun i:Nat=>i≤v.length∧pvF i (v.drop i)=pivR v) (fun i=>StL [(0,.d (encV2 v)),(3,.d (.i .i64 (i:Int)))] none []) (fun i=>v.length - i) 0 ⟨Nat.zero_le _,rfl⟩ ?_ ?_
 ·refine wk_l [] (by simp) ?_ ?_ <;> simp [-map_map,upd,inj1,Γ0,encV2,blksOk]
 ·intro i ⟨hi,hp⟩
  by_cases hgo:i<v.length
  ·have q1:(i:Int)<v.length:=by omega
   have hx:v[i]? = some v[i]:=List.getElem?_eq_getElem hgo
   have hw:IntKind.i64.wrap ((i:Int)+1)=(i:Int)+1:=wrap_i64 (by omega) (by omega)
   rw [List.drop_eq_getElem_cons hgo,pvF] at hp
   generalize v[i]=z at *
   have hS:=r01SignZ z
   simp (maxSteps:=1000000) [-map_map,-mapM_map,↓KW,encV2,q1,hx,encN_eq]
   refine callP_intro (ds:=[encZ z]) (by rfl) hS ?_
   by_cases h0:z=0
   ·have hs:=sgn0 h0
    rw [if_pos h0] at hp
    generalize z.sign=sn at *
    simp (maxSteps:=1000000) [-map_map,-mapM_map,↓KW,hw,hs]
    refine nxt_intro (i+1) ⟨hgo,hp⟩ (Nat.sub_lt_sub_left hgo (Nat.lt_succ_self _)) (wk_l [] (by simp) ?_ ?_) <;> simp [-map_map,upd,inj1,Γ0,encV2,blksOk]
   ·have hs:=sgn1 h0
    rw [if_neg h0] at hp
    generalize z.sign=sn at *
    simp (maxSteps:=1000000) [-map_map,-mapM_map,↓KW,hw,hs,← hp]
  ·have q1:¬ (i:Int)<v.length:=by omega
   rw [List.drop_eq_nil_of_le (by omega),pvF] at hp
   simp (maxSteps:=1000000) [-map_map,-mapM_map,↓KW,encV2,q1,← hp]
def rkR (A:List (List Int)):Nat:=(A.filter fun v=>decide (0≤pivR v)).length
theorem rkR_take {A:List (List Int)} {i:Nat} (h:i<A.length):rkR (A.take (i+1))=rkR (A.take i)+if 0≤pivR A[i] then 1 else 0:=by
 rw [List.take_add_one,List.getElem?_eq_getElem h]
 unfold rkR
 rw [List.filter_append,List.length_append]
 congr 1
 by_cases e:0≤pivR A[i] <;> simp [e]
theorem rkR_le (A:List (List Int)):rkR A≤A.length:=List.length_filter_le _ _
theorem rkR_take_le (A:List (List Int)) (i:Nat):rkR (A.take i)≤i:=Nat.le_trans (rkR_le _) (by simp; omega)
set_option maxHeartbeats 1000000 in
set_option maxRecDepth 10000 in
theorem r12Rank {R c:Nat} {A:List (List Int)} (hA:Sh R c A) (hR:R≤1000) (hc:c≤1000):Spec Tryz.prog 147 [encMat R c A] (.i .i64 (rkR A:Int)):=by
 refine spec_of (N:=21) follows_mixed Tryz.func147 rfl rfl rfl (by kernel_rfl) (by kernel_rfl) (by simp) ?_
 simp (maxSteps:=1000000) [-map_map,-mapM_map,↓KW,encMat]
 refine loopP_inv (fun i:Nat=>i≤R) (fun i=>StL [(1,.ptr 1 0),(3,.d (.i .i64 (rkR (A.take i):Int))),(4,.d (.i .i64 (i:Int)))] none [.cells 155 [.d (.i .i64 (R:Int)),.d (.i .i64 (c:Int)),.d (.sl (A.map fun v=>[encV2 v]))]]) (fun i=>R - i) 0 (Nat.zero_le _) ?_ ?_
 ·refine wk_l [1] (by simp) ?_ ?_ <;> simp [-map_map,upd,inj1,Γ0,rkR]
 ·intro i hi
  have hAl:=hA.len
  by_cases hgo:i<R
  ·have q1:(i:Int)<R:=by omega
   have hgA:i<A.length:=by omega
   have hx:A[i]? = some A[i]:=List.getElem?_eq_getElem hgA
   have hw:IntKind.i64.wrap ((i:Int)+1)=(i:Int)+1:=wrap_i64 (by omega) (by omega)
   have htk:=rkR_take hgA
   have hvl:=hA.row _ (List.getElem_mem hgA)
   have hrl:=rkR_take_le A i
   generalize A[i]=v at *
   generalize rkR (A.take i)=n at *
   have hw2:IntKind.i64.wrap ((n:Int)+1)=(n:Int)+1:=wrap_i64 (by omega) (by omega)
   have hS:=r12Pivot v (by omega)
   have hv2:encV2 v=.sl (v.map encN):=rfl
   simp (maxSteps:=1000000) [-map_map,-mapM_map,↓KW,q1,hx,hv2]
   refine callP_intro (ds:=[encV2 v]) (by rfl) hS ?_
   by_cases h0:0≤pivR v
   ·rw [if_pos h0] at htk
    simp (maxSteps:=1000000) [-map_map,-mapM_map,↓KW,hw,hw2,h0]
    refine nxt_intro (i+1) hgo (Nat.sub_lt_sub_left hgo (Nat.lt_succ_self _)) (wk_l [1] (by simp) ?_ ?_) <;> simp [-map_map,upd,inj1,Γ0,htk]
   ·rw [if_neg h0] at htk
    simp (maxSteps:=1000000) [-map_map,-mapM_map,↓KW,hw,hw2,h0]
    refine nxt_intro (i+1) hgo (Nat.sub_lt_sub_left hgo (Nat.lt_succ_self _)) (wk_l [1] (by simp) ?_ ?_) <;> simp [-map_map,upd,inj1,Γ0,htk]
  ·have q1:¬ (i:Int)<R:=by omega
   rw [List.take_of_length_le (by omega)]
   simp (maxSteps:=1000000) [-map_map,-mapM_map,↓KW,q1]
theorem okHead_rows (A:List (List Int)):okHead 1 (A.map fun v=>[encV2 v])=true:=by cases A <;> rfl
set_option maxHeartbeats 1000000 in
set_option maxRecDepth 10000 in
theorem r12Top {R c:Nat} {A:List (List Int)} (hA:Sh R c A) (n:Nat) (hn:n≤R) (hR:R≤1000) (hc:c≤1000):Spec Tryz.prog 160 [encMat R c A,.i .i64 (n:Int)] (encMat n c (A.take n)):=by
 refine spec_of (N:=13) follows_mixed Tryz.func160 rfl rfl rfl (by kernel_rfl) (by kernel_rfl) (by simp) ?_
 have hAl:=hA.len
 have q1:(n:Int)≤A.length:=by omega
 have q2:n≤A.length:=by omega
 have q3:=okHead_rows A
 simp (maxSteps:=1000000) [-map_map,-mapM_map,↓KW,encMat,sliceA,q1,q2,q3,hAl,hn,List.map_take]
set_option maxHeartbeats 1000000 in
set_option maxRecDepth 10000 in
theorem r12Basis {R c:Nat} {A:List (List Int)} {wf:W3} (hA:Sh R c A) (hR:R≤15) (hc:c≤1000) (hAs:∀ v∈A,∀ z∈v,Sz z) (hFo:Fo R c 0 0 ⟨A,idM R,idM R⟩ wf) (hw:Sh R c wf.M) :
  Spec Tryz.prog 143 [encMat R c A] (encMat (rkR wf.M) c (wf.M.take (rkR wf.M))):=by
 refine spec_of (N:=12) follows_mixed Tryz.func143 rfl rfl rfl (by kernel_rfl) (by kernel_rfl) (by simp) ?_
 have hF:=r12Form hA hR hc hAs hFo
 have hK:=r12Rank hw (by omega) hc
 have hle:rkR wf.M≤R:=by have:=rkR_le wf.M; rwa [hw.len] at this
 have hT:=r12Top hw (rkR wf.M) hle (by omega) hc
 generalize rkR wf.M=k at *
 simp (maxSteps:=1000000) [-map_map,-mapM_map,↓KW,encMat]
 refine callP_intro (ds:=[encMat R c A]) (by rfl) hF ?_
 simp (maxSteps:=1000000) [-map_map,-mapM_map,↓KW,encHer]
 refine callP_intro (ds:=[encMat R c wf.M]) (by rfl) hK ?_
 simp (maxSteps:=1000000) [-map_map,-mapM_map,↓KW,encHer]
 refine callP_intro (ds:=[encMat R c wf.M,.i .i64 (k:Int)]) (by rfl) hT ?_
 simp (maxSteps:=1000000) [-map_map,-mapM_map,↓KW,encMat]
set_option maxHeartbeats 1000000 in
set_option maxRecDepth 10000 in
theorem r15LeftS {R c:Nat} {A B:List (List Int)} {wf wg:W3} (hA:Sh R c A) (hR:R≤15) (hc:c≤1000) (hAs:∀ v∈A,∀ z∈v,Sz z) (hFo:Fo R c 0 0 ⟨A,idM R,idM R⟩ wf) (hw:Sh R c wf.M) (hu:Sh R R wf.U)
  (hk:rkR wf.M≤R) (hB:wf.U.drop (rkR wf.M)=B) (hBs:∀ v∈B,∀ z∈v,Sz z) (hFg:Fo (R - rkR wf.M) R 0 0 ⟨B,idM (R - rkR wf.M),idM (R - rkR wf.M)⟩ wg) (hg:Sh (R - rkR wf.M) R wg.M) :
  Spec Tryz.prog 121 [encMat R c A] (encMat (rkR wg.M) R (wg.M.take (rkR wg.M))):=by
 refine spec_of (N:=25) follows_mixed Tryz.func121 rfl rfl rfl (by kernel_rfl) (by kernel_rfl) (by simp) ?_
 have hF:=r12Form hA hR hc hAs hFo
 have hK:=r12Rank hw (by omega) hc
 have hBh:Sh (R - rkR wf.M) R B:=⟨by rw [← hB,List.length_drop,hu.len],fun v hv=>hu.row v (List.mem_of_mem_drop (hB ▸ hv))⟩
 have hG:=r12Basis hBh (by omega) (by omega) hBs hFg hg
 have hul:=hu.len
 generalize rkR wf.M=k at *
 have q1:(k:Int)≤wf.U.length:=by omega
 have q2:k≤wf.U.length:=by omega
 have q3:=okHead_rows wf.U
 have q5:List.take R (wf.U.map fun v=>[encV2 v])=wf.U.map fun v=>[encV2 v]:=List.take_of_length_le (by simp; omega)
 have q4:((R - k:Nat):Int)=(R:Int) - k:=by omega
 have hwr:IntKind.i64.wrap ((R:Int) - k)=(R:Int) - k:=wrap_i64 (by omega) (by omega)
 rw [q4] at hG
 simp (maxSteps:=1000000) [-map_map,-mapM_map,↓KW,encMat]
 refine callP_intro (ds:=[encMat R c A]) (by rfl) hF ?_
 simp (maxSteps:=1000000) [-map_map,-mapM_map,↓KW,encHer]
 refine callP_intro (ds:=[encMat R c wf.M]) (by rfl) hK ?_
 simp (maxSteps:=1000000) [-map_map,-mapM_map,↓KW,encHer,hwr,sliceA,q1,q2,q3,q5,hul,hk]
 refine callP_intro (ds:=[encMat ((R:Int) - k) R B]) (by simp only [← hB,encMat,List.map_drop]; rfl) hG ?_
 simp (maxSteps:=1000000) [-map_map,-mapM_map,↓KW,encMat]
end Go.Am
end

section
set_option linter.unusedVariables false
set_option linter.unusedSimpArgs false
open Go Go.Am Go.Proofs
namespace Go.Am
theorem pvF_pos:∀ (v:List Int) (k:Nat),0≤pvF k v↔∃ z∈v,z≠0
 | [],k=>by simp [pvF]
 | z::v,k=>by
  unfold pvF
  by_cases h:z=0
  ·rw [if_pos h,pvF_pos v (k+1)]
   simp [h]
  ·rw [if_neg h]
   exact ⟨fun _=>⟨z,List.mem_cons_self ..,h⟩,fun _=>by omega⟩
theorem getD_mem {v:List Int} {t:Nat} (h:v.getD t 0≠0):v.getD t 0∈v:=by
 rw [List.getD_eq_getElem?_getD] at h ⊢
 cases e:v[t]? with
 | none=>rw [e] at h; exact (h rfl).elim
 | some z=>exact List.mem_of_getElem? e
theorem mem_getD {v:List Int} {z:Int} (h:z∈v):∃ t,t<v.length∧v.getD t 0=z:=by
 obtain ⟨t,ht,e⟩:=List.getElem_of_mem h
 exact ⟨t,ht,by rw [List.getD_eq_getElem?_getD,List.getElem?_eq_getElem ht,e]; rfl⟩
theorem rank_eq {R c k:Nat} {M:List (List Int)} (hM:Sh R c M) (hk:k≤R) (hz:∀ r t,k≤r→r<R→t<c→ent M r t=0) (hn:∀ r,r<k→∃ t,t<c∧ent M r t≠0):rkR M=k:=by
 unfold rkR
 have hl:=hM.len
 have e:(M.take k++M.drop k).filter (fun v=>decide (0≤pivR v))=M.take k:=by
  rw [List.filter_append,List.filter_eq_self.2,List.filter_eq_nil_iff.2,List.append_nil]
  ·intro v hv
   obtain ⟨i,hi,e⟩:=List.getElem_of_mem hv
   rw [List.getElem_drop] at e
   have hi2:k+i<R:=by rw [List.length_drop] at hi; omega
   intro h
   obtain ⟨z,hzv,hz0⟩:=(pvF_pos v 0).1 (of_decide_eq_true h)
   obtain ⟨t,ht,et⟩:=mem_getD hzv
   have hvc:v.length=c:=hM.row v (List.mem_of_mem_drop hv)
   refine hz0 ?_
   rw [← et]
   have:=hz (k+i) t (by omega) hi2 (by omega)
   unfold ent at this
   rwa [List.getD_eq_getElem?_getD (l:=M),List.getElem?_eq_getElem (by omega),Option.getD_some,e] at this
  ·intro v hv
   obtain ⟨i,hi,e⟩:=List.getElem_of_mem hv
   rw [List.getElem_take] at e
   have hi2:i<k:=by rw [List.length_take] at hi; omega
   obtain ⟨t,ht,ht0⟩:=hn i hi2
   unfold ent at ht0
   rw [List.getD_eq_getElem?_getD (l:=M),List.getElem?_eq_getElem (by omega),Option.getD_some,e] at ht0
   exact decide_eq_true ((pvF_pos v 0).2 ⟨_,getD_mem ht0,ht0⟩)
 rw [List.take_append_drop] at e
 rw [e,List.length_take]; omega
theorem Be.mem {e:Nat} {M:List (List Int)} (h:Be e M) (he:e<1099511627776):∀ v∈M,∀ z∈v,Sz z:=fun v hv z hz=>by
 obtain ⟨i,hi,e1⟩:=List.getElem_of_mem hv
 obtain ⟨t,ht,e2⟩:=mem_getD hz
 have:=h.sd he i t
 unfold ent at this
 rw [List.getD_eq_getElem?_getD (l:=M),List.getElem?_eq_getElem hi,Option.getD_some,e1,e2] at this
 exact Nat.le_trans this (by decide)
theorem idM_sh (R:Nat):Sh R R (idM R):=mk_sh _ _ _
theorem idM_ent {R r s:Nat} (hr:r<R) (hs:s<R):ent (idM R) r s=if r=s then 1 else 0:=mk_ent _ hr hs
theorem idM_be (R e:Nat):Be e (idM R):=Be.of (idM_sh R) fun r t hr ht=>by
 rw [idM_ent hr ht]
 have:1≤2 ^ e:=Nat.one_le_two_pow
 split <;> simp <;> omega
theorem form_ex {R c e:Nat} {A:List (List Int)} (hA:Sh R c A) (hR:R≤15) (hB:Be e A) (he:dbl (tr R) e<1099511627776) :
  ∃ wf k e',Fo R c 0 0 ⟨A,idM R,idM R⟩ wf∧rkR wf.M=k∧k≤R∧wf.sh R c∧B3 e' wf∧dbl (tr (R - k)) e'≤dbl (tr R) e∧PrEq R c R wf.U A wf.M∧∀ r t,k≤r→r<R→t<c→ent wf.M r t=0:=by
 have g:Gd R c A e 0 0 ⟨A,idM R,idM R⟩:=⟨⟨hA,idM_sh R,idM_sh R⟩,⟨hB,idM_be R e,idM_be R e⟩,fun r t hr ht=>by
  show sgm R (fun j=>ent (idM R) r j * ent A j t)=ent A r t
  rw [← sgm_one hr fun j=>ent A j t]
  refine sgm_congr fun j hj=>?_
  rw [idM_ent hr hj]
  by_cases e:r=j
  ·rw [if_pos e,if_pos e.symm]
  ·rw [if_neg e,if_neg fun h=>e h.symm],fun r t _ _ h=>by omega,fun r h=>by omega⟩
 obtain ⟨w',k,e',h1,h2,h3,h4,h5⟩:=fo_ex (A:=A) hR c 0 0 e _ (by omega) (Nat.zero_le _) g he
 exact ⟨w',k,e',h1,rank_eq h3.sh.m h2 h4 h3.hi,h2,h3.sh,h3.b,h5,h3.eq,h4⟩
theorem sgm_comm (n m:Nat) (f:Nat→Nat→Int):sgm n (fun i=>sgm m (fun j=>f i j))=sgm m (fun j=>sgm n (fun i=>f i j)):=by
 induction n with
 | zero=>exact (sgm_zero m).symm
 | succ n ih =>
  show sgm n _+sgm m _=_
  rw [ih,← sgm_add]; rfl
theorem sgm_mulr (n:Nat) (k:Int) (f:Nat→Int):sgm n (fun j=>f j * k)=sgm n f * k:=by
 rw [Int.mul_comm,← sgm_mul]
 exact sgm_congr fun j _=>Int.mul_comm _ _
theorem ent_drop {k r s:Nat} {M:List (List Int)}:ent (M.drop k) r s=ent M (k+r) s:=by
 unfold ent
 rw [List.getD_eq_getElem?_getD (l:=M.drop k),List.getElem?_drop,List.getD_eq_getElem?_getD (l:=M)]
structure LeftR (R c E:Nat) (A L:List (List Int)):Prop where
 spec:Spec Tryz.prog 121 [encMat R c A] (encMat L.length R L)
 len:L.length≤R
 row:∀ v∈L,v.length=R
 be:∀ v∈L,∀ z∈v,z.natAbs≤2 ^ E
 ker:∀ v∈L,∀ t,t<c→sgm R (fun j=>v.getD j 0 * ent A j t)=0
theorem left_ex {R c e:Nat} {A:List (List Int)} (hA:Sh R c A) (hR:R≤15) (hc:c≤1000) (hB:Be e A) (he:dbl (tr R) e<1099511627776):∃ L,LeftR R c (dbl (tr R) e) A L:=by
 obtain ⟨wf,k,e',f1,f2,f3,f4,f5,f6,f7,f8⟩:=form_ex hA hR hB he
 have hB2:Sh (R - k) R (wf.U.drop k):=⟨by rw [List.length_drop,f4.u.len],fun v hv=>f4.u.row v (List.mem_of_mem_drop hv)⟩
 have hbe:Be e' (wf.U.drop k):=fun r t=>by rw [ent_drop]; exact f5.u _ _
 obtain ⟨wg,q,e2,g1,g2,g3,g4,g5,g6,g7,g8⟩:=form_ex hB2 (by omega) hbe (Nat.lt_of_le_of_lt f6 he)
 have he1:e<1099511627776:=Nat.lt_of_le_of_lt (dbl_le _ _) he
 have he2:e'<1099511627776:=Nat.lt_of_le_of_lt (Nat.le_trans (dbl_le _ _) f6) he
 have he3:e2≤dbl (tr R) e:=Nat.le_trans (dbl_le _ _) (Nat.le_trans g6 f6)
 have hS:=r15LeftS hA hR hc (hB.mem he1) f1 f4.m f4.u (by rw [f2]; exact f3) rfl (by rw [f2]; exact hbe.mem he2) (by rw [f2]; exact g1) (by rw [f2]; exact g4.m)
 rw [g2] at hS
 have hlen:(wg.M.take q).length=q:=by rw [List.length_take,g4.m.len]; omega
 refine ⟨wg.M.take q,by rw [hlen]; exact hS,by omega,fun v hv=>g4.m.row v (List.mem_of_mem_take hv),fun v hv z hz=>?_,fun v hv t ht=>?_⟩
 ·obtain ⟨i,hi,e1⟩:=List.getElem_of_mem (List.mem_of_mem_take hv)
  obtain ⟨s,hs,e2'⟩:=mem_getD hz
  have:=g5.m i s
  unfold ent at this
  rw [List.getD_eq_getElem?_getD (l:=wg.M),List.getElem?_eq_getElem hi,Option.getD_some,e1,e2'] at this
  exact Nat.le_trans this (Nat.pow_le_pow_right (by decide) he3)
 ·obtain ⟨r,hr,e1⟩:=List.getElem_of_mem hv
  have hrq:r<q:=by omega
  have hrR:r<R - k:=by omega
  rw [List.getElem_take] at e1
  have hrl:r<wg.M.length:=by rw [g4.m.len]; exact hrR
  have hvj:∀ j,j<R→v.getD j 0=sgm (R - k) fun i=>ent wg.U r i * ent wf.U (k+i) j:=fun j hj=>by
   have h1:=g7 r j hrR hj
   have h2:ent wg.M r j=v.getD j 0:=by
    unfold ent
    rw [List.getD_eq_getElem?_getD (l:=wg.M),List.getElem?_eq_getElem hrl,Option.getD_some,e1]
   rw [← h2,← h1]
   exact sgm_congr fun i _=>by rw [ent_drop]
  rw [sgm_congr fun j hj=>by rw [hvj j hj,← sgm_mulr],sgm_comm]
  rw [sgm_congr (g:=fun _=>0) fun i hi=>?_,sgm_zero]
  rw [sgm_congr (g:=fun j=>ent wg.U r i * (ent wf.U (k+i) j * ent A j t)) fun j _=>Int.mul_assoc _ _ _,sgm_mul,f7 (k+i) t (by omega) ht,f8 (k+i) t (by omega) (by omega) ht,Int.mul_zero]
/-! No columns -/
theorem rowA_zero {R c i j:Nat} {M:List (List Int)} (h:Sh R c M):rowA R c M i j 0=M :=
 (mk_of h fun r t hr ht=>by unfold addF; split <;> simp_all).symm
theorem addV_zero {R i j:Nat} {V:List (List Int)} (h:Sh R R V):addV R V i j 0=V :=
 (mk_of h fun r t hr ht=>by unfold addC; split <;> simp_all).symm
theorem idW_ok (R:Nat):Ok R R ⟨idM R,idM R,idM R⟩ :=
 have h:B3 0 ⟨idM R,idM R,idM R⟩:=⟨idM_be R 0,idM_be R 0,idM_be R 0⟩
 h.ok ⟨idM_sh R,idM_sh R,idM_sh R⟩ (by decide)
theorem ei_id {R col:Nat} (hc:col<R):∀ (n i:Nat),n+i=R→col<i→Ei R R col col i ⟨idM R,idM R,idM R⟩ ⟨idM R,idM R,idM R⟩
 | 0,i,h,_=>.done i _ (idW_ok R) (by omega)
 | n+1,i,h,h2=>.go i _ _ _ (by omega) (.done _ (idW_ok R) (by rw [idM_ent (by omega) hc,if_neg (by omega)])) (ei_id hc n (i+1) (by omega) (by omega))
theorem rd_id {R col:Nat} (hc:col<R):∀ (n i:Nat),n+i=col→Rd R R col col i ⟨idM R,idM R,idM R⟩ ⟨idM R,idM R,idM R⟩
 | 0,i,h=>.done i _ (idW_ok R) (by omega)
 | n+1,i,h=>.go i _ _ (idW_ok R) (by omega) (by
  have e:rdS R R col col i ⟨idM R,idM R,idM R⟩=⟨idM R,idM R,idM R⟩:=by
   unfold rdS W3.add
   simp only
   rw [idM_ent (show i<R by omega) hc,if_neg (by omega),Int.zero_ediv,Int.neg_zero,rowA_zero (idM_sh R),addV_zero (idM_sh R)]
  rw [e]
  exact rd_id hc n (i+1) (by omega))
theorem fo_id {R:Nat}:∀ (n col:Nat),n+col=R→Fo R R col col ⟨idM R,idM R,idM R⟩ ⟨idM R,idM R,idM R⟩
 | 0,col,h=>.done col col _ (idW_ok R) (by omega)
 | n+1,col,h=>by
  have hc:col<R:=by omega
  have h1:ent (idM R) col col=1:=by rw [idM_ent hc hc,if_pos rfl]
  refine .piv col col _ _ _ _ hc hc (ei_id hc (R - (col+1)) (col+1) (by omega) (by omega)) (by rw [h1]; decide) ?_ (fo_id n (col+1) (by omega))
  have e:ngS R R col col ⟨idM R,idM R,idM R⟩=⟨idM R,idM R,idM R⟩:=by
   unfold ngS
   rw [h1,if_neg (by decide)]
  rw [e]
  exact rd_id hc col 0 (by omega)
theorem left_id {R:Nat} {A:List (List Int)} (hA:Sh R 0 A) (hR:R≤15):LeftR R 0 0 A (idM R):=by
 have hr0:rkR A=0:=rank_eq hA (Nat.zero_le _) (fun r t _ _ h=>by omega) (fun r h=>by omega)
 have hr1:rkR (idM R)=R:=rank_eq (idM_sh R) (Nat.le_refl _) (fun r t h1 h2 _=>by omega) (fun r h=>⟨r,h,by rw [idM_ent h h,if_pos rfl]; decide⟩)
 have hAs:∀ v∈A,∀ z∈v,Sz z:=fun v hv z hz=>by
  have:=hA.row v hv
  rw [List.eq_nil_of_length_eq_zero this] at hz; cases hz
 have hb:B3 0 ⟨A,idM R,idM R⟩:=⟨fun r t=>by rw [ent_out hA (by omega)]; exact Nat.zero_le _,idM_be R 0,idM_be R 0⟩
 have hIs:=(idM_be R 0).mem (by decide)
 have hl:(idM R).length=R:=(idM_sh R).len
 have hd:(idM R).drop (rkR A)=idM R:=by rw [hr0]; rfl
 have hS:=r15LeftS (B:=idM R) (wf:=⟨A,idM R,idM R⟩) (wg:=⟨idM R,idM R,idM R⟩) hA hR (by decide) hAs (.done 0 0 _ (hb.ok ⟨hA,idM_sh R,idM_sh R⟩ (by decide)) (by omega)) hA (idM_sh R) (by rw [hr0]; omega) hd hIs
  (by rw [hr0]; exact fo_id R 0 rfl) (by rw [hr0]; exact idM_sh R)
 have e1:(idM R).take R=idM R:=List.take_of_length_le (by omega)
 simp only [hr1,e1] at hS
 exact ⟨by rw [hl]; exact hS,by omega,(idM_sh R).row,fun v hv z hz=>by
  obtain ⟨r,hr,e2⟩:=List.getElem_of_mem hv
  obtain ⟨s,hs,e3⟩:=mem_getD hz
  have:=idM_be R 0 r s
  unfold ent at this
  rwa [List.getD_eq_getElem?_getD (l:=idM R),List.getElem?_eq_getElem hr,Option.getD_some,e2,e3] at this,fun v hv t ht=>by omega⟩
end Go.Am
end

section
set_option linter.unusedVariables false
set_option linter.unusedSimpArgs false
open List (map_map mapM_map)
open Go Go.Am Go.Proofs
namespace Go.Am
theorem mix_set {a b:List Int} {k:Nat} {z:Int} (hl:a.length=b.length) (hk:k<a.length) (hz:a[k]? = some z):(a.take k++b.drop k).set k z=a.take (k+1)++b.drop (k+1):=by
 have e:k - (a.take k).length=0:=by rw [List.length_take]; omega
 rw [List.set_append_right _ _ (by rw [List.length_take]; omega),e,List.drop_eq_getElem_cons (show k<b.length by omega),List.set_cons_zero,List.take_add_one,hz]; simp
theorem mix_same {a b:List Int} {k:Nat} (hl:a.length=b.length) (hk:k<a.length) (hz:a[k]? = b[k]?):a.take k++b.drop k=a.take (k+1)++b.drop (k+1):=by
 rw [List.take_add_one,List.drop_eq_getElem_cons (show k<b.length by omega),hz,List.getElem?_eq_getElem (by omega)]; simp
theorem rowX_len (ids:List Int) (x:List (Int × Int)):(rowX ids x).length=ids.length:=by simp [rowX]
theorem rowX_get {ids:List Int} {x:List (Int × Int)} {k:Nat} {q:Int} (h:ids[k]? = some q):(rowX ids x)[k]? = some (lv q x):=by simp [rowX,h]
theorem rowX_nil (ids:List Int):rowX ids []=List.replicate ids.length 0:=by
 unfold rowX
 rw [List.map_eq_replicate_iff.2]
 intro n _; rfl
set_option maxHeartbeats 2000000 in
set_option maxRecDepth 10000 in
theorem r25Row (x:List (Int × Int)) (ids:List Int) (hl:x.length≤1000000) (hn:ids.length≤1000000):Spec Tryz.prog 148 [encC x,encIds ids] (encV2 (rowX ids x)):=by
 refine spec_of (N:=42) follows_mixed Tryz.func148 rfl rfl rfl (by kernel_rfl) (by kernel_rfl) (by simp) ?_
 have hmx:32 * (ids.length:Int)≤281474976710656∧(ids.length:Int)≤9223372036854775807:=by omega
 have hmx2:ids.length≤maxLen:=le_maxLen (by omega)
 have hmx3:ids.length * 32≤140737488355328:=by omega
 simp (maxSteps:=1000000) [-map_map,-mapM_map,↓KW,encC,encIds,hmx,hmx2,hmx3]
 refine loopP_inv (fun i:Nat=>i≤x.length) (fun i=>StL [(0,.d (encC x)),(1,.d (encIds ids)),(5,.own 1 0 ids.length 2),(6,.d (.i .i64 (i:Int)))] none [.cells 69 ((vcs (rowX ids (x.take i))).map .d)]) (fun i=>x.length - i) 0 (Nat.zero_le _) ?_ ?_
 ·have hz:=fun (H H':Nat→Option HO) ρ=>zr_vcs (H:=H) (H':=H') (ρ:=ρ) ids.length
  refine wk_l [1] (by simp) ?_ ?_
  ·simp [-map_map,upd,inj1,Γ0,encC,encIds]
  ·rw [List.take_zero,rowX_nil]
   exact ⟨⟨_,by simp [upd_ap]; rfl,subO_cells.2 ⟨rfl,hz _ _ _⟩⟩,trivial⟩
 ·intro i hi
  by_cases hgo:i<x.length
  ·have q1:(i:Int)<x.length:=by omega
   have hx:x[i]? = some x[i]:=List.getElem?_eq_getElem hgo
   have hw:IntKind.i64.wrap ((i:Int)+1)=(i:Int)+1:=wrap_i64 (by omega) (by omega)
   have htk:=fun q=>lv_take hgo q
   have hra:=rowX_len ids (x.take i)
   have hrb:=rowX_len ids (x.take (i+1))
   have hrg:=fun (k:Nat) (q:Int) (h:ids[k]? = some q)=>rowX_get (x:=x.take i) h
   have hrg1:=fun (k:Nat) (q:Int) (h:ids[k]? = some q)=>rowX_get (x:=x.take (i+1)) h
   obtain ⟨a,ha⟩:∃ a,rowX ids (x.take i)=a:=⟨_,rfl⟩
   obtain ⟨b,hb⟩:∃ b,rowX ids (x.take (i+1))=b:=⟨_,rfl⟩
   rw [ha] at hra hrg
   rw [hb] at hrb hrg1
   simp only [ha]
   generalize x[i]=f at *
   obtain ⟨fn,fc⟩:=f
   have hvl:=vcs_len a
   rw [hra] at hvl
   simp (maxSteps:=1000000) [-map_map,-mapM_map,↓KW,encC,encIds,q1]
   refine loopP_inv (fun k:Nat=>k≤ids.length) (fun k=>StL [(0,.d (encC x)),(1,.d (encIds ids)),(5,.own 1 0 ids.length 2),(6,.d (.i .i64 (i:Int))),(7,.d (.i .i64 (k:Int)))] none [.cells 69 ((vcs (b.take k++a.drop k)).map .d)]) (fun k=>ids.length - k) 0 (Nat.zero_le _) ?_ ?_
   ·refine wk_l [1] (by simp) ?_ ?_ <;> simp [-map_map,upd,inj1,Γ0,encC,encIds]
   ·intro k hk
    have hml:(b.take k++a.drop k).length=ids.length:=by rw [List.length_append,List.length_take,List.length_drop]; omega
    by_cases hgk:k<ids.length
    ·have q2:(k:Int)<ids.length:=by omega
     have hy:ids[k]? = some ids[k]:=List.getElem?_eq_getElem hgk
     have hwk:IntKind.i64.wrap ((k:Int)+1)=(k:Int)+1:=wrap_i64 (by omega) (by omega)
     have hm1:=mix_set (a:=b) (b:=a) (k:=k) (z:=fc) (by omega) (by omega)
     have hm2:=mix_same (a:=b) (b:=a) (k:=k) (by omega) (by omega)
     have hg1:=hrg k _ hy
     have hg2:=hrg1 k _ hy
     rw [htk] at hg2
     generalize ids[k]=q at *
     have hy':∀ h:k<ids.length,ids[k]'h=q:=fun h=>Option.some.inj ((List.getElem?_eq_getElem h).symm.trans hy)
     obtain ⟨v,hv⟩:∃ v,b.take k++a.drop k=v:=⟨_,rfl⟩
     obtain ⟨v',hv'⟩:∃ v,b.take (k+1)++a.drop (k+1)=v:=⟨_,rfl⟩
     rw [hv,hv'] at hm1 hm2
     rw [hv] at hml
     simp only [hv]
     have hvc:=vcs_len v
     rw [hml] at hvc
     have hb2:k * 2+2≤ids.length * 2:=by omega
     have hlay:=lay_row (v:=v) fc (j:=k) (by omega)
     by_cases h0:q=fn
     ·have h0':((q == fn):Bool)=true:=by simpa using h0
      rw [if_pos h0.symm] at hg2
      rw [hm1 hg2] at hlay
      subst h0
      have q3:((q == q):Bool)=true:=by simp
      simp (maxSteps:=1000000) [-map_map,-mapM_map,↓KW,encC,encIds,encF_eq,q1,q2,hx,hy,h0',q3,hb2,hvc,hlay,hwk,hgk,hy',cellsA_encM,one_encM,inj1_encM,inj_encM]
      refine nxt_intro (k+1) hgk (Nat.sub_lt_sub_left hgk (Nat.lt_succ_self _)) (wk_l [1] (by simp) ?_ ?_) <;> simp [-map_map,upd,inj1,Γ0,encC,encIds,hv',hvc]
     ·have h0':((q == fn):Bool)=false:=by simpa using h0
      rw [if_neg fun e=>h0 e.symm] at hg2
      rw [hm2 (hg2.trans hg1.symm)]
      simp (maxSteps:=1000000) [-map_map,-mapM_map,↓KW,encC,encIds,encF_eq,q1,q2,hx,hy,h0,h0',hwk,cellsA_encM,one_encM,inj1_encM,inj_encM]
      refine nxt_intro (k+1) hgk (Nat.sub_lt_sub_left hgk (Nat.lt_succ_self _)) (wk_l [1] (by simp) ?_ ?_) <;> simp [-map_map,upd,inj1,Γ0,encC,encIds,hv']
    ·have q2:¬ (k:Int)<ids.length:=by omega
     have e:b.take k++a.drop k=b:=by rw [List.take_of_length_le (by omega),List.drop_eq_nil_of_le (by omega),List.append_nil]
     rw [e]
     simp (maxSteps:=1000000) [-map_map,-mapM_map,↓KW,encC,encIds,q2,hw]
     refine nxt_intro (i+1) hgo (Nat.sub_lt_sub_left hgo (Nat.lt_succ_self _)) (wk_l [1] (by simp) ?_ ?_) <;> simp [-map_map,upd,inj1,Γ0,encC,encIds,hb]
  ·have q1:¬ (i:Int)<x.length:=by omega
   rw [List.take_of_length_le (by omega)]
   have hfl:=vcs_len (rowX ids x)
   have hvl:=rowX_len ids x
   rw [hvl] at hfl
   generalize rowX ids x=out at *
   simp (maxSteps:=1000000) [-map_map,-mapM_map,↓KW,encC,encIds,encV2,q1,hfl,chunk_vcs hvl,vcs_take_all hvl]
end Go.Am
end

section
set_option linter.unusedVariables false
set_option linter.unusedSimpArgs false
open List (map_map mapM_map)
open Go Go.Am Go.Proofs
namespace Go.Am
theorem matX_len (c:List Cl) (k:Int):(matX c k).length=(idsX c k).length:=by simp [matX]
theorem matX_get {c:List Cl} {k:Int} {i:Nat} {q:Int} (h:(idsX c k)[i]? = some q):(matX c k)[i]? = some (rowX (idsX c (k - 1)) (bOf c q)):=by simp [matX,h]
def bdS (c:List Cl) (R:List Int) (cs:List Int) (M:List (List Int)):Nat→St
 | 0=>StL [(0,.d (encX c)),(4,.ptr 1 0),(5,.d (encIds R)),(6,.d (encIds cs)),(7,.ptr 2 0),(8,.d (.i .i64 0))] none [.cells 155 [.d (.i .i64 0),.d (.i .i64 0),.nil],.cells 155 [.d (.i .i64 R.length),.d (.i .i64 cs.length),.nil]]
 | i+1=>StL [(0,.d (encX c)),(4,.ptr 1 0),(5,.d (encIds R)),(6,.d (encIds cs)),(7,.ptr 2 0),(8,.d (.i .i64 ((i:Int)+1)))] none [.cells 155 [.d (.i .i64 0),.d (.i .i64 0),.nil],.cells 155 [.d (.i .i64 R.length),.d (.i .i64 cs.length),.own 3 0 (i+1) 1],.cells 112 (((M.take (i+1)).map encV2).map .d)]
theorem one_encV2 (v:List Int):one (.d (encV2 v))=true:=rfl
theorem cellsA_encV2 (v:List Int):cellsA (.d (encV2 v))=some [.d (encV2 v)]:=rfl
theorem inj1_encV2 (v:List Int):inj1 (encV2 v)=.d (encV2 v):=rfl
theorem inj_encV2 (v:List Int):inj (encV2 v)=.d (encV2 v):=rfl
theorem kills_encV2 (H:Nat→Option HO) (avs:List AV) (v:List Int):killsOf H avs (encV2 v)=viss H avs:=rfl
set_option maxHeartbeats 2000000 in
set_option maxRecDepth 10000 in
theorem r25Boundary (c:List Cl) (k:Int) (hk:-1000≤k∧k≤1000) (hl:c.length≤1000) (hb:∀ x∈c,x.b.length≤1000000) :
  Spec Tryz.prog 122 [encX c,.i .i64 k] (encMat (idsX c k).length (idsX c (k - 1)).length (matX c k)):=by
 refine spec_of (N:=48) follows_mixed Tryz.func122 rfl rfl rfl (by kernel_rfl) (by kernel_rfl) (by simp) ?_
 have h1:=r25Cells c k (by omega)
 have h2:=r25Cells c (k - 1) (by omega)
 have hwk:IntKind.i64.wrap (k - 1)=k - 1:=wrap_i64 (by omega) (by omega)
 have hml:=matX_len c k
 have hmg:=fun i q h=>matX_get (c:=c) (k:=k) (i:=i) (q:=q) h
 have hrl:=idsX_len c k
 have hcl:=idsX_len c (k - 1)
 generalize idsX c (k - 1)=cs at *
 generalize idsX c k=R at *
 generalize matX c k=M at *
 have hfnd:=fun n=>r25Find c n (by omega)
 have hbl:∀ n,(bOf c n).length≤1000000:=fun n=>by
  unfold bOf
  cases e:findX c n with
  | none=>exact Nat.zero_le _
  | some x=>exact hb x (findX_some e).1
 have hrow:=fun n=>r25Row (bOf c n) cs (hbl n) (by omega)
 simp (maxSteps:=1000000) [-map_map,-mapM_map,↓KW,encX]
 refine callP_intro (ds:=[encX c,.i .i64 k]) (by rfl) h1 ?_
 simp (maxSteps:=1000000) [-map_map,-mapM_map,↓KW,encX,encIds,hwk]
 refine callP_intro (ds:=[encX c,.i .i64 (k - 1)]) (by rfl) h2 ?_
 simp (maxSteps:=1000000) [-map_map,-mapM_map,↓KW,encX,encIds]
 refine loopP_inv (fun i:Nat=>i≤R.length) (bdS c R cs M) (fun i=>R.length - i) 0 (Nat.zero_le _) ?_ ?_
 ·refine wk_l [1,2] (by simp) ?_ ?_ <;> simp [-map_map,upd,inj1,Γ0,encX,encIds,bdS]
 ·intro i hi
  by_cases hgo:i<R.length
  ·have hx:R[i]? = some R[i]:=List.getElem?_eq_getElem hgo
   have hm:=hmg i _ hx
   have htk:M.take (i+1)=M.take i++[rowX cs (bOf c R[i])]:=by rw [List.take_add_one,hm]; rfl
   have hF:=hfnd R[i]
   have hR:=hrow R[i]
   generalize R[i]=q at *
   have hnb:((findX c q).getD noCl).b=bOf c q:=rfl
   unfold fndD at hF
   generalize ((findX c q).getD noCl)=y at *
   generalize (findX c q).isSome=t at *
   obtain ⟨yi,yd,yb⟩:=y
   simp only at hnb
   subst hnb
   generalize rowX cs (bOf c q)=row at *
   generalize bOf c q=yb at *
   rcases i with _ | i
   ·have q1:0<R.length:=hgo
    rw [List.take_zero,List.nil_append] at htk
    have hx':∀ h:0<R.length,R[0]'h=q:=fun h=>Option.some.inj ((List.getElem?_eq_getElem h).symm.trans hx)
    have hh:R.head? = some q:=by rw [List.head?_eq_getElem?]; exact hx
    have hw:IntKind.i64.wrap 1=1:=by decide
    have hm1:(1:Nat)≤maxLen:=le_maxLen (by decide)
    unfold bdS
    simp (maxSteps:=1000000) [-map_map,-mapM_map,↓KW,encX,encIds,q1,hx,hx',hh]
    refine callP_intro (ds:=[encX c,.i .i64 q]) (by rfl) hF ?_
    simp (maxSteps:=1000000) [-map_map,-mapM_map,↓KW,encX,encIds,encCl,one_encC,cellsA_encC,inj1_encC,inj_encC]
    refine callP_intro (ds:=[encC yb,encIds cs]) (by rfl) hR ?_
    simp (maxSteps:=1000000) [-map_map,-mapM_map,↓KW,encX,encIds,encCl,hw,hm1,one_encC,cellsA_encC,inj1_encC,inj_encC,one_encV2,cellsA_encV2,inj1_encV2,inj_encV2,kills_encV2]
    refine nxt_intro (0+1) hgo (Nat.sub_lt_sub_left hgo (Nat.lt_succ_self _)) ?_
    simp only [bdS]
    refine wk_l [1,2,5] (by simp) ?_ ?_ <;> simp [-map_map,upd,inj1,Γ0,encX,encIds,htk,subL_own_iff3]
   ·have q1:(i:Int)+1<R.length:=by omega
    have q0:(0:Int)≤(i:Int)+1:=by omega
    have hx':∀ h:i+1<R.length,R[i+1]'h=q:=fun h=>Option.some.inj ((List.getElem?_eq_getElem h).symm.trans hx)
    have hw:IntKind.i64.wrap ((i:Int)+1+1)=(i:Int)+1+1:=wrap_i64 (by omega) (by omega)
    have hbb:=app_bounds (n:=i+1) (by omega)
    have hb8:(i+1+1) * 24≤140737488355328:=by omega
    have hml1:(M.take (i+1)).length=i+1:=by rw [List.length_take]; omega
    have hml2:((M.take (i+1)).map encV2).length=i+1:=by rw [List.length_map]; exact hml1
    unfold bdS
    simp only []
    generalize M.take (i+1)=out at *
    simp (maxSteps:=1000000) [-map_map,-mapM_map,↓KW,encX,encIds,q1,q0,hx,hx']
    refine callP_intro (ds:=[encX c,.i .i64 q]) (by rfl) hF ?_
    simp (maxSteps:=1000000) [-map_map,-mapM_map,↓KW,encX,encIds,encCl,one_encC,cellsA_encC,inj1_encC,inj_encC]
    refine callP_intro (ds:=[encC yb,encIds cs]) (by rfl) hR ?_
    simp (maxSteps:=1000000) [-map_map,-mapM_map,↓KW,encX,encIds,encCl,hw,hbb,hb8,hml1,hml2,le_maxLen,one_encC,cellsA_encC,inj1_encC,inj_encC,one_encV2,cellsA_encV2,inj1_encV2,inj_encV2,kills_encV2]
    refine nxt_intro (i+1+1) hgo (Nat.sub_lt_sub_left hgo (Nat.lt_succ_self _)) ?_
    simp only [bdS]
    refine wk_l [1,2,6] (by simp) ?_ ?_ <;> simp [-map_map,upd,inj1,Γ0,encX,encIds,htk,subL_own_iff3]
  ·have e:i=R.length:=by omega
   rcases i with _ | i
   ·have q1:¬ 0<R.length:=by omega
    have eM:M=[]:=List.eq_nil_of_length_eq_zero (by omega)
    unfold bdS
    simp (maxSteps:=1000000) [-map_map,-mapM_map,↓KW,encX,encIds,q1,eM,encMat]
   ·have q1:¬ (i:Int)+1<R.length:=by omega
    have e2:M.take (i+1)=M:=List.take_of_length_le (by omega)
    have e3:(M.map encV2).length=i+1:=by rw [List.length_map]; omega
    have e4:chunk 1 (i+1) (M.map encV2)=M.map fun v=>[encV2 v]:=by rw [chunk_one _ _ e3.symm,List.map_map]; rfl
    have e5:List.take (i+1) ((M.map encV2).map AV.d)=(M.map encV2).map AV.d:=List.take_of_length_le (by simp; omega)
    have e6:M.length=i+1:=by omega
    unfold bdS
    simp (maxSteps:=1000000) [-map_map,-mapM_map,↓KW,encX,encIds,q1,e2,e3,e4,e5,e6,encMat]
end Go.Am
end

section
set_option linter.unusedVariables false
set_option linter.unusedSimpArgs false
open Go Go.Am Go.Proofs
namespace Go.Am
/-! Sizes -/
theorem digE {e n:Nat} (h:n≤2 ^ e) (he:e<4398046511104):(digs n).length≤137438953472:=by
 have:=Sd_of (z:=(n:Int)) (E:=e) (by simpa using h) 137438953472 (by omega)
 simpa using this
theorem szE {e:Nat} {z:Int} (h:z.natAbs≤2 ^ e) (he:e<4398046511104):Sz z:=digE h he
theorem pw_mul (a b:Nat):2 ^ a * 2 ^ b=2 ^ (a+b):=(Nat.pow_add 2 a b).symm
theorem pw_le {a b:Nat} (h:a≤b):2 ^ a≤2 ^ b:=Nat.pow_le_pow_right (by decide) h
theorem pw_len {n l x:Nat} (h:n≤2 ^ l):n * 2 ^ x≤2 ^ (l+x):=by rw [← pw_mul]; exact Nat.mul_le_mul_right _ h
theorem Bnd.pw {a b:Nat} {l:List (Int × Int)} (h:Bnd (2 ^ a) l) (k:a≤b):Bnd (2 ^ b) l:=h.mono (pw_le k)
theorem Bnd.sz {e:Nat} {l:List (Int × Int)} (h:Bnd (2 ^ e) l) (he:e<4398046511104):∀ x∈l,Sz x.2:=fun x hx=>szE (h x hx) he
theorem mulR_len (k:Int) (b:List (Int × Int)):(mulR k b).length=b.length:=by simp [mulR]
theorem bOf_len {c:List Cl} {L:Nat} (hb:∀ x∈c,x.b.length≤L) (n:Int):(bOf c n).length≤L:=by
 unfold bOf
 cases e:findX c n with
 | none=>exact Nat.zero_le _
 | some x=>exact hb x (findX_some e).1
theorem bOf_bnd {c:List Cl} {M:Nat} (hb:∀ x∈c,Bnd M x.b) (n:Int):Bnd M (bOf c n):=by
 unfold bOf
 cases e:findX c n with
 | none=>exact Bnd.nil M
 | some x=>exact hb x (findX_some e).1
theorem bdL_len {c:List Cl} {L:Nat} (hb:∀ x∈c,x.b.length≤L):∀ x:List (Int × Int),(bdL c x).length≤x.length * L
 | []=>Nat.zero_le _
 | f::x=>by
  have:=bdL_len hb x
  have h2:=bOf_len hb f.1
  show (mulR f.2 (bOf c f.1)++bdL c x).length≤_
  rw [List.length_append,mulR_len,List.length_cons,Nat.succ_mul]; omega
theorem bdL_bnd {c:List Cl} {K M:Nat} (hb:∀ x∈c,Bnd M x.b):∀ {x:List (Int × Int)},Bnd K x→Bnd (K * M) (bdL c x)
 | [],_=>Bnd.nil _
 | f::x,h=>(mulR_bnd (h f (List.mem_cons_self ..)) (bOf_bnd hb f.1)).app (bdL_bnd hb fun y hy=>h y (List.mem_cons_of_mem _ hy))
structure SzX (f:Nat) (c:List Cl):Prop where
 len:c.length≤100
 bl:∀ x∈c,x.b.length≤100
 bb:∀ x∈c,Bnd (2 ^ f) x.b
theorem bdL_le {f g:Nat} {c:List Cl} {x:List (Int × Int)} (hc:SzX f c) (hx:x.length≤100) (hg:Bnd (2 ^ g) x):(bdL c x).length≤10000∧Bnd (2 ^ (f+g)) (bdL c x):=by
 refine ⟨Nat.le_trans (bdL_len hc.bl x) (by omega),?_⟩
 have:=bdL_bnd hc.bb hg
 rwa [pw_mul,Nat.add_comm] at this
theorem bdX_bnd {f g:Nat} {c:List Cl} {x:List (Int × Int)} (hc:SzX f c) (hx:x.length≤100) (hg:Bnd (2 ^ g) x):Bnd (2 ^ (f+g+14)) (bdX c x)∧(bdX c x).length≤10000:=by
 obtain ⟨h1,h2⟩:=bdL_le hc hx hg
 have h3:=addR_bnd (bdL c x) [] (Bnd.nil 0) h2
 have h4:=addR_len [] (bdL c x)
 refine ⟨h3.mono ?_,by simp only [List.length_nil] at h4; unfold bdX; omega⟩
 have := pw_len (n := (bdL c x).length) (l := 14) (x := f + g) (by have : (10000 : Nat) ≤ 2 ^ 14 := by decide
                                                                   omega)
 rw [show 14+(f+g)=f+g+14 by omega] at this; omega
end Go.Am
end

section
set_option linter.unusedVariables false
set_option linter.unusedSimpArgs false
open Go Go.Am Go.Proofs
namespace Go.Am
end Go.Am
end

section
set_option linter.unusedVariables false
set_option linter.unusedSimpArgs false
open Go Go.Am Go.Proofs
namespace Go.Am
end Go.Am
end

section
set_option linter.unusedVariables false
set_option linter.unusedSimpArgs false
open List (map_map mapM_map)
open Go Go.Am Go.Proofs
namespace Go.Am
theorem zip_take {ids v:List Int} {i:Nat} (h1:i<ids.length) (h2:i<v.length):(ids.zip v).take (i+1)=(ids.zip v).take i++[(ids[i],v[i])]:=by
 have h:i<(ids.zip v).length:=by rw [List.length_zip]; omega
 rw [List.take_add_one,List.getElem?_eq_getElem h,List.getElem_zip]; rfl
theorem zip_bnd {ids v:List Int} {M:Nat} (h:∀ z∈v,z.natAbs≤M):Bnd M (ids.zip v):=fun x hx=>h _ (List.of_mem_zip hx).2
theorem Bnd.take {M i:Nat} {l:List (Int × Int)} (h:Bnd M l):Bnd M (l.take i):=fun x hx=>h x (List.mem_of_mem_take hx)
set_option maxHeartbeats 2000000 in
set_option maxRecDepth 10000 in
theorem r26Chain {g:Nat} (c:List Cl) (k:Int) (v:List Int) (hl:c.length≤100) (hv:∀ z∈v,z.natAbs≤2 ^ g) (hg:g+20<4398046511104) :
  Spec Tryz.prog 109 [encX c,.i .i64 k,encV2 v] (.tp [encC (chX c k v).1,.i .i64 (chX c k v).2]):=by
 have hI:=r25Cells c k (by omega)
 have hil:=idsX_len c k
 by_cases he:v.length=(idsX c k).length
 ·have hr:chX c k v=(addR [] ((idsX c k).zip v),0):=by unfold chX; rw [if_pos he]
  rw [hr]
  clear hr
  generalize idsX c k=ids at *
  have hb:=zip_bnd (ids:=ids) hv
  have he':(((v.length:Int) != ids.length):Bool)=false:=by simp; omega
  refine spec_of (N:=38) follows_mixed Tryz.func109 rfl rfl rfl (by kernel_rfl) (by kernel_rfl) (by simp) ?_
  simp (maxSteps:=1000000) [-map_map,-mapM_map,↓KW,encX,encV2]
  refine callP_intro (ds:=[encX c,.i .i64 k]) (by rfl) hI ?_
  simp (maxSteps:=1000000) [-map_map,-mapM_map,↓KW,encX,encIds,he']
  refine loopP_inv (fun i:Nat=>i≤v.length) (fun i=>StL [(2,.d (encV2 v)),(8,.d (encIds ids)),(9,.d (encC (addR [] ((ids.zip v).take i)))),(10,.d (.i .i64 (i:Int)))] none []) (fun i=>v.length - i) 0 (Nat.zero_le _) ?_ ?_
  ·refine wk_l [] (by simp) ?_ ?_
   ·simp [-map_map,upd,inj1,Γ0,encV2,encIds,encC,addR]
    exact sub_frz (by simp [frz_own,upd,chunk_0]) (fun a _ id h=>by simp [blkF] at h)
   ·trivial
  ·intro i hi
   by_cases hgo:i<v.length
   ·have q1:(i:Int)<v.length:=by omega
    have hgi:i<ids.length:=by omega
    have hx:v[i]? = some v[i]:=List.getElem?_eq_getElem hgo
    have hy:ids[i]? = some ids[i]:=List.getElem?_eq_getElem hgi
    have hz:=hv _ (List.getElem_mem hgo)
    have htk:addR [] ((ids.zip v).take (i+1))=insR (addR [] ((ids.zip v).take i)) (ids[i],v[i]):=by rw [zip_take hgi hgo,addR_app]; rfl
    have ho:=addR_bnd ((ids.zip v).take i) [] (Bnd.nil 0) hb.take
    have hol:=addR_len [] ((ids.zip v).take i)
    have hzl:((ids.zip v).take i).length≤100:=by rw [List.length_take,List.length_zip]; omega
    have hw:IntKind.i64.wrap ((i:Int)+1)=(i:Int)+1:=wrap_i64 (by omega) (by omega)
    have hob:Bnd (2 ^ (7+g)) (addR [] ((ids.zip v).take i)):=ho.mono (by
     have:=pw_len (x:=g) (Nat.le_trans hzl (show 100≤2 ^ 7 by decide)); omega)
    generalize addR [] ((ids.zip v).take i)=out at *
    generalize v[i]=z at *
    generalize ids[i]=q at *
    have hin:=r26insert out q z (szE hz (by omega)) (hob.sz (by omega)) (by simp only [List.length_nil] at hol; omega)
    simp (maxSteps:=1000000) [-map_map,-mapM_map,↓KW,encV2,encIds,encN_eq,q1,hx,hy,cellsA_encM,one_encM]
    refine callP_intro (ds:=[encC out,.ag (encF (q,z))]) (by rfl) hin ?_
    simp (maxSteps:=1000000) [-map_map,-mapM_map,↓KW,encC,hw]
    refine nxt_intro (i+1) hgo (Nat.sub_lt_sub_left hgo (Nat.lt_succ_self _)) (wk_l [] (by simp) ?_ ?_)
    ·simp [-map_map,upd,inj1,Γ0,encV2,encIds,encC,htk]
    ·trivial
   ·have q1:¬ (i:Int)<v.length:=by omega
    rw [List.take_of_length_le (by rw [List.length_zip]; omega)]
    generalize addR [] (ids.zip v)=out at *
    simp (maxSteps:=1000000) [-map_map,-mapM_map,↓KW,encV2,encIds,encC,q1,resD_2]
 ·have hr:chX c k v=([],50):=by unfold chX; rw [if_neg he]
  rw [hr]
  clear hr
  generalize idsX c k=ids at *
  have he':(((v.length:Int) != ids.length):Bool)=true:=by simp; omega
  refine spec_of (N:=38) follows_mixed Tryz.func109 rfl rfl rfl (by kernel_rfl) (by kernel_rfl) (by simp) ?_
  simp (maxSteps:=1000000) [-map_map,-mapM_map,↓KW,encX,encV2]
  refine callP_intro (ds:=[encX c,.i .i64 k]) (by rfl) hI ?_
  simp (maxSteps:=1000000) [-map_map,-mapM_map,↓KW,encX,encIds,encC,he',resD_2]
set_option maxHeartbeats 1000000 in
set_option maxRecDepth 10000 in
theorem r26Of {g:Nat} (c:List Cl) (k:Int) (v:List Int) (hl:c.length≤100) (hv:∀ z∈v,z.natAbs≤2 ^ g) (hg:g+20<4398046511104) :
  Spec Tryz.prog 72 [encX c,.i .i64 k,encV2 v] (encC (chX c k v).1):=by
 refine spec_of (N:=17) follows_mixed Tryz.func72 rfl rfl rfl (by kernel_rfl) (by kernel_rfl) (by simp) ?_
 have h:=r26Chain c k v hl hv hg
 generalize (chX c k v).1=out at *
 generalize (chX c k v).2=e at *
 simp (maxSteps:=1000000) [-map_map,-mapM_map,↓KW,encX,encV2]
 refine callP_intro (ds:=[encX c,.i .i64 k,encV2 v]) (by rfl) h ?_
 simp (maxSteps:=1000000) [-map_map,-mapM_map,↓KW,encC]
def encL (l:List Int):D:=.sl (l.map fun n=>[.i .i64 n])
def prs:List Int→List (Int × Int)
 | a::b::l=>(a,b)::prs l
 | _=>[]
theorem prs_drop:∀ (l:List Int) (i:Nat),2 * i+1<l.length→prs (l.drop (2 * i))=(l.getD (2 * i) 0,l.getD (2 * i+1) 0)::prs (l.drop (2 * (i+1)))
 | [],i,h=>by simp at h
 | [a],i,h=>by simp at h
 | a::b::l,0,h=>rfl
 | a::b::l,i+1,h=>by
  have:=prs_drop l i (by simp only [List.length_cons] at h; omega)
  rw [show 2 * (i+1)=2 * i+1+1 by omega,show 2 * (i+1+1)=2 * (i+1)+1+1 by omega]
  simp only [List.drop_succ_cons,List.getD_cons_succ]
  exact this
theorem prs_short {l:List Int} (h:l.length≤1):prs l=[]:=by
 rcases l with _ | ⟨a,_ | ⟨b,l⟩⟩
 ·rfl
 ·rfl
 ·simp at h
set_option maxHeartbeats 2000000 in
set_option maxRecDepth 10000 in
theorem r26Cell (id dim:Int) (l:List Int) (hl:l.length≤100) (hb:∀ z∈l,-1000≤z∧z≤1000):Spec Tryz.prog 86 [.i .i64 id,.i .i64 dim,encL l] (.ag (encCl ⟨id,dim,addR [] (prs l)⟩)):=by
 refine spec_of (N:=34) follows_mixed Tryz.func86 rfl rfl rfl (by kernel_rfl) (by kernel_rfl) (by simp) ?_
 simp (maxSteps:=1000000) [-map_map,-mapM_map,↓KW,encL]
 refine loopP_inv (fun y:Nat × List (Int × Int)=>2 * y.1≤l.length+1∧addR y.2 (prs (l.drop (2 * y.1)))=addR [] (prs l)∧y.2.length≤y.1∧Bnd (y.1 * 1000) y.2) (fun y=>StL [(0,.d (.i .i64 id)),(1,.d (.i .i64 dim)),(2,.d (encL l)),(6,.ptr 1 0),(7,.d (encC y.2)),(8,.d (.i .i64 ((2 * y.1:Nat):Int)))] none [.cells 47 [.d (.i .i64 0),.d (.i .i64 0),.nil]]) (fun y=>l.length+1 - 2 * y.1) (0,[]) ⟨Nat.zero_le _,rfl,Nat.zero_le _,Bnd.nil _⟩ ?_ ?_
 ·refine wk_l [1] (by simp) ?_ ?_
  ·simp [-map_map,upd,inj1,Γ0,encL,encC]
   exact sub_frz (by simp [frz_own,upd,chunk_0]) (fun a ha id h=>by
    simp [upd] at ha
    by_cases e:id=1
    ·subst e; rw [ha]; show (1:Nat)≠2; decide
    ·simp [blkF,upd,e] at h)
  ·simp [-map_map,upd,inj1,Γ0,encL,encC]
 ·rintro ⟨i,out⟩ ⟨hi,ho,hol,hob⟩
  simp only at hi ho hol hob ⊢
  have hw1:IntKind.i64.wrap (((2 * i:Nat):Int)+1)=((2 * i:Nat):Int)+1:=wrap_i64 (by omega) (by omega)
  have hw2:IntKind.i64.wrap (((2 * i:Nat):Int)+2)=((2 * i:Nat):Int)+2:=wrap_i64 (by omega) (by omega)
  by_cases hgo:2 * i+1<l.length
  ·have q1:((2 * i:Nat):Int)+1<l.length:=by omega
   have hg2:2 * i<l.length:=by omega
   have hx:l[2 * i]? = some (l.getD (2 * i) 0):=by rw [List.getD_eq_getElem?_getD,List.getElem?_eq_getElem hg2]; rfl
   have hy:l[2 * i+1]? = some (l.getD (2 * i+1) 0):=by rw [List.getD_eq_getElem?_getD,List.getElem?_eq_getElem hgo]; rfl
   have hbx:=hb _ (List.mem_of_getElem? hx)
   have hby:=hb _ (List.mem_of_getElem? hy)
   rw [prs_drop l i hgo] at ho
   generalize l.getD (2 * i) 0=a at *
   generalize l.getD (2 * i+1) 0=b at *
   have hof:=r01Of b (by omega) (by omega)
   have hin:=r26insert out a b (szE (e:=10) (by omega) (by decide)) (fun x hx=>szE (e:=20) (Nat.le_trans (hob x hx) (by omega)) (by decide)) (by omega)
   have hnb:Bnd ((i+1) * 1000) (insR out (a,b)):=(insR_bnd (K:=1000) hob (by show b.natAbs≤1000; omega)).mono (by omega)
   have hnl:=insR_len1 out (a,b)
   have ec:(((2 * i:Nat):Int)+2)=((2 * (i+1):Nat):Int):=by omega
   have ec1:(((2 * i:Nat):Int)+1)=((2 * i+1:Nat):Int):=by omega
   rw [ec1] at hw1 q1
   rw [ec] at hw2
   generalize hm1:2 * i+1=m1 at *
   generalize hm2:2 * (i+1)=m2 at *
   generalize hm:2 * i=m at *
   simp (maxSteps:=1000000) [-map_map,-mapM_map,↓KW,encL,hw1,q1,hx,hy,ec1]
   refine callP_intro (ds:=[.i .i64 b]) (by rfl) hof ?_
   rw [encZ_eq]
   simp (maxSteps:=1000000) [-map_map,-mapM_map,↓KW,encC,cellsA_encM,one_encM,inj1_encM,inj_encM,kills_encM]
   refine callP_intro (ds:=[encC out,.ag (encF (a,b))]) (by rfl) hin ?_
   simp (maxSteps:=1000000) [-map_map,-mapM_map,↓KW,encC,hw2,ec]
   refine nxt_intro (i+1,insR out (a,b)) ⟨by omega,by rw [hm2]; exact ho,by simp only; omega,hnb⟩ (by simp only; omega) (wk_l [1] (by simp) ?_ ?_)
   ·simp [-map_map,upd,inj1,Γ0,encL,encC,hm2]
    omega
   ·simp [-map_map,upd,inj1,Γ0,encL,encC,hm2]
  ·have q1:¬ ((2 * i:Nat):Int)+1<l.length:=by omega
   rw [prs_short (by rw [List.length_drop]; omega)] at ho
   generalize hm:2 * i=m at *
   rw [← ho]
   have e:addR out []=out:=rfl
   rw [e]
   simp (maxSteps:=1000000) [-map_map,-mapM_map,↓KW,encL,encCl,encC,hw1,q1]
end Go.Am
end
