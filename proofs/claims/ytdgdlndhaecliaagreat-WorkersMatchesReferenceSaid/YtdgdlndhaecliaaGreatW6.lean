/- (*WaitGroup).Add(1) of the main goroutine, for any count: from its entry to its return. No condition. -/
import Derived.Test.YtdgdlndhaecliaaGreatW5
import Derived.Test.YtdgdlndhaecliaaGreatW1
import Derived.Conc.Beside
import Derived.Conc.QuitsD
import Derived.Conc.WgGenLone
import Derived.Conc.WgGenWait
import Derived.Test.YtdgdlndhaecliaaGreatW4
import Derived.Conc.WgArith
import Derived.Conc.CrowdRun
import Derived.Test.YtdgdlndhaecliaaGreatProg
import Derived.Conc.WgGenDone
set_option linter.unusedSectionVars false
set_option linter.unusedVariables false
set_option linter.unusedSimpArgs false
section
open List renaming map_map→ζ,mapM_map→ξ
open Go Go.Am Go.Proofs
namespace Go.Am
def jF (P:List Nat) (p:Nat):Nat:=(P.filter fun q=>p<q).length
def grL (P:List Nat) (m:Nat) (T:List Nat):List Nat:=T.filter fun p=>m≤jF P p
theorem aSw (T:List Nat) (p q:Nat):jF (T++[q]) p=jF T p+if p<q then 1 else 0:=by
 unfold jF; rw [List.filter_append,List.length_append]
 by_cases h:p<q <;> simp [h]
theorem bIq (T:List Nat) (p:Nat):jF T p≤T.length:=List.length_filter_le ..
theorem aZw (P:List Nat) (m:Nat) (T:List Nat) (p:Nat):grL P m (T++[p])=grL P m T++if m≤jF P p then [p] else []:=by
 unfold grL; rw [List.filter_append]
 by_cases h:m≤jF P p <;> simp [h]
theorem aNx {l:List (Nat × Nat × Nat)} {i:Nat} {x:Nat × Nat × Nat} (h:l[i]? = some x):(pmL l)[i]? = some x.2.1:=by unfold pmL; rw [List.getElem?_map,h]; rfl
def enS (L:List (List D)) (b n i q:Nat):St:=StL [(1,.d (.sl L)),(2,.d (.i .i64 n)),(3,.ptr 1 0),(7,.ptr 2 0),(8,.d (.i .i64 i))] none [.cells 31 [.d (.b false),.d (aG (aR b))],.cells 31 [.d (.b false),.d (aG (aR q))]]
def yL (L:List (List D)) (b n i q c k:Nat):St:=StL [(1,.d (.sl L)),(2,.d (.i .i64 n)),(3,.ptr 1 0),(7,.ptr 2 0),(8,.d (.i .i64 i)),(9,.d (.i .i64 c)),(10,.d (.i .i64 k))] none [.cells 31 [.d (.b false),.d (aG (aR b))],.cells 31 [.d (.b false),.d (aG (aR q))]]
set_option maxHeartbeats 8000000 in
set_option maxRecDepth 10000 in
theorem aQy [M:Mch Tryz.prog] (b:Nat) (l:List (Nat × Nat × Nat)) (n B:Nat) (hb:b<2 ^ 200) (hl:l.length≤1000) (hn:n≤1000) (hp:∀ x∈l,0<x.2.1∧x.2.1≤B) (hB31:B<2147483648) (hB:B ^ (l.length - 2 * n)<2 ^ 250)
  (hg:∀ i,(grL (pmL l) (2 * n) ((pmL l).take i)).length≤l.length - 2 * n) :
  Spec Tryz.prog 97 [bU b,fW l,.i .i64 n] (.b (decide (2 * n≤l.length) && decide (2 * b<bI (grL (pmL l) (2 * n) (pmL l))))):=by
 obtain ⟨L,hL,hLl,hLg⟩:=dN l
 have hO:=aKp (x:=1) (by omega)
 have hA:=bFp (x:=b) (y:=b) (by omega) (by omega)
 rw [← Nat.two_mul] at hA
 have hPl:(pmL l).length=l.length:=by simp [pmL]
 have hw2n:IntKind.i64.wrap (2 * (n:Int))=2 * (n:Int):=bB
 have hqb:∀ i,bI (grL (pmL l) (2 * n) ((pmL l).take i))<2 ^ 250:=fun i=>by
  refine Nat.lt_of_le_of_lt (rC (B:=B) (k:=(grL (pmL l) (2 * n) ((pmL l).take i)).length) (fun p hp'=>?_) rfl) ?_
  ·have h1:=List.mem_of_mem_take (List.mem_filter.1 hp').1
   obtain ⟨x,hx,rfl⟩:=List.mem_map.1 h1
   exact (hp x hx).2
  ·rcases Nat.eq_zero_or_pos B with h0 | h0
   ·subst h0
    refine Nat.lt_of_le_of_lt (m:=1) ?_ (by decide)
    rcases Nat.eq_zero_or_pos (grL (pmL l) (2 * n) ((pmL l).take i)).length with h | h
    ·rw [h]; exact Nat.le_refl _
    ·rw [Nat.zero_pow h]; exact Nat.zero_le _
   ·exact Nat.lt_of_le_of_lt (Nat.pow_le_pow_right h0 (hg i)) hB
 rw [hL]
 by_cases h2n:¬ 2 * n≤l.length
 ·have hlt:(L.length:Int)<2 * (n:Int):=by omega
  rw [decide_eq_false h2n,Bool.false_and]
  refine bH (N:=64) Tryz.func97 ?_
  simp [-ζ,-ξ,↓KW,aT b,hw2n,hlt,aA,aE,aC,aF,aB]
 have h2n:2 * n≤l.length:=Decidable.not_not.1 h2n
 have hlt:¬ (L.length:Int)<2 * (n:Int):=by omega
 rw [decide_eq_true h2n,Bool.true_and]
 obtain ⟨c,hc⟩:∃ c,2 * b=c:=⟨_,rfl⟩
 have hc2:c<2 ^ 201:=by omega
 rw [hc] at hA ⊢
 refine bH (N:=64) Tryz.func97 ?_
 simp [-ζ,-ξ,↓KW,aT b,hw2n,hlt,aA,aE,aC,aF,aB]
 refine aH hO ?_
 simp [-ζ,-ξ,↓KW,aT 1,aA,aE,aC,aF,aB]
 refine bN (τ:=Nat) (fun i=>i≤l.length) (fun i=>enS L b n i (bI (grL (pmL l) (2 * n) ((pmL l).take i)))) (fun i=>l.length - i) 0 (Nat.zero_le _) ?_ ?_
 ·rw [List.take_zero]
  show ∃ ρ,Wk _ (enS _ _ _ _ 1) ρ
  unfold enS
  refine wkQ [1,2] ?_ ?_ <;> simp [-ζ,upd,aS,Γ0]
 ·intro i hi
  have hqi:=hqb i
  by_cases hlt:i<l.length
  ·obtain ⟨⟨w,p,v⟩,hge⟩:∃ x,l[i]? = some x:=⟨_,List.getElem?_eq_getElem hlt⟩
   have hmem:=List.mem_of_getElem? hge
   have hLi:=hLg i _ hge
   simp only at hLi
   have hLi':=cZ hLi
   have hiL:i<L.length:=by omega
   have hp1:=hp _ hmem
   simp only at hp1
   have hw0:IntKind.i64.wrap (i:Int)=i:=bB
   have hw1:IntKind.i64.wrap ((i:Int)+1)=((i+1:Nat):Int):=bB
   have hT1:grL (pmL l) (2 * n) ((pmL l).take (i+1))=grL (pmL l) (2 * n) ((pmL l).take i)++if 2 * n≤jF (pmL l) p then [p] else []:=by
    rw [List.take_add_one,aNx hge,Option.toList_some,aZw]
   have hqi1:=hqb (i+1)
   obtain ⟨q1,hq1⟩:∃ q1,bI (grL (pmL l) (2 * n) ((pmL l).take (i+1)))=q1:=⟨_,rfl⟩
   rw [hT1] at hq1 hqi1
   have hq1':bI (grL (pmL l) (2 * n) ((pmL l).take (i+1)))=q1:=by rw [hT1]; exact hq1
   generalize grL (pmL l) (2 * n) ((pmL l).take i)=GT at *
   generalize hq:bI GT=q at *
   simp [-ζ,-ξ,↓KW,enS,hiL]
   refine bN (τ:=Nat) (fun k=>k≤l.length) (fun k=>yL L b n i q (jF ((pmL l).take k) p) k) (fun k=>l.length - k) 0 (Nat.zero_le _) ?_ ?_
   ·rw [List.take_zero]
    show ∃ ρ,Wk _ (yL _ _ _ _ _ 0 _) ρ
    unfold yL
    refine wkQ [1,2] ?_ ?_ <;> simp [-ζ,upd,aS,Γ0]
   ·intro k hk
    have hcl:=bIq ((pmL l).take k) p
    rw [List.length_take] at hcl
    by_cases hki:k<l.length
    ·obtain ⟨⟨w',p',v'⟩,hgk⟩:∃ x,l[k]? = some x:=⟨_,List.getElem?_eq_getElem (by omega)⟩
     have hLk:=hLg k _ hgk
     simp only at hLk
     have hLk':=cZ hLk
     have hkL:k<L.length:=by omega
     have hwk0:IntKind.i64.wrap (k:Int)=k:=bB
     have hwk1:IntKind.i64.wrap ((k:Int)+1)=((k+1:Nat):Int):=bB
     have hC1:jF ((pmL l).take (k+1)) p=jF ((pmL l).take k) p+if p<p' then 1 else 0:=by
      rw [List.take_add_one,aNx hgk,Option.toList_some,aSw]
     obtain ⟨c1,hc1⟩:∃ c1,jF ((pmL l).take (k+1)) p=c1:=⟨_,rfl⟩
     rw [hc1] at hC1
     generalize jF ((pmL l).take k) p=cc at *
     have hwc:IntKind.i64.wrap ((cc:Int)+1)=((cc+1:Nat):Int):=bB
     by_cases hpp:p<p'
     ·rw [if_pos hpp] at hC1
      simp [-ζ,-ξ,↓KW,yL,hkL,hiL,hLk,hLk',hLi,hLi',hw0,hwk0,hpp,hwc,hwk1]
      refine aN (k+1) (by omega) (by show l.length - (k+1)<l.length - k; omega) ?_
      show ∃ ρ,Wk _ (yL _ _ _ _ _ _ _) ρ
      rw [hc1,hC1]
      unfold yL
      refine wkQ [1,2] ?_ ?_ <;> simp [-ζ,upd,aS,Γ0]
     ·rw [if_neg hpp,Nat.add_zero] at hC1
      simp [-ζ,-ξ,↓KW,yL,hkL,hiL,hLk,hLk',hLi,hLi',hw0,hwk0,hpp,hwc,hwk1]
      refine aN (k+1) (by omega) (by show l.length - (k+1)<l.length - k; omega) ?_
      show ∃ ρ,Wk _ (yL _ _ _ _ _ _ _) ρ
      rw [hc1,hC1]
      unfold yL
      refine wkQ [1,2] ?_ ?_ <;> simp [-ζ,upd,aS,Γ0]
    ·have hkL:¬ k<L.length:=by omega
     rw [List.take_of_length_le (show (pmL l).length≤k by omega)] at hcl ⊢
     generalize jF (pmL l) p=cc at *
     by_cases hcc:2 * n≤cc
     ·rw [if_pos hcc] at hq1 hqi1
      rw [qH,hq] at hq1
      have hcci:2 * (n:Int)≤(cc:Int):=by omega
      have hOp:=aKp (x:=p) (by omega)
      have hMl:=bFm (x:=q) (y:=p) (by omega) (by omega)
      rw [hq1] at hMl
      have hwp:IntKind.i64.wrap (p:Int)=p:=bB
      simp [-ζ,-ξ,↓KW,yL,hkL]
      refine bG ?_
      simp [-ζ,-ξ,↓KW,hw2n,hcci,hiL,hLi,hLi',hw0,hwp,aA,aE,aC,aF,aB]
      refine aH hOp ?_
      simp [-ζ,-ξ,↓KW,aT p,aA,aE,aC,aF,aB]
      refine aH hMl ?_
      simp [-ζ,-ξ,↓KW,aT q1,hw1,aA,aE,aC,aF,aB]
      refine aN (i+1) (by omega) (by show l.length - (i+1)<l.length - i; omega) ?_
      show ∃ ρ,Wk _ (enS _ _ _ _ _) ρ
      rw [hq1']
      unfold enS
      refine wkQ [1,2] ?_ ?_ <;> simp [-ζ,upd,aS,Γ0]
     ·rw [if_neg hcc,List.append_nil,hq] at hq1
      have hcci:¬ 2 * (n:Int)≤(cc:Int):=by omega
      simp [-ζ,-ξ,↓KW,yL,hkL]
      refine bG ?_
      simp [-ζ,-ξ,↓KW,hw2n,hcci,hw1]
      refine aN (i+1) (by omega) (by show l.length - (i+1)<l.length - i; omega) ?_
      show ∃ ρ,Wk _ (enS _ _ _ _ _) ρ
      rw [hq1',← hq1]
      unfold enS
      refine wkQ [1,2] ?_ ?_ <;> simp [-ζ,upd,aS,Γ0]
  ·have hiL:¬ i<L.length:=by omega
   rw [List.take_of_length_le (show (pmL l).length≤i by omega)] at hqi ⊢
   obtain ⟨r,hC,_,hr⟩:=bFn (x:=bI (grL (pmL l) (2 * n) (pmL l))) (y:=c) (by omega) (by omega)
   have hd:decide (0<r)=decide (c<bI (grL (pmL l) (2 * n) (pmL l))):=by
    by_cases h:c<bI (grL (pmL l) (2 * n) (pmL l))
    ·rw [decide_eq_true h,decide_eq_true (hr.2 h)]
    ·rw [decide_eq_false h,decide_eq_false (fun h'=>h (hr.1 h'))]
   generalize bI (grL (pmL l) (2 * n) (pmL l))=q at *
   simp [-ζ,-ξ,↓KW,enS,hiL]
   refine bG ?_
   simp [-ζ,-ξ,↓KW,aA,aE,aC,aF,aB]
   refine aH hA ?_
   simp [-ζ,-ξ,↓KW,aT c,aA,aE,aC,aF,aB]
   refine aH hC ?_
   simp [-ζ,-ξ,↓KW,hd]
theorem aNl (z:Int):z.sign<0↔z<0:=by
 rw [jK]; split
 ·simp_all
 ·split <;> simp_all
set_option maxHeartbeats 4000000 in
set_option maxRecDepth 10000 in
theorem aQz [M:Mch Tryz.prog] (z:Int) (L:List (List D)) (n:Int) (h:z<0∨n<0):Spec Tryz.prog 50 [encZ z,.sl L,.i .i64 n] (.i .i64 1):=by
 have hSg:=oE z
 have hs:=aNl z
 by_cases h1:n<0
 ·refine bH (N:=31) Tryz.func50 ?_
  simp [-ζ,-ξ,↓KW,bT z,aA,aE,aC,aF,aB]
  simp [-ζ,-ξ,↓KW,h1]
 ·have h2:=hs.2 (by omega)
  generalize z.sign=sg at *
  refine bH (N:=31) Tryz.func50 ?_
  simp [-ζ,-ξ,↓KW,bT z,aA,aE,aC,aF,aB]
  simp [-ζ,-ξ,↓KW,h1]
  refine aH hSg ?_
  simp [-ζ,-ξ,↓KW,h2,h1]
theorem bOo [M:Mch Tryz.prog] (b:Nat):∃ s:Int,¬ s<0∧Spec Tryz.prog 64 [bU b] (.i .i64 s):=by
 have h:=oE (b:Int)
 rw [dE] at h
 refine ⟨_,?_,h⟩
 rw [aNl]; omega
def tP (b:Nat) (l:List (Nat × Nat × Nat)) (n:Nat) (pr:Bool):Int:=if pr=false then 40 else if 2 * n≤l.length∧2 * b<bI (grL (pmL l) (2 * n) (pmL l)) then 0 else 200
set_option maxHeartbeats 4000000 in
set_option maxRecDepth 10000 in
theorem aAy [M:Mch Tryz.prog] (b:Nat) (l:List (Nat × Nat × Nat)) (n:Nat) (pr:Bool) (hpr:pr=true↔nS l∧(pmL l).Nodup) (hl:l.length≤16) (hn:n≤1000) (hP:∀ x∈l,Spec Tryz.prog 98 [.i .u64 (x.2.1:Nat)] (.b true))
  (hE:pr=true→Spec Tryz.prog 97 [bU b,fW l,.i .i64 n] (.b (decide (2 * n≤l.length) && decide (2 * b<bI (grL (pmL l) (2 * n) (pmL l)))))) :
  Spec Tryz.prog 50 [bU b,fW l,.i .i64 n] (.i .i64 (tP b l n pr)):=by
 obtain ⟨s,hs0,hSg⟩:=bOo b
 have hPr:=aAx l pr hpr (by omega) hP
 obtain ⟨L,hL,hLl,hLg⟩:=dN l
 rw [hL] at hPr hE ⊢
 have hE':=hE
 clear hE
 have hn0:¬ (n:Int)<0:=by omega
 have hl16:¬ (16:Int)<(L.length:Int):=by omega
 have hL16:¬ 16<L.length:=by omega
 unfold tP
 generalize bI (grL (pmL l) (2 * n) (pmL l))=q at *
 cases pr
 ·refine bH (N:=31) Tryz.func50 ?_
  simp [-ζ,-ξ,↓KW,aT b,aA,aE,aC,aF,aB,hn0]
  refine aH hSg ?_
  simp [-ζ,-ξ,↓KW,hs0,hl16,hL16,hn0]
  refine aH hPr ?_
  simp [-ζ,-ξ,↓KW]
 ·simp only [Bool.true_eq_false,if_false]
  have hE:=hE' rfl
  by_cases hnl:n≤l.length
  ·have hnl1:¬ (L.length:Int)<(n:Int):=by omega
   have hnl2:¬ L.length<n:=by omega
   by_cases hc:2 * n≤l.length∧2 * b<q
   ·rw [decide_eq_true hc.1,decide_eq_true hc.2] at hE
    rw [if_pos hc]
    refine bH (N:=31) Tryz.func50 ?_
    simp [-ζ,-ξ,↓KW,aT b,aA,aE,aC,aF,aB,hn0]
    refine aH hSg ?_
    simp [-ζ,-ξ,↓KW,hs0,hl16,hL16,hn0]
    refine aH hPr ?_
    simp [-ζ,-ξ,↓KW,hnl1,hnl2,aT b,aA,aE,aC,aF,aB]
    refine aH hE ?_
    simp [-ζ,-ξ,↓KW]
   ·have hcf:(decide (2 * n≤l.length) && decide (2 * b<q))=false:=by
     rw [← Bool.not_eq_true,Bool.and_eq_true,decide_eq_true_iff,decide_eq_true_iff]; exact hc
    rw [hcf] at hE
    rw [if_neg hc]
    refine bH (N:=31) Tryz.func50 ?_
    simp [-ζ,-ξ,↓KW,aT b,aA,aE,aC,aF,aB,hn0]
    refine aH hSg ?_
    simp [-ζ,-ξ,↓KW,hs0,hl16,hL16,hn0]
    refine aH hPr ?_
    simp [-ζ,-ξ,↓KW,hnl1,hnl2,aT b,aA,aE,aC,aF,aB]
    refine aH hE ?_
    simp [-ζ,-ξ,↓KW]
  ·have hnl1:(L.length:Int)<(n:Int):=by omega
   have hnl2:L.length<n:=by omega
   rw [if_neg (fun h=>by omega)]
   refine bH (N:=31) Tryz.func50 ?_
   simp [-ζ,-ξ,↓KW,aT b,aA,aE,aC,aF,aB,hn0]
   refine aH hSg ?_
   simp [-ζ,-ξ,↓KW,hs0,hl16,hL16,hn0]
   refine aH hPr ?_
   simp [-ζ,-ξ,↓KW,hnl1,hnl2]
set_option maxHeartbeats 8000000 in
set_option maxRecDepth 10000 in
theorem kQ [M:Mch Tryz.prog] (b:Int) (l:List (Nat × Nat × Nat)) (n:Int) (c:Int) (hb:b.natAbs<2 ^ 60)
  (hC:Spec Tryz.prog 50 [encZ b,fW l,.i .i64 n] (.i .i64 c)) (hc:c≠0) :
  Spec Tryz.prog 12 [.i .i64 b,fW l,.i .i64 n] (vdE c):=by
 have hO:=xE b (by omega) (by omega)
 obtain ⟨L,hL,hLl,hLg⟩:=dN l
 have hcb:(c != 0)=true:=by simpa using hc
 rw [hL] at hC ⊢
 refine bH (N:=40) Tryz.func12 ?_
 simp [-ζ,-ξ,↓KW]
 refine aH hO ?_
 simp [-ζ,-ξ,↓KW,bT b,aA,aE,aC,aF,aB]
 refine aH hC ?_
 simp [-ζ,-ξ,↓KW,hc,hcb,vdE,eX]
def rcS (b:Int) (L:List (List D)) (n:Nat) (v:Int):St:=StL [(0,.d (.i .i64 b)),(1,.d (.sl L)),(2,.d (.i .i64 n)),(6,.ptr 1 0),(9,.d (.i .i64 v))] none [.cells 34 [.d (.b false),.nil,.nil]]
set_option maxHeartbeats 8000000 in
set_option maxRecDepth 10000 in
theorem aKm [M:Mch Tryz.prog] (b:Int) (l:List (Nat × Nat × Nat)) (n:Nat) (c:Int) (R:D) (hb:b.natAbs<2 ^ 60) (hl:l.length≤1000) (hp:∀ x∈l,0<x.2.1∧x.2.1≤2147483648)
  (hC:Spec Tryz.prog 50 [encZ b,fW l,.i .i64 n] (.i .i64 c))
  (hR0:c≠0→R=vdE c)
  (hR1:c=0→∀ v,-b≤v→v≤b→(blL v l).length≤n→(∀ v',-b≤v'→v'<v→¬ (blL v' l).length≤n)→R=aJj v l)
  (hR2:c=0→(∀ v,-b≤v→v≤b→¬ (blL v l).length≤n)→R=vdE 201) :
  Spec Tryz.prog 12 [.i .i64 b,fW l,.i .i64 n] R:=by
 have hO:=xE b (by omega) (by omega)
 have hwn:IntKind.i64.wrap (-b)=-b:=bB
 obtain ⟨L,hL,hLl,hLg⟩:=dN l
 by_cases hc:c≠0
 ·rw [hR0 hc]
  exact kQ b l n c hb hC hc
 ·have hc:c=0:=Decidable.not_not.1 hc
  subst hc
  have hR1:=hR1 rfl
  have hR2:=hR2 rfl
  clear hR0
  rw [hL] at hC ⊢
  refine bH (N:=40) Tryz.func12 ?_
  simp [-ζ,-ξ,↓KW]
  refine aH hO ?_
  simp [-ζ,-ξ,↓KW,bT b,aA,aE,aC,aF,aB]
  refine aH hC ?_
  simp [-ζ,-ξ,↓KW,hwn]
  refine bN (τ:=Int) (fun v=>-b≤v∧(v≤b+1∨v=-b)∧∀ v',-b≤v'→v'<v→¬ (blL v' l).length≤n) (fun v=>rcS b L n v) (fun v=>(b+1 - v).toNat) (-b) ⟨by omega,by omega,fun v' h1 h2=>by omega⟩ ?_ ?_
  ·unfold rcS
   refine wkQ [1] ?_ ?_ <;> simp [-ζ,upd,aS,Γ0]
  ·rintro v ⟨hv1,hv2,hv3⟩
   by_cases hvb:v≤b
   ·have hOv:=xE v (by omega) (by omega)
    have hAg:=aKn v l hl (by omega) hp
    have hw1:IntKind.i64.wrap (v+1)=v+1:=bB
    rw [hL] at hAg
    by_cases hk:(blL v l).length≤n
    ·have hBl:=aGa v l hl (fun i=>by have:=aPe v (l.take i); rw [List.length_take] at this; omega) (by omega) hp
     rw [hL,aPd] at hBl
     have hRv:=hR1 v hv1 hvb hk hv3
     have hki:((blL v l).length:Int)≤(n:Int):=by omega
     rw [hRv]
     unfold aJj
     generalize dF (blL v l)=T at *
     generalize (blL v l).length=a at *
     simp [-ζ,-ξ,↓KW,rcS,hvb]
     refine aH hOv ?_
     simp [-ζ,-ξ,↓KW,bT v,aA,aE,aC,aF,aB]
     refine aH hAg ?_
     simp [-ζ,-ξ,↓KW,hki,hk,bT v,aA,aE,aC,aF,aB]
     refine aH hBl ?_
     simp [-ζ,-ξ,↓KW,aA,aE,aC,aF,aB,fA,jM,iH,jO,fT]
     exact bG (by simp [-ζ,-ξ,↓KW,aA,aE,aC,aF,aB,fA,jM,iH,jO,fT,eX])
    ·have hki:¬ ((blL v l).length:Int)≤(n:Int):=by omega
     have hn3:∀ v',-b≤v'→v'<v+1→¬ (blL v' l).length≤n:=fun v' h1 h2=>by
      by_cases h:v'=v
      ·rw [h]; exact hk
      ·exact hv3 v' h1 (by omega)
     generalize (blL v l).length=a at *
     simp [-ζ,-ξ,↓KW,rcS,hvb]
     refine aH hOv ?_
     simp [-ζ,-ξ,↓KW,bT v,aA,aE,aC,aF,aB]
     refine aH hAg ?_
     simp [-ζ,-ξ,↓KW,hki,hk,hw1]
     refine aN (v+1) ⟨by omega,by omega,hn3⟩ (by show (b+1 - (v+1)).toNat<(b+1 - v).toNat; omega) ?_
     show ∃ ρ,Wk _ (rcS _ _ _ _) ρ
     unfold rcS
     refine wkQ [1] ?_ ?_ <;> simp [-ζ,upd,aS,Γ0]
   ·rw [hR2 (fun v' h1 h2=>hv3 v' h1 (by omega))]
    simp [-ζ,-ξ,↓KW,rcS,hvb]
    exact bG (by simp [-ζ,-ξ,↓KW,vdE,eX])
set_option maxHeartbeats 4000000 in
set_option maxRecDepth 10000 in
theorem aNs [M:Mch Tryz.prog] (l:List Int) (hl:l.length≤1000000):Spec Tryz.prog 15 [ezI l,ezI l] (.b true):=by
 obtain ⟨L,hL,hn,hg⟩:=aOv l
 rw [hL]
 refine bH (N:=26) Tryz.func15 ?_
 simp [-ζ,-ξ,↓KW]
 refine cO (τ:=Nat) (fun i=>i≤L.length) (fun i=>StL [(0,.d (.sl L)),(1,.d (.sl L)),(5,.d (.i .i64 (i:Int)))] none []) (fun i=>L.length - i) 0 (Nat.zero_le _) ?_ ?_
 ·refine wkQ [] ?_ ?_ <;> simp [-ζ,upd,aS,Γ0]
 ·intro i hi
  have hw1:IntKind.i64.wrap ((i:Int)+1)=((i+1:Nat):Int):=bB
  have hw0:IntKind.i64.wrap (i:Int)=i:=bB
  by_cases hlt:i<L.length
  ·have hp:=hg i (by omega)
   have hp':∀ h,L[i]'h=[.i .i64 l[i]!]:=fun h=>by rw [List.getElem?_eq_getElem h] at hp; injection hp
   generalize l[i]! = p at *
   simp [-ζ,-ξ,↓KW,hlt,hp,hp',hw0,hw1]
   refine aN (i+1) (by omega) (by show L.length - (i+1)<L.length - i; omega) (wkQ [] ?_ ?_) <;> simp [-ζ,upd,aS,Γ0]
  ·simp [-ζ,-ξ,↓KW,hlt]
def vZ (z:Int) (l:List Int):D:=.ag [.b (decide (z<0)),aG (aR z.natAbs),ezI l]
set_option maxHeartbeats 4000000 in
set_option maxRecDepth 10000 in
theorem bFj [M:Mch Tryz.prog] (z:Int) (l:List Int) (hz:z.natAbs<2 ^ 256) (hl:l.length≤1000000):Spec Tryz.prog 13 [vZ z l,vZ z l] (.b true):=by
 have hS:=aXf z z (Nat.le_trans (szR hz).2 (by decide)) (Nat.le_trans (szR hz).2 (by decide))
 rw [decide_eq_true rfl] at hS
 have hI:=aNs l hl
 refine bH (N:=17) Tryz.func13 ?_
 simp [-ζ,-ξ,↓KW,vZ,bT z,aA,aE,aC,aF,aB,fA,jM,iH,jO,fT]
 refine aH hS ?_
 simp [-ζ,-ξ,↓KW,aA,aE,aC,aF,aB,fA,jM,iH,jO,fT]
 refine aH hI ?_
 simp [-ζ,-ξ,↓KW]
theorem uE (l:List Nat):(iX l).Pairwise (·≤·):=by
 have h:=wS (uI l)
 rw [← aCw] at h
 exact (List.pairwise_map.1 h).imp fun h=>by omega
theorem bEg {l:List Nat} (h:l.Nodup):(iX l).Pairwise (·<·):=by
 have h1:(iX l).Nodup:=(jR l).nodup_iff.2 h
 exact (List.Pairwise.and (uE l) h1).imp fun h=>by omega
theorem aSx {P Q:List Nat} (h:P.Perm Q) (p:Nat):jF P p=jF Q p:=(h.filter _).length_eq
theorem tO (x:Nat) (T:List Nat) (p:Nat):jF (x::T) p=(if p<x then 1 else 0)+jF T p:=by
 unfold jF
 by_cases h:p<x
 ·simp [h]; omega
 ·simp [h]
theorem aHy {x:Nat}:∀ {T:List Nat},(∀ y∈T,x<y)→jF T x=T.length
 | [],_=>rfl
 | y::T,h=>by
  rw [tO,if_pos (h y (List.mem_cons_self ..)),aHy fun z hz=>h z (List.mem_cons_of_mem _ hz),List.length_cons]; omega
theorem xZ (m:Nat):∀ {S:List Nat},S.Pairwise (·<·)→S.filter (fun p=>m≤jF S p)=S.take (S.length - m)
 | [],_=>by simp
 | x::T,h=>by
  rw [List.pairwise_cons] at h
  have ih:=xZ m h.2
  have e:T.filter (fun p=>decide (m≤jF (x::T) p))=T.filter (fun p=>decide (m≤jF T p)):=by
   refine List.filter_congr fun y hy=>?_
   rw [tO,if_neg (by have:=h.1 y hy; omega),Nat.zero_add]
  rw [List.filter_cons,e,ih,tO,if_neg (Nat.lt_irrefl x),Nat.zero_add,aHy h.1,List.length_cons]
  by_cases hm:m≤T.length
  ·rw [if_pos (by simpa using hm),show T.length+1 - m=(T.length - m)+1 from by omega,List.take_succ_cons]
  ·rw [if_neg (by simpa using hm),show T.length+1 - m=0 from by omega,show T.length - m=0 from by omega]; rfl
theorem aHp {P:List Nat} (hn:P.Nodup) (m:Nat):(grL P m P).Perm ((iX P).take (P.length - m)):=by
 have h1:=xZ m (bEg hn)
 rw [aFk] at h1
 rw [← h1]
 unfold grL
 have e:(fun p=>decide (m≤jF P p))=fun p=>decide (m≤jF (iX P) p):=by
  funext p; rw [aSx (jR P)]
 rw [e]
 exact (jR P).symm.filter _
theorem aHo {P:List Nat} (hn:P.Nodup) (m:Nat):bI (grL P m P)=bI ((iX P).take (P.length - m)):=qI (aHp hn m)
theorem bHo {P:List Nat} (hn:P.Nodup) (m i:Nat):(grL P m (P.take i)).length≤P.length - m:=by
 have h1:(grL P m (P.take i)).Sublist (grL P m P):=(List.take_sublist i P).filter _
 have h2:=h1.length_le
 rw [(aHp hn m).length_eq,List.length_take] at h2
 omega
theorem xF:∀ (S Q:List Nat) (k:Nat),S.Pairwise (·≤·)→(∀ p∈S,0<p)→Q.Sublist S→k≤Q.length→bI (S.take k)≤bI Q
 | S,Q,0,_,hp,hQ,_=>tB (l:=Q) fun p h=>hp p (hQ.mem h)
 | [],Q,k+1,_,_,hQ,hk=>by cases hQ; simp at hk
 | x::T,Q,k+1,hs,hp,hQ,hk=>by
  rw [List.pairwise_cons] at hs
  have hpT:∀ p∈T,0<p:=fun p h=>hp p (List.mem_cons_of_mem _ h)
  rw [List.take_succ_cons,bI]
  rcases List.sublist_cons_iff.1 hQ with h | ⟨R,rfl,h⟩
  ·cases Q with
   | nil=>simp at hk
   | cons y R =>
    rw [bI]
    exact Nat.mul_le_mul (hs.1 y (h.mem (List.mem_cons_self ..))) (xF T R k hs.2 hpT ((List.sublist_cons_self y R).trans h) (by simpa using hk))
  ·rw [bI]
   exact Nat.mul_le_mul_left x (xF T R k hs.2 hpT h (by simpa using hk))
theorem aKr {P Q:List Nat} {k:Nat} (hn:P.Nodup) (hp:∀ p∈P,0<p) (hQ:Q.Sublist P) (hk:k≤Q.length):bI ((iX P).take k)≤bI Q:=by
 have hS:=jR P
 have h1:Q.Perm ((iX P).filter (fun x=>decide (x∈Q))):=by
  rw [List.perm_ext_iff_of_nodup (hQ.nodup hn) ((hS.nodup_iff.2 hn).filter _)]
  intro a
  rw [List.mem_filter,hS.mem_iff,decide_eq_true_iff]
  exact ⟨fun h=>⟨hQ.mem h,h⟩,fun h=>h.2⟩
 rw [qI h1]
 exact xF _ _ k (uE P) (fun p h=>hp p (hS.mem_iff.1 h)) List.filter_sublist (by rw [← h1.length_eq]; exact hk)
structure Good (l:List (Nat × Nat × Nat)):Prop where
 ok:nS l
 nd:(pmL l).Nodup
 pr:∀ x∈l,PrN x.2.1
theorem sU {α:Type} (f g:α→Bool):∀ l:List α,l.length≤(l.filter fun x=>f x && g x).length+(l.filter fun x=>!f x).length+(l.filter fun x=>!g x).length
 | []=>by simp
 | x::l=>by
  have:=sU f g l
  cases hf:f x <;> cases hg:g x <;> simp [hf,hg] <;> omega
theorem wF (z:Int) (l:List (Nat × Nat × Nat)):(l.filter fun x=>!(z % (x.2.1:Int) == (x.2.2:Int))).length=(blL z l).length:=by
 unfold blL; rw [List.length_map]; rfl
theorem aOx {l:List (Nat × Nat × Nat)} (hG:Good l) {b n:Nat} (he:enR b l n) {Q:List Nat} (hQ:Q.Sublist (pmL l)) (hk:l.length - 2 * n≤Q.length):2 * b<bI Q :=
 Nat.lt_of_lt_of_le he (aKr hG.nd (fun p hp=>by
  obtain ⟨x,hx,rfl⟩:=List.mem_map.1 hp
  have:=(hG.pr x hx).1; omega) hQ hk)
theorem bJs {l:List (Nat × Nat × Nat)} (hG:Good l) {p:Nat} (hp:p∈pmL l):PrN p:=by
 obtain ⟨x,hx,rfl⟩:=List.mem_map.1 hp
 exact hG.pr x hx
theorem aFe {l:List (Nat × Nat × Nat)} (hG:Good l) {b n:Nat} (he:enR b l n) {y z:Int} (hy:y.natAbs≤b) (hz:z.natAbs≤b) (hy1:(blL y l).length≤n) (hz1:(blL z l).length≤n):y=z:=by
 have hc:=sU (fun x:Nat × Nat × Nat=>y % (x.2.1:Int) == (x.2.2:Int)) (fun x=>z % (x.2.1:Int) == (x.2.2:Int)) l
 rw [wF,wF] at hc
 obtain ⟨F,hF⟩:∃ F,(l.filter fun x:Nat × Nat × Nat=>y % (x.2.1:Int) == (x.2.2:Int) && z % (x.2.1:Int) == (x.2.2:Int))=F:=⟨_,rfl⟩
 have hFs:F.Sublist l:=hF ▸ List.filter_sublist
 have hFc:∀ x∈F,y % (x.2.1:Int)=(x.2.2:Int)∧z % (x.2.1:Int)=(x.2.2:Int):=fun x hx=>by
  rw [← hF,List.mem_filter] at hx
  simpa using hx.2
 rw [hF] at hc
 have hQ:(pmL F).Sublist (pmL l):=hFs.map _
 have hb:=aOx hG he hQ (by simp only [pmL,List.length_map]; omega)
 refine aHv (l:=pmL F) (fun q hq=>bJs hG (hQ.mem hq)) (hQ.nodup hG.nd) (fun q hq=>?_) (by omega)
 obtain ⟨x,hx,rfl⟩:=List.mem_map.1 hq
 obtain ⟨h1,h2⟩:=hFc x hx
 rw [Int.sub_emod,h1,h2,Int.sub_self,Int.zero_emod]
def mkS {α:Type} (f:α→Bool):List α→Nat→Nat
 | [],_=>0
 | _::_,0=>0
 | x::l,k+1=>if f x then 1+2 * mkS f l k else 2 * mkS f l (k+1)
theorem aLf {α:Type} (f:α→Bool):∀ (l:List α) (k:Nat),mkS f l k<2 ^ l.length
 | [],k=>by simp [mkS]
 | x::l,0=>by simp only [mkS]; exact Nat.pow_pos (by decide)
 | x::l,k+1=>by
  have h1:=aLf f l k
  have h2:=aLf f l (k+1)
  rw [List.length_cons,Nat.pow_succ]
  unfold mkS
  split <;> omega
theorem tU {α:Type}:∀ l:List α,eN l 0=[]
 | []=>rfl
 | x::l=>by simp [eN,tU l]
theorem aIg {α:Type}:∀ (a b:List α) (s:Nat),s<2 ^ a.length→eN (a++b) s=eN a s
 | [],b,s,h=>by
  have:s=0:=by simpa using h
  subst this; rw [List.nil_append,tU]; rfl
 | x::a,b,s,h=>by
  have h':s / 2<2 ^ a.length:=by rw [List.length_cons,Nat.pow_succ] at h; omega
  simp only [List.cons_append,eN,aIg a b (s / 2) h']
theorem aDt {α:Type} (f:α→Bool):∀ (l:List α) (k:Nat),∀ x∈eN l (mkS f l k),f x=true
 | [],k,x,h=>by simp [eN] at h
 | y::l,0,x,h=>by simp only [mkS,tU] at h; cases h
 | y::l,k+1,x,h=>by
  unfold mkS at h
  by_cases hy:f y=true
  ·rw [if_pos hy] at h
   simp only [eN,show (1+2 * mkS f l k) % 2=1 from by omega,if_true,show (1+2 * mkS f l k) / 2=mkS f l k from by omega,List.mem_cons] at h
   rcases h with rfl | h
   ·exact hy
   ·exact aDt f l k x h
  ·rw [if_neg hy] at h
   simp only [eN,show 2 * mkS f l (k+1) % 2=0 from by omega,show 2 * mkS f l (k+1) / 2=mkS f l (k+1) from by omega,Nat.zero_ne_one,if_false] at h
   exact aDt f l (k+1) x h
theorem aAz:∀ n,iD n 0=0
 | 0=>rfl
 | n+1=>by simp [iD,aAz n]
theorem aDs {α:Type} (f:α→Bool):∀ (l:List α) (k:Nat),k≤(l.filter f).length→iD l.length (mkS f l k)=k
 | [],k,h=>by simp at h; subst h; rfl
 | y::l,0,h=>by simp only [mkS]; exact aAz _
 | y::l,k+1,h=>by
  unfold mkS
  by_cases hy:f y=true
  ·rw [if_pos hy,List.length_cons,iD,show (1+2 * mkS f l k) % 2=1 from by omega,show (1+2 * mkS f l k) / 2=mkS f l k from by omega,aDs f l k (by simp [hy] at h; exact h)]
   omega
  ·rw [if_neg hy,List.length_cons,iD,show 2 * mkS f l (k+1) % 2=0 from by omega,show 2 * mkS f l (k+1) / 2=mkS f l (k+1) from by omega,aDs f l (k+1) (by simp [hy] at h; exact h)]
   omega
theorem aIf {α β:Type} (g:α→β):∀ (l:List α) (s:Nat),eN (l.map g) s=(eN l s).map g
 | [],s=>rfl
 | x::l,s=>by
  simp only [List.map_cons,eN,aIf g l]
  split <;> simp
theorem bLu {l:List (Nat × Nat × Nat)} (hG:Good l) {C:List (Nat × Nat)} (hC:C.Sublist (rsL l)):aTr C where
 pr:=fun x hx=>by
  obtain ⟨y,hy,rfl⟩:=List.mem_map.1 (hC.mem hx)
  exact hG.pr y hy
 lt:=fun x hx=>by
  obtain ⟨y,hy,rfl⟩:=List.mem_map.1 (hC.mem hx)
  exact hG.ok.2 y hy
 nd:=(hC.map (·.1)).nodup (by have:=hG.nd; rwa [← aNm] at this)
theorem bLl {l:List (Nat × Nat × Nat)} (hG:Good l) {b n:Nat} (he:enR b l n) (hf:2 * n≤l.length) {z:Int} (hz:z.natAbs≤b) (hz1:(blL z l).length≤n) :
  ∃ s,s<2 ^ (l.length - n)∧iD (l.length - n) s=l.length - 2 * n∧zOf l s=z:=by
 obtain ⟨f,hfe⟩:∃ f:Nat × Nat × Nat→Bool,f=fun x=>z % (x.2.1:Int) == (x.2.2:Int):=⟨_,rfl⟩
 obtain ⟨s,hs⟩:∃ s,mkS f (l.take (l.length - n)) (l.length - 2 * n)=s:=⟨_,rfl⟩
 have hll:(l.take (l.length - n)).length=l.length - n:=by rw [List.length_take]; omega
 have hcnt:l.length - 2 * n≤((l.take (l.length - n)).filter f).length:=by
  have h1:=sU f f (l.take (l.length - n))
  have h2:((l.take (l.length - n)).filter fun x=>!f x).length≤n:=by
   refine Nat.le_trans ?_ hz1
   rw [← wF,hfe]
   exact ((List.take_sublist _ l).filter _).length_le
  have h3:((l.take (l.length - n)).filter fun x=>f x && f x)=(l.take (l.length - n)).filter f:=List.filter_congr fun x _=>Bool.and_self _
  have h4:l.length - n≤(l.filter fun x=>!f x).length+((l.take (l.length - n)).filter f).length:=by
   have h5:∀ L:List (Nat × Nat × Nat),L.length≤(L.filter fun x=>!f x).length+(L.filter f).length:=fun L=>by
    induction L with
    | nil=>simp
    | cons x L ih=>cases hx:f x <;> simp [hx] <;> omega
   have h6:=h5 (l.take (l.length - n))
   have h7:=((List.take_sublist (l.length - n) l).filter fun x=>!f x).length_le
   omega
  have h8:(l.filter fun x=>!f x).length≤n:=by
   rw [hfe,wF]; exact hz1
  omega
 have hlt:=aLf f (l.take (l.length - n)) (l.length - 2 * n)
 have hbit:=aDt f (l.take (l.length - n)) (l.length - 2 * n)
 have hpop:=aDs f (l.take (l.length - n)) (l.length - 2 * n) hcnt
 rw [hll,hs] at hlt hpop
 rw [hs] at hbit
 have hbl:eN l s=eN (l.take (l.length - n)) s:=by
  have h:=aIg (l.take (l.length - n)) (l.drop (l.length - n)) s (by rw [hll]; exact hlt)
  rwa [List.take_append_drop] at h
 refine ⟨s,hlt,hpop,?_⟩
 obtain ⟨T,hT⟩:∃ T,eN l s=T:=⟨_,rfl⟩
 have hTs:T.Sublist l:=hT ▸ sK l s
 have hTl:T.length=l.length - 2 * n:=by rw [← hT,hbl,oS,hll,hpop]
 have hTc:∀ x∈T,z % (x.2.1:Int)=(x.2.2:Int):=fun x hx=>by
  rw [← hT,hbl] at hx
  have:=hbit x hx
  rw [hfe] at this
  simpa using this
 unfold zOf
 rw [show rsL l=l.map (·.2) from rfl,aIf,hT]
 have hC:(T.map (·.2)).Sublist (rsL l):=hTs.map _
 obtain ⟨h1,h2,h3⟩:=aOz (bLu hG hC)
 have hpm:(T.map (·.2)).map (·.1)=pmL T:=by simp [pmL]
 rw [hpm] at h2 h3
 have hQ:(pmL T).Sublist (pmL l):=hTs.map _
 have hb:=aOx hG he hQ (by simp only [pmL,List.length_map]; omega)
 refine aHv (l:=pmL T) (fun q hq=>bJs hG (hQ.mem hq)) (hQ.nodup hG.nd) (fun q hq=>?_) (by omega)
 obtain ⟨x,hx,rfl⟩:=List.mem_map.1 hq
 have h4:=h1 x.2 (List.mem_map_of_mem hx)
 have h5:=hTc x hx
 rw [Int.sub_emod,h4,h5,Int.sub_self,Int.zero_emod]
theorem bRu (b:Nat) (l:List (Nat × Nat × Nat)) (n:Nat) (hG:Good l) (hf:2 * n≤l.length) (hl2:l.length - n≤10):∃ R:D,(∃ (z:Int) (T:List Int) (e:Int),R=.tp [.ag [.b (decide (z<0)),aG (aR z.natAbs),ezI T],.i .i64 e]∧z.natAbs≤b∧T.length≤l.length) ∧
  ((¬ enR b l n→R=vdE 200)∧(enR b l n→∀ s,s<2 ^ (l.length - n)→okS b l n s→(∀ s',s'<s→¬ okS b l n s')→R=aJj (zOf l s) l)∧(enR b l n→(∀ s,s<2 ^ (l.length - n)→¬ okS b l n s)→R=vdE 201)) ∧
  (tP b l n true≠0→R=vdE (tP b l n true)) ∧
  (tP b l n true=0→∀ v,-(b:Int)≤v→v≤b→(blL v l).length≤n→(∀ v',-(b:Int)≤v'→v'<v→¬ (blL v' l).length≤n)→R=aJj v l) ∧
  (tP b l n true=0→(∀ v,-(b:Int)≤v→v≤b→¬ (blL v l).length≤n)→R=vdE 201):=by
 have hpl:(pmL l).length=l.length:=by simp [pmL]
 have hc1:enR b l n→tP b l n true=0:=fun h=>by
  unfold enR at h
  unfold tP
  rw [if_neg (by decide),aHo hG.nd,hpl,if_pos ⟨hf,h⟩]
 have hc2:¬ enR b l n→tP b l n true=200:=fun h=>by
  unfold enR at h
  unfold tP
  rw [if_neg (by decide),aHo hG.nd,hpl,if_neg fun h'=>h h'.2]
 have hE:∀ e,∃ (z:Int) (T:List Int) (e':Int),vdE e=.tp [.ag [.b (decide (z<0)),aG (aR z.natAbs),ezI T],.i .i64 e']∧z.natAbs≤b∧T.length≤l.length:=fun e=>⟨0,[],e,by simp [vdE,cB,aG,ezI],by simp,by simp⟩
 by_cases he:enR b l n
 ·rw [hc1 he]
  by_cases hz:∃ z:Int,z.natAbs≤b∧(blL z l).length≤n
  ·obtain ⟨z,hz,hz1⟩:=hz
   refine ⟨aJj z l,⟨z,dF (blL z l),0,rfl,hz,by rw [(lN _).length_eq]; exact tT z l⟩,⟨fun h=>absurd he h,fun _ s _ hs _=>?_,fun _ hno=>?_⟩,fun h=>absurd rfl h,fun _ v h1 h2 h3 _=>?_,fun _ hno=>?_⟩
   ·rw [aFe hG he hz hs.2.1 hz1 hs.2.2]
   ·obtain ⟨s,h1,h2,h3⟩:=bLl hG he hf hz hz1
    refine absurd ⟨?_,by rw [h3]; exact hz,by rw [h3]; exact hz1⟩ (hno s h1)
    have:=pJ (l.length - n) (10 - (l.length - n)) s h1
    rw [show l.length - n+(10 - (l.length - n))=10 from by omega] at this
    rw [this,h2]
   ·rw [aFe hG he hz (show v.natAbs≤b by omega) hz1 h3]
   ·exact absurd hz1 (hno z (by omega) (by omega))
  ·refine ⟨vdE 201,hE 201,⟨fun h=>absurd he h,fun _ s _ hs _=>?_,fun _ _=>rfl⟩,fun h=>absurd rfl h,fun _ v h1 h2 h3 _=>?_,fun _ _=>rfl⟩
   ·exact absurd ⟨_,hs.2.1,hs.2.2⟩ hz
   ·exact absurd ⟨v,by omega,h3⟩ hz
 ·rw [hc2 he]
  exact ⟨vdE 200,hE 200,⟨fun _=>rfl,fun h=>absurd h he,fun h=>absurd h he⟩,fun _=>rfl,fun h=>absurd h (by decide),fun h=>absurd h (by decide)⟩
def smF (k:Nat):Nat:=[2,3,5,7,11,13,17,19,23,29,31,37,41,43,47].getD (k % 15) 2
noncomputable def smB (k:Nat):Nat:=match (iY Tryz.prog EP 100 20).call 40 [.i .u8 k] with
 | some (.i .u64 n)=>n.toNat
 | _=>0
theorem bLi:((List.range 256).all fun k=>smB k == smF k)=true:=by kernel_rfl
theorem aJz (k:Nat):smF k∈[2,3,5,7,11,13,17,19,23,29,31,37,41,43,47]:=by
 have h:∀ j,j<15→smF j∈[2,3,5,7,11,13,17,19,23,29,31,37,41,43,47]:=by decide
 have:=h (k % 15) (Nat.mod_lt _ (by decide))
 unfold smF at *
 rwa [Nat.mod_mod] at this
theorem wU (k:Nat):2≤smF k∧smF k≤49:=by
 have h:∀ p∈[2,3,5,7,11,13,17,19,23,29,31,37,41,43,47],2≤p∧p≤49:=by decide
 exact h _ (aJz k)
theorem aQk [M:Mch Tryz.prog] (k:Nat) (hk:k<256):Spec Tryz.prog 40 [.i .u8 k] (.i .u64 (smF k)):=by
 have h:=List.all_eq_true.1 bLi k (List.mem_range.2 hk)
 rw [beq_iff_eq] at h
 have h2:=(wU k).1
 refine eP ?_
 unfold smB at h
 split at h
 ·rename_i n he
  rw [he,← h,Int.toNat_of_nonneg (by omega)]
 ·omega
theorem bLh:([2,3,5,7,11,13,17,19,23,29,31,37,41,43,47].all fun p=>prB p == 1)=true:=by kernel_rfl
theorem aVu [M:Mch Tryz.prog] (k:Nat):Spec Tryz.prog 52 [.i .u64 (smF k:Nat)] (.b true) :=
 aXh (b:=true) (by simpa using List.all_eq_true.1 bLh _ (aJz k))
theorem aJy (k:Nat):PrN (smF k):=by
 have h:∀ p∈[2,3,5,7,11,13,17,19,23,29,31,37,41,43,47],∀ d,d<8→2≤d→d * d≤p→p % d≠0:=by decide
 have hl:=wU k
 refine ⟨hl.1,fun d h1 h2=>?_⟩
 have hd:d<8:=by
  rcases Nat.lt_or_ge d 8 with h | h
  ·exact h
  ·have:=Nat.mul_le_mul h h; omega
 exact h _ (aJz k) d hd h1 h2
theorem bLg [M:Mch Tryz.prog] (k:Nat):Spec Tryz.prog 98 [.i .u64 (smF k:Nat)] (.b true) :=
 aXe (smF k) true ⟨fun _=>⟨(aJy k).1,by have:=wU k; omega,(aJy k).2⟩,fun _=>rfl⟩ (by have:=wU k; omega)
theorem aKl [M:Mch Tryz.prog] (w p v:Int):Spec Tryz.prog 36 [.i .i64 w,.i .u64 p,.i .u64 v] (.ag [.i .i64 w,.i .u64 p,.i .u64 v]):=by
 refine bH (N:=12) Tryz.func36 ?_
 simp [-ζ,-ξ,↓KW]
def dRp (l:List (Nat × Nat × Nat)):List D:=(l.map fun x=>[.i .i64 (x.1:Int),.i .u64 (x.2.1:Int),.i .u64 (x.2.2:Int)]).flatten
theorem wE (l:List (Nat × Nat × Nat)):(dRp l).length=l.length * 3:=by
 unfold dRp
 induction l with
 | nil=>rfl
 | cons x l ih=>simp only [List.map_cons,List.flatten_cons,List.length_append,ih,List.length_cons,List.length_nil]; omega
theorem bIj (a b:List (Nat × Nat × Nat)):dRp (a++b)=dRp a++dRp b:=by simp [dRp]
theorem bIi (w p v:Nat):dRp [(w,p,v)]=[.i .i64 w,.i .u64 p,.i .u64 v]:=rfl
theorem rZ {l:List (Nat × Nat × Nat)} {n:Nat} (h:l.length=n):((dRp l).map AV.d).take (n * 3)=(dRp l).map AV.d:=List.take_of_length_le (by rw [List.length_map,wE,h]; exact Nat.le_refl _)
theorem aBz {l:List (Nat × Nat × Nat)} {n:Nat} (h:l.length=n):chunk 3 n (dRp l)=l.map fun x=>[D.i .i64 (x.1:Int),D.i .u64 (x.2.1:Int),D.i .u64 (x.2.2:Int)]:=by
 subst h
 have:=aHz (k:=3) (by decide) (l.map fun x=>[D.i .i64 (x.1:Int),D.i .u64 (x.2.1:Int),D.i .u64 (x.2.2:Int)]) (fun x hx=>by
  obtain ⟨y,_,rfl⟩:=List.mem_map.1 hx; rfl)
 rwa [List.length_map] at this
def aXb (X:List (Nat × Nat × Nat)):List (List D):=X.map fun x=>[.i .u8 (x.1:Int),.i .u8 (x.2.1:Int),.i .u8 (x.2.2:Int)]
def bAi (X:List (Nat × Nat × Nat)):D:=.ag [.sl (aXb X)]
def mdL (X:List (Nat × Nat × Nat)):List (Nat × Nat × Nat):=X.map fun x=>(x.1,smF x.2.1,x.2.2 % 50)
def mdS (L:List (List D)) (i:Nat) (T:List (Nat × Nat × Nat)):St:=StL [(1,.ptr 1 0),(3,.own 2 0 T.length 3),(4,.d (.i .i64 i))] none [.cells 24 [.d (.sl L)],.cells 78 ((dRp T).map .d)]
set_option maxHeartbeats 8000000 in
set_option maxRecDepth 10000 in
theorem aYj [M:Mch Tryz.prog] (X:List (Nat × Nat × Nat)) (hX:∀ x∈X,x.1<256∧x.2.1<256∧x.2.2<256) (hl:X.length≤9223372036854775807) :
  Spec Tryz.prog 9 [bAi X] (fW (mdL (X.take 9))):=by
 obtain ⟨L,hL,hLl,hLg⟩:∃ L,aXb X=L∧L.length=X.length∧∀ (i:Nat) (x:Nat × Nat × Nat),X[i]? = some x→L[i]? = some [D.i .u8 (x.1:Int),D.i .u8 (x.2.1:Int),D.i .u8 (x.2.2:Int)]:=⟨_,rfl,by simp [aXb],fun i x hx=>by rw [aXb,List.getElem?_map,hx]; rfl⟩
 unfold bAi
 rw [hL]
 refine bH (N:=44) Tryz.func9 ?_
 simp [-ζ,-ξ,↓KW]
 refine bN (τ:=Nat) (fun i=>i≤9∧i≤X.length) (fun i=>mdS L i (mdL (X.take i))) (fun i=>9 - i) 0 ⟨Nat.zero_le _,Nat.zero_le _⟩ ?_ ?_
 ·rw [List.take_zero]
  show ∃ ρ,Wk _ (mdS _ _ []) ρ
  unfold mdS
  refine wkQ [1,2] ?_ ?_ <;> simp [-ζ,upd,aS,Γ0,dRp]
 ·rintro i ⟨hi9,hi⟩
  have hTl:(mdL (X.take i)).length=i:=by simp [mdL]; omega
  by_cases hlt:i<X.length
  ·have hiL:i<L.length:=by omega
   by_cases h9:i<9
   ·obtain ⟨⟨w,k,v⟩,hge⟩:∃ x,X[i]? = some x:=⟨_,List.getElem?_eq_getElem hlt⟩
    have hmem:=hX _ (List.mem_of_getElem? hge)
    simp only at hmem
    have hLi:=hLg i _ hge
    simp only at hLi
    have hLi':=cZ hLi
    have hSm:=aQk k hmem.2.1
    have hT1:mdL (X.take (i+1))=mdL (X.take i)++[(w,smF k,v % 50)]:=by
     rw [List.take_add_one,hge]; simp [mdL]
    have hw0:IntKind.i64.wrap (i:Int)=i:=bB
    have hw1:IntKind.i64.wrap ((i:Int)+1)=((i+1:Nat):Int):=bB
    have hww:IntKind.i64.wrap (w:Int)=w:=bB
    have hRp:=aKl w (smF k:Nat) ((v % 50:Nat):Int)
    generalize smF k=p at *
    obtain ⟨r,hr⟩:∃ r,v % 50=r:=⟨_,rfl⟩
    have hvr:(v:Int).tmod 50=(r:Int):=by rw [Int.tmod_eq_emod_of_nonneg (by omega)]; omega
    have hvr2:(v:Int) % 50=(r:Int):=by omega
    have hr1:r<50:=by omega
    have hwr8:IntKind.u8.wrap (r:Int)=r:=by rw [IntKind.wrap_u8]; omega
    have hwr64:IntKind.u64.wrap (r:Int)=r:=by rw [IntKind.wrap_u64]; omega
    rw [hr] at hT1 hRp
    generalize mdL (X.take i)=T at *
    have hbb:(i+1) * 24≤140737488355328∧i+1≤1099511627776:=by omega
    have h9i:(i:Int)<9:=by omega
    simp [-ζ,-ξ,↓KW,mdS,hiL,h9,h9i,hLi,hLi',hw0,hTl]
    refine aH hSm ?_
    simp [-ζ,-ξ,↓KW,hiL,hLi,hLi',hw0,hww,hvr,hvr2,hwr8,hwr64]
    refine aH hRp ?_
    simp [-ζ,-ξ,↓KW,wE,hTl,hbb,bV,hw1]
    refine aN (i+1) (by omega) (by show 9 - (i+1)<9 - i; omega) ?_
    show ∃ ρ,Wk _ (mdS _ _ _) ρ
    rw [hT1]
    unfold mdS
    refine wkQ [1,4] ?_ ?_ <;> simp [-ζ,upd,aS,Γ0,List.contains_cons,bQ,bIj,bIi,List.length_append,hTl]
   ·have h9e:i=9:=by omega
    subst h9e
    have e1:=rZ hTl
    have e2:=aBz hTl
    have e3:=wE (mdL (X.take 9))
    rw [hTl] at e3
    have hiLi:(9:Int)<(L.length:Int):=by omega
    simp [-ζ,-ξ,↓KW,mdS,hiL,hiLi]
    exact bG (by simp [-ζ,-ξ,↓KW,hTl,e1,e2,e3,fW])
  ·have hiL:¬ i<L.length:=by omega
   rw [List.take_of_length_le (show X.length≤9 by omega)]
   rw [List.take_of_length_le (show X.length≤i by omega)] at hTl ⊢
   have e1:=rZ hTl
   have e2:=aBz hTl
   have e3:=wE (mdL X)
   rw [hTl] at e3
   simp [-ζ,-ξ,↓KW,mdS,hiL]
   exact bG (by simp [-ζ,-ξ,↓KW,hTl,e1,e2,e3,fW])
theorem aJk (e:Int):vdE e=.tp [vZ 0 [],.i .i64 e]:=by simp [vdE,vZ,cB,aG,ezI]
theorem aHx [M:Mch Tryz.prog] (m:Int) (l:List (Nat × Nat × Nat)) (n:Int) (hm:m.natAbs≤40) (hn:n.natAbs≤3) (hl:l.length≤9)
  (hp:∀ x∈l,PrN x.2.1∧x.2.1≤49) (hP:∀ x∈l,Spec Tryz.prog 52 [.i .u64 (x.2.1:Nat)] (.b true)) (hP3:∀ x∈l,Spec Tryz.prog 98 [.i .u64 (x.2.1:Nat)] (.b true)) :
  ∃ (z:Int) (T:List Int) (e:Int),z.natAbs≤40∧T.length≤9∧Spec Tryz.prog 10 [encZ m,fW l,.i .i64 n] (.tp [vZ z T,.i .i64 e])∧Spec Tryz.prog 12 [.i .i64 m,fW l,.i .i64 n] (.tp [vZ z T,.i .i64 e]):=by
 by_cases h1:m<0∨n<0
 ·obtain ⟨L,hL,hLl,hLg⟩:=dN l
  have hC:=aQz m L n h1
  rw [← hL] at hC
  have hR:=kQ m l n 1 (by omega) hC (by decide)
  have hP:=bNj m L n (mG (by omega)) h1
  rw [← hL] at hP
  rw [aJk] at hP hR
  exact ⟨0,[],1,by simp,by simp,hP,hR⟩
 obtain ⟨b,rfl⟩:∃ b:Nat,m=b:=⟨m.toNat,by omega⟩
 obtain ⟨k,rfl⟩:∃ k:Nat,n=k:=⟨n.toNat,by omega⟩
 have hb:b≤40:=by omega
 have hk:k≤3:=by omega
 have hpb:∀ x∈l,0<x.2.1∧x.2.1≤49:=fun x hx=>⟨by have:=(hp x hx).1.1; omega,(hp x hx).2⟩
 have hpw:49 ^ (l.length - 2 * k)<2 ^ 250:=Nat.lt_of_le_of_lt (Nat.pow_le_pow_right (by decide) (show l.length - 2 * k≤9 by omega)) (by decide)
 rw [dE]
 by_cases hg:nS l∧(pmL l).Nodup
 ·have hG:Good l:=⟨hg.1,hg.2,fun x hx=>(hp x hx).1⟩
  have hpl:(pmL l).length=l.length:=by simp [pmL]
  have hEn:=aQy b l k 49 (by omega) (by omega) (by omega) hpb (by decide) hpw (fun i=>by
   have:=bHo hG.nd (2 * k) i
   rwa [hpl] at this)
  have hC:=aAy b l k true ⟨fun _=>hg,fun _=>rfl⟩ (by omega) (by omega) hP3 fun _=>hEn
  rw [← dE] at hC
  by_cases hf:2 * k≤l.length
  ·obtain ⟨R,⟨z,T,e,hR,hz,hT⟩,⟨a1,a2,a3⟩,b1,b2,b3⟩:=bRu b l k hG hf (by omega)
   have h2:=aSu b l k 49 R (by omega) (by omega) (by omega) hg hP hf (fun x hx=>hp x hx) (by decide) hpw a1 a2 a3
   have h3:=aKm (b:Int) l k (tP b l k true) R (by omega) (by omega) (fun x hx=>by have:=hpb x hx; omega) hC b1 b2 b3
   subst hR
   exact ⟨z,T,e,by omega,by omega,h2,h3⟩
  ·have hcl:tP b l k true=200:=by
    unfold tP
    rw [if_neg (by decide),if_neg fun h=>hf h.1]
   rw [hcl] at hC
   have h3:=kQ (b:Int) l (k:Nat) 200 (by omega) hC (by decide)
   have h2:=bIp b l (k:Nat) (by omega) (by omega) (by omega) hg hP (by omega)
   rw [aJk] at h2 h3
   exact ⟨0,[],200,by simp,by simp,h2,h3⟩
 ·have hC:=aAy b l k false ⟨fun h=>(by cases h),fun h=>(hg h).elim⟩ (by omega) (by omega) hP3 fun h=>(by cases h)
  rw [← dE] at hC
  have h3:=kQ (b:Int) l (k:Nat) 40 (by omega) hC (by decide)
  have h2:=aSv b l (k:Nat) (by omega) (by omega) (by omega) hg hP
  rw [aJk] at h2 h3
  exact ⟨0,[],40,by simp,by simp,h2,h3⟩
def iv (n:Int):D:=.ag [.b false,.sl [[.i .u32 n]]]
def iv0:D:=.ag [.b false,.sl []]
def rp (w p v:Int):List D:=[.i .i64 w,.i .u64 p,.i .u64 v]
def rl4:List (List D):=[rp 0 7 5,rp 1 11 5,rp 2 13 5,rp 3 17 0]
def rl3:List (List D):=[rp 0 7 5,rp 1 11 5,rp 2 13 5]
def rl2:List (List D):=[rp 0 7 5,rp 1 11 5]
def m12:D:=.ag [.i .i64 1,.i .i64 2,.sl [[.sl [[.b false,.sl []],[.b false,.sl []]]]]]
def m00:D:=.ag [.i .i64 0,.i .i64 0,.sl []]
def vd (v:Int) (l:List Int):D:=.ag [.b false,.sl [[.i .u32 v]],.sl (l.map fun x=>[.i .i64 x])]
def vd0:D:=.ag [.b false,.sl [],.sl []]
section
variable [M:Mch Tryz.prog]
theorem kC1:Spec Tryz.prog 10 [iv 10,.sl rl4,.i .i64 1] (.tp [vd 5 [3],.i .i64 0]):=eP (by kernel_rfl)
theorem kC2:Spec Tryz.prog 10 [iv 10,.sl rl3,.i .i64 1] (.tp [vd0,.i .i64 200]):=eP (by kernel_rfl)
theorem kC3:Spec Tryz.prog 10 [iv 10,.sl rl2,.i .i64 0] (.tp [vd 5 [],.i .i64 0]):=eP (by kernel_rfl)
theorem kC4:Spec Tryz.prog 10 [iv 3,.sl [rp 0 7 1,rp 1 11 2],.i .i64 0] (.tp [vd0,.i .i64 201]):=eP (by kernel_rfl)
theorem kC5:Spec Tryz.prog 10 [iv 10,.sl rl4,.i .i64 (-1)] (.tp [vd0,.i .i64 1]):=eP (by kernel_rfl)
theorem kC6:Spec Tryz.prog 10 [iv 10,.sl [rp 0 8 1],.i .i64 0] (.tp [vd0,.i .i64 40]):=eP (by kernel_rfl)
theorem kBl:Spec Tryz.prog 16 [iv 5,.sl rl4] (.sl [[.i .i64 3]]):=eP (by kernel_rfl)
theorem kRe (w p v:Int) (h:(iY Tryz.prog EP 100 20).call 36 [.i .i64 w,.i .u64 p,.i .u64 v]=some (.ag (rp w p v)):=by kernel_rfl):Spec Tryz.prog 36 [.i .i64 w,.i .u64 p,.i .u64 v] (.ag (rp w p v)):=eP h
theorem kOf (n:Int) (h:(iY Tryz.prog EP 100 20).call 11 [.i .i64 n]=some (iv n):=by kernel_rfl):Spec Tryz.prog 11 [.i .i64 n] (iv n):=eP h
theorem bPk:Spec Tryz.prog 11 [.i .i64 0] iv0:=eP (by kernel_rfl)
theorem kW2:Spec Tryz.prog 27 [m12,.sl []] (.tp [.sl [],.i .i64 50]):=eP (by kernel_rfl)
theorem kW3:Spec Tryz.prog 27 [m00,.sl [[.i .u64 5],[.i .u64 5]]] (.tp [.sl [],.i .i64 40]):=eP (by kernel_rfl)
theorem kNu (a b:List Nat) (h:(iY Tryz.prog EP 100 20).call 20 [cP a,cP b]=some (.b true):=by kernel_rfl):Spec Tryz.prog 20 [cP a,cP b] (.b true):=eP h
theorem kSa (v:Int) (l:List Int) (h:(iY Tryz.prog EP 100 20).call 13 [vd v l,vd v l]=some (.b true):=by kernel_rfl):Spec Tryz.prog 13 [vd v l,vd v l] (.b true):=eP h
theorem kSR:Spec Tryz.prog 39 [.sl [rp 0 5 4,rp 1 3 2],.sl [rp 0 5 4,rp 1 3 2]] (.b true):=eP (by kernel_rfl)
theorem kIn:Spec Tryz.prog 15 [.sl [[.i .i64 3]],.sl [[.i .i64 3]]] (.b true):=eP (by kernel_rfl)
theorem kVa:Spec Tryz.prog 69 [mA] (.b true):=eP (by kernel_rfl)
theorem kDi:Spec Tryz.prog 70 [.sl [[.i .u64 5],[.i .u64 3]]] (.b true):=eP (by kernel_rfl)
theorem kR5:Spec Tryz.prog 74 [mA,.i .u64 5] (.tp [.ag [.i .u64 5,.i .u64 4],.i .i64 0]):=eP (by kernel_rfl)
theorem kR3:Spec Tryz.prog 74 [mA,.i .u64 3] (.tp [.ag [.i .u64 3,.i .u64 2],.i .i64 0]):=eP (by kernel_rfl)
theorem aZd:bU 0=iv0:=by
 rw [← dE]; exact aSs
theorem bMq:bU 1=iv 1:=by
 rw [← dE]; exact yJ (by decide) (by decide)
theorem kP1:Spec Tryz.prog 19 [iv0,.i .i64 1] (cP [2147483647,2147483629]):=by
 have h:=aCu 0 1 (by decide) (by decide)
 rwa [aZd,show wpL 0 1=[2147483647,2147483629] from by decide] at h
theorem kP2:Spec Tryz.prog 19 [iv 1,.i .i64 0] (cP [2147483647]):=by
 have h:=aCu 1 0 (by decide) (by decide)
 rwa [bMq,show wpL 1 0=[2147483647] from by decide] at h
theorem kP3:Spec Tryz.prog 19 [iv0,.i .i64 0] (cP []):=by
 have h:=aCu 0 0 (by decide) (by decide)
 rwa [aZd,show wpL 0 0=[] from by decide] at h
end
end Go.Am
end
section
open List renaming map_map→ζ,mapM_map→ξ
namespace Go.Am
open Go.Conc
inductive Dl (P:Program) (main:Bool) (I:World→Prop) (Rm:Event→Prop) (K:Nat→Goroutine→Prop):Nat→Goroutine→Prop
  | here {d:Nat} {g:Goroutine} (h:K d g):Dl P main I Rm K d g
  | step {d:Nat} {g g':Goroutine} {es:Array Event} (hs:g.status=.running) (hm:∀ e∈es,Event.mute e=true∨Rm e) (h:∀ w,I w→stepG P main g w=.go g' w es) (hq:Dl P main I Rm K (deafBehind d es) g'):Dl P main I Rm K d g
section
variable {P:Program} {main:Bool} {I:World→Prop} {Rm:Event→Prop} {K:Nat→Goroutine→Prop} {b:Frame} {a:Act} {k:List Item} {cs:List Frame} {d:Nat}
theorem Dl.ctl {g g':Goroutine} (hs:g.status=.running) (h:∀ w,I w→stepG P main g w=.go g' w) (hq:Dl P main I Rm K d g'):Dl P main I Rm K d g:=.step hs (by simp) h hq
theorem Dl.value {ops:Array Oper} {i:Nat} {rest:List Nat} {o:Oper} (v:Value) (ho:ops[i]? = some o) (hw:Region.wanted o (yielded ops a.tmps)=true) (hk:b.kind≠.early)
    (hr:∀ w,I w→(execOp a.eval o).run P w=.ok (.value v) w) (he:∀ w,I w→(execOp a.eval o).events P w #[]=#[])
    (hq:Dl P main I Rm K d (G (b.at (a.put o.dst v) (.inRegion ops rest::k)) cs)):Dl P main I Rm K d (G (b.at a (.inRegion ops (i::rest)::k)) cs) :=
  .ctl rfl (fun w hI=>by rw [stepG_value ho hw hk (hr w hI)]; unfold listed; rw [he w hI,seen_none]) hq
theorem Dl.unwanted {ops:Array Oper} {i:Nat} {rest:List Nat} {o:Oper} (ho:ops[i]? = some o) (hw:Region.wanted o (yielded ops a.tmps)=false)
    (hq:Dl P main I Rm K d (G (b.at (a.put o.dst undef) (.inRegion ops rest::k)) cs)):Dl P main I Rm K d (G (b.at a (.inRegion ops (i::rest)::k)) cs) :=
  .ctl rfl (fun _ _=>stepG_unwanted ho hw) hq
theorem Dl.enter {ops:Array Oper} {i:Nat} {rest:List Nat} {o:Oper} {f:FuncId} {args:Array Value} (ho:ops[i]? = some o) (hw:Region.wanted o (yielded ops a.tmps)=true) (hk:b.kind≠.early)
    (hr:∀ w,I w→(execOp a.eval o).run P w=.ok (.enter f args) w) (he:∀ w,I w→(execOp a.eval o).events P w #[]=#[])
    (hq:Dl P main I Rm K d (G (Frame.enter P f args .normal) (b.at a (.inRegion ops (i::rest)::k)::cs))):Dl P main I Rm K d (G (b.at a (.inRegion ops (i::rest)::k)) cs) :=
  .ctl rfl (fun w hI=>by rw [stepG_enter ho hw hk (hr w hI)]; unfold listed; rw [he w hI,seen_none]) hq
theorem Dl.leave0 {fn:Func} {todo:List Item} {b₀:Frame} {a₀:Act} {ops:Array Oper} {i:Nat} {rest:List Nat} (hn:b.kind=.normal) (hd:a.defers=[]) (hf:P.funcs[b.fn]? = some fn) (hr:fn.results=#[])
    (hq:Dl P main I Rm K d (G (b₀.at (a₀.put ((ops[i]?).bind (·.dst)) (.tuple #[])) (.inRegion ops rest::k)) cs)) :
    Dl P main I Rm K d (G { b.at a todo with mode:=.returning } (b₀.at a₀ (.inRegion ops (i::rest)::k)::cs)) :=
  .ctl rfl (fun w _=>by rw [stepG_leave hn hd hf (results_none hr _ P w) (events_results_none hr _ _),Frame.finish_at]) hq
theorem Dl.leave1 {fn:Func} {todo:List Item} {b₀:Frame} {a₀:Act} {ops:Array Oper} {i:Nat} {rest:List Nat} {t:Tmp} (hn:b.kind=.normal) (hd:a.defers=[]) (hf:P.funcs[b.fn]? = some fn) (hr:fn.results=#[.tmp t])
    (hq:Dl P main I Rm K d (G (b₀.at (a₀.put ((ops[i]?).bind (·.dst)) (a.tmps.getD t undef)) (.inRegion ops rest::k)) cs)) :
    Dl P main I Rm K d (G { b.at a todo with mode:=.returning } (b₀.at a₀ (.inRegion ops (i::rest)::k)::cs)) :=
  .ctl rfl (fun w _=>by rw [stepG_leave hn hd hf (results_tmp hr _ P w) (events_results_tmp hr _ _),Frame.finish_at]) hq
theorem Dl.call {ops:Array Oper} {i:Nat} {rest:List Nat} {o:Oper} {f:FuncId} {fn:Func} {c:Code} {args:Array Operand} {ats:Array TypeId}
    (ho:ops[i]? = some o) (hw:Region.wanted o (yielded ops a.tmps)=true) (hk:b.kind≠.early) (hop:o.op=.call { callee:=.value (.func f),args,argTypes:=ats })
    (hf:P.funcs[f]? = some fn) (hname:(fn.name == "runtime.NumGoroutine")=false) (hb:fn.body=some c)
    (hq:Dl P main I Rm K d (G ((base f).at { tmps:=args.map a.eval++Array.replicate (fn.ntmps - (args.map a.eval).size) undef,defers:=[] } [.code c]) (b.at a (.inRegion ops (i::rest)::k)::cs))) :
    Dl P main I Rm K d (G (b.at a (.inRegion ops (i::rest)::k)) cs):=by
  have hb':fn.body.isNone=false:=by rw [hb]; rfl
  refine .ctl rfl (fun w _=>?_) hq
  rw [stepG_enter ho hw hk (run_call_body hop hf hname hb'),enter_at _ hf hb]
  have:listed P b.fn a o w=#[]:=by unfold listed; rw [events_call_body hop hf hname hb']; exact seen_none P _
  rw [this]
theorem Dl.unwind_mark {fn:Func} {f:FuncId} {todo:List Item} {ds:List Deferred} (m:Mark) (hm:Event.mute ⟨.mark m,false,true⟩=true) (hx:∀ g,m≠.extern g) (hd:a.defers=dcall f #[]::ds)
    (hf:P.funcs[f]? = some fn) (hname:(fn.name == "runtime.NumGoroutine")=false) (hb:fn.body.isNone=true) (hn:Extern.findNext fn=none)
    (he:Extern.find fn=some (fun _=>do mark m; pure Extern.Race.none_))
    (hq:Dl P main I Rm K (deafBehind d #[⟨.mark m,false,true⟩]) (G { b.at ⟨a.tmps,ds⟩ todo with mode:=.returning } cs)):Dl P main I Rm K d (G { b.at a todo with mode:=.returning } cs) :=
  .step rfl (by intro e h; simp at h; subst h; exact .inl hm) (fun w _=>stepG_unwind_entry (v:=.tuple #[]) hd hf hname hb hn he (by simp [Extern.Race.none_]) (by simp) (by
    intro x hx'
    simp at hx'
    subst hx'
    exact ⟨rfl,fun g h=>hx g (Loc.mark.inj h)⟩)) hq
theorem Dl.leaveD {fn:Func} {todo:List Item} {c:Frame} (hn:b.kind=.deferred) (hd:a.defers=[]) (hf:P.funcs[b.fn]? = some fn) (hr:fn.results=#[]) (hc:c.mode=.returning)
    (hq:Dl P main I Rm K d (G c cs)):Dl P main I Rm K d (G { b.at a todo with mode:=.returning } (c::cs)) :=
  .ctl rfl (fun w _=>stepG_leave_deferred hn hd hf (results_none hr _ P w) (events_results_none hr _ _) hc) hq
theorem Dl.done (h:Dl P main I Rm K d (G { b.at a [] with mode:=.returning } cs)):Dl P main I Rm K d (G (b.at a []) cs):=.ctl rfl (fun _ _=>stepG_end) h
theorem Dl.seq {x y:Code} (h:Dl P main I Rm K d (G (b.at a (.code x::.code y::k)) cs)):Dl P main I Rm K d (G (b.at a (.code (.seq x y)::k)) cs):=.ctl rfl (fun _ _=>stepG_seq) h
theorem Dl.skip (h:Dl P main I Rm K d (G (b.at a k) cs)):Dl P main I Rm K d (G (b.at a (.code .skip::k)) cs):=.ctl rfl (fun _ _=>stepG_skip) h
theorem Dl.region {id:Nat} {ops:Array Oper} (h:Dl P main I Rm K d (G (b.at a (.inRegion ops (List.range ops.size)::k)) cs)):Dl P main I Rm K d (G (b.at a (.code (.region id ops false)::k)) cs):=.ctl rfl (fun _ _=>stepG_region) h
theorem Dl.regionEnd {ops:Array Oper} (h:Dl P main I Rm K d (G (b.at a k) cs)):Dl P main I Rm K d (G (b.at a (.inRegion ops []::k)) cs):=.ctl rfl (fun _ _=>stepG_region_end) h
theorem Dl.cond {c:Operand} {x y:Code} (t:Bool) (hc:a.eval c=.bool t) (h:Dl P main I Rm K d (G (b.at a (.code (if t then x else y)::k)) cs)):Dl P main I Rm K d (G (b.at a (.code (.cond c x y)::k)) cs):=.ctl rfl (fun _ _=>stepG_cond hc) h
theorem Dl.block {id:Nat} {c:Code} (h:Dl P main I Rm K d (G (b.at a (.code c::.inBlock id::k)) cs)):Dl P main I Rm K d (G (b.at a (.code (.block id c)::k)) cs):=.ctl rfl (fun _ _=>stepG_block) h
theorem Dl.inBlock {id:Nat} (h:Dl P main I Rm K d (G (b.at a k) cs)):Dl P main I Rm K d (G (b.at a (.inBlock id::k)) cs):=.ctl rfl (fun _ _=>stepG_inBlock) h
theorem Dl.loop {c:Code} (h:Dl P main I Rm K d (G (b.at a (.code c::.inLoop c::k)) cs)):Dl P main I Rm K d (G (b.at a (.code (.loop c)::k)) cs):=.ctl rfl (fun _ _=>stepG_loop) h
theorem Dl.inLoop {c:Code} (h:Dl P main I Rm K d (G (b.at a (.code c::.inLoop c::k)) cs)):Dl P main I Rm K d (G (b.at a (.inLoop c::k)) cs):=.ctl rfl (fun _ _=>stepG_inLoop) h
theorem Dl.exit {id:Nat} {k':List Item} (hx:exitTo id k=some k') (h:Dl P main I Rm K d (G (b.at a k') cs)):Dl P main I Rm K d (G (b.at a (.code (.exit id)::k)) cs):=.ctl rfl (fun _ _=>stepG_exit hx) h
theorem Dl.ret (h:Dl P main I Rm K d (G { b.at a (.code .ret::k) with mode:=.returning } cs)):Dl P main I Rm K d (G (b.at a (.code .ret::k)) cs):=.ctl rfl (fun _ _=>stepG_ret') h
def DlN (P:Program) (main:Bool) (I:World→Prop) (Rm:Event→Prop) (K:Nat→Goroutine→Prop):Nat→Nat→Goroutine→Prop
  | 0,d,g=>K d g
  | n+1,d,g=>K d g∨(g.status=.running∧∃ g' es,(∀ e∈es,Event.mute e=true∨Rm e)∧(∀ w,I w→stepG P main g w=.go g' w es)∧DlN P main I Rm K n (deafBehind d es) g')
theorem Dl.count {g:Goroutine} (h:Dl P main I Rm K d g):∃ n,DlN P main I Rm K n d g:=by
  induction h with
  | here h=>exact ⟨0,h⟩
  | step hs hm h _ ih=>obtain ⟨n,ih⟩:=ih; exact ⟨n+1,.inr ⟨hs,_,_,hm,h,ih⟩⟩
theorem DlN.cases {n:Nat} {g:Goroutine} (h:DlN P main I Rm K n d g):K d g∨∃ m,n=m+1∧g.status=.running∧∃ g' es,(∀ e∈es,Event.mute e=true∨Rm e)∧(∀ w,I w→stepG P main g w=.go g' w es)∧DlN P main I Rm K m (deafBehind d es) g':=by
  cases n with
  | zero=>exact .inl h
  | succ n=>exact h.imp id fun x=>⟨n,rfl,x⟩
theorem Dl.mono {K':Nat→Goroutine→Prop} (hK:∀ d g,K d g→K' d g) {g:Goroutine} (h:Dl P main I Rm K d g):Dl P main I Rm K' d g:=by
  induction h with
  | here h=>exact .here (hK _ _ h)
  | step hs hm h _ ih=>exact .step hs hm h ih
theorem Dl.bind {K':Nat→Goroutine→Prop} (hK:∀ d g,K d g→Dl P main I Rm K' d g) {g:Goroutine} (h:Dl P main I Rm K d g):Dl P main I Rm K' d g:=by
  induction h with
  | here h=>exact hK _ _ h
  | step hs hm h _ ih=>exact .step hs hm h ih
theorem Dl.quits {g:Goroutine} (h:Dl P false (fun _=>True) (fun _=>False) (fun d g=>∃ n,QuitsD P n d g) d g):∃ n,QuitsD P n d g:=by
  induction h with
  | here h=>exact h
  | step hs hm h _ ih=>obtain ⟨n,ih⟩:=ih; exact ⟨n+1,.inr ⟨hs,_,_,fun e he=>(hm e he).resolve_right id,fun w=>h w trivial,ih⟩⟩
end
end Go.Am
end
section
open List renaming map_map→ζ,mapM_map→ξ
namespace Go.Am
open Go.Conc
inductive Tr where
  | leaf
  | node (f:World × World→Tr)
def qP (a b:Tr):Prop:=∃ f p,b=.node f∧a=f p
theorem aFh (t:Tr):Acc qP t:=by
  induction t with
  | leaf=>exact ⟨_,fun y ⟨f,p,h,_⟩=>by cases h⟩
  | node f ih=>exact ⟨_,fun y ⟨g,p,h,e⟩=>by cases h; exact e ▸ ih p⟩
def Tr.nat:Nat→Tr
  | 0=>.leaf
  | n+1=>.node fun _=>Tr.nat n
theorem pE (f:World × World→Tr) (p:World × World):qP (f p) (.node f):=⟨f,p,rfl,rfl⟩
theorem iE (n:Nat):qP (Tr.nat n) (Tr.nat (n+1)):=⟨_,default,rfl,rfl⟩
def Tr.up (t:Tr):Tr:=.node fun _=>t
structure zJ (Rm:Event→Prop) (v w v' w':World) (es:Array Event):Prop where
  sim:Sim v' w'
  ok:OkV v'
  ext:Ext v v'
  rest:uB v w w'
  evs:∀ e∈es,EvV v' e∨Event.mute e=true∨Rm e
theorem uA.q {Rm:Event→Prop} {v w v' w':World} {es:Array Event} (h:uA v w v' w' es):zJ Rm v w v' w' es:=⟨h.sim,h.ok,h.ext,h.rest,fun e he=>.inl (h.evs e he)⟩
def GT (P:Program) (main:Bool) (I:World→Prop) (Rm:Event→Prop) (Stop:Nat→Goroutine→World→Prop):Tr→Nat→Goroutine→World→Prop
  | .leaf,d,g,v=>Stop d g v
  | .node f,d,g,v=>g.status=.running∧OkV v∧∀ v1 w,Env v v1→Sim v1 w→I w →
      ∃ g' v' w' es,stepG P main g w=.go g' w' es∧zJ Rm v1 w v' w' es∧GT P main I Rm Stop (f (v1,w)) (deafBehind d es) g' v'
def aTv (Stop:Nat→Goroutine→World→Prop):Prop:=∀ d g v v1,Stop d g v→Env v v1→Stop d g v1
theorem bHw {v:World} {e:Event} (h:EvV v e):e.loc≠.mark .disable∧e.loc≠.mark .enable:=by
  rcases h with ⟨a,c,t,f,h1,_⟩ | ⟨r,o,h1,_⟩ | rfl
  · rw [h1]; exact ⟨by simp,by simp⟩
  · rw [h1]; exact ⟨by simp,by simp⟩
  · exact ⟨by simp,by simp⟩
section
variable {P:Program} {main:Bool} {I:World→Prop} {Rm:Event→Prop} {Stop:Nat→Goroutine→World→Prop}
theorem GT.env (hS:aTv Stop) {tr:Tr} {d:Nat} {g:Goroutine} {v v1:World} (h:GT P main I Rm Stop tr d g v) (he:Env v v1):GT P main I Rm Stop tr d g v1:=by
  cases tr with
  | leaf=>exact hS _ _ _ _ h he
  | node f=>exact ⟨h.1,he.okV h.2.1,fun v2 w he2 hs hi=>h.2.2 v2 w (he.trans he2) hs hi⟩
def GoW (P:Program) (main:Bool) (I:World→Prop) (Rm:Event→Prop) (Stop:Nat→Goroutine→World→Prop) (g:Goroutine) (v:World):Prop:=∃ tr,GT P main I Rm Stop tr 0 g v
theorem aBu {d:Nat} {g:Goroutine} {v:World} (hr:g.status=.running) (hv:OkV v)
    (h:∀ v1 w,Env v v1→Sim v1 w→I w→∃ g' v' w' es,stepG P main g w=.go g' w' es∧zJ Rm v1 w v' w' es∧∃ tr,GT P main I Rm Stop tr (deafBehind d es) g' v'):∃ tr,GT P main I Rm Stop tr d g v:=by
  classical
  have h':∀ p:World × World,∃ tr:Tr,Env v p.1→Sim p.1 p.2→I p.2→∃ g' v' w' es,stepG P main g p.2=.go g' w' es∧zJ Rm p.1 p.2 v' w' es∧GT P main I Rm Stop tr (deafBehind d es) g' v':=by
    intro p
    by_cases hp:Env v p.1∧Sim p.1 p.2∧I p.2
    · obtain ⟨g',v',w',es,h1,h2,tr,h3⟩:=h p.1 p.2 hp.1 hp.2.1 hp.2.2
      exact ⟨tr,fun _ _ _=>⟨g',v',w',es,h1,h2,h3⟩⟩
    · exact ⟨.leaf,fun a b c=>(hp ⟨a,b,c⟩).elim⟩
  obtain ⟨F,hF⟩:=Classical.axiomOfChoice h'
  exact ⟨.node F,hr,hv,fun v1 w he hs hi=>hF (v1,w) he hs hi⟩
theorem aLr (hS:aTv Stop):aEx P main (GoW P main I Rm Stop) where
  env h he:=by obtain ⟨tr,h⟩:=h; exact ⟨tr,h.env hS he⟩
  step {g v} hr hv h:=aBu hr hv fun v1 w he hs hi=>by
    obtain ⟨g',v',w',es,h1,h2,tr,h3⟩:=h v1 w he hs
    exact ⟨g',v',w',es,h1,h2.q,tr,by rw [deafBehind_still fun e hx=>bHw (h2.evs e hx)]; exact h3⟩
@[instance_reducible] def kT (P:Program) (main:Bool):Mch P where
  main:=main
  Fam Win:=(∃ I Rm Stop,aTv Stop∧Win=GoW P main I Rm Stop)∨Win=fun _ _=>False
  closed h:=by
    rcases h with ⟨I,Rm,Stop,hS,rfl⟩ | rfl
    · exact aLr hS
    · exact uM main
  none:=.inr rfl
theorem Dl.gt {K:Nat→Goroutine→Prop} {d:Nat} {g:Goroutine} (h:Dl P main I Rm K d g):∀ {v:World},OkV v→(∀ d g v1,Env v v1→K d g→∃ tr,GT P main I Rm Stop tr d g v1)→∃ tr,GT P main I Rm Stop tr d g v:=by
  induction h with
  | here h=>exact fun _ hK=>hK _ _ _ (.refl _) h
  | step hs hm h _ ih =>
    intro v hv hK
    exact aBu hs hv fun v1 w he hsim hi=>⟨_,v1,w,_,h w hi,⟨hsim,he.okV hv,.refl _,.refl _ _,fun e hx=>.inr (hm e hx)⟩,ih (he.okV hv) fun d g v2 he2 hk=>hK d g v2 (he.trans he2) hk⟩
end
end Go.Am
end
section
open List renaming map_map→ζ,mapM_map→ξ
namespace Go.Am
open Go.Conc
def Unf (v:World) (b:Nat):Prop:=∃ o,v.heap[b]? = some o∧∀ c t,o≠Obj.cells c t (0,c.size)
def oU (v:World) (b:Nat):Prop:=∃ c t,v.heap[b]? = some (.cells c t (0,c.size))
theorem qN {v:World} {b:Nat} (h:v.heap[b]? = some hole):oU v b:=⟨#[],0,h⟩
theorem oU.not_unf {v:World} {b:Nat} (h:oU v b):¬ Unf v b:=by
 obtain ⟨c,t,h⟩:=h
 rintro ⟨o,ho,hn⟩
 rw [h] at ho; exact hn c t (Option.some.inj ho).symm
theorem jP {v:World} {b:Nat} (h:v.heap[b]? = some hole):¬ Unf v b:=(qN h).not_unf
theorem aCs {v:World} {b:Nat} (h:b<v.heap.size):oU v b∨Unf v b:=by
 classical
 by_cases hw:oU v b
 ·exact .inl hw
 ·exact .inr ⟨_,Array.getElem?_eq_getElem h,fun c t e=>hw ⟨c,t,by rw [Array.getElem?_eq_getElem h,e]⟩⟩
def gV (v w':World):World:={ v with heap:=v.heap++Array.replicate (w'.heap.size - v.heap.size) hole,drawn:=w'.drawn }
theorem cD (v w':World):Env v (gV v w'):=⟨rfl,rfl,rfl,_,rfl⟩
theorem xY {v w':World} (h:v.heap.size≤w'.heap.size):(gV v w').heap.size=w'.heap.size:=by simp [gV]; omega
theorem pL {v w':World} {b:Nat} (h:b<v.heap.size):(gV v w').heap[b]? = v.heap[b]? := (cD v w').get h
theorem tI {v w':World} {b:Nat} (h:v.heap.size≤b) {o:Obj} (ho:(gV v w').heap[b]? = some o):o=hole:=by
 simp only [gV] at ho
 rw [Array.getElem?_append_right h] at ho
 have:=Array.mem_of_getElem? ho
 rw [Array.mem_replicate] at this
 exact this.2
theorem aBv {v w':World} {b:Nat}:Unf (gV v w') b↔Unf v b:=by
 constructor
 ·rintro ⟨o,ho,hn⟩
  rcases Nat.lt_or_ge b v.heap.size with h | h
  ·exact ⟨o,by rw [← pL h]; exact ho,hn⟩
  ·exact absurd (tI h ho) (by rintro rfl; exact hn #[] 0 rfl)
 ·rintro ⟨o,ho,hn⟩
  exact ⟨o,by rw [pL (bD ho)]; exact ho,hn⟩
theorem kA {v w':World} {b:Nat} (h:v.heap[b]? = some hole):(gV v w').heap[b]? = some hole:=by rw [pL (bD h)]; exact h
structure dJ (v v':World):Prop where
 size:v.heap.size≤v'.heap.size
 unf:∀ b,b<v.heap.size→(Unf v' b↔Unf v b)
 whole:∀ b c t,b<v.heap.size→(v'.heap[b]? = some (.cells c t (0,c.size))↔v.heap[b]? = some (.cells c t (0,c.size)))
 tape:v'.tape=v.tape
 os:v'.os=v.os
 output:v'.output=v.output
theorem dJ.of_env {v v':World} (h:Env v v'):dJ v v':=⟨h.size,fun b hb=>by simp only [Unf,h.get hb],fun b c t hb=>by rw [h.get hb],h.tape,h.os,h.output⟩
theorem dJ.of_ext {v v':World} (h:Ext v v') (hv:OkV v):dJ v v':=by
 have key:∀ (b:Nat) (o:Obj),v.heap[b]? = some o→(∃ (c:Array Value) (t:TypeId) (f:Nat × Nat),o=Obj.cells c t f∧∃ c':Array Value,v'.heap[b]? = some (Obj.cells c' t f)∧c'.size=c.size∧(f=(0,c.size)→c'=c))∨((∀ (c:Array Value) (t:TypeId) (f:Nat × Nat),o≠Obj.cells c t f)∧∃ o':Obj,v'.heap[b]? = some o'∧∀ (c:Array Value) (t:TypeId) (f:Nat × Nat),o'≠Obj.cells c t f):=by
  intro b o hb
  by_cases hc:∃ (c:Array Value) (t:TypeId) (f:Nat × Nat),o=Obj.cells c t f
  ·obtain ⟨c,t,f,rfl⟩:=hc
   exact .inl ⟨c,t,f,rfl,h.cells b c t f hb⟩
  ·have hc':∀ c t f,o≠Obj.cells c t f:=fun c t f e=>hc ⟨c,t,f,e⟩
   obtain ⟨o',h1,h2,_⟩:=h.other b o hb hc' (hv b o hb)
   exact .inr ⟨hc',o',h1,h2⟩
 refine ⟨h.size,fun b hb=>?_,fun b c t hb=>?_,h.tape,h.os,h.output⟩
 ·obtain ⟨o,ho⟩:∃ o,v.heap[b]? = some o:=⟨_,Array.getElem?_eq_getElem hb⟩
  rcases key b o ho with ⟨c,t,f,rfl,c',h1,h2,h3⟩ | ⟨h1,o',h2,h3⟩
  ·constructor
   ·rintro ⟨o,ho',hn⟩
    rw [h1] at ho'; obtain rfl:=Option.some.inj ho'
    refine ⟨_,ho,fun c2 t2 e=>?_⟩
    injection e with e1 e2 e3; subst e1; subst e3
    have:=h3 rfl; subst this; exact hn _ _ rfl
   ·rintro ⟨o,ho',hn⟩
    rw [ho] at ho'; obtain rfl:=Option.some.inj ho'
    refine ⟨_,h1,fun c2 t2 e=>?_⟩
    injection e with e1 e2 e3; subst e1; subst e3
    exact hn c t (by rw [h2])
  ·exact ⟨fun _=>⟨o,ho,fun c t=>h1 c t _⟩,fun _=>⟨o',h2,fun c t=>h3 c t _⟩⟩
 ·obtain ⟨o,ho⟩:∃ o,v.heap[b]? = some o:=⟨_,Array.getElem?_eq_getElem hb⟩
  rcases key b o ho with ⟨c0,t0,f,rfl,c',h1,h2,h3⟩ | ⟨h1,o',h2,h3⟩
  ·rw [h1,ho]
   constructor
   ·intro e; injection e with e; injection e with e1 e2 e3; subst e1; subst e2; subst e3
    have:=h3 (by rw [h2]); subst this; rfl
   ·intro e; injection e with e; injection e with e1 e2 e3; subst e1; subst e2; subst e3
    have:=h3 rfl; subst this; rfl
  ·rw [h2,ho]
   constructor
   ·intro e; exact absurd (Option.some.inj e) (h3 _ _ _)
   ·intro e; exact absurd (Option.some.inj e) (h1 _ _ _)
theorem dJ.trans {v v1 v2:World} (h:dJ v v1) (k:dJ v1 v2):dJ v v2 :=
 ⟨Nat.le_trans h.size k.size,fun b hb=>(k.unf b (Nat.lt_of_lt_of_le hb h.size)).trans (h.unf b hb),fun b c t hb=>(k.whole b c t (Nat.lt_of_lt_of_le hb h.size)).trans (h.whole b c t hb),k.tape.trans h.tape,k.os.trans h.os,k.output.trans h.output⟩
theorem dJ.hole {v v':World} (h:dJ v v') {b:Nat} (hb:v.heap[b]? = some hole):v'.heap[b]? = some hole:=(h.whole b #[] 0 (bD hb)).2 hb
theorem dJ.whole' {v v':World} (h:dJ v v') {b:Nat} (hb:oU v b):oU v' b:=by
 obtain ⟨c,t,hb⟩:=hb
 exact ⟨c,t,(h.whole b c t (bD hb)).2 hb⟩
structure Vws (A:Nat→Prop) (V:Nat→World) (w:World):Prop where
 sim:∀ k,A k→Sim (V k) w
 ok:∀ k,A k→OkV (V k)
 dis:∀ k k',A k→A k'→k≠k'→∀ b,Unf (V k) b→(V k').heap[b]? = some hole
def aAb (V:Nat→World) (k:Nat) (v' w':World) (x:Nat):World:=if x=k then v' else gV (V x) w'
theorem jT (V:Nat→World) (k:Nat) (v' w':World):aAb V k v' w' k=v':=by simp [aAb]
theorem mK (V:Nat→World) {k x:Nat} (v' w':World) (h:x≠k):aAb V k v' w' x=gV (V x) w':=by simp [aAb,h]
theorem aBw {v w w':World} (h:Sim v w) (hsz:w.heap.size≤w'.heap.size) (ht:w'.tape=w.tape) (ho:w'.os=w.os) (hp:w'.output=w.output)
  (hb:∀ (b:Nat) (o:Obj),v.heap[b]? = some o→o≠hole→w'.heap[b]? = w.heap[b]?):Sim (gV v w') w':=by
 have hs:v.heap.size=w.heap.size:=h.size
 refine ⟨by simp [gV,h.tape,ht],rfl,by simp [gV,h.os,ho],by simp [gV,h.output,hp],xY (by omega),fun b o hx=>?_⟩
 rcases Nat.lt_or_ge b v.heap.size with hlt | hge
 ·rw [pL hlt] at hx
  by_cases e:o=hole
  ·exact .inl e
  ·rw [hb b o hx e]; exact h.blk b o hx
 ·exact .inl (tI hge hx)
theorem Vws.step {A:Nat→Prop} {V:Nat→World} {w:World} (h:Vws A V w) {k:Nat} (hk:A k) {Rm:Event→Prop} {v' w':World} {es:Array Event} (hs:zJ Rm (V k) w v' w' es):Vws A (aAb V k v' w') w':=by
 have hsz:(V k).heap.size=w.heap.size:=(h.sim k hk).size
 have hsz':v'.heap.size=w'.heap.size:=hs.sim.size
 have hge:(V k).heap.size≤v'.heap.size:=hs.ext.size
 have hO:=dJ.of_ext hs.ext (h.ok k hk)
 have htp:w'.tape=w.tape:=by rw [← hs.sim.tape,hs.ext.tape,(h.sim k hk).tape]
 have hos:w'.os=w.os:=by rw [← hs.sim.os,hs.ext.os,(h.sim k hk).os]
 have hop:w'.output=w.output:=by rw [← hs.sim.output,hs.ext.output,(h.sim k hk).output]
 refine ⟨fun x hx=>?_,fun x hx=>?_,fun x y hx hy hne b hu=>?_⟩
 ·by_cases e:x=k
  ·subst e; rw [jT]; exact hs.sim
  ·rw [mK V _ _ e]
   refine aBw (h.sim x hx) (by omega) htp hos hop fun b o hb hne=>?_
   have hlt:b<(V k).heap.size:=by rw [hsz,← (h.sim x hx).size]; exact bD hb
   rcases aCs hlt with ⟨c,t,hw⟩ | hu
   ·exact hs.rest b c t hw
   ·have:=h.dis k x hk hx (Ne.symm e) b hu
    rw [hb] at this; exact absurd (Option.some.inj this) hne
 ·by_cases e:x=k
  ·subst e; rw [jT]; exact hs.ok
  ·rw [mK V _ _ e]; exact (cD _ _).okV (h.ok x hx)
 ·by_cases e:x=k
  ·subst e
   have ey:y≠x:=Ne.symm hne
   rw [jT] at hu
   rw [mK V _ _ ey]
   rcases Nat.lt_or_ge b (V x).heap.size with hlt | hge'
   ·exact kA (h.dis x y hx hy hne b ((hO.unf b hlt).1 hu))
   ·obtain ⟨o,ho,_⟩:=hu
    have hlt:=bD ho
    have hy':(V y).heap.size=w.heap.size:=(h.sim y hy).size
    have hb:b<(gV (V y) w').heap.size:=by rw [xY (by omega)]; omega
    have hget:=Array.getElem?_eq_getElem hb
    have:=tI (v:=V y) (w':=w') (b:=b) (by omega) hget
    rw [hget,this]
  ·rw [mK V _ _ e] at hu
   have hu':=aBv.1 hu
   by_cases ey:y=k
   ·subst ey
    rw [jT]
    exact hO.hole (h.dis x y hx hy hne b hu')
   ·rw [mK V _ _ ey]
    exact kA (h.dis x y hx hy hne b hu')
theorem Vws.aside {A:Nat→Prop} {V:Nat→World} {w w':World} (h:Vws A V w) (hsz:w'.heap.size=w.heap.size) (ht:w'.tape=w.tape) (ho:w'.os=w.os) (hp:w'.output=w.output)
  (hb:∀ k,A k→∀ (b:Nat) (o:Obj),(V k).heap[b]? = some o→o≠hole→w'.heap[b]? = w.heap[b]?):Vws A (fun x=>gV (V x) w') w' :=
 ⟨fun k hk=>aBw (h.sim k hk) (by omega) ht ho hp (hb k hk),fun k hk=>(cD _ _).okV (h.ok k hk),fun k k' hk hk' hne b hu=>kA (h.dis k k' hk hk' hne b (aBv.1 hu))⟩
/-! ### what is handed to a worker -/
def yF:Obj→Obj
 | .cells c e _=>.cells c e (0,c.size)
 | _=>hole
def iL (v:World):World:={ v with heap:=v.heap.map yF }
theorem lW (v:World) (b:Nat):(iL v).heap[b]? = (v.heap[b]?).map yF:=by simp [iL]
theorem tJ (v:World):(iL v).heap.size=v.heap.size:=by simp [iL]
theorem oM (o:Obj):∃ c t,yF o=.cells c t (0,c.size):=by
 cases o with
 | cells c e f=>exact ⟨c,e,rfl⟩
 | _=>exact ⟨#[],0,rfl⟩
theorem yD {v:World} {b:Nat} (h:b<v.heap.size):oU (iL v) b:=by
 obtain ⟨c,t,e⟩:=oM v.heap[b]
 exact ⟨c,t,by rw [lW,Array.getElem?_eq_getElem h,Option.map_some,e]⟩
theorem aEc (v:World) (b:Nat):¬ Unf (iL v) b:=by
 rintro ⟨o,ho,hn⟩
 have hlt:=bD ho
 rw [tJ] at hlt
 exact (yD hlt).not_unf ⟨o,ho,hn⟩
theorem yE:yF hole=hole:=rfl
theorem tK {v:World} {b:Nat} (h:v.heap[b]? = some hole):(iL v).heap[b]? = some hole:=by rw [lW,h,Option.map_some,yE]
theorem aEb (v:World):OkV (iL v):=fun b o ho=>by
 rw [lW] at ho
 obtain ⟨x,_,rfl⟩:=Option.map_eq_some_iff.1 ho
 obtain ⟨c,t,e⟩:=oM x
 rw [e]; rfl
theorem aHt {v w:World} (h:Sim v w):Sim (iL v) w:=by
 refine ⟨h.tape,h.drawn,h.os,h.output,by rw [tJ]; exact h.size,fun b o ho=>?_⟩
 rw [lW] at ho
 obtain ⟨x,hx,rfl⟩:=Option.map_eq_some_iff.1 ho
 cases x with
 | cells c e f =>
  simp only [yF]
  rcases h.blk b _ hx with e1 | e1 | ⟨c',e',f',e1,e2⟩
  ·injection e1 with e1 e2 e3; subst e1; subst e2; exact .inl rfl
  ·exact .inr (.inr ⟨c,e,f,rfl,e1⟩)
  ·injection e1 with e1 e3 e4; subst e1; subst e3
   exact .inr (.inr ⟨c,e,f',rfl,e2⟩)
 | _=>exact .inl rfl
end Go.Am
end
section
open List renaming map_map→ζ,mapM_map→ξ
namespace Go.Am
open Go.Conc Go.ConcR.Gen Go.Conc.Lib Go.RowKit Go.ConcR
open Go
def cR (ty:TypeId) (Wg:Nat) (w:World):Prop:=∃ st sm,w.heap[Wg]? = some (wgBlock ty st sm)
theorem cR.cell0 {ty:TypeId} {Wg:Nat} {w:World} (h:cR ty Wg w):∃ v,w.cell? ⟨Wg,0,none⟩=some v:=by
 obtain ⟨st,sm,h⟩:=h
 exact ⟨.int .u64 st,by simp [World.cell?,h,wgBlock]⟩
theorem cR.cell1 {ty:TypeId} {Wg:Nat} {w:World} (h:cR ty Wg w):∃ v,w.cell? ⟨Wg,1,none⟩=some v:=by
 obtain ⟨st,sm,h⟩:=h
 exact ⟨.int .u32 sm,by simp [World.cell?,h,wgBlock]⟩
def noE:Event→Prop:=fun _=>False
section
variable (P:Program) (L:WgLink) (Wg:Nat)
def bKh (d:Nat) (g:Goroutine):Prop :=
 d=1∧g.status=.running∧mayWake P g=true∧∀ w,w.heap[Wg]? = some (wgBlock L.tWg 0 0)→∃ g',stepG P false g w=.go g' (w.setCell (smA Wg) (.int .u32 1)) (semEvents (smA Wg))∧∃ q,QuitsD P q d g'
def bCv (d:Nat) (g:Goroutine):Prop :=
 d=1∧g.status=.running∧∀ w,w.heap[Wg]? = some (wgBlock L.tWg 1 0)→∃ g',stepG P false g w=.go g' (w.setCell (stA Wg) (.int .u64 0)) #[wr (stA Wg)]∧Dl P false (cR L.tWg Wg) noE (bKh P L Wg) d g'
def bCw (d:Nat) (g:Goroutine):Prop :=
 d=1∧g.status=.running∧∀ w,w.heap[Wg]? = some (wgBlock L.tWg 1 0)→∃ g',stepG P false g w=.go g' w #[rd (stA Wg)]∧Dl P false (cR L.tWg Wg) noE (bCv P L Wg) d g'
def bKg (d:Nat) (g:Goroutine):Prop :=
 g.status=.running∧∀ (w:World) (v wt:Nat),wt≤1→v<2147483647→w.heap[Wg]? = some (wgBlock L.tWg (((v:Int)+1) * KK+wt) 0) →
  ∃ g',stepG P false g w=.go g' (w.setCell (stA Wg) (.int .u64 ((v:Int) * KK+wt))) #[rd (stA Wg),wr (stA Wg)] ∧
   ((v=0∧wt=1)→Dl P false (cR L.tWg Wg) noE (bCw P L Wg) d g')∧(¬ (v=0∧wt=1)→∃ q,QuitsD P q d g')
def uC (d:Nat) (g:Goroutine):Prop :=
 g.status=.running∧d=0∧∃ g',(∀ w,cR L.tWg Wg w→stepG P false g w=.go g' w #[mk (.releaseMerge (stA Wg))])∧Dl P false (cR L.tWg Wg) noE (fun d g=>d=1∧bKg P L Wg d g) 0 g'
end
def dI (Wg:Nat) (e:Event):Prop:=e=⟨.mark (.read (smA Wg)),false,true⟩∨e=⟨.mark (.write (smA Wg)),false,true⟩
section
variable (P:Program) (L:WgLink) (Wg:Nat)
def aCm (K:Nat→Goroutine→Prop) (d:Nat) (g:Goroutine):Prop :=
 g.status=.running∧∀ (w:World) (v:Nat),v<2147483647→w.heap[Wg]? = some (wgBlock L.tWg ((v:Int) * KK) 0) →
  ∃ g',stepG P true g w=.go g' (w.setCell (stA Wg) (.int .u64 (((v:Int)+1) * KK))) #[rd (stA Wg),wr (stA Wg)]∧Dl P true (cR L.tWg Wg) (dI Wg) K d g'
end
section
variable (P:Program) (L:WgLink) (Wg:Nat) (K:Goroutine→Prop)
def bCx (d:Nat) (g:Goroutine):Prop :=
 d=0∧g.status=.running∧∃ g',(∀ w,cR L.tWg Wg w→stepG P true g w=.go g' w #[mk (.acquire (stA Wg))])∧Dl P true (fun _=>True) noE (fun d g=>d=0∧K g) 0 g'
def bKj (d:Nat) (g:Goroutine):Prop :=
 g.status=.running∧∀ w,w.heap[Wg]? = some (wgBlock L.tWg 0 0)→∃ g',stepG P true g w=.go g' w #[rd (stA Wg)]∧Dl P true (cR L.tWg Wg) (dI Wg) (bCx P L Wg K) d g'
def aMx (d:Nat) (g:Goroutine):Prop :=
 g.status=.running∧g.offers=none∧(∀ w st,w.heap[Wg]? = some (wgBlock L.tWg st 0)→stepG P true g w=.go { g with status:=.blocked } w #[]) ∧
  ∀ w,w.heap[Wg]? = some (wgBlock L.tWg 0 1)→∃ g',stepG P true g w=.go g' (w.setCell (smA Wg) (.int .u32 0)) (semEvents (smA Wg))∧Dl P true (cR L.tWg Wg) (dI Wg) (bKj P L Wg K) d g'
def aPo (An:Goroutine→Prop) (vs:Nat) (d:Nat) (g:Goroutine):Prop :=
 g.status=.running∧∀ (w:World) (v:Nat),v<2147483648→w.heap[Wg]? = some (wgBlock L.tWg ((v:Int) * KK) 0) →
  (v=vs→∃ g',stepG P true g w=.go g' (w.setCell (stA Wg) (.int .u64 ((v:Int) * KK+1))) #[rd (stA Wg),wr (stA Wg)]∧Dl P true (cR L.tWg Wg) (dI Wg) (aMx P L Wg K) d g') ∧
  (v≠vs→∃ g',stepG P true g w=.go g' w #[rd (stA Wg)]∧Dl P true (cR L.tWg Wg) (dI Wg) (fun d' g=>d'=d∧An g) d g')
def vK (An:Goroutine→Prop) (d:Nat) (g:Goroutine):Prop :=
 g.status=.running∧∀ (w:World) (v:Nat),v<2147483648→w.heap[Wg]? = some (wgBlock L.tWg ((v:Int) * KK) 0) →
  ∃ g',stepG P true g w=.go g' w #[rd (stA Wg)]∧(v=0→Dl P true (cR L.tWg Wg) (dI Wg) (bCx P L Wg K) d g')∧(v≠0→Dl P true (cR L.tWg Wg) (dI Wg) (fun d' g=>d'=d∧aPo P L Wg K An v d' g) d g')
def zP (c:Frame) (cs:List Frame) (g:Goroutine):Prop :=
 ∃ T:Array Value,g=G ((base L.wait).at ⟨T,[]⟩ [.code (L7 L),.inLoop (L7 L),.inBlock 0]) (c::cs)∧T.size=84∧T[0]? = some (.pointer (some ⟨Wg,0,none⟩))
end
end Go.Am
end
section
open List renaming map_map→ζ,mapM_map→ξ
namespace Go.Am
open Go.Conc
open Go.ConcN (CT Apart Ok0 OkW PermW)
open Go.ConcR (stA smA)
structure Pl where
 C:Nat
 wd:Nat
 n:Nat
 ety:TypeId
 val:Nat→Nat→Value
 pos:0<wd
 tot:Nat
 le:n * wd≤tot
def Pl.cell (p:Pl) (i r:Nat):Addr:=⟨p.C,i * p.wd+r,none⟩
def mQ:Loc→Option Nat
 | .cell a=>some a.block
 | .obj r=>some r
 | _=>none
section
variable (p:Pl) (m j:Nat) (V:Nat→World)
def qS (k:Nat) (l:Loc):Prop:=m≤k∧k<m+j∧((∃ b,mQ l=some b∧Unf (V k) b)∨∃ r,r<p.wd∧l=.cell (p.cell (k - m) r))
def RdF (k:Nat) (l:Loc):Prop:=m≤k∧k<m+j∧∃ (a:Addr) (c:Array Value) (t:TypeId),l=.cell a∧(V k).heap[a.block]? = some (.cells c t (0,c.size))∧a.off<c.size
end
def fX (m j k:Nat):Prop:=k=0∨(m≤k∧k<m+j)
theorem sM {p:Pl} {m j:Nat} {V:Nat→World} {w:World} {S:Nat→Prop} (hv:Vws (fX m j) V w) (hm:1≤m) (hC:∀ k,fX m j k→(V k).heap[p.C]? = some hole) (hS:∀ k,fX m j k→∀ b,S b→(V k).heap[b]? = some hole) (hCS:¬ S p.C) :
  Apart (dC S) (qS p m j V) (RdF m j V) where
 own k k' l h h':=by
  obtain ⟨a1,a2,h⟩:=h
  obtain ⟨b1,b2,h'⟩:=h'
  by_cases hne:k=k'
  ·exact hne
  rcases h with ⟨b,e,hu⟩ | ⟨r,hr,e⟩ <;> rcases h' with ⟨b',e',hu'⟩ | ⟨r',hr',e'⟩
  ·rw [e] at e'; obtain rfl:=Option.some.inj e'
   exact absurd hu' (jP (hv.dis k k' (.inr ⟨a1,a2⟩) (.inr ⟨b1,b2⟩) hne b hu))
  ·subst e'; simp only [mQ,Option.some.injEq,Pl.cell] at e; subst e
   exact absurd hu (jP (hC k (.inr ⟨a1,a2⟩)))
  ·subst e; simp only [mQ,Option.some.injEq,Pl.cell] at e'; subst e'
   exact absurd hu' (jP (hC k' (.inr ⟨b1,b2⟩)))
  ·subst e
   simp only [Pl.cell,Loc.cell.injEq,Addr.mk.injEq,and_true,true_and] at e'
   have h1:(r+p.wd * (k - m)) / p.wd=k - m:=by rw [Nat.add_mul_div_left _ _ (by omega),Nat.div_eq_of_lt hr]; omega
   have h2:(r'+p.wd * (k' - m)) / p.wd=k' - m:=by rw [Nat.add_mul_div_left _ _ (by omega),Nat.div_eq_of_lt hr']; omega
   have h3:r+p.wd * (k - m)=r'+p.wd * (k' - m):=by rw [Nat.mul_comm,Nat.mul_comm p.wd]; omega
   rw [h3,h2] at h1; omega
 ownRd k k' l h h':=by
  obtain ⟨a1,a2,h⟩:=h
  obtain ⟨b1,b2,a,c,t,rfl,hw,hlt⟩:=h'
  rcases h with ⟨b,e,hu⟩ | ⟨r,hr,e⟩
  ·simp only [mQ,Option.some.injEq] at e; subst e
   by_cases hne:k=k'
   ·subst hne; exact oU.not_unf ⟨c,t,hw⟩ hu
   ·have:=hv.dis k k' (.inr ⟨a1,a2⟩) (.inr ⟨b1,b2⟩) hne _ hu
    rw [hw] at this; injection this with this; injection this with e1 _ _; subst e1; simp at hlt
  ·injection e with e; subst e
   rw [show (p.cell (k - m) r).block=p.C from rfl,hC k' (.inr ⟨b1,b2⟩)] at hw
   injection hw with hw; injection hw with e1 _ _; subst e1; simp at hlt
 ownSh k l h hs:=by
  obtain ⟨a1,a2,h⟩:=h
  cases l with
  | cell a =>
   rcases h with ⟨b,e,hu⟩ | ⟨r,hr,e⟩
   ·simp only [mQ,Option.some.injEq] at e; subst e
    exact jP (hS k (.inr ⟨a1,a2⟩) _ hs) hu
   ·injection e with e; subst e; exact hCS hs
  | _=>exact hs
 rdSh k l h hs:=by
  obtain ⟨b1,b2,a,c,t,rfl,hw,hlt⟩:=h
  rw [hS k (.inr ⟨b1,b2⟩) _ hs] at hw
  injection hw with hw; injection hw with e1 _ _; subst e1; simp at hlt
/-! ### the trace -/
def tZ (t:Trace) (l:Loc):Prop:=∀ i a,touchAt t i=some a→a.loc≠l
theorem aAo {x:MemAct} {B:Nat} {a:Touch} (h:x.low B) (ha:x.touch? = some a):a.loc.low B:=by
 cases x with
 | access e=>simp only [MemAct.touch?,Option.some.injEq] at ha; subst ha; exact h
 | mark mk=>cases mk <;> simp [MemAct.touch?] at ha <;> subst ha <;> exact h
 | _=>simp [MemAct.touch?] at ha
theorem qW {t:Trace} {B:Nat} (h:∀ op∈t,op.act.low B) {l:Loc} {b:Nat} (hl:mQ l=some b) (hb:B≤b):tZ t l:=by
 intro i a ha e
 obtain ⟨op,hop,hoa⟩:=touch_of ha
 have:=aAo (h op (Array.mem_of_getElem? hop)) hoa
 rw [e] at this
 cases l <;> simp [mQ] at hl <;> subst hl <;> simp only [Loc.low] at this <;> omega
theorem CT.grow {Sh:Loc→Prop} {Own Own' Rd Rd':Nat→Loc→Prop} {t:Trace} {j:Nat} (h:CT Sh Own Rd t j) (ho:∀ k l,1≤k→k≤j→Own k l→Own' k l) (hr:∀ k l,1≤k→k≤j→Rd k l→Rd' k l)
  (hf:∀ k l,1≤k→k≤j→Own' k l→Own k l∨tZ t l) (hg:∀ k l,1≤k→k≤j→Rd' k l→Rd k l∨tZ t l):CT Sh Own' Rd' t j where
 quiet:=h.quiet
 own k h1 h2 l hl:=by
  rcases hf k l h1 h2 hl with h3 | h3
  ·exact h.own k h1 h2 l h3
  ·exact fun i a ha e=>(h3 i a ha e).elim
 rd k h1 h2 l hl:=by
  rcases hg k l h1 h2 hl with h3 | h3
  ·exact h.rd k h1 h2 l h3
  ·exact fun i a ha e _=>(h3 i a ha e).elim
 free l hs hn:=h.free l hs fun k h1 h2=>⟨fun x=>(hn k h1 h2).1 (ho k l h1 h2 x),fun x=>(hn k h1 h2).2 (hr k l h1 h2 x)⟩
 mine l hs hn:=h.mine l hs fun k h1 h2 x=>hn k h1 h2 (ho k l h1 h2 x)
 nr:=h.nr
 gs:=h.gs
theorem yO {p:Pl} {m j N:Nat} {V V':Nat→World} {t:Trace} {S:Nat→Prop} {B:Nat} (h:CT (dC S) (qS p m j V) (RdF m j V) t N) (hB:∀ op∈t,op.act.low B) (hsz:∀ k,m≤k→k<m+j→(V k).heap.size=B) (hO:∀ k,m≤k→k<m+j→dJ (V k) (V' k)) :
  CT (dC S) (qS p m j V') (RdF m j V') t N:=by
 refine CT.grow h (fun k l _ _ ⟨a1,a2,hl⟩=>⟨a1,a2,?_⟩) (fun k l _ _ ⟨a1,a2,a,c,ty,e,hw,hlt⟩=>⟨a1,a2,a,c,ty,e,?_,hlt⟩) (fun k l _ _ ⟨a1,a2,hl⟩=>?_) (fun k l _ _ ⟨a1,a2,a,c,ty,e,hw,hlt⟩=>?_)
 ·rcases hl with ⟨b,e,hu⟩ | hl
  ·exact .inl ⟨b,e,((hO k a1 a2).unf b (let ⟨_,ho,_⟩:=hu; bD ho)).2 hu⟩
  ·exact .inr hl
 ·exact ((hO k a1 a2).whole _ c ty (bD hw)).2 hw
 ·rcases hl with ⟨b,e,hu⟩ | hl
  ·rcases Nat.lt_or_ge b B with hlt | hge
   ·exact .inl ⟨a1,a2,.inl ⟨b,e,((hO k a1 a2).unf b (by rw [hsz k a1 a2]; exact hlt)).1 hu⟩⟩
   ·exact .inr (qW hB e hge)
  ·exact .inl ⟨a1,a2,.inr hl⟩
 ·rcases Nat.lt_or_ge a.block B with hlt' | hge
  ·exact .inl ⟨a1,a2,a,c,ty,e,((hO k a1 a2).whole _ c ty (by rw [hsz k a1 a2]; exact hlt')).1 hw,hlt⟩
  ·exact .inr (qW hB (by rw [e]; rfl) hge)
theorem bFz {p:Pl} {m j k:Nat} {V:Nat→World} {S:Nat→Prop} (hk:m≤k) (hkj:k<m+j) {e:Event} (h:EvV (V k) e) (fn:FuncId) (pos:String):OkW (dC S) (qS p m j V) (RdF m j V) k { g:=k,fn,pos,act:=.ofEvent e }:=by
 refine ⟨rfl,fun x hx=>?_⟩
 obtain ⟨loc,wr,sy⟩:=e
 rcases h with ⟨a,c,t,f,h1,h2,h3,h4,h5⟩ | ⟨r,o,h1,h2,h3,h4,h5⟩ | h
 ·simp only at h1 h2 h3 h5; subst h1; subst h2
  simp [MemAct.ofEvent,MemAct.touch?] at hx; subst hx
  by_cases hf:f=(0,c.size)
  ·subst hf
   refine .inr (.inr ⟨⟨hk,hkj,a,c,t,rfl,h3,h4⟩,?_⟩)
   cases wr with
   | false=>rfl
   | true=>exact absurd rfl (h5 rfl)
  ·refine .inr (.inl ⟨hk,hkj,.inl ⟨a.block,rfl,_,h3,fun c2 t2 e=>?_⟩⟩)
   injection e with e1 e2 e3; subst e1; exact hf e3
 ·simp only at h1 h2 h3; subst h1; subst h2
  simp [MemAct.ofEvent,MemAct.touch?] at hx; subst hx
  exact .inr (.inl ⟨hk,hkj,.inl ⟨r,rfl,o,h3,fun c t=>h4 c t _⟩⟩)
 ·injection h with e1 e2 e3; subst e1; subst e2; subst e3
  simp [MemAct.ofEvent,MemAct.touch?] at hx
theorem bGa {p:Pl} {m j N:Nat} {V:Nat→World} {w:World} {S:Nat→Prop} (hv:Vws (fX m j) V w) (hm:1≤m) (hC:(V 0).heap[p.C]? = some hole) (hS:∀ b,S b→(V 0).heap[b]? = some hole) {e:Event} (h:EvV (V 0) e) (fn:FuncId) (pos:String) :
  Ok0 (dC S) (qS p m j V) (RdF m j V) N { g:=0,fn,pos,act:=.ofEvent e }:=by
 refine ⟨rfl,fun x hx=>?_⟩
 obtain ⟨loc,wr,sy⟩:=e
 have key:∀ k b,m≤k→k<m+j→∀ o,(V 0).heap[b]? = some o→o≠hole→¬ Unf (V k) b:=fun k b h1 h2 o ho hne hu=>by
  have:=hv.dis k 0 (.inr ⟨h1,h2⟩) (.inl rfl) (by omega) b hu
  rw [ho] at this; exact hne (Option.some.inj this)
 rcases h with ⟨a,c,t,f,h1,h2,h3,h4,h5⟩ | ⟨r,o,h1,h2,h3,h4,h5⟩ | h
 ·simp only at h1 h2 h3 h5; subst h1; subst h2
  simp [MemAct.ofEvent,MemAct.touch?] at hx; subst hx
  have hne:Obj.cells c t f≠hole:=by intro e; injection e with e1 _ _; subst e1; simp at h4
  refine .inr ⟨fun hs=>?_,fun k _ _ ⟨a1,a2,ho⟩=>?_,fun hw k _ _ ⟨a1,a2,a',c',t',e,hw',hlt⟩=>?_⟩
  ·rw [hS a.block hs] at h3; exact hne (Option.some.inj h3).symm
  ·rcases ho with ⟨b,e,hu⟩ | ⟨r,hr,e⟩
   ·simp only [mQ,Option.some.injEq] at e; subst e
    exact key k _ a1 a2 _ h3 hne hu
   ·injection e with e; subst e
    rw [show (p.cell (k - m) r).block=p.C from rfl,hC] at h3; exact hne (Option.some.inj h3).symm
  ·injection e with e; subst e
   have hu:Unf (V 0) a.block:=⟨_,h3,fun c2 t2 e=>by injection e with e1 e2 e3; subst e1; exact h5 hw e3⟩
   have:=hv.dis 0 k (.inl rfl) (.inr ⟨a1,a2⟩) (by omega) _ hu
   rw [hw'] at this; injection this with this; injection this with e1 _ _; subst e1; simp at hlt
 ·simp only at h1 h2 h3; subst h1; subst h2
  simp [MemAct.ofEvent,MemAct.touch?] at hx; subst hx
  have hne:o≠hole:=fun e=>h4 _ _ _ e
  refine .inr ⟨fun hs=>hs.elim,fun k _ _ ⟨a1,a2,ho⟩=>?_,fun hw k _ _ ⟨a1,a2,a',c',t',e,_⟩=>by cases e⟩
  rcases ho with ⟨b,e,hu⟩ | ⟨r',hr,e⟩
  ·simp only [mQ,Option.some.injEq] at e; subst e
   exact key k _ a1 a2 _ h3 hne hu
  ·cases e
 ·injection h with e1 e2 e3; subst e1; subst e2; subst e3
  simp [MemAct.ofEvent,MemAct.touch?] at hx
theorem aOl {v:World} {B:Nat} (hB:v.heap.size≤B) {e:Event} (h:EvV v e):(MemAct.ofEvent e).low B:=by
 exact (mV (S:=fun _=>False) (fun _ x=>x.elim) hB h).2.2.2
end Go.Am
end
section
open List renaming map_map→ζ,mapM_map→ξ
namespace Go.Am
open Go.Conc Go.Conc.Lib
open Go.ConcN (CT Apart Ok0 OkW PermW RelBy CTag phi Mode WD Vc Ssum sumTo upd upd_same upd_ne)
open Go.ConcR (KK wgBlock stA smA rd wr mk)
section
variable (P:Program) (L:WgLink) (Wg:Nat) (p:Pl)
def aTs (w:World):Prop:=∃ (cs:Array Value) (f:Nat × Nat),w.heap[p.C]? = some (.cells cs p.ety f)∧cs.size=p.tot∧(cs.size≠0→f=(0,0))
structure bQe (i:Nat) (w w':World):Prop where
 tape:w'.tape=w.tape
 os:w'.os=w.os
 output:w'.output=w.output
 size:w'.heap.size=w.heap.size
 block:∀ b,b≠p.C→w'.heap[b]? = w.heap[b]?
 pay:aTs p w'
 cells:∀ o,(o<i * p.wd∨(i+1) * p.wd≤o)→w'.cell? ⟨p.C,o,none⟩=w.cell? ⟨p.C,o,none⟩
 new:∀ r,r<p.wd→w'.cell? (p.cell i r)=some (p.val i r)
def bKi (i:Nat) (d:Nat) (g:Goroutine):Prop :=
 d=0∧g.status=.running∧∀ w,aTs p w→∃ g' w' es,stepG P false g w=.go g' w' es∧bQe p i w w'∧(∀ e∈es,∃ r,r<p.wd∧e=⟨.cell (p.cell i r),true,false⟩)∧Dl P false (cR L.tWg Wg) noE (uC P L Wg) 0 g'
abbrev GTw (i:Nat):=GT P false (fun _=>True) noE (fun d g _=>bKi P L Wg p i d g)
inductive WS (i:Nat):Nat→Tr→Nat→Goroutine→World→Prop
 | work {tr:Tr} {d:Nat} {g:Goroutine} {v:World}:GTw P L Wg p i tr d g v→WS i 7 tr d g v
 | rel {n d:Nat} {g:Goroutine} {v:World}:DlN P false (cR L.tWg Wg) noE (uC P L Wg) n d g→WS i 6 (Tr.nat n) d g v
 | sub {n d:Nat} {g:Goroutine} {v:World}:DlN P false (cR L.tWg Wg) noE (fun d g=>d=1∧bKg P L Wg d g) n d g→WS i 5 (Tr.nat n) d g v
 | look {n d:Nat} {g:Goroutine} {v:World}:DlN P false (cR L.tWg Wg) noE (bCw P L Wg) n d g→WS i 4 (Tr.nat n) d g v
 | zero {n d:Nat} {g:Goroutine} {v:World}:DlN P false (cR L.tWg Wg) noE (bCv P L Wg) n d g→WS i 3 (Tr.nat n) d g v
 | sem {n d:Nat} {g:Goroutine} {v:World}:DlN P false (cR L.tWg Wg) noE (bKh P L Wg) n d g→WS i 2 (Tr.nat n) d g v
 | quit {n d:Nat} {g:Goroutine} {v:World}:QuitsD P n d g→WS i 1 (Tr.nat n) d g v
abbrev GTm (Stop:Nat→Goroutine→World→Prop):=GT P true (cR L.tWg Wg) (dI Wg) Stop
def aTw (i:Nat) (Next:Goroutine→World→Prop) (d:Nat) (g:Goroutine) (v:World):Prop :=
 d=0∧g.status=.running∧∀ v1,Env v v1→∃ g' child,(∀ w,Sim v1 w→cR L.tWg Wg w→stepG P true g w=.spawn g' child w #[])∧child.status=.running∧(∃ tr,GTw P L Wg p i tr 0 child (iL v1))∧Next g' (iL v1)
def aPi (i:Nat) (Next:Goroutine→World→Prop) (d:Nat) (g:Goroutine) (v:World):Prop :=
 d=1∧aCm P L Wg (fun d' g'=>∀ v1,Env v v1→OkV v1→∃ tr,GTm P L Wg (aTw P L Wg p i Next) tr d' g' v1) d g
variable (K An:Goroutine→Prop)
def aIr (d:Nat) (g:Goroutine) (_:World):Prop:=d=1∧vK P L Wg K An d g
def pT:Nat→Goroutine→World→Prop
 | 0,g,v=>∃ tr,GTm P L Wg (aIr P L Wg K An) tr 0 g v
 | r+1,g,v=>∃ tr,GTm P L Wg (aPi P L Wg p (p.n - (r+1)) (pT r)) tr 0 g v
inductive CS:CTag→Nat→Tr→Nat→Goroutine→World→Prop
 | a1 {r:Nat} {tr:Tr} {d:Nat} {g:Goroutine} {v:World}:r<p.n→GTm P L Wg (aPi P L Wg p (p.n - (r+1)) (pT P L Wg p K An r)) tr d g v→CS (.sp r 4) (p.n - (r+1)) tr d g v
 | go {r:Nat} {tr:Tr} {d:Nat} {g:Goroutine} {v:World}:r<p.n→GTm P L Wg (aTw P L Wg p (p.n - (r+1)) (pT P L Wg p K An r)) tr d g v→CS (.sp r 3) (p.n - (r+1)) tr d g v
 | w1 {tr:Tr} {d:Nat} {g:Goroutine} {v:World}:GTm P L Wg (aIr P L Wg K An) tr d g v→CS .w1 p.n tr d g v
 | w2 {vs n d:Nat} {g:Goroutine} {v:World}:DlN P true (cR L.tWg Wg) (dI Wg) (fun d g=>d=1∧aPo P L Wg K An vs d g) n d g→CS (.w2 vs) p.n (Tr.nat n) d g v
 | w3 {n d:Nat} {g:Goroutine} {v:World}:DlN P true (cR L.tWg Wg) (dI Wg) (aMx P L Wg K) n d g→CS .w3 p.n (Tr.nat (n+1)) d g v
 | blk {r:Tr} {d:Nat} {g:Goroutine} {v:World}:aMx P L Wg K d g→CS .blk p.n r d { g with status:=.blocked } v
 | w4 {n d:Nat} {g:Goroutine} {v:World}:DlN P true (cR L.tWg Wg) (dI Wg) (bKj P L Wg K) n d g→CS .w4 p.n (Tr.nat n) d g v
 | acq {n d:Nat} {g:Goroutine} {v:World}:DlN P true (cR L.tWg Wg) (dI Wg) (bCx P L Wg K) n d g→CS .acq p.n (Tr.nat n) d g v
 | ret {n d:Nat} {g:Goroutine} {v:World}:DlN P true (fun _=>True) noE (fun d g=>d=0∧K g) n d g→CS .ret p.n (Tr.nat n) d g v
end
section
variable {P:Program} {L:WgLink} {Wg:Nat} {p:Pl} {K An:Goroutine→Prop}
theorem GTw.env' {i:Nat} {tr:Tr} {d:Nat} {g:Goroutine} {v v1:World} (h:GTw P L Wg p i tr d g v) (he:Env v v1):GTw P L Wg p i tr d g v1:=GT.env (fun _ _ _ _ h _=>h) h he
theorem WS.env {i s d:Nat} {r:Tr} {g:Goroutine} {v v1:World} (h:WS P L Wg p i s r d g v) (he:Env v v1):WS P L Wg p i s r d g v1:=by
 cases h with
 | work h=>exact .work (h.env' he)
 | rel h=>exact .rel h
 | sub h=>exact .sub h
 | look h=>exact .look h
 | zero h=>exact .zero h
 | sem h=>exact .sem h
 | quit h=>exact .quit h
theorem aIk {i:Nat} {N:Goroutine→World→Prop}:aTv (aTw P L Wg p i N):=fun _ _ _ _ h he=>⟨h.1,h.2.1,fun v2 he2=>h.2.2 v2 (he.trans he2)⟩
theorem zD {K K':Nat→Goroutine→Prop} (hK:∀ d g,K d g→K' d g) {d:Nat} {g:Goroutine} (h:aCm P L Wg K d g):aCm P L Wg K' d g :=
 ⟨h.1,fun w v hv hw=>let ⟨g',h1,h2⟩:=h.2 w v hv hw; ⟨g',h1,h2.mono hK⟩⟩
theorem aAr {i:Nat} {N:Goroutine→World→Prop}:aTv (aPi P L Wg p i N):=fun _ _ _ _ h he=>⟨h.1,zD (fun _ _ hk v2 he2 ho=>hk v2 (he.trans he2) ho) h.2⟩
theorem sW:aTv (aIr P L Wg K An):=fun _ _ _ _ h _=>h
theorem CS.env {tag:CTag} {j d:Nat} {r:Tr} {g:Goroutine} {v v1:World} (h:CS P L Wg p K An tag j r d g v) (he:Env v v1):CS P L Wg p K An tag j r d g v1:=by
 cases h with
 | a1 hr h=>exact .a1 hr (h.env aAr he)
 | go hr h=>exact .go hr (h.env aIk he)
 | w1 h=>exact .w1 (h.env sW he)
 | w2 h=>exact .w2 h
 | w3 h=>exact .w3 h
 | blk h=>exact .blk h
 | w4 h=>exact .w4 h
 | acq h=>exact .acq h
 | ret h=>exact .ret h
theorem DlN.run {main:Bool} {I:World→Prop} {Rm:Event→Prop} {K:Nat→Goroutine→Prop} (hK:∀ d g,K d g→g.status=.running) {n d:Nat} {g:Goroutine} (h:DlN P main I Rm K n d g):g.status=.running:=by
 rcases h.cases with h | ⟨_,_,h,_⟩
 ·exact hK _ _ h
 ·exact h
theorem GT.run {main:Bool} {I:World→Prop} {Rm:Event→Prop} {Stop:Nat→Goroutine→World→Prop} (hK:∀ d g v,Stop d g v→g.status=.running) {tr:Tr} {d:Nat} {g:Goroutine} {v:World} (h:GT P main I Rm Stop tr d g v):g.status=.running:=by
 cases tr with
 | leaf=>exact hK _ _ _ h
 | node f=>exact h.1
theorem WS.status {i s d:Nat} {r:Tr} {g:Goroutine} {v:World} (h:WS P L Wg p i s r d g v):(g.status=.running)∨(g.status=.finished∧s=1):=by
 cases h with
 | work h=>exact .inl (h.run fun _ _ _ h=>h.2.1)
 | rel h=>exact .inl (h.run fun _ _ h=>h.1)
 | sub h=>exact .inl (h.run fun _ _ h=>h.2.1)
 | look h=>exact .inl (h.run fun _ _ h=>h.2.1)
 | zero h=>exact .inl (h.run fun _ _ h=>h.2.1)
 | sem h=>exact .inl (h.run fun _ _ h=>h.2.1)
 | quit h=>exact h.status.elim .inl fun x=>.inr ⟨x,rfl⟩
theorem WS.woken {i s d:Nat} {r:Tr} {g:Goroutine} {v:World} (h:WS P L Wg p i s r d g v) (a a':Goroutine) (w':World):woken P a a' w' g=g:=by
 unfold Go.Conc.woken
 split
 ·exact again_running _ (h.status.elim .inl fun x=>.inr x.1)
 ·rfl
theorem CS.status (hK:∀ g,K g→g.status=.running) {tag:CTag} {j d:Nat} {r:Tr} {g:Goroutine} {v:World} (h:CS P L Wg p K An tag j r d g v):(g.status=.running∧tag≠.blk)∨(g.status=.blocked∧tag=.blk):=by
 cases h with
 | a1 hr h=>exact .inl ⟨h.run fun _ _ _ h=>h.2.1,by simp⟩
 | go hr h=>exact .inl ⟨h.run fun _ _ _ h=>h.2.1,by simp⟩
 | w1 h=>exact .inl ⟨h.run fun _ _ _ h=>h.2.1,by simp⟩
 | w2 h=>exact .inl ⟨h.run fun _ _ h=>h.2.1,by simp⟩
 | w3 h=>exact .inl ⟨h.run fun _ _ h=>h.1,by simp⟩
 | blk h=>exact .inr ⟨rfl,rfl⟩
 | w4 h=>exact .inl ⟨h.run fun _ _ h=>h.1,by simp⟩
 | acq h=>exact .inl ⟨h.run fun _ _ h=>h.2.1,by simp⟩
 | ret h=>exact .inl ⟨h.run fun _ _ h=>hK _ h.2,by simp⟩
theorem CS.wokenBy (hK:∀ g,K g→g.status=.running) {tag:CTag} {j d:Nat} {r:Tr} {a:Goroutine} {v:World} (h:CS P L Wg p K An tag j r d a v) (g g':Goroutine) (w':World) :
  ∃ tag' r',CS P L Wg p K An tag' j r' d (woken P g g' w' a) v∧(tag'=tag∨(tag=.blk∧tag'=.w3))∧(mayWake P g=true→g'.status=.running→tag'≠.blk):=by
 unfold Go.Conc.woken
 split
 ·rcases h.status hK with ⟨hs,hne⟩ | ⟨_,rfl⟩
  ·exact ⟨tag,r,by rw [again_running _ (.inl hs)]; exact h,.inl rfl,fun _ _=>hne⟩
  ·cases h with
   | blk hb =>
    exact ⟨.w3,Tr.nat (0+1),by rw [Go.ConcR.again_blocked hb.1 hb.2.1]; exact .w3 (n:=0) hb,.inr ⟨rfl,rfl⟩,fun _ _=>by simp⟩
 ·rename_i hc
  exact ⟨tag,r,h,.inl rfl,fun h1 h2=>absurd (by simp [h1,h2]) hc⟩
end
end Go.Am
end
section
open List renaming map_map→ζ,mapM_map→ξ
namespace Go.Am
open Go.Conc Go.Conc.Lib
open Go.ConcN (CT Apart Ok0 OkW PermW RelBy CTag phi Mode WD Vc Ssum sumTo)
open Go.ConcR (KK wgBlock stA smA rd wr mk)
def ShW (S:Nat→Prop) (Wg b:Nat):Prop:=S b∨b=Wg
structure Com (P:Program) (L:WgLink) (Wg:Nat) (p:Pl) (S:Nat→Prop) (w0:World) (m j:Nat) (gs:Array Goroutine) (w:World) (t:Trace) (D:Nat→WD) (R:Nat→Tr) (V:Nat→World) (d0:Nat):Prop where
 mpos:1≤m
 size:gs.size=m+j
 wk:∀ i,i<j→∃ g,gs[m+i]? = some g∧WS P L Wg p i (D i).stage (R (m+i)) (D i).deaf g (V (m+i))
 old:∀ i,0<i→i<m→∃ g q,gs[i]? = some g∧R i=Tr.nat q∧QuitsD P q (Deaf t i) g
 above:∀ i,m+j≤i→Deaf t i=0
 ct:CT (dC (ShW S Wg)) (qS p m j V) (RdF m j V) t (m+j - 1)
 norel:NoRelease (stA Wg) t
 deaf0:Deaf t 0=d0
 deafW:∀ i,i<j→Deaf t (m+i)=(D i).deaf
 rel:∀ i,i<j→(D i).stage≤5→∃ r,RelBy (stA Wg) t (m+i) r
 has:∀ i,i<j→(D i).stage≤6→∀ r,r<p.wd→w.cell? (p.cell i r)=some (p.val i r)
 pay:aTs p w
 vws:Vws (fX m j) V w
 low:∀ k,fX m j k→∀ b,b≤Wg→oU (V k) b
 hC:∀ k,fX m j k→(V k).heap[p.C]? = some hole
 hS:∀ k,fX m j k→∀ b,ShW S Wg b→(V k).heap[b]? = some hole
 stay:∀ b,b<Wg→(b≠p.C∨p.tot=0)→w.heap[b]? = w0.heap[b]?
 like:w.tape=w0.tape∧w.os=w0.os∧w.output=w0.output
 kn:∀ i a,touchAt t i=some a→Knows t 0 i∨(dC (ShW S Wg) a.loc∧a.kind=.atomic)∨((∃ g,t.g? i=some g∧m≤g)∧a.kind≠.atomic)
 mem:∀ i a,touchAt t i=some a→a.loc.isMemory=true
 over:∀ i g,t.g? i=some g→g≠0→g<m→t.counts i→∃ q,t.g? q=some 0∧HappensBefore t i q
 seen:∀ op∈t,op.act.low w.heap.size
structure Geo (Wg:Nat) (p:Pl) (S:Nat→Prop):Prop where
 C:p.C<Wg
 S:¬ S p.C
section
variable {P:Program} {L:WgLink} {Wg:Nat} {p:Pl} {S:Nat→Prop} {w0:World} {m j:Nat} {gs:Array Goroutine} {w w':World} {t u:Trace} {D:Nat→WD} {R:Nat→Tr} {V V':Nat→World} {d0:Nat}
theorem Com.apart (h:Com P L Wg p S w0 m j gs w t D R V d0) (G:Geo Wg p S):Apart (dC (ShW S Wg)) (qS p m j V) (RdF m j V) :=
 sM h.vws h.mpos h.hC h.hS fun hs=>hs.elim G.S fun e=>by have:=G.C; omega
theorem aDy (h:∀ i a,touchAt t i=some a→Knows t 0 i∨(dC (ShW S Wg) a.loc∧a.kind=.atomic)∨((∃ g,t.g? i=some g∧m≤g)∧a.kind≠.atomic))
  (hu:∀ op∈u,∀ a,op.act.touch? = some a→op.g=0∨(dC (ShW S Wg) a.loc∧a.kind=.atomic)∨(m≤op.g∧a.kind≠.atomic)) :
  ∀ i a,touchAt (t++u) i=some a→Knows (t++u) 0 i∨(dC (ShW S Wg) a.loc∧a.kind=.atomic)∨((∃ g,(t++u).g? i=some g∧m≤g)∧a.kind≠.atomic):=by
 intro i a ha
 obtain ⟨x,hx,hxa⟩:=touch_of ha
 rcases getElem?_append_cases hx with ⟨hi,hx'⟩ | ⟨_,hxu⟩
 ·rcases h i a (by rw [touchAt_of hx']; exact hxa) with h1 | h1 | ⟨⟨g,h1,h2⟩,h3⟩
  ·exact .inl (h1.app u)
  ·exact .inr (.inl h1)
  ·exact .inr (.inr ⟨⟨g,by simpa [Trace.g?,getElem?_append_old hi] using h1,h2⟩,h3⟩)
 ·rcases hu x hxu a hxa with h1 | h1 | ⟨h1,h2⟩
  ·have:=knows_own hx
   rw [h1] at this
   exact .inl this
  ·exact .inr (.inl h1)
  ·exact .inr (.inr ⟨⟨x.g,by simp [Trace.g?,hx],h1⟩,h2⟩)
theorem vW (h:∀ i a,touchAt t i=some a→a.loc.isMemory=true) (hu:∀ op∈u,∀ a,op.act.touch? = some a→a.loc.isMemory=true):∀ i a,touchAt (t++u) i=some a→a.loc.isMemory=true:=by
 intro i a ha
 obtain ⟨x,hx,hxa⟩:=touch_of ha
 rcases getElem?_append_cases hx with ⟨_,hx'⟩ | ⟨_,hxu⟩
 ·exact h i a (by rw [touchAt_of hx']; exact hxa)
 ·exact hu x hxu a hxa
theorem rD (h:∀ i g,t.g? i=some g→g≠0→g<m→t.counts i→∃ q,t.g? q=some 0∧HappensBefore t i q) (hu:∀ op∈u,op.g=0∨m≤op.g∨op.act.touch? = none) :
  ∀ i g,(t++u).g? i=some g→g≠0→g<m→(t++u).counts i→∃ q,(t++u).g? q=some 0∧HappensBefore (t++u) i q:=by
 intro i g hg hne hlt hc
 obtain ⟨x,hx,_⟩:=hc
 obtain ⟨op,hop,hox⟩:=touch_of hx
 rcases getElem?_append_cases hop with ⟨hi,hop'⟩ | ⟨_,hopu⟩
 ·obtain ⟨q,hq,hb⟩:=h i g (by simpa [Trace.g?,getElem?_append_old hi] using hg) hne hlt ((counts_old hi).1 ⟨x,hx,‹_›⟩)
  have hql:q<t.size:=by
   unfold Trace.g? at hq
   obtain ⟨z,hz,_⟩:=Option.map_eq_some_iff.1 hq
   exact lt_size_of_getElem? hz
  exact ⟨q,by simpa [Trace.g?,getElem?_append_old hql] using hq,hb_app u hb⟩
 ·have hgg:op.g=g:=by simpa [Trace.g?,hop] using hg
  rcases hu op hopu with h0 | h0 | h0
  ·exact absurd (hgg.symm.trans h0) hne
  ·omega
  ·rw [h0] at hox; cases hox
theorem vY {B B':Nat} (h:∀ op∈t,op.act.low B) (hB:B≤B') (hu:∀ op∈u,op.act.low B'):∀ op∈t++u,op.act.low B':=fun op hop=>(Array.mem_append.1 hop).elim (fun x=>MemAct.low_mono hB (h op x)) (hu op)
structure aCl (p:Pl) (Wg:Nat) (w w':World):Prop where
 size:w.heap.size≤w'.heap.size
 stay:∀ b,b<Wg→(b≠p.C∨p.tot=0)→w'.heap[b]? = w.heap[b]?
 like:w'.tape=w.tape∧w'.os=w.os∧w'.output=w.output
 pay:aTs p w'
theorem Com.stepW (h:Com P L Wg p S w0 m j gs w t D R V d0) (G:Geo Wg p S) {i:Nat} (hi:i<j) {g g':Goroutine} {es:Array Event} {s' dd':Nat} {r':Tr}
  (hg:gs[m+i]? = some g) (hK:aCl p Wg w w') (hV:Vws (fX m j) V' w') (hE:∀ x,x≠m+i→Env (V x) (V' x)) (hO:dJ (V (m+i)) (V' (m+i)))
  (hs':WS P L Wg p i s' r' dd' g' (V' (m+i))) (hdd:deafBehind (D i).deaf es=dd')
  (hok:∀ e∈es,∀ fn pos,OkW (dC (ShW S Wg)) (qS p m j V') (RdF m j V') (m+i) { g:=m+i,fn,pos,act:=.ofEvent e })
  (hat:∀ e∈es,∀ x,(MemAct.ofEvent e).touch? = some x→x.loc.isMemory=true∧((dC (ShW S Wg) x.loc∧x.kind=.atomic)∨x.kind≠.atomic))
  (hnr:∀ e∈es,e.loc≠.mark (.release (stA Wg))) (hlow:∀ e∈es,(MemAct.ofEvent e).low w'.heap.size)
  (hrel:s'≤5→∃ r,RelBy (stA Wg) (t++MemOp.ofEvents (m+i) g.frame.fn g.frame.place es) (m+i) r)
  (hhas:s'≤6→∀ r,r<p.wd→w'.cell? (p.cell i r)=some (p.val i r)) (hho:∀ i',i'<j→i'≠i→∀ r,r<p.wd→w'.cell? (p.cell i' r)=w.cell? (p.cell i' r)) :
  Com P L Wg p S w0 m j ((gs.map (woken P g g' w')).setIfInBounds (m+i) g') w' (t++MemOp.ofEvents (m+i) g.frame.fn g.frame.place es) (ConcN.upd D i ⟨s',0,dd'⟩) (ConcN.upd R (m+i) r') V' d0:=by
 have hm:=h.mpos
 have hact:fX m j (m+i):=.inr ⟨by omega,by omega⟩
 have hold:∀ x,dJ (V x) (V' x):=fun x=>by
  by_cases e:x=m+i
  ·subst e; exact hO
  ·exact dJ.of_env (hE x e)
 have hops:∀ op∈MemOp.ofEvents (m+i) g.frame.fn g.frame.place es,op.g=m+i:=fun op hop=>by obtain ⟨e,_,rfl⟩:=Conc.mem_ofEvents hop; rfl
 have hA:Apart (dC (ShW S Wg)) (qS p m j V') (RdF m j V'):=sM hV hm (fun k hk=>(hold k).hole (h.hC k hk)) (fun k hk b hb=>(hold k).hole (h.hS k hk b hb)) fun hs=>hs.elim G.S fun e=>by have:=G.C; omega
 refine ⟨hm,by simp [h.size],fun i' hi'=>?_,fun i' h1 h2=>?_,fun i' hi'=>?_,?_,?_,?_,fun i' hi'=>?_,fun i' hi' hs=>?_,fun i' hi' hs r hr=>?_,hK.pay,hV,fun k hk b hb=>(hold k).whole' (h.low k hk b hb),fun k hk=>(hold k).hole (h.hC k hk),fun k hk b hb=>(hold k).hole (h.hS k hk b hb),
  fun b hb hne=>(hK.stay b hb hne).trans (h.stay b hb hne),⟨hK.like.1.trans h.like.1,hK.like.2.1.trans h.like.2.1,hK.like.2.2.trans h.like.2.2⟩,?_,?_,?_,vY h.seen hK.size fun op hop=>by obtain ⟨e,he,rfl⟩:=Conc.mem_ofEvents hop; exact hlow e he⟩
 ·by_cases e:i'=i
  ·subst e
   refine ⟨g',?_,by rw [ConcN.upd_same,ConcN.upd_same]; exact hs'⟩
   have:m+i'<gs.size:=(Array.getElem?_eq_some_iff.1 hg).1
   rw [Array.getElem?_setIfInBounds_self_of_lt (by simpa using this)]
  ·obtain ⟨g1,hg1,hs1⟩:=h.wk i' hi'
   refine ⟨g1,?_,by rw [ConcN.upd_ne D _ e,ConcN.upd_ne R _ (by omega)]; exact hs1.env (hE _ (by omega))⟩
   rw [Array.getElem?_setIfInBounds_ne (by omega),Array.getElem?_map,hg1]
   simp [hs1.woken]
 ·obtain ⟨g1,q,hg1,hr,hq⟩:=h.old i' h1 h2
  refine ⟨g1,q,?_,by rw [ConcN.upd_ne R _ (by omega)]; exact hr,by rw [Deaf_other t (by omega) _ hops]; exact hq⟩
  rw [Array.getElem?_setIfInBounds_ne (by omega),Array.getElem?_map,hg1]
  simp [woken_quitsD hq]
 ·rw [Deaf_other t (g':=m+i) (by omega) _ hops]; exact h.above i' hi'
 ·refine ConcN.CT.appW hA (yO h.ct h.seen (fun k h1 h2=>(h.vws.sim k (.inr ⟨h1,h2⟩)).size) fun k _ _=>hold k) (k:=m+i) (by omega) (by omega) fun op hop=>?_
  obtain ⟨e,he,rfl⟩:=Conc.mem_ofEvents hop
  exact hok e he _ _
 ·exact h.norel.app (ConcN.norel_of hnr)
 ·rw [Deaf_other t (g:=0) (g':=m+i) (by omega) _ hops]; exact h.deaf0
 ·by_cases e:i'=i
  ·subst e; rw [ConcN.upd_same,Deaf_own,h.deafW i' hi',hdd]
  ·rw [ConcN.upd_ne D _ e,Deaf_other t (g':=m+i) (by omega) _ hops,h.deafW i' hi']
 ·by_cases e:i'=i
  ·subst e; rw [ConcN.upd_same] at hs; exact hrel hs
  ·rw [ConcN.upd_ne D _ e] at hs
   obtain ⟨r,hr⟩:=h.rel i' hi' hs
   exact ⟨r,hr.appOther hops (by omega)⟩
 ·by_cases e:i'=i
  ·subst e; rw [ConcN.upd_same] at hs; exact hhas hs r hr
  ·rw [ConcN.upd_ne D _ e] at hs
   rw [hho i' hi' e r hr]; exact h.has i' hi' hs r hr
 ·refine aDy h.kn fun op hop a ha=>?_
  obtain ⟨e,he,rfl⟩:=Conc.mem_ofEvents hop
  rcases (hat e he a ha).2 with h1 | h1
  ·exact .inr (.inl h1)
  ·exact .inr (.inr ⟨by simp only; omega,h1⟩)
 ·refine vW h.mem fun op hop a ha=>?_
  obtain ⟨e,he,rfl⟩:=Conc.mem_ofEvents hop
  exact (hat e he a ha).1
 ·exact rD h.over fun op hop=>.inr (.inl (by rw [hops op hop]; omega))
theorem Com.step0 (h:Com P L Wg p S w0 m j gs w t D R V d0) (G:Geo Wg p S) {g g':Goroutine} {es:Array Event}
  (hg:gs[0]? = some g) (hK:aCl p Wg w w') (hV:Vws (fX m j) V' w') (hE:∀ x,x≠0→Env (V x) (V' x)) (hO:dJ (V 0) (V' 0))
  (hok:∀ e∈es,∀ fn pos,Ok0 (dC (ShW S Wg)) (qS p m j V') (RdF m j V') (m+j - 1) { g:=0,fn,pos,act:=.ofEvent e })
  (hat:∀ e∈es,∀ x,(MemAct.ofEvent e).touch? = some x→x.loc.isMemory=true)
  (hnr:∀ e∈es,e.loc≠.mark (.release (stA Wg))) (hlow:∀ e∈es,(MemAct.ofEvent e).low w'.heap.size)
  (hho:∀ i,i<j→∀ r,r<p.wd→w'.cell? (p.cell i r)=w.cell? (p.cell i r)) (r0:Tr) :
  Com P L Wg p S w0 m j ((gs.map (woken P g g' w')).setIfInBounds 0 g') w' (t++MemOp.ofEvents 0 g.frame.fn g.frame.place es) D (ConcN.upd R 0 r0) V' (deafBehind d0 es):=by
 have hm:=h.mpos
 have hold:∀ x,dJ (V x) (V' x):=fun x=>by
  by_cases e:x=0
  ·subst e; exact hO
  ·exact dJ.of_env (hE x e)
 have hops:∀ op∈MemOp.ofEvents 0 g.frame.fn g.frame.place es,op.g=0:=fun op hop=>by obtain ⟨e,_,rfl⟩:=Conc.mem_ofEvents hop; rfl
 have hA:Apart (dC (ShW S Wg)) (qS p m j V') (RdF m j V'):=sM hV hm (fun k hk=>(hold k).hole (h.hC k hk)) (fun k hk b hb=>(hold k).hole (h.hS k hk b hb)) fun hs=>hs.elim G.S fun e=>by have:=G.C; omega
 refine ⟨hm,by simp [h.size],fun i' hi'=>?_,fun i' h1 h2=>?_,fun i' hi'=>?_,?_,?_,?_,fun i' hi'=>?_,fun i' hi' hs=>?_,fun i' hi' hs r hr=>?_,hK.pay,hV,fun k hk b hb=>(hold k).whole' (h.low k hk b hb),fun k hk=>(hold k).hole (h.hC k hk),fun k hk b hb=>(hold k).hole (h.hS k hk b hb),
  fun b hb hne=>(hK.stay b hb hne).trans (h.stay b hb hne),⟨hK.like.1.trans h.like.1,hK.like.2.1.trans h.like.2.1,hK.like.2.2.trans h.like.2.2⟩,?_,?_,?_,vY h.seen hK.size fun op hop=>by obtain ⟨e,he,rfl⟩:=Conc.mem_ofEvents hop; exact hlow e he⟩
 ·obtain ⟨g1,hg1,hs1⟩:=h.wk i' hi'
  refine ⟨g1,?_,by rw [ConcN.upd_ne R _ (by omega)]; exact hs1.env (hE _ (by omega))⟩
  rw [Array.getElem?_setIfInBounds_ne (by omega),Array.getElem?_map,hg1]
  simp [hs1.woken]
 ·obtain ⟨g1,q,hg1,hr,hq⟩:=h.old i' h1 h2
  refine ⟨g1,q,?_,by rw [ConcN.upd_ne R _ (by omega)]; exact hr,by rw [Deaf_other t (by omega) _ hops]; exact hq⟩
  rw [Array.getElem?_setIfInBounds_ne (by omega),Array.getElem?_map,hg1]
  simp [woken_quitsD hq]
 ·rw [Deaf_other t (g':=0) (by omega) _ hops]; exact h.above i' hi'
 ·refine ConcN.CT.app0 hA (yO h.ct h.seen (fun k h1 h2=>(h.vws.sim k (.inr ⟨h1,h2⟩)).size) fun k _ _=>hold k) fun op hop=>?_
  obtain ⟨e,he,rfl⟩:=Conc.mem_ofEvents hop
  exact hok e he _ _
 ·exact h.norel.app (ConcN.norel_of hnr)
 ·rw [Deaf_own,h.deaf0]
 ·rw [Deaf_other t (g':=0) (by omega) _ hops,h.deafW i' hi']
 ·obtain ⟨r,hr⟩:=h.rel i' hi' hs
  exact ⟨r,hr.appOther hops (by omega)⟩
 ·rw [hho i' hi' r hr]; exact h.has i' hi' hs r hr
 ·exact aDy h.kn fun op hop a ha=>.inl (hops op hop)
 ·refine vW h.mem fun op hop a ha=>?_
  obtain ⟨e,he,rfl⟩:=Conc.mem_ofEvents hop
  exact hat e he a ha
 ·exact rD h.over fun op hop=>.inl (hops op hop)
theorem Com.stepO (h:Com P L Wg p S w0 m j gs w t D R V d0) (G:Geo Wg p S) {i q:Nat} (h0:0<i) (him:i<m) {g g':Goroutine} {es:Array Event}
  (hg:gs[i]? = some g) (hm':∀ e∈es,Event.mute e=true) (hq':QuitsD P q (deafBehind (Deaf t i) es) g') :
  Com P L Wg p S w0 m j ((gs.map (woken P g g' w)).setIfInBounds i g') w (t++MemOp.ofEvents i g.frame.fn g.frame.place es) D (ConcN.upd R i (Tr.nat q)) V d0:=by
 have hm:=h.mpos
 have hlt:i<gs.size:=(Array.getElem?_eq_some_iff.1 hg).1
 have hops:∀ op∈MemOp.ofEvents i g.frame.fn g.frame.place es,op.g=i:=fun op hop=>by obtain ⟨e,_,rfl⟩:=Conc.mem_ofEvents hop; rfl
 have hnt:∀ op∈MemOp.ofEvents i g.frame.fn g.frame.place es,op.act.touch? = none:=fun op hop=>by obtain ⟨e,he,rfl⟩:=Conc.mem_ofEvents hop; exact touch_mute (hm' e he)
 refine ⟨hm,by simp [h.size],fun i' hi'=>?_,fun i' h1 h2=>?_,fun i' hi'=>?_,?_,?_,?_,fun i' hi'=>?_,fun i' hi' hs=>?_,h.has,h.pay,h.vws,h.low,h.hC,h.hS,h.stay,h.like,aDy h.kn fun op hop a ha=>?_,vW h.mem fun op hop a ha=>?_,rD h.over fun op hop=>.inr (.inr (hnt op hop)),vY h.seen (Nat.le_refl _) fun op hop=>?_⟩
 ·obtain ⟨g1,hg1,hs1⟩:=h.wk i' hi'
  refine ⟨g1,?_,by rw [ConcN.upd_ne R _ (by omega)]; exact hs1⟩
  rw [Array.getElem?_setIfInBounds_ne (by omega),Array.getElem?_map,hg1]
  simp [hs1.woken]
 ·by_cases e:i'=i
  ·subst e
   refine ⟨g',q,by rw [Array.getElem?_setIfInBounds_self_of_lt (by simpa using hlt)],by rw [ConcN.upd_same],by rw [Deaf_own]; exact hq'⟩
  ·obtain ⟨g1,q1,hg1,hr,hq⟩:=h.old i' h1 h2
   refine ⟨g1,q1,?_,by rw [ConcN.upd_ne R _ e]; exact hr,by rw [Deaf_other t (by omega) _ hops]; exact hq⟩
   rw [Array.getElem?_setIfInBounds_ne (by omega),Array.getElem?_map,hg1]
   simp [woken_quitsD hq]
 ·rw [Deaf_other t (g':=i) (by omega) _ hops]; exact h.above i' hi'
 ·refine ConcN.CT.appW (h.apart G) h.ct (k:=i) (by omega) (by omega) fun op hop=>⟨hops op hop,fun x hx=>by rw [hnt op hop] at hx; cases hx⟩
 ·refine h.norel.app fun op hop e=>?_
  obtain ⟨x,hx,rfl⟩:=Conc.mem_ofEvents hop
  have:=hm' x hx
  have e':=Go.ConcR.loc_of_ofEvent e
  obtain ⟨loc,wr,sy⟩:=x
  simp only at e'
  subst e'
  simp [Event.mute] at this
 ·rw [Deaf_other t (g:=0) (g':=i) (by omega) _ hops]; exact h.deaf0
 ·rw [Deaf_other t (g':=i) (by omega) _ hops,h.deafW i' hi']
 ·obtain ⟨r,hr⟩:=h.rel i' hi' hs
  exact ⟨r,hr.appOther hops (by omega)⟩
 ·rw [hnt op hop] at ha; cases ha
 ·rw [hnt op hop] at ha; cases ha
 ·obtain ⟨e,he,rfl⟩:=Conc.mem_ofEvents hop
  exact low_mute (hm' e he) _
theorem Com.at (h:Com P L Wg p S w0 m j gs w t D R V d0) (d:Nat):Com P L Wg p S w0 m j gs (w.at d) t D R (fun x=>gV (V x) (w.at d)) d0 where
 mpos:=h.mpos
 size:=h.size
 wk i hi:=let ⟨g,h1,h2⟩:=h.wk i hi; ⟨g,h1,h2.env (cD _ _)⟩
 old:=h.old
 above:=h.above
 ct:=yO h.ct h.seen (fun k h1 h2=>(h.vws.sim k (.inr ⟨h1,h2⟩)).size) fun k _ _=>dJ.of_env (cD _ _)
 norel:=h.norel
 deaf0:=h.deaf0
 deafW:=h.deafW
 rel:=h.rel
 has:=h.has
 pay:=h.pay
 vws:=h.vws.aside rfl rfl rfl rfl fun _ _ _ _ _ _=>rfl
 low k hk b hb:=(dJ.of_env (cD _ _)).whole' (h.low k hk b hb)
 hC k hk:=kA (h.hC k hk)
 hS k hk b hb:=kA (h.hS k hk b hb)
 stay:=h.stay
 like:=h.like
 kn:=h.kn
 mem:=h.mem
 over:=h.over
 seen:=h.seen
end
end Go.Am
end
section
open List renaming map_map→ζ,mapM_map→ξ
namespace Go.Am
open Go.Conc Go.Conc.Lib
open Go.ConcN (CT Apart Ok0 OkW PermW RelBy CTag phi WD Vc Ssum sumTo sumTo_upd OpenSt AllQuit isOpen isW3 isFin pend phi_mono phi_retag le_sumTo Vc_le Vc_upd others_uncounted bk_cell)
open Go.ConcR (KK wgBlock stA smA rd wr mk Bk bk_of_mute ofEvent_loc_mark ofEvent_cell ofEvent_mk)
/-! ### the measure -/
inductive LLt:List Tr→List Tr→Prop
 | head {x y:Tr} {l:List Tr}:qP x y→LLt (x::l) (y::l)
 | tail {x:Tr} {l l':List Tr}:LLt l l'→LLt (x::l) (x::l')
theorem aYm {x:Tr} (hx:Acc qP x):∀ l,Acc LLt l→Acc LLt (x::l):=by
 induction hx with
 | intro x _ ihx =>
  intro l hl
  induction hl with
  | intro l hl' ihl =>
   refine ⟨_,fun y hy=>?_⟩
   cases hy with
   | head h=>exact ihx _ h l ⟨_,hl'⟩
   | tail h=>exact ihl _ h
theorem aOq:∀ l:List Tr,Acc LLt l
 | []=>⟨_,fun y hy=>by cases hy⟩
 | x::l=>aYm (aFh x) l (aOq l)
theorem bGw {l:List Nat} {f f':Nat→Tr} {k:Nat} (hk:k∈l) (hn:l.Nodup) (h:qP (f' k) (f k)) (he:∀ x∈l,x≠k→f' x=f x):LLt (l.map f') (l.map f):=by
 induction l with
 | nil=>cases hk
 | cons x l ih =>
  have hn':=List.nodup_cons.1 hn
  by_cases e:x=k
  ·subst e
   have:l.map f'=l.map f:=List.map_congr_left fun y hy=>he y (by simp [hy]) fun e=>hn'.1 (e ▸ hy)
   rw [List.map_cons,List.map_cons,this]
   exact .head h
  ·rw [List.map_cons,List.map_cons,he x (by simp) e]
   exact .tail (ih (by simpa [Ne.symm e] using hk) hn'.2 fun y hy=>he y (by simp [hy]))
abbrev Mu:=Nat × (List Tr × Tr)
def MLt:Mu→Mu→Prop:=Prod.Lex (·<·) (Prod.Lex LLt qP)
theorem bMj:WellFounded MLt:=(Prod.lex ⟨(·<·),Nat.lt_wfRel.wf⟩ (Prod.lex ⟨LLt,⟨aOq⟩⟩ ⟨qP,⟨aFh⟩⟩)).wf
def iP (R:Nat→Tr) (N:Nat):List Tr:=(List.range' 1 (N - 1)).map R
theorem aFy {R R':Nat→Tr} {N k:Nat} (h1:1≤k) (h2:k<N) (h:qP (R' k) (R k)) (he:∀ x,x≠0→x≠k→R' x=R x):LLt (iP R' N) (iP R N) :=
 bGw (k:=k) (by simp [List.mem_range'_1]; omega) (List.nodup_range' (step:=1)) h fun x hx hne=>he x (by simp [List.mem_range'_1] at hx; omega) hne
theorem aXc {R R':Nat→Tr} {N:Nat} (he:∀ x,x≠0→R' x=R x):iP R' N=iP R N :=
 List.map_congr_left fun x hx=>he x (by simp [List.mem_range'_1] at hx; omega)
def sS (Wg m j:Nat) (t:Trace):Prop :=
 ∃ q,t.act? q=some (.mark (.acquire (stA Wg)))∧t.g? q=some 0∧t.heard q∧∀ i,i<j→∃ r,RelBy (stA Wg) t (m+i) r∧r<q
theorem sS.app {Wg m j:Nat} {t u:Trace} (h:sS Wg m j t) (hu:∀ i r,i<j→RelBy (stA Wg) t (m+i) r→RelBy (stA Wg) (t++u) (m+i) r):sS Wg m j (t++u):=by
 obtain ⟨q,h1,h2,h3,h4⟩:=h
 have hq:=lt_of_act? h1
 exact ⟨q,by rw [act?_old hq]; exact h1,by rw [g?_old hq]; exact h2,(heard_old hq).2 h3,fun i hi=>let ⟨r,hr,hrq⟩:=h4 i hi; ⟨r,hu i r hi hr,hrq⟩⟩
section
variable (P:Program) (L:WgLink) (Wg:Nat) (p:Pl) (K An:Goroutine→Prop) (S:Nat→Prop) (w0:World) (m:Nat)
def Inv (μ:Mu) (M:Machine) (t:Trace):Prop :=
 ∃ (gs:Array Goroutine) (w:World) (sl:Option (Nat × Nat)) (j:Nat) (D:Nat→WD) (R:Nat→Tr) (V:Nat→World) (tag:CTag) (d0:Nat) (a:Goroutine) (st sm:Int),
  M=crowd gs w sl∧gs[0]? = some a∧CS P L Wg p K An tag j (R 0) d0 a (V 0)∧Com P L Wg p S w0 m j gs w t D R V d0∧w.heap[Wg]? = some (wgBlock L.tWg st sm)∧ConcN.Mode j D tag st sm ∧
  (tag=.ret→sS Wg m j t)∧μ=(phi p.n (Vc j D) tag+Ssum j D,iP R (m+j),R 0)
end
section
variable {P:Program} {L:WgLink} {Wg:Nat} {p:Pl} {K An:Goroutine→Prop} {S:Nat→Prop} {w0:World} {m j:Nat} {gs:Array Goroutine} {w w':World} {sl:Option (Nat × Nat)} {t:Trace} {D:Nat→WD} {R:Nat→Tr} {V V':Nat→World} {tag:CTag} {d0:Nat} {a:Goroutine} {st sm:Int}
theorem mE (hKr:∀ g,K g→g.status=.running) (G:Geo Wg p S)
  (ha:gs[0]? = some a) (hcs:CS P L Wg p K An tag j (R 0) d0 a (V 0)) (hcom:Com P L Wg p S w0 m j gs w t D R V d0)
  {i:Nat} (hi:i<j) {g g':Goroutine} {es:Array Event} {s' dd':Nat} {r':Tr} {st' sm':Int} (hg:gs[m+i]? = some g) (hgo:stepG P false g w=.go g' w' es)
  (hK:aCl p Wg w w') (hV:Vws (fX m j) V' w') (hE:∀ x,x≠m+i→Env (V x) (V' x)) (hO:dJ (V (m+i)) (V' (m+i)))
  (hs':WS P L Wg p i s' r' dd' g' (V' (m+i))) (hdd:deafBehind (D i).deaf es=dd')
  (hok:∀ e∈es,∀ fn pos,OkW (dC (ShW S Wg)) (qS p m j V') (RdF m j V') (m+i) { g:=m+i,fn,pos,act:=.ofEvent e })
  (hat:∀ e∈es,∀ x,(MemAct.ofEvent e).touch? = some x→x.loc.isMemory=true∧((dC (ShW S Wg) x.loc∧x.kind=.atomic)∨x.kind≠.atomic))
  (hnr:∀ e∈es,e.loc≠.mark (.release (stA Wg))) (hlow:∀ e∈es,(MemAct.ofEvent e).low w'.heap.size)
  (hrel:s'≤5→∃ r,RelBy (stA Wg) (t++MemOp.ofEvents (m+i) g.frame.fn g.frame.place es) (m+i) r)
  (hhas:s'≤6→∀ r,r<p.wd→w'.cell? (p.cell i r)=some (p.val i r)) (hho:∀ i',i'<j→i'≠i→∀ r,r<p.wd→w'.cell? (p.cell i' r)=w.cell? (p.cell i' r))
  (hwg:w'.heap[Wg]? = some (wgBlock L.tWg st' sm'))
  (hmode:∀ tag',(tag'=tag∨(tag=.blk∧tag'=.w3))→(mayWake P g=true→g'.status=.running→tag'≠.blk)→ConcN.Mode j (ConcN.upd D i ⟨s',0,dd'⟩) tag' st' sm')
  (hacq:tag=.ret→sS Wg m j (t++MemOp.ofEvents (m+i) g.frame.fn g.frame.place es))
  (hlt:(s'<(D i).stage∧ConcN.cnt ⟨s',0,dd'⟩≤ConcN.cnt (D i))∨(s'=(D i).stage∧qP r' (R (m+i)))) :
  ∃ M ops μ',runT P (crowd gs w sl) (m+i)=(.next M,ops)∧MLt μ' (phi p.n (Vc j D) tag+Ssum j D,iP R (m+j),R 0)∧Inv P L Wg p K An S w0 m μ' M (t++ops):=by
 have hm:=hcom.mpos
 obtain ⟨tag',r0,hcs',htag,hwk⟩:=(hcs.env (hE 0 (by omega))).wokenBy hKr g g' w'
 have hrun:=runT_crowd_go (P:=P) (sl:=sl) (i:=m+i) hg (by rw [show (m+i == 0)=false by simp; omega]; exact hgo)
 have e1:=sumTo_upd D (⟨s',0,dd'⟩:WD) ConcN.cnt hi
 have e2:=sumTo_upd D (⟨s',0,dd'⟩:WD) WD.stage hi
 have hcom':=hcom.stepW G hi hg hK hV hE hO hs' hdd hok hat hnr hlow hrel hhas hho
 have hcom'':Com P L Wg p S w0 m j ((gs.map (woken P g g' w')).setIfInBounds (m+i) g') w' (t++MemOp.ofEvents (m+i) g.frame.fn g.frame.place es) (ConcN.upd D i ⟨s',0,dd'⟩) (ConcN.upd (ConcN.upd R (m+i) r') 0 r0) V' d0 :=
  { hcom' with wk:=fun i' hi'=>by rw [ConcN.upd_ne (ConcN.upd R (m+i) r') r0 (show m+i'≠0 by omega)]; exact hcom'.wk i' hi',old:=fun i' h1 h2=>by rw [ConcN.upd_ne (ConcN.upd R (m+i) r') r0 (show i'≠0 by omega)]; exact hcom'.old i' h1 h2 }
 refine ⟨_,_,(phi p.n (Vc j (ConcN.upd D i ⟨s',0,dd'⟩)) tag'+Ssum j (ConcN.upd D i ⟨s',0,dd'⟩),iP (ConcN.upd (ConcN.upd R (m+i) r') 0 r0) (m+j),r0),hrun,?_,
  _,w',sl,j,ConcN.upd D i ⟨s',0,dd'⟩,ConcN.upd (ConcN.upd R (m+i) r') 0 r0,V',tag',d0,woken P g g' w' a,st',sm',rfl,?_,by rw [ConcN.upd_same]; exact hcs',hcom'',hwg,hmode tag' htag hwk,?_,by rw [ConcN.upd_same]⟩
 ·rw [phi_retag p.n _ htag]
  simp only [Vc,Ssum] at *
  rcases hlt with ⟨h1,h2⟩ | ⟨h1,h2⟩
  ·refine Prod.Lex.left _ _ ?_
   have:=phi_mono p.n (v':=sumTo j fun a=>ConcN.cnt (ConcN.upd D i ⟨s',0,dd'⟩ a)) (v:=sumTo j fun a=>ConcN.cnt (D a)) (by omega) tag
   omega
  ·have ec:ConcN.cnt (⟨s',0,dd'⟩:WD)=ConcN.cnt (D i):=by simp only [ConcN.cnt,h1]
   have ev:(sumTo j fun a=>ConcN.cnt (ConcN.upd D i ⟨s',0,dd'⟩ a))=sumTo j fun a=>ConcN.cnt (D a):=by omega
   have es':(sumTo j fun a=>(ConcN.upd D i ⟨s',0,dd'⟩ a).stage)=sumTo j fun a=>(D a).stage:=by omega
   rw [ev,es']
   refine Prod.Lex.right _ (Prod.Lex.left _ _ (aFy (k:=m+i) (by omega) (by omega) ?_ fun x h0 hx=>by rw [ConcN.upd_ne _ _ h0,ConcN.upd_ne _ _ hx]))
   rw [ConcN.upd_ne _ _ (by omega),ConcN.upd_same]; exact h2
 ·rw [Array.getElem?_setIfInBounds_ne (by omega),Array.getElem?_map,ha]; rfl
 ·intro e
  rcases htag with rfl | ⟨_,rfl⟩
  ·exact hacq e
  ·cases e
/-! ### small laws -/
theorem aXo {k:Nat} {Own Rd:Nat→Loc→Prop} {e:Event} (h:Bk Wg e) (fn:FuncId) (pos:String):OkW (dC (ShW S Wg)) Own Rd k { g:=k,fn,pos,act:=.ofEvent e }:=by
 refine ⟨rfl,fun x hx=>?_⟩
 rcases h with h1 | h1 | ⟨a,wr,rfl,ha⟩
 ·simp only [ofEvent_loc_mark h1] at hx; cases hx
 ·simp only [ofEvent_loc_mark h1] at hx; cases hx
 ·simp only [ofEvent_cell,MemAct.touch?,Option.some.injEq] at hx
  subst hx
  exact .inl ⟨.inr ha,by simp,by simp⟩
theorem aKw {N:Nat} {Own Rd:Nat→Loc→Prop} {e:Event} (h:Bk Wg e) (fn:FuncId) (pos:String):Ok0 (dC (ShW S Wg)) Own Rd N { g:=0,fn,pos,act:=.ofEvent e }:=by
 refine ⟨rfl,fun x hx=>?_⟩
 rcases h with h1 | h1 | ⟨a,wr,rfl,ha⟩
 ·simp only [ofEvent_loc_mark h1] at hx; cases hx
 ·simp only [ofEvent_loc_mark h1] at hx; cases hx
 ·simp only [ofEvent_cell,MemAct.touch?,Option.some.injEq] at hx
  subst hx
  exact .inl ⟨.inr ha,by simp⟩
theorem bBz {e:Event} (h:Bk Wg e):∀ x,(MemAct.ofEvent e).touch? = some x→x.loc.isMemory=true∧((dC (ShW S Wg) x.loc∧x.kind=.atomic)∨x.kind≠.atomic):=by
 intro x hx
 rcases h with h1 | h1 | ⟨a,wr,rfl,ha⟩
 ·simp only [ofEvent_loc_mark h1] at hx; cases hx
 ·simp only [ofEvent_loc_mark h1] at hx; cases hx
 ·simp only [ofEvent_cell,MemAct.touch?,Option.some.injEq] at hx
  subst hx
  exact ⟨rfl,.inl ⟨.inr ha,by simp⟩⟩
theorem aGz {e:Event} (h:Bk Wg e):e.loc≠.mark (.release (stA Wg)):=by
 intro hl
 rcases h with h1 | h1 | ⟨a,wr,rfl,_⟩
 ·rw [h1] at hl; cases hl
 ·rw [h1] at hl; cases hl
 ·cases hl
theorem aLh {e:Event} (h:Bk Wg e) {B:Nat} (hB:Wg<B):(MemAct.ofEvent e).low B:=by
 rcases h with h1 | h1 | ⟨a,wr,rfl,ha⟩
 ·rw [ofEvent_loc_mark h1]; trivial
 ·rw [ofEvent_loc_mark h1]; trivial
 ·rw [ofEvent_cell]; simp only [MemAct.low,Loc.low]; omega
structure gF (Wg:Nat) (w w':World):Prop where
 tape:w'.tape=w.tape
 os:w'.os=w.os
 output:w'.output=w.output
 size:w'.heap.size=w.heap.size
 block:∀ b,b≠Wg→w'.heap[b]? = w.heap[b]?
theorem gF.refl (Wg:Nat) (w:World):gF Wg w w:=⟨rfl,rfl,rfl,rfl,fun _ _=>rfl⟩
theorem gF.set (Wg:Nat) (w:World) (o:Nat) (x:Value):gF Wg w (w.setCell ⟨Wg,o,none⟩ x):=⟨rfl,rfl,rfl,by simp [World.setCell],fun b hb=>by rw [cY,if_neg hb]⟩
theorem sX {Wg:Nat} {w:World} {ty:TypeId} {st sm:Int} (h:w.heap[Wg]? = some (wgBlock ty st sm)) (x:Int):(w.setCell (stA Wg) (.int .u64 x)).heap[Wg]? = some (wgBlock ty x sm):=by
 rw [cY,if_pos (show Wg=(stA Wg).block from rfl),h]; simp [bEr,wgBlock,stA]
theorem aVz {Wg:Nat} {w:World} {ty:TypeId} {st sm:Int} (h:w.heap[Wg]? = some (wgBlock ty st sm)) (x:Int):(w.setCell (smA Wg) (.int .u32 x)).heap[Wg]? = some (wgBlock ty st x):=by
 rw [cY,if_pos (show Wg=(smA Wg).block from rfl),h]; simp [bEr,wgBlock,smA]
theorem gF.kept (h:gF Wg w w') (G:Geo Wg p S) (hp:aTs p w):aCl p Wg w w' :=
 ⟨Nat.le_of_eq h.size.symm,fun b hb _=>h.block b (by omega),⟨h.tape,h.os,h.output⟩,by obtain ⟨cs,f,h1,h2⟩:=hp; exact ⟨cs,f,(h.block p.C (by have:=G.C; omega)).trans h1,h2⟩⟩
theorem gF.cells (h:gF Wg w w') (G:Geo Wg p S) (i r:Nat):w'.cell? (p.cell i r)=w.cell? (p.cell i r):=by
 have:=h.block p.C (by have:=G.C; omega)
 simp [World.cell?,Pl.cell,this]
theorem Com.turn (hcom:Com P L Wg p S w0 m j gs w t D R V d0) (h:gF Wg w w'):Vws (fX m j) (fun x=>gV (V x) w') w' :=
 hcom.vws.aside h.size h.tape h.os h.output fun k hk b o ho hne=>h.block b fun e=>by
  subst e
  rw [hcom.hS k hk b (.inr rfl)] at ho
  exact hne (Option.some.inj ho).symm
theorem yV (hKr:∀ g,K g→g.status=.running) (G:Geo Wg p S) (ha:gs[0]? = some a) (hcs:CS P L Wg p K An tag j (R 0) d0 a (V 0)) (hcom:Com P L Wg p S w0 m j gs w t D R V d0)
  {i:Nat} (hi:i<j) {g g':Goroutine} {es:Array Event} {s' dd':Nat} {r':Tr} {st' sm':Int} (hg:gs[m+i]? = some g) (hgo:stepG P false g w=.go g' w' es)
  (hT:gF Wg w w') (hwg:w'.heap[Wg]? = some (wgBlock L.tWg st' sm')) (hbk:∀ e∈es,Bk Wg e)
  (hd:∀ jx e,es[jx]? = some e→(MemAct.ofEvent e).touch? = none∨0<deafBehind (D i).deaf (es.extract 0 jx))
  (hs':∀ v,WS P L Wg p i s' r' dd' g' v) (hdd:deafBehind (D i).deaf es=dd') (h6:(D i).stage≤6) (h5:s'≤5→(D i).stage≤5)
  (hmode:∀ tag',(tag'=tag∨(tag=.blk∧tag'=.w3))→(mayWake P g=true→g'.status=.running→tag'≠.blk)→ConcN.Mode j (ConcN.upd D i ⟨s',0,dd'⟩) tag' st' sm')
  (hacq:tag=.ret→sS Wg m j (t++MemOp.ofEvents (m+i) g.frame.fn g.frame.place es))
  (hlt:(s'<(D i).stage∧ConcN.cnt ⟨s',0,dd'⟩≤ConcN.cnt (D i))∨(s'=(D i).stage∧qP r' (R (m+i)))) :
  ∃ M ops μ',runT P (crowd gs w sl) (m+i)=(.next M,ops)∧MLt μ' (phi p.n (Vc j D) tag+Ssum j D,iP R (m+j),R 0)∧Inv P L Wg p K An S w0 m μ' M (t++ops):=by
 have hdk:Deaf t (m+i)=(D i).deaf:=hcom.deafW i hi
 have hlt':Wg<w'.heap.size:=bD hwg
 exact mE hKr G ha hcs hcom hi hg hgo (hT.kept G hcom.pay) (hcom.turn hT) (fun x _=>cD _ _) (dJ.of_env (cD _ _)) (hs' _) hdd
  (fun e he fn pos=>aXo (hbk e he) fn pos) (fun e he=>bBz (hbk e he)) (fun e he=>aGz (hbk e he)) (fun e he=>aLh (hbk e he) hlt')
  (fun h=>let ⟨r,hr⟩:=hcom.rel i hi (h5 h); ⟨r,hr.book hdk _ _ hbk hd⟩) (fun _ r hr=>(hT.cells G i r).trans (hcom.has i hi h6 r hr)) (fun i' _ _ r _=>hT.cells G i' r) hwg hmode hacq hlt
end
end Go.Am
end
section
open List renaming map_map→ζ,mapM_map→ξ
namespace Go.Am
open Go.Conc Go.Conc.Lib
open Go.ConcN (CT Apart Ok0 OkW PermW RelBy CTag phi WD Vc Ssum sumTo sumTo_upd OpenSt AllQuit isOpen isW3 isFin pend phi_mono phi_retag le_sumTo Vc_le Vc_upd others_uncounted bk_cell)
open Go.ConcR (KK wgBlock stA smA rd wr mk Bk bk_of_mute ofEvent_loc_mark ofEvent_cell ofEvent_mk)
theorem aSr {v:World} {e:Event} (h:EvV v e) {x:Touch} (hx:(MemAct.ofEvent e).touch? = some x):x.kind=.plain:=by
 obtain ⟨loc,wr,sy⟩:=e
 rcases h with ⟨a,c,t,f,h1,h2,_⟩ | ⟨r,o,h1,h2,_⟩ | h
 ·simp only at h1 h2; subst h1; subst h2
  simp [MemAct.ofEvent,MemAct.touch?] at hx; subst hx; rfl
 ·simp only at h1 h2; subst h1; subst h2
  simp [MemAct.ofEvent,MemAct.touch?] at hx; subst hx; rfl
 ·injection h with e1 e2 e3; subst e1; subst e2; subst e3
  simp [MemAct.ofEvent,MemAct.touch?] at hx
theorem bAg {v:World} {e:Event} (h:EvV v e) (a:Addr):e.loc≠.mark (.release a):=by
 rcases h with ⟨a,c,t,f,h1,_⟩ | ⟨r,o,h1,_⟩ | rfl
 ·rw [h1]; simp
 ·rw [h1]; simp
 ·simp
section
variable {P:Program} {L:WgLink} {Wg:Nat} {p:Pl} {K An:Goroutine→Prop} {S:Nat→Prop} {w0:World} {m j:Nat} {gs:Array Goroutine} {w w':World} {sl:Option (Nat × Nat)} {t:Trace} {D:Nat→WD} {R:Nat→Tr} {V V':Nat→World} {tag:CTag} {d0:Nat} {a:Goroutine} {st sm:Int}
theorem Com.keptQ (hcom:Com P L Wg p S w0 m j gs w t D R V d0) (G:Geo Wg p S) {k:Nat} (hk:fX m j k) {Rm:Event→Prop} {v':World} {es:Array Event} (hq:zJ Rm (V k) w v' w' es) :
  aCl p Wg w w'∧w'.heap[Wg]? = w.heap[Wg]? ∧ w'.heap[p.C]? = w.heap[p.C]? := by
 have hs:=hcom.vws.sim k hk
 have hsz:(V k).heap.size=w.heap.size:=hs.size
 have hge:=hq.ext.size
 have hsz':=hq.sim.size
 have hC:w'.heap[p.C]? = w.heap[p.C]? := hq.rest _ #[] 0 (hcom.hC k hk)
 refine ⟨⟨by omega,fun b hb hne=>?_,⟨by rw [← hq.sim.tape,hq.ext.tape,hs.tape],by rw [← hq.sim.os,hq.ext.os,hs.os],by rw [← hq.sim.output,hq.ext.output,hs.output]⟩,?_⟩,hq.rest _ #[] 0 (hcom.hS k hk _ (.inr rfl)),hC⟩
 ·obtain ⟨c,ty,h⟩:=hcom.low k hk b (by omega)
  exact hq.rest b c ty h
 ·obtain ⟨cs,f,h1,h2⟩:=hcom.pay
  exact ⟨cs,f,hC.trans h1,h2⟩
set_option maxHeartbeats 1600000 in
theorem aJt (hKr:∀ g,K g→g.status=.running) (G:Geo Wg p S) (hn:p.n<2147483648) (hjn:j+pend tag≤p.n)
  (ha:gs[0]? = some a) (hcs:CS P L Wg p K An tag j (R 0) d0 a (V 0)) (hcom:Com P L Wg p S w0 m j gs w t D R V d0) (hwg:w.heap[Wg]? = some (wgBlock L.tWg st sm)) (hmode:ConcN.Mode j D tag st sm)
  (hacq:tag=.ret→sS Wg m j t) {i:Nat} (hi:i<j) {g:Goroutine} (hg:gs[m+i]? = some g) (hrun:g.status=.running) :
  ∃ M ops μ',runT P (crowd gs w sl) (m+i)=(.next M,ops)∧MLt μ' (phi p.n (Vc j D) tag+Ssum j D,iP R (m+j),R 0)∧Inv P L Wg p K An S w0 m μ' M (t++ops):=by
 obtain ⟨g₁,hg₁,hs⟩:=hcom.wk i hi
 obtain rfl:g=g₁:=by rw [hg] at hg₁; exact Option.some.inj hg₁
 have hm:=hcom.mpos
 have hact:fX m j (m+i):=.inr ⟨by omega,by omega⟩
 have hVj:=Vc_le j D
 have hdk:Deaf t (m+i)=(D i).deaf:=hcom.deafW i hi
 have hI:cR L.tWg Wg w:=⟨st,sm,hwg⟩
 generalize hst:(D i).stage=s at hs
 generalize hR:R (m+i)=r at hs
 generalize hde:(D i).deaf=dd at hs
 have nr:s≠1→tag≠.ret:=fun h=>hmode.not_ret hi (by omega)
 -- idle steps behind the working stage
 have idle:∀ {g':Goroutine} {es:Array Event} {k:Nat},stepG P false g w=.go g' w es→(∀ e∈es,Event.mute e=true∨noE e)→(∀ v,WS P L Wg p i s (Tr.nat k) (deafBehind dd es) g' v)→r=Tr.nat (k+1)→s≤6 →
   ∃ M ops μ',runT P (crowd gs w sl) (m+i)=(.next M,ops)∧MLt μ' (phi p.n (Vc j D) tag+Ssum j D,iP R (m+j),R 0)∧Inv P L Wg p K An S w0 m μ' M (t++ops):=by
  intro g' es k hgo hmu hs' hr h6
  have hmu':∀ e∈es,Event.mute e=true:=fun e he=>(hmu e he).resolve_right id
  have hbk:∀ e∈es,Bk Wg e:=fun e he=>bk_of_mute (hmu' e he)
  have hno:∀ jx e,es[jx]? = some e→(MemAct.ofEvent e).touch? = none∨0<deafBehind (D i).deaf (es.extract 0 jx):=fun jx e he=>.inl (touch_mute (hmu' e (Array.mem_of_getElem? he)))
  refine yV hKr G ha hcs hcom hi hg hgo (.refl Wg w) hwg hbk hno (s':=s) hs' (by rw [hde]) (by omega) (fun h=>by omega) (fun tag' ht _=>?_) (fun e=>?_) (.inr ⟨hst.symm,by rw [hR,hr]; exact iE k⟩)
  ·have:=hmode.same (i:=i) 0 (deafBehind dd es)
   rw [hst] at this
   exact this.retag ht
  ·refine (hacq e).app fun i' r' hi' hr'=>?_
   by_cases e':i'=i
   ·subst e'; exact hr'.book hdk _ _ hbk hno
   ·exact hr'.appOther Go.ConcR.g_of_ofEvents (by omega)
 cases hs with
 | work h =>
  cases htr:r with
  | node f =>
   rw [htr] at h
   obtain ⟨_,hv,hst'⟩:=h
   obtain ⟨g',v',w',es,hgo,hq,hgt⟩:=hst' (V (m+i)) w (.refl _) (hcom.vws.sim _ hact) trivial
   obtain ⟨hK,hW,hC⟩:=hcom.keptQ G hact hq
   have hput:aAb V (m+i) v' w' (m+i)=v':=jT _ _ _ _
   have hev:∀ e∈es,EvV v' e∨Event.mute e=true:=fun e he=>(hq.evs e he).imp id fun x=>x.resolve_right id
   have hcell:∀ i' r,w'.cell? (p.cell i' r)=w.cell? (p.cell i' r):=fun i' r=>by simp [World.cell?,Pl.cell,hC]
   have hlt':Wg<w'.heap.size:=bD (hW.trans hwg)
   refine mE hKr G ha hcs hcom hi hg hgo (V':=aAb V (m+i) v' w') hK (hcom.vws.step hact hq) (fun x hx=>by rw [mK V _ _ hx]; exact cD _ _) (by rw [hput]; exact dJ.of_ext hq.ext hv)
    (s':=7) (r':=f (V (m+i),w)) (dd':=deafBehind dd es) (.work (by rw [hput]; exact hgt)) (by rw [hde])
    (fun e he fn pos=>?_) (fun e he x hx=>?_) (fun e he=>?_) (fun e he=>?_) (fun h=>by omega) (fun h=>by omega) (fun i' _ _ r _=>hcell i' r) (hW.trans hwg) (fun tag' ht _=>?_) (fun e=>absurd e (nr (by omega))) (.inr ⟨hst.symm,?_⟩)
   ·rcases hev e he with h1 | h1
    ·exact bFz (by omega) (by omega) (by rw [hput]; exact h1) fn pos
    ·exact aXo (bk_of_mute h1) fn pos
   ·rcases hev e he with h1 | h1
    ·exact ⟨(aEg h1 hx).1,.inr (by rw [aSr h1 hx]; simp)⟩
    ·rw [touch_mute h1] at hx; cases hx
   ·rcases hev e he with h1 | h1
    ·exact bAg h1 _
    ·exact aGz (bk_of_mute h1)
   ·rcases hev e he with h1 | h1
    ·exact aOl (Nat.le_of_eq hq.sim.size) h1
    ·exact low_mute h1 _
   ·have:=hmode.same (i:=i) 0 (deafBehind dd es)
    rw [hst] at this
    exact this.retag ht
   ·rw [hR,htr]; exact pE f _
  | leaf =>
   rw [htr] at h
   obtain ⟨hd,_,hput⟩:=h
   obtain ⟨g',w',es,hgo,hp,hes,hdl⟩:=hput w hcom.pay
   obtain ⟨n,hdn⟩:=hdl.count
   have hd0:deafBehind dd es=0:=by
    rw [deafBehind_still fun e he=>by obtain ⟨r,_,rfl⟩:=hes e he; exact ⟨by simp,by simp⟩]; exact hd
   have hCl:p.C<w'.heap.size:=by obtain ⟨cs,f,h1,_⟩:=hp.pay; exact bD h1
   have hW:w'.heap[Wg]? = w.heap[Wg]? := hp.block Wg (by have:=G.C; omega)
   refine mE hKr G ha hcs hcom hi hg hgo (V':=fun x=>gV (V x) w') ⟨Nat.le_of_eq hp.size.symm,fun b _ hne=>hne.elim (hp.block b) fun e=>absurd e (by have:=Nat.mul_pos (show 0<p.n by omega) p.pos; have:=p.le; omega),⟨hp.tape,hp.os,hp.output⟩,hp.pay⟩
    (hcom.vws.aside hp.size hp.tape hp.os hp.output fun k hk b o ho hne=>hp.block b fun e=>by subst e; rw [hcom.hC k hk] at ho; exact hne (Option.some.inj ho).symm) (fun x _=>cD _ _) (dJ.of_env (cD _ _))
    (s':=6) (dd':=0) (.rel hdn) (by rw [hde]; exact hd0) (fun e he fn pos=>?_) (fun e he x hx=>?_) (fun e he=>?_) (fun e he=>?_) (fun h=>by omega) (fun _ r hr=>hp.new r hr) (fun i' hi' hne r hr=>?_) (hW.trans hwg)
    (fun tag' ht _=>(hmode.counted hi (by omega) (.inl rfl) _ _).retag ht) (fun e=>absurd e (nr (by omega))) (.inl ⟨by omega,by simp [ConcN.cnt,hst]⟩)
   ·obtain ⟨r,hr,rfl⟩:=hes e he
    refine ⟨rfl,fun x hx=>?_⟩
    simp only [ofEvent_cell,MemAct.touch?,Option.some.injEq] at hx
    subst hx
    exact .inr (.inl ⟨by omega,by omega,.inr ⟨r,hr,by simp⟩⟩)
   ·obtain ⟨r,hr,rfl⟩:=hes e he
    simp only [ofEvent_cell,MemAct.touch?,Option.some.injEq] at hx
    subst hx
    exact ⟨rfl,.inr (by simp)⟩
   ·obtain ⟨r,hr,rfl⟩:=hes e he
    simp
   ·obtain ⟨r,hr,rfl⟩:=hes e he
    rw [ofEvent_cell]; exact hCl
   ·refine hp.cells _ ?_
    rcases Nat.lt_or_gt_of_ne hne with h1 | h1
    ·left
     have:(i'+1) * p.wd≤i * p.wd:=Nat.mul_le_mul_right _ h1
     rw [Nat.add_mul] at this; omega
    ·right
     have:(i+1) * p.wd≤i' * p.wd:=Nat.mul_le_mul_right _ h1
     omega
 | rel h =>
  rcases h.cases with ⟨_,hd,g',hgo,hdl⟩ | ⟨n',rfl,_,g',es,hmu,hgo,h'⟩
  ·obtain ⟨n,hdn⟩:=hdl.count
   have hlt':Wg<w.heap.size:=bD hwg
   refine mE hKr G ha hcs hcom hi hg (hgo w hI) (V':=V) ((gF.refl Wg w).kept G hcom.pay) hcom.vws (fun x _=>.refl _) (dJ.of_env (.refl _)) (s':=5) (dd':=0) (.sub hdn) (by rw [hde,hd]; rfl)
    (fun e he fn pos=>?_) (fun e he x hx=>?_) (fun e he=>?_) (fun e he=>?_) (fun _=>⟨t.size,ConcN.RelBy.new (by rw [hdk,hde,hd]) _ _⟩) (fun _ r hr=>hcom.has i hi (by omega) r hr) (fun _ _ _ _ _=>rfl) hwg
    (fun tag' ht _=>(hmode.counted hi (by omega) (.inr rfl) _ _).retag ht) (fun e=>absurd e (nr (by omega))) (.inl ⟨by omega,by simp [ConcN.cnt,hst]⟩)
   ·simp at he; subst he; exact ⟨rfl,fun x hx=>by simp [ofEvent_mk,MemAct.touch?] at hx⟩
   ·simp at he; subst he; simp [ofEvent_mk,MemAct.touch?] at hx
   ·simp at he; subst he; simp [mk]
   ·simp at he; subst he; rw [ofEvent_mk]; exact hlt'
  ·exact idle (hgo w hI) hmu (fun v=>.rel h') rfl (by omega)
 | sub h =>
  rcases h.cases with ⟨hd,_,hall⟩ | ⟨n',rfl,_,g',es,hmu,hgo,h'⟩
  ·have hc1:ConcN.cnt (D i)=1:=by simp [ConcN.cnt,hst]
   have hV1:1≤Vc j D:=by have:=le_sumTo (f:=fun x=>ConcN.cnt (D x)) hi; simp only [Vc]; omega
   have bk2:∀ e∈#[rd (stA Wg),wr (stA Wg)],Bk Wg e:=by intro e he; simp at he; rcases he with rfl | rfl <;> exact bk_cell _ _ rfl
   have df2:∀ jx e,(#[rd (stA Wg),wr (stA Wg)]:Array Event)[jx]? = some e→(MemAct.ofEvent e).touch? = none∨0<deafBehind (D i).deaf ((#[rd (stA Wg),wr (stA Wg)]:Array Event).extract 0 jx):=by
    intro jx e he
    rw [hde,hd]
    match jx,he with
    | 0,_=>exact .inr (by simp [deafBehind])
    | 1,_=>exact .inr (by simp [deafBehind,rd])
    | jx+2,he=>simp at he
   have hdd:deafBehind (D i).deaf #[rd (stA Wg),wr (stA Wg)]=dd:=by rw [hde]; simp [deafBehind,rd,wr]
   have hq0:∀ x,ConcN.cnt (⟨1,0,x⟩:WD)=0:=fun _=>rfl
   have opq:OpenSt j D→OpenSt j (ConcN.upd D i ⟨1,0,dd⟩):=fun h a ha=>by
    by_cases e:a=i
    ·subst e; rw [ConcN.upd_same]; simp
    ·rw [ConcN.upd_ne D _ e]; exact h a ha
   cases hmode with
   | opn h1 h2 h3 =>
    obtain ⟨v,hv⟩:∃ v,Vc j D+pend tag=v+1:=⟨Vc j D+pend tag - 1,by omega⟩
    rw [hv] at hwg
    have hw1:w.heap[Wg]? = some (wgBlock L.tWg (((v:Int)+1) * KK+((0:Nat):Int)) 0):=by simpa using hwg
    obtain ⟨g',hgo,_,hq⟩:=hall w v 0 (by omega) (by omega) hw1
    obtain ⟨q,hq⟩:=hq (by omega)
    have hv':Vc j (ConcN.upd D i ⟨1,0,dd⟩)+pend tag=v:=by have:=Vc_upd D (⟨1,0,dd⟩:WD) hi; have:=hq0 dd; omega
    refine yV hKr G ha hcs hcom hi hg hgo (gF.set Wg w 0 _) (sX hw1 _) bk2 df2 (s':=1) (dd':=dd) (fun v=>.quit hq) hdd (by omega) (fun _=>by omega) (fun tag' ht _=>ConcN.Mode.retag ?_ ht) (fun e=>absurd e (nr (by omega))) (.inl ⟨by omega,by simp [ConcN.cnt]⟩)
    have e:((v:Nat):Int) * KK+((0:Nat):Int)=((Vc j (ConcN.upd D i ⟨1,0,dd⟩)+pend tag:Nat):Int) * KK:=by rw [hv']; simp
    rw [e]
    exact .opn h1 (opq h2) (fun vs ev=>by have:=h3 vs ev; omega)
   | reg h1 h2 h3 =>
    obtain ⟨v,hv⟩:∃ v,Vc j D=v+1:=⟨Vc j D - 1,by omega⟩
    rw [hv] at hwg
    have hp:pend tag=0:=by cases tag <;> first | rfl | exact h1.elim
    have hw1:w.heap[Wg]? = some (wgBlock L.tWg (((v:Int)+1) * KK+((1:Nat):Int)) 0):=by simpa using hwg
    obtain ⟨g',hgo,hl,hq⟩:=hall w v 1 (by omega) (by omega) hw1
    by_cases hv0:v=0
    ·subst hv0
     obtain ⟨n2,hk⟩:=(hl ⟨rfl,rfl⟩).count
     refine yV hKr G ha hcs hcom hi hg hgo (gF.set Wg w 0 _) (sX hw1 _) bk2 df2 (s':=4) (dd':=dd) (fun v=>.look hk) hdd (by omega) (fun _=>by omega) (fun tag' ht _=>ConcN.Mode.retag ?_ ht) (fun e=>absurd e (nr (by omega))) (.inl ⟨by omega,by simp [ConcN.cnt]⟩)
     have hoth:∀ a,a<j→a≠i→(D a).stage=1:=fun a ha e=>by
      have c0:=others_uncounted hi hv hc1 a ha e
      have:=h2 a ha
      simp only [ConcN.cnt] at c0
      split at c0 <;> omega
     have:=ConcN.Mode.last (j:=j) (D:=ConcN.upd D i ⟨4,0,dd⟩) (tag:=tag) i h1 hi (by rw [ConcN.upd_same]; simp) (fun a ha e=>by rw [ConcN.upd_ne D _ e]; exact hoth a ha e)
     rw [ConcN.upd_same] at this
     simpa using this
    ·obtain ⟨q,hq⟩:=hq (by omega)
     have hv':Vc j (ConcN.upd D i ⟨1,0,dd⟩)=v:=by have:=Vc_upd D (⟨1,0,dd⟩:WD) hi; have:=hq0 dd; omega
     refine yV hKr G ha hcs hcom hi hg hgo (gF.set Wg w 0 _) (sX hw1 _) bk2 df2 (s':=1) (dd':=dd) (fun v=>.quit hq) hdd (by omega) (fun _=>by omega) (fun tag' ht _=>ConcN.Mode.retag ?_ ht) (fun e=>absurd e (nr (by omega))) (.inl ⟨by omega,by simp [ConcN.cnt]⟩)
     have e:((v:Nat):Int) * KK+((1:Nat):Int)=((Vc j (ConcN.upd D i ⟨1,0,dd⟩):Nat):Int) * KK+1:=by rw [hv']; simp
     rw [e]
     exact .reg h1 (opq h2) (by omega)
   | last L' _ h2 h3 h4 =>
    by_cases e:i=L'
    ·subst e; omega
    ·have:=h4 i hi e; omega
   | sema h2=>have:=h2 i hi; omega
   | fin _ h2=>have:=h2 i hi; omega
  ·exact idle (hgo w hI) hmu (fun v=>.sub h') rfl (by omega)
 | look h =>
  rcases h.cases with ⟨hd,_,hx⟩ | ⟨n',rfl,_,g',es,hmu,hgo,h'⟩
  ·obtain ⟨hW3,hoth,rfl,rfl⟩:=hmode.isLast hi (by omega)
   simp only [hst] at hwg
   obtain ⟨g',hgo,hk⟩:=hx w (by simpa using hwg)
   obtain ⟨n2,hk⟩:=hk.count
   refine yV hKr G ha hcs hcom hi hg hgo (.refl Wg w) hwg (by intro e he; simp at he; subst he; exact bk_cell _ _ rfl) (by rw [hde,hd]; intro jx e he; match jx,he with | 0,_=>exact .inr (by simp [deafBehind]) | jx+1,he=>simp at he)
    (s':=3) (dd':=dd) (fun v=>.zero hk) (by rw [hde]; simp [deafBehind,rd]) (by omega) (fun _=>by omega) (fun tag' ht _=>ConcN.Mode.retag ?_ ht) (fun e=>absurd e (nr (by omega))) (.inl ⟨by omega,by simp [ConcN.cnt]⟩)
   have:=ConcN.Mode.last (j:=j) (D:=ConcN.upd D i ⟨3,0,dd⟩) (tag:=tag) i hW3 hi (by rw [ConcN.upd_same]; simp) (fun a ha e=>by rw [ConcN.upd_ne D _ e]; exact hoth a ha e)
   rw [ConcN.upd_same] at this
   simpa using this
  ·exact idle (hgo w hI) hmu (fun v=>.look h') rfl (by omega)
 | zero h =>
  rcases h.cases with ⟨hd,_,hx⟩ | ⟨n',rfl,_,g',es,hmu,hgo,h'⟩
  ·obtain ⟨hW3,hoth,rfl,rfl⟩:=hmode.isLast hi (by omega)
   simp only [hst] at hwg
   have hwg':w.heap[Wg]? = some (wgBlock L.tWg 1 0):=by simpa using hwg
   obtain ⟨g',hgo,hk⟩:=hx w hwg'
   obtain ⟨n2,hk⟩:=hk.count
   refine yV hKr G ha hcs hcom hi hg hgo (gF.set Wg w 0 _) (sX hwg' 0) (by intro e he; simp at he; subst he; exact bk_cell _ _ rfl) (by rw [hde,hd]; intro jx e he; match jx,he with | 0,_=>exact .inr (by simp [deafBehind]) | jx+1,he=>simp at he)
    (s':=2) (dd':=dd) (fun v=>.sem hk) (by rw [hde]; simp [deafBehind,wr]) (by omega) (fun _=>by omega) (fun tag' ht _=>ConcN.Mode.retag ?_ ht) (fun e=>absurd e (nr (by omega))) (.inl ⟨by omega,by simp [ConcN.cnt]⟩)
   have:=ConcN.Mode.last (j:=j) (D:=ConcN.upd D i ⟨2,0,dd⟩) (tag:=tag) i hW3 hi (by rw [ConcN.upd_same]; simp) (fun a ha e=>by rw [ConcN.upd_ne D _ e]; exact hoth a ha e)
   rw [ConcN.upd_same] at this
   simpa using this
  ·exact idle (hgo w hI) hmu (fun v=>.zero h') rfl (by omega)
 | sem h =>
  rcases h.cases with ⟨hd,_,hmw,hx⟩ | ⟨n',rfl,_,g',es,hmu,hgo,h'⟩
  ·obtain ⟨hW3,hoth,rfl,rfl⟩:=hmode.isLast hi (by omega)
   simp only [hst] at hwg
   have hwg':w.heap[Wg]? = some (wgBlock L.tWg 0 0):=by simpa using hwg
   obtain ⟨g',hgo,q,hq⟩:=hx w hwg'
   have hrun':g'.status=.running:=by
    cases q with
    | zero=>exact absurd hq.2 (by omega)
    | succ q=>exact hq.elim (fun x=>absurd x.2 (by omega)) (fun x=>x.1)
   refine yV hKr G ha hcs hcom hi hg hgo (gF.set Wg w 1 _) (aVz hwg' 1) (es:=semEvents (smA Wg)) ?_ ?_ (s':=1) (dd':=dd) (fun v=>.quit hq) (by rw [hde,hd]; simp [deafBehind,semEvents]) (by omega) (fun _=>by omega) ?_ (fun e=>absurd e (nr (by omega))) (.inl ⟨by omega,by simp [ConcN.cnt]⟩)
   ·exact ConcN.bk_sem
   ·intro jx e he
    rw [hde,hd]
    match jx,he with
    | 0,he=>simp [semEvents] at he; subst he; exact .inl rfl
    | 1,_=>exact .inr (by simp [deafBehind,semEvents])
    | 2,_=>exact .inr (by simp [deafBehind,semEvents])
    | 3,he=>simp [semEvents] at he; subst he; exact .inl rfl
    | jx+4,he=>simp [semEvents] at he
   ·intro tag' ht hw
    have hnb:=hw hmw hrun'
    have e3:tag'=.w3:=by
     rcases ht with rfl | ⟨_,rfl⟩
     ·cases tag' <;> first | rfl | exact hW3.elim | exact absurd rfl hnb
     ·rfl
    subst e3
    exact .sema fun a ha=>by
     by_cases e:a=i
     ·subst e; rw [ConcN.upd_same]
     ·rw [ConcN.upd_ne D _ e]; exact hoth a ha e
  ·exact idle (hgo w hI) hmu (fun v=>.sem h') rfl (by omega)
 | quit h =>
  rename_i n
  cases n with
  | zero=>rw [h.1] at hrun; cases hrun
  | succ q =>
   rcases h with ⟨hf,_⟩ | ⟨_,g',es,hmute,hstep,hq⟩
   ·rw [hf] at hrun; cases hrun
   ·exact idle (hstep w) (fun e he=>.inl (hmute e he)) (fun v=>.quit hq) rfl (by omega)
end
end Go.Am
end
section
open List renaming map_map→ζ,mapM_map→ξ
namespace Go.Am
open Go.Conc Go.Conc.Lib
open Go.ConcN (CT Apart Ok0 OkW PermW RelBy CTag phi WD Vc Ssum sumTo sumTo_upd sumTo_upd_out OpenSt AllQuit isOpen isW3 isFin pend phi_mono phi_retag le_sumTo Vc_le Vc_upd others_uncounted bk_cell allQuit_of)
open Go.ConcR (KK wgBlock stA smA rd wr mk Bk bk_of_mute ofEvent_loc_mark ofEvent_cell ofEvent_mk)
section
variable {P:Program} {L:WgLink} {Wg:Nat} {p:Pl} {K An:Goroutine→Prop} {S:Nat→Prop} {w0:World} {m j:Nat} {gs:Array Goroutine} {w w':World} {sl:Option (Nat × Nat)} {t:Trace} {D:Nat→WD} {R:Nat→Tr} {V V':Nat→World} {tag tag':CTag} {d0:Nat} {a a':Goroutine} {st sm st' sm':Int} {es:Array Event} {r':Tr}
theorem CS.bound {d:Nat} {r:Tr} {v:World} (h:CS P L Wg p K An tag j r d a v):j+pend tag≤p.n:=by
 cases h <;> simp only [pend] <;> (try simp) <;> omega
theorem nB (G:Geo Wg p S) (ha:gs[0]? = some a) (hcom:Com P L Wg p S w0 m j gs w t D R V d0)
  (hgo:stepG P true a w=.go a' w' es) (hK:aCl p Wg w w') (hV:Vws (fX m j) V' w') (hE:∀ x,x≠0→Env (V x) (V' x)) (hO:dJ (V 0) (V' 0))
  (hok:∀ e∈es,∀ fn pos,Ok0 (dC (ShW S Wg)) (qS p m j V') (RdF m j V') (m+j - 1) { g:=0,fn,pos,act:=.ofEvent e })
  (hat:∀ e∈es,∀ x,(MemAct.ofEvent e).touch? = some x→x.loc.isMemory=true) (hnr:∀ e∈es,e.loc≠.mark (.release (stA Wg))) (hlow:∀ e∈es,(MemAct.ofEvent e).low w'.heap.size)
  (hho:∀ i,i<j→∀ r,r<p.wd→w'.cell? (p.cell i r)=w.cell? (p.cell i r))
  (hcs':CS P L Wg p K An tag' j r' (deafBehind d0 es) a' (V' 0)) (hwg:w'.heap[Wg]? = some (wgBlock L.tWg st' sm')) (hmode:ConcN.Mode j D tag' st' sm')
  (hacq:tag'=.ret→sS Wg m j (t++MemOp.ofEvents 0 a.frame.fn a.frame.place es))
  (hlt:phi p.n (Vc j D) tag'<phi p.n (Vc j D) tag∨(phi p.n (Vc j D) tag'=phi p.n (Vc j D) tag∧qP r' (R 0))) :
  ∃ M ops μ',runT P (crowd gs w sl) 0=(.next M,ops)∧MLt μ' (phi p.n (Vc j D) tag+Ssum j D,iP R (m+j),R 0)∧Inv P L Wg p K An S w0 m μ' M (t++ops):=by
 have hrun:=runT_crowd_go (P:=P) (sl:=sl) (i:=0) ha (by simpa using hgo)
 have hlt0:0<gs.size:=(Array.getElem?_eq_some_iff.1 ha).1
 refine ⟨_,_,(phi p.n (Vc j D) tag'+Ssum j D,iP (ConcN.upd R 0 r') (m+j),r'),hrun,?_,
  _,w',sl,j,D,ConcN.upd R 0 r',V',tag',deafBehind d0 es,a',st',sm',rfl,by simp [hlt0],by rw [ConcN.upd_same]; exact hcs',hcom.step0 G ha hK hV hE hO hok hat hnr hlow hho r',hwg,hmode,hacq,by rw [ConcN.upd_same]⟩
 rw [aXc (R':=ConcN.upd R 0 r') (R:=R) fun x hx=>ConcN.upd_ne R _ hx]
 rcases hlt with h | ⟨h1,h2⟩
 ·exact Prod.Lex.left _ _ (by omega)
 ·rw [h1]; exact Prod.Lex.right _ (Prod.Lex.right _ h2)
theorem kM {e:Event} (h:dI Wg e):(∀ {Own Rd:Nat→Loc→Prop} {N:Nat} (fn:FuncId) (pos:String),Ok0 (dC (ShW S Wg)) Own Rd N { g:=0,fn,pos,act:=.ofEvent e })∧(∀ x,(MemAct.ofEvent e).touch? = some x→x.loc.isMemory=true)∧e.loc≠.mark (.release (stA Wg))∧∀ B,Wg<B→(MemAct.ofEvent e).low B:=by
 rcases h with rfl | rfl
 ·refine ⟨fun fn pos=>⟨rfl,fun x hx=>?_⟩,fun x hx=>?_,by simp,fun B hB=>hB⟩ <;> simp only [MemAct.ofEvent,MemAct.touch?,Option.some.injEq] at hx <;> subst hx
  ·exact .inl ⟨.inr rfl,by simp⟩
  ·rfl
 ·refine ⟨fun fn pos=>⟨rfl,fun x hx=>?_⟩,fun x hx=>?_,by simp,fun B hB=>hB⟩ <;> simp only [MemAct.ofEvent,MemAct.touch?,Option.some.injEq] at hx <;> subst hx
  ·exact .inl ⟨.inr rfl,by simp⟩
  ·rfl
theorem pY (G:Geo Wg p S) (ha:gs[0]? = some a) (hcom:Com P L Wg p S w0 m j gs w t D R V d0)
  (hgo:stepG P true a w=.go a' w' es) (hT:gF Wg w w') (hwg:w'.heap[Wg]? = some (wgBlock L.tWg st' sm')) (hbk:∀ e∈es,Bk Wg e∨dI Wg e)
  (hcs':∀ v,Env (V 0) v→CS P L Wg p K An tag' j r' (deafBehind d0 es) a' v) (hmode:ConcN.Mode j D tag' st' sm')
  (hacq:tag'=.ret→sS Wg m j (t++MemOp.ofEvents 0 a.frame.fn a.frame.place es))
  (hlt:phi p.n (Vc j D) tag'<phi p.n (Vc j D) tag∨(phi p.n (Vc j D) tag'=phi p.n (Vc j D) tag∧qP r' (R 0))) :
  ∃ M ops μ',runT P (crowd gs w sl) 0=(.next M,ops)∧MLt μ' (phi p.n (Vc j D) tag+Ssum j D,iP R (m+j),R 0)∧Inv P L Wg p K An S w0 m μ' M (t++ops):=by
 have hlt':Wg<w'.heap.size:=bD hwg
 refine nB G ha hcom hgo (hT.kept G hcom.pay) (hcom.turn hT) (fun x _=>cD _ _) (dJ.of_env (cD _ _)) (fun e he fn pos=>?_) (fun e he=>?_) (fun e he=>?_) (fun e he=>?_) (fun i _ r _=>hT.cells G i r) (hcs' _ (cD _ _)) hwg hmode hacq hlt
 ·rcases hbk e he with h | h
  ·exact aKw h fn pos
  ·exact (kM (S:=S) h).1 fn pos
 ·rcases hbk e he with h | h
  ·exact fun x hx=>(bBz (S:=S) h x hx).1
  ·exact (kM (S:=S) h).2.1
 ·rcases hbk e he with h | h
  ·exact aGz h
  ·exact (kM (S:=S) h).2.2.1
 ·rcases hbk e he with h | h
  ·exact aLh h hlt'
  ·exact (kM (S:=S) h).2.2.2 _ hlt'
theorem aUv (G:Geo Wg p S) (ha:gs[0]? = some a) (hcom:Com P L Wg p S w0 m j gs w t D R V d0) (hwg:w.heap[Wg]? = some (wgBlock L.tWg st sm)) (hmode:ConcN.Mode j D tag st sm) (hacq:tag≠.ret)
  {v':World} (hgo:stepG P true a w=.go a' w' es) (hq:zJ (dI Wg) (V 0) w v' w' es) (hcs':CS P L Wg p K An tag j r' (deafBehind d0 es) a' v') (hlt:qP r' (R 0)) :
  ∃ M ops μ',runT P (crowd gs w sl) 0=(.next M,ops)∧MLt μ' (phi p.n (Vc j D) tag+Ssum j D,iP R (m+j),R 0)∧Inv P L Wg p K An S w0 m μ' M (t++ops):=by
 obtain ⟨hK,hW,hC⟩:=hcom.keptQ G (.inl rfl) hq
 have hput:aAb V 0 v' w' 0=v':=jT _ _ _ _
 have hcell:∀ i' r,w'.cell? (p.cell i' r)=w.cell? (p.cell i' r):=fun i' r=>by simp [World.cell?,Pl.cell,hC]
 have hlt':Wg<w'.heap.size:=bD (hW.trans hwg)
 have hO:dJ (V 0) v':=dJ.of_ext hq.ext (hcom.vws.ok 0 (.inl rfl))
 have hVV:Vws (fX m j) (aAb V 0 v' w') w':=hcom.vws.step (.inl rfl) hq
 refine nB G ha hcom hgo (V':=aAb V 0 v' w') hK hVV (fun x hx=>by rw [mK V _ _ hx]; exact cD _ _) (by rw [hput]; exact hO) (fun e he fn pos=>?_) (fun e he=>?_) (fun e he=>?_) (fun e he=>?_) (fun i _ r _=>hcell i r) (by rw [hput]; exact hcs') (hW.trans hwg) hmode (fun e=>absurd e hacq) (.inr ⟨rfl,hlt⟩)
 ·rcases hq.evs e he with h | h | h
  ·exact bGa hVV hcom.mpos (by rw [hput]; exact hO.hole (hcom.hC 0 (.inl rfl))) (fun b hb=>by rw [hput]; exact hO.hole (hcom.hS 0 (.inl rfl) b hb)) (by rw [hput]; exact h) fn pos
  ·exact aKw (bk_of_mute h) fn pos
  ·exact (kM (S:=S) h).1 fn pos
 ·rcases hq.evs e he with h | h | h
  ·exact fun x hx=>(aEg h hx).1
  ·exact fun x hx=>by rw [touch_mute h] at hx; cases hx
  ·exact (kM (S:=S) h).2.1
 ·rcases hq.evs e he with h | h | h
  ·exact bAg h _
  ·exact aGz (bk_of_mute h)
  ·exact (kM (S:=S) h).2.2.1
 ·rcases hq.evs e he with h | h | h
  ·exact aOl (Nat.le_of_eq hq.sim.size) h
  ·exact low_mute h _
  ·exact (kM (S:=S) h).2.2.2 _ hlt'
theorem Com.spawn (h:Com P L Wg p S w0 m j gs w t D R V 0) (G:Geo Wg p S) {child:Goroutine} {x y:MemOp} {tr r0:Tr} (hx:x.g=0∧x.act=.go (m+j)) (hy:y.g=m+j∧y.act=.start) (hWg:Wg<w.heap.size)
  (hc:GTw P L Wg p j tr 0 child (iL (V 0))) :
  Com P L Wg p S w0 m (j+1) ((gs.setIfInBounds 0 a').push child) w (t++#[x,y]) (ConcN.upd D j ⟨7,0,0⟩) (ConcN.upd (ConcN.upd R (m+j) tr) 0 r0) (ConcN.upd (ConcN.upd V (m+j) (iL (V 0))) 0 (iL (V 0))) 0:=by
 have hm:=h.mpos
 generalize hVd:ConcN.upd (ConcN.upd V (m+j) (iL (V 0))) 0 (iL (V 0))=V'
 have v0:V' 0=iL (V 0):=by rw [← hVd,ConcN.upd_same]
 have vj:V' (m+j)=iL (V 0):=by rw [← hVd,ConcN.upd_ne _ _ (by omega),ConcN.upd_same]
 have vx:∀ k,k≠0→k≠m+j→V' k=V k:=fun k h0 h1=>by rw [← hVd,ConcN.upd_ne _ _ h0,ConcN.upd_ne _ _ h1]
 have hact:∀ k,fX m (j+1) k→(V' k=iL (V 0)∧(k=0∨k=m+j))∨(V' k=V k∧k≠0∧m≤k∧k<m+j):=fun k hk=>by
  by_cases h0:k=0
  ·subst h0; exact .inl ⟨v0,.inl rfl⟩
  by_cases h1:k=m+j
  ·subst h1; exact .inl ⟨vj,.inr rfl⟩
  ·rcases hk with hk | ⟨h2,h3⟩
   ·exact absurd hk h0
   ·exact .inr ⟨vx k h0 h1,h0,h2,by omega⟩
 have hmm:∀ op∈#[x,y],op=x∨op=y:=by intro op hop; simpa using hop
 have hst:∀ op∈#[x,y],op.act≠.mark .disable∧op.act≠.mark .enable:=by
  intro op hop
  rcases hmm op hop with rfl | rfl
  ·rw [hx.2]; exact ⟨by simp,by simp⟩
  ·rw [hy.2]; exact ⟨by simp,by simp⟩
 have hnt:∀ op∈#[x,y],op.act.touch? = none:=by
  intro op hop
  rcases hmm op hop with rfl | rfl
  ·rw [hx.2]; rfl
  ·rw [hy.2]; rfl
 have hVw:Vws (fX m (j+1)) V' w:=by
  refine ⟨fun k hk=>?_,fun k hk=>?_,fun k k' hk hk' hne b hu=>?_⟩
  ·rcases hact k hk with ⟨e,_⟩ | ⟨e,_,h1,h2⟩
   ·rw [e]; exact aHt (h.vws.sim 0 (.inl rfl))
   ·rw [e]; exact h.vws.sim k (.inr ⟨h1,h2⟩)
  ·rcases hact k hk with ⟨e,_⟩ | ⟨e,_,h1,h2⟩
   ·rw [e]; exact aEb _
   ·rw [e]; exact h.vws.ok k (.inr ⟨h1,h2⟩)
  ·rcases hact k hk with ⟨e,_⟩ | ⟨e,h0,h1,h2⟩
   ·rw [e] at hu; exact absurd hu (aEc _ _)
   ·rw [e] at hu
    rcases hact k' hk' with ⟨e',_⟩ | ⟨e',h0',h1',h2'⟩
    ·rw [e']; exact tK (h.vws.dis k 0 (.inr ⟨h1,h2⟩) (.inl rfl) h0 b hu)
    ·rw [e']; exact h.vws.dis k k' (.inr ⟨h1,h2⟩) (.inr ⟨h1',h2'⟩) hne b hu
 have hC':∀ k,fX m (j+1) k→(V' k).heap[p.C]? = some hole:=fun k hk=>by
  rcases hact k hk with ⟨e,_⟩ | ⟨e,_,h1,h2⟩
  ·rw [e]; exact tK (h.hC 0 (.inl rfl))
  ·rw [e]; exact h.hC k (.inr ⟨h1,h2⟩)
 have hS':∀ k,fX m (j+1) k→∀ b,ShW S Wg b→(V' k).heap[b]? = some hole:=fun k hk b hb=>by
  rcases hact k hk with ⟨e,_⟩ | ⟨e,_,h1,h2⟩
  ·rw [e]; exact tK (h.hS 0 (.inl rfl) b hb)
  ·rw [e]; exact h.hS k (.inr ⟨h1,h2⟩) b hb
 have hA:Apart (dC (ShW S Wg)) (qS p m (j+1) V') (RdF m (j+1) V'):=sM hVw hm hC' hS' fun hs=>hs.elim G.S fun e=>by have:=G.C; omega
 have hct:CT (dC (ShW S Wg)) (qS p m (j+1) V') (RdF m (j+1) V') t (m+j - 1):=by
  refine CT.grow h.ct (fun k l k1 kj ⟨a1,a2,hl⟩=>⟨a1,by omega,?_⟩) (fun k l k1 kj ⟨a1,a2,hl⟩=>⟨a1,by omega,?_⟩) (fun k l k1 kj ⟨a1,a2,hl⟩=>.inl ⟨a1,by omega,?_⟩) (fun k l k1 kj ⟨a1,a2,hl⟩=>.inl ⟨a1,by omega,?_⟩)
  ·rw [vx k (by omega) (by omega)]; exact hl
  ·rw [vx k (by omega) (by omega)]; exact hl
  ·rw [vx k (by omega) (by omega)] at hl; exact hl
  ·rw [vx k (by omega) (by omega)] at hl; exact hl
 have hsz:=h.size
 refine ⟨hm,by simp [hsz]; omega,fun i hi=>?_,fun i h1 h2=>?_,fun i hi=>?_,?_,h.norel.app fun op hop=>?_,by rw [ConcN.Deaf_still t 0 _ hst,h.deaf0],fun i hi=>?_,fun i hi hs=>?_,fun i hi hs r hr=>?_,h.pay,hVw,fun k hk b hb=>?_,hC',hS',h.stay,h.like,aDy h.kn fun op hop a ha=>?_,vW h.mem fun op hop a ha=>?_,rD h.over fun op hop=>.inr (.inr (hnt op hop)),vY h.seen (Nat.le_refl _) fun op hop=>?_⟩
 ·rcases Nat.lt_or_ge i j with hlt | hge
  ·obtain ⟨g,hg,hsg⟩:=h.wk i hlt
   refine ⟨g,?_,by rw [ConcN.upd_ne D _ (by omega),ConcN.upd_ne (ConcN.upd R (m+j) tr) _ (by omega),ConcN.upd_ne R _ (by omega),vx _ (by omega) (by omega)]; exact hsg⟩
   rw [Array.getElem?_push_lt (by simp [hsz]; omega),← Array.getElem?_eq_getElem,Array.getElem?_setIfInBounds_ne (by omega)]
   exact hg
  ·obtain rfl:i=j:=by omega
   refine ⟨child,?_,by rw [ConcN.upd_same,ConcN.upd_ne (ConcN.upd R (m+i) tr) _ (by omega),ConcN.upd_same,vj]; exact .work hc⟩
   rw [show m+i=(gs.setIfInBounds 0 a').size by simp [hsz],Array.getElem?_push_size]
 ·obtain ⟨g,q,hg,hr,hq⟩:=h.old i h1 h2
  refine ⟨g,q,?_,by rw [ConcN.upd_ne (ConcN.upd R (m+j) tr) _ (by omega),ConcN.upd_ne R _ (by omega)]; exact hr,by rw [ConcN.Deaf_still t _ _ hst]; exact hq⟩
  rw [Array.getElem?_push_lt (by simp [hsz]; omega),← Array.getElem?_eq_getElem,Array.getElem?_setIfInBounds_ne (by omega)]
  exact hg
 ·rw [ConcN.Deaf_still t _ _ hst]; exact h.above i (by omega)
 ·have:=ConcN.CT.fork hA hct (x:=x) (y:=y) (by rw [show m+j - 1+1=m+j by omega]; exact hx) (by rw [show m+j - 1+1=m+j by omega]; exact hy) h.deaf0
  rw [show m+j - 1+1=m+(j+1) - 1 by omega] at this
  exact this
 ·rcases hmm op hop with rfl | rfl
  ·rw [hx.2]; simp
  ·rw [hy.2]; simp
 ·rw [ConcN.Deaf_still t _ _ hst]
  rcases Nat.lt_or_ge i j with hlt | hge
  ·rw [h.deafW i hlt,ConcN.upd_ne D _ (by omega)]
  ·obtain rfl:i=j:=by omega
   rw [ConcN.upd_same]
   exact h.above _ (Nat.le_refl _)
 ·rcases Nat.lt_or_ge i j with hlt | hge
  ·rw [ConcN.upd_ne D _ (by omega)] at hs
   obtain ⟨r,hr⟩:=h.rel i hlt hs
   refine ⟨r,hr.appNot fun op hop=>?_⟩
   rcases hmm op hop with rfl | rfl
   ·rw [hx.1]; omega
   ·rw [hy.1]; omega
  ·obtain rfl:i=j:=by omega
   rw [ConcN.upd_same] at hs
   simp at hs
 ·rcases Nat.lt_or_ge i j with hlt | hge
  ·rw [ConcN.upd_ne D _ (by omega)] at hs
   exact h.has i hlt hs r hr
  ·obtain rfl:i=j:=by omega
   rw [ConcN.upd_same] at hs
   simp at hs
 ·rcases hact k hk with ⟨e,_⟩ | ⟨e,_,h1,h2⟩
  ·rw [e]; exact yD (by have:=(h.vws.sim 0 (.inl rfl)).size; omega)
  ·rw [e]; exact h.low k (.inr ⟨h1,h2⟩) b hb
 ·rw [hnt op hop] at ha; cases ha
 ·rw [hnt op hop] at ha; cases ha
 ·rcases hmm op hop with rfl | rfl
  ·rw [hx.2]; trivial
  ·rw [hy.2]; trivial
end
end Go.Am
end
section
open List renaming map_map→ζ,mapM_map→ξ
namespace Go.Am
open Go.Conc Go.Conc.Lib
open Go.ConcN (CT Apart Ok0 OkW PermW RelBy CTag phi WD Vc Ssum sumTo sumTo_upd sumTo_upd_out OpenSt AllQuit isOpen isW3 isFin pend phi_mono phi_retag le_sumTo Vc_le Vc_upd others_uncounted bk_cell allQuit_of)
open Go.ConcR (KK wgBlock stA smA rd wr mk Bk bk_of_mute ofEvent_loc_mark ofEvent_cell ofEvent_mk)
section
variable {P:Program} {L:WgLink} {Wg:Nat} {p:Pl} {K An:Goroutine→Prop} {S:Nat→Prop} {w0:World} {m j:Nat} {gs:Array Goroutine} {w w':World} {sl:Option (Nat × Nat)} {t:Trace} {D:Nat→WD} {R:Nat→Tr} {V V':Nat→World} {tag tag':CTag} {d0:Nat} {a a':Goroutine} {st sm st' sm':Int} {es:Array Event} {r':Tr}
theorem bkS {es:Array Event} (h:∀ e∈es,Bk Wg e):∀ e∈es,Bk Wg e∨dI Wg e:=fun e he=>.inl (h e he)
set_option maxHeartbeats 1600000 in
theorem aJv (hKr:∀ g,K g→g.status=.running) (hAn:∀ g,An g→Dl P true (cR L.tWg Wg) (dI Wg) (fun d g=>d=1∧vK P L Wg K An d g) 1 g) (G:Geo Wg p S) (hn:p.n<2147483648)
  (ha:gs[0]? = some a) (hcs:CS P L Wg p K An tag j (R 0) d0 a (V 0)) (hcom:Com P L Wg p S w0 m j gs w t D R V d0) (hwg:w.heap[Wg]? = some (wgBlock L.tWg st sm)) (hmode:ConcN.Mode j D tag st sm)
  (hacq:tag=.ret→sS Wg m j t) (hrun:a.status=.running) (hstop:¬ (tag=.ret∧d0=0∧K a)) :
  ∃ M ops μ',runT P (crowd gs w sl) 0=(.next M,ops)∧MLt μ' (phi p.n (Vc j D) tag+Ssum j D,iP R (m+j),R 0)∧Inv P L Wg p K An S w0 m μ' M (t++ops):=by
 have hVj:=Vc_le j D
 have hb:=hcs.bound
 have hI:cR L.tWg Wg w:=⟨st,sm,hwg⟩
 have hsim0:=hcom.vws.sim 0 (.inl rfl)
 have hok0:=hcom.vws.ok 0 (.inl rfl)
 -- an idle step of a chain
 have idle:∀ {g':Goroutine} {es:Array Event} {r':Tr},tag≠.ret→stepG P true a w=.go g' w es→(∀ e∈es,Event.mute e=true∨dI Wg e)→(∀ v,CS P L Wg p K An tag j r' (deafBehind d0 es) g' v)→qP r' (R 0) →
   ∃ M ops μ',runT P (crowd gs w sl) 0=(.next M,ops)∧MLt μ' (phi p.n (Vc j D) tag+Ssum j D,iP R (m+j),R 0)∧Inv P L Wg p K An S w0 m μ' M (t++ops) :=
  fun hne hgo hmu hcs' hlt=>pY G ha hcom hgo (.refl Wg w) hwg (fun e he=>(hmu e he).imp bk_of_mute id) (fun v _=>hcs' v) hmode (fun e=>absurd e hne) (.inr ⟨rfl,hlt⟩)
 generalize hR:R 0=r at hcs
 cases hcs with
 | a1 hr h =>
  rename_i r1
  cases htr:r with
  | node f =>
   rw [htr] at h
   obtain ⟨_,hv,hs⟩:=h
   obtain ⟨g',v',w',es,hgo,hq,hgt⟩:=hs (V 0) w (.refl _) hsim0 hI
   have:=aUv (sl:=sl) G ha hcom hwg hmode (by simp) hgo hq (.a1 hr hgt) (by rw [hR,htr]; exact pE f _)
   rwa [hR,htr] at this
  | leaf =>
   rw [htr] at h
   obtain ⟨hd,_,hall⟩:=h
   obtain ⟨ho,rfl,rfl,_⟩:=hmode.open_inv trivial
   have hwg0:w.heap[Wg]? = some (wgBlock L.tWg ((Vc (p.n - (r1+1)) D:Nat) * KK:Int) 0):=by simpa [pend] using hwg
   obtain ⟨g',hgo,hdl⟩:=hall w (Vc (p.n - (r1+1)) D) (by omega) hwg0
   have hdd:deafBehind d0 #[rd (stA Wg),wr (stA Wg)]=d0:=by simp [deafBehind,rd,wr]
   have hT:=gF.set Wg w 0 (.int .u64 (((Vc (p.n - (r1+1)) D:Nat)+1) * KK))
   obtain ⟨tr,hgt⟩:=hdl.gt ((cD (V 0) _).okV hok0) (v:=gV (V 0) (w.setCell (stA Wg) (.int .u64 (((Vc (p.n - (r1+1)) D:Nat)+1) * KK)))) fun d g v1 he hk=>hk v1 ((cD _ _).trans he) (((cD _ _).trans he).okV hok0)
   rw [← (hR.trans htr)]
   refine nB G ha hcom hgo (hT.kept G hcom.pay) (hcom.turn hT) (fun x _=>cD _ _) (dJ.of_env (cD _ _)) (fun e he fn pos=>aKw (ConcN.bk_rw e he) fn pos) (fun e he x hx=>(bBz (S:=S) (ConcN.bk_rw e he) x hx).1) (fun e he=>aGz (ConcN.bk_rw e he)) (fun e he=>aLh (ConcN.bk_rw e he) (by simpa [World.setCell] using bD hwg0))
    (fun i _ r _=>hT.cells G i r) (tag':=.sp r1 3) (r':=tr) (by rw [hdd]; exact .go hr hgt) (sX hwg0 _) ?_ (by simp) (.inl (by simp only [phi]; omega))
   have e:(((Vc (p.n - (r1+1)) D:Nat):Int)+1) * KK=((Vc (p.n - (r1+1)) D+pend (.sp r1 3):Nat):Int) * KK:=by simp [pend]
   rw [e]
   exact .opn trivial ho (by simp)
 | go hr h =>
  rename_i r1
  cases htr:r with
  | node f =>
   rw [htr] at h
   obtain ⟨_,hv,hs⟩:=h
   obtain ⟨g',v',w',es,hgo,hq,hgt⟩:=hs (V 0) w (.refl _) hsim0 hI
   have:=aUv (sl:=sl) G ha hcom hwg hmode (by simp) hgo hq (.go hr hgt) (by rw [hR,htr]; exact pE f _)
   rwa [hR,htr] at this
  | leaf =>
   rw [htr] at h
   obtain ⟨rfl,_,hgo'⟩:=h
   obtain ⟨g',child,hsp,_,⟨tr,hgt⟩,hnext⟩:=hgo' (V 0) (.refl _)
   have hsp:=hsp w hsim0 hI
   obtain ⟨ho,rfl,rfl,_⟩:=hmode.open_inv trivial
   have hrun':=runT_crowd_spawn (P:=P) (sl:=sl) (i:=0) ha (by simpa using hsp)
   rw [hcom.size] at hrun'
   have hlt0:0<gs.size:=(Array.getElem?_eq_some_iff.1 ha).1
   have eV:Vc (p.n - (r1+1)+1) (ConcN.upd D (p.n - (r1+1)) ⟨7,0,0⟩)=Vc (p.n - (r1+1)) D+1:=by
    simp only [Vc,sumTo,ConcN.upd_same]
    rw [sumTo_upd_out D _ ConcN.cnt (Nat.le_refl _)]; rfl
   have eS:Ssum (p.n - (r1+1)+1) (ConcN.upd D (p.n - (r1+1)) ⟨7,0,0⟩)=Ssum (p.n - (r1+1)) D+7:=by
    simp only [Ssum,sumTo,ConcN.upd_same]
    rw [sumTo_upd_out D _ WD.stage (Nat.le_refl _)]
   have ho':OpenSt (p.n - (r1+1)+1) (ConcN.upd D (p.n - (r1+1)) ⟨7,0,0⟩):=fun i hi=>by
    by_cases e:i=p.n - (r1+1)
    ·subst e; rw [ConcN.upd_same]; simp
    ·rw [ConcN.upd_ne D _ e]; exact ho i (by omega)
   have ha':((gs.setIfInBounds 0 g').push child)[0]? = some g':=by
    rw [Array.getElem?_push_lt (by simp; omega),← Array.getElem?_eq_getElem]
    simp [hlt0]
   have ej:p.n - (r1+1)+1=p.n - r1:=by omega
   have hsp':∀ r0,Com P L Wg p S w0 m (p.n - (r1+1)+1) _ w _ _ (ConcN.upd (ConcN.upd R (m+(p.n - (r1+1))) tr) 0 r0) _ 0:=fun r0=>hcom.spawn G (a':=g') (r0:=r0) (child:=child) (x:={ g:=0,fn:=a.frame.fn,pos:=a.frame.place,act:=.go (m+(p.n - (r1+1))) }) (y:={ g:=m+(p.n - (r1+1)),fn:=child.frame.fn,pos:=a.frame.place,act:=.start }) ⟨rfl,rfl⟩ ⟨rfl,rfl⟩ (bD hwg) hgt
   rw [ej] at eV eS ho' hsp'
   have est:∀ tag',pend tag'=0→((Vc (p.n - (r1+1)) D+pend (.sp r1 3):Nat):Int) * KK=((Vc (p.n - r1) (ConcN.upd D (p.n - (r1+1)) ⟨7,0,0⟩)+pend tag':Nat):Int) * KK:=fun tag' hp=>by rw [eV,hp]; simp [pend]
   cases r1 with
   | zero =>
    obtain ⟨tr0,hk⟩:=hnext
    simp only [Nat.sub_zero] at hrun' hsp' eV eS ho' est
    refine ⟨_,_,(phi p.n (Vc p.n (ConcN.upd D (p.n - (0+1)) ⟨7,0,0⟩)) .w1+Ssum p.n (ConcN.upd D (p.n - (0+1)) ⟨7,0,0⟩),_,_),hrun',Prod.Lex.left _ _ (by simp only [phi]; have:=Vc_le p.n (ConcN.upd D (p.n - (0+1)) ⟨7,0,0⟩); omega),
     _,w,sl,p.n,_,_,_,.w1,0,g',_,_,rfl,ha',?_,hsp' tr0,hwg,?_,by simp,rfl⟩
    ·rw [ConcN.upd_same,ConcN.upd_same]; exact .w1 hk
    ·rw [est .w1 rfl]
     exact .opn trivial ho' (by simp)
   | succ r2 =>
    obtain ⟨tr0,hk⟩:=hnext
    refine ⟨_,_,(phi p.n (Vc (p.n - (r2+1)) (ConcN.upd D (p.n - (r2+1+1)) ⟨7,0,0⟩)) (.sp r2 4)+Ssum (p.n - (r2+1)) (ConcN.upd D (p.n - (r2+1+1)) ⟨7,0,0⟩),_,_),hrun',Prod.Lex.left _ _ (by simp only [phi]; omega),
     _,w,sl,p.n - (r2+1),_,_,_,.sp r2 4,0,g',_,_,rfl,ha',?_,hsp' tr0,hwg,?_,by simp,rfl⟩
    ·rw [ConcN.upd_same,ConcN.upd_same]; exact .a1 (by omega) hk
    ·rw [est (.sp r2 4) rfl]
     exact .opn trivial ho' (by simp)
 | w1 h =>
  cases htr:r with
  | node f =>
   rw [htr] at h
   obtain ⟨_,hv,hs⟩:=h
   obtain ⟨g',v',w',es,hgo,hq,hgt⟩:=hs (V 0) w (.refl _) hsim0 hI
   have:=aUv (sl:=sl) G ha hcom hwg hmode (by simp) hgo hq (.w1 hgt) (by rw [hR,htr]; exact pE f _)
   rwa [hR,htr] at this
  | leaf =>
   rw [htr] at h
   obtain ⟨hd,_,hall⟩:=h
   obtain ⟨ho,rfl,rfl,_⟩:=hmode.open_inv trivial
   have hwg0:w.heap[Wg]? = some (wgBlock L.tWg ((Vc p.n D:Nat) * KK:Int) 0):=by simpa [pend] using hwg
   obtain ⟨g',hgo,h0,hne⟩:=hall w (Vc p.n D) (by omega) hwg0
   have hdd:deafBehind d0 #[rd (stA Wg)]=d0:=by simp [deafBehind,rd]
   rw [← (hR.trans htr)]
   by_cases hv:Vc p.n D=0
   ·obtain ⟨n,hk⟩:=(h0 hv).count
    refine pY G ha hcom hgo (.refl Wg w) hwg (bkS ConcN.bk_rd) (tag':=.acq) (fun v _=>by rw [hdd]; exact .acq hk) ?_ (by simp) (.inl (by simp only [phi]; omega))
    have e:((Vc p.n D+pend .w1:Nat):Int) * KK=0:=by rw [hv]; simp [pend]
    rw [e]
    exact .fin trivial (allQuit_of ho hv)
   ·obtain ⟨n,hk⟩:=(hne hv).count
    refine pY G ha hcom hgo (.refl Wg w) hwg (bkS ConcN.bk_rd) (tag':=.w2 (Vc p.n D)) (fun v _=>by rw [hdd]; subst hd; exact .w2 hk) (hmode.reopen trivial trivial rfl (fun vs e=>by cases e; omega)) (by simp) (.inl (by simp only [phi]; omega))
 | w2 h =>
  rename_i vs n
  rw [← hR]
  rcases h.cases with ⟨hd,_,hall⟩ | ⟨n',rfl,_,g',es,hmu,hgo,h'⟩
  ·obtain ⟨ho,rfl,rfl,hw2⟩:=hmode.open_inv trivial
   obtain ⟨hle,h1⟩:=hw2 vs rfl
   have hwg0:w.heap[Wg]? = some (wgBlock L.tWg ((Vc p.n D:Nat) * KK:Int) 0):=by simpa [pend] using hwg
   obtain ⟨hhit,hmiss⟩:=hall w (Vc p.n D) (by omega) hwg0
   by_cases e:Vc p.n D=vs
   ·obtain ⟨g',hgo,hk⟩:=hhit e
    obtain ⟨n2,hk⟩:=hk.count
    exact pY G ha hcom hgo (gF.set Wg w 0 _) (sX hwg0 _) (bkS ConcN.bk_rw) (tag':=.w3) (fun v _=>by rw [show deafBehind d0 #[rd (stA Wg),wr (stA Wg)]=d0 by simp [deafBehind,rd,wr]]; exact .w3 hk) (.reg trivial ho (by omega)) (by simp) (.inl (by simp only [phi]; omega))
   ·obtain ⟨g',hgo,hk⟩:=hmiss e
    have hdd:deafBehind d0 #[rd (stA Wg)]=d0:=by simp [deafBehind,rd]
    have hk':Dl P true (cR L.tWg Wg) (dI Wg) (fun d g=>d=1∧vK P L Wg K An d g) d0 g':=hk.bind fun d g hk2=>by
     rw [hk2.1,hd]
     exact hAn g hk2.2
    obtain ⟨tr,hgt⟩:=hk'.gt (v:=V 0) hok0 (Stop:=aIr P L Wg K An) fun d g v1 _ hk=>⟨.leaf,hk⟩
    exact pY G ha hcom hgo (.refl Wg w) hwg (bkS ConcN.bk_rd) (tag':=.w1) (r':=tr) (fun v he=>by rw [hdd]; exact .w1 (hgt.env sW he)) (hmode.reopen trivial trivial rfl (by simp)) (by simp) (.inl (by simp only [phi]; omega))
  ·exact idle (by simp) (hgo w hI) hmu (fun v=>.w2 h') (by rw [hR]; exact iE n')
 | w3 h =>
  rename_i n
  rw [← hR]
  rcases h.cases with ⟨hs,hoff,hblk,htake⟩ | ⟨n',rfl,_,g',es,hmu,hgo,h'⟩
  ·cases hmode with
   | opn h1 _ _=>exact h1.elim
   | reg h1 h2 h3=>exact pY G ha hcom (hblk w _ hwg) (.refl Wg w) hwg (by simp) (tag':=.blk) (r':=Tr.nat n) (fun v _=>.blk ⟨hs,hoff,hblk,htake⟩) (.reg trivial h2 h3) (by simp) (.inr ⟨rfl,by rw [hR]; exact iE n⟩)
   | last L' h1 h2 h3 h4=>exact pY G ha hcom (hblk w _ hwg) (.refl Wg w) hwg (by simp) (tag':=.blk) (r':=Tr.nat n) (fun v _=>.blk ⟨hs,hoff,hblk,htake⟩) (.last L' trivial h2 h3 h4) (by simp) (.inr ⟨rfl,by rw [hR]; exact iE n⟩)
   | sema h2 =>
    obtain ⟨g',hgo,hk⟩:=htake w hwg
    obtain ⟨n2,hk⟩:=hk.count
    exact pY G ha hcom hgo (gF.set Wg w 1 _) (aVz hwg 0) (bkS ConcN.bk_sem) (tag':=.w4) (fun v _=>by rw [show deafBehind d0 (semEvents (smA Wg))=d0 by simp [deafBehind,semEvents]]; exact .w4 hk) (.fin trivial h2) (by simp) (.inl (by simp only [phi]; omega))
   | fin h1 _=>exact h1.elim
  ·exact idle (by simp) (hgo w hI) hmu (fun v=>.w3 h') (by rw [hR]; exact iE (n'+1))
 | blk h=>simp at hrun
 | w4 h =>
  rename_i n
  rw [← hR]
  rcases h.cases with ⟨_,hx⟩ | ⟨n',rfl,_,g',es,hmu,hgo,h'⟩
  ·obtain ⟨hq,rfl,rfl⟩:=hmode.fin_inv trivial
   obtain ⟨g',hgo,hk⟩:=hx w hwg
   obtain ⟨n2,hk⟩:=hk.count
   exact pY G ha hcom hgo (.refl Wg w) hwg (bkS ConcN.bk_rd) (tag':=.acq) (fun v _=>by rw [show deafBehind d0 #[rd (stA Wg)]=d0 by simp [deafBehind,rd]]; exact .acq hk) (.fin trivial hq) (by simp) (.inl (by simp only [phi]; omega))
  ·exact idle (by simp) (hgo w hI) hmu (fun v=>.w4 h') (by rw [hR]; exact iE n')
 | acq h =>
  rename_i n
  rw [← hR]
  rcases h.cases with ⟨hd,_,g',hgo,hk⟩ | ⟨n',rfl,_,g',es,hmu,hgo,h'⟩
  ·obtain ⟨hq,rfl,rfl⟩:=hmode.fin_inv trivial
   obtain ⟨n2,hk⟩:=hk.count
   have hlt':Wg<w.heap.size:=bD hwg
   refine nB G ha hcom (hgo w hI) ((gF.refl Wg w).kept G hcom.pay) (V':=V) hcom.vws (fun x _=>.refl _) (dJ.of_env (.refl _)) (fun e he fn pos=>?_) (fun e he x hx=>?_) (fun e he=>?_) (fun e he=>?_) (fun _ _ _ _=>rfl) (tag':=.ret) (r':=Tr.nat n2)
    (by rw [show deafBehind d0 #[mk (.acquire (stA Wg))]=0 by simp [deafBehind,mk,hd]]; exact .ret hk) hwg (.fin trivial hq) (fun _=>?_) (.inl (by simp only [phi]; omega))
   ·simp at he; subst he; exact ⟨rfl,fun x hx=>by simp [ofEvent_mk,MemAct.touch?] at hx⟩
   ·simp at he; subst he; simp [ofEvent_mk,MemAct.touch?] at hx
   ·simp at he; subst he; simp [mk]
   ·simp at he; subst he; rw [ofEvent_mk]; exact hlt'
   ·have e1:MemOp.ofEvents 0 a.frame.fn a.frame.place #[mk (.acquire (stA Wg))]=#[{ g:=0,fn:=a.frame.fn,pos:=a.frame.place,act:=.mark (.acquire (stA Wg)) }]:=by rw [ofEvents_eq]; simp [ofEvent_mk]
    have hy:(t++#[({ g:=0,fn:=a.frame.fn,pos:=a.frame.place,act:=.mark (.acquire (stA Wg)) }:MemOp)])[t.size]? = some { g:=0,fn:=a.frame.fn,pos:=a.frame.place,act:=.mark (.acquire (stA Wg)) }:=by simp
    have hm:=hcom.mpos
    refine ⟨t.size,by rw [e1,act?_of hy],by rw [e1]; simp [Trace.g?],by rw [e1]; exact ⟨0,by simp [Trace.g?],by rw [deaf_old (Nat.le_refl _)]; exact hcom.deaf0.trans hd⟩,fun i hi=>?_⟩
    obtain ⟨r,hr⟩:=hcom.rel i hi (by rw [hq i hi]; omega)
    exact ⟨r,hr.appOther Go.ConcR.g_of_ofEvents (by omega),lt_of_act? hr.act⟩
  ·exact idle (by simp) (hgo w hI) hmu (fun v=>.acq h') (by rw [hR]; exact iE n')
 | ret h =>
  rename_i n
  rw [← hR]
  rcases h.cases with ⟨hd,hk⟩ | ⟨n',rfl,_,g',es,hmu,hgo,h'⟩
  ·exact absurd ⟨rfl,hd,hk⟩ hstop
  ·have hm:=hcom.mpos
   exact pY G ha hcom (hgo w trivial) (.refl Wg w) hwg (fun e he=>.inl (bk_of_mute ((hmu e he).resolve_right id))) (tag':=.ret) (fun v _=>.ret h') hmode (fun _=>(hacq rfl).app fun i r _ hr=>hr.appOther Go.ConcR.g_of_ofEvents (by omega)) (.inr ⟨rfl,by rw [hR]; exact iE n'⟩)
end
end Go.Am
end
section
open List renaming map_map→ζ,mapM_map→ξ
namespace Go.Am
open Go.Conc Go.Conc.Lib
open Go.ConcN (CT Apart Ok0 OkW PermW RelBy CTag phi WD Vc Ssum sumTo sumTo_upd OpenSt AllQuit isOpen isW3 isFin pend phi_mono phi_retag le_sumTo Vc_le Vc_upd)
open Go.ConcR (KK wgBlock stA smA rd wr mk)
section
variable {P:Program} {L:WgLink} {Wg:Nat} {p:Pl} {K An:Goroutine→Prop} {S:Nat→Prop} {w0:World} {m j:Nat} {gs:Array Goroutine} {w w':World} {sl:Option (Nat × Nat)} {t:Trace} {D:Nat→WD} {R:Nat→Tr} {V V':Nat→World} {tag tag':CTag} {d0:Nat} {a a':Goroutine} {st sm st' sm':Int} {es:Array Event} {r':Tr} {Post:Value→World→Prop}
theorem CS.ret_j {d:Nat} {r:Tr} {v:World} (h:CS P L Wg p K An tag j r d a v) (e:tag=.ret):j=p.n:=by
 cases h <;> first | rfl | cases e
theorem bEf (hKr:∀ g,K g→g.status=.running) (G:Geo Wg p S) (ha:gs[0]? = some a) (hcs:CS P L Wg p K An tag j (R 0) d0 a (V 0)) (hcom:Com P L Wg p S w0 m j gs w t D R V d0) (hwg:w.heap[Wg]? = some (wgBlock L.tWg st sm)) (hmode:ConcN.Mode j D tag st sm)
  (hacq:tag=.ret→sS Wg m j t) {i:Nat} (h0:0<i) (him:i<m) {g:Goroutine} (hg:gs[i]? = some g) (hrun:g.status=.running) :
  ∃ M ops μ',runT P (crowd gs w sl) i=(.next M,ops)∧MLt μ' (phi p.n (Vc j D) tag+Ssum j D,iP R (m+j),R 0)∧Inv P L Wg p K An S w0 m μ' M (t++ops):=by
 obtain ⟨g1,q,hg1,hR,hq⟩:=hcom.old i h0 him
 obtain rfl:g=g1:=by rw [hg] at hg1; exact Option.some.inj hg1
 cases q with
 | zero=>rw [hq.1] at hrun; cases hrun
 | succ q =>
  rcases hq with ⟨hf,_⟩ | ⟨_,g',es,hm',hstp,hq'⟩
  ·rw [hf] at hrun; cases hrun
  obtain ⟨tag',r0,hcs',htag,hwk⟩:=hcs.wokenBy hKr g g' w
  have hrunT:=runT_crowd_go (P:=P) (sl:=sl) (i:=i) hg (by rw [show (i == 0)=false by simp; omega]; exact hstp w)
  have hcom':=hcom.stepO G h0 him hg hm' hq'
  have hcom'':Com P L Wg p S w0 m j ((gs.map (woken P g g' w)).setIfInBounds i g') w (t++MemOp.ofEvents i g.frame.fn g.frame.place es) D (ConcN.upd (ConcN.upd R i (Tr.nat q)) 0 r0) V d0 :=
   { hcom' with wk:=fun i' hi'=>by rw [ConcN.upd_ne (ConcN.upd R i (Tr.nat q)) r0 (show m+i'≠0 by omega)]; exact hcom'.wk i' hi',old:=fun i' h1 h2=>by rw [ConcN.upd_ne (ConcN.upd R i (Tr.nat q)) r0 (show i'≠0 by omega)]; exact hcom'.old i' h1 h2 }
  refine ⟨_,_,(phi p.n (Vc j D) tag'+Ssum j D,iP (ConcN.upd (ConcN.upd R i (Tr.nat q)) 0 r0) (m+j),r0),hrunT,?_,_,w,sl,j,D,_,V,tag',d0,woken P g g' w a,st,sm,rfl,?_,by rw [ConcN.upd_same]; exact hcs',hcom'',hwg,hmode.retag htag,?_,by rw [ConcN.upd_same]⟩
  ·rw [phi_retag p.n _ htag]
   refine Prod.Lex.right _ (Prod.Lex.left _ _ (aFy (k:=i) (by omega) (by omega) ?_ fun x h0 hx=>by rw [ConcN.upd_ne _ _ h0,ConcN.upd_ne _ _ hx]))
   rw [ConcN.upd_ne _ _ (by omega),ConcN.upd_same,hR]; exact iE q
  ·rw [Array.getElem?_setIfInBounds_ne (by omega),Array.getElem?_map,ha]; rfl
  ·intro e
   rcases htag with rfl | ⟨_,rfl⟩
   ·exact (hacq e).app fun i' r _ hr=>hr.appOther Go.ConcR.g_of_ofEvents (by omega)
   ·cases e
theorem aVt (hKr:∀ g,K g→g.status=.running) (ha:gs[0]? = some a) (hcs:CS P L Wg p K An tag j (R 0) d0 a (V 0)) (hcom:Com P L Wg p S w0 m j gs w t D R V d0) (hmode:ConcN.Mode j D tag st sm) :
  ∃ (i:Nat) (g:Goroutine),gs[i]? = some g∧g.status=.running:=by
 rcases hcs.status hKr with ⟨h,_⟩ | ⟨_,rfl⟩
 ·exact ⟨0,a,ha,h⟩
 have wk:∀ i,i<j→(D i).stage≠1→∃ (i:Nat) (g:Goroutine),gs[i]? = some g∧g.status=.running:=fun i hi hne=>by
  obtain ⟨g,hg,hs⟩:=hcom.wk i hi
  rcases hs.status with h | ⟨_,h⟩
  ·exact ⟨m+i,g,hg,h⟩
  ·exact absurd h hne
 cases hmode with
 | opn h1 _ _=>exact h1.elim
 | reg _ h2 h3 =>
  obtain ⟨i,hi,h5⟩:∃ i,i<j∧ConcN.cnt (D i)≠0:=Classical.byContradiction fun hno=>by
   have:Vc j D=0:=by
    have:∀ i,i<j→ConcN.cnt (D i)=0:=fun i hi=>Classical.byContradiction fun hne=>hno ⟨i,hi,hne⟩
    have e:=ConcN.sumTo_congr (f:=fun i=>ConcN.cnt (D i)) (g:=fun _=>0) (j:=j) this
    have z:∀ j,sumTo j (fun _=>0)=0:=fun j=>by induction j with
     | zero=>rfl
     | succ j ih=>simp [sumTo,ih]
    simp only [Vc]; rw [e,z]
   omega
  refine wk i hi fun e=>h5 ?_
  simp [ConcN.cnt,e]
 | last L' _ h2 h3 _=>exact wk L' h2 (by omega)
 | fin h1 _=>exact h1.elim
theorem bCf (hKr:∀ g,K g→g.status=.running) (ha:gs[0]? = some a) (hcs:CS P L Wg p K An tag j (R 0) d0 a (V 0)) (hcom:Com P L Wg p S w0 m j gs w t D R V d0):∀ g∈gs,awake g:=by
 intro g hg tm
 obtain ⟨i,hi⟩:=Array.mem_iff_getElem?.1 hg
 by_cases h0:i=0
 ·subst h0
  rw [ha] at hi; cases hi
  rcases hcs.status hKr with ⟨hs,_⟩ | ⟨hs,_⟩ <;> rw [hs] <;> simp
 ·have hlt:i<m+j:=by have:=(Array.getElem?_eq_some_iff.1 hi).1; rw [hcom.size] at this; omega
  by_cases him:i<m
  ·obtain ⟨g',q,hg',_,hq⟩:=hcom.old i (by omega) him
   rw [hi] at hg'; cases hg'
   rcases hq.status with h | h <;> rw [h] <;> simp
  ·obtain ⟨g',hg',hs⟩:=hcom.wk (i - m) (by omega)
   rw [show m+(i - m)=i by omega,hi] at hg'; cases hg'
   rcases hs.status with h | ⟨h,_⟩ <;> rw [h] <;> simp
theorem bFr (hKr:∀ g,K g→g.status=.running) (hAn:∀ g,An g→Dl P true (cR L.tWg Wg) (dI Wg) (fun d g=>d=1∧vK P L Wg K An d g) 1 g) (G:Geo Wg p S) (hn:p.n<2147483648)
  (hFin:∀ (gs:Array Goroutine) (w:World) (sl:Option (Nat × Nat)) (R:Nat→Tr) (V:Nat→World) (D:Nat→WD) (a:Goroutine) (t:Trace),gs[0]? = some a→K a→Com P L Wg p S w0 m p.n gs w t D R V 0→w.heap[Wg]? = some (wgBlock L.tWg 0 0)→AllQuit p.n D→sS Wg m p.n t→dD P Post (crowd gs w sl) t) :
  ∀ μ M t,Inv P L Wg p K An S w0 m μ M t→dD P Post M t:=by
 intro μ
 induction μ using bMj.induction with
 | _ μ ih =>
  rintro M t ⟨gs,w,sl,j,D,R,V,tag,d0,a,st,sm,rfl,ha,hcs,hcom,hwg,hmode,hacq,rfl⟩
  by_cases hstop:tag=.ret∧d0=0∧K a
  ·obtain ⟨rfl,rfl,hk⟩:=hstop
   obtain ⟨hq,rfl,rfl⟩:=hmode.fin_inv trivial
   obtain rfl:j=p.n:=hcs.ret_j rfl
   exact hFin gs w sl R V D a t ha hk hcom hwg hq (hacq rfl)
  obtain ⟨i,g,d,sl',hg,hrun,hst⟩:=crowd_pick (P:=P) (w:=w) (sl:=sl) (bCf hKr ha hcs hcom) (aVt hKr ha hcs hcom hmode)
  have hcs':=hcs.env (cD (V 0) (w.at d))
  have hcom':=hcom.at d
  have hwg':(w.at d).heap[Wg]? = some (wgBlock L.tWg st sm):=hwg
  have hm:=hcom.mpos
  by_cases h0:i=0
  ·subst h0
   obtain rfl:g=a:=by rw [ha] at hg; exact (Option.some.inj hg).symm
   obtain ⟨M,ops,μ',h1,h2,h3⟩:=aJv (sl:=sl') hKr hAn G hn ha hcs' hcom' hwg' hmode hacq hrun hstop
   exact dD.step (hst.trans h1) (ih μ' h2 M _ h3)
  have hlt:i<m+j:=by have:=(Array.getElem?_eq_some_iff.1 hg).1; rw [hcom.size] at this; omega
  by_cases him:i<m
  ·obtain ⟨M,ops,μ',h1,h2,h3⟩:=bEf (sl:=sl') hKr G ha hcs' hcom' hwg' hmode hacq (by omega) him hg hrun
   exact dD.step (hst.trans h1) (ih μ' h2 M _ h3)
  ·obtain ⟨i',rfl⟩:∃ i',i=m+i':=⟨i - m,by omega⟩
   obtain ⟨M,ops,μ',h1,h2,h3⟩:=aJt (sl:=sl') hKr G hn hcs.bound ha hcs' hcom' hwg' hmode hacq (by omega) hg hrun
   exact dD.step (hst.trans h1) (ih μ' h2 M _ h3)
end
end Go.Am
end
section
open List renaming map_map→ζ,mapM_map→ξ
namespace Go.Am
open Go.Conc Go.Conc.Lib
open Go.ConcN (CT Apart Ok0 OkW PermW RelBy CTag phi WD Vc Ssum sumTo sumTo_upd OpenSt AllQuit isOpen isW3 isFin pend)
open Go.ConcR (KK wgBlock stA smA rd wr mk)
def inV (v:World) (C:Nat):World:={ v with heap:=((v.heap.map yF).setIfInBounds C hole).push hole }
theorem rU (v:World) (C:Nat):(inV v C).heap.size=v.heap.size+1:=by simp [inV]
theorem aOs {v:World} {C:Nat} (h:C<v.heap.size):(inV v C).heap[C]? = some hole:=by simp [inV,Array.getElem?_push,h]
theorem aEa (v:World) (C:Nat):(inV v C).heap[v.heap.size]? = some hole:=by
 simp only [inV,Array.getElem?_push]
 simp
theorem wA {v:World} {C b:Nat} (h:b<v.heap.size) (hne:b≠C):(inV v C).heap[b]? = (v.heap[b]?).map yF:=by
 simp only [inV,Array.getElem?_push,Array.size_setIfInBounds,Array.size_map,if_neg (Nat.ne_of_lt h)]
 rw [Array.getElem?_setIfInBounds_ne (Ne.symm hne),Array.getElem?_map]
theorem aZq {v:World} {C b:Nat} (h:v.heap[b]? = some hole):(inV v C).heap[b]? = some hole:=by
 have hlt:=bD h
 by_cases e:b=C
 ·subst e; exact aOs hlt
 ·rw [wA hlt e,h,Option.map_some,yE]
theorem aBt {v:World} {C b:Nat} (h:b≤v.heap.size):oU (inV v C) b:=by
 rcases Nat.lt_or_eq_of_le h with hlt | rfl
 ·by_cases e:b=C
  ·subst e; exact qN (aOs hlt)
  ·obtain ⟨c,t,e'⟩:=oM v.heap[b]
   exact ⟨c,t,by rw [wA hlt e,Array.getElem?_eq_getElem hlt,Option.map_some,e']⟩
 ·exact qN (aEa v C)
theorem aZp (v:World) (C:Nat):OkV (inV v C):=fun b o ho=>by
 have hlt:=bD ho
 rw [rU] at hlt
 obtain ⟨c,t,e⟩:=aBt (v:=v) (C:=C) (b:=b) (by omega)
 rw [e] at ho; obtain rfl:=Option.some.inj ho; rfl
theorem bHm {v w:World} (h:Sim v w) (C:Nat) (o:Obj):Sim (inV v C) { w with heap:=w.heap.push o }:=by
 refine ⟨h.tape,h.drawn,h.os,h.output,by rw [rU]; simp [h.size],fun b x hx=>?_⟩
 have hlt:=bD hx
 rw [rU] at hlt
 by_cases e:b=v.heap.size
 ·subst e; rw [aEa] at hx; exact .inl (Option.some.inj hx).symm
 ·by_cases e':b=C
  ·subst e'; rw [aOs (by omega)] at hx; exact .inl (Option.some.inj hx).symm
  ·rw [wA (by omega) e'] at hx
   have:=(aHt h).blk b x (by rw [lW]; exact hx)
   simp only [Array.getElem?_push]
   rw [if_neg (by rw [← h.size]; exact e)]
   exact this
structure bJk (p:Pl) (v v':World):Prop where
 ok:OkV v'
 tape:v'.tape=v.tape
 os:v'.os=v.os
 output:v'.output=v.output
 size:v.heap.size<v'.heap.size
 old:∀ b,b<v.heap.size→b≠p.C→v'.heap[b]? = v.heap[b]?
 val:∃ cs:Array Value,v'.heap[p.C]? = some (.cells cs p.ety (0,0))∧cs.size=p.tot∧∀ i,i<p.n→∀ r,r<p.wd→cs[i * p.wd+r]? = some (p.val i r)
 new:∀ b,v.heap.size≤b→b<v'.heap.size→v'.heap[b]? = some hole
def KF (P:Program) (W0:World) (Post:Value→World→Prop) (p:Pl) (v:World) (g:Goroutine):Prop:=g.status=.running∧∀ v',bJk p v v'→dO P W0 Post g v'
section
variable {P:Program} {L:WgLink} {p:Pl} {W0:World} {Post:Value→World→Prop} {S:Nat→Prop}
theorem bMy {Wg m n:Nat} {gs:Array Goroutine} {w w0:World} {t:Trace} {D:Nat→WD} {R:Nat→Tr} {V:Nat→World} (hcom:Com P L Wg p S w0 m n gs w t D R V 0) (hacq:sS Wg m n t):t.HandedOver:=by
 intro i g hgi hne hc
 have hm:=hcom.mpos
 by_cases hlt:g<m
 ·exact hcom.over i g hgi hne hlt hc
 obtain ⟨q,h1,h2,h3,h4⟩:=hacq
 obtain ⟨op,ho,rfl⟩:=Option.map_eq_some_iff.1 hgi
 have:=hcom.ct.gs i op ho
 obtain ⟨r,hr,hrq⟩:=h4 (op.g - m) (by omega)
 rw [show m+(op.g - m)=op.g by omega] at hr
 have edge:HappensBefore t r q:=.single (.inr ⟨.marked hrq (.inr hr.act) h1 (fun k _ _=>hcom.norel k),hr.heard,h3⟩)
 have hle:i≤r:=Nat.le_of_not_lt fun hlt=>hr.after i hlt hgi hc
 rcases Nat.lt_or_ge i r with hlt | hge
 ·exact ⟨q,h2,.trans (.single (.inl ⟨hlt,op.g,hgi,hr.g⟩)) edge⟩
 ·obtain rfl:i=r:=by omega
  exact ⟨q,h2,edge⟩
theorem WS.quits {Wg i s d:Nat} {r:Tr} {g:Goroutine} {v:World} (h:WS P L Wg p i s r d g v) (hs:s=1):∃ q,QuitsD P q d g:=by
 cases h <;> first | exact absurd hs (by decide) | exact ⟨_,‹_›⟩
set_option maxHeartbeats 1600000 in
theorem bLv {v1 ws:World} (hsim:Sim v1 ws) (hok:OkV v1) (hKp:Kp W0 v1 ws) (hS:∀ b,S b→v1.heap[b]? = some hole) {cs0:Array Value} (hC:v1.heap[p.C]? = some (.cells cs0 p.ety (0,0))) (hCs:cs0.size=p.tot) (hty:p.ety≠0)
  {m:Nat} {gs:Array Goroutine} {w:World} {sl:Option (Nat × Nat)} {R:Nat→Tr} {V:Nat→World} {D:Nat→WD} {a:Goroutine} {t:Trace} (ha:gs[0]? = some a) (hK:KF P W0 Post p v1 a)
  (hcom:Com P L ws.heap.size p S { ws with heap:=ws.heap.push (wgBlock L.tWg 0 0) } m p.n gs w t D R V 0) (hwg:w.heap[ws.heap.size]? = some (wgBlock L.tWg 0 0)) (hq:AllQuit p.n D) (hacq:sS ws.heap.size m p.n t):dD P Post (crowd gs w sl) t:=by
 have hm:=hcom.mpos
 have hsz:v1.heap.size=ws.heap.size:=hsim.size
 have hwlt:=bD hwg
 have hClt:=bD hC
 obtain ⟨cs,fz,hcs,hcn,hfz⟩:=hcom.pay
 have hstay:∀ b,b<ws.heap.size→(b≠p.C∨p.tot=0)→w.heap[b]? = ws.heap[b]? := fun b hb hne=>by
  rw [hcom.stay b hb hne]; simp only [Array.getElem?_push]; rw [if_neg (by omega)]
 generalize hv:({ v1 with heap:=v1.heap.setIfInBounds p.C (.cells cs p.ety (0,0))++Array.replicate (w.heap.size - v1.heap.size) hole,drawn:=w.drawn }:World)=v'
 have gC:v'.heap[p.C]? = some (.cells cs p.ety (0,0)):=by
  rw [← hv]; simp only
  rw [Array.getElem?_append_left (by simpa using hClt),Array.getElem?_setIfInBounds_self_of_lt hClt]
 have gO:∀ b,b<v1.heap.size→b≠p.C→v'.heap[b]? = v1.heap[b]? := fun b hb hne=>by
  rw [← hv]; simp only
  rw [Array.getElem?_append_left (by simpa using hb),Array.getElem?_setIfInBounds_ne (Ne.symm hne)]
 have gS:v'.heap.size=w.heap.size:=by rw [← hv]; simp; omega
 have gN:∀ b,v1.heap.size≤b→b<v'.heap.size→v'.heap[b]? = some hole:=fun b h1 h2=>by
  rw [gS] at h2
  rw [← hv]; simp only
  rw [Array.getElem?_append_right (by simpa using h1),Array.getElem?_replicate]
  simp; omega
 have gok:OkV v':=fun b o ho=>by
  have hlt:=bD ho
  by_cases e:b=p.C
  ·subst e; rw [gC] at ho; obtain rfl:=Option.some.inj ho; rfl
  ·rcases Nat.lt_or_ge b v1.heap.size with h | h
   ·rw [gO b h e] at ho; exact hok b o ho
   ·rw [gN b h hlt] at ho; obtain rfl:=Option.some.inj ho; rfl
 have gsim:Sim v' w:=by
  refine ⟨?_,?_,?_,?_,gS,fun b o ho=>?_⟩
  ·rw [← hv,hcom.like.1]; exact hsim.tape
  ·rw [← hv]
  ·rw [← hv,hcom.like.2.1]; exact hsim.os
  ·rw [← hv,hcom.like.2.2]; exact hsim.output
  ·have hlt:=bD ho
   by_cases e:b=p.C
   ·subst e; rw [gC] at ho; rw [hcs]; obtain rfl:=Option.some.inj ho
    by_cases hz:cs.size=0
    ·exact .inr (.inr ⟨cs,p.ety,fz,by rw [hz],rfl⟩)
    ·rw [hfz hz]; exact .inr (.inl rfl)
   ·rcases Nat.lt_or_ge b v1.heap.size with h | h
    ·rw [gO b h e] at ho
     rw [hstay b (by omega) (.inl e)]; exact hsim.blk b o ho
    ·rw [gN b h hlt] at ho; exact .inl (Option.some.inj ho).symm
 have hF:bJk p v1 v':=by
  refine ⟨gok,by rw [← hv],by rw [← hv],by rw [← hv],by omega,gO,⟨cs,gC,hcn,fun i hi r hr=>?_⟩,gN⟩
  have:=hcom.has i hi (by rw [hq i hi]; omega) r hr
  simpa [World.cell?,Pl.cell,hcs] using this
 have hover:=bMy hcom hacq
 have hquit:∀ i,0<i→∀ g,gs[i]? = some g→∃ q,QuitsD P q (Deaf t i) g:=fun i h0 g hg=>by
  have hlt:i<m+p.n:=by have:=(Array.getElem?_eq_some_iff.1 hg).1; rw [hcom.size] at this; exact this
  by_cases him:i<m
  ·obtain ⟨g',q,hg',_,hqq⟩:=hcom.old i h0 him
   rw [hg] at hg'; cases hg'; exact ⟨q,hqq⟩
  ·obtain ⟨g',hg',hs⟩:=hcom.wk (i - m) (by omega)
   rw [show m+(i - m)=i by omega,hg] at hg'; cases hg'
   obtain ⟨q,hqq⟩:=hs.quits (hq (i - m) (by omega))
   have:=hcom.deafW (i - m) (by omega)
   rw [show m+(i - m)=i by omega] at this
   exact ⟨q,by rw [this]; exact hqq⟩
 have hqf:∃ q:Nat→Nat,∀ i g,0<i→gs[i]? = some g→QuitsD P (q i) (Deaf t i) g:=by
  classical
  refine Classical.axiomOfChoice (r:=fun i q=>∀ g,0<i→gs[i]? = some g→QuitsD P q (Deaf t i) g) (fun i=>?_) |>.elim fun q h=>⟨q,fun i g h0 hg=>h i g h0 hg⟩
  by_cases h:∃ g,0<i∧gs[i]? = some g
  ·obtain ⟨g,h0,hg⟩:=h
   obtain ⟨q,hqq⟩:=hquit i h0 g hg
   exact ⟨q,fun g' _ hg'=>by rw [hg] at hg'; cases hg'; exact hqq⟩
  ·exact ⟨0,fun g h0 hg=>(h ⟨g,h0,hg⟩).elim⟩
 obtain ⟨q,hqf⟩:=hqf
 refine hK.2 v' hF v' (.refl _) gok (ShW S ws.heap.size) gs w sl t q (fun b hb=>?_) gsim ha ⟨fun i g h0 hg=>hqf i g h0 hg,fun i hi=>hcom.above i (by rw [← hcom.size]; exact hi)⟩ ⟨hcom.ct.nr,fun i x hx hmm=>?_,hover,hcom.deaf0,hcom.seen⟩
  ⟨hcom.ct.quiet,hcom.mem,fun i op hop=>by have:=hcom.ct.gs i op hop; rw [hcom.size]; omega⟩ (fun b o hb ho=>?_)
 ·rcases hb with hb | rfl
  ·have h:=hS b hb
   have hlt:=bD h
   rw [gO b hlt (fun e=>by subst e; rw [hC] at h; injection h with h; injection h with _ e2 _; exact hty e2)]; exact h
  ·exact gN _ (by omega) (by omega)
 ·rcases hcom.kn i x hx with h | h | ⟨⟨g,hg,hgm⟩,hk⟩
  ·exact .inl h
  ·exact .inr h
  ·obtain ⟨q',hq1,hq2⟩:=hover i g hg (by omega) ⟨x,hx,hmm,.inl hk⟩
   obtain ⟨z,hz,hzg⟩:=Option.map_eq_some_iff.1 hq1
   exact .inl ⟨q',z,hz,hzg,.inr hq2⟩
 ·obtain ⟨h1,c,ty,h2⟩:=hKp b o hb ho
  have hlt:=bD h2
  by_cases e:b=p.C
  ·subst e
   rw [hC] at h2
   injection h2 with h2; injection h2 with e1 e2 e3
   subst e1; subst e2
   have hz:cs0.size=0:=by injection e3 with _ e4; exact e4.symm
   have hcz:cs.size=0:=by omega
   exact ⟨(hstay _ (by omega) (.inr (by omega))).trans h1,cs,p.ety,by rw [gC,hcz]⟩
  ·exact ⟨(hstay b (by omega) (.inl e)).trans h1,c,ty,(gO b hlt e).trans h2⟩
theorem aRj {g0:Goroutine} {g1:Nat→Goroutine} {v:World} (hrun:g0.status=.running)
  (halloc:∀ v1 w,Env v v1→OkV v1→Sim v1 w→stepG P true g0 w=.go (g1 w.heap.size) { w with heap:=w.heap.push (wgBlock L.tWg 0 0) } #[])
  (hC:∃ cs:Array Value,v.heap[p.C]? = some (.cells cs p.ety (0,0))∧cs.size=p.tot) (hty:p.ety≠0) (hn:p.n<2147483648)
  (hscr:∀ v1,Env v v1→OkV v1→∃ An:Goroutine→Prop,(∀ g,An g→Dl P true (cR L.tWg v1.heap.size) (dI v1.heap.size) (fun d g=>d=1∧vK P L v1.heap.size (KF P W0 Post p v1) An d g) 1 g) ∧
   pT P L v1.heap.size p (KF P W0 Post p v1) An p.n (g1 v1.heap.size) (inV v1 p.C)):dO P W0 Post g0 v:=by
 refine xR hrun fun v1 w he hok hsim hKp=>.inl ⟨_,_,_,halloc v1 w he hok hsim,fun S gs sl t q hS hg0 hL hP hTd=>?_⟩
 have et:t++MemOp.ofEvents 0 g0.frame.fn g0.frame.place #[]=t:=by rw [ofEvents_eq]; simp
 rw [et] at hL ⊢
 obtain ⟨cs0,hC,hCs⟩:=hC
 have hC1:v1.heap[p.C]? = some (.cells cs0 p.ety (0,0)):=by rw [he.get (bD hC)]; exact hC
 have hClt:=bD hC1
 have hsz:v1.heap.size=w.heap.size:=hsim.size
 obtain ⟨An,hAn,hscr⟩:=hscr v1 he hok
 rw [hsz] at hAn hscr
 have hlt0:0<gs.size:=(Array.getElem?_eq_some_iff.1 hg0).1
 have hwC:∃ f,w.heap[p.C]? = some (.cells cs0 p.ety f)∧(cs0.size≠0→f=(0,0)):=by
  rcases hsim.blk _ _ hC1 with e | e | ⟨c,e',f',e,h⟩
  ·injection e with e1 e2 e3; exact absurd e2 hty
  ·exact ⟨_,e,fun _=>rfl⟩
  ·injection e with e1 e2 e3; subst e1; subst e2
   refine ⟨f',h,fun hz=>?_⟩
   injection e3 with _ e4; exact absurd e4.symm hz
 have G:Geo w.heap.size p S:=⟨by omega,fun hs=>by
  have:=hS _ hs
  rw [hC1] at this; injection this with this; injection this with _ e2 _; exact hty e2⟩
 have hfar:∀ i x,touchAt t i=some x→∀ a,x.loc=.cell a→a.block<w.heap.size:=fun i x hx a e=>by
  obtain ⟨op,hop,hox⟩:=touch_of hx
  have:=aAo (hP.seen op (Array.mem_of_getElem? hop)) hox
  rw [e] at this; exact this
 have hpay0:aTs p { w with heap:=w.heap.push (wgBlock L.tWg 0 0) }:=by
  obtain ⟨f,h1,h2⟩:=hwC
  refine ⟨cs0,f,?_,hCs,h2⟩
  simp only [Array.getElem?_push]
  rw [if_neg (by omega)]; exact h1
 have hcom:∀ R:Nat→Tr,(∀ i,0<i→i<gs.size→R i=Tr.nat (q i))→Com P L w.heap.size p S { w with heap:=w.heap.push (wgBlock L.tWg 0 0) } gs.size 0 gs { w with heap:=w.heap.push (wgBlock L.tWg 0 0) } t (fun _=>⟨0,0,0⟩) R (fun _=>inV v1 p.C) 0:=fun R hR=>by
  have a0:∀ k,fX gs.size 0 k→k=0:=fun k hk=>hk.elim id fun x=>by omega
  have hfree:∀ l,¬ dC (ShW S w.heap.size) l→Perm t 0 l:=fun l hl i x hx e=>by
   rcases hP.known i x hx (hTd.mem i x hx) with h | ⟨h,_⟩
   ·exact h
   ·refine absurd ?_ hl
    rw [← e]
    cases hx':x.loc with
    | cell a=>rw [hx'] at h; exact .inl h
    | _=>rw [hx'] at h; exact h.elim
  refine ⟨hlt0,rfl,fun i hi=>by omega,fun i h1 h2=>?_,fun i hi=>hL.above i hi,⟨fun i op x hop hx hs=>?_,fun k h1 h2 l hl=>absurd hl.2.1 (by have:=hl.1; omega),fun k h1 h2 l hl=>absurd hl.2.1 (by have:=hl.1; omega),fun l hl _=>hfree l hl,fun l hl _=>PermW.of (hfree l hl),hP.clean,fun i op hop=>by have:=hTd.num i op hop; omega⟩,
   fun i hi=>?_,hP.hears,fun i hi=>by omega,fun i hi=>by omega,fun i hi=>by omega,hpay0,⟨fun k hk=>bHm hsim _ _,fun k hk=>aZp _ _,fun k k' hk hk' hne=>absurd ((a0 k hk).trans (a0 k' hk').symm) hne⟩,fun k hk b hb=>aBt (by omega),fun k hk=>aOs hClt,fun k hk b hb=>?_,fun b hb hne=>rfl,⟨rfl,rfl,rfl⟩,fun i x hx=>?_,hTd.mem,fun i g hg hne _ hc=>hP.over i g hg hne hc,fun op hop=>MemAct.low_mono (by simp) (hP.seen op hop)⟩
  ·obtain ⟨g,hg⟩:∃ g,gs[i]? = some g:=⟨_,Array.getElem?_eq_getElem h2⟩
   exact ⟨g,q i,hg,hR i h1 h2,hL.old i g h1 hg⟩
  ·have hxt:touchAt t i=some x:=by rw [touchAt_of hop]; exact hx
   refine hTd.quiet i op x hop hx ?_
   cases hx':x.loc with
   | cell a =>
    rw [hx'] at hs
    rcases hs with hs | hs
    ·exact hs
    ·have:=hfar i x hxt a hx'; omega
   | _=>rw [hx'] at hs; exact hs.elim
  ·obtain ⟨op,hop,hoa⟩:=Option.map_eq_some_iff.1 hi
   have:=hP.seen op (Array.mem_of_getElem? hop)
   rw [hoa] at this
   exact absurd this (Nat.lt_irrefl _)
  ·rcases hb with hb | rfl
   ·exact aZq (hS b hb)
   ·rw [← hsz]; exact aEa _ _
  ·rcases hP.known i x hx (hTd.mem i x hx) with h | ⟨h,hk⟩
   ·exact .inl h
   ·refine .inr (.inl ⟨?_,hk⟩)
    cases hx':x.loc with
    | cell a=>rw [hx'] at h; exact .inl h
    | _=>rw [hx'] at h; exact h.elim
 have hwg:({ w with heap:=w.heap.push (wgBlock L.tWg 0 0) }:World).heap[w.heap.size]? = some (wgBlock L.tWg 0 0):=by simp
 have hmode:∀ tag,isOpen tag→pend tag=0→(∀ vs,tag≠.w2 vs)→ConcN.Mode 0 (fun _=>(⟨0,0,0⟩:WD)) tag 0 0:=fun tag h1 h2 h3=>by
  have:=ConcN.Mode.opn (j:=0) (D:=fun _=>(⟨0,0,0⟩:WD)) h1 (fun i hi=>by omega) (fun vs e=>absurd e (h3 vs))
  simpa [Vc,sumTo,h2] using this
 have hrest:∀ μ M t,Inv P L w.heap.size p (KF P W0 Post p v1) An S { w with heap:=w.heap.push (wgBlock L.tWg 0 0) } gs.size μ M t→dD P Post M t :=
  bFr (fun g h=>h.1) hAn G hn fun gs' w' sl' R V D a t' ha hk hcom' hwg' hq hacq=>bLv hsim hok hKp hS hC1 hCs hty ha hk hcom' hwg' hq hacq
 cases hpn:p.n with
 | zero =>
  rw [hpn] at hscr
  obtain ⟨tr,hk⟩:=hscr
  refine hrest _ _ _ ⟨gs,_,sl,0,_,fun i=>if i=0 then tr else Tr.nat (q i),_,.w1,0,_,0,0,rfl,hg0,?_,hcom _ fun i h0 _=>if_neg (by omega),hwg,hmode .w1 trivial rfl (by simp),by simp,rfl⟩
  have:=CS.w1 (p:=p) hk
  rw [hpn] at this
  exact this
 | succ r =>
  rw [hpn] at hscr
  obtain ⟨tr,hk⟩:=hscr
  refine hrest _ _ _ ⟨gs,_,sl,0,_,fun i=>if i=0 then tr else Tr.nat (q i),_,.sp r 4,0,_,0,0,rfl,hg0,?_,hcom _ fun i h0 _=>if_neg (by omega),hwg,hmode (.sp r 4) trivial rfl (by simp),by simp,rfl⟩
  have:=CS.a1 (p:=p) (r:=r) (by omega) hk
  rw [show p.n - (r+1)=0 by omega] at this
  exact this
end
end Go.Am
end
section
open List renaming map_map→ζ,mapM_map→ξ
namespace Go.Am
open Go.Conc
section
variable {P:Program} [M:Mch P]
theorem aNe {Win:Goroutine→World→Prop} (hW:M.Fam Win) {ops:Array Oper} {b:Frame} {k:List Item} {cs:List Frame} (hb:lM b) {Q:Exit→Act→World→Prop} {r:Nat}:∀ (l:List Oper) (n:Nat) (a:Act) (v:World),OkV v→(∀ j o,l[j]? = some o→ops[n+j]? = some o)→fY P ops Q l a v →
  (∀ a' v',OkV v'→Q .normal a' v'→Win (G (b.at a' (.inRegion ops (List.range' (n+l.length) r)::k)) cs) v')→Win (G (b.at a (.inRegion ops (List.range' n (l.length+r))::k)) cs) v
 | [],n,a,v,hv,_,h,hk=>by simpa using hk a v hv h
 | o::l,n,a,v,hv,hl,h,hk=>by
  have ho:ops[n]? = some o:=by simpa using hl 0 o rfl
  have ih:=fun a v hv h=>aNe hW hb (Q:=Q) (r:=r) l (n+1) a v hv (fun j o hj=>by have:=hl (j+1) o (by simpa using hj); rw [← this]; congr 1; omega) h (fun a' v' hv' hq=>by have:=hk a' v' hv' hq; rwa [show n+1+l.length=n+(o::l).length by simp; omega])
  rw [show (o::l).length+r=(l.length+r)+1 by simp; omega,List.range'_succ]
  unfold fY at h
  split at h
  ·rename_i hw
   exact aCq hW hb ho hw hv h fun a' v' hv' h'=>ih a' v' hv' h'
  ·rename_i hw
   exact qV hW ho hw hv (ih _ v hv h)
theorem aJf {Win:Goroutine→World→Prop} (hW:M.Fam Win) {Gx:Ctx} {N:Nat} {ds:List Deferred} {σ:St} {a:Act} {v:World} {id:Nat} {ops:Array Oper} {l1 l2:List Oper} {b:Frame} {k:List Item} {cs:List Frame} {Q:St→Prop}
  (hb:lM b) (hops:ops.toList=l1++l2) (hdst:∀ o∈l1,∀ d,o.dst=some d→d<N∧Gx.Z d=none) (hsr:SR Gx N ds σ a v) (h:OWd P ops l1 σ [] (fun σ' con=>aIu σ' con Q .mk) .mk)
  (hk:∀ σ' a' v',OkV v'→Q σ'→SR Gx N ds σ' a' v'→Win (G (b.at a' (.inRegion ops (List.range' l1.length l2.length)::k)) cs) v'):Win (G (b.at a (.code (.region id ops false)::k)) cs) v:=by
 have hv:OkV v:=hsr.2.2.1
 refine aO hW rfl hv (fun w=>stepG_region) ?_
 have hsz:ops.size=l1.length+l2.length:=by rw [← Array.length_toList,hops,List.length_append]
 rw [List.range_eq_range',hsz]
 obtain ⟨hn0,hwf,hag⟩:=oW hsr
 obtain ⟨h1,h2⟩:=hag σ.H fun _ _ h=>h
 have:=aDl (k:=fun σ' con=>Q (fin σ' con)) (Q':=fun e a' v'=>e=.normal∧∃ σ',Q σ'∧SR Gx N ds σ' a' v') (fun σ' con' s a w hq hn' hwf' hag' hr=>⟨rfl,_,hq,zK hn' hwf' hag' hr⟩) l1 σ [] _ a v hdst hn0 hwf h1 h2 h
 refine aNe hW hb l1 0 a v hv (fun j o hj=>?_) this fun a' v' hv' hq=>?_
 ·rw [Nat.zero_add,← Array.getElem?_toList,hops,List.getElem?_append_left (List.getElem?_eq_some_iff.1 hj).1]; exact hj
 ·obtain ⟨_,σ',hq1,hq2⟩:=hq
  rw [Nat.zero_add]
  exact hk σ' a' v' hv' hq1 hq2
end
theorem aEt {v:World} {N:Nat} {a:Act} {sl:List (Nat × AV)} {Z:Nat→Option Value} (hok:OkV v) (hN:a.tmps.size=N) (hZ:∀ t x,Z t=some x→a.tmps.getD t undef=x)
  (hs:∀ t,V (fun b=>b<v.heap.size) v (fun _=>none) (kI sl t) (a.tmps.getD t undef)):SR ⟨v,fun b=>b<v.heap.size,bF,fun _=>True,Z⟩ N a.defers (StL sl none []) a v:=by
 have hH:∀ id,(StL sl none []).H id=none:=fun id=>by
  cases id <;> simp [StL,bJa,vI]
 refine ⟨fun id _=>hH id,fun h=>by simp [StL] at h,hok,fun b=>b<v.heap.size,fun _=>none,⟨.refl _ _ _,fun b h=>h,fun b h=>.inl h,fun _ _ h=>by simp at h,fun _ _ _ h=>by simp at h,fun _ _ _ h=>by simp at h,fun _ _ _ _ _ h=>by simp at h⟩,fun id=>by rw [hH]; simp,hs,⟨hN,hZ⟩,rfl,fun _ h=>by simp at h⟩
theorem qY {F:Nat→Prop} {v:World} {ι:Nat→Option Nat} {T:Nat→Value}:∀ (sl:List (Nat × AV)),(∀ x∈sl,V F v ι x.2 (T x.1))→∀ t,V F v ι (kI sl t) (T t)
 | [],_,t=>by exact .any _
 | (n,x)::sl,h,t=>by
  have ih:=qY sl (fun y hy=>h y (List.mem_cons_of_mem _ hy)) t
  have h0:=h (n,x) (List.mem_cons_self ..)
  by_cases e:t=n
  ·subst e; rw [kI,upd_same]; exact h0
  ·rw [kI,upd_ne _ _ e]; exact ih
end Go.Am
end
section
open List renaming map_map→ζ,mapM_map→ξ
namespace Go.Am
open Go Go.Conc.Lib Go.Proofs
def bM:WgLink:={ add:=71,done:=73,wait:=75,relMerge:=107,disable:=108,enable:=109,inBubble:=110,associate:=111,fatal:=112,uOr:=113,uAdd:=114,raceRead:=115,uLoad:=116,uStore:=117,disassociate:=118,semrelease:=119,acquire:=122,isAssociated:=123,uCas:=124,raceWrite:=125,semacquire:=126,orU64:=165,addU64:=166,loadU64:=167,storeU64:=168,casU64:=173,tWgP:=149,tUP:=151,tAssoc:=152,tWg:=119,tAU:=117,tU64:=51,tUint:=94,tU32:=89,tPU32:=155,tPAU:=199,tPU64:=201,tNoCopy:=113,tANoCopy:=114,tAlign64:=115 }
theorem aAl:WgLib Tryz.prog bM :=
  ⟨Tryz.func71,Tryz.func73,Tryz.func75,Tryz.func107,Tryz.func108,Tryz.func109,Tryz.func110,Tryz.func111,Tryz.func112,Tryz.func113,Tryz.func114,Tryz.func115,Tryz.func116,Tryz.func117,Tryz.func118,Tryz.func119,Tryz.func122,Tryz.func123,Tryz.func124,Tryz.func125,Tryz.func126,Tryz.func165,Tryz.func166,Tryz.func167,Tryz.func168,Tryz.func173,Tryz.underlying149,Tryz.runUnderlying149,Tryz.sizeOf149,Tryz.isAgg149,Tryz.zeroValue149,Tryz.underlying151,Tryz.runUnderlying151,Tryz.sizeOf151,Tryz.isAgg151,Tryz.zeroValue151,Tryz.underlying152,Tryz.runUnderlying152,Tryz.sizeOf152,Tryz.isAgg152,Tryz.zeroValue152,Tryz.underlying119,Tryz.runUnderlying119,Tryz.sizeOf119,Tryz.isAgg119,Tryz.zeroValue119,Tryz.underlying117,Tryz.runUnderlying117,Tryz.sizeOf117,Tryz.isAgg117,Tryz.zeroValue117,Tryz.underlying51,Tryz.runUnderlying51,Tryz.sizeOf51,Tryz.isAgg51,Tryz.zeroValue51,Tryz.underlying94,Tryz.runUnderlying94,Tryz.sizeOf94,Tryz.isAgg94,Tryz.zeroValue94,Tryz.underlying89,Tryz.runUnderlying89,Tryz.sizeOf89,Tryz.isAgg89,Tryz.zeroValue89,Tryz.underlying155,Tryz.runUnderlying155,Tryz.sizeOf155,Tryz.isAgg155,Tryz.zeroValue155,Tryz.underlying199,Tryz.runUnderlying199,Tryz.sizeOf199,Tryz.isAgg199,Tryz.zeroValue199,Tryz.underlying201,Tryz.runUnderlying201,Tryz.sizeOf201,Tryz.isAgg201,Tryz.zeroValue201,Tryz.underlying0,Tryz.runUnderlying0,Tryz.sizeOf0,Tryz.isAgg0,Tryz.zeroValue0,Tryz.underlying3,Tryz.runUnderlying3,Tryz.sizeOf3,Tryz.isAgg3,Tryz.zeroValue3,Tryz.underlying4,Tryz.runUnderlying4,Tryz.sizeOf4,Tryz.isAgg4,Tryz.zeroValue4,Tryz.underlying9,Tryz.runUnderlying9,Tryz.sizeOf9,Tryz.isAgg9,Tryz.zeroValue9,Tryz.underlying20,Tryz.runUnderlying20,Tryz.sizeOf20,Tryz.isAgg20,Tryz.zeroValue20,Tryz.underlying21,Tryz.runUnderlying21,Tryz.sizeOf21,Tryz.isAgg21,Tryz.zeroValue21,by kernel_rfl,by kernel_rfl⟩
end Go.Am
end
section
open List renaming map_map→ζ,mapM_map→ξ
open Go Go.Am Go.Proofs
namespace Go.Am
open Go.Conc Go.Conc.Lib Go.RowKit Go.ConcR.Gen
open Go.ConcR (KK wgBlock stA smA rd wr mk)
noncomputable def bot:Frame:={ (default:Frame) with fn:=Tryz.prog.funcs.size,defers:=[],mode:=.panicking [goexitEntry] }
def bY (b:Nat):Value:=.pointer (some ⟨b,0,none⟩)
def aAm (Wg Ba Bp Bi Br:Nat):Deferred:={ target:=.fn (.func 72) #[bY Wg,bY Ba,bY Bp,bY Bi,bY Br],args:=#[] }
noncomputable def bBh:Code:=Tryz.f72.body.getD .skip
theorem aTi (Wg Ba Bp Bi Br:Nat) (w:World):stepG Tryz.prog false (born Tryz.prog (aAm Wg Ba Bp Bi Br)) w =
    .go (G ((baseD 72).at ⟨#[bY Wg,bY Ba,bY Bp,bY Bi,bY Br]++Array.replicate 14 undef,[]⟩ [.code bBh]) [bot]) w #[]:=by
  simp [born,aAm,stepG,unwind,callDeferred,invoke,callFunc,Tryz.func72,Tryz.f72,seen,GStep.after,G,Frame.enter,Frame.at,baseD,bot,bBh]
theorem aRe (T:Array Value) (todo:List Item):QuitsD Tryz.prog 2 0 (G { (baseD 72).at ⟨T,[]⟩ todo with mode:=.returning } [bot]):=by
  refine QuitsD.ctl (g':=G bot []) rfl (fun w=>?_) ?_
  · simp [G,stepG,unwind,doReturn,results,Frame.at,baseD,bot,Tryz.func72,Tryz.f72,seen,GStep.after,goexitEntry]
  refine QuitsD.ctl (g':={ G bot [] with status:=.finished }) rfl (fun w=>?_) ⟨rfl,rfl⟩
  simp [G,stepG,unwind,bot,goexitEntry,Frame.catches]
  rfl
theorem aOu {F:Nat→Prop} {w:World} {ι:Nat→Option Nat} {cs:List D} {v:Value} (h:VD F w (.pt cs) v):V F w ι (.fp cs) v:=by
  cases h with
  | pt cs ad f hF hcell hel=>exact .fp cs ad f hF hcell hel
theorem v_i {F:Nat→Prop} {w:World} {ι:Nat→Option Nat} {k:IntKind} {n:Int} {v:Value} (h:V F w ι (.d (.i k n)) v):v=.int k n:=by
  cases h with | d _ _ h=>cases h; rfl
theorem nF {F:Nat→Prop} {w:World} {ι:Nat→Option Nat} {x v:Value} (h:V F w ι (.d (.lit x)) v):v=x:=by
  cases h with | d _ _ h=>cases h; rfl
abbrev aTq (Wg:Nat) (p:Pl) (i:Nat):=GoW Tryz.prog false (fun _=>True) noE (fun d g _=>bKi Tryz.prog bM Wg p i d g)
set_option maxRecDepth 100000 in
set_option maxHeartbeats 4000000 in
theorem aUg {Wg Ba Bp Bi Br:Nat} {p:Pl} {i:Nat} {v:World} {c0 c1 c2:D} {pr rp rv er:Int} {sv:Value} (hok:OkV v)
    (hBa:VD (fun b=>b<v.heap.size) v (.pt [c0,c1,c2]) (bY Ba)) (hBp:VD (fun b=>b<v.heap.size) v (.pt [.i .u64 pr]) (bY Bp)) (hBi:VD (fun b=>b<v.heap.size) v (.pt [.i .i64 i]) (bY Bi)) (hBr:VD (fun b=>b<v.heap.size) v (.pt [.lit sv]) (bY Br))
    (hsp:letI:=kT Tryz.prog false; Spec Tryz.prog 74 [.ag [c0,c1,c2],.i .u64 pr] (.tp [.ag [.i .u64 rp,.i .u64 rv],.i .i64 er]))
    (hlast:∀ (a:Act) (v':World) (ops:Array Oper) (o6 o7:Oper),OkV v'→ops[5]? = some o6→ops[6]? = some o7→o6.op=.indexAddr 27 (.tmp 13) (.tmp 14)→o6.dst=some 18→o6.guard=none→o7.op=.store 78 (.tmp 18) (.tmp 17)→o7.dst=none→o7.guard=none →
      a.tmps.size=19→a.defers=[dcall 73 #[bY Wg]]→a.tmps.getD 13 undef=sv→a.tmps.getD 14 undef=.int .i64 i→a.tmps.getD 17 undef=.agg #[.int .i64 i,.int .u64 rp,.int .u64 rv] →
      aTq Wg p i (G ((baseD 72).at a [.inRegion ops [5,6]]) [bot]) v') :
    aTq Wg p i (born Tryz.prog (aAm Wg Ba Bp Bi Br)) v:=by
  letI:=kT Tryz.prog false
  have hW:(kT Tryz.prog false).Fam (aTq Wg p i):=.inl ⟨_,_,_,fun _ _ _ _ h _=>h,rfl⟩
  have hb:lM (baseD 72):=.inr rfl
  refine aO hW rfl hok (fun w=>aTi Wg Ba Bp Bi Br w) ?_
  simp only [bBh,Tryz.f72,Option.getD_some]
  refine aO hW rfl hok (fun w=>stepG_seq) ?_
  refine aO hW rfl hok (fun w=>stepG_region) ?_
  refine aO hW rfl hok (fun w=>stepG_defer rfl rfl (by k_ne) rfl) ?_
  walk_nrm
  refine aO hW rfl hok (fun w=>stepG_region_end) ?_
  refine aO hW rfl hok (fun w=>stepG_seq) ?_
  refine cF (G:=⟨v,fun b=>b<v.heap.size,bF,fun _=>True,fun _=>none⟩) (N:=19) (ds:=[dcall 73 #[bY Wg]]) aW (fun _=>rfl) _
    (fun e σ=>e=.normal∧∃ id,σ.Γ 5=.ptr id 0∧σ.H id=some (.cells 76 [.d (.i .u64 rp),.d (.i .u64 rv)])∧σ.Γ 3=.fp [.i .i64 i]∧σ.Γ 4=.fp [.lit sv])
    (StL [(1,.fp [c0,c1,c2]),(2,.fp [.i .u64 pr]),(3,.fp [.i .i64 i]),(4,.fp [.lit sv])] none []) _ v (by kernel_rfl) (by kernel_rfl) ?hawp
    ?hsr _ hW hok _ _ _ hb fun e a' v' hv' hq=>?_
  case hsr =>
    refine aEt (Z:=fun _=>none) hok rfl (fun _ _ h=>by simp at h) (qY _ ?_)
    simp only [List.forall_mem_cons]
    exact ⟨aOu hBa,aOu hBp,aOu hBi,aOu hBr,fun _ h=>by simp at h⟩
  case hawp =>
    simp [-ζ,-ξ,↓KW]
    refine aH hsp ?_
    simp [-ζ,-ξ,↓KW]
  obtain ⟨σ,⟨rfl,id,h5,hH,h3,h4⟩,hsr⟩:=hq
  simp only [nE]
  refine aJf hW hb (l1:=List.take 5 _) (l2:=List.drop 5 _) (List.take_append_drop 5 _).symm ?hdst hsr (Q:=fun σ'=>σ'.Γ 13=.d (.lit sv)∧σ'.Γ 14=.d (.i .i64 i)∧σ'.Γ 17=.ag [.d (.i .i64 i),.d (.i .u64 rp),.d (.i .u64 rv)]) ?how fun σ' a'' v'' hv'' hq hsr'=>?_
  case hdst =>
    intro o ho d hd
    simp at ho
    rcases ho with rfl | rfl | rfl | rfl | rfl <;> simp at hd <;> subst hd <;> exact ⟨by decide,rfl⟩
  case how =>
    simp only [List.take_succ_cons,List.take_zero]
    simp [-ζ,-ξ,↓KW,h5,hH,h3,h4]
  obtain ⟨q13,q14,q17⟩:=hq
  obtain ⟨_,_,_,F,ι,hR,_,hV,⟨hN,_⟩,hds,_⟩:=hsr'
  have e13:a''.tmps.getD 13 undef=sv:=by
    have h:=hV 13; rw [q13] at h
    exact nF h
  have e14:a''.tmps.getD 14 undef=.int .i64 i:=by
    have h:=hV 14; rw [q14] at h
    exact v_i h
  have e17:a''.tmps.getD 17 undef=.agg #[.int .i64 i,.int .u64 rp,.int .u64 rv]:=by
    have h:=hV 17; rw [q17] at h
    generalize a''.tmps.getD 17 undef=x at h
    cases h with
    | ag cs vs hl h =>
      have h0:vs[0]? = some (.int .i64 i):=by
        have hx:=Array.getElem?_eq_getElem (xs:=vs) (i:=0) (by simp at hl; omega)
        rw [hx,v_i (h 0 _ _ rfl hx)]
      have h1:vs[1]? = some (.int .u64 rp):=by
        have hx:=Array.getElem?_eq_getElem (xs:=vs) (i:=1) (by simp at hl; omega)
        rw [hx,v_i (h 1 _ _ rfl hx)]
      have h2:vs[2]? = some (.int .u64 rv):=by
        have hx:=Array.getElem?_eq_getElem (xs:=vs) (i:=2) (by simp at hl; omega)
        rw [hx,v_i (h 2 _ _ rfl hx)]
      congr 1
      apply Array.ext_getElem?
      intro k
      match k with
      | 0=>exact h0
      | 1=>exact h1
      | 2=>exact h2
      | k+3=>rw [Array.getElem?_eq_none (by simp at hl; omega)]; simp
  show aTq Wg p i (G ((baseD 72).at a'' [.inRegion _ [5,6]]) [bot]) v''
  exact hlast a'' v'' _ _ _ hv'' (by rfl) (by rfl) rfl rfl rfl rfl rfl rfl hN hds e13 e14 e17
end Go.Am
end
section
open List renaming map_map→ζ,mapM_map→ξ
namespace Go.Am
open Go.Conc
structure aIw (C o:Nat) (vs:List Value) (t:TypeId) (cur:Array Value) (w w':World):Prop where
 tape:w'.tape=w.tape
 os:w'.os=w.os
 output:w'.output=w.output
 size:w'.heap.size=w.heap.size
 block:∀ b,b≠C→w'.heap[b]? = w.heap[b]?
 new:∃ cur':Array Value,w'.heap[C]? = some (.cells cur' t (0,0))∧cur'.size=cur.size∧(∀ r v,vs[r]? = some v→cur'[o+r]? = some v)∧∀ k,(k<o∨o+vs.length≤k)→cur'[k]? = cur[k]?
theorem nN {P:Program} {C o:Nat} {t:TypeId}:∀ (vs:List Value) (i:Nat) (cur:Array Value) (w:World) (es:Array Event),w.heap[C]? = some (.cells cur t (0,0))→o+i+vs.length≤cur.size→(∀ v∈vs,v.oneCell'=true) →
  ∃ w' es',(storeCells ⟨C,o,none⟩ vs i).runT P w es=(.ok () w',es++es')∧aIw C (o+i) vs t cur w w'∧∀ e∈es',∃ r,r<vs.length∧e=⟨.cell ⟨C,o+i+r,none⟩,true,false⟩
 | [],i,cur,w,es,hC,_,_=>⟨w,#[],by simp [storeCells,Sem.runT],⟨rfl,rfl,rfl,rfl,fun _ _=>rfl,cur,hC,rfl,fun r v h=>by simp at h,fun _ _=>rfl⟩,by simp⟩
 | v::vs,i,cur,w,es,hC,hl,h1=>by
  have hi:o+i<cur.size:=by simp at hl; omega
  have hadd:(⟨C,o,none⟩:Addr).add i=⟨C,o+i,none⟩:=gB _ _ _
  have hcell:w.cell? ⟨C,o+i,none⟩=some cur[o+i]:=by simp [World.cell?,hC,hi]
  have hfro:w.frozen? ⟨C,o+i,none⟩=false:=by simp [World.frozen?,hC]
  have hC':(w.setCell ⟨C,o+i,none⟩ v).heap[C]? = some (.cells (cur.setIfInBounds (o+i) v) t (0,0)):=by
   rw [cY,if_pos rfl,hC]; simp [bEr]
  obtain ⟨w',es',hr,hp,he⟩:=nN (P:=P) (C:=C) (o:=o) (t:=t) vs (i+1) (cur.setIfInBounds (o+i) v) (w.setCell ⟨C,o+i,none⟩ v) (es.push ⟨.cell ⟨C,o+i,none⟩,true,false⟩) hC' (by simp at hl ⊢; omega) (fun x hx=>h1 x (by simp [hx]))
  have hv:=h1 v (by simp)
  refine ⟨w',#[⟨.cell ⟨C,o+i,none⟩,true,false⟩]++es',?_,⟨hp.tape,hp.os,hp.output,hp.size.trans (by simp [World.setCell]),fun b hb=>(hp.block b hb).trans (by rw [cY,if_neg hb]),?_⟩,?_⟩
  ·have hs:∀ k:Sem Unit,(Sem.store .plain ⟨C,o+i,none⟩ v k).runT P w es=k.runT P (w.setCell ⟨C,o+i,none⟩ v) (es.push ⟨.cell ⟨C,o+i,none⟩,true,false⟩):=by
    intro k
    cases v <;> first | (simp [Value.oneCell'] at hv; done) | (simp only [Sem.runT,hcell,hfro]; rfl)
   show (Sem.bind (store ((⟨C,o,none⟩:Addr).add i) v) fun _=>storeCells ⟨C,o,none⟩ vs (i+1)).runT P w es=_
   rw [hadd]
   simp only [store,Sem.bind]
   rw [hs,hr]; simp
  ·obtain ⟨cur',g1,g2,g3,g4⟩:=hp.new
   refine ⟨cur',g1,by simpa using g2,fun r x hx=>?_,fun k hk=>?_⟩
   ·cases r with
    | zero =>
     simp at hx; subst hx
     rw [Nat.add_zero,g4 _ (.inl (by omega))]
     simp [hi]
    | succ r=>rw [show o+i+(r+1)=o+(i+1)+r by omega]; exact g3 r x (by simpa using hx)
   ·simp only [List.length_cons] at hk
    rw [g4 k (by omega),Array.getElem?_setIfInBounds_ne (by omega)]
  ·intro e hx
   rcases Array.mem_append.1 hx with hx | hx
   ·simp at hx; subst hx; exact ⟨0,by simp,by simp⟩
   ·obtain ⟨r,hr',rfl⟩:=he e hx
    exact ⟨r+1,by simp; omega,by rw [show o+(i+1)+r=o+i+(r+1) by omega]⟩
theorem bLr {P:Program} {a:Act} {o:Oper} {x y:Operand} {t:TypeId} {C off n:Nat} {vs cur:Array Value} {e:TypeId} {w:World} (hop:o.op=.store t x y) (hx:a.eval x=.pointer (some ⟨C,off,none⟩)) (hy:a.eval y=.agg vs) (hvs:vs.size=n)
  (h1:∀ v∈vs.toList,v.oneCell'=true) (hsz:∀ w es,(sizeOf t).runT P w es=(.ok n w,es)) (hC:w.heap[C]? = some (.cells cur e (0,0))) (hfit:off+n≤cur.size) :
  ∃ w' es,(execOp a.eval o).run P w=.ok .skip w'∧(execOp a.eval o).events P w #[]=es∧aIw C off vs.toList e cur w w'∧∀ ev∈es,∃ r,r<n∧ev=⟨.cell ⟨C,off+r,none⟩,true,false⟩:=by
 obtain ⟨w',es',hr,hp,he⟩:=nN (P:=P) (C:=C) (o:=off) (t:=e) vs.toList 0 cur w #[] hC (by simp; omega) h1
 have hT:(execOp a.eval o).runT P w #[]=(.ok .skip w',#[]++es'):=by
  unfold execOp
  simp only [hop,hx,hy,Instr.storeAt,Instr.sureAddr,storeVar,Value.cells]
  show (Sem.bind _ _).runT P w #[]=_
  simp only [Sem.runT_bind',Bind.bind,Sem.bind,Pure.pure,hsz,hvs,ne_eq,not_true_eq_false,if_false,hr]
  simp [Sem.runT]
 have hE:=Sem.runT_eq P (execOp a.eval o) w #[]
 rw [hT] at hE
 refine ⟨w',es',(congrArg Prod.fst hE).symm,by have:=congrArg Prod.snd hE; simpa using this.symm,by simpa using hp,fun ev hev=>?_⟩
 obtain ⟨r,h2,h3⟩:=he ev hev
 exact ⟨r,by simpa [hvs] using h2,by simpa using h3⟩
end Go.Am
end
section
open List renaming map_map→ζ,mapM_map→ξ
namespace Go.Am
open Go.Conc Go.ConcR.Gen Go.Conc.Lib Go.RowKit Go.ConcR
open Go
end Go.Am
end
section
open List renaming map_map→ζ,mapM_map→ξ
open Go Go.Am Go.Proofs
namespace Go.Am
open Go.Conc Go.Conc.Lib Go.RowKit Go.ConcR.Gen
open Go.ConcR (KK wgBlock stA smA rd wr mk)
def bQf (Wg:Nat):Prop:=∀ {c:Frame} {cs:List Frame} {q:Nat},c.mode=.returning→QuitsD Tryz.prog q 0 (G c cs) →
    Dl Tryz.prog false (cR bM.tWg Wg) noE (uC Tryz.prog bM Wg) 0 (G ((baseD bM.done).at ⟨#[.pointer (some ⟨Wg,0,none⟩),undef,undef,undef],[]⟩ [.code (body_done bM)]) (c::cs))
theorem bEz {α:Type} {P:Program} {s:Sem α} {r:α} (h1:∀ w,s.run P w=.ok r w) (h2:∀ w es,s.events P w es=es) (w:World) (es:Array Event):s.runT P w es=(.ok r w,es):=by
  rw [Sem.runT_eq,h1,h2]
theorem bLj (w:World) (es:Array Event):(sizeOf 78).runT Tryz.prog w es=(.ok 3 w,es):=by
  refine bEz Tryz.sizeOf78 (fun w es=>?_) w es
  simp [sizeOf,typeInfo,go_sem]
  split <;> simp [stuck]
theorem bPm {a:Act} {o:Oper} {C n cap i:Nat} (hop:o.op=.indexAddr 27 (.tmp 13) (.tmp 14)) (hx:a.tmps.getD 13 undef=.slice (some ⟨C,0,none⟩) n cap) (hy:a.tmps.getD 14 undef=.int .i64 i) (hi:i<n) (w:World) :
    (execOp a.eval o).run Tryz.prog w=.ok (.value (.pointer (some ⟨C,i * 3,none⟩))) w∧(execOp a.eval o).events Tryz.prog w #[]=#[]:=by
  have hx':a.eval (.tmp 13)=.slice (some ⟨C,0,none⟩) n cap:=hx
  have hy':a.eval (.tmp 14)=.int .i64 i:=hy
  have h0:(0:Int)≤i:=by omega
  have h1:(i:Int)<n:=by omega
  have ha:(⟨C,0,none⟩:Addr).add (i * 3)=⟨C,i * 3,none⟩:=by rw [gB,Nat.zero_add]
  unfold execOp
  simp only [hop,hx',hy']
  constructor
  · simp [go_sem,Instr.indexAt,Tryz.runUnderlying27,Tryz.sizeOf78,h0,h1,ha]
    intro hh; omega
  · simp [go_sem,Instr.indexAt,Tryz.runUnderlying27,Tryz.sizeOf78,h0,h1,ha]
    intro hh; omega
set_option maxRecDepth 100000 in
theorem aPq {Wg:Nat} {p:Pl} {i n cap:Nat} {rp rv:Int} (hdone:bQf Wg) (hwd:p.wd=3) (hi:i<p.n) (hn:p.n=n) (h0:p.val i 0=.int .i64 i) (h1:p.val i 1=.int .u64 rp) (h2:p.val i 2=.int .u64 rv)
    {a:Act} {v':World} {ops:Array Oper} {o6 o7:Oper} (hv:OkV v') (ho6:ops[5]? = some o6) (ho7:ops[6]? = some o7) (p6:o6.op=.indexAddr 27 (.tmp 13) (.tmp 14)) (d6:o6.dst=some 18) (g6:o6.guard=none) (p7:o7.op=.store 78 (.tmp 18) (.tmp 17)) (d7:o7.dst=none) (g7:o7.guard=none)
    (hN:a.tmps.size=19) (hds:a.defers=[dcall 73 #[bY Wg]]) (e13:a.tmps.getD 13 undef=.slice (some ⟨p.C,0,none⟩) n cap) (e14:a.tmps.getD 14 undef=.int .i64 i) (e17:a.tmps.getD 17 undef=.agg #[.int .i64 i,.int .u64 rp,.int .u64 rv]) :
    aTq Wg p i (G ((baseD 72).at a [.inRegion ops [5,6]]) [bot]) v':=by
  have hW:(kT Tryz.prog false).Fam (aTq Wg p i):=.inl ⟨_,_,_,fun _ _ _ _ h _=>h,rfl⟩
  letI:=kT Tryz.prog false
  have w6:Region.wanted o6 (yielded ops a.tmps)=true:=by simp [Region.wanted,g6]
  refine aO hW (g':=G ((baseD 72).at (a.put o6.dst (.pointer (some ⟨p.C,i * 3,none⟩))) [.inRegion ops [6]]) [bot]) rfl hv (fun w=>?_) ?_
  · have hx:=bPm p6 e13 e14 (by omega) w
    rw [stepG_value ho6 w6 (by k_ne) hx.1]; unfold listed; rw [hx.2,seen_none]
  rw [d6]
  have hget:∀ t,t≠18→(a.put (some 18) (.pointer (some ⟨p.C,i * 3,none⟩))).eval (.tmp t)=a.tmps.getD t undef:=fun t ht=>by
    simp [Act.put,Act.eval,Array.getD_eq_getD_getElem?,Array.getElem?_setIfInBounds_ne (Ne.symm ht)]
  have h18:(a.put (some 18) (.pointer (some ⟨p.C,i * 3,none⟩))).eval (.tmp 18)=.pointer (some ⟨p.C,i * 3,none⟩):=by
    simp [Act.put,Act.eval,Array.getD_eq_getD_getElem?,hN]
  have hds':(a.put (some 18) (.pointer (some ⟨p.C,i * 3,none⟩))).defers=a.defers:=rfl
  generalize a.put (some 18) (.pointer (some ⟨p.C,i * 3,none⟩))=a2 at hget h18 hds'
  have w7:Region.wanted o7 (yielded ops a2.tmps)=true:=by simp [Region.wanted,g7]
  refine ⟨.leaf,rfl,rfl,fun w hp=>?_⟩
  obtain ⟨cur,f,hC,hsz,hf⟩:=hp
  have hpos:0<p.n * 3:=by omega
  have hle:=p.le; rw [hwd] at hle
  have hfz:f=(0,0):=hf (by rw [hsz]; omega)
  subst hfz
  have hfit:i * 3+3≤cur.size:=by
    rw [hsz]
    have:(i+1) * 3≤p.n * 3:=Nat.mul_le_mul_right _ hi
    omega
  obtain ⟨w',es,hr,he,hput,hes⟩:=bLr (P:=Tryz.prog) (n:=3) p7 h18 ((hget 17 (by decide)).trans e17) rfl (by simp [Value.oneCell']) bLj hC hfit
  refine ⟨_,w',_,stepG_none ho7 w7 (by k_ne) hr,?_,fun ev hev=>?_,?_⟩
  · obtain ⟨cur',g1,g2,g3,g4⟩:=hput.new
    refine ⟨hput.tape,hput.os,hput.output,hput.size,hput.block,⟨cur',(0,0),g1,by rw [g2,hsz],fun _=>rfl⟩,fun o ho=>?_,fun r hr=>?_⟩
    · rw [hwd] at ho
      have:=g4 o (by simp; omega)
      simp [World.cell?,g1,hC,this]
    · rw [hwd] at hr
      match r,hr with
      | 0,_=>rw [h0]; simpa [World.cell?,Pl.cell,g1,hwd] using g3 0 _ rfl
      | 1,_=>rw [h1]; simpa [World.cell?,Pl.cell,g1,hwd] using g3 1 _ rfl
      | 2,_=>rw [h2]; simpa [World.cell?,Pl.cell,g1,hwd] using g3 2 _ rfl
  · have:=mem_listed hev
    rw [he] at this
    obtain ⟨r,hr,rfl⟩:=hes ev this
    exact ⟨r,by omega,by simp [Pl.cell,hwd]⟩
  · rw [d7]
    refine Dl.regionEnd (Dl.done ?_)
    refine Dl.ctl rfl (fun w _=>stepG_unwind_enter (hds'.trans hds) Tryz.func73 (nm_done bM) rfl) ?_
    have:=hdone (c:={ (baseD 72).at ⟨a2.tmps,[]⟩ [] with mode:=.returning }) (cs:=[bot]) rfl (aRe a2.tmps [])
    simp only [body_done,doneFn,Option.getD_some] at this
    exact this
end Go.Am
end
section
open List renaming map_map→ζ,mapM_map→ξ
namespace Go.Am
open Go.Conc Go.ConcR.Gen Go.Conc.Lib Go.RowKit Go.ConcR
open Go.ConcN (st_flag st_waiters)
open Go
set_option maxRecDepth 100000 in
set_option maxHeartbeats 8000000 in
theorem bEc {L:WgLink} {P:Program} (H:WgLib P L) {Wg:Nat} {cs:List Frame} {b0:Frame} {a0:Act} {ops0:Array Oper} {i0:Nat} {rest0:List Nat} {k0:List Item}
    (hT:∃ q,QuitsD P q 0 (G (b0.at (a0.put ((ops0[i0]?).bind (·.dst)) (.tuple #[])) (.inRegion ops0 rest0::k0)) cs)) :
    Dl P false (cR L.tWg Wg) noE (uC P L Wg) 0 (G ((base L.add).at ⟨#[.pointer (some ⟨Wg,0,none⟩),.int .i64 (-1)]++Array.replicate 115 undef,[]⟩ [.code (body_add L)]) (b0.at a0 (.inRegion ops0 (i0::rest0)::k0)::cs)):=by
  have hT':Dl P false (fun _=>True) (fun _=>False) (fun d g=>∃ n,QuitsD P n d g) 0 (G (b0.at (a0.put ((ops0[i0]?).bind (·.dst)) (.tuple #[])) (.inRegion ops0 rest0::k0)) cs):=.here hT
  lib_facts
  simp only [body_add,addFn,Option.getD_some]
  repeat (first | with_reducible refine Dl.seq ?_ | ((with_reducible refine Dl.region ?_); simp only [List.size_toArray,List.length_cons,List.length_nil,Nat.reduceAdd,Nat.zero_add,List.range,List.range.loop]) | with_reducible refine Dl.regionEnd ?_ | with_reducible refine Dl.skip ?_ | with_reducible refine Dl.ret ?_ | with_reducible refine Dl.block ?_ | with_reducible refine Dl.inBlock ?_ | with_reducible refine Dl.loop ?_ | with_reducible refine Dl.inLoop ?_ | with_reducible (refine Dl.exit (by with_unfolding_all rfl) ?_) | ((with_reducible (refine Dl.cond true (by with_unfolding_all rfl) ?_)); simp only [if_true,if_false,Bool.false_eq_true,↓reduceIte]) | ((with_reducible (refine Dl.cond false (by with_unfolding_all rfl) ?_)); simp only [if_true,if_false,Bool.false_eq_true,↓reduceIte]))
  (refine Dl.value _ rfl rfl (by k_ne) (fun _ _=>by (go_simp; try (first | rfl | w_num | decide))) (fun _ _=>by simp [go_sem, *]) ?_; walk_nrm)
  repeat (first | with_reducible refine Dl.seq ?_ | ((with_reducible refine Dl.region ?_); simp only [List.size_toArray,List.length_cons,List.length_nil,Nat.reduceAdd,Nat.zero_add,List.range,List.range.loop]) | with_reducible refine Dl.regionEnd ?_ | with_reducible refine Dl.skip ?_ | with_reducible refine Dl.ret ?_ | with_reducible refine Dl.block ?_ | with_reducible refine Dl.inBlock ?_ | with_reducible refine Dl.loop ?_ | with_reducible refine Dl.inLoop ?_ | with_reducible (refine Dl.exit (by with_unfolding_all rfl) ?_) | ((with_reducible (refine Dl.cond true (by with_unfolding_all rfl) ?_)); simp only [if_true,if_false,Bool.false_eq_true,↓reduceIte]) | ((with_reducible (refine Dl.cond false (by with_unfolding_all rfl) ?_)); simp only [if_true,if_false,Bool.false_eq_true,↓reduceIte]))
  (refine Dl.value _ rfl rfl (by k_ne) (fun _ _=>by (go_simp; try (first | rfl | w_num | decide))) (fun _ _=>by simp [go_sem, *]) ?_; walk_nrm)
  repeat (first | with_reducible refine Dl.seq ?_ | ((with_reducible refine Dl.region ?_); simp only [List.size_toArray,List.length_cons,List.length_nil,Nat.reduceAdd,Nat.zero_add,List.range,List.range.loop]) | with_reducible refine Dl.regionEnd ?_ | with_reducible refine Dl.skip ?_ | with_reducible refine Dl.ret ?_ | with_reducible refine Dl.block ?_ | with_reducible refine Dl.inBlock ?_ | with_reducible refine Dl.loop ?_ | with_reducible refine Dl.inLoop ?_ | with_reducible (refine Dl.exit (by with_unfolding_all rfl) ?_) | ((with_reducible (refine Dl.cond true (by with_unfolding_all rfl) ?_)); simp only [if_true,if_false,Bool.false_eq_true,↓reduceIte]) | ((with_reducible (refine Dl.cond false (by with_unfolding_all rfl) ?_)); simp only [if_true,if_false,Bool.false_eq_true,↓reduceIte]))
  (refine Dl.value _ rfl rfl (by k_ne) (fun _ _=>by (go_simp; try (first | rfl | w_num | decide))) (fun _ _=>by simp [go_sem, *]) ?_; walk_nrm)
  (refine Dl.value _ rfl rfl (by k_ne) (fun w hI=>by (have hcv:=run_convert_to_unsafe (P:=P) H.underlying_tWgP H.underlying_tUP H.room_tWg (cR.cell0 hI).choose_spec); go_simp; rfl) (fun w hI=>by (have hce:=fun es=>events_convert_to_unsafe (P:=P) H.underlying_tWgP H.underlying_tUP H.room_tWg (cR.cell0 hI).choose_spec es); simp [go_sem,hce]) ?_; walk_nrm)
  refine .here ⟨rfl,rfl,_,fun w hI=>stepG_markAt .releaseMerge (by simp) rfl rfl (by k_ne) rfl H.f_relMerge (x_relMerge_n L) (x_relMerge_b L) (x_relMerge_x L) (x_relMerge_f L) (by simp [Act.eval,stA]),?_⟩
  walk_nrm
  repeat (first | with_reducible refine Dl.seq ?_ | ((with_reducible refine Dl.region ?_); simp only [List.size_toArray,List.length_cons,List.length_nil,Nat.reduceAdd,Nat.zero_add,List.range,List.range.loop]) | with_reducible refine Dl.regionEnd ?_ | with_reducible refine Dl.skip ?_ | with_reducible refine Dl.ret ?_ | with_reducible refine Dl.block ?_ | with_reducible refine Dl.inBlock ?_ | with_reducible refine Dl.loop ?_ | with_reducible refine Dl.inLoop ?_ | with_reducible (refine Dl.exit (by with_unfolding_all rfl) ?_) | ((with_reducible (refine Dl.cond true (by with_unfolding_all rfl) ?_)); simp only [if_true,if_false,Bool.false_eq_true,↓reduceIte]) | ((with_reducible (refine Dl.cond false (by with_unfolding_all rfl) ?_)); simp only [if_true,if_false,Bool.false_eq_true,↓reduceIte]))
  (refine Dl.step rfl (by (intro e he; simp at he; subst he; exact .inl rfl)) (fun w hI=>stepG_mark0 .disable (by simp) rfl rfl (by k_ne) rfl H.f_disable (x_disable_n L) (x_disable_b L) (x_disable_x L) (x_disable_f L)) ?_; walk_nrm)
  repeat (first | with_reducible refine Dl.seq ?_ | ((with_reducible refine Dl.region ?_); simp only [List.size_toArray,List.length_cons,List.length_nil,Nat.reduceAdd,Nat.zero_add,List.range,List.range.loop]) | with_reducible refine Dl.regionEnd ?_ | with_reducible refine Dl.skip ?_ | with_reducible refine Dl.ret ?_ | with_reducible refine Dl.block ?_ | with_reducible refine Dl.inBlock ?_ | with_reducible refine Dl.loop ?_ | with_reducible refine Dl.inLoop ?_ | with_reducible (refine Dl.exit (by with_unfolding_all rfl) ?_) | ((with_reducible (refine Dl.cond true (by with_unfolding_all rfl) ?_)); simp only [if_true,if_false,Bool.false_eq_true,↓reduceIte]) | ((with_reducible (refine Dl.cond false (by with_unfolding_all rfl) ?_)); simp only [if_true,if_false,Bool.false_eq_true,↓reduceIte]))
  (refine Dl.ctl rfl (fun w hI=>stepG_defer rfl rfl (by k_ne) rfl) ?_; walk_nrm)
  repeat (first | with_reducible refine Dl.seq ?_ | ((with_reducible refine Dl.region ?_); simp only [List.size_toArray,List.length_cons,List.length_nil,Nat.reduceAdd,Nat.zero_add,List.range,List.range.loop]) | with_reducible refine Dl.regionEnd ?_ | with_reducible refine Dl.skip ?_ | with_reducible refine Dl.ret ?_ | with_reducible refine Dl.block ?_ | with_reducible refine Dl.inBlock ?_ | with_reducible refine Dl.loop ?_ | with_reducible refine Dl.inLoop ?_ | with_reducible (refine Dl.exit (by with_unfolding_all rfl) ?_) | ((with_reducible (refine Dl.cond true (by with_unfolding_all rfl) ?_)); simp only [if_true,if_false,Bool.false_eq_true,↓reduceIte]) | ((with_reducible (refine Dl.cond false (by with_unfolding_all rfl) ?_)); simp only [if_true,if_false,Bool.false_eq_true,↓reduceIte]))
  (refine Dl.value _ rfl rfl (by k_ne) (fun _ _=>by (go_simp; try (first | rfl | w_num | decide))) (fun _ _=>by simp [go_sem, *]) ?_; walk_nrm)
  repeat (first | with_reducible refine Dl.seq ?_ | ((with_reducible refine Dl.region ?_); simp only [List.size_toArray,List.length_cons,List.length_nil,Nat.reduceAdd,Nat.zero_add,List.range,List.range.loop]) | with_reducible refine Dl.regionEnd ?_ | with_reducible refine Dl.skip ?_ | with_reducible refine Dl.ret ?_ | with_reducible refine Dl.block ?_ | with_reducible refine Dl.inBlock ?_ | with_reducible refine Dl.loop ?_ | with_reducible refine Dl.inLoop ?_ | with_reducible (refine Dl.exit (by with_unfolding_all rfl) ?_) | ((with_reducible (refine Dl.cond true (by with_unfolding_all rfl) ?_)); simp only [if_true,if_false,Bool.false_eq_true,↓reduceIte]) | ((with_reducible (refine Dl.cond false (by with_unfolding_all rfl) ?_)); simp only [if_true,if_false,Bool.false_eq_true,↓reduceIte]))
  (refine Dl.ctl rfl (fun w hI=>stepG_entry_pure (.bool false) rfl rfl (by k_ne) rfl H.f_inBubble (x_inBubble_n L) (x_inBubble_b L) (x_inBubble_x L) (x_inBubble_f L)) ?_; walk_nrm)
  repeat (first | with_reducible refine Dl.seq ?_ | ((with_reducible refine Dl.region ?_); simp only [List.size_toArray,List.length_cons,List.length_nil,Nat.reduceAdd,Nat.zero_add,List.range,List.range.loop]) | with_reducible refine Dl.regionEnd ?_ | with_reducible refine Dl.skip ?_ | with_reducible refine Dl.ret ?_ | with_reducible refine Dl.block ?_ | with_reducible refine Dl.inBlock ?_ | with_reducible refine Dl.loop ?_ | with_reducible refine Dl.inLoop ?_ | with_reducible (refine Dl.exit (by with_unfolding_all rfl) ?_) | ((with_reducible (refine Dl.cond true (by with_unfolding_all rfl) ?_)); simp only [if_true,if_false,Bool.false_eq_true,↓reduceIte]) | ((with_reducible (refine Dl.cond false (by with_unfolding_all rfl) ?_)); simp only [if_true,if_false,Bool.false_eq_true,↓reduceIte]))
  (refine Dl.value _ rfl rfl (by k_ne) (fun _ _=>by (go_simp; try (first | rfl | w_num | decide))) (fun _ _=>by simp [go_sem, *]) ?_; walk_nrm)
  (refine Dl.value _ rfl rfl (by k_ne) (fun _ _=>by (go_simp; try (first | rfl | w_num | decide))) (fun _ _=>by simp [go_sem, *]) ?_; walk_nrm)
  (refine Dl.value _ rfl rfl (by k_ne) (fun _ _=>by (go_simp; try (first | rfl | w_num | decide))) (fun _ _=>by simp [go_sem, *]) ?_; walk_nrm)
  (refine Dl.value _ rfl rfl (by k_ne) (fun _ _=>by (go_simp; try (first | rfl | w_num | decide))) (fun _ _=>by simp [go_sem, *]) ?_; walk_nrm)
  (refine Dl.value _ rfl rfl (by k_ne) (fun _ _=>by (go_simp; try (first | rfl | w_num | decide))) (fun _ _=>by simp [go_sem, *]) ?_; walk_nrm)
  (refine Dl.value _ rfl rfl (by k_ne) (fun _ _=>by (go_simp; try (first | rfl | w_num | decide))) (fun _ _=>by simp [go_sem, *]) ?_; walk_nrm)
  (refine Dl.call rfl rfl (by k_ne) rfl H.f_uAdd (nm_uAdd L) rfl ?_; walk_nrmf uAddFn)
  repeat (first | with_reducible refine Dl.seq ?_ | ((with_reducible refine Dl.region ?_); simp only [List.size_toArray,List.length_cons,List.length_nil,Nat.reduceAdd,Nat.zero_add,List.range,List.range.loop]) | with_reducible refine Dl.regionEnd ?_ | with_reducible refine Dl.skip ?_ | with_reducible refine Dl.ret ?_ | with_reducible refine Dl.block ?_ | with_reducible refine Dl.inBlock ?_ | with_reducible refine Dl.loop ?_ | with_reducible refine Dl.inLoop ?_ | with_reducible (refine Dl.exit (by with_unfolding_all rfl) ?_) | ((with_reducible (refine Dl.cond true (by with_unfolding_all rfl) ?_)); simp only [if_true,if_false,Bool.false_eq_true,↓reduceIte]) | ((with_reducible (refine Dl.cond false (by with_unfolding_all rfl) ?_)); simp only [if_true,if_false,Bool.false_eq_true,↓reduceIte]))
  (refine Dl.value _ rfl rfl (by k_ne) (fun _ _=>by (go_simp; try (first | rfl | w_num | decide))) (fun _ _=>by simp [go_sem, *]) ?_; walk_nrm)
  repeat (first | with_reducible refine Dl.seq ?_ | ((with_reducible refine Dl.region ?_); simp only [List.size_toArray,List.length_cons,List.length_nil,Nat.reduceAdd,Nat.zero_add,List.range,List.range.loop]) | with_reducible refine Dl.regionEnd ?_ | with_reducible refine Dl.skip ?_ | with_reducible refine Dl.ret ?_ | with_reducible refine Dl.block ?_ | with_reducible refine Dl.inBlock ?_ | with_reducible refine Dl.loop ?_ | with_reducible refine Dl.inLoop ?_ | with_reducible (refine Dl.exit (by with_unfolding_all rfl) ?_) | ((with_reducible (refine Dl.cond true (by with_unfolding_all rfl) ?_)); simp only [if_true,if_false,Bool.false_eq_true,↓reduceIte]) | ((with_reducible (refine Dl.cond false (by with_unfolding_all rfl) ?_)); simp only [if_true,if_false,Bool.false_eq_true,↓reduceIte]))
  (refine Dl.value _ rfl rfl (by k_ne) (fun _ _=>by (go_simp; try (first | rfl | w_num | decide))) (fun _ _=>by simp [go_sem, *]) ?_; walk_nrm)
  (refine Dl.value _ rfl rfl (by k_ne) (fun _ _=>by (go_simp; try (first | rfl | w_num | decide))) (fun _ _=>by simp [go_sem, *]) ?_; walk_nrm)
  (refine Dl.value _ rfl rfl (by k_ne) (fun _ _=>by (go_simp; try (first | rfl | w_num | decide))) (fun _ _=>by simp [go_sem, *]) ?_; walk_nrm)
  (refine Dl.value _ rfl rfl (by k_ne) (fun _ _=>by (go_simp; try (first | rfl | w_num | decide))) (fun _ _=>by simp [go_sem, *]) ?_; walk_nrm)
  refine .here ⟨rfl,rfl,fun w v wt hwt hv hw=>?_⟩
  have hc:w.cell? ⟨Wg,0,none⟩=some (.int .u64 (((v:Int)+1) * KK+wt)):=by simp [World.cell?,hw,wgBlock]
  have hz:w.frozen? ⟨Wg,0,none⟩=false:=by simp [World.frozen?,hw,wgBlock]
  have eS:IntKind.u64.wrap (((v:Int)+1) * KK+wt+IntKind.u64.wrap (IntKind.u64.wrap (-1) * 4294967296))=(v:Int) * KK+wt:=by
    have:IntKind.u64.wrap (IntKind.u64.wrap (-1) * 4294967296)=18446744069414584320:=by decide
    rw [this,IntKind.wrap_u64]; simp only [KK]; omega
  refine ⟨_,(stepG_add_atomic rfl rfl (by k_ne) rfl H.f_addU64 (x_addU64_n L) (x_addU64_b L) (x_addU64_x L) .u64 (x_addU64_f L) rfl rfl hc hz).trans (by rw [eS]; rfl),?_⟩
  clear hw hc hz eS
  walk_nrm
  by_cases h0:v=0
  · subst h0
    obtain rfl | rfl:wt=0∨wt=1:=by omega
    · refine ⟨fun h=>absurd h.2 (by decide),fun _=>Dl.quits ?_⟩
      have e0:((0:Nat):Int) * KK+((0:Nat):Int)=0:=by simp
      rw [e0]
      have e2:IntKind.u32.wrap (bits BinOp.and IntKind.u64 0 2147483647)=0:=by decide
      (repeat (first | (first | with_reducible refine Dl.seq ?_ | ((with_reducible refine Dl.region ?_); simp only [List.size_toArray,List.length_cons,List.length_nil,Nat.reduceAdd,Nat.zero_add,List.range,List.range.loop]) | with_reducible refine Dl.regionEnd ?_ | with_reducible refine Dl.skip ?_ | with_reducible refine Dl.ret ?_ | with_reducible refine Dl.block ?_ | with_reducible refine Dl.inBlock ?_ | with_reducible refine Dl.loop ?_ | with_reducible refine Dl.inLoop ?_ | with_reducible (refine Dl.exit (by with_unfolding_all rfl) ?_) | ((with_reducible (refine Dl.cond true (by with_unfolding_all rfl) ?_)); simp only [if_true,if_false,Bool.false_eq_true,↓reduceIte]) | ((with_reducible (refine Dl.cond false (by with_unfolding_all rfl) ?_)); simp only [if_true,if_false,Bool.false_eq_true,↓reduceIte])) | (refine Dl.unwanted rfl rfl ?_; walk_nrm) | (refine Dl.value _ rfl rfl (by k_ne) (fun _ _=>by (go_simp; try (first | rfl | w_num | decide))) (fun _ _=>by simp [go_sem, *]) ?_; walk_nrm)))
      (refine Dl.leave1 rfl rfl H.f_uAdd rfl ?_; walk_nrm)
      (repeat (first | (first | with_reducible refine Dl.seq ?_ | ((with_reducible refine Dl.region ?_); simp only [List.size_toArray,List.length_cons,List.length_nil,Nat.reduceAdd,Nat.zero_add,List.range,List.range.loop]) | with_reducible refine Dl.regionEnd ?_ | with_reducible refine Dl.skip ?_ | with_reducible refine Dl.ret ?_ | with_reducible refine Dl.block ?_ | with_reducible refine Dl.inBlock ?_ | with_reducible refine Dl.loop ?_ | with_reducible refine Dl.inLoop ?_ | with_reducible (refine Dl.exit (by with_unfolding_all rfl) ?_) | ((with_reducible (refine Dl.cond true (by with_unfolding_all rfl) ?_)); simp only [if_true,if_false,Bool.false_eq_true,↓reduceIte]) | ((with_reducible (refine Dl.cond false (by with_unfolding_all rfl) ?_)); simp only [if_true,if_false,Bool.false_eq_true,↓reduceIte])) | (refine Dl.unwanted rfl rfl ?_; walk_nrm) | (refine Dl.value _ rfl rfl (by k_ne) (fun _ _=>by (go_simp; try (first | rfl | w_num | decide))) (fun _ _=>by simp [go_sem, *]) ?_; walk_nrm)))
      (refine Dl.unwind_mark .enable rfl (by simp) rfl H.f_enable (x_enable_n L) (x_enable_b L) (x_enable_x L) (x_enable_f L) ?_)
      exact Dl.leave0 rfl rfl H.f_add rfl hT'
    · refine ⟨fun _=>?_,fun h=>absurd ⟨rfl,rfl⟩ h⟩
      have e0:((0:Nat):Int) * KK+((1:Nat):Int)=1:=by simp
      rw [e0]
      have e2:IntKind.u32.wrap (bits BinOp.and IntKind.u64 1 2147483647)=1:=by decide
      (repeat (first | (first | with_reducible refine Dl.seq ?_ | ((with_reducible refine Dl.region ?_); simp only [List.size_toArray,List.length_cons,List.length_nil,Nat.reduceAdd,Nat.zero_add,List.range,List.range.loop]) | with_reducible refine Dl.regionEnd ?_ | with_reducible refine Dl.skip ?_ | with_reducible refine Dl.ret ?_ | with_reducible refine Dl.block ?_ | with_reducible refine Dl.inBlock ?_ | with_reducible refine Dl.loop ?_ | with_reducible refine Dl.inLoop ?_ | with_reducible (refine Dl.exit (by with_unfolding_all rfl) ?_) | ((with_reducible (refine Dl.cond true (by with_unfolding_all rfl) ?_)); simp only [if_true,if_false,Bool.false_eq_true,↓reduceIte]) | ((with_reducible (refine Dl.cond false (by with_unfolding_all rfl) ?_)); simp only [if_true,if_false,Bool.false_eq_true,↓reduceIte])) | (refine Dl.unwanted rfl rfl ?_; walk_nrm) | (refine Dl.value _ rfl rfl (by k_ne) (fun _ _=>by (go_simp; try (first | rfl | w_num | decide))) (fun _ _=>by simp [go_sem, *]) ?_; walk_nrm)))
      (refine Dl.leave1 rfl rfl H.f_uAdd rfl ?_; walk_nrm)
      (repeat (first | (first | with_reducible refine Dl.seq ?_ | ((with_reducible refine Dl.region ?_); simp only [List.size_toArray,List.length_cons,List.length_nil,Nat.reduceAdd,Nat.zero_add,List.range,List.range.loop]) | with_reducible refine Dl.regionEnd ?_ | with_reducible refine Dl.skip ?_ | with_reducible refine Dl.ret ?_ | with_reducible refine Dl.block ?_ | with_reducible refine Dl.inBlock ?_ | with_reducible refine Dl.loop ?_ | with_reducible refine Dl.inLoop ?_ | with_reducible (refine Dl.exit (by with_unfolding_all rfl) ?_) | ((with_reducible (refine Dl.cond true (by with_unfolding_all rfl) ?_)); simp only [if_true,if_false,Bool.false_eq_true,↓reduceIte]) | ((with_reducible (refine Dl.cond false (by with_unfolding_all rfl) ?_)); simp only [if_true,if_false,Bool.false_eq_true,↓reduceIte])) | (refine Dl.unwanted rfl rfl ?_; walk_nrm) | (refine Dl.value _ rfl rfl (by k_ne) (fun _ _=>by (go_simp; try (first | rfl | w_num | decide))) (fun _ _=>by simp [go_sem, *]) ?_; walk_nrm)))
      (refine Dl.call rfl rfl (by k_ne) rfl H.f_uLoad (nm_uLoad L) rfl ?_; walk_nrmf uLoadFn)
      (repeat (first | (first | with_reducible refine Dl.seq ?_ | ((with_reducible refine Dl.region ?_); simp only [List.size_toArray,List.length_cons,List.length_nil,Nat.reduceAdd,Nat.zero_add,List.range,List.range.loop]) | with_reducible refine Dl.regionEnd ?_ | with_reducible refine Dl.skip ?_ | with_reducible refine Dl.ret ?_ | with_reducible refine Dl.block ?_ | with_reducible refine Dl.inBlock ?_ | with_reducible refine Dl.loop ?_ | with_reducible refine Dl.inLoop ?_ | with_reducible (refine Dl.exit (by with_unfolding_all rfl) ?_) | ((with_reducible (refine Dl.cond true (by with_unfolding_all rfl) ?_)); simp only [if_true,if_false,Bool.false_eq_true,↓reduceIte]) | ((with_reducible (refine Dl.cond false (by with_unfolding_all rfl) ?_)); simp only [if_true,if_false,Bool.false_eq_true,↓reduceIte])) | (refine Dl.unwanted rfl rfl ?_; walk_nrm) | (refine Dl.value _ rfl rfl (by k_ne) (fun _ _=>by (go_simp; try (first | rfl | w_num | decide))) (fun _ _=>by simp [go_sem, *]) ?_; walk_nrm)))
      refine .here ⟨rfl,rfl,fun w hw=>?_⟩
      have hc:w.cell? ⟨Wg,0,none⟩=some (.int .u64 1):=by simp [World.cell?,hw,wgBlock]
      refine ⟨_,stepG_load_atomic rfl rfl (by k_ne) rfl H.f_loadU64 (x_loadU64_n L) (x_loadU64_b L) (x_loadU64_x L) .u64 (x_loadU64_f L) rfl hc,?_⟩
      clear hc hw
      walk_nrm
      (repeat (first | (first | with_reducible refine Dl.seq ?_ | ((with_reducible refine Dl.region ?_); simp only [List.size_toArray,List.length_cons,List.length_nil,Nat.reduceAdd,Nat.zero_add,List.range,List.range.loop]) | with_reducible refine Dl.regionEnd ?_ | with_reducible refine Dl.skip ?_ | with_reducible refine Dl.ret ?_ | with_reducible refine Dl.block ?_ | with_reducible refine Dl.inBlock ?_ | with_reducible refine Dl.loop ?_ | with_reducible refine Dl.inLoop ?_ | with_reducible (refine Dl.exit (by with_unfolding_all rfl) ?_) | ((with_reducible (refine Dl.cond true (by with_unfolding_all rfl) ?_)); simp only [if_true,if_false,Bool.false_eq_true,↓reduceIte]) | ((with_reducible (refine Dl.cond false (by with_unfolding_all rfl) ?_)); simp only [if_true,if_false,Bool.false_eq_true,↓reduceIte])) | (refine Dl.unwanted rfl rfl ?_; walk_nrm) | (refine Dl.value _ rfl rfl (by k_ne) (fun _ _=>by (go_simp; try (first | rfl | w_num | decide))) (fun _ _=>by simp [go_sem, *]) ?_; walk_nrm)))
      (refine Dl.leave1 rfl rfl H.f_uLoad rfl ?_; walk_nrm)
      (repeat (first | (first | with_reducible refine Dl.seq ?_ | ((with_reducible refine Dl.region ?_); simp only [List.size_toArray,List.length_cons,List.length_nil,Nat.reduceAdd,Nat.zero_add,List.range,List.range.loop]) | with_reducible refine Dl.regionEnd ?_ | with_reducible refine Dl.skip ?_ | with_reducible refine Dl.ret ?_ | with_reducible refine Dl.block ?_ | with_reducible refine Dl.inBlock ?_ | with_reducible refine Dl.loop ?_ | with_reducible refine Dl.inLoop ?_ | with_reducible (refine Dl.exit (by with_unfolding_all rfl) ?_) | ((with_reducible (refine Dl.cond true (by with_unfolding_all rfl) ?_)); simp only [if_true,if_false,Bool.false_eq_true,↓reduceIte]) | ((with_reducible (refine Dl.cond false (by with_unfolding_all rfl) ?_)); simp only [if_true,if_false,Bool.false_eq_true,↓reduceIte])) | (refine Dl.unwanted rfl rfl ?_; walk_nrm) | (refine Dl.value _ rfl rfl (by k_ne) (fun _ _=>by (go_simp; try (first | rfl | w_num | decide))) (fun _ _=>by simp [go_sem, *]) ?_; walk_nrm)))
      (refine Dl.call rfl rfl (by k_ne) rfl H.f_uStore (nm_uStore L) rfl ?_; walk_nrmf uStoreFn)
      (repeat (first | (first | with_reducible refine Dl.seq ?_ | ((with_reducible refine Dl.region ?_); simp only [List.size_toArray,List.length_cons,List.length_nil,Nat.reduceAdd,Nat.zero_add,List.range,List.range.loop]) | with_reducible refine Dl.regionEnd ?_ | with_reducible refine Dl.skip ?_ | with_reducible refine Dl.ret ?_ | with_reducible refine Dl.block ?_ | with_reducible refine Dl.inBlock ?_ | with_reducible refine Dl.loop ?_ | with_reducible refine Dl.inLoop ?_ | with_reducible (refine Dl.exit (by with_unfolding_all rfl) ?_) | ((with_reducible (refine Dl.cond true (by with_unfolding_all rfl) ?_)); simp only [if_true,if_false,Bool.false_eq_true,↓reduceIte]) | ((with_reducible (refine Dl.cond false (by with_unfolding_all rfl) ?_)); simp only [if_true,if_false,Bool.false_eq_true,↓reduceIte])) | (refine Dl.unwanted rfl rfl ?_; walk_nrm) | (refine Dl.value _ rfl rfl (by k_ne) (fun _ _=>by (go_simp; try (first | rfl | w_num | decide))) (fun _ _=>by simp [go_sem, *]) ?_; walk_nrm)))
      refine .here ⟨rfl,rfl,fun w hw=>?_⟩
      have hc:w.cell? ⟨Wg,0,none⟩=some (.int .u64 1):=by simp [World.cell?,hw,wgBlock]
      have hz:w.frozen? ⟨Wg,0,none⟩=false:=by simp [World.frozen?,hw,wgBlock]
      refine ⟨_,stepG_store_atomic rfl rfl (by k_ne) rfl H.f_storeU64 (x_storeU64_n L) (x_storeU64_b L) (x_storeU64_x L) (x_storeU64_f L) rfl rfl hc hz,?_⟩
      clear hc hw hz
      walk_nrm
      (repeat (first | (first | with_reducible refine Dl.seq ?_ | ((with_reducible refine Dl.region ?_); simp only [List.size_toArray,List.length_cons,List.length_nil,Nat.reduceAdd,Nat.zero_add,List.range,List.range.loop]) | with_reducible refine Dl.regionEnd ?_ | with_reducible refine Dl.skip ?_ | with_reducible refine Dl.ret ?_ | with_reducible refine Dl.block ?_ | with_reducible refine Dl.inBlock ?_ | with_reducible refine Dl.loop ?_ | with_reducible refine Dl.inLoop ?_ | with_reducible (refine Dl.exit (by with_unfolding_all rfl) ?_) | ((with_reducible (refine Dl.cond true (by with_unfolding_all rfl) ?_)); simp only [if_true,if_false,Bool.false_eq_true,↓reduceIte]) | ((with_reducible (refine Dl.cond false (by with_unfolding_all rfl) ?_)); simp only [if_true,if_false,Bool.false_eq_true,↓reduceIte])) | (refine Dl.unwanted rfl rfl ?_; walk_nrm) | (refine Dl.value _ rfl rfl (by k_ne) (fun _ _=>by (go_simp; try (first | rfl | w_num | decide))) (fun _ _=>by simp [go_sem, *]) ?_; walk_nrm)))
      refine Dl.done ?_
      (refine Dl.leave0 rfl rfl H.f_uStore rfl ?_; walk_nrm)
      (repeat (first | (first | with_reducible refine Dl.seq ?_ | ((with_reducible refine Dl.region ?_); simp only [List.size_toArray,List.length_cons,List.length_nil,Nat.reduceAdd,Nat.zero_add,List.range,List.range.loop]) | with_reducible refine Dl.regionEnd ?_ | with_reducible refine Dl.skip ?_ | with_reducible refine Dl.ret ?_ | with_reducible refine Dl.block ?_ | with_reducible refine Dl.inBlock ?_ | with_reducible refine Dl.loop ?_ | with_reducible refine Dl.inLoop ?_ | with_reducible (refine Dl.exit (by with_unfolding_all rfl) ?_) | ((with_reducible (refine Dl.cond true (by with_unfolding_all rfl) ?_)); simp only [if_true,if_false,Bool.false_eq_true,↓reduceIte]) | ((with_reducible (refine Dl.cond false (by with_unfolding_all rfl) ?_)); simp only [if_true,if_false,Bool.false_eq_true,↓reduceIte])) | (refine Dl.unwanted rfl rfl ?_; walk_nrm) | (refine Dl.value _ rfl rfl (by k_ne) (fun _ _=>by (go_simp; try (first | rfl | w_num | decide))) (fun _ _=>by simp [go_sem, *]) ?_; walk_nrm)))
      refine .here ⟨rfl,rfl,mayWake_entry rfl rfl H.f_semrelease (x_semrelease_b L),fun w hw=>?_⟩
      have hc:w.cell? ⟨Wg,1,none⟩=some (.int .u32 0):=by simp [World.cell?,hw,wgBlock]
      have hz:w.frozen? ⟨Wg,1,none⟩=false:=by simp [World.frozen?,hw,wgBlock]
      refine ⟨_,(stepG_semrelease rfl rfl (by k_ne) rfl H.f_semrelease (x_semrelease_n L) (x_semrelease_b L) (x_semrelease_x L) (x_semrelease_f L) (by simp [Act.eval,smA]) hc hz).trans (by rfl),Dl.quits ?_⟩
      clear hc hw hz
      walk_nrm
      (repeat (first | (first | with_reducible refine Dl.seq ?_ | ((with_reducible refine Dl.region ?_); simp only [List.size_toArray,List.length_cons,List.length_nil,Nat.reduceAdd,Nat.zero_add,List.range,List.range.loop]) | with_reducible refine Dl.regionEnd ?_ | with_reducible refine Dl.skip ?_ | with_reducible refine Dl.ret ?_ | with_reducible refine Dl.block ?_ | with_reducible refine Dl.inBlock ?_ | with_reducible refine Dl.loop ?_ | with_reducible refine Dl.inLoop ?_ | with_reducible (refine Dl.exit (by with_unfolding_all rfl) ?_) | ((with_reducible (refine Dl.cond true (by with_unfolding_all rfl) ?_)); simp only [if_true,if_false,Bool.false_eq_true,↓reduceIte]) | ((with_reducible (refine Dl.cond false (by with_unfolding_all rfl) ?_)); simp only [if_true,if_false,Bool.false_eq_true,↓reduceIte])) | (refine Dl.unwanted rfl rfl ?_; walk_nrm) | (refine Dl.value _ rfl rfl (by k_ne) (fun _ _=>by (go_simp; try (first | rfl | w_num | decide))) (fun _ _=>by simp [go_sem, *]) ?_; walk_nrm)))
      refine Dl.done ?_
      (refine Dl.unwind_mark .enable rfl (by simp) rfl H.f_enable (x_enable_n L) (x_enable_b L) (x_enable_x L) (x_enable_f L) ?_)
      exact Dl.leave0 rfl rfl H.f_add rfl hT'
  · refine ⟨fun h=>absurd h.1 h0,fun _=>Dl.quits ?_⟩
    obtain ⟨V,hV⟩:∃ V:Int,V=(v:Int):=⟨_,rfl⟩
    obtain ⟨S,hS⟩:∃ S:Int,S=(v:Int) * KK+wt:=⟨_,rfl⟩
    have a1:S / 4294967296=V:=by rw [hS,hV]; simp only [KK]; omega
    have b1:bits .and .u64 S 2147483648=0:=by rw [hS]; have:=st_flag v wt (by omega) hwt; simpa [KK] using this
    have b2:bits .and .u64 S 2147483647=wt:=by rw [hS]; have:=st_waiters v wt (by omega) hwt; simpa [KK] using this
    have c1:IntKind.i32.wrap V=V:=by rw [IntKind.wrap_i32]; omega
    have hV1:0<V:=by omega
    have hV2:V<2147483648:=by omega
    have q3:decide (V<0)=false:=decide_eq_false (by omega)
    have q4:decide (0<V)=true:=decide_eq_true (by omega)
    have q5:(V == 0)=false:=by simp; omega
    have q6:decide (V=0)=false:=decide_eq_false (by omega)
    rw [← hS]
    obtain rfl | rfl:wt=0∨wt=1:=by omega
    · have d1:IntKind.u32.wrap 0=0:=by decide
      replace b2:bits .and .u64 S 2147483647=0:=by simpa using b2
      clear hS hV
      (repeat (first | (first | with_reducible refine Dl.seq ?_ | ((with_reducible refine Dl.region ?_); simp only [List.size_toArray,List.length_cons,List.length_nil,Nat.reduceAdd,Nat.zero_add,List.range,List.range.loop]) | with_reducible refine Dl.regionEnd ?_ | with_reducible refine Dl.skip ?_ | with_reducible refine Dl.ret ?_ | with_reducible refine Dl.block ?_ | with_reducible refine Dl.inBlock ?_ | with_reducible refine Dl.loop ?_ | with_reducible refine Dl.inLoop ?_ | with_reducible (refine Dl.exit (by with_unfolding_all rfl) ?_) | ((with_reducible (refine Dl.cond true (by with_unfolding_all rfl) ?_)); simp only [if_true,if_false,Bool.false_eq_true,↓reduceIte]) | ((with_reducible (refine Dl.cond false (by with_unfolding_all rfl) ?_)); simp only [if_true,if_false,Bool.false_eq_true,↓reduceIte])) | (refine Dl.unwanted rfl rfl ?_; walk_nrm) | (refine Dl.value _ rfl rfl (by k_ne) (fun _ _=>by (go_simp; try (first | rfl | w_num | decide))) (fun _ _=>by simp [go_sem, *]) ?_; walk_nrm)))
      (refine Dl.leave1 rfl rfl H.f_uAdd rfl ?_; walk_nrm)
      (repeat (first | (first | with_reducible refine Dl.seq ?_ | ((with_reducible refine Dl.region ?_); simp only [List.size_toArray,List.length_cons,List.length_nil,Nat.reduceAdd,Nat.zero_add,List.range,List.range.loop]) | with_reducible refine Dl.regionEnd ?_ | with_reducible refine Dl.skip ?_ | with_reducible refine Dl.ret ?_ | with_reducible refine Dl.block ?_ | with_reducible refine Dl.inBlock ?_ | with_reducible refine Dl.loop ?_ | with_reducible refine Dl.inLoop ?_ | with_reducible (refine Dl.exit (by with_unfolding_all rfl) ?_) | ((with_reducible (refine Dl.cond true (by with_unfolding_all rfl) ?_)); simp only [if_true,if_false,Bool.false_eq_true,↓reduceIte]) | ((with_reducible (refine Dl.cond false (by with_unfolding_all rfl) ?_)); simp only [if_true,if_false,Bool.false_eq_true,↓reduceIte])) | (refine Dl.unwanted rfl rfl ?_; walk_nrm) | (refine Dl.value _ rfl rfl (by k_ne) (fun _ _=>by (go_simp; try (first | rfl | w_num | decide))) (fun _ _=>by simp [go_sem, *]) ?_; walk_nrm)))
      (refine Dl.unwind_mark .enable rfl (by simp) rfl H.f_enable (x_enable_n L) (x_enable_b L) (x_enable_x L) (x_enable_f L) ?_)
      exact Dl.leave0 rfl rfl H.f_add rfl hT'
    · have d1:IntKind.u32.wrap 1=1:=by decide
      replace b2:bits .and .u64 S 2147483647=1:=by simpa using b2
      clear hS hV
      (repeat (first | (first | with_reducible refine Dl.seq ?_ | ((with_reducible refine Dl.region ?_); simp only [List.size_toArray,List.length_cons,List.length_nil,Nat.reduceAdd,Nat.zero_add,List.range,List.range.loop]) | with_reducible refine Dl.regionEnd ?_ | with_reducible refine Dl.skip ?_ | with_reducible refine Dl.ret ?_ | with_reducible refine Dl.block ?_ | with_reducible refine Dl.inBlock ?_ | with_reducible refine Dl.loop ?_ | with_reducible refine Dl.inLoop ?_ | with_reducible (refine Dl.exit (by with_unfolding_all rfl) ?_) | ((with_reducible (refine Dl.cond true (by with_unfolding_all rfl) ?_)); simp only [if_true,if_false,Bool.false_eq_true,↓reduceIte]) | ((with_reducible (refine Dl.cond false (by with_unfolding_all rfl) ?_)); simp only [if_true,if_false,Bool.false_eq_true,↓reduceIte])) | (refine Dl.unwanted rfl rfl ?_; walk_nrm) | (refine Dl.value _ rfl rfl (by k_ne) (fun _ _=>by (go_simp; try (first | rfl | w_num | decide))) (fun _ _=>by simp [go_sem, *]) ?_; walk_nrm)))
      (refine Dl.leave1 rfl rfl H.f_uAdd rfl ?_; walk_nrm)
      (repeat (first | (first | with_reducible refine Dl.seq ?_ | ((with_reducible refine Dl.region ?_); simp only [List.size_toArray,List.length_cons,List.length_nil,Nat.reduceAdd,Nat.zero_add,List.range,List.range.loop]) | with_reducible refine Dl.regionEnd ?_ | with_reducible refine Dl.skip ?_ | with_reducible refine Dl.ret ?_ | with_reducible refine Dl.block ?_ | with_reducible refine Dl.inBlock ?_ | with_reducible refine Dl.loop ?_ | with_reducible refine Dl.inLoop ?_ | with_reducible (refine Dl.exit (by with_unfolding_all rfl) ?_) | ((with_reducible (refine Dl.cond true (by with_unfolding_all rfl) ?_)); simp only [if_true,if_false,Bool.false_eq_true,↓reduceIte]) | ((with_reducible (refine Dl.cond false (by with_unfolding_all rfl) ?_)); simp only [if_true,if_false,Bool.false_eq_true,↓reduceIte])) | (refine Dl.unwanted rfl rfl ?_; walk_nrm) | (refine Dl.value _ rfl rfl (by k_ne) (fun _ _=>by (go_simp; try (first | rfl | w_num | decide))) (fun _ _=>by simp [go_sem, *]) ?_; walk_nrm)))
      (refine Dl.unwind_mark .enable rfl (by simp) rfl H.f_enable (x_enable_n L) (x_enable_b L) (x_enable_x L) (x_enable_f L) ?_)
      exact Dl.leave0 rfl rfl H.f_add rfl hT'
end Go.Am
end
section
open List renaming map_map→ζ,mapM_map→ξ
namespace Go.Am
open Go.Conc Go.ConcR.Gen Go.Conc.Lib Go.RowKit Go.ConcR
open Go
theorem aVe {L:WgLink} {P:Program} (H:WgLib P L) {Wg:Nat} {cs:List Frame} {b0:Frame} {a0:Act} {ops0:Array Oper} {i0:Nat} {rest0:List Nat} {k0:List Item} {T:Array Value} (hT:T=#[.pointer (some ⟨Wg,0,none⟩),.int .i64 (-1)]++Array.replicate 115 undef)
    (hq:∃ q,QuitsD P q 0 (G (b0.at (a0.put ((ops0[i0]?).bind (·.dst)) (.tuple #[])) (.inRegion ops0 rest0::k0)) cs)) :
    Dl P false (cR L.tWg Wg) noE (uC P L Wg) 0 (G ((base L.add).at ⟨T,[]⟩ [.code (body_add L)]) (b0.at a0 (.inRegion ops0 (i0::rest0)::k0)::cs)):=by
  subst hT; exact bEc H hq
set_option maxRecDepth 100000 in
set_option maxHeartbeats 400000 in
theorem bAp {L:WgLink} {P:Program} (H:WgLib P L) {Wg:Nat} {c:Frame} {cs:List Frame} (hcm:c.mode=.returning) {q:Nat} (hT:QuitsD P q 0 (G c cs)) :
    Dl P false (cR L.tWg Wg) noE (uC P L Wg) 0 (G ((baseD L.done).at ⟨#[.pointer (some ⟨Wg,0,none⟩),undef,undef,undef],[]⟩ [.code (body_done L)]) (c::cs)):=by
  lib_facts
  simp only [body_done,doneFn,Option.getD_some]
  (repeat (first | (first | with_reducible refine Dl.seq ?_ | ((with_reducible refine Dl.region ?_); simp only [List.size_toArray,List.length_cons,List.length_nil,Nat.reduceAdd,Nat.zero_add,List.range,List.range.loop]) | with_reducible refine Dl.regionEnd ?_ | with_reducible refine Dl.skip ?_ | with_reducible refine Dl.ret ?_ | with_reducible refine Dl.block ?_ | with_reducible refine Dl.inBlock ?_ | with_reducible refine Dl.loop ?_ | with_reducible refine Dl.inLoop ?_ | with_reducible (refine Dl.exit (by with_unfolding_all rfl) ?_) | ((with_reducible (refine Dl.cond true (by with_unfolding_all rfl) ?_)); simp only [if_true,if_false,Bool.false_eq_true,↓reduceIte]) | ((with_reducible (refine Dl.cond false (by with_unfolding_all rfl) ?_)); simp only [if_true,if_false,Bool.false_eq_true,↓reduceIte])) | (refine Dl.unwanted rfl rfl ?_; walk_nrm) | (refine Dl.value _ rfl rfl (by k_ne) (fun _ _=>by (go_simp; try (first | rfl | w_num | decide))) (fun _ _=>by simp [go_sem, *]) ?_; walk_nrm)))
  have hS:=fun {cs b0 a0 ops0 i0 rest0 k0 T}=>@aVe L P H Wg cs b0 a0 ops0 i0 rest0 k0 T
  simp only [body_add,addFn,Option.getD_some] at hS
  refine Dl.call rfl rfl (by k_ne) rfl H.f_add (nm_add L) rfl ?_
  walk_nrmf addFn
  refine hS ?_ ⟨q+3,?_⟩
  · apply Array.ext'
    rw [Array.toList_append,Array.toList_replicate]
    simp only [List.replicate]
    rfl
  q_c stepG_region_end
  q_c stepG_end
  exact QuitsD.leaveD rfl rfl H.f_done rfl hcm hT
end Go.Am
end
section
open List renaming map_map→ζ,mapM_map→ξ
open Go Go.Am Go.Proofs
namespace Go.Am
open Go.Conc Go.Conc.Lib Go.RowKit Go.ConcR.Gen
open Go.ConcR (KK wgBlock stA smA rd wr mk)
def kG (F:Nat→Prop) (v v':World):Prop:=∀ b,F b→∀ c e f,v.heap[b]? = some (.cells c e f)→∃ f',v'.heap[b]? = some (.cells c e f')
theorem kG.cell {F:Nat→Prop} {v v':World} (h:kG F v v') {a:Addr} (ha:F a.block) {x:Value} (hx:v.cell? a=some x):v'.cell? a=some x:=by
  obtain ⟨c,t,f,hb,hlt,hs⟩:=mZ hx
  obtain ⟨f',hb'⟩:=h _ ha _ _ _ hb
  simp only [World.cell?,hb,hb'] at hx ⊢
  exact hx
def oY (d:D):Prop:=∀ (F:Nat→Prop) (v v':World) (x:Value),kG F v v'→VD F v d x→VD F v' d x
theorem yG (k:IntKind) (n:Int):oY (.i k n):=fun F v v' x _ hx=>by cases hx; exact .i k n
theorem bNd (b:Bool):oY (.b b):=fun F v v' x _ hx=>by cases hx; exact .b b
theorem lX (y:Value):oY (.lit y):=fun F v v' x _ hx=>by cases hx; exact .lit y
theorem wC {els:List (List D)} (h:∀ cs∈els,∀ c∈cs,oY c):oY (.sl els):=fun F v v' x hs hx=>by
  cases hx with
  | sl0 ad c=>exact .sl0 ad c
  | sl els ad n c sz f hn hc hsz hF hcell hel =>
    exact .sl els ad n c sz f hn hc hsz hF (fun j hj=>hs.cell (by rw [block_add]; exact hF) (hcell j hj)) fun j k cs c h1 h2=>h cs (List.mem_of_getElem? h1) c (List.mem_of_getElem? h2) F v v' _ hs (hel j k cs c h1 h2)
theorem jQ {cs:List D} (h:∀ c∈cs,oY c):oY (.pt cs):=fun F v v' x hs hx=>by
  cases hx with
  | pt cs ad f hF hcell hel=>exact .pt cs ad f hF (fun j hj=>hs.cell (by rw [block_add]; exact hF) (hcell j hj)) fun k c h1=>h c (List.mem_of_getElem? h1) F v v' _ hs (hel k c h1)
theorem aKf (F:Nat→Prop) (v:World):kG F v (iL v):=fun b _ c e f hb=>⟨_,by rw [lW,hb]; rfl⟩
theorem aAu {F:Nat→Prop} {v v':World} (h:Env v v'):kG F v v':=fun b _ c e f hb=>⟨f,by rw [h.get (bD hb)]; exact hb⟩
theorem aQr {F:Nat→Prop} {v:World} {C:Nat} (hC:∀ b,F b→b≠C):kG F v (inV v C):=fun b hF c e f hb=>⟨_,by rw [wA (bD hb) (hC b hF),hb]; rfl⟩
theorem kG.trans {F:Nat→Prop} {v v1 v2:World} (h:kG F v v1) (k:kG F v1 v2):kG F v v2:=fun b hF c e f hb=>by
  obtain ⟨f1,h1⟩:=h b hF c e f hb
  exact k b hF c e f1 h1
theorem bDn {Wg Ba Bp Bi Br:Nat} {p:Pl} {i n cap:Nat} {v:World} {c0 c1 c2:D} {pr rp rv er:Int} (hwd:p.wd=3) (hi:i<p.n) (hn:p.n=n) (h0:p.val i 0=.int .i64 i) (h1:p.val i 1=.int .u64 rp) (h2:p.val i 2=.int .u64 rv) (hok:OkV v)
    (hBa:VD (fun b=>b<v.heap.size) v (.pt [c0,c1,c2]) (bY Ba)) (hBp:VD (fun b=>b<v.heap.size) v (.pt [.i .u64 pr]) (bY Bp)) (hBi:VD (fun b=>b<v.heap.size) v (.pt [.i .i64 i]) (bY Bi)) (hBr:VD (fun b=>b<v.heap.size) v (.pt [.lit (.slice (some ⟨p.C,0,none⟩) n cap)]) (bY Br))
    (hsp:letI:=kT Tryz.prog false; Spec Tryz.prog 74 [.ag [c0,c1,c2],.i .u64 pr] (.tp [.ag [.i .u64 rp,.i .u64 rv],.i .i64 er])) :
    ∃ tr,GTw Tryz.prog bM Wg p i tr 0 (born Tryz.prog (aAm Wg Ba Bp Bi Br)) v :=
  aUg (p:=p) (Wg:=Wg) hok hBa hBp hBi hBr hsp fun a v' ops o6 o7 hv ho6 ho7 p6 d6 g6 p7 d7 g7 hN hds e13 e14 e17 =>
    aPq (fun hcm hq=>bAp aAl hcm hq) hwd hi hn h0 h1 h2 hv ho6 ho7 p6 d6 g6 p7 d7 g7 hN hds e13 e14 e17
end Go.Am
end
section
open List renaming map_map→ζ,mapM_map→ξ
namespace Go.Am
open Go.Conc Go.ConcR.Gen Go.Conc.Lib Go.RowKit Go.ConcR
open Go.ConcN (st_flag st_waiters)
open Go
set_option maxRecDepth 100000 in
set_option maxHeartbeats 8000000 in
theorem bJf {L:WgLink} {P:Program} (H:WgLib P L) {Wg:Nat} {cs:List Frame} {b0:Frame} {a0:Act} {ops0:Array Oper} {i0:Nat} {rest0:List Nat} {k0:List Item} {K:Nat→Goroutine→Prop}
    (hK:K 0 (G (b0.at (a0.put ((ops0[i0]?).bind (·.dst)) (.tuple #[])) (.inRegion ops0 rest0::k0)) cs)) :
    Dl P true (cR L.tWg Wg) (dI Wg) (fun d g=>d=1∧aCm P L Wg K d g) 0 (G ((base L.add).at ⟨#[.pointer (some ⟨Wg,0,none⟩),.int .i64 1]++Array.replicate 115 undef,[]⟩ [.code (body_add L)]) (b0.at a0 (.inRegion ops0 (i0::rest0)::k0)::cs)):=by
  have hT':Dl P true (cR L.tWg Wg) (dI Wg) K 0 (G (b0.at (a0.put ((ops0[i0]?).bind (·.dst)) (.tuple #[])) (.inRegion ops0 rest0::k0)) cs):=.here hK
  lib_facts
  simp only [body_add,addFn,Option.getD_some]
  (repeat (first | (first | with_reducible refine Dl.seq ?_ | ((with_reducible refine Dl.region ?_); simp only [List.size_toArray,List.length_cons,List.length_nil,Nat.reduceAdd,Nat.zero_add,List.range,List.range.loop]) | with_reducible refine Dl.regionEnd ?_ | with_reducible refine Dl.skip ?_ | with_reducible refine Dl.ret ?_ | with_reducible refine Dl.block ?_ | with_reducible refine Dl.inBlock ?_ | with_reducible refine Dl.loop ?_ | with_reducible refine Dl.inLoop ?_ | with_reducible (refine Dl.exit (by with_unfolding_all rfl) ?_) | ((with_reducible (refine Dl.cond true (by with_unfolding_all rfl) ?_)); simp only [if_true,if_false,Bool.false_eq_true,↓reduceIte]) | ((with_reducible (refine Dl.cond false (by with_unfolding_all rfl) ?_)); simp only [if_true,if_false,Bool.false_eq_true,↓reduceIte])) | (refine Dl.unwanted rfl rfl ?_; walk_nrm) | (refine Dl.value _ rfl rfl (by k_ne) (fun _ _=>by (go_simp; try (first | rfl | w_num | decide))) (fun _ _=>by simp [go_sem, *]) ?_; walk_nrm)))
  (refine Dl.step rfl (by (intro e he; simp at he; subst he; exact .inl rfl)) (fun w hI=>stepG_mark0 .disable (by simp) rfl rfl (by k_ne) rfl H.f_disable (x_disable_n L) (x_disable_b L) (x_disable_x L) (x_disable_f L)) ?_; walk_nrm)
  repeat (first | with_reducible refine Dl.seq ?_ | ((with_reducible refine Dl.region ?_); simp only [List.size_toArray,List.length_cons,List.length_nil,Nat.reduceAdd,Nat.zero_add,List.range,List.range.loop]) | with_reducible refine Dl.regionEnd ?_ | with_reducible refine Dl.skip ?_ | with_reducible refine Dl.ret ?_ | with_reducible refine Dl.block ?_ | with_reducible refine Dl.inBlock ?_ | with_reducible refine Dl.loop ?_ | with_reducible refine Dl.inLoop ?_ | with_reducible (refine Dl.exit (by with_unfolding_all rfl) ?_) | ((with_reducible (refine Dl.cond true (by with_unfolding_all rfl) ?_)); simp only [if_true,if_false,Bool.false_eq_true,↓reduceIte]) | ((with_reducible (refine Dl.cond false (by with_unfolding_all rfl) ?_)); simp only [if_true,if_false,Bool.false_eq_true,↓reduceIte]))
  (refine Dl.ctl rfl (fun w hI=>stepG_defer rfl rfl (by k_ne) rfl) ?_; walk_nrm)
  repeat (first | with_reducible refine Dl.seq ?_ | ((with_reducible refine Dl.region ?_); simp only [List.size_toArray,List.length_cons,List.length_nil,Nat.reduceAdd,Nat.zero_add,List.range,List.range.loop]) | with_reducible refine Dl.regionEnd ?_ | with_reducible refine Dl.skip ?_ | with_reducible refine Dl.ret ?_ | with_reducible refine Dl.block ?_ | with_reducible refine Dl.inBlock ?_ | with_reducible refine Dl.loop ?_ | with_reducible refine Dl.inLoop ?_ | with_reducible (refine Dl.exit (by with_unfolding_all rfl) ?_) | ((with_reducible (refine Dl.cond true (by with_unfolding_all rfl) ?_)); simp only [if_true,if_false,Bool.false_eq_true,↓reduceIte]) | ((with_reducible (refine Dl.cond false (by with_unfolding_all rfl) ?_)); simp only [if_true,if_false,Bool.false_eq_true,↓reduceIte]))
  (refine Dl.value _ rfl rfl (by k_ne) (fun _ _=>by (go_simp; try (first | rfl | w_num | decide))) (fun _ _=>by simp [go_sem, *]) ?_; walk_nrm)
  repeat (first | with_reducible refine Dl.seq ?_ | ((with_reducible refine Dl.region ?_); simp only [List.size_toArray,List.length_cons,List.length_nil,Nat.reduceAdd,Nat.zero_add,List.range,List.range.loop]) | with_reducible refine Dl.regionEnd ?_ | with_reducible refine Dl.skip ?_ | with_reducible refine Dl.ret ?_ | with_reducible refine Dl.block ?_ | with_reducible refine Dl.inBlock ?_ | with_reducible refine Dl.loop ?_ | with_reducible refine Dl.inLoop ?_ | with_reducible (refine Dl.exit (by with_unfolding_all rfl) ?_) | ((with_reducible (refine Dl.cond true (by with_unfolding_all rfl) ?_)); simp only [if_true,if_false,Bool.false_eq_true,↓reduceIte]) | ((with_reducible (refine Dl.cond false (by with_unfolding_all rfl) ?_)); simp only [if_true,if_false,Bool.false_eq_true,↓reduceIte]))
  (refine Dl.ctl rfl (fun w hI=>stepG_entry_pure (.bool false) rfl rfl (by k_ne) rfl H.f_inBubble (x_inBubble_n L) (x_inBubble_b L) (x_inBubble_x L) (x_inBubble_f L)) ?_; walk_nrm)
  (repeat (first | (first | with_reducible refine Dl.seq ?_ | ((with_reducible refine Dl.region ?_); simp only [List.size_toArray,List.length_cons,List.length_nil,Nat.reduceAdd,Nat.zero_add,List.range,List.range.loop]) | with_reducible refine Dl.regionEnd ?_ | with_reducible refine Dl.skip ?_ | with_reducible refine Dl.ret ?_ | with_reducible refine Dl.block ?_ | with_reducible refine Dl.inBlock ?_ | with_reducible refine Dl.loop ?_ | with_reducible refine Dl.inLoop ?_ | with_reducible (refine Dl.exit (by with_unfolding_all rfl) ?_) | ((with_reducible (refine Dl.cond true (by with_unfolding_all rfl) ?_)); simp only [if_true,if_false,Bool.false_eq_true,↓reduceIte]) | ((with_reducible (refine Dl.cond false (by with_unfolding_all rfl) ?_)); simp only [if_true,if_false,Bool.false_eq_true,↓reduceIte])) | (refine Dl.unwanted rfl rfl ?_; walk_nrm) | (refine Dl.value _ rfl rfl (by k_ne) (fun _ _=>by (go_simp; try (first | rfl | w_num | decide))) (fun _ _=>by simp [go_sem, *]) ?_; walk_nrm)))
  (refine Dl.call rfl rfl (by k_ne) rfl H.f_uAdd (nm_uAdd L) rfl ?_; walk_nrmf uAddFn)
  (repeat (first | (first | with_reducible refine Dl.seq ?_ | ((with_reducible refine Dl.region ?_); simp only [List.size_toArray,List.length_cons,List.length_nil,Nat.reduceAdd,Nat.zero_add,List.range,List.range.loop]) | with_reducible refine Dl.regionEnd ?_ | with_reducible refine Dl.skip ?_ | with_reducible refine Dl.ret ?_ | with_reducible refine Dl.block ?_ | with_reducible refine Dl.inBlock ?_ | with_reducible refine Dl.loop ?_ | with_reducible refine Dl.inLoop ?_ | with_reducible (refine Dl.exit (by with_unfolding_all rfl) ?_) | ((with_reducible (refine Dl.cond true (by with_unfolding_all rfl) ?_)); simp only [if_true,if_false,Bool.false_eq_true,↓reduceIte]) | ((with_reducible (refine Dl.cond false (by with_unfolding_all rfl) ?_)); simp only [if_true,if_false,Bool.false_eq_true,↓reduceIte])) | (refine Dl.unwanted rfl rfl ?_; walk_nrm) | (refine Dl.value _ rfl rfl (by k_ne) (fun _ _=>by (go_simp; try (first | rfl | w_num | decide))) (fun _ _=>by simp [go_sem, *]) ?_; walk_nrm)))
  refine .here ⟨rfl,rfl,fun w v hv hw=>?_⟩
  have hc:w.cell? ⟨Wg,0,none⟩=some (.int .u64 ((v:Int) * KK)):=by simp [World.cell?,hw,wgBlock]
  have hz:w.frozen? ⟨Wg,0,none⟩=false:=by simp [World.frozen?,hw,wgBlock]
  have eS:IntKind.u64.wrap ((v:Int) * KK+IntKind.u64.wrap (IntKind.u64.wrap 1 * 4294967296))=((v:Int)+1) * KK:=by
    have:IntKind.u64.wrap (IntKind.u64.wrap 1 * 4294967296)=4294967296:=by decide
    rw [this,IntKind.wrap_u64]; simp only [KK]; omega
  refine ⟨_,(stepG_add_atomic rfl rfl (by k_ne) rfl H.f_addU64 (x_addU64_n L) (x_addU64_b L) (x_addU64_x L) .u64 (x_addU64_f L) rfl rfl hc hz).trans (by rw [eS]; rfl),?_⟩
  clear hw hc hz eS
  walk_nrm
  by_cases h0:v=0
  · subst h0
    have e0:(((0:Nat):Int)+1) * KK=4294967296:=by simp [KK]
    rw [e0]
    have e2:IntKind.u32.wrap (bits BinOp.and IntKind.u64 4294967296 2147483647)=0:=by decide
    (repeat (first | (first | with_reducible refine Dl.seq ?_ | ((with_reducible refine Dl.region ?_); simp only [List.size_toArray,List.length_cons,List.length_nil,Nat.reduceAdd,Nat.zero_add,List.range,List.range.loop]) | with_reducible refine Dl.regionEnd ?_ | with_reducible refine Dl.skip ?_ | with_reducible refine Dl.ret ?_ | with_reducible refine Dl.block ?_ | with_reducible refine Dl.inBlock ?_ | with_reducible refine Dl.loop ?_ | with_reducible refine Dl.inLoop ?_ | with_reducible (refine Dl.exit (by with_unfolding_all rfl) ?_) | ((with_reducible (refine Dl.cond true (by with_unfolding_all rfl) ?_)); simp only [if_true,if_false,Bool.false_eq_true,↓reduceIte]) | ((with_reducible (refine Dl.cond false (by with_unfolding_all rfl) ?_)); simp only [if_true,if_false,Bool.false_eq_true,↓reduceIte])) | (refine Dl.unwanted rfl rfl ?_; walk_nrm) | (refine Dl.value _ rfl rfl (by k_ne) (fun _ _=>by (go_simp; try (first | rfl | w_num | decide))) (fun _ _=>by simp [go_sem, *]) ?_; walk_nrm)))
    (refine Dl.leave1 rfl rfl H.f_uAdd rfl ?_; walk_nrm)
    (repeat (first | (first | with_reducible refine Dl.seq ?_ | ((with_reducible refine Dl.region ?_); simp only [List.size_toArray,List.length_cons,List.length_nil,Nat.reduceAdd,Nat.zero_add,List.range,List.range.loop]) | with_reducible refine Dl.regionEnd ?_ | with_reducible refine Dl.skip ?_ | with_reducible refine Dl.ret ?_ | with_reducible refine Dl.block ?_ | with_reducible refine Dl.inBlock ?_ | with_reducible refine Dl.loop ?_ | with_reducible refine Dl.inLoop ?_ | with_reducible (refine Dl.exit (by with_unfolding_all rfl) ?_) | ((with_reducible (refine Dl.cond true (by with_unfolding_all rfl) ?_)); simp only [if_true,if_false,Bool.false_eq_true,↓reduceIte]) | ((with_reducible (refine Dl.cond false (by with_unfolding_all rfl) ?_)); simp only [if_true,if_false,Bool.false_eq_true,↓reduceIte])) | (refine Dl.unwanted rfl rfl ?_; walk_nrm) | (refine Dl.value _ rfl rfl (by k_ne) (fun _ _=>by (go_simp; try (first | rfl | w_num | decide))) (fun _ _=>by simp [go_sem, *]) ?_; walk_nrm)))
    (refine Dl.value _ rfl rfl (by k_ne) (fun w hI=>by (have hcv:=run_convert_to_unsafe (P:=P) H.underlying_tPU32 H.underlying_tUP H.room_tU32 (cR.cell1 hI).choose_spec); go_simp; rfl) (fun w hI=>by (have hce:=fun es=>events_convert_to_unsafe (P:=P) H.underlying_tPU32 H.underlying_tUP H.room_tU32 (cR.cell1 hI).choose_spec es); simp [go_sem,hce]) ?_; walk_nrm)
    (refine Dl.step rfl (by (intro e he; simp at he; subst he; first | exact .inr (.inl rfl) | exact .inr (.inr rfl))) (fun w hI=>stepG_markAt .read (by simp) rfl rfl (by k_ne) rfl H.f_raceRead (x_raceRead_n L) (x_raceRead_b L) (x_raceRead_x L) (x_raceRead_f L) (ad:=smA Wg) (by simp [Act.eval,smA])) ?_; walk_nrm)
    (repeat (first | (first | with_reducible refine Dl.seq ?_ | ((with_reducible refine Dl.region ?_); simp only [List.size_toArray,List.length_cons,List.length_nil,Nat.reduceAdd,Nat.zero_add,List.range,List.range.loop]) | with_reducible refine Dl.regionEnd ?_ | with_reducible refine Dl.skip ?_ | with_reducible refine Dl.ret ?_ | with_reducible refine Dl.block ?_ | with_reducible refine Dl.inBlock ?_ | with_reducible refine Dl.loop ?_ | with_reducible refine Dl.inLoop ?_ | with_reducible (refine Dl.exit (by with_unfolding_all rfl) ?_) | ((with_reducible (refine Dl.cond true (by with_unfolding_all rfl) ?_)); simp only [if_true,if_false,Bool.false_eq_true,↓reduceIte]) | ((with_reducible (refine Dl.cond false (by with_unfolding_all rfl) ?_)); simp only [if_true,if_false,Bool.false_eq_true,↓reduceIte])) | (refine Dl.unwanted rfl rfl ?_; walk_nrm) | (refine Dl.value _ rfl rfl (by k_ne) (fun _ _=>by (go_simp; try (first | rfl | w_num | decide))) (fun _ _=>by simp [go_sem, *]) ?_; walk_nrm)))
    (refine Dl.unwind_mark .enable rfl (by simp) rfl H.f_enable (x_enable_n L) (x_enable_b L) (x_enable_x L) (x_enable_f L) ?_)
    exact Dl.leave0 rfl rfl H.f_add rfl hT'
  · obtain ⟨V,hV⟩:∃ V:Int,V=(v:Int)+1:=⟨_,rfl⟩
    obtain ⟨S,hS⟩:∃ S:Int,S=V * KK:=⟨_,rfl⟩
    have a1:S / 4294967296=V:=by rw [hS]; simp only [KK]; omega
    have b1:bits .and .u64 S 2147483648=0:=by rw [hS,hV]; have:=st_flag (v+1) 0 (by omega) (by omega); simpa [KK] using this
    have b2:bits .and .u64 S 2147483647=0:=by rw [hS,hV]; have:=st_waiters (v+1) 0 (by omega) (by omega); simpa [KK] using this
    have c1:IntKind.i32.wrap V=V:=by rw [IntKind.wrap_i32]; omega
    have d1:IntKind.u32.wrap 0=0:=by decide
    have hV1:1<V:=by omega
    have hV2:V<2147483648:=by omega
    have r1:IntKind.i32.wrap 1=1:=by decide
    have q1:(V == 1)=false:=by simp; omega
    have q2:decide (V=1)=false:=decide_eq_false (by omega)
    have q3:decide (V<0)=false:=decide_eq_false (by omega)
    have q4:decide (0<V)=true:=decide_eq_true (by omega)
    have q5:(V == 0)=false:=by simp; omega
    have q6:decide (V=0)=false:=decide_eq_false (by omega)
    rw [← hV,← hS]
    clear hS hV
    (repeat (first | (first | with_reducible refine Dl.seq ?_ | ((with_reducible refine Dl.region ?_); simp only [List.size_toArray,List.length_cons,List.length_nil,Nat.reduceAdd,Nat.zero_add,List.range,List.range.loop]) | with_reducible refine Dl.regionEnd ?_ | with_reducible refine Dl.skip ?_ | with_reducible refine Dl.ret ?_ | with_reducible refine Dl.block ?_ | with_reducible refine Dl.inBlock ?_ | with_reducible refine Dl.loop ?_ | with_reducible refine Dl.inLoop ?_ | with_reducible (refine Dl.exit (by with_unfolding_all rfl) ?_) | ((with_reducible (refine Dl.cond true (by with_unfolding_all rfl) ?_)); simp only [if_true,if_false,Bool.false_eq_true,↓reduceIte]) | ((with_reducible (refine Dl.cond false (by with_unfolding_all rfl) ?_)); simp only [if_true,if_false,Bool.false_eq_true,↓reduceIte])) | (refine Dl.unwanted rfl rfl ?_; walk_nrm) | (refine Dl.value _ rfl rfl (by k_ne) (fun _ _=>by (go_simp; try (first | rfl | w_num | decide))) (fun _ _=>by simp [go_sem, *]) ?_; walk_nrm)))
    (refine Dl.leave1 rfl rfl H.f_uAdd rfl ?_; walk_nrm)
    (repeat (first | (first | with_reducible refine Dl.seq ?_ | ((with_reducible refine Dl.region ?_); simp only [List.size_toArray,List.length_cons,List.length_nil,Nat.reduceAdd,Nat.zero_add,List.range,List.range.loop]) | with_reducible refine Dl.regionEnd ?_ | with_reducible refine Dl.skip ?_ | with_reducible refine Dl.ret ?_ | with_reducible refine Dl.block ?_ | with_reducible refine Dl.inBlock ?_ | with_reducible refine Dl.loop ?_ | with_reducible refine Dl.inLoop ?_ | with_reducible (refine Dl.exit (by with_unfolding_all rfl) ?_) | ((with_reducible (refine Dl.cond true (by with_unfolding_all rfl) ?_)); simp only [if_true,if_false,Bool.false_eq_true,↓reduceIte]) | ((with_reducible (refine Dl.cond false (by with_unfolding_all rfl) ?_)); simp only [if_true,if_false,Bool.false_eq_true,↓reduceIte])) | (refine Dl.unwanted rfl rfl ?_; walk_nrm) | (refine Dl.value _ rfl rfl (by k_ne) (fun _ _=>by (go_simp; try (first | rfl | w_num | decide))) (fun _ _=>by simp [go_sem, *]) ?_; walk_nrm)))
    (refine Dl.unwind_mark .enable rfl (by simp) rfl H.f_enable (x_enable_n L) (x_enable_b L) (x_enable_x L) (x_enable_f L) ?_)
    exact Dl.leave0 rfl rfl H.f_add rfl hT'
end Go.Am
end
