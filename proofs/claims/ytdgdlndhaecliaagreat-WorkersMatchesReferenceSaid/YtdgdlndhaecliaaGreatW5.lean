/- The reference's Proper. No condition. -/
import Derived.Test.YtdgdlndhaecliaaGreatW3
import Derived.Test.YtdgdlndhaecliaaGreatW4
import Derived.Laws.Bits64b
set_option linter.unusedSectionVars false
set_option linter.unusedVariables false
set_option linter.unusedSimpArgs false
section
open List renaming map_map→ζ,mapM_map→ξ
namespace Go.Am
def PrN (n:Nat):Prop:=2≤n∧∀ d,2≤d→d * d≤n→n % d≠0
theorem PrN.dvd {p d:Nat} (hp:PrN p) (hd:d ∣ p):d=1∨d=p:=by
 obtain ⟨e,he⟩:=hd
 have hp2:=hp.1
 rcases Nat.lt_or_ge d 2 with h1 | h1
 ·left
  rcases Nat.eq_zero_or_pos d with h0 | h0
  ·subst h0; simp at he; omega
  ·omega
 rcases Nat.lt_or_ge e 2 with h2 | h2
 ·right
  rcases Nat.eq_zero_or_pos e with h0 | h0
  ·subst h0; simp at he; omega
  ·have:e=1:=by omega
   subst this; omega
 exfalso
 rcases Nat.le_total d e with h | h
 ·exact hp.2 d h1 (by rw [he]; exact Nat.mul_le_mul_left d h) (by rw [he]; exact Nat.mul_mod_right d e)
 ·exact hp.2 e h2 (by rw [he]; exact Nat.mul_le_mul_right e h) (by rw [he]; exact Nat.mul_mod_left d e)
theorem PrN.cop {p a:Nat} (hp:PrN p) (ha:a % p≠0):Nat.Coprime p a:=by
 rcases hp.dvd (Nat.gcd_dvd_left p a) with h | h
 ·exact h
 ·exact absurd (Nat.mod_eq_zero_of_dvd (h ▸ Nat.gcd_dvd_right p a)) ha
theorem PrN.two {p q:Nat} (hp:PrN p) (hq:PrN q) (h:p≠q):Nat.Coprime p q:=by
 refine hp.cop fun hz=>?_
 rcases hq.dvd (Nat.dvd_of_mod_eq_zero hz) with h1 | h1
 ·have:=hp.1; omega
 ·exact h h1
def bI:List Nat→Nat
 | []=>1
 | p::l=>p * bI l
theorem qI {l m:List Nat} (h:l.Perm m):bI l=bI m:=by
 induction h with
 | nil=>rfl
 | cons x _ ih=>simp only [bI,ih]
 | swap x y l=>simp only [bI,← Nat.mul_assoc,Nat.mul_comm x y]
 | trans _ _ h1 h2=>exact h1.trans h2
theorem bFs {l m:List Nat}:l.Nodup→(∀ x∈l,x∈m)→m.length≤l.length→l.Perm m:=by
 induction l generalizing m with
 | nil =>
  intro _ _ hl
  have:m=[]:=List.eq_nil_of_length_eq_zero (by simpa using hl)
  subst this; exact .refl _
 | cons x l ih =>
  intro hn hs hl
  have hx:x∈m:=hs x (List.mem_cons_self ..)
  rw [List.nodup_cons] at hn
  have hp:=List.perm_cons_erase hx
  refine .trans (List.Perm.cons x (ih hn.2 (fun y hy=>?_) ?_)) hp.symm
  ·have hyx:y≠x:=fun e=>hn.1 (e ▸ hy)
   exact (List.mem_erase_of_ne hyx).2 (hs y (List.mem_cons_of_mem _ hy))
  ·have:=hp.length_eq
   simp only [List.length_cons] at this hl
   omega
theorem pV (p a:Nat):∀ l:List Nat,bI (l.map fun i=>a * i % p) % p=a ^ l.length * bI l % p
 | []=>by simp [bI]
 | x::l=>by
  have ih:=pV p a l
  simp only [List.map_cons,bI,List.length_cons,Nat.pow_succ]
  rw [Nat.mul_mod,ih,Nat.mod_mod,← Nat.mul_mod]
  congr 1
  ac_rfl
theorem tC {p:Nat}:∀ {l:List Nat},(∀ x∈l,Nat.Coprime p x)→Nat.Coprime p (bI l)
 | [],_=>by simp [bI]
 | x::l,h=>Nat.Coprime.mul_right (h x (List.mem_cons_self ..)) (tC fun y hy=>h y (List.mem_cons_of_mem _ hy))
theorem bNe {p a:Nat} (hp:PrN p) (ha:a % p≠0):a ^ (p - 1) % p=1:=by
 have hp2:=hp.1
 have hcop:=hp.cop ha
 obtain ⟨L,hL⟩:∃ L,L=(List.range (p - 1)).map (·+1):=⟨_,rfl⟩
 have hmem:∀ x,x∈L↔0<x∧x<p:=fun x=>by
  rw [hL,List.mem_map]
  constructor
  ·rintro ⟨y,hy,rfl⟩
   rw [List.mem_range] at hy
   omega
  ·rintro ⟨h1,h2⟩
   exact ⟨x - 1,List.mem_range.2 (by omega),by omega⟩
 have hlen:L.length=p - 1:=by rw [hL]; simp
 have hcx:∀ x∈L,Nat.Coprime p x:=fun x hx=>by
  obtain ⟨h1,h2⟩:=(hmem x).1 hx
  exact hp.cop (by rw [Nat.mod_eq_of_lt h2]; omega)
 have hnd:(L.map fun i=>a * i % p).Nodup:=by
  rw [List.Nodup,List.pairwise_map]
  have h0:L.Pairwise (·≠·):=by
   rw [hL,List.pairwise_map]
   exact List.Pairwise.imp (fun h=>by omega) List.nodup_range
  refine List.Pairwise.imp_of_mem (fun {x y} hx hy hne he=>hne ?_) h0
  obtain ⟨x1,x2⟩:=(hmem x).1 hx
  obtain ⟨y1,y2⟩:=(hmem y).1 hy
  rcases Nat.le_total x y with hxy | hxy
  ·have h1:(a * y - a * x) % p=0:=Nat.sub_mod_eq_zero_of_mod_eq he.symm
   rw [← Nat.mul_sub] at h1
   have h2:=hcop.dvd_of_dvd_mul_left (Nat.dvd_of_mod_eq_zero h1)
   have:=fun h=>Nat.le_of_dvd h h2
   rcases Nat.eq_zero_or_pos (y - x) with h3 | h3
   ·omega
   ·have:=this h3; omega
  ·have h1:(a * x - a * y) % p=0:=Nat.sub_mod_eq_zero_of_mod_eq he
   rw [← Nat.mul_sub] at h1
   have h2:=hcop.dvd_of_dvd_mul_left (Nat.dvd_of_mod_eq_zero h1)
   have:=fun h=>Nat.le_of_dvd h h2
   rcases Nat.eq_zero_or_pos (x - y) with h3 | h3
   ·omega
   ·have:=this h3; omega
 have hperm:(L.map fun i=>a * i % p).Perm L:=by
  refine bFs hnd (fun x hx=>?_) (by simp)
  obtain ⟨i,hi,rfl⟩:=List.mem_map.1 hx
  obtain ⟨i1,i2⟩:=(hmem i).1 hi
  refine (hmem _).2 ⟨?_,Nat.mod_lt _ (by omega)⟩
  refine Nat.pos_of_ne_zero fun hz=>?_
  have:=hcop.dvd_of_dvd_mul_left (Nat.dvd_of_mod_eq_zero hz)
  have:=Nat.le_of_dvd i1 this
  omega
 have h1:=pV p a L
 rw [qI hperm,hlen] at h1
 have hcP:=tC hcx
 have hpos:0<a ^ (p - 1):=Nat.pow_pos (Nat.pos_of_ne_zero fun h=>ha (by subst h; simp))
 have h2:(a ^ (p - 1) * bI L - 1 * bI L) % p=0:=Nat.sub_mod_eq_zero_of_mod_eq (by rw [Nat.one_mul]; exact h1.symm)
 rw [← Nat.sub_mul] at h2
 have h3:=hcP.dvd_of_dvd_mul_right (Nat.dvd_of_mod_eq_zero h2)
 obtain ⟨k,hk⟩:=h3
 have:a ^ (p - 1)=1+p * k:=by omega
 rw [this,Nat.add_mul_mod_self_left,Nat.mod_eq_of_lt (by omega)]
theorem aLx {p a:Nat} (hp:PrN p) (ha:a % p≠0):a ^ (p - 2) * a % p=1:=by
 have h2:=hp.1
 rw [← Nat.pow_succ,show (p - 2).succ=p - 1 from by omega]
 exact bNe hp ha
end Go.Am
end
section
open List renaming map_map→ζ,mapM_map→ξ
open Go Go.Am Go.Proofs
namespace Go.Am
def dnL (n m:Nat):List (List D):=(List.range (n - m)).map fun k=>[.i .u64 ((n - 1 - k:Nat):Int)]
theorem pN (n m:Nat):(dnL n m).length=n - m:=by simp [dnL]
theorem aLz {n m k:Nat} (h:k<n - m):(dnL n m)[k]? = some [.i .u64 ((n - 1 - k:Nat):Int)]:=by
 simp [dnL,h]
set_option maxHeartbeats 8000000 in
set_option maxRecDepth 10000 in
theorem bIe [M:Mch Tryz.prog] (n m:Nat) (h:m<n) (hn:n≤2147483648):kY Tryz.prog 200 [.pt [.i .u64 n]] (dnL n m):=by
 refine aWb (N:=15) aW Tryz.func200 rfl rfl rfl (by kernel_rfl) (by kernel_rfl) (by simp) fun l=>?_
 refine pO (by kernel_rfl) ?_
 simp [-ζ,-ξ,↓KW,↓aL,↓aD,↓aJ,↓aK]
 have hmin:(if (2147483648:Int)<(n:Int) then (2147483648:Int) else (n:Int))=n:=by rw [if_neg (by omega)]
 rw [hmin]
 refine nC ?_
 refine aCk (τ:=Nat) (by kernel_rfl) (fun k=>k<n - m) (fun k=>StL [(0,.d (.lit (.func (.yield l) #[] #[]))),(3,.d (.i .u64 ((n - k:Nat):Int)))] none []) (fun k=>k) (fun k=>n - k) 0 (by omega) rfl ?_ ?_
 ·refine wkQ [] ?_ ?_
  ·simp [-ζ,upd,aS,Γ0]
  ·simp [-ζ,upd,aS,Γ0]
 ·intro k hk
  have h1:0<n - k:=by omega
  have h2:IntKind.u64.wrap (((n - k:Nat):Int) - 1)=((n - 1 - k:Nat):Int):=by
   rw [show (((n - k:Nat):Int) - 1)=((n - 1 - k:Nat):Int) from by omega]
   exact wrap_u64 (by omega) (by omega)
  refine pO (by kernel_rfl) ?_
  simp [-ζ,-ξ,↓KW,↓aL,↓aD,↓aJ,↓aK,h1]
  refine sL (P:=Tryz.prog) ?_
  refine nC ?_
  refine sL ?_
  refine yZ (P:=Tryz.prog) (by kernel_rfl) rfl ?_
  simp [-ζ,-ξ,↓KW,↓aL,↓aD,↓aJ,↓aK,h1,h2]
  have hnk:n - k - 1=n - 1 - k:=by omega
  refine aEz (dd:=[.i .u64 ((n - 1 - k:Nat):Int)]) (l2:=[]) (by rfl) (by rfl) (aLz hk) (by rfl) ?_
  rw [pN]
  by_cases hl:k+1=n - m
  ·have e1:decide (k+1≠n - m)=false:=by simp [hl]
   rw [e1]
   simp [-ζ,-ξ,↓KW,↓aL,↓aD,↓aJ,↓aK,kH,fin]
   refine gP _ (by kernel_rfl) ?_
   simp [-ζ,-ξ,↓KW,↓aL,↓aD,↓aJ,↓aK,pN,hl]
   exact ⟨_,rfl⟩
  ·have e1:decide (k+1≠n - m)=true:=by simp [hl]
   have e2:n - (k+1)=n - 1 - k:=by omega
   rw [e1]
   simp [-ζ,-ξ,↓KW,↓aL,↓aD,↓aJ,↓aK,kH,fin]
   refine gP _ (by kernel_rfl) ?_
   simp [-ζ,-ξ,↓KW,↓aL,↓aD,↓aJ,↓aK]
   refine gP _ (by kernel_rfl) ?_
   simp [-ζ,-ξ,↓KW,↓aL,↓aD,↓aJ,↓aK,h2]
   refine ⟨k+1,by omega,by show n - (k+1)<n - k; omega,rfl,wkQ [] ?_ ?_⟩ <;> simp [-ζ,upd,aS,Γ0,e2]
theorem bAo [M:Mch Tryz.prog] (n:Nat):Spec Tryz.prog 190 [.i .u64 n] (.fn 200 [.pt [.i .u64 n]]):=by
 refine bH (N:=4) Tryz.func190 ?_
 simp [-ζ,-ξ,↓KW,↓aL,↓aD,↓aJ,↓aK]
set_option maxHeartbeats 8000000 in
set_option maxRecDepth 10000 in
theorem aSm [M:Mch Tryz.prog] (n m:Nat) (h:m<n) (hn:n≤2147483648) (hp:∀ v:Nat,m≤v→v<n→Spec Tryz.prog 52 [.i .u64 v] (.b (decide (v=m)))) :
  Spec Tryz.prog 189 [.fn 200 [.pt [.i .u64 n]]] (.i .u64 m):=by
 refine nY (N:=9) aW Tryz.func189 rfl rfl rfl (by kernel_rfl) (by kernel_rfl) (by simp) ?_
 refine cT (by kernel_rfl) ?_
 simp [-ζ,-ξ,↓KW,↓aL,↓aD,↓aJ,↓aK]
 refine zA ?_
 refine cT (by kernel_rfl) ?_
 simp [-ζ,-ξ,↓KW,↓aL,↓aD,↓aJ,↓aK]
 refine qO ?_
 refine oT (dnL n m) (fun k=>StL [(2,.ptr 1 0)] none [.cells 51 [.d (.i .u64 (if k<n - m then 0 else m))]]) [3,5,6,7,8] .ret .ret (.inl rfl) (gf:=200) (caps:=[.pt [.i .u64 n]]) (by rfl) (by rfl) (by rfl) (bIe n m h hn) ?_ (by kernel_rfl) (by rw [pN]; omega) ?_ ?_ ?_
 ·rw [if_pos (by omega)]
  refine wkQ [1] ?_ ?_ <;> simp [-ζ,upd,aS,Γ0]
 ·intro k x hk hx
  rw [pN] at hk
  rw [aLz (by omega)] at hx
  injection hx with hx; subst hx
  refine ⟨rfl,?_⟩
  have hP:=hp (n - 1 - k) (by omega) (by omega)
  rw [decide_eq_false (by omega)] at hP
  rw [if_pos (by omega),if_pos (by omega)]
  show AWP _ _ ⟨upd _ 5 (.d (.i .u64 ((n - 1 - k:Nat):Int))),_,_⟩ _
  simp [-ζ,-ξ,↓KW,↓aL,↓aD,↓aJ,↓aK]
  refine aH hP ?_
  simp [-ζ,-ξ,↓KW,↓aL,↓aD,↓aJ,↓aK]
  refine wkQ [1] ?_ ?_ <;> simp [-ζ,upd,aS,Γ0]
 ·intro k x hk hx
  rw [pN] at hk
  rw [aLz (by omega)] at hx
  injection hx with hx; subst hx
  refine ⟨rfl,?_⟩
  have hP:=hp (n - 1 - k) (by omega) (by omega)
  have hm:n - 1 - k=m:=by omega
  rw [hm,decide_eq_true rfl] at hP
  rw [if_pos (by omega),if_neg (by omega),hm]
  show AWP _ _ ⟨upd _ 5 (.d (.i .u64 (m:Int))),_,_⟩ _
  simp [-ζ,-ξ,↓KW,↓aL,↓aD,↓aJ,↓aK]
  refine aH hP ?_
  simp [-ζ,-ξ,↓KW,↓aL,↓aD,↓aJ,↓aK]
  refine wkQ [1] ?_ ?_ <;> simp [-ζ,upd,aS,Γ0]
 ·rw [pN,if_neg (by omega)]
  simp [-ζ,-ξ,↓KW,↓aL,↓aD,↓aJ,↓aK]
theorem aMo [M:Mch Tryz.prog] (n m:Nat) (h:m<n) (hn:n≤2147483648) (hp:∀ v:Nat,m≤v→v<n→Spec Tryz.prog 52 [.i .u64 v] (.b (decide (v=m)))) :
  Spec Tryz.prog 163 [.i .u64 n] (.i .u64 m):=by
 refine bH (N:=6) Tryz.func163 ?_
 simp [-ζ,-ξ,↓KW,↓aL,↓aD,↓aJ,↓aK]
 refine aH (bAo n) ?_
 simp [-ζ,-ξ,↓KW,↓aL,↓aD,↓aJ,↓aK]
 refine aH (aSm n m h hn hp) ?_
 simp [-ζ,-ξ,↓KW,↓aL,↓aD,↓aJ,↓aK]
def iM [M:Mch Tryz.prog]:Nat→List Nat→Prop
 | _,[]=>True
 | n,p::l=>0<p∧p<2147483648∧Spec Tryz.prog 163 [.i .u64 n] (.i .u64 p)∧iM p l
def psL (ps:List Nat):List (List D):=ps.map fun (p:Nat)=>[.i .u64 (p:Int)]
theorem iM.at [M:Mch Tryz.prog]:∀ {n:Nat} {ps:List Nat} {k p q:Nat},iM n ps→ps[k]? = some p→ps[k+1]? = some q→Spec Tryz.prog 163 [.i .u64 p] (.i .u64 q)
 | n,[],k,p,q,_,h,_=>by simp at h
 | n,x::l,0,p,q,hd,h,h2=>by
  simp only [List.getElem?_cons_zero,Option.some.injEq] at h; subst h
  simp only [List.getElem?_cons_succ] at h2
  cases l with
  | nil=>simp at h2
  | cons y l=>simp only [List.getElem?_cons_zero,Option.some.injEq] at h2; subst h2; exact hd.2.2.2.2.2.1
 | n,x::l,k+1,p,q,hd,h,h2=>iM.at (k:=k) hd.2.2.2 (by simpa using h) (by simpa using h2)
theorem iM.pos [M:Mch Tryz.prog]:∀ {n:Nat} {ps:List Nat} {k p:Nat},iM n ps→ps[k]? = some p→0<p∧p<2147483648
 | n,[],k,p,_,h=>by simp at h
 | n,x::l,0,p,hd,h=>by
  simp only [List.getElem?_cons_zero,Option.some.injEq] at h; subst h; exact ⟨hd.1,hd.2.1⟩
 | n,x::l,k+1,p,hd,h=>iM.pos (k:=k) hd.2.2.2 (by simpa using h)
set_option maxHeartbeats 8000000 in
set_option maxRecDepth 10000 in
theorem aIh [M:Mch Tryz.prog] (n p0:Nat) (ps:List Nat) (hd:iM n (p0::ps)):kY Tryz.prog 162 [.pt [.i .u64 n]] (psL (p0::ps)):=by
 refine aWb (N:=14) aW Tryz.func162 rfl rfl rfl (by kernel_rfl) (by kernel_rfl) (by simp) fun l=>?_
 refine pO (by kernel_rfl) ?_
 simp [-ζ,-ξ,↓KW,↓aL,↓aD,↓aJ,↓aK]
 refine aH hd.2.2.1 ?_
 simp [-ζ,-ξ,↓KW,↓aL,↓aD,↓aJ,↓aK]
 refine nC ?_
 refine aCk (τ:=Nat × Nat) (by kernel_rfl) (fun x=>(p0::ps)[x.1]? = some x.2) (fun x=>StL [(0,.d (.lit (.func (.yield l) #[] #[]))),(3,.d (.i .u64 (x.2:Int)))] none []) (fun x=>x.1) (fun x=>(p0::ps).length - x.1) (0,p0) (by rfl) rfl ?_ ?_
 ·refine wkQ [] ?_ ?_
  ·simp [-ζ,upd,aS,Γ0]
  ·simp [-ζ,upd,aS,Γ0]
 ·rintro ⟨k,p⟩ hk
  simp only at hk ⊢
  obtain ⟨hp0,hp1⟩:=iM.pos hd hk
  have hlt:=(List.getElem?_eq_some_iff.1 hk).1
  have hx:(psL (p0::ps))[k]? = some [.i .u64 (p:Int)]:=by
   unfold psL; rw [List.getElem?_map,hk]; rfl
  have hlen:(psL (p0::ps)).length=(p0::ps).length:=by simp [psL]
  generalize hL:(p0::ps)=L at *
  refine pO (by kernel_rfl) ?_
  simp [-ζ,-ξ,↓KW,↓aL,↓aD,↓aJ,↓aK,hp0]
  refine sL (P:=Tryz.prog) ?_
  refine nC ?_
  refine sL ?_
  refine yZ (P:=Tryz.prog) (by kernel_rfl) rfl ?_
  simp [-ζ,-ξ,↓KW,↓aL,↓aD,↓aJ,↓aK,hp0]
  refine aEz (dd:=[.i .u64 (p:Int)]) (l2:=[]) (by rfl) (by rfl) hx (by rfl) ?_
  rw [hlen]
  by_cases hl:k+1=L.length
  ·have e1:decide (k+1≠L.length)=false:=by simp [hl]
   rw [e1]
   simp [-ζ,-ξ,↓KW,↓aL,↓aD,↓aJ,↓aK,kH,fin]
   refine gP _ (by kernel_rfl) ?_
   simp [-ζ,-ξ,↓KW,↓aL,↓aD,↓aJ,↓aK,hlen,hl]
   exact ⟨_,rfl⟩
  ·have e1:decide (k+1≠L.length)=true:=by simp [hl]
   rw [e1]
   obtain ⟨q,hq⟩:∃ q,L[k+1]? = some q:=⟨_,List.getElem?_eq_getElem (by omega)⟩
   have hB:=iM.at hd hk hq
   simp [-ζ,-ξ,↓KW,↓aL,↓aD,↓aJ,↓aK,kH,fin]
   refine gP _ (by kernel_rfl) ?_
   simp [-ζ,-ξ,↓KW,↓aL,↓aD,↓aJ,↓aK]
   refine gP _ (by kernel_rfl) ?_
   simp [-ζ,-ξ,↓KW,↓aL,↓aD,↓aJ,↓aK]
   refine aH hB ?_
   simp [-ζ,-ξ,↓KW,↓aL,↓aD,↓aJ,↓aK]
   refine ⟨(k+1,q),hq,by show L.length - (k+1)<L.length - k; omega,rfl,wkQ [] ?_ ?_⟩ <;> simp [-ζ,upd,aS,Γ0]
theorem aCe [M:Mch Tryz.prog] (n:Nat):Spec Tryz.prog 102 [.i .u64 n] (.fn 162 [.pt [.i .u64 n]]):=by
 refine bH (N:=4) Tryz.func102 ?_
 simp [-ζ,-ξ,↓KW,↓aL,↓aD,↓aJ,↓aK]
theorem dY {n:Nat} (h:n≤2147483648):(n+1) * 8≤140737488355328∧n+1≤1099511627776∧(n+1+1) * 8≤140737488355328∧n+1+1≤1099511627776:=by
 refine ⟨by omega,by omega,by omega,by omega⟩
def cP (l:List Nat):D:=.sl (l.map fun (p:Nat)=>[.i .u64 (p:Int)])
def dU (l:List Nat):List D:=l.map fun (p:Nat)=>.i .u64 (p:Int)
theorem gM (l:List Nat):(dU l).length=l.length:=by simp [dU]
theorem iW (x:Nat) (a b:List Nat):dU (x::(a++b))=dU (x::a)++dU b:=by simp [dU]
theorem lJ (x:Nat):dU [x]=[.i .u64 (x:Int)]:=rfl
theorem oP {l:List Nat} {n:Nat} (h:l.length=n):chunk 1 n (dU l)=l.map fun (p:Nat)=>[D.i .u64 (p:Int)]:=by
 rw [tQ _ _ (by rw [gM]; exact h.symm)]; simp [dU]
theorem kW {l:List Nat} {n:Nat} (h:l.length=n):List.take n ((dU l).map AV.d)=(dU l).map AV.d:=List.take_of_length_le (by simp [gM,h])
theorem bQ {H H':Hp} {ρ:Nat→Nat} {a o l s b o' l' s':Nat}:mC H H' ρ (.own a o l s) (.own b o' l' s')↔(a=ρ b∧o=o'∧l=l'∧s=s'∧(H' b).isSome=true):=Iff.rfl
def prS (n:Int):List Nat→St
 | []=>StL [(3,.ptr 1 0),(5,.ptr 2 0)] none [.cells 3 [.d (.i .i64 n)],.cells 46 [.nil]]
 | x::l=>StL [(3,.ptr 1 0),(5,.ptr 2 0)] none [.cells 3 [.d (.i .i64 n)],.cells 46 [.own 3 0 (l.length+1) 1],.cells 51 ((dU (x::l)).map .d)]
set_option maxHeartbeats 8000000 in
set_option maxRecDepth 10000 in
theorem qJ [M:Mch Tryz.prog] (n p0:Nat) (ps:List Nat) (hd:iM n (p0::ps)) (hl:ps.length≤1000000) :
  Spec Tryz.prog 57 [.i .u64 n,.i .i64 ((ps.length+1:Nat):Int)] (cP (p0::ps)):=by
 have hx0:∀ k:Nat,(psL (p0::ps))[k]? = ((p0::ps)[k]?).map (fun (p:Nat)=>[D.i .u64 (p:Int)]):=fun k=>by simp only [psL,List.getElem?_map]
 have hlen:(psL (p0::ps)).length=ps.length+1:=by simp [psL]
 have hseq:=aIh n p0 ps hd
 obtain ⟨K,hK⟩:∃ K,K=ps.length+1:=⟨_,rfl⟩
 rw [← hK] at hlen ⊢
 have hLl:(p0::ps).length=K:=by rw [hK]; rfl
 generalize hL:p0::ps=L at hx0 hlen hseq hLl hd ⊢
 have hK0:0<K:=by omega
 have hK1:¬ (K=0):=by omega
 refine nY (N:=22) aW Tryz.func57 rfl rfl rfl (by kernel_rfl) (by kernel_rfl) (by simp) ?_
 refine cT (by kernel_rfl) ?_
 simp [-ζ,-ξ,↓KW,↓aL,↓aD,↓aJ,↓aK]
 refine zB ?_
 refine cT (by kernel_rfl) ?_
 simp [-ζ,-ξ,↓KW,↓aL,↓aD,↓aJ,↓aK,hK1]
 refine cT (by kernel_rfl) ?_
 simp [-ζ,-ξ,↓KW,↓aL,↓aD,↓aJ,↓aK]
 refine cT (by kernel_rfl) ?_
 simp [-ζ,-ξ,↓KW,↓aL,↓aD,↓aJ,↓aK]
 refine zA (P:=Tryz.prog) ?_
 refine cT (by kernel_rfl) ?_
 simp [-ζ,-ξ,↓KW,↓aL,↓aD,↓aJ,↓aK]
 refine aH (aCe n) ?_
 simp [-ζ,-ξ,↓KW,↓aL,↓aD,↓aJ,↓aK]
 refine qO ?_
 refine oT (psL L) (fun k=>prS K (L.take k)) [6,11,12,13,14,15,16,17,18,19,20] (.exit 0) (.exit 0) (.inr ⟨0,rfl⟩) (gf:=162) (caps:=[.pt [.i .u64 n]]) (by rfl) (by rfl) (by rfl) hseq ?_ (by kernel_rfl) (by rw [hlen]; omega) ?_ ?_ ?_
 ·rw [List.take_zero]
  refine wkQ [1,2] ?_ ?_ <;> simp [-ζ,upd,aS,Γ0]
 ·intro k x hk hx
  rw [hlen] at hk
  rw [hx0,Option.map_eq_some_iff] at hx
  obtain ⟨p,hp,rfl⟩:=hx
  refine ⟨rfl,?_⟩
  rw [List.take_add_one,hp,Option.toList_some]
  have htl:(L.take k).length=k:=by rw [List.length_take]; omega
  generalize L.take k=T at htl ⊢
  cases T with
  | nil =>
   have hk0:k=0:=htl.symm
   have hKk:((1:Int) == (K:Int))=false:=by simp; omega
   show AWP _ _ ⟨upd (prS K []).Γ 11 (.d (.i .u64 (p:Int))),(prS K []).H,(prS K []).n⟩ _
   have hm1:(1:Nat)≤maxLen:=bV (by decide)
   simp [-ζ,-ξ,↓KW,↓aL,↓aD,↓aJ,↓aK,prS,hKk,hm1]
   refine wkQ [1,2,4] ?_ ?_ <;> simp [-ζ,upd,aS,Γ0,List.contains_cons,bQ,iW,lJ]
  | cons y T =>
   have hk0:T.length+1=k:=htl
   have hKk:((T.length:Int)+1+1 == (K:Int))=false:=by simp; omega
   have hbb:=dY (n:=T.length+1) (by omega)
   show AWP _ _ ⟨upd (prS K (y::T)).Γ 11 (.d (.i .u64 (p:Int))),(prS K (y::T)).H,(prS K (y::T)).n⟩ _
   simp [-ζ,-ξ,↓KW,↓aL,↓aD,↓aJ,↓aK,prS,hKk,gM,hbb,bV]
   refine wkQ [1,2,5] ?_ ?_ <;> simp [-ζ,upd,aS,Γ0,List.contains_cons,bQ,iW,lJ]
 ·intro k x hk hx
  rw [hlen] at hk
  rw [hx0,Option.map_eq_some_iff] at hx
  obtain ⟨p,hp,rfl⟩:=hx
  refine ⟨rfl,?_⟩
  rw [List.take_add_one,hp,Option.toList_some]
  have htl:(L.take k).length=k:=by rw [List.length_take]; omega
  generalize L.take k=T at htl ⊢
  cases T with
  | nil =>
   have hk0:k=0:=htl.symm
   have hKk:((1:Int) == (K:Int))=true:=by simp; omega
   show AWP _ _ ⟨upd (prS K []).Γ 11 (.d (.i .u64 (p:Int))),(prS K []).H,(prS K []).n⟩ _
   have hm1:(1:Nat)≤maxLen:=bV (by decide)
   simp [-ζ,-ξ,↓KW,↓aL,↓aD,↓aJ,↓aK,prS,hKk,hm1]
   refine wkQ [1,2,4] ?_ ?_ <;> simp [-ζ,upd,aS,Γ0,List.contains_cons,bQ,iW,lJ]
  | cons y T =>
   have hk0:T.length+1=k:=htl
   have hKk:((T.length:Int)+1+1 == (K:Int))=true:=by simp; omega
   have hbb:=dY (n:=T.length+1) (by omega)
   show AWP _ _ ⟨upd (prS K (y::T)).Γ 11 (.d (.i .u64 (p:Int))),(prS K (y::T)).H,(prS K (y::T)).n⟩ _
   simp [-ζ,-ξ,↓KW,↓aL,↓aD,↓aJ,↓aK,prS,hKk,gM,hbb,bV]
   refine wkQ [1,2,5] ?_ ?_ <;> simp [-ζ,upd,aS,Γ0,List.contains_cons,bQ,iW,lJ]
 ·rw [hlen,← hLl,List.take_length,← hL]
  simp [-ζ,-ξ,↓KW,↓aL,↓aD,↓aJ,↓aK,prS]
  refine zC _ (by kernel_rfl) ?_
  have hln2:(p0::ps).length=ps.length+1:=rfl
  have hfl:=gM (p0::ps)
  rw [hln2] at hfl
  simp [-ζ,-ξ,↓KW,↓aL,↓aD,↓aJ,↓aK,prS,cP,hfl,oP hln2,kW hln2]
set_option maxRecDepth 10000 in
theorem aGg [M:Mch Tryz.prog] (n:Nat):Spec Tryz.prog 57 [.i .u64 n,.i .i64 0] (cP []):=by
 refine nY (N:=22) aW Tryz.func57 rfl rfl rfl (by kernel_rfl) (by kernel_rfl) (by simp) ?_
 refine cT (by kernel_rfl) ?_
 simp [-ζ,-ξ,↓KW,↓aL,↓aD,↓aJ,↓aK]
 refine zB ?_
 refine cT (by kernel_rfl) ?_
 simp [-ζ,-ξ,↓KW,↓aL,↓aD,↓aJ,↓aK,cP]
end Go.Am
end
section
open List renaming map_map→ζ,mapM_map→ξ
namespace Go.Am
open Go.Conc
open RowKit (Below)
section
variable {P:Program} [M:Mch P]
theorem uJ {f N:Nat} {fn:Func} {c:Code} {h:AV} {o o':HO} {args:List D} (hf:P.funcs[f]? = some fn) (hb:fn.body=some c) (hname:(fn.name == "runtime.NumGoroutine")=false) (hN:fn.ntmps=N)
    (ha:args.length+1≤N) (hno':kJ o'=true)
    (hA:∀ (G:Ctx) (a:Act) (w:World),(∀ d,G.Z d=none)→SR G N [] (St1 h o args N) a w→WC P c (fun e a' w'=>∃ σ,((e=.normal∨e=.ret)∧iS P fn.results.toList σ=some (.tp [])∧σ.H 0=some o')∧SR G N [] σ a' w') a w):jH P f h o args o' (.tp []):=by
  intro A W vs b hAl hAb hbl hob hl hv0 hv
  have hn:¬ fn.name = "runtime.NumGoroutine" := by simpa using hname
  refine ⟨fun w=>by simp [callFunc,hf,hn,hb],?_⟩
  refine iJ hf hb ?_
  subst hN
  refine (WpR.plain P).okv fun hok=>?_
  have hsr:=SR1 (N:=fn.ntmps) hok hAl hAb hbl hob hl hv0 hv ha
  refine cI (hA _ _ _ (fun _=>rfl) hsr) ?_
  rintro e a w0 ⟨σ,⟨he,hr,hH0⟩,hs0⟩
  have hend:a.defers=[]∧∀ w,Env w0 w→∃ v,aM P (results fn a.tmps) w=.ok v w∧∃ ob',Kept (·=b) W.heap.size W w∧w.heap[b]? = some ob' ∧
      (∀ cur e,W.heap[b]? = some (.cells cur e (0,0))→∃ cur',ob'=.cells cur' e (0,0)∧cur'.size=cur.size) ∧
      CR (fun k=>A k∨(W.heap.size≤k∧k<w.heap.size)) w (ι1 b) o' ob'∧VD (fun k=>A k∨(W.heap.size≤k∧k<w.heap.size)) w (.tp []) v:=by
   refine ⟨hs0.2.2.2.elim fun _ h=>h.elim fun _ h=>h.2.2.2.2.1,fun w henv=>?_⟩
   have hs:=hs0.env henv
   obtain ⟨_,_,_,F,ι,hR,hdom,hVs,_,hdf,hp⟩:=hs
   obtain ⟨v,hrun,hvd⟩:=mI hR hVs hr
   obtain ⟨b',hb'⟩:=(hdom 0).2 (by rw [hH0]; rfl)
   have hbb:=hp b' hb'
   simp only at hbb
   subst hbb
   obtain ⟨ob',hob',hcr⟩:=hR.obj 0 b' o' hb' hH0
   have hnF:¬ F b':=(hR.place 0 b' hb').2.2 (fun x=>x)
   have hFA:∀ k,F k→A k∨(W.heap.size≤k∧k<w.heap.size):=fun k hk=>by
     rcases hR.F_ok k hk with h | h | h
     · exact .inl h
     · simp only at h; subst h; exact (hnF hk).elim
     · exact .inr ⟨h,hR.F_lt k hk⟩
   refine ⟨v,hrun,ob',hR.kept,hob',fun cur e he=>?_,(zS hno' hcr).step ⟨hFA,fun _ _=>rfl,fun _ _ h=>h,fun _ _ cur _ _ h=>⟨cur,h,rfl⟩⟩,?_⟩
   · obtain ⟨cur',h1,h2⟩:=hR.kept.shape b' cur e hbl he
     rw [hob'] at h1; injection h1 with h1
     exact ⟨cur',h1,h2⟩
   · cases hvd with | tp ds vs hl hh=>exact .tp _ _ hl fun k d v hk=>by simp at hk
  rcases he with rfl | rfl <;> exact hend
def aWt (P:Program) (E:Kn) (fuel:Nat) (f:FuncId) (h:AV) (o:HO) (args:List D):Option (HO × D) :=
  match P.funcs[f]? with
  | none=>none
  | some fn=>match fn.body with
    | some c=>if aSl P fn c && decide (args.length+1≤fn.ntmps) then match ex P E fuel c (St1 h o args fn.ntmps) with
      | some (e,σ)=>match σ.H 0,bIa P fn (some (e,σ)) with
        | some o',some (.tp [])=>if kJ o' then some (o',.tp []) else none
        | _,_=>none
      | none=>none
      else none
    | _=>none
theorem aFu {E:Kn} {fuel:Nat} (hm:P.follows .mixedOrders=true) (hE:aEw P E) {f:FuncId} {h0:AV} {o o':HO} {args:List D} {r:D} (h:aWt P E fuel f h0 o args=some (o',r)):jH P f h0 o args o' r:=by
  unfold aWt at h
  split at h
  · cases h
  rename_i fn hfn
  split at h
  case h_2=>cases h
  rename_i c hc
  split at h
  case isFalse=>cases h
  rename_i hok
  simp only [aSl,Bool.and_eq_true,Bool.not_eq_true',decide_eq_true_eq] at hok
  obtain ⟨⟨⟨h1,h2⟩,h3⟩,h4⟩:=hok
  split at h
  case h_2=>cases h
  rename_i e σ hex
  split at h
  case h_2=>cases h
  rename_i o1 hH hr
  split at h
  case isFalse=>cases h
  rename_i hfl
  injection h with h; injection h with e1 e2; subst e1; subst e2
  obtain ⟨he,hr3⟩:=tN hr
  refine uJ hfn hc h3 rfl h4 hfl fun G a w hZ hs=>cI (yI hE hm hZ fuel c _ a w _ _ h1 h2 hex hs) ?_
  rintro e' a' w' ⟨rfl,hs'⟩
  exact ⟨σ,⟨he,hr3,hH⟩,hs'⟩
def iY (P:Program) (E:Kn) (fuel:Nat):Nat→Kn
  | 0=>{ E with call:=fun _ _=>none,ocall:=fun _ _ _ _=>none }
  | n+1=>{ E with
      call:=fun f args=>match E.call f args with | some r=>some r | none=>bLp P (iY P E fuel n) fuel f args
      ocall:=fun f h o args=>match E.ocall f h o args with | some r=>some r | none=>match o with
        | .cells _ _=>aWt P (iY P E fuel n) fuel f h o args
        | _=>aWu P (iY P E fuel n) fuel f h o args }
theorem oC {E:Kn} {fuel:Nat} (hm:P.follows .mixedOrders=true) (hE:aEw P E):∀ n,aEw P (iY P E fuel n)
  | 0=>⟨(fun _ _ _ h=>by cases h),(fun _ _ _ _ _ _ h=>by cases h),hE.keys,hE.sorted⟩
  | n+1=>by
    have ih:=oC (fuel:=fuel) hm hE n
    refine ⟨fun f ds r h=>?_,fun f h0 o ds o' r h=>?_,hE.keys,hE.sorted⟩
    · unfold iY at h
      simp only at h
      split at h
      · rename_i r' hr'; injection h with h; subst h; exact hE.call _ _ _ hr'
      · exact aKi hm ih h
    · unfold iY at h
      simp only at h
      split at h
      · rename_i r' hr'; injection h with h; subst h; exact hE.ocall _ _ _ _ _ _ hr'
      · split at h
        · exact aFu hm ih h
        · exact aFv hm ih h
def E00:Kn:=⟨fun _ _=>none,fun _ _ _ _=>none,fun _=>none,fun _ _=>false⟩
end
end Go.Am
end
section
open List renaming map_map→ζ,mapM_map→ξ
open Go Go.Am Go.Proofs
namespace Go.Am
theorem vR [M:Mch Tryz.prog] (x p:Nat) (hp:0<p):Spec Tryz.prog 100 [.i .u64 x,.i .u64 p] (.i .u64 (x % p:Nat)):=by
 refine bH (N:=10) Tryz.func100 ?_
 have h0:((p:Int) == 0)=false:=by simp; omega
 have ht:((x:Int).tmod (p:Int))=(x:Int) % (p:Int):=Int.tmod_eq_emod_of_nonneg (by omega)
 have h1:¬ p=0:=by omega
 simp [-ζ,-ξ,↓KW,h0,h1,ht]
theorem vV [M:Mch Tryz.prog] (p a b:Nat) (hp:0<p) (hab:a * b<18446744073709551616):Spec Tryz.prog 89 [.i .u64 p,.i .u64 a,.i .u64 b] (.i .u64 (a * b % p:Nat)):=by
 refine bH (N:=12) Tryz.func89 ?_
 have hw:IntKind.u64.wrap ((a:Int) * (b:Int))=((a * b:Nat):Int):=by rw [← Int.natCast_mul]; exact wrap_u64 (by omega) (by omega)
 have hR:=vR (a * b) p hp
 generalize a * b % p=r at *
 generalize a * b=z at *
 simp [-ζ,-ξ,↓KW,hw]
 refine aH hR ?_
 simp [-ζ,-ξ,↓KW]
def qK (p:Nat):Nat→Nat→Nat→Nat→Nat
 | 0,r,_,_=>r
 | n+1,r,a,e=>if e=0 then r else qK p n (if e % 2=1 then r * a % p else r) (a * a % p) (e / 2)
theorem aRh (p n r a:Nat):qK p n r a 0=r:=by cases n <;> simp [qK]
set_option maxHeartbeats 4000000 in
set_option maxRecDepth 10000 in
theorem aNv [M:Mch Tryz.prog] (p a e:Nat) (hp:0<p) (hp1:p≤2147483648) (ha:a≤2147483648) (he:e<18446744073709551616) :
  Spec Tryz.prog 99 [.i .u64 p,.i .u64 a,.i .u64 e] (.i .u64 (qK p 64 (1 % p) a e:Nat)):=by
 refine bH (N:=26) Tryz.func99 ?_
 have hR:=vR 1 p hp
 simp [-ζ,-ξ,↓KW]
 refine aH hR ?_
 simp [-ζ,-ξ,↓KW]
 have hm:∀ x:Nat,x % p≤2147483648:=fun x=>by have:=Nat.mod_lt x hp; omega
 have hmm:∀ x y:Nat,x≤2147483648→y≤2147483648→x * y<18446744073709551616:=fun x y h1 h2=>Nat.lt_of_le_of_lt (Nat.mul_le_mul h1 h2) (by decide)
 obtain ⟨R,hRR⟩:∃ R,qK p 64 (1 % p) a e=R:=⟨_,rfl⟩
 have hc1:((1:Int) % (p:Int))=((1 % p:Nat):Int):=by simp
 rw [hRR,hc1]
 have hr0:=hm 1
 generalize 1 % p=r0 at *
 refine kR (τ:={ x:Nat × Nat × Nat × Nat // qK p x.1 x.2.1 x.2.2.1 x.2.2.2=R∧x.2.2.2<2 ^ x.1∧x.1≤64∧x.2.1≤2147483648∧x.2.2.1≤2147483648 })
  (S:=fun x=>StL [(0,.d (.i .u64 p)),(1,.d (.i .u64 (x.1.2.2.1:Nat))),(2,.d (.i .u64 (x.1.2.2.2:Nat))),(7,.d (.i .u64 (x.1.2.1:Nat)))] none []) (m:=fun x=>x.1.1) ⟨(64,r0,a,e),hRR,by simpa using he,Nat.le_refl _,hr0,ha⟩ ?_ ?_
 ·refine wkQ [] ?_ ?_ <;> simp [-ζ,upd,aS,Γ0]
 ·rintro ⟨⟨n,r,a,e⟩,h1,h2,h3,h4,h5⟩
  simp only at h1 h2 h3 h4 h5 ⊢
  rcases Nat.eq_zero_or_pos e with he0 | he0
  ·subst he0
   rw [aRh] at h1
   subst h1
   simp [-ζ,-ξ,↓KW]
  ·obtain ⟨n,rfl⟩:∃ k,n=k+1:=by
    cases n with
    | zero=>simp at h2; omega
    | succ n=>exact ⟨n,rfl⟩
   have hsh:dV .shr .u64 (e:Int) 1=some (.i .u64 ((e / 2:Nat):Int)):=by
    simp only [dV,IntKind.bits]
    rw [if_neg (by decide)]
    congr 2
    rw [show (2:Int) ^ (min (1:Int).toNat 64)=2 from by decide,Int.fdiv_eq_ediv_of_nonneg _ (by decide)]
    simp
   have heb:e<18446744073709551616:=Nat.lt_of_lt_of_le h2 (Nat.le_trans (Nat.pow_le_pow_right (by decide) h3) (by decide))
   have hbt:bits .and .u64 (e:Int) 1=((e % 2:Nat):Int):=by
    have:=bits_and_u64_nat e 1 heb (by decide)
    rw [Nat.and_one_is_mod] at this
    exact this
   have hn2:e / 2<2 ^ n:=by rw [Nat.pow_succ] at h2; omega
   unfold qK at h1
   rw [if_neg (by omega)] at h1
   have hM2:=vV p a a hp (hmm a a h5 h5)
   have hm2:=hm (a * a)
   generalize a * a % p=a2 at *
   generalize e / 2=e2 at *
   by_cases hodd:e % 2=1
   ·have hM1:=vV p r a hp (hmm r a h4 h5)
    have hm1:=hm (r * a)
    rw [if_pos hodd] at h1
    generalize r * a % p=r2 at *
    rw [hodd] at hbt
    replace hbt:dL .and false (.d (.i .u64 (e:Int))) (.d (.i .u64 1))=some (.i .u64 1):=by show some (D.i .u64 (bits .and .u64 (e:Int) 1))=_; rw [hbt]; rfl
    simp [-ζ,-ξ,↓KW,he0,hbt]
    refine aH hM1 ?_
    simp [-ζ,-ξ,↓KW]
    refine aH hM2 ?_
    simp [-ζ,-ξ,↓KW,hsh]
    refine ⟨n,Nat.lt_succ_self _,r2,a2,e2,⟨h1,hn2,by omega,hm1,hm2⟩,.inr (wkQ [] ?_ ?_)⟩ <;> simp [-ζ,upd,aS,Γ0]
   ·have hz:e % 2=0:=by omega
    rw [if_neg hodd] at h1
    rw [hz] at hbt
    replace hbt:dL .and false (.d (.i .u64 (e:Int))) (.d (.i .u64 1))=some (.i .u64 0):=by show some (D.i .u64 (bits .and .u64 (e:Int) 1))=_; rw [hbt]; rfl
    simp [-ζ,-ξ,↓KW,he0,hbt]
    refine aH hM2 ?_
    simp [-ζ,-ξ,↓KW,hsh]
    refine ⟨n,Nat.lt_succ_self _,r,a2,e2,⟨h1,hn2,by omega,h4,hm2⟩,.inr (wkQ [] ?_ ?_)⟩ <;> simp [-ζ,upd,aS,Γ0]
end Go.Am
end
section
open List renaming map_map→ζ,mapM_map→ξ
namespace Go.Am
theorem aGi (p:Nat):∀ (n r a e:Nat),e<2 ^ n→qK p n r a e % p=r * a ^ e % p
 | 0,r,a,e,h=>by
  have:e=0:=by simpa using h
  subst this; simp [qK]
 | n+1,r,a,e,h=>by
  unfold qK
  split
  ·rename_i h0; subst h0; simp
  ·have ih:=aGi p n (if e % 2=1 then r * a % p else r) (a * a % p) (e / 2) (by rw [Nat.pow_succ] at h; omega)
   rw [ih]
   have h2:a ^ e=(a * a) ^ (e / 2) * a ^ (e % 2):=by
    rw [← Nat.pow_two,← Nat.pow_mul,← Nat.pow_add]; congr 1; omega
   rw [h2]
   rcases Nat.mod_two_eq_zero_or_one e with he | he
   ·rw [he,if_neg (by decide),Nat.pow_zero,Nat.mul_one,Nat.mul_mod,← Nat.pow_mod,← Nat.mul_mod]
   ·rw [he,if_pos rfl,Nat.pow_one,Nat.mul_mod,Nat.mod_mod,← Nat.pow_mod,← Nat.mul_mod]
    congr 1; ac_rfl
theorem aNw (p:Nat) (hp:0<p):∀ (n r a e:Nat),r<p→qK p n r a e<p
 | 0,r,a,e,h=>by simpa [qK] using h
 | n+1,r,a,e,h=>by
  unfold qK
  split
  ·exact h
  ·refine aNw p hp n _ _ _ ?_
   split
   ·exact Nat.mod_lt _ hp
   ·exact h
theorem aXi {p a e:Nat} (hp:0<p) (he:e<18446744073709551616):qK p 64 (1 % p) a e=a ^ e % p:=by
 have h1:=aGi p 64 (1 % p) a e he
 have h2:=aNw p hp 64 (1 % p) a e (Nat.mod_lt _ hp)
 rw [Nat.mod_eq_of_lt h2] at h1
 rw [h1,Nat.mul_mod,Nat.mod_mod,← Nat.mul_mod,Nat.one_mul]
def pS (p v a m:Nat):Nat:=(v+p - a % p) % p * ((m % p) ^ (p - 2) % p) % p
def mY:List (Nat × Nat)→Nat→Nat→Nat × Nat
 | [],a,m=>(a,m)
 | (p,v)::l,a,m=>mY l (a+m * pS p v a m) (m * p)
def aEl (l:List (Nat × Nat)):Int:=let x:=mY l 0 1; if x.2<x.1+x.1 then (x.1:Int) - x.2 else x.1
theorem aYd {p a b c d:Nat} (h1:a % p=b % p) (h2:c % p=d % p):a * c % p=b * d % p:=by rw [Nat.mul_mod,h1,h2,← Nat.mul_mod]
theorem bPy {p a b c d:Nat} (h1:a % p=b % p) (h2:c % p=d % p):(a+c) % p=(b+d) % p:=by rw [Nat.add_mod,h1,h2,← Nat.add_mod]
theorem aPa {p v a m:Nat} (hp:0<p):pS p v a m<p:=Nat.mod_lt _ hp
theorem bIn {p v a m:Nat} (hp:PrN p) (hv:v<p) (hm:m % p≠0):(a+m * pS p v a m) % p=v:=by
 have hp0:0<p:=by have:=hp.1; omega
 have hinv:(m % p) ^ (p - 2) * (m % p) % p=1:=aLx hp (by rw [Nat.mod_mod]; exact hm)
 unfold pS
 have ha:=Nat.mod_lt a hp0
 have hs:a+(v+p - a % p)=v+p * (a / p+1):=by
  have:=Nat.div_add_mod a p
  rw [Nat.mul_add,Nat.mul_one]
  omega
 generalize (m % p) ^ (p - 2)=u at *
 generalize v+p - a % p=s at *
 have e2:u * m % p=1 % p:=by rw [aYd (b:=u) (d:=m % p) rfl (Nat.mod_mod _ _).symm,hinv,Nat.mod_eq_of_lt (by have:=hp.1; omega)]
 have e1:m * (s % p * (u % p) % p) % p=s % p:=by
  rw [aYd (b:=m) (d:=s * u) rfl (by rw [Nat.mod_mod]; exact aYd (Nat.mod_mod _ _) (Nat.mod_mod _ _))]
  rw [show m * (s * u)=s * (u * m) by ac_rfl,aYd (b:=s) (d:=1) rfl e2,Nat.mul_one]
 rw [bPy (b:=a) (d:=s) rfl e1,hs,Nat.add_mul_mod_self_left,Nat.mod_eq_of_lt hv]
structure aTr (l:List (Nat × Nat)):Prop where
 pr:∀ x∈l,PrN x.1
 lt:∀ x∈l,x.2<x.1
 nd:(l.map (·.1)).Nodup
theorem yP {p:Nat} {l:List Nat} (hp:PrN p) (h:∀ q∈l,PrN q) (hn:p ∉ l):Nat.Coprime p (bI l) :=
 tC fun q hq=>hp.two (h q hq) fun e=>hn (e ▸ hq)
theorem aGf {n:Nat}:∀ {l:List Nat},(∀ q∈l,PrN q)→l.Nodup→(∀ q∈l,q ∣ n)→bI l ∣ n
 | [],_,_,_=>by simp [bI]
 | p::l,h,hn,hd=>by
  rw [List.nodup_cons] at hn
  have h1:=aGf (n:=n) (l:=l) (fun q hq=>h q (List.mem_cons_of_mem _ hq)) hn.2 fun q hq=>hd q (List.mem_cons_of_mem _ hq)
  exact (yP (h p (List.mem_cons_self ..)) (fun q hq=>h q (List.mem_cons_of_mem _ hq)) hn.1).mul_dvd_of_dvd_of_dvd (hd p (List.mem_cons_self ..)) h1
theorem aHv {l:List Nat} (h:∀ q∈l,PrN q) (hn:l.Nodup) {x y:Int} (hr:∀ q∈l,(x - y) % (q:Int)=0) (hb:(x - y).natAbs<bI l):x=y:=by
 have hd:bI l ∣ (x - y).natAbs:=aGf h hn fun q hq=>Int.natCast_dvd_natCast.1 (Int.dvd_natAbs.2 (Int.dvd_of_emod_eq_zero (hr q hq)))
 rcases Nat.eq_zero_or_pos (x - y).natAbs with h0 | h0
 ·omega
 ·have:=Nat.le_of_dvd h0 hd; omega
theorem aEm:∀ (l done:List (Nat × Nat)) (a m:Nat),aTr (done++l)→m=bI (done.map (·.1))→a<m→(∀ x∈done,a % x.1=x.2) →
  (mY l a m).2=bI ((done++l).map (·.1))∧(mY l a m).1<(mY l a m).2∧∀ x∈done++l,(mY l a m).1 % x.1=x.2
 | [],done,a,m,hP,hm,ha,hr=>by simp only [mY,List.append_nil]; exact ⟨hm,ha,hr⟩
 | (p,v)::l,done,a,m,hP,hm,ha,hr=>by
  have hp:PrN p:=hP.pr (p,v) (by simp)
  have hv:v<p:=hP.lt (p,v) (by simp)
  have hnd:=hP.nd
  rw [List.map_append,List.nodup_append] at hnd
  have hpn:p ∉ done.map (·.1):=fun h=>hnd.2.2 p h p (by simp) rfl
  have hcop:Nat.Coprime p m:=by
   rw [hm]
   refine yP hp (fun q hq=>?_) hpn
   obtain ⟨x,hx,rfl⟩:=List.mem_map.1 hq
   exact hP.pr x (List.mem_append_left _ hx)
  have hp2:=hp.1
  have hmp:m % p≠0:=fun h=>by
   have h1:=Nat.Coprime.eq_one_of_dvd hcop (Nat.dvd_of_mod_eq_zero h)
   omega
  have ht:=aPa (v:=v) (a:=a) (m:=m) (show 0<p by omega)
  have hok:=bIn (a:=a) (m:=m) hp hv hmp
  have ih:=aEm l (done++[(p,v)]) (a+m * pS p v a m) (m * p) (by simpa using hP) (by
   rw [hm]
   have:∀ (xs:List Nat),bI (xs++[p])=bI xs * p:=fun xs=>by
    induction xs with
    | nil=>simp [bI]
    | cons x xs ih=>simp only [List.cons_append,bI,ih,Nat.mul_assoc]
   rw [List.map_append]; exact (this _).symm) (by
   have:m * (pS p v a m+1)≤m * p:=Nat.mul_le_mul_left m ht
   rw [Nat.mul_add,Nat.mul_one] at this
   omega) (fun x hx=>by
   rcases List.mem_append.1 hx with h | h
   ·have h1:=hr x h
    have hd:x.1 ∣ m:=by
     rw [hm]
     have:∀ (xs:List Nat) (q:Nat),q∈xs→q ∣ bI xs:=fun xs q hq=>by
      induction xs with
      | nil=>cases hq
      | cons y xs ih =>
       rcases List.mem_cons.1 hq with rfl | h
       ·exact ⟨_,rfl⟩
       ·obtain ⟨k,hk⟩:=ih h
        exact ⟨y * k,by simp only [bI,hk]; ac_rfl⟩
     exact this _ _ (List.mem_map_of_mem h)
    obtain ⟨k,hk⟩:=hd
    rw [hk,Nat.mul_assoc,Nat.add_mul_mod_self_left]; exact h1
   ·simp only [List.mem_singleton] at h; subst h; exact hok)
  simp only [mY]
  simpa using ih
theorem aOz {l:List (Nat × Nat)} (hP:aTr l):(∀ x∈l,(aEl l) % (x.1:Int)=(x.2:Int))∧2 * aEl l≤(bI (l.map (·.1)):Int)∧-(bI (l.map (·.1)):Int)<2 * aEl l:=by
 obtain ⟨h1,h2,h3⟩:=aEm l [] 0 1 (by simpa using hP) rfl (by decide) (by simp)
 simp only [List.nil_append] at h1 h3
 unfold aEl
 rw [h1] at h2
 simp only [h1]
 generalize (mY l 0 1).1=a at *
 have hdv:∀ x∈l,((bI (l.map (·.1)):Nat):Int) % (x.1:Int)=0:=fun x hx=>by
  have:∀ (xs:List Nat) (q:Nat),q∈xs→q ∣ bI xs:=fun xs q hq=>by
   induction xs with
   | nil=>cases hq
   | cons y xs ih =>
    rcases List.mem_cons.1 hq with rfl | h
    ·exact ⟨_,rfl⟩
    ·obtain ⟨k,hk⟩:=ih h
     exact ⟨y * k,by simp only [bI,hk]; ac_rfl⟩
  exact Int.emod_eq_zero_of_dvd (Int.natCast_dvd_natCast.2 (this _ _ (List.mem_map_of_mem hx)))
 generalize bI (l.map (·.1))=Mm at *
 split
 ·refine ⟨fun x hx=>?_,by omega,by omega⟩
  have:=h3 x hx
  rw [Int.sub_emod,hdv x hx,Int.sub_zero,Int.emod_emod_of_dvd _ (Int.dvd_refl _)]
  omega
 ·refine ⟨fun x hx=>?_,by omega,by omega⟩
  have:=h3 x hx
  omega
end Go.Am
end
section
open List renaming map_map→ζ,mapM_map→ξ
open Go Go.Am Go.Proofs
namespace Go.Am
def EPc (f:FuncId) (ds:List D):Option D :=
 if f=99 then match ds with
  | [.i .u64 p,.i .u64 a,.i .u64 e]=>if 0<p∧p≤2147483648∧0≤a∧a≤2147483648∧0≤e∧e<18446744073709551616 then some (.i .u64 (qK p.toNat 64 (1 % p.toNat) a.toNat e.toNat:Nat)) else none
  | _=>none
 else if f=89 then match ds with
  | [.i .u64 p,.i .u64 a,.i .u64 b]=>if 0<p∧0≤a∧0≤b∧a * b<18446744073709551616 then some (.i .u64 (a.toNat * b.toNat % p.toNat:Nat)) else none
  | _=>none
 else none
theorem bNu [M:Mch Tryz.prog] {f:FuncId} {ds:List D} {r:D} (h:EPc f ds=some r):Spec Tryz.prog f ds r:=by
 unfold EPc at h
 split at h
 ·rename_i hf; subst hf
  split at h
  ·rename_i p a e
   split at h
   ·rename_i hc
    injection h with h; subst h
    obtain ⟨h1,h2,h3,h4,h5,h6⟩:=hc
    have:=aNv p.toNat a.toNat e.toNat (by omega) (by omega) (by omega) (by omega)
    rwa [Int.toNat_of_nonneg (by omega),Int.toNat_of_nonneg h3,Int.toNat_of_nonneg h5] at this
   ·cases h
  ·cases h
 ·split at h
  ·rename_i hf; subst hf
   split at h
   ·rename_i p a b
    split at h
    ·rename_i hc
     injection h with h; subst h
     obtain ⟨h1,h2,h3,h4⟩:=hc
     have:=vV p.toNat a.toNat b.toNat (by omega) (by
      have:((a.toNat * b.toNat:Nat):Int)=a * b:=by rw [Int.natCast_mul,Int.toNat_of_nonneg h2,Int.toNat_of_nonneg h3]
      omega)
     rwa [Int.toNat_of_nonneg (by omega),Int.toNat_of_nonneg h2,Int.toNat_of_nonneg h3] at this
    ·cases h
   ·cases h
  ·cases h
def EP:Kn:={ E00 with call:=EPc }
theorem aPj [M:Mch Tryz.prog]:aEw Tryz.prog EP:=⟨fun f ds r h=>bNu h,fun _ _ _ _ _ _ h=>by (cases h),fun _ _ h=>by (cases h),fun _ _ h=>by (cases h)⟩
noncomputable def prB (n:Nat):Nat:=match (iY Tryz.prog EP 100 20).call 52 [.i .u64 n] with
 | some (.b true)=>1
 | some (.b false)=>2
 | _=>0
theorem aXh [M:Mch Tryz.prog] {n:Nat} {b:Bool} (h:prB n=if b then 1 else 2):Spec Tryz.prog 52 [.i .u64 n] (.b b):=by
 refine (oC (fuel:=100) aW aPj 20).call _ _ _ ?_
 unfold prB at h
 split at h
 ·rename_i he; rw [he]; cases b <;> first | rfl | cases h
 ·rename_i he; rw [he]; cases b <;> first | rfl | cases h
 ·cases b <;> cases h
noncomputable def yA (n m:Nat):Bool:=(List.range (n - m)).all fun k=>prB (m+k) == if k == 0 then 1 else 2
theorem fG [M:Mch Tryz.prog] {n m:Nat} (h:m<n) (hn:n≤2147483648) (hg:yA n m=true):Spec Tryz.prog 163 [.i .u64 n] (.i .u64 m):=by
 refine aMo n m h hn fun v h1 h2=>aXh ?_
 have:=List.all_eq_true.1 hg (v - m) (List.mem_range.2 (by omega))
 rw [show m+(v - m)=v from by omega,beq_iff_eq] at this
 rw [this]
 by_cases hv:v=m
 ·subst hv; simp
 ·have:v - m≠0:=by omega
  simp [hv,this]
theorem bRs:yA 2147483648 2147483647=true:=by kernel_rfl
theorem bRr:yA 2147483647 2147483629=true:=by kernel_rfl
theorem bRq:yA 2147483629 2147483587=true:=by kernel_rfl
theorem bRp:yA 2147483587 2147483579=true:=by kernel_rfl
theorem bRo:yA 2147483579 2147483563=true:=by kernel_rfl
theorem bRn:yA 2147483563 2147483549=true:=by kernel_rfl
theorem bRm:yA 2147483549 2147483543=true:=by kernel_rfl
theorem bRl:yA 2147483543 2147483497=true:=by kernel_rfl
theorem bRk:yA 2147483497 2147483489=true:=by kernel_rfl
theorem bRj:yA 2147483489 2147483477=true:=by kernel_rfl
def P10:List Nat:=[2147483647,2147483629,2147483587,2147483579,2147483563,2147483549,2147483543,2147483497,2147483489,2147483477]
theorem bAt [M:Mch Tryz.prog]:iM 2147483648 P10 :=
 ⟨by decide,by decide,fG (by decide) (by decide) bRs,by decide,by decide,fG (by decide) (by decide) bRr,by decide,by decide,fG (by decide) (by decide) bRq,by decide,by decide,fG (by decide) (by decide) bRp,by decide,by decide,fG (by decide) (by decide) bRo,by decide,by decide,fG (by decide) (by decide) bRn,by decide,by decide,fG (by decide) (by decide) bRm,by decide,by decide,fG (by decide) (by decide) bRl,by decide,by decide,fG (by decide) (by decide) bRk,by decide,by decide,fG (by decide) (by decide) bRj,trivial⟩
theorem iM.drop [M:Mch Tryz.prog]:∀ {k n:Nat} {l:List Nat},iM n l→k<l.length→iM (if k=0 then n else l[k - 1]!) (l.drop k)
 | 0,n,l,h,_=>h
 | k+1,n,[],h,hk=>by simp at hk
 | 1,n,x::l,h,hk=>h.2.2.2
 | k+2,n,x::l,h,hk=>by
  have:=iM.drop (k:=k+1) h.2.2.2 (by simp only [List.length_cons] at hk; omega)
  simpa using this
theorem iM.take [M:Mch Tryz.prog]:∀ {k n:Nat} {l:List Nat},iM n l→iM n (l.take k)
 | 0,n,l,h=>trivial
 | k+1,n,[],h=>trivial
 | k+1,n,x::l,h=>⟨h.1,h.2.1,h.2.2.1,iM.take h.2.2.2⟩
theorem aSy (m n:Nat):kE (aR m) (aR n)=0↔m=n:=by
 unfold kE
 rw [eY,eY]
 by_cases h1:m<n
 ·simp [h1]; omega
 ·by_cases h2:n<m
  ·simp [h1,h2]; omega
  ·simp [h1,h2]; omega
theorem bBb (a b:List Nat):-1≤kE a b∧kE a b≤1:=by
 unfold kE
 split
 ·exact ⟨by decide,by decide⟩
 ·split <;> exact ⟨by decide,by decide⟩
theorem bBa (m n:Nat):kE (aR m) (aR n)=if m<n then -1 else if n<m then 1 else 0:=by
 unfold kE
 rw [eY,eY]
 by_cases h1:m<n
 ·simp [h1]
 ·by_cases h2:n<m
  ·simp [h1,h2]
  ·simp [h1,h2]
theorem jK (x:Int):x.sign=if x<0 then -1 else if x=0 then 0 else 1:=by
 rcases Int.lt_trichotomy x 0 with h | h | h
 ·rw [Int.sign_eq_neg_one_of_neg h,if_pos h]
 ·subst h; rfl
 ·rw [Int.sign_eq_one_of_pos h,if_neg (by omega),if_neg (by omega)]
theorem bEq {x y:Int} (hs:x.sign=y.sign):0<x.sign * kE (aR x.natAbs) (aR y.natAbs)↔y<x:=by
 rw [bBa]
 rw [jK,jK] at hs
 rw [jK]
 split at hs <;> (try split at hs) <;> (try split at hs) <;> (try split at hs) <;> simp_all <;> (try omega)
 all_goals (split <;> (try split) <;> omega)
theorem aVx {x y:Int} (hs:¬ x.sign=y.sign):0<lK x.sign y.sign↔y<x:=by
 unfold lK
 rw [jK,jK] at hs ⊢
 split at hs <;> (try split at hs) <;> (try split at hs) <;> (try split at hs) <;> simp_all <;> (try omega)
theorem aOr [M:Mch Tryz.prog] (x y:Int) (hx:Sz x) (hy:Sz y):∃ r:Int,Spec Tryz.prog 48 [encZ x,encZ y] (.i .i64 r)∧(0<r↔y<x):=by
 have hSx:=rT x hx
 have hSy:=rT y hy
 have hTx:=kS (aR x.natAbs) (Nat.le_trans hx (by decide))
 have hTy:=kS (aR y.natAbs) (Nat.le_trans hy (by decide))
 rw [nX (nA _)] at hTx hTy
 have hC:=xV (aR x.natAbs) (aR y.natAbs) (bW _) (bW _) (Nat.le_trans hx (by decide)) (Nat.le_trans hy (by decide))
 have hc0:=aSy x.natAbs y.natAbs
 have hcb:=bBb (aR x.natAbs) (aR y.natAbs)
 have hI:=bBc x.sign y.sign
 by_cases hs:x.sign=y.sign
 ·refine ⟨x.sign * kE (aR x.natAbs) (aR y.natAbs),?_,?_⟩
  rotate_left
  ·exact bEq hs
  ·refine bH (N:=26) Tryz.func48 ?_
   have hne:((x.sign != y.sign):Bool)=false:=by simp [hs]
   have hsb:-1≤x.sign∧x.sign≤1:=by
    rcases Int.lt_trichotomy x 0 with h | h | h
    ·rw [Int.sign_eq_neg_one_of_neg h]; decide
    ·subst h; decide
    ·rw [Int.sign_eq_one_of_pos h]; decide
   generalize kE (aR x.natAbs) (aR y.natAbs)=r at *
   generalize y.sign=sy at *
   generalize x.sign=sx at *
   have hw:IntKind.i64.wrap (sx * r)=sx * r:=by
    have h1:sx=-1∨sx=0∨sx=1:=by omega
    rcases h1 with rfl | rfl | rfl <;> exact bB
   simp [-ζ,-ξ,↓KW,bT,aA,aE,aC,aF,aB]
   refine aH hSx ?_
   simp [-ζ,-ξ,↓KW,bT,aA,aE,aC,aF,aB]
   refine aH hSy ?_
   simp [-ζ,-ξ,↓KW,hne,aA,aE,aC,aF,aB]
   refine aH hTx ?_
   simp [-ζ,-ξ,↓KW,aA,aE,aC,aF,aB]
   refine aH hTy ?_
   simp [-ζ,-ξ,↓KW,aA,aE,aC,aF,aB]
   refine aH hC ?_
   simp [-ζ,-ξ,↓KW,hw,aA,aE,aC,aF,aB]
 ·refine ⟨lK x.sign y.sign,?_,?_⟩
  rotate_left
  ·exact aVx hs
  ·refine bH (N:=26) Tryz.func48 ?_
   have hne:((x.sign != y.sign):Bool)=true:=by simpa using hs
   generalize y.sign=sy at *
   generalize x.sign=sx at *
   simp [-ζ,-ξ,↓KW,bT,aA,aE,aC,aF,aB]
   refine aH hSx ?_
   simp [-ζ,-ξ,↓KW,bT,aA,aE,aC,aF,aB]
   refine aH hSy ?_
   simp [-ζ,-ξ,↓KW,hne,aA,aE,aC,aF,aB]
   refine aH hI ?_
   simp [-ζ,-ξ,↓KW]
theorem eX {P:Program} (σ:St) (x y:ResultVar):iS P [x,y] σ=(jE P σ x).bind fun a=>(jE P σ y).bind fun b=>(frz σ.H 8 a).bind fun u=>(frz σ.H 8 b).bind fun v=>some (.tp [u,v]):=by
 unfold iS
 cases h1:jE P σ x <;> cases h2:jE P σ y <;> simp [cL,h1,h2]
 rename_i a b
 cases frz σ.H 8 a <;> cases frz σ.H 8 b <;> simp
theorem aKk {P:Program} (σ:St) (x y z:ResultVar):iS P [x,y,z] σ=(jE P σ x).bind fun a=>(jE P σ y).bind fun b=>(jE P σ z).bind fun c=>(frz σ.H 8 a).bind fun u=>(frz σ.H 8 b).bind fun v=>(frz σ.H 8 c).bind fun w=>some (.tp [u,v,w]):=by
 unfold iS
 cases h1:jE P σ x <;> cases h2:jE P σ y <;> cases h3:jE P σ z <;> simp [cL,h1,h2,h3]
 rename_i a b c
 cases frz σ.H 8 a <;> cases frz σ.H 8 b <;> cases frz σ.H 8 c <;> simp
def shS (a:List Nat) (d:Nat):Nat→List Nat × Nat
 | 0=>(List.replicate a.length 0,0)
 | k+1=>((shS a d k).1.set (a.length - 1 - k) (((shS a d k).2 * 4294967296+a.getD (a.length - 1 - k) 0) / d),((shS a d k).2 * 4294967296+a.getD (a.length - 1 - k) 0) % d)
theorem aVw {o v v' p q d r r' x t t' w:Nat} (hs:v'+p * o=v+p * q) (ho:o=0) (ht:r * 4294967296+x=t) (hq:r'+d * q=t) (hv:v * d+p * 4294967296 * r+(t'+p * x)=w):v' * d+p * r'+t'=w:=by
 subst ho
 have h1:v'=v+p * q:=by omega
 have h2:p * t=p * (r * 4294967296)+p * x:=by rw [← ht,Nat.mul_add]
 have h3:p * t=p * r'+p * (d * q):=by rw [← hq,Nat.mul_add]
 have h4:p * q * d=p * (d * q):=by rw [Nat.mul_assoc,Nat.mul_comm q]
 have h5:p * 4294967296 * r=p * (r * 4294967296):=by rw [Nat.mul_assoc,Nat.mul_comm r]
 rw [h1,Nat.add_mul,h4]
 omega
theorem bJp {r x d:Nat} (hr:r<d) (hx:x<4294967296):(r * 4294967296+x) / d<4294967296:=by
 rw [Nat.div_lt_iff_lt_mul (by omega)]
 have:r * 4294967296+4294967296≤d * 4294967296:=by
  have:=Nat.mul_le_mul_right 4294967296 (Nat.succ_le_of_lt hr)
  rw [Nat.succ_mul] at this; exact this
 rw [Nat.mul_comm 4294967296]
 omega
theorem aNk {a:List Nat} {d:Nat} (ha:Lim a) (hd:0<d) (k:Nat) (hk:k≤a.length) :
  (shS a d k).1.length=a.length∧(shS a d k).2<d∧Lim (shS a d k).1∧(∀ i,i<a.length - k→(shS a d k).1.getD i 0=0) ∧
  val (shS a d k).1 * d+4294967296 ^ (a.length - k) * (shS a d k).2+val (a.take (a.length - k))=val a:=by
 induction k with
 | zero=>exact ⟨by simp [shS],hd,.rep _,fun i _=>by simp [shS,List.getElem?_replicate]; split <;> rfl,by simp [shS,vN]⟩
 | succ k ih =>
  obtain ⟨h1,h2,h3,h4,h5⟩:=ih (by omega)
  obtain ⟨j,hj⟩:∃ j,a.length - 1 - k=j:=⟨_,rfl⟩
  have hj1:a.length - k=j+1:=by omega
  have hj2:a.length - (k+1)=j:=by omega
  have hx:=ha.getD j
  have hset:=aCv (l:=(shS a d k).1) (j:=j) (by omega) (((shS a d k).2 * 4294967296+a.getD j 0) / d)
  have hoj:=h4 j (by omega)
  simp only [shS,hj,hj2]
  rw [hj1,cC,Nat.pow_succ] at h5
  have hlt:=bJp h2 hx
  refine ⟨by simp [h1],Nat.mod_lt _ hd,h3.set _ hlt,fun i hi=>?_,?_⟩
  ·rw [List.getD_eq_getElem?_getD,List.getElem?_set_ne (by omega),← List.getD_eq_getElem?_getD]
   exact h4 i (by omega)
  ·exact aVw hset hoj rfl (Nat.mod_add_div _ _) h5
def shQ (a:List Nat) (d:Nat):List Nat:=(shS a d a.length).1
theorem aCz {a:List Nat} {d:Nat} (ha:Lim a) (hd:0<d):(shQ a d).length=a.length∧Lim (shQ a d)∧val (shQ a d)=val a / d∧(shS a d a.length).2=val a % d:=by
 obtain ⟨h1,h2,h3,_,h5⟩:=aNk ha hd a.length (Nat.le_refl _)
 rw [Nat.sub_self,Nat.pow_zero,Nat.one_mul,List.take_zero,val,Nat.add_zero] at h5
 have:=(Nat.div_mod_unique hd).2 ⟨show (shS a d a.length).2+d * val (shQ a d)=val a by rw [Nat.mul_comm,Nat.add_comm]; exact h5,h2⟩
 exact ⟨h1,h3,this.1.symm,this.2.symm⟩
set_option maxRecDepth 10000 in
theorem aGb [M:Mch Tryz.prog] (a:List Nat) (d:Nat) (ha:Lim a) (hd:0<d) (hd2:d<4294967296) (hla:a.length≤1099511627776):Spec Tryz.prog 196 [aG a,.i .u32 d] (.tp [aG (shQ a d),.i .u32 ((val a % d:Nat):Int)]):=by
 refine bH (N:=42) Tryz.func196 ?_
 obtain ⟨n,hn⟩:∃ n,a.length=n:=⟨_,rfl⟩
 have hm1:(4:Int) * n≤281474976710656:=by omega
 have hm2:(n:Int)≤9223372036854775807:=by omega
 have hw1:IntKind.i64.wrap ((n:Int) - 1)=(n:Int) - 1:=bB
 have hwd:IntKind.u64.wrap (d:Int)=d:=wrap_u64 (by omega) (by omega)
 have hdz:¬ d=0:=by omega
 have h00:(shS a d 0).1=List.replicate n 0:=by rw [← hn]; rfl
 have h01:(shS a d 0).2=0:=rfl
 simp [-ζ,-ξ,↓KW,aG,hn,hw1,hm1,hm2]
 refine cO (fun k:Nat=>k≤n)
  (fun k=>StL [(0,.d (aG a)),(1,.d (.i .u32 d)),(6,.own 1 0 n 1),(7,.d (.i .u64 (shS a d k).2)),(8,.d (.i .i64 ((n:Int) - 1 - k)))] none
   [.cells 89 ((lms (shS a d k).1).map .d)]) (fun k=>n - k) 0 (Nat.zero_le _) ?_ ?_
 ·refine wkQ [1] ?_ ?_ <;> simp [-ζ,upd,aS,Γ0,aG,h00,h01]
 ·intro k hk
  obtain ⟨ol,oc,om,_,_⟩:=aNk ha hd k (by omega)
  rw [hn] at ol
  by_cases hgo:k<n
  ·have q1:(0:Int)≤(n:Int) - 1 - k:=by omega
   obtain ⟨j,hj⟩:∃ j,a.length - 1 - k=j:=⟨_,rfl⟩
   have hji:(n:Int) - 1 - k=j:=by omega
   have hsucc:shS a d (k+1)=((shS a d k).1.set j (((shS a d k).2 * 4294967296+a.getD j 0) / d),((shS a d k).2 * 4294967296+a.getD j 0) % d):=by rw [← hj]; rfl
   have g1:=getD_some (l:=a) (i:=j) (by omega)
   have hx:=ha.getD j
   have hlt:=bJp oc hx
   generalize hout:(shS a d k).1=out at *
   generalize hcar:(shS a d k).2=r at *
   generalize a.getD j 0=x at *
   obtain ⟨t,ht⟩:∃ t,r * 4294967296+x=t:=⟨_,rfl⟩
   rw [ht] at hsucc hlt
   obtain ⟨q,hq⟩:∃ q,t / d=q:=⟨_,rfl⟩
   obtain ⟨r',hr'⟩:∃ r',t % d=r':=⟨_,rfl⟩
   rw [hq,hr'] at hsucc
   rw [hq] at hlt
   have hr'd:r'<d:=by rw [← hr']; exact Nat.mod_lt _ hd
   have hwx:IntKind.u64.wrap (x:Int)=x:=wrap_u64 (by omega) (by omega)
   have hwr:IntKind.u64.wrap ((r:Int) * 4294967296)=(r:Int) * 4294967296:=wrap_u64 (by omega) (by omega)
   have hwt:IntKind.u64.wrap ((r:Int) * 4294967296+x)=t:=by rw [wrap_u64 (by omega) (by omega)]; omega
   have hwq:IntKind.u64.wrap ((t:Int) / d)=q:=by rw [← Int.natCast_ediv,hq,wrap_u64 (by omega) (by omega)]
   have hwq2:IntKind.u32.wrap (q:Int)=q:=wrap_u32 (by omega) (by omega)
   have hwm:Int.tmod (t:Int) d=r':=by rw [← Int.ofNat_tmod,hr']
   have hw8:IntKind.i64.wrap ((j:Int) - 1)=(j:Int) - 1:=bB
   have hjn:j<n:=by omega
   have hjl3:j+1≤n:=by omega
   have hlay:lay (List.map AV.d (lms out)) j [AV.d (D.i .u32 (q:Int))]=List.map AV.d (lms (out.set j q)):=by
    rw [iV _ _ _ (by rw [iU]; omega),rO]
   have he:(n:Int) - 1 - ((k:Int)+1)=(j:Int) - 1:=by omega
   rw [hji]
   simp [-ζ,-ξ,↓KW,aG,g1,hwx,hwr,hwt,hwd,hdz,hwq,hwq2,hwm,hw8,hjn,hjl3,hlay,ol]
   refine aN (k+1) hgo ?_ (wkQ [1] ?_ ?_)
   ·omega
   ·simp [-ζ,upd,aS,Γ0,aG,hsucc,he]
   ·simp [-ζ,upd,aS,Γ0,aG,hsucc,he]
  ·have e:k=n:=by omega
   have q1:¬ (k:Int)≤(n:Int) - 1:=by omega
   obtain ⟨s1,s2,s3,s4⟩:=aCz ha hd
   have e1:(shS a d k).1=shQ a d:=by rw [e,← hn]; rfl
   have e2:(shS a d k).2=val a % d:=by rw [e,← hn]; exact s4
   rw [hn] at s1
   have hrd:val a % d<d:=Nat.mod_lt _ hd
   have e3:(val a:Int) % d=((val a % d:Nat):Int):=by rw [Int.natCast_emod]
   rw [e1,e2]
   generalize val a % d=r at *
   have hwr:IntKind.u32.wrap (r:Int)=r:=wrap_u32 (by omega) (by omega)
   simp [-ζ,-ξ,↓KW,aG,q1,s1,dM s1,cM s1,hwr,e3,eX]
theorem aPy {u:Nat} (hu:u<18446744073709551616):∃ lo hi:Nat,Lim [lo,hi]∧val [lo,hi]=u∧IntKind.u32.wrap (u:Int)=lo∧dV .shr .u64 (u:Int) 32=some (.i .u64 hi)∧IntKind.u32.wrap (hi:Int)=hi:=by
 refine ⟨u % 4294967296,u / 4294967296,.cons (by omega) (.one (by omega)),by simp only [val]; omega,by rw [fD]; omega,?_,by rw [wrap_u32 (by omega) (by omega)]⟩
 simp only [dV,IntKind.bits]
 rw [if_neg (by decide)]
 congr 2
 rw [show (2:Int) ^ (min (32:Int).toNat 64)=4294967296 from by decide,Int.fdiv_eq_ediv_of_nonneg _ (by decide)]
 omega
theorem wM {l:List Nat} {n:Nat} (hn:l.length=n+1):val l=val (l.take n)+4294967296 ^ n * l.getD n 0:=by
 rw [← cC,List.take_of_length_le (by omega)]
theorem aUw {l:List Nat} {n:Nat} (hn:l.length=n+2):val l=val (l.take n)+4294967296 ^ n * (l.getD (n+1) 0 * 4294967296+l.getD n 0):=by
 rw [wM hn,cC,Nat.pow_succ,Nat.mul_add,Nat.mul_assoc,Nat.mul_comm 4294967296]; omega
theorem aJl {l:List Nat} {n:Nat} (h:Lim l) (hn:l.length=n+1):val l<4294967296 ^ n * (l.getD n 0+1):=by
 have h1:=nW (h.take n)
 rw [List.length_take,Nat.min_eq_left (by omega)] at h1
 rw [wM hn,Nat.mul_add,Nat.mul_one]; omega
theorem bAh {p q e low t D R:Nat} (hD:D≤q * low) (he:e * low≤t) (hR:p * q * t≤R):p * e * D≤R:=by
 refine Nat.le_trans (Nat.mul_le_mul_left _ hD) (Nat.le_trans ?_ hR)
 have:p * e * (q * low)=p * q * (e * low):=by
  rw [Nat.mul_assoc,Nat.mul_assoc,Nat.mul_left_comm e]
 rw [this]; exact Nat.mul_le_mul_left _ he
theorem aSd {a b:List Nat} (hb:Lim b) (hc:kZ a) (hla:Lim a) (h:val a≤val b):a.length≤b.length:=by
 have e1:=bAs hla hc
 rw [← e1]
 exact dB (Nat.lt_of_le_of_lt h (nW hb))
set_option maxRecDepth 10000 in
theorem aGd [M:Mch Tryz.prog] (r d:List Nat) (hr:Lim r) (hd:Lim d) (hcr:kZ r) (hcd:kZ d) (hd0:d≠[]) (hle:val d≤val r) (hl:r.length≤137438953472) :
  ∃ e:Nat,0<e∧e * val d≤val r∧Spec Tryz.prog 197 [aG r,aG d] (encZ e):=by
 have hlen:=aSd hr hcd hd hle
 have hdl:0<d.length:=List.length_pos_iff.2 hd0
 obtain ⟨m,hm⟩:∃ m,d.length=m+1:=⟨d.length - 1,by omega⟩
 obtain ⟨k,hk⟩:∃ k,r.length=k+(m+1):=⟨r.length - d.length,by omega⟩
 have gd:=getD_some (l:=d) (i:=m) (by omega)
 have gr:=getD_some (l:=r) (i:=k+m) (by omega)
 have hdm:=hd.getD m
 have hrm:=hr.getD (k+m)
 have hdv:=Nat.le_of_lt (aJl hd hm)
 have hrtop:0<r.getD (k+m) 0:=by
  have h1:r.getLast? = some (r.getD (k+m) 0):=by rw [List.getLast?_eq_getElem?,show r.length - 1=k+m by omega]; exact gr
  have h2:r.getLast? ≠ some 0:=hcr
  rw [h1] at h2
  rcases Nat.eq_zero_or_pos (r.getD (k+m) 0) with h | h
  ·rw [h] at h2; exact absurd rfl h2
  ·exact h
 generalize hdt:d.getD m 0=dt at *
 obtain ⟨low,hlow⟩:∃ low,dt+1=low:=⟨_,rfl⟩
 rw [hlow] at hdv
 have c1:IntKind.i64.wrap ((r.length:Int) - d.length)=(k:Int):=by rw [bB]; omega
 have c2:IntKind.i64.wrap ((d.length:Int) - 1)=(m:Int):=by rw [bB]; omega
 have c3:IntKind.u64.wrap (dt:Int)=dt:=wrap_u64 (by omega) (by omega)
 have c4:IntKind.u64.wrap ((dt:Int)+1)=low:=by rw [wrap_u64 (by omega) (by omega)]; omega
 have c5:IntKind.i64.wrap ((r.length:Int) - 1)=((k+m:Nat):Int):=by rw [bB]; omega
 have c6:¬ low=0:=by omega
 by_cases hk0:k=0
 ·subst hk0
  rw [Nat.zero_add] at gr hrm hrtop hk
  rw [show ((0+m:Nat):Int)=(m:Int) by omega] at c5
  have hv1:4294967296 ^ m * r.getD m 0≤val r:=by rw [wM hk]; omega
  generalize r.getD m 0=rt at *
  obtain ⟨e0,he0⟩:∃ e0,rt / low=e0:=⟨_,rfl⟩
  have he0':e0 * low≤rt:=by rw [← he0]; exact Nat.div_mul_le_self _ _
  have he0l:e0≤rt:=by rw [← he0]; exact Nat.div_le_self _ _
  have c7:IntKind.u64.wrap (rt:Int)=rt:=wrap_u64 (by omega) (by omega)
  have c8:IntKind.u64.wrap ((rt:Int) / low)=e0:=by rw [← Int.natCast_ediv,he0,wrap_u64 (by omega) (by omega)]
  obtain ⟨e,he⟩:∃ e:Nat,max 1 e0=e:=⟨_,rfl⟩
  have c9:IntKind.i64.wrap (e:Int)=e:=bB
  refine ⟨e,by omega,?_,?_⟩
  ·by_cases h1:e0≤1
   ·have:e=1:=by omega
    rw [this,Nat.one_mul]; exact hle
   ·have:e=e0:=by omega
    rw [this]
    have:=bAh (p:=1) hdv he0' (by rw [Nat.one_mul]; exact hv1)
    rwa [Nat.one_mul] at this
  ·refine bH (N:=66) Tryz.func197 ?_
   simp [-ζ,-ξ,↓KW,aG,c1,c2,c3,c4,c5,c6,c7,c8,gd,gr,hdt,c9]
   refine bE (ds:=[.i .i64 e]) ?_ (xE e (by omega) (by omega)) ?_
   ·have he2:(if (1:Int)<(e0:Int) then (e0:Int) else 1)=e:=by split <;> omega
    simp [-ζ,-ξ,↓KW,he2,c9]
   ·simp [-ζ,-ξ,↓KW,aG,encZ,encI]
 ·obtain ⟨j,hj⟩:∃ j,k=j+1:=⟨k - 1,by omega⟩
  have hk2:r.length=(j+m)+2:=by omega
  have gs:=getD_some (l:=r) (i:=j+m) (by omega)
  have hrs:=hr.getD (j+m)
  have hv2:=aUw hk2
  rw [show j+m+1=k+m by omega] at hv2
  have c10:IntKind.i64.wrap ((r.length:Int) - 2)=((j+m:Nat):Int):=by rw [bB]; omega
  have c11:IntKind.i64.wrap ((k:Int) - 1)=(j:Int):=by rw [bB]; omega
  obtain ⟨n1,hn1⟩:∃ n1,k+m=n1:=⟨_,rfl⟩
  obtain ⟨n2,hn2⟩:∃ n2,j+m=n2:=⟨_,rfl⟩
  rw [hn1] at gr hrm hrtop c5 hv2
  rw [hn2] at gs hrs c10 hv2
  generalize r.getD n1 0=rt at *
  generalize r.getD n2 0=rs at *
  have c12:IntKind.u64.wrap (rt:Int)=rt:=wrap_u64 (by omega) (by omega)
  have c13:IntKind.u64.wrap (rs:Int)=rs:=wrap_u64 (by omega) (by omega)
  have c14:IntKind.u64.wrap ((rt:Int) * 4294967296)=(rt:Int) * 4294967296:=wrap_u64 (by omega) (by omega)
  obtain ⟨t,ht⟩:∃ t,rt * 4294967296+rs=t:=⟨_,rfl⟩
  rw [ht] at hv2
  have c15:IntKind.u64.wrap ((rt:Int) * 4294967296+rs)=t:=by rw [wrap_u64 (by omega) (by omega)]; omega
  obtain ⟨e,he⟩:∃ e,t / low=e:=⟨_,rfl⟩
  have he1:e * low≤t:=by rw [← he]; exact Nat.div_mul_le_self _ _
  have hel:e≤t:=by rw [← he]; exact Nat.div_le_self _ _
  have he0:0<e:=by rw [← he]; exact Nat.div_pos (by omega) (by omega)
  have c16:IntKind.u64.wrap ((t:Int) / low)=e:=by rw [← Int.natCast_ediv,he,wrap_u64 (by omega) (by omega)]
  obtain ⟨lo,hi,k1,k2,e3,e4,e5⟩:=aPy (u:=e) (by omega)
  have hpow:4294967296 ^ j * 4294967296 ^ m=4294967296 ^ n2:=by rw [← Nat.pow_add,hn2]
  refine ⟨4294967296 ^ j * e,Nat.mul_pos (Nat.pow_pos (by decide)) he0,bAh hdv he1 (by rw [hpow]; omega),?_⟩
  have hlim:Lim (List.replicate j 0++[lo,hi]):=(Lim.rep j).app k1
  have hval:val (List.replicate j 0++[lo,hi])=4294967296 ^ j * e:=by rw [jI,vN,List.length_replicate,k2,Nat.zero_add]
  have hlen2:(List.replicate j 0++[lo,hi]).length=j+2:=by simp
  have hm2:=eD (List.replicate j 0++[lo,hi]) false (by rw [hlen2]; omega)
  rw [cN hlim,hval,show sg false (4294967296 ^ j * e)=((4294967296 ^ j * e:Nat):Int) from rfl] at hm2
  have m1:(4:Int) * j≤281474976710656:=by omega
  have m2:(j:Int)≤9223372036854775807:=by omega
  have m3:(j+2) * 4≤140737488355328:=by omega
  have m4:j+2≤maxLen:=by unfold maxLen; omega
  have hrep:(List.map AV.d (lms (List.replicate j 0))).length=j:=by simp [iU]
  refine bH (N:=66) Tryz.func197 ?_
  generalize 4294967296 ^ j * e=res at *
  have hcells:List.map AV.d (lms (List.replicate j 0))++[AV.d (D.i .u32 (lo:Int)),AV.d (D.i .u32 (hi:Int))]=List.map AV.d (lms (List.replicate j 0++[lo,hi])):=by rw [dQ,List.map_append]; rfl
  have hkk:((k:Int) == 0)=false:=by simp only [beq_eq_false_iff_ne,ne_eq]; omega
  simp [-ζ,-ξ,↓KW,aG,c1,c2,c3,c4,c5,c6,c10,c11,c12,c13,c14,c15,c16,gd,gr,gs,hdt,e3,e4,e5,hkk,m1,m2,m3,m4,hrep]
  rw [hcells]
  generalize List.replicate j 0++[lo,hi]=L at *
  refine bE (ds:=[aG L,.b false]) ?_ hm2 ?_
  ·simp [-ζ,-ξ,↓KW,aG,hlen2,dM hlen2,cM hlen2]
  ·simp [-ζ,-ξ,↓KW,aG,encZ,encI,hlen2,dM hlen2,cM hlen2]
theorem aDj [M:Mch Tryz.prog] (x:Int) (hx:(aR x.natAbs).length≤549755813888):Spec Tryz.prog 104 [encZ x] (encZ (-x)):=by
 refine bH (N:=9) Tryz.func104 ?_
 have la:=bW x.natAbs
 have va:=cE x.natAbs
 have sx:=fE x
 have ex:encZ x=.ag [.b (decide (x<0)),aG (aR x.natAbs)]:=rfl
 have hm:=eD (aR x.natAbs) (!decide (x<0)) (by omega)
 rw [cN la,va] at hm
 have e:sg (!decide (x<0)) x.natAbs=-x:=by
  unfold sg; by_cases h:x<0 <;> simp [h] <;> omega
 rw [e] at hm
 rw [ex]
 generalize aR x.natAbs=a at *
 generalize decide (x<0)=nx at *
 simp [-ζ,-ξ,↓KW,aG]
 refine bE (ds:=[aG a,.b (!nx)]) ?_ hm ?_
 ·cases nx <;> rfl
 ·simp [-ζ,-ξ,↓KW,aG,encZ,encI]
theorem aDi [M:Mch Tryz.prog] (x y:Int) (hx:(aR x.natAbs).length≤549755813888) (hy:(aR y.natAbs).length≤549755813888):Spec Tryz.prog 65 [encZ x,encZ y] (encZ (x - y)):=by
 refine bH (N:=9) Tryz.func65 ?_
 have h1:=aDj y hy
 have h2:=vT x (-y) hx (by rw [Int.natAbs_neg]; exact hy)
 rw [← Int.sub_eq_add_neg] at h2
 simp [-ζ,-ξ,↓KW,encZ,encI,aG]
 refine aH h1 ?_
 simp [-ζ,-ξ,↓KW,encZ,encI,aG]
 refine bE (ds:=[encZ x,encZ (-y)]) ?_ h2 ?_
 ·simp [-ζ,-ξ,↓KW,encZ,encI,aG]
 ·simp [-ζ,-ξ,↓KW,encZ,encI,aG]
theorem bIf {n:Nat} (h0:n≠0) (h:n<4294967296):aR n=[n]:=by
 rw [gE h0,Nat.mod_eq_of_lt h,Nat.div_eq_of_lt h,cB]
theorem yJ {n:Nat} (h0:n≠0) (h:n<4294967296):encZ (n:Int)=.ag [.b false,.sl [[.i .u32 (n:Int)]]]:=by
 have hd:decide ((n:Int)<0)=false:=by simp
 rw [bT,hd]
 simp [aG,bIf h0 h]
theorem aZk [M:Mch Tryz.prog]:Spec Tryz.prog 82 [.i .i64 1] (encZ 1):=by
 rw [show (1:Int)=((1:Nat):Int) from rfl,yJ (by decide) (by decide)]
 exact (oC (fuel:=100) aW aPj 20).call 82 [.i .i64 1] (.ag [.b false,.sl [[.i .u32 1]]]) (by kernel_rfl)
noncomputable def wdB (p:Nat):Bool:=match (iY Tryz.prog EP 100 20).call 84 [.i .u64 p] with
 | some (.ag [.b false,.sl [[.i .u32 q]]])=>q == (p:Int)
 | _=>false
theorem bOg [M:Mch Tryz.prog] {p:Nat} (h0:p≠0) (h:p<4294967296) (hw:wdB p=true):Spec Tryz.prog 84 [.i .u64 p] (encZ (p:Int)):=by
 rw [yJ h0 h]
 refine (oC (fuel:=100) aW aPj 20).call _ _ _ ?_
 unfold wdB at hw
 split at hw
 ·rename_i q he
  rw [he,beq_iff_eq] at *
  subst hw; rfl
 ·cases hw
theorem bQp:(P10.all wdB)=true:=by kernel_rfl
theorem aUk [M:Mch Tryz.prog] {p:Nat} (h:p∈P10):Spec Tryz.prog 84 [.i .u64 p] (encZ (p:Int)):=by
 have hb:∀ q∈P10,q≠0∧q<4294967296:=by decide
 exact bOg (hb p h).1 (hb p h).2 (List.all_eq_true.1 bQp p h)
theorem mG {z:Int} (h:z.natAbs<2 ^ 256):Sz z:=by
 have:=dB (n:=z.natAbs) (k:=8) (Nat.lt_of_lt_of_le h (by decide))
 unfold Sz; omega
theorem bQu:Sz 1:=mG (by decide)
set_option maxRecDepth 10000 in
theorem aOw [M:Mch Tryz.prog] (b:Int) (hb:Sz b) (hb2:Sz (b+b)) (h0:0≤b):Spec Tryz.prog 44 [.sl [],encZ b] (.b (decide (b=0))):=by
 refine bH (N:=26) Tryz.func44 ?_
 have hA:=aDz b b hb hb
 obtain ⟨r,hC,hr⟩:=aOr 1 (b+b) (bQu) hb2
 have hd:decide (0<r)=decide (b=0):=by
  by_cases h:b=0
  ·subst h; simp [hr.2]
  ·have:¬ 0<r:=fun h'=>h (by have:=hr.1 h'; omega)
   simp [h,this]
 generalize b+b=c at *
 simp [-ζ,-ξ,↓KW,bT b,aA,aE,aC,aF,aB]
 refine aH aZk ?_
 rw [bT 1]
 simp [-ζ,-ξ,↓KW,aA,aE,aC,aF,aB]
 refine fB 2 ?_
 simp [-ζ,-ξ,↓KW,↓aL,↓aD,↓aJ,↓aK,aA,aE,aC,aF,aB]
 refine aH hA ?_
 rw [bT c]
 simp [-ζ,-ξ,↓KW,aA,aE,aC,aF,aB]
 refine aH hC ?_
 simp [-ζ,-ξ,↓KW,hd]
def bU (n:Nat):D:=.ag [.b false,aG (aR n)]
theorem aT (n:Nat):bU n=.ag [.b false,aG (aR n)]:=rfl
theorem dE (n:Nat):encZ (n:Int)=bU n:=by
 rw [bT,aT]
 simp
theorem szN {n:Nat} (h:n<2 ^ 256):Sz (n:Int):=mG (by simpa using h)
theorem aTn [M:Mch Tryz.prog] {x y:Nat} (hx:x<2 ^ 256) (hy:y<2 ^ 256):Spec Tryz.prog 85 [bU x,bU y] (bU (x+y)):=by
 have:=aDz (x:Int) (y:Int) (szN hx) (szN hy)
 rwa [← Int.natCast_add,dE,dE,dE] at this
theorem aLc [M:Mch Tryz.prog] {x y:Nat} (hx:x<2 ^ 256) (hy:y<2 ^ 256):Spec Tryz.prog 83 [bU x,bU y] (bU (x * y)):=by
 have:=bHf (x:Int) (y:Int) (szN hx) (szN hy)
 rwa [← Int.natCast_mul,dE,dE,dE] at this
theorem bAz [M:Mch Tryz.prog] {x y:Nat} (hx:x<2 ^ 256) (hy:y<2 ^ 256):∃ r:Int,Spec Tryz.prog 48 [bU x,bU y] (.i .i64 r)∧(0<r↔y<x):=by
 obtain ⟨r,h1,h2⟩:=aOr (x:Int) (y:Int) (szN hx) (szN hy)
 rw [dE,dE] at h1
 exact ⟨r,h1,by rw [h2]; omega⟩
theorem bQy [M:Mch Tryz.prog]:Spec Tryz.prog 82 [.i .i64 1] (bU 1):=by rw [← dE]; exact aZk
theorem bOc [M:Mch Tryz.prog] {p:Nat} (h:p∈P10):Spec Tryz.prog 84 [.i .u64 p] (bU p):=by rw [← dE]; exact aUk h
theorem bHy [M:Mch Tryz.prog] {b:Nat} (h0:0<b) (h:b<2 ^ 200):Spec Tryz.prog 44 [.sl [],bU b] (.b false):=by
 have:=aOw (b:Int) (szN (by omega)) (mG (by omega)) (by omega)
 rwa [decide_eq_false (by omega),dE] at this
def cV:List Nat→Nat
 | []=>1
 | p::l=>p * cV l
theorem xG (l:List Nat) (p:Nat):cV (l++[p])=cV l * p:=by
 induction l with
 | nil=>simp [cV]
 | cons x l ih=>simp only [List.cons_append,cV,ih,Nat.mul_assoc]
theorem tD:∀ (l:List Nat),(∀ p∈l,p<2147483648)→cV l≤2147483648 ^ l.length
 | [],_=>by simp [cV]
 | p::l,h=>by
  have h1:=h p (List.mem_cons_self ..)
  have h2:=tD l fun q hq=>h q (List.mem_cons_of_mem _ hq)
  simp only [cV,List.length_cons,Nat.pow_succ]
  rw [Nat.mul_comm]
  exact Nat.mul_le_mul h2 (by omega)
structure Ndd (b:Nat) (l:List Nat):Prop where
 big:2 * b<cV l
 low:∀ k,k<l.length→cV (l.take k)≤2 * b
def neF (c:Nat):List Nat→St
 | []=>StL [(4,.ptr 1 0),(5,.ptr 2 0),(6,.ptr 3 0),(7,.ptr 4 0)] none [.cells 46 [.nil],.cells 46 [.nil],.cells 31 [.d (.b false),.d (aG (aR 1))],.cells 31 [.d (.b false),.d (aG (aR c))]]
 | x::l=>StL [(4,.ptr 1 0),(5,.ptr 2 0),(6,.ptr 3 0),(7,.ptr 4 0)] none [.cells 46 [.nil],.cells 46 [.own 5 0 (l.length+1) 1],.cells 31 [.d (.b false),.d (aG (aR (cV (x::l))))],.cells 31 [.d (.b false),.d (aG (aR c))],.cells 51 ((dU (x::l)).map .d)]
def neS (c:Nat) (L:List Nat) (k:Nat):St :=
 if k<L.length then neF c (L.take k) else StL [(4,.ptr 1 0)] none [.cells 46 [.own 2 0 L.length 1],.cells 51 ((dU L).map .d)]
set_option maxHeartbeats 8000000 in
set_option maxRecDepth 10000 in
theorem aLb [M:Mch Tryz.prog] (b n p0:Nat) (ps:List Nat) (hb:b<2 ^ 100) (hb0:0<b) (hd:iM n (p0::ps)) (hl:ps.length≤6) (hn:Ndd b (p0::ps)) (hw:∀ p∈p0::ps,Spec Tryz.prog 84 [.i .u64 p] (bU p)) :
  Spec Tryz.prog 59 [bU b,.i .u64 n] (cP (p0::ps)):=by
 have hx0:∀ k:Nat,(psL (p0::ps))[k]? = ((p0::ps)[k]?).map (fun (p:Nat)=>[D.i .u64 (p:Int)]):=fun k=>by simp only [psL,List.getElem?_map]
 have hlen:(psL (p0::ps)).length=(p0::ps).length:=by simp [psL]
 have hseq:=aIh n p0 ps hd
 have hE:=bHy hb0 (Nat.lt_of_lt_of_le hb (by decide))
 have hA:=aTn (x:=b) (y:=b) (by omega) (by omega)
 have hlL:(p0::ps).length≤7:=by simp; omega
 have hL0:0<(p0::ps).length:=by simp
 have hlt:∀ p∈p0::ps,p<2147483648:=fun p hp=>by
  obtain ⟨k,hk,rfl⟩:=List.mem_iff_getElem.1 hp
  exact (iM.pos hd (List.getElem?_eq_getElem hk)).2
 generalize p0::ps=L at *
 obtain ⟨hbig,hlow⟩:=hn
 rw [← Nat.two_mul] at hA
 have hc:2 * b<2 ^ 256:=by omega
 generalize 2 * b=c at *
 have hO:=bQy
 refine nY (N:=31) aW Tryz.func59 rfl rfl rfl (by kernel_rfl) (by kernel_rfl) (by simp) ?_
 refine cT (by kernel_rfl) ?_
 simp [-ζ,-ξ,↓KW,↓aL,↓aD,↓aJ,↓aK,aT b,aA,aE]
 refine cT (by kernel_rfl) ?_
 simp [-ζ,-ξ,↓KW,↓aL,↓aD,↓aJ,↓aK,aT b,aA,aE,aC,aF,aB]
 refine aH hE ?_
 simp [-ζ,-ξ,↓KW,↓aL,↓aD,↓aJ,↓aK,aT b,aA,aE,aC,aF,aB]
 refine cT (by kernel_rfl) ?_
 simp [-ζ,-ξ,↓KW,↓aL,↓aD,↓aJ,↓aK]
 refine cT (by kernel_rfl) ?_
 simp [-ζ,-ξ,↓KW,↓aL,↓aD,↓aJ,↓aK,aA,aE,aC,aF,aB]
 refine aH hO ?_
 rw [aT 1]
 simp [-ζ,-ξ,↓KW,↓aL,↓aD,↓aJ,↓aK,aA,aE,aC,aF,aB]
 refine aH hA ?_
 rw [aT c]
 simp [-ζ,-ξ,↓KW,↓aL,↓aD,↓aJ,↓aK,aA,aE,aC,aF,aB]
 refine zA (P:=Tryz.prog) ?_
 refine cT (by kernel_rfl) ?_
 simp [-ζ,-ξ,↓KW,↓aL,↓aD,↓aJ,↓aK]
 refine aH (aCe n) ?_
 simp [-ζ,-ξ,↓KW,↓aL,↓aD,↓aJ,↓aK]
 refine qO ?_
 refine oT (psL L) (fun k=>neS c L k) [8,17,18,19,20,21,22,23,24,25,26,27,28,29,30] .ret .ret (.inl rfl) (gf:=162) (caps:=[.pt [.i .u64 n]]) (by rfl) (by rfl) (by rfl) hseq ?_ (by kernel_rfl) (by rw [hlen]; omega) ?_ ?_ ?_
 ·show ∃ ρ,Wk _ (neS c L 0) ρ
  unfold neS
  rw [if_pos hL0,List.take_zero]
  refine wkQ [2,3,4,5] ?_ ?_ <;> simp [-ζ,upd,aS,Γ0,neF]
 ·intro k x hk hx
  rw [hlen] at hk
  rw [hx0,Option.map_eq_some_iff] at hx
  obtain ⟨p,hp,rfl⟩:=hx
  refine ⟨rfl,?_⟩
  have hpL:=List.mem_of_getElem? hp
  have hW:=hw p hpL
  have hp31:=hlt p hpL
  have htl:(L.take k).length=k:=by rw [List.length_take]; omega
  have hPb:cV (L.take k)≤2147483648 ^ 7:=Nat.le_trans (tD _ fun q hq=>hlt q (List.mem_of_mem_take hq)) (Nat.pow_le_pow_right (by decide) (by omega))
  have hP2:cV (L.take k) * p<2 ^ 256:=Nat.lt_of_le_of_lt (Nat.mul_le_mul hPb (Nat.le_of_lt hp31)) (by decide)
  have hM:=aLc (x:=cV (L.take k)) (y:=p) (Nat.lt_of_le_of_lt hPb (by decide)) (by omega)
  obtain ⟨r,hC,hr⟩:=bAz (x:=cV (L.take k) * p) (y:=c) hP2 hc
  have hsn:L.take (k+1)=L.take k++[p]:=by rw [List.take_add_one,hp]; rfl
  have hps:=xG (L.take k) p
  have hle:=hlow (k+1) hk
  rw [hsn,hps] at hle
  have hrr:¬ 0<r:=fun h=>by have:=hr.1 h; omega
  unfold neS
  rw [if_pos (by omega),if_pos hk,hsn]
  generalize L.take k=T at *
  generalize hPp:cV T * p=Pp at *
  cases T with
  | nil =>
   have hm1:(1:Nat)≤maxLen:=bV (by decide)
   show AWP _ _ ⟨upd (neF c []).Γ 17 (.d (.i .u64 (p:Int))),(neF c []).H,(neF c []).n⟩ _
   change Spec _ _ [bU 1,bU p] _ at hM
   simp [-ζ,-ξ,↓KW,↓aL,↓aD,↓aJ,↓aK,neF,hm1,aA,aE,aC,aF,aB]
   refine aH hW ?_
   rw [aT p]
   simp [-ζ,-ξ,↓KW,↓aL,↓aD,↓aJ,↓aK,aA,aE,aC,aF,aB]
   refine aH hM ?_
   rw [aT Pp]
   simp [-ζ,-ξ,↓KW,↓aL,↓aD,↓aJ,↓aK,aA,aE,aC,aF,aB]
   refine aH hC ?_
   simp [-ζ,-ξ,↓KW,↓aL,↓aD,↓aJ,↓aK,hrr,aA,aE,aC,aF,aB]
   have hps':cV [p]=Pp:=hps
   refine wkQ [1,2,3,4,6] ?_ ?_ <;> simp [-ζ,upd,aS,Γ0,List.contains_cons,bQ,iW,lJ,hps']
  | cons y T =>
   have hps':cV (y::(T++[p]))=Pp:=hps
   have hbb:=dY (n:=T.length+1) (by simp at htl; omega)
   show AWP _ _ ⟨upd (neF c (y::T)).Γ 17 (.d (.i .u64 (p:Int))),(neF c (y::T)).H,(neF c (y::T)).n⟩ _
   simp [-ζ,-ξ,↓KW,↓aL,↓aD,↓aJ,↓aK,neF,gM,hbb,bV,aA,aE,aC,aF,aB]
   refine aH hW ?_
   rw [aT p]
   simp [-ζ,-ξ,↓KW,↓aL,↓aD,↓aJ,↓aK,aA,aE,aC,aF,aB]
   refine aH hM ?_
   rw [aT Pp]
   simp [-ζ,-ξ,↓KW,↓aL,↓aD,↓aJ,↓aK,aA,aE,aC,aF,aB]
   refine aH hC ?_
   simp [-ζ,-ξ,↓KW,↓aL,↓aD,↓aJ,↓aK,hrr,aA,aE,aC,aF,aB]
   refine wkQ [1,2,3,4,7] ?_ ?_ <;> simp [-ζ,upd,aS,Γ0,List.contains_cons,bQ,iW,lJ,hps']
 ·intro k x hk hx
  rw [hlen] at hk
  rw [hx0,Option.map_eq_some_iff] at hx
  obtain ⟨p,hp,rfl⟩:=hx
  refine ⟨rfl,?_⟩
  have hpL:=List.mem_of_getElem? hp
  have hW:=hw p hpL
  have hp31:=hlt p hpL
  have htl:(L.take k).length=k:=by rw [List.length_take]; omega
  have hPb:cV (L.take k)≤2147483648 ^ 7:=Nat.le_trans (tD _ fun q hq=>hlt q (List.mem_of_mem_take hq)) (Nat.pow_le_pow_right (by decide) (by omega))
  have hP2:cV (L.take k) * p<2 ^ 256:=Nat.lt_of_le_of_lt (Nat.mul_le_mul hPb (Nat.le_of_lt hp31)) (by decide)
  have hM:=aLc (x:=cV (L.take k)) (y:=p) (Nat.lt_of_le_of_lt hPb (by decide)) (by omega)
  obtain ⟨r,hC,hr⟩:=bAz (x:=cV (L.take k) * p) (y:=c) hP2 hc
  have hsn:L.take (k+1)=L.take k++[p]:=by rw [List.take_add_one,hp]; rfl
  have hps:=xG (L.take k) p
  have hLe:L.take (k+1)=L:=by rw [hk]; exact List.take_length
  rw [hLe] at hsn
  rw [hLe.symm.trans (hLe.trans hsn),hps] at hbig
  have hrr:0<r:=hr.2 hbig
  unfold neS
  rw [if_pos (by omega),if_neg (by omega)]
  have hTl:L.length=k+1:=hk.symm
  rw [hTl]
  generalize L.take k=T at *
  subst hsn
  generalize hPp:cV T * p=Pp at *
  cases T with
  | nil =>
   have hm1:(1:Nat)≤maxLen:=bV (by decide)
   have hk0:k=0:=htl.symm
   subst hk0
   show AWP _ _ ⟨upd (neF c []).Γ 17 (.d (.i .u64 (p:Int))),(neF c []).H,(neF c []).n⟩ _
   change Spec _ _ [bU 1,bU p] _ at hM
   simp [-ζ,-ξ,↓KW,↓aL,↓aD,↓aJ,↓aK,neF,hm1,aA,aE,aC,aF,aB]
   refine aH hW ?_
   rw [aT p]
   simp [-ζ,-ξ,↓KW,↓aL,↓aD,↓aJ,↓aK,aA,aE,aC,aF,aB]
   refine aH hM ?_
   rw [aT Pp]
   simp [-ζ,-ξ,↓KW,↓aL,↓aD,↓aJ,↓aK,aA,aE,aC,aF,aB]
   refine aH hC ?_
   simp [-ζ,-ξ,↓KW,↓aL,↓aD,↓aJ,↓aK,hrr,aA,aE,aC,aF,aB]
   refine wkQ [1,6] ?_ ?_ <;> simp [-ζ,upd,aS,Γ0,List.contains_cons,bQ,iW,lJ]
  | cons y T =>
   have hk0:k=T.length+1:=htl.symm
   subst hk0
   have hbb:=dY (n:=T.length+1) (by omega)
   show AWP _ _ ⟨upd (neF c (y::T)).Γ 17 (.d (.i .u64 (p:Int))),(neF c (y::T)).H,(neF c (y::T)).n⟩ _
   simp [-ζ,-ξ,↓KW,↓aL,↓aD,↓aJ,↓aK,neF,gM,hbb,bV,aA,aE,aC,aF,aB]
   refine aH hW ?_
   rw [aT p]
   simp [-ζ,-ξ,↓KW,↓aL,↓aD,↓aJ,↓aK,aA,aE,aC,aF,aB]
   refine aH hM ?_
   rw [aT Pp]
   simp [-ζ,-ξ,↓KW,↓aL,↓aD,↓aJ,↓aK,aA,aE,aC,aF,aB]
   refine aH hC ?_
   simp [-ζ,-ξ,↓KW,↓aL,↓aD,↓aJ,↓aK,hrr,aA,aE,aC,aF,aB]
   refine wkQ [1,7] ?_ ?_ <;> simp [-ζ,upd,aS,Γ0,List.contains_cons,bQ,iW,lJ]
 ·rw [hlen]
  unfold neS
  rw [if_neg (by omega)]
  have hfl:=gM L
  simp [-ζ,-ξ,↓KW,↓aL,↓aD,↓aJ,↓aK,cP,hfl,oP (rfl:L.length=L.length),kW (rfl:L.length=L.length)]
end Go.Am
end
section
open List renaming map_map→ζ,mapM_map→ξ
open Go Go.Am Go.Proofs
namespace Go.Am
open Go.RowKit (Below)
theorem rA {P:Program} (w:World) (t tn ty e:TypeId) (i:TypeInfo) (z:Value) (kq kn:IntKind) (ht:P.underlying t=some (.slice e)) (htn:P.underlying tn=some (.int kn)) (hi:P.info? e=some i) (hz:i.zero=some z)
    (k:Nat) (h0:0<k) (hs:0<i.size) (h63:(k:Int)≤9223372036854775807) (h48:k * i.bytes≤281474976710656) :
    aM P (Builtin.append_ #[t,tn] ty #[.slice none 0 0,.int kq k]) w =
      .ok (.slice (some ⟨w.heap.size,0,none⟩) k (grownCap w k 0 e))
        (w.drew.alloc (.cells (Builtin.zeroCells z.cells k++Builtin.zeroCells z.cells (grownCap w k 0 e - k)) e)):=by
  have hk:k≠0:=by omega
  have hw:IntKind.i64.wrap (k:Int)=k:=by rw [IntKind.wrap_i64]; omega
  have h63':¬ (9223372036854775807<(k:Int)):=by omega
  have h48':¬ (281474976710656<Builtin.nextslicecap k 0 * i.bytes):=by rw [nextslicecap_zero h0]; omega
  have h48i:¬ (281474976710656<(k:Int) * (i.bytes:Int)):=by rw [← Int.natCast_mul]; omega
  have hneg:¬ ((k:Int)<0):=by omega
  have hns:¬ (k * i.size=0):=Nat.mul_ne_zero hk (by omega)
  simp [Builtin.append_,aI ht,aI htn,sizeOf,typeInfo,zeroValue,hi,hz,asInt,asIntOf,hw,hk,hneg,hns,h63',h48',h48i,Question.forced,jG,newRow,grownCap]
structure AL (n:Nat) (l:List (Nat × Value)) (a:Act):Prop where
  size:a.tmps.size=n
  defs:a.defers=[]
  get:∀ t x,l.lookup t=some x→a.eval (.tmp t)=x
theorem AL.put {n:Nat} {l:List (Nat × Value)} {a:Act} (h:AL n l a) {d:Nat} (hd:d<n) (x:Value):AL n ((d,x)::l) (a.put (some d) x) where
  size:=by simp [Act.put,h.size]
  defs:=h.defs
  get t y hy:=by
    have hg:=iI a (some d) x (fun _ e=>by injection e with e; subst e; rw [h.size]; exact hd) t
    have he:(a.put (some d) x).eval (.tmp t)=if (some d:Option Nat)=some t then x else a.eval (.tmp t):=by simpa [Act.eval] using hg
    rw [he]
    rw [List.lookup_cons] at hy
    by_cases e:t=d
    · subst e; simp at hy; simp [hy]
    · rw [show (t == d)=false from by simp [e]] at hy
      rw [if_neg (by simpa using Ne.symm e)]
      exact h.get t y hy
def evL (l:List (Nat × Value)):Operand→Option Value
  | .tmp t=>l.lookup t
  | .const v=>some v
  | _=>none
theorem AL.ev {n:Nat} {l:List (Nat × Value)} {a:Act} (h:AL n l a) {o:Operand} {x:Value} (hx:evL l o=some x):a.eval o=x:=by
  cases o with
  | tmp t=>exact h.get t x hx
  | const v => have e : v = x := by simpa [evL] using hx
               subst e; rfl
  | _=>cases hx
section
variable {P:Program} [M:Mch P] {Q:Exit→Act→World→Prop} {ops:Array Oper} {n:Nat} {l:List (Nat × Value)}
theorem pB {W v:World} {d:Nat} {op:Op} {ty:TypeId} {pos:String} {after:Array Edge} {rest:List Oper} {a:Act} (x:Value) (hA:AL n l a) (he:Env W v) (hd:d<n) (hr:∀ w,aM P (execOp a.eval ⟨some d,op,ty,pos,after,none⟩) w=.ok (.value x) w)
    (h:∀ a' v',AL n ((d,x)::l) a'→Env W v'→fY P ops Q rest a' v'):fY P ops Q (⟨some d,op,ty,pos,after,none⟩::rest) a v:=by
  have hw:Region.wanted (⟨some d,op,ty,pos,after,none⟩:Oper) (yielded ops a.tmps)=true:=rfl
  unfold fY
  rw [if_pos hw]
  intro v1 he1
  unfold wpX
  rw [hr]
  exact h _ _ (hA.put hd x) (he.trans he1)
def dv:D→Value
  | .b x=>.bool x
  | .i k n=>.int k n
  | _=>undef
theorem nV {W v:World} {dst:Nat} {op:BinOp} {t t2:TypeId} {x y:Operand} {pos:String} {ty:TypeId} {after:Array Edge} {rest:List Oper} {a:Act} {k k':IntKind} {m m':Int} (d:D) (hA:AL n l a) (he:Env W v) (hdst:dst<n) (hx:evL l x=some (.int k m)) (hy:evL l y=some (.int k' m'))
    (hd:dL op (bL P t) (.d (.i k m)) (.d (.i k' m'))=some d) (hd2:(∃ b,d=.b b)∨∃ k n,d=.i k n)
    (h:∀ a' v',AL n ((dst,dv d)::l) a'→Env W v'→fY P ops Q rest a' v'):fY P ops Q (⟨some dst,.binOp op t x y t2,ty,pos,after,none⟩::rest) a v:=by
  refine pB _ hA he hdst (fun w=>?_) h
  obtain ⟨z,⟨h1,h2⟩,hz⟩:=aFs (P:=P) (F:=fun _=>False) (w:=w) (ι:=fun _=>none) (u:=.int k m) (v:=.int k' m') hd (.d _ _ (.i k m)) (.d _ _ (.i k' m')) x y
  have hzd:z=dv d:=by
    rcases hd2 with ⟨b,rfl⟩ | ⟨k,n,rfl⟩ <;> cases hz <;> rfl
  subst hzd
  simp [execOp,hA.ev hx,hA.ev hy,h1,h2]
theorem eB {W v:World} {dst:Nat} {x:Operand} {pos:String} {ty:TypeId} {after:Array Edge} {rest:List Oper} {a:Act} {u:Value} (hA:AL n l a) (he:Env W v) (hdst:dst<n) (hx:evL l x=some u)
    (h:∀ a' v',AL n ((dst,u)::l) a'→Env W v'→fY P ops Q rest a' v'):fY P ops Q (⟨some dst,.move x,ty,pos,after,none⟩::rest) a v :=
  pB _ hA he hdst (fun w=>by simp [execOp,hA.ev hx]) h
theorem pZ {W v:World} {dst:Nat} {x:Operand} {pos:String} {ty:TypeId} {after:Array Edge} {rest:List Oper} {a:Act} {u:Value} (hA:AL n l a) (he:Env W v) (hdst:dst<n) (hx:evL l x=some u)
    (h:∀ a' v',AL n ((dst,u)::l) a'→Env W v'→fY P ops Q rest a' v'):fY P ops Q (⟨some dst,.assign x,ty,pos,after,none⟩::rest) a v :=
  pB _ hA he hdst (fun w=>by simp [execOp,hA.ev hx]) h
theorem aJd {W v:World} {dst:Nat} {x:Operand} {pos:String} {ty t e:TypeId} {after:Array Edge} {rest:List Oper} {a:Act} {b:Option Addr} {len cap:Nat} (hA:AL n l a) (he:Env W v) (hdst:dst<n) (ht:P.underlying t=some (.slice e)) (hx:evL l x=some (.slice b len cap))
    (h:∀ a' v',AL n ((dst,.int .i64 cap)::l) a'→Env W v'→fY P ops Q rest a' v'):fY P ops Q (⟨some dst,.call ⟨.builtin .cap,#[x],#[t]⟩,ty,pos,after,none⟩::rest) a v :=
  pB _ hA he hdst (fun w=>by simp [execOp,resolve,invoke,builtin,hA.ev hx,aI ht,Builtin.cap_]; rfl) h
theorem aJc {W v:World} {dst:Nat} {x:Operand} {pos:String} {ty t e:TypeId} {after:Array Edge} {rest:List Oper} {a:Act} {b:Option Addr} {len cap:Nat} (hA:AL n l a) (he:Env W v) (hdst:dst<n) (ht:P.underlying t=some (.slice e)) (hx:evL l x=some (.slice b len cap))
    (h:∀ a' v',AL n ((dst,.int .i64 len)::l) a'→Env W v'→fY P ops Q rest a' v'):fY P ops Q (⟨some dst,.call ⟨.builtin .len,#[x],#[t]⟩,ty,pos,after,none⟩::rest) a v :=
  pB _ hA he hdst (fun w=>by simp [execOp,resolve,invoke,builtin,hA.ev hx,aI ht,Builtin.len_,Builtin.lenOf]; rfl) h
theorem bKt {v:World} {d:Nat} {op:Op} {ty:TypeId} {pos:String} {after:Array Edge} {rest:List Oper} {a:Act} (hA:AL n l a) (hd:d<n)
    (h:∀ v1,Env v v1→∃ x w1,aM P (execOp a.eval ⟨some d,op,ty,pos,after,none⟩) v1=.ok (.value x) w1∧∀ a',AL n ((d,x)::l) a'→fY P ops Q rest a' w1):fY P ops Q (⟨some d,op,ty,pos,after,none⟩::rest) a v:=by
  have hw:Region.wanted (⟨some d,op,ty,pos,after,none⟩:Oper) (yielded ops a.tmps)=true:=rfl
  unfold fY
  rw [if_pos hw]
  intro v1 he1
  obtain ⟨x,w1,h1,h2⟩:=h v1 he1
  unfold wpX
  rw [h1]
  exact h2 _ (hA.put hd x)
theorem aAk {W v:World} {dst:Nat} {x hi:Operand} {pos:String} {ty t e:TypeId} {sz:Nat} {after:Array Edge} {rest:List Oper} {a:Act} {b:Option Addr} {len cap:Nat} (hA:AL n l a) (he:Env W v) (hdst:dst<n) (ht:tel P t=some e) (hs:tsz P e=some sz) (hc:len≤cap) (hx:evL l x=some (.slice b len cap)) (hh:evL l hi=some (.int .i64 0)) (hb:b=none∧cap=0∨0<cap∧∃ k,b=some ⟨k,0,none⟩)
    (h:∀ a' v',AL n ((dst,.slice b 0 cap)::l) a'→Env W v'→fY P ops Q rest a' v'):fY P ops Q (⟨some dst,.slice t x none (some hi) none,ty,pos,after,none⟩::rest) a v:=by
  refine pB _ hA he hdst (fun w=>?_) h
  have hr:=lF (P:=P) w ht hs b len cap hc none (some (.int .i64 0)) none 0 0 (.inl ⟨rfl,rfl⟩) (.inr ⟨_,rfl⟩) (by omega) (by omega) (by omega) cap (.inl ⟨rfl,rfl⟩)
  simp only [execOp,hA.ev hx,hA.ev hh,Option.map_some,Option.map_none,Sem.run_bind,hr,Result.andThen_ok]
  rcases hb with ⟨rfl,rfl⟩ | ⟨h0,k,rfl⟩
  · simp
  · simp [Addr.add,Nat.ne_of_gt h0]
theorem jU {a:Act} {v:World} (h:Q .normal a v):fY P ops Q [] a v:=h
end
theorem AL.start (x y:Value) (k:Nat):AL (2+k) [(0,x),(1,y)] ⟨#[x,y]++Array.replicate k undef,[]⟩ where
  size:=by simp
  defs:=rfl
  get t z hz:=by
    have h2:∀ t,t<2→(#[x,y]++Array.replicate k undef:Array Value).getD t undef=(#[x,y]:Array Value).getD t undef:=fun t ht=>by
      simp only [Array.getD_eq_getD_getElem?]; rw [Array.getElem?_append_left (by simpa using ht)]
    match t with
    | 0=>rw [List.lookup_cons] at hz; simp at hz; subst hz; show Array.getD _ _ _=_; rw [h2 0 (by decide)]; rfl
    | 1=>simp [List.lookup_cons] at hz; subst hz; show Array.getD _ _ _=_; rw [h2 1 (by decide)]; rfl
    | t+2=>simp [List.lookup_cons] at hz
noncomputable def aQc:TypeInfo:=((Tryz.prog).info? 51).get (by kernel_rfl)
theorem bDz:(Tryz.prog).info? 51=some aQc:=by kernel_rfl
noncomputable def aUz:Value:=aQc.zero.get (by kernel_rfl)
theorem aQa:aQc.zero=some aUz:=by kernel_rfl
theorem aPz:aUz.cells.size=1:=by kernel_rfl
theorem aQb:aQc.size=1:=by kernel_rfl
theorem aJn:aQc.bytes=8:=by kernel_rfl
set_option maxHeartbeats 400000 in
set_option maxRecDepth 100000 in
theorem aZv [M : Mch Tryz.prog] (n : Nat) (W : World) (h0 : 0 < n) (hn : n ≤ 1000000) : CX Tryz.prog 103 #[.slice none 0 0, .int .i64 n] W fun x w' => ∃ b G ROW, n ≤ G ∧ G ≤ maxLen ∧ G ≤ ROW.size ∧ W.heap.size ≤ b ∧
      x=.slice (some ⟨b,0,none⟩) 0 G∧w'.heap[b]? = some (.cells ROW 51 (0,0))∧Below W.heap.size W w':=by
  refine iJ Tryz.func103 rfl ?_
  have hu46:(Tryz.prog).underlying 46=some (.slice 51):=by kernel_rfl
  have hu3:(Tryz.prog).underlying 3=some (.int .i64):=by kernel_rfl
  have e0:Env W W:=.refl W
  have hb0:∀ t,dL .sub t (.d (.i .i64 0)) (.d (.i .i64 0))=some (.i .i64 0):=fun t=>by simp [dL,arith]; decide
  have hwn:IntKind.i64.wrap (n:Int)=n:=bB
  have hb1:∀ t,dL .sub t (.d (.i .i64 (n:Int))) (.d (.i .i64 0))=some (.i .i64 n):=fun t=>by simp [dL,arith,hwn]
  have hA:AL 27 [(0,.slice none 0 0),(1,.int .i64 n)] { tmps:=#[Value.slice none 0 0,Value.int .i64 n]++Array.replicate (Tryz.f103.ntmps - #[Value.slice none 0 0,Value.int .i64 n].size) undef,defers:=[] }:=AL.start _ _ 25
  generalize ({ tmps:=#[Value.slice none 0 0,Value.int .i64 n]++Array.replicate (Tryz.f103.ntmps - #[Value.slice none 0 0,Value.int .i64 n].size) undef,defers:=[] }:Act)=a0 at hA ⊢
  refine eH (gJ ?_)
  refine pZ hA e0 (by decide) rfl fun a v hA e1=>jU ?_
  refine eH (eH (gJ ?_))
  refine eB hA e1 (by decide) rfl fun a v hA e2=>?_
  refine nV (.b false) hA e2 (by decide) rfl rfl (by simp [dL,arith]) (.inl ⟨_,rfl⟩) fun a v hA e3=>jU ?_
  refine mF (t:=false) (hA.get _ _ rfl) (vM ?_)
  refine eH (eH (gJ ?_))
  refine eB hA e3 (by decide) rfl fun a v hA e4=>?_
  refine eB hA e4 (by decide) rfl fun a v hA e5=>?_
  refine aJd hA e5 (by decide) hu46 rfl fun a v hA e6=>?_
  refine eB hA e6 (by decide) rfl fun a v hA e7=>?_
  refine aJc hA e7 (by decide) hu46 rfl fun a v hA e8=>?_
  refine nV (.i .i64 0) hA e8 (by decide) rfl rfl (hb0 _) (.inr ⟨_,_,rfl⟩) fun a v hA e9=>?_
  refine nV (.i .i64 n) hA e9 (by decide) rfl rfl (hb1 _) (.inr ⟨_,_,rfl⟩) fun a v hA e10=>?_
  refine pZ hA e10 (by decide) rfl fun a v hA e11=>jU ?_
  refine eH (gJ ?_)
  refine eB hA e11 (by decide) rfl fun a v hA e12=>?_
  refine nV (.b true) hA e12 (by decide) rfl rfl (by simp [dL,arith,h0]) (.inl ⟨_,rfl⟩) fun a v hA e13=>jU ?_
  refine mF (t:=true) (hA.get _ _ rfl) (gJ ?_)
  refine eB hA e13 (by decide) rfl fun a v hA e14=>?_
  refine eB hA e14 (by decide) rfl fun a v hA e15=>?_
  refine aJd hA e15 (by decide) hu46 rfl fun a v hA e16=>?_
  refine aAk (e:=51) (sz:=1) hA e16 (by decide) (by kernel_rfl) (by kernel_rfl) (Nat.le_refl _) rfl rfl (.inl ⟨rfl,rfl⟩) fun a v hA e17=>?_
  refine eB hA e17 (by decide) rfl fun a v hA e18=>?_
  refine bKt hA (by decide) fun w e19=>?_
  have e20:=e18.trans e19
  obtain ⟨G,hG⟩:∃ G,G=grownCap w n 0 51:=⟨_,rfl⟩
  obtain ⟨ROW,hROW⟩:∃ ROW,ROW=Builtin.zeroCells aUz.cells n++Builtin.zeroCells aUz.cells (G - n):=⟨_,rfl⟩
  have hGn:n≤G:=hG ▸ grownCap_ge w _ _ _
  have hGm:G≤maxLen:=hG ▸ grownCap_le_maxLen w n 0 51 (by unfold maxLen; omega)
  have hRl:G≤ROW.size:=by
    rw [hROW]
    simp only [Array.size_append,Builtin.zeroCells,Array.size_map,Array.size_range,aPz]
    omega
  refine ⟨.slice (some ⟨w.heap.size,0,none⟩) n G,w.drew.alloc (.cells ROW 51),?_,fun a hA=>?_⟩
  · have hr:=rA w 46 3 46 51 aQc aUz .i64 .i64 hu46 hu3 bDz aQa n h0 (by rw [aQb]; decide) (by omega) (by rw [aJn]; omega)
    rw [← hG,← hROW] at hr
    simp only [execOp,resolve,invoke,builtin]
    simp [hA.get 20 _ rfl,hA.get 21 _ rfl,dv,hr]
  have hw0:Below W.heap.size W w:=by
    exact ⟨e20.os,e20.tape,e20.output,e20.size,fun k hk=>e20.get hk⟩
  have hb:Below W.heap.size W (w.drew.alloc (.cells ROW 51)):=by
    have h:=hw0.alloc hw0.size (.cells ROW 51)
    exact ⟨h.os,h.tape,h.output,h.size,h.block⟩
  have hat:(w.drew.alloc (.cells ROW 51)).heap[w.heap.size]? = some (.cells ROW 51 (0,0)):=by
    simp only [World.alloc,World.drew]
    rw [Array.getElem?_push,if_pos rfl]
  have hsz:w.heap.size<(w.drew.alloc (.cells ROW 51)).heap.size:=by simp only [World.alloc,World.drew,Array.size_push]; omega
  generalize w.drew.alloc (.cells ROW 51)=W1 at hb hat hsz ⊢
  have f0:Env W1 W1:=.refl _
  have hG0:0<G:=by omega
  refine eB hA f0 (by decide) rfl fun a v hA f1=>?_
  refine aJc hA f1 (by decide) hu46 rfl fun a v hA f2=>?_
  refine aAk (e:=51) (sz:=1) hA f2 (by decide) (by kernel_rfl) (by kernel_rfl) hGn rfl rfl (.inr ⟨hG0,_,rfl⟩) fun a v hA f3=>?_
  refine pZ hA f3 (by decide) rfl fun a v hA f4=>jU ?_
  refine eH (gJ ?_)
  refine eB hA f4 (by decide) rfl fun a v hA f5=>?_
  refine pZ hA f5 (by decide) rfl fun a v hA f6=>jU (wK ?_)
  refine ⟨hA.defs,fun v1 f7=>⟨.slice (some ⟨w.heap.size,0,none⟩) 0 G,?_,w.heap.size,G,ROW,hGn,hGm,hRl,e20.size,rfl,?_,?_⟩⟩
  · have hr:=hA.get 4 _ rfl
    show aM _ (results _ a.tmps) v1=_
    have hrs:Tryz.f103.results=#[.tmp 4]:=rfl
    simp only [results,hrs]
    simp only [Act.eval,Array.getD_eq_getD_getElem?] at hr
    simp [hr]
  · rw [(f6.trans f7).get hsz]; exact hat
  · have f8:=f6.trans f7
    exact ⟨f8.os.trans hb.os,f8.tape.trans hb.tape,f8.output.trans hb.output,Nat.le_trans hb.size f8.size,fun k hk=>(f8.get (Nat.lt_of_lt_of_le hk hb.size)).trans (hb.block k hk)⟩
set_option maxHeartbeats 400000 in
set_option maxRecDepth 100000 in
theorem aSj [M:Mch Tryz.prog] (W:World):CX Tryz.prog 103 #[.slice none 0 0,.int .i64 0] W fun x w'=>x=.slice none 0 0∧Below W.heap.size W w':=by
  refine iJ Tryz.func103 rfl ?_
  have hu46:(Tryz.prog).underlying 46=some (.slice 51):=by kernel_rfl
  have e0:Env W W:=.refl W
  have hb0:∀ t,dL .sub t (.d (.i .i64 0)) (.d (.i .i64 0))=some (.i .i64 0):=fun t=>by simp [dL,arith]; decide
  have hA:AL 27 [(0,.slice none 0 0),(1,.int .i64 0)] { tmps:=#[Value.slice none 0 0,Value.int .i64 0]++Array.replicate (Tryz.f103.ntmps - #[Value.slice none 0 0,Value.int .i64 0].size) undef,defers:=[] }:=AL.start _ _ 25
  generalize ({ tmps:=#[Value.slice none 0 0,Value.int .i64 0]++Array.replicate (Tryz.f103.ntmps - #[Value.slice none 0 0,Value.int .i64 0].size) undef,defers:=[] }:Act)=a0 at hA ⊢
  refine eH (gJ ?_)
  refine pZ hA e0 (by decide) rfl fun a v hA e1=>jU ?_
  refine eH (eH (gJ ?_))
  refine eB hA e1 (by decide) rfl fun a v hA e2=>?_
  refine nV (.b false) hA e2 (by decide) rfl rfl (by simp [dL,arith]) (.inl ⟨_,rfl⟩) fun a v hA e3=>jU ?_
  refine mF (t:=false) (hA.get _ _ rfl) (vM ?_)
  refine eH (eH (gJ ?_))
  refine eB hA e3 (by decide) rfl fun a v hA e4=>?_
  refine eB hA e4 (by decide) rfl fun a v hA e5=>?_
  refine aJd hA e5 (by decide) hu46 rfl fun a v hA e6=>?_
  refine eB hA e6 (by decide) rfl fun a v hA e7=>?_
  refine aJc hA e7 (by decide) hu46 rfl fun a v hA e8=>?_
  refine nV (.i .i64 0) hA e8 (by decide) rfl rfl (hb0 _) (.inr ⟨_,_,rfl⟩) fun a v hA e9=>?_
  refine nV (.i .i64 0) hA e9 (by decide) rfl rfl (hb0 _) (.inr ⟨_,_,rfl⟩) fun a v hA e10=>?_
  refine pZ hA e10 (by decide) rfl fun a v hA e11=>jU ?_
  refine eH (gJ ?_)
  refine eB hA e11 (by decide) rfl fun a v hA e12=>?_
  refine nV (.b false) hA e12 (by decide) rfl rfl (by simp [dL,arith]) (.inl ⟨_,rfl⟩) fun a v hA e13=>jU ?_
  refine mF (t:=false) (hA.get _ _ rfl) (vM ?_)
  refine eH (gJ ?_)
  refine eB hA e13 (by decide) rfl fun a v hA e14=>?_
  refine pZ hA e14 (by decide) rfl fun a v hA e15=>jU (wK ?_)
  refine ⟨hA.defs,fun v1 f7=>⟨.slice none 0 0,?_,rfl,?_⟩⟩
  · have hr:=hA.get 4 _ rfl
    show aM _ (results _ a.tmps) v1=_
    have hrs:Tryz.f103.results=#[.tmp 4]:=rfl
    simp only [results,hrs]
    simp only [Act.eval,Array.getD_eq_getD_getElem?] at hr
    simp [hr]
  · have f8:=e15.trans f7
    exact ⟨f8.os,f8.tape,f8.output,f8.size,fun k hk=>f8.get hk⟩
theorem aFg {vs:Array Value} (h:2=vs.size):∃ v0 v1,vs=#[v0,v1]:=by
  obtain ⟨v0,hv0⟩:∃ v1,vs[0]? = some v1:=⟨vs[0],Array.getElem?_eq_getElem (by omega)⟩
  obtain ⟨v1,hv1⟩:∃ v1,vs[1]? = some v1:=⟨vs[1],Array.getElem?_eq_getElem (by omega)⟩
  refine ⟨v0,v1,?_⟩
  apply Array.ext_getElem?
  intro k
  match k with
  | 0=>simpa using hv0
  | 1=>simpa using hv1
  | k+2=>rw [Array.getElem?_eq_none (by omega)]; simp
theorem uO (vs:Array Value) (w:World):aM Tryz.prog (callFunc 103 vs) w=.ok (.enter 103 vs) w:=by
  have hn:¬ Tryz.f103.name = "runtime.NumGoroutine" := by
    have:(Tryz.f103.name == "runtime.NumGoroutine")=false:=rfl
    simpa using this
  have hb:Tryz.f103.body=some _:=rfl
  simp [callFunc,Tryz.func103,hn,hb]
theorem bPr [M:Mch Tryz.prog] (n:Nat) (h0:0<n) (hn:n≤1000000):zN Tryz.prog 103 [.nil,.d (.i .i64 (n:Int))] (fun m=>.own m 0 0 1) (fun _=>[.cells 51 []]):=by
  intro A W vs hA hl hv
  obtain ⟨v0,v1,rfl⟩:=aFg hl
  have h1:=hv 0 _ v0 rfl rfl
  cases h1
  have h2:=hv 1 _ v1 rfl rfl
  cases h2 with | d _ _ h2 =>
  cases h2
  refine ⟨uO _,?_⟩
  refine (aZv n W h0 hn).mono ?_
  rintro e w' ⟨b,G,ROW,hG,hGm,hR,hbW,rfl,hat,hb⟩
  have hsz:b<w'.heap.size:=bD hat
  refine ⟨hb,fun m hm=>⟨A,fun id=>if id=m then some b else none,fun b h=>.inl h,?_,fun id=>?_,fun id b' h=>?_,fun i o b' ho hb'=>?_,fun id id' b' h h'=>?_⟩⟩
  · have:=V.own (F:=A) (w:=w') (ι:=fun id=>if id=m then some b else none) m 0 0 1 b G ROW 51 (if_pos rfl) hat (by omega) (by omega) hGm
    rwa [Nat.zero_mul] at this
  · constructor
    · rintro ⟨b',h⟩
      simp only at h
      split at h
      · rename_i e; subst e; exact ⟨Nat.le_refl _,by simp⟩
      · cases h
    · rintro ⟨h1,h2⟩
      have e:id=m:=by simp at h2; omega
      exact ⟨_,if_pos e⟩
  · simp only at h
    split at h
    · injection h with h; subst h
      exact ⟨hbW,hsz,fun h=>Nat.lt_irrefl _ (Nat.lt_of_lt_of_le (hA _ h) hbW)⟩
    · cases h
  · have hi:i=0:=by
      have:=(List.getElem?_eq_some_iff.1 ho).1
      simp at this; exact this
    subst hi
    simp at ho; subst ho
    simp at hb'; subst hb'
    exact ⟨_,hat,.cells _ _ _ (Nat.zero_le _) fun k c h=>by simp at h⟩
  · simp only at h h'
    split at h
    · rename_i e
      split at h'
      · rename_i e'; exact e.trans e'.symm
      · cases h'
    · cases h
theorem bMz [M:Mch Tryz.prog]:zN Tryz.prog 103 [.nil,.d (.i .i64 0)] (fun _=>.nil) (fun _=>[]):=by
  intro A W vs hA hl hv
  obtain ⟨v0,v1,rfl⟩:=aFg hl
  have h1:=hv 0 _ v0 rfl rfl
  cases h1
  have h2:=hv 1 _ v1 rfl rfl
  cases h2 with | d _ _ h2 =>
  cases h2
  refine ⟨uO _,?_⟩
  refine (aSj W).mono ?_
  rintro e w' ⟨rfl,hb⟩
  exact ⟨hb,fun m hm=>⟨A,fun _=>none,fun b h=>.inl h,.nil,fun id=>⟨fun ⟨b,h⟩=>(by cases h),fun h=>(by simp at h; omega)⟩,fun id b h=>(by cases h),fun i o b h=>(by simp at h),fun id id' b h h'=>(by cases h)⟩⟩
end Go.Am
end
section
open List renaming map_map→ζ,mapM_map→ξ
open Go Go.Am Go.Proofs
namespace Go.Am
theorem iG (l:List Nat):one (.d (cP l))=true:=rfl
theorem dT (l:List Nat):dH (.d (cP l))=some [.d (cP l)]:=rfl
theorem fU (l:List Nat):aS (cP l)=.d (cP l):=rfl
theorem bAf (H:Hp) (n:Nat):kD H n []=H:=by
 funext id; unfold kD; rw [if_neg (by simp)]
theorem yH (H:Hp) (n:Nat) (o:HO):kD H n [o]=upd H n (some o):=by
 funext id; unfold kD upd
 by_cases h:id=n
 ·subst h; simp
 ·rw [if_neg (by simp; omega)]; simp [h]
theorem bIh (l:List Nat):((l.map fun (p:Nat)=>[D.i .u64 (p:Int)]).map (List.map AV.d)).flatten=(dU l).map AV.d:=by
 induction l with
 | nil=>rfl
 | cons x l ih=>simp only [List.map_cons,List.flatten_cons,ih]; rfl
theorem bNi (a b:List Nat):dU (a++b)=dU a++dU b:=by simp [dU]
theorem bIg (l:List Nat):((dU l).map AV.d).all one=true:=by
 rw [List.all_eq_true]
 intro x hx
 obtain ⟨d,hd,rfl⟩:=List.mem_map.1 hx
 obtain ⟨p,_,rfl⟩:=List.mem_map.1 hd
 rfl
def aBx (a b:List Nat):D:=.sl [[cP a],[cP b]]
set_option maxHeartbeats 4000000 in
set_option maxRecDepth 10000 in
theorem aPb [M:Mch Tryz.prog] (a b:List Nat) (ha:a.length≤10000) (hb:b.length≤10000):Spec Tryz.prog 58 [aBx a b] (cP (a++b)):=by
 have hw0:IntKind.i64.wrap (a.length:Int)=(a.length:Int):=bB
 have hw1:IntKind.i64.wrap ((a.length:Int)+b.length)=(a.length:Int)+b.length:=bB
 have hwz:IntKind.i64.wrap 1=1:=by decide
 have hwz2:IntKind.i64.wrap 2=2:=by decide
 have h00:¬ (a.length:Int)<0:=by omega
 have h01:¬ (a.length:Int)+b.length<0:=by omega
 refine bH (N:=36) Tryz.func58 ?_
 simp [-ζ,-ξ,↓KW,aBx,iG,dT,fU]
 refine fB 3 ?_
 simp [-ζ,-ξ,↓KW,↓aL,↓aD,↓aJ,↓aK,aBx,cP,iG,dT,fU,hw0,hw1,hwz,hwz2,h00,h01]
 by_cases hab:a.length+b.length=0
 ·have ea:a=[]:=List.eq_nil_of_length_eq_zero (by omega)
  have eb:b=[]:=List.eq_nil_of_length_eq_zero (by omega)
  subst ea; subst eb
  refine aBc (fun _=>.nil) (fun _=>[]) (by simp) (by simp) (by simp) (by rfl) (by simpa [aDn,aJm] using bMz) ?_
  simp [-ζ,-ξ,↓KW,bAf,cP]
  refine fB 3 ?_
  simp [-ζ,-ξ,↓KW,↓aL,↓aD,↓aJ,↓aK,aBx,cP,iG,dT,fU,hwz,hwz2]
 ·refine aBc (fun m=>.own m 0 0 1) (fun _=>[.cells 51 []]) (by simp) (by simp) (by simp) (by rfl) (by simpa [aDn,aJm] using bPr (a.length+b.length) (by omega) (by omega)) ?_
  have hok:∀ l:List Nat,fH 1 (l.map fun (p:Nat)=>[D.i .u64 (p:Int)])=true:=fun l=>by cases l <;> simp [fH]
  have hff:=bIh
  have hla:=gM a
  have hlb:=gM b
  have hbb:a.length * 8≤140737488355328∧a.length≤maxLen:=⟨by omega,bV (by omega)⟩
  have hbb2:(a.length+b.length) * 8≤140737488355328∧a.length+b.length≤maxLen:=⟨by omega,bV (by omega)⟩
  have hab':(a++b).length=a.length+b.length:=List.length_append
  have e1:List.take (a.length+b.length) ((dU (a++b)).map AV.d)=(dU (a++b)).map AV.d:=kW hab'
  have e2:chunk 1 (a.length+b.length) (dU (a++b))=(a++b).map fun (p:Nat)=>[D.i .u64 (p:Int)]:=oP hab'
  have e3:=gM (a++b)
  rw [hab'] at e3
  have e4:(dU a).map AV.d++(dU b).map AV.d=(dU (a++b)).map AV.d:=by rw [bNi,List.map_append]
  have hone:=bIg
  simp [-ζ,-ξ,↓KW,yH,cP]
  refine fB 3 ?_
  simp [-ζ,-ξ,↓KW,↓aL,↓aD,↓aJ,↓aK,aBx,cP,iG,dT,fU,hwz,hwz2,bCc,hok,hone,hff,hla,hlb,hbb,hbb2,e1,e2,e3,e4]
theorem oK (l:List Nat):inj (cP l)=.d (cP l):=rfl
theorem jY (H:Hp) (avs:List AV) (l:List Nat):bC H avs (cP l)=cG H avs:=rfl
set_option maxRecDepth 10000 in
theorem bGj [M:Mch Tryz.prog] (n:Nat):Spec Tryz.prog 59 [bU 0,.i .u64 n] (cP []):=by
 have hE:=aOw 0 (mG (by decide)) (mG (by decide)) (by decide)
 have h0:encZ 0=bU 0:=dE 0
 rw [h0] at hE
 simp only [decide_true] at hE
 refine nY (N:=31) aW Tryz.func59 rfl rfl rfl (by kernel_rfl) (by kernel_rfl) (by simp) ?_
 refine cT (by kernel_rfl) ?_
 simp [-ζ,-ξ,↓KW,↓aL,↓aD,↓aJ,↓aK,aT 0,aA,aE]
 refine cT (by kernel_rfl) ?_
 simp [-ζ,-ξ,↓KW,↓aL,↓aD,↓aJ,↓aK,aT 0,aA,aE,aC,aF,aB]
 refine aH hE ?_
 simp [-ζ,-ξ,↓KW,↓aL,↓aD,↓aJ,↓aK,aT 0,aA,aE,aC,aF,aB,cP]
def gT (c:Nat):Nat→List Nat→List Nat
 | acc,[]=>[]
 | acc,p::l=>if c<acc then [] else p::gT c (acc * p) l
theorem jN (c:Nat):∀ (l:List Nat) (acc:Nat),∃ k,gT c acc l=l.take k
 | [],acc=>⟨0,by simp [gT]⟩
 | p::l,acc=>by
  unfold gT
  split
  ·exact ⟨0,rfl⟩
  ·obtain ⟨k,hk⟩:=jN c l (acc * p)
   exact ⟨k+1,by simp [hk]⟩
theorem aBk (c:Nat):∀ (l:List Nat) (acc:Nat),c<acc * cV l→c<acc * cV (gT c acc l)
 | [],acc,h=>by simpa [gT] using h
 | p::l,acc,h=>by
  unfold gT
  split
  ·rename_i h1; simpa [cV] using h1
  ·have:=aBk c l (acc * p) (by simpa [cV,Nat.mul_assoc] using h)
   simpa [cV,Nat.mul_assoc] using this
theorem tE (c:Nat):∀ (l:List Nat) (acc k:Nat),k<(gT c acc l).length→acc * cV ((gT c acc l).take k)≤c
 | [],acc,k,h=>by simp [gT] at h
 | p::l,acc,k,h=>by
  unfold gT at h ⊢
  split
  ·rename_i h1; simp [h1] at h
  ·rename_i h1
   rw [if_neg h1] at h
   cases k with
   | zero=>simp [cV]; omega
   | succ k =>
    have:=tE c l (acc * p) k (by simpa using h)
    simpa [cV,Nat.mul_assoc] using this
theorem aRu {b:Nat} {l:List Nat} (h:2 * b<cV l):Ndd b (gT (2 * b) 1 l) where
 big:=by have:=aBk (2 * b) l 1 (by simpa using h); simpa using this
 low k hk:=by have:=tE (2 * b) l 1 k hk; simpa using this
def wpL (b k:Nat):List Nat:=P10.take (2 * k)++gT (2 * b) 1 (P10.drop (2 * k))
set_option maxHeartbeats 4000000 in
set_option maxRecDepth 10000 in
theorem bKq [M:Mch Tryz.prog] (b:Nat) (N:List Nat) (hN:N.length≤1000) (hNe:Spec Tryz.prog 59 [bU b,.i .u64 2147483648] (cP N)):Spec Tryz.prog 19 [bU b,.i .i64 0] (cP N):=by
 have hPr:=aGg 2147483648
 have hC:=aPb [] N (by simp) (by omega)
 rw [List.nil_append] at hC
 refine bH (N:=26) Tryz.func19 ?_
 simp [-ζ,-ξ,↓KW,aT b,aA,aE]
 refine aH hPr ?_
 have hnil:cP []=.sl []:=rfl
 simp [-ζ,-ξ,↓KW,hnil,aA,aE,aC,aF,aB]
 refine aH hNe ?_
 simp [-ζ,-ξ,↓KW,iG,dT,fU,oK,jY]
 refine aH hC ?_
 simp [-ζ,-ξ,↓KW,iG,dT,fU,oK,jY]
set_option maxHeartbeats 4000000 in
set_option maxRecDepth 10000 in
theorem aCp [M:Mch Tryz.prog] (b k p:Nat) (T N:List Nat) (hN:N.length≤1000) (hk:k≤3) (hT:T.length+1=2 * k) (hPr:Spec Tryz.prog 57 [.i .u64 2147483648,.i .i64 ((2 * k:Nat):Int)] (cP (T++[p]))) (hNe:Spec Tryz.prog 59 [bU b,.i .u64 p] (cP N)):Spec Tryz.prog 19 [bU b,.i .i64 k] (cP (T++[p]++N)):=by
 have hC:=aPb (T++[p]) N (by simp; omega) (by omega)
 have hmin:(if (1073741824:Int)<(k:Int) then (1073741824:Int) else (k:Int))=k:=by rw [if_neg (by omega)]
 have hw:IntKind.i64.wrap (2 * (k:Int))=((2 * k:Nat):Int):=by rw [show 2 * (k:Int)=((2 * k:Nat):Int) from by omega]; exact bB
 have hwl:IntKind.i64.wrap (T.length:Int)=(T.length:Int):=bB
 have h0:(0:Int)<(T.length:Int)+1:=by omega
 refine bH (N:=26) Tryz.func19 ?_
 simp [-ζ,-ξ,↓KW,aT b,aA,aE]
 rw [hmin]
 simp [-ζ,-ξ,↓KW,hw]
 refine aH hPr ?_
 have hlen:∃ l,cP (T++[p])=.sl l∧l.length=T.length+1∧l[T.length]? = some [.i .u64 (p:Int)]:=⟨_,rfl,by simp,by simp⟩
 obtain ⟨l,hl,hl1,hl2⟩:=hlen
 have hl3:inj (cP (T++[p]))=.d (.sl l):=by rw [oK,hl]
 have hl4:aBx (T++[p]) N=.sl [[.sl l],[cP N]]:=by rw [← hl]; rfl
 rw [hl4] at hC
 have hl5:∀ h,l[T.length]'h=[.i .u64 (p:Int)]:=fun h=>by rw [List.getElem?_eq_getElem h] at hl2; injection hl2
 simp [-ζ,-ξ,↓KW,hl3,jY,hl1,h0,hwl,hl2,hl5,iG,dT,fU,aA,aE,aC,aF,aB]
 refine aH hNe ?_
 simp [-ζ,-ξ,↓KW,iG,dT,fU,oK,jY]
 refine aH hC ?_
 simp [-ζ,-ξ,↓KW,iG,dT,fU,oK,jY]
theorem aDk:P10.length=10:=rfl
theorem aRx {c acc:Nat} {l:List Nat} {p:Nat} (h:p∈gT c acc l):p∈l:=by
 obtain ⟨k,hk⟩:=jN c l acc
 rw [hk] at h
 exact List.mem_of_mem_take h
theorem bNm:∀ k:Nat,k≤3→2 * 2 ^ 96<cV (P10.drop (2 * k)):=by decide
theorem bGi [M:Mch Tryz.prog] (b k:Nat) (hb:b<2 ^ 96) (hk:k≤3):Spec Tryz.prog 59 [bU b,.i .u64 ((if 2 * k=0 then 2147483648 else P10[2 * k - 1]! : Nat):Int)] (cP (gT (2 * b) 1 (P10.drop (2 * k)))):=by
 have hbig:=bNm k hk
 have hD:=iM.drop (k:=2 * k) bAt (by rw [aDk]; omega)
 have hm:∀ p∈P10.drop (2 * k),p∈P10:=fun p hp=>List.mem_of_mem_drop hp
 have hln:(P10.drop (2 * k)).length≤10:=by rw [List.length_drop,aDk]; omega
 generalize (if 2 * k=0 then 2147483648 else P10[2 * k - 1]! : Nat)=n at *
 generalize P10.drop (2 * k)=L at *
 rcases Nat.eq_zero_or_pos b with h0 | h0
 ·subst h0
  have e:gT (2 * 0) 1 L=[]:=by
   cases L with
   | nil=>rfl
   | cons p L=>rfl
  rw [e]; exact bGj n
 ·have hN:=aRu (b:=b) (l:=L) (by omega)
  have hlow:=tE (2 * b) L 1
  have hmm:∀ p∈gT (2 * b) 1 L,p∈P10:=fun p hp=>hm p (aRx hp)
  obtain ⟨j,hj⟩:=jN (2 * b) L 1
  have hD2:iM n (gT (2 * b) 1 L):=by rw [hj]; exact iM.take hD
  generalize gT (2 * b) 1 L=N at *
  have hl6:N.length≤7:=by
   refine Decidable.byContradiction fun hc=>?_
   have h8:=hlow 7 (by omega)
   have hmin:∀ l:List Nat,(∀ p∈l,1073741824≤p)→1073741824 ^ l.length≤cV l:=by
    intro l
    induction l with
    | nil=>intro _; simp [cV]
    | cons x l ih =>
     intro h
     rw [List.length_cons,Nat.pow_succ,Nat.mul_comm]
     exact Nat.mul_le_mul (h x (List.mem_cons_self ..)) (ih fun p hp=>h p (List.mem_cons_of_mem _ hp))
   have hge:∀ p∈P10,1073741824≤p:=by decide
   have h9:=hmin (N.take 7) fun p hp=>hge p (hmm p (List.mem_of_mem_take hp))
   have hl7:(N.take 7).length=7:=by rw [List.length_take]; omega
   rw [hl7] at h9
   have h10:(1073741824:Nat) ^ 7=2 ^ 210:=by decide
   have h11:(2:Nat) ^ 96 * 2 ^ 114=2 ^ 210:=by decide
   have h12:(2:Nat) ^ 114=20769187434139310514121985316880384:=by decide
   have h13:(2:Nat) ^ 96=79228162514264337593543950336:=by decide
   omega
  cases N with
  | nil=>exact absurd hN.big (by simp [cV]; omega)
  | cons p0 ps=>exact aLb b n p0 ps (by omega) h0 hD2 (by simp at hl6; omega) hN fun p hp=>bOc (hmm p hp)
theorem aCu [M:Mch Tryz.prog] (b k:Nat) (hb:b<2 ^ 96) (hk:k≤3):Spec Tryz.prog 19 [bU b,.i .i64 k] (cP (wpL b k)):=by
 have hN:=bGi b k hb hk
 have hl:(gT (2 * b) 1 (P10.drop (2 * k))).length≤1000:=by
  obtain ⟨j,hj⟩:=jN (2 * b) (P10.drop (2 * k)) 1
  have:=List.length_take_le' j (P10.drop (2 * k))
  have h2:(P10.drop (2 * k)).length≤10:=by rw [List.length_drop,aDk]; omega
  rw [hj]; omega
 have hd:=bAt
 unfold wpL
 have hk4:k=0∨k=1∨k=2∨k=3:=by omega
 rcases hk4 with rfl | rfl | rfl | rfl
 ·exact bKq b _ hl hN
 ·exact aCp b 1 2147483629 [2147483647] _ hl (by omega) rfl (qJ 2147483648 2147483647 [2147483629] (iM.take (k:=2) hd) (by decide)) hN
 ·exact aCp b 2 2147483579 [2147483647,2147483629,2147483587] _ hl (by omega) rfl (qJ 2147483648 2147483647 [2147483629,2147483587,2147483579] (iM.take (k:=4) hd) (by decide)) hN
 ·exact aCp b 3 2147483549 [2147483647,2147483629,2147483587,2147483579,2147483563] _ hl (by omega) rfl (qJ 2147483648 2147483647 [2147483629,2147483587,2147483579,2147483563,2147483549] (iM.take (k:=6) hd) (by decide)) hN
def Pr3 (n:Nat):Prop:=2≤n∧n<2147483648∧∀ d,2≤d→d * d≤n→n % d≠0
set_option maxHeartbeats 4000000 in
set_option maxRecDepth 10000 in
theorem aXe [M:Mch Tryz.prog] (n:Nat) (b:Bool) (hb:b=true↔Pr3 n) (hn:n<18446744073709551616):Spec Tryz.prog 98 [.i .u64 n] (.b b):=by
 refine bH (N:=21) Tryz.func98 ?_
 simp [-ζ,-ξ,↓KW]
 by_cases h1:n<2
 ·have hbf:b=false:=by
   cases b with
   | false=>rfl
   | true=>have:=hb.1 rfl; unfold Pr3 at this; omega
  have hi:decide ((n:Int)<2)=true:=by simp; omega
  subst hbf
  simp [-ζ,-ξ,↓KW,hi,h1]
 by_cases h2:2147483648≤n
 ·have hbf:b=false:=by
   cases b with
   | false=>rfl
   | true=>have:=hb.1 rfl; unfold Pr3 at this; omega
  subst hbf
  have hi:¬ ((n:Int)<2):=by omega
  have hj:(2147483648:Int)≤(n:Int):=by omega
  simp [-ζ,-ξ,↓KW,hi,hj,h1,h2]
 have hi:¬ ((n:Int)<2):=by omega
 have hj:¬ (2147483648:Int)≤(n:Int):=by omega
 simp [-ζ,-ξ,↓KW,hi,hj,h1,h2]
 refine cO (τ:=Nat) (fun d=>2≤d∧d≤46341∧∀ e,2≤e→e<d→n % e≠0) (fun d=>StL [(0,.d (.i .u64 n)),(3,.d (.i .u64 d))] none []) (fun d=>46341 - d) 2 ⟨by omega,by omega,fun e h1 h2=>by omega⟩ ?_ ?_
 ·refine wkQ [] ?_ ?_ <;> simp [-ζ,upd,aS,Γ0]
 ·rintro d ⟨h3,h4,h5⟩
  have hw:IntKind.u64.wrap ((d:Int) * (d:Int))=((d * d:Nat):Int):=by
   rw [← Int.natCast_mul]
   have:=Nat.mul_le_mul h4 h4
   exact wrap_u64 (by omega) (by omega)
  have hd0:((d:Int) == 0)=false:=by simp; omega
  have hd1:¬ d=0:=by omega
  have htm:((n:Int).tmod (d:Int))=((n % d:Nat):Int):=by rw [Int.tmod_eq_emod_of_nonneg (by omega)]; rfl
  have hw1:IntKind.u64.wrap ((d:Int)+1)=((d+1:Nat):Int):=wrap_u64 (by omega) (by omega)
  by_cases hd:d * d≤n
  ·have hle:decide (((d * d:Nat):Int)≤(n:Int))=true:=by simp only [decide_eq_true_eq]; omega
   have hd2:d<46341:=by
    refine Decidable.byContradiction fun hc=>?_
    have:d=46341:=by omega
    subst this; omega
   by_cases hz:n % d=0
   ·have hbf:b=false:=by
     cases b with
     | false=>rfl
     | true=>exact absurd hz ((hb.1 rfl).2.2 d h3 hd)
    have hzi:(((n % d:Nat):Int) == 0)=true:=by rw [hz]; rfl
    subst hbf
    generalize d * d=dd at *
    generalize n % d=r at *
    simp [-ζ,-ξ,↓KW,hw,hd,hd0,hd1,htm,hzi]
   ·have hzi:(((n % d:Nat):Int) == 0)=false:=by simp; omega
    have hst:∀ e,2≤e→e<d+1→n % e≠0:=fun e g1 g2=>by
     by_cases g:e=d
     ·subst g; exact hz
     ·exact h5 e g1 (by omega)
    generalize d * d=dd at *
    generalize n % d=r at *
    simp [-ζ,-ξ,↓KW,hw,hd,hd0,hd1,htm,hzi,hw1]
    refine aN (d+1) ⟨by omega,by omega,hst⟩ (by show 46341 - (d+1)<46341 - d; omega) (wkQ [] ?_ ?_) <;> simp [-ζ,upd,aS,Γ0]
  ·have hle:decide (((d * d:Nat):Int)≤(n:Int))=false:=by simp only [decide_eq_false_iff_not]; omega
   have hbt:b=true:=hb.2 ⟨by omega,by omega,fun e g1 g2=>h5 e g1 (by
    refine Decidable.byContradiction fun hc=>hd ?_
    exact Nat.le_trans (Nat.mul_le_mul (by omega) (by omega)) g2)⟩
   subst hbt
   generalize d * d=dd at *
   simp [-ζ,-ξ,↓KW,hw,hd]
def aIv [M:Mch Tryz.prog]:Nat→List Nat→Prop
 | _,[]=>True
 | n,p::l=>0<p∧p<2147483648∧Spec Tryz.prog 60 [.i .u64 n] (.i .u64 p)∧aIv p l
theorem szR {z:Int} (h:z.natAbs<2 ^ 256):(aR z.natAbs).length≤137438953472∧(aR z.natAbs).length≤549755813888:=by
 have:=dB (n:=z.natAbs) (k:=8) (Nat.lt_of_lt_of_le h (by decide))
 omega
theorem bFo [M:Mch Tryz.prog] (x y:Int) (hx:x.natAbs<2 ^ 255) (hy:y.natAbs<2 ^ 255):Spec Tryz.prog 23 [encZ x,encZ y] (.i .i64 (x - y).sign):=by
 have hS:=aDi x y (szR (by omega)).2 (szR (by omega)).2
 have hG:=oE (x - y)
 generalize x - y=z at *
 refine bH (N:=9) Tryz.func23 ?_
 simp [-ζ,-ξ,↓KW,bT x,bT y,aA,aE,aC,aF,aB]
 refine aH hS ?_
 simp [-ζ,-ξ,↓KW,bT z,aA,aE,aC,aF,aB]
 refine aH hG ?_
 simp [-ζ,-ξ,↓KW]
theorem bFp [M:Mch Tryz.prog] {x y:Nat} (hx:x<2 ^ 255) (hy:y<2 ^ 255):Spec Tryz.prog 22 [bU x,bU y] (bU (x+y)):=by
 have:=vT (x:Int) (y:Int) (szR (by simp; omega)).2 (szR (by simp; omega)).2
 rwa [← Int.natCast_add,dE,dE,dE] at this
theorem bFm [M:Mch Tryz.prog] {x y:Nat} (hx:x<2 ^ 255) (hy:y<2 ^ 255):Spec Tryz.prog 24 [bU x,bU y] (bU (x * y)):=by
 have:=aNt (x:Int) (y:Int) (szR (by simp; omega)).1 (szR (by simp; omega)).1
 rwa [← Int.natCast_mul,dE,dE,dE] at this
theorem aKp [M:Mch Tryz.prog] {x:Nat} (hx:x<9223372036854775808):Spec Tryz.prog 11 [.i .i64 x] (bU x):=by
 have:=xE (x:Int) (by omega) (by omega)
 rwa [dE] at this
theorem bFn [M:Mch Tryz.prog] {x y:Nat} (hx:x<2 ^ 255) (hy:y<2 ^ 255):∃ r:Int,Spec Tryz.prog 23 [bU x,bU y] (.i .i64 r)∧(r≤0↔x≤y)∧(0<r↔y<x):=by
 have:=bFo (x:Int) (y:Int) (by simpa using hx) (by simpa using hy)
 rw [dE,dE] at this
 refine ⟨_,this,?_⟩
 rw [jK]
 constructor <;> split <;> (try split) <;> omega
def pvL (n:Nat) (L:List Nat) (k:Nat):Nat:=match k with | 0=>n | k+1=>L[k]!
theorem aIv.at [M:Mch Tryz.prog]:∀ {n:Nat} {L:List Nat} {k:Nat},aIv n L→k<L.length→(0<L[k]! ∧ L[k]! < 2147483648)∧Spec Tryz.prog 60 [.i .u64 (pvL n L k)] (.i .u64 (L[k]! : Nat))
 | n,[],k,h,hk=>by simp at hk
 | n,x::l,0,h,hk=>⟨⟨h.1,h.2.1⟩,h.2.2.1⟩
 | n,x::l,1,h,hk=>by
  have:=aIv.at (k:=0) h.2.2.2 (by simpa using hk)
  simpa [pvL] using this
 | n,x::l,k+2,h,hk=>by
  have:=aIv.at (k:=k+1) h.2.2.2 (by simp only [List.length_cons] at hk; omega)
  simpa [pvL] using this
def uH (k:Nat):Int:=(k:Int) - 1
theorem aKt (k:Nat):uH (k+1)=(k:Int):=by unfold uH; omega
theorem aKs:uH 0=-1:=rfl
def rmd (p x:Nat):Nat:=x % p
theorem aUx {m:List Nat} {k:Nat} (h:k<m.length):val (m.drop k)=m[k]! + 4294967296 * val (m.drop (k+1)):=by
 rw [List.drop_eq_getElem_cons h,getElem!_pos m k h]; rfl
theorem bIb (m:List Nat):∃ L,aG m=.sl L∧L.length=m.length∧∀ i,i<m.length→L[i]? = some [.i .u32 ((m[i]! : Nat):Int)]:=⟨_,rfl,by simp,fun i hi=>by rw [List.getElem?_map,List.getElem?_eq_getElem hi,getElem!_pos m i hi]; rfl⟩
set_option maxHeartbeats 4000000 in
set_option maxRecDepth 10000 in
theorem bFg [M:Mch Tryz.prog] (p:Nat) (neg:Bool) (m:List Nat) (hp:0<p) (hp1:p≤2147483648) (hm:Lim m) (hl:m.length≤9223372036854775807) :
  Spec Tryz.prog 53 [.i .u64 p,.ag [.b neg,aG m]] (.i .u64 (if neg=true∧0<val m % p then p - val m % p else val m % p:Nat)):=by
 obtain ⟨L,hL,hLl,hLg⟩:=bIb m
 have h1L:one (.d (.sl L))=true:=rfl
 refine bH (N:=36) Tryz.func53 ?_
 rw [hL]
 simp [-ζ,-ξ,↓KW]
 have hlw:IntKind.i64.wrap ((L.length:Int) - 1)=uH m.length:=by
  rw [hLl]; unfold uH; exact bB
 have hmod:∀ x:Nat,x % p<p:=fun x=>Nat.mod_lt x hp
 refine bN (τ:=Nat) (fun k=>k≤m.length) (fun k=>StL [(0,.d (.i .u64 p)),(3,.ptr 1 0),(5,.d (.i .u64 (rmd p (val (m.drop k)):Nat))),(6,.d (.i .i64 (uH k)))] none [.cells 31 [.d (.b neg),.d (.sl L)]]) (fun k=>k) m.length (Nat.le_refl _) ?_ ?_
 ·rw [List.drop_length]
  refine wkQ [1] ?_ ?_ <;> simp [-ζ,upd,aS,Γ0,val,hlw,rmd]
 ·intro k hk
  cases k with
  | zero =>
   rw [aKs,List.drop_zero]
   show AWP _ _ (StL [(0,_),(3,_),(5,.d (.i .u64 ((val m % p:Nat):Int))),(6,_)] none _) _
   have hr:=hmod (val m)
   generalize val m % p=r at *
   simp [-ζ,-ξ,↓KW]
   refine bG ?_
   cases neg with
   | false=>simp [-ζ,-ξ,↓KW]
   | true =>
    rcases Nat.eq_zero_or_pos r with h0 | h0
    ·subst h0
     simp [-ζ,-ξ,↓KW]
    ·have hi:(0:Int)<(r:Int):=by omega
     have hw:IntKind.u64.wrap ((p:Int) - (r:Int))=((p - r:Nat):Int):=by
      rw [show (p:Int) - (r:Int)=((p - r:Nat):Int) from by omega]; exact wrap_u64 (by omega) (by omega)
     simp [-ζ,-ξ,↓KW,hi,h0,hw]
  | succ k =>
   rw [aKt]
   show AWP _ _ (StL [(0,_),(3,_),(5,.d (.i .u64 ((val (m.drop (k+1)) % p:Nat):Int))),(6,_)] none _) _
   have hx:m[k]! < 4294967296:=by rw [getElem!_pos m k (by omega)]; exact hm _ (List.getElem_mem ..)
   have hLk:=hLg k (by omega)
   have hLk':∀ h,L[k]'h=[.i .u32 ((m[k]! : Nat):Int)]:=fun h=>by rw [List.getElem?_eq_getElem h] at hLk; injection hLk
   have hv:val (m.drop k) % p=(val (m.drop (k+1)) % p * 4294967296+m[k]!) % p:=by
    rw [aUx (by omega)]
    rw [Nat.add_comm m[k]!,Nat.mul_comm 4294967296]
    exact bPy (aYd (Nat.mod_mod _ _).symm rfl) rfl
   obtain ⟨r',hr'⟩:∃ r',val (m.drop k) % p=r':=⟨_,rfl⟩
   have hr:=hmod (val (m.drop (k+1)))
   rw [hr'] at hv
   generalize val (m.drop (k+1)) % p=r at *
   generalize m[k]! = x at *
   have hR:=vR (r * 4294967296+x) p hp
   rw [← hv] at hR
   have hk0:(0:Int)≤(k:Int):=by omega
   have hkl:k<L.length:=by omega
   have hwk:IntKind.i64.wrap (k:Int)=k:=bB
   have hwk1:IntKind.i64.wrap ((k:Int) - 1)=uH k:=by unfold uH; exact bB
   have hsh:dV .shl .u64 (r:Int) 32=some (.i .u64 ((r * 4294967296:Nat):Int)):=by
    simp only [dV,IntKind.bits]
    rw [if_neg (by decide)]
    congr 2
    rw [show (2:Int) ^ (min (32:Int).toNat 64)=4294967296 from by decide]
    rw [show (r:Int) * 4294967296=((r * 4294967296:Nat):Int) from by omega]
    exact wrap_u64 (by omega) (by omega)
   have hwx:IntKind.u64.wrap (x:Int)=x:=wrap_u64 (by omega) (by omega)
   have hor:dL .or false (.d (.i .u64 ((r * 4294967296:Nat):Int))) (.d (.i .u64 (x:Int)))=some (.i .u64 ((r * 4294967296+x:Nat):Int)):=by
    show some (D.i .u64 (bits .or .u64 ((r * 4294967296:Nat):Int) (x:Int)))=_
    rw [bits_or_u64_nat _ _ (by omega) (by omega)]
    congr 3
    have:=Nat.shiftLeft_add_eq_or_of_lt (i:=32) (b:=x) (by omega) r
    rw [Nat.shiftLeft_eq] at this
    exact this.symm
   generalize r * 4294967296=R at *
   generalize R+x=Rx at *
   simp [-ζ,-ξ,↓KW,hk0,hsh,hkl,hwk,hwk1,hLk,hLk',hwx,hor]
   refine aH hR ?_
   simp [-ζ,-ξ,↓KW,hwk1]
   refine aN k (by omega) (by omega) ?_
   show ∃ ρ,Wk _ (StL _ _ _) ρ
   rw [show rmd p (val (m.drop k))=r' from hr']
   refine wkQ [1] ?_ ?_ <;> simp [-ζ,upd,aS,Γ0]
theorem aNp [M:Mch Tryz.prog] (p:Nat) (z:Int) (hp:0<p) (hp1:p≤2147483648) (hz:Sz z):Spec Tryz.prog 53 [.i .u64 p,encZ z] (.i .u64 (z % (p:Int))):=by
 have h:=bFg p (decide (z<0)) (aR z.natAbs) hp hp1 (bW _) (Nat.le_trans hz (by decide))
 rw [← bT,cE] at h
 have e:(((if decide (z<0)=true∧0<z.natAbs % p then p - z.natAbs % p else z.natAbs % p:Nat)):Int)=z % (p:Int):=by
  simp only [decide_eq_true_eq]
  have hlt:=Nat.mod_lt z.natAbs hp
  by_cases hz:z<0
  ·have hzz:z=-(z.natAbs:Int):=by omega
   have hm:z % (p:Int)=(-(z.natAbs:Int)) % (p:Int):=by rw [← hzz]
   have hd:=Nat.div_add_mod z.natAbs p
   rw [hm]
   generalize z.natAbs=n at *
   rcases Nat.eq_zero_or_pos (n % p) with h0 | h0
   ·rw [if_neg (by omega),h0]
    have:(p:Int) ∣ -(n:Int):=Int.dvd_neg.2 (Int.natCast_dvd_natCast.2 (Nat.dvd_of_mod_eq_zero h0))
    rw [Int.emod_eq_zero_of_dvd this]; rfl
   ·rw [if_pos ⟨hz,h0⟩]
    have:-(n:Int)=((p - n % p:Nat):Int)+(p:Int) * (-(n / p:Nat) - 1:Int):=by
     have h2:(n:Int)=(p:Int) * ((n / p:Nat):Int)+((n % p:Nat):Int):=by rw [← Int.natCast_mul,← Int.natCast_add,hd]
     rw [Int.mul_sub,Int.mul_neg,Int.mul_one]
     omega
    rw [this,Int.add_mul_emod_self_left]
    rw [Int.emod_eq_of_lt (by omega) (by omega)]
  ·rw [if_neg (by omega)]
   have:z=(z.natAbs:Int):=by omega
   conv=>rhs; rw [this]
   rfl
 rwa [e] at h
theorem aNq [M:Mch Tryz.prog] (p n:Nat) (hp:0<p) (hp1:p≤2147483648) (hn:n<2 ^ 256):Spec Tryz.prog 53 [.i .u64 p,bU n] (.i .u64 (n % p:Nat)):=by
 have h:=aNp p (n:Int) hp hp1 (by
  have:=dB (n:=n) (k:=8) (Nat.lt_of_lt_of_le hn (by decide))
  unfold Sz; simp; omega)
 rw [dE] at h
 exact h
theorem bHb [M:Mch Tryz.prog] (p a:Nat) (hp:2≤p) (hp1:p≤2147483648) (ha:a<p) (h0:a≠0):Spec Tryz.prog 88 [.i .u64 p,.i .u64 a] (.tp [.i .u64 (a ^ (p - 2) % p:Nat),.i .i64 0]):=by
 have hP:=aNv p a (p - 2) (by omega) hp1 (by omega) (by omega)
 rw [aXi (by omega) (by omega)] at hP
 generalize a ^ (p - 2) % p=r at *
 have hw:IntKind.u64.wrap ((p:Int) - 2)=((p - 2:Nat):Int):=by
  rw [show (p:Int) - 2=((p - 2:Nat):Int) from by omega]; exact wrap_u64 (by omega) (by omega)
 have hi:((a:Int) == 0)=false:=by simp; omega
 generalize p - 2=e at *
 refine bH (N:=13) Tryz.func88 ?_
 simp [-ζ,-ξ,↓KW,hi,h0,hw]
 refine aH hP ?_
 simp [-ζ,-ξ,↓KW]
 rfl
theorem bEd [M:Mch Tryz.prog] (p a b:Nat) (hp:0<p) (hp1:p≤2147483648) (ha:a<p) (hb:b<p):Spec Tryz.prog 90 [.i .u64 p,.i .u64 a,.i .u64 b] (.i .u64 ((a+p - b) % p:Nat)):=by
 have hR:=vR (a+p - b) p hp
 generalize (a+p - b) % p=r at *
 have hw1:IntKind.u64.wrap ((a:Int)+(p:Int))=((a+p:Nat):Int):=by rw [← Int.natCast_add]; exact wrap_u64 (by omega) (by omega)
 have hw2:IntKind.u64.wrap (((a+p:Nat):Int) - (b:Int))=((a+p - b:Nat):Int):=by
  rw [show ((a+p:Nat):Int) - (b:Int)=((a+p - b:Nat):Int) from by omega]; exact wrap_u64 (by omega) (by omega)
 generalize a+p - b=x at *
 generalize a+p=y at *
 refine bH (N:=14) Tryz.func90 ?_
 simp [-ζ,-ξ,↓KW,hw1,hw2]
 refine aH hR ?_
 simp [-ζ,-ξ,↓KW]
theorem aSc [M:Mch Tryz.prog] (n:Nat) (hn:n<18446744073709551616):Spec Tryz.prog 147 [.i .u64 n] (aG [n % 4294967296,n / 4294967296]):=by
 have hw0:IntKind.u32.wrap (n:Int)=((n % 4294967296:Nat):Int):=by rw [IntKind.wrap_u32]; omega
 have hw1:IntKind.u32.wrap ((n / 4294967296:Nat):Int)=((n / 4294967296:Nat):Int):=by rw [IntKind.wrap_u32]; omega
 have hsh:=aAs (t:=n)
 generalize n / 4294967296=hi at *
 generalize n % 4294967296=lo at *
 refine bH (N:=9) Tryz.func147 ?_
 simp [-ζ,-ξ,↓KW,hw0,hw1,hsh]
 rfl
theorem mS [M:Mch Tryz.prog] {n:Nat} (hn:n<9223372036854775808):Spec Tryz.prog 82 [.i .i64 n] (bU n):=by
 have hL:=aSc n (by omega)
 have hV:=aHl false [n % 4294967296,n / 4294967296] (by simp)
 rw [fL (by intro x hx; simp at hx; rcases hx with rfl | rfl <;> omega)] at hV
 have hv:val [n % 4294967296,n / 4294967296]=n:=by simp [val]; omega
 rw [hv] at hV
 have hV':Spec Tryz.prog 95 [.b false,aG [n % 4294967296,n / 4294967296]] (bU n):=hV
 generalize [n % 4294967296,n / 4294967296]=l at *
 have hw:IntKind.u64.wrap (n:Int)=n:=wrap_u64 (by omega) (by omega)
 have hlt:¬ (n:Int)<0:=by omega
 refine bH (N:=15) Tryz.func82 ?_
 simp [-ζ,-ξ,↓KW,hw,hlt]
 refine aH hL ?_
 simp [-ζ,-ξ,↓KW,aA,aE,aC,aF,aB]
 refine aH hV' ?_
 simp [-ζ,-ξ,↓KW,aT n,aA,aE,aC,aF,aB]
theorem bKa {n:Nat} (hn:n<4294967296):dL .and false (.d (.i .u64 (n:Int))) (.d (.i .u64 4294967295))=some (.i .u64 (n:Int)):=by
 show some (D.i .u64 (bits .and .u64 (n:Int) 4294967295))=_
 have:=bits_and_u64_nat n 4294967295 (by omega) (by decide)
 rw [show (4294967295:Int)=((4294967295:Nat):Int) from rfl,this]
 congr 3
 exact (Nat.and_two_pow_sub_one_eq_mod n 32).trans (Nat.mod_eq_of_lt hn)
theorem bJm [M:Mch Tryz.prog] {n:Nat} (hn:n<4294967296):Spec Tryz.prog 91 [.i .u64 n] (bU n):=by
 have h0:=mS (n:=0) (by omega)
 have h2:=mS (n:=4294967296) (by omega)
 have hM:=aLc (x:=0) (y:=4294967296) (by decide) (by decide)
 have hO:=mS (n:=n) (by omega)
 have hA:=aTn (x:=0) (y:=n) (by decide) (by omega)
 rw [Nat.zero_mul] at hM
 rw [Nat.zero_add] at hA
 have hsh:=aAs (t:=n)
 rw [Nat.div_eq_of_lt hn] at hsh
 have ha:=bKa hn
 have hw:IntKind.i64.wrap (n:Int)=n:=bB
 have hw0:IntKind.i64.wrap 0=0:=by decide
 refine bH (N:=16) Tryz.func91 ?_
 simp [-ζ,-ξ,↓KW,hsh,hw0]
 refine aH h0 ?_
 simp [-ζ,-ξ,↓KW,aT 0,aA,aE,aC,aF,aB]
 refine aH h2 ?_
 simp [-ζ,-ξ,↓KW,aT 4294967296,aA,aE,aC,aF,aB]
 refine aH hM ?_
 simp [-ζ,-ξ,↓KW,aT 0,aA,aE,aC,aF,aB,ha,hw]
 refine aH hO ?_
 simp [-ζ,-ξ,↓KW,aT n,aA,aE,aC,aF,aB]
 refine aH hA ?_
 simp [-ζ,-ξ,↓KW,aT n,aA,aE,aC,aF,aB]
theorem bOd [M:Mch Tryz.prog] {n:Nat} (hn:n<4294967296):Spec Tryz.prog 84 [.i .u64 n] (bU n):=by
 have h0:=mS (n:=0) (by omega)
 have h2:=mS (n:=4294967296) (by omega)
 have hM:=aLc (x:=0) (y:=4294967296) (by decide) (by decide)
 have hO:=mS (n:=n) (by omega)
 have hA:=aTn (x:=0) (y:=n) (by decide) (by omega)
 rw [Nat.zero_mul] at hM
 rw [Nat.zero_add] at hA
 have hsh:=aAs (t:=n)
 rw [Nat.div_eq_of_lt hn] at hsh
 have ha:=bKa hn
 have hw:IntKind.i64.wrap (n:Int)=n:=bB
 have hw0:IntKind.i64.wrap 0=0:=by decide
 refine bH (N:=16) Tryz.func84 ?_
 simp [-ζ,-ξ,↓KW,hsh,hw0]
 refine aH h0 ?_
 simp [-ζ,-ξ,↓KW,aT 0,aA,aE,aC,aF,aB]
 refine aH h2 ?_
 simp [-ζ,-ξ,↓KW,aT 4294967296,aA,aE,aC,aF,aB]
 refine aH hM ?_
 simp [-ζ,-ξ,↓KW,aT 0,aA,aE,aC,aF,aB,ha,hw]
 refine aH hO ?_
 simp [-ζ,-ξ,↓KW,aT n,aA,aE,aC,aF,aB]
 refine aH hA ?_
 simp [-ζ,-ξ,↓KW,aT n,aA,aE,aC,aF,aB]
theorem bHc [M:Mch Tryz.prog] {x y:Nat} (hx:x<2 ^ 255) (hy:y<2 ^ 255) (h0:0<y):Spec Tryz.prog 92 [bU x,bU y] (encZ ((x:Int) - y)):=by
 have hA:=aDz (x:Int) (-(y:Int)) (szN (by omega)) (mG (by simp; omega))
 rw [← Int.sub_eq_add_neg,dE] at hA
 have hny:encZ (-(y:Int))=.ag [.b true,aG (aR y)]:=by
  rw [bT,show decide (-(y:Int)<0)=true from by simp; omega]
  simp
 rw [hny] at hA
 generalize (x:Int) - (y:Int)=z at *
 refine bH (N:=13) Tryz.func92 ?_
 simp [-ζ,-ξ,↓KW,aT x,aT y,aA,aE,aC,aF,aB]
 refine aH hA ?_
 simp [-ζ,-ξ,↓KW,bT z,aA,aE,aC,aF,aB]
def eJ (T:List Int):List (Int × AV):=T.map fun n=>(n,.d (.b true))
def uI (l:List Nat):List Int:=l.map fun (p:Nat)=>(p:Int)
theorem yK (l:List Nat):∃ L,cP l=.sl L∧L.length=l.length∧∀ i,i<l.length→L[i]? = some [.i .u64 ((l[i]! : Nat):Int)]:=⟨_,rfl,by simp,fun i hi=>by rw [List.getElem?_map,List.getElem?_eq_getElem hi,getElem!_pos l i hi]; rfl⟩
theorem qL (n:Int):∀ T:List Int,(eK n (eJ T)=none↔n ∉ T)∧∀ j,eK n (eJ T)=some j→(eJ T)[j]? = some (n,.d (.b true))
 | []=>⟨by simp [eJ,eK],by simp [eJ,eK]⟩
 | x::T=>by
  obtain ⟨h1,h2⟩:=qL n T
  show (eK n ((x,_)::eJ T)=none↔_)∧∀ j,eK n ((x,_)::eJ T)=some j→((x,AV.d (.b true))::eJ T)[j]? = _
  unfold eK
  by_cases h:x=n
  ·subst h; simp
  ·have hn:¬ n=x:=fun e=>h e.symm
   simp only [h,if_false,Option.map_eq_none_iff,List.mem_cons,not_or,hn,not_false_eq_true,true_and]
   refine ⟨h1,fun j hj=>?_⟩
   obtain ⟨i,hi,rfl⟩:=Option.map_eq_some_iff.1 hj
   simpa using h2 i hi
theorem aBp (P:Program) (t kt vt:TypeId) (k:IntKind) (T:List Int) (n:Int) (ht:tmp P t=some (kt,vt)) (hk:eQ P kt=some k) (hz:tz P vt=some (.bool false)):rM P t k (eJ T) (.d (.i k n)) false=some (.d (.b (decide (n∈T)))):=by
 obtain ⟨h1,h2⟩:=qL n T
 unfold rM
 simp only [ht,Option.bind_some,hk,and_self,if_true,aOk]
 cases hm:eK n (eJ T) with
 | none =>
  have:=h1.1 hm
  simp [hz,this]; rfl
 | some j =>
  have hj:=h2 j hm
  have:n∈T:=Decidable.byContradiction fun h=>by rw [h1.2 h] at hm; cases hm
  simp [hj,this]
theorem tF (n:Int) (T:List Int) (h:n ∉ T):aHd (eJ T) n (.d (.b true))=eJ (T++[n]):=by
 unfold aHd
 rw [(qL n T).1.2 h]
 simp [eJ]
theorem pH {H H':Hp} {ρ:Nat→Nat} {k:IntKind} (T:List Int):sP H H' ρ (.map k (eJ T)) (.map k (eJ T))↔True:=⟨fun _=>trivial,fun _=>aVf fun x hx=>by
 obtain ⟨n,_,rfl⟩:=List.mem_map.1 hx
 simp⟩
theorem aCx {H H':Hp} {ρ:Nat→Nat} {k:IntKind}:sP H H' ρ (.map k []) (.map k [])↔True:=⟨fun _=>trivial,fun _=>⟨rfl,rfl,fun _ _ _ h=>by simp at h⟩⟩
theorem mP {l:List Nat} {p:Nat}:((p:Int)∈uI l)↔p∈l:=by
 unfold uI
 rw [List.mem_map]
 constructor
 ·rintro ⟨q,hq,e⟩
  have:q=p:=by omega
  subst this; exact hq
 ·exact fun h=>⟨p,h,rfl⟩
theorem mN {α:Type} {T:List α} {p:α} (h:T.Nodup) (hp:p ∉ T):(T++[p]).Nodup:=by
 rw [List.nodup_append]
 exact ⟨h,by simp,fun a ha b hb e=>by simp at hb; subst hb; exact hp (e ▸ ha)⟩
theorem aYg:tmp Tryz.prog 148=some (51,4):=by kernel_rfl
theorem aYh:tmp Tryz.prog 125=some (3,4):=by kernel_rfl
theorem aLi (T:List Int) (n:Int):rM Tryz.prog 148 .u64 (eJ T) (.d (.i .u64 n)) false=some (.d (.b (decide (n∈T)))):=aBp _ _ _ _ _ _ _ aYg (by kernel_rfl) (by kernel_rfl)
theorem bMo (T:List Int) (n:Int):rM Tryz.prog 125 .i64 (eJ T) (.d (.i .i64 n)) false=some (.d (.b (decide (n∈T)))):=aBp _ _ _ _ _ _ _ aYh (by kernel_rfl) (by kernel_rfl)
theorem vX {P:Program} (H:Hp) (t:TypeId) (id:Nat) (x:AV) (v:Option AV):oH P H t (.mp id) x v=match H id with
  | some (.map k es)=>(tmp P t).bind fun p=>match x with
   | .d (.i k' n)=>if k'=k∧eQ P p.1=some k then some (id,.map k (match v with | some v=>aHd es n v | none=>aRy es n)) else none
   | _=>none
  | _=>none:=rfl
theorem fN {P:Program} {H:Hp} {t:TypeId} {id:Nat} {x:AV} {ok:Bool}:aBq P H t (.mp id) x ok=match H id with | some (.map k es)=>rM P t k es x ok | _=>none:=rfl
set_option maxHeartbeats 4000000 in
set_option maxRecDepth 10000 in
theorem aMa [M:Mch Tryz.prog] (l:List Nat) (hl:l.length≤1000000) (hP:∀ p∈l,Spec Tryz.prog 52 [.i .u64 (p:Nat)] (.b true)):Spec Tryz.prog 70 [cP l] (.b (decide l.Nodup)):=by
 obtain ⟨L,hL,hLl,hLg⟩:=yK l
 rw [hL]
 refine bH (N:=24) Tryz.func70 ?_
 simp [-ζ,-ξ,↓KW]
 refine bN (τ:=Nat) (fun i=>i≤l.length∧(l.take i).Nodup) (fun i=>StL [(3,.mp 1),(7,.d (.sl L)),(8,.d (.i .i64 L.length)),(9,.d (.i .i64 i))] none [.map .u64 (eJ (uI (l.take i)))]) (fun i=>l.length - i) 0 ⟨Nat.zero_le _,by simp⟩ ?_ ?_
 ·rw [List.take_zero]
  refine wkQ [1] ?_ ?_ <;> simp [-ζ,upd,aS,Γ0,show eJ (uI [])=[] from rfl,aCx]
 ·rintro i ⟨hi,hn⟩
  by_cases hlt:i<l.length
  ·have hLi:=hLg i hlt
   have hLi':∀ h,L[i]'h=[.i .u64 ((l[i]! : Nat):Int)]:=fun h=>by rw [List.getElem?_eq_getElem h] at hLi; injection hLi
   have hiL:i<L.length:=by omega
   generalize hT:l.take i=T at *
   generalize hp:l[i]! = p at *
   have hPp:Spec Tryz.prog 52 [.i .u64 (p:Nat)] (.b true):=hP p (by rw [← hp,getElem!_pos l i hlt]; exact List.getElem_mem ..)
   have hge:l[i]? = some p:=by rw [← hp,getElem!_pos l i hlt]; exact List.getElem?_eq_getElem hlt
   have hT1:l.take (i+1)=T++[p]:=by rw [List.take_add_one,hge,hT]; rfl
   by_cases hm:p∈T
   ·have hdl:decide l.Nodup=false:=by
     simp only [decide_eq_false_iff_not]
     intro hnd
     have:(l.take (i+1)).Nodup:=List.Sublist.nodup (List.take_sublist ..) hnd
     rw [hT1,List.nodup_append] at this
     exact this.2.2 p hm p (by simp) rfl
    rw [hdl]
    have hlk:=aLi (uI T) p
    rw [decide_eq_true (mP.2 hm)] at hlk
    simp [-ζ,-ξ,↓KW,hiL,hLi,hLi',fN,hlk]
    exact bG (by simp [-ζ,-ξ,↓KW])
   ·have hlk:=aLi (uI T) p
    rw [decide_eq_false (fun h=>hm (mP.1 h))] at hlk
    have hmp:=tF (p:Int) (uI T) (fun h=>hm (mP.1 h))
    have hu:uI T++[(p:Int)]=uI (T++[p]):=by simp [uI]
    rw [hu] at hmp
    have hw1:IntKind.i64.wrap ((i:Int)+1)=((i+1:Nat):Int):=bB
    simp [-ζ,-ξ,↓KW,hiL,hLi,hLi',fN,hlk]
    refine aH hPp ?_
    simp [-ζ,-ξ,↓KW,vX,hmp,hw1]
    refine aN (i+1) ⟨by omega,by rw [hT1]; exact mN hn hm⟩ (by show l.length - (i+1)<l.length - i; omega) ?_
    show ∃ ρ,Wk _ (StL _ _ _) ρ
    rw [hT1]
    refine wkQ [1] ?_ ?_ <;> simp [-ζ,upd,aS,Γ0,pH]
  ·have hiL:¬ i<L.length:=by omega
   have hdl:decide l.Nodup=true:=by
    rw [List.take_of_length_le (by omega)] at hn
    simpa using hn
   rw [hdl]
   simp [-ζ,-ξ,↓KW,hiL]
   exact bG (by simp [-ζ,-ξ,↓KW])
def nT (l:List (Nat × Nat)):D:=.sl (l.map fun x=>[.i .u64 (x.1:Int),.i .u64 (x.2:Int)])
theorem aEh (l:List (Nat × Nat)):∃ L,nT l=.sl L∧L.length=l.length∧∀ (i:Nat) (x:Nat × Nat),l[i]? = some x→L[i]? = some [D.i .u64 (x.1:Int),D.i .u64 (x.2:Int)]:=⟨_,rfl,by simp,fun i x hx=>by rw [List.getElem?_map,hx]; rfl⟩
def fW (l:List (Nat × Nat × Nat)):D:=.sl (l.map fun x=>[.i .i64 (x.1:Int),.i .u64 (x.2.1:Int),.i .u64 (x.2.2:Int)])
theorem dN (l:List (Nat × Nat × Nat)):∃ L,fW l=.sl L∧L.length=l.length∧∀ (i:Nat) (x:Nat × Nat × Nat),l[i]? = some x→L[i]? = some [D.i .i64 (x.1:Int),D.i .u64 (x.2.1:Int),D.i .u64 (x.2.2:Int)]:=⟨_,rfl,by simp,fun i x hx=>by rw [List.getElem?_map,hx]; rfl⟩
theorem cZ {L:List (List D)} {i:Nat} {x:List D} (h:L[i]? = some x):∀ h',L[i]'h'=x:=fun h'=>by rw [List.getElem?_eq_getElem h'] at h; injection h
def prR (l:List (Nat × Nat)):List Nat:=l.map (·.1)
def okR (l:List (Nat × Nat)):Prop:=(prR l).Nodup∧∀ x∈l,x.2<x.1
theorem xH (l:List (Nat × Nat)) (i:Nat):prR (l.take i)=(prR l).take i:=by simp [prR]
set_option maxHeartbeats 4000000 in
set_option maxRecDepth 10000 in
theorem bAv [M:Mch Tryz.prog] (l:List (Nat × Nat)) (b:Bool) (hb:b=true↔okR l) (hl:l.length≤1000000) (hP:∀ x∈l,Spec Tryz.prog 52 [.i .u64 (x.1:Nat)] (.b true)):Spec Tryz.prog 86 [nT l] (.b b):=by
 obtain ⟨L,hL,hLl,hLg⟩:=aEh l
 rw [hL]
 refine bH (N:=34) Tryz.func86 ?_
 simp [-ζ,-ξ,↓KW]
 refine bN (τ:=Nat) (fun i=>i≤l.length∧okR (l.take i)) (fun i=>StL [(3,.mp 1),(7,.d (.sl L)),(8,.d (.i .i64 L.length)),(9,.d (.i .i64 i))] none [.map .u64 (eJ (uI (prR (l.take i))))]) (fun i=>l.length - i) 0 ⟨Nat.zero_le _,by simp [okR,prR]⟩ ?_ ?_
 ·rw [List.take_zero]
  refine wkQ [1] ?_ ?_ <;> simp [-ζ,upd,aS,Γ0,show eJ (uI (prR []))=[] from rfl,aCx]
 ·rintro i ⟨hi,hn⟩
  by_cases hlt:i<l.length
  ·obtain ⟨⟨p,v⟩,hge⟩:∃ x,l[i]? = some x:=⟨_,List.getElem?_eq_getElem hlt⟩
   have hmem:=List.mem_of_getElem? hge
   have hLi:=hLg i _ hge
   simp only at hLi
   have hLi':=cZ hLi
   have hiL:i<L.length:=by omega
   have hT1:l.take (i+1)=l.take i++[(p,v)]:=by rw [List.take_add_one,hge]; rfl
   have hall:okR l→okR (l.take (i+1)):=fun h=>⟨by rw [xH]; exact List.Sublist.nodup (List.take_sublist ..) h.1,fun x hx=>h.2 x (List.mem_of_mem_take hx)⟩
   have hPp:Spec Tryz.prog 52 [.i .u64 (p:Nat)] (.b true):=hP _ hmem
   have hw1:IntKind.i64.wrap ((i:Int)+1)=((i+1:Nat):Int):=bB
   have hpT:prR (l.take (i+1))=prR (l.take i)++[p]:=by rw [hT1]; simp [prR]
   generalize hTT:prR (l.take i)=T at *
   have hlk:=aLi (uI T) p
   by_cases hm:p∈T
   ·have hbf:b=false:=by
     cases b with
     | false=>rfl
     | true =>
      have h1:=(hall (hb.1 rfl)).1
      rw [hpT,List.nodup_append] at h1
      exact absurd rfl (h1.2.2 p hm p (by simp))
    subst hbf
    rw [decide_eq_true (mP.2 hm)] at hlk
    simp [-ζ,-ξ,↓KW,hiL,hLi,hLi',fN,hlk]
    exact bG (by simp [-ζ,-ξ,↓KW])
   ·rw [decide_eq_false (fun h=>hm (mP.1 h))] at hlk
    have hmp:=tF (p:Int) (uI T) (fun h=>hm (mP.1 h))
    have hu:uI T++[(p:Int)]=uI (T++[p]):=by simp [uI]
    rw [hu] at hmp
    by_cases hv:v<p
    ·have hpv:¬ (p:Int)≤(v:Int):=by omega
     have hpv':¬ p≤v:=by omega
     have hokn:okR (l.take (i+1)):=⟨by rw [hpT]; exact mN (hTT ▸ hn.1) hm,fun x hx=>by
      rw [hT1] at hx
      rcases List.mem_append.1 hx with h | h
      ·exact hn.2 x h
      ·simp only [List.mem_singleton] at h; subst h; exact hv⟩
     simp [-ζ,-ξ,↓KW,hiL,hLi,hLi',fN,hlk]
     refine aH hPp ?_
     simp [-ζ,-ξ,↓KW,hpv,hpv',vX,hmp,hw1]
     refine aN (i+1) ⟨by omega,hokn⟩ (by show l.length - (i+1)<l.length - i; omega) ?_
     show ∃ ρ,Wk _ (StL _ _ _) ρ
     rw [hpT]
     refine wkQ [1] ?_ ?_ <;> simp [-ζ,upd,aS,Γ0,pH]
    ·have hpv:(p:Int)≤(v:Int):=by omega
     have hpv':p≤v:=by omega
     have hbf:b=false:=by
      cases b with
      | false=>rfl
      | true=>exact absurd ((hb.1 rfl).2 _ hmem) (by simpa using hpv')
     subst hbf
     simp [-ζ,-ξ,↓KW,hiL,hLi,hLi',fN,hlk]
     refine aH hPp ?_
     simp [-ζ,-ξ,↓KW,hpv,hpv']
     exact bG (by simp [-ζ,-ξ,↓KW])
  ·have hiL:¬ i<L.length:=by omega
   have hbt:b=true:=by
    rw [List.take_of_length_le (by omega)] at hn
    exact hb.2 hn
   subst hbt
   simp [-ζ,-ξ,↓KW,hiL]
   exact bG (by simp [-ζ,-ξ,↓KW])
def wkL (l:List (Nat × Nat × Nat)):List Nat:=l.map (·.1)
def pmL (l:List (Nat × Nat × Nat)):List Nat:=l.map (·.2.1)
def nS (l:List (Nat × Nat × Nat)):Prop:=(wkL l).Nodup∧∀ x∈l,x.2.2<x.2.1
theorem wI (l:List (Nat × Nat × Nat)) (i:Nat):wkL (l.take i)=(wkL l).take i:=by simp [wkL]
theorem wW (c:List Nat) (k:IntKind) (W:List Int):fZ c (.map k (eJ W))=.map k (eJ W):=by
 simp [fZ,eJ]
 exact fun _ _=>rfl
theorem bAa {H:Hp} {id:Nat} {e:TypeId} {T:List Nat} {n:Nat} (hn:T.length=n) (hH:H id=some (.cells e ((dU T).map AV.d))):frz H 8 (.own id 0 n 1)=some (cP T):=by
 have e1:=kW hn
 have e2:=oP hn
 have e3:=gM T
 rw [hn] at e3
 simp [-ζ,-ξ,yC,hH,e1,e2,e3,cP]
theorem aHs {H:Hp} {x:AV} {d:D} (h:frz H 8 x=some d):cL H [x]=some [d]:=by simp [cL,h]
def ppS (L:List (List D)) (n i:Nat) (W:List Int):List Nat→St
 | []=>StL [(3,.mp 1),(4,.nil),(8,.d (.sl L)),(9,.d (.i .i64 n)),(10,.d (.i .i64 i))] none [.map .i64 (eJ W)]
 | x::T=>StL [(3,.mp 1),(4,.own 2 0 (T.length+1) 1),(8,.d (.sl L)),(9,.d (.i .i64 n)),(10,.d (.i .i64 i))] none [.map .i64 (eJ W),.cells 51 ((dU (x::T)).map .d)]
set_option maxHeartbeats 4000000 in
set_option maxRecDepth 10000 in
theorem qG [M:Mch Tryz.prog] (l:List (Nat × Nat × Nat)) (b:Bool) (hb:b=true↔nS l∧(pmL l).Nodup) (hl:l.length≤1000000) (hP:∀ x∈l,Spec Tryz.prog 52 [.i .u64 (x.2.1:Nat)] (.b true)):Spec Tryz.prog 42 [fW l] (.b b):=by
 obtain ⟨L,hL,hLl,hLg⟩:=dN l
 have hD:=aMa (pmL l) (by simp [pmL]; omega) (fun p hp=>by
  obtain ⟨x,hx,rfl⟩:=List.mem_map.1 hp
  exact hP x hx)
 rw [hL]
 refine bH (N:=39) Tryz.func42 ?_
 simp [-ζ,-ξ,↓KW]
 refine bN (τ:=Nat) (fun i=>i≤l.length∧nS (l.take i)) (fun i=>ppS L L.length i (uI (wkL (l.take i))) (pmL (l.take i))) (fun i=>l.length - i) 0 ⟨Nat.zero_le _,by simp [nS,wkL]⟩ ?_ ?_
 ·rw [List.take_zero]
  show ∃ ρ,Wk _ (ppS _ _ _ [] []) ρ
  unfold ppS
  refine wkQ [1] ?_ ?_ <;> simp [-ζ,upd,aS,Γ0,show eJ []=[] from rfl,aCx]
 ·rintro i ⟨hi,hn⟩
  by_cases hlt:i<l.length
  ·obtain ⟨⟨w,p,v⟩,hge⟩:∃ x,l[i]? = some x:=⟨_,List.getElem?_eq_getElem hlt⟩
   have hmem:=List.mem_of_getElem? hge
   have hLi:=hLg i _ hge
   simp only at hLi
   have hLi':=cZ hLi
   have hiL:i<L.length:=by omega
   have hT1:l.take (i+1)=l.take i++[(w,p,v)]:=by rw [List.take_add_one,hge]; rfl
   have hall:nS l→nS (l.take (i+1)):=fun h=>⟨by rw [wI]; exact List.Sublist.nodup (List.take_sublist ..) h.1,fun x hx=>h.2 x (List.mem_of_mem_take hx)⟩
   have hw1:IntKind.i64.wrap ((i:Int)+1)=((i+1:Nat):Int):=bB
   have hwT:wkL (l.take (i+1))=wkL (l.take i)++[w]:=by rw [hT1]; simp [wkL]
   have hpT:pmL (l.take (i+1))=pmL (l.take i)++[p]:=by rw [hT1]; simp [pmL]
   have hPl:(pmL (l.take i)).length=i:=by simp [pmL]; omega
   generalize hTT:wkL (l.take i)=T at *
   generalize pmL (l.take i)=PT at *
   have hlk:=bMo (uI T) w
   by_cases hm:w∈T
   ·have hbf:b=false:=by
     cases b with
     | false=>rfl
     | true =>
      have h1:=(hall (hb.1 rfl).1).1
      rw [hwT,List.nodup_append] at h1
      exact absurd rfl (h1.2.2 w hm w (by simp))
    subst hbf
    rw [decide_eq_true (mP.2 hm)] at hlk
    cases PT with
    | nil =>
     simp [-ζ,-ξ,↓KW,ppS,hiL,hLi,hLi',fN,hlk]
     exact bG (by simp [-ζ,-ξ,↓KW])
    | cons x PT =>
     simp [-ζ,-ξ,↓KW,ppS,hiL,hLi,hLi',fN,hlk]
     exact bG (by simp [-ζ,-ξ,↓KW])
   ·rw [decide_eq_false (fun h=>hm (mP.1 h))] at hlk
    have hmp:=tF (w:Int) (uI T) (fun h=>hm (mP.1 h))
    have hu:uI T++[(w:Int)]=uI (T++[w]):=by simp [uI]
    rw [hu] at hmp
    by_cases hv:v<p
    ·have hpv:¬ (p:Int)≤(v:Int):=by omega
     have hpv':¬ p≤v:=by omega
     have hokn:nS (l.take (i+1)):=⟨by rw [hwT]; exact mN (hTT ▸ hn.1) hm,fun x hx=>by
      rw [hT1] at hx
      rcases List.mem_append.1 hx with h | h
      ·exact hn.2 x h
      ·simp only [List.mem_singleton] at h; subst h; exact hv⟩
     cases PT with
     | nil =>
      have hm1:(1:Nat)≤maxLen:=bV (by decide)
      simp [-ζ,-ξ,↓KW,ppS,hiL,hLi,hLi',fN,hlk,hpv,hpv',vX,hmp,hw1,hm1]
      refine aN (i+1) ⟨by omega,hokn⟩ (by show l.length - (i+1)<l.length - i; omega) ?_
      show ∃ ρ,Wk _ (ppS _ _ _ _ _) ρ
      rw [hwT,hpT]
      show ∃ ρ,Wk _ (ppS _ _ _ _ (p::[])) ρ
      unfold ppS
      refine wkQ [1,4] ?_ ?_ <;> simp [-ζ,upd,aS,Γ0,List.contains_cons,bQ,iW,lJ,pH,wW]
     | cons x PT =>
      have hbb:=dY (n:=PT.length+1) (by simp at hPl; omega)
      simp [-ζ,-ξ,↓KW,ppS,hiL,hLi,hLi',fN,hlk,hpv,hpv',vX,hmp,hw1,gM,hbb,bV]
      refine aN (i+1) ⟨by omega,hokn⟩ (by show l.length - (i+1)<l.length - i; omega) ?_
      show ∃ ρ,Wk _ (ppS _ _ _ _ _) ρ
      rw [hwT,hpT]
      show ∃ ρ,Wk _ (ppS _ _ _ _ (x::(PT++[p]))) ρ
      unfold ppS
      refine wkQ [1,5] ?_ ?_ <;> simp [-ζ,upd,aS,Γ0,List.contains_cons,bQ,iW,lJ,pH,wW]
    ·have hpv:(p:Int)≤(v:Int):=by omega
     have hpv':p≤v:=by omega
     have hbf:b=false:=by
      cases b with
      | false=>rfl
      | true=>exact absurd ((hb.1 rfl).1.2 _ hmem) (by simpa using hpv')
     subst hbf
     cases PT with
     | nil =>
      simp [-ζ,-ξ,↓KW,ppS,hiL,hLi,hLi',fN,hlk,hpv,hpv']
      exact bG (by simp [-ζ,-ξ,↓KW])
     | cons x PT =>
      simp [-ζ,-ξ,↓KW,ppS,hiL,hLi,hLi',fN,hlk,hpv,hpv']
      exact bG (by simp [-ζ,-ξ,↓KW])
  ·have hiL:¬ i<L.length:=by omega
   rw [List.take_of_length_le (show l.length≤i by omega)] at hn ⊢
   have hbe:b=decide (pmL l).Nodup:=by
    cases b with
    | false=>symm; rw [decide_eq_false_iff_not]; exact fun h=>by have:=hb.2 ⟨hn,h⟩; cases this
    | true=>symm; rw [decide_eq_true_eq]; exact (hb.1 rfl).2
   rw [hbe]
   generalize decide (pmL l).Nodup=bb at *
   generalize hPT:pmL l=PT at *
   cases PT with
   | nil =>
    simp [-ζ,-ξ,↓KW,ppS,hiL]
    refine bG ?_
    simp [-ζ,-ξ,↓KW]
    refine aH hD ?_
    simp [-ζ,-ξ,↓KW]
   | cons x PT =>
    simp [-ζ,-ξ,↓KW,ppS,hiL]
    refine bG ?_
    simp [-ζ,-ξ,↓KW]
    refine bE (ds:=[cP (x::PT)]) ?_ hD ?_
    ·exact aHs (bAa (T:=x::PT) rfl rfl)
    simp [-ζ,-ξ,↓KW]
theorem bGg {P:Program} (f:FuncId) (x:Operand) (Γ:Nat→AV) (n:Nat):nev P (.makeFunc (.func f) #[x] #[]) Γ n=cU (match oev Γ x with | .d d=>some (.d (.fm f d)) | _=>none):=by
 show (match [oev Γ x] with | [.d d]=>cU (some (AV.d (.fm f d))) | _=>none)=_
 cases oev Γ x <;> rfl
theorem yR (f:FuncId) (d:D):dK (.d (.fm f d))=none:=rfl
theorem yS {P:Program} [M:Mch P] (x:AV) (avs:List AV) (H:Hp) (k:List AV→D→Prop) (d:Dm k):aPk P none x avs H k d=aPm P x avs H k .mk:=rfl
theorem uU {P:Program} [M:Mch P] {f:FuncId} {x:D} {avs:List AV} {H:Hp} {k:List AV→D→Prop} {d:Dm k} {ds:List D} {r:D} (h1:cL H (.d x::avs)=some ds) (h2:Spec P f ds r) (h3:k (.d x::avs) r):aPm P (.d (.fm f x)) avs H k d:=⟨ds,r,h1,h2,h3⟩
theorem tB:∀ {l:List Nat},(∀ q∈l,0<q)→0<bI l
 | [],_=>by simp [bI]
 | p::l,h=>Nat.mul_pos (h p (List.mem_cons_self ..)) (tB fun q hq=>h q (List.mem_cons_of_mem _ hq))
theorem lG:∀ {l:List Nat},(∀ q∈l,0<q)→∀ i,bI (l.take i)≤bI l
 | [],_,i=>by simp
 | p::l,h,0=>by
  rw [List.take_zero]; exact tB h
 | p::l,h,i+1=>by
  rw [List.take_succ_cons]
  exact Nat.mul_le_mul_left p (lG (fun q hq=>h q (List.mem_cons_of_mem _ hq)) i)
theorem tf0:aVc Tryz.prog 76 0=some (0,false,1):=by kernel_rfl
theorem tf1:aVc Tryz.prog 76 1=some (1,false,1):=by kernel_rfl
theorem aBy (p v:Nat):∀ (T:List (Nat × Nat)) (a m:Nat),mY (T++[(p,v)]) a m=((mY T a m).1+(mY T a m).2 * pS p v (mY T a m).1 (mY T a m).2,(mY T a m).2 * p)
 | [],a,m=>rfl
 | (q,w)::T,a,m=>by
  simp only [List.cons_append,mY]
  exact aBy p v T _ _
theorem bNp [M:Mch Tryz.prog] (l:List (Nat × Nat)) (i:Nat) (p v:Nat) (h:l[i]? = some (p,v)) (hl:l.length≤1000000):Spec Tryz.prog 87 [nT l,.i .i64 i] (.ag [.i .u64 p,.i .u64 v]):=by
 obtain ⟨L,hL,hLl,hLg⟩:=aEh l
 have hLi:=hLg i _ h
 simp only at hLi
 have hLi':=cZ hLi
 have hlt:=(List.getElem?_eq_some_iff.1 h).1
 have hiL:i<L.length:=by omega
 have hw0:IntKind.i64.wrap (i:Int)=i:=bB
 rw [hL]
 refine bH (N:=9) Tryz.func87 ?_
 simp [-ζ,-ξ,↓KW,hiL,hLi,hLi',hw0]
set_option maxHeartbeats 4000000 in
set_option maxRecDepth 10000 in
theorem aHw [M:Mch Tryz.prog] (l:List (Nat × Nat)) (hR:aTr l) (hl:l.length≤1000) (hB:bI (prR l)<2 ^ 250) (hp31:∀ x∈l,x.1<2147483648) (hP:∀ x∈l,Spec Tryz.prog 52 [.i .u64 (x.1:Nat)] (.b true)) :
  Spec Tryz.prog 46 [nT l] (.tp [encZ (aEl l),.i .i64 0]):=by
 have hV:=bAv l true ⟨fun _=>⟨hR.nd,hR.lt⟩,fun _=>rfl⟩ (by omega) hP
 have hat:=fun (i p v:Nat) (h:l[i]? = some (p,v))=>bNp l i p v h (by omega)
 obtain ⟨L,hL,hLl,hLg⟩:=aEh l
 rw [hL] at hV hat ⊢
 have h0:=mS (n:=0) (by omega)
 have h1:=mS (n:=1) (by omega)
 refine bH (N:=72) Tryz.func46 ?_
 simp [-ζ,-ξ,↓KW]
 refine aH hV ?_
 simp [-ζ,-ξ,↓KW]
 refine aH h0 ?_
 simp [-ζ,-ξ,↓KW,aT 0,aA,aE,aC,aF,aB]
 refine aH h1 ?_
 simp [-ζ,-ξ,↓KW,↓aL,↓aD,↓aJ,↓aK,aT 1,aA,aE,aC,aF,aB]
 simp [-ζ,-ξ,↓KW,↓aL,↓aD,↓aJ,↓aK,bGg]
 obtain ⟨st,hst⟩:∃ st:Nat→Nat × Nat,∀ i,st i=mY (l.take i) 0 1:=⟨fun i=>mY (l.take i) 0 1,fun i=>rfl⟩
 have hinv:∀ i,i≤l.length→(st i).2=bI (prR (l.take i))∧(st i).1<(st i).2∧(st i).2<2 ^ 250:=fun i hi=>by
  have hPT:aTr (l.take i):=⟨fun x hx=>hR.pr x (List.mem_of_mem_take hx),fun x hx=>hR.lt x (List.mem_of_mem_take hx),by rw [List.map_take]; exact List.Sublist.nodup (List.take_sublist ..) hR.nd⟩
  obtain ⟨k1,k2,_⟩:=aEm (l.take i) [] 0 1 (by simpa using hPT) rfl (by decide) (by simp)
  rw [← hst i] at k1 k2
  refine ⟨by simpa [prR] using k1,k2,?_⟩
  rw [k1]
  refine Nat.lt_of_le_of_lt ?_ hB
  rw [List.nil_append]
  show bI (prR (l.take i))≤_
  rw [xH]
  exact lG (fun q hq=>by
   obtain ⟨x,hx,rfl⟩:=List.mem_map.1 hq
   have:=(hR.pr x hx).1; omega) i
 have hmod:∀ i p v,l[i]? = some (p,v)→(st i).2 % p≠0:=fun i p v hge hz=>by
  have hxm:=List.mem_of_getElem? hge
  have hlt:=(List.getElem?_eq_some_iff.1 hge).1
  have hpr:PrN p:=hR.pr _ hxm
  have hT1:l.take (i+1)=l.take i++[(p,v)]:=by rw [List.take_add_one,hge]; rfl
  have hnd:(prR (l.take (i+1))).Nodup:=by rw [xH]; exact List.Sublist.nodup (List.take_sublist ..) hR.nd
  rw [hT1] at hnd
  have hpn:p ∉ prR (l.take i):=fun h=>by
   have e:prR (l.take i++[(p,v)])=prR (l.take i)++[p]:=by simp [prR]
   rw [e,List.nodup_append] at hnd
   exact hnd.2.2 p h p (by simp) rfl
  have hcop:Nat.Coprime p (st i).2:=by
   rw [(hinv i (by omega)).1]
   refine yP hpr (fun q hq=>?_) hpn
   obtain ⟨x,hx,rfl⟩:=List.mem_map.1 hq
   exact hR.pr x (List.mem_of_mem_take hx)
  have:=Nat.Coprime.eq_one_of_dvd hcop (Nat.dvd_of_mod_eq_zero hz)
  have:=hpr.1
  omega
 refine bN (τ:=Nat) (fun i=>i≤l.length) (fun i=>StL [(2,.ptr 1 0),(4,.ptr 2 0),(5,.ptr 3 0),(6,.d (.fm 87 (.sl L))),(22,.d (.i .i64 L.length)),(23,.d (.i .i64 i))] none [.cells 31 [.d (.b false),.nil],.cells 31 [.d (.b false),.d (aG (aR (st i).1))],.cells 31 [.d (.b false),.d (aG (aR (st i).2))]]) (fun i=>l.length - i) 0 (Nat.zero_le _) ?_ ?_
 ·rw [hst,List.take_zero]
  refine wkQ [1,2,3] ?_ ?_ <;> simp [-ζ,upd,aS,Γ0,mY]
 ·intro i hi
  by_cases hlt:i<l.length
  ·obtain ⟨⟨p,v⟩,hge⟩:∃ x,l[i]? = some x:=⟨_,List.getElem?_eq_getElem hlt⟩
   have hA:=hat i p v hge
   have hiL:i<L.length:=by omega
   have hxm:=List.mem_of_getElem? hge
   have hpr:PrN p:=hR.pr _ hxm
   have hvp:v<p:=hR.lt _ hxm
   have hp31':p<2147483648:=hp31 _ hxm
   have hp2:=hpr.1
   have hT1:l.take (i+1)=l.take i++[(p,v)]:=by rw [List.take_add_one,hge]; rfl
   have hst1:st (i+1)=((st i).1+(st i).2 * pS p v (st i).1 (st i).2,(st i).2 * p):=by rw [hst,hst,hT1]; exact aBy p v _ 0 1
   obtain ⟨g1,g2,g3⟩:=hinv i hi
   obtain ⟨g4,g5,g6⟩:=hinv (i+1) hlt
   rw [hst1] at g4 g5 g6
   simp only at g4 g5 g6
   have hmp:(st i).2 % p≠0:=hmod i p v hge
   have hm1:=Nat.mod_lt (st i).2 (show 0<p by omega)
   have ha1:=Nat.mod_lt (st i).1 (show 0<p by omega)
   have hRm:=aNq p (st i).2 (by omega) (by omega) (by omega)
   have hRa:=aNq p (st i).1 (by omega) (by omega) (by omega)
   have hI:=bHb p ((st i).2 % p) hp2 (by omega) hm1 hmp
   have hSb:=bEd p v ((st i).1 % p) (by omega) (by omega) hvp ha1
   have hs1:=Nat.mod_lt (v+p - (st i).1 % p) (show 0<p by omega)
   have hi1:=Nat.mod_lt (((st i).2 % p) ^ (p - 2)) (show 0<p by omega)
   have hMl:=vV p ((v+p - (st i).1 % p) % p) (((st i).2 % p) ^ (p - 2) % p) (by omega) (Nat.lt_of_le_of_lt (Nat.mul_le_mul (Nat.le_of_lt (Nat.lt_trans hs1 hp31')) (Nat.le_of_lt (Nat.lt_trans hi1 hp31'))) (by decide))
   have hct:(v+p - (st i).1 % p) % p * (((st i).2 % p) ^ (p - 2) % p) % p=pS p v (st i).1 (st i).2:=rfl
   rw [hct] at hMl
   have htl:pS p v (st i).1 (st i).2<p:=aPa (by omega)
   have hWt:=bJm (n:=pS p v (st i).1 (st i).2) (by omega)
   have hWp:=bJm (n:=p) (by omega)
   have hMt:=aLc (x:=(st i).2) (y:=pS p v (st i).1 (st i).2) (by omega) (by omega)
   have hMp:=aLc (x:=(st i).2) (y:=p) (by omega) (by omega)
   have hmt2:(st i).2 * pS p v (st i).1 (st i).2≤(st i).2 * p:=Nat.mul_le_mul_left _ (Nat.le_of_lt htl)
   have hAd:=aTn (x:=(st i).1) (y:=(st i).2 * pS p v (st i).1 (st i).2) (by omega) (by omega)
   have hw1:IntKind.i64.wrap ((i:Int)+1)=((i+1:Nat):Int):=bB
   have hn1:(st (i+1)).1=(st i).1+(st i).2 * pS p v (st i).1 (st i).2:=by rw [hst1]
   have hn2:(st (i+1)).2=(st i).2 * p:=by rw [hst1]
   rw [← hn1] at hAd
   rw [← hn2] at hMp
   generalize pS p v (st i).1 (st i).2=t at *
   generalize ((st i).2 % p) ^ (p - 2) % p=iv at *
   generalize (v+p - (st i).1 % p) % p=sv at *
   generalize (st i).2 * t=mt at *
   generalize (st i).1 % p=ap at *
   generalize (st i).2 % p=mp at *
   generalize (st i).1=a at *
   generalize (st i).2=m at *
   obtain ⟨a',ha'⟩:∃ a',(st (i+1)).1=a':=⟨_,rfl⟩
   obtain ⟨m',hm'⟩:∃ m',(st (i+1)).2=m':=⟨_,rfl⟩
   rw [ha'] at hAd
   rw [hm'] at hMp
   simp [-ζ,-ξ,↓KW,↓aL,↓aD,↓aJ,↓aK,hiL,yR,yS]
   refine uU (ds:=[.sl L,.i .i64 i]) (by rfl) hA ?_
   simp [-ζ,-ξ,↓KW,↓aL,↓aD,↓aJ,↓aK,yR,yS,tf0,tf1]
   refine uU (ds:=[.sl L,.i .i64 i]) (by rfl) hA ?_
   simp [-ζ,-ξ,↓KW,↓aL,↓aD,↓aJ,↓aK,tf0,tf1,aA,aE,aC,aF,aB]
   refine aH hRm ?_
   simp [-ζ,-ξ,↓KW,↓aL,↓aD,↓aJ,↓aK,aA,aE,aC,aF,aB]
   refine aH hI ?_
   simp [-ζ,-ξ,↓KW,↓aL,↓aD,↓aJ,↓aK,aA,aE,aC,aF,aB]
   refine aH hRa ?_
   simp [-ζ,-ξ,↓KW,↓aL,↓aD,↓aJ,↓aK,aA,aE,aC,aF,aB]
   refine aH hSb ?_
   simp [-ζ,-ξ,↓KW,↓aL,↓aD,↓aJ,↓aK,aA,aE,aC,aF,aB]
   refine aH hMl ?_
   simp [-ζ,-ξ,↓KW,↓aL,↓aD,↓aJ,↓aK,aA,aE,aC,aF,aB]
   refine aH hWt ?_
   simp [-ζ,-ξ,↓KW,↓aL,↓aD,↓aJ,↓aK,aT t,aA,aE,aC,aF,aB]
   refine aH hMt ?_
   simp [-ζ,-ξ,↓KW,↓aL,↓aD,↓aJ,↓aK,aT mt,aA,aE,aC,aF,aB]
   refine aH hAd ?_
   simp [-ζ,-ξ,↓KW,↓aL,↓aD,↓aJ,↓aK,aT a',aA,aE,aC,aF,aB]
   refine aH hWp ?_
   simp [-ζ,-ξ,↓KW,↓aL,↓aD,↓aJ,↓aK,aT p,aA,aE,aC,aF,aB]
   refine aH hMp ?_
   simp [-ζ,-ξ,↓KW,↓aL,↓aD,↓aJ,↓aK,aT m',hw1,aA,aE,aC,aF,aB]
   refine aN (i+1) (by omega) (by show l.length - (i+1)<l.length - i; omega) ?_
   show ∃ ρ,Wk _ (StL _ _ _) ρ
   rw [ha',hm']
   refine wkQ [1,2,3] ?_ ?_ <;> simp [-ζ,upd,aS,Γ0]
  ·have hiL:¬ i<L.length:=by omega
   obtain ⟨g1,g2,g3⟩:=hinv i hi
   have hz:aEl l=if (st i).2<(st i).1+(st i).1 then ((st i).1:Int) - ((st i).2:Int) else ((st i).1:Int):=by
    unfold aEl
    rw [hst,List.take_of_length_le (by omega)]
   rw [hz]
   have hAA:=aTn (x:=(st i).1) (y:=(st i).1) (by omega) (by omega)
   obtain ⟨r,hC,hr⟩:=bAz (x:=(st i).1+(st i).1) (y:=(st i).2) (by omega) (by omega)
   have hSb:=bHc (x:=(st i).1) (y:=(st i).2) (by omega) (by omega) (by omega)
   generalize (st i).1=a at *
   generalize (st i).2=m at *
   generalize a+a=aa at *
   simp [-ζ,-ξ,↓KW,↓aL,↓aD,↓aJ,↓aK,hiL]
   refine bG ?_
   simp [-ζ,-ξ,↓KW,↓aL,↓aD,↓aJ,↓aK,aA,aE,aC,aF,aB]
   refine aH hAA ?_
   simp [-ζ,-ξ,↓KW,↓aL,↓aD,↓aJ,↓aK,aT aa,aA,aE,aC,aF,aB]
   refine aH hC ?_
   by_cases h:m<aa
   ·have hr1:=hr.2 h
    rw [if_pos h]
    generalize (a:Int) - (m:Int)=z at *
    simp [-ζ,-ξ,↓KW,↓aL,↓aD,↓aJ,↓aK,hr1,aA,aE,aC,aF,aB]
    refine aH hSb ?_
    simp [-ζ,-ξ,↓KW,↓aL,↓aD,↓aJ,↓aK,bT z,aA,aE,aC,aF,aB,eX]
   ·have hr1:¬ 0<r:=fun h'=>h (hr.1 h')
    rw [if_neg h,dE]
    simp [-ζ,-ξ,↓KW,↓aL,↓aD,↓aJ,↓aK,hr1,aT a,aA,aE,aC,aF,aB,eX]
def bPt (z:Int):List D:=[.b (decide (z<0)),aG (aR z.natAbs)]
def vcs (v:List Int):List D:=(v.map bPt).flatten
def zr (cols:Nat):List AV:=(List.replicate cols [AV.d (.b false),AV.nil]).flatten
theorem bCy {H H':Hp} {ρ:Nat→Nat} (cols:Nat):eZ H H' ρ (zr cols) (zr cols):=by
 refine gZ.2 ⟨rfl,fun k c d h1 h2=>?_⟩
 rw [h1] at h2; injection h2 with h2; subst h2
 have hm:=List.mem_of_getElem? h1
 unfold zr at hm
 rw [List.mem_flatten] at hm
 obtain ⟨l,hl,hc⟩:=hm
 rw [List.eq_of_mem_replicate hl] at hc
 rcases List.mem_cons.1 hc with rfl | hc
 ·exact (qB _ _).2 rfl
 ·rw [List.mem_singleton.1 hc]; trivial
theorem aTy {H H':Hp} {ρ:Nat→Nat}:∀ c:Nat,eZ H H' ρ (zr c) ((vcs (List.replicate c 0)).map .d)
 | 0=>trivial
 | c+1=>by
  have ih:=aTy (H:=H) (H':=H') (ρ:=ρ) c
  have e1:zr (c+1)=AV.d (.b false)::AV.nil::zr c:=by simp [zr,List.replicate_succ]
  have e2:(vcs (List.replicate (c+1) 0)).map AV.d=AV.d (.b (decide ((0:Int)<0)))::AV.d (aG (aR (0:Int).natAbs))::(vcs (List.replicate c 0)).map AV.d:=by
   rw [List.replicate_succ]; rfl
  rw [e1,e2]
  refine ⟨?_,?_,ih⟩
  ·exact (qB _ _).2 rfl
  ·exact ⟨by rw [show ((0:Int).natAbs)=0 from rfl,cB]; rfl,fun a ha=>by simp [vis] at ha⟩
def nwV (rows cols m:Nat):AV:=.ag [.d (.i .i64 (rows:Int)),.d (.i .i64 (cols:Int)),.own m 0 rows 1]
def hdr (c n b:Nat):List AV:=(List.range n).map fun j=>AV.own (j+b) 0 c 2
def bLq (v:List Int):HO:=.cells 31 ((vcs v).map .d)
def mB (c:Nat) (M:List (List Int)) (m:Nat):List HO:=.cells 110 (hdr c M.length (m+1))::M.map bLq
theorem rV (c n b:Nat):(hdr c n b).length=n:=by simp [hdr]
theorem aOt {c n b i:Nat} (h:i<n):(hdr c n b)[i]? = some (.own (i+b) 0 c 2):=by
 unfold hdr; rw [List.getElem?_map,List.getElem?_range h]; rfl
theorem aZt (c n b:Nat):hdr c (n+1) b=hdr c n b++[.own (n+b) 0 c 2]:=by simp [hdr,List.range_succ]
theorem bMn (c:Nat) (M:List (List Int)) (m:Nat):(mB c M m).length=M.length+1:=by simp [mB]
def nwH (cols i:Nat):Hp:=fun id =>
 if id=1 then some (.cells 61 [.d (.i .i64 0),.d (.i .i64 0),.nil]) else if id=2 then some (.cells 110 (hdr cols i 3)) else if 3≤id∧id<i+3 then some (.cells 31 (zr cols)) else none
set_option maxHeartbeats 8000000 in
set_option maxRecDepth 10000 in
theorem aKo [M:Mch Tryz.prog] (rows cols:Nat) (hr:rows≤1000) (hc:cols≤1000):uX Tryz.prog 38 [.i .i64 (rows:Int),.i .i64 (cols:Int)] (nwV rows cols) (mB cols (List.replicate rows (List.replicate cols 0))):=by
 refine aYa (N:=22) aW Tryz.func38 rfl rfl rfl (by decide) (by kernel_rfl) (by kernel_rfl) (by simp) rfl ?_
 have m1:¬ (rows:Int)<0:=by omega
 have m2:¬ (cols:Int)<0:=by omega
 have hm3:32 * (cols:Int)≤281474976710656:=by omega
 have hm4:(cols:Int)≤9223372036854775807:=by omega
 simp [-ζ,-ξ,↓KW,m1,m2,bV]
 refine cO (fun i:Nat=>i≤rows) (fun i=>⟨kI [(0,.d (.i .i64 (rows:Int))),(1,.d (.i .i64 (cols:Int))),(4,.ptr 1 0),(5,.own 2 0 i 1),(6,.d (.i .i64 (i:Int)))],nwH cols i,i+3⟩) (fun i=>rows - i) 0 (Nat.zero_le _) ?_ ?_
 ·refine ⟨_,bOf ?_ (fun id o' ho=>?_) (fun id hid=>?_) (by simp)⟩
  ·simp [-ζ,upd,aS,Γ0,nwH]
  ·simp only [nwH] at ho
   split at ho
   ·rename_i e; subst e
    injection ho with ho; subst ho
    exact ⟨_,rfl,by simp [-ζ,upd,aS,Γ0]⟩
   ·split at ho
    ·rename_i e; subst e
     injection ho with ho; subst ho
     exact ⟨_,rfl,gK.2 ⟨rfl,trivial⟩⟩
    ·rw [if_neg (by omega)] at ho; cases ho
  ·simp only [nwH]
   rw [if_neg (by omega),if_neg (by omega),if_neg (by omega)]
 ·intro i hi
  have hH1:nwH cols i 1=some (.cells 61 [.d (.i .i64 0),.d (.i .i64 0),.nil]):=rfl
  have hH2:nwH cols i 2=some (.cells 110 (hdr cols i 3)):=rfl
  have hlen:(hdr cols i 3).length=i:=rV ..
  by_cases hgo:i<rows
  ·have q1:(i:Int)<rows:=by omega
   have hw:IntKind.i64.wrap ((i:Int)+1)=(i:Int)+1:=bB
   generalize hHg:nwH cols i=H at *
   generalize hcl:hdr cols i 3=cells at *
   have hb:(i+1) * 24≤140737488355328:=by omega
   have hb2:i+1≤maxLen:=bV (by omega)
   simp [-ζ,-ξ,↓KW,q1,hgo,hw,hm3,hm4,hH1,hH2,hlen,m1,m2,hb,hb2]
   have hn1:(nwH cols (i+1) 1).isSome=true:=rfl
   have hn2:(nwH cols (i+1) 2).isSome=true:=rfl
   have hnj:∀ j,j<i+1→(nwH cols (i+1) (j+3)).isSome=true:=fun j hj=>by
    unfold nwH; rw [if_neg (by omega),if_neg (by omega),if_pos (by omega)]; rfl
   refine aN (i+1) hgo (slQ hgo) ⟨_,bKu (fun id=>if id=2 then i+5 else id) ?_ (fun id o' ho=>?_) (fun id id' h1 h2 e=>?_) (fun _=>rfl) (fun id hid=>?_) (by simp)⟩
   ·simp [-ζ,upd,aS,Γ0,hn1,hn2]
   ·simp only [nwH] at ho
    split at ho
    ·rename_i e; subst e
     injection ho with ho; subst ho
     refine ⟨.cells 61 [.d (.i .i64 0),.d (.i .i64 0),.nil],?_,by simp [-ζ,upd,aS,Γ0]⟩
     rw [if_neg (by omega)]
     simp only
     rw [if_neg (by omega),if_neg (by omega),if_neg (by omega),if_neg (by omega),hH1]
     rfl
    ·split at ho
     ·rename_i e; subst e
      injection ho with ho; subst ho
      refine ⟨.cells 110 (hdr cols (i+1) 3),?_,gK.2 ⟨rfl,gZ.2 ⟨rfl,fun k x y h1 h2=>?_⟩⟩⟩
      ·show Option.map (fZ [2]) (if i+5=i+3+1+1 then some (HO.cells 110 (cells++[AV.own (i+3) 0 cols 2])) else _)=_
       rw [if_pos (by omega),aZt,hcl]
       simp only [Option.map_some,fZ,List.map_append,List.map_cons,List.map_nil]
       have e1:cells.map (dW [2])=cells:=by
        rw [← hcl]
        unfold hdr
        rw [List.map_map]
        apply List.map_congr_left
        intro j hj
        simp [dW]
       rw [e1]
       simp [dW]
      ·rw [h1] at h2; injection h2 with h2; subst h2
       have hk:k<i+1:=by have:=(List.getElem?_eq_some_iff.1 h1).1; rwa [rV] at this
       rw [aOt hk] at h1; injection h1 with h1; subst h1
       exact ⟨by simp only; rw [if_neg (by omega)],rfl,rfl,rfl,hnj k hk⟩
     ·split at ho
      ·rename_i e2 e3
       injection ho with ho; subst ho
       refine ⟨.cells 31 (zr cols),?_,gK.2 ⟨rfl,bCy cols⟩⟩
       rw [if_neg e2]
       simp only
       rw [if_neg (by omega),if_neg e2,if_neg (by omega)]
       have ez:Option.map (fZ [2]) (some (HO.cells 31 (zr cols)))=some (.cells 31 (zr cols)):=by
        simp only [Option.map_some,fZ]
        congr 2
        unfold zr
        rw [List.map_flatten,List.map_replicate]; rfl
       by_cases e4:id=i+3
       ·rw [if_pos e4]; exact ez
       ·rw [if_neg e4,← hHg]
        unfold nwH
        rw [if_neg (by omega),if_neg (by omega),if_pos (by omega)]
        exact ez
      ·cases ho
   ·have k1:∀ id,(nwH cols (i+1) id).isSome=true→1≤id∧id<i+4:=fun id h=>by
     unfold nwH at h
     split at h
     ·omega
     ·split at h
      ·omega
      ·split at h
       ·omega
       ·cases h
    have b1:=k1 id h1
    have b2:=k1 id' h2
    have e':(if id=2 then i+5 else id)=(if id'=2 then i+5 else id'):=e
    split at e' <;> split at e' <;> omega
   ·simp only [nwH]
    rw [if_neg (by omega),if_neg (by omega),if_neg (by omega)]
  ·have q1:¬ (i:Int)<rows:=by omega
   have e:i=rows:=by omega
   subst e
   generalize hHg:nwH cols i=H at *
   simp [-ζ,-ξ,↓KW,q1,hH1,hH2]
   intro m hm0
   have hML:(mB cols (List.replicate i (List.replicate cols (0:Int))) m).length=i+1:=by simp [bMn]
   have hin:∀ id,m≤id→id<m+(i+1)→(rE (nwV i cols) (mB cols (List.replicate i (List.replicate cols 0))) m).H id=(mB cols (List.replicate i (List.replicate cols 0)) m)[id - m]? := fun id h1 h2=>by
    simp only [rE,kD]
    rw [if_pos ⟨h1,by rw [hML]; exact h2⟩]
   have hout:∀ id,¬ (m≤id∧id<m+(i+1))→(rE (nwV i cols) (mB cols (List.replicate i (List.replicate cols 0))) m).H id=none:=fun id h=>by
    simp only [rE,kD]
    rw [if_neg (by rw [hML]; exact h)]
   have hsome:∀ id,((rE (nwV i cols) (mB cols (List.replicate i (List.replicate cols 0))) m).H id).isSome=true→m≤id∧id<m+(i+1):=fun id h=>by
    by_cases hr:m≤id∧id<m+(i+1)
    ·exact hr
    ·rw [hout id hr] at h; cases h
   have hS0:((rE (nwV i cols) (mB cols (List.replicate i (List.replicate cols 0))) m).H m).isSome=true:=by
    rw [hin m (Nat.le_refl _) (by omega),Nat.sub_self]; rfl
   have hSj:∀ j,j<i→(rE (nwV i cols) (mB cols (List.replicate i (List.replicate cols 0))) m).H (j+(m+1))=some (bLq (List.replicate cols 0)):=fun j hj=>by
    rw [hin _ (by omega) (by omega),show j+(m+1) - m=j+1 by omega]
    simp only [mB,List.getElem?_cons_succ,List.map_replicate,List.getElem?_replicate,if_pos hj]
   refine ⟨fun id=>id - m+2,fun id hid=>hout id (by simp only [rE] at hid; rw [hML] at hid; omega),fun t=>?_,fun id o' ho=>?_,fun id id' h1 h2 e=>?_,fun h=>?_,fun h=>?_⟩
   ·show Sub _ _ _ _ (upd (fun _=>.any) 0 (nwV i cols m) t)
    by_cases e:t=0
    ·subst e
     simp only [upd_same,nwV]
     refine ⟨rfl,fun k c d h1 h2=>?_⟩
     rcases k with _ | _ | _ | k
     ·simp at h1 h2; subst h1; subst h2; exact (qB _ _).2 rfl
     ·simp at h1 h2; subst h1; subst h2; exact (qB _ _).2 rfl
     ·simp at h1 h2; subst h1; subst h2
      exact ⟨by simp,rfl,rfl,rfl,hS0⟩
     ·simp at h1
    ·rw [upd_ne _ _ e]; exact vP _
   ·have hr:=hsome id (by rw [ho]; rfl)
    rw [hin id hr.1 hr.2] at ho
    simp only
    obtain ⟨j,rfl⟩:∃ j,id=m+j:=⟨id - m,by omega⟩
    rw [show m+j - m=j by omega] at ho ⊢
    rcases j with _ | j
    ·simp only [mB,List.getElem?_cons_zero,List.length_replicate] at ho
     injection ho with ho; subst ho
     refine ⟨.cells 110 (hdr cols i 3),by simp only [upd]; rw [if_neg (by omega)]; exact hH2,gK.2 ⟨rfl,gZ.2 ⟨by rw [rV,rV],fun k c d h1 h2=>?_⟩⟩⟩
     have hlt:k<i:=by have:=(List.getElem?_eq_some_iff.1 h1).1; rwa [rV] at this
     rw [aOt hlt] at h1 h2
     injection h1 with h1; injection h2 with h2; subst h1; subst h2
     exact ⟨by show k+3=k+(m+1) - m+2; omega,rfl,rfl,rfl,by rw [hSj k hlt]; rfl⟩
    ·have hlt:j<i:=by omega
     simp only [mB,List.getElem?_cons_succ,List.map_replicate,List.getElem?_replicate,if_pos hlt] at ho
     injection ho with ho; subst ho
     refine ⟨.cells 31 (zr cols),?_,gK.2 ⟨rfl,aTy cols⟩⟩
     simp only [upd]
     rw [if_neg (by omega),← hHg]
     unfold nwH
     rw [if_neg (by omega),if_neg (by omega),if_pos (by omega)]
   ·have q1':=hsome id h1
    have q2':=hsome id' h2
    have e':id - m+2=id' - m+2:=e
    omega
   ·have:=hsome 0 h; omega
   ·simp only [rE] at h; omega
theorem eP [M:Mch Tryz.prog] {f:FuncId} {args:List D} {r:D} (h:(iY Tryz.prog EP 100 20).call f args=some r):Spec Tryz.prog f args r:=(oC (fuel:=100) aW aPj 20).call _ _ _ h
def mA:D:=.ag [.i .i64 1,.i .i64 1,.sl [[.sl [[.b true,.sl [[.i .u32 1]]]]]]]
theorem aEf (H:Hp) (n:Nat) (a b:HO):kD H n [a,b]=upd (upd H n (some a)) (n+1) (some b):=by
 funext id
 unfold kD upd
 by_cases h1:id=n+1
 ·subst h1; simp
 ·by_cases h2:id=n
  ·subst h2; simp
  ·simp only [h1,h2,if_false,List.length_cons,List.length_nil]
   rw [if_neg (by omega)]
set_option maxHeartbeats 4000000 in
set_option maxRecDepth 10000 in
theorem bPl [M:Mch Tryz.prog]:Spec Tryz.prog 37 [.i .i64 1,.i .i64 1,.sl [[.i .i64 (-1)]]] mA:=by
 refine bH (N:=50) Tryz.func37 ?_
 have hN:uX Tryz.prog 38 [.i .i64 1,.i .i64 1] (nwV 1 1) (mB 1 [[0]]):=aKo 1 1 (by decide) (by decide)
 have hmB:mB 1 [[0]] 2=[.cells 110 [.own 3 0 1 2],.cells 31 [.d (.b (decide ((0:Int)<0))),.d (aG (aR (0:Int).natAbs))]]:=rfl
 have hO:Spec Tryz.prog 11 [.i .i64 (-1)] (.ag [.b true,.sl [[.i .u32 1]]]):=eP (by kernel_rfl)
 simp [-ζ,-ξ,↓KW]
 refine xL [.i .i64 1,.i .i64 1] (nwV 1 1) (mB 1 [[0]]) (by simp) (by simp) (by simp) (by rfl) (by rfl) hN ?_
 simp [-ζ,-ξ,↓KW,nwV,hmB,aEf]
 have hz0:IntKind.i64.wrap 0=0:=by decide
 have hz1:IntKind.i64.wrap 1=1:=by decide
 refine fB 2 ?_
 simp [-ζ,-ξ,↓KW,↓aL,↓aD,↓aJ,↓aK,hz0,hz1]
 refine fB 2 ?_
 simp [-ζ,-ξ,↓KW,↓aL,↓aD,↓aJ,↓aK,hz0,hz1]
 refine aH hO ?_
 simp [-ζ,-ξ,↓KW,↓aL,↓aD,↓aJ,↓aK,hz0,hz1]
 rfl
theorem fR {P:Program} [M:Mch P] {f N:Nat} {fn:Func} {c:Code} {h:AV} {o o':HO} {args:List D} (hm:P.follows .mixedOrders=true) (hf:P.funcs[f]? = some fn) (hb:fn.body=some c) (hname:(fn.name == "runtime.NumGoroutine")=false) (hN:fn.ntmps=N)
  (hd:bP N c=true) (hl:bO P c=true) (ha:args.length+1≤N) (hno':kJ o'=true)
  (hA:AWP P c (St1 h o args N) fun e σ=>(e=.normal∨e=.ret)∧iS P fn.results.toList σ=some (.tp [])∧σ.H 0=some o'):jH P f h o args o' (.tp []) :=
 uJ hf hb hname hN ha hno' fun G a w hZ hs=>cF hm hZ c _ _ a w hd hl hA hs
theorem iZ {P:Program} (σ:St):iS P [] σ=some (.tp []):=rfl
theorem zT {σ:St} {sl:List (Nat × AV)} {e:TypeId} {dl:List D} (hslot:jJ σ.H (StL sl (some (.cells e (dl.map .d))) []).H (vG []) σ.Γ sl) (h0:σ.H 0=some (.cells e (dl.map .d))):∃ ρ,Wk σ (StL sl (some (.cells e (dl.map .d))) []) ρ :=
 ⟨_,aNd [] (by simp) hslot (fun o' h=>⟨_,h0,by injection h with h; subst h; exact aAq ..⟩) (by simp)⟩
def pQ (k:Nat):Int:=((k+1:Nat):Int)
def oQ:Nat→List Int→List Int
 | 0,l=>l
 | j+1,l=>if l[j+1]! < l[j]! then oQ j ((l.set (j+1) l[j]!).set j l[j+1]!) else l
def jB (l:List Int):Nat→List Int
 | 0=>l
 | k+1=>oQ (k+1) (jB l k)
def dF (l:List Int):List Int:=jB l (l.length - 1)
theorem aIe:∀ (j:Nat) (l:List Int),(oQ j l).length=l.length
 | 0,l=>rfl
 | j+1,l=>by
  unfold oQ
  split
  ·rw [aIe]; simp
  ·rfl
theorem dS (l:List Int):∀ k,(jB l k).length=l.length
 | 0=>rfl
 | k+1=>by unfold jB; rw [aIe,dS l k]
theorem aQe {l:List Int} {i j:Nat} (hi:i<l.length) (hj:j<l.length):((l.set i l[j]!).set j l[i]!).Perm l:=by
 rw [getElem!_pos l i hi,getElem!_pos l j hj]
 exact List.set_set_perm hi hj
theorem aCb:∀ (j:Nat) (l:List Int),j<l.length→(oQ j l).Perm l
 | 0,l,_=>.refl _
 | j+1,l,h=>by
  unfold oQ
  split
  ·refine (aCb j _ (by simp; omega)).trans (aQe h (by omega))
  ·exact .refl _
theorem aBr (l:List Int):∀ k,k<l.length∨k=0→(jB l k).Perm l
 | 0,_=>.refl _
 | k+1,h=>by
  unfold jB
  exact (aCb (k+1) _ (by rw [dS]; omega)).trans (aBr l k (by omega))
theorem lN (l:List Int):(dF l).Perm l:=aBr l _ (by omega)
def dzU (l:List Int):List D:=l.map fun n=>.i .u64 n
theorem kV (l:List Int):(dzU l).length=l.length:=by simp [dzU]
theorem bAk {l:List Int} {i:Nat} (h:i<l.length):(dzU l)[i]? = some (.i .u64 l[i]!):=by
 unfold dzU; rw [List.getElem?_map,List.getElem?_eq_getElem h,getElem!_pos l i h]; rfl
theorem aEi (l:List Int) (i:Nat) (x:Int):(dzU l).set i (.i .u64 x)=dzU (l.set i x):=by simp [dzU]
theorem mL (e:TypeId) (l:List Int):kJ (.cells e ((dzU l).map .d))=true:=by
 simp only [kJ,List.all_eq_true]
 intro x hx
 obtain ⟨d,hd,rfl⟩:=List.mem_map.1 hx
 obtain ⟨n,_,rfl⟩:=List.mem_map.1 hd
 rfl
theorem bPd [M:Mch Tryz.prog] (x y:Int):Spec Tryz.prog 142 [.i .u64 x,.i .u64 y] (.b (decide (x<y))):=by
 have hN:∀ z:Int,Spec Tryz.prog 184 [.i .u64 z] (.b false):=fun z=>by
  refine bH (N:=6) Tryz.func184 ?_
  simp [-ζ,-ξ,↓KW]
 refine bH (N:=17) Tryz.func142 ?_
 simp [-ζ,-ξ,↓KW]
 refine aH (hN x) ?_
 simp [-ζ,-ξ,↓KW]
set_option maxHeartbeats 8000000 in
set_option maxRecDepth 10000 in
theorem bRh [M:Mch Tryz.prog] (l:List Int) (hl:l.length≤1000):jH Tryz.prog 136 (.own 0 0 l.length 1) (.cells 51 ((dzU l).map .d)) [.i .i64 0,.i .i64 l.length] (.cells 51 ((dzU (dF l)).map .d)) (.tp []):=by
 refine fR (N:=49) aW Tryz.func136 rfl rfl rfl (by kernel_rfl) (by kernel_rfl) (by simp) (mL _ _) ?_
 have hw1:IntKind.i64.wrap 1=1:=by decide
 by_cases h0:l.length=0
 ·have hl0:l=[]:=List.eq_nil_of_length_eq_zero h0
  subst hl0
  simp [-ζ,-ξ,↓KW,St1,hw1]
  refine fB 1 ?_
  simp [-ζ,-ξ,↓KW,↓aL,↓aD,↓aJ,↓aK,show dF []=[] from rfl,iZ]
 replace h0:0<l.length:=by omega
 simp [-ζ,-ξ,↓KW,St1,hw1]
 refine bN (τ:=Nat) (fun k=>k+1≤l.length) (fun k=>StL [(0,.own 0 0 l.length 1),(1,.d (.i .i64 0)),(2,.d (.i .i64 l.length)),(6,.d (.i .i64 (pQ k)))] (some (.cells 51 ((dzU (jB l k)).map .d))) []) (fun k=>l.length - k) 0 (by omega) ?_ ?_
 ·refine zT ?_ rfl
  simp [-ζ,upd,aS,Γ0,pQ,jB]
 ·intro k hk
  have hkl:=dS l k
  by_cases hlt:k+1<l.length
  ·have hR:jB l (k+1)=oQ (k+1) (jB l k):=rfl
   obtain ⟨R,hRR⟩:∃ R,jB l (k+1)=R:=⟨_,rfl⟩
   rw [hRR] at hR
   obtain ⟨i,hi⟩:∃ i,k+1=i:=⟨_,rfl⟩
   rw [hi] at hR hlt
   have hs:pQ k=(i:Int):=by unfold pQ; omega
   have hs1:IntKind.i64.wrap ((i:Int)+1)=pQ (k+1):=by unfold pQ; rw [show (i:Int)+1=((k+1+1:Nat):Int) from by omega]; exact bB
   rw [hs]
   generalize jB l k=T0 at *
   generalize l.length=n at *
   simp [-ζ,-ξ,↓KW,hlt]
   refine bN (τ:=Nat × List Int) (fun x=>x.1≤i∧x.2.length=n∧oQ x.1 x.2=R) (fun x=>StL [(0,.own 0 0 n 1),(1,.d (.i .i64 0)),(2,.d (.i .i64 n)),(6,.d (.i .i64 i)),(7,.d (.i .i64 (x.1:Nat)))] (some (.cells 51 ((dzU x.2).map .d))) []) (fun x=>x.1) (i,T0) ⟨Nat.le_refl _,hkl,hR.symm⟩ ?_ ?_
   ·refine zT ?_ rfl
    simp [-ζ,upd,aS,Γ0]
   ·rintro ⟨j,T⟩ ⟨h1,h2,h3⟩
    simp only at h1 h2 h3 ⊢
    cases j with
    | zero =>
     have h3':T=R:=h3
     subst h3'
     simp [-ζ,-ξ,↓KW]
     refine bG ?_
     simp [-ζ,-ξ,↓KW,hs1]
     refine aN (k+1) (by omega) (by show n - (k+1)<n - k; omega) ?_
     show ∃ ρ,Wk _ (StL _ _ _) ρ
     rw [hRR]
     refine zT ?_ rfl
     simp [-ζ,upd,aS,Γ0]
    | succ j =>
     have hL:=bPd T[j+1]! T[j]!
     have ha:=bAk (l:=T) (i:=j+1) (by omega)
     have hb:=bAk (l:=T) (i:=j) (by omega)
     have ha':∀ h,(dzU T)[j+1]'h=.i .u64 T[j+1]! := fun h=>by rw [List.getElem?_eq_getElem h] at ha; injection ha
     have hb':∀ h,(dzU T)[j]'h=.i .u64 T[j]! := fun h=>by rw [List.getElem?_eq_getElem h] at hb; injection hb
     have hdl:=kV T
     have hjn:j+1<n:=by omega
     have hjn':j<n:=by omega
     have hw0:IntKind.i64.wrap (j:Int)=j:=bB
     have hset:((dzU T).set (j+1) (.i .u64 T[j]!)).set j (.i .u64 T[j+1]!)=dzU ((T.set (j+1) T[j]!).set j T[j+1]!):=by rw [aEi,aEi]
     have hbub:oQ (j+1) T=if T[j+1]! < T[j]! then oQ j ((T.set (j+1) T[j]!).set j T[j+1]!) else T:=rfl
     have hTl:((T.set (j+1) T[j]!).set j T[j+1]!).length=n:=by simp [h2]
     rw [hbub] at h3
     generalize (T.set (j+1) T[j]!).set j T[j+1]! = T2 at *
     have hwJ:IntKind.i64.wrap (((j+1:Nat):Int) - 1)=j:=by rw [show ((j+1:Nat):Int) - 1=(j:Int) from by omega]; exact hw0
     have hwJ0:IntKind.i64.wrap ((j+1:Nat):Int)=((j+1:Nat):Int):=bB
     have hJ0:0<j+1:=by omega
     have hJj:¬ j+1=j:=by omega
     generalize T[j+1]! = x at *
     generalize T[j]! = y at *
     obtain ⟨DT,hDT⟩:∃ DT,dzU T=DT:=⟨_,rfl⟩
     rw [hDT] at ha hb ha' hb' hdl hset ⊢
     obtain ⟨J,hJ⟩:∃ J,j+1=J:=⟨_,rfl⟩
     have hJlt:j<J:=by omega
     simp only [hJ] at *
     have hJ1:J+1≤n:=by omega
     have hJ2:j+1≤n:=by omega
     have hJ3:J≤n:=by omega
     have e1:lay (DT.map AV.d) J [.d (.i .u64 y)]=(DT.set J (.i .u64 y)).map .d:=iV _ _ _ (by omega)
     have e2:lay ((DT.set J (.i .u64 y)).map AV.d) j [.d (.i .u64 x)]=(dzU T2).map .d:=by rw [iV _ _ _ (by rw [List.length_set]; omega),hset]
     have e3:lay ((DT.map AV.d).set J (.d (.i .u64 y))) j [.d (.i .u64 x)]=(dzU T2).map .d:=by rw [← e2,List.map_set]
     by_cases hxy:x<y
     ·rw [if_pos hxy] at h3
      rw [decide_eq_true hxy] at hL
      simp [-ζ,-ξ,↓KW,ha,ha',hb,hb',hw0,hwJ,hwJ0,hJ0,hdl,h2,hjn,hjn']
      refine aH hL ?_
      simp [-ζ,-ξ,↓KW,ha,ha',hb,hb',hw0,hwJ,hwJ0,hJ0,hdl,h2,hjn,hjn',hJ1,hJ2,hJ3,e1,e2,e3]
      refine aN (j,T2) ⟨by omega,hTl,h3⟩ (by show j<j+1; omega) ?_
      show ∃ ρ,Wk _ (StL _ _ _) ρ
      refine zT ?_ ?_ <;> simp [-ζ,upd,aS,Γ0,e3]
     ·rw [if_neg hxy] at h3
      rw [decide_eq_false hxy] at hL
      simp [-ζ,-ξ,↓KW,ha,ha',hb,hb',hw0,hwJ,hwJ0,hJ0,hdl,h2,hjn,hjn']
      refine aH hL ?_
      simp [-ζ,-ξ,↓KW,ha,ha',hb,hb',hw0,hwJ,hwJ0,hJ0,hdl,h2,hjn,hjn']
      subst h3
      refine bG ?_
      simp [-ζ,-ξ,↓KW,hs1]
      refine aN (k+1) (by omega) (by show n - (k+1)<n - k; omega) ?_
      show ∃ ρ,Wk _ (StL _ _ _) ρ
      rw [hRR]
      refine zT ?_ ?_ <;> simp [-ζ,upd,aS,Γ0,hDT]
  ·have hk1:k+1=l.length:=by omega
   have hsr:dF l=jB l k:=by unfold dF; rw [show l.length - 1=k from by omega]
   rw [hsr]
   have hs:pQ k=(l.length:Int):=by unfold pQ; omega
   rw [hs]
   simp [-ζ,-ξ,↓KW]
   exact bG (by simp [-ζ,-ξ,↓KW,iZ])
set_option maxRecDepth 10000 in
theorem bQv [M:Mch Tryz.prog] (l:List Int) (r:Int) (hl:l.length≤12):jH Tryz.prog 80 (.own 0 0 l.length 1) (.cells 51 ((dzU l).map .d)) [.i .i64 0,.i .i64 l.length,.i .i64 r] (.cells 51 ((dzU (dF l)).map .d)) (.tp []):=by
 have hI:=bRh l (by omega)
 have hlen:(dzU (dF l)).length=(dzU l).length:=by rw [kV,kV]; exact dS l _
 have hno1:=mL 51 l
 have hno2:=mL 51 (dF l)
 have hw0:IntKind.i64.wrap (l.length:Int)=l.length:=bB
 have hle:(l.length:Int)≤12:=by omega
 refine fR (N:=134) aW Tryz.func80 rfl rfl rfl (by kernel_rfl) (by kernel_rfl) (by simp) hno2 ?_
 generalize dF l=T at *
 generalize l.length=n at *
 generalize dzU T=DT at *
 generalize dzU l=DL at *
 simp [-ζ,-ξ,↓KW,St1]
 refine fB 1 ?_
 simp [-ζ,-ξ,↓KW,↓aL,↓aD,↓aJ,↓aK,hw0,hl,hle]
 refine lQ (by simp) ?_
 refine iB (id:=0) (h:=.own 0 0 n 1) (by rfl) hno1 (by rfl) (by rfl) hI (by simp [HO.len,hlen]) hno2 ?_
 simp [-ζ,-ξ,↓KW,iZ]
theorem bPw [M:Mch Tryz.prog] (n:Nat) (hn:n≤12):∃ r,Spec Tryz.prog 81 [.i .u64 n] (.i .i64 r):=by
 have h:((List.range 13).all fun n=>match (iY Tryz.prog EP 100 20).call 81 [.i .u64 (n:Nat)] with | some (.i .i64 r)=>true | _=>false)=true:=by kernel_rfl
 have:=List.all_eq_true.1 h n (List.mem_range.2 (by omega))
 split at this
 ·rename_i r hr; exact ⟨r,eP hr⟩
 ·cases this
set_option maxRecDepth 10000 in
theorem bOl [M:Mch Tryz.prog] (l:List Int) (hl:l.length≤12):jH Tryz.prog 43 (.own 0 0 l.length 1) (.cells 51 ((dzU l).map .d)) [] (.cells 51 ((dzU (dF l)).map .d)) (.tp []):=by
 obtain ⟨r,hB⟩:=bPw l.length hl
 have hI:=bQv l r hl
 have hlen:(dzU (dF l)).length=(dzU l).length:=by rw [kV,kV]; exact dS l _
 have hno1:=mL 51 l
 have hno2:=mL 51 (dF l)
 have hw0:IntKind.u64.wrap (l.length:Int)=l.length:=wrap_u64 (by omega) (by omega)
 refine fR (N:=11) aW Tryz.func43 rfl rfl rfl (by kernel_rfl) (by kernel_rfl) (by simp) hno2 ?_
 generalize dF l=T at *
 generalize l.length=n at *
 generalize dzU T=DT at *
 generalize dzU l=DL at *
 simp [-ζ,-ξ,↓KW,St1,hw0]
 refine aH hB ?_
 simp [-ζ,-ξ,↓KW,St1,hw0]
 refine lQ (by simp) ?_
 refine iB (id:=0) (h:=.own 0 0 n 1) (by rfl) hno1 (by rfl) (by rfl) hI (by simp [HO.len,hlen]) hno2 ?_
 simp [-ζ,-ξ,↓KW,iZ]
def dzI (l:List Int):List D:=l.map fun n=>.i .i64 n
def ezI (l:List Int):D:=.sl (l.map fun n=>[.i .i64 n])
theorem eF (l:List Int):(dzI l).length=l.length:=by simp [dzI]
theorem bAm {l:List Int} {i:Nat} (h:i<l.length):(dzI l)[i]? = some (.i .i64 l[i]!):=by
 unfold dzI; rw [List.getElem?_map,List.getElem?_eq_getElem h,getElem!_pos l i h]; rfl
theorem aOy (l:List Int) (i:Nat) (x:Int):(dzI l).set i (.i .i64 x)=dzI (l.set i x):=by simp [dzI]
theorem mM (e:TypeId) (l:List Int):kJ (.cells e ((dzI l).map .d))=true:=by
 simp only [kJ,List.all_eq_true]
 intro x hx
 obtain ⟨d,hd,rfl⟩:=List.mem_map.1 hx
 obtain ⟨n,_,rfl⟩:=List.mem_map.1 hd
 rfl
theorem bPe [M:Mch Tryz.prog] (x y:Int):Spec Tryz.prog 159 [.i .i64 x,.i .i64 y] (.b (decide (x<y))):=by
 have hN:∀ z:Int,Spec Tryz.prog 151 [.i .i64 z] (.b false):=fun z=>by
  refine bH (N:=6) Tryz.func151 ?_
  simp [-ζ,-ξ,↓KW]
 refine bH (N:=17) Tryz.func159 ?_
 simp [-ζ,-ξ,↓KW]
 refine aH (hN x) ?_
 simp [-ζ,-ξ,↓KW]
set_option maxHeartbeats 8000000 in
set_option maxRecDepth 10000 in
theorem bRi [M:Mch Tryz.prog] (l:List Int) (hl:l.length≤1000):jH Tryz.prog 153 (.own 0 0 l.length 1) (.cells 3 ((dzI l).map .d)) [.i .i64 0,.i .i64 l.length] (.cells 3 ((dzI (dF l)).map .d)) (.tp []):=by
 refine fR (N:=49) aW Tryz.func153 rfl rfl rfl (by kernel_rfl) (by kernel_rfl) (by simp) (mM _ _) ?_
 have hw1:IntKind.i64.wrap 1=1:=by decide
 by_cases h0:l.length=0
 ·have hl0:l=[]:=List.eq_nil_of_length_eq_zero h0
  subst hl0
  simp [-ζ,-ξ,↓KW,St1,hw1]
  refine fB 1 ?_
  simp [-ζ,-ξ,↓KW,↓aL,↓aD,↓aJ,↓aK,show dF []=[] from rfl,iZ]
 replace h0:0<l.length:=by omega
 simp [-ζ,-ξ,↓KW,St1,hw1]
 refine bN (τ:=Nat) (fun k=>k+1≤l.length) (fun k=>StL [(0,.own 0 0 l.length 1),(1,.d (.i .i64 0)),(2,.d (.i .i64 l.length)),(6,.d (.i .i64 (pQ k)))] (some (.cells 3 ((dzI (jB l k)).map .d))) []) (fun k=>l.length - k) 0 (by omega) ?_ ?_
 ·refine zT ?_ rfl
  simp [-ζ,upd,aS,Γ0,pQ,jB]
 ·intro k hk
  have hkl:=dS l k
  by_cases hlt:k+1<l.length
  ·have hR:jB l (k+1)=oQ (k+1) (jB l k):=rfl
   obtain ⟨R,hRR⟩:∃ R,jB l (k+1)=R:=⟨_,rfl⟩
   rw [hRR] at hR
   obtain ⟨i,hi⟩:∃ i,k+1=i:=⟨_,rfl⟩
   rw [hi] at hR hlt
   have hs:pQ k=(i:Int):=by unfold pQ; omega
   have hs1:IntKind.i64.wrap ((i:Int)+1)=pQ (k+1):=by unfold pQ; rw [show (i:Int)+1=((k+1+1:Nat):Int) from by omega]; exact bB
   rw [hs]
   generalize jB l k=T0 at *
   generalize l.length=n at *
   simp [-ζ,-ξ,↓KW,hlt]
   refine bN (τ:=Nat × List Int) (fun x=>x.1≤i∧x.2.length=n∧oQ x.1 x.2=R) (fun x=>StL [(0,.own 0 0 n 1),(1,.d (.i .i64 0)),(2,.d (.i .i64 n)),(6,.d (.i .i64 i)),(7,.d (.i .i64 (x.1:Nat)))] (some (.cells 3 ((dzI x.2).map .d))) []) (fun x=>x.1) (i,T0) ⟨Nat.le_refl _,hkl,hR.symm⟩ ?_ ?_
   ·refine zT ?_ rfl
    simp [-ζ,upd,aS,Γ0]
   ·rintro ⟨j,T⟩ ⟨h1,h2,h3⟩
    simp only at h1 h2 h3 ⊢
    cases j with
    | zero =>
     have h3':T=R:=h3
     subst h3'
     simp [-ζ,-ξ,↓KW]
     refine bG ?_
     simp [-ζ,-ξ,↓KW,hs1]
     refine aN (k+1) (by omega) (by show n - (k+1)<n - k; omega) ?_
     show ∃ ρ,Wk _ (StL _ _ _) ρ
     rw [hRR]
     refine zT ?_ rfl
     simp [-ζ,upd,aS,Γ0]
    | succ j =>
     have hL:=bPe T[j+1]! T[j]!
     have ha:=bAm (l:=T) (i:=j+1) (by omega)
     have hb:=bAm (l:=T) (i:=j) (by omega)
     have ha':∀ h,(dzI T)[j+1]'h=.i .i64 T[j+1]! := fun h=>by rw [List.getElem?_eq_getElem h] at ha; injection ha
     have hb':∀ h,(dzI T)[j]'h=.i .i64 T[j]! := fun h=>by rw [List.getElem?_eq_getElem h] at hb; injection hb
     have hdl:=eF T
     have hjn:j+1<n:=by omega
     have hjn':j<n:=by omega
     have hw0:IntKind.i64.wrap (j:Int)=j:=bB
     have hset:((dzI T).set (j+1) (.i .i64 T[j]!)).set j (.i .i64 T[j+1]!)=dzI ((T.set (j+1) T[j]!).set j T[j+1]!):=by rw [aOy,aOy]
     have hbub:oQ (j+1) T=if T[j+1]! < T[j]! then oQ j ((T.set (j+1) T[j]!).set j T[j+1]!) else T:=rfl
     have hTl:((T.set (j+1) T[j]!).set j T[j+1]!).length=n:=by simp [h2]
     rw [hbub] at h3
     generalize (T.set (j+1) T[j]!).set j T[j+1]! = T2 at *
     have hwJ:IntKind.i64.wrap (((j+1:Nat):Int) - 1)=j:=by rw [show ((j+1:Nat):Int) - 1=(j:Int) from by omega]; exact hw0
     have hwJ0:IntKind.i64.wrap ((j+1:Nat):Int)=((j+1:Nat):Int):=bB
     have hJ0:0<j+1:=by omega
     have hJj:¬ j+1=j:=by omega
     generalize T[j+1]! = x at *
     generalize T[j]! = y at *
     obtain ⟨DT,hDT⟩:∃ DT,dzI T=DT:=⟨_,rfl⟩
     rw [hDT] at ha hb ha' hb' hdl hset ⊢
     obtain ⟨J,hJ⟩:∃ J,j+1=J:=⟨_,rfl⟩
     have hJlt:j<J:=by omega
     simp only [hJ] at *
     have hJ1:J+1≤n:=by omega
     have hJ2:j+1≤n:=by omega
     have hJ3:J≤n:=by omega
     have e1:lay (DT.map AV.d) J [.d (.i .i64 y)]=(DT.set J (.i .i64 y)).map .d:=iV _ _ _ (by omega)
     have e2:lay ((DT.set J (.i .i64 y)).map AV.d) j [.d (.i .i64 x)]=(dzI T2).map .d:=by rw [iV _ _ _ (by rw [List.length_set]; omega),hset]
     have e3:lay ((DT.map AV.d).set J (.d (.i .i64 y))) j [.d (.i .i64 x)]=(dzI T2).map .d:=by rw [← e2,List.map_set]
     by_cases hxy:x<y
     ·rw [if_pos hxy] at h3
      rw [decide_eq_true hxy] at hL
      simp [-ζ,-ξ,↓KW,ha,ha',hb,hb',hw0,hwJ,hwJ0,hJ0,hdl,h2,hjn,hjn']
      refine aH hL ?_
      simp [-ζ,-ξ,↓KW,ha,ha',hb,hb',hw0,hwJ,hwJ0,hJ0,hdl,h2,hjn,hjn',hJ1,hJ2,hJ3,e1,e2,e3]
      refine aN (j,T2) ⟨by omega,hTl,h3⟩ (by show j<j+1; omega) ?_
      show ∃ ρ,Wk _ (StL _ _ _) ρ
      refine zT ?_ ?_ <;> simp [-ζ,upd,aS,Γ0,e3]
     ·rw [if_neg hxy] at h3
      rw [decide_eq_false hxy] at hL
      simp [-ζ,-ξ,↓KW,ha,ha',hb,hb',hw0,hwJ,hwJ0,hJ0,hdl,h2,hjn,hjn']
      refine aH hL ?_
      simp [-ζ,-ξ,↓KW,ha,ha',hb,hb',hw0,hwJ,hwJ0,hJ0,hdl,h2,hjn,hjn']
      subst h3
      refine bG ?_
      simp [-ζ,-ξ,↓KW,hs1]
      refine aN (k+1) (by omega) (by show n - (k+1)<n - k; omega) ?_
      show ∃ ρ,Wk _ (StL _ _ _) ρ
      rw [hRR]
      refine zT ?_ ?_ <;> simp [-ζ,upd,aS,Γ0,hDT]
  ·have hk1:k+1=l.length:=by omega
   have hsr:dF l=jB l k:=by unfold dF; rw [show l.length - 1=k from by omega]
   rw [hsr]
   have hs:pQ k=(l.length:Int):=by unfold pQ; omega
   rw [hs]
   simp [-ζ,-ξ,↓KW]
   exact bG (by simp [-ζ,-ξ,↓KW,iZ])
set_option maxRecDepth 10000 in
theorem bQw [M:Mch Tryz.prog] (l:List Int) (r:Int) (hl:l.length≤12):jH Tryz.prog 101 (.own 0 0 l.length 1) (.cells 3 ((dzI l).map .d)) [.i .i64 0,.i .i64 l.length,.i .i64 r] (.cells 3 ((dzI (dF l)).map .d)) (.tp []):=by
 have hI:=bRi l (by omega)
 have hlen:(dzI (dF l)).length=(dzI l).length:=by rw [eF,eF]; exact dS l _
 have hno1:=mM 3 l
 have hno2:=mM 3 (dF l)
 have hw0:IntKind.i64.wrap (l.length:Int)=l.length:=bB
 have hle:(l.length:Int)≤12:=by omega
 refine fR (N:=134) aW Tryz.func101 rfl rfl rfl (by kernel_rfl) (by kernel_rfl) (by simp) hno2 ?_
 generalize dF l=T at *
 generalize l.length=n at *
 generalize dzI T=DT at *
 generalize dzI l=DL at *
 simp [-ζ,-ξ,↓KW,St1]
 refine fB 1 ?_
 simp [-ζ,-ξ,↓KW,↓aL,↓aD,↓aJ,↓aK,hw0,hl,hle]
 refine lQ (by simp) ?_
 refine iB (id:=0) (h:=.own 0 0 n 1) (by rfl) hno1 (by rfl) (by rfl) hI (by simp [HO.len,hlen]) hno2 ?_
 simp [-ζ,-ξ,↓KW,iZ]
theorem bPx [M:Mch Tryz.prog] (n:Nat) (hn:n≤12):∃ r,Spec Tryz.prog 81 [.i .u64 n] (.i .i64 r):=by
 have h:((List.range 13).all fun n=>match (iY Tryz.prog EP 100 20).call 81 [.i .u64 (n:Nat)] with | some (.i .i64 r)=>true | _=>false)=true:=by kernel_rfl
 have:=List.all_eq_true.1 h n (List.mem_range.2 (by omega))
 split at this
 ·rename_i r hr; exact ⟨r,eP hr⟩
 ·cases this
set_option maxRecDepth 10000 in
theorem bOm [M:Mch Tryz.prog] (l:List Int) (hl:l.length≤12):jH Tryz.prog 54 (.own 0 0 l.length 1) (.cells 3 ((dzI l).map .d)) [] (.cells 3 ((dzI (dF l)).map .d)) (.tp []):=by
 obtain ⟨r,hB⟩:=bPx l.length hl
 have hI:=bQw l r hl
 have hlen:(dzI (dF l)).length=(dzI l).length:=by rw [eF,eF]; exact dS l _
 have hno1:=mM 3 l
 have hno2:=mM 3 (dF l)
 have hw0:IntKind.u64.wrap (l.length:Int)=l.length:=wrap_u64 (by omega) (by omega)
 refine fR (N:=11) aW Tryz.func54 rfl rfl rfl (by kernel_rfl) (by kernel_rfl) (by simp) hno2 ?_
 generalize dF l=T at *
 generalize l.length=n at *
 generalize dzI T=DT at *
 generalize dzI l=DL at *
 simp [-ζ,-ξ,↓KW,St1,hw0]
 refine aH hB ?_
 simp [-ζ,-ξ,↓KW,St1,hw0]
 refine lQ (by simp) ?_
 refine iB (id:=0) (h:=.own 0 0 n 1) (by rfl) hno1 (by rfl) (by rfl) hI (by simp [HO.len,hlen]) hno2 ?_
 simp [-ζ,-ξ,↓KW,iZ]
theorem bLf [M:Mch Tryz.prog]:Spec Tryz.prog 54 [.sl []] (.tp []):=eP (by kernel_rfl)
end Go.Am
end
section
open List renaming map_map→ζ,mapM_map→ξ
namespace Go.Am
theorem aZx {T:List Int} {i j:Nat} {x:Int} (hi:i<T.length):(T.set i x)[j]! = if i=j then x else T[j]! := by
 by_cases hj:j<T.length
 ·rw [getElem!_pos (T.set i x) j (by simpa using hj),List.getElem_set,getElem!_pos T j hj]
 ·have h:¬ i=j:=by omega
  rw [if_neg h,getElem!_neg (T.set i x) j (by simpa using hj),getElem!_neg T j hj]
theorem yU:∀ (j:Nat) (T:List Int) (m:Nat),j≤m→m<T.length→(∀ p q,p<q→q≤m→p≠j→q≠j→T[p]! ≤ T[q]!)→(∀ q,j<q→q≤m→T[j]! ≤ T[q]!)→∀ p q,p<q→q≤m→(oQ j T)[p]! ≤ (oQ j T)[q]!
 | 0,T,m,_,hm,h1,h2,p,q,hpq,hq=>by
  show T[p]! ≤ T[q]!
  rcases Nat.eq_zero_or_pos p with hp | hp
  ·subst hp; exact h2 q hpq hq
  ·exact h1 p q hpq hq (by omega) (by omega)
 | j+1,T,m,hj,hm,h1,h2,p,q,hpq,hq=>by
  unfold oQ
  split
  ·rename_i hlt
   have hg:∀ i,((T.set (j+1) T[j]!).set j T[j+1]!)[i]! = if j=i then T[j+1]! else if j+1=i then T[j]! else T[i]! := fun i=>by
    rw [aZx (by simp; omega),aZx (by omega)]
   refine yU j _ m (by omega) (by simp; omega) (fun p q hpq hq hp hqj=>?_) (fun q hq1 hq2=>?_) p q hpq hq
   ·rw [hg,hg,if_neg (show ¬ j=p by omega),if_neg (show ¬ j=q by omega)]
    by_cases hp1:j+1=p
    ·rw [if_pos hp1,if_neg (show ¬ j+1=q by omega)]
     exact h1 j q (by omega) hq (by omega) (by omega)
    ·rw [if_neg hp1]
     by_cases hq1:j+1=q
     ·rw [if_pos hq1]
      exact h1 p j (by omega) (by omega) (by omega) (by omega)
     ·rw [if_neg hq1]
      exact h1 p q hpq hq (by omega) (by omega)
   ·rw [hg,hg,if_pos rfl,if_neg (show ¬ j=q by omega)]
    by_cases hq3:j+1=q
    ·rw [if_pos hq3]; omega
    ·rw [if_neg hq3]; exact h2 q (by omega) hq2
  ·rename_i hge
   have hle:T[j]! ≤ T[j+1]! := by omega
   by_cases hq1:q=j+1
   ·subst hq1
    by_cases hp1:p=j
    ·subst hp1; exact hle
    ·exact Int.le_trans (h1 p j (by omega) (by omega) (by omega) (by omega)) hle
   ·by_cases hp1:p=j+1
    ·subst hp1; exact h2 q hpq hq
    ·exact h1 p q hpq hq hp1 hq1
theorem xW (l:List Int):∀ k,k<l.length→∀ p q,p<q→q≤k→(jB l k)[p]! ≤ (jB l k)[q]!
 | 0,_,p,q,h1,h2=>by omega
 | k+1,hk,p,q,h1,h2=>by
  have ih:=xW l k (by omega)
  unfold jB
  exact yU (k+1) (jB l k) (k+1) (Nat.le_refl _) (by rw [dS]; exact hk) (fun p q a b c d=>ih p q a (by omega)) (fun q a b=>by omega) p q h1 h2
theorem wS (l:List Int):(dF l).Pairwise (·≤·):=by
 rw [List.pairwise_iff_getElem]
 intro i j hi hj hij
 have hl:(dF l).length=l.length:=dS l _
 have:=xW l (l.length - 1) (by omega) i j hij (by omega)
 unfold dF at *
 rwa [getElem!_pos (jB l (l.length - 1)) i hi,getElem!_pos (jB l (l.length - 1)) j hj] at this
theorem aVh {l m:List Int} (hl:l.Pairwise (·≤·)) (hm:m.Pairwise (·≤·)) (h:l.Perm m):l=m:=h.eq_of_pairwise (fun a b _ _ h1 h2=>Int.le_antisymm h1 h2) hl hm
theorem bLd {l m:List Int} (hm:m.Pairwise (·≤·)) (h:m.Perm l):dF l=m:=aVh (wS l) hm ((lN l).trans h.symm)
end Go.Am
end
section
open List renaming map_map→ζ,mapM_map→ξ
open Go Go.Am Go.Proofs
namespace Go.Am
def iD:Nat→Nat→Nat
 | 0,_=>0
 | k+1,s=>s % 2+iD k (s / 2)
def eN {α:Type}:List α→Nat→List α
 | [],_=>[]
 | x::l,s=>if s % 2=1 then x::eN l (s / 2) else eN l (s / 2)
theorem oS {α:Type}:∀ (l:List α) (s:Nat),(eN l s).length=iD l.length s
 | [],s=>rfl
 | x::l,s=>by
  unfold eN
  split
  ·rename_i h; rw [List.length_cons,oS l,List.length_cons,iD,h]; omega
  ·rename_i h; rw [oS l,List.length_cons,iD]; omega
theorem aCd {α:Type} (x:α):∀ (l:List α) (s:Nat),eN (l++[x]) s=eN l s++if s / 2 ^ l.length % 2=1 then [x] else []
 | [],s=>by simp only [eN,List.nil_append,List.length_nil,Nat.pow_zero,Nat.div_one]
 | y::l,s=>by
  simp only [List.cons_append,eN,aCd x l,List.length_cons]
  have e:s / 2 ^ (l.length+1)=s / 2 / 2 ^ l.length:=by rw [Nat.pow_succ,Nat.mul_comm (2 ^ l.length) 2,← Nat.div_div_eq_div_mul]
  simp only [e]
  split <;> simp
theorem pJ:∀ (k m s:Nat),s<2 ^ k→iD (k+m) s=iD k s
 | 0,m,s,h=>by
  have:s=0:=by simpa using h
  subst this
  have h0:∀ n,iD n 0=0:=fun n=>by
   induction n with
   | zero=>rfl
   | succ n ih=>simp [iD,ih]
  rw [h0,h0]
 | k+1,m,s,h=>by
  rw [show k+1+m=(k+m)+1 from by omega]
  unfold iD
  rw [pJ k m (s / 2) (by rw [Nat.pow_succ] at h; omega)]
theorem bCe (a:Nat) (ha:a<4294967296):bits .and .u32 (a:Int) 1=((a % 2:Nat):Int):=by
 have h1:(BitVec.ofInt 32 (a:Int)).toNat=a:=by
  rw [BitVec.ofInt_natCast,BitVec.toNat_ofNat]; exact Nat.mod_eq_of_lt (by omega)
 have h2:(BitVec.ofInt 32 (1:Int)).toNat=1:=by decide
 show IntKind.u32.wrap ((BitVec.ofInt 32 (a:Int) &&& BitVec.ofInt 32 (1:Int)).toNat:Int)=_
 rw [BitVec.toNat_and,h1,h2,Nat.and_one_is_mod,IntKind.wrap_u32]
 omega
theorem bEp (s i:Nat) (hi:i≤32):dV .shr .u32 (s:Int) (i:Int)=some (.i .u32 ((s / 2 ^ i:Nat):Int)):=by
 simp only [dV,IntKind.bits]
 rw [if_neg (by omega)]
 congr 2
 rw [show min (i:Int).toNat 32=i from by omega,Int.fdiv_eq_ediv_of_nonneg _ (Int.le_of_lt (Int.pow_pos (by decide)))]
 rw [show (2:Int) ^ i=((2 ^ i:Nat):Int) from by simp]
 rfl
theorem aHz {k:Nat} (hk:0<k) (l:List (List D)) (h:∀ x∈l,x.length=k):chunk k l.length l.flatten=l:=by
 induction l with
 | nil=>rfl
 | cons a l ih =>
  have ha:=h a (List.mem_cons_self ..)
  have:=ih fun x hx=>h x (List.mem_cons_of_mem _ hx)
  unfold chunk at this ⊢
  rw [List.length_cons,List.range_succ_eq_map,List.map_cons,List.map_map,List.flatten_cons]
  congr 1
  ·simp [← ha]
  ·conv=>rhs; rw [← this]
   apply List.map_congr_left
   intro i _
   simp only [Function.comp]
   rw [show Nat.succ i * k=a.length+i * k from by rw [Nat.succ_mul,ha,Nat.add_comm],List.drop_append,List.drop_eq_nil_of_le (by omega)]
   simp
def dR (l:List (Nat × Nat)):List D:=(l.map fun x=>[.i .u64 (x.1:Int),.i .u64 (x.2:Int)]).flatten
theorem aEk (l:List (Nat × Nat)):(dR l).length=l.length * 2:=by
 unfold dR
 induction l with
 | nil=>rfl
 | cons x l ih=>simp only [List.map_cons,List.flatten_cons,List.length_append,ih,List.length_cons,List.length_nil]; omega
theorem bAu (p v:Nat):dR [(p,v)]=[.i .u64 p,.i .u64 v]:=rfl
theorem uR {l:List (Nat × Nat)} {n:Nat} (h:l.length=n):((dR l).map AV.d).take (n * 2)=(dR l).map AV.d:=List.take_of_length_le (by rw [List.length_map,aEk,h]; exact Nat.le_refl _)
theorem aIa {l:List (Nat × Nat)} {n:Nat} (h:l.length=n):chunk 2 n (dR l)=l.map fun x=>[D.i .u64 (x.1:Int),D.i .u64 (x.2:Int)]:=by
 subst h
 have:=aHz (k:=2) (by decide) (l.map fun x=>[D.i .u64 (x.1:Int),D.i .u64 (x.2:Int)]) (fun x hx=>by
  obtain ⟨y,_,rfl⟩:=List.mem_map.1 hx; rfl)
 rwa [List.length_map] at this
theorem bNb {H:Hp} {id:Nat} {e:TypeId} {T:List (Nat × Nat)} {n:Nat} (hn:T.length=n) (hH:H id=some (.cells e ((dR T).map AV.d))):frz H 8 (.own id 0 n 2)=some (nT T):=by
 have e1:=uR hn
 have e2:=aIa hn
 have e3:=aEk T
 rw [hn] at e3
 simp [-ζ,-ξ,yC,hH,e1,e2,e3,nT]
def rsL (l:List (Nat × Nat × Nat)):List (Nat × Nat):=l.map (·.2)
def chS (L:List (List D)) (s n i:Nat):List (Nat × Nat)→St
 | []=>StL [(1,.d (.i .u32 s)),(5,.nil),(8,.d (.sl L)),(9,.d (.i .i64 n)),(10,.d (.i .i64 i))] none []
 | x::T=>StL [(1,.d (.i .u32 s)),(5,.own 1 0 (T.length+1) 2),(8,.d (.sl L)),(9,.d (.i .i64 n)),(10,.d (.i .i64 i))] none [.cells 76 ((dR (x::T)).map .d)]
theorem bIk (x:Nat × Nat) (a b:List (Nat × Nat)):dR (x::(a++b))=dR (x::a)++dR b:=by simp [dR]
set_option maxHeartbeats 4000000 in
set_option maxRecDepth 10000 in
theorem aMb [M:Mch Tryz.prog] (l:List (Nat × Nat × Nat)) (s:Nat) (hl:l.length≤30) (hs:s<4294967296):Spec Tryz.prog 47 [fW l,.i .u32 s] (nT (eN (rsL l) s)):=by
 obtain ⟨L,hL,hLl,hLg⟩:=dN l
 rw [hL]
 refine bH (N:=27) Tryz.func47 ?_
 simp [-ζ,-ξ,↓KW]
 refine bN (τ:=Nat) (fun i=>i≤l.length) (fun i=>chS L s L.length i (eN (rsL (l.take i)) s)) (fun i=>l.length - i) 0 (Nat.zero_le _) ?_ ?_
 ·rw [List.take_zero]
  show ∃ ρ,Wk _ (chS _ _ _ _ []) ρ
  unfold chS
  refine wkQ [] ?_ ?_ <;> simp [-ζ,upd,aS,Γ0]
 ·intro i hi
  by_cases hlt:i<l.length
  ·obtain ⟨⟨w,p,v⟩,hge⟩:∃ x,l[i]? = some x:=⟨_,List.getElem?_eq_getElem hlt⟩
   have hLi:=hLg i _ hge
   simp only at hLi
   have hLi':=cZ hLi
   have hiL:i<L.length:=by omega
   have hT1:rsL (l.take (i+1))=rsL (l.take i)++[(p,v)]:=by rw [List.take_add_one,hge]; simp [rsL]
   have hB1:eN (rsL (l.take (i+1))) s=eN (rsL (l.take i)) s++if s / 2 ^ i % 2=1 then [(p,v)] else []:=by
    rw [hT1,aCd]
    have:(rsL (l.take i)).length=i:=by simp [rsL]; omega
    rw [this]
   have hBl:(eN (rsL (l.take i)) s).length≤i:=by
    have h1:=oS (rsL (l.take i)) s
    have h2:∀ k s,iD k s≤k:=fun k=>by
     induction k with
     | zero=>intro s; simp [iD]
     | succ k ih=>intro s; have:=ih (s / 2); simp only [iD]; omega
    have h3:(rsL (l.take i)).length=i:=by simp [rsL]; omega
    have:=h2 (rsL (l.take i)).length s
    omega
   have hw1:IntKind.i64.wrap ((i:Int)+1)=((i+1:Nat):Int):=bB
   have hw0:IntKind.i64.wrap (i:Int)=i:=bB
   have hsh:=bEp s i (by omega)
   have hx32:s / 2 ^ i<4294967296:=Nat.lt_of_le_of_lt (Nat.div_le_self ..) hs
   have hand:dL .and false (.d (.i .u32 ((s / 2 ^ i:Nat):Int))) (.d (.i .u32 1))=some (.i .u32 ((s / 2 ^ i % 2:Nat):Int)):=by
    show some (D.i .u32 (bits .and .u32 ((s / 2 ^ i:Nat):Int) 1))=_
    rw [bCe _ hx32]
   generalize s / 2 ^ i=z at *
   generalize eN (rsL (l.take i)) s=T at *
   by_cases hz:z % 2=1
   ·rw [if_pos hz] at hB1
    rw [hz] at hand
    cases T with
    | nil =>
     have hm1:(1:Nat)≤maxLen:=bV (by decide)
     simp [-ζ,-ξ,↓KW,chS,hiL,hLi,hLi',hsh,hand,hw0,hw1,hm1]
     refine aN (i+1) (by omega) (by show l.length - (i+1)<l.length - i; omega) ?_
     show ∃ ρ,Wk _ (chS _ _ _ _ _) ρ
     rw [hB1]
     show ∃ ρ,Wk _ (chS _ _ _ _ ((p,v)::[])) ρ
     unfold chS
     refine wkQ [3] ?_ ?_ <;> simp [-ζ,upd,aS,Γ0,List.contains_cons,bQ,bAu]
    | cons x T =>
     have hbb:(T.length+1) * 16≤140737488355328∧T.length+1≤1099511627776∧(T.length+1+1) * 16≤140737488355328∧T.length+1+1≤1099511627776:=by
      simp only [List.length_cons] at hBl; omega
     simp [-ζ,-ξ,↓KW,chS,hiL,hLi,hLi',hsh,hand,hw0,hw1,aEk,hbb,bV]
     refine aN (i+1) (by omega) (by show l.length - (i+1)<l.length - i; omega) ?_
     show ∃ ρ,Wk _ (chS _ _ _ _ _) ρ
     rw [hB1]
     show ∃ ρ,Wk _ (chS _ _ _ _ (x::(T++[(p,v)]))) ρ
     unfold chS
     refine wkQ [4] ?_ ?_ <;> simp [-ζ,upd,aS,Γ0,List.contains_cons,bQ,bIk,bAu]
   ·rw [if_neg hz,List.append_nil] at hB1
    have hz0:z % 2=0:=by omega
    rw [hz0] at hand
    cases T with
    | nil =>
     simp [-ζ,-ξ,↓KW,chS,hiL,hLi,hLi',hsh,hand,hw0,hw1]
     refine aN (i+1) (by omega) (by show l.length - (i+1)<l.length - i; omega) ?_
     show ∃ ρ,Wk _ (chS _ _ _ _ _) ρ
     rw [hB1]
     unfold chS
     refine wkQ [] ?_ ?_ <;> simp [-ζ,upd,aS,Γ0]
    | cons x T =>
     simp [-ζ,-ξ,↓KW,chS,hiL,hLi,hLi',hsh,hand,hw0,hw1]
     refine aN (i+1) (by omega) (by show l.length - (i+1)<l.length - i; omega) ?_
     show ∃ ρ,Wk _ (chS _ _ _ _ _) ρ
     rw [hB1]
     unfold chS
     refine wkQ [1] ?_ ?_ <;> simp [-ζ,upd,aS,Γ0]
  ·have hiL:¬ i<L.length:=by omega
   rw [List.take_of_length_le (show l.length≤i by omega)]
   generalize eN (rsL l) s=T at *
   cases T with
   | nil =>
    simp [-ζ,-ξ,↓KW,chS,hiL]
    refine bG ?_
    simp [-ζ,-ξ,↓KW,nT]
   | cons x T =>
    have hf:∀ H:Hp,H 1=some (.cells 76 ((dR (x::T)).map AV.d))→frz H 8 (.own 1 0 (T.length+1) 2)=some (nT (x::T)):=fun H hH=>bNb rfl hH
    have e1:=uR (l:=x::T) (n:=T.length+1) rfl
    have e2:=aIa (l:=x::T) (n:=T.length+1) rfl
    have e3:=aEk (x::T)
    rw [show (x::T).length=T.length+1 from rfl] at e3
    simp [-ζ,-ξ,↓KW,chS,hiL]
    refine bG ?_
    simp [-ζ,-ξ,↓KW,nT,e1,e2,e3]
def blL (z:Int) (l:List (Nat × Nat × Nat)):List Int:=(l.filter fun x=>z % (x.2.1:Int) != (x.2.2:Int)).map fun x=>(x.1:Int)
theorem yX (z:Int) (l:List (Nat × Nat × Nat)) (w p v:Nat):blL z (l++[(w,p,v)])=blL z l++if z % (p:Int)=(v:Int) then [] else [(w:Int)]:=by
 unfold blL
 rw [List.filter_append,List.map_append]
 congr 1
 by_cases h:z % (p:Int)=(v:Int) <;> simp [h]
theorem tT (z:Int) (l:List (Nat × Nat × Nat)):(blL z l).length≤l.length:=by
 unfold blL; rw [List.length_map]; exact List.length_filter_le ..
theorem bAl (x:Int) (a b:List Int):dzI (x::(a++b))=dzI (x::a)++dzI b:=by simp [dzI]
theorem wD (x:Int):dzI [x]=[.i .i64 x]:=rfl
theorem mW {l:List Int} {n:Nat} (h:l.length=n):List.take n ((dzI l).map AV.d)=(dzI l).map AV.d:=List.take_of_length_le (by simp [dzI,h])
theorem tR {l:List Int} {n:Nat} (h:l.length=n):chunk 1 n (dzI l)=l.map fun x=>[D.i .i64 x]:=by
 rw [tQ _ _ (by rw [eF]; exact h.symm)]; simp [dzI]
def bS (z:Int) (L:List (List D)) (n i:Nat):List Int→St
 | []=>StL [(2,.ptr 1 0),(5,.nil),(8,.d (.sl L)),(9,.d (.i .i64 n)),(10,.d (.i .i64 i))] none [.cells 31 [.d (.b (decide (z<0))),.d (aG (aR z.natAbs))]]
 | x::T=>StL [(2,.ptr 1 0),(5,.own 2 0 (T.length+1) 1),(8,.d (.sl L)),(9,.d (.i .i64 n)),(10,.d (.i .i64 i))] none [.cells 31 [.d (.b (decide (z<0))),.d (aG (aR z.natAbs))],.cells 3 ((dzI (x::T)).map .d)]
set_option maxHeartbeats 4000000 in
set_option maxRecDepth 10000 in
theorem aCc [M:Mch Tryz.prog] (z:Int) (l:List (Nat × Nat × Nat)) (hl:l.length≤12) (hz:Sz z) (hp:∀ x∈l,0<x.2.1∧x.2.1≤2147483648) (hP:∀ x∈l,Spec Tryz.prog 52 [.i .u64 (x.2.1:Nat)] (.b true)) :
  Spec Tryz.prog 16 [encZ z,fW l] (ezI (dF (blL z l))):=by
 obtain ⟨L,hL,hLl,hLg⟩:=dN l
 rw [hL]
 refine bH (N:=39) Tryz.func16 ?_
 simp [-ζ,-ξ,↓KW,bT z,aA,aE,aC,aF,aB]
 refine bN (τ:=Nat) (fun i=>i≤l.length) (fun i=>bS z L L.length i (blL z (l.take i))) (fun i=>l.length - i) 0 (Nat.zero_le _) ?_ ?_
 ·rw [List.take_zero]
  show ∃ ρ,Wk _ (bS _ _ _ _ []) ρ
  unfold bS
  refine wkQ [1] ?_ ?_ <;> simp [-ζ,upd,aS,Γ0]
 ·intro i hi
  by_cases hlt:i<l.length
  ·obtain ⟨⟨w,p,v⟩,hge⟩:∃ x,l[i]? = some x:=⟨_,List.getElem?_eq_getElem hlt⟩
   have hmem:=List.mem_of_getElem? hge
   have hLi:=hLg i _ hge
   simp only at hLi
   have hLi':=cZ hLi
   have hiL:i<L.length:=by omega
   have hT1:blL z (l.take (i+1))=blL z (l.take i)++if z % (p:Int)=(v:Int) then [] else [(w:Int)]:=by
    rw [List.take_add_one,hge,Option.toList_some,yX]
   have hBl:(blL z (l.take i)).length≤i:=Nat.le_trans (tT _ _) (by rw [List.length_take]; omega)
   have hw1:IntKind.i64.wrap ((i:Int)+1)=((i+1:Nat):Int):=bB
   have hPp:Spec Tryz.prog 52 [.i .u64 (p:Nat)] (.b true):=hP _ hmem
   have hRd:=aNp p z (hp _ hmem).1 (hp _ hmem).2 hz
   generalize blL z (l.take i)=T at *
   generalize z % (p:Int)=r at *
   by_cases hr:r=(v:Int)
   ·rw [if_pos hr,List.append_nil] at hT1
    cases T with
    | nil =>
     simp [-ζ,-ξ,↓KW,bS,hiL,hLi,hLi',hw1,aA,aE,aC,aF,aB]
     refine aH hPp ?_
     simp [-ζ,-ξ,↓KW,aA,aE,aC,aF,aB]
     refine aH hRd ?_
     simp [-ζ,-ξ,↓KW,hr,hw1]
     refine aN (i+1) (by omega) (by show l.length - (i+1)<l.length - i; omega) ?_
     show ∃ ρ,Wk _ (bS _ _ _ _ _) ρ
     rw [hT1]
     unfold bS
     refine wkQ [1] ?_ ?_ <;> simp [-ζ,upd,aS,Γ0]
    | cons x T =>
     simp [-ζ,-ξ,↓KW,bS,hiL,hLi,hLi',hw1,aA,aE,aC,aF,aB]
     refine aH hPp ?_
     simp [-ζ,-ξ,↓KW,aA,aE,aC,aF,aB]
     refine aH hRd ?_
     simp [-ζ,-ξ,↓KW,hr,hw1]
     refine aN (i+1) (by omega) (by show l.length - (i+1)<l.length - i; omega) ?_
     show ∃ ρ,Wk _ (bS _ _ _ _ _) ρ
     rw [hT1]
     unfold bS
     refine wkQ [1,2] ?_ ?_ <;> simp [-ζ,upd,aS,Γ0]
   ·rw [if_neg hr] at hT1
    have hr':(r != (v:Int))=true:=by simp [hr]
    cases T with
    | nil =>
     have hm1:(1:Nat)≤maxLen:=bV (by decide)
     simp [-ζ,-ξ,↓KW,bS,hiL,hLi,hLi',hw1,aA,aE,aC,aF,aB]
     refine aH hPp ?_
     simp [-ζ,-ξ,↓KW,aA,aE,aC,aF,aB]
     refine aH hRd ?_
     simp [-ζ,-ξ,↓KW,hr,hr',hw1,hm1]
     refine aN (i+1) (by omega) (by show l.length - (i+1)<l.length - i; omega) ?_
     show ∃ ρ,Wk _ (bS _ _ _ _ _) ρ
     rw [hT1]
     show ∃ ρ,Wk _ (bS _ _ _ _ ((w:Int)::[])) ρ
     unfold bS
     refine wkQ [1,4] ?_ ?_ <;> simp [-ζ,upd,aS,Γ0,List.contains_cons,bQ,wD]
    | cons x T =>
     have hbb:=dY (n:=T.length+1) (by simp only [List.length_cons] at hBl; omega)
     simp [-ζ,-ξ,↓KW,bS,hiL,hLi,hLi',hw1,aA,aE,aC,aF,aB]
     refine aH hPp ?_
     simp [-ζ,-ξ,↓KW,aA,aE,aC,aF,aB]
     refine aH hRd ?_
     simp [-ζ,-ξ,↓KW,hr,hr',hw1,eF,hbb,bV]
     refine aN (i+1) (by omega) (by show l.length - (i+1)<l.length - i; omega) ?_
     show ∃ ρ,Wk _ (bS _ _ _ _ _) ρ
     rw [hT1]
     show ∃ ρ,Wk _ (bS _ _ _ _ (x::(T++[(w:Int)]))) ρ
     unfold bS
     refine wkQ [1,5] ?_ ?_ <;> simp [-ζ,upd,aS,Γ0,List.contains_cons,bQ,bAl,wD]
  ·have hiL:¬ i<L.length:=by omega
   rw [List.take_of_length_le (show l.length≤i by omega)]
   have hTl:=tT z l
   generalize blL z l=T at *
   cases T with
   | nil =>
    simp [-ζ,-ξ,↓KW,bS,hiL]
    refine bG ?_
    simp [-ζ,-ξ,↓KW]
    have h0:ezI (dF [])=.sl []:=rfl
    refine aRq (h:=.nil) (ds:=[]) (r:=.tp []) (l:=[]) (by simp) (by rfl) (by rfl) (by rfl) (by rfl) (by rfl) (aFf (d:=.sl []) (by rfl) bLf) ?_
    simp [-ζ,-ξ,↓KW,h0]
   | cons x T =>
    have hsl:(x::T).length≤12:=by omega
    have hSo:=bOm (x::T) hsl
    have hlen:(dzI (dF (x::T))).length=(dzI (x::T)).length:=by rw [eF,eF]; exact dS _ _
    have hSl:(dF (x::T)).length=T.length+1:=dS _ _
    have e1:=mW hSl
    have e2:=tR hSl
    have e3:=eF (dF (x::T))
    rw [hSl] at e3
    have hno1:=mM 3 (x::T)
    have hno2:=mM 3 (dF (x::T))
    have e4:ezI (dF (x::T))=.sl ((dF (x::T)).map fun x=>[D.i .i64 x]):=rfl
    rw [show (x::T).length=T.length+1 from rfl] at hSo
    generalize dF (x::T)=S at *
    simp [-ζ,-ξ,↓KW,bS,hiL]
    refine bG ?_
    simp [-ζ,-ξ,↓KW]
    refine lQ (by simp) ?_
    refine iB (id:=2) (h:=.own 0 0 (T.length+1) 1) (by rfl) hno1 (by rfl) (by rfl) hSo (by simp [HO.len,hlen]) hno2 ?_
    simp [-ζ,-ξ,↓KW,e4,e1,e2,e3]
theorem qH (p:Nat):∀ l:List Nat,bI (l++[p])=bI l * p
 | []=>by simp [bI]
 | x::l=>by simp only [List.cons_append,bI,qH p l,Nat.mul_assoc]
set_option maxHeartbeats 4000000 in
set_option maxRecDepth 10000 in
theorem bHz [M:Mch Tryz.prog] (l:List Nat) (b:Nat) (hl:l.length≤1000) (hb:b<2 ^ 200) (h1:∀ p∈l,0<p∧p<4294967296) (hB:bI l<2 ^ 255) :
  Spec Tryz.prog 44 [cP l,bU b] (.b (decide (2 * b<bI l))):=by
 obtain ⟨L,hL,hLl,hLg⟩:=yK l
 have hO:=mS (n:=1) (by omega)
 have hA:=aTn (x:=b) (y:=b) (by omega) (by omega)
 rw [← Nat.two_mul] at hA
 rw [hL]
 obtain ⟨c,hc⟩:∃ c,2 * b=c:=⟨_,rfl⟩
 have hc2:c<2 ^ 201:=by omega
 rw [hc] at hA ⊢
 refine bH (N:=26) Tryz.func44 ?_
 simp [-ζ,-ξ,↓KW,aT b,aA,aE,aC,aF,aB]
 refine aH hO ?_
 simp [-ζ,-ξ,↓KW,aT 1,aA,aE,aC,aF,aB]
 have hq:∀ i,bI (l.take i)<2 ^ 255:=fun i=>Nat.lt_of_le_of_lt (lG (fun q hq=>(h1 q hq).1) i) hB
 refine bN (τ:=Nat) (fun i=>i≤l.length) (fun i=>StL [(3,.ptr 1 0),(5,.ptr 2 0),(9,.d (.sl L)),(10,.d (.i .i64 L.length)),(11,.d (.i .i64 i))] none [.cells 31 [.d (.b false),.d (aG (aR b))],.cells 31 [.d (.b false),.d (aG (aR (bI (l.take i))))]]) (fun i=>l.length - i) 0 (Nat.zero_le _) ?_ ?_
 ·rw [List.take_zero]
  refine wkQ [1,2] ?_ ?_ <;> simp [-ζ,upd,aS,Γ0,bI]
 ·intro i hi
  have hqi:=hq i
  by_cases hlt:i<l.length
  ·have hLi:=hLg i hlt
   have hge:l[i]? = some l[i]! := by rw [getElem!_pos l i hlt]; exact List.getElem?_eq_getElem hlt
   have hp:=h1 l[i]! (List.mem_of_getElem? hge)
   have hT:bI (l.take (i+1))=bI (l.take i) * l[i]! := by rw [List.take_add_one,hge]; exact qH _ _
   have hLi':=cZ hLi
   have hiL:i<L.length:=by omega
   have hw1:IntKind.i64.wrap ((i:Int)+1)=((i+1:Nat):Int):=bB
   have hW:=bOd (n:=l[i]!) (by omega)
   have hM:=aLc (x:=bI (l.take i)) (y:=l[i]!) (by omega) (by omega)
   rw [← hT] at hM
   obtain ⟨q',hq'⟩:∃ q',bI (l.take (i+1))=q':=⟨_,rfl⟩
   rw [hq'] at hM
   generalize l[i]! = p at *
   generalize bI (l.take i)=q at *
   simp [-ζ,-ξ,↓KW,hiL,hLi,hLi',aA,aE,aC,aF,aB]
   refine aH hW ?_
   simp [-ζ,-ξ,↓KW,aT p,aA,aE,aC,aF,aB]
   refine aH hM ?_
   simp [-ζ,-ξ,↓KW,aT q',hw1,aA,aE,aC,aF,aB]
   refine aN (i+1) (by omega) (by show l.length - (i+1)<l.length - i; omega) ?_
   show ∃ ρ,Wk _ (StL _ _ _) ρ
   rw [hq']
   refine wkQ [1,2] ?_ ?_ <;> simp [-ζ,upd,aS,Γ0]
  ·have hiL:¬ i<L.length:=by omega
   rw [List.take_of_length_le (show l.length≤i by omega)] at hqi ⊢
   obtain ⟨r,hC,hr⟩:=bAz (x:=bI l) (y:=c) (by omega) (by omega)
   have hd:decide (0<r)=decide (c<bI l):=by
    by_cases h:c<bI l
    ·rw [decide_eq_true h,decide_eq_true (hr.2 h)]
    ·rw [decide_eq_false h,decide_eq_false (fun h'=>h (hr.1 h'))]
   generalize bI l=q at *
   simp [-ζ,-ξ,↓KW,hiL]
   refine bG ?_
   simp [-ζ,-ξ,↓KW,aA,aE,aC,aF,aB]
   refine aH hA ?_
   simp [-ζ,-ξ,↓KW,aT c,aA,aE,aC,aF,aB]
   refine aH hC ?_
   simp [-ζ,-ξ,↓KW,hd]
set_option maxRecDepth 10000 in
theorem bNk [M:Mch Tryz.prog] (m:List Nat) (h:m.length≤1000000):Spec Tryz.prog 96 [aG m] (aG m):=by
 refine bH (N:=8) Tryz.func96 ?_
 cases m with
 | nil =>
  simp [-ζ,-ξ,↓KW,aG]
 | cons x m =>
  have hb:(m.length+1) * 4≤140737488355328∧m.length+1≤maxLen:=by
   simp only [List.length_cons] at h
   exact ⟨by omega,bV (by omega)⟩
  have e1:chunk 1 (m.length+1) (lms (x::m))=(x::m).map fun (x:Nat)=>[D.i .u32 (x:Int)]:=dM rfl
  have e2:(lms m).length=m.length:=by simp [lms]
  have e3:List.take m.length ((lms m).map AV.d)=(lms m).map AV.d:=List.take_of_length_le (by simp [lms])
  have e4:chunk 1 (m.length+1) (D.i .u32 (x:Int)::lms m)=(x::m).map fun (x:Nat)=>[D.i .u32 (x:Int)]:=e1
  have e5:∀ d,List.take (m.length+1) (AV.d d::(lms m).map AV.d)=AV.d d::(lms m).map AV.d:=fun d=>by rw [List.take_succ_cons,e3]
  simp [-ζ,-ξ,↓KW,aG,hb,e2,e3,e4,e5]
theorem bHg [M:Mch Tryz.prog] (x:Int) (hx:x.natAbs<2 ^ 256):Spec Tryz.prog 49 [encZ x] (bU x.natAbs):=by
 have hlen:(aR x.natAbs).length≤8:=dB (n:=x.natAbs) (k:=8) (Nat.lt_of_lt_of_le hx (by decide))
 have hC:=bNk (aR x.natAbs) (by omega)
 have hV:=lU (bW x.natAbs) (by omega) false
 rw [cE] at hV
 have hV':Spec Tryz.prog 95 [.b false,aG (aR x.natAbs)] (bU x.natAbs):=by rw [← dE]; exact hV
 refine bH (N:=7) Tryz.func49 ?_
 simp [-ζ,-ξ,↓KW,bT x,aA,aE,aC,aF,aB]
 refine aH hC ?_
 simp [-ζ,-ξ,↓KW,aA,aE,aC,aF,aB]
 refine aH hV' ?_
 simp [-ζ,-ξ,↓KW,aT x.natAbs,aA,aE,aC,aF,aB]
theorem aXn [M:Mch Tryz.prog] (s:Nat) (hs:s<1024):Spec Tryz.prog 45 [.i .u32 s] (.i .i64 (iD 10 s:Nat)):=by
 have h:((List.range 1024).all fun n=>match (iY Tryz.prog EP 100 20).call 45 [.i .u32 (n:Nat)] with | some (.i .i64 r)=>r == (iD 10 n:Nat) | _=>false)=true:=by kernel_rfl
 have:=List.all_eq_true.1 h s (List.mem_range.2 hs)
 split at this
 ·rename_i r hr
  rw [beq_iff_eq] at this
  subst this
  exact eP hr
 ·cases this
def vdE (e:Int):D:=.tp [.ag [.b false,.sl [],.sl []],.i .i64 e]
set_option maxHeartbeats 4000000 in
set_option maxRecDepth 10000 in
theorem bNj [M:Mch Tryz.prog] (z:Int) (L:List (List D)) (n:Int) (hz:Sz z) (h:z<0∨n<0):Spec Tryz.prog 10 [encZ z,.sl L,.i .i64 n] (vdE 1):=by
 have hSg:=rT z hz
 have h0:IntKind.i64.wrap 0=0:=by decide
 have hs:z.sign<0↔z<0:=by
  rw [jK]; split
  ·simp_all
  ·split <;> simp_all
 by_cases h1:z<0
 ·have h2:=hs.2 h1
  generalize z.sign=sg at *
  refine bH (N:=109) Tryz.func10 ?_
  simp [-ζ,-ξ,↓KW,bT z,aA,aE,aC,aF,aB]
  refine aH hSg ?_
  simp [-ζ,-ξ,↓KW,h2,vdE,eX]
 ·have h2:¬ z.sign<0:=fun h=>h1 (hs.1 h)
  have h3:n<0:=by omega
  generalize z.sign=sg at *
  refine bH (N:=109) Tryz.func10 ?_
  simp [-ζ,-ξ,↓KW,bT z,aA,aE,aC,aF,aB]
  refine aH hSg ?_
  simp [-ζ,-ξ,↓KW,h2,h3,vdE,eX]
theorem bLk [M:Mch Tryz.prog] (b:Nat) (hb:b<2 ^ 200):∃ s:Int,¬ s<0∧Spec Tryz.prog 41 [bU b] (.i .i64 s):=by
 have h:=rT (b:Int) (szN (by omega))
 rw [dE] at h
 refine ⟨_,?_,h⟩
 rw [jK]; split
 ·omega
 ·split <;> omega
set_option maxHeartbeats 4000000 in
set_option maxRecDepth 10000 in
theorem aSv [M:Mch Tryz.prog] (b:Nat) (l:List (Nat × Nat × Nat)) (n:Int) (hb:b<2 ^ 200) (hn:0≤n) (hl:l.length≤16) (hbad:¬ (nS l∧(pmL l).Nodup)) (hP:∀ x∈l,Spec Tryz.prog 52 [.i .u64 (x.2.1:Nat)] (.b true)):Spec Tryz.prog 10 [bU b,fW l,.i .i64 n] (vdE 40):=by
 obtain ⟨s,hs0,hSg⟩:=bLk b hb
 have hPr:=qG l false ⟨fun h=>(by cases h),fun h=>(hbad h).elim⟩ (by omega) hP
 obtain ⟨L,hL,hLl,hLg⟩:=dN l
 rw [hL] at hPr ⊢
 have hn0:¬ n<0:=by omega
 have hl16:¬ (16:Int)<(L.length:Int):=by omega
 have hL16:¬ 16<L.length:=by omega
 refine bH (N:=109) Tryz.func10 ?_
 simp [-ζ,-ξ,↓KW,aT b,aA,aE,aC,aF,aB]
 refine aH hSg ?_
 simp [-ζ,-ξ,↓KW,hs0,hn0,hl16,hL16,aA,aE,aC,aF,aB]
 refine aH hPr ?_
 simp [-ζ,-ξ,↓KW,vdE,eX]
set_option maxHeartbeats 4000000 in
set_option maxRecDepth 10000 in
theorem bIp [M:Mch Tryz.prog] (b:Nat) (l:List (Nat × Nat × Nat)) (n:Int) (hb:b<2 ^ 200) (hn:0≤n) (hl:l.length≤16) (hgood:nS l∧(pmL l).Nodup) (hP:∀ x∈l,Spec Tryz.prog 52 [.i .u64 (x.2.1:Nat)] (.b true)) (hf:(l.length:Int) / 2<n):Spec Tryz.prog 10 [bU b,fW l,.i .i64 n] (vdE 200):=by
 obtain ⟨s,hs0,hSg⟩:=bLk b hb
 have hPr:=qG l true ⟨fun h=>hgood,fun h=>rfl⟩ (by omega) hP
 obtain ⟨L,hL,hLl,hLg⟩:=dN l
 rw [hL] at hPr ⊢
 have hn0:¬ n<0:=by omega
 have hl16:¬ (16:Int)<(L.length:Int):=by omega
 have hL16:¬ 16<L.length:=by omega
 have hd2:((L.length:Int).tdiv 2)<n:=by rw [Int.tdiv_eq_ediv_of_nonneg (by omega)]; omega
 have hd3:(L.length:Int) / 2<n:=by omega
 have hw:IntKind.i64.wrap ((L.length:Int) / 2)=(L.length:Int) / 2:=bB
 refine bH (N:=109) Tryz.func10 ?_
 simp [-ζ,-ξ,↓KW,aT b,aA,aE,aC,aF,aB]
 refine aH hSg ?_
 simp [-ζ,-ξ,↓KW,hs0,hn0,hl16,hL16,aA,aE,aC,aF,aB]
 refine aH hPr ?_
 simp [-ζ,-ξ,↓KW,vdE,eX,hd2,hd3,hw]
def iX (l:List Nat):List Nat:=(dF (uI l)).map Int.toNat
theorem aCw (l:List Nat):uI (iX l)=dF (uI l):=by
 unfold uI iX
 rw [List.map_map]
 have:∀ x∈dF (uI l),((fun (p:Nat)=>(p:Int)) ∘ Int.toNat) x=x:=fun x hx=>by
  have hm:=(lN (uI l)).mem_iff.1 hx
  obtain ⟨p,_,rfl⟩:=List.mem_map.1 hm
  simp
 exact (List.map_congr_left this).trans (List.map_id _)
theorem jR (l:List Nat):(iX l).Perm l:=by
 have h:=(lN (uI l)).map Int.toNat
 have e:(uI l).map Int.toNat=l:=by
  unfold uI; rw [List.map_map]
  exact (List.map_congr_left (fun x _=>by simp)).trans (List.map_id _)
 rw [e] at h
 exact h
theorem bAj (l:List Nat):dzU (uI l)=dU l:=by simp [dzU,uI,dU]
theorem bHt {H:Hp} {id:Nat} {e:TypeId} {T:List Nat} {k:Nat} (hk:k≤T.length) (hH:H id=some (.cells e ((dU T).map AV.d))):frz H 8 (.own id 0 k 1)=some (cP (T.take k)):=by
 have e0:List.take k ((dU T).map AV.d)=(dU (T.take k)).map AV.d:=by simp [dU]
 have e2:=oP (l:=T.take k) (n:=k) (by rw [List.length_take]; omega)
 have e3:=gM T
 simp [-ζ,-ξ,yC,hH,e0,e2,e3,cP,hk]
theorem rC {B:Nat}:∀ {l:List Nat} {k:Nat},(∀ p∈l,p≤B)→l.length=k→bI l≤B ^ k
 | [],_,_,h=>by subst h; simp [bI]
 | p::l,0,_,h=>by simp at h
 | p::l,k+1,h,hk=>by
  rw [bI,Nat.pow_succ,Nat.mul_comm]
  exact Nat.mul_le_mul (rC (fun q hq=>h q (List.mem_cons_of_mem _ hq)) (by simpa using hk)) (h p (List.mem_cons_self ..))
theorem aZy {H:Hp} {x y:AV} {a b:D} (h1:frz H 8 x=some a) (h2:frz H 8 y=some b):cL H [x,y]=some [a,b]:=by simp [cL,h1,h2]
theorem aFk (l:List Nat):(iX l).length=l.length:=(jR l).length_eq
def aJj (z:Int) (l:List (Nat × Nat × Nat)):D:=.tp [.ag [.b (decide (z<0)),aG (aR z.natAbs),ezI (dF (blL z l))],.i .i64 0]
def zOf (l:List (Nat × Nat × Nat)) (s:Nat):Int:=aEl (eN (rsL l) s)
theorem aGo (l:List (Nat × Nat)):one (.d (nT l))=true:=rfl
theorem uT (l:List (Nat × Nat)):dH (.d (nT l))=some [.d (nT l)]:=rfl
theorem aBs (l:List (Nat × Nat)):aS (nT l)=.d (nT l):=rfl
theorem aHn (l:List (Nat × Nat)):inj (nT l)=.d (nT l):=rfl
theorem xT (H:Hp) (avs:List AV) (l:List (Nat × Nat)):bC H avs (nT l)=cG H avs:=rfl
def okS (b:Nat) (l:List (Nat × Nat × Nat)) (n s:Nat):Prop:=iD 10 s=l.length - 2 * n∧(zOf l s).natAbs≤b∧(blL (zOf l s) l).length≤n
def enR (b:Nat) (l:List (Nat × Nat × Nat)) (n:Nat):Prop:=2 * b<bI ((iX (pmL l)).take (l.length - 2 * n))
theorem jM (l:List Int):one (.d (ezI l))=true:=rfl
theorem fA (l:List Int):dH (.d (ezI l))=some [.d (ezI l)]:=rfl
theorem iH (l:List Int):aS (ezI l)=.d (ezI l):=rfl
theorem jO (l:List Int):inj (ezI l)=.d (ezI l):=rfl
theorem fT (H:Hp) (avs:List AV) (l:List Int):bC H avs (ezI l)=cG H avs:=rfl
theorem bNf (l:List Int):∃ L,ezI l=.sl L∧L.length=l.length:=⟨_,rfl,by simp⟩
def kB (P:List Nat) (n i:Nat):List Int:=uI (P.take i)++List.replicate (n - i) 0
theorem sK {α:Type}:∀ (l:List α) (s:Nat),(eN l s).Sublist l
 | [],s=>List.Sublist.refl _
 | x::l,s=>by
  unfold eN
  split
  ·exact (sK l _).cons_cons x
  ·exact (sK l _).cons x
theorem aPp {n:Int} (h1:0≤n) (h2:n<4294967296):IntKind.u32.wrap n=n:=by rw [IntKind.wrap_u32]; omega
theorem aNm (l:List (Nat × Nat × Nat)):prR (rsL l)=pmL l:=by simp [prR,rsL,pmL]
set_option maxHeartbeats 8000000 in
set_option maxRecDepth 10000 in
theorem aSu [M:Mch Tryz.prog] (b:Nat) (l:List (Nat × Nat × Nat)) (n B:Nat) (R:D) (hb:b<2 ^ 200) (hl:l.length≤12) (hl2:l.length - n≤10) (hgood:nS l∧(pmL l).Nodup) (hP:∀ x∈l,Spec Tryz.prog 52 [.i .u64 (x.2.1:Nat)] (.b true)) (hf:2 * n≤l.length)
  (hpr:∀ x∈l,PrN x.2.1∧x.2.1≤B) (hB31:B<2147483648) (hB:B ^ (l.length - 2 * n)<2 ^ 250)
  (hR0:¬ enR b l n→R=vdE 200) (hR1:enR b l n→∀ s,s<2 ^ (l.length - n)→okS b l n s→(∀ s',s'<s→¬ okS b l n s')→R=aJj (zOf l s) l) (hR2:enR b l n→(∀ s,s<2 ^ (l.length - n)→¬ okS b l n s)→R=vdE 201) :
  Spec Tryz.prog 10 [bU b,fW l,.i .i64 n] R:=by
 obtain ⟨s,hs0,hSg⟩:=bLk b hb
 have hPr:=qG l true ⟨fun h=>hgood,fun h=>rfl⟩ (by omega) hP
 obtain ⟨L,hL,hLl,hLg⟩:=dN l
 rw [hL] at hPr ⊢
 have hn0:¬ (n:Int)<0:=by omega
 have hl16:¬ (16:Int)<(L.length:Int):=by omega
 have hL16:¬ 16<L.length:=by omega
 have hd2:¬ ((L.length:Int).tdiv 2)<n:=by rw [Int.tdiv_eq_ediv_of_nonneg (by omega)]; omega
 have hd3:¬ (L.length:Int) / 2<n:=by omega
 have hw:IntKind.i64.wrap ((L.length:Int) / 2)=(L.length:Int) / 2:=bB
 have hm1:8 * (L.length:Int)≤281474976710656∧(L.length:Int)≤9223372036854775807:=by omega
 have hPl:(pmL l).length=l.length:=by simp [pmL]
 have hrep:List.replicate L.length (AV.d (D.i .u64 0))=(dzU (kB (pmL l) l.length 0)).map AV.d:=by simp [kB,uI,dzU,hLl]
 obtain ⟨D00,hD00⟩:∃ D00,dzU (kB (pmL l) l.length 0)=D00:=⟨_,rfl⟩
 rw [hD00] at hrep
 refine bH (N:=109) Tryz.func10 ?_
 simp [-ζ,-ξ,↓KW,aT b,aA,aE,aC,aF,aB]
 refine aH hSg ?_
 simp [-ζ,-ξ,↓KW,hs0,hn0,hl16,hL16,aA,aE,aC,aF,aB]
 refine aH hPr ?_
 simp [-ζ,-ξ,↓KW,hd2,hd3,hw]
 simp [-ζ,-ξ,↓KW,hm1,hrep]
 refine bN (τ:=Nat) (fun i=>i≤l.length) (fun i=>StL [(1,.d (.sl L)),(2,.d (.i .i64 n)),(3,.ptr 1 0),(6,.ptr 2 0),(7,.d (.i .i64 0)),(8,.own 3 0 L.length 1),(41,.d (.sl L)),(42,.d (.i .i64 L.length)),(43,.d (.i .i64 i))] none [.cells 31 [.d (.b false),.d (aG (aR b))],.cells 34 [.d (.b false),.nil,.nil],.cells 51 ((dzU (kB (pmL l) l.length i)).map .d)]) (fun i=>l.length - i) 0 (Nat.zero_le _) ?_ ?_
 ·rw [hD00]
  refine wkQ [1,2,3] ?_ ?_ <;> simp [-ζ,upd,aS,Γ0]
 ·intro i hi
  by_cases hlt:i<l.length
  ·obtain ⟨⟨w,p,v⟩,hge⟩:∃ x,l[i]? = some x:=⟨_,List.getElem?_eq_getElem hlt⟩
   have hLi:=hLg i _ hge
   simp only at hLi
   have hLi':=cZ hLi
   have hiL:i<L.length:=by omega
   have hw1:IntKind.i64.wrap ((i:Int)+1)=((i+1:Nat):Int):=bB
   have hw0:IntKind.i64.wrap (i:Int)=i:=bB
   have hfl:(dzU (kB (pmL l) l.length i)).length=L.length:=by rw [kV,kB]; simp [uI,pmL]; omega
   have hset:(dzU (kB (pmL l) l.length i)).set i (.i .u64 (p:Int))=dzU (kB (pmL l) l.length (i+1)):=by
    rw [aEi]
    congr 1
    unfold kB
    have hpg:(pmL l)[i]? = some p:=by unfold pmL; rw [List.getElem?_map,hge]; rfl
    have e1:(pmL l).take (i+1)=(pmL l).take i++[p]:=by rw [List.take_add_one,hpg]; rfl
    have e2:l.length - i=(l.length - (i+1))+1:=by omega
    have e3:(uI ((pmL l).take i)).length=i:=by simp [uI]; omega
    rw [e1,e2,List.replicate_succ,List.set_append_right _ _ (by omega),e3,Nat.sub_self,List.set_cons_zero]
    simp [uI]
   have e1:lay ((dzU (kB (pmL l) l.length i)).map AV.d) i [.d (.i .u64 (p:Int))]=(dzU (kB (pmL l) l.length (i+1))).map .d:=by rw [iV _ _ _ (by omega),hset]
   obtain ⟨D1,hD1⟩:∃ D1,dzU (kB (pmL l) l.length (i+1))=D1:=⟨_,rfl⟩
   rw [hD1] at e1
   generalize dzU (kB (pmL l) l.length i)=D0 at *
   have hiL1:i+1≤L.length:=by omega
   simp [-ζ,-ξ,↓KW,hiL,hLi,hLi',hw0,hw1,hfl,hiL1,e1]
   refine aN (i+1) (by omega) (by show l.length - (i+1)<l.length - i; omega) ?_
   show ∃ ρ,Wk _ (StL _ _ _) ρ
   rw [hD1]
   refine wkQ [1,2,3] ?_ ?_ <;> simp [-ζ,upd,aS,Γ0,e1]
  ·have hiL:¬ i<L.length:=by omega
   have hfi:kB (pmL l) l.length i=uI (pmL l):=by
    unfold kB
    rw [show l.length - i=0 from by omega,List.take_of_length_le (by omega)]; simp
   rw [hfi]
   simp [-ζ,-ξ,↓KW,hiL]
   refine bG ?_
   have hSo:=bOl (uI (pmL l)) (by simp [uI]; omega)
   have hlen:(dzU (dF (uI (pmL l)))).length=(dzU (uI (pmL l))).length:=by rw [kV,kV]; exact dS _ _
   have hno1:=mL 51 (uI (pmL l))
   have hno2:=mL 51 (dF (uI (pmL l)))
   have hul:(uI (pmL l)).length=L.length:=by simp [uI]; omega
   rw [hul,← aCw,bAj (iX (pmL l))] at hSo
   rw [← aCw,bAj (iX (pmL l))] at hlen hno2
   have hsl:(iX (pmL l)).length=L.length:=by rw [aFk]; omega
   have hsure:L.length - 2 * n≤(iX (pmL l)).length:=by omega
   have hmp:∀ p∈iX (pmL l),0<p∧p≤B:=fun p hp=>by
    have:=(jR (pmL l)).mem_iff.1 hp
    obtain ⟨x,hx,rfl⟩:=List.mem_map.1 this
    have h:=hpr x hx
    have:=h.1.1
    exact ⟨by omega,h.2⟩
   have htk:((iX (pmL l)).take (L.length - 2 * n)).length=L.length - 2 * n:=by rw [List.length_take]; omega
   have hpb:bI ((iX (pmL l)).take (L.length - 2 * n))≤B ^ (L.length - 2 * n):=rC (fun p hp=>(hmp p (List.mem_of_mem_take hp)).2) htk
   rw [hLl] at hpb
   have hpb2:bI ((iX (pmL l)).take (l.length - 2 * n))<2 ^ 255:=Nat.lt_of_le_of_lt hpb (Nat.lt_trans hB (by decide))
   rw [← hLl] at hpb2
   have hEn:=bHz ((iX (pmL l)).take (L.length - 2 * n)) b (by omega) hb (fun p hp=>by
    have:=hmp p (List.mem_of_mem_take hp); omega) hpb2
   have hEE:enR b l n↔2 * b<bI ((iX (pmL l)).take (L.length - 2 * n)):=by unfold enR; rw [hLl]
   have hfr:∀ H:Hp,H 3=some (.cells 51 ((dU (iX (pmL l))).map AV.d))→frz H 8 (.own 3 0 (L.length - 2 * n) 1)=some (cP ((iX (pmL l)).take (L.length - 2 * n))):=fun H hH=>bHt hsure hH
   have hwn2:IntKind.i64.wrap (2 * (n:Int))=2 * (n:Int):=bB
   have hwsu:IntKind.i64.wrap ((L.length:Int) - 2 * (n:Int))=((L.length - 2 * n:Nat):Int):=by
    have e:(L.length:Int) - 2 * (n:Int)=((L.length - 2 * n:Nat):Int):=by omega
    rw [e]; exact bB
   have hsle:L.length - 2 * n≤L.length:=by omega
   obtain ⟨su,hsu⟩:∃ su,L.length - 2 * n=su:=⟨_,rfl⟩
   rw [hsu] at hEn hEE hwsu hsle hsure
   simp only [hsu] at hfr
   generalize iX (pmL l)=SP at *
   generalize dzU (uI (pmL l))=D0 at *
   generalize hsEn:List.take su SP=SPs at *
   generalize hD1:dU SP=D1 at *
   simp [-ζ,-ξ,↓KW]
   refine lQ (by simp) ?_
   refine iB (id:=3) (h:=.own 0 0 L.length 1) (by rfl) hno1 (by rfl) (by rfl) hSo (by simp [HO.len,hlen]) hno2 ?_
   obtain ⟨X,hX,hfX⟩:∃ X,jV 1 (.own 3 0 L.length 1) 0 (su:Int) false=some X∧∀ H:Hp,H 3=some (.cells 51 (D1.map AV.d))→frz H 8 X=some (cP SPs):=by
    rcases Nat.eq_zero_or_pos su with h0 | h0
    ·refine ⟨.d (.sl []),by subst h0; simp [jV],fun H _=>?_⟩
     rw [← hsEn,h0,List.take_zero]; rfl
    ·refine ⟨.own 3 0 su 1,?_,fun H hH=>hfr H (by rw [hH])⟩
     have h1:¬ (0:Int)=(su:Int):=by omega
     have h2:(su:Int)≤(L.length:Int):=by omega
     simp [jV,hsle]
     omega
   simp [-ζ,-ξ,↓KW,hwn2,hwsu,hX,aA,aE,aC,aF,aB]
   refine bE (ds:=[cP SPs,bU b]) (aZy (hfX _ rfl) (by rfl)) hEn ?_
   by_cases hE:2 * b<bI SPs
   ·have hEr:=hEE.2 hE
    rw [decide_eq_true hE]
    obtain ⟨K,hK⟩:∃ K,L.length - n=K:=⟨_,rfl⟩
    have hKl:l.length - n=K:=by omega
    rw [hKl] at hR1 hR2
    have hK10:K≤10:=by omega
    have hN:(2:Nat) ^ K≤1024:=Nat.le_trans (Nat.pow_le_pow_right (by decide) hK10) (by decide)
    have hwk:IntKind.i64.wrap ((L.length:Int) - (n:Int))=(K:Int):=by
     rw [show (L.length:Int) - (n:Int)=(K:Int) from by omega]; exact bB
    have hshl:dV .shl .u32 1 (K:Int)=some (.i .u32 ((2 ^ K:Nat):Int)):=by
     simp only [dV,IntKind.bits]
     rw [if_neg (by omega)]
     congr 2
     rw [show min (K:Int).toNat 32=K from by omega,Int.one_mul,show (2:Int) ^ K=((2 ^ K:Nat):Int) from by simp]
     rw [IntKind.wrap_u32]
     generalize (2:Nat) ^ K=N at *
     omega
    replace hR1:=hR1 hEr
    replace hR2:=hR2 hEr
    generalize hNN:(2:Nat) ^ K=N at *
    simp [-ζ,-ξ,↓KW,hwk,hshl]
    refine bN (τ:=Nat) (fun s=>s≤N∧∀ s',s'<s→¬ okS b l n s') (fun s=>StL [(1,.d (.sl L)),(2,.d (.i .i64 n)),(3,.ptr 1 0),(6,.ptr 2 0),(7,.d (.i .i64 0)),(11,.d (.i .i64 su)),(73,.d (.i .u32 N)),(74,.d (.i .u32 s))] none [.cells 31 [.d (.b false),.d (aG (aR b))],.cells 34 [.d (.b false),.nil,.nil]]) (fun s=>N - s) 0 ⟨Nat.zero_le _,fun s' h=>by omega⟩ ?_ ?_
    ·refine wkQ [1,2] ?_ ?_ <;> simp [-ζ,upd,aS,Γ0]
    ·rintro s ⟨hs1,hs2⟩
     by_cases hsN:s<N
     ·have hOn:=aXn s (by omega)
      have hws:IntKind.u32.wrap ((s:Int)+1)=((s+1:Nat):Int):=aPp (by omega) (by omega)
      have hsK:s<2 ^ K:=by rw [hNN]; exact hsN
      have hp10:iD 10 s=iD K s:=by rw [show 10=K+(10 - K) from by omega]; exact pJ K _ s hsK
      have hpl:iD l.length s=iD K s:=by rw [show l.length=K+n from by omega]; exact pJ K _ s hsK
      have hsul:l.length - 2 * n=su:=by omega
      by_cases hpk:iD 10 s=su
      ·have hbl:(eN (rsL l) s).length=su:=by rw [oS,show (rsL l).length=l.length from by simp [rsL],hpl,← hp10,hpk]
       have hsub:=sK (rsL l) s
       have hmr:∀ x∈rsL l,∃ y∈l,y.2=x:=fun x hx=>by
        obtain ⟨y,hy,e⟩:=List.mem_map.1 hx; exact ⟨y,hy,e⟩
       have hPr2:aTr (eN (rsL l) s):=⟨fun x hx=>by
        obtain ⟨y,hy,rfl⟩:=hmr x (hsub.subset hx); exact (hpr y hy).1,fun x hx=>by
        obtain ⟨y,hy,rfl⟩:=hmr x (hsub.subset hx); exact hgood.1.2 y hy,by
        have h1:((rsL l).map (·.1)).Nodup:=by have:=hgood.2; rw [← aNm] at this; exact this
        exact (hsub.map (·.1)).nodup h1⟩
       have hbd:bI (prR (eN (rsL l) s))<2 ^ 250:=by
        refine Nat.lt_of_le_of_lt (rC (B:=B) (k:=su) (fun p hp=>?_) (by simp [prR,hbl])) (by rw [← hsul]; exact hB)
        obtain ⟨x,hx,rfl⟩:=List.mem_map.1 hp
        obtain ⟨y,hy,rfl⟩:=hmr x (hsub.subset hx); exact (hpr y hy).2
       have hCo:=aHw (eN (rsL l) s) hPr2 (by omega) hbd (fun x hx=>by
        obtain ⟨y,hy,rfl⟩:=hmr x (hsub.subset hx)
        have:=(hpr y hy).2; omega) (fun x hx=>by
        obtain ⟨y,hy,rfl⟩:=hmr x (hsub.subset hx); exact hP y hy)
       obtain ⟨_,hz1,hz2⟩:=aOz hPr2
       have hz3:(zOf l s).natAbs<2 ^ 250:=by
        unfold zOf
        have hbd':bI ((eN (rsL l) s).map (·.1))<2 ^ 250:=hbd
        generalize bI ((eN (rsL l) s).map (·.1))=Mx at *
        omega
       have hCh:=aMb l s (by omega) (by omega)
       rw [hL] at hCh
       have hzd:aEl (eN (rsL l) s)=zOf l s:=rfl
       rw [hzd] at hCo
       have hAb:=bHg (zOf l s) (by omega)
       obtain ⟨r,hCm,hr⟩:=bAz (x:=(zOf l s).natAbs) (y:=b) (by omega) (by omega)
       have hBl:=aCc (zOf l s) l hl (mG (by omega)) (fun x hx=>by
        have h1:=(hpr x hx).1.1
        have h2:=(hpr x hx).2
        omega) hP
       rw [hL] at hBl
       have hokd:okS b l n s↔(zOf l s).natAbs≤b∧(blL (zOf l s) l).length≤n:=⟨fun h=>h.2,fun h=>⟨by rw [hpk,hsul],h⟩⟩
       have hsl2:(dF (blL (zOf l s) l)).length=(blL (zOf l s) l).length:=dS _ _
       have hRok:=hR1 s hsN
       unfold aJj at hRok
       obtain ⟨BL,hBLe,hBLl⟩:=bNf (dF (blL (zOf l s) l))
       rw [hBLe] at hBl hRok
       rw [hsl2] at hBLl
       have hpk2:(((iD 10 s:Nat):Int) != (su:Int))=false:=by simp [hpk]
       have hcont:¬ okS b l n s→∀ s',s'<s+1→¬ okS b l n s':=fun hnok s' h=>by
        by_cases h':s'=s
        ·subst h'; exact hnok
        ·exact hs2 s' (by omega)
       generalize eN (rsL l) s=CR at *
       generalize iD 10 s=pk at *
       generalize hzz:zOf l s=z at *
       generalize (blL z l).length=bn at *
       simp [-ζ,-ξ,↓KW,hsN]
       refine aH hOn ?_
       simp [-ζ,-ξ,↓KW,hpk2,hpk,hws]
       refine aH hCh ?_
       simp [-ζ,-ξ,↓KW,aGo,uT,aBs,aHn,xT]
       refine aH hCo ?_
       simp [-ζ,-ξ,↓KW,bT z,aGo,uT,aBs,aHn,xT,aA,aE,aC,aF,aB]
       refine aH hAb ?_
       simp [-ζ,-ξ,↓KW,aT z.natAbs,aA,aE,aC,aF,aB]
       refine aH hCm ?_
       by_cases hzb:b<z.natAbs
       ·have hr1:=hr.2 hzb
        have hnok:¬ okS b l n s:=fun h=>by have:=(hokd.1 h).1; omega
        simp [-ζ,-ξ,↓KW,hr1,hws]
        refine aN (s+1) ⟨by omega,hcont hnok⟩ (by show N - (s+1)<N - s; omega) ?_
        show ∃ ρ,Wk _ (StL _ _ _) ρ
        refine wkQ [1,2] ?_ ?_ <;> simp [-ζ,upd,aS,Γ0]
       ·have hr1:¬ 0<r:=fun h=>hzb (hr.1 h)
        simp [-ζ,-ξ,↓KW,hr1,hws,aA,aE,aC,aF,aB]
        refine aH hBl ?_
        by_cases hbn:bn≤n
        ·have hR:=hRok (hokd.2 ⟨by omega,hbn⟩) hs2
         subst hR
         have hbn':(bn:Int)≤(n:Int):=by omega
         simp [-ζ,-ξ,↓KW,hBLl,hbn,hbn',aA,aE,aC,aF,aB,eX]
         exact bG (by simp [-ζ,-ξ,↓KW,aA,aE,aC,aF,aB,eX])
        ·have hbn':¬ (bn:Int)≤(n:Int):=by omega
         have hnok:¬ okS b l n s:=fun h=>hbn (hokd.1 h).2
         simp [-ζ,-ξ,↓KW,hBLl,hbn,hbn',hws]
         refine aN (s+1) ⟨by omega,hcont hnok⟩ (by show N - (s+1)<N - s; omega) ?_
         show ∃ ρ,Wk _ (StL _ _ _) ρ
         refine wkQ [1,2] ?_ ?_ <;> simp [-ζ,upd,aS,Γ0]
      ·have hnok:¬ okS b l n s:=fun h=>hpk (by have:=h.1; omega)
       have hpk1:(((iD 10 s:Nat):Int) != (su:Int))=true:=by simp; omega
       generalize iD 10 s=pk at *
       simp [-ζ,-ξ,↓KW,hsN]
       refine aH hOn ?_
       simp [-ζ,-ξ,↓KW,hpk1,hpk,hws]
       refine aN (s+1) ⟨by omega,fun s' h=>by
        by_cases h':s'=s
        ·subst h'; exact hnok
        ·exact hs2 s' (by omega)⟩ (by show N - (s+1)<N - s; omega) ?_
       show ∃ ρ,Wk _ (StL _ _ _) ρ
       refine wkQ [1,2] ?_ ?_ <;> simp [-ζ,upd,aS,Γ0]
     ·have hsN':s=N:=by omega
      have hR:=hR2 (fun s' h=>hs2 s' (by omega))
      subst hR
      simp [-ζ,-ξ,↓KW,hsN]
      refine bG ?_
      simp [-ζ,-ξ,↓KW,vdE,eX]
   ·have hR:=hR0 (fun h=>hE (hEE.1 h))
    rw [decide_eq_false hE]
    subst hR
    simp [-ζ,-ξ,↓KW,vdE,eX]
theorem aSt {x y c q r:Nat} (hc:0<c) (hy:0<y) (h:q * (y * c)+r=x * c) (hr:r<y * c):q=x / y∧r / c=x % y:=by
 have hq:x * c / (y * c)=q:=by
  have:=(Nat.div_mod_unique (Nat.mul_pos hy hc) (a:=x * c) (d:=q) (c:=r)).2 ⟨by rw [Nat.mul_comm (y * c)]; omega,hr⟩
  exact this.1
 rw [Nat.mul_div_mul_right _ _ hc] at hq
 refine ⟨hq.symm,?_⟩
 have h2:r=x % y * c:=by
  have h3:=Nat.div_add_mod x y
  rw [hq] at h3
  have h4:(y * q+x % y) * c=x * c:=by rw [h3]
  rw [Nat.add_mul] at h4
  have h5:y * q * c=q * (y * c):=by rw [Nat.mul_comm y,Nat.mul_assoc]
  omega
 rw [h2,Nat.mul_div_cancel _ hc]
theorem bAn {dt c:Nat} (htop:0<dt) (hs:dt * c<4294967296):∃ t,dt * c=t∧c≤t∧t<4294967296∧(t<2147483648→dt * (2 * c)<4294967296) :=
 ⟨_,rfl,Nat.le_mul_of_pos_left _ htop,hs,fun h=>by rw [Nat.mul_left_comm]; omega⟩
def zq (q:Nat):AV:=if q=0 then .nil else .d (aG (aR q))
theorem rY {x c n:Nat} (h1:(aR x).length≤n) (h2:c<4294967296):(aR (x * c)).length≤n+1 :=
 dB (by rw [Nat.pow_succ]; exact Nat.mul_lt_mul'' (jX h1) h2)
theorem bCi [M:Mch Tryz.prog] {x c X:Nat} (h:x+c=X) (h1:(aR (x:Int).natAbs).length≤549755813888) (h2:(aR (c:Int).natAbs).length≤549755813888):Spec Tryz.prog 22 [encZ (x:Int),encZ (c:Int)] (encZ (X:Int)):=by
 have:=vT (x:Int) (c:Int) h1 h2
 rwa [← Int.natCast_add,h] at this
theorem aVd [M:Mch Tryz.prog] {x c X:Nat} (h:x=X+c) (h1:(aR (x:Int).natAbs).length≤549755813888) (h2:(aR (c:Int).natAbs).length≤549755813888):Spec Tryz.prog 65 [encZ (x:Int),encZ (c:Int)] (encZ (X:Int)):=by
 have:=aDi (x:Int) (c:Int) h1 h2
 rwa [show (x:Int) - c=X by omega] at this
theorem bAr {q Y r X e E r':Nat} (hp:q * Y+r=X) (hE:e * Y=E) (hr:r=r'+E) (he:0<e) (hY:0<Y):(q+e) * Y+r'=X∧r'<r∧q+e≤X∧E≤X:=by
 have h1:(q+e) * Y+r'=X:=by rw [Nat.add_mul,hE]; omega
 have h2:0<E:=by rw [← hE]; exact Nat.mul_pos he hY
 have h3:q+e≤(q+e) * Y:=Nat.le_mul_of_pos_right _ hY
 exact ⟨h1,by omega,by omega,by omega⟩
theorem aYp {c:Nat} (h:c<4294967296):(aR (c:Int).natAbs).length≤1:=dB (by simpa using h)
theorem xP [M:Mch Tryz.prog] {x c X:Nat} (h:x * c=X) (h1:(aR (x:Int).natAbs).length≤137438953472) (h2:(aR (c:Int).natAbs).length≤137438953472):Spec Tryz.prog 24 [encZ (x:Int),encZ (c:Int)] (encZ (X:Int)):=by
 have:=aNt (x:Int) (c:Int) h1 h2
 rwa [← Int.natCast_mul,h] at this
theorem aYi [M:Mch Tryz.prog] (n:Nat) (hn:n<4294967296):Spec Tryz.prog 18 [aG [n],.b false] (encZ (n:Int)):=by
 have hm:=eD [n] false (by simp)
 rw [cN (.one hn)] at hm
 simpa [val,sg] using hm
set_option maxRecDepth 10000 in
theorem aRb [M:Mch Tryz.prog] (x y qq rr:Nat) (hqq:x / y=qq) (hrr:x % y=rr) (hy:0<y) (hlx:(aR x).length≤130000000000) (hly:(aR y).length≤130000000000):Spec Tryz.prog 178 [aG (aR x),aG (aR y)] (.tp [encZ (qq:Int),encZ (rr:Int)]):=by
 refine bH (N:=86) Tryz.func178 ?_
 have lx:=bW x
 have ly:=bW y
 have vx:=cE x
 have vy:=cE y
 have cy:=nA y
 have hne:aR y≠[]:=fun h=>by rw [gY] at h; omega
 have hyl:0<(aR y).length:=List.length_pos_iff.2 hne
 have hmx:∀ n:Nat,n<4294967296→Spec Tryz.prog 18 [aG [n],.b false] (encZ (n:Int)):=fun n hn=>by
  have hm:=eD [n] false (by simp)
  rw [cN (.one hn)] at hm
  simpa [val,sg] using hm
 by_cases h1:(aR y).length=1
 ·obtain ⟨d,hd⟩:=List.length_eq_one_iff.1 h1
  have hdl:d<4294967296:=ly d (by rw [hd]; simp)
  have hdv:d=y:=by rw [hd] at vy; simpa [val] using vy
  have hs:=aGb (aR x) d lx (by omega) hdl (by omega)
  obtain ⟨s1,s2,s3,_⟩:=aCz (a:=aR x) (d:=d) lx (by omega)
  have hm1:=eD (shQ (aR x) d) false (by omega)
  rw [cN s2,s3,vx,show sg false (x / d)=((x / d:Nat):Int) from rfl] at hm1
  have hm2:=hmx (val (aR x) % d) (by have:=Nat.mod_lt (val (aR x)) (show d > 0 by omega); omega)
  rw [hd]
  rw [vx,hdv,hrr] at hm2 hs
  rw [hdv,hqq] at hm1
  rw [hdv]
  generalize shQ (aR x) y=Q at *
  generalize aR x=a at *
  simp [-ζ,-ξ,↓KW,aG]
  refine aH hs ?_
  simp [-ζ,-ξ,↓KW,aG]
  refine aH hm1 ?_
  simp [-ζ,-ξ,↓KW,aG]
  refine bE (ds:=[aG [rr],.b false]) ?_ hm2 ?_
  ·simp [-ζ,-ξ,↓KW,aG]
  simp [-ζ,-ξ,↓KW,aG,encZ,encI,eX]
 ·have hq1:(((aR y).length:Int) == 1)=false:=by simp only [beq_eq_false_iff_ne,ne_eq]; omega
  obtain ⟨m,hm⟩:∃ m,(aR y).length=m+1:=⟨(aR y).length - 1,by omega⟩
  have gd:=getD_some (l:=aR y) (i:=m) (by omega)
  have hdm:=ly.getD m
  have htop:0<(aR y).getD m 0:=by
   have h2:(aR y).getLast? ≠ some 0:=cy
   rw [List.getLast?_eq_getElem?,show (aR y).length - 1=m by omega,gd] at h2
   rcases Nat.eq_zero_or_pos ((aR y).getD m 0) with h | h
   ·rw [h] at h2; exact absurd rfl h2
   ·exact h
  generalize (aR y).getD m 0=dt at *
  have c2:IntKind.i64.wrap (((aR y).length:Int) - 1)=(m:Int):=by rw [bB]; omega
  have c3:IntKind.u64.wrap (dt:Int)=dt:=wrap_u64 (by omega) (by omega)
  have hma:=eD (aR x) false (by omega)
  rw [cN lx,vx,show sg false x=(x:Int) from rfl] at hma
  have hmb:=eD (aR y) false (by omega)
  rw [cN ly,vy,show sg false y=(y:Int) from rfl] at hmb
  have hX:(aR (x:Int).natAbs).length≤130000000000:=hlx
  have hY:(aR (y:Int).natAbs).length≤130000000000:=hly
  generalize aR x=a at *
  generalize aR y=b at *
  clear hmx lx ly vx vy cy hne
  simp [-ζ,-ξ,↓KW,aG,hq1]
  refine cO (fun c:Nat=>0<c∧dt * c<4294967296)
   (fun c=>StL [(0,.d (aG a)),(1,.d (aG b)),(4,.ptr 1 0),(5,.ptr 2 0),(8,.d (.i .u32 (c:Int)))] none
    [.cells 31 [.d (.b false),.nil],.cells 31 [.d (.b false),.nil]]) (fun c=>4294967296 - c) 1 ⟨by decide,by omega⟩ ?_ ?_
  ·refine wkQ [1,2] ?_ ?_ <;> simp [-ζ,upd,aS,Γ0,aG]
  ·intro c hs
   refine (bAn htop hs.2).elim fun t h5=>?_
   have hc0:=hs.1
   have ht:=h5.1
   have hcd:=h5.2.1
   have hs2:=h5.2.2.1
   have hdc:=h5.2.2.2
   have c4:IntKind.u64.wrap (c:Int)=c:=wrap_u64 (by omega) (by omega)
   have c5:IntKind.u64.wrap ((dt:Int) * c)=t:=by rw [← Int.natCast_mul,ht,wrap_u64 (by omega) (by omega)]
   by_cases hgo:t<2147483648
   ·have q1:(t:Int)<2147483648:=by omega
    have c6:IntKind.u32.wrap (2 * (c:Int))=2 * (c:Int):=wrap_u32 (by omega) (by omega)
    simp [-ζ,-ξ,↓KW,aG,c2,c3,c4,c5,c6,gd,q1]
    refine aN (2 * c) ⟨by omega,hdc hgo⟩ ?_ (wkQ [1,2] ?_ ?_)
    ·omega
    ·simp [-ζ,upd,aS,Γ0,aG]
    ·simp [-ζ,upd,aS,Γ0,aG]
   ·have q1:¬ (t:Int)<2147483648:=by omega
    have hc32:c<4294967296:=by omega
    have hmc:=aYi c hc32
    simp [-ζ,-ξ,↓KW,aG,c2,c3,c4,c5,gd,q1]
    refine bE (ds:=[aG [c],.b false]) ?_ hmc ?_
    ·simp [-ζ,-ξ,↓KW,aG]
    simp [-ζ,-ξ,↓KW,aG,encZ,encI]
    refine aH hma ?_
    simp [-ζ,-ξ,↓KW,encZ,encI,aG]
    refine (⟨_,rfl⟩:∃ X,x * c=X).elim fun X hXe=>?_
    refine (⟨_,rfl⟩:∃ X,y * c=X).elim fun Y hYe=>?_
    have hC:=aYp hc32
    have hXl:(aR X).length≤130000000001:=by rw [← hXe]; exact rY hX hc32
    have hYl:(aR Y).length≤130000000001:=by rw [← hYe]; exact rY hY hc32
    have hY0:0<Y:=by rw [← hYe]; exact Nat.mul_pos hy hc0
    have hMx:=xP (X:=X) hXe (by omega) (by omega) (x:=x) (c:=c)
    have hMy:=xP (X:=Y) hYe (by omega) (by omega) (x:=y) (c:=c)
    refine bE (ds:=[encZ x,encZ c]) ?_ hMx ?_
    ·simp [-ζ,-ξ,↓KW,encZ,encI,aG]
    simp [-ζ,-ξ,↓KW,encZ,encI,aG]
    refine aH hmb ?_
    simp [-ζ,-ξ,↓KW,encZ,encI,aG]
    refine bE (ds:=[encZ y,encZ c]) ?_ hMy ?_
    ·simp [-ζ,-ξ,↓KW,encZ,encI,aG]
    simp [-ζ,-ξ,↓KW,encZ,encI,aG]
    refine cO (fun p:Nat × Nat=>p.1 * Y+p.2=X)
     (fun p=>StL [(4,.ptr 1 0),(5,.ptr 2 0),(8,.d (.i .u32 (c:Int))),(10,.ptr 3 0),(11,.ptr 4 0),(12,.ptr 5 0)] none
      [.cells 31 [.d (.b false),.nil],.cells 31 [.d (.b false),.nil],.cells 31 [.d (.b false),.d (aG (aR p.2))],.cells 31 [.d (.b false),.d (aG (aR Y))],.cells 31 [.d (.b false),zq p.1]]) (fun p=>p.2) (0,X) (by simp) ?_ ?_
    ·refine wkQ [1,2,5,6,7] ?_ ?_ <;> simp [-ζ,upd,aS,Γ0,aG,zq]
    ·intro p hp
     have hpX:p.2≤X:=by rw [← hp]; exact Nat.le_add_left _ _
     have hpl:=Nat.le_trans (dX hpX) hXl
     have hless:=vS (aR p.2) (aR Y) (bW _) (bW _) (by omega) (by omega)
     rw [eY] at hless
     simp [-ζ,-ξ,↓KW,aG]
     refine aH hless ?_
     by_cases hgo:p.2<Y
     ·simp [-ζ,-ξ,↓KW,hgo]
      have hsh:=aGb (aR p.2) c (bW _) hc0 hc32 (by omega)
      have hsv:=aCz (bW p.2) hc0
      have hmd:=eD (shQ (aR p.2) c) false (by have:=hsv.1; omega)
      have hfin:=aSt hc0 hy (x:=x) (q:=p.1) (r:=p.2) (by rw [hYe,hXe]; exact hp) (by rw [hYe]; exact hgo)
      rw [cN hsv.2.1,hsv.2.2.1,cE,hfin.2,hrr,show sg false rr=(rr:Int) from rfl] at hmd
      refine aH hsh ?_
      simp [-ζ,-ξ,↓KW,aG]
      refine aH hmd ?_
      have hq1:p.1=qq:=hfin.1.trans hqq
      rw [hq1]
      by_cases hq0:qq=0
      ·simp [-ζ,-ξ,↓KW,encZ,encI,aG,eX,zq,hq0,cB]
      ·simp [-ζ,-ξ,↓KW,encZ,encI,aG,eX,zq,hq0]
     ·simp [-ζ,-ξ,↓KW,hgo]
      refine (aGd (aR p.2) (aR Y) (bW _) (bW _) (nA _) (nA _) (fun h=>by rw [gY] at h; omega) (by rw [cE,cE]; omega) (by omega)).elim fun e he=>?_
      have he1:=he.2.1
      rw [cE,cE] at he1
      refine (⟨_,rfl⟩:∃ E,e * Y=E).elim fun E hE=>?_
      rw [hE] at he1
      refine (⟨_,rfl⟩:∃ F,p.2 - E=F).elim fun R' hR'=>?_
      have hR2:p.2=R'+E:=by omega
      have hst:=bAr hp hE hR2 he.1 hY0
      refine (⟨_,rfl⟩:∃ F,p.1+e=F).elim fun q' hq'=>?_
      rw [hq'] at hst
      have hel:(aR (e:Int).natAbs).length≤130000000001:=Nat.le_trans (dX (show e≤X by omega)) hXl
      have hqpl:(aR (p.1:Int).natAbs).length≤130000000001:=Nat.le_trans (dX (show p.1≤X by omega)) hXl
      have hEl:(aR (E:Int).natAbs).length≤130000000001:=Nat.le_trans (dX (show E≤X by omega)) hXl
      have hrl:(aR (p.2:Int).natAbs).length≤130000000001:=hpl
      have hYl2:(aR (Y:Int).natAbs).length≤130000000001:=hYl
      have hadd:=bCi hq' (by omega) (by omega)
      have hmul:=xP hE (by omega) (by omega)
      have hsub:=aVd hR2 (by omega) (by omega)
      by_cases hq0:p.1=0
      ·have hz:zq p.1=.nil:=if_pos hq0
       refine aH he.2.2 ?_
       simp [-ζ,-ξ,↓KW,aG,encZ,encI,hz]
       refine bE (ds:=[encZ p.1,encZ e]) ?_ hadd ?_
       ·simp [-ζ,-ξ,↓KW,encZ,encI,aG,hq0,cB]
       simp [-ζ,-ξ,↓KW,aG,encZ,encI]
       refine bE (ds:=[encZ e,encZ Y]) ?_ hmul ?_
       ·simp [-ζ,-ξ,↓KW,encZ,encI,aG]
       simp [-ζ,-ξ,↓KW,aG,encZ,encI]
       refine bE (ds:=[encZ p.2,encZ E]) ?_ hsub ?_
       ·simp [-ζ,-ξ,↓KW,encZ,encI,aG]
       simp [-ζ,-ξ,↓KW,aG,encZ,encI]
       have hz2:zq q'=.d (aG (aR q')):=if_neg (by have:=he.1; omega)
       refine aN (q',R') hst.1 hst.2.1 (wkQ [1,2,3,4,5] ?_ ?_)
       ·simp [-ζ,upd,aS,Γ0,aG,hz2]
       ·simp [-ζ,upd,aS,Γ0,aG,hz2]
      ·have hz:zq p.1=.d (aG (aR p.1)):=if_neg hq0
       refine aH he.2.2 ?_
       simp [-ζ,-ξ,↓KW,aG,encZ,encI,hz]
       refine bE (ds:=[encZ p.1,encZ e]) ?_ hadd ?_
       ·simp [-ζ,-ξ,↓KW,encZ,encI,aG,hq0,cB]
       simp [-ζ,-ξ,↓KW,aG,encZ,encI]
       refine bE (ds:=[encZ e,encZ Y]) ?_ hmul ?_
       ·simp [-ζ,-ξ,↓KW,encZ,encI,aG]
       simp [-ζ,-ξ,↓KW,aG,encZ,encI]
       refine bE (ds:=[encZ p.2,encZ E]) ?_ hsub ?_
       ·simp [-ζ,-ξ,↓KW,encZ,encI,aG]
       simp [-ζ,-ξ,↓KW,aG,encZ,encI]
       have hz2:zq q'=.d (aG (aR q')):=if_neg (by have:=he.1; omega)
       refine aN (q',R') hst.1 hst.2.1 (wkQ [1,2,3,4,5] ?_ ?_)
       ·simp [-ζ,upd,aS,Γ0,aG,hz2]
       ·simp [-ζ,upd,aS,Γ0,aG,hz2]
theorem gX {x y q r:Int} (hy:y≠0) (h:r+y * q=x) (h0:0≤r) (h1:r<(y.natAbs:Int)):x / y=q∧x % y=r:=by
 by_cases hp:0<y
 ·exact (Int.ediv_emod_unique hp).2 ⟨h,h0,by omega⟩
 ·obtain ⟨z,hz⟩:∃ z,y=-z:=⟨-y,by omega⟩
  subst hz
  have:=(Int.ediv_emod_unique (a:=x) (b:=z) (q:=-q) (r:=r) (by omega)).2 ⟨by rw [← h,Int.mul_neg,Int.neg_mul],h0,by omega⟩
  rw [Int.ediv_neg,Int.emod_neg]
  omega
theorem aBo [M:Mch Tryz.prog] (x:Int) (hx:(aR x.natAbs).length≤1099511627776):Spec Tryz.prog 18 [aG (aR x.natAbs),.b (decide (x<0))] (encZ x):=by
 have hm:=eD (aR x.natAbs) (decide (x<0)) hx
 rwa [cN (bW _),cE,fE] at hm
theorem bAq (x y:Int) (hy:y≠0) {qq rr:Nat} (hqq:x.natAbs / y.natAbs=qq) (hrr:x.natAbs % y.natAbs=rr) :
  (rr<y.natAbs)∧qq * y.natAbs+rr=x.natAbs∧(¬ x<0→¬ y<0→x / y=qq∧x % y=rr)∧(¬ x<0→y<0→x / y=-(qq:Int)∧x % y=rr) ∧
  (x<0→rr=0→¬ y<0→x / y=-(qq:Int)∧x % y=0)∧(x<0→rr=0→y<0→x / y=qq∧x % y=0) ∧
  (x<0→0<rr→¬ y<0→x / y=-((qq:Int)+1)∧x % y=(y.natAbs:Int) - rr)∧(x<0→0<rr→y<0→x / y=(qq:Int)+1∧x % y=(y.natAbs:Int) - rr):=by
 have hya:0<y.natAbs:=by omega
 have h1:rr<y.natAbs:=by rw [← hrr]; exact Nat.mod_lt _ hya
 have h2:qq * y.natAbs+rr=x.natAbs:=by rw [← hqq,← hrr,Nat.mul_comm]; exact Nat.div_add_mod ..
 have h3:(qq:Int) * (y.natAbs:Int)+rr=(x.natAbs:Int):=by exact_mod_cast h2
 have ep:¬ y<0→(y.natAbs:Int)=y:=fun h=>by omega
 have en:y<0→(y.natAbs:Int)=-y:=fun h=>by omega
 refine ⟨h1,h2,fun hx h=>?_,fun hx h=>?_,fun hx h0 h=>?_,fun hx h0 h=>?_,fun hx h0 h=>?_,fun hx h0 h=>?_⟩
 ·exact gX hy (by rw [ep h,Int.mul_comm] at h3; omega) (by omega) (by omega)
 ·exact gX hy (by rw [en h,Int.mul_neg,Int.mul_comm] at h3; rw [Int.mul_neg]; omega) (by omega) (by omega)
 ·exact gX hy (by rw [ep h,Int.mul_comm] at h3; rw [Int.mul_neg]; omega) (by omega) (by omega)
 ·exact gX hy (by rw [en h,Int.mul_neg,Int.mul_comm] at h3; omega) (by omega) (by omega)
 ·exact gX hy (by rw [ep h,Int.mul_comm] at h3; rw [ep h,Int.mul_neg,Int.mul_add]; omega) (by omega) (by omega)
 ·exact gX hy (by rw [en h,Int.mul_neg,Int.mul_comm] at h3; rw [en h,Int.mul_add]; omega) (by omega) (by omega)
theorem aAg (n:Nat):(aR (n+1)).length≤(aR n).length+1:=by
 have h:=jX (Nat.le_refl (aR n).length)
 refine dB ?_
 rw [Nat.pow_succ]
 have:0<4294967296 ^ (aR n).length:=Nat.pow_pos (by decide)
 omega
theorem aRz [M:Mch Tryz.prog] (y:Int) (hy:(aR y.natAbs).length≤1099511627776):Spec Tryz.prog 18 [aG (aR y.natAbs),.b false] (encZ (y.natAbs:Int)):=by
 have hm:=eD (aR y.natAbs) false hy
 rw [cN (bW _),cE] at hm
 exact hm
set_option maxRecDepth 10000 in
theorem aRd [M:Mch Tryz.prog] (x y:Int) (hy:y≠0) (hx:(aR x.natAbs).length≤130000000000) (hyl:(aR y.natAbs).length≤130000000000):Spec Tryz.prog 134 [encZ x,encZ y] (.tp [encZ (x / y),encZ (x % y),.i .i64 0]):=by
 have hx0:=hx
 have hyl0:=hyl
 refine aVs (N:=56) aW Tryz.func134 rfl rfl rfl (by kernel_rfl) (by kernel_rfl) (by simp) ?_
 obtain ⟨qq,hqq⟩:∃ q,x.natAbs / y.natAbs=q:=⟨_,rfl⟩
 obtain ⟨rr,hrr⟩:∃ q,x.natAbs % y.natAbs=q:=⟨_,rfl⟩
 have hf:=bAq x y hy hqq hrr
 obtain ⟨Q,hQ⟩:∃ Q,x / y=Q:=⟨_,rfl⟩
 obtain ⟨R,hR⟩:∃ Q,x % y=Q:=⟨_,rfl⟩
 have hm1:=aBo x (by omega)
 have hm2:=aBo y (by omega)
 have hd:=aRb x.natAbs y.natAbs qq rr hqq hrr (by omega) hx hyl
 have hs:=oE y
 have hs0:y.sign≠0:=fun h=>hy (Int.sign_eq_zero_iff_zero.1 h)
 have hmy:=aRz y (by omega)
 have hlq:(aR qq).length≤130000000000:=Nat.le_trans (dX (by rw [← hqq]; exact Nat.div_le_self ..)) hx0
 have hlr:(aR rr).length≤130000000000:=Nat.le_trans (dX (by have:=hf.1; omega)) hyl0
 have hnq:((qq:Int)).natAbs=qq:=Int.natAbs_natCast qq
 have hnr:((rr:Int)).natAbs=rr:=Int.natAbs_natCast rr
 have hny0:((y.natAbs:Int)).natAbs=y.natAbs:=Int.natAbs_natCast _
 have hof:=xE 1 (by decide) (by decide)
 have had:=vT (qq:Int) 1 (by rw [hnq]; omega) (Nat.le_trans (dB (k:=1) (by decide)) (by decide))
 have hsu:=aDi (y.natAbs:Int) (rr:Int) (by rw [hny0]; omega) (by rw [hnr]; omega)
 have hn1:=aDj (qq:Int) (by rw [hnq]; omega)
 have hn2:=aDj ((qq:Int)+1) (by
  have:((qq:Int)+1).natAbs=qq+1:=by omega
  rw [this]
  have:=aAg qq
  omega)
 have hsr:=oE (rr:Int)
 have hz:∀ z:Int,∃ s m,encZ z=.ag [.b s,aG m]:=fun z=>⟨_,_,rfl⟩
 obtain ⟨sq,mq,eq⟩:=hz qq
 obtain ⟨sr,mr,er⟩:=hz rr
 obtain ⟨s1,m1,e1⟩:=hz 1
 obtain ⟨sp,mp,ep⟩:=hz ((qq:Int)+1)
 obtain ⟨sy,my,ey0⟩:=hz (y.natAbs:Int)
 obtain ⟨sd,md,ed⟩:=hz ((y.natAbs:Int) - rr)
 obtain ⟨sn,mn,en1⟩:=hz (-(qq:Int))
 obtain ⟨sm,mm,en2⟩:=hz (-((qq:Int)+1))
 rw [eq,er] at hd
 rw [e1] at hof
 rw [eq,e1,ep] at had
 rw [ey0,er,ed] at hsu
 rw [eq,en1] at hn1
 rw [ep,en2] at hn2
 rw [er] at hsr
 rw [ey0] at hmy
 have hsg0:rr=0→(rr:Int).sign=0:=fun h=>by rw [h]; rfl
 have hsg1:¬ rr=0→(rr:Int).sign=1:=fun h=>Int.sign_eq_one_of_pos (by omega)
 rw [hQ,hR] at hf ⊢
 have ex:encZ x=.ag [.b (decide (x<0)),aG (aR x.natAbs)]:=rfl
 have ey:encZ y=.ag [.b (decide (y<0)),aG (aR y.natAbs)]:=rfl
 rw [ex] at hm1 ⊢
 rw [ey] at hm2 hs ⊢
 generalize aR x.natAbs=a at *
 generalize aR y.natAbs=b at *
 have hs1:(y.sign == 0)=false:=by simpa using hs0
 simp [-ζ,-ξ,↓KW,↓aU,↓aV,aY,aG]
 refine aH hm1 ?_
 simp [-ζ,-ξ,↓KW,↓aU,↓aV,aY,aG]
 refine aH hm2 ?_
 simp [-ζ,-ξ,↓KW,↓aU,↓aV,aY,aG]
 refine bE (ds:=[.ag [.b (decide (y<0)),aG b]]) ?_ hs ?_
 ·simp [-ζ,-ξ,↓KW,↓aU,↓aV,aY,aG,hs1]
 simp [-ζ,-ξ,↓KW,↓aU,↓aV,aY,aG,hs1]
 refine aH hd ?_
 by_cases hnx:x<0 <;> by_cases hny:y<0
 rw [decide_eq_true hnx,decide_eq_true hny] at *
 by_cases hr0:rr=0
 obtain ⟨f1,f2⟩:=hf.2.2.2.2.2.1 hnx hr0 hny
 have e0:encZ 0=.ag [.b sr,aG mr]:=by rw [← er,hr0]; rfl
 have hsg:=hsg0 hr0
 rw [f1,f2,eq,e0]
 simp [-ζ,-ξ,↓KW,↓aU,↓aV,aY,aG]
 refine bE (ds:=[.ag [.b sr,aG mr]]) ?_ hsr ?_
 ·simp [-ζ,-ξ,↓KW,↓aU,↓aV,aY,aG,hsg]
 simp [-ζ,-ξ,↓KW,↓aU,↓aV,aY,aG,hsg]
 rotate_left
 obtain ⟨f1,f2⟩:=hf.2.2.2.2.2.2.2 hnx (by omega) hny
 have hsg:=hsg1 hr0
 rw [f1,f2,ep,ed]
 simp [-ζ,-ξ,↓KW,↓aU,↓aV,aY,aG]
 refine bE (ds:=[.ag [.b sr,aG mr]]) ?_ hsr ?_
 ·simp [-ζ,-ξ,↓KW,↓aU,↓aV,aY,aG,hsg]
 simp [-ζ,-ξ,↓KW,↓aU,↓aV,aY,aG,hsg]
 refine aH hof ?_
 simp [-ζ,-ξ,↓KW,↓aU,↓aV,aY,aG]
 refine bE (ds:=[.ag [.b sq,aG mq],.ag [.b s1,aG m1]]) ?_ had ?_
 ·simp [-ζ,-ξ,↓KW,↓aU,↓aV,aY,aG]
 simp [-ζ,-ξ,↓KW,↓aU,↓aV,aY,aG]
 refine aH hmy ?_
 simp [-ζ,-ξ,↓KW,↓aU,↓aV,aY,aG]
 refine bE (ds:=[.ag [.b sy,aG my],.ag [.b sr,aG mr]]) ?_ hsu ?_
 ·simp [-ζ,-ξ,↓KW,↓aU,↓aV,aY,aG]
 simp [-ζ,-ξ,↓KW,↓aU,↓aV,aY,aG]
 rotate_left
 rw [decide_eq_true hnx,decide_eq_false hny] at *
 by_cases hr0:rr=0
 obtain ⟨f1,f2⟩:=hf.2.2.2.2.1 hnx hr0 hny
 have e0:encZ 0=.ag [.b sr,aG mr]:=by rw [← er,hr0]; rfl
 have hsg:=hsg0 hr0
 rw [f1,f2,en1,e0]
 simp [-ζ,-ξ,↓KW,↓aU,↓aV,aY,aG]
 refine bE (ds:=[.ag [.b sr,aG mr]]) ?_ hsr ?_
 ·simp [-ζ,-ξ,↓KW,↓aU,↓aV,aY,aG,hsg]
 simp [-ζ,-ξ,↓KW,↓aU,↓aV,aY,aG,hsg]
 refine bE (ds:=[.ag [.b sq,aG mq]]) ?_ hn1 ?_
 ·simp [-ζ,-ξ,↓KW,↓aU,↓aV,aY,aG]
 simp [-ζ,-ξ,↓KW,↓aU,↓aV,aY,aG]
 rotate_left
 obtain ⟨f1,f2⟩:=hf.2.2.2.2.2.2.1 hnx (by omega) hny
 have hsg:=hsg1 hr0
 rw [f1,f2,en2,ed]
 simp [-ζ,-ξ,↓KW,↓aU,↓aV,aY,aG]
 refine bE (ds:=[.ag [.b sr,aG mr]]) ?_ hsr ?_
 ·simp [-ζ,-ξ,↓KW,↓aU,↓aV,aY,aG,hsg]
 simp [-ζ,-ξ,↓KW,↓aU,↓aV,aY,aG,hsg]
 refine aH hof ?_
 simp [-ζ,-ξ,↓KW,↓aU,↓aV,aY,aG]
 refine bE (ds:=[.ag [.b sq,aG mq],.ag [.b s1,aG m1]]) ?_ had ?_
 ·simp [-ζ,-ξ,↓KW,↓aU,↓aV,aY,aG]
 simp [-ζ,-ξ,↓KW,↓aU,↓aV,aY,aG]
 refine aH hmy ?_
 simp [-ζ,-ξ,↓KW,↓aU,↓aV,aY,aG]
 refine bE (ds:=[.ag [.b sy,aG my],.ag [.b sr,aG mr]]) ?_ hsu ?_
 ·simp [-ζ,-ξ,↓KW,↓aU,↓aV,aY,aG]
 simp [-ζ,-ξ,↓KW,↓aU,↓aV,aY,aG]
 refine bE (ds:=[.ag [.b sp,aG mp]]) ?_ hn2 ?_
 ·simp [-ζ,-ξ,↓KW,↓aU,↓aV,aY,aG]
 simp [-ζ,-ξ,↓KW,↓aU,↓aV,aY,aG]
 rotate_left
 rw [decide_eq_false hnx,decide_eq_true hny] at *
 obtain ⟨f1,f2⟩:=hf.2.2.2.1 hnx hny
 rw [f1,f2,en1,er]
 simp [-ζ,-ξ,↓KW,↓aU,↓aV,aY,aG]
 refine bE (ds:=[.ag [.b sq,aG mq]]) ?_ hn1 ?_
 ·simp [-ζ,-ξ,↓KW,↓aU,↓aV,aY,aG]
 simp [-ζ,-ξ,↓KW,↓aU,↓aV,aY,aG]
 rotate_left
 rw [decide_eq_false hnx,decide_eq_false hny] at *
 obtain ⟨f1,f2⟩:=hf.2.2.1 hnx hny
 rw [f1,f2,eq,er]
 simp [-ζ,-ξ,↓KW,↓aU,↓aV,aY,aG]
 rotate_left
 all_goals
  refine aXp 0 1 (by kernel_rfl) rfl rfl ?_ ?_
  ·simp [-ζ,-ξ,↓KW,↓aU,↓aV,aY,aG]
   refine aXp 1 2 (by kernel_rfl) rfl rfl ?_ ?_
   ·simp [-ζ,-ξ,↓KW,↓aU,↓aV,aY,aG]
    refine lH 2 (by kernel_rfl) rfl ?_
    simp [-ζ,-ξ,↓KW,↓aU,↓aV,aY,aG]
    refine lH 3 (by kernel_rfl) rfl ?_
    simp [-ζ,-ξ,↓KW,↓aU,↓aV,aY,aG]
    refine lH 4 (by kernel_rfl) rfl ?_
    simp [-ζ,-ξ,↓KW,↓aU,↓aV,aY,aG]
    refine aKx (by kernel_rfl) ?_
    simp [-ζ,-ξ,↓KW,↓aU,↓aV,aY,aG,aKk]
   ·simp [-ζ,-ξ,↓KW,↓aU,↓aV,aY,aG]
    refine lH 1 (by kernel_rfl) rfl ?_
    simp [-ζ,-ξ,↓KW,↓aU,↓aV,aY,aG]
    refine lH 3 (by kernel_rfl) rfl ?_
    simp [-ζ,-ξ,↓KW,↓aU,↓aV,aY,aG]
    refine lH 4 (by kernel_rfl) rfl ?_
    simp [-ζ,-ξ,↓KW,↓aU,↓aV,aY,aG]
    refine aKx (by kernel_rfl) ?_
    simp [-ζ,-ξ,↓KW,↓aU,↓aV,aY,aG,aKk]
  ·simp [-ζ,-ξ,↓KW,↓aU,↓aV,aY,aG]
   refine lH 0 (by kernel_rfl) rfl ?_
   simp [-ζ,-ξ,↓KW,↓aU,↓aV,aY,aG]
   refine lH 2 (by kernel_rfl) rfl ?_
   simp [-ζ,-ξ,↓KW,↓aU,↓aV,aY,aG]
   refine lH 3 (by kernel_rfl) rfl ?_
   simp [-ζ,-ξ,↓KW,↓aU,↓aV,aY,aG]
   refine lH 4 (by kernel_rfl) rfl ?_
   simp [-ζ,-ξ,↓KW,↓aU,↓aV,aY,aG]
   refine aKx (by kernel_rfl) ?_
   simp [-ζ,-ξ,↓KW,↓aU,↓aV,aY,aG,aKk]
theorem szD {z:Int} (h:z.natAbs<2 ^ 256):(aR z.natAbs).length≤130000000000:=by
 have:=dB (n:=z.natAbs) (k:=8) (Nat.lt_of_lt_of_le h (by decide))
 omega
set_option maxRecDepth 10000 in
theorem aRc [M:Mch Tryz.prog] (n:Nat) (hn:n<4294967296):Spec Tryz.prog 135 [bU n] (.tp [.i .i64 n,.b true]):=by
 have hw1:IntKind.i64.wrap (n:Int)=n:=bB
 have hw2:IntKind.u64.wrap (n:Int)=n:=wrap_u64 (by omega) (by omega)
 have hle:(n:Int)≤9223372036854775807:=by omega
 have hle2:n≤9223372036854775807:=by omega
 have z0:IntKind.i64.wrap 0=0:=by decide
 have z1:IntKind.i64.wrap (-1)=-1:=by decide
 have z2:IntKind.u64.wrap 0=0:=by decide
 rcases Nat.eq_zero_or_pos n with h0 | h0
 ·subst h0
  have e:bU 0=.ag [.b false,.sl []]:=by rw [aT,cB]; rfl
  rw [e]
  refine bH (N:=38) Tryz.func135 ?_
  simp [-ζ,-ξ,↓KW]
  refine fB 1 ?_
  simp [-ζ,-ξ,↓KW,↓aL,↓aD,↓aJ,↓aK,z0,z1,z2,eX]
 ·have e:bU n=.ag [.b false,.sl [[.i .u32 n]]]:=by
   rw [aT]
   have:aR n=[n]:=by rw [gE (by omega),Nat.mod_eq_of_lt hn,Nat.div_eq_of_lt hn,cB]
   rw [this]; rfl
  rw [e]
  refine bH (N:=38) Tryz.func135 ?_
  simp [-ζ,-ξ,↓KW]
  refine fB 2 ?_
  simp [-ζ,-ξ,↓KW,↓aL,↓aD,↓aJ,↓aK,z0,z1,z2,hw1,hw2,hle,hle2,eX]
set_option maxRecDepth 10000 in
theorem aRa [M:Mch Tryz.prog] (p:Nat) (z:Int) (hp:0<p) (hp1:p≤2147483648) (hz:z.natAbs<2 ^ 256):Spec Tryz.prog 78 [.i .u64 p,encZ z] (.i .u64 (z % (p:Int))):=by
 have hO:=aKp (x:=p) (by omega)
 have hD:=aRd z (p:Int) (by omega) (szD hz) (szD (by simp; omega))
 rw [dE] at hD
 have hr0:=Int.emod_nonneg z (show (p:Int)≠0 by omega)
 have hr1:=Int.emod_lt_of_pos z (show (0:Int)<p by omega)
 obtain ⟨r,hr⟩:∃ r:Nat,z % (p:Int)=r:=⟨(z % (p:Int)).toNat,by omega⟩
 rw [hr,dE] at hD
 rw [hr]
 have hS:=aRc r (by omega)
 have hw1:IntKind.i64.wrap (p:Int)=p:=bB
 have hw2:IntKind.u64.wrap (r:Int)=r:=wrap_u64 (by omega) (by omega)
 generalize z / (p:Int)=q at *
 refine bH (N:=26) Tryz.func78 ?_
 simp [-ζ,-ξ,↓KW,bT z,hw1,aA,aE,aC,aF,aB]
 refine aH hO ?_
 simp [-ζ,-ξ,↓KW,aT p,aA,aE,aC,aF,aB]
 refine aH hD ?_
 simp [-ζ,-ξ,↓KW,bT q,aT r,aA,aE,aC,aF,aB]
 refine aH hS ?_
 simp [-ζ,-ξ,↓KW,hw2]
theorem uG [M:Mch Tryz.prog] (w p v:Nat) (z:Int) (hp:0<p) (hp1:p≤2147483648) (hz:z.natAbs<2 ^ 256):Spec Tryz.prog 55 [.ag [.i .i64 w,.i .u64 p,.i .u64 v],encZ z] (.b (decide (z % (p:Int)=(v:Int)))):=by
 have hR:=aRa p z hp hp1 hz
 generalize z % (p:Int)=r at *
 have hd:(r == (v:Int))=decide (r=(v:Int)):=rfl
 refine bH (N:=14) Tryz.func55 ?_
 simp [-ζ,-ξ,↓KW,bT z,aA,aE,aC,aF,aB]
 refine aH hR ?_
 simp [-ζ,-ξ,↓KW,hd]
theorem bCh (z:Int) (l:List (Nat × Nat × Nat)) (w p v:Nat):(blL z (l++[(w,p,v)])).length=(blL z l).length+if z % (p:Int)=(v:Int) then 0 else 1:=by
 rw [yX,List.length_append]; split <;> rfl
set_option maxHeartbeats 4000000 in
set_option maxRecDepth 10000 in
theorem aKn [M:Mch Tryz.prog] (z:Int) (l:List (Nat × Nat × Nat)) (hl:l.length≤1000) (hz:z.natAbs<2 ^ 256) (hp:∀ x∈l,0<x.2.1∧x.2.1≤2147483648):Spec Tryz.prog 33 [encZ z,fW l] (.i .i64 ((blL z l).length:Nat)):=by
 obtain ⟨L,hL,hLl,hLg⟩:=dN l
 rw [hL]
 refine bH (N:=23) Tryz.func33 ?_
 simp [-ζ,-ξ,↓KW,bT z,aA,aE,aC,aF,aB]
 refine bN (τ:=Nat) (fun i=>i≤l.length) (fun i=>StL [(1,.d (.sl L)),(2,.ptr 1 0),(5,.d (.i .i64 ((blL z (l.take i)).length:Nat))),(6,.d (.i .i64 i))] none [.cells 31 [.d (.b (decide (z<0))),.d (aG (aR z.natAbs))]]) (fun i=>l.length - i) 0 (Nat.zero_le _) ?_ ?_
 ·rw [List.take_zero]
  refine wkQ [1] ?_ ?_ <;> simp [-ζ,upd,aS,Γ0,blL]
 ·intro i hi
  by_cases hlt:i<l.length
  ·obtain ⟨⟨w,p,v⟩,hge⟩:∃ x,l[i]? = some x:=⟨_,List.getElem?_eq_getElem hlt⟩
   have hmem:=List.mem_of_getElem? hge
   have hLi:=hLg i _ hge
   simp only at hLi
   have hLi':=cZ hLi
   have hiL:i<L.length:=by omega
   have hC:=uG w p v z (hp _ hmem).1 (hp _ hmem).2 hz
   have hT1:(blL z (l.take (i+1))).length=(blL z (l.take i)).length+if z % (p:Int)=(v:Int) then 0 else 1:=by
    rw [List.take_add_one,hge,Option.toList_some,bCh]
   have hBl:(blL z (l.take i)).length≤i:=Nat.le_trans (tT _ _) (by rw [List.length_take]; omega)
   have hw0:IntKind.i64.wrap (i:Int)=i:=bB
   have hw1:IntKind.i64.wrap ((i:Int)+1)=((i+1:Nat):Int):=bB
   obtain ⟨bn',hbn'⟩:∃ x,(blL z (l.take (i+1))).length=x:=⟨_,rfl⟩
   rw [hbn'] at hT1
   generalize (blL z (l.take i)).length=bn at *
   have hwb:IntKind.i64.wrap ((bn:Int)+1)=((bn+1:Nat):Int):=bB
   generalize z % (p:Int)=r at *
   by_cases hr:r=(v:Int)
   ·rw [if_pos hr] at hT1
    rw [decide_eq_true hr] at hC
    simp [-ζ,-ξ,↓KW,hiL,hLi,hLi',hw0,aA,aE,aC,aF,aB]
    refine aH hC ?_
    simp [-ζ,-ξ,↓KW,hw1]
    refine aN (i+1) (by omega) (by show l.length - (i+1)<l.length - i; omega) ?_
    show ∃ ρ,Wk _ (StL _ _ _) ρ
    rw [hbn',hT1]
    refine wkQ [1] ?_ ?_ <;> simp [-ζ,upd,aS,Γ0]
   ·rw [if_neg hr] at hT1
    rw [decide_eq_false hr] at hC
    simp [-ζ,-ξ,↓KW,hiL,hLi,hLi',hw0,aA,aE,aC,aF,aB]
    refine aH hC ?_
    simp [-ζ,-ξ,↓KW,hw1,hwb]
    refine aN (i+1) (by omega) (by show l.length - (i+1)<l.length - i; omega) ?_
    show ∃ ρ,Wk _ (StL _ _ _) ρ
    rw [hbn',hT1]
    refine wkQ [1] ?_ ?_ <;> simp [-ζ,upd,aS,Γ0]
  ·have hiL:¬ i<L.length:=by omega
   rw [List.take_of_length_le (show l.length≤i by omega)]
   generalize (blL z l).length=bn at *
   simp [-ζ,-ξ,↓KW,hiL]
   exact bG (by simp [-ζ,-ξ,↓KW])
def rI1 (n:Int) (y:List Int × Bool) (x:Int):List Int × Bool:=if y.2=false∧n<x then (y.1++[n,x],true) else (y.1++[x],y.2)
def rI0 (n:Int) (l:List Int):List Int × Bool:=l.foldl (rI1 n) ([],false)
def aAa (n:Int) (l:List Int):List Int:=if (rI0 n l).2 then (rI0 n l).1 else (rI0 n l).1++[n]
theorem aXd (n:Int) (l:List Int) (x:Int):rI0 n (l++[x])=rI1 n (rI0 n l) x:=by unfold rI0; rw [List.foldl_append]; rfl
theorem bFi (n:Int) (l:List Int):(rI0 n l).1.length≤2 * l.length:=by
 have h:∀ (l:List Int) (y:List Int × Bool),(l.foldl (rI1 n) y).1.length≤y.1.length+2 * l.length:=by
  intro l
  induction l with
  | nil=>intro y; simp
  | cons x l ih =>
   intro y
   rw [List.foldl_cons]
   refine Nat.le_trans (ih _) ?_
   have:(rI1 n y x).1.length≤y.1.length+2:=by
    unfold rI1; split <;> simp
   rw [List.length_cons]; omega
 have:=h l ([],false)
 unfold rI0
 simpa using this
theorem aOv (l:List Int):∃ L,ezI l=.sl L∧L.length=l.length∧∀ i,i<l.length→L[i]? = some [.i .i64 l[i]!]:=⟨_,rfl,by simp,fun i hi=>by rw [List.getElem?_map,List.getElem?_eq_getElem hi,getElem!_pos l i hi]; rfl⟩
theorem aEj (a b:List Int):dzI (a++b)=dzI a++dzI b:=by simp [dzI]
theorem bId (x y:Int):dzI [x,y]=[.i .i64 x,.i .i64 y]:=rfl
def riS (L:List (List D)) (n:Int) (i:Nat) (y:List Int × Bool):St:=StL [(0,.d (.sl L)),(1,.d (.i .i64 n)),(5,.own 1 0 y.1.length 1),(6,.d (.b y.2)),(7,.d (.i .i64 i))] none [.cells 3 ((dzI y.1).map .d)]
set_option maxHeartbeats 4000000 in
set_option maxRecDepth 10000 in
theorem aQx [M:Mch Tryz.prog] (l:List Int) (n:Int) (hl:l.length≤1000):Spec Tryz.prog 56 [ezI l,.i .i64 n] (ezI (aAa n l)):=by
 obtain ⟨L,hL,hLl,hLg⟩:=aOv l
 rw [hL]
 refine bH (N:=43) Tryz.func56 ?_
 simp [-ζ,-ξ,↓KW]
 refine bN (τ:=Nat) (fun i=>i≤l.length) (fun i=>riS L n i (rI0 n (l.take i))) (fun i=>l.length - i) 0 (Nat.zero_le _) ?_ ?_
 ·rw [List.take_zero]
  show ∃ ρ,Wk _ (riS _ _ _ ([],false)) ρ
  unfold riS
  refine wkQ [1] ?_ ?_ <;> simp [-ζ,upd,aS,Γ0,dzI]
 ·intro i hi
  have hol:=bFi n (l.take i)
  rw [List.length_take] at hol
  by_cases hlt:i<l.length
  ·have hLi:=hLg i hlt
   have hLi':=cZ hLi
   have hiL:i<L.length:=by omega
   have hge:l[i]? = some l[i]! := by rw [getElem!_pos l i hlt]; exact List.getElem?_eq_getElem hlt
   have hT1:rI0 n (l.take (i+1))=rI1 n (rI0 n (l.take i)) l[i]! := by rw [List.take_add_one,hge,Option.toList_some,aXd]
   have hw0:IntKind.i64.wrap (i:Int)=i:=bB
   have hw1:IntKind.i64.wrap ((i:Int)+1)=((i+1:Nat):Int):=bB
   generalize l[i]! = x at *
   generalize rI0 n (l.take i)=y at *
   obtain ⟨o,d⟩:=y
   simp only at hol
   have hbb:=dY (n:=o.length) (by omega)
   have hbb2:=dY (n:=o.length+1) (by omega)
   cases d with
   | true =>
    have hT2:rI0 n (l.take (i+1))=(o++[x],true):=by rw [hT1]; simp [rI1]
    simp [-ζ,-ξ,↓KW,riS,hiL,hLi,hLi',hw0,hw1,eF,hbb,bV]
    refine aN (i+1) (by omega) (by show l.length - (i+1)<l.length - i; omega) ?_
    show ∃ ρ,Wk _ (riS _ _ _ _) ρ
    rw [hT2]
    unfold riS
    refine wkQ [3] ?_ ?_ <;> simp [-ζ,upd,aS,Γ0,List.contains_cons,bQ,aEj,wD]
   | false =>
    by_cases hx:n<x
    ·have hT2:rI0 n (l.take (i+1))=(o++[n,x],true):=by rw [hT1]; simp [rI1,hx]
     simp [-ζ,-ξ,↓KW,riS,hiL,hLi,hLi',hx,hw0,hw1,eF,hbb,hbb2,bV]
     refine aN (i+1) (by omega) (by show l.length - (i+1)<l.length - i; omega) ?_
     show ∃ ρ,Wk _ (riS _ _ _ _) ρ
     rw [hT2]
     unfold riS
     refine wkQ [5] ?_ ?_ <;> simp [-ζ,upd,aS,Γ0,List.contains_cons,bQ,aEj,bId]
    ·have hT2:rI0 n (l.take (i+1))=(o++[x],false):=by rw [hT1]; simp [rI1,hx]
     simp [-ζ,-ξ,↓KW,riS,hiL,hLi,hLi',hx,hw0,hw1,eF,hbb,bV]
     refine aN (i+1) (by omega) (by show l.length - (i+1)<l.length - i; omega) ?_
     show ∃ ρ,Wk _ (riS _ _ _ _) ρ
     rw [hT2]
     unfold riS
     refine wkQ [3] ?_ ?_ <;> simp [-ζ,upd,aS,Γ0,List.contains_cons,bQ,aEj,wD]
  ·have hiL:¬ i<L.length:=by omega
   rw [List.take_of_length_le (show l.length≤i by omega)] at hol ⊢
   have hR:aAa n l=if (rI0 n l).2 then (rI0 n l).1 else (rI0 n l).1++[n]:=rfl
   rw [hR]
   generalize rI0 n l=y at *
   obtain ⟨o,d⟩:=y
   simp only at hol
   have hbb:=dY (n:=o.length) (by omega)
   cases d with
   | true =>
    have e0:(if (o,true).2=true then (o,true).1 else (o,true).1++[n])=o:=rfl
    rw [e0]
    have e1:=mW (l:=o) rfl
    have e2:=tR (l:=o) rfl
    simp [-ζ,-ξ,↓KW,riS,hiL]
    refine bG ?_
    simp [-ζ,-ξ,↓KW,ezI,eF,e1,e2]
   | false =>
    have e0:(if (o,false).2=true then (o,false).1 else (o,false).1++[n])=o++[n]:=rfl
    rw [e0]
    have hol2:(o++[n]).length=o.length+1:=by simp
    have e1:=mW hol2
    have e2:=tR hol2
    have e3:=eF (o++[n])
    rw [hol2] at e3
    simp [-ζ,-ξ,↓KW,riS,hiL]
    refine bG ?_
    have hcat:List.map AV.d (dzI o)++[AV.d (.i .i64 n)]=(dzI (o++[n])).map AV.d:=by simp [dzI]
    simp [-ζ,-ξ,↓KW,eF,hbb,bV,hcat,e1,e2,e3,ezI]
def blR (z:Int) (l:List (Nat × Nat × Nat)):List Int:=l.foldl (fun o x=>if z % (x.2.1:Int)=(x.2.2:Int) then o else aAa x.1 o) []
theorem bBj (z:Int) (l:List (Nat × Nat × Nat)) (w p v:Nat):blR z (l++[(w,p,v)])=if z % (p:Int)=(v:Int) then blR z l else aAa w (blR z l):=by unfold blR; rw [List.foldl_append]; rfl
set_option maxHeartbeats 4000000 in
set_option maxRecDepth 10000 in
theorem aGa [M:Mch Tryz.prog] (z:Int) (l:List (Nat × Nat × Nat)) (hl:l.length≤1000) (hbl:∀ i,(blR z (l.take i)).length≤1000) (hz:z.natAbs<2 ^ 256) (hp:∀ x∈l,0<x.2.1∧x.2.1≤2147483648):Spec Tryz.prog 17 [encZ z,fW l] (ezI (blR z l)):=by
 obtain ⟨L,hL,hLl,hLg⟩:=dN l
 rw [hL]
 refine bH (N:=29) Tryz.func17 ?_
 simp [-ζ,-ξ,↓KW,bT z,aA,aE,aC,aF,aB]
 refine bN (τ:=Nat) (fun i=>i≤l.length) (fun i=>StL [(1,.d (.sl L)),(2,.ptr 1 0),(5,.d (ezI (blR z (l.take i)))),(6,.d (.i .i64 i))] none [.cells 31 [.d (.b (decide (z<0))),.d (aG (aR z.natAbs))]]) (fun i=>l.length - i) 0 (Nat.zero_le _) ?_ ?_
 ·rw [List.take_zero]
  refine wkQ [1] ?_ ?_
  ·simp [-ζ,upd,aS,Γ0,show ezI (blR z [])=.sl [] from rfl]
   refine aNj (by rfl) (fun a ha id hid=>?_)
   have ha':a=2:=by simpa [-ζ,-ξ,upd] using ha
   rw [ha']
   exact aNo hid (by simp) (by decide)
  ·simp [-ζ,upd,aS,Γ0]
 ·intro i hi
  by_cases hlt:i<l.length
  ·obtain ⟨⟨w,p,v⟩,hge⟩:∃ x,l[i]? = some x:=⟨_,List.getElem?_eq_getElem hlt⟩
   have hmem:=List.mem_of_getElem? hge
   have hLi:=hLg i _ hge
   simp only at hLi
   have hLi':=cZ hLi
   have hiL:i<L.length:=by omega
   have hC:=uG w p v z (hp _ hmem).1 (hp _ hmem).2 hz
   have hT1:blR z (l.take (i+1))=if z % (p:Int)=(v:Int) then blR z (l.take i) else aAa w (blR z (l.take i)):=by
    rw [List.take_add_one,hge,Option.toList_some,bBj]
   have hIn:=aQx (blR z (l.take i)) w (hbl i)
   have hw0:IntKind.i64.wrap (i:Int)=i:=bB
   have hw1:IntKind.i64.wrap ((i:Int)+1)=((i+1:Nat):Int):=bB
   generalize z % (p:Int)=r at *
   by_cases hr:r=(v:Int)
   ·rw [if_pos hr] at hT1
    rw [decide_eq_true hr] at hC
    clear hIn
    generalize blR z (l.take i)=T at *
    simp [-ζ,-ξ,↓KW,hiL,hLi,hLi',hw0,aA,aE,aC,aF,aB]
    refine aH hC ?_
    simp [-ζ,-ξ,↓KW,hw1]
    refine aN (i+1) (by omega) (by show l.length - (i+1)<l.length - i; omega) ?_
    show ∃ ρ,Wk _ (StL _ _ _) ρ
    rw [hT1]
    refine wkQ [1] ?_ ?_ <;> simp [-ζ,upd,aS,Γ0]
   ·rw [if_neg hr] at hT1
    rw [decide_eq_false hr] at hC
    obtain ⟨T2,hT2⟩:∃ T2,aAa w (blR z (l.take i))=T2:=⟨_,rfl⟩
    rw [hT2] at hIn hT1
    generalize blR z (l.take i)=T at *
    simp [-ζ,-ξ,↓KW,hiL,hLi,hLi',hw0,aA,aE,aC,aF,aB]
    refine aH hC ?_
    simp [-ζ,-ξ,↓KW,hiL,hLi,hLi',hw0,hw1]
    refine aH hIn ?_
    simp [-ζ,-ξ,↓KW,hw1,jM,fA,iH,jO,fT]
    refine aN (i+1) (by omega) (by show l.length - (i+1)<l.length - i; omega) ?_
    show ∃ ρ,Wk _ (StL _ _ _) ρ
    rw [hT1]
    refine wkQ [1] ?_ ?_ <;> simp [-ζ,upd,aS,Γ0]
  ·have hiL:¬ i<L.length:=by omega
   rw [List.take_of_length_le (show l.length≤i by omega)]
   generalize blR z l=T at *
   simp [-ζ,-ξ,↓KW,hiL]
   exact bG (by simp [-ζ,-ξ,↓KW,jM,fA,iH,jO,fT])
def oin (n:Int):List Int→List Int
 | []=>[n]
 | x::l=>if n<x then n::x::l else x::oin n l
theorem aNr (n:Int):∀ (l o:List Int),l.foldl (rI1 n) (o,true)=(o++l,true)
 | [],o=>by simp
 | x::l,o=>by
  rw [List.foldl_cons]
  have:rI1 n (o,true) x=(o++[x],true):=by simp [rI1]
  rw [this,aNr n l]; simp
theorem aFz (n:Int):∀ (l o:List Int),(let y:=l.foldl (rI1 n) (o,false); if y.2 then y.1 else y.1++[n])=o++oin n l
 | [],o=>by simp [oin]
 | x::l,o=>by
  rw [List.foldl_cons]
  by_cases h:n<x
  ·have:rI1 n (o,false) x=(o++[n,x],true):=by simp [rI1,h]
   rw [this,aNr n l]; simp [oin,h]
  ·have:rI1 n (o,false) x=(o++[x],false):=by simp [rI1,h]
   rw [this,aFz n l (o++[x])]
   simp [oin,h]
theorem bFh (n:Int) (l:List Int):aAa n l=oin n l:=by
 have h:=aFz n l []
 simp only [List.nil_append] at h
 unfold aAa rI0
 generalize List.foldl (rI1 n) ([],false) l=y at *
 obtain ⟨o,d⟩:=y
 rw [← h]
theorem xK (n:Int):∀ l:List Int,(oin n l).Perm (n::l)
 | []=>.refl _
 | x::l=>by
  unfold oin
  split
  ·exact .refl _
  ·exact ((xK n l).cons x).trans (.swap n x l)
theorem xJ (n:Int):∀ l:List Int,l.Pairwise (·≤·)→(oin n l).Pairwise (·≤·)
 | [],_=>by simp [oin]
 | x::l,h=>by
  rw [List.pairwise_cons] at h
  unfold oin
  split
  ·rename_i hx
   rw [List.pairwise_cons,List.pairwise_cons]
   refine ⟨fun y hy=>?_,h⟩
   rcases List.mem_cons.1 hy with rfl | hy
   ·omega
   ·have:=h.1 y hy; omega
  ·rename_i hx
   rw [List.pairwise_cons]
   refine ⟨fun y hy=>?_,xJ n l h.2⟩
   have:=(xK n l).mem_iff.1 hy
   rcases List.mem_cons.1 this with rfl | hy
   ·omega
   ·exact h.1 y hy
theorem aMm (z:Int) (l:List (Nat × Nat × Nat)):(blR z l).Pairwise (·≤·)∧(blR z l).Perm (blL z l):=by
 have h:∀ (l:List (Nat × Nat × Nat)) (o:List Int),o.Pairwise (·≤·)→(l.foldl (fun o x=>if z % (x.2.1:Int)=(x.2.2:Int) then o else aAa x.1 o) o).Pairwise (·≤·)∧(l.foldl (fun o x=>if z % (x.2.1:Int)=(x.2.2:Int) then o else aAa x.1 o) o).Perm (o++blL z l):=by
  intro l
  induction l with
  | nil=>intro o ho; exact ⟨ho,by simp [blL]⟩
  | cons x l ih =>
   intro o ho
   rw [List.foldl_cons]
   have hb:blL z (x::l)=(if z % (x.2.1:Int)=(x.2.2:Int) then [] else [(x.1:Int)])++blL z l:=by
    have:=yX z [] x.1 x.2.1 x.2.2
    by_cases h:z % (x.2.1:Int)=(x.2.2:Int) <;> simp [blL,List.filter_cons,h]
   by_cases hx:z % (x.2.1:Int)=(x.2.2:Int)
   ·rw [if_pos hx] at hb ⊢
    rw [hb]; exact ih o ho
   ·rw [if_neg hx] at hb ⊢
    rw [hb,bFh]
    obtain ⟨h1,h2⟩:=ih (oin x.1 o) (xJ _ _ ho)
    refine ⟨h1,h2.trans ?_⟩
    refine ((xK (x.1:Int) o).append_right _).trans ?_
    simp only [List.singleton_append]
    exact (List.perm_middle (l₁:=o)).symm
 simpa [blR] using h l [] List.Pairwise.nil
theorem aPd (z:Int) (l:List (Nat × Nat × Nat)):blR z l=dF (blL z l):=(bLd (aMm z l).1 (aMm z l).2).symm
theorem aPe (z:Int) (l:List (Nat × Nat × Nat)):(blR z l).length≤l.length:=by
 rw [(aMm z l).2.length_eq]; exact tT z l
theorem aBi {α:Type} {l:List α} {i k:Nat} {x:α} (hk:k<i) (h1:l[k]? = some x) (h2:l[i]? = some x):¬ l.Nodup:=fun h=>by
 obtain ⟨a,ha⟩:=List.getElem?_eq_some_iff.1 h1
 obtain ⟨b,hb⟩:=List.getElem?_eq_some_iff.1 h2
 have:=(List.nodup_iff_pairwise_ne.1 h)
 rw [List.pairwise_iff_getElem] at this
 exact this k i a b hk (ha.trans hb.symm)
theorem nP {α:Type} {l:List α} {i:Nat} {x:α} (hx:l[i]? = some x) (h:(l.take i).Nodup) (hne:∀ k,k<i→l[k]? ≠ some x):(l.take (i+1)).Nodup:=by
 rw [List.take_add_one,hx]
 refine mN h fun hm=>?_
 obtain ⟨k,hk⟩:=List.mem_iff_getElem?.1 hm
 have hk2:=(List.getElem?_eq_some_iff.1 hk).1
 rw [List.length_take] at hk2
 rw [List.getElem?_take_of_lt (by omega)] at hk
 exact hne k (by omega) hk
set_option maxHeartbeats 4000000 in
set_option maxRecDepth 10000 in
theorem aDh [M:Mch Tryz.prog] (l:List Nat) (hl:l.length≤1000000) (hP:∀ p∈l,Spec Tryz.prog 98 [.i .u64 (p:Nat)] (.b true)):Spec Tryz.prog 51 [cP l] (.b (decide l.Nodup)):=by
 obtain ⟨L,hL,hLl,hLg⟩:=yK l
 rw [hL]
 refine bH (N:=31) Tryz.func51 ?_
 simp [-ζ,-ξ,↓KW]
 refine bN (τ:=Nat) (fun i=>i≤l.length∧(l.take i).Nodup) (fun i=>StL [(0,.d (.sl L)),(3,.d (.i .i64 i))] none []) (fun i=>l.length - i) 0 ⟨Nat.zero_le _,by simp⟩ ?_ ?_
 ·refine wkQ [] ?_ ?_ <;> simp [-ζ,upd,aS,Γ0]
 ·rintro i ⟨hi,hn⟩
  by_cases hlt:i<l.length
  ·have hLi:=hLg i hlt
   have hLi':=cZ hLi
   have hiL:i<L.length:=by omega
   have hge:l[i]? = some l[i]! := by rw [getElem!_pos l i hlt]; exact List.getElem?_eq_getElem hlt
   have hPp:Spec Tryz.prog 98 [.i .u64 (l[i]! : Nat)] (.b true):=hP _ (List.mem_of_getElem? hge)
   have hw0:IntKind.i64.wrap (i:Int)=i:=bB
   have hw1:IntKind.i64.wrap ((i:Int)+1)=((i+1:Nat):Int):=bB
   generalize hpe:l[i]! = p at *
   simp [-ζ,-ξ,↓KW,hiL,hLi,hLi',hw0]
   refine aH hPp ?_
   simp [-ζ,-ξ,↓KW]
   refine bN (τ:=Nat) (fun k=>k≤i∧∀ j,j<k→l[j]? ≠ some p) (fun k=>StL [(0,.d (.sl L)),(3,.d (.i .i64 i)),(4,.d (.i .i64 k))] none []) (fun k=>i - k) 0 ⟨Nat.zero_le _,fun j h=>by omega⟩ ?_ ?_
   ·refine wkQ [] ?_ ?_ <;> simp [-ζ,upd,aS,Γ0]
   ·rintro k ⟨hk,hne⟩
    by_cases hki:k<i
    ·have hLk:=hLg k (by omega)
     have hLk':=cZ hLk
     have hkL:k<L.length:=by omega
     have hgk:l[k]? = some l[k]! := by rw [getElem!_pos l k (by omega)]; exact List.getElem?_eq_getElem (by omega)
     have hwk0:IntKind.i64.wrap (k:Int)=k:=bB
     have hwk1:IntKind.i64.wrap ((k:Int)+1)=((k+1:Nat):Int):=bB
     generalize hqe:l[k]! = q at *
     by_cases hpq:q=p
     ·subst hpq
      have hd:decide l.Nodup=false:=decide_eq_false (aBi hki hgk hge)
      rw [hd]
      simp [-ζ,-ξ,↓KW,hki,hkL,hiL,hLk,hLk',hLi,hLi',hw0,hwk0]
      refine bG ?_
      simp [-ζ,-ξ,↓KW]
      exact bG (by simp [-ζ,-ξ,↓KW])
     ·have hpqi:((q:Int) == (p:Int))=false:=by simp; omega
      simp [-ζ,-ξ,↓KW,hki,hkL,hiL,hLk,hLk',hLi,hLi',hw0,hwk0,hwk1,hpq,hpqi]
      refine aN (k+1) ⟨by omega,fun j h=>?_⟩ (by show i - (k+1)<i - k; omega) (wkQ [] ?_ ?_)
      ·by_cases hj:j=k
       ·subst hj; rw [hgk]; intro h'; injection h' with h'; exact hpq h'
       ·exact hne j (by omega)
      ·simp [-ζ,upd,aS,Γ0]
      ·simp [-ζ,upd,aS,Γ0]
    ·have hke:k=i:=by omega
     subst hke
     simp [-ζ,-ξ,↓KW,hki]
     refine bG ?_
     simp [-ζ,-ξ,↓KW,hw1]
     refine aN (k+1) ⟨by omega,nP hge hn hne⟩ (by show l.length - (k+1)<l.length - k; omega) (wkQ [] ?_ ?_) <;> simp [-ζ,upd,aS,Γ0]
  ·have hiL:¬ i<L.length:=by omega
   rw [List.take_of_length_le (show l.length≤i by omega)] at hn
   rw [decide_eq_true hn]
   simp [-ζ,-ξ,↓KW,hiL]
   exact bG (by simp [-ζ,-ξ,↓KW])
theorem vL {l:List (Nat × Nat × Nat)} {i:Nat} {x:Nat × Nat × Nat} (h:l[i]? = some x):(wkL l)[i]? = some x.1:=by unfold wkL; rw [List.getElem?_map,h]; rfl
def aGh (L:List (List D)) (i:Nat) (P:List Nat):St:=StL [(0,.d (.sl L)),(3,.own 1 0 P.length 1),(4,.d (.i .i64 i))] none [.cells 51 ((dU P).map .d)]
def aXg (L:List (List D)) (i k:Nat) (P:List Nat):St:=StL [(0,.d (.sl L)),(3,.own 1 0 P.length 1),(4,.d (.i .i64 i)),(5,.d (.i .i64 k))] none [.cells 51 ((dU P).map .d)]
set_option maxHeartbeats 4000000 in
set_option maxRecDepth 10000 in
theorem aAx [M:Mch Tryz.prog] (l:List (Nat × Nat × Nat)) (b:Bool) (hb:b=true↔nS l∧(pmL l).Nodup) (hl:l.length≤1000000) (hP:∀ x∈l,Spec Tryz.prog 98 [.i .u64 (x.2.1:Nat)] (.b true)):Spec Tryz.prog 14 [fW l] (.b b):=by
 obtain ⟨L,hL,hLl,hLg⟩:=dN l
 have hD:=aDh (pmL l) (by simp [pmL]; omega) (fun p hp=>by
  obtain ⟨x,hx,rfl⟩:=List.mem_map.1 hp
  exact hP x hx)
 rw [hL]
 refine bH (N:=53) Tryz.func14 ?_
 simp [-ζ,-ξ,↓KW]
 refine bN (τ:=Nat) (fun i=>i≤l.length∧nS (l.take i)) (fun i=>aGh L i (pmL (l.take i))) (fun i=>l.length - i) 0 ⟨Nat.zero_le _,by simp [nS,wkL]⟩ ?_ ?_
 ·rw [List.take_zero]
  show ∃ ρ,Wk _ (aGh _ _ []) ρ
  unfold aGh
  refine wkQ [1] ?_ ?_ <;> simp [-ζ,upd,aS,Γ0,dU]
 ·rintro i ⟨hi,hn⟩
  by_cases hlt:i<l.length
  ·obtain ⟨⟨w,p,v⟩,hge⟩:∃ x,l[i]? = some x:=⟨_,List.getElem?_eq_getElem hlt⟩
   have hmem:=List.mem_of_getElem? hge
   have hLi:=hLg i _ hge
   simp only at hLi
   have hLi':=cZ hLi
   have hiL:i<L.length:=by omega
   have hT1:l.take (i+1)=l.take i++[(w,p,v)]:=by rw [List.take_add_one,hge]; rfl
   have hw0:IntKind.i64.wrap (i:Int)=i:=bB
   have hw1:IntKind.i64.wrap ((i:Int)+1)=((i+1:Nat):Int):=bB
   have hpT:pmL (l.take (i+1))=pmL (l.take i)++[p]:=by rw [hT1]; simp [pmL]
   have hPl:(pmL (l.take i)).length=i:=by simp [pmL]; omega
   have hbb:=dY (n:=(pmL (l.take i)).length) (by omega)
   have hP1:(pmL (l.take (i+1))).length=(pmL (l.take i)).length+1:=by rw [hpT]; simp
   have hdU1:(dU (pmL (l.take i))).map AV.d++[AV.d (.i .u64 (p:Int))]=(dU (pmL (l.take (i+1)))).map AV.d:=by rw [hpT]; simp [dU]
   by_cases hv:v<p
   ·have hpv:¬ (p:Int)≤(v:Int):=by omega
    have hpv':¬ p≤v:=by omega
    obtain ⟨PT1,hPT1⟩:∃ PT1,pmL (l.take (i+1))=PT1:=⟨_,rfl⟩
    rw [hPT1] at hP1 hdU1
    generalize pmL (l.take i)=PT at *
    simp [-ζ,-ξ,↓KW,aGh,hiL,hLi,hLi',hw0,hpv,hpv',gM,hbb,bV]
    refine bN (τ:=Nat) (fun k=>k≤i∧∀ j,j<k→(wkL l)[j]? ≠ some w) (fun k=>aXg L i k PT1) (fun k=>i - k) 0 ⟨Nat.zero_le _,fun j h=>by omega⟩ ?_ ?_
    ·unfold aXg
     rw [hP1]
     refine wkQ [3] ?_ ?_ <;> simp [-ζ,upd,aS,Γ0,List.contains_cons,bQ,hdU1]
    ·rintro k ⟨hk,hne⟩
     by_cases hki:k<i
     ·obtain ⟨⟨w',p',v'⟩,hgk⟩:∃ x,l[k]? = some x:=⟨_,List.getElem?_eq_getElem (by omega)⟩
      have hLk:=hLg k _ hgk
      simp only at hLk
      have hLk':=cZ hLk
      have hkL:k<L.length:=by omega
      have hwk0:IntKind.i64.wrap (k:Int)=k:=bB
      have hwk1:IntKind.i64.wrap ((k:Int)+1)=((k+1:Nat):Int):=bB
      by_cases hww:w'=w
      ·subst hww
       have hbf:b=false:=by
        cases b with
        | false=>rfl
        | true=>exact absurd (hb.1 rfl).1.1 (aBi hki (show (wkL l)[k]? = some w' from vL hgk) (show (wkL l)[i]? = some w' from vL hge))
       subst hbf
       simp [-ζ,-ξ,↓KW,aXg,hki,hkL,hiL,hLk,hLk',hLi,hLi',hw0,hwk0]
       refine bG ?_
       simp [-ζ,-ξ,↓KW]
       exact bG (by simp [-ζ,-ξ,↓KW])
      ·have hwwi:((w':Int) == (w:Int))=false:=by simp; omega
       simp [-ζ,-ξ,↓KW,aXg,hki,hkL,hiL,hLk,hLk',hLi,hLi',hw0,hwk0,hwk1,hww,hwwi]
       refine aN (k+1) ⟨by omega,fun j h=>?_⟩ (by show i - (k+1)<i - k; omega) (wkQ [1] ?_ ?_)
       ·by_cases hj:j=k
        ·subst hj; rw [vL hgk]; intro h'; injection h' with h'; exact hww h'
        ·exact hne j (by omega)
       ·simp [-ζ,upd,aS,Γ0]
       ·simp [-ζ,upd,aS,Γ0]
     ·have hke:k=i:=by omega
      subst hke
      have hokn:nS (l.take (k+1)):=⟨by rw [wI]; exact nP (vL hge) (by rw [← wI]; exact hn.1) hne,fun x hx=>by
       rw [hT1] at hx
       rcases List.mem_append.1 hx with h | h
       ·exact hn.2 x h
       ·simp only [List.mem_singleton] at h; subst h; exact hv⟩
      simp [-ζ,-ξ,↓KW,aXg,hki]
      refine bG ?_
      simp [-ζ,-ξ,↓KW,hw1]
      refine aN (k+1) ⟨by omega,hokn⟩ (by show l.length - (k+1)<l.length - k; omega) ?_
      show ∃ ρ,Wk _ (aGh _ _ _) ρ
      rw [hPT1]
      unfold aGh
      refine wkQ [1] ?_ ?_ <;> simp [-ζ,upd,aS,Γ0]
   ·have hpv:(p:Int)≤(v:Int):=by omega
    have hpv':p≤v:=by omega
    have hbf:b=false:=by
     cases b with
     | false=>rfl
     | true=>exact absurd ((hb.1 rfl).1.2 _ hmem) (by simpa using hpv')
    subst hbf
    generalize pmL (l.take i)=PT at *
    simp [-ζ,-ξ,↓KW,aGh,hiL,hLi,hLi',hw0,hpv,hpv']
    exact bG (by simp [-ζ,-ξ,↓KW])
  ·have hiL:¬ i<L.length:=by omega
   rw [List.take_of_length_le (show l.length≤i by omega)] at hn ⊢
   have hbe:b=decide (pmL l).Nodup:=by
    cases b with
    | false=>symm; rw [decide_eq_false_iff_not]; exact fun h=>by have:=hb.2 ⟨hn,h⟩; cases this
    | true=>symm; rw [decide_eq_true_eq]; exact (hb.1 rfl).2
   rw [hbe]
   generalize decide (pmL l).Nodup=bb at *
   generalize hPT:pmL l=PT at *
   simp [-ζ,-ξ,↓KW,aGh,hiL]
   refine bG ?_
   simp [-ζ,-ξ,↓KW]
   refine bE (ds:=[cP PT]) (aHs (bAa rfl rfl)) hD ?_
   simp [-ζ,-ξ,↓KW]
end Go.Am
end
