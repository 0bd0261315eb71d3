/- Chains: sums are a module: the plain law. No condition. -/
import Derived.Test.YtmnjglpieghdkaaPl1
open Go Go.Am Go.Proofs
namespace Go.Am
set_option linter.unusedSimpArgs false

/-- a + k b. -/
def lin (a b : List (Int × Int)) (k : Int) : List (Int × Int) := addR a (mulR k b)
theorem cf_mulR (k n : Int) : ∀ b : List (Int × Int), cf n (mulR k b) = k * cf n b
  | [] => by simp [mulR, cf]
  | x :: b => by
    have ih := cf_mulR k n b
    show (if n = x.1 then k * x.2 else 0) + cf n (mulR k b) = k * ((if n = x.1 then x.2 else 0) + cf n b)
    rw [ih, Int.mul_add]
    split <;> simp
theorem cf_app (n : Int) : ∀ a b : List (Int × Int), cf n (a ++ b) = cf n a + cf n b
  | [], b => by simp [cf]
  | x :: a, b => by
    have ih := cf_app n a b
    simp only [List.cons_append, cf, ih]; omega
theorem cf_reverse (n : Int) : ∀ a : List (Int × Int), cf n a.reverse = cf n a
  | [] => rfl
  | x :: a => by
    rw [List.reverse_cons, cf_app, cf_reverse n a]
    simp only [cf]; omega
theorem lin_val {a b : List (Int × Int)} (ha : Val a) (hb : Val b) (k : Int) : Val (lin a b k) ∧ ∀ n, getM (lin a b k) n = getM a n + k * getM b n := by
  obtain ⟨h1, h2⟩ := addR_val (mulR k b) a ha
  exact ⟨h1, fun n => by show getM (addR a (mulR k b)) n = _; rw [h2 n, cf_mulR, cf_getM hb]⟩
theorem back_eq (x : List (Int × Int)) : addR [] x.reverse = addR [] x := by
  obtain ⟨h1, h2⟩ := addR_val x.reverse [] Val.nil
  obtain ⟨h3, h4⟩ := addR_val x [] Val.nil
  exact h1.ext h3 fun n => by rw [h2 n, h4 n, cf_reverse]
theorem comm_eq {a b : List (Int × Int)} (ha : Val a) (hb : Val b) : lin a b 1 = lin b a 1 := by
  obtain ⟨h1, h2⟩ := lin_val ha hb 1
  obtain ⟨h3, h4⟩ := lin_val hb ha 1
  exact h1.ext h3 fun n => by rw [h2 n, h4 n]; omega
theorem twice_eq {a : List (Int × Int)} (ha : Val a) (j k : Int) : lin [] (lin [] a j) k = lin [] a (j * k) := by
  obtain ⟨h1, h2⟩ := lin_val Val.nil ha j
  obtain ⟨h3, h4⟩ := lin_val Val.nil h1 k
  obtain ⟨h5, h6⟩ := lin_val Val.nil ha (j * k)
  exact h3.ext h5 fun n => by rw [h4 n, h6 n, h2 n, getM_nil, Int.zero_add, Int.zero_add, Int.zero_add, ← Int.mul_assoc, Int.mul_comm k j]
theorem dist_eq {a b : List (Int × Int)} (ha : Val a) (hb : Val b) (j : Int) : lin [] (lin a b 1) j = lin (lin [] a j) b j := by
  obtain ⟨h1, h2⟩ := lin_val ha hb 1
  obtain ⟨h3, h4⟩ := lin_val Val.nil h1 j
  obtain ⟨h5, h6⟩ := lin_val Val.nil ha j
  obtain ⟨h7, h8⟩ := lin_val h5 hb j
  exact h3.ext h7 fun n => by rw [h4 n, h8 n, h6 n, h2 n, getM_nil, Int.one_mul, Int.mul_add]; omega
theorem neg_eq {a : List (Int × Int)} (ha : Val a) : lin a a (-1) = [] := by
  obtain ⟨h1, h2⟩ := lin_val ha ha (-1)
  exact h1.ext Val.nil fun n => by rw [h2 n, getM_nil]; omega
theorem null_eq {a b : List (Int × Int)} (ha : Val a) (hb : Val b) : lin a b 0 = a := by
  obtain ⟨h1, h2⟩ := lin_val ha hb 0
  exact h1.ext ha fun n => by rw [h2 n]; omega

theorem lin_keys {a b : List (Int × Int)} {k : Int} (ha : Val a) (hka : Keys a) (hkb : Keys b) : Keys (lin a b k) := fun x hx => by
  have hx' : x ∈ addR a (mulR k b) := hx
  rw [← add_eq ha] at hx'
  obtain ⟨n, hn, rfl⟩ := List.mem_map.1 hx'
  obtain ⟨y, hy, rfl⟩ := List.mem_map.1 ((isort_mem n _).1 hn)
  refine sumM_keys (mulR k b) _ (sumM_keys a [] (fun _ h => by cases h) hka) (fun z hz => ?_) y hy
  obtain ⟨w, hw, rfl⟩ := List.mem_map.1 hz
  exact hkb w hw
theorem lin_bnd {a b : List (Int × Int)} {k : Int} {A M K : Nat} (ha : Bnd A a) (hb : Bnd M b) (hk : k.natAbs ≤ K) : Bnd (A + b.length * (K * M)) (lin a b k) := by
  have := addR_bnd (mulR k b) a ha (mulR_bnd hk hb)
  rwa [show (mulR k b).length = b.length by simp [mulR]] at this
theorem lin_len (a b : List (Int × Int)) (k : Int) : (lin a b k).length ≤ a.length + b.length := by
  have := addR_len a (mulR k b)
  rwa [show (mulR k b).length = b.length by simp [mulR]] at this

/-- A chain of at most 100 cells with coefficients of at most 12 digits. -/
structure Small (a : List (Int × Int)) : Prop where
  val : Val a
  keys : Keys a
  bnd : Bnd 1000000000000 a
  len : a.length ≤ 100
theorem Small.sz {a : List (Int × Int)} (h : Small a) : ∀ x ∈ a, Sz x.2 := fun x hx => sz_of_lt (h.bnd x hx) (digs_small (by decide))
theorem Small.nil : Small [] := ⟨Val.nil, (fun _ h => by cases h), Bnd.nil _, Nat.zero_le _⟩
theorem addSpec {a b : List (Int × Int)} (ha : Small a) (hb : Small b) {k : Int} (hk : k.natAbs ≤ 1000000) : Spec Try.prog 16 [encC a, encC b, encZ k] (encC (lin a b k)) := by
  have h1 := ha.len
  have h2 := hb.len
  have sP := chainsAdd a b k 1000000000000 1000000000000 1000000 ha.bnd hb.bnd hk (digs_small (by omega)) (digs_small (by decide)) (digs_small (by decide)) (digs_small (by decide)) (digs_small (by decide)) ha.keys hb.keys (by omega)
  rwa [add_eq ha.val] at sP
theorem sameSpec {a b : List (Int × Int)} (ha : Small a) (hb : Small b) (e : a = b) : Spec Try.prog 14 [encC a, encC b] (.b true) := by
  have := r26Same a b ha.sz hb.sz (by have := ha.len; omega) (by have := hb.len; omega)
  rwa [decide_eq_true e] at this
theorem validSpec {a : List (Int × Int)} (ha : Small a) : Spec Try.prog 20 [encC a] (.b true) := by
  have := r26Valid a ha.sz (by have := ha.len; omega)
  rwa [val_validR ha.val] at this
theorem ofSpec (n : Int) (h : n.natAbs ≤ 1000000) : Spec Try.prog 17 [.i .i64 n] (encZ n) := r01Of n (by omega) (by omega)

end Go.Am
