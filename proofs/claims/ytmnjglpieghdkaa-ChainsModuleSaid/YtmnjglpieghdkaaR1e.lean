/- The reference's integers: products, the plain part. No condition. -/
import Derived.Test.YtmnjglpieghdkaaR1d
open Go Go.Am Go.Proofs
namespace Go.Am
set_option linter.unusedSimpArgs false

theorem val_set {l : List Nat} {j : Nat} (h : j < l.length) (v : Nat) : val (l.set j v) + 4294967296 ^ j * l.getD j 0 = val l + 4294967296 ^ j * v := by
  induction l generalizing j with
  | nil => simp at h
  | cons x l ih =>
    cases j with
    | zero => simp only [List.set_cons_zero, val, Nat.pow_zero, Nat.one_mul, List.getD_cons_zero]; omega
    | succ j =>
      have := ih (j := j) (by simpa using h)
      simp only [List.set_cons_succ, val, List.getD_cons_succ, Nat.pow_succ]
      generalize 4294967296 ^ j = p at *
      generalize l.getD j 0 = o at *
      generalize val (l.set j v) = w at *
      rw [Nat.mul_comm p, Nat.mul_assoc, Nat.mul_assoc]
      generalize p * o = e1 at *
      generalize p * v = e2 at *
      omega

/-- One limb's product laid in: k limbs. -/
def muI (out : List Nat) (x : Nat) (b : List Nat) (i : Nat) : Nat → List Nat × Nat
  | 0 => (out, 0)
  | k + 1 => ((muI out x b i k).1.set (i + k) (((muI out x b i k).2 + (muI out x b i k).1.getD (i + k) 0 + x * b.getD k 0) % 4294967296), ((muI out x b i k).2 + (muI out x b i k).1.getD (i + k) 0 + x * b.getD k 0) / 4294967296)
def muN (out : List Nat) (x : Nat) (b : List Nat) (i : Nat) : Nat := if (muI out x b i b.length).2 = 0 then b.length else b.length + 1
def muO (a b : List Nat) : Nat → List Nat
  | 0 => List.replicate (a.length + b.length + 1) 0
  | i + 1 => (muI (muO a b i) (a.getD i 0) b i (muN (muO a b i) (a.getD i 0) b i)).1

theorem mu_arith {P v v' o c t q r e w k : Nat} (hs : v' + P * o = v + P * r) (ht : r + k * q = t) (ht2 : c + o + e = t) (hv : v + P * c = w) : v' + P * k * q = w + P * e := by
  have h1 : P * t = P * r + P * (k * q) := by rw [← ht, Nat.mul_add]
  have h2 : P * t = P * c + P * o + P * e := by rw [← ht2, Nat.mul_add, Nat.mul_add]
  rw [Nat.mul_assoc]
  omega
theorem mu_lim {c o x y : Nat} (hc : c < 4294967296) (ho : o < 4294967296) (hx : x < 4294967296) (hy : y < 4294967296) : c + o + x * y < 18446744073709551616 := by
  have : x * y ≤ 4294967295 * 4294967295 := Nat.mul_le_mul (by omega) (by omega)
  omega
theorem muI_inv {out b : List Nat} {x i : Nat} (ho : Lim out) (hb : Lim b) (hx : x < 4294967296) (hl : i + b.length < out.length) (k : Nat) (hk : k ≤ b.length + 1) :
    (muI out x b i k).1.length = out.length ∧ (muI out x b i k).2 < 4294967296 ∧ Lim (muI out x b i k).1 ∧ val (muI out x b i k).1 + 4294967296 ^ (i + k) * (muI out x b i k).2 = val out + 4294967296 ^ i * (x * val (b.take k)) := by
  induction k with
  | zero => exact ⟨rfl, Nat.zero_lt_of_lt hx, ho, by simp [muI, val]⟩
  | succ k ih =>
    obtain ⟨h1, h2, h3, h4⟩ := ih (by omega)
    have hy := hb.getD k
    have hoo := h3.getD (i + k)
    have hset := val_set (l := (muI out x b i k).1) (j := i + k) (by omega) (((muI out x b i k).2 + (muI out x b i k).1.getD (i + k) 0 + x * b.getD k 0) % 4294967296)
    have hlim := mu_lim h2 hoo hx hy
    rw [val_take_succ]
    simp only [muI]
    generalize (muI out x b i k).1 = out' at *
    generalize (muI out x b i k).2 = c at *
    generalize out'.getD (i + k) 0 = o at *
    generalize b.getD k 0 = y at *
    refine ⟨by simp [h1], by omega, h3.set _ (by omega), ?_⟩
    have := mu_arith hset (Nat.mod_add_div _ _) rfl h4
    rw [← Nat.add_assoc i k 1, Nat.pow_succ, this, Nat.pow_add, Nat.mul_add, Nat.mul_add, Nat.mul_assoc, Nat.add_assoc]
    congr 2
    rw [Nat.mul_left_comm x]
theorem muI_stop {out b : List Nat} {x i : Nat} (ho : Lim out) (hb : Lim b) (hx : x < 4294967296) (hl : i + b.length < out.length) (hv : val out < 4294967296 ^ (i + b.length)) : (muI out x b i (b.length + 1)).2 = 0 := by
  obtain ⟨_, _, _, h4⟩ := muI_inv ho hb hx hl (b.length + 1) (Nat.le_refl _)
  rw [List.take_of_length_le (by omega)] at h4
  have hbv := val_lt hb
  rcases Nat.eq_zero_or_pos (muI out x b i (b.length + 1)).2 with h | h
  · exact h
  exfalso
  have e1 : 4294967296 ^ (i + (b.length + 1)) * 1 ≤ 4294967296 ^ (i + (b.length + 1)) * (muI out x b i (b.length + 1)).2 := Nat.mul_le_mul_left _ h
  have e2 : x * val b ≤ 4294967295 * 4294967296 ^ b.length := Nat.mul_le_mul (by omega) (by omega)
  have e3 : 4294967296 ^ i * (x * val b) ≤ 4294967296 ^ i * (4294967295 * 4294967296 ^ b.length) := Nat.mul_le_mul_left _ e2
  have e4 : 4294967296 ^ i * (4294967295 * 4294967296 ^ b.length) = 4294967295 * 4294967296 ^ (i + b.length) := by rw [Nat.pow_add, Nat.mul_left_comm]
  have e5 : 4294967296 ^ (i + (b.length + 1)) = 4294967296 ^ (i + b.length) * 4294967296 := by rw [← Nat.add_assoc, Nat.pow_succ]
  rw [Nat.mul_one, e5] at e1
  rw [e5] at h4
  rw [e4] at e3
  generalize 4294967296 ^ (i + b.length) = p at *
  generalize 4294967296 ^ i * (x * val b) = q at *
  generalize (muI out x b i (b.length + 1)).2 = c at *
  generalize p * 4294967296 * c = d at *
  omega
theorem muN_val {out b : List Nat} {x i : Nat} (ho : Lim out) (hb : Lim b) (hx : x < 4294967296) (hl : i + b.length < out.length) (hv : val out < 4294967296 ^ (i + b.length)) :
    (muI out x b i (muN out x b i)).1.length = out.length ∧ Lim (muI out x b i (muN out x b i)).1 ∧ val (muI out x b i (muN out x b i)).1 = val out + 4294967296 ^ i * (x * val b) := by
  unfold muN
  have hstop := muI_stop ho hb hx hl hv
  by_cases h : (muI out x b i b.length).2 = 0
  · rw [if_pos h]
    obtain ⟨h1, _, h3, h4⟩ := muI_inv ho hb hx hl b.length (by omega)
    rw [List.take_of_length_le (by omega), h, Nat.mul_zero, Nat.add_zero] at h4
    exact ⟨h1, h3, h4⟩
  · rw [if_neg h]
    obtain ⟨h1, _, h3, h4⟩ := muI_inv ho hb hx hl (b.length + 1) (Nat.le_refl _)
    rw [List.take_of_length_le (by omega), hstop, Nat.mul_zero, Nat.add_zero] at h4
    exact ⟨h1, h3, h4⟩
theorem muO_lt {a b : List Nat} (ha : Lim a) (hb : Lim b) {i : Nat} (hi : i ≤ a.length) : val (a.take i) * val b < 4294967296 ^ (i + b.length) := by
  have h1 := val_lt (ha.take i)
  rw [List.length_take, Nat.min_eq_left hi] at h1
  have h2 := val_lt hb
  rw [Nat.pow_add]
  exact Nat.mul_lt_mul'' h1 h2
theorem muO_inv {a b : List Nat} (ha : Lim a) (hb : Lim b) (i : Nat) (hi : i ≤ a.length) : (muO a b i).length = a.length + b.length + 1 ∧ Lim (muO a b i) ∧ val (muO a b i) = val (a.take i) * val b := by
  induction i with
  | zero => exact ⟨by simp [muO], .rep _, by simp [muO, val_rep, val]⟩
  | succ i ih =>
    obtain ⟨h1, h2, h3⟩ := ih (by omega)
    have hv := muO_lt ha hb (i := i) (by omega)
    rw [← h3] at hv
    obtain ⟨q1, q2, q3⟩ := muN_val (x := a.getD i 0) (i := i) h2 hb (ha.getD i) (by omega) hv
    refine ⟨q1.trans h1, q2, ?_⟩
    show val (muI (muO a b i) (a.getD i 0) b i (muN (muO a b i) (a.getD i 0) b i)).1 = _
    rw [q3, h3, val_take_succ, Nat.add_mul, Nat.mul_assoc]

end Go.Am
