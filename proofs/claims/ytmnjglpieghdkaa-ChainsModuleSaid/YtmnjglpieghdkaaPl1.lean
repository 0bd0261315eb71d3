/- Small chains: bounds. No condition. -/
import Derived.Test.YtmnjglpieghdkaaPl
open Go Go.Am Go.Proofs
namespace Go.Am
set_option linter.unusedSimpArgs false

theorem digs_small {n : Nat} (h : n < 340282366920938463463374607431768211456) : (digs n).length ≤ 137438953472 := by
  have e : (4294967296 : Nat) ^ 4 = 340282366920938463463374607431768211456 := by decide
  have := digs_len_le (n := n) (k := 4) (by rw [e]; exact h)
  omega
theorem facesR_len (l : List (Int × Int)) : (facesR l).length ≤ 6 := by simp [facesR]; omega
theorem facesR_bnd (l : List (Int × Int)) : Bnd 3 (facesR l) := fun x hx => by
  obtain ⟨y, _, rfl⟩ := List.mem_map.1 hx
  exact (face1_bnd y).2
theorem facesR_keys (l : List (Int × Int)) : Keys (facesR l) := fun x hx => by
  obtain ⟨y, _, rfl⟩ := List.mem_map.1 hx
  have := (face1_bnd y).1
  simp only [inr, decide_eq_true_eq]; omega
theorem addR_keys {l : List (Int × Int)} (h : Keys l) : Keys (addR [] l) := fun x hx => by
  rw [← make_eq] at hx
  obtain ⟨n, hn, rfl⟩ := List.mem_map.1 hx
  obtain ⟨y, hy, rfl⟩ := List.mem_map.1 ((isort_mem n _).1 hn)
  exact sumM_keys l [] (fun _ h => by cases h) h y hy


end Go.Am
