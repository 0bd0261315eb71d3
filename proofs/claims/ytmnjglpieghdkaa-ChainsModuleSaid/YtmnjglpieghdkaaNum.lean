/- Numbers to the base 2^32 as lists of limbs: values, canonical lists, sums, differences, products: plain arithmetic, no program in sight. No condition. -/
import Derived.Test.YtmnjglpieghdkaaAm19
namespace Go.Am

def val : List Nat → Nat
  | [] => 0
  | x :: l => x + 4294967296 * val l

/-- All limbs are below 2^32. -/
def Lim (l : List Nat) : Prop := ∀ x ∈ l, x < 4294967296

theorem Lim.nil : Lim [] := fun _ h => by cases h
theorem Lim.cons {x : Nat} {l : List Nat} (h : x < 4294967296) (k : Lim l) : Lim (x :: l) := fun y hy => by
  rcases List.mem_cons.1 hy with rfl | hy
  · exact h
  · exact k y hy
theorem Lim.app {a b : List Nat} (h : Lim a) (k : Lim b) : Lim (a ++ b) := fun y hy => by
  rcases List.mem_append.1 hy with hy | hy
  · exact h y hy
  · exact k y hy
theorem Lim.one {x : Nat} (h : x < 4294967296) : Lim [x] := .cons h .nil
theorem Lim.take {l : List Nat} (h : Lim l) (n : Nat) : Lim (l.take n) := fun y hy => h y (List.mem_of_mem_take hy)
theorem Lim.get {l : List Nat} (h : Lim l) {i : Nat} (hi : i < l.length) : l[i] < 4294967296 := h _ (List.getElem_mem hi)
theorem Lim.getD {l : List Nat} (h : Lim l) (i : Nat) : l.getD i 0 < 4294967296 := by
  rw [List.getD_eq_getElem?_getD]
  rcases Nat.lt_or_ge i l.length with hi | hi
  · rw [List.getElem?_eq_getElem hi]; exact h.get hi
  · rw [List.getElem?_eq_none hi]; decide
theorem Lim.rep (n : Nat) : Lim (List.replicate n 0) := fun y hy => by rw [(List.mem_replicate.1 hy).2]; decide
theorem Lim.set {l : List Nat} (h : Lim l) (i : Nat) {x : Nat} (hx : x < 4294967296) : Lim (l.set i x) := fun y hy => by
  rcases List.mem_or_eq_of_mem_set hy with hy | rfl
  · exact h y hy
  · exact hx

theorem val_app (a b : List Nat) : val (a ++ b) = val a + 4294967296 ^ a.length * val b := by
  induction a with
  | nil => simp [val]
  | cons x a ih =>
    simp only [List.cons_append, val, ih, List.length_cons, Nat.pow_succ, Nat.mul_add]
    rw [Nat.mul_comm (4294967296 ^ a.length) 4294967296, Nat.mul_assoc]
    omega
theorem val_rep (n : Nat) : val (List.replicate n 0) = 0 := by
  induction n with
  | zero => rfl
  | succ n ih => simp [List.replicate_succ, val, ih]
theorem val_lt {l : List Nat} (h : Lim l) : val l < 4294967296 ^ l.length := by
  induction l with
  | nil => simp [val]
  | cons x l ih =>
    have h1 := h x (List.mem_cons_self ..)
    have h2 := ih fun y hy => h y (List.mem_cons_of_mem _ hy)
    simp only [val, List.length_cons, Nat.pow_succ]
    omega
theorem val_take_succ (l : List Nat) (i : Nat) : val (l.take (i + 1)) = val (l.take i) + 4294967296 ^ i * l.getD i 0 := by
  rcases Nat.lt_or_ge i l.length with hi | hi
  · rw [List.take_add_one, List.getElem?_eq_getElem hi, val_app, List.length_take, Nat.min_eq_left (by omega), List.getD_eq_getElem?_getD, List.getElem?_eq_getElem hi]
    simp [val]
  · rw [List.take_of_length_le (by omega), List.take_of_length_le (by omega), List.getD_eq_getElem?_getD, List.getElem?_eq_none hi]
    simp

/-- The limbs of a number. -/
def digs (n : Nat) : List Nat := if h : n = 0 then [] else n % 4294967296 :: digs (n / 4294967296)
termination_by n
decreasing_by omega

theorem digs_zero : digs 0 = [] := by rw [digs]; simp
theorem digs_pos {n : Nat} (h : n ≠ 0) : digs n = n % 4294967296 :: digs (n / 4294967296) := by rw [digs]; simp [h]
theorem digs_eq_nil {n : Nat} : digs n = [] ↔ n = 0 := by
  constructor
  · intro h
    by_cases hn : n = 0
    · exact hn
    · rw [digs_pos hn] at h; cases h
  · rintro rfl; exact digs_zero

theorem digs_ind {p : Nat → Prop} (h0 : p 0) (h1 : ∀ n, n ≠ 0 → p (n / 4294967296) → p n) : ∀ n, p n := fun n => by
  induction n using Nat.strongRecOn with
  | _ n ih =>
    by_cases hn : n = 0
    · subst hn; exact h0
    · exact h1 n hn (ih _ (by omega))

theorem val_digs (n : Nat) : val (digs n) = n := by
  refine digs_ind (p := fun n => val (digs n) = n) (by rw [digs_zero]; rfl) (fun n hn ih => ?_) n
  rw [digs_pos hn, val, ih]; omega
theorem lim_digs (n : Nat) : Lim (digs n) := by
  refine digs_ind (p := fun n => Lim (digs n)) (by rw [digs_zero]; exact .nil) (fun n hn ih => ?_) n
  rw [digs_pos hn]; exact .cons (by omega) ih

/-- No zero limb stands at the end. -/
def Canon (l : List Nat) : Prop := l.getLast? ≠ some 0
theorem canon_digs (n : Nat) : Canon (digs n) := by
  refine digs_ind (p := fun n => Canon (digs n)) (by rw [digs_zero]; simp [Canon]) (fun n hn ih => ?_) n
  rw [digs_pos hn]
  by_cases h : n / 4294967296 = 0
  · rw [h, digs_zero]
    simp only [Canon, List.getLast?_singleton, ne_eq, Option.some.injEq]
    omega
  · unfold Canon at ih ⊢
    rw [digs_pos h] at ih ⊢
    simpa [List.getLast?_cons_cons] using ih

/-- Zero limbs at the end are cut off. -/
def strip : List Nat → List Nat
  | [] => []
  | x :: l => match strip l with
    | [] => if x = 0 then [] else [x]
    | l' => x :: l'

theorem strip_digs {l : List Nat} (h : Lim l) : strip l = digs (val l) := by
  induction l with
  | nil => rw [val, digs_zero]; rfl
  | cons x l ih =>
    have hx := h x (List.mem_cons_self ..)
    have hl := ih fun y hy => h y (List.mem_cons_of_mem _ hy)
    simp only [strip, val]
    rw [hl]
    by_cases h0 : val l = 0
    · rw [h0, digs_zero]
      simp only [Nat.mul_zero, Nat.add_zero]
      by_cases hx0 : x = 0
      · subst hx0; rw [digs_zero]; rfl
      · rw [if_neg hx0, digs_pos hx0, Nat.mod_eq_of_lt hx, Nat.div_eq_of_lt hx, digs_zero]
    · rw [digs_pos (n := x + _) (by omega)]
      have e1 : (x + 4294967296 * val l) % 4294967296 = x := by omega
      have e2 : (x + 4294967296 * val l) / 4294967296 = val l := by omega
      rw [e1, e2]
      have : digs (val l) ≠ [] := fun e => h0 (digs_eq_nil.1 e)
      cases hd : digs (val l) with
      | nil => exact (this hd).elim
      | cons => rfl

theorem strip_app_zero (l : List Nat) : strip (l ++ [0]) = strip l := by
  induction l with
  | nil => rfl
  | cons x l ih => simp only [List.cons_append, strip, ih]
theorem strip_canon {l : List Nat} (h : Canon l) : strip l = l := by
  induction l with
  | nil => rfl
  | cons x l ih =>
    cases l with
    | nil =>
      have : x ≠ 0 := by simpa [Canon] using h
      simp [strip, this]
    | cons y l =>
      have h2 : Canon (y :: l) := by simpa [Canon, List.getLast?_cons_cons] using h
      have h3 := ih h2
      rw [strip, h3]
theorem digs_val {l : List Nat} (h : Lim l) (hc : Canon l) : digs (val l) = l := by rw [← strip_digs h, strip_canon hc]

theorem digs_inj {a b : Nat} (h : digs a = digs b) : a = b := by have := congrArg val h; rwa [val_digs, val_digs] at this

theorem digs_len_le {n k : Nat} (h : n < 4294967296 ^ k) : (digs n).length ≤ k := by
  induction k generalizing n with
  | zero => simp at h; subst h; rw [digs_zero]; simp
  | succ k ih =>
    by_cases hn : n = 0
    · subst hn; rw [digs_zero]; simp
    · rw [digs_pos hn, List.length_cons]
      have : n / 4294967296 < 4294967296 ^ k := by rw [Nat.pow_succ] at h; omega
      have := ih this
      omega
theorem lt_of_digs_len {n k : Nat} (h : (digs n).length ≤ k) : n < 4294967296 ^ k := by
  have h1 := val_lt (lim_digs n)
  rw [val_digs] at h1
  exact Nat.lt_of_lt_of_le h1 (Nat.pow_le_pow_right (by decide) h)
theorem digs_len_mono {a b : Nat} (h : a ≤ b) : (digs a).length ≤ (digs b).length := digs_len_le (Nat.lt_of_le_of_lt h (lt_of_digs_len (Nat.le_refl _)))
theorem lt_of_len_lt {a b : Nat} (h : (digs a).length < (digs b).length) : a < b := by
  rcases Nat.lt_or_ge a b with h' | h'
  · exact h'
  · have := digs_len_mono h'; omega

/-- Which of two lists of one length is the less is told by the highest limb at which they part. -/
theorem val_lt_of {a b : List Nat} (ha : Lim a) {i : Nat} (hl : a.length = b.length) (hi : i < a.length) (hd : a.drop (i + 1) = b.drop (i + 1)) (hlt : a.getD i 0 < b.getD i 0) : val a < val b := by
  have e1 : a = a.take (i + 1) ++ a.drop (i + 1) := (List.take_append_drop _ _).symm
  have e2 : b = b.take (i + 1) ++ b.drop (i + 1) := (List.take_append_drop _ _).symm
  rw [e1, e2, val_app, val_app, hd, val_take_succ, val_take_succ]
  have h1 := val_lt (ha.take i)
  rw [List.length_take, Nat.min_eq_left (by omega)] at h1
  have h2 : (a.take (i + 1)).length = (b.take (i + 1)).length := by simp [hl]
  rw [h2]
  have h3 : 4294967296 ^ i * (a.getD i 0 + 1) ≤ 4294967296 ^ i * b.getD i 0 := Nat.mul_le_mul_left _ hlt
  rw [Nat.mul_add, Nat.mul_one] at h3
  omega

/-! Encodings -/
def encM (m : List Nat) : D := .sl (m.map fun (x : Nat) => [D.i .u32 (x : Int)])
/-- Limbs as cells. -/
def lms (m : List Nat) : List D := m.map fun (x : Nat) => D.i .u32 (x : Int)
theorem lms_len (m : List Nat) : (lms m).length = m.length := by simp [lms]
theorem lms_nil : lms [] = [] := rfl
theorem lms_app (a b : List Nat) : lms (a ++ b) = lms a ++ lms b := by simp [lms]
theorem lms_one (x : Nat) : lms [x] = [D.i .u32 (x : Int)] := rfl
theorem lms_get {m : List Nat} {i x : Nat} (h : m[i]? = some x) : (lms m)[i]? = some (.i .u32 (x : Int)) := by simp [lms, h]
theorem lms_set (m : List Nat) (i x : Nat) : (lms m).set i (.i .u32 (x : Int)) = lms (m.set i x) := by simp [lms, List.map_set]
theorem lms_flat (m : List Nat) : (m.map fun (x : Nat) => [D.i .u32 (x : Int)]).flatten = lms m := by unfold lms; induction m <;> simp_all
theorem lms_all (m : List Nat) : ((lms m).map AV.d).all one = true := by simp [lms, one]
theorem lms_all' (m : List Nat) : (∀ x, x ∈ lms m → one (AV.d x) = true) ↔ True := ⟨fun _ => trivial, fun _ x hx => by
  obtain ⟨y, _, rfl⟩ := List.mem_map.1 hx; rfl⟩
theorem lms_rep (n : Nat) : List.replicate n (D.i .u32 0) = lms (List.replicate n 0) := by simp [lms]
theorem rep_lms (n : Nat) : List.replicate n (AV.d (D.i .u32 0)) = (lms (List.replicate n 0)).map .d := by simp [lms]
theorem chunk_lms {m : List Nat} {n : Nat} (h : m.length = n) : chunk 1 n (lms m) = m.map fun (x : Nat) => [D.i .u32 (x : Int)] := by
  rw [chunk_one _ _ (by rw [lms_len]; exact h.symm)]; simp [lms]
theorem lms_take_all {m : List Nat} {n : Nat} (h : m.length = n) : List.take n ((lms m).map AV.d) = (lms m).map AV.d := List.take_of_length_le (by simp [lms_len, h])
def encI (neg : Bool) (m : List Nat) : D := .ag [.b neg, encM m]
def encZ (z : Int) : D := encI (decide (z < 0)) (digs z.natAbs)
def sg (neg : Bool) (n : Nat) : Int := if neg then -(n : Int) else n

theorem encI_sg (neg : Bool) (n : Nat) : encI (neg && decide (n ≠ 0)) (digs n) = encZ (sg neg n) := by
  unfold encZ sg
  cases neg
  · have h : decide ((n : Int) < 0) = false := by simp
    simp [h]
  · simp only [Bool.true_and, if_true, Int.natAbs_neg, Int.natAbs_natCast]
    congr 1
    rw [Bool.eq_iff_iff]; simp; omega
theorem sg_natAbs (z : Int) : sg (decide (z < 0)) z.natAbs = z := by
  unfold sg
  by_cases h : z < 0
  · rw [if_pos (by simpa using h)]; omega
  · rw [if_neg (by simpa using h)]; omega
theorem encM_inj {a b : List Nat} (h : encM a = encM b) : a = b := by
  unfold encM at h
  injection h with h
  induction a generalizing b with
  | nil => cases b with
    | nil => rfl
    | cons => simp at h
  | cons x a ih => cases b with
    | nil => simp at h
    | cons y b =>
      simp only [List.map_cons, List.cons.injEq, and_true] at h
      obtain ⟨h1, h2⟩ := h
      injection h1 with _ h1
      rw [show x = y by omega, ih h2]

/-! Wrapping -/
theorem wrap_i64 {n : Int} (h1 : -9223372036854775808 ≤ n) (h2 : n ≤ 9223372036854775807) : IntKind.i64.wrap n = n := by
  simp [IntKind.wrap, IntKind.signed, IntKind.bits]
  omega
theorem wrap_u64 {n : Int} (h1 : 0 ≤ n) (h2 : n < 18446744073709551616) : IntKind.u64.wrap n = n := by
  simp [IntKind.wrap, IntKind.signed, IntKind.bits]
  omega
theorem wrap_u64m (n : Int) : IntKind.u64.wrap n = n % 18446744073709551616 := by
  simp [IntKind.wrap, IntKind.signed, IntKind.bits]
theorem wrap_u32m (n : Int) : IntKind.u32.wrap n = n % 4294967296 := by
  simp [IntKind.wrap, IntKind.signed, IntKind.bits]
theorem wrap_u32 {n : Int} (h1 : 0 ≤ n) (h2 : n < 4294967296) : IntKind.u32.wrap n = n := by
  rw [wrap_u32m]; omega
theorem wrap_u8m (n : Int) : IntKind.u8.wrap n = n % 256 := by
  simp [IntKind.wrap, IntKind.signed, IntKind.bits]

end Go.Am
