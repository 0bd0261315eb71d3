/- Chains: the program's sums are the reference's: the plain law. No condition. -/
import Derived.Test.YtmnjglpieghdkaaCh5
open Go Go.Am Go.Proofs
namespace Go.Am
set_option linter.unusedSimpArgs false

/-- By increasing key, no coefficient zero. -/
def Val (l : List (Int × Int)) : Prop := l.Pairwise (fun x y => x.1 < y.1) ∧ ∀ x ∈ l, x.2 ≠ 0
theorem getM_cons (x : Int × Int) (l : List (Int × Int)) (n : Int) : getM (x :: l) n = if x.1 = n then x.2 else getM l n := by
  unfold getM
  by_cases h : x.1 = n
  · have e : fnd n (x :: l) = some 0 := by unfold fnd; rw [if_pos h]
    rw [e, if_pos h]; rfl
  · have e : fnd n (x :: l) = (fnd n l).map (· + 1) := by
      show (if x.1 = n then some 0 else (fnd n l).map (· + 1)) = _
      rw [if_neg h]
    rw [e, if_neg h]
    cases fnd n l with
    | none => rfl
    | some j => simp
theorem getM_nil (n : Int) : getM [] n = 0 := rfl
theorem getM_zero {l : List (Int × Int)} {n : Int} (h : ∀ y ∈ l, y.1 ≠ n) : getM l n = 0 := by
  induction l with
  | nil => rfl
  | cons x l ih =>
    rw [getM_cons, if_neg (h x (List.mem_cons_self ..))]
    exact ih fun y hy => h y (List.mem_cons_of_mem _ hy)
theorem Val.tail {x : Int × Int} {l : List (Int × Int)} (h : Val (x :: l)) : Val l ∧ (∀ y ∈ l, x.1 < y.1) ∧ x.2 ≠ 0 :=
  ⟨⟨(List.pairwise_cons.1 h.1).2, fun y hy => h.2 y (List.mem_cons_of_mem _ hy)⟩, (List.pairwise_cons.1 h.1).1, h.2 x (List.mem_cons_self ..)⟩
theorem Val.cons {x : Int × Int} {l : List (Int × Int)} (h : Val l) (h1 : ∀ y ∈ l, x.1 < y.1) (h2 : x.2 ≠ 0) : Val (x :: l) :=
  ⟨List.pairwise_cons.2 ⟨h1, h.1⟩, fun y hy => by
    rcases List.mem_cons.1 hy with rfl | hy
    · exact h2
    · exact h.2 y hy⟩
theorem Val.nil : Val [] := ⟨List.Pairwise.nil, fun _ h => by cases h⟩
theorem Val.ext : ∀ {a b : List (Int × Int)}, Val a → Val b → (∀ n, getM a n = getM b n) → a = b
  | [], [], _, _, _ => rfl
  | [], y :: b, _, hb, h => by
    have := h y.1
    rw [getM_nil, getM_cons, if_pos rfl] at this
    exact (hb.tail.2.2 this.symm).elim
  | x :: a, [], ha, _, h => by
    have := h x.1
    rw [getM_nil, getM_cons, if_pos rfl] at this
    exact (ha.tail.2.2 this).elim
  | x :: a, y :: b, ha, hb, h => by
    obtain ⟨a1, a2, a3⟩ := ha.tail
    obtain ⟨b1, b2, b3⟩ := hb.tail
    rcases Int.lt_trichotomy x.1 y.1 with hxy | hxy | hxy
    · exfalso
      have := h x.1
      rw [getM_cons, if_pos rfl, getM_cons, if_neg (by omega), getM_zero (fun z hz => by have := b2 z hz; omega)] at this
      exact a3 this
    · have h1 := h x.1
      rw [getM_cons, if_pos rfl, getM_cons, if_pos hxy.symm] at h1
      have e : x = y := Prod.ext hxy h1
      subst e
      rw [Val.ext a1 b1 fun n => by
        by_cases hn : x.1 = n
        · subst hn
          rw [getM_zero (fun z hz => by have := a2 z hz; omega), getM_zero (fun z hz => by have := b2 z hz; omega)]
        · have := h n
          rwa [getM_cons, if_neg hn, getM_cons, if_neg hn] at this]
    · exfalso
      have := h y.1
      rw [getM_cons, if_neg (by omega), getM_zero (fun z hz => by have := a2 z hz; omega), getM_cons, if_pos rfl] at this
      exact b3 this.symm

/-- Insertion, by recursion. -/
def insA (id z : Int) : List (Int × Int) → List (Int × Int)
  | [] => [(id, z)]
  | x :: l => if x.1 > id then (id, z) :: x :: l else if x.1 = id then (if x.2 + z = 0 then l else (id, x.2 + z) :: l) else x :: insA id z l
theorem foldl_done (id z : Int) : ∀ (l out : List (Int × Int)), l.foldl (insS id z) (out, true) = (out ++ l, true)
  | [], out => by simp
  | x :: l, out => by
    have e : insS id z (out, true) x = (out ++ [x], true) := rfl
    rw [List.foldl_cons, e, foldl_done id z l]; simp
def finI (f : Int × Int) (s : List (Int × Int) × Bool) : List (Int × Int) := if s.2 then s.1 else s.1 ++ [f]
theorem finI_true (f : Int × Int) (out : List (Int × Int)) : finI f (out, true) = out := rfl
theorem finI_false (f : Int × Int) (out : List (Int × Int)) : finI f (out, false) = out ++ [f] := rfl
theorem foldl_open (id z : Int) : ∀ (l out : List (Int × Int)), finI (id, z) (l.foldl (insS id z) (out, false)) = out ++ insA id z l
  | [], out => rfl
  | x :: l, out => by
    rw [List.foldl_cons, insA]
    by_cases h1 : x.1 > id
    · have e : insS id z (out, false) x = (out ++ [(id, z), x], true) := by simp [insS, h1]
      rw [e, foldl_done, if_pos h1, finI_true]; simp
    · rw [if_neg h1]
      by_cases h2 : x.1 = id
      · rw [if_pos h2]
        by_cases h3 : x.2 + z = 0
        · have e : insS id z (out, false) x = (out, true) := by simp [insS, h1, h2, h3]
          rw [e, foldl_done, if_pos h3, finI_true]
        · have e : insS id z (out, false) x = (out ++ [(id, x.2 + z)], true) := by simp [insS, h1, h2, h3]
          rw [e, foldl_done, if_neg h3, finI_true]; simp
      · rw [if_neg h2]
        have e : insS id z (out, false) x = (out ++ [x], false) := by simp [insS, h1, h2]
        rw [e, foldl_open id z l (out ++ [x])]; simp
theorem insR_eq (l : List (Int × Int)) (id z : Int) : insR l (id, z) = if z = 0 then l else insA id z l := by
  have e : insR l (id, z) = finI (id, z) (l.foldl (insS id z) ([], decide (z = 0))) := rfl
  rw [e]
  by_cases h : z = 0
  · rw [if_pos h]
    have : decide (z = 0) = true := by simpa using h
    rw [this, foldl_done, finI_true]; simp
  · rw [if_neg h]
    have : decide (z = 0) = false := by simpa using h
    rw [this, foldl_open]; simp
theorem insA_val {id z : Int} (hz : z ≠ 0) : ∀ {l : List (Int × Int)}, Val l → Val (insA id z l) ∧ (∀ y ∈ insA id z l, y.1 = id ∨ ∃ x ∈ l, x.1 = y.1) ∧ ∀ n, getM (insA id z l) n = getM l n + if n = id then z else 0
  | [], _ => by
    refine ⟨Val.nil.cons (fun y hy => by cases hy) hz, fun y hy => ?_, fun n => ?_⟩
    · simp [insA] at hy; subst hy; exact .inl rfl
    · simp only [insA, getM_cons, getM_nil]
      by_cases h : n = id
      · subst h; simp
      · rw [if_neg (fun e => h e.symm), if_neg h]; rfl
  | x :: l, h => by
    obtain ⟨h1, h2, h3⟩ := h.tail
    simp only [insA]
    by_cases hgt : x.1 > id
    · rw [if_pos hgt]
      refine ⟨h.cons (fun y hy => ?_) hz, fun y hy => ?_, fun n => ?_⟩
      · rcases List.mem_cons.1 hy with rfl | hy
        · exact hgt
        · have := h2 y hy; simp only; omega
      · rcases List.mem_cons.1 hy with rfl | hy
        · exact .inl rfl
        · exact .inr ⟨y, hy, rfl⟩
      · rw [getM_cons]
        by_cases hn : n = id
        · subst hn
          rw [if_pos rfl, if_pos rfl, getM_zero (l := x :: l) fun y hy => ?_, Int.zero_add]
          rcases List.mem_cons.1 hy with rfl | hy
          · omega
          · have := h2 y hy; omega
        · rw [if_neg (fun e => hn e.symm), if_neg hn, Int.add_zero]
    · rw [if_neg hgt]
      by_cases heq : x.1 = id
      · rw [if_pos heq]
        by_cases h0 : x.2 + z = 0
        · rw [if_pos h0]
          refine ⟨h1, fun y hy => .inr ⟨y, List.mem_cons_of_mem _ hy, rfl⟩, fun n => ?_⟩
          rw [getM_cons]
          by_cases hn : n = id
          · subst hn
            rw [if_pos heq, if_pos rfl, getM_zero (fun y hy => by have := h2 y hy; omega)]; omega
          · rw [if_neg (by omega), if_neg hn, Int.add_zero]
        · rw [if_neg h0]
          refine ⟨h1.cons (fun y hy => by have := h2 y hy; simp only; omega) h0, fun y hy => ?_, fun n => ?_⟩
          · rcases List.mem_cons.1 hy with rfl | hy
            · exact .inl rfl
            · exact .inr ⟨y, List.mem_cons_of_mem _ hy, rfl⟩
          · rw [getM_cons, getM_cons]
            by_cases hn : n = id
            · subst hn
              rw [if_pos rfl, if_pos heq, if_pos rfl]
            · rw [if_neg (fun e => hn e.symm), if_neg (by omega), if_neg hn, Int.add_zero]
      · rw [if_neg heq]
        obtain ⟨i1, i2, i3⟩ := insA_val (id := id) hz h1
        refine ⟨i1.cons (fun y hy => ?_) h3, fun y hy => ?_, fun n => ?_⟩
        · rcases i2 y hy with h | ⟨w, hw, h⟩
          · omega
          · have := h2 w hw; omega
        · rcases List.mem_cons.1 hy with rfl | hy
          · exact .inr ⟨_, List.mem_cons_self .., rfl⟩
          · rcases i2 y hy with h | ⟨w, hw, h⟩
            · exact .inl h
            · exact .inr ⟨w, List.mem_cons_of_mem _ hw, h⟩
        · rw [getM_cons, getM_cons, i3 n]
          by_cases hx : x.1 = n
          · rw [if_pos hx, if_pos hx, if_neg (by omega)]; omega
          · rw [if_neg hx, if_neg hx]
theorem insR_val {l : List (Int × Int)} (h : Val l) (f : Int × Int) : Val (insR l f) ∧ ∀ n, getM (insR l f) n = getM l n + if n = f.1 then f.2 else 0 := by
  obtain ⟨id, z⟩ := f
  rw [insR_eq]
  by_cases hz : z = 0
  · rw [if_pos hz]
    exact ⟨h, fun n => by simp only [hz]; simp⟩
  · rw [if_neg hz]
    obtain ⟨h1, _, h3⟩ := insA_val (id := id) hz h
    exact ⟨h1, h3⟩
/-- The coefficient of a key in a list. -/
def cf (n : Int) : List (Int × Int) → Int
  | [] => 0
  | x :: l => (if n = x.1 then x.2 else 0) + cf n l
theorem addR_val : ∀ (b a : List (Int × Int)), Val a → Val (addR a b) ∧ ∀ n, getM (addR a b) n = getM a n + cf n b
  | [], a, h => ⟨h, fun n => by simp [addR, cf]⟩
  | x :: b, a, h => by
    obtain ⟨h1, h2⟩ := insR_val h x
    obtain ⟨h3, h4⟩ := addR_val b (insR a x) h1
    refine ⟨h3, fun n => ?_⟩
    show getM (addR (insR a x) b) n = _
    rw [h4 n, h2 n]
    simp only [cf]; omega

/-! The map -/
theorem putM_cons (x : Int × Int) (m : List (Int × Int)) (n v : Int) : putM (x :: m) n v = if x.1 = n then (n, v) :: m else x :: putM m n v := by
  unfold putM
  by_cases h : x.1 = n
  · have e : fnd n (x :: m) = some 0 := by unfold fnd; rw [if_pos h]
    rw [e, if_pos h]; rfl
  · have e : fnd n (x :: m) = (fnd n m).map (· + 1) := by
      show (if x.1 = n then some 0 else (fnd n m).map (· + 1)) = _
      rw [if_neg h]
    rw [e, if_neg h]
    cases fnd n m with
    | none => rfl
    | some j => simp
theorem delM_cons (x : Int × Int) (m : List (Int × Int)) (n : Int) : delM (x :: m) n = if x.1 = n then m else x :: delM m n := by
  unfold delM
  by_cases h : x.1 = n
  · have e : fnd n (x :: m) = some 0 := by unfold fnd; rw [if_pos h]
    rw [e, if_pos h]; rfl
  · have e : fnd n (x :: m) = (fnd n m).map (· + 1) := by
      show (if x.1 = n then some 0 else (fnd n m).map (· + 1)) = _
      rw [if_neg h]
    rw [e, if_neg h]
    cases fnd n m with
    | none => rfl
    | some j => simp
/-- Each key once, no value zero. -/
def Mp (m : List (Int × Int)) : Prop := m.Pairwise (fun x y => x.1 ≠ y.1) ∧ ∀ x ∈ m, x.2 ≠ 0
theorem Mp.tail {x : Int × Int} {l : List (Int × Int)} (h : Mp (x :: l)) : Mp l ∧ (∀ y ∈ l, x.1 ≠ y.1) ∧ x.2 ≠ 0 :=
  ⟨⟨(List.pairwise_cons.1 h.1).2, fun y hy => h.2 y (List.mem_cons_of_mem _ hy)⟩, (List.pairwise_cons.1 h.1).1, h.2 x (List.mem_cons_self ..)⟩
theorem Mp.cons {x : Int × Int} {l : List (Int × Int)} (h : Mp l) (h1 : ∀ y ∈ l, x.1 ≠ y.1) (h2 : x.2 ≠ 0) : Mp (x :: l) :=
  ⟨List.pairwise_cons.2 ⟨h1, h.1⟩, fun y hy => by
    rcases List.mem_cons.1 hy with rfl | hy
    · exact h2
    · exact h.2 y hy⟩
theorem Mp.nil : Mp [] := ⟨List.Pairwise.nil, fun _ h => by cases h⟩
theorem putM_mp {n v : Int} (hv : v ≠ 0) : ∀ {m : List (Int × Int)}, Mp m → Mp (putM m n v) ∧ (∀ y ∈ putM m n v, y.1 = n ∨ ∃ x ∈ m, x.1 = y.1) ∧ ∀ k, getM (putM m n v) k = if k = n then v else getM m k
  | [], _ => by
    have e : putM [] n v = [(n, v)] := rfl
    rw [e]
    refine ⟨Mp.nil.cons (fun y hy => by cases hy) hv, fun y hy => ?_, fun k => ?_⟩
    · simp at hy; subst hy; exact .inl rfl
    · rw [getM_cons]
      by_cases h : k = n
      · subst h; simp
      · rw [if_neg (fun e => h e.symm), if_neg h]
  | x :: m, h => by
    obtain ⟨h1, h2, h3⟩ := h.tail
    rw [putM_cons]
    by_cases hx : x.1 = n
    · rw [if_pos hx]
      refine ⟨h1.cons (fun y hy => by have := h2 y hy; simp only; omega) hv, fun y hy => ?_, fun k => ?_⟩
      · rcases List.mem_cons.1 hy with rfl | hy
        · exact .inl rfl
        · exact .inr ⟨y, List.mem_cons_of_mem _ hy, rfl⟩
      · rw [getM_cons, getM_cons]
        by_cases h : k = n
        · subst h; simp
        · rw [if_neg (fun e => h e.symm), if_neg h, if_neg (by omega)]
    · rw [if_neg hx]
      obtain ⟨i1, i2, i3⟩ := putM_mp (n := n) hv h1
      refine ⟨i1.cons (fun y hy => ?_) h3, fun y hy => ?_, fun k => ?_⟩
      · rcases i2 y hy with h | ⟨w, hw, h⟩
        · omega
        · have := h2 w hw; omega
      · rcases List.mem_cons.1 hy with rfl | hy
        · exact .inr ⟨_, List.mem_cons_self .., rfl⟩
        · rcases i2 y hy with h | ⟨w, hw, h⟩
          · exact .inl h
          · exact .inr ⟨w, List.mem_cons_of_mem _ hw, h⟩
      · rw [getM_cons, getM_cons, i3 k]
        by_cases hk : x.1 = k
        · rw [if_pos hk, if_pos hk, if_neg (by omega)]
        · rw [if_neg hk, if_neg hk]
theorem delM_mp {n : Int} : ∀ {m : List (Int × Int)}, Mp m → Mp (delM m n) ∧ (∀ y ∈ delM m n, y ∈ m) ∧ ∀ k, getM (delM m n) k = if k = n then 0 else getM m k
  | [], h => ⟨h, fun y hy => hy, fun k => by
      have e : delM [] n = [] := rfl
      rw [e, getM_nil]; simp⟩
  | x :: m, h => by
    obtain ⟨h1, h2, h3⟩ := h.tail
    rw [delM_cons]
    by_cases hx : x.1 = n
    · rw [if_pos hx]
      refine ⟨h1, fun y hy => List.mem_cons_of_mem _ hy, fun k => ?_⟩
      rw [getM_cons]
      by_cases hk : k = n
      · subst hk
        rw [if_pos rfl, getM_zero (fun y hy => by have := h2 y hy; omega)]
      · rw [if_neg hk, if_neg (by omega)]
    · rw [if_neg hx]
      obtain ⟨i1, i2, i3⟩ := delM_mp (n := n) h1
      refine ⟨i1.cons (fun y hy => h2 y (i2 y hy)) h3, fun y hy => ?_, fun k => ?_⟩
      · rcases List.mem_cons.1 hy with rfl | hy
        · exact List.mem_cons_self ..
        · exact List.mem_cons_of_mem _ (i2 y hy)
      · rw [getM_cons, getM_cons, i3 k]
        by_cases hk : x.1 = k
        · rw [if_pos hk, if_pos hk, if_neg (by omega)]
        · rw [if_neg hk, if_neg hk]
theorem addM_mp {m : List (Int × Int)} (h : Mp m) (n k : Int) : Mp (addM m n k) ∧ ∀ j, getM (addM m n k) j = getM m j + if j = n then k else 0 := by
  unfold addM
  by_cases h0 : getM m n + k = 0
  · rw [if_pos h0]
    obtain ⟨h1, _, h3⟩ := delM_mp (n := n) h
    refine ⟨h1, fun j => ?_⟩
    rw [h3 j]
    by_cases hj : j = n
    · subst hj; rw [if_pos rfl, if_pos rfl]; omega
    · rw [if_neg hj, if_neg hj]; omega
  · rw [if_neg h0]
    obtain ⟨h1, _, h3⟩ := putM_mp (n := n) h0 h
    refine ⟨h1, fun j => ?_⟩
    rw [h3 j]
    by_cases hj : j = n
    · subst hj; rw [if_pos rfl, if_pos rfl]
    · rw [if_neg hj, if_neg hj]; omega
theorem sumM_mp : ∀ (l m : List (Int × Int)), Mp m → Mp (sumM m l) ∧ ∀ j, getM (sumM m l) j = getM m j + cf j l
  | [], m, h => ⟨h, fun n => by simp [sumM, cf]⟩
  | x :: l, m, h => by
    obtain ⟨h1, h2⟩ := addM_mp h x.1 x.2
    obtain ⟨h3, h4⟩ := sumM_mp l (addM m x.1 x.2) h1
    refine ⟨h3, fun n => ?_⟩
    show getM (sumM (addM m x.1 x.2) l) n = _
    rw [h4 n, h2 n]
    simp only [cf]; omega
theorem getM_map (g : Int → Int) : ∀ (l : List Int) (n : Int), getM (l.map fun n => (n, g n)) n = if n ∈ l then g n else 0
  | [], n => rfl
  | x :: l, n => by
    rw [List.map_cons, getM_cons, getM_map g l n]
    by_cases h : x = n
    · subst h; simp
    · have h' : ¬ n = x := fun e => h e.symm
      simp [h, h']
theorem fnd_none {n : Int} {m : List (Int × Int)} (h : n ∉ m.map (·.1)) : getM m n = 0 := getM_zero fun y hy e => h (e ▸ List.mem_map_of_mem hy)
theorem getM_mem {m : List (Int × Int)} (h : Mp m) {n : Int} (hn : n ∈ m.map (·.1)) : getM m n ≠ 0 := by
  unfold getM
  have hs := fnd_isSome hn
  cases hf : fnd n m with
  | none => rw [hf] at hs; cases hs
  | some j =>
    obtain ⟨z, hz⟩ := fnd_some hf
    simp only [List.getD_eq_getElem?_getD, hz, Option.getD_some]
    exact h.2 _ (List.mem_of_getElem? hz)
theorem chainM_val {m : List (Int × Int)} (h : Mp m) : Val (chainM m) ∧ ∀ n, getM (chainM m) n = getM m n := by
  refine ⟨⟨?_, fun x hx => ?_⟩, fun n => ?_⟩
  · unfold chainM
    rw [List.pairwise_map]
    have h1 := Go.Proofs.isort_sorted (m.map (·.1))
    have h0 : (m.map (·.1)).Pairwise (fun a b : Int => a ≠ b) := by rw [List.pairwise_map]; exact h.1
    have h2 : (isort (m.map (·.1))).Pairwise (fun a b : Int => a ≠ b) := (Go.Proofs.isort_perm (m.map (·.1))).symm.pairwise h0 (fun {x y} (hxy : x ≠ y) => Ne.symm hxy)
    exact (h1.and h2).imp fun ⟨a, b⟩ => by simp only; omega
  · obtain ⟨n, hn, rfl⟩ := List.mem_map.1 hx
    exact getM_mem h ((isort_mem n _).1 hn)
  · unfold chainM
    rw [getM_map]
    by_cases hn : n ∈ m.map (·.1)
    · rw [if_pos ((isort_mem n _).2 hn)]
    · rw [if_neg (fun h => hn ((isort_mem n _).1 h)), fnd_none hn]
theorem cf_getM : ∀ {l : List (Int × Int)}, Val l → ∀ n, cf n l = getM l n
  | [], _, _ => rfl
  | x :: l, h, n => by
    obtain ⟨h1, h2, _⟩ := h.tail
    rw [cf, cf_getM h1, getM_cons]
    by_cases hx : x.1 = n
    · subst hx
      rw [if_pos rfl, if_pos rfl, getM_zero (fun y hy => by have := h2 y hy; omega)]; omega
    · rw [if_neg (fun e => hx e.symm), if_neg hx]; omega

/-- What the program makes is what the reference makes. -/
theorem make_eq (l : List (Int × Int)) : chainM (sumM [] l) = addR [] l := by
  obtain ⟨h1, h2⟩ := sumM_mp l [] Mp.nil
  obtain ⟨h3, h4⟩ := chainM_val h1
  obtain ⟨h5, h6⟩ := addR_val l [] Val.nil
  exact h3.ext h5 fun n => by rw [h4 n, h2 n, h6 n]
theorem add_eq {a : List (Int × Int)} (ha : Val a) (c : List (Int × Int)) : chainM (sumM (sumM [] a) c) = addR a c := by
  obtain ⟨h1, h2⟩ := sumM_mp a [] Mp.nil
  obtain ⟨h1', h2'⟩ := sumM_mp c _ h1
  obtain ⟨h3, h4⟩ := chainM_val h1'
  obtain ⟨h5, h6⟩ := addR_val c a ha
  exact h3.ext h5 fun n => by rw [h4 n, h2' n, h2 n, h6 n, cf_getM ha, getM_nil]; omega
theorem val_validR {l : List (Int × Int)} (h : Val l) : validR l = true := by
  refine validR_true fun j hj => ?_
  unfold okAt
  have g := getDp hj
  have h1 : (l.getD j (0, 0)).2 ≠ 0 := h.2 _ (List.mem_of_getElem? g)
  rw [Bool.and_eq_true, Bool.or_eq_true]
  refine ⟨by simpa using h1, ?_⟩
  rcases j with _ | k
  · exact .inl rfl
  · refine .inr ?_
    have hk : k < l.length := by omega
    have := List.pairwise_iff_getElem.1 h.1 k (k + 1) hk hj (by omega)
    rw [Nat.add_sub_cancel, List.getD_eq_getElem?_getD, List.getD_eq_getElem?_getD, List.getElem?_eq_getElem hj, List.getElem?_eq_getElem hk]
    simpa using this

end Go.Am
