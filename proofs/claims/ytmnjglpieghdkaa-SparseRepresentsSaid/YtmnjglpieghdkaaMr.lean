/- The reference's merge of rows. No condition. -/
import Derived.Test.YtmnjglpieghdkaaSq
namespace Go.Am

/-- What is in column n. -/
def cz (n : Int) : List (Int × Int) → Int
  | [] => 0
  | x :: l => (if x.1 = n then x.2 else 0) + cz n l
def Srt (l : List (Int × Int)) : Prop := l.Pairwise (fun x y => x.1 < y.1) ∧ ∀ x ∈ l, x.2 ≠ 0
theorem Srt.nil : Srt [] := ⟨List.Pairwise.nil, fun _ h => by cases h⟩
theorem Srt.tail {x : Int × Int} {l : List (Int × Int)} (h : Srt (x :: l)) : Srt l ∧ (∀ y ∈ l, x.1 < y.1) ∧ x.2 ≠ 0 :=
  ⟨⟨(List.pairwise_cons.1 h.1).2, fun y hy => h.2 y (List.mem_cons_of_mem _ hy)⟩, (List.pairwise_cons.1 h.1).1, h.2 x (List.mem_cons_self ..)⟩
theorem cz_gt {n : Int} : ∀ {l : List (Int × Int)}, (∀ y ∈ l, n < y.1) → cz n l = 0
  | [], _ => rfl
  | x :: l, h => by
    have h1 := h x (List.mem_cons_self ..)
    have := cz_gt fun y hy => h y (List.mem_cons_of_mem _ hy)
    unfold cz
    rw [if_neg (by omega), this]; rfl
theorem Srt.ext : ∀ {a b : List (Int × Int)}, Srt a → Srt b → (∀ n, cz n a = cz n b) → a = b
  | [], [], _, _, _ => rfl
  | [], y :: b, _, hb, h => by
    obtain ⟨_, h2, h3⟩ := hb.tail
    have := h y.1
    unfold cz at this
    rw [if_pos rfl, cz_gt h2] at this
    omega
  | x :: a, [], ha, _, h => by
    obtain ⟨_, h2, h3⟩ := ha.tail
    have := h x.1
    unfold cz at this
    rw [if_pos rfl, cz_gt h2] at this
    omega
  | x :: a, y :: b, ha, hb, h => by
    obtain ⟨a1, a2, a3⟩ := ha.tail
    obtain ⟨b1, b2, b3⟩ := hb.tail
    have hxy : x.1 = y.1 := by
      rcases Int.lt_trichotomy x.1 y.1 with h1 | h1 | h1
      · have := h x.1
        unfold cz at this
        rw [if_pos rfl, cz_gt a2, if_neg (by omega), cz_gt fun z hz => by have := b2 z hz; omega] at this
        omega
      · exact h1
      · have := h y.1
        unfold cz at this
        rw [if_pos rfl, cz_gt b2, if_neg (by omega), cz_gt fun z hz => by have := a2 z hz; omega] at this
        omega
    have hz : x.2 = y.2 := by
      have := h x.1
      unfold cz at this
      rw [if_pos rfl, cz_gt a2, if_pos hxy.symm, cz_gt fun z hz => by have := b2 z hz; omega] at this
      omega
    have ht : a = b := Srt.ext a1 b1 fun n => by
      have := h n
      unfold cz at this
      rw [hxy, hz] at this
      omega
    obtain ⟨x1, x2⟩ := x
    obtain ⟨y1, y2⟩ := y
    simp only at hxy hz
    rw [hxy, hz, ht]

/-- The pairs' columns. -/
theorem bZ_mem : ∀ (m : Nat) (a b : List (Int × Int)) (p : Int × Int × Int), p ∈ bZ m a b → (∃ x ∈ a, x.1 = p.1) ∨ ∃ y ∈ b, y.1 = p.1
  | 0, _, _, p, h => by cases h
  | m + 1, [], [], p, h => by cases h
  | m + 1, x :: a, [], p, h => by
    rcases List.mem_cons.1 h with rfl | h
    · exact .inl ⟨x, List.mem_cons_self .., rfl⟩
    · rcases bZ_mem m a [] p h with ⟨z, hz, e⟩ | ⟨z, hz, e⟩
      · exact .inl ⟨z, List.mem_cons_of_mem _ hz, e⟩
      · cases hz
  | m + 1, [], y :: b, p, h => by
    rcases List.mem_cons.1 h with rfl | h
    · exact .inr ⟨y, List.mem_cons_self .., rfl⟩
    · rcases bZ_mem m [] b p h with ⟨z, hz, e⟩ | ⟨z, hz, e⟩
      · cases hz
      · exact .inr ⟨z, List.mem_cons_of_mem _ hz, e⟩
  | m + 1, x :: a, y :: b, p, h => by
    unfold bZ at h
    split at h
    · rcases List.mem_cons.1 h with rfl | h
      · exact .inr ⟨y, List.mem_cons_self .., rfl⟩
      · rcases bZ_mem m (x :: a) b p h with h | ⟨z, hz, e⟩
        · exact .inl h
        · exact .inr ⟨z, List.mem_cons_of_mem _ hz, e⟩
    · split at h
      · rcases List.mem_cons.1 h with rfl | h
        · exact .inl ⟨x, List.mem_cons_self .., rfl⟩
        · rcases bZ_mem m a (y :: b) p h with ⟨z, hz, e⟩ | h
          · exact .inl ⟨z, List.mem_cons_of_mem _ hz, e⟩
          · exact .inr h
      · rcases List.mem_cons.1 h with rfl | h
        · exact .inl ⟨x, List.mem_cons_self .., rfl⟩
        · rcases bZ_mem m a b p h with ⟨z, hz, e⟩ | ⟨z, hz, e⟩
          · exact .inl ⟨z, List.mem_cons_of_mem _ hz, e⟩
          · exact .inr ⟨z, List.mem_cons_of_mem _ hz, e⟩

theorem bZ_len : ∀ (m : Nat) (a b : List (Int × Int)), (bZ m a b).length ≤ m
  | 0, _, _ => Nat.le_refl _
  | m + 1, [], [] => Nat.zero_le _
  | m + 1, x :: a, [] => Nat.succ_le_succ (bZ_len m a [])
  | m + 1, [], y :: b => Nat.succ_le_succ (bZ_len m [] b)
  | m + 1, x :: a, y :: b => by
    unfold bZ
    split
    · exact Nat.succ_le_succ (bZ_len m _ _)
    · split <;> exact Nat.succ_le_succ (bZ_len m _ _)

theorem bZ_srt : ∀ (m : Nat) (a b : List (Int × Int)), Srt a → Srt b → (bZ m a b).Pairwise (fun p q => p.1 < q.1)
  | 0, _, _, _, _ => List.Pairwise.nil
  | m + 1, [], [], _, _ => List.Pairwise.nil
  | m + 1, x :: a, [], ha, hb => by
    obtain ⟨a1, a2, _⟩ := ha.tail
    refine List.pairwise_cons.2 ⟨fun p hp => ?_, bZ_srt m a [] a1 hb⟩
    rcases bZ_mem m a [] p hp with ⟨z, hz, e⟩ | ⟨z, hz, _⟩
    · have := a2 z hz; simp only; omega
    · cases hz
  | m + 1, [], y :: b, ha, hb => by
    obtain ⟨b1, b2, _⟩ := hb.tail
    refine List.pairwise_cons.2 ⟨fun p hp => ?_, bZ_srt m [] b ha b1⟩
    rcases bZ_mem m [] b p hp with ⟨z, hz, _⟩ | ⟨z, hz, e⟩
    · cases hz
    · have := b2 z hz; simp only; omega
  | m + 1, x :: a, y :: b, ha, hb => by
    obtain ⟨a1, a2, _⟩ := ha.tail
    obtain ⟨b1, b2, _⟩ := hb.tail
    unfold bZ
    split
    · rename_i h1
      refine List.pairwise_cons.2 ⟨fun p hp => ?_, bZ_srt m (x :: a) b ha b1⟩
      rcases bZ_mem m (x :: a) b p hp with ⟨z, hz, e⟩ | ⟨z, hz, e⟩
      · rcases List.mem_cons.1 hz with rfl | hz
        · simp only; omega
        · have := a2 z hz; simp only; omega
      · have := b2 z hz; simp only; omega
    · split
      · rename_i h1 h2
        refine List.pairwise_cons.2 ⟨fun p hp => ?_, bZ_srt m a (y :: b) a1 hb⟩
        rcases bZ_mem m a (y :: b) p hp with ⟨z, hz, e⟩ | ⟨z, hz, e⟩
        · have := a2 z hz; simp only; omega
        · rcases List.mem_cons.1 hz with rfl | hz
          · simp only; omega
          · have := b2 z hz; simp only; omega
      · rename_i h1 h2
        refine List.pairwise_cons.2 ⟨fun p hp => ?_, bZ_srt m a b a1 b1⟩
        rcases bZ_mem m a b p hp with ⟨z, hz, e⟩ | ⟨z, hz, e⟩
        · have := a2 z hz; simp only; omega
        · have := b2 z hz; simp only; omega

theorem mg_mem {k : Int} {l : List (Int × Int × Int)} {q : Int × Int} (h : q ∈ mg k l) : ∃ p ∈ l, q = (p.1, p.2.1 + k * p.2.2) ∧ p.2.1 + k * p.2.2 ≠ 0 := by
  obtain ⟨p, hp, e⟩ := List.mem_filterMap.1 h
  unfold mgP at e
  split at e
  · cases e
  · rename_i h0
    injection e with e
    exact ⟨p, hp, e.symm, h0⟩
theorem mg_cons (k : Int) (p : Int × Int × Int) (l : List (Int × Int × Int)) : mg k (p :: l) = (if p.2.1 + k * p.2.2 = 0 then [] else [(p.1, p.2.1 + k * p.2.2)]) ++ mg k l := by
  show List.filterMap (mgP k) (p :: l) = _
  rw [List.filterMap_cons]
  unfold mgP
  by_cases h : p.2.1 + k * p.2.2 = 0
  · rw [if_pos h, if_pos h]; rfl
  · rw [if_neg h, if_neg h]; rfl
theorem mg_srt (k : Int) {l : List (Int × Int × Int)} (h : l.Pairwise (fun p q => p.1 < q.1)) : Srt (mg k l) := by
  refine ⟨?_, fun q hq => ?_⟩
  · induction l with
    | nil => exact List.Pairwise.nil
    | cons p l ih =>
      obtain ⟨h1, h2⟩ := List.pairwise_cons.1 h
      rw [mg_cons]
      split
      · exact ih h2
      · refine List.pairwise_cons.2 ⟨fun q hq => ?_, ih h2⟩
        obtain ⟨p', hp', rfl, _⟩ := mg_mem hq
        exact h1 p' hp'
  · obtain ⟨p, _, rfl, h0⟩ := mg_mem hq
    exact h0
theorem cz_mg (k n : Int) (p : Int × Int × Int) (l : List (Int × Int × Int)) : cz n (mg k (p :: l)) = (if p.1 = n then p.2.1 + k * p.2.2 else 0) + cz n (mg k l) := by
  rw [mg_cons]
  by_cases h : p.2.1 + k * p.2.2 = 0
  · rw [if_pos h, h]; simp
  · rw [if_neg h]; rfl
theorem mul_ite (k : Int) (c : Prop) [Decidable c] (y : Int) : k * (if c then y else 0) = if c then k * y else 0 := by split <;> simp
theorem cz_bZ (k n : Int) : ∀ (m : Nat) (a b : List (Int × Int)), a.length + b.length ≤ m → cz n (mg k (bZ m a b)) = cz n a + k * cz n b
  | 0, a, b, h => by
    have ha : a = [] := List.eq_nil_of_length_eq_zero (by omega)
    have hb : b = [] := List.eq_nil_of_length_eq_zero (by omega)
    subst ha; subst hb; simp [bZ, mg, cz]
  | m + 1, [], [], _ => by simp [bZ, mg, cz]
  | m + 1, x :: a, [], h => by
    have ih := cz_bZ k n m a [] (by simp at h ⊢; omega)
    show cz n (mg k ((x.1, x.2, 0) :: bZ m a [])) = _
    rw [cz_mg, ih]
    simp only [cz, Int.mul_zero, Int.add_zero]
  | m + 1, [], y :: b, h => by
    have ih := cz_bZ k n m [] b (by simp at h ⊢; omega)
    show cz n (mg k ((y.1, 0, y.2) :: bZ m [] b)) = _
    rw [cz_mg, ih]
    simp only [cz, Int.zero_add, Int.mul_add, mul_ite]
  | m + 1, x :: a, y :: b, h => by
    simp only [List.length_cons] at h
    unfold bZ
    split
    · rw [cz_mg, cz_bZ k n m (x :: a) b (by simp only [List.length_cons]; omega)]
      simp only [cz, Int.zero_add, Int.mul_add, mul_ite]; omega
    · split
      · rw [cz_mg, cz_bZ k n m a (y :: b) (by simp only [List.length_cons]; omega)]
        simp only [cz, Int.mul_zero, Int.add_zero, Int.mul_add, mul_ite]; omega
      · rename_i h1 h2
        have e : x.1 = y.1 := by omega
        rw [cz_mg, cz_bZ k n m a b (by omega)]
        simp only [cz, Int.mul_add, mul_ite, e]
        split <;> omega

/-- a + k b. -/
def lz (a b : List (Int × Int)) (k : Int) : List (Int × Int) := mg k (bZL a b)
theorem lz_srt {a b : List (Int × Int)} (ha : Srt a) (hb : Srt b) (k : Int) : Srt (lz a b k) := mg_srt k (bZ_srt _ _ _ ha hb)
theorem cz_lz (a b : List (Int × Int)) (k n : Int) : cz n (lz a b k) = cz n a + k * cz n b := cz_bZ k n _ a b (Nat.le_refl _)
theorem lz_len (a b : List (Int × Int)) (k : Int) : (lz a b k).length ≤ a.length + b.length := Nat.le_trans (List.length_filterMap_le _ _) (bZ_len _ _ _)
theorem lz_eq {a b c : List (Int × Int)} {k : Int} (ha : Srt a) (hb : Srt b) (hc : Srt c) (h : ∀ n, cz n a + k * cz n b = cz n c) : lz a b k = c :=
  Srt.ext (lz_srt ha hb k) hc fun n => by rw [cz_lz, h]
theorem lz_cols {a b : List (Int × Int)} {k : Int} {q : Int × Int} (h : q ∈ lz a b k) : (∃ x ∈ a, x.1 = q.1) ∨ ∃ y ∈ b, y.1 = q.1 := by
  obtain ⟨p, hp, rfl, _⟩ := mg_mem h
  exact bZ_mem _ _ _ p hp

/-- The sizes of what is merged. -/
theorem bZ_bnd {A B : Nat} : ∀ (m : Nat) (a b : List (Int × Int)), (∀ x ∈ a, x.2.natAbs ≤ A) → (∀ y ∈ b, y.2.natAbs ≤ B) → ∀ p ∈ bZ m a b, p.2.1.natAbs ≤ A ∧ p.2.2.natAbs ≤ B
  | 0, _, _, _, _, p, h => by cases h
  | m + 1, [], [], _, _, p, h => by cases h
  | m + 1, x :: a, [], ha, hb, p, h => by
    rcases List.mem_cons.1 h with rfl | h
    · exact ⟨ha x (List.mem_cons_self ..), Nat.zero_le _⟩
    · exact bZ_bnd m a [] (fun z hz => ha z (List.mem_cons_of_mem _ hz)) hb p h
  | m + 1, [], y :: b, ha, hb, p, h => by
    rcases List.mem_cons.1 h with rfl | h
    · exact ⟨Nat.zero_le _, hb y (List.mem_cons_self ..)⟩
    · exact bZ_bnd m [] b ha (fun z hz => hb z (List.mem_cons_of_mem _ hz)) p h
  | m + 1, x :: a, y :: b, ha, hb, p, h => by
    have ha' := fun z hz => ha z (List.mem_cons_of_mem _ hz)
    have hb' := fun z hz => hb z (List.mem_cons_of_mem _ hz)
    unfold bZ at h
    split at h
    · rcases List.mem_cons.1 h with rfl | h
      · exact ⟨Nat.zero_le _, hb y (List.mem_cons_self ..)⟩
      · exact bZ_bnd m (x :: a) b ha hb' p h
    · split at h
      · rcases List.mem_cons.1 h with rfl | h
        · exact ⟨ha x (List.mem_cons_self ..), Nat.zero_le _⟩
        · exact bZ_bnd m a (y :: b) ha' hb p h
      · rcases List.mem_cons.1 h with rfl | h
        · exact ⟨ha x (List.mem_cons_self ..), hb y (List.mem_cons_self ..)⟩
        · exact bZ_bnd m a b ha' hb' p h

end Go.Am

open Go Go.Am Go.Proofs
namespace Go.Am
set_option linter.unusedSimpArgs false

theorem sz_small {z : Int} (h : z.natAbs ≤ 100000000000000000000) : Sz z := by
  have := digs_len_le (n := z.natAbs) (k := 3) (Nat.lt_of_le_of_lt h (by decide))
  unfold Sz; omega
def Sml (l : List (Int × Int)) : Prop := ∀ x ∈ l, x.2.natAbs ≤ 1000000000
theorem Sml.nil : Sml [] := fun _ h => by cases h
theorem prod_small {k y : Int} (hk : k.natAbs ≤ 1000000000) (hy : y.natAbs ≤ 1000000000) : (k * y).natAbs ≤ 1000000000000000000 := by
  rw [Int.natAbs_mul]
  have := Nat.mul_le_mul hk hy
  omega
theorem sum_small {x z : Int} (hx : x.natAbs ≤ 1000000000) (hz : z.natAbs ≤ 1000000000000000000) : (x + z).natAbs ≤ 2000000000000000000 := by omega
theorem mergeS {a b : List (Int × Int)} {k : Int} (ha : Sml a) (hb : Sml b) (hk : k.natAbs ≤ 1000000000) (hla : a.length ≤ 1000000) (hlb : b.length ≤ 1000000) : Spec Try.prog 27 [encC a, encC b, encZ k] (encC (lz a b k)) := by
  refine mergeSpec a b k (sz_small (by omega)) (by omega) (by omega) (Nat.le_trans (bZ_len _ _ _) (by omega)) fun p hp => ?_
  obtain ⟨h1, h2⟩ := bZ_bnd (A := 1000000000) (B := 1000000000) _ a b ha hb p hp
  have h3 := prod_small hk h2
  have h4 := sum_small h1 h3
  exact ⟨sz_small (by omega), sz_small (by omega), sz_small (by omega), sz_small (by omega)⟩

theorem drop_some {α : Type} {l : List α} {i : Nat} {x : α} (h : l[i]? = some x) : l.drop i = x :: l.drop (i + 1) := by
  have hlt := (List.getElem?_eq_some_iff.1 h).1
  rw [List.drop_eq_getElem_cons hlt]
  rw [List.getElem?_eq_getElem hlt] at h
  injection h with h; rw [h]

def rS (a b : List (Int × Int)) (k : Int) (x : Nat × Nat × Nat × List (Int × Int)) : St :=
  StL [(0, .d (encC a)), (1, .d (encC b)), (5, .ptr 1 0), (7, .own 2 0 x.2.2.2.length 3), (8, .d (.i .i64 (x.2.1 : Int))), (9, .d (.i .i64 (x.2.2.1 : Int)))] none
    [.cells 32 [.d (.b (decide (k < 0))), .d (encM (digs k.natAbs))], .cells 109 ((fcs x.2.2.2).map .d)]

set_option maxHeartbeats 40000000 in
set_option maxRecDepth 10000 in
theorem r06Merge {a b : List (Int × Int)} {k : Int} (ha : Sml a) (hb : Sml b) (hk : k.natAbs ≤ 1000000000) (hla : a.length ≤ 1000000) (hlb : b.length ≤ 1000000) : Spec Try.prog 30 [encC a, encC b, encZ k] (encC (lz a b k)) := by
  refine spec_of (N := 118) follows_mixed Try.func30 rfl rfl rfl (by kernel_rfl) (by kernel_rfl) (by simp) ?_
  simp (config := { maxSteps := 1000000 }) [-List.map_map, -List.mapM_map, ↓awp_skip, ↓awp_regionB, ↓awp_seq, ↓awp_block, ↓awp_exit, ↓awp_ret, ↓awp_label, ↓awp_scope, ↓awp_condB, ↓awp_loopB, ↓ow_nil', ↓ow_cons0, ↓ow_cons1, ↓o1_move, ↓o1_assign, ↓o1_pick, ↓o1_alloc, ↓o1_box, ↓o1_build, ↓o1_buildSlice, ↓o1_makeSlice, ↓o1_makeMap, ↓o1_binOp, ↓o1_unOp, ↓o1_convert, ↓o1_fieldAddr, ↓o1_field, ↓o1_indexAddr, ↓o1_extract, ↓o1_slice, ↓o1_len, ↓o1_max, ↓o1_min, ↓o1_load, ↓o1_lookup, ↓o1_store, ↓o1_mapUpdate, ↓o1_append, ↓o1_delete, ↓o1_call, encC, encZ_eq, cellsA_encM, one_encM]
  refine loopP_inv (fun x : Nat × Nat × Nat × List (Int × Int) => x.2.1 ≤ a.length ∧ x.2.2.1 ≤ b.length ∧ (a.length - x.2.1) + (b.length - x.2.2.1) ≤ x.1 ∧ x.2.2.2 ++ mg k (bZ x.1 (a.drop x.2.1) (b.drop x.2.2.1)) = lz a b k ∧ x.2.2.2.length ≤ x.2.1 + x.2.2.1)
    (rS a b k) (fun x => x.1) (a.length + b.length, 0, 0, []) ⟨Nat.zero_le _, Nat.zero_le _, by simp, by simp [lz, bZL], by simp⟩ ?_ ?_
  · simp only [rS]
    refine wk_l [1, 2] (by simp) ?_ ?_ <;> simp [-List.map_map, upd, inj1, Γ0, encC, fcs_nil]
  · rintro ⟨n, i, j, out⟩ ⟨hi, hj, hn, he, hol⟩
    simp only at hi hj hn he hol
    simp only [rS]
    by_cases hgi : i < a.length
    · by_cases hgj : j < b.length
      · skip
        have q1 : (i : Int) < a.length := by omega
        have hx : a[i]? = some a[i] := List.getElem?_eq_getElem hgi
        have hxm := ha _ (List.getElem_mem hgi)
        have hxd := drop_some hx
        have hw1 : IntKind.i64.wrap ((i : Int) + 1) = (i : Int) + 1 := wrap_i64 (by omega) (by omega)
        have e3 : ((i : Int) == (a.length : Int)) = false := by simp; omega
        generalize a[i] = xx at *
        obtain ⟨xc, xv⟩ := xx
        simp only at hxm
        have q2 : (j : Int) < b.length := by omega
        have hy : b[j]? = some b[j] := List.getElem?_eq_getElem hgj
        have hym := hb _ (List.getElem_mem hgj)
        have hyd := drop_some hy
        have hw2 : IntKind.i64.wrap ((j : Int) + 1) = (j : Int) + 1 := wrap_i64 (by omega) (by omega)
        have e4 : ((j : Int) == (b.length : Int)) = false := by simp; omega
        generalize b[j] = yy at *
        obtain ⟨yc, yv⟩ := yy
        simp only at hym
        obtain ⟨n, rfl⟩ : ∃ m, n = m + 1 := ⟨n - 1, by omega⟩
        have hbb := app_bounds (n := out.length) (by omega)
        have hfl := fcs_len out
        rw [hxd, hyd] at he
        have hbz : bZ (n + 1) ((xc, xv) :: a.drop (i + 1)) ((yc, yv) :: b.drop (j + 1)) = if yc < xc then (yc, 0, yv) :: bZ n ((xc, xv) :: a.drop (i + 1)) (b.drop (j + 1)) else if xc < yc then (xc, xv, 0) :: bZ n (a.drop (i + 1)) ((yc, yv) :: b.drop (j + 1)) else (xc, xv, yv) :: bZ n (a.drop (i + 1)) (b.drop (j + 1)) := rfl
        rw [hbz] at he
        by_cases h1 : yc < xc
        · skip
          have h1' : ¬ xc < yc := by omega
          have hM := r01MulZ k yv (sz_small (by omega)) (sz_small (by omega))
          have hp := prod_small hk hym
          rw [if_pos h1, mg_cons, ← hxd] at he
          simp only [Int.zero_add] at he
          generalize k * yv = s at *
          have he2 : (out ++ if s = 0 then [] else [(yc, s)]) ++ mg k (bZ n (a.drop i) (b.drop (j + 1))) = lz a b k := by
            rw [← he, List.append_assoc]
          have hsz : Sz s := sz_small (by omega)
          have hS := r01SignZ s
          have hs0 : s = 0 → s.sign = 0 := fun h => by rw [h]; rfl
          have hs1 : ¬ s = 0 → (s.sign != 0) = true := fun h => by
            have : s.sign ≠ 0 := fun e => h (Int.sign_eq_zero_iff_zero.1 e)
            simpa using this
          clear he
          simp (config := { maxSteps := 1000000 }) [-List.map_map, -List.mapM_map, ↓awp_skip, ↓awp_regionB, ↓awp_seq, ↓awp_block, ↓awp_exit, ↓awp_ret, ↓awp_label, ↓awp_scope, ↓awp_condB, ↓awp_loopB, ↓ow_nil', ↓ow_cons0, ↓ow_cons1, ↓o1_move, ↓o1_assign, ↓o1_pick, ↓o1_alloc, ↓o1_box, ↓o1_build, ↓o1_buildSlice, ↓o1_makeSlice, ↓o1_makeMap, ↓o1_binOp, ↓o1_unOp, ↓o1_convert, ↓o1_fieldAddr, ↓o1_field, ↓o1_indexAddr, ↓o1_extract, ↓o1_slice, ↓o1_len, ↓o1_max, ↓o1_min, ↓o1_load, ↓o1_lookup, ↓o1_store, ↓o1_mapUpdate, ↓o1_append, ↓o1_delete, ↓o1_call, encC, q1, q2, e3, e4, hx, hy, hw2, h1, h1', encF_eq, cellsA_encM, one_encM, inj1_encM, inj_encM, kills_encM]
          refine callP_intro (ds := [encZ k, encZ yv]) (by rfl) hM ?_
          rw [encZ_eq s]
          simp (config := { maxSteps := 1000000 }) [-List.map_map, -List.mapM_map, ↓awp_skip, ↓awp_regionB, ↓awp_seq, ↓awp_block, ↓awp_exit, ↓awp_ret, ↓awp_label, ↓awp_scope, ↓awp_condB, ↓awp_loopB, ↓ow_nil', ↓ow_cons0, ↓ow_cons1, ↓o1_move, ↓o1_assign, ↓o1_pick, ↓o1_alloc, ↓o1_box, ↓o1_build, ↓o1_buildSlice, ↓o1_makeSlice, ↓o1_makeMap, ↓o1_binOp, ↓o1_unOp, ↓o1_convert, ↓o1_fieldAddr, ↓o1_field, ↓o1_indexAddr, ↓o1_extract, ↓o1_slice, ↓o1_len, ↓o1_max, ↓o1_min, ↓o1_load, ↓o1_lookup, ↓o1_store, ↓o1_mapUpdate, ↓o1_append, ↓o1_delete, ↓o1_call, cellsA_encM, one_encM, inj1_encM, inj_encM, kills_encM]
          refine callP_intro (ds := [encZ s]) (by rfl) hS ?_
          by_cases h0 : s = 0
          · rw [hs0 h0]
            rw [if_pos h0, List.append_nil] at he2
            simp (config := { maxSteps := 1000000 }) [-List.map_map, -List.mapM_map, ↓awp_skip, ↓awp_regionB, ↓awp_seq, ↓awp_block, ↓awp_exit, ↓awp_ret, ↓awp_label, ↓awp_scope, ↓awp_condB, ↓awp_loopB, ↓ow_nil', ↓ow_cons0, ↓ow_cons1, ↓o1_move, ↓o1_assign, ↓o1_pick, ↓o1_alloc, ↓o1_box, ↓o1_build, ↓o1_buildSlice, ↓o1_makeSlice, ↓o1_makeMap, ↓o1_binOp, ↓o1_unOp, ↓o1_convert, ↓o1_fieldAddr, ↓o1_field, ↓o1_indexAddr, ↓o1_extract, ↓o1_slice, ↓o1_len, ↓o1_max, ↓o1_min, ↓o1_load, ↓o1_lookup, ↓o1_store, ↓o1_mapUpdate, ↓o1_append, ↓o1_delete, ↓o1_call, q1, q2, e3, e4, hx, hy, hw2, h1, h1', cellsA_encM, one_encM, inj1_encM, inj_encM, kills_encM]
            refine nxt_intro (n, i, (j + 1), out) ⟨by simp only; omega, by simp only; omega, by simp only; omega, he2, by simp only; omega⟩ (by simp only; omega) (wk_l [1, 2] (by simp) ?_ ?_) <;> simp [-List.map_map, upd, inj1, Γ0, encC]
          · have hs2 := hs1 h0
            rw [if_neg h0] at he2
            generalize s.sign = sn at *
            simp (config := { maxSteps := 1000000 }) [-List.map_map, -List.mapM_map, ↓awp_skip, ↓awp_regionB, ↓awp_seq, ↓awp_block, ↓awp_exit, ↓awp_ret, ↓awp_label, ↓awp_scope, ↓awp_condB, ↓awp_loopB, ↓ow_nil', ↓ow_cons0, ↓ow_cons1, ↓o1_move, ↓o1_assign, ↓o1_pick, ↓o1_alloc, ↓o1_box, ↓o1_build, ↓o1_buildSlice, ↓o1_makeSlice, ↓o1_makeMap, ↓o1_binOp, ↓o1_unOp, ↓o1_convert, ↓o1_fieldAddr, ↓o1_field, ↓o1_indexAddr, ↓o1_extract, ↓o1_slice, ↓o1_len, ↓o1_max, ↓o1_min, ↓o1_load, ↓o1_lookup, ↓o1_store, ↓o1_mapUpdate, ↓o1_append, ↓o1_delete, ↓o1_call, q1, q2, e3, e4, hx, hy, hw2, h1, h1', hs2, hfl, hbb, le_maxLen, cellsA_encM, one_encM, inj1_encM, inj_encM, kills_encM]
            refine nxt_intro (n, i, (j + 1), out ++ [(yc, s)]) ⟨by simp only; omega, by simp only; omega, by simp only; omega, he2, by simp only [List.length_append, List.length_singleton]; omega⟩ (by simp only; omega) (wk_l [1, 5] (by simp) ?_ ?_) <;> simp [-List.map_map, upd, inj1, Γ0, encC, fcs_app, fcs_one]
        · by_cases h2 : xc < yc
          · skip
            rw [if_neg h1, if_pos h2, mg_cons, ← hyd] at he
            simp only [Int.mul_zero, Int.add_zero] at he
            generalize xv = s at *
            have he2 : (out ++ if s = 0 then [] else [(xc, s)]) ++ mg k (bZ n (a.drop (i + 1)) (b.drop j)) = lz a b k := by
              rw [← he, List.append_assoc]
            have hsz : Sz s := sz_small (by omega)
            have hS := r01SignZ s
            have hs0 : s = 0 → s.sign = 0 := fun h => by rw [h]; rfl
            have hs1 : ¬ s = 0 → (s.sign != 0) = true := fun h => by
              have : s.sign ≠ 0 := fun e => h (Int.sign_eq_zero_iff_zero.1 e)
              simpa using this
            clear he
            simp (config := { maxSteps := 1000000 }) [-List.map_map, -List.mapM_map, ↓awp_skip, ↓awp_regionB, ↓awp_seq, ↓awp_block, ↓awp_exit, ↓awp_ret, ↓awp_label, ↓awp_scope, ↓awp_condB, ↓awp_loopB, ↓ow_nil', ↓ow_cons0, ↓ow_cons1, ↓o1_move, ↓o1_assign, ↓o1_pick, ↓o1_alloc, ↓o1_box, ↓o1_build, ↓o1_buildSlice, ↓o1_makeSlice, ↓o1_makeMap, ↓o1_binOp, ↓o1_unOp, ↓o1_convert, ↓o1_fieldAddr, ↓o1_field, ↓o1_indexAddr, ↓o1_extract, ↓o1_slice, ↓o1_len, ↓o1_max, ↓o1_min, ↓o1_load, ↓o1_lookup, ↓o1_store, ↓o1_mapUpdate, ↓o1_append, ↓o1_delete, ↓o1_call, encC, q1, q2, e3, e4, hx, hy, hw1, h2, encF_eq, cellsA_encM, one_encM, inj1_encM, inj_encM, kills_encM]
            refine callP_intro (ds := [encZ s]) (by rfl) hS ?_
            by_cases h0 : s = 0
            · rw [hs0 h0]
              rw [if_pos h0, List.append_nil] at he2
              simp (config := { maxSteps := 1000000 }) [-List.map_map, -List.mapM_map, ↓awp_skip, ↓awp_regionB, ↓awp_seq, ↓awp_block, ↓awp_exit, ↓awp_ret, ↓awp_label, ↓awp_scope, ↓awp_condB, ↓awp_loopB, ↓ow_nil', ↓ow_cons0, ↓ow_cons1, ↓o1_move, ↓o1_assign, ↓o1_pick, ↓o1_alloc, ↓o1_box, ↓o1_build, ↓o1_buildSlice, ↓o1_makeSlice, ↓o1_makeMap, ↓o1_binOp, ↓o1_unOp, ↓o1_convert, ↓o1_fieldAddr, ↓o1_field, ↓o1_indexAddr, ↓o1_extract, ↓o1_slice, ↓o1_len, ↓o1_max, ↓o1_min, ↓o1_load, ↓o1_lookup, ↓o1_store, ↓o1_mapUpdate, ↓o1_append, ↓o1_delete, ↓o1_call, q1, q2, e3, e4, hx, hy, hw1, h2, cellsA_encM, one_encM, inj1_encM, inj_encM, kills_encM]
              refine nxt_intro (n, (i + 1), j, out) ⟨by simp only; omega, by simp only; omega, by simp only; omega, he2, by simp only; omega⟩ (by simp only; omega) (wk_l [1, 2] (by simp) ?_ ?_) <;> simp [-List.map_map, upd, inj1, Γ0, encC]
            · have hs2 := hs1 h0
              rw [if_neg h0] at he2
              generalize s.sign = sn at *
              simp (config := { maxSteps := 1000000 }) [-List.map_map, -List.mapM_map, ↓awp_skip, ↓awp_regionB, ↓awp_seq, ↓awp_block, ↓awp_exit, ↓awp_ret, ↓awp_label, ↓awp_scope, ↓awp_condB, ↓awp_loopB, ↓ow_nil', ↓ow_cons0, ↓ow_cons1, ↓o1_move, ↓o1_assign, ↓o1_pick, ↓o1_alloc, ↓o1_box, ↓o1_build, ↓o1_buildSlice, ↓o1_makeSlice, ↓o1_makeMap, ↓o1_binOp, ↓o1_unOp, ↓o1_convert, ↓o1_fieldAddr, ↓o1_field, ↓o1_indexAddr, ↓o1_extract, ↓o1_slice, ↓o1_len, ↓o1_max, ↓o1_min, ↓o1_load, ↓o1_lookup, ↓o1_store, ↓o1_mapUpdate, ↓o1_append, ↓o1_delete, ↓o1_call, q1, q2, e3, e4, hx, hy, hw1, h2, hs2, hfl, hbb, le_maxLen, cellsA_encM, one_encM, inj1_encM, inj_encM, kills_encM]
              refine nxt_intro (n, (i + 1), j, out ++ [(xc, s)]) ⟨by simp only; omega, by simp only; omega, by simp only; omega, he2, by simp only [List.length_append, List.length_singleton]; omega⟩ (by simp only; omega) (wk_l [1, 5] (by simp) ?_ ?_) <;> simp [-List.map_map, upd, inj1, Γ0, encC, fcs_app, fcs_one]
          · skip
            have hM := r01MulZ k yv (sz_small (by omega)) (sz_small (by omega))
            have hp := prod_small hk hym
            have hA := r01AddZ xv (k * yv) (Nat.le_trans (sz_small (z := xv) (by omega)) (by decide)) (Nat.le_trans (sz_small (z := k * yv) (by omega)) (by decide))
            have hq := sum_small hxm hp
            rw [if_neg h1, if_neg h2, mg_cons] at he
            simp only at he
            generalize xv + k * yv = s at *
            generalize k * yv = ky at *
            have he2 : (out ++ if s = 0 then [] else [(xc, s)]) ++ mg k (bZ n (a.drop (i + 1)) (b.drop (j + 1))) = lz a b k := by
              rw [← he, List.append_assoc]
            have hsz : Sz s := sz_small (by omega)
            have hS := r01SignZ s
            have hs0 : s = 0 → s.sign = 0 := fun h => by rw [h]; rfl
            have hs1 : ¬ s = 0 → (s.sign != 0) = true := fun h => by
              have : s.sign ≠ 0 := fun e => h (Int.sign_eq_zero_iff_zero.1 e)
              simpa using this
            clear he
            simp (config := { maxSteps := 1000000 }) [-List.map_map, -List.mapM_map, ↓awp_skip, ↓awp_regionB, ↓awp_seq, ↓awp_block, ↓awp_exit, ↓awp_ret, ↓awp_label, ↓awp_scope, ↓awp_condB, ↓awp_loopB, ↓ow_nil', ↓ow_cons0, ↓ow_cons1, ↓o1_move, ↓o1_assign, ↓o1_pick, ↓o1_alloc, ↓o1_box, ↓o1_build, ↓o1_buildSlice, ↓o1_makeSlice, ↓o1_makeMap, ↓o1_binOp, ↓o1_unOp, ↓o1_convert, ↓o1_fieldAddr, ↓o1_field, ↓o1_indexAddr, ↓o1_extract, ↓o1_slice, ↓o1_len, ↓o1_max, ↓o1_min, ↓o1_load, ↓o1_lookup, ↓o1_store, ↓o1_mapUpdate, ↓o1_append, ↓o1_delete, ↓o1_call, encC, q1, q2, e3, e4, hx, hy, hw1, hw2, h1, h2, encF_eq, cellsA_encM, one_encM, inj1_encM, inj_encM, kills_encM]
            refine callP_intro (ds := [encZ k, encZ yv]) (by rfl) hM ?_
            rw [encZ_eq ky]
            simp (config := { maxSteps := 1000000 }) [-List.map_map, -List.mapM_map, ↓awp_skip, ↓awp_regionB, ↓awp_seq, ↓awp_block, ↓awp_exit, ↓awp_ret, ↓awp_label, ↓awp_scope, ↓awp_condB, ↓awp_loopB, ↓ow_nil', ↓ow_cons0, ↓ow_cons1, ↓o1_move, ↓o1_assign, ↓o1_pick, ↓o1_alloc, ↓o1_box, ↓o1_build, ↓o1_buildSlice, ↓o1_makeSlice, ↓o1_makeMap, ↓o1_binOp, ↓o1_unOp, ↓o1_convert, ↓o1_fieldAddr, ↓o1_field, ↓o1_indexAddr, ↓o1_extract, ↓o1_slice, ↓o1_len, ↓o1_max, ↓o1_min, ↓o1_load, ↓o1_lookup, ↓o1_store, ↓o1_mapUpdate, ↓o1_append, ↓o1_delete, ↓o1_call, cellsA_encM, one_encM, inj1_encM, inj_encM, kills_encM]
            refine callP_intro (ds := [encZ xv, encZ ky]) (by rfl) hA ?_
            rw [encZ_eq s]
            simp (config := { maxSteps := 1000000 }) [-List.map_map, -List.mapM_map, ↓awp_skip, ↓awp_regionB, ↓awp_seq, ↓awp_block, ↓awp_exit, ↓awp_ret, ↓awp_label, ↓awp_scope, ↓awp_condB, ↓awp_loopB, ↓ow_nil', ↓ow_cons0, ↓ow_cons1, ↓o1_move, ↓o1_assign, ↓o1_pick, ↓o1_alloc, ↓o1_box, ↓o1_build, ↓o1_buildSlice, ↓o1_makeSlice, ↓o1_makeMap, ↓o1_binOp, ↓o1_unOp, ↓o1_convert, ↓o1_fieldAddr, ↓o1_field, ↓o1_indexAddr, ↓o1_extract, ↓o1_slice, ↓o1_len, ↓o1_max, ↓o1_min, ↓o1_load, ↓o1_lookup, ↓o1_store, ↓o1_mapUpdate, ↓o1_append, ↓o1_delete, ↓o1_call, cellsA_encM, one_encM, inj1_encM, inj_encM, kills_encM]
            refine callP_intro (ds := [encZ s]) (by rfl) hS ?_
            by_cases h0 : s = 0
            · rw [hs0 h0]
              rw [if_pos h0, List.append_nil] at he2
              simp (config := { maxSteps := 1000000 }) [-List.map_map, -List.mapM_map, ↓awp_skip, ↓awp_regionB, ↓awp_seq, ↓awp_block, ↓awp_exit, ↓awp_ret, ↓awp_label, ↓awp_scope, ↓awp_condB, ↓awp_loopB, ↓ow_nil', ↓ow_cons0, ↓ow_cons1, ↓o1_move, ↓o1_assign, ↓o1_pick, ↓o1_alloc, ↓o1_box, ↓o1_build, ↓o1_buildSlice, ↓o1_makeSlice, ↓o1_makeMap, ↓o1_binOp, ↓o1_unOp, ↓o1_convert, ↓o1_fieldAddr, ↓o1_field, ↓o1_indexAddr, ↓o1_extract, ↓o1_slice, ↓o1_len, ↓o1_max, ↓o1_min, ↓o1_load, ↓o1_lookup, ↓o1_store, ↓o1_mapUpdate, ↓o1_append, ↓o1_delete, ↓o1_call, q1, q2, e3, e4, hx, hy, hw1, hw2, h1, h2, cellsA_encM, one_encM, inj1_encM, inj_encM, kills_encM]
              refine nxt_intro (n, (i + 1), (j + 1), out) ⟨by simp only; omega, by simp only; omega, by simp only; omega, he2, by simp only; omega⟩ (by simp only; omega) (wk_l [1, 2] (by simp) ?_ ?_) <;> simp [-List.map_map, upd, inj1, Γ0, encC]
            · have hs2 := hs1 h0
              rw [if_neg h0] at he2
              generalize s.sign = sn at *
              simp (config := { maxSteps := 1000000 }) [-List.map_map, -List.mapM_map, ↓awp_skip, ↓awp_regionB, ↓awp_seq, ↓awp_block, ↓awp_exit, ↓awp_ret, ↓awp_label, ↓awp_scope, ↓awp_condB, ↓awp_loopB, ↓ow_nil', ↓ow_cons0, ↓ow_cons1, ↓o1_move, ↓o1_assign, ↓o1_pick, ↓o1_alloc, ↓o1_box, ↓o1_build, ↓o1_buildSlice, ↓o1_makeSlice, ↓o1_makeMap, ↓o1_binOp, ↓o1_unOp, ↓o1_convert, ↓o1_fieldAddr, ↓o1_field, ↓o1_indexAddr, ↓o1_extract, ↓o1_slice, ↓o1_len, ↓o1_max, ↓o1_min, ↓o1_load, ↓o1_lookup, ↓o1_store, ↓o1_mapUpdate, ↓o1_append, ↓o1_delete, ↓o1_call, q1, q2, e3, e4, hx, hy, hw1, hw2, h1, h2, hs2, hfl, hbb, le_maxLen, cellsA_encM, one_encM, inj1_encM, inj_encM, kills_encM]
              refine nxt_intro (n, (i + 1), (j + 1), out ++ [(xc, s)]) ⟨by simp only; omega, by simp only; omega, by simp only; omega, he2, by simp only [List.length_append, List.length_singleton]; omega⟩ (by simp only; omega) (wk_l [1, 5] (by simp) ?_ ?_) <;> simp [-List.map_map, upd, inj1, Γ0, encC, fcs_app, fcs_one]
      · skip
        have q1 : (i : Int) < a.length := by omega
        have hx : a[i]? = some a[i] := List.getElem?_eq_getElem hgi
        have hxm := ha _ (List.getElem_mem hgi)
        have hxd := drop_some hx
        have hw1 : IntKind.i64.wrap ((i : Int) + 1) = (i : Int) + 1 := wrap_i64 (by omega) (by omega)
        have e3 : ((i : Int) == (a.length : Int)) = false := by simp; omega
        generalize a[i] = xx at *
        obtain ⟨xc, xv⟩ := xx
        simp only at hxm
        have q2 : ¬ (j : Int) < b.length := by omega
        have hyd : b.drop j = [] := List.drop_eq_nil_of_le (by omega)
        have e4 : ((j : Int) == (b.length : Int)) = true := by simp; omega
        obtain ⟨n, rfl⟩ : ∃ m, n = m + 1 := ⟨n - 1, by omega⟩
        have hbb := app_bounds (n := out.length) (by omega)
        have hfl := fcs_len out
        rw [hxd, hyd] at he

        have he' : out ++ ((if xv = 0 then [] else [(xc, xv)]) ++ mg k (bZ n (a.drop (i + 1)) (b.drop j))) = lz a b k := by
          rw [← he, hyd]; show _ = out ++ mg k ((xc, xv, 0) :: bZ n (a.drop (i + 1)) []); rw [mg_cons]; simp only [Int.mul_zero, Int.add_zero]
        clear he; have he := he'; clear he'
        generalize xv = s at *
        have he2 : (out ++ if s = 0 then [] else [(xc, s)]) ++ mg k (bZ n (a.drop (i + 1)) (b.drop j)) = lz a b k := by
          rw [← he, List.append_assoc]
        have hsz : Sz s := sz_small (by omega)
        have hS := r01SignZ s
        have hs0 : s = 0 → s.sign = 0 := fun h => by rw [h]; rfl
        have hs1 : ¬ s = 0 → (s.sign != 0) = true := fun h => by
          have : s.sign ≠ 0 := fun e => h (Int.sign_eq_zero_iff_zero.1 e)
          simpa using this
        clear he
        simp (config := { maxSteps := 1000000 }) [-List.map_map, -List.mapM_map, ↓awp_skip, ↓awp_regionB, ↓awp_seq, ↓awp_block, ↓awp_exit, ↓awp_ret, ↓awp_label, ↓awp_scope, ↓awp_condB, ↓awp_loopB, ↓ow_nil', ↓ow_cons0, ↓ow_cons1, ↓o1_move, ↓o1_assign, ↓o1_pick, ↓o1_alloc, ↓o1_box, ↓o1_build, ↓o1_buildSlice, ↓o1_makeSlice, ↓o1_makeMap, ↓o1_binOp, ↓o1_unOp, ↓o1_convert, ↓o1_fieldAddr, ↓o1_field, ↓o1_indexAddr, ↓o1_extract, ↓o1_slice, ↓o1_len, ↓o1_max, ↓o1_min, ↓o1_load, ↓o1_lookup, ↓o1_store, ↓o1_mapUpdate, ↓o1_append, ↓o1_delete, ↓o1_call, encC, q1, q2, e3, e4, hx, hw1, encF_eq, cellsA_encM, one_encM, inj1_encM, inj_encM, kills_encM]
        refine callP_intro (ds := [encZ s]) (by rfl) hS ?_
        by_cases h0 : s = 0
        · rw [hs0 h0]
          rw [if_pos h0, List.append_nil] at he2
          simp (config := { maxSteps := 1000000 }) [-List.map_map, -List.mapM_map, ↓awp_skip, ↓awp_regionB, ↓awp_seq, ↓awp_block, ↓awp_exit, ↓awp_ret, ↓awp_label, ↓awp_scope, ↓awp_condB, ↓awp_loopB, ↓ow_nil', ↓ow_cons0, ↓ow_cons1, ↓o1_move, ↓o1_assign, ↓o1_pick, ↓o1_alloc, ↓o1_box, ↓o1_build, ↓o1_buildSlice, ↓o1_makeSlice, ↓o1_makeMap, ↓o1_binOp, ↓o1_unOp, ↓o1_convert, ↓o1_fieldAddr, ↓o1_field, ↓o1_indexAddr, ↓o1_extract, ↓o1_slice, ↓o1_len, ↓o1_max, ↓o1_min, ↓o1_load, ↓o1_lookup, ↓o1_store, ↓o1_mapUpdate, ↓o1_append, ↓o1_delete, ↓o1_call, q1, q2, e3, e4, hx, hw1, cellsA_encM, one_encM, inj1_encM, inj_encM, kills_encM]
          refine nxt_intro (n, (i + 1), j, out) ⟨by simp only; omega, by simp only; omega, by simp only; omega, he2, by simp only; omega⟩ (by simp only; omega) (wk_l [1, 2] (by simp) ?_ ?_) <;> simp [-List.map_map, upd, inj1, Γ0, encC]
        · have hs2 := hs1 h0
          rw [if_neg h0] at he2
          generalize s.sign = sn at *
          simp (config := { maxSteps := 1000000 }) [-List.map_map, -List.mapM_map, ↓awp_skip, ↓awp_regionB, ↓awp_seq, ↓awp_block, ↓awp_exit, ↓awp_ret, ↓awp_label, ↓awp_scope, ↓awp_condB, ↓awp_loopB, ↓ow_nil', ↓ow_cons0, ↓ow_cons1, ↓o1_move, ↓o1_assign, ↓o1_pick, ↓o1_alloc, ↓o1_box, ↓o1_build, ↓o1_buildSlice, ↓o1_makeSlice, ↓o1_makeMap, ↓o1_binOp, ↓o1_unOp, ↓o1_convert, ↓o1_fieldAddr, ↓o1_field, ↓o1_indexAddr, ↓o1_extract, ↓o1_slice, ↓o1_len, ↓o1_max, ↓o1_min, ↓o1_load, ↓o1_lookup, ↓o1_store, ↓o1_mapUpdate, ↓o1_append, ↓o1_delete, ↓o1_call, q1, q2, e3, e4, hx, hw1, hs2, hfl, hbb, le_maxLen, cellsA_encM, one_encM, inj1_encM, inj_encM, kills_encM]
          refine nxt_intro (n, (i + 1), j, out ++ [(xc, s)]) ⟨by simp only; omega, by simp only; omega, by simp only; omega, he2, by simp only [List.length_append, List.length_singleton]; omega⟩ (by simp only; omega) (wk_l [1, 5] (by simp) ?_ ?_) <;> simp [-List.map_map, upd, inj1, Γ0, encC, fcs_app, fcs_one]
    · by_cases hgj : j < b.length
      · skip
        have q1 : ¬ (i : Int) < a.length := by omega
        have hxd : a.drop i = [] := List.drop_eq_nil_of_le (by omega)
        have e3 : ((i : Int) == (a.length : Int)) = true := by simp; omega
        have q2 : (j : Int) < b.length := by omega
        have hy : b[j]? = some b[j] := List.getElem?_eq_getElem hgj
        have hym := hb _ (List.getElem_mem hgj)
        have hyd := drop_some hy
        have hw2 : IntKind.i64.wrap ((j : Int) + 1) = (j : Int) + 1 := wrap_i64 (by omega) (by omega)
        have e4 : ((j : Int) == (b.length : Int)) = false := by simp; omega
        generalize b[j] = yy at *
        obtain ⟨yc, yv⟩ := yy
        simp only at hym
        obtain ⟨n, rfl⟩ : ∃ m, n = m + 1 := ⟨n - 1, by omega⟩
        have hbb := app_bounds (n := out.length) (by omega)
        have hfl := fcs_len out
        rw [hxd, hyd] at he

        have hM := r01MulZ k yv (sz_small (by omega)) (sz_small (by omega))
        have hp := prod_small hk hym
        have he' : out ++ ((if k * yv = 0 then [] else [(yc, k * yv)]) ++ mg k (bZ n (a.drop i) (b.drop (j + 1)))) = lz a b k := by
          rw [← he, hxd]; show _ = out ++ mg k ((yc, 0, yv) :: bZ n [] (b.drop (j + 1))); rw [mg_cons]; simp only [Int.zero_add]
        clear he; have he := he'; clear he'
        generalize k * yv = s at *
        have he2 : (out ++ if s = 0 then [] else [(yc, s)]) ++ mg k (bZ n (a.drop i) (b.drop (j + 1))) = lz a b k := by
          rw [← he, List.append_assoc]
        have hsz : Sz s := sz_small (by omega)
        have hS := r01SignZ s
        have hs0 : s = 0 → s.sign = 0 := fun h => by rw [h]; rfl
        have hs1 : ¬ s = 0 → (s.sign != 0) = true := fun h => by
          have : s.sign ≠ 0 := fun e => h (Int.sign_eq_zero_iff_zero.1 e)
          simpa using this
        clear he
        simp (config := { maxSteps := 1000000 }) [-List.map_map, -List.mapM_map, ↓awp_skip, ↓awp_regionB, ↓awp_seq, ↓awp_block, ↓awp_exit, ↓awp_ret, ↓awp_label, ↓awp_scope, ↓awp_condB, ↓awp_loopB, ↓ow_nil', ↓ow_cons0, ↓ow_cons1, ↓o1_move, ↓o1_assign, ↓o1_pick, ↓o1_alloc, ↓o1_box, ↓o1_build, ↓o1_buildSlice, ↓o1_makeSlice, ↓o1_makeMap, ↓o1_binOp, ↓o1_unOp, ↓o1_convert, ↓o1_fieldAddr, ↓o1_field, ↓o1_indexAddr, ↓o1_extract, ↓o1_slice, ↓o1_len, ↓o1_max, ↓o1_min, ↓o1_load, ↓o1_lookup, ↓o1_store, ↓o1_mapUpdate, ↓o1_append, ↓o1_delete, ↓o1_call, encC, q1, q2, e3, e4, hy, hw2, encF_eq, cellsA_encM, one_encM, inj1_encM, inj_encM, kills_encM]
        refine callP_intro (ds := [encZ k, encZ yv]) (by rfl) hM ?_
        rw [encZ_eq s]
        simp (config := { maxSteps := 1000000 }) [-List.map_map, -List.mapM_map, ↓awp_skip, ↓awp_regionB, ↓awp_seq, ↓awp_block, ↓awp_exit, ↓awp_ret, ↓awp_label, ↓awp_scope, ↓awp_condB, ↓awp_loopB, ↓ow_nil', ↓ow_cons0, ↓ow_cons1, ↓o1_move, ↓o1_assign, ↓o1_pick, ↓o1_alloc, ↓o1_box, ↓o1_build, ↓o1_buildSlice, ↓o1_makeSlice, ↓o1_makeMap, ↓o1_binOp, ↓o1_unOp, ↓o1_convert, ↓o1_fieldAddr, ↓o1_field, ↓o1_indexAddr, ↓o1_extract, ↓o1_slice, ↓o1_len, ↓o1_max, ↓o1_min, ↓o1_load, ↓o1_lookup, ↓o1_store, ↓o1_mapUpdate, ↓o1_append, ↓o1_delete, ↓o1_call, cellsA_encM, one_encM, inj1_encM, inj_encM, kills_encM]
        refine callP_intro (ds := [encZ s]) (by rfl) hS ?_
        by_cases h0 : s = 0
        · rw [hs0 h0]
          rw [if_pos h0, List.append_nil] at he2
          simp (config := { maxSteps := 1000000 }) [-List.map_map, -List.mapM_map, ↓awp_skip, ↓awp_regionB, ↓awp_seq, ↓awp_block, ↓awp_exit, ↓awp_ret, ↓awp_label, ↓awp_scope, ↓awp_condB, ↓awp_loopB, ↓ow_nil', ↓ow_cons0, ↓ow_cons1, ↓o1_move, ↓o1_assign, ↓o1_pick, ↓o1_alloc, ↓o1_box, ↓o1_build, ↓o1_buildSlice, ↓o1_makeSlice, ↓o1_makeMap, ↓o1_binOp, ↓o1_unOp, ↓o1_convert, ↓o1_fieldAddr, ↓o1_field, ↓o1_indexAddr, ↓o1_extract, ↓o1_slice, ↓o1_len, ↓o1_max, ↓o1_min, ↓o1_load, ↓o1_lookup, ↓o1_store, ↓o1_mapUpdate, ↓o1_append, ↓o1_delete, ↓o1_call, q1, q2, e3, e4, hy, hw2, cellsA_encM, one_encM, inj1_encM, inj_encM, kills_encM]
          refine nxt_intro (n, i, (j + 1), out) ⟨by simp only; omega, by simp only; omega, by simp only; omega, he2, by simp only; omega⟩ (by simp only; omega) (wk_l [1, 2] (by simp) ?_ ?_) <;> simp [-List.map_map, upd, inj1, Γ0, encC]
        · have hs2 := hs1 h0
          rw [if_neg h0] at he2
          generalize s.sign = sn at *
          simp (config := { maxSteps := 1000000 }) [-List.map_map, -List.mapM_map, ↓awp_skip, ↓awp_regionB, ↓awp_seq, ↓awp_block, ↓awp_exit, ↓awp_ret, ↓awp_label, ↓awp_scope, ↓awp_condB, ↓awp_loopB, ↓ow_nil', ↓ow_cons0, ↓ow_cons1, ↓o1_move, ↓o1_assign, ↓o1_pick, ↓o1_alloc, ↓o1_box, ↓o1_build, ↓o1_buildSlice, ↓o1_makeSlice, ↓o1_makeMap, ↓o1_binOp, ↓o1_unOp, ↓o1_convert, ↓o1_fieldAddr, ↓o1_field, ↓o1_indexAddr, ↓o1_extract, ↓o1_slice, ↓o1_len, ↓o1_max, ↓o1_min, ↓o1_load, ↓o1_lookup, ↓o1_store, ↓o1_mapUpdate, ↓o1_append, ↓o1_delete, ↓o1_call, q1, q2, e3, e4, hy, hw2, hs2, hfl, hbb, le_maxLen, cellsA_encM, one_encM, inj1_encM, inj_encM, kills_encM]
          refine nxt_intro (n, i, (j + 1), out ++ [(yc, s)]) ⟨by simp only; omega, by simp only; omega, by simp only; omega, he2, by simp only [List.length_append, List.length_singleton]; omega⟩ (by simp only; omega) (wk_l [1, 5] (by simp) ?_ ?_) <;> simp [-List.map_map, upd, inj1, Γ0, encC, fcs_app, fcs_one]
      · have q1 : ¬ (i : Int) < a.length := by omega
        have q2 : ¬ (j : Int) < b.length := by omega
        have hz : mg k (bZ n (a.drop i) (b.drop j)) = [] := by
          rw [List.drop_eq_nil_of_le (by omega), List.drop_eq_nil_of_le (by omega)]
          cases n <;> rfl
        rw [hz, List.append_nil] at he
        subst he
        have hfl := fcs_len (lz a b k)
        generalize lz a b k = out at *
        simp (config := { maxSteps := 1000000 }) [-List.map_map, -List.mapM_map, ↓awp_skip, ↓awp_regionB, ↓awp_seq, ↓awp_block, ↓awp_exit, ↓awp_ret, ↓awp_label, ↓awp_scope, ↓awp_condB, ↓awp_loopB, ↓ow_nil', ↓ow_cons0, ↓ow_cons1, ↓o1_move, ↓o1_assign, ↓o1_pick, ↓o1_alloc, ↓o1_box, ↓o1_build, ↓o1_buildSlice, ↓o1_makeSlice, ↓o1_makeMap, ↓o1_binOp, ↓o1_unOp, ↓o1_convert, ↓o1_fieldAddr, ↓o1_field, ↓o1_indexAddr, ↓o1_extract, ↓o1_slice, ↓o1_len, ↓o1_max, ↓o1_min, ↓o1_load, ↓o1_lookup, ↓o1_store, ↓o1_mapUpdate, ↓o1_append, ↓o1_delete, ↓o1_call, encC, q1, q2, hfl, chunk_fcs rfl, fcs_take_all rfl]

end Go.Am
