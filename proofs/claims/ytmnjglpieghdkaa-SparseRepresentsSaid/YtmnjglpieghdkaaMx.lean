/- sparse.Times on valid arguments. Under way. -/
import Derived.Test.YtmnjglpieghdkaaMw
import Derived.Test.YtmnjglpieghdkaaMu
open Go Go.Am Go.Proofs
namespace Go.Am
set_option linter.unusedSimpArgs false

theorem r06SameVec {a b : List Int} (ha : ∀ x ∈ a, Sz x) (hb : ∀ x ∈ b, Sz x) (hla : a.length ≤ 4294967296) : Spec Try.prog 47 [encV2 a, encV2 b] (.b (decide (a = b))) := by
  refine spec_of (N := 27) follows_mixed Try.func47 rfl rfl rfl (by kernel_rfl) (by kernel_rfl) (by simp) ?_
  by_cases hn : a.length = b.length
  rotate_left
  · have h1 : (((a.length : Int) != b.length) : Bool) = true := by simp; omega
    have h2 : decide (a = b) = false := by simp; intro e; rw [e] at hn; exact hn rfl
    simp (config := { maxSteps := 1000000 }) [-List.map_map, -List.mapM_map, ↓awp_skip, ↓awp_regionB, ↓awp_seq, ↓awp_block, ↓awp_exit, ↓awp_ret, ↓awp_label, ↓awp_scope, ↓awp_condB, ↓awp_loopB, ↓ow_nil', ↓ow_cons0, ↓ow_cons1, ↓o1_move, ↓o1_assign, ↓o1_pick, ↓o1_alloc, ↓o1_box, ↓o1_build, ↓o1_buildSlice, ↓o1_makeSlice, ↓o1_makeMap, ↓o1_binOp, ↓o1_unOp, ↓o1_convert, ↓o1_fieldAddr, ↓o1_field, ↓o1_indexAddr, ↓o1_extract, ↓o1_slice, ↓o1_len, ↓o1_max, ↓o1_min, ↓o1_load, ↓o1_lookup, ↓o1_store, ↓o1_mapUpdate, ↓o1_append, ↓o1_delete, ↓o1_call, encV2, h1, h2]
  · have h1 : (((a.length : Int) != b.length) : Bool) = false := by simp; omega
    simp (config := { maxSteps := 1000000 }) [-List.map_map, -List.mapM_map, ↓awp_skip, ↓awp_regionB, ↓awp_seq, ↓awp_block, ↓awp_exit, ↓awp_ret, ↓awp_label, ↓awp_scope, ↓awp_condB, ↓awp_loopB, ↓ow_nil', ↓ow_cons0, ↓ow_cons1, ↓o1_move, ↓o1_assign, ↓o1_pick, ↓o1_alloc, ↓o1_box, ↓o1_build, ↓o1_buildSlice, ↓o1_makeSlice, ↓o1_makeMap, ↓o1_binOp, ↓o1_unOp, ↓o1_convert, ↓o1_fieldAddr, ↓o1_field, ↓o1_indexAddr, ↓o1_extract, ↓o1_slice, ↓o1_len, ↓o1_max, ↓o1_min, ↓o1_load, ↓o1_lookup, ↓o1_store, ↓o1_mapUpdate, ↓o1_append, ↓o1_delete, ↓o1_call, encV2, h1]
    refine loopP_inv (fun i : Nat => i ≤ a.length ∧ ∀ j, j < i → a[j]? = b[j]?) (fun i => StL [(0, .d (encV2 a)), (1, .d (encV2 b)), (5, .d (.i .i64 (i : Int)))] none []) (fun i => a.length - i) 0 ⟨Nat.zero_le _, fun j h => by omega⟩ ?_ ?_
    · refine wk_l [] (by simp) ?_ ?_ <;> simp [-List.map_map, upd, inj1, Γ0, encV2]
    · rintro i ⟨hi, hok⟩
      by_cases hgo : i < a.length
      · have q1 : (i : Int) < a.length := by omega
        have hgb : i < b.length := by omega
        have hx : a[i]? = some a[i] := List.getElem?_eq_getElem hgo
        have hy : b[i]? = some b[i] := List.getElem?_eq_getElem hgb
        have hxs := ha _ (List.getElem_mem hgo)
        have hys := hb _ (List.getElem_mem hgb)
        have hw : IntKind.i64.wrap ((i : Int) + 1) = (i : Int) + 1 := wrap_i64 (by omega) (by omega)
        generalize a[i] = x at *
        generalize b[i] = y at *
        have hS := r01SameZ x y (Nat.le_trans hxs (by decide)) (Nat.le_trans hys (by decide))
        have hne : ¬ (x = y) → decide (a = b) = false := fun h => by
          simp only [decide_eq_false_iff_not]
          intro e
          rw [e, hy] at hx
          injection hx with hx
          exact h hx.symm
        simp (config := { maxSteps := 1000000 }) [-List.map_map, -List.mapM_map, ↓awp_skip, ↓awp_regionB, ↓awp_seq, ↓awp_block, ↓awp_exit, ↓awp_ret, ↓awp_label, ↓awp_scope, ↓awp_condB, ↓awp_loopB, ↓ow_nil', ↓ow_cons0, ↓ow_cons1, ↓o1_move, ↓o1_assign, ↓o1_pick, ↓o1_alloc, ↓o1_box, ↓o1_build, ↓o1_buildSlice, ↓o1_makeSlice, ↓o1_makeMap, ↓o1_binOp, ↓o1_unOp, ↓o1_convert, ↓o1_fieldAddr, ↓o1_field, ↓o1_indexAddr, ↓o1_extract, ↓o1_slice, ↓o1_len, ↓o1_max, ↓o1_min, ↓o1_load, ↓o1_lookup, ↓o1_store, ↓o1_mapUpdate, ↓o1_append, ↓o1_delete, ↓o1_call, encV2, encN_eq, q1, hx, hy, cellsA_encM, one_encM]
        refine callP_intro (ds := [encZ x, encZ y]) (by rfl) hS ?_
        by_cases hv : x = y
        · subst hv
          rw [decide_eq_true rfl]
          simp (config := { maxSteps := 1000000 }) [-List.map_map, -List.mapM_map, ↓awp_skip, ↓awp_regionB, ↓awp_seq, ↓awp_block, ↓awp_exit, ↓awp_ret, ↓awp_label, ↓awp_scope, ↓awp_condB, ↓awp_loopB, ↓ow_nil', ↓ow_cons0, ↓ow_cons1, ↓o1_move, ↓o1_assign, ↓o1_pick, ↓o1_alloc, ↓o1_box, ↓o1_build, ↓o1_buildSlice, ↓o1_makeSlice, ↓o1_makeMap, ↓o1_binOp, ↓o1_unOp, ↓o1_convert, ↓o1_fieldAddr, ↓o1_field, ↓o1_indexAddr, ↓o1_extract, ↓o1_slice, ↓o1_len, ↓o1_max, ↓o1_min, ↓o1_load, ↓o1_lookup, ↓o1_store, ↓o1_mapUpdate, ↓o1_append, ↓o1_delete, ↓o1_call, hw]
          refine nxt_intro (i + 1) ⟨hgo, fun j hj => ?_⟩ (Nat.sub_lt_sub_left hgo (Nat.lt_succ_self _)) (wk_l [] (by simp) ?_ ?_)
          · rcases Nat.lt_or_ge j i with h2 | h2
            · exact hok j h2
            · rw [show j = i by omega, hx, hy]
          · simp [-List.map_map, upd, inj1, Γ0, encV2]
          · trivial
        · rw [decide_eq_false hv]
          have e2 := hne hv
          simp (config := { maxSteps := 1000000 }) [-List.map_map, -List.mapM_map, ↓awp_skip, ↓awp_regionB, ↓awp_seq, ↓awp_block, ↓awp_exit, ↓awp_ret, ↓awp_label, ↓awp_scope, ↓awp_condB, ↓awp_loopB, ↓ow_nil', ↓ow_cons0, ↓ow_cons1, ↓o1_move, ↓o1_assign, ↓o1_pick, ↓o1_alloc, ↓o1_box, ↓o1_build, ↓o1_buildSlice, ↓o1_makeSlice, ↓o1_makeMap, ↓o1_binOp, ↓o1_unOp, ↓o1_convert, ↓o1_fieldAddr, ↓o1_field, ↓o1_indexAddr, ↓o1_extract, ↓o1_slice, ↓o1_len, ↓o1_max, ↓o1_min, ↓o1_load, ↓o1_lookup, ↓o1_store, ↓o1_mapUpdate, ↓o1_append, ↓o1_delete, ↓o1_call, e2]
      · have q1 : ¬ (i : Int) < a.length := by omega
        have e : decide (a = b) = true := by simpa using eq_of_get hn fun j hj => hok j (by omega)
        simp (config := { maxSteps := 1000000 }) [-List.map_map, -List.mapM_map, ↓awp_skip, ↓awp_regionB, ↓awp_seq, ↓awp_block, ↓awp_exit, ↓awp_ret, ↓awp_label, ↓awp_scope, ↓awp_condB, ↓awp_loopB, ↓ow_nil', ↓ow_cons0, ↓ow_cons1, ↓o1_move, ↓o1_assign, ↓o1_pick, ↓o1_alloc, ↓o1_box, ↓o1_build, ↓o1_buildSlice, ↓o1_makeSlice, ↓o1_makeMap, ↓o1_binOp, ↓o1_unOp, ↓o1_convert, ↓o1_fieldAddr, ↓o1_field, ↓o1_indexAddr, ↓o1_extract, ↓o1_slice, ↓o1_len, ↓o1_max, ↓o1_min, ↓o1_load, ↓o1_lookup, ↓o1_store, ↓o1_mapUpdate, ↓o1_append, ↓o1_delete, ↓o1_call, encV2, q1, e]

end Go.Am

open Go Go.Am Go.Proofs
namespace Go.Am
set_option linter.unusedSimpArgs false

theorem intValidY (z : Int) (hl : Sz z) : Spec Try.prog 72 [encZ z] (.b true) := by
  have h := intValid (decide (z < 0)) (digs z.natAbs) (Nat.le_trans hl (by decide))
  have e : vI (decide (z < 0)) (digs z.natAbs) = true := by
    by_cases h0 : z = 0
    · subst h0
      rw [Int.natAbs_zero, digs]; rfl
    · exact vI_digs h0
  have h2 : Spec Try.prog 72 [encZ z] (.b (vI (decide (z < 0)) (digs z.natAbs))) := h
  rw [e] at h2
  exact h2

structure VOk (cols : Nat) (A : List (List Int)) : Prop where
  len : ∀ v ∈ A, v.length = cols
  sz : ∀ v ∈ A, ∀ x ∈ v, Sz x
  rows : A.length ≤ 1000000
  cols : cols ≤ 1000000

set_option maxHeartbeats 8000000 in
set_option maxRecDepth 10000 in
theorem matValid {cols : Nat} {A : List (List Int)} (h : VOk cols A) : Spec Try.prog 91 [encMat A.length cols A] (.b true) := by
  refine spec_of (N := 46) follows_mixed Try.func91 rfl rfl rfl (by kernel_rfl) (by kernel_rfl) (by simp) ?_
  have hA := h.rows
  have hc := h.cols
  have n1 : ¬ (A.length : Int) < 0 := by omega
  have n2 : ¬ (cols : Int) < 0 := by omega
  have n3 : (((A.length : Int) != A.length) : Bool) = false := by simp
  simp (config := { maxSteps := 1000000 }) [-List.map_map, -List.mapM_map, ↓awp_skip, ↓awp_regionB, ↓awp_seq, ↓awp_block, ↓awp_exit, ↓awp_ret, ↓awp_label, ↓awp_scope, ↓awp_condB, ↓awp_loopB, ↓ow_nil', ↓ow_cons0, ↓ow_cons1, ↓o1_move, ↓o1_assign, ↓o1_pick, ↓o1_alloc, ↓o1_box, ↓o1_build, ↓o1_buildSlice, ↓o1_makeSlice, ↓o1_makeMap, ↓o1_binOp, ↓o1_unOp, ↓o1_convert, ↓o1_fieldAddr, ↓o1_field, ↓o1_indexAddr, ↓o1_extract, ↓o1_slice, ↓o1_len, ↓o1_max, ↓o1_min, ↓o1_load, ↓o1_lookup, ↓o1_store, ↓o1_mapUpdate, ↓o1_append, ↓o1_delete, ↓o1_call, encMat, n1, n2, n3]
  refine loopP_inv (fun i : Nat => i ≤ A.length) (fun i => StL [(1, .ptr 1 0), (24, .d (.sl (A.map fun v => [encV2 v]))), (25, .d (.i .i64 (A.length : Int))), (26, .d (.i .i64 (i : Int)))] none
    [.cells 62 [.d (.i .i64 (A.length : Int)), .d (.i .i64 (cols : Int)), .d (.sl (A.map fun v => [encV2 v]))]]) (fun i => A.length - i) 0 (Nat.zero_le _) ?_ ?_
  · refine wk_l [1] (by simp) ?_ ?_ <;> simp [-List.map_map, upd, inj1, Γ0, ]
  · intro i hi
    by_cases hgo : i < A.length
    · have q1 : (i : Int) < A.length := by omega
      have hx : A[i]? = some A[i] := List.getElem?_eq_getElem hgo
      have hxl := h.len _ (List.getElem_mem hgo)
      have hxz := h.sz _ (List.getElem_mem hgo)
      have hw : IntKind.i64.wrap ((i : Int) + 1) = (i : Int) + 1 := wrap_i64 (by omega) (by omega)
      generalize A[i] = v at *
      have n4 : (((v.length : Int) != (cols : Int)) : Bool) = false := by simp; omega
      simp (config := { maxSteps := 1000000 }) [-List.map_map, -List.mapM_map, ↓awp_skip, ↓awp_regionB, ↓awp_seq, ↓awp_block, ↓awp_exit, ↓awp_ret, ↓awp_label, ↓awp_scope, ↓awp_condB, ↓awp_loopB, ↓ow_nil', ↓ow_cons0, ↓ow_cons1, ↓o1_move, ↓o1_assign, ↓o1_pick, ↓o1_alloc, ↓o1_box, ↓o1_build, ↓o1_buildSlice, ↓o1_makeSlice, ↓o1_makeMap, ↓o1_binOp, ↓o1_unOp, ↓o1_convert, ↓o1_fieldAddr, ↓o1_field, ↓o1_indexAddr, ↓o1_extract, ↓o1_slice, ↓o1_len, ↓o1_max, ↓o1_min, ↓o1_load, ↓o1_lookup, ↓o1_store, ↓o1_mapUpdate, ↓o1_append, ↓o1_delete, ↓o1_call, q1, hx, encV2, n4]
      refine loopP_inv (fun j : Nat => j ≤ v.length) (fun j => StL [(1, .ptr 1 0), (24, .d (.sl (A.map fun v => [encV2 v]))), (25, .d (.i .i64 (A.length : Int))), (26, .d (.i .i64 (i : Int))), (35, .d (encV2 v)), (36, .d (.i .i64 (v.length : Int))), (37, .d (.i .i64 (j : Int)))] none
        [.cells 62 [.d (.i .i64 (A.length : Int)), .d (.i .i64 (cols : Int)), .d (.sl (A.map fun v => [encV2 v]))]]) (fun j => v.length - j) 0 (Nat.zero_le _) ?_ ?_
      · refine wk_l [1] (by simp) ?_ ?_ <;> simp [-List.map_map, upd, inj1, Γ0, encV2]
      · intro j hj
        by_cases hgj : j < v.length
        · have q2 : (j : Int) < v.length := by omega
          have hy : v[j]? = some v[j] := List.getElem?_eq_getElem hgj
          have hz := hxz _ (List.getElem_mem hgj)
          have hw2 : IntKind.i64.wrap ((j : Int) + 1) = (j : Int) + 1 := wrap_i64 (by omega) (by omega)
          generalize v[j] = z at *
          have hS := intValidY z hz
          simp (config := { maxSteps := 1000000 }) [-List.map_map, -List.mapM_map, ↓awp_skip, ↓awp_regionB, ↓awp_seq, ↓awp_block, ↓awp_exit, ↓awp_ret, ↓awp_label, ↓awp_scope, ↓awp_condB, ↓awp_loopB, ↓ow_nil', ↓ow_cons0, ↓ow_cons1, ↓o1_move, ↓o1_assign, ↓o1_pick, ↓o1_alloc, ↓o1_box, ↓o1_build, ↓o1_buildSlice, ↓o1_makeSlice, ↓o1_makeMap, ↓o1_binOp, ↓o1_unOp, ↓o1_convert, ↓o1_fieldAddr, ↓o1_field, ↓o1_indexAddr, ↓o1_extract, ↓o1_slice, ↓o1_len, ↓o1_max, ↓o1_min, ↓o1_load, ↓o1_lookup, ↓o1_store, ↓o1_mapUpdate, ↓o1_append, ↓o1_delete, ↓o1_call, q2, hy, encV2, encN_eq, cellsA_encM, one_encM, inj1_encM]
          refine callP_intro (ds := [encZ z]) (by rfl) hS ?_
          simp (config := { maxSteps := 1000000 }) [-List.map_map, -List.mapM_map, ↓awp_skip, ↓awp_regionB, ↓awp_seq, ↓awp_block, ↓awp_exit, ↓awp_ret, ↓awp_label, ↓awp_scope, ↓awp_condB, ↓awp_loopB, ↓ow_nil', ↓ow_cons0, ↓ow_cons1, ↓o1_move, ↓o1_assign, ↓o1_pick, ↓o1_alloc, ↓o1_box, ↓o1_build, ↓o1_buildSlice, ↓o1_makeSlice, ↓o1_makeMap, ↓o1_binOp, ↓o1_unOp, ↓o1_convert, ↓o1_fieldAddr, ↓o1_field, ↓o1_indexAddr, ↓o1_extract, ↓o1_slice, ↓o1_len, ↓o1_max, ↓o1_min, ↓o1_load, ↓o1_lookup, ↓o1_store, ↓o1_mapUpdate, ↓o1_append, ↓o1_delete, ↓o1_call, hw2]
          refine nxt_intro (j + 1) hgj (Nat.sub_lt_sub_left hgj (Nat.lt_succ_self _)) (wk_l [1] (by simp) ?_ ?_) <;> simp [-List.map_map, upd, inj1, Γ0, encV2]
        · have q2 : ¬ (j : Int) < v.length := by omega
          simp (config := { maxSteps := 1000000 }) [-List.map_map, -List.mapM_map, ↓awp_skip, ↓awp_regionB, ↓awp_seq, ↓awp_block, ↓awp_exit, ↓awp_ret, ↓awp_label, ↓awp_scope, ↓awp_condB, ↓awp_loopB, ↓ow_nil', ↓ow_cons0, ↓ow_cons1, ↓o1_move, ↓o1_assign, ↓o1_pick, ↓o1_alloc, ↓o1_box, ↓o1_build, ↓o1_buildSlice, ↓o1_makeSlice, ↓o1_makeMap, ↓o1_binOp, ↓o1_unOp, ↓o1_convert, ↓o1_fieldAddr, ↓o1_field, ↓o1_indexAddr, ↓o1_extract, ↓o1_slice, ↓o1_len, ↓o1_max, ↓o1_min, ↓o1_load, ↓o1_lookup, ↓o1_store, ↓o1_mapUpdate, ↓o1_append, ↓o1_delete, ↓o1_call, q2, hw, encV2]
          refine nxt_intro (i + 1) hgo (Nat.sub_lt_sub_left hgo (Nat.lt_succ_self _)) (wk_l [1] (by simp) ?_ ?_) <;> simp [-List.map_map, upd, inj1, Γ0, encV2]
    · have q1 : ¬ (i : Int) < A.length := by omega
      simp (config := { maxSteps := 1000000 }) [-List.map_map, -List.mapM_map, ↓awp_skip, ↓awp_regionB, ↓awp_seq, ↓awp_block, ↓awp_exit, ↓awp_ret, ↓awp_label, ↓awp_scope, ↓awp_condB, ↓awp_loopB, ↓ow_nil', ↓ow_cons0, ↓ow_cons1, ↓o1_move, ↓o1_assign, ↓o1_pick, ↓o1_alloc, ↓o1_box, ↓o1_build, ↓o1_buildSlice, ↓o1_makeSlice, ↓o1_makeMap, ↓o1_binOp, ↓o1_unOp, ↓o1_convert, ↓o1_fieldAddr, ↓o1_field, ↓o1_indexAddr, ↓o1_extract, ↓o1_slice, ↓o1_len, ↓o1_max, ↓o1_min, ↓o1_load, ↓o1_lookup, ↓o1_store, ↓o1_mapUpdate, ↓o1_append, ↓o1_delete, ↓o1_call, q1]

end Go.Am

open Go Go.Am Go.Proofs
namespace Go.Am
set_option linter.unusedSimpArgs false

def fmS (cols : Int) (A : List (List Int)) (v : List Int) (i j m : Nat) (done : List D) : List (Int × Int) → St
  | [] => StL [(1, .ptr 1 0), (2, .ptr 2 0), (3, .ptr 4 0), (4, .d (.i .i64 (i : Int))), (21, .d (.sl (A.map fun v => [encV2 v]))), (22, .d (.i .i64 (A.length : Int))), (23, .d (.i .i64 (i : Int))), (28, .d (encV2 v)), (29, .d (.i .i64 (v.length : Int))), (30, .d (.i .i64 (j : Int)))] none
      [.cells 62 [.d (.i .i64 (A.length : Int)), .d (.i .i64 cols), .d (.sl (A.map fun v => [encV2 v]))], .cells 44 [.d (.i .i64 0), .d (.i .i64 0), .nil], .cells 45 (rowD done .nil m), .cells 44 [.d (.i .i64 (A.length : Int)), .d (.i .i64 cols), .own 3 0 A.length 1]]
  | p :: M => StL [(1, .ptr 1 0), (2, .ptr 2 0), (3, .ptr 4 0), (4, .d (.i .i64 (i : Int))), (21, .d (.sl (A.map fun v => [encV2 v]))), (22, .d (.i .i64 (A.length : Int))), (23, .d (.i .i64 (i : Int))), (28, .d (encV2 v)), (29, .d (.i .i64 (v.length : Int))), (30, .d (.i .i64 (j : Int)))] none
      [.cells 62 [.d (.i .i64 (A.length : Int)), .d (.i .i64 cols), .d (.sl (A.map fun v => [encV2 v]))], .cells 44 [.d (.i .i64 0), .d (.i .i64 0), .nil], .cells 45 (rowD done (.own 5 0 (M.length + 1) 3) m), .cells 44 [.d (.i .i64 (A.length : Int)), .d (.i .i64 cols), .own 3 0 A.length 1],
       .cells 109 ((fcs (p :: M)).map .d)]

set_option maxHeartbeats 16000000 in
set_option maxRecDepth 10000 in
theorem spFrom {cols : Nat} {A : List (List Int)} (h : VOk cols A) : Spec Try.prog 45 [encMat A.length cols A] (encSp A.length cols (A.map (rw0 0))) := by
  refine spec_of (N := 56) follows_mixed Try.func45 rfl rfl rfl (by kernel_rfl) (by kernel_rfl) (by simp) ?_
  have hA := h.rows
  have hc := h.cols
  have hm : 24 * (A.length : Int) ≤ 281474976710656 := by omega
  have hm2 : (A.length : Int) ≤ 9223372036854775807 := by omega
  simp (config := { maxSteps := 1000000 }) [-List.map_map, -List.mapM_map, ↓awp_skip, ↓awp_regionB, ↓awp_seq, ↓awp_block, ↓awp_exit, ↓awp_ret, ↓awp_label, ↓awp_scope, ↓awp_condB, ↓awp_loopB, ↓ow_nil', ↓ow_cons0, ↓ow_cons1, ↓o1_move, ↓o1_assign, ↓o1_pick, ↓o1_alloc, ↓o1_box, ↓o1_build, ↓o1_buildSlice, ↓o1_makeSlice, ↓o1_makeMap, ↓o1_binOp, ↓o1_unOp, ↓o1_convert, ↓o1_fieldAddr, ↓o1_field, ↓o1_indexAddr, ↓o1_extract, ↓o1_slice, ↓o1_len, ↓o1_max, ↓o1_min, ↓o1_load, ↓o1_lookup, ↓o1_store, ↓o1_mapUpdate, ↓o1_append, ↓o1_delete, ↓o1_call, encMat]
  refine callP_intro (ds := [encMat A.length cols A]) (by rfl) (matValid h) ?_
  simp (config := { maxSteps := 1000000 }) [-List.map_map, -List.mapM_map, ↓awp_skip, ↓awp_regionB, ↓awp_seq, ↓awp_block, ↓awp_exit, ↓awp_ret, ↓awp_label, ↓awp_scope, ↓awp_condB, ↓awp_loopB, ↓ow_nil', ↓ow_cons0, ↓ow_cons1, ↓o1_move, ↓o1_assign, ↓o1_pick, ↓o1_alloc, ↓o1_box, ↓o1_build, ↓o1_buildSlice, ↓o1_makeSlice, ↓o1_makeMap, ↓o1_binOp, ↓o1_unOp, ↓o1_convert, ↓o1_fieldAddr, ↓o1_field, ↓o1_indexAddr, ↓o1_extract, ↓o1_slice, ↓o1_len, ↓o1_max, ↓o1_min, ↓o1_load, ↓o1_lookup, ↓o1_store, ↓o1_mapUpdate, ↓o1_append, ↓o1_delete, ↓o1_call, hm, hm2, le_maxLen]
  refine loopP_inv (fun i : Nat => i ≤ A.length) (fun i => StL [(1, .ptr 1 0), (2, .ptr 2 0), (3, .ptr 4 0), (21, .d (.sl (A.map fun v => [encV2 v]))), (22, .d (.i .i64 (A.length : Int))), (23, .d (.i .i64 (i : Int)))] none
      [.cells 62 [.d (.i .i64 (A.length : Int)), .d (.i .i64 (cols : Int)), .d (.sl (A.map fun v => [encV2 v]))], .cells 44 [.d (.i .i64 0), .d (.i .i64 0), .nil], .cells 45 (rowE (rcs ((A.map (rw0 0)).take i)) (A.length - i)), .cells 44 [.d (.i .i64 (A.length : Int)), .d (.i .i64 (cols : Int)), .own 3 0 A.length 1]]) (fun i => A.length - i) 0 (Nat.zero_le _) ?_ ?_
  · refine wk_l [1, 2, 3, 4] (by simp) ?_ ?_
    · simp [-List.map_map, upd, inj1, Γ0, ]
    · simp [-List.map_map, upd, inj1, Γ0, subL_own_iff3]
      exact cellsOk_rep _
  · intro i hi
    by_cases hgi : i < A.length
    · have hx : A[i]? = some A[i] := List.getElem?_eq_getElem hgi
      have q1 : (i : Int) < A.length := by omega
      have hvl := h.len _ (List.getElem_mem hgi)
      have hvz := h.sz _ (List.getElem_mem hgi)
      have hw : IntKind.i64.wrap ((i : Int) + 1) = (i : Int) + 1 := wrap_i64 (by omega) (by omega)
      have hd : (rcs ((A.map (rw0 0)).take i)).length = i := by rw [rcs_len, List.length_take, List.length_map]; exact Nat.min_eq_left hi
      have htk : rcs ((A.map (rw0 0)).take (i + 1)) = rcs ((A.map (rw0 0)).take i) ++ [encC (rw0 0 A[i])] := by rw [List.take_add_one, List.getElem?_map, hx]; exact rcs_snoc _ _
      have hst : rowE (rcs ((A.map (rw0 0)).take i)) (A.length - i) = rowD (rcs ((A.map (rw0 0)).take i)) .nil (A.length - (i + 1)) := by rw [show A.length - i = (A.length - (i + 1)) + 1 by omega]; rfl
      have hmm : i + (A.length - (i + 1) + 1) = A.length := by omega
      rw [hst]
      have hend : ∀ (H H' : Nat → Option HO) (ρ : Nat → Nat) (c : AV), SubL H H' ρ c (.d (encC (rw0 0 A[i]))) → cellsOk H H' ρ (rowD (rcs ((A.map (rw0 0)).take i)) c (A.length - (i + 1))) (rowE (rcs ((A.map (rw0 0)).take (i + 1))) (A.length - (i + 1))) := fun H H' ρ c h => by
        rw [htk, ← rowD_d]
        exact cellsOk_rowD.2 h
      generalize rcs ((A.map (rw0 0)).take i) = done at *
      generalize hmd : A.length - (i + 1) = m at *
      generalize A[i] = v at *
      simp (config := { maxSteps := 1000000 }) [-List.map_map, -List.mapM_map, ↓awp_skip, ↓awp_regionB, ↓awp_seq, ↓awp_block, ↓awp_exit, ↓awp_ret, ↓awp_label, ↓awp_scope, ↓awp_condB, ↓awp_loopB, ↓ow_nil', ↓ow_cons0, ↓ow_cons1, ↓o1_move, ↓o1_assign, ↓o1_pick, ↓o1_alloc, ↓o1_box, ↓o1_build, ↓o1_buildSlice, ↓o1_makeSlice, ↓o1_makeMap, ↓o1_binOp, ↓o1_unOp, ↓o1_convert, ↓o1_fieldAddr, ↓o1_field, ↓o1_indexAddr, ↓o1_extract, ↓o1_slice, ↓o1_len, ↓o1_max, ↓o1_min, ↓o1_load, ↓o1_lookup, ↓o1_store, ↓o1_mapUpdate, ↓o1_append, ↓o1_delete, ↓o1_call, q1, hx, encV2]
      refine loopP_inv (fun j : Nat => j ≤ v.length) (fun j => fmS cols A v i j m done (rw0 0 (v.take j))) (fun j => v.length - j) 0 (Nat.zero_le _) ?_ ?_
      · rw [show rw0 0 (v.take 0) = [] from rfl, fmS]
        refine wk_l [1, 2, 3, 4] (by simp) ?_ ?_ <;> simp [-List.map_map, upd, inj1, Γ0, encV2, cellsOk_rowD, subL_own_iff3]
      · intro j hj
        by_cases hgj : j < v.length
        · have q2 : (j : Int) < v.length := by omega
          have hy : v[j]? = some v[j] := List.getElem?_eq_getElem hgj
          have hz := hvz _ (List.getElem_mem hgj)
          have hw2 : IntKind.i64.wrap ((j : Int) + 1) = (j : Int) + 1 := wrap_i64 (by omega) (by omega)
          have htk2 : rw0 0 (v.take (j + 1)) = rw0 0 (v.take j) ++ if v[j] = 0 then [] else [((j : Int), v[j])] := by
            rw [List.take_add_one, hy]
            simp only [Option.toList]
            rw [rw0_snoc]
            simp [Nat.min_eq_left hj]
          have hln : (rw0 0 (v.take j)).length ≤ j := Nat.le_trans (rw0_len _ _) (by simp; omega)
          generalize rw0 0 (v.take j) = M0 at *
          generalize v[j] = z at *
          have hS := intSignZ z hz
          have hO := ownSpec z (Nat.le_trans hz (by decide))
          have hs0 : z = 0 → z.sign = 0 := fun h => by rw [h]; rfl
          have hs1 : ¬ z = 0 → (z.sign != 0) = true := fun h => by
            have : z.sign ≠ 0 := fun e => h (Int.sign_eq_zero_iff_zero.1 e)
            simpa using this
          rcases M0 with _ | ⟨p, M⟩
          · have hbb : True := trivial
            have hgt := rowD_get (x := .nil) (m := m) hd
            have hly := fun y => rowD_lay (x := .nil) (y := y) (m := m) hd
            simp only [fmS]
            simp (config := { maxSteps := 1000000 }) [-List.map_map, -List.mapM_map, ↓awp_skip, ↓awp_regionB, ↓awp_seq, ↓awp_block, ↓awp_exit, ↓awp_ret, ↓awp_label, ↓awp_scope, ↓awp_condB, ↓awp_loopB, ↓ow_nil', ↓ow_cons0, ↓ow_cons1, ↓o1_move, ↓o1_assign, ↓o1_pick, ↓o1_alloc, ↓o1_box, ↓o1_build, ↓o1_buildSlice, ↓o1_makeSlice, ↓o1_makeMap, ↓o1_binOp, ↓o1_unOp, ↓o1_convert, ↓o1_fieldAddr, ↓o1_field, ↓o1_indexAddr, ↓o1_extract, ↓o1_slice, ↓o1_len, ↓o1_max, ↓o1_min, ↓o1_load, ↓o1_lookup, ↓o1_store, ↓o1_mapUpdate, ↓o1_append, ↓o1_delete, ↓o1_call, q2, hy, encV2, encN_eq, cellsA_encM, one_encM, inj1_encM, inj_encM, kills_encM]
            refine callP_intro (ds := [encZ z]) (by rfl) hS ?_
            by_cases h0 : z = 0
            · rw [hs0 h0]
              rw [if_pos h0, List.append_nil] at htk2
              simp (config := { maxSteps := 1000000 }) [-List.map_map, -List.mapM_map, ↓awp_skip, ↓awp_regionB, ↓awp_seq, ↓awp_block, ↓awp_exit, ↓awp_ret, ↓awp_label, ↓awp_scope, ↓awp_condB, ↓awp_loopB, ↓ow_nil', ↓ow_cons0, ↓ow_cons1, ↓o1_move, ↓o1_assign, ↓o1_pick, ↓o1_alloc, ↓o1_box, ↓o1_build, ↓o1_buildSlice, ↓o1_makeSlice, ↓o1_makeMap, ↓o1_binOp, ↓o1_unOp, ↓o1_convert, ↓o1_fieldAddr, ↓o1_field, ↓o1_indexAddr, ↓o1_extract, ↓o1_slice, ↓o1_len, ↓o1_max, ↓o1_min, ↓o1_load, ↓o1_lookup, ↓o1_store, ↓o1_mapUpdate, ↓o1_append, ↓o1_delete, ↓o1_call, hw2]
              refine nxt_intro (j + 1) hgj (Nat.sub_lt_sub_left hgj (Nat.lt_succ_self _)) ?_
              simp only [htk2, fmS]
              refine wk_l [1, 2, 3, 4] (by simp) ?_ ?_ <;> simp [-List.map_map, upd, inj1, Γ0, encV2, cellsOk_rowD, subL_own_iff3]
            · have hs2 := hs1 h0
              rw [if_neg h0] at htk2
              generalize z.sign = sn at *
              simp (config := { maxSteps := 1000000 }) [-List.map_map, -List.mapM_map, ↓awp_skip, ↓awp_regionB, ↓awp_seq, ↓awp_block, ↓awp_exit, ↓awp_ret, ↓awp_label, ↓awp_scope, ↓awp_condB, ↓awp_loopB, ↓ow_nil', ↓ow_cons0, ↓ow_cons1, ↓o1_move, ↓o1_assign, ↓o1_pick, ↓o1_alloc, ↓o1_box, ↓o1_build, ↓o1_buildSlice, ↓o1_makeSlice, ↓o1_makeMap, ↓o1_binOp, ↓o1_unOp, ↓o1_convert, ↓o1_fieldAddr, ↓o1_field, ↓o1_indexAddr, ↓o1_extract, ↓o1_slice, ↓o1_len, ↓o1_max, ↓o1_min, ↓o1_load, ↓o1_lookup, ↓o1_store, ↓o1_mapUpdate, ↓o1_append, ↓o1_delete, ↓o1_call, hs2, encV2, hgt, hgi, cellsA_encM, one_encM, inj1_encM, inj_encM, kills_encM]
              refine callP_intro (ds := [encZ z]) (by rfl) hO ?_
              rw [encZ_eq]
              simp (config := { maxSteps := 1000000 }) [-List.map_map, -List.mapM_map, ↓awp_skip, ↓awp_regionB, ↓awp_seq, ↓awp_block, ↓awp_exit, ↓awp_ret, ↓awp_label, ↓awp_scope, ↓awp_condB, ↓awp_loopB, ↓ow_nil', ↓ow_cons0, ↓ow_cons1, ↓o1_move, ↓o1_assign, ↓o1_pick, ↓o1_alloc, ↓o1_box, ↓o1_build, ↓o1_buildSlice, ↓o1_makeSlice, ↓o1_makeMap, ↓o1_binOp, ↓o1_unOp, ↓o1_convert, ↓o1_fieldAddr, ↓o1_field, ↓o1_indexAddr, ↓o1_extract, ↓o1_slice, ↓o1_len, ↓o1_max, ↓o1_min, ↓o1_load, ↓o1_lookup, ↓o1_store, ↓o1_mapUpdate, ↓o1_append, ↓o1_delete, ↓o1_call, hw2, hd, hbb, le_maxLen, rowD_len, hly, rowD_scrub, hgi, cellsA_encM, one_encM, inj1_encM, inj_encM, kills_encM]
              refine nxt_intro (j + 1) hgj (Nat.sub_lt_sub_left hgj (Nat.lt_succ_self _)) ?_
              simp only [htk2, fmS, List.nil_append]
              refine wk_l [1, 2, 3, 4, 7] (by simp) ?_ ?_ <;> simp [-List.map_map, upd, inj1, Γ0, encV2, rowD_scrub, cellsOk_rowD, subL_own_iff3, fcs_one, fcs_nil]
          · have hfl := fcs_len (p :: M)
            rw [List.length_cons] at hfl hln
            have hbb : (M.length + 1 + 1) * 40 ≤ 140737488355328 ∧ M.length + 1 + 1 ≤ 1099511627776 := ⟨by omega, by omega⟩
            have e1 : fcs (p :: (M ++ [((j : Int), z)])) = fcs (p :: M) ++ fcs [((j : Int), z)] := fcs_app (p :: M) _
            have hgt := rowD_get (x := .own 5 0 (M.length + 1) 3) (m := m) hd
            have hly := fun y => rowD_lay (x := .own 5 0 (M.length + 1) 3) (y := y) (m := m) hd
            simp only [fmS]
            generalize hFM : fcs (p :: M) = FM at *
            simp (config := { maxSteps := 1000000 }) [-List.map_map, -List.mapM_map, ↓awp_skip, ↓awp_regionB, ↓awp_seq, ↓awp_block, ↓awp_exit, ↓awp_ret, ↓awp_label, ↓awp_scope, ↓awp_condB, ↓awp_loopB, ↓ow_nil', ↓ow_cons0, ↓ow_cons1, ↓o1_move, ↓o1_assign, ↓o1_pick, ↓o1_alloc, ↓o1_box, ↓o1_build, ↓o1_buildSlice, ↓o1_makeSlice, ↓o1_makeMap, ↓o1_binOp, ↓o1_unOp, ↓o1_convert, ↓o1_fieldAddr, ↓o1_field, ↓o1_indexAddr, ↓o1_extract, ↓o1_slice, ↓o1_len, ↓o1_max, ↓o1_min, ↓o1_load, ↓o1_lookup, ↓o1_store, ↓o1_mapUpdate, ↓o1_append, ↓o1_delete, ↓o1_call, q2, hy, encV2, encN_eq, cellsA_encM, one_encM, inj1_encM, inj_encM, kills_encM]
            refine callP_intro (ds := [encZ z]) (by rfl) hS ?_
            by_cases h0 : z = 0
            · rw [hs0 h0]
              rw [if_pos h0, List.append_nil] at htk2
              simp (config := { maxSteps := 1000000 }) [-List.map_map, -List.mapM_map, ↓awp_skip, ↓awp_regionB, ↓awp_seq, ↓awp_block, ↓awp_exit, ↓awp_ret, ↓awp_label, ↓awp_scope, ↓awp_condB, ↓awp_loopB, ↓ow_nil', ↓ow_cons0, ↓ow_cons1, ↓o1_move, ↓o1_assign, ↓o1_pick, ↓o1_alloc, ↓o1_box, ↓o1_build, ↓o1_buildSlice, ↓o1_makeSlice, ↓o1_makeMap, ↓o1_binOp, ↓o1_unOp, ↓o1_convert, ↓o1_fieldAddr, ↓o1_field, ↓o1_indexAddr, ↓o1_extract, ↓o1_slice, ↓o1_len, ↓o1_max, ↓o1_min, ↓o1_load, ↓o1_lookup, ↓o1_store, ↓o1_mapUpdate, ↓o1_append, ↓o1_delete, ↓o1_call, hw2]
              refine nxt_intro (j + 1) hgj (Nat.sub_lt_sub_left hgj (Nat.lt_succ_self _)) ?_
              simp only [htk2, fmS]
              refine wk_l [1, 2, 3, 4, 5] (by simp) ?_ ?_ <;> simp [-List.map_map, upd, inj1, Γ0, encV2, hFM, cellsOk_rowD, subL_own_iff3]
            · have hs2 := hs1 h0
              rw [if_neg h0] at htk2
              generalize z.sign = sn at *
              simp (config := { maxSteps := 1000000 }) [-List.map_map, -List.mapM_map, ↓awp_skip, ↓awp_regionB, ↓awp_seq, ↓awp_block, ↓awp_exit, ↓awp_ret, ↓awp_label, ↓awp_scope, ↓awp_condB, ↓awp_loopB, ↓ow_nil', ↓ow_cons0, ↓ow_cons1, ↓o1_move, ↓o1_assign, ↓o1_pick, ↓o1_alloc, ↓o1_box, ↓o1_build, ↓o1_buildSlice, ↓o1_makeSlice, ↓o1_makeMap, ↓o1_binOp, ↓o1_unOp, ↓o1_convert, ↓o1_fieldAddr, ↓o1_field, ↓o1_indexAddr, ↓o1_extract, ↓o1_slice, ↓o1_len, ↓o1_max, ↓o1_min, ↓o1_load, ↓o1_lookup, ↓o1_store, ↓o1_mapUpdate, ↓o1_append, ↓o1_delete, ↓o1_call, hs2, encV2, hgt, hgi, cellsA_encM, one_encM, inj1_encM, inj_encM, kills_encM]
              refine callP_intro (ds := [encZ z]) (by rfl) hO ?_
              rw [encZ_eq]
              simp (config := { maxSteps := 1000000 }) [-List.map_map, -List.mapM_map, ↓awp_skip, ↓awp_regionB, ↓awp_seq, ↓awp_block, ↓awp_exit, ↓awp_ret, ↓awp_label, ↓awp_scope, ↓awp_condB, ↓awp_loopB, ↓ow_nil', ↓ow_cons0, ↓ow_cons1, ↓o1_move, ↓o1_assign, ↓o1_pick, ↓o1_alloc, ↓o1_box, ↓o1_build, ↓o1_buildSlice, ↓o1_makeSlice, ↓o1_makeMap, ↓o1_binOp, ↓o1_unOp, ↓o1_convert, ↓o1_fieldAddr, ↓o1_field, ↓o1_indexAddr, ↓o1_extract, ↓o1_slice, ↓o1_len, ↓o1_max, ↓o1_min, ↓o1_load, ↓o1_lookup, ↓o1_store, ↓o1_mapUpdate, ↓o1_append, ↓o1_delete, ↓o1_call, hw2, hd, hbb, hfl, le_maxLen, rowD_len, hly, rowD_scrub, hgi, cellsA_encM, one_encM, inj1_encM, inj_encM, kills_encM]
              refine nxt_intro (j + 1) hgj (Nat.sub_lt_sub_left hgj (Nat.lt_succ_self _)) ?_
              simp only [htk2, fmS, List.nil_append, List.cons_append, e1]
              refine wk_l [1, 2, 3, 4, 8] (by simp) ?_ ?_ <;> simp [-List.map_map, upd, inj1, Γ0, encV2, rowD_scrub, cellsOk_rowD, subL_own_iff3, fcs_one, fcs_nil]
        · have q2 : ¬ (j : Int) < v.length := by omega
          have e : v.take j = v := List.take_of_length_le (by omega)
          rw [e]
          rcases hM0 : rw0 0 v with _ | ⟨p, M⟩
          · simp only [fmS]
            simp (config := { maxSteps := 1000000 }) [-List.map_map, -List.mapM_map, ↓awp_skip, ↓awp_regionB, ↓awp_seq, ↓awp_block, ↓awp_exit, ↓awp_ret, ↓awp_label, ↓awp_scope, ↓awp_condB, ↓awp_loopB, ↓ow_nil', ↓ow_cons0, ↓ow_cons1, ↓o1_move, ↓o1_assign, ↓o1_pick, ↓o1_alloc, ↓o1_box, ↓o1_build, ↓o1_buildSlice, ↓o1_makeSlice, ↓o1_makeMap, ↓o1_binOp, ↓o1_unOp, ↓o1_convert, ↓o1_fieldAddr, ↓o1_field, ↓o1_indexAddr, ↓o1_extract, ↓o1_slice, ↓o1_len, ↓o1_max, ↓o1_min, ↓o1_load, ↓o1_lookup, ↓o1_store, ↓o1_mapUpdate, ↓o1_append, ↓o1_delete, ↓o1_call, q2, hw, encV2]
            refine nxt_intro (i + 1) hgi (Nat.sub_lt_sub_left hgi (Nat.lt_succ_self _)) ?_
            refine wk_l [1, 2, 3, 4] (by simp) ?_ ?_
            · simp [-List.map_map, upd, inj1, Γ0, encV2]
            · simp [-List.map_map, upd, inj1, Γ0, hmd, subL_own_iff3]
              refine hend _ _ _ _ ?_
              rw [hM0]
              exact ⟨rfl, fun a ha => by simp [vis] at ha⟩
          · simp only [fmS]
            simp (config := { maxSteps := 1000000 }) [-List.map_map, -List.mapM_map, ↓awp_skip, ↓awp_regionB, ↓awp_seq, ↓awp_block, ↓awp_exit, ↓awp_ret, ↓awp_label, ↓awp_scope, ↓awp_condB, ↓awp_loopB, ↓ow_nil', ↓ow_cons0, ↓ow_cons1, ↓o1_move, ↓o1_assign, ↓o1_pick, ↓o1_alloc, ↓o1_box, ↓o1_build, ↓o1_buildSlice, ↓o1_makeSlice, ↓o1_makeMap, ↓o1_binOp, ↓o1_unOp, ↓o1_convert, ↓o1_fieldAddr, ↓o1_field, ↓o1_indexAddr, ↓o1_extract, ↓o1_slice, ↓o1_len, ↓o1_max, ↓o1_min, ↓o1_load, ↓o1_lookup, ↓o1_store, ↓o1_mapUpdate, ↓o1_append, ↓o1_delete, ↓o1_call, q2, hw, encV2]
            refine nxt_intro (i + 1) hgi (Nat.sub_lt_sub_left hgi (Nat.lt_succ_self _)) ?_
            refine wk_l [1, 2, 3, 4] (by simp) ?_ ?_
            · simp [-List.map_map, upd, inj1, Γ0, encV2]
            · simp [-List.map_map, upd, inj1, Γ0, hmd, subL_own_iff3]
              refine hend _ _ _ _ ?_
              rw [hM0]
              exact subL_read (frz_fcs (e := 109) (v := p :: M) (by rfl) rfl).1 (frz_fcs (e := 109) (v := p :: M) (by rfl) rfl).2 (rho_neF (rs := [1, 2, 3, 4]) (by decide) (by decide) (by simp))
    · have e : i = A.length := by omega
      have hL2 : (A.map (rw0 0)).take i = A.map (rw0 0) := List.take_of_length_le (by rw [List.length_map]; omega)
      have hfm : (rcs (A.map (rw0 0))).length = A.length := by rw [rcs_len, List.length_map]
      have hst : rowE (rcs ((A.map (rw0 0)).take i)) (A.length - i) = (rcs (A.map (rw0 0))).map .d := by rw [hL2, e, Nat.sub_self, rowE_zero]
      rw [hst]
      have q1 : ¬ (i : Int) < A.length := by omega
      have hM := rcs_chunk (A.map (rw0 0))
      generalize A.map (rw0 0) = S at *
      simp (config := { maxSteps := 1000000 }) [-List.map_map, -List.mapM_map, ↓awp_skip, ↓awp_regionB, ↓awp_seq, ↓awp_block, ↓awp_exit, ↓awp_ret, ↓awp_label, ↓awp_scope, ↓awp_condB, ↓awp_loopB, ↓ow_nil', ↓ow_cons0, ↓ow_cons1, ↓o1_move, ↓o1_assign, ↓o1_pick, ↓o1_alloc, ↓o1_box, ↓o1_build, ↓o1_buildSlice, ↓o1_makeSlice, ↓o1_makeMap, ↓o1_binOp, ↓o1_unOp, ↓o1_convert, ↓o1_fieldAddr, ↓o1_field, ↓o1_indexAddr, ↓o1_extract, ↓o1_slice, ↓o1_len, ↓o1_max, ↓o1_min, ↓o1_load, ↓o1_lookup, ↓o1_store, ↓o1_mapUpdate, ↓o1_append, ↓o1_delete, ↓o1_call, encSp, q1, hM, hfm]
      rw [List.take_of_length_le (by simp [hfm]), mapM_d _ 5 (rcs S)]
      simp [chunk_one _ _ hfm.symm]

end Go.Am

open Go Go.Am Go.Proofs
namespace Go.Am
set_option linter.unusedSimpArgs false

def lv (k : Int) (r : List (Int × Int)) : Int := r.foldl (fun acc x => if x.1 = k then x.2 else acc) 0
theorem lv_snoc (k : Int) (r : List (Int × Int)) (x : Int × Int) : lv k (r ++ [x]) = if x.1 = k then x.2 else lv k r := by simp [lv]
def fullR (r : List (Int × Int)) (n : Nat) : List Int := (List.range n).map fun (k : Nat) => lv k r
theorem fullR_succ (r : List (Int × Int)) (n : Nat) : fullR r (n + 1) = fullR r n ++ [lv n r] := by simp [fullR, List.range_succ]
theorem fullR_len (r : List (Int × Int)) (n : Nat) : (fullR r n).length = n := by simp [fullR]

set_option maxHeartbeats 8000000 in
set_option maxRecDepth 10000 in
theorem r06Full (r : List (Int × Int)) (n : Nat) (hl : r.length ≤ 4294967296) (hn : n ≤ 1000000) : Spec Try.prog 44 [encC r, .i .i64 (n : Int)] (encV2 (fullR r n)) := by
  refine spec_of (N := 39) follows_mixed Try.func44 rfl rfl rfl (by kernel_rfl) (by kernel_rfl) (by simp) ?_
  simp (config := { maxSteps := 1000000 }) [-List.map_map, -List.mapM_map, ↓awp_skip, ↓awp_regionB, ↓awp_seq, ↓awp_block, ↓awp_exit, ↓awp_ret, ↓awp_label, ↓awp_scope, ↓awp_condB, ↓awp_loopB, ↓ow_nil', ↓ow_cons0, ↓ow_cons1, ↓o1_move, ↓o1_assign, ↓o1_pick, ↓o1_alloc, ↓o1_box, ↓o1_build, ↓o1_buildSlice, ↓o1_makeSlice, ↓o1_makeMap, ↓o1_binOp, ↓o1_unOp, ↓o1_convert, ↓o1_fieldAddr, ↓o1_field, ↓o1_indexAddr, ↓o1_extract, ↓o1_slice, ↓o1_len, ↓o1_max, ↓o1_min, ↓o1_load, ↓o1_lookup, ↓o1_store, ↓o1_mapUpdate, ↓o1_append, ↓o1_delete, ↓o1_call, encC]
  refine loopP_inv (fun k : Nat => k ≤ n) (fun k => StL [(0, .d (encC r)), (1, .d (.i .i64 (n : Int))), (5, .own 1 0 k 2), (6, .d (.i .i64 (k : Int)))] none [.cells 32 ((vcs (fullR r k)).map .d)]) (fun k => n - k) 0 (Nat.zero_le _) ?_ ?_
  · refine wk_l [1] (by simp) ?_ ?_ <;> simp [-List.map_map, upd, inj1, Γ0, encC, fullR, vcs_nil]
  · intro k hk
    by_cases hgo : k < n
    · have q1 : (k : Int) < n := by omega
      have hw : IntKind.i64.wrap ((k : Int) + 1) = (k : Int) + 1 := wrap_i64 (by omega) (by omega)
      have hv := fullR_succ r k
      have hfl := vcs_len (fullR r k)
      rw [fullR_len] at hfl
      have hbb := app_bounds2 (n := k) (by omega)
      generalize fullR r k = out at *
      simp (config := { maxSteps := 1000000 }) [-List.map_map, -List.mapM_map, ↓awp_skip, ↓awp_regionB, ↓awp_seq, ↓awp_block, ↓awp_exit, ↓awp_ret, ↓awp_label, ↓awp_scope, ↓awp_condB, ↓awp_loopB, ↓ow_nil', ↓ow_cons0, ↓ow_cons1, ↓o1_move, ↓o1_assign, ↓o1_pick, ↓o1_alloc, ↓o1_box, ↓o1_build, ↓o1_buildSlice, ↓o1_makeSlice, ↓o1_makeMap, ↓o1_binOp, ↓o1_unOp, ↓o1_convert, ↓o1_fieldAddr, ↓o1_field, ↓o1_indexAddr, ↓o1_extract, ↓o1_slice, ↓o1_len, ↓o1_max, ↓o1_min, ↓o1_load, ↓o1_lookup, ↓o1_store, ↓o1_mapUpdate, ↓o1_append, ↓o1_delete, ↓o1_call, encC, q1]
      refine callP_intro (ds := []) (by rfl) r06zero ?_
      rw [encZ_eq]
      simp (config := { maxSteps := 1000000 }) [-List.map_map, -List.mapM_map, ↓awp_skip, ↓awp_regionB, ↓awp_seq, ↓awp_block, ↓awp_exit, ↓awp_ret, ↓awp_label, ↓awp_scope, ↓awp_condB, ↓awp_loopB, ↓ow_nil', ↓ow_cons0, ↓ow_cons1, ↓o1_move, ↓o1_assign, ↓o1_pick, ↓o1_alloc, ↓o1_box, ↓o1_build, ↓o1_buildSlice, ↓o1_makeSlice, ↓o1_makeMap, ↓o1_binOp, ↓o1_unOp, ↓o1_convert, ↓o1_fieldAddr, ↓o1_field, ↓o1_indexAddr, ↓o1_extract, ↓o1_slice, ↓o1_len, ↓o1_max, ↓o1_min, ↓o1_load, ↓o1_lookup, ↓o1_store, ↓o1_mapUpdate, ↓o1_append, ↓o1_delete, ↓o1_call, encC, cellsA_encM, one_encM, inj1_encM, inj_encM, kills_encM]
      refine loopP_inv (fun i : Nat => i ≤ r.length) (fun i => StL [(0, .d (encC r)), (1, .d (.i .i64 (n : Int))), (5, .own 1 0 k 2), (6, .d (.i .i64 (k : Int))), (7, .ptr 2 0), (8, .d (.i .i64 (i : Int)))] none
        [.cells 32 ((vcs out).map .d), .cells 32 [.d (.b (decide (lv k (r.take i) < 0))), .d (encM (digs (lv k (r.take i)).natAbs))]]) (fun i => r.length - i) 0 (Nat.zero_le _) ?_ ?_
      · refine wk_l [1, 2] (by simp) ?_ ?_ <;> simp [-List.map_map, upd, inj1, Γ0, encC, lv]
      · intro i hi
        by_cases hgi : i < r.length
        · have q2 : (i : Int) < r.length := by omega
          have hx : r[i]? = some r[i] := List.getElem?_eq_getElem hgi
          have hw2 : IntKind.i64.wrap ((i : Int) + 1) = (i : Int) + 1 := wrap_i64 (by omega) (by omega)
          have htk : lv k (r.take (i + 1)) = if r[i].1 = k then r[i].2 else lv k (r.take i) := by
            rw [List.take_add_one, hx]; exact lv_snoc _ _ _
          generalize lv k (r.take i) = z at *
          generalize r[i] = x at *
          obtain ⟨xc, xv⟩ := x
          by_cases h0 : xc = (k : Int)
          · subst h0
            rw [if_pos rfl] at htk
            have q3 : (((k : Int) == (k : Int)) : Bool) = true := by simp
            simp (config := { maxSteps := 1000000 }) [-List.map_map, -List.mapM_map, ↓awp_skip, ↓awp_regionB, ↓awp_seq, ↓awp_block, ↓awp_exit, ↓awp_ret, ↓awp_label, ↓awp_scope, ↓awp_condB, ↓awp_loopB, ↓ow_nil', ↓ow_cons0, ↓ow_cons1, ↓o1_move, ↓o1_assign, ↓o1_pick, ↓o1_alloc, ↓o1_box, ↓o1_build, ↓o1_buildSlice, ↓o1_makeSlice, ↓o1_makeMap, ↓o1_binOp, ↓o1_unOp, ↓o1_convert, ↓o1_fieldAddr, ↓o1_field, ↓o1_indexAddr, ↓o1_extract, ↓o1_slice, ↓o1_len, ↓o1_max, ↓o1_min, ↓o1_load, ↓o1_lookup, ↓o1_store, ↓o1_mapUpdate, ↓o1_append, ↓o1_delete, ↓o1_call, encC, encF_eq, q2, hx, q3, hw2, cellsA_encM, one_encM, inj1_encM, inj_encM]
            refine nxt_intro (i + 1) hgi (Nat.sub_lt_sub_left hgi (Nat.lt_succ_self _)) (wk_l [1, 2] (by simp) ?_ ?_) <;> simp [-List.map_map, upd, inj1, Γ0, encC, htk]
          · rw [if_neg h0] at htk
            have q3 : ((xc == (k : Int)) : Bool) = false := by simpa using h0
            simp (config := { maxSteps := 1000000 }) [-List.map_map, -List.mapM_map, ↓awp_skip, ↓awp_regionB, ↓awp_seq, ↓awp_block, ↓awp_exit, ↓awp_ret, ↓awp_label, ↓awp_scope, ↓awp_condB, ↓awp_loopB, ↓ow_nil', ↓ow_cons0, ↓ow_cons1, ↓o1_move, ↓o1_assign, ↓o1_pick, ↓o1_alloc, ↓o1_box, ↓o1_build, ↓o1_buildSlice, ↓o1_makeSlice, ↓o1_makeMap, ↓o1_binOp, ↓o1_unOp, ↓o1_convert, ↓o1_fieldAddr, ↓o1_field, ↓o1_indexAddr, ↓o1_extract, ↓o1_slice, ↓o1_len, ↓o1_max, ↓o1_min, ↓o1_load, ↓o1_lookup, ↓o1_store, ↓o1_mapUpdate, ↓o1_append, ↓o1_delete, ↓o1_call, encC, encF_eq, q2, hx, q3, h0, hw2, cellsA_encM, one_encM, inj1_encM, inj_encM]
            refine nxt_intro (i + 1) hgi (Nat.sub_lt_sub_left hgi (Nat.lt_succ_self _)) (wk_l [1, 2] (by simp) ?_ ?_) <;> simp [-List.map_map, upd, inj1, Γ0, encC, htk]
        · have q2 : ¬ (i : Int) < r.length := by omega
          rw [List.take_of_length_le (by omega)]
          generalize lv k r = z at *
          simp (config := { maxSteps := 1000000 }) [-List.map_map, -List.mapM_map, ↓awp_skip, ↓awp_regionB, ↓awp_seq, ↓awp_block, ↓awp_exit, ↓awp_ret, ↓awp_label, ↓awp_scope, ↓awp_condB, ↓awp_loopB, ↓ow_nil', ↓ow_cons0, ↓ow_cons1, ↓o1_move, ↓o1_assign, ↓o1_pick, ↓o1_alloc, ↓o1_box, ↓o1_build, ↓o1_buildSlice, ↓o1_makeSlice, ↓o1_makeMap, ↓o1_binOp, ↓o1_unOp, ↓o1_convert, ↓o1_fieldAddr, ↓o1_field, ↓o1_indexAddr, ↓o1_extract, ↓o1_slice, ↓o1_len, ↓o1_max, ↓o1_min, ↓o1_load, ↓o1_lookup, ↓o1_store, ↓o1_mapUpdate, ↓o1_append, ↓o1_delete, ↓o1_call, encC, q2, hw, hbb, hfl, le_maxLen, cellsA_encM, one_encM, inj1_encM, inj_encM]
          refine nxt_intro (k + 1) hgo (Nat.sub_lt_sub_left hgo (Nat.lt_succ_self _)) (wk_l [4] (by simp) ?_ ?_) <;> simp [-List.map_map, upd, inj1, Γ0, encC, hv, vcs_app, vcs_one]
    · have e : k = n := by omega
      subst e
      have q1 : ¬ (k : Int) < k := by omega
      have hfl := vcs_len (fullR r k)
      have hvl := fullR_len r k
      rw [hvl] at hfl
      generalize fullR r k = out at *
      simp (config := { maxSteps := 1000000 }) [-List.map_map, -List.mapM_map, ↓awp_skip, ↓awp_regionB, ↓awp_seq, ↓awp_block, ↓awp_exit, ↓awp_ret, ↓awp_label, ↓awp_scope, ↓awp_condB, ↓awp_loopB, ↓ow_nil', ↓ow_cons0, ↓ow_cons1, ↓o1_move, ↓o1_assign, ↓o1_pick, ↓o1_alloc, ↓o1_box, ↓o1_build, ↓o1_buildSlice, ↓o1_makeSlice, ↓o1_makeMap, ↓o1_binOp, ↓o1_unOp, ↓o1_convert, ↓o1_fieldAddr, ↓o1_field, ↓o1_indexAddr, ↓o1_extract, ↓o1_slice, ↓o1_len, ↓o1_max, ↓o1_min, ↓o1_load, ↓o1_lookup, ↓o1_store, ↓o1_mapUpdate, ↓o1_append, ↓o1_delete, ↓o1_call, encV2, q1, hfl, chunk_vcs hvl, vcs_take_all hvl]

end Go.Am

open Go Go.Am Go.Proofs
namespace Go.Am
set_option linter.unusedSimpArgs false

def addAt (r : List Int) (k : Nat) (z : Int) : List Int := r.set k (r.getD k 0 + z)
theorem addAt_len (r : List Int) (k : Nat) (z : Int) : (addAt r k z).length = r.length := by simp [addAt]
def tmI (z : Int) (row : List (Int × Int)) (r : List Int) : List Int := row.foldl (fun r x => addAt r x.1.toNat (z * x.2)) r
theorem tmI_snoc (z : Int) (row : List (Int × Int)) (x : Int × Int) (r : List Int) : tmI z (row ++ [x]) r = addAt (tmI z row r) x.1.toNat (z * x.2) := by simp [tmI]
theorem vcs_cons (z : Int) (v : List Int) : vcs (z :: v) = encN z ++ vcs v := by simp [vcs]
theorem vcs_get2 : ∀ {v : List Int} {k : Nat} {z : Int}, v[k]? = some z → ((vcs v).drop (k * 2)).take 2 = encN z
  | [], k, z, h => by simp at h
  | y :: v, 0, z, h => by
    simp at h; subst h
    rw [vcs_cons]; rfl
  | y :: v, k + 1, z, h => by
    have ih := vcs_get2 (v := v) (k := k) (z := z) (by simpa using h)
    rw [vcs_cons, show (k + 1) * 2 = k * 2 + 2 by omega, ← ih]
    rw [Nat.add_comm, ← List.drop_drop]
    rfl
theorem vcs_set : ∀ {v : List Int} {k : Nat} (z : Int), k < v.length → (vcs v).take (k * 2) ++ encN z ++ (vcs v).drop (k * 2 + 2) = vcs (v.set k z)
  | [], k, z, h => by simp at h
  | y :: v, 0, z, h => by
    rw [List.set_cons_zero, vcs_cons, vcs_cons]; rfl
  | y :: v, k + 1, z, h => by
    have ih := vcs_set (v := v) (k := k) z (by simpa using h)
    rw [List.set_cons_succ, vcs_cons, vcs_cons, ← ih, show (k + 1) * 2 = 2 + k * 2 by omega, show 2 + k * 2 + 2 = 2 + (k * 2 + 2) by omega]
    have e1 : ∀ n, List.take (2 + n) (encN y ++ vcs v) = encN y ++ List.take n (vcs v) := fun n => by rw [List.take_append, List.take_of_length_le (by show 2 ≤ 2 + n; omega)]; congr 2; show 2 + n - 2 = n; omega
    have e2 : ∀ n, List.drop (2 + n) (encN y ++ vcs v) = List.drop n (vcs v) := fun n => by rw [← List.drop_drop]; rfl
    rw [e1, e2]; simp

def Bd (b : Nat) (r : List Int) : Prop := ∀ x ∈ r, x.natAbs ≤ b
def tiO (z : List (Int × List (Int × Int))) (r : List Int) : List Int := z.foldl (fun r p => tmI p.1 p.2 r) r
theorem tiO_snoc (z : List (Int × List (Int × Int))) (p : Int × List (Int × Int)) (r : List Int) : tiO (z ++ [p]) r = tmI p.1 p.2 (tiO z r) := by simp [tiO]
theorem addAt_bd {r : List Int} {k b B : Nat} {z : Int} (h : Bd b r) (hz : z.natAbs ≤ B) : Bd (b + B) (addAt r k z) := fun x hx => by
  unfold addAt at hx
  rcases List.mem_or_eq_of_mem_set hx with h1 | rfl
  · have := h x h1; omega
  · have : (r.getD k 0).natAbs ≤ b := by
      rw [List.getD_eq_getElem?_getD]
      cases hk : r[k]? with
      | none => simp
      | some y => exact h y (List.mem_of_getElem? hk)
    omega

set_option maxHeartbeats 16000000 in
set_option maxRecDepth 10000 in
theorem spTimes {c : Nat} {L : List (List (Int × Int))} (h : MOk c L) (v : List Int) (hc : c ≤ 1000) (hL : L.length ≤ 1000) (hvl : v.length = L.length) (hvb : Bd 1000000 v) (hLb : ∀ r ∈ L, r.length ≤ 1000 ∧ ∀ x ∈ r, x.2.natAbs ≤ 1000000) :
    Spec Try.prog 43 [encV2 v, encSp L.length c L] (.tp [encV2 (tiO (v.zip L) (List.replicate c 0)), .i .i64 0]) := by
  refine spec_of_d (N := 58) follows_mixed Try.func43 rfl rfl rfl (by kernel_rfl) (by kernel_rfl) (by kernel_rfl) (by kernel_rfl) rfl rec90 (by simp) ?_
  have hV := spValidZ h
  have hne : (((v.length : Int) != L.length) : Bool) = false := by simp; omega
  have hm : 32 * (c : Int) ≤ 281474976710656 := by omega
  have hm2 : (c : Int) ≤ 9223372036854775807 := by omega
  simp (config := { maxSteps := 1000000 }) [-List.map_map, -List.mapM_map, ↓awp_skip, ↓awp_regionB, ↓awp_seq, ↓awp_block, ↓awp_exit, ↓awp_ret, ↓awp_label, ↓awp_scope, ↓awp_condB, ↓awp_loopB, ↓ow_nil', ↓ow_cons0, ↓ow_cons1, ↓o1_move, ↓o1_assign, ↓o1_pick, ↓o1_alloc, ↓o1_box, ↓o1_build, ↓o1_buildSlice, ↓o1_makeSlice, ↓o1_makeMap, ↓o1_binOp, ↓o1_unOp, ↓o1_convert, ↓o1_fieldAddr, ↓o1_field, ↓o1_indexAddr, ↓o1_extract, ↓o1_slice, ↓o1_len, ↓o1_max, ↓o1_min, ↓o1_load, ↓o1_lookup, ↓o1_store, ↓o1_mapUpdate, ↓o1_append, ↓o1_delete, ↓o1_call, encSp, encV2]
  refine callP_intro (ds := [encSp L.length c L]) (by rfl) hV ?_
  simp (config := { maxSteps := 1000000 }) [-List.map_map, -List.mapM_map, ↓awp_skip, ↓awp_regionB, ↓awp_seq, ↓awp_block, ↓awp_exit, ↓awp_ret, ↓awp_label, ↓awp_scope, ↓awp_condB, ↓awp_loopB, ↓ow_nil', ↓ow_cons0, ↓ow_cons1, ↓o1_move, ↓o1_assign, ↓o1_pick, ↓o1_alloc, ↓o1_box, ↓o1_build, ↓o1_buildSlice, ↓o1_makeSlice, ↓o1_makeMap, ↓o1_binOp, ↓o1_unOp, ↓o1_convert, ↓o1_fieldAddr, ↓o1_field, ↓o1_indexAddr, ↓o1_extract, ↓o1_slice, ↓o1_len, ↓o1_max, ↓o1_min, ↓o1_load, ↓o1_lookup, ↓o1_store, ↓o1_mapUpdate, ↓o1_append, ↓o1_delete, ↓o1_call, hne, hm, hm2, le_maxLen]
  have hrep : ∀ H H' ρ, cellsOk H H' ρ (List.replicate c [AV.d (D.b false), AV.nil]).flatten ((vcs (List.replicate c 0)).map .d) := by
    intro H H' ρ
    clear h hm hm2 hc hV
    induction c with
    | zero => trivial
    | succ c ih =>
      rw [List.replicate_succ, List.replicate_succ, List.flatten_cons, vcs_cons]
      refine ⟨?_, ?_, ih⟩
      · simp [-List.map_map, upd, inj1, Γ0, ]
      · exact ⟨by rw [show ((0 : Int).natAbs) = 0 from rfl, digs_zero]; rfl, fun a ha => by simp [vis] at ha⟩
  have hz0 : (v.zip L).length = L.length := by rw [List.length_zip]; omega
  have hst0 : Bd 0 (List.replicate c 0) := fun x hx => by rw [List.eq_of_mem_replicate hx]; decide
  refine loopP_inv (fun i : Nat => i ≤ L.length ∧ (tiO ((v.zip L).take i) (List.replicate c 0)).length = c ∧ Bd (i * 1000000000000000) (tiO ((v.zip L).take i) (List.replicate c 0))) (fun i => StL [(0, .d (encV2 v)), (3, .ptr 1 0), (5, .d (.i .i64 0)), (6, .own 2 0 c 2), (25, .d (.sl (L.map fun r => [encC r]))), (26, .d (.i .i64 (L.length : Int))), (27, .d (.i .i64 (i : Int)))] none
    [.cells 44 [.d (.i .i64 (L.length : Int)), .d (.i .i64 (c : Int)), .d (.sl (L.map fun r => [encC r]))], .cells 32 ((vcs (tiO ((v.zip L).take i) (List.replicate c 0))).map .d)]) (fun i => L.length - i) 0 ⟨Nat.zero_le _, by simp [tiO], by simpa [tiO] using hst0⟩ ?_ ?_
  · refine wk_l [1, 2] (by simp) ?_ ?_
    · simp [-List.map_map, upd, inj1, Γ0, encV2]
    · simp [-List.map_map, upd, inj1, Γ0, ]
      exact hrep _ _ _
  · rintro i ⟨hi, hrl, hrb⟩
    by_cases hgo : i < L.length
    · have q1 : (i : Int) < L.length := by omega
      have hw : IntKind.i64.wrap ((i : Int) + 1) = (i : Int) + 1 := wrap_i64 (by omega) (by omega)
      have hx : L[i]? = some L[i] := List.getElem?_eq_getElem hgo
      have hgv : i < v.length := by omega
      have hv : v[i]? = some v[i] := List.getElem?_eq_getElem hgv
      have hmem := List.getElem_mem hgo
      have hrow := hLb _ hmem
      have hcol := h.col _ hmem
      have hvi := hvb _ (List.getElem_mem hgv)
      have htk : tiO ((v.zip L).take (i + 1)) (List.replicate c 0) = tmI v[i] L[i] (tiO ((v.zip L).take i) (List.replicate c 0)) := by
        have : (v.zip L)[i]? = some (v[i], L[i]) := by rw [List.getElem?_zip_eq_some]; exact ⟨hv, hx⟩
        rw [List.take_add_one, this]; exact tiO_snoc _ _ _
      generalize tiO ((v.zip L).take i) (List.replicate c 0) = r0 at *
      clear hmem
      generalize L[i] = row at *
      generalize v[i] = z at *
      simp (config := { maxSteps := 1000000 }) [-List.map_map, -List.mapM_map, ↓awp_skip, ↓awp_regionB, ↓awp_seq, ↓awp_block, ↓awp_exit, ↓awp_ret, ↓awp_label, ↓awp_scope, ↓awp_condB, ↓awp_loopB, ↓ow_nil', ↓ow_cons0, ↓ow_cons1, ↓o1_move, ↓o1_assign, ↓o1_pick, ↓o1_alloc, ↓o1_box, ↓o1_build, ↓o1_buildSlice, ↓o1_makeSlice, ↓o1_makeMap, ↓o1_binOp, ↓o1_unOp, ↓o1_convert, ↓o1_fieldAddr, ↓o1_field, ↓o1_indexAddr, ↓o1_extract, ↓o1_slice, ↓o1_len, ↓o1_max, ↓o1_min, ↓o1_load, ↓o1_lookup, ↓o1_store, ↓o1_mapUpdate, ↓o1_append, ↓o1_delete, ↓o1_call, encV2, encC, q1, hx]
      have hrl2 := hrow.1
      refine loopP_inv (fun j : Nat => j ≤ row.length ∧ (tmI z (row.take j) r0).length = c ∧ Bd (i * 1000000000000000 + j * 1000000000000) (tmI z (row.take j) r0)) (fun j => StL [(0, .d (encV2 v)), (3, .ptr 1 0), (5, .d (.i .i64 0)), (6, .own 2 0 c 2), (7, .d (.i .i64 (i : Int))), (25, .d (.sl (L.map fun r => [encC r]))), (26, .d (.i .i64 (L.length : Int))), (27, .d (.i .i64 (i : Int))), (32, .d (encC row)), (33, .d (.i .i64 (row.length : Int))), (34, .d (.i .i64 (j : Int)))] none
        [.cells 44 [.d (.i .i64 (L.length : Int)), .d (.i .i64 (c : Int)), .d (.sl (L.map fun r => [encC r]))], .cells 32 ((vcs (tmI z (row.take j) r0)).map .d)]) (fun j => row.length - j) 0 ⟨Nat.zero_le _, hrl, by simpa [tmI] using hrb⟩ ?_ ?_
      · refine wk_l [1, 2] (by simp) ?_ ?_ <;> simp [-List.map_map, upd, inj1, Γ0, encV2, encC, tmI]
      · rintro j ⟨hj, hsl, hsb⟩
        by_cases hgj : j < row.length
        · have q2 : (j : Int) < row.length := by omega
          have hw2 : IntKind.i64.wrap ((j : Int) + 1) = (j : Int) + 1 := wrap_i64 (by omega) (by omega)
          have hy : row[j]? = some row[j] := List.getElem?_eq_getElem hgj
          have hcj := hcol _ (List.getElem_mem hgj)
          have hbj := hrow.2 _ (List.getElem_mem hgj)
          have htk2 : tmI z (row.take (j + 1)) r0 = addAt (tmI z (row.take j) r0) row[j].1.toNat (z * row[j].2) := by
            rw [List.take_add_one, hy]; exact tmI_snoc _ _ _ _
          generalize tmI z (row.take j) r0 = s at *
          generalize row[j] = t at *
          obtain ⟨tc, tv⟩ := t
          simp only at hcj hbj htk2
          obtain ⟨k, rfl⟩ : ∃ k : Nat, tc = k := ⟨tc.toNat, by omega⟩
          rw [Int.toNat_natCast] at htk2
          have hkc : k < c := by omega
          obtain ⟨y, hkz⟩ : ∃ y, s[k]? = some y := ⟨_, List.getElem?_eq_getElem (by omega)⟩
          have hyz := hsb _ (List.mem_of_getElem? hkz)
          have hadd : addAt s k (z * tv) = s.set k (y + z * tv) := by simp [addAt, List.getD_eq_getElem?_getD, hkz]
          have hmulb : (z * tv).natAbs ≤ 1000000 * 1000000 := by rw [Int.natAbs_mul]; exact Nat.mul_le_mul hvi hbj
          have hbd2 := addAt_bd (k := k) hsb hmulb
          rw [hadd] at htk2 hbd2
          have hslen := vcs_len s
          rw [hsl] at hslen
          have hset : (s.set k (y + z * tv)).length = c := by rw [List.length_set]; exact hsl
          have hlay : lay ((vcs s).map .d) (k * 2) [.d (.b (decide (y + z * tv < 0))), .d (encM (digs (y + z * tv).natAbs))] = (vcs (s.set k (y + z * tv))).map .d := by
            rw [← vcs_set _ (by omega)]
            simp [lay, encN]
          have hget : List.take 2 (List.drop (k * 2) ((vcs s).map AV.d)) = [.d (.b (decide (y < 0))), .d (encM (digs y.natAbs))] := by
            rw [← List.map_drop, ← List.map_take, vcs_get2 hkz]; rfl
          have hM := intMulZ z tv (Nat.le_trans (sz_small (z := z) (by omega)) (by decide)) (Nat.le_trans (sz_small (z := tv) (by omega)) (by decide))
          have hAd := intAddZ y (z * tv) (Nat.le_trans (sz_small (z := y) (by omega)) (by decide)) (Nat.le_trans (sz_small (z := z * tv) (by omega)) (by decide))
          generalize z * tv = zt at *
          generalize y + zt = yt at *
          have hk2 : k * 2 + 2 ≤ c * 2 := by omega
          simp (config := { maxSteps := 1000000 }) [-List.map_map, -List.mapM_map, ↓awp_skip, ↓awp_regionB, ↓awp_seq, ↓awp_block, ↓awp_exit, ↓awp_ret, ↓awp_label, ↓awp_scope, ↓awp_condB, ↓awp_loopB, ↓ow_nil', ↓ow_cons0, ↓ow_cons1, ↓o1_move, ↓o1_assign, ↓o1_pick, ↓o1_alloc, ↓o1_box, ↓o1_build, ↓o1_buildSlice, ↓o1_makeSlice, ↓o1_makeMap, ↓o1_binOp, ↓o1_unOp, ↓o1_convert, ↓o1_fieldAddr, ↓o1_field, ↓o1_indexAddr, ↓o1_extract, ↓o1_slice, ↓o1_len, ↓o1_max, ↓o1_min, ↓o1_load, ↓o1_lookup, ↓o1_store, ↓o1_mapUpdate, ↓o1_append, ↓o1_delete, ↓o1_call, encV2, encC, encF_eq, encN_eq, q2, hy, hkc, hk2, hget, hslen, hv, cellsA_encM, one_encM, inj1_encM, inj_encM, kills_encM]
          refine callP_intro (ds := [encZ z, encZ tv]) (by rfl) hM ?_
          rw [encZ_eq]
          simp (config := { maxSteps := 1000000 }) [-List.map_map, -List.mapM_map, ↓awp_skip, ↓awp_regionB, ↓awp_seq, ↓awp_block, ↓awp_exit, ↓awp_ret, ↓awp_label, ↓awp_scope, ↓awp_condB, ↓awp_loopB, ↓ow_nil', ↓ow_cons0, ↓ow_cons1, ↓o1_move, ↓o1_assign, ↓o1_pick, ↓o1_alloc, ↓o1_box, ↓o1_build, ↓o1_buildSlice, ↓o1_makeSlice, ↓o1_makeMap, ↓o1_binOp, ↓o1_unOp, ↓o1_convert, ↓o1_fieldAddr, ↓o1_field, ↓o1_indexAddr, ↓o1_extract, ↓o1_slice, ↓o1_len, ↓o1_max, ↓o1_min, ↓o1_load, ↓o1_lookup, ↓o1_store, ↓o1_mapUpdate, ↓o1_append, ↓o1_delete, ↓o1_call, cellsA_encM, one_encM, inj1_encM, inj_encM, kills_encM]
          refine callP_intro (ds := [encZ y, encZ zt]) (by rfl) hAd ?_
          rw [encZ_eq]
          simp (config := { maxSteps := 1000000 }) [-List.map_map, -List.mapM_map, ↓awp_skip, ↓awp_regionB, ↓awp_seq, ↓awp_block, ↓awp_exit, ↓awp_ret, ↓awp_label, ↓awp_scope, ↓awp_condB, ↓awp_loopB, ↓ow_nil', ↓ow_cons0, ↓ow_cons1, ↓o1_move, ↓o1_assign, ↓o1_pick, ↓o1_alloc, ↓o1_box, ↓o1_build, ↓o1_buildSlice, ↓o1_makeSlice, ↓o1_makeMap, ↓o1_binOp, ↓o1_unOp, ↓o1_convert, ↓o1_fieldAddr, ↓o1_field, ↓o1_indexAddr, ↓o1_extract, ↓o1_slice, ↓o1_len, ↓o1_max, ↓o1_min, ↓o1_load, ↓o1_lookup, ↓o1_store, ↓o1_mapUpdate, ↓o1_append, ↓o1_delete, ↓o1_call, hw2, hkc, hk2, hslen, hlay, cellsA_encM, one_encM, inj1_encM, inj_encM, kills_encM]
          refine nxt_intro (j + 1) ⟨hgj, by rw [htk2]; exact hset, by rw [htk2]; exact fun x hx => Nat.le_trans (hbd2 x hx) (by omega)⟩ (Nat.sub_lt_sub_left hgj (Nat.lt_succ_self _)) (wk_l [1, 2] (by simp) ?_ ?_) <;> simp [-List.map_map, upd, inj1, Γ0, encV2, encC, htk2]
        · have q2 : ¬ (j : Int) < row.length := by omega
          have ej : row.take j = row := List.take_of_length_le (by omega)
          rw [ej] at hsl hsb ⊢
          simp (config := { maxSteps := 1000000 }) [-List.map_map, -List.mapM_map, ↓awp_skip, ↓awp_regionB, ↓awp_seq, ↓awp_block, ↓awp_exit, ↓awp_ret, ↓awp_label, ↓awp_scope, ↓awp_condB, ↓awp_loopB, ↓ow_nil', ↓ow_cons0, ↓ow_cons1, ↓o1_move, ↓o1_assign, ↓o1_pick, ↓o1_alloc, ↓o1_box, ↓o1_build, ↓o1_buildSlice, ↓o1_makeSlice, ↓o1_makeMap, ↓o1_binOp, ↓o1_unOp, ↓o1_convert, ↓o1_fieldAddr, ↓o1_field, ↓o1_indexAddr, ↓o1_extract, ↓o1_slice, ↓o1_len, ↓o1_max, ↓o1_min, ↓o1_load, ↓o1_lookup, ↓o1_store, ↓o1_mapUpdate, ↓o1_append, ↓o1_delete, ↓o1_call, encV2, encC, q2, hw]
          refine nxt_intro (i + 1) ⟨hgo, by rw [htk]; exact hsl, by rw [htk]; exact fun x hx => Nat.le_trans (hsb x hx) (by omega)⟩ (Nat.sub_lt_sub_left hgo (Nat.lt_succ_self _)) (wk_l [1, 2] (by simp) ?_ ?_) <;> simp [-List.map_map, upd, inj1, Γ0, encV2, encC, htk]
    · have q1 : ¬ (i : Int) < L.length := by omega
      have ei : (v.zip L).take i = v.zip L := List.take_of_length_le (by omega)
      rw [ei] at hrl ⊢
      generalize tiO (v.zip L) (List.replicate c 0) = s at *
      have hslen := vcs_len s
      rw [hrl] at hslen
      simp (config := { maxSteps := 1000000 }) [-List.map_map, -List.mapM_map, ↓awp_skip, ↓awp_regionB, ↓awp_seq, ↓awp_block, ↓awp_exit, ↓awp_ret, ↓awp_label, ↓awp_scope, ↓awp_condB, ↓awp_loopB, ↓ow_nil', ↓ow_cons0, ↓ow_cons1, ↓o1_move, ↓o1_assign, ↓o1_pick, ↓o1_alloc, ↓o1_box, ↓o1_build, ↓o1_buildSlice, ↓o1_makeSlice, ↓o1_makeMap, ↓o1_binOp, ↓o1_unOp, ↓o1_convert, ↓o1_fieldAddr, ↓o1_field, ↓o1_indexAddr, ↓o1_extract, ↓o1_slice, ↓o1_len, ↓o1_max, ↓o1_min, ↓o1_load, ↓o1_lookup, ↓o1_store, ↓o1_mapUpdate, ↓o1_append, ↓o1_delete, ↓o1_call, encV2, q1, resD_two, hslen, chunk_vcs hrl, vcs_take_all hrl]

end Go.Am
