/- sparse.Remove on valid matrices. No condition. -/
import Derived.Test.YtmnjglpieghdkaaMv
import Derived.Test.YtmnjglpieghdkaaA4
import Derived.Test.YtmnjglpieghdkaaRg
import Derived.Test.YtmnjglpieghdkaaMu
import Derived.Test.YtmnjglpieghdkaaSs
open Go Go.Am Go.Proofs
namespace Go.Am
set_option linter.unusedSimpArgs false

def remL (L : List (List (Int × Int))) (i : Nat) : List (List (Int × Int)) := L.take i ++ L.drop (i + 1)
theorem r06RemArg (R c : Int) (L : List (List (Int × Int))) (i : Int) (h : i < 0 ∨ R ≤ i) : Spec Try.prog 38 [encSp R c L, .i .i64 i] (bad 1) := by
  refine spec_of (N := 43) follows_mixed Try.func38 rfl rfl rfl (by kernel_rfl) (by kernel_rfl) (by simp) ?_
  by_cases h0 : i < 0
  · simp (config := { maxSteps := 1000000 }) [-List.map_map, -List.mapM_map, ↓awp_skip, ↓awp_regionB, ↓awp_seq, ↓awp_block, ↓awp_exit, ↓awp_ret, ↓awp_label, ↓awp_scope, ↓awp_condB, ↓awp_loopB, ↓ow_nil', ↓ow_cons0, ↓ow_cons1, ↓o1_move, ↓o1_assign, ↓o1_pick, ↓o1_alloc, ↓o1_box, ↓o1_build, ↓o1_buildSlice, ↓o1_makeSlice, ↓o1_makeMap, ↓o1_binOp, ↓o1_unOp, ↓o1_convert, ↓o1_fieldAddr, ↓o1_field, ↓o1_indexAddr, ↓o1_extract, ↓o1_slice, ↓o1_len, ↓o1_max, ↓o1_min, ↓o1_load, ↓o1_lookup, ↓o1_store, ↓o1_mapUpdate, ↓o1_append, ↓o1_delete, ↓o1_call, encSp, h0, bad, resD_two]
  · have h1 : R ≤ i := by omega
    simp (config := { maxSteps := 1000000 }) [-List.map_map, -List.mapM_map, ↓awp_skip, ↓awp_regionB, ↓awp_seq, ↓awp_block, ↓awp_exit, ↓awp_ret, ↓awp_label, ↓awp_scope, ↓awp_condB, ↓awp_loopB, ↓ow_nil', ↓ow_cons0, ↓ow_cons1, ↓o1_move, ↓o1_assign, ↓o1_pick, ↓o1_alloc, ↓o1_box, ↓o1_build, ↓o1_buildSlice, ↓o1_makeSlice, ↓o1_makeMap, ↓o1_binOp, ↓o1_unOp, ↓o1_convert, ↓o1_fieldAddr, ↓o1_field, ↓o1_indexAddr, ↓o1_extract, ↓o1_slice, ↓o1_len, ↓o1_max, ↓o1_min, ↓o1_load, ↓o1_lookup, ↓o1_store, ↓o1_mapUpdate, ↓o1_append, ↓o1_delete, ↓o1_call, encSp, h0, h1, bad, resD_two]

def reS (R c : Int) (L : List (List (Int × Int))) (i : Int) (k : Int) : List (List (Int × Int)) → St
  | [] => StL [(1, .d (.i .i64 i)), (2, .ptr 1 0), (4, .ptr 2 0), (5, .d (.i .i64 0)), (6, .ptr 3 0), (7, .d (.i .i64 k))] none
      [.cells 44 [.d (.i .i64 R), .d (.i .i64 c), .d (.sl (L.map fun r => [encC r]))], .cells 44 [.d (.i .i64 0), .d (.i .i64 0), .nil], .cells 44 [.d (.i .i64 (R - 1)), .d (.i .i64 c), .nil]]
  | m :: M => StL [(1, .d (.i .i64 i)), (2, .ptr 1 0), (4, .ptr 2 0), (5, .d (.i .i64 0)), (6, .ptr 3 0), (7, .d (.i .i64 k))] none
      [.cells 44 [.d (.i .i64 R), .d (.i .i64 c), .d (.sl (L.map fun r => [encC r]))], .cells 44 [.d (.i .i64 0), .d (.i .i64 0), .nil], .cells 44 [.d (.i .i64 (R - 1)), .d (.i .i64 c), .own 4 0 (M.length + 1) 1], .cells 45 ((rcs (m :: M)).map .d)]
def remK (L : List (List (Int × Int))) (i k : Nat) : List (List (Int × Int)) := (L.take k).take i ++ (L.take k).drop (i + 1)
theorem remK_len (L : List (List (Int × Int))) (i k : Nat) (h : k ≤ L.length) : (remK L i k).length ≤ k := by simp [remK]; omega
theorem remK_skip (L : List (List (Int × Int))) (i : Nat) (h : i < L.length) : remK L i (i + 1) = remK L i i := by
  have : L.take (i + 1) = L.take i ++ [L[i]] := by rw [List.take_add_one, List.getElem?_eq_getElem h]; rfl
  simp only [remK]
  rw [this, List.take_append_of_le_length (by simp; omega), List.drop_eq_nil_of_le (by simp; omega), List.drop_eq_nil_of_le (by simp; omega)]
theorem remK_succ (L : List (List (Int × Int))) (i k : Nat) (x : List (Int × Int)) (hx : L[k]? = some x) (h : k ≠ i) : remK L i (k + 1) = remK L i k ++ [x] := by
  have hk : k < L.length := (List.getElem?_eq_some_iff.1 hx).1
  have : L.take (k + 1) = L.take k ++ [x] := by rw [List.take_add_one, hx]; rfl
  have hl : (L.take k).length = k := by simp; omega
  simp only [remK]
  rw [this]
  rcases Nat.lt_or_ge k i with h2 | h2
  · rw [List.take_of_length_le (by simp; omega), List.take_of_length_le (l := L.take k) (by omega), List.drop_eq_nil_of_le (by simp; omega), List.drop_eq_nil_of_le (by omega)]; simp
  · rw [List.take_append_of_le_length (by omega), List.drop_append_of_le_length (by omega), List.append_assoc]
theorem remK_all (L : List (List (Int × Int))) (i : Nat) : remK L i L.length = remL L i := by simp [remK, remL]

set_option maxHeartbeats 16000000 in
set_option maxRecDepth 10000 in
theorem r06RemOk (c : Int) (L : List (List (Int × Int))) (i : Nat) (hL : L.length ≤ 1000) (hi : i < L.length) : Spec Try.prog 38 [encSp L.length c L, .i .i64 (i : Int)] (.tp [encSp ((L.length : Int) - 1) c (remL L i), .i .i64 0]) := by
  refine spec_of (N := 43) follows_mixed Try.func38 rfl rfl rfl (by kernel_rfl) (by kernel_rfl) (by simp) ?_
  have h0 : ¬ (i : Int) < 0 := by omega
  have h1 : ¬ (L.length : Int) ≤ i := by omega
  have hwR : IntKind.i64.wrap ((L.length : Int) - 1) = (L.length : Int) - 1 := wrap_i64 (by omega) (by omega)
  simp (config := { maxSteps := 1000000 }) [-List.map_map, -List.mapM_map, ↓awp_skip, ↓awp_regionB, ↓awp_seq, ↓awp_block, ↓awp_exit, ↓awp_ret, ↓awp_label, ↓awp_scope, ↓awp_condB, ↓awp_loopB, ↓ow_nil', ↓ow_cons0, ↓ow_cons1, ↓o1_move, ↓o1_assign, ↓o1_pick, ↓o1_alloc, ↓o1_box, ↓o1_build, ↓o1_buildSlice, ↓o1_makeSlice, ↓o1_makeMap, ↓o1_binOp, ↓o1_unOp, ↓o1_convert, ↓o1_fieldAddr, ↓o1_field, ↓o1_indexAddr, ↓o1_extract, ↓o1_slice, ↓o1_len, ↓o1_max, ↓o1_min, ↓o1_load, ↓o1_lookup, ↓o1_store, ↓o1_mapUpdate, ↓o1_append, ↓o1_delete, ↓o1_call, encSp, h0, h1, hwR]
  refine loopP_inv (fun k : Nat => k ≤ L.length) (fun k => reS L.length c L i k (remK L i k)) (fun k => L.length - k) 0 (Nat.zero_le _) ?_ ?_
  · rw [show remK L i 0 = [] by simp [remK], reS]
    refine wk_l [1, 2, 3] (by simp) ?_ ?_ <;> simp [-List.map_map, upd, inj1, Γ0, hwR]
  · intro k hk
    have hlk := remK_len L i k hk
    by_cases hgo : k < L.length
    · have q1 : (k : Int) < L.length := by omega
      have hx : L[k]? = some L[k] := List.getElem?_eq_getElem hgo
      have hw : IntKind.i64.wrap ((k : Int) + 1) = (k : Int) + 1 := wrap_i64 (by omega) (by omega)
      by_cases hki : k = i
      · subst hki
        have q2 : ((k : Int) != (k : Int)) = false := by simp
        have hs := remK_skip L k hgo
        generalize remK L k k = M0 at *
        rcases M0 with _ | ⟨m, M⟩
        · simp only [reS]
          simp (config := { maxSteps := 1000000 }) [-List.map_map, -List.mapM_map, ↓awp_skip, ↓awp_regionB, ↓awp_seq, ↓awp_block, ↓awp_exit, ↓awp_ret, ↓awp_label, ↓awp_scope, ↓awp_condB, ↓awp_loopB, ↓ow_nil', ↓ow_cons0, ↓ow_cons1, ↓o1_move, ↓o1_assign, ↓o1_pick, ↓o1_alloc, ↓o1_box, ↓o1_build, ↓o1_buildSlice, ↓o1_makeSlice, ↓o1_makeMap, ↓o1_binOp, ↓o1_unOp, ↓o1_convert, ↓o1_fieldAddr, ↓o1_field, ↓o1_indexAddr, ↓o1_extract, ↓o1_slice, ↓o1_len, ↓o1_max, ↓o1_min, ↓o1_load, ↓o1_lookup, ↓o1_store, ↓o1_mapUpdate, ↓o1_append, ↓o1_delete, ↓o1_call, q1, hw]
          refine nxt_intro (k + 1) hgo (Nat.sub_lt_sub_left hgo (Nat.lt_succ_self _)) ?_
          simp only [hs, reS]
          refine wk_l [1, 2, 3] (by simp) ?_ ?_ <;> simp [-List.map_map, upd, inj1, Γ0, ]
        · simp only [reS]
          simp (config := { maxSteps := 1000000 }) [-List.map_map, -List.mapM_map, ↓awp_skip, ↓awp_regionB, ↓awp_seq, ↓awp_block, ↓awp_exit, ↓awp_ret, ↓awp_label, ↓awp_scope, ↓awp_condB, ↓awp_loopB, ↓ow_nil', ↓ow_cons0, ↓ow_cons1, ↓o1_move, ↓o1_assign, ↓o1_pick, ↓o1_alloc, ↓o1_box, ↓o1_build, ↓o1_buildSlice, ↓o1_makeSlice, ↓o1_makeMap, ↓o1_binOp, ↓o1_unOp, ↓o1_convert, ↓o1_fieldAddr, ↓o1_field, ↓o1_indexAddr, ↓o1_extract, ↓o1_slice, ↓o1_len, ↓o1_max, ↓o1_min, ↓o1_load, ↓o1_lookup, ↓o1_store, ↓o1_mapUpdate, ↓o1_append, ↓o1_delete, ↓o1_call, q1, hw]
          refine nxt_intro (k + 1) hgo (Nat.sub_lt_sub_left hgo (Nat.lt_succ_self _)) ?_
          simp only [hs, reS]
          refine wk_l [1, 2, 3, 4] (by simp) ?_ ?_ <;> simp [-List.map_map, upd, inj1, Γ0, subL_own_iff3]
      · have q2 : ((k : Int) != (i : Int)) = true := by simp; omega
        have htk := remK_succ L i k _ hx hki
        generalize remK L i k = M0 at *
        generalize L[k] = x at *
        rcases M0 with _ | ⟨m, M⟩
        · simp only [reS]
          simp (config := { maxSteps := 1000000 }) [-List.map_map, -List.mapM_map, ↓awp_skip, ↓awp_regionB, ↓awp_seq, ↓awp_block, ↓awp_exit, ↓awp_ret, ↓awp_label, ↓awp_scope, ↓awp_condB, ↓awp_loopB, ↓ow_nil', ↓ow_cons0, ↓ow_cons1, ↓o1_move, ↓o1_assign, ↓o1_pick, ↓o1_alloc, ↓o1_box, ↓o1_build, ↓o1_buildSlice, ↓o1_makeSlice, ↓o1_makeMap, ↓o1_binOp, ↓o1_unOp, ↓o1_convert, ↓o1_fieldAddr, ↓o1_field, ↓o1_indexAddr, ↓o1_extract, ↓o1_slice, ↓o1_len, ↓o1_max, ↓o1_min, ↓o1_load, ↓o1_lookup, ↓o1_store, ↓o1_mapUpdate, ↓o1_append, ↓o1_delete, ↓o1_call, q1, q2, hx, hw, le_maxLen, encC]
          refine nxt_intro (k + 1) hgo (Nat.sub_lt_sub_left hgo (Nat.lt_succ_self _)) ?_
          simp only [htk, reS, List.nil_append]
          refine wk_l [1, 2, 3, 5] (by simp) ?_ ?_ <;> simp [-List.map_map, upd, inj1, Γ0, subL_own_iff3, rcs, encC]
        · have hfl := rcs_len (m :: M)
          rw [List.length_cons] at hfl hlk
          have hbb : (M.length + 1 + 1) * 24 ≤ 140737488355328 ∧ M.length + 1 + 1 ≤ 1099511627776 := ⟨by omega, by omega⟩
          have e1 : rcs (m :: (M ++ [x])) = rcs (m :: M) ++ [encC x] := rcs_snoc (m :: M) x
          simp only [reS]
          generalize rcs (m :: M) = RM at *
          simp (config := { maxSteps := 1000000 }) [-List.map_map, -List.mapM_map, ↓awp_skip, ↓awp_regionB, ↓awp_seq, ↓awp_block, ↓awp_exit, ↓awp_ret, ↓awp_label, ↓awp_scope, ↓awp_condB, ↓awp_loopB, ↓ow_nil', ↓ow_cons0, ↓ow_cons1, ↓o1_move, ↓o1_assign, ↓o1_pick, ↓o1_alloc, ↓o1_box, ↓o1_build, ↓o1_buildSlice, ↓o1_makeSlice, ↓o1_makeMap, ↓o1_binOp, ↓o1_unOp, ↓o1_convert, ↓o1_fieldAddr, ↓o1_field, ↓o1_indexAddr, ↓o1_extract, ↓o1_slice, ↓o1_len, ↓o1_max, ↓o1_min, ↓o1_load, ↓o1_lookup, ↓o1_store, ↓o1_mapUpdate, ↓o1_append, ↓o1_delete, ↓o1_call, q1, q2, hx, hw, hbb, hfl, le_maxLen, encC]
          refine nxt_intro (k + 1) hgo (Nat.sub_lt_sub_left hgo (Nat.lt_succ_self _)) ?_
          simp only [htk, reS, List.cons_append, e1]
          refine wk_l [1, 2, 3, 6] (by simp) ?_ ?_ <;> simp [-List.map_map, upd, inj1, Γ0, subL_own_iff3, cellsOk_same, encC]
    · have e : k = L.length := by omega
      subst e
      have q1 : ¬ (L.length : Int) < L.length := by omega
      rw [remK_all] at hlk ⊢
      generalize remL L i = M0 at *
      rcases M0 with _ | ⟨m, M⟩
      · simp only [reS]
        simp (config := { maxSteps := 1000000 }) [-List.map_map, -List.mapM_map, ↓awp_skip, ↓awp_regionB, ↓awp_seq, ↓awp_block, ↓awp_exit, ↓awp_ret, ↓awp_label, ↓awp_scope, ↓awp_condB, ↓awp_loopB, ↓ow_nil', ↓ow_cons0, ↓ow_cons1, ↓o1_move, ↓o1_assign, ↓o1_pick, ↓o1_alloc, ↓o1_box, ↓o1_build, ↓o1_buildSlice, ↓o1_makeSlice, ↓o1_makeMap, ↓o1_binOp, ↓o1_unOp, ↓o1_convert, ↓o1_fieldAddr, ↓o1_field, ↓o1_indexAddr, ↓o1_extract, ↓o1_slice, ↓o1_len, ↓o1_max, ↓o1_min, ↓o1_load, ↓o1_lookup, ↓o1_store, ↓o1_mapUpdate, ↓o1_append, ↓o1_delete, ↓o1_call, q1, resD_two]
      · simp only [reS]
        have hfl := rcs_len (m :: M)
        have hM := rcs_chunk (m :: M)
        rw [List.length_cons] at hfl
        generalize m :: M = M2 at *
        simp (config := { maxSteps := 1000000 }) [-List.map_map, -List.mapM_map, ↓awp_skip, ↓awp_regionB, ↓awp_seq, ↓awp_block, ↓awp_exit, ↓awp_ret, ↓awp_label, ↓awp_scope, ↓awp_condB, ↓awp_loopB, ↓ow_nil', ↓ow_cons0, ↓ow_cons1, ↓o1_move, ↓o1_assign, ↓o1_pick, ↓o1_alloc, ↓o1_box, ↓o1_build, ↓o1_buildSlice, ↓o1_makeSlice, ↓o1_makeMap, ↓o1_binOp, ↓o1_unOp, ↓o1_convert, ↓o1_fieldAddr, ↓o1_field, ↓o1_indexAddr, ↓o1_extract, ↓o1_slice, ↓o1_len, ↓o1_max, ↓o1_min, ↓o1_load, ↓o1_lookup, ↓o1_store, ↓o1_mapUpdate, ↓o1_append, ↓o1_delete, ↓o1_call, q1, hM, hfl, resD_two]
        rw [List.take_of_length_le (by simp [hfl]), mapM_d _ 5 (rcs M2)]
        simp [chunk_one _ _ hfl.symm]

end Go.Am

open Go Go.Am Go.Proofs
namespace Go.Am
set_option linter.unusedSimpArgs false

theorem ownSpec (z : Int) (h : (digs z.natAbs).length ≤ 1099511627776) : Spec Try.prog 89 [encZ z] (encZ z) := by
  refine spec_of (N := 9) follows_mixed Try.func89 rfl rfl rfl (by kernel_rfl) (by kernel_rfl) (by simp) ?_
  have hC : Spec Try.prog 107 [encM (digs z.natAbs)] (encM (digs z.natAbs)) := clone_any _ (by simp [clOk, one, h])
  rw [encZ_eq]
  simp (config := { maxSteps := 1000000 }) [-List.map_map, -List.mapM_map, ↓awp_skip, ↓awp_regionB, ↓awp_seq, ↓awp_block, ↓awp_exit, ↓awp_ret, ↓awp_label, ↓awp_scope, ↓awp_condB, ↓awp_loopB, ↓ow_nil', ↓ow_cons0, ↓ow_cons1, ↓o1_move, ↓o1_assign, ↓o1_pick, ↓o1_alloc, ↓o1_box, ↓o1_build, ↓o1_buildSlice, ↓o1_makeSlice, ↓o1_makeMap, ↓o1_binOp, ↓o1_unOp, ↓o1_convert, ↓o1_fieldAddr, ↓o1_field, ↓o1_indexAddr, ↓o1_extract, ↓o1_slice, ↓o1_len, ↓o1_max, ↓o1_min, ↓o1_load, ↓o1_lookup, ↓o1_store, ↓o1_mapUpdate, ↓o1_append, ↓o1_delete, ↓o1_call, cellsA_encM, one_encM, inj1_encM, inj_encM, kills_encM]
  refine callP_intro (ds := [encM (digs z.natAbs)]) (by rfl) hC ?_
  simp (config := { maxSteps := 1000000 }) [-List.map_map, -List.mapM_map, ↓awp_skip, ↓awp_regionB, ↓awp_seq, ↓awp_block, ↓awp_exit, ↓awp_ret, ↓awp_label, ↓awp_scope, ↓awp_condB, ↓awp_loopB, ↓ow_nil', ↓ow_cons0, ↓ow_cons1, ↓o1_move, ↓o1_assign, ↓o1_pick, ↓o1_alloc, ↓o1_box, ↓o1_build, ↓o1_buildSlice, ↓o1_makeSlice, ↓o1_makeMap, ↓o1_binOp, ↓o1_unOp, ↓o1_convert, ↓o1_fieldAddr, ↓o1_field, ↓o1_indexAddr, ↓o1_extract, ↓o1_slice, ↓o1_len, ↓o1_max, ↓o1_min, ↓o1_load, ↓o1_lookup, ↓o1_store, ↓o1_mapUpdate, ↓o1_append, ↓o1_delete, ↓o1_call, cellsA_encM, one_encM, inj1_encM, inj_encM, kills_encM]

def rowD (done : List D) (cur : AV) (m : Nat) : List AV := done.map .d ++ cur :: List.replicate m .nil
def rowE (done : List D) (m : Nat) : List AV := done.map .d ++ List.replicate m .nil
theorem rowE_succ (done : List D) (m : Nat) : rowE done (m + 1) = rowD done .nil m := rfl
theorem rowD_d (done : List D) (x : D) (m : Nat) : rowD done (.d x) m = rowE (done ++ [x]) m := by simp [rowD, rowE]
theorem rowE_zero (done : List D) : rowE done 0 = done.map .d := by simp [rowE]
theorem rowE_nil (m : Nat) : rowE [] m = List.replicate m .nil := rfl
theorem rowE_len (done : List D) (m : Nat) : (rowE done m).length = done.length + m := by simp [rowE]
theorem rowD_len (done : List D) (x : AV) (m : Nat) : (rowD done x m).length = done.length + (m + 1) := by simp [rowD]
theorem rowD_get {done : List D} {x : AV} {m i : Nat} (h : done.length = i) : (rowD done x m)[i]? = some x := by
  subst h; simp [rowD]
theorem rowD_lay {done : List D} {x y : AV} {m i : Nat} (h : done.length = i) : lay (rowD done x m) i [y] = rowD done y m := by
  subst h
  unfold lay rowD
  rw [List.take_append_of_le_length (by simp), List.take_of_length_le (by simp), List.append_assoc]
  congr 1
  rw [List.singleton_append, List.length_singleton, ← List.drop_drop]
  simp
theorem rowD_scrub (l : List Nat) (done : List D) (x : AV) (m : Nat) : (rowD done x m).map (scrub0 l) = rowD done (scrub0 l x) m := by
  simp only [rowD, List.map_append, List.map_cons, List.map_replicate, scrub0_nil]
  congr 1
  rw [List.map_map]
  exact List.map_congr_left fun d _ => scrub0_d l d
theorem cellsOk_rep {H H' : Nat → Option HO} {ρ : Nat → Nat} : ∀ m, cellsOk H H' ρ (List.replicate m .nil) (List.replicate m .nil)
  | 0 => trivial
  | m + 1 => ⟨trivial, cellsOk_rep m⟩
theorem cellsOk_rowD {H H' : Nat → Option HO} {ρ : Nat → Nat} {done : List D} {x y : AV} {m : Nat} : cellsOk H H' ρ (rowD done x m) (rowD done y m) ↔ SubL H H' ρ x y := by
  unfold rowD
  rw [cellsOk_same]
  exact ⟨fun h => h.1, fun h => ⟨h, cellsOk_rep m⟩⟩
theorem cellsOk_rowE {H H' : Nat → Option HO} {ρ : Nat → Nat} {done : List D} {m : Nat} : cellsOk H H' ρ (rowE done m) (rowE done m) ↔ True := by
  unfold rowE
  rw [cellsOk_same]
  exact ⟨fun _ => trivial, fun _ => cellsOk_rep m⟩
theorem frz_fcs {H : Nat → Option HO} {B : Nat} {e : TypeId} {v : List (Int × Int)} {n : Nat} (hB : H B = some (.cells e ((fcs v).map .d))) (hv : v.length = n) : frz H 8 (.own B 0 n 3) = some (encC v) ∧ vis H 8 (.own B 0 n 3) = [B] := by
  have hl := fcs_len v
  rw [hv] at hl
  constructor
  · rw [frz_own, hB]
    simp only [Nat.zero_add, List.length_map, hl, Nat.zero_mul, List.drop_zero]
    rw [fcs_take_all hv, if_pos ⟨Nat.le_refl _, by decide⟩]
    have : List.mapM (frz H 7) ((fcs v).map AV.d) = some (fcs v) := mapM_d H 6 (fcs v)
    rw [this, Option.map_some, chunk_fcs hv]; rfl
  · simp only [vis, hB, Nat.zero_mul, List.drop_zero]
    rw [fcs_take_all hv]
    congr 1
    refine List.flatMap_eq_nil_iff.2 fun x hx => ?_
    obtain ⟨y, _, rfl⟩ := List.mem_map.1 hx
    rfl

/-- The row being made: not begun, or a block of the call's own. -/
def owS (L : List (List (Int × Int))) (n i m : Nat) (done : List D) (row : List (Int × Int)) : Nat → St
  | 0 => StL [(3, .own 1 0 n 1), (4, .d (.i .i64 (i : Int))), (11, .d (.sl (L.map fun r => [encC r]))), (12, .d (.i .i64 (n : Int))), (13, .d (.i .i64 (i : Int))), (18, .d (encC row)), (19, .d (.i .i64 (row.length : Int))), (20, .d (.i .i64 0))] none [.cells 45 (rowD done .nil m)]
  | j + 1 => StL [(3, .own 1 0 n 1), (4, .d (.i .i64 (i : Int))), (11, .d (.sl (L.map fun r => [encC r]))), (12, .d (.i .i64 (n : Int))), (13, .d (.i .i64 (i : Int))), (18, .d (encC row)), (19, .d (.i .i64 (row.length : Int))), (20, .d (.i .i64 ((j + 1 : Nat) : Int)))] none
     [.cells 45 (rowD done (.own 2 0 (j + 1) 3) m), .cells 109 ((fcs (row.take (j + 1))).map .d)]

set_option maxHeartbeats 16000000 in
set_option maxRecDepth 10000 in
theorem ownRows (L : List (List (Int × Int))) (hL : ∀ x ∈ L, RowOk x) (hn : L.length ≤ 1000000) : Spec Try.prog 85 [.sl (L.map fun r => [encC r])] (.sl (L.map fun r => [encC r])) := by
  refine spec_of (N := 42) follows_mixed Try.func85 rfl rfl rfl (by kernel_rfl) (by kernel_rfl) (by simp) ?_
  have hm : 24 * (L.length : Int) ≤ 281474976710656 := by omega
  have hm2 : (L.length : Int) ≤ 9223372036854775807 := by omega
  simp (config := { maxSteps := 1000000 }) [-List.map_map, -List.mapM_map, ↓awp_skip, ↓awp_regionB, ↓awp_seq, ↓awp_block, ↓awp_exit, ↓awp_ret, ↓awp_label, ↓awp_scope, ↓awp_condB, ↓awp_loopB, ↓ow_nil', ↓ow_cons0, ↓ow_cons1, ↓o1_move, ↓o1_assign, ↓o1_pick, ↓o1_alloc, ↓o1_box, ↓o1_build, ↓o1_buildSlice, ↓o1_makeSlice, ↓o1_makeMap, ↓o1_binOp, ↓o1_unOp, ↓o1_convert, ↓o1_fieldAddr, ↓o1_field, ↓o1_indexAddr, ↓o1_extract, ↓o1_slice, ↓o1_len, ↓o1_max, ↓o1_min, ↓o1_load, ↓o1_lookup, ↓o1_store, ↓o1_mapUpdate, ↓o1_append, ↓o1_delete, ↓o1_call, hm, hm2, le_maxLen]
  refine loopP_inv (fun i : Nat => i ≤ L.length) (fun i => StL [(3, .own 1 0 L.length 1), (11, .d (.sl (L.map fun r => [encC r]))), (12, .d (.i .i64 (L.length : Int))), (13, .d (.i .i64 (i : Int)))] none [.cells 45 (rowE (rcs (L.take i)) (L.length - i))]) (fun i => L.length - i) 0 (Nat.zero_le _) ?_ ?_
  · refine wk_l [1] (by simp) ?_ ?_
    · simp [-List.map_map, upd, inj1, Γ0, ]
    · simp [-List.map_map, upd, inj1, Γ0, ]
      exact cellsOk_rep _
  · intro i hi
    by_cases hgi : i < L.length
    · have hx : L[i]? = some L[i] := List.getElem?_eq_getElem hgi
      have q1 : (i : Int) < L.length := by omega
      have hrow := hL _ (List.getElem_mem hgi)
      have hw : IntKind.i64.wrap ((i : Int) + 1) = (i : Int) + 1 := wrap_i64 (by omega) (by omega)
      have hd : (rcs (L.take i)).length = i := by rw [rcs_len, List.length_take]; exact Nat.min_eq_left hi
      have htk : rcs (L.take (i + 1)) = rcs (L.take i) ++ [encC L[i]] := by rw [List.take_add_one, hx]; exact rcs_snoc _ _
      have hst : rowE (rcs (L.take i)) (L.length - i) = rowD (rcs (L.take i)) .nil (L.length - (i + 1)) := by rw [show L.length - i = (L.length - (i + 1)) + 1 by omega]; rfl
      have hmm : i + (L.length - (i + 1) + 1) = L.length := by omega
      rw [hst]
      have hend : ∀ (H H' : Nat → Option HO) (ρ : Nat → Nat) (c : AV), SubL H H' ρ c (.d (encC L[i])) → cellsOk H H' ρ (rowD (rcs (L.take i)) c (L.length - (i + 1))) (rowE (rcs (L.take (i + 1))) (L.length - (i + 1))) := fun H H' ρ c h => by
        rw [htk, ← rowD_d]
        exact cellsOk_rowD.2 h
      generalize rcs (L.take i) = done at *
      generalize hmd : L.length - (i + 1) = m at *
      generalize L[i] = x at *
      have hiL : i < i + (m + 1) := by omega
      simp (config := { maxSteps := 1000000 }) [-List.map_map, -List.mapM_map, ↓awp_skip, ↓awp_regionB, ↓awp_seq, ↓awp_block, ↓awp_exit, ↓awp_ret, ↓awp_label, ↓awp_scope, ↓awp_condB, ↓awp_loopB, ↓ow_nil', ↓ow_cons0, ↓ow_cons1, ↓o1_move, ↓o1_assign, ↓o1_pick, ↓o1_alloc, ↓o1_box, ↓o1_build, ↓o1_buildSlice, ↓o1_makeSlice, ↓o1_makeMap, ↓o1_binOp, ↓o1_unOp, ↓o1_convert, ↓o1_fieldAddr, ↓o1_field, ↓o1_indexAddr, ↓o1_extract, ↓o1_slice, ↓o1_len, ↓o1_max, ↓o1_min, ↓o1_load, ↓o1_lookup, ↓o1_store, ↓o1_mapUpdate, ↓o1_append, ↓o1_delete, ↓o1_call, q1, hx, encC]
      refine loopP_inv (fun j : Nat => j ≤ x.length) (owS L L.length i m done x) (fun j => x.length - j) 0 (Nat.zero_le _) ?_ ?_
      · simp only [owS]
        refine wk_l [1] (by simp) ?_ ?_ <;> simp [-List.map_map, upd, inj1, Γ0, encC, cellsOk_rowD]
      · intro j hj
        by_cases hgo : j < x.length
        · have hy : x[j]? = some x[j] := List.getElem?_eq_getElem hgo
          have hys := hrow.1 _ (List.getElem_mem hgo)
          have hxl := hrow.2
          have htk2 : fcs (x.take (j + 1)) = fcs (x.take j) ++ fcs [x[j]] := by rw [List.take_add_one, hy, fcs_app]; rfl
          have hfl := fcs_len (x.take j)
          rw [List.length_take, Nat.min_eq_left hj] at hfl
          generalize x[j] = y at *
          obtain ⟨yc, yv⟩ := y
          have hS := ownSpec yv (Nat.le_trans hys (by decide))
          rcases j with _ | j
          · simp only [owS]
            have q2 : 0 < x.length := hgo
            have hgt := rowD_get (x := .nil) (m := m) hd
            have hly := fun v => rowD_lay (x := .nil) (y := v) (m := m) hd
            have hw2 : IntKind.i64.wrap (1 : Int) = 1 := wrap_i64 (by omega) (by omega)
            obtain ⟨_, hy2⟩ := List.getElem?_eq_some_iff.1 hy
            have hbb : True := trivial
            simp (config := { maxSteps := 1000000 }) [-List.map_map, -List.mapM_map, ↓awp_skip, ↓awp_regionB, ↓awp_seq, ↓awp_block, ↓awp_exit, ↓awp_ret, ↓awp_label, ↓awp_scope, ↓awp_condB, ↓awp_loopB, ↓ow_nil', ↓ow_cons0, ↓ow_cons1, ↓o1_move, ↓o1_assign, ↓o1_pick, ↓o1_alloc, ↓o1_box, ↓o1_build, ↓o1_buildSlice, ↓o1_makeSlice, ↓o1_makeMap, ↓o1_binOp, ↓o1_unOp, ↓o1_convert, ↓o1_fieldAddr, ↓o1_field, ↓o1_indexAddr, ↓o1_extract, ↓o1_slice, ↓o1_len, ↓o1_max, ↓o1_min, ↓o1_load, ↓o1_lookup, ↓o1_store, ↓o1_mapUpdate, ↓o1_append, ↓o1_delete, ↓o1_call, q2, hy, hy2, encF_eq, encC, hgt, hgi, cellsA_encM, one_encM, inj1_encM, inj_encM, kills_encM]
            refine callP_intro (ds := [encZ yv]) (by rfl) hS ?_
            rw [encZ_eq]
            simp (config := { maxSteps := 1000000 }) [-List.map_map, -List.mapM_map, ↓awp_skip, ↓awp_regionB, ↓awp_seq, ↓awp_block, ↓awp_exit, ↓awp_ret, ↓awp_label, ↓awp_scope, ↓awp_condB, ↓awp_loopB, ↓ow_nil', ↓ow_cons0, ↓ow_cons1, ↓o1_move, ↓o1_assign, ↓o1_pick, ↓o1_alloc, ↓o1_box, ↓o1_build, ↓o1_buildSlice, ↓o1_makeSlice, ↓o1_makeMap, ↓o1_binOp, ↓o1_unOp, ↓o1_convert, ↓o1_fieldAddr, ↓o1_field, ↓o1_indexAddr, ↓o1_extract, ↓o1_slice, ↓o1_len, ↓o1_max, ↓o1_min, ↓o1_load, ↓o1_lookup, ↓o1_store, ↓o1_mapUpdate, ↓o1_append, ↓o1_delete, ↓o1_call, hw2, hd, hbb, le_maxLen, rowD_len, hly, rowD_scrub, hgi, cellsA_encM, one_encM, inj1_encM, inj_encM, kills_encM]
            refine nxt_intro 1 hgo (Nat.sub_lt_sub_left hgo (Nat.lt_succ_self _)) ?_
            simp only [owS, htk2]
            refine wk_l [1, 4] (by simp) ?_ ?_ <;> simp [-List.map_map, upd, inj1, Γ0, encC, cellsOk_rowD, subL_own_iff3, fcs_app, fcs_one, fcs_nil]
          · simp only [owS]
            generalize j + 1 = J at *
            have q2 : (J : Int) < x.length := by omega
            have hgt := rowD_get (x := .own 2 0 J 3) (m := m) hd
            have hly := fun v => rowD_lay (x := .own 2 0 J 3) (y := v) (m := m) hd
            have hJ : J ≤ 4294967296 := Nat.le_trans hj hxl
            have hw2 : IntKind.i64.wrap ((J : Int) + 1) = (J : Int) + 1 := wrap_i64 (by omega) (by omega)
            have hbb : (J + 1) * 40 ≤ 140737488355328 ∧ J + 1 ≤ 1099511627776 := ⟨by omega, by omega⟩
            generalize fcs (x.take J) = out at *
            simp (config := { maxSteps := 1000000 }) [-List.map_map, -List.mapM_map, ↓awp_skip, ↓awp_regionB, ↓awp_seq, ↓awp_block, ↓awp_exit, ↓awp_ret, ↓awp_label, ↓awp_scope, ↓awp_condB, ↓awp_loopB, ↓ow_nil', ↓ow_cons0, ↓ow_cons1, ↓o1_move, ↓o1_assign, ↓o1_pick, ↓o1_alloc, ↓o1_box, ↓o1_build, ↓o1_buildSlice, ↓o1_makeSlice, ↓o1_makeMap, ↓o1_binOp, ↓o1_unOp, ↓o1_convert, ↓o1_fieldAddr, ↓o1_field, ↓o1_indexAddr, ↓o1_extract, ↓o1_slice, ↓o1_len, ↓o1_max, ↓o1_min, ↓o1_load, ↓o1_lookup, ↓o1_store, ↓o1_mapUpdate, ↓o1_append, ↓o1_delete, ↓o1_call, q2, hy, encF_eq, encC, hgt, hgi, cellsA_encM, one_encM, inj1_encM, inj_encM, kills_encM]
            refine callP_intro (ds := [encZ yv]) (by rfl) hS ?_
            rw [encZ_eq]
            simp (config := { maxSteps := 1000000 }) [-List.map_map, -List.mapM_map, ↓awp_skip, ↓awp_regionB, ↓awp_seq, ↓awp_block, ↓awp_exit, ↓awp_ret, ↓awp_label, ↓awp_scope, ↓awp_condB, ↓awp_loopB, ↓ow_nil', ↓ow_cons0, ↓ow_cons1, ↓o1_move, ↓o1_assign, ↓o1_pick, ↓o1_alloc, ↓o1_box, ↓o1_build, ↓o1_buildSlice, ↓o1_makeSlice, ↓o1_makeMap, ↓o1_binOp, ↓o1_unOp, ↓o1_convert, ↓o1_fieldAddr, ↓o1_field, ↓o1_indexAddr, ↓o1_extract, ↓o1_slice, ↓o1_len, ↓o1_max, ↓o1_min, ↓o1_load, ↓o1_lookup, ↓o1_store, ↓o1_mapUpdate, ↓o1_append, ↓o1_delete, ↓o1_call, hw2, hd, hbb, hfl, le_maxLen, rowD_len, hly, rowD_scrub, hgi, cellsA_encM, one_encM, inj1_encM, inj_encM, kills_encM]
            refine nxt_intro (J + 1) hgo (Nat.sub_lt_sub_left hgo (Nat.lt_succ_self _)) ?_
            simp only [owS, htk2]
            refine wk_l [1, 5] (by simp) ?_ ?_ <;> simp [-List.map_map, upd, inj1, Γ0, encC, rowD_scrub, cellsOk_rowD, subL_own_iff3, fcs_app, fcs_one]
        · have e : j = x.length := by omega
          have hxt : x.take j = x := List.take_of_length_le (by omega)
          rcases j with _ | j
          · have hxn : x = [] := List.eq_nil_of_length_eq_zero e.symm
            simp only [owS]
            have q2 : ¬ (0 : Int) < x.length := by omega
            have q3 : ¬ 0 < x.length := by omega
            simp (config := { maxSteps := 1000000 }) [-List.map_map, -List.mapM_map, ↓awp_skip, ↓awp_regionB, ↓awp_seq, ↓awp_block, ↓awp_exit, ↓awp_ret, ↓awp_label, ↓awp_scope, ↓awp_condB, ↓awp_loopB, ↓ow_nil', ↓ow_cons0, ↓ow_cons1, ↓o1_move, ↓o1_assign, ↓o1_pick, ↓o1_alloc, ↓o1_box, ↓o1_build, ↓o1_buildSlice, ↓o1_makeSlice, ↓o1_makeMap, ↓o1_binOp, ↓o1_unOp, ↓o1_convert, ↓o1_fieldAddr, ↓o1_field, ↓o1_indexAddr, ↓o1_extract, ↓o1_slice, ↓o1_len, ↓o1_max, ↓o1_min, ↓o1_load, ↓o1_lookup, ↓o1_store, ↓o1_mapUpdate, ↓o1_append, ↓o1_delete, ↓o1_call, q2, q3, hw]
            refine nxt_intro (i + 1) hgi (Nat.sub_lt_sub_left hgi (Nat.lt_succ_self _)) ?_
            refine wk_l [1] (by simp) ?_ ?_
            · simp [-List.map_map, upd, inj1, Γ0, encC]
            · simp [-List.map_map, upd, inj1, Γ0, hmd]
              refine hend _ _ _ _ ?_
              rw [hxn]
              exact ⟨rfl, fun a ha => by simp [vis] at ha⟩
          · simp only [owS]
            rw [hxt]
            generalize j + 1 = J at *
            have q2 : ¬ (J : Int) < x.length := by omega
            simp (config := { maxSteps := 1000000 }) [-List.map_map, -List.mapM_map, ↓awp_skip, ↓awp_regionB, ↓awp_seq, ↓awp_block, ↓awp_exit, ↓awp_ret, ↓awp_label, ↓awp_scope, ↓awp_condB, ↓awp_loopB, ↓ow_nil', ↓ow_cons0, ↓ow_cons1, ↓o1_move, ↓o1_assign, ↓o1_pick, ↓o1_alloc, ↓o1_box, ↓o1_build, ↓o1_buildSlice, ↓o1_makeSlice, ↓o1_makeMap, ↓o1_binOp, ↓o1_unOp, ↓o1_convert, ↓o1_fieldAddr, ↓o1_field, ↓o1_indexAddr, ↓o1_extract, ↓o1_slice, ↓o1_len, ↓o1_max, ↓o1_min, ↓o1_load, ↓o1_lookup, ↓o1_store, ↓o1_mapUpdate, ↓o1_append, ↓o1_delete, ↓o1_call, q2, hw]
            refine nxt_intro (i + 1) hgi (Nat.sub_lt_sub_left hgi (Nat.lt_succ_self _)) ?_
            refine wk_l [1] (by simp) ?_ ?_
            · simp [-List.map_map, upd, inj1, Γ0, encC]
            · simp [-List.map_map, upd, inj1, Γ0, hmd]
              refine hend _ _ _ _ ?_
              exact subL_read (frz_fcs (e := 109) (by simp [upd, blkF]) e.symm).1 (frz_fcs (e := 109) (by simp [upd, blkF]) e.symm).2 (rho_neF (rs := [1]) (by decide) (by decide) (by simp))
    · have e : i = L.length := by omega
      have hL2 : L.take i = L := List.take_of_length_le (by omega)
      have hfm := rcs_len L
      have hst : rowE (rcs (L.take i)) (L.length - i) = (rcs L).map .d := by rw [hL2, e, Nat.sub_self, rowE_zero]
      rw [hst]
      have q1 : ¬ (i : Int) < L.length := by omega
      have hM := rcs_chunk L
      simp (config := { maxSteps := 1000000 }) [-List.map_map, -List.mapM_map, ↓awp_skip, ↓awp_regionB, ↓awp_seq, ↓awp_block, ↓awp_exit, ↓awp_ret, ↓awp_label, ↓awp_scope, ↓awp_condB, ↓awp_loopB, ↓ow_nil', ↓ow_cons0, ↓ow_cons1, ↓o1_move, ↓o1_assign, ↓o1_pick, ↓o1_alloc, ↓o1_box, ↓o1_build, ↓o1_buildSlice, ↓o1_makeSlice, ↓o1_makeMap, ↓o1_binOp, ↓o1_unOp, ↓o1_convert, ↓o1_fieldAddr, ↓o1_field, ↓o1_indexAddr, ↓o1_extract, ↓o1_slice, ↓o1_len, ↓o1_max, ↓o1_min, ↓o1_load, ↓o1_lookup, ↓o1_store, ↓o1_mapUpdate, ↓o1_append, ↓o1_delete, ↓o1_call, q1, hM, hfm]
      rw [List.take_of_length_le (by simp [hfm]), mapM_d _ 6 (rcs L)]
      simp [chunk_one _ _ hfm.symm]

end Go.Am

open Go Go.Am Go.Proofs
namespace Go.Am
set_option linter.unusedSimpArgs false

def capI (R c : Int) (L : List (List (Int × Int))) : D := .pt [.i .i64 R, .i .i64 c, .sl (L.map fun r => [encC r])]

theorem insFn (R c : Int) (L : List (List (Int × Int))) (t : Int × Int) : Spec Try.prog 84 [.ag (encF t), capI R c L] (.b (decide (c ≤ t.1))) := by
  refine spec_of (N := 9) follows_mixed Try.func84 rfl rfl rfl (by kernel_rfl) (by kernel_rfl) (by simp) ?_
  obtain ⟨a, b⟩ := t
  simp (config := { maxSteps := 1000000 }) [-List.map_map, -List.mapM_map, ↓awp_skip, ↓awp_regionB, ↓awp_seq, ↓awp_block, ↓awp_exit, ↓awp_ret, ↓awp_label, ↓awp_scope, ↓awp_condB, ↓awp_loopB, ↓ow_nil', ↓ow_cons0, ↓ow_cons1, ↓o1_move, ↓o1_assign, ↓o1_pick, ↓o1_alloc, ↓o1_box, ↓o1_build, ↓o1_buildSlice, ↓o1_makeSlice, ↓o1_makeMap, ↓o1_binOp, ↓o1_unOp, ↓o1_convert, ↓o1_fieldAddr, ↓o1_field, ↓o1_indexAddr, ↓o1_extract, ↓o1_slice, ↓o1_len, ↓o1_max, ↓o1_min, ↓o1_load, ↓o1_lookup, ↓o1_store, ↓o1_mapUpdate, ↓o1_append, ↓o1_delete, ↓o1_call, ↓luP_succ, ↓o1_makeFunc, ↓o1_index, ↓o1_callV, encF_eq, capI, cellsA_encM, one_encM, inj1_encM, inj_encM]

def fidx (c : Int) : Nat → List (Int × Int) → Int
  | _, [] => -1
  | k, x :: r => if c ≤ x.1 then (k : Int) else fidx c (k + 1) r
theorem fidx_any (c : Int) : ∀ (k : Nat) (r : List (Int × Int)), decide (0 ≤ fidx c k r) = r.any fun x => decide (c ≤ x.1)
  | _, [] => rfl
  | k, x :: r => by
    rw [fidx, List.any_cons]
    by_cases h : c ≤ x.1
    · rw [if_pos h, decide_eq_true h, Bool.true_or]; exact decide_eq_true (by omega)
    · rw [if_neg h, decide_eq_false h, Bool.false_or, fidx_any c (k + 1) r]

set_option maxHeartbeats 8000000 in
theorem indexFn (R c : Int) (L : List (List (Int × Int))) (row : List (Int × Int)) (hl : row.length ≤ 4294967296) : Spec Try.prog 116 [encC row, .fn 84 [capI R c L]] (.i .i64 (fidx c 0 row)) := by
  refine spec_of (N := 19) follows_mixed Try.func116 rfl rfl rfl (by kernel_rfl) (by kernel_rfl) (by simp) ?_
  simp (config := { maxSteps := 1000000 }) [-List.map_map, -List.mapM_map, ↓awp_skip, ↓awp_regionB, ↓awp_seq, ↓awp_block, ↓awp_exit, ↓awp_ret, ↓awp_label, ↓awp_scope, ↓awp_condB, ↓awp_loopB, ↓ow_nil', ↓ow_cons0, ↓ow_cons1, ↓o1_move, ↓o1_assign, ↓o1_pick, ↓o1_alloc, ↓o1_box, ↓o1_build, ↓o1_buildSlice, ↓o1_makeSlice, ↓o1_makeMap, ↓o1_binOp, ↓o1_unOp, ↓o1_convert, ↓o1_fieldAddr, ↓o1_field, ↓o1_indexAddr, ↓o1_extract, ↓o1_slice, ↓o1_len, ↓o1_max, ↓o1_min, ↓o1_load, ↓o1_lookup, ↓o1_store, ↓o1_mapUpdate, ↓o1_append, ↓o1_delete, ↓o1_call, ↓luP_succ, ↓o1_makeFunc, ↓o1_index, ↓o1_callV, encC]
  refine loopP_inv (fun i : Nat => i ≤ row.length ∧ fidx c 0 row = fidx c i (row.drop i)) (fun i => StL [(0, .d (encC row)), (1, .d (.fn 84 [capI R c L])), (7, .d (.i .i64 (row.length : Int))), (8, .d (.i .i64 (i : Int)))] none []) (fun i => row.length - i) 0 ⟨Nat.zero_le _, rfl⟩ ?_ ?_
  · refine wk_l [] (by simp) ?_ ?_ <;> simp [-List.map_map, upd, inj1, Γ0, encC]
  · rintro i ⟨hi, hf⟩
    rw [hf]
    by_cases hgo : i < row.length
    · have q1 : (i : Int) < row.length := by omega
      have hx : row[i]? = some row[i] := List.getElem?_eq_getElem hgo
      have hw : IntKind.i64.wrap ((i : Int) + 1) = (i : Int) + 1 := wrap_i64 (by omega) (by omega)
      rw [List.drop_eq_getElem_cons hgo] at hf ⊢
      generalize row[i] = x at *
      have hS := insFn R c L x
      rw [fidx] at hf ⊢
      obtain ⟨xc, xv⟩ := x
      simp (config := { maxSteps := 1000000 }) [-List.map_map, -List.mapM_map, ↓awp_skip, ↓awp_regionB, ↓awp_seq, ↓awp_block, ↓awp_exit, ↓awp_ret, ↓awp_label, ↓awp_scope, ↓awp_condB, ↓awp_loopB, ↓ow_nil', ↓ow_cons0, ↓ow_cons1, ↓o1_move, ↓o1_assign, ↓o1_pick, ↓o1_alloc, ↓o1_box, ↓o1_build, ↓o1_buildSlice, ↓o1_makeSlice, ↓o1_makeMap, ↓o1_binOp, ↓o1_unOp, ↓o1_convert, ↓o1_fieldAddr, ↓o1_field, ↓o1_indexAddr, ↓o1_extract, ↓o1_slice, ↓o1_len, ↓o1_max, ↓o1_min, ↓o1_load, ↓o1_lookup, ↓o1_store, ↓o1_mapUpdate, ↓o1_append, ↓o1_delete, ↓o1_call, ↓luP_succ, ↓o1_makeFunc, ↓o1_index, ↓o1_callV, encC, encF_eq, q1, hx, cellsA_encM, one_encM, inj1_encM, inj_encM]
      refine callV_intro (ds := [.ag (encF (xc, xv)), capI R c L]) (by rfl) hS ?_
      by_cases h : c ≤ xc
      · simp (config := { maxSteps := 1000000 }) [-List.map_map, -List.mapM_map, ↓awp_skip, ↓awp_regionB, ↓awp_seq, ↓awp_block, ↓awp_exit, ↓awp_ret, ↓awp_label, ↓awp_scope, ↓awp_condB, ↓awp_loopB, ↓ow_nil', ↓ow_cons0, ↓ow_cons1, ↓o1_move, ↓o1_assign, ↓o1_pick, ↓o1_alloc, ↓o1_box, ↓o1_build, ↓o1_buildSlice, ↓o1_makeSlice, ↓o1_makeMap, ↓o1_binOp, ↓o1_unOp, ↓o1_convert, ↓o1_fieldAddr, ↓o1_field, ↓o1_indexAddr, ↓o1_extract, ↓o1_slice, ↓o1_len, ↓o1_max, ↓o1_min, ↓o1_load, ↓o1_lookup, ↓o1_store, ↓o1_mapUpdate, ↓o1_append, ↓o1_delete, ↓o1_call, ↓luP_succ, ↓o1_makeFunc, ↓o1_index, ↓o1_callV, h]
      · rw [if_neg h] at hf
        simp (config := { maxSteps := 1000000 }) [-List.map_map, -List.mapM_map, ↓awp_skip, ↓awp_regionB, ↓awp_seq, ↓awp_block, ↓awp_exit, ↓awp_ret, ↓awp_label, ↓awp_scope, ↓awp_condB, ↓awp_loopB, ↓ow_nil', ↓ow_cons0, ↓ow_cons1, ↓o1_move, ↓o1_assign, ↓o1_pick, ↓o1_alloc, ↓o1_box, ↓o1_build, ↓o1_buildSlice, ↓o1_makeSlice, ↓o1_makeMap, ↓o1_binOp, ↓o1_unOp, ↓o1_convert, ↓o1_fieldAddr, ↓o1_field, ↓o1_indexAddr, ↓o1_extract, ↓o1_slice, ↓o1_len, ↓o1_max, ↓o1_min, ↓o1_load, ↓o1_lookup, ↓o1_store, ↓o1_mapUpdate, ↓o1_append, ↓o1_delete, ↓o1_call, ↓luP_succ, ↓o1_makeFunc, ↓o1_index, ↓o1_callV, h, hw]
        refine nxt_intro (i + 1) ⟨hgo, by first | exact hf | rw [if_neg h]⟩ (Nat.sub_lt_sub_left hgo (Nat.lt_succ_self _)) (wk_l [] (by simp) ?_ ?_) <;> simp [-List.map_map, upd, inj1, Γ0, encC]
    · have q1 : ¬ (i : Int) < row.length := by omega
      rw [List.drop_eq_nil_of_le (by omega), fidx]
      simp (config := { maxSteps := 1000000 }) [-List.map_map, -List.mapM_map, ↓awp_skip, ↓awp_regionB, ↓awp_seq, ↓awp_block, ↓awp_exit, ↓awp_ret, ↓awp_label, ↓awp_scope, ↓awp_condB, ↓awp_loopB, ↓ow_nil', ↓ow_cons0, ↓ow_cons1, ↓o1_move, ↓o1_assign, ↓o1_pick, ↓o1_alloc, ↓o1_box, ↓o1_build, ↓o1_buildSlice, ↓o1_makeSlice, ↓o1_makeMap, ↓o1_binOp, ↓o1_unOp, ↓o1_convert, ↓o1_fieldAddr, ↓o1_field, ↓o1_indexAddr, ↓o1_extract, ↓o1_slice, ↓o1_len, ↓o1_max, ↓o1_min, ↓o1_load, ↓o1_lookup, ↓o1_store, ↓o1_mapUpdate, ↓o1_append, ↓o1_delete, ↓o1_call, ↓luP_succ, ↓o1_makeFunc, ↓o1_index, ↓o1_callV, q1]

theorem containsFn (R c : Int) (L : List (List (Int × Int))) (row : List (Int × Int)) (hl : row.length ≤ 4294967296) : Spec Try.prog 83 [encC row, .fn 84 [capI R c L]] (.b (row.any fun x => decide (c ≤ x.1))) := by
  refine spec_of (N := 9) follows_mixed Try.func83 rfl rfl rfl (by kernel_rfl) (by kernel_rfl) (by simp) ?_
  have hS := indexFn R c L row hl
  rw [← fidx_any c 0 row]
  generalize fidx c 0 row = q at *
  simp (config := { maxSteps := 1000000 }) [-List.map_map, -List.mapM_map, ↓awp_skip, ↓awp_regionB, ↓awp_seq, ↓awp_block, ↓awp_exit, ↓awp_ret, ↓awp_label, ↓awp_scope, ↓awp_condB, ↓awp_loopB, ↓ow_nil', ↓ow_cons0, ↓ow_cons1, ↓o1_move, ↓o1_assign, ↓o1_pick, ↓o1_alloc, ↓o1_box, ↓o1_build, ↓o1_buildSlice, ↓o1_makeSlice, ↓o1_makeMap, ↓o1_binOp, ↓o1_unOp, ↓o1_convert, ↓o1_fieldAddr, ↓o1_field, ↓o1_indexAddr, ↓o1_extract, ↓o1_slice, ↓o1_len, ↓o1_max, ↓o1_min, ↓o1_load, ↓o1_lookup, ↓o1_store, ↓o1_mapUpdate, ↓o1_append, ↓o1_delete, ↓o1_call, ↓luP_succ, ↓o1_makeFunc, ↓o1_index, ↓o1_callV, encC]
  refine callP_intro (ds := [encC row, .fn 84 [capI R c L]]) (by rfl) hS ?_
  simp (config := { maxSteps := 1000000 }) [-List.map_map, -List.mapM_map, ↓awp_skip, ↓awp_regionB, ↓awp_seq, ↓awp_block, ↓awp_exit, ↓awp_ret, ↓awp_label, ↓awp_scope, ↓awp_condB, ↓awp_loopB, ↓ow_nil', ↓ow_cons0, ↓ow_cons1, ↓o1_move, ↓o1_assign, ↓o1_pick, ↓o1_alloc, ↓o1_box, ↓o1_build, ↓o1_buildSlice, ↓o1_makeSlice, ↓o1_makeMap, ↓o1_binOp, ↓o1_unOp, ↓o1_convert, ↓o1_fieldAddr, ↓o1_field, ↓o1_indexAddr, ↓o1_extract, ↓o1_slice, ↓o1_len, ↓o1_max, ↓o1_min, ↓o1_load, ↓o1_lookup, ↓o1_store, ↓o1_mapUpdate, ↓o1_append, ↓o1_delete, ↓o1_call, ↓luP_succ, ↓o1_makeFunc, ↓o1_index, ↓o1_callV, encC]

end Go.Am

open Go Go.Am Go.Proofs
namespace Go.Am
set_option linter.unusedSimpArgs false

theorem cellsA_encC (l : List (Int × Int)) : cellsA (.d (encC l)) = some [.d (encC l)] := rfl
theorem one_encC (l : List (Int × Int)) : one (AV.d (encC l)) = true := rfl
theorem inj1_encC (l : List (Int × Int)) : inj1 (encC l) = .d (encC l) := rfl

/-- A valid matrix. -/
structure MOk (c : Int) (L : List (List (Int × Int))) : Prop where
  srt : ∀ r ∈ L, Srt r
  col : ∀ r ∈ L, ∀ x ∈ r, 0 ≤ x.1 ∧ x.1 < c
  ok : ∀ r ∈ L, RowOk r
  pos : 0 ≤ c
  len : L.length ≤ 1000000

theorem encS_tmZ (R c : Int) (L : List (List (Int × Int))) : encS R c (L.map fun r => r.map tmZ) = encSp R c L := by
  unfold encS encSp
  rw [List.map_map]
  rw [show ((fun r => [encR r]) ∘ fun r : List (Int × Int) => r.map tmZ) = fun r => [encC r] from funext fun r => by simp [encR_tmZ]]

theorem spValidZ {c : Int} {L : List (List (Int × Int))} (h : MOk c L) : Spec Try.prog 23 [encSp L.length c L] (.b true) := by
  have h1 := spValid L.length c (L.map fun r => r.map tmZ) (fun r hr => by
    obtain ⟨x, hx, rfl⟩ := List.mem_map.1 hr
    refine ⟨fun t ht => ?_, ?_⟩
    · obtain ⟨y, hy, rfl⟩ := List.mem_map.1 ht
      exact Nat.le_trans ((h.ok x hx).1 y hy) (by decide)
    · rw [List.length_map]; exact Nat.le_trans (h.ok x hx).2 (by decide)) (by rw [List.length_map]; exact Nat.le_trans h.len (by decide))
  rw [encS_tmZ] at h1
  have h2 : matR L.length c (L.map fun r => r.map tmZ) = true := matR_true (by simp) (by have := h.pos; omega) fun j hj r hr => by
    rw [List.getElem?_map] at hr
    obtain ⟨x, hx, rfl⟩ := Option.map_eq_some_iff.1 hr
    have hm := List.mem_of_getElem? hx
    exact rowR_tmZ (h.srt x hm) (h.col x hm)
  rwa [h2] at h1

theorem spInsArg {c : Int} {L : List (List (Int × Int))} (h : MOk c L) (i : Int) (row : List (Int × Int)) (hi : i < 0 ∨ (L.length : Int) < i) : Spec Try.prog 35 [encSp L.length c L, .i .i64 i, encC row] (bad 1) := by
  refine spec_of (N := 49) follows_mixed Try.func35 rfl rfl rfl (by kernel_rfl) (by kernel_rfl) (by simp) ?_
  have hV := spValidZ h
  simp (config := { maxSteps := 1000000 }) [-List.map_map, -List.mapM_map, ↓awp_skip, ↓awp_regionB, ↓awp_seq, ↓awp_block, ↓awp_exit, ↓awp_ret, ↓awp_label, ↓awp_scope, ↓awp_condB, ↓awp_loopB, ↓ow_nil', ↓ow_cons0, ↓ow_cons1, ↓o1_move, ↓o1_assign, ↓o1_pick, ↓o1_alloc, ↓o1_box, ↓o1_build, ↓o1_buildSlice, ↓o1_makeSlice, ↓o1_makeMap, ↓o1_binOp, ↓o1_unOp, ↓o1_convert, ↓o1_fieldAddr, ↓o1_field, ↓o1_indexAddr, ↓o1_extract, ↓o1_slice, ↓o1_len, ↓o1_max, ↓o1_min, ↓o1_load, ↓o1_lookup, ↓o1_store, ↓o1_mapUpdate, ↓o1_append, ↓o1_delete, ↓o1_call, ↓luP_succ, ↓o1_makeFunc, ↓o1_index, ↓o1_callV, encSp]
  refine callP_intro (ds := [encSp L.length c L]) (by rfl) hV ?_
  by_cases h0 : i < 0
  · simp (config := { maxSteps := 1000000 }) [-List.map_map, -List.mapM_map, ↓awp_skip, ↓awp_regionB, ↓awp_seq, ↓awp_block, ↓awp_exit, ↓awp_ret, ↓awp_label, ↓awp_scope, ↓awp_condB, ↓awp_loopB, ↓ow_nil', ↓ow_cons0, ↓ow_cons1, ↓o1_move, ↓o1_assign, ↓o1_pick, ↓o1_alloc, ↓o1_box, ↓o1_build, ↓o1_buildSlice, ↓o1_makeSlice, ↓o1_makeMap, ↓o1_binOp, ↓o1_unOp, ↓o1_convert, ↓o1_fieldAddr, ↓o1_field, ↓o1_indexAddr, ↓o1_extract, ↓o1_slice, ↓o1_len, ↓o1_max, ↓o1_min, ↓o1_load, ↓o1_lookup, ↓o1_store, ↓o1_mapUpdate, ↓o1_append, ↓o1_delete, ↓o1_call, ↓luP_succ, ↓o1_makeFunc, ↓o1_index, ↓o1_callV, h0, bad, encSp, resD_two]
  · have h1 : (L.length : Int) < i := by omega
    simp (config := { maxSteps := 1000000 }) [-List.map_map, -List.mapM_map, ↓awp_skip, ↓awp_regionB, ↓awp_seq, ↓awp_block, ↓awp_exit, ↓awp_ret, ↓awp_label, ↓awp_scope, ↓awp_condB, ↓awp_loopB, ↓ow_nil', ↓ow_cons0, ↓ow_cons1, ↓o1_move, ↓o1_assign, ↓o1_pick, ↓o1_alloc, ↓o1_box, ↓o1_build, ↓o1_buildSlice, ↓o1_makeSlice, ↓o1_makeMap, ↓o1_binOp, ↓o1_unOp, ↓o1_convert, ↓o1_fieldAddr, ↓o1_field, ↓o1_indexAddr, ↓o1_extract, ↓o1_slice, ↓o1_len, ↓o1_max, ↓o1_min, ↓o1_load, ↓o1_lookup, ↓o1_store, ↓o1_mapUpdate, ↓o1_append, ↓o1_delete, ↓o1_call, ↓luP_succ, ↓o1_makeFunc, ↓o1_index, ↓o1_callV, h0, h1, bad, encSp, resD_two]

theorem spInsShape {c : Int} {L : List (List (Int × Int))} (h : MOk c L) (i : Int) (row : List (Int × Int)) (hl : row.length ≤ 4294967296) (h0 : ¬ i < 0) (h1 : ¬ (L.length : Int) < i) (hany : (row.any fun x => decide (c ≤ x.1)) = true) : Spec Try.prog 35 [encSp L.length c L, .i .i64 i, encC row] (bad 50) := by
  refine spec_of (N := 49) follows_mixed Try.func35 rfl rfl rfl (by kernel_rfl) (by kernel_rfl) (by simp) ?_
  have hV := spValidZ h
  have hC := containsFn L.length c L row hl
  rw [hany] at hC
  simp (config := { maxSteps := 1000000 }) [-List.map_map, -List.mapM_map, ↓awp_skip, ↓awp_regionB, ↓awp_seq, ↓awp_block, ↓awp_exit, ↓awp_ret, ↓awp_label, ↓awp_scope, ↓awp_condB, ↓awp_loopB, ↓ow_nil', ↓ow_cons0, ↓ow_cons1, ↓o1_move, ↓o1_assign, ↓o1_pick, ↓o1_alloc, ↓o1_box, ↓o1_build, ↓o1_buildSlice, ↓o1_makeSlice, ↓o1_makeMap, ↓o1_binOp, ↓o1_unOp, ↓o1_convert, ↓o1_fieldAddr, ↓o1_field, ↓o1_indexAddr, ↓o1_extract, ↓o1_slice, ↓o1_len, ↓o1_max, ↓o1_min, ↓o1_load, ↓o1_lookup, ↓o1_store, ↓o1_mapUpdate, ↓o1_append, ↓o1_delete, ↓o1_call, ↓luP_succ, ↓o1_makeFunc, ↓o1_index, ↓o1_callV, encSp]
  refine callP_intro (ds := [encSp L.length c L]) (by rfl) hV ?_
  simp (config := { maxSteps := 1000000 }) [-List.map_map, -List.mapM_map, ↓awp_skip, ↓awp_regionB, ↓awp_seq, ↓awp_block, ↓awp_exit, ↓awp_ret, ↓awp_label, ↓awp_scope, ↓awp_condB, ↓awp_loopB, ↓ow_nil', ↓ow_cons0, ↓ow_cons1, ↓o1_move, ↓o1_assign, ↓o1_pick, ↓o1_alloc, ↓o1_box, ↓o1_build, ↓o1_buildSlice, ↓o1_makeSlice, ↓o1_makeMap, ↓o1_binOp, ↓o1_unOp, ↓o1_convert, ↓o1_fieldAddr, ↓o1_field, ↓o1_indexAddr, ↓o1_extract, ↓o1_slice, ↓o1_len, ↓o1_max, ↓o1_min, ↓o1_load, ↓o1_lookup, ↓o1_store, ↓o1_mapUpdate, ↓o1_append, ↓o1_delete, ↓o1_call, ↓luP_succ, ↓o1_makeFunc, ↓o1_index, ↓o1_callV, h0, h1]
  refine callP_intro (ds := [encC row, .fn 84 [capI L.length c L]]) (by rfl) hC ?_
  simp (config := { maxSteps := 1000000 }) [-List.map_map, -List.mapM_map, ↓awp_skip, ↓awp_regionB, ↓awp_seq, ↓awp_block, ↓awp_exit, ↓awp_ret, ↓awp_label, ↓awp_scope, ↓awp_condB, ↓awp_loopB, ↓ow_nil', ↓ow_cons0, ↓ow_cons1, ↓o1_move, ↓o1_assign, ↓o1_pick, ↓o1_alloc, ↓o1_box, ↓o1_build, ↓o1_buildSlice, ↓o1_makeSlice, ↓o1_makeMap, ↓o1_binOp, ↓o1_unOp, ↓o1_convert, ↓o1_fieldAddr, ↓o1_field, ↓o1_indexAddr, ↓o1_extract, ↓o1_slice, ↓o1_len, ↓o1_max, ↓o1_min, ↓o1_load, ↓o1_lookup, ↓o1_store, ↓o1_mapUpdate, ↓o1_append, ↓o1_delete, ↓o1_call, ↓luP_succ, ↓o1_makeFunc, ↓o1_index, ↓o1_callV, bad, encSp, resD_two]

theorem okHead_map (l : List (List (Int × Int))) : okHead 1 (l.map fun r => [encC r]) = true := by cases l <;> rfl
theorem flat_map (l : List (List (Int × Int))) : (l.map fun r => [encC r]).flatten = rcs l := by
  rw [rcs_chunk]; induction rcs l with
  | nil => rfl
  | cons x r ih => simp [ih]
theorem all_one (l : List (List (Int × Int))) : ((rcs l).map AV.d).all one = true := by
  simp [rcs, List.all_eq_true]; intro _ _; rfl

theorem frz_own1 {H : Nat → Option HO} {B n : Nat} {e : TypeId} {cs : List AV} {M : List (List (Int × Int))} (hB : H B = some (.cells e cs)) (hcs : cs = (rcs M).map .d) (hn : M.length = n) :
    frz H 8 (.own B 0 n 1) = some (.sl (M.map fun r => [encC r])) ∧ vis H 8 (.own B 0 n 1) = [B] := by
  subst hcs
  have hl : (rcs M).length = n := by rw [rcs_len]; exact hn
  have ht : (List.map AV.d (rcs M)).take n = List.map AV.d (rcs M) := List.take_of_length_le (by simp [hl])
  constructor
  · rw [frz_own, hB]
    simp only [Nat.zero_add, List.length_map, hl, Nat.zero_mul, List.drop_zero, Nat.mul_one]
    rw [ht, if_pos ⟨Nat.le_refl _, by decide⟩]
    have : List.mapM (frz H 7) ((rcs M).map AV.d) = some (rcs M) := mapM_d H 6 (rcs M)
    rw [this, Option.map_some, chunk_one _ _ hl.symm, rcs_chunk]
  · simp only [vis, hB, Nat.zero_mul, List.drop_zero, Nat.mul_one]
    rw [ht]
    congr 1
    refine List.flatMap_eq_nil_iff.2 fun x hx => ?_
    obtain ⟨y, _, rfl⟩ := List.mem_map.1 hx
    rfl
theorem frzs_own1 {H : Nat → Option HO} {B n : Nat} {e : TypeId} {cs : List AV} {M : List (List (Int × Int))} (hB : H B = some (.cells e cs)) (hcs : cs = (rcs M).map .d) (hn : M.length = n) :
    frzs H [.own B 0 n 1] = some [.sl (M.map fun r => [encC r])] ∧ viss H [.own B 0 n 1] = [B] := by
  obtain ⟨h1, h2⟩ := frz_own1 hB hcs hn
  constructor
  · unfold frzs; simp [h1]
  · unfold viss; simp [h2]
theorem viss_own1 {H : Nat → Option HO} {B n : Nat} {e : TypeId} {cs : List AV} {M : List (List (Int × Int))} (hB : H B = some (.cells e cs)) (hcs : cs = (rcs M).map .d) (hn : M.length = n) :
    viss H [.own B 0 n 1] = [B] := (frzs_own1 hB hcs hn).2
theorem fm7 (H : Nat → Option HO) (l : List D) : List.flatMap (vis H 7) (l.map AV.d) = [] := by
  refine List.flatMap_eq_nil_iff.2 fun x hx => ?_
  obtain ⟨y, _, rfl⟩ := List.mem_map.1 hx
  rfl
theorem insL_len {L : List (List (Int × Int))} {i : Nat} {row : List (Int × Int)} (hi : i ≤ L.length) : (insL L i row).length = i + 1 + (L.length - i) := by
  rw [insL, List.length_append, List.length_cons, List.length_take, List.length_drop, Nat.min_eq_left hi]; omega
theorem insL_mem {L : List (List (Int × Int))} {i : Nat} {row x : List (Int × Int)} (h : x ∈ insL L i row) : x ∈ L ∨ x = row := by
  rw [insL, List.mem_append, List.mem_cons] at h
  rcases h with h | h | h
  · exact .inl (List.mem_of_mem_take h)
  · exact .inr h
  · exact .inl (List.mem_of_mem_drop h)
theorem insL_cells (L : List (List (Int × Int))) (i : Nat) (row : List (Int × Int)) (l : List Nat) : List.map (scrub0 l) (List.map AV.d (rcs (List.take i L)) ++ AV.d (encC row) :: List.map AV.d (rcs (List.drop i L))) = (rcs (insL L i row)).map .d := by
  rw [show List.map AV.d (rcs (List.take i L)) ++ AV.d (encC row) :: List.map AV.d (rcs (List.drop i L)) = (rcs (insL L i row)).map .d by simp [insL, rcs], scrub_map]

set_option maxHeartbeats 8000000 in
set_option maxRecDepth 10000 in
theorem spInsOk {c : Int} {L : List (List (Int × Int))} (h : MOk c L) (i : Nat) (row : List (Int × Int)) (hrow : RowOk row) (hL : L.length ≤ 1000) (hi : i ≤ L.length) (hany : (row.any fun x => decide (c ≤ x.1)) = false) : Spec Try.prog 35 [encSp L.length c L, .i .i64 (i : Int), encC row] (.tp [encSp ((L.length : Int) + 1) c (insL L i row), .i .i64 0]) := by
  refine spec_of (N := 49) follows_mixed Try.func35 rfl rfl rfl (by kernel_rfl) (by kernel_rfl) (by simp) ?_
  have hV := spValidZ h
  have hC := containsFn L.length c L row hrow.2
  rw [hany] at hC
  have h0 : ¬ (i : Int) < 0 := by omega
  have h1 : ¬ (L.length : Int) < i := by omega
  have h2 : ¬ L.length < i := by omega
  simp (config := { maxSteps := 1000000 }) [-List.map_map, -List.mapM_map, ↓awp_skip, ↓awp_regionB, ↓awp_seq, ↓awp_block, ↓awp_exit, ↓awp_ret, ↓awp_label, ↓awp_scope, ↓awp_condB, ↓awp_loopB, ↓ow_nil', ↓ow_cons0, ↓ow_cons1, ↓o1_move, ↓o1_assign, ↓o1_pick, ↓o1_alloc, ↓o1_box, ↓o1_build, ↓o1_buildSlice, ↓o1_makeSlice, ↓o1_makeMap, ↓o1_binOp, ↓o1_unOp, ↓o1_convert, ↓o1_fieldAddr, ↓o1_field, ↓o1_indexAddr, ↓o1_extract, ↓o1_slice, ↓o1_len, ↓o1_max, ↓o1_min, ↓o1_load, ↓o1_lookup, ↓o1_store, ↓o1_mapUpdate, ↓o1_append, ↓o1_delete, ↓o1_call, ↓luP_succ, ↓o1_makeFunc, ↓o1_index, ↓o1_callV, encSp]
  refine callP_intro (ds := [encSp L.length c L]) (by rfl) hV ?_
  simp (config := { maxSteps := 1000000 }) [-List.map_map, -List.mapM_map, ↓awp_skip, ↓awp_regionB, ↓awp_seq, ↓awp_block, ↓awp_exit, ↓awp_ret, ↓awp_label, ↓awp_scope, ↓awp_condB, ↓awp_loopB, ↓ow_nil', ↓ow_cons0, ↓ow_cons1, ↓o1_move, ↓o1_assign, ↓o1_pick, ↓o1_alloc, ↓o1_box, ↓o1_build, ↓o1_buildSlice, ↓o1_makeSlice, ↓o1_makeMap, ↓o1_binOp, ↓o1_unOp, ↓o1_convert, ↓o1_fieldAddr, ↓o1_field, ↓o1_indexAddr, ↓o1_extract, ↓o1_slice, ↓o1_len, ↓o1_max, ↓o1_min, ↓o1_load, ↓o1_lookup, ↓o1_store, ↓o1_mapUpdate, ↓o1_append, ↓o1_delete, ↓o1_call, ↓luP_succ, ↓o1_makeFunc, ↓o1_index, ↓o1_callV, h0, h1, h2]
  refine callP_intro (ds := [encC row, .fn 84 [capI L.length c L]]) (by rfl) hC ?_
  have hok1 : okHead 1 ((L.map fun r => [encC r]).take i) = true := by rw [← List.map_take]; exact okHead_map _
  have hok2 : okHead 1 ((L.map fun r => [encC r]).drop i) = true := by rw [← List.map_drop]; exact okHead_map _
  have hok0 := okHead_map L
  have hfl1 : ((L.map fun r => [encC r]).take i).flatten = rcs (L.take i) := by rw [← List.map_take]; exact flat_map _
  have hfl2 : ((L.map fun r => [encC r]).drop i).flatten = rcs (L.drop i) := by rw [← List.map_drop]; exact flat_map _
  have hon1 := all_one (L.take i)
  have hon2 := all_one (L.drop i)
  have hln1 : (rcs (L.take i)).length = i := by rw [rcs_len, List.length_take]; exact Nat.min_eq_left hi
  have hmin : min i L.length = i := Nat.min_eq_left hi
  have htl : (L.map fun r => [encC r]).take L.length = L.map fun r => [encC r] := List.take_of_length_le (by simp)
  have hbb : (i + 1) * 24 ≤ 140737488355328 ∧ i + 1 ≤ 1099511627776 := ⟨by omega, by omega⟩
  have hbc : (i + 1 + (L.length - i)) * 24 ≤ 140737488355328 ∧ i + 1 + (L.length - i) ≤ 1099511627776 := ⟨by omega, by omega⟩
  simp (config := { maxSteps := 1000000 }) [-List.map_map, -List.mapM_map, ↓awp_skip, ↓awp_regionB, ↓awp_seq, ↓awp_block, ↓awp_exit, ↓awp_ret, ↓awp_label, ↓awp_scope, ↓awp_condB, ↓awp_loopB, ↓ow_nil', ↓ow_cons0, ↓ow_cons1, ↓o1_move, ↓o1_assign, ↓o1_pick, ↓o1_alloc, ↓o1_box, ↓o1_build, ↓o1_buildSlice, ↓o1_makeSlice, ↓o1_makeMap, ↓o1_binOp, ↓o1_unOp, ↓o1_convert, ↓o1_fieldAddr, ↓o1_field, ↓o1_indexAddr, ↓o1_extract, ↓o1_slice, ↓o1_len, ↓o1_max, ↓o1_min, ↓o1_load, ↓o1_lookup, ↓o1_store, ↓o1_mapUpdate, ↓o1_append, ↓o1_delete, ↓o1_call, ↓luP_succ, ↓o1_makeFunc, ↓o1_index, ↓o1_callV, hi, hok0, hok1, hok2, hfl1, hfl2, hon1, hon2, hln1, hmin, htl, hbb, hbc, le_maxLen, cellsA_encC, one_encC, inj1_encC]
  have hR := ownRows (insL L i row) (fun x hx => by
    rcases insL_mem hx with h' | rfl
    · exact h.ok x h'
    · exact hrow) (by rw [insL_len hi]; omega)
  have hwR : IntKind.i64.wrap ((L.length : Int) + 1) = (L.length : Int) + 1 := wrap_i64 (by omega) (by omega)
  refine callP_intro (ds := [.sl ((insL L i row).map fun r => [encC r])]) (frzs_own1 rfl (insL_cells L i row _) (insL_len hi)).1 hR ?_
  have hcl := insL_cells L i row
  have hlI : (rcs (insL L i row)).length = i + 1 + (L.length - i) := by rw [rcs_len]; exact insL_len hi
  have hT : (List.map AV.d (rcs (insL L i row))).take (i + 1 + (L.length - i)) = List.map AV.d (rcs (insL L i row)) := List.take_of_length_le (by simp [hlI])
  simp (config := { maxSteps := 1000000 }) [-List.map_map, -List.mapM_map, ↓awp_skip, ↓awp_regionB, ↓awp_seq, ↓awp_block, ↓awp_exit, ↓awp_ret, ↓awp_label, ↓awp_scope, ↓awp_condB, ↓awp_loopB, ↓ow_nil', ↓ow_cons0, ↓ow_cons1, ↓o1_move, ↓o1_assign, ↓o1_pick, ↓o1_alloc, ↓o1_box, ↓o1_build, ↓o1_buildSlice, ↓o1_makeSlice, ↓o1_makeMap, ↓o1_binOp, ↓o1_unOp, ↓o1_convert, ↓o1_fieldAddr, ↓o1_field, ↓o1_indexAddr, ↓o1_extract, ↓o1_slice, ↓o1_len, ↓o1_max, ↓o1_min, ↓o1_load, ↓o1_lookup, ↓o1_store, ↓o1_mapUpdate, ↓o1_append, ↓o1_delete, ↓o1_call, ↓luP_succ, ↓o1_makeFunc, ↓o1_index, ↓o1_callV, hwR, encSp, resD_two, hcl, hlI, hT, fm7]

end Go.Am

open Go Go.Am Go.Proofs
namespace Go.Am
set_option linter.unusedSimpArgs false

theorem spRemArg {c : Int} {L : List (List (Int × Int))} (h : MOk c L) (i : Int) (hi : i < 0 ∨ (L.length : Int) ≤ i) : Spec Try.prog 37 [encSp L.length c L, .i .i64 i] (bad 1) := by
  refine spec_of (N := 40) follows_mixed Try.func37 rfl rfl rfl (by kernel_rfl) (by kernel_rfl) (by simp) ?_
  have hV := spValidZ h
  simp (config := { maxSteps := 1000000 }) [-List.map_map, -List.mapM_map, ↓awp_skip, ↓awp_regionB, ↓awp_seq, ↓awp_block, ↓awp_exit, ↓awp_ret, ↓awp_label, ↓awp_scope, ↓awp_condB, ↓awp_loopB, ↓ow_nil', ↓ow_cons0, ↓ow_cons1, ↓o1_move, ↓o1_assign, ↓o1_pick, ↓o1_alloc, ↓o1_box, ↓o1_build, ↓o1_buildSlice, ↓o1_makeSlice, ↓o1_makeMap, ↓o1_binOp, ↓o1_unOp, ↓o1_convert, ↓o1_fieldAddr, ↓o1_field, ↓o1_indexAddr, ↓o1_extract, ↓o1_slice, ↓o1_len, ↓o1_max, ↓o1_min, ↓o1_load, ↓o1_lookup, ↓o1_store, ↓o1_mapUpdate, ↓o1_append, ↓o1_delete, ↓o1_call, ↓luP_succ, ↓o1_makeFunc, ↓o1_index, ↓o1_callV, encSp]
  refine callP_intro (ds := [encSp L.length c L]) (by rfl) hV ?_
  by_cases h0 : i < 0
  · simp (config := { maxSteps := 1000000 }) [-List.map_map, -List.mapM_map, ↓awp_skip, ↓awp_regionB, ↓awp_seq, ↓awp_block, ↓awp_exit, ↓awp_ret, ↓awp_label, ↓awp_scope, ↓awp_condB, ↓awp_loopB, ↓ow_nil', ↓ow_cons0, ↓ow_cons1, ↓o1_move, ↓o1_assign, ↓o1_pick, ↓o1_alloc, ↓o1_box, ↓o1_build, ↓o1_buildSlice, ↓o1_makeSlice, ↓o1_makeMap, ↓o1_binOp, ↓o1_unOp, ↓o1_convert, ↓o1_fieldAddr, ↓o1_field, ↓o1_indexAddr, ↓o1_extract, ↓o1_slice, ↓o1_len, ↓o1_max, ↓o1_min, ↓o1_load, ↓o1_lookup, ↓o1_store, ↓o1_mapUpdate, ↓o1_append, ↓o1_delete, ↓o1_call, ↓luP_succ, ↓o1_makeFunc, ↓o1_index, ↓o1_callV, h0, bad, encSp, resD_two]
  · have h1 : (L.length : Int) ≤ i := by omega
    simp (config := { maxSteps := 1000000 }) [-List.map_map, -List.mapM_map, ↓awp_skip, ↓awp_regionB, ↓awp_seq, ↓awp_block, ↓awp_exit, ↓awp_ret, ↓awp_label, ↓awp_scope, ↓awp_condB, ↓awp_loopB, ↓ow_nil', ↓ow_cons0, ↓ow_cons1, ↓o1_move, ↓o1_assign, ↓o1_pick, ↓o1_alloc, ↓o1_box, ↓o1_build, ↓o1_buildSlice, ↓o1_makeSlice, ↓o1_makeMap, ↓o1_binOp, ↓o1_unOp, ↓o1_convert, ↓o1_fieldAddr, ↓o1_field, ↓o1_indexAddr, ↓o1_extract, ↓o1_slice, ↓o1_len, ↓o1_max, ↓o1_min, ↓o1_load, ↓o1_lookup, ↓o1_store, ↓o1_mapUpdate, ↓o1_append, ↓o1_delete, ↓o1_call, ↓luP_succ, ↓o1_makeFunc, ↓o1_index, ↓o1_callV, h0, h1, bad, encSp, resD_two]

theorem remL_len {L : List (List (Int × Int))} {i : Nat} (hi : i < L.length) : (remL L i).length = i + (L.length - (i + 1)) := by
  rw [remL, List.length_append, List.length_take, List.length_drop, Nat.min_eq_left (Nat.le_of_lt hi)]
theorem remL_mem {L : List (List (Int × Int))} {i : Nat} {x : List (Int × Int)} (h : x ∈ remL L i) : x ∈ L := by
  rw [remL, List.mem_append] at h
  rcases h with h | h
  · exact List.mem_of_mem_take h
  · exact List.mem_of_mem_drop h
theorem remL_cells (L : List (List (Int × Int))) (i : Nat) : List.map AV.d (rcs (List.take i L)) ++ List.map AV.d (rcs (List.drop (i + 1) L)) = (rcs (remL L i)).map .d := by simp [remL, rcs]

set_option maxHeartbeats 8000000 in
set_option maxRecDepth 10000 in
theorem spRemOk {c : Int} {L : List (List (Int × Int))} (h : MOk c L) (i : Nat) (hL : L.length ≤ 1000) (hi : i < L.length) : Spec Try.prog 37 [encSp L.length c L, .i .i64 (i : Int)] (.tp [encSp ((L.length : Int) - 1) c (remL L i), .i .i64 0]) := by
  refine spec_of (N := 40) follows_mixed Try.func37 rfl rfl rfl (by kernel_rfl) (by kernel_rfl) (by simp) ?_
  have hV := spValidZ h
  have h0 : ¬ (i : Int) < 0 := by omega
  have h1 : ¬ (L.length : Int) ≤ i := by omega
  have h2 : ¬ L.length ≤ i := by omega
  simp (config := { maxSteps := 1000000 }) [-List.map_map, -List.mapM_map, ↓awp_skip, ↓awp_regionB, ↓awp_seq, ↓awp_block, ↓awp_exit, ↓awp_ret, ↓awp_label, ↓awp_scope, ↓awp_condB, ↓awp_loopB, ↓ow_nil', ↓ow_cons0, ↓ow_cons1, ↓o1_move, ↓o1_assign, ↓o1_pick, ↓o1_alloc, ↓o1_box, ↓o1_build, ↓o1_buildSlice, ↓o1_makeSlice, ↓o1_makeMap, ↓o1_binOp, ↓o1_unOp, ↓o1_convert, ↓o1_fieldAddr, ↓o1_field, ↓o1_indexAddr, ↓o1_extract, ↓o1_slice, ↓o1_len, ↓o1_max, ↓o1_min, ↓o1_load, ↓o1_lookup, ↓o1_store, ↓o1_mapUpdate, ↓o1_append, ↓o1_delete, ↓o1_call, ↓luP_succ, ↓o1_makeFunc, ↓o1_index, ↓o1_callV, encSp]
  refine callP_intro (ds := [encSp L.length c L]) (by rfl) hV ?_
  have hi2 : i ≤ L.length := by omega
  have hi3 : i + 1 ≤ L.length := by omega
  have hi4 : (i : Int) + 1 ≤ L.length := by omega
  have hi5 : (0 : Int) ≤ (i : Int) + 1 := by omega
  have hw : IntKind.i64.wrap ((i : Int) + 1) = ((i + 1 : Nat) : Int) := by rw [wrap_i64 (by omega) (by omega)]; rfl
  have hwR : IntKind.i64.wrap ((L.length : Int) - 1) = (L.length : Int) - 1 := wrap_i64 (by omega) (by omega)
  have hok1 : okHead 1 ((L.map fun r => [encC r]).take i) = true := by rw [← List.map_take]; exact okHead_map _
  have hok2 : okHead 1 ((L.map fun r => [encC r]).drop (i + 1)) = true := by rw [← List.map_drop]; exact okHead_map _
  have hok0 := okHead_map L
  have hfl1 : ((L.map fun r => [encC r]).take i).flatten = rcs (L.take i) := by rw [← List.map_take]; exact flat_map _
  have hfl2 : ((L.map fun r => [encC r]).drop (i + 1)).flatten = rcs (L.drop (i + 1)) := by rw [← List.map_drop]; exact flat_map _
  have hon1 := all_one (L.take i)
  have hon2 := all_one (L.drop (i + 1))
  have hln1 : (rcs (L.take i)).length = i := by rw [rcs_len, List.length_take]; exact Nat.min_eq_left hi2
  have hmin : min i L.length = i := Nat.min_eq_left hi2
  have htl : (L.map fun r => [encC r]).take L.length = L.map fun r => [encC r] := List.take_of_length_le (by simp)
  have hR := ownRows (remL L i) (fun x hx => h.ok x (remL_mem hx)) (by rw [remL_len hi]; omega)
  have hlI : (rcs (remL L i)).length = i + (L.length - (i + 1)) := by rw [rcs_len]; exact remL_len hi
  have hT : (List.map AV.d (rcs (remL L i))).take (i + (L.length - (i + 1))) = List.map AV.d (rcs (remL L i)) := List.take_of_length_le (by simp [hlI])
  by_cases hlast : i + 1 = L.length
  · have hz : L.length - (i + 1) = 0 := by omega
    have hr : ((L.map fun r => [encC r]).take i) = (remL L i).map fun r => [encC r] := by rw [← List.map_take, remL, List.drop_eq_nil_of_le (by omega), List.append_nil]
    have hdn : ((L.map fun r => [encC r]).drop (i + 1)) = [] := List.drop_eq_nil_of_le (by simp; omega)
    simp (config := { maxSteps := 1000000 }) [-List.map_map, -List.mapM_map, ↓awp_skip, ↓awp_regionB, ↓awp_seq, ↓awp_block, ↓awp_exit, ↓awp_ret, ↓awp_label, ↓awp_scope, ↓awp_condB, ↓awp_loopB, ↓ow_nil', ↓ow_cons0, ↓ow_cons1, ↓o1_move, ↓o1_assign, ↓o1_pick, ↓o1_alloc, ↓o1_box, ↓o1_build, ↓o1_buildSlice, ↓o1_makeSlice, ↓o1_makeMap, ↓o1_binOp, ↓o1_unOp, ↓o1_convert, ↓o1_fieldAddr, ↓o1_field, ↓o1_indexAddr, ↓o1_extract, ↓o1_slice, ↓o1_len, ↓o1_max, ↓o1_min, ↓o1_load, ↓o1_lookup, ↓o1_store, ↓o1_mapUpdate, ↓o1_append, ↓o1_delete, ↓o1_call, ↓luP_succ, ↓o1_makeFunc, ↓o1_index, ↓o1_callV, h0, h1, h2, hi2, hi3, hi4, hi5, hw, hwR, hok0, hok1, hok2, hfl1, hon1, hln1, hmin, htl, hz, hdn, hr, le_maxLen, okHead_map]
    refine callP_intro (ds := [.sl ((remL L i).map fun r => [encC r])]) (by rfl) hR ?_
    simp (config := { maxSteps := 1000000 }) [-List.map_map, -List.mapM_map, ↓awp_skip, ↓awp_regionB, ↓awp_seq, ↓awp_block, ↓awp_exit, ↓awp_ret, ↓awp_label, ↓awp_scope, ↓awp_condB, ↓awp_loopB, ↓ow_nil', ↓ow_cons0, ↓ow_cons1, ↓o1_move, ↓o1_assign, ↓o1_pick, ↓o1_alloc, ↓o1_box, ↓o1_build, ↓o1_buildSlice, ↓o1_makeSlice, ↓o1_makeMap, ↓o1_binOp, ↓o1_unOp, ↓o1_convert, ↓o1_fieldAddr, ↓o1_field, ↓o1_indexAddr, ↓o1_extract, ↓o1_slice, ↓o1_len, ↓o1_max, ↓o1_min, ↓o1_load, ↓o1_lookup, ↓o1_store, ↓o1_mapUpdate, ↓o1_append, ↓o1_delete, ↓o1_call, ↓luP_succ, ↓o1_makeFunc, ↓o1_index, ↓o1_callV, encSp, resD_two]
  · have hpos : 0 < L.length - (i + 1) := by omega
    have hbb : (i + (L.length - (i + 1))) * 24 ≤ 140737488355328 ∧ i + (L.length - (i + 1)) ≤ 1099511627776 := ⟨by omega, by omega⟩
    have hcl := remL_cells L i
    simp (config := { maxSteps := 1000000 }) [-List.map_map, -List.mapM_map, ↓awp_skip, ↓awp_regionB, ↓awp_seq, ↓awp_block, ↓awp_exit, ↓awp_ret, ↓awp_label, ↓awp_scope, ↓awp_condB, ↓awp_loopB, ↓ow_nil', ↓ow_cons0, ↓ow_cons1, ↓o1_move, ↓o1_assign, ↓o1_pick, ↓o1_alloc, ↓o1_box, ↓o1_build, ↓o1_buildSlice, ↓o1_makeSlice, ↓o1_makeMap, ↓o1_binOp, ↓o1_unOp, ↓o1_convert, ↓o1_fieldAddr, ↓o1_field, ↓o1_indexAddr, ↓o1_extract, ↓o1_slice, ↓o1_len, ↓o1_max, ↓o1_min, ↓o1_load, ↓o1_lookup, ↓o1_store, ↓o1_mapUpdate, ↓o1_append, ↓o1_delete, ↓o1_call, ↓luP_succ, ↓o1_makeFunc, ↓o1_index, ↓o1_callV, h0, h1, h2, hi2, hi3, hi4, hi5, hw, hwR, hok0, hok1, hok2, hfl1, hfl2, hon1, hon2, hln1, hmin, htl, hpos, hbb, le_maxLen]
    refine callP_intro (ds := [.sl ((remL L i).map fun r => [encC r])]) (frzs_own1 rfl (remL_cells L i) (remL_len hi)).1 hR ?_
    simp (config := { maxSteps := 1000000 }) [-List.map_map, -List.mapM_map, ↓awp_skip, ↓awp_regionB, ↓awp_seq, ↓awp_block, ↓awp_exit, ↓awp_ret, ↓awp_label, ↓awp_scope, ↓awp_condB, ↓awp_loopB, ↓ow_nil', ↓ow_cons0, ↓ow_cons1, ↓o1_move, ↓o1_assign, ↓o1_pick, ↓o1_alloc, ↓o1_box, ↓o1_build, ↓o1_buildSlice, ↓o1_makeSlice, ↓o1_makeMap, ↓o1_binOp, ↓o1_unOp, ↓o1_convert, ↓o1_fieldAddr, ↓o1_field, ↓o1_indexAddr, ↓o1_extract, ↓o1_slice, ↓o1_len, ↓o1_max, ↓o1_min, ↓o1_load, ↓o1_lookup, ↓o1_store, ↓o1_mapUpdate, ↓o1_append, ↓o1_delete, ↓o1_call, ↓luP_succ, ↓o1_makeFunc, ↓o1_index, ↓o1_callV, encSp, resD_two, hcl, hlI, hT, fm7]

end Go.Am
