/- sparse.Equal: comparison through functions as values. No condition. -/
import Derived.Test.YtmnjglpieghdkaaMy
import Derived.Test.YtmnjglpieghdkaaMw
import Derived.Test.YtmnjglpieghdkaaRg
open Go Go.Am Go.Proofs
namespace Go.Am
set_option linter.unusedSimpArgs false

def nzL (L : List (List (Int × Int))) : Nat := (L.map List.length).sum
theorem nzL_snoc (L : List (List (Int × Int))) (r : List (Int × Int)) : nzL (L ++ [r]) = nzL L + r.length := by simp [nzL]
theorem nzL_le {b : Nat} : ∀ {L : List (List (Int × Int))}, (∀ r ∈ L, r.length ≤ b) → nzL L ≤ L.length * b
  | [], _ => by simp [nzL]
  | r :: L, h => by
    have h1 := h r (List.mem_cons_self ..)
    have h2 := nzL_le fun x hx => h x (List.mem_cons_of_mem _ hx)
    have e : nzL (r :: L) = r.length + nzL L := by simp [nzL]
    rw [e, List.length_cons, Nat.succ_mul]; omega

set_option maxHeartbeats 4000000 in
set_option maxRecDepth 10000 in
theorem spNonzero (R c : Int) (L : List (List (Int × Int))) (hL : L.length ≤ 1000000) (hr : ∀ r ∈ L, r.length ≤ 1000000) : Spec Try.prog 51 [encSp R c L] (.i .i64 (nzL L)) := by
  refine spec_of (N := 19) follows_mixed Try.func51 rfl rfl rfl (by kernel_rfl) (by kernel_rfl) (by simp) ?_
  simp (config := { maxSteps := 1000000 }) [-List.map_map, -List.mapM_map, ↓awp_skip, ↓awp_regionB, ↓awp_seq, ↓awp_block, ↓awp_exit, ↓awp_ret, ↓awp_label, ↓awp_scope, ↓awp_condB, ↓awp_loopB, ↓ow_nil', ↓ow_cons0, ↓ow_cons1, ↓o1_move, ↓o1_assign, ↓o1_pick, ↓o1_alloc, ↓o1_box, ↓o1_build, ↓o1_buildSlice, ↓o1_makeSlice, ↓o1_makeMap, ↓o1_binOp, ↓o1_unOp, ↓o1_convert, ↓o1_fieldAddr, ↓o1_field, ↓o1_indexAddr, ↓o1_extract, ↓o1_slice, ↓o1_len, ↓o1_max, ↓o1_min, ↓o1_load, ↓o1_lookup, ↓o1_store, ↓o1_mapUpdate, ↓o1_append, ↓o1_delete, ↓o1_call, encSp]
  refine loopP_inv (fun i : Nat => i ≤ L.length) (fun i => StL [(3, .d (.i .i64 (nzL (L.take i)))), (7, .d (.sl (L.map fun r => [encC r]))), (8, .d (.i .i64 (L.length : Int))), (9, .d (.i .i64 (i : Int)))] none []) (fun i => L.length - i) 0 (Nat.zero_le _) ?_ ?_
  · refine wk_l [] (by simp) ?_ ?_ <;> simp [-List.map_map, upd, inj1, Γ0, nzL]
  · intro i hi
    by_cases hgo : i < L.length
    · have q1 : (i : Int) < L.length := by omega
      have hx : L[i]? = some L[i] := List.getElem?_eq_getElem hgo
      have htk : nzL (L.take (i + 1)) = nzL (L.take i) + L[i].length := by rw [List.take_add_one, hx]; exact nzL_snoc _ _
      have hle : nzL (L.take i) ≤ 1000000000000 := Nat.le_trans (nzL_le (b := 1000000) fun r h => hr r (List.mem_of_mem_take h)) (by rw [List.length_take]; omega)
      have hrl := hr _ (List.getElem_mem hgo)
      generalize nzL (L.take i) = s at *
      generalize L[i] = r at *
      have hw : IntKind.i64.wrap ((i : Int) + 1) = (i : Int) + 1 := wrap_i64 (by omega) (by omega)
      have hw2 : IntKind.i64.wrap ((s : Int) + r.length) = ((s + r.length : Nat) : Int) := wrap_i64 (by omega) (by omega)
      simp (config := { maxSteps := 1000000 }) [-List.map_map, -List.mapM_map, ↓awp_skip, ↓awp_regionB, ↓awp_seq, ↓awp_block, ↓awp_exit, ↓awp_ret, ↓awp_label, ↓awp_scope, ↓awp_condB, ↓awp_loopB, ↓ow_nil', ↓ow_cons0, ↓ow_cons1, ↓o1_move, ↓o1_assign, ↓o1_pick, ↓o1_alloc, ↓o1_box, ↓o1_build, ↓o1_buildSlice, ↓o1_makeSlice, ↓o1_makeMap, ↓o1_binOp, ↓o1_unOp, ↓o1_convert, ↓o1_fieldAddr, ↓o1_field, ↓o1_indexAddr, ↓o1_extract, ↓o1_slice, ↓o1_len, ↓o1_max, ↓o1_min, ↓o1_load, ↓o1_lookup, ↓o1_store, ↓o1_mapUpdate, ↓o1_append, ↓o1_delete, ↓o1_call, q1, hx, hw, hw2, encC]
      refine nxt_intro (i + 1) hgo (Nat.sub_lt_sub_left hgo (Nat.lt_succ_self _)) (wk_l [] (by simp) ?_ ?_) <;> simp [-List.map_map, upd, inj1, Γ0, htk]
    · have q1 : ¬ (i : Int) < L.length := by omega
      rw [List.take_of_length_le (by omega)]
      simp (config := { maxSteps := 1000000 }) [-List.map_map, -List.mapM_map, ↓awp_skip, ↓awp_regionB, ↓awp_seq, ↓awp_block, ↓awp_exit, ↓awp_ret, ↓awp_label, ↓awp_scope, ↓awp_condB, ↓awp_loopB, ↓ow_nil', ↓ow_cons0, ↓ow_cons1, ↓o1_move, ↓o1_assign, ↓o1_pick, ↓o1_alloc, ↓o1_box, ↓o1_build, ↓o1_buildSlice, ↓o1_makeSlice, ↓o1_makeMap, ↓o1_binOp, ↓o1_unOp, ↓o1_convert, ↓o1_fieldAddr, ↓o1_field, ↓o1_indexAddr, ↓o1_extract, ↓o1_slice, ↓o1_len, ↓o1_max, ↓o1_min, ↓o1_load, ↓o1_lookup, ↓o1_store, ↓o1_mapUpdate, ↓o1_append, ↓o1_delete, ↓o1_call, q1]

set_option maxHeartbeats 4000000 in
set_option maxRecDepth 10000 in
theorem r06Nonzero (R c : Int) (L : List (List (Int × Int))) (hL : L.length ≤ 1000000) (hr : ∀ r ∈ L, r.length ≤ 1000000) : Spec Try.prog 52 [encSp R c L] (.i .i64 (nzL L)) := by
  refine spec_of (N := 21) follows_mixed Try.func52 rfl rfl rfl (by kernel_rfl) (by kernel_rfl) (by simp) ?_
  simp (config := { maxSteps := 1000000 }) [-List.map_map, -List.mapM_map, ↓awp_skip, ↓awp_regionB, ↓awp_seq, ↓awp_block, ↓awp_exit, ↓awp_ret, ↓awp_label, ↓awp_scope, ↓awp_condB, ↓awp_loopB, ↓ow_nil', ↓ow_cons0, ↓ow_cons1, ↓o1_move, ↓o1_assign, ↓o1_pick, ↓o1_alloc, ↓o1_box, ↓o1_build, ↓o1_buildSlice, ↓o1_makeSlice, ↓o1_makeMap, ↓o1_binOp, ↓o1_unOp, ↓o1_convert, ↓o1_fieldAddr, ↓o1_field, ↓o1_indexAddr, ↓o1_extract, ↓o1_slice, ↓o1_len, ↓o1_max, ↓o1_min, ↓o1_load, ↓o1_lookup, ↓o1_store, ↓o1_mapUpdate, ↓o1_append, ↓o1_delete, ↓o1_call, encSp]
  refine loopP_inv (fun i : Nat => i ≤ L.length) (fun i => StL [(1, .ptr 1 0), (3, .d (.i .i64 (nzL (L.take i)))), (4, .d (.i .i64 (i : Int)))] none [.cells 44 [.d (.i .i64 R), .d (.i .i64 c), .d (.sl (L.map fun r => [encC r]))]]) (fun i => L.length - i) 0 (Nat.zero_le _) ?_ ?_
  · refine wk_l [1] (by simp) ?_ ?_ <;> simp [-List.map_map, upd, inj1, Γ0, nzL]
  · intro i hi
    by_cases hgo : i < L.length
    · have q1 : (i : Int) < L.length := by omega
      have hx : L[i]? = some L[i] := List.getElem?_eq_getElem hgo
      have htk : nzL (L.take (i + 1)) = nzL (L.take i) + L[i].length := by rw [List.take_add_one, hx]; exact nzL_snoc _ _
      have hle : nzL (L.take i) ≤ 1000000000000 := Nat.le_trans (nzL_le (b := 1000000) fun r h => hr r (List.mem_of_mem_take h)) (by rw [List.length_take]; omega)
      have hrl := hr _ (List.getElem_mem hgo)
      generalize nzL (L.take i) = s at *
      generalize L[i] = r at *
      have hw : IntKind.i64.wrap ((i : Int) + 1) = (i : Int) + 1 := wrap_i64 (by omega) (by omega)
      have hw2 : IntKind.i64.wrap ((s : Int) + r.length) = ((s + r.length : Nat) : Int) := wrap_i64 (by omega) (by omega)
      simp (config := { maxSteps := 1000000 }) [-List.map_map, -List.mapM_map, ↓awp_skip, ↓awp_regionB, ↓awp_seq, ↓awp_block, ↓awp_exit, ↓awp_ret, ↓awp_label, ↓awp_scope, ↓awp_condB, ↓awp_loopB, ↓ow_nil', ↓ow_cons0, ↓ow_cons1, ↓o1_move, ↓o1_assign, ↓o1_pick, ↓o1_alloc, ↓o1_box, ↓o1_build, ↓o1_buildSlice, ↓o1_makeSlice, ↓o1_makeMap, ↓o1_binOp, ↓o1_unOp, ↓o1_convert, ↓o1_fieldAddr, ↓o1_field, ↓o1_indexAddr, ↓o1_extract, ↓o1_slice, ↓o1_len, ↓o1_max, ↓o1_min, ↓o1_load, ↓o1_lookup, ↓o1_store, ↓o1_mapUpdate, ↓o1_append, ↓o1_delete, ↓o1_call, q1, hx, hw, hw2, encC]
      refine nxt_intro (i + 1) hgo (Nat.sub_lt_sub_left hgo (Nat.lt_succ_self _)) (wk_l [1] (by simp) ?_ ?_) <;> simp [-List.map_map, upd, inj1, Γ0, htk, encC]
    · have q1 : ¬ (i : Int) < L.length := by omega
      rw [List.take_of_length_le (by omega)]
      simp (config := { maxSteps := 1000000 }) [-List.map_map, -List.mapM_map, ↓awp_skip, ↓awp_regionB, ↓awp_seq, ↓awp_block, ↓awp_exit, ↓awp_ret, ↓awp_label, ↓awp_scope, ↓awp_condB, ↓awp_loopB, ↓ow_nil', ↓ow_cons0, ↓ow_cons1, ↓o1_move, ↓o1_assign, ↓o1_pick, ↓o1_alloc, ↓o1_box, ↓o1_build, ↓o1_buildSlice, ↓o1_makeSlice, ↓o1_makeMap, ↓o1_binOp, ↓o1_unOp, ↓o1_convert, ↓o1_fieldAddr, ↓o1_field, ↓o1_indexAddr, ↓o1_extract, ↓o1_slice, ↓o1_len, ↓o1_max, ↓o1_min, ↓o1_load, ↓o1_lookup, ↓o1_store, ↓o1_mapUpdate, ↓o1_append, ↓o1_delete, ↓o1_call, q1]

/-! To -/
theorem mcs_len (A : List (List Int)) : (mcs A).length = A.length := by simp [mcs]
theorem mcs_chunk (A : List (List Int)) : (A.map fun v => [encV2 v]) = (mcs A).map fun d => [d] := by simp [mcs]
def toS (R c : Int) (L : List (List (Int × Int))) (F : List (Int × Int) → List Int) : Nat → St
  | 0 => StL [(1, .ptr 1 0), (2, .ptr 2 0), (3, .ptr 3 0), (4, .d (.i .i64 0))] none
      [.cells 44 [.d (.i .i64 R), .d (.i .i64 c), .d (.sl (L.map fun r => [encC r]))], .cells 62 [.d (.i .i64 0), .d (.i .i64 0), .nil], .cells 62 [.d (.i .i64 R), .d (.i .i64 c), .nil]]
  | i + 1 => StL [(1, .ptr 1 0), (2, .ptr 2 0), (3, .ptr 3 0), (4, .d (.i .i64 ((i : Int) + 1)))] none
      [.cells 44 [.d (.i .i64 R), .d (.i .i64 c), .d (.sl (L.map fun r => [encC r]))], .cells 62 [.d (.i .i64 0), .d (.i .i64 0), .nil], .cells 62 [.d (.i .i64 R), .d (.i .i64 c), .own 4 0 (i + 1) 1],
       .cells 49 ((mcs ((L.take (i + 1)).map F)).map .d)]

set_option maxHeartbeats 8000000 in
set_option maxRecDepth 10000 in
theorem r06To (R : Int) (c : Nat) (L : List (List (Int × Int))) (hA : L.length ≤ 1000) (hc : c ≤ 1000) (hl : ∀ r ∈ L, r.length ≤ 1000000) : Spec Try.prog 53 [encSp R c L] (encMat R c (L.map fun r => fullR r c)) := by
  refine spec_of (N := 31) follows_mixed Try.func53 rfl rfl rfl (by kernel_rfl) (by kernel_rfl) (by simp) ?_
  have hFul : ∀ r ∈ L, Spec Try.prog 44 [encC r, .i .i64 (c : Int)] (encV2 (fullR r c)) := fun r hr => r06Full r c (Nat.le_trans (hl r hr) (by decide)) (by omega)
  generalize hF : (fun r => fullR r c) = F at *
  have hFul2 : ∀ r ∈ L, Spec Try.prog 44 [encC r, .i .i64 (c : Int)] (encV2 (F r)) := fun r hr => by rw [← hF]; exact hFul r hr
  clear hFul
  simp (config := { maxSteps := 1000000 }) [-List.map_map, -List.mapM_map, ↓awp_skip, ↓awp_regionB, ↓awp_seq, ↓awp_block, ↓awp_exit, ↓awp_ret, ↓awp_label, ↓awp_scope, ↓awp_condB, ↓awp_loopB, ↓ow_nil', ↓ow_cons0, ↓ow_cons1, ↓o1_move, ↓o1_assign, ↓o1_pick, ↓o1_alloc, ↓o1_box, ↓o1_build, ↓o1_buildSlice, ↓o1_makeSlice, ↓o1_makeMap, ↓o1_binOp, ↓o1_unOp, ↓o1_convert, ↓o1_fieldAddr, ↓o1_field, ↓o1_indexAddr, ↓o1_extract, ↓o1_slice, ↓o1_len, ↓o1_max, ↓o1_min, ↓o1_load, ↓o1_lookup, ↓o1_store, ↓o1_mapUpdate, ↓o1_append, ↓o1_delete, ↓o1_call, encSp]
  refine loopP_inv (fun i : Nat => i ≤ L.length) (toS R c L F) (fun i => L.length - i) 0 (Nat.zero_le _) ?_ ?_
  · simp only [toS]
    refine wk_l [1, 2, 3] (by simp) ?_ ?_ <;> simp [-List.map_map, upd, inj1, Γ0, ]
  · intro i hi
    by_cases hgo : i < L.length
    · have hx : L[i]? = some L[i] := List.getElem?_eq_getElem hgo
      have hR := hFul2 L[i] (List.getElem_mem hgo)
      have htk : (L.take (i + 1)).map F = (L.take i).map F ++ [F L[i]] := by
        rw [List.take_add_one, hx, List.map_append]; rfl
      generalize L[i] = x at *
      generalize F x = fx at *
      rcases i with _ | i
      · simp only [toS]
        have q1 : 0 < L.length := hgo
        have hI : IntKind.i64.wrap (1 : Int) = 1 := wrap_i64 (by omega) (by omega)
        obtain ⟨_, hx'⟩ := List.getElem?_eq_some_iff.1 hx
        simp (config := { maxSteps := 1000000 }) [-List.map_map, -List.mapM_map, ↓awp_skip, ↓awp_regionB, ↓awp_seq, ↓awp_block, ↓awp_exit, ↓awp_ret, ↓awp_label, ↓awp_scope, ↓awp_condB, ↓awp_loopB, ↓ow_nil', ↓ow_cons0, ↓ow_cons1, ↓o1_move, ↓o1_assign, ↓o1_pick, ↓o1_alloc, ↓o1_box, ↓o1_build, ↓o1_buildSlice, ↓o1_makeSlice, ↓o1_makeMap, ↓o1_binOp, ↓o1_unOp, ↓o1_convert, ↓o1_fieldAddr, ↓o1_field, ↓o1_indexAddr, ↓o1_extract, ↓o1_slice, ↓o1_len, ↓o1_max, ↓o1_min, ↓o1_load, ↓o1_lookup, ↓o1_store, ↓o1_mapUpdate, ↓o1_append, ↓o1_delete, ↓o1_call, q1, hx, hx']
        refine callP_intro (ds := [encC x, .i .i64 (c : Int)]) (by rfl) hR ?_
        simp (config := { maxSteps := 1000000 }) [-List.map_map, -List.mapM_map, ↓awp_skip, ↓awp_regionB, ↓awp_seq, ↓awp_block, ↓awp_exit, ↓awp_ret, ↓awp_label, ↓awp_scope, ↓awp_condB, ↓awp_loopB, ↓ow_nil', ↓ow_cons0, ↓ow_cons1, ↓o1_move, ↓o1_assign, ↓o1_pick, ↓o1_alloc, ↓o1_box, ↓o1_build, ↓o1_buildSlice, ↓o1_makeSlice, ↓o1_makeMap, ↓o1_binOp, ↓o1_unOp, ↓o1_convert, ↓o1_fieldAddr, ↓o1_field, ↓o1_indexAddr, ↓o1_extract, ↓o1_slice, ↓o1_len, ↓o1_max, ↓o1_min, ↓o1_load, ↓o1_lookup, ↓o1_store, ↓o1_mapUpdate, ↓o1_append, ↓o1_delete, ↓o1_call, hI, le_maxLen, encV2]
        refine nxt_intro 1 hgo (Nat.sub_lt_sub_left hgo (Nat.lt_succ_self _)) ?_
        simp only [toS, htk]
        refine wk_l [1, 2, 3, 5] (by simp) ?_ ?_ <;> simp [-List.map_map, upd, inj1, Γ0, subL_own_iff3, mcs, encV2]
      · simp only [toS]
        rw [show ((i : Int) + 1) = ((i + 1 : Nat) : Int) from rfl]
        generalize i + 1 = I at *
        have q1 : (I : Int) < L.length := by omega
        have hI : IntKind.i64.wrap ((I : Int) + 1) = (I : Int) + 1 := wrap_i64 (by omega) (by omega)
        have hfl := mcs_len ((L.take I).map F)
        rw [List.length_map, List.length_take, Nat.min_eq_left hi] at hfl
        have hbb : (I + 1) * 24 ≤ 140737488355328 ∧ I + 1 ≤ 1099511627776 := ⟨by omega, by omega⟩
        generalize (L.take I).map F = M at *
        simp (config := { maxSteps := 1000000 }) [-List.map_map, -List.mapM_map, ↓awp_skip, ↓awp_regionB, ↓awp_seq, ↓awp_block, ↓awp_exit, ↓awp_ret, ↓awp_label, ↓awp_scope, ↓awp_condB, ↓awp_loopB, ↓ow_nil', ↓ow_cons0, ↓ow_cons1, ↓o1_move, ↓o1_assign, ↓o1_pick, ↓o1_alloc, ↓o1_box, ↓o1_build, ↓o1_buildSlice, ↓o1_makeSlice, ↓o1_makeMap, ↓o1_binOp, ↓o1_unOp, ↓o1_convert, ↓o1_fieldAddr, ↓o1_field, ↓o1_indexAddr, ↓o1_extract, ↓o1_slice, ↓o1_len, ↓o1_max, ↓o1_min, ↓o1_load, ↓o1_lookup, ↓o1_store, ↓o1_mapUpdate, ↓o1_append, ↓o1_delete, ↓o1_call, q1, hx]
        refine callP_intro (ds := [encC x, .i .i64 (c : Int)]) (by rfl) hR ?_
        simp (config := { maxSteps := 1000000 }) [-List.map_map, -List.mapM_map, ↓awp_skip, ↓awp_regionB, ↓awp_seq, ↓awp_block, ↓awp_exit, ↓awp_ret, ↓awp_label, ↓awp_scope, ↓awp_condB, ↓awp_loopB, ↓ow_nil', ↓ow_cons0, ↓ow_cons1, ↓o1_move, ↓o1_assign, ↓o1_pick, ↓o1_alloc, ↓o1_box, ↓o1_build, ↓o1_buildSlice, ↓o1_makeSlice, ↓o1_makeMap, ↓o1_binOp, ↓o1_unOp, ↓o1_convert, ↓o1_fieldAddr, ↓o1_field, ↓o1_indexAddr, ↓o1_extract, ↓o1_slice, ↓o1_len, ↓o1_max, ↓o1_min, ↓o1_load, ↓o1_lookup, ↓o1_store, ↓o1_mapUpdate, ↓o1_append, ↓o1_delete, ↓o1_call, hI, hbb, hfl, le_maxLen, encV2]
        refine nxt_intro (I + 1) hgo (Nat.sub_lt_sub_left hgo (Nat.lt_succ_self _)) ?_
        simp only [toS, htk, mcs_snoc]
        refine wk_l [1, 2, 3, 6] (by simp) ?_ ?_ <;> simp [-List.map_map, upd, inj1, Γ0, subL_own_iff3, cellsOk_same, encV2]
    · have e : i = L.length := by omega
      have htk : L.take i = L := List.take_of_length_le (by omega)
      rcases i with _ | i
      · have : L = [] := List.eq_nil_of_length_eq_zero e.symm
        subst this
        simp only [toS]
        simp (config := { maxSteps := 1000000 }) [-List.map_map, -List.mapM_map, ↓awp_skip, ↓awp_regionB, ↓awp_seq, ↓awp_block, ↓awp_exit, ↓awp_ret, ↓awp_label, ↓awp_scope, ↓awp_condB, ↓awp_loopB, ↓ow_nil', ↓ow_cons0, ↓ow_cons1, ↓o1_move, ↓o1_assign, ↓o1_pick, ↓o1_alloc, ↓o1_box, ↓o1_build, ↓o1_buildSlice, ↓o1_makeSlice, ↓o1_makeMap, ↓o1_binOp, ↓o1_unOp, ↓o1_convert, ↓o1_fieldAddr, ↓o1_field, ↓o1_indexAddr, ↓o1_extract, ↓o1_slice, ↓o1_len, ↓o1_max, ↓o1_min, ↓o1_load, ↓o1_lookup, ↓o1_store, ↓o1_mapUpdate, ↓o1_append, ↓o1_delete, ↓o1_call, encMat]
      · simp only [toS]
        have q1 : ¬ (i : Int) + 1 < L.length := by omega
        have hfm := mcs_len (L.map F)
        rw [List.length_map, ← e] at hfm
        rw [htk]
        have hM := mcs_chunk (L.map F)
        generalize L.map F = M at *
        simp (config := { maxSteps := 1000000 }) [-List.map_map, -List.mapM_map, ↓awp_skip, ↓awp_regionB, ↓awp_seq, ↓awp_block, ↓awp_exit, ↓awp_ret, ↓awp_label, ↓awp_scope, ↓awp_condB, ↓awp_loopB, ↓ow_nil', ↓ow_cons0, ↓ow_cons1, ↓o1_move, ↓o1_assign, ↓o1_pick, ↓o1_alloc, ↓o1_box, ↓o1_build, ↓o1_buildSlice, ↓o1_makeSlice, ↓o1_makeMap, ↓o1_binOp, ↓o1_unOp, ↓o1_convert, ↓o1_fieldAddr, ↓o1_field, ↓o1_indexAddr, ↓o1_extract, ↓o1_slice, ↓o1_len, ↓o1_max, ↓o1_min, ↓o1_load, ↓o1_lookup, ↓o1_store, ↓o1_mapUpdate, ↓o1_append, ↓o1_delete, ↓o1_call, encMat, q1, hM, hfm]
        rw [List.take_of_length_le (by simp [hfm]), mapM_d _ 5 (mcs M)]
        simp [chunk_one _ _ hfm.symm]

/-! Times -/
def rT (z : List (Int × List (Int × Int))) : List (Int × Int) := z.foldl (fun acc p => lz acc p.2 p.1) []
theorem rT_snoc (z : List (Int × List (Int × Int))) (p : Int × List (Int × Int)) : rT (z ++ [p]) = lz (rT z) p.2 p.1 := by simp [rT]
theorem rT_rev (P : List (Int × Int) → Prop) (h0 : P []) : ∀ (n : Nat) (z : List (Int × List (Int × Int))), z.length = n → (∀ acc p, p ∈ z → P acc → P (lz acc p.2 p.1)) → P (rT z)
  | 0, z, h, _ => by rw [List.eq_nil_of_length_eq_zero h]; exact h0
  | n + 1, z, h, hs => by
    rcases List.eq_nil_or_concat z with rfl | ⟨y, p, rfl⟩
    · cases h
    · rw [List.concat_eq_append] at *
      rw [rT_snoc]
      exact hs _ p (by simp) (rT_rev P h0 n y (by simpa using h) fun acc q hq => hs acc q (by simp [hq]))
theorem rT_srt {z : List (Int × List (Int × Int))} (h : ∀ p ∈ z, Srt p.2) : Srt (rT z) := rT_rev Srt Srt.nil _ z rfl fun _ p hp ha => lz_srt ha (h p hp) _
theorem rT_col {c : Int} {z : List (Int × List (Int × Int))} (h : ∀ p ∈ z, ColIn c p.2) : ColIn c (rT z) := rT_rev (ColIn c) (ColIn.nil c) _ z rfl fun _ p hp ha => lz_colIn ha (h p hp)
theorem cz_rT (n : Int) : ∀ (m : Nat) (z : List (Int × List (Int × Int))), z.length = m → cz n (rT z) = (z.map fun p => p.1 * cz n p.2).sum
  | 0, z, h => by rw [List.eq_nil_of_length_eq_zero h]; rfl
  | m + 1, z, h => by
    rcases List.eq_nil_or_concat z with rfl | ⟨y, p, rfl⟩
    · cases h
    · rw [List.concat_eq_append] at *
      rw [rT_snoc, cz_lz, cz_rT n m y (by simpa using h)]
      simp
theorem rT_bd {b e : Nat} : ∀ (n : Nat) {z : List (Int × List (Int × Int))}, z.length = n → (∀ p ∈ z, p.1.natAbs ≤ e ∧ BdR b p.2) → BdR (n * (e * b)) (rT z)
  | 0, z, h, _ => by rw [List.eq_nil_of_length_eq_zero h]; exact BdR.nil _
  | n + 1, z, h, hz => by
    rcases List.eq_nil_or_concat z with rfl | ⟨y, p, rfl⟩
    · cases h
    · rw [List.concat_eq_append] at *
      rw [rT_snoc]
      have ih := rT_bd n (z := y) (by simpa using h) fun q hq => hz q (by simp [hq])
      have hp := hz p (by simp)
      have := lz_bnd (k := p.1) ih hp.2 hp.1
      rw [Nat.succ_mul]; exact this

set_option maxHeartbeats 8000000 in
set_option maxRecDepth 10000 in
theorem r06Times {c : Nat} {L : List (List (Int × Int))} (v : List Int) (hs : ∀ r ∈ L, Srt r) (hcol : ∀ r ∈ L, ColIn (c : Int) r) (hc : c ≤ 1000) (hL : L.length ≤ 1000) (hvl : v.length = L.length) (hvb : Bd 1000 v) (hLb : ∀ r ∈ L, BdR 1000 r) :
    Spec Try.prog 49 [encV2 v, encSp L.length c L] (.tp [encV2 (fullR (rT (v.zip L)) c), .i .i64 0]) := by
  refine spec_of (N := 35) follows_mixed Try.func49 rfl rfl rfl (by kernel_rfl) (by kernel_rfl) (by simp) ?_
  have hne : (((v.length : Int) != L.length) : Bool) = false := by simp; omega
  have hz0 : (v.zip L).length = L.length := by rw [List.length_zip]; omega
  have hfrz := fun (H : Nat → Option HO) (B : Nat) (e : TypeId) (h : H B = some (.cells e [])) => frz_fcs (H := H) (B := B) (e := e) (v := []) (n := 0) h rfl
  have hFul := r06Full (rT (v.zip L)) c (Nat.le_trans (srt_len0 (rT_srt fun p hp => hs p.2 (List.of_mem_zip (a := p.1) (b := p.2) hp).2) (rT_col fun p hp => hcol p.2 (List.of_mem_zip (a := p.1) (b := p.2) hp).2)) (by omega)) (by omega)
  simp (config := { maxSteps := 1000000 }) [-List.map_map, -List.mapM_map, ↓awp_skip, ↓awp_regionB, ↓awp_seq, ↓awp_block, ↓awp_exit, ↓awp_ret, ↓awp_label, ↓awp_scope, ↓awp_condB, ↓awp_loopB, ↓ow_nil', ↓ow_cons0, ↓ow_cons1, ↓o1_move, ↓o1_assign, ↓o1_pick, ↓o1_alloc, ↓o1_box, ↓o1_build, ↓o1_buildSlice, ↓o1_makeSlice, ↓o1_makeMap, ↓o1_binOp, ↓o1_unOp, ↓o1_convert, ↓o1_fieldAddr, ↓o1_field, ↓o1_indexAddr, ↓o1_extract, ↓o1_slice, ↓o1_len, ↓o1_max, ↓o1_min, ↓o1_load, ↓o1_lookup, ↓o1_store, ↓o1_mapUpdate, ↓o1_append, ↓o1_delete, ↓o1_call, encSp, encV2, hne]
  refine loopP_inv (fun i : Nat => i ≤ L.length) (fun i => StL [(0, .d (encV2 v)), (3, .ptr 1 0), (6, .d (encC (rT ((v.zip L).take i)))), (7, .d (.i .i64 (i : Int)))] none
    [.cells 44 [.d (.i .i64 (L.length : Int)), .d (.i .i64 (c : Int)), .d (.sl (L.map fun r => [encC r]))]]) (fun i => L.length - i) 0 (Nat.zero_le _) ?_ ?_
  · refine wk_l [1] (by simp) ?_ ?_
    · simp [-List.map_map, upd, inj1, Γ0, encV2]
      exact subL_read (hfrz _ 2 109 (by rfl)).1 (hfrz _ 2 109 (by rfl)).2 (rho_neF (rs := [1]) (by decide) (by decide) (by simp))
    · simp [-List.map_map, upd, inj1, Γ0, ]
  · intro i hi
    by_cases hgo : i < L.length
    · have q1 : (i : Int) < L.length := by omega
      have hw : IntKind.i64.wrap ((i : Int) + 1) = (i : Int) + 1 := wrap_i64 (by omega) (by omega)
      have hx : L[i]? = some L[i] := List.getElem?_eq_getElem hgo
      have hgv : i < v.length := by omega
      have qv : (i : Int) < v.length := by omega
      have hv : v[i]? = some v[i] := List.getElem?_eq_getElem hgv
      have hmem := List.getElem_mem hgo
      have hbr := hLb _ hmem
      have hlr := srt_len0 (hs _ hmem) (hcol _ hmem)
      have hvi := hvb _ (List.getElem_mem hgv)
      have htk : rT ((v.zip L).take (i + 1)) = lz (rT ((v.zip L).take i)) L[i] v[i] := by
        have : (v.zip L)[i]? = some (v[i], L[i]) := by rw [List.getElem?_zip_eq_some]; exact ⟨hv, hx⟩
        rw [List.take_add_one, this]; exact rT_snoc _ _
      have hin : ∀ p ∈ (v.zip L).take i, p.1 ∈ v ∧ p.2 ∈ L := fun p hp => List.of_mem_zip (a := p.1) (b := p.2) (List.mem_of_mem_take hp)
      have hb0 := rT_bd (b := 1000) (e := 1000) i (z := (v.zip L).take i) (by rw [List.length_take]; omega) fun p hp => ⟨hvb _ (hin p hp).1, hLb _ (hin p hp).2⟩
      have hl0 := srt_len0 (rT_srt fun p hp => hs p.2 (hin p hp).2) (rT_col fun p hp => hcol p.2 (hin p hp).2)
      generalize rT ((v.zip L).take i) = acc at *
      clear hmem hin
      generalize L[i] = row at *
      generalize v[i] = z at *
      have hM := r06Merge (a := acc) (b := row) (k := z) (fun x hx => Nat.le_trans (hb0 x hx) (by omega)) (fun x hx => Nat.le_trans (hbr x hx) (by decide)) (Nat.le_trans hvi (by decide)) (by omega) (by omega)
      simp (config := { maxSteps := 1000000 }) [-List.map_map, -List.mapM_map, ↓awp_skip, ↓awp_regionB, ↓awp_seq, ↓awp_block, ↓awp_exit, ↓awp_ret, ↓awp_label, ↓awp_scope, ↓awp_condB, ↓awp_loopB, ↓ow_nil', ↓ow_cons0, ↓ow_cons1, ↓o1_move, ↓o1_assign, ↓o1_pick, ↓o1_alloc, ↓o1_box, ↓o1_build, ↓o1_buildSlice, ↓o1_makeSlice, ↓o1_makeMap, ↓o1_binOp, ↓o1_unOp, ↓o1_convert, ↓o1_fieldAddr, ↓o1_field, ↓o1_indexAddr, ↓o1_extract, ↓o1_slice, ↓o1_len, ↓o1_max, ↓o1_min, ↓o1_load, ↓o1_lookup, ↓o1_store, ↓o1_mapUpdate, ↓o1_append, ↓o1_delete, ↓o1_call, encV2, encN_eq, q1, qv, hx, hv, cellsA_encM, one_encM, inj1_encM]
      refine callP_intro (ds := [encC acc, encC row, encZ z]) (by rfl) hM ?_
      simp (config := { maxSteps := 1000000 }) [-List.map_map, -List.mapM_map, ↓awp_skip, ↓awp_regionB, ↓awp_seq, ↓awp_block, ↓awp_exit, ↓awp_ret, ↓awp_label, ↓awp_scope, ↓awp_condB, ↓awp_loopB, ↓ow_nil', ↓ow_cons0, ↓ow_cons1, ↓o1_move, ↓o1_assign, ↓o1_pick, ↓o1_alloc, ↓o1_box, ↓o1_build, ↓o1_buildSlice, ↓o1_makeSlice, ↓o1_makeMap, ↓o1_binOp, ↓o1_unOp, ↓o1_convert, ↓o1_fieldAddr, ↓o1_field, ↓o1_indexAddr, ↓o1_extract, ↓o1_slice, ↓o1_len, ↓o1_max, ↓o1_min, ↓o1_load, ↓o1_lookup, ↓o1_store, ↓o1_mapUpdate, ↓o1_append, ↓o1_delete, ↓o1_call, hw, inj1_encC, inj_encC, kills_encC, cellsA_encC, one_encC]
      refine nxt_intro (i + 1) hgo (Nat.sub_lt_sub_left hgo (Nat.lt_succ_self _)) (wk_l [1] (by simp) ?_ ?_) <;> simp [-List.map_map, upd, inj1, Γ0, encV2, htk]
    · have q1 : ¬ (i : Int) < L.length := by omega
      rw [List.take_of_length_le (by omega)]
      generalize rT (v.zip L) = acc at *
      have qv : v.length = L.length := hvl
      simp (config := { maxSteps := 1000000 }) [-List.map_map, -List.mapM_map, ↓awp_skip, ↓awp_regionB, ↓awp_seq, ↓awp_block, ↓awp_exit, ↓awp_ret, ↓awp_label, ↓awp_scope, ↓awp_condB, ↓awp_loopB, ↓ow_nil', ↓ow_cons0, ↓ow_cons1, ↓o1_move, ↓o1_assign, ↓o1_pick, ↓o1_alloc, ↓o1_box, ↓o1_build, ↓o1_buildSlice, ↓o1_makeSlice, ↓o1_makeMap, ↓o1_binOp, ↓o1_unOp, ↓o1_convert, ↓o1_fieldAddr, ↓o1_field, ↓o1_indexAddr, ↓o1_extract, ↓o1_slice, ↓o1_len, ↓o1_max, ↓o1_min, ↓o1_load, ↓o1_lookup, ↓o1_store, ↓o1_mapUpdate, ↓o1_append, ↓o1_delete, ↓o1_call, encV2, q1, qv]
      refine callP_intro (ds := [encC acc, .i .i64 (c : Int)]) (by rfl) hFul ?_
      simp (config := { maxSteps := 1000000 }) [-List.map_map, -List.mapM_map, ↓awp_skip, ↓awp_regionB, ↓awp_seq, ↓awp_block, ↓awp_exit, ↓awp_ret, ↓awp_label, ↓awp_scope, ↓awp_condB, ↓awp_loopB, ↓ow_nil', ↓ow_cons0, ↓ow_cons1, ↓o1_move, ↓o1_assign, ↓o1_pick, ↓o1_alloc, ↓o1_box, ↓o1_build, ↓o1_buildSlice, ↓o1_makeSlice, ↓o1_makeMap, ↓o1_binOp, ↓o1_unOp, ↓o1_convert, ↓o1_fieldAddr, ↓o1_field, ↓o1_indexAddr, ↓o1_extract, ↓o1_slice, ↓o1_len, ↓o1_max, ↓o1_min, ↓o1_load, ↓o1_lookup, ↓o1_store, ↓o1_mapUpdate, ↓o1_append, ↓o1_delete, ↓o1_call, encV2, resD_two]

end Go.Am

open Go Go.Am Go.Proofs
namespace Go.Am
set_option linter.unusedSimpArgs false

theorem rT_mulR {ca : Nat} {B : List (List (Int × Int))} {row : List (Int × Int)} (hB : ∀ r ∈ B, Srt r) (hcb : B.length = ca) (hr : Srt row) (hc : ColIn (ca : Int) row) : rT ((fullR row ca).zip B) = mulR B row := by
  have e0 : B = (List.range ca).map fun (k : Nat) => rowAt B k := by
    have := map_rowAt id B
    rw [hcb] at this
    simpa using this
  refine Srt.ext (rT_srt fun p hp => hB p.2 (List.of_mem_zip (a := p.1) (b := p.2) hp).2) (mulR_srt hB row) fun n => ?_
  rw [cz_rT n _ _ rfl, cz_mulR, dot_dense (c := ca) _ hr hc, fullR_dense hr]
  have e1 : (dense ca row).zip B = (List.range ca).map fun (k : Nat) => (cz k row, rowAt B k) := by
    conv => lhs; rw [e0]
    exact zip_range _ _ _
  rw [e1, List.map_map, sum_range]; rfl
theorem row_mulR {ca cb : Nat} {B : List (List (Int × Int))} {row : List (Int × Int)} (hB : ∀ r ∈ B, Srt r) (hBc : ∀ r ∈ B, ColIn (cb : Int) r) (hcb : B.length = ca) (hr : Srt row) (hc : ColIn (ca : Int) row) :
    rw0 0 (fullR (rT ((fullR row ca).zip B)) cb) = mulR B row := by
  rw [rT_mulR hB hcb hr hc, fullR_dense (mulR_srt hB row), rw0_dense (mulR_srt hB row) (mulR_col hBc row)]
theorem times_full {c : Nat} {L : List (List (Int × Int))} {v : List Int} (hs : ∀ r ∈ L, Srt r) (hcol : ∀ r ∈ L, ColIn (c : Int) r) : tiO (v.zip L) (List.replicate c 0) = fullR (rT (v.zip L)) c := by
  have hin : ∀ p ∈ v.zip L, p.2 ∈ L := fun p hp => (List.of_mem_zip (a := p.1) (b := p.2) hp).2
  rw [fullR_dense (rT_srt fun p hp => hs _ (hin p hp))]
  refine List.ext_getElem (by rw [tiO_len]; simp [dense]) fun n h1 h2 => ?_
  have h3 : n < c := by simpa [tiO_len] using h1
  have e1 := tiO_get n (v.zip L) (List.replicate c 0) (by simpa using h3) fun p hp x hx => (hcol _ (hin p hp) x hx).1
  rw [List.getD_eq_getElem?_getD, List.getElem?_eq_getElem h1] at e1
  simp only [Option.getD_some] at e1
  rw [e1]
  simp only [dense, List.getElem_map, List.getElem_range]
  rw [cz_rT _ _ _ rfl, List.getD_eq_getElem?_getD, List.getElem?_replicate]
  simp [h3]

def muS (R ca cb : Int) (A B : List (List (Int × Int))) (F : List (Int × Int) → List (Int × Int)) : Nat → St
  | 0 => StL [(2, .ptr 1 0), (3, .ptr 2 0), (4, .ptr 3 0), (6, .ptr 4 0), (7, .d (.i .i64 0))] none
      [.cells 44 [.d (.i .i64 R), .d (.i .i64 ca), .d (.sl (A.map fun r => [encC r]))], .cells 44 [.d (.i .i64 ca), .d (.i .i64 cb), .d (.sl (B.map fun r => [encC r]))], .cells 44 [.d (.i .i64 0), .d (.i .i64 0), .nil], .cells 44 [.d (.i .i64 R), .d (.i .i64 cb), .nil]]
  | i + 1 => StL [(2, .ptr 1 0), (3, .ptr 2 0), (4, .ptr 3 0), (6, .ptr 4 0), (7, .d (.i .i64 ((i : Int) + 1)))] none
      [.cells 44 [.d (.i .i64 R), .d (.i .i64 ca), .d (.sl (A.map fun r => [encC r]))], .cells 44 [.d (.i .i64 ca), .d (.i .i64 cb), .d (.sl (B.map fun r => [encC r]))], .cells 44 [.d (.i .i64 0), .d (.i .i64 0), .nil], .cells 44 [.d (.i .i64 R), .d (.i .i64 cb), .own 5 0 (i + 1) 1],
       .cells 45 ((rcs ((A.take (i + 1)).map F)).map .d)]

set_option maxHeartbeats 8000000 in
set_option maxRecDepth 10000 in
theorem r06Mul {ca cb : Nat} {A B : List (List (Int × Int))} (hA : ∀ r ∈ A, Srt r ∧ ColIn (ca : Int) r ∧ BdR 1000 r) (hB : ∀ r ∈ B, Srt r ∧ ColIn (cb : Int) r ∧ BdR 1000 r) (hcb : B.length = ca) (hAl : A.length ≤ 1000) (hcal : ca ≤ 1000) (hcbl : cb ≤ 1000) :
    Spec Try.prog 48 [encSp A.length ca A, encSp ca cb B] (.tp [encSp A.length cb (A.map (mulR B)), .i .i64 0]) := by
  refine spec_of (N := 48) follows_mixed Try.func48 rfl rfl rfl (by kernel_rfl) (by kernel_rfl) (by simp) ?_
  have hne : (((ca : Int) != ca) : Bool) = false := by simp
  have hrow : ∀ x ∈ A, ∃ v w : List Int, Spec Try.prog 44 [encC x, .i .i64 (ca : Int)] (encV2 v) ∧ Spec Try.prog 49 [encV2 v, encSp ca cb B] (.tp [encV2 w, .i .i64 0]) ∧
      Spec Try.prog 25 [encV2 w] (encC (mulR B x)) := fun x hx => by
    obtain ⟨h1, h2, h3⟩ := hA x hx
    have hxl := srt_len0 h1 h2
    have hT := r06Times (c := cb) (fullR x ca) (fun r hr => (hB r hr).1) (fun r hr => (hB r hr).2.1) hcbl (by omega) (by rw [fullR_len, hcb]) (fun y hy => by
      rw [fullR_dense h1] at hy
      obtain ⟨k, _, rfl⟩ := List.mem_map.1 hy
      exact cz_bdR _ h1 h3) (fun r hr => (hB r hr).2.2)
    rw [hcb] at hT
    refine ⟨_, _, r06Full x ca (by omega) (by omega), hT, ?_⟩
    have := r06RowV (fullR (rT ((fullR x ca).zip B)) cb) (by rw [fullR_len]; omega)
    rwa [row_mulR (fun r hr => (hB r hr).1) (fun r hr => (hB r hr).2.1) hcb h1 h2] at this
  clear hA hB
  generalize mulR B = F at *
  simp (config := { maxSteps := 1000000 }) [-List.map_map, -List.mapM_map, ↓awp_skip, ↓awp_regionB, ↓awp_seq, ↓awp_block, ↓awp_exit, ↓awp_ret, ↓awp_label, ↓awp_scope, ↓awp_condB, ↓awp_loopB, ↓ow_nil', ↓ow_cons0, ↓ow_cons1, ↓o1_move, ↓o1_assign, ↓o1_pick, ↓o1_alloc, ↓o1_box, ↓o1_build, ↓o1_buildSlice, ↓o1_makeSlice, ↓o1_makeMap, ↓o1_binOp, ↓o1_unOp, ↓o1_convert, ↓o1_fieldAddr, ↓o1_field, ↓o1_indexAddr, ↓o1_extract, ↓o1_slice, ↓o1_len, ↓o1_max, ↓o1_min, ↓o1_load, ↓o1_lookup, ↓o1_store, ↓o1_mapUpdate, ↓o1_append, ↓o1_delete, ↓o1_call, encSp, hne]
  refine loopP_inv (fun i : Nat => i ≤ A.length) (muS A.length ca cb A B F) (fun i => A.length - i) 0 (Nat.zero_le _) ?_ ?_
  · simp only [muS]
    refine wk_l [1, 2, 3, 4] (by simp) ?_ ?_ <;> simp [-List.map_map, upd, inj1, Γ0, ]
  · intro i hi
    by_cases hgo : i < A.length
    · have hx : A[i]? = some A[i] := List.getElem?_eq_getElem hgo
      obtain ⟨v, w, p1, p2, p3⟩ := hrow A[i] (List.getElem_mem hgo)
      have htk : (A.take (i + 1)).map F = (A.take i).map F ++ [F A[i]] := by
        rw [List.take_add_one, hx, List.map_append]; rfl
      clear hrow
      generalize A[i] = x at *
      generalize F x = fx at *
      rcases i with _ | i
      · simp only [muS]
        have q1 : 0 < A.length := hgo
        have hI : IntKind.i64.wrap (1 : Int) = 1 := wrap_i64 (by omega) (by omega)
        obtain ⟨_, hx'⟩ := List.getElem?_eq_some_iff.1 hx
        simp (config := { maxSteps := 1000000 }) [-List.map_map, -List.mapM_map, ↓awp_skip, ↓awp_regionB, ↓awp_seq, ↓awp_block, ↓awp_exit, ↓awp_ret, ↓awp_label, ↓awp_scope, ↓awp_condB, ↓awp_loopB, ↓ow_nil', ↓ow_cons0, ↓ow_cons1, ↓o1_move, ↓o1_assign, ↓o1_pick, ↓o1_alloc, ↓o1_box, ↓o1_build, ↓o1_buildSlice, ↓o1_makeSlice, ↓o1_makeMap, ↓o1_binOp, ↓o1_unOp, ↓o1_convert, ↓o1_fieldAddr, ↓o1_field, ↓o1_indexAddr, ↓o1_extract, ↓o1_slice, ↓o1_len, ↓o1_max, ↓o1_min, ↓o1_load, ↓o1_lookup, ↓o1_store, ↓o1_mapUpdate, ↓o1_append, ↓o1_delete, ↓o1_call, q1, hx, hx']
        refine callP_intro (ds := [encC x, .i .i64 (ca : Int)]) (by rfl) p1 ?_
        simp (config := { maxSteps := 1000000 }) [-List.map_map, -List.mapM_map, ↓awp_skip, ↓awp_regionB, ↓awp_seq, ↓awp_block, ↓awp_exit, ↓awp_ret, ↓awp_label, ↓awp_scope, ↓awp_condB, ↓awp_loopB, ↓ow_nil', ↓ow_cons0, ↓ow_cons1, ↓o1_move, ↓o1_assign, ↓o1_pick, ↓o1_alloc, ↓o1_box, ↓o1_build, ↓o1_buildSlice, ↓o1_makeSlice, ↓o1_makeMap, ↓o1_binOp, ↓o1_unOp, ↓o1_convert, ↓o1_fieldAddr, ↓o1_field, ↓o1_indexAddr, ↓o1_extract, ↓o1_slice, ↓o1_len, ↓o1_max, ↓o1_min, ↓o1_load, ↓o1_lookup, ↓o1_store, ↓o1_mapUpdate, ↓o1_append, ↓o1_delete, ↓o1_call, encV2]
        refine callP_intro (ds := [encV2 v, encSp ca cb B]) (by rfl) p2 ?_
        simp (config := { maxSteps := 1000000 }) [-List.map_map, -List.mapM_map, ↓awp_skip, ↓awp_regionB, ↓awp_seq, ↓awp_block, ↓awp_exit, ↓awp_ret, ↓awp_label, ↓awp_scope, ↓awp_condB, ↓awp_loopB, ↓ow_nil', ↓ow_cons0, ↓ow_cons1, ↓o1_move, ↓o1_assign, ↓o1_pick, ↓o1_alloc, ↓o1_box, ↓o1_build, ↓o1_buildSlice, ↓o1_makeSlice, ↓o1_makeMap, ↓o1_binOp, ↓o1_unOp, ↓o1_convert, ↓o1_fieldAddr, ↓o1_field, ↓o1_indexAddr, ↓o1_extract, ↓o1_slice, ↓o1_len, ↓o1_max, ↓o1_min, ↓o1_load, ↓o1_lookup, ↓o1_store, ↓o1_mapUpdate, ↓o1_append, ↓o1_delete, ↓o1_call, encV2]
        refine callP_intro (ds := [encV2 w]) (by rfl) p3 ?_
        simp (config := { maxSteps := 1000000 }) [-List.map_map, -List.mapM_map, ↓awp_skip, ↓awp_regionB, ↓awp_seq, ↓awp_block, ↓awp_exit, ↓awp_ret, ↓awp_label, ↓awp_scope, ↓awp_condB, ↓awp_loopB, ↓ow_nil', ↓ow_cons0, ↓ow_cons1, ↓o1_move, ↓o1_assign, ↓o1_pick, ↓o1_alloc, ↓o1_box, ↓o1_build, ↓o1_buildSlice, ↓o1_makeSlice, ↓o1_makeMap, ↓o1_binOp, ↓o1_unOp, ↓o1_convert, ↓o1_fieldAddr, ↓o1_field, ↓o1_indexAddr, ↓o1_extract, ↓o1_slice, ↓o1_len, ↓o1_max, ↓o1_min, ↓o1_load, ↓o1_lookup, ↓o1_store, ↓o1_mapUpdate, ↓o1_append, ↓o1_delete, ↓o1_call, hI, le_maxLen, encC]
        refine nxt_intro 1 hgo (Nat.sub_lt_sub_left hgo (Nat.lt_succ_self _)) ?_
        simp only [muS, htk]
        refine wk_l [1, 2, 3, 4, 6] (by simp) ?_ ?_ <;> simp [-List.map_map, upd, inj1, Γ0, subL_own_iff3, rcs, encC]
      · simp only [muS]
        rw [show ((i : Int) + 1) = ((i + 1 : Nat) : Int) from rfl]
        generalize i + 1 = I at *
        have q1 : (I : Int) < A.length := by omega
        have hI : IntKind.i64.wrap ((I : Int) + 1) = (I : Int) + 1 := wrap_i64 (by omega) (by omega)
        have hfl := rcs_len ((A.take I).map F)
        rw [List.length_map, List.length_take, Nat.min_eq_left hi] at hfl
        have hbb : (I + 1) * 24 ≤ 140737488355328 ∧ I + 1 ≤ 1099511627776 := ⟨by omega, by omega⟩
        generalize (A.take I).map F = M at *
        simp (config := { maxSteps := 1000000 }) [-List.map_map, -List.mapM_map, ↓awp_skip, ↓awp_regionB, ↓awp_seq, ↓awp_block, ↓awp_exit, ↓awp_ret, ↓awp_label, ↓awp_scope, ↓awp_condB, ↓awp_loopB, ↓ow_nil', ↓ow_cons0, ↓ow_cons1, ↓o1_move, ↓o1_assign, ↓o1_pick, ↓o1_alloc, ↓o1_box, ↓o1_build, ↓o1_buildSlice, ↓o1_makeSlice, ↓o1_makeMap, ↓o1_binOp, ↓o1_unOp, ↓o1_convert, ↓o1_fieldAddr, ↓o1_field, ↓o1_indexAddr, ↓o1_extract, ↓o1_slice, ↓o1_len, ↓o1_max, ↓o1_min, ↓o1_load, ↓o1_lookup, ↓o1_store, ↓o1_mapUpdate, ↓o1_append, ↓o1_delete, ↓o1_call, q1, hx]
        refine callP_intro (ds := [encC x, .i .i64 (ca : Int)]) (by rfl) p1 ?_
        simp (config := { maxSteps := 1000000 }) [-List.map_map, -List.mapM_map, ↓awp_skip, ↓awp_regionB, ↓awp_seq, ↓awp_block, ↓awp_exit, ↓awp_ret, ↓awp_label, ↓awp_scope, ↓awp_condB, ↓awp_loopB, ↓ow_nil', ↓ow_cons0, ↓ow_cons1, ↓o1_move, ↓o1_assign, ↓o1_pick, ↓o1_alloc, ↓o1_box, ↓o1_build, ↓o1_buildSlice, ↓o1_makeSlice, ↓o1_makeMap, ↓o1_binOp, ↓o1_unOp, ↓o1_convert, ↓o1_fieldAddr, ↓o1_field, ↓o1_indexAddr, ↓o1_extract, ↓o1_slice, ↓o1_len, ↓o1_max, ↓o1_min, ↓o1_load, ↓o1_lookup, ↓o1_store, ↓o1_mapUpdate, ↓o1_append, ↓o1_delete, ↓o1_call, encV2]
        refine callP_intro (ds := [encV2 v, encSp ca cb B]) (by rfl) p2 ?_
        simp (config := { maxSteps := 1000000 }) [-List.map_map, -List.mapM_map, ↓awp_skip, ↓awp_regionB, ↓awp_seq, ↓awp_block, ↓awp_exit, ↓awp_ret, ↓awp_label, ↓awp_scope, ↓awp_condB, ↓awp_loopB, ↓ow_nil', ↓ow_cons0, ↓ow_cons1, ↓o1_move, ↓o1_assign, ↓o1_pick, ↓o1_alloc, ↓o1_box, ↓o1_build, ↓o1_buildSlice, ↓o1_makeSlice, ↓o1_makeMap, ↓o1_binOp, ↓o1_unOp, ↓o1_convert, ↓o1_fieldAddr, ↓o1_field, ↓o1_indexAddr, ↓o1_extract, ↓o1_slice, ↓o1_len, ↓o1_max, ↓o1_min, ↓o1_load, ↓o1_lookup, ↓o1_store, ↓o1_mapUpdate, ↓o1_append, ↓o1_delete, ↓o1_call, encV2]
        refine callP_intro (ds := [encV2 w]) (by rfl) p3 ?_
        simp (config := { maxSteps := 1000000 }) [-List.map_map, -List.mapM_map, ↓awp_skip, ↓awp_regionB, ↓awp_seq, ↓awp_block, ↓awp_exit, ↓awp_ret, ↓awp_label, ↓awp_scope, ↓awp_condB, ↓awp_loopB, ↓ow_nil', ↓ow_cons0, ↓ow_cons1, ↓o1_move, ↓o1_assign, ↓o1_pick, ↓o1_alloc, ↓o1_box, ↓o1_build, ↓o1_buildSlice, ↓o1_makeSlice, ↓o1_makeMap, ↓o1_binOp, ↓o1_unOp, ↓o1_convert, ↓o1_fieldAddr, ↓o1_field, ↓o1_indexAddr, ↓o1_extract, ↓o1_slice, ↓o1_len, ↓o1_max, ↓o1_min, ↓o1_load, ↓o1_lookup, ↓o1_store, ↓o1_mapUpdate, ↓o1_append, ↓o1_delete, ↓o1_call, hI, hbb, hfl, le_maxLen, encC]
        refine nxt_intro (I + 1) hgo (Nat.sub_lt_sub_left hgo (Nat.lt_succ_self _)) ?_
        simp only [muS, htk, rcs_snoc]
        refine wk_l [1, 2, 3, 4, 7] (by simp) ?_ ?_ <;> simp [-List.map_map, upd, inj1, Γ0, subL_own_iff3, cellsOk_same, encC]
    · have e : i = A.length := by omega
      have htk : A.take i = A := List.take_of_length_le (by omega)
      rcases i with _ | i
      · have : A = [] := List.eq_nil_of_length_eq_zero e.symm
        subst this
        simp only [muS]
        simp (config := { maxSteps := 1000000 }) [-List.map_map, -List.mapM_map, ↓awp_skip, ↓awp_regionB, ↓awp_seq, ↓awp_block, ↓awp_exit, ↓awp_ret, ↓awp_label, ↓awp_scope, ↓awp_condB, ↓awp_loopB, ↓ow_nil', ↓ow_cons0, ↓ow_cons1, ↓o1_move, ↓o1_assign, ↓o1_pick, ↓o1_alloc, ↓o1_box, ↓o1_build, ↓o1_buildSlice, ↓o1_makeSlice, ↓o1_makeMap, ↓o1_binOp, ↓o1_unOp, ↓o1_convert, ↓o1_fieldAddr, ↓o1_field, ↓o1_indexAddr, ↓o1_extract, ↓o1_slice, ↓o1_len, ↓o1_max, ↓o1_min, ↓o1_load, ↓o1_lookup, ↓o1_store, ↓o1_mapUpdate, ↓o1_append, ↓o1_delete, ↓o1_call, encSp, resD_two]
      · simp only [muS]
        have q1 : ¬ (i : Int) + 1 < A.length := by omega
        have hfm := rcs_len (A.map F)
        rw [List.length_map, ← e] at hfm
        rw [htk]
        have hM := rcs_chunk (A.map F)
        generalize A.map F = M at *
        simp (config := { maxSteps := 1000000 }) [-List.map_map, -List.mapM_map, ↓awp_skip, ↓awp_regionB, ↓awp_seq, ↓awp_block, ↓awp_exit, ↓awp_ret, ↓awp_label, ↓awp_scope, ↓awp_condB, ↓awp_loopB, ↓ow_nil', ↓ow_cons0, ↓ow_cons1, ↓o1_move, ↓o1_assign, ↓o1_pick, ↓o1_alloc, ↓o1_box, ↓o1_build, ↓o1_buildSlice, ↓o1_makeSlice, ↓o1_makeMap, ↓o1_binOp, ↓o1_unOp, ↓o1_convert, ↓o1_fieldAddr, ↓o1_field, ↓o1_indexAddr, ↓o1_extract, ↓o1_slice, ↓o1_len, ↓o1_max, ↓o1_min, ↓o1_load, ↓o1_lookup, ↓o1_store, ↓o1_mapUpdate, ↓o1_append, ↓o1_delete, ↓o1_call, encSp, q1, hM, hfm, resD_two]
        rw [List.take_of_length_le (by simp [hfm]), mapM_d _ 5 (rcs M)]
        simp [chunk_one _ _ hfm.symm]

end Go.Am

open Go Go.Am Go.Proofs
namespace Go.Am
set_option linter.unusedSimpArgs false

def colK (A : List (List Int)) (k i : Nat) : List Int := (A.take i).map fun v => v.getD k 0
theorem colK_succ {A : List (List Int)} {k i : Nat} {v : List Int} (h : A[i]? = some v) : colK A k (i + 1) = colK A k i ++ [v.getD k 0] := by
  unfold colK; rw [List.take_add_one, h]; simp
theorem colK_len {A : List (List Int)} {k i : Nat} (h : i ≤ A.length) : (colK A k i).length = i := by
  unfold colK; rw [List.length_map, List.length_take]; exact Nat.min_eq_left h
theorem frzs_vcs {H : Nat → Option HO} {B n : Nat} {e : TypeId} {v : List Int} (hB : H B = some (.cells e ((vcs v).map .d))) (hv : v.length = n) : frzs H [.own B 0 n 2] = some [encV2 v] := by
  unfold frzs; simp [(frz_vcs hB hv).1]
def trS0 (R c : Nat) (L : List (List (Int × Int))) (A : List (List Int)) (F : Nat → List (Int × Int)) : Nat → St
  | 0 => StL [(1, .ptr 1 0), (2, .ptr 2 0), (3, .ptr 3 0), (4, .ptr 4 0), (5, .d (.i .i64 0))] none
      [.cells 44 [.d (.i .i64 (R : Int)), .d (.i .i64 (c : Int)), .d (.sl (L.map fun r => [encC r]))], .cells 44 [.d (.i .i64 0), .d (.i .i64 0), .nil], .cells 62 [.d (.i .i64 (R : Int)), .d (.i .i64 (c : Int)), .d (.sl (A.map fun v => [encV2 v]))], .cells 44 [.d (.i .i64 (c : Int)), .d (.i .i64 (R : Int)), .nil]]
  | k + 1 => StL [(1, .ptr 1 0), (2, .ptr 2 0), (3, .ptr 3 0), (4, .ptr 4 0), (5, .d (.i .i64 ((k : Int) + 1)))] none
      [.cells 44 [.d (.i .i64 (R : Int)), .d (.i .i64 (c : Int)), .d (.sl (L.map fun r => [encC r]))], .cells 44 [.d (.i .i64 0), .d (.i .i64 0), .nil], .cells 62 [.d (.i .i64 (R : Int)), .d (.i .i64 (c : Int)), .d (.sl (A.map fun v => [encV2 v]))], .cells 44 [.d (.i .i64 (c : Int)), .d (.i .i64 (R : Int)), .own 5 0 (k + 1) 1], .cells 45 ((rcs ((List.range (k + 1)).map F)).map .d)]

set_option maxHeartbeats 16000000 in
set_option maxRecDepth 10000 in
theorem r06Trans {c R : Nat} {L : List (List (Int × Int))} (hs : ∀ r ∈ L, Srt r) (hl : ∀ r ∈ L, r.length ≤ 1000000) (hLl : L.length = R) (hR : R ≤ 1000) (hc : c ≤ 1000) :
    Spec Try.prog 50 [encSp R c L] (encSp c R (trL c L)) := by
  refine spec_of (N := 47) follows_mixed Try.func50 rfl rfl rfl (by kernel_rfl) (by kernel_rfl) (by simp) ?_
  have hT := r06To (R : Int) c L (by omega) hc hl
  obtain ⟨F, hF⟩ : ∃ F : Nat → List (Int × Int), F = fun (k : Nat) => rw0 0 (L.map (cz k)) := ⟨_, rfl⟩
  have hcol : ∀ k, k < c → colK (L.map fun r => fullR r c) k R = L.map (cz k) := fun k hk => by
    unfold colK
    rw [List.take_of_length_le (by rw [List.length_map]; omega), List.map_map]
    refine List.map_congr_left fun r hr => ?_
    simp only [Function.comp]
    unfold fullR
    rw [getD_range, if_pos hk, lv_cz _ (hs r hr)]
  have hAl : (L.map fun r => fullR r c).length = R := by rw [List.length_map]; exact hLl
  have hAc : ∀ v ∈ (L.map fun r => fullR r c), v.length = c := fun v hv => by
    obtain ⟨r, _, rfl⟩ := List.mem_map.1 hv
    exact fullR_len r c
  have hRow : ∀ k, k < c → Spec Try.prog 25 [encV2 (colK (L.map fun r => fullR r c) k R)] (encC (F k)) := fun k hk => by
    have := r06RowV (L.map (cz (k : Int))) (by rw [List.length_map]; omega)
    rw [hcol k hk, hF]
    exact this
  have hend : trL c L = (List.range c).map F := by rw [hF]; rfl
  rw [hend]
  clear hcol hend hF hs hl
  generalize (L.map fun r => fullR r c) = A at *
  simp (config := { maxSteps := 1000000 }) [-List.map_map, -List.mapM_map, ↓awp_skip, ↓awp_regionB, ↓awp_seq, ↓awp_block, ↓awp_exit, ↓awp_ret, ↓awp_label, ↓awp_scope, ↓awp_condB, ↓awp_loopB, ↓ow_nil', ↓ow_cons0, ↓ow_cons1, ↓o1_move, ↓o1_assign, ↓o1_pick, ↓o1_alloc, ↓o1_box, ↓o1_build, ↓o1_buildSlice, ↓o1_makeSlice, ↓o1_makeMap, ↓o1_binOp, ↓o1_unOp, ↓o1_convert, ↓o1_fieldAddr, ↓o1_field, ↓o1_indexAddr, ↓o1_extract, ↓o1_slice, ↓o1_len, ↓o1_max, ↓o1_min, ↓o1_load, ↓o1_lookup, ↓o1_store, ↓o1_mapUpdate, ↓o1_append, ↓o1_delete, ↓o1_call, encSp]
  refine callP_intro (ds := [encSp R c L]) (by rfl) hT ?_
  simp (config := { maxSteps := 1000000 }) [-List.map_map, -List.mapM_map, ↓awp_skip, ↓awp_regionB, ↓awp_seq, ↓awp_block, ↓awp_exit, ↓awp_ret, ↓awp_label, ↓awp_scope, ↓awp_condB, ↓awp_loopB, ↓ow_nil', ↓ow_cons0, ↓ow_cons1, ↓o1_move, ↓o1_assign, ↓o1_pick, ↓o1_alloc, ↓o1_box, ↓o1_build, ↓o1_buildSlice, ↓o1_makeSlice, ↓o1_makeMap, ↓o1_binOp, ↓o1_unOp, ↓o1_convert, ↓o1_fieldAddr, ↓o1_field, ↓o1_indexAddr, ↓o1_extract, ↓o1_slice, ↓o1_len, ↓o1_max, ↓o1_min, ↓o1_load, ↓o1_lookup, ↓o1_store, ↓o1_mapUpdate, ↓o1_append, ↓o1_delete, ↓o1_call, encMat]
  refine loopP_inv (fun k : Nat => k ≤ c) (trS0 R c L A F) (fun k => c - k) 0 (Nat.zero_le _) ?_ ?_
  · simp only [trS0]
    refine wk_l [1, 2, 3, 4] (by simp) ?_ ?_ <;> simp [-List.map_map, upd, inj1, Γ0, ]
  · intro k hk
    by_cases hgo : k < c
    · have hRw := hRow k hgo
      have htk : (List.range (k + 1)).map F = (List.range k).map F ++ [F k] := by simp [List.range_succ]
      have hcl : (colK A k R).length = R := colK_len (by omega)
      have hvl : (vcs (colK A k R)).length = R * 2 := by rw [vcs_len, hcl]
      generalize F k = fk at *
      rcases k with _ | k
      · simp only [trS0]
        have q1 : 0 < c := hgo
        have hI : IntKind.i64.wrap (1 : Int) = 1 := wrap_i64 (by omega) (by omega)
        simp (config := { maxSteps := 1000000 }) [-List.map_map, -List.mapM_map, ↓awp_skip, ↓awp_regionB, ↓awp_seq, ↓awp_block, ↓awp_exit, ↓awp_ret, ↓awp_label, ↓awp_scope, ↓awp_condB, ↓awp_loopB, ↓ow_nil', ↓ow_cons0, ↓ow_cons1, ↓o1_move, ↓o1_assign, ↓o1_pick, ↓o1_alloc, ↓o1_box, ↓o1_build, ↓o1_buildSlice, ↓o1_makeSlice, ↓o1_makeMap, ↓o1_binOp, ↓o1_unOp, ↓o1_convert, ↓o1_fieldAddr, ↓o1_field, ↓o1_indexAddr, ↓o1_extract, ↓o1_slice, ↓o1_len, ↓o1_max, ↓o1_min, ↓o1_load, ↓o1_lookup, ↓o1_store, ↓o1_mapUpdate, ↓o1_append, ↓o1_delete, ↓o1_call, q1]
        refine loopP_inv (fun i : Nat => i ≤ R) (fun i => StL [(1, .ptr 1 0), (2, .ptr 2 0), (3, .ptr 3 0), (4, .ptr 4 0), (5, .d (.i .i64 0)), (6, .own 5 0 i 2), (7, .d (.i .i64 (i : Int)))] none
                    [.cells 44 [.d (.i .i64 (R : Int)), .d (.i .i64 (c : Int)), .d (.sl (L.map fun r => [encC r]))], .cells 44 [.d (.i .i64 0), .d (.i .i64 0), .nil], .cells 62 [.d (.i .i64 (R : Int)), .d (.i .i64 (c : Int)), .d (.sl (A.map fun v => [encV2 v]))], .cells 44 [.d (.i .i64 (c : Int)), .d (.i .i64 (R : Int)), .nil], .cells 32 ((vcs (colK A 0 i)).map .d)]) (fun i => R - i) 0 (Nat.zero_le _) ?_ ?_
        · refine wk_l [1, 2, 3, 4, 5] (by simp) ?_ ?_ <;> simp [-List.map_map, upd, inj1, Γ0, colK, vcs_nil, subL_own_iff3]
        · intro i hi
          by_cases hgi : i < R
          · have p1 : (i : Int) < R := by omega
            have hw : IntKind.i64.wrap ((i : Int) + 1) = (i : Int) + 1 := wrap_i64 (by omega) (by omega)
            have hgA : i < A.length := by omega
            have hy : A[i]? = some A[i] := List.getElem?_eq_getElem hgA
            have hyl := hAc _ (List.getElem_mem hgA)
            have hcs := colK_succ (k := 0) hy
            have hfl := vcs_len (colK A 0 i)
            rw [colK_len (by omega)] at hfl
            have hbb := app_bounds2 (n := i) (by omega)
            generalize colK A 0 i = out at *
            generalize A[i] = y at *
            have hky : 0 < y.length := by omega
            have hz : y[0]? = some y[0] := List.getElem?_eq_getElem hky
            rw [List.getD_eq_getElem?_getD, hz, Option.getD_some] at hcs
            generalize y[0] = z at *
            have hz2 : ∀ h : 0 < y.length, y[0]'h = z := fun h => Option.some.inj ((List.getElem?_eq_getElem h).symm.trans hz)
            have hky2 : ((0 : Nat) : Int) < y.length := by omega
            have hz0 : y.head? = some z := by rw [List.head?_eq_getElem?]; exact hz
            simp (config := { maxSteps := 1000000 }) [-List.map_map, -List.mapM_map, ↓awp_skip, ↓awp_regionB, ↓awp_seq, ↓awp_block, ↓awp_exit, ↓awp_ret, ↓awp_label, ↓awp_scope, ↓awp_condB, ↓awp_loopB, ↓ow_nil', ↓ow_cons0, ↓ow_cons1, ↓o1_move, ↓o1_assign, ↓o1_pick, ↓o1_alloc, ↓o1_box, ↓o1_build, ↓o1_buildSlice, ↓o1_makeSlice, ↓o1_makeMap, ↓o1_binOp, ↓o1_unOp, ↓o1_convert, ↓o1_fieldAddr, ↓o1_field, ↓o1_indexAddr, ↓o1_extract, ↓o1_slice, ↓o1_len, ↓o1_max, ↓o1_min, ↓o1_load, ↓o1_lookup, ↓o1_store, ↓o1_mapUpdate, ↓o1_append, ↓o1_delete, ↓o1_call, p1, hy, encV2, encN_eq, hz, hz0, hz2, hky, hky2, hw, hbb, hfl, le_maxLen, cellsA_encM, one_encM, inj1_encM, inj_encM, kills_encM]
            refine nxt_intro (i + 1) hgi (Nat.sub_lt_sub_left hgi (Nat.lt_succ_self _)) (wk_l [1, 2, 3, 4, 7] (by simp) ?_ ?_) <;> simp [-List.map_map, upd, inj1, Γ0, encV2, hcs, vcs_app, vcs_one, subL_own_iff3]
          · have p1 : ¬ (i : Int) < R := by omega
            have ei : i = R := by omega
            subst ei
            generalize colK A 0 i = col at *
            simp (config := { maxSteps := 1000000 }) [-List.map_map, -List.mapM_map, ↓awp_skip, ↓awp_regionB, ↓awp_seq, ↓awp_block, ↓awp_exit, ↓awp_ret, ↓awp_label, ↓awp_scope, ↓awp_condB, ↓awp_loopB, ↓ow_nil', ↓ow_cons0, ↓ow_cons1, ↓o1_move, ↓o1_assign, ↓o1_pick, ↓o1_alloc, ↓o1_box, ↓o1_build, ↓o1_buildSlice, ↓o1_makeSlice, ↓o1_makeMap, ↓o1_binOp, ↓o1_unOp, ↓o1_convert, ↓o1_fieldAddr, ↓o1_field, ↓o1_indexAddr, ↓o1_extract, ↓o1_slice, ↓o1_len, ↓o1_max, ↓o1_min, ↓o1_load, ↓o1_lookup, ↓o1_store, ↓o1_mapUpdate, ↓o1_append, ↓o1_delete, ↓o1_call, p1]
            refine callP_intro (ds := [encV2 col]) (frzs_vcs (by rfl) hcl) hRw ?_
            have hTk : List.take (i * 2) ((vcs col).map AV.d) = (vcs col).map AV.d := vcs_take_all hcl
            simp (config := { maxSteps := 1000000 }) [-List.map_map, -List.mapM_map, ↓awp_skip, ↓awp_regionB, ↓awp_seq, ↓awp_block, ↓awp_exit, ↓awp_ret, ↓awp_label, ↓awp_scope, ↓awp_condB, ↓awp_loopB, ↓ow_nil', ↓ow_cons0, ↓ow_cons1, ↓o1_move, ↓o1_assign, ↓o1_pick, ↓o1_alloc, ↓o1_box, ↓o1_build, ↓o1_buildSlice, ↓o1_makeSlice, ↓o1_makeMap, ↓o1_binOp, ↓o1_unOp, ↓o1_convert, ↓o1_fieldAddr, ↓o1_field, ↓o1_indexAddr, ↓o1_extract, ↓o1_slice, ↓o1_len, ↓o1_max, ↓o1_min, ↓o1_load, ↓o1_lookup, ↓o1_store, ↓o1_mapUpdate, ↓o1_append, ↓o1_delete, ↓o1_call, hI, le_maxLen, encC, hTk, fm7]
            refine nxt_intro 1 hgo (Nat.sub_lt_sub_left hgo (Nat.lt_succ_self _)) ?_
            simp only [trS0, htk]
            refine wk_l [1, 2, 3, 4, 7] (by simp) ?_ ?_ <;> simp [-List.map_map, upd, inj1, Γ0, subL_own_iff3, rcs, encC, encV2]
      · simp only [trS0]
        rw [show ((k : Int) + 1) = ((k + 1 : Nat) : Int) from rfl]
        generalize k + 1 = K at *
        have q1 : (K : Int) < c := by omega
        have hI : IntKind.i64.wrap ((K : Int) + 1) = (K : Int) + 1 := wrap_i64 (by omega) (by omega)
        have hml := rcs_len ((List.range K).map F)
        rw [List.length_map, List.length_range] at hml
        have hbc : (K + 1) * 24 ≤ 140737488355328 ∧ K + 1 ≤ 1099511627776 := ⟨by omega, by omega⟩
        generalize (List.range K).map F = M at *
        simp (config := { maxSteps := 1000000 }) [-List.map_map, -List.mapM_map, ↓awp_skip, ↓awp_regionB, ↓awp_seq, ↓awp_block, ↓awp_exit, ↓awp_ret, ↓awp_label, ↓awp_scope, ↓awp_condB, ↓awp_loopB, ↓ow_nil', ↓ow_cons0, ↓ow_cons1, ↓o1_move, ↓o1_assign, ↓o1_pick, ↓o1_alloc, ↓o1_box, ↓o1_build, ↓o1_buildSlice, ↓o1_makeSlice, ↓o1_makeMap, ↓o1_binOp, ↓o1_unOp, ↓o1_convert, ↓o1_fieldAddr, ↓o1_field, ↓o1_indexAddr, ↓o1_extract, ↓o1_slice, ↓o1_len, ↓o1_max, ↓o1_min, ↓o1_load, ↓o1_lookup, ↓o1_store, ↓o1_mapUpdate, ↓o1_append, ↓o1_delete, ↓o1_call, q1]
        refine loopP_inv (fun i : Nat => i ≤ R) (fun i => StL [(1, .ptr 1 0), (2, .ptr 2 0), (3, .ptr 3 0), (4, .ptr 4 0), (5, .d (.i .i64 (K : Int))), (6, .own 6 0 i 2), (7, .d (.i .i64 (i : Int)))] none
                    [.cells 44 [.d (.i .i64 (R : Int)), .d (.i .i64 (c : Int)), .d (.sl (L.map fun r => [encC r]))], .cells 44 [.d (.i .i64 0), .d (.i .i64 0), .nil], .cells 62 [.d (.i .i64 (R : Int)), .d (.i .i64 (c : Int)), .d (.sl (A.map fun v => [encV2 v]))], .cells 44 [.d (.i .i64 (c : Int)), .d (.i .i64 (R : Int)), .own 5 0 K 1], .cells 45 ((rcs M).map .d), .cells 32 ((vcs (colK A K i)).map .d)]) (fun i => R - i) 0 (Nat.zero_le _) ?_ ?_
        · refine wk_l [1, 2, 3, 4, 5, 6] (by simp) ?_ ?_ <;> simp [-List.map_map, upd, inj1, Γ0, colK, vcs_nil, subL_own_iff3]
        · intro i hi
          by_cases hgi : i < R
          · have p1 : (i : Int) < R := by omega
            have hw : IntKind.i64.wrap ((i : Int) + 1) = (i : Int) + 1 := wrap_i64 (by omega) (by omega)
            have hgA : i < A.length := by omega
            have hy : A[i]? = some A[i] := List.getElem?_eq_getElem hgA
            have hyl := hAc _ (List.getElem_mem hgA)
            have hcs := colK_succ (k := K) hy
            have hfl := vcs_len (colK A K i)
            rw [colK_len (by omega)] at hfl
            have hbb := app_bounds2 (n := i) (by omega)
            generalize colK A K i = out at *
            generalize A[i] = y at *
            have hky : K < y.length := by omega
            have hz : y[K]? = some y[K] := List.getElem?_eq_getElem hky
            rw [List.getD_eq_getElem?_getD, hz, Option.getD_some] at hcs
            generalize y[K] = z at *
            have hz2 : ∀ h : K < y.length, y[K]'h = z := fun h => Option.some.inj ((List.getElem?_eq_getElem h).symm.trans hz)
            have hky2 : ((K : Nat) : Int) < y.length := by omega
            simp (config := { maxSteps := 1000000 }) [-List.map_map, -List.mapM_map, ↓awp_skip, ↓awp_regionB, ↓awp_seq, ↓awp_block, ↓awp_exit, ↓awp_ret, ↓awp_label, ↓awp_scope, ↓awp_condB, ↓awp_loopB, ↓ow_nil', ↓ow_cons0, ↓ow_cons1, ↓o1_move, ↓o1_assign, ↓o1_pick, ↓o1_alloc, ↓o1_box, ↓o1_build, ↓o1_buildSlice, ↓o1_makeSlice, ↓o1_makeMap, ↓o1_binOp, ↓o1_unOp, ↓o1_convert, ↓o1_fieldAddr, ↓o1_field, ↓o1_indexAddr, ↓o1_extract, ↓o1_slice, ↓o1_len, ↓o1_max, ↓o1_min, ↓o1_load, ↓o1_lookup, ↓o1_store, ↓o1_mapUpdate, ↓o1_append, ↓o1_delete, ↓o1_call, p1, hy, encV2, encN_eq, hz, hz2, hky, hky2, hw, hbb, hfl, le_maxLen, cellsA_encM, one_encM, inj1_encM, inj_encM, kills_encM]
            refine nxt_intro (i + 1) hgi (Nat.sub_lt_sub_left hgi (Nat.lt_succ_self _)) (wk_l [1, 2, 3, 4, 5, 8] (by simp) ?_ ?_) <;> simp [-List.map_map, upd, inj1, Γ0, encV2, hcs, vcs_app, vcs_one, subL_own_iff3]
          · have p1 : ¬ (i : Int) < R := by omega
            have ei : i = R := by omega
            subst ei
            generalize colK A K i = col at *
            simp (config := { maxSteps := 1000000 }) [-List.map_map, -List.mapM_map, ↓awp_skip, ↓awp_regionB, ↓awp_seq, ↓awp_block, ↓awp_exit, ↓awp_ret, ↓awp_label, ↓awp_scope, ↓awp_condB, ↓awp_loopB, ↓ow_nil', ↓ow_cons0, ↓ow_cons1, ↓o1_move, ↓o1_assign, ↓o1_pick, ↓o1_alloc, ↓o1_box, ↓o1_build, ↓o1_buildSlice, ↓o1_makeSlice, ↓o1_makeMap, ↓o1_binOp, ↓o1_unOp, ↓o1_convert, ↓o1_fieldAddr, ↓o1_field, ↓o1_indexAddr, ↓o1_extract, ↓o1_slice, ↓o1_len, ↓o1_max, ↓o1_min, ↓o1_load, ↓o1_lookup, ↓o1_store, ↓o1_mapUpdate, ↓o1_append, ↓o1_delete, ↓o1_call, p1]
            refine callP_intro (ds := [encV2 col]) (frzs_vcs (by rfl) hcl) hRw ?_
            have hTk : List.take (i * 2) ((vcs col).map AV.d) = (vcs col).map AV.d := vcs_take_all hcl
            simp (config := { maxSteps := 1000000 }) [-List.map_map, -List.mapM_map, ↓awp_skip, ↓awp_regionB, ↓awp_seq, ↓awp_block, ↓awp_exit, ↓awp_ret, ↓awp_label, ↓awp_scope, ↓awp_condB, ↓awp_loopB, ↓ow_nil', ↓ow_cons0, ↓ow_cons1, ↓o1_move, ↓o1_assign, ↓o1_pick, ↓o1_alloc, ↓o1_box, ↓o1_build, ↓o1_buildSlice, ↓o1_makeSlice, ↓o1_makeMap, ↓o1_binOp, ↓o1_unOp, ↓o1_convert, ↓o1_fieldAddr, ↓o1_field, ↓o1_indexAddr, ↓o1_extract, ↓o1_slice, ↓o1_len, ↓o1_max, ↓o1_min, ↓o1_load, ↓o1_lookup, ↓o1_store, ↓o1_mapUpdate, ↓o1_append, ↓o1_delete, ↓o1_call, hI, hbc, hml, le_maxLen, encC, hTk, fm7]
            refine nxt_intro (K + 1) hgo (Nat.sub_lt_sub_left hgo (Nat.lt_succ_self _)) ?_
            simp only [trS0, htk, rcs_snoc]
            refine wk_l [1, 2, 3, 4, 8] (by simp) ?_ ?_ <;> simp [-List.map_map, upd, inj1, Γ0, subL_own_iff3, cellsOk_same, encC, encV2]
    · have e : k = c := by omega
      rcases k with _ | k
      · subst e
        simp only [trS0]
        simp (config := { maxSteps := 1000000 }) [-List.map_map, -List.mapM_map, ↓awp_skip, ↓awp_regionB, ↓awp_seq, ↓awp_block, ↓awp_exit, ↓awp_ret, ↓awp_label, ↓awp_scope, ↓awp_condB, ↓awp_loopB, ↓ow_nil', ↓ow_cons0, ↓ow_cons1, ↓o1_move, ↓o1_assign, ↓o1_pick, ↓o1_alloc, ↓o1_box, ↓o1_build, ↓o1_buildSlice, ↓o1_makeSlice, ↓o1_makeMap, ↓o1_binOp, ↓o1_unOp, ↓o1_convert, ↓o1_fieldAddr, ↓o1_field, ↓o1_indexAddr, ↓o1_extract, ↓o1_slice, ↓o1_len, ↓o1_max, ↓o1_min, ↓o1_load, ↓o1_lookup, ↓o1_store, ↓o1_mapUpdate, ↓o1_append, ↓o1_delete, ↓o1_call, encSp]
      · simp only [trS0]
        have q1 : ¬ (k : Int) + 1 < c := by omega
        have hfm := rcs_len ((List.range c).map F)
        rw [List.length_map, List.length_range, ← e] at hfm
        rw [e]
        have hM := rcs_chunk ((List.range c).map F)
        rw [e] at hfm
        generalize (List.range c).map F = M at *
        simp (config := { maxSteps := 1000000 }) [-List.map_map, -List.mapM_map, ↓awp_skip, ↓awp_regionB, ↓awp_seq, ↓awp_block, ↓awp_exit, ↓awp_ret, ↓awp_label, ↓awp_scope, ↓awp_condB, ↓awp_loopB, ↓ow_nil', ↓ow_cons0, ↓ow_cons1, ↓o1_move, ↓o1_assign, ↓o1_pick, ↓o1_alloc, ↓o1_box, ↓o1_build, ↓o1_buildSlice, ↓o1_makeSlice, ↓o1_makeMap, ↓o1_binOp, ↓o1_unOp, ↓o1_convert, ↓o1_fieldAddr, ↓o1_field, ↓o1_indexAddr, ↓o1_extract, ↓o1_slice, ↓o1_len, ↓o1_max, ↓o1_min, ↓o1_load, ↓o1_lookup, ↓o1_store, ↓o1_mapUpdate, ↓o1_append, ↓o1_delete, ↓o1_call, encSp, q1, hM, hfm]
        rw [List.take_of_length_le (by simp [hfm]), mapM_d _ 5 (rcs M)]
        simp [chunk_one _ _ hfm.symm]

end Go.Am

open Go Go.Am Go.Proofs
namespace Go.Am
set_option linter.unusedSimpArgs false

theorem tagg_129 : tagg Try.prog 129 = some false := by kernel_rfl
theorem tsz_129 : tsz Try.prog 129 = some 1 := by kernel_rfl
theorem tz_129 : tz Try.prog 129 = some .nilFunc := by kernel_rfl
theorem cells_nf : Value.nilFunc.cells = #[Value.nilFunc] := rfl
theorem oev_fnc (Γ : Nat → AV) (f : FuncId) : oev Γ (.func f) = .d (.lit (.func (.func f) #[] #[])) := rfl
theorem cellsA_lit (f : FuncId) : cellsA (.d (.lit (.func (.func f) #[] #[]))) = some [.d (.lit (.func (.func f) #[] #[]))] := rfl
theorem cmpL_zero (m n : Nat) : cmpL (digs m) (digs n) = 0 ↔ m = n := by
  unfold cmpL
  rw [lessL_digs, lessL_digs]
  by_cases h1 : m < n
  · simp [h1]; omega
  · by_cases h2 : n < m
    · simp [h1, h2]; omega
    · simp [h1, h2]; omega
theorem cmpL_bnd (a b : List Nat) : -1 ≤ cmpL a b ∧ cmpL a b ≤ 1 := by
  unfold cmpL
  split
  · exact ⟨by decide, by decide⟩
  · split <;> exact ⟨by decide, by decide⟩

theorem intCmpZ (x y : Int) (hx : Sz x) (hy : Sz y) : ∃ r : Int, Spec Try.prog 95 [encZ x, encZ y] (.i .i64 r) ∧ (r = 0 ↔ x = y) := by
  have hSx := intSignZ x hx
  have hSy := intSignZ y hy
  have hTx := intTrim (digs x.natAbs) (Nat.le_trans hx (by decide))
  have hTy := intTrim (digs y.natAbs) (Nat.le_trans hy (by decide))
  rw [strip_canon (canon_digs _)] at hTx hTy
  have hC := intCompare (digs x.natAbs) (digs y.natAbs) (lim_digs _) (lim_digs _) (Nat.le_trans hx (by decide)) (Nat.le_trans hy (by decide))
  have hc0 := cmpL_zero x.natAbs y.natAbs
  have hcb := cmpL_bnd (digs x.natAbs) (digs y.natAbs)
  have hI := cmpInt x.sign y.sign
  by_cases hs : x.sign = y.sign
  · refine ⟨x.sign * cmpL (digs x.natAbs) (digs y.natAbs), ?_, ?_⟩
    rotate_left
    · rw [Int.mul_eq_zero, hc0]
      constructor
      · rintro (h | h)
        · have h1 := Int.sign_eq_zero_iff_zero.1 h
          have h2 := Int.sign_eq_zero_iff_zero.1 (hs ▸ h)
          omega
        · rw [← Int.sign_mul_natAbs x, ← Int.sign_mul_natAbs y, hs, h]
      · rintro rfl; exact .inr rfl
    · refine spec_of (N := 26) follows_mixed Try.func95 rfl rfl rfl (by kernel_rfl) (by kernel_rfl) (by simp) ?_
      have hne : ((x.sign != y.sign) : Bool) = false := by simp [hs]
      have hsb : -1 ≤ x.sign ∧ x.sign ≤ 1 := by
        rcases Int.lt_trichotomy x 0 with h | h | h
        · rw [Int.sign_eq_neg_one_of_neg h]; decide
        · subst h; decide
        · rw [Int.sign_eq_one_of_pos h]; decide
      generalize cmpL (digs x.natAbs) (digs y.natAbs) = r at *
      generalize y.sign = sy at *
      generalize x.sign = sx at *
      have hw : IntKind.i64.wrap (sx * r) = sx * r := by
        have h1 : sx = -1 ∨ sx = 0 ∨ sx = 1 := by omega
        rcases h1 with rfl | rfl | rfl <;> exact wrap_i64 (by omega) (by omega)
      simp (config := { maxSteps := 1000000 }) [-List.map_map, -List.mapM_map, ↓awp_skip, ↓awp_regionB, ↓awp_seq, ↓awp_block, ↓awp_exit, ↓awp_ret, ↓awp_label, ↓awp_scope, ↓awp_condB, ↓awp_loopB, ↓ow_nil', ↓ow_cons0, ↓ow_cons1, ↓o1_move, ↓o1_assign, ↓o1_pick, ↓o1_alloc, ↓o1_box, ↓o1_build, ↓o1_buildSlice, ↓o1_makeSlice, ↓o1_makeMap, ↓o1_binOp, ↓o1_unOp, ↓o1_convert, ↓o1_fieldAddr, ↓o1_field, ↓o1_indexAddr, ↓o1_extract, ↓o1_slice, ↓o1_len, ↓o1_max, ↓o1_min, ↓o1_load, ↓o1_lookup, ↓o1_store, ↓o1_mapUpdate, ↓o1_append, ↓o1_delete, ↓o1_call, encZ_eq, cellsA_encM, one_encM, inj1_encM, inj_encM, kills_encM]
      refine callP_intro (ds := [encZ x]) (by rfl) hSx ?_
      simp (config := { maxSteps := 1000000 }) [-List.map_map, -List.mapM_map, ↓awp_skip, ↓awp_regionB, ↓awp_seq, ↓awp_block, ↓awp_exit, ↓awp_ret, ↓awp_label, ↓awp_scope, ↓awp_condB, ↓awp_loopB, ↓ow_nil', ↓ow_cons0, ↓ow_cons1, ↓o1_move, ↓o1_assign, ↓o1_pick, ↓o1_alloc, ↓o1_box, ↓o1_build, ↓o1_buildSlice, ↓o1_makeSlice, ↓o1_makeMap, ↓o1_binOp, ↓o1_unOp, ↓o1_convert, ↓o1_fieldAddr, ↓o1_field, ↓o1_indexAddr, ↓o1_extract, ↓o1_slice, ↓o1_len, ↓o1_max, ↓o1_min, ↓o1_load, ↓o1_lookup, ↓o1_store, ↓o1_mapUpdate, ↓o1_append, ↓o1_delete, ↓o1_call, encZ_eq, cellsA_encM, one_encM, inj1_encM, inj_encM, kills_encM]
      refine callP_intro (ds := [encZ y]) (by rfl) hSy ?_
      simp (config := { maxSteps := 1000000 }) [-List.map_map, -List.mapM_map, ↓awp_skip, ↓awp_regionB, ↓awp_seq, ↓awp_block, ↓awp_exit, ↓awp_ret, ↓awp_label, ↓awp_scope, ↓awp_condB, ↓awp_loopB, ↓ow_nil', ↓ow_cons0, ↓ow_cons1, ↓o1_move, ↓o1_assign, ↓o1_pick, ↓o1_alloc, ↓o1_box, ↓o1_build, ↓o1_buildSlice, ↓o1_makeSlice, ↓o1_makeMap, ↓o1_binOp, ↓o1_unOp, ↓o1_convert, ↓o1_fieldAddr, ↓o1_field, ↓o1_indexAddr, ↓o1_extract, ↓o1_slice, ↓o1_len, ↓o1_max, ↓o1_min, ↓o1_load, ↓o1_lookup, ↓o1_store, ↓o1_mapUpdate, ↓o1_append, ↓o1_delete, ↓o1_call, hne, cellsA_encM, one_encM, inj1_encM, inj_encM, kills_encM]
      refine callP_intro (ds := [encM (digs x.natAbs)]) (by rfl) hTx ?_
      simp (config := { maxSteps := 1000000 }) [-List.map_map, -List.mapM_map, ↓awp_skip, ↓awp_regionB, ↓awp_seq, ↓awp_block, ↓awp_exit, ↓awp_ret, ↓awp_label, ↓awp_scope, ↓awp_condB, ↓awp_loopB, ↓ow_nil', ↓ow_cons0, ↓ow_cons1, ↓o1_move, ↓o1_assign, ↓o1_pick, ↓o1_alloc, ↓o1_box, ↓o1_build, ↓o1_buildSlice, ↓o1_makeSlice, ↓o1_makeMap, ↓o1_binOp, ↓o1_unOp, ↓o1_convert, ↓o1_fieldAddr, ↓o1_field, ↓o1_indexAddr, ↓o1_extract, ↓o1_slice, ↓o1_len, ↓o1_max, ↓o1_min, ↓o1_load, ↓o1_lookup, ↓o1_store, ↓o1_mapUpdate, ↓o1_append, ↓o1_delete, ↓o1_call, cellsA_encM, one_encM, inj1_encM, inj_encM, kills_encM]
      refine callP_intro (ds := [encM (digs y.natAbs)]) (by rfl) hTy ?_
      simp (config := { maxSteps := 1000000 }) [-List.map_map, -List.mapM_map, ↓awp_skip, ↓awp_regionB, ↓awp_seq, ↓awp_block, ↓awp_exit, ↓awp_ret, ↓awp_label, ↓awp_scope, ↓awp_condB, ↓awp_loopB, ↓ow_nil', ↓ow_cons0, ↓ow_cons1, ↓o1_move, ↓o1_assign, ↓o1_pick, ↓o1_alloc, ↓o1_box, ↓o1_build, ↓o1_buildSlice, ↓o1_makeSlice, ↓o1_makeMap, ↓o1_binOp, ↓o1_unOp, ↓o1_convert, ↓o1_fieldAddr, ↓o1_field, ↓o1_indexAddr, ↓o1_extract, ↓o1_slice, ↓o1_len, ↓o1_max, ↓o1_min, ↓o1_load, ↓o1_lookup, ↓o1_store, ↓o1_mapUpdate, ↓o1_append, ↓o1_delete, ↓o1_call, cellsA_encM, one_encM, inj1_encM, inj_encM, kills_encM]
      refine callP_intro (ds := [encM (digs x.natAbs), encM (digs y.natAbs)]) (by rfl) hC ?_
      simp (config := { maxSteps := 1000000 }) [-List.map_map, -List.mapM_map, ↓awp_skip, ↓awp_regionB, ↓awp_seq, ↓awp_block, ↓awp_exit, ↓awp_ret, ↓awp_label, ↓awp_scope, ↓awp_condB, ↓awp_loopB, ↓ow_nil', ↓ow_cons0, ↓ow_cons1, ↓o1_move, ↓o1_assign, ↓o1_pick, ↓o1_alloc, ↓o1_box, ↓o1_build, ↓o1_buildSlice, ↓o1_makeSlice, ↓o1_makeMap, ↓o1_binOp, ↓o1_unOp, ↓o1_convert, ↓o1_fieldAddr, ↓o1_field, ↓o1_indexAddr, ↓o1_extract, ↓o1_slice, ↓o1_len, ↓o1_max, ↓o1_min, ↓o1_load, ↓o1_lookup, ↓o1_store, ↓o1_mapUpdate, ↓o1_append, ↓o1_delete, ↓o1_call, hw, cellsA_encM, one_encM, inj1_encM, inj_encM, kills_encM]
  · refine ⟨cmpI x.sign y.sign, ?_, ?_⟩
    rotate_left
    · unfold cmpI
      constructor
      · intro h
        exfalso
        split at h
        · cases h
        · split at h
          · cases h
          · omega
      · rintro rfl; exact (hs rfl).elim
    · refine spec_of (N := 26) follows_mixed Try.func95 rfl rfl rfl (by kernel_rfl) (by kernel_rfl) (by simp) ?_
      have hne : ((x.sign != y.sign) : Bool) = true := by simpa using hs
      generalize y.sign = sy at *
      generalize x.sign = sx at *
      simp (config := { maxSteps := 1000000 }) [-List.map_map, -List.mapM_map, ↓awp_skip, ↓awp_regionB, ↓awp_seq, ↓awp_block, ↓awp_exit, ↓awp_ret, ↓awp_label, ↓awp_scope, ↓awp_condB, ↓awp_loopB, ↓ow_nil', ↓ow_cons0, ↓ow_cons1, ↓o1_move, ↓o1_assign, ↓o1_pick, ↓o1_alloc, ↓o1_box, ↓o1_build, ↓o1_buildSlice, ↓o1_makeSlice, ↓o1_makeMap, ↓o1_binOp, ↓o1_unOp, ↓o1_convert, ↓o1_fieldAddr, ↓o1_field, ↓o1_indexAddr, ↓o1_extract, ↓o1_slice, ↓o1_len, ↓o1_max, ↓o1_min, ↓o1_load, ↓o1_lookup, ↓o1_store, ↓o1_mapUpdate, ↓o1_append, ↓o1_delete, ↓o1_call, encZ_eq, cellsA_encM, one_encM, inj1_encM, inj_encM, kills_encM]
      refine callP_intro (ds := [encZ x]) (by rfl) hSx ?_
      simp (config := { maxSteps := 1000000 }) [-List.map_map, -List.mapM_map, ↓awp_skip, ↓awp_regionB, ↓awp_seq, ↓awp_block, ↓awp_exit, ↓awp_ret, ↓awp_label, ↓awp_scope, ↓awp_condB, ↓awp_loopB, ↓ow_nil', ↓ow_cons0, ↓ow_cons1, ↓o1_move, ↓o1_assign, ↓o1_pick, ↓o1_alloc, ↓o1_box, ↓o1_build, ↓o1_buildSlice, ↓o1_makeSlice, ↓o1_makeMap, ↓o1_binOp, ↓o1_unOp, ↓o1_convert, ↓o1_fieldAddr, ↓o1_field, ↓o1_indexAddr, ↓o1_extract, ↓o1_slice, ↓o1_len, ↓o1_max, ↓o1_min, ↓o1_load, ↓o1_lookup, ↓o1_store, ↓o1_mapUpdate, ↓o1_append, ↓o1_delete, ↓o1_call, encZ_eq, cellsA_encM, one_encM, inj1_encM, inj_encM, kills_encM]
      refine callP_intro (ds := [encZ y]) (by rfl) hSy ?_
      simp (config := { maxSteps := 1000000 }) [-List.map_map, -List.mapM_map, ↓awp_skip, ↓awp_regionB, ↓awp_seq, ↓awp_block, ↓awp_exit, ↓awp_ret, ↓awp_label, ↓awp_scope, ↓awp_condB, ↓awp_loopB, ↓ow_nil', ↓ow_cons0, ↓ow_cons1, ↓o1_move, ↓o1_assign, ↓o1_pick, ↓o1_alloc, ↓o1_box, ↓o1_build, ↓o1_buildSlice, ↓o1_makeSlice, ↓o1_makeMap, ↓o1_binOp, ↓o1_unOp, ↓o1_convert, ↓o1_fieldAddr, ↓o1_field, ↓o1_indexAddr, ↓o1_extract, ↓o1_slice, ↓o1_len, ↓o1_max, ↓o1_min, ↓o1_load, ↓o1_lookup, ↓o1_store, ↓o1_mapUpdate, ↓o1_append, ↓o1_delete, ↓o1_call, hne, cellsA_encM, one_encM, inj1_encM, inj_encM, kills_encM]
      refine callP_intro (ds := [.i .i64 sx, .i .i64 sy]) (by rfl) hI ?_
      simp (config := { maxSteps := 1000000 }) [-List.map_map, -List.mapM_map, ↓awp_skip, ↓awp_regionB, ↓awp_seq, ↓awp_block, ↓awp_exit, ↓awp_ret, ↓awp_label, ↓awp_scope, ↓awp_condB, ↓awp_loopB, ↓ow_nil', ↓ow_cons0, ↓ow_cons1, ↓o1_move, ↓o1_assign, ↓o1_pick, ↓o1_alloc, ↓o1_box, ↓o1_build, ↓o1_buildSlice, ↓o1_makeSlice, ↓o1_makeMap, ↓o1_binOp, ↓o1_unOp, ↓o1_convert, ↓o1_fieldAddr, ↓o1_field, ↓o1_indexAddr, ↓o1_extract, ↓o1_slice, ↓o1_len, ↓o1_max, ↓o1_min, ↓o1_load, ↓o1_lookup, ↓o1_store, ↓o1_mapUpdate, ↓o1_append, ↓o1_delete, ↓o1_call, ]

theorem termFn (x y : Int × Int) (hx : Sz x.2) (hy : Sz y.2) : Spec Try.prog 94 [.ag (encF x), .ag (encF y)] (.b (decide (x = y))) := by
  refine spec_of (N := 18) follows_mixed Try.func94 rfl rfl rfl (by kernel_rfl) (by kernel_rfl) (by simp) ?_
  obtain ⟨xc, xv⟩ := x
  obtain ⟨yc, yv⟩ := y
  obtain ⟨r, hC, hr⟩ := intCmpZ xv yv hx hy
  by_cases h1 : xc = yc
  · have h2 : ((xc == yc) : Bool) = true := by simpa using h1
    have h3 : decide (((xc, xv) : Int × Int) = (yc, yv)) = (r == 0) := by
      rw [Bool.eq_iff_iff, decide_eq_true_eq, beq_iff_eq, hr, Prod.mk.injEq]; simp [h1]
    rw [h3]
    subst h1
    simp (config := { maxSteps := 1000000 }) [-List.map_map, -List.mapM_map, ↓awp_skip, ↓awp_regionB, ↓awp_seq, ↓awp_block, ↓awp_exit, ↓awp_ret, ↓awp_label, ↓awp_scope, ↓awp_condB, ↓awp_loopB, ↓ow_nil', ↓ow_cons0, ↓ow_cons1, ↓o1_move, ↓o1_assign, ↓o1_pick, ↓o1_alloc, ↓o1_box, ↓o1_build, ↓o1_buildSlice, ↓o1_makeSlice, ↓o1_makeMap, ↓o1_binOp, ↓o1_unOp, ↓o1_convert, ↓o1_fieldAddr, ↓o1_field, ↓o1_indexAddr, ↓o1_extract, ↓o1_slice, ↓o1_len, ↓o1_max, ↓o1_min, ↓o1_load, ↓o1_lookup, ↓o1_store, ↓o1_mapUpdate, ↓o1_append, ↓o1_delete, ↓o1_call, encF_eq, h2, cellsA_encM, one_encM, inj1_encM, inj_encM, kills_encM]
    refine callP_intro (ds := [encZ xv, encZ yv]) (by rfl) hC ?_
    simp (config := { maxSteps := 1000000 }) [-List.map_map, -List.mapM_map, ↓awp_skip, ↓awp_regionB, ↓awp_seq, ↓awp_block, ↓awp_exit, ↓awp_ret, ↓awp_label, ↓awp_scope, ↓awp_condB, ↓awp_loopB, ↓ow_nil', ↓ow_cons0, ↓ow_cons1, ↓o1_move, ↓o1_assign, ↓o1_pick, ↓o1_alloc, ↓o1_box, ↓o1_build, ↓o1_buildSlice, ↓o1_makeSlice, ↓o1_makeMap, ↓o1_binOp, ↓o1_unOp, ↓o1_convert, ↓o1_fieldAddr, ↓o1_field, ↓o1_indexAddr, ↓o1_extract, ↓o1_slice, ↓o1_len, ↓o1_max, ↓o1_min, ↓o1_load, ↓o1_lookup, ↓o1_store, ↓o1_mapUpdate, ↓o1_append, ↓o1_delete, ↓o1_call, ]
  · have h2 : ((xc == yc) : Bool) = false := by simpa using h1
    have h3 : decide (((xc, xv) : Int × Int) = (yc, yv)) = false := by
      rw [decide_eq_false_iff_not, Prod.mk.injEq]; exact fun h => h1 h.1
    rw [h3]
    simp (config := { maxSteps := 1000000 }) [-List.map_map, -List.mapM_map, ↓awp_skip, ↓awp_regionB, ↓awp_seq, ↓awp_block, ↓awp_exit, ↓awp_ret, ↓awp_label, ↓awp_scope, ↓awp_condB, ↓awp_loopB, ↓ow_nil', ↓ow_cons0, ↓ow_cons1, ↓o1_move, ↓o1_assign, ↓o1_pick, ↓o1_alloc, ↓o1_box, ↓o1_build, ↓o1_buildSlice, ↓o1_makeSlice, ↓o1_makeMap, ↓o1_binOp, ↓o1_unOp, ↓o1_convert, ↓o1_fieldAddr, ↓o1_field, ↓o1_indexAddr, ↓o1_extract, ↓o1_slice, ↓o1_len, ↓o1_max, ↓o1_min, ↓o1_load, ↓o1_lookup, ↓o1_store, ↓o1_mapUpdate, ↓o1_append, ↓o1_delete, ↓o1_call, encF_eq, h2, h1, cellsA_encM, one_encM, inj1_encM, inj_encM, kills_encM]

set_option maxHeartbeats 8000000 in
set_option maxRecDepth 10000 in
theorem rowEq {a b : List (Int × Int)} (ha : ∀ x ∈ a, Sz x.2) (hb : ∀ x ∈ b, Sz x.2) (hla : a.length ≤ 4294967296) : Spec Try.prog 98 [encC a, encC b, .lit (.func (.func 94) #[] #[])] (.b (decide (a = b))) := by
  refine spec_of (N := 32) follows_mixed Try.func98 rfl rfl rfl (by kernel_rfl) (by kernel_rfl) (by simp) ?_
  by_cases hn : a.length = b.length
  rotate_left
  · have h1 : (((a.length : Int) != b.length) : Bool) = true := by simp; omega
    have h2 : decide (a = b) = false := by simp; intro e; rw [e] at hn; exact hn rfl
    simp (config := { maxSteps := 1000000 }) [-List.map_map, -List.mapM_map, ↓awp_skip, ↓awp_regionB, ↓awp_seq, ↓awp_block, ↓awp_exit, ↓awp_ret, ↓awp_label, ↓awp_scope, ↓awp_condB, ↓awp_loopB, ↓ow_nil', ↓ow_cons0, ↓ow_cons1, ↓o1_move, ↓o1_assign, ↓o1_pick, ↓o1_alloc, ↓o1_box, ↓o1_build, ↓o1_buildSlice, ↓o1_makeSlice, ↓o1_makeMap, ↓o1_binOp, ↓o1_unOp, ↓o1_convert, ↓o1_fieldAddr, ↓o1_field, ↓o1_indexAddr, ↓o1_extract, ↓o1_slice, ↓o1_len, ↓o1_max, ↓o1_min, ↓o1_load, ↓o1_lookup, ↓o1_store, ↓o1_mapUpdate, ↓o1_append, ↓o1_delete, ↓o1_call, ↓luP_succ, ↓o1_makeFunc, ↓o1_index, ↓o1_callV, encC, h1, h2]
  · have h1 : (((a.length : Int) != b.length) : Bool) = false := by simp; omega
    simp (config := { maxSteps := 1000000 }) [-List.map_map, -List.mapM_map, ↓awp_skip, ↓awp_regionB, ↓awp_seq, ↓awp_block, ↓awp_exit, ↓awp_ret, ↓awp_label, ↓awp_scope, ↓awp_condB, ↓awp_loopB, ↓ow_nil', ↓ow_cons0, ↓ow_cons1, ↓o1_move, ↓o1_assign, ↓o1_pick, ↓o1_alloc, ↓o1_box, ↓o1_build, ↓o1_buildSlice, ↓o1_makeSlice, ↓o1_makeMap, ↓o1_binOp, ↓o1_unOp, ↓o1_convert, ↓o1_fieldAddr, ↓o1_field, ↓o1_indexAddr, ↓o1_extract, ↓o1_slice, ↓o1_len, ↓o1_max, ↓o1_min, ↓o1_load, ↓o1_lookup, ↓o1_store, ↓o1_mapUpdate, ↓o1_append, ↓o1_delete, ↓o1_call, ↓luP_succ, ↓o1_makeFunc, ↓o1_index, ↓o1_callV, encC, h1]
    refine loopP_inv (fun i : Nat => i ≤ a.length ∧ ∀ j, j < i → a[j]? = b[j]?) (fun i => StL [(0, .d (encC a)), (1, .d (encC b)), (2, .d (.lit (.func (.func 94) #[] #[]))), (15, .d (encC a)), (16, .d (.i .i64 (a.length : Int))), (17, .d (.i .i64 (i : Int)))] none []) (fun i => a.length - i) 0 ⟨Nat.zero_le _, fun j h => by omega⟩ ?_ ?_
    · refine wk_l [] (by simp) ?_ ?_ <;> simp [-List.map_map, upd, inj1, Γ0, encC]
    · rintro i ⟨hi, hok⟩
      by_cases hgo : i < a.length
      · have q1 : (i : Int) < a.length := by omega
        have hgb : i < b.length := by omega
        have hx : a[i]? = some a[i] := List.getElem?_eq_getElem hgo
        have hy : b[i]? = some b[i] := List.getElem?_eq_getElem hgb
        have hxs := ha _ (List.getElem_mem hgo)
        have hys := hb _ (List.getElem_mem hgb)
        have hw : IntKind.i64.wrap ((i : Int) + 1) = (i : Int) + 1 := wrap_i64 (by omega) (by omega)
        generalize a[i] = x at *
        generalize b[i] = y at *
        have hS := termFn x y hxs hys
        have hne : ¬ (x = y) → decide (a = b) = false := fun h => by
          simp only [decide_eq_false_iff_not]
          intro e
          rw [e, hy] at hx
          injection hx with hx
          exact h hx.symm
        simp (config := { maxSteps := 1000000 }) [-List.map_map, -List.mapM_map, ↓awp_skip, ↓awp_regionB, ↓awp_seq, ↓awp_block, ↓awp_exit, ↓awp_ret, ↓awp_label, ↓awp_scope, ↓awp_condB, ↓awp_loopB, ↓ow_nil', ↓ow_cons0, ↓ow_cons1, ↓o1_move, ↓o1_assign, ↓o1_pick, ↓o1_alloc, ↓o1_box, ↓o1_build, ↓o1_buildSlice, ↓o1_makeSlice, ↓o1_makeMap, ↓o1_binOp, ↓o1_unOp, ↓o1_convert, ↓o1_fieldAddr, ↓o1_field, ↓o1_indexAddr, ↓o1_extract, ↓o1_slice, ↓o1_len, ↓o1_max, ↓o1_min, ↓o1_load, ↓o1_lookup, ↓o1_store, ↓o1_mapUpdate, ↓o1_append, ↓o1_delete, ↓o1_call, ↓luP_succ, ↓o1_makeFunc, ↓o1_index, ↓o1_callV, encC, encF_eq, q1, hx, hy, cellsA_encM, one_encM, inj1_encM]
        refine callV_intro (ds := [.ag (encF x), .ag (encF y)]) (by rfl) hS ?_
        by_cases hv : x = y
        · subst hv
          rw [decide_eq_true rfl]
          simp (config := { maxSteps := 1000000 }) [-List.map_map, -List.mapM_map, ↓awp_skip, ↓awp_regionB, ↓awp_seq, ↓awp_block, ↓awp_exit, ↓awp_ret, ↓awp_label, ↓awp_scope, ↓awp_condB, ↓awp_loopB, ↓ow_nil', ↓ow_cons0, ↓ow_cons1, ↓o1_move, ↓o1_assign, ↓o1_pick, ↓o1_alloc, ↓o1_box, ↓o1_build, ↓o1_buildSlice, ↓o1_makeSlice, ↓o1_makeMap, ↓o1_binOp, ↓o1_unOp, ↓o1_convert, ↓o1_fieldAddr, ↓o1_field, ↓o1_indexAddr, ↓o1_extract, ↓o1_slice, ↓o1_len, ↓o1_max, ↓o1_min, ↓o1_load, ↓o1_lookup, ↓o1_store, ↓o1_mapUpdate, ↓o1_append, ↓o1_delete, ↓o1_call, ↓luP_succ, ↓o1_makeFunc, ↓o1_index, ↓o1_callV, hw]
          refine nxt_intro (i + 1) ⟨hgo, fun j hj => ?_⟩ (Nat.sub_lt_sub_left hgo (Nat.lt_succ_self _)) (wk_l [] (by simp) ?_ ?_)
          · rcases Nat.lt_or_ge j i with h2 | h2
            · exact hok j h2
            · rw [show j = i by omega, hx, hy]
          · simp [-List.map_map, upd, inj1, Γ0, encC]
          · trivial
        · rw [decide_eq_false hv]
          have e2 := hne hv
          simp (config := { maxSteps := 1000000 }) [-List.map_map, -List.mapM_map, ↓awp_skip, ↓awp_regionB, ↓awp_seq, ↓awp_block, ↓awp_exit, ↓awp_ret, ↓awp_label, ↓awp_scope, ↓awp_condB, ↓awp_loopB, ↓ow_nil', ↓ow_cons0, ↓ow_cons1, ↓o1_move, ↓o1_assign, ↓o1_pick, ↓o1_alloc, ↓o1_box, ↓o1_build, ↓o1_buildSlice, ↓o1_makeSlice, ↓o1_makeMap, ↓o1_binOp, ↓o1_unOp, ↓o1_convert, ↓o1_fieldAddr, ↓o1_field, ↓o1_indexAddr, ↓o1_extract, ↓o1_slice, ↓o1_len, ↓o1_max, ↓o1_min, ↓o1_load, ↓o1_lookup, ↓o1_store, ↓o1_mapUpdate, ↓o1_append, ↓o1_delete, ↓o1_call, ↓luP_succ, ↓o1_makeFunc, ↓o1_index, ↓o1_callV, e2]
      · have q1 : ¬ (i : Int) < a.length := by omega
        have e : decide (a = b) = true := by simpa using eq_of_get hn fun j hj => hok j (by omega)
        simp (config := { maxSteps := 1000000 }) [-List.map_map, -List.mapM_map, ↓awp_skip, ↓awp_regionB, ↓awp_seq, ↓awp_block, ↓awp_exit, ↓awp_ret, ↓awp_label, ↓awp_scope, ↓awp_condB, ↓awp_loopB, ↓ow_nil', ↓ow_cons0, ↓ow_cons1, ↓o1_move, ↓o1_assign, ↓o1_pick, ↓o1_alloc, ↓o1_box, ↓o1_build, ↓o1_buildSlice, ↓o1_makeSlice, ↓o1_makeMap, ↓o1_binOp, ↓o1_unOp, ↓o1_convert, ↓o1_fieldAddr, ↓o1_field, ↓o1_indexAddr, ↓o1_extract, ↓o1_slice, ↓o1_len, ↓o1_max, ↓o1_min, ↓o1_load, ↓o1_lookup, ↓o1_store, ↓o1_mapUpdate, ↓o1_append, ↓o1_delete, ↓o1_call, ↓luP_succ, ↓o1_makeFunc, ↓o1_index, ↓o1_callV, encC, q1, e]

set_option maxRecDepth 10000 in
theorem rowFn {a b : List (Int × Int)} (ha : ∀ x ∈ a, Sz x.2) (hb : ∀ x ∈ b, Sz x.2) (hla : a.length ≤ 4294967296) : Spec Try.prog 97 [encC a, encC b, .pt [.lit (.func (.func 94) #[] #[])]] (.b (decide (a = b))) := by
  refine spec_of (N := 10) follows_mixed Try.func97 rfl rfl rfl (by kernel_rfl) (by kernel_rfl) (by simp) ?_
  have hS := rowEq ha hb hla
  simp (config := { maxSteps := 1000000 }) [-List.map_map, -List.mapM_map, ↓awp_skip, ↓awp_regionB, ↓awp_seq, ↓awp_block, ↓awp_exit, ↓awp_ret, ↓awp_label, ↓awp_scope, ↓awp_condB, ↓awp_loopB, ↓ow_nil', ↓ow_cons0, ↓ow_cons1, ↓o1_move, ↓o1_assign, ↓o1_pick, ↓o1_alloc, ↓o1_box, ↓o1_build, ↓o1_buildSlice, ↓o1_makeSlice, ↓o1_makeMap, ↓o1_binOp, ↓o1_unOp, ↓o1_convert, ↓o1_fieldAddr, ↓o1_field, ↓o1_indexAddr, ↓o1_extract, ↓o1_slice, ↓o1_len, ↓o1_max, ↓o1_min, ↓o1_load, ↓o1_lookup, ↓o1_store, ↓o1_mapUpdate, ↓o1_append, ↓o1_delete, ↓o1_call, ↓luP_succ, ↓o1_makeFunc, ↓o1_index, ↓o1_callV, encC, tagg_129, tsz_129]
  refine callP_intro (ds := [encC a, encC b, .lit (.func (.func 94) #[] #[])]) (by rfl) hS ?_
  simp (config := { maxSteps := 1000000 }) [-List.map_map, -List.mapM_map, ↓awp_skip, ↓awp_regionB, ↓awp_seq, ↓awp_block, ↓awp_exit, ↓awp_ret, ↓awp_label, ↓awp_scope, ↓awp_condB, ↓awp_loopB, ↓ow_nil', ↓ow_cons0, ↓ow_cons1, ↓o1_move, ↓o1_assign, ↓o1_pick, ↓o1_alloc, ↓o1_box, ↓o1_build, ↓o1_buildSlice, ↓o1_makeSlice, ↓o1_makeMap, ↓o1_binOp, ↓o1_unOp, ↓o1_convert, ↓o1_fieldAddr, ↓o1_field, ↓o1_indexAddr, ↓o1_extract, ↓o1_slice, ↓o1_len, ↓o1_max, ↓o1_min, ↓o1_load, ↓o1_lookup, ↓o1_store, ↓o1_mapUpdate, ↓o1_append, ↓o1_delete, ↓o1_call, ↓luP_succ, ↓o1_makeFunc, ↓o1_index, ↓o1_callV, ]

set_option maxHeartbeats 8000000 in
set_option maxRecDepth 10000 in
theorem rowsEq {A B : List (List (Int × Int))} (hA : ∀ r ∈ A, RowOk r) (hB : ∀ r ∈ B, RowOk r) (hla : A.length ≤ 4294967296) : Spec Try.prog 96 [.sl (A.map fun r => [encC r]), .sl (B.map fun r => [encC r]), .fn 97 [.pt [.lit (.func (.func 94) #[] #[])]]] (.b (decide (A = B))) := by
  refine spec_of (N := 32) follows_mixed Try.func96 rfl rfl rfl (by kernel_rfl) (by kernel_rfl) (by simp) ?_
  by_cases hn : A.length = B.length
  rotate_left
  · have h1 : (((A.length : Int) != B.length) : Bool) = true := by simp; omega
    have h2 : decide (A = B) = false := by simp; intro e; rw [e] at hn; exact hn rfl
    simp (config := { maxSteps := 1000000 }) [-List.map_map, -List.mapM_map, ↓awp_skip, ↓awp_regionB, ↓awp_seq, ↓awp_block, ↓awp_exit, ↓awp_ret, ↓awp_label, ↓awp_scope, ↓awp_condB, ↓awp_loopB, ↓ow_nil', ↓ow_cons0, ↓ow_cons1, ↓o1_move, ↓o1_assign, ↓o1_pick, ↓o1_alloc, ↓o1_box, ↓o1_build, ↓o1_buildSlice, ↓o1_makeSlice, ↓o1_makeMap, ↓o1_binOp, ↓o1_unOp, ↓o1_convert, ↓o1_fieldAddr, ↓o1_field, ↓o1_indexAddr, ↓o1_extract, ↓o1_slice, ↓o1_len, ↓o1_max, ↓o1_min, ↓o1_load, ↓o1_lookup, ↓o1_store, ↓o1_mapUpdate, ↓o1_append, ↓o1_delete, ↓o1_call, ↓luP_succ, ↓o1_makeFunc, ↓o1_index, ↓o1_callV, h1, h2]
  · have h1 : (((A.length : Int) != B.length) : Bool) = false := by simp; omega
    simp (config := { maxSteps := 1000000 }) [-List.map_map, -List.mapM_map, ↓awp_skip, ↓awp_regionB, ↓awp_seq, ↓awp_block, ↓awp_exit, ↓awp_ret, ↓awp_label, ↓awp_scope, ↓awp_condB, ↓awp_loopB, ↓ow_nil', ↓ow_cons0, ↓ow_cons1, ↓o1_move, ↓o1_assign, ↓o1_pick, ↓o1_alloc, ↓o1_box, ↓o1_build, ↓o1_buildSlice, ↓o1_makeSlice, ↓o1_makeMap, ↓o1_binOp, ↓o1_unOp, ↓o1_convert, ↓o1_fieldAddr, ↓o1_field, ↓o1_indexAddr, ↓o1_extract, ↓o1_slice, ↓o1_len, ↓o1_max, ↓o1_min, ↓o1_load, ↓o1_lookup, ↓o1_store, ↓o1_mapUpdate, ↓o1_append, ↓o1_delete, ↓o1_call, ↓luP_succ, ↓o1_makeFunc, ↓o1_index, ↓o1_callV, h1]
    refine loopP_inv (fun i : Nat => i ≤ A.length ∧ ∀ j, j < i → A[j]? = B[j]?) (fun i => StL [(0, .d (.sl (A.map fun r => [encC r]))), (1, .d (.sl (B.map fun r => [encC r]))), (2, .d (.fn 97 [.pt [.lit (.func (.func 94) #[] #[])]])), (15, .d (.sl (A.map fun r => [encC r]))), (16, .d (.i .i64 (A.length : Int))), (17, .d (.i .i64 (i : Int)))] none []) (fun i => A.length - i) 0 ⟨Nat.zero_le _, fun j h => by omega⟩ ?_ ?_
    · refine wk_l [] (by simp) ?_ ?_ <;> simp [-List.map_map, upd, inj1, Γ0, ]
    · rintro i ⟨hi, hok⟩
      by_cases hgo : i < A.length
      · have q1 : (i : Int) < A.length := by omega
        have hgb : i < B.length := by omega
        have hx : A[i]? = some A[i] := List.getElem?_eq_getElem hgo
        have hy : B[i]? = some B[i] := List.getElem?_eq_getElem hgb
        have hxs := hA _ (List.getElem_mem hgo)
        have hys := hB _ (List.getElem_mem hgb)
        have hw : IntKind.i64.wrap ((i : Int) + 1) = (i : Int) + 1 := wrap_i64 (by omega) (by omega)
        generalize A[i] = x at *
        generalize B[i] = y at *
        have hS := rowFn hxs.1 hys.1 hxs.2
        have hne : ¬ (x = y) → decide (A = B) = false := fun h => by
          simp only [decide_eq_false_iff_not]
          intro e
          rw [e, hy] at hx
          injection hx with hx
          exact h hx.symm
        simp (config := { maxSteps := 1000000 }) [-List.map_map, -List.mapM_map, ↓awp_skip, ↓awp_regionB, ↓awp_seq, ↓awp_block, ↓awp_exit, ↓awp_ret, ↓awp_label, ↓awp_scope, ↓awp_condB, ↓awp_loopB, ↓ow_nil', ↓ow_cons0, ↓ow_cons1, ↓o1_move, ↓o1_assign, ↓o1_pick, ↓o1_alloc, ↓o1_box, ↓o1_build, ↓o1_buildSlice, ↓o1_makeSlice, ↓o1_makeMap, ↓o1_binOp, ↓o1_unOp, ↓o1_convert, ↓o1_fieldAddr, ↓o1_field, ↓o1_indexAddr, ↓o1_extract, ↓o1_slice, ↓o1_len, ↓o1_max, ↓o1_min, ↓o1_load, ↓o1_lookup, ↓o1_store, ↓o1_mapUpdate, ↓o1_append, ↓o1_delete, ↓o1_call, ↓luP_succ, ↓o1_makeFunc, ↓o1_index, ↓o1_callV, q1, hx, hy]
        refine callV_intro (ds := [encC x, encC y, .pt [.lit (.func (.func 94) #[] #[])]]) (by rfl) hS ?_
        by_cases hv : x = y
        · subst hv
          rw [decide_eq_true rfl]
          simp (config := { maxSteps := 1000000 }) [-List.map_map, -List.mapM_map, ↓awp_skip, ↓awp_regionB, ↓awp_seq, ↓awp_block, ↓awp_exit, ↓awp_ret, ↓awp_label, ↓awp_scope, ↓awp_condB, ↓awp_loopB, ↓ow_nil', ↓ow_cons0, ↓ow_cons1, ↓o1_move, ↓o1_assign, ↓o1_pick, ↓o1_alloc, ↓o1_box, ↓o1_build, ↓o1_buildSlice, ↓o1_makeSlice, ↓o1_makeMap, ↓o1_binOp, ↓o1_unOp, ↓o1_convert, ↓o1_fieldAddr, ↓o1_field, ↓o1_indexAddr, ↓o1_extract, ↓o1_slice, ↓o1_len, ↓o1_max, ↓o1_min, ↓o1_load, ↓o1_lookup, ↓o1_store, ↓o1_mapUpdate, ↓o1_append, ↓o1_delete, ↓o1_call, ↓luP_succ, ↓o1_makeFunc, ↓o1_index, ↓o1_callV, hw]
          refine nxt_intro (i + 1) ⟨hgo, fun j hj => ?_⟩ (Nat.sub_lt_sub_left hgo (Nat.lt_succ_self _)) (wk_l [] (by simp) ?_ ?_)
          · rcases Nat.lt_or_ge j i with h2 | h2
            · exact hok j h2
            · rw [show j = i by omega, hx, hy]
          · simp [-List.map_map, upd, inj1, Γ0, ]
          · trivial
        · rw [decide_eq_false hv]
          have e2 := hne hv
          simp (config := { maxSteps := 1000000 }) [-List.map_map, -List.mapM_map, ↓awp_skip, ↓awp_regionB, ↓awp_seq, ↓awp_block, ↓awp_exit, ↓awp_ret, ↓awp_label, ↓awp_scope, ↓awp_condB, ↓awp_loopB, ↓ow_nil', ↓ow_cons0, ↓ow_cons1, ↓o1_move, ↓o1_assign, ↓o1_pick, ↓o1_alloc, ↓o1_box, ↓o1_build, ↓o1_buildSlice, ↓o1_makeSlice, ↓o1_makeMap, ↓o1_binOp, ↓o1_unOp, ↓o1_convert, ↓o1_fieldAddr, ↓o1_field, ↓o1_indexAddr, ↓o1_extract, ↓o1_slice, ↓o1_len, ↓o1_max, ↓o1_min, ↓o1_load, ↓o1_lookup, ↓o1_store, ↓o1_mapUpdate, ↓o1_append, ↓o1_delete, ↓o1_call, ↓luP_succ, ↓o1_makeFunc, ↓o1_index, ↓o1_callV, e2]
      · have q1 : ¬ (i : Int) < A.length := by omega
        have e : decide (A = B) = true := by simpa using eq_of_get hn fun j hj => hok j (by omega)
        simp (config := { maxSteps := 1000000 }) [-List.map_map, -List.mapM_map, ↓awp_skip, ↓awp_regionB, ↓awp_seq, ↓awp_block, ↓awp_exit, ↓awp_ret, ↓awp_label, ↓awp_scope, ↓awp_condB, ↓awp_loopB, ↓ow_nil', ↓ow_cons0, ↓ow_cons1, ↓o1_move, ↓o1_assign, ↓o1_pick, ↓o1_alloc, ↓o1_box, ↓o1_build, ↓o1_buildSlice, ↓o1_makeSlice, ↓o1_makeMap, ↓o1_binOp, ↓o1_unOp, ↓o1_convert, ↓o1_fieldAddr, ↓o1_field, ↓o1_indexAddr, ↓o1_extract, ↓o1_slice, ↓o1_len, ↓o1_max, ↓o1_min, ↓o1_load, ↓o1_lookup, ↓o1_store, ↓o1_mapUpdate, ↓o1_append, ↓o1_delete, ↓o1_call, ↓luP_succ, ↓o1_makeFunc, ↓o1_index, ↓o1_callV, q1, e]

set_option maxRecDepth 10000 in
theorem spEqual (r c r' c' : Int) {A B : List (List (Int × Int))} (hA : ∀ r ∈ A, RowOk r) (hB : ∀ r ∈ B, RowOk r) (hla : A.length ≤ 4294967296) : Spec Try.prog 54 [encSp r c A, encSp r' c' B] (.b (decide (r = r' ∧ c = c' ∧ A = B))) := by
  refine spec_of (N := 24) follows_mixed Try.func54 rfl rfl rfl (by kernel_rfl) (by kernel_rfl) (by simp) ?_
  have hS := rowsEq hA hB hla
  by_cases h1 : r = r'
  · subst h1
    have e1 : ((r != r) : Bool) = false := by simp
    by_cases h2 : c = c'
    · subst h2
      have e2 : ((c != c) : Bool) = false := by simp
      have e3 : decide (r = r ∧ c = c ∧ A = B) = decide (A = B) := by simp
      rw [e3]
      generalize decide (A = B) = t at *
      simp (config := { maxSteps := 1000000 }) [-List.map_map, -List.mapM_map, ↓awp_skip, ↓awp_regionB, ↓awp_seq, ↓awp_block, ↓awp_exit, ↓awp_ret, ↓awp_label, ↓awp_scope, ↓awp_condB, ↓awp_loopB, ↓ow_nil', ↓ow_cons0, ↓ow_cons1, ↓o1_move, ↓o1_assign, ↓o1_pick, ↓o1_alloc, ↓o1_box, ↓o1_build, ↓o1_buildSlice, ↓o1_makeSlice, ↓o1_makeMap, ↓o1_binOp, ↓o1_unOp, ↓o1_convert, ↓o1_fieldAddr, ↓o1_field, ↓o1_indexAddr, ↓o1_extract, ↓o1_slice, ↓o1_len, ↓o1_max, ↓o1_min, ↓o1_load, ↓o1_lookup, ↓o1_store, ↓o1_mapUpdate, ↓o1_append, ↓o1_delete, ↓o1_call, ↓luP_succ, ↓o1_makeFunc, ↓o1_index, ↓o1_callV, encSp, e1, e2, tagg_129, tsz_129, tz_129, cells_nf, oev_fnc, cellsA_lit]
      refine callP_intro (ds := [.sl (A.map fun r => [encC r]), .sl (B.map fun r => [encC r]), .fn 97 [.pt [.lit (.func (.func 94) #[] #[])]]]) (by rfl) hS ?_
      simp (config := { maxSteps := 1000000 }) [-List.map_map, -List.mapM_map, ↓awp_skip, ↓awp_regionB, ↓awp_seq, ↓awp_block, ↓awp_exit, ↓awp_ret, ↓awp_label, ↓awp_scope, ↓awp_condB, ↓awp_loopB, ↓ow_nil', ↓ow_cons0, ↓ow_cons1, ↓o1_move, ↓o1_assign, ↓o1_pick, ↓o1_alloc, ↓o1_box, ↓o1_build, ↓o1_buildSlice, ↓o1_makeSlice, ↓o1_makeMap, ↓o1_binOp, ↓o1_unOp, ↓o1_convert, ↓o1_fieldAddr, ↓o1_field, ↓o1_indexAddr, ↓o1_extract, ↓o1_slice, ↓o1_len, ↓o1_max, ↓o1_min, ↓o1_load, ↓o1_lookup, ↓o1_store, ↓o1_mapUpdate, ↓o1_append, ↓o1_delete, ↓o1_call, ↓luP_succ, ↓o1_makeFunc, ↓o1_index, ↓o1_callV, ]
    · have e2 : ((c != c') : Bool) = true := by simpa using h2
      have e3 : decide (r = r ∧ c = c' ∧ A = B) = false := by simp [h2]
      rw [e3]
      simp (config := { maxSteps := 1000000 }) [-List.map_map, -List.mapM_map, ↓awp_skip, ↓awp_regionB, ↓awp_seq, ↓awp_block, ↓awp_exit, ↓awp_ret, ↓awp_label, ↓awp_scope, ↓awp_condB, ↓awp_loopB, ↓ow_nil', ↓ow_cons0, ↓ow_cons1, ↓o1_move, ↓o1_assign, ↓o1_pick, ↓o1_alloc, ↓o1_box, ↓o1_build, ↓o1_buildSlice, ↓o1_makeSlice, ↓o1_makeMap, ↓o1_binOp, ↓o1_unOp, ↓o1_convert, ↓o1_fieldAddr, ↓o1_field, ↓o1_indexAddr, ↓o1_extract, ↓o1_slice, ↓o1_len, ↓o1_max, ↓o1_min, ↓o1_load, ↓o1_lookup, ↓o1_store, ↓o1_mapUpdate, ↓o1_append, ↓o1_delete, ↓o1_call, ↓luP_succ, ↓o1_makeFunc, ↓o1_index, ↓o1_callV, encSp, e1, e2]
  · have e2 : ((r != r') : Bool) = true := by simpa using h1
    have e3 : decide (r = r' ∧ c = c' ∧ A = B) = false := by simp [h1]
    rw [e3]
    simp (config := { maxSteps := 1000000 }) [-List.map_map, -List.mapM_map, ↓awp_skip, ↓awp_regionB, ↓awp_seq, ↓awp_block, ↓awp_exit, ↓awp_ret, ↓awp_label, ↓awp_scope, ↓awp_condB, ↓awp_loopB, ↓ow_nil', ↓ow_cons0, ↓ow_cons1, ↓o1_move, ↓o1_assign, ↓o1_pick, ↓o1_alloc, ↓o1_box, ↓o1_build, ↓o1_buildSlice, ↓o1_makeSlice, ↓o1_makeMap, ↓o1_binOp, ↓o1_unOp, ↓o1_convert, ↓o1_fieldAddr, ↓o1_field, ↓o1_indexAddr, ↓o1_extract, ↓o1_slice, ↓o1_len, ↓o1_max, ↓o1_min, ↓o1_load, ↓o1_lookup, ↓o1_store, ↓o1_mapUpdate, ↓o1_append, ↓o1_delete, ↓o1_call, ↓luP_succ, ↓o1_makeFunc, ↓o1_index, ↓o1_callV, encSp, e2]

end Go.Am
