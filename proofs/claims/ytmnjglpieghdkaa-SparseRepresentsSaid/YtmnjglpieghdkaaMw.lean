/- Small matrices from bytes. No condition. -/
import Derived.Test.YtmnjglpieghdkaaMv
import Derived.Test.YtmnjglpieghdkaaA4
import Derived.Test.YtmnjglpieghdkaaMu
import Derived.Test.YtmnjglpieghdkaaSs
import Derived.Test.YtmnjglpieghdkaaSq
open Go Go.Am Go.Proofs
namespace Go.Am
set_option linter.unusedSimpArgs false

theorem ownSpec (z : Int) (h : (digs z.natAbs).length ≤ 1099511627776) : Spec Try.prog 89 [encZ z] (encZ z) := by
  refine spec_of (N := 9) follows_mixed Try.func89 rfl rfl rfl (by kernel_rfl) (by kernel_rfl) (by simp) ?_
  have hC : Spec Try.prog 107 [encM (digs z.natAbs)] (encM (digs z.natAbs)) := clone_any _ (by simp [clOk, one, h])
  rw [encZ_eq]
  simp (config := { maxSteps := 1000000 }) [-List.map_map, -List.mapM_map, ↓awp_skip, ↓awp_regionB, ↓awp_seq, ↓awp_block, ↓awp_exit, ↓awp_ret, ↓awp_label, ↓awp_scope, ↓awp_condB, ↓awp_loopB, ↓ow_nil', ↓ow_cons0, ↓ow_cons1, ↓o1_move, ↓o1_assign, ↓o1_pick, ↓o1_alloc, ↓o1_box, ↓o1_build, ↓o1_buildSlice, ↓o1_makeSlice, ↓o1_makeMap, ↓o1_binOp, ↓o1_unOp, ↓o1_convert, ↓o1_fieldAddr, ↓o1_field, ↓o1_indexAddr, ↓o1_extract, ↓o1_slice, ↓o1_len, ↓o1_max, ↓o1_min, ↓o1_load, ↓o1_lookup, ↓o1_store, ↓o1_mapUpdate, ↓o1_append, ↓o1_delete, ↓o1_call, cellsA_encM, one_encM, inj1_encM, inj_encM, kills_encM]
  refine callP_intro (ds := [encM (digs z.natAbs)]) (by rfl) hC ?_
  simp (config := { maxSteps := 1000000 }) [-List.map_map, -List.mapM_map, ↓awp_skip, ↓awp_regionB, ↓awp_seq, ↓awp_block, ↓awp_exit, ↓awp_ret, ↓awp_label, ↓awp_scope, ↓awp_condB, ↓awp_loopB, ↓ow_nil', ↓ow_cons0, ↓ow_cons1, ↓o1_move, ↓o1_assign, ↓o1_pick, ↓o1_alloc, ↓o1_box, ↓o1_build, ↓o1_buildSlice, ↓o1_makeSlice, ↓o1_makeMap, ↓o1_binOp, ↓o1_unOp, ↓o1_convert, ↓o1_fieldAddr, ↓o1_field, ↓o1_indexAddr, ↓o1_extract, ↓o1_slice, ↓o1_len, ↓o1_max, ↓o1_min, ↓o1_load, ↓o1_lookup, ↓o1_store, ↓o1_mapUpdate, ↓o1_append, ↓o1_delete, ↓o1_call, cellsA_encM, one_encM, inj1_encM, inj_encM, kills_encM]

def rowD (done : List D) (cur : AV) (m : Nat) : List AV := done.map .d ++ cur :: List.replicate m .nil
def rowE (done : List D) (m : Nat) : List AV := done.map .d ++ List.replicate m .nil
theorem rowE_succ (done : List D) (m : Nat) : rowE done (m + 1) = rowD done .nil m := rfl
theorem rowD_d (done : List D) (x : D) (m : Nat) : rowD done (.d x) m = rowE (done ++ [x]) m := by simp [rowD, rowE]
theorem rowE_zero (done : List D) : rowE done 0 = done.map .d := by simp [rowE]
theorem rowE_nil (m : Nat) : rowE [] m = List.replicate m .nil := rfl
theorem rowE_len (done : List D) (m : Nat) : (rowE done m).length = done.length + m := by simp [rowE]
theorem rowD_len (done : List D) (x : AV) (m : Nat) : (rowD done x m).length = done.length + (m + 1) := by simp [rowD]
theorem rowD_get {done : List D} {x : AV} {m i : Nat} (h : done.length = i) : (rowD done x m)[i]? = some x := by
  subst h; simp [rowD]
theorem rowD_lay {done : List D} {x y : AV} {m i : Nat} (h : done.length = i) : lay (rowD done x m) i [y] = rowD done y m := by
  subst h
  unfold lay rowD
  rw [List.take_append_of_le_length (by simp), List.take_of_length_le (by simp), List.append_assoc]
  congr 1
  rw [List.singleton_append, List.length_singleton, ← List.drop_drop]
  simp
theorem rowD_scrub (l : List Nat) (done : List D) (x : AV) (m : Nat) : (rowD done x m).map (scrub0 l) = rowD done (scrub0 l x) m := by
  simp only [rowD, List.map_append, List.map_cons, List.map_replicate, scrub0_nil]
  congr 1
  rw [List.map_map]
  exact List.map_congr_left fun d _ => scrub0_d l d
theorem cellsOk_rep {H H' : Nat → Option HO} {ρ : Nat → Nat} : ∀ m, cellsOk H H' ρ (List.replicate m .nil) (List.replicate m .nil)
  | 0 => trivial
  | m + 1 => ⟨trivial, cellsOk_rep m⟩
theorem cellsOk_rowD {H H' : Nat → Option HO} {ρ : Nat → Nat} {done : List D} {x y : AV} {m : Nat} : cellsOk H H' ρ (rowD done x m) (rowD done y m) ↔ SubL H H' ρ x y := by
  unfold rowD
  rw [cellsOk_same]
  exact ⟨fun h => h.1, fun h => ⟨h, cellsOk_rep m⟩⟩
theorem cellsOk_rowE {H H' : Nat → Option HO} {ρ : Nat → Nat} {done : List D} {m : Nat} : cellsOk H H' ρ (rowE done m) (rowE done m) ↔ True := by
  unfold rowE
  rw [cellsOk_same]
  exact ⟨fun _ => trivial, fun _ => cellsOk_rep m⟩
theorem frz_fcs {H : Nat → Option HO} {B : Nat} {e : TypeId} {v : List (Int × Int)} {n : Nat} (hB : H B = some (.cells e ((fcs v).map .d))) (hv : v.length = n) : frz H 8 (.own B 0 n 3) = some (encC v) ∧ vis H 8 (.own B 0 n 3) = [B] := by
  have hl := fcs_len v
  rw [hv] at hl
  constructor
  · rw [frz_own, hB]
    simp only [Nat.zero_add, List.length_map, hl, Nat.zero_mul, List.drop_zero]
    rw [fcs_take_all hv, if_pos ⟨Nat.le_refl _, by decide⟩]
    have : List.mapM (frz H 7) ((fcs v).map AV.d) = some (fcs v) := mapM_d H 6 (fcs v)
    rw [this, Option.map_some, chunk_fcs hv]; rfl
  · simp only [vis, hB, Nat.zero_mul, List.drop_zero]
    rw [fcs_take_all hv]
    congr 1
    refine List.flatMap_eq_nil_iff.2 fun x hx => ?_
    obtain ⟨y, _, rfl⟩ := List.mem_map.1 hx
    rfl

/-- The row being made: not begun, or a block of the call's own. -/
def owS (L : List (List (Int × Int))) (n i m : Nat) (done : List D) (row : List (Int × Int)) : Nat → St
  | 0 => StL [(3, .own 1 0 n 1), (4, .d (.i .i64 (i : Int))), (11, .d (.sl (L.map fun r => [encC r]))), (12, .d (.i .i64 (n : Int))), (13, .d (.i .i64 (i : Int))), (18, .d (encC row)), (19, .d (.i .i64 (row.length : Int))), (20, .d (.i .i64 0))] none [.cells 45 (rowD done .nil m)]
  | j + 1 => StL [(3, .own 1 0 n 1), (4, .d (.i .i64 (i : Int))), (11, .d (.sl (L.map fun r => [encC r]))), (12, .d (.i .i64 (n : Int))), (13, .d (.i .i64 (i : Int))), (18, .d (encC row)), (19, .d (.i .i64 (row.length : Int))), (20, .d (.i .i64 ((j + 1 : Nat) : Int)))] none
     [.cells 45 (rowD done (.own 2 0 (j + 1) 3) m), .cells 109 ((fcs (row.take (j + 1))).map .d)]

set_option maxHeartbeats 16000000 in
set_option maxRecDepth 10000 in
theorem ownRows (L : List (List (Int × Int))) (hL : ∀ x ∈ L, RowOk x) (hn : L.length ≤ 1000000) : Spec Try.prog 85 [.sl (L.map fun r => [encC r])] (.sl (L.map fun r => [encC r])) := by
  refine spec_of (N := 42) follows_mixed Try.func85 rfl rfl rfl (by kernel_rfl) (by kernel_rfl) (by simp) ?_
  have hm : 24 * (L.length : Int) ≤ 281474976710656 := by omega
  have hm2 : (L.length : Int) ≤ 9223372036854775807 := by omega
  simp (config := { maxSteps := 1000000 }) [-List.map_map, -List.mapM_map, ↓awp_skip, ↓awp_regionB, ↓awp_seq, ↓awp_block, ↓awp_exit, ↓awp_ret, ↓awp_label, ↓awp_scope, ↓awp_condB, ↓awp_loopB, ↓ow_nil', ↓ow_cons0, ↓ow_cons1, ↓o1_move, ↓o1_assign, ↓o1_pick, ↓o1_alloc, ↓o1_box, ↓o1_build, ↓o1_buildSlice, ↓o1_makeSlice, ↓o1_makeMap, ↓o1_binOp, ↓o1_unOp, ↓o1_convert, ↓o1_fieldAddr, ↓o1_field, ↓o1_indexAddr, ↓o1_extract, ↓o1_slice, ↓o1_len, ↓o1_max, ↓o1_min, ↓o1_load, ↓o1_lookup, ↓o1_store, ↓o1_mapUpdate, ↓o1_append, ↓o1_delete, ↓o1_call, hm, hm2, le_maxLen]
  refine loopP_inv (fun i : Nat => i ≤ L.length) (fun i => StL [(3, .own 1 0 L.length 1), (11, .d (.sl (L.map fun r => [encC r]))), (12, .d (.i .i64 (L.length : Int))), (13, .d (.i .i64 (i : Int)))] none [.cells 45 (rowE (rcs (L.take i)) (L.length - i))]) (fun i => L.length - i) 0 (Nat.zero_le _) ?_ ?_
  · refine wk_l [1] (by simp) ?_ ?_
    · simp [-List.map_map, upd, inj1, Γ0, ]
    · simp [-List.map_map, upd, inj1, Γ0, ]
      exact cellsOk_rep _
  · intro i hi
    by_cases hgi : i < L.length
    · have hx : L[i]? = some L[i] := List.getElem?_eq_getElem hgi
      have q1 : (i : Int) < L.length := by omega
      have hrow := hL _ (List.getElem_mem hgi)
      have hw : IntKind.i64.wrap ((i : Int) + 1) = (i : Int) + 1 := wrap_i64 (by omega) (by omega)
      have hd : (rcs (L.take i)).length = i := by rw [rcs_len, List.length_take]; exact Nat.min_eq_left hi
      have htk : rcs (L.take (i + 1)) = rcs (L.take i) ++ [encC L[i]] := by rw [List.take_add_one, hx]; exact rcs_snoc _ _
      have hst : rowE (rcs (L.take i)) (L.length - i) = rowD (rcs (L.take i)) .nil (L.length - (i + 1)) := by rw [show L.length - i = (L.length - (i + 1)) + 1 by omega]; rfl
      have hmm : i + (L.length - (i + 1) + 1) = L.length := by omega
      rw [hst]
      have hend : ∀ (H H' : Nat → Option HO) (ρ : Nat → Nat) (c : AV), SubL H H' ρ c (.d (encC L[i])) → cellsOk H H' ρ (rowD (rcs (L.take i)) c (L.length - (i + 1))) (rowE (rcs (L.take (i + 1))) (L.length - (i + 1))) := fun H H' ρ c h => by
        rw [htk, ← rowD_d]
        exact cellsOk_rowD.2 h
      generalize rcs (L.take i) = done at *
      generalize hmd : L.length - (i + 1) = m at *
      generalize L[i] = x at *
      have hiL : i < i + (m + 1) := by omega
      simp (config := { maxSteps := 1000000 }) [-List.map_map, -List.mapM_map, ↓awp_skip, ↓awp_regionB, ↓awp_seq, ↓awp_block, ↓awp_exit, ↓awp_ret, ↓awp_label, ↓awp_scope, ↓awp_condB, ↓awp_loopB, ↓ow_nil', ↓ow_cons0, ↓ow_cons1, ↓o1_move, ↓o1_assign, ↓o1_pick, ↓o1_alloc, ↓o1_box, ↓o1_build, ↓o1_buildSlice, ↓o1_makeSlice, ↓o1_makeMap, ↓o1_binOp, ↓o1_unOp, ↓o1_convert, ↓o1_fieldAddr, ↓o1_field, ↓o1_indexAddr, ↓o1_extract, ↓o1_slice, ↓o1_len, ↓o1_max, ↓o1_min, ↓o1_load, ↓o1_lookup, ↓o1_store, ↓o1_mapUpdate, ↓o1_append, ↓o1_delete, ↓o1_call, q1, hx, encC]
      refine loopP_inv (fun j : Nat => j ≤ x.length) (owS L L.length i m done x) (fun j => x.length - j) 0 (Nat.zero_le _) ?_ ?_
      · simp only [owS]
        refine wk_l [1] (by simp) ?_ ?_ <;> simp [-List.map_map, upd, inj1, Γ0, encC, cellsOk_rowD]
      · intro j hj
        by_cases hgo : j < x.length
        · have hy : x[j]? = some x[j] := List.getElem?_eq_getElem hgo
          have hys := hrow.1 _ (List.getElem_mem hgo)
          have hxl := hrow.2
          have htk2 : fcs (x.take (j + 1)) = fcs (x.take j) ++ fcs [x[j]] := by rw [List.take_add_one, hy, fcs_app]; rfl
          have hfl := fcs_len (x.take j)
          rw [List.length_take, Nat.min_eq_left hj] at hfl
          generalize x[j] = y at *
          obtain ⟨yc, yv⟩ := y
          have hS := ownSpec yv (Nat.le_trans hys (by decide))
          rcases j with _ | j
          · simp only [owS]
            have q2 : 0 < x.length := hgo
            have hgt := rowD_get (x := .nil) (m := m) hd
            have hly := fun v => rowD_lay (x := .nil) (y := v) (m := m) hd
            have hw2 : IntKind.i64.wrap (1 : Int) = 1 := wrap_i64 (by omega) (by omega)
            obtain ⟨_, hy2⟩ := List.getElem?_eq_some_iff.1 hy
            have hbb : True := trivial
            simp (config := { maxSteps := 1000000 }) [-List.map_map, -List.mapM_map, ↓awp_skip, ↓awp_regionB, ↓awp_seq, ↓awp_block, ↓awp_exit, ↓awp_ret, ↓awp_label, ↓awp_scope, ↓awp_condB, ↓awp_loopB, ↓ow_nil', ↓ow_cons0, ↓ow_cons1, ↓o1_move, ↓o1_assign, ↓o1_pick, ↓o1_alloc, ↓o1_box, ↓o1_build, ↓o1_buildSlice, ↓o1_makeSlice, ↓o1_makeMap, ↓o1_binOp, ↓o1_unOp, ↓o1_convert, ↓o1_fieldAddr, ↓o1_field, ↓o1_indexAddr, ↓o1_extract, ↓o1_slice, ↓o1_len, ↓o1_max, ↓o1_min, ↓o1_load, ↓o1_lookup, ↓o1_store, ↓o1_mapUpdate, ↓o1_append, ↓o1_delete, ↓o1_call, q2, hy, hy2, encF_eq, encC, hgt, hgi, cellsA_encM, one_encM, inj1_encM, inj_encM, kills_encM]
            refine callP_intro (ds := [encZ yv]) (by rfl) hS ?_
            rw [encZ_eq]
            simp (config := { maxSteps := 1000000 }) [-List.map_map, -List.mapM_map, ↓awp_skip, ↓awp_regionB, ↓awp_seq, ↓awp_block, ↓awp_exit, ↓awp_ret, ↓awp_label, ↓awp_scope, ↓awp_condB, ↓awp_loopB, ↓ow_nil', ↓ow_cons0, ↓ow_cons1, ↓o1_move, ↓o1_assign, ↓o1_pick, ↓o1_alloc, ↓o1_box, ↓o1_build, ↓o1_buildSlice, ↓o1_makeSlice, ↓o1_makeMap, ↓o1_binOp, ↓o1_unOp, ↓o1_convert, ↓o1_fieldAddr, ↓o1_field, ↓o1_indexAddr, ↓o1_extract, ↓o1_slice, ↓o1_len, ↓o1_max, ↓o1_min, ↓o1_load, ↓o1_lookup, ↓o1_store, ↓o1_mapUpdate, ↓o1_append, ↓o1_delete, ↓o1_call, hw2, hd, hbb, le_maxLen, rowD_len, hly, rowD_scrub, hgi, cellsA_encM, one_encM, inj1_encM, inj_encM, kills_encM]
            refine nxt_intro 1 hgo (Nat.sub_lt_sub_left hgo (Nat.lt_succ_self _)) ?_
            simp only [owS, htk2]
            refine wk_l [1, 4] (by simp) ?_ ?_ <;> simp [-List.map_map, upd, inj1, Γ0, encC, cellsOk_rowD, subL_own_iff3, fcs_app, fcs_one, fcs_nil]
          · simp only [owS]
            generalize j + 1 = J at *
            have q2 : (J : Int) < x.length := by omega
            have hgt := rowD_get (x := .own 2 0 J 3) (m := m) hd
            have hly := fun v => rowD_lay (x := .own 2 0 J 3) (y := v) (m := m) hd
            have hJ : J ≤ 4294967296 := Nat.le_trans hj hxl
            have hw2 : IntKind.i64.wrap ((J : Int) + 1) = (J : Int) + 1 := wrap_i64 (by omega) (by omega)
            have hbb : (J + 1) * 40 ≤ 140737488355328 ∧ J + 1 ≤ 1099511627776 := ⟨by omega, by omega⟩
            generalize fcs (x.take J) = out at *
            simp (config := { maxSteps := 1000000 }) [-List.map_map, -List.mapM_map, ↓awp_skip, ↓awp_regionB, ↓awp_seq, ↓awp_block, ↓awp_exit, ↓awp_ret, ↓awp_label, ↓awp_scope, ↓awp_condB, ↓awp_loopB, ↓ow_nil', ↓ow_cons0, ↓ow_cons1, ↓o1_move, ↓o1_assign, ↓o1_pick, ↓o1_alloc, ↓o1_box, ↓o1_build, ↓o1_buildSlice, ↓o1_makeSlice, ↓o1_makeMap, ↓o1_binOp, ↓o1_unOp, ↓o1_convert, ↓o1_fieldAddr, ↓o1_field, ↓o1_indexAddr, ↓o1_extract, ↓o1_slice, ↓o1_len, ↓o1_max, ↓o1_min, ↓o1_load, ↓o1_lookup, ↓o1_store, ↓o1_mapUpdate, ↓o1_append, ↓o1_delete, ↓o1_call, q2, hy, encF_eq, encC, hgt, hgi, cellsA_encM, one_encM, inj1_encM, inj_encM, kills_encM]
            refine callP_intro (ds := [encZ yv]) (by rfl) hS ?_
            rw [encZ_eq]
            simp (config := { maxSteps := 1000000 }) [-List.map_map, -List.mapM_map, ↓awp_skip, ↓awp_regionB, ↓awp_seq, ↓awp_block, ↓awp_exit, ↓awp_ret, ↓awp_label, ↓awp_scope, ↓awp_condB, ↓awp_loopB, ↓ow_nil', ↓ow_cons0, ↓ow_cons1, ↓o1_move, ↓o1_assign, ↓o1_pick, ↓o1_alloc, ↓o1_box, ↓o1_build, ↓o1_buildSlice, ↓o1_makeSlice, ↓o1_makeMap, ↓o1_binOp, ↓o1_unOp, ↓o1_convert, ↓o1_fieldAddr, ↓o1_field, ↓o1_indexAddr, ↓o1_extract, ↓o1_slice, ↓o1_len, ↓o1_max, ↓o1_min, ↓o1_load, ↓o1_lookup, ↓o1_store, ↓o1_mapUpdate, ↓o1_append, ↓o1_delete, ↓o1_call, hw2, hd, hbb, hfl, le_maxLen, rowD_len, hly, rowD_scrub, hgi, cellsA_encM, one_encM, inj1_encM, inj_encM, kills_encM]
            refine nxt_intro (J + 1) hgo (Nat.sub_lt_sub_left hgo (Nat.lt_succ_self _)) ?_
            simp only [owS, htk2]
            refine wk_l [1, 5] (by simp) ?_ ?_ <;> simp [-List.map_map, upd, inj1, Γ0, encC, rowD_scrub, cellsOk_rowD, subL_own_iff3, fcs_app, fcs_one]
        · have e : j = x.length := by omega
          have hxt : x.take j = x := List.take_of_length_le (by omega)
          rcases j with _ | j
          · have hxn : x = [] := List.eq_nil_of_length_eq_zero e.symm
            simp only [owS]
            have q2 : ¬ (0 : Int) < x.length := by omega
            have q3 : ¬ 0 < x.length := by omega
            simp (config := { maxSteps := 1000000 }) [-List.map_map, -List.mapM_map, ↓awp_skip, ↓awp_regionB, ↓awp_seq, ↓awp_block, ↓awp_exit, ↓awp_ret, ↓awp_label, ↓awp_scope, ↓awp_condB, ↓awp_loopB, ↓ow_nil', ↓ow_cons0, ↓ow_cons1, ↓o1_move, ↓o1_assign, ↓o1_pick, ↓o1_alloc, ↓o1_box, ↓o1_build, ↓o1_buildSlice, ↓o1_makeSlice, ↓o1_makeMap, ↓o1_binOp, ↓o1_unOp, ↓o1_convert, ↓o1_fieldAddr, ↓o1_field, ↓o1_indexAddr, ↓o1_extract, ↓o1_slice, ↓o1_len, ↓o1_max, ↓o1_min, ↓o1_load, ↓o1_lookup, ↓o1_store, ↓o1_mapUpdate, ↓o1_append, ↓o1_delete, ↓o1_call, q2, q3, hw]
            refine nxt_intro (i + 1) hgi (Nat.sub_lt_sub_left hgi (Nat.lt_succ_self _)) ?_
            refine wk_l [1] (by simp) ?_ ?_
            · simp [-List.map_map, upd, inj1, Γ0, encC]
            · simp [-List.map_map, upd, inj1, Γ0, hmd]
              refine hend _ _ _ _ ?_
              rw [hxn]
              exact ⟨rfl, fun a ha => by simp [vis] at ha⟩
          · simp only [owS]
            rw [hxt]
            generalize j + 1 = J at *
            have q2 : ¬ (J : Int) < x.length := by omega
            simp (config := { maxSteps := 1000000 }) [-List.map_map, -List.mapM_map, ↓awp_skip, ↓awp_regionB, ↓awp_seq, ↓awp_block, ↓awp_exit, ↓awp_ret, ↓awp_label, ↓awp_scope, ↓awp_condB, ↓awp_loopB, ↓ow_nil', ↓ow_cons0, ↓ow_cons1, ↓o1_move, ↓o1_assign, ↓o1_pick, ↓o1_alloc, ↓o1_box, ↓o1_build, ↓o1_buildSlice, ↓o1_makeSlice, ↓o1_makeMap, ↓o1_binOp, ↓o1_unOp, ↓o1_convert, ↓o1_fieldAddr, ↓o1_field, ↓o1_indexAddr, ↓o1_extract, ↓o1_slice, ↓o1_len, ↓o1_max, ↓o1_min, ↓o1_load, ↓o1_lookup, ↓o1_store, ↓o1_mapUpdate, ↓o1_append, ↓o1_delete, ↓o1_call, q2, hw]
            refine nxt_intro (i + 1) hgi (Nat.sub_lt_sub_left hgi (Nat.lt_succ_self _)) ?_
            refine wk_l [1] (by simp) ?_ ?_
            · simp [-List.map_map, upd, inj1, Γ0, encC]
            · simp [-List.map_map, upd, inj1, Γ0, hmd]
              refine hend _ _ _ _ ?_
              exact subL_read (frz_fcs (e := 109) (by simp [upd, blkF]) e.symm).1 (frz_fcs (e := 109) (by simp [upd, blkF]) e.symm).2 (rho_neF (rs := [1]) (by decide) (by decide) (by simp))
    · have e : i = L.length := by omega
      have hL2 : L.take i = L := List.take_of_length_le (by omega)
      have hfm := rcs_len L
      have hst : rowE (rcs (L.take i)) (L.length - i) = (rcs L).map .d := by rw [hL2, e, Nat.sub_self, rowE_zero]
      rw [hst]
      have q1 : ¬ (i : Int) < L.length := by omega
      have hM := rcs_chunk L
      simp (config := { maxSteps := 1000000 }) [-List.map_map, -List.mapM_map, ↓awp_skip, ↓awp_regionB, ↓awp_seq, ↓awp_block, ↓awp_exit, ↓awp_ret, ↓awp_label, ↓awp_scope, ↓awp_condB, ↓awp_loopB, ↓ow_nil', ↓ow_cons0, ↓ow_cons1, ↓o1_move, ↓o1_assign, ↓o1_pick, ↓o1_alloc, ↓o1_box, ↓o1_build, ↓o1_buildSlice, ↓o1_makeSlice, ↓o1_makeMap, ↓o1_binOp, ↓o1_unOp, ↓o1_convert, ↓o1_fieldAddr, ↓o1_field, ↓o1_indexAddr, ↓o1_extract, ↓o1_slice, ↓o1_len, ↓o1_max, ↓o1_min, ↓o1_load, ↓o1_lookup, ↓o1_store, ↓o1_mapUpdate, ↓o1_append, ↓o1_delete, ↓o1_call, q1, hM, hfm]
      rw [List.take_of_length_le (by simp [hfm]), mapM_d _ 6 (rcs L)]
      simp [chunk_one _ _ hfm.symm]

end Go.Am

open Go Go.Am Go.Proofs
namespace Go.Am
set_option linter.unusedSimpArgs false

theorem cellsA_encC (l : List (Int × Int)) : cellsA (.d (encC l)) = some [.d (encC l)] := rfl
theorem one_encC (l : List (Int × Int)) : one (AV.d (encC l)) = true := rfl
theorem inj1_encC (l : List (Int × Int)) : inj1 (encC l) = .d (encC l) := rfl

/-- A valid matrix. -/
structure MOk (c : Int) (L : List (List (Int × Int))) : Prop where
  srt : ∀ r ∈ L, Srt r
  col : ∀ r ∈ L, ∀ x ∈ r, 0 ≤ x.1 ∧ x.1 < c
  ok : ∀ r ∈ L, RowOk r
  pos : 0 ≤ c
  len : L.length ≤ 1000000

theorem encS_tmZ (R c : Int) (L : List (List (Int × Int))) : encS R c (L.map fun r => r.map tmZ) = encSp R c L := by
  unfold encS encSp
  rw [List.map_map]
  rw [show ((fun r => [encR r]) ∘ fun r : List (Int × Int) => r.map tmZ) = fun r => [encC r] from funext fun r => by simp [encR_tmZ]]

theorem spValidZ {c : Int} {L : List (List (Int × Int))} (h : MOk c L) : Spec Try.prog 23 [encSp L.length c L] (.b true) := by
  have h1 := spValid L.length c (L.map fun r => r.map tmZ) (fun r hr => by
    obtain ⟨x, hx, rfl⟩ := List.mem_map.1 hr
    refine ⟨fun t ht => ?_, ?_⟩
    · obtain ⟨y, hy, rfl⟩ := List.mem_map.1 ht
      exact Nat.le_trans ((h.ok x hx).1 y hy) (by decide)
    · rw [List.length_map]; exact Nat.le_trans (h.ok x hx).2 (by decide)) (by rw [List.length_map]; exact Nat.le_trans h.len (by decide))
  rw [encS_tmZ] at h1
  have h2 : matR L.length c (L.map fun r => r.map tmZ) = true := matR_true (by simp) (by have := h.pos; omega) fun j hj r hr => by
    rw [List.getElem?_map] at hr
    obtain ⟨x, hx, rfl⟩ := Option.map_eq_some_iff.1 hr
    have hm := List.mem_of_getElem? hx
    exact rowR_tmZ (h.srt x hm) (h.col x hm)
  rwa [h2] at h1

theorem okHead_map (l : List (List (Int × Int))) : okHead 1 (l.map fun r => [encC r]) = true := by cases l <;> rfl
theorem flat_map (l : List (List (Int × Int))) : (l.map fun r => [encC r]).flatten = rcs l := by
  rw [rcs_chunk]; induction rcs l with
  | nil => rfl
  | cons x r ih => simp [ih]
theorem all_one (l : List (List (Int × Int))) : ((rcs l).map AV.d).all one = true := by
  simp [rcs, List.all_eq_true]; intro _ _; rfl

theorem frz_own1 {H : Nat → Option HO} {B n : Nat} {e : TypeId} {cs : List AV} {M : List (List (Int × Int))} (hB : H B = some (.cells e cs)) (hcs : cs = (rcs M).map .d) (hn : M.length = n) :
    frz H 8 (.own B 0 n 1) = some (.sl (M.map fun r => [encC r])) ∧ vis H 8 (.own B 0 n 1) = [B] := by
  subst hcs
  have hl : (rcs M).length = n := by rw [rcs_len]; exact hn
  have ht : (List.map AV.d (rcs M)).take n = List.map AV.d (rcs M) := List.take_of_length_le (by simp [hl])
  constructor
  · rw [frz_own, hB]
    simp only [Nat.zero_add, List.length_map, hl, Nat.zero_mul, List.drop_zero, Nat.mul_one]
    rw [ht, if_pos ⟨Nat.le_refl _, by decide⟩]
    have : List.mapM (frz H 7) ((rcs M).map AV.d) = some (rcs M) := mapM_d H 6 (rcs M)
    rw [this, Option.map_some, chunk_one _ _ hl.symm, rcs_chunk]
  · simp only [vis, hB, Nat.zero_mul, List.drop_zero, Nat.mul_one]
    rw [ht]
    congr 1
    refine List.flatMap_eq_nil_iff.2 fun x hx => ?_
    obtain ⟨y, _, rfl⟩ := List.mem_map.1 hx
    rfl
theorem frzs_own1 {H : Nat → Option HO} {B n : Nat} {e : TypeId} {cs : List AV} {M : List (List (Int × Int))} (hB : H B = some (.cells e cs)) (hcs : cs = (rcs M).map .d) (hn : M.length = n) :
    frzs H [.own B 0 n 1] = some [.sl (M.map fun r => [encC r])] ∧ viss H [.own B 0 n 1] = [B] := by
  obtain ⟨h1, h2⟩ := frz_own1 hB hcs hn
  constructor
  · unfold frzs; simp [h1]
  · unfold viss; simp [h2]
theorem viss_own1 {H : Nat → Option HO} {B n : Nat} {e : TypeId} {cs : List AV} {M : List (List (Int × Int))} (hB : H B = some (.cells e cs)) (hcs : cs = (rcs M).map .d) (hn : M.length = n) :
    viss H [.own B 0 n 1] = [B] := (frzs_own1 hB hcs hn).2
theorem fm7 (H : Nat → Option HO) (l : List D) : List.flatMap (vis H 7) (l.map AV.d) = [] := by
  refine List.flatMap_eq_nil_iff.2 fun x hx => ?_
  obtain ⟨y, _, rfl⟩ := List.mem_map.1 hx
  rfl

end Go.Am

open Go Go.Am Go.Proofs
namespace Go.Am
set_option linter.unusedSimpArgs false

theorem szMat_ok (l : List Int) {cc rr : Nat} (hc : cc ≤ 1000) (hr : rr ≤ 1000) : MOk (cc : Int) ((szMat l cc rr).map (rw0 0)) := by
  have hm : ∀ r ∈ (szMat l cc rr).map (rw0 0), ∃ i, r = rw0 0 (szRow l cc i cc) := fun r h => by
    obtain ⟨v, hv, rfl⟩ := List.mem_map.1 h
    obtain ⟨i, _, rfl⟩ := List.mem_map.1 hv
    exact ⟨i, rfl⟩
  refine ⟨fun r h => ?_, fun r h x hx => ?_, fun r h => ?_, Int.natCast_nonneg _, ?_⟩
  · obtain ⟨i, rfl⟩ := hm r h; exact rw0_srt _ _
  · obtain ⟨i, rfl⟩ := hm r h
    have := rw0_mem _ _ _ hx
    rw [szRow_len] at this
    exact ⟨by omega, by omega⟩
  · obtain ⟨i, rfl⟩ := hm r h
    refine ⟨fun x hx => ?_, ?_⟩
    · obtain ⟨_, _, h3, _⟩ := rw0_mem _ _ _ hx
      obtain ⟨j, _, e⟩ := List.mem_map.1 h3
      have := vz1_bnd l (i * cc + j)
      exact sz_small (by rw [← e]; omega)
    · exact Nat.le_trans (rw0_len _ _) (by rw [szRow_len]; omega)
  · rw [List.length_map, szMat_len]; omega
theorem vecZ_ok (l : List Int) {n : Nat} (hn : n ≤ 1000) : RowOk (rw0 0 (vecZ l n)) := by
  refine ⟨fun x hx => ?_, Nat.le_trans (rw0_len _ _) (by rw [vecZ_len]; omega)⟩
  obtain ⟨_, _, h3, _⟩ := rw0_mem _ _ _ hx
  obtain ⟨j, _, e⟩ := List.mem_map.1 h3
  have := vz1_bnd l j
  exact sz_small (by rw [← e]; omega)

theorem inj_encC (l : List (Int × Int)) : inj (encC l) = .d (encC l) := rfl
theorem kills_encC (H : Nat → Option HO) (avs : List AV) (l : List (Int × Int)) : killsOf H avs (encC l) = viss H avs := rfl

theorem r06ValidZ {c : Int} {L : List (List (Int × Int))} (h : MOk c L) : Spec Try.prog 24 [encSp L.length c L] (.b true) := by
  have h1 := r06Valid L.length c (L.map fun r => r.map tmZ) (fun r hr => by
    obtain ⟨x, hx, rfl⟩ := List.mem_map.1 hr
    refine ⟨fun t ht => ?_, ?_⟩
    · obtain ⟨y, hy, rfl⟩ := List.mem_map.1 ht
      exact Nat.le_trans ((h.ok x hx).1 y hy) (by decide)
    · rw [List.length_map]; exact Nat.le_trans (h.ok x hx).2 (by decide)) (by rw [List.length_map]; exact Nat.le_trans h.len (by decide))
  rw [encS_tmZ] at h1
  have h2 : matR L.length c (L.map fun r => r.map tmZ) = true := matR_true (by simp) (by have := h.pos; omega) fun j hj r hr => by
    rw [List.getElem?_map] at hr
    obtain ⟨x, hx, rfl⟩ := Option.map_eq_some_iff.1 hr
    have hm := List.mem_of_getElem? hx
    exact rowR_tmZ (h.srt x hm) (h.col x hm)
  rwa [h2] at h1


end Go.Am
