/- SparseMerges answers true. No condition. -/
import Derived.Test.YtmnjglpieghdkaaMq
import Derived.Test.YtmnjglpieghdkaaMr
import Derived.Test.YtmnjglpieghdkaaSq
open Go Go.Am Go.Proofs
namespace Go.Am
set_option linter.unusedSimpArgs false

theorem rho_ne {hs : List HO} {sl : List (Nat × AV)} {rs : List Nat} {B : Nat} (hB : B ≠ 0) (h : B ∉ rs) (hl : hs.length ≤ rs.length) : ∀ id, ((StL sl none hs).H id).isSome = true → rhoL rs id ≠ B := by
  intro id hid e
  cases id with
  | zero => exact hB e.symm
  | succ i =>
    rw [StL_Hs] at hid
    have hi : i < hs.length := by
      rcases Nat.lt_or_ge i hs.length with h | h
      · exact h
      · rw [List.getElem?_eq_none h] at hid; cases hid
    have hi2 : i < rs.length := by omega
    simp only [rhoL] at e
    rw [getD_of hi2] at e
    exact h (e ▸ List.getElem_mem hi2)
theorem rho_neF {hs : List HO} {rs : List Nat} {B : Nat} (hB : B ≠ 0) (h : B ∉ rs) (hl : hs.length ≤ rs.length) : ∀ id, (blkF 1 hs id).isSome = true → rhoL rs id ≠ B :=
  fun id => rho_ne (sl := []) (hs := hs) hB h hl id
/-- A slice of the call's own, in a cell, that is read for good. -/
theorem subL_read {H H' : Nat → Option HO} {ρ : Nat → Nat} {a o l s : Nat} {y : D} (h1 : frz H 8 (.own a o l s) = some y) (h2 : vis H 8 (.own a o l s) = [a]) (h3 : ∀ id, (H' id).isSome = true → ρ id ≠ a) : SubL H H' ρ (.own a o l s) (.d y) := by
  refine ⟨h1, fun x hx id hid => ?_⟩
  rw [h2] at hx
  simp at hx
  subst hx
  exact h3 id hid
theorem cellsOk_app {H H' : Nat → Option HO} {ρ : Nat → Nat} {l : List D} {x : AV} {y : D} (h : SubL H H' ρ x (.d y)) : cellsOk H H' ρ (l.map .d ++ [x]) ((l ++ [y]).map .d) := by
  rw [List.map_append, cellsOk_same]
  exact ⟨h, trivial⟩

theorem subL_own_iff3 {H H' : Nat → Option HO} {ρ : Nat → Nat} {a o l s b o' l' s' : Nat} : SubL H H' ρ (.own a o l s) (.own b o' l' s') ↔ (a = ρ b ∧ o = o' ∧ l = l' ∧ s = s' ∧ (H' b).isSome = true) := Iff.rfl

def encRaw (r c : Int) (l : List Int) : D := .ag [.i .u8 r, .i .u8 c, encB l]
def encMat (rows cols : Int) (A : List (List Int)) : D := .ag [.i .i64 rows, .i .i64 cols, .sl (A.map fun v => [encV2 v])]
def szRow (l : List Int) (cols i n : Nat) : List Int := (List.range n).map fun j => vz1 l (i * cols + j)
theorem szRow_succ (l : List Int) (cols i n : Nat) : szRow l cols i (n + 1) = szRow l cols i n ++ [vz1 l (i * cols + n)] := by simp [szRow, List.range_succ]
theorem szRow_len (l : List Int) (cols i n : Nat) : (szRow l cols i n).length = n := by simp [szRow]
def szMat (l : List Int) (cols n : Nat) : List (List Int) := (List.range n).map fun i => szRow l cols i cols
theorem szMat_succ (l : List Int) (cols n : Nat) : szMat l cols (n + 1) = szMat l cols n ++ [szRow l cols n cols] := by simp [szMat, List.range_succ]
theorem szMat_len (l : List Int) (cols n : Nat) : (szMat l cols n).length = n := by simp [szMat]
theorem frz_vcs {H : Nat → Option HO} {B : Nat} {e : TypeId} {v : List Int} {n : Nat} (hB : H B = some (.cells e ((vcs v).map .d))) (hv : v.length = n) : frz H 8 (.own B 0 n 2) = some (encV2 v) ∧ vis H 8 (.own B 0 n 2) = [B] := by
  have hl := vcs_len v
  rw [hv] at hl
  constructor
  · rw [frz_own, hB]
    simp only [Nat.zero_add, List.length_map, hl, Nat.zero_mul, List.drop_zero]
    rw [vcs_take_all hv, if_pos ⟨Nat.le_refl _, by decide⟩]
    have : List.mapM (frz H 7) ((vcs v).map AV.d) = some (vcs v) := mapM_d H 6 (vcs v)
    rw [this, Option.map_some, chunk_vcs hv]; rfl
  · simp only [vis, hB, Nat.zero_mul, List.drop_zero]
    rw [vcs_take_all hv]
    congr 1
    refine List.flatMap_eq_nil_iff.2 fun x hx => ?_
    obtain ⟨y, _, rfl⟩ := List.mem_map.1 hx
    rfl

/-- The rows so far, as cells. -/
def mcs (A : List (List Int)) : List D := A.map encV2
theorem mcs_one (v : List Int) : mcs [v] = [encV2 v] := rfl
theorem mcs_snoc (A : List (List Int)) (v : List Int) : mcs (A ++ [v]) = mcs A ++ [encV2 v] := by simp [mcs]
theorem szMat_zero (l : List Int) (cols : Nat) : szMat l cols 0 = [] := rfl
def szS (r c : Int) (l : List Int) (rows cols : Nat) : Nat → St
  | 0 => StL [(1, .d (.i .i64 (rows : Int))), (2, .d (.i .i64 (cols : Int))), (3, .ptr 1 0), (6, .ptr 2 0), (7, .ptr 3 0), (8, .d (.i .i64 0))] none
      [.cells 58 [.d (.i .u8 r), .d (.i .u8 c), .d (encB l)], .cells 62 [.d (.i .i64 0), .d (.i .i64 0), .nil], .cells 62 [.d (.i .i64 (rows : Int)), .d (.i .i64 (cols : Int)), .nil]]
  | i + 1 => StL [(1, .d (.i .i64 (rows : Int))), (2, .d (.i .i64 (cols : Int))), (3, .ptr 1 0), (6, .ptr 2 0), (7, .ptr 3 0), (8, .d (.i .i64 ((i : Int) + 1)))] none
      [.cells 58 [.d (.i .u8 r), .d (.i .u8 c), .d (encB l)], .cells 62 [.d (.i .i64 0), .d (.i .i64 0), .nil], .cells 62 [.d (.i .i64 (rows : Int)), .d (.i .i64 (cols : Int)), .own 4 0 (i + 1) 1], .cells 49 ((mcs (szMat l cols (i + 1))).map .d)]

set_option maxHeartbeats 8000000 in
set_option maxRecDepth 10000 in
theorem r06Sized (r c : Int) (l : List Int) (rows cols : Nat) (h8 : ∀ x ∈ l, -128 ≤ x ∧ x ≤ 127) (hr : rows ≤ 1000) (hc : cols ≤ 1000) : Spec Try.prog 40 [encRaw r c l, .i .i64 (rows : Int), .i .i64 (cols : Int)] (encMat rows cols (szMat l cols rows)) := by
  refine spec_of (N := 58) follows_mixed Try.func40 rfl rfl rfl (by kernel_rfl) (by kernel_rfl) (by simp) ?_
  simp (config := { maxSteps := 1000000 }) [-List.map_map, -List.mapM_map, ↓awp_skip, ↓awp_regionB, ↓awp_seq, ↓awp_block, ↓awp_exit, ↓awp_ret, ↓awp_label, ↓awp_scope, ↓awp_condB, ↓awp_loopB, ↓ow_nil', ↓ow_cons0, ↓ow_cons1, ↓o1_move, ↓o1_assign, ↓o1_pick, ↓o1_alloc, ↓o1_box, ↓o1_build, ↓o1_buildSlice, ↓o1_makeSlice, ↓o1_makeMap, ↓o1_binOp, ↓o1_unOp, ↓o1_convert, ↓o1_fieldAddr, ↓o1_field, ↓o1_indexAddr, ↓o1_extract, ↓o1_slice, ↓o1_len, ↓o1_max, ↓o1_min, ↓o1_load, ↓o1_lookup, ↓o1_store, ↓o1_mapUpdate, ↓o1_append, ↓o1_delete, ↓o1_call, encRaw, encB]
  refine loopP_inv (fun i : Nat => i ≤ rows) (szS r c l rows cols) (fun i => rows - i) 0 (Nat.zero_le _) ?_ ?_
  · simp only [szS]
    refine wk_l [1, 2, 3] (by simp) ?_ ?_ <;> simp [-List.map_map, upd, inj1, Γ0, encB]
  · intro i hi
    by_cases hgo : i < rows
    · have q1 : (i : Int) < rows := by omega
      have hsucc := szMat_succ l cols i
      have hml := szMat_len l cols i
      rcases i with _ | i
      · simp only [szS]
        have hm : IntKind.i64.wrap 0 = 0 := wrap_i64 (by omega) (by omega)
        have hI1 : IntKind.i64.wrap (1 : Int) = 1 := wrap_i64 (by omega) (by omega)
        have q1' : 0 < rows := hgo
        have hi1 : (0 : Nat) + 1 = 1 := rfl
        simp (config := { maxSteps := 1000000 }) [-List.map_map, -List.mapM_map, ↓awp_skip, ↓awp_regionB, ↓awp_seq, ↓awp_block, ↓awp_exit, ↓awp_ret, ↓awp_label, ↓awp_scope, ↓awp_condB, ↓awp_loopB, ↓ow_nil', ↓ow_cons0, ↓ow_cons1, ↓o1_move, ↓o1_assign, ↓o1_pick, ↓o1_alloc, ↓o1_box, ↓o1_build, ↓o1_buildSlice, ↓o1_makeSlice, ↓o1_makeMap, ↓o1_binOp, ↓o1_unOp, ↓o1_convert, ↓o1_fieldAddr, ↓o1_field, ↓o1_indexAddr, ↓o1_extract, ↓o1_slice, ↓o1_len, ↓o1_max, ↓o1_min, ↓o1_load, ↓o1_lookup, ↓o1_store, ↓o1_mapUpdate, ↓o1_append, ↓o1_delete, ↓o1_call, q1', encB]
        refine loopP_inv (fun j : Nat => j ≤ cols) (fun j => StL [(1, .d (.i .i64 (rows : Int))), (2, .d (.i .i64 (cols : Int))), (3, .ptr 1 0), (6, .ptr 2 0), (7, .ptr 3 0), (8, .d (.i .i64 0)), (9, .own 4 0 j 2), (10, .d (.i .i64 (j : Int)))] none
            [.cells 58 [.d (.i .u8 r), .d (.i .u8 c), .d (encB l)], .cells 62 [.d (.i .i64 0), .d (.i .i64 0), .nil], .cells 62 [.d (.i .i64 (rows : Int)), .d (.i .i64 (cols : Int)), .nil], .cells 32 ((vcs (szRow l cols 0 j)).map .d)]) (fun j => cols - j) 0 (Nat.zero_le _) ?_ ?_
        · refine wk_l [1, 2, 3, 4] (by simp) ?_ ?_ <;> simp [-List.map_map, upd, inj1, Γ0, encB, szRow, vcs_nil, subL_own_iff3]
        · intro j hj
          by_cases hgj : j < cols
          · have p1 : (j : Int) < cols := by omega
            have hw : IntKind.i64.wrap ((j : Int) + 1) = (j : Int) + 1 := wrap_i64 (by omega) (by omega)
            have hv := szRow_succ l cols 0 j
            have hfl := vcs_len (szRow l cols 0 j)
            rw [szRow_len] at hfl
            have hbb := app_bounds2 (n := j) (by omega)
            generalize szRow l cols 0 j = out at *
            have hqj : IntKind.i64.wrap (j : Int) = (j : Int) := wrap_i64 (by omega) (by omega)
            rw [Nat.zero_mul, Nat.zero_add] at hv
            obtain ⟨q, hqd⟩ : ∃ q, q = j := ⟨_, rfl⟩
            rw [show vz1 l j = vz1 l q by rw [hqd]] at hv
            have hq : IntKind.i64.wrap (j : Int) = (q : Int) := by rw [hqj, hqd]
            clear hqj
            by_cases hil : q < l.length
            · have q2 : (q : Int) < l.length := by omega
              have hx : l[q]? = some l[q] := List.getElem?_eq_getElem hil
              have hx8 := h8 _ (List.getElem_mem hil)
              have hvz : vz1 l q = l[q].tmod 10 := by simp [vz1, hx]
              rw [hvz] at hv
              generalize l[q] = x at *
              have hb1 := Int.tmod_lt_of_pos x (b := 10) (by decide)
              have hb2 : -10 < x.tmod 10 := by
                have := Int.neg_tmod x 10
                have h3 := Int.tmod_lt_of_pos (-x) (b := 10) (by decide)
                omega
              generalize hrr : x.tmod 10 = s at *
              have hO := r01Of s (by omega) (by omega)
              have hw2 : IntKind.i64.wrap s = s := wrap_i64 (by omega) (by omega)
              clear hsucc hml
              simp (config := { maxSteps := 1000000 }) [-List.map_map, -List.mapM_map, ↓awp_skip, ↓awp_regionB, ↓awp_seq, ↓awp_block, ↓awp_exit, ↓awp_ret, ↓awp_label, ↓awp_scope, ↓awp_condB, ↓awp_loopB, ↓ow_nil', ↓ow_cons0, ↓ow_cons1, ↓o1_move, ↓o1_assign, ↓o1_pick, ↓o1_alloc, ↓o1_box, ↓o1_build, ↓o1_buildSlice, ↓o1_makeSlice, ↓o1_makeMap, ↓o1_binOp, ↓o1_unOp, ↓o1_convert, ↓o1_fieldAddr, ↓o1_field, ↓o1_indexAddr, ↓o1_extract, ↓o1_slice, ↓o1_len, ↓o1_max, ↓o1_min, ↓o1_load, ↓o1_lookup, ↓o1_store, ↓o1_mapUpdate, ↓o1_append, ↓o1_delete, ↓o1_call, encB, p1, hm, hq, q2, hx, hrr, hw2]
              refine callP_intro (ds := [.i .i64 s]) (by rfl) hO ?_
              rw [encZ_eq]
              simp (config := { maxSteps := 1000000 }) [-List.map_map, -List.mapM_map, ↓awp_skip, ↓awp_regionB, ↓awp_seq, ↓awp_block, ↓awp_exit, ↓awp_ret, ↓awp_label, ↓awp_scope, ↓awp_condB, ↓awp_loopB, ↓ow_nil', ↓ow_cons0, ↓ow_cons1, ↓o1_move, ↓o1_assign, ↓o1_pick, ↓o1_alloc, ↓o1_box, ↓o1_build, ↓o1_buildSlice, ↓o1_makeSlice, ↓o1_makeMap, ↓o1_binOp, ↓o1_unOp, ↓o1_convert, ↓o1_fieldAddr, ↓o1_field, ↓o1_indexAddr, ↓o1_extract, ↓o1_slice, ↓o1_len, ↓o1_max, ↓o1_min, ↓o1_load, ↓o1_lookup, ↓o1_store, ↓o1_mapUpdate, ↓o1_append, ↓o1_delete, ↓o1_call, hw, hbb, hfl, le_maxLen, cellsA_encM, one_encM, inj1_encM, inj_encM, kills_encM]
              refine nxt_intro (j + 1) hgj (Nat.sub_lt_sub_left hgj (Nat.lt_succ_self _)) (wk_l [1, 2, 3, 6] (by simp) ?_ ?_) <;> simp [-List.map_map, upd, inj1, Γ0, encB, hv, vcs_app, vcs_one, subL_own_iff3]
            · have q2 : ¬ (q : Int) < l.length := by omega
              have hvz : vz1 l q = 0 := by simp [vz1, List.getElem?_eq_none (Nat.le_of_not_lt hil)]
              rw [hvz] at hv
              have hO := r01Of 0 (by omega) (by omega)
              clear hsucc hml
              simp (config := { maxSteps := 1000000 }) [-List.map_map, -List.mapM_map, ↓awp_skip, ↓awp_regionB, ↓awp_seq, ↓awp_block, ↓awp_exit, ↓awp_ret, ↓awp_label, ↓awp_scope, ↓awp_condB, ↓awp_loopB, ↓ow_nil', ↓ow_cons0, ↓ow_cons1, ↓o1_move, ↓o1_assign, ↓o1_pick, ↓o1_alloc, ↓o1_box, ↓o1_build, ↓o1_buildSlice, ↓o1_makeSlice, ↓o1_makeMap, ↓o1_binOp, ↓o1_unOp, ↓o1_convert, ↓o1_fieldAddr, ↓o1_field, ↓o1_indexAddr, ↓o1_extract, ↓o1_slice, ↓o1_len, ↓o1_max, ↓o1_min, ↓o1_load, ↓o1_lookup, ↓o1_store, ↓o1_mapUpdate, ↓o1_append, ↓o1_delete, ↓o1_call, encB, p1, hm, hq, q2]
              refine callP_intro (ds := [.i .i64 0]) (by rfl) hO ?_
              rw [encZ_eq]
              simp (config := { maxSteps := 1000000 }) [-List.map_map, -List.mapM_map, ↓awp_skip, ↓awp_regionB, ↓awp_seq, ↓awp_block, ↓awp_exit, ↓awp_ret, ↓awp_label, ↓awp_scope, ↓awp_condB, ↓awp_loopB, ↓ow_nil', ↓ow_cons0, ↓ow_cons1, ↓o1_move, ↓o1_assign, ↓o1_pick, ↓o1_alloc, ↓o1_box, ↓o1_build, ↓o1_buildSlice, ↓o1_makeSlice, ↓o1_makeMap, ↓o1_binOp, ↓o1_unOp, ↓o1_convert, ↓o1_fieldAddr, ↓o1_field, ↓o1_indexAddr, ↓o1_extract, ↓o1_slice, ↓o1_len, ↓o1_max, ↓o1_min, ↓o1_load, ↓o1_lookup, ↓o1_store, ↓o1_mapUpdate, ↓o1_append, ↓o1_delete, ↓o1_call, hw, hbb, hfl, le_maxLen, cellsA_encM, one_encM, inj1_encM, inj_encM, kills_encM]
              refine nxt_intro (j + 1) hgj (Nat.sub_lt_sub_left hgj (Nat.lt_succ_self _)) (wk_l [1, 2, 3, 6] (by simp) ?_ ?_) <;> simp [-List.map_map, upd, inj1, Γ0, encB, hv, vcs_app, vcs_one, subL_own_iff3]
          · have e : j = cols := by omega
            subst e
            have p1 : ¬ (j : Int) < j := by omega
            have hrl := szRow_len l j 0 j
            have hfl := vcs_len (szRow l j 0 j)
            rw [hrl] at hfl
            generalize szRow l j 0 j = out at *
            simp (config := { maxSteps := 1000000 }) [-List.map_map, -List.mapM_map, ↓awp_skip, ↓awp_regionB, ↓awp_seq, ↓awp_block, ↓awp_exit, ↓awp_ret, ↓awp_label, ↓awp_scope, ↓awp_condB, ↓awp_loopB, ↓ow_nil', ↓ow_cons0, ↓ow_cons1, ↓o1_move, ↓o1_assign, ↓o1_pick, ↓o1_alloc, ↓o1_box, ↓o1_build, ↓o1_buildSlice, ↓o1_makeSlice, ↓o1_makeMap, ↓o1_binOp, ↓o1_unOp, ↓o1_convert, ↓o1_fieldAddr, ↓o1_field, ↓o1_indexAddr, ↓o1_extract, ↓o1_slice, ↓o1_len, ↓o1_max, ↓o1_min, ↓o1_load, ↓o1_lookup, ↓o1_store, ↓o1_mapUpdate, ↓o1_append, ↓o1_delete, ↓o1_call, encB, p1, hI1, hfl, le_maxLen]
            refine nxt_intro 1 hgo (by omega) ?_
            simp only [szS, hsucc]
            rw [mcs_snoc]
            rw [szMat_zero, show mcs [] ++ [encV2 out] = [encV2 out] from rfl]
            refine wk_l [1, 2, 3, 6] (by simp) ?_ ?_ <;> simp [-List.map_map, upd, inj1, Γ0, encB, subL_own_iff3]
            exact subL_read (frz_vcs (e := 32) (by simp [upd, blkF]) hrl).1 (frz_vcs (e := 32) (by simp [upd, blkF]) hrl).2 (rho_neF (rs := [1, 2, 3, 6]) (by decide) (by decide) (by simp))
      · simp only [szS]
        have hmul := Nat.mul_le_mul (show i + 1 ≤ 1000 by omega) hc
        obtain ⟨m, hmd⟩ : ∃ m, m = (i + 1) * cols := ⟨_, rfl⟩
        have hm : IntKind.i64.wrap (((i : Int) + 1) * cols) = (m : Int) := by
          rw [wrap_i64 (by rw [show ((i : Int) + 1) * cols = ((((i + 1) * cols : Nat)) : Int) by push_cast; rfl]; omega) (by rw [show ((i : Int) + 1) * cols = ((((i + 1) * cols : Nat)) : Int) by push_cast; rfl]; omega), hmd]; push_cast; rfl
        have hI1 : IntKind.i64.wrap ((i : Int) + 1 + 1) = (i : Int) + 1 + 1 := wrap_i64 (by omega) (by omega)
        have hmb : m ≤ 1000000 := by omega
        have q1' : (i : Int) + 1 < rows := by omega
        have hfm : (mcs (szMat l cols (i + 1))).length = i + 1 := by simp [mcs, szMat_len]
        generalize hM : szMat l cols (i + 1) = M at *
        obtain ⟨II, hII⟩ : ∃ x : Int, x = (i : Int) + 1 := ⟨_, rfl⟩
        rw [← hII] at hm hI1 q1'
        rw [← hII]
        simp (config := { maxSteps := 1000000 }) [-List.map_map, -List.mapM_map, ↓awp_skip, ↓awp_regionB, ↓awp_seq, ↓awp_block, ↓awp_exit, ↓awp_ret, ↓awp_label, ↓awp_scope, ↓awp_condB, ↓awp_loopB, ↓ow_nil', ↓ow_cons0, ↓ow_cons1, ↓o1_move, ↓o1_assign, ↓o1_pick, ↓o1_alloc, ↓o1_box, ↓o1_build, ↓o1_buildSlice, ↓o1_makeSlice, ↓o1_makeMap, ↓o1_binOp, ↓o1_unOp, ↓o1_convert, ↓o1_fieldAddr, ↓o1_field, ↓o1_indexAddr, ↓o1_extract, ↓o1_slice, ↓o1_len, ↓o1_max, ↓o1_min, ↓o1_load, ↓o1_lookup, ↓o1_store, ↓o1_mapUpdate, ↓o1_append, ↓o1_delete, ↓o1_call, q1', encB]
        refine loopP_inv (fun j : Nat => j ≤ cols) (fun j => StL [(1, .d (.i .i64 (rows : Int))), (2, .d (.i .i64 (cols : Int))), (3, .ptr 1 0), (6, .ptr 2 0), (7, .ptr 3 0), (8, .d (.i .i64 II)), (9, .own 5 0 j 2), (10, .d (.i .i64 (j : Int)))] none
            [.cells 58 [.d (.i .u8 r), .d (.i .u8 c), .d (encB l)], .cells 62 [.d (.i .i64 0), .d (.i .i64 0), .nil], .cells 62 [.d (.i .i64 (rows : Int)), .d (.i .i64 (cols : Int)), .own 4 0 (i + 1) 1], .cells 49 ((mcs M).map .d), .cells 32 ((vcs (szRow l cols (i + 1) j)).map .d)]) (fun j => cols - j) 0 (Nat.zero_le _) ?_ ?_
        · refine wk_l [1, 2, 3, 4, 5] (by simp) ?_ ?_ <;> simp [-List.map_map, upd, inj1, Γ0, encB, szRow, vcs_nil, subL_own_iff3]
        · intro j hj
          by_cases hgj : j < cols
          · have p1 : (j : Int) < cols := by omega
            have hw : IntKind.i64.wrap ((j : Int) + 1) = (j : Int) + 1 := wrap_i64 (by omega) (by omega)
            have hv := szRow_succ l cols (i + 1) j
            have hfl := vcs_len (szRow l cols (i + 1) j)
            rw [szRow_len] at hfl
            have hbb := app_bounds2 (n := j) (by omega)
            generalize szRow l cols (i + 1) j = out at *
            rw [← hmd] at hv
            obtain ⟨q, hqd⟩ : ∃ q, q = m + j := ⟨_, rfl⟩
            rw [← hqd] at hv
            have hq : IntKind.i64.wrap ((m : Int) + j) = (q : Int) := by rw [wrap_i64 (by omega) (by omega), hqd]; push_cast; rfl
            by_cases hil : q < l.length
            · have q2 : (q : Int) < l.length := by omega
              have hx : l[q]? = some l[q] := List.getElem?_eq_getElem hil
              have hx8 := h8 _ (List.getElem_mem hil)
              have hvz : vz1 l q = l[q].tmod 10 := by simp [vz1, hx]
              rw [hvz] at hv
              generalize l[q] = x at *
              have hb1 := Int.tmod_lt_of_pos x (b := 10) (by decide)
              have hb2 : -10 < x.tmod 10 := by
                have := Int.neg_tmod x 10
                have h3 := Int.tmod_lt_of_pos (-x) (b := 10) (by decide)
                omega
              generalize hrr : x.tmod 10 = s at *
              have hO := r01Of s (by omega) (by omega)
              have hw2 : IntKind.i64.wrap s = s := wrap_i64 (by omega) (by omega)
              clear hsucc hml hmd
              simp (config := { maxSteps := 1000000 }) [-List.map_map, -List.mapM_map, ↓awp_skip, ↓awp_regionB, ↓awp_seq, ↓awp_block, ↓awp_exit, ↓awp_ret, ↓awp_label, ↓awp_scope, ↓awp_condB, ↓awp_loopB, ↓ow_nil', ↓ow_cons0, ↓ow_cons1, ↓o1_move, ↓o1_assign, ↓o1_pick, ↓o1_alloc, ↓o1_box, ↓o1_build, ↓o1_buildSlice, ↓o1_makeSlice, ↓o1_makeMap, ↓o1_binOp, ↓o1_unOp, ↓o1_convert, ↓o1_fieldAddr, ↓o1_field, ↓o1_indexAddr, ↓o1_extract, ↓o1_slice, ↓o1_len, ↓o1_max, ↓o1_min, ↓o1_load, ↓o1_lookup, ↓o1_store, ↓o1_mapUpdate, ↓o1_append, ↓o1_delete, ↓o1_call, encB, p1, hm, hq, q2, hx, hrr, hw2]
              refine callP_intro (ds := [.i .i64 s]) (by rfl) hO ?_
              rw [encZ_eq]
              simp (config := { maxSteps := 1000000 }) [-List.map_map, -List.mapM_map, ↓awp_skip, ↓awp_regionB, ↓awp_seq, ↓awp_block, ↓awp_exit, ↓awp_ret, ↓awp_label, ↓awp_scope, ↓awp_condB, ↓awp_loopB, ↓ow_nil', ↓ow_cons0, ↓ow_cons1, ↓o1_move, ↓o1_assign, ↓o1_pick, ↓o1_alloc, ↓o1_box, ↓o1_build, ↓o1_buildSlice, ↓o1_makeSlice, ↓o1_makeMap, ↓o1_binOp, ↓o1_unOp, ↓o1_convert, ↓o1_fieldAddr, ↓o1_field, ↓o1_indexAddr, ↓o1_extract, ↓o1_slice, ↓o1_len, ↓o1_max, ↓o1_min, ↓o1_load, ↓o1_lookup, ↓o1_store, ↓o1_mapUpdate, ↓o1_append, ↓o1_delete, ↓o1_call, hw, hbb, hfl, le_maxLen, cellsA_encM, one_encM, inj1_encM, inj_encM, kills_encM]
              refine nxt_intro (j + 1) hgj (Nat.sub_lt_sub_left hgj (Nat.lt_succ_self _)) (wk_l [1, 2, 3, 4, 7] (by simp) ?_ ?_) <;> simp [-List.map_map, upd, inj1, Γ0, encB, hv, vcs_app, vcs_one, subL_own_iff3]
            · have q2 : ¬ (q : Int) < l.length := by omega
              have hvz : vz1 l q = 0 := by simp [vz1, List.getElem?_eq_none (Nat.le_of_not_lt hil)]
              rw [hvz] at hv
              have hO := r01Of 0 (by omega) (by omega)
              clear hsucc hml hmd
              simp (config := { maxSteps := 1000000 }) [-List.map_map, -List.mapM_map, ↓awp_skip, ↓awp_regionB, ↓awp_seq, ↓awp_block, ↓awp_exit, ↓awp_ret, ↓awp_label, ↓awp_scope, ↓awp_condB, ↓awp_loopB, ↓ow_nil', ↓ow_cons0, ↓ow_cons1, ↓o1_move, ↓o1_assign, ↓o1_pick, ↓o1_alloc, ↓o1_box, ↓o1_build, ↓o1_buildSlice, ↓o1_makeSlice, ↓o1_makeMap, ↓o1_binOp, ↓o1_unOp, ↓o1_convert, ↓o1_fieldAddr, ↓o1_field, ↓o1_indexAddr, ↓o1_extract, ↓o1_slice, ↓o1_len, ↓o1_max, ↓o1_min, ↓o1_load, ↓o1_lookup, ↓o1_store, ↓o1_mapUpdate, ↓o1_append, ↓o1_delete, ↓o1_call, encB, p1, hm, hq, q2]
              refine callP_intro (ds := [.i .i64 0]) (by rfl) hO ?_
              rw [encZ_eq]
              simp (config := { maxSteps := 1000000 }) [-List.map_map, -List.mapM_map, ↓awp_skip, ↓awp_regionB, ↓awp_seq, ↓awp_block, ↓awp_exit, ↓awp_ret, ↓awp_label, ↓awp_scope, ↓awp_condB, ↓awp_loopB, ↓ow_nil', ↓ow_cons0, ↓ow_cons1, ↓o1_move, ↓o1_assign, ↓o1_pick, ↓o1_alloc, ↓o1_box, ↓o1_build, ↓o1_buildSlice, ↓o1_makeSlice, ↓o1_makeMap, ↓o1_binOp, ↓o1_unOp, ↓o1_convert, ↓o1_fieldAddr, ↓o1_field, ↓o1_indexAddr, ↓o1_extract, ↓o1_slice, ↓o1_len, ↓o1_max, ↓o1_min, ↓o1_load, ↓o1_lookup, ↓o1_store, ↓o1_mapUpdate, ↓o1_append, ↓o1_delete, ↓o1_call, hw, hbb, hfl, le_maxLen, cellsA_encM, one_encM, inj1_encM, inj_encM, kills_encM]
              refine nxt_intro (j + 1) hgj (Nat.sub_lt_sub_left hgj (Nat.lt_succ_self _)) (wk_l [1, 2, 3, 4, 7] (by simp) ?_ ?_) <;> simp [-List.map_map, upd, inj1, Γ0, encB, hv, vcs_app, vcs_one, subL_own_iff3]
          · have e : j = cols := by omega
            subst e
            have p1 : ¬ (j : Int) < j := by omega
            have hrl := szRow_len l j (i + 1) j
            have hfl := vcs_len (szRow l j (i + 1) j)
            rw [hrl] at hfl
            generalize szRow l j (i + 1) j = out at *
            have hbb : (i + 1 + 1) * 24 ≤ 140737488355328 ∧ i + 1 + 1 ≤ 1099511627776 := ⟨by omega, by omega⟩
            simp (config := { maxSteps := 1000000 }) [-List.map_map, -List.mapM_map, ↓awp_skip, ↓awp_regionB, ↓awp_seq, ↓awp_block, ↓awp_exit, ↓awp_ret, ↓awp_label, ↓awp_scope, ↓awp_condB, ↓awp_loopB, ↓ow_nil', ↓ow_cons0, ↓ow_cons1, ↓o1_move, ↓o1_assign, ↓o1_pick, ↓o1_alloc, ↓o1_box, ↓o1_build, ↓o1_buildSlice, ↓o1_makeSlice, ↓o1_makeMap, ↓o1_binOp, ↓o1_unOp, ↓o1_convert, ↓o1_fieldAddr, ↓o1_field, ↓o1_indexAddr, ↓o1_extract, ↓o1_slice, ↓o1_len, ↓o1_max, ↓o1_min, ↓o1_load, ↓o1_lookup, ↓o1_store, ↓o1_mapUpdate, ↓o1_append, ↓o1_delete, ↓o1_call, encB, p1, hI1, hfl, le_maxLen, hbb, hfm]
            refine nxt_intro (i + 1 + 1) hgo (Nat.sub_lt_sub_left hgo (Nat.lt_succ_self _)) ?_
            simp only [szS, hsucc]
            rw [mcs_snoc]
            refine wk_l [1, 2, 3, 7] (by simp) ?_ ?_ <;> simp [-List.map_map, upd, inj1, Γ0, encB, subL_own_iff3, ← hII, cellsOk_same]
            exact subL_read (frz_vcs (e := 32) (by simp [upd, blkF]) hrl).1 (frz_vcs (e := 32) (by simp [upd, blkF]) hrl).2 (rho_neF (rs := [1, 2, 3, 7]) (by decide) (by decide) (by simp))
    · have e : i = rows := by omega
      subst e
      rcases i with _ | i
      · simp only [szS]
        simp (config := { maxSteps := 1000000 }) [-List.map_map, -List.mapM_map, ↓awp_skip, ↓awp_regionB, ↓awp_seq, ↓awp_block, ↓awp_exit, ↓awp_ret, ↓awp_label, ↓awp_scope, ↓awp_condB, ↓awp_loopB, ↓ow_nil', ↓ow_cons0, ↓ow_cons1, ↓o1_move, ↓o1_assign, ↓o1_pick, ↓o1_alloc, ↓o1_box, ↓o1_build, ↓o1_buildSlice, ↓o1_makeSlice, ↓o1_makeMap, ↓o1_binOp, ↓o1_unOp, ↓o1_convert, ↓o1_fieldAddr, ↓o1_field, ↓o1_indexAddr, ↓o1_extract, ↓o1_slice, ↓o1_len, ↓o1_max, ↓o1_min, ↓o1_load, ↓o1_lookup, ↓o1_store, ↓o1_mapUpdate, ↓o1_append, ↓o1_delete, ↓o1_call, encMat, szMat_zero]
      · simp only [szS]
        have q1 : ¬ (i : Int) + 1 < (i : Int) + 1 := by omega
        have hfm : (mcs (szMat l cols (i + 1))).length = i + 1 := by simp [mcs, szMat_len]
        have hM : (szMat l cols (i + 1)).map (fun v => [encV2 v]) = (mcs (szMat l cols (i + 1))).map fun d => [d] := by simp [mcs]
        generalize szMat l cols (i + 1) = M at *
        simp (config := { maxSteps := 1000000 }) [-List.map_map, -List.mapM_map, ↓awp_skip, ↓awp_regionB, ↓awp_seq, ↓awp_block, ↓awp_exit, ↓awp_ret, ↓awp_label, ↓awp_scope, ↓awp_condB, ↓awp_loopB, ↓ow_nil', ↓ow_cons0, ↓ow_cons1, ↓o1_move, ↓o1_assign, ↓o1_pick, ↓o1_alloc, ↓o1_box, ↓o1_build, ↓o1_buildSlice, ↓o1_makeSlice, ↓o1_makeMap, ↓o1_binOp, ↓o1_unOp, ↓o1_convert, ↓o1_fieldAddr, ↓o1_field, ↓o1_indexAddr, ↓o1_extract, ↓o1_slice, ↓o1_len, ↓o1_max, ↓o1_min, ↓o1_load, ↓o1_lookup, ↓o1_store, ↓o1_mapUpdate, ↓o1_append, ↓o1_delete, ↓o1_call, encMat, hM, hfm]
        rw [List.take_of_length_le (by simp [hfm]), mapM_d _ 5 (mcs M)]
        simp [chunk_one _ _ hfm.symm]

end Go.Am

open Go Go.Am Go.Proofs
namespace Go.Am
set_option linter.unusedSimpArgs false

set_option maxHeartbeats 8000000 in
theorem r06Made (r c : Nat) (l : List Int) (n : Nat) (h8 : ∀ x ∈ l, -128 ≤ x ∧ x ≤ 127) (hn : n + 1 ≤ 1000) (hr2 : r ≤ 255) (hc2 : c ≤ 255) : Spec Try.prog 34 [encRaw r c l, .i .i64 (n : Int)] (encMat (r % (n + 1) : Nat) (c % (n + 1) : Nat) (szMat l (c % (n + 1)) (r % (n + 1)))) := by
  refine spec_of (N := 19) follows_mixed Try.func34 rfl rfl rfl (by kernel_rfl) (by kernel_rfl) (by simp) ?_
  have hr : r % (n + 1) ≤ 1000 := Nat.le_trans (Nat.le_of_lt (Nat.mod_lt _ (Nat.succ_pos n))) hn
  have hc : c % (n + 1) ≤ 1000 := Nat.le_trans (Nat.le_of_lt (Nat.mod_lt _ (Nat.succ_pos n))) hn
  have hS := r06Sized r c l (r % (n + 1)) (c % (n + 1)) h8 hr hc
  have hw : IntKind.i64.wrap ((n : Int) + 1) = (n : Int) + 1 := wrap_i64 (by omega) (by omega)
  have hn0 : ¬ (n : Int) + 1 = 0 := by omega
  have hwr : (r : Int).tmod ((n : Int) + 1) = ((r % (n + 1) : Nat) : Int) := by
    rw [show (n : Int) + 1 = ((n + 1 : Nat) : Int) from rfl, ← Int.ofNat_tmod]
  have hr3 : IntKind.i64.wrap (r : Int) = (r : Int) := wrap_i64 (by omega) (by omega)
  have hc3 : IntKind.i64.wrap (c : Int) = (c : Int) := wrap_i64 (by omega) (by omega)
  have hwc : (c : Int).tmod ((n : Int) + 1) = ((c % (n + 1) : Nat) : Int) := by
    rw [show (n : Int) + 1 = ((n + 1 : Nat) : Int) from rfl, ← Int.ofNat_tmod]
  generalize r % (n + 1) = rr at *
  generalize c % (n + 1) = cc at *
  simp (config := { maxSteps := 1000000 }) [-List.map_map, -List.mapM_map, ↓awp_skip, ↓awp_regionB, ↓awp_seq, ↓awp_block, ↓awp_exit, ↓awp_ret, ↓awp_label, ↓awp_scope, ↓awp_condB, ↓awp_loopB, ↓ow_nil', ↓ow_cons0, ↓ow_cons1, ↓o1_move, ↓o1_assign, ↓o1_pick, ↓o1_alloc, ↓o1_box, ↓o1_build, ↓o1_buildSlice, ↓o1_makeSlice, ↓o1_makeMap, ↓o1_binOp, ↓o1_unOp, ↓o1_convert, ↓o1_fieldAddr, ↓o1_field, ↓o1_indexAddr, ↓o1_extract, ↓o1_slice, ↓o1_len, ↓o1_max, ↓o1_min, ↓o1_load, ↓o1_lookup, ↓o1_store, ↓o1_mapUpdate, ↓o1_append, ↓o1_delete, ↓o1_call, encRaw, encB, hw, hn0, hwr, hwc, hr3, hc3]
  refine callP_intro (ds := [encRaw r c l, .i .i64 (rr : Int), .i .i64 (cc : Int)]) (by rfl) hS ?_
  simp (config := { maxSteps := 1000000 }) [-List.map_map, -List.mapM_map, ↓awp_skip, ↓awp_regionB, ↓awp_seq, ↓awp_block, ↓awp_exit, ↓awp_ret, ↓awp_label, ↓awp_scope, ↓awp_condB, ↓awp_loopB, ↓ow_nil', ↓ow_cons0, ↓ow_cons1, ↓o1_move, ↓o1_assign, ↓o1_pick, ↓o1_alloc, ↓o1_box, ↓o1_build, ↓o1_buildSlice, ↓o1_makeSlice, ↓o1_makeMap, ↓o1_binOp, ↓o1_unOp, ↓o1_convert, ↓o1_fieldAddr, ↓o1_field, ↓o1_indexAddr, ↓o1_extract, ↓o1_slice, ↓o1_len, ↓o1_max, ↓o1_min, ↓o1_load, ↓o1_lookup, ↓o1_store, ↓o1_mapUpdate, ↓o1_append, ↓o1_delete, ↓o1_call, encMat]

def encSp (rows cols : Int) (L : List (List (Int × Int))) : D := .ag [.i .i64 rows, .i .i64 cols, .sl (L.map fun r => [encC r])]
def rcs (L : List (List (Int × Int))) : List D := L.map encC
theorem rcs_snoc (A : List (List (Int × Int))) (v : List (Int × Int)) : rcs (A ++ [v]) = rcs A ++ [encC v] := by simp [rcs]
theorem rcs_len (A : List (List (Int × Int))) : (rcs A).length = A.length := by simp [rcs]
theorem rcs_chunk (A : List (List (Int × Int))) : (A.map fun r => [encC r]) = (rcs A).map fun d => [d] := by simp [rcs]

def frS (rows cols : Int) (A : List (List Int)) : Nat → St
  | 0 => StL [(1, .ptr 1 0), (2, .ptr 2 0), (3, .ptr 3 0), (4, .d (.i .i64 0))] none
      [.cells 62 [.d (.i .i64 rows), .d (.i .i64 cols), .d (.sl (A.map fun v => [encV2 v]))], .cells 44 [.d (.i .i64 0), .d (.i .i64 0), .nil], .cells 44 [.d (.i .i64 rows), .d (.i .i64 cols), .nil]]
  | i + 1 => StL [(1, .ptr 1 0), (2, .ptr 2 0), (3, .ptr 3 0), (4, .d (.i .i64 ((i : Int) + 1)))] none
      [.cells 62 [.d (.i .i64 rows), .d (.i .i64 cols), .d (.sl (A.map fun v => [encV2 v]))], .cells 44 [.d (.i .i64 0), .d (.i .i64 0), .nil], .cells 44 [.d (.i .i64 rows), .d (.i .i64 cols), .own 4 0 (i + 1) 1],
       .cells 45 ((rcs ((A.take (i + 1)).map (rw0 0))).map .d)]

set_option maxHeartbeats 8000000 in
set_option maxRecDepth 10000 in
theorem r06From (cols : Int) (A : List (List Int)) (hA : A.length ≤ 1000) (hl : ∀ v ∈ A, v.length ≤ 1000000) : Spec Try.prog 33 [encMat A.length cols A] (encSp A.length cols (A.map (rw0 0))) := by
  refine spec_of (N := 28) follows_mixed Try.func33 rfl rfl rfl (by kernel_rfl) (by kernel_rfl) (by simp) ?_
  simp (config := { maxSteps := 1000000 }) [-List.map_map, -List.mapM_map, ↓awp_skip, ↓awp_regionB, ↓awp_seq, ↓awp_block, ↓awp_exit, ↓awp_ret, ↓awp_label, ↓awp_scope, ↓awp_condB, ↓awp_loopB, ↓ow_nil', ↓ow_cons0, ↓ow_cons1, ↓o1_move, ↓o1_assign, ↓o1_pick, ↓o1_alloc, ↓o1_box, ↓o1_build, ↓o1_buildSlice, ↓o1_makeSlice, ↓o1_makeMap, ↓o1_binOp, ↓o1_unOp, ↓o1_convert, ↓o1_fieldAddr, ↓o1_field, ↓o1_indexAddr, ↓o1_extract, ↓o1_slice, ↓o1_len, ↓o1_max, ↓o1_min, ↓o1_load, ↓o1_lookup, ↓o1_store, ↓o1_mapUpdate, ↓o1_append, ↓o1_delete, ↓o1_call, encMat]
  refine loopP_inv (fun i : Nat => i ≤ A.length) (frS A.length cols A) (fun i => A.length - i) 0 (Nat.zero_le _) ?_ ?_
  · simp only [frS]
    refine wk_l [1, 2, 3] (by simp) ?_ ?_ <;> simp [-List.map_map, upd, inj1, Γ0, ]
  · intro i hi
    by_cases hgo : i < A.length
    · have hx : A[i]? = some A[i] := List.getElem?_eq_getElem hgo
      have hR := r06RowV A[i] (hl _ (List.getElem_mem hgo))
      have htk : (A.take (i + 1)).map (rw0 0) = (A.take i).map (rw0 0) ++ [rw0 0 A[i]] := by
        rw [List.take_add_one, hx, List.map_append]; rfl
      generalize A[i] = x at *
      rcases i with _ | i
      · simp only [frS]
        have q1 : 0 < A.length := hgo
        have hI : IntKind.i64.wrap (1 : Int) = 1 := wrap_i64 (by omega) (by omega)
        obtain ⟨_, hx'⟩ := List.getElem?_eq_some_iff.1 hx
        simp (config := { maxSteps := 1000000 }) [-List.map_map, -List.mapM_map, ↓awp_skip, ↓awp_regionB, ↓awp_seq, ↓awp_block, ↓awp_exit, ↓awp_ret, ↓awp_label, ↓awp_scope, ↓awp_condB, ↓awp_loopB, ↓ow_nil', ↓ow_cons0, ↓ow_cons1, ↓o1_move, ↓o1_assign, ↓o1_pick, ↓o1_alloc, ↓o1_box, ↓o1_build, ↓o1_buildSlice, ↓o1_makeSlice, ↓o1_makeMap, ↓o1_binOp, ↓o1_unOp, ↓o1_convert, ↓o1_fieldAddr, ↓o1_field, ↓o1_indexAddr, ↓o1_extract, ↓o1_slice, ↓o1_len, ↓o1_max, ↓o1_min, ↓o1_load, ↓o1_lookup, ↓o1_store, ↓o1_mapUpdate, ↓o1_append, ↓o1_delete, ↓o1_call, q1, hx, hx']
        refine callP_intro (ds := [encV2 x]) (by rfl) hR ?_
        simp (config := { maxSteps := 1000000 }) [-List.map_map, -List.mapM_map, ↓awp_skip, ↓awp_regionB, ↓awp_seq, ↓awp_block, ↓awp_exit, ↓awp_ret, ↓awp_label, ↓awp_scope, ↓awp_condB, ↓awp_loopB, ↓ow_nil', ↓ow_cons0, ↓ow_cons1, ↓o1_move, ↓o1_assign, ↓o1_pick, ↓o1_alloc, ↓o1_box, ↓o1_build, ↓o1_buildSlice, ↓o1_makeSlice, ↓o1_makeMap, ↓o1_binOp, ↓o1_unOp, ↓o1_convert, ↓o1_fieldAddr, ↓o1_field, ↓o1_indexAddr, ↓o1_extract, ↓o1_slice, ↓o1_len, ↓o1_max, ↓o1_min, ↓o1_load, ↓o1_lookup, ↓o1_store, ↓o1_mapUpdate, ↓o1_append, ↓o1_delete, ↓o1_call, hI, le_maxLen, encC]
        refine nxt_intro 1 hgo (Nat.sub_lt_sub_left hgo (Nat.lt_succ_self _)) ?_
        simp only [frS, htk]
        refine wk_l [1, 2, 3, 5] (by simp) ?_ ?_ <;> simp [-List.map_map, upd, inj1, Γ0, subL_own_iff3, rcs, encC]
      · simp only [frS]
        rw [show ((i : Int) + 1) = ((i + 1 : Nat) : Int) from rfl]
        generalize i + 1 = I at *
        have q1 : (I : Int) < A.length := by omega
        have hI : IntKind.i64.wrap ((I : Int) + 1) = (I : Int) + 1 := wrap_i64 (by omega) (by omega)
        have hfl := rcs_len ((A.take I).map (rw0 0))
        rw [List.length_map, List.length_take, Nat.min_eq_left hi] at hfl
        have hbb : (I + 1) * 24 ≤ 140737488355328 ∧ I + 1 ≤ 1099511627776 := ⟨by omega, by omega⟩
        generalize (A.take I).map (rw0 0) = M at *
        simp (config := { maxSteps := 1000000 }) [-List.map_map, -List.mapM_map, ↓awp_skip, ↓awp_regionB, ↓awp_seq, ↓awp_block, ↓awp_exit, ↓awp_ret, ↓awp_label, ↓awp_scope, ↓awp_condB, ↓awp_loopB, ↓ow_nil', ↓ow_cons0, ↓ow_cons1, ↓o1_move, ↓o1_assign, ↓o1_pick, ↓o1_alloc, ↓o1_box, ↓o1_build, ↓o1_buildSlice, ↓o1_makeSlice, ↓o1_makeMap, ↓o1_binOp, ↓o1_unOp, ↓o1_convert, ↓o1_fieldAddr, ↓o1_field, ↓o1_indexAddr, ↓o1_extract, ↓o1_slice, ↓o1_len, ↓o1_max, ↓o1_min, ↓o1_load, ↓o1_lookup, ↓o1_store, ↓o1_mapUpdate, ↓o1_append, ↓o1_delete, ↓o1_call, q1, hx]
        refine callP_intro (ds := [encV2 x]) (by rfl) hR ?_
        simp (config := { maxSteps := 1000000 }) [-List.map_map, -List.mapM_map, ↓awp_skip, ↓awp_regionB, ↓awp_seq, ↓awp_block, ↓awp_exit, ↓awp_ret, ↓awp_label, ↓awp_scope, ↓awp_condB, ↓awp_loopB, ↓ow_nil', ↓ow_cons0, ↓ow_cons1, ↓o1_move, ↓o1_assign, ↓o1_pick, ↓o1_alloc, ↓o1_box, ↓o1_build, ↓o1_buildSlice, ↓o1_makeSlice, ↓o1_makeMap, ↓o1_binOp, ↓o1_unOp, ↓o1_convert, ↓o1_fieldAddr, ↓o1_field, ↓o1_indexAddr, ↓o1_extract, ↓o1_slice, ↓o1_len, ↓o1_max, ↓o1_min, ↓o1_load, ↓o1_lookup, ↓o1_store, ↓o1_mapUpdate, ↓o1_append, ↓o1_delete, ↓o1_call, hI, hbb, hfl, le_maxLen, encC]
        refine nxt_intro (I + 1) hgo (Nat.sub_lt_sub_left hgo (Nat.lt_succ_self _)) ?_
        simp only [frS, htk, rcs_snoc]
        refine wk_l [1, 2, 3, 6] (by simp) ?_ ?_ <;> simp [-List.map_map, upd, inj1, Γ0, subL_own_iff3, cellsOk_same, encC]
    · have e : i = A.length := by omega
      have htk : A.take i = A := List.take_of_length_le (by omega)
      rcases i with _ | i
      · have : A = [] := List.eq_nil_of_length_eq_zero e.symm
        subst this
        simp only [frS]
        simp (config := { maxSteps := 1000000 }) [-List.map_map, -List.mapM_map, ↓awp_skip, ↓awp_regionB, ↓awp_seq, ↓awp_block, ↓awp_exit, ↓awp_ret, ↓awp_label, ↓awp_scope, ↓awp_condB, ↓awp_loopB, ↓ow_nil', ↓ow_cons0, ↓ow_cons1, ↓o1_move, ↓o1_assign, ↓o1_pick, ↓o1_alloc, ↓o1_box, ↓o1_build, ↓o1_buildSlice, ↓o1_makeSlice, ↓o1_makeMap, ↓o1_binOp, ↓o1_unOp, ↓o1_convert, ↓o1_fieldAddr, ↓o1_field, ↓o1_indexAddr, ↓o1_extract, ↓o1_slice, ↓o1_len, ↓o1_max, ↓o1_min, ↓o1_load, ↓o1_lookup, ↓o1_store, ↓o1_mapUpdate, ↓o1_append, ↓o1_delete, ↓o1_call, encSp]
      · simp only [frS]
        have q1 : ¬ (i : Int) + 1 < A.length := by omega
        have q2 : (A.length : Int) = (i : Int) + 1 := by omega
        have hfm := rcs_len (A.map (rw0 0))
        rw [List.length_map, ← e] at hfm
        rw [htk]
        have hM := rcs_chunk (A.map (rw0 0))
        generalize A.map (rw0 0) = M at *
        simp (config := { maxSteps := 1000000 }) [-List.map_map, -List.mapM_map, ↓awp_skip, ↓awp_regionB, ↓awp_seq, ↓awp_block, ↓awp_exit, ↓awp_ret, ↓awp_label, ↓awp_scope, ↓awp_condB, ↓awp_loopB, ↓ow_nil', ↓ow_cons0, ↓ow_cons1, ↓o1_move, ↓o1_assign, ↓o1_pick, ↓o1_alloc, ↓o1_box, ↓o1_build, ↓o1_buildSlice, ↓o1_makeSlice, ↓o1_makeMap, ↓o1_binOp, ↓o1_unOp, ↓o1_convert, ↓o1_fieldAddr, ↓o1_field, ↓o1_indexAddr, ↓o1_extract, ↓o1_slice, ↓o1_len, ↓o1_max, ↓o1_min, ↓o1_load, ↓o1_lookup, ↓o1_store, ↓o1_mapUpdate, ↓o1_append, ↓o1_delete, ↓o1_call, encSp, q1, hM, hfm]
        rw [List.take_of_length_le (by simp [hfm]), mapM_d _ 5 (rcs M)]
        simp [chunk_one _ _ hfm.symm]

end Go.Am

open Go Go.Am Go.Proofs
namespace Go.Am
set_option linter.unusedSimpArgs false

set_option maxRecDepth 10000 in
theorem r01NegZ (z : Int) (hz : Sz z) : Spec Try.prog 31 [encZ z] (encZ (-z)) := by
  refine spec_of (N := 9) follows_mixed Try.func31 rfl rfl rfl (by kernel_rfl) (by kernel_rfl) (by simp) ?_
  have h := r01Made (digs z.natAbs) (!decide (z < 0)) (Nat.le_trans hz (by decide))
  rw [made_encZ (lim_digs _), val_digs] at h
  have e : sg (!decide (z < 0)) z.natAbs = -z := by
    unfold sg
    by_cases h0 : z < 0
    · simp only [h0, decide_true, Bool.not_true, Bool.false_eq_true, if_false]; omega
    · simp only [h0, decide_false, Bool.not_false, if_true]; omega
  rw [e] at h
  simp (config := { maxSteps := 1000000 }) [-List.map_map, -List.mapM_map, ↓awp_skip, ↓awp_regionB, ↓awp_seq, ↓awp_block, ↓awp_exit, ↓awp_ret, ↓awp_label, ↓awp_scope, ↓awp_condB, ↓awp_loopB, ↓ow_nil', ↓ow_cons0, ↓ow_cons1, ↓o1_move, ↓o1_assign, ↓o1_pick, ↓o1_alloc, ↓o1_box, ↓o1_build, ↓o1_buildSlice, ↓o1_makeSlice, ↓o1_makeMap, ↓o1_binOp, ↓o1_unOp, ↓o1_convert, ↓o1_fieldAddr, ↓o1_field, ↓o1_indexAddr, ↓o1_extract, ↓o1_slice, ↓o1_len, ↓o1_max, ↓o1_min, ↓o1_load, ↓o1_lookup, ↓o1_store, ↓o1_mapUpdate, ↓o1_append, ↓o1_delete, ↓o1_call, encZ_eq, cellsA_encM, one_encM, inj1_encM, inj_encM, kills_encM]
  refine callP_intro (ds := [encM (digs z.natAbs), .b (!decide (z < 0))]) (by rfl) h ?_
  rw [encZ_eq (-z)]
  simp (config := { maxSteps := 1000000 }) [-List.map_map, -List.mapM_map, ↓awp_skip, ↓awp_regionB, ↓awp_seq, ↓awp_block, ↓awp_exit, ↓awp_ret, ↓awp_label, ↓awp_scope, ↓awp_condB, ↓awp_loopB, ↓ow_nil', ↓ow_cons0, ↓ow_cons1, ↓o1_move, ↓o1_assign, ↓o1_pick, ↓o1_alloc, ↓o1_box, ↓o1_build, ↓o1_buildSlice, ↓o1_makeSlice, ↓o1_makeMap, ↓o1_binOp, ↓o1_unOp, ↓o1_convert, ↓o1_fieldAddr, ↓o1_field, ↓o1_indexAddr, ↓o1_extract, ↓o1_slice, ↓o1_len, ↓o1_max, ↓o1_min, ↓o1_load, ↓o1_lookup, ↓o1_store, ↓o1_mapUpdate, ↓o1_append, ↓o1_delete, ↓o1_call, cellsA_encM, one_encM, inj1_encM, inj_encM, kills_encM]

theorem rw0_mem : ∀ (v : List Int) (k : Nat) (x : Int × Int), x ∈ rw0 k v → (k : Int) ≤ x.1 ∧ x.1 < ((k + v.length : Nat) : Int) ∧ x.2 ∈ v ∧ x.2 ≠ 0
  | [], _, x, h => by cases h
  | z :: v, k, x, h => by
    unfold rw0 at h
    have ih := rw0_mem v (k + 1) x
    simp only [List.length_cons]
    split at h
    · obtain ⟨h1, h2, h3, h4⟩ := ih h
      exact ⟨by omega, by omega, List.mem_cons_of_mem _ h3, h4⟩
    · rename_i h0
      rcases List.mem_cons.1 h with rfl | h
      · exact ⟨Int.le_refl _, by simp only; omega, List.mem_cons_self .., h0⟩
      · obtain ⟨h1, h2, h3, h4⟩ := ih h
        exact ⟨by omega, by omega, List.mem_cons_of_mem _ h3, h4⟩
theorem rw0_srt : ∀ (v : List Int) (k : Nat), Srt (rw0 k v)
  | [], _ => Srt.nil
  | z :: v, k => by
    have ih := rw0_srt v (k + 1)
    unfold rw0
    split
    · exact ih
    · rename_i h0
      refine ⟨List.pairwise_cons.2 ⟨fun x hx => ?_, ih.1⟩, fun x hx => ?_⟩
      · have := (rw0_mem v (k + 1) x hx).1
        simp only; omega
      · rcases List.mem_cons.1 hx with rfl | hx
        · exact h0
        · exact ih.2 x hx

theorem vI_digs {z : Int} (h : z ≠ 0) : vI (decide (z < 0)) (digs z.natAbs) = true := by
  have hc := canon_digs z.natAbs
  unfold Canon at hc
  unfold vI
  cases h1 : (digs z.natAbs).getLast? with
  | none =>
    have := digs_eq_nil.1 (List.getLast?_eq_none_iff.1 h1)
    omega
  | some x => rw [h1] at hc; simpa using hc
theorem rowR_tmZ {cols : Int} {c : List (Int × Int)} (hs : Srt c) (hc : ∀ x ∈ c, 0 ≤ x.1 ∧ x.1 < cols) : rowR cols (c.map tmZ) = true := by
  refine rowR_true fun j hj => ?_
  have hj' : j < c.length := by simpa using hj
  have g : (c.map tmZ)[j]! = tmZ c[j] := by
    rw [List.getElem!_eq_getElem?_getD, List.getElem?_map, List.getElem?_eq_getElem hj']; rfl
  have hm := List.getElem_mem hj'
  have hb := hc _ hm
  have h0 := hs.2 _ hm
  unfold okT
  rw [g]
  have h1 : goodT cols (tmZ c[j]) = true := by
    unfold goodT tmZ
    simp only
    rw [vI_digs h0]
    have e1 : ¬ digs c[j].2.natAbs = [] := fun e => h0 (by have := digs_eq_nil.1 e; omega)
    simp only [e1, decide_false, Bool.not_false, Bool.and_true, Bool.true_and, Bool.and_eq_true, Bool.not_eq_true', decide_eq_false_iff_not, Bool.and_eq_false_iff]
    omega
  rw [h1, Bool.true_and]
  by_cases hj0 : 0 < j
  · have hj1 : j - 1 < c.length := by omega
    have g1 : (c.map tmZ)[j - 1]! = tmZ c[j - 1] := by
      rw [List.getElem!_eq_getElem?_getD, List.getElem?_map, List.getElem?_eq_getElem hj1]; rfl
    rw [g1]
    have := List.pairwise_iff_getElem.1 hs.1 (j - 1) j hj1 hj' (by omega)
    have e : ¬ (tmZ c[j]).col ≤ (tmZ c[j - 1]).col := by show ¬ c[j].1 ≤ c[j - 1].1; omega
    simp [e]
  · simp [hj0]

/-- A row out of bytes. -/
def rowB (l : List Int) : List (Int × Int) := rw0 0 (vecZ l 6)
theorem vz1_bnd (l : List Int) (i : Nat) : (vz1 l i).natAbs ≤ 9 := by
  unfold vz1
  split
  · rename_i x _
    have hb1 := Int.tmod_lt_of_pos x (b := 10) (by decide)
    have := Int.neg_tmod x 10
    have h3 := Int.tmod_lt_of_pos (-x) (b := 10) (by decide)
    omega
  · decide
theorem rowB_mem {l : List Int} {x : Int × Int} (h : x ∈ rowB l) : 0 ≤ x.1 ∧ x.1 < 6 ∧ x.2.natAbs ≤ 9 := by
  obtain ⟨h1, h2, h3, _⟩ := rw0_mem _ _ _ h
  rw [vecZ_len] at h2
  obtain ⟨i, _, e⟩ := List.mem_map.1 h3
  have := vz1_bnd l i
  rw [e] at this
  exact ⟨by omega, by omega, this⟩
theorem rowB_len (l : List Int) : (rowB l).length ≤ 6 := Nat.le_trans (rw0_len _ _) (by rw [vecZ_len]; exact Nat.le_refl _)
theorem lz_bnd {a b : List (Int × Int)} {k : Int} {A B K : Nat} (ha : ∀ x ∈ a, x.2.natAbs ≤ A) (hb : ∀ x ∈ b, x.2.natAbs ≤ B) (hk : k.natAbs ≤ K) : ∀ x ∈ lz a b k, x.2.natAbs ≤ A + K * B := fun x hx => by
  obtain ⟨p, hp, rfl, _⟩ := mg_mem hx
  obtain ⟨h1, h2⟩ := bZ_bnd _ a b ha hb p hp
  have h3 := Nat.mul_le_mul hk h2
  rw [← Int.natAbs_mul] at h3
  simp only; omega

set_option maxHeartbeats 8000000 in
set_option maxRecDepth 10000 in
theorem lawMerges (l m : List Int) (k0 k1 : Int) (hl8 : ∀ x ∈ l, -128 ≤ x ∧ x ≤ 127) (hm8 : ∀ x ∈ m, -128 ≤ x ∧ x ≤ 127) (h0 : -128 ≤ k0 ∧ k0 ≤ 127) (h1 : -128 ≤ k1 ∧ k1 ≤ 127) (hl : l.length ≤ 9223372036854775807) (hm : m.length ≤ 9223372036854775807) :
    Spec Try.prog 6 [encB l, encB m, .ag [.i .i8 k0, .i .i8 k1]] (.b true) := by
  refine spec_of (N := 84) follows_mixed Try.func6 rfl rfl rfl (by kernel_rfl) (by kernel_rfl) (by simp) ?_
  have sA := r06Vec l 6 hl8 hl (by decide)
  have sB := r06Vec m 6 hm8 hm (by decide)
  have sC := r06RowV (vecZ l 6) (by rw [vecZ_len]; decide)
  have sD := r06RowV (vecZ m 6) (by rw [vecZ_len]; decide)
  have va : Srt (rw0 0 (vecZ l 6)) := rw0_srt _ _
  have vb : Srt (rw0 0 (vecZ m 6)) := rw0_srt _ _
  have ma := fun x (h : x ∈ rw0 0 (vecZ l 6)) => rowB_mem (l := l) h
  have mb := fun x (h : x ∈ rw0 0 (vecZ m 6)) => rowB_mem (l := m) h
  have la : (rw0 0 (vecZ l 6)).length ≤ 6 := rowB_len l
  have lb : (rw0 0 (vecZ m 6)).length ≤ 6 := rowB_len m
  generalize rw0 0 (vecZ l 6) = a at *
  generalize rw0 0 (vecZ m 6) = b at *
  generalize vecZ l 6 = u at *
  generalize vecZ m 6 = v at *
  have sO0 := r01Of k0 (by omega) (by omega)
  have sO1 := r01Of k1 (by omega) (by omega)
  have sa : Sml a := fun x hx => by have := (ma x hx).2.2; omega
  have sb : Sml b := fun x hx => by have := (mb x hx).2.2; omega
  have bc := lz_bnd (k := k0) (A := 9) (B := 9) (K := 128) (fun x hx => (ma x hx).2.2) (fun x hx => (mb x hx).2.2) (by omega)
  have lc := lz_len a b k0
  have vc := lz_srt va vb k0
  have cc : ∀ x ∈ lz a b k0, 0 ≤ x.1 ∧ x.1 < 6 := fun x hx => by
    rcases lz_cols hx with ⟨z, hz, e⟩ | ⟨z, hz, e⟩
    · have := ma z hz; omega
    · have := mb z hz; omega
  have sM := mergeS (k := k0) sa sb (by omega) (by omega) (by omega)
  have sR := r06Merge (k := k0) sa sb (by omega) (by omega) (by omega)
  have hback : lz (lz a b k0) b (-k0) = a := lz_eq vc vb va fun n => by rw [cz_lz]; simp only [Int.neg_mul]; omega
  have hadd : lz (lz a b k0) b k1 = lz a b (k0 + k1) := lz_eq vc vb (lz_srt va vb _) fun n => by rw [cz_lz, cz_lz, Int.add_mul]; omega
  have hnil : lz [] a 1 = a := lz_eq Srt.nil va va fun n => by simp [cz]
  have hneg : lz a a (-1) = [] := lz_eq va va Srt.nil fun n => by simp only [cz, Int.neg_mul, Int.one_mul]; omega
  have sc : Sml (lz a b k0) := fun x hx => by have := bc x hx; omega
  have sV := r06Row ((lz a b k0).map tmZ) 6 (fun t ht => by
    obtain ⟨x, hx, rfl⟩ := List.mem_map.1 ht
    have := sz_small (z := x.2) (by have := bc x hx; omega)
    exact Nat.le_trans this (by decide)) (by simp; omega)
  rw [encR_tmZ, rowR_tmZ vc cc] at sV
  have sM2 := mergeS (k := -k0) sc sb (by omega) (by omega) (by omega)
  rw [hback] at sM2
  have sM3 := mergeS (k := k1) sc sb (by omega) (by omega) (by omega)
  rw [hadd] at sM3
  have sM4 := mergeS (k := k0 + k1) sa sb (by omega) (by omega) (by omega)
  have sM5 := mergeS (k := 1) Sml.nil sa (by decide) (by decide) (by omega)
  rw [hnil] at sM5
  have sM6 := mergeS (k := -1) sa sa (by decide) (by omega) (by omega)
  rw [hneg] at sM6
  have sN := r01NegZ k0 (sz_small (by omega))
  have sP := r01AddZ k0 k1 (Nat.le_trans (sz_small (z := k0) (by omega)) (by decide)) (Nat.le_trans (sz_small (z := k1) (by omega)) (by decide))
  have bd := lz_bnd (k := k0 + k1) (A := 9) (B := 9) (K := 256) (fun x hx => (ma x hx).2.2) (fun x hx => (mb x hx).2.2) (by omega)
  have ld := lz_len a b (k0 + k1)
  have sS1 := r06SameRow (a := lz a b k0) (b := lz a b k0) (fun x hx => sz_small (by have := bc x hx; omega)) (fun x hx => sz_small (by have := bc x hx; omega)) (by omega) (by omega)
  have sS2 := r06SameRow (a := a) (b := a) (fun x hx => sz_small (by have := ma x hx; omega)) (fun x hx => sz_small (by have := ma x hx; omega)) (by omega) (by omega)
  have sS3 := r06SameRow (a := lz a b (k0 + k1)) (b := lz a b (k0 + k1)) (fun x hx => sz_small (by have := bd x hx; omega)) (fun x hx => sz_small (by have := bd x hx; omega)) (by omega) (by omega)
  simp only [decide_true] at sS1 sS2 sS3
  have sO2 := r01Of 1 (by decide) (by decide)
  have sO3 := r01Of (-1) (by decide) (by decide)
  have hw0 : IntKind.i64.wrap k0 = k0 := wrap_i64 (by omega) (by omega)
  have hw1 : IntKind.i64.wrap k1 = k1 := wrap_i64 (by omega) (by omega)
  clear bc lc vc cc va vb ma mb la lb bd ld hback hadd hnil hneg sa sb sc hl8 hm8 hl hm
  generalize lz a b (k0 + k1) = e at *
  generalize lz a b k0 = c at *
  generalize -k0 = kn at *
  generalize k0 + k1 = ks at *
  obtain ⟨z1, sO2, sM5⟩ : ∃ z1, Spec Try.prog 17 [.i .i64 1] (encZ z1) ∧ Spec Try.prog 27 [encC [], encC a, encZ z1] (encC a) := ⟨1, sO2, sM5⟩
  obtain ⟨z2, sO3, sM6⟩ : ∃ z2, Spec Try.prog 17 [.i .i64 (-1)] (encZ z2) ∧ Spec Try.prog 27 [encC a, encC a, encZ z2] (encC []) := ⟨-1, sO3, sM6⟩
  simp (config := { maxSteps := 1000000 }) [-List.map_map, -List.mapM_map, ↓awp_skip, ↓awp_regionB, ↓awp_seq, ↓awp_block, ↓awp_exit, ↓awp_ret, ↓awp_label, ↓awp_scope, ↓awp_condB, ↓awp_loopB, ↓ow_nil', ↓ow_cons0, ↓ow_cons1, ↓o1_move, ↓o1_assign, ↓o1_pick, ↓o1_alloc, ↓o1_box, ↓o1_build, ↓o1_buildSlice, ↓o1_makeSlice, ↓o1_makeMap, ↓o1_binOp, ↓o1_unOp, ↓o1_convert, ↓o1_fieldAddr, ↓o1_field, ↓o1_indexAddr, ↓o1_extract, ↓o1_slice, ↓o1_len, ↓o1_max, ↓o1_min, ↓o1_load, ↓o1_lookup, ↓o1_store, ↓o1_mapUpdate, ↓o1_append, ↓o1_delete, ↓o1_call, encB]
  refine callP_intro (ds := []) (by rfl) sanity06 ?_
  simp (config := { maxSteps := 1000000 }) [-List.map_map, -List.mapM_map, ↓awp_skip, ↓awp_regionB, ↓awp_seq, ↓awp_block, ↓awp_exit, ↓awp_ret, ↓awp_label, ↓awp_scope, ↓awp_condB, ↓awp_loopB, ↓ow_nil', ↓ow_cons0, ↓ow_cons1, ↓o1_move, ↓o1_assign, ↓o1_pick, ↓o1_alloc, ↓o1_box, ↓o1_build, ↓o1_buildSlice, ↓o1_makeSlice, ↓o1_makeMap, ↓o1_binOp, ↓o1_unOp, ↓o1_convert, ↓o1_fieldAddr, ↓o1_field, ↓o1_indexAddr, ↓o1_extract, ↓o1_slice, ↓o1_len, ↓o1_max, ↓o1_min, ↓o1_load, ↓o1_lookup, ↓o1_store, ↓o1_mapUpdate, ↓o1_append, ↓o1_delete, ↓o1_call, encB]
  refine callP_intro (ds := [encB l, .i .i64 6]) (by rfl) sA ?_
  simp (config := { maxSteps := 1000000 }) [-List.map_map, -List.mapM_map, ↓awp_skip, ↓awp_regionB, ↓awp_seq, ↓awp_block, ↓awp_exit, ↓awp_ret, ↓awp_label, ↓awp_scope, ↓awp_condB, ↓awp_loopB, ↓ow_nil', ↓ow_cons0, ↓ow_cons1, ↓o1_move, ↓o1_assign, ↓o1_pick, ↓o1_alloc, ↓o1_box, ↓o1_build, ↓o1_buildSlice, ↓o1_makeSlice, ↓o1_makeMap, ↓o1_binOp, ↓o1_unOp, ↓o1_convert, ↓o1_fieldAddr, ↓o1_field, ↓o1_indexAddr, ↓o1_extract, ↓o1_slice, ↓o1_len, ↓o1_max, ↓o1_min, ↓o1_load, ↓o1_lookup, ↓o1_store, ↓o1_mapUpdate, ↓o1_append, ↓o1_delete, ↓o1_call, encV2]
  refine callP_intro (ds := [encV2 u]) (by rfl) sC ?_
  simp (config := { maxSteps := 1000000 }) [-List.map_map, -List.mapM_map, ↓awp_skip, ↓awp_regionB, ↓awp_seq, ↓awp_block, ↓awp_exit, ↓awp_ret, ↓awp_label, ↓awp_scope, ↓awp_condB, ↓awp_loopB, ↓ow_nil', ↓ow_cons0, ↓ow_cons1, ↓o1_move, ↓o1_assign, ↓o1_pick, ↓o1_alloc, ↓o1_box, ↓o1_build, ↓o1_buildSlice, ↓o1_makeSlice, ↓o1_makeMap, ↓o1_binOp, ↓o1_unOp, ↓o1_convert, ↓o1_fieldAddr, ↓o1_field, ↓o1_indexAddr, ↓o1_extract, ↓o1_slice, ↓o1_len, ↓o1_max, ↓o1_min, ↓o1_load, ↓o1_lookup, ↓o1_store, ↓o1_mapUpdate, ↓o1_append, ↓o1_delete, ↓o1_call, encC]
  refine callP_intro (ds := [encB m, .i .i64 6]) (by rfl) sB ?_
  simp (config := { maxSteps := 1000000 }) [-List.map_map, -List.mapM_map, ↓awp_skip, ↓awp_regionB, ↓awp_seq, ↓awp_block, ↓awp_exit, ↓awp_ret, ↓awp_label, ↓awp_scope, ↓awp_condB, ↓awp_loopB, ↓ow_nil', ↓ow_cons0, ↓ow_cons1, ↓o1_move, ↓o1_assign, ↓o1_pick, ↓o1_alloc, ↓o1_box, ↓o1_build, ↓o1_buildSlice, ↓o1_makeSlice, ↓o1_makeMap, ↓o1_binOp, ↓o1_unOp, ↓o1_convert, ↓o1_fieldAddr, ↓o1_field, ↓o1_indexAddr, ↓o1_extract, ↓o1_slice, ↓o1_len, ↓o1_max, ↓o1_min, ↓o1_load, ↓o1_lookup, ↓o1_store, ↓o1_mapUpdate, ↓o1_append, ↓o1_delete, ↓o1_call, encV2]
  refine callP_intro (ds := [encV2 v]) (by rfl) sD ?_
  simp (config := { maxSteps := 1000000 }) [-List.map_map, -List.mapM_map, ↓awp_skip, ↓awp_regionB, ↓awp_seq, ↓awp_block, ↓awp_exit, ↓awp_ret, ↓awp_label, ↓awp_scope, ↓awp_condB, ↓awp_loopB, ↓ow_nil', ↓ow_cons0, ↓ow_cons1, ↓o1_move, ↓o1_assign, ↓o1_pick, ↓o1_alloc, ↓o1_box, ↓o1_build, ↓o1_buildSlice, ↓o1_makeSlice, ↓o1_makeMap, ↓o1_binOp, ↓o1_unOp, ↓o1_convert, ↓o1_fieldAddr, ↓o1_field, ↓o1_indexAddr, ↓o1_extract, ↓o1_slice, ↓o1_len, ↓o1_max, ↓o1_min, ↓o1_load, ↓o1_lookup, ↓o1_store, ↓o1_mapUpdate, ↓o1_append, ↓o1_delete, ↓o1_call, encC, hw0]
  refine callP_intro (ds := [.i .i64 k0]) (by rfl) sO0 ?_
  simp (config := { maxSteps := 1000000 }) [-List.map_map, -List.mapM_map, ↓awp_skip, ↓awp_regionB, ↓awp_seq, ↓awp_block, ↓awp_exit, ↓awp_ret, ↓awp_label, ↓awp_scope, ↓awp_condB, ↓awp_loopB, ↓ow_nil', ↓ow_cons0, ↓ow_cons1, ↓o1_move, ↓o1_assign, ↓o1_pick, ↓o1_alloc, ↓o1_box, ↓o1_build, ↓o1_buildSlice, ↓o1_makeSlice, ↓o1_makeMap, ↓o1_binOp, ↓o1_unOp, ↓o1_convert, ↓o1_fieldAddr, ↓o1_field, ↓o1_indexAddr, ↓o1_extract, ↓o1_slice, ↓o1_len, ↓o1_max, ↓o1_min, ↓o1_load, ↓o1_lookup, ↓o1_store, ↓o1_mapUpdate, ↓o1_append, ↓o1_delete, ↓o1_call, encC, encZ_eq, hw1, cellsA_encM, one_encM]
  refine callP_intro (ds := [.i .i64 k1]) (by rfl) sO1 ?_
  simp (config := { maxSteps := 1000000 }) [-List.map_map, -List.mapM_map, ↓awp_skip, ↓awp_regionB, ↓awp_seq, ↓awp_block, ↓awp_exit, ↓awp_ret, ↓awp_label, ↓awp_scope, ↓awp_condB, ↓awp_loopB, ↓ow_nil', ↓ow_cons0, ↓ow_cons1, ↓o1_move, ↓o1_assign, ↓o1_pick, ↓o1_alloc, ↓o1_box, ↓o1_build, ↓o1_buildSlice, ↓o1_makeSlice, ↓o1_makeMap, ↓o1_binOp, ↓o1_unOp, ↓o1_convert, ↓o1_fieldAddr, ↓o1_field, ↓o1_indexAddr, ↓o1_extract, ↓o1_slice, ↓o1_len, ↓o1_max, ↓o1_min, ↓o1_load, ↓o1_lookup, ↓o1_store, ↓o1_mapUpdate, ↓o1_append, ↓o1_delete, ↓o1_call, encC, encZ_eq, cellsA_encM, one_encM]
  refine callP_intro (ds := [encC a, encC b, encZ k0]) (by rfl) sM ?_
  simp (config := { maxSteps := 1000000 }) [-List.map_map, -List.mapM_map, ↓awp_skip, ↓awp_regionB, ↓awp_seq, ↓awp_block, ↓awp_exit, ↓awp_ret, ↓awp_label, ↓awp_scope, ↓awp_condB, ↓awp_loopB, ↓ow_nil', ↓ow_cons0, ↓ow_cons1, ↓o1_move, ↓o1_assign, ↓o1_pick, ↓o1_alloc, ↓o1_box, ↓o1_build, ↓o1_buildSlice, ↓o1_makeSlice, ↓o1_makeMap, ↓o1_binOp, ↓o1_unOp, ↓o1_convert, ↓o1_fieldAddr, ↓o1_field, ↓o1_indexAddr, ↓o1_extract, ↓o1_slice, ↓o1_len, ↓o1_max, ↓o1_min, ↓o1_load, ↓o1_lookup, ↓o1_store, ↓o1_mapUpdate, ↓o1_append, ↓o1_delete, ↓o1_call, encC, encZ_eq, cellsA_encM, one_encM]
  refine callP_intro (ds := [encC c, .i .i64 6]) (by rfl) sV ?_
  simp (config := { maxSteps := 1000000 }) [-List.map_map, -List.mapM_map, ↓awp_skip, ↓awp_regionB, ↓awp_seq, ↓awp_block, ↓awp_exit, ↓awp_ret, ↓awp_label, ↓awp_scope, ↓awp_condB, ↓awp_loopB, ↓ow_nil', ↓ow_cons0, ↓ow_cons1, ↓o1_move, ↓o1_assign, ↓o1_pick, ↓o1_alloc, ↓o1_box, ↓o1_build, ↓o1_buildSlice, ↓o1_makeSlice, ↓o1_makeMap, ↓o1_binOp, ↓o1_unOp, ↓o1_convert, ↓o1_fieldAddr, ↓o1_field, ↓o1_indexAddr, ↓o1_extract, ↓o1_slice, ↓o1_len, ↓o1_max, ↓o1_min, ↓o1_load, ↓o1_lookup, ↓o1_store, ↓o1_mapUpdate, ↓o1_append, ↓o1_delete, ↓o1_call, encC, encZ_eq, cellsA_encM, one_encM]
  refine callP_intro (ds := [encC a, encC b, encZ k0]) (by rfl) sR ?_
  simp (config := { maxSteps := 1000000 }) [-List.map_map, -List.mapM_map, ↓awp_skip, ↓awp_regionB, ↓awp_seq, ↓awp_block, ↓awp_exit, ↓awp_ret, ↓awp_label, ↓awp_scope, ↓awp_condB, ↓awp_loopB, ↓ow_nil', ↓ow_cons0, ↓ow_cons1, ↓o1_move, ↓o1_assign, ↓o1_pick, ↓o1_alloc, ↓o1_box, ↓o1_build, ↓o1_buildSlice, ↓o1_makeSlice, ↓o1_makeMap, ↓o1_binOp, ↓o1_unOp, ↓o1_convert, ↓o1_fieldAddr, ↓o1_field, ↓o1_indexAddr, ↓o1_extract, ↓o1_slice, ↓o1_len, ↓o1_max, ↓o1_min, ↓o1_load, ↓o1_lookup, ↓o1_store, ↓o1_mapUpdate, ↓o1_append, ↓o1_delete, ↓o1_call, encC]
  refine callP_intro (ds := [encC c, encC c]) (by rfl) sS1 ?_
  simp (config := { maxSteps := 1000000 }) [-List.map_map, -List.mapM_map, ↓awp_skip, ↓awp_regionB, ↓awp_seq, ↓awp_block, ↓awp_exit, ↓awp_ret, ↓awp_label, ↓awp_scope, ↓awp_condB, ↓awp_loopB, ↓ow_nil', ↓ow_cons0, ↓ow_cons1, ↓o1_move, ↓o1_assign, ↓o1_pick, ↓o1_alloc, ↓o1_box, ↓o1_build, ↓o1_buildSlice, ↓o1_makeSlice, ↓o1_makeMap, ↓o1_binOp, ↓o1_unOp, ↓o1_convert, ↓o1_fieldAddr, ↓o1_field, ↓o1_indexAddr, ↓o1_extract, ↓o1_slice, ↓o1_len, ↓o1_max, ↓o1_min, ↓o1_load, ↓o1_lookup, ↓o1_store, ↓o1_mapUpdate, ↓o1_append, ↓o1_delete, ↓o1_call, encC, encZ_eq, cellsA_encM, one_encM]
  refine callP_intro (ds := [encZ k0]) (by rfl) sN ?_
  simp (config := { maxSteps := 1000000 }) [-List.map_map, -List.mapM_map, ↓awp_skip, ↓awp_regionB, ↓awp_seq, ↓awp_block, ↓awp_exit, ↓awp_ret, ↓awp_label, ↓awp_scope, ↓awp_condB, ↓awp_loopB, ↓ow_nil', ↓ow_cons0, ↓ow_cons1, ↓o1_move, ↓o1_assign, ↓o1_pick, ↓o1_alloc, ↓o1_box, ↓o1_build, ↓o1_buildSlice, ↓o1_makeSlice, ↓o1_makeMap, ↓o1_binOp, ↓o1_unOp, ↓o1_convert, ↓o1_fieldAddr, ↓o1_field, ↓o1_indexAddr, ↓o1_extract, ↓o1_slice, ↓o1_len, ↓o1_max, ↓o1_min, ↓o1_load, ↓o1_lookup, ↓o1_store, ↓o1_mapUpdate, ↓o1_append, ↓o1_delete, ↓o1_call, encC, encZ_eq, cellsA_encM, one_encM]
  refine callP_intro (ds := [encC c, encC b, encZ kn]) (by rfl) sM2 ?_
  simp (config := { maxSteps := 1000000 }) [-List.map_map, -List.mapM_map, ↓awp_skip, ↓awp_regionB, ↓awp_seq, ↓awp_block, ↓awp_exit, ↓awp_ret, ↓awp_label, ↓awp_scope, ↓awp_condB, ↓awp_loopB, ↓ow_nil', ↓ow_cons0, ↓ow_cons1, ↓o1_move, ↓o1_assign, ↓o1_pick, ↓o1_alloc, ↓o1_box, ↓o1_build, ↓o1_buildSlice, ↓o1_makeSlice, ↓o1_makeMap, ↓o1_binOp, ↓o1_unOp, ↓o1_convert, ↓o1_fieldAddr, ↓o1_field, ↓o1_indexAddr, ↓o1_extract, ↓o1_slice, ↓o1_len, ↓o1_max, ↓o1_min, ↓o1_load, ↓o1_lookup, ↓o1_store, ↓o1_mapUpdate, ↓o1_append, ↓o1_delete, ↓o1_call, encC]
  refine callP_intro (ds := [encC a, encC a]) (by rfl) sS2 ?_
  simp (config := { maxSteps := 1000000 }) [-List.map_map, -List.mapM_map, ↓awp_skip, ↓awp_regionB, ↓awp_seq, ↓awp_block, ↓awp_exit, ↓awp_ret, ↓awp_label, ↓awp_scope, ↓awp_condB, ↓awp_loopB, ↓ow_nil', ↓ow_cons0, ↓ow_cons1, ↓o1_move, ↓o1_assign, ↓o1_pick, ↓o1_alloc, ↓o1_box, ↓o1_build, ↓o1_buildSlice, ↓o1_makeSlice, ↓o1_makeMap, ↓o1_binOp, ↓o1_unOp, ↓o1_convert, ↓o1_fieldAddr, ↓o1_field, ↓o1_indexAddr, ↓o1_extract, ↓o1_slice, ↓o1_len, ↓o1_max, ↓o1_min, ↓o1_load, ↓o1_lookup, ↓o1_store, ↓o1_mapUpdate, ↓o1_append, ↓o1_delete, ↓o1_call, encC, encZ_eq, cellsA_encM, one_encM]
  refine callP_intro (ds := [encC c, encC b, encZ k1]) (by rfl) sM3 ?_
  simp (config := { maxSteps := 1000000 }) [-List.map_map, -List.mapM_map, ↓awp_skip, ↓awp_regionB, ↓awp_seq, ↓awp_block, ↓awp_exit, ↓awp_ret, ↓awp_label, ↓awp_scope, ↓awp_condB, ↓awp_loopB, ↓ow_nil', ↓ow_cons0, ↓ow_cons1, ↓o1_move, ↓o1_assign, ↓o1_pick, ↓o1_alloc, ↓o1_box, ↓o1_build, ↓o1_buildSlice, ↓o1_makeSlice, ↓o1_makeMap, ↓o1_binOp, ↓o1_unOp, ↓o1_convert, ↓o1_fieldAddr, ↓o1_field, ↓o1_indexAddr, ↓o1_extract, ↓o1_slice, ↓o1_len, ↓o1_max, ↓o1_min, ↓o1_load, ↓o1_lookup, ↓o1_store, ↓o1_mapUpdate, ↓o1_append, ↓o1_delete, ↓o1_call, encC, encZ_eq, cellsA_encM, one_encM]
  refine callP_intro (ds := [encZ k0, encZ k1]) (by rfl) sP ?_
  simp (config := { maxSteps := 1000000 }) [-List.map_map, -List.mapM_map, ↓awp_skip, ↓awp_regionB, ↓awp_seq, ↓awp_block, ↓awp_exit, ↓awp_ret, ↓awp_label, ↓awp_scope, ↓awp_condB, ↓awp_loopB, ↓ow_nil', ↓ow_cons0, ↓ow_cons1, ↓o1_move, ↓o1_assign, ↓o1_pick, ↓o1_alloc, ↓o1_box, ↓o1_build, ↓o1_buildSlice, ↓o1_makeSlice, ↓o1_makeMap, ↓o1_binOp, ↓o1_unOp, ↓o1_convert, ↓o1_fieldAddr, ↓o1_field, ↓o1_indexAddr, ↓o1_extract, ↓o1_slice, ↓o1_len, ↓o1_max, ↓o1_min, ↓o1_load, ↓o1_lookup, ↓o1_store, ↓o1_mapUpdate, ↓o1_append, ↓o1_delete, ↓o1_call, encC, encZ_eq, cellsA_encM, one_encM]
  refine callP_intro (ds := [encC a, encC b, encZ ks]) (by rfl) sM4 ?_
  simp (config := { maxSteps := 1000000 }) [-List.map_map, -List.mapM_map, ↓awp_skip, ↓awp_regionB, ↓awp_seq, ↓awp_block, ↓awp_exit, ↓awp_ret, ↓awp_label, ↓awp_scope, ↓awp_condB, ↓awp_loopB, ↓ow_nil', ↓ow_cons0, ↓ow_cons1, ↓o1_move, ↓o1_assign, ↓o1_pick, ↓o1_alloc, ↓o1_box, ↓o1_build, ↓o1_buildSlice, ↓o1_makeSlice, ↓o1_makeMap, ↓o1_binOp, ↓o1_unOp, ↓o1_convert, ↓o1_fieldAddr, ↓o1_field, ↓o1_indexAddr, ↓o1_extract, ↓o1_slice, ↓o1_len, ↓o1_max, ↓o1_min, ↓o1_load, ↓o1_lookup, ↓o1_store, ↓o1_mapUpdate, ↓o1_append, ↓o1_delete, ↓o1_call, encC]
  refine callP_intro (ds := [encC e, encC e]) (by rfl) sS3 ?_
  simp (config := { maxSteps := 1000000 }) [-List.map_map, -List.mapM_map, ↓awp_skip, ↓awp_regionB, ↓awp_seq, ↓awp_block, ↓awp_exit, ↓awp_ret, ↓awp_label, ↓awp_scope, ↓awp_condB, ↓awp_loopB, ↓ow_nil', ↓ow_cons0, ↓ow_cons1, ↓o1_move, ↓o1_assign, ↓o1_pick, ↓o1_alloc, ↓o1_box, ↓o1_build, ↓o1_buildSlice, ↓o1_makeSlice, ↓o1_makeMap, ↓o1_binOp, ↓o1_unOp, ↓o1_convert, ↓o1_fieldAddr, ↓o1_field, ↓o1_indexAddr, ↓o1_extract, ↓o1_slice, ↓o1_len, ↓o1_max, ↓o1_min, ↓o1_load, ↓o1_lookup, ↓o1_store, ↓o1_mapUpdate, ↓o1_append, ↓o1_delete, ↓o1_call, encC]
  refine callP_intro (ds := [.i .i64 1]) (by rfl) sO2 ?_
  simp (config := { maxSteps := 1000000 }) [-List.map_map, -List.mapM_map, ↓awp_skip, ↓awp_regionB, ↓awp_seq, ↓awp_block, ↓awp_exit, ↓awp_ret, ↓awp_label, ↓awp_scope, ↓awp_condB, ↓awp_loopB, ↓ow_nil', ↓ow_cons0, ↓ow_cons1, ↓o1_move, ↓o1_assign, ↓o1_pick, ↓o1_alloc, ↓o1_box, ↓o1_build, ↓o1_buildSlice, ↓o1_makeSlice, ↓o1_makeMap, ↓o1_binOp, ↓o1_unOp, ↓o1_convert, ↓o1_fieldAddr, ↓o1_field, ↓o1_indexAddr, ↓o1_extract, ↓o1_slice, ↓o1_len, ↓o1_max, ↓o1_min, ↓o1_load, ↓o1_lookup, ↓o1_store, ↓o1_mapUpdate, ↓o1_append, ↓o1_delete, ↓o1_call, encC, encZ_eq, cellsA_encM, one_encM]
  refine callP_intro (ds := [encC [], encC a, encZ z1]) (by rfl) sM5 ?_
  simp (config := { maxSteps := 1000000 }) [-List.map_map, -List.mapM_map, ↓awp_skip, ↓awp_regionB, ↓awp_seq, ↓awp_block, ↓awp_exit, ↓awp_ret, ↓awp_label, ↓awp_scope, ↓awp_condB, ↓awp_loopB, ↓ow_nil', ↓ow_cons0, ↓ow_cons1, ↓o1_move, ↓o1_assign, ↓o1_pick, ↓o1_alloc, ↓o1_box, ↓o1_build, ↓o1_buildSlice, ↓o1_makeSlice, ↓o1_makeMap, ↓o1_binOp, ↓o1_unOp, ↓o1_convert, ↓o1_fieldAddr, ↓o1_field, ↓o1_indexAddr, ↓o1_extract, ↓o1_slice, ↓o1_len, ↓o1_max, ↓o1_min, ↓o1_load, ↓o1_lookup, ↓o1_store, ↓o1_mapUpdate, ↓o1_append, ↓o1_delete, ↓o1_call, encC]
  refine callP_intro (ds := [encC a, encC a]) (by rfl) sS2 ?_
  simp (config := { maxSteps := 1000000 }) [-List.map_map, -List.mapM_map, ↓awp_skip, ↓awp_regionB, ↓awp_seq, ↓awp_block, ↓awp_exit, ↓awp_ret, ↓awp_label, ↓awp_scope, ↓awp_condB, ↓awp_loopB, ↓ow_nil', ↓ow_cons0, ↓ow_cons1, ↓o1_move, ↓o1_assign, ↓o1_pick, ↓o1_alloc, ↓o1_box, ↓o1_build, ↓o1_buildSlice, ↓o1_makeSlice, ↓o1_makeMap, ↓o1_binOp, ↓o1_unOp, ↓o1_convert, ↓o1_fieldAddr, ↓o1_field, ↓o1_indexAddr, ↓o1_extract, ↓o1_slice, ↓o1_len, ↓o1_max, ↓o1_min, ↓o1_load, ↓o1_lookup, ↓o1_store, ↓o1_mapUpdate, ↓o1_append, ↓o1_delete, ↓o1_call, encC]
  refine callP_intro (ds := [.i .i64 (-1)]) (by rfl) sO3 ?_
  simp (config := { maxSteps := 1000000 }) [-List.map_map, -List.mapM_map, ↓awp_skip, ↓awp_regionB, ↓awp_seq, ↓awp_block, ↓awp_exit, ↓awp_ret, ↓awp_label, ↓awp_scope, ↓awp_condB, ↓awp_loopB, ↓ow_nil', ↓ow_cons0, ↓ow_cons1, ↓o1_move, ↓o1_assign, ↓o1_pick, ↓o1_alloc, ↓o1_box, ↓o1_build, ↓o1_buildSlice, ↓o1_makeSlice, ↓o1_makeMap, ↓o1_binOp, ↓o1_unOp, ↓o1_convert, ↓o1_fieldAddr, ↓o1_field, ↓o1_indexAddr, ↓o1_extract, ↓o1_slice, ↓o1_len, ↓o1_max, ↓o1_min, ↓o1_load, ↓o1_lookup, ↓o1_store, ↓o1_mapUpdate, ↓o1_append, ↓o1_delete, ↓o1_call, encC, encZ_eq, cellsA_encM, one_encM]
  refine callP_intro (ds := [encC a, encC a, encZ z2]) (by rfl) sM6 ?_
  simp (config := { maxSteps := 1000000 }) [-List.map_map, -List.mapM_map, ↓awp_skip, ↓awp_regionB, ↓awp_seq, ↓awp_block, ↓awp_exit, ↓awp_ret, ↓awp_label, ↓awp_scope, ↓awp_condB, ↓awp_loopB, ↓ow_nil', ↓ow_cons0, ↓ow_cons1, ↓o1_move, ↓o1_assign, ↓o1_pick, ↓o1_alloc, ↓o1_box, ↓o1_build, ↓o1_buildSlice, ↓o1_makeSlice, ↓o1_makeMap, ↓o1_binOp, ↓o1_unOp, ↓o1_convert, ↓o1_fieldAddr, ↓o1_field, ↓o1_indexAddr, ↓o1_extract, ↓o1_slice, ↓o1_len, ↓o1_max, ↓o1_min, ↓o1_load, ↓o1_lookup, ↓o1_store, ↓o1_mapUpdate, ↓o1_append, ↓o1_delete, ↓o1_call, encC]

end Go.Am
