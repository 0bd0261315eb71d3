/- The reference's integers: sums. No condition. -/
import Derived.Test.YtmnjglpieghdkaaR1b
open Go Go.Am Go.Proofs
namespace Go.Am
set_option linter.unusedSimpArgs false

/-- The sum after i limbs, and what is carried. -/
def plS (a b : List Nat) : Nat → List Nat × Nat
  | 0 => ([], 0)
  | i + 1 => ((plS a b i).1 ++ [((plS a b i).2 + a.getD i 0 + b.getD i 0) % 4294967296], ((plS a b i).2 + a.getD i 0 + b.getD i 0) / 4294967296)
theorem plS_inv {a b : List Nat} (ha : Lim a) (hb : Lim b) : ∀ i, (plS a b i).1.length = i ∧ (plS a b i).2 ≤ 1 ∧ Lim (plS a b i).1 ∧ val (plS a b i).1 + 4294967296 ^ i * (plS a b i).2 = val (a.take i) + val (b.take i)
  | 0 => ⟨rfl, Nat.zero_le _, .nil, by simp [plS, val]⟩
  | i + 1 => by
    obtain ⟨h1, h2, h3, h4⟩ := plS_inv ha hb i
    have ha' := ha.getD i
    have hb' := hb.getD i
    simp only [plS]
    generalize (plS a b i).1 = out at *
    generalize (plS a b i).2 = c at *
    refine ⟨by simp [h1], by omega, h3.app (.one (by omega)), ?_⟩
    rw [val_app, val_take_succ, val_take_succ, h1, Nat.pow_succ]
    simp only [val]
    have h5 : 4294967296 ^ i * ((c + a.getD i 0 + b.getD i 0) % 4294967296) + 4294967296 ^ i * 4294967296 * ((c + a.getD i 0 + b.getD i 0) / 4294967296) = 4294967296 ^ i * c + 4294967296 ^ i * a.getD i 0 + 4294967296 ^ i * b.getD i 0 := by
      rw [Nat.mul_assoc, ← Nat.mul_add, Nat.mod_add_div, Nat.mul_add, Nat.mul_add]
    simp only [Nat.mul_zero, Nat.add_zero]
    omega
/-- Where it ends. -/
def plN (a b : List Nat) : Nat := if (plS a b (max a.length b.length)).2 = 0 then max a.length b.length else max a.length b.length + 1
def plusR (a b : List Nat) : List Nat := (plS a b (plN a b)).1
theorem getD_none {l : List Nat} {i : Nat} (h : ¬ i < l.length) : l.getD i 0 = 0 := by rw [List.getD_eq_getElem?_getD, List.getElem?_eq_none (by omega)]; rfl
theorem plS_carry {a b : List Nat} (ha : Lim a) (hb : Lim b) {i : Nat} (h1 : a.length ≤ i) (h2 : b.length ≤ i) : (plS a b (i + 1)).2 = 0 := by
  have h := (plS_inv ha hb i).2.1
  show ((plS a b i).2 + a.getD i 0 + b.getD i 0) / 4294967296 = 0
  rw [getD_none (l := a) (by omega), getD_none (l := b) (by omega)]
  omega
theorem plS_done {a b : List Nat} (ha : Lim a) (hb : Lim b) {i : Nat} (h1 : a.length ≤ i) (h2 : b.length ≤ i) (hc : (plS a b i).2 = 0) : val (plS a b i).1 = val a + val b := by
  have h := (plS_inv ha hb i).2.2.2
  rw [List.take_of_length_le h1, List.take_of_length_le h2, hc, Nat.mul_zero, Nat.add_zero] at h
  exact h
theorem plusR_val {a b : List Nat} (ha : Lim a) (hb : Lim b) : val (plusR a b) = val a + val b ∧ Lim (plusR a b) ∧ (plusR a b).length ≤ max a.length b.length + 1 := by
  unfold plusR plN
  have h1 : a.length ≤ max a.length b.length := by omega
  have h2 : b.length ≤ max a.length b.length := by omega
  generalize max a.length b.length = M at *
  by_cases hc : (plS a b M).2 = 0
  · rw [if_pos hc]
    have h := plS_inv ha hb M
    exact ⟨plS_done ha hb h1 h2 hc, h.2.2.1, by rw [h.1]; omega⟩
  · rw [if_neg hc]
    have h := plS_inv ha hb (M + 1)
    exact ⟨plS_done ha hb (by omega) (by omega) (plS_carry ha hb h1 h2), h.2.2.1, by rw [h.1]; exact Nat.le_refl _⟩

theorem getD_some {l : List Nat} {i : Nat} (h : i < l.length) : l[i]? = some (l.getD i 0) := by rw [List.getD_eq_getElem?_getD, List.getElem?_eq_getElem h]; rfl

set_option maxRecDepth 10000 in
theorem r01plus (a b : List Nat) (ha : Lim a) (hb : Lim b) (hla : a.length ≤ 1099511627776) (hlb : b.length ≤ 1099511627776) : Spec Try.prog 80 [encM a, encM b] (encM (plusR a b)) := by
  refine spec_of (N := 55) follows_mixed Try.func80 rfl rfl rfl (by kernel_rfl) (by kernel_rfl) (by simp) ?_
  simp (config := { maxSteps := 1000000 }) [-List.map_map, -List.mapM_map, ↓awp_skip, ↓awp_regionB, ↓awp_seq, ↓awp_block, ↓awp_exit, ↓awp_ret, ↓awp_label, ↓awp_scope, ↓awp_condB, ↓awp_loopB, condP_b, condP_ub, ↓ow_nil', ↓ow_cons0, ↓ow_cons1, ↓o1_move, ↓o1_assign, ↓o1_pick, ↓o1_alloc, ↓o1_box, ↓o1_build, ↓o1_buildSlice, ↓o1_makeSlice, ↓o1_makeMap, ↓o1_binOp, ↓o1_unOp, ↓o1_convert, ↓o1_fieldAddr, ↓o1_field, ↓o1_indexAddr, ↓o1_extract, ↓o1_slice, ↓o1_len, ↓o1_max, ↓o1_min, ↓o1_load, ↓o1_lookup, ↓o1_store, ↓o1_mapUpdate, ↓o1_append, ↓o1_delete, ↓o1_call, isKf, bindP_some, finP_nil, finP_cons, ite_db, nilB, isNilA, St0, lay_cons, rep_flat, lms_rep, rep_lms, ifD_true, ifD_false, List.append_nil, List.nil_append, List.map_cons, List.map_nil, frzs, allOne_nil, allOne_cons, mapM_d7, chunk_0, chunk_1, chunk_2, kills_none, kills_b, kills_i, kills_tp, kills_ag, kills_sl, viss_nil, viss_cons, vis_d, vis_nil, vis_fd, vis_ag, vis_data, vis_own, visC_cells, List.flatMap_cons, List.flatMap_nil, scrub_map, mapM_d6, lms_flat, lms_all, lms_all', lms_len, nv_move, nv_assign, nv_pick, nv_alloc, nv_box, nv_build, nv_buildSlice, nv_makeSlice, nv_binOp, nv_unOp, nv_convert, nv_fieldAddr, nv_indexAddr, nv_extract, nv_slice, nv_len, maxC_i, minC_i, nv_max, nv_min, nv_field, nv_makeMap, pureA_some, StL_Γ, StL_H, StL_HO, StL_n, sltF_ap, sltF_nil, blkF_ap, blkF_nil, oev_tmp, oev_i, oev_b, oev_nil, oev_agg, cv1_i, cv1_b, cv1_nil, cells_agg, cells_i, cells_b, cells_sl, oneC_i, oneC_b, oneC_sl, one_db, one_di, one_dsl, one_nil, one_own, one_ptr, one_mp, one_fd, one_fp, cellsA_db, cellsA_di, cellsA_dsl, cellsA_nil, cellsA_own, cellsA_ptr, cellsA_mp, cellsA_fd, cellsA_ag, cellsA_dag, agOf_ag, agOf_dag, tpOf_tp, tpOf_dtp, intOfA_i, boolOfA_b, optI_none, optI_some, lenA_dsl, lenA_fd, lenA_nil, lenA_own, fieldA_ptr, fieldA_fp, indexS_dsl, indexS_fd, indexS_own, indexP_ptr, indexP_fp, binA_b, binA_add, binA_sub, binA_mul, binA_quo, binA_rem, binA_eql, binA_neq, binA_lss, binA_leq, binA_gtr, binA_geq, binA_shl, binA_shr, binA_nilr, unA_not, unA_neg, nilA_none, nilA_nil, inj1_b, inj1_i, inj1_sl, inj1_ag, inj_b, inj_i, inj_sl, inj_ag, inj_tp, scrub_d, scrub_nil, scrub_un, scrub_any, scrub_own, scrub_ptr, scrub_mp, scrub_fp, scrub_fd, scrub_ag, scrub_tp, scrub0_d, scrub0_nil, scrub0_un, scrub0_any, scrub0_own, scrub0_ptr, scrubO_data, srcA_nil, srcA_dsl, srcA_fd, srcA_own, srcOwn_cells, okHead_nil, okHead_cons, appA_def, ownOf_own, ownOf_nil, appC_nil, appC_own, loadA_ptr, ldC_cells, loadA_fp, storeA_ptr, stC_cells, res1_tmp, res1_cell, resD_one, kill_nil, kill_one, addB_none, addB_some, cnt_none, cnt_some, putA_some, putA_none, upd_ap, fillA_nil, fillA_cons, fillC_some, sliceA_dsl, sliceA_fd, wantedA_some, Γ0_get, okHead_encM, scrubO_cells, frz_own, frz_d, frz_nil, frz_fd, frz_ag, encM]
  refine loopP_inv (fun i : Nat => i ≤ max a.length b.length ∨ (i = max a.length b.length + 1 ∧ (plS a b (max a.length b.length)).2 ≠ 0))
    (fun i => StL [(0, .d (encM a)), (1, .d (encM b)), (5, .own 1 0 i 1), (6, .d (.i .u64 (plS a b i).2)), (7, .d (.i .i64 i))] none [.cells 104 ((lms (plS a b i).1).map .d)]) (fun i => max a.length b.length + 1 - i) 0 (.inl (Nat.zero_le _)) ?_ ?_
  · refine wk_l [1] (by simp) ?_ ?_ <;> simp [rep_lms, -List.map_map, scrub_d, scrub_nil, scrub_un, scrub_any, scrub_own, scrub_ptr, scrub_mp, scrub_fp, scrub_fd, scrub_ag, scrub_tp, scrub0_d, scrub0_nil, scrub0_un, scrub0_any, scrub0_own, scrub0_ptr, scrub_map, scrubO_cells, slotsOk, blksOk, StL_H, StL_HO, blkF_ap, blkF_nil, upd_ap, sltF_ap, sltF_nil, rhoL, sub_d_iff, sub_own_iff, sub_ptr_iff, sub_mp_iff, sub_nil, sub_un, subO_cells, cellsOk, subL_d, subL_nil, subL_un, cellsOk_map, cellsOk_same, upd, inj1, Γ0, encM, plS, lms]
  · intro i hi
    obtain ⟨hlen, hc, _, _⟩ := plS_inv ha hb i
    have hsucc : plS a b (i + 1) = ((plS a b i).1 ++ [((plS a b i).2 + a.getD i 0 + b.getD i 0) % 4294967296], ((plS a b i).2 + a.getD i 0 + b.getD i 0) / 4294967296) := rfl
    have hstop : (i < a.length ∨ i < b.length ∨ 0 < (plS a b i).2) ∨ i = plN a b := by
      unfold plN
      rcases hi with hi | ⟨hi, hc⟩
      · by_cases h1 : i = max a.length b.length
        · subst h1
          by_cases h2 : (plS a b (max a.length b.length)).2 = 0
          · rw [if_pos h2]; exact .inr rfl
          · exact .inl (.inr (.inr (by omega)))
        · exact .inl (by omega)
      · rw [if_neg hc]; exact .inr hi
    have hnext : (i < a.length ∨ i < b.length ∨ 0 < (plS a b i).2) → i ≤ max a.length b.length ∧ (i + 1 ≤ max a.length b.length ∨ (i + 1 = max a.length b.length + 1 ∧ (plS a b (max a.length b.length)).2 ≠ 0)) := by
      intro h
      rcases hi with hi | ⟨hi, hc2⟩
      · refine ⟨hi, ?_⟩
        by_cases h1 : i = max a.length b.length
        · subst h1; exact .inr ⟨rfl, by omega⟩
        · exact .inl (by omega)
      · exfalso
        have e : (plS a b i).2 = 0 := by
          rw [hi]; exact plS_carry ha hb (by omega) (by omega)
        omega
    have hal := ha.getD i
    have hbl := hb.getD i
    have hres : i = plN a b → (plS a b i).1 = plusR a b := fun e => by rw [e]; rfl
    generalize hout : (plS a b i).1 = out at *
    generalize hcar : (plS a b i).2 = c at *
    by_cases hgo : i < a.length ∨ i < b.length ∨ 0 < c
    · obtain ⟨hi1, hi2⟩ := hnext hgo
      have hb1 : (i + 1) * 4 ≤ 140737488355328 := by omega
      have hb2 : i + 1 ≤ maxLen := by unfold maxLen; omega
      have hw7 : IntKind.i64.wrap ((i : Int) + 1) = (i : Int) + 1 := wrap_i64 (by omega) (by omega)
      have hpos : (0 : Int) ≤ i := by omega
      obtain ⟨s1, hs1⟩ : ∃ s1 : Nat, c + a.getD i 0 = s1 := ⟨_, rfl⟩
      obtain ⟨s2, hs2⟩ : ∃ s2 : Nat, s1 + b.getD i 0 = s2 := ⟨_, rfl⟩
      rw [hs1, hs2] at hsucc
      have hw1 : IntKind.u64.wrap ((c : Int) + ((a.getD i 0 : Nat) : Int)) = s1 := by rw [wrap_u64 (by omega) (by omega)]; omega
      have hw2 : IntKind.u64.wrap ((s1 : Int) + ((b.getD i 0 : Nat) : Int)) = s2 := by rw [wrap_u64 (by omega) (by omega)]; omega
      have hwa : IntKind.u64.wrap ((a.getD i 0 : Nat) : Int) = ((a.getD i 0 : Nat) : Int) := wrap_u64 (by omega) (by omega)
      have hwb : IntKind.u64.wrap ((b.getD i 0 : Nat) : Int) = ((b.getD i 0 : Nat) : Int) := wrap_u64 (by omega) (by omega)
      obtain ⟨lo, hlo⟩ : ∃ lo : Nat, s2 % 4294967296 = lo := ⟨_, rfl⟩
      obtain ⟨hi', hhi⟩ : ∃ hi' : Nat, s2 / 4294967296 = hi' := ⟨_, rfl⟩
      have hw3 : IntKind.u32.wrap (s2 : Int) = lo := by rw [wrap_u32m]; omega
      have hw4 : IntKind.u64.wrap ((s2 : Int).tdiv 4294967296) = hi' := by
        rw [Int.tdiv_eq_ediv_of_nonneg (by omega), wrap_u64 (by omega) (by omega)]; omega
      have hw4' : IntKind.u64.wrap ((s2 : Int) / 4294967296) = hi' := by rw [wrap_u64 (by omega) (by omega)]; omega
      rw [hlo, hhi] at hsucc
      have hcase : (a.getD i 0 = 0 ∧ ¬ i < a.length) ∨ i < a.length := by
        by_cases h : i < a.length
        · exact .inr h
        · exact .inl ⟨getD_none h, h⟩
      have hcase2 : (b.getD i 0 = 0 ∧ ¬ i < b.length) ∨ i < b.length := by
        by_cases h : i < b.length
        · exact .inr h
        · exact .inl ⟨getD_none h, h⟩
      rcases hcase with ⟨ha0, han⟩ | han <;> rcases hcase2 with ⟨hb0, hbn⟩ | hbn
      · have q1 : ¬ (i : Int) < a.length := by omega
        have q2 : ¬ (i : Int) < b.length := by omega
        have q3 : 0 < c := by omega
        rw [ha0] at hs1; rw [hb0] at hs2
        have e2 : s2 = c := by omega
        rw [e2] at hw3 hw4 hw4'
        simp (config := { maxSteps := 1000000 }) [-List.map_map, -List.mapM_map, ↓awp_skip, ↓awp_regionB, ↓awp_seq, ↓awp_block, ↓awp_exit, ↓awp_ret, ↓awp_label, ↓awp_scope, ↓awp_condB, ↓awp_loopB, condP_b, condP_ub, ↓ow_nil', ↓ow_cons0, ↓ow_cons1, ↓o1_move, ↓o1_assign, ↓o1_pick, ↓o1_alloc, ↓o1_box, ↓o1_build, ↓o1_buildSlice, ↓o1_makeSlice, ↓o1_makeMap, ↓o1_binOp, ↓o1_unOp, ↓o1_convert, ↓o1_fieldAddr, ↓o1_field, ↓o1_indexAddr, ↓o1_extract, ↓o1_slice, ↓o1_len, ↓o1_max, ↓o1_min, ↓o1_load, ↓o1_lookup, ↓o1_store, ↓o1_mapUpdate, ↓o1_append, ↓o1_delete, ↓o1_call, isKf, bindP_some, finP_nil, finP_cons, ite_db, nilB, isNilA, St0, lay_cons, rep_flat, lms_rep, rep_lms, ifD_true, ifD_false, List.append_nil, List.nil_append, List.map_cons, List.map_nil, frzs, allOne_nil, allOne_cons, mapM_d7, chunk_0, chunk_1, chunk_2, kills_none, kills_b, kills_i, kills_tp, kills_ag, kills_sl, viss_nil, viss_cons, vis_d, vis_nil, vis_fd, vis_ag, vis_data, vis_own, visC_cells, List.flatMap_cons, List.flatMap_nil, scrub_map, mapM_d6, lms_flat, lms_all, lms_all', lms_len, nv_move, nv_assign, nv_pick, nv_alloc, nv_box, nv_build, nv_buildSlice, nv_makeSlice, nv_binOp, nv_unOp, nv_convert, nv_fieldAddr, nv_indexAddr, nv_extract, nv_slice, nv_len, maxC_i, minC_i, nv_max, nv_min, nv_field, nv_makeMap, pureA_some, StL_Γ, StL_H, StL_HO, StL_n, sltF_ap, sltF_nil, blkF_ap, blkF_nil, oev_tmp, oev_i, oev_b, oev_nil, oev_agg, cv1_i, cv1_b, cv1_nil, cells_agg, cells_i, cells_b, cells_sl, oneC_i, oneC_b, oneC_sl, one_db, one_di, one_dsl, one_nil, one_own, one_ptr, one_mp, one_fd, one_fp, cellsA_db, cellsA_di, cellsA_dsl, cellsA_nil, cellsA_own, cellsA_ptr, cellsA_mp, cellsA_fd, cellsA_ag, cellsA_dag, agOf_ag, agOf_dag, tpOf_tp, tpOf_dtp, intOfA_i, boolOfA_b, optI_none, optI_some, lenA_dsl, lenA_fd, lenA_nil, lenA_own, fieldA_ptr, fieldA_fp, indexS_dsl, indexS_fd, indexS_own, indexP_ptr, indexP_fp, binA_b, binA_add, binA_sub, binA_mul, binA_quo, binA_rem, binA_eql, binA_neq, binA_lss, binA_leq, binA_gtr, binA_geq, binA_shl, binA_shr, binA_nilr, unA_not, unA_neg, nilA_none, nilA_nil, inj1_b, inj1_i, inj1_sl, inj1_ag, inj_b, inj_i, inj_sl, inj_ag, inj_tp, scrub_d, scrub_nil, scrub_un, scrub_any, scrub_own, scrub_ptr, scrub_mp, scrub_fp, scrub_fd, scrub_ag, scrub_tp, scrub0_d, scrub0_nil, scrub0_un, scrub0_any, scrub0_own, scrub0_ptr, scrubO_data, srcA_nil, srcA_dsl, srcA_fd, srcA_own, srcOwn_cells, okHead_nil, okHead_cons, appA_def, ownOf_own, ownOf_nil, appC_nil, appC_own, loadA_ptr, ldC_cells, loadA_fp, storeA_ptr, stC_cells, res1_tmp, res1_cell, resD_one, kill_nil, kill_one, addB_none, addB_some, cnt_none, cnt_some, putA_some, putA_none, upd_ap, fillA_nil, fillA_cons, fillC_some, sliceA_dsl, sliceA_fd, wantedA_some, Γ0_get, okHead_encM, scrubO_cells, frz_own, frz_d, frz_nil, frz_fd, frz_ag, encM, q1, q2, q3, hw3, hw4, hw7, hb1, hb2, hlen]
        refine nxt_intro (i + 1) hi2 ?_ (wk_l [3] (by simp) ?_ ?_)
        · omega
        · simp [rep_lms, -List.map_map, scrub_d, scrub_nil, scrub_un, scrub_any, scrub_own, scrub_ptr, scrub_mp, scrub_fp, scrub_fd, scrub_ag, scrub_tp, scrub0_d, scrub0_nil, scrub0_un, scrub0_any, scrub0_own, scrub0_ptr, scrub_map, scrubO_cells, slotsOk, blksOk, StL_H, StL_HO, blkF_ap, blkF_nil, upd_ap, sltF_ap, sltF_nil, rhoL, sub_d_iff, sub_own_iff, sub_ptr_iff, sub_mp_iff, sub_nil, sub_un, subO_cells, cellsOk, subL_d, subL_nil, subL_un, cellsOk_map, cellsOk_same, upd, inj1, Γ0, encM, hsucc, lms_app, lms_one, hw4']
        · simp [rep_lms, -List.map_map, scrub_d, scrub_nil, scrub_un, scrub_any, scrub_own, scrub_ptr, scrub_mp, scrub_fp, scrub_fd, scrub_ag, scrub_tp, scrub0_d, scrub0_nil, scrub0_un, scrub0_any, scrub0_own, scrub0_ptr, scrub_map, scrubO_cells, slotsOk, blksOk, StL_H, StL_HO, blkF_ap, blkF_nil, upd_ap, sltF_ap, sltF_nil, rhoL, sub_d_iff, sub_own_iff, sub_ptr_iff, sub_mp_iff, sub_nil, sub_un, subO_cells, cellsOk, subL_d, subL_nil, subL_un, cellsOk_map, cellsOk_same, upd, inj1, Γ0, encM, hsucc, lms_app, lms_one]
      · have q1 : ¬ (i : Int) < a.length := by omega
        have q2 : (i : Int) < b.length := by omega
        rw [ha0] at hs1
        have e1 : s1 = c := by omega
        have g2 := getD_some hbn
        rw [e1] at hw2
        generalize b.getD i 0 = y at *
        simp (config := { maxSteps := 1000000 }) [-List.map_map, -List.mapM_map, ↓awp_skip, ↓awp_regionB, ↓awp_seq, ↓awp_block, ↓awp_exit, ↓awp_ret, ↓awp_label, ↓awp_scope, ↓awp_condB, ↓awp_loopB, condP_b, condP_ub, ↓ow_nil', ↓ow_cons0, ↓ow_cons1, ↓o1_move, ↓o1_assign, ↓o1_pick, ↓o1_alloc, ↓o1_box, ↓o1_build, ↓o1_buildSlice, ↓o1_makeSlice, ↓o1_makeMap, ↓o1_binOp, ↓o1_unOp, ↓o1_convert, ↓o1_fieldAddr, ↓o1_field, ↓o1_indexAddr, ↓o1_extract, ↓o1_slice, ↓o1_len, ↓o1_max, ↓o1_min, ↓o1_load, ↓o1_lookup, ↓o1_store, ↓o1_mapUpdate, ↓o1_append, ↓o1_delete, ↓o1_call, isKf, bindP_some, finP_nil, finP_cons, ite_db, nilB, isNilA, St0, lay_cons, rep_flat, lms_rep, rep_lms, ifD_true, ifD_false, List.append_nil, List.nil_append, List.map_cons, List.map_nil, frzs, allOne_nil, allOne_cons, mapM_d7, chunk_0, chunk_1, chunk_2, kills_none, kills_b, kills_i, kills_tp, kills_ag, kills_sl, viss_nil, viss_cons, vis_d, vis_nil, vis_fd, vis_ag, vis_data, vis_own, visC_cells, List.flatMap_cons, List.flatMap_nil, scrub_map, mapM_d6, lms_flat, lms_all, lms_all', lms_len, nv_move, nv_assign, nv_pick, nv_alloc, nv_box, nv_build, nv_buildSlice, nv_makeSlice, nv_binOp, nv_unOp, nv_convert, nv_fieldAddr, nv_indexAddr, nv_extract, nv_slice, nv_len, maxC_i, minC_i, nv_max, nv_min, nv_field, nv_makeMap, pureA_some, StL_Γ, StL_H, StL_HO, StL_n, sltF_ap, sltF_nil, blkF_ap, blkF_nil, oev_tmp, oev_i, oev_b, oev_nil, oev_agg, cv1_i, cv1_b, cv1_nil, cells_agg, cells_i, cells_b, cells_sl, oneC_i, oneC_b, oneC_sl, one_db, one_di, one_dsl, one_nil, one_own, one_ptr, one_mp, one_fd, one_fp, cellsA_db, cellsA_di, cellsA_dsl, cellsA_nil, cellsA_own, cellsA_ptr, cellsA_mp, cellsA_fd, cellsA_ag, cellsA_dag, agOf_ag, agOf_dag, tpOf_tp, tpOf_dtp, intOfA_i, boolOfA_b, optI_none, optI_some, lenA_dsl, lenA_fd, lenA_nil, lenA_own, fieldA_ptr, fieldA_fp, indexS_dsl, indexS_fd, indexS_own, indexP_ptr, indexP_fp, binA_b, binA_add, binA_sub, binA_mul, binA_quo, binA_rem, binA_eql, binA_neq, binA_lss, binA_leq, binA_gtr, binA_geq, binA_shl, binA_shr, binA_nilr, unA_not, unA_neg, nilA_none, nilA_nil, inj1_b, inj1_i, inj1_sl, inj1_ag, inj_b, inj_i, inj_sl, inj_ag, inj_tp, scrub_d, scrub_nil, scrub_un, scrub_any, scrub_own, scrub_ptr, scrub_mp, scrub_fp, scrub_fd, scrub_ag, scrub_tp, scrub0_d, scrub0_nil, scrub0_un, scrub0_any, scrub0_own, scrub0_ptr, scrubO_data, srcA_nil, srcA_dsl, srcA_fd, srcA_own, srcOwn_cells, okHead_nil, okHead_cons, appA_def, ownOf_own, ownOf_nil, appC_nil, appC_own, loadA_ptr, ldC_cells, loadA_fp, storeA_ptr, stC_cells, res1_tmp, res1_cell, resD_one, kill_nil, kill_one, addB_none, addB_some, cnt_none, cnt_some, putA_some, putA_none, upd_ap, fillA_nil, fillA_cons, fillC_some, sliceA_dsl, sliceA_fd, wantedA_some, Γ0_get, okHead_encM, scrubO_cells, frz_own, frz_d, frz_nil, frz_fd, frz_ag, encM, q1, q2, g2, hwb, hw2, hw3, hw4, hw7, hb1, hb2, hlen]
        refine nxt_intro (i + 1) hi2 ?_ (wk_l [3] (by simp) ?_ ?_)
        · omega
        · simp [rep_lms, -List.map_map, scrub_d, scrub_nil, scrub_un, scrub_any, scrub_own, scrub_ptr, scrub_mp, scrub_fp, scrub_fd, scrub_ag, scrub_tp, scrub0_d, scrub0_nil, scrub0_un, scrub0_any, scrub0_own, scrub0_ptr, scrub_map, scrubO_cells, slotsOk, blksOk, StL_H, StL_HO, blkF_ap, blkF_nil, upd_ap, sltF_ap, sltF_nil, rhoL, sub_d_iff, sub_own_iff, sub_ptr_iff, sub_mp_iff, sub_nil, sub_un, subO_cells, cellsOk, subL_d, subL_nil, subL_un, cellsOk_map, cellsOk_same, upd, inj1, Γ0, encM, hsucc, lms_app, lms_one, hw4']
        · simp [rep_lms, -List.map_map, scrub_d, scrub_nil, scrub_un, scrub_any, scrub_own, scrub_ptr, scrub_mp, scrub_fp, scrub_fd, scrub_ag, scrub_tp, scrub0_d, scrub0_nil, scrub0_un, scrub0_any, scrub0_own, scrub0_ptr, scrub_map, scrubO_cells, slotsOk, blksOk, StL_H, StL_HO, blkF_ap, blkF_nil, upd_ap, sltF_ap, sltF_nil, rhoL, sub_d_iff, sub_own_iff, sub_ptr_iff, sub_mp_iff, sub_nil, sub_un, subO_cells, cellsOk, subL_d, subL_nil, subL_un, cellsOk_map, cellsOk_same, upd, inj1, Γ0, encM, hsucc, lms_app, lms_one]
      · have q1 : (i : Int) < a.length := by omega
        have q2 : ¬ (i : Int) < b.length := by omega
        rw [hb0] at hs2
        have e2 : s2 = s1 := by omega
        have g1 := getD_some han
        rw [e2] at hw3 hw4 hw4'
        generalize a.getD i 0 = x at *
        simp (config := { maxSteps := 1000000 }) [-List.map_map, -List.mapM_map, ↓awp_skip, ↓awp_regionB, ↓awp_seq, ↓awp_block, ↓awp_exit, ↓awp_ret, ↓awp_label, ↓awp_scope, ↓awp_condB, ↓awp_loopB, condP_b, condP_ub, ↓ow_nil', ↓ow_cons0, ↓ow_cons1, ↓o1_move, ↓o1_assign, ↓o1_pick, ↓o1_alloc, ↓o1_box, ↓o1_build, ↓o1_buildSlice, ↓o1_makeSlice, ↓o1_makeMap, ↓o1_binOp, ↓o1_unOp, ↓o1_convert, ↓o1_fieldAddr, ↓o1_field, ↓o1_indexAddr, ↓o1_extract, ↓o1_slice, ↓o1_len, ↓o1_max, ↓o1_min, ↓o1_load, ↓o1_lookup, ↓o1_store, ↓o1_mapUpdate, ↓o1_append, ↓o1_delete, ↓o1_call, isKf, bindP_some, finP_nil, finP_cons, ite_db, nilB, isNilA, St0, lay_cons, rep_flat, lms_rep, rep_lms, ifD_true, ifD_false, List.append_nil, List.nil_append, List.map_cons, List.map_nil, frzs, allOne_nil, allOne_cons, mapM_d7, chunk_0, chunk_1, chunk_2, kills_none, kills_b, kills_i, kills_tp, kills_ag, kills_sl, viss_nil, viss_cons, vis_d, vis_nil, vis_fd, vis_ag, vis_data, vis_own, visC_cells, List.flatMap_cons, List.flatMap_nil, scrub_map, mapM_d6, lms_flat, lms_all, lms_all', lms_len, nv_move, nv_assign, nv_pick, nv_alloc, nv_box, nv_build, nv_buildSlice, nv_makeSlice, nv_binOp, nv_unOp, nv_convert, nv_fieldAddr, nv_indexAddr, nv_extract, nv_slice, nv_len, maxC_i, minC_i, nv_max, nv_min, nv_field, nv_makeMap, pureA_some, StL_Γ, StL_H, StL_HO, StL_n, sltF_ap, sltF_nil, blkF_ap, blkF_nil, oev_tmp, oev_i, oev_b, oev_nil, oev_agg, cv1_i, cv1_b, cv1_nil, cells_agg, cells_i, cells_b, cells_sl, oneC_i, oneC_b, oneC_sl, one_db, one_di, one_dsl, one_nil, one_own, one_ptr, one_mp, one_fd, one_fp, cellsA_db, cellsA_di, cellsA_dsl, cellsA_nil, cellsA_own, cellsA_ptr, cellsA_mp, cellsA_fd, cellsA_ag, cellsA_dag, agOf_ag, agOf_dag, tpOf_tp, tpOf_dtp, intOfA_i, boolOfA_b, optI_none, optI_some, lenA_dsl, lenA_fd, lenA_nil, lenA_own, fieldA_ptr, fieldA_fp, indexS_dsl, indexS_fd, indexS_own, indexP_ptr, indexP_fp, binA_b, binA_add, binA_sub, binA_mul, binA_quo, binA_rem, binA_eql, binA_neq, binA_lss, binA_leq, binA_gtr, binA_geq, binA_shl, binA_shr, binA_nilr, unA_not, unA_neg, nilA_none, nilA_nil, inj1_b, inj1_i, inj1_sl, inj1_ag, inj_b, inj_i, inj_sl, inj_ag, inj_tp, scrub_d, scrub_nil, scrub_un, scrub_any, scrub_own, scrub_ptr, scrub_mp, scrub_fp, scrub_fd, scrub_ag, scrub_tp, scrub0_d, scrub0_nil, scrub0_un, scrub0_any, scrub0_own, scrub0_ptr, scrubO_data, srcA_nil, srcA_dsl, srcA_fd, srcA_own, srcOwn_cells, okHead_nil, okHead_cons, appA_def, ownOf_own, ownOf_nil, appC_nil, appC_own, loadA_ptr, ldC_cells, loadA_fp, storeA_ptr, stC_cells, res1_tmp, res1_cell, resD_one, kill_nil, kill_one, addB_none, addB_some, cnt_none, cnt_some, putA_some, putA_none, upd_ap, fillA_nil, fillA_cons, fillC_some, sliceA_dsl, sliceA_fd, wantedA_some, Γ0_get, okHead_encM, scrubO_cells, frz_own, frz_d, frz_nil, frz_fd, frz_ag, encM, q1, q2, g1, hwa, hw1, hw3, hw4, hw7, hb1, hb2, hlen]
        refine nxt_intro (i + 1) hi2 ?_ (wk_l [3] (by simp) ?_ ?_)
        · omega
        · simp [rep_lms, -List.map_map, scrub_d, scrub_nil, scrub_un, scrub_any, scrub_own, scrub_ptr, scrub_mp, scrub_fp, scrub_fd, scrub_ag, scrub_tp, scrub0_d, scrub0_nil, scrub0_un, scrub0_any, scrub0_own, scrub0_ptr, scrub_map, scrubO_cells, slotsOk, blksOk, StL_H, StL_HO, blkF_ap, blkF_nil, upd_ap, sltF_ap, sltF_nil, rhoL, sub_d_iff, sub_own_iff, sub_ptr_iff, sub_mp_iff, sub_nil, sub_un, subO_cells, cellsOk, subL_d, subL_nil, subL_un, cellsOk_map, cellsOk_same, upd, inj1, Γ0, encM, hsucc, lms_app, lms_one, hw4']
        · simp [rep_lms, -List.map_map, scrub_d, scrub_nil, scrub_un, scrub_any, scrub_own, scrub_ptr, scrub_mp, scrub_fp, scrub_fd, scrub_ag, scrub_tp, scrub0_d, scrub0_nil, scrub0_un, scrub0_any, scrub0_own, scrub0_ptr, scrub_map, scrubO_cells, slotsOk, blksOk, StL_H, StL_HO, blkF_ap, blkF_nil, upd_ap, sltF_ap, sltF_nil, rhoL, sub_d_iff, sub_own_iff, sub_ptr_iff, sub_mp_iff, sub_nil, sub_un, subO_cells, cellsOk, subL_d, subL_nil, subL_un, cellsOk_map, cellsOk_same, upd, inj1, Γ0, encM, hsucc, lms_app, lms_one]
      · have q1 : (i : Int) < a.length := by omega
        have q2 : (i : Int) < b.length := by omega
        have g1 := getD_some han
        have g2 := getD_some hbn
        generalize a.getD i 0 = x at *
        generalize b.getD i 0 = y at *
        simp (config := { maxSteps := 1000000 }) [-List.map_map, -List.mapM_map, ↓awp_skip, ↓awp_regionB, ↓awp_seq, ↓awp_block, ↓awp_exit, ↓awp_ret, ↓awp_label, ↓awp_scope, ↓awp_condB, ↓awp_loopB, condP_b, condP_ub, ↓ow_nil', ↓ow_cons0, ↓ow_cons1, ↓o1_move, ↓o1_assign, ↓o1_pick, ↓o1_alloc, ↓o1_box, ↓o1_build, ↓o1_buildSlice, ↓o1_makeSlice, ↓o1_makeMap, ↓o1_binOp, ↓o1_unOp, ↓o1_convert, ↓o1_fieldAddr, ↓o1_field, ↓o1_indexAddr, ↓o1_extract, ↓o1_slice, ↓o1_len, ↓o1_max, ↓o1_min, ↓o1_load, ↓o1_lookup, ↓o1_store, ↓o1_mapUpdate, ↓o1_append, ↓o1_delete, ↓o1_call, isKf, bindP_some, finP_nil, finP_cons, ite_db, nilB, isNilA, St0, lay_cons, rep_flat, lms_rep, rep_lms, ifD_true, ifD_false, List.append_nil, List.nil_append, List.map_cons, List.map_nil, frzs, allOne_nil, allOne_cons, mapM_d7, chunk_0, chunk_1, chunk_2, kills_none, kills_b, kills_i, kills_tp, kills_ag, kills_sl, viss_nil, viss_cons, vis_d, vis_nil, vis_fd, vis_ag, vis_data, vis_own, visC_cells, List.flatMap_cons, List.flatMap_nil, scrub_map, mapM_d6, lms_flat, lms_all, lms_all', lms_len, nv_move, nv_assign, nv_pick, nv_alloc, nv_box, nv_build, nv_buildSlice, nv_makeSlice, nv_binOp, nv_unOp, nv_convert, nv_fieldAddr, nv_indexAddr, nv_extract, nv_slice, nv_len, maxC_i, minC_i, nv_max, nv_min, nv_field, nv_makeMap, pureA_some, StL_Γ, StL_H, StL_HO, StL_n, sltF_ap, sltF_nil, blkF_ap, blkF_nil, oev_tmp, oev_i, oev_b, oev_nil, oev_agg, cv1_i, cv1_b, cv1_nil, cells_agg, cells_i, cells_b, cells_sl, oneC_i, oneC_b, oneC_sl, one_db, one_di, one_dsl, one_nil, one_own, one_ptr, one_mp, one_fd, one_fp, cellsA_db, cellsA_di, cellsA_dsl, cellsA_nil, cellsA_own, cellsA_ptr, cellsA_mp, cellsA_fd, cellsA_ag, cellsA_dag, agOf_ag, agOf_dag, tpOf_tp, tpOf_dtp, intOfA_i, boolOfA_b, optI_none, optI_some, lenA_dsl, lenA_fd, lenA_nil, lenA_own, fieldA_ptr, fieldA_fp, indexS_dsl, indexS_fd, indexS_own, indexP_ptr, indexP_fp, binA_b, binA_add, binA_sub, binA_mul, binA_quo, binA_rem, binA_eql, binA_neq, binA_lss, binA_leq, binA_gtr, binA_geq, binA_shl, binA_shr, binA_nilr, unA_not, unA_neg, nilA_none, nilA_nil, inj1_b, inj1_i, inj1_sl, inj1_ag, inj_b, inj_i, inj_sl, inj_ag, inj_tp, scrub_d, scrub_nil, scrub_un, scrub_any, scrub_own, scrub_ptr, scrub_mp, scrub_fp, scrub_fd, scrub_ag, scrub_tp, scrub0_d, scrub0_nil, scrub0_un, scrub0_any, scrub0_own, scrub0_ptr, scrubO_data, srcA_nil, srcA_dsl, srcA_fd, srcA_own, srcOwn_cells, okHead_nil, okHead_cons, appA_def, ownOf_own, ownOf_nil, appC_nil, appC_own, loadA_ptr, ldC_cells, loadA_fp, storeA_ptr, stC_cells, res1_tmp, res1_cell, resD_one, kill_nil, kill_one, addB_none, addB_some, cnt_none, cnt_some, putA_some, putA_none, upd_ap, fillA_nil, fillA_cons, fillC_some, sliceA_dsl, sliceA_fd, wantedA_some, Γ0_get, okHead_encM, scrubO_cells, frz_own, frz_d, frz_nil, frz_fd, frz_ag, encM, q1, q2, g1, g2, hwa, hwb, hw1, hw2, hw3, hw4, hw7, hb1, hb2, hlen]
        refine nxt_intro (i + 1) hi2 ?_ (wk_l [3] (by simp) ?_ ?_)
        · omega
        · simp [rep_lms, -List.map_map, scrub_d, scrub_nil, scrub_un, scrub_any, scrub_own, scrub_ptr, scrub_mp, scrub_fp, scrub_fd, scrub_ag, scrub_tp, scrub0_d, scrub0_nil, scrub0_un, scrub0_any, scrub0_own, scrub0_ptr, scrub_map, scrubO_cells, slotsOk, blksOk, StL_H, StL_HO, blkF_ap, blkF_nil, upd_ap, sltF_ap, sltF_nil, rhoL, sub_d_iff, sub_own_iff, sub_ptr_iff, sub_mp_iff, sub_nil, sub_un, subO_cells, cellsOk, subL_d, subL_nil, subL_un, cellsOk_map, cellsOk_same, upd, inj1, Γ0, encM, hsucc, lms_app, lms_one, hw4']
        · simp [rep_lms, -List.map_map, scrub_d, scrub_nil, scrub_un, scrub_any, scrub_own, scrub_ptr, scrub_mp, scrub_fp, scrub_fd, scrub_ag, scrub_tp, scrub0_d, scrub0_nil, scrub0_un, scrub0_any, scrub0_own, scrub0_ptr, scrub_map, scrubO_cells, slotsOk, blksOk, StL_H, StL_HO, blkF_ap, blkF_nil, upd_ap, sltF_ap, sltF_nil, rhoL, sub_d_iff, sub_own_iff, sub_ptr_iff, sub_mp_iff, sub_nil, sub_un, subO_cells, cellsOk, subL_d, subL_nil, subL_un, cellsOk_map, cellsOk_same, upd, inj1, Γ0, encM, hsucc, lms_app, lms_one]
    · have e := hstop.resolve_left hgo
      have h1 : ¬ (i : Int) < a.length := by omega
      have h2 : ¬ (i : Int) < b.length := by omega
      have h3 : c = 0 := by omega
      have h4 := hres e
      subst h3
      simp (config := { maxSteps := 1000000 }) [-List.map_map, -List.mapM_map, ↓awp_skip, ↓awp_regionB, ↓awp_seq, ↓awp_block, ↓awp_exit, ↓awp_ret, ↓awp_label, ↓awp_scope, ↓awp_condB, ↓awp_loopB, condP_b, condP_ub, ↓ow_nil', ↓ow_cons0, ↓ow_cons1, ↓o1_move, ↓o1_assign, ↓o1_pick, ↓o1_alloc, ↓o1_box, ↓o1_build, ↓o1_buildSlice, ↓o1_makeSlice, ↓o1_makeMap, ↓o1_binOp, ↓o1_unOp, ↓o1_convert, ↓o1_fieldAddr, ↓o1_field, ↓o1_indexAddr, ↓o1_extract, ↓o1_slice, ↓o1_len, ↓o1_max, ↓o1_min, ↓o1_load, ↓o1_lookup, ↓o1_store, ↓o1_mapUpdate, ↓o1_append, ↓o1_delete, ↓o1_call, isKf, bindP_some, finP_nil, finP_cons, ite_db, nilB, isNilA, St0, lay_cons, rep_flat, lms_rep, rep_lms, ifD_true, ifD_false, List.append_nil, List.nil_append, List.map_cons, List.map_nil, frzs, allOne_nil, allOne_cons, mapM_d7, chunk_0, chunk_1, chunk_2, kills_none, kills_b, kills_i, kills_tp, kills_ag, kills_sl, viss_nil, viss_cons, vis_d, vis_nil, vis_fd, vis_ag, vis_data, vis_own, visC_cells, List.flatMap_cons, List.flatMap_nil, scrub_map, mapM_d6, lms_flat, lms_all, lms_all', lms_len, nv_move, nv_assign, nv_pick, nv_alloc, nv_box, nv_build, nv_buildSlice, nv_makeSlice, nv_binOp, nv_unOp, nv_convert, nv_fieldAddr, nv_indexAddr, nv_extract, nv_slice, nv_len, maxC_i, minC_i, nv_max, nv_min, nv_field, nv_makeMap, pureA_some, StL_Γ, StL_H, StL_HO, StL_n, sltF_ap, sltF_nil, blkF_ap, blkF_nil, oev_tmp, oev_i, oev_b, oev_nil, oev_agg, cv1_i, cv1_b, cv1_nil, cells_agg, cells_i, cells_b, cells_sl, oneC_i, oneC_b, oneC_sl, one_db, one_di, one_dsl, one_nil, one_own, one_ptr, one_mp, one_fd, one_fp, cellsA_db, cellsA_di, cellsA_dsl, cellsA_nil, cellsA_own, cellsA_ptr, cellsA_mp, cellsA_fd, cellsA_ag, cellsA_dag, agOf_ag, agOf_dag, tpOf_tp, tpOf_dtp, intOfA_i, boolOfA_b, optI_none, optI_some, lenA_dsl, lenA_fd, lenA_nil, lenA_own, fieldA_ptr, fieldA_fp, indexS_dsl, indexS_fd, indexS_own, indexP_ptr, indexP_fp, binA_b, binA_add, binA_sub, binA_mul, binA_quo, binA_rem, binA_eql, binA_neq, binA_lss, binA_leq, binA_gtr, binA_geq, binA_shl, binA_shr, binA_nilr, unA_not, unA_neg, nilA_none, nilA_nil, inj1_b, inj1_i, inj1_sl, inj1_ag, inj_b, inj_i, inj_sl, inj_ag, inj_tp, scrub_d, scrub_nil, scrub_un, scrub_any, scrub_own, scrub_ptr, scrub_mp, scrub_fp, scrub_fd, scrub_ag, scrub_tp, scrub0_d, scrub0_nil, scrub0_un, scrub0_any, scrub0_own, scrub0_ptr, scrubO_data, srcA_nil, srcA_dsl, srcA_fd, srcA_own, srcOwn_cells, okHead_nil, okHead_cons, appA_def, ownOf_own, ownOf_nil, appC_nil, appC_own, loadA_ptr, ldC_cells, loadA_fp, storeA_ptr, stC_cells, res1_tmp, res1_cell, resD_one, kill_nil, kill_one, addB_none, addB_some, cnt_none, cnt_some, putA_some, putA_none, upd_ap, fillA_nil, fillA_cons, fillC_some, sliceA_dsl, sliceA_fd, wantedA_some, Γ0_get, okHead_encM, scrubO_cells, frz_own, frz_d, frz_nil, frz_fd, frz_ag, encM, h1, h2, hlen, chunk_lms hlen, lms_take_all hlen, ← h4]

end Go.Am
