/- The reference's integers: products. No condition. -/
import Derived.Test.YtmnjglpieghdkaaA3
import Derived.Test.YtmnjglpieghdkaaA4
namespace Go.Am

attribute [simp] condP_b condP_ub isKf bindP_some finP_nil finP_cons ite_db nilB isNilA St0 lay_cons rep_flat lms_rep rep_lms ifD_true ifD_false frzs allOne_nil allOne_cons mapM_d7 chunk_0 chunk_1 chunk_2 kills_none kills_b kills_i kills_tp
   kills_ag kills_sl viss_nil viss_cons vis_d vis_nil vis_fd vis_ag vis_data vis_own visC_cells List.flatMap_nil scrub_map mapM_d6 lms_flat lms_all lms_all' lms_len nv_move nv_assign nv_pick nv_alloc nv_box nv_build plc_def nv_buildSlice
   nv_makeSlice nv_binOp nv_unOp nv_convert nv_fieldAddr nv_indexAddr nv_extract nv_slice nv_len maxC_i minC_i nv_max nv_min nv_field nv_makeMap pureA_some StL_Γ StL_H StL_HO StL_n sltF_ap sltF_nil blkF_ap blkF_nil oev_tmp oev_i oev_b
   oev_nil oev_agg cv1_i cv1_b cv1_nil cells_agg cells_i cells_b cells_sl oneC_i oneC_b oneC_sl one_db one_di one_dsl one_nil one_own one_ptr one_mp one_fd one_fp cellsA_db cellsA_di cellsA_dsl cellsA_nil cellsA_own cellsA_ptr cellsA_mp
   cellsA_fd cellsA_ag cellsA_dag agOf_ag agOf_dag tpOf_tp tpOf_dtp intOfA_i boolOfA_b optI_none optI_some lenA_dsl lenA_fd lenA_nil lenA_own fieldA_ptr fieldA_fp indexS_dsl indexS_fd indexS_own indexP_ptr indexP_fp binA_b binA_add binA_sub
   binA_mul binA_quo binA_rem binA_eql binA_neq binA_lss binA_leq binA_gtr binA_geq binA_shl binA_shr binA_nilr unA_not unA_neg nilA_none nilA_nil inj1_b inj1_i inj1_sl inj1_ag inj_b inj_i inj_sl inj_ag inj_tp scrub_d scrub_nil scrub_un
   scrub_any scrub_own scrub_ptr scrub_mp scrub_fp scrub_fd scrub_ag scrub_tp scrub0_d scrub0_nil scrub0_un scrub0_any scrub0_own scrub0_ptr scrubO_data srcA_nil srcA_dsl srcA_fd srcA_own srcOwn_cells okHead_nil okHead_cons appA_def ownOf_fd appC_fd
   ownOf_own ownOf_nil appC_nil appC_own loadA_ptr ldC_cells loadA_fp storeA_ptr stC_cells res1_tmp res1_cell resD_one kill_nil kill_one addB_none addB_some cnt_none cnt_some putA_some putA_none upd_ap fillA_nil fillA_cons fillC_some
   sliceA_dsl sliceA_fd wantedA_some Γ0_get okHead_encM scrubO_cells frz_own frz_d frz_nil frz_fd frz_ag slotsOk blksOk rhoL sub_d_iff sub_own_iff sub_ptr_iff sub_mp_iff sub_nil sub_un subO_cells cellsOk subL_d subL_nil subL_un cellsOk_map
   cellsOk_same

end Go.Am

open Go Go.Am Go.Proofs
namespace Go.Am
set_option linter.unusedSimpArgs false

theorem strip_take_last {raw : List Nat} {n : Nat} (hn : n < raw.length) (h0 : raw[n] ≠ 0) : strip (raw.take (n + 1)) = raw.take (n + 1) := by
  refine strip_canon ?_
  rw [List.take_add_one, List.getElem?_eq_getElem hn, Canon, Option.toList_some, List.getLast?_append]
  simp [h0]
theorem strip_take_zero {raw : List Nat} {n : Nat} (hn : n < raw.length) (h0 : raw[n] = 0) : strip (raw.take (n + 1)) = strip (raw.take n) := by
  rw [List.take_add_one, List.getElem?_eq_getElem hn, h0]
  exact strip_app_zero _

set_option maxRecDepth 10000 in
theorem r01Made (raw : List Nat) (neg : Bool) (hl : raw.length ≤ 1099511627776) : Spec Try.prog 70 [encM raw, .b neg] (encI (neg && decide (strip raw ≠ [])) (strip raw)) := by
  refine spec_of (N := 31) follows_mixed Try.func70 rfl rfl rfl (by kernel_rfl) (by kernel_rfl) (by simp) ?_
  simp (config := { maxSteps := 1000000 }) [-List.map_map, -List.mapM_map, ↓awp_skip, ↓awp_regionB, ↓awp_seq, ↓awp_block, ↓awp_exit, ↓awp_ret, ↓awp_label, ↓awp_scope, ↓awp_condB, ↓awp_loopB, ↓ow_nil', ↓ow_cons0, ↓ow_cons1, ↓o1_move, ↓o1_assign, ↓o1_pick, ↓o1_alloc, ↓o1_box, ↓o1_build, ↓o1_buildSlice, ↓o1_makeSlice, ↓o1_makeMap, ↓o1_binOp, ↓o1_unOp, ↓o1_convert, ↓o1_fieldAddr, ↓o1_field, ↓o1_indexAddr, ↓o1_extract, ↓o1_slice, ↓o1_len, ↓o1_max, ↓o1_min, ↓o1_load, ↓o1_lookup, ↓o1_store, ↓o1_mapUpdate, ↓o1_append, ↓o1_delete, ↓o1_call, encM]
  refine loopP_intro (τ := { n : Nat // n ≤ raw.length ∧ strip (raw.take n) = strip raw }) (S := fun n => StL [(0, .d (encM raw)), (1, .d (.b neg)), (4, .ptr 1 0), (5, .d (.i .i64 n.1))] none [.cells 32 [.d (.b false), .nil]]) (m := fun n => n.1) ⟨raw.length, Nat.le_refl _, by simp⟩ ?_ ?_
  · refine wk_l [1] (by simp) ?_ ?_
    · simp [-List.map_map, upd, inj1, Γ0, encM]
    · simp [-List.map_map, upd, inj1, Γ0]
  · rintro ⟨n, hn, hs⟩
    rcases n with _ | n
    · have hs' : strip raw = [] := hs.symm
      cases neg <;> simp (config := { maxSteps := 1000000 }) [-List.map_map, -List.mapM_map, ↓awp_skip, ↓awp_regionB, ↓awp_seq, ↓awp_block, ↓awp_exit, ↓awp_ret, ↓awp_label, ↓awp_scope, ↓awp_condB, ↓awp_loopB, ↓ow_nil', ↓ow_cons0, ↓ow_cons1, ↓o1_move, ↓o1_assign, ↓o1_pick, ↓o1_alloc, ↓o1_box, ↓o1_build, ↓o1_buildSlice, ↓o1_makeSlice, ↓o1_makeMap, ↓o1_binOp, ↓o1_unOp, ↓o1_convert, ↓o1_fieldAddr, ↓o1_field, ↓o1_indexAddr, ↓o1_extract, ↓o1_slice, ↓o1_len, ↓o1_max, ↓o1_min, ↓o1_load, ↓o1_lookup, ↓o1_store, ↓o1_mapUpdate, ↓o1_append, ↓o1_delete, ↓o1_call, encM, encI, hs', chunk]
    · have hx : raw[n]? = some raw[n] := List.getElem?_eq_getElem hn
      have hw : IntKind.i64.wrap (n : Int) = n := wrap_i64 (by omega) (by omega)
      have hp : (0 : Int) < (n : Int) + 1 := by omega
      by_cases h0 : raw[n] = 0
      · simp (config := { maxSteps := 1000000 }) [-List.map_map, -List.mapM_map, ↓awp_skip, ↓awp_regionB, ↓awp_seq, ↓awp_block, ↓awp_exit, ↓awp_ret, ↓awp_label, ↓awp_scope, ↓awp_condB, ↓awp_loopB, ↓ow_nil', ↓ow_cons0, ↓ow_cons1, ↓o1_move, ↓o1_assign, ↓o1_pick, ↓o1_alloc, ↓o1_box, ↓o1_build, ↓o1_buildSlice, ↓o1_makeSlice, ↓o1_makeMap, ↓o1_binOp, ↓o1_unOp, ↓o1_convert, ↓o1_fieldAddr, ↓o1_field, ↓o1_indexAddr, ↓o1_extract, ↓o1_slice, ↓o1_len, ↓o1_max, ↓o1_min, ↓o1_load, ↓o1_lookup, ↓o1_store, ↓o1_mapUpdate, ↓o1_append, ↓o1_delete, ↓o1_call, encM, hx, hw, h0, hp]
        refine ⟨n, by omega, ⟨by omega, (strip_take_zero hn h0).symm.trans hs⟩, .inr (wk_l [1] (by simp) ?_ ?_)⟩ <;> simp [-List.map_map, upd, inj1, Γ0, encM]
      · have h1 : ((raw[n] : Int) == 0) = false := by simp; omega
        have he : strip raw = raw.take (n + 1) := hs.symm.trans (strip_take_last hn h0)
        have hp2 : (0 : Int) ≤ (n : Int) + 1 := by omega
        have hn' : (n : Int) + 1 ≤ raw.length := by omega
        obtain ⟨pre, hpre⟩ : ∃ pre, raw.take (n + 1) = pre := ⟨_, rfl⟩
        have hpl : pre.length = n + 1 := by rw [← hpre]; simp; omega
        have hp1 : ∀ f : Nat → List D, (raw.map f).take (n + 1) = pre.map f := fun f => by rw [← hpre, List.map_take]
        have hpn : pre ≠ [] := fun e => by rw [e] at hpl; cases hpl
        rw [hpre] at he
        have hb : (n + 1) * 4 ≤ 140737488355328 := by omega
        have hb2 : n + 1 ≤ maxLen := by unfold maxLen; omega
        cases neg <;> simp (config := { maxSteps := 1000000 }) [-List.map_map, -List.mapM_map, ↓awp_skip, ↓awp_regionB, ↓awp_seq, ↓awp_block, ↓awp_exit, ↓awp_ret, ↓awp_label, ↓awp_scope, ↓awp_condB, ↓awp_loopB, ↓ow_nil', ↓ow_cons0, ↓ow_cons1, ↓o1_move, ↓o1_assign, ↓o1_pick, ↓o1_alloc, ↓o1_box, ↓o1_build, ↓o1_buildSlice, ↓o1_makeSlice, ↓o1_makeMap, ↓o1_binOp, ↓o1_unOp, ↓o1_convert, ↓o1_fieldAddr, ↓o1_field, ↓o1_indexAddr, ↓o1_extract, ↓o1_slice, ↓o1_len, ↓o1_max, ↓o1_min, ↓o1_load, ↓o1_lookup, ↓o1_store, ↓o1_mapUpdate, ↓o1_append, ↓o1_delete, ↓o1_call, encM, encI, hx, hw, h1, hp, hp2, he, hn', hp1, hpl, hpn, chunk_lms hpl, lms_take_all hpl, lms_flat, lms_all, lms_len, hb, hb2]

theorem made_encZ {raw : List Nat} (h : Lim raw) (neg : Bool) : encI (neg && decide (strip raw ≠ [])) (strip raw) = encZ (sg neg (val raw)) := by
  rw [strip_digs h, ← encI_sg]
  simp [digs_eq_nil]

set_option maxRecDepth 10000 in
theorem r01Of (n : Int) (h1 : -9223372036854775808 ≤ n) (h2 : n < 9223372036854775808) : Spec Try.prog 17 [.i .i64 n] (encZ n) := by
  refine spec_of (N := 19) follows_mixed Try.func17 rfl rfl rfl (by kernel_rfl) (by kernel_rfl) (by simp) ?_
  have key : ∀ (u : Nat), u < 18446744073709551616 → ∃ lo hi : Nat, Lim [lo, hi] ∧ val [lo, hi] = u ∧ IntKind.u32.wrap (u : Int) = lo ∧ shiftA .shr .u64 (u : Int) 32 = some (.i .u64 hi) ∧ IntKind.u32.wrap (hi : Int) = hi := fun u hu => by
    refine ⟨u % 4294967296, u / 4294967296, .cons (by omega) (.one (by omega)), by simp only [val]; omega, by rw [wrap_u32m]; omega, ?_, by rw [wrap_u32 (by omega) (by omega)]⟩
    simp only [shiftA, IntKind.bits]
    rw [if_neg (by decide)]
    congr 2
    rw [show (2 : Int) ^ (min (32 : Int).toNat 64) = 4294967296 from by decide, Int.fdiv_eq_ediv_of_nonneg _ (by decide)]
    omega
  by_cases hn : n < 0
  · obtain ⟨u, hu⟩ : ∃ u : Nat, n = -(u : Int) := ⟨n.natAbs, by omega⟩
    have hu2 : u < 18446744073709551616 := by omega
    have e1 : IntKind.u64.wrap n = n + 18446744073709551616 := by rw [wrap_u64m]; omega
    have e2 : IntKind.u64.wrap (-(n + 18446744073709551616)) = (u : Int) := by rw [wrap_u64m]; omega
    obtain ⟨lo, hi, k1, k2, e3, e4, e5⟩ := key u hu2
    simp (config := { maxSteps := 1000000 }) [-List.map_map, -List.mapM_map, ↓awp_skip, ↓awp_regionB, ↓awp_seq, ↓awp_block, ↓awp_exit, ↓awp_ret, ↓awp_label, ↓awp_scope, ↓awp_condB, ↓awp_loopB, ↓ow_nil', ↓ow_cons0, ↓ow_cons1, ↓o1_move, ↓o1_assign, ↓o1_pick, ↓o1_alloc, ↓o1_box, ↓o1_build, ↓o1_buildSlice, ↓o1_makeSlice, ↓o1_makeMap, ↓o1_binOp, ↓o1_unOp, ↓o1_convert, ↓o1_fieldAddr, ↓o1_field, ↓o1_indexAddr, ↓o1_extract, ↓o1_slice, ↓o1_len, ↓o1_max, ↓o1_min, ↓o1_load, ↓o1_lookup, ↓o1_store, ↓o1_mapUpdate, ↓o1_append, ↓o1_delete, ↓o1_call, hn, e1, e2, e3, e4, e5]
    have hm := r01Made [lo, hi] true (by simp)
    rw [made_encZ k1, k2, show sg true u = n by simp [sg]; omega] at hm
    refine callP_intro (ds := [encM [lo, hi], .b true]) ?_ hm ?_
    · simp (config := { maxSteps := 1000000 }) [-List.map_map, -List.mapM_map, ↓awp_skip, ↓awp_regionB, ↓awp_seq, ↓awp_block, ↓awp_exit, ↓awp_ret, ↓awp_label, ↓awp_scope, ↓awp_condB, ↓awp_loopB, ↓ow_nil', ↓ow_cons0, ↓ow_cons1, ↓o1_move, ↓o1_assign, ↓o1_pick, ↓o1_alloc, ↓o1_box, ↓o1_build, ↓o1_buildSlice, ↓o1_makeSlice, ↓o1_makeMap, ↓o1_binOp, ↓o1_unOp, ↓o1_convert, ↓o1_fieldAddr, ↓o1_field, ↓o1_indexAddr, ↓o1_extract, ↓o1_slice, ↓o1_len, ↓o1_max, ↓o1_min, ↓o1_load, ↓o1_lookup, ↓o1_store, ↓o1_mapUpdate, ↓o1_append, ↓o1_delete, ↓o1_call, encM]
    · simp (config := { maxSteps := 1000000 }) [-List.map_map, -List.mapM_map, ↓awp_skip, ↓awp_regionB, ↓awp_seq, ↓awp_block, ↓awp_exit, ↓awp_ret, ↓awp_label, ↓awp_scope, ↓awp_condB, ↓awp_loopB, ↓ow_nil', ↓ow_cons0, ↓ow_cons1, ↓o1_move, ↓o1_assign, ↓o1_pick, ↓o1_alloc, ↓o1_box, ↓o1_build, ↓o1_buildSlice, ↓o1_makeSlice, ↓o1_makeMap, ↓o1_binOp, ↓o1_unOp, ↓o1_convert, ↓o1_fieldAddr, ↓o1_field, ↓o1_indexAddr, ↓o1_extract, ↓o1_slice, ↓o1_len, ↓o1_max, ↓o1_min, ↓o1_load, ↓o1_lookup, ↓o1_store, ↓o1_mapUpdate, ↓o1_append, ↓o1_delete, ↓o1_call, encM, encZ, encI]
  · obtain ⟨u, rfl⟩ : ∃ u : Nat, n = (u : Int) := ⟨n.natAbs, by omega⟩
    have hu2 : u < 18446744073709551616 := by omega
    have e1 : IntKind.u64.wrap (u : Int) = u := wrap_u64 (by omega) (by omega)
    obtain ⟨lo, hi, k1, k2, e3, e4, e5⟩ := key u hu2
    simp (config := { maxSteps := 1000000 }) [-List.map_map, -List.mapM_map, ↓awp_skip, ↓awp_regionB, ↓awp_seq, ↓awp_block, ↓awp_exit, ↓awp_ret, ↓awp_label, ↓awp_scope, ↓awp_condB, ↓awp_loopB, ↓ow_nil', ↓ow_cons0, ↓ow_cons1, ↓o1_move, ↓o1_assign, ↓o1_pick, ↓o1_alloc, ↓o1_box, ↓o1_build, ↓o1_buildSlice, ↓o1_makeSlice, ↓o1_makeMap, ↓o1_binOp, ↓o1_unOp, ↓o1_convert, ↓o1_fieldAddr, ↓o1_field, ↓o1_indexAddr, ↓o1_extract, ↓o1_slice, ↓o1_len, ↓o1_max, ↓o1_min, ↓o1_load, ↓o1_lookup, ↓o1_store, ↓o1_mapUpdate, ↓o1_append, ↓o1_delete, ↓o1_call, hn, e1, e3, e4, e5]
    have hm := r01Made [lo, hi] false (by simp)
    rw [made_encZ k1, k2, show sg false u = u by simp [sg]] at hm
    refine callP_intro (ds := [encM [lo, hi], .b false]) ?_ hm ?_
    · simp (config := { maxSteps := 1000000 }) [-List.map_map, -List.mapM_map, ↓awp_skip, ↓awp_regionB, ↓awp_seq, ↓awp_block, ↓awp_exit, ↓awp_ret, ↓awp_label, ↓awp_scope, ↓awp_condB, ↓awp_loopB, ↓ow_nil', ↓ow_cons0, ↓ow_cons1, ↓o1_move, ↓o1_assign, ↓o1_pick, ↓o1_alloc, ↓o1_box, ↓o1_build, ↓o1_buildSlice, ↓o1_makeSlice, ↓o1_makeMap, ↓o1_binOp, ↓o1_unOp, ↓o1_convert, ↓o1_fieldAddr, ↓o1_field, ↓o1_indexAddr, ↓o1_extract, ↓o1_slice, ↓o1_len, ↓o1_max, ↓o1_min, ↓o1_load, ↓o1_lookup, ↓o1_store, ↓o1_mapUpdate, ↓o1_append, ↓o1_delete, ↓o1_call, encM]
    · simp (config := { maxSteps := 1000000 }) [-List.map_map, -List.mapM_map, ↓awp_skip, ↓awp_regionB, ↓awp_seq, ↓awp_block, ↓awp_exit, ↓awp_ret, ↓awp_label, ↓awp_scope, ↓awp_condB, ↓awp_loopB, ↓ow_nil', ↓ow_cons0, ↓ow_cons1, ↓o1_move, ↓o1_assign, ↓o1_pick, ↓o1_alloc, ↓o1_box, ↓o1_build, ↓o1_buildSlice, ↓o1_makeSlice, ↓o1_makeMap, ↓o1_binOp, ↓o1_unOp, ↓o1_convert, ↓o1_fieldAddr, ↓o1_field, ↓o1_indexAddr, ↓o1_extract, ↓o1_slice, ↓o1_len, ↓o1_max, ↓o1_min, ↓o1_load, ↓o1_lookup, ↓o1_store, ↓o1_mapUpdate, ↓o1_append, ↓o1_delete, ↓o1_call, encM, encZ, encI]
end Go.Am

open Go Go.Am Go.Proofs
namespace Go.Am
set_option linter.unusedSimpArgs false

set_option maxRecDepth 10000 in
theorem r01Sign (neg : Bool) (m : List Nat) : Spec Try.prog 75 [encI neg m] (.i .i64 (if m = [] then 0 else if neg then -1 else 1)) := by
  refine spec_of (N := 9) follows_mixed Try.func75 rfl rfl rfl (by kernel_rfl) (by kernel_rfl) (by simp) ?_
  cases m with
  | nil => simp (config := { maxSteps := 1000000 }) [-List.map_map, -List.mapM_map, ↓awp_skip, ↓awp_regionB, ↓awp_seq, ↓awp_block, ↓awp_exit, ↓awp_ret, ↓awp_label, ↓awp_scope, ↓awp_condB, ↓awp_loopB, ↓ow_nil', ↓ow_cons0, ↓ow_cons1, ↓o1_move, ↓o1_assign, ↓o1_pick, ↓o1_alloc, ↓o1_box, ↓o1_build, ↓o1_buildSlice, ↓o1_makeSlice, ↓o1_makeMap, ↓o1_binOp, ↓o1_unOp, ↓o1_convert, ↓o1_fieldAddr, ↓o1_field, ↓o1_indexAddr, ↓o1_extract, ↓o1_slice, ↓o1_len, ↓o1_max, ↓o1_min, ↓o1_load, ↓o1_lookup, ↓o1_store, ↓o1_mapUpdate, ↓o1_append, ↓o1_delete, ↓o1_call, encI, encM]
  | cons x m =>
    have h1 : (((m.length : Int) + 1 == 0) : Bool) = false := by simp; omega
    cases neg <;> simp (config := { maxSteps := 1000000 }) [-List.map_map, -List.mapM_map, ↓awp_skip, ↓awp_regionB, ↓awp_seq, ↓awp_block, ↓awp_exit, ↓awp_ret, ↓awp_label, ↓awp_scope, ↓awp_condB, ↓awp_loopB, ↓ow_nil', ↓ow_cons0, ↓ow_cons1, ↓o1_move, ↓o1_assign, ↓o1_pick, ↓o1_alloc, ↓o1_box, ↓o1_build, ↓o1_buildSlice, ↓o1_makeSlice, ↓o1_makeMap, ↓o1_binOp, ↓o1_unOp, ↓o1_convert, ↓o1_fieldAddr, ↓o1_field, ↓o1_indexAddr, ↓o1_extract, ↓o1_slice, ↓o1_len, ↓o1_max, ↓o1_min, ↓o1_load, ↓o1_lookup, ↓o1_store, ↓o1_mapUpdate, ↓o1_append, ↓o1_delete, ↓o1_call, encI, encM, h1]

theorem r01SignZ (z : Int) : Spec Try.prog 75 [encZ z] (.i .i64 z.sign) := by
  have := r01Sign (decide (z < 0)) (digs z.natAbs)
  have e : (if digs z.natAbs = [] then (0 : Int) else if (decide (z < 0)) = true then -1 else 1) = z.sign := by
    simp only [digs_eq_nil]
    rcases Int.lt_trichotomy z 0 with h | h | h
    · rw [if_neg (by omega), if_pos (by simpa using h), Int.sign_eq_neg_one_of_neg h]
    · subst h; rfl
    · rw [if_neg (by omega), if_neg (by simp; omega), Int.sign_eq_one_of_pos h]
  rwa [e] at this

set_option maxRecDepth 10000 in
theorem r01Valid (neg : Bool) (m : List Nat) (hl : m.length ≤ 1099511627776) : Spec Try.prog 74 [encI neg m] (.b (match m.getLast? with | some x => x != 0 | none => !neg)) := by
  refine spec_of (N := 19) follows_mixed Try.func74 rfl rfl rfl (by kernel_rfl) (by kernel_rfl) (by simp) ?_
  rcases List.eq_nil_or_concat m with rfl | ⟨m', x, rfl⟩
  · simp (config := { maxSteps := 1000000 }) [-List.map_map, -List.mapM_map, ↓awp_skip, ↓awp_regionB, ↓awp_seq, ↓awp_block, ↓awp_exit, ↓awp_ret, ↓awp_label, ↓awp_scope, ↓awp_condB, ↓awp_loopB, ↓ow_nil', ↓ow_cons0, ↓ow_cons1, ↓o1_move, ↓o1_assign, ↓o1_pick, ↓o1_alloc, ↓o1_box, ↓o1_build, ↓o1_buildSlice, ↓o1_makeSlice, ↓o1_makeMap, ↓o1_binOp, ↓o1_unOp, ↓o1_convert, ↓o1_fieldAddr, ↓o1_field, ↓o1_indexAddr, ↓o1_extract, ↓o1_slice, ↓o1_len, ↓o1_max, ↓o1_min, ↓o1_load, ↓o1_lookup, ↓o1_store, ↓o1_mapUpdate, ↓o1_append, ↓o1_delete, ↓o1_call, encI, encM]
  · have hw : IntKind.i64.wrap (m'.length : Int) = m'.length := by simp at hl; rw [wrap_i64] <;> omega
    have h1 : (((m'.length : Int) + 1 == 0) : Bool) = false := by simp; omega
    have hg : (List.map (fun (x : Nat) => [D.i .u32 (x : Int)]) m' ++ [[D.i .u32 (x : Int)]])[m'.length]? = some [D.i .u32 (x : Int)] := by
      rw [List.getElem?_append_right (by simp)]; simp
    simp (config := { maxSteps := 1000000 }) [-List.map_map, -List.mapM_map, ↓awp_skip, ↓awp_regionB, ↓awp_seq, ↓awp_block, ↓awp_exit, ↓awp_ret, ↓awp_label, ↓awp_scope, ↓awp_condB, ↓awp_loopB, ↓ow_nil', ↓ow_cons0, ↓ow_cons1, ↓o1_move, ↓o1_assign, ↓o1_pick, ↓o1_alloc, ↓o1_box, ↓o1_build, ↓o1_buildSlice, ↓o1_makeSlice, ↓o1_makeMap, ↓o1_binOp, ↓o1_unOp, ↓o1_convert, ↓o1_fieldAddr, ↓o1_field, ↓o1_indexAddr, ↓o1_extract, ↓o1_slice, ↓o1_len, ↓o1_max, ↓o1_min, ↓o1_load, ↓o1_lookup, ↓o1_store, ↓o1_mapUpdate, ↓o1_append, ↓o1_delete, ↓o1_call, encI, encM, hw, h1, hg]
    rw [Bool.eq_iff_iff]; simp

theorem r01ValidZ (z : Int) (hl : (digs z.natAbs).length ≤ 1099511627776) : Spec Try.prog 74 [encZ z] (.b true) := by
  have := r01Valid (decide (z < 0)) (digs z.natAbs) hl
  have e : (match (digs z.natAbs).getLast? with | some x => x != 0 | none => !(decide (z < 0))) = true := by
    have hc := canon_digs z.natAbs
    unfold Canon at hc
    cases h : (digs z.natAbs).getLast? with
    | none =>
      have := digs_eq_nil.1 (List.getLast?_eq_none_iff.1 h)
      simp; omega
    | some x => rw [h] at hc; simpa using hc
  rwa [e] at this

/-- The lists' order: by length, then by value. -/
def lessL (a b : List Nat) : Bool := if a.length = b.length then decide (val a < val b) else decide (a.length < b.length)
theorem lessL_digs (x y : Nat) : lessL (digs x) (digs y) = decide (x < y) := by
  unfold lessL
  by_cases h : (digs x).length = (digs y).length
  · rw [if_pos h, val_digs, val_digs]
  · rw [if_neg h]
    by_cases h1 : (digs x).length < (digs y).length
    · simp [h1, lt_of_len_lt h1]
    · have := lt_of_len_lt (a := y) (b := x) (by omega)
      simp only [h1, decide_false]
      simp; omega

set_option maxRecDepth 10000 in
theorem r01less (a b : List Nat) (ha : Lim a) (hb : Lim b) (hla : a.length ≤ 1099511627776) (hlb : b.length ≤ 1099511627776) : Spec Try.prog 81 [encM a, encM b] (.b (lessL a b)) := by
  refine spec_of (N := 41) follows_mixed Try.func81 rfl rfl rfl (by kernel_rfl) (by kernel_rfl) (by simp) ?_
  by_cases hn : a.length = b.length
  rotate_left
  · have h1 : (((a.length : Int) != b.length) : Bool) = true := by simp; omega
    simp (config := { maxSteps := 1000000 }) [-List.map_map, -List.mapM_map, ↓awp_skip, ↓awp_regionB, ↓awp_seq, ↓awp_block, ↓awp_exit, ↓awp_ret, ↓awp_label, ↓awp_scope, ↓awp_condB, ↓awp_loopB, ↓ow_nil', ↓ow_cons0, ↓ow_cons1, ↓o1_move, ↓o1_assign, ↓o1_pick, ↓o1_alloc, ↓o1_box, ↓o1_build, ↓o1_buildSlice, ↓o1_makeSlice, ↓o1_makeMap, ↓o1_binOp, ↓o1_unOp, ↓o1_convert, ↓o1_fieldAddr, ↓o1_field, ↓o1_indexAddr, ↓o1_extract, ↓o1_slice, ↓o1_len, ↓o1_max, ↓o1_min, ↓o1_load, ↓o1_lookup, ↓o1_store, ↓o1_mapUpdate, ↓o1_append, ↓o1_delete, ↓o1_call, encM, h1, lessL, hn]
  · have h1 : (((a.length : Int) != b.length) : Bool) = false := by simp; omega
    have hw : IntKind.i64.wrap ((a.length : Int) - 1) = (a.length : Int) - 1 := wrap_i64 (by omega) (by omega)
    simp (config := { maxSteps := 1000000 }) [-List.map_map, -List.mapM_map, ↓awp_skip, ↓awp_regionB, ↓awp_seq, ↓awp_block, ↓awp_exit, ↓awp_ret, ↓awp_label, ↓awp_scope, ↓awp_condB, ↓awp_loopB, ↓ow_nil', ↓ow_cons0, ↓ow_cons1, ↓o1_move, ↓o1_assign, ↓o1_pick, ↓o1_alloc, ↓o1_box, ↓o1_build, ↓o1_buildSlice, ↓o1_makeSlice, ↓o1_makeMap, ↓o1_binOp, ↓o1_unOp, ↓o1_convert, ↓o1_fieldAddr, ↓o1_field, ↓o1_indexAddr, ↓o1_extract, ↓o1_slice, ↓o1_len, ↓o1_max, ↓o1_min, ↓o1_load, ↓o1_lookup, ↓o1_store, ↓o1_mapUpdate, ↓o1_append, ↓o1_delete, ↓o1_call, encM, h1, hw]
    refine loopP_intro (τ := { k : Nat // k ≤ a.length ∧ a.drop k = b.drop k }) (S := fun k => StL [(0, .d (encM a)), (1, .d (encM b)), (5, .d (.i .i64 ((k.1 : Int) - 1)))] none []) (m := fun k => k.1) ⟨a.length, Nat.le_refl _, by rw [List.drop_eq_nil_of_le (Nat.le_refl _), List.drop_eq_nil_of_le (by omega)]⟩ ?_ ?_
    · refine wk_l [] (by simp) ?_ ?_ <;> simp [-List.map_map, upd, inj1, Γ0, encM]
    · rintro ⟨k, hk, hd⟩
      rcases k with _ | k
      · have e : a = b := by simpa using hd
        subst e
        simp (config := { maxSteps := 1000000 }) [-List.map_map, -List.mapM_map, ↓awp_skip, ↓awp_regionB, ↓awp_seq, ↓awp_block, ↓awp_exit, ↓awp_ret, ↓awp_label, ↓awp_scope, ↓awp_condB, ↓awp_loopB, ↓ow_nil', ↓ow_cons0, ↓ow_cons1, ↓o1_move, ↓o1_assign, ↓o1_pick, ↓o1_alloc, ↓o1_box, ↓o1_build, ↓o1_buildSlice, ↓o1_makeSlice, ↓o1_makeMap, ↓o1_binOp, ↓o1_unOp, ↓o1_convert, ↓o1_fieldAddr, ↓o1_field, ↓o1_indexAddr, ↓o1_extract, ↓o1_slice, ↓o1_len, ↓o1_max, ↓o1_min, ↓o1_load, ↓o1_lookup, ↓o1_store, ↓o1_mapUpdate, ↓o1_append, ↓o1_delete, ↓o1_call, encM, lessL]
      · have hkb : k < b.length := by omega
        have hxa : a[k]? = some a[k] := List.getElem?_eq_getElem hk
        have hxb : b[k]? = some b[k] := List.getElem?_eq_getElem hkb
        have hw2 : IntKind.i64.wrap ((k : Int) - 1) = (k : Int) - 1 := wrap_i64 (by omega) (by omega)
        have hp : (0 : Int) ≤ k := by omega
        by_cases he : a[k] = b[k]
        · have h2 : (((a[k] : Int) != (b[k] : Int)) : Bool) = false := by simp [he]
          simp (config := { maxSteps := 1000000 }) [-List.map_map, -List.mapM_map, ↓awp_skip, ↓awp_regionB, ↓awp_seq, ↓awp_block, ↓awp_exit, ↓awp_ret, ↓awp_label, ↓awp_scope, ↓awp_condB, ↓awp_loopB, ↓ow_nil', ↓ow_cons0, ↓ow_cons1, ↓o1_move, ↓o1_assign, ↓o1_pick, ↓o1_alloc, ↓o1_box, ↓o1_build, ↓o1_buildSlice, ↓o1_makeSlice, ↓o1_makeMap, ↓o1_binOp, ↓o1_unOp, ↓o1_convert, ↓o1_fieldAddr, ↓o1_field, ↓o1_indexAddr, ↓o1_extract, ↓o1_slice, ↓o1_len, ↓o1_max, ↓o1_min, ↓o1_load, ↓o1_lookup, ↓o1_store, ↓o1_mapUpdate, ↓o1_append, ↓o1_delete, ↓o1_call, encM, hxa, hxb, hw2, hp, h2]
          refine ⟨k, by omega, ⟨by omega, ?_⟩, .inr (wk_l [] (by simp) ?_ ?_)⟩
          · rw [List.drop_eq_getElem_cons hk, List.drop_eq_getElem_cons hkb, he, hd]
          · simp [-List.map_map, upd, inj1, Γ0, encM]
          · trivial
        · have h2 : (((a[k] : Int) != (b[k] : Int)) : Bool) = true := by simp; omega
          simp (config := { maxSteps := 1000000 }) [-List.map_map, -List.mapM_map, ↓awp_skip, ↓awp_regionB, ↓awp_seq, ↓awp_block, ↓awp_exit, ↓awp_ret, ↓awp_label, ↓awp_scope, ↓awp_condB, ↓awp_loopB, ↓ow_nil', ↓ow_cons0, ↓ow_cons1, ↓o1_move, ↓o1_assign, ↓o1_pick, ↓o1_alloc, ↓o1_box, ↓o1_build, ↓o1_buildSlice, ↓o1_makeSlice, ↓o1_makeMap, ↓o1_binOp, ↓o1_unOp, ↓o1_convert, ↓o1_fieldAddr, ↓o1_field, ↓o1_indexAddr, ↓o1_extract, ↓o1_slice, ↓o1_len, ↓o1_max, ↓o1_min, ↓o1_load, ↓o1_lookup, ↓o1_store, ↓o1_mapUpdate, ↓o1_append, ↓o1_delete, ↓o1_call, encM, hxa, hxb, hw2, hp, h2, lessL, hn]
          have ga : a.getD k 0 = a[k] := by rw [List.getD_eq_getElem?_getD, hxa]; rfl
          have gb : b.getD k 0 = b[k] := by rw [List.getD_eq_getElem?_getD, hxb]; rfl
          rcases Nat.lt_or_ge a[k] b[k] with hlt | hge
          · have := val_lt_of ha (i := k) hn hk hd (by rw [ga, gb]; exact hlt)
            simp [hlt, this]
          · have := val_lt_of hb (i := k) hn.symm hkb hd.symm (by rw [ga, gb]; omega)
            omega

theorem val_inj {a b : List Nat} (ha : Lim a) (hb : Lim b) (hl : a.length = b.length) (h : val a = val b) : a = b := by
  induction a generalizing b with
  | nil => cases b with
    | nil => rfl
    | cons => simp at hl
  | cons x a ih => cases b with
    | nil => simp at hl
    | cons y b =>
      have hx := ha x (List.mem_cons_self ..)
      have hy := hb y (List.mem_cons_self ..)
      simp only [val] at h
      have e : x = y := by omega
      subst e
      rw [ih (fun z hz => ha z (List.mem_cons_of_mem _ hz)) (fun z hz => hb z (List.mem_cons_of_mem _ hz)) (by simpa using hl) (by omega)]

set_option maxRecDepth 10000 in
theorem r01SameZ (x y : Int) (hx : (digs x.natAbs).length ≤ 1099511627776) (hy : (digs y.natAbs).length ≤ 1099511627776) : Spec Try.prog 64 [encZ x, encZ y] (.b (decide (x = y))) := by
  refine spec_of (N := 26) follows_mixed Try.func64 rfl rfl rfl (by kernel_rfl) (by kernel_rfl) (by simp) ?_
  have l1 := r01less _ _ (lim_digs x.natAbs) (lim_digs y.natAbs) hx hy
  have l2 := r01less _ _ (lim_digs y.natAbs) (lim_digs x.natAbs) hy hx
  rw [lessL_digs] at l1 l2
  unfold encZ encI
  generalize digs x.natAbs = a at *
  generalize digs y.natAbs = b at *
  by_cases hs : decide (x < 0) = decide (y < 0)
  rotate_left
  · have h1 : (decide (x < 0) == decide (y < 0)) = false := by simpa using hs
    have h2 : ¬ x = y := fun e => hs (by rw [e])
    simp (config := { maxSteps := 1000000 }) [-List.map_map, -List.mapM_map, ↓awp_skip, ↓awp_regionB, ↓awp_seq, ↓awp_block, ↓awp_exit, ↓awp_ret, ↓awp_label, ↓awp_scope, ↓awp_condB, ↓awp_loopB, ↓ow_nil', ↓ow_cons0, ↓ow_cons1, ↓o1_move, ↓o1_assign, ↓o1_pick, ↓o1_alloc, ↓o1_box, ↓o1_build, ↓o1_buildSlice, ↓o1_makeSlice, ↓o1_makeMap, ↓o1_binOp, ↓o1_unOp, ↓o1_convert, ↓o1_fieldAddr, ↓o1_field, ↓o1_indexAddr, ↓o1_extract, ↓o1_slice, ↓o1_len, ↓o1_max, ↓o1_min, ↓o1_load, ↓o1_lookup, ↓o1_store, ↓o1_mapUpdate, ↓o1_append, ↓o1_delete, ↓o1_call, encM, h1, h2]
  · have h1 : (decide (x < 0) == decide (y < 0)) = true := by simpa using hs
    simp (config := { maxSteps := 1000000 }) [-List.map_map, -List.mapM_map, ↓awp_skip, ↓awp_regionB, ↓awp_seq, ↓awp_block, ↓awp_exit, ↓awp_ret, ↓awp_label, ↓awp_scope, ↓awp_condB, ↓awp_loopB, ↓ow_nil', ↓ow_cons0, ↓ow_cons1, ↓o1_move, ↓o1_assign, ↓o1_pick, ↓o1_alloc, ↓o1_box, ↓o1_build, ↓o1_buildSlice, ↓o1_makeSlice, ↓o1_makeMap, ↓o1_binOp, ↓o1_unOp, ↓o1_convert, ↓o1_fieldAddr, ↓o1_field, ↓o1_indexAddr, ↓o1_extract, ↓o1_slice, ↓o1_len, ↓o1_max, ↓o1_min, ↓o1_load, ↓o1_lookup, ↓o1_store, ↓o1_mapUpdate, ↓o1_append, ↓o1_delete, ↓o1_call, encM, h1]
    refine callP_intro (ds := [encM a, encM b]) (by rfl) l1 ?_
    by_cases h3 : x.natAbs < y.natAbs
    · have h2 : ¬ x = y := fun e => by rw [e] at h3; omega
      simp (config := { maxSteps := 1000000 }) [-List.map_map, -List.mapM_map, ↓awp_skip, ↓awp_regionB, ↓awp_seq, ↓awp_block, ↓awp_exit, ↓awp_ret, ↓awp_label, ↓awp_scope, ↓awp_condB, ↓awp_loopB, ↓ow_nil', ↓ow_cons0, ↓ow_cons1, ↓o1_move, ↓o1_assign, ↓o1_pick, ↓o1_alloc, ↓o1_box, ↓o1_build, ↓o1_buildSlice, ↓o1_makeSlice, ↓o1_makeMap, ↓o1_binOp, ↓o1_unOp, ↓o1_convert, ↓o1_fieldAddr, ↓o1_field, ↓o1_indexAddr, ↓o1_extract, ↓o1_slice, ↓o1_len, ↓o1_max, ↓o1_min, ↓o1_load, ↓o1_lookup, ↓o1_store, ↓o1_mapUpdate, ↓o1_append, ↓o1_delete, ↓o1_call, encM, h3, h2]
    · simp (config := { maxSteps := 1000000 }) [-List.map_map, -List.mapM_map, ↓awp_skip, ↓awp_regionB, ↓awp_seq, ↓awp_block, ↓awp_exit, ↓awp_ret, ↓awp_label, ↓awp_scope, ↓awp_condB, ↓awp_loopB, ↓ow_nil', ↓ow_cons0, ↓ow_cons1, ↓o1_move, ↓o1_assign, ↓o1_pick, ↓o1_alloc, ↓o1_box, ↓o1_build, ↓o1_buildSlice, ↓o1_makeSlice, ↓o1_makeMap, ↓o1_binOp, ↓o1_unOp, ↓o1_convert, ↓o1_fieldAddr, ↓o1_field, ↓o1_indexAddr, ↓o1_extract, ↓o1_slice, ↓o1_len, ↓o1_max, ↓o1_min, ↓o1_load, ↓o1_lookup, ↓o1_store, ↓o1_mapUpdate, ↓o1_append, ↓o1_delete, ↓o1_call, encM, h3]
      refine callP_intro (ds := [encM b, encM a]) (by rfl) l2 ?_
      simp (config := { maxSteps := 1000000 }) [-List.map_map, -List.mapM_map, ↓awp_skip, ↓awp_regionB, ↓awp_seq, ↓awp_block, ↓awp_exit, ↓awp_ret, ↓awp_label, ↓awp_scope, ↓awp_condB, ↓awp_loopB, ↓ow_nil', ↓ow_cons0, ↓ow_cons1, ↓o1_move, ↓o1_assign, ↓o1_pick, ↓o1_alloc, ↓o1_box, ↓o1_build, ↓o1_buildSlice, ↓o1_makeSlice, ↓o1_makeMap, ↓o1_binOp, ↓o1_unOp, ↓o1_convert, ↓o1_fieldAddr, ↓o1_field, ↓o1_indexAddr, ↓o1_extract, ↓o1_slice, ↓o1_len, ↓o1_max, ↓o1_min, ↓o1_load, ↓o1_lookup, ↓o1_store, ↓o1_mapUpdate, ↓o1_append, ↓o1_delete, ↓o1_call, encM]
      have hs' : x < 0 ↔ y < 0 := by simpa using hs
      rw [Bool.eq_iff_iff]
      simp
      omega

end Go.Am

open Go Go.Am Go.Proofs
namespace Go.Am
set_option linter.unusedSimpArgs false

/-- The sum after i limbs, and what is carried. -/
def plS (a b : List Nat) : Nat → List Nat × Nat
  | 0 => ([], 0)
  | i + 1 => ((plS a b i).1 ++ [((plS a b i).2 + a.getD i 0 + b.getD i 0) % 4294967296], ((plS a b i).2 + a.getD i 0 + b.getD i 0) / 4294967296)
theorem plS_inv {a b : List Nat} (ha : Lim a) (hb : Lim b) : ∀ i, (plS a b i).1.length = i ∧ (plS a b i).2 ≤ 1 ∧ Lim (plS a b i).1 ∧ val (plS a b i).1 + 4294967296 ^ i * (plS a b i).2 = val (a.take i) + val (b.take i)
  | 0 => ⟨rfl, Nat.zero_le _, .nil, by simp [plS, val]⟩
  | i + 1 => by
    obtain ⟨h1, h2, h3, h4⟩ := plS_inv ha hb i
    have ha' := ha.getD i
    have hb' := hb.getD i
    simp only [plS]
    generalize (plS a b i).1 = out at *
    generalize (plS a b i).2 = c at *
    refine ⟨by simp [h1], by omega, h3.app (.one (by omega)), ?_⟩
    rw [val_app, val_take_succ, val_take_succ, h1, Nat.pow_succ]
    simp only [val]
    have h5 : 4294967296 ^ i * ((c + a.getD i 0 + b.getD i 0) % 4294967296) + 4294967296 ^ i * 4294967296 * ((c + a.getD i 0 + b.getD i 0) / 4294967296) = 4294967296 ^ i * c + 4294967296 ^ i * a.getD i 0 + 4294967296 ^ i * b.getD i 0 := by
      rw [Nat.mul_assoc, ← Nat.mul_add, Nat.mod_add_div, Nat.mul_add, Nat.mul_add]
    simp only [Nat.mul_zero, Nat.add_zero]
    omega
/-- Where it ends. -/
def plN (a b : List Nat) : Nat := if (plS a b (max a.length b.length)).2 = 0 then max a.length b.length else max a.length b.length + 1
def plusR (a b : List Nat) : List Nat := (plS a b (plN a b)).1
theorem getD_none {l : List Nat} {i : Nat} (h : ¬ i < l.length) : l.getD i 0 = 0 := by rw [List.getD_eq_getElem?_getD, List.getElem?_eq_none (by omega)]; rfl
theorem plS_carry {a b : List Nat} (ha : Lim a) (hb : Lim b) {i : Nat} (h1 : a.length ≤ i) (h2 : b.length ≤ i) : (plS a b (i + 1)).2 = 0 := by
  have h := (plS_inv ha hb i).2.1
  show ((plS a b i).2 + a.getD i 0 + b.getD i 0) / 4294967296 = 0
  rw [getD_none (l := a) (by omega), getD_none (l := b) (by omega)]
  omega
theorem plS_done {a b : List Nat} (ha : Lim a) (hb : Lim b) {i : Nat} (h1 : a.length ≤ i) (h2 : b.length ≤ i) (hc : (plS a b i).2 = 0) : val (plS a b i).1 = val a + val b := by
  have h := (plS_inv ha hb i).2.2.2
  rw [List.take_of_length_le h1, List.take_of_length_le h2, hc, Nat.mul_zero, Nat.add_zero] at h
  exact h
theorem plusR_val {a b : List Nat} (ha : Lim a) (hb : Lim b) : val (plusR a b) = val a + val b ∧ Lim (plusR a b) ∧ (plusR a b).length ≤ max a.length b.length + 1 := by
  unfold plusR plN
  have h1 : a.length ≤ max a.length b.length := by omega
  have h2 : b.length ≤ max a.length b.length := by omega
  generalize max a.length b.length = M at *
  by_cases hc : (plS a b M).2 = 0
  · rw [if_pos hc]
    have h := plS_inv ha hb M
    exact ⟨plS_done ha hb h1 h2 hc, h.2.2.1, by rw [h.1]; omega⟩
  · rw [if_neg hc]
    have h := plS_inv ha hb (M + 1)
    exact ⟨plS_done ha hb (by omega) (by omega) (plS_carry ha hb h1 h2), h.2.2.1, by rw [h.1]; exact Nat.le_refl _⟩

theorem getD_some {l : List Nat} {i : Nat} (h : i < l.length) : l[i]? = some (l.getD i 0) := by rw [List.getD_eq_getElem?_getD, List.getElem?_eq_getElem h]; rfl

set_option maxRecDepth 10000 in
theorem r01plus (a b : List Nat) (ha : Lim a) (hb : Lim b) (hla : a.length ≤ 1099511627776) (hlb : b.length ≤ 1099511627776) : Spec Try.prog 80 [encM a, encM b] (encM (plusR a b)) := by
  refine spec_of (N := 55) follows_mixed Try.func80 rfl rfl rfl (by kernel_rfl) (by kernel_rfl) (by simp) ?_
  simp (config := { maxSteps := 1000000 }) [-List.map_map, -List.mapM_map, ↓awp_skip, ↓awp_regionB, ↓awp_seq, ↓awp_block, ↓awp_exit, ↓awp_ret, ↓awp_label, ↓awp_scope, ↓awp_condB, ↓awp_loopB, ↓ow_nil', ↓ow_cons0, ↓ow_cons1, ↓o1_move, ↓o1_assign, ↓o1_pick, ↓o1_alloc, ↓o1_box, ↓o1_build, ↓o1_buildSlice, ↓o1_makeSlice, ↓o1_makeMap, ↓o1_binOp, ↓o1_unOp, ↓o1_convert, ↓o1_fieldAddr, ↓o1_field, ↓o1_indexAddr, ↓o1_extract, ↓o1_slice, ↓o1_len, ↓o1_max, ↓o1_min, ↓o1_load, ↓o1_lookup, ↓o1_store, ↓o1_mapUpdate, ↓o1_append, ↓o1_delete, ↓o1_call, encM]
  refine loopP_inv (fun i : Nat => i ≤ max a.length b.length ∨ (i = max a.length b.length + 1 ∧ (plS a b (max a.length b.length)).2 ≠ 0))
    (fun i => StL [(0, .d (encM a)), (1, .d (encM b)), (5, .own 1 0 i 1), (6, .d (.i .u64 (plS a b i).2)), (7, .d (.i .i64 i))] none [.cells 104 ((lms (plS a b i).1).map .d)]) (fun i => max a.length b.length + 1 - i) 0 (.inl (Nat.zero_le _)) ?_ ?_
  · refine wk_l [1] (by simp) ?_ ?_ <;> simp [-List.map_map, upd, inj1, Γ0, encM, plS, lms]
  · intro i hi
    obtain ⟨hlen, hc, _, _⟩ := plS_inv ha hb i
    have hsucc : plS a b (i + 1) = ((plS a b i).1 ++ [((plS a b i).2 + a.getD i 0 + b.getD i 0) % 4294967296], ((plS a b i).2 + a.getD i 0 + b.getD i 0) / 4294967296) := rfl
    have hstop : (i < a.length ∨ i < b.length ∨ 0 < (plS a b i).2) ∨ i = plN a b := by
      unfold plN
      rcases hi with hi | ⟨hi, hc⟩
      · by_cases h1 : i = max a.length b.length
        · subst h1
          by_cases h2 : (plS a b (max a.length b.length)).2 = 0
          · rw [if_pos h2]; exact .inr rfl
          · exact .inl (.inr (.inr (by omega)))
        · exact .inl (by omega)
      · rw [if_neg hc]; exact .inr hi
    have hnext : (i < a.length ∨ i < b.length ∨ 0 < (plS a b i).2) → i ≤ max a.length b.length ∧ (i + 1 ≤ max a.length b.length ∨ (i + 1 = max a.length b.length + 1 ∧ (plS a b (max a.length b.length)).2 ≠ 0)) := by
      intro h
      rcases hi with hi | ⟨hi, hc2⟩
      · refine ⟨hi, ?_⟩
        by_cases h1 : i = max a.length b.length
        · subst h1; exact .inr ⟨rfl, by omega⟩
        · exact .inl (by omega)
      · exfalso
        have e : (plS a b i).2 = 0 := by
          rw [hi]; exact plS_carry ha hb (by omega) (by omega)
        omega
    have hal := ha.getD i
    have hbl := hb.getD i
    have hres : i = plN a b → (plS a b i).1 = plusR a b := fun e => by rw [e]; rfl
    generalize hout : (plS a b i).1 = out at *
    generalize hcar : (plS a b i).2 = c at *
    by_cases hgo : i < a.length ∨ i < b.length ∨ 0 < c
    · obtain ⟨hi1, hi2⟩ := hnext hgo
      have hb1 : (i + 1) * 4 ≤ 140737488355328 := by omega
      have hb2 : i + 1 ≤ maxLen := by unfold maxLen; omega
      have hw7 : IntKind.i64.wrap ((i : Int) + 1) = (i : Int) + 1 := wrap_i64 (by omega) (by omega)
      have hpos : (0 : Int) ≤ i := by omega
      obtain ⟨s1, hs1⟩ : ∃ s1 : Nat, c + a.getD i 0 = s1 := ⟨_, rfl⟩
      obtain ⟨s2, hs2⟩ : ∃ s2 : Nat, s1 + b.getD i 0 = s2 := ⟨_, rfl⟩
      rw [hs1, hs2] at hsucc
      have hw1 : IntKind.u64.wrap ((c : Int) + ((a.getD i 0 : Nat) : Int)) = s1 := by rw [wrap_u64 (by omega) (by omega)]; omega
      have hw2 : IntKind.u64.wrap ((s1 : Int) + ((b.getD i 0 : Nat) : Int)) = s2 := by rw [wrap_u64 (by omega) (by omega)]; omega
      have hwa : IntKind.u64.wrap ((a.getD i 0 : Nat) : Int) = ((a.getD i 0 : Nat) : Int) := wrap_u64 (by omega) (by omega)
      have hwb : IntKind.u64.wrap ((b.getD i 0 : Nat) : Int) = ((b.getD i 0 : Nat) : Int) := wrap_u64 (by omega) (by omega)
      obtain ⟨lo, hlo⟩ : ∃ lo : Nat, s2 % 4294967296 = lo := ⟨_, rfl⟩
      obtain ⟨hi', hhi⟩ : ∃ hi' : Nat, s2 / 4294967296 = hi' := ⟨_, rfl⟩
      have hw3 : IntKind.u32.wrap (s2 : Int) = lo := by rw [wrap_u32m]; omega
      have hw4 : IntKind.u64.wrap ((s2 : Int).tdiv 4294967296) = hi' := by
        rw [Int.tdiv_eq_ediv_of_nonneg (by omega), wrap_u64 (by omega) (by omega)]; omega
      have hw4' : IntKind.u64.wrap ((s2 : Int) / 4294967296) = hi' := by rw [wrap_u64 (by omega) (by omega)]; omega
      rw [hlo, hhi] at hsucc
      have hcase : (a.getD i 0 = 0 ∧ ¬ i < a.length) ∨ i < a.length := by
        by_cases h : i < a.length
        · exact .inr h
        · exact .inl ⟨getD_none h, h⟩
      have hcase2 : (b.getD i 0 = 0 ∧ ¬ i < b.length) ∨ i < b.length := by
        by_cases h : i < b.length
        · exact .inr h
        · exact .inl ⟨getD_none h, h⟩
      rcases hcase with ⟨ha0, han⟩ | han <;> rcases hcase2 with ⟨hb0, hbn⟩ | hbn
      · have q1 : ¬ (i : Int) < a.length := by omega
        have q2 : ¬ (i : Int) < b.length := by omega
        have q3 : 0 < c := by omega
        rw [ha0] at hs1; rw [hb0] at hs2
        have e2 : s2 = c := by omega
        rw [e2] at hw3 hw4 hw4'
        simp (config := { maxSteps := 1000000 }) [-List.map_map, -List.mapM_map, ↓awp_skip, ↓awp_regionB, ↓awp_seq, ↓awp_block, ↓awp_exit, ↓awp_ret, ↓awp_label, ↓awp_scope, ↓awp_condB, ↓awp_loopB, ↓ow_nil', ↓ow_cons0, ↓ow_cons1, ↓o1_move, ↓o1_assign, ↓o1_pick, ↓o1_alloc, ↓o1_box, ↓o1_build, ↓o1_buildSlice, ↓o1_makeSlice, ↓o1_makeMap, ↓o1_binOp, ↓o1_unOp, ↓o1_convert, ↓o1_fieldAddr, ↓o1_field, ↓o1_indexAddr, ↓o1_extract, ↓o1_slice, ↓o1_len, ↓o1_max, ↓o1_min, ↓o1_load, ↓o1_lookup, ↓o1_store, ↓o1_mapUpdate, ↓o1_append, ↓o1_delete, ↓o1_call, encM, q1, q2, q3, hw3, hw4, hw7, hb1, hb2, hlen]
        refine nxt_intro (i + 1) hi2 ?_ (wk_l [3] (by simp) ?_ ?_)
        · omega
        · simp [-List.map_map, upd, inj1, Γ0, encM, hsucc, lms_app, lms_one, hw4']
        · simp [-List.map_map, upd, inj1, Γ0, encM, hsucc, lms_app, lms_one]
      · have q1 : ¬ (i : Int) < a.length := by omega
        have q2 : (i : Int) < b.length := by omega
        rw [ha0] at hs1
        have e1 : s1 = c := by omega
        have g2 := getD_some hbn
        rw [e1] at hw2
        generalize b.getD i 0 = y at *
        simp (config := { maxSteps := 1000000 }) [-List.map_map, -List.mapM_map, ↓awp_skip, ↓awp_regionB, ↓awp_seq, ↓awp_block, ↓awp_exit, ↓awp_ret, ↓awp_label, ↓awp_scope, ↓awp_condB, ↓awp_loopB, ↓ow_nil', ↓ow_cons0, ↓ow_cons1, ↓o1_move, ↓o1_assign, ↓o1_pick, ↓o1_alloc, ↓o1_box, ↓o1_build, ↓o1_buildSlice, ↓o1_makeSlice, ↓o1_makeMap, ↓o1_binOp, ↓o1_unOp, ↓o1_convert, ↓o1_fieldAddr, ↓o1_field, ↓o1_indexAddr, ↓o1_extract, ↓o1_slice, ↓o1_len, ↓o1_max, ↓o1_min, ↓o1_load, ↓o1_lookup, ↓o1_store, ↓o1_mapUpdate, ↓o1_append, ↓o1_delete, ↓o1_call, encM, q1, q2, g2, hwb, hw2, hw3, hw4, hw7, hb1, hb2, hlen]
        refine nxt_intro (i + 1) hi2 ?_ (wk_l [3] (by simp) ?_ ?_)
        · omega
        · simp [-List.map_map, upd, inj1, Γ0, encM, hsucc, lms_app, lms_one, hw4']
        · simp [-List.map_map, upd, inj1, Γ0, encM, hsucc, lms_app, lms_one]
      · have q1 : (i : Int) < a.length := by omega
        have q2 : ¬ (i : Int) < b.length := by omega
        rw [hb0] at hs2
        have e2 : s2 = s1 := by omega
        have g1 := getD_some han
        rw [e2] at hw3 hw4 hw4'
        generalize a.getD i 0 = x at *
        simp (config := { maxSteps := 1000000 }) [-List.map_map, -List.mapM_map, ↓awp_skip, ↓awp_regionB, ↓awp_seq, ↓awp_block, ↓awp_exit, ↓awp_ret, ↓awp_label, ↓awp_scope, ↓awp_condB, ↓awp_loopB, ↓ow_nil', ↓ow_cons0, ↓ow_cons1, ↓o1_move, ↓o1_assign, ↓o1_pick, ↓o1_alloc, ↓o1_box, ↓o1_build, ↓o1_buildSlice, ↓o1_makeSlice, ↓o1_makeMap, ↓o1_binOp, ↓o1_unOp, ↓o1_convert, ↓o1_fieldAddr, ↓o1_field, ↓o1_indexAddr, ↓o1_extract, ↓o1_slice, ↓o1_len, ↓o1_max, ↓o1_min, ↓o1_load, ↓o1_lookup, ↓o1_store, ↓o1_mapUpdate, ↓o1_append, ↓o1_delete, ↓o1_call, encM, q1, q2, g1, hwa, hw1, hw3, hw4, hw7, hb1, hb2, hlen]
        refine nxt_intro (i + 1) hi2 ?_ (wk_l [3] (by simp) ?_ ?_)
        · omega
        · simp [-List.map_map, upd, inj1, Γ0, encM, hsucc, lms_app, lms_one, hw4']
        · simp [-List.map_map, upd, inj1, Γ0, encM, hsucc, lms_app, lms_one]
      · have q1 : (i : Int) < a.length := by omega
        have q2 : (i : Int) < b.length := by omega
        have g1 := getD_some han
        have g2 := getD_some hbn
        generalize a.getD i 0 = x at *
        generalize b.getD i 0 = y at *
        simp (config := { maxSteps := 1000000 }) [-List.map_map, -List.mapM_map, ↓awp_skip, ↓awp_regionB, ↓awp_seq, ↓awp_block, ↓awp_exit, ↓awp_ret, ↓awp_label, ↓awp_scope, ↓awp_condB, ↓awp_loopB, ↓ow_nil', ↓ow_cons0, ↓ow_cons1, ↓o1_move, ↓o1_assign, ↓o1_pick, ↓o1_alloc, ↓o1_box, ↓o1_build, ↓o1_buildSlice, ↓o1_makeSlice, ↓o1_makeMap, ↓o1_binOp, ↓o1_unOp, ↓o1_convert, ↓o1_fieldAddr, ↓o1_field, ↓o1_indexAddr, ↓o1_extract, ↓o1_slice, ↓o1_len, ↓o1_max, ↓o1_min, ↓o1_load, ↓o1_lookup, ↓o1_store, ↓o1_mapUpdate, ↓o1_append, ↓o1_delete, ↓o1_call, encM, q1, q2, g1, g2, hwa, hwb, hw1, hw2, hw3, hw4, hw7, hb1, hb2, hlen]
        refine nxt_intro (i + 1) hi2 ?_ (wk_l [3] (by simp) ?_ ?_)
        · omega
        · simp [-List.map_map, upd, inj1, Γ0, encM, hsucc, lms_app, lms_one, hw4']
        · simp [-List.map_map, upd, inj1, Γ0, encM, hsucc, lms_app, lms_one]
    · have e := hstop.resolve_left hgo
      have h1 : ¬ (i : Int) < a.length := by omega
      have h2 : ¬ (i : Int) < b.length := by omega
      have h3 : c = 0 := by omega
      have h4 := hres e
      subst h3
      simp (config := { maxSteps := 1000000 }) [-List.map_map, -List.mapM_map, ↓awp_skip, ↓awp_regionB, ↓awp_seq, ↓awp_block, ↓awp_exit, ↓awp_ret, ↓awp_label, ↓awp_scope, ↓awp_condB, ↓awp_loopB, ↓ow_nil', ↓ow_cons0, ↓ow_cons1, ↓o1_move, ↓o1_assign, ↓o1_pick, ↓o1_alloc, ↓o1_box, ↓o1_build, ↓o1_buildSlice, ↓o1_makeSlice, ↓o1_makeMap, ↓o1_binOp, ↓o1_unOp, ↓o1_convert, ↓o1_fieldAddr, ↓o1_field, ↓o1_indexAddr, ↓o1_extract, ↓o1_slice, ↓o1_len, ↓o1_max, ↓o1_min, ↓o1_load, ↓o1_lookup, ↓o1_store, ↓o1_mapUpdate, ↓o1_append, ↓o1_delete, ↓o1_call, encM, h1, h2, hlen, chunk_lms hlen, lms_take_all hlen, ← h4]

end Go.Am

open Go Go.Am Go.Proofs
namespace Go.Am
set_option linter.unusedSimpArgs false

/-- The difference after i limbs, and what is borrowed. -/
def miS (a b : List Nat) : Nat → List Nat × Nat
  | 0 => ([], 0)
  | i + 1 => if (miS a b i).2 + b.getD i 0 ≤ a.getD i 0 then ((miS a b i).1 ++ [a.getD i 0 - ((miS a b i).2 + b.getD i 0)], 0) else ((miS a b i).1 ++ [a.getD i 0 + 4294967296 - ((miS a b i).2 + b.getD i 0)], 1)
theorem mi_arith1 {p o vb va x y c z : Nat} (h4 : o + vb = va + p * c) (hx : x = z + (c + y)) : o + p * z + (vb + p * y) = va + p * x := by
  subst hx; rw [Nat.mul_add, Nat.mul_add]; omega
theorem mi_arith2 {p o vb va x y c z k : Nat} (h4 : o + vb = va + p * c) (hx : x + k = z + (c + y)) : o + p * z + (vb + p * y) = va + p * x + p * k := by
  have := mi_arith1 (p := p) (x := x + k) h4 hx
  rw [Nat.mul_add] at this; omega
theorem miS_pos {p va vb i : Nat} {out : List Nat} {c x y z : Nat} (hz : x = z + (c + y)) (hl : z < 4294967296) (h1 : out.length = i) (hp : 4294967296 ^ i = p) (h3 : Lim out) (h4 : val out + vb = va + p * c) :
    (out ++ [z]).length = i + 1 ∧ Lim (out ++ [z]) ∧ val (out ++ [z]) + (vb + p * y) = va + p * x := by
  refine ⟨by simp [h1], h3.app (.one hl), ?_⟩
  simp only [val_app, val, Nat.mul_zero, Nat.add_zero, h1, hp]
  exact mi_arith1 h4 hz
theorem miS_neg {p va vb i : Nat} {out : List Nat} {c x y z k : Nat} (hz : x + k = z + (c + y)) (hl : z < 4294967296) (h1 : out.length = i) (hp : 4294967296 ^ i = p) (h3 : Lim out) (h4 : val out + vb = va + p * c) :
    (out ++ [z]).length = i + 1 ∧ Lim (out ++ [z]) ∧ val (out ++ [z]) + (vb + p * y) = va + p * x + p * k := by
  refine ⟨by simp [h1], h3.app (.one hl), ?_⟩
  simp only [val_app, val, Nat.mul_zero, Nat.add_zero, h1, hp]
  exact mi_arith2 h4 hz
theorem miS_succ (a b : List Nat) (i : Nat) : miS a b (i + 1) = if (miS a b i).2 + b.getD i 0 ≤ a.getD i 0 then ((miS a b i).1 ++ [a.getD i 0 - ((miS a b i).2 + b.getD i 0)], 0) else ((miS a b i).1 ++ [a.getD i 0 + 4294967296 - ((miS a b i).2 + b.getD i 0)], 1) := rfl
theorem aux_mul0 {a b : Nat} (q : Nat) (h : a = b) : a = b + q * 0 := by rw [Nat.mul_zero, Nat.add_zero]; exact h
theorem aux_mul1 {a b : Nat} (q : Nat) (h : a = b + q) : a = b + q * 1 := by rw [Nat.mul_one]; exact h
theorem miS_inv {a b : List Nat} (ha : Lim a) (hb : Lim b) (i : Nat) : (miS a b i).1.length = i ∧ (miS a b i).2 ≤ 1 ∧ Lim (miS a b i).1 ∧ val (miS a b i).1 + val (b.take i) = val (a.take i) + 4294967296 ^ i * (miS a b i).2 := by
  induction i with
  | zero => exact ⟨rfl, Nat.zero_le _, .nil, by simp [miS, val]⟩
  | succ i ih =>
    obtain ⟨h1, h2, h3, h4⟩ := ih
    have hx := ha.getD i
    have hy := hb.getD i
    rw [val_take_succ, val_take_succ, Nat.pow_succ, miS_succ]
    generalize (miS a b i).1 = out at *
    generalize (miS a b i).2 = c at *
    generalize a.getD i 0 = x at *
    generalize b.getD i 0 = y at *
    generalize hp : 4294967296 ^ i = p at *
    by_cases h : c + y ≤ x
    · rw [if_pos h]
      obtain ⟨z, hz, hz'⟩ : ∃ z, x - (c + y) = z ∧ x = z + (c + y) := ⟨_, rfl, (Nat.sub_add_cancel h).symm⟩
      rw [hz]; clear hz
      obtain ⟨q1, q2, q3⟩ := miS_pos hz' (by omega) h1 hp h3 h4
      exact ⟨q1, Nat.zero_le _, q2, aux_mul0 _ q3⟩
    · rw [if_neg h]
      obtain ⟨z, hz, hz'⟩ : ∃ z, x + 4294967296 - (c + y) = z ∧ x + 4294967296 = z + (c + y) := ⟨_, rfl, (Nat.sub_add_cancel (by omega)).symm⟩
      rw [hz]; clear hz
      obtain ⟨q1, q2, q3⟩ := miS_neg hz' (by omega) h1 hp h3 h4
      exact ⟨q1, Nat.le_refl _, q2, aux_mul1 _ q3⟩
def minusR (a b : List Nat) : List Nat := (miS a b a.length).1
theorem minusR_val {a b : List Nat} (ha : Lim a) (hb : Lim b) (hl : b.length ≤ a.length) (hv : val b ≤ val a) : val (minusR a b) = val a - val b ∧ Lim (minusR a b) ∧ (minusR a b).length = a.length := by
  obtain ⟨h1, h2, h3, h4⟩ := miS_inv ha hb a.length
  rw [List.take_of_length_le hl, List.take_of_length_le (Nat.le_refl _)] at h4
  refine ⟨?_, h3, h1⟩
  have hlt := val_lt h3
  rw [h1] at hlt
  unfold minusR
  generalize (miS a b a.length).1 = out at *
  generalize (miS a b a.length).2 = c at *
  rcases Nat.lt_or_ge 0 c with hc | hc
  · have : c = 1 := by omega
    rw [this, Nat.mul_one] at h4; omega
  · have : c = 0 := by omega
    rw [this, Nat.mul_zero] at h4; omega

set_option maxRecDepth 10000 in
theorem r01minus (a b : List Nat) (ha : Lim a) (hb : Lim b) (hla : a.length ≤ 1099511627776) (_hlb : b.length ≤ 1099511627776) : Spec Try.prog 82 [encM a, encM b] (encM (minusR a b)) := by
  refine spec_of (N := 44) follows_mixed Try.func82 rfl rfl rfl (by kernel_rfl) (by kernel_rfl) (by simp) ?_
  simp (config := { maxSteps := 1000000 }) [-List.map_map, -List.mapM_map, ↓awp_skip, ↓awp_regionB, ↓awp_seq, ↓awp_block, ↓awp_exit, ↓awp_ret, ↓awp_label, ↓awp_scope, ↓awp_condB, ↓awp_loopB, ↓ow_nil', ↓ow_cons0, ↓ow_cons1, ↓o1_move, ↓o1_assign, ↓o1_pick, ↓o1_alloc, ↓o1_box, ↓o1_build, ↓o1_buildSlice, ↓o1_makeSlice, ↓o1_makeMap, ↓o1_binOp, ↓o1_unOp, ↓o1_convert, ↓o1_fieldAddr, ↓o1_field, ↓o1_indexAddr, ↓o1_extract, ↓o1_slice, ↓o1_len, ↓o1_max, ↓o1_min, ↓o1_load, ↓o1_lookup, ↓o1_store, ↓o1_mapUpdate, ↓o1_append, ↓o1_delete, ↓o1_call, encM]
  refine loopP_inv (fun i : Nat => i ≤ a.length)
    (fun i => StL [(0, .d (encM a)), (1, .d (encM b)), (5, .own 1 0 i 1), (6, .d (.i .i64 (miS a b i).2)), (7, .d (.i .i64 i))] none [.cells 104 ((lms (miS a b i).1).map .d)]) (fun i => a.length - i) 0 (Nat.zero_le _) ?_ ?_
  · refine wk_l [1] (by simp) ?_ ?_ <;> simp [-List.map_map, upd, inj1, Γ0, encM, miS, lms]
  · intro i hi
    obtain ⟨hlen, hc, _, _⟩ := miS_inv ha hb i
    have hsucc : miS a b (i + 1) = if (miS a b i).2 + b.getD i 0 ≤ a.getD i 0 then ((miS a b i).1 ++ [a.getD i 0 - ((miS a b i).2 + b.getD i 0)], 0) else ((miS a b i).1 ++ [a.getD i 0 + 4294967296 - ((miS a b i).2 + b.getD i 0)], 1) := rfl
    have hal := ha.getD i
    have hbl := hb.getD i
    have hres : i = a.length → (miS a b i).1 = minusR a b := fun e => by rw [e]; rfl
    generalize hout : (miS a b i).1 = out at *
    generalize hcar : (miS a b i).2 = c at *
    by_cases hgo : i < a.length
    · have hb1 : (i + 1) * 4 ≤ 140737488355328 := by omega
      have hb2 : i + 1 ≤ maxLen := by unfold maxLen; omega
      have hw7 : IntKind.i64.wrap ((i : Int) + 1) = (i : Int) + 1 := wrap_i64 (by omega) (by omega)
      have q1 : (i : Int) < a.length := by omega
      have g1 := getD_some hgo
      have hb0 : ¬ i < b.length → b.getD i 0 = 0 := getD_none
      have g2 : i < b.length → b[i]? = some (b.getD i 0) := getD_some
      generalize a.getD i 0 = x at *
      generalize b.getD i 0 = y at *
      have hwx : IntKind.i64.wrap (x : Int) = x := wrap_i64 (by omega) (by omega)
      have hwy : IntKind.i64.wrap (y : Int) = y := wrap_i64 (by omega) (by omega)
      obtain ⟨d1, hd1⟩ : ∃ d1 : Int, (x : Int) - c = d1 := ⟨_, rfl⟩
      obtain ⟨d, hd⟩ : ∃ d : Int, d1 - y = d := ⟨_, rfl⟩
      have hw1 : IntKind.i64.wrap ((x : Int) - c) = d1 := by rw [wrap_i64 (by omega) (by omega)]; exact hd1
      have hw2 : IntKind.i64.wrap (d1 - y) = d := by rw [wrap_i64 (by omega) (by omega)]; exact hd
      by_cases hneg : d < 0
      · rw [if_neg (by omega)] at hsucc
        obtain ⟨lo, hlo⟩ : ∃ lo : Nat, x + 4294967296 - (c + y) = lo := ⟨_, rfl⟩
        rw [hlo] at hsucc
        have hw3 : IntKind.i64.wrap (d + 4294967296) = lo := by rw [wrap_i64 (by omega) (by omega)]; omega
        have hw4 : IntKind.u32.wrap (lo : Int) = lo := wrap_u32 (by omega) (by omega)
        by_cases hbn : i < b.length
        · have q2 : (i : Int) < b.length := by omega
          have g3 := g2 hbn
          simp (config := { maxSteps := 1000000 }) [-List.map_map, -List.mapM_map, ↓awp_skip, ↓awp_regionB, ↓awp_seq, ↓awp_block, ↓awp_exit, ↓awp_ret, ↓awp_label, ↓awp_scope, ↓awp_condB, ↓awp_loopB, ↓ow_nil', ↓ow_cons0, ↓ow_cons1, ↓o1_move, ↓o1_assign, ↓o1_pick, ↓o1_alloc, ↓o1_box, ↓o1_build, ↓o1_buildSlice, ↓o1_makeSlice, ↓o1_makeMap, ↓o1_binOp, ↓o1_unOp, ↓o1_convert, ↓o1_fieldAddr, ↓o1_field, ↓o1_indexAddr, ↓o1_extract, ↓o1_slice, ↓o1_len, ↓o1_max, ↓o1_min, ↓o1_load, ↓o1_lookup, ↓o1_store, ↓o1_mapUpdate, ↓o1_append, ↓o1_delete, ↓o1_call, encM, q1, q2, g1, g3, hwx, hwy, hw1, hw2, hw3, hw4, hneg, hw7, hb1, hb2, hlen]
          refine nxt_intro (i + 1) hgo ?_ (wk_l [3] (by simp) ?_ ?_)
          · omega
          · simp [-List.map_map, upd, inj1, Γ0, encM, hsucc, lms_app, lms_one]
          · simp [-List.map_map, upd, inj1, Γ0, encM, hsucc, lms_app, lms_one]
        · have q2 : ¬ (i : Int) < b.length := by omega
          have e1 : d1 = d := by have := hb0 hbn; omega
          rw [e1] at hw1
          simp (config := { maxSteps := 1000000 }) [-List.map_map, -List.mapM_map, ↓awp_skip, ↓awp_regionB, ↓awp_seq, ↓awp_block, ↓awp_exit, ↓awp_ret, ↓awp_label, ↓awp_scope, ↓awp_condB, ↓awp_loopB, ↓ow_nil', ↓ow_cons0, ↓ow_cons1, ↓o1_move, ↓o1_assign, ↓o1_pick, ↓o1_alloc, ↓o1_box, ↓o1_build, ↓o1_buildSlice, ↓o1_makeSlice, ↓o1_makeMap, ↓o1_binOp, ↓o1_unOp, ↓o1_convert, ↓o1_fieldAddr, ↓o1_field, ↓o1_indexAddr, ↓o1_extract, ↓o1_slice, ↓o1_len, ↓o1_max, ↓o1_min, ↓o1_load, ↓o1_lookup, ↓o1_store, ↓o1_mapUpdate, ↓o1_append, ↓o1_delete, ↓o1_call, encM, q1, q2, g1, hwx, hw1, hw3, hw4, hneg, hw7, hb1, hb2, hlen]
          refine nxt_intro (i + 1) hgo ?_ (wk_l [3] (by simp) ?_ ?_)
          · omega
          · simp [-List.map_map, upd, inj1, Γ0, encM, hsucc, lms_app, lms_one]
          · simp [-List.map_map, upd, inj1, Γ0, encM, hsucc, lms_app, lms_one]
      · rw [if_pos (by omega)] at hsucc
        obtain ⟨lo, hlo⟩ : ∃ lo : Nat, x - (c + y) = lo := ⟨_, rfl⟩
        rw [hlo] at hsucc
        have e0 : d = lo := by omega
        rw [e0] at hw2 hneg
        have hw4 : IntKind.u32.wrap (lo : Int) = lo := wrap_u32 (by omega) (by omega)
        by_cases hbn : i < b.length
        · have q2 : (i : Int) < b.length := by omega
          have g3 := g2 hbn
          simp (config := { maxSteps := 1000000 }) [-List.map_map, -List.mapM_map, ↓awp_skip, ↓awp_regionB, ↓awp_seq, ↓awp_block, ↓awp_exit, ↓awp_ret, ↓awp_label, ↓awp_scope, ↓awp_condB, ↓awp_loopB, ↓ow_nil', ↓ow_cons0, ↓ow_cons1, ↓o1_move, ↓o1_assign, ↓o1_pick, ↓o1_alloc, ↓o1_box, ↓o1_build, ↓o1_buildSlice, ↓o1_makeSlice, ↓o1_makeMap, ↓o1_binOp, ↓o1_unOp, ↓o1_convert, ↓o1_fieldAddr, ↓o1_field, ↓o1_indexAddr, ↓o1_extract, ↓o1_slice, ↓o1_len, ↓o1_max, ↓o1_min, ↓o1_load, ↓o1_lookup, ↓o1_store, ↓o1_mapUpdate, ↓o1_append, ↓o1_delete, ↓o1_call, encM, q1, q2, g1, g3, hwx, hwy, hw1, hw2, hw4, hneg, hw7, hb1, hb2, hlen]
          refine nxt_intro (i + 1) hgo ?_ (wk_l [3] (by simp) ?_ ?_)
          · omega
          · simp [-List.map_map, upd, inj1, Γ0, encM, hsucc, lms_app, lms_one]
          · simp [-List.map_map, upd, inj1, Γ0, encM, hsucc, lms_app, lms_one]
        · have q2 : ¬ (i : Int) < b.length := by omega
          have e1 : d1 = lo := by have := hb0 hbn; omega
          rw [e1] at hw1
          simp (config := { maxSteps := 1000000 }) [-List.map_map, -List.mapM_map, ↓awp_skip, ↓awp_regionB, ↓awp_seq, ↓awp_block, ↓awp_exit, ↓awp_ret, ↓awp_label, ↓awp_scope, ↓awp_condB, ↓awp_loopB, ↓ow_nil', ↓ow_cons0, ↓ow_cons1, ↓o1_move, ↓o1_assign, ↓o1_pick, ↓o1_alloc, ↓o1_box, ↓o1_build, ↓o1_buildSlice, ↓o1_makeSlice, ↓o1_makeMap, ↓o1_binOp, ↓o1_unOp, ↓o1_convert, ↓o1_fieldAddr, ↓o1_field, ↓o1_indexAddr, ↓o1_extract, ↓o1_slice, ↓o1_len, ↓o1_max, ↓o1_min, ↓o1_load, ↓o1_lookup, ↓o1_store, ↓o1_mapUpdate, ↓o1_append, ↓o1_delete, ↓o1_call, encM, q1, q2, g1, hwx, hw1, hw4, hneg, hw7, hb1, hb2, hlen]
          refine nxt_intro (i + 1) hgo ?_ (wk_l [3] (by simp) ?_ ?_)
          · omega
          · simp [-List.map_map, upd, inj1, Γ0, encM, hsucc, lms_app, lms_one]
          · simp [-List.map_map, upd, inj1, Γ0, encM, hsucc, lms_app, lms_one]
    · have e : i = a.length := by omega
      have h1 : ¬ (i : Int) < a.length := by omega
      have h4 := hres e
      simp (config := { maxSteps := 1000000 }) [-List.map_map, -List.mapM_map, ↓awp_skip, ↓awp_regionB, ↓awp_seq, ↓awp_block, ↓awp_exit, ↓awp_ret, ↓awp_label, ↓awp_scope, ↓awp_condB, ↓awp_loopB, ↓ow_nil', ↓ow_cons0, ↓ow_cons1, ↓o1_move, ↓o1_assign, ↓o1_pick, ↓o1_alloc, ↓o1_box, ↓o1_build, ↓o1_buildSlice, ↓o1_makeSlice, ↓o1_makeMap, ↓o1_binOp, ↓o1_unOp, ↓o1_convert, ↓o1_fieldAddr, ↓o1_field, ↓o1_indexAddr, ↓o1_extract, ↓o1_slice, ↓o1_len, ↓o1_max, ↓o1_min, ↓o1_load, ↓o1_lookup, ↓o1_store, ↓o1_mapUpdate, ↓o1_append, ↓o1_delete, ↓o1_call, encM, h1, hlen, chunk_lms hlen, lms_take_all hlen, ← h4]

/-- Numbers small enough to be laid out. -/
def Sm (z : Int) : Prop := (digs z.natAbs).length ≤ 1099511627776

set_option maxRecDepth 10000 in
theorem r01AddZ (x y : Int) (hx : (digs x.natAbs).length ≤ 549755813888) (hy : (digs y.natAbs).length ≤ 549755813888) : Spec Try.prog 32 [encZ x, encZ y] (encZ (x + y)) := by
  refine spec_of (N := 39) follows_mixed Try.func32 rfl rfl rfl (by kernel_rfl) (by kernel_rfl) (by simp) ?_
  have la := lim_digs x.natAbs
  have lb := lim_digs y.natAbs
  have va := val_digs x.natAbs
  have vb := val_digs y.natAbs
  have hless : (digs x.natAbs).length < (digs y.natAbs).length → x.natAbs < y.natAbs := lt_of_len_lt
  have hless2 : (digs y.natAbs).length < (digs x.natAbs).length → y.natAbs < x.natAbs := lt_of_len_lt
  have hl := r01less _ _ la lb (by omega) (by omega)
  rw [lessL_digs] at hl
  have sx := sg_natAbs x
  have sy := sg_natAbs y
  have ex : encZ x = .ag [.b (decide (x < 0)), encM (digs x.natAbs)] := rfl
  have ey : encZ y = .ag [.b (decide (y < 0)), encM (digs y.natAbs)] := rfl
  rw [ex, ey]
  generalize digs x.natAbs = a at *
  generalize digs y.natAbs = b at *
  generalize hbx : decide (x < 0) = nx at *
  generalize hby : decide (y < 0) = ny at *
  by_cases hn : nx = ny
  · have h1 : (nx == ny) = true := by simpa using hn
    simp (config := { maxSteps := 1000000 }) [-List.map_map, -List.mapM_map, ↓awp_skip, ↓awp_regionB, ↓awp_seq, ↓awp_block, ↓awp_exit, ↓awp_ret, ↓awp_label, ↓awp_scope, ↓awp_condB, ↓awp_loopB, ↓ow_nil', ↓ow_cons0, ↓ow_cons1, ↓o1_move, ↓o1_assign, ↓o1_pick, ↓o1_alloc, ↓o1_box, ↓o1_build, ↓o1_buildSlice, ↓o1_makeSlice, ↓o1_makeMap, ↓o1_binOp, ↓o1_unOp, ↓o1_convert, ↓o1_fieldAddr, ↓o1_field, ↓o1_indexAddr, ↓o1_extract, ↓o1_slice, ↓o1_len, ↓o1_max, ↓o1_min, ↓o1_load, ↓o1_lookup, ↓o1_store, ↓o1_mapUpdate, ↓o1_append, ↓o1_delete, ↓o1_call, encM, h1]
    obtain ⟨pv, pl, pn⟩ := plusR_val la lb
    refine callP_intro (ds := [encM a, encM b]) (by rfl) (r01plus a b la lb (by omega) (by omega)) ?_
    simp (config := { maxSteps := 1000000 }) [-List.map_map, -List.mapM_map, ↓awp_skip, ↓awp_regionB, ↓awp_seq, ↓awp_block, ↓awp_exit, ↓awp_ret, ↓awp_label, ↓awp_scope, ↓awp_condB, ↓awp_loopB, ↓ow_nil', ↓ow_cons0, ↓ow_cons1, ↓o1_move, ↓o1_assign, ↓o1_pick, ↓o1_alloc, ↓o1_box, ↓o1_build, ↓o1_buildSlice, ↓o1_makeSlice, ↓o1_makeMap, ↓o1_binOp, ↓o1_unOp, ↓o1_convert, ↓o1_fieldAddr, ↓o1_field, ↓o1_indexAddr, ↓o1_extract, ↓o1_slice, ↓o1_len, ↓o1_max, ↓o1_min, ↓o1_load, ↓o1_lookup, ↓o1_store, ↓o1_mapUpdate, ↓o1_append, ↓o1_delete, ↓o1_call, encM]
    have hm := r01Made (plusR a b) nx (by omega)
    rw [made_encZ pl, pv, va, vb] at hm
    refine callP_intro (ds := [encM (plusR a b), .b nx]) (by rfl) hm ?_
    have e : sg nx (x.natAbs + y.natAbs) = x + y := by
      rw [← sx, ← sy, ← hn]; cases nx <;> simp [sg] <;> omega
    rw [e]
    simp (config := { maxSteps := 1000000 }) [-List.map_map, -List.mapM_map, ↓awp_skip, ↓awp_regionB, ↓awp_seq, ↓awp_block, ↓awp_exit, ↓awp_ret, ↓awp_label, ↓awp_scope, ↓awp_condB, ↓awp_loopB, ↓ow_nil', ↓ow_cons0, ↓ow_cons1, ↓o1_move, ↓o1_assign, ↓o1_pick, ↓o1_alloc, ↓o1_box, ↓o1_build, ↓o1_buildSlice, ↓o1_makeSlice, ↓o1_makeMap, ↓o1_binOp, ↓o1_unOp, ↓o1_convert, ↓o1_fieldAddr, ↓o1_field, ↓o1_indexAddr, ↓o1_extract, ↓o1_slice, ↓o1_len, ↓o1_max, ↓o1_min, ↓o1_load, ↓o1_lookup, ↓o1_store, ↓o1_mapUpdate, ↓o1_append, ↓o1_delete, ↓o1_call, encM, encZ, encI]
  · have h1 : (nx == ny) = false := by simpa using hn
    simp (config := { maxSteps := 1000000 }) [-List.map_map, -List.mapM_map, ↓awp_skip, ↓awp_regionB, ↓awp_seq, ↓awp_block, ↓awp_exit, ↓awp_ret, ↓awp_label, ↓awp_scope, ↓awp_condB, ↓awp_loopB, ↓ow_nil', ↓ow_cons0, ↓ow_cons1, ↓o1_move, ↓o1_assign, ↓o1_pick, ↓o1_alloc, ↓o1_box, ↓o1_build, ↓o1_buildSlice, ↓o1_makeSlice, ↓o1_makeMap, ↓o1_binOp, ↓o1_unOp, ↓o1_convert, ↓o1_fieldAddr, ↓o1_field, ↓o1_indexAddr, ↓o1_extract, ↓o1_slice, ↓o1_len, ↓o1_max, ↓o1_min, ↓o1_load, ↓o1_lookup, ↓o1_store, ↓o1_mapUpdate, ↓o1_append, ↓o1_delete, ↓o1_call, encM, h1]
    refine callP_intro (ds := [encM a, encM b]) (by rfl) hl ?_
    by_cases hlt : x.natAbs < y.natAbs
    · simp (config := { maxSteps := 1000000 }) [-List.map_map, -List.mapM_map, ↓awp_skip, ↓awp_regionB, ↓awp_seq, ↓awp_block, ↓awp_exit, ↓awp_ret, ↓awp_label, ↓awp_scope, ↓awp_condB, ↓awp_loopB, ↓ow_nil', ↓ow_cons0, ↓ow_cons1, ↓o1_move, ↓o1_assign, ↓o1_pick, ↓o1_alloc, ↓o1_box, ↓o1_build, ↓o1_buildSlice, ↓o1_makeSlice, ↓o1_makeMap, ↓o1_binOp, ↓o1_unOp, ↓o1_convert, ↓o1_fieldAddr, ↓o1_field, ↓o1_indexAddr, ↓o1_extract, ↓o1_slice, ↓o1_len, ↓o1_max, ↓o1_min, ↓o1_load, ↓o1_lookup, ↓o1_store, ↓o1_mapUpdate, ↓o1_append, ↓o1_delete, ↓o1_call, encM, hlt]
      obtain ⟨pv, pl, pn⟩ := minusR_val lb la (by omega) (by omega)
      refine callP_intro (ds := [encM b, encM a]) (by rfl) (r01minus b a lb la (by omega) (by omega)) ?_
      simp (config := { maxSteps := 1000000 }) [-List.map_map, -List.mapM_map, ↓awp_skip, ↓awp_regionB, ↓awp_seq, ↓awp_block, ↓awp_exit, ↓awp_ret, ↓awp_label, ↓awp_scope, ↓awp_condB, ↓awp_loopB, ↓ow_nil', ↓ow_cons0, ↓ow_cons1, ↓o1_move, ↓o1_assign, ↓o1_pick, ↓o1_alloc, ↓o1_box, ↓o1_build, ↓o1_buildSlice, ↓o1_makeSlice, ↓o1_makeMap, ↓o1_binOp, ↓o1_unOp, ↓o1_convert, ↓o1_fieldAddr, ↓o1_field, ↓o1_indexAddr, ↓o1_extract, ↓o1_slice, ↓o1_len, ↓o1_max, ↓o1_min, ↓o1_load, ↓o1_lookup, ↓o1_store, ↓o1_mapUpdate, ↓o1_append, ↓o1_delete, ↓o1_call, encM]
      have hm := r01Made (minusR b a) ny (by omega)
      rw [made_encZ pl, pv, va, vb] at hm
      refine callP_intro (ds := [encM (minusR b a), .b ny]) (by rfl) hm ?_
      have e : sg ny (y.natAbs - x.natAbs) = x + y := by
        rw [← sx, ← sy]
        cases nx <;> cases ny <;> simp [sg] at hn ⊢ <;> omega
      rw [e]
      simp (config := { maxSteps := 1000000 }) [-List.map_map, -List.mapM_map, ↓awp_skip, ↓awp_regionB, ↓awp_seq, ↓awp_block, ↓awp_exit, ↓awp_ret, ↓awp_label, ↓awp_scope, ↓awp_condB, ↓awp_loopB, ↓ow_nil', ↓ow_cons0, ↓ow_cons1, ↓o1_move, ↓o1_assign, ↓o1_pick, ↓o1_alloc, ↓o1_box, ↓o1_build, ↓o1_buildSlice, ↓o1_makeSlice, ↓o1_makeMap, ↓o1_binOp, ↓o1_unOp, ↓o1_convert, ↓o1_fieldAddr, ↓o1_field, ↓o1_indexAddr, ↓o1_extract, ↓o1_slice, ↓o1_len, ↓o1_max, ↓o1_min, ↓o1_load, ↓o1_lookup, ↓o1_store, ↓o1_mapUpdate, ↓o1_append, ↓o1_delete, ↓o1_call, encM, encZ, encI]
    · simp (config := { maxSteps := 1000000 }) [-List.map_map, -List.mapM_map, ↓awp_skip, ↓awp_regionB, ↓awp_seq, ↓awp_block, ↓awp_exit, ↓awp_ret, ↓awp_label, ↓awp_scope, ↓awp_condB, ↓awp_loopB, ↓ow_nil', ↓ow_cons0, ↓ow_cons1, ↓o1_move, ↓o1_assign, ↓o1_pick, ↓o1_alloc, ↓o1_box, ↓o1_build, ↓o1_buildSlice, ↓o1_makeSlice, ↓o1_makeMap, ↓o1_binOp, ↓o1_unOp, ↓o1_convert, ↓o1_fieldAddr, ↓o1_field, ↓o1_indexAddr, ↓o1_extract, ↓o1_slice, ↓o1_len, ↓o1_max, ↓o1_min, ↓o1_load, ↓o1_lookup, ↓o1_store, ↓o1_mapUpdate, ↓o1_append, ↓o1_delete, ↓o1_call, encM, hlt]
      obtain ⟨pv, pl, pn⟩ := minusR_val la lb (by omega) (by omega)
      refine callP_intro (ds := [encM a, encM b]) (by rfl) (r01minus a b la lb (by omega) (by omega)) ?_
      simp (config := { maxSteps := 1000000 }) [-List.map_map, -List.mapM_map, ↓awp_skip, ↓awp_regionB, ↓awp_seq, ↓awp_block, ↓awp_exit, ↓awp_ret, ↓awp_label, ↓awp_scope, ↓awp_condB, ↓awp_loopB, ↓ow_nil', ↓ow_cons0, ↓ow_cons1, ↓o1_move, ↓o1_assign, ↓o1_pick, ↓o1_alloc, ↓o1_box, ↓o1_build, ↓o1_buildSlice, ↓o1_makeSlice, ↓o1_makeMap, ↓o1_binOp, ↓o1_unOp, ↓o1_convert, ↓o1_fieldAddr, ↓o1_field, ↓o1_indexAddr, ↓o1_extract, ↓o1_slice, ↓o1_len, ↓o1_max, ↓o1_min, ↓o1_load, ↓o1_lookup, ↓o1_store, ↓o1_mapUpdate, ↓o1_append, ↓o1_delete, ↓o1_call, encM]
      have hm := r01Made (minusR a b) nx (by omega)
      rw [made_encZ pl, pv, va, vb] at hm
      refine callP_intro (ds := [encM (minusR a b), .b nx]) (by rfl) hm ?_
      have e : sg nx (x.natAbs - y.natAbs) = x + y := by
        rw [← sx, ← sy]
        cases nx <;> cases ny <;> simp [sg] at hn ⊢ <;> omega
      rw [e]
      simp (config := { maxSteps := 1000000 }) [-List.map_map, -List.mapM_map, ↓awp_skip, ↓awp_regionB, ↓awp_seq, ↓awp_block, ↓awp_exit, ↓awp_ret, ↓awp_label, ↓awp_scope, ↓awp_condB, ↓awp_loopB, ↓ow_nil', ↓ow_cons0, ↓ow_cons1, ↓o1_move, ↓o1_assign, ↓o1_pick, ↓o1_alloc, ↓o1_box, ↓o1_build, ↓o1_buildSlice, ↓o1_makeSlice, ↓o1_makeMap, ↓o1_binOp, ↓o1_unOp, ↓o1_convert, ↓o1_fieldAddr, ↓o1_field, ↓o1_indexAddr, ↓o1_extract, ↓o1_slice, ↓o1_len, ↓o1_max, ↓o1_min, ↓o1_load, ↓o1_lookup, ↓o1_store, ↓o1_mapUpdate, ↓o1_append, ↓o1_delete, ↓o1_call, encM, encZ, encI]

end Go.Am

open Go Go.Am Go.Proofs
namespace Go.Am
set_option linter.unusedSimpArgs false

theorem val_set {l : List Nat} {j : Nat} (h : j < l.length) (v : Nat) : val (l.set j v) + 4294967296 ^ j * l.getD j 0 = val l + 4294967296 ^ j * v := by
  induction l generalizing j with
  | nil => simp at h
  | cons x l ih =>
    cases j with
    | zero => simp only [List.set_cons_zero, val, Nat.pow_zero, Nat.one_mul, List.getD_cons_zero]; omega
    | succ j =>
      have := ih (j := j) (by simpa using h)
      simp only [List.set_cons_succ, val, List.getD_cons_succ, Nat.pow_succ]
      generalize 4294967296 ^ j = p at *
      generalize l.getD j 0 = o at *
      generalize val (l.set j v) = w at *
      rw [Nat.mul_comm p, Nat.mul_assoc, Nat.mul_assoc]
      generalize p * o = e1 at *
      generalize p * v = e2 at *
      omega

/-- One limb's product laid in: k limbs. -/
def muI (out : List Nat) (x : Nat) (b : List Nat) (i : Nat) : Nat → List Nat × Nat
  | 0 => (out, 0)
  | k + 1 => ((muI out x b i k).1.set (i + k) (((muI out x b i k).2 + (muI out x b i k).1.getD (i + k) 0 + x * b.getD k 0) % 4294967296), ((muI out x b i k).2 + (muI out x b i k).1.getD (i + k) 0 + x * b.getD k 0) / 4294967296)
def muN (out : List Nat) (x : Nat) (b : List Nat) (i : Nat) : Nat := if (muI out x b i b.length).2 = 0 then b.length else b.length + 1
def muO (a b : List Nat) : Nat → List Nat
  | 0 => List.replicate (a.length + b.length + 1) 0
  | i + 1 => (muI (muO a b i) (a.getD i 0) b i (muN (muO a b i) (a.getD i 0) b i)).1

theorem mu_arith {P v v' o c t q r e w k : Nat} (hs : v' + P * o = v + P * r) (ht : r + k * q = t) (ht2 : c + o + e = t) (hv : v + P * c = w) : v' + P * k * q = w + P * e := by
  have h1 : P * t = P * r + P * (k * q) := by rw [← ht, Nat.mul_add]
  have h2 : P * t = P * c + P * o + P * e := by rw [← ht2, Nat.mul_add, Nat.mul_add]
  rw [Nat.mul_assoc]
  omega
theorem mu_lim {c o x y : Nat} (hc : c < 4294967296) (ho : o < 4294967296) (hx : x < 4294967296) (hy : y < 4294967296) : c + o + x * y < 18446744073709551616 := by
  have : x * y ≤ 4294967295 * 4294967295 := Nat.mul_le_mul (by omega) (by omega)
  omega
theorem muI_inv {out b : List Nat} {x i : Nat} (ho : Lim out) (hb : Lim b) (hx : x < 4294967296) (hl : i + b.length < out.length) (k : Nat) (hk : k ≤ b.length + 1) :
    (muI out x b i k).1.length = out.length ∧ (muI out x b i k).2 < 4294967296 ∧ Lim (muI out x b i k).1 ∧ val (muI out x b i k).1 + 4294967296 ^ (i + k) * (muI out x b i k).2 = val out + 4294967296 ^ i * (x * val (b.take k)) := by
  induction k with
  | zero => exact ⟨rfl, Nat.zero_lt_of_lt hx, ho, by simp [muI, val]⟩
  | succ k ih =>
    obtain ⟨h1, h2, h3, h4⟩ := ih (by omega)
    have hy := hb.getD k
    have hoo := h3.getD (i + k)
    have hset := val_set (l := (muI out x b i k).1) (j := i + k) (by omega) (((muI out x b i k).2 + (muI out x b i k).1.getD (i + k) 0 + x * b.getD k 0) % 4294967296)
    have hlim := mu_lim h2 hoo hx hy
    rw [val_take_succ]
    simp only [muI]
    generalize (muI out x b i k).1 = out' at *
    generalize (muI out x b i k).2 = c at *
    generalize out'.getD (i + k) 0 = o at *
    generalize b.getD k 0 = y at *
    refine ⟨by simp [h1], by omega, h3.set _ (by omega), ?_⟩
    have := mu_arith hset (Nat.mod_add_div _ _) rfl h4
    rw [← Nat.add_assoc i k 1, Nat.pow_succ, this, Nat.pow_add, Nat.mul_add, Nat.mul_add, Nat.mul_assoc, Nat.add_assoc]
    congr 2
    rw [Nat.mul_left_comm x]
theorem muI_stop {out b : List Nat} {x i : Nat} (ho : Lim out) (hb : Lim b) (hx : x < 4294967296) (hl : i + b.length < out.length) (hv : val out < 4294967296 ^ (i + b.length)) : (muI out x b i (b.length + 1)).2 = 0 := by
  obtain ⟨_, _, _, h4⟩ := muI_inv ho hb hx hl (b.length + 1) (Nat.le_refl _)
  rw [List.take_of_length_le (by omega)] at h4
  have hbv := val_lt hb
  rcases Nat.eq_zero_or_pos (muI out x b i (b.length + 1)).2 with h | h
  · exact h
  exfalso
  have e1 : 4294967296 ^ (i + (b.length + 1)) * 1 ≤ 4294967296 ^ (i + (b.length + 1)) * (muI out x b i (b.length + 1)).2 := Nat.mul_le_mul_left _ h
  have e2 : x * val b ≤ 4294967295 * 4294967296 ^ b.length := Nat.mul_le_mul (by omega) (by omega)
  have e3 : 4294967296 ^ i * (x * val b) ≤ 4294967296 ^ i * (4294967295 * 4294967296 ^ b.length) := Nat.mul_le_mul_left _ e2
  have e4 : 4294967296 ^ i * (4294967295 * 4294967296 ^ b.length) = 4294967295 * 4294967296 ^ (i + b.length) := by rw [Nat.pow_add, Nat.mul_left_comm]
  have e5 : 4294967296 ^ (i + (b.length + 1)) = 4294967296 ^ (i + b.length) * 4294967296 := by rw [← Nat.add_assoc, Nat.pow_succ]
  rw [Nat.mul_one, e5] at e1
  rw [e5] at h4
  rw [e4] at e3
  generalize 4294967296 ^ (i + b.length) = p at *
  generalize 4294967296 ^ i * (x * val b) = q at *
  generalize (muI out x b i (b.length + 1)).2 = c at *
  generalize p * 4294967296 * c = d at *
  omega
theorem muN_val {out b : List Nat} {x i : Nat} (ho : Lim out) (hb : Lim b) (hx : x < 4294967296) (hl : i + b.length < out.length) (hv : val out < 4294967296 ^ (i + b.length)) :
    (muI out x b i (muN out x b i)).1.length = out.length ∧ Lim (muI out x b i (muN out x b i)).1 ∧ val (muI out x b i (muN out x b i)).1 = val out + 4294967296 ^ i * (x * val b) := by
  unfold muN
  have hstop := muI_stop ho hb hx hl hv
  by_cases h : (muI out x b i b.length).2 = 0
  · rw [if_pos h]
    obtain ⟨h1, _, h3, h4⟩ := muI_inv ho hb hx hl b.length (by omega)
    rw [List.take_of_length_le (by omega), h, Nat.mul_zero, Nat.add_zero] at h4
    exact ⟨h1, h3, h4⟩
  · rw [if_neg h]
    obtain ⟨h1, _, h3, h4⟩ := muI_inv ho hb hx hl (b.length + 1) (Nat.le_refl _)
    rw [List.take_of_length_le (by omega), hstop, Nat.mul_zero, Nat.add_zero] at h4
    exact ⟨h1, h3, h4⟩
theorem muO_lt {a b : List Nat} (ha : Lim a) (hb : Lim b) {i : Nat} (hi : i ≤ a.length) : val (a.take i) * val b < 4294967296 ^ (i + b.length) := by
  have h1 := val_lt (ha.take i)
  rw [List.length_take, Nat.min_eq_left hi] at h1
  have h2 := val_lt hb
  rw [Nat.pow_add]
  exact Nat.mul_lt_mul'' h1 h2
theorem muO_inv {a b : List Nat} (ha : Lim a) (hb : Lim b) (i : Nat) (hi : i ≤ a.length) : (muO a b i).length = a.length + b.length + 1 ∧ Lim (muO a b i) ∧ val (muO a b i) = val (a.take i) * val b := by
  induction i with
  | zero => exact ⟨by simp [muO], .rep _, by simp [muO, val_rep, val]⟩
  | succ i ih =>
    obtain ⟨h1, h2, h3⟩ := ih (by omega)
    have hv := muO_lt ha hb (i := i) (by omega)
    rw [← h3] at hv
    obtain ⟨q1, q2, q3⟩ := muN_val (x := a.getD i 0) (i := i) h2 hb (ha.getD i) (by omega) hv
    refine ⟨q1.trans h1, q2, ?_⟩
    show val (muI (muO a b i) (a.getD i 0) b i (muN (muO a b i) (a.getD i 0) b i)).1 = _
    rw [q3, h3, val_take_succ, Nat.add_mul, Nat.mul_assoc]

end Go.Am

open Go Go.Am Go.Proofs
namespace Go.Am
set_option linter.unusedSimpArgs false

set_option maxRecDepth 10000 in
theorem r01MulZ (x y : Int) (hx : (digs x.natAbs).length ≤ 137438953472) (hy : (digs y.natAbs).length ≤ 137438953472) : Spec Try.prog 21 [encZ x, encZ y] (encZ (x * y)) := by
  refine spec_of (N := 81) follows_mixed Try.func21 rfl rfl rfl (by kernel_rfl) (by kernel_rfl) (by simp) ?_
  have la := lim_digs x.natAbs
  have lb := lim_digs y.natAbs
  have va := val_digs x.natAbs
  have vb := val_digs y.natAbs
  have sx := sg_natAbs x
  have sy := sg_natAbs y
  have ex : encZ x = .ag [.b (decide (x < 0)), encM (digs x.natAbs)] := rfl
  have ey : encZ y = .ag [.b (decide (y < 0)), encM (digs y.natAbs)] := rfl
  rw [ex, ey]
  generalize digs x.natAbs = a at *
  generalize digs y.natAbs = b at *
  generalize hbx : decide (x < 0) = nx at *
  generalize hby : decide (y < 0) = ny at *
  obtain ⟨n, hn⟩ : ∃ n, a.length + b.length + 1 = n := ⟨_, rfl⟩
  have hw1 : IntKind.i64.wrap ((a.length : Int) + b.length) = (a.length : Int) + b.length := wrap_i64 (by omega) (by omega)
  have hw2 : IntKind.i64.wrap ((a.length : Int) + b.length + 1) = (n : Int) := by rw [wrap_i64 (by omega) (by omega)]; omega
  have hm1 : (4 : Int) * n ≤ 281474976710656 := by omega
  have hm2 : (n : Int) ≤ 9223372036854775807 := by omega
  have h00 : muO a b 0 = List.replicate n 0 := by rw [← hn]; rfl
  simp (config := { maxSteps := 1000000 }) [-List.map_map, -List.mapM_map, ↓awp_skip, ↓awp_regionB, ↓awp_seq, ↓awp_block, ↓awp_exit, ↓awp_ret, ↓awp_label, ↓awp_scope, ↓awp_condB, ↓awp_loopB, ↓ow_nil', ↓ow_cons0, ↓ow_cons1, ↓o1_move, ↓o1_assign, ↓o1_pick, ↓o1_alloc, ↓o1_box, ↓o1_build, ↓o1_buildSlice, ↓o1_makeSlice, ↓o1_makeMap, ↓o1_binOp, ↓o1_unOp, ↓o1_convert, ↓o1_fieldAddr, ↓o1_field, ↓o1_indexAddr, ↓o1_extract, ↓o1_slice, ↓o1_len, ↓o1_max, ↓o1_min, ↓o1_load, ↓o1_lookup, ↓o1_store, ↓o1_mapUpdate, ↓o1_append, ↓o1_delete, ↓o1_call, encM, hw1, hw2, hm1, hm2]
  refine loopP_inv (fun i : Nat => i ≤ a.length)
    (fun i => StL [(2, .ptr 1 0), (3, .ptr 2 0), (4, .ptr 3 0), (5, .own 4 0 n 1), (6, .d (.i .i64 i))] none
      [.cells 32 [.d (.b nx), .d (encM a)], .cells 32 [.d (.b ny), .d (encM b)], .cells 32 [.d (.b false), .nil], .cells 104 ((lms (muO a b i)).map .d)]) (fun i => a.length - i) 0 (Nat.zero_le _) ?_ ?_
  · refine wk_l [1, 2, 3, 4] (by simp) ?_ ?_ <;> simp [-List.map_map, upd, inj1, Γ0, encM, h00]
  · intro i hi
    obtain ⟨ol, om, ov⟩ := muO_inv la lb i hi
    rw [hn] at ol
    by_cases hgo : i < a.length
    · have q1 : (i : Int) < a.length := by omega
      simp (config := { maxSteps := 1000000 }) [-List.map_map, -List.mapM_map, ↓awp_skip, ↓awp_regionB, ↓awp_seq, ↓awp_block, ↓awp_exit, ↓awp_ret, ↓awp_label, ↓awp_scope, ↓awp_condB, ↓awp_loopB, ↓ow_nil', ↓ow_cons0, ↓ow_cons1, ↓o1_move, ↓o1_assign, ↓o1_pick, ↓o1_alloc, ↓o1_box, ↓o1_build, ↓o1_buildSlice, ↓o1_makeSlice, ↓o1_makeMap, ↓o1_binOp, ↓o1_unOp, ↓o1_convert, ↓o1_fieldAddr, ↓o1_field, ↓o1_indexAddr, ↓o1_extract, ↓o1_slice, ↓o1_len, ↓o1_max, ↓o1_min, ↓o1_load, ↓o1_lookup, ↓o1_store, ↓o1_mapUpdate, ↓o1_append, ↓o1_delete, ↓o1_call, encM, q1]
      have hsucc : muO a b (i + 1) = (muI (muO a b i) (a.getD i 0) b i (muN (muO a b i) (a.getD i 0) b i)).1 := rfl
      have g1 := getD_some hgo
      have hlt := muO_lt la lb hi
      rw [← ov] at hlt
      generalize hout : muO a b i = out at *
      have hal := la.getD i
      generalize a.getD i 0 = xv at *
      have hwx : IntKind.u64.wrap (xv : Int) = xv := wrap_u64 (by omega) (by omega)
      refine loopP_inv (fun k : Nat => k ≤ b.length ∨ (k = b.length + 1 ∧ (muI out xv b i b.length).2 ≠ 0))
        (fun k => StL [(2, .ptr 1 0), (3, .ptr 2 0), (4, .ptr 3 0), (5, .own 4 0 n 1), (6, .d (.i .i64 i)), (7, .d (.i .u64 (muI out xv b i k).2)), (8, .d (.i .i64 k))] none
          [.cells 32 [.d (.b nx), .d (encM a)], .cells 32 [.d (.b ny), .d (encM b)], .cells 32 [.d (.b false), .nil], .cells 104 ((lms (muI out xv b i k).1).map .d)]) (fun k => b.length + 1 - k) 0 (.inl (Nat.zero_le _)) ?_ ?_
      · refine wk_l [1, 2, 3, 4] (by simp) ?_ ?_ <;> simp [-List.map_map, upd, inj1, Γ0, encM, muI]
      · intro k hk
        have hkl : k ≤ b.length + 1 := by omega
        obtain ⟨il, ic, im, _⟩ := muI_inv om lb hal (i := i) (by omega) k hkl
        have isucc : muI out xv b i (k + 1) = ((muI out xv b i k).1.set (i + k) (((muI out xv b i k).2 + (muI out xv b i k).1.getD (i + k) 0 + xv * b.getD k 0) % 4294967296), ((muI out xv b i k).2 + (muI out xv b i k).1.getD (i + k) 0 + xv * b.getD k 0) / 4294967296) := rfl
        have hstop0 := muI_stop om lb hal (i := i) (by omega) hlt
        have hres : (k < b.length ∨ 0 < (muI out xv b i k).2) ∨ muO a b (i + 1) = (muI out xv b i k).1 := by
          rw [hsucc]; unfold muN
          rcases hk with hk | ⟨hk, hc⟩
          · by_cases h1 : k = b.length
            · subst h1
              by_cases h2 : (muI out xv b i b.length).2 = 0
              · rw [if_pos h2]; exact .inr rfl
              · exact .inl (.inr (by omega))
            · exact .inl (.inl (by omega))
          · rw [if_neg hc, hk]; exact .inr rfl
        have hnext : (k < b.length ∨ 0 < (muI out xv b i k).2) → k ≤ b.length ∧ (k + 1 ≤ b.length ∨ (k + 1 = b.length + 1 ∧ (muI out xv b i b.length).2 ≠ 0)) := by
          intro h
          rcases hk with hk | ⟨hk, hc⟩
          · refine ⟨hk, ?_⟩
            by_cases h1 : k = b.length
            · subst h1; exact .inr ⟨rfl, by omega⟩
            · exact .inl (by omega)
          · rw [hk, hstop0] at h; omega
        clear hstop0 hsucc
        have ho := im.getD (i + k)
        generalize hcar : (muI out xv b i k).2 = c at *
        generalize hcur : (muI out xv b i k).1 = cur at *
        by_cases hg2 : k < b.length ∨ 0 < c
        · obtain ⟨n1, n2⟩ := hnext hg2
          obtain ⟨j, hj⟩ : ∃ j, i + k = j := ⟨_, rfl⟩
          rw [hj] at isucc ho
          have hjl : j < cur.length := by omega
          have g2 := lms_get (getD_some hjl)
          have hwj : IntKind.i64.wrap ((i : Int) + k) = j := by rw [wrap_i64 (by omega) (by omega)]; omega
          have hjn : (j : Int) < n := by omega
          have hw8 : IntKind.i64.wrap ((k : Int) + 1) = (k : Int) + 1 := wrap_i64 (by omega) (by omega)
          have hjl2 : j < (lms cur).length := by rw [lms_len]; exact hjl
          have hjl3 : j + 1 ≤ n := by omega
          have hyb := lb.getD k
          have hlim := mu_lim ic ho hal hyb
          have hy0 : ¬ k < b.length → b.getD k 0 = 0 := getD_none
          have g3 : k < b.length → b[k]? = some (b.getD k 0) := getD_some
          generalize cur.getD j 0 = o at *
          generalize b.getD k 0 = yv at *
          obtain ⟨s1, hs1⟩ : ∃ s1 : Nat, c + o = s1 := ⟨_, rfl⟩
          obtain ⟨t, ht⟩ : ∃ t : Nat, s1 + xv * yv = t := ⟨_, rfl⟩
          rw [hs1] at isucc hlim
          rw [ht] at isucc hlim
          obtain ⟨lo, hlo⟩ : ∃ lo : Nat, t % 4294967296 = lo := ⟨_, rfl⟩
          obtain ⟨hi', hhi⟩ : ∃ hi' : Nat, t / 4294967296 = hi' := ⟨_, rfl⟩
          rw [hlo, hhi] at isucc
          have hwo : IntKind.u64.wrap (o : Int) = o := wrap_u64 (by omega) (by omega)
          have hws : IntKind.u64.wrap ((c : Int) + o) = s1 := by rw [wrap_u64 (by omega) (by omega)]; omega
          have hwlo : IntKind.u32.wrap (t : Int) = lo := by rw [wrap_u32m]; omega
          have hwhi : IntKind.u64.wrap ((t : Int) / 4294967296) = hi' := by rw [wrap_u64 (by omega) (by omega)]; omega
          have hlay : lay (List.map AV.d (lms cur)) j [AV.d (D.i .u32 (lo : Int))] = List.map AV.d (lms (cur.set j lo)) := by
            rw [lay_one _ _ _ hjl2, lms_set]
          have hgj : List.length cur = n := by omega
          by_cases hkb : k < b.length
          · have q2 : (k : Int) < b.length := by omega
            have g4 := g3 hkb
            have hwy : IntKind.u64.wrap (yv : Int) = yv := wrap_u64 (by omega) (by omega)
            obtain ⟨e, he⟩ : ∃ e : Nat, xv * yv = e := ⟨_, rfl⟩
            rw [he] at ht
            have hwm : IntKind.u64.wrap ((xv : Int) * yv) = e := by rw [← Int.natCast_mul, he, wrap_u64 (by omega) (by omega)]
            have hwt : IntKind.u64.wrap ((s1 : Int) + e) = t := by rw [wrap_u64 (by omega) (by omega)]; omega
            simp (config := { maxSteps := 1000000 }) [-List.map_map, -List.mapM_map, ↓awp_skip, ↓awp_regionB, ↓awp_seq, ↓awp_block, ↓awp_exit, ↓awp_ret, ↓awp_label, ↓awp_scope, ↓awp_condB, ↓awp_loopB, ↓ow_nil', ↓ow_cons0, ↓ow_cons1, ↓o1_move, ↓o1_assign, ↓o1_pick, ↓o1_alloc, ↓o1_box, ↓o1_build, ↓o1_buildSlice, ↓o1_makeSlice, ↓o1_makeMap, ↓o1_binOp, ↓o1_unOp, ↓o1_convert, ↓o1_fieldAddr, ↓o1_field, ↓o1_indexAddr, ↓o1_extract, ↓o1_slice, ↓o1_len, ↓o1_max, ↓o1_min, ↓o1_load, ↓o1_lookup, ↓o1_store, ↓o1_mapUpdate, ↓o1_append, ↓o1_delete, ↓o1_call, encM, q2, hwj, hjn, g2, hwo, hws, g1, g4, hwx, hwy, hwm, hwt, hwlo, hwhi, hlay, hw8, hjl3, hgj]
            refine nxt_intro (k + 1) n2 ?_ (wk_l [1, 2, 3, 4] (by simp) ?_ ?_)
            · omega
            · simp [-List.map_map, upd, inj1, Γ0, encM, isucc]
            · simp [-List.map_map, upd, inj1, Γ0, encM, isucc]
          · have q2 : ¬ (k : Int) < b.length := by omega
            have q3 : 0 < c := by omega
            have e1 : t = s1 := by rw [hy0 hkb, Nat.mul_zero] at ht; omega
            rw [e1] at hwlo hwhi
            simp (config := { maxSteps := 1000000 }) [-List.map_map, -List.mapM_map, ↓awp_skip, ↓awp_regionB, ↓awp_seq, ↓awp_block, ↓awp_exit, ↓awp_ret, ↓awp_label, ↓awp_scope, ↓awp_condB, ↓awp_loopB, ↓ow_nil', ↓ow_cons0, ↓ow_cons1, ↓o1_move, ↓o1_assign, ↓o1_pick, ↓o1_alloc, ↓o1_box, ↓o1_build, ↓o1_buildSlice, ↓o1_makeSlice, ↓o1_makeMap, ↓o1_binOp, ↓o1_unOp, ↓o1_convert, ↓o1_fieldAddr, ↓o1_field, ↓o1_indexAddr, ↓o1_extract, ↓o1_slice, ↓o1_len, ↓o1_max, ↓o1_min, ↓o1_load, ↓o1_lookup, ↓o1_store, ↓o1_mapUpdate, ↓o1_append, ↓o1_delete, ↓o1_call, encM, q2, q3, hwj, hjn, g2, hwo, hws, hwlo, hwhi, hlay, hw8, hjl3, hgj]
            refine nxt_intro (k + 1) n2 ?_ (wk_l [1, 2, 3, 4] (by simp) ?_ ?_)
            · omega
            · simp [-List.map_map, upd, inj1, Γ0, encM, isucc]
            · simp [-List.map_map, upd, inj1, Γ0, encM, isucc]
        · have q2 : ¬ (k : Int) < b.length := by omega
          have q3 : ¬ 0 < c := by omega
          have hfin := hres.resolve_left hg2
          have hw8 : IntKind.i64.wrap ((i : Int) + 1) = (i : Int) + 1 := wrap_i64 (by omega) (by omega)
          simp (config := { maxSteps := 1000000 }) [-List.map_map, -List.mapM_map, ↓awp_skip, ↓awp_regionB, ↓awp_seq, ↓awp_block, ↓awp_exit, ↓awp_ret, ↓awp_label, ↓awp_scope, ↓awp_condB, ↓awp_loopB, ↓ow_nil', ↓ow_cons0, ↓ow_cons1, ↓o1_move, ↓o1_assign, ↓o1_pick, ↓o1_alloc, ↓o1_box, ↓o1_build, ↓o1_buildSlice, ↓o1_makeSlice, ↓o1_makeMap, ↓o1_binOp, ↓o1_unOp, ↓o1_convert, ↓o1_fieldAddr, ↓o1_field, ↓o1_indexAddr, ↓o1_extract, ↓o1_slice, ↓o1_len, ↓o1_max, ↓o1_min, ↓o1_load, ↓o1_lookup, ↓o1_store, ↓o1_mapUpdate, ↓o1_append, ↓o1_delete, ↓o1_call, encM, q2, q3, hw8]
          refine nxt_intro (i + 1) hgo ?_ (wk_l [1, 2, 3, 4] (by simp) ?_ ?_)
          · omega
          · simp [-List.map_map, upd, inj1, Γ0, encM, hfin]
          · simp [-List.map_map, upd, inj1, Γ0, encM, hfin]
    · have q1 : ¬ (i : Int) < a.length := by omega
      have e : i = a.length := by omega
      rw [e, List.take_of_length_le (Nat.le_refl _), va, vb] at ov
      have hm := r01Made (muO a b i) (nx != ny) (by omega)
      rw [made_encZ om, e, ov] at hm
      have e2 : sg (nx != ny) (x.natAbs * y.natAbs) = x * y := by
        rw [← sx, ← sy]
        cases nx <;> cases ny <;> simp [sg, Int.mul_neg, Int.neg_mul]
      rw [e2] at hm
      rw [e] at ol
      have e' : muO a b i = muO a b a.length := by rw [e]
      generalize muO a b a.length = out at *
      simp (config := { maxSteps := 1000000 }) [-List.map_map, -List.mapM_map, ↓awp_skip, ↓awp_regionB, ↓awp_seq, ↓awp_block, ↓awp_exit, ↓awp_ret, ↓awp_label, ↓awp_scope, ↓awp_condB, ↓awp_loopB, ↓ow_nil', ↓ow_cons0, ↓ow_cons1, ↓o1_move, ↓o1_assign, ↓o1_pick, ↓o1_alloc, ↓o1_box, ↓o1_build, ↓o1_buildSlice, ↓o1_makeSlice, ↓o1_makeMap, ↓o1_binOp, ↓o1_unOp, ↓o1_convert, ↓o1_fieldAddr, ↓o1_field, ↓o1_indexAddr, ↓o1_extract, ↓o1_slice, ↓o1_len, ↓o1_max, ↓o1_min, ↓o1_load, ↓o1_lookup, ↓o1_store, ↓o1_mapUpdate, ↓o1_append, ↓o1_delete, ↓o1_call, encM, q1, e']
      refine callP_intro (ds := [encM out, .b (nx != ny)]) ?_ hm ?_
      · simp (config := { maxSteps := 1000000 }) [-List.map_map, -List.mapM_map, ↓awp_skip, ↓awp_regionB, ↓awp_seq, ↓awp_block, ↓awp_exit, ↓awp_ret, ↓awp_label, ↓awp_scope, ↓awp_condB, ↓awp_loopB, ↓ow_nil', ↓ow_cons0, ↓ow_cons1, ↓o1_move, ↓o1_assign, ↓o1_pick, ↓o1_alloc, ↓o1_box, ↓o1_build, ↓o1_buildSlice, ↓o1_makeSlice, ↓o1_makeMap, ↓o1_binOp, ↓o1_unOp, ↓o1_convert, ↓o1_fieldAddr, ↓o1_field, ↓o1_indexAddr, ↓o1_extract, ↓o1_slice, ↓o1_len, ↓o1_max, ↓o1_min, ↓o1_load, ↓o1_lookup, ↓o1_store, ↓o1_mapUpdate, ↓o1_append, ↓o1_delete, ↓o1_call, encM, ol, chunk_lms ol, lms_take_all ol]
        cases nx <;> cases ny <;> rfl
      · simp (config := { maxSteps := 1000000 }) [-List.map_map, -List.mapM_map, ↓awp_skip, ↓awp_regionB, ↓awp_seq, ↓awp_block, ↓awp_exit, ↓awp_ret, ↓awp_label, ↓awp_scope, ↓awp_condB, ↓awp_loopB, ↓ow_nil', ↓ow_cons0, ↓ow_cons1, ↓o1_move, ↓o1_assign, ↓o1_pick, ↓o1_alloc, ↓o1_box, ↓o1_build, ↓o1_buildSlice, ↓o1_makeSlice, ↓o1_makeMap, ↓o1_binOp, ↓o1_unOp, ↓o1_convert, ↓o1_fieldAddr, ↓o1_field, ↓o1_indexAddr, ↓o1_extract, ↓o1_slice, ↓o1_len, ↓o1_max, ↓o1_min, ↓o1_load, ↓o1_lookup, ↓o1_store, ↓o1_mapUpdate, ↓o1_append, ↓o1_delete, ↓o1_call, encM, encZ, encI, ol, chunk_lms ol, lms_take_all ol]

end Go.Am
