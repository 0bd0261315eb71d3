/- Rows of columns with numbers, as they lie. No condition. -/
import Derived.Test.YtmnjglpieghdkaaRr
open Go Go.Am Go.Proofs
namespace Go.Am
set_option linter.unusedSimpArgs false

theorem wrap_nat {n : Nat} (h : n ≤ 9223372036854775807) : IntKind.i64.wrap (n : Int) = n := wrap_i64 (by omega) (by omega)

set_option maxRecDepth 10000 in
theorem intTrim (m : List Nat) (hl : m.length ≤ 1099511627776) : Spec Try.prog 110 [encM m] (encM (strip m)) := by
  refine spec_of (N := 21) follows_mixed Try.func110 rfl rfl rfl (by kernel_rfl) (by kernel_rfl) (by simp) ?_
  simp (config := { maxSteps := 1000000 }) [-List.map_map, -List.mapM_map, ↓awp_skip, ↓awp_regionB, ↓awp_seq, ↓awp_block, ↓awp_exit, ↓awp_ret, ↓awp_label, ↓awp_scope, ↓awp_condB, ↓awp_loopB, ↓ow_nil', ↓ow_cons0, ↓ow_cons1, ↓o1_move, ↓o1_assign, ↓o1_pick, ↓o1_alloc, ↓o1_box, ↓o1_build, ↓o1_buildSlice, ↓o1_makeSlice, ↓o1_makeMap, ↓o1_binOp, ↓o1_unOp, ↓o1_convert, ↓o1_fieldAddr, ↓o1_field, ↓o1_indexAddr, ↓o1_extract, ↓o1_slice, ↓o1_len, ↓o1_max, ↓o1_min, ↓o1_load, ↓o1_lookup, ↓o1_store, ↓o1_mapUpdate, ↓o1_append, ↓o1_delete, ↓o1_call, encM]
  refine loopP_inv (fun n : Nat => n ≤ m.length ∧ strip (m.take n) = strip m) (fun n => StL [(0, .d (encM m)), (3, .d (.i .i64 n))] none []) (fun n => n) m.length ⟨Nat.le_refl _, by simp⟩ ?_ ?_
  · refine wk_l [] (by simp) ?_ ?_ <;> simp [-List.map_map, upd, inj1, Γ0, encM]
  · rintro n ⟨hn, hs⟩
    rcases n with _ | n
    · have hs' : strip m = [] := hs.symm
      have h0 : okHead 1 (m.map fun (x : Nat) => [D.i .u32 (x : Int)]) = true := okHead_encM m _
      simp (config := { maxSteps := 1000000 }) [-List.map_map, -List.mapM_map, ↓awp_skip, ↓awp_regionB, ↓awp_seq, ↓awp_block, ↓awp_exit, ↓awp_ret, ↓awp_label, ↓awp_scope, ↓awp_condB, ↓awp_loopB, ↓ow_nil', ↓ow_cons0, ↓ow_cons1, ↓o1_move, ↓o1_assign, ↓o1_pick, ↓o1_alloc, ↓o1_box, ↓o1_build, ↓o1_buildSlice, ↓o1_makeSlice, ↓o1_makeMap, ↓o1_binOp, ↓o1_unOp, ↓o1_convert, ↓o1_fieldAddr, ↓o1_field, ↓o1_indexAddr, ↓o1_extract, ↓o1_slice, ↓o1_len, ↓o1_max, ↓o1_min, ↓o1_load, ↓o1_lookup, ↓o1_store, ↓o1_mapUpdate, ↓o1_append, ↓o1_delete, ↓o1_call, encM, hs', h0]
    · have hx : m[n]? = some m[n] := List.getElem?_eq_getElem hn
      have hw : IntKind.i64.wrap (n : Int) = n := wrap_nat (by omega)
      have hp : (0 : Int) < (n : Int) + 1 := by omega
      have hp2 : (0 : Int) ≤ (n : Int) + 1 := by omega
      by_cases h0 : m[n] = 0
      · simp (config := { maxSteps := 1000000 }) [-List.map_map, -List.mapM_map, ↓awp_skip, ↓awp_regionB, ↓awp_seq, ↓awp_block, ↓awp_exit, ↓awp_ret, ↓awp_label, ↓awp_scope, ↓awp_condB, ↓awp_loopB, ↓ow_nil', ↓ow_cons0, ↓ow_cons1, ↓o1_move, ↓o1_assign, ↓o1_pick, ↓o1_alloc, ↓o1_box, ↓o1_build, ↓o1_buildSlice, ↓o1_makeSlice, ↓o1_makeMap, ↓o1_binOp, ↓o1_unOp, ↓o1_convert, ↓o1_fieldAddr, ↓o1_field, ↓o1_indexAddr, ↓o1_extract, ↓o1_slice, ↓o1_len, ↓o1_max, ↓o1_min, ↓o1_load, ↓o1_lookup, ↓o1_store, ↓o1_mapUpdate, ↓o1_append, ↓o1_delete, ↓o1_call, encM, hx, hw, h0, hp]
        refine nxt_intro n ⟨by omega, (strip_take_zero hn h0).symm.trans hs⟩ (by omega) (wk_l [] (by simp) ?_ ?_) <;> simp [-List.map_map, upd, inj1, Γ0, encM]
      · have h1 : ((m[n] : Int) == 0) = false := by simp; omega
        have he : strip m = m.take (n + 1) := hs.symm.trans (strip_take_last hn h0)
        have hn' : (n : Int) + 1 ≤ m.length := by omega
        obtain ⟨pre, hpre⟩ : ∃ pre, m.take (n + 1) = pre := ⟨_, rfl⟩
        have hp1 : ∀ f : Nat → List D, (m.map f).take (n + 1) = pre.map f := fun f => by rw [← hpre, List.map_take]
        rw [hpre] at he
        simp (config := { maxSteps := 1000000 }) [-List.map_map, -List.mapM_map, ↓awp_skip, ↓awp_regionB, ↓awp_seq, ↓awp_block, ↓awp_exit, ↓awp_ret, ↓awp_label, ↓awp_scope, ↓awp_condB, ↓awp_loopB, ↓ow_nil', ↓ow_cons0, ↓ow_cons1, ↓o1_move, ↓o1_assign, ↓o1_pick, ↓o1_alloc, ↓o1_box, ↓o1_build, ↓o1_buildSlice, ↓o1_makeSlice, ↓o1_makeMap, ↓o1_binOp, ↓o1_unOp, ↓o1_convert, ↓o1_fieldAddr, ↓o1_field, ↓o1_indexAddr, ↓o1_extract, ↓o1_slice, ↓o1_len, ↓o1_max, ↓o1_min, ↓o1_load, ↓o1_lookup, ↓o1_store, ↓o1_mapUpdate, ↓o1_append, ↓o1_delete, ↓o1_call, encM, hx, hw, h1, hp, hp2, he, hn', hp1, okHead_encM]

set_option maxRecDepth 10000 in
theorem intValue (neg : Bool) (m : List Nat) (hl : m.length ≤ 1099511627776) : Spec Try.prog 108 [.b neg, encM m] (encI (neg && decide (strip m ≠ [])) (strip m)) := by
  refine spec_of (N := 14) follows_mixed Try.func108 rfl rfl rfl (by kernel_rfl) (by kernel_rfl) (by simp) ?_
  simp (config := { maxSteps := 1000000 }) [-List.map_map, -List.mapM_map, ↓awp_skip, ↓awp_regionB, ↓awp_seq, ↓awp_block, ↓awp_exit, ↓awp_ret, ↓awp_label, ↓awp_scope, ↓awp_condB, ↓awp_loopB, ↓ow_nil', ↓ow_cons0, ↓ow_cons1, ↓o1_move, ↓o1_assign, ↓o1_pick, ↓o1_alloc, ↓o1_box, ↓o1_build, ↓o1_buildSlice, ↓o1_makeSlice, ↓o1_makeMap, ↓o1_binOp, ↓o1_unOp, ↓o1_convert, ↓o1_fieldAddr, ↓o1_field, ↓o1_indexAddr, ↓o1_extract, ↓o1_slice, ↓o1_len, ↓o1_max, ↓o1_min, ↓o1_load, ↓o1_lookup, ↓o1_store, ↓o1_mapUpdate, ↓o1_append, ↓o1_delete, ↓o1_call, encM]
  refine callP_intro (ds := [encM m]) (by rfl) (intTrim m hl) ?_
  cases hm : strip m with
  | nil =>
    cases neg <;> simp (config := { maxSteps := 1000000 }) [-List.map_map, -List.mapM_map, ↓awp_skip, ↓awp_regionB, ↓awp_seq, ↓awp_block, ↓awp_exit, ↓awp_ret, ↓awp_label, ↓awp_scope, ↓awp_condB, ↓awp_loopB, ↓ow_nil', ↓ow_cons0, ↓ow_cons1, ↓o1_move, ↓o1_assign, ↓o1_pick, ↓o1_alloc, ↓o1_box, ↓o1_build, ↓o1_buildSlice, ↓o1_makeSlice, ↓o1_makeMap, ↓o1_binOp, ↓o1_unOp, ↓o1_convert, ↓o1_fieldAddr, ↓o1_field, ↓o1_indexAddr, ↓o1_extract, ↓o1_slice, ↓o1_len, ↓o1_max, ↓o1_min, ↓o1_load, ↓o1_lookup, ↓o1_store, ↓o1_mapUpdate, ↓o1_append, ↓o1_delete, ↓o1_call, encM, encI]
  | cons x l =>
    have h1 : (((l.length : Int) + 1 == 0) : Bool) = false := by simp; omega
    cases neg <;> simp (config := { maxSteps := 1000000 }) [-List.map_map, -List.mapM_map, ↓awp_skip, ↓awp_regionB, ↓awp_seq, ↓awp_block, ↓awp_exit, ↓awp_ret, ↓awp_label, ↓awp_scope, ↓awp_condB, ↓awp_loopB, ↓ow_nil', ↓ow_cons0, ↓ow_cons1, ↓o1_move, ↓o1_assign, ↓o1_pick, ↓o1_alloc, ↓o1_box, ↓o1_build, ↓o1_buildSlice, ↓o1_makeSlice, ↓o1_makeMap, ↓o1_binOp, ↓o1_unOp, ↓o1_convert, ↓o1_fieldAddr, ↓o1_field, ↓o1_indexAddr, ↓o1_extract, ↓o1_slice, ↓o1_len, ↓o1_max, ↓o1_min, ↓o1_load, ↓o1_lookup, ↓o1_store, ↓o1_mapUpdate, ↓o1_append, ↓o1_delete, ↓o1_call, encM, encI, h1]

theorem intValueZ {m : List Nat} (h : Lim m) (hl : m.length ≤ 1099511627776) (neg : Bool) : Spec Try.prog 108 [.b neg, encM m] (encZ (sg neg (val m))) := by
  rw [← made_encZ h]; exact intValue neg m hl

set_option maxRecDepth 10000 in
theorem intSign (neg : Bool) (m : List Nat) (hl : m.length ≤ 1099511627776) : Spec Try.prog 73 [encI neg m] (.i .i64 (if strip m = [] then 0 else if neg then -1 else 1)) := by
  refine spec_of (N := 12) follows_mixed Try.func73 rfl rfl rfl (by kernel_rfl) (by kernel_rfl) (by simp) ?_
  simp (config := { maxSteps := 1000000 }) [-List.map_map, -List.mapM_map, ↓awp_skip, ↓awp_regionB, ↓awp_seq, ↓awp_block, ↓awp_exit, ↓awp_ret, ↓awp_label, ↓awp_scope, ↓awp_condB, ↓awp_loopB, ↓ow_nil', ↓ow_cons0, ↓ow_cons1, ↓o1_move, ↓o1_assign, ↓o1_pick, ↓o1_alloc, ↓o1_box, ↓o1_build, ↓o1_buildSlice, ↓o1_makeSlice, ↓o1_makeMap, ↓o1_binOp, ↓o1_unOp, ↓o1_convert, ↓o1_fieldAddr, ↓o1_field, ↓o1_indexAddr, ↓o1_extract, ↓o1_slice, ↓o1_len, ↓o1_max, ↓o1_min, ↓o1_load, ↓o1_lookup, ↓o1_store, ↓o1_mapUpdate, ↓o1_append, ↓o1_delete, ↓o1_call, encI, encM]
  refine callP_intro (ds := [encM m]) (by rfl) (intTrim m hl) ?_
  cases hm : strip m with
  | nil => simp (config := { maxSteps := 1000000 }) [-List.map_map, -List.mapM_map, ↓awp_skip, ↓awp_regionB, ↓awp_seq, ↓awp_block, ↓awp_exit, ↓awp_ret, ↓awp_label, ↓awp_scope, ↓awp_condB, ↓awp_loopB, ↓ow_nil', ↓ow_cons0, ↓ow_cons1, ↓o1_move, ↓o1_assign, ↓o1_pick, ↓o1_alloc, ↓o1_box, ↓o1_build, ↓o1_buildSlice, ↓o1_makeSlice, ↓o1_makeMap, ↓o1_binOp, ↓o1_unOp, ↓o1_convert, ↓o1_fieldAddr, ↓o1_field, ↓o1_indexAddr, ↓o1_extract, ↓o1_slice, ↓o1_len, ↓o1_max, ↓o1_min, ↓o1_load, ↓o1_lookup, ↓o1_store, ↓o1_mapUpdate, ↓o1_append, ↓o1_delete, ↓o1_call, encM, encI]
  | cons x l =>
    have h1 : (((l.length : Int) + 1 == 0) : Bool) = false := by simp; omega
    cases neg <;> simp (config := { maxSteps := 1000000 }) [-List.map_map, -List.mapM_map, ↓awp_skip, ↓awp_regionB, ↓awp_seq, ↓awp_block, ↓awp_exit, ↓awp_ret, ↓awp_label, ↓awp_scope, ↓awp_condB, ↓awp_loopB, ↓ow_nil', ↓ow_cons0, ↓ow_cons1, ↓o1_move, ↓o1_assign, ↓o1_pick, ↓o1_alloc, ↓o1_box, ↓o1_build, ↓o1_buildSlice, ↓o1_makeSlice, ↓o1_makeMap, ↓o1_binOp, ↓o1_unOp, ↓o1_convert, ↓o1_fieldAddr, ↓o1_field, ↓o1_indexAddr, ↓o1_extract, ↓o1_slice, ↓o1_len, ↓o1_max, ↓o1_min, ↓o1_load, ↓o1_lookup, ↓o1_store, ↓o1_mapUpdate, ↓o1_append, ↓o1_delete, ↓o1_call, encM, encI, h1]

set_option maxRecDepth 10000 in
theorem intValid (neg : Bool) (m : List Nat) (hl : m.length ≤ 1099511627776) : Spec Try.prog 72 [encI neg m] (.b (match m.getLast? with | some x => x != 0 | none => !neg)) := by
  refine spec_of (N := 19) follows_mixed Try.func72 rfl rfl rfl (by kernel_rfl) (by kernel_rfl) (by simp) ?_
  rcases List.eq_nil_or_concat m with rfl | ⟨m', x, rfl⟩
  · simp (config := { maxSteps := 1000000 }) [-List.map_map, -List.mapM_map, ↓awp_skip, ↓awp_regionB, ↓awp_seq, ↓awp_block, ↓awp_exit, ↓awp_ret, ↓awp_label, ↓awp_scope, ↓awp_condB, ↓awp_loopB, ↓ow_nil', ↓ow_cons0, ↓ow_cons1, ↓o1_move, ↓o1_assign, ↓o1_pick, ↓o1_alloc, ↓o1_box, ↓o1_build, ↓o1_buildSlice, ↓o1_makeSlice, ↓o1_makeMap, ↓o1_binOp, ↓o1_unOp, ↓o1_convert, ↓o1_fieldAddr, ↓o1_field, ↓o1_indexAddr, ↓o1_extract, ↓o1_slice, ↓o1_len, ↓o1_max, ↓o1_min, ↓o1_load, ↓o1_lookup, ↓o1_store, ↓o1_mapUpdate, ↓o1_append, ↓o1_delete, ↓o1_call, encI, encM]
  · have hw : IntKind.i64.wrap (m'.length : Int) = m'.length := by simp at hl; rw [wrap_i64] <;> omega
    have h1 : (0 : Int) < (m'.length : Int) + 1 := by omega
    have hg : (List.map (fun (x : Nat) => [D.i .u32 (x : Int)]) m' ++ [[D.i .u32 (x : Int)]])[m'.length]? = some [D.i .u32 (x : Int)] := by
      rw [List.getElem?_append_right (by simp)]; simp
    simp (config := { maxSteps := 1000000 }) [-List.map_map, -List.mapM_map, ↓awp_skip, ↓awp_regionB, ↓awp_seq, ↓awp_block, ↓awp_exit, ↓awp_ret, ↓awp_label, ↓awp_scope, ↓awp_condB, ↓awp_loopB, ↓ow_nil', ↓ow_cons0, ↓ow_cons1, ↓o1_move, ↓o1_assign, ↓o1_pick, ↓o1_alloc, ↓o1_box, ↓o1_build, ↓o1_buildSlice, ↓o1_makeSlice, ↓o1_makeMap, ↓o1_binOp, ↓o1_unOp, ↓o1_convert, ↓o1_fieldAddr, ↓o1_field, ↓o1_indexAddr, ↓o1_extract, ↓o1_slice, ↓o1_len, ↓o1_max, ↓o1_min, ↓o1_load, ↓o1_lookup, ↓o1_store, ↓o1_mapUpdate, ↓o1_append, ↓o1_delete, ↓o1_call, encI, encM, hw, h1, hg]
    rw [Bool.eq_iff_iff]; simp

set_option maxRecDepth 10000 in
theorem nanI (x : Int) : Spec Try.prog 127 [.i .i64 x] (.b false) := by
  refine spec_of (N := 6) follows_mixed Try.func127 rfl rfl rfl (by kernel_rfl) (by kernel_rfl) (by simp) ?_
  simp (config := { maxSteps := 1000000 }) [-List.map_map, -List.mapM_map, ↓awp_skip, ↓awp_regionB, ↓awp_seq, ↓awp_block, ↓awp_exit, ↓awp_ret, ↓awp_label, ↓awp_scope, ↓awp_condB, ↓awp_loopB, ↓ow_nil', ↓ow_cons0, ↓ow_cons1, ↓o1_move, ↓o1_assign, ↓o1_pick, ↓o1_alloc, ↓o1_box, ↓o1_build, ↓o1_buildSlice, ↓o1_makeSlice, ↓o1_makeMap, ↓o1_binOp, ↓o1_unOp, ↓o1_convert, ↓o1_fieldAddr, ↓o1_field, ↓o1_indexAddr, ↓o1_extract, ↓o1_slice, ↓o1_len, ↓o1_max, ↓o1_min, ↓o1_load, ↓o1_lookup, ↓o1_store, ↓o1_mapUpdate, ↓o1_append, ↓o1_delete, ↓o1_call]
set_option maxRecDepth 10000 in
theorem nanU (x : Int) : Spec Try.prog 128 [.i .u32 x] (.b false) := by
  refine spec_of (N := 6) follows_mixed Try.func128 rfl rfl rfl (by kernel_rfl) (by kernel_rfl) (by simp) ?_
  simp (config := { maxSteps := 1000000 }) [-List.map_map, -List.mapM_map, ↓awp_skip, ↓awp_regionB, ↓awp_seq, ↓awp_block, ↓awp_exit, ↓awp_ret, ↓awp_label, ↓awp_scope, ↓awp_condB, ↓awp_loopB, ↓ow_nil', ↓ow_cons0, ↓ow_cons1, ↓o1_move, ↓o1_assign, ↓o1_pick, ↓o1_alloc, ↓o1_box, ↓o1_build, ↓o1_buildSlice, ↓o1_makeSlice, ↓o1_makeMap, ↓o1_binOp, ↓o1_unOp, ↓o1_convert, ↓o1_fieldAddr, ↓o1_field, ↓o1_indexAddr, ↓o1_extract, ↓o1_slice, ↓o1_len, ↓o1_max, ↓o1_min, ↓o1_load, ↓o1_lookup, ↓o1_store, ↓o1_mapUpdate, ↓o1_append, ↓o1_delete, ↓o1_call]
def cmpI (x y : Int) : Int := if x < y then -1 else if y < x then 1 else 0
set_option maxRecDepth 10000 in
theorem cmpInt (x y : Int) : Spec Try.prog 121 [.i .i64 x, .i .i64 y] (.i .i64 (cmpI x y)) := by
  refine spec_of (N := 20) follows_mixed Try.func121 rfl rfl rfl (by kernel_rfl) (by kernel_rfl) (by simp) ?_
  simp (config := { maxSteps := 1000000 }) [-List.map_map, -List.mapM_map, ↓awp_skip, ↓awp_regionB, ↓awp_seq, ↓awp_block, ↓awp_exit, ↓awp_ret, ↓awp_label, ↓awp_scope, ↓awp_condB, ↓awp_loopB, ↓ow_nil', ↓ow_cons0, ↓ow_cons1, ↓o1_move, ↓o1_assign, ↓o1_pick, ↓o1_alloc, ↓o1_box, ↓o1_build, ↓o1_buildSlice, ↓o1_makeSlice, ↓o1_makeMap, ↓o1_binOp, ↓o1_unOp, ↓o1_convert, ↓o1_fieldAddr, ↓o1_field, ↓o1_indexAddr, ↓o1_extract, ↓o1_slice, ↓o1_len, ↓o1_max, ↓o1_min, ↓o1_load, ↓o1_lookup, ↓o1_store, ↓o1_mapUpdate, ↓o1_append, ↓o1_delete, ↓o1_call]
  refine callP_intro (ds := [.i .i64 x]) (by rfl) (nanI x) ?_
  simp (config := { maxSteps := 1000000 }) [-List.map_map, -List.mapM_map, ↓awp_skip, ↓awp_regionB, ↓awp_seq, ↓awp_block, ↓awp_exit, ↓awp_ret, ↓awp_label, ↓awp_scope, ↓awp_condB, ↓awp_loopB, ↓ow_nil', ↓ow_cons0, ↓ow_cons1, ↓o1_move, ↓o1_assign, ↓o1_pick, ↓o1_alloc, ↓o1_box, ↓o1_build, ↓o1_buildSlice, ↓o1_makeSlice, ↓o1_makeMap, ↓o1_binOp, ↓o1_unOp, ↓o1_convert, ↓o1_fieldAddr, ↓o1_field, ↓o1_indexAddr, ↓o1_extract, ↓o1_slice, ↓o1_len, ↓o1_max, ↓o1_min, ↓o1_load, ↓o1_lookup, ↓o1_store, ↓o1_mapUpdate, ↓o1_append, ↓o1_delete, ↓o1_call]
  refine callP_intro (ds := [.i .i64 y]) (by rfl) (nanI y) ?_
  by_cases h1 : x < y
  · simp (config := { maxSteps := 1000000 }) [-List.map_map, -List.mapM_map, ↓awp_skip, ↓awp_regionB, ↓awp_seq, ↓awp_block, ↓awp_exit, ↓awp_ret, ↓awp_label, ↓awp_scope, ↓awp_condB, ↓awp_loopB, ↓ow_nil', ↓ow_cons0, ↓ow_cons1, ↓o1_move, ↓o1_assign, ↓o1_pick, ↓o1_alloc, ↓o1_box, ↓o1_build, ↓o1_buildSlice, ↓o1_makeSlice, ↓o1_makeMap, ↓o1_binOp, ↓o1_unOp, ↓o1_convert, ↓o1_fieldAddr, ↓o1_field, ↓o1_indexAddr, ↓o1_extract, ↓o1_slice, ↓o1_len, ↓o1_max, ↓o1_min, ↓o1_load, ↓o1_lookup, ↓o1_store, ↓o1_mapUpdate, ↓o1_append, ↓o1_delete, ↓o1_call, h1, cmpI]
  · by_cases h2 : y < x <;> simp (config := { maxSteps := 1000000 }) [-List.map_map, -List.mapM_map, ↓awp_skip, ↓awp_regionB, ↓awp_seq, ↓awp_block, ↓awp_exit, ↓awp_ret, ↓awp_label, ↓awp_scope, ↓awp_condB, ↓awp_loopB, ↓ow_nil', ↓ow_cons0, ↓ow_cons1, ↓o1_move, ↓o1_assign, ↓o1_pick, ↓o1_alloc, ↓o1_box, ↓o1_build, ↓o1_buildSlice, ↓o1_makeSlice, ↓o1_makeMap, ↓o1_binOp, ↓o1_unOp, ↓o1_convert, ↓o1_fieldAddr, ↓o1_field, ↓o1_indexAddr, ↓o1_extract, ↓o1_slice, ↓o1_len, ↓o1_max, ↓o1_min, ↓o1_load, ↓o1_lookup, ↓o1_store, ↓o1_mapUpdate, ↓o1_append, ↓o1_delete, ↓o1_call, h1, h2, cmpI]
set_option maxRecDepth 10000 in
theorem cmpU (x y : Int) : Spec Try.prog 123 [.i .u32 x, .i .u32 y] (.i .i64 (cmpI x y)) := by
  refine spec_of (N := 20) follows_mixed Try.func123 rfl rfl rfl (by kernel_rfl) (by kernel_rfl) (by simp) ?_
  simp (config := { maxSteps := 1000000 }) [-List.map_map, -List.mapM_map, ↓awp_skip, ↓awp_regionB, ↓awp_seq, ↓awp_block, ↓awp_exit, ↓awp_ret, ↓awp_label, ↓awp_scope, ↓awp_condB, ↓awp_loopB, ↓ow_nil', ↓ow_cons0, ↓ow_cons1, ↓o1_move, ↓o1_assign, ↓o1_pick, ↓o1_alloc, ↓o1_box, ↓o1_build, ↓o1_buildSlice, ↓o1_makeSlice, ↓o1_makeMap, ↓o1_binOp, ↓o1_unOp, ↓o1_convert, ↓o1_fieldAddr, ↓o1_field, ↓o1_indexAddr, ↓o1_extract, ↓o1_slice, ↓o1_len, ↓o1_max, ↓o1_min, ↓o1_load, ↓o1_lookup, ↓o1_store, ↓o1_mapUpdate, ↓o1_append, ↓o1_delete, ↓o1_call]
  refine callP_intro (ds := [.i .u32 x]) (by rfl) (nanU x) ?_
  simp (config := { maxSteps := 1000000 }) [-List.map_map, -List.mapM_map, ↓awp_skip, ↓awp_regionB, ↓awp_seq, ↓awp_block, ↓awp_exit, ↓awp_ret, ↓awp_label, ↓awp_scope, ↓awp_condB, ↓awp_loopB, ↓ow_nil', ↓ow_cons0, ↓ow_cons1, ↓o1_move, ↓o1_assign, ↓o1_pick, ↓o1_alloc, ↓o1_box, ↓o1_build, ↓o1_buildSlice, ↓o1_makeSlice, ↓o1_makeMap, ↓o1_binOp, ↓o1_unOp, ↓o1_convert, ↓o1_fieldAddr, ↓o1_field, ↓o1_indexAddr, ↓o1_extract, ↓o1_slice, ↓o1_len, ↓o1_max, ↓o1_min, ↓o1_load, ↓o1_lookup, ↓o1_store, ↓o1_mapUpdate, ↓o1_append, ↓o1_delete, ↓o1_call]
  refine callP_intro (ds := [.i .u32 y]) (by rfl) (nanU y) ?_
  by_cases h1 : x < y
  · simp (config := { maxSteps := 1000000 }) [-List.map_map, -List.mapM_map, ↓awp_skip, ↓awp_regionB, ↓awp_seq, ↓awp_block, ↓awp_exit, ↓awp_ret, ↓awp_label, ↓awp_scope, ↓awp_condB, ↓awp_loopB, ↓ow_nil', ↓ow_cons0, ↓ow_cons1, ↓o1_move, ↓o1_assign, ↓o1_pick, ↓o1_alloc, ↓o1_box, ↓o1_build, ↓o1_buildSlice, ↓o1_makeSlice, ↓o1_makeMap, ↓o1_binOp, ↓o1_unOp, ↓o1_convert, ↓o1_fieldAddr, ↓o1_field, ↓o1_indexAddr, ↓o1_extract, ↓o1_slice, ↓o1_len, ↓o1_max, ↓o1_min, ↓o1_load, ↓o1_lookup, ↓o1_store, ↓o1_mapUpdate, ↓o1_append, ↓o1_delete, ↓o1_call, h1, cmpI]
  · by_cases h2 : y < x <;> simp (config := { maxSteps := 1000000 }) [-List.map_map, -List.mapM_map, ↓awp_skip, ↓awp_regionB, ↓awp_seq, ↓awp_block, ↓awp_exit, ↓awp_ret, ↓awp_label, ↓awp_scope, ↓awp_condB, ↓awp_loopB, ↓ow_nil', ↓ow_cons0, ↓ow_cons1, ↓o1_move, ↓o1_assign, ↓o1_pick, ↓o1_alloc, ↓o1_box, ↓o1_build, ↓o1_buildSlice, ↓o1_makeSlice, ↓o1_makeMap, ↓o1_binOp, ↓o1_unOp, ↓o1_convert, ↓o1_fieldAddr, ↓o1_field, ↓o1_indexAddr, ↓o1_extract, ↓o1_slice, ↓o1_len, ↓o1_max, ↓o1_min, ↓o1_load, ↓o1_lookup, ↓o1_store, ↓o1_mapUpdate, ↓o1_append, ↓o1_delete, ↓o1_call, h1, h2, cmpI]

/-- How two lists stand to each other. -/
def cmpL (a b : List Nat) : Int := if lessL a b then -1 else if lessL b a then 1 else 0
set_option maxRecDepth 10000 in
theorem intCompare (a b : List Nat) (ha : Lim a) (hb : Lim b) (hla : a.length ≤ 1099511627776) (hlb : b.length ≤ 1099511627776) : Spec Try.prog 114 [encM a, encM b] (.i .i64 (cmpL a b)) := by
  refine spec_of (N := 35) follows_mixed Try.func114 rfl rfl rfl (by kernel_rfl) (by kernel_rfl) (by simp) ?_
  simp (config := { maxSteps := 1000000 }) [-List.map_map, -List.mapM_map, ↓awp_skip, ↓awp_regionB, ↓awp_seq, ↓awp_block, ↓awp_exit, ↓awp_ret, ↓awp_label, ↓awp_scope, ↓awp_condB, ↓awp_loopB, ↓ow_nil', ↓ow_cons0, ↓ow_cons1, ↓o1_move, ↓o1_assign, ↓o1_pick, ↓o1_alloc, ↓o1_box, ↓o1_build, ↓o1_buildSlice, ↓o1_makeSlice, ↓o1_makeMap, ↓o1_binOp, ↓o1_unOp, ↓o1_convert, ↓o1_fieldAddr, ↓o1_field, ↓o1_indexAddr, ↓o1_extract, ↓o1_slice, ↓o1_len, ↓o1_max, ↓o1_min, ↓o1_load, ↓o1_lookup, ↓o1_store, ↓o1_mapUpdate, ↓o1_append, ↓o1_delete, ↓o1_call, encM]
  refine callP_intro (ds := [.i .i64 a.length, .i .i64 b.length]) (by rfl) (cmpInt _ _) ?_
  by_cases hn : a.length = b.length
  rotate_left
  · rcases Nat.lt_or_gt_of_ne hn with h | h
    · have h1 : cmpI a.length b.length = -1 := by unfold cmpI; rw [if_pos (by omega)]
      have h2 : cmpL a b = -1 := by simp [cmpL, lessL, hn, h]
      simp (config := { maxSteps := 1000000 }) [-List.map_map, -List.mapM_map, ↓awp_skip, ↓awp_regionB, ↓awp_seq, ↓awp_block, ↓awp_exit, ↓awp_ret, ↓awp_label, ↓awp_scope, ↓awp_condB, ↓awp_loopB, ↓ow_nil', ↓ow_cons0, ↓ow_cons1, ↓o1_move, ↓o1_assign, ↓o1_pick, ↓o1_alloc, ↓o1_box, ↓o1_build, ↓o1_buildSlice, ↓o1_makeSlice, ↓o1_makeMap, ↓o1_binOp, ↓o1_unOp, ↓o1_convert, ↓o1_fieldAddr, ↓o1_field, ↓o1_indexAddr, ↓o1_extract, ↓o1_slice, ↓o1_len, ↓o1_max, ↓o1_min, ↓o1_load, ↓o1_lookup, ↓o1_store, ↓o1_mapUpdate, ↓o1_append, ↓o1_delete, ↓o1_call, encM, h1, h2]
    · have h1 : cmpI a.length b.length = 1 := by unfold cmpI; rw [if_neg (by omega), if_pos (by omega)]
      have h2 : cmpL a b = 1 := by
        have h3 : ¬ a.length < b.length := by omega
        have h4 : ¬ b.length = a.length := fun e => hn e.symm
        simp [cmpL, lessL, hn, h, h3, h4]
      simp (config := { maxSteps := 1000000 }) [-List.map_map, -List.mapM_map, ↓awp_skip, ↓awp_regionB, ↓awp_seq, ↓awp_block, ↓awp_exit, ↓awp_ret, ↓awp_label, ↓awp_scope, ↓awp_condB, ↓awp_loopB, ↓ow_nil', ↓ow_cons0, ↓ow_cons1, ↓o1_move, ↓o1_assign, ↓o1_pick, ↓o1_alloc, ↓o1_box, ↓o1_build, ↓o1_buildSlice, ↓o1_makeSlice, ↓o1_makeMap, ↓o1_binOp, ↓o1_unOp, ↓o1_convert, ↓o1_fieldAddr, ↓o1_field, ↓o1_indexAddr, ↓o1_extract, ↓o1_slice, ↓o1_len, ↓o1_max, ↓o1_min, ↓o1_load, ↓o1_lookup, ↓o1_store, ↓o1_mapUpdate, ↓o1_append, ↓o1_delete, ↓o1_call, encM, h1, h2]
  · have h1 : cmpI a.length b.length = 0 := by simp [cmpI, hn]
    have hw : IntKind.i64.wrap ((a.length : Int) - 1) = (a.length : Int) - 1 := wrap_i64 (by omega) (by omega)
    simp (config := { maxSteps := 1000000 }) [-List.map_map, -List.mapM_map, ↓awp_skip, ↓awp_regionB, ↓awp_seq, ↓awp_block, ↓awp_exit, ↓awp_ret, ↓awp_label, ↓awp_scope, ↓awp_condB, ↓awp_loopB, ↓ow_nil', ↓ow_cons0, ↓ow_cons1, ↓o1_move, ↓o1_assign, ↓o1_pick, ↓o1_alloc, ↓o1_box, ↓o1_build, ↓o1_buildSlice, ↓o1_makeSlice, ↓o1_makeMap, ↓o1_binOp, ↓o1_unOp, ↓o1_convert, ↓o1_fieldAddr, ↓o1_field, ↓o1_indexAddr, ↓o1_extract, ↓o1_slice, ↓o1_len, ↓o1_max, ↓o1_min, ↓o1_load, ↓o1_lookup, ↓o1_store, ↓o1_mapUpdate, ↓o1_append, ↓o1_delete, ↓o1_call, encM, h1, hw]
    refine loopP_inv (fun k : Nat => k ≤ a.length ∧ a.drop k = b.drop k) (fun k => StL [(0, .d (encM a)), (1, .d (encM b)), (6, .d (.i .i64 ((k : Int) - 1)))] none []) (fun k => k) a.length ⟨Nat.le_refl _, by rw [List.drop_eq_nil_of_le (Nat.le_refl _), List.drop_eq_nil_of_le (by omega)]⟩ ?_ ?_
    · refine wk_l [] (by simp) ?_ ?_ <;> simp [-List.map_map, upd, inj1, Γ0, encM]
    · rintro k ⟨hk, hd⟩
      rcases k with _ | k
      · have e : a = b := by simpa using hd
        subst e
        simp (config := { maxSteps := 1000000 }) [-List.map_map, -List.mapM_map, ↓awp_skip, ↓awp_regionB, ↓awp_seq, ↓awp_block, ↓awp_exit, ↓awp_ret, ↓awp_label, ↓awp_scope, ↓awp_condB, ↓awp_loopB, ↓ow_nil', ↓ow_cons0, ↓ow_cons1, ↓o1_move, ↓o1_assign, ↓o1_pick, ↓o1_alloc, ↓o1_box, ↓o1_build, ↓o1_buildSlice, ↓o1_makeSlice, ↓o1_makeMap, ↓o1_binOp, ↓o1_unOp, ↓o1_convert, ↓o1_fieldAddr, ↓o1_field, ↓o1_indexAddr, ↓o1_extract, ↓o1_slice, ↓o1_len, ↓o1_max, ↓o1_min, ↓o1_load, ↓o1_lookup, ↓o1_store, ↓o1_mapUpdate, ↓o1_append, ↓o1_delete, ↓o1_call, encM, lessL, cmpL]
      · have hkb : k < b.length := by omega
        have hxa : a[k]? = some a[k] := List.getElem?_eq_getElem hk
        have hxb : b[k]? = some b[k] := List.getElem?_eq_getElem hkb
        have hw2 : IntKind.i64.wrap ((k : Int) - 1) = (k : Int) - 1 := wrap_i64 (by omega) (by omega)
        have hp : (0 : Int) ≤ k := by omega
        simp (config := { maxSteps := 1000000 }) [-List.map_map, -List.mapM_map, ↓awp_skip, ↓awp_regionB, ↓awp_seq, ↓awp_block, ↓awp_exit, ↓awp_ret, ↓awp_label, ↓awp_scope, ↓awp_condB, ↓awp_loopB, ↓ow_nil', ↓ow_cons0, ↓ow_cons1, ↓o1_move, ↓o1_assign, ↓o1_pick, ↓o1_alloc, ↓o1_box, ↓o1_build, ↓o1_buildSlice, ↓o1_makeSlice, ↓o1_makeMap, ↓o1_binOp, ↓o1_unOp, ↓o1_convert, ↓o1_fieldAddr, ↓o1_field, ↓o1_indexAddr, ↓o1_extract, ↓o1_slice, ↓o1_len, ↓o1_max, ↓o1_min, ↓o1_load, ↓o1_lookup, ↓o1_store, ↓o1_mapUpdate, ↓o1_append, ↓o1_delete, ↓o1_call, encM, hxa, hxb, hp]
        refine callP_intro (ds := [.i .u32 a[k], .i .u32 b[k]]) (by rfl) (cmpU _ _) ?_
        by_cases he : a[k] = b[k]
        · have h2 : cmpI a[k] b[k] = 0 := by simp [cmpI, he]
          simp (config := { maxSteps := 1000000 }) [-List.map_map, -List.mapM_map, ↓awp_skip, ↓awp_regionB, ↓awp_seq, ↓awp_block, ↓awp_exit, ↓awp_ret, ↓awp_label, ↓awp_scope, ↓awp_condB, ↓awp_loopB, ↓ow_nil', ↓ow_cons0, ↓ow_cons1, ↓o1_move, ↓o1_assign, ↓o1_pick, ↓o1_alloc, ↓o1_box, ↓o1_build, ↓o1_buildSlice, ↓o1_makeSlice, ↓o1_makeMap, ↓o1_binOp, ↓o1_unOp, ↓o1_convert, ↓o1_fieldAddr, ↓o1_field, ↓o1_indexAddr, ↓o1_extract, ↓o1_slice, ↓o1_len, ↓o1_max, ↓o1_min, ↓o1_load, ↓o1_lookup, ↓o1_store, ↓o1_mapUpdate, ↓o1_append, ↓o1_delete, ↓o1_call, encM, h2, hw2]
          refine nxt_intro k ⟨by omega, ?_⟩ (by omega) (wk_l [] (by simp) ?_ ?_)
          · rw [List.drop_eq_getElem_cons hk, List.drop_eq_getElem_cons hkb, he, hd]
          · simp [-List.map_map, upd, inj1, Γ0, encM]
          · trivial
        · have ga : a.getD k 0 = a[k] := by rw [List.getD_eq_getElem?_getD, hxa]; rfl
          have gb : b.getD k 0 = b[k] := by rw [List.getD_eq_getElem?_getD, hxb]; rfl
          rcases Nat.lt_or_ge a[k] b[k] with hlt | hge
          · have h3 := val_lt_of ha (i := k) hn hk hd (by rw [ga, gb]; exact hlt)
            have h4 : cmpI a[k] b[k] = -1 := by unfold cmpI; rw [if_pos (by omega)]
            have h5 : cmpL a b = -1 := by simp [cmpL, lessL, hn, h3]
            simp (config := { maxSteps := 1000000 }) [-List.map_map, -List.mapM_map, ↓awp_skip, ↓awp_regionB, ↓awp_seq, ↓awp_block, ↓awp_exit, ↓awp_ret, ↓awp_label, ↓awp_scope, ↓awp_condB, ↓awp_loopB, ↓ow_nil', ↓ow_cons0, ↓ow_cons1, ↓o1_move, ↓o1_assign, ↓o1_pick, ↓o1_alloc, ↓o1_box, ↓o1_build, ↓o1_buildSlice, ↓o1_makeSlice, ↓o1_makeMap, ↓o1_binOp, ↓o1_unOp, ↓o1_convert, ↓o1_fieldAddr, ↓o1_field, ↓o1_indexAddr, ↓o1_extract, ↓o1_slice, ↓o1_len, ↓o1_max, ↓o1_min, ↓o1_load, ↓o1_lookup, ↓o1_store, ↓o1_mapUpdate, ↓o1_append, ↓o1_delete, ↓o1_call, encM, h4, h5]
          · have h3 := val_lt_of hb (i := k) hn.symm hkb hd.symm (by rw [ga, gb]; omega)
            have h4 : cmpI a[k] b[k] = 1 := by unfold cmpI; rw [if_neg (by omega), if_pos (by omega)]
            have h6 : ¬ val a < val b := by omega
            have h5 : cmpL a b = 1 := by simp [cmpL, lessL, hn, h3, h6]
            simp (config := { maxSteps := 1000000 }) [-List.map_map, -List.mapM_map, ↓awp_skip, ↓awp_regionB, ↓awp_seq, ↓awp_block, ↓awp_exit, ↓awp_ret, ↓awp_label, ↓awp_scope, ↓awp_condB, ↓awp_loopB, ↓ow_nil', ↓ow_cons0, ↓ow_cons1, ↓o1_move, ↓o1_assign, ↓o1_pick, ↓o1_alloc, ↓o1_box, ↓o1_build, ↓o1_buildSlice, ↓o1_makeSlice, ↓o1_makeMap, ↓o1_binOp, ↓o1_unOp, ↓o1_convert, ↓o1_fieldAddr, ↓o1_field, ↓o1_indexAddr, ↓o1_extract, ↓o1_slice, ↓o1_len, ↓o1_max, ↓o1_min, ↓o1_load, ↓o1_lookup, ↓o1_store, ↓o1_mapUpdate, ↓o1_append, ↓o1_delete, ↓o1_call, encM, h4, h5]

end Go.Am

open Go Go.Am Go.Proofs
namespace Go.Am
set_option linter.unusedSimpArgs false

/-- Limbs, and zeros up to a length. -/
def zp (out : List Nat) (n : Nat) : List Nat := out ++ List.replicate (n - out.length) 0
theorem zp_len {out : List Nat} {n : Nat} (h : out.length ≤ n) : (zp out n).length = n := by simp [zp]; omega
theorem zp_full {out : List Nat} {n : Nat} (h : out.length = n) : zp out n = out := by subst h; simp [zp]
theorem zp_nil (n : Nat) : zp [] n = List.replicate n 0 := by simp [zp]
theorem zp_set {out : List Nat} {n i : Nat} (h : out.length = i) (hi : i < n) (v : Nat) : (zp out n).set i v = zp (out ++ [v]) n := by
  subst h
  unfold zp
  obtain ⟨k, hk⟩ : ∃ k, n - out.length = k + 1 := ⟨n - out.length - 1, by omega⟩
  rw [hk, List.set_append_right _ _ (Nat.le_refl _), Nat.sub_self, List.replicate_succ, List.set_cons_zero, List.length_append, List.length_singleton, show n - (out.length + 1) = k from by omega, List.append_assoc]
  rfl
theorem zp_lay {out : List Nat} {n i : Nat} (h : out.length = i) (hi : i < n) (v : Nat) : lay (List.map AV.d (lms (zp out n))) i [AV.d (D.i .u32 (v : Int))] = List.map AV.d (lms (zp (out ++ [v]) n)) := by
  rw [lay_one _ _ _ (by rw [lms_len, zp_len (by omega)]; exact hi), lms_set, zp_set h hi]
theorem shr32 {t : Nat} : shiftA .shr .u64 (t : Int) 32 = some (.i .u64 ((t / 4294967296 : Nat) : Int)) := by
  simp only [shiftA, IntKind.bits]
  rw [if_neg (by decide)]
  congr 2
  rw [show (2 : Int) ^ (min (32 : Int).toNat 64) = 4294967296 from by decide, Int.fdiv_eq_ediv_of_nonneg _ (by decide)]
  omega
theorem shr63 {t : Int} (_h0 : 0 ≤ t) : shiftA .shr .u64 t 63 = some (.i .u64 (t / 9223372036854775808)) := by
  simp only [shiftA, IntKind.bits]
  rw [if_neg (by decide)]
  congr 2
  rw [show (2 : Int) ^ (min (63 : Int).toNat 64) = 9223372036854775808 from by decide, Int.fdiv_eq_ediv_of_nonneg _ (by decide)]

def ip (p q : List Nat) : List Nat := (plS p q p.length).1 ++ [(plS p q p.length).2]
theorem ip_val {p q : List Nat} (lp : Lim p) (lq : Lim q) (h : q.length ≤ p.length) : val (ip p q) = val p + val q ∧ Lim (ip p q) ∧ (ip p q).length = p.length + 1 := by
  obtain ⟨h1, h2, h3, h4⟩ := plS_inv lp lq p.length
  rw [List.take_of_length_le (Nat.le_refl _), List.take_of_length_le h] at h4
  unfold ip
  refine ⟨?_, h3.app (.one (by omega)), by simp [h1]⟩
  rw [val_app, h1]
  simp only [val, Nat.mul_zero, Nat.add_zero]
  exact h4
def iplusR (a b : List Nat) : List Nat := if a.length < b.length then ip b a else ip a b
theorem iplusR_val {a b : List Nat} (ha : Lim a) (hb : Lim b) : val (iplusR a b) = val a + val b ∧ Lim (iplusR a b) ∧ (iplusR a b).length ≤ a.length + b.length + 1 := by
  unfold iplusR
  by_cases h : a.length < b.length
  · rw [if_pos h]
    obtain ⟨h1, h2, h3⟩ := ip_val hb ha (by omega)
    exact ⟨by omega, h2, by omega⟩
  · rw [if_neg h]
    obtain ⟨h1, h2, h3⟩ := ip_val ha hb (by omega)
    exact ⟨h1, h2, by omega⟩

set_option maxRecDepth 10000 in
theorem intPlus (a b : List Nat) (ha : Lim a) (hb : Lim b) (hla : a.length ≤ 274877906944) (hlb : b.length ≤ 274877906944) : Spec Try.prog 113 [encM a, encM b] (encM (iplusR a b)) := by
  refine spec_of (N := 57) follows_mixed Try.func113 rfl rfl rfl (by kernel_rfl) (by kernel_rfl) (by simp) ?_
  obtain ⟨p, q, lp, lq, hqp, hpl, hr, hc⟩ : ∃ p q : List Nat, Lim p ∧ Lim q ∧ q.length ≤ p.length ∧ p.length ≤ 274877906944 ∧ iplusR a b = ip p q ∧ ((a.length < b.length ∧ p = b ∧ q = a) ∨ (¬ a.length < b.length ∧ p = a ∧ q = b)) := by
    by_cases h : a.length < b.length
    · exact ⟨b, a, hb, ha, by omega, hlb, by simp [iplusR, h], .inl ⟨h, rfl, rfl⟩⟩
    · exact ⟨a, b, ha, hb, by omega, hla, by simp [iplusR, h], .inr ⟨h, rfl, rfl⟩⟩
  rw [hr]
  obtain ⟨n, hn⟩ : ∃ n, p.length + 1 = n := ⟨_, rfl⟩
  have hw2 : IntKind.i64.wrap ((p.length : Int) + 1) = (n : Int) := by rw [wrap_i64 (by omega) (by omega)]; omega
  have hm1 : (4 : Int) * n ≤ 281474976710656 := by omega
  have hm2 : (n : Int) ≤ 9223372036854775807 := by omega
  rcases hc with ⟨h, hp, hq⟩ | ⟨h, hp, hq⟩ <;> subst hp <;> subst hq
  · have h1 : (q.length : Int) < p.length := by omega
    simp (config := { maxSteps := 1000000 }) [-List.map_map, -List.mapM_map, ↓awp_skip, ↓awp_regionB, ↓awp_seq, ↓awp_block, ↓awp_exit, ↓awp_ret, ↓awp_label, ↓awp_scope, ↓awp_condB, ↓awp_loopB, ↓ow_nil', ↓ow_cons0, ↓ow_cons1, ↓o1_move, ↓o1_assign, ↓o1_pick, ↓o1_alloc, ↓o1_box, ↓o1_build, ↓o1_buildSlice, ↓o1_makeSlice, ↓o1_makeMap, ↓o1_binOp, ↓o1_unOp, ↓o1_convert, ↓o1_fieldAddr, ↓o1_field, ↓o1_indexAddr, ↓o1_extract, ↓o1_slice, ↓o1_len, ↓o1_max, ↓o1_min, ↓o1_load, ↓o1_lookup, ↓o1_store, ↓o1_mapUpdate, ↓o1_append, ↓o1_delete, ↓o1_call, encM, h1, hw2, hm1, hm2]
    refine loopP_inv (fun i : Nat => i ≤ p.length) (fun i => StL [(0, .d (encM p)), (1, .d (encM q)), (5, .own 1 0 n 1), (6, .d (.i .u64 (plS p q i).2)), (20, .d (.i .i64 p.length)), (21, .d (.i .i64 i))] none [.cells 104 ((lms (zp (plS p q i).1 n)).map .d)]) (fun i => p.length - i) 0 (Nat.zero_le _) ?_ ?_
    · refine wk_l [1] (by simp) ?_ ?_ <;> simp [-List.map_map, upd, inj1, Γ0, encM, plS, zp_nil]
    · intro i hi
      obtain ⟨hlen, hc, _, _⟩ := plS_inv lp lq i
      have hsucc : plS p q (i + 1) = ((plS p q i).1 ++ [((plS p q i).2 + p.getD i 0 + q.getD i 0) % 4294967296], ((plS p q i).2 + p.getD i 0 + q.getD i 0) / 4294967296) := rfl
      have hal := lp.getD i
      have hbl := lq.getD i
      have hres : i = p.length → (plS p q i).1 ++ [(plS p q i).2] = ip p q := fun e => by rw [e]; rfl
      generalize hout : (plS p q i).1 = out at *
      generalize hcar : (plS p q i).2 = c at *
      have hzl : (zp out n).length = n := zp_len (by omega)
      by_cases hgo : i < p.length
      · have hw7 : IntKind.i64.wrap ((i : Int) + 1) = (i : Int) + 1 := wrap_i64 (by omega) (by omega)
        have q1 : (i : Int) < p.length := by omega
        have q3 : (i : Int) < n := by omega
        have q4 : i + 1 ≤ n := by omega
        have g1 := getD_some hgo
        have hb0 : ¬ i < q.length → q.getD i 0 = 0 := getD_none
        have g2 : i < q.length → q[i]? = some (q.getD i 0) := getD_some
        generalize p.getD i 0 = x at *
        generalize q.getD i 0 = y at *
        obtain ⟨s1, hs1⟩ : ∃ s1 : Nat, c + x = s1 := ⟨_, rfl⟩
        obtain ⟨s2, hs2⟩ : ∃ s2 : Nat, s1 + y = s2 := ⟨_, rfl⟩
        rw [hs1, hs2] at hsucc
        have hwx : IntKind.u64.wrap (x : Int) = x := wrap_u64 (by omega) (by omega)
        have hwy : IntKind.u64.wrap (y : Int) = y := wrap_u64 (by omega) (by omega)
        have hw1 : IntKind.u64.wrap ((c : Int) + x) = s1 := by rw [wrap_u64 (by omega) (by omega)]; omega
        have hw2' : IntKind.u64.wrap ((s1 : Int) + y) = s2 := by rw [wrap_u64 (by omega) (by omega)]; omega
        obtain ⟨lo, hlo⟩ : ∃ lo : Nat, s2 % 4294967296 = lo := ⟨_, rfl⟩
        have hsh := shr32 (t := s2)
        obtain ⟨hi', hhi⟩ : ∃ hi' : Nat, s2 / 4294967296 = hi' := ⟨_, rfl⟩
        rw [hhi] at hsh
        have hw3 : IntKind.u32.wrap (s2 : Int) = lo := by rw [wrap_u32m]; omega
        rw [hlo, hhi] at hsucc
        have hlay := zp_lay hlen (show i < n by omega) lo
        by_cases hbn : i < q.length
        · have q2 : (i : Int) < q.length := by omega
          have g3 := g2 hbn
          simp (config := { maxSteps := 1000000 }) [-List.map_map, -List.mapM_map, ↓awp_skip, ↓awp_regionB, ↓awp_seq, ↓awp_block, ↓awp_exit, ↓awp_ret, ↓awp_label, ↓awp_scope, ↓awp_condB, ↓awp_loopB, ↓ow_nil', ↓ow_cons0, ↓ow_cons1, ↓o1_move, ↓o1_assign, ↓o1_pick, ↓o1_alloc, ↓o1_box, ↓o1_build, ↓o1_buildSlice, ↓o1_makeSlice, ↓o1_makeMap, ↓o1_binOp, ↓o1_unOp, ↓o1_convert, ↓o1_fieldAddr, ↓o1_field, ↓o1_indexAddr, ↓o1_extract, ↓o1_slice, ↓o1_len, ↓o1_max, ↓o1_min, ↓o1_load, ↓o1_lookup, ↓o1_store, ↓o1_mapUpdate, ↓o1_append, ↓o1_delete, ↓o1_call, encM, q1, q2, q3, q4, g1, g3, hwx, hwy, hw1, hw2', hw3, hsh, hlay, hw7, hzl]
          refine nxt_intro (i + 1) hgo ?_ (wk_l [1] (by simp) ?_ ?_)
          · omega
          · simp [-List.map_map, upd, inj1, Γ0, encM, hsucc]
          · simp [-List.map_map, upd, inj1, Γ0, encM, hsucc]
        · have q2 : ¬ (i : Int) < q.length := by omega
          have e2 : s2 = s1 := by have := hb0 hbn; omega
          rw [e2] at hw3 hsh
          simp (config := { maxSteps := 1000000 }) [-List.map_map, -List.mapM_map, ↓awp_skip, ↓awp_regionB, ↓awp_seq, ↓awp_block, ↓awp_exit, ↓awp_ret, ↓awp_label, ↓awp_scope, ↓awp_condB, ↓awp_loopB, ↓ow_nil', ↓ow_cons0, ↓ow_cons1, ↓o1_move, ↓o1_assign, ↓o1_pick, ↓o1_alloc, ↓o1_box, ↓o1_build, ↓o1_buildSlice, ↓o1_makeSlice, ↓o1_makeMap, ↓o1_binOp, ↓o1_unOp, ↓o1_convert, ↓o1_fieldAddr, ↓o1_field, ↓o1_indexAddr, ↓o1_extract, ↓o1_slice, ↓o1_len, ↓o1_max, ↓o1_min, ↓o1_load, ↓o1_lookup, ↓o1_store, ↓o1_mapUpdate, ↓o1_append, ↓o1_delete, ↓o1_call, encM, q1, q2, q3, q4, g1, hwx, hw1, hw3, hsh, hlay, hw7, hzl]
          refine nxt_intro (i + 1) hgo ?_ (wk_l [1] (by simp) ?_ ?_)
          · omega
          · simp [-List.map_map, upd, inj1, Γ0, encM, hsucc]
          · simp [-List.map_map, upd, inj1, Γ0, encM, hsucc]
      · have e : i = p.length := by omega
        have h1 : ¬ (i : Int) < p.length := by omega
        have h4 := hres e
        have hn' : (p.length : Int) < n := by omega
        have hn2 : p.length + 1 ≤ n := by omega
        have hw3 : IntKind.u32.wrap (c : Int) = c := wrap_u32 (by omega) (by omega)
        have hlay := zp_lay (hlen.trans e) (show p.length < n by omega) c
        have hfl : (out ++ [c]).length = n := by simp; omega
        have h5 : zp (out ++ [c]) n = out ++ [c] := zp_full hfl
        rw [h5, h4] at hlay
        rw [h4] at hfl
        simp (config := { maxSteps := 1000000 }) [-List.map_map, -List.mapM_map, ↓awp_skip, ↓awp_regionB, ↓awp_seq, ↓awp_block, ↓awp_exit, ↓awp_ret, ↓awp_label, ↓awp_scope, ↓awp_condB, ↓awp_loopB, ↓ow_nil', ↓ow_cons0, ↓ow_cons1, ↓o1_move, ↓o1_assign, ↓o1_pick, ↓o1_alloc, ↓o1_box, ↓o1_build, ↓o1_buildSlice, ↓o1_makeSlice, ↓o1_makeMap, ↓o1_binOp, ↓o1_unOp, ↓o1_convert, ↓o1_fieldAddr, ↓o1_field, ↓o1_indexAddr, ↓o1_extract, ↓o1_slice, ↓o1_len, ↓o1_max, ↓o1_min, ↓o1_load, ↓o1_lookup, ↓o1_store, ↓o1_mapUpdate, ↓o1_append, ↓o1_delete, ↓o1_call, encM, h1, hn', hn2, hw3, hlay, hzl, hfl, chunk_lms hfl, lms_take_all hfl]
  · have h1 : ¬ (p.length : Int) < q.length := by omega
    simp (config := { maxSteps := 1000000 }) [-List.map_map, -List.mapM_map, ↓awp_skip, ↓awp_regionB, ↓awp_seq, ↓awp_block, ↓awp_exit, ↓awp_ret, ↓awp_label, ↓awp_scope, ↓awp_condB, ↓awp_loopB, ↓ow_nil', ↓ow_cons0, ↓ow_cons1, ↓o1_move, ↓o1_assign, ↓o1_pick, ↓o1_alloc, ↓o1_box, ↓o1_build, ↓o1_buildSlice, ↓o1_makeSlice, ↓o1_makeMap, ↓o1_binOp, ↓o1_unOp, ↓o1_convert, ↓o1_fieldAddr, ↓o1_field, ↓o1_indexAddr, ↓o1_extract, ↓o1_slice, ↓o1_len, ↓o1_max, ↓o1_min, ↓o1_load, ↓o1_lookup, ↓o1_store, ↓o1_mapUpdate, ↓o1_append, ↓o1_delete, ↓o1_call, encM, h1, hw2, hm1, hm2]
    refine loopP_inv (fun i : Nat => i ≤ p.length) (fun i => StL [(0, .d (encM p)), (1, .d (encM q)), (5, .own 1 0 n 1), (6, .d (.i .u64 (plS p q i).2)), (20, .d (.i .i64 p.length)), (21, .d (.i .i64 i))] none [.cells 104 ((lms (zp (plS p q i).1 n)).map .d)]) (fun i => p.length - i) 0 (Nat.zero_le _) ?_ ?_
    · refine wk_l [1] (by simp) ?_ ?_ <;> simp [-List.map_map, upd, inj1, Γ0, encM, plS, zp_nil]
    · intro i hi
      obtain ⟨hlen, hc, _, _⟩ := plS_inv lp lq i
      have hsucc : plS p q (i + 1) = ((plS p q i).1 ++ [((plS p q i).2 + p.getD i 0 + q.getD i 0) % 4294967296], ((plS p q i).2 + p.getD i 0 + q.getD i 0) / 4294967296) := rfl
      have hal := lp.getD i
      have hbl := lq.getD i
      have hres : i = p.length → (plS p q i).1 ++ [(plS p q i).2] = ip p q := fun e => by rw [e]; rfl
      generalize hout : (plS p q i).1 = out at *
      generalize hcar : (plS p q i).2 = c at *
      have hzl : (zp out n).length = n := zp_len (by omega)
      by_cases hgo : i < p.length
      · have hw7 : IntKind.i64.wrap ((i : Int) + 1) = (i : Int) + 1 := wrap_i64 (by omega) (by omega)
        have q1 : (i : Int) < p.length := by omega
        have q3 : (i : Int) < n := by omega
        have q4 : i + 1 ≤ n := by omega
        have g1 := getD_some hgo
        have hb0 : ¬ i < q.length → q.getD i 0 = 0 := getD_none
        have g2 : i < q.length → q[i]? = some (q.getD i 0) := getD_some
        generalize p.getD i 0 = x at *
        generalize q.getD i 0 = y at *
        obtain ⟨s1, hs1⟩ : ∃ s1 : Nat, c + x = s1 := ⟨_, rfl⟩
        obtain ⟨s2, hs2⟩ : ∃ s2 : Nat, s1 + y = s2 := ⟨_, rfl⟩
        rw [hs1, hs2] at hsucc
        have hwx : IntKind.u64.wrap (x : Int) = x := wrap_u64 (by omega) (by omega)
        have hwy : IntKind.u64.wrap (y : Int) = y := wrap_u64 (by omega) (by omega)
        have hw1 : IntKind.u64.wrap ((c : Int) + x) = s1 := by rw [wrap_u64 (by omega) (by omega)]; omega
        have hw2' : IntKind.u64.wrap ((s1 : Int) + y) = s2 := by rw [wrap_u64 (by omega) (by omega)]; omega
        obtain ⟨lo, hlo⟩ : ∃ lo : Nat, s2 % 4294967296 = lo := ⟨_, rfl⟩
        have hsh := shr32 (t := s2)
        obtain ⟨hi', hhi⟩ : ∃ hi' : Nat, s2 / 4294967296 = hi' := ⟨_, rfl⟩
        rw [hhi] at hsh
        have hw3 : IntKind.u32.wrap (s2 : Int) = lo := by rw [wrap_u32m]; omega
        rw [hlo, hhi] at hsucc
        have hlay := zp_lay hlen (show i < n by omega) lo
        by_cases hbn : i < q.length
        · have q2 : (i : Int) < q.length := by omega
          have g3 := g2 hbn
          simp (config := { maxSteps := 1000000 }) [-List.map_map, -List.mapM_map, ↓awp_skip, ↓awp_regionB, ↓awp_seq, ↓awp_block, ↓awp_exit, ↓awp_ret, ↓awp_label, ↓awp_scope, ↓awp_condB, ↓awp_loopB, ↓ow_nil', ↓ow_cons0, ↓ow_cons1, ↓o1_move, ↓o1_assign, ↓o1_pick, ↓o1_alloc, ↓o1_box, ↓o1_build, ↓o1_buildSlice, ↓o1_makeSlice, ↓o1_makeMap, ↓o1_binOp, ↓o1_unOp, ↓o1_convert, ↓o1_fieldAddr, ↓o1_field, ↓o1_indexAddr, ↓o1_extract, ↓o1_slice, ↓o1_len, ↓o1_max, ↓o1_min, ↓o1_load, ↓o1_lookup, ↓o1_store, ↓o1_mapUpdate, ↓o1_append, ↓o1_delete, ↓o1_call, encM, q1, q2, q3, q4, g1, g3, hwx, hwy, hw1, hw2', hw3, hsh, hlay, hw7, hzl]
          refine nxt_intro (i + 1) hgo ?_ (wk_l [1] (by simp) ?_ ?_)
          · omega
          · simp [-List.map_map, upd, inj1, Γ0, encM, hsucc]
          · simp [-List.map_map, upd, inj1, Γ0, encM, hsucc]
        · have q2 : ¬ (i : Int) < q.length := by omega
          have e2 : s2 = s1 := by have := hb0 hbn; omega
          rw [e2] at hw3 hsh
          simp (config := { maxSteps := 1000000 }) [-List.map_map, -List.mapM_map, ↓awp_skip, ↓awp_regionB, ↓awp_seq, ↓awp_block, ↓awp_exit, ↓awp_ret, ↓awp_label, ↓awp_scope, ↓awp_condB, ↓awp_loopB, ↓ow_nil', ↓ow_cons0, ↓ow_cons1, ↓o1_move, ↓o1_assign, ↓o1_pick, ↓o1_alloc, ↓o1_box, ↓o1_build, ↓o1_buildSlice, ↓o1_makeSlice, ↓o1_makeMap, ↓o1_binOp, ↓o1_unOp, ↓o1_convert, ↓o1_fieldAddr, ↓o1_field, ↓o1_indexAddr, ↓o1_extract, ↓o1_slice, ↓o1_len, ↓o1_max, ↓o1_min, ↓o1_load, ↓o1_lookup, ↓o1_store, ↓o1_mapUpdate, ↓o1_append, ↓o1_delete, ↓o1_call, encM, q1, q2, q3, q4, g1, hwx, hw1, hw3, hsh, hlay, hw7, hzl]
          refine nxt_intro (i + 1) hgo ?_ (wk_l [1] (by simp) ?_ ?_)
          · omega
          · simp [-List.map_map, upd, inj1, Γ0, encM, hsucc]
          · simp [-List.map_map, upd, inj1, Γ0, encM, hsucc]
      · have e : i = p.length := by omega
        have h1 : ¬ (i : Int) < p.length := by omega
        have h4 := hres e
        have hn' : (p.length : Int) < n := by omega
        have hn2 : p.length + 1 ≤ n := by omega
        have hw3 : IntKind.u32.wrap (c : Int) = c := wrap_u32 (by omega) (by omega)
        have hlay := zp_lay (hlen.trans e) (show p.length < n by omega) c
        have hfl : (out ++ [c]).length = n := by simp; omega
        have h5 : zp (out ++ [c]) n = out ++ [c] := zp_full hfl
        rw [h5, h4] at hlay
        rw [h4] at hfl
        simp (config := { maxSteps := 1000000 }) [-List.map_map, -List.mapM_map, ↓awp_skip, ↓awp_regionB, ↓awp_seq, ↓awp_block, ↓awp_exit, ↓awp_ret, ↓awp_label, ↓awp_scope, ↓awp_condB, ↓awp_loopB, ↓ow_nil', ↓ow_cons0, ↓ow_cons1, ↓o1_move, ↓o1_assign, ↓o1_pick, ↓o1_alloc, ↓o1_box, ↓o1_build, ↓o1_buildSlice, ↓o1_makeSlice, ↓o1_makeMap, ↓o1_binOp, ↓o1_unOp, ↓o1_convert, ↓o1_fieldAddr, ↓o1_field, ↓o1_indexAddr, ↓o1_extract, ↓o1_slice, ↓o1_len, ↓o1_max, ↓o1_min, ↓o1_load, ↓o1_lookup, ↓o1_store, ↓o1_mapUpdate, ↓o1_append, ↓o1_delete, ↓o1_call, encM, h1, hn', hn2, hw3, hlay, hzl, hfl, chunk_lms hfl, lms_take_all hfl]

def iminusR (a b : List Nat) : List Nat := minusR a b

set_option maxRecDepth 10000 in
theorem intMinus (a b : List Nat) (ha : Lim a) (hb : Lim b) (hla : a.length ≤ 274877906944) : Spec Try.prog 115 [encM a, encM b] (encM (minusR a b)) := by
  refine spec_of (N := 44) follows_mixed Try.func115 rfl rfl rfl (by kernel_rfl) (by kernel_rfl) (by simp) ?_
  obtain ⟨n, hn⟩ : ∃ n, a.length = n := ⟨_, rfl⟩
  have hm1 : (4 : Int) * n ≤ 281474976710656 := by omega
  have hm2 : (n : Int) ≤ 9223372036854775807 := by omega
  simp (config := { maxSteps := 1000000 }) [-List.map_map, -List.mapM_map, ↓awp_skip, ↓awp_regionB, ↓awp_seq, ↓awp_block, ↓awp_exit, ↓awp_ret, ↓awp_label, ↓awp_scope, ↓awp_condB, ↓awp_loopB, ↓ow_nil', ↓ow_cons0, ↓ow_cons1, ↓o1_move, ↓o1_assign, ↓o1_pick, ↓o1_alloc, ↓o1_box, ↓o1_build, ↓o1_buildSlice, ↓o1_makeSlice, ↓o1_makeMap, ↓o1_binOp, ↓o1_unOp, ↓o1_convert, ↓o1_fieldAddr, ↓o1_field, ↓o1_indexAddr, ↓o1_extract, ↓o1_slice, ↓o1_len, ↓o1_max, ↓o1_min, ↓o1_load, ↓o1_lookup, ↓o1_store, ↓o1_mapUpdate, ↓o1_append, ↓o1_delete, ↓o1_call, encM, hn, hm1, hm2]
  refine loopP_inv (fun i : Nat => i ≤ n) (fun i => StL [(0, .d (encM a)), (1, .d (encM b)), (5, .own 1 0 n 1), (6, .d (.i .u64 (miS a b i).2)), (13, .d (.i .i64 n)), (14, .d (.i .i64 i))] none [.cells 104 ((lms (zp (miS a b i).1 n)).map .d)]) (fun i => n - i) 0 (Nat.zero_le _) ?_ ?_
  · refine wk_l [1] (by simp) ?_ ?_ <;> simp [-List.map_map, upd, inj1, Γ0, encM, miS, zp_nil, hn]
  · intro i hi
    obtain ⟨hlen, hc, _, _⟩ := miS_inv ha hb i
    have hsucc := miS_succ a b i
    have hal := ha.getD i
    have hbl := hb.getD i
    have hres : i = n → (miS a b i).1 = minusR a b := fun e => by rw [e, ← hn]; rfl
    generalize hout : (miS a b i).1 = out at *
    generalize hcar : (miS a b i).2 = c at *
    have hzl : (zp out n).length = n := zp_len (by omega)
    by_cases hgo : i < n
    · have hw7 : IntKind.i64.wrap ((i : Int) + 1) = (i : Int) + 1 := wrap_i64 (by omega) (by omega)
      have q1 : (i : Int) < n := by omega
      have q4 : i + 1 ≤ n := hgo
      have g1 := getD_some (l := a) (i := i) (by omega)
      have hb0 : ¬ i < b.length → b.getD i 0 = 0 := getD_none
      have g2 : i < b.length → b[i]? = some (b.getD i 0) := getD_some
      generalize a.getD i 0 = x at *
      generalize b.getD i 0 = y at *
      have hwx : IntKind.u64.wrap (x : Int) = x := wrap_u64 (by omega) (by omega)
      have hwy : IntKind.u64.wrap (y : Int) = y := wrap_u64 (by omega) (by omega)
      obtain ⟨d1, hd1⟩ : ∃ d1 : Int, IntKind.u64.wrap ((x : Int) - c) = d1 := ⟨_, rfl⟩
      obtain ⟨d, hd⟩ : ∃ d : Int, IntKind.u64.wrap (d1 - y) = d := ⟨_, rfl⟩
      have hd1' := hd1
      have hd' := hd
      rw [wrap_u64m] at hd1' hd'
      have hfin : ∃ (lo bw : Nat), miS a b (i + 1) = (out ++ [lo], bw) ∧ IntKind.u32.wrap d = lo ∧ shiftA .shr .u64 d 63 = some (.i .u64 (bw : Int)) := by
        by_cases hle : c + y ≤ x
        · rw [if_pos hle] at hsucc
          refine ⟨_, _, hsucc, ?_, ?_⟩
          · rw [wrap_u32m]; omega
          · rw [shr63 (by omega)]; congr 2; omega
        · rw [if_neg hle] at hsucc
          refine ⟨_, _, hsucc, ?_, ?_⟩
          · rw [wrap_u32m]; omega
          · rw [shr63 (by omega)]; congr 2; omega
      obtain ⟨lo, bw, hs, hlo, hbw⟩ := hfin
      have hlay := zp_lay hlen hgo lo
      by_cases hbn : i < b.length
      · have q2 : (i : Int) < b.length := by omega
        have g3 := g2 hbn
        simp (config := { maxSteps := 1000000 }) [-List.map_map, -List.mapM_map, ↓awp_skip, ↓awp_regionB, ↓awp_seq, ↓awp_block, ↓awp_exit, ↓awp_ret, ↓awp_label, ↓awp_scope, ↓awp_condB, ↓awp_loopB, ↓ow_nil', ↓ow_cons0, ↓ow_cons1, ↓o1_move, ↓o1_assign, ↓o1_pick, ↓o1_alloc, ↓o1_box, ↓o1_build, ↓o1_buildSlice, ↓o1_makeSlice, ↓o1_makeMap, ↓o1_binOp, ↓o1_unOp, ↓o1_convert, ↓o1_fieldAddr, ↓o1_field, ↓o1_indexAddr, ↓o1_extract, ↓o1_slice, ↓o1_len, ↓o1_max, ↓o1_min, ↓o1_load, ↓o1_lookup, ↓o1_store, ↓o1_mapUpdate, ↓o1_append, ↓o1_delete, ↓o1_call, encM, q1, q2, g1, g3, hwx, hwy, hd1, hd, hlo, hbw, hlay, hw7, hzl, q4]
        refine nxt_intro (i + 1) hgo ?_ (wk_l [1] (by simp) ?_ ?_)
        · omega
        · simp [-List.map_map, upd, inj1, Γ0, encM, hs]
        · simp [-List.map_map, upd, inj1, Γ0, encM, hs]
      · have q2 : ¬ (i : Int) < b.length := by omega
        have e1 : d1 = d := by have := hb0 hbn; omega
        rw [e1] at hd1
        simp (config := { maxSteps := 1000000 }) [-List.map_map, -List.mapM_map, ↓awp_skip, ↓awp_regionB, ↓awp_seq, ↓awp_block, ↓awp_exit, ↓awp_ret, ↓awp_label, ↓awp_scope, ↓awp_condB, ↓awp_loopB, ↓ow_nil', ↓ow_cons0, ↓ow_cons1, ↓o1_move, ↓o1_assign, ↓o1_pick, ↓o1_alloc, ↓o1_box, ↓o1_build, ↓o1_buildSlice, ↓o1_makeSlice, ↓o1_makeMap, ↓o1_binOp, ↓o1_unOp, ↓o1_convert, ↓o1_fieldAddr, ↓o1_field, ↓o1_indexAddr, ↓o1_extract, ↓o1_slice, ↓o1_len, ↓o1_max, ↓o1_min, ↓o1_load, ↓o1_lookup, ↓o1_store, ↓o1_mapUpdate, ↓o1_append, ↓o1_delete, ↓o1_call, encM, q1, q2, g1, hwx, hd1, hlo, hbw, hlay, hw7, hzl, q4]
        refine nxt_intro (i + 1) hgo ?_ (wk_l [1] (by simp) ?_ ?_)
        · omega
        · simp [-List.map_map, upd, inj1, Γ0, encM, hs]
        · simp [-List.map_map, upd, inj1, Γ0, encM, hs]
    · have e : i = n := by omega
      have h1 : ¬ (i : Int) < n := by omega
      have h4 := hres e
      have h5 : zp out n = out := zp_full (by omega)
      have hlen' : out.length = n := by omega
      simp (config := { maxSteps := 1000000 }) [-List.map_map, -List.mapM_map, ↓awp_skip, ↓awp_regionB, ↓awp_seq, ↓awp_block, ↓awp_exit, ↓awp_ret, ↓awp_label, ↓awp_scope, ↓awp_condB, ↓awp_loopB, ↓ow_nil', ↓ow_cons0, ↓ow_cons1, ↓o1_move, ↓o1_assign, ↓o1_pick, ↓o1_alloc, ↓o1_box, ↓o1_build, ↓o1_buildSlice, ↓o1_makeSlice, ↓o1_makeMap, ↓o1_binOp, ↓o1_unOp, ↓o1_convert, ↓o1_fieldAddr, ↓o1_field, ↓o1_indexAddr, ↓o1_extract, ↓o1_slice, ↓o1_len, ↓o1_max, ↓o1_min, ↓o1_load, ↓o1_lookup, ↓o1_store, ↓o1_mapUpdate, ↓o1_append, ↓o1_delete, ↓o1_call, encM, h1, h5, hlen', chunk_lms hlen', lms_take_all hlen', ← h4]

end Go.Am

open Go Go.Am Go.Proofs
namespace Go.Am
set_option linter.unusedSimpArgs false

theorem val_ge (l : List Nat) (j : Nat) : 4294967296 ^ j * l.getD j 0 ≤ val l := by
  have h := val_take_succ l j
  have e : val l = val (l.take (j + 1)) + 4294967296 ^ (l.take (j + 1)).length * val (l.drop (j + 1)) := by rw [← val_app, List.take_append_drop]
  have h2 : val (l.take (j + 1)) ≤ val l := by rw [e]; exact Nat.le_add_right _ _
  rw [h] at h2
  exact Nat.le_trans (Nat.le_add_left _ _) h2
theorem getD_zero_of_lt {l : List Nat} {j : Nat} (h : val l < 4294967296 ^ j) : l.getD j 0 = 0 := by
  have h1 := val_ge l j
  rcases Nat.eq_zero_or_pos (l.getD j 0) with h2 | h2
  · exact h2
  · exfalso
    have : 4294967296 ^ j * 1 ≤ 4294967296 ^ j * l.getD j 0 := Nat.mul_le_mul_left _ h2
    rw [Nat.mul_one] at this
    omega
theorem muI_above {out b : List Nat} {x i : Nat} (k j : Nat) (h : i + k ≤ j) : (muI out x b i k).1.getD j 0 = out.getD j 0 := by
  induction k with
  | zero => rfl
  | succ k ih =>
    have := ih (by omega)
    rw [← this]
    simp only [muI, List.getD_eq_getElem?_getD]
    rw [List.getElem?_set_ne (by omega)]
/-- The product, i rows laid in. -/
def tmO (a b : List Nat) : Nat → List Nat
  | 0 => List.replicate (a.length + b.length) 0
  | i + 1 => (muI (tmO a b i) (a.getD i 0) b i b.length).1.set (i + b.length) (muI (tmO a b i) (a.getD i 0) b i b.length).2
theorem tmO_inv {a b : List Nat} (ha : Lim a) (hb : Lim b) (i : Nat) (hi : i ≤ a.length) : (tmO a b i).length = a.length + b.length ∧ Lim (tmO a b i) ∧ val (tmO a b i) = val (a.take i) * val b := by
  induction i with
  | zero => exact ⟨by simp [tmO], .rep _, by simp [tmO, val_rep, val]⟩
  | succ i ih =>
    obtain ⟨h1, h2, h3⟩ := ih (by omega)
    have hv := muO_lt ha hb (i := i) (by omega)
    rw [← h3] at hv
    have hx := ha.getD i
    obtain ⟨q1, q2, q3, q4⟩ := muI_inv (x := a.getD i 0) (i := i) h2 hb hx (by omega) b.length (by omega)
    have habove := muI_above (out := tmO a b i) (b := b) (x := a.getD i 0) (i := i) b.length (i + b.length) (Nat.le_refl _)
    rw [getD_zero_of_lt hv] at habove
    rw [List.take_of_length_le (Nat.le_refl _)] at q4
    have hset := val_set (l := (muI (tmO a b i) (a.getD i 0) b i b.length).1) (j := i + b.length) (by omega) (muI (tmO a b i) (a.getD i 0) b i b.length).2
    rw [habove, Nat.mul_zero, Nat.add_zero, q4] at hset
    refine ⟨?_, q3.set _ q2, ?_⟩
    · show (List.set _ _ _).length = _
      rw [List.length_set, q1, h1]
    · show val (List.set _ _ _) = _
      rw [hset, h3, val_take_succ, Nat.add_mul, Nat.mul_assoc]
def timesR (a b : List Nat) : List Nat := tmO a b a.length
theorem timesR_val {a b : List Nat} (ha : Lim a) (hb : Lim b) : val (timesR a b) = val a * val b ∧ Lim (timesR a b) ∧ (timesR a b).length = a.length + b.length := by
  obtain ⟨h1, h2, h3⟩ := tmO_inv ha hb a.length (Nat.le_refl _)
  rw [List.take_of_length_le (Nat.le_refl _)] at h3
  exact ⟨h3, h2, h1⟩

set_option maxHeartbeats 1000000 in
set_option maxRecDepth 10000 in
theorem intTimes (a b : List Nat) (la : Lim a) (lb : Lim b) (hla : a.length ≤ 137438953472) (hlb : b.length ≤ 137438953472) : Spec Try.prog 109 [encM a, encM b] (encM (timesR a b)) := by
  refine spec_of (N := 66) follows_mixed Try.func109 rfl rfl rfl (by kernel_rfl) (by kernel_rfl) (by simp) ?_
  obtain ⟨n, hn⟩ : ∃ n, a.length + b.length = n := ⟨_, rfl⟩
  have hw1 : IntKind.i64.wrap ((a.length : Int) + b.length) = (n : Int) := by rw [wrap_i64 (by omega) (by omega)]; omega
  have hm1 : (4 : Int) * n ≤ 281474976710656 := by omega
  have hm2 : (n : Int) ≤ 9223372036854775807 := by omega
  have h00 : tmO a b 0 = List.replicate n 0 := by rw [← hn]; rfl
  simp (config := { maxSteps := 1000000 }) [-List.map_map, -List.mapM_map, ↓awp_skip, ↓awp_regionB, ↓awp_seq, ↓awp_block, ↓awp_exit, ↓awp_ret, ↓awp_label, ↓awp_scope, ↓awp_condB, ↓awp_loopB, ↓ow_nil', ↓ow_cons0, ↓ow_cons1, ↓o1_move, ↓o1_assign, ↓o1_pick, ↓o1_alloc, ↓o1_box, ↓o1_build, ↓o1_buildSlice, ↓o1_makeSlice, ↓o1_makeMap, ↓o1_binOp, ↓o1_unOp, ↓o1_convert, ↓o1_fieldAddr, ↓o1_field, ↓o1_indexAddr, ↓o1_extract, ↓o1_slice, ↓o1_len, ↓o1_max, ↓o1_min, ↓o1_load, ↓o1_lookup, ↓o1_store, ↓o1_mapUpdate, ↓o1_append, ↓o1_delete, ↓o1_call, encM, hw1, hm1, hm2]
  refine loopP_inv (fun i : Nat => i ≤ a.length)
    (fun i => StL [(0, .d (encM a)), (1, .d (encM b)), (5, .own 1 0 n 1), (17, .d (encM a)), (18, .d (.i .i64 a.length)), (19, .d (.i .i64 i))] none [.cells 104 ((lms (tmO a b i)).map .d)]) (fun i => a.length - i) 0 (Nat.zero_le _) ?_ ?_
  · refine wk_l [1] (by simp) ?_ ?_ <;> simp [-List.map_map, upd, inj1, Γ0, encM, h00]
  · intro i hi
    obtain ⟨ol, om, ov⟩ := tmO_inv la lb i hi
    rw [hn] at ol
    by_cases hgo : i < a.length
    · have q1 : (i : Int) < a.length := by omega
      have g1 := getD_some hgo
      have hsucc : tmO a b (i + 1) = (muI (tmO a b i) (a.getD i 0) b i b.length).1.set (i + b.length) (muI (tmO a b i) (a.getD i 0) b i b.length).2 := rfl
      have hal := la.getD i
      generalize hout : tmO a b i = out at *
      generalize a.getD i 0 = xv at *
      simp (config := { maxSteps := 1000000 }) [-List.map_map, -List.mapM_map, ↓awp_skip, ↓awp_regionB, ↓awp_seq, ↓awp_block, ↓awp_exit, ↓awp_ret, ↓awp_label, ↓awp_scope, ↓awp_condB, ↓awp_loopB, ↓ow_nil', ↓ow_cons0, ↓ow_cons1, ↓o1_move, ↓o1_assign, ↓o1_pick, ↓o1_alloc, ↓o1_box, ↓o1_build, ↓o1_buildSlice, ↓o1_makeSlice, ↓o1_makeMap, ↓o1_binOp, ↓o1_unOp, ↓o1_convert, ↓o1_fieldAddr, ↓o1_field, ↓o1_indexAddr, ↓o1_extract, ↓o1_slice, ↓o1_len, ↓o1_max, ↓o1_min, ↓o1_load, ↓o1_lookup, ↓o1_store, ↓o1_mapUpdate, ↓o1_append, ↓o1_delete, ↓o1_call, encM, q1, g1]
      have hwx : IntKind.u64.wrap (xv : Int) = xv := wrap_u64 (by omega) (by omega)
      refine loopP_inv (fun k : Nat => k ≤ b.length)
        (fun k => StL [(0, .d (encM a)), (1, .d (encM b)), (5, .own 1 0 n 1), (17, .d (encM a)), (18, .d (.i .i64 a.length)), (19, .d (.i .i64 i)), (6, .d (.i .i64 i)), (7, .d (.i .u32 xv)), (8, .d (.i .u64 (muI out xv b i k).2)), (24, .d (encM b)), (25, .d (.i .i64 b.length)), (26, .d (.i .i64 k))] none
          [.cells 104 ((lms (muI out xv b i k).1).map .d)]) (fun k => b.length - k) 0 (Nat.zero_le _) ?_ ?_
      · refine wk_l [1] (by simp) ?_ ?_ <;> simp [-List.map_map, upd, inj1, Γ0, encM, muI]
      · intro k hk
        obtain ⟨il, ic, im, _⟩ := muI_inv om lb hal (i := i) (by omega) k (by omega)
        have isucc : muI out xv b i (k + 1) = ((muI out xv b i k).1.set (i + k) (((muI out xv b i k).2 + (muI out xv b i k).1.getD (i + k) 0 + xv * b.getD k 0) % 4294967296), ((muI out xv b i k).2 + (muI out xv b i k).1.getD (i + k) 0 + xv * b.getD k 0) / 4294967296) := rfl
        have hres : k = b.length → tmO a b (i + 1) = (muI out xv b i k).1.set (i + b.length) (muI out xv b i k).2 := fun e => by rw [e]; exact hsucc
        clear hsucc
        have ho := im.getD (i + k)
        generalize hcar : (muI out xv b i k).2 = c at *
        generalize hcur : (muI out xv b i k).1 = cur at *
        have hgj : List.length cur = n := by omega
        by_cases hkb : k < b.length
        · obtain ⟨j, hj⟩ : ∃ j, i + k = j := ⟨_, rfl⟩
          rw [hj] at isucc ho
          have hjl : j < cur.length := by omega
          have g2 := lms_get (getD_some hjl)
          have hwj : IntKind.i64.wrap ((i : Int) + k) = j := by rw [wrap_i64 (by omega) (by omega)]; omega
          have hjn : (j : Int) < n := by omega
          have hw8 : IntKind.i64.wrap ((k : Int) + 1) = (k : Int) + 1 := wrap_i64 (by omega) (by omega)
          have hjl2 : j < (lms cur).length := by rw [lms_len]; exact hjl
          have hjl3 : j + 1 ≤ n := by omega
          have hyb := lb.getD k
          have hlim := mu_lim ic ho hal hyb
          have g4 := getD_some hkb
          have q2 : (k : Int) < b.length := by omega
          generalize cur.getD j 0 = o at *
          generalize b.getD k 0 = yv at *
          obtain ⟨e, he⟩ : ∃ e : Nat, xv * yv = e := ⟨_, rfl⟩
          rw [he] at isucc hlim
          obtain ⟨s1, hs1⟩ : ∃ s1 : Nat, e + o = s1 := ⟨_, rfl⟩
          obtain ⟨t, ht⟩ : ∃ t : Nat, c + o + e = t := ⟨_, rfl⟩
          rw [ht] at isucc hlim
          obtain ⟨lo, hlo⟩ : ∃ lo : Nat, t % 4294967296 = lo := ⟨_, rfl⟩
          have hsh := shr32 (t := t)
          obtain ⟨hi', hhi⟩ : ∃ hi' : Nat, t / 4294967296 = hi' := ⟨_, rfl⟩
          rw [hlo, hhi] at isucc
          rw [hhi] at hsh
          have hwo : IntKind.u64.wrap (o : Int) = o := wrap_u64 (by omega) (by omega)
          have hwy : IntKind.u64.wrap (yv : Int) = yv := wrap_u64 (by omega) (by omega)
          have hwm : IntKind.u64.wrap ((xv : Int) * yv) = e := by rw [← Int.natCast_mul, he, wrap_u64 (by omega) (by omega)]
          have hws : IntKind.u64.wrap ((e : Int) + o) = s1 := by rw [wrap_u64 (by omega) (by omega)]; omega
          have hwt : IntKind.u64.wrap ((c : Int) + s1) = t := by rw [wrap_u64 (by omega) (by omega)]; omega
          have hwlo : IntKind.u32.wrap (t : Int) = lo := by rw [wrap_u32m]; omega
          have hlay : lay (List.map AV.d (lms cur)) j [AV.d (D.i .u32 (lo : Int))] = List.map AV.d (lms (cur.set j lo)) := by
            rw [lay_one _ _ _ hjl2, lms_set]
          simp (config := { maxSteps := 1000000 }) [-List.map_map, -List.mapM_map, ↓awp_skip, ↓awp_regionB, ↓awp_seq, ↓awp_block, ↓awp_exit, ↓awp_ret, ↓awp_label, ↓awp_scope, ↓awp_condB, ↓awp_loopB, ↓ow_nil', ↓ow_cons0, ↓ow_cons1, ↓o1_move, ↓o1_assign, ↓o1_pick, ↓o1_alloc, ↓o1_box, ↓o1_build, ↓o1_buildSlice, ↓o1_makeSlice, ↓o1_makeMap, ↓o1_binOp, ↓o1_unOp, ↓o1_convert, ↓o1_fieldAddr, ↓o1_field, ↓o1_indexAddr, ↓o1_extract, ↓o1_slice, ↓o1_len, ↓o1_max, ↓o1_min, ↓o1_load, ↓o1_lookup, ↓o1_store, ↓o1_mapUpdate, ↓o1_append, ↓o1_delete, ↓o1_call, encM, q2, hwj, hjn, g2, hwo, hws, g1, g4, hwx, hwy, hwm, hwt, hwlo, hsh, hlay, hw8, hjl3, hgj]
          refine nxt_intro (k + 1) hkb ?_ (wk_l [1] (by simp) ?_ ?_)
          · omega
          · simp [-List.map_map, upd, inj1, Γ0, encM, isucc]
          · simp [-List.map_map, upd, inj1, Γ0, encM, isucc]
        · have q2 : ¬ (k : Int) < b.length := by omega
          have hfin := hres (by omega)
          have hw8 : IntKind.i64.wrap ((i : Int) + 1) = (i : Int) + 1 := wrap_i64 (by omega) (by omega)
          obtain ⟨j, hj⟩ : ∃ j, i + b.length = j := ⟨_, rfl⟩
          rw [hj] at hfin
          have hwj : IntKind.i64.wrap ((i : Int) + b.length) = j := by rw [wrap_i64 (by omega) (by omega)]; omega
          have hjn : (j : Int) < n := by omega
          have hjl3 : j + 1 ≤ n := by omega
          have hjl2 : j < (lms cur).length := by rw [lms_len]; omega
          have hwc : IntKind.u32.wrap (c : Int) = c := wrap_u32 (by omega) (by omega)
          have hlay : lay (List.map AV.d (lms cur)) j [AV.d (D.i .u32 (c : Int))] = List.map AV.d (lms (cur.set j c)) := by
            rw [lay_one _ _ _ hjl2, lms_set]
          simp (config := { maxSteps := 1000000 }) [-List.map_map, -List.mapM_map, ↓awp_skip, ↓awp_regionB, ↓awp_seq, ↓awp_block, ↓awp_exit, ↓awp_ret, ↓awp_label, ↓awp_scope, ↓awp_condB, ↓awp_loopB, ↓ow_nil', ↓ow_cons0, ↓ow_cons1, ↓o1_move, ↓o1_assign, ↓o1_pick, ↓o1_alloc, ↓o1_box, ↓o1_build, ↓o1_buildSlice, ↓o1_makeSlice, ↓o1_makeMap, ↓o1_binOp, ↓o1_unOp, ↓o1_convert, ↓o1_fieldAddr, ↓o1_field, ↓o1_indexAddr, ↓o1_extract, ↓o1_slice, ↓o1_len, ↓o1_max, ↓o1_min, ↓o1_load, ↓o1_lookup, ↓o1_store, ↓o1_mapUpdate, ↓o1_append, ↓o1_delete, ↓o1_call, encM, q2, hw8, hwj, hjn, hjl3, hwc, hlay, hgj]
          refine nxt_intro (i + 1) hgo ?_ (wk_l [1] (by simp) ?_ ?_)
          · omega
          · simp [-List.map_map, upd, inj1, Γ0, encM, hfin]
          · simp [-List.map_map, upd, inj1, Γ0, encM, hfin]
    · have q1 : ¬ (i : Int) < a.length := by omega
      have e : i = a.length := by omega
      have e' : tmO a b i = timesR a b := by rw [e]; rfl
      rw [e'] at ol
      simp (config := { maxSteps := 1000000 }) [-List.map_map, -List.mapM_map, ↓awp_skip, ↓awp_regionB, ↓awp_seq, ↓awp_block, ↓awp_exit, ↓awp_ret, ↓awp_label, ↓awp_scope, ↓awp_condB, ↓awp_loopB, ↓ow_nil', ↓ow_cons0, ↓ow_cons1, ↓o1_move, ↓o1_assign, ↓o1_pick, ↓o1_alloc, ↓o1_box, ↓o1_build, ↓o1_buildSlice, ↓o1_makeSlice, ↓o1_makeMap, ↓o1_binOp, ↓o1_unOp, ↓o1_convert, ↓o1_fieldAddr, ↓o1_field, ↓o1_indexAddr, ↓o1_extract, ↓o1_slice, ↓o1_len, ↓o1_max, ↓o1_min, ↓o1_load, ↓o1_lookup, ↓o1_store, ↓o1_mapUpdate, ↓o1_append, ↓o1_delete, ↓o1_call, encM, q1, e', ol, chunk_lms ol, lms_take_all ol]

set_option maxHeartbeats 1000000 in
set_option maxRecDepth 10000 in
theorem intMulZ (x y : Int) (hx : (digs x.natAbs).length ≤ 137438953472) (hy : (digs y.natAbs).length ≤ 137438953472) : Spec Try.prog 69 [encZ x, encZ y] (encZ (x * y)) := by
  refine spec_of (N := 18) follows_mixed Try.func69 rfl rfl rfl (by kernel_rfl) (by kernel_rfl) (by simp) ?_
  have la := lim_digs x.natAbs
  have lb := lim_digs y.natAbs
  have va := val_digs x.natAbs
  have vb := val_digs y.natAbs
  have ta := intTrim (digs x.natAbs) (by omega)
  have tb := intTrim (digs y.natAbs) (by omega)
  rw [strip_digs la, va] at ta
  rw [strip_digs lb, vb] at tb
  have sx := sg_natAbs x
  have sy := sg_natAbs y
  have ex : encZ x = .ag [.b (decide (x < 0)), encM (digs x.natAbs)] := rfl
  have ey : encZ y = .ag [.b (decide (y < 0)), encM (digs y.natAbs)] := rfl
  rw [ex, ey]
  generalize digs x.natAbs = a at *
  generalize digs y.natAbs = b at *
  generalize hbx : decide (x < 0) = nx at *
  generalize hby : decide (y < 0) = ny at *
  obtain ⟨tv, tl, tn⟩ := timesR_val la lb
  simp (config := { maxSteps := 1000000 }) [-List.map_map, -List.mapM_map, ↓awp_skip, ↓awp_regionB, ↓awp_seq, ↓awp_block, ↓awp_exit, ↓awp_ret, ↓awp_label, ↓awp_scope, ↓awp_condB, ↓awp_loopB, ↓ow_nil', ↓ow_cons0, ↓ow_cons1, ↓o1_move, ↓o1_assign, ↓o1_pick, ↓o1_alloc, ↓o1_box, ↓o1_build, ↓o1_buildSlice, ↓o1_makeSlice, ↓o1_makeMap, ↓o1_binOp, ↓o1_unOp, ↓o1_convert, ↓o1_fieldAddr, ↓o1_field, ↓o1_indexAddr, ↓o1_extract, ↓o1_slice, ↓o1_len, ↓o1_max, ↓o1_min, ↓o1_load, ↓o1_lookup, ↓o1_store, ↓o1_mapUpdate, ↓o1_append, ↓o1_delete, ↓o1_call, encM]
  refine callP_intro (ds := [encM a]) (by rfl) ta ?_
  simp (config := { maxSteps := 1000000 }) [-List.map_map, -List.mapM_map, ↓awp_skip, ↓awp_regionB, ↓awp_seq, ↓awp_block, ↓awp_exit, ↓awp_ret, ↓awp_label, ↓awp_scope, ↓awp_condB, ↓awp_loopB, ↓ow_nil', ↓ow_cons0, ↓ow_cons1, ↓o1_move, ↓o1_assign, ↓o1_pick, ↓o1_alloc, ↓o1_box, ↓o1_build, ↓o1_buildSlice, ↓o1_makeSlice, ↓o1_makeMap, ↓o1_binOp, ↓o1_unOp, ↓o1_convert, ↓o1_fieldAddr, ↓o1_field, ↓o1_indexAddr, ↓o1_extract, ↓o1_slice, ↓o1_len, ↓o1_max, ↓o1_min, ↓o1_load, ↓o1_lookup, ↓o1_store, ↓o1_mapUpdate, ↓o1_append, ↓o1_delete, ↓o1_call, encM]
  refine callP_intro (ds := [encM b]) (by rfl) tb ?_
  simp (config := { maxSteps := 1000000 }) [-List.map_map, -List.mapM_map, ↓awp_skip, ↓awp_regionB, ↓awp_seq, ↓awp_block, ↓awp_exit, ↓awp_ret, ↓awp_label, ↓awp_scope, ↓awp_condB, ↓awp_loopB, ↓ow_nil', ↓ow_cons0, ↓ow_cons1, ↓o1_move, ↓o1_assign, ↓o1_pick, ↓o1_alloc, ↓o1_box, ↓o1_build, ↓o1_buildSlice, ↓o1_makeSlice, ↓o1_makeMap, ↓o1_binOp, ↓o1_unOp, ↓o1_convert, ↓o1_fieldAddr, ↓o1_field, ↓o1_indexAddr, ↓o1_extract, ↓o1_slice, ↓o1_len, ↓o1_max, ↓o1_min, ↓o1_load, ↓o1_lookup, ↓o1_store, ↓o1_mapUpdate, ↓o1_append, ↓o1_delete, ↓o1_call, encM]
  refine callP_intro (ds := [encM a, encM b]) (by rfl) (intTimes a b la lb hx hy) ?_
  simp (config := { maxSteps := 1000000 }) [-List.map_map, -List.mapM_map, ↓awp_skip, ↓awp_regionB, ↓awp_seq, ↓awp_block, ↓awp_exit, ↓awp_ret, ↓awp_label, ↓awp_scope, ↓awp_condB, ↓awp_loopB, ↓ow_nil', ↓ow_cons0, ↓ow_cons1, ↓o1_move, ↓o1_assign, ↓o1_pick, ↓o1_alloc, ↓o1_box, ↓o1_build, ↓o1_buildSlice, ↓o1_makeSlice, ↓o1_makeMap, ↓o1_binOp, ↓o1_unOp, ↓o1_convert, ↓o1_fieldAddr, ↓o1_field, ↓o1_indexAddr, ↓o1_extract, ↓o1_slice, ↓o1_len, ↓o1_max, ↓o1_min, ↓o1_load, ↓o1_lookup, ↓o1_store, ↓o1_mapUpdate, ↓o1_append, ↓o1_delete, ↓o1_call, encM]
  have hm := intValueZ tl (by omega) (!(nx == ny))
  rw [tv, va, vb] at hm
  have e2 : sg (!(nx == ny)) (x.natAbs * y.natAbs) = x * y := by
    rw [← sx, ← sy]
    cases nx <;> cases ny <;> simp [sg, Int.mul_neg, Int.neg_mul]
  rw [e2] at hm
  refine callP_intro (ds := [.b (!(nx == ny)), encM (timesR a b)]) (by rfl) hm ?_
  simp (config := { maxSteps := 1000000 }) [-List.map_map, -List.mapM_map, ↓awp_skip, ↓awp_regionB, ↓awp_seq, ↓awp_block, ↓awp_exit, ↓awp_ret, ↓awp_label, ↓awp_scope, ↓awp_condB, ↓awp_loopB, ↓ow_nil', ↓ow_cons0, ↓ow_cons1, ↓o1_move, ↓o1_assign, ↓o1_pick, ↓o1_alloc, ↓o1_box, ↓o1_build, ↓o1_buildSlice, ↓o1_makeSlice, ↓o1_makeMap, ↓o1_binOp, ↓o1_unOp, ↓o1_convert, ↓o1_fieldAddr, ↓o1_field, ↓o1_indexAddr, ↓o1_extract, ↓o1_slice, ↓o1_len, ↓o1_max, ↓o1_min, ↓o1_load, ↓o1_lookup, ↓o1_store, ↓o1_mapUpdate, ↓o1_append, ↓o1_delete, ↓o1_call, encM, encZ, encI]

set_option maxHeartbeats 1000000 in
set_option maxRecDepth 10000 in
theorem intAddZ (x y : Int) (hx : (digs x.natAbs).length ≤ 137438953472) (hy : (digs y.natAbs).length ≤ 137438953472) : Spec Try.prog 79 [encZ x, encZ y] (encZ (x + y)) := by
  refine spec_of (N := 42) follows_mixed Try.func79 rfl rfl rfl (by kernel_rfl) (by kernel_rfl) (by simp) ?_
  have la := lim_digs x.natAbs
  have lb := lim_digs y.natAbs
  have va := val_digs x.natAbs
  have vb := val_digs y.natAbs
  have ta := intTrim (digs x.natAbs) (by omega)
  have tb := intTrim (digs y.natAbs) (by omega)
  rw [strip_digs la, va] at ta
  rw [strip_digs lb, vb] at tb
  have hless : (digs x.natAbs).length < (digs y.natAbs).length → x.natAbs < y.natAbs := lt_of_len_lt
  have hless2 : (digs y.natAbs).length < (digs x.natAbs).length → y.natAbs < x.natAbs := lt_of_len_lt
  have hl := intCompare _ _ la lb (by omega) (by omega)
  have hcmp : (x.natAbs < y.natAbs → cmpL (digs x.natAbs) (digs y.natAbs) < 0) ∧ (¬ x.natAbs < y.natAbs → ¬ cmpL (digs x.natAbs) (digs y.natAbs) < 0) := by
    unfold cmpL
    rw [lessL_digs, lessL_digs]
    constructor
    · intro h; rw [if_pos (by simpa using h)]; decide
    · intro h
      rw [if_neg (by simpa using h)]
      split <;> decide
  have sx := sg_natAbs x
  have sy := sg_natAbs y
  have ex : encZ x = .ag [.b (decide (x < 0)), encM (digs x.natAbs)] := rfl
  have ey : encZ y = .ag [.b (decide (y < 0)), encM (digs y.natAbs)] := rfl
  rw [ex, ey]
  generalize digs x.natAbs = a at *
  generalize digs y.natAbs = b at *
  generalize hbx : decide (x < 0) = nx at *
  generalize hby : decide (y < 0) = ny at *
  simp (config := { maxSteps := 1000000 }) [-List.map_map, -List.mapM_map, ↓awp_skip, ↓awp_regionB, ↓awp_seq, ↓awp_block, ↓awp_exit, ↓awp_ret, ↓awp_label, ↓awp_scope, ↓awp_condB, ↓awp_loopB, ↓ow_nil', ↓ow_cons0, ↓ow_cons1, ↓o1_move, ↓o1_assign, ↓o1_pick, ↓o1_alloc, ↓o1_box, ↓o1_build, ↓o1_buildSlice, ↓o1_makeSlice, ↓o1_makeMap, ↓o1_binOp, ↓o1_unOp, ↓o1_convert, ↓o1_fieldAddr, ↓o1_field, ↓o1_indexAddr, ↓o1_extract, ↓o1_slice, ↓o1_len, ↓o1_max, ↓o1_min, ↓o1_load, ↓o1_lookup, ↓o1_store, ↓o1_mapUpdate, ↓o1_append, ↓o1_delete, ↓o1_call, encM]
  refine callP_intro (ds := [encM a]) (by rfl) ta ?_
  simp (config := { maxSteps := 1000000 }) [-List.map_map, -List.mapM_map, ↓awp_skip, ↓awp_regionB, ↓awp_seq, ↓awp_block, ↓awp_exit, ↓awp_ret, ↓awp_label, ↓awp_scope, ↓awp_condB, ↓awp_loopB, ↓ow_nil', ↓ow_cons0, ↓ow_cons1, ↓o1_move, ↓o1_assign, ↓o1_pick, ↓o1_alloc, ↓o1_box, ↓o1_build, ↓o1_buildSlice, ↓o1_makeSlice, ↓o1_makeMap, ↓o1_binOp, ↓o1_unOp, ↓o1_convert, ↓o1_fieldAddr, ↓o1_field, ↓o1_indexAddr, ↓o1_extract, ↓o1_slice, ↓o1_len, ↓o1_max, ↓o1_min, ↓o1_load, ↓o1_lookup, ↓o1_store, ↓o1_mapUpdate, ↓o1_append, ↓o1_delete, ↓o1_call, encM]
  refine callP_intro (ds := [encM b]) (by rfl) tb ?_
  by_cases hn : nx = ny
  · have h1 : (nx == ny) = true := by simpa using hn
    simp (config := { maxSteps := 1000000 }) [-List.map_map, -List.mapM_map, ↓awp_skip, ↓awp_regionB, ↓awp_seq, ↓awp_block, ↓awp_exit, ↓awp_ret, ↓awp_label, ↓awp_scope, ↓awp_condB, ↓awp_loopB, ↓ow_nil', ↓ow_cons0, ↓ow_cons1, ↓o1_move, ↓o1_assign, ↓o1_pick, ↓o1_alloc, ↓o1_box, ↓o1_build, ↓o1_buildSlice, ↓o1_makeSlice, ↓o1_makeMap, ↓o1_binOp, ↓o1_unOp, ↓o1_convert, ↓o1_fieldAddr, ↓o1_field, ↓o1_indexAddr, ↓o1_extract, ↓o1_slice, ↓o1_len, ↓o1_max, ↓o1_min, ↓o1_load, ↓o1_lookup, ↓o1_store, ↓o1_mapUpdate, ↓o1_append, ↓o1_delete, ↓o1_call, encM, h1]
    obtain ⟨pv, pl, pn⟩ := iplusR_val la lb
    refine callP_intro (ds := [encM a, encM b]) (by rfl) (intPlus a b la lb (by omega) (by omega)) ?_
    simp (config := { maxSteps := 1000000 }) [-List.map_map, -List.mapM_map, ↓awp_skip, ↓awp_regionB, ↓awp_seq, ↓awp_block, ↓awp_exit, ↓awp_ret, ↓awp_label, ↓awp_scope, ↓awp_condB, ↓awp_loopB, ↓ow_nil', ↓ow_cons0, ↓ow_cons1, ↓o1_move, ↓o1_assign, ↓o1_pick, ↓o1_alloc, ↓o1_box, ↓o1_build, ↓o1_buildSlice, ↓o1_makeSlice, ↓o1_makeMap, ↓o1_binOp, ↓o1_unOp, ↓o1_convert, ↓o1_fieldAddr, ↓o1_field, ↓o1_indexAddr, ↓o1_extract, ↓o1_slice, ↓o1_len, ↓o1_max, ↓o1_min, ↓o1_load, ↓o1_lookup, ↓o1_store, ↓o1_mapUpdate, ↓o1_append, ↓o1_delete, ↓o1_call, encM]
    have hm := intValueZ pl (by omega) nx
    rw [pv, va, vb] at hm
    have e : sg nx (x.natAbs + y.natAbs) = x + y := by
      rw [← sx, ← sy, ← hn]; cases nx <;> simp [sg] <;> omega
    rw [e] at hm
    refine callP_intro (ds := [.b nx, encM (iplusR a b)]) (by rfl) hm ?_
    simp (config := { maxSteps := 1000000 }) [-List.map_map, -List.mapM_map, ↓awp_skip, ↓awp_regionB, ↓awp_seq, ↓awp_block, ↓awp_exit, ↓awp_ret, ↓awp_label, ↓awp_scope, ↓awp_condB, ↓awp_loopB, ↓ow_nil', ↓ow_cons0, ↓ow_cons1, ↓o1_move, ↓o1_assign, ↓o1_pick, ↓o1_alloc, ↓o1_box, ↓o1_build, ↓o1_buildSlice, ↓o1_makeSlice, ↓o1_makeMap, ↓o1_binOp, ↓o1_unOp, ↓o1_convert, ↓o1_fieldAddr, ↓o1_field, ↓o1_indexAddr, ↓o1_extract, ↓o1_slice, ↓o1_len, ↓o1_max, ↓o1_min, ↓o1_load, ↓o1_lookup, ↓o1_store, ↓o1_mapUpdate, ↓o1_append, ↓o1_delete, ↓o1_call, encM, encZ, encI]
  · have h1 : (nx == ny) = false := by simpa using hn
    simp (config := { maxSteps := 1000000 }) [-List.map_map, -List.mapM_map, ↓awp_skip, ↓awp_regionB, ↓awp_seq, ↓awp_block, ↓awp_exit, ↓awp_ret, ↓awp_label, ↓awp_scope, ↓awp_condB, ↓awp_loopB, ↓ow_nil', ↓ow_cons0, ↓ow_cons1, ↓o1_move, ↓o1_assign, ↓o1_pick, ↓o1_alloc, ↓o1_box, ↓o1_build, ↓o1_buildSlice, ↓o1_makeSlice, ↓o1_makeMap, ↓o1_binOp, ↓o1_unOp, ↓o1_convert, ↓o1_fieldAddr, ↓o1_field, ↓o1_indexAddr, ↓o1_extract, ↓o1_slice, ↓o1_len, ↓o1_max, ↓o1_min, ↓o1_load, ↓o1_lookup, ↓o1_store, ↓o1_mapUpdate, ↓o1_append, ↓o1_delete, ↓o1_call, encM, h1]
    refine callP_intro (ds := [encM a, encM b]) (by rfl) hl ?_
    by_cases hlt : x.natAbs < y.natAbs
    · have h2 := hcmp.1 hlt
      simp (config := { maxSteps := 1000000 }) [-List.map_map, -List.mapM_map, ↓awp_skip, ↓awp_regionB, ↓awp_seq, ↓awp_block, ↓awp_exit, ↓awp_ret, ↓awp_label, ↓awp_scope, ↓awp_condB, ↓awp_loopB, ↓ow_nil', ↓ow_cons0, ↓ow_cons1, ↓o1_move, ↓o1_assign, ↓o1_pick, ↓o1_alloc, ↓o1_box, ↓o1_build, ↓o1_buildSlice, ↓o1_makeSlice, ↓o1_makeMap, ↓o1_binOp, ↓o1_unOp, ↓o1_convert, ↓o1_fieldAddr, ↓o1_field, ↓o1_indexAddr, ↓o1_extract, ↓o1_slice, ↓o1_len, ↓o1_max, ↓o1_min, ↓o1_load, ↓o1_lookup, ↓o1_store, ↓o1_mapUpdate, ↓o1_append, ↓o1_delete, ↓o1_call, encM, h2]
      obtain ⟨pv, pl, pn⟩ := minusR_val lb la (by omega) (by omega)
      refine callP_intro (ds := [encM b, encM a]) (by rfl) (intMinus b a lb la (by omega)) ?_
      simp (config := { maxSteps := 1000000 }) [-List.map_map, -List.mapM_map, ↓awp_skip, ↓awp_regionB, ↓awp_seq, ↓awp_block, ↓awp_exit, ↓awp_ret, ↓awp_label, ↓awp_scope, ↓awp_condB, ↓awp_loopB, ↓ow_nil', ↓ow_cons0, ↓ow_cons1, ↓o1_move, ↓o1_assign, ↓o1_pick, ↓o1_alloc, ↓o1_box, ↓o1_build, ↓o1_buildSlice, ↓o1_makeSlice, ↓o1_makeMap, ↓o1_binOp, ↓o1_unOp, ↓o1_convert, ↓o1_fieldAddr, ↓o1_field, ↓o1_indexAddr, ↓o1_extract, ↓o1_slice, ↓o1_len, ↓o1_max, ↓o1_min, ↓o1_load, ↓o1_lookup, ↓o1_store, ↓o1_mapUpdate, ↓o1_append, ↓o1_delete, ↓o1_call, encM]
      have hm := intValueZ pl (by omega) ny
      rw [pv, va, vb] at hm
      have e : sg ny (y.natAbs - x.natAbs) = x + y := by
        rw [← sx, ← sy]
        cases nx <;> cases ny <;> simp [sg] at hn ⊢ <;> omega
      rw [e] at hm
      refine callP_intro (ds := [.b ny, encM (minusR b a)]) (by rfl) hm ?_
      simp (config := { maxSteps := 1000000 }) [-List.map_map, -List.mapM_map, ↓awp_skip, ↓awp_regionB, ↓awp_seq, ↓awp_block, ↓awp_exit, ↓awp_ret, ↓awp_label, ↓awp_scope, ↓awp_condB, ↓awp_loopB, ↓ow_nil', ↓ow_cons0, ↓ow_cons1, ↓o1_move, ↓o1_assign, ↓o1_pick, ↓o1_alloc, ↓o1_box, ↓o1_build, ↓o1_buildSlice, ↓o1_makeSlice, ↓o1_makeMap, ↓o1_binOp, ↓o1_unOp, ↓o1_convert, ↓o1_fieldAddr, ↓o1_field, ↓o1_indexAddr, ↓o1_extract, ↓o1_slice, ↓o1_len, ↓o1_max, ↓o1_min, ↓o1_load, ↓o1_lookup, ↓o1_store, ↓o1_mapUpdate, ↓o1_append, ↓o1_delete, ↓o1_call, encM, encZ, encI]
    · have h2 := hcmp.2 hlt
      simp (config := { maxSteps := 1000000 }) [-List.map_map, -List.mapM_map, ↓awp_skip, ↓awp_regionB, ↓awp_seq, ↓awp_block, ↓awp_exit, ↓awp_ret, ↓awp_label, ↓awp_scope, ↓awp_condB, ↓awp_loopB, ↓ow_nil', ↓ow_cons0, ↓ow_cons1, ↓o1_move, ↓o1_assign, ↓o1_pick, ↓o1_alloc, ↓o1_box, ↓o1_build, ↓o1_buildSlice, ↓o1_makeSlice, ↓o1_makeMap, ↓o1_binOp, ↓o1_unOp, ↓o1_convert, ↓o1_fieldAddr, ↓o1_field, ↓o1_indexAddr, ↓o1_extract, ↓o1_slice, ↓o1_len, ↓o1_max, ↓o1_min, ↓o1_load, ↓o1_lookup, ↓o1_store, ↓o1_mapUpdate, ↓o1_append, ↓o1_delete, ↓o1_call, encM, h2]
      obtain ⟨pv, pl, pn⟩ := minusR_val la lb (by omega) (by omega)
      refine callP_intro (ds := [encM a, encM b]) (by rfl) (intMinus a b la lb (by omega)) ?_
      simp (config := { maxSteps := 1000000 }) [-List.map_map, -List.mapM_map, ↓awp_skip, ↓awp_regionB, ↓awp_seq, ↓awp_block, ↓awp_exit, ↓awp_ret, ↓awp_label, ↓awp_scope, ↓awp_condB, ↓awp_loopB, ↓ow_nil', ↓ow_cons0, ↓ow_cons1, ↓o1_move, ↓o1_assign, ↓o1_pick, ↓o1_alloc, ↓o1_box, ↓o1_build, ↓o1_buildSlice, ↓o1_makeSlice, ↓o1_makeMap, ↓o1_binOp, ↓o1_unOp, ↓o1_convert, ↓o1_fieldAddr, ↓o1_field, ↓o1_indexAddr, ↓o1_extract, ↓o1_slice, ↓o1_len, ↓o1_max, ↓o1_min, ↓o1_load, ↓o1_lookup, ↓o1_store, ↓o1_mapUpdate, ↓o1_append, ↓o1_delete, ↓o1_call, encM]
      have hm := intValueZ pl (by omega) nx
      rw [pv, va, vb] at hm
      have e : sg nx (x.natAbs - y.natAbs) = x + y := by
        rw [← sx, ← sy]
        cases nx <;> cases ny <;> simp [sg] at hn ⊢ <;> omega
      rw [e] at hm
      refine callP_intro (ds := [.b nx, encM (minusR a b)]) (by rfl) hm ?_
      simp (config := { maxSteps := 1000000 }) [-List.map_map, -List.mapM_map, ↓awp_skip, ↓awp_regionB, ↓awp_seq, ↓awp_block, ↓awp_exit, ↓awp_ret, ↓awp_label, ↓awp_scope, ↓awp_condB, ↓awp_loopB, ↓ow_nil', ↓ow_cons0, ↓ow_cons1, ↓o1_move, ↓o1_assign, ↓o1_pick, ↓o1_alloc, ↓o1_box, ↓o1_build, ↓o1_buildSlice, ↓o1_makeSlice, ↓o1_makeMap, ↓o1_binOp, ↓o1_unOp, ↓o1_convert, ↓o1_fieldAddr, ↓o1_field, ↓o1_indexAddr, ↓o1_extract, ↓o1_slice, ↓o1_len, ↓o1_max, ↓o1_min, ↓o1_load, ↓o1_lookup, ↓o1_store, ↓o1_mapUpdate, ↓o1_append, ↓o1_delete, ↓o1_call, encM, encZ, encI]

end Go.Am

open Go Go.Am Go.Proofs
namespace Go.Am
set_option linter.unusedSimpArgs false

/-- A cell with its coefficient, as three cells. -/
def encF (f : Int × Int) : List D := [.i .i64 f.1, .b (decide (f.2 < 0)), encM (digs f.2.natAbs)]
def encC (l : List (Int × Int)) : D := .sl (l.map encF)
/-- The cells of a chain. -/
def fcs (l : List (Int × Int)) : List D := (l.map encF).flatten
theorem fcs_len (l : List (Int × Int)) : (fcs l).length = l.length * 3 := by
  unfold fcs
  induction l with
  | nil => rfl
  | cons x l ih => simp only [List.map_cons, List.flatten_cons, List.length_append, ih, encF, List.length_cons, List.length_nil]; omega
theorem fcs_nil : fcs [] = [] := rfl
theorem fcs_app (a b : List (Int × Int)) : fcs (a ++ b) = fcs a ++ fcs b := by simp [fcs]
theorem fcs_one (f : Int × Int) : fcs [f] = [.i .i64 f.1, .b (decide (f.2 < 0)), encM (digs f.2.natAbs)] := rfl
theorem fcs_two (f g : Int × Int) : fcs [f, g] = [.i .i64 f.1, .b (decide (f.2 < 0)), encM (digs f.2.natAbs), .i .i64 g.1, .b (decide (g.2 < 0)), encM (digs g.2.natAbs)] := rfl
theorem one_encM (m : List Nat) : one (.d (encM m)) = true := rfl
theorem cellsA_encM (m : List Nat) : cellsA (.d (encM m)) = some [.d (encM m)] := rfl
theorem inj1_encM (m : List Nat) : inj1 (encM m) = .d (encM m) := rfl
theorem fcs_all (l : List (Int × Int)) : ((fcs l).map AV.d).all one = true := by
  unfold fcs
  induction l with
  | nil => rfl
  | cons x l ih =>
    simp only [List.map_cons, List.flatten_cons, List.map_append, List.all_append, ih, Bool.and_true]
    rfl
theorem fcs_all' (l : List (Int × Int)) : (∀ x, x ∈ fcs l → one (AV.d x) = true) ↔ True := ⟨fun _ => trivial, fun _ _ hx => List.all_eq_true.1 (fcs_all l) _ (List.mem_map_of_mem hx)⟩
theorem chunk_fcs {l : List (Int × Int)} {n : Nat} (h : l.length = n) : chunk 3 n (fcs l) = l.map encF := by
  subst h
  have := chunk_three (l.map encF) (fun x hx => by obtain ⟨y, _, rfl⟩ := List.mem_map.1 hx; rfl)
  rwa [List.length_map] at this
theorem fcs_take_all {l : List (Int × Int)} {n : Nat} (h : l.length = n) : List.take (n * 3) ((fcs l).map AV.d) = (fcs l).map AV.d := List.take_of_length_le (by simp [fcs_len, h])
theorem okHead_encF (l : List (Int × Int)) : okHead 3 (l.map encF) = true := by cases l <;> rfl
theorem fcs_flat (l : List (Int × Int)) : (l.map encF).flatten = fcs l := rfl
theorem encF_eq (f : Int × Int) : encF f = [.i .i64 f.1, .b (decide (f.2 < 0)), encM (digs f.2.natAbs)] := rfl

theorem le_maxLen {n : Nat} (h : n ≤ 1099511627776) : n ≤ maxLen := Nat.le_trans h (by decide)

theorem app_bounds {n : Nat} (h : n ≤ 2147483648) : (n + 1) * 40 ≤ 140737488355328 ∧ n + 1 ≤ 1099511627776 ∧ (n + 1 + 1) * 40 ≤ 140737488355328 ∧ n + 1 + 1 ≤ 1099511627776 := by
  refine ⟨by omega, by omega, by omega, by omega⟩

/-- Numbers that the arithmetic takes. -/
def Sz (z : Int) : Prop := (digs z.natAbs).length ≤ 137438953472

theorem inj_encM (m : List Nat) : inj (encM m) = .d (encM m) := rfl
theorem kills_encM (H : Nat → Option HO) (avs : List AV) (m : List Nat) : killsOf H avs (encM m) = viss H avs := rfl
theorem encZ_sgn (z : Int) : encZ z = encI (decide (z < 0)) (digs z.natAbs) := rfl
theorem encZ_eq (z : Int) : encZ z = .ag [.b (decide (z < 0)), encM (digs z.natAbs)] := rfl
theorem encZ_zero : encZ 0 = .ag [.b false, .sl []] := by
  unfold encZ encI
  rw [show (0 : Int).natAbs = 0 from rfl, digs_zero]; rfl

/-- A map's element, at a map that is known. -/
theorem strip_zero_iff (z : Int) : strip (digs z.natAbs) = [] ↔ z = 0 := by
  rw [strip_digs (lim_digs _), val_digs, digs_eq_nil]; omega
theorem intSignZ (z : Int) (hz : Sz z) : Spec Try.prog 73 [encZ z] (.i .i64 z.sign) := by
  have := intSign (decide (z < 0)) (digs z.natAbs) (Nat.le_trans hz (by decide))
  have e : (if strip (digs z.natAbs) = [] then (0 : Int) else if (decide (z < 0)) = true then -1 else 1) = z.sign := by
    simp only [strip_zero_iff]
    rcases Int.lt_trichotomy z 0 with h | h | h
    · rw [if_neg (by omega), if_pos (by simpa using h), Int.sign_eq_neg_one_of_neg h]
    · subst h; rfl
    · rw [if_neg (by omega), if_neg (by simp; omega), Int.sign_eq_one_of_pos h]
  rwa [e] at this

end Go.Am
