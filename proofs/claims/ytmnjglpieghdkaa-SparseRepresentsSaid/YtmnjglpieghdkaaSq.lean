/- The check of chapter 06, run by the kernel. No condition. -/
import Derived.Test.YtmnjglpieghdkaaRg
import Derived.Test.YtmnjglpieghdkaaSs
import Derived.Test.YtmnjglpieghdkaaIi
import Derived.Test.YtmnjglpieghdkaaA4
open Go Go.Am Go.Proofs
namespace Go.Am
set_option linter.unusedSimpArgs false

set_option maxRecDepth 10000 in
theorem min1 (x : Int) : Spec Try.prog 112 [.sl [[.i .i64 x]]] (.i .i64 x) := by
  refine spec_of (N := 25) follows_mixed Try.func112 rfl rfl rfl (by kernel_rfl) (by kernel_rfl) (by simp) ?_
  simp (config := { maxSteps := 1000000 }) [-List.map_map, -List.mapM_map, ↓awp_skip, ↓awp_regionB, ↓awp_seq, ↓awp_block, ↓awp_exit, ↓awp_ret, ↓awp_label, ↓awp_scope, ↓awp_condB, ↓awp_loopB, ↓ow_nil', ↓ow_cons0, ↓ow_cons1, ↓o1_move, ↓o1_assign, ↓o1_pick, ↓o1_alloc, ↓o1_box, ↓o1_build, ↓o1_buildSlice, ↓o1_makeSlice, ↓o1_makeMap, ↓o1_binOp, ↓o1_unOp, ↓o1_convert, ↓o1_fieldAddr, ↓o1_field, ↓o1_indexAddr, ↓o1_extract, ↓o1_slice, ↓o1_len, ↓o1_max, ↓o1_min, ↓o1_load, ↓o1_lookup, ↓o1_store, ↓o1_mapUpdate, ↓o1_append, ↓o1_delete, ↓o1_call, ↓luP_succ, ↓o1_makeFunc, ↓o1_index, ↓o1_callV]
  refine loopP_lu 2 ?_
  simp (config := { maxSteps := 1000000 }) [-List.map_map, -List.mapM_map, ↓awp_skip, ↓awp_regionB, ↓awp_seq, ↓awp_block, ↓awp_exit, ↓awp_ret, ↓awp_label, ↓awp_scope, ↓awp_condB, ↓awp_loopB, ↓ow_nil', ↓ow_cons0, ↓ow_cons1, ↓o1_move, ↓o1_assign, ↓o1_pick, ↓o1_alloc, ↓o1_box, ↓o1_build, ↓o1_buildSlice, ↓o1_makeSlice, ↓o1_makeMap, ↓o1_binOp, ↓o1_unOp, ↓o1_convert, ↓o1_fieldAddr, ↓o1_field, ↓o1_indexAddr, ↓o1_extract, ↓o1_slice, ↓o1_len, ↓o1_max, ↓o1_min, ↓o1_load, ↓o1_lookup, ↓o1_store, ↓o1_mapUpdate, ↓o1_append, ↓o1_delete, ↓o1_call, ↓luP_succ, ↓o1_makeFunc, ↓o1_index, ↓o1_callV]

set_option maxRecDepth 10000 in
theorem min2 (x y : Int) : Spec Try.prog 112 [.sl [[.i .i64 x], [.i .i64 y]]] (.i .i64 (if y < x then y else x)) := by
  refine spec_of (N := 25) follows_mixed Try.func112 rfl rfl rfl (by kernel_rfl) (by kernel_rfl) (by simp) ?_
  simp (config := { maxSteps := 1000000 }) [-List.map_map, -List.mapM_map, ↓awp_skip, ↓awp_regionB, ↓awp_seq, ↓awp_block, ↓awp_exit, ↓awp_ret, ↓awp_label, ↓awp_scope, ↓awp_condB, ↓awp_loopB, ↓ow_nil', ↓ow_cons0, ↓ow_cons1, ↓o1_move, ↓o1_assign, ↓o1_pick, ↓o1_alloc, ↓o1_box, ↓o1_build, ↓o1_buildSlice, ↓o1_makeSlice, ↓o1_makeMap, ↓o1_binOp, ↓o1_unOp, ↓o1_convert, ↓o1_fieldAddr, ↓o1_field, ↓o1_indexAddr, ↓o1_extract, ↓o1_slice, ↓o1_len, ↓o1_max, ↓o1_min, ↓o1_load, ↓o1_lookup, ↓o1_store, ↓o1_mapUpdate, ↓o1_append, ↓o1_delete, ↓o1_call, ↓luP_succ, ↓o1_makeFunc, ↓o1_index, ↓o1_callV]
  refine loopP_lu 3 ?_
  have hw : IntKind.i64.wrap 2 = 2 := by decide
  simp (config := { maxSteps := 1000000 }) [-List.map_map, -List.mapM_map, ↓awp_skip, ↓awp_regionB, ↓awp_seq, ↓awp_block, ↓awp_exit, ↓awp_ret, ↓awp_label, ↓awp_scope, ↓awp_condB, ↓awp_loopB, ↓ow_nil', ↓ow_cons0, ↓ow_cons1, ↓o1_move, ↓o1_assign, ↓o1_pick, ↓o1_alloc, ↓o1_box, ↓o1_build, ↓o1_buildSlice, ↓o1_makeSlice, ↓o1_makeMap, ↓o1_binOp, ↓o1_unOp, ↓o1_convert, ↓o1_fieldAddr, ↓o1_field, ↓o1_indexAddr, ↓o1_extract, ↓o1_slice, ↓o1_len, ↓o1_max, ↓o1_min, ↓o1_load, ↓o1_lookup, ↓o1_store, ↓o1_mapUpdate, ↓o1_append, ↓o1_delete, ↓o1_call, ↓luP_succ, ↓o1_makeFunc, ↓o1_index, ↓o1_callV, hw]

end Go.Am

open Go Go.Am Go.Proofs
namespace Go.Am
set_option linter.unusedSimpArgs false

def zT : Tm := ⟨0, false, []⟩
/-- The columns of two rows, with what each has there. -/
def bothF : Nat → List Tm → List Tm → List (Int × Tm × Tm)
  | 0, _, _ => []
  | _ + 1, [], [] => []
  | n + 1, x :: a, [] => (x.col, x, zT) :: bothF n a []
  | n + 1, [], y :: b => (y.col, zT, y) :: bothF n [] b
  | n + 1, x :: a, y :: b => if y.col < x.col then (y.col, zT, y) :: bothF n (x :: a) b else if x.col < y.col then (x.col, x, zT) :: bothF n a (y :: b) else (x.col, x, y) :: bothF n a b
def bothL (a b : List Tm) : List (Int × Tm × Tm) := bothF (a.length + b.length) a b
def encP (p : Int × Tm × Tm) : List D := [.i .i64 p.1, .ag [.b p.2.1.neg, encM p.2.1.mag, .b p.2.2.neg, encM p.2.2.mag]]

theorem drop_cons {α : Type} {L : List α} {k : Nat} {p : α} {rest : List α} (h : L.drop k = p :: rest) : k + 1 ≤ L.length ∧ L.drop (k + 1) = rest ∧ L[k]? = some p := by
  have h1 : L[k]? = some p := by
    have := congrArg (fun l => l[0]?) h
    simpa using this
  have hlt := (List.getElem?_eq_some_iff.1 h1).1
  refine ⟨hlt, ?_, h1⟩
  rw [List.drop_eq_getElem_cons hlt] at h
  injection h

set_option maxHeartbeats 8000000 in
set_option maxRecDepth 10000 in
theorem bothSeq (a b : List Tm) (ha : a.length ≤ 1099511627776) (hb : b.length ≤ 1099511627776) : SeqSpec Try.prog 111 [.pt [encR a], .pt [encR b]] ((bothL a b).map encP) := by
  refine seq_of (N := 74) follows_mixed Try.func111 rfl rfl rfl (by kernel_rfl) (by kernel_rfl) (by simp) fun l => ?_
  refine awpY_seqL (by kernel_rfl) ?_
  simp (config := { maxSteps := 1000000 }) [-List.map_map, -List.mapM_map, ↓awp_skip, ↓awp_regionB, ↓awp_seq, ↓awp_block, ↓awp_exit, ↓awp_ret, ↓awp_label, ↓awp_scope, ↓awp_condB, ↓awp_loopB, ↓ow_nil', ↓ow_cons0, ↓ow_cons1, ↓o1_move, ↓o1_assign, ↓o1_pick, ↓o1_alloc, ↓o1_box, ↓o1_build, ↓o1_buildSlice, ↓o1_makeSlice, ↓o1_makeMap, ↓o1_binOp, ↓o1_unOp, ↓o1_convert, ↓o1_fieldAddr, ↓o1_field, ↓o1_indexAddr, ↓o1_extract, ↓o1_slice, ↓o1_len, ↓o1_max, ↓o1_min, ↓o1_load, ↓o1_lookup, ↓o1_store, ↓o1_mapUpdate, ↓o1_append, ↓o1_delete, ↓o1_call, ↓luP_succ, ↓o1_makeFunc, ↓o1_index, ↓o1_callV, encR]
  refine awpY_block ?_
  refine awpY_loop (τ := Nat × Nat × List Tm × List Tm) (by kernel_rfl) (fun x => x.2.2.1.length + x.2.2.2.length ≤ x.2.1 ∧ x.1 ≤ (bothL a b).length ∧ (bothL a b).drop x.1 = bothF x.2.1 x.2.2.1 x.2.2.2 ∧ x.2.2.1.length ≤ 1099511627776 ∧ x.2.2.2.length ≤ 1099511627776)
    (fun x => StL [(0, .d (.lit (.func (.yield l) #[] #[]))), (4, .ptr 1 0)] none [.cells 139 [.d (encR x.2.2.1), .d (encR x.2.2.2)]]) (fun x => x.1) (fun x => x.2.1) (0, a.length + b.length, a, b) ⟨Nat.le_refl _, Nat.zero_le _, rfl, ha, hb⟩ rfl ?_ ?_
  · refine wk_l [1] (by simp) ?_ ?_
    · simp [-List.map_map, upd, inj1, Γ0, encR]
    · simp [-List.map_map, upd, inj1, Γ0, encR]
  · rintro ⟨k, n, a', b'⟩ ⟨hn, hk, hd, ha', hb'⟩
    simp only at hn hk hd ha' hb' ⊢
    have hw1 : IntKind.i64.wrap 1 = 1 := by decide
    have hw2 : IntKind.i64.wrap 2 = 2 := by decide
    have hm1 : 1 ≤ maxLen := by decide
    have hm2 : 2 ≤ maxLen := by decide
    cases a' with
    | nil =>
      cases b' with
      | nil =>
        have hkl : k = (bothL a b).length := by
          have h0 : bothF n [] [] = [] := by cases n <;> rfl
          rw [h0, List.drop_eq_nil_iff] at hd
          omega
        refine awpY_seqL (by kernel_rfl) ?_
        simp (config := { maxSteps := 1000000 }) [-List.map_map, -List.mapM_map, ↓awp_skip, ↓awp_regionB, ↓awp_seq, ↓awp_block, ↓awp_exit, ↓awp_ret, ↓awp_label, ↓awp_scope, ↓awp_condB, ↓awp_loopB, ↓ow_nil', ↓ow_cons0, ↓ow_cons1, ↓o1_move, ↓o1_assign, ↓o1_pick, ↓o1_alloc, ↓o1_box, ↓o1_build, ↓o1_buildSlice, ↓o1_makeSlice, ↓o1_makeMap, ↓o1_binOp, ↓o1_unOp, ↓o1_convert, ↓o1_fieldAddr, ↓o1_field, ↓o1_indexAddr, ↓o1_extract, ↓o1_slice, ↓o1_len, ↓o1_max, ↓o1_min, ↓o1_load, ↓o1_lookup, ↓o1_store, ↓o1_mapUpdate, ↓o1_append, ↓o1_delete, ↓o1_call, ↓luP_succ, ↓o1_makeFunc, ↓o1_index, ↓o1_callV, encR]
        exact ⟨hkl, _, rfl⟩
      | cons y b' =>
        obtain ⟨yc, yn, ym⟩ := y
        have hpb : (1 : Int) ≤ (b'.length : Int) + 1 := by omega
        have htb : List.take b'.length (List.map encT b') = List.map encT b' := List.take_of_length_le (by simp)
        have hd' : (bothL a b).drop k = (yc, zT, ⟨yc, yn, ym⟩) :: bothF (n - 1) [] b' := by
          cases n with
          | zero => simp at hn
          | succ n => exact hd
        obtain ⟨hlt, hdn, hx0⟩ := drop_cons hd'
        have hx : ((bothL a b).map encP)[k]? = some (encP (yc, zT, ⟨yc, yn, ym⟩)) := by rw [List.getElem?_map, hx0]; rfl
        refine awpY_seqL (by kernel_rfl) ?_
        simp (config := { maxSteps := 1000000 }) [-List.map_map, -List.mapM_map, ↓awp_skip, ↓awp_regionB, ↓awp_seq, ↓awp_block, ↓awp_exit, ↓awp_ret, ↓awp_label, ↓awp_scope, ↓awp_condB, ↓awp_loopB, ↓ow_nil', ↓ow_cons0, ↓ow_cons1, ↓o1_move, ↓o1_assign, ↓o1_pick, ↓o1_alloc, ↓o1_box, ↓o1_build, ↓o1_buildSlice, ↓o1_makeSlice, ↓o1_makeMap, ↓o1_binOp, ↓o1_unOp, ↓o1_convert, ↓o1_fieldAddr, ↓o1_field, ↓o1_indexAddr, ↓o1_extract, ↓o1_slice, ↓o1_len, ↓o1_max, ↓o1_min, ↓o1_load, ↓o1_lookup, ↓o1_store, ↓o1_mapUpdate, ↓o1_append, ↓o1_delete, ↓o1_call, ↓luP_succ, ↓o1_makeFunc, ↓o1_index, ↓o1_callV, encR, encT_eq]
        refine awpY_block (awpY_seqL (by kernel_rfl) ?_)
        simp (config := { maxSteps := 1000000 }) [-List.map_map, -List.mapM_map, ↓awp_skip, ↓awp_regionB, ↓awp_seq, ↓awp_block, ↓awp_exit, ↓awp_ret, ↓awp_label, ↓awp_scope, ↓awp_condB, ↓awp_loopB, ↓ow_nil', ↓ow_cons0, ↓ow_cons1, ↓o1_move, ↓o1_assign, ↓o1_pick, ↓o1_alloc, ↓o1_box, ↓o1_build, ↓o1_buildSlice, ↓o1_makeSlice, ↓o1_makeMap, ↓o1_binOp, ↓o1_unOp, ↓o1_convert, ↓o1_fieldAddr, ↓o1_field, ↓o1_indexAddr, ↓o1_extract, ↓o1_slice, ↓o1_len, ↓o1_max, ↓o1_min, ↓o1_load, ↓o1_lookup, ↓o1_store, ↓o1_mapUpdate, ↓o1_append, ↓o1_delete, ↓o1_call, ↓luP_succ, ↓o1_makeFunc, ↓o1_index, ↓o1_callV, encR, encT_eq]
        refine awpY_seqL (by kernel_rfl) ?_
        simp (config := { maxSteps := 1000000 }) [-List.map_map, -List.mapM_map, ↓awp_skip, ↓awp_regionB, ↓awp_seq, ↓awp_block, ↓awp_exit, ↓awp_ret, ↓awp_label, ↓awp_scope, ↓awp_condB, ↓awp_loopB, ↓ow_nil', ↓ow_cons0, ↓ow_cons1, ↓o1_move, ↓o1_assign, ↓o1_pick, ↓o1_alloc, ↓o1_box, ↓o1_build, ↓o1_buildSlice, ↓o1_makeSlice, ↓o1_makeMap, ↓o1_binOp, ↓o1_unOp, ↓o1_convert, ↓o1_fieldAddr, ↓o1_field, ↓o1_indexAddr, ↓o1_extract, ↓o1_slice, ↓o1_len, ↓o1_max, ↓o1_min, ↓o1_load, ↓o1_lookup, ↓o1_store, ↓o1_mapUpdate, ↓o1_append, ↓o1_delete, ↓o1_call, ↓luP_succ, ↓o1_makeFunc, ↓o1_index, ↓o1_callV, encR, encT_eq]
        refine loopP_lu 3 ?_
        simp (config := { maxSteps := 1000000 }) [-List.map_map, -List.mapM_map, ↓awp_skip, ↓awp_regionB, ↓awp_seq, ↓awp_block, ↓awp_exit, ↓awp_ret, ↓awp_label, ↓awp_scope, ↓awp_condB, ↓awp_loopB, ↓ow_nil', ↓ow_cons0, ↓ow_cons1, ↓o1_move, ↓o1_assign, ↓o1_pick, ↓o1_alloc, ↓o1_box, ↓o1_build, ↓o1_buildSlice, ↓o1_makeSlice, ↓o1_makeMap, ↓o1_binOp, ↓o1_unOp, ↓o1_convert, ↓o1_fieldAddr, ↓o1_field, ↓o1_indexAddr, ↓o1_extract, ↓o1_slice, ↓o1_len, ↓o1_max, ↓o1_min, ↓o1_load, ↓o1_lookup, ↓o1_store, ↓o1_mapUpdate, ↓o1_append, ↓o1_delete, ↓o1_call, ↓luP_succ, ↓o1_makeFunc, ↓o1_index, ↓o1_callV, encR, encT_eq, hw1, hw2, hm1, hm2]
        refine awpY_seqL (by kernel_rfl) ?_
        simp (config := { maxSteps := 1000000 }) [-List.map_map, -List.mapM_map, ↓awp_skip, ↓awp_regionB, ↓awp_seq, ↓awp_block, ↓awp_exit, ↓awp_ret, ↓awp_label, ↓awp_scope, ↓awp_condB, ↓awp_loopB, ↓ow_nil', ↓ow_cons0, ↓ow_cons1, ↓o1_move, ↓o1_assign, ↓o1_pick, ↓o1_alloc, ↓o1_box, ↓o1_build, ↓o1_buildSlice, ↓o1_makeSlice, ↓o1_makeMap, ↓o1_binOp, ↓o1_unOp, ↓o1_convert, ↓o1_fieldAddr, ↓o1_field, ↓o1_indexAddr, ↓o1_extract, ↓o1_slice, ↓o1_len, ↓o1_max, ↓o1_min, ↓o1_load, ↓o1_lookup, ↓o1_store, ↓o1_mapUpdate, ↓o1_append, ↓o1_delete, ↓o1_call, ↓luP_succ, ↓o1_makeFunc, ↓o1_index, ↓o1_callV, encR, encT_eq, hw1, hw2, hm1, hm2]
        refine callP_intro (ds := [.sl [[.i .i64 yc]]]) (by rfl) (min1 yc) ?_
        simp (config := { maxSteps := 1000000 }) [-List.map_map, -List.mapM_map, ↓awp_skip, ↓awp_regionB, ↓awp_seq, ↓awp_block, ↓awp_exit, ↓awp_ret, ↓awp_label, ↓awp_scope, ↓awp_condB, ↓awp_loopB, ↓ow_nil', ↓ow_cons0, ↓ow_cons1, ↓o1_move, ↓o1_assign, ↓o1_pick, ↓o1_alloc, ↓o1_box, ↓o1_build, ↓o1_buildSlice, ↓o1_makeSlice, ↓o1_makeMap, ↓o1_binOp, ↓o1_unOp, ↓o1_convert, ↓o1_fieldAddr, ↓o1_field, ↓o1_indexAddr, ↓o1_extract, ↓o1_slice, ↓o1_len, ↓o1_max, ↓o1_min, ↓o1_load, ↓o1_lookup, ↓o1_store, ↓o1_mapUpdate, ↓o1_append, ↓o1_delete, ↓o1_call, ↓luP_succ, ↓o1_makeFunc, ↓o1_index, ↓o1_callV, encR, encT_eq, hw1, hw2, hm1, hm2]
        refine awpY_seqL (by kernel_rfl) ?_
        simp (config := { maxSteps := 1000000 }) [-List.map_map, -List.mapM_map, ↓awp_skip, ↓awp_regionB, ↓awp_seq, ↓awp_block, ↓awp_exit, ↓awp_ret, ↓awp_label, ↓awp_scope, ↓awp_condB, ↓awp_loopB, ↓ow_nil', ↓ow_cons0, ↓ow_cons1, ↓o1_move, ↓o1_assign, ↓o1_pick, ↓o1_alloc, ↓o1_box, ↓o1_build, ↓o1_buildSlice, ↓o1_makeSlice, ↓o1_makeMap, ↓o1_binOp, ↓o1_unOp, ↓o1_convert, ↓o1_fieldAddr, ↓o1_field, ↓o1_indexAddr, ↓o1_extract, ↓o1_slice, ↓o1_len, ↓o1_max, ↓o1_min, ↓o1_load, ↓o1_lookup, ↓o1_store, ↓o1_mapUpdate, ↓o1_append, ↓o1_delete, ↓o1_call, ↓luP_succ, ↓o1_makeFunc, ↓o1_index, ↓o1_callV, encR, encT_eq, hw1, hw2, hm1, hm2]
        refine awpY_seqL (by kernel_rfl) ?_
        simp (config := { maxSteps := 1000000 }) [-List.map_map, -List.mapM_map, ↓awp_skip, ↓awp_regionB, ↓awp_seq, ↓awp_block, ↓awp_exit, ↓awp_ret, ↓awp_label, ↓awp_scope, ↓awp_condB, ↓awp_loopB, ↓ow_nil', ↓ow_cons0, ↓ow_cons1, ↓o1_move, ↓o1_assign, ↓o1_pick, ↓o1_alloc, ↓o1_box, ↓o1_build, ↓o1_buildSlice, ↓o1_makeSlice, ↓o1_makeMap, ↓o1_binOp, ↓o1_unOp, ↓o1_convert, ↓o1_fieldAddr, ↓o1_field, ↓o1_indexAddr, ↓o1_extract, ↓o1_slice, ↓o1_len, ↓o1_max, ↓o1_min, ↓o1_load, ↓o1_lookup, ↓o1_store, ↓o1_mapUpdate, ↓o1_append, ↓o1_delete, ↓o1_call, ↓luP_succ, ↓o1_makeFunc, ↓o1_index, ↓o1_callV, encR, encT_eq, hw1, hw2, hm1, hm2]
        refine loopP_lu 3 ?_
        simp (config := { maxSteps := 1000000 }) [-List.map_map, -List.mapM_map, ↓awp_skip, ↓awp_regionB, ↓awp_seq, ↓awp_block, ↓awp_exit, ↓awp_ret, ↓awp_label, ↓awp_scope, ↓awp_condB, ↓awp_loopB, ↓ow_nil', ↓ow_cons0, ↓ow_cons1, ↓o1_move, ↓o1_assign, ↓o1_pick, ↓o1_alloc, ↓o1_box, ↓o1_build, ↓o1_buildSlice, ↓o1_makeSlice, ↓o1_makeMap, ↓o1_binOp, ↓o1_unOp, ↓o1_convert, ↓o1_fieldAddr, ↓o1_field, ↓o1_indexAddr, ↓o1_extract, ↓o1_slice, ↓o1_len, ↓o1_max, ↓o1_min, ↓o1_load, ↓o1_lookup, ↓o1_store, ↓o1_mapUpdate, ↓o1_append, ↓o1_delete, ↓o1_call, ↓luP_succ, ↓o1_makeFunc, ↓o1_index, ↓o1_callV, encR, encT_eq, hw1, hw2, hm1, hm2, one_eM, cellsA_eM, hpb, htb]
        refine awpY_seq (awpY_yield rfl ?_)
        simp (config := { maxSteps := 1000000 }) [-List.map_map, -List.mapM_map, ↓awp_skip, ↓awp_regionB, ↓awp_seq, ↓awp_block, ↓awp_exit, ↓awp_ret, ↓awp_label, ↓awp_scope, ↓awp_condB, ↓awp_loopB, ↓ow_nil', ↓ow_cons0, ↓ow_cons1, ↓o1_move, ↓o1_assign, ↓o1_pick, ↓o1_alloc, ↓o1_box, ↓o1_build, ↓o1_buildSlice, ↓o1_makeSlice, ↓o1_makeMap, ↓o1_binOp, ↓o1_unOp, ↓o1_convert, ↓o1_fieldAddr, ↓o1_field, ↓o1_indexAddr, ↓o1_extract, ↓o1_slice, ↓o1_len, ↓o1_max, ↓o1_min, ↓o1_load, ↓o1_lookup, ↓o1_store, ↓o1_mapUpdate, ↓o1_append, ↓o1_delete, ↓o1_call, ↓luP_succ, ↓o1_makeFunc, ↓o1_index, ↓o1_callV, encR, encT_eq, hw1, hw2, hm1, hm2]
        refine yO_intro (dd := encP (yc, zT, ⟨yc, yn, ym⟩)) (l2 := []) (by rfl) (by rfl) hx (by rfl) ?_
        simp (config := { maxSteps := 1000000 }) [-List.map_map, -List.mapM_map, ↓awp_skip, ↓awp_regionB, ↓awp_seq, ↓awp_block, ↓awp_exit, ↓awp_ret, ↓awp_label, ↓awp_scope, ↓awp_condB, ↓awp_loopB, ↓ow_nil', ↓ow_cons0, ↓ow_cons1, ↓o1_move, ↓o1_assign, ↓o1_pick, ↓o1_alloc, ↓o1_box, ↓o1_build, ↓o1_buildSlice, ↓o1_makeSlice, ↓o1_makeMap, ↓o1_binOp, ↓o1_unOp, ↓o1_convert, ↓o1_fieldAddr, ↓o1_field, ↓o1_indexAddr, ↓o1_extract, ↓o1_slice, ↓o1_len, ↓o1_max, ↓o1_min, ↓o1_load, ↓o1_lookup, ↓o1_store, ↓o1_mapUpdate, ↓o1_append, ↓o1_delete, ↓o1_call, ↓luP_succ, ↓o1_makeFunc, ↓o1_index, ↓o1_callV, encR, encT_eq, used, fin]
        refine awpY_plain _ (by kernel_rfl) ?_
        simp (config := { maxSteps := 1000000 }) [-List.map_map, -List.mapM_map, ↓awp_skip, ↓awp_regionB, ↓awp_seq, ↓awp_block, ↓awp_exit, ↓awp_ret, ↓awp_label, ↓awp_scope, ↓awp_condB, ↓awp_loopB, ↓ow_nil', ↓ow_cons0, ↓ow_cons1, ↓o1_move, ↓o1_assign, ↓o1_pick, ↓o1_alloc, ↓o1_box, ↓o1_build, ↓o1_buildSlice, ↓o1_makeSlice, ↓o1_makeMap, ↓o1_binOp, ↓o1_unOp, ↓o1_convert, ↓o1_fieldAddr, ↓o1_field, ↓o1_indexAddr, ↓o1_extract, ↓o1_slice, ↓o1_len, ↓o1_max, ↓o1_min, ↓o1_load, ↓o1_lookup, ↓o1_store, ↓o1_mapUpdate, ↓o1_append, ↓o1_delete, ↓o1_call, ↓luP_succ, ↓o1_makeFunc, ↓o1_index, ↓o1_callV, encR, encT_eq]
        refine ⟨(k + 1, n - 1, [], b'), ⟨by simp at hn ⊢; omega, hlt, hdn, by simp at ha' ⊢; try omega, by simp at hb' ⊢; try omega⟩, by simp at hn ⊢; omega, rfl, wk_l [1] (by simp) ?_ ?_⟩ <;> simp [-List.map_map, upd, inj1, Γ0, encR, encT_eq]
    | cons x a' =>
      cases b' with
      | nil =>
        obtain ⟨xc, xn, xm⟩ := x
        have hpa : (1 : Int) ≤ (a'.length : Int) + 1 := by omega
        have hta : List.take a'.length (List.map encT a') = List.map encT a' := List.take_of_length_le (by simp)
        have hd' : (bothL a b).drop k = (xc, ⟨xc, xn, xm⟩, zT) :: bothF (n - 1) a' [] := by
          cases n with
          | zero => simp at hn
          | succ n => exact hd
        obtain ⟨hlt, hdn, hx0⟩ := drop_cons hd'
        have hx : ((bothL a b).map encP)[k]? = some (encP (xc, ⟨xc, xn, xm⟩, zT)) := by rw [List.getElem?_map, hx0]; rfl
        refine awpY_seqL (by kernel_rfl) ?_
        simp (config := { maxSteps := 1000000 }) [-List.map_map, -List.mapM_map, ↓awp_skip, ↓awp_regionB, ↓awp_seq, ↓awp_block, ↓awp_exit, ↓awp_ret, ↓awp_label, ↓awp_scope, ↓awp_condB, ↓awp_loopB, ↓ow_nil', ↓ow_cons0, ↓ow_cons1, ↓o1_move, ↓o1_assign, ↓o1_pick, ↓o1_alloc, ↓o1_box, ↓o1_build, ↓o1_buildSlice, ↓o1_makeSlice, ↓o1_makeMap, ↓o1_binOp, ↓o1_unOp, ↓o1_convert, ↓o1_fieldAddr, ↓o1_field, ↓o1_indexAddr, ↓o1_extract, ↓o1_slice, ↓o1_len, ↓o1_max, ↓o1_min, ↓o1_load, ↓o1_lookup, ↓o1_store, ↓o1_mapUpdate, ↓o1_append, ↓o1_delete, ↓o1_call, ↓luP_succ, ↓o1_makeFunc, ↓o1_index, ↓o1_callV, encR, encT_eq]
        refine awpY_block (awpY_seqL (by kernel_rfl) ?_)
        simp (config := { maxSteps := 1000000 }) [-List.map_map, -List.mapM_map, ↓awp_skip, ↓awp_regionB, ↓awp_seq, ↓awp_block, ↓awp_exit, ↓awp_ret, ↓awp_label, ↓awp_scope, ↓awp_condB, ↓awp_loopB, ↓ow_nil', ↓ow_cons0, ↓ow_cons1, ↓o1_move, ↓o1_assign, ↓o1_pick, ↓o1_alloc, ↓o1_box, ↓o1_build, ↓o1_buildSlice, ↓o1_makeSlice, ↓o1_makeMap, ↓o1_binOp, ↓o1_unOp, ↓o1_convert, ↓o1_fieldAddr, ↓o1_field, ↓o1_indexAddr, ↓o1_extract, ↓o1_slice, ↓o1_len, ↓o1_max, ↓o1_min, ↓o1_load, ↓o1_lookup, ↓o1_store, ↓o1_mapUpdate, ↓o1_append, ↓o1_delete, ↓o1_call, ↓luP_succ, ↓o1_makeFunc, ↓o1_index, ↓o1_callV, encR, encT_eq]
        refine awpY_seqL (by kernel_rfl) ?_
        simp (config := { maxSteps := 1000000 }) [-List.map_map, -List.mapM_map, ↓awp_skip, ↓awp_regionB, ↓awp_seq, ↓awp_block, ↓awp_exit, ↓awp_ret, ↓awp_label, ↓awp_scope, ↓awp_condB, ↓awp_loopB, ↓ow_nil', ↓ow_cons0, ↓ow_cons1, ↓o1_move, ↓o1_assign, ↓o1_pick, ↓o1_alloc, ↓o1_box, ↓o1_build, ↓o1_buildSlice, ↓o1_makeSlice, ↓o1_makeMap, ↓o1_binOp, ↓o1_unOp, ↓o1_convert, ↓o1_fieldAddr, ↓o1_field, ↓o1_indexAddr, ↓o1_extract, ↓o1_slice, ↓o1_len, ↓o1_max, ↓o1_min, ↓o1_load, ↓o1_lookup, ↓o1_store, ↓o1_mapUpdate, ↓o1_append, ↓o1_delete, ↓o1_call, ↓luP_succ, ↓o1_makeFunc, ↓o1_index, ↓o1_callV, encR, encT_eq]
        refine loopP_lu 3 ?_
        simp (config := { maxSteps := 1000000 }) [-List.map_map, -List.mapM_map, ↓awp_skip, ↓awp_regionB, ↓awp_seq, ↓awp_block, ↓awp_exit, ↓awp_ret, ↓awp_label, ↓awp_scope, ↓awp_condB, ↓awp_loopB, ↓ow_nil', ↓ow_cons0, ↓ow_cons1, ↓o1_move, ↓o1_assign, ↓o1_pick, ↓o1_alloc, ↓o1_box, ↓o1_build, ↓o1_buildSlice, ↓o1_makeSlice, ↓o1_makeMap, ↓o1_binOp, ↓o1_unOp, ↓o1_convert, ↓o1_fieldAddr, ↓o1_field, ↓o1_indexAddr, ↓o1_extract, ↓o1_slice, ↓o1_len, ↓o1_max, ↓o1_min, ↓o1_load, ↓o1_lookup, ↓o1_store, ↓o1_mapUpdate, ↓o1_append, ↓o1_delete, ↓o1_call, ↓luP_succ, ↓o1_makeFunc, ↓o1_index, ↓o1_callV, encR, encT_eq, hw1, hw2, hm1, hm2]
        refine awpY_seqL (by kernel_rfl) ?_
        simp (config := { maxSteps := 1000000 }) [-List.map_map, -List.mapM_map, ↓awp_skip, ↓awp_regionB, ↓awp_seq, ↓awp_block, ↓awp_exit, ↓awp_ret, ↓awp_label, ↓awp_scope, ↓awp_condB, ↓awp_loopB, ↓ow_nil', ↓ow_cons0, ↓ow_cons1, ↓o1_move, ↓o1_assign, ↓o1_pick, ↓o1_alloc, ↓o1_box, ↓o1_build, ↓o1_buildSlice, ↓o1_makeSlice, ↓o1_makeMap, ↓o1_binOp, ↓o1_unOp, ↓o1_convert, ↓o1_fieldAddr, ↓o1_field, ↓o1_indexAddr, ↓o1_extract, ↓o1_slice, ↓o1_len, ↓o1_max, ↓o1_min, ↓o1_load, ↓o1_lookup, ↓o1_store, ↓o1_mapUpdate, ↓o1_append, ↓o1_delete, ↓o1_call, ↓luP_succ, ↓o1_makeFunc, ↓o1_index, ↓o1_callV, encR, encT_eq, hw1, hw2, hm1, hm2]
        refine callP_intro (ds := [.sl [[.i .i64 xc]]]) (by rfl) (min1 xc) ?_
        simp (config := { maxSteps := 1000000 }) [-List.map_map, -List.mapM_map, ↓awp_skip, ↓awp_regionB, ↓awp_seq, ↓awp_block, ↓awp_exit, ↓awp_ret, ↓awp_label, ↓awp_scope, ↓awp_condB, ↓awp_loopB, ↓ow_nil', ↓ow_cons0, ↓ow_cons1, ↓o1_move, ↓o1_assign, ↓o1_pick, ↓o1_alloc, ↓o1_box, ↓o1_build, ↓o1_buildSlice, ↓o1_makeSlice, ↓o1_makeMap, ↓o1_binOp, ↓o1_unOp, ↓o1_convert, ↓o1_fieldAddr, ↓o1_field, ↓o1_indexAddr, ↓o1_extract, ↓o1_slice, ↓o1_len, ↓o1_max, ↓o1_min, ↓o1_load, ↓o1_lookup, ↓o1_store, ↓o1_mapUpdate, ↓o1_append, ↓o1_delete, ↓o1_call, ↓luP_succ, ↓o1_makeFunc, ↓o1_index, ↓o1_callV, encR, encT_eq, hw1, hw2, hm1, hm2]
        refine awpY_seqL (by kernel_rfl) ?_
        simp (config := { maxSteps := 1000000 }) [-List.map_map, -List.mapM_map, ↓awp_skip, ↓awp_regionB, ↓awp_seq, ↓awp_block, ↓awp_exit, ↓awp_ret, ↓awp_label, ↓awp_scope, ↓awp_condB, ↓awp_loopB, ↓ow_nil', ↓ow_cons0, ↓ow_cons1, ↓o1_move, ↓o1_assign, ↓o1_pick, ↓o1_alloc, ↓o1_box, ↓o1_build, ↓o1_buildSlice, ↓o1_makeSlice, ↓o1_makeMap, ↓o1_binOp, ↓o1_unOp, ↓o1_convert, ↓o1_fieldAddr, ↓o1_field, ↓o1_indexAddr, ↓o1_extract, ↓o1_slice, ↓o1_len, ↓o1_max, ↓o1_min, ↓o1_load, ↓o1_lookup, ↓o1_store, ↓o1_mapUpdate, ↓o1_append, ↓o1_delete, ↓o1_call, ↓luP_succ, ↓o1_makeFunc, ↓o1_index, ↓o1_callV, encR, encT_eq, hw1, hw2, hm1, hm2]
        refine awpY_seqL (by kernel_rfl) ?_
        simp (config := { maxSteps := 1000000 }) [-List.map_map, -List.mapM_map, ↓awp_skip, ↓awp_regionB, ↓awp_seq, ↓awp_block, ↓awp_exit, ↓awp_ret, ↓awp_label, ↓awp_scope, ↓awp_condB, ↓awp_loopB, ↓ow_nil', ↓ow_cons0, ↓ow_cons1, ↓o1_move, ↓o1_assign, ↓o1_pick, ↓o1_alloc, ↓o1_box, ↓o1_build, ↓o1_buildSlice, ↓o1_makeSlice, ↓o1_makeMap, ↓o1_binOp, ↓o1_unOp, ↓o1_convert, ↓o1_fieldAddr, ↓o1_field, ↓o1_indexAddr, ↓o1_extract, ↓o1_slice, ↓o1_len, ↓o1_max, ↓o1_min, ↓o1_load, ↓o1_lookup, ↓o1_store, ↓o1_mapUpdate, ↓o1_append, ↓o1_delete, ↓o1_call, ↓luP_succ, ↓o1_makeFunc, ↓o1_index, ↓o1_callV, encR, encT_eq, hw1, hw2, hm1, hm2]
        refine loopP_lu 3 ?_
        simp (config := { maxSteps := 1000000 }) [-List.map_map, -List.mapM_map, ↓awp_skip, ↓awp_regionB, ↓awp_seq, ↓awp_block, ↓awp_exit, ↓awp_ret, ↓awp_label, ↓awp_scope, ↓awp_condB, ↓awp_loopB, ↓ow_nil', ↓ow_cons0, ↓ow_cons1, ↓o1_move, ↓o1_assign, ↓o1_pick, ↓o1_alloc, ↓o1_box, ↓o1_build, ↓o1_buildSlice, ↓o1_makeSlice, ↓o1_makeMap, ↓o1_binOp, ↓o1_unOp, ↓o1_convert, ↓o1_fieldAddr, ↓o1_field, ↓o1_indexAddr, ↓o1_extract, ↓o1_slice, ↓o1_len, ↓o1_max, ↓o1_min, ↓o1_load, ↓o1_lookup, ↓o1_store, ↓o1_mapUpdate, ↓o1_append, ↓o1_delete, ↓o1_call, ↓luP_succ, ↓o1_makeFunc, ↓o1_index, ↓o1_callV, encR, encT_eq, hw1, hw2, hm1, hm2, one_eM, cellsA_eM, hpa, hta]
        refine awpY_seq (awpY_yield rfl ?_)
        simp (config := { maxSteps := 1000000 }) [-List.map_map, -List.mapM_map, ↓awp_skip, ↓awp_regionB, ↓awp_seq, ↓awp_block, ↓awp_exit, ↓awp_ret, ↓awp_label, ↓awp_scope, ↓awp_condB, ↓awp_loopB, ↓ow_nil', ↓ow_cons0, ↓ow_cons1, ↓o1_move, ↓o1_assign, ↓o1_pick, ↓o1_alloc, ↓o1_box, ↓o1_build, ↓o1_buildSlice, ↓o1_makeSlice, ↓o1_makeMap, ↓o1_binOp, ↓o1_unOp, ↓o1_convert, ↓o1_fieldAddr, ↓o1_field, ↓o1_indexAddr, ↓o1_extract, ↓o1_slice, ↓o1_len, ↓o1_max, ↓o1_min, ↓o1_load, ↓o1_lookup, ↓o1_store, ↓o1_mapUpdate, ↓o1_append, ↓o1_delete, ↓o1_call, ↓luP_succ, ↓o1_makeFunc, ↓o1_index, ↓o1_callV, encR, encT_eq, hw1, hw2, hm1, hm2]
        refine yO_intro (dd := encP (xc, ⟨xc, xn, xm⟩, zT)) (l2 := []) (by rfl) (by rfl) hx (by rfl) ?_
        simp (config := { maxSteps := 1000000 }) [-List.map_map, -List.mapM_map, ↓awp_skip, ↓awp_regionB, ↓awp_seq, ↓awp_block, ↓awp_exit, ↓awp_ret, ↓awp_label, ↓awp_scope, ↓awp_condB, ↓awp_loopB, ↓ow_nil', ↓ow_cons0, ↓ow_cons1, ↓o1_move, ↓o1_assign, ↓o1_pick, ↓o1_alloc, ↓o1_box, ↓o1_build, ↓o1_buildSlice, ↓o1_makeSlice, ↓o1_makeMap, ↓o1_binOp, ↓o1_unOp, ↓o1_convert, ↓o1_fieldAddr, ↓o1_field, ↓o1_indexAddr, ↓o1_extract, ↓o1_slice, ↓o1_len, ↓o1_max, ↓o1_min, ↓o1_load, ↓o1_lookup, ↓o1_store, ↓o1_mapUpdate, ↓o1_append, ↓o1_delete, ↓o1_call, ↓luP_succ, ↓o1_makeFunc, ↓o1_index, ↓o1_callV, encR, encT_eq, used, fin]
        refine awpY_plain _ (by kernel_rfl) ?_
        simp (config := { maxSteps := 1000000 }) [-List.map_map, -List.mapM_map, ↓awp_skip, ↓awp_regionB, ↓awp_seq, ↓awp_block, ↓awp_exit, ↓awp_ret, ↓awp_label, ↓awp_scope, ↓awp_condB, ↓awp_loopB, ↓ow_nil', ↓ow_cons0, ↓ow_cons1, ↓o1_move, ↓o1_assign, ↓o1_pick, ↓o1_alloc, ↓o1_box, ↓o1_build, ↓o1_buildSlice, ↓o1_makeSlice, ↓o1_makeMap, ↓o1_binOp, ↓o1_unOp, ↓o1_convert, ↓o1_fieldAddr, ↓o1_field, ↓o1_indexAddr, ↓o1_extract, ↓o1_slice, ↓o1_len, ↓o1_max, ↓o1_min, ↓o1_load, ↓o1_lookup, ↓o1_store, ↓o1_mapUpdate, ↓o1_append, ↓o1_delete, ↓o1_call, ↓luP_succ, ↓o1_makeFunc, ↓o1_index, ↓o1_callV, encR, encT_eq]
        refine ⟨(k + 1, n - 1, a', []), ⟨by simp at hn ⊢; omega, hlt, hdn, by simp at ha' ⊢; try omega, by simp at hb' ⊢; try omega⟩, by simp at hn ⊢; omega, rfl, wk_l [1] (by simp) ?_ ?_⟩ <;> simp [-List.map_map, upd, inj1, Γ0, encR, encT_eq]
      | cons y b' =>
        obtain ⟨xc, xn, xm⟩ := x
        obtain ⟨yc, yn, ym⟩ := y
        have hpa : (1 : Int) ≤ (a'.length : Int) + 1 := by omega
        have hta : List.take a'.length (List.map encT a') = List.map encT a' := List.take_of_length_le (by simp)
        have hpb : (1 : Int) ≤ (b'.length : Int) + 1 := by omega
        have htb : List.take b'.length (List.map encT b') = List.map encT b' := List.take_of_length_le (by simp)
        by_cases h1 : yc < xc
        · skip
          have hmin : (if yc < xc then yc else xc) = yc := if_pos h1
          have e1 : (xc == yc) = false := by simp; omega
          have hd' : (bothL a b).drop k = (yc, zT, ⟨yc, yn, ym⟩) :: bothF (n - 1) (⟨xc, xn, xm⟩ :: a') b' := by
            cases n with
            | zero => simp at hn
            | succ n => rw [hd]; simp only [bothF]; rw [if_pos h1]; rfl
          obtain ⟨hlt, hdn, hx0⟩ := drop_cons hd'
          have hx : ((bothL a b).map encP)[k]? = some (encP (yc, zT, ⟨yc, yn, ym⟩)) := by rw [List.getElem?_map, hx0]; rfl
          refine awpY_seqL (by kernel_rfl) ?_
          simp (config := { maxSteps := 1000000 }) [-List.map_map, -List.mapM_map, ↓awp_skip, ↓awp_regionB, ↓awp_seq, ↓awp_block, ↓awp_exit, ↓awp_ret, ↓awp_label, ↓awp_scope, ↓awp_condB, ↓awp_loopB, ↓ow_nil', ↓ow_cons0, ↓ow_cons1, ↓o1_move, ↓o1_assign, ↓o1_pick, ↓o1_alloc, ↓o1_box, ↓o1_build, ↓o1_buildSlice, ↓o1_makeSlice, ↓o1_makeMap, ↓o1_binOp, ↓o1_unOp, ↓o1_convert, ↓o1_fieldAddr, ↓o1_field, ↓o1_indexAddr, ↓o1_extract, ↓o1_slice, ↓o1_len, ↓o1_max, ↓o1_min, ↓o1_load, ↓o1_lookup, ↓o1_store, ↓o1_mapUpdate, ↓o1_append, ↓o1_delete, ↓o1_call, ↓luP_succ, ↓o1_makeFunc, ↓o1_index, ↓o1_callV, encR, encT_eq]
          refine awpY_block (awpY_seqL (by kernel_rfl) ?_)
          simp (config := { maxSteps := 1000000 }) [-List.map_map, -List.mapM_map, ↓awp_skip, ↓awp_regionB, ↓awp_seq, ↓awp_block, ↓awp_exit, ↓awp_ret, ↓awp_label, ↓awp_scope, ↓awp_condB, ↓awp_loopB, ↓ow_nil', ↓ow_cons0, ↓ow_cons1, ↓o1_move, ↓o1_assign, ↓o1_pick, ↓o1_alloc, ↓o1_box, ↓o1_build, ↓o1_buildSlice, ↓o1_makeSlice, ↓o1_makeMap, ↓o1_binOp, ↓o1_unOp, ↓o1_convert, ↓o1_fieldAddr, ↓o1_field, ↓o1_indexAddr, ↓o1_extract, ↓o1_slice, ↓o1_len, ↓o1_max, ↓o1_min, ↓o1_load, ↓o1_lookup, ↓o1_store, ↓o1_mapUpdate, ↓o1_append, ↓o1_delete, ↓o1_call, ↓luP_succ, ↓o1_makeFunc, ↓o1_index, ↓o1_callV, encR, encT_eq]
          refine awpY_seqL (by kernel_rfl) ?_
          simp (config := { maxSteps := 1000000 }) [-List.map_map, -List.mapM_map, ↓awp_skip, ↓awp_regionB, ↓awp_seq, ↓awp_block, ↓awp_exit, ↓awp_ret, ↓awp_label, ↓awp_scope, ↓awp_condB, ↓awp_loopB, ↓ow_nil', ↓ow_cons0, ↓ow_cons1, ↓o1_move, ↓o1_assign, ↓o1_pick, ↓o1_alloc, ↓o1_box, ↓o1_build, ↓o1_buildSlice, ↓o1_makeSlice, ↓o1_makeMap, ↓o1_binOp, ↓o1_unOp, ↓o1_convert, ↓o1_fieldAddr, ↓o1_field, ↓o1_indexAddr, ↓o1_extract, ↓o1_slice, ↓o1_len, ↓o1_max, ↓o1_min, ↓o1_load, ↓o1_lookup, ↓o1_store, ↓o1_mapUpdate, ↓o1_append, ↓o1_delete, ↓o1_call, ↓luP_succ, ↓o1_makeFunc, ↓o1_index, ↓o1_callV, encR, encT_eq]
          refine loopP_lu 3 ?_
          simp (config := { maxSteps := 1000000 }) [-List.map_map, -List.mapM_map, ↓awp_skip, ↓awp_regionB, ↓awp_seq, ↓awp_block, ↓awp_exit, ↓awp_ret, ↓awp_label, ↓awp_scope, ↓awp_condB, ↓awp_loopB, ↓ow_nil', ↓ow_cons0, ↓ow_cons1, ↓o1_move, ↓o1_assign, ↓o1_pick, ↓o1_alloc, ↓o1_box, ↓o1_build, ↓o1_buildSlice, ↓o1_makeSlice, ↓o1_makeMap, ↓o1_binOp, ↓o1_unOp, ↓o1_convert, ↓o1_fieldAddr, ↓o1_field, ↓o1_indexAddr, ↓o1_extract, ↓o1_slice, ↓o1_len, ↓o1_max, ↓o1_min, ↓o1_load, ↓o1_lookup, ↓o1_store, ↓o1_mapUpdate, ↓o1_append, ↓o1_delete, ↓o1_call, ↓luP_succ, ↓o1_makeFunc, ↓o1_index, ↓o1_callV, encR, encT_eq, hw1, hw2, hm1, hm2]
          refine awpY_seqL (by kernel_rfl) ?_
          simp (config := { maxSteps := 1000000 }) [-List.map_map, -List.mapM_map, ↓awp_skip, ↓awp_regionB, ↓awp_seq, ↓awp_block, ↓awp_exit, ↓awp_ret, ↓awp_label, ↓awp_scope, ↓awp_condB, ↓awp_loopB, ↓ow_nil', ↓ow_cons0, ↓ow_cons1, ↓o1_move, ↓o1_assign, ↓o1_pick, ↓o1_alloc, ↓o1_box, ↓o1_build, ↓o1_buildSlice, ↓o1_makeSlice, ↓o1_makeMap, ↓o1_binOp, ↓o1_unOp, ↓o1_convert, ↓o1_fieldAddr, ↓o1_field, ↓o1_indexAddr, ↓o1_extract, ↓o1_slice, ↓o1_len, ↓o1_max, ↓o1_min, ↓o1_load, ↓o1_lookup, ↓o1_store, ↓o1_mapUpdate, ↓o1_append, ↓o1_delete, ↓o1_call, ↓luP_succ, ↓o1_makeFunc, ↓o1_index, ↓o1_callV, encR, encT_eq, hw1, hw2, hm1, hm2]
          refine callP_intro (ds := [.sl [[.i .i64 xc], [.i .i64 yc]]]) (by rfl) (min2 xc yc) ?_
          rw [hmin]
          simp (config := { maxSteps := 1000000 }) [-List.map_map, -List.mapM_map, ↓awp_skip, ↓awp_regionB, ↓awp_seq, ↓awp_block, ↓awp_exit, ↓awp_ret, ↓awp_label, ↓awp_scope, ↓awp_condB, ↓awp_loopB, ↓ow_nil', ↓ow_cons0, ↓ow_cons1, ↓o1_move, ↓o1_assign, ↓o1_pick, ↓o1_alloc, ↓o1_box, ↓o1_build, ↓o1_buildSlice, ↓o1_makeSlice, ↓o1_makeMap, ↓o1_binOp, ↓o1_unOp, ↓o1_convert, ↓o1_fieldAddr, ↓o1_field, ↓o1_indexAddr, ↓o1_extract, ↓o1_slice, ↓o1_len, ↓o1_max, ↓o1_min, ↓o1_load, ↓o1_lookup, ↓o1_store, ↓o1_mapUpdate, ↓o1_append, ↓o1_delete, ↓o1_call, ↓luP_succ, ↓o1_makeFunc, ↓o1_index, ↓o1_callV, encR, encT_eq, hw1, hw2, hm1, hm2]
          refine awpY_seqL (by kernel_rfl) ?_
          simp (config := { maxSteps := 1000000 }) [-List.map_map, -List.mapM_map, ↓awp_skip, ↓awp_regionB, ↓awp_seq, ↓awp_block, ↓awp_exit, ↓awp_ret, ↓awp_label, ↓awp_scope, ↓awp_condB, ↓awp_loopB, ↓ow_nil', ↓ow_cons0, ↓ow_cons1, ↓o1_move, ↓o1_assign, ↓o1_pick, ↓o1_alloc, ↓o1_box, ↓o1_build, ↓o1_buildSlice, ↓o1_makeSlice, ↓o1_makeMap, ↓o1_binOp, ↓o1_unOp, ↓o1_convert, ↓o1_fieldAddr, ↓o1_field, ↓o1_indexAddr, ↓o1_extract, ↓o1_slice, ↓o1_len, ↓o1_max, ↓o1_min, ↓o1_load, ↓o1_lookup, ↓o1_store, ↓o1_mapUpdate, ↓o1_append, ↓o1_delete, ↓o1_call, ↓luP_succ, ↓o1_makeFunc, ↓o1_index, ↓o1_callV, encR, encT_eq, hw1, hw2, hm1, hm2]
          refine awpY_seqL (by kernel_rfl) ?_
          simp (config := { maxSteps := 1000000 }) [-List.map_map, -List.mapM_map, ↓awp_skip, ↓awp_regionB, ↓awp_seq, ↓awp_block, ↓awp_exit, ↓awp_ret, ↓awp_label, ↓awp_scope, ↓awp_condB, ↓awp_loopB, ↓ow_nil', ↓ow_cons0, ↓ow_cons1, ↓o1_move, ↓o1_assign, ↓o1_pick, ↓o1_alloc, ↓o1_box, ↓o1_build, ↓o1_buildSlice, ↓o1_makeSlice, ↓o1_makeMap, ↓o1_binOp, ↓o1_unOp, ↓o1_convert, ↓o1_fieldAddr, ↓o1_field, ↓o1_indexAddr, ↓o1_extract, ↓o1_slice, ↓o1_len, ↓o1_max, ↓o1_min, ↓o1_load, ↓o1_lookup, ↓o1_store, ↓o1_mapUpdate, ↓o1_append, ↓o1_delete, ↓o1_call, ↓luP_succ, ↓o1_makeFunc, ↓o1_index, ↓o1_callV, encR, encT_eq, hw1, hw2, hm1, hm2]
          refine loopP_lu 3 ?_
          simp (config := { maxSteps := 1000000 }) [-List.map_map, -List.mapM_map, ↓awp_skip, ↓awp_regionB, ↓awp_seq, ↓awp_block, ↓awp_exit, ↓awp_ret, ↓awp_label, ↓awp_scope, ↓awp_condB, ↓awp_loopB, ↓ow_nil', ↓ow_cons0, ↓ow_cons1, ↓o1_move, ↓o1_assign, ↓o1_pick, ↓o1_alloc, ↓o1_box, ↓o1_build, ↓o1_buildSlice, ↓o1_makeSlice, ↓o1_makeMap, ↓o1_binOp, ↓o1_unOp, ↓o1_convert, ↓o1_fieldAddr, ↓o1_field, ↓o1_indexAddr, ↓o1_extract, ↓o1_slice, ↓o1_len, ↓o1_max, ↓o1_min, ↓o1_load, ↓o1_lookup, ↓o1_store, ↓o1_mapUpdate, ↓o1_append, ↓o1_delete, ↓o1_call, ↓luP_succ, ↓o1_makeFunc, ↓o1_index, ↓o1_callV, encR, encT_eq, hw1, hw2, hm1, hm2, one_eM, cellsA_eM, hpa, hta, hpb, htb, e1]
          refine awpY_seq (awpY_yield rfl ?_)
          simp (config := { maxSteps := 1000000 }) [-List.map_map, -List.mapM_map, ↓awp_skip, ↓awp_regionB, ↓awp_seq, ↓awp_block, ↓awp_exit, ↓awp_ret, ↓awp_label, ↓awp_scope, ↓awp_condB, ↓awp_loopB, ↓ow_nil', ↓ow_cons0, ↓ow_cons1, ↓o1_move, ↓o1_assign, ↓o1_pick, ↓o1_alloc, ↓o1_box, ↓o1_build, ↓o1_buildSlice, ↓o1_makeSlice, ↓o1_makeMap, ↓o1_binOp, ↓o1_unOp, ↓o1_convert, ↓o1_fieldAddr, ↓o1_field, ↓o1_indexAddr, ↓o1_extract, ↓o1_slice, ↓o1_len, ↓o1_max, ↓o1_min, ↓o1_load, ↓o1_lookup, ↓o1_store, ↓o1_mapUpdate, ↓o1_append, ↓o1_delete, ↓o1_call, ↓luP_succ, ↓o1_makeFunc, ↓o1_index, ↓o1_callV, encR, encT_eq, hw1, hw2, hm1, hm2]
          refine yO_intro (dd := encP (yc, zT, ⟨yc, yn, ym⟩)) (l2 := []) (by rfl) (by rfl) hx (by rfl) ?_
          simp (config := { maxSteps := 1000000 }) [-List.map_map, -List.mapM_map, ↓awp_skip, ↓awp_regionB, ↓awp_seq, ↓awp_block, ↓awp_exit, ↓awp_ret, ↓awp_label, ↓awp_scope, ↓awp_condB, ↓awp_loopB, ↓ow_nil', ↓ow_cons0, ↓ow_cons1, ↓o1_move, ↓o1_assign, ↓o1_pick, ↓o1_alloc, ↓o1_box, ↓o1_build, ↓o1_buildSlice, ↓o1_makeSlice, ↓o1_makeMap, ↓o1_binOp, ↓o1_unOp, ↓o1_convert, ↓o1_fieldAddr, ↓o1_field, ↓o1_indexAddr, ↓o1_extract, ↓o1_slice, ↓o1_len, ↓o1_max, ↓o1_min, ↓o1_load, ↓o1_lookup, ↓o1_store, ↓o1_mapUpdate, ↓o1_append, ↓o1_delete, ↓o1_call, ↓luP_succ, ↓o1_makeFunc, ↓o1_index, ↓o1_callV, encR, encT_eq, used, fin]
          refine awpY_plain _ (by kernel_rfl) ?_
          simp (config := { maxSteps := 1000000 }) [-List.map_map, -List.mapM_map, ↓awp_skip, ↓awp_regionB, ↓awp_seq, ↓awp_block, ↓awp_exit, ↓awp_ret, ↓awp_label, ↓awp_scope, ↓awp_condB, ↓awp_loopB, ↓ow_nil', ↓ow_cons0, ↓ow_cons1, ↓o1_move, ↓o1_assign, ↓o1_pick, ↓o1_alloc, ↓o1_box, ↓o1_build, ↓o1_buildSlice, ↓o1_makeSlice, ↓o1_makeMap, ↓o1_binOp, ↓o1_unOp, ↓o1_convert, ↓o1_fieldAddr, ↓o1_field, ↓o1_indexAddr, ↓o1_extract, ↓o1_slice, ↓o1_len, ↓o1_max, ↓o1_min, ↓o1_load, ↓o1_lookup, ↓o1_store, ↓o1_mapUpdate, ↓o1_append, ↓o1_delete, ↓o1_call, ↓luP_succ, ↓o1_makeFunc, ↓o1_index, ↓o1_callV, encR, encT_eq]
          refine ⟨(k + 1, n - 1, ⟨xc, xn, xm⟩ :: a', b'), ⟨by simp at hn ⊢; omega, hlt, hdn, by simp at ha' ⊢; try omega, by simp at hb' ⊢; try omega⟩, by simp at hn ⊢; omega, rfl, wk_l [1] (by simp) ?_ ?_⟩ <;> simp [-List.map_map, upd, inj1, Γ0, encR, encT_eq]
        by_cases h2 : xc < yc
        · skip
          have hmin : (if yc < xc then yc else xc) = xc := if_neg h1
          have e1 : (yc == xc) = false := by simp; omega
          have hd' : (bothL a b).drop k = (xc, ⟨xc, xn, xm⟩, zT) :: bothF (n - 1) a' (⟨yc, yn, ym⟩ :: b') := by
            cases n with
            | zero => simp at hn
            | succ n => rw [hd]; simp only [bothF]; rw [if_neg h1, if_pos h2]; rfl
          obtain ⟨hlt, hdn, hx0⟩ := drop_cons hd'
          have hx : ((bothL a b).map encP)[k]? = some (encP (xc, ⟨xc, xn, xm⟩, zT)) := by rw [List.getElem?_map, hx0]; rfl
          refine awpY_seqL (by kernel_rfl) ?_
          simp (config := { maxSteps := 1000000 }) [-List.map_map, -List.mapM_map, ↓awp_skip, ↓awp_regionB, ↓awp_seq, ↓awp_block, ↓awp_exit, ↓awp_ret, ↓awp_label, ↓awp_scope, ↓awp_condB, ↓awp_loopB, ↓ow_nil', ↓ow_cons0, ↓ow_cons1, ↓o1_move, ↓o1_assign, ↓o1_pick, ↓o1_alloc, ↓o1_box, ↓o1_build, ↓o1_buildSlice, ↓o1_makeSlice, ↓o1_makeMap, ↓o1_binOp, ↓o1_unOp, ↓o1_convert, ↓o1_fieldAddr, ↓o1_field, ↓o1_indexAddr, ↓o1_extract, ↓o1_slice, ↓o1_len, ↓o1_max, ↓o1_min, ↓o1_load, ↓o1_lookup, ↓o1_store, ↓o1_mapUpdate, ↓o1_append, ↓o1_delete, ↓o1_call, ↓luP_succ, ↓o1_makeFunc, ↓o1_index, ↓o1_callV, encR, encT_eq]
          refine awpY_block (awpY_seqL (by kernel_rfl) ?_)
          simp (config := { maxSteps := 1000000 }) [-List.map_map, -List.mapM_map, ↓awp_skip, ↓awp_regionB, ↓awp_seq, ↓awp_block, ↓awp_exit, ↓awp_ret, ↓awp_label, ↓awp_scope, ↓awp_condB, ↓awp_loopB, ↓ow_nil', ↓ow_cons0, ↓ow_cons1, ↓o1_move, ↓o1_assign, ↓o1_pick, ↓o1_alloc, ↓o1_box, ↓o1_build, ↓o1_buildSlice, ↓o1_makeSlice, ↓o1_makeMap, ↓o1_binOp, ↓o1_unOp, ↓o1_convert, ↓o1_fieldAddr, ↓o1_field, ↓o1_indexAddr, ↓o1_extract, ↓o1_slice, ↓o1_len, ↓o1_max, ↓o1_min, ↓o1_load, ↓o1_lookup, ↓o1_store, ↓o1_mapUpdate, ↓o1_append, ↓o1_delete, ↓o1_call, ↓luP_succ, ↓o1_makeFunc, ↓o1_index, ↓o1_callV, encR, encT_eq]
          refine awpY_seqL (by kernel_rfl) ?_
          simp (config := { maxSteps := 1000000 }) [-List.map_map, -List.mapM_map, ↓awp_skip, ↓awp_regionB, ↓awp_seq, ↓awp_block, ↓awp_exit, ↓awp_ret, ↓awp_label, ↓awp_scope, ↓awp_condB, ↓awp_loopB, ↓ow_nil', ↓ow_cons0, ↓ow_cons1, ↓o1_move, ↓o1_assign, ↓o1_pick, ↓o1_alloc, ↓o1_box, ↓o1_build, ↓o1_buildSlice, ↓o1_makeSlice, ↓o1_makeMap, ↓o1_binOp, ↓o1_unOp, ↓o1_convert, ↓o1_fieldAddr, ↓o1_field, ↓o1_indexAddr, ↓o1_extract, ↓o1_slice, ↓o1_len, ↓o1_max, ↓o1_min, ↓o1_load, ↓o1_lookup, ↓o1_store, ↓o1_mapUpdate, ↓o1_append, ↓o1_delete, ↓o1_call, ↓luP_succ, ↓o1_makeFunc, ↓o1_index, ↓o1_callV, encR, encT_eq]
          refine loopP_lu 3 ?_
          simp (config := { maxSteps := 1000000 }) [-List.map_map, -List.mapM_map, ↓awp_skip, ↓awp_regionB, ↓awp_seq, ↓awp_block, ↓awp_exit, ↓awp_ret, ↓awp_label, ↓awp_scope, ↓awp_condB, ↓awp_loopB, ↓ow_nil', ↓ow_cons0, ↓ow_cons1, ↓o1_move, ↓o1_assign, ↓o1_pick, ↓o1_alloc, ↓o1_box, ↓o1_build, ↓o1_buildSlice, ↓o1_makeSlice, ↓o1_makeMap, ↓o1_binOp, ↓o1_unOp, ↓o1_convert, ↓o1_fieldAddr, ↓o1_field, ↓o1_indexAddr, ↓o1_extract, ↓o1_slice, ↓o1_len, ↓o1_max, ↓o1_min, ↓o1_load, ↓o1_lookup, ↓o1_store, ↓o1_mapUpdate, ↓o1_append, ↓o1_delete, ↓o1_call, ↓luP_succ, ↓o1_makeFunc, ↓o1_index, ↓o1_callV, encR, encT_eq, hw1, hw2, hm1, hm2]
          refine awpY_seqL (by kernel_rfl) ?_
          simp (config := { maxSteps := 1000000 }) [-List.map_map, -List.mapM_map, ↓awp_skip, ↓awp_regionB, ↓awp_seq, ↓awp_block, ↓awp_exit, ↓awp_ret, ↓awp_label, ↓awp_scope, ↓awp_condB, ↓awp_loopB, ↓ow_nil', ↓ow_cons0, ↓ow_cons1, ↓o1_move, ↓o1_assign, ↓o1_pick, ↓o1_alloc, ↓o1_box, ↓o1_build, ↓o1_buildSlice, ↓o1_makeSlice, ↓o1_makeMap, ↓o1_binOp, ↓o1_unOp, ↓o1_convert, ↓o1_fieldAddr, ↓o1_field, ↓o1_indexAddr, ↓o1_extract, ↓o1_slice, ↓o1_len, ↓o1_max, ↓o1_min, ↓o1_load, ↓o1_lookup, ↓o1_store, ↓o1_mapUpdate, ↓o1_append, ↓o1_delete, ↓o1_call, ↓luP_succ, ↓o1_makeFunc, ↓o1_index, ↓o1_callV, encR, encT_eq, hw1, hw2, hm1, hm2]
          refine callP_intro (ds := [.sl [[.i .i64 xc], [.i .i64 yc]]]) (by rfl) (min2 xc yc) ?_
          rw [hmin]
          simp (config := { maxSteps := 1000000 }) [-List.map_map, -List.mapM_map, ↓awp_skip, ↓awp_regionB, ↓awp_seq, ↓awp_block, ↓awp_exit, ↓awp_ret, ↓awp_label, ↓awp_scope, ↓awp_condB, ↓awp_loopB, ↓ow_nil', ↓ow_cons0, ↓ow_cons1, ↓o1_move, ↓o1_assign, ↓o1_pick, ↓o1_alloc, ↓o1_box, ↓o1_build, ↓o1_buildSlice, ↓o1_makeSlice, ↓o1_makeMap, ↓o1_binOp, ↓o1_unOp, ↓o1_convert, ↓o1_fieldAddr, ↓o1_field, ↓o1_indexAddr, ↓o1_extract, ↓o1_slice, ↓o1_len, ↓o1_max, ↓o1_min, ↓o1_load, ↓o1_lookup, ↓o1_store, ↓o1_mapUpdate, ↓o1_append, ↓o1_delete, ↓o1_call, ↓luP_succ, ↓o1_makeFunc, ↓o1_index, ↓o1_callV, encR, encT_eq, hw1, hw2, hm1, hm2]
          refine awpY_seqL (by kernel_rfl) ?_
          simp (config := { maxSteps := 1000000 }) [-List.map_map, -List.mapM_map, ↓awp_skip, ↓awp_regionB, ↓awp_seq, ↓awp_block, ↓awp_exit, ↓awp_ret, ↓awp_label, ↓awp_scope, ↓awp_condB, ↓awp_loopB, ↓ow_nil', ↓ow_cons0, ↓ow_cons1, ↓o1_move, ↓o1_assign, ↓o1_pick, ↓o1_alloc, ↓o1_box, ↓o1_build, ↓o1_buildSlice, ↓o1_makeSlice, ↓o1_makeMap, ↓o1_binOp, ↓o1_unOp, ↓o1_convert, ↓o1_fieldAddr, ↓o1_field, ↓o1_indexAddr, ↓o1_extract, ↓o1_slice, ↓o1_len, ↓o1_max, ↓o1_min, ↓o1_load, ↓o1_lookup, ↓o1_store, ↓o1_mapUpdate, ↓o1_append, ↓o1_delete, ↓o1_call, ↓luP_succ, ↓o1_makeFunc, ↓o1_index, ↓o1_callV, encR, encT_eq, hw1, hw2, hm1, hm2]
          refine awpY_seqL (by kernel_rfl) ?_
          simp (config := { maxSteps := 1000000 }) [-List.map_map, -List.mapM_map, ↓awp_skip, ↓awp_regionB, ↓awp_seq, ↓awp_block, ↓awp_exit, ↓awp_ret, ↓awp_label, ↓awp_scope, ↓awp_condB, ↓awp_loopB, ↓ow_nil', ↓ow_cons0, ↓ow_cons1, ↓o1_move, ↓o1_assign, ↓o1_pick, ↓o1_alloc, ↓o1_box, ↓o1_build, ↓o1_buildSlice, ↓o1_makeSlice, ↓o1_makeMap, ↓o1_binOp, ↓o1_unOp, ↓o1_convert, ↓o1_fieldAddr, ↓o1_field, ↓o1_indexAddr, ↓o1_extract, ↓o1_slice, ↓o1_len, ↓o1_max, ↓o1_min, ↓o1_load, ↓o1_lookup, ↓o1_store, ↓o1_mapUpdate, ↓o1_append, ↓o1_delete, ↓o1_call, ↓luP_succ, ↓o1_makeFunc, ↓o1_index, ↓o1_callV, encR, encT_eq, hw1, hw2, hm1, hm2]
          refine loopP_lu 3 ?_
          simp (config := { maxSteps := 1000000 }) [-List.map_map, -List.mapM_map, ↓awp_skip, ↓awp_regionB, ↓awp_seq, ↓awp_block, ↓awp_exit, ↓awp_ret, ↓awp_label, ↓awp_scope, ↓awp_condB, ↓awp_loopB, ↓ow_nil', ↓ow_cons0, ↓ow_cons1, ↓o1_move, ↓o1_assign, ↓o1_pick, ↓o1_alloc, ↓o1_box, ↓o1_build, ↓o1_buildSlice, ↓o1_makeSlice, ↓o1_makeMap, ↓o1_binOp, ↓o1_unOp, ↓o1_convert, ↓o1_fieldAddr, ↓o1_field, ↓o1_indexAddr, ↓o1_extract, ↓o1_slice, ↓o1_len, ↓o1_max, ↓o1_min, ↓o1_load, ↓o1_lookup, ↓o1_store, ↓o1_mapUpdate, ↓o1_append, ↓o1_delete, ↓o1_call, ↓luP_succ, ↓o1_makeFunc, ↓o1_index, ↓o1_callV, encR, encT_eq, hw1, hw2, hm1, hm2, one_eM, cellsA_eM, hpa, hta, hpb, htb, e1]
          refine awpY_seq (awpY_yield rfl ?_)
          simp (config := { maxSteps := 1000000 }) [-List.map_map, -List.mapM_map, ↓awp_skip, ↓awp_regionB, ↓awp_seq, ↓awp_block, ↓awp_exit, ↓awp_ret, ↓awp_label, ↓awp_scope, ↓awp_condB, ↓awp_loopB, ↓ow_nil', ↓ow_cons0, ↓ow_cons1, ↓o1_move, ↓o1_assign, ↓o1_pick, ↓o1_alloc, ↓o1_box, ↓o1_build, ↓o1_buildSlice, ↓o1_makeSlice, ↓o1_makeMap, ↓o1_binOp, ↓o1_unOp, ↓o1_convert, ↓o1_fieldAddr, ↓o1_field, ↓o1_indexAddr, ↓o1_extract, ↓o1_slice, ↓o1_len, ↓o1_max, ↓o1_min, ↓o1_load, ↓o1_lookup, ↓o1_store, ↓o1_mapUpdate, ↓o1_append, ↓o1_delete, ↓o1_call, ↓luP_succ, ↓o1_makeFunc, ↓o1_index, ↓o1_callV, encR, encT_eq, hw1, hw2, hm1, hm2]
          refine yO_intro (dd := encP (xc, ⟨xc, xn, xm⟩, zT)) (l2 := []) (by rfl) (by rfl) hx (by rfl) ?_
          simp (config := { maxSteps := 1000000 }) [-List.map_map, -List.mapM_map, ↓awp_skip, ↓awp_regionB, ↓awp_seq, ↓awp_block, ↓awp_exit, ↓awp_ret, ↓awp_label, ↓awp_scope, ↓awp_condB, ↓awp_loopB, ↓ow_nil', ↓ow_cons0, ↓ow_cons1, ↓o1_move, ↓o1_assign, ↓o1_pick, ↓o1_alloc, ↓o1_box, ↓o1_build, ↓o1_buildSlice, ↓o1_makeSlice, ↓o1_makeMap, ↓o1_binOp, ↓o1_unOp, ↓o1_convert, ↓o1_fieldAddr, ↓o1_field, ↓o1_indexAddr, ↓o1_extract, ↓o1_slice, ↓o1_len, ↓o1_max, ↓o1_min, ↓o1_load, ↓o1_lookup, ↓o1_store, ↓o1_mapUpdate, ↓o1_append, ↓o1_delete, ↓o1_call, ↓luP_succ, ↓o1_makeFunc, ↓o1_index, ↓o1_callV, encR, encT_eq, used, fin]
          refine awpY_plain _ (by kernel_rfl) ?_
          simp (config := { maxSteps := 1000000 }) [-List.map_map, -List.mapM_map, ↓awp_skip, ↓awp_regionB, ↓awp_seq, ↓awp_block, ↓awp_exit, ↓awp_ret, ↓awp_label, ↓awp_scope, ↓awp_condB, ↓awp_loopB, ↓ow_nil', ↓ow_cons0, ↓ow_cons1, ↓o1_move, ↓o1_assign, ↓o1_pick, ↓o1_alloc, ↓o1_box, ↓o1_build, ↓o1_buildSlice, ↓o1_makeSlice, ↓o1_makeMap, ↓o1_binOp, ↓o1_unOp, ↓o1_convert, ↓o1_fieldAddr, ↓o1_field, ↓o1_indexAddr, ↓o1_extract, ↓o1_slice, ↓o1_len, ↓o1_max, ↓o1_min, ↓o1_load, ↓o1_lookup, ↓o1_store, ↓o1_mapUpdate, ↓o1_append, ↓o1_delete, ↓o1_call, ↓luP_succ, ↓o1_makeFunc, ↓o1_index, ↓o1_callV, encR, encT_eq]
          refine ⟨(k + 1, n - 1, a', ⟨yc, yn, ym⟩ :: b'), ⟨by simp at hn ⊢; omega, hlt, hdn, by simp at ha' ⊢; try omega, by simp at hb' ⊢; try omega⟩, by simp at hn ⊢; omega, rfl, wk_l [1] (by simp) ?_ ?_⟩ <;> simp [-List.map_map, upd, inj1, Γ0, encR, encT_eq]
        · skip
          obtain rfl : xc = yc := by omega
          have hmin : (if xc < xc then xc else xc) = xc := if_neg h1
          have hd' : (bothL a b).drop k = (xc, ⟨xc, xn, xm⟩, ⟨xc, yn, ym⟩) :: bothF (n - 1) a' b' := by
            cases n with
            | zero => simp at hn
            | succ n => rw [hd]; simp only [bothF]; rw [if_neg h1, if_neg h1]; rfl
          obtain ⟨hlt, hdn, hx0⟩ := drop_cons hd'
          have hx : ((bothL a b).map encP)[k]? = some (encP (xc, ⟨xc, xn, xm⟩, ⟨xc, yn, ym⟩)) := by rw [List.getElem?_map, hx0]; rfl
          refine awpY_seqL (by kernel_rfl) ?_
          simp (config := { maxSteps := 1000000 }) [-List.map_map, -List.mapM_map, ↓awp_skip, ↓awp_regionB, ↓awp_seq, ↓awp_block, ↓awp_exit, ↓awp_ret, ↓awp_label, ↓awp_scope, ↓awp_condB, ↓awp_loopB, ↓ow_nil', ↓ow_cons0, ↓ow_cons1, ↓o1_move, ↓o1_assign, ↓o1_pick, ↓o1_alloc, ↓o1_box, ↓o1_build, ↓o1_buildSlice, ↓o1_makeSlice, ↓o1_makeMap, ↓o1_binOp, ↓o1_unOp, ↓o1_convert, ↓o1_fieldAddr, ↓o1_field, ↓o1_indexAddr, ↓o1_extract, ↓o1_slice, ↓o1_len, ↓o1_max, ↓o1_min, ↓o1_load, ↓o1_lookup, ↓o1_store, ↓o1_mapUpdate, ↓o1_append, ↓o1_delete, ↓o1_call, ↓luP_succ, ↓o1_makeFunc, ↓o1_index, ↓o1_callV, encR, encT_eq]
          refine awpY_block (awpY_seqL (by kernel_rfl) ?_)
          simp (config := { maxSteps := 1000000 }) [-List.map_map, -List.mapM_map, ↓awp_skip, ↓awp_regionB, ↓awp_seq, ↓awp_block, ↓awp_exit, ↓awp_ret, ↓awp_label, ↓awp_scope, ↓awp_condB, ↓awp_loopB, ↓ow_nil', ↓ow_cons0, ↓ow_cons1, ↓o1_move, ↓o1_assign, ↓o1_pick, ↓o1_alloc, ↓o1_box, ↓o1_build, ↓o1_buildSlice, ↓o1_makeSlice, ↓o1_makeMap, ↓o1_binOp, ↓o1_unOp, ↓o1_convert, ↓o1_fieldAddr, ↓o1_field, ↓o1_indexAddr, ↓o1_extract, ↓o1_slice, ↓o1_len, ↓o1_max, ↓o1_min, ↓o1_load, ↓o1_lookup, ↓o1_store, ↓o1_mapUpdate, ↓o1_append, ↓o1_delete, ↓o1_call, ↓luP_succ, ↓o1_makeFunc, ↓o1_index, ↓o1_callV, encR, encT_eq]
          refine awpY_seqL (by kernel_rfl) ?_
          simp (config := { maxSteps := 1000000 }) [-List.map_map, -List.mapM_map, ↓awp_skip, ↓awp_regionB, ↓awp_seq, ↓awp_block, ↓awp_exit, ↓awp_ret, ↓awp_label, ↓awp_scope, ↓awp_condB, ↓awp_loopB, ↓ow_nil', ↓ow_cons0, ↓ow_cons1, ↓o1_move, ↓o1_assign, ↓o1_pick, ↓o1_alloc, ↓o1_box, ↓o1_build, ↓o1_buildSlice, ↓o1_makeSlice, ↓o1_makeMap, ↓o1_binOp, ↓o1_unOp, ↓o1_convert, ↓o1_fieldAddr, ↓o1_field, ↓o1_indexAddr, ↓o1_extract, ↓o1_slice, ↓o1_len, ↓o1_max, ↓o1_min, ↓o1_load, ↓o1_lookup, ↓o1_store, ↓o1_mapUpdate, ↓o1_append, ↓o1_delete, ↓o1_call, ↓luP_succ, ↓o1_makeFunc, ↓o1_index, ↓o1_callV, encR, encT_eq]
          refine loopP_lu 3 ?_
          simp (config := { maxSteps := 1000000 }) [-List.map_map, -List.mapM_map, ↓awp_skip, ↓awp_regionB, ↓awp_seq, ↓awp_block, ↓awp_exit, ↓awp_ret, ↓awp_label, ↓awp_scope, ↓awp_condB, ↓awp_loopB, ↓ow_nil', ↓ow_cons0, ↓ow_cons1, ↓o1_move, ↓o1_assign, ↓o1_pick, ↓o1_alloc, ↓o1_box, ↓o1_build, ↓o1_buildSlice, ↓o1_makeSlice, ↓o1_makeMap, ↓o1_binOp, ↓o1_unOp, ↓o1_convert, ↓o1_fieldAddr, ↓o1_field, ↓o1_indexAddr, ↓o1_extract, ↓o1_slice, ↓o1_len, ↓o1_max, ↓o1_min, ↓o1_load, ↓o1_lookup, ↓o1_store, ↓o1_mapUpdate, ↓o1_append, ↓o1_delete, ↓o1_call, ↓luP_succ, ↓o1_makeFunc, ↓o1_index, ↓o1_callV, encR, encT_eq, hw1, hw2, hm1, hm2]
          refine awpY_seqL (by kernel_rfl) ?_
          simp (config := { maxSteps := 1000000 }) [-List.map_map, -List.mapM_map, ↓awp_skip, ↓awp_regionB, ↓awp_seq, ↓awp_block, ↓awp_exit, ↓awp_ret, ↓awp_label, ↓awp_scope, ↓awp_condB, ↓awp_loopB, ↓ow_nil', ↓ow_cons0, ↓ow_cons1, ↓o1_move, ↓o1_assign, ↓o1_pick, ↓o1_alloc, ↓o1_box, ↓o1_build, ↓o1_buildSlice, ↓o1_makeSlice, ↓o1_makeMap, ↓o1_binOp, ↓o1_unOp, ↓o1_convert, ↓o1_fieldAddr, ↓o1_field, ↓o1_indexAddr, ↓o1_extract, ↓o1_slice, ↓o1_len, ↓o1_max, ↓o1_min, ↓o1_load, ↓o1_lookup, ↓o1_store, ↓o1_mapUpdate, ↓o1_append, ↓o1_delete, ↓o1_call, ↓luP_succ, ↓o1_makeFunc, ↓o1_index, ↓o1_callV, encR, encT_eq, hw1, hw2, hm1, hm2]
          refine callP_intro (ds := [.sl [[.i .i64 xc], [.i .i64 xc]]]) (by rfl) (min2 xc xc) ?_
          rw [hmin]
          simp (config := { maxSteps := 1000000 }) [-List.map_map, -List.mapM_map, ↓awp_skip, ↓awp_regionB, ↓awp_seq, ↓awp_block, ↓awp_exit, ↓awp_ret, ↓awp_label, ↓awp_scope, ↓awp_condB, ↓awp_loopB, ↓ow_nil', ↓ow_cons0, ↓ow_cons1, ↓o1_move, ↓o1_assign, ↓o1_pick, ↓o1_alloc, ↓o1_box, ↓o1_build, ↓o1_buildSlice, ↓o1_makeSlice, ↓o1_makeMap, ↓o1_binOp, ↓o1_unOp, ↓o1_convert, ↓o1_fieldAddr, ↓o1_field, ↓o1_indexAddr, ↓o1_extract, ↓o1_slice, ↓o1_len, ↓o1_max, ↓o1_min, ↓o1_load, ↓o1_lookup, ↓o1_store, ↓o1_mapUpdate, ↓o1_append, ↓o1_delete, ↓o1_call, ↓luP_succ, ↓o1_makeFunc, ↓o1_index, ↓o1_callV, encR, encT_eq, hw1, hw2, hm1, hm2]
          refine awpY_seqL (by kernel_rfl) ?_
          simp (config := { maxSteps := 1000000 }) [-List.map_map, -List.mapM_map, ↓awp_skip, ↓awp_regionB, ↓awp_seq, ↓awp_block, ↓awp_exit, ↓awp_ret, ↓awp_label, ↓awp_scope, ↓awp_condB, ↓awp_loopB, ↓ow_nil', ↓ow_cons0, ↓ow_cons1, ↓o1_move, ↓o1_assign, ↓o1_pick, ↓o1_alloc, ↓o1_box, ↓o1_build, ↓o1_buildSlice, ↓o1_makeSlice, ↓o1_makeMap, ↓o1_binOp, ↓o1_unOp, ↓o1_convert, ↓o1_fieldAddr, ↓o1_field, ↓o1_indexAddr, ↓o1_extract, ↓o1_slice, ↓o1_len, ↓o1_max, ↓o1_min, ↓o1_load, ↓o1_lookup, ↓o1_store, ↓o1_mapUpdate, ↓o1_append, ↓o1_delete, ↓o1_call, ↓luP_succ, ↓o1_makeFunc, ↓o1_index, ↓o1_callV, encR, encT_eq, hw1, hw2, hm1, hm2]
          refine awpY_seqL (by kernel_rfl) ?_
          simp (config := { maxSteps := 1000000 }) [-List.map_map, -List.mapM_map, ↓awp_skip, ↓awp_regionB, ↓awp_seq, ↓awp_block, ↓awp_exit, ↓awp_ret, ↓awp_label, ↓awp_scope, ↓awp_condB, ↓awp_loopB, ↓ow_nil', ↓ow_cons0, ↓ow_cons1, ↓o1_move, ↓o1_assign, ↓o1_pick, ↓o1_alloc, ↓o1_box, ↓o1_build, ↓o1_buildSlice, ↓o1_makeSlice, ↓o1_makeMap, ↓o1_binOp, ↓o1_unOp, ↓o1_convert, ↓o1_fieldAddr, ↓o1_field, ↓o1_indexAddr, ↓o1_extract, ↓o1_slice, ↓o1_len, ↓o1_max, ↓o1_min, ↓o1_load, ↓o1_lookup, ↓o1_store, ↓o1_mapUpdate, ↓o1_append, ↓o1_delete, ↓o1_call, ↓luP_succ, ↓o1_makeFunc, ↓o1_index, ↓o1_callV, encR, encT_eq, hw1, hw2, hm1, hm2]
          refine loopP_lu 3 ?_
          simp (config := { maxSteps := 1000000 }) [-List.map_map, -List.mapM_map, ↓awp_skip, ↓awp_regionB, ↓awp_seq, ↓awp_block, ↓awp_exit, ↓awp_ret, ↓awp_label, ↓awp_scope, ↓awp_condB, ↓awp_loopB, ↓ow_nil', ↓ow_cons0, ↓ow_cons1, ↓o1_move, ↓o1_assign, ↓o1_pick, ↓o1_alloc, ↓o1_box, ↓o1_build, ↓o1_buildSlice, ↓o1_makeSlice, ↓o1_makeMap, ↓o1_binOp, ↓o1_unOp, ↓o1_convert, ↓o1_fieldAddr, ↓o1_field, ↓o1_indexAddr, ↓o1_extract, ↓o1_slice, ↓o1_len, ↓o1_max, ↓o1_min, ↓o1_load, ↓o1_lookup, ↓o1_store, ↓o1_mapUpdate, ↓o1_append, ↓o1_delete, ↓o1_call, ↓luP_succ, ↓o1_makeFunc, ↓o1_index, ↓o1_callV, encR, encT_eq, hw1, hw2, hm1, hm2, one_eM, cellsA_eM, hpa, hta, hpb, htb]
          refine awpY_seq (awpY_yield rfl ?_)
          simp (config := { maxSteps := 1000000 }) [-List.map_map, -List.mapM_map, ↓awp_skip, ↓awp_regionB, ↓awp_seq, ↓awp_block, ↓awp_exit, ↓awp_ret, ↓awp_label, ↓awp_scope, ↓awp_condB, ↓awp_loopB, ↓ow_nil', ↓ow_cons0, ↓ow_cons1, ↓o1_move, ↓o1_assign, ↓o1_pick, ↓o1_alloc, ↓o1_box, ↓o1_build, ↓o1_buildSlice, ↓o1_makeSlice, ↓o1_makeMap, ↓o1_binOp, ↓o1_unOp, ↓o1_convert, ↓o1_fieldAddr, ↓o1_field, ↓o1_indexAddr, ↓o1_extract, ↓o1_slice, ↓o1_len, ↓o1_max, ↓o1_min, ↓o1_load, ↓o1_lookup, ↓o1_store, ↓o1_mapUpdate, ↓o1_append, ↓o1_delete, ↓o1_call, ↓luP_succ, ↓o1_makeFunc, ↓o1_index, ↓o1_callV, encR, encT_eq, hw1, hw2, hm1, hm2]
          refine yO_intro (dd := encP (xc, ⟨xc, xn, xm⟩, ⟨xc, yn, ym⟩)) (l2 := []) (by rfl) (by rfl) hx (by rfl) ?_
          simp (config := { maxSteps := 1000000 }) [-List.map_map, -List.mapM_map, ↓awp_skip, ↓awp_regionB, ↓awp_seq, ↓awp_block, ↓awp_exit, ↓awp_ret, ↓awp_label, ↓awp_scope, ↓awp_condB, ↓awp_loopB, ↓ow_nil', ↓ow_cons0, ↓ow_cons1, ↓o1_move, ↓o1_assign, ↓o1_pick, ↓o1_alloc, ↓o1_box, ↓o1_build, ↓o1_buildSlice, ↓o1_makeSlice, ↓o1_makeMap, ↓o1_binOp, ↓o1_unOp, ↓o1_convert, ↓o1_fieldAddr, ↓o1_field, ↓o1_indexAddr, ↓o1_extract, ↓o1_slice, ↓o1_len, ↓o1_max, ↓o1_min, ↓o1_load, ↓o1_lookup, ↓o1_store, ↓o1_mapUpdate, ↓o1_append, ↓o1_delete, ↓o1_call, ↓luP_succ, ↓o1_makeFunc, ↓o1_index, ↓o1_callV, encR, encT_eq, used, fin]
          refine awpY_plain _ (by kernel_rfl) ?_
          simp (config := { maxSteps := 1000000 }) [-List.map_map, -List.mapM_map, ↓awp_skip, ↓awp_regionB, ↓awp_seq, ↓awp_block, ↓awp_exit, ↓awp_ret, ↓awp_label, ↓awp_scope, ↓awp_condB, ↓awp_loopB, ↓ow_nil', ↓ow_cons0, ↓ow_cons1, ↓o1_move, ↓o1_assign, ↓o1_pick, ↓o1_alloc, ↓o1_box, ↓o1_build, ↓o1_buildSlice, ↓o1_makeSlice, ↓o1_makeMap, ↓o1_binOp, ↓o1_unOp, ↓o1_convert, ↓o1_fieldAddr, ↓o1_field, ↓o1_indexAddr, ↓o1_extract, ↓o1_slice, ↓o1_len, ↓o1_max, ↓o1_min, ↓o1_load, ↓o1_lookup, ↓o1_store, ↓o1_mapUpdate, ↓o1_append, ↓o1_delete, ↓o1_call, ↓luP_succ, ↓o1_makeFunc, ↓o1_index, ↓o1_callV, encR, encT_eq]
          refine ⟨(k + 1, n - 1, a', b'), ⟨by simp at hn ⊢; omega, hlt, hdn, by simp at ha' ⊢; try omega, by simp at hb' ⊢; try omega⟩, by simp at hn ⊢; omega, rfl, wk_l [1] (by simp) ?_ ?_⟩ <;> simp [-List.map_map, upd, inj1, Γ0, encR, encT_eq]

end Go.Am

open Go Go.Am Go.Proofs
namespace Go.Am
set_option linter.unusedSimpArgs false

def tmZ (p : Int × Int) : Tm := ⟨p.1, decide (p.2 < 0), digs p.2.natAbs⟩
theorem encT_tmZ (p : Int × Int) : encT (tmZ p) = encF p := rfl
theorem encR_tmZ (l : List (Int × Int)) : encR (l.map tmZ) = encC l := by simp [encR, encC, List.map_map, Function.comp_def, encT_tmZ]

/-- The columns of two rows, with what each has there. -/
def bZ : Nat → List (Int × Int) → List (Int × Int) → List (Int × Int × Int)
  | 0, _, _ => []
  | _ + 1, [], [] => []
  | n + 1, x :: a, [] => (x.1, x.2, 0) :: bZ n a []
  | n + 1, [], y :: b => (y.1, 0, y.2) :: bZ n [] b
  | n + 1, x :: a, y :: b => if y.1 < x.1 then (y.1, 0, y.2) :: bZ n (x :: a) b else if x.1 < y.1 then (x.1, x.2, 0) :: bZ n a (y :: b) else (x.1, x.2, y.2) :: bZ n a b
def bZL (a b : List (Int × Int)) : List (Int × Int × Int) := bZ (a.length + b.length) a b
def encQ (p : Int × Int × Int) : List D := [.i .i64 p.1, .ag [.b (decide (p.2.1 < 0)), encM (digs p.2.1.natAbs), .b (decide (p.2.2 < 0)), encM (digs p.2.2.natAbs)]]
theorem digs_z : digs (0 : Int).natAbs = [] := by simp [digs_zero]
theorem bothF_bZ : ∀ (n : Nat) (a b : List (Int × Int)), (bothF n (a.map tmZ) (b.map tmZ)).map encP = (bZ n a b).map encQ
  | 0, _, _ => rfl
  | n + 1, [], [] => rfl
  | n + 1, x :: a, [] => by
    have := bothF_bZ n a []
    simp only [List.map_nil] at this
    simp only [List.map_cons, List.map_nil, bothF, bZ, this]
    simp [encP, encQ, zT, tmZ, digs_zero]
  | n + 1, [], y :: b => by
    have := bothF_bZ n [] b
    simp only [List.map_nil] at this
    simp only [List.map_cons, List.map_nil, bothF, bZ, this]
    simp [encP, encQ, zT, tmZ, digs_zero]
  | n + 1, x :: a, y :: b => by
    have h1 := bothF_bZ n (x :: a) b
    have h2 := bothF_bZ n a (y :: b)
    have h3 := bothF_bZ n a b
    simp only [List.map_cons] at h1 h2
    simp only [List.map_cons, bothF, bZ]
    show List.map encP (if y.1 < x.1 then _ else if x.1 < y.1 then _ else _) = _
    split
    · simp only [List.map_cons, h1]
      simp [encP, encQ, zT, tmZ, digs_zero]
    · split
      · simp only [List.map_cons, h2]
        simp [encP, encQ, zT, tmZ, digs_zero]
      · simp only [List.map_cons, h3]
        simp [encP, encQ, zT, tmZ, digs_zero]
theorem bothSeqZ (a b : List (Int × Int)) (ha : a.length ≤ 1099511627776) (hb : b.length ≤ 1099511627776) : SeqSpec Try.prog 111 [.pt [encC a], .pt [encC b]] ((bZL a b).map encQ) := by
  have := bothSeq (a.map tmZ) (b.map tmZ) (by simpa using ha) (by simpa using hb)
  rw [encR_tmZ, encR_tmZ] at this
  unfold bothL at this
  rw [bothF_bZ, List.length_map, List.length_map] at this
  exact this

set_option maxRecDepth 10000 in
theorem bothSpec (a b : List (Int × Int)) : Spec Try.prog 78 [encC a, encC b] (.fn 111 [.pt [encC a], .pt [encC b]]) := by
  refine spec_of (N := 6) follows_mixed Try.func78 rfl rfl rfl (by kernel_rfl) (by kernel_rfl) (by simp) ?_
  simp (config := { maxSteps := 1000000 }) [-List.map_map, -List.mapM_map, ↓awp_skip, ↓awp_regionB, ↓awp_seq, ↓awp_block, ↓awp_exit, ↓awp_ret, ↓awp_label, ↓awp_scope, ↓awp_condB, ↓awp_loopB, ↓ow_nil', ↓ow_cons0, ↓ow_cons1, ↓o1_move, ↓o1_assign, ↓o1_pick, ↓o1_alloc, ↓o1_box, ↓o1_build, ↓o1_buildSlice, ↓o1_makeSlice, ↓o1_makeMap, ↓o1_binOp, ↓o1_unOp, ↓o1_convert, ↓o1_fieldAddr, ↓o1_field, ↓o1_indexAddr, ↓o1_extract, ↓o1_slice, ↓o1_len, ↓o1_max, ↓o1_min, ↓o1_load, ↓o1_lookup, ↓o1_store, ↓o1_mapUpdate, ↓o1_append, ↓o1_delete, ↓o1_call, ↓luP_succ, ↓o1_makeFunc, ↓o1_index, ↓o1_callV, encC]

theorem subL_own_iff {H H' : Nat → Option HO} {ρ : Nat → Nat} {a o l s b o' l' s' : Nat} : SubL H H' ρ (.own a o l s) (.own b o' l' s') ↔ (a = ρ b ∧ o = o' ∧ l = l' ∧ s = s' ∧ (H' b).isSome = true) := Iff.rfl
theorem fcs_snoc (f : Int × Int) (a b : List (Int × Int)) : fcs (f :: (a ++ b)) = fcs (f :: a) ++ fcs b := fcs_app (f :: a) b
/-- What is made of the pairs. -/
def mgP (k : Int) (p : Int × Int × Int) : Option (Int × Int) := if p.2.1 + k * p.2.2 = 0 then none else some (p.1, p.2.1 + k * p.2.2)
def mg (k : Int) (l : List (Int × Int × Int)) : List (Int × Int) := l.filterMap (mgP k)
def mS (k : Int) : List (Int × Int) → St
  | [] => StL [(5, .ptr 1 0), (7, .ptr 2 0)] none [.cells 32 [.d (.b (decide (k < 0))), .d (encM (digs k.natAbs))], .cells 45 [.nil]]
  | x :: l => StL [(5, .ptr 1 0), (7, .ptr 2 0)] none [.cells 32 [.d (.b (decide (k < 0))), .d (encM (digs k.natAbs))], .cells 45 [.own 3 0 (l.length + 1) 3], .cells 109 ((fcs (x :: l)).map .d)]

set_option maxHeartbeats 4000000 in
set_option maxRecDepth 10000 in
theorem mergeSpec (a b : List (Int × Int)) (k : Int) (hk : Sz k) (ha : a.length ≤ 1073741824) (hb : b.length ≤ 1073741824) (hl : (bZL a b).length ≤ 2147483648) (hs : ∀ p ∈ bZL a b, Sz p.2.1 ∧ Sz p.2.2 ∧ Sz (k * p.2.2) ∧ Sz (p.2.1 + k * p.2.2)) :
    Spec Try.prog 27 [encC a, encC b, encZ k] (encC (mg k (bZL a b))) := by
  refine spec_ofR (N := 33) follows_mixed Try.func27 rfl rfl rfl (by kernel_rfl) (by kernel_rfl) (by simp) ?_
  refine awpR_seqL (by kernel_rfl) ?_
  simp (config := { maxSteps := 1000000 }) [-List.map_map, -List.mapM_map, ↓awp_skip, ↓awp_regionB, ↓awp_seq, ↓awp_block, ↓awp_exit, ↓awp_ret, ↓awp_label, ↓awp_scope, ↓awp_condB, ↓awp_loopB, ↓ow_nil', ↓ow_cons0, ↓ow_cons1, ↓o1_move, ↓o1_assign, ↓o1_pick, ↓o1_alloc, ↓o1_box, ↓o1_build, ↓o1_buildSlice, ↓o1_makeSlice, ↓o1_makeMap, ↓o1_binOp, ↓o1_unOp, ↓o1_convert, ↓o1_fieldAddr, ↓o1_field, ↓o1_indexAddr, ↓o1_extract, ↓o1_slice, ↓o1_len, ↓o1_max, ↓o1_min, ↓o1_load, ↓o1_lookup, ↓o1_store, ↓o1_mapUpdate, ↓o1_append, ↓o1_delete, ↓o1_call, ↓luP_succ, ↓o1_makeFunc, ↓o1_index, ↓o1_callV, encC, encZ_eq, cellsA_encM, one_encM]
  refine awpR_seqL (by kernel_rfl) ?_
  simp (config := { maxSteps := 1000000 }) [-List.map_map, -List.mapM_map, ↓awp_skip, ↓awp_regionB, ↓awp_seq, ↓awp_block, ↓awp_exit, ↓awp_ret, ↓awp_label, ↓awp_scope, ↓awp_condB, ↓awp_loopB, ↓ow_nil', ↓ow_cons0, ↓ow_cons1, ↓o1_move, ↓o1_assign, ↓o1_pick, ↓o1_alloc, ↓o1_box, ↓o1_build, ↓o1_buildSlice, ↓o1_makeSlice, ↓o1_makeMap, ↓o1_binOp, ↓o1_unOp, ↓o1_convert, ↓o1_fieldAddr, ↓o1_field, ↓o1_indexAddr, ↓o1_extract, ↓o1_slice, ↓o1_len, ↓o1_max, ↓o1_min, ↓o1_load, ↓o1_lookup, ↓o1_store, ↓o1_mapUpdate, ↓o1_append, ↓o1_delete, ↓o1_call, ↓luP_succ, ↓o1_makeFunc, ↓o1_index, ↓o1_callV, encC, encZ_eq]
  refine awpR_seq ?_
  refine awpR_seqL (by kernel_rfl) ?_
  simp (config := { maxSteps := 1000000 }) [-List.map_map, -List.mapM_map, ↓awp_skip, ↓awp_regionB, ↓awp_seq, ↓awp_block, ↓awp_exit, ↓awp_ret, ↓awp_label, ↓awp_scope, ↓awp_condB, ↓awp_loopB, ↓ow_nil', ↓ow_cons0, ↓ow_cons1, ↓o1_move, ↓o1_assign, ↓o1_pick, ↓o1_alloc, ↓o1_box, ↓o1_build, ↓o1_buildSlice, ↓o1_makeSlice, ↓o1_makeMap, ↓o1_binOp, ↓o1_unOp, ↓o1_convert, ↓o1_fieldAddr, ↓o1_field, ↓o1_indexAddr, ↓o1_extract, ↓o1_slice, ↓o1_len, ↓o1_max, ↓o1_min, ↓o1_load, ↓o1_lookup, ↓o1_store, ↓o1_mapUpdate, ↓o1_append, ↓o1_delete, ↓o1_call, ↓luP_succ, ↓o1_makeFunc, ↓o1_index, ↓o1_callV, encC, encZ_eq]
  refine callP_intro (ds := [encC a, encC b]) (by rfl) (bothSpec a b) ?_
  simp (config := { maxSteps := 1000000 }) [-List.map_map, -List.mapM_map, ↓awp_skip, ↓awp_regionB, ↓awp_seq, ↓awp_block, ↓awp_exit, ↓awp_ret, ↓awp_label, ↓awp_scope, ↓awp_condB, ↓awp_loopB, ↓ow_nil', ↓ow_cons0, ↓ow_cons1, ↓o1_move, ↓o1_assign, ↓o1_pick, ↓o1_alloc, ↓o1_box, ↓o1_build, ↓o1_buildSlice, ↓o1_makeSlice, ↓o1_makeMap, ↓o1_binOp, ↓o1_unOp, ↓o1_convert, ↓o1_fieldAddr, ↓o1_field, ↓o1_indexAddr, ↓o1_extract, ↓o1_slice, ↓o1_len, ↓o1_max, ↓o1_min, ↓o1_load, ↓o1_lookup, ↓o1_store, ↓o1_mapUpdate, ↓o1_append, ↓o1_delete, ↓o1_call, ↓luP_succ, ↓o1_makeFunc, ↓o1_index, ↓o1_callV, encC, encZ_eq]
  refine awpR_block ?_
  refine awpR_range0 ((bZL a b).map encQ) (fun i => mS k (mg k ((bZL a b).take i))) [8, 9, 10, 14, 15, 16, 17, 18, 19, 20, 21, 22, 23, 24, 25, 26, 27, 28, 29, 30, 31] (by rfl) (caps := [.pt [encC a], .pt [encC b]]) (by rfl) (by rfl) (bothSeqZ a b (by omega) (by omega)) ?_ (by kernel_rfl) ?_ ?_
  · show ∃ ρ, Wk _ (mS k (mg k [])) ρ
    refine wk_l [1, 2] (by simp) ?_ ?_ <;> simp [-List.map_map, upd, inj1, Γ0, encC]
  · intro i x hx
    rw [List.getElem?_map] at hx
    obtain ⟨p, hp, rfl⟩ := Option.map_eq_some_iff.1 hx
    obtain ⟨h1, h2, h3, h4⟩ := hs p (List.mem_of_getElem? hp)
    refine ⟨rfl, ?_⟩
    have htk : (bZL a b).take (i + 1) = (bZL a b).take i ++ [p] := by rw [List.take_add_one, hp]; rfl
    have hlen : ((bZL a b).take i).length ≤ 2147483648 := by simp; omega
    have hmg : mg k ((bZL a b).take (i + 1)) = mg k ((bZL a b).take i) ++ (if p.2.1 + k * p.2.2 = 0 then [] else [(p.1, p.2.1 + k * p.2.2)]) := by
      rw [htk]; unfold mg; rw [List.filterMap_append]
      congr 1
      unfold mgP
      simp only [List.filterMap_cons, List.filterMap_nil]
      split <;> rename_i hh <;> (split at hh <;> simp_all)
    have hln : (mg k ((bZL a b).take i)).length ≤ 2147483648 := Nat.le_trans (List.length_filterMap_le _ _) hlen
    generalize mg k ((bZL a b).take (i + 1)) = out' at *
    generalize mg k ((bZL a b).take i) = out at *
    subst hmg
    obtain ⟨c, x, y⟩ := p
    simp only at h1 h2 h3 h4 ⊢
    have hm1 : (1 : Nat) ≤ maxLen := le_maxLen (by decide)
    have hM := intMulZ k y hk h2
    have hA := intAddZ x (k * y) h1 h3
    have hS := intSignZ (x + k * y) h4
    have hs0 : x + k * y = 0 → (x + k * y).sign = 0 := fun h => by rw [h]; rfl
    have hs1 : ¬ x + k * y = 0 → ((x + k * y).sign != 0) = true := fun h => by
      have : (x + k * y).sign ≠ 0 := fun e => h (Int.sign_eq_zero_iff_zero.1 e)
      simpa using this
    generalize x + k * y = s at *
    generalize k * y = ky at *
    cases out with
    | nil =>
      by_cases h0 : s = 0
      · rw [if_pos h0, List.append_nil]
        show AWP _ _ ⟨upd (upd (mS k []).Γ 14 (.d (.i .i64 c))) 15 (.ag [.d (.b (decide (x < 0))), .d (encM (digs x.natAbs)), .d (.b (decide (y < 0))), .d (encM (digs y.natAbs))]), (mS k []).H, (mS k []).n⟩ _
        simp (config := { maxSteps := 1000000 }) [-List.map_map, -List.mapM_map, ↓awp_skip, ↓awp_regionB, ↓awp_seq, ↓awp_block, ↓awp_exit, ↓awp_ret, ↓awp_label, ↓awp_scope, ↓awp_condB, ↓awp_loopB, ↓ow_nil', ↓ow_cons0, ↓ow_cons1, ↓o1_move, ↓o1_assign, ↓o1_pick, ↓o1_alloc, ↓o1_box, ↓o1_build, ↓o1_buildSlice, ↓o1_makeSlice, ↓o1_makeMap, ↓o1_binOp, ↓o1_unOp, ↓o1_convert, ↓o1_fieldAddr, ↓o1_field, ↓o1_indexAddr, ↓o1_extract, ↓o1_slice, ↓o1_len, ↓o1_max, ↓o1_min, ↓o1_load, ↓o1_lookup, ↓o1_store, ↓o1_mapUpdate, ↓o1_append, ↓o1_delete, ↓o1_call, ↓luP_succ, ↓o1_makeFunc, ↓o1_index, ↓o1_callV, mS, cellsA_encM, one_encM, inj1_encM, inj_encM, kills_encM]
        refine callP_intro (ds := [encZ k, encZ y]) (by rfl) hM ?_
        rw [encZ_eq ky]
        simp (config := { maxSteps := 1000000 }) [-List.map_map, -List.mapM_map, ↓awp_skip, ↓awp_regionB, ↓awp_seq, ↓awp_block, ↓awp_exit, ↓awp_ret, ↓awp_label, ↓awp_scope, ↓awp_condB, ↓awp_loopB, ↓ow_nil', ↓ow_cons0, ↓ow_cons1, ↓o1_move, ↓o1_assign, ↓o1_pick, ↓o1_alloc, ↓o1_box, ↓o1_build, ↓o1_buildSlice, ↓o1_makeSlice, ↓o1_makeMap, ↓o1_binOp, ↓o1_unOp, ↓o1_convert, ↓o1_fieldAddr, ↓o1_field, ↓o1_indexAddr, ↓o1_extract, ↓o1_slice, ↓o1_len, ↓o1_max, ↓o1_min, ↓o1_load, ↓o1_lookup, ↓o1_store, ↓o1_mapUpdate, ↓o1_append, ↓o1_delete, ↓o1_call, ↓luP_succ, ↓o1_makeFunc, ↓o1_index, ↓o1_callV, cellsA_encM, one_encM, inj1_encM, inj_encM, kills_encM]
        refine callP_intro (ds := [encZ x, encZ ky]) (by rfl) hA ?_
        rw [encZ_eq s]
        simp (config := { maxSteps := 1000000 }) [-List.map_map, -List.mapM_map, ↓awp_skip, ↓awp_regionB, ↓awp_seq, ↓awp_block, ↓awp_exit, ↓awp_ret, ↓awp_label, ↓awp_scope, ↓awp_condB, ↓awp_loopB, ↓ow_nil', ↓ow_cons0, ↓ow_cons1, ↓o1_move, ↓o1_assign, ↓o1_pick, ↓o1_alloc, ↓o1_box, ↓o1_build, ↓o1_buildSlice, ↓o1_makeSlice, ↓o1_makeMap, ↓o1_binOp, ↓o1_unOp, ↓o1_convert, ↓o1_fieldAddr, ↓o1_field, ↓o1_indexAddr, ↓o1_extract, ↓o1_slice, ↓o1_len, ↓o1_max, ↓o1_min, ↓o1_load, ↓o1_lookup, ↓o1_store, ↓o1_mapUpdate, ↓o1_append, ↓o1_delete, ↓o1_call, ↓luP_succ, ↓o1_makeFunc, ↓o1_index, ↓o1_callV, cellsA_encM, one_encM, inj1_encM, inj_encM, kills_encM]
        refine callP_intro (ds := [encZ s]) (by rfl) hS ?_
        rw [hs0 h0]
        simp (config := { maxSteps := 1000000 }) [-List.map_map, -List.mapM_map, ↓awp_skip, ↓awp_regionB, ↓awp_seq, ↓awp_block, ↓awp_exit, ↓awp_ret, ↓awp_label, ↓awp_scope, ↓awp_condB, ↓awp_loopB, ↓ow_nil', ↓ow_cons0, ↓ow_cons1, ↓o1_move, ↓o1_assign, ↓o1_pick, ↓o1_alloc, ↓o1_box, ↓o1_build, ↓o1_buildSlice, ↓o1_makeSlice, ↓o1_makeMap, ↓o1_binOp, ↓o1_unOp, ↓o1_convert, ↓o1_fieldAddr, ↓o1_field, ↓o1_indexAddr, ↓o1_extract, ↓o1_slice, ↓o1_len, ↓o1_max, ↓o1_min, ↓o1_load, ↓o1_lookup, ↓o1_store, ↓o1_mapUpdate, ↓o1_append, ↓o1_delete, ↓o1_call, ↓luP_succ, ↓o1_makeFunc, ↓o1_index, ↓o1_callV, cellsA_encM, one_encM, inj1_encM, inj_encM, kills_encM]
        refine wk_l [1, 2] (by simp) ?_ ?_ <;> simp [-List.map_map, upd, inj1, Γ0, List.contains_cons, subL_own_iff, fcs_one]
      · rw [if_neg h0]
        show AWP _ _ ⟨upd (upd (mS k []).Γ 14 (.d (.i .i64 c))) 15 (.ag [.d (.b (decide (x < 0))), .d (encM (digs x.natAbs)), .d (.b (decide (y < 0))), .d (encM (digs y.natAbs))]), (mS k []).H, (mS k []).n⟩ _
        simp (config := { maxSteps := 1000000 }) [-List.map_map, -List.mapM_map, ↓awp_skip, ↓awp_regionB, ↓awp_seq, ↓awp_block, ↓awp_exit, ↓awp_ret, ↓awp_label, ↓awp_scope, ↓awp_condB, ↓awp_loopB, ↓ow_nil', ↓ow_cons0, ↓ow_cons1, ↓o1_move, ↓o1_assign, ↓o1_pick, ↓o1_alloc, ↓o1_box, ↓o1_build, ↓o1_buildSlice, ↓o1_makeSlice, ↓o1_makeMap, ↓o1_binOp, ↓o1_unOp, ↓o1_convert, ↓o1_fieldAddr, ↓o1_field, ↓o1_indexAddr, ↓o1_extract, ↓o1_slice, ↓o1_len, ↓o1_max, ↓o1_min, ↓o1_load, ↓o1_lookup, ↓o1_store, ↓o1_mapUpdate, ↓o1_append, ↓o1_delete, ↓o1_call, ↓luP_succ, ↓o1_makeFunc, ↓o1_index, ↓o1_callV, mS, cellsA_encM, one_encM, inj1_encM, inj_encM, kills_encM]
        refine callP_intro (ds := [encZ k, encZ y]) (by rfl) hM ?_
        rw [encZ_eq ky]
        simp (config := { maxSteps := 1000000 }) [-List.map_map, -List.mapM_map, ↓awp_skip, ↓awp_regionB, ↓awp_seq, ↓awp_block, ↓awp_exit, ↓awp_ret, ↓awp_label, ↓awp_scope, ↓awp_condB, ↓awp_loopB, ↓ow_nil', ↓ow_cons0, ↓ow_cons1, ↓o1_move, ↓o1_assign, ↓o1_pick, ↓o1_alloc, ↓o1_box, ↓o1_build, ↓o1_buildSlice, ↓o1_makeSlice, ↓o1_makeMap, ↓o1_binOp, ↓o1_unOp, ↓o1_convert, ↓o1_fieldAddr, ↓o1_field, ↓o1_indexAddr, ↓o1_extract, ↓o1_slice, ↓o1_len, ↓o1_max, ↓o1_min, ↓o1_load, ↓o1_lookup, ↓o1_store, ↓o1_mapUpdate, ↓o1_append, ↓o1_delete, ↓o1_call, ↓luP_succ, ↓o1_makeFunc, ↓o1_index, ↓o1_callV, cellsA_encM, one_encM, inj1_encM, inj_encM, kills_encM]
        refine callP_intro (ds := [encZ x, encZ ky]) (by rfl) hA ?_
        rw [encZ_eq s]
        simp (config := { maxSteps := 1000000 }) [-List.map_map, -List.mapM_map, ↓awp_skip, ↓awp_regionB, ↓awp_seq, ↓awp_block, ↓awp_exit, ↓awp_ret, ↓awp_label, ↓awp_scope, ↓awp_condB, ↓awp_loopB, ↓ow_nil', ↓ow_cons0, ↓ow_cons1, ↓o1_move, ↓o1_assign, ↓o1_pick, ↓o1_alloc, ↓o1_box, ↓o1_build, ↓o1_buildSlice, ↓o1_makeSlice, ↓o1_makeMap, ↓o1_binOp, ↓o1_unOp, ↓o1_convert, ↓o1_fieldAddr, ↓o1_field, ↓o1_indexAddr, ↓o1_extract, ↓o1_slice, ↓o1_len, ↓o1_max, ↓o1_min, ↓o1_load, ↓o1_lookup, ↓o1_store, ↓o1_mapUpdate, ↓o1_append, ↓o1_delete, ↓o1_call, ↓luP_succ, ↓o1_makeFunc, ↓o1_index, ↓o1_callV, cellsA_encM, one_encM, inj1_encM, inj_encM, kills_encM]
        refine callP_intro (ds := [encZ s]) (by rfl) hS ?_
        have hs2 := hs1 h0
        generalize s.sign = sn at *
        simp (config := { maxSteps := 1000000 }) [-List.map_map, -List.mapM_map, ↓awp_skip, ↓awp_regionB, ↓awp_seq, ↓awp_block, ↓awp_exit, ↓awp_ret, ↓awp_label, ↓awp_scope, ↓awp_condB, ↓awp_loopB, ↓ow_nil', ↓ow_cons0, ↓ow_cons1, ↓o1_move, ↓o1_assign, ↓o1_pick, ↓o1_alloc, ↓o1_box, ↓o1_build, ↓o1_buildSlice, ↓o1_makeSlice, ↓o1_makeMap, ↓o1_binOp, ↓o1_unOp, ↓o1_convert, ↓o1_fieldAddr, ↓o1_field, ↓o1_indexAddr, ↓o1_extract, ↓o1_slice, ↓o1_len, ↓o1_max, ↓o1_min, ↓o1_load, ↓o1_lookup, ↓o1_store, ↓o1_mapUpdate, ↓o1_append, ↓o1_delete, ↓o1_call, ↓luP_succ, ↓o1_makeFunc, ↓o1_index, ↓o1_callV, hs2, cellsA_encM, one_encM, inj1_encM, inj_encM, kills_encM, hm1]
        refine wk_l [1, 2, 6] (by simp) ?_ ?_ <;> simp [-List.map_map, upd, inj1, Γ0, List.contains_cons, subL_own_iff, fcs_one]
    | cons f out =>
      have hfl := fcs_len (f :: out)
      have hln2 : (f :: out).length = out.length + 1 := rfl
      rw [hln2] at hfl hln
      have hbb := app_bounds (n := out.length + 1) (by omega)
      by_cases h0 : s = 0
      · rw [if_pos h0, List.append_nil]
        show AWP _ _ ⟨upd (upd (mS k (f :: out)).Γ 14 (.d (.i .i64 c))) 15 (.ag [.d (.b (decide (x < 0))), .d (encM (digs x.natAbs)), .d (.b (decide (y < 0))), .d (encM (digs y.natAbs))]), (mS k (f :: out)).H, (mS k (f :: out)).n⟩ _
        simp (config := { maxSteps := 1000000 }) [-List.map_map, -List.mapM_map, ↓awp_skip, ↓awp_regionB, ↓awp_seq, ↓awp_block, ↓awp_exit, ↓awp_ret, ↓awp_label, ↓awp_scope, ↓awp_condB, ↓awp_loopB, ↓ow_nil', ↓ow_cons0, ↓ow_cons1, ↓o1_move, ↓o1_assign, ↓o1_pick, ↓o1_alloc, ↓o1_box, ↓o1_build, ↓o1_buildSlice, ↓o1_makeSlice, ↓o1_makeMap, ↓o1_binOp, ↓o1_unOp, ↓o1_convert, ↓o1_fieldAddr, ↓o1_field, ↓o1_indexAddr, ↓o1_extract, ↓o1_slice, ↓o1_len, ↓o1_max, ↓o1_min, ↓o1_load, ↓o1_lookup, ↓o1_store, ↓o1_mapUpdate, ↓o1_append, ↓o1_delete, ↓o1_call, ↓luP_succ, ↓o1_makeFunc, ↓o1_index, ↓o1_callV, mS, cellsA_encM, one_encM, inj1_encM, inj_encM, kills_encM]
        refine callP_intro (ds := [encZ k, encZ y]) (by rfl) hM ?_
        rw [encZ_eq ky]
        simp (config := { maxSteps := 1000000 }) [-List.map_map, -List.mapM_map, ↓awp_skip, ↓awp_regionB, ↓awp_seq, ↓awp_block, ↓awp_exit, ↓awp_ret, ↓awp_label, ↓awp_scope, ↓awp_condB, ↓awp_loopB, ↓ow_nil', ↓ow_cons0, ↓ow_cons1, ↓o1_move, ↓o1_assign, ↓o1_pick, ↓o1_alloc, ↓o1_box, ↓o1_build, ↓o1_buildSlice, ↓o1_makeSlice, ↓o1_makeMap, ↓o1_binOp, ↓o1_unOp, ↓o1_convert, ↓o1_fieldAddr, ↓o1_field, ↓o1_indexAddr, ↓o1_extract, ↓o1_slice, ↓o1_len, ↓o1_max, ↓o1_min, ↓o1_load, ↓o1_lookup, ↓o1_store, ↓o1_mapUpdate, ↓o1_append, ↓o1_delete, ↓o1_call, ↓luP_succ, ↓o1_makeFunc, ↓o1_index, ↓o1_callV, cellsA_encM, one_encM, inj1_encM, inj_encM, kills_encM]
        refine callP_intro (ds := [encZ x, encZ ky]) (by rfl) hA ?_
        rw [encZ_eq s]
        simp (config := { maxSteps := 1000000 }) [-List.map_map, -List.mapM_map, ↓awp_skip, ↓awp_regionB, ↓awp_seq, ↓awp_block, ↓awp_exit, ↓awp_ret, ↓awp_label, ↓awp_scope, ↓awp_condB, ↓awp_loopB, ↓ow_nil', ↓ow_cons0, ↓ow_cons1, ↓o1_move, ↓o1_assign, ↓o1_pick, ↓o1_alloc, ↓o1_box, ↓o1_build, ↓o1_buildSlice, ↓o1_makeSlice, ↓o1_makeMap, ↓o1_binOp, ↓o1_unOp, ↓o1_convert, ↓o1_fieldAddr, ↓o1_field, ↓o1_indexAddr, ↓o1_extract, ↓o1_slice, ↓o1_len, ↓o1_max, ↓o1_min, ↓o1_load, ↓o1_lookup, ↓o1_store, ↓o1_mapUpdate, ↓o1_append, ↓o1_delete, ↓o1_call, ↓luP_succ, ↓o1_makeFunc, ↓o1_index, ↓o1_callV, cellsA_encM, one_encM, inj1_encM, inj_encM, kills_encM]
        refine callP_intro (ds := [encZ s]) (by rfl) hS ?_
        rw [hs0 h0]
        simp (config := { maxSteps := 1000000 }) [-List.map_map, -List.mapM_map, ↓awp_skip, ↓awp_regionB, ↓awp_seq, ↓awp_block, ↓awp_exit, ↓awp_ret, ↓awp_label, ↓awp_scope, ↓awp_condB, ↓awp_loopB, ↓ow_nil', ↓ow_cons0, ↓ow_cons1, ↓o1_move, ↓o1_assign, ↓o1_pick, ↓o1_alloc, ↓o1_box, ↓o1_build, ↓o1_buildSlice, ↓o1_makeSlice, ↓o1_makeMap, ↓o1_binOp, ↓o1_unOp, ↓o1_convert, ↓o1_fieldAddr, ↓o1_field, ↓o1_indexAddr, ↓o1_extract, ↓o1_slice, ↓o1_len, ↓o1_max, ↓o1_min, ↓o1_load, ↓o1_lookup, ↓o1_store, ↓o1_mapUpdate, ↓o1_append, ↓o1_delete, ↓o1_call, ↓luP_succ, ↓o1_makeFunc, ↓o1_index, ↓o1_callV, cellsA_encM, one_encM, inj1_encM, inj_encM, kills_encM]
        refine wk_l [1, 2, 3] (by simp) ?_ ?_ <;> simp [-List.map_map, upd, inj1, Γ0, List.contains_cons, subL_own_iff, fcs_snoc, fcs_one]
      · rw [if_neg h0]
        show AWP _ _ ⟨upd (upd (mS k (f :: out)).Γ 14 (.d (.i .i64 c))) 15 (.ag [.d (.b (decide (x < 0))), .d (encM (digs x.natAbs)), .d (.b (decide (y < 0))), .d (encM (digs y.natAbs))]), (mS k (f :: out)).H, (mS k (f :: out)).n⟩ _
        simp (config := { maxSteps := 1000000 }) [-List.map_map, -List.mapM_map, ↓awp_skip, ↓awp_regionB, ↓awp_seq, ↓awp_block, ↓awp_exit, ↓awp_ret, ↓awp_label, ↓awp_scope, ↓awp_condB, ↓awp_loopB, ↓ow_nil', ↓ow_cons0, ↓ow_cons1, ↓o1_move, ↓o1_assign, ↓o1_pick, ↓o1_alloc, ↓o1_box, ↓o1_build, ↓o1_buildSlice, ↓o1_makeSlice, ↓o1_makeMap, ↓o1_binOp, ↓o1_unOp, ↓o1_convert, ↓o1_fieldAddr, ↓o1_field, ↓o1_indexAddr, ↓o1_extract, ↓o1_slice, ↓o1_len, ↓o1_max, ↓o1_min, ↓o1_load, ↓o1_lookup, ↓o1_store, ↓o1_mapUpdate, ↓o1_append, ↓o1_delete, ↓o1_call, ↓luP_succ, ↓o1_makeFunc, ↓o1_index, ↓o1_callV, mS, cellsA_encM, one_encM, inj1_encM, inj_encM, kills_encM]
        refine callP_intro (ds := [encZ k, encZ y]) (by rfl) hM ?_
        rw [encZ_eq ky]
        simp (config := { maxSteps := 1000000 }) [-List.map_map, -List.mapM_map, ↓awp_skip, ↓awp_regionB, ↓awp_seq, ↓awp_block, ↓awp_exit, ↓awp_ret, ↓awp_label, ↓awp_scope, ↓awp_condB, ↓awp_loopB, ↓ow_nil', ↓ow_cons0, ↓ow_cons1, ↓o1_move, ↓o1_assign, ↓o1_pick, ↓o1_alloc, ↓o1_box, ↓o1_build, ↓o1_buildSlice, ↓o1_makeSlice, ↓o1_makeMap, ↓o1_binOp, ↓o1_unOp, ↓o1_convert, ↓o1_fieldAddr, ↓o1_field, ↓o1_indexAddr, ↓o1_extract, ↓o1_slice, ↓o1_len, ↓o1_max, ↓o1_min, ↓o1_load, ↓o1_lookup, ↓o1_store, ↓o1_mapUpdate, ↓o1_append, ↓o1_delete, ↓o1_call, ↓luP_succ, ↓o1_makeFunc, ↓o1_index, ↓o1_callV, cellsA_encM, one_encM, inj1_encM, inj_encM, kills_encM]
        refine callP_intro (ds := [encZ x, encZ ky]) (by rfl) hA ?_
        rw [encZ_eq s]
        simp (config := { maxSteps := 1000000 }) [-List.map_map, -List.mapM_map, ↓awp_skip, ↓awp_regionB, ↓awp_seq, ↓awp_block, ↓awp_exit, ↓awp_ret, ↓awp_label, ↓awp_scope, ↓awp_condB, ↓awp_loopB, ↓ow_nil', ↓ow_cons0, ↓ow_cons1, ↓o1_move, ↓o1_assign, ↓o1_pick, ↓o1_alloc, ↓o1_box, ↓o1_build, ↓o1_buildSlice, ↓o1_makeSlice, ↓o1_makeMap, ↓o1_binOp, ↓o1_unOp, ↓o1_convert, ↓o1_fieldAddr, ↓o1_field, ↓o1_indexAddr, ↓o1_extract, ↓o1_slice, ↓o1_len, ↓o1_max, ↓o1_min, ↓o1_load, ↓o1_lookup, ↓o1_store, ↓o1_mapUpdate, ↓o1_append, ↓o1_delete, ↓o1_call, ↓luP_succ, ↓o1_makeFunc, ↓o1_index, ↓o1_callV, cellsA_encM, one_encM, inj1_encM, inj_encM, kills_encM]
        refine callP_intro (ds := [encZ s]) (by rfl) hS ?_
        have hs2 := hs1 h0
        generalize s.sign = sn at *
        simp (config := { maxSteps := 1000000 }) [-List.map_map, -List.mapM_map, ↓awp_skip, ↓awp_regionB, ↓awp_seq, ↓awp_block, ↓awp_exit, ↓awp_ret, ↓awp_label, ↓awp_scope, ↓awp_condB, ↓awp_loopB, ↓ow_nil', ↓ow_cons0, ↓ow_cons1, ↓o1_move, ↓o1_assign, ↓o1_pick, ↓o1_alloc, ↓o1_box, ↓o1_build, ↓o1_buildSlice, ↓o1_makeSlice, ↓o1_makeMap, ↓o1_binOp, ↓o1_unOp, ↓o1_convert, ↓o1_fieldAddr, ↓o1_field, ↓o1_indexAddr, ↓o1_extract, ↓o1_slice, ↓o1_len, ↓o1_max, ↓o1_min, ↓o1_load, ↓o1_lookup, ↓o1_store, ↓o1_mapUpdate, ↓o1_append, ↓o1_delete, ↓o1_call, ↓luP_succ, ↓o1_makeFunc, ↓o1_index, ↓o1_callV, hs2, cellsA_encM, one_encM, inj1_encM, inj_encM, kills_encM, hm1, hfl, hbb, le_maxLen]
        refine wk_l [1, 2, 7] (by simp) ?_ ?_ <;> simp [-List.map_map, upd, inj1, Γ0, List.contains_cons, subL_own_iff, fcs_snoc, fcs_one]
  · rw [List.length_map, List.take_length]
    generalize mg k (bZL a b) = out
    refine awpR_plain _ (by kernel_rfl) ?_
    cases out with
    | nil => simp (config := { maxSteps := 1000000 }) [-List.map_map, -List.mapM_map, ↓awp_skip, ↓awp_regionB, ↓awp_seq, ↓awp_block, ↓awp_exit, ↓awp_ret, ↓awp_label, ↓awp_scope, ↓awp_condB, ↓awp_loopB, ↓ow_nil', ↓ow_cons0, ↓ow_cons1, ↓o1_move, ↓o1_assign, ↓o1_pick, ↓o1_alloc, ↓o1_box, ↓o1_build, ↓o1_buildSlice, ↓o1_makeSlice, ↓o1_makeMap, ↓o1_binOp, ↓o1_unOp, ↓o1_convert, ↓o1_fieldAddr, ↓o1_field, ↓o1_indexAddr, ↓o1_extract, ↓o1_slice, ↓o1_len, ↓o1_max, ↓o1_min, ↓o1_load, ↓o1_lookup, ↓o1_store, ↓o1_mapUpdate, ↓o1_append, ↓o1_delete, ↓o1_call, ↓luP_succ, ↓o1_makeFunc, ↓o1_index, ↓o1_callV, mS, encC]
    | cons f out =>
      have hfl := fcs_len (f :: out)
      have hln2 : (f :: out).length = out.length + 1 := rfl
      rw [hln2] at hfl
      simp (config := { maxSteps := 1000000 }) [-List.map_map, -List.mapM_map, ↓awp_skip, ↓awp_regionB, ↓awp_seq, ↓awp_block, ↓awp_exit, ↓awp_ret, ↓awp_label, ↓awp_scope, ↓awp_condB, ↓awp_loopB, ↓ow_nil', ↓ow_cons0, ↓ow_cons1, ↓o1_move, ↓o1_assign, ↓o1_pick, ↓o1_alloc, ↓o1_box, ↓o1_build, ↓o1_buildSlice, ↓o1_makeSlice, ↓o1_makeMap, ↓o1_binOp, ↓o1_unOp, ↓o1_convert, ↓o1_fieldAddr, ↓o1_field, ↓o1_indexAddr, ↓o1_extract, ↓o1_slice, ↓o1_len, ↓o1_max, ↓o1_min, ↓o1_load, ↓o1_lookup, ↓o1_store, ↓o1_mapUpdate, ↓o1_append, ↓o1_delete, ↓o1_call, ↓luP_succ, ↓o1_makeFunc, ↓o1_index, ↓o1_callV, mS, encC, hfl, chunk_fcs hln2, fcs_take_all hln2]

end Go.Am

open Go Go.Am Go.Proofs
namespace Go.Am

def eqL {α : Type} (f : α → α → Bool) : List α → List α → Bool
  | [], [] => true
  | x :: a, y :: b => f x y && eqL f a b
  | _, _ => false
theorem eqL_ok {α : Type} {f : α → α → Bool} (h : ∀ x y, f x y = true → x = y) : ∀ (a b : List α), eqL f a b = true → a = b
  | [], [], _ => rfl
  | x :: a, y :: b, e => by
    simp only [eqL, Bool.and_eq_true] at e
    rw [h _ _ e.1, eqL_ok h _ _ e.2]
  | [], _ :: _, e => by cases e
  | _ :: _, [], e => by cases e
/-- Data compared, to a depth. -/
def eqD : Nat → D → D → Bool
  | 0, _, _ => false
  | n + 1, x, y => match x, y with
    | .b p, .b q => p == q
    | .i k a, .i l b => decide (k = l) && decide (a = b)
    | .sl a, .sl b => eqL (eqL (eqD n)) a b
    | .ag a, .ag b => eqL (eqD n) a b
    | _, _ => false
theorem eqD_ok : ∀ (n : Nat) (x y : D), eqD n x y = true → x = y
  | 0, _, _, h => by cases h
  | n + 1, x, y, h => by
    have ih := eqD_ok n
    unfold eqD at h
    split at h
    · simp only [beq_iff_eq] at h; rw [h]
    · simp only [Bool.and_eq_true, decide_eq_true_eq] at h; rw [h.1, h.2]
    · rw [eqL_ok (eqL_ok ih) _ _ h]
    · rw [eqL_ok ih _ _ h]
    · cases h

def sanA : List (Int × Int) := [(0, 2), (3, 1)]
def sanB : List (Int × Int) := [(0, 1), (1, 5)]
/-- What is known: sparse.Merge at the check's own data. -/
def E6 (X Y K R : D) : Kn := { E0 with call := fun f ds => if f = 27 then (match ds with | [x, y, z] => if eqD 8 x X && eqD 8 y Y && eqD 8 z K then some R else none | _ => none) else E0.call f ds }
theorem E6_ok {X Y K R : D} (h : Spec Try.prog 27 [X, Y, K] R) : KnOk Try.prog (E6 X Y K R) := by
  have h0 := E0_ok
  refine ⟨fun f ds r hc => ?_, h0.ocall, h0.keys, h0.sorted, h0.recs⟩
  simp only [E6] at hc
  split at hc
  · rename_i hf; subst hf
    split at hc
    · split at hc
      · rename_i he
        simp only [Bool.and_eq_true] at he
        injection hc with hc; subst hc
        rw [eqD_ok _ _ _ he.1.1, eqD_ok _ _ _ he.1.2, eqD_ok _ _ _ he.2]
        exact h
      · cases hc
    · cases hc
  · exact h0.call _ _ _ hc

def dA : D := .sl [[.i .i64 0, .b false, .sl [[.i .u32 2]]], [.i .i64 3, .b false, .sl [[.i .u32 1]]]]
def dB : D := .sl [[.i .i64 0, .b false, .sl [[.i .u32 1]]], [.i .i64 1, .b false, .sl [[.i .u32 5]]]]
def dK : D := .ag [.b true, .sl [[.i .u32 2]]]
def dR : D := .sl [[.i .i64 1, .b true, .sl [[.i .u32 10]]], [.i .i64 3, .b false, .sl [[.i .u32 1]]]]
theorem digs_one {n : Nat} (h0 : n ≠ 0) (h : n < 4294967296) : digs n = [n] := by
  rw [digs_pos h0, Nat.mod_eq_of_lt h, Nat.div_eq_of_lt h, digs_zero]
theorem sz_one {z : Int} (h : z.natAbs < 4294967296) : Sz z := by
  by_cases h0 : z.natAbs = 0
  · unfold Sz; rw [h0, digs_zero]; decide
  · unfold Sz; rw [digs_one h0 h]; simp
theorem sanMerge : Spec Try.prog 27 [dA, dB, dK] dR := by
  have h := mergeSpec sanA sanB (-2) (sz_one (by decide)) (by decide) (by decide) (by decide) (fun p hp => by
    have : p = (0, 2, 1) ∨ p = (1, 0, 5) ∨ p = (3, 1, 0) := by
      have e : bZL sanA sanB = [(0, 2, 1), (1, 0, 5), (3, 1, 0)] := by decide
      rw [e] at hp
      simpa using hp
    rcases this with rfl | rfl | rfl <;> exact ⟨sz_one (by decide), sz_one (by decide), sz_one (by decide), sz_one (by decide)⟩)
  have e1 : encC sanA = dA := by simp [encC, sanA, encF, dA, encM, digs_one]
  have e2 : encC sanB = dB := by simp [encC, sanB, encF, dB, encM, digs_one]
  have e3 : encZ (-2) = dK := by simp [encZ, encI, dK, encM, digs_one]
  have e4 : mg (-2) (bZL sanA sanB) = [(1, -10), (3, 1)] := by decide
  have e5 : encC [(1, -10), (3, 1)] = dR := by simp [encC, encF, dR, encM, digs_one]
  rw [e1, e2, e3, e4, e5] at h
  exact h

theorem sanity06 : Spec Try.prog 22 [] (.b true) :=
  (runK_ok (fuel := 100) follows_mixed (E6_ok sanMerge) 20).call 22 [] (.b true) (by kernel_rfl)
end Go.Am
