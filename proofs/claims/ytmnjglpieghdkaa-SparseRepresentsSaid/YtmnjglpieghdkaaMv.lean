/- The reference's Equal, Insert, Remove. No condition. -/
import Derived.Test.YtmnjglpieghdkaaMu
open Go Go.Am Go.Proofs
namespace Go.Am
set_option linter.unusedSimpArgs false

theorem resD_two {P : Program} (σ : St) (x y : ResultVar) : resD P [x, y] σ = (res1 P σ x).bind fun a => (res1 P σ y).bind fun b => (frz σ.H 8 a).bind fun u => (frz σ.H 8 b).bind fun v => some (.tp [u, v]) := by
  unfold resD
  cases h1 : res1 P σ x with
  | none => simp [h1]
  | some a =>
    cases h2 : res1 P σ y with
    | none => simp [h1, h2]
    | some b =>
      cases h3 : frz σ.H 8 a with
      | none => simp [h1, h2, frzs, h3]
      | some u =>
        cases h4 : frz σ.H 8 b with
        | none => simp [h1, h2, frzs, h3, h4]
        | some v => simp [h1, h2, frzs, h3, h4]
def RowOk (r : List (Int × Int)) : Prop := (∀ x ∈ r, Sz x.2) ∧ r.length ≤ 4294967296

set_option maxHeartbeats 8000000 in
set_option maxRecDepth 10000 in
theorem r06Equal (r c r' c' : Int) {L L' : List (List (Int × Int))} (hL : ∀ x ∈ L, RowOk x) (hL' : ∀ x ∈ L', RowOk x) (hn : L.length ≤ 1000000) (_hn' : L'.length ≤ 1000000) : Spec Try.prog 39 [encSp r c L, encSp r' c' L'] (.b (decide (r = r' ∧ c = c' ∧ L = L'))) := by
  refine spec_of (N := 46) follows_mixed Try.func39 rfl rfl rfl (by kernel_rfl) (by kernel_rfl) (by simp) ?_
  by_cases hr : r = r'
  rotate_left
  · have h1 : (r != r') = true := by simpa using hr
    have h2 : decide (r = r' ∧ c = c' ∧ L = L') = false := by simp [hr]
    rw [h2]
    simp (config := { maxSteps := 1000000 }) [-List.map_map, -List.mapM_map, ↓awp_skip, ↓awp_regionB, ↓awp_seq, ↓awp_block, ↓awp_exit, ↓awp_ret, ↓awp_label, ↓awp_scope, ↓awp_condB, ↓awp_loopB, ↓ow_nil', ↓ow_cons0, ↓ow_cons1, ↓o1_move, ↓o1_assign, ↓o1_pick, ↓o1_alloc, ↓o1_box, ↓o1_build, ↓o1_buildSlice, ↓o1_makeSlice, ↓o1_makeMap, ↓o1_binOp, ↓o1_unOp, ↓o1_convert, ↓o1_fieldAddr, ↓o1_field, ↓o1_indexAddr, ↓o1_extract, ↓o1_slice, ↓o1_len, ↓o1_max, ↓o1_min, ↓o1_load, ↓o1_lookup, ↓o1_store, ↓o1_mapUpdate, ↓o1_append, ↓o1_delete, ↓o1_call, encSp, h1]
  · subst hr
    have h1 : (r != r) = false := by simp
    by_cases hc : c = c'
    rotate_left
    · have h3 : (c != c') = true := by simpa using hc
      have h2 : decide (r = r ∧ c = c' ∧ L = L') = false := by simp [hc]
      rw [h2]
      simp (config := { maxSteps := 1000000 }) [-List.map_map, -List.mapM_map, ↓awp_skip, ↓awp_regionB, ↓awp_seq, ↓awp_block, ↓awp_exit, ↓awp_ret, ↓awp_label, ↓awp_scope, ↓awp_condB, ↓awp_loopB, ↓ow_nil', ↓ow_cons0, ↓ow_cons1, ↓o1_move, ↓o1_assign, ↓o1_pick, ↓o1_alloc, ↓o1_box, ↓o1_build, ↓o1_buildSlice, ↓o1_makeSlice, ↓o1_makeMap, ↓o1_binOp, ↓o1_unOp, ↓o1_convert, ↓o1_fieldAddr, ↓o1_field, ↓o1_indexAddr, ↓o1_extract, ↓o1_slice, ↓o1_len, ↓o1_max, ↓o1_min, ↓o1_load, ↓o1_lookup, ↓o1_store, ↓o1_mapUpdate, ↓o1_append, ↓o1_delete, ↓o1_call, encSp, h1, h3]
    · subst hc
      have h3 : (c != c) = false := by simp
      by_cases hlen : L.length = L'.length
      rotate_left
      · have h4 : (((L.length : Int) != L'.length) : Bool) = true := by simp; omega
        have h2 : decide (r = r ∧ c = c ∧ L = L') = false := by simp; intro e; rw [e] at hlen; exact hlen rfl
        rw [h2]
        simp (config := { maxSteps := 1000000 }) [-List.map_map, -List.mapM_map, ↓awp_skip, ↓awp_regionB, ↓awp_seq, ↓awp_block, ↓awp_exit, ↓awp_ret, ↓awp_label, ↓awp_scope, ↓awp_condB, ↓awp_loopB, ↓ow_nil', ↓ow_cons0, ↓ow_cons1, ↓o1_move, ↓o1_assign, ↓o1_pick, ↓o1_alloc, ↓o1_box, ↓o1_build, ↓o1_buildSlice, ↓o1_makeSlice, ↓o1_makeMap, ↓o1_binOp, ↓o1_unOp, ↓o1_convert, ↓o1_fieldAddr, ↓o1_field, ↓o1_indexAddr, ↓o1_extract, ↓o1_slice, ↓o1_len, ↓o1_max, ↓o1_min, ↓o1_load, ↓o1_lookup, ↓o1_store, ↓o1_mapUpdate, ↓o1_append, ↓o1_delete, ↓o1_call, encSp, h1, h3, h4]
      · have h4 : (((L.length : Int) != L'.length) : Bool) = false := by simp; omega
        simp (config := { maxSteps := 1000000 }) [-List.map_map, -List.mapM_map, ↓awp_skip, ↓awp_regionB, ↓awp_seq, ↓awp_block, ↓awp_exit, ↓awp_ret, ↓awp_label, ↓awp_scope, ↓awp_condB, ↓awp_loopB, ↓ow_nil', ↓ow_cons0, ↓ow_cons1, ↓o1_move, ↓o1_assign, ↓o1_pick, ↓o1_alloc, ↓o1_box, ↓o1_build, ↓o1_buildSlice, ↓o1_makeSlice, ↓o1_makeMap, ↓o1_binOp, ↓o1_unOp, ↓o1_convert, ↓o1_fieldAddr, ↓o1_field, ↓o1_indexAddr, ↓o1_extract, ↓o1_slice, ↓o1_len, ↓o1_max, ↓o1_min, ↓o1_load, ↓o1_lookup, ↓o1_store, ↓o1_mapUpdate, ↓o1_append, ↓o1_delete, ↓o1_call, encSp, h1, h3, h4]
        refine loopP_inv (fun i : Nat => i ≤ L.length ∧ ∀ j, j < i → L[j]? = L'[j]?) (fun i => StL [(2, .ptr 1 0), (3, .ptr 2 0), (5, .d (.i .i64 (i : Int)))] none
          [.cells 44 [.d (.i .i64 r), .d (.i .i64 c), .d (.sl (L.map fun r => [encC r]))], .cells 44 [.d (.i .i64 r), .d (.i .i64 c), .d (.sl (L'.map fun r => [encC r]))]]) (fun i => L.length - i) 0 ⟨Nat.zero_le _, fun j h => by omega⟩ ?_ ?_
        · refine wk_l [1, 2] (by simp) ?_ ?_ <;> simp [-List.map_map, upd, inj1, Γ0, ]
        · rintro i ⟨hi, hok⟩
          by_cases hgo : i < L.length
          · have q1 : (i : Int) < L.length := by omega
            have hgb : i < L'.length := by omega
            have hx : L[i]? = some L[i] := List.getElem?_eq_getElem hgo
            have hy : L'[i]? = some L'[i] := List.getElem?_eq_getElem hgb
            have hxs := hL _ (List.getElem_mem hgo)
            have hys := hL' _ (List.getElem_mem hgb)
            have hw : IntKind.i64.wrap ((i : Int) + 1) = (i : Int) + 1 := wrap_i64 (by omega) (by omega)
            generalize L[i] = x at *
            generalize L'[i] = y at *
            have hS := r06SameRow hxs.1 hys.1 hxs.2 hys.2
            have hne : ¬ x = y → L ≠ L' := fun h e => by
              rw [e, hy] at hx
              injection hx with hx
              exact h hx.symm
            simp (config := { maxSteps := 1000000 }) [-List.map_map, -List.mapM_map, ↓awp_skip, ↓awp_regionB, ↓awp_seq, ↓awp_block, ↓awp_exit, ↓awp_ret, ↓awp_label, ↓awp_scope, ↓awp_condB, ↓awp_loopB, ↓ow_nil', ↓ow_cons0, ↓ow_cons1, ↓o1_move, ↓o1_assign, ↓o1_pick, ↓o1_alloc, ↓o1_box, ↓o1_build, ↓o1_buildSlice, ↓o1_makeSlice, ↓o1_makeMap, ↓o1_binOp, ↓o1_unOp, ↓o1_convert, ↓o1_fieldAddr, ↓o1_field, ↓o1_indexAddr, ↓o1_extract, ↓o1_slice, ↓o1_len, ↓o1_max, ↓o1_min, ↓o1_load, ↓o1_lookup, ↓o1_store, ↓o1_mapUpdate, ↓o1_append, ↓o1_delete, ↓o1_call, q1, hx, hy]
            refine callP_intro (ds := [encC x, encC y]) (by rfl) hS ?_
            by_cases hv : x = y
            · subst hv
              rw [decide_eq_true rfl]
              simp (config := { maxSteps := 1000000 }) [-List.map_map, -List.mapM_map, ↓awp_skip, ↓awp_regionB, ↓awp_seq, ↓awp_block, ↓awp_exit, ↓awp_ret, ↓awp_label, ↓awp_scope, ↓awp_condB, ↓awp_loopB, ↓ow_nil', ↓ow_cons0, ↓ow_cons1, ↓o1_move, ↓o1_assign, ↓o1_pick, ↓o1_alloc, ↓o1_box, ↓o1_build, ↓o1_buildSlice, ↓o1_makeSlice, ↓o1_makeMap, ↓o1_binOp, ↓o1_unOp, ↓o1_convert, ↓o1_fieldAddr, ↓o1_field, ↓o1_indexAddr, ↓o1_extract, ↓o1_slice, ↓o1_len, ↓o1_max, ↓o1_min, ↓o1_load, ↓o1_lookup, ↓o1_store, ↓o1_mapUpdate, ↓o1_append, ↓o1_delete, ↓o1_call, hw]
              refine nxt_intro (i + 1) ⟨hgo, fun j hj => ?_⟩ (Nat.sub_lt_sub_left hgo (Nat.lt_succ_self _)) (wk_l [1, 2] (by simp) ?_ ?_)
              · rcases Nat.lt_or_ge j i with h2 | h2
                · exact hok j h2
                · rw [show j = i by omega, hx, hy]
              · simp [-List.map_map, upd, inj1, Γ0, ]
              · simp [-List.map_map, upd, inj1, Γ0, ]
            · rw [decide_eq_false hv]
              have e2 := hne hv
              simp (config := { maxSteps := 1000000 }) [-List.map_map, -List.mapM_map, ↓awp_skip, ↓awp_regionB, ↓awp_seq, ↓awp_block, ↓awp_exit, ↓awp_ret, ↓awp_label, ↓awp_scope, ↓awp_condB, ↓awp_loopB, ↓ow_nil', ↓ow_cons0, ↓ow_cons1, ↓o1_move, ↓o1_assign, ↓o1_pick, ↓o1_alloc, ↓o1_box, ↓o1_build, ↓o1_buildSlice, ↓o1_makeSlice, ↓o1_makeMap, ↓o1_binOp, ↓o1_unOp, ↓o1_convert, ↓o1_fieldAddr, ↓o1_field, ↓o1_indexAddr, ↓o1_extract, ↓o1_slice, ↓o1_len, ↓o1_max, ↓o1_min, ↓o1_load, ↓o1_lookup, ↓o1_store, ↓o1_mapUpdate, ↓o1_append, ↓o1_delete, ↓o1_call, e2]
          · have q1 : ¬ (i : Int) < L.length := by omega
            have e : L = L' := eq_of_get hlen fun j hj => hok j (by omega)
            rw [← e]
            simp (config := { maxSteps := 1000000 }) [-List.map_map, -List.mapM_map, ↓awp_skip, ↓awp_regionB, ↓awp_seq, ↓awp_block, ↓awp_exit, ↓awp_ret, ↓awp_label, ↓awp_scope, ↓awp_condB, ↓awp_loopB, ↓ow_nil', ↓ow_cons0, ↓ow_cons1, ↓o1_move, ↓o1_assign, ↓o1_pick, ↓o1_alloc, ↓o1_box, ↓o1_build, ↓o1_buildSlice, ↓o1_makeSlice, ↓o1_makeMap, ↓o1_binOp, ↓o1_unOp, ↓o1_convert, ↓o1_fieldAddr, ↓o1_field, ↓o1_indexAddr, ↓o1_extract, ↓o1_slice, ↓o1_len, ↓o1_max, ↓o1_min, ↓o1_load, ↓o1_lookup, ↓o1_store, ↓o1_mapUpdate, ↓o1_append, ↓o1_delete, ↓o1_call, q1]

def insL (L : List (List (Int × Int))) (i : Nat) (row : List (Int × Int)) : List (List (Int × Int)) := L.take i ++ row :: L.drop i
def bad (e : Int) : D := .tp [encSp 0 0 [], .i .i64 e]
def inS (R c : Int) (L : List (List (Int × Int))) (i : Int) (row : List (Int × Int)) (k : Int) : List (List (Int × Int)) → St
  | [] => StL [(1, .d (.i .i64 i)), (2, .d (encC row)), (3, .ptr 1 0), (6, .ptr 2 0), (7, .d (.i .i64 0)), (8, .ptr 3 0), (9, .d (.i .i64 k))] none
      [.cells 44 [.d (.i .i64 R), .d (.i .i64 c), .d (.sl (L.map fun r => [encC r]))], .cells 44 [.d (.i .i64 0), .d (.i .i64 0), .nil], .cells 44 [.d (.i .i64 (R + 1)), .d (.i .i64 c), .nil]]
  | m :: M => StL [(1, .d (.i .i64 i)), (2, .d (encC row)), (3, .ptr 1 0), (6, .ptr 2 0), (7, .d (.i .i64 0)), (8, .ptr 3 0), (9, .d (.i .i64 k))] none
      [.cells 44 [.d (.i .i64 R), .d (.i .i64 c), .d (.sl (L.map fun r => [encC r]))], .cells 44 [.d (.i .i64 0), .d (.i .i64 0), .nil], .cells 44 [.d (.i .i64 (R + 1)), .d (.i .i64 c), .own 4 0 (M.length + 1) 1], .cells 45 ((rcs (m :: M)).map .d)]
def inT (R c : Int) (L : List (List (Int × Int))) (i : Int) (row : List (Int × Int)) (k : Int) (n : Nat) (M : List (List (Int × Int))) : St :=
  StL [(1, .d (.i .i64 i)), (2, .d (encC row)), (3, .ptr 1 0), (6, .ptr 2 0), (7, .d (.i .i64 0)), (8, .ptr 3 0), (10, .d (.i .i64 k))] none
      [.cells 44 [.d (.i .i64 R), .d (.i .i64 c), .d (.sl (L.map fun r => [encC r]))], .cells 44 [.d (.i .i64 0), .d (.i .i64 0), .nil], .cells 44 [.d (.i .i64 (R + 1)), .d (.i .i64 c), .own 4 0 n 1], .cells 45 ((rcs M).map .d)]

theorem r06InsArg (R c : Int) (L : List (List (Int × Int))) (i : Int) (row : List (Int × Int)) (h : i < 0 ∨ R < i) : Spec Try.prog 36 [encSp R c L, .i .i64 i, encC row] (bad 1) := by
  refine spec_of (N := 81) follows_mixed Try.func36 rfl rfl rfl (by kernel_rfl) (by kernel_rfl) (by simp) ?_
  by_cases h0 : i < 0
  · simp (config := { maxSteps := 1000000 }) [-List.map_map, -List.mapM_map, ↓awp_skip, ↓awp_regionB, ↓awp_seq, ↓awp_block, ↓awp_exit, ↓awp_ret, ↓awp_label, ↓awp_scope, ↓awp_condB, ↓awp_loopB, ↓ow_nil', ↓ow_cons0, ↓ow_cons1, ↓o1_move, ↓o1_assign, ↓o1_pick, ↓o1_alloc, ↓o1_box, ↓o1_build, ↓o1_buildSlice, ↓o1_makeSlice, ↓o1_makeMap, ↓o1_binOp, ↓o1_unOp, ↓o1_convert, ↓o1_fieldAddr, ↓o1_field, ↓o1_indexAddr, ↓o1_extract, ↓o1_slice, ↓o1_len, ↓o1_max, ↓o1_min, ↓o1_load, ↓o1_lookup, ↓o1_store, ↓o1_mapUpdate, ↓o1_append, ↓o1_delete, ↓o1_call, encSp, h0, bad, resD_two]
  · have h1 : R < i := by omega
    simp (config := { maxSteps := 1000000 }) [-List.map_map, -List.mapM_map, ↓awp_skip, ↓awp_regionB, ↓awp_seq, ↓awp_block, ↓awp_exit, ↓awp_ret, ↓awp_label, ↓awp_scope, ↓awp_condB, ↓awp_loopB, ↓ow_nil', ↓ow_cons0, ↓ow_cons1, ↓o1_move, ↓o1_assign, ↓o1_pick, ↓o1_alloc, ↓o1_box, ↓o1_build, ↓o1_buildSlice, ↓o1_makeSlice, ↓o1_makeMap, ↓o1_binOp, ↓o1_unOp, ↓o1_convert, ↓o1_fieldAddr, ↓o1_field, ↓o1_indexAddr, ↓o1_extract, ↓o1_slice, ↓o1_len, ↓o1_max, ↓o1_min, ↓o1_load, ↓o1_lookup, ↓o1_store, ↓o1_mapUpdate, ↓o1_append, ↓o1_delete, ↓o1_call, encSp, h0, h1, bad, resD_two]

theorem r06InsShape (R c : Int) (L : List (List (Int × Int))) (i : Int) (row : List (Int × Int)) (t : Int × Int) (h0 : ¬ i < 0) (h1 : ¬ R < i) (hl : row.length ≤ 4294967296) (hc : c ≤ t.1) : Spec Try.prog 36 [encSp R c L, .i .i64 i, encC (row ++ [t])] (bad 50) := by
  refine spec_of (N := 81) follows_mixed Try.func36 rfl rfl rfl (by kernel_rfl) (by kernel_rfl) (by simp) ?_
  have hx : (row ++ [t])[row.length]? = some t := by simp
  have hn : (row ++ [t]).length = row.length + 1 := by simp
  have hw : IntKind.i64.wrap (row.length : Int) = (row.length : Int) := wrap_i64 (by omega) (by omega)
  have h2 : (0 : Int) < (row.length : Int) + 1 := by omega
  generalize row ++ [t] = rr at *
  obtain ⟨_, hx2⟩ := List.getElem?_eq_some_iff.1 hx
  obtain ⟨tc, tv⟩ := t
  simp (config := { maxSteps := 1000000 }) [-List.map_map, -List.mapM_map, ↓awp_skip, ↓awp_regionB, ↓awp_seq, ↓awp_block, ↓awp_exit, ↓awp_ret, ↓awp_label, ↓awp_scope, ↓awp_condB, ↓awp_loopB, ↓ow_nil', ↓ow_cons0, ↓ow_cons1, ↓o1_move, ↓o1_assign, ↓o1_pick, ↓o1_alloc, ↓o1_box, ↓o1_build, ↓o1_buildSlice, ↓o1_makeSlice, ↓o1_makeMap, ↓o1_binOp, ↓o1_unOp, ↓o1_convert, ↓o1_fieldAddr, ↓o1_field, ↓o1_indexAddr, ↓o1_extract, ↓o1_slice, ↓o1_len, ↓o1_max, ↓o1_min, ↓o1_load, ↓o1_lookup, ↓o1_store, ↓o1_mapUpdate, ↓o1_append, ↓o1_delete, ↓o1_call, encSp, encC, encF_eq, h0, h1, hn, hw, h2, hx, hx2, hc, bad, resD_two]


set_option maxHeartbeats 16000000 in
set_option maxRecDepth 10000 in
theorem r06InsOk (c : Int) (L : List (List (Int × Int))) (i : Nat) (row : List (Int × Int)) (hL : L.length ≤ 1000) (hi : i ≤ L.length) (hl : row.length ≤ 4294967296) (hc : ∀ x ∈ row, x.1 < c) : Spec Try.prog 36 [encSp L.length c L, .i .i64 (i : Int), encC row] (.tp [encSp ((L.length : Int) + 1) c (insL L i row), .i .i64 0]) := by
  refine spec_of (N := 81) follows_mixed Try.func36 rfl rfl rfl (by kernel_rfl) (by kernel_rfl) (by simp) ?_
  have h0 : ¬ (i : Int) < 0 := by omega
  have h1 : ¬ (L.length : Int) < i := by omega
  have hwR : IntKind.i64.wrap ((L.length : Int) + 1) = (L.length : Int) + 1 := wrap_i64 (by omega) (by omega)
  rcases List.eq_nil_or_concat row with hrow | ⟨row', t, hrow⟩
  rotate_left
  · have hx : row[row'.length]? = some t := by rw [hrow]; simp
    have hn : row.length = row'.length + 1 := by rw [hrow]; simp
    have hw2 : IntKind.i64.wrap (row'.length : Int) = (row'.length : Int) := wrap_i64 (by omega) (by omega)
    have h2 : (0 : Int) < (row'.length : Int) + 1 := by omega
    have h3 : ¬ c ≤ t.1 := by have := hc t (List.mem_of_getElem? hx); omega
    clear hrow
    generalize row'.length = p at *
    obtain ⟨_, hx2⟩ := List.getElem?_eq_some_iff.1 hx
    obtain ⟨tc, tv⟩ := t
    simp (config := { maxSteps := 1000000 }) [-List.map_map, -List.mapM_map, ↓awp_skip, ↓awp_regionB, ↓awp_seq, ↓awp_block, ↓awp_exit, ↓awp_ret, ↓awp_label, ↓awp_scope, ↓awp_condB, ↓awp_loopB, ↓ow_nil', ↓ow_cons0, ↓ow_cons1, ↓o1_move, ↓o1_assign, ↓o1_pick, ↓o1_alloc, ↓o1_box, ↓o1_build, ↓o1_buildSlice, ↓o1_makeSlice, ↓o1_makeMap, ↓o1_binOp, ↓o1_unOp, ↓o1_convert, ↓o1_fieldAddr, ↓o1_field, ↓o1_indexAddr, ↓o1_extract, ↓o1_slice, ↓o1_len, ↓o1_max, ↓o1_min, ↓o1_load, ↓o1_lookup, ↓o1_store, ↓o1_mapUpdate, ↓o1_append, ↓o1_delete, ↓o1_call, encSp, encC, encF_eq, h0, h1, hn, hw2, h2, hx, hx2, h3, hwR]

    refine loopP_inv (fun k : Nat => k ≤ i) (fun k => inS L.length c L i row k (L.take k)) (fun k => i - k) 0 (Nat.zero_le _) ?_ ?_
    · rw [List.take_zero, inS]
      refine wk_l [1, 2, 3] (by simp) ?_ ?_ <;> simp [-List.map_map, upd, inj1, Γ0, encC, hwR]
    · intro k hk
      have hlk : (L.take k).length = k := by rw [List.length_take]; exact Nat.min_eq_left (by omega)
      by_cases hgo : k < i
      · have hkL : k < L.length := by omega
        have q1 : (k : Int) < i := by omega
        have hx0 : L[k]? = some L[k] := List.getElem?_eq_getElem hkL
        have hw : IntKind.i64.wrap ((k : Int) + 1) = (k : Int) + 1 := wrap_i64 (by omega) (by omega)
        have htk : L.take (k + 1) = L.take k ++ [L[k]] := by rw [List.take_add_one, hx0]; rfl
        generalize L.take k = M0 at *
        generalize L[k] = x at *
        rcases M0 with _ | ⟨m, M⟩
        · simp only [inS]
          simp (config := { maxSteps := 1000000 }) [-List.map_map, -List.mapM_map, ↓awp_skip, ↓awp_regionB, ↓awp_seq, ↓awp_block, ↓awp_exit, ↓awp_ret, ↓awp_label, ↓awp_scope, ↓awp_condB, ↓awp_loopB, ↓ow_nil', ↓ow_cons0, ↓ow_cons1, ↓o1_move, ↓o1_assign, ↓o1_pick, ↓o1_alloc, ↓o1_box, ↓o1_build, ↓o1_buildSlice, ↓o1_makeSlice, ↓o1_makeMap, ↓o1_binOp, ↓o1_unOp, ↓o1_convert, ↓o1_fieldAddr, ↓o1_field, ↓o1_indexAddr, ↓o1_extract, ↓o1_slice, ↓o1_len, ↓o1_max, ↓o1_min, ↓o1_load, ↓o1_lookup, ↓o1_store, ↓o1_mapUpdate, ↓o1_append, ↓o1_delete, ↓o1_call, q1, hx0, hw, le_maxLen, encC]
          refine nxt_intro (k + 1) hgo (Nat.sub_lt_sub_left hgo (Nat.lt_succ_self _)) ?_
          simp only [htk, inS, List.nil_append]
          refine wk_l [1, 2, 3, 5] (by simp) ?_ ?_ <;> simp [-List.map_map, upd, inj1, Γ0, subL_own_iff3, rcs, encC]
        · have hfl := rcs_len (m :: M)
          rw [List.length_cons] at hfl hlk
          have hbb : (M.length + 1 + 1) * 24 ≤ 140737488355328 ∧ M.length + 1 + 1 ≤ 1099511627776 := ⟨by omega, by omega⟩
          have e1 : rcs (m :: (M ++ [x])) = rcs (m :: M) ++ [encC x] := rcs_snoc (m :: M) x
          simp only [inS]
          generalize rcs (m :: M) = RM at *
          simp (config := { maxSteps := 1000000 }) [-List.map_map, -List.mapM_map, ↓awp_skip, ↓awp_regionB, ↓awp_seq, ↓awp_block, ↓awp_exit, ↓awp_ret, ↓awp_label, ↓awp_scope, ↓awp_condB, ↓awp_loopB, ↓ow_nil', ↓ow_cons0, ↓ow_cons1, ↓o1_move, ↓o1_assign, ↓o1_pick, ↓o1_alloc, ↓o1_box, ↓o1_build, ↓o1_buildSlice, ↓o1_makeSlice, ↓o1_makeMap, ↓o1_binOp, ↓o1_unOp, ↓o1_convert, ↓o1_fieldAddr, ↓o1_field, ↓o1_indexAddr, ↓o1_extract, ↓o1_slice, ↓o1_len, ↓o1_max, ↓o1_min, ↓o1_load, ↓o1_lookup, ↓o1_store, ↓o1_mapUpdate, ↓o1_append, ↓o1_delete, ↓o1_call, q1, hx0, hw, hbb, hfl, le_maxLen, encC]
          refine nxt_intro (k + 1) hgo (Nat.sub_lt_sub_left hgo (Nat.lt_succ_self _)) ?_
          simp only [htk, inS, List.cons_append, e1]
          refine wk_l [1, 2, 3, 6] (by simp) ?_ ?_ <;> simp [-List.map_map, upd, inj1, Γ0, subL_own_iff3, cellsOk_same, encC]
      · have e : i = k := by omega
        subst e
        have q1 : ¬ (i : Int) < i := by omega
        rcases hM0 : L.take i with _ | ⟨m, M⟩
        · have hi0 : i = 0 := by rw [hM0] at hlk; exact hlk.symm
          simp only [inS]
          simp (config := { maxSteps := 1000000 }) [-List.map_map, -List.mapM_map, ↓awp_skip, ↓awp_regionB, ↓awp_seq, ↓awp_block, ↓awp_exit, ↓awp_ret, ↓awp_label, ↓awp_scope, ↓awp_condB, ↓awp_loopB, ↓ow_nil', ↓ow_cons0, ↓ow_cons1, ↓o1_move, ↓o1_assign, ↓o1_pick, ↓o1_alloc, ↓o1_box, ↓o1_build, ↓o1_buildSlice, ↓o1_makeSlice, ↓o1_makeMap, ↓o1_binOp, ↓o1_unOp, ↓o1_convert, ↓o1_fieldAddr, ↓o1_field, ↓o1_indexAddr, ↓o1_extract, ↓o1_slice, ↓o1_len, ↓o1_max, ↓o1_min, ↓o1_load, ↓o1_lookup, ↓o1_store, ↓o1_mapUpdate, ↓o1_append, ↓o1_delete, ↓o1_call, q1, le_maxLen, encC]
          refine loopP_inv (fun k : Nat => i ≤ k ∧ k ≤ L.length) (fun k => inT L.length c L i row k (k + 1) (L.take i ++ row :: (L.drop i).take (k - i))) (fun k => L.length - k) i ⟨Nat.le_refl _, hi⟩ ?_ ?_
          · rw [Nat.sub_self, List.take_zero, hM0, List.nil_append, inT]
            refine wk_l [1, 2, 3, 5] (by simp) ?_ ?_ <;> simp [-List.map_map, upd, inj1, Γ0, subL_own_iff3, rcs, encC, hi0]
          · rintro k ⟨hk, hk2⟩
            have hfl := rcs_len (L.take i ++ row :: (L.drop i).take (k - i))
            rw [List.length_append, List.length_cons, List.length_take, List.length_take, List.length_drop, Nat.min_eq_left hi, Nat.min_eq_left (by omega), show i + (k - i + 1) = k + 1 by omega] at hfl
            by_cases hgo : k < L.length
            · have hx : L[k]? = some L[k] := List.getElem?_eq_getElem hgo
              have q1 : (k : Int) < L.length := by omega
              have hw : IntKind.i64.wrap ((k : Int) + 1) = (k : Int) + 1 := wrap_i64 (by omega) (by omega)
              have hbb : (k + 1 + 1) * 24 ≤ 140737488355328 ∧ k + 1 + 1 ≤ 1099511627776 := ⟨by omega, by omega⟩
              have htk : L.take i ++ row :: (L.drop i).take (k + 1 - i) = (L.take i ++ row :: (L.drop i).take (k - i)) ++ [L[k]] := by
                have : (L.drop i)[k - i]? = some L[k] := by rw [List.getElem?_drop, show i + (k - i) = k by omega]; exact hx
                rw [show k + 1 - i = (k - i) + 1 by omega, List.take_add_one, this]; simp
              generalize L.take i ++ row :: (L.drop i).take (k - i) = M2 at *
              generalize L[k] = x at *
              simp only [inT]
              simp (config := { maxSteps := 1000000 }) [-List.map_map, -List.mapM_map, ↓awp_skip, ↓awp_regionB, ↓awp_seq, ↓awp_block, ↓awp_exit, ↓awp_ret, ↓awp_label, ↓awp_scope, ↓awp_condB, ↓awp_loopB, ↓ow_nil', ↓ow_cons0, ↓ow_cons1, ↓o1_move, ↓o1_assign, ↓o1_pick, ↓o1_alloc, ↓o1_box, ↓o1_build, ↓o1_buildSlice, ↓o1_makeSlice, ↓o1_makeMap, ↓o1_binOp, ↓o1_unOp, ↓o1_convert, ↓o1_fieldAddr, ↓o1_field, ↓o1_indexAddr, ↓o1_extract, ↓o1_slice, ↓o1_len, ↓o1_max, ↓o1_min, ↓o1_load, ↓o1_lookup, ↓o1_store, ↓o1_mapUpdate, ↓o1_append, ↓o1_delete, ↓o1_call, q1, hx, hw, hbb, hfl, le_maxLen, encC]
              refine nxt_intro (k + 1) ⟨by omega, hgo⟩ (Nat.sub_lt_sub_left hgo (Nat.lt_succ_self _)) ?_
              simp only [inT, htk, rcs_snoc]
              refine wk_l [1, 2, 3, 6] (by simp) ?_ ?_ <;> simp [-List.map_map, upd, inj1, Γ0, subL_own_iff3, cellsOk_same, encC]
            · have e : k = L.length := by omega
              subst e
              have htk : L.take i ++ row :: (L.drop i).take (L.length - i) = insL L i row := by
                rw [insL]; congr 2; exact List.take_of_length_le (by simp)
              rw [htk] at hfl ⊢
              have q1 : ¬ (L.length : Int) < L.length := by omega
              have hM := rcs_chunk (insL L i row)
              generalize insL L i row = M2 at *
              simp only [inT]
              simp (config := { maxSteps := 1000000 }) [-List.map_map, -List.mapM_map, ↓awp_skip, ↓awp_regionB, ↓awp_seq, ↓awp_block, ↓awp_exit, ↓awp_ret, ↓awp_label, ↓awp_scope, ↓awp_condB, ↓awp_loopB, ↓ow_nil', ↓ow_cons0, ↓ow_cons1, ↓o1_move, ↓o1_assign, ↓o1_pick, ↓o1_alloc, ↓o1_box, ↓o1_build, ↓o1_buildSlice, ↓o1_makeSlice, ↓o1_makeMap, ↓o1_binOp, ↓o1_unOp, ↓o1_convert, ↓o1_fieldAddr, ↓o1_field, ↓o1_indexAddr, ↓o1_extract, ↓o1_slice, ↓o1_len, ↓o1_max, ↓o1_min, ↓o1_load, ↓o1_lookup, ↓o1_store, ↓o1_mapUpdate, ↓o1_append, ↓o1_delete, ↓o1_call, encSp, q1, hM, hfl, resD_two]
              rw [List.take_of_length_le (by simp [hfl]), mapM_d _ 5 (rcs M2)]
              simp [chunk_one _ _ hfl.symm]
              exact hM.symm
        · rw [hM0, List.length_cons] at hlk
          have hfl0 := rcs_len (m :: M)
          rw [List.length_cons] at hfl0
          have hbb0 : (M.length + 1 + 1) * 24 ≤ 140737488355328 ∧ M.length + 1 + 1 ≤ 1099511627776 := ⟨by omega, by omega⟩
          have e1 : rcs (m :: (M ++ [row])) = rcs (m :: M) ++ [encC row] := rcs_snoc (m :: M) row
          simp only [inS]
          generalize hRM : rcs (m :: M) = RM at *
          simp (config := { maxSteps := 1000000 }) [-List.map_map, -List.mapM_map, ↓awp_skip, ↓awp_regionB, ↓awp_seq, ↓awp_block, ↓awp_exit, ↓awp_ret, ↓awp_label, ↓awp_scope, ↓awp_condB, ↓awp_loopB, ↓ow_nil', ↓ow_cons0, ↓ow_cons1, ↓o1_move, ↓o1_assign, ↓o1_pick, ↓o1_alloc, ↓o1_box, ↓o1_build, ↓o1_buildSlice, ↓o1_makeSlice, ↓o1_makeMap, ↓o1_binOp, ↓o1_unOp, ↓o1_convert, ↓o1_fieldAddr, ↓o1_field, ↓o1_indexAddr, ↓o1_extract, ↓o1_slice, ↓o1_len, ↓o1_max, ↓o1_min, ↓o1_load, ↓o1_lookup, ↓o1_store, ↓o1_mapUpdate, ↓o1_append, ↓o1_delete, ↓o1_call, q1, hbb0, hfl0, le_maxLen, encC]
          refine loopP_inv (fun k : Nat => i ≤ k ∧ k ≤ L.length) (fun k => inT L.length c L i row k (k + 1) (L.take i ++ row :: (L.drop i).take (k - i))) (fun k => L.length - k) i ⟨Nat.le_refl _, hi⟩ ?_ ?_
          · rw [Nat.sub_self, List.take_zero, hM0, List.cons_append, inT]
            refine wk_l [1, 2, 3, 6] (by simp) ?_ ?_ <;> simp [-List.map_map, upd, inj1, Γ0, subL_own_iff3, e1, cellsOk_same, encC, hlk]
          · rintro k ⟨hk, hk2⟩
            have hfl := rcs_len (L.take i ++ row :: (L.drop i).take (k - i))
            rw [List.length_append, List.length_cons, List.length_take, List.length_take, List.length_drop, Nat.min_eq_left hi, Nat.min_eq_left (by omega), show i + (k - i + 1) = k + 1 by omega] at hfl
            by_cases hgo : k < L.length
            · have hx : L[k]? = some L[k] := List.getElem?_eq_getElem hgo
              have q1 : (k : Int) < L.length := by omega
              have hw : IntKind.i64.wrap ((k : Int) + 1) = (k : Int) + 1 := wrap_i64 (by omega) (by omega)
              have hbb : (k + 1 + 1) * 24 ≤ 140737488355328 ∧ k + 1 + 1 ≤ 1099511627776 := ⟨by omega, by omega⟩
              have htk : L.take i ++ row :: (L.drop i).take (k + 1 - i) = (L.take i ++ row :: (L.drop i).take (k - i)) ++ [L[k]] := by
                have : (L.drop i)[k - i]? = some L[k] := by rw [List.getElem?_drop, show i + (k - i) = k by omega]; exact hx
                rw [show k + 1 - i = (k - i) + 1 by omega, List.take_add_one, this]; simp
              generalize L.take i ++ row :: (L.drop i).take (k - i) = M2 at *
              generalize L[k] = x at *
              simp only [inT]
              simp (config := { maxSteps := 1000000 }) [-List.map_map, -List.mapM_map, ↓awp_skip, ↓awp_regionB, ↓awp_seq, ↓awp_block, ↓awp_exit, ↓awp_ret, ↓awp_label, ↓awp_scope, ↓awp_condB, ↓awp_loopB, ↓ow_nil', ↓ow_cons0, ↓ow_cons1, ↓o1_move, ↓o1_assign, ↓o1_pick, ↓o1_alloc, ↓o1_box, ↓o1_build, ↓o1_buildSlice, ↓o1_makeSlice, ↓o1_makeMap, ↓o1_binOp, ↓o1_unOp, ↓o1_convert, ↓o1_fieldAddr, ↓o1_field, ↓o1_indexAddr, ↓o1_extract, ↓o1_slice, ↓o1_len, ↓o1_max, ↓o1_min, ↓o1_load, ↓o1_lookup, ↓o1_store, ↓o1_mapUpdate, ↓o1_append, ↓o1_delete, ↓o1_call, q1, hx, hw, hbb, hfl, le_maxLen, encC]
              refine nxt_intro (k + 1) ⟨by omega, hgo⟩ (Nat.sub_lt_sub_left hgo (Nat.lt_succ_self _)) ?_
              simp only [inT, htk, rcs_snoc]
              refine wk_l [1, 2, 3, 6] (by simp) ?_ ?_ <;> simp [-List.map_map, upd, inj1, Γ0, subL_own_iff3, cellsOk_same, encC]
            · have e : k = L.length := by omega
              subst e
              have htk : L.take i ++ row :: (L.drop i).take (L.length - i) = insL L i row := by
                rw [insL]; congr 2; exact List.take_of_length_le (by simp)
              rw [htk] at hfl ⊢
              have q1 : ¬ (L.length : Int) < L.length := by omega
              have hM := rcs_chunk (insL L i row)
              generalize insL L i row = M2 at *
              simp only [inT]
              simp (config := { maxSteps := 1000000 }) [-List.map_map, -List.mapM_map, ↓awp_skip, ↓awp_regionB, ↓awp_seq, ↓awp_block, ↓awp_exit, ↓awp_ret, ↓awp_label, ↓awp_scope, ↓awp_condB, ↓awp_loopB, ↓ow_nil', ↓ow_cons0, ↓ow_cons1, ↓o1_move, ↓o1_assign, ↓o1_pick, ↓o1_alloc, ↓o1_box, ↓o1_build, ↓o1_buildSlice, ↓o1_makeSlice, ↓o1_makeMap, ↓o1_binOp, ↓o1_unOp, ↓o1_convert, ↓o1_fieldAddr, ↓o1_field, ↓o1_indexAddr, ↓o1_extract, ↓o1_slice, ↓o1_len, ↓o1_max, ↓o1_min, ↓o1_load, ↓o1_lookup, ↓o1_store, ↓o1_mapUpdate, ↓o1_append, ↓o1_delete, ↓o1_call, encSp, q1, hM, hfl, resD_two]
              rw [List.take_of_length_le (by simp [hfl]), mapM_d _ 5 (rcs M2)]
              simp [chunk_one _ _ hfl.symm]
              exact hM.symm
  · have hn : row.length = 0 := by rw [hrow]; rfl
    clear hrow
    simp (config := { maxSteps := 1000000 }) [-List.map_map, -List.mapM_map, ↓awp_skip, ↓awp_regionB, ↓awp_seq, ↓awp_block, ↓awp_exit, ↓awp_ret, ↓awp_label, ↓awp_scope, ↓awp_condB, ↓awp_loopB, ↓ow_nil', ↓ow_cons0, ↓ow_cons1, ↓o1_move, ↓o1_assign, ↓o1_pick, ↓o1_alloc, ↓o1_box, ↓o1_build, ↓o1_buildSlice, ↓o1_makeSlice, ↓o1_makeMap, ↓o1_binOp, ↓o1_unOp, ↓o1_convert, ↓o1_fieldAddr, ↓o1_field, ↓o1_indexAddr, ↓o1_extract, ↓o1_slice, ↓o1_len, ↓o1_max, ↓o1_min, ↓o1_load, ↓o1_lookup, ↓o1_store, ↓o1_mapUpdate, ↓o1_append, ↓o1_delete, ↓o1_call, encSp, encC, h0, h1, hn, hwR]

    refine loopP_inv (fun k : Nat => k ≤ i) (fun k => inS L.length c L i row k (L.take k)) (fun k => i - k) 0 (Nat.zero_le _) ?_ ?_
    · rw [List.take_zero, inS]
      refine wk_l [1, 2, 3] (by simp) ?_ ?_ <;> simp [-List.map_map, upd, inj1, Γ0, encC, hwR]
    · intro k hk
      have hlk : (L.take k).length = k := by rw [List.length_take]; exact Nat.min_eq_left (by omega)
      by_cases hgo : k < i
      · have hkL : k < L.length := by omega
        have q1 : (k : Int) < i := by omega
        have hx0 : L[k]? = some L[k] := List.getElem?_eq_getElem hkL
        have hw : IntKind.i64.wrap ((k : Int) + 1) = (k : Int) + 1 := wrap_i64 (by omega) (by omega)
        have htk : L.take (k + 1) = L.take k ++ [L[k]] := by rw [List.take_add_one, hx0]; rfl
        generalize L.take k = M0 at *
        generalize L[k] = x at *
        rcases M0 with _ | ⟨m, M⟩
        · simp only [inS]
          simp (config := { maxSteps := 1000000 }) [-List.map_map, -List.mapM_map, ↓awp_skip, ↓awp_regionB, ↓awp_seq, ↓awp_block, ↓awp_exit, ↓awp_ret, ↓awp_label, ↓awp_scope, ↓awp_condB, ↓awp_loopB, ↓ow_nil', ↓ow_cons0, ↓ow_cons1, ↓o1_move, ↓o1_assign, ↓o1_pick, ↓o1_alloc, ↓o1_box, ↓o1_build, ↓o1_buildSlice, ↓o1_makeSlice, ↓o1_makeMap, ↓o1_binOp, ↓o1_unOp, ↓o1_convert, ↓o1_fieldAddr, ↓o1_field, ↓o1_indexAddr, ↓o1_extract, ↓o1_slice, ↓o1_len, ↓o1_max, ↓o1_min, ↓o1_load, ↓o1_lookup, ↓o1_store, ↓o1_mapUpdate, ↓o1_append, ↓o1_delete, ↓o1_call, q1, hx0, hw, le_maxLen, encC]
          refine nxt_intro (k + 1) hgo (Nat.sub_lt_sub_left hgo (Nat.lt_succ_self _)) ?_
          simp only [htk, inS, List.nil_append]
          refine wk_l [1, 2, 3, 5] (by simp) ?_ ?_ <;> simp [-List.map_map, upd, inj1, Γ0, subL_own_iff3, rcs, encC]
        · have hfl := rcs_len (m :: M)
          rw [List.length_cons] at hfl hlk
          have hbb : (M.length + 1 + 1) * 24 ≤ 140737488355328 ∧ M.length + 1 + 1 ≤ 1099511627776 := ⟨by omega, by omega⟩
          have e1 : rcs (m :: (M ++ [x])) = rcs (m :: M) ++ [encC x] := rcs_snoc (m :: M) x
          simp only [inS]
          generalize rcs (m :: M) = RM at *
          simp (config := { maxSteps := 1000000 }) [-List.map_map, -List.mapM_map, ↓awp_skip, ↓awp_regionB, ↓awp_seq, ↓awp_block, ↓awp_exit, ↓awp_ret, ↓awp_label, ↓awp_scope, ↓awp_condB, ↓awp_loopB, ↓ow_nil', ↓ow_cons0, ↓ow_cons1, ↓o1_move, ↓o1_assign, ↓o1_pick, ↓o1_alloc, ↓o1_box, ↓o1_build, ↓o1_buildSlice, ↓o1_makeSlice, ↓o1_makeMap, ↓o1_binOp, ↓o1_unOp, ↓o1_convert, ↓o1_fieldAddr, ↓o1_field, ↓o1_indexAddr, ↓o1_extract, ↓o1_slice, ↓o1_len, ↓o1_max, ↓o1_min, ↓o1_load, ↓o1_lookup, ↓o1_store, ↓o1_mapUpdate, ↓o1_append, ↓o1_delete, ↓o1_call, q1, hx0, hw, hbb, hfl, le_maxLen, encC]
          refine nxt_intro (k + 1) hgo (Nat.sub_lt_sub_left hgo (Nat.lt_succ_self _)) ?_
          simp only [htk, inS, List.cons_append, e1]
          refine wk_l [1, 2, 3, 6] (by simp) ?_ ?_ <;> simp [-List.map_map, upd, inj1, Γ0, subL_own_iff3, cellsOk_same, encC]
      · have e : i = k := by omega
        subst e
        have q1 : ¬ (i : Int) < i := by omega
        rcases hM0 : L.take i with _ | ⟨m, M⟩
        · have hi0 : i = 0 := by rw [hM0] at hlk; exact hlk.symm
          simp only [inS]
          simp (config := { maxSteps := 1000000 }) [-List.map_map, -List.mapM_map, ↓awp_skip, ↓awp_regionB, ↓awp_seq, ↓awp_block, ↓awp_exit, ↓awp_ret, ↓awp_label, ↓awp_scope, ↓awp_condB, ↓awp_loopB, ↓ow_nil', ↓ow_cons0, ↓ow_cons1, ↓o1_move, ↓o1_assign, ↓o1_pick, ↓o1_alloc, ↓o1_box, ↓o1_build, ↓o1_buildSlice, ↓o1_makeSlice, ↓o1_makeMap, ↓o1_binOp, ↓o1_unOp, ↓o1_convert, ↓o1_fieldAddr, ↓o1_field, ↓o1_indexAddr, ↓o1_extract, ↓o1_slice, ↓o1_len, ↓o1_max, ↓o1_min, ↓o1_load, ↓o1_lookup, ↓o1_store, ↓o1_mapUpdate, ↓o1_append, ↓o1_delete, ↓o1_call, q1, le_maxLen, encC]
          refine loopP_inv (fun k : Nat => i ≤ k ∧ k ≤ L.length) (fun k => inT L.length c L i row k (k + 1) (L.take i ++ row :: (L.drop i).take (k - i))) (fun k => L.length - k) i ⟨Nat.le_refl _, hi⟩ ?_ ?_
          · rw [Nat.sub_self, List.take_zero, hM0, List.nil_append, inT]
            refine wk_l [1, 2, 3, 5] (by simp) ?_ ?_ <;> simp [-List.map_map, upd, inj1, Γ0, subL_own_iff3, rcs, encC, hi0]
          · rintro k ⟨hk, hk2⟩
            have hfl := rcs_len (L.take i ++ row :: (L.drop i).take (k - i))
            rw [List.length_append, List.length_cons, List.length_take, List.length_take, List.length_drop, Nat.min_eq_left hi, Nat.min_eq_left (by omega), show i + (k - i + 1) = k + 1 by omega] at hfl
            by_cases hgo : k < L.length
            · have hx : L[k]? = some L[k] := List.getElem?_eq_getElem hgo
              have q1 : (k : Int) < L.length := by omega
              have hw : IntKind.i64.wrap ((k : Int) + 1) = (k : Int) + 1 := wrap_i64 (by omega) (by omega)
              have hbb : (k + 1 + 1) * 24 ≤ 140737488355328 ∧ k + 1 + 1 ≤ 1099511627776 := ⟨by omega, by omega⟩
              have htk : L.take i ++ row :: (L.drop i).take (k + 1 - i) = (L.take i ++ row :: (L.drop i).take (k - i)) ++ [L[k]] := by
                have : (L.drop i)[k - i]? = some L[k] := by rw [List.getElem?_drop, show i + (k - i) = k by omega]; exact hx
                rw [show k + 1 - i = (k - i) + 1 by omega, List.take_add_one, this]; simp
              generalize L.take i ++ row :: (L.drop i).take (k - i) = M2 at *
              generalize L[k] = x at *
              simp only [inT]
              simp (config := { maxSteps := 1000000 }) [-List.map_map, -List.mapM_map, ↓awp_skip, ↓awp_regionB, ↓awp_seq, ↓awp_block, ↓awp_exit, ↓awp_ret, ↓awp_label, ↓awp_scope, ↓awp_condB, ↓awp_loopB, ↓ow_nil', ↓ow_cons0, ↓ow_cons1, ↓o1_move, ↓o1_assign, ↓o1_pick, ↓o1_alloc, ↓o1_box, ↓o1_build, ↓o1_buildSlice, ↓o1_makeSlice, ↓o1_makeMap, ↓o1_binOp, ↓o1_unOp, ↓o1_convert, ↓o1_fieldAddr, ↓o1_field, ↓o1_indexAddr, ↓o1_extract, ↓o1_slice, ↓o1_len, ↓o1_max, ↓o1_min, ↓o1_load, ↓o1_lookup, ↓o1_store, ↓o1_mapUpdate, ↓o1_append, ↓o1_delete, ↓o1_call, q1, hx, hw, hbb, hfl, le_maxLen, encC]
              refine nxt_intro (k + 1) ⟨by omega, hgo⟩ (Nat.sub_lt_sub_left hgo (Nat.lt_succ_self _)) ?_
              simp only [inT, htk, rcs_snoc]
              refine wk_l [1, 2, 3, 6] (by simp) ?_ ?_ <;> simp [-List.map_map, upd, inj1, Γ0, subL_own_iff3, cellsOk_same, encC]
            · have e : k = L.length := by omega
              subst e
              have htk : L.take i ++ row :: (L.drop i).take (L.length - i) = insL L i row := by
                rw [insL]; congr 2; exact List.take_of_length_le (by simp)
              rw [htk] at hfl ⊢
              have q1 : ¬ (L.length : Int) < L.length := by omega
              have hM := rcs_chunk (insL L i row)
              generalize insL L i row = M2 at *
              simp only [inT]
              simp (config := { maxSteps := 1000000 }) [-List.map_map, -List.mapM_map, ↓awp_skip, ↓awp_regionB, ↓awp_seq, ↓awp_block, ↓awp_exit, ↓awp_ret, ↓awp_label, ↓awp_scope, ↓awp_condB, ↓awp_loopB, ↓ow_nil', ↓ow_cons0, ↓ow_cons1, ↓o1_move, ↓o1_assign, ↓o1_pick, ↓o1_alloc, ↓o1_box, ↓o1_build, ↓o1_buildSlice, ↓o1_makeSlice, ↓o1_makeMap, ↓o1_binOp, ↓o1_unOp, ↓o1_convert, ↓o1_fieldAddr, ↓o1_field, ↓o1_indexAddr, ↓o1_extract, ↓o1_slice, ↓o1_len, ↓o1_max, ↓o1_min, ↓o1_load, ↓o1_lookup, ↓o1_store, ↓o1_mapUpdate, ↓o1_append, ↓o1_delete, ↓o1_call, encSp, q1, hM, hfl, resD_two]
              rw [List.take_of_length_le (by simp [hfl]), mapM_d _ 5 (rcs M2)]
              simp [chunk_one _ _ hfl.symm]
              exact hM.symm
        · rw [hM0, List.length_cons] at hlk
          have hfl0 := rcs_len (m :: M)
          rw [List.length_cons] at hfl0
          have hbb0 : (M.length + 1 + 1) * 24 ≤ 140737488355328 ∧ M.length + 1 + 1 ≤ 1099511627776 := ⟨by omega, by omega⟩
          have e1 : rcs (m :: (M ++ [row])) = rcs (m :: M) ++ [encC row] := rcs_snoc (m :: M) row
          simp only [inS]
          generalize hRM : rcs (m :: M) = RM at *
          simp (config := { maxSteps := 1000000 }) [-List.map_map, -List.mapM_map, ↓awp_skip, ↓awp_regionB, ↓awp_seq, ↓awp_block, ↓awp_exit, ↓awp_ret, ↓awp_label, ↓awp_scope, ↓awp_condB, ↓awp_loopB, ↓ow_nil', ↓ow_cons0, ↓ow_cons1, ↓o1_move, ↓o1_assign, ↓o1_pick, ↓o1_alloc, ↓o1_box, ↓o1_build, ↓o1_buildSlice, ↓o1_makeSlice, ↓o1_makeMap, ↓o1_binOp, ↓o1_unOp, ↓o1_convert, ↓o1_fieldAddr, ↓o1_field, ↓o1_indexAddr, ↓o1_extract, ↓o1_slice, ↓o1_len, ↓o1_max, ↓o1_min, ↓o1_load, ↓o1_lookup, ↓o1_store, ↓o1_mapUpdate, ↓o1_append, ↓o1_delete, ↓o1_call, q1, hbb0, hfl0, le_maxLen, encC]
          refine loopP_inv (fun k : Nat => i ≤ k ∧ k ≤ L.length) (fun k => inT L.length c L i row k (k + 1) (L.take i ++ row :: (L.drop i).take (k - i))) (fun k => L.length - k) i ⟨Nat.le_refl _, hi⟩ ?_ ?_
          · rw [Nat.sub_self, List.take_zero, hM0, List.cons_append, inT]
            refine wk_l [1, 2, 3, 6] (by simp) ?_ ?_ <;> simp [-List.map_map, upd, inj1, Γ0, subL_own_iff3, e1, cellsOk_same, encC, hlk]
          · rintro k ⟨hk, hk2⟩
            have hfl := rcs_len (L.take i ++ row :: (L.drop i).take (k - i))
            rw [List.length_append, List.length_cons, List.length_take, List.length_take, List.length_drop, Nat.min_eq_left hi, Nat.min_eq_left (by omega), show i + (k - i + 1) = k + 1 by omega] at hfl
            by_cases hgo : k < L.length
            · have hx : L[k]? = some L[k] := List.getElem?_eq_getElem hgo
              have q1 : (k : Int) < L.length := by omega
              have hw : IntKind.i64.wrap ((k : Int) + 1) = (k : Int) + 1 := wrap_i64 (by omega) (by omega)
              have hbb : (k + 1 + 1) * 24 ≤ 140737488355328 ∧ k + 1 + 1 ≤ 1099511627776 := ⟨by omega, by omega⟩
              have htk : L.take i ++ row :: (L.drop i).take (k + 1 - i) = (L.take i ++ row :: (L.drop i).take (k - i)) ++ [L[k]] := by
                have : (L.drop i)[k - i]? = some L[k] := by rw [List.getElem?_drop, show i + (k - i) = k by omega]; exact hx
                rw [show k + 1 - i = (k - i) + 1 by omega, List.take_add_one, this]; simp
              generalize L.take i ++ row :: (L.drop i).take (k - i) = M2 at *
              generalize L[k] = x at *
              simp only [inT]
              simp (config := { maxSteps := 1000000 }) [-List.map_map, -List.mapM_map, ↓awp_skip, ↓awp_regionB, ↓awp_seq, ↓awp_block, ↓awp_exit, ↓awp_ret, ↓awp_label, ↓awp_scope, ↓awp_condB, ↓awp_loopB, ↓ow_nil', ↓ow_cons0, ↓ow_cons1, ↓o1_move, ↓o1_assign, ↓o1_pick, ↓o1_alloc, ↓o1_box, ↓o1_build, ↓o1_buildSlice, ↓o1_makeSlice, ↓o1_makeMap, ↓o1_binOp, ↓o1_unOp, ↓o1_convert, ↓o1_fieldAddr, ↓o1_field, ↓o1_indexAddr, ↓o1_extract, ↓o1_slice, ↓o1_len, ↓o1_max, ↓o1_min, ↓o1_load, ↓o1_lookup, ↓o1_store, ↓o1_mapUpdate, ↓o1_append, ↓o1_delete, ↓o1_call, q1, hx, hw, hbb, hfl, le_maxLen, encC]
              refine nxt_intro (k + 1) ⟨by omega, hgo⟩ (Nat.sub_lt_sub_left hgo (Nat.lt_succ_self _)) ?_
              simp only [inT, htk, rcs_snoc]
              refine wk_l [1, 2, 3, 6] (by simp) ?_ ?_ <;> simp [-List.map_map, upd, inj1, Γ0, subL_own_iff3, cellsOk_same, encC]
            · have e : k = L.length := by omega
              subst e
              have htk : L.take i ++ row :: (L.drop i).take (L.length - i) = insL L i row := by
                rw [insL]; congr 2; exact List.take_of_length_le (by simp)
              rw [htk] at hfl ⊢
              have q1 : ¬ (L.length : Int) < L.length := by omega
              have hM := rcs_chunk (insL L i row)
              generalize insL L i row = M2 at *
              simp only [inT]
              simp (config := { maxSteps := 1000000 }) [-List.map_map, -List.mapM_map, ↓awp_skip, ↓awp_regionB, ↓awp_seq, ↓awp_block, ↓awp_exit, ↓awp_ret, ↓awp_label, ↓awp_scope, ↓awp_condB, ↓awp_loopB, ↓ow_nil', ↓ow_cons0, ↓ow_cons1, ↓o1_move, ↓o1_assign, ↓o1_pick, ↓o1_alloc, ↓o1_box, ↓o1_build, ↓o1_buildSlice, ↓o1_makeSlice, ↓o1_makeMap, ↓o1_binOp, ↓o1_unOp, ↓o1_convert, ↓o1_fieldAddr, ↓o1_field, ↓o1_indexAddr, ↓o1_extract, ↓o1_slice, ↓o1_len, ↓o1_max, ↓o1_min, ↓o1_load, ↓o1_lookup, ↓o1_store, ↓o1_mapUpdate, ↓o1_append, ↓o1_delete, ↓o1_call, encSp, q1, hM, hfl, resD_two]
              rw [List.take_of_length_le (by simp [hfl]), mapM_d _ 5 (rcs M2)]
              simp [chunk_one _ _ hfl.symm]
              exact hM.symm

end Go.Am
