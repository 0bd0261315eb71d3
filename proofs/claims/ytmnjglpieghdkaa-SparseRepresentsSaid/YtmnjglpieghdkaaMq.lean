/- The reference's rows out of vectors; two rows compared. No condition. -/
import Derived.Test.YtmnjglpieghdkaaMr
open Go Go.Am Go.Proofs
namespace Go.Am
set_option linter.unusedSimpArgs false

/-- A number, as two cells; a vector. -/
def encN (z : Int) : List D := [.b (decide (z < 0)), encM (digs z.natAbs)]
def encV2 (v : List Int) : D := .sl (v.map encN)
def vcs (v : List Int) : List D := (v.map encN).flatten
theorem vcs_len (l : List Int) : (vcs l).length = l.length * 2 := by
  unfold vcs
  induction l with
  | nil => rfl
  | cons x l ih => simp only [List.map_cons, List.flatten_cons, List.length_append, ih, encN, List.length_cons, List.length_nil]; omega
theorem vcs_nil : vcs [] = [] := rfl
theorem vcs_app (a b : List Int) : vcs (a ++ b) = vcs a ++ vcs b := by simp [vcs]
theorem vcs_one (z : Int) : vcs [z] = [.b (decide (z < 0)), encM (digs z.natAbs)] := rfl
theorem encN_eq (z : Int) : encN z = [.b (decide (z < 0)), encM (digs z.natAbs)] := rfl
theorem chunk_two (l : List (List D)) (h : ∀ x ∈ l, x.length = 2) : chunk 2 l.length l.flatten = l := by
  induction l with
  | nil => rfl
  | cons a l ih =>
    have ha := h a (List.mem_cons_self ..)
    have := ih fun x hx => h x (List.mem_cons_of_mem _ hx)
    unfold chunk at this ⊢
    rw [List.length_cons, List.range_succ_eq_map, List.map_cons, List.map_map, List.flatten_cons]
    congr 1
    · simp [ha]
    · conv => rhs; rw [← this]
      apply List.map_congr_left
      intro i _
      simp only [Function.comp]
      rw [show Nat.succ i * 2 = a.length + i * 2 from by omega, List.drop_append, List.drop_eq_nil_of_le (by omega)]
      simp
theorem chunk_vcs {l : List Int} {n : Nat} (h : l.length = n) : chunk 2 n (vcs l) = l.map encN := by
  subst h
  have := chunk_two (l.map encN) (fun x hx => by obtain ⟨y, _, rfl⟩ := List.mem_map.1 hx; rfl)
  rwa [List.length_map] at this
theorem vcs_take_all {l : List Int} {n : Nat} (h : l.length = n) : List.take (n * 2) ((vcs l).map AV.d) = (vcs l).map AV.d := List.take_of_length_le (by simp [vcs_len, h])
theorem app_bounds2 {n : Nat} (h : n ≤ 2147483648) : (n + 1) * 32 ≤ 140737488355328 ∧ n + 1 ≤ 1099511627776 := ⟨by omega, by omega⟩

/-- What of a vector is other than zero, from column k on. -/
def rw0 (k : Nat) : List Int → List (Int × Int)
  | [] => []
  | z :: v => if z = 0 then rw0 (k + 1) v else ((k : Int), z) :: rw0 (k + 1) v
theorem rw0_snoc : ∀ (v : List Int) (k : Nat) (z : Int), rw0 k (v ++ [z]) = rw0 k v ++ if z = 0 then [] else [(((k + v.length : Nat) : Int), z)]
  | [], k, z => by simp [rw0]
  | y :: v, k, z => by
    have := rw0_snoc v (k + 1) z
    simp only [List.cons_append, rw0, this, List.length_cons]
    rw [show k + 1 + v.length = k + (v.length + 1) by omega]
    split <;> rfl
theorem rw0_len : ∀ (v : List Int) (k : Nat), (rw0 k v).length ≤ v.length
  | [], _ => Nat.le_refl _
  | y :: v, k => by
    have := rw0_len v (k + 1)
    unfold rw0
    split <;> simp only [List.length_cons] <;> omega

set_option maxHeartbeats 4000000 in
set_option maxRecDepth 10000 in
theorem r06RowV (v : List Int) (hl : v.length ≤ 1000000) : Spec Try.prog 25 [encV2 v] (encC (rw0 0 v)) := by
  refine spec_of (N := 28) follows_mixed Try.func25 rfl rfl rfl (by kernel_rfl) (by kernel_rfl) (by simp) ?_
  simp (config := { maxSteps := 1000000 }) [-List.map_map, -List.mapM_map, ↓awp_skip, ↓awp_regionB, ↓awp_seq, ↓awp_block, ↓awp_exit, ↓awp_ret, ↓awp_label, ↓awp_scope, ↓awp_condB, ↓awp_loopB, ↓ow_nil', ↓ow_cons0, ↓ow_cons1, ↓o1_move, ↓o1_assign, ↓o1_pick, ↓o1_alloc, ↓o1_box, ↓o1_build, ↓o1_buildSlice, ↓o1_makeSlice, ↓o1_makeMap, ↓o1_binOp, ↓o1_unOp, ↓o1_convert, ↓o1_fieldAddr, ↓o1_field, ↓o1_indexAddr, ↓o1_extract, ↓o1_slice, ↓o1_len, ↓o1_max, ↓o1_min, ↓o1_load, ↓o1_lookup, ↓o1_store, ↓o1_mapUpdate, ↓o1_append, ↓o1_delete, ↓o1_call, encV2]
  refine loopP_inv (fun i : Nat => i ≤ v.length) (fun i => StL [(0, .d (encV2 v)), (3, .own 1 0 (rw0 0 (v.take i)).length 3), (4, .d (.i .i64 (i : Int)))] none [.cells 109 ((fcs (rw0 0 (v.take i))).map .d)]) (fun i => v.length - i) 0 (Nat.zero_le _) ?_ ?_
  · refine wk_l [1] (by simp) ?_ ?_ <;> simp [-List.map_map, upd, inj1, Γ0, encV2, rw0, fcs_nil]
  · intro i hi
    by_cases hgo : i < v.length
    · have q1 : (i : Int) < v.length := by omega
      have hx : v[i]? = some v[i] := List.getElem?_eq_getElem hgo
      have hw : IntKind.i64.wrap ((i : Int) + 1) = (i : Int) + 1 := wrap_i64 (by omega) (by omega)
      have htk : rw0 0 (v.take (i + 1)) = rw0 0 (v.take i) ++ if v[i] = 0 then [] else [((i : Int), v[i])] := by
        rw [List.take_add_one, hx]
        simp only [Option.toList]
        rw [rw0_snoc]
        simp [Nat.min_eq_left hi]
      have hln : (rw0 0 (v.take i)).length ≤ i := Nat.le_trans (rw0_len _ _) (by simp; omega)
      have hfl := fcs_len (rw0 0 (v.take i))
      generalize rw0 0 (v.take i) = out at *
      generalize v[i] = z at *
      have hS := r01SignZ z
      have hs0 : z = 0 → z.sign = 0 := fun h => by rw [h]; rfl
      have hs1 : ¬ z = 0 → (z.sign != 0) = true := fun h => by
        have : z.sign ≠ 0 := fun e => h (Int.sign_eq_zero_iff_zero.1 e)
        simpa using this
      have hbb := app_bounds (n := out.length) (by omega)
      simp (config := { maxSteps := 1000000 }) [-List.map_map, -List.mapM_map, ↓awp_skip, ↓awp_regionB, ↓awp_seq, ↓awp_block, ↓awp_exit, ↓awp_ret, ↓awp_label, ↓awp_scope, ↓awp_condB, ↓awp_loopB, ↓ow_nil', ↓ow_cons0, ↓ow_cons1, ↓o1_move, ↓o1_assign, ↓o1_pick, ↓o1_alloc, ↓o1_box, ↓o1_build, ↓o1_buildSlice, ↓o1_makeSlice, ↓o1_makeMap, ↓o1_binOp, ↓o1_unOp, ↓o1_convert, ↓o1_fieldAddr, ↓o1_field, ↓o1_indexAddr, ↓o1_extract, ↓o1_slice, ↓o1_len, ↓o1_max, ↓o1_min, ↓o1_load, ↓o1_lookup, ↓o1_store, ↓o1_mapUpdate, ↓o1_append, ↓o1_delete, ↓o1_call, encV2, q1, hx, encN_eq]
      refine callP_intro (ds := [encZ z]) (by rfl) hS ?_
      by_cases h0 : z = 0
      · rw [hs0 h0]
        rw [if_pos h0, List.append_nil] at htk
        simp (config := { maxSteps := 1000000 }) [-List.map_map, -List.mapM_map, ↓awp_skip, ↓awp_regionB, ↓awp_seq, ↓awp_block, ↓awp_exit, ↓awp_ret, ↓awp_label, ↓awp_scope, ↓awp_condB, ↓awp_loopB, ↓ow_nil', ↓ow_cons0, ↓ow_cons1, ↓o1_move, ↓o1_assign, ↓o1_pick, ↓o1_alloc, ↓o1_box, ↓o1_build, ↓o1_buildSlice, ↓o1_makeSlice, ↓o1_makeMap, ↓o1_binOp, ↓o1_unOp, ↓o1_convert, ↓o1_fieldAddr, ↓o1_field, ↓o1_indexAddr, ↓o1_extract, ↓o1_slice, ↓o1_len, ↓o1_max, ↓o1_min, ↓o1_load, ↓o1_lookup, ↓o1_store, ↓o1_mapUpdate, ↓o1_append, ↓o1_delete, ↓o1_call, hw]
        refine nxt_intro (i + 1) hgo (Nat.sub_lt_sub_left hgo (Nat.lt_succ_self _)) (wk_l [1] (by simp) ?_ ?_) <;> simp [-List.map_map, upd, inj1, Γ0, encV2, htk]
      · have hs2 := hs1 h0
        rw [if_neg h0] at htk
        generalize z.sign = sn at *
        simp (config := { maxSteps := 1000000 }) [-List.map_map, -List.mapM_map, ↓awp_skip, ↓awp_regionB, ↓awp_seq, ↓awp_block, ↓awp_exit, ↓awp_ret, ↓awp_label, ↓awp_scope, ↓awp_condB, ↓awp_loopB, ↓ow_nil', ↓ow_cons0, ↓ow_cons1, ↓o1_move, ↓o1_assign, ↓o1_pick, ↓o1_alloc, ↓o1_box, ↓o1_build, ↓o1_buildSlice, ↓o1_makeSlice, ↓o1_makeMap, ↓o1_binOp, ↓o1_unOp, ↓o1_convert, ↓o1_fieldAddr, ↓o1_field, ↓o1_indexAddr, ↓o1_extract, ↓o1_slice, ↓o1_len, ↓o1_max, ↓o1_min, ↓o1_load, ↓o1_lookup, ↓o1_store, ↓o1_mapUpdate, ↓o1_append, ↓o1_delete, ↓o1_call, encV2, q1, hx, hw, hs2, hfl, hbb, le_maxLen, encN_eq, cellsA_encM, one_encM]
        refine nxt_intro (i + 1) hgo (Nat.sub_lt_sub_left hgo (Nat.lt_succ_self _)) (wk_l [3] (by simp) ?_ ?_) <;> simp [-List.map_map, upd, inj1, Γ0, encV2, htk, fcs_app, fcs_one]
    · have q1 : ¬ (i : Int) < v.length := by omega
      have e : v.take i = v := List.take_of_length_le (by omega)
      rw [e]
      have hfl := fcs_len (rw0 0 v)
      generalize rw0 0 v = out at *
      simp (config := { maxSteps := 1000000 }) [-List.map_map, -List.mapM_map, ↓awp_skip, ↓awp_regionB, ↓awp_seq, ↓awp_block, ↓awp_exit, ↓awp_ret, ↓awp_label, ↓awp_scope, ↓awp_condB, ↓awp_loopB, ↓ow_nil', ↓ow_cons0, ↓ow_cons1, ↓o1_move, ↓o1_assign, ↓o1_pick, ↓o1_alloc, ↓o1_box, ↓o1_build, ↓o1_buildSlice, ↓o1_makeSlice, ↓o1_makeMap, ↓o1_binOp, ↓o1_unOp, ↓o1_convert, ↓o1_fieldAddr, ↓o1_field, ↓o1_indexAddr, ↓o1_extract, ↓o1_slice, ↓o1_len, ↓o1_max, ↓o1_min, ↓o1_load, ↓o1_lookup, ↓o1_store, ↓o1_mapUpdate, ↓o1_append, ↓o1_delete, ↓o1_call, encV2, encC, q1, hfl, chunk_fcs rfl, fcs_take_all rfl]

theorem eq_of_get {α : Type} {a b : List α} (hl : a.length = b.length) (h : ∀ j, j < a.length → a[j]? = b[j]?) : a = b := by
  apply List.ext_getElem?
  intro j
  rcases Nat.lt_or_ge j a.length with h1 | h1
  · exact h j h1
  · rw [List.getElem?_eq_none h1, List.getElem?_eq_none (by omega)]

set_option maxHeartbeats 4000000 in
set_option maxRecDepth 10000 in
theorem r06SameRow {a b : List (Int × Int)} (ha : ∀ x ∈ a, Sz x.2) (hb : ∀ x ∈ b, Sz x.2) (hla : a.length ≤ 4294967296) (_hlb : b.length ≤ 4294967296) : Spec Try.prog 29 [encC a, encC b] (.b (decide (a = b))) := by
  refine spec_of (N := 42) follows_mixed Try.func29 rfl rfl rfl (by kernel_rfl) (by kernel_rfl) (by simp) ?_
  by_cases hn : a.length = b.length
  rotate_left
  · have h1 : (((a.length : Int) != b.length) : Bool) = true := by simp; omega
    have h2 : decide (a = b) = false := by simp; intro e; rw [e] at hn; exact hn rfl
    simp (config := { maxSteps := 1000000 }) [-List.map_map, -List.mapM_map, ↓awp_skip, ↓awp_regionB, ↓awp_seq, ↓awp_block, ↓awp_exit, ↓awp_ret, ↓awp_label, ↓awp_scope, ↓awp_condB, ↓awp_loopB, ↓ow_nil', ↓ow_cons0, ↓ow_cons1, ↓o1_move, ↓o1_assign, ↓o1_pick, ↓o1_alloc, ↓o1_box, ↓o1_build, ↓o1_buildSlice, ↓o1_makeSlice, ↓o1_makeMap, ↓o1_binOp, ↓o1_unOp, ↓o1_convert, ↓o1_fieldAddr, ↓o1_field, ↓o1_indexAddr, ↓o1_extract, ↓o1_slice, ↓o1_len, ↓o1_max, ↓o1_min, ↓o1_load, ↓o1_lookup, ↓o1_store, ↓o1_mapUpdate, ↓o1_append, ↓o1_delete, ↓o1_call, encC, h1, h2]
  · have h1 : (((a.length : Int) != b.length) : Bool) = false := by simp; omega
    simp (config := { maxSteps := 1000000 }) [-List.map_map, -List.mapM_map, ↓awp_skip, ↓awp_regionB, ↓awp_seq, ↓awp_block, ↓awp_exit, ↓awp_ret, ↓awp_label, ↓awp_scope, ↓awp_condB, ↓awp_loopB, ↓ow_nil', ↓ow_cons0, ↓ow_cons1, ↓o1_move, ↓o1_assign, ↓o1_pick, ↓o1_alloc, ↓o1_box, ↓o1_build, ↓o1_buildSlice, ↓o1_makeSlice, ↓o1_makeMap, ↓o1_binOp, ↓o1_unOp, ↓o1_convert, ↓o1_fieldAddr, ↓o1_field, ↓o1_indexAddr, ↓o1_extract, ↓o1_slice, ↓o1_len, ↓o1_max, ↓o1_min, ↓o1_load, ↓o1_lookup, ↓o1_store, ↓o1_mapUpdate, ↓o1_append, ↓o1_delete, ↓o1_call, encC, h1]
    refine loopP_inv (fun i : Nat => i ≤ a.length ∧ ∀ j, j < i → a[j]? = b[j]?) (fun i => StL [(0, .d (encC a)), (1, .d (encC b)), (5, .d (.i .i64 (i : Int)))] none []) (fun i => a.length - i) 0 ⟨Nat.zero_le _, fun j h => by omega⟩ ?_ ?_
    · refine wk_l [] (by simp) ?_ ?_ <;> simp [-List.map_map, upd, inj1, Γ0, encC]
    · rintro i ⟨hi, hok⟩
      by_cases hgo : i < a.length
      · have q1 : (i : Int) < a.length := by omega
        have hgb : i < b.length := by omega
        have hx : a[i]? = some a[i] := List.getElem?_eq_getElem hgo
        have hy : b[i]? = some b[i] := List.getElem?_eq_getElem hgb
        have hxs := ha _ (List.getElem_mem hgo)
        have hys := hb _ (List.getElem_mem hgb)
        have hw : IntKind.i64.wrap ((i : Int) + 1) = (i : Int) + 1 := wrap_i64 (by omega) (by omega)
        generalize a[i] = x at *
        generalize b[i] = y at *
        obtain ⟨xc, xv⟩ := x
        obtain ⟨yc, yv⟩ := y
        simp only at hxs hys
        have hS := r01SameZ xv yv (Nat.le_trans hxs (by decide)) (Nat.le_trans hys (by decide))
        have hne : ¬ ((xc, xv) = (yc, yv)) → decide (a = b) = false := fun h => by
          simp only [decide_eq_false_iff_not]
          intro e
          rw [e, hy] at hx
          injection hx with hx
          exact h hx.symm
        by_cases hc : xc = yc
        · subst hc
          have e1 : (xc != xc) = false := by simp
          simp (config := { maxSteps := 1000000 }) [-List.map_map, -List.mapM_map, ↓awp_skip, ↓awp_regionB, ↓awp_seq, ↓awp_block, ↓awp_exit, ↓awp_ret, ↓awp_label, ↓awp_scope, ↓awp_condB, ↓awp_loopB, ↓ow_nil', ↓ow_cons0, ↓ow_cons1, ↓o1_move, ↓o1_assign, ↓o1_pick, ↓o1_alloc, ↓o1_box, ↓o1_build, ↓o1_buildSlice, ↓o1_makeSlice, ↓o1_makeMap, ↓o1_binOp, ↓o1_unOp, ↓o1_convert, ↓o1_fieldAddr, ↓o1_field, ↓o1_indexAddr, ↓o1_extract, ↓o1_slice, ↓o1_len, ↓o1_max, ↓o1_min, ↓o1_load, ↓o1_lookup, ↓o1_store, ↓o1_mapUpdate, ↓o1_append, ↓o1_delete, ↓o1_call, encC, encF_eq, q1, hx, hy, e1, cellsA_encM, one_encM]
          refine callP_intro (ds := [encZ xv, encZ yv]) (by rfl) hS ?_
          by_cases hv : xv = yv
          · subst hv
            rw [decide_eq_true rfl]
            simp (config := { maxSteps := 1000000 }) [-List.map_map, -List.mapM_map, ↓awp_skip, ↓awp_regionB, ↓awp_seq, ↓awp_block, ↓awp_exit, ↓awp_ret, ↓awp_label, ↓awp_scope, ↓awp_condB, ↓awp_loopB, ↓ow_nil', ↓ow_cons0, ↓ow_cons1, ↓o1_move, ↓o1_assign, ↓o1_pick, ↓o1_alloc, ↓o1_box, ↓o1_build, ↓o1_buildSlice, ↓o1_makeSlice, ↓o1_makeMap, ↓o1_binOp, ↓o1_unOp, ↓o1_convert, ↓o1_fieldAddr, ↓o1_field, ↓o1_indexAddr, ↓o1_extract, ↓o1_slice, ↓o1_len, ↓o1_max, ↓o1_min, ↓o1_load, ↓o1_lookup, ↓o1_store, ↓o1_mapUpdate, ↓o1_append, ↓o1_delete, ↓o1_call, hw]
            refine nxt_intro (i + 1) ⟨hgo, fun j hj => ?_⟩ (Nat.sub_lt_sub_left hgo (Nat.lt_succ_self _)) (wk_l [] (by simp) ?_ ?_)
            · rcases Nat.lt_or_ge j i with h2 | h2
              · exact hok j h2
              · rw [show j = i by omega, hx, hy]
            · simp [-List.map_map, upd, inj1, Γ0, encC]
            · trivial
          · rw [decide_eq_false hv]
            have e2 := hne (fun e => hv (by injection e))
            simp (config := { maxSteps := 1000000 }) [-List.map_map, -List.mapM_map, ↓awp_skip, ↓awp_regionB, ↓awp_seq, ↓awp_block, ↓awp_exit, ↓awp_ret, ↓awp_label, ↓awp_scope, ↓awp_condB, ↓awp_loopB, ↓ow_nil', ↓ow_cons0, ↓ow_cons1, ↓o1_move, ↓o1_assign, ↓o1_pick, ↓o1_alloc, ↓o1_box, ↓o1_build, ↓o1_buildSlice, ↓o1_makeSlice, ↓o1_makeMap, ↓o1_binOp, ↓o1_unOp, ↓o1_convert, ↓o1_fieldAddr, ↓o1_field, ↓o1_indexAddr, ↓o1_extract, ↓o1_slice, ↓o1_len, ↓o1_max, ↓o1_min, ↓o1_load, ↓o1_lookup, ↓o1_store, ↓o1_mapUpdate, ↓o1_append, ↓o1_delete, ↓o1_call, e2]
        · have e1 : (xc != yc) = true := by simpa using hc
          have e2 := hne (fun e => hc (by injection e))
          simp (config := { maxSteps := 1000000 }) [-List.map_map, -List.mapM_map, ↓awp_skip, ↓awp_regionB, ↓awp_seq, ↓awp_block, ↓awp_exit, ↓awp_ret, ↓awp_label, ↓awp_scope, ↓awp_condB, ↓awp_loopB, ↓ow_nil', ↓ow_cons0, ↓ow_cons1, ↓o1_move, ↓o1_assign, ↓o1_pick, ↓o1_alloc, ↓o1_box, ↓o1_build, ↓o1_buildSlice, ↓o1_makeSlice, ↓o1_makeMap, ↓o1_binOp, ↓o1_unOp, ↓o1_convert, ↓o1_fieldAddr, ↓o1_field, ↓o1_indexAddr, ↓o1_extract, ↓o1_slice, ↓o1_len, ↓o1_max, ↓o1_min, ↓o1_load, ↓o1_lookup, ↓o1_store, ↓o1_mapUpdate, ↓o1_append, ↓o1_delete, ↓o1_call, encC, encF_eq, q1, hx, hy, e1, e2, cellsA_encM, one_encM]
      · have q1 : ¬ (i : Int) < a.length := by omega
        have e : decide (a = b) = true := by simpa using eq_of_get hn fun j hj => hok j (by omega)
        simp (config := { maxSteps := 1000000 }) [-List.map_map, -List.mapM_map, ↓awp_skip, ↓awp_regionB, ↓awp_seq, ↓awp_block, ↓awp_exit, ↓awp_ret, ↓awp_label, ↓awp_scope, ↓awp_condB, ↓awp_loopB, ↓ow_nil', ↓ow_cons0, ↓ow_cons1, ↓o1_move, ↓o1_assign, ↓o1_pick, ↓o1_alloc, ↓o1_box, ↓o1_build, ↓o1_buildSlice, ↓o1_makeSlice, ↓o1_makeMap, ↓o1_binOp, ↓o1_unOp, ↓o1_convert, ↓o1_fieldAddr, ↓o1_field, ↓o1_indexAddr, ↓o1_extract, ↓o1_slice, ↓o1_len, ↓o1_max, ↓o1_min, ↓o1_load, ↓o1_lookup, ↓o1_store, ↓o1_mapUpdate, ↓o1_append, ↓o1_delete, ↓o1_call, encC, q1, e]

def encB (l : List Int) : D := .sl (l.map fun x => [.i .i8 x])
def vz1 (l : List Int) (i : Nat) : Int := match l[i]? with | some x => x.tmod 10 | none => 0
def vecZ (l : List Int) (n : Nat) : List Int := (List.range n).map (vz1 l)
theorem vecZ_succ (l : List Int) (n : Nat) : vecZ l (n + 1) = vecZ l n ++ [vz1 l n] := by simp [vecZ, List.range_succ]
theorem vecZ_len (l : List Int) (n : Nat) : (vecZ l n).length = n := by simp [vecZ]

set_option maxRecDepth 10000 in
theorem r06zero : Spec Try.prog 77 [] (encZ 0) := by
  refine spec_of (N := 2) follows_mixed Try.func77 rfl rfl rfl (by kernel_rfl) (by kernel_rfl) (by simp) ?_
  simp (config := { maxSteps := 1000000 }) [-List.map_map, -List.mapM_map, ↓awp_skip, ↓awp_regionB, ↓awp_seq, ↓awp_block, ↓awp_exit, ↓awp_ret, ↓awp_label, ↓awp_scope, ↓awp_condB, ↓awp_loopB, ↓ow_nil', ↓ow_cons0, ↓ow_cons1, ↓o1_move, ↓o1_assign, ↓o1_pick, ↓o1_alloc, ↓o1_box, ↓o1_build, ↓o1_buildSlice, ↓o1_makeSlice, ↓o1_makeMap, ↓o1_binOp, ↓o1_unOp, ↓o1_convert, ↓o1_fieldAddr, ↓o1_field, ↓o1_indexAddr, ↓o1_extract, ↓o1_slice, ↓o1_len, ↓o1_max, ↓o1_min, ↓o1_load, ↓o1_lookup, ↓o1_store, ↓o1_mapUpdate, ↓o1_append, ↓o1_delete, ↓o1_call]
  refine callP_intro (ds := [.i .i64 0]) (by rfl) (r01Of 0 (by decide) (by decide)) ?_
  rw [encZ_eq]
  simp (config := { maxSteps := 1000000 }) [-List.map_map, -List.mapM_map, ↓awp_skip, ↓awp_regionB, ↓awp_seq, ↓awp_block, ↓awp_exit, ↓awp_ret, ↓awp_label, ↓awp_scope, ↓awp_condB, ↓awp_loopB, ↓ow_nil', ↓ow_cons0, ↓ow_cons1, ↓o1_move, ↓o1_assign, ↓o1_pick, ↓o1_alloc, ↓o1_box, ↓o1_build, ↓o1_buildSlice, ↓o1_makeSlice, ↓o1_makeMap, ↓o1_binOp, ↓o1_unOp, ↓o1_convert, ↓o1_fieldAddr, ↓o1_field, ↓o1_indexAddr, ↓o1_extract, ↓o1_slice, ↓o1_len, ↓o1_max, ↓o1_min, ↓o1_load, ↓o1_lookup, ↓o1_store, ↓o1_mapUpdate, ↓o1_append, ↓o1_delete, ↓o1_call, cellsA_encM, one_encM, inj1_encM, inj_encM, kills_encM]

set_option maxHeartbeats 4000000 in
set_option maxRecDepth 10000 in
theorem r06Vec (l : List Int) (n : Nat) (h8 : ∀ x ∈ l, -128 ≤ x ∧ x ≤ 127) (_hl : l.length ≤ 9223372036854775807) (hn : n ≤ 1000000) : Spec Try.prog 26 [encB l, .i .i64 (n : Int)] (encV2 (vecZ l n)) := by
  refine spec_of (N := 31) follows_mixed Try.func26 rfl rfl rfl (by kernel_rfl) (by kernel_rfl) (by simp) ?_
  simp (config := { maxSteps := 1000000 }) [-List.map_map, -List.mapM_map, ↓awp_skip, ↓awp_regionB, ↓awp_seq, ↓awp_block, ↓awp_exit, ↓awp_ret, ↓awp_label, ↓awp_scope, ↓awp_condB, ↓awp_loopB, ↓ow_nil', ↓ow_cons0, ↓ow_cons1, ↓o1_move, ↓o1_assign, ↓o1_pick, ↓o1_alloc, ↓o1_box, ↓o1_build, ↓o1_buildSlice, ↓o1_makeSlice, ↓o1_makeMap, ↓o1_binOp, ↓o1_unOp, ↓o1_convert, ↓o1_fieldAddr, ↓o1_field, ↓o1_indexAddr, ↓o1_extract, ↓o1_slice, ↓o1_len, ↓o1_max, ↓o1_min, ↓o1_load, ↓o1_lookup, ↓o1_store, ↓o1_mapUpdate, ↓o1_append, ↓o1_delete, ↓o1_call, encB]
  refine loopP_inv (fun i : Nat => i ≤ n) (fun i => StL [(0, .d (encB l)), (1, .d (.i .i64 (n : Int))), (5, .own 1 0 i 2), (6, .d (.i .i64 (i : Int)))] none [.cells 32 ((vcs (vecZ l i)).map .d)]) (fun i => n - i) 0 (Nat.zero_le _) ?_ ?_
  · refine wk_l [1] (by simp) ?_ ?_ <;> simp [-List.map_map, upd, inj1, Γ0, encB, vecZ, vcs_nil]
  · intro i hi
    by_cases hgo : i < n
    · have q1 : (i : Int) < n := by omega
      have hw : IntKind.i64.wrap ((i : Int) + 1) = (i : Int) + 1 := wrap_i64 (by omega) (by omega)
      have hv := vecZ_succ l i
      have hfl := vcs_len (vecZ l i)
      rw [vecZ_len] at hfl
      have hbb := app_bounds2 (n := i) (by omega)
      generalize vecZ l i = out at *
      by_cases hil : i < l.length
      · have q2 : (i : Int) < l.length := by omega
        have hx : l[i]? = some l[i] := List.getElem?_eq_getElem hil
        have hx8 := h8 _ (List.getElem_mem hil)
        have hvz : vz1 l i = l[i].tmod 10 := by simp [vz1, hx]
        rw [hvz] at hv
        generalize l[i] = x at *
        have hb1 := Int.tmod_lt_of_pos x (b := 10) (by decide)
        have hb2 : -10 < x.tmod 10 := by
          have := Int.neg_tmod x 10
          have h3 := Int.tmod_lt_of_pos (-x) (b := 10) (by decide)
          omega
        generalize hr : x.tmod 10 = r at *
        have hO := r01Of r (by omega) (by omega)
        have hw2 : IntKind.i64.wrap r = r := wrap_i64 (by omega) (by omega)
        simp (config := { maxSteps := 1000000 }) [-List.map_map, -List.mapM_map, ↓awp_skip, ↓awp_regionB, ↓awp_seq, ↓awp_block, ↓awp_exit, ↓awp_ret, ↓awp_label, ↓awp_scope, ↓awp_condB, ↓awp_loopB, ↓ow_nil', ↓ow_cons0, ↓ow_cons1, ↓o1_move, ↓o1_assign, ↓o1_pick, ↓o1_alloc, ↓o1_box, ↓o1_build, ↓o1_buildSlice, ↓o1_makeSlice, ↓o1_makeMap, ↓o1_binOp, ↓o1_unOp, ↓o1_convert, ↓o1_fieldAddr, ↓o1_field, ↓o1_indexAddr, ↓o1_extract, ↓o1_slice, ↓o1_len, ↓o1_max, ↓o1_min, ↓o1_load, ↓o1_lookup, ↓o1_store, ↓o1_mapUpdate, ↓o1_append, ↓o1_delete, ↓o1_call, encB, q1]
        refine callP_intro (ds := []) (by rfl) r06zero ?_
        rw [encZ_eq]
        simp (config := { maxSteps := 1000000 }) [-List.map_map, -List.mapM_map, ↓awp_skip, ↓awp_regionB, ↓awp_seq, ↓awp_block, ↓awp_exit, ↓awp_ret, ↓awp_label, ↓awp_scope, ↓awp_condB, ↓awp_loopB, ↓ow_nil', ↓ow_cons0, ↓ow_cons1, ↓o1_move, ↓o1_assign, ↓o1_pick, ↓o1_alloc, ↓o1_box, ↓o1_build, ↓o1_buildSlice, ↓o1_makeSlice, ↓o1_makeMap, ↓o1_binOp, ↓o1_unOp, ↓o1_convert, ↓o1_fieldAddr, ↓o1_field, ↓o1_indexAddr, ↓o1_extract, ↓o1_slice, ↓o1_len, ↓o1_max, ↓o1_min, ↓o1_load, ↓o1_lookup, ↓o1_store, ↓o1_mapUpdate, ↓o1_append, ↓o1_delete, ↓o1_call, encB, q2, hx, hr, hw2, cellsA_encM, one_encM, inj1_encM, inj_encM, kills_encM]
        refine callP_intro (ds := [.i .i64 r]) (by rfl) hO ?_
        rw [encZ_eq]
        simp (config := { maxSteps := 1000000 }) [-List.map_map, -List.mapM_map, ↓awp_skip, ↓awp_regionB, ↓awp_seq, ↓awp_block, ↓awp_exit, ↓awp_ret, ↓awp_label, ↓awp_scope, ↓awp_condB, ↓awp_loopB, ↓ow_nil', ↓ow_cons0, ↓ow_cons1, ↓o1_move, ↓o1_assign, ↓o1_pick, ↓o1_alloc, ↓o1_box, ↓o1_build, ↓o1_buildSlice, ↓o1_makeSlice, ↓o1_makeMap, ↓o1_binOp, ↓o1_unOp, ↓o1_convert, ↓o1_fieldAddr, ↓o1_field, ↓o1_indexAddr, ↓o1_extract, ↓o1_slice, ↓o1_len, ↓o1_max, ↓o1_min, ↓o1_load, ↓o1_lookup, ↓o1_store, ↓o1_mapUpdate, ↓o1_append, ↓o1_delete, ↓o1_call, hw, hbb, hfl, le_maxLen, cellsA_encM, one_encM, inj1_encM, inj_encM, kills_encM]
        refine nxt_intro (i + 1) hgo (Nat.sub_lt_sub_left hgo (Nat.lt_succ_self _)) (wk_l [4] (by simp) ?_ ?_) <;> simp [-List.map_map, upd, inj1, Γ0, encB, hv, vcs_app, vcs_one]
      · have q2 : ¬ (i : Int) < l.length := by omega
        have hvz : vz1 l i = 0 := by simp [vz1, List.getElem?_eq_none (Nat.le_of_not_lt hil)]
        rw [hvz] at hv
        simp (config := { maxSteps := 1000000 }) [-List.map_map, -List.mapM_map, ↓awp_skip, ↓awp_regionB, ↓awp_seq, ↓awp_block, ↓awp_exit, ↓awp_ret, ↓awp_label, ↓awp_scope, ↓awp_condB, ↓awp_loopB, ↓ow_nil', ↓ow_cons0, ↓ow_cons1, ↓o1_move, ↓o1_assign, ↓o1_pick, ↓o1_alloc, ↓o1_box, ↓o1_build, ↓o1_buildSlice, ↓o1_makeSlice, ↓o1_makeMap, ↓o1_binOp, ↓o1_unOp, ↓o1_convert, ↓o1_fieldAddr, ↓o1_field, ↓o1_indexAddr, ↓o1_extract, ↓o1_slice, ↓o1_len, ↓o1_max, ↓o1_min, ↓o1_load, ↓o1_lookup, ↓o1_store, ↓o1_mapUpdate, ↓o1_append, ↓o1_delete, ↓o1_call, encB, q1]
        refine callP_intro (ds := []) (by rfl) r06zero ?_
        rw [encZ_eq]
        simp (config := { maxSteps := 1000000 }) [-List.map_map, -List.mapM_map, ↓awp_skip, ↓awp_regionB, ↓awp_seq, ↓awp_block, ↓awp_exit, ↓awp_ret, ↓awp_label, ↓awp_scope, ↓awp_condB, ↓awp_loopB, ↓ow_nil', ↓ow_cons0, ↓ow_cons1, ↓o1_move, ↓o1_assign, ↓o1_pick, ↓o1_alloc, ↓o1_box, ↓o1_build, ↓o1_buildSlice, ↓o1_makeSlice, ↓o1_makeMap, ↓o1_binOp, ↓o1_unOp, ↓o1_convert, ↓o1_fieldAddr, ↓o1_field, ↓o1_indexAddr, ↓o1_extract, ↓o1_slice, ↓o1_len, ↓o1_max, ↓o1_min, ↓o1_load, ↓o1_lookup, ↓o1_store, ↓o1_mapUpdate, ↓o1_append, ↓o1_delete, ↓o1_call, encB, q2, hw, hbb, hfl, le_maxLen, cellsA_encM, one_encM, inj1_encM, inj_encM, kills_encM]
        refine nxt_intro (i + 1) hgo (Nat.sub_lt_sub_left hgo (Nat.lt_succ_self _)) (wk_l [4] (by simp) ?_ ?_) <;> simp [-List.map_map, upd, inj1, Γ0, encB, hv, vcs_app, vcs_one]
    · have e : i = n := by omega
      subst e
      have q1 : ¬ (i : Int) < i := by omega
      have hfl := vcs_len (vecZ l i)
      have hvl := vecZ_len l i
      rw [hvl] at hfl
      generalize vecZ l i = out at *
      simp (config := { maxSteps := 1000000 }) [-List.map_map, -List.mapM_map, ↓awp_skip, ↓awp_regionB, ↓awp_seq, ↓awp_block, ↓awp_exit, ↓awp_ret, ↓awp_label, ↓awp_scope, ↓awp_condB, ↓awp_loopB, ↓ow_nil', ↓ow_cons0, ↓ow_cons1, ↓o1_move, ↓o1_assign, ↓o1_pick, ↓o1_alloc, ↓o1_box, ↓o1_build, ↓o1_buildSlice, ↓o1_makeSlice, ↓o1_makeMap, ↓o1_binOp, ↓o1_unOp, ↓o1_convert, ↓o1_fieldAddr, ↓o1_field, ↓o1_indexAddr, ↓o1_extract, ↓o1_slice, ↓o1_len, ↓o1_max, ↓o1_min, ↓o1_load, ↓o1_lookup, ↓o1_store, ↓o1_mapUpdate, ↓o1_append, ↓o1_delete, ↓o1_call, encV2, q1, hfl, chunk_vcs hvl, vcs_take_all hvl]

end Go.Am
