/- Sparse matrices: whether one is valid, by the program. No condition. -/
import Derived.Test.YtmnjglpieghdkaaIi
open Go Go.Am Go.Proofs
namespace Go.Am
set_option linter.unusedSimpArgs false

theorem wrap_len {n : Nat} (h : n ≤ 9223372036854775807) : IntKind.i64.wrap (n : Int) = n := wrap_i64 (by omega) (by omega)

set_option maxRecDepth 10000 in
theorem bigTrim (m : List Nat) (hl : m.length ≤ 9223372036854775807) : Spec Try.prog 110 [encM m] (encM (strip m)) := by
  refine spec_of (N := 21) follows_mixed Try.func110 rfl rfl rfl (by kernel_rfl) (by kernel_rfl) (by simp) ?_
  simp (config := { maxSteps := 1000000 }) [-List.map_map, -List.mapM_map, ↓awp_skip, ↓awp_regionB, ↓awp_seq, ↓awp_block, ↓awp_exit, ↓awp_ret, ↓awp_label, ↓awp_scope, ↓awp_condB, ↓awp_loopB, ↓ow_nil', ↓ow_cons0, ↓ow_cons1, ↓o1_move, ↓o1_assign, ↓o1_pick, ↓o1_alloc, ↓o1_box, ↓o1_build, ↓o1_buildSlice, ↓o1_makeSlice, ↓o1_makeMap, ↓o1_binOp, ↓o1_unOp, ↓o1_convert, ↓o1_fieldAddr, ↓o1_field, ↓o1_indexAddr, ↓o1_extract, ↓o1_slice, ↓o1_len, ↓o1_max, ↓o1_min, ↓o1_load, ↓o1_lookup, ↓o1_store, ↓o1_mapUpdate, ↓o1_append, ↓o1_delete, ↓o1_call, encM]
  refine loopP_inv (fun n : Nat => n ≤ m.length ∧ strip (m.take n) = strip m) (fun n => StL [(0, .d (encM m)), (3, .d (.i .i64 n))] none []) (fun n => n) m.length ⟨Nat.le_refl _, by simp⟩ ?_ ?_
  · refine wk_l [] (by simp) ?_ ?_ <;> simp [-List.map_map, upd, inj1, Γ0, encM]
  · rintro n ⟨hn, hs⟩
    rcases n with _ | n
    · have hs' : strip m = [] := hs.symm
      have h0 : okHead 1 (m.map fun (x : Nat) => [D.i .u32 (x : Int)]) = true := okHead_encM m _
      simp (config := { maxSteps := 1000000 }) [-List.map_map, -List.mapM_map, ↓awp_skip, ↓awp_regionB, ↓awp_seq, ↓awp_block, ↓awp_exit, ↓awp_ret, ↓awp_label, ↓awp_scope, ↓awp_condB, ↓awp_loopB, ↓ow_nil', ↓ow_cons0, ↓ow_cons1, ↓o1_move, ↓o1_assign, ↓o1_pick, ↓o1_alloc, ↓o1_box, ↓o1_build, ↓o1_buildSlice, ↓o1_makeSlice, ↓o1_makeMap, ↓o1_binOp, ↓o1_unOp, ↓o1_convert, ↓o1_fieldAddr, ↓o1_field, ↓o1_indexAddr, ↓o1_extract, ↓o1_slice, ↓o1_len, ↓o1_max, ↓o1_min, ↓o1_load, ↓o1_lookup, ↓o1_store, ↓o1_mapUpdate, ↓o1_append, ↓o1_delete, ↓o1_call, encM, hs', h0]
    · have hx : m[n]? = some m[n] := List.getElem?_eq_getElem hn
      have hw : IntKind.i64.wrap (n : Int) = n := wrap_len (by omega)
      have hp : (0 : Int) < (n : Int) + 1 := by omega
      have hp2 : (0 : Int) ≤ (n : Int) + 1 := by omega
      by_cases h0 : m[n] = 0
      · simp (config := { maxSteps := 1000000 }) [-List.map_map, -List.mapM_map, ↓awp_skip, ↓awp_regionB, ↓awp_seq, ↓awp_block, ↓awp_exit, ↓awp_ret, ↓awp_label, ↓awp_scope, ↓awp_condB, ↓awp_loopB, ↓ow_nil', ↓ow_cons0, ↓ow_cons1, ↓o1_move, ↓o1_assign, ↓o1_pick, ↓o1_alloc, ↓o1_box, ↓o1_build, ↓o1_buildSlice, ↓o1_makeSlice, ↓o1_makeMap, ↓o1_binOp, ↓o1_unOp, ↓o1_convert, ↓o1_fieldAddr, ↓o1_field, ↓o1_indexAddr, ↓o1_extract, ↓o1_slice, ↓o1_len, ↓o1_max, ↓o1_min, ↓o1_load, ↓o1_lookup, ↓o1_store, ↓o1_mapUpdate, ↓o1_append, ↓o1_delete, ↓o1_call, encM, hx, hw, h0, hp]
        refine nxt_intro n ⟨by omega, (strip_take_zero hn h0).symm.trans hs⟩ (by omega) (wk_l [] (by simp) ?_ ?_) <;> simp [-List.map_map, upd, inj1, Γ0, encM]
      · have h1 : ((m[n] : Int) == 0) = false := by simp; omega
        have he : strip m = m.take (n + 1) := hs.symm.trans (strip_take_last hn h0)
        have hn' : (n : Int) + 1 ≤ m.length := by omega
        obtain ⟨pre, hpre⟩ : ∃ pre, m.take (n + 1) = pre := ⟨_, rfl⟩
        have hp1 : ∀ f : Nat → List D, (m.map f).take (n + 1) = pre.map f := fun f => by rw [← hpre, List.map_take]
        rw [hpre] at he
        simp (config := { maxSteps := 1000000 }) [-List.map_map, -List.mapM_map, ↓awp_skip, ↓awp_regionB, ↓awp_seq, ↓awp_block, ↓awp_exit, ↓awp_ret, ↓awp_label, ↓awp_scope, ↓awp_condB, ↓awp_loopB, ↓ow_nil', ↓ow_cons0, ↓ow_cons1, ↓o1_move, ↓o1_assign, ↓o1_pick, ↓o1_alloc, ↓o1_box, ↓o1_build, ↓o1_buildSlice, ↓o1_makeSlice, ↓o1_makeMap, ↓o1_binOp, ↓o1_unOp, ↓o1_convert, ↓o1_fieldAddr, ↓o1_field, ↓o1_indexAddr, ↓o1_extract, ↓o1_slice, ↓o1_len, ↓o1_max, ↓o1_min, ↓o1_load, ↓o1_lookup, ↓o1_store, ↓o1_mapUpdate, ↓o1_append, ↓o1_delete, ↓o1_call, encM, hx, hw, h1, hp, hp2, he, hn', hp1, okHead_encM]

set_option maxRecDepth 10000 in
theorem bigSign (neg : Bool) (m : List Nat) (hl : m.length ≤ 9223372036854775807) : Spec Try.prog 73 [encI neg m] (.i .i64 (if strip m = [] then 0 else if neg then -1 else 1)) := by
  refine spec_of (N := 12) follows_mixed Try.func73 rfl rfl rfl (by kernel_rfl) (by kernel_rfl) (by simp) ?_
  simp (config := { maxSteps := 1000000 }) [-List.map_map, -List.mapM_map, ↓awp_skip, ↓awp_regionB, ↓awp_seq, ↓awp_block, ↓awp_exit, ↓awp_ret, ↓awp_label, ↓awp_scope, ↓awp_condB, ↓awp_loopB, ↓ow_nil', ↓ow_cons0, ↓ow_cons1, ↓o1_move, ↓o1_assign, ↓o1_pick, ↓o1_alloc, ↓o1_box, ↓o1_build, ↓o1_buildSlice, ↓o1_makeSlice, ↓o1_makeMap, ↓o1_binOp, ↓o1_unOp, ↓o1_convert, ↓o1_fieldAddr, ↓o1_field, ↓o1_indexAddr, ↓o1_extract, ↓o1_slice, ↓o1_len, ↓o1_max, ↓o1_min, ↓o1_load, ↓o1_lookup, ↓o1_store, ↓o1_mapUpdate, ↓o1_append, ↓o1_delete, ↓o1_call, encI, encM]
  refine callP_intro (ds := [encM m]) (by rfl) (bigTrim m hl) ?_
  cases hm : strip m with
  | nil => simp (config := { maxSteps := 1000000 }) [-List.map_map, -List.mapM_map, ↓awp_skip, ↓awp_regionB, ↓awp_seq, ↓awp_block, ↓awp_exit, ↓awp_ret, ↓awp_label, ↓awp_scope, ↓awp_condB, ↓awp_loopB, ↓ow_nil', ↓ow_cons0, ↓ow_cons1, ↓o1_move, ↓o1_assign, ↓o1_pick, ↓o1_alloc, ↓o1_box, ↓o1_build, ↓o1_buildSlice, ↓o1_makeSlice, ↓o1_makeMap, ↓o1_binOp, ↓o1_unOp, ↓o1_convert, ↓o1_fieldAddr, ↓o1_field, ↓o1_indexAddr, ↓o1_extract, ↓o1_slice, ↓o1_len, ↓o1_max, ↓o1_min, ↓o1_load, ↓o1_lookup, ↓o1_store, ↓o1_mapUpdate, ↓o1_append, ↓o1_delete, ↓o1_call, encM, encI]
  | cons x l =>
    have h1 : (((l.length : Int) + 1 == 0) : Bool) = false := by simp; omega
    cases neg <;> simp (config := { maxSteps := 1000000 }) [-List.map_map, -List.mapM_map, ↓awp_skip, ↓awp_regionB, ↓awp_seq, ↓awp_block, ↓awp_exit, ↓awp_ret, ↓awp_label, ↓awp_scope, ↓awp_condB, ↓awp_loopB, ↓ow_nil', ↓ow_cons0, ↓ow_cons1, ↓o1_move, ↓o1_assign, ↓o1_pick, ↓o1_alloc, ↓o1_box, ↓o1_build, ↓o1_buildSlice, ↓o1_makeSlice, ↓o1_makeMap, ↓o1_binOp, ↓o1_unOp, ↓o1_convert, ↓o1_fieldAddr, ↓o1_field, ↓o1_indexAddr, ↓o1_extract, ↓o1_slice, ↓o1_len, ↓o1_max, ↓o1_min, ↓o1_load, ↓o1_lookup, ↓o1_store, ↓o1_mapUpdate, ↓o1_append, ↓o1_delete, ↓o1_call, encM, encI, h1]

set_option maxRecDepth 10000 in
theorem bigValid (neg : Bool) (m : List Nat) (hl : m.length ≤ 9223372036854775807) : Spec Try.prog 72 [encI neg m] (.b (match m.getLast? with | some x => x != 0 | none => !neg)) := by
  refine spec_of (N := 19) follows_mixed Try.func72 rfl rfl rfl (by kernel_rfl) (by kernel_rfl) (by simp) ?_
  rcases List.eq_nil_or_concat m with rfl | ⟨m', x, rfl⟩
  · simp (config := { maxSteps := 1000000 }) [-List.map_map, -List.mapM_map, ↓awp_skip, ↓awp_regionB, ↓awp_seq, ↓awp_block, ↓awp_exit, ↓awp_ret, ↓awp_label, ↓awp_scope, ↓awp_condB, ↓awp_loopB, ↓ow_nil', ↓ow_cons0, ↓ow_cons1, ↓o1_move, ↓o1_assign, ↓o1_pick, ↓o1_alloc, ↓o1_box, ↓o1_build, ↓o1_buildSlice, ↓o1_makeSlice, ↓o1_makeMap, ↓o1_binOp, ↓o1_unOp, ↓o1_convert, ↓o1_fieldAddr, ↓o1_field, ↓o1_indexAddr, ↓o1_extract, ↓o1_slice, ↓o1_len, ↓o1_max, ↓o1_min, ↓o1_load, ↓o1_lookup, ↓o1_store, ↓o1_mapUpdate, ↓o1_append, ↓o1_delete, ↓o1_call, encI, encM]
  · have hw : IntKind.i64.wrap (m'.length : Int) = m'.length := by simp at hl; exact wrap_len (by omega)
    have h1 : (0 : Int) < (m'.length : Int) + 1 := by omega
    have hg : (List.map (fun (x : Nat) => [D.i .u32 (x : Int)]) m' ++ [[D.i .u32 (x : Int)]])[m'.length]? = some [D.i .u32 (x : Int)] := by
      rw [List.getElem?_append_right (by simp)]; simp
    simp (config := { maxSteps := 1000000 }) [-List.map_map, -List.mapM_map, ↓awp_skip, ↓awp_regionB, ↓awp_seq, ↓awp_block, ↓awp_exit, ↓awp_ret, ↓awp_label, ↓awp_scope, ↓awp_condB, ↓awp_loopB, ↓ow_nil', ↓ow_cons0, ↓ow_cons1, ↓o1_move, ↓o1_assign, ↓o1_pick, ↓o1_alloc, ↓o1_box, ↓o1_build, ↓o1_buildSlice, ↓o1_makeSlice, ↓o1_makeMap, ↓o1_binOp, ↓o1_unOp, ↓o1_convert, ↓o1_fieldAddr, ↓o1_field, ↓o1_indexAddr, ↓o1_extract, ↓o1_slice, ↓o1_len, ↓o1_max, ↓o1_min, ↓o1_load, ↓o1_lookup, ↓o1_store, ↓o1_mapUpdate, ↓o1_append, ↓o1_delete, ↓o1_call, encI, encM, hw, h1, hg]
    rw [Bool.eq_iff_iff]; simp

set_option maxRecDepth 10000 in
theorem bigValidR (neg : Bool) (m : List Nat) (hl : m.length ≤ 9223372036854775807) : Spec Try.prog 74 [encI neg m] (.b (match m.getLast? with | some x => x != 0 | none => !neg)) := by
  refine spec_of (N := 19) follows_mixed Try.func74 rfl rfl rfl (by kernel_rfl) (by kernel_rfl) (by simp) ?_
  rcases List.eq_nil_or_concat m with rfl | ⟨m', x, rfl⟩
  · simp (config := { maxSteps := 1000000 }) [-List.map_map, -List.mapM_map, ↓awp_skip, ↓awp_regionB, ↓awp_seq, ↓awp_block, ↓awp_exit, ↓awp_ret, ↓awp_label, ↓awp_scope, ↓awp_condB, ↓awp_loopB, ↓ow_nil', ↓ow_cons0, ↓ow_cons1, ↓o1_move, ↓o1_assign, ↓o1_pick, ↓o1_alloc, ↓o1_box, ↓o1_build, ↓o1_buildSlice, ↓o1_makeSlice, ↓o1_makeMap, ↓o1_binOp, ↓o1_unOp, ↓o1_convert, ↓o1_fieldAddr, ↓o1_field, ↓o1_indexAddr, ↓o1_extract, ↓o1_slice, ↓o1_len, ↓o1_max, ↓o1_min, ↓o1_load, ↓o1_lookup, ↓o1_store, ↓o1_mapUpdate, ↓o1_append, ↓o1_delete, ↓o1_call, encI, encM]
  · have hw : IntKind.i64.wrap (m'.length : Int) = m'.length := by simp at hl; exact wrap_len (by omega)
    have h1 : (((m'.length : Int) + 1 == 0) : Bool) = false := by simp; omega
    have hg : (List.map (fun (x : Nat) => [D.i .u32 (x : Int)]) m' ++ [[D.i .u32 (x : Int)]])[m'.length]? = some [D.i .u32 (x : Int)] := by
      rw [List.getElem?_append_right (by simp)]; simp
    simp (config := { maxSteps := 1000000 }) [-List.map_map, -List.mapM_map, ↓awp_skip, ↓awp_regionB, ↓awp_seq, ↓awp_block, ↓awp_exit, ↓awp_ret, ↓awp_label, ↓awp_scope, ↓awp_condB, ↓awp_loopB, ↓ow_nil', ↓ow_cons0, ↓ow_cons1, ↓o1_move, ↓o1_assign, ↓o1_pick, ↓o1_alloc, ↓o1_box, ↓o1_build, ↓o1_buildSlice, ↓o1_makeSlice, ↓o1_makeMap, ↓o1_binOp, ↓o1_unOp, ↓o1_convert, ↓o1_fieldAddr, ↓o1_field, ↓o1_indexAddr, ↓o1_extract, ↓o1_slice, ↓o1_len, ↓o1_max, ↓o1_min, ↓o1_load, ↓o1_lookup, ↓o1_store, ↓o1_mapUpdate, ↓o1_append, ↓o1_delete, ↓o1_call, encI, encM, hw, h1, hg]
    rw [Bool.eq_iff_iff]; simp

end Go.Am

open Go Go.Am Go.Proofs
namespace Go.Am
set_option linter.unusedSimpArgs false

/-- A term: its column, and its number as it lies. -/
structure Tm where
  col : Int
  neg : Bool
  mag : List Nat
instance : Inhabited Tm := ⟨⟨0, false, []⟩⟩
def encT (t : Tm) : List D := [.i .i64 t.col, .b t.neg, encM t.mag]
theorem encT_eq (c : Int) (n : Bool) (m : List Nat) : encT ⟨c, n, m⟩ = [.i .i64 c, .b n, encM m] := rfl
def encR (l : List Tm) : D := .sl (l.map encT)
theorem one_eM (m : List Nat) : one (AV.d (encM m)) = true := rfl
theorem cellsA_eM (m : List Nat) : cellsA (AV.d (encM m)) = some [AV.d (encM m)] := rfl
def vI (neg : Bool) (m : List Nat) : Bool := match m.getLast? with | some x => x != 0 | none => !neg
/-- A term of a valid row with 'cols' columns (below 0: any). -/
def goodT (cols : Int) (t : Tm) : Bool := vI t.neg t.mag && !decide (t.mag = []) && !decide (t.col < 0) && !(decide (0 ≤ cols) && decide (cols ≤ t.col))
def okT (cols : Int) (l : List Tm) (j : Nat) : Bool := goodT cols l[j]! && !(decide (0 < j) && decide (l[j]!.col ≤ l[j - 1]!.col))
def rowR (cols : Int) (l : List Tm) : Bool := (List.range l.length).all (okT cols l)
theorem rowR_true {cols : Int} {l : List Tm} (h : ∀ j, j < l.length → okT cols l j = true) : rowR cols l = true := by
  unfold rowR; rw [List.all_eq_true]; intro j hj; exact h j (List.mem_range.1 hj)
theorem rowR_false {cols : Int} {l : List Tm} {j : Nat} (hj : j < l.length) (h : okT cols l j = false) : rowR cols l = false := by
  unfold rowR
  rw [List.all_eq_false]
  exact ⟨j, List.mem_range.2 hj, by rw [h]; decide⟩
theorem getT {l : List Tm} {i : Nat} (h : i < l.length) : l[i]? = some l[i]! := by rw [List.getElem?_eq_getElem h, getElem!_pos l i h]

set_option maxHeartbeats 4000000 in
set_option maxRecDepth 10000 in
theorem r06Row (l : List Tm) (cols : Int) (hs : ∀ t ∈ l, t.mag.length ≤ 9223372036854775807) (hl : l.length ≤ 9223372036854775807) : Spec Try.prog 28 [encR l, .i .i64 cols] (.b (rowR cols l)) := by
  refine spec_of (N := 69) follows_mixed Try.func28 rfl rfl rfl (by kernel_rfl) (by kernel_rfl) (by simp) ?_
  simp (config := { maxSteps := 1000000 }) [-List.map_map, -List.mapM_map, ↓awp_skip, ↓awp_regionB, ↓awp_seq, ↓awp_block, ↓awp_exit, ↓awp_ret, ↓awp_label, ↓awp_scope, ↓awp_condB, ↓awp_loopB, ↓ow_nil', ↓ow_cons0, ↓ow_cons1, ↓o1_move, ↓o1_assign, ↓o1_pick, ↓o1_alloc, ↓o1_box, ↓o1_build, ↓o1_buildSlice, ↓o1_makeSlice, ↓o1_makeMap, ↓o1_binOp, ↓o1_unOp, ↓o1_convert, ↓o1_fieldAddr, ↓o1_field, ↓o1_indexAddr, ↓o1_extract, ↓o1_slice, ↓o1_len, ↓o1_max, ↓o1_min, ↓o1_load, ↓o1_lookup, ↓o1_store, ↓o1_mapUpdate, ↓o1_append, ↓o1_delete, ↓o1_call, encR]
  refine loopP_inv (fun i : Nat => i ≤ l.length ∧ ∀ j, j < i → okT cols l j = true) (fun i => StL [(0, .d (encR l)), (1, .d (.i .i64 cols)), (5, .d (.i .i64 i))] none []) (fun i => l.length - i) 0 ⟨Nat.zero_le _, fun j h => by omega⟩ ?_ ?_
  · refine wk_l [] (by simp) ?_ ?_ <;> simp [-List.map_map, upd, inj1, Γ0, encR]
  · rintro i ⟨hi, hok⟩
    by_cases hgo : i < l.length
    · have q1 : (i : Int) < l.length := by omega
      have hw7 : IntKind.i64.wrap ((i : Int) + 1) = (i : Int) + 1 := wrap_i64 (by omega) (by omega)
      have g1 := getT hgo
      have hsx : l[i]!.mag.length ≤ 9223372036854775807 := hs _ (List.mem_of_getElem? g1)
      have hoka : okT cols l i = (goodT cols l[i]! && !(decide (0 < i) && decide (l[i]!.col ≤ l[i - 1]!.col))) := rfl
      have hfalse := fun h => rowR_false (cols := cols) hgo h
      have hnext : okT cols l i = true → ∀ j, j < i + 1 → okT cols l j = true := fun h j hj => by
        rcases Nat.lt_or_ge j i with h2 | h2
        · exact hok j h2
        · have : j = i := by omega
          subst this; exact h
      have g2 : 0 < i → l[i - 1]? = some l[i - 1]! := fun h => getT (by omega)
      generalize l[i]! = x at *
      generalize l[i - 1]! = y at *
      obtain ⟨xc, xn, xm⟩ := x
      obtain ⟨yc, yn, ym⟩ := y
      simp only at hsx hoka
      have hv : Spec Try.prog 74 [encI xn xm] (.b (vI xn xm)) := bigValidR xn xm hsx
      have hsg := r01Sign xn xm
      have hgd : goodT cols ⟨xc, xn, xm⟩ = (vI xn xm && !decide (xm = []) && !decide (xc < 0) && !(decide (0 ≤ cols) && decide (cols ≤ xc))) := rfl
      simp (config := { maxSteps := 1000000 }) [-List.map_map, -List.mapM_map, ↓awp_skip, ↓awp_regionB, ↓awp_seq, ↓awp_block, ↓awp_exit, ↓awp_ret, ↓awp_label, ↓awp_scope, ↓awp_condB, ↓awp_loopB, ↓ow_nil', ↓ow_cons0, ↓ow_cons1, ↓o1_move, ↓o1_assign, ↓o1_pick, ↓o1_alloc, ↓o1_box, ↓o1_build, ↓o1_buildSlice, ↓o1_makeSlice, ↓o1_makeMap, ↓o1_binOp, ↓o1_unOp, ↓o1_convert, ↓o1_fieldAddr, ↓o1_field, ↓o1_indexAddr, ↓o1_extract, ↓o1_slice, ↓o1_len, ↓o1_max, ↓o1_min, ↓o1_load, ↓o1_lookup, ↓o1_store, ↓o1_mapUpdate, ↓o1_append, ↓o1_delete, ↓o1_call, encR, q1, g1, encT_eq, encI, one_eM, cellsA_eM]
      refine callP_intro (ds := [encI xn xm]) (by rfl) hv ?_
      cases hb1 : vI xn xm with
      | false =>
        have e1 := hfalse (by rw [hoka, hgd, hb1]; rfl)
        simp (config := { maxSteps := 1000000 }) [-List.map_map, -List.mapM_map, ↓awp_skip, ↓awp_regionB, ↓awp_seq, ↓awp_block, ↓awp_exit, ↓awp_ret, ↓awp_label, ↓awp_scope, ↓awp_condB, ↓awp_loopB, ↓ow_nil', ↓ow_cons0, ↓ow_cons1, ↓o1_move, ↓o1_assign, ↓o1_pick, ↓o1_alloc, ↓o1_box, ↓o1_build, ↓o1_buildSlice, ↓o1_makeSlice, ↓o1_makeMap, ↓o1_binOp, ↓o1_unOp, ↓o1_convert, ↓o1_fieldAddr, ↓o1_field, ↓o1_indexAddr, ↓o1_extract, ↓o1_slice, ↓o1_len, ↓o1_max, ↓o1_min, ↓o1_load, ↓o1_lookup, ↓o1_store, ↓o1_mapUpdate, ↓o1_append, ↓o1_delete, ↓o1_call, encR, q1, g1, encT_eq, encI, one_eM, cellsA_eM, e1]
      | true =>
        simp (config := { maxSteps := 1000000 }) [-List.map_map, -List.mapM_map, ↓awp_skip, ↓awp_regionB, ↓awp_seq, ↓awp_block, ↓awp_exit, ↓awp_ret, ↓awp_label, ↓awp_scope, ↓awp_condB, ↓awp_loopB, ↓ow_nil', ↓ow_cons0, ↓ow_cons1, ↓o1_move, ↓o1_assign, ↓o1_pick, ↓o1_alloc, ↓o1_box, ↓o1_build, ↓o1_buildSlice, ↓o1_makeSlice, ↓o1_makeMap, ↓o1_binOp, ↓o1_unOp, ↓o1_convert, ↓o1_fieldAddr, ↓o1_field, ↓o1_indexAddr, ↓o1_extract, ↓o1_slice, ↓o1_len, ↓o1_max, ↓o1_min, ↓o1_load, ↓o1_lookup, ↓o1_store, ↓o1_mapUpdate, ↓o1_append, ↓o1_delete, ↓o1_call, encR, q1, g1, encT_eq, encI, one_eM, cellsA_eM]
        refine callP_intro (ds := [encI xn xm]) (by rfl) hsg ?_
        by_cases hb2 : xm = []
        · have e1 := hfalse (by rw [hoka, hgd, hb1, decide_eq_true hb2]; rfl)
          rw [if_pos hb2]
          simp (config := { maxSteps := 1000000 }) [-List.map_map, -List.mapM_map, ↓awp_skip, ↓awp_regionB, ↓awp_seq, ↓awp_block, ↓awp_exit, ↓awp_ret, ↓awp_label, ↓awp_scope, ↓awp_condB, ↓awp_loopB, ↓ow_nil', ↓ow_cons0, ↓ow_cons1, ↓o1_move, ↓o1_assign, ↓o1_pick, ↓o1_alloc, ↓o1_box, ↓o1_build, ↓o1_buildSlice, ↓o1_makeSlice, ↓o1_makeMap, ↓o1_binOp, ↓o1_unOp, ↓o1_convert, ↓o1_fieldAddr, ↓o1_field, ↓o1_indexAddr, ↓o1_extract, ↓o1_slice, ↓o1_len, ↓o1_max, ↓o1_min, ↓o1_load, ↓o1_lookup, ↓o1_store, ↓o1_mapUpdate, ↓o1_append, ↓o1_delete, ↓o1_call, e1]
        · have hne : ((if xm = [] then (0 : Int) else if xn = true then -1 else 1) == 0) = false := by rw [if_neg hb2]; cases xn <;> rfl
          generalize (if xm = [] then (0 : Int) else if xn = true then -1 else 1) = sgn at hne ⊢
          by_cases hb3 : xc < 0
          · have e1 := hfalse (by rw [hoka, hgd, hb1, decide_eq_false hb2, decide_eq_true hb3]; rfl)
            simp (config := { maxSteps := 1000000 }) [-List.map_map, -List.mapM_map, ↓awp_skip, ↓awp_regionB, ↓awp_seq, ↓awp_block, ↓awp_exit, ↓awp_ret, ↓awp_label, ↓awp_scope, ↓awp_condB, ↓awp_loopB, ↓ow_nil', ↓ow_cons0, ↓ow_cons1, ↓o1_move, ↓o1_assign, ↓o1_pick, ↓o1_alloc, ↓o1_box, ↓o1_build, ↓o1_buildSlice, ↓o1_makeSlice, ↓o1_makeMap, ↓o1_binOp, ↓o1_unOp, ↓o1_convert, ↓o1_fieldAddr, ↓o1_field, ↓o1_indexAddr, ↓o1_extract, ↓o1_slice, ↓o1_len, ↓o1_max, ↓o1_min, ↓o1_load, ↓o1_lookup, ↓o1_store, ↓o1_mapUpdate, ↓o1_append, ↓o1_delete, ↓o1_call, hne, hb3, encR, q1, g1, encT_eq, encI, one_eM, cellsA_eM, e1]
          · by_cases hb4 : 0 ≤ cols
            · by_cases hb5 : cols ≤ xc
              · have e1 := hfalse (by rw [hoka, hgd, decide_eq_true hb4, decide_eq_true hb5]; simp)
                simp (config := { maxSteps := 1000000 }) [-List.map_map, -List.mapM_map, ↓awp_skip, ↓awp_regionB, ↓awp_seq, ↓awp_block, ↓awp_exit, ↓awp_ret, ↓awp_label, ↓awp_scope, ↓awp_condB, ↓awp_loopB, ↓ow_nil', ↓ow_cons0, ↓ow_cons1, ↓o1_move, ↓o1_assign, ↓o1_pick, ↓o1_alloc, ↓o1_box, ↓o1_build, ↓o1_buildSlice, ↓o1_makeSlice, ↓o1_makeMap, ↓o1_binOp, ↓o1_unOp, ↓o1_convert, ↓o1_fieldAddr, ↓o1_field, ↓o1_indexAddr, ↓o1_extract, ↓o1_slice, ↓o1_len, ↓o1_max, ↓o1_min, ↓o1_load, ↓o1_lookup, ↓o1_store, ↓o1_mapUpdate, ↓o1_append, ↓o1_delete, ↓o1_call, hne, hb3, hb4, hb5, encR, q1, g1, encT_eq, encI, one_eM, cellsA_eM, e1]
              · have hcc : (decide (0 ≤ cols) && decide (cols ≤ xc)) = false := by simp [hb5]
                by_cases hi0 : 0 < i
                · have hw9 : IntKind.i64.wrap ((i : Int) - 1) = ((i - 1 : Nat) : Int) := by
                    rw [show ((i - 1 : Nat) : Int) = (i : Int) - 1 by omega]; exact wrap_i64 (by omega) (by omega)
                  have g2 := g2 hi0
                  by_cases hb6 : xc ≤ yc
                  · have e1 := hfalse (by rw [hoka, decide_eq_true hi0, decide_eq_true hb6]; simp)
                    simp (config := { maxSteps := 1000000 }) [-List.map_map, -List.mapM_map, ↓awp_skip, ↓awp_regionB, ↓awp_seq, ↓awp_block, ↓awp_exit, ↓awp_ret, ↓awp_label, ↓awp_scope, ↓awp_condB, ↓awp_loopB, ↓ow_nil', ↓ow_cons0, ↓ow_cons1, ↓o1_move, ↓o1_assign, ↓o1_pick, ↓o1_alloc, ↓o1_box, ↓o1_build, ↓o1_buildSlice, ↓o1_makeSlice, ↓o1_makeMap, ↓o1_binOp, ↓o1_unOp, ↓o1_convert, ↓o1_fieldAddr, ↓o1_field, ↓o1_indexAddr, ↓o1_extract, ↓o1_slice, ↓o1_len, ↓o1_max, ↓o1_min, ↓o1_load, ↓o1_lookup, ↓o1_store, ↓o1_mapUpdate, ↓o1_append, ↓o1_delete, ↓o1_call, hne, hb3, hb4, hb5, hi0, hw9, g2, hb6, encR, q1, g1, encT_eq, encI, one_eM, cellsA_eM, e1]
                  · have e1 := hnext (by rw [hoka, hgd, hb1, decide_eq_false hb2, decide_eq_false hb3, hcc, decide_eq_false hb6]; simp)
                    simp (config := { maxSteps := 1000000 }) [-List.map_map, -List.mapM_map, ↓awp_skip, ↓awp_regionB, ↓awp_seq, ↓awp_block, ↓awp_exit, ↓awp_ret, ↓awp_label, ↓awp_scope, ↓awp_condB, ↓awp_loopB, ↓ow_nil', ↓ow_cons0, ↓ow_cons1, ↓o1_move, ↓o1_assign, ↓o1_pick, ↓o1_alloc, ↓o1_box, ↓o1_build, ↓o1_buildSlice, ↓o1_makeSlice, ↓o1_makeMap, ↓o1_binOp, ↓o1_unOp, ↓o1_convert, ↓o1_fieldAddr, ↓o1_field, ↓o1_indexAddr, ↓o1_extract, ↓o1_slice, ↓o1_len, ↓o1_max, ↓o1_min, ↓o1_load, ↓o1_lookup, ↓o1_store, ↓o1_mapUpdate, ↓o1_append, ↓o1_delete, ↓o1_call, hne, hb3, hb4, hb5, hi0, hw9, g2, hb6, encR, q1, g1, encT_eq, encI, one_eM, cellsA_eM, hw7]
                    refine nxt_intro (i + 1) ⟨hgo, e1⟩ (Nat.sub_lt_sub_left hgo (Nat.lt_succ_self _)) (wk_l [] (by simp) ?_ ?_) <;> simp [-List.map_map, upd, inj1, Γ0, encR, encT_eq]
                · have e1 := hnext (by rw [hoka, hgd, hb1, decide_eq_false hb2, decide_eq_false hb3, hcc, decide_eq_false hi0]; simp)
                  simp (config := { maxSteps := 1000000 }) [-List.map_map, -List.mapM_map, ↓awp_skip, ↓awp_regionB, ↓awp_seq, ↓awp_block, ↓awp_exit, ↓awp_ret, ↓awp_label, ↓awp_scope, ↓awp_condB, ↓awp_loopB, ↓ow_nil', ↓ow_cons0, ↓ow_cons1, ↓o1_move, ↓o1_assign, ↓o1_pick, ↓o1_alloc, ↓o1_box, ↓o1_build, ↓o1_buildSlice, ↓o1_makeSlice, ↓o1_makeMap, ↓o1_binOp, ↓o1_unOp, ↓o1_convert, ↓o1_fieldAddr, ↓o1_field, ↓o1_indexAddr, ↓o1_extract, ↓o1_slice, ↓o1_len, ↓o1_max, ↓o1_min, ↓o1_load, ↓o1_lookup, ↓o1_store, ↓o1_mapUpdate, ↓o1_append, ↓o1_delete, ↓o1_call, hne, hb3, hb4, hb5, hi0, encR, q1, g1, encT_eq, encI, one_eM, cellsA_eM, hw7]
                  refine nxt_intro (i + 1) ⟨hgo, e1⟩ (Nat.sub_lt_sub_left hgo (Nat.lt_succ_self _)) (wk_l [] (by simp) ?_ ?_) <;> simp [-List.map_map, upd, inj1, Γ0, encR, encT_eq]
            · have hcc : (decide (0 ≤ cols) && decide (cols ≤ xc)) = false := by simp [hb4]
              by_cases hi0 : 0 < i
              · have hw9 : IntKind.i64.wrap ((i : Int) - 1) = ((i - 1 : Nat) : Int) := by
                  rw [show ((i - 1 : Nat) : Int) = (i : Int) - 1 by omega]; exact wrap_i64 (by omega) (by omega)
                have g2 := g2 hi0
                by_cases hb6 : xc ≤ yc
                · have e1 := hfalse (by rw [hoka, decide_eq_true hi0, decide_eq_true hb6]; simp)
                  simp (config := { maxSteps := 1000000 }) [-List.map_map, -List.mapM_map, ↓awp_skip, ↓awp_regionB, ↓awp_seq, ↓awp_block, ↓awp_exit, ↓awp_ret, ↓awp_label, ↓awp_scope, ↓awp_condB, ↓awp_loopB, ↓ow_nil', ↓ow_cons0, ↓ow_cons1, ↓o1_move, ↓o1_assign, ↓o1_pick, ↓o1_alloc, ↓o1_box, ↓o1_build, ↓o1_buildSlice, ↓o1_makeSlice, ↓o1_makeMap, ↓o1_binOp, ↓o1_unOp, ↓o1_convert, ↓o1_fieldAddr, ↓o1_field, ↓o1_indexAddr, ↓o1_extract, ↓o1_slice, ↓o1_len, ↓o1_max, ↓o1_min, ↓o1_load, ↓o1_lookup, ↓o1_store, ↓o1_mapUpdate, ↓o1_append, ↓o1_delete, ↓o1_call, hne, hb3, hb4, hi0, hw9, g2, hb6, encR, q1, g1, encT_eq, encI, one_eM, cellsA_eM, e1]
                · have e1 := hnext (by rw [hoka, hgd, hb1, decide_eq_false hb2, decide_eq_false hb3, hcc, decide_eq_false hb6]; simp)
                  simp (config := { maxSteps := 1000000 }) [-List.map_map, -List.mapM_map, ↓awp_skip, ↓awp_regionB, ↓awp_seq, ↓awp_block, ↓awp_exit, ↓awp_ret, ↓awp_label, ↓awp_scope, ↓awp_condB, ↓awp_loopB, ↓ow_nil', ↓ow_cons0, ↓ow_cons1, ↓o1_move, ↓o1_assign, ↓o1_pick, ↓o1_alloc, ↓o1_box, ↓o1_build, ↓o1_buildSlice, ↓o1_makeSlice, ↓o1_makeMap, ↓o1_binOp, ↓o1_unOp, ↓o1_convert, ↓o1_fieldAddr, ↓o1_field, ↓o1_indexAddr, ↓o1_extract, ↓o1_slice, ↓o1_len, ↓o1_max, ↓o1_min, ↓o1_load, ↓o1_lookup, ↓o1_store, ↓o1_mapUpdate, ↓o1_append, ↓o1_delete, ↓o1_call, hne, hb3, hb4, hi0, hw9, g2, hb6, encR, q1, g1, encT_eq, encI, one_eM, cellsA_eM, hw7]
                  refine nxt_intro (i + 1) ⟨hgo, e1⟩ (Nat.sub_lt_sub_left hgo (Nat.lt_succ_self _)) (wk_l [] (by simp) ?_ ?_) <;> simp [-List.map_map, upd, inj1, Γ0, encR, encT_eq]
              · have e1 := hnext (by rw [hoka, hgd, hb1, decide_eq_false hb2, decide_eq_false hb3, hcc, decide_eq_false hi0]; simp)
                simp (config := { maxSteps := 1000000 }) [-List.map_map, -List.mapM_map, ↓awp_skip, ↓awp_regionB, ↓awp_seq, ↓awp_block, ↓awp_exit, ↓awp_ret, ↓awp_label, ↓awp_scope, ↓awp_condB, ↓awp_loopB, ↓ow_nil', ↓ow_cons0, ↓ow_cons1, ↓o1_move, ↓o1_assign, ↓o1_pick, ↓o1_alloc, ↓o1_box, ↓o1_build, ↓o1_buildSlice, ↓o1_makeSlice, ↓o1_makeMap, ↓o1_binOp, ↓o1_unOp, ↓o1_convert, ↓o1_fieldAddr, ↓o1_field, ↓o1_indexAddr, ↓o1_extract, ↓o1_slice, ↓o1_len, ↓o1_max, ↓o1_min, ↓o1_load, ↓o1_lookup, ↓o1_store, ↓o1_mapUpdate, ↓o1_append, ↓o1_delete, ↓o1_call, hne, hb3, hb4, hi0, encR, q1, g1, encT_eq, encI, one_eM, cellsA_eM, hw7]
                refine nxt_intro (i + 1) ⟨hgo, e1⟩ (Nat.sub_lt_sub_left hgo (Nat.lt_succ_self _)) (wk_l [] (by simp) ?_ ?_) <;> simp [-List.map_map, upd, inj1, Γ0, encR, encT_eq]
    · have q1 : ¬ (i : Int) < l.length := by omega
      have e : rowR cols l = true := rowR_true fun j hj => hok j (by omega)
      simp (config := { maxSteps := 1000000 }) [-List.map_map, -List.mapM_map, ↓awp_skip, ↓awp_regionB, ↓awp_seq, ↓awp_block, ↓awp_exit, ↓awp_ret, ↓awp_label, ↓awp_scope, ↓awp_condB, ↓awp_loopB, ↓ow_nil', ↓ow_cons0, ↓ow_cons1, ↓o1_move, ↓o1_assign, ↓o1_pick, ↓o1_alloc, ↓o1_box, ↓o1_build, ↓o1_buildSlice, ↓o1_makeSlice, ↓o1_makeMap, ↓o1_binOp, ↓o1_unOp, ↓o1_convert, ↓o1_fieldAddr, ↓o1_field, ↓o1_indexAddr, ↓o1_extract, ↓o1_slice, ↓o1_len, ↓o1_max, ↓o1_min, ↓o1_load, ↓o1_lookup, ↓o1_store, ↓o1_mapUpdate, ↓o1_append, ↓o1_delete, ↓o1_call, encR, q1, e]

end Go.Am

open Go Go.Am Go.Proofs
namespace Go.Am
set_option linter.unusedSimpArgs false

def encS (rows cols : Int) (L : List (List Tm)) : D := .ag [.i .i64 rows, .i .i64 cols, .sl (L.map fun r => [encR r])]
def matR (rows cols : Int) (L : List (List Tm)) : Bool := decide (rows = L.length) && !decide (cols < 0) && L.all (rowR cols)
theorem matR_false {rows cols : Int} {L : List (List Tm)} {j : Nat} {r : List Tm} (hj : L[j]? = some r) (h : rowR cols r = false) : matR rows cols L = false := by
  have : L.all (rowR cols) = false := by
    rw [List.all_eq_false]
    exact ⟨r, List.mem_of_getElem? hj, by rw [h]; decide⟩
  unfold matR; rw [this]; simp
theorem matR_true {rows cols : Int} {L : List (List Tm)} (h1 : rows = L.length) (h2 : ¬ cols < 0) (h : ∀ j, j < L.length → ∀ r, L[j]? = some r → rowR cols r = true) : matR rows cols L = true := by
  have : L.all (rowR cols) = true := by
    rw [List.all_eq_true]
    intro r hr
    obtain ⟨j, hj, rfl⟩ := List.mem_iff_getElem.1 hr
    exact h j hj _ (List.getElem?_eq_getElem hj)
  unfold matR; rw [this]; simp [h1, h2]

/-- What came in is no longer than memory. -/
def BigR (r : List Tm) : Prop := (∀ t ∈ r, t.mag.length ≤ 9223372036854775807) ∧ r.length ≤ 9223372036854775807

set_option maxHeartbeats 4000000 in
set_option maxRecDepth 10000 in
theorem r06Valid (rows cols : Int) (L : List (List Tm)) (hs : ∀ r ∈ L, BigR r) (hl : L.length ≤ 9223372036854775807) : Spec Try.prog 24 [encS rows cols L] (.b (matR rows cols L)) := by
  refine spec_of (N := 33) follows_mixed Try.func24 rfl rfl rfl (by kernel_rfl) (by kernel_rfl) (by simp) ?_
  by_cases h1 : rows = (L.length : Int)
  · subst h1
    by_cases h2 : cols < 0
    · have e : matR L.length cols L = false := by unfold matR; simp [h2]
      simp (config := { maxSteps := 1000000 }) [-List.map_map, -List.mapM_map, ↓awp_skip, ↓awp_regionB, ↓awp_seq, ↓awp_block, ↓awp_exit, ↓awp_ret, ↓awp_label, ↓awp_scope, ↓awp_condB, ↓awp_loopB, ↓ow_nil', ↓ow_cons0, ↓ow_cons1, ↓o1_move, ↓o1_assign, ↓o1_pick, ↓o1_alloc, ↓o1_box, ↓o1_build, ↓o1_buildSlice, ↓o1_makeSlice, ↓o1_makeMap, ↓o1_binOp, ↓o1_unOp, ↓o1_convert, ↓o1_fieldAddr, ↓o1_field, ↓o1_indexAddr, ↓o1_extract, ↓o1_slice, ↓o1_len, ↓o1_max, ↓o1_min, ↓o1_load, ↓o1_lookup, ↓o1_store, ↓o1_mapUpdate, ↓o1_append, ↓o1_delete, ↓o1_call, encS, h2, e]
    · have h2' : ¬ 0 > cols := h2
      simp (config := { maxSteps := 1000000 }) [-List.map_map, -List.mapM_map, ↓awp_skip, ↓awp_regionB, ↓awp_seq, ↓awp_block, ↓awp_exit, ↓awp_ret, ↓awp_label, ↓awp_scope, ↓awp_condB, ↓awp_loopB, ↓ow_nil', ↓ow_cons0, ↓ow_cons1, ↓o1_move, ↓o1_assign, ↓o1_pick, ↓o1_alloc, ↓o1_box, ↓o1_build, ↓o1_buildSlice, ↓o1_makeSlice, ↓o1_makeMap, ↓o1_binOp, ↓o1_unOp, ↓o1_convert, ↓o1_fieldAddr, ↓o1_field, ↓o1_indexAddr, ↓o1_extract, ↓o1_slice, ↓o1_len, ↓o1_max, ↓o1_min, ↓o1_load, ↓o1_lookup, ↓o1_store, ↓o1_mapUpdate, ↓o1_append, ↓o1_delete, ↓o1_call, encS, h2]
      refine loopP_inv (fun i : Nat => i ≤ L.length ∧ ∀ j, j < i → ∀ r, L[j]? = some r → rowR cols r = true) (fun i => StL [(1, .ptr 1 0), (3, .d (.i .i64 i))] none [.cells 44 [.d (.i .i64 L.length), .d (.i .i64 cols), .d (.sl (L.map fun r => [encR r]))]]) (fun i => L.length - i) 0 ⟨Nat.zero_le _, fun j h => by omega⟩ ?_ ?_
      · refine wk_l [1] (by simp) ?_ ?_
        · simp [-List.map_map, upd, inj1, Γ0, encS]
        · simp [-List.map_map, upd, inj1, Γ0, encS]
      · rintro i ⟨hi, hok⟩
        by_cases hgo : i < L.length
        · have q1 : (i : Int) < L.length := by omega
          have hw7 : IntKind.i64.wrap ((i : Int) + 1) = (i : Int) + 1 := wrap_i64 (by omega) (by omega)
          have g1 : L[i]? = some L[i] := List.getElem?_eq_getElem hgo
          have hb := hs _ (List.getElem_mem hgo)
          have hn : rowR cols L[i] = true → ∀ j, j < i + 1 → ∀ r, L[j]? = some r → rowR cols r = true := fun h j hj r hr => by
            rcases Nat.lt_or_ge j i with h2 | h2
            · exact hok j h2 r hr
            · have : j = i := by omega
              subst this
              rw [g1] at hr; cases hr; exact h
          have hf : rowR cols L[i] = false → matR L.length cols L = false := fun h => matR_false g1 h
          generalize L[i] = x at *
          have hv := r06Row x cols hb.1 hb.2
          simp (config := { maxSteps := 1000000 }) [-List.map_map, -List.mapM_map, ↓awp_skip, ↓awp_regionB, ↓awp_seq, ↓awp_block, ↓awp_exit, ↓awp_ret, ↓awp_label, ↓awp_scope, ↓awp_condB, ↓awp_loopB, ↓ow_nil', ↓ow_cons0, ↓ow_cons1, ↓o1_move, ↓o1_assign, ↓o1_pick, ↓o1_alloc, ↓o1_box, ↓o1_build, ↓o1_buildSlice, ↓o1_makeSlice, ↓o1_makeMap, ↓o1_binOp, ↓o1_unOp, ↓o1_convert, ↓o1_fieldAddr, ↓o1_field, ↓o1_indexAddr, ↓o1_extract, ↓o1_slice, ↓o1_len, ↓o1_max, ↓o1_min, ↓o1_load, ↓o1_lookup, ↓o1_store, ↓o1_mapUpdate, ↓o1_append, ↓o1_delete, ↓o1_call, q1, g1]
          refine callP_intro (ds := [encR x, .i .i64 cols]) (by rfl) hv ?_
          cases hc : rowR cols x with
          | false =>
            have e := hf hc
            simp (config := { maxSteps := 1000000 }) [-List.map_map, -List.mapM_map, ↓awp_skip, ↓awp_regionB, ↓awp_seq, ↓awp_block, ↓awp_exit, ↓awp_ret, ↓awp_label, ↓awp_scope, ↓awp_condB, ↓awp_loopB, ↓ow_nil', ↓ow_cons0, ↓ow_cons1, ↓o1_move, ↓o1_assign, ↓o1_pick, ↓o1_alloc, ↓o1_box, ↓o1_build, ↓o1_buildSlice, ↓o1_makeSlice, ↓o1_makeMap, ↓o1_binOp, ↓o1_unOp, ↓o1_convert, ↓o1_fieldAddr, ↓o1_field, ↓o1_indexAddr, ↓o1_extract, ↓o1_slice, ↓o1_len, ↓o1_max, ↓o1_min, ↓o1_load, ↓o1_lookup, ↓o1_store, ↓o1_mapUpdate, ↓o1_append, ↓o1_delete, ↓o1_call, e]
          | true =>
            simp (config := { maxSteps := 1000000 }) [-List.map_map, -List.mapM_map, ↓awp_skip, ↓awp_regionB, ↓awp_seq, ↓awp_block, ↓awp_exit, ↓awp_ret, ↓awp_label, ↓awp_scope, ↓awp_condB, ↓awp_loopB, ↓ow_nil', ↓ow_cons0, ↓ow_cons1, ↓o1_move, ↓o1_assign, ↓o1_pick, ↓o1_alloc, ↓o1_box, ↓o1_build, ↓o1_buildSlice, ↓o1_makeSlice, ↓o1_makeMap, ↓o1_binOp, ↓o1_unOp, ↓o1_convert, ↓o1_fieldAddr, ↓o1_field, ↓o1_indexAddr, ↓o1_extract, ↓o1_slice, ↓o1_len, ↓o1_max, ↓o1_min, ↓o1_load, ↓o1_lookup, ↓o1_store, ↓o1_mapUpdate, ↓o1_append, ↓o1_delete, ↓o1_call, hw7]
            refine nxt_intro (i + 1) ⟨hgo, hn hc⟩ (Nat.sub_lt_sub_left hgo (Nat.lt_succ_self _)) (wk_l [1] (by simp) ?_ ?_) <;> simp [-List.map_map, upd, inj1, Γ0, encS]
        · have q1 : ¬ (i : Int) < L.length := by omega
          have e : matR L.length cols L = true := matR_true rfl h2 fun j hj => hok j (by omega)
          simp (config := { maxSteps := 1000000 }) [-List.map_map, -List.mapM_map, ↓awp_skip, ↓awp_regionB, ↓awp_seq, ↓awp_block, ↓awp_exit, ↓awp_ret, ↓awp_label, ↓awp_scope, ↓awp_condB, ↓awp_loopB, ↓ow_nil', ↓ow_cons0, ↓ow_cons1, ↓o1_move, ↓o1_assign, ↓o1_pick, ↓o1_alloc, ↓o1_box, ↓o1_build, ↓o1_buildSlice, ↓o1_makeSlice, ↓o1_makeMap, ↓o1_binOp, ↓o1_unOp, ↓o1_convert, ↓o1_fieldAddr, ↓o1_field, ↓o1_indexAddr, ↓o1_extract, ↓o1_slice, ↓o1_len, ↓o1_max, ↓o1_min, ↓o1_load, ↓o1_lookup, ↓o1_store, ↓o1_mapUpdate, ↓o1_append, ↓o1_delete, ↓o1_call, q1, e]
  · have e : matR rows cols L = false := by unfold matR; simp [h1]
    have h1' : (rows == (L.length : Int)) = false := by simpa using h1
    have h1'' : (rows != (L.length : Int)) = true := by simpa using h1
    simp (config := { maxSteps := 1000000 }) [-List.map_map, -List.mapM_map, ↓awp_skip, ↓awp_regionB, ↓awp_seq, ↓awp_block, ↓awp_exit, ↓awp_ret, ↓awp_label, ↓awp_scope, ↓awp_condB, ↓awp_loopB, ↓ow_nil', ↓ow_cons0, ↓ow_cons1, ↓o1_move, ↓o1_assign, ↓o1_pick, ↓o1_alloc, ↓o1_box, ↓o1_build, ↓o1_buildSlice, ↓o1_makeSlice, ↓o1_makeMap, ↓o1_binOp, ↓o1_unOp, ↓o1_convert, ↓o1_fieldAddr, ↓o1_field, ↓o1_indexAddr, ↓o1_extract, ↓o1_slice, ↓o1_len, ↓o1_max, ↓o1_min, ↓o1_load, ↓o1_lookup, ↓o1_store, ↓o1_mapUpdate, ↓o1_append, ↓o1_delete, ↓o1_call, encS, h1, h1', h1'', e]

end Go.Am

open Go Go.Am Go.Proofs
namespace Go.Am
set_option linter.unusedSimpArgs false

theorem strip_vI {n : Bool} {m : List Nat} (h : vI n m = true) : strip m = [] ↔ m = [] := by
  have hc : Canon m := by
    unfold Canon
    unfold vI at h
    intro e
    rw [e] at h
    simp at h
  rw [strip_canon hc]

/-- The column before. -/
def lastT (l : List Tm) (i : Nat) : Int := if i = 0 then -1 else l[i - 1]!.col
theorem okT_last {cols : Int} {l : List Tm} {i : Nat} (h2 : ¬ cols < 0) (hok : ∀ j, j < i → okT cols l j = true) : okT cols l i = (vI l[i]!.neg l[i]!.mag && !decide (l[i]!.mag = []) && !decide (l[i]!.col ≤ lastT l i) && !decide (cols ≤ l[i]!.col)) := by
  have e : okT cols l i = (goodT cols l[i]! && !(decide (0 < i) && decide (l[i]!.col ≤ l[i - 1]!.col))) := rfl
  have hp : 0 < i → 0 ≤ l[i - 1]!.col := fun h => by
    have h3 := hok (i - 1) (by omega)
    have e3 : okT cols l (i - 1) = (goodT cols l[i - 1]! && !(decide (0 < i - 1) && decide (l[i - 1]!.col ≤ l[i - 1 - 1]!.col))) := rfl
    rw [e3] at h3
    generalize l[i - 1]! = y at h3
    generalize l[i - 1 - 1]! = z at h3
    unfold goodT at h3
    simp only [Bool.and_eq_true, Bool.not_eq_true', decide_eq_false_iff_not] at h3
    omega
  rw [e]
  unfold lastT goodT
  generalize l[i - 1]! = y at *
  generalize l[i]! = x at *
  by_cases h0 : i = 0
  · subst h0
    rw [Bool.eq_iff_iff]
    simp only [Bool.and_eq_true, Bool.not_eq_true', decide_eq_false_iff_not, Bool.and_eq_false_iff, decide_eq_true_eq, if_true]
    by_cases hA : vI x.neg x.mag = true ∧ ¬ x.mag = []
    · simp only [hA, not_false_eq_true, true_and, and_true]; omega
    · simp only [hA, false_and]
  · have := hp (by omega)
    rw [Bool.eq_iff_iff]
    simp only [Bool.and_eq_true, Bool.not_eq_true', decide_eq_false_iff_not, Bool.and_eq_false_iff, decide_eq_true_eq, if_neg h0]
    by_cases hA : vI x.neg x.mag = true ∧ ¬ x.mag = []
    · simp only [hA, not_false_eq_true, true_and, and_true]; omega
    · simp only [hA, false_and]

set_option maxHeartbeats 8000000 in
set_option maxRecDepth 10000 in
theorem spValid (rows cols : Int) (L : List (List Tm)) (hs : ∀ r ∈ L, BigR r) (hl : L.length ≤ 9223372036854775807) : Spec Try.prog 23 [encS rows cols L] (.b (matR rows cols L)) := by
  refine spec_of (N := 59) follows_mixed Try.func23 rfl rfl rfl (by kernel_rfl) (by kernel_rfl) (by simp) ?_
  by_cases h1 : rows = (L.length : Int)
  · subst h1
    by_cases h2 : cols < 0
    · have e : matR L.length cols L = false := by unfold matR; simp [h2]
      simp (config := { maxSteps := 1000000 }) [-List.map_map, -List.mapM_map, ↓awp_skip, ↓awp_regionB, ↓awp_seq, ↓awp_block, ↓awp_exit, ↓awp_ret, ↓awp_label, ↓awp_scope, ↓awp_condB, ↓awp_loopB, ↓ow_nil', ↓ow_cons0, ↓ow_cons1, ↓o1_move, ↓o1_assign, ↓o1_pick, ↓o1_alloc, ↓o1_box, ↓o1_build, ↓o1_buildSlice, ↓o1_makeSlice, ↓o1_makeMap, ↓o1_binOp, ↓o1_unOp, ↓o1_convert, ↓o1_fieldAddr, ↓o1_field, ↓o1_indexAddr, ↓o1_extract, ↓o1_slice, ↓o1_len, ↓o1_max, ↓o1_min, ↓o1_load, ↓o1_lookup, ↓o1_store, ↓o1_mapUpdate, ↓o1_append, ↓o1_delete, ↓o1_call, encS, h2, e]
    · simp (config := { maxSteps := 1000000 }) [-List.map_map, -List.mapM_map, ↓awp_skip, ↓awp_regionB, ↓awp_seq, ↓awp_block, ↓awp_exit, ↓awp_ret, ↓awp_label, ↓awp_scope, ↓awp_condB, ↓awp_loopB, ↓ow_nil', ↓ow_cons0, ↓ow_cons1, ↓o1_move, ↓o1_assign, ↓o1_pick, ↓o1_alloc, ↓o1_box, ↓o1_build, ↓o1_buildSlice, ↓o1_makeSlice, ↓o1_makeMap, ↓o1_binOp, ↓o1_unOp, ↓o1_convert, ↓o1_fieldAddr, ↓o1_field, ↓o1_indexAddr, ↓o1_extract, ↓o1_slice, ↓o1_len, ↓o1_max, ↓o1_min, ↓o1_load, ↓o1_lookup, ↓o1_store, ↓o1_mapUpdate, ↓o1_append, ↓o1_delete, ↓o1_call, encS, h2]
      refine loopP_inv (fun i : Nat => i ≤ L.length ∧ ∀ j, j < i → ∀ r, L[j]? = some r → rowR cols r = true) (fun i => StL [(1, .ptr 1 0), (20, .d (.sl (L.map fun r => [encR r]))), (21, .d (.i .i64 L.length)), (22, .d (.i .i64 i))] none [.cells 44 [.d (.i .i64 L.length), .d (.i .i64 cols), .d (.sl (L.map fun r => [encR r]))]]) (fun i => L.length - i) 0 ⟨Nat.zero_le _, fun j h => by omega⟩ ?_ ?_
      · refine wk_l [1] (by simp) ?_ ?_
        · simp [-List.map_map, upd, inj1, Γ0, encS]
        · simp [-List.map_map, upd, inj1, Γ0, encS]
      · rintro i ⟨hi, hok⟩
        by_cases hgo : i < L.length
        · have q1 : (i : Int) < L.length := by omega
          have hw7 : IntKind.i64.wrap ((i : Int) + 1) = (i : Int) + 1 := wrap_i64 (by omega) (by omega)
          have g1 : L[i]? = some L[i] := List.getElem?_eq_getElem hgo
          have hb := hs _ (List.getElem_mem hgo)
          have hn : rowR cols L[i] = true → ∀ j, j < i + 1 → ∀ r, L[j]? = some r → rowR cols r = true := fun h j hj r hr => by
            rcases Nat.lt_or_ge j i with h2 | h2
            · exact hok j h2 r hr
            · have : j = i := by omega
              subst this
              rw [g1] at hr; cases hr; exact h
          have hf : rowR cols L[i] = false → matR L.length cols L = false := fun h => matR_false g1 h
          generalize L[i] = x at *
          obtain ⟨hb1, hb2⟩ := hb
          simp (config := { maxSteps := 1000000 }) [-List.map_map, -List.mapM_map, ↓awp_skip, ↓awp_regionB, ↓awp_seq, ↓awp_block, ↓awp_exit, ↓awp_ret, ↓awp_label, ↓awp_scope, ↓awp_condB, ↓awp_loopB, ↓ow_nil', ↓ow_cons0, ↓ow_cons1, ↓o1_move, ↓o1_assign, ↓o1_pick, ↓o1_alloc, ↓o1_box, ↓o1_build, ↓o1_buildSlice, ↓o1_makeSlice, ↓o1_makeMap, ↓o1_binOp, ↓o1_unOp, ↓o1_convert, ↓o1_fieldAddr, ↓o1_field, ↓o1_indexAddr, ↓o1_extract, ↓o1_slice, ↓o1_len, ↓o1_max, ↓o1_min, ↓o1_load, ↓o1_lookup, ↓o1_store, ↓o1_mapUpdate, ↓o1_append, ↓o1_delete, ↓o1_call, q1, g1, encR]
          refine loopP_inv (fun k : Nat => k ≤ x.length ∧ ∀ j, j < k → okT cols x j = true) (fun k => StL [(1, .ptr 1 0), (5, .d (.i .i64 (lastT x k))), (20, .d (.sl (L.map fun r => [encR r]))), (21, .d (.i .i64 L.length)), (22, .d (.i .i64 i)), (26, .d (encR x)), (27, .d (.i .i64 x.length)), (28, .d (.i .i64 k))] none [.cells 44 [.d (.i .i64 L.length), .d (.i .i64 cols), .d (.sl (L.map fun r => [encR r]))]]) (fun k => x.length - k) 0 ⟨Nat.zero_le _, fun j h => by omega⟩ ?_ ?_
          · refine wk_l [1] (by simp) ?_ ?_
            · simp [-List.map_map, upd, inj1, Γ0, encR, lastT]
            · simp [-List.map_map, upd, inj1, Γ0, encR]
          · rintro k ⟨hk, hkk⟩
            by_cases hgk : k < x.length
            · have q2 : (k : Int) < x.length := by omega
              have hw8 : IntKind.i64.wrap ((k : Int) + 1) = (k : Int) + 1 := wrap_i64 (by omega) (by omega)
              have g2 := getT hgk
              have hsx : x[k]!.mag.length ≤ 9223372036854775807 := hb1 _ (List.mem_of_getElem? g2)
              have hoka := okT_last h2 hkk
              have hfalse := fun h => hf (rowR_false (cols := cols) hgk h)
              have hnext : okT cols x k = true → ∀ j, j < k + 1 → okT cols x j = true := fun h j hj => by
                rcases Nat.lt_or_ge j k with h2 | h2
                · exact hkk j h2
                · have : j = k := by omega
                  subst this; exact h
              have hlast : lastT x (k + 1) = x[k]!.col := by simp [lastT]
              generalize lastT x k = la at *
              generalize x[k]! = y at *
              obtain ⟨xc, xn, xm⟩ := y
              simp only at hsx hoka hlast
              have hv : Spec Try.prog 72 [encI xn xm] (.b (vI xn xm)) := bigValid xn xm hsx
              have hsg := bigSign xn xm hsx
              by_cases hb3 : xc ≤ la
              · have e1 := hfalse (by rw [hoka, decide_eq_true hb3]; simp)
                simp (config := { maxSteps := 1000000 }) [-List.map_map, -List.mapM_map, ↓awp_skip, ↓awp_regionB, ↓awp_seq, ↓awp_block, ↓awp_exit, ↓awp_ret, ↓awp_label, ↓awp_scope, ↓awp_condB, ↓awp_loopB, ↓ow_nil', ↓ow_cons0, ↓ow_cons1, ↓o1_move, ↓o1_assign, ↓o1_pick, ↓o1_alloc, ↓o1_box, ↓o1_build, ↓o1_buildSlice, ↓o1_makeSlice, ↓o1_makeMap, ↓o1_binOp, ↓o1_unOp, ↓o1_convert, ↓o1_fieldAddr, ↓o1_field, ↓o1_indexAddr, ↓o1_extract, ↓o1_slice, ↓o1_len, ↓o1_max, ↓o1_min, ↓o1_load, ↓o1_lookup, ↓o1_store, ↓o1_mapUpdate, ↓o1_append, ↓o1_delete, ↓o1_call, encR, q2, g2, encT_eq, encI, one_eM, cellsA_eM, hb3, e1]
              · by_cases hb4 : cols ≤ xc
                · have e1 := hfalse (by rw [hoka, decide_eq_true hb4]; simp)
                  simp (config := { maxSteps := 1000000 }) [-List.map_map, -List.mapM_map, ↓awp_skip, ↓awp_regionB, ↓awp_seq, ↓awp_block, ↓awp_exit, ↓awp_ret, ↓awp_label, ↓awp_scope, ↓awp_condB, ↓awp_loopB, ↓ow_nil', ↓ow_cons0, ↓ow_cons1, ↓o1_move, ↓o1_assign, ↓o1_pick, ↓o1_alloc, ↓o1_box, ↓o1_build, ↓o1_buildSlice, ↓o1_makeSlice, ↓o1_makeMap, ↓o1_binOp, ↓o1_unOp, ↓o1_convert, ↓o1_fieldAddr, ↓o1_field, ↓o1_indexAddr, ↓o1_extract, ↓o1_slice, ↓o1_len, ↓o1_max, ↓o1_min, ↓o1_load, ↓o1_lookup, ↓o1_store, ↓o1_mapUpdate, ↓o1_append, ↓o1_delete, ↓o1_call, encR, q2, g2, encT_eq, encI, one_eM, cellsA_eM, hb3, hb4, e1]
                · simp (config := { maxSteps := 1000000 }) [-List.map_map, -List.mapM_map, ↓awp_skip, ↓awp_regionB, ↓awp_seq, ↓awp_block, ↓awp_exit, ↓awp_ret, ↓awp_label, ↓awp_scope, ↓awp_condB, ↓awp_loopB, ↓ow_nil', ↓ow_cons0, ↓ow_cons1, ↓o1_move, ↓o1_assign, ↓o1_pick, ↓o1_alloc, ↓o1_box, ↓o1_build, ↓o1_buildSlice, ↓o1_makeSlice, ↓o1_makeMap, ↓o1_binOp, ↓o1_unOp, ↓o1_convert, ↓o1_fieldAddr, ↓o1_field, ↓o1_indexAddr, ↓o1_extract, ↓o1_slice, ↓o1_len, ↓o1_max, ↓o1_min, ↓o1_load, ↓o1_lookup, ↓o1_store, ↓o1_mapUpdate, ↓o1_append, ↓o1_delete, ↓o1_call, encR, q2, g2, encT_eq, encI, one_eM, cellsA_eM, hb3, hb4]
                  refine callP_intro (ds := [encI xn xm]) (by rfl) hv ?_
                  cases hb5 : vI xn xm with
                  | false =>
                    have e1 := hfalse (by rw [hoka, hb5]; rfl)
                    simp (config := { maxSteps := 1000000 }) [-List.map_map, -List.mapM_map, ↓awp_skip, ↓awp_regionB, ↓awp_seq, ↓awp_block, ↓awp_exit, ↓awp_ret, ↓awp_label, ↓awp_scope, ↓awp_condB, ↓awp_loopB, ↓ow_nil', ↓ow_cons0, ↓ow_cons1, ↓o1_move, ↓o1_assign, ↓o1_pick, ↓o1_alloc, ↓o1_box, ↓o1_build, ↓o1_buildSlice, ↓o1_makeSlice, ↓o1_makeMap, ↓o1_binOp, ↓o1_unOp, ↓o1_convert, ↓o1_fieldAddr, ↓o1_field, ↓o1_indexAddr, ↓o1_extract, ↓o1_slice, ↓o1_len, ↓o1_max, ↓o1_min, ↓o1_load, ↓o1_lookup, ↓o1_store, ↓o1_mapUpdate, ↓o1_append, ↓o1_delete, ↓o1_call, encI, one_eM, cellsA_eM, e1]
                  | true =>
                    have hst := strip_vI hb5
                    simp (config := { maxSteps := 1000000 }) [-List.map_map, -List.mapM_map, ↓awp_skip, ↓awp_regionB, ↓awp_seq, ↓awp_block, ↓awp_exit, ↓awp_ret, ↓awp_label, ↓awp_scope, ↓awp_condB, ↓awp_loopB, ↓ow_nil', ↓ow_cons0, ↓ow_cons1, ↓o1_move, ↓o1_assign, ↓o1_pick, ↓o1_alloc, ↓o1_box, ↓o1_build, ↓o1_buildSlice, ↓o1_makeSlice, ↓o1_makeMap, ↓o1_binOp, ↓o1_unOp, ↓o1_convert, ↓o1_fieldAddr, ↓o1_field, ↓o1_indexAddr, ↓o1_extract, ↓o1_slice, ↓o1_len, ↓o1_max, ↓o1_min, ↓o1_load, ↓o1_lookup, ↓o1_store, ↓o1_mapUpdate, ↓o1_append, ↓o1_delete, ↓o1_call, encI, one_eM, cellsA_eM]
                    refine callP_intro (ds := [encI xn xm]) (by rfl) hsg ?_
                    by_cases hb6 : xm = []
                    · have e1 := hfalse (by rw [hoka, decide_eq_true hb6]; simp)
                      rw [if_pos (hst.2 hb6)]
                      simp (config := { maxSteps := 1000000 }) [-List.map_map, -List.mapM_map, ↓awp_skip, ↓awp_regionB, ↓awp_seq, ↓awp_block, ↓awp_exit, ↓awp_ret, ↓awp_label, ↓awp_scope, ↓awp_condB, ↓awp_loopB, ↓ow_nil', ↓ow_cons0, ↓ow_cons1, ↓o1_move, ↓o1_assign, ↓o1_pick, ↓o1_alloc, ↓o1_box, ↓o1_build, ↓o1_buildSlice, ↓o1_makeSlice, ↓o1_makeMap, ↓o1_binOp, ↓o1_unOp, ↓o1_convert, ↓o1_fieldAddr, ↓o1_field, ↓o1_indexAddr, ↓o1_extract, ↓o1_slice, ↓o1_len, ↓o1_max, ↓o1_min, ↓o1_load, ↓o1_lookup, ↓o1_store, ↓o1_mapUpdate, ↓o1_append, ↓o1_delete, ↓o1_call, e1]
                    · have e1 := hnext (by rw [hoka, hb5, decide_eq_false hb6, decide_eq_false hb3, decide_eq_false hb4]; rfl)
                      have hne : ((if strip xm = [] then (0 : Int) else if xn = true then -1 else 1) == 0) = false := by rw [if_neg (fun h => hb6 (hst.1 h))]; cases xn <;> rfl
                      generalize (if strip xm = [] then (0 : Int) else if xn = true then -1 else 1) = sgn at hne ⊢
                      simp (config := { maxSteps := 1000000 }) [-List.map_map, -List.mapM_map, ↓awp_skip, ↓awp_regionB, ↓awp_seq, ↓awp_block, ↓awp_exit, ↓awp_ret, ↓awp_label, ↓awp_scope, ↓awp_condB, ↓awp_loopB, ↓ow_nil', ↓ow_cons0, ↓ow_cons1, ↓o1_move, ↓o1_assign, ↓o1_pick, ↓o1_alloc, ↓o1_box, ↓o1_build, ↓o1_buildSlice, ↓o1_makeSlice, ↓o1_makeMap, ↓o1_binOp, ↓o1_unOp, ↓o1_convert, ↓o1_fieldAddr, ↓o1_field, ↓o1_indexAddr, ↓o1_extract, ↓o1_slice, ↓o1_len, ↓o1_max, ↓o1_min, ↓o1_load, ↓o1_lookup, ↓o1_store, ↓o1_mapUpdate, ↓o1_append, ↓o1_delete, ↓o1_call, hne, hw8, encI, one_eM, cellsA_eM]
                      refine nxt_intro (k + 1) ⟨hgk, e1⟩ (Nat.sub_lt_sub_left hgk (Nat.lt_succ_self _)) (wk_l [1] (by simp) ?_ ?_) <;> simp [-List.map_map, upd, inj1, Γ0, encR, hlast]
            · have q2 : ¬ (k : Int) < x.length := by omega
              have hr : rowR cols x = true := rowR_true fun j hj => hkk j (by omega)
              simp (config := { maxSteps := 1000000 }) [-List.map_map, -List.mapM_map, ↓awp_skip, ↓awp_regionB, ↓awp_seq, ↓awp_block, ↓awp_exit, ↓awp_ret, ↓awp_label, ↓awp_scope, ↓awp_condB, ↓awp_loopB, ↓ow_nil', ↓ow_cons0, ↓ow_cons1, ↓o1_move, ↓o1_assign, ↓o1_pick, ↓o1_alloc, ↓o1_box, ↓o1_build, ↓o1_buildSlice, ↓o1_makeSlice, ↓o1_makeMap, ↓o1_binOp, ↓o1_unOp, ↓o1_convert, ↓o1_fieldAddr, ↓o1_field, ↓o1_indexAddr, ↓o1_extract, ↓o1_slice, ↓o1_len, ↓o1_max, ↓o1_min, ↓o1_load, ↓o1_lookup, ↓o1_store, ↓o1_mapUpdate, ↓o1_append, ↓o1_delete, ↓o1_call, q2, hw7]
              refine nxt_intro (i + 1) ⟨hgo, hn hr⟩ (Nat.sub_lt_sub_left hgo (Nat.lt_succ_self _)) (wk_l [1] (by simp) ?_ ?_) <;> simp [-List.map_map, upd, inj1, Γ0, encS, encR]
        · have q1 : ¬ (i : Int) < L.length := by omega
          have e : matR L.length cols L = true := matR_true rfl h2 fun j hj => hok j (by omega)
          simp (config := { maxSteps := 1000000 }) [-List.map_map, -List.mapM_map, ↓awp_skip, ↓awp_regionB, ↓awp_seq, ↓awp_block, ↓awp_exit, ↓awp_ret, ↓awp_label, ↓awp_scope, ↓awp_condB, ↓awp_loopB, ↓ow_nil', ↓ow_cons0, ↓ow_cons1, ↓o1_move, ↓o1_assign, ↓o1_pick, ↓o1_alloc, ↓o1_box, ↓o1_build, ↓o1_buildSlice, ↓o1_makeSlice, ↓o1_makeMap, ↓o1_binOp, ↓o1_unOp, ↓o1_convert, ↓o1_fieldAddr, ↓o1_field, ↓o1_indexAddr, ↓o1_extract, ↓o1_slice, ↓o1_len, ↓o1_max, ↓o1_min, ↓o1_load, ↓o1_lookup, ↓o1_store, ↓o1_mapUpdate, ↓o1_append, ↓o1_delete, ↓o1_call, q1, e]
  · have e : matR rows cols L = false := by unfold matR; simp [h1]
    have h1' : (rows == (L.length : Int)) = false := by simpa using h1
    have h1'' : (rows != (L.length : Int)) = true := by simpa using h1
    simp (config := { maxSteps := 1000000 }) [-List.map_map, -List.mapM_map, ↓awp_skip, ↓awp_regionB, ↓awp_seq, ↓awp_block, ↓awp_exit, ↓awp_ret, ↓awp_label, ↓awp_scope, ↓awp_condB, ↓awp_loopB, ↓ow_nil', ↓ow_cons0, ↓ow_cons1, ↓o1_move, ↓o1_assign, ↓o1_pick, ↓o1_alloc, ↓o1_box, ↓o1_build, ↓o1_buildSlice, ↓o1_makeSlice, ↓o1_makeMap, ↓o1_binOp, ↓o1_unOp, ↓o1_convert, ↓o1_fieldAddr, ↓o1_field, ↓o1_indexAddr, ↓o1_extract, ↓o1_slice, ↓o1_len, ↓o1_max, ↓o1_min, ↓o1_load, ↓o1_lookup, ↓o1_store, ↓o1_mapUpdate, ↓o1_append, ↓o1_delete, ↓o1_call, encS, h1, h1', h1'', e]

end Go.Am
