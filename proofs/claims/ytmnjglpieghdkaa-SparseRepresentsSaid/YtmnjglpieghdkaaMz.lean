/- SparseRepresents: for every input the law answers true, and its argument reads as it did. No condition. -/
import Derived.Test.YtmnjglpieghdkaaSs
import Derived.ProofKit
import Derived.OpenShut
import Derived.Test.YtmnjglpieghdkaaMw
import Derived.Test.YtmnjglpieghdkaaMn
import Derived.Test.YtmnjglpieghdkaaRows
open Go Go.Am Go.Proofs
namespace Go.Am
set_option linter.unusedSimpArgs false
open Go.ChangeShapes Go.WideShapes Go.ChangeAt Go.RowKit

theorem cell_ltO {w : World} {a : Addr} {v : Value} (h : w.cell? a = some v) : a.block < w.heap.size := by
  unfold World.cell? at h
  cases hb : w.heap[a.block]? with
  | none => rw [hb] at h; cases h
  | some o => exact (Array.getElem?_eq_some_iff.1 hb).1
theorem listOf {α : Type} {Q : Nat → α → Prop} : ∀ {n : Nat}, (∀ i, i < n → ∃ y, Q i y) → ∃ l : List α, l.length = n ∧ ∀ (i : Nat) (y : α), l[i]? = some y → Q i y
  | 0, _ => ⟨[], rfl, fun i y h => by simp at h⟩
  | n + 1, h => by
    obtain ⟨l, hl, hq⟩ := listOf (n := n) fun i hi => h i (Nat.lt_succ_of_lt hi)
    obtain ⟨y, hy⟩ := h n (Nat.lt_succ_self n)
    refine ⟨l ++ [y], by simp [hl], fun i z hz => ?_⟩
    rcases Nat.lt_or_ge i l.length with h1 | h1
    · rw [List.getElem?_append_left h1] at hz; exact hq i z hz
    · rw [List.getElem?_append_right h1] at hz
      have h2 : i - l.length = 0 := by
        rcases Nat.eq_zero_or_pos (i - l.length) with h3 | h3
        · exact h3
        · rw [List.getElem?_eq_none (by simp; omega)] at hz; cases hz
      rw [h2] at hz
      simp at hz
      subst hz
      rwa [show i = n by omega]
theorem cells_get {w : World} {n : Nat} {a : Addr} {cs : List Value} (h : w.cells? 0 a n = some cs) : ∀ k, k < n → w.cell? (a.add k) = cs[k]? := by
  intro k hk
  unfold World.cells? at h
  rw [if_pos (Nat.zero_le _)] at h
  have := mapM_some_get h k k (by simp [hk])
  exact this

theorem openSlice {α : Type} {P : Program} {H : Type} {enc : TypeId × Value → H} {w : World} {sp : Nat → Bool} {held : Bool} {t e : TypeId} {cs : List Value} {x : DataW H × List MemPlace} {fuel : Nat} (ht : P.underlying t = some (.slice e)) (hc : 0 < P.cellsOf e) (E : α → List D) (good : α → Prop)
    (hE : ∀ (fuel : Nat) (cs : List Value) (x : DataW H × List MemPlace), DataW.trod enc P w 0 sp held fuel e cs = some x → ∃ y : α, good y ∧ (E y).length = P.cellsOf e ∧ ∀ (k : Nat) (c : D) (v : Value), (E y)[k]? = some c → cs[k]? = some v → VD (fun b => b < w.heap.size) w c v)
    (hf : DataW.trod enc P w 0 sp held fuel t cs = some x) : ∃ (v : Value) (l : List α), cs = [v] ∧ VD (fun b => b < w.heap.size) w (.sl (l.map E)) v ∧ (∀ y ∈ l, good y) ∧ l.length ≤ 9223372036854775807 := by
  rcases DataW.trod_slice ht hf with ⟨hcs, _⟩ | ⟨a, len, cap, elems, rest, n, _, hcs, _, _, hlc, hcm, hel, hEl, _⟩
  · exact ⟨_, [], hcs, .sl0 _ _, (fun p hp => by cases hp), Nat.zero_le _⟩
  · have each : ∀ i, i < len → ∃ y : α, good y ∧ (E y).length = P.cellsOf e ∧ ∀ (k : Nat), k < P.cellsOf e → ∃ v, w.cell? (a.add (i * P.cellsOf e + k)) = some v ∧ ∀ c : D, (E y)[k]? = some c → VD (fun b => b < w.heap.size) w c v := by
      intro i hi
      have h1 := hEl i hi
      rw [List.getElem?_eq_getElem (by omega)] at h1
      obtain ⟨vs, h2, h3⟩ := Option.bind_eq_some_iff.1 h1
      obtain ⟨y, g, hy, hv⟩ := hE _ _ _ h3
      refine ⟨y, g, hy, fun k hk => ?_⟩
      have h4 := cells_get h2 k hk
      rw [add_add] at h4
      have h5 : k < vs.length := by
        unfold World.cells? at h2
        rw [if_pos (Nat.zero_le _)] at h2
        have := mapM_some_length h2
        simp at this; omega
      rw [List.getElem?_eq_getElem h5] at h4
      exact ⟨_, h4, fun c hc => hv k c _ hc (List.getElem?_eq_getElem h5)⟩
    obtain ⟨l, hl, hq⟩ := listOf each
    have hgood : ∀ y ∈ l, good y := fun y hy => by
      obtain ⟨i, hi, rfl⟩ := List.mem_iff_getElem.1 hy
      exact (hq i _ (List.getElem?_eq_getElem hi)).1
    refine ⟨_, l, hcs, ?_, hgood, by rw [hl]; exact Nat.le_trans hlc hcm⟩
    rcases Nat.eq_zero_or_pos len with h0 | hpos
    · have : l = [] := List.eq_nil_of_length_eq_zero (by omega)
      subst this; subst h0; exact .sl0 _ _
    · have hab : a.block < w.heap.size := by
        obtain ⟨y, _, _, hy⟩ := each 0 hpos
        obtain ⟨v, hv, _⟩ := hy 0 hc
        have := cell_ltO hv
        rwa [block_add] at this
      refine .sl _ a len cap (P.cellsOf e) (fun j => (w.cell? (a.add j)).getD undef) (by simp [hl]) hlc (fun cs hcs => ?_) hab (fun j hj => ?_) (fun j k cs c hj hk => ?_)
      · obtain ⟨y, hy, rfl⟩ := List.mem_map.1 hcs
        obtain ⟨i, hi, rfl⟩ := List.mem_iff_getElem.1 hy
        exact (hq i _ (List.getElem?_eq_getElem hi)).2.1
      · have hd : j / P.cellsOf e < len := Nat.div_lt_of_lt_mul (by rwa [Nat.mul_comm] at hj)
        obtain ⟨y, _, _, hy⟩ := each _ hd
        obtain ⟨v, hv, _⟩ := hy (j % P.cellsOf e) (Nat.mod_lt _ hc)
        rw [Nat.mul_comm, Nat.div_add_mod] at hv
        simp [hv]
      · rw [List.getElem?_map, Option.map_eq_some_iff] at hj
        obtain ⟨y, hy, rfl⟩ := hj
        obtain ⟨_, h6, h7⟩ := hq j y hy
        obtain ⟨v, hv, hvc⟩ := h7 k (by rw [← h6]; exact (List.getElem?_eq_some_iff.1 hk).1)
        simp only [hv, Option.getD_some]
        exact hvc c hk

/-- Limbs that came in. -/
theorem openLimbs {P : Program} {H : Type} {enc : TypeId × Value → H} {w : World} {sp : Nat → Bool} {held : Bool} {t e : TypeId} {cs : List Value} {x : DataW H × List MemPlace} {fuel : Nat} (ht : P.underlying t = some (.slice e)) (he : P.underlying e = some (.int .u32)) (ce : P.cellsOf e = 1)
    (hf : DataW.trod enc P w 0 sp held fuel t cs = some x) : ∃ (v : Value) (m : List Nat), cs = [v] ∧ VD (fun b => b < w.heap.size) w (encM m) v ∧ m.length ≤ 9223372036854775807 := by
  obtain ⟨v, m, h1, h2, _, h4⟩ := openSlice ht (by omega) (fun n : Nat => [D.i .u32 (n : Int)]) (fun _ => True) (fun fuel cs x h => by
    obtain ⟨a, q1, _, w1⟩ := DataW.trod_int he h
    subst q1
    have hmin : IntKind.u32.min = 0 := rfl
    simp only [Lit.wf, Bool.and_eq_true, decide_eq_true_eq] at w1
    refine ⟨a.toNat, trivial, by simp [ce], fun k c v hk hv => ?_⟩
    rcases k with _ | k
    · simp at hk hv
      subst hk; subst hv
      rw [show max a 0 = a by omega]
      exact .i _ _
    · simp at hk) hf
  exact ⟨v, m, h1, h2, h4⟩

end Go.Am

open Go Go.Am Go.Proofs
namespace Go.Am
set_option linter.unusedSimpArgs false

theorem dense_rw0 {c : Nat} {v : List Int} (h : v.length = c) : dense c (rw0 0 v) = v := by
  refine List.ext_getElem (by simp [dense, h]) fun n h1 h2 => ?_
  simp only [dense, List.getElem_map, List.getElem_range]
  rw [cz_rw00, if_pos (by omega), Int.toNat_natCast, List.getD_eq_getElem?_getD, List.getElem?_eq_getElem h2]; rfl
theorem szMat_vok (l : List Int) {cc rr : Nat} (hc : cc ≤ 1000) (hr : rr ≤ 1000) : VOk cc (szMat l cc rr) := by
  have hm : ∀ v ∈ szMat l cc rr, ∃ i, v = szRow l cc i cc := fun v hv => by
    obtain ⟨i, _, rfl⟩ := List.mem_map.1 hv
    exact ⟨i, rfl⟩
  refine ⟨fun v hv => ?_, fun v hv x hx => ?_, by rw [szMat_len]; omega, by omega⟩
  · obtain ⟨i, rfl⟩ := hm v hv; exact szRow_len ..
  · obtain ⟨i, rfl⟩ := hm v hv
    obtain ⟨j, _, e⟩ := List.mem_map.1 hx
    have := vz1_bnd l (i * cc + j)
    exact sz_small (by rw [← e]; omega)

set_option maxHeartbeats 16000000 in
set_option maxRecDepth 10000 in
theorem lawRepresents (r c : Nat) (l : List Int) (hr : r ≤ 255) (hc : c ≤ 255) (hl8 : ∀ x ∈ l, -128 ≤ x ∧ x ≤ 127) :
    Spec Try.prog 9 [encRaw r c l] (.b true) := by
  refine spec_of (N := 88) follows_mixed Try.func9 rfl rfl rfl (by kernel_rfl) (by kernel_rfl) (by simp) ?_
  have hr5 : r % 6 ≤ 5 := by have := Nat.mod_lt r (show 0 < 6 by decide); omega
  have hc5 : c % 6 ≤ 5 := by have := Nat.mod_lt c (show 0 < 6 by decide); omega
  have sA : Spec Try.prog 34 [encRaw r c l, .i .i64 5] (encMat (r % 6 : Nat) (c % 6 : Nat) (szMat l (c % 6) (r % 6))) := r06Made r c l 5 hl8 (by decide) hr hc
  generalize r % 6 = rr at *
  generalize c % 6 = cc at *
  have hvo := szMat_vok l (cc := cc) (rr := rr) (by omega) (by omega)
  have hml := szMat_len l cc rr
  have hM := szMat_ok l (cc := cc) (rr := rr) (by omega) (by omega)
  have hSl : ((szMat l cc rr).map (rw0 0)).length = rr := by rw [List.length_map, hml]
  have sF := spFrom hvo
  rw [hml] at sF
  have sV := r06ValidZ hM
  rw [hSl] at sV
  have sT := spTo hM (by rw [hSl]; omega) (by omega)
  rw [hSl] at sT
  have hback : ((szMat l cc rr).map (rw0 0)).map (dense cc) = szMat l cc rr := by
    rw [List.map_map]
    conv => rhs; rw [← List.map_id (szMat l cc rr)]
    exact List.map_congr_left fun v hv => dense_rw0 (hvo.len v hv)
  rw [hback] at sT
  have hrow : ∀ k, k < rr → ∃ v : List Int, (szMat l cc rr)[k]? = some v ∧ ((szMat l cc rr).map (rw0 0))[k]? = some (rw0 0 v) ∧ Spec Try.prog 47 [encV2 v, encV2 v] (.b true) ∧
      Spec Try.prog 25 [encV2 v] (encC (rw0 0 v)) ∧ Spec Try.prog 29 [encC (rw0 0 v), encC (rw0 0 v)] (.b true) := fun k hk => by
    have hk2 : k < (szMat l cc rr).length := by omega
    have hg : (szMat l cc rr)[k]? = some (szMat l cc rr)[k] := List.getElem?_eq_getElem hk2
    have hm := List.getElem_mem hk2
    have hvl := hvo.len _ hm
    have q1 := r06SameVec (hvo.sz _ hm) (hvo.sz _ hm) (by rw [hvl]; omega)
    rw [decide_eq_true rfl] at q1
    have q2 := r06RowV (szMat l cc rr)[k] (by rw [hvl]; omega)
    have ho := hM.ok (rw0 0 (szMat l cc rr)[k]) (List.mem_map_of_mem hm)
    have q3 := r06SameRow ho.1 ho.1 ho.2 ho.2
    rw [decide_eq_true rfl] at q3
    exact ⟨_, hg, by rw [List.getElem?_map, hg]; rfl, q1, q2, q3⟩
  clear hback hvo hM
  generalize (szMat l cc rr).map (rw0 0) = S at *
  generalize szMat l cc rr = A0 at *
  have hne1 : (((rr : Nat) : Int) != ((rr : Nat) : Int)) = false := by simp
  have hne2 : (((cc : Nat) : Int) != ((cc : Nat) : Int)) = false := by simp
  simp (config := { maxSteps := 1000000 }) [-List.map_map, -List.mapM_map, ↓awp_skip, ↓awp_regionB, ↓awp_seq, ↓awp_block, ↓awp_exit, ↓awp_ret, ↓awp_label, ↓awp_scope, ↓awp_condB, ↓awp_loopB, ↓ow_nil', ↓ow_cons0, ↓ow_cons1, ↓o1_move, ↓o1_assign, ↓o1_pick, ↓o1_alloc, ↓o1_box, ↓o1_build, ↓o1_buildSlice, ↓o1_makeSlice, ↓o1_makeMap, ↓o1_binOp, ↓o1_unOp, ↓o1_convert, ↓o1_fieldAddr, ↓o1_field, ↓o1_indexAddr, ↓o1_extract, ↓o1_slice, ↓o1_len, ↓o1_max, ↓o1_min, ↓o1_load, ↓o1_lookup, ↓o1_store, ↓o1_mapUpdate, ↓o1_append, ↓o1_delete, ↓o1_call, encRaw, encB]
  refine callP_intro (ds := []) (by rfl) sanity06 ?_
  simp (config := { maxSteps := 1000000 }) [-List.map_map, -List.mapM_map, ↓awp_skip, ↓awp_regionB, ↓awp_seq, ↓awp_block, ↓awp_exit, ↓awp_ret, ↓awp_label, ↓awp_scope, ↓awp_condB, ↓awp_loopB, ↓ow_nil', ↓ow_cons0, ↓ow_cons1, ↓o1_move, ↓o1_assign, ↓o1_pick, ↓o1_alloc, ↓o1_box, ↓o1_build, ↓o1_buildSlice, ↓o1_makeSlice, ↓o1_makeMap, ↓o1_binOp, ↓o1_unOp, ↓o1_convert, ↓o1_fieldAddr, ↓o1_field, ↓o1_indexAddr, ↓o1_extract, ↓o1_slice, ↓o1_len, ↓o1_max, ↓o1_min, ↓o1_load, ↓o1_lookup, ↓o1_store, ↓o1_mapUpdate, ↓o1_append, ↓o1_delete, ↓o1_call, encRaw, encB]
  refine callP_intro (ds := [encRaw r c l, .i .i64 5]) (by rfl) sA ?_
  simp (config := { maxSteps := 1000000 }) [-List.map_map, -List.mapM_map, ↓awp_skip, ↓awp_regionB, ↓awp_seq, ↓awp_block, ↓awp_exit, ↓awp_ret, ↓awp_label, ↓awp_scope, ↓awp_condB, ↓awp_loopB, ↓ow_nil', ↓ow_cons0, ↓ow_cons1, ↓o1_move, ↓o1_assign, ↓o1_pick, ↓o1_alloc, ↓o1_box, ↓o1_build, ↓o1_buildSlice, ↓o1_makeSlice, ↓o1_makeMap, ↓o1_binOp, ↓o1_unOp, ↓o1_convert, ↓o1_fieldAddr, ↓o1_field, ↓o1_indexAddr, ↓o1_extract, ↓o1_slice, ↓o1_len, ↓o1_max, ↓o1_min, ↓o1_load, ↓o1_lookup, ↓o1_store, ↓o1_mapUpdate, ↓o1_append, ↓o1_delete, ↓o1_call, encMat]
  refine callP_intro (ds := [encMat rr cc A0]) (by rfl) sF ?_
  simp (config := { maxSteps := 1000000 }) [-List.map_map, -List.mapM_map, ↓awp_skip, ↓awp_regionB, ↓awp_seq, ↓awp_block, ↓awp_exit, ↓awp_ret, ↓awp_label, ↓awp_scope, ↓awp_condB, ↓awp_loopB, ↓ow_nil', ↓ow_cons0, ↓ow_cons1, ↓o1_move, ↓o1_assign, ↓o1_pick, ↓o1_alloc, ↓o1_box, ↓o1_build, ↓o1_buildSlice, ↓o1_makeSlice, ↓o1_makeMap, ↓o1_binOp, ↓o1_unOp, ↓o1_convert, ↓o1_fieldAddr, ↓o1_field, ↓o1_indexAddr, ↓o1_extract, ↓o1_slice, ↓o1_len, ↓o1_max, ↓o1_min, ↓o1_load, ↓o1_lookup, ↓o1_store, ↓o1_mapUpdate, ↓o1_append, ↓o1_delete, ↓o1_call, encSp]
  refine callP_intro (ds := [encSp rr cc S]) (by rfl) sV ?_
  simp (config := { maxSteps := 1000000 }) [-List.map_map, -List.mapM_map, ↓awp_skip, ↓awp_regionB, ↓awp_seq, ↓awp_block, ↓awp_exit, ↓awp_ret, ↓awp_label, ↓awp_scope, ↓awp_condB, ↓awp_loopB, ↓ow_nil', ↓ow_cons0, ↓ow_cons1, ↓o1_move, ↓o1_assign, ↓o1_pick, ↓o1_alloc, ↓o1_box, ↓o1_build, ↓o1_buildSlice, ↓o1_makeSlice, ↓o1_makeMap, ↓o1_binOp, ↓o1_unOp, ↓o1_convert, ↓o1_fieldAddr, ↓o1_field, ↓o1_indexAddr, ↓o1_extract, ↓o1_slice, ↓o1_len, ↓o1_max, ↓o1_min, ↓o1_load, ↓o1_lookup, ↓o1_store, ↓o1_mapUpdate, ↓o1_append, ↓o1_delete, ↓o1_call, encSp, hne1, hne2]
  refine callP_intro (ds := [encSp rr cc S]) (by rfl) sT ?_
  simp (config := { maxSteps := 1000000 }) [-List.map_map, -List.mapM_map, ↓awp_skip, ↓awp_regionB, ↓awp_seq, ↓awp_block, ↓awp_exit, ↓awp_ret, ↓awp_label, ↓awp_scope, ↓awp_condB, ↓awp_loopB, ↓ow_nil', ↓ow_cons0, ↓ow_cons1, ↓o1_move, ↓o1_assign, ↓o1_pick, ↓o1_alloc, ↓o1_box, ↓o1_build, ↓o1_buildSlice, ↓o1_makeSlice, ↓o1_makeMap, ↓o1_binOp, ↓o1_unOp, ↓o1_convert, ↓o1_fieldAddr, ↓o1_field, ↓o1_indexAddr, ↓o1_extract, ↓o1_slice, ↓o1_len, ↓o1_max, ↓o1_min, ↓o1_load, ↓o1_lookup, ↓o1_store, ↓o1_mapUpdate, ↓o1_append, ↓o1_delete, ↓o1_call, encMat, hne1, hne2, hml]
  refine loopP_inv (fun k : Nat => k ≤ rr) (fun k => StL [(3, .d (.b true)), (4, .ptr 1 0), (5, .ptr 2 0), (7, .ptr 3 0), (8, .d (.i .i64 (k : Int)))] none
      [.cells 62 [.d (.i .i64 (rr : Int)), .d (.i .i64 (cc : Int)), .d (.sl (A0.map fun v => [encV2 v]))], .cells 44 [.d (.i .i64 (rr : Int)), .d (.i .i64 (cc : Int)), .d (.sl (S.map fun r => [encC r]))], .cells 62 [.d (.i .i64 (rr : Int)), .d (.i .i64 (cc : Int)), .d (.sl (A0.map fun v => [encV2 v]))]]) (fun k => rr - k) 0 (Nat.zero_le _) ?_ ?_
  · refine wk_l [2, 3, 4] (by simp) ?_ ?_ <;> simp [-List.map_map, upd, inj1, Γ0, ]
  · intro k hk
    by_cases hgk : k < rr
    · have q1 : (k : Int) < rr := by omega
      have hw : IntKind.i64.wrap ((k : Int) + 1) = (k : Int) + 1 := wrap_i64 (by omega) (by omega)
      obtain ⟨v, hx, hy, p1, p2, p3⟩ := hrow k hgk
      generalize rw0 0 v = out at *
      simp (config := { maxSteps := 1000000 }) [-List.map_map, -List.mapM_map, ↓awp_skip, ↓awp_regionB, ↓awp_seq, ↓awp_block, ↓awp_exit, ↓awp_ret, ↓awp_label, ↓awp_scope, ↓awp_condB, ↓awp_loopB, ↓ow_nil', ↓ow_cons0, ↓ow_cons1, ↓o1_move, ↓o1_assign, ↓o1_pick, ↓o1_alloc, ↓o1_box, ↓o1_build, ↓o1_buildSlice, ↓o1_makeSlice, ↓o1_makeMap, ↓o1_binOp, ↓o1_unOp, ↓o1_convert, ↓o1_fieldAddr, ↓o1_field, ↓o1_indexAddr, ↓o1_extract, ↓o1_slice, ↓o1_len, ↓o1_max, ↓o1_min, ↓o1_load, ↓o1_lookup, ↓o1_store, ↓o1_mapUpdate, ↓o1_append, ↓o1_delete, ↓o1_call, q1, hx]
      refine callP_intro (ds := [encV2 v, encV2 v]) (by rfl) p1 ?_
      simp (config := { maxSteps := 1000000 }) [-List.map_map, -List.mapM_map, ↓awp_skip, ↓awp_regionB, ↓awp_seq, ↓awp_block, ↓awp_exit, ↓awp_ret, ↓awp_label, ↓awp_scope, ↓awp_condB, ↓awp_loopB, ↓ow_nil', ↓ow_cons0, ↓ow_cons1, ↓o1_move, ↓o1_assign, ↓o1_pick, ↓o1_alloc, ↓o1_box, ↓o1_build, ↓o1_buildSlice, ↓o1_makeSlice, ↓o1_makeMap, ↓o1_binOp, ↓o1_unOp, ↓o1_convert, ↓o1_fieldAddr, ↓o1_field, ↓o1_indexAddr, ↓o1_extract, ↓o1_slice, ↓o1_len, ↓o1_max, ↓o1_min, ↓o1_load, ↓o1_lookup, ↓o1_store, ↓o1_mapUpdate, ↓o1_append, ↓o1_delete, ↓o1_call, hx, hy]
      refine callP_intro (ds := [encV2 v]) (by rfl) p2 ?_
      simp (config := { maxSteps := 1000000 }) [-List.map_map, -List.mapM_map, ↓awp_skip, ↓awp_regionB, ↓awp_seq, ↓awp_block, ↓awp_exit, ↓awp_ret, ↓awp_label, ↓awp_scope, ↓awp_condB, ↓awp_loopB, ↓ow_nil', ↓ow_cons0, ↓ow_cons1, ↓o1_move, ↓o1_assign, ↓o1_pick, ↓o1_alloc, ↓o1_box, ↓o1_build, ↓o1_buildSlice, ↓o1_makeSlice, ↓o1_makeMap, ↓o1_binOp, ↓o1_unOp, ↓o1_convert, ↓o1_fieldAddr, ↓o1_field, ↓o1_indexAddr, ↓o1_extract, ↓o1_slice, ↓o1_len, ↓o1_max, ↓o1_min, ↓o1_load, ↓o1_lookup, ↓o1_store, ↓o1_mapUpdate, ↓o1_append, ↓o1_delete, ↓o1_call, inj1_encC, inj_encC, kills_encC, cellsA_encC, one_encC]
      refine callP_intro (ds := [encC out, encC out]) (by rfl) p3 ?_
      simp (config := { maxSteps := 1000000 }) [-List.map_map, -List.mapM_map, ↓awp_skip, ↓awp_regionB, ↓awp_seq, ↓awp_block, ↓awp_exit, ↓awp_ret, ↓awp_label, ↓awp_scope, ↓awp_condB, ↓awp_loopB, ↓ow_nil', ↓ow_cons0, ↓ow_cons1, ↓o1_move, ↓o1_assign, ↓o1_pick, ↓o1_alloc, ↓o1_box, ↓o1_build, ↓o1_buildSlice, ↓o1_makeSlice, ↓o1_makeMap, ↓o1_binOp, ↓o1_unOp, ↓o1_convert, ↓o1_fieldAddr, ↓o1_field, ↓o1_indexAddr, ↓o1_extract, ↓o1_slice, ↓o1_len, ↓o1_max, ↓o1_min, ↓o1_load, ↓o1_lookup, ↓o1_store, ↓o1_mapUpdate, ↓o1_append, ↓o1_delete, ↓o1_call, hw]
      refine nxt_intro (k + 1) hgk (Nat.sub_lt_sub_left hgk (Nat.lt_succ_self _)) (wk_l [1, 2, 3] (by simp) ?_ ?_) <;> simp [-List.map_map, upd, inj1, Γ0, ]
    · have q1 : ¬ (k : Int) < rr := by omega
      simp (config := { maxSteps := 1000000 }) [-List.map_map, -List.mapM_map, ↓awp_skip, ↓awp_regionB, ↓awp_seq, ↓awp_block, ↓awp_exit, ↓awp_ret, ↓awp_label, ↓awp_scope, ↓awp_condB, ↓awp_loopB, ↓ow_nil', ↓ow_cons0, ↓ow_cons1, ↓o1_move, ↓o1_assign, ↓o1_pick, ↓o1_alloc, ↓o1_box, ↓o1_build, ↓o1_buildSlice, ↓o1_makeSlice, ↓o1_makeMap, ↓o1_binOp, ↓o1_unOp, ↓o1_convert, ↓o1_fieldAddr, ↓o1_field, ↓o1_indexAddr, ↓o1_extract, ↓o1_slice, ↓o1_len, ↓o1_max, ↓o1_min, ↓o1_load, ↓o1_lookup, ↓o1_store, ↓o1_mapUpdate, ↓o1_append, ↓o1_delete, ↓o1_call, q1]

end Go.Am

open Go Go.Am Go.Proofs
namespace Go.Am
open Go.ChangeShapes Go.WideShapes Go.ChangeAt Go.RowKit

theorem d58 : Try.prog.cellsOf 58 = 3 := by kernel_rfl
theorem d5 : Try.prog.cellsOf 5 = 1 := by kernel_rfl
theorem d47 : Try.prog.cellsOf 47 = 1 := by kernel_rfl
theorem d36 : Try.prog.cellsOf 36 = 1 := by kernel_rfl
theorem len3r {α : Type} {l : List α} (h : l.length = 3) : ∃ a b c, l = [a, b, c] := by
  match l, h with
  | [a, b, c], _ => exact ⟨a, b, c, rfl⟩
theorem wf_i8 {n : Int} (h : (Lit.int .i8 n).wf = true) : -128 ≤ n ∧ n ≤ 127 := by
  have hmin : IntKind.i8.min = -128 := rfl
  have hmax : IntKind.i8.max = 127 := rfl
  simp only [Lit.wf, Bool.and_eq_true, decide_eq_true_eq] at h
  omega
theorem wf_u8 {n : Int} (h : (Lit.int .u8 n).wf = true) : 0 ≤ n ∧ n ≤ 255 := by
  have hmin : IntKind.u8.min = 0 := rfl
  have hmax : IntKind.u8.max = 255 := rfl
  simp only [Lit.wf, Bool.and_eq_true, decide_eq_true_eq] at h
  omega

section
variable {H : Type} {enc : TypeId × Value → H} {w : World} {sp : Nat → Bool} {held : Bool}
theorem openB {cs : List Value} {x : DataW H × List MemPlace} {fuel : Nat} (hf : DataW.trod enc Try.prog w 0 sp held fuel 47 cs = some x) :
    ∃ (u : Value) (l : List Int), cs = [u] ∧ VD (fun b => b < w.heap.size) w (encB l) u ∧ (∀ x ∈ l, -128 ≤ x ∧ x ≤ 127) ∧ l.length ≤ 9223372036854775807 :=
  openSlice Try.underlying47 (by rw [d36]; decide) (fun n : Int => [D.i .i8 n]) (fun x => -128 ≤ x ∧ x ≤ 127) (fun fuel cs x h => by
    obtain ⟨a, q1, _, w1⟩ := DataW.trod_int Try.underlying36 h
    subst q1
    refine ⟨a, wf_i8 w1, by rw [d36]; rfl, fun k c v hk hv => ?_⟩
    rcases k with _ | k
    · simp at hk hv
      subst hk; subst hv
      exact .i _ _
    · simp at hk) hf

theorem openRaw {v : Value} {d : DataW H} {ps : List MemPlace} {cs : Array Value} (hv : v = .agg cs) (h : DataW.Trod enc Try.prog w 0 sp held 58 v d ps) :
    ∃ (r c : Nat) (l : List Int), VD (fun b => b < w.heap.size) w (encRaw r c l) v ∧ r ≤ 255 ∧ c ≤ 255 ∧ (∀ x ∈ l, -128 ≤ x ∧ x ≤ 127) ∧ l.length ≤ 9223372036854775807 := by
  subst hv
  obtain ⟨fuel, hf⟩ := h
  obtain ⟨xs, n, _, _, hl, hlen, hfs⟩ := DataW.trod_struct Try.underlying58 hf
  rw [d58] at hl
  have h0 := hfs 0 { name := "Rows", type := 5, offset := 0, embedded := false, tag := "", pkgPath := "", byteOffset := 0 } rfl
  have h1 := hfs 1 { name := "Cols", type := 5, offset := 1, embedded := false, tag := "", pkgPath := "", byteOffset := 1 } rfl
  have h2 := hfs 2 { name := "A", type := 47, offset := 2, embedded := false, tag := "", pkgPath := "", byteOffset := 8 } rfl
  obtain ⟨x0, hx0⟩ : ∃ x, xs[0]? = some x := ⟨_, List.getElem?_eq_getElem (by rw [hlen]; decide)⟩
  obtain ⟨x1, hx1⟩ : ∃ x, xs[1]? = some x := ⟨_, List.getElem?_eq_getElem (by rw [hlen]; decide)⟩
  obtain ⟨x2, hx2⟩ : ∃ x, xs[2]? = some x := ⟨_, List.getElem?_eq_getElem (by rw [hlen]; decide)⟩
  rw [hx0] at h0; rw [hx1] at h1; rw [hx2] at h2
  simp only [Value.cells] at h0 h1 h2 hl
  obtain ⟨cs⟩ := cs
  simp only at h0 h1 h2 hl
  obtain ⟨a, b, c, rfl⟩ := len3r hl
  simp only [d5, d47, List.drop_zero, List.drop_succ_cons, List.take_succ_cons, List.take_zero] at h0 h1 h2
  obtain ⟨i, e1, _, w1⟩ := DataW.trod_int Try.underlying5 h0
  obtain ⟨j, e2, _, w2⟩ := DataW.trod_int Try.underlying5 h1
  obtain ⟨u, l, e3, hu, hg, hL⟩ := openB h2
  injection e1 with e1; injection e2 with e2; injection e3 with e3
  subst e1; subst e2; subst e3
  have b1 := wf_u8 w1
  have b2 := wf_u8 w2
  obtain ⟨r, rfl⟩ : ∃ r : Nat, i = r := ⟨i.toNat, by omega⟩
  obtain ⟨c, rfl⟩ : ∃ r : Nat, j = r := ⟨j.toNat, by omega⟩
  refine ⟨r, c, l, .ag _ _ rfl fun k d v hk hv => ?_, by omega, by omega, hg, hL⟩
  rcases k with _ | _ | _ | k
  · simp at hk hv; subst hk; subst hv; exact .i _ _
  · simp at hk hv; subst hk; subst hv; exact .i _ _
  · simp at hk hv; subst hk; subst hv; exact hu
  · simp at hk
end

end Go.Am
namespace Go.Proofs.Ytmnjglpieghdkaa
theorem own8 : ownKnob Try.prog.godebug = none := by kernel_rfl
theorem laid8 : laidOutB Try.prog = true := by kernel_rfl
end Go.Proofs.Ytmnjglpieghdkaa

open Go Go.Am Go.Proofs
namespace Go.Proofs.Ytmnjglpieghdkaa
open Go.ChangeShapes Go.WideShapes Go.ChangeAt Go.RowKit

set_option maxRecDepth 100000 in
theorem represents_lifted (os : Os) (started : os.Started) (H : Type) (enc : TypeId × Value → H) :
    ReturnsInHanded {} Try.checked os 9 .any (Rows.sparseRepresentsSpec.pre6 enc Try.prog Try.f9 Rows.sparseRepresentsRow.domain false) (Rows.sparseRepresentsSpec.post enc Try.prog Try.f9 false true false false) := by
  refine returnsInHanded_of_change (C := Try.checked) own8 started (by kernel_rfl) Try.func9
    (ChangeSpec.witness6 (enc := enc) (C := Try.checked) false ⟨#[], #[.agg #[.int .u8 0, .int .u8 0, .slice none 0 0]], []⟩ 8 (by kernel_rfl) (by kernel_rfl) (by kernel_rfl) (by kernel_rfl)) ?_
  intro W base args ds gs before hval0 hW hcnd _
  have hval : ∀ (j : Nat) t v, Try.f9.params[j]? = some t → args[j]? = some v → Value.okWide Try.prog W .any base t v := hval0
  have hW' := hW
  obtain ⟨p, q, hA0, hV, rfl, hfz, hnd⟩ := hW
  have hA : DataW.TrodAll enc Try.prog W 0 (fun _ => true) true Try.f9.params.toList args.toList ds p := hA0
  rw [Try.params9] at hA hval
  obtain ⟨v0, d0, rfl, rfl, h0⟩ := trodAll_one hA
  obtain ⟨rfl, rfl⟩ := trodVars_none hV
  have h0k := h0
  clear hA0 hval0
  simp only [List.append_nil] at hW'
  have hlt0 : ∀ x ∈ p, x.block < W.heap.size := fun x hx => by simpa using hW'.lt x (by simpa using hx)
  obtain ⟨cs, rfl, _⟩ := okWide_struct Try.underlying58 (hval 0 58 v0 rfl rfl)
  obtain ⟨r, c, l, vl, hr, hc, il, _⟩ := Am.openRaw rfl h0
  have hspec := (Am.lawRepresents r c l hr hc il) (fun b => b < W.heap.size) W #[.agg cs] (fun b h => h) rfl (fun j d v hd hv' => by
    rcases j with _ | j
    · simp at hd hv'; subst hd; subst hv'; exact vl
    · simp at hd)
  refine hspec.2.mono ?_
  rintro e W' ⟨v, rfl, hb, hv⟩
  cases hv
  exact ⟨_, rfl, ⟨_, _, _, [], _, [], hW', trodAll_mk1 (shut_bool Try.underlying4 true), trodAll_mk1 (Below.trod laid8 (by kernel_rfl) (of_decide_eq_true (by kernel_rfl)) h0k hb hlt0), rfl, hb.frame _, fun h => by cases h⟩⟩

theorem sparseRepresents_holds : Rows.SparseRepresentsSaid :=
  OpenClaim.holds_of_wide 9 Try.f9 rfl rfl rfl rfl rfl rfl rfl ⟨rfl, rfl, rfl, rfl, rfl⟩ rfl rfl rfl rfl rfl (by kernel_rfl) Try.func9 (by kernel_rfl)
    (of_decide_eq_true (by kernel_rfl)) (by unfold Func.isWrapper; rw [if_neg (of_decide_eq_false (by kernel_rfl))]; exact ⟨rfl, rfl⟩)
    (fun os started H enc _ => represents_lifted os started H enc)

end Go.Proofs.Ytmnjglpieghdkaa
