/- SparseRows: for every input the law answers true, and its arguments read as they did. No condition. -/
import Derived.Test.YtmnjglpieghdkaaSs
import Derived.ProofKit
import Derived.OpenShut
import Derived.Test.YtmnjglpieghdkaaMw
import Derived.Test.YtmnjglpieghdkaaSq
import Derived.Test.YtmnjglpieghdkaaRows
open Go Go.Am Go.Proofs
namespace Go.Am
set_option linter.unusedSimpArgs false
open Go.ChangeShapes Go.WideShapes Go.ChangeAt Go.RowKit

theorem cell_ltO {w : World} {a : Addr} {v : Value} (h : w.cell? a = some v) : a.block < w.heap.size := by
  unfold World.cell? at h
  cases hb : w.heap[a.block]? with
  | none => rw [hb] at h; cases h
  | some o => exact (Array.getElem?_eq_some_iff.1 hb).1
theorem listOf {α : Type} {Q : Nat → α → Prop} : ∀ {n : Nat}, (∀ i, i < n → ∃ y, Q i y) → ∃ l : List α, l.length = n ∧ ∀ (i : Nat) (y : α), l[i]? = some y → Q i y
  | 0, _ => ⟨[], rfl, fun i y h => by simp at h⟩
  | n + 1, h => by
    obtain ⟨l, hl, hq⟩ := listOf (n := n) fun i hi => h i (Nat.lt_succ_of_lt hi)
    obtain ⟨y, hy⟩ := h n (Nat.lt_succ_self n)
    refine ⟨l ++ [y], by simp [hl], fun i z hz => ?_⟩
    rcases Nat.lt_or_ge i l.length with h1 | h1
    · rw [List.getElem?_append_left h1] at hz; exact hq i z hz
    · rw [List.getElem?_append_right h1] at hz
      have h2 : i - l.length = 0 := by
        rcases Nat.eq_zero_or_pos (i - l.length) with h3 | h3
        · exact h3
        · rw [List.getElem?_eq_none (by simp; omega)] at hz; cases hz
      rw [h2] at hz
      simp at hz
      subst hz
      rwa [show i = n by omega]
theorem cells_get {w : World} {n : Nat} {a : Addr} {cs : List Value} (h : w.cells? 0 a n = some cs) : ∀ k, k < n → w.cell? (a.add k) = cs[k]? := by
  intro k hk
  unfold World.cells? at h
  rw [if_pos (Nat.zero_le _)] at h
  have := mapM_some_get h k k (by simp [hk])
  exact this

theorem openSlice {α : Type} {P : Program} {H : Type} {enc : TypeId × Value → H} {w : World} {sp : Nat → Bool} {held : Bool} {t e : TypeId} {cs : List Value} {x : DataW H × List MemPlace} {fuel : Nat} (ht : P.underlying t = some (.slice e)) (hc : 0 < P.cellsOf e) (E : α → List D) (good : α → Prop)
    (hE : ∀ (fuel : Nat) (cs : List Value) (x : DataW H × List MemPlace), DataW.trod enc P w 0 sp held fuel e cs = some x → ∃ y : α, good y ∧ (E y).length = P.cellsOf e ∧ ∀ (k : Nat) (c : D) (v : Value), (E y)[k]? = some c → cs[k]? = some v → VD (fun b => b < w.heap.size) w c v)
    (hf : DataW.trod enc P w 0 sp held fuel t cs = some x) : ∃ (v : Value) (l : List α), cs = [v] ∧ VD (fun b => b < w.heap.size) w (.sl (l.map E)) v ∧ (∀ y ∈ l, good y) ∧ l.length ≤ 9223372036854775807 := by
  rcases DataW.trod_slice ht hf with ⟨hcs, _⟩ | ⟨a, len, cap, elems, rest, n, _, hcs, _, _, hlc, hcm, hel, hEl, _⟩
  · exact ⟨_, [], hcs, .sl0 _ _, (fun p hp => by cases hp), Nat.zero_le _⟩
  · have each : ∀ i, i < len → ∃ y : α, good y ∧ (E y).length = P.cellsOf e ∧ ∀ (k : Nat), k < P.cellsOf e → ∃ v, w.cell? (a.add (i * P.cellsOf e + k)) = some v ∧ ∀ c : D, (E y)[k]? = some c → VD (fun b => b < w.heap.size) w c v := by
      intro i hi
      have h1 := hEl i hi
      rw [List.getElem?_eq_getElem (by omega)] at h1
      obtain ⟨vs, h2, h3⟩ := Option.bind_eq_some_iff.1 h1
      obtain ⟨y, g, hy, hv⟩ := hE _ _ _ h3
      refine ⟨y, g, hy, fun k hk => ?_⟩
      have h4 := cells_get h2 k hk
      rw [add_add] at h4
      have h5 : k < vs.length := by
        unfold World.cells? at h2
        rw [if_pos (Nat.zero_le _)] at h2
        have := mapM_some_length h2
        simp at this; omega
      rw [List.getElem?_eq_getElem h5] at h4
      exact ⟨_, h4, fun c hc => hv k c _ hc (List.getElem?_eq_getElem h5)⟩
    obtain ⟨l, hl, hq⟩ := listOf each
    have hgood : ∀ y ∈ l, good y := fun y hy => by
      obtain ⟨i, hi, rfl⟩ := List.mem_iff_getElem.1 hy
      exact (hq i _ (List.getElem?_eq_getElem hi)).1
    refine ⟨_, l, hcs, ?_, hgood, by rw [hl]; exact Nat.le_trans hlc hcm⟩
    rcases Nat.eq_zero_or_pos len with h0 | hpos
    · have : l = [] := List.eq_nil_of_length_eq_zero (by omega)
      subst this; subst h0; exact .sl0 _ _
    · have hab : a.block < w.heap.size := by
        obtain ⟨y, _, _, hy⟩ := each 0 hpos
        obtain ⟨v, hv, _⟩ := hy 0 hc
        have := cell_ltO hv
        rwa [block_add] at this
      refine .sl _ a len cap (P.cellsOf e) (fun j => (w.cell? (a.add j)).getD undef) (by simp [hl]) hlc (fun cs hcs => ?_) hab (fun j hj => ?_) (fun j k cs c hj hk => ?_)
      · obtain ⟨y, hy, rfl⟩ := List.mem_map.1 hcs
        obtain ⟨i, hi, rfl⟩ := List.mem_iff_getElem.1 hy
        exact (hq i _ (List.getElem?_eq_getElem hi)).2.1
      · have hd : j / P.cellsOf e < len := Nat.div_lt_of_lt_mul (by rwa [Nat.mul_comm] at hj)
        obtain ⟨y, _, _, hy⟩ := each _ hd
        obtain ⟨v, hv, _⟩ := hy (j % P.cellsOf e) (Nat.mod_lt _ hc)
        rw [Nat.mul_comm, Nat.div_add_mod] at hv
        simp [hv]
      · rw [List.getElem?_map, Option.map_eq_some_iff] at hj
        obtain ⟨y, hy, rfl⟩ := hj
        obtain ⟨_, h6, h7⟩ := hq j y hy
        obtain ⟨v, hv, hvc⟩ := h7 k (by rw [← h6]; exact (List.getElem?_eq_some_iff.1 hk).1)
        simp only [hv, Option.getD_some]
        exact hvc c hk

/-- Limbs that came in. -/
theorem openLimbs {P : Program} {H : Type} {enc : TypeId × Value → H} {w : World} {sp : Nat → Bool} {held : Bool} {t e : TypeId} {cs : List Value} {x : DataW H × List MemPlace} {fuel : Nat} (ht : P.underlying t = some (.slice e)) (he : P.underlying e = some (.int .u32)) (ce : P.cellsOf e = 1)
    (hf : DataW.trod enc P w 0 sp held fuel t cs = some x) : ∃ (v : Value) (m : List Nat), cs = [v] ∧ VD (fun b => b < w.heap.size) w (encM m) v ∧ m.length ≤ 9223372036854775807 := by
  obtain ⟨v, m, h1, h2, _, h4⟩ := openSlice ht (by omega) (fun n : Nat => [D.i .u32 (n : Int)]) (fun _ => True) (fun fuel cs x h => by
    obtain ⟨a, q1, _, w1⟩ := DataW.trod_int he h
    subst q1
    have hmin : IntKind.u32.min = 0 := rfl
    simp only [Lit.wf, Bool.and_eq_true, decide_eq_true_eq] at w1
    refine ⟨a.toNat, trivial, by simp [ce], fun k c v hk hv => ?_⟩
    rcases k with _ | k
    · simp at hk hv
      subst hk; subst hv
      rw [show max a 0 = a by omega]
      exact .i _ _
    · simp at hk) hf
  exact ⟨v, m, h1, h2, h4⟩

end Go.Am

open Go Go.Am Go.Proofs
namespace Go.Am
set_option linter.unusedSimpArgs false

theorem szMat_ok (l : List Int) {cc rr : Nat} (hc : cc ≤ 1000) (hr : rr ≤ 1000) : MOk (cc : Int) ((szMat l cc rr).map (rw0 0)) := by
  have hm : ∀ r ∈ (szMat l cc rr).map (rw0 0), ∃ i, r = rw0 0 (szRow l cc i cc) := fun r h => by
    obtain ⟨v, hv, rfl⟩ := List.mem_map.1 h
    obtain ⟨i, _, rfl⟩ := List.mem_map.1 hv
    exact ⟨i, rfl⟩
  refine ⟨fun r h => ?_, fun r h x hx => ?_, fun r h => ?_, Int.natCast_nonneg _, ?_⟩
  · obtain ⟨i, rfl⟩ := hm r h; exact rw0_srt _ _
  · obtain ⟨i, rfl⟩ := hm r h
    have := rw0_mem _ _ _ hx
    rw [szRow_len] at this
    exact ⟨by omega, by omega⟩
  · obtain ⟨i, rfl⟩ := hm r h
    refine ⟨fun x hx => ?_, ?_⟩
    · obtain ⟨_, _, h3, _⟩ := rw0_mem _ _ _ hx
      obtain ⟨j, _, e⟩ := List.mem_map.1 h3
      have := vz1_bnd l (i * cc + j)
      exact sz_small (by rw [← e]; omega)
    · exact Nat.le_trans (rw0_len _ _) (by rw [szRow_len]; omega)
  · rw [List.length_map, szMat_len]; omega
theorem vecZ_ok (l : List Int) {n : Nat} (hn : n ≤ 1000) : RowOk (rw0 0 (vecZ l n)) := by
  refine ⟨fun x hx => ?_, Nat.le_trans (rw0_len _ _) (by rw [vecZ_len]; omega)⟩
  obtain ⟨_, _, h3, _⟩ := rw0_mem _ _ _ hx
  obtain ⟨j, _, e⟩ := List.mem_map.1 h3
  have := vz1_bnd l j
  exact sz_small (by rw [← e]; omega)

theorem insBoth {c : Int} {L : List (List (Int × Int))} (h : MOk c L) (hL : L.length ≤ 999) (i : Int) (row : List (Int × Int)) (hrow : RowOk row) (hs : Srt row) (hpos : ∀ x ∈ row, 0 ≤ x.1) :
    ∃ (R1 c1 : Int) (L1 : List (List (Int × Int))) (e : Int), Spec Try.prog 35 [encSp L.length c L, .i .i64 i, encC row] (.tp [encSp R1 c1 L1, .i .i64 e]) ∧
      Spec Try.prog 36 [encSp L.length c L, .i .i64 i, encC row] (.tp [encSp R1 c1 L1, .i .i64 e]) ∧ (∀ x ∈ L1, RowOk x) ∧ L1.length ≤ 1000000 ∧
      (e = 0 → Spec Try.prog 37 [encSp R1 c1 L1, .i .i64 i] (.tp [encSp L.length c L, .i .i64 0])) := by
  by_cases hi : i < 0 ∨ (L.length : Int) < i
  · exact ⟨0, 0, [], 1, spInsArg h i row hi, r06InsArg L.length c L i row hi, (fun x hx => by cases hx), by simp, fun e => by cases e⟩
  · have h0 : ¬ i < 0 := fun h => hi (.inl h)
    have h1 : ¬ (L.length : Int) < i := fun h => hi (.inr h)
    cases hany : row.any fun x => decide (c ≤ x.1) with
    | true =>
      refine ⟨0, 0, [], 50, spInsShape h i row hrow.2 h0 h1 hany, ?_, (fun x hx => by cases hx), by simp, fun e => by cases e⟩
      rcases List.eq_nil_or_concat row with rfl | ⟨row', t, rfl⟩
      · cases hany
      · rw [List.concat_eq_append] at *
        have ht : c ≤ t.1 := by
          obtain ⟨x, hx, hcx⟩ := List.any_eq_true.1 hany
          simp only [decide_eq_true_eq] at hcx
          rcases List.mem_append.1 hx with hx | hx
          · have := (List.pairwise_append.1 hs.1).2.2 x hx t (List.mem_singleton.2 rfl)
            omega
          · rw [List.mem_singleton.1 hx] at hcx; exact hcx
        exact r06InsShape L.length c L i row' t h0 h1 (by have := hrow.2; rw [List.length_append] at this; omega) ht
    | false =>
      obtain ⟨n, rfl⟩ : ∃ n : Nat, i = n := ⟨i.toNat, by omega⟩
      have hn : n ≤ L.length := by omega
      have hlt : ∀ x ∈ row, x.1 < c := fun x hx => by
        have := List.any_eq_false.1 hany x hx
        simp only [decide_eq_true_eq] at this
        omega
      have hlen : (insL L n row).length = L.length + 1 := by rw [insL_len hn]; omega
      have hM : MOk c (insL L n row) := by
        refine ⟨fun r hr => ?_, fun r hr => ?_, fun r hr => ?_, h.pos, by rw [hlen]; omega⟩
        · rcases insL_mem hr with hr | rfl
          · exact h.srt r hr
          · exact hs
        · rcases insL_mem hr with hr | rfl
          · exact h.col r hr
          · exact fun x hx => ⟨hpos x hx, hlt x hx⟩
        · rcases insL_mem hr with hr | rfl
          · exact h.ok r hr
          · exact hrow
      have hrem : remL (insL L n row) n = L := by
        have hl : (L.take n).length = n := by rw [List.length_take]; exact Nat.min_eq_left hn
        simp only [remL, insL]
        rw [List.take_append_of_le_length (by omega), List.take_of_length_le (by omega), List.drop_append, hl, List.drop_eq_nil_of_le (by omega), List.nil_append, show n + 1 - n = 1 by omega, List.drop_one, List.tail_cons, List.take_append_drop]
      have hR := spRemOk hM n (by rw [hlen]; omega) (by rw [hlen]; omega)
      rw [hrem, hlen] at hR
      have e1 : ((L.length + 1 : Nat) : Int) = (L.length : Int) + 1 := rfl
      rw [e1, show (L.length : Int) + 1 - 1 = L.length by omega] at hR
      exact ⟨(L.length : Int) + 1, c, insL L n row, 0, spInsOk h n row hrow (by omega) hn hany, r06InsOk c L n row (by omega) hn hrow.2 hlt, hM.ok, hM.len, fun _ => hR⟩

theorem remBoth {c : Int} {L : List (List (Int × Int))} (h : MOk c L) (hL : L.length ≤ 999) (i : Int) :
    ∃ (R1 c1 : Int) (L1 : List (List (Int × Int))) (e : Int), Spec Try.prog 37 [encSp L.length c L, .i .i64 i] (.tp [encSp R1 c1 L1, .i .i64 e]) ∧
      Spec Try.prog 38 [encSp L.length c L, .i .i64 i] (.tp [encSp R1 c1 L1, .i .i64 e]) ∧ (∀ x ∈ L1, RowOk x) ∧ L1.length ≤ 1000000 := by
  by_cases hi : i < 0 ∨ (L.length : Int) ≤ i
  · exact ⟨0, 0, [], 1, spRemArg h i hi, r06RemArg L.length c L i hi, (fun x hx => by cases hx), by simp⟩
  · obtain ⟨n, rfl⟩ : ∃ n : Nat, i = n := ⟨i.toNat, by omega⟩
    have hn : n < L.length := by omega
    exact ⟨(L.length : Int) - 1, c, remL L n, 0, spRemOk h n (by omega) hn, r06RemOk c L n (by omega) hn, fun x hx => h.ok x (remL_mem hx), by rw [remL_len hn]; omega⟩

theorem inj_encC (l : List (Int × Int)) : inj (encC l) = .d (encC l) := rfl
theorem kills_encC (H : Nat → Option HO) (avs : List AV) (l : List (Int × Int)) : killsOf H avs (encC l) = viss H avs := rfl
set_option maxHeartbeats 16000000 in
set_option maxRecDepth 10000 in
theorem lawRows (r c : Nat) (l m : List Int) (i : Int) (hr : r ≤ 255) (hc : c ≤ 255) (hl8 : ∀ x ∈ l, -128 ≤ x ∧ x ≤ 127) (hm8 : ∀ x ∈ m, -128 ≤ x ∧ x ≤ 127) (hm : m.length ≤ 9223372036854775807) :
    Spec Try.prog 7 [encRaw r c l, encB m, .i .i64 i] (.b true) := by
  refine spec_of (N := 92) follows_mixed Try.func7 rfl rfl rfl (by kernel_rfl) (by kernel_rfl) (by simp) ?_
  have hr5 : r % 5 ≤ 4 := by have := Nat.mod_lt r (show 0 < 5 by decide); omega
  have hc5 : c % 5 ≤ 4 := by have := Nat.mod_lt c (show 0 < 5 by decide); omega
  have sA : Spec Try.prog 34 [encRaw r c l, .i .i64 4] (encMat (r % 5 : Nat) (c % 5 : Nat) (szMat l (c % 5) (r % 5))) := r06Made r c l 4 hl8 (by decide) hr hc
  generalize r % 5 = rr at *
  generalize c % 5 = cc at *
  have hml := szMat_len l cc rr
  have sB := r06From (cc : Int) (szMat l cc rr) (by rw [hml]; omega) (fun v hv => by
    obtain ⟨j, _, rfl⟩ := List.mem_map.1 hv
    rw [szRow_len]; omega)
  have hM := szMat_ok l (cc := cc) (rr := rr) (by omega) (by omega)
  have hSl : ((szMat l cc rr).map (rw0 0)).length = rr := by rw [List.length_map, hml]
  rw [hml] at sB
  have sC := r06Vec m 5 hm8 hm (by decide)
  have sD := r06RowV (vecZ m 5) (by rw [vecZ_len]; decide)
  have hrow := vecZ_ok m (n := 5) (by decide)
  have hsrt := rw0_srt (vecZ m 5) 0
  have hpos : ∀ x ∈ rw0 0 (vecZ m 5), 0 ≤ x.1 := fun x hx => by have := (rw0_mem _ _ _ hx).1; omega
  generalize rw0 0 (vecZ m 5) = row at *
  generalize vecZ m 5 = vm at *
  generalize (szMat l cc rr).map (rw0 0) = S at *
  generalize szMat l cc rr = A at *
  subst hSl
  obtain ⟨R1, c1, L1, e, sE, sF, hk1, hn1, hback⟩ := insBoth hM (by omega) i row hrow hsrt hpos
  obtain ⟨R2, c2, L2, g, sG, sH, hk2, hn2⟩ := remBoth hM (by omega) i
  have sI := r06Equal R1 c1 R1 c1 hk1 hk1 hn1 hn1
  have sJ := r06Equal R2 c2 R2 c2 hk2 hk2 hn2 hn2
  have sK := r06Equal S.length cc S.length cc hM.ok hM.ok hM.len hM.len
  simp only [and_self, decide_true] at sI sJ sK
  have hne1 : (e != e) = false := by simp
  have hne2 : (g != g) = false := by simp
  simp (config := { maxSteps := 1000000 }) [-List.map_map, -List.mapM_map, ↓awp_skip, ↓awp_regionB, ↓awp_seq, ↓awp_block, ↓awp_exit, ↓awp_ret, ↓awp_label, ↓awp_scope, ↓awp_condB, ↓awp_loopB, ↓ow_nil', ↓ow_cons0, ↓ow_cons1, ↓o1_move, ↓o1_assign, ↓o1_pick, ↓o1_alloc, ↓o1_box, ↓o1_build, ↓o1_buildSlice, ↓o1_makeSlice, ↓o1_makeMap, ↓o1_binOp, ↓o1_unOp, ↓o1_convert, ↓o1_fieldAddr, ↓o1_field, ↓o1_indexAddr, ↓o1_extract, ↓o1_slice, ↓o1_len, ↓o1_max, ↓o1_min, ↓o1_load, ↓o1_lookup, ↓o1_store, ↓o1_mapUpdate, ↓o1_append, ↓o1_delete, ↓o1_call, encRaw, encB]
  refine callP_intro (ds := []) (by rfl) sanity06 ?_
  simp (config := { maxSteps := 1000000 }) [-List.map_map, -List.mapM_map, ↓awp_skip, ↓awp_regionB, ↓awp_seq, ↓awp_block, ↓awp_exit, ↓awp_ret, ↓awp_label, ↓awp_scope, ↓awp_condB, ↓awp_loopB, ↓ow_nil', ↓ow_cons0, ↓ow_cons1, ↓o1_move, ↓o1_assign, ↓o1_pick, ↓o1_alloc, ↓o1_box, ↓o1_build, ↓o1_buildSlice, ↓o1_makeSlice, ↓o1_makeMap, ↓o1_binOp, ↓o1_unOp, ↓o1_convert, ↓o1_fieldAddr, ↓o1_field, ↓o1_indexAddr, ↓o1_extract, ↓o1_slice, ↓o1_len, ↓o1_max, ↓o1_min, ↓o1_load, ↓o1_lookup, ↓o1_store, ↓o1_mapUpdate, ↓o1_append, ↓o1_delete, ↓o1_call, encRaw, encB]
  refine callP_intro (ds := [encRaw r c l, .i .i64 4]) (by rfl) sA ?_
  simp (config := { maxSteps := 1000000 }) [-List.map_map, -List.mapM_map, ↓awp_skip, ↓awp_regionB, ↓awp_seq, ↓awp_block, ↓awp_exit, ↓awp_ret, ↓awp_label, ↓awp_scope, ↓awp_condB, ↓awp_loopB, ↓ow_nil', ↓ow_cons0, ↓ow_cons1, ↓o1_move, ↓o1_assign, ↓o1_pick, ↓o1_alloc, ↓o1_box, ↓o1_build, ↓o1_buildSlice, ↓o1_makeSlice, ↓o1_makeMap, ↓o1_binOp, ↓o1_unOp, ↓o1_convert, ↓o1_fieldAddr, ↓o1_field, ↓o1_indexAddr, ↓o1_extract, ↓o1_slice, ↓o1_len, ↓o1_max, ↓o1_min, ↓o1_load, ↓o1_lookup, ↓o1_store, ↓o1_mapUpdate, ↓o1_append, ↓o1_delete, ↓o1_call, encMat]
  refine callP_intro (ds := [encMat S.length cc A]) (by rfl) sB ?_
  simp (config := { maxSteps := 1000000 }) [-List.map_map, -List.mapM_map, ↓awp_skip, ↓awp_regionB, ↓awp_seq, ↓awp_block, ↓awp_exit, ↓awp_ret, ↓awp_label, ↓awp_scope, ↓awp_condB, ↓awp_loopB, ↓ow_nil', ↓ow_cons0, ↓ow_cons1, ↓o1_move, ↓o1_assign, ↓o1_pick, ↓o1_alloc, ↓o1_box, ↓o1_build, ↓o1_buildSlice, ↓o1_makeSlice, ↓o1_makeMap, ↓o1_binOp, ↓o1_unOp, ↓o1_convert, ↓o1_fieldAddr, ↓o1_field, ↓o1_indexAddr, ↓o1_extract, ↓o1_slice, ↓o1_len, ↓o1_max, ↓o1_min, ↓o1_load, ↓o1_lookup, ↓o1_store, ↓o1_mapUpdate, ↓o1_append, ↓o1_delete, ↓o1_call, encSp]
  refine callP_intro (ds := [encB m, .i .i64 5]) (by rfl) sC ?_
  simp (config := { maxSteps := 1000000 }) [-List.map_map, -List.mapM_map, ↓awp_skip, ↓awp_regionB, ↓awp_seq, ↓awp_block, ↓awp_exit, ↓awp_ret, ↓awp_label, ↓awp_scope, ↓awp_condB, ↓awp_loopB, ↓ow_nil', ↓ow_cons0, ↓ow_cons1, ↓o1_move, ↓o1_assign, ↓o1_pick, ↓o1_alloc, ↓o1_box, ↓o1_build, ↓o1_buildSlice, ↓o1_makeSlice, ↓o1_makeMap, ↓o1_binOp, ↓o1_unOp, ↓o1_convert, ↓o1_fieldAddr, ↓o1_field, ↓o1_indexAddr, ↓o1_extract, ↓o1_slice, ↓o1_len, ↓o1_max, ↓o1_min, ↓o1_load, ↓o1_lookup, ↓o1_store, ↓o1_mapUpdate, ↓o1_append, ↓o1_delete, ↓o1_call, encV2]
  refine callP_intro (ds := [encV2 vm]) (by rfl) sD ?_
  simp (config := { maxSteps := 1000000 }) [-List.map_map, -List.mapM_map, ↓awp_skip, ↓awp_regionB, ↓awp_seq, ↓awp_block, ↓awp_exit, ↓awp_ret, ↓awp_label, ↓awp_scope, ↓awp_condB, ↓awp_loopB, ↓ow_nil', ↓ow_cons0, ↓ow_cons1, ↓o1_move, ↓o1_assign, ↓o1_pick, ↓o1_alloc, ↓o1_box, ↓o1_build, ↓o1_buildSlice, ↓o1_makeSlice, ↓o1_makeMap, ↓o1_binOp, ↓o1_unOp, ↓o1_convert, ↓o1_fieldAddr, ↓o1_field, ↓o1_indexAddr, ↓o1_extract, ↓o1_slice, ↓o1_len, ↓o1_max, ↓o1_min, ↓o1_load, ↓o1_lookup, ↓o1_store, ↓o1_mapUpdate, ↓o1_append, ↓o1_delete, ↓o1_call, inj1_encC, inj_encC, kills_encC, cellsA_encC, one_encC]
  refine callP_intro (ds := [encSp S.length cc S, .i .i64 i, encC row]) (by rfl) sE ?_
  simp (config := { maxSteps := 1000000 }) [-List.map_map, -List.mapM_map, ↓awp_skip, ↓awp_regionB, ↓awp_seq, ↓awp_block, ↓awp_exit, ↓awp_ret, ↓awp_label, ↓awp_scope, ↓awp_condB, ↓awp_loopB, ↓ow_nil', ↓ow_cons0, ↓ow_cons1, ↓o1_move, ↓o1_assign, ↓o1_pick, ↓o1_alloc, ↓o1_box, ↓o1_build, ↓o1_buildSlice, ↓o1_makeSlice, ↓o1_makeMap, ↓o1_binOp, ↓o1_unOp, ↓o1_convert, ↓o1_fieldAddr, ↓o1_field, ↓o1_indexAddr, ↓o1_extract, ↓o1_slice, ↓o1_len, ↓o1_max, ↓o1_min, ↓o1_load, ↓o1_lookup, ↓o1_store, ↓o1_mapUpdate, ↓o1_append, ↓o1_delete, ↓o1_call, encSp, inj1_encC, inj_encC, kills_encC, cellsA_encC, one_encC]
  refine callP_intro (ds := [encSp S.length cc S, .i .i64 i, encC row]) (by rfl) sF ?_
  simp (config := { maxSteps := 1000000 }) [-List.map_map, -List.mapM_map, ↓awp_skip, ↓awp_regionB, ↓awp_seq, ↓awp_block, ↓awp_exit, ↓awp_ret, ↓awp_label, ↓awp_scope, ↓awp_condB, ↓awp_loopB, ↓ow_nil', ↓ow_cons0, ↓ow_cons1, ↓o1_move, ↓o1_assign, ↓o1_pick, ↓o1_alloc, ↓o1_box, ↓o1_build, ↓o1_buildSlice, ↓o1_makeSlice, ↓o1_makeMap, ↓o1_binOp, ↓o1_unOp, ↓o1_convert, ↓o1_fieldAddr, ↓o1_field, ↓o1_indexAddr, ↓o1_extract, ↓o1_slice, ↓o1_len, ↓o1_max, ↓o1_min, ↓o1_load, ↓o1_lookup, ↓o1_store, ↓o1_mapUpdate, ↓o1_append, ↓o1_delete, ↓o1_call, encSp, inj1_encC, inj_encC, kills_encC, cellsA_encC, one_encC]
  refine callP_intro (ds := [encSp S.length cc S, .i .i64 i]) (by rfl) sG ?_
  simp (config := { maxSteps := 1000000 }) [-List.map_map, -List.mapM_map, ↓awp_skip, ↓awp_regionB, ↓awp_seq, ↓awp_block, ↓awp_exit, ↓awp_ret, ↓awp_label, ↓awp_scope, ↓awp_condB, ↓awp_loopB, ↓ow_nil', ↓ow_cons0, ↓ow_cons1, ↓o1_move, ↓o1_assign, ↓o1_pick, ↓o1_alloc, ↓o1_box, ↓o1_build, ↓o1_buildSlice, ↓o1_makeSlice, ↓o1_makeMap, ↓o1_binOp, ↓o1_unOp, ↓o1_convert, ↓o1_fieldAddr, ↓o1_field, ↓o1_indexAddr, ↓o1_extract, ↓o1_slice, ↓o1_len, ↓o1_max, ↓o1_min, ↓o1_load, ↓o1_lookup, ↓o1_store, ↓o1_mapUpdate, ↓o1_append, ↓o1_delete, ↓o1_call, encSp, inj1_encC, inj_encC, kills_encC, cellsA_encC, one_encC]
  refine callP_intro (ds := [encSp S.length cc S, .i .i64 i]) (by rfl) sH ?_
  simp (config := { maxSteps := 1000000 }) [-List.map_map, -List.mapM_map, ↓awp_skip, ↓awp_regionB, ↓awp_seq, ↓awp_block, ↓awp_exit, ↓awp_ret, ↓awp_label, ↓awp_scope, ↓awp_condB, ↓awp_loopB, ↓ow_nil', ↓ow_cons0, ↓ow_cons1, ↓o1_move, ↓o1_assign, ↓o1_pick, ↓o1_alloc, ↓o1_box, ↓o1_build, ↓o1_buildSlice, ↓o1_makeSlice, ↓o1_makeMap, ↓o1_binOp, ↓o1_unOp, ↓o1_convert, ↓o1_fieldAddr, ↓o1_field, ↓o1_indexAddr, ↓o1_extract, ↓o1_slice, ↓o1_len, ↓o1_max, ↓o1_min, ↓o1_load, ↓o1_lookup, ↓o1_store, ↓o1_mapUpdate, ↓o1_append, ↓o1_delete, ↓o1_call, encSp, inj1_encC, inj_encC, kills_encC, cellsA_encC, one_encC]
  refine callP_intro (ds := [encSp R1 c1 L1, encSp R1 c1 L1]) (by rfl) sI ?_
  simp (config := { maxSteps := 1000000 }) [-List.map_map, -List.mapM_map, ↓awp_skip, ↓awp_regionB, ↓awp_seq, ↓awp_block, ↓awp_exit, ↓awp_ret, ↓awp_label, ↓awp_scope, ↓awp_condB, ↓awp_loopB, ↓ow_nil', ↓ow_cons0, ↓ow_cons1, ↓o1_move, ↓o1_assign, ↓o1_pick, ↓o1_alloc, ↓o1_box, ↓o1_build, ↓o1_buildSlice, ↓o1_makeSlice, ↓o1_makeMap, ↓o1_binOp, ↓o1_unOp, ↓o1_convert, ↓o1_fieldAddr, ↓o1_field, ↓o1_indexAddr, ↓o1_extract, ↓o1_slice, ↓o1_len, ↓o1_max, ↓o1_min, ↓o1_load, ↓o1_lookup, ↓o1_store, ↓o1_mapUpdate, ↓o1_append, ↓o1_delete, ↓o1_call, encSp, hne1, inj1_encC, inj_encC, kills_encC, cellsA_encC, one_encC]
  refine callP_intro (ds := [encSp R2 c2 L2, encSp R2 c2 L2]) (by rfl) sJ ?_
  simp (config := { maxSteps := 1000000 }) [-List.map_map, -List.mapM_map, ↓awp_skip, ↓awp_regionB, ↓awp_seq, ↓awp_block, ↓awp_exit, ↓awp_ret, ↓awp_label, ↓awp_scope, ↓awp_condB, ↓awp_loopB, ↓ow_nil', ↓ow_cons0, ↓ow_cons1, ↓o1_move, ↓o1_assign, ↓o1_pick, ↓o1_alloc, ↓o1_box, ↓o1_build, ↓o1_buildSlice, ↓o1_makeSlice, ↓o1_makeMap, ↓o1_binOp, ↓o1_unOp, ↓o1_convert, ↓o1_fieldAddr, ↓o1_field, ↓o1_indexAddr, ↓o1_extract, ↓o1_slice, ↓o1_len, ↓o1_max, ↓o1_min, ↓o1_load, ↓o1_lookup, ↓o1_store, ↓o1_mapUpdate, ↓o1_append, ↓o1_delete, ↓o1_call, encSp, hne1, hne2, inj1_encC, inj_encC, kills_encC, cellsA_encC, one_encC]
  by_cases he : e = 0
  · subst he
    have sL := hback rfl
    simp (config := { maxSteps := 1000000 }) [-List.map_map, -List.mapM_map, ↓awp_skip, ↓awp_regionB, ↓awp_seq, ↓awp_block, ↓awp_exit, ↓awp_ret, ↓awp_label, ↓awp_scope, ↓awp_condB, ↓awp_loopB, ↓ow_nil', ↓ow_cons0, ↓ow_cons1, ↓o1_move, ↓o1_assign, ↓o1_pick, ↓o1_alloc, ↓o1_box, ↓o1_build, ↓o1_buildSlice, ↓o1_makeSlice, ↓o1_makeMap, ↓o1_binOp, ↓o1_unOp, ↓o1_convert, ↓o1_fieldAddr, ↓o1_field, ↓o1_indexAddr, ↓o1_extract, ↓o1_slice, ↓o1_len, ↓o1_max, ↓o1_min, ↓o1_load, ↓o1_lookup, ↓o1_store, ↓o1_mapUpdate, ↓o1_append, ↓o1_delete, ↓o1_call, encSp]
    refine callP_intro (ds := [encSp R1 c1 L1, .i .i64 i]) (by rfl) sL ?_
    simp (config := { maxSteps := 1000000 }) [-List.map_map, -List.mapM_map, ↓awp_skip, ↓awp_regionB, ↓awp_seq, ↓awp_block, ↓awp_exit, ↓awp_ret, ↓awp_label, ↓awp_scope, ↓awp_condB, ↓awp_loopB, ↓ow_nil', ↓ow_cons0, ↓ow_cons1, ↓o1_move, ↓o1_assign, ↓o1_pick, ↓o1_alloc, ↓o1_box, ↓o1_build, ↓o1_buildSlice, ↓o1_makeSlice, ↓o1_makeMap, ↓o1_binOp, ↓o1_unOp, ↓o1_convert, ↓o1_fieldAddr, ↓o1_field, ↓o1_indexAddr, ↓o1_extract, ↓o1_slice, ↓o1_len, ↓o1_max, ↓o1_min, ↓o1_load, ↓o1_lookup, ↓o1_store, ↓o1_mapUpdate, ↓o1_append, ↓o1_delete, ↓o1_call, encSp]
    refine callP_intro (ds := [encSp S.length cc S, encSp S.length cc S]) (by rfl) sK ?_
    simp (config := { maxSteps := 1000000 }) [-List.map_map, -List.mapM_map, ↓awp_skip, ↓awp_regionB, ↓awp_seq, ↓awp_block, ↓awp_exit, ↓awp_ret, ↓awp_label, ↓awp_scope, ↓awp_condB, ↓awp_loopB, ↓ow_nil', ↓ow_cons0, ↓ow_cons1, ↓o1_move, ↓o1_assign, ↓o1_pick, ↓o1_alloc, ↓o1_box, ↓o1_build, ↓o1_buildSlice, ↓o1_makeSlice, ↓o1_makeMap, ↓o1_binOp, ↓o1_unOp, ↓o1_convert, ↓o1_fieldAddr, ↓o1_field, ↓o1_indexAddr, ↓o1_extract, ↓o1_slice, ↓o1_len, ↓o1_max, ↓o1_min, ↓o1_load, ↓o1_lookup, ↓o1_store, ↓o1_mapUpdate, ↓o1_append, ↓o1_delete, ↓o1_call, encSp]
  · have he2 : (e != 0) = true := by simpa using he
    simp (config := { maxSteps := 1000000 }) [-List.map_map, -List.mapM_map, ↓awp_skip, ↓awp_regionB, ↓awp_seq, ↓awp_block, ↓awp_exit, ↓awp_ret, ↓awp_label, ↓awp_scope, ↓awp_condB, ↓awp_loopB, ↓ow_nil', ↓ow_cons0, ↓ow_cons1, ↓o1_move, ↓o1_assign, ↓o1_pick, ↓o1_alloc, ↓o1_box, ↓o1_build, ↓o1_buildSlice, ↓o1_makeSlice, ↓o1_makeMap, ↓o1_binOp, ↓o1_unOp, ↓o1_convert, ↓o1_fieldAddr, ↓o1_field, ↓o1_indexAddr, ↓o1_extract, ↓o1_slice, ↓o1_len, ↓o1_max, ↓o1_min, ↓o1_load, ↓o1_lookup, ↓o1_store, ↓o1_mapUpdate, ↓o1_append, ↓o1_delete, ↓o1_call, he2, he]

end Go.Am

open Go Go.Am Go.Proofs
namespace Go.Am
open Go.ChangeShapes Go.WideShapes Go.ChangeAt Go.RowKit

theorem d58 : Try.prog.cellsOf 58 = 3 := by kernel_rfl
theorem d5 : Try.prog.cellsOf 5 = 1 := by kernel_rfl
theorem d47 : Try.prog.cellsOf 47 = 1 := by kernel_rfl
theorem d36 : Try.prog.cellsOf 36 = 1 := by kernel_rfl
theorem len3r {α : Type} {l : List α} (h : l.length = 3) : ∃ a b c, l = [a, b, c] := by
  match l, h with
  | [a, b, c], _ => exact ⟨a, b, c, rfl⟩
theorem wf_i8 {n : Int} (h : (Lit.int .i8 n).wf = true) : -128 ≤ n ∧ n ≤ 127 := by
  have hmin : IntKind.i8.min = -128 := rfl
  have hmax : IntKind.i8.max = 127 := rfl
  simp only [Lit.wf, Bool.and_eq_true, decide_eq_true_eq] at h
  omega
theorem wf_u8 {n : Int} (h : (Lit.int .u8 n).wf = true) : 0 ≤ n ∧ n ≤ 255 := by
  have hmin : IntKind.u8.min = 0 := rfl
  have hmax : IntKind.u8.max = 255 := rfl
  simp only [Lit.wf, Bool.and_eq_true, decide_eq_true_eq] at h
  omega

section
variable {H : Type} {enc : TypeId × Value → H} {w : World} {sp : Nat → Bool} {held : Bool}
theorem openB {cs : List Value} {x : DataW H × List MemPlace} {fuel : Nat} (hf : DataW.trod enc Try.prog w 0 sp held fuel 47 cs = some x) :
    ∃ (u : Value) (l : List Int), cs = [u] ∧ VD (fun b => b < w.heap.size) w (encB l) u ∧ (∀ x ∈ l, -128 ≤ x ∧ x ≤ 127) ∧ l.length ≤ 9223372036854775807 :=
  openSlice Try.underlying47 (by rw [d36]; decide) (fun n : Int => [D.i .i8 n]) (fun x => -128 ≤ x ∧ x ≤ 127) (fun fuel cs x h => by
    obtain ⟨a, q1, _, w1⟩ := DataW.trod_int Try.underlying36 h
    subst q1
    refine ⟨a, wf_i8 w1, by rw [d36]; rfl, fun k c v hk hv => ?_⟩
    rcases k with _ | k
    · simp at hk hv
      subst hk; subst hv
      exact .i _ _
    · simp at hk) hf

theorem openRaw {v : Value} {d : DataW H} {ps : List MemPlace} {cs : Array Value} (hv : v = .agg cs) (h : DataW.Trod enc Try.prog w 0 sp held 58 v d ps) :
    ∃ (r c : Nat) (l : List Int), VD (fun b => b < w.heap.size) w (encRaw r c l) v ∧ r ≤ 255 ∧ c ≤ 255 ∧ (∀ x ∈ l, -128 ≤ x ∧ x ≤ 127) ∧ l.length ≤ 9223372036854775807 := by
  subst hv
  obtain ⟨fuel, hf⟩ := h
  obtain ⟨xs, n, _, _, hl, hlen, hfs⟩ := DataW.trod_struct Try.underlying58 hf
  rw [d58] at hl
  have h0 := hfs 0 { name := "Rows", type := 5, offset := 0, embedded := false, tag := "", pkgPath := "", byteOffset := 0 } rfl
  have h1 := hfs 1 { name := "Cols", type := 5, offset := 1, embedded := false, tag := "", pkgPath := "", byteOffset := 1 } rfl
  have h2 := hfs 2 { name := "A", type := 47, offset := 2, embedded := false, tag := "", pkgPath := "", byteOffset := 8 } rfl
  obtain ⟨x0, hx0⟩ : ∃ x, xs[0]? = some x := ⟨_, List.getElem?_eq_getElem (by rw [hlen]; decide)⟩
  obtain ⟨x1, hx1⟩ : ∃ x, xs[1]? = some x := ⟨_, List.getElem?_eq_getElem (by rw [hlen]; decide)⟩
  obtain ⟨x2, hx2⟩ : ∃ x, xs[2]? = some x := ⟨_, List.getElem?_eq_getElem (by rw [hlen]; decide)⟩
  rw [hx0] at h0; rw [hx1] at h1; rw [hx2] at h2
  simp only [Value.cells] at h0 h1 h2 hl
  obtain ⟨cs⟩ := cs
  simp only at h0 h1 h2 hl
  obtain ⟨a, b, c, rfl⟩ := len3r hl
  simp only [d5, d47, List.drop_zero, List.drop_succ_cons, List.take_succ_cons, List.take_zero] at h0 h1 h2
  obtain ⟨i, e1, _, w1⟩ := DataW.trod_int Try.underlying5 h0
  obtain ⟨j, e2, _, w2⟩ := DataW.trod_int Try.underlying5 h1
  obtain ⟨u, l, e3, hu, hg, hL⟩ := openB h2
  injection e1 with e1; injection e2 with e2; injection e3 with e3
  subst e1; subst e2; subst e3
  have b1 := wf_u8 w1
  have b2 := wf_u8 w2
  obtain ⟨r, rfl⟩ : ∃ r : Nat, i = r := ⟨i.toNat, by omega⟩
  obtain ⟨c, rfl⟩ : ∃ r : Nat, j = r := ⟨j.toNat, by omega⟩
  refine ⟨r, c, l, .ag _ _ rfl fun k d v hk hv => ?_, by omega, by omega, hg, hL⟩
  rcases k with _ | _ | _ | k
  · simp at hk hv; subst hk; subst hv; exact .i _ _
  · simp at hk hv; subst hk; subst hv; exact .i _ _
  · simp at hk hv; subst hk; subst hv; exact hu
  · simp at hk
end

end Go.Am
namespace Go.Proofs.Ytmnjglpieghdkaa
open Go.ChangeShapes Go.WideShapes Go.ChangeAt Go.RowKit

theorem own8 : ownKnob Try.prog.godebug = none := by kernel_rfl
theorem laid8 : laidOutB Try.prog = true := by kernel_rfl

set_option maxRecDepth 100000 in
theorem rows_lifted (os : Os) (started : os.Started) (H : Type) (enc : TypeId × Value → H) :
    ReturnsInHanded {} Try.checked os 7 .any (Rows.sparseRowsSpec.pre6 enc Try.prog Try.f7 Rows.sparseRowsRow.domain false) (Rows.sparseRowsSpec.post enc Try.prog Try.f7 false true false false) := by
  refine returnsInHanded_of_change (C := Try.checked) own8 started (by kernel_rfl) Try.func7
    (ChangeSpec.witness6 (enc := enc) (C := Try.checked) false ⟨#[], #[.agg #[.int .u8 0, .int .u8 0, .slice none 0 0], .slice none 0 0, .int .i64 0], []⟩ 8 (by kernel_rfl) (by kernel_rfl) (by kernel_rfl) (by kernel_rfl)) ?_
  intro W base args ds gs before hval0 hW hcnd _
  have hval : ∀ (j : Nat) t v, Try.f7.params[j]? = some t → args[j]? = some v → Value.okWide Try.prog W .any base t v := hval0
  have hW' := hW
  obtain ⟨p, q, hA0, hV, rfl, hfz, hnd⟩ := hW
  have hA : DataW.TrodAll enc Try.prog W 0 (fun _ => true) true Try.f7.params.toList args.toList ds p := hA0
  rw [Try.params7] at hA hval
  obtain ⟨v0, v1, v2, d0, d1, d2, p0, p1, p2, rfl, rfl, rfl, h0, h1, h2⟩ := trodAll_three hA
  obtain ⟨rfl, rfl⟩ := trodVars_none hV
  have h0k := h0
  have h1k := h1
  have h2k := h2
  clear hA0 hval0
  simp only [List.append_nil] at hW'
  have hlt0 : ∀ x ∈ p0, x.block < W.heap.size := fun x hx => by simpa using hW'.lt x (by simp [hx])
  have hlt1 : ∀ x ∈ p1, x.block < W.heap.size := fun x hx => by simpa using hW'.lt x (by simp [hx])
  have hlt2 : ∀ x ∈ p2, x.block < W.heap.size := fun x hx => by simpa using hW'.lt x (by simp [hx])
  obtain ⟨cs, rfl, _⟩ := okWide_struct Try.underlying58 (hval 0 58 v0 rfl rfl)
  obtain ⟨a1, n1, c1, rfl⟩ := okWide_slice Try.underlying47 (hval 1 47 v1 rfl rfl)
  obtain ⟨i, rfl⟩ := okWide_int Try.underlying3 (hval 2 3 v2 rfl rfl)
  obtain ⟨r, c, l, vl, hr, hc, il, ll⟩ := Am.openRaw rfl h0
  obtain ⟨fu, h1f⟩ := h1
  obtain ⟨u, m, e1, vm, im, lm⟩ := Am.openB h1f
  have e2 : Value.slice a1 n1 c1 = u := by simpa using e1
  subst e2
  have hspec := (Am.lawRows r c l m i hr hc il im lm) (fun b => b < W.heap.size) W #[.agg cs, .slice a1 n1 c1, .int .i64 i] (fun b h => h) rfl (fun j d v hd hv => by
    rcases j with _ | _ | _ | j
    · simp at hd hv; subst hd; subst hv; exact vl
    · simp at hd hv; subst hd; subst hv; exact vm
    · simp at hd hv; subst hd; subst hv; exact .i _ _
    · simp at hd)
  refine hspec.2.mono ?_
  rintro e W' ⟨v, rfl, hb, hv⟩
  cases hv
  exact ⟨_, rfl, ⟨_, _, _, [], _, [], hW', trodAll_mk1 (shut_bool Try.underlying4 true), trodAll_mk3 (Below.trod laid8 (by kernel_rfl) (of_decide_eq_true (by kernel_rfl)) h0k hb hlt0) (Below.trod laid8 (by kernel_rfl) (of_decide_eq_true (by kernel_rfl)) h1k hb hlt1) (Below.trod laid8 (by kernel_rfl) (of_decide_eq_true (by kernel_rfl)) h2k hb hlt2), rfl, hb.frame _, fun h => by cases h⟩⟩

theorem sparseRows_holds : Rows.SparseRowsSaid :=
  OpenClaim.holds_of_wide 7 Try.f7 rfl rfl rfl rfl rfl rfl rfl ⟨rfl, rfl, rfl, rfl, rfl⟩ rfl rfl rfl rfl rfl (by kernel_rfl) Try.func7 (by kernel_rfl)
    (of_decide_eq_true (by kernel_rfl)) (by unfold Func.isWrapper; rw [if_neg (of_decide_eq_false (by kernel_rfl))]; exact ⟨rfl, rfl⟩)
    (fun os started H enc _ => rows_lifted os started H enc)

end Go.Proofs.Ytmnjglpieghdkaa
