/- SparseMatchesReference: for every input the law answers true, and its arguments read as they did. No condition. -/
import Derived.Test.YtmnjglpieghdkaaSs
import Derived.ProofKit
import Derived.OpenShut
import Derived.Test.YtmnjglpieghdkaaMy
import Derived.Test.YtmnjglpieghdkaaMx
import Derived.Test.YtmnjglpieghdkaaMn
import Derived.Test.YtmnjglpieghdkaaRows
open Go Go.Am Go.Proofs
namespace Go.Am
set_option linter.unusedSimpArgs false
open Go.ChangeShapes Go.WideShapes Go.ChangeAt Go.RowKit

theorem cell_ltO {w : World} {a : Addr} {v : Value} (h : w.cell? a = some v) : a.block < w.heap.size := by
  unfold World.cell? at h
  cases hb : w.heap[a.block]? with
  | none => rw [hb] at h; cases h
  | some o => exact (Array.getElem?_eq_some_iff.1 hb).1
theorem listOf {α : Type} {Q : Nat → α → Prop} : ∀ {n : Nat}, (∀ i, i < n → ∃ y, Q i y) → ∃ l : List α, l.length = n ∧ ∀ (i : Nat) (y : α), l[i]? = some y → Q i y
  | 0, _ => ⟨[], rfl, fun i y h => by simp at h⟩
  | n + 1, h => by
    obtain ⟨l, hl, hq⟩ := listOf (n := n) fun i hi => h i (Nat.lt_succ_of_lt hi)
    obtain ⟨y, hy⟩ := h n (Nat.lt_succ_self n)
    refine ⟨l ++ [y], by simp [hl], fun i z hz => ?_⟩
    rcases Nat.lt_or_ge i l.length with h1 | h1
    · rw [List.getElem?_append_left h1] at hz; exact hq i z hz
    · rw [List.getElem?_append_right h1] at hz
      have h2 : i - l.length = 0 := by
        rcases Nat.eq_zero_or_pos (i - l.length) with h3 | h3
        · exact h3
        · rw [List.getElem?_eq_none (by simp; omega)] at hz; cases hz
      rw [h2] at hz
      simp at hz
      subst hz
      rwa [show i = n by omega]
theorem cells_get {w : World} {n : Nat} {a : Addr} {cs : List Value} (h : w.cells? 0 a n = some cs) : ∀ k, k < n → w.cell? (a.add k) = cs[k]? := by
  intro k hk
  unfold World.cells? at h
  rw [if_pos (Nat.zero_le _)] at h
  have := mapM_some_get h k k (by simp [hk])
  exact this

theorem openSlice {α : Type} {P : Program} {H : Type} {enc : TypeId × Value → H} {w : World} {sp : Nat → Bool} {held : Bool} {t e : TypeId} {cs : List Value} {x : DataW H × List MemPlace} {fuel : Nat} (ht : P.underlying t = some (.slice e)) (hc : 0 < P.cellsOf e) (E : α → List D) (good : α → Prop)
    (hE : ∀ (fuel : Nat) (cs : List Value) (x : DataW H × List MemPlace), DataW.trod enc P w 0 sp held fuel e cs = some x → ∃ y : α, good y ∧ (E y).length = P.cellsOf e ∧ ∀ (k : Nat) (c : D) (v : Value), (E y)[k]? = some c → cs[k]? = some v → VD (fun b => b < w.heap.size) w c v)
    (hf : DataW.trod enc P w 0 sp held fuel t cs = some x) : ∃ (v : Value) (l : List α), cs = [v] ∧ VD (fun b => b < w.heap.size) w (.sl (l.map E)) v ∧ (∀ y ∈ l, good y) ∧ l.length ≤ 9223372036854775807 := by
  rcases DataW.trod_slice ht hf with ⟨hcs, _⟩ | ⟨a, len, cap, elems, rest, n, _, hcs, _, _, hlc, hcm, hel, hEl, _⟩
  · exact ⟨_, [], hcs, .sl0 _ _, (fun p hp => by cases hp), Nat.zero_le _⟩
  · have each : ∀ i, i < len → ∃ y : α, good y ∧ (E y).length = P.cellsOf e ∧ ∀ (k : Nat), k < P.cellsOf e → ∃ v, w.cell? (a.add (i * P.cellsOf e + k)) = some v ∧ ∀ c : D, (E y)[k]? = some c → VD (fun b => b < w.heap.size) w c v := by
      intro i hi
      have h1 := hEl i hi
      rw [List.getElem?_eq_getElem (by omega)] at h1
      obtain ⟨vs, h2, h3⟩ := Option.bind_eq_some_iff.1 h1
      obtain ⟨y, g, hy, hv⟩ := hE _ _ _ h3
      refine ⟨y, g, hy, fun k hk => ?_⟩
      have h4 := cells_get h2 k hk
      rw [add_add] at h4
      have h5 : k < vs.length := by
        unfold World.cells? at h2
        rw [if_pos (Nat.zero_le _)] at h2
        have := mapM_some_length h2
        simp at this; omega
      rw [List.getElem?_eq_getElem h5] at h4
      exact ⟨_, h4, fun c hc => hv k c _ hc (List.getElem?_eq_getElem h5)⟩
    obtain ⟨l, hl, hq⟩ := listOf each
    have hgood : ∀ y ∈ l, good y := fun y hy => by
      obtain ⟨i, hi, rfl⟩ := List.mem_iff_getElem.1 hy
      exact (hq i _ (List.getElem?_eq_getElem hi)).1
    refine ⟨_, l, hcs, ?_, hgood, by rw [hl]; exact Nat.le_trans hlc hcm⟩
    rcases Nat.eq_zero_or_pos len with h0 | hpos
    · have : l = [] := List.eq_nil_of_length_eq_zero (by omega)
      subst this; subst h0; exact .sl0 _ _
    · have hab : a.block < w.heap.size := by
        obtain ⟨y, _, _, hy⟩ := each 0 hpos
        obtain ⟨v, hv, _⟩ := hy 0 hc
        have := cell_ltO hv
        rwa [block_add] at this
      refine .sl _ a len cap (P.cellsOf e) (fun j => (w.cell? (a.add j)).getD undef) (by simp [hl]) hlc (fun cs hcs => ?_) hab (fun j hj => ?_) (fun j k cs c hj hk => ?_)
      · obtain ⟨y, hy, rfl⟩ := List.mem_map.1 hcs
        obtain ⟨i, hi, rfl⟩ := List.mem_iff_getElem.1 hy
        exact (hq i _ (List.getElem?_eq_getElem hi)).2.1
      · have hd : j / P.cellsOf e < len := Nat.div_lt_of_lt_mul (by rwa [Nat.mul_comm] at hj)
        obtain ⟨y, _, _, hy⟩ := each _ hd
        obtain ⟨v, hv, _⟩ := hy (j % P.cellsOf e) (Nat.mod_lt _ hc)
        rw [Nat.mul_comm, Nat.div_add_mod] at hv
        simp [hv]
      · rw [List.getElem?_map, Option.map_eq_some_iff] at hj
        obtain ⟨y, hy, rfl⟩ := hj
        obtain ⟨_, h6, h7⟩ := hq j y hy
        obtain ⟨v, hv, hvc⟩ := h7 k (by rw [← h6]; exact (List.getElem?_eq_some_iff.1 hk).1)
        simp only [hv, Option.getD_some]
        exact hvc c hk

/-- Limbs that came in. -/
theorem openLimbs {P : Program} {H : Type} {enc : TypeId × Value → H} {w : World} {sp : Nat → Bool} {held : Bool} {t e : TypeId} {cs : List Value} {x : DataW H × List MemPlace} {fuel : Nat} (ht : P.underlying t = some (.slice e)) (he : P.underlying e = some (.int .u32)) (ce : P.cellsOf e = 1)
    (hf : DataW.trod enc P w 0 sp held fuel t cs = some x) : ∃ (v : Value) (m : List Nat), cs = [v] ∧ VD (fun b => b < w.heap.size) w (encM m) v ∧ m.length ≤ 9223372036854775807 := by
  obtain ⟨v, m, h1, h2, _, h4⟩ := openSlice ht (by omega) (fun n : Nat => [D.i .u32 (n : Int)]) (fun _ => True) (fun fuel cs x h => by
    obtain ⟨a, q1, _, w1⟩ := DataW.trod_int he h
    subst q1
    have hmin : IntKind.u32.min = 0 := rfl
    simp only [Lit.wf, Bool.and_eq_true, decide_eq_true_eq] at w1
    refine ⟨a.toNat, trivial, by simp [ce], fun k c v hk hv => ?_⟩
    rcases k with _ | k
    · simp at hk hv
      subst hk; subst hv
      rw [show max a 0 = a by omega]
      exact .i _ _
    · simp at hk) hf
  exact ⟨v, m, h1, h2, h4⟩

end Go.Am

open Go Go.Am Go.Proofs
namespace Go.Am
set_option linter.unusedSimpArgs false

theorem vecZ_bd (l : List Int) (n : Nat) : Bd 9 (vecZ l n) := fun x hx => by
  obtain ⟨j, _, rfl⟩ := List.mem_map.1 hx
  exact vz1_bnd l j

set_option maxHeartbeats 16000000 in
set_option maxRecDepth 10000 in
theorem lawMatches (r c r2 c2 : Nat) (l m n : List Int) (hr : r ≤ 255) (hc : c ≤ 255) (hc2 : c2 ≤ 255) (hl8 : ∀ x ∈ l, -128 ≤ x ∧ x ≤ 127) (hm8 : ∀ x ∈ m, -128 ≤ x ∧ x ≤ 127) (hn8 : ∀ x ∈ n, -128 ≤ x ∧ x ≤ 127) (hn : n.length ≤ 9223372036854775807) :
    Spec Try.prog 10 [encRaw r c l, encRaw r2 c2 m, encB n] (.b true) := by
  refine spec_of (N := 120) follows_mixed Try.func10 rfl rfl rfl (by kernel_rfl) (by kernel_rfl) (by simp) ?_
  have hr5 : r % 6 ≤ 5 := by have := Nat.mod_lt r (show 0 < 6 by decide); omega
  have hc5 : c % 6 ≤ 5 := by have := Nat.mod_lt c (show 0 < 6 by decide); omega
  have hd5 : c2 % 6 ≤ 5 := by have := Nat.mod_lt c2 (show 0 < 6 by decide); omega
  have hw2 : IntKind.i64.wrap (c2 : Int) = c2 := wrap_i64 (by omega) (by omega)
  have ht2 : (c2 : Int).tmod 6 = ((c2 % 6 : Nat) : Int) := by
    rw [show (6 : Int) = ((6 : Nat) : Int) from rfl, ← Int.ofNat_tmod]
  have sA : Spec Try.prog 34 [encRaw r c l, .i .i64 5] (encMat (r % 6 : Nat) (c % 6 : Nat) (szMat l (c % 6) (r % 6))) := r06Made r c l 5 hl8 (by decide) hr hc
  have sB := r06Sized r2 c2 m (c % 6) (c2 % 6) hm8 (by omega) (by omega)
  generalize hrr : r % 6 = rr at *
  generalize hcc : c % 6 = cc at *
  generalize hdd : c2 % 6 = dd at *
  have sV := r06Vec n rr hn8 hn (by omega)
  clear hrr hcc hr hc hl8 hm8 hn8 hn
  have fr : ∀ (l : List Int) (cc rr : Nat), rr ≤ 5 → cc ≤ 5 → Spec Try.prog 33 [encMat rr cc (szMat l cc rr)] (encSp rr cc ((szMat l cc rr).map (rw0 0))) := fun l cc rr h1 h2 => by
    have hml := szMat_len l cc rr
    have := r06From (cc : Int) (szMat l cc rr) (by rw [hml]; omega) (fun v hv => by
      obtain ⟨j, _, rfl⟩ := List.mem_map.1 hv
      rw [szRow_len]; omega)
    rwa [hml] at this
  have fA := fr l cc rr hr5 hc5
  have fB := fr m dd cc hc5 hd5
  clear fr
  have mA := szMat_mx l cc rr
  have mB := szMat_mx m dd cc
  have lA : ((szMat l cc rr).map (rw0 0)).length = rr := by rw [List.length_map, szMat_len]
  have lB : ((szMat m dd cc).map (rw0 0)).length = cc := by rw [List.length_map, szMat_len]
  have hvb := vecZ_bd n rr
  have hvl := vecZ_len n rr
  generalize (szMat l cc rr).map (rw0 0) = A at *
  generalize (szMat m dd cc).map (rw0 0) = B at *
  generalize szMat l cc rr = A0 at *
  generalize szMat m dd cc = B0 at *
  generalize vecZ n rr = v at *
  have oA := mA.ok (by decide) (by omega) (by omega)
  have oB := mB.ok (by decide) (by omega) (by omega)
  have rlA : ∀ r ∈ A, r.length ≤ 1000 := fun r hr => Nat.le_trans (srt_len0 (mA.srt r hr) (mA.col r hr)) (by omega)
  have mAB : Mx dd 1000000 (A.map (mulR B)) := (mA.mul mB).mono (Nat.le_trans (Nat.mul_le_mul_right _ hc5) (by decide))
  have sAB := mulS mA mB lA lB (by omega) (by omega) (by omega) (by decide) (by decide)
  have rAB := r06Mul (fun r hr => ⟨mA.srt r hr, mA.col r hr, (mA.bd r hr).mono (by decide)⟩) (fun r hr => ⟨mB.srt r hr, mB.col r hr, (mB.bd r hr).mono (by decide)⟩) lB (by omega) (by omega) (by omega)
  rw [lA] at rAB
  have eAB := eqS (r := rr) (c := dd) mAB (by decide) (by omega) (by rw [List.length_map]; omega)
  have sT := spTimes oA v (by omega) (by omega) (by omega) (fun x hx => Nat.le_trans (hvb x hx) (by decide)) (fun r hr => ⟨rlA r hr, fun x hx => Nat.le_trans (mA.bd r hr x hx) (by decide)⟩)
  have rT' := r06Times v mA.srt mA.col (by omega) (by omega) (by omega) (fun x hx => Nat.le_trans (hvb x hx) (by decide)) (fun r hr => (mA.bd r hr).mono (by decide))
  have hzin : ∀ p ∈ v.zip A, p.1 ∈ v ∧ p.2 ∈ A := fun p hp => List.of_mem_zip (a := p.1) (b := p.2) hp
  have hzS : ∀ x ∈ fullR (rT (v.zip A)) cc, Sz x := fun x hx => by
    have hsr := rT_srt fun p hp => mA.srt _ (hzin p hp).2
    rw [fullR_dense hsr] at hx
    obtain ⟨k, _, rfl⟩ := List.mem_map.1 hx
    have hb := rT_bd (b := 9) (e := 9) _ (z := v.zip A) rfl fun p hp => ⟨hvb _ (hzin p hp).1, mA.bd _ (hzin p hp).2⟩
    have h1 := cz_bdR (k : Int) hsr hb
    have h2 : (v.zip A).length ≤ 5 := by rw [List.length_zip]; omega
    exact sz_small (Nat.le_trans h1 (Nat.le_trans (Nat.mul_le_mul_right _ h2) (by decide)))
  have eV := r06SameVec hzS hzS (by rw [fullR_len]; omega)
  rw [decide_eq_true rfl] at eV
  rw [times_full mA.srt mA.col] at sT
  rw [lA] at sT rT'
  have tA := trS mA lA (by omega) (by omega) (by decide)
  have rA := r06Trans (c := cc) mA.srt (fun r hr => Nat.le_trans (rlA r hr) (by decide)) lA (by omega) (by omega)
  have mTA := mA.tr
  have eT := eqS (r := cc) (c := rr) mTA (by decide) (by omega) (by rw [trL_len]; omega)
  have nA := spNonzero rr cc A (by omega) (fun r hr => Nat.le_trans (rlA r hr) (by decide))
  have nR := r06Nonzero rr cc A (by omega) (fun r hr => Nat.le_trans (rlA r hr) (by decide))
  have toA := r06To (rr : Int) cc A (by omega) (by omega) (fun r hr => Nat.le_trans (rlA r hr) (by decide))
  have hvo : VOk cc (A.map fun r => fullR r cc) := by
    refine ⟨fun v hv => ?_, fun v hv x hx => ?_, by rw [List.length_map]; omega, by omega⟩
    · obtain ⟨r, _, rfl⟩ := List.mem_map.1 hv; exact fullR_len r cc
    · obtain ⟨r, hr, rfl⟩ := List.mem_map.1 hv
      rw [fullR_dense (mA.srt r hr)] at hx
      obtain ⟨k, _, rfl⟩ := List.mem_map.1 hx
      exact sz_small (Nat.le_trans (cz_bdR (k : Int) (mA.srt r hr) (mA.bd r hr)) (by decide))
  have frA := spFrom hvo
  have hback : (A.map fun r => fullR r cc).map (rw0 0) = A := by
    rw [List.map_map]
    conv => rhs; rw [← List.map_id A]
    refine List.map_congr_left fun r hr => ?_
    show rw0 0 (fullR r cc) = r
    rw [fullR_dense (mA.srt r hr), rw0_dense (mA.srt r hr) (mA.col r hr)]
  rw [hback, List.length_map, lA] at frA
  have eA := eqS (r := rr) (c := cc) mA (by decide) (by omega) (by omega)
  have qAB := spEqual rr cc cc dd oA.ok oB.ok (by omega)
  have qABr := r06Equal rr cc cc dd oA.ok oB.ok (by omega) (by omega)
  have qAA := spEqual rr cc rr cc oA.ok oA.ok (by omega)
  simp only [and_self, decide_true] at qAA
  have vA := spValidZ oA
  rw [lA] at vA
  generalize decide ((rr : Int) = cc ∧ (cc : Int) = dd ∧ A = B) = t at *
  clear mTA mAB hback hvo oA oB rlA hzS hzin mA mB hvb
  generalize A.map (mulR B) = AB at *
  generalize trL cc A = TA at *
  generalize fullR (rT (v.zip A)) cc = w at *
  generalize (A.map fun r => fullR r cc) = DA at *
  have htt : (t == t) = true := by simp
  have hnn : (((nzL A : Nat) : Int) == ((nzL A : Nat) : Int)) = true := by simp
  generalize nzL A = nz at *
  simp (config := { maxSteps := 1000000 }) [-List.map_map, -List.mapM_map, ↓awp_skip, ↓awp_regionB, ↓awp_seq, ↓awp_block, ↓awp_exit, ↓awp_ret, ↓awp_label, ↓awp_scope, ↓awp_condB, ↓awp_loopB, ↓ow_nil', ↓ow_cons0, ↓ow_cons1, ↓o1_move, ↓o1_assign, ↓o1_pick, ↓o1_alloc, ↓o1_box, ↓o1_build, ↓o1_buildSlice, ↓o1_makeSlice, ↓o1_makeMap, ↓o1_binOp, ↓o1_unOp, ↓o1_convert, ↓o1_fieldAddr, ↓o1_field, ↓o1_indexAddr, ↓o1_extract, ↓o1_slice, ↓o1_len, ↓o1_max, ↓o1_min, ↓o1_load, ↓o1_lookup, ↓o1_store, ↓o1_mapUpdate, ↓o1_append, ↓o1_delete, ↓o1_call, encRaw, encB]
  refine callP_intro (ds := []) (by rfl) sanity06 ?_
  simp (config := { maxSteps := 1000000 }) [-List.map_map, -List.mapM_map, ↓awp_skip, ↓awp_regionB, ↓awp_seq, ↓awp_block, ↓awp_exit, ↓awp_ret, ↓awp_label, ↓awp_scope, ↓awp_condB, ↓awp_loopB, ↓ow_nil', ↓ow_cons0, ↓ow_cons1, ↓o1_move, ↓o1_assign, ↓o1_pick, ↓o1_alloc, ↓o1_box, ↓o1_build, ↓o1_buildSlice, ↓o1_makeSlice, ↓o1_makeMap, ↓o1_binOp, ↓o1_unOp, ↓o1_convert, ↓o1_fieldAddr, ↓o1_field, ↓o1_indexAddr, ↓o1_extract, ↓o1_slice, ↓o1_len, ↓o1_max, ↓o1_min, ↓o1_load, ↓o1_lookup, ↓o1_store, ↓o1_mapUpdate, ↓o1_append, ↓o1_delete, ↓o1_call, encRaw, encB]
  refine callP_intro (ds := [encRaw r c l, .i .i64 5]) (by rfl) sA ?_
  simp (config := { maxSteps := 1000000 }) [-List.map_map, -List.mapM_map, ↓awp_skip, ↓awp_regionB, ↓awp_seq, ↓awp_block, ↓awp_exit, ↓awp_ret, ↓awp_label, ↓awp_scope, ↓awp_condB, ↓awp_loopB, ↓ow_nil', ↓ow_cons0, ↓ow_cons1, ↓o1_move, ↓o1_assign, ↓o1_pick, ↓o1_alloc, ↓o1_box, ↓o1_build, ↓o1_buildSlice, ↓o1_makeSlice, ↓o1_makeMap, ↓o1_binOp, ↓o1_unOp, ↓o1_convert, ↓o1_fieldAddr, ↓o1_field, ↓o1_indexAddr, ↓o1_extract, ↓o1_slice, ↓o1_len, ↓o1_max, ↓o1_min, ↓o1_load, ↓o1_lookup, ↓o1_store, ↓o1_mapUpdate, ↓o1_append, ↓o1_delete, ↓o1_call, encMat]
  refine callP_intro (ds := [encMat rr cc A0]) (by rfl) fA ?_
  simp (config := { maxSteps := 1000000 }) [-List.map_map, -List.mapM_map, ↓awp_skip, ↓awp_regionB, ↓awp_seq, ↓awp_block, ↓awp_exit, ↓awp_ret, ↓awp_label, ↓awp_scope, ↓awp_condB, ↓awp_loopB, ↓ow_nil', ↓ow_cons0, ↓ow_cons1, ↓o1_move, ↓o1_assign, ↓o1_pick, ↓o1_alloc, ↓o1_box, ↓o1_build, ↓o1_buildSlice, ↓o1_makeSlice, ↓o1_makeMap, ↓o1_binOp, ↓o1_unOp, ↓o1_convert, ↓o1_fieldAddr, ↓o1_field, ↓o1_indexAddr, ↓o1_extract, ↓o1_slice, ↓o1_len, ↓o1_max, ↓o1_min, ↓o1_load, ↓o1_lookup, ↓o1_store, ↓o1_mapUpdate, ↓o1_append, ↓o1_delete, ↓o1_call, encSp, hw2, ht2]
  refine callP_intro (ds := [encRaw r2 c2 m, .i .i64 cc, .i .i64 dd]) (by rfl) sB ?_
  simp (config := { maxSteps := 1000000 }) [-List.map_map, -List.mapM_map, ↓awp_skip, ↓awp_regionB, ↓awp_seq, ↓awp_block, ↓awp_exit, ↓awp_ret, ↓awp_label, ↓awp_scope, ↓awp_condB, ↓awp_loopB, ↓ow_nil', ↓ow_cons0, ↓ow_cons1, ↓o1_move, ↓o1_assign, ↓o1_pick, ↓o1_alloc, ↓o1_box, ↓o1_build, ↓o1_buildSlice, ↓o1_makeSlice, ↓o1_makeMap, ↓o1_binOp, ↓o1_unOp, ↓o1_convert, ↓o1_fieldAddr, ↓o1_field, ↓o1_indexAddr, ↓o1_extract, ↓o1_slice, ↓o1_len, ↓o1_max, ↓o1_min, ↓o1_load, ↓o1_lookup, ↓o1_store, ↓o1_mapUpdate, ↓o1_append, ↓o1_delete, ↓o1_call, encMat]
  refine callP_intro (ds := [encMat cc dd B0]) (by rfl) fB ?_
  simp (config := { maxSteps := 1000000 }) [-List.map_map, -List.mapM_map, ↓awp_skip, ↓awp_regionB, ↓awp_seq, ↓awp_block, ↓awp_exit, ↓awp_ret, ↓awp_label, ↓awp_scope, ↓awp_condB, ↓awp_loopB, ↓ow_nil', ↓ow_cons0, ↓ow_cons1, ↓o1_move, ↓o1_assign, ↓o1_pick, ↓o1_alloc, ↓o1_box, ↓o1_build, ↓o1_buildSlice, ↓o1_makeSlice, ↓o1_makeMap, ↓o1_binOp, ↓o1_unOp, ↓o1_convert, ↓o1_fieldAddr, ↓o1_field, ↓o1_indexAddr, ↓o1_extract, ↓o1_slice, ↓o1_len, ↓o1_max, ↓o1_min, ↓o1_load, ↓o1_lookup, ↓o1_store, ↓o1_mapUpdate, ↓o1_append, ↓o1_delete, ↓o1_call, encSp]
  refine callP_intro (ds := [encB n, .i .i64 rr]) (by rfl) sV ?_
  simp (config := { maxSteps := 1000000 }) [-List.map_map, -List.mapM_map, ↓awp_skip, ↓awp_regionB, ↓awp_seq, ↓awp_block, ↓awp_exit, ↓awp_ret, ↓awp_label, ↓awp_scope, ↓awp_condB, ↓awp_loopB, ↓ow_nil', ↓ow_cons0, ↓ow_cons1, ↓o1_move, ↓o1_assign, ↓o1_pick, ↓o1_alloc, ↓o1_box, ↓o1_build, ↓o1_buildSlice, ↓o1_makeSlice, ↓o1_makeMap, ↓o1_binOp, ↓o1_unOp, ↓o1_convert, ↓o1_fieldAddr, ↓o1_field, ↓o1_indexAddr, ↓o1_extract, ↓o1_slice, ↓o1_len, ↓o1_max, ↓o1_min, ↓o1_load, ↓o1_lookup, ↓o1_store, ↓o1_mapUpdate, ↓o1_append, ↓o1_delete, ↓o1_call, encV2]
  refine callP_intro (ds := [encSp rr cc A, encSp cc dd B]) (by rfl) sAB ?_
  simp (config := { maxSteps := 1000000 }) [-List.map_map, -List.mapM_map, ↓awp_skip, ↓awp_regionB, ↓awp_seq, ↓awp_block, ↓awp_exit, ↓awp_ret, ↓awp_label, ↓awp_scope, ↓awp_condB, ↓awp_loopB, ↓ow_nil', ↓ow_cons0, ↓ow_cons1, ↓o1_move, ↓o1_assign, ↓o1_pick, ↓o1_alloc, ↓o1_box, ↓o1_build, ↓o1_buildSlice, ↓o1_makeSlice, ↓o1_makeMap, ↓o1_binOp, ↓o1_unOp, ↓o1_convert, ↓o1_fieldAddr, ↓o1_field, ↓o1_indexAddr, ↓o1_extract, ↓o1_slice, ↓o1_len, ↓o1_max, ↓o1_min, ↓o1_load, ↓o1_lookup, ↓o1_store, ↓o1_mapUpdate, ↓o1_append, ↓o1_delete, ↓o1_call, encSp]
  refine callP_intro (ds := [encSp rr cc A, encSp cc dd B]) (by rfl) rAB ?_
  simp (config := { maxSteps := 1000000 }) [-List.map_map, -List.mapM_map, ↓awp_skip, ↓awp_regionB, ↓awp_seq, ↓awp_block, ↓awp_exit, ↓awp_ret, ↓awp_label, ↓awp_scope, ↓awp_condB, ↓awp_loopB, ↓ow_nil', ↓ow_cons0, ↓ow_cons1, ↓o1_move, ↓o1_assign, ↓o1_pick, ↓o1_alloc, ↓o1_box, ↓o1_build, ↓o1_buildSlice, ↓o1_makeSlice, ↓o1_makeMap, ↓o1_binOp, ↓o1_unOp, ↓o1_convert, ↓o1_fieldAddr, ↓o1_field, ↓o1_indexAddr, ↓o1_extract, ↓o1_slice, ↓o1_len, ↓o1_max, ↓o1_min, ↓o1_load, ↓o1_lookup, ↓o1_store, ↓o1_mapUpdate, ↓o1_append, ↓o1_delete, ↓o1_call, encSp]
  refine callP_intro (ds := [encV2 v, encSp rr cc A]) (by rfl) sT ?_
  simp (config := { maxSteps := 1000000 }) [-List.map_map, -List.mapM_map, ↓awp_skip, ↓awp_regionB, ↓awp_seq, ↓awp_block, ↓awp_exit, ↓awp_ret, ↓awp_label, ↓awp_scope, ↓awp_condB, ↓awp_loopB, ↓ow_nil', ↓ow_cons0, ↓ow_cons1, ↓o1_move, ↓o1_assign, ↓o1_pick, ↓o1_alloc, ↓o1_box, ↓o1_build, ↓o1_buildSlice, ↓o1_makeSlice, ↓o1_makeMap, ↓o1_binOp, ↓o1_unOp, ↓o1_convert, ↓o1_fieldAddr, ↓o1_field, ↓o1_indexAddr, ↓o1_extract, ↓o1_slice, ↓o1_len, ↓o1_max, ↓o1_min, ↓o1_load, ↓o1_lookup, ↓o1_store, ↓o1_mapUpdate, ↓o1_append, ↓o1_delete, ↓o1_call, encV2]
  refine callP_intro (ds := [encV2 v, encSp rr cc A]) (by rfl) rT' ?_
  simp (config := { maxSteps := 1000000 }) [-List.map_map, -List.mapM_map, ↓awp_skip, ↓awp_regionB, ↓awp_seq, ↓awp_block, ↓awp_exit, ↓awp_ret, ↓awp_label, ↓awp_scope, ↓awp_condB, ↓awp_loopB, ↓ow_nil', ↓ow_cons0, ↓ow_cons1, ↓o1_move, ↓o1_assign, ↓o1_pick, ↓o1_alloc, ↓o1_box, ↓o1_build, ↓o1_buildSlice, ↓o1_makeSlice, ↓o1_makeMap, ↓o1_binOp, ↓o1_unOp, ↓o1_convert, ↓o1_fieldAddr, ↓o1_field, ↓o1_indexAddr, ↓o1_extract, ↓o1_slice, ↓o1_len, ↓o1_max, ↓o1_min, ↓o1_load, ↓o1_lookup, ↓o1_store, ↓o1_mapUpdate, ↓o1_append, ↓o1_delete, ↓o1_call, encV2]
  refine callP_intro (ds := [encSp rr dd AB, encSp rr dd AB]) (by rfl) eAB ?_
  simp (config := { maxSteps := 1000000 }) [-List.map_map, -List.mapM_map, ↓awp_skip, ↓awp_regionB, ↓awp_seq, ↓awp_block, ↓awp_exit, ↓awp_ret, ↓awp_label, ↓awp_scope, ↓awp_condB, ↓awp_loopB, ↓ow_nil', ↓ow_cons0, ↓ow_cons1, ↓o1_move, ↓o1_assign, ↓o1_pick, ↓o1_alloc, ↓o1_box, ↓o1_build, ↓o1_buildSlice, ↓o1_makeSlice, ↓o1_makeMap, ↓o1_binOp, ↓o1_unOp, ↓o1_convert, ↓o1_fieldAddr, ↓o1_field, ↓o1_indexAddr, ↓o1_extract, ↓o1_slice, ↓o1_len, ↓o1_max, ↓o1_min, ↓o1_load, ↓o1_lookup, ↓o1_store, ↓o1_mapUpdate, ↓o1_append, ↓o1_delete, ↓o1_call, ]
  refine callP_intro (ds := [encV2 w, encV2 w]) (by rfl) eV ?_
  simp (config := { maxSteps := 1000000 }) [-List.map_map, -List.mapM_map, ↓awp_skip, ↓awp_regionB, ↓awp_seq, ↓awp_block, ↓awp_exit, ↓awp_ret, ↓awp_label, ↓awp_scope, ↓awp_condB, ↓awp_loopB, ↓ow_nil', ↓ow_cons0, ↓ow_cons1, ↓o1_move, ↓o1_assign, ↓o1_pick, ↓o1_alloc, ↓o1_box, ↓o1_build, ↓o1_buildSlice, ↓o1_makeSlice, ↓o1_makeMap, ↓o1_binOp, ↓o1_unOp, ↓o1_convert, ↓o1_fieldAddr, ↓o1_field, ↓o1_indexAddr, ↓o1_extract, ↓o1_slice, ↓o1_len, ↓o1_max, ↓o1_min, ↓o1_load, ↓o1_lookup, ↓o1_store, ↓o1_mapUpdate, ↓o1_append, ↓o1_delete, ↓o1_call, ]
  refine callP_intro (ds := [encSp rr cc A]) (by rfl) tA ?_
  simp (config := { maxSteps := 1000000 }) [-List.map_map, -List.mapM_map, ↓awp_skip, ↓awp_regionB, ↓awp_seq, ↓awp_block, ↓awp_exit, ↓awp_ret, ↓awp_label, ↓awp_scope, ↓awp_condB, ↓awp_loopB, ↓ow_nil', ↓ow_cons0, ↓ow_cons1, ↓o1_move, ↓o1_assign, ↓o1_pick, ↓o1_alloc, ↓o1_box, ↓o1_build, ↓o1_buildSlice, ↓o1_makeSlice, ↓o1_makeMap, ↓o1_binOp, ↓o1_unOp, ↓o1_convert, ↓o1_fieldAddr, ↓o1_field, ↓o1_indexAddr, ↓o1_extract, ↓o1_slice, ↓o1_len, ↓o1_max, ↓o1_min, ↓o1_load, ↓o1_lookup, ↓o1_store, ↓o1_mapUpdate, ↓o1_append, ↓o1_delete, ↓o1_call, encSp]
  refine callP_intro (ds := [encSp rr cc A]) (by rfl) rA ?_
  simp (config := { maxSteps := 1000000 }) [-List.map_map, -List.mapM_map, ↓awp_skip, ↓awp_regionB, ↓awp_seq, ↓awp_block, ↓awp_exit, ↓awp_ret, ↓awp_label, ↓awp_scope, ↓awp_condB, ↓awp_loopB, ↓ow_nil', ↓ow_cons0, ↓ow_cons1, ↓o1_move, ↓o1_assign, ↓o1_pick, ↓o1_alloc, ↓o1_box, ↓o1_build, ↓o1_buildSlice, ↓o1_makeSlice, ↓o1_makeMap, ↓o1_binOp, ↓o1_unOp, ↓o1_convert, ↓o1_fieldAddr, ↓o1_field, ↓o1_indexAddr, ↓o1_extract, ↓o1_slice, ↓o1_len, ↓o1_max, ↓o1_min, ↓o1_load, ↓o1_lookup, ↓o1_store, ↓o1_mapUpdate, ↓o1_append, ↓o1_delete, ↓o1_call, encSp]
  refine callP_intro (ds := [encSp cc rr TA, encSp cc rr TA]) (by rfl) eT ?_
  simp (config := { maxSteps := 1000000 }) [-List.map_map, -List.mapM_map, ↓awp_skip, ↓awp_regionB, ↓awp_seq, ↓awp_block, ↓awp_exit, ↓awp_ret, ↓awp_label, ↓awp_scope, ↓awp_condB, ↓awp_loopB, ↓ow_nil', ↓ow_cons0, ↓ow_cons1, ↓o1_move, ↓o1_assign, ↓o1_pick, ↓o1_alloc, ↓o1_box, ↓o1_build, ↓o1_buildSlice, ↓o1_makeSlice, ↓o1_makeMap, ↓o1_binOp, ↓o1_unOp, ↓o1_convert, ↓o1_fieldAddr, ↓o1_field, ↓o1_indexAddr, ↓o1_extract, ↓o1_slice, ↓o1_len, ↓o1_max, ↓o1_min, ↓o1_load, ↓o1_lookup, ↓o1_store, ↓o1_mapUpdate, ↓o1_append, ↓o1_delete, ↓o1_call, ]
  refine callP_intro (ds := [encSp rr cc A]) (by rfl) nA ?_
  simp (config := { maxSteps := 1000000 }) [-List.map_map, -List.mapM_map, ↓awp_skip, ↓awp_regionB, ↓awp_seq, ↓awp_block, ↓awp_exit, ↓awp_ret, ↓awp_label, ↓awp_scope, ↓awp_condB, ↓awp_loopB, ↓ow_nil', ↓ow_cons0, ↓ow_cons1, ↓o1_move, ↓o1_assign, ↓o1_pick, ↓o1_alloc, ↓o1_box, ↓o1_build, ↓o1_buildSlice, ↓o1_makeSlice, ↓o1_makeMap, ↓o1_binOp, ↓o1_unOp, ↓o1_convert, ↓o1_fieldAddr, ↓o1_field, ↓o1_indexAddr, ↓o1_extract, ↓o1_slice, ↓o1_len, ↓o1_max, ↓o1_min, ↓o1_load, ↓o1_lookup, ↓o1_store, ↓o1_mapUpdate, ↓o1_append, ↓o1_delete, ↓o1_call, ]
  refine callP_intro (ds := [encSp rr cc A]) (by rfl) nR ?_
  simp (config := { maxSteps := 1000000 }) [-List.map_map, -List.mapM_map, ↓awp_skip, ↓awp_regionB, ↓awp_seq, ↓awp_block, ↓awp_exit, ↓awp_ret, ↓awp_label, ↓awp_scope, ↓awp_condB, ↓awp_loopB, ↓ow_nil', ↓ow_cons0, ↓ow_cons1, ↓o1_move, ↓o1_assign, ↓o1_pick, ↓o1_alloc, ↓o1_box, ↓o1_build, ↓o1_buildSlice, ↓o1_makeSlice, ↓o1_makeMap, ↓o1_binOp, ↓o1_unOp, ↓o1_convert, ↓o1_fieldAddr, ↓o1_field, ↓o1_indexAddr, ↓o1_extract, ↓o1_slice, ↓o1_len, ↓o1_max, ↓o1_min, ↓o1_load, ↓o1_lookup, ↓o1_store, ↓o1_mapUpdate, ↓o1_append, ↓o1_delete, ↓o1_call, hnn]
  refine callP_intro (ds := [encSp rr cc A]) (by rfl) toA ?_
  simp (config := { maxSteps := 1000000 }) [-List.map_map, -List.mapM_map, ↓awp_skip, ↓awp_regionB, ↓awp_seq, ↓awp_block, ↓awp_exit, ↓awp_ret, ↓awp_label, ↓awp_scope, ↓awp_condB, ↓awp_loopB, ↓ow_nil', ↓ow_cons0, ↓ow_cons1, ↓o1_move, ↓o1_assign, ↓o1_pick, ↓o1_alloc, ↓o1_box, ↓o1_build, ↓o1_buildSlice, ↓o1_makeSlice, ↓o1_makeMap, ↓o1_binOp, ↓o1_unOp, ↓o1_convert, ↓o1_fieldAddr, ↓o1_field, ↓o1_indexAddr, ↓o1_extract, ↓o1_slice, ↓o1_len, ↓o1_max, ↓o1_min, ↓o1_load, ↓o1_lookup, ↓o1_store, ↓o1_mapUpdate, ↓o1_append, ↓o1_delete, ↓o1_call, encMat]
  refine callP_intro (ds := [encMat rr cc DA]) (by rfl) frA ?_
  simp (config := { maxSteps := 1000000 }) [-List.map_map, -List.mapM_map, ↓awp_skip, ↓awp_regionB, ↓awp_seq, ↓awp_block, ↓awp_exit, ↓awp_ret, ↓awp_label, ↓awp_scope, ↓awp_condB, ↓awp_loopB, ↓ow_nil', ↓ow_cons0, ↓ow_cons1, ↓o1_move, ↓o1_assign, ↓o1_pick, ↓o1_alloc, ↓o1_box, ↓o1_build, ↓o1_buildSlice, ↓o1_makeSlice, ↓o1_makeMap, ↓o1_binOp, ↓o1_unOp, ↓o1_convert, ↓o1_fieldAddr, ↓o1_field, ↓o1_indexAddr, ↓o1_extract, ↓o1_slice, ↓o1_len, ↓o1_max, ↓o1_min, ↓o1_load, ↓o1_lookup, ↓o1_store, ↓o1_mapUpdate, ↓o1_append, ↓o1_delete, ↓o1_call, encSp]
  refine callP_intro (ds := [encSp rr cc A, encSp rr cc A]) (by rfl) eA ?_
  simp (config := { maxSteps := 1000000 }) [-List.map_map, -List.mapM_map, ↓awp_skip, ↓awp_regionB, ↓awp_seq, ↓awp_block, ↓awp_exit, ↓awp_ret, ↓awp_label, ↓awp_scope, ↓awp_condB, ↓awp_loopB, ↓ow_nil', ↓ow_cons0, ↓ow_cons1, ↓o1_move, ↓o1_assign, ↓o1_pick, ↓o1_alloc, ↓o1_box, ↓o1_build, ↓o1_buildSlice, ↓o1_makeSlice, ↓o1_makeMap, ↓o1_binOp, ↓o1_unOp, ↓o1_convert, ↓o1_fieldAddr, ↓o1_field, ↓o1_indexAddr, ↓o1_extract, ↓o1_slice, ↓o1_len, ↓o1_max, ↓o1_min, ↓o1_load, ↓o1_lookup, ↓o1_store, ↓o1_mapUpdate, ↓o1_append, ↓o1_delete, ↓o1_call, ]
  refine callP_intro (ds := [encSp rr cc A, encSp cc dd B]) (by rfl) qAB ?_
  simp (config := { maxSteps := 1000000 }) [-List.map_map, -List.mapM_map, ↓awp_skip, ↓awp_regionB, ↓awp_seq, ↓awp_block, ↓awp_exit, ↓awp_ret, ↓awp_label, ↓awp_scope, ↓awp_condB, ↓awp_loopB, ↓ow_nil', ↓ow_cons0, ↓ow_cons1, ↓o1_move, ↓o1_assign, ↓o1_pick, ↓o1_alloc, ↓o1_box, ↓o1_build, ↓o1_buildSlice, ↓o1_makeSlice, ↓o1_makeMap, ↓o1_binOp, ↓o1_unOp, ↓o1_convert, ↓o1_fieldAddr, ↓o1_field, ↓o1_indexAddr, ↓o1_extract, ↓o1_slice, ↓o1_len, ↓o1_max, ↓o1_min, ↓o1_load, ↓o1_lookup, ↓o1_store, ↓o1_mapUpdate, ↓o1_append, ↓o1_delete, ↓o1_call, ]
  refine callP_intro (ds := [encSp rr cc A, encSp cc dd B]) (by rfl) qABr ?_
  simp (config := { maxSteps := 1000000 }) [-List.map_map, -List.mapM_map, ↓awp_skip, ↓awp_regionB, ↓awp_seq, ↓awp_block, ↓awp_exit, ↓awp_ret, ↓awp_label, ↓awp_scope, ↓awp_condB, ↓awp_loopB, ↓ow_nil', ↓ow_cons0, ↓ow_cons1, ↓o1_move, ↓o1_assign, ↓o1_pick, ↓o1_alloc, ↓o1_box, ↓o1_build, ↓o1_buildSlice, ↓o1_makeSlice, ↓o1_makeMap, ↓o1_binOp, ↓o1_unOp, ↓o1_convert, ↓o1_fieldAddr, ↓o1_field, ↓o1_indexAddr, ↓o1_extract, ↓o1_slice, ↓o1_len, ↓o1_max, ↓o1_min, ↓o1_load, ↓o1_lookup, ↓o1_store, ↓o1_mapUpdate, ↓o1_append, ↓o1_delete, ↓o1_call, htt]
  refine callP_intro (ds := [encSp rr cc A, encSp rr cc A]) (by rfl) qAA ?_
  simp (config := { maxSteps := 1000000 }) [-List.map_map, -List.mapM_map, ↓awp_skip, ↓awp_regionB, ↓awp_seq, ↓awp_block, ↓awp_exit, ↓awp_ret, ↓awp_label, ↓awp_scope, ↓awp_condB, ↓awp_loopB, ↓ow_nil', ↓ow_cons0, ↓ow_cons1, ↓o1_move, ↓o1_assign, ↓o1_pick, ↓o1_alloc, ↓o1_box, ↓o1_build, ↓o1_buildSlice, ↓o1_makeSlice, ↓o1_makeMap, ↓o1_binOp, ↓o1_unOp, ↓o1_convert, ↓o1_fieldAddr, ↓o1_field, ↓o1_indexAddr, ↓o1_extract, ↓o1_slice, ↓o1_len, ↓o1_max, ↓o1_min, ↓o1_load, ↓o1_lookup, ↓o1_store, ↓o1_mapUpdate, ↓o1_append, ↓o1_delete, ↓o1_call, ]
  refine callP_intro (ds := [encSp rr cc A]) (by rfl) vA ?_
  simp (config := { maxSteps := 1000000 }) [-List.map_map, -List.mapM_map, ↓awp_skip, ↓awp_regionB, ↓awp_seq, ↓awp_block, ↓awp_exit, ↓awp_ret, ↓awp_label, ↓awp_scope, ↓awp_condB, ↓awp_loopB, ↓ow_nil', ↓ow_cons0, ↓ow_cons1, ↓o1_move, ↓o1_assign, ↓o1_pick, ↓o1_alloc, ↓o1_box, ↓o1_build, ↓o1_buildSlice, ↓o1_makeSlice, ↓o1_makeMap, ↓o1_binOp, ↓o1_unOp, ↓o1_convert, ↓o1_fieldAddr, ↓o1_field, ↓o1_indexAddr, ↓o1_extract, ↓o1_slice, ↓o1_len, ↓o1_max, ↓o1_min, ↓o1_load, ↓o1_lookup, ↓o1_store, ↓o1_mapUpdate, ↓o1_append, ↓o1_delete, ↓o1_call, ]

end Go.Am

open Go Go.Am Go.Proofs
namespace Go.Am
open Go.ChangeShapes Go.WideShapes Go.ChangeAt Go.RowKit

theorem d58 : Try.prog.cellsOf 58 = 3 := by kernel_rfl
theorem d5 : Try.prog.cellsOf 5 = 1 := by kernel_rfl
theorem d47 : Try.prog.cellsOf 47 = 1 := by kernel_rfl
theorem d36 : Try.prog.cellsOf 36 = 1 := by kernel_rfl
theorem len3r {α : Type} {l : List α} (h : l.length = 3) : ∃ a b c, l = [a, b, c] := by
  match l, h with
  | [a, b, c], _ => exact ⟨a, b, c, rfl⟩
theorem wf_i8 {n : Int} (h : (Lit.int .i8 n).wf = true) : -128 ≤ n ∧ n ≤ 127 := by
  have hmin : IntKind.i8.min = -128 := rfl
  have hmax : IntKind.i8.max = 127 := rfl
  simp only [Lit.wf, Bool.and_eq_true, decide_eq_true_eq] at h
  omega
theorem wf_u8 {n : Int} (h : (Lit.int .u8 n).wf = true) : 0 ≤ n ∧ n ≤ 255 := by
  have hmin : IntKind.u8.min = 0 := rfl
  have hmax : IntKind.u8.max = 255 := rfl
  simp only [Lit.wf, Bool.and_eq_true, decide_eq_true_eq] at h
  omega

section
variable {H : Type} {enc : TypeId × Value → H} {w : World} {sp : Nat → Bool} {held : Bool}
theorem openB {cs : List Value} {x : DataW H × List MemPlace} {fuel : Nat} (hf : DataW.trod enc Try.prog w 0 sp held fuel 47 cs = some x) :
    ∃ (u : Value) (l : List Int), cs = [u] ∧ VD (fun b => b < w.heap.size) w (encB l) u ∧ (∀ x ∈ l, -128 ≤ x ∧ x ≤ 127) ∧ l.length ≤ 9223372036854775807 :=
  openSlice Try.underlying47 (by rw [d36]; decide) (fun n : Int => [D.i .i8 n]) (fun x => -128 ≤ x ∧ x ≤ 127) (fun fuel cs x h => by
    obtain ⟨a, q1, _, w1⟩ := DataW.trod_int Try.underlying36 h
    subst q1
    refine ⟨a, wf_i8 w1, by rw [d36]; rfl, fun k c v hk hv => ?_⟩
    rcases k with _ | k
    · simp at hk hv
      subst hk; subst hv
      exact .i _ _
    · simp at hk) hf

theorem openRaw {v : Value} {d : DataW H} {ps : List MemPlace} {cs : Array Value} (hv : v = .agg cs) (h : DataW.Trod enc Try.prog w 0 sp held 58 v d ps) :
    ∃ (r c : Nat) (l : List Int), VD (fun b => b < w.heap.size) w (encRaw r c l) v ∧ r ≤ 255 ∧ c ≤ 255 ∧ (∀ x ∈ l, -128 ≤ x ∧ x ≤ 127) ∧ l.length ≤ 9223372036854775807 := by
  subst hv
  obtain ⟨fuel, hf⟩ := h
  obtain ⟨xs, n, _, _, hl, hlen, hfs⟩ := DataW.trod_struct Try.underlying58 hf
  rw [d58] at hl
  have h0 := hfs 0 { name := "Rows", type := 5, offset := 0, embedded := false, tag := "", pkgPath := "", byteOffset := 0 } rfl
  have h1 := hfs 1 { name := "Cols", type := 5, offset := 1, embedded := false, tag := "", pkgPath := "", byteOffset := 1 } rfl
  have h2 := hfs 2 { name := "A", type := 47, offset := 2, embedded := false, tag := "", pkgPath := "", byteOffset := 8 } rfl
  obtain ⟨x0, hx0⟩ : ∃ x, xs[0]? = some x := ⟨_, List.getElem?_eq_getElem (by rw [hlen]; decide)⟩
  obtain ⟨x1, hx1⟩ : ∃ x, xs[1]? = some x := ⟨_, List.getElem?_eq_getElem (by rw [hlen]; decide)⟩
  obtain ⟨x2, hx2⟩ : ∃ x, xs[2]? = some x := ⟨_, List.getElem?_eq_getElem (by rw [hlen]; decide)⟩
  rw [hx0] at h0; rw [hx1] at h1; rw [hx2] at h2
  simp only [Value.cells] at h0 h1 h2 hl
  obtain ⟨cs⟩ := cs
  simp only at h0 h1 h2 hl
  obtain ⟨a, b, c, rfl⟩ := len3r hl
  simp only [d5, d47, List.drop_zero, List.drop_succ_cons, List.take_succ_cons, List.take_zero] at h0 h1 h2
  obtain ⟨i, e1, _, w1⟩ := DataW.trod_int Try.underlying5 h0
  obtain ⟨j, e2, _, w2⟩ := DataW.trod_int Try.underlying5 h1
  obtain ⟨u, l, e3, hu, hg, hL⟩ := openB h2
  injection e1 with e1; injection e2 with e2; injection e3 with e3
  subst e1; subst e2; subst e3
  have b1 := wf_u8 w1
  have b2 := wf_u8 w2
  obtain ⟨r, rfl⟩ : ∃ r : Nat, i = r := ⟨i.toNat, by omega⟩
  obtain ⟨c, rfl⟩ : ∃ r : Nat, j = r := ⟨j.toNat, by omega⟩
  refine ⟨r, c, l, .ag _ _ rfl fun k d v hk hv => ?_, by omega, by omega, hg, hL⟩
  rcases k with _ | _ | _ | k
  · simp at hk hv; subst hk; subst hv; exact .i _ _
  · simp at hk hv; subst hk; subst hv; exact .i _ _
  · simp at hk hv; subst hk; subst hv; exact hu
  · simp at hk
end

end Go.Am
namespace Go.Proofs.Ytmnjglpieghdkaa
theorem own8 : ownKnob Try.prog.godebug = none := by kernel_rfl
theorem laid8 : laidOutB Try.prog = true := by kernel_rfl
end Go.Proofs.Ytmnjglpieghdkaa

open Go Go.Am Go.Proofs
namespace Go.Proofs.Ytmnjglpieghdkaa
open Go.ChangeShapes Go.WideShapes Go.ChangeAt Go.RowKit

set_option maxRecDepth 100000 in
theorem matches_lifted (os : Os) (started : os.Started) (H : Type) (enc : TypeId × Value → H) :
    ReturnsInHanded {} Try.checked os 10 .any (Rows.sparseMatchesReferenceSpec.pre6 enc Try.prog Try.f10 Rows.sparseMatchesReferenceRow.domain false) (Rows.sparseMatchesReferenceSpec.post enc Try.prog Try.f10 false true false false) := by
  refine returnsInHanded_of_change (C := Try.checked) own8 started (by kernel_rfl) Try.func10
    (ChangeSpec.witness6 (enc := enc) (C := Try.checked) false ⟨#[], #[.agg #[.int .u8 0, .int .u8 0, .slice none 0 0], .agg #[.int .u8 0, .int .u8 0, .slice none 0 0], .slice none 0 0], []⟩ 8 (by kernel_rfl) (by kernel_rfl) (by kernel_rfl) (by kernel_rfl)) ?_
  intro W base args ds gs before hval0 hW hcnd _
  have hval : ∀ (j : Nat) t v, Try.f10.params[j]? = some t → args[j]? = some v → Value.okWide Try.prog W .any base t v := hval0
  have hW' := hW
  obtain ⟨p, q, hA0, hV, rfl, hfz, hnd⟩ := hW
  have hA : DataW.TrodAll enc Try.prog W 0 (fun _ => true) true Try.f10.params.toList args.toList ds p := hA0
  rw [Try.params10] at hA hval
  obtain ⟨v0, v1, v2, d0, d1, d2, p0, p1, p2, rfl, rfl, rfl, h0, h1, h2⟩ := trodAll_three hA
  obtain ⟨rfl, rfl⟩ := trodVars_none hV
  clear hA0 hval0
  simp only [List.append_nil] at hW'
  have hlt0 : ∀ x ∈ p0, x.block < W.heap.size := fun x hx => by simpa using hW'.lt x (by simp [hx])
  have hlt1 : ∀ x ∈ p1, x.block < W.heap.size := fun x hx => by simpa using hW'.lt x (by simp [hx])
  have hlt2 : ∀ x ∈ p2, x.block < W.heap.size := fun x hx => by simpa using hW'.lt x (by simp [hx])
  obtain ⟨cs0, rfl, _⟩ := okWide_struct Try.underlying58 (hval 0 58 v0 rfl rfl)
  obtain ⟨cs1, rfl, _⟩ := okWide_struct Try.underlying58 (hval 1 58 v1 rfl rfl)
  obtain ⟨a1, n1, c1, rfl⟩ := okWide_slice Try.underlying47 (hval 2 47 v2 rfl rfl)
  obtain ⟨r, c, l, vl, hr, hc, il, _⟩ := Am.openRaw rfl h0
  obtain ⟨r2, c2, m, vm, _, hc2, im, _⟩ := Am.openRaw rfl h1
  have h2k := h2
  obtain ⟨fu, h2f⟩ := h2
  obtain ⟨u, n, e1, vn, jn, ln⟩ := Am.openB h2f
  have e2 : Value.slice a1 n1 c1 = u := by simpa using e1
  subst e2
  have hspec := (Am.lawMatches r c r2 c2 l m n hr hc hc2 il im jn ln) (fun b => b < W.heap.size) W #[.agg cs0, .agg cs1, .slice a1 n1 c1] (fun b h => h) rfl (fun j d v hd hv => by
    rcases j with _ | _ | _ | j
    · simp at hd hv; subst hd; subst hv; exact vl
    · simp at hd hv; subst hd; subst hv; exact vm
    · simp at hd hv; subst hd; subst hv; exact vn
    · simp at hd)
  refine hspec.2.mono ?_
  rintro e W' ⟨v, rfl, hb, hv⟩
  cases hv
  exact ⟨_, rfl, ⟨_, _, _, [], _, [], hW', trodAll_mk1 (shut_bool Try.underlying4 true), trodAll_mk3 (Below.trod laid8 (by kernel_rfl) (of_decide_eq_true (by kernel_rfl)) h0 hb hlt0) (Below.trod laid8 (by kernel_rfl) (of_decide_eq_true (by kernel_rfl)) h1 hb hlt1) (Below.trod laid8 (by kernel_rfl) (of_decide_eq_true (by kernel_rfl)) h2k hb hlt2), rfl, hb.frame _, fun h => by cases h⟩⟩

theorem sparseMatchesReference_holds : Rows.SparseMatchesReferenceSaid :=
  OpenClaim.holds_of_wide 10 Try.f10 rfl rfl rfl rfl rfl rfl rfl ⟨rfl, rfl, rfl, rfl, rfl⟩ rfl rfl rfl rfl rfl (by kernel_rfl) Try.func10 (by kernel_rfl)
    (of_decide_eq_true (by kernel_rfl)) (by unfold Func.isWrapper; rw [if_neg (of_decide_eq_false (by kernel_rfl))]; exact ⟨rfl, rfl⟩)
    (fun os started H enc _ => matches_lifted os started H enc)

end Go.Proofs.Ytmnjglpieghdkaa
