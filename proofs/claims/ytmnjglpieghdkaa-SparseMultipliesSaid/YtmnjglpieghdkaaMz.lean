/- SparseMultiplies: for every input the law answers true, and its arguments read as they did. No condition. -/
import Derived.Test.YtmnjglpieghdkaaSs
import Derived.ProofKit
import Derived.OpenShut
import Derived.Test.YtmnjglpieghdkaaMx
import Derived.Test.YtmnjglpieghdkaaMy
import Derived.Test.YtmnjglpieghdkaaRows
open Go Go.Am Go.Proofs
namespace Go.Am
set_option linter.unusedSimpArgs false
open Go.ChangeShapes Go.WideShapes Go.ChangeAt Go.RowKit

theorem cell_ltO {w : World} {a : Addr} {v : Value} (h : w.cell? a = some v) : a.block < w.heap.size := by
  unfold World.cell? at h
  cases hb : w.heap[a.block]? with
  | none => rw [hb] at h; cases h
  | some o => exact (Array.getElem?_eq_some_iff.1 hb).1
theorem listOf {α : Type} {Q : Nat → α → Prop} : ∀ {n : Nat}, (∀ i, i < n → ∃ y, Q i y) → ∃ l : List α, l.length = n ∧ ∀ (i : Nat) (y : α), l[i]? = some y → Q i y
  | 0, _ => ⟨[], rfl, fun i y h => by simp at h⟩
  | n + 1, h => by
    obtain ⟨l, hl, hq⟩ := listOf (n := n) fun i hi => h i (Nat.lt_succ_of_lt hi)
    obtain ⟨y, hy⟩ := h n (Nat.lt_succ_self n)
    refine ⟨l ++ [y], by simp [hl], fun i z hz => ?_⟩
    rcases Nat.lt_or_ge i l.length with h1 | h1
    · rw [List.getElem?_append_left h1] at hz; exact hq i z hz
    · rw [List.getElem?_append_right h1] at hz
      have h2 : i - l.length = 0 := by
        rcases Nat.eq_zero_or_pos (i - l.length) with h3 | h3
        · exact h3
        · rw [List.getElem?_eq_none (by simp; omega)] at hz; cases hz
      rw [h2] at hz
      simp at hz
      subst hz
      rwa [show i = n by omega]
theorem cells_get {w : World} {n : Nat} {a : Addr} {cs : List Value} (h : w.cells? 0 a n = some cs) : ∀ k, k < n → w.cell? (a.add k) = cs[k]? := by
  intro k hk
  unfold World.cells? at h
  rw [if_pos (Nat.zero_le _)] at h
  have := mapM_some_get h k k (by simp [hk])
  exact this

theorem openSlice {α : Type} {P : Program} {H : Type} {enc : TypeId × Value → H} {w : World} {sp : Nat → Bool} {held : Bool} {t e : TypeId} {cs : List Value} {x : DataW H × List MemPlace} {fuel : Nat} (ht : P.underlying t = some (.slice e)) (hc : 0 < P.cellsOf e) (E : α → List D) (good : α → Prop)
    (hE : ∀ (fuel : Nat) (cs : List Value) (x : DataW H × List MemPlace), DataW.trod enc P w 0 sp held fuel e cs = some x → ∃ y : α, good y ∧ (E y).length = P.cellsOf e ∧ ∀ (k : Nat) (c : D) (v : Value), (E y)[k]? = some c → cs[k]? = some v → VD (fun b => b < w.heap.size) w c v)
    (hf : DataW.trod enc P w 0 sp held fuel t cs = some x) : ∃ (v : Value) (l : List α), cs = [v] ∧ VD (fun b => b < w.heap.size) w (.sl (l.map E)) v ∧ (∀ y ∈ l, good y) ∧ l.length ≤ 9223372036854775807 := by
  rcases DataW.trod_slice ht hf with ⟨hcs, _⟩ | ⟨a, len, cap, elems, rest, n, _, hcs, _, _, hlc, hcm, hel, hEl, _⟩
  · exact ⟨_, [], hcs, .sl0 _ _, (fun p hp => by cases hp), Nat.zero_le _⟩
  · have each : ∀ i, i < len → ∃ y : α, good y ∧ (E y).length = P.cellsOf e ∧ ∀ (k : Nat), k < P.cellsOf e → ∃ v, w.cell? (a.add (i * P.cellsOf e + k)) = some v ∧ ∀ c : D, (E y)[k]? = some c → VD (fun b => b < w.heap.size) w c v := by
      intro i hi
      have h1 := hEl i hi
      rw [List.getElem?_eq_getElem (by omega)] at h1
      obtain ⟨vs, h2, h3⟩ := Option.bind_eq_some_iff.1 h1
      obtain ⟨y, g, hy, hv⟩ := hE _ _ _ h3
      refine ⟨y, g, hy, fun k hk => ?_⟩
      have h4 := cells_get h2 k hk
      rw [add_add] at h4
      have h5 : k < vs.length := by
        unfold World.cells? at h2
        rw [if_pos (Nat.zero_le _)] at h2
        have := mapM_some_length h2
        simp at this; omega
      rw [List.getElem?_eq_getElem h5] at h4
      exact ⟨_, h4, fun c hc => hv k c _ hc (List.getElem?_eq_getElem h5)⟩
    obtain ⟨l, hl, hq⟩ := listOf each
    have hgood : ∀ y ∈ l, good y := fun y hy => by
      obtain ⟨i, hi, rfl⟩ := List.mem_iff_getElem.1 hy
      exact (hq i _ (List.getElem?_eq_getElem hi)).1
    refine ⟨_, l, hcs, ?_, hgood, by rw [hl]; exact Nat.le_trans hlc hcm⟩
    rcases Nat.eq_zero_or_pos len with h0 | hpos
    · have : l = [] := List.eq_nil_of_length_eq_zero (by omega)
      subst this; subst h0; exact .sl0 _ _
    · have hab : a.block < w.heap.size := by
        obtain ⟨y, _, _, hy⟩ := each 0 hpos
        obtain ⟨v, hv, _⟩ := hy 0 hc
        have := cell_ltO hv
        rwa [block_add] at this
      refine .sl _ a len cap (P.cellsOf e) (fun j => (w.cell? (a.add j)).getD undef) (by simp [hl]) hlc (fun cs hcs => ?_) hab (fun j hj => ?_) (fun j k cs c hj hk => ?_)
      · obtain ⟨y, hy, rfl⟩ := List.mem_map.1 hcs
        obtain ⟨i, hi, rfl⟩ := List.mem_iff_getElem.1 hy
        exact (hq i _ (List.getElem?_eq_getElem hi)).2.1
      · have hd : j / P.cellsOf e < len := Nat.div_lt_of_lt_mul (by rwa [Nat.mul_comm] at hj)
        obtain ⟨y, _, _, hy⟩ := each _ hd
        obtain ⟨v, hv, _⟩ := hy (j % P.cellsOf e) (Nat.mod_lt _ hc)
        rw [Nat.mul_comm, Nat.div_add_mod] at hv
        simp [hv]
      · rw [List.getElem?_map, Option.map_eq_some_iff] at hj
        obtain ⟨y, hy, rfl⟩ := hj
        obtain ⟨_, h6, h7⟩ := hq j y hy
        obtain ⟨v, hv, hvc⟩ := h7 k (by rw [← h6]; exact (List.getElem?_eq_some_iff.1 hk).1)
        simp only [hv, Option.getD_some]
        exact hvc c hk

/-- Limbs that came in. -/
theorem openLimbs {P : Program} {H : Type} {enc : TypeId × Value → H} {w : World} {sp : Nat → Bool} {held : Bool} {t e : TypeId} {cs : List Value} {x : DataW H × List MemPlace} {fuel : Nat} (ht : P.underlying t = some (.slice e)) (he : P.underlying e = some (.int .u32)) (ce : P.cellsOf e = 1)
    (hf : DataW.trod enc P w 0 sp held fuel t cs = some x) : ∃ (v : Value) (m : List Nat), cs = [v] ∧ VD (fun b => b < w.heap.size) w (encM m) v ∧ m.length ≤ 9223372036854775807 := by
  obtain ⟨v, m, h1, h2, _, h4⟩ := openSlice ht (by omega) (fun n : Nat => [D.i .u32 (n : Int)]) (fun _ => True) (fun fuel cs x h => by
    obtain ⟨a, q1, _, w1⟩ := DataW.trod_int he h
    subst q1
    have hmin : IntKind.u32.min = 0 := rfl
    simp only [Lit.wf, Bool.and_eq_true, decide_eq_true_eq] at w1
    refine ⟨a.toNat, trivial, by simp [ce], fun k c v hk hv => ?_⟩
    rcases k with _ | k
    · simp at hk hv
      subst hk; subst hv
      rw [show max a 0 = a by omega]
      exact .i _ _
    · simp at hk) hf
  exact ⟨v, m, h1, h2, h4⟩

end Go.Am

open Go Go.Am Go.Proofs
namespace Go.Am
set_option linter.unusedSimpArgs false

/-- A valid matrix with bounded elements. -/
structure Mx (c b : Nat) (L : List (List (Int × Int))) : Prop where
  srt : ∀ r ∈ L, Srt r
  col : ∀ r ∈ L, ColIn (c : Int) r
  bd : ∀ r ∈ L, BdR b r
theorem Mx.ok {c b : Nat} {L : List (List (Int × Int))} (h : Mx c b L) (hb : b ≤ 100000000000000000000) (hc : c ≤ 1000000) (hl : L.length ≤ 1000000) : MOk (c : Int) L :=
  ⟨h.srt, h.col, fun r hr => ⟨fun x hx => sz_small (Nat.le_trans (h.bd r hr x hx) hb), Nat.le_trans (srt_len0 (h.srt r hr) (h.col r hr)) (by omega)⟩, Int.natCast_nonneg _, hl⟩
theorem Mx.mono {c b b' : Nat} {L : List (List (Int × Int))} (h : Mx c b L) (hb : b ≤ b') : Mx c b' L := ⟨h.srt, h.col, fun r hr => (h.bd r hr).mono hb⟩
theorem Mx.mul {ca cb a b : Nat} {A B : List (List (Int × Int))} (hA : Mx ca a A) (hB : Mx cb b B) : Mx cb (ca * (a * b)) (A.map (mulR B)) := by
  refine ⟨fun r hr => ?_, fun r hr => ?_, fun r hr => ?_⟩
  · obtain ⟨x, _, rfl⟩ := List.mem_map.1 hr; exact mulR_srt hB.srt x
  · obtain ⟨x, _, rfl⟩ := List.mem_map.1 hr; exact mulR_col hB.col x
  · obtain ⟨x, hx, rfl⟩ := List.mem_map.1 hr
    exact (mulR_bd hB.bd (hA.bd x hx)).mono (Nat.mul_le_mul_right _ (srt_len0 (hA.srt x hx) (hA.col x hx)))
theorem Mx.tr {c b : Nat} {L : List (List (Int × Int))} (h : Mx c b L) : Mx L.length b (trL c L) := by
  refine ⟨fun r hr => ?_, fun r hr => ?_, fun r hr x hx => ?_⟩
  · obtain ⟨k, _, rfl⟩ := List.mem_map.1 hr; exact rw0_srt _ _
  · obtain ⟨k, _, rfl⟩ := List.mem_map.1 hr
    intro x hx
    have := rw0_mem _ _ _ hx
    rw [List.length_map] at this
    exact ⟨by omega, by omega⟩
  · obtain ⟨k, _, rfl⟩ := List.mem_map.1 hr
    obtain ⟨_, _, h3, _⟩ := rw0_mem _ _ _ hx
    obtain ⟨y, hy, e⟩ := List.mem_map.1 h3
    rw [← e]; exact cz_bdR _ (h.srt y hy) (h.bd y hy)
theorem szMat_mx (l : List Int) (cc rr : Nat) : Mx cc 9 ((szMat l cc rr).map (rw0 0)) := by
  have hm : ∀ r ∈ (szMat l cc rr).map (rw0 0), ∃ i, r = rw0 0 (szRow l cc i cc) := fun r h => by
    obtain ⟨v, hv, rfl⟩ := List.mem_map.1 h
    obtain ⟨i, _, rfl⟩ := List.mem_map.1 hv
    exact ⟨i, rfl⟩
  refine ⟨fun r h => ?_, fun r h x hx => ?_, fun r h x hx => ?_⟩
  · obtain ⟨i, rfl⟩ := hm r h; exact rw0_srt _ _
  · obtain ⟨i, rfl⟩ := hm r h
    have := rw0_mem _ _ _ hx
    rw [szRow_len] at this
    exact ⟨by omega, by omega⟩
  · obtain ⟨i, rfl⟩ := hm r h
    obtain ⟨_, _, h3, _⟩ := rw0_mem _ _ _ hx
    obtain ⟨j, _, e⟩ := List.mem_map.1 h3
    have := vz1_bnd l (i * cc + j)
    rw [← e]; omega

theorem r06ValidZ {c : Int} {L : List (List (Int × Int))} (h : MOk c L) : Spec Try.prog 24 [encSp L.length c L] (.b true) := by
  have h1 := r06Valid L.length c (L.map fun r => r.map tmZ) (fun r hr => by
    obtain ⟨x, hx, rfl⟩ := List.mem_map.1 hr
    refine ⟨fun t ht => ?_, ?_⟩
    · obtain ⟨y, hy, rfl⟩ := List.mem_map.1 ht
      exact Nat.le_trans ((h.ok x hx).1 y hy) (by decide)
    · rw [List.length_map]; exact Nat.le_trans (h.ok x hx).2 (by decide)) (by rw [List.length_map]; exact Nat.le_trans h.len (by decide))
  rw [encS_tmZ] at h1
  have h2 : matR L.length c (L.map fun r => r.map tmZ) = true := matR_true (by simp) (by have := h.pos; omega) fun j hj r hr => by
    rw [List.getElem?_map] at hr
    obtain ⟨x, hx, rfl⟩ := Option.map_eq_some_iff.1 hr
    have hm := List.mem_of_getElem? hx
    exact rowR_tmZ (h.srt x hm) (h.col x hm)
  rwa [h2] at h1

theorem eqS {r c : Int} {L : List (List (Int × Int))} {k b : Nat} (h : Mx k b L) (hb : b ≤ 100000000000000000000) (hk : k ≤ 1000000) (hl : L.length ≤ 1000000) : Spec Try.prog 39 [encSp r c L, encSp r c L] (.b true) := by
  have hok := (h.ok hb hk hl).ok
  have := r06Equal r c r c hok hok hl hl
  simpa only [and_self, decide_true] using this

/-- Products and transposes of small matrices. -/
theorem mulS {ca cb a b ra : Nat} {A B : List (List (Int × Int))} (hA : Mx ca a A) (hB : Mx cb b B) (hra : A.length = ra) (hcb : B.length = ca) (h1 : ra ≤ 1000) (h2 : ca ≤ 1000) (h3 : cb ≤ 1000) (h4 : a ≤ 1000000) (h5 : b ≤ 1000000) :
    Spec Try.prog 41 [encSp ra ca A, encSp ca cb B] (.tp [encSp ra cb (A.map (mulR B)), .i .i64 0]) := by
  have := spMul (hA.ok (by omega) (by omega) (by omega)) (hB.ok (by omega) (by omega) (by omega)) hcb (by omega) h2 h3 (fun r hr => (hA.bd r hr).mono h4) (fun r hr => (hB.bd r hr).mono h5)
  rwa [hra, hcb] at this
theorem trS {c b ra : Nat} {A : List (List (Int × Int))} (hA : Mx c b A) (hra : A.length = ra) (h1 : ra ≤ 1000) (h2 : c ≤ 1000) (h3 : b ≤ 1000000) :
    Spec Try.prog 42 [encSp ra c A] (encSp c ra (trL c A)) := by
  have := spTrans (hA.ok (by omega) (by omega) (by omega)) (by omega) h2
  rwa [hra] at this

/-- The rounds of the law's loop. -/
theorem mulRow {ca cb b : Nat} {B : List (List (Int × Int))} {row : List (Int × Int)} (hB : Mx cb b B) (hb : b ≤ 1000000) (hcb : B.length = ca) (h2 : ca ≤ 1000) (h3 : cb ≤ 1000) (hr : Srt row) (hc : ColIn (ca : Int) row) (hrb : BdR 1000000 row) :
    ∃ v w : List Int, Spec Try.prog 44 [encC row, .i .i64 (ca : Int)] (encV2 v) ∧ Spec Try.prog 43 [encV2 v, encSp ca cb B] (.tp [encV2 w, .i .i64 0]) ∧
      Spec Try.prog 25 [encV2 w] (encC (mulR B row)) := by
  have hrl := srt_len0 hr hc
  refine ⟨fullR row ca, tiO ((fullR row ca).zip B) (List.replicate cb 0), r06Full row ca (by omega) (by omega), ?_, ?_⟩
  · have := spTimes (hB.ok (by omega) (by omega) (by omega)) (fullR row ca) h3 (by omega) (by rw [fullR_len, hcb]) (fun x hx => by
      rw [fullR_dense hr] at hx
      obtain ⟨k, _, rfl⟩ := List.mem_map.1 hx
      exact cz_bdR _ hr hrb) (fun r hr => ⟨Nat.le_trans (srt_len0 (hB.srt r hr) (hB.col r hr)) h3, (hB.bd r hr).mono hb⟩)
    rwa [hcb] at this
  · have := r06RowV (tiO ((fullR row ca).zip B) (List.replicate cb 0)) (by rw [tiO_len, List.length_replicate]; omega)
    rwa [times_mul hB.srt hB.col hcb hr hc] at this

set_option maxHeartbeats 16000000 in
set_option maxRecDepth 10000 in
theorem lawMultiplies (r c r2 c2 r3 c3 : Nat) (l m n : List Int) (hr : r ≤ 255) (hc : c ≤ 255) (hc2 : c2 ≤ 255) (hc3 : c3 ≤ 255) (hl8 : ∀ x ∈ l, -128 ≤ x ∧ x ≤ 127) (hm8 : ∀ x ∈ m, -128 ≤ x ∧ x ≤ 127) (hn8 : ∀ x ∈ n, -128 ≤ x ∧ x ≤ 127) :
    Spec Try.prog 8 [encRaw r c l, encRaw r2 c2 m, encRaw r3 c3 n] (.b true) := by
  refine spec_of (N := 186) follows_mixed Try.func8 rfl rfl rfl (by kernel_rfl) (by kernel_rfl) (by simp) ?_
  have hr5 : r % 5 ≤ 4 := by have := Nat.mod_lt r (show 0 < 5 by decide); omega
  have hc5 : c % 5 ≤ 4 := by have := Nat.mod_lt c (show 0 < 5 by decide); omega
  have hd5 : c2 % 5 ≤ 4 := by have := Nat.mod_lt c2 (show 0 < 5 by decide); omega
  have he5 : c3 % 5 ≤ 4 := by have := Nat.mod_lt c3 (show 0 < 5 by decide); omega
  have hw2 : IntKind.i64.wrap (c2 : Int) = c2 := wrap_i64 (by omega) (by omega)
  have hw3 : IntKind.i64.wrap (c3 : Int) = c3 := wrap_i64 (by omega) (by omega)
  have ht2 : (c2 : Int).tmod 5 = ((c2 % 5 : Nat) : Int) := by
    rw [show (5 : Int) = ((5 : Nat) : Int) from rfl, ← Int.ofNat_tmod]
  have ht3 : (c3 : Int).tmod 5 = ((c3 % 5 : Nat) : Int) := by
    rw [show (5 : Int) = ((5 : Nat) : Int) from rfl, ← Int.ofNat_tmod]
  have sA : Spec Try.prog 34 [encRaw r c l, .i .i64 4] (encMat (r % 5 : Nat) (c % 5 : Nat) (szMat l (c % 5) (r % 5))) := r06Made r c l 4 hl8 (by decide) hr hc
  have sB := r06Sized r2 c2 m (c % 5) (c2 % 5) hm8 (by omega) (by omega)
  have sC := r06Sized r3 c3 n (c2 % 5) (c3 % 5) hn8 (by omega) (by omega)
  generalize hrr : r % 5 = rr at *
  generalize hcc : c % 5 = cc at *
  generalize hdd : c2 % 5 = dd at *
  generalize hee : c3 % 5 = ee at *
  clear hrr hcc hr hc hl8 hm8 hn8
  have fr : ∀ (l : List Int) (cc rr : Nat), rr ≤ 4 → cc ≤ 4 → Spec Try.prog 33 [encMat rr cc (szMat l cc rr)] (encSp rr cc ((szMat l cc rr).map (rw0 0))) := fun l cc rr h1 h2 => by
    have hml := szMat_len l cc rr
    have := r06From (cc : Int) (szMat l cc rr) (by rw [hml]; omega) (fun v hv => by
      obtain ⟨j, _, rfl⟩ := List.mem_map.1 hv
      rw [szRow_len]; omega)
    rwa [hml] at this
  have fA := fr l cc rr hr5 hc5
  have fB := fr m dd cc hc5 hd5
  have fC := fr n ee dd hd5 he5
  clear fr
  have mA := szMat_mx l cc rr
  have mB := szMat_mx m dd cc
  have mC := szMat_mx n ee dd
  have lA : ((szMat l cc rr).map (rw0 0)).length = rr := by rw [List.length_map, szMat_len]
  have lB : ((szMat m dd cc).map (rw0 0)).length = cc := by rw [List.length_map, szMat_len]
  have lC : ((szMat n ee dd).map (rw0 0)).length = dd := by rw [List.length_map, szMat_len]
  generalize (szMat l cc rr).map (rw0 0) = A at *
  generalize (szMat m dd cc).map (rw0 0) = B at *
  generalize (szMat n ee dd).map (rw0 0) = C at *
  generalize szMat l cc rr = A0 at *
  generalize szMat m dd cc = B0 at *
  generalize szMat n ee dd = C0 at *
  have mAB : Mx dd 1000000 (A.map (mulR B)) := (mA.mul mB).mono (Nat.le_trans (Nat.mul_le_mul_right _ hc5) (by decide))
  have mBC : Mx ee 1000000 (B.map (mulR C)) := (mB.mul mC).mono (Nat.le_trans (Nat.mul_le_mul_right _ hd5) (by decide))
  have lAB : (A.map (mulR B)).length = rr := by rw [List.length_map, lA]
  have lBC : (B.map (mulR C)).length = cc := by rw [List.length_map, lB]
  have sAB := mulS mA mB lA lB (by omega) (by omega) (by omega) (by decide) (by decide)
  have sBC := mulS mB mC lB lC (by omega) (by omega) (by omega) (by decide) (by decide)
  have vAB := r06ValidZ (mAB.ok (by decide) (by omega) (by omega))
  have vBC := r06ValidZ (mBC.ok (by decide) (by omega) (by omega))
  rw [lAB] at vAB
  rw [lBC] at vBC
  have sL := mulS mAB mC lAB lC (by omega) (by omega) (by omega) (by decide) (by decide)
  have sR := mulS mA mBC lA lBC (by omega) (by omega) (by omega) (by decide) (by decide)
  rw [← mul_assoc mC.srt] at sR
  have mL : Mx ee 100000000 ((A.map (mulR B)).map (mulR C)) := (mAB.mul mC).mono (Nat.le_trans (Nat.mul_le_mul_right _ hd5) (by decide))
  have eL := eqS (r := rr) (c := ee) mL (by decide) (by omega) (by rw [List.length_map]; omega)
  have tB := trS mB lB (by omega) (by omega) (by decide)
  have tA := trS mA lA (by omega) (by omega) (by decide)
  have mTA := mA.tr
  have mTB := mB.tr
  rw [lA] at mTA
  rw [lB] at mTB
  have sT := mulS mTB mTA (trL_len _ _) (trL_len _ _) (by omega) (by omega) (by omega) (by decide) (by decide)
  rw [mul_tr mA.srt mA.col lB] at sT
  have tAB := trS mAB lAB (by omega) (by omega) (by decide)
  have mTAB := mAB.tr
  have eT := eqS (r := dd) (c := rr) mTAB (by decide) (by rw [lAB]; omega) (by rw [trL_len]; omega)
  have tTA := trS mTA (trL_len _ _) (by omega) (by omega) (by decide)
  have etr := tr_tr mA.srt mA.col
  rw [lA] at etr
  rw [etr] at tTA
  have eA := eqS (r := rr) (c := cc) mA (by decide) (by omega) (by omega)
  have hrow : ∀ k, k < rr → ∃ (row : List (Int × Int)) (v w : List Int), A[k]? = some row ∧ (A.map (mulR B))[k]? = some (mulR B row) ∧ Spec Try.prog 44 [encC row, .i .i64 (cc : Int)] (encV2 v) ∧
      Spec Try.prog 43 [encV2 v, encSp cc dd B] (.tp [encV2 w, .i .i64 0]) ∧ Spec Try.prog 25 [encV2 w] (encC (mulR B row)) ∧
      Spec Try.prog 29 [encC (mulR B row), encC (mulR B row)] (.b true) := fun k hk => by
    have hk2 : k < A.length := by omega
    have hg : A[k]? = some A[k] := List.getElem?_eq_getElem hk2
    have hm := List.getElem_mem hk2
    obtain ⟨v, w, q1, q2, q3⟩ := mulRow mB (by decide) lB (by omega) (by omega) (mA.srt _ hm) (mA.col _ hm) ((mA.bd _ hm).mono (by decide))
    have ho := (mAB.ok (by decide) (by omega) (by omega)).ok (mulR B A[k]) (List.mem_map_of_mem hm)
    have q4 := r06SameRow ho.1 ho.1 ho.2 ho.2
    rw [decide_eq_true rfl] at q4
    exact ⟨A[k], v, w, hg, by rw [List.getElem?_map, hg]; rfl, q1, q2, q3, q4⟩
  clear mTAB mTA mTB mL mAB mBC mA mB mC etr
  generalize (A.map (mulR B)).map (mulR C) = LR at *
  generalize trL dd (A.map (mulR B)) = T at *
  generalize hAB : A.map (mulR B) = AB at *
  generalize B.map (mulR C) = BC at *
  generalize trL dd B = TB at *
  generalize trL cc A = TA at *
  simp (config := { maxSteps := 1000000 }) [-List.map_map, -List.mapM_map, ↓awp_skip, ↓awp_regionB, ↓awp_seq, ↓awp_block, ↓awp_exit, ↓awp_ret, ↓awp_label, ↓awp_scope, ↓awp_condB, ↓awp_loopB, ↓ow_nil', ↓ow_cons0, ↓ow_cons1, ↓o1_move, ↓o1_assign, ↓o1_pick, ↓o1_alloc, ↓o1_box, ↓o1_build, ↓o1_buildSlice, ↓o1_makeSlice, ↓o1_makeMap, ↓o1_binOp, ↓o1_unOp, ↓o1_convert, ↓o1_fieldAddr, ↓o1_field, ↓o1_indexAddr, ↓o1_extract, ↓o1_slice, ↓o1_len, ↓o1_max, ↓o1_min, ↓o1_load, ↓o1_lookup, ↓o1_store, ↓o1_mapUpdate, ↓o1_append, ↓o1_delete, ↓o1_call, encRaw, encB]
  refine callP_intro (ds := []) (by rfl) sanity06 ?_
  simp (config := { maxSteps := 1000000 }) [-List.map_map, -List.mapM_map, ↓awp_skip, ↓awp_regionB, ↓awp_seq, ↓awp_block, ↓awp_exit, ↓awp_ret, ↓awp_label, ↓awp_scope, ↓awp_condB, ↓awp_loopB, ↓ow_nil', ↓ow_cons0, ↓ow_cons1, ↓o1_move, ↓o1_assign, ↓o1_pick, ↓o1_alloc, ↓o1_box, ↓o1_build, ↓o1_buildSlice, ↓o1_makeSlice, ↓o1_makeMap, ↓o1_binOp, ↓o1_unOp, ↓o1_convert, ↓o1_fieldAddr, ↓o1_field, ↓o1_indexAddr, ↓o1_extract, ↓o1_slice, ↓o1_len, ↓o1_max, ↓o1_min, ↓o1_load, ↓o1_lookup, ↓o1_store, ↓o1_mapUpdate, ↓o1_append, ↓o1_delete, ↓o1_call, encRaw, encB]
  refine callP_intro (ds := [encRaw r c l, .i .i64 4]) (by rfl) sA ?_
  simp (config := { maxSteps := 1000000 }) [-List.map_map, -List.mapM_map, ↓awp_skip, ↓awp_regionB, ↓awp_seq, ↓awp_block, ↓awp_exit, ↓awp_ret, ↓awp_label, ↓awp_scope, ↓awp_condB, ↓awp_loopB, ↓ow_nil', ↓ow_cons0, ↓ow_cons1, ↓o1_move, ↓o1_assign, ↓o1_pick, ↓o1_alloc, ↓o1_box, ↓o1_build, ↓o1_buildSlice, ↓o1_makeSlice, ↓o1_makeMap, ↓o1_binOp, ↓o1_unOp, ↓o1_convert, ↓o1_fieldAddr, ↓o1_field, ↓o1_indexAddr, ↓o1_extract, ↓o1_slice, ↓o1_len, ↓o1_max, ↓o1_min, ↓o1_load, ↓o1_lookup, ↓o1_store, ↓o1_mapUpdate, ↓o1_append, ↓o1_delete, ↓o1_call, encMat]
  refine callP_intro (ds := [encMat rr cc A0]) (by rfl) fA ?_
  simp (config := { maxSteps := 1000000 }) [-List.map_map, -List.mapM_map, ↓awp_skip, ↓awp_regionB, ↓awp_seq, ↓awp_block, ↓awp_exit, ↓awp_ret, ↓awp_label, ↓awp_scope, ↓awp_condB, ↓awp_loopB, ↓ow_nil', ↓ow_cons0, ↓ow_cons1, ↓o1_move, ↓o1_assign, ↓o1_pick, ↓o1_alloc, ↓o1_box, ↓o1_build, ↓o1_buildSlice, ↓o1_makeSlice, ↓o1_makeMap, ↓o1_binOp, ↓o1_unOp, ↓o1_convert, ↓o1_fieldAddr, ↓o1_field, ↓o1_indexAddr, ↓o1_extract, ↓o1_slice, ↓o1_len, ↓o1_max, ↓o1_min, ↓o1_load, ↓o1_lookup, ↓o1_store, ↓o1_mapUpdate, ↓o1_append, ↓o1_delete, ↓o1_call, encSp, hw2, ht2]
  refine callP_intro (ds := [encRaw r2 c2 m, .i .i64 cc, .i .i64 dd]) (by rfl) sB ?_
  simp (config := { maxSteps := 1000000 }) [-List.map_map, -List.mapM_map, ↓awp_skip, ↓awp_regionB, ↓awp_seq, ↓awp_block, ↓awp_exit, ↓awp_ret, ↓awp_label, ↓awp_scope, ↓awp_condB, ↓awp_loopB, ↓ow_nil', ↓ow_cons0, ↓ow_cons1, ↓o1_move, ↓o1_assign, ↓o1_pick, ↓o1_alloc, ↓o1_box, ↓o1_build, ↓o1_buildSlice, ↓o1_makeSlice, ↓o1_makeMap, ↓o1_binOp, ↓o1_unOp, ↓o1_convert, ↓o1_fieldAddr, ↓o1_field, ↓o1_indexAddr, ↓o1_extract, ↓o1_slice, ↓o1_len, ↓o1_max, ↓o1_min, ↓o1_load, ↓o1_lookup, ↓o1_store, ↓o1_mapUpdate, ↓o1_append, ↓o1_delete, ↓o1_call, encMat]
  refine callP_intro (ds := [encMat cc dd B0]) (by rfl) fB ?_
  simp (config := { maxSteps := 1000000 }) [-List.map_map, -List.mapM_map, ↓awp_skip, ↓awp_regionB, ↓awp_seq, ↓awp_block, ↓awp_exit, ↓awp_ret, ↓awp_label, ↓awp_scope, ↓awp_condB, ↓awp_loopB, ↓ow_nil', ↓ow_cons0, ↓ow_cons1, ↓o1_move, ↓o1_assign, ↓o1_pick, ↓o1_alloc, ↓o1_box, ↓o1_build, ↓o1_buildSlice, ↓o1_makeSlice, ↓o1_makeMap, ↓o1_binOp, ↓o1_unOp, ↓o1_convert, ↓o1_fieldAddr, ↓o1_field, ↓o1_indexAddr, ↓o1_extract, ↓o1_slice, ↓o1_len, ↓o1_max, ↓o1_min, ↓o1_load, ↓o1_lookup, ↓o1_store, ↓o1_mapUpdate, ↓o1_append, ↓o1_delete, ↓o1_call, encSp, hw3, ht3]
  refine callP_intro (ds := [encRaw r3 c3 n, .i .i64 dd, .i .i64 ee]) (by rfl) sC ?_
  simp (config := { maxSteps := 1000000 }) [-List.map_map, -List.mapM_map, ↓awp_skip, ↓awp_regionB, ↓awp_seq, ↓awp_block, ↓awp_exit, ↓awp_ret, ↓awp_label, ↓awp_scope, ↓awp_condB, ↓awp_loopB, ↓ow_nil', ↓ow_cons0, ↓ow_cons1, ↓o1_move, ↓o1_assign, ↓o1_pick, ↓o1_alloc, ↓o1_box, ↓o1_build, ↓o1_buildSlice, ↓o1_makeSlice, ↓o1_makeMap, ↓o1_binOp, ↓o1_unOp, ↓o1_convert, ↓o1_fieldAddr, ↓o1_field, ↓o1_indexAddr, ↓o1_extract, ↓o1_slice, ↓o1_len, ↓o1_max, ↓o1_min, ↓o1_load, ↓o1_lookup, ↓o1_store, ↓o1_mapUpdate, ↓o1_append, ↓o1_delete, ↓o1_call, encMat]
  refine callP_intro (ds := [encMat dd ee C0]) (by rfl) fC ?_
  simp (config := { maxSteps := 1000000 }) [-List.map_map, -List.mapM_map, ↓awp_skip, ↓awp_regionB, ↓awp_seq, ↓awp_block, ↓awp_exit, ↓awp_ret, ↓awp_label, ↓awp_scope, ↓awp_condB, ↓awp_loopB, ↓ow_nil', ↓ow_cons0, ↓ow_cons1, ↓o1_move, ↓o1_assign, ↓o1_pick, ↓o1_alloc, ↓o1_box, ↓o1_build, ↓o1_buildSlice, ↓o1_makeSlice, ↓o1_makeMap, ↓o1_binOp, ↓o1_unOp, ↓o1_convert, ↓o1_fieldAddr, ↓o1_field, ↓o1_indexAddr, ↓o1_extract, ↓o1_slice, ↓o1_len, ↓o1_max, ↓o1_min, ↓o1_load, ↓o1_lookup, ↓o1_store, ↓o1_mapUpdate, ↓o1_append, ↓o1_delete, ↓o1_call, encSp]
  refine callP_intro (ds := [encSp rr cc A, encSp cc dd B]) (by rfl) sAB ?_
  simp (config := { maxSteps := 1000000 }) [-List.map_map, -List.mapM_map, ↓awp_skip, ↓awp_regionB, ↓awp_seq, ↓awp_block, ↓awp_exit, ↓awp_ret, ↓awp_label, ↓awp_scope, ↓awp_condB, ↓awp_loopB, ↓ow_nil', ↓ow_cons0, ↓ow_cons1, ↓o1_move, ↓o1_assign, ↓o1_pick, ↓o1_alloc, ↓o1_box, ↓o1_build, ↓o1_buildSlice, ↓o1_makeSlice, ↓o1_makeMap, ↓o1_binOp, ↓o1_unOp, ↓o1_convert, ↓o1_fieldAddr, ↓o1_field, ↓o1_indexAddr, ↓o1_extract, ↓o1_slice, ↓o1_len, ↓o1_max, ↓o1_min, ↓o1_load, ↓o1_lookup, ↓o1_store, ↓o1_mapUpdate, ↓o1_append, ↓o1_delete, ↓o1_call, encSp]
  refine callP_intro (ds := [encSp cc dd B, encSp dd ee C]) (by rfl) sBC ?_
  simp (config := { maxSteps := 1000000 }) [-List.map_map, -List.mapM_map, ↓awp_skip, ↓awp_regionB, ↓awp_seq, ↓awp_block, ↓awp_exit, ↓awp_ret, ↓awp_label, ↓awp_scope, ↓awp_condB, ↓awp_loopB, ↓ow_nil', ↓ow_cons0, ↓ow_cons1, ↓o1_move, ↓o1_assign, ↓o1_pick, ↓o1_alloc, ↓o1_box, ↓o1_build, ↓o1_buildSlice, ↓o1_makeSlice, ↓o1_makeMap, ↓o1_binOp, ↓o1_unOp, ↓o1_convert, ↓o1_fieldAddr, ↓o1_field, ↓o1_indexAddr, ↓o1_extract, ↓o1_slice, ↓o1_len, ↓o1_max, ↓o1_min, ↓o1_load, ↓o1_lookup, ↓o1_store, ↓o1_mapUpdate, ↓o1_append, ↓o1_delete, ↓o1_call, encSp]
  refine callP_intro (ds := [encSp rr dd AB]) (by rfl) vAB ?_
  simp (config := { maxSteps := 1000000 }) [-List.map_map, -List.mapM_map, ↓awp_skip, ↓awp_regionB, ↓awp_seq, ↓awp_block, ↓awp_exit, ↓awp_ret, ↓awp_label, ↓awp_scope, ↓awp_condB, ↓awp_loopB, ↓ow_nil', ↓ow_cons0, ↓ow_cons1, ↓o1_move, ↓o1_assign, ↓o1_pick, ↓o1_alloc, ↓o1_box, ↓o1_build, ↓o1_buildSlice, ↓o1_makeSlice, ↓o1_makeMap, ↓o1_binOp, ↓o1_unOp, ↓o1_convert, ↓o1_fieldAddr, ↓o1_field, ↓o1_indexAddr, ↓o1_extract, ↓o1_slice, ↓o1_len, ↓o1_max, ↓o1_min, ↓o1_load, ↓o1_lookup, ↓o1_store, ↓o1_mapUpdate, ↓o1_append, ↓o1_delete, ↓o1_call, encSp]
  refine callP_intro (ds := [encSp cc ee BC]) (by rfl) vBC ?_
  simp (config := { maxSteps := 1000000 }) [-List.map_map, -List.mapM_map, ↓awp_skip, ↓awp_regionB, ↓awp_seq, ↓awp_block, ↓awp_exit, ↓awp_ret, ↓awp_label, ↓awp_scope, ↓awp_condB, ↓awp_loopB, ↓ow_nil', ↓ow_cons0, ↓ow_cons1, ↓o1_move, ↓o1_assign, ↓o1_pick, ↓o1_alloc, ↓o1_box, ↓o1_build, ↓o1_buildSlice, ↓o1_makeSlice, ↓o1_makeMap, ↓o1_binOp, ↓o1_unOp, ↓o1_convert, ↓o1_fieldAddr, ↓o1_field, ↓o1_indexAddr, ↓o1_extract, ↓o1_slice, ↓o1_len, ↓o1_max, ↓o1_min, ↓o1_load, ↓o1_lookup, ↓o1_store, ↓o1_mapUpdate, ↓o1_append, ↓o1_delete, ↓o1_call, encSp]
  refine callP_intro (ds := [encSp rr dd AB, encSp dd ee C]) (by rfl) sL ?_
  simp (config := { maxSteps := 1000000 }) [-List.map_map, -List.mapM_map, ↓awp_skip, ↓awp_regionB, ↓awp_seq, ↓awp_block, ↓awp_exit, ↓awp_ret, ↓awp_label, ↓awp_scope, ↓awp_condB, ↓awp_loopB, ↓ow_nil', ↓ow_cons0, ↓ow_cons1, ↓o1_move, ↓o1_assign, ↓o1_pick, ↓o1_alloc, ↓o1_box, ↓o1_build, ↓o1_buildSlice, ↓o1_makeSlice, ↓o1_makeMap, ↓o1_binOp, ↓o1_unOp, ↓o1_convert, ↓o1_fieldAddr, ↓o1_field, ↓o1_indexAddr, ↓o1_extract, ↓o1_slice, ↓o1_len, ↓o1_max, ↓o1_min, ↓o1_load, ↓o1_lookup, ↓o1_store, ↓o1_mapUpdate, ↓o1_append, ↓o1_delete, ↓o1_call, encSp]
  refine callP_intro (ds := [encSp rr cc A, encSp cc ee BC]) (by rfl) sR ?_
  simp (config := { maxSteps := 1000000 }) [-List.map_map, -List.mapM_map, ↓awp_skip, ↓awp_regionB, ↓awp_seq, ↓awp_block, ↓awp_exit, ↓awp_ret, ↓awp_label, ↓awp_scope, ↓awp_condB, ↓awp_loopB, ↓ow_nil', ↓ow_cons0, ↓ow_cons1, ↓o1_move, ↓o1_assign, ↓o1_pick, ↓o1_alloc, ↓o1_box, ↓o1_build, ↓o1_buildSlice, ↓o1_makeSlice, ↓o1_makeMap, ↓o1_binOp, ↓o1_unOp, ↓o1_convert, ↓o1_fieldAddr, ↓o1_field, ↓o1_indexAddr, ↓o1_extract, ↓o1_slice, ↓o1_len, ↓o1_max, ↓o1_min, ↓o1_load, ↓o1_lookup, ↓o1_store, ↓o1_mapUpdate, ↓o1_append, ↓o1_delete, ↓o1_call, encSp]
  refine callP_intro (ds := [encSp cc dd B]) (by rfl) tB ?_
  simp (config := { maxSteps := 1000000 }) [-List.map_map, -List.mapM_map, ↓awp_skip, ↓awp_regionB, ↓awp_seq, ↓awp_block, ↓awp_exit, ↓awp_ret, ↓awp_label, ↓awp_scope, ↓awp_condB, ↓awp_loopB, ↓ow_nil', ↓ow_cons0, ↓ow_cons1, ↓o1_move, ↓o1_assign, ↓o1_pick, ↓o1_alloc, ↓o1_box, ↓o1_build, ↓o1_buildSlice, ↓o1_makeSlice, ↓o1_makeMap, ↓o1_binOp, ↓o1_unOp, ↓o1_convert, ↓o1_fieldAddr, ↓o1_field, ↓o1_indexAddr, ↓o1_extract, ↓o1_slice, ↓o1_len, ↓o1_max, ↓o1_min, ↓o1_load, ↓o1_lookup, ↓o1_store, ↓o1_mapUpdate, ↓o1_append, ↓o1_delete, ↓o1_call, encSp]
  refine callP_intro (ds := [encSp rr cc A]) (by rfl) tA ?_
  simp (config := { maxSteps := 1000000 }) [-List.map_map, -List.mapM_map, ↓awp_skip, ↓awp_regionB, ↓awp_seq, ↓awp_block, ↓awp_exit, ↓awp_ret, ↓awp_label, ↓awp_scope, ↓awp_condB, ↓awp_loopB, ↓ow_nil', ↓ow_cons0, ↓ow_cons1, ↓o1_move, ↓o1_assign, ↓o1_pick, ↓o1_alloc, ↓o1_box, ↓o1_build, ↓o1_buildSlice, ↓o1_makeSlice, ↓o1_makeMap, ↓o1_binOp, ↓o1_unOp, ↓o1_convert, ↓o1_fieldAddr, ↓o1_field, ↓o1_indexAddr, ↓o1_extract, ↓o1_slice, ↓o1_len, ↓o1_max, ↓o1_min, ↓o1_load, ↓o1_lookup, ↓o1_store, ↓o1_mapUpdate, ↓o1_append, ↓o1_delete, ↓o1_call, encSp]
  refine callP_intro (ds := [encSp dd cc TB, encSp cc rr TA]) (by rfl) sT ?_
  simp (config := { maxSteps := 1000000 }) [-List.map_map, -List.mapM_map, ↓awp_skip, ↓awp_regionB, ↓awp_seq, ↓awp_block, ↓awp_exit, ↓awp_ret, ↓awp_label, ↓awp_scope, ↓awp_condB, ↓awp_loopB, ↓ow_nil', ↓ow_cons0, ↓ow_cons1, ↓o1_move, ↓o1_assign, ↓o1_pick, ↓o1_alloc, ↓o1_box, ↓o1_build, ↓o1_buildSlice, ↓o1_makeSlice, ↓o1_makeMap, ↓o1_binOp, ↓o1_unOp, ↓o1_convert, ↓o1_fieldAddr, ↓o1_field, ↓o1_indexAddr, ↓o1_extract, ↓o1_slice, ↓o1_len, ↓o1_max, ↓o1_min, ↓o1_load, ↓o1_lookup, ↓o1_store, ↓o1_mapUpdate, ↓o1_append, ↓o1_delete, ↓o1_call, encSp]
  refine callP_intro (ds := [encSp rr ee LR, encSp rr ee LR]) (by rfl) eL ?_
  simp (config := { maxSteps := 1000000 }) [-List.map_map, -List.mapM_map, ↓awp_skip, ↓awp_regionB, ↓awp_seq, ↓awp_block, ↓awp_exit, ↓awp_ret, ↓awp_label, ↓awp_scope, ↓awp_condB, ↓awp_loopB, ↓ow_nil', ↓ow_cons0, ↓ow_cons1, ↓o1_move, ↓o1_assign, ↓o1_pick, ↓o1_alloc, ↓o1_box, ↓o1_build, ↓o1_buildSlice, ↓o1_makeSlice, ↓o1_makeMap, ↓o1_binOp, ↓o1_unOp, ↓o1_convert, ↓o1_fieldAddr, ↓o1_field, ↓o1_indexAddr, ↓o1_extract, ↓o1_slice, ↓o1_len, ↓o1_max, ↓o1_min, ↓o1_load, ↓o1_lookup, ↓o1_store, ↓o1_mapUpdate, ↓o1_append, ↓o1_delete, ↓o1_call, encSp]
  refine callP_intro (ds := [encSp rr dd AB]) (by rfl) tAB ?_
  simp (config := { maxSteps := 1000000 }) [-List.map_map, -List.mapM_map, ↓awp_skip, ↓awp_regionB, ↓awp_seq, ↓awp_block, ↓awp_exit, ↓awp_ret, ↓awp_label, ↓awp_scope, ↓awp_condB, ↓awp_loopB, ↓ow_nil', ↓ow_cons0, ↓ow_cons1, ↓o1_move, ↓o1_assign, ↓o1_pick, ↓o1_alloc, ↓o1_box, ↓o1_build, ↓o1_buildSlice, ↓o1_makeSlice, ↓o1_makeMap, ↓o1_binOp, ↓o1_unOp, ↓o1_convert, ↓o1_fieldAddr, ↓o1_field, ↓o1_indexAddr, ↓o1_extract, ↓o1_slice, ↓o1_len, ↓o1_max, ↓o1_min, ↓o1_load, ↓o1_lookup, ↓o1_store, ↓o1_mapUpdate, ↓o1_append, ↓o1_delete, ↓o1_call, encSp]
  refine callP_intro (ds := [encSp dd rr T, encSp dd rr T]) (by rfl) eT ?_
  simp (config := { maxSteps := 1000000 }) [-List.map_map, -List.mapM_map, ↓awp_skip, ↓awp_regionB, ↓awp_seq, ↓awp_block, ↓awp_exit, ↓awp_ret, ↓awp_label, ↓awp_scope, ↓awp_condB, ↓awp_loopB, ↓ow_nil', ↓ow_cons0, ↓ow_cons1, ↓o1_move, ↓o1_assign, ↓o1_pick, ↓o1_alloc, ↓o1_box, ↓o1_build, ↓o1_buildSlice, ↓o1_makeSlice, ↓o1_makeMap, ↓o1_binOp, ↓o1_unOp, ↓o1_convert, ↓o1_fieldAddr, ↓o1_field, ↓o1_indexAddr, ↓o1_extract, ↓o1_slice, ↓o1_len, ↓o1_max, ↓o1_min, ↓o1_load, ↓o1_lookup, ↓o1_store, ↓o1_mapUpdate, ↓o1_append, ↓o1_delete, ↓o1_call, encSp]
  refine callP_intro (ds := [encSp rr cc A]) (by rfl) tA ?_
  simp (config := { maxSteps := 1000000 }) [-List.map_map, -List.mapM_map, ↓awp_skip, ↓awp_regionB, ↓awp_seq, ↓awp_block, ↓awp_exit, ↓awp_ret, ↓awp_label, ↓awp_scope, ↓awp_condB, ↓awp_loopB, ↓ow_nil', ↓ow_cons0, ↓ow_cons1, ↓o1_move, ↓o1_assign, ↓o1_pick, ↓o1_alloc, ↓o1_box, ↓o1_build, ↓o1_buildSlice, ↓o1_makeSlice, ↓o1_makeMap, ↓o1_binOp, ↓o1_unOp, ↓o1_convert, ↓o1_fieldAddr, ↓o1_field, ↓o1_indexAddr, ↓o1_extract, ↓o1_slice, ↓o1_len, ↓o1_max, ↓o1_min, ↓o1_load, ↓o1_lookup, ↓o1_store, ↓o1_mapUpdate, ↓o1_append, ↓o1_delete, ↓o1_call, encSp]
  refine callP_intro (ds := [encSp cc rr TA]) (by rfl) tTA ?_
  simp (config := { maxSteps := 1000000 }) [-List.map_map, -List.mapM_map, ↓awp_skip, ↓awp_regionB, ↓awp_seq, ↓awp_block, ↓awp_exit, ↓awp_ret, ↓awp_label, ↓awp_scope, ↓awp_condB, ↓awp_loopB, ↓ow_nil', ↓ow_cons0, ↓ow_cons1, ↓o1_move, ↓o1_assign, ↓o1_pick, ↓o1_alloc, ↓o1_box, ↓o1_build, ↓o1_buildSlice, ↓o1_makeSlice, ↓o1_makeMap, ↓o1_binOp, ↓o1_unOp, ↓o1_convert, ↓o1_fieldAddr, ↓o1_field, ↓o1_indexAddr, ↓o1_extract, ↓o1_slice, ↓o1_len, ↓o1_max, ↓o1_min, ↓o1_load, ↓o1_lookup, ↓o1_store, ↓o1_mapUpdate, ↓o1_append, ↓o1_delete, ↓o1_call, encSp]
  refine callP_intro (ds := [encSp rr cc A, encSp rr cc A]) (by rfl) eA ?_
  simp (config := { maxSteps := 1000000 }) [-List.map_map, -List.mapM_map, ↓awp_skip, ↓awp_regionB, ↓awp_seq, ↓awp_block, ↓awp_exit, ↓awp_ret, ↓awp_label, ↓awp_scope, ↓awp_condB, ↓awp_loopB, ↓ow_nil', ↓ow_cons0, ↓ow_cons1, ↓o1_move, ↓o1_assign, ↓o1_pick, ↓o1_alloc, ↓o1_box, ↓o1_build, ↓o1_buildSlice, ↓o1_makeSlice, ↓o1_makeMap, ↓o1_binOp, ↓o1_unOp, ↓o1_convert, ↓o1_fieldAddr, ↓o1_field, ↓o1_indexAddr, ↓o1_extract, ↓o1_slice, ↓o1_len, ↓o1_max, ↓o1_min, ↓o1_load, ↓o1_lookup, ↓o1_store, ↓o1_mapUpdate, ↓o1_append, ↓o1_delete, ↓o1_call, encSp]
  refine loopP_inv (fun k : Nat => k ≤ rr) (fun k => StL [(7, .d (.b true)), (8, .ptr 1 0), (9, .ptr 2 0), (11, .ptr 3 0), (21, .d (.i .i64 (k : Int)))] none
      [.cells 44 [.d (.i .i64 (rr : Int)), .d (.i .i64 (cc : Int)), .d (.sl (A.map fun r => [encC r]))], .cells 44 [.d (.i .i64 (cc : Int)), .d (.i .i64 (dd : Int)), .d (.sl (B.map fun r => [encC r]))], .cells 44 [.d (.i .i64 (rr : Int)), .d (.i .i64 (dd : Int)), .d (.sl (AB.map fun r => [encC r]))]]) (fun k => rr - k) 0 (Nat.zero_le _) ?_ ?_
  · refine wk_l [4, 5, 7] (by simp) ?_ ?_ <;> simp [-List.map_map, upd, inj1, Γ0, ]
  · intro k hk
    by_cases hgk : k < rr
    · have q1 : (k : Int) < rr := by omega
      have hw : IntKind.i64.wrap ((k : Int) + 1) = (k : Int) + 1 := wrap_i64 (by omega) (by omega)
      obtain ⟨row, v, w, hx, hy, p1, p2, p3, p4⟩ := hrow k hgk
      generalize mulR B row = out at *
      simp (config := { maxSteps := 1000000 }) [-List.map_map, -List.mapM_map, ↓awp_skip, ↓awp_regionB, ↓awp_seq, ↓awp_block, ↓awp_exit, ↓awp_ret, ↓awp_label, ↓awp_scope, ↓awp_condB, ↓awp_loopB, ↓ow_nil', ↓ow_cons0, ↓ow_cons1, ↓o1_move, ↓o1_assign, ↓o1_pick, ↓o1_alloc, ↓o1_box, ↓o1_build, ↓o1_buildSlice, ↓o1_makeSlice, ↓o1_makeMap, ↓o1_binOp, ↓o1_unOp, ↓o1_convert, ↓o1_fieldAddr, ↓o1_field, ↓o1_indexAddr, ↓o1_extract, ↓o1_slice, ↓o1_len, ↓o1_max, ↓o1_min, ↓o1_load, ↓o1_lookup, ↓o1_store, ↓o1_mapUpdate, ↓o1_append, ↓o1_delete, ↓o1_call, q1, hx]
      refine callP_intro (ds := [encC row, .i .i64 cc]) (by rfl) p1 ?_
      simp (config := { maxSteps := 1000000 }) [-List.map_map, -List.mapM_map, ↓awp_skip, ↓awp_regionB, ↓awp_seq, ↓awp_block, ↓awp_exit, ↓awp_ret, ↓awp_label, ↓awp_scope, ↓awp_condB, ↓awp_loopB, ↓ow_nil', ↓ow_cons0, ↓ow_cons1, ↓o1_move, ↓o1_assign, ↓o1_pick, ↓o1_alloc, ↓o1_box, ↓o1_build, ↓o1_buildSlice, ↓o1_makeSlice, ↓o1_makeMap, ↓o1_binOp, ↓o1_unOp, ↓o1_convert, ↓o1_fieldAddr, ↓o1_field, ↓o1_indexAddr, ↓o1_extract, ↓o1_slice, ↓o1_len, ↓o1_max, ↓o1_min, ↓o1_load, ↓o1_lookup, ↓o1_store, ↓o1_mapUpdate, ↓o1_append, ↓o1_delete, ↓o1_call, encV2]
      refine callP_intro (ds := [encV2 v, encSp cc dd B]) (by rfl) p2 ?_
      simp (config := { maxSteps := 1000000 }) [-List.map_map, -List.mapM_map, ↓awp_skip, ↓awp_regionB, ↓awp_seq, ↓awp_block, ↓awp_exit, ↓awp_ret, ↓awp_label, ↓awp_scope, ↓awp_condB, ↓awp_loopB, ↓ow_nil', ↓ow_cons0, ↓ow_cons1, ↓o1_move, ↓o1_assign, ↓o1_pick, ↓o1_alloc, ↓o1_box, ↓o1_build, ↓o1_buildSlice, ↓o1_makeSlice, ↓o1_makeMap, ↓o1_binOp, ↓o1_unOp, ↓o1_convert, ↓o1_fieldAddr, ↓o1_field, ↓o1_indexAddr, ↓o1_extract, ↓o1_slice, ↓o1_len, ↓o1_max, ↓o1_min, ↓o1_load, ↓o1_lookup, ↓o1_store, ↓o1_mapUpdate, ↓o1_append, ↓o1_delete, ↓o1_call, encV2]
      refine callP_intro (ds := [encV2 w]) (by rfl) p3 ?_
      simp (config := { maxSteps := 1000000 }) [-List.map_map, -List.mapM_map, ↓awp_skip, ↓awp_regionB, ↓awp_seq, ↓awp_block, ↓awp_exit, ↓awp_ret, ↓awp_label, ↓awp_scope, ↓awp_condB, ↓awp_loopB, ↓ow_nil', ↓ow_cons0, ↓ow_cons1, ↓o1_move, ↓o1_assign, ↓o1_pick, ↓o1_alloc, ↓o1_box, ↓o1_build, ↓o1_buildSlice, ↓o1_makeSlice, ↓o1_makeMap, ↓o1_binOp, ↓o1_unOp, ↓o1_convert, ↓o1_fieldAddr, ↓o1_field, ↓o1_indexAddr, ↓o1_extract, ↓o1_slice, ↓o1_len, ↓o1_max, ↓o1_min, ↓o1_load, ↓o1_lookup, ↓o1_store, ↓o1_mapUpdate, ↓o1_append, ↓o1_delete, ↓o1_call, hy, inj1_encC, inj_encC, kills_encC, cellsA_encC, one_encC]
      refine callP_intro (ds := [encC out, encC out]) (by rfl) p4 ?_
      simp (config := { maxSteps := 1000000 }) [-List.map_map, -List.mapM_map, ↓awp_skip, ↓awp_regionB, ↓awp_seq, ↓awp_block, ↓awp_exit, ↓awp_ret, ↓awp_label, ↓awp_scope, ↓awp_condB, ↓awp_loopB, ↓ow_nil', ↓ow_cons0, ↓ow_cons1, ↓o1_move, ↓o1_assign, ↓o1_pick, ↓o1_alloc, ↓o1_box, ↓o1_build, ↓o1_buildSlice, ↓o1_makeSlice, ↓o1_makeMap, ↓o1_binOp, ↓o1_unOp, ↓o1_convert, ↓o1_fieldAddr, ↓o1_field, ↓o1_indexAddr, ↓o1_extract, ↓o1_slice, ↓o1_len, ↓o1_max, ↓o1_min, ↓o1_load, ↓o1_lookup, ↓o1_store, ↓o1_mapUpdate, ↓o1_append, ↓o1_delete, ↓o1_call, hw]
      refine nxt_intro (k + 1) hgk (Nat.sub_lt_sub_left hgk (Nat.lt_succ_self _)) (wk_l [1, 2, 3] (by simp) ?_ ?_) <;> simp [-List.map_map, upd, inj1, Γ0, ]
    · have q1 : ¬ (k : Int) < rr := by omega
      simp (config := { maxSteps := 1000000 }) [-List.map_map, -List.mapM_map, ↓awp_skip, ↓awp_regionB, ↓awp_seq, ↓awp_block, ↓awp_exit, ↓awp_ret, ↓awp_label, ↓awp_scope, ↓awp_condB, ↓awp_loopB, ↓ow_nil', ↓ow_cons0, ↓ow_cons1, ↓o1_move, ↓o1_assign, ↓o1_pick, ↓o1_alloc, ↓o1_box, ↓o1_build, ↓o1_buildSlice, ↓o1_makeSlice, ↓o1_makeMap, ↓o1_binOp, ↓o1_unOp, ↓o1_convert, ↓o1_fieldAddr, ↓o1_field, ↓o1_indexAddr, ↓o1_extract, ↓o1_slice, ↓o1_len, ↓o1_max, ↓o1_min, ↓o1_load, ↓o1_lookup, ↓o1_store, ↓o1_mapUpdate, ↓o1_append, ↓o1_delete, ↓o1_call, q1]

end Go.Am

open Go Go.Am Go.Proofs
namespace Go.Am
open Go.ChangeShapes Go.WideShapes Go.ChangeAt Go.RowKit

theorem d58 : Try.prog.cellsOf 58 = 3 := by kernel_rfl
theorem d5 : Try.prog.cellsOf 5 = 1 := by kernel_rfl
theorem d47 : Try.prog.cellsOf 47 = 1 := by kernel_rfl
theorem d36 : Try.prog.cellsOf 36 = 1 := by kernel_rfl
theorem len3r {α : Type} {l : List α} (h : l.length = 3) : ∃ a b c, l = [a, b, c] := by
  match l, h with
  | [a, b, c], _ => exact ⟨a, b, c, rfl⟩
theorem wf_i8 {n : Int} (h : (Lit.int .i8 n).wf = true) : -128 ≤ n ∧ n ≤ 127 := by
  have hmin : IntKind.i8.min = -128 := rfl
  have hmax : IntKind.i8.max = 127 := rfl
  simp only [Lit.wf, Bool.and_eq_true, decide_eq_true_eq] at h
  omega
theorem wf_u8 {n : Int} (h : (Lit.int .u8 n).wf = true) : 0 ≤ n ∧ n ≤ 255 := by
  have hmin : IntKind.u8.min = 0 := rfl
  have hmax : IntKind.u8.max = 255 := rfl
  simp only [Lit.wf, Bool.and_eq_true, decide_eq_true_eq] at h
  omega

section
variable {H : Type} {enc : TypeId × Value → H} {w : World} {sp : Nat → Bool} {held : Bool}
theorem openB {cs : List Value} {x : DataW H × List MemPlace} {fuel : Nat} (hf : DataW.trod enc Try.prog w 0 sp held fuel 47 cs = some x) :
    ∃ (u : Value) (l : List Int), cs = [u] ∧ VD (fun b => b < w.heap.size) w (encB l) u ∧ (∀ x ∈ l, -128 ≤ x ∧ x ≤ 127) ∧ l.length ≤ 9223372036854775807 :=
  openSlice Try.underlying47 (by rw [d36]; decide) (fun n : Int => [D.i .i8 n]) (fun x => -128 ≤ x ∧ x ≤ 127) (fun fuel cs x h => by
    obtain ⟨a, q1, _, w1⟩ := DataW.trod_int Try.underlying36 h
    subst q1
    refine ⟨a, wf_i8 w1, by rw [d36]; rfl, fun k c v hk hv => ?_⟩
    rcases k with _ | k
    · simp at hk hv
      subst hk; subst hv
      exact .i _ _
    · simp at hk) hf

theorem openRaw {v : Value} {d : DataW H} {ps : List MemPlace} {cs : Array Value} (hv : v = .agg cs) (h : DataW.Trod enc Try.prog w 0 sp held 58 v d ps) :
    ∃ (r c : Nat) (l : List Int), VD (fun b => b < w.heap.size) w (encRaw r c l) v ∧ r ≤ 255 ∧ c ≤ 255 ∧ (∀ x ∈ l, -128 ≤ x ∧ x ≤ 127) ∧ l.length ≤ 9223372036854775807 := by
  subst hv
  obtain ⟨fuel, hf⟩ := h
  obtain ⟨xs, n, _, _, hl, hlen, hfs⟩ := DataW.trod_struct Try.underlying58 hf
  rw [d58] at hl
  have h0 := hfs 0 { name := "Rows", type := 5, offset := 0, embedded := false, tag := "", pkgPath := "", byteOffset := 0 } rfl
  have h1 := hfs 1 { name := "Cols", type := 5, offset := 1, embedded := false, tag := "", pkgPath := "", byteOffset := 1 } rfl
  have h2 := hfs 2 { name := "A", type := 47, offset := 2, embedded := false, tag := "", pkgPath := "", byteOffset := 8 } rfl
  obtain ⟨x0, hx0⟩ : ∃ x, xs[0]? = some x := ⟨_, List.getElem?_eq_getElem (by rw [hlen]; decide)⟩
  obtain ⟨x1, hx1⟩ : ∃ x, xs[1]? = some x := ⟨_, List.getElem?_eq_getElem (by rw [hlen]; decide)⟩
  obtain ⟨x2, hx2⟩ : ∃ x, xs[2]? = some x := ⟨_, List.getElem?_eq_getElem (by rw [hlen]; decide)⟩
  rw [hx0] at h0; rw [hx1] at h1; rw [hx2] at h2
  simp only [Value.cells] at h0 h1 h2 hl
  obtain ⟨cs⟩ := cs
  simp only at h0 h1 h2 hl
  obtain ⟨a, b, c, rfl⟩ := len3r hl
  simp only [d5, d47, List.drop_zero, List.drop_succ_cons, List.take_succ_cons, List.take_zero] at h0 h1 h2
  obtain ⟨i, e1, _, w1⟩ := DataW.trod_int Try.underlying5 h0
  obtain ⟨j, e2, _, w2⟩ := DataW.trod_int Try.underlying5 h1
  obtain ⟨u, l, e3, hu, hg, hL⟩ := openB h2
  injection e1 with e1; injection e2 with e2; injection e3 with e3
  subst e1; subst e2; subst e3
  have b1 := wf_u8 w1
  have b2 := wf_u8 w2
  obtain ⟨r, rfl⟩ : ∃ r : Nat, i = r := ⟨i.toNat, by omega⟩
  obtain ⟨c, rfl⟩ : ∃ r : Nat, j = r := ⟨j.toNat, by omega⟩
  refine ⟨r, c, l, .ag _ _ rfl fun k d v hk hv => ?_, by omega, by omega, hg, hL⟩
  rcases k with _ | _ | _ | k
  · simp at hk hv; subst hk; subst hv; exact .i _ _
  · simp at hk hv; subst hk; subst hv; exact .i _ _
  · simp at hk hv; subst hk; subst hv; exact hu
  · simp at hk
end

end Go.Am
namespace Go.Proofs.Ytmnjglpieghdkaa
theorem own8 : ownKnob Try.prog.godebug = none := by kernel_rfl
theorem laid8 : laidOutB Try.prog = true := by kernel_rfl
end Go.Proofs.Ytmnjglpieghdkaa

open Go Go.Am Go.Proofs
namespace Go.Proofs.Ytmnjglpieghdkaa
open Go.ChangeShapes Go.WideShapes Go.ChangeAt Go.RowKit

set_option maxRecDepth 100000 in
theorem multiplies_lifted (os : Os) (started : os.Started) (H : Type) (enc : TypeId × Value → H) :
    ReturnsInHanded {} Try.checked os 8 .any (Rows.sparseMultipliesSpec.pre6 enc Try.prog Try.f8 Rows.sparseMultipliesRow.domain false) (Rows.sparseMultipliesSpec.post enc Try.prog Try.f8 false true false false) := by
  refine returnsInHanded_of_change (C := Try.checked) own8 started (by kernel_rfl) Try.func8
    (ChangeSpec.witness6 (enc := enc) (C := Try.checked) false ⟨#[], #[.agg #[.int .u8 0, .int .u8 0, .slice none 0 0], .agg #[.int .u8 0, .int .u8 0, .slice none 0 0], .agg #[.int .u8 0, .int .u8 0, .slice none 0 0]], []⟩ 8 (by kernel_rfl) (by kernel_rfl) (by kernel_rfl) (by kernel_rfl)) ?_
  intro W base args ds gs before hval0 hW hcnd _
  have hval : ∀ (j : Nat) t v, Try.f8.params[j]? = some t → args[j]? = some v → Value.okWide Try.prog W .any base t v := hval0
  have hW' := hW
  obtain ⟨p, q, hA0, hV, rfl, hfz, hnd⟩ := hW
  have hA : DataW.TrodAll enc Try.prog W 0 (fun _ => true) true Try.f8.params.toList args.toList ds p := hA0
  rw [Try.params8] at hA hval
  obtain ⟨v0, v1, v2, d0, d1, d2, p0, p1, p2, rfl, rfl, rfl, h0, h1, h2⟩ := trodAll_three hA
  obtain ⟨rfl, rfl⟩ := trodVars_none hV
  clear hA0 hval0
  simp only [List.append_nil] at hW'
  have hlt0 : ∀ x ∈ p0, x.block < W.heap.size := fun x hx => by simpa using hW'.lt x (by simp [hx])
  have hlt1 : ∀ x ∈ p1, x.block < W.heap.size := fun x hx => by simpa using hW'.lt x (by simp [hx])
  have hlt2 : ∀ x ∈ p2, x.block < W.heap.size := fun x hx => by simpa using hW'.lt x (by simp [hx])
  obtain ⟨cs0, rfl, _⟩ := okWide_struct Try.underlying58 (hval 0 58 v0 rfl rfl)
  obtain ⟨cs1, rfl, _⟩ := okWide_struct Try.underlying58 (hval 1 58 v1 rfl rfl)
  obtain ⟨cs2, rfl, _⟩ := okWide_struct Try.underlying58 (hval 2 58 v2 rfl rfl)
  obtain ⟨r, c, l, vl, hr, hc, il, _⟩ := Am.openRaw rfl h0
  obtain ⟨r2, c2, m, vm, _, hc2, im, _⟩ := Am.openRaw rfl h1
  obtain ⟨r3, c3, n, vn, _, hc3, jn, _⟩ := Am.openRaw rfl h2
  have hspec := (Am.lawMultiplies r c r2 c2 r3 c3 l m n hr hc hc2 hc3 il im jn) (fun b => b < W.heap.size) W #[.agg cs0, .agg cs1, .agg cs2] (fun b h => h) rfl (fun j d v hd hv => by
    rcases j with _ | _ | _ | j
    · simp at hd hv; subst hd; subst hv; exact vl
    · simp at hd hv; subst hd; subst hv; exact vm
    · simp at hd hv; subst hd; subst hv; exact vn
    · simp at hd)
  refine hspec.2.mono ?_
  rintro e W' ⟨v, rfl, hb, hv⟩
  cases hv
  exact ⟨_, rfl, ⟨_, _, _, [], _, [], hW', trodAll_mk1 (shut_bool Try.underlying4 true), trodAll_mk3 (Below.trod laid8 (by kernel_rfl) (of_decide_eq_true (by kernel_rfl)) h0 hb hlt0) (Below.trod laid8 (by kernel_rfl) (of_decide_eq_true (by kernel_rfl)) h1 hb hlt1) (Below.trod laid8 (by kernel_rfl) (of_decide_eq_true (by kernel_rfl)) h2 hb hlt2), rfl, hb.frame _, fun h => by cases h⟩⟩

theorem sparseMultiplies_holds : Rows.SparseMultipliesSaid :=
  OpenClaim.holds_of_wide 8 Try.f8 rfl rfl rfl rfl rfl rfl rfl ⟨rfl, rfl, rfl, rfl, rfl⟩ rfl rfl rfl rfl rfl (by kernel_rfl) Try.func8 (by kernel_rfl)
    (of_decide_eq_true (by kernel_rfl)) (by unfold Func.isWrapper; rw [if_neg (of_decide_eq_false (by kernel_rfl))]; exact ⟨rfl, rfl⟩)
    (fun os started H enc _ => multiplies_lifted os started H enc)

end Go.Proofs.Ytmnjglpieghdkaa
