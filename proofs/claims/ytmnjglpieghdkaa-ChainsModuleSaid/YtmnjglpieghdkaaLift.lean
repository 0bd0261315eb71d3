/- What came in reads as data. No condition. -/
import Derived.Test.YtmnjglpieghdkaaPl1
import Derived.Test.YtmnjglpieghdkaaRows
import Derived.ProofKit
import Derived.OpenShut
open Go Go.Am Go.Proofs
namespace Go.Am
set_option linter.unusedSimpArgs false

open Go.ChangeShapes Go.WideShapes Go.ChangeAt Go.RowKit

theorem own3 : ownKnob Try.prog.godebug = none := by kernel_rfl
theorem laid3 : laidOutB Try.prog = true := by kernel_rfl

def numV : Value → Int
  | .int _ n => n
  | _ => 0

theorem cell_lt {w : World} {a : Addr} {v : Value} (h : w.cell? a = some v) : a.block < w.heap.size := by
  unfold World.cell? at h
  cases hb : w.heap[a.block]? with
  | none => rw [hb] at h; cases h
  | some o => exact (Array.getElem?_eq_some_iff.1 hb).1

theorem wf_i8 {n : Int} (h : (Lit.int .i8 n).wf = true) : -128 ≤ n ∧ n ≤ 127 := by
  have hmin : IntKind.i8.min = -128 := rfl
  have hmax : IntKind.i8.max = 127 := rfl
  simp only [Lit.wf, Bool.and_eq_true, decide_eq_true_eq] at h
  omega

/-- A list of pairs of bytes that came in reads as data. -/
theorem openPairs {P : Program} {H : Type} {enc : TypeId × Value → H} {w : World} {sp : Nat → Bool} {held : Bool} {t e q : TypeId} {v : Value} {d : DataW H} {ps : List MemPlace} (ht : P.underlying t = some (.slice e)) (he : P.underlying e = some (.array 2 q)) (hq : P.underlying q = some (.int .i8))
    (ce : P.cellsOf e = 2) (cq : P.cellsOf q = 1) (hcell : v.cells = #[v]) (h : DataW.Trod enc P w 0 sp held t v d ps) : ∃ l : List (Int × Int), VD (fun b => b < w.heap.size) w (encP l) v ∧ (∀ p ∈ l, I8 p) ∧ l.length ≤ 9223372036854775807 := by
  obtain ⟨fuel, hf⟩ := h
  rw [hcell] at hf
  rcases DataW.trod_slice ht hf with ⟨hcs, _⟩ | ⟨a, len, cap, elems, rest, n, _, hcs, _, _, hlc, hcm, hel, hE, _⟩
  · have hv : v = .slice none 0 0 := by simpa using hcs
    subst hv
    exact ⟨[], (show VD _ _ (.sl []) _ from .sl0 _ _), (fun p hp => by cases hp), Nat.zero_le _⟩
  · have hv : v = .slice (some a) len cap := by simpa using hcs
    subst hv
    have each : ∀ i, i < len → ∃ x y : Int, w.cell? (a.add (i * 2)) = some (.int .i8 x) ∧ w.cell? (a.add (i * 2 + 1)) = some (.int .i8 y) ∧ (-128 ≤ x ∧ x ≤ 127) ∧ -128 ≤ y ∧ y ≤ 127 := by
      intro i hi
      have h1 := hE i hi
      rw [ce, List.getElem?_eq_getElem (by omega)] at h1
      obtain ⟨cs, h2, h3⟩ := Option.bind_eq_some_iff.1 h1
      obtain ⟨xs, m, _, _, hcl, hxl, hx⟩ := DataW.trod_array he h3
      have h4 := hx 0 (by omega)
      have h5 := hx 1 (by omega)
      rw [cq, List.getElem?_eq_getElem (by omega)] at h4 h5
      obtain ⟨x, q1, _, w1⟩ := DataW.trod_int hq h4
      obtain ⟨y, q2, _, w2⟩ := DataW.trod_int hq h5
      unfold World.cells? at h2
      rw [if_pos (Nat.zero_le _)] at h2
      have hr : List.range 2 = [0, 1] := rfl
      rw [hr] at h2
      simp only [List.mapM_cons, List.mapM_nil, Option.bind_eq_bind, Option.bind_eq_some_iff, Option.pure_def, Option.some.injEq] at h2
      obtain ⟨c0, e0, r1, ⟨c1, e1, r2, rfl, rfl⟩, rfl⟩ := h2
      simp at q1 q2
      subst q1; subst q2
      rw [add_add] at e0 e1
      exact ⟨x, y, by simpa using e0, e1, wf_i8 w1, (wf_i8 w2).1, (wf_i8 w2).2⟩
    let f : Nat → Value := fun j => (w.cell? (a.add j)).getD undef
    refine ⟨(List.range len).map fun i => (numV (f (i * 2)), numV (f (i * 2 + 1))), ?_, fun p hp => ?_, ?_⟩
    · rcases Nat.eq_zero_or_pos len with h0 | hpos
      · subst h0; exact (show VD _ _ (.sl []) _ from .sl0 _ _)
      · obtain ⟨x0, _, hc0, _⟩ := each 0 hpos
        have hab : a.block < w.heap.size := by
          have := cell_lt hc0
          rwa [block_add] at this
        refine .sl _ a len cap 2 f (by simp) hlc (fun cs hcs => ?_) hab (fun j hj => ?_) (fun j k cs c hj hk => ?_)
        · obtain ⟨p, _, rfl⟩ := List.mem_map.1 hcs; rfl
        · have hj2 : j / 2 < len := by omega
          obtain ⟨x, y, c0, c1, _⟩ := each (j / 2) hj2
          rcases Nat.mod_two_eq_zero_or_one j with hm | hm
          · have e : j / 2 * 2 = j := by omega
            rw [e] at c0
            simp [f, c0]
          · have e : j / 2 * 2 + 1 = j := by omega
            rw [e] at c1
            simp [f, c1]
        · have hjl : j < len := by have := (List.getElem?_eq_some_iff.1 hj).1; simpa using this
          simp only [List.getElem?_map, List.getElem?_range hjl, Option.map_some, Option.some.injEq] at hj
          subst hj
          obtain ⟨x, y, c0, c1, _⟩ := each j hjl
          have f0 : f (j * 2) = .int .i8 x := by simp [f, c0]
          have f1 : f (j * 2 + 1) = .int .i8 y := by simp [f, c1]
          rcases k with _ | _ | k
          · simp at hk; subst hk
            rw [Nat.add_zero, f0]; exact .i _ _
          · simp at hk; subst hk
            rw [f1]; exact .i _ _
          · simp at hk
    · obtain ⟨i, hi, rfl⟩ := List.mem_map.1 hp
      obtain ⟨x, y, c0, c1, b1, b2⟩ := each i (List.mem_range.1 hi)
      have f0 : f (i * 2) = .int .i8 x := by simp [f, c0]
      have f1 : f (i * 2 + 1) = .int .i8 y := by simp [f, c1]
      rw [f0, f1]
      exact ⟨b1, b2⟩
    · simp only [List.length_map, List.length_range]
      exact Nat.le_trans hlc hcm

end Go.Am
