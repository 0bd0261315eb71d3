/- ChainsRows: for every input the law answers true, and its arguments read as they did. No condition. -/
import Derived.Test.YtmnjglpieghdkaaGreatW6
import Derived.WideKeyPair
section
set_option linter.unusedVariables false
set_option linter.unusedSimpArgs false
open Go Go.Am Go.Proofs
namespace Go.Proofs.YtmnjglpieghdkaaGreat
open Go.ChangeShapes Go.WideShapes Go.ChangeAt Go.RowKit
set_option maxRecDepth 100000 in
theorem rows26_lifted (os : Os) (started : os.Started) (H : Type) (enc : TypeId × Value → H) :
    ReturnsInHanded {} Tryz.checked os 5 .any (Rows.chainsRowsSpec.pre6 enc Tryz.prog Tryz.f5 Rows.chainsRowsRow.domain false) (Rows.chainsRowsSpec.post enc Tryz.prog Tryz.f5 false true false false) := by
  refine returnsInHanded_of_change (C := Tryz.checked) ownZ started (by kernel_rfl) Tryz.func5
    (ChangeSpec.witness6 (enc := enc) (C := Tryz.checked) false ⟨#[], #[.agg #[.int .u8 0, .slice none 0 0], .slice none 0 0, .agg #[.int .i8 0, .int .i8 0]], []⟩ 8 (by kernel_rfl) (by kernel_rfl) (by kernel_rfl) (by kernel_rfl)) ?_
  intro W base args ds gs before hval0 hW hcnd _
  have hval : ∀ (j : Nat) t v, Tryz.f5.params[j]? = some t → args[j]? = some v → Value.okWide Tryz.prog W .any base t v := hval0
  have hW' := hW
  obtain ⟨p, q, hA0, hV, rfl, hfz, hnd⟩ := hW
  have hA : DataW.TrodAll enc Tryz.prog W 0 (fun _ => true) true Tryz.f5.params.toList args.toList ds p := hA0
  rw [Tryz.params5] at hA hval
  obtain ⟨v0, v1, v2, d0, d1, d2, p0, p1, p2, rfl, rfl, rfl, h0, h1, h2⟩ := trodAll_three hA
  obtain ⟨rfl, rfl⟩ := trodVars_none hV
  have A2 : Go.WideMaps.ArrKey Tryz.prog 67 26 2 := ⟨Tryz.underlying67, by kernel_rfl, by kernel_rfl, by kernel_rfl⟩
  obtain ⟨w0, w1, rfl, rfl, rfl, b0, b1⟩ := Go.WideMaps.open_pair A2 Tryz.underlying26 (hval 2 67 v2 rfl rfl) h2
  clear hA0 hval0
  simp only [List.append_nil] at hW'
  have hlt0 : ∀ x ∈ p0, x.block < W.heap.size := fun x hx => by simpa using hW'.lt x (by simp [hx])
  have hlt1 : ∀ x ∈ p1, x.block < W.heap.size := fun x hx => by simpa using hW'.lt x (by simp [hx])
  obtain ⟨cs0, rfl, _⟩ := okWide_struct Tryz.underlying24 (hval 0 24 v0 rfl rfl)
  obtain ⟨a1, n1, c1, rfl⟩ := okWide_slice Tryz.underlying48 (hval 1 48 v1 rfl rfl)
  obtain ⟨s, l, vl, hs, il, ll⟩ := Am.openRawZ rfl h0
  have h1k := h1
  obtain ⟨fu, h1f⟩ := h1
  obtain ⟨u, m, e1, vm, im, lm⟩ := Am.openBz h1f
  have e2 : Value.slice a1 n1 c1 = u := by simpa using e1
  subst e2
  have hspec := (Am.lawRows26 s l m w0 w1 hs il ll im lm (Am.wf_i8z b0) (Am.wf_i8z b1)) (fun b => b < W.heap.size) W #[.agg cs0, .slice a1 n1 c1, (.agg #[.int .i8 w0, .int .i8 w1])] (fun b h => h) rfl (fun j d v hd hv => by
    rcases j with _ | _ | _ | j
    · simp at hd hv; subst hd; subst hv; exact vl
    · simp at hd hv; subst hd; subst hv; exact vm
    · simp at hd hv; subst hd; subst hv; refine .ag _ _ rfl (fun k c v hk hv => ?_)
      rcases k with _ | _ | k
      · simp at hk hv; subst hk; subst hv; exact .i _ _
      · simp at hk hv; subst hk; subst hv; exact .i _ _
      · simp at hk
    · simp at hd)
  refine hspec.2.mono ?_
  rintro e W' ⟨v, rfl, hb, hv⟩
  cases hv
  exact ⟨_, rfl, ⟨_, _, _, [], _, [], hW', trodAll_mk1 (shut_bool Tryz.underlying4 true), trodAll_mk3 (Below.trod laidZ (by kernel_rfl) (of_decide_eq_true (by kernel_rfl)) h0 hb hlt0) (Below.trod laidZ (by kernel_rfl) (of_decide_eq_true (by kernel_rfl)) h1k hb hlt1) (Go.WideMaps.shut_pair A2 Tryz.underlying26 b0 b1), rfl, hb.frame _, fun h => by cases h⟩⟩
theorem chainsRows_holds : Rows.ChainsRowsSaid :=
  OpenClaim.holds_of_wide 5 Tryz.f5 rfl rfl rfl rfl rfl rfl rfl ⟨rfl, rfl, rfl, rfl, rfl⟩ rfl rfl rfl rfl rfl (by kernel_rfl) Tryz.func5 (by kernel_rfl)
    (of_decide_eq_true (by kernel_rfl)) (by unfold Func.isWrapper; rw [if_neg (of_decide_eq_false (by kernel_rfl))]; exact ⟨rfl, rfl⟩)
    (fun os started H enc _ => rows26_lifted os started H enc)
end Go.Proofs.YtmnjglpieghdkaaGreat
end
