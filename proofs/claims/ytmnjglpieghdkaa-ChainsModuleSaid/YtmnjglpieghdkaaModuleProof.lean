/- ChainsModule: for every input the law answers true, and its arguments read as they did. No condition. -/
import Derived.Test.YtmnjglpieghdkaaLift
import Derived.Test.YtmnjglpieghdkaaLaw4
import Derived.WideKeyPair
namespace Go.Proofs.Ytmnjglpieghdkaa
open Go.ChangeShapes Go.WideShapes Go.ChangeAt Go.RowKit

set_option maxRecDepth 100000 in
theorem module_lifted (os : Os) (started : os.Started) (H : Type) (enc : TypeId × Value → H) :
    ReturnsInHanded {} Try.checked os 4 .any (Rows.chainsModuleSpec.pre6 enc Try.prog Try.f4 Rows.chainsModuleRow.domain false) (Rows.chainsModuleSpec.post enc Try.prog Try.f4 false true false false) := by
  refine returnsInHanded_of_change (C := Try.checked) Am.own3 started (by kernel_rfl) Try.func4
    (ChangeSpec.witness6 (enc := enc) (C := Try.checked) false ⟨#[], #[.slice none 0 0, .slice none 0 0, .agg #[.int .i8 0, .int .i8 0]], []⟩ 8 (by kernel_rfl) (by kernel_rfl) (by kernel_rfl) (by kernel_rfl)) ?_
  intro W base args ds gs before hval0 hW hcnd _
  have hval : ∀ (j : Nat) t v, Try.f4.params[j]? = some t → args[j]? = some v → Value.okWide Try.prog W .any base t v := hval0
  have hW' := hW
  obtain ⟨p, q, hA0, hV, rfl, hfz, hnd⟩ := hW
  have hA : DataW.TrodAll enc Try.prog W 0 (fun _ => true) true Try.f4.params.toList args.toList ds p := hA0
  rw [Try.params4] at hA hval
  obtain ⟨v0, v1, v2, d0, d1, d2, p0, p1, p2, rfl, rfl, rfl, h0, h1, h2⟩ := trodAll_three hA
  obtain ⟨rfl, rfl⟩ := trodVars_none hV
  have A37 : Go.WideMaps.ArrKey Try.prog 37 36 2 := ⟨Try.underlying37, by kernel_rfl, by kernel_rfl, by kernel_rfl⟩
  obtain ⟨w0, w1, rfl, rfl, rfl, b0, b1⟩ := Go.WideMaps.open_pair A37 Try.underlying36 (hval 2 37 v2 rfl rfl) h2
  have h0k := h0
  have h1k := h1
  clear hA0 hval0
  simp only [List.append_nil] at hW'
  have hlt0 : ∀ x ∈ p0, x.block < W.heap.size := fun x hx => by simpa using hW'.lt x (by simp [hx])
  have hlt1 : ∀ x ∈ p1, x.block < W.heap.size := fun x hx => by simpa using hW'.lt x (by simp [hx])
  obtain ⟨a0, n0, c0, rfl⟩ := okWide_slice Try.underlying22 (hval 0 22 v0 rfl rfl)
  obtain ⟨a1, n1, c1, rfl⟩ := okWide_slice Try.underlying22 (hval 1 22 v1 rfl rfl)
  obtain ⟨l, vl, il, ll⟩ := Am.openPairs Try.underlying22 Try.underlying37 Try.underlying36 (by kernel_rfl) (by kernel_rfl) rfl h0
  obtain ⟨m, vm, im, lm⟩ := Am.openPairs Try.underlying22 Try.underlying37 Try.underlying36 (by kernel_rfl) (by kernel_rfl) rfl h1
  have i0 := Am.wf_i8 b0
  have i1 := Am.wf_i8 b1
  have hspec := (Am.lawModule l m w0 w1 il im i0 i1 ll lm) (fun b => b < W.heap.size) W #[.slice a0 n0 c0, .slice a1 n1 c1, (.agg #[.int .i8 w0, .int .i8 w1])] (fun b h => h) rfl (fun j d v hd hv => by
    rcases j with _ | _ | _ | j
    · simp at hd hv; subst hd; subst hv; exact vl
    · simp at hd hv; subst hd; subst hv; exact vm
    · simp at hd hv; subst hd; subst hv; refine .ag _ _ rfl (fun k c v hk hv => ?_)
      rcases k with _ | _ | k
      · simp at hk hv; subst hk; subst hv; exact .i _ _
      · simp at hk hv; subst hk; subst hv; exact .i _ _
      · simp at hk
    · simp at hd)
  refine hspec.2.mono ?_
  rintro e W' ⟨v, rfl, hb, hv⟩
  cases hv
  exact ⟨_, rfl, ⟨_, _, _, [], _, [], hW', trodAll_mk1 (shut_bool Try.underlying4 true), trodAll_mk3 (Below.trod Am.laid3 (by kernel_rfl) (of_decide_eq_true (by kernel_rfl)) h0k hb hlt0) (Below.trod Am.laid3 (by kernel_rfl) (of_decide_eq_true (by kernel_rfl)) h1k hb hlt1) (Go.WideMaps.shut_pair A37 Try.underlying36 b0 b1), rfl, hb.frame _, fun h => by cases h⟩⟩

theorem chainsModule_holds : Rows.ChainsModuleSaid :=
  OpenClaim.holds_of_wide 4 Try.f4 rfl rfl rfl rfl rfl rfl rfl ⟨rfl, rfl, rfl, rfl, rfl⟩ rfl rfl rfl rfl rfl (by kernel_rfl) Try.func4 (by kernel_rfl)
    (of_decide_eq_true (by kernel_rfl)) (by unfold Func.isWrapper; rw [if_neg (of_decide_eq_false (by kernel_rfl))]; exact ⟨rfl, rfl⟩)
    (fun os started H enc _ => module_lifted os started H enc)

end Go.Proofs.Ytmnjglpieghdkaa
