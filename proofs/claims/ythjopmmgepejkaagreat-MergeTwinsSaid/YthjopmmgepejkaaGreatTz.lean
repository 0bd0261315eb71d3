/- MergeTwins: for every input the law answers true, and its arguments read as they did. No condition. -/
import Derived.Test.YthjopmmgepejkaaGreatT6
import Derived.Test.YthjopmmgepejkaaGreatT7
import Derived.WideKeyPair
section
set_option linter.unusedVariables false
set_option linter.unusedSimpArgs false
open Go Go.Am Go.Proofs
namespace Go.Proofs.YthjopmmgepejkaaGreat
open Go.ChangeShapes Go.WideShapes Go.ChangeAt Go.RowKit
set_option maxRecDepth 100000 in
theorem twins31_lifted (os:Os) (started:os.Started) (H:Type) (enc:TypeId × Value→H) :
    ReturnsInHanded {} Tryz.checked os 4 .any (Rows.mergeTwinsSpec.pre6 enc Tryz.prog Tryz.f4 Rows.mergeTwinsRow.domain false) (Rows.mergeTwinsSpec.post enc Tryz.prog Tryz.f4 false true false false):=by
  refine returnsInHanded_of_change (C:=Tryz.checked) ownZ started (by kernel_rfl) Tryz.func4
    (ChangeSpec.witness6 (enc:=enc) (C:=Tryz.checked) false ⟨#[],#[.agg #[.int .u8 0,.slice none 0 0],.int .u8 0],[]⟩ 8 (by kernel_rfl) (by kernel_rfl) (by kernel_rfl) (by kernel_rfl)) ?_
  intro W base args ds gs before hval0 hW hcnd _
  have hval:∀ (j:Nat) t v,Tryz.f4.params[j]? = some t→args[j]? = some v→Value.okWide Tryz.prog W .any base t v:=hval0
  have hW':=hW
  obtain ⟨p,q,hA0,hV,rfl,hfz,hnd⟩:=hW
  have hA:DataW.TrodAll enc Tryz.prog W 0 (fun _=>true) true Tryz.f4.params.toList args.toList ds p:=hA0
  rw [Tryz.params4] at hA hval
  obtain ⟨v0,v1,d0,d1,p0,p1,rfl,rfl,rfl,h0,h1⟩:=trodAll_two hA
  obtain ⟨rfl,rfl⟩:=trodVars_none hV
  obtain ⟨k,rfl,rfl,rfl,wk⟩:=open_int Tryz.underlying5 (hval 1 5 v1 rfl rfl) h1
  clear hA0 hval0
  simp only [List.append_nil] at hW'
  have hlt0:∀ x∈p0,x.block<W.heap.size:=fun x hx=>by simpa using hW'.lt x (by simp [hx])
  obtain ⟨cs0,rfl,_⟩:=okWide_struct Tryz.underlying24 (hval 0 24 v0 rfl rfl)
  obtain ⟨s,l,vl,hs,il,ll⟩:=Am.openRawZ rfl h0
  have hspec:=(Am.lawTwins s l k hs il ll (Am.wf_u8z wk) Am.sanity31) (fun b=>b<W.heap.size) W #[.agg cs0,.int .u8 k] (fun b h=>h) rfl (fun j d v hd hv=>by
    rcases j with _ | _ | j
    · simp at hd hv; subst hd; subst hv; exact vl
    · simp at hd hv; subst hd; subst hv; exact .i _ _
    · simp at hd)
  refine hspec.2.mono ?_
  rintro e W' ⟨v,rfl,hb,hv⟩
  cases hv
  exact ⟨_,rfl,⟨_,_,_,[],_,[],hW',trodAll_mk1 (shut_bool Tryz.underlying4 true),trodAll_mk2 (Below.trod laidZ (by kernel_rfl) (of_decide_eq_true (by kernel_rfl)) h0 hb hlt0) (shut_int Tryz.underlying5 wk),rfl,hb.frame _,fun h=>by cases h⟩⟩
theorem mergeTwins_holds:Rows.MergeTwinsSaid :=
  OpenClaim.holds_of_wide 4 Tryz.f4 rfl rfl rfl rfl rfl rfl rfl ⟨rfl,rfl,rfl,rfl,rfl⟩ rfl rfl rfl rfl rfl (by kernel_rfl) Tryz.func4 (by kernel_rfl)
    (of_decide_eq_true (by kernel_rfl)) (by unfold Func.isWrapper; rw [if_neg (of_decide_eq_false (by kernel_rfl))]; exact ⟨rfl,rfl⟩)
    (fun os started H enc _=>twins31_lifted os started H enc)
end Go.Proofs.YthjopmmgepejkaaGreat
end
