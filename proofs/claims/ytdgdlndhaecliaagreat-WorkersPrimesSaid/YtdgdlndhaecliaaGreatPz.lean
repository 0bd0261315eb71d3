/- WorkersPrimes: for every input the law answers true, and its arguments read as they did. No condition. -/
import Derived.Test.YtdgdlndhaecliaaGreatP5
import Derived.Test.YtdgdlndhaecliaaGreatP6
set_option linter.unusedSectionVars false
set_option linter.unusedVariables false
set_option linter.unusedSimpArgs false
section
open List renaming map_map→ζ,mapM_map→ξ
open Go Go.Am Go.Proofs
namespace Go.Proofs.YtdgdlndhaecliaaGreat
open Go.ChangeShapes Go.WideShapes Go.ChangeAt Go.RowKit
set_option maxRecDepth 100000 in
theorem pr_lifted (os:Os) (started:os.Started) (H:Type) (enc:TypeId × Value→H) :
    ReturnsInLeavingWide {} Tryz.checked os 4 .any (Rows.workersPrimesSpec.pre6 enc Tryz.prog Tryz.f4 Rows.workersPrimesRow.domain false) (Rows.workersPrimesSpec.post enc Tryz.prog Tryz.f4 false true false false):=by
  refine returnsInLeavingWide_of_change_sized (C:=Tryz.checked) ownZ started Tryz.func4
    (ChangeSpec.witness6 (enc:=enc) (C:=Tryz.checked) false ⟨#[],#[.slice none 0 0,.int .u8 0],[]⟩ 8 (by kernel_rfl) (by kernel_rfl) (by kernel_rfl) (by kernel_rfl)) ?_
  intro W base args ds gs before hval0 hW _ _ _
  have hval:∀ (j:Nat) t v,Tryz.f4.params[j]? = some t→args[j]? = some v→Value.okWide Tryz.prog W .any base t v:=hval0
  have hW':=hW
  obtain ⟨p,q,hA0,hV,rfl,hfz,hnd⟩:=hW
  have hA:DataW.TrodAll enc Tryz.prog W 0 (fun _=>true) true Tryz.f4.params.toList args.toList ds p:=hA0
  rw [Tryz.params4] at hA hval
  obtain ⟨v0,v1,d0,d1,p0,p1,rfl,rfl,rfl,h0,h1⟩:=trodAll_two hA
  obtain ⟨rfl,rfl⟩:=trodVars_none hV
  obtain ⟨k,rfl,rfl,rfl,wk⟩:=open_int Tryz.underlying5 (hval 1 5 v1 rfl rfl) h1
  clear hA0 hval0
  simp only [List.append_nil] at hW'
  have hlt0:∀ x∈p0,x.block<W.heap.size:=fun x hx=>by simpa using hW'.lt x (by simp [hx])
  obtain ⟨a0,n0,c0,rfl⟩:=okWide_slice Tryz.underlying29 (hval 0 29 v0 rfl rfl)
  have h0k:=h0
  obtain ⟨fu,h0f⟩:=h0
  obtain ⟨u,m,e1,vm,im,lm⟩:=Am.openLimbs2 Tryz.underlying29 Tryz.underlying89 Am.zU32 h0f
  have e2:Value.slice a0 n0 c0=u:=by simpa using e1
  subst e2
  obtain ⟨k1,k2⟩:=Am.wf_u8z wk
  have hlaw:=letI:=mainMch Tryz.prog; Am.lawPrimes m k.toNat im lm (by omega) Am.sanity20
  refine Am.run_law Am.follows_mixed Tryz.func4 (by kernel_rfl) hlaw rfl (fun j d v hd hv=>?_) ?_
  · rcases j with _ | _ | j
    · simp at hd hv; subst hd; subst hv; exact vm
    · simp at hd hv; subst hd; subst hv
      rw [show max k 0=k by omega]
      exact .i _ _
    · simp at hd
  rintro x W' hb ⟨F,v',hx⟩
  cases hx
  exact ⟨_,_,_,[],_,[],hW',trodAll_mk1 (shut_bool Tryz.underlying4 true),trodAll_mk2 (Below.trod Am.laidZ (by kernel_rfl) (of_decide_eq_true (by kernel_rfl)) h0k hb hlt0) (shut_int Tryz.underlying5 wk),rfl,hb.frame _,fun h=>by cases h⟩
theorem workersPrimes_holds:Rows.WorkersPrimesSaid :=
  OpenClaim.holds_of_wide_leaving 4 Tryz.f4 rfl rfl rfl rfl rfl rfl rfl ⟨rfl,rfl,rfl,rfl,rfl⟩ rfl rfl rfl rfl rfl (by kernel_rfl) Tryz.func4 (by kernel_rfl)
    (of_decide_eq_true (by kernel_rfl)) (by unfold Func.isWrapper; rw [if_neg (of_decide_eq_false (by kernel_rfl))]; exact ⟨rfl,rfl⟩)
    (fun os started H enc _=>pr_lifted os started H enc)
end Go.Proofs.YtdgdlndhaecliaaGreat
end
