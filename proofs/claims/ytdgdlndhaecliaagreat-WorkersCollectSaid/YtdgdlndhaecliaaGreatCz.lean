/- WorkersCollect: for every input the law answers true, and its arguments read as they did. No condition. -/
import Derived.Test.YtdgdlndhaecliaaGreatC5
import Derived.Test.YtdgdlndhaecliaaGreatC6
set_option linter.all false
set_option maxRecDepth 100000
open Go.Proofs.Tryz renaming prog->Aa
open _root_ renaming of_decide_eq_true->DG
section
open List renaming map_map->A,mapM_map->B
open Go Go.Am Go.Proofs
namespace Go.Proofs.YtdgdlndhaecliaaGreat
open Go.ChangeShapes Go.WideShapes Go.ChangeAt Go.RowKit
theorem pL(os:Os)(started:os.Started)(H:Type)(enc:TypeId×Value->H) :
  ReturnsInLeavingWide {} Tryz.checked os 5 .any (Rows.workersCollectSpec.pre6 enc Aa Tryz.f5 Rows.workersCollectRow.domain false) (Rows.workersCollectSpec.post enc Aa Tryz.f5 false true false false):=by
 refine returnsInLeavingWide_of_change_sized (C:=Tryz.checked) cEq started Tryz.func5
  (ChangeSpec.witness6 (enc:=enc) (C:=Tryz.checked) false ⟨#[],#[.agg #[.int .u8 0,.int .u8 0,.slice none 0 0],.agg #[.int .u8 0,.slice none 0 0,.slice none 0 0,.int .u8 0]],[]⟩ 8 (by kernel_rfl) (by kernel_rfl) (by kernel_rfl) (by kernel_rfl)) ?_
 intro W base args ds gs before hval0 hW _ _ _
 have hval:∀(j:Nat) t v,Tryz.f5.params[j]? = some t->args[j]? = some v->Value.okWide Aa W .any base t v:=hval0
 have hW':=hW
 obtain⟨p,q,hA0,hV,rfl,hfz,hnd⟩:=hW
 have hA:DataW.TrodAll enc Aa W 0 (λ_=>true) true Tryz.f5.params.toList args.toList ds p:=hA0
 rw[Tryz.params5]at hA hval
 obtain⟨v0,v1,d0,d1,p0,p1,rfl,rfl,rfl,h0,h1⟩:=trodAll_two hA
 obtain⟨rfl,rfl⟩:=trodVars_none hV
 clear hA0 hval0
 simp only[List.append_nil]at hW'
 have hlt0:∀x∈p0,x.block<W.heap.size:=λx hx=>by simpa using hW'.lt x (by simp[hx])
 have hlt1:∀x∈p1,x.block<W.heap.size:=λx hx=>by simpa using hW'.lt x (by simp[hx])
 obtain⟨cs0,rfl,_⟩:=okWide_struct Tryz.underlying55 (hval 0 55 v0 rfl rfl)
 obtain⟨cs1,rfl,_⟩:=okWide_struct Tryz.underlying58 (hval 1 58 v1 rfl rfl)
 obtain⟨R,C,V,vl,hR,hVb,hVl⟩:=Am.bGb rfl h0
 obtain⟨N,T,At,By,vy,hN,hT,hAt,hBy,hAl,hBl⟩:=Am.bGc rfl h1
 have hlaw:=Am.cDa R C N T V At By hR hN hT hVb hVl hAt hBy hAl hBl Am.bEp
 refine Am.bPh Am.aR Tryz.func5 (by kernel_rfl) hlaw rfl (λj d v hd hv=>?_) ?_
 ·rcases j with _|_|j
  ·simp at hd hv;subst hd;subst hv;exact vl
  ·simp at hd hv;subst hd;subst hv;exact vy
  ·simp at hd
 rintro x W' hb ⟨F,v',hx⟩
 cases hx
 exact⟨_,_,_,[],_,[],hW',trodAll_mk1 (shut_bool Tryz.underlying4 true),trodAll_mk2 (Below.trod Am.bWb (by kernel_rfl) (DG (by kernel_rfl)) h0 hb hlt0) (Below.trod Am.bWb (by kernel_rfl) (DG (by kernel_rfl)) h1 hb hlt1),rfl,hb.frame _,λh=>by cases h⟩
theorem workersCollect_holds:Rows.WorkersCollectSaid :=
 OpenClaim.holds_of_wide_leaving 5 Tryz.f5 rfl rfl rfl rfl rfl rfl rfl ⟨rfl,rfl,rfl,rfl,rfl⟩ rfl rfl rfl rfl rfl (by kernel_rfl) Tryz.func5 (by kernel_rfl)
  (DG (by kernel_rfl)) (by unfold Func.isWrapper;rw[if_neg (of_decide_eq_false (by kernel_rfl))];exact⟨rfl,rfl⟩)
  (λos started H enc _=>pL os started H enc)
end Go.Proofs.YtdgdlndhaecliaaGreat
end
