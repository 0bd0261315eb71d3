/- WorkersWork: for every input the law answers true, and its arguments read as they did. No condition. -/
import Derived.Test.YtmmghmkgjihohaaGreatK7
open Go.Proofs.Tryz renaming prog→Aa
open _root_ renaming of_decide_eq_true→C5
set_option linter.unusedSectionVars false
set_option linter.unusedVariables false
set_option linter.unusedSimpArgs false
section
open List renaming map_map→ζ,mapM_map→ξ
open Go Go.Am Go.Proofs
namespace Go.Proofs.YtmmghmkgjihohaaGreat
open Go.ChangeShapes Go.WideShapes Go.ChangeAt Go.RowKit
set_option maxRecDepth 100000 in
theorem rK(os:Os)(started:os.Started)(H:Type)(enc:TypeId×Value→H) :
  ReturnsInLeavingWide {} Tryz.checked os 3 .any (Rows.workersWorkSpec.pre6 enc Aa Tryz.f3 Rows.workersWorkRow.domain false) (Rows.workersWorkSpec.post enc Aa Tryz.f3 false true false false):=by
 refine returnsInLeavingWide_of_change_sized (C:=Tryz.checked) bZu started Tryz.func3
  (ChangeSpec.witness6 (enc:=enc) (C:=Tryz.checked) false ⟨#[],#[.agg #[.int .u8 0,.int .u8 0,.slice none 0 0],.slice none 0 0],[]⟩ 8 (by kernel_rfl) (by kernel_rfl) (by kernel_rfl) (by kernel_rfl)) ?_
 intro W base args ds gs before hval0 hW _ _ _
 have hval:∀(j:Nat) t v,Tryz.f3.params[j]? = some t→args[j]? = some v→Value.okWide Aa W .any base t v:=hval0
 have hW':=hW
 obtain⟨p,q,hA0,hV,rfl,hfz,hnd⟩:=hW
 have hA:DataW.TrodAll enc Aa W 0 (fun _=>true) true Tryz.f3.params.toList args.toList ds p:=hA0
 rw[Tryz.params3]at hA hval
 obtain⟨v0,v1,d0,d1,p0,p1,rfl,rfl,rfl,h0,h1⟩:=trodAll_two hA
 obtain⟨rfl,rfl⟩:=trodVars_none hV
 clear hA0 hval0
 simp only[List.append_nil]at hW'
 have hlt0:∀ x∈p0,x.block<W.heap.size:=fun x hx=>by simpa using hW'.lt x (by simp[hx])
 have hlt1:∀ x∈p1,x.block<W.heap.size:=fun x hx=>by simpa using hW'.lt x (by simp[hx])
 obtain⟨cs0,rfl,_⟩:=okWide_struct Tryz.underlying24 (hval 0 24 v0 rfl rfl)
 obtain⟨a1,n1,c1,rfl⟩:=okWide_slice Tryz.underlying25 (hval 1 25 v1 rfl rfl)
 obtain⟨R,C,V,vl,hR,hVb,hVl,hC⟩:=Am.bBv rfl h0
 have h1k:=h1
 obtain⟨fu,h1f⟩:=h1
 obtain⟨u,l,e1,vy,il,ll⟩:=Am.bBu h1f
 have e2:Value.slice a1 n1 c1=u:=by simpa using e1
 subst e2
 have hlaw:=Am.bXt R C V l hR hC hVb hVl il ll Am.bAi
 refine Am.bKu Am.aT Tryz.func3 (by kernel_rfl) hlaw rfl (fun j d v hd hv=>?_) ?_
 ·rcases j with _|_|j
  ·simp at hd hv;subst hd;subst hv;exact vl
  ·simp at hd hv;subst hd;subst hv;exact vy
  ·simp at hd
 rintro x W' hb ⟨F,v',hx⟩
 cases hx
 exact⟨_,_,_,[],_,[],hW',trodAll_mk1 (shut_bool Tryz.underlying4 true),trodAll_mk2 (Below.trod Am.bRf (by kernel_rfl) (C5 (by kernel_rfl)) h0 hb hlt0) (Below.trod Am.bRf (by kernel_rfl) (C5 (by kernel_rfl)) h1k hb hlt1),rfl,hb.frame _,fun h=>by cases h⟩
theorem workersWork_holds:Rows.WorkersWorkSaid :=
 OpenClaim.holds_of_wide_leaving 3 Tryz.f3 rfl rfl rfl rfl rfl rfl rfl ⟨rfl,rfl,rfl,rfl,rfl⟩ rfl rfl rfl rfl rfl (by kernel_rfl) Tryz.func3 (by kernel_rfl)
  (C5 (by kernel_rfl)) (by unfold Func.isWrapper;rw[if_neg (of_decide_eq_false (by kernel_rfl))];exact⟨rfl,rfl⟩)
  (fun os started H enc _=>rK os started H enc)
end Go.Proofs.YtmmghmkgjihohaaGreat
end
