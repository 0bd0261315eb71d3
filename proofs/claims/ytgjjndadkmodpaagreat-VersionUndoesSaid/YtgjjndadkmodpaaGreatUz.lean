/- VersionUndoes: for every input the law answers true, and its arguments read as they did. No condition. -/
import Derived.Test.YtgjjndadkmodpaaGreatU8
import Derived.WideKeyPair
set_option linter.all false
set_option maxRecDepth 100000
open Go.Proofs.Tryz renaming prog->Aa
open _root_ renaming of_decide_eq_true->BG
section
open List renaming map_map->A,mapM_map->B
open Go Go.Am Go.Proofs
namespace Go.Proofs.YtgjjndadkmodpaaGreat
open Go.ChangeShapes Go.WideShapes Go.ChangeAt Go.RowKit
theorem aOh(os:Os)(started:os.Started)(H:Type)(enc:TypeId×Value->H) :
  ReturnsInHanded {} Tryz.checked os 4 .any (Rows.versionUndoesSpec.pre6 enc Aa Tryz.f4 Rows.versionUndoesRow.domain false) (Rows.versionUndoesSpec.post enc Aa Tryz.f4 false true false false):=by
 refine returnsInHanded_of_change (C:=Tryz.checked) cDz started (by kernel_rfl) Tryz.func4
  (ChangeSpec.witness6 (enc:=enc) (C:=Tryz.checked) false ⟨#[],#[.agg #[.int .u8 0,.slice none 0 0],.slice none 0 0,.agg #[.int .u8 0,.int .u8 0,.int .u8 0,.int .i8 0,.int .i8 0,.int .i8 0,.int .i8 0]],[]⟩ 8 (by kernel_rfl) (by kernel_rfl) (by kernel_rfl) (by kernel_rfl)) ?_
 intro W base args ds gs before hval0 hW hcnd _
 have hval:∀(j:Nat) t v,Tryz.f4.params[j]? = some t->args[j]? = some v->Value.okWide Aa W .any base t v:=hval0
 have hW':=hW
 obtain⟨p,q,hA0,hV,rfl,hfz,hnd⟩:=hW
 have hA:DataW.TrodAll enc Aa W 0 (λ_=>true) true Tryz.f4.params.toList args.toList ds p:=hA0
 rw[Tryz.params4]at hA hval
 obtain⟨v0,v1,v2,d0,d1,d2,p0,p1,p2,rfl,rfl,rfl,h0,h1,h2⟩:=trodAll_three hA
 obtain⟨rfl,rfl⟩:=trodVars_none hV
 clear hA0 hval0
 simp only[List.append_nil]at hW'
 have hlt0:∀x∈p0,x.block<W.heap.size:=λx hx=>by simpa using hW'.lt x (by simp[hx])
 have hlt1:∀x∈p1,x.block<W.heap.size:=λx hx=>by simpa using hW'.lt x (by simp[hx])
 have hlt2:∀x∈p2,x.block<W.heap.size:=λx hx=>by simpa using hW'.lt x (by simp[hx])
 obtain⟨cs0,rfl,_⟩:=okWide_struct Tryz.underlying24 (hval 0 24 v0 rfl rfl)
 obtain⟨a1,n1,c1,rfl⟩:=okWide_slice Tryz.underlying25 (hval 1 25 v1 rfl rfl)
 obtain⟨cs2,rfl,_⟩:=okWide_struct Tryz.underlying29 (hval 2 29 v2 rfl rfl)
 obtain⟨s,l,vl,hs,il,ll⟩:=Am.bIh rfl h0
 obtain⟨z,vz,hz⟩:=Am.bCk rfl h2
 have h1k:=h1
 obtain⟨fu,h1f⟩:=h1
 obtain⟨u,m,e1,vm,im,lm⟩:=Am.bQy h1f
 have e2:Value.slice a1 n1 c1=u:=by simpa using e1
 subst e2
 have hspec:=(Am.cBr s l m z hs il ll im lm hz Am.bGw) (λb=>b<W.heap.size) W #[.agg cs0,.slice a1 n1 c1,.agg cs2] (λb h=>h) rfl (λj d v hd hv=>by
  rcases j with _|_|_|j
  ·simp at hd hv;subst hd;subst hv;exact vl
  ·simp at hd hv;subst hd;subst hv;exact vm
  ·simp at hd hv;subst hd;subst hv;exact vz
  ·simp at hd)
 refine hspec.2.mono ?_
 rintro e W' ⟨v,rfl,hb,hv⟩
 cases hv
 exact⟨_,rfl,⟨_,_,_,[],_,[],hW',trodAll_mk1 (shut_bool Tryz.underlying4 true),trodAll_mk3 (Below.trod bJv (by kernel_rfl) (BG (by kernel_rfl)) h0 hb hlt0) (Below.trod bJv (by kernel_rfl) (BG (by kernel_rfl)) h1k hb hlt1) (Below.trod bJv (by kernel_rfl) (BG (by kernel_rfl)) h2 hb hlt2),rfl,hb.frame _,λh=>by cases h⟩⟩
theorem versionUndoes_holds:Rows.VersionUndoesSaid :=
 OpenClaim.holds_of_wide 4 Tryz.f4 rfl rfl rfl rfl rfl rfl rfl ⟨rfl,rfl,rfl,rfl,rfl⟩ rfl rfl rfl rfl rfl (by kernel_rfl) Tryz.func4 (by kernel_rfl)
  (BG (by kernel_rfl)) (by unfold Func.isWrapper;rw[if_neg (of_decide_eq_false (by kernel_rfl))];exact⟨rfl,rfl⟩)
  (λos started H enc _=>aOh os started H enc)
end Go.Proofs.YtgjjndadkmodpaaGreat
end
