/- VersionMergesBeginnings: for every input the law answers true, and its arguments read as they did. No condition. -/
import Derived.Test.YtgjjndadkmodpaaGreatB8
import Derived.WideKeyPair
set_option linter.all false
set_option maxRecDepth 100000
open Go.Proofs.Tryz renaming prog->Aa,underlying5->Dy
open _root_ renaming of_decide_eq_true->BI
section
open List renaming map_map->A,mapM_map->B
open Go Go.Am Go.Proofs
namespace Go.Proofs.YtgjjndadkmodpaaGreat
open Go.ChangeShapes Go.WideShapes Go.ChangeAt Go.RowKit
theorem aOk(os:Os)(started:os.Started)(H:Type)(enc:TypeId×Value->H) :
  ReturnsInHanded {} Tryz.checked os 6 .any (Rows.versionMergesBeginningsSpec.pre6 enc Aa Tryz.f6 Rows.versionMergesBeginningsRow.domain false) (Rows.versionMergesBeginningsSpec.post enc Aa Tryz.f6 false true false false):=by
 refine returnsInHanded_of_change (C:=Tryz.checked) cDx started (by kernel_rfl) Tryz.func6
  (ChangeSpec.witness6 (enc:=enc) (C:=Tryz.checked) false ⟨#[],#[.agg #[.int .u8 0,.slice none 0 0],.slice none 0 0,.int .u8 0],[]⟩ 8 (by kernel_rfl) (by kernel_rfl) (by kernel_rfl) (by kernel_rfl)) ?_
 intro W base args ds gs before hval0 hW hcnd _
 have hval:∀(j:Nat) t v,Tryz.f6.params[j]? = some t->args[j]? = some v->Value.okWide Aa W .any base t v:=hval0
 have hW':=hW
 obtain⟨p,q,hA0,hV,rfl,hfz,hnd⟩:=hW
 have hA:DataW.TrodAll enc Aa W 0 (λ_=>true) true Tryz.f6.params.toList args.toList ds p:=hA0
 rw[Tryz.params6]at hA hval
 obtain⟨v0,v1,v2,d0,d1,d2,p0,p1,p2,rfl,rfl,rfl,h0,h1,h2⟩:=trodAll_three hA
 obtain⟨rfl,rfl⟩:=trodVars_none hV
 obtain⟨k,rfl,rfl,rfl,wk⟩:=open_int Dy (hval 2 5 v2 rfl rfl) h2
 clear hA0 hval0
 simp only[List.append_nil]at hW'
 have hlt0:∀x∈p0,x.block<W.heap.size:=λx hx=>by simpa using hW'.lt x (by simp[hx])
 have hlt1:∀x∈p1,x.block<W.heap.size:=λx hx=>by simpa using hW'.lt x (by simp[hx])
 obtain⟨cs0,rfl,_⟩:=okWide_struct Tryz.underlying24 (hval 0 24 v0 rfl rfl)
 obtain⟨a1,n1,c1,rfl⟩:=okWide_slice Tryz.underlying25 (hval 1 25 v1 rfl rfl)
 obtain⟨s,l,vl,hs,il,ll⟩:=Am.bIe rfl h0
 have h1k:=h1
 obtain⟨fu,h1f⟩:=h1
 obtain⟨u,m,e1,vm,im,lm⟩:=Am.bQu h1f
 have e2:Value.slice a1 n1 c1=u:=by simpa using e1
 subst e2
 have hspec:=(Am.cBp s l m k hs il ll im lm (Am.aDz wk) Am.bGr) (λb=>b<W.heap.size) W #[.agg cs0,.slice a1 n1 c1,.int .u8 k] (λb h=>h) rfl (λj d v hd hv=>by
  rcases j with _|_|_|j
  ·simp at hd hv;subst hd;subst hv;exact vl
  ·simp at hd hv;subst hd;subst hv;exact vm
  ·simp at hd hv;subst hd;subst hv;exact .i _ _
  ·simp at hd)
 refine hspec.2.mono ?_
 rintro e W' ⟨v,rfl,hb,hv⟩
 cases hv
 exact⟨_,rfl,⟨_,_,_,[],_,[],hW',trodAll_mk1 (shut_bool Tryz.underlying4 true),trodAll_mk3 (Below.trod bVr (by kernel_rfl) (BI (by kernel_rfl)) h0 hb hlt0) (Below.trod bVr (by kernel_rfl) (BI (by kernel_rfl)) h1k hb hlt1) (shut_int Dy wk),rfl,hb.frame _,λh=>by cases h⟩⟩
theorem versionMerges_holds:Rows.VersionMergesBeginningsSaid :=
 OpenClaim.holds_of_wide 6 Tryz.f6 rfl rfl rfl rfl rfl rfl rfl ⟨rfl,rfl,rfl,rfl,rfl⟩ rfl rfl rfl rfl rfl (by kernel_rfl) Tryz.func6 (by kernel_rfl)
  (BI (by kernel_rfl)) (by unfold Func.isWrapper;rw[if_neg (of_decide_eq_false (by kernel_rfl))];exact⟨rfl,rfl⟩)
  (λos started H enc _=>aOk os started H enc)
end Go.Proofs.YtgjjndadkmodpaaGreat
end
