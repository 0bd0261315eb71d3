/- MergeSubdivides: for every input the law answers true, and its arguments read as they did. No condition. -/
import Derived.Test.YthjopmmgepejkaaGreatS6
import Derived.Test.YthjopmmgepejkaaGreatS7
import Derived.WideKeyPair
section
set_option linter.unusedVariables false
set_option linter.unusedSimpArgs false
open Go Go.Am Go.Proofs
namespace Go.Proofs.YthjopmmgepejkaaGreat
open Go.ChangeShapes Go.WideShapes Go.ChangeAt Go.RowKit
set_option maxRecDepth 100000 in
theorem sH (os:Os) (started:os.Started) (H:Type) (enc:TypeId × Value→H) :
  ReturnsInHanded {} Tryz.checked os 6 .any (Rows.mergeSubdividesSpec.pre6 enc Tryz.prog Tryz.f6 Rows.mergeSubdividesRow.domain false) (Rows.mergeSubdividesSpec.post enc Tryz.prog Tryz.f6 false true false false):=by
 refine returnsInHanded_of_change (C:=Tryz.checked) bUy started (by kernel_rfl) Tryz.func6
  (ChangeSpec.witness6 (enc:=enc) (C:=Tryz.checked) false ⟨#[],#[.agg #[.int .u8 0,.slice none 0 0],.agg #[.int .i8 0,.int .i8 0]],[]⟩ 8 (by kernel_rfl) (by kernel_rfl) (by kernel_rfl) (by kernel_rfl)) ?_
 intro W base args ds gs before hval0 hW hcnd _
 have hval:∀ (j:Nat) t v,Tryz.f6.params[j]? = some t→args[j]? = some v→Value.okWide Tryz.prog W .any base t v:=hval0
 have hW':=hW
 obtain ⟨p,q,hA0,hV,rfl,hfz,hnd⟩:=hW
 have hA:DataW.TrodAll enc Tryz.prog W 0 (fun _=>true) true Tryz.f6.params.toList args.toList ds p:=hA0
 rw [Tryz.params6] at hA hval
 obtain ⟨v0,v1,d0,d1,p0,p1,rfl,rfl,rfl,h0,h1⟩:=trodAll_two hA
 obtain ⟨rfl,rfl⟩:=trodVars_none hV
 have A2:Go.WideMaps.ArrKey Tryz.prog 58 57 2:=⟨Tryz.underlying58,by kernel_rfl,by kernel_rfl,by kernel_rfl⟩
 obtain ⟨w0,w1,rfl,rfl,rfl,b0,b1⟩:=Go.WideMaps.open_pair A2 Tryz.underlying57 (hval 1 58 v1 rfl rfl) h1
 clear hA0 hval0
 simp only [List.append_nil] at hW'
 have hlt0:∀ x∈p0,x.block<W.heap.size:=fun x hx=>by simpa using hW'.lt x (by simp [hx])
 obtain ⟨cs0,rfl,_⟩:=okWide_struct Tryz.underlying24 (hval 0 24 v0 rfl rfl)
 obtain ⟨s,l,vl,hs,il,ll⟩:=Am.aYx rfl h0
 have hspec:=(Am.bNp s l w0 w1 hs il ll (Am.vW b0) (Am.vW b1) Am.aXn) (fun b=>b<W.heap.size) W #[.agg cs0,(.agg #[.int .i8 w0,.int .i8 w1])] (fun b h=>h) rfl (fun j d v hd hv=>by
  rcases j with _ | _ | j
  ·simp at hd hv; subst hd; subst hv; exact vl
  ·simp at hd hv; subst hd; subst hv; refine .ag _ _ rfl (fun k c v hk hv=>?_)
   rcases k with _ | _ | k
   ·simp at hk hv; subst hk; subst hv; exact .i _ _
   ·simp at hk hv; subst hk; subst hv; exact .i _ _
   ·simp at hk
  ·simp at hd)
 refine hspec.2.mono ?_
 rintro e W' ⟨v,rfl,hb,hv⟩
 cases hv
 exact ⟨_,rfl,⟨_,_,_,[],_,[],hW',trodAll_mk1 (shut_bool Tryz.underlying4 true),trodAll_mk2 (Below.trod bQx (by kernel_rfl) (of_decide_eq_true (by kernel_rfl)) h0 hb hlt0) (Go.WideMaps.shut_pair A2 Tryz.underlying57 b0 b1),rfl,hb.frame _,fun h=>by cases h⟩⟩
theorem mergeSubdivides_holds:Rows.MergeSubdividesSaid :=
 OpenClaim.holds_of_wide 6 Tryz.f6 rfl rfl rfl rfl rfl rfl rfl ⟨rfl,rfl,rfl,rfl,rfl⟩ rfl rfl rfl rfl rfl (by kernel_rfl) Tryz.func6 (by kernel_rfl)
  (of_decide_eq_true (by kernel_rfl)) (by unfold Func.isWrapper; rw [if_neg (of_decide_eq_false (by kernel_rfl))]; exact ⟨rfl,rfl⟩)
  (fun os started H enc _=>sH os started H enc)
end Go.Proofs.YthjopmmgepejkaaGreat
end
