/- VersionCompacts: for every input the law answers true, and its arguments read as they did. No condition. -/
import Derived.Test.YtgjjndadkmodpaaGreatC8
import Derived.WideKeyPair
import Derived.WideKeyArr2
set_option linter.all false
set_option maxRecDepth 100000
open Go.DataW renaming trod_int->Dp
open Go.Proofs.Tryz renaming prog->Aa,underlying26->Ec
open _root_ renaming of_decide_eq_true->BH
section
open List renaming map_map->A,mapM_map->B
open Go Go.Am Go.Proofs
namespace Go.Am
open Go.ChangeShapes Go.WideShapes Go.ChangeAt Go.RowKit
theorem bXo{H:Type}{enc:TypeId×Value->H}{w:World}{sp:Nat->Bool}{held:Bool}{cs:Array Value}{d:DataW H}{ps:List MemPlace}(h:DataW.Trod enc Aa w 0 sp held 58 (.agg cs) d ps) :
  ∃a b:Int,VD (λb=>b<w.heap.size) w (.ag [.i .i8 a,.i .i8 b]) (.agg cs)/\(-128<=a/\a<=127)/\(-128<=b/\b<=127):=by
 obtain⟨fuel,hf⟩:=h
 obtain⟨xs,m,_,_,hcl,hxl,hx⟩:=DataW.trod_array Tryz.underlying58 hf
 rw[zA2]at hcl
 have h0:=hx 0 (by decide)
 have h1:=hx 1 (by decide)
 simp only[Value.cells]at hcl h0 h1
 obtain⟨cs⟩:=cs
 simp only at hcl h0 h1
 obtain⟨a,b,rfl⟩:=bVx hcl
 rw[zI8,List.getElem?_eq_getElem (by omega)]at h0 h1
 simp only[Nat.mul_one,Nat.zero_mul,Nat.one_mul,List.drop_zero,List.drop_succ_cons,List.take_succ_cons,List.take_zero]at h0 h1
 obtain⟨i0,e0,_,w0⟩:=Dp Ec h0
 obtain⟨i1,e1,_,w1⟩:=Dp Ec h1
 injection e0 with e0;injection e1 with e1
 subst e0;subst e1
 refine⟨i0,i1,.ag _ _ rfl λk d v hk hv=>?_,aAh w0,aAh w1⟩
 rcases k with _|_|k
 ·simp at hk hv;subst hk;subst hv;exact .i _ _
 ·simp at hk hv;subst hk;subst hv;exact .i _ _
 ·simp at hk
end Go.Am
namespace Go.Proofs.YtgjjndadkmodpaaGreat
open Go.ChangeShapes Go.WideShapes Go.ChangeAt Go.RowKit
theorem aOo(os:Os)(started:os.Started)(H:Type)(enc:TypeId×Value->H) :
  ReturnsInHanded {} Tryz.checked os 5 .any (Rows.versionCompactsSpec.pre6 enc Aa Tryz.f5 Rows.versionCompactsRow.domain false) (Rows.versionCompactsSpec.post enc Aa Tryz.f5 false true false false):=by
 refine returnsInHanded_of_change (C:=Tryz.checked) cEe started (by kernel_rfl) Tryz.func5
  (ChangeSpec.witness6 (enc:=enc) (C:=Tryz.checked) false ⟨#[],#[.agg #[.int .u8 0,.slice none 0 0],.slice none 0 0,.agg #[.int .i8 0,.int .i8 0]],[]⟩ 8 (by kernel_rfl) (by kernel_rfl) (by kernel_rfl) (by kernel_rfl)) ?_
 intro W base args ds gs before hval0 hW hcnd _
 have hval:∀(j:Nat) t v,Tryz.f5.params[j]? = some t->args[j]? = some v->Value.okWide Aa W .any base t v:=hval0
 have hW':=hW
 obtain⟨p,q,hA0,hV,rfl,hfz,hnd⟩:=hW
 have hA:DataW.TrodAll enc Aa W 0 (λ_=>true) true Tryz.f5.params.toList args.toList ds p:=hA0
 rw[Tryz.params5]at hA hval
 obtain⟨v0,v1,v2,d0,d1,d2,p0,p1,p2,rfl,rfl,rfl,h0,h1,h2⟩:=trodAll_three hA
 obtain⟨rfl,rfl⟩:=trodVars_none hV
 clear hA0 hval0
 simp only[List.append_nil]at hW'
 have A2:Go.WideMaps.ArrKey Aa 58 26 2:=⟨Tryz.underlying58,by kernel_rfl,by kernel_rfl,by kernel_rfl⟩
 have hlt0:∀x∈p0,x.block<W.heap.size:=λx hx=>by simpa using hW'.lt x (by simp[hx])
 have hlt1:∀x∈p1,x.block<W.heap.size:=λx hx=>by simpa using hW'.lt x (by simp[hx])
 have hlt2:∀x∈p2,x.block<W.heap.size:=λx hx=>by simpa using hW'.lt x (by simp[hx])
 obtain⟨cs0,rfl,_⟩:=okWide_struct Tryz.underlying24 (hval 0 24 v0 rfl rfl)
 obtain⟨a1,n1,c1,rfl⟩:=okWide_slice Tryz.underlying25 (hval 1 25 v1 rfl rfl)
 obtain⟨cs2,rfl,_⟩:=Go.WideMaps.okWide_arr A2 (hval 2 58 v2 rfl rfl)
 obtain⟨s,l,vl,hs,il,ll⟩:=Am.bIh rfl h0
 obtain⟨w0,w1,vz,b0,b1⟩:=Am.bXo h2
 have h1k:=h1
 obtain⟨fu,h1f⟩:=h1
 obtain⟨u,m,e1,vm,im,lm⟩:=Am.bQy h1f
 have e2:Value.slice a1 n1 c1=u:=by simpa using e1
 subst e2
 have hspec:=(Am.cBx s l m w0 w1 hs il ll im lm b0 b1 Am.bGw) (λb=>b<W.heap.size) W #[.agg cs0,.slice a1 n1 c1,.agg cs2] (λb h=>h) rfl (λj d v hd hv=>by
  rcases j with _|_|_|j
  ·simp at hd hv;subst hd;subst hv;exact vl
  ·simp at hd hv;subst hd;subst hv;exact vm
  ·simp at hd hv;subst hd;subst hv;exact vz
  ·simp at hd)
 refine hspec.2.mono ?_
 rintro e W' ⟨v,rfl,hb,hv⟩
 cases hv
 exact⟨_,rfl,⟨_,_,_,[],_,[],hW',trodAll_mk1 (shut_bool Tryz.underlying4 true),trodAll_mk3 (Below.trod bJv (by kernel_rfl) (BH (by kernel_rfl)) h0 hb hlt0) (Below.trod bJv (by kernel_rfl) (BH (by kernel_rfl)) h1k hb hlt1) (Below.trod bJv (by kernel_rfl) (BH (by kernel_rfl)) h2 hb hlt2),rfl,hb.frame _,λh=>by cases h⟩⟩
theorem versionCompacts_holds:Rows.VersionCompactsSaid :=
 OpenClaim.holds_of_wide 5 Tryz.f5 rfl rfl rfl rfl rfl rfl rfl ⟨rfl,rfl,rfl,rfl,rfl⟩ rfl rfl rfl rfl rfl (by kernel_rfl) Tryz.func5 (by kernel_rfl)
  (BH (by kernel_rfl)) (by unfold Func.isWrapper;rw[if_neg (of_decide_eq_false (by kernel_rfl))];exact⟨rfl,rfl⟩)
  (λos started H enc _=>aOo os started H enc)
end Go.Proofs.YtgjjndadkmodpaaGreat
end
