/- MergeEuler: for every input the law answers true, and its arguments read as they did. No condition. -/
import Derived.Test.YtaopbfbimpkomaaGreatE6
import Derived.Test.YtaopbfbimpkomaaGreatE7
import Derived.WideKeyPair
import Derived.WideKeyArr2
open Go.DataW renaming trod_int→C6
open _root_ renaming of_decide_eq_true→Cb
section
set_option linter.unusedVariables false
set_option linter.unusedSimpArgs false
open Go Go.Am Go.Proofs
namespace Go.Am
open Go.ChangeShapes Go.WideShapes Go.ChangeAt Go.RowKit
theorem zW3:Tryz.prog.cellsOf 25=3:=by kernel_rfl
theorem bWm{α:Type}{l:List α}(h:l.length=3):∃ a b c,l=[a,b,c]:=by
 match l,h with
 |[a,b,c],_=>exact⟨a,b,c,rfl⟩
set_option maxRecDepth 100000 in
theorem bSm{H:Type}{enc:TypeId×Value→H}{w:World}{sp:Nat→Bool}{held:Bool}{cs:Array Value}{d:DataW H}{ps:List MemPlace}(h:DataW.Trod enc Tryz.prog w 0 sp held 25 (.agg cs) d ps) :
  ∃ a b c:Int,VD (fun b=>b<w.heap.size) w (.ag [.i .u8 a,.i .u8 b,.i .u8 c]) (.agg cs)∧(0≤a∧a≤255)∧(0≤b∧b≤255)∧(0≤c∧c≤255):=by
 obtain⟨fuel,hf⟩:=h
 obtain⟨xs,m,_,_,hcl,hxl,hx⟩:=DataW.trod_array Tryz.underlying25 hf
 rw[zW3]at hcl
 have h0:=hx 0 (by decide)
 have h1:=hx 1 (by decide)
 have h2:=hx 2 (by decide)
 simp only[Value.cells]at hcl h0 h1 h2
 obtain⟨cs⟩:=cs
 simp only at hcl h0 h1 h2
 obtain⟨a,b,c,rfl⟩:=bWm hcl
 rw[zU8,List.getElem?_eq_getElem (by omega)]at h0 h1 h2
 simp only[Nat.mul_one,Nat.zero_mul,Nat.one_mul,List.drop_zero,List.drop_succ_cons,List.take_succ_cons,List.take_zero]at h0 h1 h2
 obtain⟨i0,e0,_,w0⟩:=C6 Tryz.underlying5 h0
 obtain⟨i1,e1,_,w1⟩:=C6 Tryz.underlying5 h1
 obtain⟨i2,e2,_,w2⟩:=C6 Tryz.underlying5 h2
 injection e0 with e0;injection e1 with e1;injection e2 with e2
 subst e0;subst e1;subst e2
 refine⟨i0,i1,i2,.ag _ _ rfl fun k d v hk hv=>?_,aHq w0,aHq w1,aHq w2⟩
 rcases k with _|_|_|k
 ·simp at hk hv;subst hk;subst hv;exact .i _ _
 ·simp at hk hv;subst hk;subst hv;exact .i _ _
 ·simp at hk hv;subst hk;subst hv;exact .i _ _
 ·simp at hk
end Go.Am
namespace Go.Proofs.YtaopbfbimpkomaaGreat
open Go.ChangeShapes Go.WideShapes Go.ChangeAt Go.RowKit
set_option maxRecDepth 100000 in
theorem aDe(os:Os)(started:os.Started)(H:Type)(enc:TypeId×Value→H) :
  ReturnsInHanded {} Tryz.checked os 3 .any (Rows.mergeEulerSpec.pre6 enc Tryz.prog Tryz.f3 Rows.mergeEulerRow.domain false) (Rows.mergeEulerSpec.post enc Tryz.prog Tryz.f3 false true false false):=by
 refine returnsInHanded_of_change (C:=Tryz.checked) cAn started (by kernel_rfl) Tryz.func3
  (ChangeSpec.witness6 (enc:=enc) (C:=Tryz.checked) false ⟨#[],#[.agg #[.int .u8 0,.slice none 0 0],.agg #[.int .u8 0,.int .u8 0,.int .u8 0],.slice none 0 0],[]⟩ 8 (by kernel_rfl) (by kernel_rfl) (by kernel_rfl) (by kernel_rfl)) ?_
 intro W base args ds gs before hval0 hW hcnd _
 have hval:∀(j:Nat) t v,Tryz.f3.params[j]? = some t→args[j]? = some v→Value.okWide Tryz.prog W .any base t v:=hval0
 have hW':=hW
 obtain⟨p,q,hA0,hV,rfl,hfz,hnd⟩:=hW
 have hA:DataW.TrodAll enc Tryz.prog W 0 (fun _=>true) true Tryz.f3.params.toList args.toList ds p:=hA0
 rw[Tryz.params3]at hA hval
 obtain⟨v0,v1,v2,d0,d1,d2,p0,p1,p2,rfl,rfl,rfl,h0,h1,h2⟩:=trodAll_three hA
 obtain⟨rfl,rfl⟩:=trodVars_none hV
 clear hA0 hval0
 simp only[List.append_nil]at hW'
 have A3:Go.WideMaps.ArrKey Tryz.prog 25 5 3:=⟨Tryz.underlying25,by kernel_rfl,by kernel_rfl,by kernel_rfl⟩
 have hlt0:∀ x∈p0,x.block<W.heap.size:=fun x hx=>by simpa using hW'.lt x (by simp[hx])
 have hlt1:∀ x∈p1,x.block<W.heap.size:=fun x hx=>by simpa using hW'.lt x (by simp[hx])
 have hlt2:∀ x∈p2,x.block<W.heap.size:=fun x hx=>by simpa using hW'.lt x (by simp[hx])
 obtain⟨cs0,rfl,_⟩:=okWide_struct Tryz.underlying24 (hval 0 24 v0 rfl rfl)
 obtain⟨cs1,rfl,_⟩:=Go.WideMaps.okWide_arr A3 (hval 1 25 v1 rfl rfl)
 obtain⟨a2,n2,c2,rfl⟩:=okWide_slice Tryz.underlying26 (hval 2 26 v2 rfl rfl)
 have h2k:=h2
 obtain⟨fu2,h2f⟩:=h2
 obtain⟨u2,m2,e3,vm2,im2,lm2⟩:=Am.bSn h2f
 have e4:Value.slice a2 n2 c2=u2:=by simpa using e3
 subst e4
 obtain⟨s,l,vl,hs,il,ll⟩:=Am.bDd rfl h0
 obtain⟨w0,w1,w2,vw,b0,b1,b2⟩:=Am.bSm h1
 have hspec:=(Am.bTi s l w0 w1 w2 m2 hs il ll b0 b1 b2 im2 lm2 Am.bBy) (fun b=>b<W.heap.size) W #[.agg cs0,.agg cs1,.slice a2 n2 c2] (fun b h=>h) rfl (fun j d v hd hv=>by
  rcases j with _|_|_|j
  ·simp at hd hv;subst hd;subst hv;exact vl
  ·simp at hd hv;subst hd;subst hv;exact vw
  ·simp at hd hv;subst hd;subst hv;exact vm2
  ·simp at hd)
 refine hspec.2.mono ?_
 rintro e W' ⟨v,rfl,hb,hv⟩
 cases hv
 exact⟨_,rfl,⟨_,_,_,[],_,[],hW',trodAll_mk1 (shut_bool Tryz.underlying4 true),trodAll_mk3 (Below.trod bEr (by kernel_rfl) (Cb (by kernel_rfl)) h0 hb hlt0) (Below.trod bEr (by kernel_rfl) (Cb (by kernel_rfl)) h1 hb hlt1) (Below.trod bEr (by kernel_rfl) (Cb (by kernel_rfl)) h2k hb hlt2),rfl,hb.frame _,fun h=>by cases h⟩⟩
theorem mergeEuler_holds:Rows.MergeEulerSaid :=
 OpenClaim.holds_of_wide 3 Tryz.f3 rfl rfl rfl rfl rfl rfl rfl ⟨rfl,rfl,rfl,rfl,rfl⟩ rfl rfl rfl rfl rfl (by kernel_rfl) Tryz.func3 (by kernel_rfl)
  (Cb (by kernel_rfl)) (by unfold Func.isWrapper;rw[if_neg (of_decide_eq_false (by kernel_rfl))];exact⟨rfl,rfl⟩)
  (fun os started H enc _=>aDe os started H enc)
end Go.Proofs.YtaopbfbimpkomaaGreat
end
