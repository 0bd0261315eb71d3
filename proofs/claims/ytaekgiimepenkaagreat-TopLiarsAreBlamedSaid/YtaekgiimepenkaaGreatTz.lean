/- TopLiarsAreBlamed: for every input the law answers true, and its arguments read as they did. No condition. -/
import Derived.Test.YtaekgiimepenkaaGreatT5
import Derived.Test.YtaekgiimepenkaaGreatT6
import Derived.WideKeyPair
import Derived.WideKeyArr2
set_option linter.all false
set_option maxRecDepth 100000
open Bool renaming false->Az
open Go.DataW renaming trod_int->GO
open Go.IntKind renaming u32->Cs
open Go.Proofs.Tryz renaming f3->Eg,prog->Ab
open _root_ renaming of_decide_eq_true->Cw
open List renaming map_map->A,mapM_map->E
section
open Go Go.Am Go.Proofs
namespace Go.Am
open Go.ChangeShapes Go.WideShapes Go.ChangeAt Go.RowKit
theorem zA8:Ab.cellsOf 25=2:=by kernel_rfl
theorem cEz:Ab.cellsOf 27=2:=by kernel_rfl
theorem cEy:Ab.cellsOf 26=1:=by kernel_rfl
theorem cDm{α:Type}{l:List α}(h:l.length=2):∃a b,l=[a,b]:=by
 match l,h with
 |[a,b],_=>exact⟨a,b,rfl⟩
theorem bNu{n:Int}(h:(Lit.int .u32 n).wf=true):0<=n/\n<4294967296:=by have h1:Cs.min=0:=rfl;have h2:Cs.max=4294967295:=rfl;simp only[Lit.wf,Bool.and_eq_true,decide_eq_true_eq]at h;omega
theorem aMn{H:Type}{enc:TypeId×Value->H}{w:World}{sp:Nat->Bool}{held:Bool}{cs:Array Value}{d:DataW H}{ps:List MemPlace}{t e:TypeId}{k:IntKind}{B:Nat}(ht:Ab.underlying t=some (.array 2 e))(he:Ab.underlying e=some (.int k))(zt:Ab.cellsOf t=2)(ze:Ab.cellsOf e=1)(hB:∀n:Int,(Lit.int k n).wf=true->0<=n/\n<B)
 (h:DataW.Trod enc Ab w 0 sp held t (.agg cs) d ps):∃a b:Nat,VD (λb=>b<w.heap.size) w (.ag [.i k a,.i k b]) (.agg cs)/\a<B/\b<B:=by
 obtain⟨fuel,hf⟩:=h
 obtain⟨xs,m,_,_,hcl,hxl,hx⟩:=DataW.trod_array ht hf
 rw[zt]at hcl
 have h0:=hx 0 (by decide)
 have h1:=hx 1 (by decide)
 simp only[Value.cells]at hcl h0 h1
 obtain⟨cs⟩:=cs
 simp only at hcl h0 h1
 obtain⟨a,b,rfl⟩:=cDm hcl
 rw[ze,List.getElem?_eq_getElem (by omega)]at h0 h1
 simp only[Nat.mul_one,Nat.zero_mul,Nat.one_mul,List.drop_zero,List.drop_succ_cons,List.take_succ_cons,List.take_zero]at h0 h1
 obtain⟨i0,e0,_,w0⟩:=GO he h0
 obtain⟨i1,e1,_,w1⟩:=GO he h1
 injection e0 with e0;injection e1 with e1
 subst e0;subst e1
 have b0:=hB _ w0
 have b1:=hB _ w1
 refine⟨i0.toNat,i1.toNat,.ag _ _ rfl λk d v hk hv=>?_,by omega,by omega⟩
 rcases k with _|_|k
 .simp at hk hv;subst hk;subst hv;rw[show max i0 0=i0 by omega];exact .i _ _
 .simp at hk hv;subst hk;subst hv;rw[show max i1 0=i1 by omega];exact .i _ _
 .simp at hk
end Go.Am
namespace Go.Proofs.YtaekgiimepenkaaGreat
open Go.ChangeShapes Go.WideShapes Go.ChangeAt Go.RowKit
theorem zN(os:Os)(started:os.Started)(H:Type)(enc:TypeId×Value->H) :
 ReturnsInLeavingWide {} Tryz.checked os 3 .any (Rows.topLiarsAreBlamedSpec.pre6 enc Ab Eg Rows.topLiarsAreBlamedRow.domain Az) (Rows.topLiarsAreBlamedSpec.post enc Ab Eg Az true Az Az):=by
 refine returnsInLeavingWide_of_change_sized (C:=Tryz.checked) cGk started Tryz.func3
  (ChangeSpec.witness6 (enc:=enc) (C:=Tryz.checked) Az ⟨#[],#[.agg #[.int .u8 0,.int .u8 0,.slice none 0 0],.agg #[.int .u8 0,.int .u8 0],.agg #[.int .u32 0,.int .u32 0]],[]⟩ 8 (by kernel_rfl) (by kernel_rfl) (by kernel_rfl) (by kernel_rfl)) ?_
 intro W base args ds gs before hval0 hW _ _ _
 have hval:∀(j:Nat) t v,Eg.params[j]? = some t->args[j]? = some v->Value.okWide Ab W .any base t v:=hval0
 have hW':=hW
 obtain⟨p,q,hA0,hV,rfl,hfz,hnd⟩:=hW
 have hA:DataW.TrodAll enc Ab W 0 (λ_=>true) true Eg.params.toList args.toList ds p:=hA0
 rw[Tryz.params3]at hA hval
 obtain⟨v0,v1,v2,d0,d1,d2,p0,p1,p2,rfl,rfl,rfl,h0,h1,h2⟩:=trodAll_three hA
 obtain⟨rfl,rfl⟩:=trodVars_none hV
 clear hA0 hval0
 simp only[List.append_nil]at hW'
 have A8:Go.WideMaps.ArrKey Ab 25 5 2:=⟨Tryz.underlying25,by kernel_rfl,by kernel_rfl,by kernel_rfl⟩
 have A32:Go.WideMaps.ArrKey Ab 27 26 2:=⟨Tryz.underlying27,by kernel_rfl,by kernel_rfl,by kernel_rfl⟩
 have hlt0:∀x∈p0,x.block<W.heap.size:=λx hx=>by simpa using hW'.lt x (by simp[hx])
 have hlt1:∀x∈p1,x.block<W.heap.size:=λx hx=>by simpa using hW'.lt x (by simp[hx])
 have hlt2:∀x∈p2,x.block<W.heap.size:=λx hx=>by simpa using hW'.lt x (by simp[hx])
 obtain⟨cs0,rfl,_⟩:=okWide_struct Tryz.underlying24 (hval 0 24 v0 rfl rfl)
 obtain⟨cs1,rfl,_⟩:=Go.WideMaps.okWide_arr A8 (hval 1 25 v1 rfl rfl)
 obtain⟨cs2,rfl,_⟩:=Go.WideMaps.okWide_arr A32 (hval 2 27 v2 rfl rfl)
 obtain⟨R,C,V,vl,hR,hVb,hVl,hC⟩:=Am.bGl rfl h0
 obtain⟨w0,w1,vw,hw0,hw1⟩:=Am.aMn (B:=256) Tryz.underlying25 Tryz.underlying5 Am.zA8 Am.cBg (λn h=>by have:=Am.bDd h;omega) h1
 obtain⟨y0,y1,vy,hy0,hy1⟩:=Am.aMn (B:=4294967296) Tryz.underlying27 Tryz.underlying26 Am.cEz Am.cEy (λn h=>by have:=Am.bNu h;omega) h2
 have hlaw:=Am.cDn R C w0 w1 y0 y1 V hR hC hVb hVl hw0 hw1 hy0 hy1
 refine Am.bPl Am.aT Tryz.func3 (by kernel_rfl) hlaw rfl (λj d v hd hv=>?_) ?_
 .rcases j with _|_|_|j
  .simp at hd hv;subst hd;subst hv;exact vl
  .simp at hd hv;subst hd;subst hv;exact vw
  .simp at hd hv;subst hd;subst hv;exact vy
  .simp at hd
 rintro x W' hb ⟨F,v',hx⟩
 cases hx
 exact⟨_,_,_,[],_,[],hW',trodAll_mk1 (shut_bool Tryz.underlying4 true),trodAll_mk3 (Below.trod Am.aWd (by kernel_rfl) (Cw (by kernel_rfl)) h0 hb hlt0) (Below.trod Am.aWd (by kernel_rfl) (Cw (by kernel_rfl)) h1 hb hlt1) (Below.trod Am.aWd (by kernel_rfl) (Cw (by kernel_rfl)) h2 hb hlt2),rfl,hb.frame _,λh=>by cases h⟩
theorem topLiars_holds:Rows.TopLiarsAreBlamedSaid :=
 OpenClaim.holds_of_wide_leaving 3 Eg rfl rfl rfl rfl rfl rfl rfl ⟨rfl,rfl,rfl,rfl,rfl⟩ rfl rfl rfl rfl rfl (by kernel_rfl) Tryz.func3
  (Am.bAd cFm Am.aWd cFl cFk cFj cFi cFh cFg cFf cFe cCp cCo cCn cCm cCl cCk cCj cCi cCh cCg cCf cCe cCd cCc cCb cCa cBz cBy cBx cBw cBv cBu)
  (Cw (by kernel_rfl)) (by unfold Func.isWrapper;rw[if_neg (of_decide_eq_false (by kernel_rfl))];exact⟨rfl,rfl⟩)
  (λos started H enc _=>zN os started H enc)
end Go.Proofs.YtaekgiimepenkaaGreat
end
