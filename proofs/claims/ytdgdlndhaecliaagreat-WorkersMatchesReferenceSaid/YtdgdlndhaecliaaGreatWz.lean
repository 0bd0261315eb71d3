/- WorkersMatchesReference: for every input the law answers true, and its arguments read as they did. No condition. -/
import Derived.Test.YtdgdlndhaecliaaGreatW4
import Derived.Test.YtdgdlndhaecliaaGreatW7
set_option linter.unusedSectionVars false
set_option linter.unusedVariables false
set_option linter.unusedSimpArgs false
section
open List renaming map_map→ζ,mapM_map→ξ
open Go Go.Am Go.Proofs
namespace Go.Am
open Go.ChangeShapes Go.WideShapes Go.ChangeAt Go.RowKit
theorem bNz:Tryz.prog.cellsOf 24=1:=by kernel_rfl
theorem zB8:Tryz.prog.cellsOf 5=1:=by kernel_rfl
theorem zA3:Tryz.prog.cellsOf 84=3:=by kernel_rfl
theorem zL3:Tryz.prog.cellsOf 22=1:=by kernel_rfl
theorem aUp {n:Int} (h:(Lit.int .i8 n).wf=true):-128≤n∧n≤127:=by
 have hmin:IntKind.i8.min=-128:=rfl
 have hmax:IntKind.i8.max=127:=rfl
 simp only [Lit.wf,Bool.and_eq_true,decide_eq_true_eq] at h
 omega
theorem bPf {α:Type} {l:List α} (h:l.length=3):∃ a b c,l=[a,b,c]:=by
 match l,h with
 | [a,b,c],_=>exact ⟨a,b,c,rfl⟩
theorem bPg {α:Type} {l:List α} (h:l.length=1):∃ a,l=[a]:=by
 match l,h with
 | [a],_=>exact ⟨a,rfl⟩
section
variable {H:Type} {enc:TypeId × Value→H} {w:World} {sp:Nat→Bool} {held:Bool}
set_option maxRecDepth 100000 in
theorem bLx {cs:List Value} {x:DataW H × List MemPlace} {fuel:Nat} (h:DataW.trod enc Tryz.prog w 0 sp held fuel 84 cs=some x) :
  ∃ y:Nat × Nat × Nat,(y.1<256∧y.2.1<256∧y.2.2<256)∧[D.i .u8 (y.1:Int),D.i .u8 (y.2.1:Int),D.i .u8 (y.2.2:Int)].length=Tryz.prog.cellsOf 84∧∀ (k:Nat) (c:D) (v:Value),[D.i .u8 (y.1:Int),D.i .u8 (y.2.1:Int),D.i .u8 (y.2.2:Int)][k]? = some c→cs[k]? = some v→VD (fun b=>b<w.heap.size) w c v:=by
 obtain ⟨xs,m,_,_,hcl,hxl,hx⟩:=DataW.trod_array Tryz.underlying84 h
 rw [zA3] at hcl
 obtain ⟨a,b,c,rfl⟩:=bPf hcl
 have h0:=hx 0 (by decide)
 have h1:=hx 1 (by decide)
 have h2:=hx 2 (by decide)
 rw [zB8,List.getElem?_eq_getElem (by omega)] at h0 h1 h2
 simp only [Nat.mul_one,Nat.zero_mul,Nat.one_mul,List.drop_zero,List.drop_succ_cons,List.take_succ_cons,List.take_zero] at h0 h1 h2
 obtain ⟨i0,e0,_,w0⟩:=DataW.trod_int Tryz.underlying5 h0
 obtain ⟨i1,e1,_,w1⟩:=DataW.trod_int Tryz.underlying5 h1
 obtain ⟨i2,e2,_,w2⟩:=DataW.trod_int Tryz.underlying5 h2
 injection e0 with e0; injection e1 with e1; injection e2 with e2
 subst e0; subst e1; subst e2
 have b0:=aJg w0
 have b1:=aJg w1
 have b2:=aJg w2
 obtain ⟨j0,rfl⟩:∃ j:Nat,i0=j:=⟨i0.toNat,by omega⟩
 obtain ⟨j1,rfl⟩:∃ j:Nat,i1=j:=⟨i1.toNat,by omega⟩
 obtain ⟨j2,rfl⟩:∃ j:Nat,i2=j:=⟨i2.toNat,by omega⟩
 refine ⟨(j0,j1,j2),⟨by simp only; omega,by simp only; omega,by simp only; omega⟩,by rw [zA3]; rfl,fun k c v hk hv=>?_⟩
 rcases k with _ | _ | _ | k
 ·simp at hk hv; subst hk; subst hv; exact .i _ _
 ·simp at hk hv; subst hk; subst hv; exact .i _ _
 ·simp at hk hv; subst hk; subst hv; exact .i _ _
 ·simp at hk
theorem aXm {v:Value} {d:DataW H} {ps:List MemPlace} {cs:Array Value} (hv:v=.agg cs) (h:DataW.Trod enc Tryz.prog w 0 sp held 24 v d ps) :
  ∃ l:List (Nat × Nat × Nat),VD (fun b=>b<w.heap.size) w (bAi l) v∧(∀ y∈l,y.1<256∧y.2.1<256∧y.2.2<256)∧l.length≤9223372036854775807:=by
 subst hv
 obtain ⟨fuel,hf⟩:=h
 obtain ⟨xs,n,_,_,hl,hlen,hfs⟩:=DataW.trod_struct Tryz.underlying24 hf
 rw [bNz] at hl
 have h1:=hfs 0 { name := "L",type:=22,offset:=0,embedded:=false,tag := "",pkgPath := "",byteOffset:=0 } rfl
 obtain ⟨x1,hx1⟩:∃ x,xs[0]? = some x:=⟨_,List.getElem?_eq_getElem (by rw [hlen]; decide)⟩
 rw [hx1] at h1
 simp only [Value.cells] at h1 hl
 obtain ⟨cs⟩:=cs
 simp only at h1 hl
 obtain ⟨b,rfl⟩:=bPg hl
 simp only [zL3,List.drop_zero,List.drop_succ_cons,List.take_succ_cons,List.take_zero] at h1
 obtain ⟨u,l,e2,hu,hg,hL⟩:=aRo Tryz.underlying22 (by rw [zA3]; decide) (fun y:Nat × Nat × Nat=>[D.i .u8 (y.1:Int),D.i .u8 (y.2.1:Int),D.i .u8 (y.2.2:Int)]) (fun y=>y.1<256∧y.2.1<256∧y.2.2<256) (fun fuel cs x h=>bLx h) h1
 injection e2 with e2
 subst e2
 refine ⟨l,.ag _ _ rfl fun k d v hk hv=>?_,hg,hL⟩
 rcases k with _ | k
 ·simp at hk hv; subst hk; subst hv; exact hu
 ·simp at hk
end
end Go.Am
namespace Go.Proofs.YtdgdlndhaecliaaGreat
open Go.ChangeShapes Go.WideShapes Go.ChangeAt Go.RowKit
set_option maxRecDepth 100000 in
theorem aPr (os:Os) (started:os.Started) (H:Type) (enc:TypeId × Value→H) :
  ReturnsInLeavingWide {} Tryz.checked os 3 .any (Rows.workersMatchesReferenceSpec.pre6 enc Tryz.prog Tryz.f3 Rows.workersMatchesReferenceRow.domain false) (Rows.workersMatchesReferenceSpec.post enc Tryz.prog Tryz.f3 false true false false):=by
 refine returnsInLeavingWide_of_change_sized (C:=Tryz.checked) bQx started Tryz.func3
  (ChangeSpec.witness6 (enc:=enc) (C:=Tryz.checked) false ⟨#[],#[.agg #[.slice none 0 0],.int .i8 0,.int .i8 0],[]⟩ 8 (by kernel_rfl) (by kernel_rfl) (by kernel_rfl) (by kernel_rfl)) ?_
 intro W base args ds gs before hval0 hW _ _ _
 have hval:∀ (j:Nat) t v,Tryz.f3.params[j]? = some t→args[j]? = some v→Value.okWide Tryz.prog W .any base t v:=hval0
 have hW':=hW
 obtain ⟨p,q,hA0,hV,rfl,hfz,hnd⟩:=hW
 have hA:DataW.TrodAll enc Tryz.prog W 0 (fun _=>true) true Tryz.f3.params.toList args.toList ds p:=hA0
 rw [Tryz.params3] at hA hval
 obtain ⟨v0,v1,v2,d0,d1,d2,p0,p1,p2,rfl,rfl,rfl,h0,h1,h2⟩:=trodAll_three hA
 obtain ⟨rfl,rfl⟩:=trodVars_none hV
 obtain ⟨k1,rfl,rfl,rfl,wk1⟩:=open_int Tryz.underlying25 (hval 1 25 v1 rfl rfl) h1
 obtain ⟨k2,rfl,rfl,rfl,wk2⟩:=open_int Tryz.underlying25 (hval 2 25 v2 rfl rfl) h2
 clear hA0 hval0
 simp only [List.append_nil] at hW'
 have hlt0:∀ x∈p0,x.block<W.heap.size:=fun x hx=>by simpa using hW'.lt x (by simp [hx])
 obtain ⟨cs0,rfl,_⟩:=okWide_struct Tryz.underlying24 (hval 0 24 v0 rfl rfl)
 obtain ⟨l,vl,il,ll⟩:=Am.aXm rfl h0
 have hlaw:=letI:=cQ Tryz.prog; Am.bPh l k1 k2 il ll (Am.aUp wk1) (Am.aUp wk2) Am.aWk
 refine Am.bEx Am.aW Tryz.func3 (by kernel_rfl) hlaw rfl (fun j d v hd hv=>?_) ?_
 ·rcases j with _ | _ | _ | j
  ·simp at hd hv; subst hd; subst hv; exact vl
  ·simp at hd hv; subst hd; subst hv; exact .i _ _
  ·simp at hd hv; subst hd; subst hv; exact .i _ _
  ·simp at hd
 rintro x W' hb ⟨F,v',hx⟩
 cases hx
 exact ⟨_,_,_,[],_,[],hW',trodAll_mk1 (shut_bool Tryz.underlying4 true),trodAll_mk3 (Below.trod Am.bPi (by kernel_rfl) (of_decide_eq_true (by kernel_rfl)) h0 hb hlt0) (shut_int Tryz.underlying25 wk1) (shut_int Tryz.underlying25 wk2),rfl,hb.frame _,fun h=>by cases h⟩
theorem workersMatches_holds:Rows.WorkersMatchesReferenceSaid :=
 OpenClaim.holds_of_wide_leaving 3 Tryz.f3 rfl rfl rfl rfl rfl rfl rfl ⟨rfl,rfl,rfl,rfl,rfl⟩ rfl rfl rfl rfl rfl (by kernel_rfl) Tryz.func3 (by kernel_rfl)
  (of_decide_eq_true (by kernel_rfl)) (by unfold Func.isWrapper; rw [if_neg (of_decide_eq_false (by kernel_rfl))]; exact ⟨rfl,rfl⟩)
  (fun os started H enc _=>aPr os started H enc)
end Go.Proofs.YtdgdlndhaecliaaGreat
end
