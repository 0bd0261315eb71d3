/- The abstract machine, part 25: bodies between whose statements something is forgotten, or read for good from then on. No condition. -/
import Derived.Test.YtaopbfbimpkomaaGreatE5
import Derived.Test.YtaopbfbimpkomaaGreatE4
import Derived.Test.YtaopbfbimpkomaaGreatRows
open Bool renaming and_eq_true→AI,eq_iff_iff→Dg,false_eq_true→AU
open Classical renaming byContradiction→Bb
open Go.DataW renaming trod_int→C6
open Go.IntKind renaming i64→Ah,i8→E9,u64→AY,u8→Cg
open Int renaming add_mul→Fm,add_zero→DA,mul_add→CL,mul_assoc→CM,mul_comm→BG,mul_eq_zero→CI,mul_zero→Dk,natAbs_mul→BJ,natAbs_natCast→Cx,neg_mul→C5,sign_eq_zero_iff_zero→CY,tmod_lt_of_pos→E8,zero_add→Ci
open List renaming append_assoc→AZ,append_nil→Bd,drop→C1,drop_eq_getElem_cons→A2,drop_eq_nil_of_le→Bo,drop_succ_cons→Cp,drop_zero→BS,eq_nil_of_length_eq_zero→Au,ext_getElem?→Ca,filter_append→BT,filter_cons→BO,flatMap_append→DG,flatten_cons→BP,foldl_append→C9,getD_eq_getElem?_getD→Ac,getElem?_eq_getElem→Aa,getElem?_eq_none→AG,getElem?_eq_some_iff→Aj,getElem?_map→Ax,getElem_mem→Ak,getElem_of_mem→Bi,getElem_take→D5,getLast?_eq_getElem?→Ds,length_append→Al,length_cons→AB,length_drop→CJ,length_map→AN,length_nil→A8,length_singleton→Ar,length_take→AM,map→BR,map_append→By,map_congr_left→Bu,map_cons→AR,map_flatten→Eh,map_map→C3,mem_append→A9,mem_append_left→EN,mem_cons→AD,mem_cons_of_mem→As,mem_cons_self→Av,mem_filter→Bk,mem_map→AE,mem_of_getElem?→Aq,mem_of_mem_take→Bs,mem_singleton→AP,nil_append→BQ,nodup_cons→Df,not_mem_nil→EG,of_mem_zip→EU,pairwise_cons→A5,pairwise_iff_getElem→Bv,pairwise_map→Cs,pairwise_singleton→DN,take→Cd,take_add_one→AJ,take_of_length_le→Ai,take_succ_cons→B6,take_zero→BZ,zip_cons_cons→C2
open List.Pairwise renaming filter→DB
open Nat renaming add_sub_cancel→A7,le_refl→Az,le_trans→Ap,lt_of_le_of_lt→Bt,lt_or_ge→Bc,lt_succ_self→Ad,lt_trichotomy→CU,mul_assoc→BF,mul_comm→BU,mul_le_mul→B9,mul_le_mul_left→BE,mul_le_mul_right→AX,pow_add→CC,pow_le_pow_right→BI,sub_lt_sub_left→Ab,succ_mul→CT,zero_add→Bf,zero_le→An
open Option renaming getD_some→Ba,isSome_some→Fb
open Option.some renaming inj→Bg
open Prod.mk renaming injEq→DZ
open _root_ renaming decide_eq_false→Bq,decide_eq_false_iff_not→DM,decide_eq_true→BA,decide_eq_true_eq→AH,if_false→BB,if_neg→Ae,if_pos→Ag,if_true→BN
section
set_option linter.unusedVariables false
set_option linter.unusedSimpArgs false
open List (map_map mapM_map)
open Go Go.Am Go.Proofs
namespace Go.Am
def gP(l:List (List (Int×Int))):D:=.sl (l.map fun x=>[aG x])
set_option maxHeartbeats 2000000 in
set_option maxRecDepth 10000 in
theorem aQg(c:List Cl)(k:Int)(hk:k<0):Spec Tryz.prog 38 [aF c,.i .i64 k] (gP []):=by
 refine aZ (N:=34) aI Tryz.func38 rfl rfl rfl (by kernel_rfl) (by kernel_rfl) (by simp) ?_
 simp[-map_map,-mapM_map,↓KW,aF,gP,hk]
set_option maxHeartbeats 2000000 in
set_option maxRecDepth 10000 in
theorem aFs{E:Nat}(c:List Cl)(k:Int)(L:List (List Int))(hk:0≤k∧k≤1000)(hl:c.length≤100)(hb:∀ x∈c,x.b.length≤1000000)
  (hL:aHm (bR c k).length (bR c (k-1)).length E (mF c k) L) (hE:E+20<4398046511104):Spec Tryz.prog 38 [aF c,.i .i64 k] (gP (L.map fun v=>(chX c k v).1)):=by
 refine aZ (N:=34) aI Tryz.func38 rfl rfl rfl (by kernel_rfl) (by kernel_rfl) (by simp) ?_
 have hB:=zC c k (by omega) (by omega) hb
 have hS:=hL.spec
 have hOf:=fun v hv=>bVn c k v hl (hL.be v hv) hE
 have hLl:=Ap hL.len (fA c k)
 have hneg:¬k<0:=by omega
 generalize(bR c k).length=R at *
 generalize(bR c (k-1)).length=C at *
 generalize mF c k=M at *
 simp[-map_map,-mapM_map,↓KW,aF,hneg]
 refine aA (ds:=[aF c,.i .i64 k]) (by rfl) hB ?_
 simp[-map_map,-mapM_map,↓KW,bN]
 refine aA (ds:=[bN R C M]) (by rfl) hS ?_
 simp[-map_map,-mapM_map,↓KW,bN]
 obtain⟨out,hout⟩:∃ o,(L.map fun v=>(chX c k v).1)=o:=⟨_,rfl⟩
 have hol:out.length=L.length:=by rw[←hout,AN]
 have hog:∀ i v,L[i]? = some v→out[i]? = some (chX c k v).1:=fun i v h=>by rw[←hout,Ax,h];rfl
 rw[hout]
 refine aU (fun i:Nat=>i≤L.length) (fun i=>StL [(0,.d (aF c)),(1,.d (.i .i64 k)),(5,.own 1 0 i 1),(6,.ptr 2 0),(7,.d (.i .i64 (i:Int)))] none [.cells 41 (((out.take i).map aG).map .d),.cells 95 [.d (.i .i64 (L.length:Int)),.d (.i .i64 (R:Int)),.d (.sl (L.map fun v=>[bO v]))]]) (fun i=>L.length-i) 0 (An _) ?_ ?_
 ·refine aY [1,2] (by simp) ?_ ?_<;>simp[-map_map,upd,aT,Γ0,aF]
 ·intro i hi
  by_cases hgo:i<L.length
  ·have q1:(i:Int)<L.length:=by omega
   have hx:L[i]? = some L[i]:=Aa hgo
   have hO:=hOf _ (Ak hgo)
   have hg:=hog i _ hx
   have htk:out.take (i+1)=out.take i++[(chX c k L[i]).1]:=by rw[AJ,hg];rfl
   have hw:Ah.wrap ((i:Int)+1)=(i:Int)+1:=aR (by omega) (by omega)
   have hol1:(out.take i).length=i:=by rw[AM];omega
   have hol2:((out.take i).map aG).length=i:=by rw[AN];exact hol1
   have hbb:=cC (n:=i) (by omega)
   have hb8:(i+1)*24≤140737488355328:=by omega
   generalize out.take i=o1 at *
   generalize(chX c k L[i]).1=y at *
   generalize L[i]=v at *
   have hv2:bO v=.sl (v.map qP):=rfl
   simp[-map_map,-mapM_map,↓KW,aF,q1,hx,hv2]
   refine aA (ds:=[aF c,.i .i64 k,bO v]) (by rfl) hO ?_
   simp[-map_map,-mapM_map,↓KW,hw,hbb,hb8,hol1,hol2,aW,aE,aB,aC,aQ,bG,bO]
   refine aJ (i+1) hgo (Ab hgo (Ad _)) (aY [4,2] (by simp) ?_ ?_)<;>simp[-map_map,upd,aT,Γ0,aF,htk]
  ·have q1:¬(i:Int)<L.length:=by omega
   have e:i=L.length:=by omega
   have e2:out.take i=out:=Ai (by omega)
   have e3:(out.map aG).length=i:=by rw[AN];omega
   have e4:chunk 1 i (out.map aG)=out.map fun x=>[aG x]:=by rw[tZ _ _ e3.symm,C3];rfl
   have e5:Cd i ((out.map aG).map AV.d)=(out.map aG).map AV.d:=Ai (by simp;omega)
   have e6:out.length=i:=by omega
   simp[-map_map,-mapM_map,↓KW,gP,q1,e2,e3,e4,e5,e6]
/-! One more cell -/
def gB(cyc:List (List (Int×Int)))(xs:List Int):Nat→List (Int×Int)
 |0=>[]
 |i+1=>bV (gB cyc xs i) (mulR ((xs.getD (i+1) 0).tmod 4) (cyc.getD i []))
def nT(x0:Int):Int:=(x0%256)%4
def gId(c:List Cl)(x0:Int):Int:=match c.getLast? with
 |none=>1
 |some y=>y.id+1+(x0%256)/128
def grown(c:List Cl)(x0 x1 x2 x3:Int)(cyc:List (List (Int×Int))):List Cl:=c++[⟨gId c x0,nT x0,gB cyc [x0,x1,x2,x3] (min 3 cyc.length)⟩]
theorem vM(x:Int):(x.tmod 4).natAbs≤2^2∧-4<x.tmod 4∧x.tmod 4<4:=by
 have h1:=E8 x (b:=4) (by decide)
 have h2:=E8 (-x) (b:=4) (by decide)
 rw[Int.neg_tmod]at h2
 exact⟨by omega,by omega,h1⟩
theorem bFz{e:Nat}{cyc:List (List (Int×Int))}{xs:List Int}(hb:∀ y∈cyc,Bnd (2^e) y)(hl:∀ y∈cyc,y.length≤16):∀ i,i≤3→i≤cyc.length→Bnd (i*(16*(2^2*2^e))) (gB cyc xs i)∧(gB cyc xs i).length≤i*16
 |0,_,_=>⟨Bnd.nil _,Az _⟩
 |i+1,h3,hc=>by
  obtain⟨h1,h2⟩:=bFz hb hl i (by omega) (by omega)
  have hm:cyc.getD i []∈cyc:=by rw[Ac,Aa (by omega)];exact Ak _
  have h4:=gQ (mulR ((xs.getD (i+1) 0).tmod 4) (cyc.getD i [])) (gB cyc xs i) h1 (pI (vM _).1 (hb _ hm))
  have h5:=iL (gB cyc xs i) (mulR ((xs.getD (i+1) 0).tmod 4) (cyc.getD i []))
  rw[wF]at h4 h5
  have h6:=hl _ hm
  refine⟨h4.mono ?_,?_⟩
  ·exact Ap (Nat.add_le_add_left (AX _ h6) _) (Nat.le_of_eq (CT i _).symm)
  ·show(bV _ _).length≤_
   omega
theorem aKg{n:Int}(h1:-128≤n)(h2:n≤127):E9.wrap n=n:=by
 show E9.wrap n=n
 unfold IntKind.wrap
 simp[IntKind.bits,IntKind.signed]
 omega
theorem bPn(c:List Cl):(c.map bJ).flatten.length=c.length*3:=by
 induction c with
 |nil=>rfl
 |cons x c ih=>simp only[AR,BP,Al,ih,bJ,AB,A8];omega
theorem aZq(c:List Cl)(y:Cl):chunk 3 (c.length+1) ((c.map bJ).flatten++bJ y)=c.map bJ++[bJ y]:=by
 have h:=zK (c.map bJ++[bJ y]) (fun x hx=>by
  rcases A9.1 hx with hx|hx
  ·obtain⟨z,_,rfl⟩:=AE.1 hx;rfl
  ·rw[AP.1 hx];rfl)
 rw[Al,AN,List.flatten_append]at h
 simpa using h
theorem aVw(c:List Cl):∀(x:Cl),x∈c→∀(x_1:D),x_1∈bJ x→one (AV.d x_1)=true:=fun x _ d hd=>by
 simp only[bJ,AD,EG,or_false]at hd
 rcases hd with rfl|rfl|rfl<;>rfl
theorem gsz{i e n:Nat}(hi:i≤3)(hn:n≤16):i*(16*(2^2*2^e))+n*(2^2*2^e)≤2^(e+20):=by
 rw[mK,←BF,←Nat.add_mul,show e+20=18+(2+e)by omega]
 exact lP (Ap (show i*16+n≤100 by omega) (by decide))
set_option maxHeartbeats 4000000 in
set_option maxRecDepth 10000 in
theorem bCo{e:Nat}(c:List Cl)(x0 x1 x2 x3:Int)(cyc:List (List (Int×Int)))(hx0:-128≤x0∧x0≤127)(hx1:-128≤x1∧x1≤127)(hx2:-128≤x2∧x2≤127)(hx3:-128≤x3∧x3≤127)(hl:c.length≤100)
  (hid:∀ y∈c,-1000≤y.id∧y.id≤1000) (hS:Spec Tryz.prog 38 [aF c,.i .i64 (nT x0-1)] (gP cyc)) (hcl:cyc.length≤100) (hb:∀ y∈cyc,Bnd (2^e) y) (hyl:∀ y∈cyc,y.length≤16) (he:e+20<4398046511104) :
  Spec Tryz.prog 25 [aF c,.ag [.i .i8 x0,.i .i8 x1,.i .i8 x2,.i .i8 x3]] (aF (grown c x0 x1 x2 x3 cyc)):=by
 have hu:Cg.wrap x0=x0%256:=aAu x0
 have hr:(x0%256).tmod 4=nT x0:=by
  rw[Int.tmod_eq_emod_of_nonneg (by omega)];rfl
 have hd:0≤nT x0∧nT x0≤3:=by unfold nT;omega
 have hu2:Cg.wrap (nT x0)=nT x0:=by rw[aAu];omega
 have hw1:Ah.wrap (nT x0)=nT x0:=aR (by omega) (by omega)
 have hw2:Ah.wrap (nT x0-1)=nT x0-1:=aR (by omega) (by omega)
 obtain⟨xs,hxs⟩:∃ l,[x0,x1,x2,x3]=l:=⟨_,rfl⟩
 have hgs:=bFz (xs:=xs) hb hyl
 have hfin:aF (grown c x0 x1 x2 x3 cyc)=.sl (c.map bJ++[bJ ⟨gId c x0,nT x0,gB cyc xs (min 3 cyc.length)⟩]):=by unfold grown aF;rw[hxs,By];rfl
 rw[hfin]
 clear hfin
 generalize hdd:nT x0=d at *
 obtain⟨bb,hbe⟩:∃ b,gB cyc xs (min 3 cyc.length)=b:=⟨_,rfl⟩
 obtain⟨gi,hgi⟩:∃ b,gId c x0=b:=⟨_,rfl⟩
 rw[hbe,hgi]
 refine aZ (N:=71) aI Tryz.func25 rfl rfl rfl (by kernel_rfl) (by kernel_rfl) (by simp) ?_
 simp[-map_map,-mapM_map,↓KW,aF,hu,hr,hu2,hw1]
 refine aA (ds:=[aF c,.i .i64 (d-1)]) (by rw[hw2];rfl) hS ?_
 simp[-map_map,-mapM_map,↓KW,aF,gP]
 refine aU (fun y:Nat×List (Int×Int)=>y.1≤min 3 cyc.length∧gB cyc xs y.1=y.2) (fun y=>StL [(0,.d (aF c)),(3,.ptr 1 0),(5,.d (.i .i64 d)),(6,.d (aG y.2)),(7,.d (.i .i64 1)),(8,.d (gP cyc)),(9,.d (.i .i64 (y.1:Int)))] none [.cells 67 [.d (.i .i8 x0),.d (.i .i8 x1),.d (.i .i8 x2),.d (.i .i8 x3)]]) (fun y=>3-y.1) (0,[]) ⟨An _,rfl⟩ ?_ ?_
 ·refine aY [1] (by simp) ?_ ?_
  ·simp[-map_map,upd,aT,Γ0,aF,gP,aG,gB]
   exact kW (by simp[iS,upd,qU]) (fun a ha id h=>by
    simp[upd]at ha
    by_cases e:id=1
    ·subst e;rw[ha];show(1:Nat)≠2;decide
    ·simp[nZ,upd,e]at h)
  ·simp[-map_map,upd,aT,Γ0,aF,gP]
 ·rintro⟨i,o⟩ ⟨hi,ho⟩
  simp only at hi ho ⊢
  have hgs0:=hgs i (by omega) (by omega)
  rw[ho]at hgs0
  by_cases hgo:i<cyc.length∧i<3
  ·have q1:(i:Int)<cyc.length:=by omega
   have q3:(i:Int)<3:=by omega
   have g1:=hgo.1
   have g2:=hgo.2
   have a1:(0:Int)≤(i:Int)+1:=by omega
   have a2:(i:Int)+1<4:=by omega
   have a3:i+1+1≤4:=by omega
   have a4:i+1<4:=by omega
   have a5:i≤2:=by omega
   refine(show ∃ q,xs.getD (i+1) 0=q from⟨_,rfl⟩).elim fun q hq=>?_
   have hrd:Cd 1 (C1 i [AV.d (.i .i8 x1),AV.d (.i .i8 x2),AV.d (.i .i8 x3)])=[AV.d (.i .i8 q)]:=by
    rw[←hq,←hxs]
    rcases i with _|_|_|i
    ·rfl
    ·rfl
    ·rfl
    ·omega
   have hre:∀ h:i<[AV.d (.i .i8 x1),AV.d (.i .i8 x2),AV.d (.i .i8 x3)].length,[AV.d (.i .i8 x1),AV.d (.i .i8 x2),AV.d (.i .i8 x3)][i]'h=AV.d (.i .i8 q):=fun h=>by
    subst hq;subst hxs
    rcases i with _|_|_|i
    ·rfl
    ·rfl
    ·rfl
    ·omega
   have t1:=(vM q).1
   have t2:=(vM q).2.1
   have t3:=(vM q).2.2
   have hw8:E9.wrap (q.tmod 4)=q.tmod 4:=aKg (by omega) (by omega)
   have hw:Ah.wrap ((i:Int)+1)=(i:Int)+1:=aR (by omega) (by omega)
   have hwt:Ah.wrap (q.tmod 4)=q.tmod 4:=aR (by omega) (by omega)
   have hof:=vV (q.tmod 4) (by omega) (by omega)
   have hgy:cyc[i]? = some (cyc.getD i []):=by rw[Ac,Aa g1];rfl
   have hyb:=hb _ (Aq hgy)
   have hyl1:=hyl _ (Aq hgy)
   have hnx:gB cyc xs (i+1)=bV o (mulR (q.tmod 4) (cyc.getD i [])):=by rw[gB,hq,ho]
   clear ho hgs
   refine(show ∃ y,cyc.getD i []=y from⟨_,rfl⟩).elim fun y hye=>?_
   rw[hye]at hgy hyb hyl1 hnx
   have hgy':∀ h:i<cyc.length,cyc[i]'h=y:=fun h=>Bg ((Aa h).symm.trans hgy)
   refine(show ∃ z,q.tmod 4=z from⟨_,rfl⟩).elim fun z hz=>?_
   rw[hz]at t1 t2 t3 hw8 hwt hof hnx
   have hA:=bCr o y z _ (2^e) (2^2) hgs0.1 hyb t1 (mM (gsz (by omega) hyl1) he) (mM (by rw[mK];exact uJ (show 2+e≤e+20 by omega)) he) (mM (uJ (show 2≤e+20 by omega)) he) (mM (uJ (show e≤e+20 by omega)) he) (by omega)
   simp[-map_map,-mapM_map,↓KW,aF,gP,g1,g2,q1,q3,a1,a2,a3,a4,a5,hgy,hgy',hwt,hw8,hw,hrd,hre,hz]
   refine aA (ds:=[.i .i64 z]) (by rfl) hof ?_
   simp[-map_map,-mapM_map,↓KW,bF,aG,aD,aK,aM,bE,bC]
   refine aA (ds:=[aG o,aG y,encZ z]) (by rfl) hA ?_
   simp[-map_map,-mapM_map,↓KW,aG,hw]
   refine aJ (i+1,bV o (mulR z y)) ⟨by simp only;omega,hnx⟩ (by simp only;omega) (aY [1] (by simp) ?_ ?_)<;>simp[-map_map,upd,aT,Γ0,aF,gP,aG]
  ·have hmin:min 3 cyc.length=i:=by omega
   have hob:bb=o:=by rw[←hbe,hmin,ho]
   clear hgs0 hgs hS hb hyl ho hmin hi hbe
   have hfl:(c.map bJ).flatten.length=c.length*3:=bPn c
   have hok:=aMk c
   have hfin:∀ y:Cl,chunk 3 (c.length+1) ((c.map bJ).flatten++bJ y)=c.map bJ++[bJ y]:=aZq c
   have hr2:(x0%256).tdiv 128=x0%256/128:=Int.tdiv_eq_ediv_of_nonneg (by omega)
   refine(show ∃ u,x0%256/128=u from⟨_,rfl⟩).elim fun u hue=>?_
   have hu3:Cg.wrap u=u:=by rw[aAu];omega
   have hu4:Ah.wrap u=u:=aR (by omega) (by omega)
   have hub:0≤u∧u≤1:=by omega
   rw[hue]at hr2
   have b1:(c.length+1)*40≤140737488355328:=by omega
   have b2:c.length*40≤140737488355328:=by omega
   have b3:c.length+1≤maxLen:=aW (by omega)
   have b4:c.length≤maxLen:=aW (by omega)
   have key:∀(gi:Int) (sl:Nat→AV),True:=fun _ _=>trivial
   by_cases g1:i<cyc.length
   ·have g2:¬i<3:=fun h=>hgo ⟨g1,h⟩
    have q1:(i:Int)<cyc.length:=by omega
    have q3:¬(i:Int)<3:=by omega
    by_cases hc0:0<c.length
    ·have hc0':(0:Int)<c.length:=by omega
     refine(show ∃ y,c[c.length-1]? = some y from⟨c[c.length-1],Aa (by omega)⟩).elim fun y hy=>?_
     have hgy:c.getLast? = some y:=by rw[Ds];exact hy
     have hgi2:gi=y.id+1+u:=by rw[←hgi,←hue];unfold gId;rw[hgy]
     have hyb:=hid y (Aq hy)
     have hw5:Ah.wrap ((c.length:Int)-1)=((c.length-1:Nat):Int):=by rw[aR (by omega) (by omega)];omega
     have hw6:Ah.wrap (y.id+1)=y.id+1:=aR (by omega) (by omega)
     have hw7:Ah.wrap (y.id+1+u)=y.id+1+u:=aR (by omega) (by omega)
     have hf2:chunk 3 (c.length+1) ((c.map bJ).flatten++[D.i .i64 (y.id+1+u),.i .i64 d,aG o])=c.map bJ++[[D.i .i64 (y.id+1+u),.i .i64 d,aG o]]:=hfin ⟨y.id+1+u,d,o⟩
     have hyc:bJ y=[D.i .i64 y.id,.i .i64 y.dim,aG y.b]:=rfl
     have hec:bJ ⟨y.id+1+u,d,o⟩=[D.i .i64 (y.id+1+u),.i .i64 d,aG o]:=rfl
     have hfl2:((c.map bJ).flatten.map AV.d).length=c.length*3:=by rw[AN];exact hfl
     have hfl3:¬c.length*3=0:=by omega
     have hcn:¬c.length=0:=by omega
     have hone:(∀(x:Cl),x∈c→∀(x_1:D),x_1∈bJ x→one (AV.d x_1)=true)↔True:=⟨fun _=>trivial,fun _=>aVw c⟩
     refine(show ∃ fl,(c.map bJ).flatten=fl from⟨_,rfl⟩).elim fun fl hfe=>?_
     have hfm:(BR (BR AV.d) (BR bJ c)).flatten=fl.map AV.d:=by rw[←hfe,Eh]
     have hl1:fl.length=c.length*3:=by rw[←hfe];exact hfl
     have hf3:chunk 3 (c.length+1) (fl++[D.i .i64 (y.id+1+u),.i .i64 d,aG o])=c.map bJ++[[D.i .i64 (y.id+1+u),.i .i64 d,aG o]]:=by rw[←hfe];exact hf2
     simp[-map_map,-mapM_map,↓KW,aF,gP,q1,q3,hob,hc0,hc0',hw5,hy,hyc,hu,hr2,hu3,hu4,hw6,hw7]
     simp[-map_map,-mapM_map,↓KW,hok,hone,hfm,hl1,hfl3,hcn,hf3,b1,b2,b3,b4,aE,aB,aC]
     refine⟨by omega,fl++[D.i .i64 (y.id+1+u),.i .i64 d,aG o],?_,?_⟩
     ·rw[Ai (by simp;omega),show BR AV.d fl++[AV.d (D.i Ah (y.id+1+u)),AV.d (D.i Ah d),AV.d (aG o)]=(fl++[D.i .i64 (y.id+1+u),.i .i64 d,aG o]).map AV.d by simp]
      exact nP _ 6 _
     ·rw[hf3,hgi2,hob,hec]
    ·have hc0':¬(0:Int)<c.length:=by omega
     have hce:c=[]:=Au (by omega)
     subst hce
     have hgi2:gi=1:=by rw[←hgi];rfl
     have hm1:(1:Nat)≤maxLen:=aW (by decide)
     have hec:bJ ⟨1,d,o⟩=[D.i .i64 1,.i .i64 d,aG o]:=rfl
     simp[-map_map,-mapM_map,↓KW,aF,gP,q1,q3,hob,hm1,aE,aB,aC]
     simp[-map_map,-mapM_map,↓KW,hgi2,hec]
   ·have q1:¬(i:Int)<cyc.length:=by omega
    by_cases hc0:0<c.length
    ·have hc0':(0:Int)<c.length:=by omega
     refine(show ∃ y,c[c.length-1]? = some y from⟨c[c.length-1],Aa (by omega)⟩).elim fun y hy=>?_
     have hgy:c.getLast? = some y:=by rw[Ds];exact hy
     have hgi2:gi=y.id+1+u:=by rw[←hgi,←hue];unfold gId;rw[hgy]
     have hyb:=hid y (Aq hy)
     have hw5:Ah.wrap ((c.length:Int)-1)=((c.length-1:Nat):Int):=by rw[aR (by omega) (by omega)];omega
     have hw6:Ah.wrap (y.id+1)=y.id+1:=aR (by omega) (by omega)
     have hw7:Ah.wrap (y.id+1+u)=y.id+1+u:=aR (by omega) (by omega)
     have hf2:chunk 3 (c.length+1) ((c.map bJ).flatten++[D.i .i64 (y.id+1+u),.i .i64 d,aG o])=c.map bJ++[[D.i .i64 (y.id+1+u),.i .i64 d,aG o]]:=hfin ⟨y.id+1+u,d,o⟩
     have hyc:bJ y=[D.i .i64 y.id,.i .i64 y.dim,aG y.b]:=rfl
     have hec:bJ ⟨y.id+1+u,d,o⟩=[D.i .i64 (y.id+1+u),.i .i64 d,aG o]:=rfl
     have hfl2:((c.map bJ).flatten.map AV.d).length=c.length*3:=by rw[AN];exact hfl
     have hfl3:¬c.length*3=0:=by omega
     have hcn:¬c.length=0:=by omega
     have hone:(∀(x:Cl),x∈c→∀(x_1:D),x_1∈bJ x→one (AV.d x_1)=true)↔True:=⟨fun _=>trivial,fun _=>aVw c⟩
     refine(show ∃ fl,(c.map bJ).flatten=fl from⟨_,rfl⟩).elim fun fl hfe=>?_
     have hfm:(BR (BR AV.d) (BR bJ c)).flatten=fl.map AV.d:=by rw[←hfe,Eh]
     have hl1:fl.length=c.length*3:=by rw[←hfe];exact hfl
     have hf3:chunk 3 (c.length+1) (fl++[D.i .i64 (y.id+1+u),.i .i64 d,aG o])=c.map bJ++[[D.i .i64 (y.id+1+u),.i .i64 d,aG o]]:=by rw[←hfe];exact hf2
     simp[-map_map,-mapM_map,↓KW,aF,gP,q1,hob,hc0,hc0',hw5,hy,hyc,hu,hr2,hu3,hu4,hw6,hw7]
     simp[-map_map,-mapM_map,↓KW,hok,hone,hfm,hl1,hfl3,hcn,hf3,b1,b2,b3,b4,aE,aB,aC]
     refine⟨by omega,fl++[D.i .i64 (y.id+1+u),.i .i64 d,aG o],?_,?_⟩
     ·rw[Ai (by simp;omega),show BR AV.d fl++[AV.d (D.i Ah (y.id+1+u)),AV.d (D.i Ah d),AV.d (aG o)]=(fl++[D.i .i64 (y.id+1+u),.i .i64 d,aG o]).map AV.d by simp]
      exact nP _ 6 _
     ·rw[hf3,hgi2,hob,hec]
    ·have hc0':¬(0:Int)<c.length:=by omega
     have hce:c=[]:=Au (by omega)
     subst hce
     have hgi2:gi=1:=by rw[←hgi];rfl
     have hm1:(1:Nat)≤maxLen:=aW (by decide)
     have hec:bJ ⟨1,d,o⟩=[D.i .i64 1,.i .i64 d,aG o]:=rfl
     simp[-map_map,-mapM_map,↓KW,aF,gP,q1,hob,hm1,aE,aB,aC]
     simp[-map_map,-mapM_map,↓KW,hgi2,hec]
end Go.Am
end

section
set_option linter.unusedVariables false
set_option linter.unusedSimpArgs false
open Go Go.Am Go.Proofs
namespace Go.Am
/-! Weights -/
def bK(w:Int→Int):List (Int×Int)→Int
 |[]=>0
 |x::l=>x.2*w x.1+bK w l
theorem nL(w:Int→Int):∀ a b:List (Int×Int),bK w (a++b)=bK w a+bK w b
 |[],b=>by simp[bK]
 |x::a,b=>by
  have:=nL w a b
  simp only[List.cons_append,bK,this];omega
theorem aFj(w:Int→Int)(id z:Int):∀ l:List (Int×Int),bK w (yL id z l)=bK w l+z*w id
 |[]=>by simp[yL,bK]
 |x::l=>by
  rw[yL]
  by_cases h1:x.1>id
  ·rw[Ag h1];simp only[bK];omega
  ·rw[Ae h1]
   by_cases h2:x.1=id
   ·rw[Ag h2]
    by_cases h3:x.2+z=0
    ·rw[Ag h3]
     have:x.2*w x.1+z*w id=0:=by rw[h2,←Fm,h3,Int.zero_mul]
     simp only[bK];omega
    ·rw[Ae h3];simp only[bK];rw[h2,Fm];omega
   ·rw[Ae h2];simp only[bK];rw[aFj w id z l];omega
theorem aWp(w:Int→Int)(l:List (Int×Int))(f:Int×Int):bK w (nA l f)=bK w l+f.2*w f.1:=by
 obtain⟨id,z⟩:=f
 rw[aVb]
 by_cases h:z=0
 ·rw[Ag h,h];simp
 ·rw[Ae h,aFj]
theorem lK(w:Int→Int):∀ b a:List (Int×Int),bK w (bV a b)=bK w a+bK w b
 |[],a=>by simp[bV,bK]
 |f::b,a=>by
  show bK w (bV (nA a f) b)=_
  rw[lK w b,aWp];simp only[bK];omega
theorem nF(w:Int→Int)(k:Int):∀ b:List (Int×Int),bK w (mulR k b)=k*bK w b
 |[]=>by simp[mulR,bK]
 |f::b=>by
  have ih:=nF w k b
  show k*f.2*w f.1+bK w (mulR k b)=k*(f.2*w f.1+bK w b)
  rw[ih,CL,CM]
theorem dQ{w w':Int→Int}:∀{l:List (Int×Int)},(∀ x∈l,w x.1=w' x.1)→bK w l=bK w' l
 |[],_=>rfl
 |x::l,h=>by
  simp only[bK]
  rw[h x (Av ..),dQ fun y hy=>h y (As _ hy)]
theorem nD(n:Int):∀ l:List (Int×Int),cf n l=bK (fun m=>if n=m then 1 else 0) l
 |[]=>rfl
 |x::l=>by
  simp only[cf,bK]
  rw[nD n l]
  split<;>simp
theorem mC{n:Int}:∀{l:List (Int×Int)},(∀ x∈l,x.1≠n)→cf n l=0
 |[],_=>rfl
 |x::l,h=>by
  simp only[cf]
  rw[Ae fun e=>h x (Av ..) e.symm,mC fun y hy=>h y (As _ hy)];rfl
theorem aRv(c:List Cl)(n:Int):∀ y:List (Int×Int),cf n (bdL c y)=bK (fun m=>cf n (bOf c m)) y
 |[]=>rfl
 |f::y=>by
  show cf n (mulR f.2 (bOf c f.1)++bdL c y)=_
  rw[bHn,aJk,aRv c n y];rfl
theorem bBp(n:Nat)(f:Nat→Int):sgm (n+1) f=f 0+sgm n fun j=>f (j+1):=by
 induction n with
 |zero=>show 0+f 0=f 0+0;omega
 |succ n ih =>
  show sgm (n+1) f+f (n+1)=f 0+(sgm n (fun j=>f (j+1))+f (n+1))
  rw[ih];omega
theorem aAr(w:Int→Int):∀(ids v:List Int),ids.length=v.length→bK w (ids.zip v)=sgm ids.length fun j=>v.getD j 0*w (ids.getD j 0)
 |[],[],_=>rfl
 |[],_::_,h=>by simp at h
 |_::_,[],h=>by simp at h
 |i::ids,z::v,h=>by
  have ih:=aAr w ids v (by simpa using h)
  rw[C2,AB,bBp]
  simp only[bK,ih];rfl
/-! Sizes of valid chains -/
theorem fB:∀{l:List (Int×Int)} {x:Int×Int},Val l→x∈l→getM l x.1=x.2
 |y::l,x,h,hx=>by
  obtain⟨h1,h2,_⟩:=h.tail
  rw[cH]
  rcases AD.1 hx with rfl|hx
  ·rw[Ag rfl]
  ·rw[Ae (by have:=h2 x hx;omega),fB h1 hx]
theorem sJ{l:List (Int×Int)}{M:Nat}(h:Val l)(hb:∀ n,(getM l n).natAbs≤M):Bnd M l:=fun x hx=>by
 rw[←fB h hx];exact hb _
theorem zG{l:List (Int×Int)}{n:Int}(h:getM l n≠0):∃ x∈l,x.1=n:=Bb fun hn=>h (fN fun y hy e=>hn ⟨y,hy,e⟩)
theorem tP{M:Nat}{l:List (Int×Int)}(h:Bnd M l)(n:Int):(getM l n).natAbs≤M:=nS h n
theorem bEj{a b:List (Int×Int)}{k:Int}{A M K:Nat}(ha:Val a)(hb:Val b)(bA:Bnd A a)(bM:Bnd M b)(hk:k.natAbs≤K):Bnd (A+K*M) (bV a (mulR k b)):=by
 obtain⟨h1,h2⟩:=aAf ha hb k
 refine sJ h1 fun n=>?_
 show(getM (lin a b k) n).natAbs≤_
 rw[h2 n]
 have e1:=tP bA n
 have e2:=B9 hk (tP bM n)
 have e3:=Int.natAbs_add_le (getM a n) (k*getM b n)
 rw[BJ]at e3
 omega
theorem aGq{a b:List (Int×Int)}{k:Int}{S:Int→Prop}(ha:Val a)(hb:Val b)(ka:∀ x∈a,S x.1)(kb:∀ x∈b,S x.1):∀ x∈bV a (mulR k b),S x.1:=fun x hx=>by
 obtain⟨h1,h2⟩:=aAf ha hb k
 have e:=fB (l:=lin a b k) h1 hx
 rw[h2]at e
 have hne:x.2≠0:=h1.2 x hx
 by_cases h:getM a x.1=0
 ·have:getM b x.1≠0:=fun h'=>by rw[h,h',Dk]at e;exact hne e.symm
  obtain⟨y,hy,e2⟩:=zG this
  rw[←e2];exact kb y hy
 ·obtain⟨y,hy,e2⟩:=zG h
  rw[←e2];exact ka y hy
theorem vH{M:Nat}(n:Int):∀(ids v:List Int),ids.Pairwise (·<·)→(∀ z∈v,z.natAbs≤M)→(cf n (ids.zip v)).natAbs≤M∧(cf n (ids.zip v)≠0→n∈ids)
 |[],v,_,_=>by simp[cf]
 |i::ids,[],_,_=>by simp[cf]
 |i::ids,z::v,hp,hv=>by
  obtain⟨h1,h2⟩:=A5.1 hp
  obtain⟨h3,h4⟩:=vH n ids v h2 fun y hy=>hv y (As _ hy)
  rw[C2]
  simp only[cf]
  by_cases e:n=i
  ·have hz:cf n (ids.zip v)=0:=mC fun x hx e2=>by
    have:=h1 _ (EU hx).1;omega
   rw[Ag e,hz,DA]
   exact⟨hv z (Av ..),fun _=>by rw[e];exact Av ..⟩
  ·rw[Ae e,Ci]
   exact⟨h3,fun h=>As _ (h4 h)⟩
theorem bHk{ids v:List Int}{M:Nat}(hp:ids.Pairwise (·<·))(hv:∀ z∈v,z.natAbs≤M):Val (bV [] (ids.zip v))∧Bnd M (bV [] (ids.zip v))∧(∀ x∈bV [] (ids.zip v),x.1∈ids)∧(bV [] (ids.zip v)).length≤ids.length∧∀ n,getM (bV [] (ids.zip v)) n=cf n (ids.zip v):=by
 obtain⟨h1,h2⟩:=cO (ids.zip v) [] Val.nil
 have h3:∀ n,getM (bV [] (ids.zip v)) n=cf n (ids.zip v):=fun n=>by rw[h2 n,gN,Ci]
 refine⟨h1,sJ h1 fun n=>by rw[h3];exact(vH n ids v hp hv).1,fun x hx=>?_,?_,h3⟩
 ·have e:=fB h1 hx
  rw[h3]at e
  exact(vH x.1 ids v hp hv).2 (by rw[e];exact h1.2 x hx)
 ·have:=iL [] (ids.zip v)
  rw[List.length_zip]at this
  simp only[A8]at this;omega
/-! Cells of a dimension -/
theorem Inc.ids{c:List Cl}(h:Inc c)(k:Int):(bR c k).Pairwise (·<·):=by
 unfold bR
 rw[Cs]
 exact(DB _ h)
theorem gA{c:List Cl}{k n:Int}:n∈bR c k↔∃ x∈c,x.dim=k∧x.id=n:=by
 unfold bR
 rw[AE]
 constructor
 ·rintro⟨x,hx,e⟩
  obtain⟨h1,h2⟩:=Bk.1 hx
  exact⟨x,h1,of_decide_eq_true h2,e⟩
 ·rintro⟨x,h1,h2,e⟩
  exact⟨x,Bk.2 ⟨h1,BA h2⟩,e⟩
theorem bFq(c:List Cl)(x:Cl)(k:Int):bR (c++[x]) k=bR c k++if x.dim=k then[x.id]else[]:=by
 unfold bR
 rw[BT,By]
 congr 1
 by_cases e:x.dim=k<;>simp[e]
theorem aZd{c:List Cl}{x:Cl}{n:Int}(h:n≠x.id):bW (c++[x]) n=bW c n:=by
 unfold bW
 rw[List.find?_append]
 have:[x].find? (fun y=>decide (y.id=n))=none:=by simp;exact fun e=>h e.symm
 rw[this,Option.or_none]
theorem aWa{c:List Cl}{x:Cl}{n:Int}(h:n≠x.id):bOf (c++[x]) n=bOf c n:=by unfold bOf;rw[aZd h]
structure CxV(c:List Cl):Prop where
 inc:Inc c
 dim:∀ x∈c,0≤x.dim∧x.dim≤3
 val:∀ x∈c,Val x.b
 face:∀ x∈c,∀ f∈x.b,∃ y∈c,y.id=f.1∧y.dim=x.dim-1
 cyc:∀ x∈c,∀ n,bK (fun m=>cf n (bOf c m)) x.b=0
theorem CxV.bOf{c:List Cl}(h:CxV c){x:Cl}(hx:x∈c):bOf c x.id=x.b:=by unfold Go.Am.bOf;rw[h.inc.find hx];rfl
theorem CxV.bval{c:List Cl}(h:CxV c)(n:Int):Val (Go.Am.bOf c n):=by
 unfold Go.Am.bOf
 cases e:bW c n with
 |none=>exact Val.nil
 |some x=>exact h.val x (cV e).1
theorem CxV.cycle{c:List Cl}(h:CxV c){k:Int}{v:List Int}(hv:v.length=(bR c k).length)(hz:∀ t,t<(bR c (k-1)).length→sgm (bR c k).length (fun j=>v.getD j 0*ent (mF c k) j t)=0)(n:Int) :
  bK (fun m=>cf n (Go.Am.bOf c m)) (bV [] ((bR c k).zip v))=0:=by
 rw[lK,aAr _ _ _ hv.symm]
 show 0+_=(0:Int)
 rw[Ci]
 have hrow:∀ j,j<(bR c k).length→∃ x∈c,x.dim=k∧x.id=(bR c k).getD j 0:=fun j hj=>by
  rw[Ac,Aa hj]
  exact gA.1 (Ak hj)
 by_cases hn:n∈bR c (k-1)
 ·obtain⟨t,ht,e⟩:=Bi hn
  refine Eq.trans ?_ (hz t ht)
  refine cF fun j hj=>?_
  have:ent (mF c k) j t=cf n (Go.Am.bOf c ((bR c k).getD j 0)):=by
   unfold ent
   rw[Ac (l:=mF c k),wK (Aa hj),Ba,Ac,iY (Aa ht),Ba,e,qJ (h.bval _),←fS (h.bval _)]
   rw[Ac,Aa hj];rfl
  rw[this]
 ·rw[cF (g:=fun _=>0) fun j hj=>?_,vP]
  obtain⟨x,hx,hd,he⟩:=hrow j hj
  rw[←he,h.bOf hx,mC fun f hf e=>?_,Dk]
  obtain⟨y,hy,e1,e2⟩:=h.face x hx f hf
  exact hn (gA.2 ⟨y,hy,by omega,by omega⟩)
theorem mZ(c:List Cl)(k:Int):Sh (bR c k).length (bR c (k-1)).length (mF c k):=⟨aNh c k,fun v hv=>by
 obtain⟨n,_,rfl⟩:=AE.1 hv
 exact iG _ _⟩
theorem tN{c:List Cl}{k:Int}{e:Nat}(hi:Inc c)(hb:∀ x∈c,x.dim=k→Bnd (2^e) x.b):Be e (mF c k):=Be.of (mZ c k) fun r t hr ht=>by
 unfold ent
 rw[Ac (l:=mF c k),wK (Aa hr),Ba,Ac,iY (Aa ht),Ba]
 obtain⟨x,hx,hd,he⟩:=gA.1 (Ak hr)
 rw[←he]
 have:bOf c x.id=x.b:=by unfold bOf;rw[hi.find hx];rfl
 rw[this]
 exact bEe (hb x hx hd) _
end Go.Am
end

section
set_option linter.unusedVariables false
set_option linter.unusedSimpArgs false
open Go Go.Am Go.Proofs
namespace Go.Am
theorem aPx{n k:Nat}{f:Nat→Int}(hk:k<n)(h:∀ j,j<n→j≠k→f j=0):sgm n f=f k:=by
 rw[←lW hk f]
 refine cF fun j hj=>?_
 by_cases e:j=k
 ·rw[Ag e,Int.one_mul]
 ·rw[Ae e,Int.zero_mul];exact h j hj e
theorem nI{n:Nat}{f:Nat→Int}(h:∀ j,j<n→f j=0):sgm n f=0:=by rw[cF h,vP]
theorem bKx{n i j:Nat}(hi:i<n)(hj:j<n)(f:Nat→Int):sgm n (fun r=>f (swp i j r))=sgm n f:=by
 by_cases e:i=j
 ·subst e
  refine cF fun r _=>?_
  unfold swp;split
  ·rename_i h;rw[h]
  ·rfl
 ·have h:sgm n (fun r=>f (swp i j r))=sgm n (fun r=>f r+((if r=i then 1 else 0)*(f j-f i)+(if r=j then 1 else 0)*(f i-f j))):=by
   refine cF fun r _=>?_
   unfold swp
   by_cases h1:r=i
   ·rw[Ag h1,Ag h1,Ae (by omega),h1];omega
   ·rw[Ae h1,Ae h1]
    by_cases h2:r=j
    ·rw[Ag h2,Ag h2,h2];omega
    ·rw[Ae h2,Ae h2];omega
  rw[h,qA,qA,lW hi fun _=>f j-f i,lW hj fun _=>f i-f j];omega
def InP(R c:Nat)(w:W3)(x y:Nat→Int):Prop:=∃ a:Nat→Int,(∀ t,t<c→sgm R (fun j=>a j*ent w.M j t)=x t)∧∀ t,t<R→sgm R (fun j=>a j*ent w.U j t)=y t
theorem aOh{R c i j:Nat}{k:Int}{M:List (List Int)}{a:Nat→Int}(hi:i<R)(hj:j<R)(hij:i≠j){t:Nat}(ht:t<c) :
  sgm R (fun r=>(if r=j then a j-k*a i else a r)*ent (qD R c M i j k) r t)=sgm R (fun r=>a r*ent M r t):=by
 have h:∀ r,r<R→(if r=j then a j-k*a i else a r)*ent (qD R c M i j k) r t=a r*ent M r t+((if r=i then 1 else 0)*(a i*(k*ent M j t))+(if r=j then 1 else 0)*(- (k*a i)*ent M j t)):=fun r hr=>by
  rw[gO hr ht]
  by_cases h1:r=i
  ·rw[Ag h1,Ae (by omega),Ag h1,Ae (by omega),h1,CL];omega
  ·rw[Ae h1,Ae h1]
   by_cases h2:r=j
   ·rw[Ag h2,Ag h2,h2,Int.sub_mul,C5];omega
   ·rw[Ae h2,Ae h2];omega
 rw[cF h,qA,qA,lW hi fun _=>a i*(k*ent M j t),lW hj fun _=>- (k*a i)*ent M j t]
 have:a i*(k*ent M j t)=k*a i*ent M j t:=by rw[←CM,BG (a i)]
 rw[this,C5];omega
theorem aVq{R c i j:Nat}{M:List (List Int)}{a:Nat→Int}(hi:i<R)(hj:j<R){t:Nat}(ht:t<c) :
  sgm R (fun r=>a (swp i j r)*ent (swR R c M i j) r t)=sgm R (fun r=>a r*ent M r t):=by
 rw[←bKx hi hj fun r=>a r*ent M r t]
 exact cF fun r hr=>by rw[xE hr ht]
theorem aVr{R c i:Nat}{M:List (List Int)}{a:Nat→Int}{t:Nat}(ht:t<c) :
  sgm R (fun r=>(if r=i then-a i else a r)*ent (ngR R c M i) r t)=sgm R (fun r=>a r*ent M r t) :=
 cF fun r hr=>by
  rw[mA hr ht]
  by_cases h1:r=i
  ·rw[Ag h1,Ag h1,Int.neg_mul_neg,h1]
  ·rw[Ae h1,Ae h1]
section
variable {R c col top i j:Nat} {w w':W3} {x y:Nat→Int}
theorem InP.add(h:InP R c w x y)(hi:i<R)(hj:j<R)(hij:i≠j)(k:Int):InP R c (w.add R c i j k) x y:=by
 obtain⟨a,h1,h2⟩:=h
 exact⟨_,fun t ht=>(aOh hi hj hij ht).trans (h1 t ht),fun t ht=>(aOh hi hj hij ht).trans (h2 t ht)⟩
theorem InP.sw(h:InP R c w x y)(hi:i<R)(hj:j<R):InP R c (w.sw R c i j) x y:=by
 obtain⟨a,h1,h2⟩:=h
 exact⟨_,fun t ht=>(aVq hi hj ht).trans (h1 t ht),fun t ht=>(aVq hi hj ht).trans (h2 t ht)⟩
theorem InP.ng(h:InP R c w x y):InP R c (w.ng R c i) x y:=by
 obtain⟨a,h1,h2⟩:=h
 exact⟨_,fun t ht=>(aVr ht).trans (h1 t ht),fun t ht=>(aVr ht).trans (h2 t ht)⟩
theorem InP.eu(h:Eu R c col top i w w')(hti:top<i)(hi:i<R)(g:InP R c w x y):InP R c w' x y:=by
 induction h with
 |done w ok h=>exact g
 |go w w' ok hy h2 ih =>
  refine ih ?_
  unfold euS euT
  split
  ·exact g.sw (by omega) hi
  ·exact(g.add (by omega) hi (by omega) _).sw (by omega) hi
theorem InP.ei(h:Ei R c col top i w w')(hti:top<i)(g:InP R c w x y):InP R c w' x y:=by
 induction h with
 |done i w ok h=>exact g
 |go i w w1 w2 h h1 h2 ih=>exact ih (by omega) (g.eu h1 hti h)
theorem InP.rd(h:Rd R c col top i w w')(ht:top<R)(g:InP R c w x y):InP R c w' x y:=by
 induction h with
 |done i w ok h=>exact g
 |go i w w2 ok h h2 ih=>exact ih (g.add (by omega) ht (by omega) _)
theorem InP.fo(h:Fo R c col top w w')(g:InP R c w x y):InP R c w' x y:=by
 induction h with
 |done col top w ok h=>exact g
 |zero col top w w1 w2 h1 h2 h3 h4 h5 ih=>exact ih (g.ei h3 (by omega))
 |piv col top w w1 w2 w3 h1 h2 h3 h4 h5 h6 ih =>
  refine ih (InP.rd h5 h2 ?_)
  have:=g.ei h3 (by omega)
  unfold ngS;split
  ·exact this.ng
  ·exact this
/-! The shape -/
structure Hn(R c col top:Nat)(M:List (List Int))(p:Nat→Nat):Prop where
 inc:∀ i j,i<j→j<top→p i<p j
 lt:∀ i,i<top→p i<col
 pos:∀ i,i<top→0<ent M i (p i)
 bef:∀ i t,i<top→t<p i→ent M i t=0
 red:∀ j i,j<i→i<top→0≤ent M j (p i)∧ent M j (p i)<ent M i (p i)
 low:∀ r t,top≤r→r<R→t<col→ent M r t=0
theorem bOr(h:Eu R c col top i w w')(hti:top<i)(hi:i<R)(hcol:col<c):(∀ r t,r<R→t<c→r≠top→r≠i→ent w'.M r t=ent w.M r t)∧(∀ t,t<c→ent w.M top t=0→ent w.M i t=0→ent w'.M top t=0∧ent w'.M i t=0)∧ent w'.M i col=0:=by
 induction h with
 |done w ok h=>exact⟨fun _ _ _ _ _ _=>rfl,fun t _ h1 h2=>⟨h1,h2⟩,h⟩
 |go w w' ok hy h2 ih =>
  have eM:=fun r t hr ht=>aOb (w:=w) (c:=c) (col:=col) (by omega:top≠i) (by omega:top<R) hi (r:=r) (t:=t) hr ht
  refine⟨fun r t hr ht n1 n2=>by rw[ih.1 r t hr ht n1 n2,eM r t hr ht,Ae n1,Ae n2],fun t ht z1 z2=>ih.2.1 t ht ?_ ?_,ih.2.2⟩
  ·rw[eM _ _ (by omega) ht,Ag rfl];exact z2
  ·rw[eM _ _ hi ht,Ae (by omega),Ag rfl,z1,z2];simp
theorem aVo(h:Ei R c col top i w w')(hti:top<i)(hcol:col<c)(z:∀ r,top<r→r<i→ent w.M r col=0):(∀ r t,r<top→r<R→t<c→ent w'.M r t=ent w.M r t)∧(∀ t,t<c→(∀ r,top≤r→r<R→ent w.M r t=0)→∀ r,top≤r→r<R→ent w'.M r t=0)∧∀ r,top<r→r<R→ent w'.M r col=0:=by
 induction h with
 |done i w ok h=>exact⟨fun _ _ _ _ _=>rfl,fun t _ h r h1 h2=>h r h1 h2,fun r h1 h2=>z r h1 (by omega)⟩
 |go i w w1 w2 h h1 h2 ih =>
  obtain⟨a1,a2,a3⟩:=bOr h1 hti h hcol
  obtain⟨b1,b2,b3⟩:=ih (by omega) (fun r g1 g2=>by
   by_cases e:r=i
   ·rw[e];exact a3
   ·rw[a1 r col (by omega) hcol (by omega) e];exact z r g1 (by omega))
  refine⟨fun r t g1 g2 g3=>by rw[b1 r t g1 g2 g3,a1 r t g2 g3 (by omega) (by omega)],fun t ht hz=>b2 t ht fun r g1 g2=>?_,b3⟩
  have h0:=a2 t ht (hz top (Az _) (by omega)) (hz i (by omega) h)
  by_cases e1:r=top
  ·rw[e1];exact h0.1
  ·by_cases e2:r=i
   ·rw[e2];exact h0.2
   ·rw[a1 r t g2 ht e1 e2];exact hz r g1 g2
theorem bLp(h:Rd R c col top i w w')(hR:top<R)(hcol:col<c):∀ r t,r<R→t<c→ent w'.M r t=if i≤r∧r<top then ent w.M r t-(ent w.M r col/ent w.M top col)*ent w.M top t else ent w.M r t:=by
 induction h with
 |done i w ok h=>intro r t _ _;rw[Ae (by omega)]
 |go i w w2 ok h h2 ih =>
  intro r t hr ht
  have eM:∀{r t},r<R→t<c→ent (rdS R c col top i w).M r t=_:=fun{r t} hr ht=>gO (R:=R) (c:=c) (M:=w.M) (i:=i) (j:=top) (k:=-(ent w.M i col/ent w.M top col)) hr ht
  rw[ih r t hr ht,eM hr ht,eM hr hcol,eM hR hcol,eM hR ht,Ae (show ¬top=i by omega),Ae (show ¬top=i by omega)]
  by_cases e:r=i
  ·subst e
   rw[Ae (by omega),Ag rfl,Ag ⟨Az _,h⟩,C5];omega
  ·rw[Ae e,Ae e]
   by_cases e2:i≤r∧r<top
   ·rw[Ag e2,Ag (by omega)]
   ·rw[Ae e2,Ae (by omega)]
theorem bGd(h:Fo R c col top w w'):∀{p},col≤c→top≤R→Hn R c col top w.M p→∃ k q,k≤R∧Hn R c c k w'.M q:=by
 induction h with
 |done col top w ok h =>
  intro p hc hT g
  exact⟨top,p,hT,g.inc,fun i hi=>by have:=g.lt i hi;omega,g.pos,g.bef,g.red,fun r t h1 h2 h3=>g.low r t h1 h2 (by omega)⟩
 |zero col top w w1 w2 h1 h2 h3 h4 h5 ih =>
  intro p hc hT g
  obtain⟨a1,a2,a3⟩:=aVo h3 (by omega) h1 (fun r _ _=>by omega)
  have e:∀ i t,i<top→t<c→ent w1.M i t=ent w.M i t:=fun i t hi ht=>a1 i t hi (by omega) ht
  have lt:∀ i,i<top→p i<c:=fun i hi=>by have:=g.lt i hi;omega
  refine ih (p:=p) h1 hT ⟨g.inc,fun i hi=>by have:=g.lt i hi;omega,fun i hi=>by rw[e i _ hi (lt i hi)];exact g.pos i hi,fun i t hi ht=>by rw[e i t hi (by have:=lt i hi;omega)];exact g.bef i t hi ht,fun j i hj hi=>by rw[e j _ (by omega) (lt i hi),e i _ hi (lt i hi)];exact g.red j i hj hi,fun r t g1 g2 g3=>?_⟩
  by_cases e1:t=col
  ·rw[e1]
   by_cases e2:r=top
   ·rw[e2];exact h4
   ·exact a3 r (by omega) g2
  ·exact a2 t (by omega) (fun r k1 k2=>g.low r t k1 k2 (by omega)) r g1 g2
 |piv col top w w1 w2 w3 h1 h2 h3 h4 h5 h6 ih =>
  intro p hc hT g
  obtain⟨a1,a2,a3⟩:=aVo h3 (by omega) h1 (fun r _ _=>by omega)
  have a2':∀ r t,top≤r→r<R→t<col→ent w1.M r t=0:=fun r t k1 k2 k3=>a2 t (by omega) (fun r g1 g2=>g.low r t g1 g2 k3) r k1 k2
  have n1:∀ r t,r<R→t<c→ent (ngS R c col top w1).M r t=if r=top∧ent w1.M top col<0 then-ent w1.M top t else ent w1.M r t:=fun r t hr ht=>by
   unfold ngS
   by_cases e:ent w1.M top col<0
   ·rw[Ag e];show ent (ngR R c w1.M top) r t=_
    rw[mA hr ht]
    by_cases e2:r=top
    ·rw[Ag e2,Ag ⟨e2,e⟩]
    ·rw[Ae e2,Ae fun h=>e2 h.1]
   ·rw[Ae e,Ae fun h=>e h.2]
  have hd:=bLp h5 h2 h1
  have hp:0<ent (ngS R c col top w1).M top col:=by
   rw[n1 top col h2 h1];split<;>omega
  have ntop:∀ t,t<col→ent (ngS R c col top w1).M top t=0:=fun t ht=>by
   rw[n1 top t h2 (by omega),a2' top t (Az _) h2 ht];split<;>rfl
  have nrow:∀ i t,i<top→t<c→ent (ngS R c col top w1).M i t=ent w.M i t:=fun i t hi ht=>by
   rw[n1 i t (by omega) ht,Ae (by omega),a1 i t hi (by omega) ht]
  have nlow:∀ r t,top<r→r<R→t≤col→ent (ngS R c col top w1).M r t=0:=fun r t k1 k2 k3=>by
   rw[n1 r t k2 (by omega),Ae (by omega)]
   by_cases e:t=col
   ·rw[e];exact a3 r k1 k2
   ·exact a2' r t (by omega) k2 (by omega)
  -- rows of w2
  have rtop:∀ t,t<c→ent w2.M top t=ent (ngS R c col top w1).M top t:=fun t ht=>by rw[hd top t h2 ht,Ae (by omega)]
  have rup:∀ i t,i<top→t<col→ent w2.M i t=ent w.M i t:=fun i t hi ht=>by
   rw[hd i t (by omega) (by omega),Ag (by omega),ntop t ht,nrow i t hi (by omega)];simp
  have rcol:∀ i,i<top→ent w2.M i col=ent w.M i col%ent w2.M top col:=fun i hi=>by
   rw[rtop col h1,hd i col (by omega) h1,Ag (by omega),nrow i col hi h1]
   have:=Int.mul_ediv_add_emod (ent w.M i col) (ent (ngS R c col top w1).M top col)
   rw[BG]at this;omega
  have hp2:0<ent w2.M top col:=by rw[rtop col h1];exact hp
  refine ih (p:=fun i=>if i=top then col else p i) h1 (by omega) ⟨fun i j hij hj=>?_,fun i hi=>?_,fun i hi=>?_,fun i t hi ht=>?_,fun j i hj hi=>?_,fun r t k1 k2 k3=>?_⟩
  ·rw[Ae (show ¬i=top by omega)]
   split
   ·exact g.lt i (by omega)
   ·exact g.inc i j hij (by omega)
  ·show(if i=top then col else p i)<_
   split
   ·omega
   ·have:=g.lt i (by omega);omega
  ·show 0<ent w2.M i (if i=top then col else p i)
   split
   ·rename_i e;rw[e];exact hp2
   ·rw[rup i _ (by omega) (g.lt i (by omega))];exact g.pos i (by omega)
  ·replace ht:t<if i=top then col else p i:=ht
   split at ht
   ·rename_i e;rw[e,rtop t (by omega)];exact ntop t ht
   ·have:=g.lt i (by omega)
    rw[rup i t (by omega) (by omega)];exact g.bef i t (by omega) ht
  ·show 0≤ent w2.M j (if i=top then col else p i)∧ent w2.M j (if i=top then col else p i)<ent w2.M i (if i=top then col else p i)
   split
   ·rename_i e;rw[rcol j (by omega),e]
    exact⟨Int.emod_nonneg _ (by omega),Int.emod_lt_of_pos _ hp2⟩
   ·rw[rup j _ (by omega) (g.lt i (by omega)),rup i _ (by omega) (g.lt i (by omega))];exact g.red j i hj (by omega)
  ·rw[hd r t k2 (by omega),Ae (by omega)];exact nlow r t (by omega) k2 (by omega)
end
/-! Normal forms of one lattice -/
section
variable {R R' c k k':Nat} {M M':List (List Int)} {p p':Nat→Nat} {a x:Nat→Int}
theorem Hn.min(h:Hn R c c k M p)(hk:k≤R)(hx:∀ t,t<c→sgm R (fun j=>a j*ent M j t)=x t)(hne:∃ j,j<k∧a j≠0):∃ m,m<k∧a m≠0∧(∀ t,t<p m→x t=0)∧x (p m)=a m*ent M m (p m):=by
 have key:∀ n,n≤k→(∀ j,j<n→a j=0)∨∃ m,m<n∧a m≠0∧∀ j,j<m→a j=0:=by
  intro n
  induction n with
  |zero=>intro _;exact .inl fun j hj=>by omega
  |succ n ih =>
   intro hn
   rcases ih (by omega)with h1|⟨m,h1,h2,h3⟩
   ·by_cases e:a n=0
    ·refine .inl fun j hj=>?_
     by_cases e2:j=n
     ·rw[e2];exact e
     ·exact h1 j (by omega)
    ·exact .inr ⟨n,by omega,e,h1⟩
   ·exact .inr ⟨m,by omega,h2,h3⟩
 rcases key k (Az _)with h0|⟨m,h1,h2,h3⟩
 ·obtain⟨j,hj,hn⟩:=hne
  exact absurd (h0 j hj) hn
 ·have hm:=h.lt m h1
  refine⟨m,h1,h2,fun t ht=>?_,?_⟩
  ·rw[←hx t (by omega)]
   refine nI fun j hj=>?_
   by_cases e:j<m
   ·rw[h3 j e];simp
   ·by_cases e2:j<k
    ·rw[h.bef j t e2 (by
      by_cases e3:j=m
      ·rw[e3];exact ht
      ·have:=h.inc m j (by omega) e2;omega)];simp
    ·rw[h.low j t (by omega) hj (by omega)];simp
  ·rw[←hx _ hm]
   refine aPx (by omega) fun j hj hne=>?_
   by_cases e:j<m
   ·rw[h3 j e];simp
   ·by_cases e2:j<k
    ·rw[h.bef j _ e2 (h.inc m j (by omega) e2)];simp
    ·rw[h.low j _ (by omega) hj hm];simp
theorem Hn.lead(h:Hn R c c k M p)(hk:k≤R)(hx:∀ t,t<c→sgm R (fun j=>a j*ent M j t)=x t)(hne:∃ t,t<c∧x t≠0):∃ m,m<k∧a m≠0∧(∀ t,t<p m→x t=0)∧x (p m)=a m*ent M m (p m):=by
 refine h.min hk hx (Bb fun h0=>?_)
 obtain⟨t,ht,hn⟩:=hne
 refine hn ?_
 rw[←hx t ht]
 refine nI fun j hj=>?_
 by_cases e:j<k
 ·rw[show a j=0 from Bb fun e'=>h0 ⟨j,e,e'⟩];simp
 ·rw[h.low j t (by omega) hj ht];simp
def aEl(R c k':Nat)(M M':List (List Int)):Prop:=∀ i,i<k'→∃ a:Nat→Int,∀ t,t<c→sgm R (fun j=>a j*ent M j t)=ent M' i t
theorem aIx(h:Hn R c c k M p)(hk:k≤R)(h':Hn R' c c k' M' p')(s:aEl R c k' M M'){i:Nat}(hi:i<k'):∃ m,m<k∧p m=p' i∧∃ z,ent M' i (p' i)=z*ent M m (p m):=by
 obtain⟨a,ha⟩:=s i hi
 have hpos:=h'.pos i hi
 obtain⟨m,h1,h2,h4,h5⟩:=h.lead hk ha ⟨p' i,h'.lt i hi,by omega⟩
 have e:p m=p' i:=by
  rcases CU (p m) (p' i)with e|e|e
  ·have:=h'.bef i _ hi e
   rw[h5]at this
   rcases CI.1 this with e|e
   ·exact absurd e h2
   ·have:=h.pos m h1;omega
  ·exact e
  ·have:=h4 _ e;omega
 exact⟨m,h1,e,a m,by rw[←e];exact h5⟩
theorem bTq(hinc:∀ i j,i<j→j<k→p i<p j)(hinc':∀ i j,i<j→j<k'→p' i<p' j)(h1:∀ i,i<k→∃ m,m<k'∧p' m=p i)(h2:∀ i,i<k'→∃ m,m<k∧p m=p' i):∀ n i,i<n→(i<k↔i<k')∧(i<k→p i=p' i):=by
 intro n
 induction n with
 |zero=>intro i hi;omega
 |succ n ih =>
  intro i hi
  by_cases e:i=n
  rotate_left
  ·exact ih i (by omega)
  subst e
  have key:∀{q q':Nat→Nat} {l l':Nat},(∀ a b,a<b→b<l→q a<q b)→(∀ a b,a<b→b<l'→q' a<q' b)→(∀ a,a<i→(a<l↔a<l')∧(a<l→q a=q' a))→i<l→∀ m,m<l'→q' m=q i→i≤m:=by
   intro q q' l l' g1 g2 g3 g4 m g5 g6
   refine Nat.le_of_not_lt fun hm=>?_
   have e1:=g3 m hm
   have e2:=g1 m i hm g4
   rw[e1.2 (e1.1.2 g5)]at e2;omega
  have ih':∀ a,a<i→(a<k'↔a<k)∧(a<k'→p' a=p a):=fun a ha=>⟨(ih a ha).1.symm,fun h=>((ih a ha).2 ((ih a ha).1.2 h)).symm⟩
  have mono:∀{q:Nat→Nat} {l:Nat},(∀ a b,a<b→b<l→q a<q b)→∀{a b},a≤b→b<l→q a≤q b:=fun{q l} g a b h1 h2=>by
   by_cases e:a=b
   ·rw[e];exact Az _
   ·exact Nat.le_of_lt (g a b (by omega) h2)
  have iff:i<k↔i<k':=⟨fun h=>by
   obtain⟨m,m1,m2⟩:=h1 i h
   have:=key hinc hinc' ih h m m1 m2;omega,fun h=>by
   obtain⟨m,m1,m2⟩:=h2 i h
   have:=key hinc' hinc ih' h m m1 m2;omega⟩
  refine⟨iff,fun h=>?_⟩
  obtain⟨m,m1,m2⟩:=h1 i h
  obtain⟨n2,n3,n4⟩:=h2 i (iff.1 h)
  have a1:=mono hinc' (key hinc hinc' ih h m m1 m2) m1
  have a2:=mono hinc (key hinc' hinc ih' (iff.1 h) n2 n3 n4) n3
  omega
theorem aZa(h:Hn R c c k M p)(hk:k≤R)(h':Hn R' c c k' M' p')(hk':k'≤R')(s:aEl R c k' M M')(s':aEl R' c k M' M):k=k'∧∀ i t,i<k→t<c→ent M i t=ent M' i t:=by
 have q:=bTq h.inc h'.inc (fun i hi=>let ⟨m,a,b,_⟩:=aIx h' hk' h s' hi;⟨m,a,b⟩) (fun i hi=>let ⟨m,a,b,_⟩:=aIx h hk h' s hi;⟨m,a,b⟩)
 have ek:k=k':=by
  rcases CU k k' with e|e|e
  ·have:=(q (k+1) k (by omega)).1;omega
  ·exact e
  ·have:=(q (k'+1) k' (by omega)).1;omega
 subst ek
 have ep:∀ i,i<k→p i=p' i:=fun i hi=>(q (i+1) i (by omega)).2 hi
 have inj:∀{l:Nat} {u:Nat→Nat},(∀ a b,a<b→b<l→u a<u b)→∀{a b},a<l→b<l→u a=u b→a=b:=fun{l u} g a b h1 h2 h3=>by
  rcases CU a b with e|e|e
  ·have:=g a b e h2;omega
  ·exact e
  ·have:=g b a e h1;omega
 have div:∀ i,i<k→ent M i (p i)=ent M' i (p i):=fun i hi=>by
  obtain⟨m,m1,m2,z,hz⟩:=aIx h hk h' s hi
  obtain⟨n,n1,n2,y,hy⟩:=aIx h' hk' h s' hi
  have e1:m=i:=inj h.inc m1 hi (by rw[m2,ep i hi])
  have e2:n=i:=inj h'.inc n1 hi (by rw[n2,ep i hi])
  subst e1;subst e2
  rw[←ep n hi]at hz hy
  have p1:=h.pos n hi
  have p2:0<ent M' n (p n):=by rw[ep n hi];exact h'.pos n hi
  exact Int.dvd_antisymm (by omega) (by omega) ⟨z,by rw[hz,BG]⟩ ⟨y,by rw[hy,BG]⟩
 refine⟨rfl,fun i t hi ht=>?_⟩
 refine Bb fun hne=>?_
 obtain⟨b,hb⟩:=s i hi
 have hd:∀ t,t<c→sgm R (fun j=>((if j=i then 1 else 0)-b j)*ent M j t)=ent M i t-ent M' i t:=fun t ht=>by
  rw[←hb t ht,show ent M i t=sgm R (fun j=>(if j=i then 1 else 0)*ent M j t)from(lW (by omega) fun j=>ent M j t).symm]
  have h0:sgm R (fun j=>(if j=i then 1 else 0)*ent M j t)=sgm R (fun j=>((if j=i then 1 else 0)-b j)*ent M j t)+sgm R (fun j=>b j*ent M j t):=by
   rw[←qA];exact cF fun j _=>by rw[Int.sub_mul];omega
  omega
 obtain⟨m,h1,h2,_,h5⟩:=h.lead hk hd ⟨t,ht,by omega⟩
 have hp:=h.pos m h1
 rcases CU m i with e|e|e
 ·rw[h.bef i _ hi (h.inc m i e hi),h'.bef i _ hi (by rw[ep m h1];exact h'.inc m i e hi)]at h5
  rcases CI.1 h5.symm with e|e
  ·exact h2 e
  ·omega
 ·subst e
  rw[div m h1,Int.sub_self]at h5
  rw[div m h1]at hp
  rcases CI.1 h5.symm with e|e
  ·exact h2 e
  ·omega
 ·obtain⟨r1,r2⟩:=h.red i m e h1
  obtain⟨r3,r4⟩:=h'.red i m e h1
  rw[←ep m h1,←div m h1]at r4
  rw[←ep m h1]at r3
  have h6:(((if m=i then(1:Int)else 0)-b m)*ent M m (p m)).natAbs<(ent M m (p m)).natAbs:=by rw[←h5];omega
  rw[BJ]at h6
  have h7:=AX (ent M m (p m)).natAbs (show 1≤((if m=i then(1:Int)else 0)-b m).natAbs by omega)
  omega
end
end Go.Am
end

section
set_option linter.unusedVariables false
set_option linter.unusedSimpArgs false
open Go Go.Am Go.Proofs
namespace Go.Am
theorem aTo(n:Nat)(x f g:Nat→Int)(a b:Int):sgm n (fun i=>x i*(a*f i-g i*b))=a*sgm n (fun i=>x i*f i)-sgm n (fun i=>x i*g i)*b:=by
 induction n with
 |zero=>simp[sgm]
 |succ n ih=>simp only[sgm];rw[ih];grind
theorem bBo(n:Nat)(x y f:Nat→Int)(a b:Int):sgm n (fun i=>(a*x i-b*y i)*f i)=a*sgm n (fun i=>x i*f i)-b*sgm n (fun i=>y i*f i):=by
 induction n with
 |zero=>simp[sgm]
 |succ n ih=>simp only[sgm];rw[ih];grind
theorem bKy{n B:Nat}{f:Nat→Int}(h:∀ j,j<n→(f j).natAbs≤B):(sgm n f).natAbs≤n*B:=by
 induction n with
 |zero=>simp[sgm]
 |succ n ih =>
  have h1:=ih fun j hj=>h j (by omega)
  have h2:=h n (by omega)
  rw[CT];simp only[sgm];omega
theorem yH(k:Nat)(f:Nat→Int):∀ n,sgm (k+n) f=sgm k f+sgm n (fun i=>f (k+i))
 |0=>by simp[sgm]
 |n+1=>by rw[←Nat.add_assoc];simp only[sgm];rw[yH k f n];omega
theorem xQ{x y:Int}{a b:Nat}(hx:x.natAbs≤2^a)(hy:y.natAbs≤2^b):(x*y).natAbs≤2^(a+b):=by
 rw[BJ,CC];exact B9 hx hy
def gG:Nat→Nat→Nat
 |0,_=>0
 |n+1,b=>gG n (2*b+1)+b+n
theorem aIy:∀{n b b':Nat},b≤b'→gG n b≤gG n b'
 |0,_,_,_=>Az _
 |n+1,b,b',h=>by
  have:=aIy (n:=n) (b:=2*b+1) (b':=2*b'+1) (by omega)
  simp only[gG];omega
theorem aNy{n m b:Nat}(h:n≤m):gG n b≤gG m b:=by
 induction m with
 |zero=>rw[show n=0 by omega];exact Az _
 |succ m ih =>
  by_cases e:n=m+1
  ·rw[e];exact Az _
  ·have h1:=ih (by omega)
   have h2:=aIy (n:=m) (b:=b) (b':=2*b+1) (by omega)
   show _≤gG m (2*b+1)+b+m;omega
theorem yT(c:Nat):∀(n b:Nat) (u:Nat→Nat→Int) (S:Nat→Prop),(∀ i t,i<n→t<c→(u i t).natAbs≤2^b) →
  (∃ x:Nat→Int,(∃ i,i<n∧x i≠0)∧(∀ i,i<n→¬S i→x i=0)∧∀ t,t<c→sgm n (fun i=>x i*u i t)=0) →
  ∃ y:Nat→Int,(∃ i,i<n∧y i≠0)∧(∀ i,i<n→¬S i→y i=0)∧(∀ t,t<c→sgm n (fun i=>y i*u i t)=0)∧∀ i,i<n→(y i).natAbs≤2^gG n b
 |0,b,u,S,_,⟨x,⟨i,hi,_⟩,_⟩=>absurd hi (Nat.not_lt_zero _)
 |n+1,b,u,S,hu,⟨x,⟨i0,hi0,hx0⟩,hxS,hx⟩=>by
  by_cases hS:S n
  rotate_left
  ·have xn:x n=0:=hxS n (by omega) hS
   obtain⟨y,⟨i1,hi1,hy1⟩,hyS,hy,hyb⟩:=yT c n b u S (fun i t hi ht=>hu i t (by omega) ht) ⟨x,⟨i0,by
    by_cases e:i0=n
    ·rw[e]at hx0;exact absurd xn hx0
    ·omega,hx0⟩,fun i hi=>hxS i (by omega),fun t ht=>by have:=hx t ht;simp only[sgm]at this;rw[xn]at this;simpa using this⟩
   refine⟨fun i=>if i=n then 0 else y i,⟨i1,by omega,by show(if i1=n then 0 else y i1)≠0;rw[Ae (by omega)];exact hy1⟩,fun i hi hs=>?_,fun t ht=>?_,fun i hi=>?_⟩
   ·show(if i=n then 0 else y i)=0
    split
    ·rfl
    ·exact hyS i (by omega) hs
   ·simp only[sgm,BN]
    rw[cF fun i hi=>by rw[Ae (by omega:¬i=n)],hy t ht];simp
   ·show(if i=n then 0 else y i).natAbs≤_
    split
    ·exact An _
    ·refine Ap (hyb i (by omega)) (BI (by omega) ?_)
     have:=aIy (n:=n) (b:=b) (b':=2*b+1) (by omega)
     simp only[gG];omega
  ·by_cases hz:∃ t,t<c∧u n t≠0
   rotate_left
   ·refine⟨fun i=>if i=n then 1 else 0,⟨n,by omega,by simp⟩,fun i hi hs=>?_,fun t ht=>?_,fun i hi=>?_⟩
    ·show(if i=n then(1:Int)else 0)=0
     rw[Ae fun(e:i=n)=>hs (e ▸ hS)]
    ·refine(lW (by omega) fun i=>u i t).trans ?_
     exact Bb fun e=>hz ⟨t,ht,e⟩
    ·have:1≤2^gG (n+1) b:=Nat.one_le_two_pow
     show(if i=n then(1:Int)else 0).natAbs≤_
     split<;>simp<;>omega
   ·obtain⟨t0,ht0,hn0⟩:=hz
    have hxn:∃ i,i<n∧x i≠0:=Bb fun h0=>by
     have hz:∀ i,i<n→x i=0:=fun i hi=>Bb fun e=>h0 ⟨i,hi,e⟩
     have:=hx t0 ht0
     simp only[sgm]at this
     rw[nI fun i hi=>by rw[hz i hi];simp,Ci]at this
     rcases CI.1 this with e|e
     ·by_cases e2:i0=n
      ·rw[e2]at hx0;exact hx0 e
      ·exact hx0 (hz i0 (by omega))
     ·exact hn0 e
    obtain⟨y,⟨i1,hi1,hy1⟩,hyS,hy,hyb⟩:=yT c n (2*b+1) (fun i t=>u n t0*u i t-u i t0*u n t) S (fun i t hi ht=>by
     have h1:=xQ (hu n t0 (by omega) ht0) (hu i t (by omega) ht)
     have h2:=xQ (hu i t0 (by omega) ht0) (hu n t (by omega) ht)
     have h3:2^(2*b+1)=2^(b+b)+2^(b+b):=by rw[Nat.pow_succ,Nat.mul_two,show 2*b=b+b by omega]
     show(u n t0*u i t-u i t0*u n t).natAbs≤_
     omega) ⟨x,hxn,fun i hi=>hxS i (by omega),fun t ht=>by
      have h1:=hx t ht
      have h2:=hx t0 ht0
      simp only[sgm]at h1 h2
      rw[aTo n x (fun i=>u i t) (fun i=>u i t0),show sgm n (fun i=>x i*u i t)=- (x n*u n t)by omega,show sgm n (fun i=>x i*u i t0)=- (x n*u n t0)by omega]
      grind⟩
    obtain⟨g,hg⟩:∃ g,gG n (2*b+1)=g:=⟨_,rfl⟩
    have hg':gG (n+1) b=g+b+n:=by simp only[gG];rw[hg]
    rw[hg]at hyb
    rw[hg']
    have hy0:∀ j,j<n→(y j*u j t0).natAbs≤2^(g+b):=fun j hj=>xQ (hyb j hj) (hu j t0 (by omega) ht0)
    refine⟨fun i=>if i=n then-sgm n (fun i=>y i*u i t0)else u n t0*y i,⟨i1,by omega,?_⟩,fun i hi hs=>?_,fun t ht=>?_,fun i hi=>?_⟩
    ·show(if i1=n then _ else u n t0*y i1)≠0
     rw[Ae (by omega)]
     exact fun e=>(CI.1 e).elim hn0 hy1
    ·show(if i=n then _ else u n t0*y i)=0
     rw[Ae fun(e:i=n)=>hs (e ▸ hS),hyS i (by
      by_cases e:i=n
      ·exact absurd (e ▸ hS) hs
      ·omega) hs,Dk]
    ·have h1:=hy t ht
     rw[aTo n y (fun i=>u i t) (fun i=>u i t0)]at h1
     simp only[sgm,BN]
     rw[cF (g:=fun i=>u n t0*(y i*u i t)) fun i hi=>by rw[Ae (by omega:¬i=n),CM],tC,C5]
     omega
    ·show(if i=n then _ else u n t0*y i).natAbs≤_
     split
     ·rw[Int.natAbs_neg]
      refine Ap (bKy hy0) ?_
      rw[CC _ (g+b),BU]
      exact BE _ (Nat.le_of_lt Nat.lt_two_pow_self)
     ·refine Ap (xQ (hu n t0 (by omega) ht0) (hyb i (by omega))) (BI (by omega) (by omega))
structure bJk(R c Q k:Nat)(A M:List (List Int))(p:Nat→Nat):Prop where
 hn:Hn Q R R k M p
 le:k≤Q
 ker:∀ i,i<k→∀ t,t<c→sgm R (fun j=>ent M i j*ent A j t)=0
 all:∀ x:Nat→Int,(∀ t,t<c→sgm R (fun j=>x j*ent A j t)=0)→∃ a:Nat→Int,∀ j,j<R→sgm Q (fun i=>a i*ent M i j)=x j
section
variable {R c Q k b:Nat} {A M:List (List Int)} {p:Nat→Nat}
def InK(R c:Nat)(A:List (List Int))(x:Nat→Int):Prop:=∀ t,t<c→sgm R (fun j=>x j*ent A j t)=0
theorem InK.lin{x y:Nat→Int}(hx:InK R c A x)(hy:InK R c A y)(a b:Int):InK R c A (fun j=>a*x j-b*y j):=fun t ht=>by
 rw[bBo,hx t ht,hy t ht];simp
theorem Hn.inj(h:Hn Q c R k M p){i j:Nat}(hi:i<k)(hj:j<k)(e:p i=p j):i=j:=by
 rcases CU i j with h1|h1|h1
 ·have:=h.inc i j h1 hj;omega
 ·exact h1
 ·have:=h.inc j i h1 hi;omega
theorem aUc(h:bJk R c Q k A M p){i:Nat}(hi:i<k):∀ n,i+1+n≤k→∃ x:Nat→Int,InK R c A x∧x (p i)≠0∧∀ m,m<i+1+n→m≠i→x (p m)=0
 |0,_=>⟨fun j=>ent M i j,h.ker i hi,by have:=h.hn.pos i hi;show ent M i (p i)≠0;omega,fun m hm hne=>h.hn.bef i _ hi (h.hn.inc m i (by omega) hi)⟩
 |n+1,hn=>by
  obtain⟨x,h1,h2,h3⟩:=aUc h hi n (by omega)
  have hm:i+1+n<k:=by omega
  have h0:∀ m,m<i+1+n→ent M (i+1+n) (p m)=0:=fun m hm'=>h.hn.bef _ _ hm (h.hn.inc m _ hm' hm)
  refine⟨fun j=>ent M (i+1+n) (p (i+1+n))*x j-x (p (i+1+n))*ent M (i+1+n) j,h1.lin (h.ker _ hm) _ _,?_,fun m hm' hne=>?_⟩
  ·show ent M (i+1+n) (p (i+1+n))*x (p i)-_*ent M (i+1+n) (p i)≠0
   rw[h0 i (by omega)]
   intro e
   have hp:=h.hn.pos _ hm
   have:ent M (i+1+n) (p (i+1+n))*x (p i)=0:=by simpa using e
   rcases CI.1 this with e|e
   ·omega
   ·exact h2 e
  ·show ent M (i+1+n) (p (i+1+n))*x (p m)-x (p (i+1+n))*ent M (i+1+n) (p m)=0
   by_cases e:m=i+1+n
   ·rw[e,BG];omega
   ·rw[h0 m (by omega),h3 m (by omega) hne];simp
theorem aFy(h:bJk R c Q k A M p)(hb:Be b A){i:Nat}(hi:i<k):∃ w:Nat→Int,InK R c A w∧w (p i)≠0∧(∀ m,m<k→m≠i→w (p m)=0)∧(∀ j,j<R→(w j).natAbs≤2^gG R b)∧(ent M i (p i)).natAbs≤2^gG R b:=by
 obtain⟨x,x1,x2,x3⟩:=aUc h hi (k-i-1) (by omega)
 obtain⟨w,⟨j0,hj0,hw0⟩,w2,w3,w4⟩:=yT c R b (fun j t=>ent A j t) (fun j=>j=p i∨∀ m,m<k→p m≠j) (fun j t _ _=>hb j t) ⟨x,⟨p i,h.hn.lt i hi,x2⟩,fun j hj hs=>by
  have h1:j≠p i:=fun e=>hs (.inl e)
  obtain⟨m,hm,e⟩:∃ m,m<k∧p m=j:=Bb fun h0=>hs (.inr fun m hm e=>h0 ⟨m,hm,e⟩)
  rw[←e];exact x3 m (by omega) fun e2=>h1 (by rw[←e,e2]),x1⟩
 obtain⟨a,ha⟩:=h.all w w3
 obtain⟨m,m1,m2,_,m4⟩:=h.hn.lead h.le ha ⟨j0,hj0,hw0⟩
 have hp:=h.hn.pos m m1
 have hne:w (p m)≠0:=by
  rw[m4];intro e
  rcases CI.1 e with e|e
  ·exact m2 e
  ·omega
 have em:m=i:=by
  refine h.hn.inj m1 hi (Bb fun e=>hne (w2 _ (h.hn.lt m m1) fun s=>?_))
  rcases s with s|s
  ·exact e s
  ·exact s m m1 rfl
 subst em
 refine⟨w,w3,hne,fun n hn hne=>w2 _ (h.hn.lt n hn) fun s=>?_,w4,?_⟩
 ·rcases s with s|s
  ·exact hne (h.hn.inj hn m1 s)
  ·exact s n hn rfl
 ·refine Ap ?_ (w4 _ (h.hn.lt m m1))
  rw[m4,BJ]
  have:=AX (ent M m (p m)).natAbs (show 1≤(a m).natAbs by omega)
  omega
theorem aGx(h:bJk R c Q k A M p)(hb:Be b A):∀(m:Nat) (y:Nat→Int) (B:Nat),m≤k→InK R c A y→(∀ j,j<k→m≤j→y (p j)=0)→(∀ j,j<m→(y (p j)).natAbs≤B)→∀ q,q<R→(∀ j,j<k→p j≠q)→(y q).natAbs≤m*(B*2^gG R b)
 |0,y,B,_,hy,h0,_,q,hq,_=>by
  refine Bb fun hne=>?_
  obtain⟨a,ha⟩:=h.all y hy
  obtain⟨m,m1,m2,_,m4⟩:=h.hn.lead h.le ha ⟨q,hq,by intro e;rw[e]at hne;simp at hne⟩
  rw[h0 m m1 (by omega)]at m4
  have hp:=h.hn.pos m m1
  rcases CI.1 m4.symm with e|e
  ·exact m2 e
  ·omega
 |m+1,y,B,hm,hy,h0,h1,q,hq,hnp=>by
  obtain⟨w,w1,w2,w3,w4,_⟩:=aFy h hb (show m<k by omega)
  have ih:=aGx h hb m (fun j=>w (p m)*y j-y (p m)*w j) ((w (p m)).natAbs*B) (by omega) (hy.lin w1 _ _) (fun j hj hmj=>by
   show w (p m)*y (p j)-y (p m)*w (p j)=0
   by_cases e:j=m
   ·rw[e,BG];omega
   ·rw[h0 j hj (by omega),w3 j hj e];simp) (fun j hj=>by
   show(w (p m)*y (p j)-y (p m)*w (p j)).natAbs≤_
   rw[w3 j (by omega) (by omega),Dk,Int.sub_zero,BJ]
   exact BE _ (h1 j (by omega))) q hq hnp
  have h2:=B9 (h1 m (by omega)) (w4 q hq)
  rw[←BJ]at h2
  have ih':(w (p m)*y q-y (p m)*w q).natAbs≤(w (p m)).natAbs*(m*(B*2^gG R b)):=by
   refine Ap ih (Nat.le_of_eq ?_)
   rw[BF,Nat.mul_left_comm]
  have h3:(w (p m)*y q).natAbs≤(w (p m)).natAbs*(m*(B*2^gG R b))+B*2^gG R b:=by omega
  have h4:1*(B*2^gG R b)≤(w (p m)).natAbs*(B*2^gG R b):=AX _ (Int.natAbs_pos.2 w2)
  rw[BJ]at h3
  have h5:0<(w (p m)).natAbs:=Int.natAbs_pos.2 w2
  refine Nat.le_of_mul_le_mul_left (c:=(w (p m)).natAbs) ?_ h5
  rw[CT,Nat.mul_add];omega
theorem aYt(h:bJk R c Q k A M p)(hb:Be b A)(hk:k≤16){i q:Nat}(hi:i<k)(hq:q<R):(ent M i q).natAbs≤2^(2*gG R b+4):=by
 have hW:∀ j,j<k→(ent M j (p j)).natAbs≤2^gG R b:=fun j hj=>let ⟨_,_,_,_,_,e⟩:=aFy h hb hj;e
 have hpv:∀ j,j<k→(ent M i (p j)).natAbs≤2^gG R b:=fun j hj=>by
  rcases CU j i with e|e|e
  ·rw[h.hn.bef i _ hi (h.hn.inc j i e hi)];exact An _
  ·rw[e];exact hW i hi
  ·have:=hW j hj
   obtain⟨r1,r2⟩:=h.hn.red i j e hj
   omega
 have e1:2^(2*gG R b+4)=16*(2^gG R b*2^gG R b):=by rw[←CC,CC,BU,show 2*gG R b=gG R b+gG R b by omega]
 by_cases e:∃ j,j<k∧p j=q
 ·obtain⟨j,hj,rfl⟩:=e
  exact Ap (hpv j hj) (BI (by omega) (by omega))
 ·refine Ap (aGx h hb k (fun j=>ent M i j) _ (Az _) (h.ker i hi) (fun j h1 h2=>by omega) hpv q hq fun j hj e2=>e ⟨j,hj,e2⟩) ?_
  rw[e1];exact AX _ hk
end
theorem Hn.start(R c:Nat)(M:List (List Int)):Hn R c 0 0 M fun _=>0 :=
 ⟨fun i j _ h=>by omega,fun i h=>by omega,fun i h=>by omega,fun i t h=>by omega,fun j i _ h=>by omega,fun r t _ _ h=>by omega⟩
theorem Hn.rank{R c k:Nat}{M:List (List Int)}{p:Nat→Nat}(h:Hn R c c k M p)(hk:k≤R)(hM:Sh R c M):rkR M=k :=
 aAa hM hk (fun r t h1 h2 h3=>h.low r t h1 h2 h3) fun r hr=>⟨p r,h.lt r hr,by have:=h.pos r hr;omega⟩
theorem bOa{R t:Nat}{x:Nat→Int}(ht:t<R):sgm R (fun j=>x j*ent (idM R) j t)=x t:=by
 rw[cF (g:=fun j=>(if j=t then 1 else 0)*x j) fun j hj=>by rw[qM hj ht,BG],lW ht]
theorem wQ{R c e:Nat}{A:List (List Int)}(hA:Sh R c A)(hR:R≤15)(hc:c≤1000)(hB:Be e A)(he:dbl (tr R) e<1099511627776):∃ L,aHm R c (2*gG R e+4) A L:=by
 obtain⟨wf,k,e',f1,f2,f3,f4,f5,f6,f7,f8⟩:=aJa hA hR hB he
 have hB2:Sh (R-k) R (wf.U.drop k):=⟨by rw[CJ,f4.u.len],fun v hv=>f4.u.row v (List.mem_of_mem_drop hv)⟩
 have hbe:Be e' (wf.U.drop k):=fun r t=>by rw[aDi];exact f5.u _ _
 obtain⟨wg,q,e2,g1,g2,g3,g4,g5,g6,g7,g8⟩:=aJa hB2 (by omega) hbe (Bt f6 he)
 have he1:e<1099511627776:=Bt (qR _ _) he
 have he2:e'<1099511627776:=Bt (Ap (qR _ _) f6) he
 have hS:=aLr hA hR hc (hB.mem he1) f1 f4.m f4.u (by rw[f2];exact f3) rfl (by rw[f2];exact hbe.mem he2) (by rw[f2];exact g1) (by rw[f2];exact g4.m)
 rw[g2]at hS
 have hlen:(wg.M.take q).length=q:=by rw[AM,g4.m.len];omega
 obtain⟨k1,p1,n1,n2⟩:=bGd f1 (An _) (An _) (Hn.start _ _ _)
 obtain⟨k2,p2,n3,n4⟩:=bGd g1 (An _) (An _) (Hn.start _ _ _)
 obtain rfl:k1=k:=by rw[←n2.rank n1 f4.m];exact f2
 obtain rfl:k2=q:=by rw[←n4.rank n3 g4.m];exact g2
 have hker:∀ i,i<R-k1→∀ t,t<c→sgm R (fun j=>ent wg.M i j*ent A j t)=0:=fun i hi t ht=>by
  rw[cF (g:=fun j=>sgm (R-k1) fun i2=>ent wg.U i i2*(ent wf.U (k1+i2) j*ent A j t)) fun j hj=>by
   rw[←g7 i j hi hj,←aLd];exact cF fun i2 _=>by rw[aDi,CM],aLe]
  refine nI fun i2 h2=>?_
  rw[tC,f7 (k1+i2) t (by omega) ht,f8 (k1+i2) t (by omega) (by omega) ht,Dk]
 have hK:bJk R c (R-k1) k2 A wg.M p2:=⟨n4,n3,fun i hi=>hker i (by omega),fun x hx=>by
  obtain⟨a,a1,a2⟩:=InP.fo f1 (x:=fun _=>0) (y:=x) ⟨x,hx,fun t ht=>bOa ht⟩
  have a0:∀ j,j<k1→a j=0:=fun j hj=>Bb fun hne=>by
   obtain⟨m,m1,m2,_,m4⟩:=n2.min n1 a1 ⟨j,hj,hne⟩
   have hp:=n2.pos m m1
   rcases CI.1 m4.symm with e|e
   ·exact m2 e
   ·omega
  obtain⟨a',a1',_⟩:=InP.fo g1 (x:=x) (y:=fun t=>sgm (R-k1) fun j=>a (k1+j)*ent (idM (R-k1)) j t) ⟨fun i=>a (k1+i),fun t ht=>by
   rw[←a2 t ht]
   have h1:=yH k1 (fun j=>a j*ent wf.U j t) (R-k1)
   rw[show k1+(R-k1)=R by omega,show sgm k1 (fun j=>a j*ent wf.U j t)=0 from nI fun j hj=>by rw[a0 j hj];simp]at h1
   rw[h1,Ci]
   exact cF fun j _=>by show _*ent (C1 k1 wf.U) j t=_;rw[aDi],fun t ht=>rfl⟩
  exact⟨a',a1'⟩⟩
 have hgd:∀{v:List Int} {r:Nat},r<k2→(h:r<(wg.M.take k2).length)→(wg.M.take k2)[r]=v→∀ j,v.getD j 0=ent wg.M r j:=fun{v r} hr h e j=>by
  rw[D5]at e
  unfold ent
  rw[Ac (l:=wg.M),Aa (by rw[g4.m.len];omega),Ba,e]
 refine⟨wg.M.take k2,by rw[hlen];exact hS,by omega,fun v hv=>g4.m.row v (Bs hv),fun v hv z hz=>?_,fun v hv t ht=>?_⟩
 ·obtain⟨i,hi,e1⟩:=Bi hv
  obtain⟨s,hs,e2'⟩:=wJ hz
  have hs':s<R:=by rw[g4.m.row v (Bs hv)]at hs;exact hs
  rw[←e2',hgd (by omega) hi e1]
  exact aYt hK hB (by omega) (by omega) hs'
 ·obtain⟨r,hr,e1⟩:=Bi hv
  rw[cF fun j _=>by rw[hgd (by omega) hr e1 j]]
  exact hker r (by omega) t ht
end Go.Am
end

section
set_option linter.unusedVariables false
set_option linter.unusedSimpArgs false
open List (map_map mapM_map)
open Go Go.Am Go.Proofs
namespace Go.Am
def eD(d:Int):Nat:=if d=1 then 4 else if d=2 then 1024 else if d=3 then 65536 else 0
structure Gr(i:Nat)(c:List Cl):Prop where
 v:CxV c
 len:c.length≤7+i
 n0:(bR c 0).length≤3+i
 n1:(bR c 1).length≤3+i
 n2:(bR c 2).length≤2+i
 n3:(bR c 3).length≤1+i
 ids:∀ x∈c,1≤x.id∧x.id≤9+2*(i:Int)
 bl:∀ x∈c,x.b.length≤48
 eb:∀ x∈c,Bnd (2^eD x.dim) x.b
/-! The spaces -/
def grB(c:List Cl):Prop:=(c.Pairwise fun x y=>x.id<y.id)∧(∀ x∈c,0≤x.dim∧x.dim≤3)∧(∀ x∈c,x.b.Pairwise (fun x y=>x.1<y.1)∧∀ y∈x.b,y.2≠0)∧(∀ x∈c,∀ f∈x.b,∃ y∈c,y.id=f.1∧y.dim=x.dim-1)∧(∀ x∈c,bV [] (bdL c x.b)=[])
 ∧ c.length≤7∧(bR c 0).length≤3∧(bR c 1).length≤3∧(bR c 2).length≤2∧(bR c 3).length≤1∧(∀ x∈c,1≤x.id∧x.id≤9)∧(∀ x∈c,x.b.length≤48)∧∀ x∈c,x.b=[]∨(1≤x.dim∧∀ y∈x.b,y.2.natAbs≤16)
instance (c : List Cl) : Decidable (grB c) := by unfold grB;infer_instance
theorem bXd{d:Int}(h1:1≤d)(h3:d≤3):4≤eD d:=by
 unfold eD
 split
 ·omega
 ·split
  ·omega
  ·rw[Ag (by omega)];omega
theorem bWv{c:List Cl}(h:grB c):Gr 0 c:=by
 obtain⟨h1,h2,h3,h4,h5,h6,h7,h8,h9,h9',h10,h11,h12⟩:=h
 refine⟨⟨h1,h2,h3,h4,fun x hx n=>?_⟩,h6,h7,h8,h9,h9',fun x hx=>by have:=h10 x hx;omega,h11,fun x hx=>?_⟩
 ·rw[←aRv]
  have:=(cO (bdL c x.b) [] Val.nil).2 n
  rw[h5 x hx,gN]at this;omega
 ·rcases h12 x hx with h|⟨h,h'⟩
  ·rw[h];exact Bnd.nil _
  ·exact Bnd.mono (M:=16) h' (Ap (show 16≤2^4 by decide) (uJ (bXd h (h2 x hx).2)))
set_option maxRecDepth 100000 in
theorem bRu(j:Nat)(h:j<14):Gr 0 (spc j):=by
 refine bWv ?_
 revert j
 decide
/-! One more cell -/
theorem aCs{c:List Cl}{E:Nat}{cyc:List (List (Int×Int))}{xs:List Int}{S:Int→Prop}{W:Int→Int→Int}(hc:∀ y∈cyc,Val y∧Bnd (2^E) y∧(∀ f∈y,S f.1)∧∀ n,bK (W n) y=0) :
  ∀ i,i≤cyc.length→Val (gB cyc xs i)∧Bnd (i*(2^2*2^E)) (gB cyc xs i)∧(∀ f∈gB cyc xs i,S f.1)∧∀ n,bK (W n) (gB cyc xs i)=0
 |0,_=>⟨Val.nil,Bnd.nil _,(fun f hf=>absurd hf EG),fun n=>rfl⟩
 |i+1,hi=>by
  obtain⟨h1,h2,h3,h4⟩:=aCs (c:=c) (xs:=xs) hc i (by omega)
  have hm:cyc.getD i []∈cyc:=by rw[Ac,Aa (by omega)];exact Ak _
  obtain⟨y1,y2,y3,y4⟩:=hc _ hm
  refine⟨(aAf h1 y1 _).1,?_,aGq h1 y1 h3 y3,fun n=>?_⟩
  ·rw[CT]
   exact bEj h1 y1 h2 y2 (vM _).1
  ·show bK (W n) (bV (gB cyc xs i) (mulR _ (cyc.getD i [])))=0
   rw[lK,nF,h4,y4];simp
theorem bTs{c:List Cl}{x0:Int}(h:Inc c):∀ x∈c,x.id<gId c x0:=fun x hx=>by
 unfold gId
 cases e:c.getLast? with
 |none=>rw[List.getLast?_eq_none_iff]at e;rw[e]at hx;cases hx
 |some y =>
  obtain⟨ys,hy⟩:=List.getLast?_eq_some_iff.1 e
  have:x.id≤y.id:=by
   rw[hy]at hx h
   rcases A9.1 hx with hx|hx
   ·exact Int.le_of_lt ((List.pairwise_append.1 h).2.2 x hx y (List.mem_singleton_self _))
   ·rw[AP.1 hx];exact Int.le_refl _
  simp only;omega
theorem bTr{c:List Cl}{x0 m:Int}(h:∀ x∈c,1≤x.id∧x.id≤m)(hm:0≤m):1≤gId c x0∧gId c x0≤m+2:=by
 unfold gId
 cases e:c.getLast? with
 |none=>simp only;omega
 |some y =>
  have:=h y (List.mem_of_getLast? e)
  simp only;omega
theorem grow{i E:Nat}{c:List Cl}{x0 x1 x2 x3:Int}{cyc:List (List (Int×Int))}(g:Gr i c)(hc:∀ y∈cyc,Val y∧Bnd (2^E) y∧(∀ f∈y,f.1∈bR c (nT x0-1))∧∀ n,bK (fun m=>cf n (bOf c m)) y=0)(hl:∀ y∈cyc,y.length≤16)
  (hE:cyc=[]∨E+4≤eD (nT x0)):Gr (i+1) (grown c x0 x1 x2 x3 cyc):=by
 obtain⟨b1,b2,b3,b4⟩:=aCs (c:=c) (xs:=[x0,x1,x2,x3]) hc (min 3 cyc.length) (by omega)
 have b5:(gB cyc [x0,x1,x2,x3] (min 3 cyc.length)).length≤48:=by
  have:=(bFz (e:=E) (xs:=[x0,x1,x2,x3]) (fun y hy=>(hc y hy).2.1) hl (min 3 cyc.length) (by omega) (by omega)).2
  omega
 have b6:Bnd (2^eD (nT x0)) (gB cyc [x0,x1,x2,x3] (min 3 cyc.length)):=by
  rcases hE with h|h
  ·subst h;exact Bnd.nil _
  ·refine b2.mono (Ap ?_ (uJ h))
   rw[mK,show E+4=2+(2+E)by omega]
   exact lP (Ap (show min 3 cyc.length≤3 by omega) (by decide))
 unfold grown
 generalize gB cyc [x0,x1,x2,x3] (min 3 cyc.length)=b at *
 have hgt:=bTs (x0:=x0) g.v.inc
 have hle:=bTr (x0:=x0) g.ids (by omega)
 have hd:0≤nT x0∧nT x0≤3:=by unfold nT;omega
 generalize gId c x0=id at *
 generalize nT x0=d at *
 have hmem:∀ n k,n∈bR c k→n≠id:=fun n k hn=>by
  obtain⟨y,hy,_,e⟩:=gA.1 hn
  have:=hgt y hy;omega
 have hall:∀(P:Cl→Prop),(∀ x∈c,P x)→P ⟨id,d,b⟩→∀ x∈c++[⟨id,d,b⟩],P x:=fun P h1 h2 x hx=>by
  rcases A9.1 hx with hx|hx
  ·exact h1 x hx
  ·rw[AP.1 hx];exact h2
 have hcnt:∀ k m,(bR c k).length≤m→(bR (c++[⟨id,d,b⟩]) k).length≤m+1:=fun k m h=>by
  rw[bFq,Al];split<;>simp<;>omega
 refine⟨⟨?_,hall _ g.v.dim hd,hall _ g.v.val b1,hall _ (fun x hx f hf=>?_) fun f hf=>?_,hall _ (fun x hx n=>?_) fun n=>?_⟩,?_,hcnt 0 _ g.n0,hcnt 1 _ g.n1,hcnt 2 _ g.n2,hcnt 3 _ g.n3,hall _ (fun x hx=>?_) ?_,hall _ g.bl b5,hall _ g.eb b6⟩
 ·refine List.pairwise_append.2 ⟨g.v.inc,DN _ _,fun x hx y hy=>?_⟩
  rw[AP.1 hy];exact hgt x hx
 ·obtain⟨y,hy,e⟩:=g.v.face x hx f hf
  exact⟨y,EN _ hy,e⟩
 ·obtain⟨y,hy,e1,e2⟩:=gA.1 (b3 f hf)
  exact⟨y,EN _ hy,e2,e1⟩
 ·rw[dQ fun f hf=>?_]
  ·exact g.v.cyc x hx n
  ·obtain⟨y,hy,e,_⟩:=g.v.face x hx f hf
   rw[aWa]
   have:=hgt y hy
   show f.1≠id;omega
 ·rw[dQ fun f hf=>?_]
  ·exact b4 n
  ·rw[aWa];exact hmem _ _ (b3 f hf)
 ·rw[Al];have:=g.len;simp;omega
 ·have:=g.ids x hx;omega
 ·show 1≤id∧id≤_;omega
/-! The cycles -/
theorem tr6:∀ R,R≤6→tr R≤21:=by
 intro R h
 have:∀ R,R<7→tr R≤21:=by decide
 exact this R (by omega)
theorem tr5:∀ R,R≤5→tr R≤15:=by
 intro R h
 have:∀ R,R<6→tr R≤15:=by decide
 exact this R (by omega)
theorem bGz{E:Nat}{c:List Cl}{k:Int}{L:List (List Int)}(hv:CxV c)(hL:aHm (bR c k).length (bR c (k-1)).length E (mF c k) L) :
  ∀ y∈L.map fun v=>(chX c k v).1,(Val y∧Bnd (2^E) y∧(∀ f∈y,f.1∈bR c k)∧∀ n,bK (fun m=>cf n (bOf c m)) y=0)∧y.length≤(bR c k).length:=fun y hy=>by
 obtain⟨v,hvL,rfl⟩:=AE.1 hy
 have hr:=hL.row v hvL
 have e:(chX c k v).1=bV [] ((bR c k).zip v):=by unfold chX;rw[Ag hr]
 rw[e]
 obtain⟨c1,c2,c3,c4,_⟩:=bHk (hv.inc.ids k) (hL.be v hvL)
 exact⟨⟨c1,c2,c3,hv.cycle hr (hL.ker v hvL)⟩,c4⟩
theorem bUd{i:Nat}{c:List Cl}(g:Gr i c)(hi:i≤3)(d:Int)(hd:0≤d∧d≤3):∃ cyc E,Spec Tryz.prog 38 [aF c,.i .i64 (d-1)] (gP cyc)∧(cyc=[]∨E+4≤eD d)∧E+20<4398046511104∧cyc.length≤100 ∧
  ∀ y∈cyc,(Val y∧Bnd (2^E) y∧(∀ f∈y,f.1∈bR c (d-1))∧∀ n,bK (fun m=>cf n (bOf c m)) y=0)∧y.length≤16:=by
 have hlen:=g.len
 have hbl:∀ x∈c,x.b.length≤1000000:=fun x hx=>Ap (g.bl x hx) (by decide)
 have fin:∀(k:Int) (E:Nat) L,0≤k→k≤2→(bR c k).length≤16→E+20<4398046511104→E+4≤eD (k+1)→aHm (bR c k).length (bR c (k-1)).length E (mF c k) L→∃ cyc E,Spec Tryz.prog 38 [aF c,.i .i64 k] (gP cyc)∧(cyc=[]∨E+4≤eD (k+1))∧E+20<4398046511104∧cyc.length≤100 ∧
   ∀ y∈cyc,(Val y∧Bnd (2^E) y∧(∀ f∈y,f.1∈bR c k)∧∀ n,bK (fun m=>cf n (bOf c m)) y=0)∧y.length≤16:=fun k E L h1 h2 h3 h4 h5 hL=>by
  have hc:=bGz g.v hL
  refine⟨_,E,aFs c k L (by omega) (by omega) hbl hL h4,.inr h5,h4,?_,fun y hy=>⟨(hc y hy).1,Ap (hc y hy).2 h3⟩⟩
  rw[AN]
  have:=hL.len;omega
 have hd':d=0∨d=1∨d=2∨d=3:=by omega
 rcases hd' with rfl|rfl|rfl|rfl
 ·exact⟨[],0,aQg c _ (by decide),.inl rfl,by decide,by simp,fun y hy=>by cases hy⟩
 ·have h0:(bR c (0-1)).length=0:=by
   rw[List.length_eq_zero_iff]
   refine List.eq_nil_iff_forall_not_mem.2 fun n hn=>?_
   obtain⟨x,hx,hdx,_⟩:=gA.1 hn
   have:=(g.v.dim x hx).1;omega
  have hs:=mZ c 0
  rw[h0]at hs
  have hl:=left_id hs (by have:=g.n0;omega)
  refine fin 0 0 _ (by decide) (by decide) (by have:=g.n0;omega) (by decide) (by decide) (by rw[h0];exact hl)
 ·have hb:Be 4 (mF c 1):=tN g.v.inc fun x hx hdx=>by have:=g.eb x hx;rw[hdx]at this;exact this
  have hn:=g.n1
  have h1:=jD (e:=4) (tr6 (bR c 1).length (by omega))
  have h2:=jQ 21 4
  rw[show 2^21*(4+4)=16777216 by decide]at h2
  obtain⟨L,hL⟩:=wQ (mZ c 1) (by omega) (by have:=fA c (1-1);omega) hb (by omega)
  have h3:=aNy (b:=4) (show(bR c 1).length≤6 by omega)
  rw[show gG 6 4=324 from rfl]at h3
  exact fin 1 _ L (by decide) (by decide) (by omega) (by omega) (by show _≤1024;omega) hL
 ·obtain⟨E2,hE2,hE3⟩:∃ E,E=eD 2∧E=1024:=⟨eD 2,rfl,rfl⟩
  have hb:Be E2 (mF c 2):=tN g.v.inc fun x hx hdx=>by have:=g.eb x hx;rw[hdx,←hE2]at this;exact this
  have hn:=g.n2
  have h1:=jD (e:=E2) (tr5 (bR c 2).length (by omega))
  have h2:=jQ 15 E2
  have h3:2^15*(E2+4)=33685504:=by rw[hE3]
  rw[h3]at h2
  obtain⟨L,hL⟩:=wQ (mZ c 2) (by omega) (by have:=fA c (2-1);omega) hb (by omega)
  have h4:=aNy (b:=E2) (show(bR c 2).length≤5 by omega)
  rw[show gG 5 E2=31780 by rw[hE3];rfl]at h4
  exact fin 2 _ L (by decide) (by decide) (by omega) (by omega) (by show _≤65536;omega) hL
/-! The draw -/
abbrev Q4:=Int×Int×Int×Int
def Q4.ok(q:Q4):Prop:=(-128≤q.1∧q.1≤127)∧(-128≤q.2.1∧q.2.1≤127)∧(-128≤q.2.2.1∧q.2.2.1≤127)∧(-128≤q.2.2.2∧q.2.2.2≤127)
def vD(q:Q4):List D:=[.i .i8 q.1,.i .i8 q.2.1,.i .i8 q.2.2.1,.i .i8 q.2.2.2]
def vC(s:Int)(l:List Q4):D:=.ag [.i .u8 s,.sl (l.map vD)]
theorem bFu{i:Nat}{c:List Cl}(g:Gr i c)(hi:i≤3)(q:Q4)(hq:q.ok):∃ c',Spec Tryz.prog 25 [aF c,.ag (vD q)] (aF c')∧Gr (i+1) c':=by
 obtain⟨x0,x1,x2,x3⟩:=q
 obtain⟨cyc,E,h1,h2,h3,h4,h5⟩:=bUd g hi (nT x0) (by unfold nT;omega)
 have hlen:=g.len
 exact⟨_,bCo (e:=E) c x0 x1 x2 x3 cyc hq.1 hq.2.1 hq.2.2.1 hq.2.2.2 (by omega) (fun y hy=>by have:=g.ids y hy;omega) h1 h4 (fun y hy=>(h5 y hy).1.2.1) (fun y hy=>(h5 y hy).2) h3,
  grow g (fun y hy=>(h5 y hy).1) (fun y hy=>(h5 y hy).2) h2⟩
inductive MkR:List Q4→List Cl→List Cl→Prop
 |nil (c:List Cl):MkR [] c c
 |cons (q:Q4) (l:List Q4) (c c1 c2:List Cl) (h:Spec Tryz.prog 25 [aF c,.ag (vD q)] (aF c1)) (h2:MkR l c1 c2):MkR (q::l) c c2
theorem MkR.end{c c2:List Cl}(h:MkR [] c c2):c2=c:=by cases h;rfl
theorem MkR.next{q:Q4}{l:List Q4}{c c2:List Cl}(h:MkR (q::l) c c2):∃ c1,Spec Tryz.prog 25 [aF c,.ag (vD q)] (aF c1)∧MkR l c1 c2:=by cases h with|cons _ _ _ c1 _ h h2=>exact⟨c1,h,h2⟩
theorem bQs:∀(l:List Q4) (i:Nat) (c:List Cl),Gr i c→i+l.length≤4→(∀ q∈l,q.ok)→∃ c',MkR l c c'∧Gr (i+l.length) c'
 |[],i,c,g,_,_=>⟨c,.nil c,g⟩
 |q::l,i,c,g,hi,hq=>by
  simp only[AB]at hi
  obtain⟨c1,h1,h2⟩:=bFu g (by omega) q (hq q (Av ..))
  obtain⟨c2,h3,h4⟩:=bQs l (i+1) c1 h2 (by omega) fun y hy=>hq y (As _ hy)
  exact⟨c2,.cons q l c c1 c2 h1 h3,by rw[AB,show i+(l.length+1)=i+1+l.length by omega];exact h4⟩
set_option maxHeartbeats 2000000 in
set_option maxRecDepth 10000 in
theorem bCn(s:Int)(l:List Q4)(c0 c:List Cl)(hl:l.length≤9223372036854775807)(hS:Spec Tryz.prog 24 [.i .u8 s] (aF c0))(hm:MkR (l.take 4) c0 c):Spec Tryz.prog 5 [vC s l] (aF c):=by
 refine aZ (N:=27) aI Tryz.func5 rfl rfl rfl (by kernel_rfl) (by kernel_rfl) (by simp) ?_
 have hq4:∀ q:Q4,vD q=[.i .i8 q.1,.i .i8 q.2.1,.i .i8 q.2.2.1,.i .i8 q.2.2.2]:=fun q=>rfl
 simp[-map_map,-mapM_map,↓KW,vC]
 refine aA (ds:=[.i .u8 s]) (by rfl) hS ?_
 simp[-map_map,-mapM_map,↓KW,aF]
 refine aU (fun y:Nat×List Cl=>y.1≤min 4 l.length∧MkR ((l.take 4).drop y.1) y.2 c) (fun y=>StL [(1,.ptr 1 0),(3,.d (aF y.2)),(4,.d (.i .i64 (y.1:Int)))] none [.cells 24 [.d (.i .u8 s),.d (.sl (l.map vD))]]) (fun y=>4-y.1) (0,c0) ⟨An _,hm⟩ ?_ ?_
 ·refine aY [1] (by simp) ?_ ?_<;>simp[-map_map,upd,aT,Γ0,aF]
 ·rintro⟨i,d⟩ ⟨hi,hm⟩
  simp only at hi hm ⊢
  by_cases hgo:i<l.length∧i<4
  ·have g1:=hgo.1
   have g2:=hgo.2
   have q1:(i:Int)<l.length:=by omega
   have q2:(i:Int)<4:=by omega
   have hx:l[i]? = some l[i]:=Aa g1
   have hd:(l.take 4).drop i=l[i]::(l.take 4).drop (i+1):=by
    rw[A2 (by rw[AM];omega),D5]
   rw[hd]at hm
   have hw:Ah.wrap ((i:Int)+1)=(i:Int)+1:=aR (by omega) (by omega)
   refine(hm.next).elim fun d1 hh=>?_
   have h1:=hh.1
   have h2:=hh.2
   clear hh hd hm
   have hx':∀ h:i<l.length,l[i]'h=l[i]:=fun h=>rfl
   refine(show ∃ q,l[i]=q from⟨_,rfl⟩).elim fun q hq=>?_
   rw[hq]at hx h1
   have hgy':∀ h:i<l.length,l[i]'h=q:=fun h=>hq
   have e4:=hq4 q
   rw[e4]at h1
   simp[-map_map,-mapM_map,↓KW,aF,g1,g2,q1,q2,hx,hgy',e4]
   refine aA (ds:=[aF d,.ag [.i .i8 q.1,.i .i8 q.2.1,.i .i8 q.2.2.1,.i .i8 q.2.2.2]]) (by rfl) h1 ?_
   simp[-map_map,-mapM_map,↓KW,aF,hw]
   refine aJ (i+1,d1) ⟨by simp only;omega,h2⟩ (by simp only;omega) (aY [1] (by simp) ?_ ?_)<;>simp[-map_map,upd,aT,Γ0,aF]
  ·have hd:(l.take 4).drop i=[]:=Bo (by rw[AM];omega)
   rw[hd]at hm
   have he:=hm.end
   by_cases g1:i<l.length
   ·have q1:(i:Int)<l.length:=by omega
    have q2:¬(i:Int)<4:=by omega
    simp[-map_map,-mapM_map,↓KW,aF,q1,q2,he]
   ·have q1:¬(i:Int)<l.length:=by omega
    simp[-map_map,-mapM_map,↓KW,aF,q1,he]
theorem bBk(s:Int)(h:0≤s∧s≤255):∃ j,j<14∧Spec Tryz.prog 24 [.i .u8 s] (aF (spc j)):=by
 have h1:=E8 s (b:=14) (by decide)
 have h2:0≤s.tmod 14:=Int.tmod_nonneg _ h.1
 have h3:s.tmod 14=0∨s.tmod 14=1∨s.tmod 14=2∨s.tmod 14=3∨s.tmod 14=4∨s.tmod 14=5∨s.tmod 14=6∨s.tmod 14=7∨s.tmod 14=8∨s.tmod 14=9∨s.tmod 14=10∨s.tmod 14=11∨s.tmod 14=12∨s.tmod 14=13:=by omega
 rcases h3 with e|e|e|e|e|e|e|e|e|e|e|e|e|e
 ·exact⟨0,by decide,bSe s e⟩
 ·exact⟨1,by decide,bSd s e⟩
 ·exact⟨2,by decide,bSc s e⟩
 ·exact⟨3,by decide,bSb s e⟩
 ·exact⟨4,by decide,bSa s e⟩
 ·exact⟨5,by decide,bRz s e⟩
 ·exact⟨6,by decide,bRy s e⟩
 ·exact⟨7,by decide,bRx s e⟩
 ·exact⟨8,by decide,bRw s e⟩
 ·exact⟨9,by decide,bRv s e⟩
 ·exact⟨10,by decide,bKv s e⟩
 ·exact⟨11,by decide,bKu s e⟩
 ·exact⟨12,by decide,bKt s e⟩
 ·exact⟨13,by decide,bKs s e⟩
structure MdX(c:List Cl):Prop where
 v:CxV c
 len:c.length≤11
 ids:∀ x∈c,1≤x.id∧x.id≤17
 sz:∃ F,F=549755944960∧SzX F c
 n1:(bR c 1).length≤7
 n2:(bR c 2).length≤6
 n3:(bR c 3).length≤5
 eb:∀ x∈c,Bnd (2^eD x.dim) x.b
theorem bXc(d:Int):eD d≤549755944960:=by
 unfold eD
 split
 ·decide
 ·split
  ·decide
  ·split<;>decide
theorem bNd(s:Int)(l:List Q4)(hs:0≤s∧s≤255)(hq:∀ q∈l,q.ok)(hl:l.length≤9223372036854775807):∃ c,Spec Tryz.prog 5 [vC s l] (aF c)∧MdX c:=by
 obtain⟨j,hj,h1⟩:=bBk s hs
 have h4:(l.take 4).length≤4:=by rw[AM];omega
 obtain⟨c,h2,g⟩:=bQs (l.take 4) 0 (spc j) (bRu j hj) (by omega) fun q h=>hq q (Bs h)
 have hlen:=g.len
 obtain⟨F,hF⟩:∃ F,F=549755944960:=⟨_,rfl⟩
 have hFe:∀ d,eD d≤F:=fun d=>by rw[hF];exact bXc d
 exact⟨c,bCn s l _ c hl h1 h2,g.v,by omega,fun x hx=>by have:=g.ids x hx;omega,⟨F,hF,by omega,fun x hx=>Ap (g.bl x hx) (by decide),fun x hx=>(g.eb x hx).pw (hFe _)⟩,by have:=g.n1;omega,by have:=g.n2;omega,by have:=g.n3;omega,g.eb⟩
end Go.Am
end

section
set_option linter.unusedVariables false
set_option linter.unusedSimpArgs false
open Go Go.Am Go.Proofs
namespace Go.Am
open Go.ChangeShapes Go.WideShapes Go.ChangeAt Go.RowKit
theorem bYx:Tryz.prog.cellsOf 24=2:=by kernel_rfl
theorem zU8:Tryz.prog.cellsOf 5=1:=by kernel_rfl
theorem zI8:Tryz.prog.cellsOf 66=1:=by kernel_rfl
theorem zA4:Tryz.prog.cellsOf 67=4:=by kernel_rfl
theorem zL4:Tryz.prog.cellsOf 22=1:=by kernel_rfl
theorem aAw{n:Int}(h:(Lit.int .i8 n).wf=true):-128≤n∧n≤127:=by
 have hmin:E9.min=-128:=rfl
 have hmax:E9.max=127:=rfl
 simp only[Lit.wf,AI,AH]at h
 omega
theorem aHq{n:Int}(h:(Lit.int .u8 n).wf=true):0≤n∧n≤255:=by
 have hmin:Cg.min=0:=rfl
 have hmax:Cg.max=255:=rfl
 simp only[Lit.wf,AI,AH]at h
 omega
theorem bWl{α:Type}{l:List α}(h:l.length=4):∃ a b c d,l=[a,b,c,d]:=by
 match l,h with
 |[a,b,c,d],_=>exact⟨a,b,c,d,rfl⟩
theorem bWn{α:Type}{l:List α}(h:l.length=2):∃ a b,l=[a,b]:=by
 match l,h with
 |[a,b],_=>exact⟨a,b,rfl⟩
section
variable {H:Type} {enc:TypeId×Value→H} {w:World} {sp:Nat→Bool} {held:Bool}
set_option maxRecDepth 100000 in
theorem bVr{cs:List Value}{x:DataW H×List MemPlace}{fuel:Nat}(h:DataW.trod enc Tryz.prog w 0 sp held fuel 67 cs=some x) :
  ∃ y:Q4,y.ok∧(vD y).length=Tryz.prog.cellsOf 67∧∀(k:Nat) (c:D) (v:Value),(vD y)[k]? = some c→cs[k]? = some v→VD (fun b=>b<w.heap.size) w c v:=by
 obtain⟨xs,m,_,_,hcl,hxl,hx⟩:=DataW.trod_array Tryz.underlying67 h
 rw[zA4]at hcl
 obtain⟨a,b,c,d,rfl⟩:=bWl hcl
 have h0:=hx 0 (by decide)
 have h1:=hx 1 (by decide)
 have h2:=hx 2 (by decide)
 have h3:=hx 3 (by decide)
 rw[zI8,Aa (by omega)]at h0 h1 h2 h3
 simp only[Nat.mul_one,Nat.zero_mul,Nat.one_mul,BS,Cp,B6,BZ]at h0 h1 h2 h3
 obtain⟨i0,e0,_,w0⟩:=C6 Tryz.underlying66 h0
 obtain⟨i1,e1,_,w1⟩:=C6 Tryz.underlying66 h1
 obtain⟨i2,e2,_,w2⟩:=C6 Tryz.underlying66 h2
 obtain⟨i3,e3,_,w3⟩:=C6 Tryz.underlying66 h3
 injection e0 with e0;injection e1 with e1;injection e2 with e2;injection e3 with e3
 subst e0;subst e1;subst e2;subst e3
 refine⟨(i0,i1,i2,i3),⟨aAw w0,aAw w1,aAw w2,aAw w3⟩,by rw[zA4];rfl,fun k c v hk hv=>?_⟩
 rcases k with _|_|_|_|k
 ·simp[vD]at hk hv;subst hk;subst hv;exact .i _ _
 ·simp[vD]at hk hv;subst hk;subst hv;exact .i _ _
 ·simp[vD]at hk hv;subst hk;subst hv;exact .i _ _
 ·simp[vD]at hk hv;subst hk;subst hv;exact .i _ _
 ·simp[vD]at hk
theorem bDd{v:Value}{d:DataW H}{ps:List MemPlace}{cs:Array Value}(hv:v=.agg cs)(h:DataW.Trod enc Tryz.prog w 0 sp held 24 v d ps) :
  ∃(s:Int) (l:List Q4),VD (fun b=>b<w.heap.size) w (vC s l) v∧(0≤s∧s≤255)∧(∀ y∈l,y.ok)∧l.length≤9223372036854775807:=by
 subst hv
 obtain⟨fuel,hf⟩:=h
 obtain⟨xs,n,_,_,hl,hlen,hfs⟩:=DataW.trod_struct Tryz.underlying24 hf
 rw[bYx]at hl
 have h0:=hfs 0 { name := "S",type:=5,offset:=0,embedded:=false,tag := "",pkgPath := "",byteOffset:=0 } rfl
 have h1:=hfs 1 { name := "L",type:=22,offset:=1,embedded:=false,tag := "",pkgPath := "",byteOffset:=8 } rfl
 obtain⟨x0,hx0⟩:∃ x,xs[0]? = some x:=⟨_,Aa (by rw[hlen];decide)⟩
 obtain⟨x1,hx1⟩:∃ x,xs[1]? = some x:=⟨_,Aa (by rw[hlen];decide)⟩
 rw[hx0]at h0;rw[hx1]at h1
 simp only[Value.cells]at h0 h1 hl
 obtain⟨cs⟩:=cs
 simp only at h0 h1 hl
 obtain⟨a,b,rfl⟩:=bWn hl
 simp only[zU8,zL4,BS,Cp,B6,BZ]at h0 h1
 obtain⟨i,e1,_,w1⟩:=C6 Tryz.underlying5 h0
 obtain⟨u,l,e2,hu,hg,hL⟩:=aGa Tryz.underlying22 (by rw[zA4];decide) vD Q4.ok (fun fuel cs x h=>bVr h) h1
 injection e1 with e1;injection e2 with e2
 subst e1;subst e2
 refine⟨i,l,.ag _ _ rfl fun k d v hk hv=>?_,aHq w1,hg,hL⟩
 rcases k with _|_|k
 ·simp at hk hv;subst hk;subst hv;exact .i _ _
 ·simp at hk hv;subst hk;subst hv;exact hu
 ·simp at hk
theorem bSn{cs:List Value}{x:DataW H×List MemPlace}{fuel:Nat}(hf:DataW.trod enc Tryz.prog w 0 sp held fuel 26 cs=some x) :
  ∃(u:Value) (l:List Int),cs=[u]∧VD (fun b=>b<w.heap.size) w (.sl (l.map fun n=>[D.i .i8 n])) u∧(∀ x∈l,-128≤x∧x≤127)∧l.length≤9223372036854775807 :=
 aGa Tryz.underlying26 (by rw[zI8];decide) (fun n:Int=>[D.i .i8 n]) (fun x=>-128≤x∧x≤127) (fun fuel cs x h=>by
  obtain⟨a,q1,_,w1⟩:=C6 Tryz.underlying66 h
  subst q1
  refine⟨a,aAw w1,by rw[zI8];rfl,fun k c v hk hv=>?_⟩
  rcases k with _|k
  ·simp at hk hv
   subst hk;subst hv
   exact .i _ _
  ·simp at hk) hf
end
end Go.Am
namespace Go.Proofs.YtaopbfbimpkomaaGreat
theorem cAn:ownKnob Tryz.prog.godebug=none:=by kernel_rfl
theorem bEr:laidOutB Tryz.prog=true:=by kernel_rfl
end Go.Proofs.YtaopbfbimpkomaaGreat
end

section
set_option linter.unusedVariables false
set_option linter.unusedSimpArgs false
namespace Go.Am
variable {P:Program}
theorem aMx(f:FuncId)(cs:List Operand)(Γ:Nat→AV)(n:Nat):nev P (.makeFunc (.func f) #[] cs.toArray) Γ n=some (.fn f (cs.map (oev Γ)),none):=by
 simp[nev,eQ]
theorem bDn(t : TypeId)(x i : Operand)(Γ : Nat → AV)(n : Nat) : nev P (.index t x i) Γ n = eQ ((yA P t).bind fun p => (tsz P p.2).bind fun sz => (dI P p.2).bind fun ag => (hJ (oev Γ i)).bind fun k => (aFf (oev Γ x)).bind fun cs =>
      if 0≤k∧k<p.1 then(if ag then(if k.toNat*sz+sz≤cs.length then some (.ag ((cs.drop (k.toNat*sz)).take sz))else none)else cs[k.toNat*sz]?)else none):=rfl
theorem bTm(f:FuncId)(cs:List D):inj (.fn f cs)=.d (.fn f cs):=rfl
theorem bNt(f:FuncId)(cs:List D):aT (.fn f cs)=.d (.fn f cs):=rfl
theorem bNs(cs:List D):aT (.pt cs)=.fp cs:=rfl
theorem bFm(v:Value):aT (.lit v)=.d (.lit v):=rfl
theorem bEv(H:Nat→Option HO)(avs:List AV)(f:FuncId)(cs:List D):cE H avs (.fn f cs)=gT H avs:=rfl
theorem bEu(H:Nat→Option HO)(avs:List AV)(cs:List D):cE H avs (.pt cs)=gT H avs:=rfl
theorem aSc(f:FuncId)(cs:List AV):jZ (.fn f cs)=some (f,cs):=rfl
theorem aOo(f:FuncId)(cs:List D):jZ (.d (.fn f cs))=some (f,cs.map aT):=rfl
theorem aOn(f:FuncId):jZ (.d (.lit (.func (.func f) #[] #[])))=some (f,[]):=rfl
theorem bOd(H:Nat→Option HO)(n:Nat)(f:FuncId)(cs:List AV):frz H (n+1) (.fn f cs)=(cs.mapM (frz H n)).map (.fn f):=rfl
theorem bOc(H:Nat→Option HO)(n:Nat)(cs:List D):frz H (n+1) (.fp cs)=some (.pt cs):=rfl
theorem aNz(H : Nat → Option HO)(n : Nat)(id off : Nat) : frz H (n + 1) (.ptr id off) = match H id with
      |some (.cells _ cs)=>if off≤cs.length then((cs.drop off).mapM (frz H n)).map .pt else none
      |_=>none:=rfl
theorem bKe(H:Nat→Option HO)(n:Nat)(f:FuncId)(cs:List AV):vis H (n+1) (.fn f cs)=cs.flatMap (vis H n):=rfl
theorem bKd(H:Nat→Option HO)(n:Nat)(cs:List D):vis H (n+1) (.fp cs)=[]:=rfl
theorem aKo(H : Nat → Option HO)(n : Nat)(id off : Nat) : vis H (n + 1) (.ptr id off) = match H id with
      |some (.cells _ cs)=>id::(cs.drop off).flatMap (vis H n)
      |_=>[]:=rfl
theorem aZv(f:FuncId)(cs:List AV):eS (.fn f cs)=some [.fn f cs]:=rfl
theorem aSa(f:FuncId)(cs:List D):eS (.d (.fn f cs))=some [.d (.fn f cs)]:=rfl
theorem bBu(l:List Nat)(f:FuncId)(cs:List AV):kI l (.fn f cs)=.fn f (cs.map (aIh l)):=rfl
section
variable (dst:Option Tmp) (ty:TypeId) (pos:String) (after:Array Edge) (guard:Option (Nat×Bool)) (σ:St) (con:List Nat) (k:St→List Nat→Prop)
theorem cZ(f:Fn)(x y:Array Operand)(d:Dm ((⟨dst,.makeFunc f x y,ty,pos,after,guard⟩:Oper),k)):O1d P ⟨dst,.makeFunc f x y,ty,pos,after,guard⟩ σ con k d=dR (nev P (.makeFunc f x y) σ.Γ σ.n) (fun p=>k ⟨bT σ.Γ dst p.1,jF σ.H σ.n p.2,cnt p.2 σ.n⟩ con) .mk:=cW rfl rfl
theorem eY(t:TypeId)(x y:Operand)(d:Dm ((⟨dst,.index t x y,ty,pos,after,guard⟩:Oper),k)):O1d P ⟨dst,.index t x y,ty,pos,after,guard⟩ σ con k d=dR (nev P (.index t x y) σ.Γ σ.n) (fun p=>k ⟨bT σ.Γ dst p.1,jF σ.H σ.n p.2,cnt p.2 σ.n⟩ con) .mk:=cW rfl rfl
def bJn(P:Program)(c:Option (FuncId×List AV))(avs:List AV)(H:Nat→Option HO)(k:List AV→D→Prop)(_:Dm k):Prop:=match c with
 |some (f,cs)=>∃ ds r,iB H (avs++cs)=some ds∧Spec P f ds r∧k (avs++cs) r
 |none=>False
theorem sI{f:FuncId}{cs avs:List AV}{H:Nat→Option HO}{k:List AV→D→Prop}{d:Dm k}{ds:List D}{r:D}(h1:iB H (avs++cs)=some ds)(h2:Spec P f ds r)(h3:k (avs++cs) r):bJn P (some (f,cs)) avs H k d:=⟨ds,r,h1,h2,h3⟩
theorem eZ(t:Tmp)(args:List Operand)(ts:Array TypeId)(d:Dm ((⟨dst,.call ⟨.value (.tmp t),args.toArray,ts⟩,ty,pos,after,guard⟩:Oper),k)):O1d P ⟨dst,.call ⟨.value (.tmp t),args.toArray,ts⟩,ty,pos,after,guard⟩ σ con k d =
  bJn P (jZ (σ.Γ t)) (args.map (oev σ.Γ)) σ.H (fun avs r=>k ⟨bT σ.Γ dst (inj r),kill (cE σ.H avs r) σ.H,σ.n⟩ (cE σ.H avs r++con)) .mk:=by
 unfold O1d;simp only[O1,bJn]
 cases jZ (σ.Γ t)with
 |none=>rfl
 |some p=>obtain⟨f,cs⟩:=p;rfl
end
attribute [simp] aMx bDn bTm bNt bNs bFm aSc aOo aOn bOd bOc aNz bKe bKd aKo aZv aSa bBu bEv bEu
end Go.Am
end

section
set_option linter.unusedVariables false
set_option linter.unusedSimpArgs false
open List (map_map mapM_map)
open Go Go.Am Go.Proofs
namespace Go.Am
@[simp]theorem bYv(k:IntKind)(n:Int):zI (.i k n)=true:=rfl
@[simp]theorem bYw(x:Bool):zI (.b x)=true:=rfl
theorem cAk{t:Nat}:kA .shr .u64 (t:Int) 1=some (.i .u64 ((t/2:Nat):Int)):=by
 have:min 1 AY.bits=1:=rfl
 simp only[kA]
 rw[Ae (by decide),show(1:Int).toNat=1 from rfl,this,Int.fdiv_eq_ediv_of_nonneg _ (by decide)]
 congr 2
theorem vI(f:FuncId):eS (.d (.lit (.func (.func f) #[] #[])))=some [.d (.lit (.func (.func f) #[] #[]))]:=rfl
theorem vZ(Γ:Nat→AV)(f:FuncId):oev Γ (.func f)=.d (.lit (.func (.func f) #[] #[])):=rfl
theorem aUa(x:Cl)(n:Int):Spec Tryz.prog 101 [.ag (bJ x),.i .i64 n] (.i .i64 (lE x.id n)):=by
 refine aZ (N:=9) aI Tryz.func101 rfl rfl rfl (by kernel_rfl) (by kernel_rfl) (by simp) ?_
 have hS:=aRs x.id n
 simp[-map_map,-mapM_map,↓KW,bJ,aE,aB,aC]
 refine aA (ds:=[.i .i64 x.id,.i .i64 n]) (by rfl) hS ?_
 simp[-map_map,-mapM_map,↓KW,]
def aMb(c:List Cl)(n:Int):Nat:=c.countP fun x=>decide (x.id<n)
theorem aTz{c:List Cl}{n:Int}{i:Nat}(hi:i≤c.length)(h1:∀ k x,k<i→c[k]? = some x→x.id<n)(h2:∀ k x,i≤k→c[k]? = some x→n≤x.id):aMb c n=i:=by
 unfold aMb
 conv=>lhs;rw[←List.take_append_drop i c]
 rw[List.countP_append]
 have e1:(c.take i).countP (fun x=>decide (x.id<n))=(c.take i).length:=by
  rw[List.countP_eq_length]
  intro x hx
  obtain⟨k,hk,rfl⟩:=Bi hx
  rw[AM]at hk
  exact BA (h1 k _ (by omega) (by rw[D5,Aa]))
 have e2:(c.drop i).countP (fun x=>decide (x.id<n))=0:=by
  rw[List.countP_eq_zero]
  intro x hx
  obtain⟨k,hk,rfl⟩:=Bi hx
  rw[CJ]at hk
  have:=h2 (i+k) (c[i+k]'(by omega)) (by omega) (Aa _)
  rw[List.getElem_drop];simp;omega
 rw[e1,e2,AM];omega
theorem bGh{c:List Cl}{n:Int}{i:Nat}(h1:∀ k x,k<i→c[k]? = some x→x.id<n)(h2:∀ k x,i≤k→c[k]? = some x→n≤x.id)(hc:Inc c):(∀ x,c[i]? = some x→bW c n=if x.id=n then some x else none)∧(c[i]? = none→bW c n=none):=by
 have hn:∀ x,c[i]? = some x→x.id≠n→bW c n=none:=fun x hx hne=>by
  cases e:bW c n with
  |none=>rfl
  |some y =>
   obtain⟨hy,he⟩:=cV e
   obtain⟨k,hk,rfl⟩:=Bi hy
   exfalso
   rcases CU k i with h|h|h
   ·have:=h1 k _ h (Aa hk);omega
   ·subst h;rw[Aa hk]at hx;injection hx with hx;subst hx;exact hne he
   ·have hi:i<c.length:=(Aj.1 hx).1
    have g1:=h2 i x (Az _) hx
    have g2:=(Bv.1 hc) i k hi hk h
    rw[Aa hi]at hx;injection hx with hx;subst hx
    omega
 refine⟨fun x hx=>?_,fun hx=>?_⟩
 ·by_cases he:x.id=n
  ·rw[Ag he,←he];exact hc.find (Aq hx)
  ·rw[Ae he];exact hn x hx he
 ·cases e:bW c n with
  |none=>rfl
  |some y =>
   obtain⟨hy,he⟩:=cV e
   obtain⟨k,hk,rfl⟩:=Bi hy
   have:=h1 k _ (by have:=List.getElem?_eq_none_iff.1 hx;omega) (Aa hk)
   omega
set_option maxHeartbeats 2000000 in
set_option maxRecDepth 10000 in
theorem bPo{c:List Cl}(hc:Inc c)(n:Int)(hl:c.length≤1000000):Spec Tryz.prog 100 [aF c,.i .i64 n,.lit (.func (.func 101) #[] #[])] (.tp [.i .i64 (aMb c n),.b (bW c n).isSome]):=by
 refine aZ (N:=49) aI Tryz.func100 rfl rfl rfl (by kernel_rfl) (by kernel_rfl) (by simp) ?_
 simp[-map_map,-mapM_map,↓KW,↓cT,↓cZ,↓eY,↓eZ,aF]
 refine aU (fun p:Nat×Nat=>p.1≤p.2∧p.2≤c.length∧(∀ k x,k<p.1→c[k]? = some x→x.id<n)∧(∀ k x,p.2≤k→c[k]? = some x→n≤x.id)) (fun p=>StL [(0,.d (aF c)),(1,.d (.i .i64 n)),(2,.d (.lit (.func (.func 101) #[] #[]))),(8,.d (.i .i64 (c.length:Int))),(9,.d (.i .i64 (p.1:Int))),(10,.d (.i .i64 (p.2:Int)))] none []) (fun p=>p.2-p.1) (0,c.length) ⟨An _,Az _,fun k x h=>by omega,fun k x h hx=>by have:=(Aj.1 hx).1;omega⟩ ?_ ?_
 ·refine aY [] (by simp) ?_ ?_<;>simp[-map_map,upd,aT,Γ0,aF]
 ·rintro⟨i,j⟩ ⟨hij,hj,h1,h2⟩
  simp only at hij hj h1 h2
  by_cases hgo:i<j
  ·have q1:(i:Int)<j:=by omega
   have hw1:Ah.wrap ((i:Int)+j)=((i+j:Nat):Int):=by rw[aR (by omega) (by omega)];omega
   have hw2:AY.wrap ((i+j:Nat):Int)=((i+j:Nat):Int):=bP (by omega) (by omega)
   have hh:(i+j)/2<c.length:=by omega
   have hw3:Ah.wrap (((i+j)/2:Nat):Int)=(((i+j)/2:Nat):Int):=aR (by omega) (by omega)
   have hw4:Ah.wrap ((((i+j)/2:Nat):Int)+1)=(((i+j)/2+1:Nat):Int):=by rw[aR (by omega) (by omega)];omega
   have hm1:i≤(i+j)/2:=by omega
   have hm2:(i+j)/2<j:=by omega
   have hx:c[(i+j)/2]? = some c[(i+j)/2]:=Aa hh
   have hsh:=@cAk (i+j)
   have q0:(0:Int)≤(((i+j)/2:Nat):Int):=by omega
   generalize(i+j)/2=m at *
   have hS:=aUa c[m] n
   have hlt:∀ k x,k<m→c[k]? = some x→x.id<c[m].id:=fun k x hk hkx=>by
    have h0:k<c.length:=by omega
    rw[Aa h0]at hkx;injection hkx with hkx;subst hkx
    exact(Bv.1 hc) k m h0 hh hk
   have hgt:∀ k x,m<k→c[k]? = some x→c[m].id<x.id:=fun k x hk hkx=>by
    have h0:k<c.length:=(Aj.1 hkx).1
    rw[Aa h0]at hkx;injection hkx with hkx;subst hkx
    exact(Bv.1 hc) m k hh h0 hk
   generalize i+j=s at *
   generalize hxm:c[m]=x at *
   simp[-map_map,-mapM_map,↓KW,↓cT,↓cZ,↓eY,↓eZ,aF,bJ,q1,hw1,hw2,hw3,hsh,hx,q0,aE,aB,aC,vI,vZ]
   refine sI (ds:=[.ag (bJ x),.i .i64 n]) (by rfl) hS ?_
   by_cases hlx:x.id<n
   ·have e:lE x.id n=-1:=by unfold lE;rw[Ag hlx]
    rw[e]
    simp[-map_map,-mapM_map,↓KW,↓cT,↓cZ,↓eY,↓eZ,hw4]
    refine aJ (m+1,j) ⟨by simp only;omega,hj,fun k y hk hky=>?_,h2⟩ (by simp only;omega) (aY [] (by simp) ?_ ?_)
    ·simp only at hk
     rcases Bc k m with h|h
     ·have:=hlt k y h hky;omega
     ·rw[show k=m by omega,hx]at hky;injection hky with hky;rw[←hky];exact hlx
    ·simp[-map_map,upd,aT,Γ0,aF]
    ·trivial
   ·have e:¬lE x.id n<0:=by unfold lE;rw[Ae hlx];split<;>omega
    generalize lE x.id n=r at *
    simp[-map_map,-mapM_map,↓KW,↓cT,↓cZ,↓eY,↓eZ,e]
    refine aJ (i,m) ⟨by simp only;omega,by simp only;omega,h1,fun k y hk hky=>?_⟩ (by simp only;omega) (aY [] (by simp) ?_ ?_)
    ·simp only at hk
     rcases Bc m k with h|h
     ·have:=hgt k y h hky;omega
     ·rw[show k=m by omega,hx]at hky;injection hky with hky;rw[←hky];omega
    ·simp[-map_map,upd,aT,Γ0,aF]
    ·trivial
  ·have q1:¬(i:Int)<j:=by omega
   have hje:j=i:=by omega
   subst hje
   have hp:=aTz hj h1 h2
   obtain⟨f1,f2⟩:=bGh h1 h2 hc
   rw[hp]
   by_cases hin:j<c.length
   ·have q2:(j:Int)<c.length:=by omega
    have hx:c[j]? = some c[j]:=Aa hin
    have hS:=aUa c[j] n
    have f3:=f1 _ hx
    have q0:(0:Int)≤(j:Int):=by omega
    generalize c[j]=x at *
    simp[-map_map,-mapM_map,↓KW,↓cT,↓cZ,↓eY,↓eZ,aF,bJ,q1,q2,hx,aE,aB,aC,vI,vZ]
    refine sI (ds:=[.ag (bJ x),.i .i64 n]) (by rfl) hS ?_
    have e:((lE x.id n==0):Bool)=(bW c n).isSome:=by
     rw[f3]
     unfold lE
     by_cases h:x.id=n
     ·rw[Ag h];simp[h]
     ·rw[Ae h]
      split
      ·rfl
      ·split
       ·rfl
       ·omega
    rw[←e]
    generalize lE x.id n=r at *
    simp[-map_map,-mapM_map,↓KW,↓cT,↓cZ,↓eY,↓eZ,aF,fV]
   ·have q2:¬(j:Int)<c.length:=by omega
    have f3:=f2 (AG (by omega))
    rw[f3]
    simp[-map_map,-mapM_map,↓KW,↓cT,↓cZ,↓eY,↓eZ,aF,bJ,q1,q2,aE,aB,aC,vI,vZ,fV]
theorem bOi{c:List Cl}(hc:Inc c){n:Int}{x:Cl}(h:bW c n=some x):c[aMb c n]? = some x:=by
 obtain⟨hx,he⟩:=cV h
 obtain⟨k,hk,rfl⟩:=Bi hx
 have hp:aMb c n=k:=aTz (by omega) (fun j y hj hy=>by
   have h0:j<c.length:=(Aj.1 hy).1
   rw[Aa h0]at hy;injection hy with hy;subst hy
   have:=(Bv.1 hc) j k h0 hk hj;omega) (fun j y hj hy=>by
   have h0:j<c.length:=(Aj.1 hy).1
   rw[Aa h0]at hy;injection hy with hy;subst hy
   rcases Bc k j with h|h
   ·have:=(Bv.1 hc) k j hk h0 h;omega
   ·have:j=k:=by omega
    subst this;omega)
 rw[hp];exact Aa hk
set_option maxRecDepth 10000 in
theorem bOz{c:List Cl}(hc:Inc c)(n:Int)(hl:c.length≤1000000):Spec Tryz.prog 66 [aF c,.i .i64 n] (.tp [.i .i64 (aMb c n),.b (bW c n).isSome]):=by
 refine aZ (N:=11) aI Tryz.func66 rfl rfl rfl (by kernel_rfl) (by kernel_rfl) (by simp) ?_
 have hS:=bPo hc n hl
 simp[-map_map,-mapM_map,↓KW,↓cT,↓cZ,↓eY,↓eZ,aF,vZ]
 refine aA (ds:=[aF c,.i .i64 n,.lit (.func (.func 101) #[] #[])]) (by rfl) hS ?_
 simp[-map_map,-mapM_map,↓KW,↓cT,↓cZ,↓eY,↓eZ,fV]
set_option maxRecDepth 10000 in
theorem vG{c:List Cl}(hc:Inc c)(n:Int)(hl:c.length≤1000000):Spec Tryz.prog 29 [aF c,.i .i64 n] (vB c n):=by
 refine aZ (N:=21) aI Tryz.func29 rfl rfl rfl (by kernel_rfl) (by kernel_rfl) (by simp) ?_
 have hS:=bOz hc n hl
 unfold vB
 simp[-map_map,-mapM_map,↓KW,aF]
 refine aA (ds:=[aF c,.i .i64 n]) (by rfl) hS ?_
 cases hf:bW c n with
 |none=>simp[-map_map,-mapM_map,↓KW,aF,bJ,pH,aG,fV]
 |some x =>
  have hx:=bOi hc hf
  have q0:(0:Int)≤(aMb c n:Int):=by omega
  generalize aMb c n=p at *
  simp[-map_map,-mapM_map,↓KW,aF,bJ,hx,q0,aE,aB,aC,fV]
end Go.Am
end

section
set_option linter.unusedVariables false
set_option linter.unusedSimpArgs false
open List (map_map mapM_map)
open Go Go.Am Go.Proofs
namespace Go.Am
theorem aZo(m n:Nat):pX (aX m) (aX n)=0↔m=n:=by
 unfold pX
 rw[kB,kB]
 by_cases h1:m<n
 ·simp[h1];omega
 ·by_cases h2:n<m
  ·simp[h1,h2];omega
  ·simp[h1,h2];omega
theorem bHg(a b:List Nat):-1≤pX a b∧pX a b≤1:=by
 unfold pX
 split
 ·exact⟨by decide,by decide⟩
 ·split<;>exact⟨by decide,by decide⟩
theorem wU(x y:Int)(hx:Sz x)(hy:Sz y):∃ r:Int,Spec Tryz.prog 59 [encZ x,encZ y] (.i .i64 r)∧(r=0↔x=y):=by
 have hSx:=aCl x hx
 have hSy:=aCl y hy
 have hTx:=oL (aX x.natAbs) (Ap hx (by decide))
 have hTy:=oL (aX y.natAbs) (Ap hy (by decide))
 rw[rM (nY _)]at hTx hTy
 have hC:=aCm (aX x.natAbs) (aX y.natAbs) (cM _) (cM _) (Ap hx (by decide)) (Ap hy (by decide))
 have hc0:=aZo x.natAbs y.natAbs
 have hcb:=bHg (aX x.natAbs) (aX y.natAbs)
 have hI:=aRs x.sign y.sign
 by_cases hs:x.sign=y.sign
 ·refine⟨x.sign*pX (aX x.natAbs) (aX y.natAbs),?_,?_⟩
  rotate_left
  ·rw[CI,hc0]
   constructor
   ·rintro(h|h)
    ·have h1:=CY.1 h
     have h2:=CY.1 (hs ▸ h)
     omega
    ·rw[←Int.sign_mul_natAbs x,←Int.sign_mul_natAbs y,hs,h]
   ·rintro rfl;exact .inr rfl
  ·refine aZ (N:=26) aI Tryz.func59 rfl rfl rfl (by kernel_rfl) (by kernel_rfl) (by simp) ?_
   have hne:((x.sign != y.sign):Bool)=false:=by simp[hs]
   have hsb:-1≤x.sign∧x.sign≤1:=by
    rcases Int.lt_trichotomy x 0 with h|h|h
    ·rw[Int.sign_eq_neg_one_of_neg h];decide
    ·subst h;decide
    ·rw[Int.sign_eq_one_of_pos h];decide
   generalize pX (aX x.natAbs) (aX y.natAbs)=r at *
   generalize y.sign=sy at *
   generalize x.sign=sx at *
   have hw:Ah.wrap (sx*r)=sx*r:=by
    have h1:sx=-1∨sx=0∨sx=1:=by omega
    rcases h1 with rfl|rfl|rfl<;>exact aR (by omega) (by omega)
   simp[-map_map,-mapM_map,↓KW,bF,aD,aK,aM,bE,bC]
   refine aA (ds:=[encZ x]) (by rfl) hSx ?_
   simp[-map_map,-mapM_map,↓KW,bF,aD,aK,aM,bE,bC]
   refine aA (ds:=[encZ y]) (by rfl) hSy ?_
   simp[-map_map,-mapM_map,↓KW,hne,aD,aK,aM,bE,bC]
   refine aA (ds:=[aN (aX x.natAbs)]) (by rfl) hTx ?_
   simp[-map_map,-mapM_map,↓KW,aD,aK,aM,bE,bC]
   refine aA (ds:=[aN (aX y.natAbs)]) (by rfl) hTy ?_
   simp[-map_map,-mapM_map,↓KW,aD,aK,aM,bE,bC]
   refine aA (ds:=[aN (aX x.natAbs),aN (aX y.natAbs)]) (by rfl) hC ?_
   simp[-map_map,-mapM_map,↓KW,hw,aD,aK,aM,bE,bC]
 ·refine⟨lE x.sign y.sign,?_,?_⟩
  rotate_left
  ·unfold lE
   constructor
   ·intro h
    exfalso
    split at h
    ·cases h
    ·split at h
     ·cases h
     ·omega
   ·rintro rfl;exact(hs rfl).elim
  ·refine aZ (N:=26) aI Tryz.func59 rfl rfl rfl (by kernel_rfl) (by kernel_rfl) (by simp) ?_
   have hne:((x.sign != y.sign):Bool)=true:=by simpa using hs
   generalize y.sign=sy at *
   generalize x.sign=sx at *
   simp[-map_map,-mapM_map,↓KW,bF,aD,aK,aM,bE,bC]
   refine aA (ds:=[encZ x]) (by rfl) hSx ?_
   simp[-map_map,-mapM_map,↓KW,bF,aD,aK,aM,bE,bC]
   refine aA (ds:=[encZ y]) (by rfl) hSy ?_
   simp[-map_map,-mapM_map,↓KW,hne,aD,aK,aM,bE,bC]
   refine aA (ds:=[.i .i64 sx,.i .i64 sy]) (by rfl) hI ?_
   simp[-map_map,-mapM_map,↓KW,]
end Go.Am
end

section
set_option linter.unusedVariables false
set_option linter.unusedSimpArgs false
open List (map_map mapM_map)
open Go Go.Am Go.Proofs
namespace Go.Am
theorem aAh(x:Int)(hx:Sz x):Spec Tryz.prog 60 [encZ x] (encZ x.natAbs):=by
 have hC:=aRt (aX x.natAbs) (Ap hx (by decide))
 have hV:=nK (cM x.natAbs) (Ap hx (by decide)) false
 rw[cY]at hV
 refine aZ (N:=7) aI Tryz.func60 rfl rfl rfl (by kernel_rfl) (by kernel_rfl) (by simp) ?_
 simp[-map_map,-mapM_map,↓KW,bF,aD,aK,aM,bE,bC]
 refine aA (ds:=[aN (aX x.natAbs)]) (by rfl) hC ?_
 simp[-map_map,-mapM_map,↓KW,bF,aD,aK,aM,bE,bC]
 refine aA (ds:=[.b false,aN (aX x.natAbs)]) (by rfl) hV ?_
 simp[-map_map,-mapM_map,↓KW,bF,sg,aD,aK,aM,bE,bC]
theorem bNq(x:Int)(hx:Sz x):Spec Tryz.prog 49 [encZ x] (encZ (-x)):=by
 have hC:=aRt (aX x.natAbs) (Ap hx (by decide))
 have hV:=nK (cM x.natAbs) (Ap hx (by decide)) (!decide (x<0))
 rw[cY]at hV
 have e:sg (!decide (x<0)) x.natAbs=-x:=by
  unfold sg
  by_cases h:x<0
  ·simp[h];omega
  ·simp[h];omega
 rw[e]at hV
 refine aZ (N:=10) aI Tryz.func49 rfl rfl rfl (by kernel_rfl) (by kernel_rfl) (by simp) ?_
 simp[-map_map,-mapM_map,↓KW,bF,aD,aK,aM,bE,bC]
 refine aA (ds:=[aN (aX x.natAbs)]) (by rfl) hC ?_
 simp[-map_map,-mapM_map,↓KW,bF,aD,aK,aM,bE,bC]
 refine aA (ds:=[.b !decide (x<0),aN (aX x.natAbs)]) (by rfl) hV ?_
 simp[-map_map,-mapM_map,↓KW,bF,aD,aK,aM,bE,bC]
theorem bUc:encZ 1=.ag [.b false,.sl [[.i .u32 1]]]:=by
 have h:aX 1=[1]:=by rw[iK (by decide)];simp[cP]
 simp[encZ,encI,aN,h]
theorem bOw:encZ (-1)=.ag [.b true,.sl [[.i .u32 1]]]:=by
 have h:aX 1=[1]:=by rw[iK (by decide)];simp[cP]
 simp[encZ,encI,aN,h]
theorem uZ:Spec Tryz.prog 51 [.i .i64 1] (encZ 1):=by
 rw[bUc]
 exact(zY (fuel:=100) aI bJl 20).call 51 [.i .i64 1] (.ag [.b false,.sl [[.i .u32 1]]]) (by kernel_rfl)
theorem bNp:Spec Tryz.prog 51 [.i .i64 (-1)] (encZ (-1)):=by
 rw[bOw]
 exact(zY (fuel:=100) aI bJl 20).call 51 [.i .i64 (-1)] (.ag [.b true,.sl [[.i .u32 1]]]) (by kernel_rfl)
end Go.Am
end

section
set_option linter.unusedVariables false
set_option linter.unusedSimpArgs false
open List (map_map mapM_map)
open Go Go.Am Go.Proofs
namespace Go.Am
/-! Chain maps -/
abbrev Ch:=List (Int×Int)
def mO(p:Int×Ch):List D:=[.i .i64 p.1,aG p.2]
def aV(m:List (Int×Ch)):D:=.sl (m.map mO)
def kG(g:List (Int×Ch)):D:=.mp .i64 (g.map (·.1)) (g.map fun p=>aG p.2)
def kD(g:List (Int×Ch))(n:Int):Option Ch:=(g.find? fun p=>decide (p.1=n)).map (·.2)
def dO(c:List Cl)(g:List (Int×Ch)):List (Int×Ch):=c.map fun x=>(x.id,(kD g x.id).getD [(x.id,1)])
theorem sz1:Sz 1:=by unfold Sz;rw[show(1:Int).natAbs=1 from rfl,iK (by decide)];simp[cP]
theorem bGr(n z:Int):aG [(n,z)]=.sl [[.i .i64 n,.b (decide (z<0)),aN (aX z.natAbs)]]:=rfl
set_option maxRecDepth 10000 in
theorem wI(n:Int):Spec Tryz.prog 33 [.i .i64 n] (aG [(n,1)]):=by
 refine aZ (N:=7) aI Tryz.func33 rfl rfl rfl (by kernel_rfl) (by kernel_rfl) (by simp) ?_
 have hS:=uZ
 rw[bGr]
 simp[-map_map,-mapM_map,↓KW,aG]
 refine aA (ds:=[.i .i64 1]) (by rfl) hS ?_
 simp[-map_map,-mapM_map,↓KW,bF,aD,aK,aM,bE,bC]
theorem bTw(x y:Int×Int)(hx:Sz x.2)(hy:Sz y.2):Spec Tryz.prog 68 [.ag (dK x),.ag (dK y)] (.b (decide (x=y))):=by
 refine aZ (N:=18) aI Tryz.func68 rfl rfl rfl (by kernel_rfl) (by kernel_rfl) (by simp) ?_
 obtain⟨xc,xv⟩:=x
 obtain⟨yc,yv⟩:=y
 obtain⟨r,hC,hr⟩:=wU xv yv hx hy
 by_cases h1:xc=yc
 ·have h2:((xc==yc):Bool)=true:=by simpa using h1
  have h3:decide (((xc,xv):Int×Int)=(yc,yv))=(r==0):=by
   rw[Dg,AH,beq_iff_eq,hr,DZ];simp[h1]
  rw[h3]
  subst h1
  simp[-map_map,-mapM_map,↓KW,bB,h2,aD,aK,aM,bE,bC]
  refine aA (ds:=[encZ xv,encZ yv]) (by rfl) hC ?_
  simp[-map_map,-mapM_map,↓KW,]
 ·have h2:((xc==yc):Bool)=false:=by simpa using h1
  have h3:decide (((xc,xv):Int×Int)=(yc,yv))=false:=by
   rw[DM,DZ];exact fun h=>h1 h.1
  rw[h3]
  simp[-map_map,-mapM_map,↓KW,bB,h2,h1,aD,aK,aM,bE,bC]
set_option maxHeartbeats 8000000 in
set_option maxRecDepth 10000 in
theorem bPk{a b:Ch}(ha:∀ x∈a,Sz x.2)(hb:∀ x∈b,Sz x.2)(hla:a.length≤4294967296):Spec Tryz.prog 67 [aG a,aG b,.lit (.func (.func 68) #[] #[])] (.b (decide (a=b))):=by
 refine aZ (N:=32) aI Tryz.func67 rfl rfl rfl (by kernel_rfl) (by kernel_rfl) (by simp) ?_
 by_cases hn:a.length=b.length
 rotate_left
 ·have h1:(((a.length:Int) != b.length):Bool)=true:=by simp;omega
  have h2:decide (a=b)=false:=by simp;intro e;rw[e]at hn;exact hn rfl
  simp[-map_map,-mapM_map,↓KW,↓cT,↓cZ,↓eY,↓eZ,aG,h1,h2]
 ·have h1:(((a.length:Int) != b.length):Bool)=false:=by simp;omega
  simp[-map_map,-mapM_map,↓KW,↓cT,↓cZ,↓eY,↓eZ,aG,h1]
  refine aU (fun i:Nat=>i≤a.length∧∀ j,j<i→a[j]? = b[j]?) (fun i=>StL [(0,.d (aG a)),(1,.d (aG b)),(2,.d (.lit (.func (.func 68) #[] #[]))),(15,.d (aG a)),(16,.d (.i .i64 (a.length:Int))),(17,.d (.i .i64 (i:Int)))] none []) (fun i=>a.length-i) 0 ⟨An _,fun j h=>by omega⟩ ?_ ?_
  ·refine aY [] (by simp) ?_ ?_<;>simp[-map_map,upd,aT,Γ0,aG]
  ·rintro i ⟨hi,hok⟩
   by_cases hgo:i<a.length
   ·have q1:(i:Int)<a.length:=by omega
    have hgb:i<b.length:=by omega
    have hx:a[i]? = some a[i]:=Aa hgo
    have hy:b[i]? = some b[i]:=Aa hgb
    have hxs:=ha _ (Ak hgo)
    have hys:=hb _ (Ak hgb)
    have hw:Ah.wrap ((i:Int)+1)=(i:Int)+1:=aR (by omega) (by omega)
    generalize a[i]=x at *
    generalize b[i]=y at *
    have hS:=bTw x y hxs hys
    have hne:¬(x=y)→decide (a=b)=false:=fun h=>by
     simp only[DM]
     intro e
     rw[e,hy]at hx
     injection hx with hx
     exact h hx.symm
    simp[-map_map,-mapM_map,↓KW,↓cT,↓cZ,↓eY,↓eZ,aG,bB,q1,hx,hy,aD,aK,aM]
    refine sI (ds:=[.ag (dK x),.ag (dK y)]) (by rfl) hS ?_
    by_cases hv:x=y
    ·subst hv
     rw[BA rfl]
     simp[-map_map,-mapM_map,↓KW,↓cT,↓cZ,↓eY,↓eZ,hw]
     refine aJ (i+1) ⟨hgo,fun j hj=>?_⟩ (Ab hgo (Ad _)) (aY [] (by simp) ?_ ?_)
     ·rcases Bc j i with h2|h2
      ·exact hok j h2
      ·rw[show j=i by omega,hx,hy]
     ·simp[-map_map,upd,aT,Γ0,aG]
     ·trivial
    ·rw[Bq hv]
     have e2:=hne hv
     simp[-map_map,-mapM_map,↓KW,↓cT,↓cZ,↓eY,↓eZ,e2]
   ·have q1:¬(i:Int)<a.length:=by omega
    have e:decide (a=b)=true:=by
     simp only[AH]
     apply Ca
     intro j
     rcases Bc j a.length with h|h
     ·exact hok j (by omega)
     ·rw[AG h,AG (by omega)]
    simp[-map_map,-mapM_map,↓KW,↓cT,↓cZ,↓eY,↓eZ,aG,q1,e]
set_option maxRecDepth 10000 in
theorem bMy{a b:Ch}(ha:∀ x∈a,Sz x.2)(hb:∀ x∈b,Sz x.2)(hla:a.length≤4294967296):Spec Tryz.prog 30 [aG a,aG b] (.b (decide (a=b))):=by
 refine aZ (N:=8) aI Tryz.func30 rfl rfl rfl (by kernel_rfl) (by kernel_rfl) (by simp) ?_
 have hS:=bPk ha hb hla
 simp[-map_map,-mapM_map,↓KW,↓cT,↓cZ,↓eY,↓eZ,aG,vZ]
 refine aA (ds:=[aG a,aG b,.lit (.func (.func 68) #[] #[])]) (by rfl) hS ?_
 simp[-map_map,-mapM_map,↓KW,↓cT,↓cZ,↓eY,↓eZ,]
theorem aGk(g:List (Int×Ch))(n:Int):pK (aCn (g.map (·.1)) (g.map fun p=>aG p.2)) n=(kD g n).map fun y=>.d (aG y):=by
 unfold kD pK aCn
 induction g with
 |nil=>rfl
 |cons p g ih =>
  simp only[AR,C2,gM,List.find?_cons]
  by_cases h:p.1=n
  ·simp[h,aC]
  ·rw[Ae h,Bq h]
   simp only[Option.bind_map]
   rw[←ih];rfl
end Go.Am
end

section
set_option linter.unusedVariables false
set_option linter.unusedSimpArgs false
open Go Go.Am Go.Proofs
namespace Go.Am
def grS(t:Nat)(sl:List (Nat×AV))(e:TypeId)(sz:Nat)(n:Nat)(cells:List D):St:=match n with
 |0=>StL ((t,.nil)::sl) none []
 |n+1=>StL ((t,.own 1 0 (n+1) sz)::sl) none [.cells e (cells.map .d)]
end Go.Am
end

section
set_option linter.unusedVariables false
set_option linter.unusedSimpArgs false
open List (map_map mapM_map)
open Go Go.Am Go.Proofs
namespace Go.Am
/-! Rows of elements of one size -/
theorem bHh{k:Nat}(hk:0<k)(l:List (List D))(h:∀ x∈l,x.length=k):chunk k l.length l.flatten=l:=by
 induction l with
 |nil=>rfl
 |cons a l ih =>
  have ha:=h a (Av ..)
  have:=ih fun x hx=>h x (As _ hx)
  unfold chunk at this ⊢
  rw[AB,List.range_succ_eq_map,AR,C3,BP]
  congr 1
  ·simp[←ha]
  ·conv=>rhs;rw[←this]
   apply Bu
   intro i _
   simp only[Function.comp]
   rw[show Nat.succ i*k=a.length+i*k from by rw[CT,ha,Nat.add_comm],List.drop_append,Bo (by omega)]
   simp
def flt{α:Type}(f:α→List D)(l:List α):List D:=(l.map f).flatten
theorem bOg{α:Type}(f:α→List D):flt f []=[]:=rfl
theorem bZ{α:Type}(f:α→List D)(x:α):flt f [x]=f x:=by simp[flt]
theorem dP{α:Type}(f:α→List D)(a b:List α):flt f (a++b)=flt f a++flt f b:=by simp[flt]
theorem cB{α:Type}{f:α→List D}{k:Nat}(h:∀ x,(f x).length=k)(l:List α):(flt f l).length=l.length*k:=by
 unfold flt
 induction l with
 |nil=>simp
 |cons x l ih=>rw[AR,BP,Al,ih,h,AB,CT];omega
theorem dZ{α:Type}{f:α→List D}(h:∀ x,((f x).map AV.d).all one=true)(l:List α):((flt f l).map AV.d).all one=true:=by
 unfold flt
 induction l with
 |nil=>rfl
 |cons x l ih=>rw[AR,BP,By,List.all_append,h,ih];rfl
theorem eF{α:Type}{f:α→List D}{k:Nat}(hk:0<k)(h:∀ x,(f x).length=k){l:List α}{n:Nat}(hn:l.length=n):chunk k n (flt f l)=l.map f:=by
 have:=bHh hk (l.map f) fun x hx=>by obtain⟨y,_,rfl⟩:=AE.1 hx;exact h y
 rwa [AN,hn]at this
theorem eR{α:Type}{f:α→List D}{k:Nat}(h:∀ x,(f x).length=k){l:List α}{n:Nat}(hn:l.length=n):((flt f l).map AV.d).take (n*k)=(flt f l).map AV.d:=Ai (by rw[AN,cB h,hn];exact Az _)
theorem bS(x:Cl):bJ x=[.i .i64 x.id,.i .i64 x.dim,aG x.b]:=rfl
theorem jL(x:Int×Ch):(mO x).length=2:=rfl
theorem yR(x:Int×Ch):((mO x).map AV.d).all one=true:=rfl
theorem fH(x:Int×Ch):mO x=[.i .i64 x.1,aG x.2]:=rfl
def lkV:Option Ch→AV
 |some y=>.tp [.d (aG y),.d (.b true)]
 |none=>.tp [.nil,.d (.b false)]
theorem aGp(g:List (Int×Ch))(H:Nat→Option HO)(n:Int):lJ Tryz.prog H 80 (.d (kG g)) (.d (.i .i64 n)) true=some (lkV (kD g n)):=by
 have h1:tmp Tryz.prog 80=some (3,41):=by kernel_rfl
 have h2:gW Tryz.prog 3=some .i64:=by kernel_rfl
 have h3:tz Tryz.prog 41=some (.slice none 0 0):=by kernel_rfl
 show uL Tryz.prog 80 .i64 (aCn (g.map (·.1)) (g.map fun p=>aG p.2)) (.d (.i .i64 n)) true=_
 simp only[uL,aGk]
 cases kD g n<;>simp[h1,h2,h3,lkV,cv,cv1]
theorem bTf(H:Nat→Option HO)(n:Int):lJ Tryz.prog H 80 (.d (.lit (.map none))) (.d (.i .i64 n)) true=some (lkV (kD [] n)):=by
 have h1:tmp Tryz.prog 80=some (3,41):=by kernel_rfl
 have h2:gW Tryz.prog 3=some .i64:=by kernel_rfl
 have h3:tz Tryz.prog 41=some (.slice none 0 0):=by kernel_rfl
 show aUt Tryz.prog 80 (.d (.i .i64 n)) true=_
 unfold aUt
 simp[h1,h2,h3,lkV,kD,cv,cv1]
theorem aYk{c:List Cl}{i:Nat}(h:i<c.length)(g:List (Int×Ch)):dO (c.take (i+1)) g=dO (c.take i) g++[(c[i].id,(kD g c[i].id).getD [(c[i].id,1)])]:=by
 unfold dO
 rw[AJ,Aa h,By];rfl
set_option maxHeartbeats 2000000 in
set_option maxRecDepth 10000 in
theorem lQ(c:List Cl)(g:List (Int×Ch))(G:D)(hG:aT G=.d G)(hlk:∀ H n,lJ Tryz.prog H 80 (.d G) (.d (.i .i64 n)) true=some (lkV (kD g n)))(hl:c.length≤1000000):Spec Tryz.prog 32 [aF c,G] (aV (dO c g)):=by
 refine aZ (N:=37) aI Tryz.func32 rfl rfl rfl (by kernel_rfl) (by kernel_rfl) (by simp) ?_
 simp[-map_map,-mapM_map,↓KW,aF,hG]
 refine aU (fun y:Nat×List (Int×Ch)=>y.1≤c.length∧y.2.length=y.1∧dO (c.take y.1) g=y.2) (fun y=>grS 5 [(0,.d (aF c)),(1,.d G),(10,.d (aF c)),(11,.d (.i .i64 c.length)),(12,.d (.i .i64 (y.1:Int)))] 84 2 y.2.length (flt mO y.2)) (fun y=>c.length-y.1) (0,[]) ⟨An _,rfl,rfl⟩ ?_ ?_
 ·simp only[A8,grS]
  refine aY [] (by simp) ?_ ?_<;>simp[-map_map,upd,Γ0,aF,bY,hG]
 ·rintro⟨i,out⟩ ⟨hi,hoi,ho⟩
  simp only at hi ho hoi ⊢
  by_cases hgo:i<c.length
  ·have q1:(i:Int)<c.length:=by omega
   have hx:c[i]? = some c[i]:=Aa hgo
   have hw:Ah.wrap ((i:Int)+1)=(i:Int)+1:=aR (by omega) (by omega)
   have htk:=aYk hgo g
   rw[ho]at htk
   refine(show ∃ x,c[i]=x from⟨_,rfl⟩).elim fun x hxe=>?_
   rw[hxe]at hx htk
   have hyc:bJ x=[D.i .i64 x.id,.i .i64 x.dim,aG x.b]:=rfl
   have hS:=wI x.id
   have hlk':=fun H=>hlk H x.id
   have hm1:(1:Nat)≤maxLen:=aW (by decide)
   refine(show ∃ y,(kD g x.id).getD [(x.id,1)]=y from⟨_,rfl⟩).elim fun y hy=>?_
   rw[hy]at htk
   rcases hn:out with _|⟨o1,o2⟩
   ·rw[hn]at htk hoi
    simp only[A8,grS]
    rcases hgv:kD g x.id with _|v
    ·rw[hgv]at hlk' hy
     simp only[lkV]at hlk'
     simp[-map_map,-mapM_map,↓KW,aF,q1,hx,hyc,hw,hm1,hlk',aE,aB,aC]
     refine aA (ds:=[.i .i64 x.id]) (by rfl) hS ?_
     simp[-map_map,-mapM_map,↓KW,aF,q1,hx,hyc,hw,hm1,hlk',aE,aB,aC,aQ,bG]
     refine aJ (i+1,[(x.id,y)]) ⟨hgo,by simp only[Ar];simp at hoi;omega,htk⟩ (Ab hgo (Ad _)) ?_
     simp only[Ar,grS,bZ,fH,←hy]
     refine aY [3] (by simp) ?_ ?_<;>simp[-map_map,upd,aT,Γ0,aF]
    ·rw[hgv]at hlk' hy
     simp only[lkV]at hlk'
     have hy':v=y:=hy
     simp[-map_map,-mapM_map,↓KW,aF,q1,hx,hyc,hw,hm1,hlk',aE,aB,aC]
     refine aJ (i+1,[(x.id,y)]) ⟨hgo,by simp only[Ar];simp at hoi;omega,htk⟩ (Ab hgo (Ad _)) ?_
     simp only[Ar,grS,bZ,fH,←hy']
     refine aY [3] (by simp) ?_ ?_<;>simp[-map_map,upd,aT,Γ0,aF]
   ·rw[←hn]
    refine(show ∃ m,out.length=m+1 from⟨o2.length,by rw[hn];rfl⟩).elim fun m hm=>?_
    have hbb:=cC (n:=m+1) (by omega)
    have hb8:(m+1+1)*32≤140737488355328:=by omega
    have hcl:=cB jL out
    rw[hm]at hcl
    have hal:=dZ yR out
    have hfa:flt mO (out++[(x.id,y)])=flt mO out++[.i .i64 x.id,aG y]:=by rw[dP,bZ];rfl
    simp only[hm,grS]
    rcases hgv:kD g x.id with _|v
    ·rw[hgv]at hlk' hy
     simp only[lkV]at hlk'
     simp[-map_map,-mapM_map,↓KW,aF,q1,hx,hyc,hw,hm,hlk',hbb,hb8,hcl,hal,aW,aE,aB,aC]
     refine aA (ds:=[.i .i64 x.id]) (by rfl) hS ?_
     simp[-map_map,-mapM_map,↓KW,aF,q1,hx,hyc,hw,hm,hlk',hbb,hb8,hcl,hal,aW,aE,aB,aC,aQ,bG]
     refine aJ (i+1,out++[(x.id,y)]) ⟨hgo,by simp only[Al,Ar];omega,htk⟩ (Ab hgo (Ad _)) ?_
     simp only[Al,hm,Ar,grS,hfa,←hy]
     refine aY [4] (by simp) ?_ ?_<;>simp[-map_map,upd,aT,Γ0,aF,dP,bZ,fH]
    ·rw[hgv]at hlk' hy
     simp only[lkV]at hlk'
     have hy':v=y:=hy
     simp[-map_map,-mapM_map,↓KW,aF,q1,hx,hyc,hw,hm,hlk',hbb,hb8,hcl,hal,aW,aE,aB,aC]
     refine aJ (i+1,out++[(x.id,y)]) ⟨hgo,by simp only[Al,Ar];omega,htk⟩ (Ab hgo (Ad _)) ?_
     simp only[Al,hm,Ar,grS,hfa,←hy']
     refine aY [4] (by simp) ?_ ?_<;>simp[-map_map,upd,aT,Γ0,aF,dP,bZ,fH]
  ·have q1:¬(i:Int)<c.length:=by omega
   rw[Ai (by omega)]at ho
   rw[ho]
   rcases hn:out.length with _|m
   ·have e0:out=[]:=Au hn
    simp only[grS]
    simp[-map_map,-mapM_map,↓KW,aF,aV,q1,e0]
   ·have e1:=eR jL hn
    have e2:=eF (by decide) jL hn
    have e3:=cB jL out
    rw[hn]at e3
    simp only[grS]
    simp[-map_map,-mapM_map,↓KW,aF,aV,q1,e1,e2,e3,hn]
end Go.Am
end

section
set_option linter.unusedVariables false
set_option linter.unusedSimpArgs false
open List (map_map mapM_map)
open Go Go.Am Go.Proofs
namespace Go.Am
theorem rW{l:Ch}{e:Nat}(hb:Bnd (2^e) l)(hk:Keys l)(hl:l.length≤16384)(he:e+14<4398046511104):Spec Tryz.prog 31 [aG l] (aG (bV [] l)):=by
 have:=aRu l (2^e) (mM (e:=14+e) (lP (Ap hl (by decide))) (by omega)) hb hk (by omega)
 rwa [bNc]at this
theorem bQo:lG Tryz.prog 28:=by
 refine⟨fun w=>enters_of Tryz.func28 (by kernel_rfl) rfl _ w,fun w=>?_⟩
 refine callsD_of_wpS Tryz.func28 rfl fun c₀ cs hu=>?_
 apply wpS_region
 simp[wpOpsS,go_sem,recoverD,hu,Tryz.ntmps28,bodyPostS,results,Tryz.results28]
 cases c₀;simp only at hu;subst hu;rfl
def gr2(t1 t2:Nat)(sl:List (Nat×AV))(zb:HO)(e1:TypeId)(s1 n1:Nat)(c1:List D)(e2:TypeId)(s2 n2:Nat)(c2:List D):St:=match n1,n2 with
 |0,0=>StL ((t1,.nil)::(t2,.nil)::sl) none [zb]
 |0,n+1=>StL ((t1,.nil)::(t2,.own 2 0 (n+1) s2)::sl) none [zb,.cells e2 (c2.map .d)]
 |m+1,0=>StL ((t1,.own 2 0 (m+1) s1)::(t2,.nil)::sl) none [zb,.cells e1 (c1.map .d)]
 |m+1,n+1=>StL ((t1,.own 2 0 (m+1) s1)::(t2,.own 3 0 (n+1) s2)::sl) none [zb,.cells e1 (c1.map .d),.cells e2 (c2.map .d)]
theorem cG(x:Int×Int):(dK x).length=3:=rfl
theorem iJ(x:Int×Int):((dK x).map AV.d).all one=true:=rfl
theorem cS(x:Cl):(bJ x).length=3:=rfl
theorem pW(x:Cl):((bJ x).map AV.d).all one=true:=rfl
def fL(a b:Int)(f:Int×Int):Int×Int:=if f.1=b then(a,f.2)else f
def pR(a b:Int)(z:Cl):Cl:=⟨z.id,z.dim,bV [] (z.b.map (fL a b))⟩
def kR(c:List Cl)(a b:Int):List Cl:=(c.filter fun z=>!decide (z.id=b)).map (pR a b)
def bFr(c:List Cl)(a b:Int):List Cl×List (Int×Ch)×Int :=
 if(bW c a).isSome=false∨(bW c b).isSome=false then([],[],250)else if dOf c a≠dOf c b then([],[],260)else if a=b∨bOf c a≠bOf c b then([],[],310)else(kR c a b,dO c [(b,[(a,1)])],0)
def eG(r:List Cl×List (Int×Ch)×Int):D:=.tp [aF r.1,aV r.2.1,.i .i64 r.2.2]
theorem aBm{a b:Int}{M:Nat}{l:Ch}(h:Bnd M l):Bnd M (l.map (fL a b)):=fun x hx=>by
 obtain⟨y,hy,rfl⟩:=AE.1 hx
 unfold fL;split<;>exact h y hy
theorem aFq{a b:Int}{l:Ch}(h:Keys l)(ha:inr a=true):Keys (l.map (fL a b)):=fun x hx=>by
 obtain⟨y,hy,rfl⟩:=AE.1 hx
 unfold fL;split
 ·exact ha
 ·exact h y hy
theorem gV(H : Nat → Option HO)(n id : Nat) : vis H (n + 1) (.mp id) = match H id with
      |some (.map _ es)=>id::(es.map (·.2)).flatMap (vis H n)
      |_=>[]:=rfl
theorem eE(m:List (Int×Ch)):inj (aV m)=.d (aV m):=rfl
theorem dB(H:Nat→Option HO)(avs:List AV)(m:List (Int×Ch)):cE H avs (aV m)=gT H avs:=rfl
theorem dA(n:Int)(v:AV):pJ [] n v=[(n,v)]:=rfl
theorem aYz{c:List Cl}{i:Nat}(h:i<c.length)(a b:Int):kR (c.take (i+1)) a b=kR (c.take i) a b++if c[i].id=b then[]else[pR a b c[i]]:=by
 unfold kR
 rw[AJ,Aa h,BT,By]
 congr 1
 by_cases e:c[i].id=b<;>simp[e]
theorem aNq(c:List Cl)(a b:Int):(kR c a b).length≤c.length:=by
 unfold kR;rw[AN];exact List.length_filter_le _ _
set_option maxHeartbeats 4000000 in
set_option maxRecDepth 10000 in
theorem aQs{c:List Cl}{e:Nat}(a b:Int)(hc:Inc c)(hz:SzX e c)(hk:∀ x∈c,Keys x.b)(ha:inr a=true)(he:e+14<4398046511104):Spec Tryz.prog 8 [aF c,.i .i64 a,.i .i64 b] (eG (bFr c a b)):=by
 have hlen:=hz.len
 have hFa:=vG hc a (by omega)
 have hFb:=vG hc b (by omega)
 have hr:∃ p x q y,(bW c a).isSome=p∧(bW c a).getD pH=x∧(bW c b).isSome=q∧(bW c b).getD pH=y:=⟨_,_,_,_,rfl,rfl,rfl,rfl⟩
 obtain⟨p,x,q,y,hp,hx,hq,hy⟩:=hr
 have hda:dOf c a=x.dim:=by unfold dOf;rw[hx]
 have hdb:dOf c b=y.dim:=by unfold dOf;rw[hy]
 have hba:bOf c a=x.b:=by unfold bOf;rw[hx]
 have hbb:bOf c b=y.b:=by unfold bOf;rw[hy]
 have hxl:x.b.length≤100:=by rw[←hba];exact uC hz.bl a
 have hxs:∀ f∈x.b,Sz f.2:=by rw[←hba];exact(oR hz.bb a).sz (by omega)
 have hys:∀ f∈y.b,Sz f.2:=by rw[←hbb];exact(oR hz.bb b).sz (by omega)
 have hE:=bMy hxs hys (by omega)
 unfold vB at hFa hFb
 rw[hp,hx]at hFa
 rw[hq,hy]at hFb
 unfold bFr
 rw[hp,hq,hda,hdb,hba,hbb]
 refine nH (N:=100) aI Tryz.func8 rfl rfl rfl (by kernel_rfl) (by kernel_rfl) (by kernel_rfl) (by kernel_rfl) rfl bQo (by simp) ?_
 simp[-map_map,-mapM_map,↓KW,aF]
 refine aA (ds:=[aF c,.i .i64 a]) (by rfl) hFa ?_
 simp[-map_map,-mapM_map,↓KW,aF,bS,aE,aB,aC]
 refine aA (ds:=[aF c,.i .i64 b]) (by rfl) hFb ?_
 cases p with
 |false=>simp[-map_map,-mapM_map,↓KW,aF,bS,aE,aB,aC,cN,eG,aV]
 |true =>
  cases q with
  |false=>simp[-map_map,-mapM_map,↓KW,aF,bS,aE,aB,aC,cN,eG,aV]
  |true =>
   by_cases h1:x.dim=y.dim
   rotate_left
   ·have h1':((x.dim != y.dim):Bool)=true:=by simpa using h1
    simp[-map_map,-mapM_map,↓KW,aF,bS,aE,aB,aC,cN,eG,aV,h1',h1]
   ·have h1':((x.dim != y.dim):Bool)=false:=by simpa using h1
    by_cases h2:a=b
    ·have h2':((a==b):Bool)=true:=by simpa using h2
     simp[-map_map,-mapM_map,↓KW,aF,bS,aE,aB,aC,cN,eG,aV,h1',h1,h2',h2]
    ·have h2':((a==b):Bool)=false:=by simpa using h2
     simp[-map_map,-mapM_map,↓KW,aF,bS,aE,aB,aC,cN,eG,aV,h1',h1,h2',h2]
     refine aA (ds:=[aG x.b,aG y.b]) (by rfl) hE ?_
     by_cases h3:x.b=y.b
     rotate_left
     ·rw[Bq h3]
      simp[-map_map,-mapM_map,↓KW,aF,bS,aE,aB,aC,cN,eG,aV,h1',h1,h2',h2,h3]
     ·rw[BA h3]
      simp[-map_map,-mapM_map,↓KW,aF,bS,aE,aB,aC,cN,eG,aV,h1',h1,h2',h2,h3]
      clear hFa hFb hE hp hq hx hy hda hdb hba hbb hxl hxs hys h1' h2'
      refine aU (fun y:Nat×List Cl=>y.1≤c.length∧kR (c.take y.1) a b=y.2) (fun y=>grS 13 [(0,.d (aF c)),(1,.d (.i .i64 a)),(2,.d (.i .i64 b)),(53,.d (aF c)),(54,.d (.i .i64 c.length)),(55,.d (.i .i64 (y.1:Int)))] 43 3 y.2.length (flt bJ y.2)) (fun y=>c.length-y.1) (0,[]) ⟨An _,rfl⟩ ?_ ?_
      ·simp only[A8,grS]
       refine aY [] (by simp) ?_ ?_<;>simp[-map_map,upd,aT,Γ0,aF,bY]
      ·rintro⟨i,out⟩ ⟨hi,ho⟩
       simp only at hi ho ⊢
       by_cases hgo:i<c.length
       ·have q1:(i:Int)<c.length:=by omega
        have hx:c[i]? = some c[i]:=Aa hgo
        have hw:Ah.wrap ((i:Int)+1)=(i:Int)+1:=aR (by omega) (by omega)
        have htk:=aYz hgo a b
        rw[ho]at htk
        have hln:out.length≤i:=by rw[←ho];exact Ap (aNq _ _ _) (by simp;omega)
        have hzl:=hz.bl _ (Ak hgo)
        have hzb:=hz.bb _ (Ak hgo)
        have hzk:=hk _ (Ak hgo)
        refine(show ∃ z,c[i]=z from⟨_,rfl⟩).elim fun z hze=>?_
        rw[hze]at hx htk hzl hzb hzk
        have hyc:bJ z=[D.i .i64 z.id,.i .i64 z.dim,aG z.b]:=rfl
        by_cases h0:z.id=b
        ·have h0':((z.id==b):Bool)=true:=by simpa using h0
         rw[Ag h0,Bd]at htk
         have q3:(((b:Int)==(b:Int)):Bool)=true:=by simp
         rcases hn:out.length with _|m
         ·simp only[hn,grS]
          simp[-map_map,-mapM_map,↓KW,aF,q1,hx,hyc,h0,h0',q3,hw,aE,aB,aC]
          refine aJ (i+1,out) ⟨hgo,htk⟩ (Ab hgo (Ad _)) ?_
          simp only[hn,grS]
          refine aY [] (by simp) ?_ ?_<;>simp[-map_map,upd,aT,Γ0,aF,bY]
         ·simp only[hn,grS]
          simp[-map_map,-mapM_map,↓KW,aF,q1,hx,hyc,h0,h0',q3,hw,aE,aB,aC]
          refine aJ (i+1,out) ⟨hgo,htk⟩ (Ab hgo (Ad _)) ?_
          simp only[hn,grS]
          refine aY [1] (by simp) ?_ ?_<;>simp[-map_map,upd,aT,Γ0,aF,bY]
        ·have h0':((z.id==b):Bool)=false:=by simpa using h0
         rw[Ae h0]at htk
         rcases hn:out.length with _|m
         ·simp only[hn,grS]
          simp[-map_map,-mapM_map,↓KW,aF,aG,q1,hx,hyc,h0,h0',hw,aE,aB,aC]
          refine aU (fun y:Nat×Ch=>y.1≤z.b.length∧y.2.length=y.1∧(z.b.take y.1).map (fL a b)=y.2) (fun y=>gr2 13 16 [(0,.d (aF c)),(1,.d (.i .i64 a)),(2,.d (.i .i64 b)),(15,.ptr 1 0),(53,.d (aF c)),(54,.d (.i .i64 c.length)),(55,.d (.i .i64 (i:Int))),(64,.d (aG z.b)),(65,.d (.i .i64 z.b.length)),(66,.d (.i .i64 (y.1:Int)))] (.cells 43 [.d (.i .i64 z.id),.d (.i .i64 z.dim),.d (aG z.b)]) 43 3 out.length (flt bJ out) 76 3 y.2.length (flt dK y.2)) (fun y=>z.b.length-y.1) (0,[]) ⟨An _,rfl,rfl⟩ ?_ ?_
          ·simp only[A8,hn,gr2]
           refine aY [1] (by simp) ?_ ?_<;>simp[-map_map,upd,aT,Γ0,aF,aG,bY]
          ·rintro⟨j,l⟩ ⟨hj,hlj,hl⟩
           simp only at hj hlj hl ⊢
           by_cases hgo2:j<z.b.length
           ·have q2:(j:Int)<z.b.length:=by omega
            have hf:z.b[j]? = some z.b[j]:=Aa hgo2
            have hw2:Ah.wrap ((j:Int)+1)=(j:Int)+1:=aR (by omega) (by omega)
            have htk2:(z.b.take (j+1)).map (fL a b)=l++[fL a b z.b[j]]:=by rw[AJ,hf,By,hl];rfl
            refine(show ∃ f,z.b[j]=f from⟨_,rfl⟩).elim fun f hfe=>?_
            rw[hfe]at hf htk2
            have hef:dK f=[.i .i64 f.1,.b (decide (f.2<0)),aN (aX f.2.natAbs)]:=rfl
            have hm1:(1:Nat)≤maxLen:=aW (by decide)
            have hll:(l++[fL a b f]).length=j+1:=by rw[Al,hlj];rfl
            by_cases h5:f.1=b
            ·have h5':((f.1==b):Bool)=true:=by simpa using h5
             have q3:(((b:Int)==(b:Int)):Bool)=true:=by simp
             have hrf:fL a b f=(a,f.2):=by unfold fL;rw[Ag h5]
             rcases hn2:l.length with _|k
             ·have e0:l=[]:=Au hn2
              simp only[hn,gr2]
              simp[-map_map,-mapM_map,↓KW,aF,aG,q2,hf,hef,h5,h5',q3,hw2,hm1,aE,aB,aC,aK,aD,aM]
              obtain rfl:j=0:=by omega
              refine aJ (τ:=Nat×Ch) (0+1,l++[fL a b f]) ⟨hgo2,hll,htk2⟩ (Ab hgo2 (Ad _)) ?_
              simp only[hll,hn,gr2]
              refine aY [1,4] (by simp) ?_ ?_<;>simp[-map_map,upd,aT,Γ0,aF,aG,e0,bZ,bB,hrf]
             ·have hbb:=cC (n:=k+1) (by omega)
              have hcl:=cB cG l
              rw[hn2]at hcl
              have hal:=dZ iJ l
              simp only[hn,gr2]
              simp[-map_map,-mapM_map,↓KW,aF,aG,q2,hf,hef,h5,h5',q3,hw2,hm1,hbb,hcl,hal,aW,aE,aB,aC,aK,aD,aM]
              obtain rfl:j=k+1:=by omega
              refine aJ (τ:=Nat×Ch) (k+1+1,l++[fL a b f]) ⟨hgo2,hll,htk2⟩ (Ab hgo2 (Ad _)) ?_
              simp only[hll,hn,gr2]
              refine aY [1,5] (by simp) ?_ ?_<;>simp[-map_map,upd,aT,Γ0,aF,aG,dP,bZ,bB,hrf]
            ·have h5':((f.1==b):Bool)=false:=by simpa using h5
             have hrf:fL a b f=f:=by unfold fL;rw[Ae h5]
             rcases hn2:l.length with _|k
             ·have e0:l=[]:=Au hn2
              simp only[hn,gr2]
              simp[-map_map,-mapM_map,↓KW,aF,aG,q2,hf,hef,h5,h5',hw2,hm1,aE,aB,aC,aK,aD,aM]
              obtain rfl:j=0:=by omega
              refine aJ (τ:=Nat×Ch) (0+1,l++[fL a b f]) ⟨hgo2,hll,htk2⟩ (Ab hgo2 (Ad _)) ?_
              simp only[hll,hn,gr2]
              refine aY [1,4] (by simp) ?_ ?_<;>simp[-map_map,upd,aT,Γ0,aF,aG,e0,bZ,bB,hrf]
             ·have hbb:=cC (n:=k+1) (by omega)
              have hcl:=cB cG l
              rw[hn2]at hcl
              have hal:=dZ iJ l
              simp only[hn,gr2]
              simp[-map_map,-mapM_map,↓KW,aF,aG,q2,hf,hef,h5,h5',hw2,hm1,hbb,hcl,hal,aW,aE,aB,aC,aK,aD,aM]
              obtain rfl:j=k+1:=by omega
              refine aJ (τ:=Nat×Ch) (k+1+1,l++[fL a b f]) ⟨hgo2,hll,htk2⟩ (Ab hgo2 (Ad _)) ?_
              simp only[hll,hn,gr2]
              refine aY [1,5] (by simp) ?_ ?_<;>simp[-map_map,upd,aT,Γ0,aF,aG,dP,bZ,bB,hrf]
           ·have q2:¬(j:Int)<z.b.length:=by omega
            rw[Ai (by omega)]at hl
            have hM:=rW (l:=l) (e:=e) (by rw[←hl];exact aBm hzb) (by rw[←hl];exact aFq hzk ha) (by omega) he
            have htk':kR (c.take (i+1)) a b=out++[⟨z.id,z.dim,bV [] l⟩]:=by rw[htk];unfold pR;rw[hl]
            have hcl1:=cB cS out
            have hal1:=dZ pW out
            rw[hn]at hcl1
            refine(show ∃ r,bV [] l=r from⟨_,rfl⟩).elim fun r hr=>?_
            rw[hr]at hM htk'
            have hm1:(1:Nat)≤maxLen:=aW (by decide)
            rcases hn2:l.length with _|k
            ·have e0:l=[]:=Au hn2
             rw[e0]at hM
             simp only[hn,gr2]
             simp[-map_map,-mapM_map,↓KW,aF,aG,q2,aE,aB,aC]
             refine aA (ds:=[aG []]) (by rfl) hM ?_
             have eo:out=[]:=Au hn
             rw[eo]at htk'
             simp[-map_map,-mapM_map,↓KW,aF,aG,hm1,hm1,hw,aQ,bG,aE,aB,aC]
             refine aJ (i+1,[⟨z.id,z.dim,r⟩]) ⟨hgo,htk'⟩ (Ab hgo (Ad _)) ?_
             simp only[Ar,grS,bZ,bS]
             refine aY [3] (by simp) ?_ ?_<;>simp[-map_map,upd,aT,Γ0,aF,aG]
            ·have e1:=eR cG hn2
             have e2:=eF (by decide) cG hn2
             have e3:=cB cG l
             rw[hn2]at e3
             simp only[hn,gr2]
             simp[-map_map,-mapM_map,↓KW,aF,aG,q2,aE,aB,aC]
             refine aA (ds:=[aG l]) (by simp[-map_map,-mapM_map,aG,upd,e1,e2,e3]) hM ?_
             have eo:out=[]:=Au hn
             rw[eo]at htk'
             simp[-map_map,-mapM_map,↓KW,aF,aG,e1,hm1,hw,aQ,bG,aE,aB,aC]
             refine aJ (i+1,[⟨z.id,z.dim,r⟩]) ⟨hgo,htk'⟩ (Ab hgo (Ad _)) ?_
             simp only[Ar,grS,bZ,bS]
             refine aY [4] (by simp) ?_ ?_<;>simp[-map_map,upd,aT,Γ0,aF,aG]
         ·simp only[hn,grS]
          simp[-map_map,-mapM_map,↓KW,aF,aG,q1,hx,hyc,h0,h0',hw,aE,aB,aC]
          refine aU (fun y:Nat×Ch=>y.1≤z.b.length∧y.2.length=y.1∧(z.b.take y.1).map (fL a b)=y.2) (fun y=>gr2 13 16 [(0,.d (aF c)),(1,.d (.i .i64 a)),(2,.d (.i .i64 b)),(15,.ptr 1 0),(53,.d (aF c)),(54,.d (.i .i64 c.length)),(55,.d (.i .i64 (i:Int))),(64,.d (aG z.b)),(65,.d (.i .i64 z.b.length)),(66,.d (.i .i64 (y.1:Int)))] (.cells 43 [.d (.i .i64 z.id),.d (.i .i64 z.dim),.d (aG z.b)]) 43 3 out.length (flt bJ out) 76 3 y.2.length (flt dK y.2)) (fun y=>z.b.length-y.1) (0,[]) ⟨An _,rfl,rfl⟩ ?_ ?_
          ·simp only[A8,hn,gr2]
           refine aY [2,1] (by simp) ?_ ?_<;>simp[-map_map,upd,aT,Γ0,aF,aG,bY]
          ·rintro⟨j,l⟩ ⟨hj,hlj,hl⟩
           simp only at hj hlj hl ⊢
           by_cases hgo2:j<z.b.length
           ·have q2:(j:Int)<z.b.length:=by omega
            have hf:z.b[j]? = some z.b[j]:=Aa hgo2
            have hw2:Ah.wrap ((j:Int)+1)=(j:Int)+1:=aR (by omega) (by omega)
            have htk2:(z.b.take (j+1)).map (fL a b)=l++[fL a b z.b[j]]:=by rw[AJ,hf,By,hl];rfl
            refine(show ∃ f,z.b[j]=f from⟨_,rfl⟩).elim fun f hfe=>?_
            rw[hfe]at hf htk2
            have hef:dK f=[.i .i64 f.1,.b (decide (f.2<0)),aN (aX f.2.natAbs)]:=rfl
            have hm1:(1:Nat)≤maxLen:=aW (by decide)
            have hll:(l++[fL a b f]).length=j+1:=by rw[Al,hlj];rfl
            by_cases h5:f.1=b
            ·have h5':((f.1==b):Bool)=true:=by simpa using h5
             have q3:(((b:Int)==(b:Int)):Bool)=true:=by simp
             have hrf:fL a b f=(a,f.2):=by unfold fL;rw[Ag h5]
             rcases hn2:l.length with _|k
             ·have e0:l=[]:=Au hn2
              simp only[hn,gr2]
              simp[-map_map,-mapM_map,↓KW,aF,aG,q2,hf,hef,h5,h5',q3,hw2,hm1,aE,aB,aC,aK,aD,aM]
              obtain rfl:j=0:=by omega
              refine aJ (τ:=Nat×Ch) (0+1,l++[fL a b f]) ⟨hgo2,hll,htk2⟩ (Ab hgo2 (Ad _)) ?_
              simp only[hll,hn,gr2]
              refine aY [1,2,5] (by simp) ?_ ?_<;>simp[-map_map,upd,aT,Γ0,aF,aG,e0,bZ,bB,hrf]
             ·have hbb:=cC (n:=k+1) (by omega)
              have hcl:=cB cG l
              rw[hn2]at hcl
              have hal:=dZ iJ l
              simp only[hn,gr2]
              simp[-map_map,-mapM_map,↓KW,aF,aG,q2,hf,hef,h5,h5',q3,hw2,hm1,hbb,hcl,hal,aW,aE,aB,aC,aK,aD,aM]
              obtain rfl:j=k+1:=by omega
              refine aJ (τ:=Nat×Ch) (k+1+1,l++[fL a b f]) ⟨hgo2,hll,htk2⟩ (Ab hgo2 (Ad _)) ?_
              simp only[hll,hn,gr2]
              refine aY [1,2,6] (by simp) ?_ ?_<;>simp[-map_map,upd,aT,Γ0,aF,aG,dP,bZ,bB,hrf]
            ·have h5':((f.1==b):Bool)=false:=by simpa using h5
             have hrf:fL a b f=f:=by unfold fL;rw[Ae h5]
             rcases hn2:l.length with _|k
             ·have e0:l=[]:=Au hn2
              simp only[hn,gr2]
              simp[-map_map,-mapM_map,↓KW,aF,aG,q2,hf,hef,h5,h5',hw2,hm1,aE,aB,aC,aK,aD,aM]
              obtain rfl:j=0:=by omega
              refine aJ (τ:=Nat×Ch) (0+1,l++[fL a b f]) ⟨hgo2,hll,htk2⟩ (Ab hgo2 (Ad _)) ?_
              simp only[hll,hn,gr2]
              refine aY [1,2,5] (by simp) ?_ ?_<;>simp[-map_map,upd,aT,Γ0,aF,aG,e0,bZ,bB,hrf]
             ·have hbb:=cC (n:=k+1) (by omega)
              have hcl:=cB cG l
              rw[hn2]at hcl
              have hal:=dZ iJ l
              simp only[hn,gr2]
              simp[-map_map,-mapM_map,↓KW,aF,aG,q2,hf,hef,h5,h5',hw2,hm1,hbb,hcl,hal,aW,aE,aB,aC,aK,aD,aM]
              obtain rfl:j=k+1:=by omega
              refine aJ (τ:=Nat×Ch) (k+1+1,l++[fL a b f]) ⟨hgo2,hll,htk2⟩ (Ab hgo2 (Ad _)) ?_
              simp only[hll,hn,gr2]
              refine aY [1,2,6] (by simp) ?_ ?_<;>simp[-map_map,upd,aT,Γ0,aF,aG,dP,bZ,bB,hrf]
           ·have q2:¬(j:Int)<z.b.length:=by omega
            rw[Ai (by omega)]at hl
            have hM:=rW (l:=l) (e:=e) (by rw[←hl];exact aBm hzb) (by rw[←hl];exact aFq hzk ha) (by omega) he
            have htk':kR (c.take (i+1)) a b=out++[⟨z.id,z.dim,bV [] l⟩]:=by rw[htk];unfold pR;rw[hl]
            have hcl1:=cB cS out
            have hal1:=dZ pW out
            rw[hn]at hcl1
            refine(show ∃ r,bV [] l=r from⟨_,rfl⟩).elim fun r hr=>?_
            rw[hr]at hM htk'
            have hm1:(1:Nat)≤maxLen:=aW (by decide)
            rcases hn2:l.length with _|k
            ·have e0:l=[]:=Au hn2
             rw[e0]at hM
             simp only[hn,gr2]
             simp[-map_map,-mapM_map,↓KW,aF,aG,q2,aE,aB,aC]
             refine aA (ds:=[aG []]) (by rfl) hM ?_
             have hbb:=cC (n:=m+1) (by omega)
             simp[-map_map,-mapM_map,↓KW,aF,aG,hm1,hm1,hw,hbb,hcl1,hal1,aW,aQ,bG,aE,aB,aC]
             refine aJ (i+1,out++[⟨z.id,z.dim,r⟩]) ⟨hgo,htk'⟩ (Ab hgo (Ad _)) ?_
             simp only[Al,hn,Ar,grS,dP,bZ,bS]
             refine aY [4] (by simp) ?_ ?_<;>simp[-map_map,upd,aT,Γ0,aF,aG]
            ·have e1:=eR cG hn2
             have e2:=eF (by decide) cG hn2
             have e3:=cB cG l
             rw[hn2]at e3
             simp only[hn,gr2]
             simp[-map_map,-mapM_map,↓KW,aF,aG,q2,aE,aB,aC]
             refine aA (ds:=[aG l]) (by simp[-map_map,-mapM_map,aG,upd,e1,e2,e3]) hM ?_
             have hbb:=cC (n:=m+1) (by omega)
             simp[-map_map,-mapM_map,↓KW,aF,aG,e1,hm1,hw,hbb,hcl1,hal1,aW,aQ,bG,aE,aB,aC]
             refine aJ (i+1,out++[⟨z.id,z.dim,r⟩]) ⟨hgo,htk'⟩ (Ab hgo (Ad _)) ?_
             simp only[Al,hn,Ar,grS,dP,bZ,bS]
             refine aY [5] (by simp) ?_ ?_<;>simp[-map_map,upd,aT,Γ0,aF,aG]
       ·have q1:¬(i:Int)<c.length:=by omega
        rw[Ai (by omega)]at ho
        have hSg:=wI a
        have hMp:=lQ c [(b,[(a,1)])] (kG [(b,[(a,1)])]) rfl (aGp _) (by omega)
        rcases hn:out.length with _|m
        ·have e0:out=[]:=Au hn
         have e1:out=[]:=e0
         simp only[grS]
         simp[-map_map,-mapM_map,↓KW,aF,q1,cD,cJ]
         refine aA (ds:=[.i .i64 a]) (by rfl) hSg ?_
         simp[-map_map,-mapM_map,↓KW,aF,q1,cD,cJ,dA,aQ,bG,aE,aB,aC]
         refine aA (ds:=[aF c,kG [(b,[(a,1)])]]) (by rfl) hMp ?_
         simp[-map_map,-mapM_map,↓KW,aF,q1,cD,cJ,dA,e1,e0,aQ,bG,aE,aB,aC,eE,dB,gV,cN,eG,h1,h2,h3,ho]
         rfl
        ·have e1:=eR cS hn
         have e2:=eF (by decide) cS hn
         have e3:=cB cS out
         rw[hn]at e3
         simp only[grS]
         simp[-map_map,-mapM_map,↓KW,aF,q1,cD,cJ]
         refine aA (ds:=[.i .i64 a]) (by rfl) hSg ?_
         simp[-map_map,-mapM_map,↓KW,aF,q1,cD,cJ,dA,aQ,bG,aE,aB,aC]
         refine aA (ds:=[aF c,kG [(b,[(a,1)])]]) (by rfl) hMp ?_
         simp[-map_map,-mapM_map,↓KW,aF,q1,cD,cJ,dA,e1,hn,e2,e3,aQ,bG,aE,aB,aC,eE,dB,gV,cN,eG,h1,h2,h3,ho]
         rfl
end Go.Am
end

section
set_option linter.unusedVariables false
set_option linter.unusedSimpArgs false
open Go Go.Am Go.Proofs
namespace Go.Am
def oX(c:List Cl)(x:Cl):List Cl:=(c.takeWhile fun y=>decide (y.id<x.id))++x::c.dropWhile fun y=>decide (y.id<x.id)
theorem rR(c:List Cl)(x:Cl):(oX c x).Perm (x::c):=by
 unfold oX
 refine List.perm_middle.trans ?_
 rw[List.takeWhile_append_dropWhile]
theorem aMc(y:Cl)(c:List Cl)(x:Cl):oX (y::c) x=if y.id<x.id then y::oX c x else x::y::c:=by
 unfold oX
 by_cases h:y.id<x.id<;>simp[List.takeWhile_cons,List.dropWhile_cons,h]
theorem aBs{c:List Cl}{x y:Cl}:y∈oX c x↔y=x∨y∈c:=by rw[(rR c x).mem_iff,AD]
theorem aBt{c:List Cl}{x:Cl}(hc:Inc c)(hx:∀ y∈c,y.id≠x.id):Inc (oX c x):=by
 induction c with
 |nil=>simp[oX,Inc]
 |cons y c ih =>
  obtain⟨h1,h2⟩:=A5.1 hc
  rw[aMc]
  have hne:=hx y (Av ..)
  by_cases h:y.id<x.id
  ·rw[Ag h]
   refine A5.2 ⟨fun z hz=>?_,ih h2 fun z hz=>hx z (As _ hz)⟩
   rcases aBs.1 hz with rfl|hz
   ·exact h
   ·exact h1 z hz
  ·rw[Ae h]
   refine A5.2 ⟨fun z hz=>?_,hc⟩
   rcases AD.1 hz with rfl|hz
   ·omega
   ·have:=h1 z hz;omega
def aIo(l:Ch):Ch:=l.filter fun f=>decide (0<f.2)
def aNb(l:Ch):Ch:=l.filter fun f=>!decide (0<f.2)
def mT(w0:Int)(l:Ch):Ch:=(w0,1)::aNb l
def lM(w0:Int)(l:Ch):Ch:=(w0,-1)::aIo l
def adF(e w1:Int)(l:Ch):Ch:=(l.filter fun f=>decide (f.1=e)).map fun f=>(w1,f.2)
def subL(e w0 w1:Int)(xb:Ch)(z:Cl):Ch:=if z.id=e then mT w0 xb else z.b++adF e w1 z.b
def jT(e w0 w1:Int)(xb:Ch)(z:Cl):Cl:=⟨z.id,z.dim,bV [] (subL e w0 w1 xb z)⟩
def aPp(w0:Int):Cl:=⟨w0,0,[]⟩
def aKx(w0 w1:Int)(xb:Ch):Cl:=⟨w1,1,bV [] (lM w0 xb)⟩
def aId(c:List Cl)(e w0 w1:Int):List Cl:=[aPp w0,aKx w0 w1 (bOf c e)]++c.map (jT e w0 w1 (bOf c e))
def mU(c:List Cl)(e w0 w1:Int):List Cl:=oX (oX (c.map (jT e w0 w1 (bOf c e))) (aPp w0)) (aKx w0 w1 (bOf c e))
def bKn(c:List Cl)(e w0 w1:Int):List Cl×List (Int×Ch)×Int :=
 if(bW c e).isSome=false then([],[],250)else if dOf c e≠1 then([],[],260)else if w0=w1∨kn c w0=true∨kn c w1=true then([],[],253)else if 398<c.length then([],[],2)
 else(mU c e w0 w1,dO c [(e,bV [(e,1)] (mulR 1 [(w1,1)]))],0)
theorem tB(c:List Cl)(e w0 w1:Int):(mU c e w0 w1).Perm (aId c e w0 w1):=by
 unfold mU aId
 refine(rR _ _).trans (((rR _ _).cons _).trans ?_)
 exact .swap ..
theorem aNk{c:List Cl}{n:Int}(h:kn c n=false):∀ y∈c,y.id≠n:=by
 unfold kn at h
 exact aDa (by simpa using h)
theorem aKz{c:List Cl}{e w0 w1:Int}(hc:Inc c)(h0:kn c w0=false)(h1:kn c w1=false)(h:w0≠w1):Inc (mU c e w0 w1):=by
 have hm:Inc (c.map (jT e w0 w1 (bOf c e))):=Cs.2 hc
 refine aBt (aBt hm fun y hy=>?_) fun y hy=>?_
 ·obtain⟨z,hz,rfl⟩:=AE.1 hy
  exact aNk h0 z hz
 ·rcases aBs.1 hy with rfl|hy
  ·exact h
  ·obtain⟨z,hz,rfl⟩:=AE.1 hy
   exact aNk h1 z hz
theorem aKy(c:List Cl)(e w0 w1:Int):(mU c e w0 w1).length=c.length+2:=by
 rw[(tB c e w0 w1).length_eq];simp[aId]
theorem bAz(c:List Cl)(e w0 w1:Int):(aId c e w0 w1).length=c.length+2:=by
 simp[aId]
end Go.Am
end

section
set_option linter.unusedVariables false
set_option linter.unusedSimpArgs false
open List (map_map mapM_map)
open Go Go.Am Go.Proofs
namespace Go.Am
set_option maxHeartbeats 1000000 in
set_option maxRecDepth 10000 in
theorem aIk(a b:List (Int×Int))(ha:∀ x∈a,Sz x.2)(hb:∀ x∈b,Sz x.2)(hl:a.length≤1073741824)(hl2:b.length≤1073741824):Spec Tryz.prog 21 [aG a,aG b] (.b (decide (a=b))):=by
 refine aZ (N:=42) aI Tryz.func21 rfl rfl rfl (by kernel_rfl) (by kernel_rfl) (by simp) ?_
 by_cases hn:a.length=b.length
 rotate_left
 ·have h1:((a.length:Int) != b.length)=true:=by simp;omega
  have h2:¬a=b:=fun e=>hn (by rw[e])
  simp[-map_map,-mapM_map,↓KW,aG,h1,h2]
 ·have h1:((a.length:Int) != b.length)=false:=by simp;omega
  simp[-map_map,-mapM_map,↓KW,aG,h1]
  refine aU (fun i:Nat=>i≤a.length∧a.take i=b.take i) (fun i=>StL [(0,.d (aG a)),(1,.d (aG b)),(5,.d (.i .i64 i))] none []) (fun i=>a.length-i) 0 ⟨An _,by simp⟩ ?_ ?_
  ·refine aY [] (by simp) ?_ ?_<;>simp[-map_map,upd,aT,Γ0,aG]
  ·rintro i ⟨hi,ht⟩
   by_cases hgo:i<a.length
   ·have hgb:i<b.length:=by omega
    have q1:(i:Int)<a.length:=by omega
    have hw7:Ah.wrap ((i:Int)+1)=(i:Int)+1:=aR (by omega) (by omega)
    have g1:a[i]? = some a[i]:=Aa hgo
    have g2:b[i]? = some b[i]:=Aa hgb
    have hsx:=ha _ (Ak hgo)
    have hsy:=hb _ (Ak hgb)
    have hne:a[i]≠b[i]→¬a=b:=fun h e=>h (by subst e;rfl)
    have hta:a[i]=b[i]→a.take (i+1)=b.take (i+1):=fun e=>by rw[AJ,AJ,ht,g1,g2,e]
    generalize a[i]=x at *
    generalize b[i]=y at *
    obtain⟨xi,xc⟩:=x
    obtain⟨yi,yc⟩:=y
    simp only at hsx hsy
    by_cases h2:xi=yi
    ·have h3:(xi != yi)=false:=by simpa using h2
     simp[-map_map,-mapM_map,↓KW,aG,q1,g1,g2,h3,bB,aK,aD]
     refine aA (ds:=[encZ xc,encZ yc]) (by rfl) (aBp xc yc (Ap hsx (by decide)) (Ap hsy (by decide))) ?_
     by_cases h4:xc=yc
     ·have h5:=hta (by rw[h2,h4])
      simp[-map_map,-mapM_map,↓KW,h4,hw7]
      refine aJ (i+1) ⟨hgo,h5⟩ (Ab hgo (Ad i)) (aY [] (by simp) ?_ ?_)<;>simp[-map_map,upd,aT,Γ0,aG]
     ·have h5:=hne (fun e=>h4 (by injection e))
      simp[-map_map,-mapM_map,↓KW,h4,h5]
    ·have h3:(xi != yi)=true:=by simpa using h2
     have h5:=hne (fun e=>h2 (by injection e))
     simp[-map_map,-mapM_map,↓KW,aG,q1,g1,g2,h3,h5,bB,aK,aD]
   ·have q1:¬(i:Int)<a.length:=by omega
    have e:a=b:=by rwa [Ai (by omega),Ai (by omega)]at ht
    subst e
    simp[-map_map,-mapM_map,↓KW,aG,q1]
set_option maxHeartbeats 2000000 in
set_option maxRecDepth 10000 in
theorem oW(l:List (Int×Int))(hs:∀ x∈l,Sz x.2)(hl:l.length≤1073741824):Spec Tryz.prog 34 [aG l] (.b (uQ l)):=by
 refine aZ (N:=44) aI Tryz.func34 rfl rfl rfl (by kernel_rfl) (by kernel_rfl) (by simp) ?_
 simp[-map_map,-mapM_map,↓KW,aG]
 refine aU (fun i:Nat=>i≤l.length∧∀ j,j<i→aMm l j=true) (fun i=>StL [(0,.d (aG l)),(3,.d (.i .i64 i))] none []) (fun i=>l.length-i) 0 ⟨An _,fun j h=>by omega⟩ ?_ ?_
 ·refine aY [] (by simp) ?_ ?_<;>simp[-map_map,upd,aT,Γ0,aG]
 ·rintro i ⟨hi,hok⟩
  by_cases hgo:i<l.length
  ·have q1:(i:Int)<l.length:=by omega
   have hw7:Ah.wrap ((i:Int)+1)=(i:Int)+1:=aR (by omega) (by omega)
   have g1:=bFw hgo
   have hsx:Sz (l.getD i (0,0)).2:=hs _ (Aq g1)
   have hoka:aMm l i=(decide ((l.getD i (0,0)).2≠0)&&(decide (i=0)||decide ((l.getD (i-1) (0,0)).1<(l.getD i (0,0)).1))):=rfl
   have hfalse:=aHw hgo
   have hnext:aMm l i=true→∀ j,j<i+1→aMm l j=true:=fun h j hj=>by
    rcases Bc j i with h2|h2
    ·exact hok j h2
    ·have:j=i:=by omega
     subst this;exact h
   rcases i with _|k
   ·cases l with
    |nil=>simp at hgo
    |cons x rest =>
     obtain⟨xi,xc⟩:=x
     have hd:(((xi,xc)::rest).getD 0 (0,0))=(xi,xc):=rfl
     rw[hd]at hsx hoka
     simp only at hsx hoka
     have q1':(0:Int)<(rest.length:Int)+1:=by omega
     have hw8:Ah.wrap 1=1:=by decide
     simp[-map_map,-mapM_map,↓KW,aG,q1',bB,aK,aD]
     refine aA (ds:=[encZ xc]) (by rfl) (aFu xc (Ap hsx (by decide))) ?_
     simp[-map_map,-mapM_map,↓KW,aG,bB,aK,aD]
     refine aA (ds:=[encZ xc]) (by rfl) (eX xc) ?_
     by_cases h0:xc=0
     ·have e0:(xc.sign==0)=true:=by simp[h0]
      have e1:=hfalse (by rw[hoka];simp[h0])
      simp[-map_map,-mapM_map,↓KW,e0,e1]
     ·have e0:(xc.sign==0)=false:=by simp[h0]
      have e1:=hnext (by rw[hoka];simp[h0])
      simp[-map_map,-mapM_map,↓KW,e0,hw8]
      refine aJ 1 ⟨hgo,e1⟩ (Ab hgo (Ad _)) (aY [] (by simp) ?_ ?_)<;>simp[-map_map,upd,aT,Γ0,aG,bB]
   ·have g2:=bFw (l:=l) (i:=k) (by omega)
    have q3:(0:Int)<(k:Int)+1:=by omega
    have q5:(0:Int)≤(k:Int)+1:=by omega
    have q4:Ah.wrap (k:Int)=k:=aKf (by omega)
    simp only[A7]at hoka
    generalize l.getD (k+1) (0,0)=x at *
    generalize l.getD k (0,0)=y at *
    obtain⟨xi,xc⟩:=x
    obtain⟨yi,yc⟩:=y
    simp only at hsx hoka
    have hw8:Ah.wrap ((k:Int)+1+1)=(k:Int)+1+1:=by simpa using hw7
    have q1':(k:Int)+1<l.length:=by simpa using q1
    simp[-map_map,-mapM_map,↓KW,aG,q1',q5,g1,bB,aK,aD]
    refine aA (ds:=[encZ xc]) (by rfl) (aFu xc (Ap hsx (by decide))) ?_
    simp[-map_map,-mapM_map,↓KW,aG,q1',q5,g1,bB,aK,aD]
    refine aA (ds:=[encZ xc]) (by rfl) (eX xc) ?_
    by_cases h0:xc=0
    ·have e0:(xc.sign==0)=true:=by simp[h0]
     have e1:=hfalse (by rw[hoka];simp[h0])
     simp[-map_map,-mapM_map,↓KW,e0,e1]
    ·have e0:(xc.sign==0)=false:=by simp[h0]
     by_cases h2:xi≤yi
     ·have e1:=hfalse (by rw[hoka];simp[h0];omega)
      simp[-map_map,-mapM_map,↓KW,aG,e0,e1,g1,g2,q3,q4,q5,h2,bB,aK,aD]
     ·have e1:=hnext (by rw[hoka];simp[h0];omega)
      simp[-map_map,-mapM_map,↓KW,aG,e0,g1,g2,q3,q4,q5,h2,hw8,bB,aK,aD]
      refine aJ (k+1+1) ⟨hgo,e1⟩ (Ab hgo (Ad _)) (aY [] (by simp) ?_ ?_)<;>simp[-map_map,upd,aT,Γ0,aG]
  ·have q1:¬(i:Int)<l.length:=by omega
   have e:uQ l=true:=yY (fun j hj=>hok j (by omega))
   simp[-map_map,-mapM_map,↓KW,aG,q1,e]
end Go.Am
end

section
set_option linter.unusedVariables false
set_option linter.unusedSimpArgs false
open List (map_map mapM_map)
open Go Go.Am Go.Proofs
namespace Go.Am
def nzF(f:Int×Int):Ch:=if f.2=0 then[]else[f]
def plM(k:Int):Ch→Ch→Ch
 |[],[]=>[]
 |x::a,[]=>nzF x++plM k a []
 |[],y::b=>nzF (y.1,k*y.2)++plM k [] b
 |x::a,y::b=>if x.1<y.1 then nzF x++plM k a (y::b)else if y.1<x.1 then nzF (y.1,k*y.2)++plM k (x::a) b else nzF (x.1,x.2+k*y.2)++plM k a b
termination_by a b=>a.length+b.length
theorem aDv(n:Int)(f:Int×Int)(l:Ch):cf n (nzF f++l)=cf n (f::l):=by
 unfold nzF
 by_cases h:f.2=0
 ·rw[Ag h,BQ]
  simp[cf,h]
 ·rw[Ae h];rfl
theorem yU(k n:Int):∀ a b:Ch,cf n (plM k a b)=cf n a+k*cf n b
 |[],[]=>by simp[plM,cf]
 |x::a,[]=>by
  have ih:=yU k n a []
  rw[plM,aDv]
  simp only[cf]at ih ⊢
  rw[ih];simp only[Dk,DA]
 |[],y::b=>by
  have ih:=yU k n [] b
  rw[plM,aDv]
  simp only[cf]at ih ⊢
  rw[ih,CL]
  split<;>simp
 |x::a,y::b=>by
  have h1:=yU k n a (y::b)
  have h2:=yU k n (x::a) b
  have h3:=yU k n a b
  rw[plM]
  split
  ·rw[aDv]
   simp only[cf]at h1 ⊢
   rw[h1];omega
  ·split
   ·rw[aDv]
    simp only[cf]at h2 ⊢
    rw[h2,CL]
    split
    ·split<;>(try simp only[Dk])<;>omega
    ·split<;>(try simp only[Dk])<;>omega
   ·rename_i g1 g2
    have he:x.1=y.1:=by omega
    rw[aDv]
    simp only[cf]
    rw[h3,he,CL]
    split<;>(try simp only[Dk])<;>omega
termination_by a b=>a.length+b.length
theorem lX(k:Int):∀(a b:Ch) (x:Int×Int),x∈plM k a b→x.2≠0∧((∃ y∈a,y.1=x.1)∨∃ y∈b,y.1=x.1)
 |[],[],x,h=>by simp[plM]at h
 |u::a,[],x,h=>by
  rw[plM]at h
  rcases A9.1 h with h|h
  ·unfold nzF at h
   split at h
   ·cases h
   ·rw[AP]at h;subst h;exact⟨by assumption,.inl ⟨_,Av ..,rfl⟩⟩
  ·obtain⟨h1,h2⟩:=lX k a [] x h
   refine⟨h1,?_⟩
   rcases h2 with ⟨y,hy,e⟩|⟨y,hy,e⟩
   ·exact .inl ⟨y,As _ hy,e⟩
   ·cases hy
 |[],v::b,x,h=>by
  rw[plM]at h
  rcases A9.1 h with h|h
  ·unfold nzF at h
   split at h
   ·cases h
   ·rw[AP]at h;subst h;exact⟨by assumption,.inr ⟨_,Av ..,rfl⟩⟩
  ·obtain⟨h1,h2⟩:=lX k [] b x h
   refine⟨h1,?_⟩
   rcases h2 with ⟨y,hy,e⟩|⟨y,hy,e⟩
   ·cases hy
   ·exact .inr ⟨y,As _ hy,e⟩
 |u::a,v::b,x,h=>by
  rw[plM]at h
  have up:((∃ y∈a,y.1=x.1)∨∃ y∈v::b,y.1=x.1)→((∃ y∈u::a,y.1=x.1)∨∃ y∈v::b,y.1=x.1):=fun h=>h.imp (fun⟨y,hy,e⟩=>⟨y,As _ hy,e⟩) id
  have up2:((∃ y∈u::a,y.1=x.1)∨∃ y∈b,y.1=x.1)→((∃ y∈u::a,y.1=x.1)∨∃ y∈v::b,y.1=x.1):=fun h=>h.imp id (fun⟨y,hy,e⟩=>⟨y,As _ hy,e⟩)
  split at h
  ·rcases A9.1 h with h|h
   ·unfold nzF at h
    split at h
    ·cases h
    ·rw[AP]at h;subst h;exact⟨by assumption,.inl ⟨_,Av ..,rfl⟩⟩
   ·obtain⟨h1,h2⟩:=lX k a (v::b) x h
    exact⟨h1,up h2⟩
  ·split at h
   ·rcases A9.1 h with h|h
    ·unfold nzF at h
     split at h
     ·cases h
     ·rw[AP]at h;subst h;exact⟨by assumption,.inr ⟨_,Av ..,rfl⟩⟩
    ·obtain⟨h1,h2⟩:=lX k (u::a) b x h
     exact⟨h1,up2 h2⟩
   ·rcases A9.1 h with h|h
    ·unfold nzF at h
     split at h
     ·cases h
     ·rw[AP]at h;subst h;exact⟨by assumption,.inl ⟨_,Av ..,rfl⟩⟩
    ·obtain⟨h1,h2⟩:=lX k a b x h
     exact⟨h1,h2.imp (fun⟨y,hy,e⟩=>⟨y,As _ hy,e⟩) (fun⟨y,hy,e⟩=>⟨y,As _ hy,e⟩)⟩
termination_by a b=>a.length+b.length
theorem wE{f:Int×Int}{l:Ch}(hl:Val l)(h:∀ y∈l,f.1<y.1):Val (nzF f++l):=by
 unfold nzF
 split
 ·exact hl
 ·refine⟨A5.2 ⟨h,hl.1⟩,fun y hy=>?_⟩
  rcases AD.1 hy with rfl|hy
  ·assumption
  ·exact hl.2 y hy
theorem tG(k:Int):∀{a b:Ch},Val a→Val b→Val (plM k a b)
 |[],[],_,_=>by rw[plM];exact Val.nil
 |x::a,[],ha,hb=>by
  obtain⟨h1,h2,_⟩:=ha.tail
  rw[plM]
  refine wE (tG k h1 hb) fun y hy=>?_
  rcases(lX k a [] y hy).2 with ⟨z,hz,e⟩|⟨z,hz,e⟩
  ·rw[←e];exact h2 z hz
  ·cases hz
 |[],y::b,ha,hb=>by
  obtain⟨h1,h2,_⟩:=hb.tail
  rw[plM]
  refine wE (tG k ha h1) fun u hu=>?_
  rcases(lX k [] b u hu).2 with ⟨z,hz,e⟩|⟨z,hz,e⟩
  ·cases hz
  ·rw[←e];exact h2 z hz
 |x::a,y::b,ha,hb=>by
  obtain⟨a1,a2,_⟩:=ha.tail
  obtain⟨b1,b2,_⟩:=hb.tail
  rw[plM]
  split
  ·refine wE (tG k a1 hb) fun u hu=>?_
   rcases(lX k a (y::b) u hu).2 with ⟨z,hz,e⟩|⟨z,hz,e⟩
   ·rw[←e];exact a2 z hz
   ·rcases AD.1 hz with rfl|hz
    ·omega
    ·have:=b2 z hz;omega
  ·split
   ·refine wE (tG k ha b1) fun u hu=>?_
    simp only
    rcases(lX k (x::a) b u hu).2 with ⟨z,hz,e⟩|⟨z,hz,e⟩
    ·rcases AD.1 hz with rfl|hz
     ·omega
     ·have:=a2 z hz;omega
    ·rw[←e];exact b2 z hz
   ·refine wE (tG k a1 b1) fun u hu=>?_
    simp only
    rcases(lX k a b u hu).2 with ⟨z,hz,e⟩|⟨z,hz,e⟩
    ·rw[←e];exact a2 z hz
    ·have:=b2 z hz;omega
termination_by a b=>a.length+b.length
theorem aUb{a b:Ch}(ha:Val a)(hb:Val b)(k:Int):plM k a b=lin a b k:=by
 obtain⟨h1,h2⟩:=aAf ha hb k
 have h3:=tG k ha hb
 refine h3.ext h1 fun n=>?_
 rw[h2 n,←fS h3,yU,fS ha,fS hb]
theorem bLz(k:Int):plM k [] []=[]:=by rw[plM]
theorem aMe{k:Int}{a b:Ch}{i:Nat}(h:i<a.length)(hb:b=[]∨∃ y l,b=y::l∧a[i].1<y.1):plM k (a.drop i) b=nzF a[i]++plM k (a.drop (i+1)) b:=by
 rw[A2 h]
 rcases hb with rfl|⟨y,l,rfl,hlt⟩
 ·rw[plM]
 ·rw[plM,Ag hlt]
theorem aFx{k:Int}{a b:Ch}{j:Nat}(h:j<b.length)(ha:a=[]∨∃ x l,a=x::l∧b[j].1<x.1):plM k a (b.drop j)=nzF (b[j].1,k*b[j].2)++plM k a (b.drop (j+1)):=by
 rw[A2 h]
 rcases ha with rfl|⟨x,l,rfl,hlt⟩
 ·rw[plM]
 ·rw[plM,Ae (by omega),Ag hlt]
theorem bCx{k:Int}{a b:Ch}{i j:Nat}(h:i<a.length)(h2:j<b.length)(he:a[i].1=b[j].1):plM k (a.drop i) (b.drop j)=nzF (a[i].1,a[i].2+k*b[j].2)++plM k (a.drop (i+1)) (b.drop (j+1)):=by
 rw[A2 h,A2 h2,plM,Ae (by omega),Ae (by omega)]
set_option maxHeartbeats 8000000 in
set_option maxRecDepth 10000 in
theorem aTt{a b:Ch}{k:Int}{e f g:Nat}(ha:Bnd (2^e) a)(hb:Bnd (2^f) b)(hk:k.natAbs≤2^g)(he:e+2<4398046511104)(hf:g+f+2<4398046511104)(hla:a.length≤1048576)(hlb:b.length≤1048576):Spec Tryz.prog 45 [aG a,aG b,encZ k] (aG (plM k a b)):=by
 have hkS:Sz k:=szE hk (by omega)
 refine aZ (N:=116) aI Tryz.func45 rfl rfl rfl (by kernel_rfl) (by kernel_rfl) (by simp) ?_
 simp[-map_map,-mapM_map,↓KW,aG,bF,aK,aD,aM]
 refine aU (fun y:Nat×Nat×Ch=>y.1≤a.length∧y.2.1≤b.length∧y.2.2.length≤y.1+y.2.1∧y.2.2++plM k (a.drop y.1) (b.drop y.2.1)=plM k a b) (fun y=>StL [(0,.d (aG a)),(1,.d (aG b)),(5,.ptr 1 0),(7,.own 2 0 y.2.2.length 3),(8,.d (.i .i64 (y.1:Int))),(9,.d (.i .i64 (y.2.1:Int)))] none [.cells 74 [.d (.b (decide (k<0))),.d (aN (aX k.natAbs))],.cells 76 ((fcs y.2.2).map .d)]) (fun y=>(a.length-y.1)+(b.length-y.2.1)) (0,0,[]) ⟨An _,An _,An _,rfl⟩ ?_ ?_
 ·refine aY [1,2] (by simp) ?_ ?_<;>simp[-map_map,upd,aT,Γ0,aG,fcs]
 ·rintro⟨i,j,out⟩ ⟨hi,hj,hol,hinv⟩
  simp only at hi hj hol hinv
  refine(show ∃ n,out.length=n from⟨_,rfl⟩).elim fun n hn=>?_
  rw[hn]at hol
  have hfl:=tS out
  rw[hn]at hfl
  have hb8:=cC (n:=n) (by omega)
  by_cases hgi:i<a.length
  ·have q1:(i:Int)<a.length:=by omega
   have hw1:Ah.wrap ((i:Int)+1)=((i+1:Nat):Int):=by rw[aR (by omega) (by omega)];omega
   have g1:a[i]? = some a[i]:=Aa hgi
   have hax:=ha _ (Ak hgi)
   by_cases hgj:j<b.length
   ·have q2:((j:Int)==b.length)=false:=by simp;omega
    have q3:(j:Int)<b.length:=by omega
    have q5:((i:Int)==a.length)=false:=by simp;omega
    have hw2:Ah.wrap ((j:Int)+1)=((j+1:Nat):Int):=by rw[aR (by omega) (by omega)];omega
    have g2:b[j]? = some b[j]:=Aa hgj
    have hby:=hb _ (Ak hgj)
    have st1:a[i].1<b[j].1→plM k (a.drop i) (b.drop j)=nzF a[i]++plM k (a.drop (i+1)) (b.drop j):=fun h=>aMe hgi (.inr ⟨_,_,A2 hgj,h⟩)
    have st2:b[j].1<a[i].1→plM k (a.drop i) (b.drop j)=nzF (b[j].1,k*b[j].2)++plM k (a.drop i) (b.drop (j+1)):=fun h=>aFx hgj (.inr ⟨_,_,A2 hgi,h⟩)
    have st3:=bCx (k:=k) hgi hgj
    refine(show ∃ x,a[i]=x from⟨_,rfl⟩).elim fun x hxe=>?_
    refine(show ∃ y,b[j]=y from⟨_,rfl⟩).elim fun y hye=>?_
    rw[hxe]at g1 st1 st2 st3 hax
    rw[hye]at g2 st1 st2 st3 hby
    obtain⟨xi,xc⟩:=x
    obtain⟨yi,yc⟩:=y
    simp only at hax hby st1 st2 st3
    have hsx:Sz xc:=szE hax (by omega)
    have hsy:Sz yc:=szE hby (by omega)
    have hM:=oI k yc hkS hsy
    have hmb:(k*yc).natAbs≤2^(g+f):=by rw[BJ,←mK];exact B9 hk hby
    refine(show ∃ z,k*yc=z from⟨_,rfl⟩).elim fun z hze=>?_
    rw[hze]at hM st2 st3 hmb
    by_cases c1:xi<yi
    ·have hstep:=st1 c1
     have hol2:out.length≤i+1+j:=by omega
     simp[-map_map,-mapM_map,↓KW,aG,q1,q2,g1,g2,c1,hw1,bB,aK,aD,aM]
     refine aA (ds:=[encZ xc]) (by rfl) (eX xc) ?_
     by_cases hz0:xc=0
     ·have hz1:((xc).sign != 0)=false:=by simp[hz0]
      have hz2:nzF (xi,xc)=[]:=by unfold nzF;rw[Ag hz0]
      rw[hz2,BQ]at hstep
      rw[hstep]at hinv
      simp[-map_map,-mapM_map,↓KW,hz1,hn,hw1]
      refine aJ (τ:=Nat×Nat×Ch) (i+1,j,out) ⟨by simp only;omega,by simp only;omega,hol2,hinv⟩ (by simp only;omega) (aY [1,2] (by simp) ?_ ?_)
      ·simp[-map_map,upd,aT,Γ0,aG,hn]
      ·simp[-map_map,upd,aT,Γ0,aG,hn]
     ·have hz1:((xc).sign != 0)=true:=by simp[hz0]
      have hz2:nzF (xi,xc)=[(xi,xc)]:=by unfold nzF;rw[Ae hz0]
      rw[hz2]at hstep
      rw[hstep,←AZ]at hinv
      simp[-map_map,-mapM_map,↓KW,hz1,bB,aK,aD,cX,jB,hn,hfl,hb8,aW,hw1]
      refine aJ (τ:=Nat×Nat×Ch) (i+1,j,out++[(xi,xc)]) ⟨by simp only;omega,by simp only;omega,by simp only[Al,Ar];omega,hinv⟩ (by simp only;omega) (aY [1,5] (by simp) ?_ ?_)
      ·simp[-map_map,upd,aT,Γ0,aG,bB,cX,eP,hn]
      ·simp[-map_map,upd,aT,Γ0,aG,bB,cX,eP,hn]
    ·by_cases c2:yi<xi
     ·have hstep:=st2 c2
      have hol2:out.length≤i+(j+1):=by omega
      simp[-map_map,-mapM_map,↓KW,aG,q1,q2,q5,g1,g2,c1,c2,hw2,bB,aK,aD,aM]
      refine aA (ds:=[encZ k,encZ yc]) (by rfl) hM ?_
      simp[-map_map,-mapM_map,↓KW,bF,hw2,bB,aK,aD,aM]
      refine aA (ds:=[encZ z]) (by rfl) (eX z) ?_
      by_cases hz0:z=0
      ·have hz1:((z).sign != 0)=false:=by simp[hz0]
       have hz2:nzF (yi,z)=[]:=by unfold nzF;rw[Ag hz0]
       rw[hz2,BQ]at hstep
       rw[hstep]at hinv
       simp[-map_map,-mapM_map,↓KW,hz1,hn,hw2]
       refine aJ (τ:=Nat×Nat×Ch) (i,j+1,out) ⟨by simp only;omega,by simp only;omega,hol2,hinv⟩ (by simp only;omega) (aY [1,2] (by simp) ?_ ?_)
       ·simp[-map_map,upd,aT,Γ0,aG,hn]
       ·simp[-map_map,upd,aT,Γ0,aG,hn]
      ·have hz1:((z).sign != 0)=true:=by simp[hz0]
       have hz2:nzF (yi,z)=[(yi,z)]:=by unfold nzF;rw[Ae hz0]
       rw[hz2]at hstep
       rw[hstep,←AZ]at hinv
       simp[-map_map,-mapM_map,↓KW,hz1,bB,aK,aD,cX,jB,hn,hfl,hb8,aW,hw2]
       refine aJ (τ:=Nat×Nat×Ch) (i,j+1,out++[(yi,z)]) ⟨by simp only;omega,by simp only;omega,by simp only[Al,Ar];omega,hinv⟩ (by simp only;omega) (aY [1,5] (by simp) ?_ ?_)
       ·simp[-map_map,upd,aT,Γ0,aG,bB,cX,eP,hn]
       ·simp[-map_map,upd,aT,Γ0,aG,bB,cX,eP,hn]
     ·have c3:xi=yi:=by omega
      have hstep:=st3 c3
      have hol2:out.length≤i+1+(j+1):=by omega
      have hA:=qF xc z (Ap hsx (by decide)) (Ap (szE hmb (by omega)) (by decide))
      simp[-map_map,-mapM_map,↓KW,aG,q1,q2,q5,g1,g2,c1,c2,hw1,hw2,bB,aK,aD,aM]
      refine aA (ds:=[encZ k,encZ yc]) (by rfl) hM ?_
      simp[-map_map,-mapM_map,↓KW,bF,hw2,bB,aK,aD,aM]
      refine aA (ds:=[encZ xc,encZ z]) (by rfl) hA ?_
      simp[-map_map,-mapM_map,↓KW,bF,hw1,hw2,bB,aK,aD,aM]
      refine(show ∃ u,xc+z=u from⟨_,rfl⟩).elim fun u hue=>?_
      rw[hue]at hstep ⊢
      refine aA (ds:=[encZ u]) (by rfl) (eX u) ?_
      by_cases hz0:u=0
      ·have hz1:((u).sign != 0)=false:=by simp[hz0]
       have hz2:nzF (xi,u)=[]:=by unfold nzF;rw[Ag hz0]
       rw[hz2,BQ]at hstep
       rw[hstep]at hinv
       simp[-map_map,-mapM_map,↓KW,hz1,hn,hw1,hw2]
       refine aJ (τ:=Nat×Nat×Ch) (i+1,j+1,out) ⟨by simp only;omega,by simp only;omega,hol2,hinv⟩ (by simp only;omega) (aY [1,2] (by simp) ?_ ?_)
       ·simp[-map_map,upd,aT,Γ0,aG,hn]
       ·simp[-map_map,upd,aT,Γ0,aG,hn]
      ·have hz1:((u).sign != 0)=true:=by simp[hz0]
       have hz2:nzF (xi,u)=[(xi,u)]:=by unfold nzF;rw[Ae hz0]
       rw[hz2]at hstep
       rw[hstep,←AZ]at hinv
       simp[-map_map,-mapM_map,↓KW,hz1,bB,aK,aD,cX,jB,hn,hfl,hb8,aW,hw1,hw2]
       refine aJ (τ:=Nat×Nat×Ch) (i+1,j+1,out++[(xi,u)]) ⟨by simp only;omega,by simp only;omega,by simp only[Al,Ar];omega,hinv⟩ (by simp only;omega) (aY [1,5] (by simp) ?_ ?_)
       ·simp[-map_map,upd,aT,Γ0,aG,bB,cX,eP,hn]
       ·simp[-map_map,upd,aT,Γ0,aG,bB,cX,eP,hn]
   ·have hje:j=b.length:=by omega
    have q2:((j:Int)==b.length)=true:=by simp;omega
    have hstep:=aMe (k:=k) (b:=b.drop j) hgi (.inl (Bo (by omega)))
    have hol2:out.length≤i+1+j:=by omega
    refine(show ∃ x,a[i]=x from⟨_,rfl⟩).elim fun x hxe=>?_
    rw[hxe]at g1 hstep hax
    obtain⟨xi,xc⟩:=x
    simp only at hax
    have hsx:Sz xc:=szE hax (by omega)
    simp[-map_map,-mapM_map,↓KW,aG,q1,q2,g1,hw1,bB,aK,aD,aM]
    refine aA (ds:=[encZ xc]) (by rfl) (eX xc) ?_
    by_cases hz0:xc=0
    ·have hz1:((xc).sign != 0)=false:=by simp[hz0]
     have hz2:nzF (xi,xc)=[]:=by unfold nzF;rw[Ag hz0]
     rw[hz2,BQ]at hstep
     rw[hstep]at hinv
     simp[-map_map,-mapM_map,↓KW,hz1,hn,hw1]
     refine aJ (τ:=Nat×Nat×Ch) (i+1,j,out) ⟨by simp only;omega,by simp only;omega,hol2,hinv⟩ (by simp only;omega) (aY [1,2] (by simp) ?_ ?_)
     ·simp[-map_map,upd,aT,Γ0,aG,hn]
     ·simp[-map_map,upd,aT,Γ0,aG,hn]
    ·have hz1:((xc).sign != 0)=true:=by simp[hz0]
     have hz2:nzF (xi,xc)=[(xi,xc)]:=by unfold nzF;rw[Ae hz0]
     rw[hz2]at hstep
     rw[hstep,←AZ]at hinv
     simp[-map_map,-mapM_map,↓KW,hz1,bB,aK,aD,cX,jB,hn,hfl,hb8,aW,hw1]
     refine aJ (τ:=Nat×Nat×Ch) (i+1,j,out++[(xi,xc)]) ⟨by simp only;omega,by simp only;omega,by simp only[Al,Ar];omega,hinv⟩ (by simp only;omega) (aY [1,5] (by simp) ?_ ?_)
     ·simp[-map_map,upd,aT,Γ0,aG,bB,cX,eP,hn]
     ·simp[-map_map,upd,aT,Γ0,aG,bB,cX,eP,hn]
  ·have q1:¬(i:Int)<a.length:=by omega
   have q5:((i:Int)==a.length)=true:=by simp;omega
   have hde:a.drop i=[]:=Bo (by omega)
   rw[hde]at hinv
   by_cases hgj:j<b.length
   ·have q2:((j:Int)==b.length)=false:=by simp;omega
    have q3:(j:Int)<b.length:=by omega
    have hw2:Ah.wrap ((j:Int)+1)=((j+1:Nat):Int):=by rw[aR (by omega) (by omega)];omega
    have g2:b[j]? = some b[j]:=Aa hgj
    have hby:=hb _ (Ak hgj)
    have hstep:=aFx (k:=k) hgj (.inl (rfl:([]:Ch)=[]))
    have hol2:out.length≤i+(j+1):=by omega
    refine(show ∃ y,b[j]=y from⟨_,rfl⟩).elim fun y hye=>?_
    rw[hye]at g2 hstep hby
    obtain⟨yi,yc⟩:=y
    simp only at hby hstep
    have hsy:Sz yc:=szE hby (by omega)
    have hM:=oI k yc hkS hsy
    refine(show ∃ z,k*yc=z from⟨_,rfl⟩).elim fun z hze=>?_
    rw[hze]at hM hstep
    rw[←hde]at hinv hstep
    simp[-map_map,-mapM_map,↓KW,aG,q1,q2,q3,q5,g2,hw2,bB,aK,aD,aM]
    refine aA (ds:=[encZ k,encZ yc]) (by rfl) hM ?_
    simp[-map_map,-mapM_map,↓KW,bF,hw2,bB,aK,aD,aM]
    refine aA (ds:=[encZ z]) (by rfl) (eX z) ?_
    by_cases hz0:z=0
    ·have hz1:((z).sign != 0)=false:=by simp[hz0]
     have hz2:nzF (yi,z)=[]:=by unfold nzF;rw[Ag hz0]
     rw[hz2,BQ]at hstep
     rw[hstep]at hinv
     simp[-map_map,-mapM_map,↓KW,hz1,hn,hw2]
     refine aJ (τ:=Nat×Nat×Ch) (i,j+1,out) ⟨by simp only;omega,by simp only;omega,hol2,hinv⟩ (by simp only;omega) (aY [1,2] (by simp) ?_ ?_)
     ·simp[-map_map,upd,aT,Γ0,aG,hn]
     ·simp[-map_map,upd,aT,Γ0,aG,hn]
    ·have hz1:((z).sign != 0)=true:=by simp[hz0]
     have hz2:nzF (yi,z)=[(yi,z)]:=by unfold nzF;rw[Ae hz0]
     rw[hz2]at hstep
     rw[hstep,←AZ]at hinv
     simp[-map_map,-mapM_map,↓KW,hz1,bB,aK,aD,cX,jB,hn,hfl,hb8,aW,hw2]
     refine aJ (τ:=Nat×Nat×Ch) (i,j+1,out++[(yi,z)]) ⟨by simp only;omega,by simp only;omega,by simp only[Al,Ar];omega,hinv⟩ (by simp only;omega) (aY [1,5] (by simp) ?_ ?_)
     ·simp[-map_map,upd,aT,Γ0,aG,bB,cX,eP,hn]
     ·simp[-map_map,upd,aT,Γ0,aG,bB,cX,eP,hn]
   ·have q3:¬(j:Int)<b.length:=by omega
    rw[Bo (by omega),bLz,Bd]at hinv
    have hc:=uA hn
    have ht:=nC hn
    have hinv':plM k a b=out:=hinv.symm
    simp[-map_map,-mapM_map,↓KW,aG,q1,q3,hn,hfl,hc,ht,hinv']
end Go.Am
end

section
set_option linter.unusedVariables false
set_option linter.unusedSimpArgs false
open Go Go.Am Go.Proofs
namespace Go.Am
def rg(n:Nat)(f:Nat→Int):List Int:=(List.range n).map f
theorem aQd(n:Nat)(f:Nat→Int):(rg n f).length=n:=by simp[rg]
theorem aQe{n t:Nat}(f:Nat→Int)(h:t<n):(rg n f)[t]? = some (f t):=by simp[rg,h]
theorem aTr{n t:Nat}(f:Nat→Int)(h:t<n):(rg n f).getD t 0=f t:=by rw[Ac,aQe f h];rfl
theorem bCh{n:Nat}{f g:Nat→Int}(h:∀ t,t<n→f t=g t):rg n f=rg n g:=Bu fun t ht=>h t (List.mem_range.1 ht)
theorem bNi{l:List Int}{n:Nat}(h:l.length=n):l=rg n fun t=>l.getD t 0:=by
 apply Ca
 intro t
 by_cases ht:t<n
 ·rw[aQe _ ht,Ac,Aa (by omega)];rfl
 ·rw[AG (by omega),AG (by rw[aQd];omega)]
/-! Weights of boundaries -/
theorem kT(w:Int→Int)(c:List Cl):∀ y:List (Int×Int),bK w (bdL c y)=bK (fun m=>bK w (bOf c m)) y
 |[]=>rfl
 |f::y=>by
  show bK w (mulR f.2 (bOf c f.1)++bdL c y)=_
  rw[nL,nF,kT w c y];rfl
theorem sR{w:Int→Int}:∀{l:List (Int×Int)},(∀ x∈l,w x.1=0)→bK w l=0
 |[],_=>rfl
 |x::l,h=>by
  simp only[bK]
  rw[h x (Av ..),sR fun y hy=>h y (As _ hy)];simp
theorem uB(c:List Cl)(x:List (Int×Int)):Val (bdX c x)∧∀ n,getM (bdX c x) n=bK (fun m=>cf n (bOf c m)) x:=by
 obtain⟨h1,h2⟩:=cO (bdL c x) [] Val.nil
 exact⟨h1,fun n=>by show getM (bV [] (bdL c x)) n=_;rw[h2 n,gN,Ci,aRv]⟩
def In(c:List Cl)(k:Int)(x:List (Int×Int)):Prop:=∀ f∈x,f.1∈bR c k
theorem In.lin{c:List Cl}{k:Int}{a b:List (Int×Int)}(ha:Val a)(hb:Val b)(ia:In c k a)(ib:In c k b)(n:Int):In c k (lin a b n):=aGq (S:=fun m=>m∈bR c k) ha hb ia ib
theorem wZ{c:List Cl}(hv:CxV c){k n:Int}(h:n∈bR c k):∃ y∈c,bW c n=some y∧y.dim=k∧y.id=n:=by
 obtain⟨y,hy,hd,he⟩:=gA.1 h
 exact⟨y,hy,by rw[←he];exact hv.inc.find hy,hd,he⟩
theorem bGv{c:List Cl}(hv:CxV c){k:Int}{x:List (Int×Int)}(h:In c k x):(qQ c x).2=0∧(0<x.length→(qQ c x).1=k):=by
 have hd:∀ i,i<x.length→dOf c (x.getD i (0,0)).1=k:=fun i hi=>by
  rw[Ac,Aa hi]
  obtain⟨y,_,h1,h2,_⟩:=wZ hv (h _ (Ak hi))
  show((bW c x[i].1).getD pH).dim=k
  rw[h1];exact h2
 have h1:aCj c x=true:=by
  unfold aCj
  rw[List.all_eq_true]
  intro f hf
  obtain⟨y,_,h1,_⟩:=wZ hv (h f hf)
  unfold kn;rw[h1];rfl
 have h2:∀ n,n≤x.length→aCe c x n=false:=fun n=>by
  induction n with
  |zero=>intro _;rfl
  |succ n ih =>
   intro hn
   rw[aCe,ih (by omega),Bool.false_or,hd n (by omega)]
   cases n with
   |zero=>rfl
   |succ n=>rw[show n+1-1=n by omega,hd n (by omega)];simp
 unfold qQ
 rw[h1,h2 _ (Az _)]
 refine⟨rfl,fun hx=>?_⟩
 show xK c x x.length=k
 cases hl:x.length with
 |zero=>omega
 |succ n=>exact hd n (by omega)
theorem bXk{c:List Cl}(hv:CxV c){k:Int}{x:List (Int×Int)}(h:In c k x):In c (k-1) (bdX c x):=fun f hf=>by
 obtain⟨h1,h2⟩:=uB c x
 have e:=fB h1 hf
 rw[h2]at e
 have hne:f.2≠0:=h1.2 f hf
 refine Bb fun hn=>hne ?_
 rw[←e]
 refine sR fun y hy=>?_
 obtain⟨z,hz,g1,g2,g3⟩:=wZ hv (h y hy)
 have hb:bOf c y.1=z.b:=by unfold bOf;rw[g1];rfl
 rw[hb]
 refine mC fun u hu he=>hn ?_
 obtain⟨t,ht,e1,e2⟩:=hv.face z hz u hu
 exact gA.2 ⟨t,ht,by omega,by omega⟩
theorem bIf{c:List Cl}(hv:CxV c){y:Cl}(hy:y∈c):bdX c [(y.id,1)]=y.b:=by
 obtain⟨h1,h2⟩:=uB c [(y.id,1)]
 refine h1.ext (hv.val y hy) fun n=>?_
 rw[h2]
 simp only[bK]
 rw[hv.bOf hy,fS (hv.val y hy)];omega
/-! Rows -/
theorem aHb:∀{ids v:List Int} {i:Nat} {q z:Int},ids.Pairwise (·<·)→ids[i]? = some q→v[i]? = some z→cf q (ids.zip v)=z
 |[],_,i,q,z,_,h,_=>by simp at h
 |a::ids,[],i,q,z,_,_,h=>by simp at h
 |a::ids,b::v,0,q,z,hp,h1,h2=>by
  simp at h1 h2;subst h1;subst h2
  obtain⟨p1,_⟩:=A5.1 hp
  rw[C2]
  simp only[cf,BN]
  rw[mC fun x hx e=>by have:=p1 _ (EU hx).1;omega,DA]
 |a::ids,b::v,i+1,q,z,hp,h1,h2=>by
  obtain⟨p1,p2⟩:=A5.1 hp
  have ih:=aHb (ids:=ids) (v:=v) (i:=i) (q:=q) (z:=z) p2 (by simpa using h1) (by simpa using h2)
  have hq:a<q:=p1 q (Aq (by simpa using h1))
  rw[C2]
  simp only[cf]
  rw[Ae (by omega),Ci];exact ih
theorem aQc{ids v:List Int}(hp:ids.Pairwise (·<·))(hl:v.length=ids.length):fG ids (bV [] (ids.zip v))=v:=by
 obtain⟨h1,h2⟩:=cO (ids.zip v) [] Val.nil
 apply Ca
 intro i
 by_cases hi:i<ids.length
 ·have hq:ids[i]? = some ids[i]:=Aa hi
  have hz:v[i]? = some v[i]:=Aa (by omega)
  rw[iY hq,hz,qJ h1,h2,gN,Ci,aHb hp hq hz]
 ·rw[AG (by rw[iG];omega),AG (by omega)]
theorem bIe{c:List Cl}(hv:CxV c)(k:Int){v:List Int}(hl:v.length=(bR c k).length) :
  fG (bR c (k-1)) (bdX c (bV [] ((bR c k).zip v)))=rg (bR c (k-1)).length fun t=>sgm (bR c k).length fun j=>v.getD j 0*ent (mF c k) j t:=by
 obtain⟨h1,h2⟩:=uB c (bV [] ((bR c k).zip v))
 apply Ca
 intro t
 by_cases ht:t<(bR c (k-1)).length
 ·have hq:(bR c (k-1))[t]? = some (bR c (k-1))[t]:=Aa ht
  rw[iY hq,aQe _ ht,qJ h1,h2,lK,aAr _ _ _ hl.symm]
  congr 1
  show 0+_=_
  rw[Ci]
  refine cF fun j hj=>?_
  congr 1
  unfold ent
  rw[Ac (l:=mF c k),wK (Aa hj),Ba,Ac (l:=fG _ _),iY hq,Ba,qJ (hv.bval _),←fS (hv.bval _)]
  rw[Ac,Aa hj];rfl
 ·rw[AG (by rw[iG];omega),AG (by rw[aQd];omega)]
end Go.Am
end

section
set_option linter.unusedVariables false
set_option linter.unusedSimpArgs false
open List (map_map mapM_map)
open Go Go.Am Go.Proofs
namespace Go.Am
theorem aJn{c:List Cl}{x:Ch}{f g:Nat}(hc:SzX f c)(hx:x.length≤100)(hg:Bnd (2^g) x)(i:Nat):Bnd (2^(14+(f+g))) (bV [] (bdL c (x.take i)))∧(bV [] (bdL c (x.take i))).length≤10000:=by
 obtain⟨h1,h2⟩:=bIh (x:=x.take i) hc (by rw[AM];omega) (hg.take (i:=i))
 have h3:=gQ (bdL c (x.take i)) [] (Bnd.nil 0) h2
 have h4:=iL [] (bdL c (x.take i))
 simp only[A8,Bf]at h3 h4
 exact⟨h3.mono (lP (Ap h1 (by decide))),by omega⟩
set_option maxHeartbeats 2000000 in
set_option maxRecDepth 10000 in
theorem aFt{c:List Cl}{x:Ch}{f g:Nat}(hv:∀ y∈c,Val y.b)(hc:SzX f c)(hx:x.length≤100)(hg:Bnd (2^g) x)(hfg:f+g+20<4398046511104):Spec Tryz.prog 37 [aF c,aG x] (aG (bdX c x)):=by
 have hlen:=hc.len
 refine aZ (N:=36) aI Tryz.func37 rfl rfl rfl (by kernel_rfl) (by kernel_rfl) (by simp) ?_
 simp[-map_map,-mapM_map,↓KW,aF,aG]
 refine aU (fun i:Nat=>i≤x.length) (fun i=>StL [(0,.d (aF c)),(1,.d (aG x)),(5,.d (aG (bV [] (bdL c (x.take i))))),(6,.d (.i .i64 (i:Int)))] none []) (fun i=>x.length-i) 0 (An _) ?_ ?_
 ·refine aY [] (by simp) ?_ ?_
  ·simp[-map_map,upd,aT,Γ0,aF,aG,bV,bdL]
   exact kW (by simp[iS,upd,qU]) (fun a _ id h=>by simp[nZ]at h)
  ·trivial
 ·intro i hi
  by_cases hgo:i<x.length
  ·have q1:(i:Int)<x.length:=by omega
   have hx1:x[i]? = some x[i]:=Aa hgo
   have hw:Ah.wrap ((i:Int)+1)=(i:Int)+1:=aR (by omega) (by omega)
   have hxg:=hg _ (Ak hgo)
   obtain⟨ob,ol⟩:=aJn hc hx hg i
   have ov:=(cO (bdL c (x.take i)) [] Val.nil).1
   have htk:bV [] (bdL c (x.take (i+1)))=bV (bV [] (bdL c (x.take i))) (mulR x[i].2 (bOf c x[i].1)):=by rw[bIg hgo,aEe]
   refine(show ∃ u,x[i]=u from⟨_,rfl⟩).elim fun u hue=>?_
   rw[hue]at hx1 hxg htk
   obtain⟨n,z⟩:=u
   simp only at hxg htk
   have hbv:Val (bOf c n):=by
    unfold bOf
    cases e:bW c n with
    |none=>exact Val.nil
    |some y=>exact hv y (cV e).1
   have hbb:=oR hc.bb n
   have hbl:=uC hc.bl n
   have hF:=qE c n (by omega)
   refine(show ∃ out,bV [] (bdL c (x.take i))=out from⟨_,rfl⟩).elim fun out hoe=>?_
   rw[hoe]at ob ol ov htk
   have hP:=aTt (k:=z) ob hbb hxg (by omega) (by omega) (by omega) (by omega)
   rw[aUb ov hbv]at hP
   unfold lin at hP
   rw[←htk]at hP
   unfold vB at hF
   have hbo:bOf c n=((bW c n).getD pH).b:=rfl
   rw[hbo]at hP
   simp only[hoe]
   simp[-map_map,-mapM_map,↓KW,aF,aG,q1,hx1,bB,aK,aD,aM]
   refine aA (ds:=[aF c,.i .i64 n]) (by rfl) hF ?_
   simp[-map_map,-mapM_map,↓KW,aF,aG,bS,q1,hx1,bB,aK,aD,aM,aE,aB,aC]
   refine aA (ds:=[aG out,aG ((bW c n).getD pH).b,encZ z]) (by rfl) hP ?_
   simp[-map_map,-mapM_map,↓KW,hw,aQ,bG,aE,aB]
   refine aJ (i+1) hgo (Ab hgo (Ad _)) (aY [] (by simp) ?_ ?_)<;>simp[-map_map,upd,aT,Γ0,aF,aG]
  ·have q1:¬(i:Int)<x.length:=by omega
   rw[Ai (by omega)]
   simp[-map_map,-mapM_map,↓KW,aF,aG,q1,bdX]
/-! Images -/
def apP(m:List (Int×Ch))(f:Int×Int):Ch:=m.flatMap fun p=>if p.1=f.1 then mulR f.2 p.2 else[]
def apL(m:List (Int×Ch))(x:Ch):Ch:=x.flatMap (apP m)
def apX(m:List (Int×Ch))(x:Ch):Ch:=bV [] (apL m x)
structure SzM(h:Nat)(m:List (Int×Ch)):Prop where
 len:m.length≤100
 bl:∀ p∈m,p.2.length≤100
 bb:∀ p∈m,Bnd (2^h) p.2
 val:∀ p∈m,Val p.2
theorem aSh{h g:Nat}:∀{m:List (Int×Ch)} {f:Int×Int},(∀ p∈m,p.2.length≤100)→(∀ p∈m,Bnd (2^h) p.2)→f.2.natAbs≤2^g→(apP m f).length≤m.length*100∧Bnd (2^(g+h)) (apP m f)
 |[],f,_,_,_=>⟨An _,Bnd.nil _⟩
 |p::m,f,h1,h2,h3=>by
  obtain⟨i1,i2⟩:=aSh (m:=m) (f:=f) (fun q hq=>h1 q (As _ hq)) (fun q hq=>h2 q (As _ hq)) h3
  have hp1:=h1 p (Av ..)
  have hp2:=pI h3 (h2 p (Av ..))
  rw[mK]at hp2
  show((if p.1=f.1 then mulR f.2 p.2 else[])++apP m f).length≤_∧Bnd _ ((if p.1=f.1 then mulR f.2 p.2 else[])++apP m f)
  rw[Al,AB,CT]
  split
  ·exact⟨by rw[wF];omega,hp2.app i2⟩
  ·exact⟨by simp only[A8];omega,i2⟩
theorem aEd{h g:Nat}{m:List (Int×Ch)}(hm:SzM h m):∀{x:Ch},Bnd (2^g) x→(apL m x).length≤x.length*10000∧Bnd (2^(g+h)) (apL m x)
 |[],_=>⟨An _,Bnd.nil _⟩
 |f::x,hx=>by
  obtain⟨i1,i2⟩:=aEd hm (x:=x) fun y hy=>hx y (As _ hy)
  obtain⟨j1,j2⟩:=aSh (f:=f) hm.bl hm.bb (hx f (Av ..))
  have:=hm.len
  have h2:m.length*100≤10000:=by omega
  show(apP m f++apL m x).length≤_∧Bnd _ (apP m f++apL m x)
  rw[Al,AB,CT]
  exact⟨by omega,j2.app i2⟩
theorem aEc{m:List (Int×Ch)}{x:Ch}{i:Nat}(h:i<x.length):apL m (x.take (i+1))=apL m (x.take i)++apP m x[i]:=by
 unfold apL
 rw[AJ,Aa h,DG];simp
theorem bIs{m:List (Int×Ch)}{f:Int×Int}{j:Nat}(h:j<m.length):apP (m.take (j+1)) f=apP (m.take j) f++if m[j].1=f.1 then mulR f.2 m[j].2 else[]:=by
 unfold apP
 rw[AJ,Aa h,DG];simp
theorem bPu{h g:Nat}{m:List (Int×Ch)}{x:Ch}(hm:SzM h m)(hx:x.length≤100)(hg:Bnd (2^g) x){i:Nat}(hi:i<x.length)(j:Nat) :
  Val (bV [] (apL m (x.take i)++apP (m.take j) x[i]))∧Bnd (2^(20+(g+h))) (bV [] (apL m (x.take i)++apP (m.take j) x[i]))∧(bV [] (apL m (x.take i)++apP (m.take j) x[i])).length≤1000000:=by
 have i1:=aEd hm (x:=x.take i) (g:=g) hg.take
 have j1:=aSh (m:=m.take j) (f:=x[i]) (h:=h) (fun p hp=>hm.bl p (Bs hp)) (fun p hp=>hm.bb p (Bs hp)) (hg _ (Ak hi))
 have hl:(apL m (x.take i)++apP (m.take j) x[i]).length≤1000000:=by
  have hm1:=hm.len
  have h2:(m.take j).length≤m.length:=by rw[AM];omega
  have h3:(m.take j).length*100≤10000:=by omega
  have h4:(x.take i).length≤99:=by rw[AM];omega
  have h5:=AX 10000 h4
  rw[Al];omega
 have hb:=gQ _ [] (Bnd.nil 0) (i1.2.app j1.2)
 have hn:=iL [] (apL m (x.take i)++apP (m.take j) x[i])
 simp only[A8,Bf]at hb hn
 exact⟨(cO _ [] Val.nil).1,hb.mono (lP (Ap hl (by decide))),by omega⟩
set_option maxHeartbeats 2000000 in
set_option maxRecDepth 10000 in
theorem aLo{m:List (Int×Ch)}{x:Ch}{h g:Nat}(hm:SzM h m)(hx:x.length≤100)(hg:Bnd (2^g) x)(hgh:g+h+24<4398046511104):Spec Tryz.prog 13 [aV m,aG x] (aG (apX m x)):=by
 have hml:=hm.len
 refine aZ (N:=45) aI Tryz.func13 rfl rfl rfl (by kernel_rfl) (by kernel_rfl) (by simp) ?_
 simp[-map_map,-mapM_map,↓KW,aV,aG]
 refine aU (fun i:Nat=>i≤x.length) (fun i=>StL [(0,.d (aV m)),(1,.d (aG x)),(5,.d (aG (bV [] (apL m (x.take i))))),(6,.d (.i .i64 (i:Int)))] none []) (fun i=>x.length-i) 0 (An _) ?_ ?_
 ·refine aY [] (by simp) ?_ ?_
  ·simp[-map_map,upd,aT,Γ0,aV,aG,bV,apL]
   exact kW (by simp[iS,upd,qU]) (fun a _ id h=>by simp[nZ]at h)
  ·trivial
 ·intro i hi
  by_cases hgo:i<x.length
  ·have q1:(i:Int)<x.length:=by omega
   have hx1:x[i]? = some x[i]:=Aa hgo
   have hw:Ah.wrap ((i:Int)+1)=(i:Int)+1:=aR (by omega) (by omega)
   have hxg:=hg _ (Ak hgo)
   have hpt:=fun j=>bPu hm hx hg hgo j
   have htk:bV [] (apL m (x.take (i+1)))=bV [] (apL m (x.take i)++apP m x[i]):=by rw[aEc hgo]
   have h0:bV [] (apL m (x.take i))=bV [] (apL m (x.take i)++apP (m.take 0) x[i]):=by rw[BZ];simp[apP]
   refine(show ∃ u,x[i]=u from⟨_,rfl⟩).elim fun u hue=>?_
   rw[hue]at hx1 hxg htk h0
   simp only[hue]at hpt
   obtain⟨n,z⟩:=u
   simp only at hxg
   rw[h0]
   refine(show ∃ pre,apL m (x.take i)=pre from⟨_,rfl⟩).elim fun pre hpe=>?_
   rw[hpe]at htk ⊢
   simp only[hpe]at hpt
   simp[-map_map,-mapM_map,↓KW,aV,aG,q1,hx1,bB,aK,aD,aM]
   refine aU (fun j:Nat=>j≤m.length) (fun j=>StL [(0,.d (aV m)),(1,.d (aG x)),(5,.d (aG (bV [] (pre++apP (m.take j) (n,z))))),(6,.d (.i .i64 (i:Int))),(7,.d (.i .i64 (j:Int)))] none []) (fun j=>m.length-j) 0 (An _) ?_ ?_
   ·refine aY [] (by simp) ?_ ?_<;>simp[-map_map,upd,aT,Γ0,aV,aG]
   ·intro j hj
    by_cases hgo2:j<m.length
    ·have q2:(j:Int)<m.length:=by omega
     have hy1:m[j]? = some m[j]:=Aa hgo2
     have hw2:Ah.wrap ((j:Int)+1)=(j:Int)+1:=aR (by omega) (by omega)
     obtain⟨ov,ob,ol⟩:=hpt j
     have hmv:=hm.val _ (Ak hgo2)
     have hmb:=hm.bb _ (Ak hgo2)
     have hml2:=hm.bl _ (Ak hgo2)
     have htk2:bV [] (pre++apP (m.take (j+1)) (n,z))=bV (bV [] (pre++apP (m.take j) (n,z))) (if m[j].1=n then mulR z m[j].2 else[]):=by
      rw[bIs hgo2,←AZ,aEe]
     refine(show ∃ p,m[j]=p from⟨_,rfl⟩).elim fun p hpe2=>?_
     rw[hpe2]at hy1 hmv hmb hml2 htk2
     obtain⟨q,y⟩:=p
     simp only at hmv hmb hml2 htk2
     refine(show ∃ out,bV [] (pre++apP (m.take j) (n,z))=out from⟨_,rfl⟩).elim fun out hoe=>?_
     rw[hoe]at ob ol ov htk2
     simp only[hoe]
     by_cases h1:q=n
     ·have h1':((q==n):Bool)=true:=by simpa using h1
      have q3:(((n:Int)==(n:Int)):Bool)=true:=by simp
      rw[Ag h1]at htk2
      have hP:=aTt (k:=z) ob hmb hxg (by omega) (by omega) (by omega) (by omega)
      rw[aUb ov hmv]at hP
      unfold lin at hP
      rw[←htk2]at hP
      simp[-map_map,-mapM_map,↓KW,aV,aG,fH,q2,hx1,hy1,h1,h1',q3,bB,aK,aD,aM,aE,aB,aC]
      refine aA (ds:=[aG out,aG y,encZ z]) (by rfl) hP ?_
      simp[-map_map,-mapM_map,↓KW,hw2,aQ,bG,aE,aB]
      refine aJ (j+1) hgo2 (Ab hgo2 (Ad _)) (aY [] (by simp) ?_ ?_)<;>simp[-map_map,upd,aT,Γ0,aV,aG]
     ·have h1':((q==n):Bool)=false:=by simpa using h1
      rw[Ae h1]at htk2
      have htk3:bV [] (pre++apP (m.take (j+1)) (n,z))=out:=htk2
      simp[-map_map,-mapM_map,↓KW,aV,aG,fH,q2,hx1,hy1,h1,h1',bB,aK,aD,aM,aE,aB,aC,hw2]
      refine aJ (j+1) hgo2 (Ab hgo2 (Ad _)) (aY [] (by simp) ?_ ?_)<;>simp[-map_map,upd,aT,Γ0,aV,aG,htk3]
    ·have q2:¬(j:Int)<m.length:=by omega
     rw[Ai (by omega),←htk]
     simp[-map_map,-mapM_map,↓KW,aV,aG,q2,hw]
     refine aJ (i+1) hgo (Ab hgo (Ad _)) (aY [] (by simp) ?_ ?_)<;>simp[-map_map,upd,aT,Γ0,aV,aG]
  ·have q1:¬(i:Int)<x.length:=by omega
   rw[Ai (by omega)]
   simp[-map_map,-mapM_map,↓KW,aV,aG,q1,apX]
end Go.Am
end

section
set_option linter.unusedVariables false
set_option linter.unusedSimpArgs false
open List (map_map mapM_map)
open Go Go.Am Go.Proofs
namespace Go.Am
structure CmT(a b:List Cl)(m:List (Int×Ch)):Prop where
 len:m.length=a.length
 id:∀(i:Nat) x p,a[i]? = some x→m[i]? = some p→p.1=x.id
 key:∀(i:Nat) x p,a[i]? = some x→m[i]? = some p→∀ f∈p.2,∃ y,bW b f.1=some y∧y.dim=x.dim
 bd:∀(i:Nat) x p,a[i]? = some x→m[i]? = some p→bdX b p.2=apX m x.b
set_option maxHeartbeats 4000000 in
set_option maxRecDepth 10000 in
theorem oH{a b:List Cl}{m:List (Int×Ch)}{e f h:Nat}(hc:CmT a b m)(ha:SzX e a)(hb:SzX f b)(hbv:∀ y∈b,Val y.b)(hm:SzM h m)(h1:f+h+20<4398046511104)(h2:e+h+24<4398046511104) :
  Spec Tryz.prog 10 [aF a,aF b,aV m] (.b true):=by
 have hal:=ha.len
 have hbl:=hb.len
 have hml:=hc.len
 refine aZ (N:=101) aI Tryz.func10 rfl rfl rfl (by kernel_rfl) (by kernel_rfl) (by simp) ?_
 have h0:((m.length:Int) != a.length)=false:=by simp;omega
 simp[-map_map,-mapM_map,↓KW,aF,aV,h0]
 refine aU (fun i:Nat=>i≤a.length) (fun i=>StL [(0,.d (aF a)),(1,.d (aF b)),(2,.d (aV m)),(7,.d (.i .i64 (i:Int)))] none []) (fun i=>a.length-i) 0 (An _) ?_ ?_
 ·refine aY [] (by simp) ?_ ?_<;>simp[-map_map,upd,aT,Γ0,aF,aV]
 ·intro i hi
  by_cases hgo:i<a.length
  ·have q1:(i:Int)<a.length:=by omega
   have hgm:i<m.length:=by omega
   have hx:a[i]? = some a[i]:=Aa hgo
   have hp:m[i]? = some m[i]:=Aa hgm
   have hw:Ah.wrap ((i:Int)+1)=(i:Int)+1:=aR (by omega) (by omega)
   have hid:=hc.id i _ _ hx hp
   have hkey:=hc.key i _ _ hx hp
   have hpv:=hm.val _ (Ak hgm)
   have hpb:=hm.bb _ (Ak hgm)
   have hpl:=hm.bl _ (Ak hgm)
   refine(show ∃ x,a[i]=x from⟨_,rfl⟩).elim fun x hxe=>?_
   refine(show ∃ p,m[i]=p from⟨_,rfl⟩).elim fun p hpe=>?_
   rw[hxe]at hx hid hkey
   rw[hpe]at hp hid hkey hpv hpb hpl
   obtain⟨n,y⟩:=p
   simp only at hid hkey hpv hpb hpl
   have hV:=oW y (hpb.sz (by omega)) (by omega)
   rw[uR hpv]at hV
   have hyc:bJ x=[D.i .i64 x.id,.i .i64 x.dim,aG x.b]:=rfl
   have q3:((x.id != x.id):Bool)=false:=by simp
   simp[-map_map,-mapM_map,↓KW,aF,aV,fH,q1,hx,hp,hyc,hid,q3,aE,aB,aC]
   refine aA (ds:=[aG y]) (by rfl) hV ?_
   simp[-map_map,-mapM_map,↓KW,aF,aV,aG]
   refine aU (fun j:Nat=>j≤y.length) (fun j=>StL [(0,.d (aF a)),(1,.d (aF b)),(2,.d (aV m)),(7,.d (.i .i64 (i:Int))),(8,.d (.i .i64 (j:Int)))] none []) (fun j=>y.length-j) 0 (An _) ?_ ?_
   ·refine aY [] (by simp) ?_ ?_<;>simp[-map_map,upd,aT,Γ0,aF,aV]
   ·intro j hj
    by_cases hgo2:j<y.length
    ·have q2:(j:Int)<y.length:=by omega
     have hf:y[j]? = some y[j]:=Aa hgo2
     have hw2:Ah.wrap ((j:Int)+1)=(j:Int)+1:=aR (by omega) (by omega)
     obtain⟨z,hz,hzd⟩:=hkey _ (Ak hgo2)
     refine(show ∃ u,y[j]=u from⟨_,rfl⟩).elim fun u hue=>?_
     rw[hue]at hf hz
     obtain⟨n2,v2⟩:=u
     simp only at hz
     have hF:=qE b n2 (by omega)
     unfold vB at hF
     rw[hz]at hF
     simp only[Ba,Fb]at hF
     have q4:((x.dim != x.dim):Bool)=false:=by simp
     simp[-map_map,-mapM_map,↓KW,aF,aV,fH,aG,q2,hp,hx,hf,bB,aK,aD,aM]
     refine aA (ds:=[aF b,.i .i64 n2]) (by rfl) hF ?_
     simp[-map_map,-mapM_map,↓KW,aF,aV,bS,hyc,hx,hzd,q4,hw2,aE,aB,aC]
     refine aJ (j+1) hgo2 (Ab hgo2 (Ad _)) (aY [] (by simp) ?_ ?_)<;>simp[-map_map,upd,aT,Γ0,aF,aV]
    ·have q2:¬(j:Int)<y.length:=by omega
     simp[-map_map,-mapM_map,↓KW,aF,aV,fH,aG,q2,hp,hx,hw]
     refine aJ (i+1) hgo (Ab hgo (Ad _)) (aY [] (by simp) ?_ ?_)<;>simp[-map_map,upd,aT,Γ0,aF,aV]
  ·have q1:¬(i:Int)<a.length:=by omega
   simp[-map_map,-mapM_map,↓KW,aF,aV,q1]
   refine aU (fun i:Nat=>i≤a.length) (fun i=>StL [(0,.d (aF a)),(1,.d (aF b)),(2,.d (aV m)),(11,.d (.i .i64 (i:Int)))] none []) (fun i=>a.length-i) 0 (An _) ?_ ?_
   ·refine aY [] (by simp) ?_ ?_<;>simp[-map_map,upd,aT,Γ0,aF,aV]
   ·clear hgo q1 hi i
    intro i hi
    by_cases hgo:i<a.length
    ·have q1:(i:Int)<a.length:=by omega
     have hgm:i<m.length:=by omega
     have hx:a[i]? = some a[i]:=Aa hgo
     have hp:m[i]? = some m[i]:=Aa hgm
     have hw:Ah.wrap ((i:Int)+1)=(i:Int)+1:=aR (by omega) (by omega)
     have hbd:=hc.bd i _ _ hx hp
     have hpb:=hm.bb _ (Ak hgm)
     have hpl:=hm.bl _ (Ak hgm)
     have hxb:=ha.bb _ (Ak hgo)
     have hxl:=ha.bl _ (Ak hgo)
     refine(show ∃ x,a[i]=x from⟨_,rfl⟩).elim fun x hxe=>?_
     refine(show ∃ p,m[i]=p from⟨_,rfl⟩).elim fun p hpe=>?_
     rw[hxe]at hx hbd hxb hxl
     rw[hpe]at hp hbd hpb hpl
     obtain⟨n,y⟩:=p
     simp only at hbd hpb hpl
     have hA:=aFt (x:=y) hbv hb hpl hpb h1
     have hP:=aLo (x:=x.b) hm hxl hxb h2
     have hB:=bPp hb hpl hpb
     have hS:=aIk (bdX b y) (apX m x.b) (hB.1.sz (by omega)) (by rw[←hbd];exact hB.1.sz (by omega)) (by have:=hB.2;omega) (by rw[←hbd];have:=hB.2;omega)
     rw[BA hbd]at hS
     have hyc:bJ x=[D.i .i64 x.id,.i .i64 x.dim,aG x.b]:=rfl
     simp[-map_map,-mapM_map,↓KW,aF,aV,fH,q1,hx,hp,hyc,aE,aB,aC]
     refine aA (ds:=[aF b,aG y]) (by rfl) hA ?_
     simp[-map_map,-mapM_map,↓KW,aF,aV,fH,q1,hx,hp,hyc,aE,aB,aC,aQ,bG]
     refine aA (ds:=[aV m,aG x.b]) (by rfl) hP ?_
     simp[-map_map,-mapM_map,↓KW,aF,aV,fH,q1,hx,hp,hyc,aE,aB,aC,aQ,bG]
     refine aA (ds:=[aG (bdX b y),aG (apX m x.b)]) (by rfl) hS ?_
     simp[-map_map,-mapM_map,↓KW,aF,aV,hw]
     refine aJ (i+1) hgo (Ab hgo (Ad _)) (aY [] (by simp) ?_ ?_)<;>simp[-map_map,upd,aT,Γ0,aF,aV]
    ·have q1:¬(i:Int)<a.length:=by omega
     simp[-map_map,-mapM_map,↓KW,aF,aV,q1]
set_option maxHeartbeats 4000000 in
set_option maxRecDepth 10000 in
theorem bLr{c:List Cl}{x:Cl}{e f:Nat}(hc:SzX e c)(hcv:∀ y∈c,Val y.b)(hxv:Val x.b)(hxl:x.b.length≤100)(hxb:Bnd (2^f) x.b)(hd:0≤x.dim∧x.dim≤3)(hk:∀ g∈x.b,∃ y,bW c g.1=some y∧y.dim=x.dim-1)(hz:bdX c x.b=[])
  (hef:e+f+20<4398046511104):Spec Tryz.prog 35 [aF c,.ag (bJ x)] (.i .i64 0):=by
 have hcl:=hc.len
 refine aZ (N:=73) aI Tryz.func35 rfl rfl rfl (by kernel_rfl) (by kernel_rfl) (by simp) ?_
 have hV:=oW x.b (hxb.sz (by omega)) (by omega)
 rw[uR hxv]at hV
 have hA:=aFt hcv hc hxl hxb (by omega)
 rw[hz]at hA
 simp[-map_map,-mapM_map,↓KW,aF,bS,aE,aB,aC]
 refine aA (ds:=[aG x.b]) (by rfl) hV ?_
 simp[-map_map,-mapM_map,↓KW,aF]
 refine aU (fun j:Nat=>j≤x.b.length) (fun j=>StL [(0,.d (aF c)),(3,.ptr 1 0),(5,.d (.i .i64 (j:Int)))] none [.cells 43 [.d (.i .i64 x.id),.d (.i .i64 x.dim),.d (aG x.b)]]) (fun j=>x.b.length-j) 0 (An _) ?_ ?_
 ·refine aY [1] (by simp) ?_ ?_<;>simp[-map_map,upd,aT,Γ0,aF]
 ·intro j hj
  by_cases hgo2:j<x.b.length
  ·have q2:(j:Int)<x.b.length:=by omega
   have hf:x.b[j]? = some x.b[j]:=Aa hgo2
   have hw2:Ah.wrap ((j:Int)+1)=(j:Int)+1:=aR (by omega) (by omega)
   obtain⟨z,hzf,hzd⟩:=hk _ (Ak hgo2)
   refine(show ∃ u,x.b[j]=u from⟨_,rfl⟩).elim fun u hue=>?_
   rw[hue]at hf hzf
   obtain⟨n2,v2⟩:=u
   simp only at hzf
   have hF:=qE c n2 (by omega)
   unfold vB at hF
   rw[hzf]at hF
   simp only[Ba,Fb]at hF
   simp[-map_map,-mapM_map,↓KW,aF,aG,q2,hf,bB,aK,aD,aM]
   refine aA (ds:=[aF c,.i .i64 n2]) (by rfl) hF ?_
   simp[-map_map,-mapM_map,↓KW,aF,bS,hw2,aE,aB,aC]
   refine aJ (j+1) hgo2 (Ab hgo2 (Ad _)) (aY [1] (by simp) ?_ ?_)<;>simp[-map_map,upd,aT,Γ0,aF,aG]
  ·have q2:¬(j:Int)<x.b.length:=by omega
   have d1:¬x.dim<0:=by omega
   have d2:¬3<x.dim:=by omega
   simp[-map_map,-mapM_map,↓KW,aF,aG,q2,d1,d2]
   refine aU (fun j:Nat=>j≤x.b.length) (fun j=>StL [(0,.d (aF c)),(3,.ptr 1 0),(8,.d (.i .i64 (j:Int)))] none [.cells 43 [.d (.i .i64 x.id),.d (.i .i64 x.dim),.d (aG x.b)]]) (fun j=>x.b.length-j) 0 (An _) ?_ ?_
   ·refine aY [1] (by simp) ?_ ?_<;>simp[-map_map,upd,aT,Γ0,aF,aG]
   ·clear hgo2 q2 hj j
    intro j hj
    by_cases hgo2:j<x.b.length
    ·have q2:(j:Int)<x.b.length:=by omega
     have hf:x.b[j]? = some x.b[j]:=Aa hgo2
     have hw2:Ah.wrap ((j:Int)+1)=(j:Int)+1:=aR (by omega) (by omega)
     have hw3:Ah.wrap (x.dim-1)=x.dim-1:=aR (by omega) (by omega)
     obtain⟨z,hzf,hzd⟩:=hk _ (Ak hgo2)
     refine(show ∃ u,x.b[j]=u from⟨_,rfl⟩).elim fun u hue=>?_
     rw[hue]at hf hzf
     obtain⟨n2,v2⟩:=u
     simp only at hzf
     have hF:=qE c n2 (by omega)
     unfold vB at hF
     rw[hzf]at hF
     simp only[Ba,Fb]at hF
     have q4:((x.dim-1 != x.dim-1):Bool)=false:=by simp
     simp[-map_map,-mapM_map,↓KW,aF,aG,q2,hf,bB,aK,aD,aM]
     refine aA (ds:=[aF c,.i .i64 n2]) (by rfl) hF ?_
     simp[-map_map,-mapM_map,↓KW,aF,aG,bS,hw2,hw3,hzd,q4,aE,aB,aC]
     refine aJ (j+1) hgo2 (Ab hgo2 (Ad _)) (aY [1] (by simp) ?_ ?_)<;>simp[-map_map,upd,aT,Γ0,aF,aG]
    ·have q2:¬(j:Int)<x.b.length:=by omega
     simp[-map_map,-mapM_map,↓KW,aF,aG,q2]
     refine aA (ds:=[aF c,aG x.b]) (by rfl) hA ?_
     simp[-map_map,-mapM_map,↓KW,aF,aG]
theorem CxV.bd0{c:List Cl}(h:CxV c){x:Cl}(hx:x∈c):bdX c x.b=[]:=by
 obtain⟨h1,h2⟩:=uB c x.b
 refine h1.ext Val.nil fun n=>?_
 rw[h2,gN]
 exact h.cyc x hx n
set_option maxHeartbeats 4000000 in
set_option maxRecDepth 10000 in
theorem vU{c:List Cl}{e:Nat}(h:CxV c)(hc:SzX e c)(he:e+e+20<4398046511104):Spec Tryz.prog 9 [aF c] (.b true):=by
 have hcl:=hc.len
 refine aZ (N:=52) aI Tryz.func9 rfl rfl rfl (by kernel_rfl) (by kernel_rfl) (by simp) ?_
 have q0:¬(400:Int)<c.length:=by omega
 simp[-map_map,-mapM_map,↓KW,aF,q0]
 refine aU (fun i:Nat=>i≤c.length) (fun i=>StL [(0,.d (aF c)),(3,.d (.i .i64 (i:Int)))] none []) (fun i=>c.length-i) 0 (An _) ?_ ?_
 ·refine aY [] (by simp) ?_ ?_<;>simp[-map_map,upd,aT,Γ0,aF]
 ·intro i hi
  by_cases hgo:i<c.length
  ·have q1:(i:Int)<c.length:=by omega
   have hx:c[i]? = some c[i]:=Aa hgo
   have hw:Ah.wrap ((i:Int)+1)=(i:Int)+1:=aR (by omega) (by omega)
   have hxv:=h.val _ (Ak hgo)
   have hxb:=hc.bb _ (Ak hgo)
   have hxl:=hc.bl _ (Ak hgo)
   have hprev:∀(j:Nat) (hj:j<c.length),j<i→c[j].id<c[i].id:=fun j hj hji=>(Bv.1 h.inc) j i hj hgo hji
   refine(show ∃ x,c[i]=x from⟨_,rfl⟩).elim fun x hxe=>?_
   rw[hxe]at hx hxv hxb hxl
   simp only[hxe]at hprev
   have hV:=oW x.b (hxb.sz (by omega)) (by omega)
   rw[uR hxv]at hV
   have hyc:bJ x=[D.i .i64 x.id,.i .i64 x.dim,aG x.b]:=rfl
   rcases i with _|i
   ·have hw0:Ah.wrap 1=1:=aR (by omega) (by omega)
    have hxe':∀ h:0<c.length,c[0]'h=x:=fun _=>hxe
    simp[-map_map,-mapM_map,↓KW,aF,hgo,hx,hxe',hyc,aE,aB,aC]
    refine aA (ds:=[aG x.b]) (by rfl) hV ?_
    simp[-map_map,-mapM_map,↓KW,aF,hw0]
    refine aJ (0+1) hgo (Ab hgo (Ad _)) (aY [] (by simp) ?_ ?_)<;>simp[-map_map,upd,aT,Γ0,aF]
   ·have hgp:i<c.length:=by omega
    have hp:c[i]? = some c[i]:=Aa hgp
    have hlt:=hprev i hgp (by omega)
    have q3:(0:Int)<((i+1:Nat):Int):=by omega
    have hw2:Ah.wrap (((i+1:Nat):Int)-1)=(i:Int):=by rw[aR (by omega) (by omega)];omega
    refine(show ∃ y,c[i]=y from⟨_,rfl⟩).elim fun y hye=>?_
    rw[hye]at hp hlt
    have hyc2:bJ y=[D.i .i64 y.id,.i .i64 y.dim,aG y.b]:=rfl
    have q4:¬x.id≤y.id:=by omega
    have q5:(0:Int)≤(i:Int):=by omega
    have hw':Ah.wrap (((i+1:Nat):Int)+1)=((i+1+1:Nat):Int):=by rw[aR (by omega) (by omega)];omega
    obtain⟨I,hI⟩:∃ I:Int,((i+1:Nat):Int)=I:=⟨_,rfl⟩
    have hIt:I.toNat=i+1:=by omega
    have q6:0≤I:=by omega
    rw[hI]at q1 q3 hw2 hw'
    simp only[hI]
    simp[-map_map,-mapM_map,↓KW,aF,q1,q3,hIt,q6,hw2,q5,hx,hp,hyc,hyc2,q4,aE,aB,aC]
    refine aA (ds:=[aG x.b]) (by rfl) hV ?_
    simp[-map_map,-mapM_map,↓KW,aF,hw']
    refine aJ (i+1+1) hgo (Ab hgo (Ad _)) (aY [] (by simp) ?_ ?_)<;>simp[-map_map,upd,aT,Γ0,aF]
  ·have q1:¬(i:Int)<c.length:=by omega
   simp[-map_map,-mapM_map,↓KW,aF,q1]
   refine aU (fun i:Nat=>i≤c.length) (fun i=>StL [(0,.d (aF c)),(4,.d (.i .i64 (i:Int)))] none []) (fun i=>c.length-i) 0 (An _) ?_ ?_
   ·refine aY [] (by simp) ?_ ?_<;>simp[-map_map,upd,aT,Γ0,aF]
   ·clear hgo q1 hi i
    intro i hi
    by_cases hgo:i<c.length
    ·have q1:(i:Int)<c.length:=by omega
     have hx:c[i]? = some c[i]:=Aa hgo
     have hw:Ah.wrap ((i:Int)+1)=(i:Int)+1:=aR (by omega) (by omega)
     have hF:=bLr (x:=c[i]) hc h.val (h.val _ (Ak hgo)) (hc.bl _ (Ak hgo)) (hc.bb _ (Ak hgo)) (h.dim _ (Ak hgo)) (fun g hg=>by
      obtain⟨y,hy,e1,e2⟩:=h.face _ (Ak hgo) g hg
      exact⟨y,by rw[←e1];exact h.inc.find hy,e2⟩) (h.bd0 (Ak hgo)) he
     refine(show ∃ x,c[i]=x from⟨_,rfl⟩).elim fun x hxe=>?_
     rw[hxe]at hx hF
     have hyc:bJ x=[D.i .i64 x.id,.i .i64 x.dim,aG x.b]:=rfl
     simp[-map_map,-mapM_map,↓KW,aF,q1,hx,hyc,aE,aB,aC]
     refine aA (ds:=[aF c,.ag (bJ x)]) (by rfl) hF ?_
     simp[-map_map,-mapM_map,↓KW,aF,hw]
     refine aJ (i+1) hgo (Ab hgo (Ad _)) (aY [] (by simp) ?_ ?_)<;>simp[-map_map,upd,aT,Γ0,aF]
    ·have q1:¬(i:Int)<c.length:=by omega
     simp[-map_map,-mapM_map,↓KW,aF,q1]
end Go.Am
end

section
set_option linter.unusedVariables false
set_option linter.unusedSimpArgs false
open Go Go.Am Go.Proofs
namespace Go.Am
theorem aJp{g:List (Int×Ch)}:∀{c:List Cl} {y:Cl} {f:Int×Int},Inc c→y∈c→f.1=y.id→apP (dO c g) f=mulR f.2 ((kD g y.id).getD [(y.id,1)])
 |z::c,y,f,hi,hy,hf=>by
  obtain⟨h1,h2⟩:=A5.1 hi
  have hnone:∀{c:List Cl},(∀ x∈c,x.id≠f.1)→apP (dO c g) f=[]:=by
   intro c hc
   induction c with
   |nil=>rfl
   |cons u c ih =>
    show(if u.id=f.1 then _ else[])++apP (dO c g) f=[]
    rw[Ae (hc u (Av ..)),ih fun x hx=>hc x (As _ hx)];rfl
  show(if z.id=f.1 then mulR f.2 ((kD g z.id).getD [(z.id,1)])else[])++apP (dO c g) f=_
  rcases AD.1 hy with rfl|hy
  ·rw[Ag hf.symm,hnone fun x hx=>by have:=h1 x hx;omega,Bd]
  ·rw[Ae (by have:=h1 y hy;omega),BQ,aJp h2 hy hf]
theorem aJr{g:List (Int×Ch)}{c:List Cl}(hi:Inc c)(r:Int→Int)(hr:∀ y∈c,(kD g y.id).getD [(y.id,1)]=[(r y.id,1)]):∀{x:Ch},(∀ f∈x,∃ y∈c,y.id=f.1)→apL (dO c g) x=x.map fun f=>(r f.1,f.2)
 |[],_=>rfl
 |f::x,h=>by
  obtain⟨y,hy,he⟩:=h f (Av ..)
  show apP (dO c g) f++apL (dO c g) x=_
  rw[aJp hi hy he.symm,hr y hy,aJr hi r hr fun f hf=>h f (As _ hf),he]
  simp[mulR]
/-! Weights under a renaming -/
theorem aAs(w:Int→Int)(r:Int→Int):∀ l:Ch,bK w (l.map fun f=>(r f.1,f.2))=bK (fun n=>w (r n)) l
 |[]=>rfl
 |f::l=>by simp only[AR,bK,aAs w r l]
theorem CxV.wcyc{c:List Cl}(h:CxV c){x:Cl}(hx:x∈c)(w:Int→Int):bK (fun m=>bK w (Go.Am.bOf c m)) x.b=0:=by
 rw[←kT]
 have h1:=h.bd0 hx
 have h2:bK w (bdX c x.b)=bK w []+bK w (bdL c x.b):=lK w _ _
 rw[h1]at h2
 simp only[bK]at h2;omega
theorem dJ(w:Int→Int)(l:Ch):bK w (bV [] l)=bK w l:=by rw[lK];simp[bK]
def rn(a b n:Int):Int:=if n=b then a else n
theorem vS(a b:Int):fL a b=fun f=>(rn a b f.1,f.2):=by
 funext f
 unfold fL rn
 split<;>rfl
structure aJx(c:List Cl)(a b:Int):Prop where
 ne:a≠b
 ina:∃ x∈c,x.id=a
 inb:∃ x∈c,x.id=b
 dim:dOf c a=dOf c b
 bd:bOf c a=bOf c b
section
variable {c:List Cl} {a b:Int}
theorem jV{z:Cl}:z∈kR c a b↔∃ y∈c,y.id≠b∧z=pR a b y:=by
 unfold kR
 rw[AE]
 constructor
 ·rintro⟨y,hy,rfl⟩
  obtain⟨h1,h2⟩:=Bk.1 hy
  exact⟨y,h1,by simpa using h2,rfl⟩
 ·rintro⟨y,h1,h2,rfl⟩
  exact⟨y,Bk.2 ⟨h1,by simpa using h2⟩,rfl⟩
theorem aNr(h:Inc c):Inc (kR c a b):=by
 unfold kR Inc
 rw[Cs]
 exact DB _ h
theorem aJh(h:Inc c){x:Cl}(hx:x∈c):dOf c x.id=x.dim:=by unfold dOf;rw[h.find hx];rfl
theorem aNp(h:Inc c){y:Cl}(hy:y∈c)(hn:y.id≠b):bW (kR c a b) y.id=some (pR a b y):=(aNr h).find (x:=pR a b y) (jV.2 ⟨y,hy,hn,rfl⟩)
theorem bNy(h:Inc c){y:Cl}(hy:y∈c)(hn:y.id≠b):bOf (kR c a b) y.id=bV [] (y.b.map (fL a b)):=by unfold bOf;rw[aNp h hy hn];rfl
theorem aJx.rep(t:aJx c a b)(h:CxV c){y:Cl}(hy:y∈c):∃ z∈c,z.id≠b∧z.id=rn a b y.id∧z.dim=y.dim∧z.b=y.b:=by
 by_cases e:y.id=b
 ·obtain⟨z,hz,hza⟩:=t.ina
  refine⟨z,hz,by rw[hza];exact t.ne,by unfold rn;rw[Ag e];exact hza,?_,?_⟩
  ·have:=t.dim;rw[←hza,←e,aJh h.inc hz,aJh h.inc hy]at this;exact this
  ·have:=t.bd;rw[←hza,←e,h.bOf hz,h.bOf hy]at this;exact this
 ·exact⟨y,hy,e,by unfold rn;rw[Ae e],rfl,rfl⟩
theorem aJx.bOf(t:aJx c a b)(h:CxV c){y:Cl}(hy:y∈c):Go.Am.bOf (kR c a b) (rn a b y.id)=bV [] (y.b.map (fL a b)):=by
 obtain⟨z,hz,h1,h2,_,h4⟩:=t.rep h hy
 rw[←h2,bNy h.inc hz h1,h4]
theorem aJx.valid(t:aJx c a b)(h:CxV c):CxV (kR c a b):=by
 refine⟨aNr h.inc,fun z hz=>?_,fun z hz=>?_,fun z hz f hf=>?_,fun z hz n=>?_⟩
 ·obtain⟨y,hy,_,rfl⟩:=jV.1 hz
  exact h.dim y hy
 ·obtain⟨y,hy,_,rfl⟩:=jV.1 hz
  exact(cO _ [] Val.nil).1
 ·obtain⟨y,hy,_,rfl⟩:=jV.1 hz
  obtain⟨h1,h2⟩:=cO (y.b.map (fL a b)) [] Val.nil
  have hf':f∈bV [] (y.b.map (fL a b)):=hf
  have e:=fB h1 hf'
  rw[h2,gN,Ci]at e
  have hne:cf f.1 (y.b.map (fL a b))≠0:=by rw[e];exact h1.2 f hf'
  obtain⟨g,hg,he⟩:∃ g∈y.b,(fL a b g).1=f.1:=Bb fun hn=>hne (mC fun x hx e=>by
   obtain⟨g,hg,rfl⟩:=AE.1 hx
   exact hn ⟨g,hg,e⟩)
  obtain⟨u,hu,e1,e2⟩:=h.face y hy g hg
  obtain⟨z,hz',k1,k2,k3,_⟩:=t.rep h hu
  refine⟨pR a b z,jV.2 ⟨z,hz',k1,rfl⟩,?_,?_⟩
  ·show z.id=f.1
   rw[k2,e1,←he,vS]
  ·show z.dim=y.dim-1
   rw[k3,e2]
 ·obtain⟨y,hy,_,rfl⟩:=jV.1 hz
  show bK (fun m=>cf n (Go.Am.bOf (kR c a b) m)) (bV [] (y.b.map (fL a b)))=0
  rw[dJ,vS,aAs]
  refine Eq.trans (dQ fun f hf=>?_) (h.wcyc hy fun k=>if n=rn a b k then 1 else 0)
  obtain⟨u,hu,e1,_⟩:=h.face y hy f hf
  rw[←e1,t.bOf h hu,h.bOf hu,nD,dJ,vS,aAs]
theorem wX(a b n:Int):(kD [(b,[(a,1)])] n).getD [(n,1)]=[(rn a b n,1)]:=by
 unfold kD rn
 by_cases e:n=b
 ·rw[Ag e];simp[e]
 ·rw[Ae e]
  have:¬b=n:=fun h=>e h.symm
  simp[this]
theorem aJx.comm(t:aJx c a b)(h:CxV c):CmT c (kR c a b) (dO c [(b,[(a,1)])]):=by
 have hget:∀(i:Nat) x p,c[i]? = some x→(dO c [(b,[(a,1)])])[i]? = some p→p=(x.id,[(rn a b x.id,1)]):=fun i x p hx hp=>by
  unfold dO at hp
  rw[Ax,hx]at hp
  injection hp with hp
  simp only[wX]at hp
  exact hp.symm
 refine⟨by simp[dO],fun i x p hx hp=>by rw[hget i x p hx hp],fun i x p hx hp f hf=>?_,fun i x p hx hp=>?_⟩
 ·rw[hget i x p hx hp]at hf
  have hf':f=(rn a b x.id,1):=by simpa using hf
  subst hf'
  obtain⟨z,hz,h1,h2,h3,_⟩:=t.rep h (Aq hx)
  exact⟨pR a b z,by rw[←h2];exact aNp h.inc hz h1,h3⟩
 ·have hxc:=Aq hx
  rw[hget i x p hx hp]
  obtain⟨z,hz,h1,h2,_,h4⟩:=t.rep h hxc
  have e1:bdX (kR c a b) [(rn a b x.id,1)]=bV [] (x.b.map (fL a b)):=by
   have:=bIf (t.valid h) (y:=pR a b z) (jV.2 ⟨z,hz,h1,rfl⟩)
   rw[←h2]
   refine Eq.trans this ?_
   show bV [] (z.b.map (fL a b))=_
   rw[h4]
  rw[e1]
  unfold apX
  rw[aJr h.inc (rn a b) (fun y _=>wX a b y.id) (fun f hf=>let ⟨y,hy,e,_⟩:=h.face x hxc f hf;⟨y,hy,e⟩),vS]
end
end Go.Am
end

section
set_option linter.unusedVariables false
set_option linter.unusedSimpArgs false
open Go Go.Am Go.Proofs
namespace Go.Am
theorem aKr{a b:Ch}(ha:Val a)(hb:Val b)(h:∀ w,bK w a=bK w b):a=b :=
 ha.ext hb fun n=>by rw[←fS ha,←fS hb,nD,nD];exact h _
theorem aSw(w:Int→Int):∀ l:Ch,bK w (aIo l)+bK w (aNb l)=bK w l
 |[]=>rfl
 |f::l=>by
  have ih:=aSw w l
  unfold aIo aNb at ih ⊢
  by_cases h:0<f.2
  ·simp only[BO,h,decide_true,BN,Bool.not_true,AU,BB,bK]
   omega
  ·simp only[BO,h,decide_false,AU,BB,Bool.not_false,BN,bK]
   omega
theorem aAt(w:Int→Int)(e w1:Int):∀ l:Ch,bK w (adF e w1 l)=cf e l*w w1
 |[]=>by simp[adF,bK,cf]
 |f::l=>by
  have ih:=aAt w e w1 l
  unfold adF at ih ⊢
  simp only[cf]
  by_cases h:f.1=e
  ·have h':e=f.1:=h.symm
   simp only[BO,h,decide_true,BN,AR,bK,ih]
   rw[Fm]
  ·have h':¬e=f.1:=fun x=>h x.symm
   simp only[BO,h,decide_false,AU,BB,ih,Ae h']
   simp
theorem sS(a b d:Int→Int)(k r:Int):∀ l:Ch,bK (fun m=>a m+k*b m-r*d m) l=bK a l+k*bK b l-r*bK d l
 |[]=>by simp[bK]
 |f::l=>by
  simp only[bK,sS a b d k r l]
  rw[Int.mul_sub,CL,CL,CL,Int.mul_left_comm f.2 k,Int.mul_left_comm f.2 r]
  omega
theorem pM{l:Ch}{f:Int×Int}(h:f∈bV [] l):∃ g∈l,g.1=f.1:=by
 obtain⟨h1,h2⟩:=cO l [] Val.nil
 have e:=fB h1 h
 rw[h2,gN,Ci]at e
 have hne:cf f.1 l≠0:=by rw[e];exact h1.2 f h
 exact Bb fun hn=>hne (mC fun x hx e=>hn ⟨x,hx,e⟩)
theorem aRd(m e:Int):(if m=e then(1:Int)else 0)=if e=m then 1 else 0:=by
 by_cases q:m=e
 ·simp[q]
 ·have q':¬e=m:=fun x=>q x.symm
  simp[q,q']
structure jR(c:List Cl)(e w0 w1:Int):Prop where
 ine:∃ x∈c,x.id=e∧x.dim=1
 n0:∀ y∈c,y.id≠w0
 n1:∀ y∈c,y.id≠w1
 ne:w0≠w1
section
variable {c:List Cl} {e w0 w1:Int}
theorem gL{z:Cl}:z∈mU c e w0 w1↔z=aPp w0∨z=aKx w0 w1 (bOf c e)∨∃ y∈c,z=jT e w0 w1 (bOf c e) y:=by
 rw[(tB c e w0 w1).mem_iff]
 unfold aId
 rw[A9,AD,AP,AE]
 constructor
 ·rintro((h|h)|⟨y,hy,rfl⟩)
  ·exact .inl h
  ·exact .inr (.inl h)
  ·exact .inr (.inr ⟨y,hy,rfl⟩)
 ·rintro(h|h|⟨y,hy,rfl⟩)
  ·exact .inl (.inl h)
  ·exact .inl (.inr h)
  ·exact .inr ⟨y,hy,rfl⟩
theorem aUx(h:∀ y∈c,y.id≠w0):kn c w0=false:=by
 unfold kn
 cases e:bW c w0 with
 |none=>rfl
 |some x=>obtain⟨h1,h2⟩:=cV e;exact(h x h1 h2).elim
theorem jR.inc(s:jR c e w0 w1)(h:Inc c):Inc (mU c e w0 w1):=aKz h (aUx s.n0) (aUx s.n1) s.ne
theorem jR.find(s:jR c e w0 w1)(h:Inc c){y:Cl}(hy:y∈c):bW (mU c e w0 w1) y.id=some (jT e w0 w1 (bOf c e) y):=(s.inc h).find (x:=jT e w0 w1 (bOf c e) y) (gL.2 (.inr (.inr ⟨y,hy,rfl⟩)))
theorem jR.find0(s:jR c e w0 w1)(h:Inc c):bW (mU c e w0 w1) w0=some (aPp w0):=(s.inc h).find (x:=aPp w0) (gL.2 (.inl rfl))
theorem jR.find1(s:jR c e w0 w1)(h:Inc c):bW (mU c e w0 w1) w1=some (aKx w0 w1 (bOf c e)):=(s.inc h).find (x:=aKx w0 w1 (bOf c e)) (gL.2 (.inr (.inl rfl)))
theorem jR.b(s:jR c e w0 w1)(h:Inc c){y:Cl}(hy:y∈c):bOf (mU c e w0 w1) y.id=bV [] (subL e w0 w1 (bOf c e) y):=by unfold Go.Am.bOf;rw[s.find h hy];rfl
theorem jR.b0(s:jR c e w0 w1)(h:Inc c):bOf (mU c e w0 w1) w0=[]:=by unfold Go.Am.bOf;rw[s.find0 h];rfl
theorem jR.b1(s:jR c e w0 w1)(h:Inc c):bOf (mU c e w0 w1) w1=bV [] (lM w0 (bOf c e)):=by unfold Go.Am.bOf;rw[s.find1 h];rfl
theorem bGw(h:CxV c){y:Cl}(hy:y∈c)(hd:y.dim=0):y.b=[]:=by
 cases hb:y.b with
 |nil=>rfl
 |cons f l =>
  obtain⟨z,hz,_,e2⟩:=h.face y hy f (by rw[hb];exact Av ..)
  have:=(h.dim z hz).1
  omega
theorem jR.own(s:jR c e w0 w1)(h:CxV c):∃ x∈c,x.id=e∧x.dim=1∧bOf c e=x.b:=by
 obtain⟨x,hx,e1,e2⟩:=s.ine
 exact⟨x,hx,e1,e2,by rw[←e1];exact h.bOf hx⟩
theorem jR.pts(s:jR c e w0 w1)(h:CxV c){f:Int×Int}(hf:f∈bOf c e):∃ y∈c,y.id=f.1∧y.dim=0∧y.id≠e:=by
 obtain⟨x,hx,e1,e2,e3⟩:=s.own h
 rw[e3]at hf
 obtain⟨y,hy,k1,k2⟩:=h.face x hx f hf
 refine⟨y,hy,k1,by omega,fun he=>?_⟩
 have:=h.inc.eq hy hx (he.trans e1.symm)
 subst this;omega
theorem jR.zero(s:jR c e w0 w1)(h:CxV c){y:Cl}(hy:y∈c)(hd:y.dim=0):bOf (mU c e w0 w1) y.id=[]:=by
 rw[s.b h.inc hy]
 unfold subL
 have hb:=bGw h hy hd
 have hne:y.id≠e:=fun he=>by
  obtain⟨x,hx,e1,e2,_⟩:=s.own h
  have:=h.inc.eq hy hx (he.trans e1.symm)
  subst this;omega
 rw[Ae hne,hb];rfl
theorem jR.noE(s:jR c e w0 w1)(h:CxV c):cf e (bOf c e)=0:=mC fun f hf he=>by
 obtain⟨y,_,k1,_,k3⟩:=s.pts h hf
 exact k3 (k1.trans he)
theorem aUp{l:Ch}{f:Int×Int}(h:f∈aIo l):f∈l:=(Bk.1 h).1
theorem aUq{l:Ch}{f:Int×Int}(h:f∈aNb l):f∈l:=(Bk.1 h).1
def nw(c:List Cl)(e w0 w1:Int)(w:Int→Int)(m:Int):Int:=bK w (bOf (mU c e w0 w1) m)
theorem jR.nw1(s:jR c e w0 w1)(h:Inc c)(w:Int→Int):nw c e w0 w1 w w1=- w w0+bK w (aIo (bOf c e)):=by
 unfold nw;rw[s.b1 h,dJ];unfold lM;simp only[bK];omega
theorem jR.nwy(s:jR c e w0 w1)(h:CxV c)(w:Int→Int){y:Cl}(hy:y∈c):nw c e w0 w1 w y.id=bK w (bOf c y.id)+w w1*cf e (bOf c y.id)-nw c e w0 w1 w w1*(if y.id=e then 1 else 0):=by
 have h1:nw c e w0 w1 w y.id=bK w (subL e w0 w1 (bOf c e) y):=by unfold nw;rw[s.b h.inc hy,dJ]
 rw[h1,s.nw1 h.inc]
 unfold subL
 by_cases he:y.id=e
 ·rw[Ag he,Ag he,he,s.noE h]
  have:=aSw w (bOf c e)
  unfold mT;simp only[bK];omega
 ·rw[Ae he,Ae he,nL,aAt,h.bOf hy,BG (w w1)];omega
theorem jR.nw0(s:jR c e w0 w1)(h:CxV c)(w:Int→Int){l:Ch}(hl:∀ f∈l,f.1=w0∨∃ y∈c,y.id=f.1∧y.dim=0):bK (nw c e w0 w1 w) l=0:=sR fun f hf=>by
 unfold nw
 rcases hl f hf with e1|⟨y,hy,e1,e2⟩
 ·rw[e1,s.b0 h.inc];rfl
 ·rw[←e1,s.zero h hy e2];rfl
theorem jR.valid(s:jR c e w0 w1)(h:CxV c):CxV (mU c e w0 w1):=by
 have hpos:∀ f∈lM w0 (bOf c e),f.1=w0∨∃ y∈c,y.id=f.1∧y.dim=0:=fun f hf=>by
  rcases AD.1 hf with rfl|hf
  ·exact .inl rfl
  ·obtain⟨y,hy,k1,k2,_⟩:=s.pts h (aUp hf);exact .inr ⟨y,hy,k1,k2⟩
 have hrest:∀ f∈mT w0 (bOf c e),f.1=w0∨∃ y∈c,y.id=f.1∧y.dim=0:=fun f hf=>by
  rcases AD.1 hf with rfl|hf
  ·exact .inl rfl
  ·obtain⟨y,hy,k1,k2,_⟩:=s.pts h (aUq hf);exact .inr ⟨y,hy,k1,k2⟩
 have hface:∀(f:Int×Int) (d:Int),(f.1=w0∨∃ y∈c,y.id=f.1∧y.dim=0)→d=1→∃ y∈mU c e w0 w1,y.id=f.1∧y.dim=d-1:=fun f d hf hd=>by
  rcases hf with e1|⟨y,hy,e1,e2⟩
  ·exact⟨aPp w0,gL.2 (.inl rfl),e1.symm,by show(0:Int)=_;omega⟩
  ·exact⟨jT e w0 w1 (bOf c e) y,gL.2 (.inr (.inr ⟨y,hy,rfl⟩)),e1,by show y.dim=_;omega⟩
 obtain⟨xe,hxe,xe1,xe2,xe3⟩:=s.own h
 refine⟨s.inc h.inc,fun z hz=>?_,fun z hz=>?_,fun z hz f hf=>?_,fun z hz n=>?_⟩
 ·rcases gL.1 hz with rfl|rfl|⟨y,hy,rfl⟩
  ·exact⟨Int.le_refl 0,by show(0:Int)≤3;decide⟩
  ·exact⟨by show(0:Int)≤1;decide,by show(1:Int)≤3;decide⟩
  ·exact h.dim y hy
 ·rcases gL.1 hz with rfl|rfl|⟨y,hy,rfl⟩
  ·exact Val.nil
  ·exact(cO _ [] Val.nil).1
  ·exact(cO _ [] Val.nil).1
 ·rcases gL.1 hz with rfl|rfl|⟨y,hy,rfl⟩
  ·cases hf
  ·obtain⟨g,hg,he⟩:=pM (l:=lM w0 (bOf c e)) hf
   have:=hface g 1 (hpos g hg) rfl
   rw[he]at this;exact this
  ·obtain⟨g,hg,he⟩:=pM (l:=subL e w0 w1 (bOf c e) y) hf
   unfold subL at hg
   by_cases hye:y.id=e
   ·rw[Ag hye]at hg
    have hyd:y.dim=1:=by rw[h.inc.eq hy hxe (hye.trans xe1.symm)];exact xe2
    have:=hface g y.dim (hrest g hg) hyd
    rw[he]at this;exact this
   ·rw[Ae hye]at hg
    rcases A9.1 hg with hg|hg
    ·obtain⟨u,hu,k1,k2⟩:=h.face y hy g hg
     exact⟨jT e w0 w1 (bOf c e) u,gL.2 (.inr (.inr ⟨u,hu,rfl⟩)),k1.trans he,k2⟩
    ·unfold adF at hg
     obtain⟨g',hg',rfl⟩:=AE.1 hg
     obtain⟨h1,h2⟩:=Bk.1 hg'
     have h2:g'.1=e:=by simpa using h2
     obtain⟨u,hu,k1,k2⟩:=h.face y hy g' h1
     have hu2:u=xe:=h.inc.eq hu hxe (k1.trans (h2.trans xe1.symm))
     refine⟨aKx w0 w1 (bOf c e),gL.2 (.inr (.inl rfl)),he,?_⟩
     show(1:Int)=y.dim-1
     rw[←k2,hu2,xe2]
 ·suffices hw:∀ w:Int→Int,bK (nw c e w0 w1 w) z.b=0 by
   have:=hw fun m=>if n=m then 1 else 0
   refine Eq.trans (dQ fun f _=>?_) this
   unfold nw;rw[nD]
  intro w
  rcases gL.1 hz with rfl|rfl|⟨y,hy,rfl⟩
  ·rfl
  ·show bK _ (bV [] (lM w0 (bOf c e)))=0
   rw[dJ];exact s.nw0 h w hpos
  ·show bK _ (bV [] (subL e w0 w1 (bOf c e) y))=0
   rw[dJ]
   unfold subL
   by_cases hye:y.id=e
   ·rw[Ag hye];exact s.nw0 h w hrest
   ·rw[Ae hye,nL,aAt]
    have e1:bK (nw c e w0 w1 w) y.b=bK (fun m=>bK w (bOf c m)+w w1*cf e (bOf c m)-nw c e w0 w1 w w1*(if m=e then 1 else 0)) y.b:=dQ fun f hf=>by
     obtain⟨u,hu,k1,_⟩:=h.face y hy f hf
     rw[←k1];exact s.nwy h w hu
    have e2:bK (fun m=>if m=e then(1:Int)else 0) y.b=cf e y.b:=by
     rw[nD];exact dQ fun f _=>aRd f.1 e
    rw[e1,sS,h.wcyc hy w,h.cyc y hy e,e2,BG (nw c e w0 w1 w w1)]
    omega
def rH(e w1:Int):Ch:=bV [(e,1)] (mulR 1 [(w1,1)])
theorem vY(n:Int):Val [(n,(1:Int))]:=⟨DN _ _,fun y hy=>by rw[AP.1 hy];simp⟩
theorem aPr(e w1:Int)(w:Int→Int):bK w (rH e w1)=w e+w w1:=by
 unfold rH;rw[lK,nF];simp[bK]
theorem aCq(e n:Int)(B:Ch):(kD [(e,B)] n).getD [(n,1)]=if n=e then B else[(n,1)]:=by
 unfold kD
 by_cases h:n=e
 ·simp[h]
 ·have:¬e=n:=fun x=>h x.symm
  simp[this,h]
theorem vK{g:List (Int×Ch)}(hi:Inc c)(w:Int→Int):∀{x:Ch},(∀ f∈x,∃ y∈c,y.id=f.1)→bK w (apL (dO c g) x)=bK (fun k=>bK w ((kD g k).getD [(k,1)])) x
 |[],_=>rfl
 |f::x,h=>by
  obtain⟨y,hy,he⟩:=h f (Av ..)
  show bK w (apP (dO c g) f++apL (dO c g) x)=_
  rw[nL,aJp hi hy he.symm,nF,vK hi w fun f hf=>h f (As _ hf),he]
  rfl
theorem jR.comm(s:jR c e w0 w1)(h:CxV c):CmT c (mU c e w0 w1) (dO c [(e,rH e w1)]):=by
 have hget:∀(i:Nat) x p,c[i]? = some x→(dO c [(e,rH e w1)])[i]? = some p→p=(x.id,if x.id=e then rH e w1 else[(x.id,1)]):=fun i x p hx hp=>by
  unfold dO at hp
  rw[Ax,hx]at hp
  injection hp with hp
  simp only[aCq]at hp
  exact hp.symm
 obtain⟨xe,hxe,xe1,xe2,xe3⟩:=s.own h
 have hne:e≠w1:=fun x=>s.n1 xe hxe (xe1.trans x)
 refine⟨by simp[dO],fun i x p hx hp=>by rw[hget i x p hx hp],fun i x p hx hp f hf=>?_,fun i x p hx hp=>?_⟩
 ·rw[hget i x p hx hp]at hf
  have hxc:=Aq hx
  simp only at hf
  by_cases hxe':x.id=e
  ·rw[Ag hxe']at hf
   have hxx:x=xe:=h.inc.eq hxc hxe (hxe'.trans xe1.symm)
   have hm:f.1=e∨f.1=w1:=by
    have hv:=(cO (mulR 1 [(w1,1)]) _ (vY e)).1
    by_cases q:f.1=e
    ·exact .inl q
    ·refine .inr (Bb fun q2=>?_)
     have e0:=fB hv hf
     rw[←fS hv,nD]at e0
     have:=aPr e w1 (fun m=>if f.1=m then 1 else 0)
     unfold rH at this
     rw[this,Ae q,Ae q2]at e0
     exact hv.2 f hf e0.symm
   rcases hm with q|q
   ·have hfe:=s.find h.inc hxe
    rw[xe1]at hfe
    refine⟨_,by rw[q];exact hfe,?_⟩
    rw[hxx];rfl
   ·refine⟨_,by rw[q];exact s.find1 h.inc,?_⟩
    rw[hxx,xe2];rfl
  ·rw[Ae hxe']at hf
   rw[AP.1 hf]
   exact⟨_,s.find h.inc hxc,rfl⟩
 ·have hxc:=Aq hx
  rw[hget i x p hx hp]
  have hfc:∀ f∈x.b,∃ y∈c,y.id=f.1:=fun f hf=>let ⟨y,hy,k,_⟩:=h.face x hxc f hf;⟨y,hy,k⟩
  refine aKr (cO _ [] Val.nil).1 (cO _ [] Val.nil).1 fun w=>?_
  unfold bdX apX
  rw[dJ,dJ,kT,vK h.inc w hfc]
  show bK (nw c e w0 w1 w) (if x.id=e then rH e w1 else[(x.id,1)])=_
  have hr:bK (fun k=>bK w ((kD [(e,rH e w1)] k).getD [(k,1)])) x.b=bK w x.b+w w1*cf e x.b:=by
   have e1:bK (fun k=>bK w ((kD [(e,rH e w1)] k).getD [(k,1)])) x.b=bK (fun k=>w k+w w1*(if k=e then 1 else 0)-0*0) x.b:=dQ fun f _=>by
    rw[aCq]
    by_cases q:f.1=e
    ·rw[Ag q,Ag q,aPr,q];omega
    ·rw[Ae q,Ae q];simp[bK]
   have e2:bK (fun m=>if m=e then(1:Int)else 0) x.b=cf e x.b:=by
    rw[nD];exact dQ fun f _=>aRd f.1 e
   rw[e1,sS w _ (fun _=>0) _ 0,e2]
   omega
  rw[hr]
  by_cases hxe':x.id=e
  ·rw[Ag hxe',aPr]
   have hxx:x=xe:=h.inc.eq hxc hxe (hxe'.trans xe1.symm)
   have k1:=s.nwy h w hxe
   rw[xe1,Ag rfl,xe3,←xe3,s.noE h]at k1
   rw[k1,hxx,←xe3,s.noE h]
   omega
  ·rw[Ae hxe']
   simp only[bK]
   rw[s.nwy h w hxc,Ae hxe',h.bOf hxc]
   omega
end
theorem aAg:∀(b a:List Int),a.Pairwise (·<·)→b.Pairwise (·<·)→(∀ x∈a,x∈b)→a.length≤b.length
 |[],a,_,_,h=>by
  cases a with
  |nil=>exact Az _
  |cons x a=>cases h x (Av ..)
 |y::b,[],_,_,_=>An _
 |y::b,x::a,ha,hb,h=>by
  obtain⟨a1,a2⟩:=A5.1 ha
  obtain⟨b1,b2⟩:=A5.1 hb
  by_cases e:x=y
  ·have:=aAg b a a2 b2 fun z hz=>by
    rcases AD.1 (h z (As _ hz))with q|q
    ·have:=a1 z hz;omega
    ·exact q
   simp only[AB];omega
  ·have hx:x∈b:=by
    rcases AD.1 (h x (Av ..))with q|q
    ·exact(e q).elim
    ·exact q
   have hyx:=b1 x hx
   have:=aAg b (x::a) ha b2 fun z hz=>by
    rcases AD.1 (h z hz)with q|q
    ·rcases AD.1 hz with q2|q2
     ·omega
     ·have:=a1 z q2;omega
    ·exact q
   simp only[AB]at this ⊢;omega
theorem CxV.bLen{c:List Cl}(h:CxV c){x:Cl}(hx:x∈c):x.b.length≤c.length:=by
 have:=aAg (c.map Cl.id) (x.b.map (·.1)) (by rw[Cs];exact(h.val x hx).1) (by rw[Cs];exact h.inc) fun n hn=>by
  obtain⟨f,hf,rfl⟩:=AE.1 hn
  obtain⟨y,hy,k,_⟩:=h.face x hx f hf
  exact AE.2 ⟨y,hy,k⟩
 simpa using this
theorem CxV.bLenOf{c:List Cl}(h:CxV c)(n:Int):(Go.Am.bOf c n).length≤c.length:=by
 unfold Go.Am.bOf
 cases e:bW c n with
 |none=>exact An _
 |some x=>exact h.bLen (cV e).1
end Go.Am
end

section
set_option linter.unusedVariables false
set_option linter.unusedSimpArgs false
namespace Go.Am
def enA{β:Type}(g:β→AV)(m:List (Int×β)):List (Int×AV):=m.map fun p=>(p.1,g p.2)
def alk{β:Type}:List (Int×β)→Int→Option β
 |[],_=>none
 |p::m,n=>if p.1=n then some p.2 else alk m n
def apt{β:Type}:List (Int×β)→Int→β→List (Int×β)
 |[],n,v=>[(n,v)]
 |p::m,n,v=>if p.1=n then(n,v)::m else p::apt m n v
theorem tM{β:Type}(g:β→AV)(n:Int):∀ m:List (Int×β),pK (enA g m) n=(alk m n).map g
 |[]=>rfl
 |p::m=>by
  have ih:=tM g n m
  unfold pK at ih ⊢
  simp only[enA,AR,gM,alk]at ih ⊢
  by_cases h:p.1=n
  ·simp[h]
  ·rw[Ae h,Ae h,←ih]
   cases gM n (m.map fun p=>(p.1,g p.2))<;>rfl
theorem wG{β:Type}(g:β→AV)(n:Int)(v:β):∀ m:List (Int×β),pJ (enA g m) n (g v)=enA g (apt m n v)
 |[]=>rfl
 |p::m=>by
  have ih:=wG g n v m
  unfold pJ at ih ⊢
  simp only[enA,AR,gM,apt]at ih ⊢
  by_cases h:p.1=n
  ·simp[h]
  ·rw[Ae h,Ae h,AR,←ih]
   cases gM n (m.map fun p=>(p.1,g p.2))<;>rfl
theorem aAm{β:Type}(n k:Int)(v:β):∀ m:List (Int×β),alk (apt m n v) k=if k=n then some v else alk m k
 |[]=>by
  simp only[apt,alk]
  by_cases h:k=n
  ·rw[Ag h,Ag h.symm]
  ·rw[Ae h,Ae (Ne.symm h)]
 |p::m=>by
  have ih:=aAm n k v m
  simp only[apt,alk]
  by_cases h:p.1=n
  ·rw[Ag h]
   simp only[alk]
   by_cases hk:k=n
   ·rw[Ag hk.symm,Ag hk]
   ·rw[Ae (Ne.symm hk),Ae hk,Ae (by omega)]
  ·rw[Ae h]
   simp only[alk,ih]
   by_cases hp:p.1=k
   ·rw[Ag hp,Ag hp,Ae (by omega)]
   ·rw[Ae hp,Ae hp]
theorem aOt{β:Type}(n:Int)(v:β):∀(m:List (Int×β)) (k:Int),k∈(apt m n v).map (·.1)↔k∈m.map (·.1)∨k=n
 |[],k=>by simp[apt]
 |p::m,k=>by
  have ih:=aOt n v m k
  simp only[apt]
  split
  ·rename_i h
   simp only[AR,AD]
   constructor
   ·rintro(h1|h1)
    ·exact .inr h1
    ·exact .inl (.inr h1)
   ·rintro((h1|h1)|h1)
    ·exact .inl (by omega)
    ·exact .inr h1
    ·exact .inl h1
  ·simp only[AR,AD,ih]
   constructor
   ·rintro(h1|h1|h1)
    ·exact .inl (.inl h1)
    ·exact .inl (.inr h1)
    ·exact .inr h1
   ·rintro((h1|h1)|h1)
    ·exact .inl h1
    ·exact .inr (.inl h1)
    ·exact .inr (.inr h1)
theorem aHi{β:Type}(n:Int)(v:β):∀{m:List (Int×β)},(m.map (·.1)).Nodup→((apt m n v).map (·.1)).Nodup
 |[],_=>by simp[apt]
 |p::m,h=>by
  simp only[AR,Df]at h
  simp only[apt]
  split
  ·rename_i e
   simp only[AR,Df]
   exact⟨by rw[←e];exact h.1,h.2⟩
  ·rename_i e
   simp only[AR,Df]
   refine⟨fun hm=>?_,aHi n v h.2⟩
   rcases(aOt n v m p.1).1 hm with h1|h1
   ·exact h.1 h1
   ·exact e h1
theorem aJs{β:Type}{n:Int}{v:β}:∀{m:List (Int×β)},(m.map (·.1)).Nodup→(alk m n=some v↔(n,v)∈m)
 |[],_=>by simp[alk]
 |p::m,h=>by
  simp only[AR,Df]at h
  have ih:=aJs (n:=n) (v:=v) h.2
  simp only[alk,AD]
  by_cases e:p.1=n
  ·rw[Ag e]
   constructor
   ·intro h1;injection h1 with h1;exact .inl (by rw[←e,←h1])
   ·rintro(h1|h1)
    ·rw[←h1]
    ·exact absurd (AE.2 ⟨_,h1,rfl⟩) (by rw[e]at h;exact h.1)
  ·rw[Ae e,ih]
   constructor
   ·exact .inr
   ·rintro(h1|h1)
    ·rw[←h1]at e;exact absurd rfl e
    ·exact h1
theorem aBd{β:Type}{g:β→D}{H H':Nat→Option HO}{ρ:Nat→Nat}{m m':List (Int×β)}(h:m=m'):lU H H' ρ (.map .i64 (enA (fun v=>.d (g v)) m)) (.map .i64 (enA (fun v=>.d (g v)) m')):=by
 subst h
 refine aBc fun x hx=>?_
 obtain⟨p,_,rfl⟩:=AE.1 hx
 exact bQi _
theorem pZ{β:Type}{g:β→D}{H H':Nat→Option HO}{ρ:Nat→Nat}(m:List (Int×β)):lU H H' ρ (.map .i64 (enA (fun v=>.d (g v)) m)) (.map .i64 (enA (fun v=>.d (g v)) m))↔True:=⟨fun _=>trivial,fun _=>aBd rfl⟩
theorem uU{β:Type}(l:List Nat)(g:β→D)(m:List (Int×β)):eC l (.map .i64 (enA (fun v=>.d (g v)) m))=.map .i64 (enA (fun v=>.d (g v)) m):=by
 simp only[eC,enA,C3]
 congr 1
theorem aVg{β:Type}(g:β→D)(H:Nat→Option HO)(n id:Nat)(m:List (Int×β))(h:H id=some (.map .i64 (enA (fun v=>.d (g v)) m))):frz H (n+2) (.mp id)=some (.mp .i64 (m.map (·.1)) (m.map fun p=>g p.2)):=by
 have e:∀ m:List (Int×β),((enA (fun v=>AV.d (g v)) m).map (·.2)).mapM (frz H (n+1))=some (m.map fun p=>g p.2):=fun m=>by
  induction m with
  |nil=>rfl
  |cons p m ih =>
   show(((enA (fun v=>AV.d (g v)) (p::m)).map (·.2)).mapM (frz H (n+1)))=_
   simp only[enA,AR,List.mapM_cons]at ih ⊢
   rw[ih];rfl
 have e2:frz H (n+1+1) (.mp id)=match H id with
   |some (.map k es)=>((es.map fun x:Int×AV=>x.2).mapM (frz H (n+1))).map (D.mp k (es.map fun x:Int×AV=>x.1))
   |_=>none:=rfl
 rw[show n+2=n+1+1 from rfl,e2,h]
 simp only[e,Option.map_some]
 simp[enA]
theorem bFl{β:Type}(g:β→D)(hg:∀ v,aT (g v)=.d (g v))(m:List (Int×β)):aCn (m.map (·.1)) (m.map fun p=>g p.2)=enA (fun v=>.d (g v)) m:=by
 unfold aCn enA
 induction m with
 |nil=>rfl
 |cons p m ih=>simp only[AR,C2,ih,hg]
end Go.Am
end

section
set_option linter.unusedVariables false
set_option linter.unusedSimpArgs false
open List (map_map mapM_map)
open Go Go.Am Go.Proofs
namespace Go.Am
theorem bVm:lG Tryz.prog 58:=by
 refine⟨fun w=>enters_of Tryz.func58 (by kernel_rfl) rfl _ w,fun w=>?_⟩
 refine callsD_of_wpS Tryz.func58 rfl fun c₀ cs hu=>?_
 apply wpS_region
 simp[wpOpsS,go_sem,recoverD,hu,Tryz.ntmps58,bodyPostS,results,Tryz.results58]
 cases c₀;simp only at hu;subst hu;rfl
def lD(p:Int×Int):List D:=[.i .i64 p.1,.i .i64 p.2]
def cU(l:List (Int×Int)):D:=.sl (l.map lD)
theorem jK(x:Int×Int):(lD x).length=2:=rfl
theorem yQ(x:Int×Int):((lD x).map AV.d).all one=true:=rfl
theorem sC(x:Int×Int):lD x=[.i .i64 x.1,.i .i64 x.2]:=rfl
/-! How often a cell is used -/
def aFb(m:List (Int×Int))(n:Int):List (Int×Int):=apt m n ((alk m n).getD 0+1)
def kU(l:Ch)(m:List (Int×Int)):List (Int×Int):=l.foldl (fun m f=>aFb m f.1) m
def rK(c:List Cl):List (Int×Int):=c.foldl (fun m x=>kU x.b m) []
def qT(n:Int)(l:Ch):Nat:=l.countP fun f=>decide (f.1=n)
def kS(n:Int):List Cl→Nat
 |[]=>0
 |x::c=>qT n x.b+kS n c
def aSn(m:List (Int×Int))(k:Int→Nat):Prop:=(m.map (·.1)).Nodup∧∀ n,(alk m n).getD 0=(k n:Int)
theorem bNv{m:List (Int×Int)}{k:Int→Nat}(h:aSn m k)(n:Int):aSn (aFb m n) fun q=>k q+if q=n then 1 else 0:=by
 refine⟨aHi _ _ h.1,fun q=>?_⟩
 unfold aFb
 rw[aAm]
 by_cases e:q=n
 ·subst e;simp[h.2 q]
 ·simp[e,h.2 q]
theorem aKs:∀(l:Ch) {m:List (Int×Int)} {k:Int→Nat},aSn m k→aSn (kU l m) fun q=>k q+qT q l
 |[],m,k,h=>by simpa[kU,qT]using h
 |f::l,m,k,h=>by
  have:=aKs l (bNv h f.1)
  refine⟨this.1,fun q=>?_⟩
  show(alk (kU l (aFb m f.1)) q).getD 0=_
  rw[this.2 q]
  simp only[qT,List.countP_cons]
  by_cases e:q=f.1
  ·rw[Ag e,Ag (by simp[e])];omega
  ·have:¬f.1=q:=fun h=>e h.symm
   simp[e,this]
theorem bAu(c:List Cl):aSn (rK c) fun q=>kS q c:=by
 suffices ∀(c:List Cl) (m:List (Int×Int)) (k:Int→Nat),aSn m k→aSn (c.foldl (fun m x=>kU x.b m) m) fun q=>k q+kS q c by
  have:=this c [] (fun _=>0) ⟨by simp,fun n=>rfl⟩
  simpa[rK]using this
 intro c
 induction c with
 |nil=>intro m k h;simpa[kS]using h
 |cons x c ih =>
  intro m k h
  have:=ih _ _ (aKs x.b h)
  refine⟨this.1,fun q=>?_⟩
  show(alk (c.foldl (fun m x=>kU x.b m) (kU x.b m)) q).getD 0=_
  rw[this.2 q]
  simp only[kS];omega
theorem aPk{c:List Cl}{i:Nat}(h:i<c.length):rK (c.take (i+1))=kU c[i].b (rK (c.take i)):=by
 unfold rK
 rw[AJ,Aa h,C9];rfl
theorem aPj{l:Ch}{i:Nat}(h:i<l.length)(m:List (Int×Int)):kU (l.take (i+1)) m=aFb (kU (l.take i) m) l[i].1:=by
 unfold kU
 rw[AJ,Aa h,C9];rfl
theorem uG{l:Ch}{m:List (Int×Int)}{B:Int}(h:∀ n,0≤(alk m n).getD 0∧(alk m n).getD 0≤B):∀ n,0≤(alk (kU l m) n).getD 0∧(alk (kU l m) n).getD 0≤B+l.length:=by
 induction l generalizing m B with
 |nil=>intro n;have:=h n;simp only[kU,List.foldl_nil,A8];omega
 |cons f l ih =>
  intro n
  have:=ih (m:=aFb m f.1) (B:=B+1) (fun q=>by
   unfold aFb
   rw[aAm]
   have h1:=h q
   have h2:=h f.1
   split
   ·simp only[Ba];omega
   ·omega) n
  show 0≤(alk (kU l (aFb m f.1)) n).getD 0∧(alk (kU l (aFb m f.1)) n).getD 0≤_
  simp only[AB];omega
/-! The free pairs -/
def gU(c:List Cl)(f:Int×Int):Bool:=decide (kS f.1 c=1)&&decide (f.2.natAbs=1)
def iC(c:List Cl)(x:Cl):List (Int×Int):=if 0<kS x.id c then[]else(x.b.filter (gU c)).map fun f=>(x.id,f.1)
def fU(c:List Cl):List (Int×Int):=c.flatMap (iC c)
def iD(v:Int):D:=.i .i64 v
def bD(v:Bool):D:=.b v
def usE(m:List (Int×Int)):List (Int×AV):=enA (fun v=>.d (iD v)) m
def onE(m:List (Int×Bool)):List (Int×AV):=enA (fun v=>.d (bD v)) m
theorem bMh:([]:List (Int×AV))=onE []:=rfl
theorem aYg(m:List (Int×Int))(n:Int):pK (usE m) n=(alk m n).map fun v=>.d (.i .i64 v):=tM _ _ _
theorem aYh(m:List (Int×Bool))(n:Int):pK (onE m) n=(alk m n).map fun v=>.d (.b v):=tM _ _ _
theorem bDy(m:List (Int×Int))(n v:Int):pJ (usE m) n (.d (.i .i64 v))=usE (apt m n v):=wG (fun v=>AV.d (iD v)) _ _ _
theorem aNd(m:List (Int×Bool))(n:Int)(v:Bool):pJ (onE m) n (.d (.b v))=onE (apt m n v):=wG (fun v=>AV.d (bD v)) _ _ _
theorem vN{H H':Nat→Option HO}{ρ:Nat→Nat}(m:List (Int×Int)):lU H H' ρ (.map .i64 (usE m)) (.map .i64 (usE m))↔True:=pZ _
theorem dL{H H':Nat→Option HO}{ρ:Nat→Nat}(m:List (Int×Bool)):lU H H' ρ (.map .i64 (onE m)) (.map .i64 (onE m))↔True:=pZ _
theorem lN(l:List Nat)(m:List (Int×Int)):eC l (.map .i64 (usE m))=.map .i64 (usE m):=uU _ _ _
theorem bU(l:List Nat)(m:List (Int×Bool)):eC l (.map .i64 (onE m))=.map .i64 (onE m):=uU _ _ _
theorem bWi(H:Nat→Option HO)(id:Nat)(m:List (Int×Int))(n:Int)(h:H id=some (.map .i64 (usE m))):lJ Tryz.prog H 109 (.mp id) (.d (.i .i64 n)) false=some (.d (.i .i64 ((alk m n).getD 0))):=by
 have h1:tmp Tryz.prog 109=some (3,3):=by kernel_rfl
 have h2:gW Tryz.prog 3=some .i64:=by kernel_rfl
 have h3:tz Tryz.prog 3=some (.int .i64 0):=by kernel_rfl
 rw[cD,h]
 simp only[aYg]
 cases alk m n<;>simp[h1,h2,h3,cv,cv1]
theorem bQt(H:Nat→Option HO)(id:Nat)(m:List (Int×Bool))(n:Int)(h:H id=some (.map .i64 (onE m))):lJ Tryz.prog H 110 (.mp id) (.d (.i .i64 n)) false=some (.d (.b ((alk m n).getD false))):=by
 have h1:tmp Tryz.prog 110=some (3,4):=by kernel_rfl
 have h2:gW Tryz.prog 3=some .i64:=by kernel_rfl
 have h3:tz Tryz.prog 4=some (.bool false):=by kernel_rfl
 rw[cD,h]
 simp only[aYh]
 cases alk m n<;>simp[h1,h2,h3,cv,cv1]
def usD(m:List (Int×Int)):D:=.mp .i64 (m.map (·.1)) (m.map fun p=>iD p.2)
theorem bTe(H:Nat→Option HO)(m:List (Int×Int))(n:Int):lJ Tryz.prog H 109 (.d (usD m)) (.d (.i .i64 n)) false=some (.d (.i .i64 ((alk m n).getD 0))):=by
 have h1:tmp Tryz.prog 109=some (3,3):=by kernel_rfl
 have h2:gW Tryz.prog 3=some .i64:=by kernel_rfl
 have h3:tz Tryz.prog 3=some (.int .i64 0):=by kernel_rfl
 have e:lJ Tryz.prog H 109 (.d (usD m)) (.d (.i .i64 n)) false=uL Tryz.prog 109 .i64 (aCn (m.map (·.1)) (m.map fun p=>iD p.2)) (.d (.i .i64 n)) false:=rfl
 rw[e,bFl iD fun _=>rfl]
 simp only[uL,tM]
 cases alk m n<;>simp[h1,h2,h3,cv,cv1,iD]
def usI(m:List (Int×Int)):List (Int×D):=m.map fun p=>(p.1,iD p.2)
theorem aXz(m:List (Int×Int))(Γ:Nat→AV)(n:Nat)(x:Operand)(h:oev Γ x=.d (usD m)):nev Tryz.prog (.range 109 x) Γ n=some (.ptr n 0,some (.iter .i64 none (usI m))):=by
 have h1:tmp Tryz.prog 109=some (3,3):=by kernel_rfl
 have e:∀ m:List (Int×Int),(m.map (·.1)).zip (m.map fun p=>iD p.2)=usI m:=fun m=>by
  induction m with
  |nil=>rfl
  |cons p m ih=>simp only[AR,C2,ih,usI]
 simp only[nev,h1,h,usD,Option.bind_some,e]
theorem aDf{α:Type}:∀{l:List α} {j:Nat} {e:α},l[j]? = some e→l.Perm (e::l.eraseIdx j)
 |[],j,e,h=>by simp at h
 |x::l,0,e,h=>by simp at h;subst h;exact List.Perm.refl _
 |x::l,j+1,e,h=>by
  have:=aDf (l:=l) (j:=j) (e:=e) (by simpa using h)
  exact(List.Perm.cons x this).trans (List.Perm.swap e x _)
theorem bNn(H:Nat→Option HO)(id:Nat):itA H (.ptr id 0)=match H id with
  |some (.iter k _ es)=>some (id,k,es)
  |_=>none:=rfl
theorem aOf(H:Nat→Option HO)(id:Nat):bGo H (.ptr id 0)=match H id with
  |some (.iter k (some e) _)=>some (.tp [.d (.i k e.1),aT e.2])
  |_=>none:=rfl
theorem yD{H H':Nat→Option HO}{ρ:Nat→Nat}(k k':IntKind)(l l':Option (Int×D))(es es':List (Int×D)):lU H H' ρ (.iter k l es) (.iter k' l' es')↔(k=k'∧l=l'∧es=es'):=Iff.rfl
theorem yZ(s:List Nat)(k:IntKind)(l:Option (Int×D))(es:List (Int×D)):eC s (.iter k l es)=.iter k l es:=rfl
theorem aTh{m:List (Int×Int)}{e:Int×D}(h:e∈usI m):∃ n v,e=(n,iD v)∧(n,v)∈m:=by
 obtain⟨p,hp,rfl⟩:=AE.1 h
 exact⟨p.1,p.2,rfl,hp⟩
theorem bFs{a b:Int}(h:iD a=iD b):a=b:=by injection h
theorem aVc(v:Int):aT (iD v)=.d (.i .i64 v):=rfl
def aKa(m:List (Int×Int))(rest:List (Int×D))(once:List (Int×Bool)):Prop:=∃ done,(done++rest).Perm (usI m)∧∀ n,(alk once n).getD false=true↔(n,iD 1)∈done
theorem aKa.step{m:List (Int×Int)}{rest:List (Int×D)}{once:List (Int×Bool)}(h:aKa m rest once){j:Nat}{n v:Int}(he:rest[j]? = some (n,iD v)):aKa m (rest.eraseIdx j) (if v=1 then apt once n true else once):=by
 obtain⟨done,h1,h2⟩:=h
 refine⟨done++[(n,iD v)],?_,fun q=>?_⟩
 ·rw[AZ]
  exact((List.Perm.append_left done (aDf he)).symm).trans h1
 ·rw[A9,AP,DZ]
  by_cases hv:v=1
  ·rw[Ag hv,aAm]
   by_cases hq:q=n
   ·subst hq;subst hv;simp
   ·rw[Ae hq,h2];simp[hq]
  ·rw[Ae hv,h2]
   constructor
   ·exact .inl
   ·rintro(h|⟨_,h⟩)
    ·exact h
    ·exact absurd (bFs h).symm hv
theorem aKa.fin{m:List (Int×Int)}{once:List (Int×Bool)}(hnd:(m.map (·.1)).Nodup)(h:aKa m [] once)(n:Int):(alk once n).getD false=true↔(alk m n).getD 0=1:=by
 obtain⟨done,h1,h2⟩:=h
 rw[Bd]at h1
 rw[h2,h1.mem_iff]
 constructor
 ·intro h
  obtain⟨a,v,e,hm⟩:=aTh h
  injection e with e1 e2
  rw[←bFs e2,←e1]at hm
  rw[(aJs hnd).2 hm];rfl
 ·intro h
  cases hk:alk m n with
  |none=>rw[hk]at h;simp at h
  |some v =>
   rw[hk]at h
   have hv:v=1:=h
   subst hv
   exact AE.2 ⟨(n,1),(aJs hnd).1 hk,rfl⟩
theorem aKa.nil(m:List (Int×Int)):aKa m (usI m) []:=⟨[],by simp,fun n=>by simp[alk]⟩
def nB(t:Nat)(sl:List (Nat×AV))(mb:HO)(e:TypeId)(sz n:Nat)(cells:List D):St:=match n with
 |0=>StL ((t,.nil)::sl) none [mb]
 |n+1=>StL ((t,.own 2 0 (n+1) sz)::sl) none [mb,.cells e (cells.map .d)]
def lI(t:Nat)(sl:List (Nat×AV))(mb xb:HO)(e:TypeId)(sz n:Nat)(cells:List D):St:=match n with
 |0=>StL ((t,.nil)::sl) none [mb,xb]
 |n+1=>StL ((t,.own 3 0 (n+1) sz)::sl) none [mb,xb,.cells e (cells.map .d)]
theorem aRe{c d:List Cl}{i:Nat}(h:i<c.length):(c.take (i+1)).flatMap (iC d)=(c.take i).flatMap (iC d)++iC d c[i]:=by
 rw[AJ,Aa h,DG];simp
theorem aGv{c:List Cl}{l:Ch}{i:Nat}(n:Int)(h:i<l.length):((l.take (i+1)).filter (gU c)).map (fun f=>(n,f.1))=((l.take i).filter (gU c)).map (fun f=>(n,f.1))++if gU c l[i]then[(n,l[i].1)]else[]:=by
 rw[AJ,Aa h,BT,By]
 congr 1
 by_cases e:gU c l[i]=true<;>simp[e]
set_option maxHeartbeats 16000000 in
set_option maxRecDepth 10000 in
theorem aQt{c:List Cl}{e:Nat}(hz:SzX e c)(he:e+14<4398046511104):Spec Tryz.prog 19 [aF c] (cU (fU c)):=by
 have hlen:=hz.len
 refine nH (N:=90) aI Tryz.func19 rfl rfl rfl (by kernel_rfl) (by kernel_rfl) (by kernel_rfl) (by kernel_rfl) rfl bVm (by simp) ?_
 simp[-map_map,-mapM_map,↓KW,aF]
 refine aCh (fun i:Nat=>i≤c.length∧∀ n,0≤(alk (rK (c.take i)) n).getD 0∧(alk (rK (c.take i)) n).getD 0≤100*i) (fun i=>StL [(0,.d (aF c)),(3,.mp 1),(17,.d (aF c)),(18,.d (.i .i64 c.length)),(19,.d (.i .i64 (i:Int)))] none [.map .i64 (usE (rK (c.take i)))]) (fun i=>c.length-i) 0 ⟨An _,fun n=>by simp[rK,alk]⟩ ?_ ?_
 ·refine aY [1] (by simp) ?_ ?_
  ·simp[-map_map,upd,aT,Γ0,aF]
  ·exact⟨⟨_,by simp[upd];rfl,aBd rfl⟩,trivial⟩
 ·rintro i ⟨hi,hub⟩
  by_cases hgo:i<c.length
  ·have q1:(i:Int)<c.length:=by omega
   have hx:c[i]? = some c[i]:=Aa hgo
   have hw:Ah.wrap ((i:Int)+1)=(i:Int)+1:=aR (by omega) (by omega)
   have htk:=aPk hgo
   have hxl:=hz.bl _ (Ak hgo)
   refine(show ∃ x,c[i]=x from⟨_,rfl⟩).elim fun x hxe=>?_
   rw[hxe]at hx htk hxl
   refine(show ∃ m,rK (c.take i)=m from⟨_,rfl⟩).elim fun m hme=>?_
   rw[hme]at htk
   simp only[hme]at hub ⊢
   have hyc:bJ x=[D.i .i64 x.id,.i .i64 x.dim,aG x.b]:=rfl
   simp[-map_map,-mapM_map,↓KW,aF,aG,q1,hx,hyc,aE,aB,aC,lN]
   refine aU (fun j:Nat=>j≤x.b.length) (fun j=>StL [(0,.d (aF c)),(3,.mp 1),(17,.d (aF c)),(18,.d (.i .i64 c.length)),(19,.d (.i .i64 (i:Int))),(24,.d (aG x.b)),(25,.d (.i .i64 x.b.length)),(26,.d (.i .i64 (j:Int)))] none [.map .i64 (usE (kU (x.b.take j) m))]) (fun j=>x.b.length-j) 0 (An _) ?_ ?_
   ·refine aY [1] (by simp) ?_ ?_<;>simp[-map_map,upd,aT,Γ0,aF,aG,lN,vN,kU]
   ·intro j hj
    by_cases hgo2:j<x.b.length
    ·have q2:(j:Int)<x.b.length:=by omega
     have hf:x.b[j]? = some x.b[j]:=Aa hgo2
     have hw2:Ah.wrap ((j:Int)+1)=(j:Int)+1:=aR (by omega) (by omega)
     have htk2:=aPj hgo2 m
     have hb2:=uG (l:=x.b.take j) hub
     rw[AM]at hb2
     refine(show ∃ f,x.b[j]=f from⟨_,rfl⟩).elim fun f hfe=>?_
     rw[hfe]at hf htk2
     refine(show ∃ m',kU (x.b.take j) m=m' from⟨_,rfl⟩).elim fun m' hme'=>?_
     rw[hme']at htk2 hb2
     simp only[hme']
     have hb3:=hb2 f.1
     have hlk:∀ H:Nat→Option HO,H 1=some (.map .i64 (usE m'))→lJ Tryz.prog H 109 (.mp 1) (.d (.i .i64 f.1)) false=some (.d (.i .i64 ((alk m' f.1).getD 0))):=fun H h=>bWi H 1 m' f.1 h
     have hinc:apt m' f.1 ((alk m' f.1).getD 0+1)=aFb m' f.1:=rfl
     refine(show ∃ v,(alk m' f.1).getD 0=v from⟨_,rfl⟩).elim fun v hve=>?_
     rw[hve]at hlk hinc hb3
     have hw3:Ah.wrap (v+1)=v+1:=aR (by omega) (by omega)
     simp[-map_map,-mapM_map,↓KW,aF,aG,bB,q2,hf,hlk,hw3,hw2,cJ,bDy,hinc,lN,aK,aD,aM]
     refine aJ (j+1) hgo2 (Ab hgo2 (Ad _)) (aY [1] (by simp) ?_ ?_)<;>simp[-map_map,upd,aT,Γ0,aF,aG,lN,vN,htk2]
    ·have q2:¬(j:Int)<x.b.length:=by omega
     have hb2:=uG (l:=x.b) hub
     rw[Ai (by omega)]
     simp[-map_map,-mapM_map,↓KW,aF,aG,q2,hw]
     refine aJ (i+1) ⟨hgo,fun n=>?_⟩ (Ab hgo (Ad _)) (aY [1] (by simp) ?_ ?_)
     ·rw[htk];have:=hb2 n;omega
     ·simp[-map_map,upd,aT,Γ0,aF,aG,lN,vN,htk]
     ·simp[-map_map,upd,aT,Γ0,aF,aG,lN,vN,htk]
  ·have q1:¬(i:Int)<c.length:=by omega
   rw[Ai (by omega)]at hub ⊢
   obtain⟨hnd,hcnt⟩:=bAu c
   refine(show ∃ m,rK c=m from⟨_,rfl⟩).elim fun m hme=>?_
   rw[hme]at hub hnd hcnt ⊢
   simp[-map_map,-mapM_map,↓KW,aF,q1]
   refine bGj (StL [(0,.d (aF c)),(3,.d (usD m))] none []) (aY [] (by simp) ?_ ?_) ?_
   ·simp[-map_map,upd,aT,Γ0,aF]
    exact kW (aVg iD _ 6 1 m rfl) (fun a _ id h=>by simp[nZ]at h)
   ·trivial
   ·simp[-map_map,-mapM_map,↓KW,aF,↓bDh,aXz m,bMh]
    refine aU (fun y:Option (Int×D)×List (Int×D)×List (Int×Bool)=>aKa m y.2.1 y.2.2) (fun y=>StL [(0,.d (aF c)),(3,.d (usD m)),(8,.mp 1),(39,.ptr 2 0)] none [.map .i64 (onE y.2.2),.iter .i64 y.1 y.2.1]) (fun y=>y.2.1.length) (none,usI m,[]) (aKa.nil m) ?_ ?_
    ·refine aY [1,2] (by simp) ?_ ?_<;>simp[-map_map,upd,aT,Γ0,aF,dL,yD]
    ·rintro⟨last,rest,once⟩ hok
     simp only at hok ⊢
     simp[-map_map,-mapM_map,↓KW,aF,↓bMk,bNn]
     refine aMz (fun he=>?_) (fun j ⟨n,w⟩ he=>?_)
     ·subst he
      have hfin:=hok.fin hnd
      simp[-map_map,-mapM_map,↓KW,aF]
      refine aU (fun y:Nat×List (Int×Int)=>y.1≤c.length∧y.2.length≤100*y.1∧(c.take y.1).flatMap (iC c)=y.2) (fun y=>nB 11 [(0,.d (aF c)),(3,.d (usD m)),(8,.mp 1),(49,.d (aF c)),(50,.d (.i .i64 c.length)),(51,.d (.i .i64 (y.1:Int)))] (.map .i64 (onE once)) 56 2 y.2.length (flt lD y.2)) (fun y=>c.length-y.1) (0,[]) ⟨An _,An _,rfl⟩ ?_ ?_
      ·simp only[A8,nB]
       refine aY [1] (by simp) ?_ ?_<;>simp[-map_map,upd,aT,Γ0,aF,dL,bY]
      ·clear hi hgo q1 i hub
       rintro⟨i,l⟩ ⟨hi,hll,hl⟩
       simp only at hi hll hl ⊢
       by_cases hgo:i<c.length
       ·have q1:(i:Int)<c.length:=by omega
        have hx:c[i]? = some c[i]:=Aa hgo
        have hw:Ah.wrap ((i:Int)+1)=(i:Int)+1:=aR (by omega) (by omega)
        have htk:=aRe (d:=c) hgo
        rw[hl]at htk
        have hxl:=hz.bl _ (Ak hgo)
        have hxb:=hz.bb _ (Ak hgo)
        refine(show ∃ x,c[i]=x from⟨_,rfl⟩).elim fun x hxe=>?_
        rw[hxe]at hx htk hxl hxb
        have hyc:bJ x=[D.i .i64 x.id,.i .i64 x.dim,aG x.b]:=rfl
        have hlu:∀ H:Nat→Option HO,lJ Tryz.prog H 109 (.d (usD m)) (.d (.i .i64 x.id)) false=some (.d (.i .i64 ((kS x.id c:Nat):Int))):=fun H=>by rw[bTe H m x.id,hcnt]
        rcases hn:l.length with _|k
        ·simp only[hn,nB]
         by_cases h0:0<kS x.id c
         ·have h0':(0:Int)<((kS x.id c:Nat):Int):=by omega
          have hfc:iC c x=[]:=by unfold iC;rw[Ag h0]
          rw[hfc,Bd]at htk
          simp[-map_map,-mapM_map,↓KW,aF,q1,hx,hyc,hlu,h0,h0',hw,aE,aB,aC,bU]
          refine aJ (τ:=Nat×List (Int×Int)) (i+1,l) ⟨hgo,by simp only;omega,htk⟩ (Ab hgo (Ad _)) ?_
          simp only[hn,nB]
          refine aY [1] (by simp) ?_ ?_<;>simp[-map_map,upd,aT,Γ0,aF,dL,bY]
         ·have h0':¬(0:Int)<((kS x.id c:Nat):Int):=by omega
          have hfc:iC c x=(x.b.filter (gU c)).map fun f=>(x.id,f.1):=by unfold iC;rw[Ae h0]
          rw[hfc]at htk
          simp[-map_map,-mapM_map,↓KW,aF,aG,q1,hx,hyc,hlu,h0,h0',hw,aE,aB,aC,bU]
          refine aU (fun y:Nat×List (Int×Int)=>y.1≤x.b.length∧y.2.length≤100*i+y.1∧l++((x.b.take y.1).filter (gU c)).map (fun f=>(x.id,f.1))=y.2) (fun y=>lI 11 [(0,.d (aF c)),(3,.d (usD m)),(8,.mp 1),(13,.ptr 2 0),(49,.d (aF c)),(50,.d (.i .i64 c.length)),(51,.d (.i .i64 (i:Int))),(61,.d (aG x.b)),(62,.d (.i .i64 x.b.length)),(63,.d (.i .i64 (y.1:Int)))] (.map .i64 (onE once)) (.cells 43 [.d (.i .i64 x.id),.d (.i .i64 x.dim),.d (aG x.b)]) 56 2 y.2.length (flt lD y.2)) (fun y=>x.b.length-y.1) (0,l) ⟨An _,by simp only;omega,by simp⟩ ?_ ?_
          ·simp only[hn,lI]
           refine aY [1,2] (by simp) ?_ ?_<;>simp[-map_map,upd,aT,Γ0,aF,aG,dL,bY]
          ·rintro⟨j,l2⟩ ⟨hj,hl2,hinv⟩
           simp only at hj hl2 hinv ⊢
           by_cases hgo2:j<x.b.length
           ·have q2:(j:Int)<x.b.length:=by omega
            have hf:x.b[j]? = some x.b[j]:=Aa hgo2
            have hw2:Ah.wrap ((j:Int)+1)=(j:Int)+1:=aR (by omega) (by omega)
            have hfb:=hxb _ (Ak hgo2)
            have htk2:=aGv (c:=c) x.id hgo2
            refine(show ∃ f,x.b[j]=f from⟨_,rfl⟩).elim fun f hfe=>?_
            rw[hfe]at hf htk2 hfb
            have hinv2:l++((x.b.take (j+1)).filter (gU c)).map (fun f=>(x.id,f.1))=l2++if gU c f then[(x.id,f.1)]else[]:=by rw[htk2,←AZ,hinv]
            have hef:dK f=[.i .i64 f.1,.b (decide (f.2<0)),aN (aX f.2.natAbs)]:=rfl
            obtain⟨n,z⟩:=f
            simp only at hfb hef hinv2
            have hzS:Sz z:=szE hfb (by omega)
            have hon:(alk once n).getD false=decide (kS n c=1):=by
             rw[Dg,hfin,hcnt,AH];simp only;omega
            have hlo:∀ H:Nat→Option HO,H 1=some (.map .i64 (onE once))→lJ Tryz.prog H 110 (.mp 1) (.d (.i .i64 n)) false=some (.d (.b (decide (kS n c=1)))):=fun H h=>by rw[bQt H 1 once n h,hon]
            have hm1:(1:Nat)≤maxLen:=aW (by decide)
            rcases hn2:l2.length with _|k
            ·by_cases h1:kS n c=1
             ·have hA:=aAh z hzS
              have hO:=uZ
              obtain⟨r,hC,hr⟩:=wU (z.natAbs:Int) 1 (by unfold Sz at hzS ⊢;rw[Cx];exact hzS) sz1
              rw[BA h1]at hlo
              simp only[lI]
              simp[-map_map,-mapM_map,↓KW,aF,aG,bB,q2,hf,hlo,aK,aD,aM]
              refine aA (ds:=[encZ z]) (by rfl) hA ?_
              simp[-map_map,-mapM_map,↓KW,aF,aG,bB,bF,aK,aD,aM,bU]
              refine aA (ds:=[.i .i64 1]) (by rfl) hO ?_
              simp[-map_map,-mapM_map,↓KW,aF,aG,bB,bF,aK,aD,aM,bU]
              refine aA (ds:=[encZ (z.natAbs:Int),encZ 1]) (by rfl) hC ?_
              by_cases hz1:z.natAbs=1
              ·have hr0:r=0:=hr.2 (by omega)
               have hok:gU c (n,z)=true:=by unfold gU;simp[h1,hz1]
               rw[hok,Ag rfl]at hinv2
               rw[hr0]
               have e0:l2=[]:=Au hn2
               simp[-map_map,-mapM_map,↓KW,hr0,hw2,hm1,bU]
               refine aJ (τ:=Nat×List (Int×Int)) (j+1,l2++[(x.id,n)]) ⟨hgo2,by simp only[Al,Ar];omega,hinv2⟩ (Ab hgo2 (Ad _)) ?_
               simp only[Al,hn2,Ar,lI]
               refine aY [1,2,5] (by simp) ?_ ?_<;>simp[-map_map,upd,aT,Γ0,aF,aG,dL,e0,bZ,sC]
              ·have hr0:((r==0):Bool)=false:=by simp;exact fun h=>hz1 (by have:=hr.1 h;omega)
               have hok:gU c (n,z)=false:=by unfold gU;simp[hz1]
               rw[hok]at hinv2
               simp only[AU,BB,Bd]at hinv2
               simp[-map_map,-mapM_map,↓KW,hr0,hw2,bU]
               refine aJ (τ:=Nat×List (Int×Int)) (j+1,l2) ⟨hgo2,by simp only;omega,hinv2⟩ (Ab hgo2 (Ad _)) ?_
               simp only[hn2,lI]
               refine aY [1,2] (by simp) ?_ ?_<;>simp[-map_map,upd,aT,Γ0,aF,aG,dL,bY]
             ·rw[Bq h1]at hlo
              have hok:gU c (n,z)=false:=by unfold gU;simp[h1]
              rw[hok]at hinv2
              simp only[AU,BB,Bd]at hinv2
              simp only[lI]
              simp[-map_map,-mapM_map,↓KW,aF,aG,bB,q2,hf,hlo,hw2,aK,aD,aM,bU]
              refine aJ (τ:=Nat×List (Int×Int)) (j+1,l2) ⟨hgo2,by simp only;omega,hinv2⟩ (Ab hgo2 (Ad _)) ?_
              simp only[hn2,lI]
              refine aY [1,2] (by simp) ?_ ?_<;>simp[-map_map,upd,aT,Γ0,aF,aG,dL,bY]
            ·by_cases h1:kS n c=1
             ·have hA:=aAh z hzS
              have hO:=uZ
              obtain⟨r,hC,hr⟩:=wU (z.natAbs:Int) 1 (by unfold Sz at hzS ⊢;rw[Cx];exact hzS) sz1
              rw[BA h1]at hlo
              simp only[lI]
              simp[-map_map,-mapM_map,↓KW,aF,aG,bB,q2,hf,hlo,aK,aD,aM]
              refine aA (ds:=[encZ z]) (by rfl) hA ?_
              simp[-map_map,-mapM_map,↓KW,aF,aG,bB,bF,aK,aD,aM,bU]
              refine aA (ds:=[.i .i64 1]) (by rfl) hO ?_
              simp[-map_map,-mapM_map,↓KW,aF,aG,bB,bF,aK,aD,aM,bU]
              refine aA (ds:=[encZ (z.natAbs:Int),encZ 1]) (by rfl) hC ?_
              by_cases hz1:z.natAbs=1
              ·have hr0:r=0:=hr.2 (by omega)
               have hok:gU c (n,z)=true:=by unfold gU;simp[h1,hz1]
               rw[hok,Ag rfl]at hinv2
               rw[hr0]
               have hbb:=cC (n:=k+1) (by omega)
               have hcl:=cB jK l2
               rw[hn2]at hcl
               have hal:=dZ yQ l2
               have hb8:(k+1+1)*16≤140737488355328:=by omega
               simp[-map_map,-mapM_map,↓KW,hr0,hw2,hm1,hbb,hb8,hcl,hal,aW,bU]
               refine aJ (τ:=Nat×List (Int×Int)) (j+1,l2++[(x.id,n)]) ⟨hgo2,by simp only[Al,Ar];omega,hinv2⟩ (Ab hgo2 (Ad _)) ?_
               simp only[Al,hn2,Ar,lI]
               refine aY [1,2,6] (by simp) ?_ ?_<;>simp[-map_map,upd,aT,Γ0,aF,aG,bU,dL,dP,bZ,sC]
              ·have hr0:((r==0):Bool)=false:=by simp;exact fun h=>hz1 (by have:=hr.1 h;omega)
               have hok:gU c (n,z)=false:=by unfold gU;simp[hz1]
               rw[hok]at hinv2
               simp only[AU,BB,Bd]at hinv2
               simp[-map_map,-mapM_map,↓KW,hr0,hw2,bU]
               refine aJ (τ:=Nat×List (Int×Int)) (j+1,l2) ⟨hgo2,by simp only;omega,hinv2⟩ (Ab hgo2 (Ad _)) ?_
               simp only[hn2,lI]
               refine aY [1,2,3] (by simp) ?_ ?_<;>simp[-map_map,upd,aT,Γ0,aF,aG,dL,bY]
             ·rw[Bq h1]at hlo
              have hok:gU c (n,z)=false:=by unfold gU;simp[h1]
              rw[hok]at hinv2
              simp only[AU,BB,Bd]at hinv2
              simp only[lI]
              simp[-map_map,-mapM_map,↓KW,aF,aG,bB,q2,hf,hlo,hw2,aK,aD,aM,bU]
              refine aJ (τ:=Nat×List (Int×Int)) (j+1,l2) ⟨hgo2,by simp only;omega,hinv2⟩ (Ab hgo2 (Ad _)) ?_
              simp only[hn2,lI]
              refine aY [1,2,3] (by simp) ?_ ?_<;>simp[-map_map,upd,aT,Γ0,aF,aG,dL,bY]
           ·have q2:¬(j:Int)<x.b.length:=by omega
            rw[Ai (by omega)]at hinv
            rcases hn2:l2.length with _|k
            ·simp only[lI]
             simp[-map_map,-mapM_map,↓KW,aF,aG,q2,hw,bU]
             refine aJ (τ:=Nat×List (Int×Int)) (i+1,l2) ⟨hgo,by simp only;omega,by rw[htk,hinv]⟩ (Ab hgo (Ad _)) ?_
             simp only[hn2,nB]
             refine aY [1] (by simp) ?_ ?_<;>simp[-map_map,upd,aT,Γ0,aF,dL,bY]
            ·simp only[lI]
             simp[-map_map,-mapM_map,↓KW,aF,aG,q2,hw,bU]
             refine aJ (τ:=Nat×List (Int×Int)) (i+1,l2) ⟨hgo,by simp only;omega,by rw[htk,hinv]⟩ (Ab hgo (Ad _)) ?_
             simp only[hn2,nB]
             refine aY [1,3] (by simp) ?_ ?_<;>simp[-map_map,upd,aT,Γ0,aF,dL,bY]
        ·simp only[hn,nB]
         by_cases h0:0<kS x.id c
         ·have h0':(0:Int)<((kS x.id c:Nat):Int):=by omega
          have hfc:iC c x=[]:=by unfold iC;rw[Ag h0]
          rw[hfc,Bd]at htk
          simp[-map_map,-mapM_map,↓KW,aF,q1,hx,hyc,hlu,h0,h0',hw,aE,aB,aC,bU]
          refine aJ (τ:=Nat×List (Int×Int)) (i+1,l) ⟨hgo,by simp only;omega,htk⟩ (Ab hgo (Ad _)) ?_
          simp only[hn,nB]
          refine aY [1,2] (by simp) ?_ ?_<;>simp[-map_map,upd,aT,Γ0,aF,dL,bY]
         ·have h0':¬(0:Int)<((kS x.id c:Nat):Int):=by omega
          have hfc:iC c x=(x.b.filter (gU c)).map fun f=>(x.id,f.1):=by unfold iC;rw[Ae h0]
          rw[hfc]at htk
          simp[-map_map,-mapM_map,↓KW,aF,aG,q1,hx,hyc,hlu,h0,h0',hw,aE,aB,aC,bU]
          refine aU (fun y:Nat×List (Int×Int)=>y.1≤x.b.length∧y.2.length≤100*i+y.1∧l++((x.b.take y.1).filter (gU c)).map (fun f=>(x.id,f.1))=y.2) (fun y=>lI 11 [(0,.d (aF c)),(3,.d (usD m)),(8,.mp 1),(13,.ptr 2 0),(49,.d (aF c)),(50,.d (.i .i64 c.length)),(51,.d (.i .i64 (i:Int))),(61,.d (aG x.b)),(62,.d (.i .i64 x.b.length)),(63,.d (.i .i64 (y.1:Int)))] (.map .i64 (onE once)) (.cells 43 [.d (.i .i64 x.id),.d (.i .i64 x.dim),.d (aG x.b)]) 56 2 y.2.length (flt lD y.2)) (fun y=>x.b.length-y.1) (0,l) ⟨An _,by simp only;omega,by simp⟩ ?_ ?_
          ·simp only[hn,lI]
           refine aY [1,3,2] (by simp) ?_ ?_<;>simp[-map_map,upd,aT,Γ0,aF,aG,dL,bY]
          ·rintro⟨j,l2⟩ ⟨hj,hl2,hinv⟩
           simp only at hj hl2 hinv ⊢
           by_cases hgo2:j<x.b.length
           ·have q2:(j:Int)<x.b.length:=by omega
            have hf:x.b[j]? = some x.b[j]:=Aa hgo2
            have hw2:Ah.wrap ((j:Int)+1)=(j:Int)+1:=aR (by omega) (by omega)
            have hfb:=hxb _ (Ak hgo2)
            have htk2:=aGv (c:=c) x.id hgo2
            refine(show ∃ f,x.b[j]=f from⟨_,rfl⟩).elim fun f hfe=>?_
            rw[hfe]at hf htk2 hfb
            have hinv2:l++((x.b.take (j+1)).filter (gU c)).map (fun f=>(x.id,f.1))=l2++if gU c f then[(x.id,f.1)]else[]:=by rw[htk2,←AZ,hinv]
            have hef:dK f=[.i .i64 f.1,.b (decide (f.2<0)),aN (aX f.2.natAbs)]:=rfl
            obtain⟨n,z⟩:=f
            simp only at hfb hef hinv2
            have hzS:Sz z:=szE hfb (by omega)
            have hon:(alk once n).getD false=decide (kS n c=1):=by
             rw[Dg,hfin,hcnt,AH];simp only;omega
            have hlo:∀ H:Nat→Option HO,H 1=some (.map .i64 (onE once))→lJ Tryz.prog H 110 (.mp 1) (.d (.i .i64 n)) false=some (.d (.b (decide (kS n c=1)))):=fun H h=>by rw[bQt H 1 once n h,hon]
            have hm1:(1:Nat)≤maxLen:=aW (by decide)
            rcases hn2:l2.length with _|k
            ·by_cases h1:kS n c=1
             ·have hA:=aAh z hzS
              have hO:=uZ
              obtain⟨r,hC,hr⟩:=wU (z.natAbs:Int) 1 (by unfold Sz at hzS ⊢;rw[Cx];exact hzS) sz1
              rw[BA h1]at hlo
              simp only[lI]
              simp[-map_map,-mapM_map,↓KW,aF,aG,bB,q2,hf,hlo,aK,aD,aM]
              refine aA (ds:=[encZ z]) (by rfl) hA ?_
              simp[-map_map,-mapM_map,↓KW,aF,aG,bB,bF,aK,aD,aM,bU]
              refine aA (ds:=[.i .i64 1]) (by rfl) hO ?_
              simp[-map_map,-mapM_map,↓KW,aF,aG,bB,bF,aK,aD,aM,bU]
              refine aA (ds:=[encZ (z.natAbs:Int),encZ 1]) (by rfl) hC ?_
              by_cases hz1:z.natAbs=1
              ·have hr0:r=0:=hr.2 (by omega)
               have hok:gU c (n,z)=true:=by unfold gU;simp[h1,hz1]
               rw[hok,Ag rfl]at hinv2
               rw[hr0]
               have e0:l2=[]:=Au hn2
               simp[-map_map,-mapM_map,↓KW,hr0,hw2,hm1,bU]
               refine aJ (τ:=Nat×List (Int×Int)) (j+1,l2++[(x.id,n)]) ⟨hgo2,by simp only[Al,Ar];omega,hinv2⟩ (Ab hgo2 (Ad _)) ?_
               simp only[Al,hn2,Ar,lI]
               refine aY [1,2,5] (by simp) ?_ ?_<;>simp[-map_map,upd,aT,Γ0,aF,aG,dL,e0,bZ,sC]
              ·have hr0:((r==0):Bool)=false:=by simp;exact fun h=>hz1 (by have:=hr.1 h;omega)
               have hok:gU c (n,z)=false:=by unfold gU;simp[hz1]
               rw[hok]at hinv2
               simp only[AU,BB,Bd]at hinv2
               simp[-map_map,-mapM_map,↓KW,hr0,hw2,bU]
               refine aJ (τ:=Nat×List (Int×Int)) (j+1,l2) ⟨hgo2,by simp only;omega,hinv2⟩ (Ab hgo2 (Ad _)) ?_
               simp only[hn2,lI]
               refine aY [1,2] (by simp) ?_ ?_<;>simp[-map_map,upd,aT,Γ0,aF,aG,dL,bY]
             ·rw[Bq h1]at hlo
              have hok:gU c (n,z)=false:=by unfold gU;simp[h1]
              rw[hok]at hinv2
              simp only[AU,BB,Bd]at hinv2
              simp only[lI]
              simp[-map_map,-mapM_map,↓KW,aF,aG,bB,q2,hf,hlo,hw2,aK,aD,aM,bU]
              refine aJ (τ:=Nat×List (Int×Int)) (j+1,l2) ⟨hgo2,by simp only;omega,hinv2⟩ (Ab hgo2 (Ad _)) ?_
              simp only[hn2,lI]
              refine aY [1,2] (by simp) ?_ ?_<;>simp[-map_map,upd,aT,Γ0,aF,aG,dL,bY]
            ·by_cases h1:kS n c=1
             ·have hA:=aAh z hzS
              have hO:=uZ
              obtain⟨r,hC,hr⟩:=wU (z.natAbs:Int) 1 (by unfold Sz at hzS ⊢;rw[Cx];exact hzS) sz1
              rw[BA h1]at hlo
              simp only[lI]
              simp[-map_map,-mapM_map,↓KW,aF,aG,bB,q2,hf,hlo,aK,aD,aM]
              refine aA (ds:=[encZ z]) (by rfl) hA ?_
              simp[-map_map,-mapM_map,↓KW,aF,aG,bB,bF,aK,aD,aM,bU]
              refine aA (ds:=[.i .i64 1]) (by rfl) hO ?_
              simp[-map_map,-mapM_map,↓KW,aF,aG,bB,bF,aK,aD,aM,bU]
              refine aA (ds:=[encZ (z.natAbs:Int),encZ 1]) (by rfl) hC ?_
              by_cases hz1:z.natAbs=1
              ·have hr0:r=0:=hr.2 (by omega)
               have hok:gU c (n,z)=true:=by unfold gU;simp[h1,hz1]
               rw[hok,Ag rfl]at hinv2
               rw[hr0]
               have hbb:=cC (n:=k+1) (by omega)
               have hcl:=cB jK l2
               rw[hn2]at hcl
               have hal:=dZ yQ l2
               have hb8:(k+1+1)*16≤140737488355328:=by omega
               simp[-map_map,-mapM_map,↓KW,hr0,hw2,hm1,hbb,hb8,hcl,hal,aW,bU]
               refine aJ (τ:=Nat×List (Int×Int)) (j+1,l2++[(x.id,n)]) ⟨hgo2,by simp only[Al,Ar];omega,hinv2⟩ (Ab hgo2 (Ad _)) ?_
               simp only[Al,hn2,Ar,lI]
               refine aY [1,2,6] (by simp) ?_ ?_<;>simp[-map_map,upd,aT,Γ0,aF,aG,bU,dL,dP,bZ,sC]
              ·have hr0:((r==0):Bool)=false:=by simp;exact fun h=>hz1 (by have:=hr.1 h;omega)
               have hok:gU c (n,z)=false:=by unfold gU;simp[hz1]
               rw[hok]at hinv2
               simp only[AU,BB,Bd]at hinv2
               simp[-map_map,-mapM_map,↓KW,hr0,hw2,bU]
               refine aJ (τ:=Nat×List (Int×Int)) (j+1,l2) ⟨hgo2,by simp only;omega,hinv2⟩ (Ab hgo2 (Ad _)) ?_
               simp only[hn2,lI]
               refine aY [1,2,3] (by simp) ?_ ?_<;>simp[-map_map,upd,aT,Γ0,aF,aG,dL,bY]
             ·rw[Bq h1]at hlo
              have hok:gU c (n,z)=false:=by unfold gU;simp[h1]
              rw[hok]at hinv2
              simp only[AU,BB,Bd]at hinv2
              simp only[lI]
              simp[-map_map,-mapM_map,↓KW,aF,aG,bB,q2,hf,hlo,hw2,aK,aD,aM,bU]
              refine aJ (τ:=Nat×List (Int×Int)) (j+1,l2) ⟨hgo2,by simp only;omega,hinv2⟩ (Ab hgo2 (Ad _)) ?_
              simp only[hn2,lI]
              refine aY [1,2,3] (by simp) ?_ ?_<;>simp[-map_map,upd,aT,Γ0,aF,aG,dL,bY]
           ·have q2:¬(j:Int)<x.b.length:=by omega
            rw[Ai (by omega)]at hinv
            rcases hn2:l2.length with _|k
            ·simp only[lI]
             simp[-map_map,-mapM_map,↓KW,aF,aG,q2,hw,bU]
             refine aJ (τ:=Nat×List (Int×Int)) (i+1,l2) ⟨hgo,by simp only;omega,by rw[htk,hinv]⟩ (Ab hgo (Ad _)) ?_
             simp only[hn2,nB]
             refine aY [1] (by simp) ?_ ?_<;>simp[-map_map,upd,aT,Γ0,aF,dL,bY]
            ·simp only[lI]
             simp[-map_map,-mapM_map,↓KW,aF,aG,q2,hw,bU]
             refine aJ (τ:=Nat×List (Int×Int)) (i+1,l2) ⟨hgo,by simp only;omega,by rw[htk,hinv]⟩ (Ab hgo (Ad _)) ?_
             simp only[hn2,nB]
             refine aY [1,3] (by simp) ?_ ?_<;>simp[-map_map,upd,aT,Γ0,aF,dL,bY]
       ·have q1:¬(i:Int)<c.length:=by omega
        rw[Ai (by omega)]at hl
        have hl':fU c=l:=hl
        rcases hn:l.length with _|k
        ·have e0:l=[]:=Au hn
         simp only[nB]
         simp[-map_map,-mapM_map,↓KW,aF,cU,q1,hl',e0]
        ·have e1:=eR jK hn
         have e2:=eF (by decide) jK hn
         have e3:=cB jK l
         rw[hn]at e3
         simp only[nB]
         simp[-map_map,-mapM_map,↓KW,aF,cU,q1,hl',e1,e2,e3,hn]
     ·have hlt:=(Aj.1 he).1
      obtain⟨n',v,hnv,hnm⟩:∃ n' v,((n,w):Int×D)=(n',iD v)∧(n',v)∈m:=by
       obtain⟨done,h1,_⟩:=hok
       exact aTh (h1.mem_iff.1 (List.mem_append_right _ (Aq he)))
      injection hnv with e1 e2
      subst e1;subst e2
      have hst:=hok.step he
      have hel:(rest.eraseIdx j).length<rest.length:=by rw[List.length_eraseIdx,Ag hlt];omega
      refine(show ∃ r',rest.eraseIdx j=r' from⟨_,rfl⟩).elim fun r' hre=>?_
      rw[hre]at hst hel ⊢
      by_cases hv:v=1
      ·have hv':((v==1):Bool)=true:=by simpa using hv
       rw[Ag hv]at hst
       have q3:(((1:Int)==(1:Int)):Bool)=true:=rfl
       simp[-map_map,-mapM_map,↓KW,aF,↓aMr,aOf,aVc,hv',hv,q3,cJ,aNd,bU,yZ]
       refine aJ (τ:=Option (Int×D)×List (Int×D)×List (Int×Bool)) (some (n,iD v),r',apt once n true) hst hel (aY [1,2] (by simp) ?_ ?_)<;>simp[-map_map,upd,aT,Γ0,aF,dL,yD,hv]
      ·have hv':((v==1):Bool)=false:=by simpa using hv
       rw[Ae hv]at hst
       simp[-map_map,-mapM_map,↓KW,aF,↓aMr,aOf,aVc,hv',hv,cJ,aNd,bU,yZ]
       refine aJ (τ:=Option (Int×D)×List (Int×D)×List (Int×Bool)) (some (n,iD v),r',once) hst hel (aY [1,2] (by simp) ?_ ?_)<;>simp[-map_map,upd,aT,Γ0,aF,dL,yD]
end Go.Am
end

section
set_option linter.unusedVariables false
set_option linter.unusedSimpArgs false
open List (map_map mapM_map)
open Go Go.Am Go.Proofs
namespace Go.Am
theorem aVx(x y:List AV):jM .eql false (.ag x) (.ag y)=none:=rfl
theorem bVk:tai Tryz.prog 56=some .i64:=by kernel_rfl
theorem bRb(a b c d:Int):bIl .eql (tai Tryz.prog 56) (.ag [.d (.i .i64 a),.d (.i .i64 b)]) (.ag [.d (.i .i64 c),.d (.i .i64 d)])=some (.b (a==c&&b==d)):=by rw[bVk];rfl
def ixP(l:List (Int×Int))(p:Int×Int):Int:=if p∈l then(l.findIdx (fun q=>q==p):Nat)else -1
set_option maxHeartbeats 2000000 in
set_option maxRecDepth 10000 in
theorem bWs(l:List (Int×Int))(a b:Int)(hl:l.length≤1000000):Spec Tryz.prog 86 [cU l,.ag [.i .i64 a,.i .i64 b]] (.i .i64 (ixP l (a,b))):=by
 refine aZ (N:=19) aI Tryz.func86 rfl rfl rfl (by kernel_rfl) (by kernel_rfl) (by simp) ?_
 simp[-map_map,-mapM_map,↓KW,cU]
 refine aU (fun i:Nat=>i≤l.length∧∀ j p,j<i→l[j]? = some p→p≠(a,b)) (fun i=>StL [(0,.d (cU l)),(3,.ptr 1 0),(7,.d (.i .i64 l.length)),(8,.d (.i .i64 (i:Int)))] none [.cells 56 [.d (.i .i64 a),.d (.i .i64 b)]]) (fun i=>l.length-i) 0 ⟨An _,fun j p h=>by omega⟩ ?_ ?_
 ·refine aY [1] (by simp) ?_ ?_<;>simp[-map_map,upd,aT,Γ0,cU]
 ·rintro i ⟨hi,hn⟩
  by_cases hgo:i<l.length
  ·have q1:(i:Int)<l.length:=by omega
   have hx:l[i]? = some l[i]:=Aa hgo
   have hw:Ah.wrap ((i:Int)+1)=(i:Int)+1:=aR (by omega) (by omega)
   have hw0:Ah.wrap (i:Int)=(i:Int):=aR (by omega) (by omega)
   refine(show ∃ x,l[i]=x from⟨_,rfl⟩).elim fun x hxe=>?_
   rw[hxe]at hx
   have hy:lD x=[.i .i64 x.1,.i .i64 x.2]:=rfl
   by_cases he:x=(a,b)
   ·subst he
    have hb:((a==a&&b==b):Bool)=true:=by simp
    have hix:ixP l (a,b)=i:=by
     unfold ixP
     rw[Ag (Aq hx)]
     congr 1
     rw[List.findIdx_eq hgo]
     refine⟨by rw[hxe];simp,fun j hj=>?_⟩
     have:=hn j l[j] hj (Aa (by omega))
     simpa using this
    simp[-map_map,-mapM_map,↓KW,cU,q1,hx,hy,hw,aVx,bRb,hb,hix]
   ·have hb:((a==x.1&&b==x.2):Bool)=false:=by
     cases h:((a==x.1&&b==x.2):Bool)
     ·rfl
     ·simp only[AI,beq_iff_eq]at h
      exact(he (Prod.ext h.1.symm h.2.symm)).elim
    simp[-map_map,-mapM_map,↓KW,cU,q1,hx,hy,hw,aVx,bRb,hb]
    refine aJ (i+1) ⟨hgo,fun j p hj hp=>?_⟩ (Ab hgo (Ad _)) (aY [1] (by simp) ?_ ?_)
    ·rcases Bc j i with h|h
     ·exact hn j p h hp
     ·obtain rfl:j=i:=by omega
      rw[hx]at hp;injection hp with hp;rw[←hp];exact he
    ·simp[-map_map,upd,aT,Γ0,cU]
    ·simp[-map_map,upd,aT,Γ0,cU]
  ·have q1:¬(i:Int)<l.length:=by omega
   have hnm:(a,b) ∉ l:=fun h=>by
    obtain⟨j,hj⟩:=List.getElem?_of_mem h
    exact hn j _ (by have:=(Aj.1 hj).1;omega) hj rfl
   simp[-map_map,-mapM_map,↓KW,cU,q1,ixP,hnm]
set_option maxHeartbeats 2000000 in
theorem cAt(l:List (Int×Int))(a b:Int)(hl:l.length≤1000000):Spec Tryz.prog 47 [cU l,.ag [.i .i64 a,.i .i64 b]] (.b (decide ((a,b)∈l))):=by
 refine aZ (N:=9) aI Tryz.func47 rfl rfl rfl (by kernel_rfl) (by kernel_rfl) (by simp) ?_
 have hI:=bWs l a b hl
 have hge:decide ((0:Int)≤ixP l (a,b))=decide ((a,b)∈l):=by
  unfold ixP
  by_cases h:(a,b)∈l
  ·rw[Ag h];simp[h]
  ·rw[Ae h];simp[h]
 simp[-map_map,-mapM_map,↓KW,cU]
 refine aA (ds:=[cU l,.ag [.i .i64 a,.i .i64 b]]) (by rfl) hI ?_
 simp[-map_map,-mapM_map,↓KW,cU,hge]
end Go.Am
end

section
set_option linter.unusedVariables false
set_option linter.unusedSimpArgs false
namespace Go.Am
open RowKit (Below)
section
variable {P:Program} {G:Ctx} {N:Nat} {ds:List Deferred}
end
theorem aTq{hs:List HO}{rs:List Nat}{a id:Nat}(hid:(nZ 1 hs id).isSome=true)(hl:hs.length≤rs.length)(h:a ∉ rs):aIi rs id≠a:=by
 rw[sK]at hid
 cases id with
 |zero=>simp at hid
 |succ i =>
  rw[Ag (by omega),A7]at hid
  have hi:i<rs.length:=by
   rcases Bc i hs.length with h'|h'
   ·omega
   ·rw[AG h']at hid;cases hid
  show rs.getD i 0≠a
  rw[aAi hi]
  exact fun e=>h (e ▸ Ak hi)
end Go.Am
end
