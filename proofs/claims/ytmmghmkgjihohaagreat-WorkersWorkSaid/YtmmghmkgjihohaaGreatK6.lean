/- (*WaitGroup).Add(1) of the main goroutine, for any count: from its entry to its return. No condition. -/
import Derived.Test.YtmmghmkgjihohaaGreatK5
import Derived.Test.YtmmghmkgjihohaaGreatK4
import Derived.Test.YtmmghmkgjihohaaGreatK1
import Derived.Conc.Beside
import Derived.Conc.QuitsD
import Derived.Conc.WgGenLone
import Derived.Conc.WgGenWait
import Derived.Conc.Fork
import Derived.Conc.WgArith
import Derived.Conc.CrowdRun
import Derived.Test.YtmmghmkgjihohaaGreatProg
import Derived.Conc.WgGenDone
open Array renaming getD_eq_getD_getElem?→Ay,getElem?_append_left→BX,getElem?_append_right→Cj,getElem?_eq_getElem→Ak,getElem?_eq_some_iff→AZ,getElem?_map→BM,getElem?_push→Bm,getElem?_push_lt→Fq,getElem?_setIfInBounds_ne→AD,getElem?_setIfInBounds_self_of_lt→BK,mem_append→DD,mem_of_getElem?→BS,replicate→AU
open Bool renaming false_eq_true→Ae
open Classical renaming axiomOfChoice→GG,byContradiction→Bf
open Go.Act renaming eval→Dk
open Go.Conc renaming mem_ofEvents→Bx
open Go.ConcN renaming Deaf_still→FD,Mode→Ef,bk_rw→Gu,cnt→B3,upd→A6,upd_ne→Bd,upd_same→A4
open Go.ConcN.Mode renaming retag→E0
open Go.ConcR renaming g_of_ofEvents→EB
open Go.Event renaming mute→Ee
open Go.Frame renaming enter→CZ,finish_at→D6
open Go.GStep renaming after→Cl
open Go.Instr renaming indexAt→E6
open Go.IntKind renaming i64→Al,u32→BR,u64→AB
open Go.MemAct renaming ofEvent→A7,touch?→Bu
open Go.MemOp renaming ofEvents→BI
open Go.Obj renaming cells→C8
open Go.Proofs.Tryz renaming prog→Aa
open Go.Region renaming wanted→Bl
open Go.Sem renaming bind→Ei,runT→ED,runT_eq→Di
open Go.Trace renaming g?→Gc
open Go.Value renaming oneCell'→Co
open Go.World renaming cell?→Bs,frozen?→Dp,setCell→E5
open Int renaming mul_assoc→FH,natCast_mul→B9
open List renaming all_eq_true→AW,getD_eq_getElem?_getD→Ac,getElem?_append_left→AP,getElem?_eq_getElem→Ab,getElem?_eq_none→AX,getElem?_eq_some_iff→Ao,getElem?_map→Ag,length_cons→Aj,length_map→BF,length_nil→Au,length_set→CL,map_congr_left→Dx,map_cons→BO,mem_append→BU,mem_iff_getElem→BC,mem_map→A1,mem_of_getElem?→Ai,mem_range→CI,mem_range'_1→Gt,range→AK,range'→Dy,replicate→As,replicate_succ→CF,set_append_right→D4,set_cons_zero→DG,size_toArray→Ar,take_add_one→BE,take_of_length_le→AG
open List.range renaming loop→AE
open Nat renaming div_eq_of_lt→Ej,eq_zero_or_pos→Bb,le_of_lt→Dd,le_refl→AA,le_trans→AY,lt_of_le_of_lt→BG,lt_of_lt_of_le→A9,lt_or_ge→Az,mod_eq_of_lt→BQ,mod_lt→BL,mul_comm→BJ,mul_le_mul→A3,mul_le_mul_right→BZ,reduceAdd→AO,sub_self→CN,zero_add→Ax,zero_le→A5
open Ne renaming symm→Ew
open Option renaming getD_some→AT,map_eq_some_iff→Af,map_some→AQ
open Option.some renaming inj→Bg,injEq→At
open Prod.Lex renaming left→E7,right→Gd
open _root_ renaming decide_eq_false→By,decide_eq_true→B2,decide_eq_true_eq→Bw,if_false→Av,if_neg→Ah,if_pos→Ap,if_true→AF
set_option linter.unusedSectionVars false
set_option linter.unusedVariables false
set_option linter.unusedSimpArgs false
section
open List renaming map_map→ζ,mapM_map→ξ
open Go Go.Am Go.Proofs
namespace Go.Am
theorem bEo{H:Hp}{x:AV}{d a b:D}(h:frz H 8 x=some d):cI H [x,.d a,.d b]=some [d,a,b]:=by simp[cI,h,aKc]
theorem aRu(ids:List Nat)(n k j:Nat)(hk:k<ids.length):lay (hdI ids n) k [.own j 0 n 1]=hdI (ids.set k j) n:=by
 rw[aOa _ _ _ (by simpa[hdI]using hk)];unfold hdI;rw[List.map_set]
theorem bVa(n m:Nat):(idR n m).Nodup:=by
 unfold idR List.Nodup
 rw[List.pairwise_map]
 exact List.Pairwise.imp (fun{a b} h=>by omega) (List.nodup_range (n:=n))
theorem aFz(n:Nat):oK n (idR n 3):=⟨bOh n 3,bVa n 3,fun j hj=>by
  unfold idR at hj
  obtain⟨k,hk,rfl⟩:=A1.1 hj
  have:=CI.1 hk;omega⟩
theorem aWi(p n:Nat)(L:List (List D))(M:List (List Nat))(hM:M.length=n):gF (upd (fun _=>none) 1 (some (.cells 119 [.d (.i .u64 p),.d (.i .i64 n),.d (.sl L)]))) 2 (mU n M 2)=deH p n L (idR n 3) M:=by
 have hid:=aFz n
 funext id
 simp only[gF,aFv,hM]
 by_cases h1:2≤id∧id<2+(n+1)
 ·rw[Ap h1]
  obtain⟨j,rfl⟩:∃ j,id=j+2:=⟨id-2,by omega⟩
  rw[Nat.add_sub_cancel]
  rcases j with _|j
  ·simp only[mU,List.getElem?_cons_zero,deH]
   simp[hM]
  ·simp only[mU,List.getElem?_cons_succ,Ag]
   have hv:M[j]? = some (M[j]'(by omega)):=Ab _
   rw[hv,show j+1+2=j+3 by omega,qU hid (xT (by omega)) hv];rfl
 ·rw[Ah h1]
  by_cases h2:id=1
  ·subst h2;simp[upd,deH]
  ·rw[upd_ne _ _ h2]
   rcases Bb id with h0|h0
   ·subst h0
    unfold deH;rw[Ah (by omega),Ah (by omega)]
    cases h3:iQ (idR n 3) M 0 with
    |none=>rfl
    | some o =>
     obtain⟨i,v,e1,_,_⟩:=fK h3
     have:=hid.lo 0 (Ai e1);omega
   ·rw[aGj hid (by omega)]
def dmI(p n:Nat)(D:Int)(k:Nat)(ids:List Nat)(M:List (List Nat))(d:Nat):Prop:=k≤n∧oK n ids∧RwM p n M∧SgM p n k D M d∧LoM n k M∧d<p
def dmE(p n:Nat)(D:Int)(k:Nat)(x:List Nat)(d:Nat)(j:Nat)(M:List (List Nat)):Prop:=k+1+j≤n∧RwM p n M∧SgM p n (k+1) D M d∧LoM n k M∧M.getD k []=x∧∀ r,k<r→r<k+1+j→enN M r k=0
theorem aJt{n k:Nat}{M:List (List Nat)}(h:LoM n k M)(h0:∀ r,k<r→r<n→enN M r k=0):LoM n (k+1) M:=fun i j h1 h2 h3=>by
 by_cases hj:j=k
 ·rw[hj];exact h0 i (by omega) h3
 ·exact h i j (by omega) h2 h3
theorem bFn{p n k j d q inv u f g:Nat}{D:Int}{x y:List Nat}{M:List (List Nat)}(hn:n≤4)(hp:PrN p)(hk:k<n)(h:dmE p n D k x d j M)(hlt:k+1+j<n)(hq:x.getD k 0=q)(hq0:q≠0)(hqp:q<p)(hinv:inv=q^(p-2)%p)
  (hy:M.getD (k+1+j) []=y) (hu:y.getD k 0=u) (hf:inv*u%p=f) (hg:(0+p-f)%p=g):dmE p n D k x d (j+1) (M.set (k+1+j) (adL p y x g)):=by
 obtain⟨h1,hR,hS,hL,hx,hz⟩:=h
 have hp0:0<p:=by have:=hp.1;omega
 have hyr:=hR.2 (k+1+j) hlt
 rw[hy]at hyr
 have hxr:=hR.2 k hk
 rw[hx]at hxr
 have hfp:f<p:=hf ▸ BL _ hp0
 have hgd:=fun r=>qP (l:=M) (i:=k+1+j) (r:=r) (x:=adL p y x g) (d:=[]) (by rw[hR.1];exact hlt)
 have hgc:Cg p (g:Int) (-(f:Int)):=hg ▸ bCn hp0 hfp
 have hw:∀ c,c<n→Cg p ((adL p y x g).getD c 0:Nat) ((y.getD c 0:Nat)-(f:Int)*(x.getD c 0:Nat)):=fun c hc=>by
  rw[Ac,uL (by rw[hyr.1];exact hc),AT]
  refine Cg.modN.trans ?_
  rw[Int.natCast_add,show((y.getD c 0:Nat):Int)-(f:Int)*(x.getD c 0:Nat)=(y.getD c 0:Nat)+(-(f:Int))*(x.getD c 0:Nat)by rw[Int.neg_mul];omega]
  refine(Cg.refl _ _).add (Cg.modN.trans ?_)
  rw[B9]
  exact hgc.mul (Cg.refl _ _)
 have hlen:(adL p y x g).length=n:=by rw[kG];exact hyr.1
 have hwlt:∀ z∈adL p y x g,z<p:=fun z hz=>by
  obtain⟨c,_,rfl⟩:=A1.1 hz;exact BL _ hp0
 have hwk:(adL p y x g).getD k 0=0:=by
  have h2:=hw k hk
  rw[hu,hq]at h2
  have h3:Cg p ((f:Int)*(q:Int)) (u:Int):=by
   rw[←hf]
   have e1:Cg p ((inv*u%p:Nat):Int) ((inv:Int)*(u:Int)):=by have:=Cg.modN (p:=p) (a:=inv*u);rwa [B9]at this
   refine(e1.mul (Cg.refl _ (q:Int))).trans ?_
   have e2:Cg p ((inv:Int)*(q:Int)) 1:=by
    have h5:=aOs hp (a:=q) (by rw[BQ hqp];exact hq0)
    refine⟨((inv*q:Nat):Int)/p,?_⟩
    have h6:(inv*q)%p=1:=by rw[hinv,Nat.mod_mul_mod];exact h5
    have h7:((inv*q:Nat):Int)%(p:Int)=1:=by exact_mod_cast congrArg (Nat.cast (R:=Int)) h6
    have h8:=Int.emod_add_mul_ediv ((inv*q:Nat):Int) (p:Int)
    rw[h7]at h8
    rw[←B9];omega
   have:=e2.mul (Cg.refl _ (u:Int))
   rw[Int.one_mul]at this
   rwa [show(inv:Int)*u*q=inv*q*u by rw[FH,Int.mul_comm (u:Int),←FH]]
  have h4:Cg p ((adL p y x g).getD k 0:Nat) 0:=h2.trans (by have:=(Cg.refl (p:Int) (u:Int)).sub h3;rwa [Int.sub_self]at this)
  have h5:=h4.eq
  have h6:(adL p y x g).getD k 0<p:=by
   rw[Ac,uL (by rw[hyr.1];exact hk)];exact BL _ hp0
  have h7:(adL p y x g).getD k 0%p=0:=by rw[Int.zero_emod]at h5;exact_mod_cast h5
  rwa [BQ h6]at h7
 refine⟨by omega,⟨by rw[CL];exact hR.1,fun r hr=>?_⟩,?_,fun r c h2 h3 h4=>?_,by rw[hgd,Ah (by omega)];exact hx,fun r h2 h3=>?_⟩
 ·rw[hgd]
  split
  ·exact⟨hlen,hwlt⟩
  ·exact hR.2 r hr
 ·refine bTb (k:=k) (K:=k+1) (a:=k+1+j) (f:Int) (adL p y x g) hn hR (by omega) hlt (by omega) (fun c hc=>?_) hS
  have:=hw c hc
  unfold enN
  rw[hy,hx];exact this
 ·unfold enN
  rw[hgd]
  split
  ·rename_i e
   have h0:Cg p ((adL p y x g).getD c 0:Nat) 0:=by
    have h5:=hw c (by omega)
    have e1:y.getD c 0=0:=by have:=hL (k+1+j) c h2 (by omega) hlt;unfold enN at this;rwa [hy]at this
    have e2:x.getD c 0=0:=by have:=hL k c h2 (by omega) hk;unfold enN at this;rwa [hx]at this
    rw[e1,e2]at h5
    simpa using h5
   have h5:=h0.eq
   have h6:(adL p y x g).getD c 0<p:=by
    rw[Ac,uL (by rw[hyr.1];omega)];exact BL _ hp0
   have h7:(adL p y x g).getD c 0%p=0:=by rw[Int.zero_emod]at h5;exact_mod_cast h5
   rwa [BQ h6]at h7
  ·exact hL r c h2 h3 h4
 ·unfold enN
  rw[hgd]
  split
  ·exact hwk
  ·exact hz r h2 (by omega)
def dmS(p n:Nat)(L:List (List D))(ids:List Nat)(M:List (List Nat))(d k:Nat):St:=⟨fV [(1,.ptr 1 0),(4,.own 2 0 n 1),(5,.d (.i .u64 d)),(28,.d (.i .i64 n)),(29,.d (.i .i64 (k:Int)))],deH p n L ids M,n+3⟩
def aOz(p n:Nat)(L:List (List D))(ids:List Nat)(M:List (List Nat))(d k m v j:Nat):St:=⟨fV [(1,.ptr 1 0),(4,.own 2 0 n 1),(5,.d (.i .u64 d)),(6,.d (.i .i64 (k:Int))),(8,.d (.i .u64 v)),(28,.d (.i .i64 n)),(29,.d (.i .i64 (k:Int))),(86,.own 2 (k+1) m 1),(87,.d (.i .i64 m)),(88,.d (.i .i64 (j:Int)))],deH p n L ids M,n+3⟩
theorem aQe{p n:Nat}{L:List (List D)}{ids:List Nat}{M:List (List Nat)}{Γ:Nat→AV}{S:List (Nat×AV)}(hI:oK n ids)(hM:M.length=n)(h:jL (deH p n L ids M) (deH p n L ids M) (fun i=>i) Γ S):∃ ρ,Wk ⟨Γ,deH p n L ids M,n+3⟩ ⟨fV S,deH p n L ids M,n+3⟩ ρ :=
 ⟨_,lH h (fun id o' ho=>⟨o',ho,aKn hI hM ho⟩) (fun id hid=>aGj hI hid) (by simp)⟩
theorem bFt{p n:Nat}{L:List (List D)}{ids:List Nat}{M:List (List Nat)}:(deH p n L ids M 2).isSome=true:=rfl
theorem bFu{p n:Nat}{L:List (List D)}{ids:List Nat}{M:List (List Nat)}:(deH p n L ids M 1).isSome=true:=rfl
set_option maxHeartbeats 8000000 in
set_option maxRecDepth 10000 in
theorem bUj[M0:Mch Aa](p n:Nat)(A:List (List Int))(hn:n≤4)(hn0:0<n)(hp:PrN p)(hp1:p<2147483648)(hA:A.length=n)(hr:∀ v∈A,v.length=n)(hP:Spec Aa 48 [.i .u64 p] (.b true)) :
  Spec Aa 65 [rH p n (eP p A)] (.tp [.i .u64 (iL n A%(p:Int)),.i .i64 0]):=by
 have hp0:0<p:=by have:=hp.1;omega
 have hp2:p≤2147483648:=by omega
 have hMr:=bLl hp0 hA hr
 have hSt:=aTp hp0 hA
 obtain⟨D,hD⟩:∃ D,iL n A=D:=⟨_,rfl⟩
 rw[hD]at hSt ⊢
 obtain⟨Mz,hMz⟩:∃ M,eP p A=M:=⟨_,rfl⟩
 rw[hMz]at hSt hMr ⊢
 have hVl:=aRj (M0:=M0) p n Mz (by omega) hMr hP
 have hMl:=hMr.1
 have hrow:∀ v∈Mz,v.length=n:=fun v hv=>by
  obtain⟨i,hi,rfl⟩:=BC.1 hv
  have:=(hMr.2 i (by omega)).1
  rwa [Ac,Ab hi]at this
 have hCp:=aAl (M0:=M0) n n Mz (by omega) hMl hrow hn0 (by omega)
 obtain⟨L,hL,hLl,hLg⟩:=uA Mz
 have hLn:(L.length:Int)=(n:Int):=by omega
 have hLn':L.length=n:=by omega
 unfold rH at hVl ⊢
 rw[hL]at hVl hCp ⊢
 have hst:=aWi p n L Mz hMl
 refine bD (N:=115) Tryz.func65 ?_
 simp[-ζ,-ξ,↓KW]
 refine aD hVl ?_
 simp[-ζ,-ξ,↓KW,hLn,hLn']
 refine kO [.sl L] (fun m=>.own m 0 n 1) (mU n Mz) (by simp) (by simp) (by simp) (by rfl) (by rfl) hCp ?_
 simp[-ζ,-ξ,↓KW,aFv,hMl,hst]
 refine bJ (τ:=Nat×List Nat×List (List Nat)×Nat) (fun t=>dmI p n D t.1 t.2.1 t.2.2.1 t.2.2.2) (fun t=>dmS p n L t.2.1 t.2.2.1 t.2.2.2 t.1) (fun t=>n-t.1) (0,idR n 3,Mz,1) ⟨A5 _,aFz n,hMr,hSt,fun i j h=>absurd h (Nat.not_lt_zero _),show 1<p by have:=hp.1;omega⟩ ?_ ?_
 ·show ∃ ρ,Wk _ (dmS p n L (idR n 3) Mz 1 0) ρ
  unfold dmS
  refine⟨_,lH ?_ (fun id o' ho=>⟨o',ho,aKn (aFz n) hMl ho⟩) (fun id hid=>aGj (aFz n) hid) (by simp)⟩
  simp[-ζ,upd,aL,Γ0,bFu,bFt]
 ·rintro⟨k,ids,M,d⟩ hI
  simp only at hI
  obtain⟨hkn,hI1,hR1,hS1,hLo1,hd1⟩:=hI
  have hM1l:=hR1.1
  by_cases hk:k<n
  ·obtain⟨r,hrr⟩:=bSu M n k k
   have hSe:=aMq (M0:=M0) p n k k M r (by omega) hR1 hkn hk hrr
   have hrowM:∀ v∈M,v.length=n:=fun v hv=>by
    obtain⟨i,hi,rfl⟩:=BC.1 hv
    have:=(hR1.2 i (by omega)).1
    rwa [Ac,Ab hi]at this
   have hfz:=bVe (p:=p) (L:=L) hI1 hM1l hrowM (H:=deH p n L ids M) fun _ _=>rfl
   have hkI:(k:Int)<(n:Int):=by omega
   have gM:∀ r,r<n→M[r]? = some (M.getD r []):=fun r hr=>by rw[Ac,Ab (by omega)];rfl
   have gI:∀ r,r<n→ids[r]? = some (ids.getD r 0):=fun r hr=>by rw[Ac,Ab (by rw[hI1.len];omega)];rfl
   generalize hHg:deH p n L ids M=H at *
   simp[-ζ,-ξ,↓KW,dmS,hHg,hk,hkI]
   refine aZ (ds:=[rG M,.i .i64 k,.i .i64 k]) (bEo hfz) hSe ?_
   rcases hrr with ⟨rfl,hz⟩|⟨i,rfl,hki,hin,hne,hzb⟩
   ·have hD0:=aZu hn hk hS1 hLo1 hz
    simp[-ζ,-ξ,↓KW]
    exact bF (by simp[-ζ,-ξ,↓KW,eJ,hD0])
   ·have hi0:¬(i:Int)<0:=by omega
    by_cases hik:i=k
    case' pos =>
     subst hik
     obtain⟨idk,hidk⟩:∃ j,ids[i]? = some j:=⟨_,gI i hk⟩
     obtain⟨x,hxk⟩:∃ x,M[i]? = some x:=⟨_,gM i hk⟩
     obtain⟨q,hqe⟩:∃ q,x.getD i 0=q:=⟨_,rfl⟩
     have hq0:q≠0:=by
      have:M.getD i []=x:=by rw[Ac,hxk];rfl
      unfold enN at hne;rw[this,hqe]at hne;exact hne
     have hI2:=hI1
     have hR2:=hR1
     have hS2:=hS1
     have hLo2:=hLo1
     have hd2:=hd1
     clear hzb hne hfz hSe
     subst hHg
     have hii:((i:Int)==(i:Int))=true:=by simp
     simp[-ζ,-ξ,↓KW,hi0]
     generalize hkk:i=k at *
     generalize ids=ids2 at *
     generalize M=M2 at *
     generalize d=d2 at *
    case' neg =>
     have hki':k<i:=by omega
     have hneq:((i:Int) != (k:Int))=true:=by simp;omega
     have hneqd:¬((i:Int)=(k:Int)):=by omega
     obtain⟨idk,hidk⟩:∃ j,ids[k]? = some j:=⟨_,gI k hk⟩
     obtain⟨idi,hidi⟩:∃ j,ids[i]? = some j:=⟨_,gI i hin⟩
     obtain⟨xk,hxk⟩:∃ x,M[k]? = some x:=⟨_,gM k hk⟩
     obtain⟨x,hxi⟩:∃ x,M[i]? = some x:=⟨_,gM i hin⟩
     obtain⟨q,hqe⟩:∃ q,x.getD k 0=q:=⟨_,rfl⟩
     have hq0:q≠0:=by
      have:M.getD i []=x:=by rw[Ac,hxi];rfl
      unfold enN at hne;rw[this,hqe]at hne;exact hne
     have hil:ids.length=n:=hI1.len
     have hhd:H 2=some (.cells 25 (hdI ids n)):=hHg ▸ rfl
     have hbx:H 1=some (.cells 119 [.d (.i .u64 p),.d (.i .i64 n),.d (.sl L)]):=hHg ▸ rfl
     have hgk:(hdI ids n)[k]? = some (.own idk 0 n 1):=nL hidk
     have hgi:(hdI ids n)[i]? = some (.own idi 0 n 1):=nL hidi
     have hgk':∀ h,(hdI ids n)[k]'h=.own idk 0 n 1:=fun h=>by rw[Ab h]at hgk;injection hgk
     have hgi':∀ h,(hdI ids n)[i]'h=.own idi 0 n 1:=fun h=>by rw[Ab h]at hgi;injection hgi
     have hhl:(hdI ids n).length=n:=by simp[hdI,hil]
     have hl1:lay (hdI ids n) k [.own idi 0 n 1]=hdI (ids.set k idi) n:=aRu ids n k idi (by omega)
     have hl2:lay (hdI (ids.set k idi) n) i [.own idk 0 n 1]=hdI ((ids.set k idi).set i idk) n:=aRu _ n i idk (by rw[CL];omega)
     have hhl2:(hdI (ids.set k idi) n).length=n:=by simp[hdI,hil]
     have hsw:(ids.set k idi).set i idk=swI ids k i:=by unfold swI;rw[Ac,hidi,Ac,hidk];rfl
     have hSu:=aQm (M:=M0) p 0 d hp0 hp2 (by omega) hd1
     have hk1:k+1≤n:=hk
     have hi1:i+1≤n:=hin
     simp[-ζ,-ξ,↓KW,hi0,hneq,hneqd,hhd,hhl,hgk,hgk',hgi,hgi',hk,hin,hk1,hi1,hl1,hl2,hhl2,hsw,hbx]
     have hHe:upd (upd H 2 (some (.cells 25 (hdI (ids.set k idi) n)))) 2 (some (.cells 25 (hdI (swI ids k i) n)))=deH p n L (swI ids k i) (swM M k i):=by
      rw[←hHg,←bFv hI1 hM1l hk hin]
      funext j;simp only[upd];split<;>rfl
     have hidk2:(swI ids k i)[k]? = some idi:=by
      rw[aEm (by omega) (by omega) (by omega),Ah (by omega),Ap rfl,Ac,hidi];rfl
     have hxk2:(swM M k i)[k]? = some x:=by
      rw[yK (by omega) (by omega) (by omega),Ah (by omega),Ap rfl,Ac,hxi];rfl
     have hI2:=aMd hI1 hk hin
     have hR2:=bAk hR1 hk hin
     have hS2:=aZv hn hp0 hd1 hM1l hki' hin hS1
     have hLo2:=bCw hM1l hki' hin hLo1
     have hd2:(0+p-d)%p<p:=BL _ hp0
     refine aD hSu ?_
     rw[hHe]
     clear hHe hSu hsw hl2 hl1 hhl2 hgi' hgk' hgi hgk hhl hhd hbx hfz hSe hidi hidk hxk hxi gM gI hHg hne hzb
     generalize(0+p-d)%p=d2 at *
     generalize swI ids k i=ids2 at *
     generalize swM M k i=M2 at *
     generalize idi=idk at *
     have hidk:=hidk2
     have hxk:=hxk2
    all_goals
     have hM2l:=hR2.1
     have hx:M2.getD k []=x:=by rw[Ac,hxk];rfl
     have hid1:=hI2.lo _ (Ai hidk)
     have hrk:deH p n L ids2 M2 idk=some (iP x):=qU hI2 hidk hxk
     have hhd:deH p n L ids2 M2 2=some (.cells 25 (hdI ids2 n)):=rfl
     have hbx:deH p n L ids2 M2 1=some (.cells 119 [.d (.i .u64 p),.d (.i .i64 n),.d (.sl L)]):=rfl
     have hgk:(hdI ids2 n)[k]? = some (.own idk 0 n 1):=nL hidk
     have hgk':∀ h,(hdI ids2 n)[k]'h=.own idk 0 n 1:=fun h=>by rw[Ab h]at hgk;injection hgk
     have hhl:(hdI ids2 n).length=n:=by simp[hdI,hI2.len]
     have hxr:=hR2.2 k hk
     rw[hx]at hxr
     have hqx:x[k]? = some q:=by rw[Ab (by rw[hxr.1];exact hk)];rw[Ac,Ab (by rw[hxr.1];exact hk)]at hqe;exact congrArg some hqe
     have hdq:=aPc hqx
     have hdq':∀ h,(dU x)[k]'h=.i .u64 (q:Int):=fun h=>by rw[Ab h]at hdq;injection hdq
     have hdl:(dU x).length=n:=by rw[eN];exact hxr.1
     have hqp:q<p:=hxr.2 q (Ai hqx)
     have hq31:q≤2147483648:=by omega
     have hMu:=nG (M:=M0) p d2 q hp0 (BG (A3 (Dd hd2) (Dd hqp)) (BG (A3 hp2 hp2) (by decide)))
     have hIv:=bNv (M:=M0) p q hp.1 hp2 hqp hq0
     have hS3:SgM p n (k+1) D M2 (d2*q%p):=by
      have hen:enN M2 k k=q:=by unfold enN;rw[hx];exact hqe
      have:=bKk hS2;rwa [hen]at this
     have hd3:d2*q%p<p:=BL _ hp0
     generalize d2*q%p=d3 at *
     obtain⟨inv,hinv⟩:∃ inv,q^(p-2)%p=inv:=⟨_,rfl⟩
     have hinvp:inv<p:=hinv ▸ BL _ hp0
     rw[hinv]at hIv
     have hwk:Al.wrap (k:Int)=k:=aU
     have hwk1:Al.wrap ((k:Int)+1)=((k+1:Nat):Int):=aU
     have hk1n:k+1≤n:=hk
     obtain⟨kI,hkI⟩:∃ kI:Int,((k+1:Nat):Int)=kI:=⟨_,rfl⟩
     rw[hkI]at hwk1
     have hkI0:(0:Int)≤kI:=by omega
     have hkIn:kI≤(n:Int):=by omega
     generalize hHg:deH p n L ids2 M2=H at *
     generalize hCg:hdI ids2 n=cs at *
     simp[-ζ,-ξ,↓KW,hbx,hhd,hhl,hgk,hgk',hk,hwk,hrk,hdl,hdq,hdq',iP]
     refine aD hMu ?_
     simp[-ζ,-ξ,↓KW,hbx,hhd,hhl,hgk,hgk',hk,hwk,hrk,hdl,hdq,hdq',iP]
     refine aD hIv ?_
     by_cases hm:k+1=n
     ·have hkn:kI=(n:Int):=by omega
      have hsl:jS 1 (.own 2 0 n 1) (n:Int) (n:Int) false=some (.d (.sl [])):=by simp[jS]
      simp[-ζ,-ξ,↓KW,hwk1,hkI0,hkIn,hkn,hsl]
      refine gL 1 ?_
      simp[-ζ,-ξ,↓KW,↓aE,hwk1]
      refine aK (k+1,ids2,M2,d3) ⟨hk1n,hI2,hR2,hS3,aJt hLo2 fun r h1 h2=>by omega,hd3⟩ (by show n-(k+1)<n-k;omega) ?_
      show ∃ ρ,Wk _ (dmS p n L ids2 M2 d3 (k+1)) ρ
      unfold dmS
      subst hHg
      refine aQe hI2 hM2l ?_
      simp[-ζ,upd,aL,Γ0,bFu,bFt,hm,hkn]
     ·obtain⟨m,hm'⟩:∃ m,n-(k+1)=m:=⟨_,rfl⟩
      have hsl:jS 1 (.own 2 0 n 1) kI (n:Int) false=some (.own 2 (k+1) m 1):=by
       have e1:¬kI=(n:Int):=by omega
       have e2:kI.toNat=k+1:=by omega
       have e3:((n:Int)-kI).toNat=m:=by omega
       simp[jS,hkI0,hkIn,e1,e2,e3]
      simp[-ζ,-ξ,↓KW,hwk1,hkI0,hkIn,hsl]
      refine bJ (τ:=Nat×List (List Nat)) (fun t=>dmE p n D k x d3 t.1 t.2) (fun t=>aOz p n L ids2 t.2 d3 k m inv t.1) (fun t=>n-(k+1+t.1)) (0,M2) ⟨by omega,hR2,hS3,hLo2,hx,fun r h1 h2=>by omega⟩ ?_ ?_
      ·show ∃ ρ,Wk _ (aOz p n L ids2 M2 d3 k m inv 0) ρ
       unfold aOz
       subst hHg
       refine aQe hI2 hM2l ?_
       simp[-ζ,upd,aL,Γ0,bFu,bFt]
      ·rintro⟨j,M3⟩ hE
       simp only at hE
       have hE0:=hE
       obtain⟨hjn,hR3,hS4,hLo3,hx3,hz3⟩:=hE
       have hM3l:=hR3.1
       by_cases hj:k+1+j<n
       ·have hjI:(j:Int)<(m:Int):=by omega
        have hjm:j<m:=by omega
        obtain⟨idj,hidj⟩:∃ i,ids2[k+1+j]? = some i:=⟨_,Ab (by rw[hI2.len];exact hj)⟩
        obtain⟨y,hyj⟩:∃ y,M3[k+1+j]? = some y:=⟨_,Ab (by rw[hM3l];exact hj)⟩
        have hyd:M3.getD (k+1+j) []=y:=by rw[Ac,hyj];rfl
        obtain⟨u,hu⟩:∃ u,y.getD k 0=u:=⟨_,rfl⟩
        have hx3':M3[k]? = some x:=by
         rw[←hx3,Ac,Ab (by rw[hM3l];exact hk)];rfl
        have hyr:=hR3.2 (k+1+j) hj
        rw[hyd]at hyr
        have hrk3:deH p n L ids2 M3 idk=some (iP x):=qU hI2 hidk hx3'
        have hrj3:deH p n L ids2 M3 idj=some (iP y):=qU hI2 hidj hyj
        have hhd3:deH p n L ids2 M3 2=some (.cells 25 cs):=hCg ▸ rfl
        have hbx3:deH p n L ids2 M3 1=some (.cells 119 [.d (.i .u64 p),.d (.i .i64 n),.d (.sl L)]):=rfl
        have hgj:cs[k+1+j]? = some (.own idj 0 n 1):=hCg ▸ nL hidj
        have hgj':∀ h,cs[k+1+j]'h=.own idj 0 n 1:=fun h=>by rw[Ab h]at hgj;injection hgj
        have hkj:idj≠idk:=fun e=>by
         subst e
         have:=(List.getElem?_inj (by rw[hI2.len];exact hj) hI2.nd).1 (hidj.trans hidk.symm);omega
        have huy:y[k]? = some u:=by rw[Ab (by rw[hyr.1];exact hk)];rw[Ac,Ab (by rw[hyr.1];exact hk)]at hu;exact congrArg some hu
        have hdu:=aPc huy
        have hdu':∀ h,(dU y)[k]'h=.i .u64 (u:Int):=fun h=>by rw[Ab h]at hdu;injection hdu
        have hyl:(dU y).length=n:=by rw[eN];exact hyr.1
        have hup:u<p:=hyr.2 u (Ai huy)
        have hMu2:=nG (M:=M0) p inv u hp0 (BG (A3 (Dd hinvp) (Dd hup)) (BG (A3 hp2 hp2) (by decide)))
        obtain⟨f,hf⟩:∃ f,inv*u%p=f:=⟨_,rfl⟩
        have hfp:f<p:=hf ▸ BL _ hp0
        rw[hf]at hMu2
        have hSu2:=aQm (M:=M0) p 0 f hp0 (by omega) (by omega) (by omega)
        obtain⟨g,hg⟩:∃ g,(0+p-f)%p=g:=⟨_,rfl⟩
        rw[hg]at hSu2
        have hgp:g<p:=hg ▸ BL _ hp0
        have hAd:=aXf (M:=M0) p g y x hp0 hp2 hgp hyr.2 hxr.2 (by rw[hyr.1,hxr.1]) (by rw[hyr.1];omega)
        rw[hyr.1]at hAd
        have hupd:=bPj (p:=p) (L:=L) (v:=adL p y x g) hI2 hM3l hidj
        have hE2:=bFn (by omega) hp hk hE0 hj hqe hq0 hqp hinv.symm hyd hu hf hg
        have hwj1:Al.wrap ((j:Int)+1)=((j+1:Nat):Int):=aU
        generalize hHg3:deH p n L ids2 M3=H3 at *
        simp[-ζ,-ξ,↓KW,aOz,hHg3,hjI,hhd3,hgj,hgj',hbx3,hk,hrj3,hyl,hdu,hdu',iP]
        refine aD hMu2 ?_
        simp[-ζ,-ξ,↓KW,hhd3,hhl,hgk,hgk',hbx3,hk]
        refine aD hSu2 ?_
        simp[-ζ,-ξ,↓KW,hhd3,hhl,hgk,hgk',hbx3,hk]
        have hfz:=zW (H:=H3) (B:=idk) (v:=x) (n:=n) 6 hrk3 hxr.1
        have hfz1:frz H3 8 (.own idk 0 n 1)=some (bL x):=hfz.1
        have hfz2:vis H3 8 (.own idk 0 n 1)=[idk]:=hfz.2
        refine bBz (d0:=.i .u64 p) (id:=idj) (h:=.own 0 0 n 1) (ho:=iP y) (ds:=[bL x,.i .u64 g]) (ho':=iP (adL p y x g)) (by kernel_rfl) (by rfl) (by rfl) (by rfl) hrj3 (aRw _ _) ?_ ?_ hAd (by simp[iP,HO.len,eN,kG]) (aRw _ _) ?_
        ·show idj ∉ bT H3 [.own idk 0 n 1,.d (.i .u64 g)]
         simp[aCe,aHf,aYm,hfz2,hkj]
        ·show cI H3 [.own idk 0 n 1,.d (.i .u64 g)]=some [bL x,.i .u64 g]
         simp[cI,hfz1,aKc]
        simp[-ζ,-ξ,↓KW,hwj1]
        refine aK (j+1,M3.set (k+1+j) (adL p y x g)) hE2 (by show n-(k+1+(j+1))<n-(k+1+j);omega) ?_
        show ∃ ρ,Wk _ (aOz p n L ids2 (M3.set (k+1+j) (adL p y x g)) d3 k m inv (j+1)) ρ
        unfold aOz
        rw[hupd]
        refine aQe hI2 (by rw[CL];exact hM3l) ?_
        simp[-ζ,upd,aL,Γ0,bFu,bFt]
       ·have hjm:j=m:=by omega
        have hjI:¬(j:Int)<(m:Int):=by omega
        have hwk1:Al.wrap ((k:Int)+1)=((k+1:Nat):Int):=aU
        simp[-ζ,-ξ,↓KW,aOz,hjI]
        refine bF ?_
        simp[-ζ,-ξ,↓KW,hwk1]
        refine aK (k+1,ids2,M3,d3) ⟨hk1n,hI2,hR3,hS4,aJt hLo3 fun r h1 h2=>hz3 r h1 (by omega),by assumption⟩ (by show n-(k+1)<n-k;omega) ?_
        show ∃ ρ,Wk _ (dmS p n L ids2 M3 d3 (k+1)) ρ
        unfold dmS
        refine aQe hI2 hM3l ?_
        simp[-ζ,upd,aL,Γ0,bFu,bFt]
  ·have hkn':k=n:=by omega
   have hkI:¬(k:Int)<(n:Int):=by omega
   subst hkn'
   have hend:=(bKl hn hS1 hLo1).eq
   have hdv:D%(p:Int)=(d:Int):=by rw[←hend];exact Int.emod_eq_of_lt (by omega) (by omega)
   simp[-ζ,-ξ,↓KW,dmS,hk,hkI]
   exact bF (by simp[-ζ,-ξ,↓KW,eJ,hdv])
def hdN(n:Nat)(i:Nat):List AV:=hdI (idR i 5) n++As (n-i) .nil
theorem xV{n i:Nat}(h:i≤n):(hdN n i).length=n:=by simp[hdN,hdI,idR];omega
theorem bOk{n i:Nat}(h:i<n):(hdN n i).set i (.own (i+5) 0 n 1)=hdN n (i+1):=by
 unfold hdN
 have hl:(hdI (idR i 5) n).length=i:=by simp[hdI,idR]
 rw[D4 _ _ (by omega),hl,CN,show n-i=(n-(i+1))+1 by omega,CF,DG,aJz]
 simp[hdI]
theorem bOl{n i j:Nat}(h:j<i):(hdN n i)[j]? = some (.own (j+5) 0 n 1):=by
 unfold hdN
 rw[AP (by simp[hdI,idR,h])]
 exact nL (xT h)
def rdP(p n:Nat)(L:List (List D))(i:Nat):List HO:=[.cells 29 [.d (.i .i64 n),.d (.i .i64 n),.d (.sl L)],.cells 119 [.d (.i .u64 0),.d (.i .i64 0),.nil],.cells 25 (hdN n i),.cells 119 [.d (.i .u64 p),.d (.i .i64 n),.own 3 0 n 1]]
def rdH(p n:Nat)(L:List (List D))(R:List (List Nat)):Hp:=iV 1 (rdP p n L R.length++R.map iP)
section
variable {p n:Nat} {L:List (List D)} {R:List (List Nat)}
theorem qI{j:Nat}{v:List Nat}(hv:R[j]? = some v):rdH p n L R (j+5)=some (iP v):=by
 unfold rdH
 rw[show j+5=(j+4)+1 by omega,pO,List.getElem?_append_right (by simp[rdP]),Ag,show j+4-(rdP p n L R.length).length=j by simp[rdP],hv];rfl
theorem lO{id:Nat}(h:R.length+5≤id):rdH p n L R id=none:=aAc (by simp[rdP];omega)
theorem tA(hR:R.length≤n){H:Hp}{id:Nat}{o:HO}(ho:rdH p n L R id=some o):mW H (rdH p n L R) (fun i=>i) o o:=by
 refine aAb (fun o ho=>?_) ho
 have hlen:(rdP p n L R.length++R.map iP).length=R.length+4:=by simp[rdP]
 rw[hlen]
 rcases BU.1 ho with ho|ho
 ·simp only[rdP,List.mem_cons,List.not_mem_nil,or_false]at ho
  rcases ho with rfl|rfl|rfl|rfl
  ·rfl
  ·rfl
  ·refine AW.2 fun x hx=>?_
   rcases BU.1 hx with hx|hx
   ·obtain⟨j,hj,rfl⟩:=A1.1 hx
    obtain⟨k,hk,rfl⟩:=A1.1 hj
    have:=CI.1 hk
    simp only[rfC,Bw];omega
   ·rw[List.eq_of_mem_replicate hx];rfl
  ·simp only[rfO,rfC,List.all_cons,List.all_nil,Bool.and_true,Bool.true_and,Bw];omega
 ·obtain⟨v,_,rfl⟩:=A1.1 ho
  refine AW.2 fun c hc=>?_
  obtain⟨x,_,rfl⟩:=A1.1 hc;rfl
theorem aFc{v:List Nat}{id:Nat}(h3:id≠3)(h:id≠R.length+5):rdH p n L (R++[v]) id=rdH p n L R id:=by
 rcases Az id 5 with h1|h1
 ·have:id=0∨id=1∨id=2∨id=4:=by omega
  rcases this with rfl|rfl|rfl|rfl<;>rfl
 ·obtain⟨j,rfl⟩:∃ j,id=j+5:=⟨id-5,by omega⟩
  by_cases hj:j<R.length
  ·have e1:R[j]? = some R[j]:=Ab hj
   rw[qI e1,qI (by rw[AP hj];exact e1)]
  ·rw[lO (by simp;omega),lO (by omega)]
theorem bLp{v w:List Nat}:upd (rdH p n L (R++[v])) (R.length+5) (some (iP w))=rdH p n L (R++[w]):=by
 have hl:∀ u:List Nat,(R++[u])[R.length]? = some u:=fun u=>by simp
 funext id
 unfold upd
 by_cases h:id=R.length+5
 ·subst h;rw[Ap rfl,qI (hl w)]
 ·rw[Ah h]
  by_cases h3:id=3
  ·subst h3
   show some (HO.cells _ (hdN n (R++[v]).length))=some (HO.cells _ (hdN n (R++[w]).length))
   simp
  ·rw[aFc h3 h,aFc h3 h]
end
theorem bNr{n i:Nat}(h:i<n):lay (hdN n i) i [.own (i+5) 0 n 1]=hdN n (i+1):=by
 rw[aOa _ _ _ (by rw[xV (Dd h)];exact h),bOk h]
theorem aUf(p n:Nat)(L:List (List D))(x:HO):upd (upd (upd (upd (upd (fun _=>none) 1 (some (.cells 29 [.d (.i .i64 n),.d (.i .i64 n),.d (.sl L)]))) 2 (some (.cells 119 [.d (.i .u64 0),.d (.i .i64 0),.nil]))) 3 (some (.cells 25 (As n .nil)))) 4 (some x)) 4 (some (.cells 119 [.d (.i .u64 p),.d (.i .i64 n),.own 3 0 n 1]))=rdH p n L []:=by
 have h0:hdN n 0=As n .nil:=by simp[hdN,hdI,idR]
 funext id
 rcases Az id 5 with h1|h1
 ·have:id=0∨id=1∨id=2∨id=3∨id=4:=by omega
  rcases this with rfl|rfl|rfl|rfl|rfl
  ·rfl
  ·rfl
  ·rfl
  ·show some (HO.cells _ (As n .nil))=some (HO.cells _ (hdN n 0));rw[h0]
  ·rfl
 ·rw[lO (by simpa using h1)]
  simp only[upd]
  rw[Ah (by omega),Ah (by omega),Ah (by omega),Ah (by omega),Ah (by omega)]
theorem bBd{p n i:Nat}{L:List (List D)}{R:List (List Nat)}{v:List Nat}(h:R.length=i):upd (upd (rdH p n L R) (i+5) (some (iP v))) 3 (some (.cells 25 (hdN n (i+1))))=rdH p n L (R++[v]):=by
 funext id
 unfold upd
 by_cases h3:id=3
 ·subst h3
  show some (HO.cells _ (hdN n (i+1)))=some (HO.cells _ (hdN n (R++[v]).length))
  simp[h]
 ·rw[Ah h3]
  by_cases h5:id=i+5
  ·subst h5;subst h;rw[Ap rfl,qI (v:=v) (by simp)]
  ·rw[Ah h5,aFc h3 (by omega)]
theorem bNg{n:Nat}{M:List (List Nat)}(hM:M.length=n)(hr:∀ v∈M,v.length=n){H:Hp}(hH:∀(j:Nat) v,M[j]? = some v→H (j+5)=some (iP v)):(hdN n n).mapM (frz H 6)=some (M.map bL):=by
 have e0:hdN n n=hdI (idR n 5) n:=by simp[hdN]
 rw[e0]
 have hl:(hdI (idR n 5) n).length=n:=by simp[hdI,idR]
 rw[mapM_some (frz H 6) (fun k=>bL (M.getD k [])) _ fun k x hx=>by
  have hlt:k<n:=by have:=(Ao.1 hx).1;rwa [hl]at this
  rw[nL (xT hlt)]at hx
  injection hx with hx
  subst hx
  have hv:M[k]? = some (M.getD k []):=by rw[Ac,Ab (by omega)];rfl
  exact(zW 4 (hH k _ hv) (hr _ (Ai hv))).1]
 congr 1
 apply List.ext_getElem?
 intro k
 rw[hl]
 by_cases hk:k<n
 ·rw[Ag,List.getElem?_range hk,Ag,AQ,Ac,Ab (by omega)];rfl
 ·rw[AX (by simpa using hk),AX (by simpa[hM]using hk)]
theorem bGg{n:Nat}{M:List (List Nat)}(hM:M.length=n):chunk 1 n (M.map bL)=M.map fun v=>[bL v]:=by
 rw[mS _ _ (by rw[BF,hM]),List.map_map];rfl
theorem bLo{p n:Nat}{L:List (List D)}{R:List (List Nat)}:(rdH p n L R 1).isSome=true:=rfl
theorem bLn{p n:Nat}{L:List (List D)}{R:List (List Nat)}:(rdH p n L R 2).isSome=true:=rfl
theorem bLm{p n:Nat}{L:List (List D)}{R:List (List Nat)}:(rdH p n L R 4).isSome=true:=rfl
def prW(p n:Nat)(v:List Int)(j:Nat):List Nat:=((v.take j).map fun z=>(z%(p:Int)).toNat)++As (n-j) 0
theorem bLz{p n j:Nat}{v:List Int}(hv:v.length=n)(hj:j≤n):(prW p n v j).length=n:=by simp[prW];omega
theorem bLy{p n j:Nat}{v:List Int}{z:Int}(hv:v.length=n)(hj:j<n)(hz:v[j]? = some z):(prW p n v j).set j (z%(p:Int)).toNat=prW p n v (j+1):=by
 unfold prW
 rw[BE,hz,D4 _ _ (by simp;omega),show n-j=(n-(j+1))+1 by omega,CF,show j-((v.take j).map fun z=>(z%(p:Int)).toNat).length=0 by simp;omega,DG]
 simp
theorem bMa{p n:Nat}{v:List Int}(hv:v.length=n):prW p n v n=v.map fun z=>(z%(p:Int)).toNat:=by
 unfold prW;rw[CN,AG (by omega)];simp
theorem aUe{p:Nat}{A:List (List Int)}{i:Nat}{v:List Int}(h:A[i]? = some v):eP p (A.take (i+1))=eP p (A.take i)++[v.map fun z=>(z%(p:Int)).toNat]:=by
 unfold eP;rw[BE,h];simp
def aNd(p n:Nat)(L:List (List D))(i:Nat):List (Nat×AV):=[(0,.d (.i .u64 p)),(3,.ptr 1 0),(4,.ptr 2 0),(5,.ptr 4 0),(28,.d (.sl L)),(29,.d (.i .i64 n)),(30,.d (.i .i64 (i:Int)))]
def yY(p n:Nat)(L U:List (List D))(i j:Nat):List (Nat×AV):=[(0,.d (.i .u64 p)),(3,.ptr 1 0),(4,.ptr 2 0),(5,.ptr 4 0),(6,.d (.i .i64 (i:Int))),(28,.d (.sl L)),(29,.d (.i .i64 n)),(30,.d (.i .i64 (i:Int))),(48,.d (.sl U)),(49,.d (.i .i64 n)),(50,.d (.i .i64 (j:Int)))]
set_option maxHeartbeats 8000000 in
set_option maxRecDepth 10000 in
theorem bCp[M0:Mch Aa](p n:Nat)(A:List (List Int))(hn:n≤1000)(hp0:0<p)(hp1:p≤2147483648)(hA:A.length=n)(hr:∀ v∈A,v.length=n)(hB:∀ v∈A,∀ z∈v,Sz z)(hP:Spec Aa 48 [.i .u64 p] (.b true)) :
  Spec Aa 66 [.i .u64 p,jR n A] (rH p n (eP p A)):=by
 obtain⟨L,hL,hLl,hLg⟩:∃ L,(A.map fun v=>[dB v])=L∧L.length=A.length∧∀(i:Nat) (v:List Int),A[i]? = some v→L[i]? = some [dB v]:=⟨_,rfl,by simp,fun i v h=>by rw[Ag,h];rfl⟩
 have hLn:(L.length:Int)=(n:Int):=by omega
 have hLn':L.length=n:=by omega
 have m1:¬(n:Int)<0:=by omega
 have hm3:24*(n:Int)≤281474976710656:=by omega
 have hm8:8*(n:Int)≤281474976710656:=by omega
 have hm4:(n:Int)≤9223372036854775807:=by omega
 unfold jR
 rw[hL]
 refine bD (N:=68) Tryz.func66 ?_
 simp[-ζ,-ξ,↓KW]
 refine aD hP ?_
 simp[-ζ,-ξ,↓KW,m1,hLn,hLn',hm3,hm4,bY]
 refine bX (fun i:Nat=>i≤n) (fun i=>⟨fV (aNd p n L i),rdH p n L (eP p (A.take i)),i+5⟩) (fun i=>n-i) 0 (A5 _) ?_ ?_
 ·rw[aUf p n L]
  show ∃ ρ,Wk _ ⟨fV (aNd p n L 0),rdH p n L [],5⟩ ρ
  refine⟨_,lH ?_ (fun id o' ho=>⟨o',ho,tA (A5 _) ho⟩) (fun id hid=>lO hid) (by simp)⟩
  simp[-ζ,upd,aL,Γ0,aNd,bLo,bLn,bLm]
 ·intro i hi
  have hTl:(eP p (A.take i)).length=i:=by simp[eP];omega
  by_cases hin:i<n
  ·obtain⟨v,hv⟩:∃ v,A[i]? = some v:=⟨_,Ab (by omega)⟩
   have hvm:=Ai hv
   have hvl:=hr v hvm
   obtain⟨U,hU,hUl,hUg⟩:∃ U,dB v=.sl U∧U.length=v.length∧∀(j:Nat) (z:Int),v[j]? = some z→U[j]? = some (uC z):=⟨_,rfl,by simp,fun j z h=>by rw[Ag,h];rfl⟩
   have hUn:(U.length:Int)=(n:Int):=by omega
   have hUn':U.length=n:=by omega
   have hLi:=hLg i v hv
   rw[hU]at hLi
   have hLi':=cD hLi
   have hii:(i:Int)<(n:Int):=by omega
   have hwi:Al.wrap ((i:Int)+1)=((i+1:Nat):Int):=aU
   have h1:rdH p n L (eP p (A.take i)) 1=some (.cells 29 [.d (.i .i64 n),.d (.i .i64 n),.d (.sl L)]):=rfl
   have h2:rdH p n L (eP p (A.take i)) 2=some (.cells 119 [.d (.i .u64 0),.d (.i .i64 0),.nil]):=rfl
   have h4:rdH p n L (eP p (A.take i)) 4=some (.cells 119 [.d (.i .u64 p),.d (.i .i64 n),.own 3 0 n 1]):=rfl
   have h3:rdH p n L (eP p (A.take i)) 3=some (.cells 25 (hdN n i)):=by
    show some (HO.cells _ (hdN n (eP p (A.take i)).length))=_
    rw[hTl]
   generalize hHg:rdH p n L (eP p (A.take i))=H at *
   have hl1:=bNr hin
   have hl2:i+1≤(hdN n i).length:=by rw[xV hi];exact hin
   have hz0:As n (AV.d (.i .u64 0))=(dU (prW p n v 0)).map .d:=by simp[prW,dU]
   simp[-ζ,-ξ,↓KW,aNd,hHg,h1,h2,h3,h4,hii,hin,hLi,hLi',hLn,hLn',hUn,hUn',hm8,hm4,bY,hl1,hl2,hz0]
   have hpu:=bBd (p:=p) (L:=L) (v:=prW p n v 0) hTl (n:=n)
   rw[hHg]at hpu
   have hpu':upd (upd H (i+5) (some (.cells 43 ((dU (prW p n v 0)).map .d)))) 3 (some (.cells 25 (hdN n (i+1))))=rdH p n L (eP p (A.take i)++[prW p n v 0]):=hpu
   rw[hpu']
   refine bJ (fun j:Nat=>j≤n) (fun j=>⟨fV (yY p n L U i j),rdH p n L (eP p (A.take i)++[prW p n v j]),i+6⟩) (fun j=>n-j) 0 (A5 _) ?_ ?_
   ·show ∃ ρ,Wk _ ⟨fV (yY p n L U i 0),rdH p n L (eP p (A.take i)++[prW p n v 0]),i+6⟩ ρ
    refine⟨_,lH ?_ (fun id o' ho=>⟨o',ho,tA (by simp[hTl];omega) ho⟩) (fun id hid=>lO (by simp[hTl];omega)) (by simp)⟩
    simp[-ζ,upd,aL,Γ0,yY,bLo,bLn,bLm]
   ·intro j hj
    obtain⟨T,hT⟩:∃ T,eP p (A.take i)=T:=⟨_,rfl⟩
    rw[hT]at hTl
    simp only[hT]
    by_cases hjn:j<n
    ·obtain⟨z,hz⟩:∃ z,v[j]? = some z:=⟨_,Ab (by omega)⟩
     have hUj:=hUg j z hz
     have hUj':=cD hUj
     have hRz:=bLj (M:=M0) p z hp0 hp1 (hB v hvm z (Ai hz))
     obtain⟨y,hy⟩:∃ y:Nat,z%(p:Int)=(y:Int):=⟨(z%(p:Int)).toNat,by have:=Int.emod_nonneg z (b:=(p:Int)) (by omega);omega⟩
     rw[hy,bB]at hRz
     have hjj:(j:Int)<(n:Int):=by omega
     have hwj:Al.wrap ((j:Int)+1)=((j+1:Nat):Int):=aU
     have k4:rdH p n L (T++[prW p n v j]) 4=some (.cells 119 [.d (.i .u64 p),.d (.i .i64 n),.own 3 0 n 1]):=rfl
     have k3:rdH p n L (T++[prW p n v j]) 3=some (.cells 25 (hdN n (i+1))):=by
      show some (HO.cells _ (hdN n (T++[prW p n v j]).length))=_
      simp[hTl]
     have k5:rdH p n L (T++[prW p n v j]) (i+5)=some (.cells 43 ((dU (prW p n v j)).map .d)):=qI (by simp[hTl])
     have hgi:=bOl (n:=n) (show i<i+1 by omega)
     have hgi':∀ h,(hdN n (i+1))[i]'h=.own (i+5) 0 n 1:=fun h=>by rw[Ab h]at hgi;injection hgi
     have hhl:=xV (n:=n) (i:=i+1) (by omega)
     have hprl:=bLz (p:=p) hvl hj
     generalize hHg2:rdH p n L (T++[prW p n v j])=H2 at *
     have hps:=bLy (p:=p) hvl hjn hz
     rw[hy,Int.toNat_natCast]at hps
     have hdl:(dU (prW p n v j)).length=n:=by rw[eN];exact hprl
     have hly:lay ((dU (prW p n v j)).map AV.d) j [AV.d (D.i .u64 (y:Int))]=(dU (prW p n v (j+1))).map AV.d:=by rw[jO _ _ _ (by omega),bFw,hps]
     have hj1:j+1≤n:=hjn
     simp[-ζ,-ξ,↓KW,yY,hHg2,hjj,hjn,hUj,hUj',hUn,hUn',bPc,vJ,kN,fU,zQ,hin,k3,k4,k5,hgi,hgi',hhl,hdl,hjn]
     refine aD hRz ?_
     simp[-ζ,-ξ,↓KW,hin,k3,k4,k5,hgi,hgi',hhl,hdl,hjn,hj1,hly,hwj]
     refine aK (j+1) hj1 (by show n-(j+1)<n-j;omega) ?_
     have hset:=bLp (p:=p) (n:=n) (L:=L) (R:=T) (v:=prW p n v j) (w:=prW p n v (j+1))
     rw[hTl,hHg2]at hset
     show ∃ ρ,Wk _ ⟨fV (yY p n L U i (j+1)),rdH p n L (eP p (A.take i)++[prW p n v (j+1)]),i+6⟩ ρ
     rw[hT]
     refine⟨_,lH ?_ (fun id o' ho=>⟨o',?_,tA (by simp[hTl];omega) ho⟩) (fun id hid=>lO (by simp[hTl];omega)) (by simp)⟩
     ·simp[-ζ,upd,aL,Γ0,yY,bLo,bLn,bLm]
     ·have h6:id≠i+6:=fun e=>by rw[e,lO (by simp[hTl])]at ho;cases ho
      rw[←hset]at ho
      simp only[upd,h6,Av]at ho ⊢
      exact ho
    ·have hjn':j=n:=by omega
     have hjI:¬(j:Int)<(n:Int):=by omega
     simp[-ζ,-ξ,↓KW,yY,hjI]
     refine bF ?_
     simp[-ζ,-ξ,↓KW,hwi]
     refine aK (i+1) (show i+1≤n by omega) (by show n-(i+1)<n-i;omega) ?_
     rw[hjn',bMa hvl,←hT,←aUe hv]
     show ∃ ρ,Wk _ ⟨fV (aNd p n L (i+1)),rdH p n L (eP p (A.take (i+1))),i+1+5⟩ ρ
     have hTl':(eP p (A.take (i+1))).length=i+1:=by simp[eP];omega
     refine⟨_,lH ?_ (fun id o' ho=>⟨o',ho,tA (by omega) ho⟩) (fun id hid=>lO (by omega)) (by simp)⟩
     simp[-ζ,upd,aL,Γ0,aNd,bLo,bLn,bLm]
  ·have hin':i=n:=by omega
   have hii:¬(i:Int)<(n:Int):=by omega
   have hA':A.take i=A:=AG (by omega)
   rw[hA']at hTl ⊢
   have h2:rdH p n L (eP p A) 2=some (.cells 119 [.d (.i .u64 0),.d (.i .i64 0),.nil]):=rfl
   have h4:rdH p n L (eP p A) 4=some (.cells 119 [.d (.i .u64 p),.d (.i .i64 n),.own 3 0 n 1]):=rfl
   have h3:rdH p n L (eP p A) 3=some (.cells 25 (hdN n n)):=by
    show some (HO.cells _ (hdN n (eP p A).length))=_
    rw[hTl,hin']
   have hrow:∀ v∈eP p A,v.length=n:=fun v hv=>by
    obtain⟨w,hw,rfl⟩:=A1.1 hv
    rw[BF];exact hr w hw
   have hfr:∀ x,(hdN n n).mapM (frz (upd (rdH p n L (eP p A)) 2 x) 6)=some ((eP p A).map bL):=fun x =>
    bNg (by omega) hrow fun j v hv=>by
     simp only[upd];rw[Ah (by omega)];exact qI hv
   have hch:=bGg (n:=n) (M:=eP p A) (by omega)
   have hl:=xV (n:=n) (i:=n) (AA _)
   have htk:(hdN n n).take n=hdN n n:=AG (by omega)
   simp[-ζ,-ξ,↓KW,aNd,hii,h2,h4,h3,hl,htk,hfr,hch,rH,rG]
theorem aVp[M:Mch Aa](z:Int)(hl:Sz z):Spec Aa 51 [encZ z] (.b true):=by
 have:=bDw (decide (z<0)) (aJ z.natAbs) (AY hl (by decide))
 have hc:=kZ z.natAbs
 unfold lF at hc
 cases h:(aJ z.natAbs).getLast? with
 | none =>
  have hz:=fQ.1 (List.getLast?_eq_none_iff.1 h)
  have e:(!decide (z<0))=true:=by simp;omega
  rw[h]at this
  have this2:Spec Aa 51 [encI (decide (z<0)) (aJ z.natAbs)] (.b (!decide (z<0))):=this
  rw[e]at this2
  exact this2
 | some x =>
  rw[h]at hc this
  have e:(x != 0)=true:=by simpa using hc
  have this2:Spec Aa 51 [encI (decide (z<0)) (aJ z.natAbs)] (.b (x != 0)):=this
  rw[e]at this2
  exact this2
def mvB(n c:Nat)(L:List (List D)):HO:=.cells 29 [.d (.i .i64 n),.d (.i .i64 c),.d (.sl L)]
set_option maxHeartbeats 8000000 in
set_option maxRecDepth 10000 in
theorem aDe[M:Mch Aa](n c:Nat)(A:List (List Int))(hn:n≤1000)(hc:c≤1000)(hA:A.length=n)(hr:∀ v∈A,v.length=c)(hB:∀ v∈A,∀ z∈v,Sz z):Spec Aa 23 [lT n c A] (.b true):=by
 obtain⟨L,hL,hLl,hLg⟩:∃ L,(A.map fun v=>[dB v])=L∧L.length=A.length∧∀(i:Nat) (v:List Int),A[i]? = some v→L[i]? = some [dB v]:=⟨_,rfl,by simp,fun i v h=>by rw[Ag,h];rfl⟩
 have hLn:(L.length:Int)=(n:Int):=by omega
 have hLn':L.length=n:=by omega
 have hn0:¬(n:Int)<0:=by omega
 have hc0:¬(c:Int)<0:=by omega
 unfold lT
 rw[hL]
 refine bD (N:=46) Tryz.func23 ?_
 simp[-ζ,-ξ,↓KW,hn0,hc0,hLn,hLn']
 refine bJ (τ:=Nat) (fun i=>i≤n) (fun i=>StL [(1,.ptr 1 0),(24,.d (.sl L)),(25,.d (.i .i64 n)),(26,.d (.i .i64 (i:Int)))] none [mvB n c L]) (fun i=>n-i) 0 (A5 _) ?_ ?_
 ·refine wkQ [1] ?_ ?_<;>simp[-ζ,upd,aL,Γ0,mvB]
 ·intro i hi
  by_cases hlt:i<n
  ·obtain⟨v,hv⟩:∃ v,A[i]? = some v:=⟨_,Ab (by omega)⟩
   have hLi:=hLg i v hv
   have hLi':=cD hLi
   have hiL:i<L.length:=by omega
   have hvm:=Ai hv
   have hvl:=hr v hvm
   obtain⟨U,hU,hUl,hUg⟩:=aKh v
   rw[hU]at hLi hLi'
   have hUn:(U.length:Int)=(c:Int):=by omega
   have hUn':U.length=c:=by omega
   have hw0:Al.wrap (i:Int)=i:=aU
   have hw1:Al.wrap ((i:Int)+1)=((i+1:Nat):Int):=aU
   have hltI:(i:Int)<(n:Int):=by omega
   simp[-ζ,-ξ,↓KW,mvB,hlt,hltI,hiL,hLi,hLi',hUn,hUn',hw0]
   refine bJ (τ:=Nat) (fun j=>j≤c) (fun j=>StL [(1,.ptr 1 0),(24,.d (.sl L)),(25,.d (.i .i64 n)),(26,.d (.i .i64 (i:Int))),(35,.d (.sl U)),(36,.d (.i .i64 c)),(37,.d (.i .i64 (j:Int)))] none [mvB n c L]) (fun j=>c-j) 0 (A5 _) ?_ ?_
   ·refine wkQ [1] ?_ ?_<;>simp[-ζ,upd,aL,Γ0,mvB]
   ·intro j hj
    by_cases hgj:j<c
    ·obtain⟨z,hz⟩:∃ z,v[j]? = some z:=⟨_,Ab (by omega)⟩
     have hUj:=hUg j z hz
     have hUj':=cD hUj
     have hjU:j<U.length:=by omega
     have hZ:=aVp (M:=M) z (hB v hvm z (Ai hz))
     have hv0:Al.wrap (j:Int)=j:=aU
     have hv1:Al.wrap ((j:Int)+1)=((j+1:Nat):Int):=aU
     have hgI:(j:Int)<(c:Int):=by omega
     simp[-ζ,-ξ,↓KW,mvB,hgj,hgI,hjU,hUj,hUj',hv0,aR]
     refine aD hZ ?_
     simp[-ζ,-ξ,↓KW,hv1]
     refine aK (j+1) hgj (by show c-(j+1)<c-j;omega) ?_
     show ∃ ρ,Wk _ (StL _ _ _) ρ
     refine wkQ [1] ?_ ?_<;>simp[-ζ,upd,aL,Γ0,mvB]
    ·have hgI:¬(j:Int)<(c:Int):=by omega
     simp[-ζ,-ξ,↓KW,mvB,hgj,hgI]
     refine bF ?_
     simp[-ζ,-ξ,↓KW,hw1]
     refine aK (i+1) hlt (by show n-(i+1)<n-i;omega) ?_
     show ∃ ρ,Wk _ (StL _ _ _) ρ
     refine wkQ [1] ?_ ?_<;>simp[-ζ,upd,aL,Γ0,mvB]
  ·have hltI:¬(i:Int)<(n:Int):=by omega
   simp[-ζ,-ξ,↓KW,mvB,hlt,hltI]
   exact bF (by simp[-ζ,-ξ,↓KW])
theorem aJp[M:Mch Aa](n:Nat)(A:List (List Int))(hn:n≤1000)(hA:A.length=n)(hr:∀ v∈A,v.length=n)(hB:∀ v∈A,∀ z∈v,Sz z):Spec Aa 23 [jR n A] (.b true):=aDe n n A hn hn hA hr hB
end Go.Am
end
section
open List renaming map_map→ζ,mapM_map→ξ
namespace Go.Am
open Go.Conc
inductive Dl(P:Program)(main:Bool)(I:World→Prop)(Rm:Event→Prop)(K:Nat→Goroutine→Prop):Nat→Goroutine→Prop
  |here {d:Nat} {g:Goroutine} (h:K d g):Dl P main I Rm K d g
  |step {d:Nat} {g g':Goroutine} {es:Array Event} (hs:g.status=.running) (hm:∀ e∈es,Ee e=true∨Rm e) (h:∀ w,I w→stepG P main g w=.go g' w es) (hq:Dl P main I Rm K (deafBehind d es) g'):Dl P main I Rm K d g
section
variable {P:Program} {main:Bool} {I:World→Prop} {Rm:Event→Prop} {K:Nat→Goroutine→Prop} {b:Frame} {a:Act} {k:List Item} {cs:List Frame} {d:Nat}
theorem Dl.ctl{g g':Goroutine}(hs:g.status=.running)(h:∀ w,I w→stepG P main g w=.go g' w)(hq:Dl P main I Rm K d g'):Dl P main I Rm K d g:=.step hs (by simp) h hq
theorem Dl.value{ops:Array Oper}{i:Nat}{rest:List Nat}{o:Oper}(v:Value)(ho:ops[i]? = some o)(hw:Bl o (yielded ops a.tmps)=true)(hk:b.kind≠.early)
    (hr:∀ w,I w→(execOp a.eval o).run P w=.ok (.value v) w) (he:∀ w,I w→(execOp a.eval o).events P w #[]=#[])
    (hq:Dl P main I Rm K d (G (b.at (a.put o.dst v) (.inRegion ops rest::k)) cs)):Dl P main I Rm K d (G (b.at a (.inRegion ops (i::rest)::k)) cs) :=
  .ctl rfl (fun w hI=>by rw[stepG_value ho hw hk (hr w hI)];unfold listed;rw[he w hI,seen_none]) hq
theorem Dl.unwanted{ops:Array Oper}{i:Nat}{rest:List Nat}{o:Oper}(ho:ops[i]? = some o)(hw:Bl o (yielded ops a.tmps)=false)
    (hq:Dl P main I Rm K d (G (b.at (a.put o.dst undef) (.inRegion ops rest::k)) cs)):Dl P main I Rm K d (G (b.at a (.inRegion ops (i::rest)::k)) cs) :=
  .ctl rfl (fun _ _=>stepG_unwanted ho hw) hq
theorem Dl.enter{ops:Array Oper}{i:Nat}{rest:List Nat}{o:Oper}{f:FuncId}{args:Array Value}(ho:ops[i]? = some o)(hw:Bl o (yielded ops a.tmps)=true)(hk:b.kind≠.early)
    (hr:∀ w,I w→(execOp a.eval o).run P w=.ok (.enter f args) w) (he:∀ w,I w→(execOp a.eval o).events P w #[]=#[])
    (hq:Dl P main I Rm K d (G (CZ P f args .normal) (b.at a (.inRegion ops (i::rest)::k)::cs))):Dl P main I Rm K d (G (b.at a (.inRegion ops (i::rest)::k)) cs) :=
  .ctl rfl (fun w hI=>by rw[stepG_enter ho hw hk (hr w hI)];unfold listed;rw[he w hI,seen_none]) hq
theorem Dl.leave0{fn:Func}{todo:List Item}{b₀:Frame}{a₀:Act}{ops:Array Oper}{i:Nat}{rest:List Nat}(hn:b.kind=.normal)(hd:a.defers=[])(hf:P.funcs[b.fn]? = some fn)(hr:fn.results=#[])
    (hq:Dl P main I Rm K d (G (b₀.at (a₀.put ((ops[i]?).bind (·.dst)) (.tuple #[])) (.inRegion ops rest::k)) cs)) :
    Dl P main I Rm K d (G { b.at a todo with mode:=.returning } (b₀.at a₀ (.inRegion ops (i::rest)::k)::cs)) :=
  .ctl rfl (fun w _=>by rw[stepG_leave hn hd hf (results_none hr _ P w) (events_results_none hr _ _),D6]) hq
theorem Dl.leave1{fn:Func}{todo:List Item}{b₀:Frame}{a₀:Act}{ops:Array Oper}{i:Nat}{rest:List Nat}{t:Tmp}(hn:b.kind=.normal)(hd:a.defers=[])(hf:P.funcs[b.fn]? = some fn)(hr:fn.results=#[.tmp t])
    (hq:Dl P main I Rm K d (G (b₀.at (a₀.put ((ops[i]?).bind (·.dst)) (a.tmps.getD t undef)) (.inRegion ops rest::k)) cs)) :
    Dl P main I Rm K d (G { b.at a todo with mode:=.returning } (b₀.at a₀ (.inRegion ops (i::rest)::k)::cs)) :=
  .ctl rfl (fun w _=>by rw[stepG_leave hn hd hf (results_tmp hr _ P w) (events_results_tmp hr _ _),D6]) hq
theorem Dl.call{ops:Array Oper}{i:Nat}{rest:List Nat}{o:Oper}{f:FuncId}{fn:Func}{c:Code}{args:Array Operand}{ats:Array TypeId}
    (ho:ops[i]? = some o) (hw:Bl o (yielded ops a.tmps)=true) (hk:b.kind≠.early) (hop:o.op=.call { callee:=.value (.func f),args,argTypes:=ats })
    (hf:P.funcs[f]? = some fn) (hname:(fn.name == "runtime.NumGoroutine")=false) (hb:fn.body=some c)
    (hq:Dl P main I Rm K d (G ((base f).at { tmps:=args.map a.eval++AU (fn.ntmps-(args.map a.eval).size) undef,defers:=[] } [.code c]) (b.at a (.inRegion ops (i::rest)::k)::cs))) :
    Dl P main I Rm K d (G (b.at a (.inRegion ops (i::rest)::k)) cs):=by
  have hb':fn.body.isNone=false:=by rw[hb];rfl
  refine .ctl rfl (fun w _=>?_) hq
  rw[stepG_enter ho hw hk (run_call_body hop hf hname hb'),enter_at _ hf hb]
  have:listed P b.fn a o w=#[]:=by unfold listed;rw[events_call_body hop hf hname hb'];exact seen_none P _
  rw[this]
theorem Dl.unwind_mark{fn:Func}{f:FuncId}{todo:List Item}{ds:List Deferred}(m:Mark)(hm:Ee ⟨.mark m,false,true⟩=true)(hx:∀ g,m≠.extern g)(hd:a.defers=dcall f #[]::ds)
    (hf:P.funcs[f]? = some fn) (hname:(fn.name == "runtime.NumGoroutine")=false) (hb:fn.body.isNone=true) (hn:Extern.findNext fn=none)
    (he:Extern.find fn=some (fun _=>do mark m;pure Extern.Race.none_))
    (hq:Dl P main I Rm K (deafBehind d #[⟨.mark m,false,true⟩]) (G { b.at ⟨a.tmps,ds⟩ todo with mode:=.returning } cs)):Dl P main I Rm K d (G { b.at a todo with mode:=.returning } cs) :=
  .step rfl (by intro e h;simp at h;subst h;exact .inl hm) (fun w _=>stepG_unwind_entry (v:=.tuple #[]) hd hf hname hb hn he (by simp[Extern.Race.none_]) (by simp) (by
    intro x hx'
    simp at hx'
    subst hx'
    exact⟨rfl,fun g h=>hx g (Loc.mark.inj h)⟩)) hq
theorem Dl.leaveD{fn:Func}{todo:List Item}{c:Frame}(hn:b.kind=.deferred)(hd:a.defers=[])(hf:P.funcs[b.fn]? = some fn)(hr:fn.results=#[])(hc:c.mode=.returning)
    (hq:Dl P main I Rm K d (G c cs)):Dl P main I Rm K d (G { b.at a todo with mode:=.returning } (c::cs)) :=
  .ctl rfl (fun w _=>stepG_leave_deferred hn hd hf (results_none hr _ P w) (events_results_none hr _ _) hc) hq
theorem Dl.done(h:Dl P main I Rm K d (G { b.at a []with mode:=.returning } cs)):Dl P main I Rm K d (G (b.at a []) cs):=.ctl rfl (fun _ _=>stepG_end) h
theorem Dl.seq{x y:Code}(h:Dl P main I Rm K d (G (b.at a (.code x::.code y::k)) cs)):Dl P main I Rm K d (G (b.at a (.code (.seq x y)::k)) cs):=.ctl rfl (fun _ _=>stepG_seq) h
theorem Dl.skip(h:Dl P main I Rm K d (G (b.at a k) cs)):Dl P main I Rm K d (G (b.at a (.code .skip::k)) cs):=.ctl rfl (fun _ _=>stepG_skip) h
theorem Dl.region{id:Nat}{ops:Array Oper}(h:Dl P main I Rm K d (G (b.at a (.inRegion ops (AK ops.size)::k)) cs)):Dl P main I Rm K d (G (b.at a (.code (.region id ops false)::k)) cs):=.ctl rfl (fun _ _=>stepG_region) h
theorem Dl.regionEnd{ops:Array Oper}(h:Dl P main I Rm K d (G (b.at a k) cs)):Dl P main I Rm K d (G (b.at a (.inRegion ops []::k)) cs):=.ctl rfl (fun _ _=>stepG_region_end) h
theorem Dl.cond{c:Operand}{x y:Code}(t:Bool)(hc:a.eval c=.bool t)(h:Dl P main I Rm K d (G (b.at a (.code (if t then x else y)::k)) cs)):Dl P main I Rm K d (G (b.at a (.code (.cond c x y)::k)) cs):=.ctl rfl (fun _ _=>stepG_cond hc) h
theorem Dl.block{id:Nat}{c:Code}(h:Dl P main I Rm K d (G (b.at a (.code c::.inBlock id::k)) cs)):Dl P main I Rm K d (G (b.at a (.code (.block id c)::k)) cs):=.ctl rfl (fun _ _=>stepG_block) h
theorem Dl.inBlock{id:Nat}(h:Dl P main I Rm K d (G (b.at a k) cs)):Dl P main I Rm K d (G (b.at a (.inBlock id::k)) cs):=.ctl rfl (fun _ _=>stepG_inBlock) h
theorem Dl.loop{c:Code}(h:Dl P main I Rm K d (G (b.at a (.code c::.inLoop c::k)) cs)):Dl P main I Rm K d (G (b.at a (.code (.loop c)::k)) cs):=.ctl rfl (fun _ _=>stepG_loop) h
theorem Dl.inLoop{c:Code}(h:Dl P main I Rm K d (G (b.at a (.code c::.inLoop c::k)) cs)):Dl P main I Rm K d (G (b.at a (.inLoop c::k)) cs):=.ctl rfl (fun _ _=>stepG_inLoop) h
theorem Dl.exit{id:Nat}{k':List Item}(hx:exitTo id k=some k')(h:Dl P main I Rm K d (G (b.at a k') cs)):Dl P main I Rm K d (G (b.at a (.code (.exit id)::k)) cs):=.ctl rfl (fun _ _=>stepG_exit hx) h
theorem Dl.ret(h:Dl P main I Rm K d (G { b.at a (.code .ret::k)with mode:=.returning } cs)):Dl P main I Rm K d (G (b.at a (.code .ret::k)) cs):=.ctl rfl (fun _ _=>stepG_ret') h
def DlN(P:Program)(main:Bool)(I:World→Prop)(Rm:Event→Prop)(K:Nat→Goroutine→Prop):Nat→Nat→Goroutine→Prop
  |0,d,g=>K d g
  |n+1,d,g=>K d g∨(g.status=.running∧∃ g' es,(∀ e∈es,Ee e=true∨Rm e)∧(∀ w,I w→stepG P main g w=.go g' w es)∧DlN P main I Rm K n (deafBehind d es) g')
theorem Dl.count{g:Goroutine}(h:Dl P main I Rm K d g):∃ n,DlN P main I Rm K n d g:=by
  induction h with
  |here h=>exact⟨0,h⟩
  |step hs hm h _ ih=>obtain⟨n,ih⟩:=ih;exact⟨n+1,.inr ⟨hs,_,_,hm,h,ih⟩⟩
theorem DlN.cases{n:Nat}{g:Goroutine}(h:DlN P main I Rm K n d g):K d g∨∃ m,n=m+1∧g.status=.running∧∃ g' es,(∀ e∈es,Ee e=true∨Rm e)∧(∀ w,I w→stepG P main g w=.go g' w es)∧DlN P main I Rm K m (deafBehind d es) g':=by
  cases n with
  |zero=>exact .inl h
  |succ n=>exact h.imp id fun x=>⟨n,rfl,x⟩
theorem Dl.mono{K':Nat→Goroutine→Prop}(hK:∀ d g,K d g→K' d g){g:Goroutine}(h:Dl P main I Rm K d g):Dl P main I Rm K' d g:=by
  induction h with
  |here h=>exact .here (hK _ _ h)
  |step hs hm h _ ih=>exact .step hs hm h ih
theorem Dl.bind{K':Nat→Goroutine→Prop}(hK:∀ d g,K d g→Dl P main I Rm K' d g){g:Goroutine}(h:Dl P main I Rm K d g):Dl P main I Rm K' d g:=by
  induction h with
  |here h=>exact hK _ _ h
  |step hs hm h _ ih=>exact .step hs hm h ih
theorem Dl.quits{g:Goroutine}(h:Dl P false (fun _=>True) (fun _=>False) (fun d g=>∃ n,QuitsD P n d g) d g):∃ n,QuitsD P n d g:=by
  induction h with
  |here h=>exact h
  |step hs hm h _ ih=>obtain⟨n,ih⟩:=ih;exact⟨n+1,.inr ⟨hs,_,_,fun e he=>(hm e he).resolve_right id,fun w=>h w trivial,ih⟩⟩
end
end Go.Am
end
section
open List renaming map_map→ζ,mapM_map→ξ
namespace Go.Am
open Go.Conc
open Go.ConcN (sumTo sumTo_upd)
def cY(S:Nat→Prop):Loc→Prop
  |.cell a=>S a.block
  |_=>False
def cZ(P:Program)(Post:Value→World→Prop)(m:Machine)(t:Trace):Prop :=
  ∃ N last o w' t',runNT P (N+1) m t=(.ended o w',t')∧runN P N m=.next last∧step P last=.ended o w'∧Conc.Good P Post last o w' t'
theorem cZ.step{P:Program}{Post:Value→World→Prop}{m m':Machine}{t:Trace}{ops:Trace}(h:stepT P m=(.next m',ops))(hg:cZ P Post m' (t++ops)):cZ P Post m t:=by
  obtain⟨N,last,o,w',t',h1,h2,h3,h4⟩:=hg
  exact⟨N+1,last,o,w',t',by rw[runNT_succ_next h];exact h1,by rw[runN_succ_next h];exact h2,h3,h4⟩
def stO:Obj→Bool
  |C8 c _ f=>f==(0,c.size)
  |o=>!okO o
def Kp(W0 v w:World):Prop:=∀(b:Nat) (o:Obj),W0.heap[b]? = some o→stO o=true→w.heap[b]? = some o∧∃(c:Array Value) (t:TypeId),v.heap[b]? = some (C8 c t (0,c.size))
theorem Kp.step{W0 v w v' w':World}(h:Kp W0 v w)(hx:Ext v v')(hr:wA v w w'):Kp W0 v' w':=fun b o hb ho=>by
  obtain⟨h1,c,t,h2⟩:=h b o hb ho
  refine⟨(hr b c t h2).trans h1,?_⟩
  obtain⟨c',g1,_,g3⟩:=hx.cells b c t _ h2
  have:=g3 rfl;subst this
  exact⟨c',t,g1⟩
theorem Kp.congr{W0 v w v' w':World}(h:Kp W0 v w)(hv:v'.heap=v.heap)(hw:w'.heap=w.heap):Kp W0 v' w':=fun b o hb ho=>by rw[hv,hw];exact h b o hb ho
structure aGt(Sh:Loc→Prop)(N:Nat)(t:Trace):Prop where
  quiet:Quiet Sh t
  mem:∀ i a,touchAt t i=some a→a.loc.isMemory=true
  num:∀(i:Nat) (op:MemOp),t[i]? = some op→op.g<N
theorem aGt.app{Sh:Loc→Prop}{N:Nat}{t u:Trace}(h:aGt Sh N t)(hq:∀ op∈u,∀ x,op.act.touch? = some x→Sh x.loc→x.kind≠.plain∧(x.kind=.said→op.g=0))(hm:∀ op∈u,∀ x,op.act.touch? = some x→x.loc.isMemory=true)(hn:∀ op∈u,op.g<N):aGt Sh N (t++u):=by
  refine⟨h.quiet.app hq,fun i a ha=>?_,fun i op hi=>?_⟩
  · obtain⟨x,hx,hxa⟩:=touch_of ha
    rcases getElem?_append_cases hx with ⟨_,hx'⟩|⟨_,hxu⟩
    · exact h.mem i a (by rw[touchAt_of hx'];exact hxa)
    · exact hm x hxu a hxa
  · rcases getElem?_append_cases hi with ⟨_,hi'⟩|⟨_,hiu⟩
    · exact h.num i op hi'
    · exact hn op hiu
theorem aGt.mute{Sh:Loc→Prop}{N:Nat}{t:Trace}(h:aGt Sh N t){g:Nat}(hg:g<N){fn:FuncId}{pos:String}{es:Array Event}(hm:∀ e∈es,e.mute=true):aGt Sh N (t++BI g fn pos es):=by
  refine h.app (fun op hop x hx=>?_) (fun op hop x hx=>?_) (fun op hop=>?_)<;>obtain⟨e,he,rfl⟩:=Bx hop
  · rw[touch_mute (hm e he)]at hx;cases hx
  · rw[touch_mute (hm e he)]at hx;cases hx
  · exact hg
def dO(P:Program)(W0:World)(Post:Value→World→Prop)(g:Goroutine)(v:World):Prop :=
  ∀ v1,Env v v1→OkV v1→∀(S:Nat→Prop) (gs:Array Goroutine) (w:World) (sl:Option (Nat×Nat)) (t:Trace) (q:Nat→Nat),(∀ b,S b→v1.heap[b]? = some hole)→Sim v1 w→gs[0]? = some g→Leavers P t gs q→Past (cY S) w.heap.size t→aGt (cY S) gs.size t→Kp W0 v1 w →
    cZ P Post (crowd gs w sl) t
theorem nP{v:World}{S:Nat→Prop}{B:Nat}(hS:∀ b,S b→v.heap[b]? = some hole)(hB:v.heap.size≤B){e:Event}(h:EvV v e):EvL (cY S) B e:=by
  obtain⟨loc,wr,sy⟩:=e
  rcases h with ⟨a,c,t,f,h1,h2,h3,h4,h5⟩|⟨r,o,h1,h2,h3,h4,h5⟩|h
  · simp only at h1 h2;subst h1;subst h2
    have hlt:=aY h3
    refine evL_cell a wr (fun hs=>?_) (by omega)
    have:=hS a.block hs
    rw[h3]at this;injection this with this;injection this with e1 _ _;subst e1;simp at h4
  · simp only at h1 h2;subst h1;subst h2
    have hlt:=aY h3
    refine⟨fun x hx hs=>?_,by simp,by simp,?_⟩
    · simp[A7,Bu]at hx
      subst hx;exact hs.elim
    · have:r<B:=by omega
      simpa[A7,MemAct.low,Loc.low]using this
  · injection h with e1 e2 e3;subst e1;subst e2;subst e3
    exact⟨fun x hx=>by simp[A7,Bu]at hx,by simp,by simp,trivial⟩
theorem bEi{v v':World}{b:Nat}(h:Ext v v')(hb:v.heap[b]? = some hole):v'.heap[b]? = some hole:=by
  obtain⟨c',h1,h2,h3⟩:=h.cells b #[] 0 (0,0) hb
  have:=h3 rfl
  subst this;exact h1
theorem aGi{v:World}{e:Event}(h:EvV v e){x:Touch}(hx:(A7 e).touch? = some x):x.loc.isMemory=true∧x.kind≠.said:=by
  obtain⟨loc,wr,sy⟩:=e
  rcases h with ⟨a,c,t,f,h1,h2,_⟩|⟨r,o,h1,h2,_⟩|h
  · simp only at h1 h2;subst h1;subst h2
    simp[A7,Bu]at hx;subst hx;exact⟨rfl,by simp⟩
  · simp only at h1 h2;subst h1;subst h2
    simp[A7,Bu]at hx;subst hx;exact⟨rfl,by simp⟩
  · injection h with e1 e2 e3;subst e1;subst e2;subst e3
    simp[A7,Bu]at hx
section
variable {P:Program} {W0:World} {Post:Value→World→Prop}
theorem zL{g : Goroutine}{v : World}(hrun : g.status = .running) (hstep : ∀ v1 w, Env v v1 → OkV v1 → Sim v1 w → Kp W0 v1 w →
      (∃ g' w' es,stepG P true g w=.go g' w' es∧∀(S:Nat→Prop) (gs:Array Goroutine) (sl:Option (Nat×Nat)) (t:Trace) (q:Nat→Nat),(∀ b,S b→v1.heap[b]? = some hole)→gs[0]? = some g'→Leavers P (t++BI 0 g.frame.fn g.frame.place es) gs q →
        Past (cY S) w.heap.size t→aGt (cY S) gs.size t→cZ P Post (crowd gs w' sl) (t++BI 0 g.frame.fn g.frame.place es)) ∨
      ∃ x w' es,stepG P true g w=.ended (.done x) w' es∧(∀ e∈es,EvV v1 e)∧Post x w'):dO P W0 Post g v:=by
  have key:∀ (M:Nat) (v1:World),Env v v1→OkV v1→∀ (S:Nat→Prop) (gs:Array Goroutine) (w:World) (sl:Option (Nat × Nat)) (t:Trace) (q:Nat→Nat),sumTo gs.size q≤M→(∀ b,S b→v1.heap[b]? = some hole)→Sim v1 w→gs[0]? = some g→Leavers P t gs q→Past (cY S) w.heap.size t→aGt (cY S) gs.size t→Kp W0 v1 w →
      cZ P Post (crowd gs w sl) t:=by
    intro M
    induction M with
    | zero|succ M ih =>
      intro v1 he hok S gs w sl t q hM hS hsim h0 hL hP hTd hKp
      have haw:∀ g∈gs,awake g:=by
        intro g1 hg
        obtain⟨i,hi,rfl⟩:=Array.mem_iff_getElem.1 hg
        rcases Bb i with rfl|hpos
        · have:gs[0]=g:=by simpa[Ak hi]using h0
          rw[this];exact awake_of (.inl hrun)
        · exact awake_of ((hL.old i _ hpos (Ak hi)).status.elim .inl fun x=>.inr (.inr x))
      obtain⟨i,g1,d,sl',hi,hg,hst⟩:=crowd_pick (P:=P) (w:=w) (sl:=sl) haw ⟨0,g,h0,hrun⟩
      have hed:Env v1 { v1 with drawn:=d }:=⟨rfl,rfl,rfl,0,by simp⟩
      have hokd:OkV { v1 with drawn:=d }:=hok.congr rfl
      have hsimd:Sim { v1 with drawn:=d } (w.at d):=⟨hsim.tape,rfl,hsim.os,hsim.output,hsim.size,hsim.blk⟩
      rcases Bb i with rfl|hpos
      · obtain rfl:g1=g:=by rw[h0]at hi;exact(Bg hi).symm
        rcases hstep _ (w.at d) (he.trans hed) hokd hsimd (hKp.congr rfl rfl)with ⟨g',w',es,hgo,hwin⟩|⟨x,w'',es,hend,hev,hpost⟩
        · have hrunT:=runT_crowd_go (P:=P) (sl:=sl') (i:=0) hi (show stepG P (0==0) g1 (w.at d)=_ from hgo)
          have hlt:0<gs.size:=(AZ.1 h0).1
          refine cZ.step (hst.trans hrunT) (hwin S _ sl' t q hS (by simp[hlt]) ⟨fun j x hj hx=>?_,fun j hj=>?_⟩ hP (by simpa using hTd))
          · have hne:0≠j:=by omega
            rw[AD hne,BM]at hx
            obtain⟨y,hy,rfl⟩:=Af.1 hx
            have hq:=hL.old j y hj hy
            rw[woken_quitsD hq,Deaf_other t (by omega) _ (fun op hop=>by obtain⟨e,_,rfl⟩:=Bx hop;rfl)]
            exact hq
          · rw[Deaf_other t (g':=0) (by simp at hj;omega) _ (fun op hop=>by obtain⟨e,_,rfl⟩:=Bx hop;rfl)]
            exact hL.above j (by simpa using hj)
        · have hrunT:=runT_many_ended (P:=P) (sl:=sl') (i:=0) hi (show stepG P (0==0) g1 (w.at d)=_ from hend)
          have hsz0:v1.heap.size=w.heap.size:=hsim.size
          have hP':=hP.own (fn:=g1.frame.fn) (pos:=g1.frame.place) (es:=es) fun e hx=>nP (v:={ v1 with drawn:=d }) hS (by simp only;omega) (hev e hx)
          have hsT:=hst.trans hrunT
          refine⟨0,_,_,_,_,?_,rfl,?_,x,rfl,hpost,hP'.clean,hP'.over,⟨fun y hy=>?_,rfl⟩,fun j y hy hj=>?_⟩
          · simp[runNT,hsT]
          · simp[Go.step,hsT]
          · obtain⟨j,hj⟩:=List.mem_iff_getElem?.1 hy
            rw[List.getElem?_drop]at hj
            exact⟨_,(hL.old (1+j) y (by omega) (by simpa[crowd]using hj)).leaves⟩
          · have hq:=hL.old j y (by omega) hy
            refine⟨q j,?_⟩
            have e:(t++BI 0 g1.frame.fn g1.frame.place es).deaf j (t++BI 0 g1.frame.fn g1.frame.place es).size=Deaf t j :=
              Deaf_other t (g:=j) (g':=0) (by omega) _ (fun op hop=>by obtain⟨e,_,rfl⟩:=Bx hop;rfl)
            rw[e]
            exact hq.hears _
      · have hq:=hL.old i g1 hpos hi
        have hi0:(i==0)=false:=by simp;omega
        have hlt:i<gs.size:=(AZ.1 hi).1
        cases hqi:q i with
        |zero=>rw[hqi]at hq;rw[hq.1]at hg;cases hg
        | succ k =>
          rw[hqi]at hq
          rcases hq with ⟨hf,_⟩|⟨_,g',es,hm,hstp,hq'⟩
          · rw[hf]at hg;cases hg
          have hrunT:=runT_crowd_go (P:=P) (sl:=sl') (i:=i) hi (by rw[hi0];exact hstp (w.at d))
          have hsz:((gs.map (woken P g1 g' (w.at d))).setIfInBounds i g').size=gs.size:=by simp
          have hsum:sumTo gs.size (A6 q i k)+(k+1)=sumTo gs.size q+k:=by
            have:=sumTo_upd q k id hlt
            simpa[hqi]using this
          first
          |exact absurd hM (by omega)
          | refine cZ.step (hst.trans hrunT) (ih _ (he.trans hed) hokd S _ (w.at d) sl' _ (A6 q i k) (by rw[hsz];omega) hS hsimd ?_ ⟨fun j x hj hx=>?_,fun j hj=>?_⟩ (hP.mute (by omega) hm) (by rw[hsz];exact hTd.mute hlt hm) (hKp.congr rfl rfl))
            · have hne:i≠0:=by omega
              rw[AD hne,BM,h0]
              simp[woken_run hrun]
            · by_cases hji:i=j
              · subst hji
                rw[BK (by simpa using hlt)]at hx
                obtain rfl:=Bg hx
                rw[A4,Deaf_own]
                exact hq'
              · rw[AD hji,BM]at hx
                obtain⟨y,hy,rfl⟩:=Af.1 hx
                have hqj:=hL.old j y hj hy
                rw[woken_quitsD hqj,Bd q k (Ew hji),Deaf_other t hji _ (fun op hop=>by obtain⟨e,_,rfl⟩:=Bx hop;rfl)]
                exact hqj
            · rw[Deaf_other t (g':=i) (by simp at hj;omega) _ (fun op hop=>by obtain⟨e,_,rfl⟩:=Bx hop;rfl)]
              exact hL.above j (by simpa using hj)
  intro v1 he hok S gs w sl t q hS hsim h0 hL hP hTd hKp
  exact key _ v1 he hok S gs w sl t q (AA _) hS hsim h0 hL hP hTd hKp
theorem aDf{g : Goroutine}{v : World}(hrun : g.status = .running) (hstep : ∀ v1 w, Env v v1 → OkV v1 → Sim v1 w → Kp W0 v1 w →
      (∃ g' v' w' es,stepG P true g w=.go g' w' es∧vZ v1 w v' w' es∧dO P W0 Post g' v')∨∃ x w' es,stepG P true g w=.ended (.done x) w' es∧(∀ e∈es,EvV v1 e)∧Post x w'):dO P W0 Post g v:=by
  refine zL hrun fun v1 w he hok hsim hKp=>?_
  rcases hstep v1 w he hok hsim hKp with ⟨g',v',w',es,hgo,hso,hwin⟩|h
  · have hsz:v'.heap.size=w'.heap.size:=hso.sim.size
    have hsz0:v1.heap.size=w.heap.size:=hsim.size
    have hge:v1.heap.size≤v'.heap.size:=hso.ext.size
    refine .inl ⟨g',w',es,hgo,fun S gs sl t q hS h0 hL hP hTd=>?_⟩
    have hS':∀ b,S b→v'.heap[b]? = some hole:=fun b hb=>bEi hso.ext (hS b hb)
    have hlt:0<gs.size:=(AZ.1 h0).1
    refine hwin v' (.refl _) hso.ok S gs w' sl _ q hS' hso.sim h0 hL ?_ ?_ (hKp.step hso.ext hso.rest)
    · exact(hP.mono (by omega)).own fun e hx=>nP hS' (by omega) (hso.evs e hx)
    · refine hTd.app (fun op hop x hx hs=>?_) (fun op hop x hx=>?_) (fun op hop=>?_)<;>obtain⟨e,he',rfl⟩:=Bx hop
      · exact⟨(nP (B:=w'.heap.size) hS' (by omega) (hso.evs e he')).1 x hx hs,fun _=>rfl⟩
      · exact(aGi (hso.evs e he') hx).1
      · exact hlt
  · exact .inr h
theorem aJr(W0:World)(Post:Value→World→Prop):aGy P true (dO P W0 Post) where
  env h he:=fun v1 he1=>h v1 (he.trans he1)
  step hr hv h:=aDf hr fun v1 w he _ hsim _=>by
    obtain⟨g',v',w',es,h1,h2,h3⟩:=h v1 w he hsim
    exact .inl ⟨g',v',w',es,h1,h2,h3⟩
theorem wH(main:Bool):aGy P main (fun _ _=>False) where
  env h _:=h
  step hr hv h:=by
    obtain⟨_,_,_,_,_,_,h3⟩:=h _ _ (.refl _) (.refl _)
    exact h3
end
@[instance_reducible]def bP(P:Program):Mch P where
  main:=true
  Fam Win:=(∃ W0 Post,Win=dO P W0 Post)∨Win=fun _ _=>False
  closed h:=by
    rcases h with ⟨W0,Post,rfl⟩|rfl
    · exact aJr W0 Post
    · exact wH true
  none:=.inr rfl
end Go.Am
end
section
open List renaming map_map→ζ,mapM_map→ξ
namespace Go.Am
open Go.Conc
open RowKit (Below)
def strike(W:World):World:={ W with heap:=W.heap.map fun o=>if okO o then o else hole }
theorem jF(W:World)(b:Nat):(strike W).heap[b]? = (W.heap[b]?).map fun o=>if okO o then o else hole:=by simp[strike]
theorem lI(W:World):(strike W).heap.size=W.heap.size:=by simp[strike]
theorem uU(W:World):OkV (strike W):=fun b o hb=>by
  rw[jF]at hb
  cases h:W.heap[b]? with
  |none=>rw[h]at hb;cases hb
  | some x =>
    rw[h]at hb
    simp only[AQ,At]at hb
    subst hb
    split
    · assumption
    · rfl
theorem aMg(W:World):Sim (strike W) W:=⟨rfl,rfl,rfl,rfl,lI W,fun b o hb=>by
  rw[jF]at hb
  cases h:W.heap[b]? with
  |none=>rw[h]at hb;cases hb
  | some x =>
    rw[h]at hb
    simp only[AQ,At]at hb
    subst hb
    by_cases hx:okO x=true
    · rw[Ap hx];exact .inr (.inl rfl)
    · rw[Ah hx];exact .inl rfl⟩
theorem aTh(W:World):Kp W (strike W) W:=fun b o hb ho=>by
  refine⟨hb,?_⟩
  rw[jF,hb,AQ]
  by_cases hx:okO o=true
  · rw[Ap hx]
    cases o with
    |cells c t f=>simp only[stO,beq_iff_eq]at ho;exact⟨c,t,by rw[ho]⟩
    |_=>simp[stO,hx]at ho
  · rw[Ah hx];exact⟨#[],0,rfl⟩
def qW(W:World)(r:D)(x:Value)(w':World):Prop :=
  (∀ b,b<W.heap.size→w'.heap[b]? = W.heap[b]?)∧w'.os=W.os∧w'.tape=W.tape∧w'.output=W.output∧W.heap.size≤w'.heap.size∧∃ v':World,VD (fun b=>b<v'.heap.size) v' r x
theorem aOu{W v' w':World}{r:D}{x:Value}(hs:Sim v' w')(hk:Kp W v' w')(hb:Below (strike W).heap.size (strike W) v')(hv:VD (fun b=>b<v'.heap.size) v' r x):qW W r x w':=by
  refine⟨fun b hlt=>?_,?_,?_,?_,?_,v',hv⟩
  · obtain⟨o,ho⟩:∃ o,W.heap[b]? = some o:=⟨_,Ak hlt⟩
    by_cases hst:stO o=true
    · rw[(hk b o ho hst).1,ho]
    · have hbl:=hb.block b (by rw[lI];exact hlt)
      have hok:okO o=true:=by
        cases o<;>simp[stO]at hst<;>first|rfl|exact hst
      rw[jF,ho,AQ,Ap hok]at hbl
      rcases hs.blk b o hbl with e|e|⟨c,t,_,e,_⟩
      · subst e;exact absurd rfl hst
      · rw[e,ho]
      · subst e;exact absurd (by simp[stO]) hst
  · rw[←hs.os];exact hb.os
  · rw[←hs.tape];exact hb.tape
  · rw[←hs.output];exact hb.output
  · have:=hb.size;rw[lI]at this;rw[←hs.size];exact this
theorem aMk{P:Program}{b:Frame}{a:Act}{fn:Func}{todo:List Item}{x:Value}{w w':World}{es:Array Event}(hn:b.kind=.normal)(hi:P.inits.idxOf? b.fn=none)(hd:a.defers=[])(hf:P.funcs[b.fn]? = some fn)(hr:(results fn a.tmps).runT P w #[]=(.ok x w',es)) :
    stepG P true (G { b.at a todo with mode:=.returning } []) w=.ended (.done x) w' (seen P b.fn es):=by
  simp only[G,stepG,unwind,Frame.at,hd,hf,hr,doReturn,Cl,hn,hi]
  simp
section
variable {P:Program}
theorem aMx{f:FuncId}{fn:Func}{c:Code}{args:Array Value}{W:World}{r:D}(hf:P.funcs[f]? = some fn)(hb:fn.body=some c)(hi:P.inits.idxOf? f=none)
    (h:letI:=bP P;WC P c (aSg P fn fun x v'=>Below (strike W).heap.size (strike W) v'∧VD (fun b=>b<v'.heap.size) v' r x) { tmps:=args++AU (fn.ntmps-args.size) undef,defers:=[] } (strike W)) :
    cZ P (qW W r) (solo (G (CZ P f args .normal) []) W) #[]:=by
  letI:=bP P
  have hW:(bP P).Fam (dO P W (qW W r)):=.inl ⟨W,_,rfl⟩
  have hwin:dO P W (qW W r) (G (CZ P f args .normal) []) (strike W):=by
    rw[enter_at args hf hb]
    have back:∀(a':Act) (v':World) (todo:List Item),aSg P fn (fun x v'=>Below (strike W).heap.size (strike W) v'∧VD (fun b=>b<v'.heap.size) v' r x) .ret a' v'→dO P W (qW W r) (G { (base f).at a' todo with mode:=.returning } []) v':=by
      intro a' v' todo hq
      obtain⟨hd,hr⟩:=hq
      refine aDf rfl fun v1 w he hok hsim hk=>.inr ?_
      obtain⟨x,hx,hb1,hb2⟩:=hr v1 he
      obtain⟨w',es',h1,h2,h3,h4,h5,h6⟩:=eW _ v1 w #[] x v1 hok hsim hx
      have hK':Kp W v1 w':=hk.step h4 h5
      exact⟨x,w',_,aMk rfl hi hd hf h1,fun e he'=>h6 e (by have:=mem_seen he';simpa using this),aOu h2 hK' hb1 hb2⟩
    refine h _ hW (uU W) (base f) [] [] (.inl rfl) fun e a' v' hv' hq=>?_
    cases e with
    | normal =>
      refine aI hW rfl hv' (fun w=>stepG_end) ?_
      exact back a' v' [] hq
    |ret=>exact fun todo=>back a' v' todo hq
    |exit id=>exact hq.elim
    |goto l=>exact hq.elim
    |panic ch=>exact hq.elim
    |outgrown=>exact hq.elim
  refine hwin _ (.refl _) (uU W) (fun _=>False) #[G (CZ P f args .normal) []] W none #[] (fun _=>0) (fun b h=>h.elim) (aMg W) rfl (leavers_one P _) ?_ ?_ (aTh W)
  have h0:cY (fun _=>False)=fun _=>False:=by funext l;cases l<;>rfl
  · rw[h0]
    exact past_nil.mono (A5 _)
  · exact⟨fun i op x hi=>by simp at hi,fun i a ha=>by simp[touchAt,Trace.act?]at ha,fun i op hi=>by simp at hi⟩
end
end Go.Am
end
section
open List renaming map_map→ζ,mapM_map→ξ
namespace Go.Am
open Go.Conc
inductive Tr where
  |leaf
  |node (f:World×World→Tr)
def sJ(a b:Tr):Prop:=∃ f p,b=.node f∧a=f p
theorem aHk(t:Tr):Acc sJ t:=by
  induction t with
  |leaf=>exact⟨_,fun y ⟨f,p,h,_⟩=>by cases h⟩
  |node f ih=>exact⟨_,fun y ⟨g,p,h,e⟩=>by cases h;exact e ▸ ih p⟩
def Tr.nat:Nat→Tr
  |0=>.leaf
  |n+1=>.node fun _=>Tr.nat n
theorem qF(f:World×World→Tr)(p:World×World):sJ (f p) (.node f):=⟨f,p,rfl,rfl⟩
theorem iN(n:Nat):sJ (Tr.nat n) (Tr.nat (n+1)):=⟨_,default,rfl,rfl⟩
def Tr.up(t:Tr):Tr:=.node fun _=>t
structure aBa(Rm:Event→Prop)(v w v' w':World)(es:Array Event):Prop where
  sim:Sim v' w'
  ok:OkV v'
  ext:Ext v v'
  rest:wA v w w'
  evs:∀ e∈es,EvV v' e∨Ee e=true∨Rm e
theorem vZ.q{Rm:Event→Prop}{v w v' w':World}{es:Array Event}(h:vZ v w v' w' es):aBa Rm v w v' w' es:=⟨h.sim,h.ok,h.ext,h.rest,fun e he=>.inl (h.evs e he)⟩
def GT(P:Program)(main:Bool)(I:World→Prop)(Rm:Event→Prop)(Stop:Nat→Goroutine→World→Prop):Tr→Nat→Goroutine→World→Prop
  |.leaf,d,g,v=>Stop d g v
  | .node f,d,g,v=>g.status=.running∧OkV v∧∀ v1 w,Env v v1→Sim v1 w→I w →
      ∃ g' v' w' es,stepG P main g w=.go g' w' es∧aBa Rm v1 w v' w' es∧GT P main I Rm Stop (f (v1,w)) (deafBehind d es) g' v'
def aXm(Stop:Nat→Goroutine→World→Prop):Prop:=∀ d g v v1,Stop d g v→Env v v1→Stop d g v1
theorem bOx{v:World}{e:Event}(h:EvV v e):e.loc≠.mark .disable∧e.loc≠.mark .enable:=by
  rcases h with ⟨a,c,t,f,h1,_⟩|⟨r,o,h1,_⟩|rfl
  · rw[h1];exact⟨by simp,by simp⟩
  · rw[h1];exact⟨by simp,by simp⟩
  · exact⟨by simp,by simp⟩
section
variable {P:Program} {main:Bool} {I:World→Prop} {Rm:Event→Prop} {Stop:Nat→Goroutine→World→Prop}
theorem GT.env(hS:aXm Stop){tr:Tr}{d:Nat}{g:Goroutine}{v v1:World}(h:GT P main I Rm Stop tr d g v)(he:Env v v1):GT P main I Rm Stop tr d g v1:=by
  cases tr with
  |leaf=>exact hS _ _ _ _ h he
  |node f=>exact⟨h.1,he.okV h.2.1,fun v2 w he2 hs hi=>h.2.2 v2 w (he.trans he2) hs hi⟩
def GoW(P:Program)(main:Bool)(I:World→Prop)(Rm:Event→Prop)(Stop:Nat→Goroutine→World→Prop)(g:Goroutine)(v:World):Prop:=∃ tr,GT P main I Rm Stop tr 0 g v
theorem aDj{d:Nat}{g:Goroutine}{v:World}(hr:g.status=.running)(hv:OkV v)
    (h:∀ v1 w,Env v v1→Sim v1 w→I w→∃ g' v' w' es,stepG P main g w=.go g' w' es∧aBa Rm v1 w v' w' es∧∃ tr,GT P main I Rm Stop tr (deafBehind d es) g' v'):∃ tr,GT P main I Rm Stop tr d g v:=by
  classical
  have h':∀ p:World×World,∃ tr:Tr,Env v p.1→Sim p.1 p.2→I p.2→∃ g' v' w' es,stepG P main g p.2=.go g' w' es∧aBa Rm p.1 p.2 v' w' es∧GT P main I Rm Stop tr (deafBehind d es) g' v':=by
    intro p
    by_cases hp:Env v p.1∧Sim p.1 p.2∧I p.2
    · obtain⟨g',v',w',es,h1,h2,tr,h3⟩:=h p.1 p.2 hp.1 hp.2.1 hp.2.2
      exact⟨tr,fun _ _ _=>⟨g',v',w',es,h1,h2,h3⟩⟩
    · exact⟨.leaf,fun a b c=>(hp ⟨a,b,c⟩).elim⟩
  obtain⟨F,hF⟩:=GG h'
  exact⟨.node F,hr,hv,fun v1 w he hs hi=>hF (v1,w) he hs hi⟩
theorem aOk(hS:aXm Stop):aGy P main (GoW P main I Rm Stop) where
  env h he:=by obtain⟨tr,h⟩:=h;exact⟨tr,h.env hS he⟩
  step {g v} hr hv h:=aDj hr hv fun v1 w he hs hi=>by
    obtain⟨g',v',w',es,h1,h2,tr,h3⟩:=h v1 w he hs
    exact⟨g',v',w',es,h1,h2.q,tr,by rw[deafBehind_still fun e hx=>bOx (h2.evs e hx)];exact h3⟩
@[instance_reducible]def jX(P:Program)(main:Bool):Mch P where
  main:=main
  Fam Win:=(∃ I Rm Stop,aXm Stop∧Win=GoW P main I Rm Stop)∨Win=fun _ _=>False
  closed h:=by
    rcases h with ⟨I,Rm,Stop,hS,rfl⟩|rfl
    · exact aOk hS
    · exact wH main
  none:=.inr rfl
theorem Dl.gt{K:Nat→Goroutine→Prop}{d:Nat}{g:Goroutine}(h:Dl P main I Rm K d g):∀{v:World},OkV v→(∀ d g v1,Env v v1→K d g→∃ tr,GT P main I Rm Stop tr d g v1)→∃ tr,GT P main I Rm Stop tr d g v:=by
  induction h with
  |here h=>exact fun _ hK=>hK _ _ _ (.refl _) h
  | step hs hm h _ ih =>
    intro v hv hK
    exact aDj hs hv fun v1 w he hsim hi=>⟨_,v1,w,_,h w hi,⟨hsim,he.okV hv,.refl _,.refl _ _,fun e hx=>.inr (hm e hx)⟩,ih (he.okV hv) fun d g v2 he2 hk=>hK d g v2 (he.trans he2) hk⟩
end
end Go.Am
end
section
open List renaming map_map→ζ,mapM_map→ξ
namespace Go.Am
open Go.Conc
def Unf(v:World)(b:Nat):Prop:=∃ o,v.heap[b]? = some o∧∀ c t,o≠C8 c t (0,c.size)
def pV(v:World)(b:Nat):Prop:=∃ c t,v.heap[b]? = some (.cells c t (0,c.size))
theorem rY{v:World}{b:Nat}(h:v.heap[b]? = some hole):pV v b:=⟨#[],0,h⟩
theorem pV.not_unf{v:World}{b:Nat}(h:pV v b):¬Unf v b:=by
 obtain⟨c,t,h⟩:=h
 rintro⟨o,ho,hn⟩
 rw[h]at ho;exact hn c t (Bg ho).symm
theorem kC{v:World}{b:Nat}(h:v.heap[b]? = some hole):¬Unf v b:=(rY h).not_unf
theorem aEf{v:World}{b:Nat}(h:b<v.heap.size):pV v b∨Unf v b:=by
 classical
 by_cases hw:pV v b
 ·exact .inl hw
 ·exact .inr ⟨_,Ak h,fun c t e=>hw ⟨c,t,by rw[Ak h,e]⟩⟩
def iH(v w':World):World:={ v with heap:=v.heap++AU (w'.heap.size-v.heap.size) hole,drawn:=w'.drawn }
theorem bZ(v w':World):Env v (iH v w'):=⟨rfl,rfl,rfl,_,rfl⟩
theorem zS{v w':World}(h:v.heap.size≤w'.heap.size):(iH v w').heap.size=w'.heap.size:=by simp[iH];omega
theorem qO{v w':World}{b:Nat}(h:b<v.heap.size):(iH v w').heap[b]? = v.heap[b]? := (bZ v w').get h
theorem vL{v w':World}{b:Nat}(h:v.heap.size≤b){o:Obj}(ho:(iH v w').heap[b]? = some o):o=hole:=by
 simp only[iH]at ho
 rw[Cj h]at ho
 have:=BS ho
 rw[Array.mem_replicate]at this
 exact this.2
theorem aDk{v w':World}{b:Nat}:Unf (iH v w') b↔Unf v b:=by
 constructor
 ·rintro⟨o,ho,hn⟩
  rcases Az b v.heap.size with h|h
  ·exact⟨o,by rw[←qO h];exact ho,hn⟩
  ·exact absurd (vL h ho) (by rintro rfl;exact hn #[] 0 rfl)
 ·rintro⟨o,ho,hn⟩
  exact⟨o,by rw[qO (aY ho)];exact ho,hn⟩
theorem kU{v w':World}{b:Nat}(h:v.heap[b]? = some hole):(iH v w').heap[b]? = some hole:=by rw[qO (aY h)];exact h
structure dH(v v':World):Prop where
 size:v.heap.size≤v'.heap.size
 unf:∀ b,b<v.heap.size→(Unf v' b↔Unf v b)
 whole:∀ b c t,b<v.heap.size→(v'.heap[b]? = some (.cells c t (0,c.size))↔v.heap[b]? = some (.cells c t (0,c.size)))
 tape:v'.tape=v.tape
 os:v'.os=v.os
 output:v'.output=v.output
theorem dH.of_env{v v':World}(h:Env v v'):dH v v':=⟨h.size,fun b hb=>by simp only[Unf,h.get hb],fun b c t hb=>by rw[h.get hb],h.tape,h.os,h.output⟩
theorem dH.of_ext{v v':World}(h:Ext v v')(hv:OkV v):dH v v':=by
 have key:∀(b:Nat) (o:Obj),v.heap[b]? = some o→(∃(c:Array Value) (t:TypeId) (f:Nat×Nat),o=C8 c t f∧∃ c':Array Value,v'.heap[b]? = some (C8 c' t f)∧c'.size=c.size∧(f=(0,c.size)→c'=c))∨((∀(c:Array Value) (t:TypeId) (f:Nat×Nat),o≠C8 c t f)∧∃ o':Obj,v'.heap[b]? = some o'∧∀(c:Array Value) (t:TypeId) (f:Nat×Nat),o'≠C8 c t f):=by
  intro b o hb
  by_cases hc:∃(c:Array Value) (t:TypeId) (f:Nat×Nat),o=C8 c t f
  ·obtain⟨c,t,f,rfl⟩:=hc
   exact .inl ⟨c,t,f,rfl,h.cells b c t f hb⟩
  ·have hc':∀ c t f,o≠C8 c t f:=fun c t f e=>hc ⟨c,t,f,e⟩
   obtain⟨o',h1,h2,_⟩:=h.other b o hb hc' (hv b o hb)
   exact .inr ⟨hc',o',h1,h2⟩
 refine⟨h.size,fun b hb=>?_,fun b c t hb=>?_,h.tape,h.os,h.output⟩
 ·obtain⟨o,ho⟩:∃ o,v.heap[b]? = some o:=⟨_,Ak hb⟩
  rcases key b o ho with ⟨c,t,f,rfl,c',h1,h2,h3⟩|⟨h1,o',h2,h3⟩
  ·constructor
   ·rintro⟨o,ho',hn⟩
    rw[h1]at ho';obtain rfl:=Bg ho'
    refine⟨_,ho,fun c2 t2 e=>?_⟩
    injection e with e1 e2 e3;subst e1;subst e3
    have:=h3 rfl;subst this;exact hn _ _ rfl
   ·rintro⟨o,ho',hn⟩
    rw[ho]at ho';obtain rfl:=Bg ho'
    refine⟨_,h1,fun c2 t2 e=>?_⟩
    injection e with e1 e2 e3;subst e1;subst e3
    exact hn c t (by rw[h2])
  ·exact⟨fun _=>⟨o,ho,fun c t=>h1 c t _⟩,fun _=>⟨o',h2,fun c t=>h3 c t _⟩⟩
 ·obtain⟨o,ho⟩:∃ o,v.heap[b]? = some o:=⟨_,Ak hb⟩
  rcases key b o ho with ⟨c0,t0,f,rfl,c',h1,h2,h3⟩|⟨h1,o',h2,h3⟩
  ·rw[h1,ho]
   constructor
   ·intro e;injection e with e;injection e with e1 e2 e3;subst e1;subst e2;subst e3
    have:=h3 (by rw[h2]);subst this;rfl
   ·intro e;injection e with e;injection e with e1 e2 e3;subst e1;subst e2;subst e3
    have:=h3 rfl;subst this;rfl
  ·rw[h2,ho]
   constructor
   ·intro e;exact absurd (Bg e) (h3 _ _ _)
   ·intro e;exact absurd (Bg e) (h1 _ _ _)
theorem dH.trans{v v1 v2:World}(h:dH v v1)(k:dH v1 v2):dH v v2 :=
 ⟨AY h.size k.size,fun b hb=>(k.unf b (A9 hb h.size)).trans (h.unf b hb),fun b c t hb=>(k.whole b c t (A9 hb h.size)).trans (h.whole b c t hb),k.tape.trans h.tape,k.os.trans h.os,k.output.trans h.output⟩
theorem dH.hole{v v':World}(h:dH v v'){b:Nat}(hb:v.heap[b]? = some hole):v'.heap[b]? = some hole:=(h.whole b #[] 0 (aY hb)).2 hb
theorem dH.whole'{v v':World}(h:dH v v'){b:Nat}(hb:pV v b):pV v' b:=by
 obtain⟨c,t,hb⟩:=hb
 exact⟨c,t,(h.whole b c t (aY hb)).2 hb⟩
structure Vws(A:Nat→Prop)(V:Nat→World)(w:World):Prop where
 sim:∀ k,A k→Sim (V k) w
 ok:∀ k,A k→OkV (V k)
 dis:∀ k k',A k→A k'→k≠k'→∀ b,Unf (V k) b→(V k').heap[b]? = some hole
def aBq(V:Nat→World)(k:Nat)(v' w':World)(x:Nat):World:=if x=k then v' else iH (V x) w'
theorem kK(V:Nat→World)(k:Nat)(v' w':World):aBq V k v' w' k=v':=by simp[aBq]
theorem nE(V:Nat→World){k x:Nat}(v' w':World)(h:x≠k):aBq V k v' w' x=iH (V x) w':=by simp[aBq,h]
theorem aDl{v w w':World}(h:Sim v w)(hsz:w.heap.size≤w'.heap.size)(ht:w'.tape=w.tape)(ho:w'.os=w.os)(hp:w'.output=w.output)
  (hb:∀(b:Nat) (o:Obj),v.heap[b]? = some o→o≠hole→w'.heap[b]? = w.heap[b]?):Sim (iH v w') w':=by
 have hs:v.heap.size=w.heap.size:=h.size
 refine⟨by simp[iH,h.tape,ht],rfl,by simp[iH,h.os,ho],by simp[iH,h.output,hp],zS (by omega),fun b o hx=>?_⟩
 rcases Az b v.heap.size with hlt|hge
 ·rw[qO hlt]at hx
  by_cases e:o=hole
  ·exact .inl e
  ·rw[hb b o hx e];exact h.blk b o hx
 ·exact .inl (vL hge hx)
theorem Vws.step{A:Nat→Prop}{V:Nat→World}{w:World}(h:Vws A V w){k:Nat}(hk:A k){Rm:Event→Prop}{v' w':World}{es:Array Event}(hs:aBa Rm (V k) w v' w' es):Vws A (aBq V k v' w') w':=by
 have hsz:(V k).heap.size=w.heap.size:=(h.sim k hk).size
 have hsz':v'.heap.size=w'.heap.size:=hs.sim.size
 have hge:(V k).heap.size≤v'.heap.size:=hs.ext.size
 have hO:=dH.of_ext hs.ext (h.ok k hk)
 have htp:w'.tape=w.tape:=by rw[←hs.sim.tape,hs.ext.tape,(h.sim k hk).tape]
 have hos:w'.os=w.os:=by rw[←hs.sim.os,hs.ext.os,(h.sim k hk).os]
 have hop:w'.output=w.output:=by rw[←hs.sim.output,hs.ext.output,(h.sim k hk).output]
 refine⟨fun x hx=>?_,fun x hx=>?_,fun x y hx hy hne b hu=>?_⟩
 ·by_cases e:x=k
  ·subst e;rw[kK];exact hs.sim
  ·rw[nE V _ _ e]
   refine aDl (h.sim x hx) (by omega) htp hos hop fun b o hb hne=>?_
   have hlt:b<(V k).heap.size:=by rw[hsz,←(h.sim x hx).size];exact aY hb
   rcases aEf hlt with ⟨c,t,hw⟩|hu
   ·exact hs.rest b c t hw
   ·have:=h.dis k x hk hx (Ew e) b hu
    rw[hb]at this;exact absurd (Bg this) hne
 ·by_cases e:x=k
  ·subst e;rw[kK];exact hs.ok
  ·rw[nE V _ _ e];exact(bZ _ _).okV (h.ok x hx)
 ·by_cases e:x=k
  ·subst e
   have ey:y≠x:=Ew hne
   rw[kK]at hu
   rw[nE V _ _ ey]
   rcases Az b (V x).heap.size with hlt|hge'
   ·exact kU (h.dis x y hx hy hne b ((hO.unf b hlt).1 hu))
   ·obtain⟨o,ho,_⟩:=hu
    have hlt:=aY ho
    have hy':(V y).heap.size=w.heap.size:=(h.sim y hy).size
    have hb:b<(iH (V y) w').heap.size:=by rw[zS (by omega)];omega
    have hget:=Ak hb
    have:=vL (v:=V y) (w':=w') (b:=b) (by omega) hget
    rw[hget,this]
  ·rw[nE V _ _ e]at hu
   have hu':=aDk.1 hu
   by_cases ey:y=k
   ·subst ey
    rw[kK]
    exact hO.hole (h.dis x y hx hy hne b hu')
   ·rw[nE V _ _ ey]
    exact kU (h.dis x y hx hy hne b hu')
theorem Vws.aside{A:Nat→Prop}{V:Nat→World}{w w':World}(h:Vws A V w)(hsz:w'.heap.size=w.heap.size)(ht:w'.tape=w.tape)(ho:w'.os=w.os)(hp:w'.output=w.output)
  (hb:∀ k,A k→∀(b:Nat) (o:Obj),(V k).heap[b]? = some o→o≠hole→w'.heap[b]? = w.heap[b]?):Vws A (fun x=>iH (V x) w') w' :=
 ⟨fun k hk=>aDl (h.sim k hk) (by omega) ht ho hp (hb k hk),fun k hk=>(bZ _ _).okV (h.ok k hk),fun k k' hk hk' hne b hu=>kU (h.dis k k' hk hk' hne b (aDk.1 hu))⟩
/-! ### what is handed to a worker -/
def zZ:Obj→Obj
 |.cells c e _=>.cells c e (0,c.size)
 |_=>hole
def jA(v:World):World:={ v with heap:=v.heap.map zZ }
theorem mQ(v:World)(b:Nat):(jA v).heap[b]? = (v.heap[b]?).map zZ:=by simp[jA]
theorem vM(v:World):(jA v).heap.size=v.heap.size:=by simp[jA]
theorem pL(o:Obj):∃ c t,zZ o=.cells c t (0,c.size):=by
 cases o with
 |cells c e f=>exact⟨c,e,rfl⟩
 |_=>exact⟨#[],0,rfl⟩
theorem zX{v:World}{b:Nat}(h:b<v.heap.size):pV (jA v) b:=by
 obtain⟨c,t,e⟩:=pL v.heap[b]
 exact⟨c,t,by rw[mQ,Ak h,AQ,e]⟩
theorem aGb(v:World)(b:Nat):¬Unf (jA v) b:=by
 rintro⟨o,ho,hn⟩
 have hlt:=aY ho
 rw[vM]at hlt
 exact(zX hlt).not_unf ⟨o,ho,hn⟩
theorem zY:zZ hole=hole:=rfl
theorem vN{v:World}{b:Nat}(h:v.heap[b]? = some hole):(jA v).heap[b]? = some hole:=by rw[mQ,h,AQ,zY]
theorem aGa(v:World):OkV (jA v):=fun b o ho=>by
 rw[mQ]at ho
 obtain⟨x,_,rfl⟩:=Af.1 ho
 obtain⟨c,t,e⟩:=pL x
 rw[e];rfl
theorem aKd{v w:World}(h:Sim v w):Sim (jA v) w:=by
 refine⟨h.tape,h.drawn,h.os,h.output,by rw[vM];exact h.size,fun b o ho=>?_⟩
 rw[mQ]at ho
 obtain⟨x,hx,rfl⟩:=Af.1 ho
 cases x with
 | cells c e f =>
  simp only[zZ]
  rcases h.blk b _ hx with e1|e1|⟨c',e',f',e1,e2⟩
  ·injection e1 with e1 e2 e3;subst e1;subst e2;exact .inl rfl
  ·exact .inr (.inr ⟨c,e,f,rfl,e1⟩)
  ·injection e1 with e1 e3 e4;subst e1;subst e3
   exact .inr (.inr ⟨c,e,f',rfl,e2⟩)
 |_=>exact .inl rfl
end Go.Am
end
section
open List renaming map_map→ζ,mapM_map→ξ
namespace Go.Am
open Go.Conc Go.ConcR.Gen Go.Conc.Lib Go.RowKit Go.ConcR
open Go
def cN(ty:TypeId)(Wg:Nat)(w:World):Prop:=∃ st sm,w.heap[Wg]? = some (wgBlock ty st sm)
theorem cN.cell0{ty:TypeId}{Wg:Nat}{w:World}(h:cN ty Wg w):∃ v,w.cell? ⟨Wg,0,none⟩=some v:=by
 obtain⟨st,sm,h⟩:=h
 exact⟨.int .u64 st,by simp[Bs,h,wgBlock]⟩
theorem cN.cell1{ty:TypeId}{Wg:Nat}{w:World}(h:cN ty Wg w):∃ v,w.cell? ⟨Wg,1,none⟩=some v:=by
 obtain⟨st,sm,h⟩:=h
 exact⟨.int .u32 sm,by simp[Bs,h,wgBlock]⟩
def noE:Event→Prop:=fun _=>False
section
variable (P:Program) (L:WgLink) (Wg:Nat)
def bRp(d:Nat)(g:Goroutine):Prop :=
 d=1∧g.status=.running∧mayWake P g=true∧∀ w,w.heap[Wg]? = some (wgBlock L.tWg 0 0)→∃ g',stepG P false g w=.go g' (w.setCell (smA Wg) (.int .u32 1)) (semEvents (smA Wg))∧∃ q,QuitsD P q d g'
def bIh(d:Nat)(g:Goroutine):Prop :=
 d=1∧g.status=.running∧∀ w,w.heap[Wg]? = some (wgBlock L.tWg 1 0)→∃ g',stepG P false g w=.go g' (w.setCell (stA Wg) (.int .u64 0)) #[wr (stA Wg)]∧Dl P false (cN L.tWg Wg) noE (bRp P L Wg) d g'
def bIi(d:Nat)(g:Goroutine):Prop :=
 d=1∧g.status=.running∧∀ w,w.heap[Wg]? = some (wgBlock L.tWg 1 0)→∃ g',stepG P false g w=.go g' w #[rd (stA Wg)]∧Dl P false (cN L.tWg Wg) noE (bIh P L Wg) d g'
def bRo(d:Nat)(g:Goroutine):Prop :=
 g.status=.running∧∀(w:World) (v wt:Nat),wt≤1→v<2147483647→w.heap[Wg]? = some (wgBlock L.tWg (((v:Int)+1)*KK+wt) 0) →
  ∃ g',stepG P false g w=.go g' (w.setCell (stA Wg) (.int .u64 ((v:Int)*KK+wt))) #[rd (stA Wg),wr (stA Wg)] ∧
   ((v=0∧wt=1)→Dl P false (cN L.tWg Wg) noE (bIi P L Wg) d g')∧(¬(v=0∧wt=1)→∃ q,QuitsD P q d g')
def wC(d:Nat)(g:Goroutine):Prop :=
 g.status=.running∧d=0∧∃ g',(∀ w,cN L.tWg Wg w→stepG P false g w=.go g' w #[mk (.releaseMerge (stA Wg))])∧Dl P false (cN L.tWg Wg) noE (fun d g=>d=1∧bRo P L Wg d g) 0 g'
end
def dG(Wg:Nat)(e:Event):Prop:=e=⟨.mark (.read (smA Wg)),false,true⟩∨e=⟨.mark (.write (smA Wg)),false,true⟩
section
variable (P:Program) (L:WgLink) (Wg:Nat)
def aDz(K:Nat→Goroutine→Prop)(d:Nat)(g:Goroutine):Prop :=
 g.status=.running∧∀(w:World) (v:Nat),v<2147483647→w.heap[Wg]? = some (wgBlock L.tWg ((v:Int)*KK) 0) →
  ∃ g',stepG P true g w=.go g' (w.setCell (stA Wg) (.int .u64 (((v:Int)+1)*KK))) #[rd (stA Wg),wr (stA Wg)]∧Dl P true (cN L.tWg Wg) (dG Wg) K d g'
end
section
variable (P:Program) (L:WgLink) (Wg:Nat) (K:Goroutine→Prop)
def bIj(d:Nat)(g:Goroutine):Prop :=
 d=0∧g.status=.running∧∃ g',(∀ w,cN L.tWg Wg w→stepG P true g w=.go g' w #[mk (.acquire (stA Wg))])∧Dl P true (fun _=>True) noE (fun d g=>d=0∧K g) 0 g'
def bRr(d:Nat)(g:Goroutine):Prop :=
 g.status=.running∧∀ w,w.heap[Wg]? = some (wgBlock L.tWg 0 0)→∃ g',stepG P true g w=.go g' w #[rd (stA Wg)]∧Dl P true (cN L.tWg Wg) (dG Wg) (bIj P L Wg K) d g'
def aPy(d:Nat)(g:Goroutine):Prop :=
 g.status=.running∧g.offers=none∧(∀ w st,w.heap[Wg]? = some (wgBlock L.tWg st 0)→stepG P true g w=.go { g with status:=.blocked } w #[]) ∧
  ∀ w,w.heap[Wg]? = some (wgBlock L.tWg 0 1)→∃ g',stepG P true g w=.go g' (w.setCell (smA Wg) (.int .u32 0)) (semEvents (smA Wg))∧Dl P true (cN L.tWg Wg) (dG Wg) (bRr P L Wg K) d g'
def aSq(An:Goroutine→Prop)(vs:Nat)(d:Nat)(g:Goroutine):Prop :=
 g.status=.running∧∀(w:World) (v:Nat),v<2147483648→w.heap[Wg]? = some (wgBlock L.tWg ((v:Int)*KK) 0) →
  (v=vs→∃ g',stepG P true g w=.go g' (w.setCell (stA Wg) (.int .u64 ((v:Int)*KK+1))) #[rd (stA Wg),wr (stA Wg)]∧Dl P true (cN L.tWg Wg) (dG Wg) (aPy P L Wg K) d g') ∧
  (v≠vs→∃ g',stepG P true g w=.go g' w #[rd (stA Wg)]∧Dl P true (cN L.tWg Wg) (dG Wg) (fun d' g=>d'=d∧An g) d g')
def xD(An:Goroutine→Prop)(d:Nat)(g:Goroutine):Prop :=
 g.status=.running∧∀(w:World) (v:Nat),v<2147483648→w.heap[Wg]? = some (wgBlock L.tWg ((v:Int)*KK) 0) →
  ∃ g',stepG P true g w=.go g' w #[rd (stA Wg)]∧(v=0→Dl P true (cN L.tWg Wg) (dG Wg) (bIj P L Wg K) d g')∧(v≠0→Dl P true (cN L.tWg Wg) (dG Wg) (fun d' g=>d'=d∧aSq P L Wg K An v d' g) d g')
def aBg(c:Frame)(cs:List Frame)(g:Goroutine):Prop :=
 ∃ T:Array Value,g=G ((base L.wait).at ⟨T,[]⟩ [.code (L7 L),.inLoop (L7 L),.inBlock 0]) (c::cs)∧T.size=84∧T[0]? = some (.pointer (some ⟨Wg,0,none⟩))
end
end Go.Am
end
section
open List renaming map_map→ζ,mapM_map→ξ
namespace Go.Am
open Go.Conc
open Go.ConcN (CT Apart Ok0 OkW PermW)
open Go.ConcR (stA smA)
structure Pl where
 C:Nat
 wd:Nat
 n:Nat
 ety:TypeId
 val:Nat→Nat→Value
 pos:0<wd
 tot:Nat
 le:n*wd≤tot
def Pl.cell(p:Pl)(i r:Nat):Addr:=⟨p.C,i*p.wd+r,none⟩
def nJ:Loc→Option Nat
 |.cell a=>some a.block
 |.obj r=>some r
 |_=>none
section
variable (p:Pl) (m j:Nat) (V:Nat→World)
def sL(k:Nat)(l:Loc):Prop:=m≤k∧k<m+j∧((∃ b,nJ l=some b∧Unf (V k) b)∨∃ r,r<p.wd∧l=.cell (p.cell (k-m) r))
def RdF(k:Nat)(l:Loc):Prop:=m≤k∧k<m+j∧∃(a:Addr) (c:Array Value) (t:TypeId),l=.cell a∧(V k).heap[a.block]? = some (.cells c t (0,c.size))∧a.off<c.size
end
def gB(m j k:Nat):Prop:=k=0∨(m≤k∧k<m+j)
theorem uK{p:Pl}{m j:Nat}{V:Nat→World}{w:World}{S:Nat→Prop}(hv:Vws (gB m j) V w)(hm:1≤m)(hC:∀ k,gB m j k→(V k).heap[p.C]? = some hole)(hS:∀ k,gB m j k→∀ b,S b→(V k).heap[b]? = some hole)(hCS:¬S p.C) :
  Apart (cY S) (sL p m j V) (RdF m j V) where
 own k k' l h h':=by
  obtain⟨a1,a2,h⟩:=h
  obtain⟨b1,b2,h'⟩:=h'
  by_cases hne:k=k'
  ·exact hne
  rcases h with ⟨b,e,hu⟩|⟨r,hr,e⟩<;>rcases h' with ⟨b',e',hu'⟩|⟨r',hr',e'⟩
  ·rw[e]at e';obtain rfl:=Bg e'
   exact absurd hu' (kC (hv.dis k k' (.inr ⟨a1,a2⟩) (.inr ⟨b1,b2⟩) hne b hu))
  ·subst e';simp only[nJ,At,Pl.cell]at e;subst e
   exact absurd hu (kC (hC k (.inr ⟨a1,a2⟩)))
  ·subst e;simp only[nJ,At,Pl.cell]at e';subst e'
   exact absurd hu' (kC (hC k' (.inr ⟨b1,b2⟩)))
  ·subst e
   simp only[Pl.cell,Loc.cell.injEq,Addr.mk.injEq,and_true,true_and]at e'
   have h1:(r+p.wd*(k-m))/p.wd=k-m:=by rw[Nat.add_mul_div_left _ _ (by omega),Ej hr];omega
   have h2:(r'+p.wd*(k'-m))/p.wd=k'-m:=by rw[Nat.add_mul_div_left _ _ (by omega),Ej hr'];omega
   have h3:r+p.wd*(k-m)=r'+p.wd*(k'-m):=by rw[BJ,BJ p.wd];omega
   rw[h3,h2]at h1;omega
 ownRd k k' l h h':=by
  obtain⟨a1,a2,h⟩:=h
  obtain⟨b1,b2,a,c,t,rfl,hw,hlt⟩:=h'
  rcases h with ⟨b,e,hu⟩|⟨r,hr,e⟩
  ·simp only[nJ,At]at e;subst e
   by_cases hne:k=k'
   ·subst hne;exact pV.not_unf ⟨c,t,hw⟩ hu
   ·have:=hv.dis k k' (.inr ⟨a1,a2⟩) (.inr ⟨b1,b2⟩) hne _ hu
    rw[hw]at this;injection this with this;injection this with e1 _ _;subst e1;simp at hlt
  ·injection e with e;subst e
   rw[show(p.cell (k-m) r).block=p.C from rfl,hC k' (.inr ⟨b1,b2⟩)]at hw
   injection hw with hw;injection hw with e1 _ _;subst e1;simp at hlt
 ownSh k l h hs:=by
  obtain⟨a1,a2,h⟩:=h
  cases l with
  | cell a =>
   rcases h with ⟨b,e,hu⟩|⟨r,hr,e⟩
   ·simp only[nJ,At]at e;subst e
    exact kC (hS k (.inr ⟨a1,a2⟩) _ hs) hu
   ·injection e with e;subst e;exact hCS hs
  |_=>exact hs
 rdSh k l h hs:=by
  obtain⟨b1,b2,a,c,t,rfl,hw,hlt⟩:=h
  rw[hS k (.inr ⟨b1,b2⟩) _ hs]at hw
  injection hw with hw;injection hw with e1 _ _;subst e1;simp at hlt
/-! ### the trace -/
def vY(t:Trace)(l:Loc):Prop:=∀ i a,touchAt t i=some a→a.loc≠l
theorem aCf{x:MemAct}{B:Nat}{a:Touch}(h:x.low B)(ha:x.touch? = some a):a.loc.low B:=by
 cases x with
 |access e=>simp only[Bu,At]at ha;subst ha;exact h
 |mark mk=>cases mk<;>simp[Bu]at ha<;>subst ha<;>exact h
 |_=>simp[Bu]at ha
theorem sR{t:Trace}{B:Nat}(h:∀ op∈t,op.act.low B){l:Loc}{b:Nat}(hl:nJ l=some b)(hb:B≤b):vY t l:=by
 intro i a ha e
 obtain⟨op,hop,hoa⟩:=touch_of ha
 have:=aCf (h op (BS hop)) hoa
 rw[e]at this
 cases l<;>simp[nJ]at hl<;>subst hl<;>simp only[Loc.low]at this<;>omega
theorem CT.grow{Sh:Loc→Prop}{Own Own' Rd Rd':Nat→Loc→Prop}{t:Trace}{j:Nat}(h:CT Sh Own Rd t j)(ho:∀ k l,1≤k→k≤j→Own k l→Own' k l)(hr:∀ k l,1≤k→k≤j→Rd k l→Rd' k l)
  (hf:∀ k l,1≤k→k≤j→Own' k l→Own k l∨vY t l) (hg:∀ k l,1≤k→k≤j→Rd' k l→Rd k l∨vY t l):CT Sh Own' Rd' t j where
 quiet:=h.quiet
 own k h1 h2 l hl:=by
  rcases hf k l h1 h2 hl with h3|h3
  ·exact h.own k h1 h2 l h3
  ·exact fun i a ha e=>(h3 i a ha e).elim
 rd k h1 h2 l hl:=by
  rcases hg k l h1 h2 hl with h3|h3
  ·exact h.rd k h1 h2 l h3
  ·exact fun i a ha e _=>(h3 i a ha e).elim
 free l hs hn:=h.free l hs fun k h1 h2=>⟨fun x=>(hn k h1 h2).1 (ho k l h1 h2 x),fun x=>(hn k h1 h2).2 (hr k l h1 h2 x)⟩
 mine l hs hn:=h.mine l hs fun k h1 h2 x=>hn k h1 h2 (ho k l h1 h2 x)
 nr:=h.nr
 gs:=h.gs
theorem aAk{p:Pl}{m j N:Nat}{V V':Nat→World}{t:Trace}{S:Nat→Prop}{B:Nat}(h:CT (cY S) (sL p m j V) (RdF m j V) t N)(hB:∀ op∈t,op.act.low B)(hsz:∀ k,m≤k→k<m+j→(V k).heap.size=B)(hO:∀ k,m≤k→k<m+j→dH (V k) (V' k)) :
  CT (cY S) (sL p m j V') (RdF m j V') t N:=by
 refine CT.grow h (fun k l _ _ ⟨a1,a2,hl⟩=>⟨a1,a2,?_⟩) (fun k l _ _ ⟨a1,a2,a,c,ty,e,hw,hlt⟩=>⟨a1,a2,a,c,ty,e,?_,hlt⟩) (fun k l _ _ ⟨a1,a2,hl⟩=>?_) (fun k l _ _ ⟨a1,a2,a,c,ty,e,hw,hlt⟩=>?_)
 ·rcases hl with ⟨b,e,hu⟩|hl
  ·exact .inl ⟨b,e,((hO k a1 a2).unf b (let ⟨_,ho,_⟩:=hu;aY ho)).2 hu⟩
  ·exact .inr hl
 ·exact((hO k a1 a2).whole _ c ty (aY hw)).2 hw
 ·rcases hl with ⟨b,e,hu⟩|hl
  ·rcases Az b B with hlt|hge
   ·exact .inl ⟨a1,a2,.inl ⟨b,e,((hO k a1 a2).unf b (by rw[hsz k a1 a2];exact hlt)).1 hu⟩⟩
   ·exact .inr (sR hB e hge)
  ·exact .inl ⟨a1,a2,.inr hl⟩
 ·rcases Az a.block B with hlt'|hge
  ·exact .inl ⟨a1,a2,a,c,ty,e,((hO k a1 a2).whole _ c ty (by rw[hsz k a1 a2];exact hlt')).1 hw,hlt⟩
  ·exact .inr (sR hB (by rw[e];rfl) hge)
theorem bMm{p:Pl}{m j k:Nat}{V:Nat→World}{S:Nat→Prop}(hk:m≤k)(hkj:k<m+j){e:Event}(h:EvV (V k) e)(fn:FuncId)(pos:String):OkW (cY S) (sL p m j V) (RdF m j V) k { g:=k,fn,pos,act:=.ofEvent e }:=by
 refine⟨rfl,fun x hx=>?_⟩
 obtain⟨loc,wr,sy⟩:=e
 rcases h with ⟨a,c,t,f,h1,h2,h3,h4,h5⟩|⟨r,o,h1,h2,h3,h4,h5⟩|h
 ·simp only at h1 h2 h3 h5;subst h1;subst h2
  simp[A7,Bu]at hx;subst hx
  by_cases hf:f=(0,c.size)
  ·subst hf
   refine .inr (.inr ⟨⟨hk,hkj,a,c,t,rfl,h3,h4⟩,?_⟩)
   cases wr with
   |false=>rfl
   |true=>exact absurd rfl (h5 rfl)
  ·refine .inr (.inl ⟨hk,hkj,.inl ⟨a.block,rfl,_,h3,fun c2 t2 e=>?_⟩⟩)
   injection e with e1 e2 e3;subst e1;exact hf e3
 ·simp only at h1 h2 h3;subst h1;subst h2
  simp[A7,Bu]at hx;subst hx
  exact .inr (.inl ⟨hk,hkj,.inl ⟨r,rfl,o,h3,fun c t=>h4 c t _⟩⟩)
 ·injection h with e1 e2 e3;subst e1;subst e2;subst e3
  simp[A7,Bu]at hx
theorem bMn{p:Pl}{m j N:Nat}{V:Nat→World}{w:World}{S:Nat→Prop}(hv:Vws (gB m j) V w)(hm:1≤m)(hC:(V 0).heap[p.C]? = some hole)(hS:∀ b,S b→(V 0).heap[b]? = some hole){e:Event}(h:EvV (V 0) e)(fn:FuncId)(pos:String) :
  Ok0 (cY S) (sL p m j V) (RdF m j V) N { g:=0,fn,pos,act:=.ofEvent e }:=by
 refine⟨rfl,fun x hx=>?_⟩
 obtain⟨loc,wr,sy⟩:=e
 have key:∀ k b,m≤k→k<m+j→∀ o,(V 0).heap[b]? = some o→o≠hole→¬Unf (V k) b:=fun k b h1 h2 o ho hne hu=>by
  have:=hv.dis k 0 (.inr ⟨h1,h2⟩) (.inl rfl) (by omega) b hu
  rw[ho]at this;exact hne (Bg this)
 rcases h with ⟨a,c,t,f,h1,h2,h3,h4,h5⟩|⟨r,o,h1,h2,h3,h4,h5⟩|h
 ·simp only at h1 h2 h3 h5;subst h1;subst h2
  simp[A7,Bu]at hx;subst hx
  have hne:C8 c t f≠hole:=by intro e;injection e with e1 _ _;subst e1;simp at h4
  refine .inr ⟨fun hs=>?_,fun k _ _ ⟨a1,a2,ho⟩=>?_,fun hw k _ _ ⟨a1,a2,a',c',t',e,hw',hlt⟩=>?_⟩
  ·rw[hS a.block hs]at h3;exact hne (Bg h3).symm
  ·rcases ho with ⟨b,e,hu⟩|⟨r,hr,e⟩
   ·simp only[nJ,At]at e;subst e
    exact key k _ a1 a2 _ h3 hne hu
   ·injection e with e;subst e
    rw[show(p.cell (k-m) r).block=p.C from rfl,hC]at h3;exact hne (Bg h3).symm
  ·injection e with e;subst e
   have hu:Unf (V 0) a.block:=⟨_,h3,fun c2 t2 e=>by injection e with e1 e2 e3;subst e1;exact h5 hw e3⟩
   have:=hv.dis 0 k (.inl rfl) (.inr ⟨a1,a2⟩) (by omega) _ hu
   rw[hw']at this;injection this with this;injection this with e1 _ _;subst e1;simp at hlt
 ·simp only at h1 h2 h3;subst h1;subst h2
  simp[A7,Bu]at hx;subst hx
  have hne:o≠hole:=fun e=>h4 _ _ _ e
  refine .inr ⟨fun hs=>hs.elim,fun k _ _ ⟨a1,a2,ho⟩=>?_,fun hw k _ _ ⟨a1,a2,a',c',t',e,_⟩=>by cases e⟩
  rcases ho with ⟨b,e,hu⟩|⟨r',hr,e⟩
  ·simp only[nJ,At]at e;subst e
   exact key k _ a1 a2 _ h3 hne hu
  ·cases e
 ·injection h with e1 e2 e3;subst e1;subst e2;subst e3
  simp[A7,Bu]at hx
theorem aRl{v:World}{B:Nat}(hB:v.heap.size≤B){e:Event}(h:EvV v e):(A7 e).low B:=by
 exact(nP (S:=fun _=>False) (fun _ x=>x.elim) hB h).2.2.2
end Go.Am
end
section
open List renaming map_map→ζ,mapM_map→ξ
namespace Go.Am
open Go.Conc Go.Conc.Lib
open Go.ConcN (CT Apart Ok0 OkW PermW RelBy CTag phi Mode WD Vc Ssum sumTo upd upd_same upd_ne)
open Go.ConcR (KK wgBlock stA smA rd wr mk)
section
variable (P:Program) (L:WgLink) (Wg:Nat) (p:Pl)
def aXj(w:World):Prop:=∃(cs:Array Value) (f:Nat×Nat),w.heap[p.C]? = some (.cells cs p.ety f)∧cs.size=p.tot∧(cs.size≠0→f=(0,0))
structure bYr(i:Nat)(w w':World):Prop where
 tape:w'.tape=w.tape
 os:w'.os=w.os
 output:w'.output=w.output
 size:w'.heap.size=w.heap.size
 block:∀ b,b≠p.C→w'.heap[b]? = w.heap[b]?
 pay:aXj p w'
 cells:∀ o,(o<i*p.wd∨(i+1)*p.wd≤o)→w'.cell? ⟨p.C,o,none⟩=w.cell? ⟨p.C,o,none⟩
 new:∀ r,r<p.wd→w'.cell? (p.cell i r)=some (p.val i r)
def bRq(i:Nat)(d:Nat)(g:Goroutine):Prop :=
 d=0∧g.status=.running∧∀ w,aXj p w→∃ g' w' es,stepG P false g w=.go g' w' es∧bYr p i w w'∧(∀ e∈es,∃ r,r<p.wd∧e=⟨.cell (p.cell i r),true,false⟩)∧Dl P false (cN L.tWg Wg) noE (wC P L Wg) 0 g'
abbrev GTw(i:Nat):=GT P false (fun _=>True) noE (fun d g _=>bRq P L Wg p i d g)
inductive WS(i:Nat):Nat→Tr→Nat→Goroutine→World→Prop
 |work {tr:Tr} {d:Nat} {g:Goroutine} {v:World}:GTw P L Wg p i tr d g v→WS i 7 tr d g v
 |rel {n d:Nat} {g:Goroutine} {v:World}:DlN P false (cN L.tWg Wg) noE (wC P L Wg) n d g→WS i 6 (Tr.nat n) d g v
 |sub {n d:Nat} {g:Goroutine} {v:World}:DlN P false (cN L.tWg Wg) noE (fun d g=>d=1∧bRo P L Wg d g) n d g→WS i 5 (Tr.nat n) d g v
 |look {n d:Nat} {g:Goroutine} {v:World}:DlN P false (cN L.tWg Wg) noE (bIi P L Wg) n d g→WS i 4 (Tr.nat n) d g v
 |zero {n d:Nat} {g:Goroutine} {v:World}:DlN P false (cN L.tWg Wg) noE (bIh P L Wg) n d g→WS i 3 (Tr.nat n) d g v
 |sem {n d:Nat} {g:Goroutine} {v:World}:DlN P false (cN L.tWg Wg) noE (bRp P L Wg) n d g→WS i 2 (Tr.nat n) d g v
 |quit {n d:Nat} {g:Goroutine} {v:World}:QuitsD P n d g→WS i 1 (Tr.nat n) d g v
abbrev GTm(Stop:Nat→Goroutine→World→Prop):=GT P true (cN L.tWg Wg) (dG Wg) Stop
def aXn(i:Nat)(Next:Goroutine→World→Prop)(d:Nat)(g:Goroutine)(v:World):Prop :=
 d=0∧g.status=.running∧∀ v1,Env v v1→∃ g' child,(∀ w,Sim v1 w→cN L.tWg Wg w→stepG P true g w=.spawn g' child w #[])∧child.status=.running∧(∃ tr,GTw P L Wg p i tr 0 child (jA v1))∧Next g' (jA v1)
def aSl(i:Nat)(Next:Goroutine→World→Prop)(d:Nat)(g:Goroutine)(v:World):Prop :=
 d=1∧aDz P L Wg (fun d' g'=>∀ v1,Env v v1→OkV v1→∃ tr,GTm P L Wg (aXn P L Wg p i Next) tr d' g' v1) d g
variable (K An:Goroutine→Prop)
def aLh(d:Nat)(g:Goroutine)(_:World):Prop:=d=1∧xD P L Wg K An d g
def rA:Nat→Goroutine→World→Prop
 |0,g,v=>∃ tr,GTm P L Wg (aLh P L Wg K An) tr 0 g v
 |r+1,g,v=>∃ tr,GTm P L Wg (aSl P L Wg p (p.n-(r+1)) (rA r)) tr 0 g v
inductive CS:CTag→Nat→Tr→Nat→Goroutine→World→Prop
 |a1 {r:Nat} {tr:Tr} {d:Nat} {g:Goroutine} {v:World}:r<p.n→GTm P L Wg (aSl P L Wg p (p.n-(r+1)) (rA P L Wg p K An r)) tr d g v→CS (.sp r 4) (p.n-(r+1)) tr d g v
 |go {r:Nat} {tr:Tr} {d:Nat} {g:Goroutine} {v:World}:r<p.n→GTm P L Wg (aXn P L Wg p (p.n-(r+1)) (rA P L Wg p K An r)) tr d g v→CS (.sp r 3) (p.n-(r+1)) tr d g v
 |w1 {tr:Tr} {d:Nat} {g:Goroutine} {v:World}:GTm P L Wg (aLh P L Wg K An) tr d g v→CS .w1 p.n tr d g v
 |w2 {vs n d:Nat} {g:Goroutine} {v:World}:DlN P true (cN L.tWg Wg) (dG Wg) (fun d g=>d=1∧aSq P L Wg K An vs d g) n d g→CS (.w2 vs) p.n (Tr.nat n) d g v
 |w3 {n d:Nat} {g:Goroutine} {v:World}:DlN P true (cN L.tWg Wg) (dG Wg) (aPy P L Wg K) n d g→CS .w3 p.n (Tr.nat (n+1)) d g v
 |blk {r:Tr} {d:Nat} {g:Goroutine} {v:World}:aPy P L Wg K d g→CS .blk p.n r d { g with status:=.blocked } v
 |w4 {n d:Nat} {g:Goroutine} {v:World}:DlN P true (cN L.tWg Wg) (dG Wg) (bRr P L Wg K) n d g→CS .w4 p.n (Tr.nat n) d g v
 |acq {n d:Nat} {g:Goroutine} {v:World}:DlN P true (cN L.tWg Wg) (dG Wg) (bIj P L Wg K) n d g→CS .acq p.n (Tr.nat n) d g v
 |ret {n d:Nat} {g:Goroutine} {v:World}:DlN P true (fun _=>True) noE (fun d g=>d=0∧K g) n d g→CS .ret p.n (Tr.nat n) d g v
end
section
variable {P:Program} {L:WgLink} {Wg:Nat} {p:Pl} {K An:Goroutine→Prop}
theorem GTw.env'{i:Nat}{tr:Tr}{d:Nat}{g:Goroutine}{v v1:World}(h:GTw P L Wg p i tr d g v)(he:Env v v1):GTw P L Wg p i tr d g v1:=GT.env (fun _ _ _ _ h _=>h) h he
theorem WS.env{i s d:Nat}{r:Tr}{g:Goroutine}{v v1:World}(h:WS P L Wg p i s r d g v)(he:Env v v1):WS P L Wg p i s r d g v1:=by
 cases h with
 |work h=>exact .work (h.env' he)
 |rel h=>exact .rel h
 |sub h=>exact .sub h
 |look h=>exact .look h
 |zero h=>exact .zero h
 |sem h=>exact .sem h
 |quit h=>exact .quit h
theorem aKz{i:Nat}{N:Goroutine→World→Prop}:aXm (aXn P L Wg p i N):=fun _ _ _ _ h he=>⟨h.1,h.2.1,fun v2 he2=>h.2.2 v2 (he.trans he2)⟩
theorem aAv{K K':Nat→Goroutine→Prop}(hK:∀ d g,K d g→K' d g){d:Nat}{g:Goroutine}(h:aDz P L Wg K d g):aDz P L Wg K' d g :=
 ⟨h.1,fun w v hv hw=>let ⟨g',h1,h2⟩:=h.2 w v hv hw;⟨g',h1,h2.mono hK⟩⟩
theorem aCh{i:Nat}{N:Goroutine→World→Prop}:aXm (aSl P L Wg p i N):=fun _ _ _ _ h he=>⟨h.1,aAv (fun _ _ hk v2 he2 ho=>hk v2 (he.trans he2) ho) h.2⟩
theorem uV:aXm (aLh P L Wg K An):=fun _ _ _ _ h _=>h
theorem CS.env{tag:CTag}{j d:Nat}{r:Tr}{g:Goroutine}{v v1:World}(h:CS P L Wg p K An tag j r d g v)(he:Env v v1):CS P L Wg p K An tag j r d g v1:=by
 cases h with
 |a1 hr h=>exact .a1 hr (h.env aCh he)
 |go hr h=>exact .go hr (h.env aKz he)
 |w1 h=>exact .w1 (h.env uV he)
 |w2 h=>exact .w2 h
 |w3 h=>exact .w3 h
 |blk h=>exact .blk h
 |w4 h=>exact .w4 h
 |acq h=>exact .acq h
 |ret h=>exact .ret h
theorem DlN.run{main:Bool}{I:World→Prop}{Rm:Event→Prop}{K:Nat→Goroutine→Prop}(hK:∀ d g,K d g→g.status=.running){n d:Nat}{g:Goroutine}(h:DlN P main I Rm K n d g):g.status=.running:=by
 rcases h.cases with h|⟨_,_,h,_⟩
 ·exact hK _ _ h
 ·exact h
theorem GT.run{main:Bool}{I:World→Prop}{Rm:Event→Prop}{Stop:Nat→Goroutine→World→Prop}(hK:∀ d g v,Stop d g v→g.status=.running){tr:Tr}{d:Nat}{g:Goroutine}{v:World}(h:GT P main I Rm Stop tr d g v):g.status=.running:=by
 cases tr with
 |leaf=>exact hK _ _ _ h
 |node f=>exact h.1
theorem WS.status{i s d:Nat}{r:Tr}{g:Goroutine}{v:World}(h:WS P L Wg p i s r d g v):(g.status=.running)∨(g.status=.finished∧s=1):=by
 cases h with
 |work h=>exact .inl (h.run fun _ _ _ h=>h.2.1)
 |rel h=>exact .inl (h.run fun _ _ h=>h.1)
 |sub h=>exact .inl (h.run fun _ _ h=>h.2.1)
 |look h=>exact .inl (h.run fun _ _ h=>h.2.1)
 |zero h=>exact .inl (h.run fun _ _ h=>h.2.1)
 |sem h=>exact .inl (h.run fun _ _ h=>h.2.1)
 |quit h=>exact h.status.elim .inl fun x=>.inr ⟨x,rfl⟩
theorem WS.woken{i s d:Nat}{r:Tr}{g:Goroutine}{v:World}(h:WS P L Wg p i s r d g v)(a a':Goroutine)(w':World):woken P a a' w' g=g:=by
 unfold Go.Conc.woken
 split
 ·exact again_running _ (h.status.elim .inl fun x=>.inr x.1)
 ·rfl
theorem CS.status(hK:∀ g,K g→g.status=.running){tag:CTag}{j d:Nat}{r:Tr}{g:Goroutine}{v:World}(h:CS P L Wg p K An tag j r d g v):(g.status=.running∧tag≠.blk)∨(g.status=.blocked∧tag=.blk):=by
 cases h with
 |a1 hr h=>exact .inl ⟨h.run fun _ _ _ h=>h.2.1,by simp⟩
 |go hr h=>exact .inl ⟨h.run fun _ _ _ h=>h.2.1,by simp⟩
 |w1 h=>exact .inl ⟨h.run fun _ _ _ h=>h.2.1,by simp⟩
 |w2 h=>exact .inl ⟨h.run fun _ _ h=>h.2.1,by simp⟩
 |w3 h=>exact .inl ⟨h.run fun _ _ h=>h.1,by simp⟩
 |blk h=>exact .inr ⟨rfl,rfl⟩
 |w4 h=>exact .inl ⟨h.run fun _ _ h=>h.1,by simp⟩
 |acq h=>exact .inl ⟨h.run fun _ _ h=>h.2.1,by simp⟩
 |ret h=>exact .inl ⟨h.run fun _ _ h=>hK _ h.2,by simp⟩
theorem CS.wokenBy(hK:∀ g,K g→g.status=.running){tag:CTag}{j d:Nat}{r:Tr}{a:Goroutine}{v:World}(h:CS P L Wg p K An tag j r d a v)(g g':Goroutine)(w':World) :
  ∃ tag' r',CS P L Wg p K An tag' j r' d (woken P g g' w' a) v∧(tag'=tag∨(tag=.blk∧tag'=.w3))∧(mayWake P g=true→g'.status=.running→tag'≠.blk):=by
 unfold Go.Conc.woken
 split
 ·rcases h.status hK with ⟨hs,hne⟩|⟨_,rfl⟩
  ·exact⟨tag,r,by rw[again_running _ (.inl hs)];exact h,.inl rfl,fun _ _=>hne⟩
  ·cases h with
   | blk hb =>
    exact⟨.w3,Tr.nat (0+1),by rw[Go.ConcR.again_blocked hb.1 hb.2.1];exact .w3 (n:=0) hb,.inr ⟨rfl,rfl⟩,fun _ _=>by simp⟩
 ·rename_i hc
  exact⟨tag,r,h,.inl rfl,fun h1 h2=>absurd (by simp[h1,h2]) hc⟩
end
end Go.Am
end
section
open List renaming map_map→ζ,mapM_map→ξ
namespace Go.Am
open Go.Conc Go.Conc.Lib
open Go.ConcN (CT Apart Ok0 OkW PermW RelBy CTag phi Mode WD Vc Ssum sumTo)
open Go.ConcR (KK wgBlock stA smA rd wr mk)
def ShW(S:Nat→Prop)(Wg b:Nat):Prop:=S b∨b=Wg
structure Com(P:Program)(L:WgLink)(Wg:Nat)(p:Pl)(S:Nat→Prop)(w0:World)(m j:Nat)(gs:Array Goroutine)(w:World)(t:Trace)(D:Nat→WD)(R:Nat→Tr)(V:Nat→World)(d0:Nat):Prop where
 mpos:1≤m
 size:gs.size=m+j
 wk:∀ i,i<j→∃ g,gs[m+i]? = some g∧WS P L Wg p i (D i).stage (R (m+i)) (D i).deaf g (V (m+i))
 old:∀ i,0<i→i<m→∃ g q,gs[i]? = some g∧R i=Tr.nat q∧QuitsD P q (Deaf t i) g
 above:∀ i,m+j≤i→Deaf t i=0
 ct:CT (cY (ShW S Wg)) (sL p m j V) (RdF m j V) t (m+j-1)
 norel:NoRelease (stA Wg) t
 deaf0:Deaf t 0=d0
 deafW:∀ i,i<j→Deaf t (m+i)=(D i).deaf
 rel:∀ i,i<j→(D i).stage≤5→∃ r,RelBy (stA Wg) t (m+i) r
 has:∀ i,i<j→(D i).stage≤6→∀ r,r<p.wd→w.cell? (p.cell i r)=some (p.val i r)
 pay:aXj p w
 vws:Vws (gB m j) V w
 low:∀ k,gB m j k→∀ b,b≤Wg→pV (V k) b
 hC:∀ k,gB m j k→(V k).heap[p.C]? = some hole
 hS:∀ k,gB m j k→∀ b,ShW S Wg b→(V k).heap[b]? = some hole
 stay:∀ b,b<Wg→(b≠p.C∨p.tot=0)→w.heap[b]? = w0.heap[b]?
 like:w.tape=w0.tape∧w.os=w0.os∧w.output=w0.output
 kn:∀ i a,touchAt t i=some a→Knows t 0 i∨(cY (ShW S Wg) a.loc∧a.kind=.atomic)∨((∃ g,t.g? i=some g∧m≤g)∧a.kind≠.atomic)
 mem:∀ i a,touchAt t i=some a→a.loc.isMemory=true
 over:∀ i g,t.g? i=some g→g≠0→g<m→t.counts i→∃ q,t.g? q=some 0∧HappensBefore t i q
 seen:∀ op∈t,op.act.low w.heap.size
structure Geo(Wg:Nat)(p:Pl)(S:Nat→Prop):Prop where
 C:p.C<Wg
 S:¬S p.C
section
variable {P:Program} {L:WgLink} {Wg:Nat} {p:Pl} {S:Nat→Prop} {w0:World} {m j:Nat} {gs:Array Goroutine} {w w':World} {t u:Trace} {D:Nat→WD} {R:Nat→Tr} {V V':Nat→World} {d0:Nat}
theorem Com.apart(h:Com P L Wg p S w0 m j gs w t D R V d0)(G:Geo Wg p S):Apart (cY (ShW S Wg)) (sL p m j V) (RdF m j V) :=
 uK h.vws h.mpos h.hC h.hS fun hs=>hs.elim G.S fun e=>by have:=G.C;omega
theorem aFx(h:∀ i a,touchAt t i=some a→Knows t 0 i∨(cY (ShW S Wg) a.loc∧a.kind=.atomic)∨((∃ g,t.g? i=some g∧m≤g)∧a.kind≠.atomic))
  (hu:∀ op∈u,∀ a,op.act.touch? = some a→op.g=0∨(cY (ShW S Wg) a.loc∧a.kind=.atomic)∨(m≤op.g∧a.kind≠.atomic)) :
  ∀ i a,touchAt (t++u) i=some a→Knows (t++u) 0 i∨(cY (ShW S Wg) a.loc∧a.kind=.atomic)∨((∃ g,(t++u).g? i=some g∧m≤g)∧a.kind≠.atomic):=by
 intro i a ha
 obtain⟨x,hx,hxa⟩:=touch_of ha
 rcases getElem?_append_cases hx with ⟨hi,hx'⟩|⟨_,hxu⟩
 ·rcases h i a (by rw[touchAt_of hx'];exact hxa)with h1|h1|⟨⟨g,h1,h2⟩,h3⟩
  ·exact .inl (h1.app u)
  ·exact .inr (.inl h1)
  ·exact .inr (.inr ⟨⟨g,by simpa[Gc,getElem?_append_old hi]using h1,h2⟩,h3⟩)
 ·rcases hu x hxu a hxa with h1|h1|⟨h1,h2⟩
  ·have:=knows_own hx
   rw[h1]at this
   exact .inl this
  ·exact .inr (.inl h1)
  ·exact .inr (.inr ⟨⟨x.g,by simp[Gc,hx],h1⟩,h2⟩)
theorem xP(h:∀ i a,touchAt t i=some a→a.loc.isMemory=true)(hu:∀ op∈u,∀ a,op.act.touch? = some a→a.loc.isMemory=true):∀ i a,touchAt (t++u) i=some a→a.loc.isMemory=true:=by
 intro i a ha
 obtain⟨x,hx,hxa⟩:=touch_of ha
 rcases getElem?_append_cases hx with ⟨_,hx'⟩|⟨_,hxu⟩
 ·exact h i a (by rw[touchAt_of hx'];exact hxa)
 ·exact hu x hxu a hxa
theorem tD(h:∀ i g,t.g? i=some g→g≠0→g<m→t.counts i→∃ q,t.g? q=some 0∧HappensBefore t i q)(hu:∀ op∈u,op.g=0∨m≤op.g∨op.act.touch? = none) :
  ∀ i g,(t++u).g? i=some g→g≠0→g<m→(t++u).counts i→∃ q,(t++u).g? q=some 0∧HappensBefore (t++u) i q:=by
 intro i g hg hne hlt hc
 obtain⟨x,hx,_⟩:=hc
 obtain⟨op,hop,hox⟩:=touch_of hx
 rcases getElem?_append_cases hop with ⟨hi,hop'⟩|⟨_,hopu⟩
 ·obtain⟨q,hq,hb⟩:=h i g (by simpa[Gc,getElem?_append_old hi]using hg) hne hlt ((counts_old hi).1 ⟨x,hx,‹_›⟩)
  have hql:q<t.size:=by
   unfold Gc at hq
   obtain⟨z,hz,_⟩:=Af.1 hq
   exact lt_size_of_getElem? hz
  exact⟨q,by simpa[Gc,getElem?_append_old hql]using hq,hb_app u hb⟩
 ·have hgg:op.g=g:=by simpa[Gc,hop]using hg
  rcases hu op hopu with h0|h0|h0
  ·exact absurd (hgg.symm.trans h0) hne
  ·omega
  ·rw[h0]at hox;cases hox
theorem xQ{B B':Nat}(h:∀ op∈t,op.act.low B)(hB:B≤B')(hu:∀ op∈u,op.act.low B'):∀ op∈t++u,op.act.low B':=fun op hop=>(DD.1 hop).elim (fun x=>MemAct.low_mono hB (h op x)) (hu op)
structure aDy(p:Pl)(Wg:Nat)(w w':World):Prop where
 size:w.heap.size≤w'.heap.size
 stay:∀ b,b<Wg→(b≠p.C∨p.tot=0)→w'.heap[b]? = w.heap[b]?
 like:w'.tape=w.tape∧w'.os=w.os∧w'.output=w.output
 pay:aXj p w'
theorem Com.stepW(h:Com P L Wg p S w0 m j gs w t D R V d0)(G:Geo Wg p S){i:Nat}(hi:i<j){g g':Goroutine}{es:Array Event}{s' dd':Nat}{r':Tr}
  (hg:gs[m+i]? = some g) (hK:aDy p Wg w w') (hV:Vws (gB m j) V' w') (hE:∀ x,x≠m+i→Env (V x) (V' x)) (hO:dH (V (m+i)) (V' (m+i)))
  (hs':WS P L Wg p i s' r' dd' g' (V' (m+i))) (hdd:deafBehind (D i).deaf es=dd')
  (hok:∀ e∈es,∀ fn pos,OkW (cY (ShW S Wg)) (sL p m j V') (RdF m j V') (m+i) { g:=m+i,fn,pos,act:=.ofEvent e })
  (hat:∀ e∈es,∀ x,(A7 e).touch? = some x→x.loc.isMemory=true∧((cY (ShW S Wg) x.loc∧x.kind=.atomic)∨x.kind≠.atomic))
  (hnr:∀ e∈es,e.loc≠.mark (.release (stA Wg))) (hlow:∀ e∈es,(A7 e).low w'.heap.size)
  (hrel:s'≤5→∃ r,RelBy (stA Wg) (t++BI (m+i) g.frame.fn g.frame.place es) (m+i) r)
  (hhas:s'≤6→∀ r,r<p.wd→w'.cell? (p.cell i r)=some (p.val i r)) (hho:∀ i',i'<j→i'≠i→∀ r,r<p.wd→w'.cell? (p.cell i' r)=w.cell? (p.cell i' r)) :
  Com P L Wg p S w0 m j ((gs.map (woken P g g' w')).setIfInBounds (m+i) g') w' (t++BI (m+i) g.frame.fn g.frame.place es) (A6 D i ⟨s',0,dd'⟩) (A6 R (m+i) r') V' d0:=by
 have hm:=h.mpos
 have hact:gB m j (m+i):=.inr ⟨by omega,by omega⟩
 have hold:∀ x,dH (V x) (V' x):=fun x=>by
  by_cases e:x=m+i
  ·subst e;exact hO
  ·exact dH.of_env (hE x e)
 have hops:∀ op∈BI (m+i) g.frame.fn g.frame.place es,op.g=m+i:=fun op hop=>by obtain⟨e,_,rfl⟩:=Bx hop;rfl
 have hA:Apart (cY (ShW S Wg)) (sL p m j V') (RdF m j V'):=uK hV hm (fun k hk=>(hold k).hole (h.hC k hk)) (fun k hk b hb=>(hold k).hole (h.hS k hk b hb)) fun hs=>hs.elim G.S fun e=>by have:=G.C;omega
 refine⟨hm,by simp[h.size],fun i' hi'=>?_,fun i' h1 h2=>?_,fun i' hi'=>?_,?_,?_,?_,fun i' hi'=>?_,fun i' hi' hs=>?_,fun i' hi' hs r hr=>?_,hK.pay,hV,fun k hk b hb=>(hold k).whole' (h.low k hk b hb),fun k hk=>(hold k).hole (h.hC k hk),fun k hk b hb=>(hold k).hole (h.hS k hk b hb),
  fun b hb hne=>(hK.stay b hb hne).trans (h.stay b hb hne),⟨hK.like.1.trans h.like.1,hK.like.2.1.trans h.like.2.1,hK.like.2.2.trans h.like.2.2⟩,?_,?_,?_,xQ h.seen hK.size fun op hop=>by obtain⟨e,he,rfl⟩:=Bx hop;exact hlow e he⟩
 ·by_cases e:i'=i
  ·subst e
   refine⟨g',?_,by rw[A4,A4];exact hs'⟩
   have:m+i'<gs.size:=(AZ.1 hg).1
   rw[BK (by simpa using this)]
  ·obtain⟨g1,hg1,hs1⟩:=h.wk i' hi'
   refine⟨g1,?_,by rw[Bd D _ e,Bd R _ (by omega)];exact hs1.env (hE _ (by omega))⟩
   rw[AD (by omega),BM,hg1]
   simp[hs1.woken]
 ·obtain⟨g1,q,hg1,hr,hq⟩:=h.old i' h1 h2
  refine⟨g1,q,?_,by rw[Bd R _ (by omega)];exact hr,by rw[Deaf_other t (by omega) _ hops];exact hq⟩
  rw[AD (by omega),BM,hg1]
  simp[woken_quitsD hq]
 ·rw[Deaf_other t (g':=m+i) (by omega) _ hops];exact h.above i' hi'
 ·refine ConcN.CT.appW hA (aAk h.ct h.seen (fun k h1 h2=>(h.vws.sim k (.inr ⟨h1,h2⟩)).size) fun k _ _=>hold k) (k:=m+i) (by omega) (by omega) fun op hop=>?_
  obtain⟨e,he,rfl⟩:=Bx hop
  exact hok e he _ _
 ·exact h.norel.app (ConcN.norel_of hnr)
 ·rw[Deaf_other t (g:=0) (g':=m+i) (by omega) _ hops];exact h.deaf0
 ·by_cases e:i'=i
  ·subst e;rw[A4,Deaf_own,h.deafW i' hi',hdd]
  ·rw[Bd D _ e,Deaf_other t (g':=m+i) (by omega) _ hops,h.deafW i' hi']
 ·by_cases e:i'=i
  ·subst e;rw[A4]at hs;exact hrel hs
  ·rw[Bd D _ e]at hs
   obtain⟨r,hr⟩:=h.rel i' hi' hs
   exact⟨r,hr.appOther hops (by omega)⟩
 ·by_cases e:i'=i
  ·subst e;rw[A4]at hs;exact hhas hs r hr
  ·rw[Bd D _ e]at hs
   rw[hho i' hi' e r hr];exact h.has i' hi' hs r hr
 ·refine aFx h.kn fun op hop a ha=>?_
  obtain⟨e,he,rfl⟩:=Bx hop
  rcases(hat e he a ha).2 with h1|h1
  ·exact .inr (.inl h1)
  ·exact .inr (.inr ⟨by simp only;omega,h1⟩)
 ·refine xP h.mem fun op hop a ha=>?_
  obtain⟨e,he,rfl⟩:=Bx hop
  exact(hat e he a ha).1
 ·exact tD h.over fun op hop=>.inr (.inl (by rw[hops op hop];omega))
theorem Com.step0(h:Com P L Wg p S w0 m j gs w t D R V d0)(G:Geo Wg p S){g g':Goroutine}{es:Array Event}
  (hg:gs[0]? = some g) (hK:aDy p Wg w w') (hV:Vws (gB m j) V' w') (hE:∀ x,x≠0→Env (V x) (V' x)) (hO:dH (V 0) (V' 0))
  (hok:∀ e∈es,∀ fn pos,Ok0 (cY (ShW S Wg)) (sL p m j V') (RdF m j V') (m+j-1) { g:=0,fn,pos,act:=.ofEvent e })
  (hat:∀ e∈es,∀ x,(A7 e).touch? = some x→x.loc.isMemory=true)
  (hnr:∀ e∈es,e.loc≠.mark (.release (stA Wg))) (hlow:∀ e∈es,(A7 e).low w'.heap.size)
  (hho:∀ i,i<j→∀ r,r<p.wd→w'.cell? (p.cell i r)=w.cell? (p.cell i r)) (r0:Tr) :
  Com P L Wg p S w0 m j ((gs.map (woken P g g' w')).setIfInBounds 0 g') w' (t++BI 0 g.frame.fn g.frame.place es) D (A6 R 0 r0) V' (deafBehind d0 es):=by
 have hm:=h.mpos
 have hold:∀ x,dH (V x) (V' x):=fun x=>by
  by_cases e:x=0
  ·subst e;exact hO
  ·exact dH.of_env (hE x e)
 have hops:∀ op∈BI 0 g.frame.fn g.frame.place es,op.g=0:=fun op hop=>by obtain⟨e,_,rfl⟩:=Bx hop;rfl
 have hA:Apart (cY (ShW S Wg)) (sL p m j V') (RdF m j V'):=uK hV hm (fun k hk=>(hold k).hole (h.hC k hk)) (fun k hk b hb=>(hold k).hole (h.hS k hk b hb)) fun hs=>hs.elim G.S fun e=>by have:=G.C;omega
 refine⟨hm,by simp[h.size],fun i' hi'=>?_,fun i' h1 h2=>?_,fun i' hi'=>?_,?_,?_,?_,fun i' hi'=>?_,fun i' hi' hs=>?_,fun i' hi' hs r hr=>?_,hK.pay,hV,fun k hk b hb=>(hold k).whole' (h.low k hk b hb),fun k hk=>(hold k).hole (h.hC k hk),fun k hk b hb=>(hold k).hole (h.hS k hk b hb),
  fun b hb hne=>(hK.stay b hb hne).trans (h.stay b hb hne),⟨hK.like.1.trans h.like.1,hK.like.2.1.trans h.like.2.1,hK.like.2.2.trans h.like.2.2⟩,?_,?_,?_,xQ h.seen hK.size fun op hop=>by obtain⟨e,he,rfl⟩:=Bx hop;exact hlow e he⟩
 ·obtain⟨g1,hg1,hs1⟩:=h.wk i' hi'
  refine⟨g1,?_,by rw[Bd R _ (by omega)];exact hs1.env (hE _ (by omega))⟩
  rw[AD (by omega),BM,hg1]
  simp[hs1.woken]
 ·obtain⟨g1,q,hg1,hr,hq⟩:=h.old i' h1 h2
  refine⟨g1,q,?_,by rw[Bd R _ (by omega)];exact hr,by rw[Deaf_other t (by omega) _ hops];exact hq⟩
  rw[AD (by omega),BM,hg1]
  simp[woken_quitsD hq]
 ·rw[Deaf_other t (g':=0) (by omega) _ hops];exact h.above i' hi'
 ·refine ConcN.CT.app0 hA (aAk h.ct h.seen (fun k h1 h2=>(h.vws.sim k (.inr ⟨h1,h2⟩)).size) fun k _ _=>hold k) fun op hop=>?_
  obtain⟨e,he,rfl⟩:=Bx hop
  exact hok e he _ _
 ·exact h.norel.app (ConcN.norel_of hnr)
 ·rw[Deaf_own,h.deaf0]
 ·rw[Deaf_other t (g':=0) (by omega) _ hops,h.deafW i' hi']
 ·obtain⟨r,hr⟩:=h.rel i' hi' hs
  exact⟨r,hr.appOther hops (by omega)⟩
 ·rw[hho i' hi' r hr];exact h.has i' hi' hs r hr
 ·exact aFx h.kn fun op hop a ha=>.inl (hops op hop)
 ·refine xP h.mem fun op hop a ha=>?_
  obtain⟨e,he,rfl⟩:=Bx hop
  exact hat e he a ha
 ·exact tD h.over fun op hop=>.inl (hops op hop)
theorem Com.stepO(h:Com P L Wg p S w0 m j gs w t D R V d0)(G:Geo Wg p S){i q:Nat}(h0:0<i)(him:i<m){g g':Goroutine}{es:Array Event}
  (hg:gs[i]? = some g) (hm':∀ e∈es,Ee e=true) (hq':QuitsD P q (deafBehind (Deaf t i) es) g') :
  Com P L Wg p S w0 m j ((gs.map (woken P g g' w)).setIfInBounds i g') w (t++BI i g.frame.fn g.frame.place es) D (A6 R i (Tr.nat q)) V d0:=by
 have hm:=h.mpos
 have hlt:i<gs.size:=(AZ.1 hg).1
 have hops:∀ op∈BI i g.frame.fn g.frame.place es,op.g=i:=fun op hop=>by obtain⟨e,_,rfl⟩:=Bx hop;rfl
 have hnt:∀ op∈BI i g.frame.fn g.frame.place es,op.act.touch? = none:=fun op hop=>by obtain⟨e,he,rfl⟩:=Bx hop;exact touch_mute (hm' e he)
 refine⟨hm,by simp[h.size],fun i' hi'=>?_,fun i' h1 h2=>?_,fun i' hi'=>?_,?_,?_,?_,fun i' hi'=>?_,fun i' hi' hs=>?_,h.has,h.pay,h.vws,h.low,h.hC,h.hS,h.stay,h.like,aFx h.kn fun op hop a ha=>?_,xP h.mem fun op hop a ha=>?_,tD h.over fun op hop=>.inr (.inr (hnt op hop)),xQ h.seen (AA _) fun op hop=>?_⟩
 ·obtain⟨g1,hg1,hs1⟩:=h.wk i' hi'
  refine⟨g1,?_,by rw[Bd R _ (by omega)];exact hs1⟩
  rw[AD (by omega),BM,hg1]
  simp[hs1.woken]
 ·by_cases e:i'=i
  ·subst e
   refine⟨g',q,by rw[BK (by simpa using hlt)],by rw[A4],by rw[Deaf_own];exact hq'⟩
  ·obtain⟨g1,q1,hg1,hr,hq⟩:=h.old i' h1 h2
   refine⟨g1,q1,?_,by rw[Bd R _ e];exact hr,by rw[Deaf_other t (by omega) _ hops];exact hq⟩
   rw[AD (by omega),BM,hg1]
   simp[woken_quitsD hq]
 ·rw[Deaf_other t (g':=i) (by omega) _ hops];exact h.above i' hi'
 ·refine ConcN.CT.appW (h.apart G) h.ct (k:=i) (by omega) (by omega) fun op hop=>⟨hops op hop,fun x hx=>by rw[hnt op hop]at hx;cases hx⟩
 ·refine h.norel.app fun op hop e=>?_
  obtain⟨x,hx,rfl⟩:=Bx hop
  have:=hm' x hx
  have e':=Go.ConcR.loc_of_ofEvent e
  obtain⟨loc,wr,sy⟩:=x
  simp only at e'
  subst e'
  simp[Ee]at this
 ·rw[Deaf_other t (g:=0) (g':=i) (by omega) _ hops];exact h.deaf0
 ·rw[Deaf_other t (g':=i) (by omega) _ hops,h.deafW i' hi']
 ·obtain⟨r,hr⟩:=h.rel i' hi' hs
  exact⟨r,hr.appOther hops (by omega)⟩
 ·rw[hnt op hop]at ha;cases ha
 ·rw[hnt op hop]at ha;cases ha
 ·obtain⟨e,he,rfl⟩:=Bx hop
  exact low_mute (hm' e he) _
theorem Com.at(h:Com P L Wg p S w0 m j gs w t D R V d0)(d:Nat):Com P L Wg p S w0 m j gs (w.at d) t D R (fun x=>iH (V x) (w.at d)) d0 where
 mpos:=h.mpos
 size:=h.size
 wk i hi:=let ⟨g,h1,h2⟩:=h.wk i hi;⟨g,h1,h2.env (bZ _ _)⟩
 old:=h.old
 above:=h.above
 ct:=aAk h.ct h.seen (fun k h1 h2=>(h.vws.sim k (.inr ⟨h1,h2⟩)).size) fun k _ _=>dH.of_env (bZ _ _)
 norel:=h.norel
 deaf0:=h.deaf0
 deafW:=h.deafW
 rel:=h.rel
 has:=h.has
 pay:=h.pay
 vws:=h.vws.aside rfl rfl rfl rfl fun _ _ _ _ _ _=>rfl
 low k hk b hb:=(dH.of_env (bZ _ _)).whole' (h.low k hk b hb)
 hC k hk:=kU (h.hC k hk)
 hS k hk b hb:=kU (h.hS k hk b hb)
 stay:=h.stay
 like:=h.like
 kn:=h.kn
 mem:=h.mem
 over:=h.over
 seen:=h.seen
end
end Go.Am
end
section
open List renaming map_map→ζ,mapM_map→ξ
namespace Go.Am
open Go.Conc Go.Conc.Lib
open Go.ConcN (CT Apart Ok0 OkW PermW RelBy CTag phi WD Vc Ssum sumTo sumTo_upd OpenSt AllQuit isOpen isW3 isFin pend phi_mono phi_retag le_sumTo Vc_le Vc_upd others_uncounted bk_cell)
open Go.ConcR (KK wgBlock stA smA rd wr mk Bk bk_of_mute ofEvent_loc_mark ofEvent_cell ofEvent_mk)
/-! ### the measure -/
inductive LLt:List Tr→List Tr→Prop
 |head {x y:Tr} {l:List Tr}:sJ x y→LLt (x::l) (y::l)
 |tail {x:Tr} {l l':List Tr}:LLt l l'→LLt (x::l) (x::l')
theorem bCy{x:Tr}(hx:Acc sJ x):∀ l,Acc LLt l→Acc LLt (x::l):=by
 induction hx with
 | intro x _ ihx =>
  intro l hl
  induction hl with
  | intro l hl' ihl =>
   refine⟨_,fun y hy=>?_⟩
   cases hy with
   |head h=>exact ihx _ h l ⟨_,hl'⟩
   |tail h=>exact ihl _ h
theorem aRp:∀ l:List Tr,Acc LLt l
 |[]=>⟨_,fun y hy=>by cases hy⟩
 |x::l=>bCy (aHk x) l (aRp l)
theorem bNo{l:List Nat}{f f':Nat→Tr}{k:Nat}(hk:k∈l)(hn:l.Nodup)(h:sJ (f' k) (f k))(he:∀ x∈l,x≠k→f' x=f x):LLt (l.map f') (l.map f):=by
 induction l with
 |nil=>cases hk
 | cons x l ih =>
  have hn':=List.nodup_cons.1 hn
  by_cases e:x=k
  ·subst e
   have:l.map f'=l.map f:=Dx fun y hy=>he y (by simp[hy]) fun e=>hn'.1 (e ▸ hy)
   rw[BO,BO,this]
   exact .head h
  ·rw[BO,BO,he x (by simp) e]
   exact .tail (ih (by simpa[Ew e]using hk) hn'.2 fun y hy=>he y (by simp[hy]))
abbrev Mu:=Nat×(List Tr×Tr)
def MLt:Mu→Mu→Prop:=Prod.Lex (·<·) (Prod.Lex LLt sJ)
theorem bUl:WellFounded MLt:=(Prod.lex ⟨(·<·),Nat.lt_wfRel.wf⟩ (Prod.lex ⟨LLt,⟨aRp⟩⟩ ⟨sJ,⟨aHk⟩⟩)).wf
def jE(R:Nat→Tr)(N:Nat):List Tr:=(Dy 1 (N-1)).map R
theorem aId{R R':Nat→Tr}{N k:Nat}(h1:1≤k)(h2:k<N)(h:sJ (R' k) (R k))(he:∀ x,x≠0→x≠k→R' x=R x):LLt (jE R' N) (jE R N) :=
 bNo (k:=k) (by simp[Gt];omega) (List.nodup_range' (step:=1)) h fun x hx hne=>he x (by simp[Gt]at hx;omega) hne
theorem bBf{R R':Nat→Tr}{N:Nat}(he:∀ x,x≠0→R' x=R x):jE R' N=jE R N :=
 Dx fun x hx=>he x (by simp[Gt]at hx;omega)
def uQ(Wg m j:Nat)(t:Trace):Prop :=
 ∃ q,t.act? q=some (.mark (.acquire (stA Wg)))∧t.g? q=some 0∧t.heard q∧∀ i,i<j→∃ r,RelBy (stA Wg) t (m+i) r∧r<q
theorem uQ.app{Wg m j:Nat}{t u:Trace}(h:uQ Wg m j t)(hu:∀ i r,i<j→RelBy (stA Wg) t (m+i) r→RelBy (stA Wg) (t++u) (m+i) r):uQ Wg m j (t++u):=by
 obtain⟨q,h1,h2,h3,h4⟩:=h
 have hq:=lt_of_act? h1
 exact⟨q,by rw[act?_old hq];exact h1,by rw[g?_old hq];exact h2,(heard_old hq).2 h3,fun i hi=>let ⟨r,hr,hrq⟩:=h4 i hi;⟨r,hu i r hi hr,hrq⟩⟩
section
variable (P:Program) (L:WgLink) (Wg:Nat) (p:Pl) (K An:Goroutine→Prop) (S:Nat→Prop) (w0:World) (m:Nat)
def Inv(μ:Mu)(M:Machine)(t:Trace):Prop :=
 ∃(gs:Array Goroutine) (w:World) (sl:Option (Nat×Nat)) (j:Nat) (D:Nat→WD) (R:Nat→Tr) (V:Nat→World) (tag:CTag) (d0:Nat) (a:Goroutine) (st sm:Int),
  M=crowd gs w sl∧gs[0]? = some a∧CS P L Wg p K An tag j (R 0) d0 a (V 0)∧Com P L Wg p S w0 m j gs w t D R V d0∧w.heap[Wg]? = some (wgBlock L.tWg st sm)∧Ef j D tag st sm ∧
  (tag=.ret→uQ Wg m j t)∧μ=(phi p.n (Vc j D) tag+Ssum j D,jE R (m+j),R 0)
end
section
variable {P:Program} {L:WgLink} {Wg:Nat} {p:Pl} {K An:Goroutine→Prop} {S:Nat→Prop} {w0:World} {m j:Nat} {gs:Array Goroutine} {w w':World} {sl:Option (Nat×Nat)} {t:Trace} {D:Nat→WD} {R:Nat→Tr} {V V':Nat→World} {tag:CTag} {d0:Nat} {a:Goroutine} {st sm:Int}
theorem mZ(hKr:∀ g,K g→g.status=.running)(G:Geo Wg p S)
  (ha:gs[0]? = some a) (hcs:CS P L Wg p K An tag j (R 0) d0 a (V 0)) (hcom:Com P L Wg p S w0 m j gs w t D R V d0)
  {i:Nat} (hi:i<j) {g g':Goroutine} {es:Array Event} {s' dd':Nat} {r':Tr} {st' sm':Int} (hg:gs[m+i]? = some g) (hgo:stepG P false g w=.go g' w' es)
  (hK:aDy p Wg w w') (hV:Vws (gB m j) V' w') (hE:∀ x,x≠m+i→Env (V x) (V' x)) (hO:dH (V (m+i)) (V' (m+i)))
  (hs':WS P L Wg p i s' r' dd' g' (V' (m+i))) (hdd:deafBehind (D i).deaf es=dd')
  (hok:∀ e∈es,∀ fn pos,OkW (cY (ShW S Wg)) (sL p m j V') (RdF m j V') (m+i) { g:=m+i,fn,pos,act:=.ofEvent e })
  (hat:∀ e∈es,∀ x,(A7 e).touch? = some x→x.loc.isMemory=true∧((cY (ShW S Wg) x.loc∧x.kind=.atomic)∨x.kind≠.atomic))
  (hnr:∀ e∈es,e.loc≠.mark (.release (stA Wg))) (hlow:∀ e∈es,(A7 e).low w'.heap.size)
  (hrel:s'≤5→∃ r,RelBy (stA Wg) (t++BI (m+i) g.frame.fn g.frame.place es) (m+i) r)
  (hhas:s'≤6→∀ r,r<p.wd→w'.cell? (p.cell i r)=some (p.val i r)) (hho:∀ i',i'<j→i'≠i→∀ r,r<p.wd→w'.cell? (p.cell i' r)=w.cell? (p.cell i' r))
  (hwg:w'.heap[Wg]? = some (wgBlock L.tWg st' sm'))
  (hmode:∀ tag',(tag'=tag∨(tag=.blk∧tag'=.w3))→(mayWake P g=true→g'.status=.running→tag'≠.blk)→Ef j (A6 D i ⟨s',0,dd'⟩) tag' st' sm')
  (hacq:tag=.ret→uQ Wg m j (t++BI (m+i) g.frame.fn g.frame.place es))
  (hlt:(s'<(D i).stage∧B3 ⟨s',0,dd'⟩≤B3 (D i))∨(s'=(D i).stage∧sJ r' (R (m+i)))) :
  ∃ M ops μ',runT P (crowd gs w sl) (m+i)=(.next M,ops)∧MLt μ' (phi p.n (Vc j D) tag+Ssum j D,jE R (m+j),R 0)∧Inv P L Wg p K An S w0 m μ' M (t++ops):=by
 have hm:=hcom.mpos
 obtain⟨tag',r0,hcs',htag,hwk⟩:=(hcs.env (hE 0 (by omega))).wokenBy hKr g g' w'
 have hrun:=runT_crowd_go (P:=P) (sl:=sl) (i:=m+i) hg (by rw[show(m+i==0)=false by simp;omega];exact hgo)
 have e1:=sumTo_upd D (⟨s',0,dd'⟩:WD) B3 hi
 have e2:=sumTo_upd D (⟨s',0,dd'⟩:WD) WD.stage hi
 have hcom':=hcom.stepW G hi hg hK hV hE hO hs' hdd hok hat hnr hlow hrel hhas hho
 have hcom'':Com P L Wg p S w0 m j ((gs.map (woken P g g' w')).setIfInBounds (m+i) g') w' (t++BI (m+i) g.frame.fn g.frame.place es) (A6 D i ⟨s',0,dd'⟩) (A6 (A6 R (m+i) r') 0 r0) V' d0 :=
  { hcom' with wk:=fun i' hi'=>by rw[Bd (A6 R (m+i) r') r0 (show m+i'≠0 by omega)];exact hcom'.wk i' hi',old:=fun i' h1 h2=>by rw[Bd (A6 R (m+i) r') r0 (show i'≠0 by omega)];exact hcom'.old i' h1 h2 }
 refine⟨_,_,(phi p.n (Vc j (A6 D i ⟨s',0,dd'⟩)) tag'+Ssum j (A6 D i ⟨s',0,dd'⟩),jE (A6 (A6 R (m+i) r') 0 r0) (m+j),r0),hrun,?_,
  _,w',sl,j,A6 D i ⟨s',0,dd'⟩,A6 (A6 R (m+i) r') 0 r0,V',tag',d0,woken P g g' w' a,st',sm',rfl,?_,by rw[A4];exact hcs',hcom'',hwg,hmode tag' htag hwk,?_,by rw[A4]⟩
 ·rw[phi_retag p.n _ htag]
  simp only[Vc,Ssum]at *
  rcases hlt with ⟨h1,h2⟩|⟨h1,h2⟩
  ·refine E7 _ _ ?_
   have:=phi_mono p.n (v':=sumTo j fun a=>B3 (A6 D i ⟨s',0,dd'⟩ a)) (v:=sumTo j fun a=>B3 (D a)) (by omega) tag
   omega
  ·have ec:B3 (⟨s',0,dd'⟩:WD)=B3 (D i):=by simp only[B3,h1]
   have ev:(sumTo j fun a=>B3 (A6 D i ⟨s',0,dd'⟩ a))=sumTo j fun a=>B3 (D a):=by omega
   have es':(sumTo j fun a=>(A6 D i ⟨s',0,dd'⟩ a).stage)=sumTo j fun a=>(D a).stage:=by omega
   rw[ev,es']
   refine Gd _ (E7 _ _ (aId (k:=m+i) (by omega) (by omega) ?_ fun x h0 hx=>by rw[Bd _ _ h0,Bd _ _ hx]))
   rw[Bd _ _ (by omega),A4];exact h2
 ·rw[AD (by omega),BM,ha];rfl
 ·intro e
  rcases htag with rfl|⟨_,rfl⟩
  ·exact hacq e
  ·cases e
/-! ### small laws -/
theorem bBx{k:Nat}{Own Rd:Nat→Loc→Prop}{e:Event}(h:Bk Wg e)(fn:FuncId)(pos:String):OkW (cY (ShW S Wg)) Own Rd k { g:=k,fn,pos,act:=.ofEvent e }:=by
 refine⟨rfl,fun x hx=>?_⟩
 rcases h with h1|h1|⟨a,wr,rfl,ha⟩
 ·simp only[ofEvent_loc_mark h1]at hx;cases hx
 ·simp only[ofEvent_loc_mark h1]at hx;cases hx
 ·simp only[ofEvent_cell,Bu,At]at hx
  subst hx
  exact .inl ⟨.inr ha,by simp,by simp⟩
theorem aNp{N:Nat}{Own Rd:Nat→Loc→Prop}{e:Event}(h:Bk Wg e)(fn:FuncId)(pos:String):Ok0 (cY (ShW S Wg)) Own Rd N { g:=0,fn,pos,act:=.ofEvent e }:=by
 refine⟨rfl,fun x hx=>?_⟩
 rcases h with h1|h1|⟨a,wr,rfl,ha⟩
 ·simp only[ofEvent_loc_mark h1]at hx;cases hx
 ·simp only[ofEvent_loc_mark h1]at hx;cases hx
 ·simp only[ofEvent_cell,Bu,At]at hx
  subst hx
  exact .inl ⟨.inr ha,by simp⟩
theorem bHi{e:Event}(h:Bk Wg e):∀ x,(A7 e).touch? = some x→x.loc.isMemory=true∧((cY (ShW S Wg) x.loc∧x.kind=.atomic)∨x.kind≠.atomic):=by
 intro x hx
 rcases h with h1|h1|⟨a,wr,rfl,ha⟩
 ·simp only[ofEvent_loc_mark h1]at hx;cases hx
 ·simp only[ofEvent_loc_mark h1]at hx;cases hx
 ·simp only[ofEvent_cell,Bu,At]at hx
  subst hx
  exact⟨rfl,.inl ⟨.inr ha,by simp⟩⟩
theorem aJi{e:Event}(h:Bk Wg e):e.loc≠.mark (.release (stA Wg)):=by
 intro hl
 rcases h with h1|h1|⟨a,wr,rfl,_⟩
 ·rw[h1]at hl;cases hl
 ·rw[h1]at hl;cases hl
 ·cases hl
theorem aNx{e:Event}(h:Bk Wg e){B:Nat}(hB:Wg<B):(A7 e).low B:=by
 rcases h with h1|h1|⟨a,wr,rfl,ha⟩
 ·rw[ofEvent_loc_mark h1];trivial
 ·rw[ofEvent_loc_mark h1];trivial
 ·rw[ofEvent_cell];simp only[MemAct.low,Loc.low];omega
structure gV(Wg:Nat)(w w':World):Prop where
 tape:w'.tape=w.tape
 os:w'.os=w.os
 output:w'.output=w.output
 size:w'.heap.size=w.heap.size
 block:∀ b,b≠Wg→w'.heap[b]? = w.heap[b]?
theorem gV.refl(Wg:Nat)(w:World):gV Wg w w:=⟨rfl,rfl,rfl,rfl,fun _ _=>rfl⟩
theorem gV.set(Wg:Nat)(w:World)(o:Nat)(x:Value):gV Wg w (w.setCell ⟨Wg,o,none⟩ x):=⟨rfl,rfl,rfl,by simp[E5],fun b hb=>by rw[cV,Ah hb]⟩
theorem uW{Wg:Nat}{w:World}{ty:TypeId}{st sm:Int}(h:w.heap[Wg]? = some (wgBlock ty st sm))(x:Int):(w.setCell (stA Wg) (.int .u64 x)).heap[Wg]? = some (wgBlock ty x sm):=by
 rw[cV,Ap (show Wg=(stA Wg).block from rfl),h];simp[bKm,wgBlock,stA]
theorem aZx{Wg:Nat}{w:World}{ty:TypeId}{st sm:Int}(h:w.heap[Wg]? = some (wgBlock ty st sm))(x:Int):(w.setCell (smA Wg) (.int .u32 x)).heap[Wg]? = some (wgBlock ty st x):=by
 rw[cV,Ap (show Wg=(smA Wg).block from rfl),h];simp[bKm,wgBlock,smA]
theorem gV.kept(h:gV Wg w w')(G:Geo Wg p S)(hp:aXj p w):aDy p Wg w w' :=
 ⟨Nat.le_of_eq h.size.symm,fun b hb _=>h.block b (by omega),⟨h.tape,h.os,h.output⟩,by obtain⟨cs,f,h1,h2⟩:=hp;exact⟨cs,f,(h.block p.C (by have:=G.C;omega)).trans h1,h2⟩⟩
theorem gV.cells(h:gV Wg w w')(G:Geo Wg p S)(i r:Nat):w'.cell? (p.cell i r)=w.cell? (p.cell i r):=by
 have:=h.block p.C (by have:=G.C;omega)
 simp[Bs,Pl.cell,this]
theorem Com.turn(hcom:Com P L Wg p S w0 m j gs w t D R V d0)(h:gV Wg w w'):Vws (gB m j) (fun x=>iH (V x) w') w' :=
 hcom.vws.aside h.size h.tape h.os h.output fun k hk b o ho hne=>h.block b fun e=>by
  subst e
  rw[hcom.hS k hk b (.inr rfl)]at ho
  exact hne (Bg ho).symm
theorem aAo(hKr:∀ g,K g→g.status=.running)(G:Geo Wg p S)(ha:gs[0]? = some a)(hcs:CS P L Wg p K An tag j (R 0) d0 a (V 0))(hcom:Com P L Wg p S w0 m j gs w t D R V d0)
  {i:Nat} (hi:i<j) {g g':Goroutine} {es:Array Event} {s' dd':Nat} {r':Tr} {st' sm':Int} (hg:gs[m+i]? = some g) (hgo:stepG P false g w=.go g' w' es)
  (hT:gV Wg w w') (hwg:w'.heap[Wg]? = some (wgBlock L.tWg st' sm')) (hbk:∀ e∈es,Bk Wg e)
  (hd:∀ jx e,es[jx]? = some e→(A7 e).touch? = none∨0<deafBehind (D i).deaf (es.extract 0 jx))
  (hs':∀ v,WS P L Wg p i s' r' dd' g' v) (hdd:deafBehind (D i).deaf es=dd') (h6:(D i).stage≤6) (h5:s'≤5→(D i).stage≤5)
  (hmode:∀ tag',(tag'=tag∨(tag=.blk∧tag'=.w3))→(mayWake P g=true→g'.status=.running→tag'≠.blk)→Ef j (A6 D i ⟨s',0,dd'⟩) tag' st' sm')
  (hacq:tag=.ret→uQ Wg m j (t++BI (m+i) g.frame.fn g.frame.place es))
  (hlt:(s'<(D i).stage∧B3 ⟨s',0,dd'⟩≤B3 (D i))∨(s'=(D i).stage∧sJ r' (R (m+i)))) :
  ∃ M ops μ',runT P (crowd gs w sl) (m+i)=(.next M,ops)∧MLt μ' (phi p.n (Vc j D) tag+Ssum j D,jE R (m+j),R 0)∧Inv P L Wg p K An S w0 m μ' M (t++ops):=by
 have hdk:Deaf t (m+i)=(D i).deaf:=hcom.deafW i hi
 have hlt':Wg<w'.heap.size:=aY hwg
 exact mZ hKr G ha hcs hcom hi hg hgo (hT.kept G hcom.pay) (hcom.turn hT) (fun x _=>bZ _ _) (dH.of_env (bZ _ _)) (hs' _) hdd
  (fun e he fn pos=>bBx (hbk e he) fn pos) (fun e he=>bHi (hbk e he)) (fun e he=>aJi (hbk e he)) (fun e he=>aNx (hbk e he) hlt')
  (fun h=>let ⟨r,hr⟩:=hcom.rel i hi (h5 h);⟨r,hr.book hdk _ _ hbk hd⟩) (fun _ r hr=>(hT.cells G i r).trans (hcom.has i hi h6 r hr)) (fun i' _ _ r _=>hT.cells G i' r) hwg hmode hacq hlt
end
end Go.Am
end
section
open List renaming map_map→ζ,mapM_map→ξ
namespace Go.Am
open Go.Conc Go.Conc.Lib
open Go.ConcN (CT Apart Ok0 OkW PermW RelBy CTag phi WD Vc Ssum sumTo sumTo_upd OpenSt AllQuit isOpen isW3 isFin pend phi_mono phi_retag le_sumTo Vc_le Vc_upd others_uncounted bk_cell)
open Go.ConcR (KK wgBlock stA smA rd wr mk Bk bk_of_mute ofEvent_loc_mark ofEvent_cell ofEvent_mk)
theorem aWd{v:World}{e:Event}(h:EvV v e){x:Touch}(hx:(A7 e).touch? = some x):x.kind=.plain:=by
 obtain⟨loc,wr,sy⟩:=e
 rcases h with ⟨a,c,t,f,h1,h2,_⟩|⟨r,o,h1,h2,_⟩|h
 ·simp only at h1 h2;subst h1;subst h2
  simp[A7,Bu]at hx;subst hx;rfl
 ·simp only at h1 h2;subst h1;subst h2
  simp[A7,Bu]at hx;subst hx;rfl
 ·injection h with e1 e2 e3;subst e1;subst e2;subst e3
  simp[A7,Bu]at hx
theorem bFd{v:World}{e:Event}(h:EvV v e)(a:Addr):e.loc≠.mark (.release a):=by
 rcases h with ⟨a,c,t,f,h1,_⟩|⟨r,o,h1,_⟩|rfl
 ·rw[h1];simp
 ·rw[h1];simp
 ·simp
section
variable {P:Program} {L:WgLink} {Wg:Nat} {p:Pl} {K An:Goroutine→Prop} {S:Nat→Prop} {w0:World} {m j:Nat} {gs:Array Goroutine} {w w':World} {sl:Option (Nat×Nat)} {t:Trace} {D:Nat→WD} {R:Nat→Tr} {V V':Nat→World} {tag:CTag} {d0:Nat} {a:Goroutine} {st sm:Int}
theorem Com.keptQ(hcom:Com P L Wg p S w0 m j gs w t D R V d0)(G:Geo Wg p S){k:Nat}(hk:gB m j k){Rm:Event→Prop}{v':World}{es:Array Event}(hq:aBa Rm (V k) w v' w' es) :
  aDy p Wg w w'∧w'.heap[Wg]? = w.heap[Wg]? ∧ w'.heap[p.C]? = w.heap[p.C]? := by
 have hs:=hcom.vws.sim k hk
 have hsz:(V k).heap.size=w.heap.size:=hs.size
 have hge:=hq.ext.size
 have hsz':=hq.sim.size
 have hC:w'.heap[p.C]? = w.heap[p.C]? := hq.rest _ #[] 0 (hcom.hC k hk)
 refine⟨⟨by omega,fun b hb hne=>?_,⟨by rw[←hq.sim.tape,hq.ext.tape,hs.tape],by rw[←hq.sim.os,hq.ext.os,hs.os],by rw[←hq.sim.output,hq.ext.output,hs.output]⟩,?_⟩,hq.rest _ #[] 0 (hcom.hS k hk _ (.inr rfl)),hC⟩
 ·obtain⟨c,ty,h⟩:=hcom.low k hk b (by omega)
  exact hq.rest b c ty h
 ·obtain⟨cs,f,h1,h2⟩:=hcom.pay
  exact⟨cs,f,hC.trans h1,h2⟩
set_option maxHeartbeats 1600000 in
theorem aMj(hKr:∀ g,K g→g.status=.running)(G:Geo Wg p S)(hn:p.n<2147483648)(hjn:j+pend tag≤p.n)
  (ha:gs[0]? = some a) (hcs:CS P L Wg p K An tag j (R 0) d0 a (V 0)) (hcom:Com P L Wg p S w0 m j gs w t D R V d0) (hwg:w.heap[Wg]? = some (wgBlock L.tWg st sm)) (hmode:Ef j D tag st sm)
  (hacq:tag=.ret→uQ Wg m j t) {i:Nat} (hi:i<j) {g:Goroutine} (hg:gs[m+i]? = some g) (hrun:g.status=.running) :
  ∃ M ops μ',runT P (crowd gs w sl) (m+i)=(.next M,ops)∧MLt μ' (phi p.n (Vc j D) tag+Ssum j D,jE R (m+j),R 0)∧Inv P L Wg p K An S w0 m μ' M (t++ops):=by
 obtain⟨g₁,hg₁,hs⟩:=hcom.wk i hi
 obtain rfl:g=g₁:=by rw[hg]at hg₁;exact Bg hg₁
 have hm:=hcom.mpos
 have hact:gB m j (m+i):=.inr ⟨by omega,by omega⟩
 have hVj:=Vc_le j D
 have hdk:Deaf t (m+i)=(D i).deaf:=hcom.deafW i hi
 have hI:cN L.tWg Wg w:=⟨st,sm,hwg⟩
 generalize hst:(D i).stage=s at hs
 generalize hR:R (m+i)=r at hs
 generalize hde:(D i).deaf=dd at hs
 have nr:s≠1→tag≠.ret:=fun h=>hmode.not_ret hi (by omega)
 -- idle steps behind the working stage
 have idle:∀{g':Goroutine} {es:Array Event} {k:Nat},stepG P false g w=.go g' w es→(∀ e∈es,Ee e=true∨noE e)→(∀ v,WS P L Wg p i s (Tr.nat k) (deafBehind dd es) g' v)→r=Tr.nat (k+1)→s≤6 →
   ∃ M ops μ',runT P (crowd gs w sl) (m+i)=(.next M,ops)∧MLt μ' (phi p.n (Vc j D) tag+Ssum j D,jE R (m+j),R 0)∧Inv P L Wg p K An S w0 m μ' M (t++ops):=by
  intro g' es k hgo hmu hs' hr h6
  have hmu':∀ e∈es,Ee e=true:=fun e he=>(hmu e he).resolve_right id
  have hbk:∀ e∈es,Bk Wg e:=fun e he=>bk_of_mute (hmu' e he)
  have hno:∀ jx e,es[jx]? = some e→(A7 e).touch? = none∨0<deafBehind (D i).deaf (es.extract 0 jx):=fun jx e he=>.inl (touch_mute (hmu' e (BS he)))
  refine aAo hKr G ha hcs hcom hi hg hgo (.refl Wg w) hwg hbk hno (s':=s) hs' (by rw[hde]) (by omega) (fun h=>by omega) (fun tag' ht _=>?_) (fun e=>?_) (.inr ⟨hst.symm,by rw[hR,hr];exact iN k⟩)
  ·have:=hmode.same (i:=i) 0 (deafBehind dd es)
   rw[hst]at this
   exact this.retag ht
  ·refine(hacq e).app fun i' r' hi' hr'=>?_
   by_cases e':i'=i
   ·subst e';exact hr'.book hdk _ _ hbk hno
   ·exact hr'.appOther EB (by omega)
 cases hs with
 | work h =>
  cases htr:r with
  | node f =>
   rw[htr]at h
   obtain⟨_,hv,hst'⟩:=h
   obtain⟨g',v',w',es,hgo,hq,hgt⟩:=hst' (V (m+i)) w (.refl _) (hcom.vws.sim _ hact) trivial
   obtain⟨hK,hW,hC⟩:=hcom.keptQ G hact hq
   have hput:aBq V (m+i) v' w' (m+i)=v':=kK _ _ _ _
   have hev:∀ e∈es,EvV v' e∨Ee e=true:=fun e he=>(hq.evs e he).imp id fun x=>x.resolve_right id
   have hcell:∀ i' r,w'.cell? (p.cell i' r)=w.cell? (p.cell i' r):=fun i' r=>by simp[Bs,Pl.cell,hC]
   have hlt':Wg<w'.heap.size:=aY (hW.trans hwg)
   refine mZ hKr G ha hcs hcom hi hg hgo (V':=aBq V (m+i) v' w') hK (hcom.vws.step hact hq) (fun x hx=>by rw[nE V _ _ hx];exact bZ _ _) (by rw[hput];exact dH.of_ext hq.ext hv)
    (s':=7) (r':=f (V (m+i),w)) (dd':=deafBehind dd es) (.work (by rw[hput];exact hgt)) (by rw[hde])
    (fun e he fn pos=>?_) (fun e he x hx=>?_) (fun e he=>?_) (fun e he=>?_) (fun h=>by omega) (fun h=>by omega) (fun i' _ _ r _=>hcell i' r) (hW.trans hwg) (fun tag' ht _=>?_) (fun e=>absurd e (nr (by omega))) (.inr ⟨hst.symm,?_⟩)
   ·rcases hev e he with h1|h1
    ·exact bMm (by omega) (by omega) (by rw[hput];exact h1) fn pos
    ·exact bBx (bk_of_mute h1) fn pos
   ·rcases hev e he with h1|h1
    ·exact⟨(aGi h1 hx).1,.inr (by rw[aWd h1 hx];simp)⟩
    ·rw[touch_mute h1]at hx;cases hx
   ·rcases hev e he with h1|h1
    ·exact bFd h1 _
    ·exact aJi (bk_of_mute h1)
   ·rcases hev e he with h1|h1
    ·exact aRl (Nat.le_of_eq hq.sim.size) h1
    ·exact low_mute h1 _
   ·have:=hmode.same (i:=i) 0 (deafBehind dd es)
    rw[hst]at this
    exact this.retag ht
   ·rw[hR,htr];exact qF f _
  | leaf =>
   rw[htr]at h
   obtain⟨hd,_,hput⟩:=h
   obtain⟨g',w',es,hgo,hp,hes,hdl⟩:=hput w hcom.pay
   obtain⟨n,hdn⟩:=hdl.count
   have hd0:deafBehind dd es=0:=by
    rw[deafBehind_still fun e he=>by obtain⟨r,_,rfl⟩:=hes e he;exact⟨by simp,by simp⟩];exact hd
   have hCl:p.C<w'.heap.size:=by obtain⟨cs,f,h1,_⟩:=hp.pay;exact aY h1
   have hW:w'.heap[Wg]? = w.heap[Wg]? := hp.block Wg (by have:=G.C;omega)
   refine mZ hKr G ha hcs hcom hi hg hgo (V':=fun x=>iH (V x) w') ⟨Nat.le_of_eq hp.size.symm,fun b _ hne=>hne.elim (hp.block b) fun e=>absurd e (by have:=Nat.mul_pos (show 0<p.n by omega) p.pos;have:=p.le;omega),⟨hp.tape,hp.os,hp.output⟩,hp.pay⟩
    (hcom.vws.aside hp.size hp.tape hp.os hp.output fun k hk b o ho hne=>hp.block b fun e=>by subst e;rw[hcom.hC k hk]at ho;exact hne (Bg ho).symm) (fun x _=>bZ _ _) (dH.of_env (bZ _ _))
    (s':=6) (dd':=0) (.rel hdn) (by rw[hde];exact hd0) (fun e he fn pos=>?_) (fun e he x hx=>?_) (fun e he=>?_) (fun e he=>?_) (fun h=>by omega) (fun _ r hr=>hp.new r hr) (fun i' hi' hne r hr=>?_) (hW.trans hwg)
    (fun tag' ht _=>(hmode.counted hi (by omega) (.inl rfl) _ _).retag ht) (fun e=>absurd e (nr (by omega))) (.inl ⟨by omega,by simp[B3,hst]⟩)
   ·obtain⟨r,hr,rfl⟩:=hes e he
    refine⟨rfl,fun x hx=>?_⟩
    simp only[ofEvent_cell,Bu,At]at hx
    subst hx
    exact .inr (.inl ⟨by omega,by omega,.inr ⟨r,hr,by simp⟩⟩)
   ·obtain⟨r,hr,rfl⟩:=hes e he
    simp only[ofEvent_cell,Bu,At]at hx
    subst hx
    exact⟨rfl,.inr (by simp)⟩
   ·obtain⟨r,hr,rfl⟩:=hes e he
    simp
   ·obtain⟨r,hr,rfl⟩:=hes e he
    rw[ofEvent_cell];exact hCl
   ·refine hp.cells _ ?_
    rcases Nat.lt_or_gt_of_ne hne with h1|h1
    ·left
     have:(i'+1)*p.wd≤i*p.wd:=BZ _ h1
     rw[Nat.add_mul]at this;omega
    ·right
     have:(i+1)*p.wd≤i'*p.wd:=BZ _ h1
     omega
 | rel h =>
  rcases h.cases with ⟨_,hd,g',hgo,hdl⟩|⟨n',rfl,_,g',es,hmu,hgo,h'⟩
  ·obtain⟨n,hdn⟩:=hdl.count
   have hlt':Wg<w.heap.size:=aY hwg
   refine mZ hKr G ha hcs hcom hi hg (hgo w hI) (V':=V) ((gV.refl Wg w).kept G hcom.pay) hcom.vws (fun x _=>.refl _) (dH.of_env (.refl _)) (s':=5) (dd':=0) (.sub hdn) (by rw[hde,hd];rfl)
    (fun e he fn pos=>?_) (fun e he x hx=>?_) (fun e he=>?_) (fun e he=>?_) (fun _=>⟨t.size,ConcN.RelBy.new (by rw[hdk,hde,hd]) _ _⟩) (fun _ r hr=>hcom.has i hi (by omega) r hr) (fun _ _ _ _ _=>rfl) hwg
    (fun tag' ht _=>(hmode.counted hi (by omega) (.inr rfl) _ _).retag ht) (fun e=>absurd e (nr (by omega))) (.inl ⟨by omega,by simp[B3,hst]⟩)
   ·simp at he;subst he;exact⟨rfl,fun x hx=>by simp[ofEvent_mk,Bu]at hx⟩
   ·simp at he;subst he;simp[ofEvent_mk,Bu]at hx
   ·simp at he;subst he;simp[mk]
   ·simp at he;subst he;rw[ofEvent_mk];exact hlt'
  ·exact idle (hgo w hI) hmu (fun v=>.rel h') rfl (by omega)
 | sub h =>
  rcases h.cases with ⟨hd,_,hall⟩|⟨n',rfl,_,g',es,hmu,hgo,h'⟩
  ·have hc1:B3 (D i)=1:=by simp[B3,hst]
   have hV1:1≤Vc j D:=by have:=le_sumTo (f:=fun x=>B3 (D x)) hi;simp only[Vc];omega
   have bk2:∀ e∈#[rd (stA Wg),wr (stA Wg)],Bk Wg e:=by intro e he;simp at he;rcases he with rfl|rfl<;>exact bk_cell _ _ rfl
   have df2:∀ jx e,(#[rd (stA Wg),wr (stA Wg)]:Array Event)[jx]? = some e→(A7 e).touch? = none∨0<deafBehind (D i).deaf ((#[rd (stA Wg),wr (stA Wg)]:Array Event).extract 0 jx):=by
    intro jx e he
    rw[hde,hd]
    match jx,he with
    |0,_=>exact .inr (by simp[deafBehind])
    |1,_=>exact .inr (by simp[deafBehind,rd])
    |jx+2,he=>simp at he
   have hdd:deafBehind (D i).deaf #[rd (stA Wg),wr (stA Wg)]=dd:=by rw[hde];simp[deafBehind,rd,wr]
   have hq0:∀ x,B3 (⟨1,0,x⟩:WD)=0:=fun _=>rfl
   have opq:OpenSt j D→OpenSt j (A6 D i ⟨1,0,dd⟩):=fun h a ha=>by
    by_cases e:a=i
    ·subst e;rw[A4];simp
    ·rw[Bd D _ e];exact h a ha
   cases hmode with
   | opn h1 h2 h3 =>
    obtain⟨v,hv⟩:∃ v,Vc j D+pend tag=v+1:=⟨Vc j D+pend tag-1,by omega⟩
    rw[hv]at hwg
    have hw1:w.heap[Wg]? = some (wgBlock L.tWg (((v:Int)+1)*KK+((0:Nat):Int)) 0):=by simpa using hwg
    obtain⟨g',hgo,_,hq⟩:=hall w v 0 (by omega) (by omega) hw1
    obtain⟨q,hq⟩:=hq (by omega)
    have hv':Vc j (A6 D i ⟨1,0,dd⟩)+pend tag=v:=by have:=Vc_upd D (⟨1,0,dd⟩:WD) hi;have:=hq0 dd;omega
    refine aAo hKr G ha hcs hcom hi hg hgo (gV.set Wg w 0 _) (uW hw1 _) bk2 df2 (s':=1) (dd':=dd) (fun v=>.quit hq) hdd (by omega) (fun _=>by omega) (fun tag' ht _=>E0 ?_ ht) (fun e=>absurd e (nr (by omega))) (.inl ⟨by omega,by simp[B3]⟩)
    have e:((v:Nat):Int)*KK+((0:Nat):Int)=((Vc j (A6 D i ⟨1,0,dd⟩)+pend tag:Nat):Int)*KK:=by rw[hv'];simp
    rw[e]
    exact .opn h1 (opq h2) (fun vs ev=>by have:=h3 vs ev;omega)
   | reg h1 h2 h3 =>
    obtain⟨v,hv⟩:∃ v,Vc j D=v+1:=⟨Vc j D-1,by omega⟩
    rw[hv]at hwg
    have hp:pend tag=0:=by cases tag<;>first|rfl|exact h1.elim
    have hw1:w.heap[Wg]? = some (wgBlock L.tWg (((v:Int)+1)*KK+((1:Nat):Int)) 0):=by simpa using hwg
    obtain⟨g',hgo,hl,hq⟩:=hall w v 1 (by omega) (by omega) hw1
    by_cases hv0:v=0
    ·subst hv0
     obtain⟨n2,hk⟩:=(hl ⟨rfl,rfl⟩).count
     refine aAo hKr G ha hcs hcom hi hg hgo (gV.set Wg w 0 _) (uW hw1 _) bk2 df2 (s':=4) (dd':=dd) (fun v=>.look hk) hdd (by omega) (fun _=>by omega) (fun tag' ht _=>E0 ?_ ht) (fun e=>absurd e (nr (by omega))) (.inl ⟨by omega,by simp[B3]⟩)
     have hoth:∀ a,a<j→a≠i→(D a).stage=1:=fun a ha e=>by
      have c0:=others_uncounted hi hv hc1 a ha e
      have:=h2 a ha
      simp only[B3]at c0
      split at c0<;>omega
     have:=ConcN.Mode.last (j:=j) (D:=A6 D i ⟨4,0,dd⟩) (tag:=tag) i h1 hi (by rw[A4];simp) (fun a ha e=>by rw[Bd D _ e];exact hoth a ha e)
     rw[A4]at this
     simpa using this
    ·obtain⟨q,hq⟩:=hq (by omega)
     have hv':Vc j (A6 D i ⟨1,0,dd⟩)=v:=by have:=Vc_upd D (⟨1,0,dd⟩:WD) hi;have:=hq0 dd;omega
     refine aAo hKr G ha hcs hcom hi hg hgo (gV.set Wg w 0 _) (uW hw1 _) bk2 df2 (s':=1) (dd':=dd) (fun v=>.quit hq) hdd (by omega) (fun _=>by omega) (fun tag' ht _=>E0 ?_ ht) (fun e=>absurd e (nr (by omega))) (.inl ⟨by omega,by simp[B3]⟩)
     have e:((v:Nat):Int)*KK+((1:Nat):Int)=((Vc j (A6 D i ⟨1,0,dd⟩):Nat):Int)*KK+1:=by rw[hv'];simp
     rw[e]
     exact .reg h1 (opq h2) (by omega)
   | last L' _ h2 h3 h4 =>
    by_cases e:i=L'
    ·subst e;omega
    ·have:=h4 i hi e;omega
   |sema h2=>have:=h2 i hi;omega
   |fin _ h2=>have:=h2 i hi;omega
  ·exact idle (hgo w hI) hmu (fun v=>.sub h') rfl (by omega)
 | look h =>
  rcases h.cases with ⟨hd,_,hx⟩|⟨n',rfl,_,g',es,hmu,hgo,h'⟩
  ·obtain⟨hW3,hoth,rfl,rfl⟩:=hmode.isLast hi (by omega)
   simp only[hst]at hwg
   obtain⟨g',hgo,hk⟩:=hx w (by simpa using hwg)
   obtain⟨n2,hk⟩:=hk.count
   refine aAo hKr G ha hcs hcom hi hg hgo (.refl Wg w) hwg (by intro e he;simp at he;subst he;exact bk_cell _ _ rfl) (by rw[hde,hd];intro jx e he;match jx,he with|0,_=>exact .inr (by simp[deafBehind])|jx+1,he=>simp at he)
    (s':=3) (dd':=dd) (fun v=>.zero hk) (by rw[hde];simp[deafBehind,rd]) (by omega) (fun _=>by omega) (fun tag' ht _=>E0 ?_ ht) (fun e=>absurd e (nr (by omega))) (.inl ⟨by omega,by simp[B3]⟩)
   have:=ConcN.Mode.last (j:=j) (D:=A6 D i ⟨3,0,dd⟩) (tag:=tag) i hW3 hi (by rw[A4];simp) (fun a ha e=>by rw[Bd D _ e];exact hoth a ha e)
   rw[A4]at this
   simpa using this
  ·exact idle (hgo w hI) hmu (fun v=>.look h') rfl (by omega)
 | zero h =>
  rcases h.cases with ⟨hd,_,hx⟩|⟨n',rfl,_,g',es,hmu,hgo,h'⟩
  ·obtain⟨hW3,hoth,rfl,rfl⟩:=hmode.isLast hi (by omega)
   simp only[hst]at hwg
   have hwg':w.heap[Wg]? = some (wgBlock L.tWg 1 0):=by simpa using hwg
   obtain⟨g',hgo,hk⟩:=hx w hwg'
   obtain⟨n2,hk⟩:=hk.count
   refine aAo hKr G ha hcs hcom hi hg hgo (gV.set Wg w 0 _) (uW hwg' 0) (by intro e he;simp at he;subst he;exact bk_cell _ _ rfl) (by rw[hde,hd];intro jx e he;match jx,he with|0,_=>exact .inr (by simp[deafBehind])|jx+1,he=>simp at he)
    (s':=2) (dd':=dd) (fun v=>.sem hk) (by rw[hde];simp[deafBehind,wr]) (by omega) (fun _=>by omega) (fun tag' ht _=>E0 ?_ ht) (fun e=>absurd e (nr (by omega))) (.inl ⟨by omega,by simp[B3]⟩)
   have:=ConcN.Mode.last (j:=j) (D:=A6 D i ⟨2,0,dd⟩) (tag:=tag) i hW3 hi (by rw[A4];simp) (fun a ha e=>by rw[Bd D _ e];exact hoth a ha e)
   rw[A4]at this
   simpa using this
  ·exact idle (hgo w hI) hmu (fun v=>.zero h') rfl (by omega)
 | sem h =>
  rcases h.cases with ⟨hd,_,hmw,hx⟩|⟨n',rfl,_,g',es,hmu,hgo,h'⟩
  ·obtain⟨hW3,hoth,rfl,rfl⟩:=hmode.isLast hi (by omega)
   simp only[hst]at hwg
   have hwg':w.heap[Wg]? = some (wgBlock L.tWg 0 0):=by simpa using hwg
   obtain⟨g',hgo,q,hq⟩:=hx w hwg'
   have hrun':g'.status=.running:=by
    cases q with
    |zero=>exact absurd hq.2 (by omega)
    |succ q=>exact hq.elim (fun x=>absurd x.2 (by omega)) (fun x=>x.1)
   refine aAo hKr G ha hcs hcom hi hg hgo (gV.set Wg w 1 _) (aZx hwg' 1) (es:=semEvents (smA Wg)) ?_ ?_ (s':=1) (dd':=dd) (fun v=>.quit hq) (by rw[hde,hd];simp[deafBehind,semEvents]) (by omega) (fun _=>by omega) ?_ (fun e=>absurd e (nr (by omega))) (.inl ⟨by omega,by simp[B3]⟩)
   ·exact ConcN.bk_sem
   ·intro jx e he
    rw[hde,hd]
    match jx,he with
    |0,he=>simp[semEvents]at he;subst he;exact .inl rfl
    |1,_=>exact .inr (by simp[deafBehind,semEvents])
    |2,_=>exact .inr (by simp[deafBehind,semEvents])
    |3,he=>simp[semEvents]at he;subst he;exact .inl rfl
    |jx+4,he=>simp[semEvents]at he
   ·intro tag' ht hw
    have hnb:=hw hmw hrun'
    have e3:tag'=.w3:=by
     rcases ht with rfl|⟨_,rfl⟩
     ·cases tag'<;>first|rfl|exact hW3.elim|exact absurd rfl hnb
     ·rfl
    subst e3
    exact .sema fun a ha=>by
     by_cases e:a=i
     ·subst e;rw[A4]
     ·rw[Bd D _ e];exact hoth a ha e
  ·exact idle (hgo w hI) hmu (fun v=>.sem h') rfl (by omega)
 | quit h =>
  rename_i n
  cases n with
  |zero=>rw[h.1]at hrun;cases hrun
  | succ q =>
   rcases h with ⟨hf,_⟩|⟨_,g',es,hmute,hstep,hq⟩
   ·rw[hf]at hrun;cases hrun
   ·exact idle (hstep w) (fun e he=>.inl (hmute e he)) (fun v=>.quit hq) rfl (by omega)
end
end Go.Am
end
section
open List renaming map_map→ζ,mapM_map→ξ
namespace Go.Am
open Go.Conc Go.Conc.Lib
open Go.ConcN (CT Apart Ok0 OkW PermW RelBy CTag phi WD Vc Ssum sumTo sumTo_upd sumTo_upd_out OpenSt AllQuit isOpen isW3 isFin pend phi_mono phi_retag le_sumTo Vc_le Vc_upd others_uncounted bk_cell allQuit_of)
open Go.ConcR (KK wgBlock stA smA rd wr mk Bk bk_of_mute ofEvent_loc_mark ofEvent_cell ofEvent_mk)
section
variable {P:Program} {L:WgLink} {Wg:Nat} {p:Pl} {K An:Goroutine→Prop} {S:Nat→Prop} {w0:World} {m j:Nat} {gs:Array Goroutine} {w w':World} {sl:Option (Nat×Nat)} {t:Trace} {D:Nat→WD} {R:Nat→Tr} {V V':Nat→World} {tag tag':CTag} {d0:Nat} {a a':Goroutine} {st sm st' sm':Int} {es:Array Event} {r':Tr}
theorem CS.bound{d:Nat}{r:Tr}{v:World}(h:CS P L Wg p K An tag j r d a v):j+pend tag≤p.n:=by
 cases h<;>simp only[pend]<;>(try simp)<;>omega
theorem nT(G:Geo Wg p S)(ha:gs[0]? = some a)(hcom:Com P L Wg p S w0 m j gs w t D R V d0)
  (hgo:stepG P true a w=.go a' w' es) (hK:aDy p Wg w w') (hV:Vws (gB m j) V' w') (hE:∀ x,x≠0→Env (V x) (V' x)) (hO:dH (V 0) (V' 0))
  (hok:∀ e∈es,∀ fn pos,Ok0 (cY (ShW S Wg)) (sL p m j V') (RdF m j V') (m+j-1) { g:=0,fn,pos,act:=.ofEvent e })
  (hat:∀ e∈es,∀ x,(A7 e).touch? = some x→x.loc.isMemory=true) (hnr:∀ e∈es,e.loc≠.mark (.release (stA Wg))) (hlow:∀ e∈es,(A7 e).low w'.heap.size)
  (hho:∀ i,i<j→∀ r,r<p.wd→w'.cell? (p.cell i r)=w.cell? (p.cell i r))
  (hcs':CS P L Wg p K An tag' j r' (deafBehind d0 es) a' (V' 0)) (hwg:w'.heap[Wg]? = some (wgBlock L.tWg st' sm')) (hmode:Ef j D tag' st' sm')
  (hacq:tag'=.ret→uQ Wg m j (t++BI 0 a.frame.fn a.frame.place es))
  (hlt:phi p.n (Vc j D) tag'<phi p.n (Vc j D) tag∨(phi p.n (Vc j D) tag'=phi p.n (Vc j D) tag∧sJ r' (R 0))) :
  ∃ M ops μ',runT P (crowd gs w sl) 0=(.next M,ops)∧MLt μ' (phi p.n (Vc j D) tag+Ssum j D,jE R (m+j),R 0)∧Inv P L Wg p K An S w0 m μ' M (t++ops):=by
 have hrun:=runT_crowd_go (P:=P) (sl:=sl) (i:=0) ha (by simpa using hgo)
 have hlt0:0<gs.size:=(AZ.1 ha).1
 refine⟨_,_,(phi p.n (Vc j D) tag'+Ssum j D,jE (A6 R 0 r') (m+j),r'),hrun,?_,
  _,w',sl,j,D,A6 R 0 r',V',tag',deafBehind d0 es,a',st',sm',rfl,by simp[hlt0],by rw[A4];exact hcs',hcom.step0 G ha hK hV hE hO hok hat hnr hlow hho r',hwg,hmode,hacq,by rw[A4]⟩
 rw[bBf (R':=A6 R 0 r') (R:=R) fun x hx=>Bd R _ hx]
 rcases hlt with h|⟨h1,h2⟩
 ·exact E7 _ _ (by omega)
 ·rw[h1];exact Gd _ (Gd _ h2)
theorem lK{e:Event}(h:dG Wg e):(∀{Own Rd:Nat→Loc→Prop} {N:Nat} (fn:FuncId) (pos:String),Ok0 (cY (ShW S Wg)) Own Rd N { g:=0,fn,pos,act:=.ofEvent e })∧(∀ x,(A7 e).touch? = some x→x.loc.isMemory=true)∧e.loc≠.mark (.release (stA Wg))∧∀ B,Wg<B→(A7 e).low B:=by
 rcases h with rfl|rfl
 ·refine⟨fun fn pos=>⟨rfl,fun x hx=>?_⟩,fun x hx=>?_,by simp,fun B hB=>hB⟩<;>simp only[A7,Bu,At]at hx<;>subst hx
  ·exact .inl ⟨.inr rfl,by simp⟩
  ·rfl
 ·refine⟨fun fn pos=>⟨rfl,fun x hx=>?_⟩,fun x hx=>?_,by simp,fun B hB=>hB⟩<;>simp only[A7,Bu,At]at hx<;>subst hx
  ·exact .inl ⟨.inr rfl,by simp⟩
  ·rfl
theorem rI(G:Geo Wg p S)(ha:gs[0]? = some a)(hcom:Com P L Wg p S w0 m j gs w t D R V d0)
  (hgo:stepG P true a w=.go a' w' es) (hT:gV Wg w w') (hwg:w'.heap[Wg]? = some (wgBlock L.tWg st' sm')) (hbk:∀ e∈es,Bk Wg e∨dG Wg e)
  (hcs':∀ v,Env (V 0) v→CS P L Wg p K An tag' j r' (deafBehind d0 es) a' v) (hmode:Ef j D tag' st' sm')
  (hacq:tag'=.ret→uQ Wg m j (t++BI 0 a.frame.fn a.frame.place es))
  (hlt:phi p.n (Vc j D) tag'<phi p.n (Vc j D) tag∨(phi p.n (Vc j D) tag'=phi p.n (Vc j D) tag∧sJ r' (R 0))) :
  ∃ M ops μ',runT P (crowd gs w sl) 0=(.next M,ops)∧MLt μ' (phi p.n (Vc j D) tag+Ssum j D,jE R (m+j),R 0)∧Inv P L Wg p K An S w0 m μ' M (t++ops):=by
 have hlt':Wg<w'.heap.size:=aY hwg
 refine nT G ha hcom hgo (hT.kept G hcom.pay) (hcom.turn hT) (fun x _=>bZ _ _) (dH.of_env (bZ _ _)) (fun e he fn pos=>?_) (fun e he=>?_) (fun e he=>?_) (fun e he=>?_) (fun i _ r _=>hT.cells G i r) (hcs' _ (bZ _ _)) hwg hmode hacq hlt
 ·rcases hbk e he with h|h
  ·exact aNp h fn pos
  ·exact(lK (S:=S) h).1 fn pos
 ·rcases hbk e he with h|h
  ·exact fun x hx=>(bHi (S:=S) h x hx).1
  ·exact(lK (S:=S) h).2.1
 ·rcases hbk e he with h|h
  ·exact aJi h
  ·exact(lK (S:=S) h).2.2.1
 ·rcases hbk e he with h|h
  ·exact aNx h hlt'
  ·exact(lK (S:=S) h).2.2.2 _ hlt'
theorem aYn(G:Geo Wg p S)(ha:gs[0]? = some a)(hcom:Com P L Wg p S w0 m j gs w t D R V d0)(hwg:w.heap[Wg]? = some (wgBlock L.tWg st sm))(hmode:Ef j D tag st sm)(hacq:tag≠.ret)
  {v':World} (hgo:stepG P true a w=.go a' w' es) (hq:aBa (dG Wg) (V 0) w v' w' es) (hcs':CS P L Wg p K An tag j r' (deafBehind d0 es) a' v') (hlt:sJ r' (R 0)) :
  ∃ M ops μ',runT P (crowd gs w sl) 0=(.next M,ops)∧MLt μ' (phi p.n (Vc j D) tag+Ssum j D,jE R (m+j),R 0)∧Inv P L Wg p K An S w0 m μ' M (t++ops):=by
 obtain⟨hK,hW,hC⟩:=hcom.keptQ G (.inl rfl) hq
 have hput:aBq V 0 v' w' 0=v':=kK _ _ _ _
 have hcell:∀ i' r,w'.cell? (p.cell i' r)=w.cell? (p.cell i' r):=fun i' r=>by simp[Bs,Pl.cell,hC]
 have hlt':Wg<w'.heap.size:=aY (hW.trans hwg)
 have hO:dH (V 0) v':=dH.of_ext hq.ext (hcom.vws.ok 0 (.inl rfl))
 have hVV:Vws (gB m j) (aBq V 0 v' w') w':=hcom.vws.step (.inl rfl) hq
 refine nT G ha hcom hgo (V':=aBq V 0 v' w') hK hVV (fun x hx=>by rw[nE V _ _ hx];exact bZ _ _) (by rw[hput];exact hO) (fun e he fn pos=>?_) (fun e he=>?_) (fun e he=>?_) (fun e he=>?_) (fun i _ r _=>hcell i r) (by rw[hput];exact hcs') (hW.trans hwg) hmode (fun e=>absurd e hacq) (.inr ⟨rfl,hlt⟩)
 ·rcases hq.evs e he with h|h|h
  ·exact bMn hVV hcom.mpos (by rw[hput];exact hO.hole (hcom.hC 0 (.inl rfl))) (fun b hb=>by rw[hput];exact hO.hole (hcom.hS 0 (.inl rfl) b hb)) (by rw[hput];exact h) fn pos
  ·exact aNp (bk_of_mute h) fn pos
  ·exact(lK (S:=S) h).1 fn pos
 ·rcases hq.evs e he with h|h|h
  ·exact fun x hx=>(aGi h hx).1
  ·exact fun x hx=>by rw[touch_mute h]at hx;cases hx
  ·exact(lK (S:=S) h).2.1
 ·rcases hq.evs e he with h|h|h
  ·exact bFd h _
  ·exact aJi (bk_of_mute h)
  ·exact(lK (S:=S) h).2.2.1
 ·rcases hq.evs e he with h|h|h
  ·exact aRl (Nat.le_of_eq hq.sim.size) h
  ·exact low_mute h _
  ·exact(lK (S:=S) h).2.2.2 _ hlt'
theorem Com.spawn(h:Com P L Wg p S w0 m j gs w t D R V 0)(G:Geo Wg p S){child:Goroutine}{x y:MemOp}{tr r0:Tr}(hx:x.g=0∧x.act=.go (m+j))(hy:y.g=m+j∧y.act=.start)(hWg:Wg<w.heap.size)
  (hc:GTw P L Wg p j tr 0 child (jA (V 0))) :
  Com P L Wg p S w0 m (j+1) ((gs.setIfInBounds 0 a').push child) w (t++#[x,y]) (A6 D j ⟨7,0,0⟩) (A6 (A6 R (m+j) tr) 0 r0) (A6 (A6 V (m+j) (jA (V 0))) 0 (jA (V 0))) 0:=by
 have hm:=h.mpos
 generalize hVd:A6 (A6 V (m+j) (jA (V 0))) 0 (jA (V 0))=V'
 have v0:V' 0=jA (V 0):=by rw[←hVd,A4]
 have vj:V' (m+j)=jA (V 0):=by rw[←hVd,Bd _ _ (by omega),A4]
 have vx:∀ k,k≠0→k≠m+j→V' k=V k:=fun k h0 h1=>by rw[←hVd,Bd _ _ h0,Bd _ _ h1]
 have hact:∀ k,gB m (j+1) k→(V' k=jA (V 0)∧(k=0∨k=m+j))∨(V' k=V k∧k≠0∧m≤k∧k<m+j):=fun k hk=>by
  by_cases h0:k=0
  ·subst h0;exact .inl ⟨v0,.inl rfl⟩
  by_cases h1:k=m+j
  ·subst h1;exact .inl ⟨vj,.inr rfl⟩
  ·rcases hk with hk|⟨h2,h3⟩
   ·exact absurd hk h0
   ·exact .inr ⟨vx k h0 h1,h0,h2,by omega⟩
 have hmm:∀ op∈#[x,y],op=x∨op=y:=by intro op hop;simpa using hop
 have hst:∀ op∈#[x,y],op.act≠.mark .disable∧op.act≠.mark .enable:=by
  intro op hop
  rcases hmm op hop with rfl|rfl
  ·rw[hx.2];exact⟨by simp,by simp⟩
  ·rw[hy.2];exact⟨by simp,by simp⟩
 have hnt:∀ op∈#[x,y],op.act.touch? = none:=by
  intro op hop
  rcases hmm op hop with rfl|rfl
  ·rw[hx.2];rfl
  ·rw[hy.2];rfl
 have hVw:Vws (gB m (j+1)) V' w:=by
  refine⟨fun k hk=>?_,fun k hk=>?_,fun k k' hk hk' hne b hu=>?_⟩
  ·rcases hact k hk with ⟨e,_⟩|⟨e,_,h1,h2⟩
   ·rw[e];exact aKd (h.vws.sim 0 (.inl rfl))
   ·rw[e];exact h.vws.sim k (.inr ⟨h1,h2⟩)
  ·rcases hact k hk with ⟨e,_⟩|⟨e,_,h1,h2⟩
   ·rw[e];exact aGa _
   ·rw[e];exact h.vws.ok k (.inr ⟨h1,h2⟩)
  ·rcases hact k hk with ⟨e,_⟩|⟨e,h0,h1,h2⟩
   ·rw[e]at hu;exact absurd hu (aGb _ _)
   ·rw[e]at hu
    rcases hact k' hk' with ⟨e',_⟩|⟨e',h0',h1',h2'⟩
    ·rw[e'];exact vN (h.vws.dis k 0 (.inr ⟨h1,h2⟩) (.inl rfl) h0 b hu)
    ·rw[e'];exact h.vws.dis k k' (.inr ⟨h1,h2⟩) (.inr ⟨h1',h2'⟩) hne b hu
 have hC':∀ k,gB m (j+1) k→(V' k).heap[p.C]? = some hole:=fun k hk=>by
  rcases hact k hk with ⟨e,_⟩|⟨e,_,h1,h2⟩
  ·rw[e];exact vN (h.hC 0 (.inl rfl))
  ·rw[e];exact h.hC k (.inr ⟨h1,h2⟩)
 have hS':∀ k,gB m (j+1) k→∀ b,ShW S Wg b→(V' k).heap[b]? = some hole:=fun k hk b hb=>by
  rcases hact k hk with ⟨e,_⟩|⟨e,_,h1,h2⟩
  ·rw[e];exact vN (h.hS 0 (.inl rfl) b hb)
  ·rw[e];exact h.hS k (.inr ⟨h1,h2⟩) b hb
 have hA:Apart (cY (ShW S Wg)) (sL p m (j+1) V') (RdF m (j+1) V'):=uK hVw hm hC' hS' fun hs=>hs.elim G.S fun e=>by have:=G.C;omega
 have hct:CT (cY (ShW S Wg)) (sL p m (j+1) V') (RdF m (j+1) V') t (m+j-1):=by
  refine CT.grow h.ct (fun k l k1 kj ⟨a1,a2,hl⟩=>⟨a1,by omega,?_⟩) (fun k l k1 kj ⟨a1,a2,hl⟩=>⟨a1,by omega,?_⟩) (fun k l k1 kj ⟨a1,a2,hl⟩=>.inl ⟨a1,by omega,?_⟩) (fun k l k1 kj ⟨a1,a2,hl⟩=>.inl ⟨a1,by omega,?_⟩)
  ·rw[vx k (by omega) (by omega)];exact hl
  ·rw[vx k (by omega) (by omega)];exact hl
  ·rw[vx k (by omega) (by omega)]at hl;exact hl
  ·rw[vx k (by omega) (by omega)]at hl;exact hl
 have hsz:=h.size
 refine⟨hm,by simp[hsz];omega,fun i hi=>?_,fun i h1 h2=>?_,fun i hi=>?_,?_,h.norel.app fun op hop=>?_,by rw[FD t 0 _ hst,h.deaf0],fun i hi=>?_,fun i hi hs=>?_,fun i hi hs r hr=>?_,h.pay,hVw,fun k hk b hb=>?_,hC',hS',h.stay,h.like,aFx h.kn fun op hop a ha=>?_,xP h.mem fun op hop a ha=>?_,tD h.over fun op hop=>.inr (.inr (hnt op hop)),xQ h.seen (AA _) fun op hop=>?_⟩
 ·rcases Az i j with hlt|hge
  ·obtain⟨g,hg,hsg⟩:=h.wk i hlt
   refine⟨g,?_,by rw[Bd D _ (by omega),Bd (A6 R (m+j) tr) _ (by omega),Bd R _ (by omega),vx _ (by omega) (by omega)];exact hsg⟩
   rw[Fq (by simp[hsz];omega),←Ak,AD (by omega)]
   exact hg
  ·obtain rfl:i=j:=by omega
   refine⟨child,?_,by rw[A4,Bd (A6 R (m+i) tr) _ (by omega),A4,vj];exact .work hc⟩
   rw[show m+i=(gs.setIfInBounds 0 a').size by simp[hsz],Array.getElem?_push_size]
 ·obtain⟨g,q,hg,hr,hq⟩:=h.old i h1 h2
  refine⟨g,q,?_,by rw[Bd (A6 R (m+j) tr) _ (by omega),Bd R _ (by omega)];exact hr,by rw[FD t _ _ hst];exact hq⟩
  rw[Fq (by simp[hsz];omega),←Ak,AD (by omega)]
  exact hg
 ·rw[FD t _ _ hst];exact h.above i (by omega)
 ·have:=ConcN.CT.fork hA hct (x:=x) (y:=y) (by rw[show m+j-1+1=m+j by omega];exact hx) (by rw[show m+j-1+1=m+j by omega];exact hy) h.deaf0
  rw[show m+j-1+1=m+(j+1)-1 by omega]at this
  exact this
 ·rcases hmm op hop with rfl|rfl
  ·rw[hx.2];simp
  ·rw[hy.2];simp
 ·rw[FD t _ _ hst]
  rcases Az i j with hlt|hge
  ·rw[h.deafW i hlt,Bd D _ (by omega)]
  ·obtain rfl:i=j:=by omega
   rw[A4]
   exact h.above _ (AA _)
 ·rcases Az i j with hlt|hge
  ·rw[Bd D _ (by omega)]at hs
   obtain⟨r,hr⟩:=h.rel i hlt hs
   refine⟨r,hr.appNot fun op hop=>?_⟩
   rcases hmm op hop with rfl|rfl
   ·rw[hx.1];omega
   ·rw[hy.1];omega
  ·obtain rfl:i=j:=by omega
   rw[A4]at hs
   simp at hs
 ·rcases Az i j with hlt|hge
  ·rw[Bd D _ (by omega)]at hs
   exact h.has i hlt hs r hr
  ·obtain rfl:i=j:=by omega
   rw[A4]at hs
   simp at hs
 ·rcases hact k hk with ⟨e,_⟩|⟨e,_,h1,h2⟩
  ·rw[e];exact zX (by have:=(h.vws.sim 0 (.inl rfl)).size;omega)
  ·rw[e];exact h.low k (.inr ⟨h1,h2⟩) b hb
 ·rw[hnt op hop]at ha;cases ha
 ·rw[hnt op hop]at ha;cases ha
 ·rcases hmm op hop with rfl|rfl
  ·rw[hx.2];trivial
  ·rw[hy.2];trivial
end
end Go.Am
end
section
open List renaming map_map→ζ,mapM_map→ξ
namespace Go.Am
open Go.Conc Go.Conc.Lib
open Go.ConcN (CT Apart Ok0 OkW PermW RelBy CTag phi WD Vc Ssum sumTo sumTo_upd sumTo_upd_out OpenSt AllQuit isOpen isW3 isFin pend phi_mono phi_retag le_sumTo Vc_le Vc_upd others_uncounted bk_cell allQuit_of)
open Go.ConcR (KK wgBlock stA smA rd wr mk Bk bk_of_mute ofEvent_loc_mark ofEvent_cell ofEvent_mk)
section
variable {P:Program} {L:WgLink} {Wg:Nat} {p:Pl} {K An:Goroutine→Prop} {S:Nat→Prop} {w0:World} {m j:Nat} {gs:Array Goroutine} {w w':World} {sl:Option (Nat×Nat)} {t:Trace} {D:Nat→WD} {R:Nat→Tr} {V V':Nat→World} {tag tag':CTag} {d0:Nat} {a a':Goroutine} {st sm st' sm':Int} {es:Array Event} {r':Tr}
theorem bkS{es:Array Event}(h:∀ e∈es,Bk Wg e):∀ e∈es,Bk Wg e∨dG Wg e:=fun e he=>.inl (h e he)
set_option maxHeartbeats 1600000 in
theorem aMl(hKr:∀ g,K g→g.status=.running)(hAn:∀ g,An g→Dl P true (cN L.tWg Wg) (dG Wg) (fun d g=>d=1∧xD P L Wg K An d g) 1 g)(G:Geo Wg p S)(hn:p.n<2147483648)
  (ha:gs[0]? = some a) (hcs:CS P L Wg p K An tag j (R 0) d0 a (V 0)) (hcom:Com P L Wg p S w0 m j gs w t D R V d0) (hwg:w.heap[Wg]? = some (wgBlock L.tWg st sm)) (hmode:Ef j D tag st sm)
  (hacq:tag=.ret→uQ Wg m j t) (hrun:a.status=.running) (hstop:¬(tag=.ret∧d0=0∧K a)) :
  ∃ M ops μ',runT P (crowd gs w sl) 0=(.next M,ops)∧MLt μ' (phi p.n (Vc j D) tag+Ssum j D,jE R (m+j),R 0)∧Inv P L Wg p K An S w0 m μ' M (t++ops):=by
 have hVj:=Vc_le j D
 have hb:=hcs.bound
 have hI:cN L.tWg Wg w:=⟨st,sm,hwg⟩
 have hsim0:=hcom.vws.sim 0 (.inl rfl)
 have hok0:=hcom.vws.ok 0 (.inl rfl)
 -- an idle step of a chain
 have idle:∀{g':Goroutine} {es:Array Event} {r':Tr},tag≠.ret→stepG P true a w=.go g' w es→(∀ e∈es,Ee e=true∨dG Wg e)→(∀ v,CS P L Wg p K An tag j r' (deafBehind d0 es) g' v)→sJ r' (R 0) →
   ∃ M ops μ',runT P (crowd gs w sl) 0=(.next M,ops)∧MLt μ' (phi p.n (Vc j D) tag+Ssum j D,jE R (m+j),R 0)∧Inv P L Wg p K An S w0 m μ' M (t++ops) :=
  fun hne hgo hmu hcs' hlt=>rI G ha hcom hgo (.refl Wg w) hwg (fun e he=>(hmu e he).imp bk_of_mute id) (fun v _=>hcs' v) hmode (fun e=>absurd e hne) (.inr ⟨rfl,hlt⟩)
 generalize hR:R 0=r at hcs
 cases hcs with
 | a1 hr h =>
  rename_i r1
  cases htr:r with
  | node f =>
   rw[htr]at h
   obtain⟨_,hv,hs⟩:=h
   obtain⟨g',v',w',es,hgo,hq,hgt⟩:=hs (V 0) w (.refl _) hsim0 hI
   have:=aYn (sl:=sl) G ha hcom hwg hmode (by simp) hgo hq (.a1 hr hgt) (by rw[hR,htr];exact qF f _)
   rwa [hR,htr]at this
  | leaf =>
   rw[htr]at h
   obtain⟨hd,_,hall⟩:=h
   obtain⟨ho,rfl,rfl,_⟩:=hmode.open_inv trivial
   have hwg0:w.heap[Wg]? = some (wgBlock L.tWg ((Vc (p.n-(r1+1)) D:Nat)*KK:Int) 0):=by simpa[pend]using hwg
   obtain⟨g',hgo,hdl⟩:=hall w (Vc (p.n-(r1+1)) D) (by omega) hwg0
   have hdd:deafBehind d0 #[rd (stA Wg),wr (stA Wg)]=d0:=by simp[deafBehind,rd,wr]
   have hT:=gV.set Wg w 0 (.int .u64 (((Vc (p.n-(r1+1)) D:Nat)+1)*KK))
   obtain⟨tr,hgt⟩:=hdl.gt ((bZ (V 0) _).okV hok0) (v:=iH (V 0) (w.setCell (stA Wg) (.int .u64 (((Vc (p.n-(r1+1)) D:Nat)+1)*KK)))) fun d g v1 he hk=>hk v1 ((bZ _ _).trans he) (((bZ _ _).trans he).okV hok0)
   rw[←(hR.trans htr)]
   refine nT G ha hcom hgo (hT.kept G hcom.pay) (hcom.turn hT) (fun x _=>bZ _ _) (dH.of_env (bZ _ _)) (fun e he fn pos=>aNp (Gu e he) fn pos) (fun e he x hx=>(bHi (S:=S) (Gu e he) x hx).1) (fun e he=>aJi (Gu e he)) (fun e he=>aNx (Gu e he) (by simpa[E5]using aY hwg0))
    (fun i _ r _=>hT.cells G i r) (tag':=.sp r1 3) (r':=tr) (by rw[hdd];exact .go hr hgt) (uW hwg0 _) ?_ (by simp) (.inl (by simp only[phi];omega))
   have e:(((Vc (p.n-(r1+1)) D:Nat):Int)+1)*KK=((Vc (p.n-(r1+1)) D+pend (.sp r1 3):Nat):Int)*KK:=by simp[pend]
   rw[e]
   exact .opn trivial ho (by simp)
 | go hr h =>
  rename_i r1
  cases htr:r with
  | node f =>
   rw[htr]at h
   obtain⟨_,hv,hs⟩:=h
   obtain⟨g',v',w',es,hgo,hq,hgt⟩:=hs (V 0) w (.refl _) hsim0 hI
   have:=aYn (sl:=sl) G ha hcom hwg hmode (by simp) hgo hq (.go hr hgt) (by rw[hR,htr];exact qF f _)
   rwa [hR,htr]at this
  | leaf =>
   rw[htr]at h
   obtain⟨rfl,_,hgo'⟩:=h
   obtain⟨g',child,hsp,_,⟨tr,hgt⟩,hnext⟩:=hgo' (V 0) (.refl _)
   have hsp:=hsp w hsim0 hI
   obtain⟨ho,rfl,rfl,_⟩:=hmode.open_inv trivial
   have hrun':=runT_crowd_spawn (P:=P) (sl:=sl) (i:=0) ha (by simpa using hsp)
   rw[hcom.size]at hrun'
   have hlt0:0<gs.size:=(AZ.1 ha).1
   have eV:Vc (p.n-(r1+1)+1) (A6 D (p.n-(r1+1)) ⟨7,0,0⟩)=Vc (p.n-(r1+1)) D+1:=by
    simp only[Vc,sumTo,A4]
    rw[sumTo_upd_out D _ B3 (AA _)];rfl
   have eS:Ssum (p.n-(r1+1)+1) (A6 D (p.n-(r1+1)) ⟨7,0,0⟩)=Ssum (p.n-(r1+1)) D+7:=by
    simp only[Ssum,sumTo,A4]
    rw[sumTo_upd_out D _ WD.stage (AA _)]
   have ho':OpenSt (p.n-(r1+1)+1) (A6 D (p.n-(r1+1)) ⟨7,0,0⟩):=fun i hi=>by
    by_cases e:i=p.n-(r1+1)
    ·subst e;rw[A4];simp
    ·rw[Bd D _ e];exact ho i (by omega)
   have ha':((gs.setIfInBounds 0 g').push child)[0]? = some g':=by
    rw[Fq (by simp;omega),←Ak]
    simp[hlt0]
   have ej:p.n-(r1+1)+1=p.n-r1:=by omega
   have hsp':∀ r0,Com P L Wg p S w0 m (p.n-(r1+1)+1) _ w _ _ (A6 (A6 R (m+(p.n-(r1+1))) tr) 0 r0) _ 0:=fun r0=>hcom.spawn G (a':=g') (r0:=r0) (child:=child) (x:={ g:=0,fn:=a.frame.fn,pos:=a.frame.place,act:=.go (m+(p.n-(r1+1))) }) (y:={ g:=m+(p.n-(r1+1)),fn:=child.frame.fn,pos:=a.frame.place,act:=.start }) ⟨rfl,rfl⟩ ⟨rfl,rfl⟩ (aY hwg) hgt
   rw[ej]at eV eS ho' hsp'
   have est:∀ tag',pend tag'=0→((Vc (p.n-(r1+1)) D+pend (.sp r1 3):Nat):Int)*KK=((Vc (p.n-r1) (A6 D (p.n-(r1+1)) ⟨7,0,0⟩)+pend tag':Nat):Int)*KK:=fun tag' hp=>by rw[eV,hp];simp[pend]
   cases r1 with
   | zero =>
    obtain⟨tr0,hk⟩:=hnext
    simp only[Nat.sub_zero]at hrun' hsp' eV eS ho' est
    refine⟨_,_,(phi p.n (Vc p.n (A6 D (p.n-(0+1)) ⟨7,0,0⟩)) .w1+Ssum p.n (A6 D (p.n-(0+1)) ⟨7,0,0⟩),_,_),hrun',E7 _ _ (by simp only[phi];have:=Vc_le p.n (A6 D (p.n-(0+1)) ⟨7,0,0⟩);omega),
     _,w,sl,p.n,_,_,_,.w1,0,g',_,_,rfl,ha',?_,hsp' tr0,hwg,?_,by simp,rfl⟩
    ·rw[A4,A4];exact .w1 hk
    ·rw[est .w1 rfl]
     exact .opn trivial ho' (by simp)
   | succ r2 =>
    obtain⟨tr0,hk⟩:=hnext
    refine⟨_,_,(phi p.n (Vc (p.n-(r2+1)) (A6 D (p.n-(r2+1+1)) ⟨7,0,0⟩)) (.sp r2 4)+Ssum (p.n-(r2+1)) (A6 D (p.n-(r2+1+1)) ⟨7,0,0⟩),_,_),hrun',E7 _ _ (by simp only[phi];omega),
     _,w,sl,p.n-(r2+1),_,_,_,.sp r2 4,0,g',_,_,rfl,ha',?_,hsp' tr0,hwg,?_,by simp,rfl⟩
    ·rw[A4,A4];exact .a1 (by omega) hk
    ·rw[est (.sp r2 4) rfl]
     exact .opn trivial ho' (by simp)
 | w1 h =>
  cases htr:r with
  | node f =>
   rw[htr]at h
   obtain⟨_,hv,hs⟩:=h
   obtain⟨g',v',w',es,hgo,hq,hgt⟩:=hs (V 0) w (.refl _) hsim0 hI
   have:=aYn (sl:=sl) G ha hcom hwg hmode (by simp) hgo hq (.w1 hgt) (by rw[hR,htr];exact qF f _)
   rwa [hR,htr]at this
  | leaf =>
   rw[htr]at h
   obtain⟨hd,_,hall⟩:=h
   obtain⟨ho,rfl,rfl,_⟩:=hmode.open_inv trivial
   have hwg0:w.heap[Wg]? = some (wgBlock L.tWg ((Vc p.n D:Nat)*KK:Int) 0):=by simpa[pend]using hwg
   obtain⟨g',hgo,h0,hne⟩:=hall w (Vc p.n D) (by omega) hwg0
   have hdd:deafBehind d0 #[rd (stA Wg)]=d0:=by simp[deafBehind,rd]
   rw[←(hR.trans htr)]
   by_cases hv:Vc p.n D=0
   ·obtain⟨n,hk⟩:=(h0 hv).count
    refine rI G ha hcom hgo (.refl Wg w) hwg (bkS ConcN.bk_rd) (tag':=.acq) (fun v _=>by rw[hdd];exact .acq hk) ?_ (by simp) (.inl (by simp only[phi];omega))
    have e:((Vc p.n D+pend .w1:Nat):Int)*KK=0:=by rw[hv];simp[pend]
    rw[e]
    exact .fin trivial (allQuit_of ho hv)
   ·obtain⟨n,hk⟩:=(hne hv).count
    refine rI G ha hcom hgo (.refl Wg w) hwg (bkS ConcN.bk_rd) (tag':=.w2 (Vc p.n D)) (fun v _=>by rw[hdd];subst hd;exact .w2 hk) (hmode.reopen trivial trivial rfl (fun vs e=>by cases e;omega)) (by simp) (.inl (by simp only[phi];omega))
 | w2 h =>
  rename_i vs n
  rw[←hR]
  rcases h.cases with ⟨hd,_,hall⟩|⟨n',rfl,_,g',es,hmu,hgo,h'⟩
  ·obtain⟨ho,rfl,rfl,hw2⟩:=hmode.open_inv trivial
   obtain⟨hle,h1⟩:=hw2 vs rfl
   have hwg0:w.heap[Wg]? = some (wgBlock L.tWg ((Vc p.n D:Nat)*KK:Int) 0):=by simpa[pend]using hwg
   obtain⟨hhit,hmiss⟩:=hall w (Vc p.n D) (by omega) hwg0
   by_cases e:Vc p.n D=vs
   ·obtain⟨g',hgo,hk⟩:=hhit e
    obtain⟨n2,hk⟩:=hk.count
    exact rI G ha hcom hgo (gV.set Wg w 0 _) (uW hwg0 _) (bkS Gu) (tag':=.w3) (fun v _=>by rw[show deafBehind d0 #[rd (stA Wg),wr (stA Wg)]=d0 by simp[deafBehind,rd,wr]];exact .w3 hk) (.reg trivial ho (by omega)) (by simp) (.inl (by simp only[phi];omega))
   ·obtain⟨g',hgo,hk⟩:=hmiss e
    have hdd:deafBehind d0 #[rd (stA Wg)]=d0:=by simp[deafBehind,rd]
    have hk':Dl P true (cN L.tWg Wg) (dG Wg) (fun d g=>d=1∧xD P L Wg K An d g) d0 g':=hk.bind fun d g hk2=>by
     rw[hk2.1,hd]
     exact hAn g hk2.2
    obtain⟨tr,hgt⟩:=hk'.gt (v:=V 0) hok0 (Stop:=aLh P L Wg K An) fun d g v1 _ hk=>⟨.leaf,hk⟩
    exact rI G ha hcom hgo (.refl Wg w) hwg (bkS ConcN.bk_rd) (tag':=.w1) (r':=tr) (fun v he=>by rw[hdd];exact .w1 (hgt.env uV he)) (hmode.reopen trivial trivial rfl (by simp)) (by simp) (.inl (by simp only[phi];omega))
  ·exact idle (by simp) (hgo w hI) hmu (fun v=>.w2 h') (by rw[hR];exact iN n')
 | w3 h =>
  rename_i n
  rw[←hR]
  rcases h.cases with ⟨hs,hoff,hblk,htake⟩|⟨n',rfl,_,g',es,hmu,hgo,h'⟩
  ·cases hmode with
   |opn h1 _ _=>exact h1.elim
   |reg h1 h2 h3=>exact rI G ha hcom (hblk w _ hwg) (.refl Wg w) hwg (by simp) (tag':=.blk) (r':=Tr.nat n) (fun v _=>.blk ⟨hs,hoff,hblk,htake⟩) (.reg trivial h2 h3) (by simp) (.inr ⟨rfl,by rw[hR];exact iN n⟩)
   |last L' h1 h2 h3 h4=>exact rI G ha hcom (hblk w _ hwg) (.refl Wg w) hwg (by simp) (tag':=.blk) (r':=Tr.nat n) (fun v _=>.blk ⟨hs,hoff,hblk,htake⟩) (.last L' trivial h2 h3 h4) (by simp) (.inr ⟨rfl,by rw[hR];exact iN n⟩)
   | sema h2 =>
    obtain⟨g',hgo,hk⟩:=htake w hwg
    obtain⟨n2,hk⟩:=hk.count
    exact rI G ha hcom hgo (gV.set Wg w 1 _) (aZx hwg 0) (bkS ConcN.bk_sem) (tag':=.w4) (fun v _=>by rw[show deafBehind d0 (semEvents (smA Wg))=d0 by simp[deafBehind,semEvents]];exact .w4 hk) (.fin trivial h2) (by simp) (.inl (by simp only[phi];omega))
   |fin h1 _=>exact h1.elim
  ·exact idle (by simp) (hgo w hI) hmu (fun v=>.w3 h') (by rw[hR];exact iN (n'+1))
 |blk h=>simp at hrun
 | w4 h =>
  rename_i n
  rw[←hR]
  rcases h.cases with ⟨_,hx⟩|⟨n',rfl,_,g',es,hmu,hgo,h'⟩
  ·obtain⟨hq,rfl,rfl⟩:=hmode.fin_inv trivial
   obtain⟨g',hgo,hk⟩:=hx w hwg
   obtain⟨n2,hk⟩:=hk.count
   exact rI G ha hcom hgo (.refl Wg w) hwg (bkS ConcN.bk_rd) (tag':=.acq) (fun v _=>by rw[show deafBehind d0 #[rd (stA Wg)]=d0 by simp[deafBehind,rd]];exact .acq hk) (.fin trivial hq) (by simp) (.inl (by simp only[phi];omega))
  ·exact idle (by simp) (hgo w hI) hmu (fun v=>.w4 h') (by rw[hR];exact iN n')
 | acq h =>
  rename_i n
  rw[←hR]
  rcases h.cases with ⟨hd,_,g',hgo,hk⟩|⟨n',rfl,_,g',es,hmu,hgo,h'⟩
  ·obtain⟨hq,rfl,rfl⟩:=hmode.fin_inv trivial
   obtain⟨n2,hk⟩:=hk.count
   have hlt':Wg<w.heap.size:=aY hwg
   refine nT G ha hcom (hgo w hI) ((gV.refl Wg w).kept G hcom.pay) (V':=V) hcom.vws (fun x _=>.refl _) (dH.of_env (.refl _)) (fun e he fn pos=>?_) (fun e he x hx=>?_) (fun e he=>?_) (fun e he=>?_) (fun _ _ _ _=>rfl) (tag':=.ret) (r':=Tr.nat n2)
    (by rw[show deafBehind d0 #[mk (.acquire (stA Wg))]=0 by simp[deafBehind,mk,hd]];exact .ret hk) hwg (.fin trivial hq) (fun _=>?_) (.inl (by simp only[phi];omega))
   ·simp at he;subst he;exact⟨rfl,fun x hx=>by simp[ofEvent_mk,Bu]at hx⟩
   ·simp at he;subst he;simp[ofEvent_mk,Bu]at hx
   ·simp at he;subst he;simp[mk]
   ·simp at he;subst he;rw[ofEvent_mk];exact hlt'
   ·have e1:BI 0 a.frame.fn a.frame.place #[mk (.acquire (stA Wg))]=#[{ g:=0,fn:=a.frame.fn,pos:=a.frame.place,act:=.mark (.acquire (stA Wg)) }]:=by rw[ofEvents_eq];simp[ofEvent_mk]
    have hy:(t++#[({ g:=0,fn:=a.frame.fn,pos:=a.frame.place,act:=.mark (.acquire (stA Wg)) }:MemOp)])[t.size]? = some { g:=0,fn:=a.frame.fn,pos:=a.frame.place,act:=.mark (.acquire (stA Wg)) }:=by simp
    have hm:=hcom.mpos
    refine⟨t.size,by rw[e1,act?_of hy],by rw[e1];simp[Gc],by rw[e1];exact⟨0,by simp[Gc],by rw[deaf_old (AA _)];exact hcom.deaf0.trans hd⟩,fun i hi=>?_⟩
    obtain⟨r,hr⟩:=hcom.rel i hi (by rw[hq i hi];omega)
    exact⟨r,hr.appOther EB (by omega),lt_of_act? hr.act⟩
  ·exact idle (by simp) (hgo w hI) hmu (fun v=>.acq h') (by rw[hR];exact iN n')
 | ret h =>
  rename_i n
  rw[←hR]
  rcases h.cases with ⟨hd,hk⟩|⟨n',rfl,_,g',es,hmu,hgo,h'⟩
  ·exact absurd ⟨rfl,hd,hk⟩ hstop
  ·have hm:=hcom.mpos
   exact rI G ha hcom (hgo w trivial) (.refl Wg w) hwg (fun e he=>.inl (bk_of_mute ((hmu e he).resolve_right id))) (tag':=.ret) (fun v _=>.ret h') hmode (fun _=>(hacq rfl).app fun i r _ hr=>hr.appOther EB (by omega)) (.inr ⟨rfl,by rw[hR];exact iN n'⟩)
end
end Go.Am
end
section
open List renaming map_map→ζ,mapM_map→ξ
namespace Go.Am
open Go.Conc Go.Conc.Lib
open Go.ConcN (CT Apart Ok0 OkW PermW RelBy CTag phi WD Vc Ssum sumTo sumTo_upd OpenSt AllQuit isOpen isW3 isFin pend phi_mono phi_retag le_sumTo Vc_le Vc_upd)
open Go.ConcR (KK wgBlock stA smA rd wr mk)
section
variable {P:Program} {L:WgLink} {Wg:Nat} {p:Pl} {K An:Goroutine→Prop} {S:Nat→Prop} {w0:World} {m j:Nat} {gs:Array Goroutine} {w w':World} {sl:Option (Nat×Nat)} {t:Trace} {D:Nat→WD} {R:Nat→Tr} {V V':Nat→World} {tag tag':CTag} {d0:Nat} {a a':Goroutine} {st sm st' sm':Int} {es:Array Event} {r':Tr} {Post:Value→World→Prop}
theorem CS.ret_j{d:Nat}{r:Tr}{v:World}(h:CS P L Wg p K An tag j r d a v)(e:tag=.ret):j=p.n:=by
 cases h<;>first|rfl|cases e
theorem bJx(hKr:∀ g,K g→g.status=.running)(G:Geo Wg p S)(ha:gs[0]? = some a)(hcs:CS P L Wg p K An tag j (R 0) d0 a (V 0))(hcom:Com P L Wg p S w0 m j gs w t D R V d0)(hwg:w.heap[Wg]? = some (wgBlock L.tWg st sm))(hmode:Ef j D tag st sm)
  (hacq:tag=.ret→uQ Wg m j t) {i:Nat} (h0:0<i) (him:i<m) {g:Goroutine} (hg:gs[i]? = some g) (hrun:g.status=.running) :
  ∃ M ops μ',runT P (crowd gs w sl) i=(.next M,ops)∧MLt μ' (phi p.n (Vc j D) tag+Ssum j D,jE R (m+j),R 0)∧Inv P L Wg p K An S w0 m μ' M (t++ops):=by
 obtain⟨g1,q,hg1,hR,hq⟩:=hcom.old i h0 him
 obtain rfl:g=g1:=by rw[hg]at hg1;exact Bg hg1
 cases q with
 |zero=>rw[hq.1]at hrun;cases hrun
 | succ q =>
  rcases hq with ⟨hf,_⟩|⟨_,g',es,hm',hstp,hq'⟩
  ·rw[hf]at hrun;cases hrun
  obtain⟨tag',r0,hcs',htag,hwk⟩:=hcs.wokenBy hKr g g' w
  have hrunT:=runT_crowd_go (P:=P) (sl:=sl) (i:=i) hg (by rw[show(i==0)=false by simp;omega];exact hstp w)
  have hcom':=hcom.stepO G h0 him hg hm' hq'
  have hcom'':Com P L Wg p S w0 m j ((gs.map (woken P g g' w)).setIfInBounds i g') w (t++BI i g.frame.fn g.frame.place es) D (A6 (A6 R i (Tr.nat q)) 0 r0) V d0 :=
   { hcom' with wk:=fun i' hi'=>by rw[Bd (A6 R i (Tr.nat q)) r0 (show m+i'≠0 by omega)];exact hcom'.wk i' hi',old:=fun i' h1 h2=>by rw[Bd (A6 R i (Tr.nat q)) r0 (show i'≠0 by omega)];exact hcom'.old i' h1 h2 }
  refine⟨_,_,(phi p.n (Vc j D) tag'+Ssum j D,jE (A6 (A6 R i (Tr.nat q)) 0 r0) (m+j),r0),hrunT,?_,_,w,sl,j,D,_,V,tag',d0,woken P g g' w a,st,sm,rfl,?_,by rw[A4];exact hcs',hcom'',hwg,hmode.retag htag,?_,by rw[A4]⟩
  ·rw[phi_retag p.n _ htag]
   refine Gd _ (E7 _ _ (aId (k:=i) (by omega) (by omega) ?_ fun x h0 hx=>by rw[Bd _ _ h0,Bd _ _ hx]))
   rw[Bd _ _ (by omega),A4,hR];exact iN q
  ·rw[AD (by omega),BM,ha];rfl
  ·intro e
   rcases htag with rfl|⟨_,rfl⟩
   ·exact(hacq e).app fun i' r _ hr=>hr.appOther EB (by omega)
   ·cases e
theorem aZo(hKr:∀ g,K g→g.status=.running)(ha:gs[0]? = some a)(hcs:CS P L Wg p K An tag j (R 0) d0 a (V 0))(hcom:Com P L Wg p S w0 m j gs w t D R V d0)(hmode:Ef j D tag st sm) :
  ∃(i:Nat) (g:Goroutine),gs[i]? = some g∧g.status=.running:=by
 rcases hcs.status hKr with ⟨h,_⟩|⟨_,rfl⟩
 ·exact⟨0,a,ha,h⟩
 have wk:∀ i,i<j→(D i).stage≠1→∃(i:Nat) (g:Goroutine),gs[i]? = some g∧g.status=.running:=fun i hi hne=>by
  obtain⟨g,hg,hs⟩:=hcom.wk i hi
  rcases hs.status with h|⟨_,h⟩
  ·exact⟨m+i,g,hg,h⟩
  ·exact absurd h hne
 cases hmode with
 |opn h1 _ _=>exact h1.elim
 | reg _ h2 h3 =>
  obtain⟨i,hi,h5⟩:∃ i,i<j∧B3 (D i)≠0:=Bf fun hno=>by
   have:Vc j D=0:=by
    have:∀ i,i<j→B3 (D i)=0:=fun i hi=>Bf fun hne=>hno ⟨i,hi,hne⟩
    have e:=ConcN.sumTo_congr (f:=fun i=>B3 (D i)) (g:=fun _=>0) (j:=j) this
    have z:∀ j,sumTo j (fun _=>0)=0:=fun j=>by induction j with
     |zero=>rfl
     |succ j ih=>simp[sumTo,ih]
    simp only[Vc];rw[e,z]
   omega
  refine wk i hi fun e=>h5 ?_
  simp[B3,e]
 |last L' _ h2 h3 _=>exact wk L' h2 (by omega)
 |fin h1 _=>exact h1.elim
theorem bHo(hKr:∀ g,K g→g.status=.running)(ha:gs[0]? = some a)(hcs:CS P L Wg p K An tag j (R 0) d0 a (V 0))(hcom:Com P L Wg p S w0 m j gs w t D R V d0):∀ g∈gs,awake g:=by
 intro g hg tm
 obtain⟨i,hi⟩:=Array.mem_iff_getElem?.1 hg
 by_cases h0:i=0
 ·subst h0
  rw[ha]at hi;cases hi
  rcases hcs.status hKr with ⟨hs,_⟩|⟨hs,_⟩<;>rw[hs]<;>simp
 ·have hlt:i<m+j:=by have:=(AZ.1 hi).1;rw[hcom.size]at this;omega
  by_cases him:i<m
  ·obtain⟨g',q,hg',_,hq⟩:=hcom.old i (by omega) him
   rw[hi]at hg';cases hg'
   rcases hq.status with h|h<;>rw[h]<;>simp
  ·obtain⟨g',hg',hs⟩:=hcom.wk (i-m) (by omega)
   rw[show m+(i-m)=i by omega,hi]at hg';cases hg'
   rcases hs.status with h|⟨h,_⟩<;>rw[h]<;>simp
theorem bMd(hKr:∀ g,K g→g.status=.running)(hAn:∀ g,An g→Dl P true (cN L.tWg Wg) (dG Wg) (fun d g=>d=1∧xD P L Wg K An d g) 1 g)(G:Geo Wg p S)(hn:p.n<2147483648)
  (hFin:∀(gs:Array Goroutine) (w:World) (sl:Option (Nat×Nat)) (R:Nat→Tr) (V:Nat→World) (D:Nat→WD) (a:Goroutine) (t:Trace),gs[0]? = some a→K a→Com P L Wg p S w0 m p.n gs w t D R V 0→w.heap[Wg]? = some (wgBlock L.tWg 0 0)→AllQuit p.n D→uQ Wg m p.n t→cZ P Post (crowd gs w sl) t) :
  ∀ μ M t,Inv P L Wg p K An S w0 m μ M t→cZ P Post M t:=by
 intro μ
 induction μ using bUl.induction with
 | _ μ ih =>
  rintro M t ⟨gs,w,sl,j,D,R,V,tag,d0,a,st,sm,rfl,ha,hcs,hcom,hwg,hmode,hacq,rfl⟩
  by_cases hstop:tag=.ret∧d0=0∧K a
  ·obtain⟨rfl,rfl,hk⟩:=hstop
   obtain⟨hq,rfl,rfl⟩:=hmode.fin_inv trivial
   obtain rfl:j=p.n:=hcs.ret_j rfl
   exact hFin gs w sl R V D a t ha hk hcom hwg hq (hacq rfl)
  obtain⟨i,g,d,sl',hg,hrun,hst⟩:=crowd_pick (P:=P) (w:=w) (sl:=sl) (bHo hKr ha hcs hcom) (aZo hKr ha hcs hcom hmode)
  have hcs':=hcs.env (bZ (V 0) (w.at d))
  have hcom':=hcom.at d
  have hwg':(w.at d).heap[Wg]? = some (wgBlock L.tWg st sm):=hwg
  have hm:=hcom.mpos
  by_cases h0:i=0
  ·subst h0
   obtain rfl:g=a:=by rw[ha]at hg;exact(Bg hg).symm
   obtain⟨M,ops,μ',h1,h2,h3⟩:=aMl (sl:=sl') hKr hAn G hn ha hcs' hcom' hwg' hmode hacq hrun hstop
   exact cZ.step (hst.trans h1) (ih μ' h2 M _ h3)
  have hlt:i<m+j:=by have:=(AZ.1 hg).1;rw[hcom.size]at this;omega
  by_cases him:i<m
  ·obtain⟨M,ops,μ',h1,h2,h3⟩:=bJx (sl:=sl') hKr G ha hcs' hcom' hwg' hmode hacq (by omega) him hg hrun
   exact cZ.step (hst.trans h1) (ih μ' h2 M _ h3)
  ·obtain⟨i',rfl⟩:∃ i',i=m+i':=⟨i-m,by omega⟩
   obtain⟨M,ops,μ',h1,h2,h3⟩:=aMj (sl:=sl') hKr G hn hcs.bound ha hcs' hcom' hwg' hmode hacq (by omega) hg hrun
   exact cZ.step (hst.trans h1) (ih μ' h2 M _ h3)
end
end Go.Am
end
section
open List renaming map_map→ζ,mapM_map→ξ
namespace Go.Am
open Go.Conc Go.Conc.Lib
open Go.ConcN (CT Apart Ok0 OkW PermW RelBy CTag phi WD Vc Ssum sumTo sumTo_upd OpenSt AllQuit isOpen isW3 isFin pend)
open Go.ConcR (KK wgBlock stA smA rd wr mk)
def inV(v:World)(C:Nat):World:={ v with heap:=((v.heap.map zZ).setIfInBounds C hole).push hole }
theorem tR(v:World)(C:Nat):(inV v C).heap.size=v.heap.size+1:=by simp[inV]
theorem aRs{v:World}{C:Nat}(h:C<v.heap.size):(inV v C).heap[C]? = some hole:=by simp[inV,Bm,h]
theorem aFy(v:World)(C:Nat):(inV v C).heap[v.heap.size]? = some hole:=by
 simp only[inV,Bm]
 simp
theorem xS{v:World}{C b:Nat}(h:b<v.heap.size)(hne:b≠C):(inV v C).heap[b]? = (v.heap[b]?).map zZ:=by
 simp only[inV,Bm,Array.size_setIfInBounds,Array.size_map,Ah (Nat.ne_of_lt h)]
 rw[AD (Ew hne),BM]
theorem bEf{v:World}{C b:Nat}(h:v.heap[b]? = some hole):(inV v C).heap[b]? = some hole:=by
 have hlt:=aY h
 by_cases e:b=C
 ·subst e;exact aRs hlt
 ·rw[xS hlt e,h,AQ,zY]
theorem aDi{v:World}{C b:Nat}(h:b≤v.heap.size):pV (inV v C) b:=by
 rcases Nat.lt_or_eq_of_le h with hlt|rfl
 ·by_cases e:b=C
  ·subst e;exact rY (aRs hlt)
  ·obtain⟨c,t,e'⟩:=pL v.heap[b]
   exact⟨c,t,by rw[xS hlt e,Ak hlt,AQ,e']⟩
 ·exact rY (aFy v C)
theorem bEe(v:World)(C:Nat):OkV (inV v C):=fun b o ho=>by
 have hlt:=aY ho
 rw[tR]at hlt
 obtain⟨c,t,e⟩:=aDi (v:=v) (C:=C) (b:=b) (by omega)
 rw[e]at ho;obtain rfl:=Bg ho;rfl
theorem bOe{v w:World}(h:Sim v w)(C:Nat)(o:Obj):Sim (inV v C) { w with heap:=w.heap.push o }:=by
 refine⟨h.tape,h.drawn,h.os,h.output,by rw[tR];simp[h.size],fun b x hx=>?_⟩
 have hlt:=aY hx
 rw[tR]at hlt
 by_cases e:b=v.heap.size
 ·subst e;rw[aFy]at hx;exact .inl (Bg hx).symm
 ·by_cases e':b=C
  ·subst e';rw[aRs (by omega)]at hx;exact .inl (Bg hx).symm
  ·rw[xS (by omega) e']at hx
   have:=(aKd h).blk b x (by rw[mQ];exact hx)
   simp only[Bm]
   rw[Ah (by rw[←h.size];exact e)]
   exact this
structure bQo(p:Pl)(v v':World):Prop where
 ok:OkV v'
 tape:v'.tape=v.tape
 os:v'.os=v.os
 output:v'.output=v.output
 size:v.heap.size<v'.heap.size
 old:∀ b,b<v.heap.size→b≠p.C→v'.heap[b]? = v.heap[b]?
 val:∃ cs:Array Value,v'.heap[p.C]? = some (.cells cs p.ety (0,0))∧cs.size=p.tot∧∀ i,i<p.n→∀ r,r<p.wd→cs[i*p.wd+r]? = some (p.val i r)
 new:∀ b,v.heap.size≤b→b<v'.heap.size→v'.heap[b]? = some hole
def KF(P:Program)(W0:World)(Post:Value→World→Prop)(p:Pl)(v:World)(g:Goroutine):Prop:=g.status=.running∧∀ v',bQo p v v'→dO P W0 Post g v'
section
variable {P:Program} {L:WgLink} {p:Pl} {W0:World} {Post:Value→World→Prop} {S:Nat→Prop}
theorem bVb{Wg m n:Nat}{gs:Array Goroutine}{w w0:World}{t:Trace}{D:Nat→WD}{R:Nat→Tr}{V:Nat→World}(hcom:Com P L Wg p S w0 m n gs w t D R V 0)(hacq:uQ Wg m n t):t.HandedOver:=by
 intro i g hgi hne hc
 have hm:=hcom.mpos
 by_cases hlt:g<m
 ·exact hcom.over i g hgi hne hlt hc
 obtain⟨q,h1,h2,h3,h4⟩:=hacq
 obtain⟨op,ho,rfl⟩:=Af.1 hgi
 have:=hcom.ct.gs i op ho
 obtain⟨r,hr,hrq⟩:=h4 (op.g-m) (by omega)
 rw[show m+(op.g-m)=op.g by omega]at hr
 have edge:HappensBefore t r q:=.single (.inr ⟨.marked hrq (.inr hr.act) h1 (fun k _ _=>hcom.norel k),hr.heard,h3⟩)
 have hle:i≤r:=Nat.le_of_not_lt fun hlt=>hr.after i hlt hgi hc
 rcases Az i r with hlt|hge
 ·exact⟨q,h2,.trans (.single (.inl ⟨hlt,op.g,hgi,hr.g⟩)) edge⟩
 ·obtain rfl:i=r:=by omega
  exact⟨q,h2,edge⟩
theorem WS.quits{Wg i s d:Nat}{r:Tr}{g:Goroutine}{v:World}(h:WS P L Wg p i s r d g v)(hs:s=1):∃ q,QuitsD P q d g:=by
 cases h<;>first|exact absurd hs (by decide)|exact⟨_,‹_›⟩
set_option maxHeartbeats 1600000 in
theorem bTu{v1 ws:World}(hsim:Sim v1 ws)(hok:OkV v1)(hKp:Kp W0 v1 ws)(hS:∀ b,S b→v1.heap[b]? = some hole){cs0:Array Value}(hC:v1.heap[p.C]? = some (.cells cs0 p.ety (0,0)))(hCs:cs0.size=p.tot)(hty:p.ety≠0)
  {m:Nat} {gs:Array Goroutine} {w:World} {sl:Option (Nat×Nat)} {R:Nat→Tr} {V:Nat→World} {D:Nat→WD} {a:Goroutine} {t:Trace} (ha:gs[0]? = some a) (hK:KF P W0 Post p v1 a)
  (hcom:Com P L ws.heap.size p S { ws with heap:=ws.heap.push (wgBlock L.tWg 0 0) } m p.n gs w t D R V 0) (hwg:w.heap[ws.heap.size]? = some (wgBlock L.tWg 0 0)) (hq:AllQuit p.n D) (hacq:uQ ws.heap.size m p.n t):cZ P Post (crowd gs w sl) t:=by
 have hm:=hcom.mpos
 have hsz:v1.heap.size=ws.heap.size:=hsim.size
 have hwlt:=aY hwg
 have hClt:=aY hC
 obtain⟨cs,fz,hcs,hcn,hfz⟩:=hcom.pay
 have hstay:∀ b,b<ws.heap.size→(b≠p.C∨p.tot=0)→w.heap[b]? = ws.heap[b]? := fun b hb hne=>by
  rw[hcom.stay b hb hne];simp only[Bm];rw[Ah (by omega)]
 generalize hv:({ v1 with heap:=v1.heap.setIfInBounds p.C (.cells cs p.ety (0,0))++AU (w.heap.size-v1.heap.size) hole,drawn:=w.drawn }:World)=v'
 have gC:v'.heap[p.C]? = some (.cells cs p.ety (0,0)):=by
  rw[←hv];simp only
  rw[BX (by simpa using hClt),BK hClt]
 have gO:∀ b,b<v1.heap.size→b≠p.C→v'.heap[b]? = v1.heap[b]? := fun b hb hne=>by
  rw[←hv];simp only
  rw[BX (by simpa using hb),AD (Ew hne)]
 have gS:v'.heap.size=w.heap.size:=by rw[←hv];simp;omega
 have gN:∀ b,v1.heap.size≤b→b<v'.heap.size→v'.heap[b]? = some hole:=fun b h1 h2=>by
  rw[gS]at h2
  rw[←hv];simp only
  rw[Cj (by simpa using h1),Array.getElem?_replicate]
  simp;omega
 have gok:OkV v':=fun b o ho=>by
  have hlt:=aY ho
  by_cases e:b=p.C
  ·subst e;rw[gC]at ho;obtain rfl:=Bg ho;rfl
  ·rcases Az b v1.heap.size with h|h
   ·rw[gO b h e]at ho;exact hok b o ho
   ·rw[gN b h hlt]at ho;obtain rfl:=Bg ho;rfl
 have gsim:Sim v' w:=by
  refine⟨?_,?_,?_,?_,gS,fun b o ho=>?_⟩
  ·rw[←hv,hcom.like.1];exact hsim.tape
  ·rw[←hv]
  ·rw[←hv,hcom.like.2.1];exact hsim.os
  ·rw[←hv,hcom.like.2.2];exact hsim.output
  ·have hlt:=aY ho
   by_cases e:b=p.C
   ·subst e;rw[gC]at ho;rw[hcs];obtain rfl:=Bg ho
    by_cases hz:cs.size=0
    ·exact .inr (.inr ⟨cs,p.ety,fz,by rw[hz],rfl⟩)
    ·rw[hfz hz];exact .inr (.inl rfl)
   ·rcases Az b v1.heap.size with h|h
    ·rw[gO b h e]at ho
     rw[hstay b (by omega) (.inl e)];exact hsim.blk b o ho
    ·rw[gN b h hlt]at ho;exact .inl (Bg ho).symm
 have hF:bQo p v1 v':=by
  refine⟨gok,by rw[←hv],by rw[←hv],by rw[←hv],by omega,gO,⟨cs,gC,hcn,fun i hi r hr=>?_⟩,gN⟩
  have:=hcom.has i hi (by rw[hq i hi];omega) r hr
  simpa[Bs,Pl.cell,hcs]using this
 have hover:=bVb hcom hacq
 have hquit:∀ i,0<i→∀ g,gs[i]? = some g→∃ q,QuitsD P q (Deaf t i) g:=fun i h0 g hg=>by
  have hlt:i<m+p.n:=by have:=(AZ.1 hg).1;rw[hcom.size]at this;exact this
  by_cases him:i<m
  ·obtain⟨g',q,hg',_,hqq⟩:=hcom.old i h0 him
   rw[hg]at hg';cases hg';exact⟨q,hqq⟩
  ·obtain⟨g',hg',hs⟩:=hcom.wk (i-m) (by omega)
   rw[show m+(i-m)=i by omega,hg]at hg';cases hg'
   obtain⟨q,hqq⟩:=hs.quits (hq (i-m) (by omega))
   have:=hcom.deafW (i-m) (by omega)
   rw[show m+(i-m)=i by omega]at this
   exact⟨q,by rw[this];exact hqq⟩
 have hqf:∃ q:Nat→Nat,∀ i g,0<i→gs[i]? = some g→QuitsD P (q i) (Deaf t i) g:=by
  classical
  refine GG (r:=fun i q=>∀ g,0<i→gs[i]? = some g→QuitsD P q (Deaf t i) g) (fun i=>?_) |>.elim fun q h=>⟨q,fun i g h0 hg=>h i g h0 hg⟩
  by_cases h:∃ g,0<i∧gs[i]? = some g
  ·obtain⟨g,h0,hg⟩:=h
   obtain⟨q,hqq⟩:=hquit i h0 g hg
   exact⟨q,fun g' _ hg'=>by rw[hg]at hg';cases hg';exact hqq⟩
  ·exact⟨0,fun g h0 hg=>(h ⟨g,h0,hg⟩).elim⟩
 obtain⟨q,hqf⟩:=hqf
 refine hK.2 v' hF v' (.refl _) gok (ShW S ws.heap.size) gs w sl t q (fun b hb=>?_) gsim ha ⟨fun i g h0 hg=>hqf i g h0 hg,fun i hi=>hcom.above i (by rw[←hcom.size];exact hi)⟩ ⟨hcom.ct.nr,fun i x hx hmm=>?_,hover,hcom.deaf0,hcom.seen⟩
  ⟨hcom.ct.quiet,hcom.mem,fun i op hop=>by have:=hcom.ct.gs i op hop;rw[hcom.size];omega⟩ (fun b o hb ho=>?_)
 ·rcases hb with hb|rfl
  ·have h:=hS b hb
   have hlt:=aY h
   rw[gO b hlt (fun e=>by subst e;rw[hC]at h;injection h with h;injection h with _ e2 _;exact hty e2)];exact h
  ·exact gN _ (by omega) (by omega)
 ·rcases hcom.kn i x hx with h|h|⟨⟨g,hg,hgm⟩,hk⟩
  ·exact .inl h
  ·exact .inr h
  ·obtain⟨q',hq1,hq2⟩:=hover i g hg (by omega) ⟨x,hx,hmm,.inl hk⟩
   obtain⟨z,hz,hzg⟩:=Af.1 hq1
   exact .inl ⟨q',z,hz,hzg,.inr hq2⟩
 ·obtain⟨h1,c,ty,h2⟩:=hKp b o hb ho
  have hlt:=aY h2
  by_cases e:b=p.C
  ·subst e
   rw[hC]at h2
   injection h2 with h2;injection h2 with e1 e2 e3
   subst e1;subst e2
   have hz:cs0.size=0:=by injection e3 with _ e4;exact e4.symm
   have hcz:cs.size=0:=by omega
   exact⟨(hstay _ (by omega) (.inr (by omega))).trans h1,cs,p.ety,by rw[gC,hcz]⟩
  ·exact⟨(hstay b (by omega) (.inl e)).trans h1,c,ty,(gO b hlt e).trans h2⟩
theorem aUs{g0:Goroutine}{g1:Nat→Goroutine}{v:World}(hrun:g0.status=.running)
  (halloc:∀ v1 w,Env v v1→OkV v1→Sim v1 w→stepG P true g0 w=.go (g1 w.heap.size) { w with heap:=w.heap.push (wgBlock L.tWg 0 0) } #[])
  (hC:∃ cs:Array Value,v.heap[p.C]? = some (.cells cs p.ety (0,0))∧cs.size=p.tot) (hty:p.ety≠0) (hn:p.n<2147483648)
  (hscr:∀ v1,Env v v1→OkV v1→∃ An:Goroutine→Prop,(∀ g,An g→Dl P true (cN L.tWg v1.heap.size) (dG v1.heap.size) (fun d g=>d=1∧xD P L v1.heap.size (KF P W0 Post p v1) An d g) 1 g) ∧
   rA P L v1.heap.size p (KF P W0 Post p v1) An p.n (g1 v1.heap.size) (inV v1 p.C)):dO P W0 Post g0 v:=by
 refine zL hrun fun v1 w he hok hsim hKp=>.inl ⟨_,_,_,halloc v1 w he hok hsim,fun S gs sl t q hS hg0 hL hP hTd=>?_⟩
 have et:t++BI 0 g0.frame.fn g0.frame.place #[]=t:=by rw[ofEvents_eq];simp
 rw[et]at hL ⊢
 obtain⟨cs0,hC,hCs⟩:=hC
 have hC1:v1.heap[p.C]? = some (.cells cs0 p.ety (0,0)):=by rw[he.get (aY hC)];exact hC
 have hClt:=aY hC1
 have hsz:v1.heap.size=w.heap.size:=hsim.size
 obtain⟨An,hAn,hscr⟩:=hscr v1 he hok
 rw[hsz]at hAn hscr
 have hlt0:0<gs.size:=(AZ.1 hg0).1
 have hwC:∃ f,w.heap[p.C]? = some (.cells cs0 p.ety f)∧(cs0.size≠0→f=(0,0)):=by
  rcases hsim.blk _ _ hC1 with e|e|⟨c,e',f',e,h⟩
  ·injection e with e1 e2 e3;exact absurd e2 hty
  ·exact⟨_,e,fun _=>rfl⟩
  ·injection e with e1 e2 e3;subst e1;subst e2
   refine⟨f',h,fun hz=>?_⟩
   injection e3 with _ e4;exact absurd e4.symm hz
 have G:Geo w.heap.size p S:=⟨by omega,fun hs=>by
  have:=hS _ hs
  rw[hC1]at this;injection this with this;injection this with _ e2 _;exact hty e2⟩
 have hfar:∀ i x,touchAt t i=some x→∀ a,x.loc=.cell a→a.block<w.heap.size:=fun i x hx a e=>by
  obtain⟨op,hop,hox⟩:=touch_of hx
  have:=aCf (hP.seen op (BS hop)) hox
  rw[e]at this;exact this
 have hpay0:aXj p { w with heap:=w.heap.push (wgBlock L.tWg 0 0) }:=by
  obtain⟨f,h1,h2⟩:=hwC
  refine⟨cs0,f,?_,hCs,h2⟩
  simp only[Bm]
  rw[Ah (by omega)];exact h1
 have hcom:∀ R:Nat→Tr,(∀ i,0<i→i<gs.size→R i=Tr.nat (q i))→Com P L w.heap.size p S { w with heap:=w.heap.push (wgBlock L.tWg 0 0) } gs.size 0 gs { w with heap:=w.heap.push (wgBlock L.tWg 0 0) } t (fun _=>⟨0,0,0⟩) R (fun _=>inV v1 p.C) 0:=fun R hR=>by
  have a0:∀ k,gB gs.size 0 k→k=0:=fun k hk=>hk.elim id fun x=>by omega
  have hfree:∀ l,¬cY (ShW S w.heap.size) l→Perm t 0 l:=fun l hl i x hx e=>by
   rcases hP.known i x hx (hTd.mem i x hx)with h|⟨h,_⟩
   ·exact h
   ·refine absurd ?_ hl
    rw[←e]
    cases hx':x.loc with
    |cell a=>rw[hx']at h;exact .inl h
    |_=>rw[hx']at h;exact h.elim
  refine⟨hlt0,rfl,fun i hi=>by omega,fun i h1 h2=>?_,fun i hi=>hL.above i hi,⟨fun i op x hop hx hs=>?_,fun k h1 h2 l hl=>absurd hl.2.1 (by have:=hl.1;omega),fun k h1 h2 l hl=>absurd hl.2.1 (by have:=hl.1;omega),fun l hl _=>hfree l hl,fun l hl _=>PermW.of (hfree l hl),hP.clean,fun i op hop=>by have:=hTd.num i op hop;omega⟩,
   fun i hi=>?_,hP.hears,fun i hi=>by omega,fun i hi=>by omega,fun i hi=>by omega,hpay0,⟨fun k hk=>bOe hsim _ _,fun k hk=>bEe _ _,fun k k' hk hk' hne=>absurd ((a0 k hk).trans (a0 k' hk').symm) hne⟩,fun k hk b hb=>aDi (by omega),fun k hk=>aRs hClt,fun k hk b hb=>?_,fun b hb hne=>rfl,⟨rfl,rfl,rfl⟩,fun i x hx=>?_,hTd.mem,fun i g hg hne _ hc=>hP.over i g hg hne hc,fun op hop=>MemAct.low_mono (by simp) (hP.seen op hop)⟩
  ·obtain⟨g,hg⟩:∃ g,gs[i]? = some g:=⟨_,Ak h2⟩
   exact⟨g,q i,hg,hR i h1 h2,hL.old i g h1 hg⟩
  ·have hxt:touchAt t i=some x:=by rw[touchAt_of hop];exact hx
   refine hTd.quiet i op x hop hx ?_
   cases hx':x.loc with
   | cell a =>
    rw[hx']at hs
    rcases hs with hs|hs
    ·exact hs
    ·have:=hfar i x hxt a hx';omega
   |_=>rw[hx']at hs;exact hs.elim
  ·obtain⟨op,hop,hoa⟩:=Af.1 hi
   have:=hP.seen op (BS hop)
   rw[hoa]at this
   exact absurd this (Nat.lt_irrefl _)
  ·rcases hb with hb|rfl
   ·exact bEf (hS b hb)
   ·rw[←hsz];exact aFy _ _
  ·rcases hP.known i x hx (hTd.mem i x hx)with h|⟨h,hk⟩
   ·exact .inl h
   ·refine .inr (.inl ⟨?_,hk⟩)
    cases hx':x.loc with
    |cell a=>rw[hx']at h;exact .inl h
    |_=>rw[hx']at h;exact h.elim
 have hwg:({ w with heap:=w.heap.push (wgBlock L.tWg 0 0) }:World).heap[w.heap.size]? = some (wgBlock L.tWg 0 0):=by simp
 have hmode:∀ tag,isOpen tag→pend tag=0→(∀ vs,tag≠.w2 vs)→Ef 0 (fun _=>(⟨0,0,0⟩:WD)) tag 0 0:=fun tag h1 h2 h3=>by
  have:=ConcN.Mode.opn (j:=0) (D:=fun _=>(⟨0,0,0⟩:WD)) h1 (fun i hi=>by omega) (fun vs e=>absurd e (h3 vs))
  simpa[Vc,sumTo,h2]using this
 have hrest:∀ μ M t,Inv P L w.heap.size p (KF P W0 Post p v1) An S { w with heap:=w.heap.push (wgBlock L.tWg 0 0) } gs.size μ M t→cZ P Post M t :=
  bMd (fun g h=>h.1) hAn G hn fun gs' w' sl' R V D a t' ha hk hcom' hwg' hq hacq=>bTu hsim hok hKp hS hC1 hCs hty ha hk hcom' hwg' hq hacq
 cases hpn:p.n with
 | zero =>
  rw[hpn]at hscr
  obtain⟨tr,hk⟩:=hscr
  refine hrest _ _ _ ⟨gs,_,sl,0,_,fun i=>if i=0 then tr else Tr.nat (q i),_,.w1,0,_,0,0,rfl,hg0,?_,hcom _ fun i h0 _=>Ah (by omega),hwg,hmode .w1 trivial rfl (by simp),by simp,rfl⟩
  have:=CS.w1 (p:=p) hk
  rw[hpn]at this
  exact this
 | succ r =>
  rw[hpn]at hscr
  obtain⟨tr,hk⟩:=hscr
  refine hrest _ _ _ ⟨gs,_,sl,0,_,fun i=>if i=0 then tr else Tr.nat (q i),_,.sp r 4,0,_,0,0,rfl,hg0,?_,hcom _ fun i h0 _=>Ah (by omega),hwg,hmode (.sp r 4) trivial rfl (by simp),by simp,rfl⟩
  have:=CS.a1 (p:=p) (r:=r) (by omega) hk
  rw[show p.n-(r+1)=0 by omega]at this
  exact this
end
end Go.Am
end
section
open List renaming map_map→ζ,mapM_map→ξ
namespace Go.Am
open Go.Conc
open RowKit (Below)
theorem bKr{P:Program}{f N:Nat}{fn:Func}{c:Code}{args:List D}{r:D}(hm:P.follows .mixedOrders=true)(hf:P.funcs[f]? = some fn)(hb:fn.body=some c)(hi:P.inits.idxOf? f=none)(hN:fn.ntmps=N)
    (hd:bH N c=true) (ha:args.length≤N) (h:letI:=bP P;Wal P c (St0 args N) fun e σ=>(e=.normal∨e=.ret)∧iY P fn.results.toList σ=some r)
    {W:World} {vs:Array Value} (hl:args.length=vs.size) (hv:∀(k:Nat) d v,args[k]? = some d→vs[k]? = some v→VD (fun b=>b<(strike W).heap.size) (strike W) d v) :
    cZ P (qW W r) (solo (G (CZ P f vs .normal) []) W) #[]:=by
  refine aMx hf hb hi ?_
  letI:=bP P
  subst hN
  refine bQ (h _ _ _ _ _ hm (fun _=>rfl) hd (SR0 (A:=fun b=>b<(strike W).heap.size) (uU W) (fun _ h=>h) hl hv ha)) ?_
  rintro e a w ⟨σ,⟨he,hr⟩,hs⟩
  have hend:a.defers=[]∧∀ v1,Env w v1→∃ x,aH P (results fn a.tmps) v1=.ok x v1∧Below (strike W).heap.size (strike W) v1∧VD (fun b=>b<v1.heap.size) v1 r x:=by
    refine⟨hs.2.2.2.elim fun _ h=>h.elim fun _ h=>h.2.2.2.2.1,fun v1 he=>?_⟩
    have hs1:=hs.env he
    obtain⟨v,hrun,hvd⟩:=dV hs1 hr
    obtain⟨_,_,_,F,ι,hR,_,_,_,hdf,_⟩:=hs1
    have hsz:=hR.kept.size
    refine⟨v,hrun,⟨hR.kept.os,hR.kept.tape,hR.kept.output,hR.kept.size,fun k hk=>hR.kept.block k hk (fun h=>h)⟩,hvd.mono ?_⟩
    rintro b (h|h|h)
    · exact A9 h hsz
    · exact h.elim
    · exact h.2
  rcases he with rfl|rfl<;>exact hend
end Go.Am
end
section
open List renaming map_map→ζ,mapM_map→ξ
namespace Go.Am
open Go.Conc
section
variable {P:Program} [M:Mch P]
theorem aQf{Win:Goroutine→World→Prop}(hW:M.Fam Win){ops:Array Oper}{b:Frame}{k:List Item}{cs:List Frame}(hb:mI b){Q:Exit→Act→World→Prop}{r:Nat}:∀(l:List Oper) (n:Nat) (a:Act) (v:World),OkV v→(∀ j o,l[j]? = some o→ops[n+j]? = some o)→gD P ops Q l a v →
  (∀ a' v',OkV v'→Q .normal a' v'→Win (G (b.at a' (.inRegion ops (Dy (n+l.length) r)::k)) cs) v')→Win (G (b.at a (.inRegion ops (Dy n (l.length+r))::k)) cs) v
 |[],n,a,v,hv,_,h,hk=>by simpa using hk a v hv h
 | o::l,n,a,v,hv,hl,h,hk=>by
  have ho:ops[n]? = some o:=by simpa using hl 0 o rfl
  have ih:=fun a v hv h=>aQf hW hb (Q:=Q) (r:=r) l (n+1) a v hv (fun j o hj=>by have:=hl (j+1) o (by simpa using hj);rw[←this];congr 1;omega) h (fun a' v' hv' hq=>by have:=hk a' v' hv' hq;rwa [show n+1+l.length=n+(o::l).length by simp;omega])
  rw[show(o::l).length+r=(l.length+r)+1 by simp;omega,List.range'_succ]
  unfold gD at h
  split at h
  ·rename_i hw
   exact aEd hW hb ho hw hv h fun a' v' hv' h'=>ih a' v' hv' h'
  ·rename_i hw
   exact sP hW ho hw hv (ih _ v hv h)
theorem aLw{Win:Goroutine→World→Prop}(hW:M.Fam Win){Gx:Ctx}{N:Nat}{ds:List Deferred}{σ:St}{a:Act}{v:World}{id:Nat}{ops:Array Oper}{l1 l2:List Oper}{b:Frame}{k:List Item}{cs:List Frame}{Q:St→Prop}
  (hb:mI b) (hops:ops.toList=l1++l2) (hdst:∀ o∈l1,∀ d,o.dst=some d→d<N∧Gx.Z d=none) (hsr:SR Gx N ds σ a v) (h:OWd P ops l1 σ [] (fun σ' con=>aLl σ' con Q .mk) .mk)
  (hk:∀ σ' a' v',OkV v'→Q σ'→SR Gx N ds σ' a' v'→Win (G (b.at a' (.inRegion ops (Dy l1.length l2.length)::k)) cs) v'):Win (G (b.at a (.code (.region id ops false)::k)) cs) v:=by
 have hv:OkV v:=hsr.2.2.1
 refine aI hW rfl hv (fun w=>stepG_region) ?_
 have hsz:ops.size=l1.length+l2.length:=by rw[←Array.length_toList,hops,List.length_append]
 rw[List.range_eq_range',hsz]
 obtain⟨hn0,hwf,hag⟩:=pW hsr
 obtain⟨h1,h2⟩:=hag σ.H fun _ _ h=>h
 have:=aFj (k:=fun σ' con=>Q (fin σ' con)) (Q':=fun e a' v'=>e=.normal∧∃ σ',Q σ'∧SR Gx N ds σ' a' v') (fun σ' con' s a w hq hn' hwf' hag' hr=>⟨rfl,_,hq,aBb hn' hwf' hag' hr⟩) l1 σ [] _ a v hdst hn0 hwf h1 h2 h
 refine aQf hW hb l1 0 a v hv (fun j o hj=>?_) this fun a' v' hv' hq=>?_
 ·rw[Ax,←Array.getElem?_toList,hops,AP (Ao.1 hj).1];exact hj
 ·obtain⟨_,σ',hq1,hq2⟩:=hq
  rw[Ax]
  exact hk σ' a' v' hv' hq1 hq2
end
theorem aGu{v:World}{N:Nat}{a:Act}{sl:List (Nat×AV)}{Z:Nat→Option Value}(hok:OkV v)(hN:a.tmps.size=N)(hZ:∀ t x,Z t=some x→a.tmps.getD t undef=x)
  (hs:∀ t,V (fun b=>b<v.heap.size) v (fun _=>none) (fV sl t) (a.tmps.getD t undef)):SR ⟨v,fun b=>b<v.heap.size,aW,fun _=>True,Z⟩ N a.defers (StL sl none []) a v:=by
 have hH:∀ id,(StL sl none []).H id=none:=fun id=>by
  cases id<;>simp[StL,bQc,xB]
 refine⟨fun id _=>hH id,fun h=>by simp[StL]at h,hok,fun b=>b<v.heap.size,fun _=>none,⟨.refl _ _ _,fun b h=>h,fun b h=>.inl h,fun _ _ h=>by simp at h,fun _ _ _ h=>by simp at h,fun _ _ _ h=>by simp at h,fun _ _ _ _ _ h=>by simp at h⟩,fun id=>by rw[hH];simp,hs,⟨hN,hZ⟩,rfl,fun _ h=>by simp at h⟩
theorem sU{F:Nat→Prop}{v:World}{ι:Nat→Option Nat}{T:Nat→Value}:∀(sl:List (Nat×AV)),(∀ x∈sl,V F v ι x.2 (T x.1))→∀ t,V F v ι (fV sl t) (T t)
 |[],_,t=>by exact .any _
 | (n,x)::sl,h,t=>by
  have ih:=sU sl (fun y hy=>h y (List.mem_cons_of_mem _ hy)) t
  have h0:=h (n,x) (List.mem_cons_self ..)
  by_cases e:t=n
  ·subst e;rw[fV,upd_same];exact h0
  ·rw[fV,upd_ne _ _ e];exact ih
end Go.Am
end
section
open List renaming map_map→ζ,mapM_map→ξ
namespace Go.Am
open Go Go.Conc.Lib Go.Proofs
def bG:WgLink:={ add:=25,done:=27,wait:=29,relMerge:=52,disable:=53,enable:=54,inBubble:=55,associate:=56,fatal:=57,uOr:=58,uAdd:=59,raceRead:=60,uLoad:=61,uStore:=62,disassociate:=63,semrelease:=64,acquire:=67,isAssociated:=68,uCas:=69,raceWrite:=70,semacquire:=71,orU64:=106,addU64:=107,loadU64:=108,storeU64:=109,casU64:=114,tWgP:=103,tUP:=105,tAssoc:=106,tWg:=74,tAU:=71,tU64:=43,tUint:=83,tU32:=72,tPU32:=110,tPAU:=160,tPU64:=162,tNoCopy:=67,tANoCopy:=68,tAlign64:=69 }
theorem aCb:WgLib Aa bG :=
  ⟨Tryz.func25,Tryz.func27,Tryz.func29,Tryz.func52,Tryz.func53,Tryz.func54,Tryz.func55,Tryz.func56,Tryz.func57,Tryz.func58,Tryz.func59,Tryz.func60,Tryz.func61,Tryz.func62,Tryz.func63,Tryz.func64,Tryz.func67,Tryz.func68,Tryz.func69,Tryz.func70,Tryz.func71,Tryz.func106,Tryz.func107,Tryz.func108,Tryz.func109,Tryz.func114,Tryz.underlying103,Tryz.runUnderlying103,Tryz.sizeOf103,Tryz.isAgg103,Tryz.zeroValue103,Tryz.underlying105,Tryz.runUnderlying105,Tryz.sizeOf105,Tryz.isAgg105,Tryz.zeroValue105,Tryz.underlying106,Tryz.runUnderlying106,Tryz.sizeOf106,Tryz.isAgg106,Tryz.zeroValue106,Tryz.underlying74,Tryz.runUnderlying74,Tryz.sizeOf74,Tryz.isAgg74,Tryz.zeroValue74,Tryz.underlying71,Tryz.runUnderlying71,Tryz.sizeOf71,Tryz.isAgg71,Tryz.zeroValue71,Tryz.underlying43,Tryz.runUnderlying43,Tryz.sizeOf43,Tryz.isAgg43,Tryz.zeroValue43,Tryz.underlying83,Tryz.runUnderlying83,Tryz.sizeOf83,Tryz.isAgg83,Tryz.zeroValue83,Tryz.underlying72,Tryz.runUnderlying72,Tryz.sizeOf72,Tryz.isAgg72,Tryz.zeroValue72,Tryz.underlying110,Tryz.runUnderlying110,Tryz.sizeOf110,Tryz.isAgg110,Tryz.zeroValue110,Tryz.underlying160,Tryz.runUnderlying160,Tryz.sizeOf160,Tryz.isAgg160,Tryz.zeroValue160,Tryz.underlying162,Tryz.runUnderlying162,Tryz.sizeOf162,Tryz.isAgg162,Tryz.zeroValue162,Tryz.underlying0,Tryz.runUnderlying0,Tryz.sizeOf0,Tryz.isAgg0,Tryz.zeroValue0,Tryz.underlying3,Tryz.runUnderlying3,Tryz.sizeOf3,Tryz.isAgg3,Tryz.zeroValue3,Tryz.underlying4,Tryz.runUnderlying4,Tryz.sizeOf4,Tryz.isAgg4,Tryz.zeroValue4,Tryz.underlying9,Tryz.runUnderlying9,Tryz.sizeOf9,Tryz.isAgg9,Tryz.zeroValue9,Tryz.underlying20,Tryz.runUnderlying20,Tryz.sizeOf20,Tryz.isAgg20,Tryz.zeroValue20,Tryz.underlying21,Tryz.runUnderlying21,Tryz.sizeOf21,Tryz.isAgg21,Tryz.zeroValue21,by kernel_rfl,by kernel_rfl⟩
end Go.Am
end
section
open List renaming map_map→ζ,mapM_map→ξ
open Go Go.Am Go.Proofs
namespace Go.Am
open Go.Conc Go.Conc.Lib Go.RowKit Go.ConcR.Gen
open Go.ConcR (KK wgBlock stA smA rd wr mk)
noncomputable def bot:Frame:={ (default:Frame)with fn:=Aa.funcs.size,defers:=[],mode:=.panicking [goexitEntry] }
def bN(b:Nat):Value:=.pointer (some ⟨b,0,none⟩)
def aCc(Wg Ba Bp Bi Br:Nat):Deferred:={ target:=.fn (.func 26) #[bN Wg,bN Ba,bN Bp,bN Bi,bN Br],args:=#[] }
noncomputable def bGn:Code:=Tryz.f26.body.getD .skip
theorem aWy(Wg Ba Bp Bi Br:Nat)(w:World):stepG Aa false (born Aa (aCc Wg Ba Bp Bi Br)) w =
    .go (G ((baseD 26).at ⟨#[bN Wg,bN Ba,bN Bp,bN Bi,bN Br]++AU 14 undef,[]⟩ [.code bGn]) [bot]) w #[]:=by
  simp[born,aCc,stepG,unwind,callDeferred,invoke,callFunc,Tryz.func26,Tryz.f26,seen,Cl,G,CZ,Frame.at,baseD,bot,bGn]
theorem aUj(T:Array Value)(todo:List Item):QuitsD Aa 2 0 (G { (baseD 26).at ⟨T,[]⟩ todo with mode:=.returning } [bot]):=by
  refine QuitsD.ctl (g':=G bot []) rfl (fun w=>?_) ?_
  · simp[G,stepG,unwind,doReturn,results,Frame.at,baseD,bot,Tryz.func26,Tryz.f26,seen,Cl,goexitEntry]
  refine QuitsD.ctl (g':={ G bot []with status:=.finished }) rfl (fun w=>?_) ⟨rfl,rfl⟩
  simp[G,stepG,unwind,bot,goexitEntry,Frame.catches]
  rfl
theorem aRv{F:Nat→Prop}{w:World}{ι:Nat→Option Nat}{cs:List D}{v:Value}(h:VD F w (.pt cs) v):V F w ι (.fp cs) v:=by
  cases h with
  |pt cs ad f hF hcell hel=>exact .fp cs ad f hF hcell hel
theorem v_i{F:Nat→Prop}{w:World}{ι:Nat→Option Nat}{k:IntKind}{n:Int}{v:Value}(h:V F w ι (.d (.i k n)) v):v=.int k n:=by
  cases h with|d _ _ h=>cases h;rfl
theorem nX{F:Nat→Prop}{w:World}{ι:Nat→Option Nat}{x v:Value}(h:V F w ι (.d (.lit x)) v):v=x:=by
  cases h with|d _ _ h=>cases h;rfl
abbrev aXi(Wg:Nat)(p:Pl)(i:Nat):=GoW Aa false (fun _=>True) noE (fun d g _=>bRq Aa bG Wg p i d g)
set_option maxRecDepth 100000 in
set_option maxHeartbeats 4000000 in
theorem aXy{Wg Ba Bp Bi Br:Nat}{p:Pl}{i:Nat}{v:World}{c0 c1 c2:D}{pr rp rv er:Int}{sv:Value}(hok:OkV v)
    (hBa:VD (fun b=>b<v.heap.size) v (.pt [c0,c1,c2]) (bN Ba)) (hBp:VD (fun b=>b<v.heap.size) v (.pt [.i .u64 pr]) (bN Bp)) (hBi:VD (fun b=>b<v.heap.size) v (.pt [.i .i64 i]) (bN Bi)) (hBr:VD (fun b=>b<v.heap.size) v (.pt [.lit sv]) (bN Br))
    (hsp:letI:=jX Aa false;Spec Aa 28 [.ag [c0,c1,c2],.i .u64 pr] (.tp [.ag [.i .u64 rp,.i .u64 rv],.i .i64 er]))
    (hlast:∀(a:Act) (v':World) (ops:Array Oper) (o6 o7:Oper),OkV v'→ops[5]? = some o6→ops[6]? = some o7→o6.op=.indexAddr 31 (.tmp 13) (.tmp 14)→o6.dst=some 18→o6.guard=none→o7.op=.store 47 (.tmp 18) (.tmp 17)→o7.dst=none→o7.guard=none →
      a.tmps.size=19→a.defers=[dcall 27 #[bN Wg]]→a.tmps.getD 13 undef=sv→a.tmps.getD 14 undef=.int .i64 i→a.tmps.getD 17 undef=.agg #[.int .i64 i,.int .u64 rp,.int .u64 rv] →
      aXi Wg p i (G ((baseD 26).at a [.inRegion ops [5,6]]) [bot]) v') :
    aXi Wg p i (born Aa (aCc Wg Ba Bp Bi Br)) v:=by
  letI:=jX Aa false
  have hW:(jX Aa false).Fam (aXi Wg p i):=.inl ⟨_,_,_,fun _ _ _ _ h _=>h,rfl⟩
  have hb:mI (baseD 26):=.inr rfl
  refine aI hW rfl hok (fun w=>aWy Wg Ba Bp Bi Br w) ?_
  simp only[bGn,Tryz.f26,AT]
  refine aI hW rfl hok (fun w=>stepG_seq) ?_
  refine aI hW rfl hok (fun w=>stepG_region) ?_
  refine aI hW rfl hok (fun w=>stepG_defer rfl rfl (by k_ne) rfl) ?_
  walk_nrm
  refine aI hW rfl hok (fun w=>stepG_region_end) ?_
  refine aI hW rfl hok (fun w=>stepG_seq) ?_
  refine cG (G:=⟨v,fun b=>b<v.heap.size,aW,fun _=>True,fun _=>none⟩) (N:=19) (ds:=[dcall 27 #[bN Wg]]) aT (fun _=>rfl) _
    (fun e σ=>e=.normal∧∃ id,σ.Γ 5=.ptr id 0∧σ.H id=some (.cells 45 [.d (.i .u64 rp),.d (.i .u64 rv)])∧σ.Γ 3=.fp [.i .i64 i]∧σ.Γ 4=.fp [.lit sv])
    (StL [(1,.fp [c0,c1,c2]),(2,.fp [.i .u64 pr]),(3,.fp [.i .i64 i]),(4,.fp [.lit sv])] none []) _ v (by kernel_rfl) (by kernel_rfl) ?hawp
    ?hsr _ hW hok _ _ _ hb fun e a' v' hv' hq=>?_
  case hsr =>
    refine aGu (Z:=fun _=>none) hok rfl (fun _ _ h=>by simp at h) (sU _ ?_)
    simp only[List.forall_mem_cons]
    exact⟨aRv hBa,aRv hBp,aRv hBi,aRv hBr,fun _ h=>by simp at h⟩
  case hawp =>
    simp[-ζ,-ξ,↓KW]
    refine aD hsp ?_
    simp[-ζ,-ξ,↓KW]
  obtain⟨σ,⟨rfl,id,h5,hH,h3,h4⟩,hsr⟩:=hq
  simp only[nW]
  refine aLw hW hb (l1:=List.take 5 _) (l2:=List.drop 5 _) (List.take_append_drop 5 _).symm ?hdst hsr (Q:=fun σ'=>σ'.Γ 13=.d (.lit sv)∧σ'.Γ 14=.d (.i .i64 i)∧σ'.Γ 17=.ag [.d (.i .i64 i),.d (.i .u64 rp),.d (.i .u64 rv)]) ?how fun σ' a'' v'' hv'' hq hsr'=>?_
  case hdst =>
    intro o ho d hd
    simp at ho
    rcases ho with rfl|rfl|rfl|rfl|rfl<;>simp at hd<;>subst hd<;>exact⟨by decide,rfl⟩
  case how =>
    simp only[List.take_succ_cons,List.take_zero]
    simp[-ζ,-ξ,↓KW,h5,hH,h3,h4]
  obtain⟨q13,q14,q17⟩:=hq
  obtain⟨_,_,_,F,ι,hR,_,hV,⟨hN,_⟩,hds,_⟩:=hsr'
  have e13:a''.tmps.getD 13 undef=sv:=by
    have h:=hV 13;rw[q13]at h
    exact nX h
  have e14:a''.tmps.getD 14 undef=.int .i64 i:=by
    have h:=hV 14;rw[q14]at h
    exact v_i h
  have e17:a''.tmps.getD 17 undef=.agg #[.int .i64 i,.int .u64 rp,.int .u64 rv]:=by
    have h:=hV 17;rw[q17]at h
    generalize a''.tmps.getD 17 undef=x at h
    cases h with
    | ag cs vs hl h =>
      have h0:vs[0]? = some (.int .i64 i):=by
        have hx:=Ak (xs:=vs) (i:=0) (by simp at hl;omega)
        rw[hx,v_i (h 0 _ _ rfl hx)]
      have h1:vs[1]? = some (.int .u64 rp):=by
        have hx:=Ak (xs:=vs) (i:=1) (by simp at hl;omega)
        rw[hx,v_i (h 1 _ _ rfl hx)]
      have h2:vs[2]? = some (.int .u64 rv):=by
        have hx:=Ak (xs:=vs) (i:=2) (by simp at hl;omega)
        rw[hx,v_i (h 2 _ _ rfl hx)]
      congr 1
      apply Array.ext_getElem?
      intro k
      match k with
      |0=>exact h0
      |1=>exact h1
      |2=>exact h2
      |k+3=>rw[Array.getElem?_eq_none (by simp at hl;omega)];simp
  show aXi Wg p i (G ((baseD 26).at a'' [.inRegion _ [5,6]]) [bot]) v''
  exact hlast a'' v'' _ _ _ hv'' (by rfl) (by rfl) rfl rfl rfl rfl rfl rfl hN hds e13 e14 e17
end Go.Am
end
section
open List renaming map_map→ζ,mapM_map→ξ
namespace Go.Am
open Go.Conc
structure aLm(C o:Nat)(vs:List Value)(t:TypeId)(cur:Array Value)(w w':World):Prop where
 tape:w'.tape=w.tape
 os:w'.os=w.os
 output:w'.output=w.output
 size:w'.heap.size=w.heap.size
 block:∀ b,b≠C→w'.heap[b]? = w.heap[b]?
 new:∃ cur':Array Value,w'.heap[C]? = some (.cells cur' t (0,0))∧cur'.size=cur.size∧(∀ r v,vs[r]? = some v→cur'[o+r]? = some v)∧∀ k,(k<o∨o+vs.length≤k)→cur'[k]? = cur[k]?
theorem oF{P:Program}{C o:Nat}{t:TypeId}:∀(vs:List Value) (i:Nat) (cur:Array Value) (w:World) (es:Array Event),w.heap[C]? = some (.cells cur t (0,0))→o+i+vs.length≤cur.size→(∀ v∈vs,v.oneCell'=true) →
  ∃ w' es',(storeCells ⟨C,o,none⟩ vs i).runT P w es=(.ok () w',es++es')∧aLm C (o+i) vs t cur w w'∧∀ e∈es',∃ r,r<vs.length∧e=⟨.cell ⟨C,o+i+r,none⟩,true,false⟩
 |[],i,cur,w,es,hC,_,_=>⟨w,#[],by simp[storeCells,ED],⟨rfl,rfl,rfl,rfl,fun _ _=>rfl,cur,hC,rfl,fun r v h=>by simp at h,fun _ _=>rfl⟩,by simp⟩
 | v::vs,i,cur,w,es,hC,hl,h1=>by
  have hi:o+i<cur.size:=by simp at hl;omega
  have hadd:(⟨C,o,none⟩:Addr).add i=⟨C,o+i,none⟩:=gH _ _ _
  have hcell:w.cell? ⟨C,o+i,none⟩=some cur[o+i]:=by simp[Bs,hC,hi]
  have hfro:w.frozen? ⟨C,o+i,none⟩=false:=by simp[Dp,hC]
  have hC':(w.setCell ⟨C,o+i,none⟩ v).heap[C]? = some (.cells (cur.setIfInBounds (o+i) v) t (0,0)):=by
   rw[cV,Ap rfl,hC];simp[bKm]
  obtain⟨w',es',hr,hp,he⟩:=oF (P:=P) (C:=C) (o:=o) (t:=t) vs (i+1) (cur.setIfInBounds (o+i) v) (w.setCell ⟨C,o+i,none⟩ v) (es.push ⟨.cell ⟨C,o+i,none⟩,true,false⟩) hC' (by simp at hl ⊢;omega) (fun x hx=>h1 x (by simp[hx]))
  have hv:=h1 v (by simp)
  refine⟨w',#[⟨.cell ⟨C,o+i,none⟩,true,false⟩]++es',?_,⟨hp.tape,hp.os,hp.output,hp.size.trans (by simp[E5]),fun b hb=>(hp.block b hb).trans (by rw[cV,Ah hb]),?_⟩,?_⟩
  ·have hs:∀ k:Sem Unit,(Sem.store .plain ⟨C,o+i,none⟩ v k).runT P w es=k.runT P (w.setCell ⟨C,o+i,none⟩ v) (es.push ⟨.cell ⟨C,o+i,none⟩,true,false⟩):=by
    intro k
    cases v<;>first|(simp[Co]at hv;done)|(simp only[ED,hcell,hfro];rfl)
   show(Ei (store ((⟨C,o,none⟩:Addr).add i) v) fun _=>storeCells ⟨C,o,none⟩ vs (i+1)).runT P w es=_
   rw[hadd]
   simp only[store,Ei]
   rw[hs,hr];simp
  ·obtain⟨cur',g1,g2,g3,g4⟩:=hp.new
   refine⟨cur',g1,by simpa using g2,fun r x hx=>?_,fun k hk=>?_⟩
   ·cases r with
    | zero =>
     simp at hx;subst hx
     rw[Nat.add_zero,g4 _ (.inl (by omega))]
     simp[hi]
    |succ r=>rw[show o+i+(r+1)=o+(i+1)+r by omega];exact g3 r x (by simpa using hx)
   ·simp only[Aj]at hk
    rw[g4 k (by omega),AD (by omega)]
  ·intro e hx
   rcases DD.1 hx with hx|hx
   ·simp at hx;subst hx;exact⟨0,by simp,by simp⟩
   ·obtain⟨r,hr',rfl⟩:=he e hx
    exact⟨r+1,by simp;omega,by rw[show o+(i+1)+r=o+i+(r+1)by omega]⟩
theorem bTp{P:Program}{a:Act}{o:Oper}{x y:Operand}{t:TypeId}{C off n:Nat}{vs cur:Array Value}{e:TypeId}{w:World}(hop:o.op=.store t x y)(hx:a.eval x=.pointer (some ⟨C,off,none⟩))(hy:a.eval y=.agg vs)(hvs:vs.size=n)
  (h1:∀ v∈vs.toList,v.oneCell'=true) (hsz:∀ w es,(sizeOf t).runT P w es=(.ok n w,es)) (hC:w.heap[C]? = some (.cells cur e (0,0))) (hfit:off+n≤cur.size) :
  ∃ w' es,(execOp a.eval o).run P w=.ok .skip w'∧(execOp a.eval o).events P w #[]=es∧aLm C off vs.toList e cur w w'∧∀ ev∈es,∃ r,r<n∧ev=⟨.cell ⟨C,off+r,none⟩,true,false⟩:=by
 obtain⟨w',es',hr,hp,he⟩:=oF (P:=P) (C:=C) (o:=off) (t:=e) vs.toList 0 cur w #[] hC (by simp;omega) h1
 have hT:(execOp a.eval o).runT P w #[]=(.ok .skip w',#[]++es'):=by
  unfold execOp
  simp only[hop,hx,hy,Instr.storeAt,Instr.sureAddr,storeVar,Value.cells]
  show(Ei _ _).runT P w #[]=_
  simp only[Sem.runT_bind',Bind.bind,Ei,Pure.pure,hsz,hvs,ne_eq,not_true_eq_false,Av,hr]
  simp[ED]
 have hE:=Di P (execOp a.eval o) w #[]
 rw[hT]at hE
 refine⟨w',es',(congrArg Prod.fst hE).symm,by have:=congrArg Prod.snd hE;simpa using this.symm,by simpa using hp,fun ev hev=>?_⟩
 obtain⟨r,h2,h3⟩:=he ev hev
 exact⟨r,by simpa[hvs]using h2,by simpa using h3⟩
end Go.Am
end
section
open List renaming map_map→ζ,mapM_map→ξ
namespace Go.Am
open Go.Conc Go.ConcR.Gen Go.Conc.Lib Go.RowKit Go.ConcR
open Go
end Go.Am
end
section
open List renaming map_map→ζ,mapM_map→ξ
open Go Go.Am Go.Proofs
namespace Go.Am
open Go.Conc Go.Conc.Lib Go.RowKit Go.ConcR.Gen
open Go.ConcR (KK wgBlock stA smA rd wr mk)
def bYs(Wg:Nat):Prop:=∀{c:Frame} {cs:List Frame} {q:Nat},c.mode=.returning→QuitsD Aa q 0 (G c cs) →
    Dl Aa false (cN bG.tWg Wg) noE (wC Aa bG Wg) 0 (G ((baseD bG.done).at ⟨#[.pointer (some ⟨Wg,0,none⟩),undef,undef,undef],[]⟩ [.code (body_done bG)]) (c::cs))
theorem bKw{α:Type}{P:Program}{s:Sem α}{r:α}(h1:∀ w,s.run P w=.ok r w)(h2:∀ w es,s.events P w es=es)(w:World)(es:Array Event):s.runT P w es=(.ok r w,es):=by
  rw[Di,h1,h2]
theorem bSx(w:World)(es:Array Event):(sizeOf 47).runT Aa w es=(.ok 3 w,es):=by
  refine bKw Tryz.sizeOf47 (fun w es=>?_) w es
  simp[sizeOf,typeInfo,go_sem]
  split<;>simp[stuck]
theorem bXx{a:Act}{o:Oper}{C n cap i:Nat}(hop:o.op=.indexAddr 31 (.tmp 13) (.tmp 14))(hx:a.tmps.getD 13 undef=.slice (some ⟨C,0,none⟩) n cap)(hy:a.tmps.getD 14 undef=.int .i64 i)(hi:i<n)(w:World) :
    (execOp a.eval o).run Aa w=.ok (.value (.pointer (some ⟨C,i*3,none⟩))) w∧(execOp a.eval o).events Aa w #[]=#[]:=by
  have hx':a.eval (.tmp 13)=.slice (some ⟨C,0,none⟩) n cap:=hx
  have hy':a.eval (.tmp 14)=.int .i64 i:=hy
  have h0:(0:Int)≤i:=by omega
  have h1:(i:Int)<n:=by omega
  have ha:(⟨C,0,none⟩:Addr).add (i*3)=⟨C,i*3,none⟩:=by rw[gH,Ax]
  unfold execOp
  simp only[hop,hx',hy']
  constructor
  · simp[go_sem,E6,Tryz.runUnderlying31,Tryz.sizeOf47,h0,h1,ha]
    intro hh;omega
  · simp[go_sem,E6,Tryz.runUnderlying31,Tryz.sizeOf47,h0,h1,ha]
    intro hh;omega
set_option maxRecDepth 100000 in
theorem aSr{Wg:Nat}{p:Pl}{i n cap:Nat}{rp rv:Int}(hdone:bYs Wg)(hwd:p.wd=3)(hi:i<p.n)(hn:p.n=n)(h0:p.val i 0=.int .i64 i)(h1:p.val i 1=.int .u64 rp)(h2:p.val i 2=.int .u64 rv)
    {a:Act} {v':World} {ops:Array Oper} {o6 o7:Oper} (hv:OkV v') (ho6:ops[5]? = some o6) (ho7:ops[6]? = some o7) (p6:o6.op=.indexAddr 31 (.tmp 13) (.tmp 14)) (d6:o6.dst=some 18) (g6:o6.guard=none) (p7:o7.op=.store 47 (.tmp 18) (.tmp 17)) (d7:o7.dst=none) (g7:o7.guard=none)
    (hN:a.tmps.size=19) (hds:a.defers=[dcall 27 #[bN Wg]]) (e13:a.tmps.getD 13 undef=.slice (some ⟨p.C,0,none⟩) n cap) (e14:a.tmps.getD 14 undef=.int .i64 i) (e17:a.tmps.getD 17 undef=.agg #[.int .i64 i,.int .u64 rp,.int .u64 rv]) :
    aXi Wg p i (G ((baseD 26).at a [.inRegion ops [5,6]]) [bot]) v':=by
  have hW:(jX Aa false).Fam (aXi Wg p i):=.inl ⟨_,_,_,fun _ _ _ _ h _=>h,rfl⟩
  letI:=jX Aa false
  have w6:Bl o6 (yielded ops a.tmps)=true:=by simp[Bl,g6]
  refine aI hW (g':=G ((baseD 26).at (a.put o6.dst (.pointer (some ⟨p.C,i*3,none⟩))) [.inRegion ops [6]]) [bot]) rfl hv (fun w=>?_) ?_
  · have hx:=bXx p6 e13 e14 (by omega) w
    rw[stepG_value ho6 w6 (by k_ne) hx.1];unfold listed;rw[hx.2,seen_none]
  rw[d6]
  have hget:∀ t,t≠18→(a.put (some 18) (.pointer (some ⟨p.C,i*3,none⟩))).eval (.tmp t)=a.tmps.getD t undef:=fun t ht=>by
    simp[Act.put,Dk,Ay,AD (Ew ht)]
  have h18:(a.put (some 18) (.pointer (some ⟨p.C,i*3,none⟩))).eval (.tmp 18)=.pointer (some ⟨p.C,i*3,none⟩):=by
    simp[Act.put,Dk,Ay,hN]
  have hds':(a.put (some 18) (.pointer (some ⟨p.C,i*3,none⟩))).defers=a.defers:=rfl
  generalize a.put (some 18) (.pointer (some ⟨p.C,i*3,none⟩))=a2 at hget h18 hds'
  have w7:Bl o7 (yielded ops a2.tmps)=true:=by simp[Bl,g7]
  refine⟨.leaf,rfl,rfl,fun w hp=>?_⟩
  obtain⟨cur,f,hC,hsz,hf⟩:=hp
  have hpos:0<p.n*3:=by omega
  have hle:=p.le;rw[hwd]at hle
  have hfz:f=(0,0):=hf (by rw[hsz];omega)
  subst hfz
  have hfit:i*3+3≤cur.size:=by
    rw[hsz]
    have:(i+1)*3≤p.n*3:=BZ _ hi
    omega
  obtain⟨w',es,hr,he,hput,hes⟩:=bTp (P:=Aa) (n:=3) p7 h18 ((hget 17 (by decide)).trans e17) rfl (by simp[Co]) bSx hC hfit
  refine⟨_,w',_,stepG_none ho7 w7 (by k_ne) hr,?_,fun ev hev=>?_,?_⟩
  · obtain⟨cur',g1,g2,g3,g4⟩:=hput.new
    refine⟨hput.tape,hput.os,hput.output,hput.size,hput.block,⟨cur',(0,0),g1,by rw[g2,hsz],fun _=>rfl⟩,fun o ho=>?_,fun r hr=>?_⟩
    · rw[hwd]at ho
      have:=g4 o (by simp;omega)
      simp[Bs,g1,hC,this]
    · rw[hwd]at hr
      match r,hr with
      |0,_=>rw[h0];simpa[Bs,Pl.cell,g1,hwd]using g3 0 _ rfl
      |1,_=>rw[h1];simpa[Bs,Pl.cell,g1,hwd]using g3 1 _ rfl
      |2,_=>rw[h2];simpa[Bs,Pl.cell,g1,hwd]using g3 2 _ rfl
  · have:=mem_listed hev
    rw[he]at this
    obtain⟨r,hr,rfl⟩:=hes ev this
    exact⟨r,by omega,by simp[Pl.cell,hwd]⟩
  · rw[d7]
    refine Dl.regionEnd (Dl.done ?_)
    refine Dl.ctl rfl (fun w _=>stepG_unwind_enter (hds'.trans hds) Tryz.func27 (nm_done bG) rfl) ?_
    have:=hdone (c:={ (baseD 26).at ⟨a2.tmps,[]⟩ []with mode:=.returning }) (cs:=[bot]) rfl (aUj a2.tmps [])
    simp only[body_done,doneFn,AT]at this
    exact this
end Go.Am
end
section
open List renaming map_map→ζ,mapM_map→ξ
namespace Go.Am
open Go.Conc Go.ConcR.Gen Go.Conc.Lib Go.RowKit Go.ConcR
open Go.ConcN (st_flag st_waiters)
open Go
set_option maxRecDepth 100000 in
set_option maxHeartbeats 8000000 in
theorem bJu{L:WgLink}{P:Program}(H:WgLib P L){Wg:Nat}{cs:List Frame}{b0:Frame}{a0:Act}{ops0:Array Oper}{i0:Nat}{rest0:List Nat}{k0:List Item}
    (hT:∃ q,QuitsD P q 0 (G (b0.at (a0.put ((ops0[i0]?).bind (·.dst)) (.tuple #[])) (.inRegion ops0 rest0::k0)) cs)) :
    Dl P false (cN L.tWg Wg) noE (wC P L Wg) 0 (G ((base L.add).at ⟨#[.pointer (some ⟨Wg,0,none⟩),.int .i64 (-1)]++AU 115 undef,[]⟩ [.code (body_add L)]) (b0.at a0 (.inRegion ops0 (i0::rest0)::k0)::cs)):=by
  have hT':Dl P false (fun _=>True) (fun _=>False) (fun d g=>∃ n,QuitsD P n d g) 0 (G (b0.at (a0.put ((ops0[i0]?).bind (·.dst)) (.tuple #[])) (.inRegion ops0 rest0::k0)) cs):=.here hT
  lib_facts
  simp only[body_add,addFn,AT]
  repeat (with_reducible (first|refine Dl.seq ?_|(refine Dl.region ?_;simp only[Ar,Aj,Au,AO,Ax,AK,AE])|refine Dl.regionEnd ?_|refine Dl.skip ?_|refine Dl.ret ?_|refine Dl.block ?_|refine Dl.inBlock ?_|refine Dl.loop ?_|refine Dl.inLoop ?_|refine Dl.exit (by with_unfolding_all rfl) ?_|(refine Dl.cond true (by with_unfolding_all rfl) ?_;simp only[AF,Av,Ae,↓reduceIte])|(refine Dl.cond false (by with_unfolding_all rfl) ?_;simp only[AF,Av,Ae,↓reduceIte])))
  (refine Dl.value _ rfl rfl (by k_ne) (fun _ _=>by(go_simp;try (first|rfl|w_num|decide))) (fun _ _=>by simp[go_sem, *]) ?_;walk_nrm)
  repeat (with_reducible (first|refine Dl.seq ?_|(refine Dl.region ?_;simp only[Ar,Aj,Au,AO,Ax,AK,AE])|refine Dl.regionEnd ?_|refine Dl.skip ?_|refine Dl.ret ?_|refine Dl.block ?_|refine Dl.inBlock ?_|refine Dl.loop ?_|refine Dl.inLoop ?_|refine Dl.exit (by with_unfolding_all rfl) ?_|(refine Dl.cond true (by with_unfolding_all rfl) ?_;simp only[AF,Av,Ae,↓reduceIte])|(refine Dl.cond false (by with_unfolding_all rfl) ?_;simp only[AF,Av,Ae,↓reduceIte])))
  (refine Dl.value _ rfl rfl (by k_ne) (fun _ _=>by(go_simp;try (first|rfl|w_num|decide))) (fun _ _=>by simp[go_sem, *]) ?_;walk_nrm)
  repeat (with_reducible (first|refine Dl.seq ?_|(refine Dl.region ?_;simp only[Ar,Aj,Au,AO,Ax,AK,AE])|refine Dl.regionEnd ?_|refine Dl.skip ?_|refine Dl.ret ?_|refine Dl.block ?_|refine Dl.inBlock ?_|refine Dl.loop ?_|refine Dl.inLoop ?_|refine Dl.exit (by with_unfolding_all rfl) ?_|(refine Dl.cond true (by with_unfolding_all rfl) ?_;simp only[AF,Av,Ae,↓reduceIte])|(refine Dl.cond false (by with_unfolding_all rfl) ?_;simp only[AF,Av,Ae,↓reduceIte])))
  (refine Dl.value _ rfl rfl (by k_ne) (fun _ _=>by(go_simp;try (first|rfl|w_num|decide))) (fun _ _=>by simp[go_sem, *]) ?_;walk_nrm)
  (refine Dl.value _ rfl rfl (by k_ne) (fun w hI=>by(have hcv:=run_convert_to_unsafe (P:=P) H.underlying_tWgP H.underlying_tUP H.room_tWg (cN.cell0 hI).choose_spec);go_simp;rfl) (fun w hI=>by(have hce:=fun es=>events_convert_to_unsafe (P:=P) H.underlying_tWgP H.underlying_tUP H.room_tWg (cN.cell0 hI).choose_spec es);simp[go_sem,hce]) ?_;walk_nrm)
  refine .here ⟨rfl,rfl,_,fun w hI=>stepG_markAt .releaseMerge (by simp) rfl rfl (by k_ne) rfl H.f_relMerge (x_relMerge_n L) (x_relMerge_b L) (x_relMerge_x L) (x_relMerge_f L) (by simp[Dk,stA]),?_⟩
  walk_nrm
  repeat (with_reducible (first|refine Dl.seq ?_|(refine Dl.region ?_;simp only[Ar,Aj,Au,AO,Ax,AK,AE])|refine Dl.regionEnd ?_|refine Dl.skip ?_|refine Dl.ret ?_|refine Dl.block ?_|refine Dl.inBlock ?_|refine Dl.loop ?_|refine Dl.inLoop ?_|refine Dl.exit (by with_unfolding_all rfl) ?_|(refine Dl.cond true (by with_unfolding_all rfl) ?_;simp only[AF,Av,Ae,↓reduceIte])|(refine Dl.cond false (by with_unfolding_all rfl) ?_;simp only[AF,Av,Ae,↓reduceIte])))
  (refine Dl.step rfl (by(intro e he;simp at he;subst he;exact .inl rfl)) (fun w hI=>stepG_mark0 .disable (by simp) rfl rfl (by k_ne) rfl H.f_disable (x_disable_n L) (x_disable_b L) (x_disable_x L) (x_disable_f L)) ?_;walk_nrm)
  repeat (with_reducible (first|refine Dl.seq ?_|(refine Dl.region ?_;simp only[Ar,Aj,Au,AO,Ax,AK,AE])|refine Dl.regionEnd ?_|refine Dl.skip ?_|refine Dl.ret ?_|refine Dl.block ?_|refine Dl.inBlock ?_|refine Dl.loop ?_|refine Dl.inLoop ?_|refine Dl.exit (by with_unfolding_all rfl) ?_|(refine Dl.cond true (by with_unfolding_all rfl) ?_;simp only[AF,Av,Ae,↓reduceIte])|(refine Dl.cond false (by with_unfolding_all rfl) ?_;simp only[AF,Av,Ae,↓reduceIte])))
  (refine Dl.ctl rfl (fun w hI=>stepG_defer rfl rfl (by k_ne) rfl) ?_;walk_nrm)
  repeat (with_reducible (first|refine Dl.seq ?_|(refine Dl.region ?_;simp only[Ar,Aj,Au,AO,Ax,AK,AE])|refine Dl.regionEnd ?_|refine Dl.skip ?_|refine Dl.ret ?_|refine Dl.block ?_|refine Dl.inBlock ?_|refine Dl.loop ?_|refine Dl.inLoop ?_|refine Dl.exit (by with_unfolding_all rfl) ?_|(refine Dl.cond true (by with_unfolding_all rfl) ?_;simp only[AF,Av,Ae,↓reduceIte])|(refine Dl.cond false (by with_unfolding_all rfl) ?_;simp only[AF,Av,Ae,↓reduceIte])))
  (refine Dl.value _ rfl rfl (by k_ne) (fun _ _=>by(go_simp;try (first|rfl|w_num|decide))) (fun _ _=>by simp[go_sem, *]) ?_;walk_nrm)
  repeat (with_reducible (first|refine Dl.seq ?_|(refine Dl.region ?_;simp only[Ar,Aj,Au,AO,Ax,AK,AE])|refine Dl.regionEnd ?_|refine Dl.skip ?_|refine Dl.ret ?_|refine Dl.block ?_|refine Dl.inBlock ?_|refine Dl.loop ?_|refine Dl.inLoop ?_|refine Dl.exit (by with_unfolding_all rfl) ?_|(refine Dl.cond true (by with_unfolding_all rfl) ?_;simp only[AF,Av,Ae,↓reduceIte])|(refine Dl.cond false (by with_unfolding_all rfl) ?_;simp only[AF,Av,Ae,↓reduceIte])))
  (refine Dl.ctl rfl (fun w hI=>stepG_entry_pure (.bool false) rfl rfl (by k_ne) rfl H.f_inBubble (x_inBubble_n L) (x_inBubble_b L) (x_inBubble_x L) (x_inBubble_f L)) ?_;walk_nrm)
  repeat (with_reducible (first|refine Dl.seq ?_|(refine Dl.region ?_;simp only[Ar,Aj,Au,AO,Ax,AK,AE])|refine Dl.regionEnd ?_|refine Dl.skip ?_|refine Dl.ret ?_|refine Dl.block ?_|refine Dl.inBlock ?_|refine Dl.loop ?_|refine Dl.inLoop ?_|refine Dl.exit (by with_unfolding_all rfl) ?_|(refine Dl.cond true (by with_unfolding_all rfl) ?_;simp only[AF,Av,Ae,↓reduceIte])|(refine Dl.cond false (by with_unfolding_all rfl) ?_;simp only[AF,Av,Ae,↓reduceIte])))
  (refine Dl.value _ rfl rfl (by k_ne) (fun _ _=>by(go_simp;try (first|rfl|w_num|decide))) (fun _ _=>by simp[go_sem, *]) ?_;walk_nrm)
  (refine Dl.value _ rfl rfl (by k_ne) (fun _ _=>by(go_simp;try (first|rfl|w_num|decide))) (fun _ _=>by simp[go_sem, *]) ?_;walk_nrm)
  (refine Dl.value _ rfl rfl (by k_ne) (fun _ _=>by(go_simp;try (first|rfl|w_num|decide))) (fun _ _=>by simp[go_sem, *]) ?_;walk_nrm)
  (refine Dl.value _ rfl rfl (by k_ne) (fun _ _=>by(go_simp;try (first|rfl|w_num|decide))) (fun _ _=>by simp[go_sem, *]) ?_;walk_nrm)
  (refine Dl.value _ rfl rfl (by k_ne) (fun _ _=>by(go_simp;try (first|rfl|w_num|decide))) (fun _ _=>by simp[go_sem, *]) ?_;walk_nrm)
  (refine Dl.value _ rfl rfl (by k_ne) (fun _ _=>by(go_simp;try (first|rfl|w_num|decide))) (fun _ _=>by simp[go_sem, *]) ?_;walk_nrm)
  (refine Dl.call rfl rfl (by k_ne) rfl H.f_uAdd (nm_uAdd L) rfl ?_;walk_nrmf uAddFn)
  repeat (with_reducible (first|refine Dl.seq ?_|(refine Dl.region ?_;simp only[Ar,Aj,Au,AO,Ax,AK,AE])|refine Dl.regionEnd ?_|refine Dl.skip ?_|refine Dl.ret ?_|refine Dl.block ?_|refine Dl.inBlock ?_|refine Dl.loop ?_|refine Dl.inLoop ?_|refine Dl.exit (by with_unfolding_all rfl) ?_|(refine Dl.cond true (by with_unfolding_all rfl) ?_;simp only[AF,Av,Ae,↓reduceIte])|(refine Dl.cond false (by with_unfolding_all rfl) ?_;simp only[AF,Av,Ae,↓reduceIte])))
  (refine Dl.value _ rfl rfl (by k_ne) (fun _ _=>by(go_simp;try (first|rfl|w_num|decide))) (fun _ _=>by simp[go_sem, *]) ?_;walk_nrm)
  repeat (with_reducible (first|refine Dl.seq ?_|(refine Dl.region ?_;simp only[Ar,Aj,Au,AO,Ax,AK,AE])|refine Dl.regionEnd ?_|refine Dl.skip ?_|refine Dl.ret ?_|refine Dl.block ?_|refine Dl.inBlock ?_|refine Dl.loop ?_|refine Dl.inLoop ?_|refine Dl.exit (by with_unfolding_all rfl) ?_|(refine Dl.cond true (by with_unfolding_all rfl) ?_;simp only[AF,Av,Ae,↓reduceIte])|(refine Dl.cond false (by with_unfolding_all rfl) ?_;simp only[AF,Av,Ae,↓reduceIte])))
  (refine Dl.value _ rfl rfl (by k_ne) (fun _ _=>by(go_simp;try (first|rfl|w_num|decide))) (fun _ _=>by simp[go_sem, *]) ?_;walk_nrm)
  (refine Dl.value _ rfl rfl (by k_ne) (fun _ _=>by(go_simp;try (first|rfl|w_num|decide))) (fun _ _=>by simp[go_sem, *]) ?_;walk_nrm)
  (refine Dl.value _ rfl rfl (by k_ne) (fun _ _=>by(go_simp;try (first|rfl|w_num|decide))) (fun _ _=>by simp[go_sem, *]) ?_;walk_nrm)
  (refine Dl.value _ rfl rfl (by k_ne) (fun _ _=>by(go_simp;try (first|rfl|w_num|decide))) (fun _ _=>by simp[go_sem, *]) ?_;walk_nrm)
  refine .here ⟨rfl,rfl,fun w v wt hwt hv hw=>?_⟩
  have hc:w.cell? ⟨Wg,0,none⟩=some (.int .u64 (((v:Int)+1)*KK+wt)):=by simp[Bs,hw,wgBlock]
  have hz:w.frozen? ⟨Wg,0,none⟩=false:=by simp[Dp,hw,wgBlock]
  have eS:AB.wrap (((v:Int)+1)*KK+wt+AB.wrap (AB.wrap (-1)*4294967296))=(v:Int)*KK+wt:=by
    have:AB.wrap (AB.wrap (-1)*4294967296)=18446744069414584320:=by decide
    rw[this,IntKind.wrap_u64];simp only[KK];omega
  refine⟨_,(stepG_add_atomic rfl rfl (by k_ne) rfl H.f_addU64 (x_addU64_n L) (x_addU64_b L) (x_addU64_x L) .u64 (x_addU64_f L) rfl rfl hc hz).trans (by rw[eS];rfl),?_⟩
  clear hw hc hz eS
  walk_nrm
  by_cases h0:v=0
  · subst h0
    obtain rfl|rfl:wt=0∨wt=1:=by omega
    · refine⟨fun h=>absurd h.2 (by decide),fun _=>Dl.quits ?_⟩
      have e0:((0:Nat):Int)*KK+((0:Nat):Int)=0:=by simp
      rw[e0]
      have e2:BR.wrap (bits BinOp.and AB 0 2147483647)=0:=by decide
      (repeat (first|(with_reducible (first|refine Dl.seq ?_|(refine Dl.region ?_;simp only[Ar,Aj,Au,AO,Ax,AK,AE])|refine Dl.regionEnd ?_|refine Dl.skip ?_|refine Dl.ret ?_|refine Dl.block ?_|refine Dl.inBlock ?_|refine Dl.loop ?_|refine Dl.inLoop ?_|refine Dl.exit (by with_unfolding_all rfl) ?_|(refine Dl.cond true (by with_unfolding_all rfl) ?_;simp only[AF,Av,Ae,↓reduceIte])|(refine Dl.cond false (by with_unfolding_all rfl) ?_;simp only[AF,Av,Ae,↓reduceIte])))|(refine Dl.unwanted rfl rfl ?_;walk_nrm)|(refine Dl.value _ rfl rfl (by k_ne) (fun _ _=>by(go_simp;try (first|rfl|w_num|decide))) (fun _ _=>by simp[go_sem, *]) ?_;walk_nrm)))
      (refine Dl.leave1 rfl rfl H.f_uAdd rfl ?_;walk_nrm)
      (repeat (first|(with_reducible (first|refine Dl.seq ?_|(refine Dl.region ?_;simp only[Ar,Aj,Au,AO,Ax,AK,AE])|refine Dl.regionEnd ?_|refine Dl.skip ?_|refine Dl.ret ?_|refine Dl.block ?_|refine Dl.inBlock ?_|refine Dl.loop ?_|refine Dl.inLoop ?_|refine Dl.exit (by with_unfolding_all rfl) ?_|(refine Dl.cond true (by with_unfolding_all rfl) ?_;simp only[AF,Av,Ae,↓reduceIte])|(refine Dl.cond false (by with_unfolding_all rfl) ?_;simp only[AF,Av,Ae,↓reduceIte])))|(refine Dl.unwanted rfl rfl ?_;walk_nrm)|(refine Dl.value _ rfl rfl (by k_ne) (fun _ _=>by(go_simp;try (first|rfl|w_num|decide))) (fun _ _=>by simp[go_sem, *]) ?_;walk_nrm)))
      (refine Dl.unwind_mark .enable rfl (by simp) rfl H.f_enable (x_enable_n L) (x_enable_b L) (x_enable_x L) (x_enable_f L) ?_)
      exact Dl.leave0 rfl rfl H.f_add rfl hT'
    · refine⟨fun _=>?_,fun h=>absurd ⟨rfl,rfl⟩ h⟩
      have e0:((0:Nat):Int)*KK+((1:Nat):Int)=1:=by simp
      rw[e0]
      have e2:BR.wrap (bits BinOp.and AB 1 2147483647)=1:=by decide
      (repeat (first|(with_reducible (first|refine Dl.seq ?_|(refine Dl.region ?_;simp only[Ar,Aj,Au,AO,Ax,AK,AE])|refine Dl.regionEnd ?_|refine Dl.skip ?_|refine Dl.ret ?_|refine Dl.block ?_|refine Dl.inBlock ?_|refine Dl.loop ?_|refine Dl.inLoop ?_|refine Dl.exit (by with_unfolding_all rfl) ?_|(refine Dl.cond true (by with_unfolding_all rfl) ?_;simp only[AF,Av,Ae,↓reduceIte])|(refine Dl.cond false (by with_unfolding_all rfl) ?_;simp only[AF,Av,Ae,↓reduceIte])))|(refine Dl.unwanted rfl rfl ?_;walk_nrm)|(refine Dl.value _ rfl rfl (by k_ne) (fun _ _=>by(go_simp;try (first|rfl|w_num|decide))) (fun _ _=>by simp[go_sem, *]) ?_;walk_nrm)))
      (refine Dl.leave1 rfl rfl H.f_uAdd rfl ?_;walk_nrm)
      (repeat (first|(with_reducible (first|refine Dl.seq ?_|(refine Dl.region ?_;simp only[Ar,Aj,Au,AO,Ax,AK,AE])|refine Dl.regionEnd ?_|refine Dl.skip ?_|refine Dl.ret ?_|refine Dl.block ?_|refine Dl.inBlock ?_|refine Dl.loop ?_|refine Dl.inLoop ?_|refine Dl.exit (by with_unfolding_all rfl) ?_|(refine Dl.cond true (by with_unfolding_all rfl) ?_;simp only[AF,Av,Ae,↓reduceIte])|(refine Dl.cond false (by with_unfolding_all rfl) ?_;simp only[AF,Av,Ae,↓reduceIte])))|(refine Dl.unwanted rfl rfl ?_;walk_nrm)|(refine Dl.value _ rfl rfl (by k_ne) (fun _ _=>by(go_simp;try (first|rfl|w_num|decide))) (fun _ _=>by simp[go_sem, *]) ?_;walk_nrm)))
      (refine Dl.call rfl rfl (by k_ne) rfl H.f_uLoad (nm_uLoad L) rfl ?_;walk_nrmf uLoadFn)
      (repeat (first|(with_reducible (first|refine Dl.seq ?_|(refine Dl.region ?_;simp only[Ar,Aj,Au,AO,Ax,AK,AE])|refine Dl.regionEnd ?_|refine Dl.skip ?_|refine Dl.ret ?_|refine Dl.block ?_|refine Dl.inBlock ?_|refine Dl.loop ?_|refine Dl.inLoop ?_|refine Dl.exit (by with_unfolding_all rfl) ?_|(refine Dl.cond true (by with_unfolding_all rfl) ?_;simp only[AF,Av,Ae,↓reduceIte])|(refine Dl.cond false (by with_unfolding_all rfl) ?_;simp only[AF,Av,Ae,↓reduceIte])))|(refine Dl.unwanted rfl rfl ?_;walk_nrm)|(refine Dl.value _ rfl rfl (by k_ne) (fun _ _=>by(go_simp;try (first|rfl|w_num|decide))) (fun _ _=>by simp[go_sem, *]) ?_;walk_nrm)))
      refine .here ⟨rfl,rfl,fun w hw=>?_⟩
      have hc:w.cell? ⟨Wg,0,none⟩=some (.int .u64 1):=by simp[Bs,hw,wgBlock]
      refine⟨_,stepG_load_atomic rfl rfl (by k_ne) rfl H.f_loadU64 (x_loadU64_n L) (x_loadU64_b L) (x_loadU64_x L) .u64 (x_loadU64_f L) rfl hc,?_⟩
      clear hc hw
      walk_nrm
      (repeat (first|(with_reducible (first|refine Dl.seq ?_|(refine Dl.region ?_;simp only[Ar,Aj,Au,AO,Ax,AK,AE])|refine Dl.regionEnd ?_|refine Dl.skip ?_|refine Dl.ret ?_|refine Dl.block ?_|refine Dl.inBlock ?_|refine Dl.loop ?_|refine Dl.inLoop ?_|refine Dl.exit (by with_unfolding_all rfl) ?_|(refine Dl.cond true (by with_unfolding_all rfl) ?_;simp only[AF,Av,Ae,↓reduceIte])|(refine Dl.cond false (by with_unfolding_all rfl) ?_;simp only[AF,Av,Ae,↓reduceIte])))|(refine Dl.unwanted rfl rfl ?_;walk_nrm)|(refine Dl.value _ rfl rfl (by k_ne) (fun _ _=>by(go_simp;try (first|rfl|w_num|decide))) (fun _ _=>by simp[go_sem, *]) ?_;walk_nrm)))
      (refine Dl.leave1 rfl rfl H.f_uLoad rfl ?_;walk_nrm)
      (repeat (first|(with_reducible (first|refine Dl.seq ?_|(refine Dl.region ?_;simp only[Ar,Aj,Au,AO,Ax,AK,AE])|refine Dl.regionEnd ?_|refine Dl.skip ?_|refine Dl.ret ?_|refine Dl.block ?_|refine Dl.inBlock ?_|refine Dl.loop ?_|refine Dl.inLoop ?_|refine Dl.exit (by with_unfolding_all rfl) ?_|(refine Dl.cond true (by with_unfolding_all rfl) ?_;simp only[AF,Av,Ae,↓reduceIte])|(refine Dl.cond false (by with_unfolding_all rfl) ?_;simp only[AF,Av,Ae,↓reduceIte])))|(refine Dl.unwanted rfl rfl ?_;walk_nrm)|(refine Dl.value _ rfl rfl (by k_ne) (fun _ _=>by(go_simp;try (first|rfl|w_num|decide))) (fun _ _=>by simp[go_sem, *]) ?_;walk_nrm)))
      (refine Dl.call rfl rfl (by k_ne) rfl H.f_uStore (nm_uStore L) rfl ?_;walk_nrmf uStoreFn)
      (repeat (first|(with_reducible (first|refine Dl.seq ?_|(refine Dl.region ?_;simp only[Ar,Aj,Au,AO,Ax,AK,AE])|refine Dl.regionEnd ?_|refine Dl.skip ?_|refine Dl.ret ?_|refine Dl.block ?_|refine Dl.inBlock ?_|refine Dl.loop ?_|refine Dl.inLoop ?_|refine Dl.exit (by with_unfolding_all rfl) ?_|(refine Dl.cond true (by with_unfolding_all rfl) ?_;simp only[AF,Av,Ae,↓reduceIte])|(refine Dl.cond false (by with_unfolding_all rfl) ?_;simp only[AF,Av,Ae,↓reduceIte])))|(refine Dl.unwanted rfl rfl ?_;walk_nrm)|(refine Dl.value _ rfl rfl (by k_ne) (fun _ _=>by(go_simp;try (first|rfl|w_num|decide))) (fun _ _=>by simp[go_sem, *]) ?_;walk_nrm)))
      refine .here ⟨rfl,rfl,fun w hw=>?_⟩
      have hc:w.cell? ⟨Wg,0,none⟩=some (.int .u64 1):=by simp[Bs,hw,wgBlock]
      have hz:w.frozen? ⟨Wg,0,none⟩=false:=by simp[Dp,hw,wgBlock]
      refine⟨_,stepG_store_atomic rfl rfl (by k_ne) rfl H.f_storeU64 (x_storeU64_n L) (x_storeU64_b L) (x_storeU64_x L) (x_storeU64_f L) rfl rfl hc hz,?_⟩
      clear hc hw hz
      walk_nrm
      (repeat (first|(with_reducible (first|refine Dl.seq ?_|(refine Dl.region ?_;simp only[Ar,Aj,Au,AO,Ax,AK,AE])|refine Dl.regionEnd ?_|refine Dl.skip ?_|refine Dl.ret ?_|refine Dl.block ?_|refine Dl.inBlock ?_|refine Dl.loop ?_|refine Dl.inLoop ?_|refine Dl.exit (by with_unfolding_all rfl) ?_|(refine Dl.cond true (by with_unfolding_all rfl) ?_;simp only[AF,Av,Ae,↓reduceIte])|(refine Dl.cond false (by with_unfolding_all rfl) ?_;simp only[AF,Av,Ae,↓reduceIte])))|(refine Dl.unwanted rfl rfl ?_;walk_nrm)|(refine Dl.value _ rfl rfl (by k_ne) (fun _ _=>by(go_simp;try (first|rfl|w_num|decide))) (fun _ _=>by simp[go_sem, *]) ?_;walk_nrm)))
      refine Dl.done ?_
      (refine Dl.leave0 rfl rfl H.f_uStore rfl ?_;walk_nrm)
      (repeat (first|(with_reducible (first|refine Dl.seq ?_|(refine Dl.region ?_;simp only[Ar,Aj,Au,AO,Ax,AK,AE])|refine Dl.regionEnd ?_|refine Dl.skip ?_|refine Dl.ret ?_|refine Dl.block ?_|refine Dl.inBlock ?_|refine Dl.loop ?_|refine Dl.inLoop ?_|refine Dl.exit (by with_unfolding_all rfl) ?_|(refine Dl.cond true (by with_unfolding_all rfl) ?_;simp only[AF,Av,Ae,↓reduceIte])|(refine Dl.cond false (by with_unfolding_all rfl) ?_;simp only[AF,Av,Ae,↓reduceIte])))|(refine Dl.unwanted rfl rfl ?_;walk_nrm)|(refine Dl.value _ rfl rfl (by k_ne) (fun _ _=>by(go_simp;try (first|rfl|w_num|decide))) (fun _ _=>by simp[go_sem, *]) ?_;walk_nrm)))
      refine .here ⟨rfl,rfl,mayWake_entry rfl rfl H.f_semrelease (x_semrelease_b L),fun w hw=>?_⟩
      have hc:w.cell? ⟨Wg,1,none⟩=some (.int .u32 0):=by simp[Bs,hw,wgBlock]
      have hz:w.frozen? ⟨Wg,1,none⟩=false:=by simp[Dp,hw,wgBlock]
      refine⟨_,(stepG_semrelease rfl rfl (by k_ne) rfl H.f_semrelease (x_semrelease_n L) (x_semrelease_b L) (x_semrelease_x L) (x_semrelease_f L) (by simp[Dk,smA]) hc hz).trans (by rfl),Dl.quits ?_⟩
      clear hc hw hz
      walk_nrm
      (repeat (first|(with_reducible (first|refine Dl.seq ?_|(refine Dl.region ?_;simp only[Ar,Aj,Au,AO,Ax,AK,AE])|refine Dl.regionEnd ?_|refine Dl.skip ?_|refine Dl.ret ?_|refine Dl.block ?_|refine Dl.inBlock ?_|refine Dl.loop ?_|refine Dl.inLoop ?_|refine Dl.exit (by with_unfolding_all rfl) ?_|(refine Dl.cond true (by with_unfolding_all rfl) ?_;simp only[AF,Av,Ae,↓reduceIte])|(refine Dl.cond false (by with_unfolding_all rfl) ?_;simp only[AF,Av,Ae,↓reduceIte])))|(refine Dl.unwanted rfl rfl ?_;walk_nrm)|(refine Dl.value _ rfl rfl (by k_ne) (fun _ _=>by(go_simp;try (first|rfl|w_num|decide))) (fun _ _=>by simp[go_sem, *]) ?_;walk_nrm)))
      refine Dl.done ?_
      (refine Dl.unwind_mark .enable rfl (by simp) rfl H.f_enable (x_enable_n L) (x_enable_b L) (x_enable_x L) (x_enable_f L) ?_)
      exact Dl.leave0 rfl rfl H.f_add rfl hT'
  · refine⟨fun h=>absurd h.1 h0,fun _=>Dl.quits ?_⟩
    obtain⟨V,hV⟩:∃ V:Int,V=(v:Int):=⟨_,rfl⟩
    obtain⟨S,hS⟩:∃ S:Int,S=(v:Int)*KK+wt:=⟨_,rfl⟩
    have a1:S/4294967296=V:=by rw[hS,hV];simp only[KK];omega
    have b1:bits .and .u64 S 2147483648=0:=by rw[hS];have:=st_flag v wt (by omega) hwt;simpa[KK]using this
    have b2:bits .and .u64 S 2147483647=wt:=by rw[hS];have:=st_waiters v wt (by omega) hwt;simpa[KK]using this
    have c1:IntKind.i32.wrap V=V:=by rw[IntKind.wrap_i32];omega
    have hV1:0<V:=by omega
    have hV2:V<2147483648:=by omega
    have q3:decide (V<0)=false:=By (by omega)
    have q4:decide (0<V)=true:=B2 (by omega)
    have q5:(V==0)=false:=by simp;omega
    have q6:decide (V=0)=false:=By (by omega)
    rw[←hS]
    obtain rfl|rfl:wt=0∨wt=1:=by omega
    · have d1:BR.wrap 0=0:=by decide
      replace b2:bits .and .u64 S 2147483647=0:=by simpa using b2
      clear hS hV
      (repeat (first|(with_reducible (first|refine Dl.seq ?_|(refine Dl.region ?_;simp only[Ar,Aj,Au,AO,Ax,AK,AE])|refine Dl.regionEnd ?_|refine Dl.skip ?_|refine Dl.ret ?_|refine Dl.block ?_|refine Dl.inBlock ?_|refine Dl.loop ?_|refine Dl.inLoop ?_|refine Dl.exit (by with_unfolding_all rfl) ?_|(refine Dl.cond true (by with_unfolding_all rfl) ?_;simp only[AF,Av,Ae,↓reduceIte])|(refine Dl.cond false (by with_unfolding_all rfl) ?_;simp only[AF,Av,Ae,↓reduceIte])))|(refine Dl.unwanted rfl rfl ?_;walk_nrm)|(refine Dl.value _ rfl rfl (by k_ne) (fun _ _=>by(go_simp;try (first|rfl|w_num|decide))) (fun _ _=>by simp[go_sem, *]) ?_;walk_nrm)))
      (refine Dl.leave1 rfl rfl H.f_uAdd rfl ?_;walk_nrm)
      (repeat (first|(with_reducible (first|refine Dl.seq ?_|(refine Dl.region ?_;simp only[Ar,Aj,Au,AO,Ax,AK,AE])|refine Dl.regionEnd ?_|refine Dl.skip ?_|refine Dl.ret ?_|refine Dl.block ?_|refine Dl.inBlock ?_|refine Dl.loop ?_|refine Dl.inLoop ?_|refine Dl.exit (by with_unfolding_all rfl) ?_|(refine Dl.cond true (by with_unfolding_all rfl) ?_;simp only[AF,Av,Ae,↓reduceIte])|(refine Dl.cond false (by with_unfolding_all rfl) ?_;simp only[AF,Av,Ae,↓reduceIte])))|(refine Dl.unwanted rfl rfl ?_;walk_nrm)|(refine Dl.value _ rfl rfl (by k_ne) (fun _ _=>by(go_simp;try (first|rfl|w_num|decide))) (fun _ _=>by simp[go_sem, *]) ?_;walk_nrm)))
      (refine Dl.unwind_mark .enable rfl (by simp) rfl H.f_enable (x_enable_n L) (x_enable_b L) (x_enable_x L) (x_enable_f L) ?_)
      exact Dl.leave0 rfl rfl H.f_add rfl hT'
    · have d1:BR.wrap 1=1:=by decide
      replace b2:bits .and .u64 S 2147483647=1:=by simpa using b2
      clear hS hV
      (repeat (first|(with_reducible (first|refine Dl.seq ?_|(refine Dl.region ?_;simp only[Ar,Aj,Au,AO,Ax,AK,AE])|refine Dl.regionEnd ?_|refine Dl.skip ?_|refine Dl.ret ?_|refine Dl.block ?_|refine Dl.inBlock ?_|refine Dl.loop ?_|refine Dl.inLoop ?_|refine Dl.exit (by with_unfolding_all rfl) ?_|(refine Dl.cond true (by with_unfolding_all rfl) ?_;simp only[AF,Av,Ae,↓reduceIte])|(refine Dl.cond false (by with_unfolding_all rfl) ?_;simp only[AF,Av,Ae,↓reduceIte])))|(refine Dl.unwanted rfl rfl ?_;walk_nrm)|(refine Dl.value _ rfl rfl (by k_ne) (fun _ _=>by(go_simp;try (first|rfl|w_num|decide))) (fun _ _=>by simp[go_sem, *]) ?_;walk_nrm)))
      (refine Dl.leave1 rfl rfl H.f_uAdd rfl ?_;walk_nrm)
      (repeat (first|(with_reducible (first|refine Dl.seq ?_|(refine Dl.region ?_;simp only[Ar,Aj,Au,AO,Ax,AK,AE])|refine Dl.regionEnd ?_|refine Dl.skip ?_|refine Dl.ret ?_|refine Dl.block ?_|refine Dl.inBlock ?_|refine Dl.loop ?_|refine Dl.inLoop ?_|refine Dl.exit (by with_unfolding_all rfl) ?_|(refine Dl.cond true (by with_unfolding_all rfl) ?_;simp only[AF,Av,Ae,↓reduceIte])|(refine Dl.cond false (by with_unfolding_all rfl) ?_;simp only[AF,Av,Ae,↓reduceIte])))|(refine Dl.unwanted rfl rfl ?_;walk_nrm)|(refine Dl.value _ rfl rfl (by k_ne) (fun _ _=>by(go_simp;try (first|rfl|w_num|decide))) (fun _ _=>by simp[go_sem, *]) ?_;walk_nrm)))
      (refine Dl.unwind_mark .enable rfl (by simp) rfl H.f_enable (x_enable_n L) (x_enable_b L) (x_enable_x L) (x_enable_f L) ?_)
      exact Dl.leave0 rfl rfl H.f_add rfl hT'
end Go.Am
end
section
open List renaming map_map→ζ,mapM_map→ξ
namespace Go.Am
open Go.Conc Go.ConcR.Gen Go.Conc.Lib Go.RowKit Go.ConcR
open Go
theorem aYx{L:WgLink}{P:Program}(H:WgLib P L){Wg:Nat}{cs:List Frame}{b0:Frame}{a0:Act}{ops0:Array Oper}{i0:Nat}{rest0:List Nat}{k0:List Item}{T:Array Value}(hT:T=#[.pointer (some ⟨Wg,0,none⟩),.int .i64 (-1)]++AU 115 undef)
    (hq:∃ q,QuitsD P q 0 (G (b0.at (a0.put ((ops0[i0]?).bind (·.dst)) (.tuple #[])) (.inRegion ops0 rest0::k0)) cs)) :
    Dl P false (cN L.tWg Wg) noE (wC P L Wg) 0 (G ((base L.add).at ⟨T,[]⟩ [.code (body_add L)]) (b0.at a0 (.inRegion ops0 (i0::rest0)::k0)::cs)):=by
  subst hT;exact bJu H hq
set_option maxRecDepth 100000 in
set_option maxHeartbeats 400000 in
theorem bFl{L:WgLink}{P:Program}(H:WgLib P L){Wg:Nat}{c:Frame}{cs:List Frame}(hcm:c.mode=.returning){q:Nat}(hT:QuitsD P q 0 (G c cs)) :
    Dl P false (cN L.tWg Wg) noE (wC P L Wg) 0 (G ((baseD L.done).at ⟨#[.pointer (some ⟨Wg,0,none⟩),undef,undef,undef],[]⟩ [.code (body_done L)]) (c::cs)):=by
  lib_facts
  simp only[body_done,doneFn,AT]
  (repeat (first|(with_reducible (first|refine Dl.seq ?_|(refine Dl.region ?_;simp only[Ar,Aj,Au,AO,Ax,AK,AE])|refine Dl.regionEnd ?_|refine Dl.skip ?_|refine Dl.ret ?_|refine Dl.block ?_|refine Dl.inBlock ?_|refine Dl.loop ?_|refine Dl.inLoop ?_|refine Dl.exit (by with_unfolding_all rfl) ?_|(refine Dl.cond true (by with_unfolding_all rfl) ?_;simp only[AF,Av,Ae,↓reduceIte])|(refine Dl.cond false (by with_unfolding_all rfl) ?_;simp only[AF,Av,Ae,↓reduceIte])))|(refine Dl.unwanted rfl rfl ?_;walk_nrm)|(refine Dl.value _ rfl rfl (by k_ne) (fun _ _=>by(go_simp;try (first|rfl|w_num|decide))) (fun _ _=>by simp[go_sem, *]) ?_;walk_nrm)))
  have hS:=fun{cs b0 a0 ops0 i0 rest0 k0 T}=>@aYx L P H Wg cs b0 a0 ops0 i0 rest0 k0 T
  simp only[body_add,addFn,AT]at hS
  refine Dl.call rfl rfl (by k_ne) rfl H.f_add (nm_add L) rfl ?_
  walk_nrmf addFn
  refine hS ?_ ⟨q+3,?_⟩
  · apply Array.ext'
    rw[Array.toList_append,Array.toList_replicate]
    simp only[As]
    rfl
  q_c stepG_region_end
  q_c stepG_end
  exact QuitsD.leaveD rfl rfl H.f_done rfl hcm hT
end Go.Am
end
section
open List renaming map_map→ζ,mapM_map→ξ
open Go Go.Am Go.Proofs
namespace Go.Am
open Go.Conc Go.Conc.Lib Go.RowKit Go.ConcR.Gen
open Go.ConcR (KK wgBlock stA smA rd wr mk)
def lB(F:Nat→Prop)(v v':World):Prop:=∀ b,F b→∀ c e f,v.heap[b]? = some (.cells c e f)→∃ f',v'.heap[b]? = some (.cells c e f')
theorem lB.cell{F:Nat→Prop}{v v':World}(h:lB F v v'){a:Addr}(ha:F a.block){x:Value}(hx:v.cell? a=some x):v'.cell? a=some x:=by
  obtain⟨c,t,f,hb,hlt,hs⟩:=nS hx
  obtain⟨f',hb'⟩:=h _ ha _ _ _ hb
  simp only[Bs,hb,hb']at hx ⊢
  exact hx
def oL(d:D):Prop:=∀(F:Nat→Prop) (v v':World) (x:Value),lB F v v'→VD F v d x→VD F v' d x
theorem vP(k:IntKind)(n:Int):oL (.i k n):=fun F v v' x _ hx=>by cases hx;exact .i k n
theorem bEs(b:Bool):oL (.b b):=fun F v v' x _ hx=>by cases hx;exact .b b
theorem mR(y:Value):oL (.lit y):=fun F v v' x _ hx=>by cases hx;exact .lit y
theorem nN{els:List (List D)}(h:∀ cs∈els,∀ c∈cs,oL c):oL (.sl els):=fun F v v' x hs hx=>by
  cases hx with
  |sl0 ad c=>exact .sl0 ad c
  | sl els ad n c sz f hn hc hsz hF hcell hel =>
    exact .sl els ad n c sz f hn hc hsz hF (fun j hj=>hs.cell (by rw[block_add];exact hF) (hcell j hj)) fun j k cs c h1 h2=>h cs (Ai h1) c (Ai h2) F v v' _ hs (hel j k cs c h1 h2)
theorem kE{cs:List D}(h:∀ c∈cs,oL c):oL (.pt cs):=fun F v v' x hs hx=>by
  cases hx with
  |pt cs ad f hF hcell hel=>exact .pt cs ad f hF (fun j hj=>hs.cell (by rw[block_add];exact hF) (hcell j hj)) fun k c h1=>h c (Ai h1) F v v' _ hs (hel k c h1)
theorem aMw(F:Nat→Prop)(v:World):lB F v (jA v):=fun b _ c e f hb=>⟨_,by rw[mQ,hb];rfl⟩
theorem aCj{F:Nat→Prop}{v v':World}(h:Env v v'):lB F v v':=fun b _ c e f hb=>⟨f,by rw[h.get (aY hb)];exact hb⟩
theorem aTv{F:Nat→Prop}{v:World}{C:Nat}(hC:∀ b,F b→b≠C):lB F v (inV v C):=fun b hF c e f hb=>⟨_,by rw[xS (aY hb) (hC b hF),hb];rfl⟩
theorem lB.trans{F:Nat→Prop}{v v1 v2:World}(h:lB F v v1)(k:lB F v1 v2):lB F v v2:=fun b hF c e f hb=>by
  obtain⟨f1,h1⟩:=h b hF c e f hb
  exact k b hF c e f1 h1
theorem bJa{Wg Ba Bp Bi Br:Nat}{p:Pl}{i n cap:Nat}{v:World}{c0 c1 c2:D}{pr rp rv er:Int}(hwd:p.wd=3)(hi:i<p.n)(hn:p.n=n)(h0:p.val i 0=.int .i64 i)(h1:p.val i 1=.int .u64 rp)(h2:p.val i 2=.int .u64 rv)(hok:OkV v)
    (hBa:VD (fun b=>b<v.heap.size) v (.pt [c0,c1,c2]) (bN Ba)) (hBp:VD (fun b=>b<v.heap.size) v (.pt [.i .u64 pr]) (bN Bp)) (hBi:VD (fun b=>b<v.heap.size) v (.pt [.i .i64 i]) (bN Bi)) (hBr:VD (fun b=>b<v.heap.size) v (.pt [.lit (.slice (some ⟨p.C,0,none⟩) n cap)]) (bN Br))
    (hsp:letI:=jX Aa false;Spec Aa 28 [.ag [c0,c1,c2],.i .u64 pr] (.tp [.ag [.i .u64 rp,.i .u64 rv],.i .i64 er])) :
    ∃ tr,GTw Aa bG Wg p i tr 0 (born Aa (aCc Wg Ba Bp Bi Br)) v :=
  aXy (p:=p) (Wg:=Wg) hok hBa hBp hBi hBr hsp fun a v' ops o6 o7 hv ho6 ho7 p6 d6 g6 p7 d7 g7 hN hds e13 e14 e17 =>
    aSr (fun hcm hq=>bFl aCb hcm hq) hwd hi hn h0 h1 h2 hv ho6 ho7 p6 d6 g6 p7 d7 g7 hN hds e13 e14 e17
end Go.Am
end
section
open List renaming map_map→ζ,mapM_map→ξ
namespace Go.Am
open Go.Conc Go.ConcR.Gen Go.Conc.Lib Go.RowKit Go.ConcR
open Go.ConcN (st_flag st_waiters)
open Go
set_option maxRecDepth 100000 in
set_option maxHeartbeats 8000000 in
theorem bQi{L:WgLink}{P:Program}(H:WgLib P L){Wg:Nat}{cs:List Frame}{b0:Frame}{a0:Act}{ops0:Array Oper}{i0:Nat}{rest0:List Nat}{k0:List Item}{K:Nat→Goroutine→Prop}
    (hK:K 0 (G (b0.at (a0.put ((ops0[i0]?).bind (·.dst)) (.tuple #[])) (.inRegion ops0 rest0::k0)) cs)) :
    Dl P true (cN L.tWg Wg) (dG Wg) (fun d g=>d=1∧aDz P L Wg K d g) 0 (G ((base L.add).at ⟨#[.pointer (some ⟨Wg,0,none⟩),.int .i64 1]++AU 115 undef,[]⟩ [.code (body_add L)]) (b0.at a0 (.inRegion ops0 (i0::rest0)::k0)::cs)):=by
  have hT':Dl P true (cN L.tWg Wg) (dG Wg) K 0 (G (b0.at (a0.put ((ops0[i0]?).bind (·.dst)) (.tuple #[])) (.inRegion ops0 rest0::k0)) cs):=.here hK
  lib_facts
  simp only[body_add,addFn,AT]
  (repeat (first|(with_reducible (first|refine Dl.seq ?_|(refine Dl.region ?_;simp only[Ar,Aj,Au,AO,Ax,AK,AE])|refine Dl.regionEnd ?_|refine Dl.skip ?_|refine Dl.ret ?_|refine Dl.block ?_|refine Dl.inBlock ?_|refine Dl.loop ?_|refine Dl.inLoop ?_|refine Dl.exit (by with_unfolding_all rfl) ?_|(refine Dl.cond true (by with_unfolding_all rfl) ?_;simp only[AF,Av,Ae,↓reduceIte])|(refine Dl.cond false (by with_unfolding_all rfl) ?_;simp only[AF,Av,Ae,↓reduceIte])))|(refine Dl.unwanted rfl rfl ?_;walk_nrm)|(refine Dl.value _ rfl rfl (by k_ne) (fun _ _=>by(go_simp;try (first|rfl|w_num|decide))) (fun _ _=>by simp[go_sem, *]) ?_;walk_nrm)))
  (refine Dl.step rfl (by(intro e he;simp at he;subst he;exact .inl rfl)) (fun w hI=>stepG_mark0 .disable (by simp) rfl rfl (by k_ne) rfl H.f_disable (x_disable_n L) (x_disable_b L) (x_disable_x L) (x_disable_f L)) ?_;walk_nrm)
  repeat (with_reducible (first|refine Dl.seq ?_|(refine Dl.region ?_;simp only[Ar,Aj,Au,AO,Ax,AK,AE])|refine Dl.regionEnd ?_|refine Dl.skip ?_|refine Dl.ret ?_|refine Dl.block ?_|refine Dl.inBlock ?_|refine Dl.loop ?_|refine Dl.inLoop ?_|refine Dl.exit (by with_unfolding_all rfl) ?_|(refine Dl.cond true (by with_unfolding_all rfl) ?_;simp only[AF,Av,Ae,↓reduceIte])|(refine Dl.cond false (by with_unfolding_all rfl) ?_;simp only[AF,Av,Ae,↓reduceIte])))
  (refine Dl.ctl rfl (fun w hI=>stepG_defer rfl rfl (by k_ne) rfl) ?_;walk_nrm)
  repeat (with_reducible (first|refine Dl.seq ?_|(refine Dl.region ?_;simp only[Ar,Aj,Au,AO,Ax,AK,AE])|refine Dl.regionEnd ?_|refine Dl.skip ?_|refine Dl.ret ?_|refine Dl.block ?_|refine Dl.inBlock ?_|refine Dl.loop ?_|refine Dl.inLoop ?_|refine Dl.exit (by with_unfolding_all rfl) ?_|(refine Dl.cond true (by with_unfolding_all rfl) ?_;simp only[AF,Av,Ae,↓reduceIte])|(refine Dl.cond false (by with_unfolding_all rfl) ?_;simp only[AF,Av,Ae,↓reduceIte])))
  (refine Dl.value _ rfl rfl (by k_ne) (fun _ _=>by(go_simp;try (first|rfl|w_num|decide))) (fun _ _=>by simp[go_sem, *]) ?_;walk_nrm)
  repeat (with_reducible (first|refine Dl.seq ?_|(refine Dl.region ?_;simp only[Ar,Aj,Au,AO,Ax,AK,AE])|refine Dl.regionEnd ?_|refine Dl.skip ?_|refine Dl.ret ?_|refine Dl.block ?_|refine Dl.inBlock ?_|refine Dl.loop ?_|refine Dl.inLoop ?_|refine Dl.exit (by with_unfolding_all rfl) ?_|(refine Dl.cond true (by with_unfolding_all rfl) ?_;simp only[AF,Av,Ae,↓reduceIte])|(refine Dl.cond false (by with_unfolding_all rfl) ?_;simp only[AF,Av,Ae,↓reduceIte])))
  (refine Dl.ctl rfl (fun w hI=>stepG_entry_pure (.bool false) rfl rfl (by k_ne) rfl H.f_inBubble (x_inBubble_n L) (x_inBubble_b L) (x_inBubble_x L) (x_inBubble_f L)) ?_;walk_nrm)
  (repeat (first|(with_reducible (first|refine Dl.seq ?_|(refine Dl.region ?_;simp only[Ar,Aj,Au,AO,Ax,AK,AE])|refine Dl.regionEnd ?_|refine Dl.skip ?_|refine Dl.ret ?_|refine Dl.block ?_|refine Dl.inBlock ?_|refine Dl.loop ?_|refine Dl.inLoop ?_|refine Dl.exit (by with_unfolding_all rfl) ?_|(refine Dl.cond true (by with_unfolding_all rfl) ?_;simp only[AF,Av,Ae,↓reduceIte])|(refine Dl.cond false (by with_unfolding_all rfl) ?_;simp only[AF,Av,Ae,↓reduceIte])))|(refine Dl.unwanted rfl rfl ?_;walk_nrm)|(refine Dl.value _ rfl rfl (by k_ne) (fun _ _=>by(go_simp;try (first|rfl|w_num|decide))) (fun _ _=>by simp[go_sem, *]) ?_;walk_nrm)))
  (refine Dl.call rfl rfl (by k_ne) rfl H.f_uAdd (nm_uAdd L) rfl ?_;walk_nrmf uAddFn)
  (repeat (first|(with_reducible (first|refine Dl.seq ?_|(refine Dl.region ?_;simp only[Ar,Aj,Au,AO,Ax,AK,AE])|refine Dl.regionEnd ?_|refine Dl.skip ?_|refine Dl.ret ?_|refine Dl.block ?_|refine Dl.inBlock ?_|refine Dl.loop ?_|refine Dl.inLoop ?_|refine Dl.exit (by with_unfolding_all rfl) ?_|(refine Dl.cond true (by with_unfolding_all rfl) ?_;simp only[AF,Av,Ae,↓reduceIte])|(refine Dl.cond false (by with_unfolding_all rfl) ?_;simp only[AF,Av,Ae,↓reduceIte])))|(refine Dl.unwanted rfl rfl ?_;walk_nrm)|(refine Dl.value _ rfl rfl (by k_ne) (fun _ _=>by(go_simp;try (first|rfl|w_num|decide))) (fun _ _=>by simp[go_sem, *]) ?_;walk_nrm)))
  refine .here ⟨rfl,rfl,fun w v hv hw=>?_⟩
  have hc:w.cell? ⟨Wg,0,none⟩=some (.int .u64 ((v:Int)*KK)):=by simp[Bs,hw,wgBlock]
  have hz:w.frozen? ⟨Wg,0,none⟩=false:=by simp[Dp,hw,wgBlock]
  have eS:AB.wrap ((v:Int)*KK+AB.wrap (AB.wrap 1*4294967296))=((v:Int)+1)*KK:=by
    have:AB.wrap (AB.wrap 1*4294967296)=4294967296:=by decide
    rw[this,IntKind.wrap_u64];simp only[KK];omega
  refine⟨_,(stepG_add_atomic rfl rfl (by k_ne) rfl H.f_addU64 (x_addU64_n L) (x_addU64_b L) (x_addU64_x L) .u64 (x_addU64_f L) rfl rfl hc hz).trans (by rw[eS];rfl),?_⟩
  clear hw hc hz eS
  walk_nrm
  by_cases h0:v=0
  · subst h0
    have e0:(((0:Nat):Int)+1)*KK=4294967296:=by simp[KK]
    rw[e0]
    have e2:BR.wrap (bits BinOp.and AB 4294967296 2147483647)=0:=by decide
    (repeat (first|(with_reducible (first|refine Dl.seq ?_|(refine Dl.region ?_;simp only[Ar,Aj,Au,AO,Ax,AK,AE])|refine Dl.regionEnd ?_|refine Dl.skip ?_|refine Dl.ret ?_|refine Dl.block ?_|refine Dl.inBlock ?_|refine Dl.loop ?_|refine Dl.inLoop ?_|refine Dl.exit (by with_unfolding_all rfl) ?_|(refine Dl.cond true (by with_unfolding_all rfl) ?_;simp only[AF,Av,Ae,↓reduceIte])|(refine Dl.cond false (by with_unfolding_all rfl) ?_;simp only[AF,Av,Ae,↓reduceIte])))|(refine Dl.unwanted rfl rfl ?_;walk_nrm)|(refine Dl.value _ rfl rfl (by k_ne) (fun _ _=>by(go_simp;try (first|rfl|w_num|decide))) (fun _ _=>by simp[go_sem, *]) ?_;walk_nrm)))
    (refine Dl.leave1 rfl rfl H.f_uAdd rfl ?_;walk_nrm)
    (repeat (first|(with_reducible (first|refine Dl.seq ?_|(refine Dl.region ?_;simp only[Ar,Aj,Au,AO,Ax,AK,AE])|refine Dl.regionEnd ?_|refine Dl.skip ?_|refine Dl.ret ?_|refine Dl.block ?_|refine Dl.inBlock ?_|refine Dl.loop ?_|refine Dl.inLoop ?_|refine Dl.exit (by with_unfolding_all rfl) ?_|(refine Dl.cond true (by with_unfolding_all rfl) ?_;simp only[AF,Av,Ae,↓reduceIte])|(refine Dl.cond false (by with_unfolding_all rfl) ?_;simp only[AF,Av,Ae,↓reduceIte])))|(refine Dl.unwanted rfl rfl ?_;walk_nrm)|(refine Dl.value _ rfl rfl (by k_ne) (fun _ _=>by(go_simp;try (first|rfl|w_num|decide))) (fun _ _=>by simp[go_sem, *]) ?_;walk_nrm)))
    (refine Dl.value _ rfl rfl (by k_ne) (fun w hI=>by(have hcv:=run_convert_to_unsafe (P:=P) H.underlying_tPU32 H.underlying_tUP H.room_tU32 (cN.cell1 hI).choose_spec);go_simp;rfl) (fun w hI=>by(have hce:=fun es=>events_convert_to_unsafe (P:=P) H.underlying_tPU32 H.underlying_tUP H.room_tU32 (cN.cell1 hI).choose_spec es);simp[go_sem,hce]) ?_;walk_nrm)
    (refine Dl.step rfl (by(intro e he;simp at he;subst he;first|exact .inr (.inl rfl)|exact .inr (.inr rfl))) (fun w hI=>stepG_markAt .read (by simp) rfl rfl (by k_ne) rfl H.f_raceRead (x_raceRead_n L) (x_raceRead_b L) (x_raceRead_x L) (x_raceRead_f L) (ad:=smA Wg) (by simp[Dk,smA])) ?_;walk_nrm)
    (repeat (first|(with_reducible (first|refine Dl.seq ?_|(refine Dl.region ?_;simp only[Ar,Aj,Au,AO,Ax,AK,AE])|refine Dl.regionEnd ?_|refine Dl.skip ?_|refine Dl.ret ?_|refine Dl.block ?_|refine Dl.inBlock ?_|refine Dl.loop ?_|refine Dl.inLoop ?_|refine Dl.exit (by with_unfolding_all rfl) ?_|(refine Dl.cond true (by with_unfolding_all rfl) ?_;simp only[AF,Av,Ae,↓reduceIte])|(refine Dl.cond false (by with_unfolding_all rfl) ?_;simp only[AF,Av,Ae,↓reduceIte])))|(refine Dl.unwanted rfl rfl ?_;walk_nrm)|(refine Dl.value _ rfl rfl (by k_ne) (fun _ _=>by(go_simp;try (first|rfl|w_num|decide))) (fun _ _=>by simp[go_sem, *]) ?_;walk_nrm)))
    (refine Dl.unwind_mark .enable rfl (by simp) rfl H.f_enable (x_enable_n L) (x_enable_b L) (x_enable_x L) (x_enable_f L) ?_)
    exact Dl.leave0 rfl rfl H.f_add rfl hT'
  · obtain⟨V,hV⟩:∃ V:Int,V=(v:Int)+1:=⟨_,rfl⟩
    obtain⟨S,hS⟩:∃ S:Int,S=V*KK:=⟨_,rfl⟩
    have a1:S/4294967296=V:=by rw[hS];simp only[KK];omega
    have b1:bits .and .u64 S 2147483648=0:=by rw[hS,hV];have:=st_flag (v+1) 0 (by omega) (by omega);simpa[KK]using this
    have b2:bits .and .u64 S 2147483647=0:=by rw[hS,hV];have:=st_waiters (v+1) 0 (by omega) (by omega);simpa[KK]using this
    have c1:IntKind.i32.wrap V=V:=by rw[IntKind.wrap_i32];omega
    have d1:BR.wrap 0=0:=by decide
    have hV1:1<V:=by omega
    have hV2:V<2147483648:=by omega
    have r1:IntKind.i32.wrap 1=1:=by decide
    have q1:(V==1)=false:=by simp;omega
    have q2:decide (V=1)=false:=By (by omega)
    have q3:decide (V<0)=false:=By (by omega)
    have q4:decide (0<V)=true:=B2 (by omega)
    have q5:(V==0)=false:=by simp;omega
    have q6:decide (V=0)=false:=By (by omega)
    rw[←hV,←hS]
    clear hS hV
    (repeat (first|(with_reducible (first|refine Dl.seq ?_|(refine Dl.region ?_;simp only[Ar,Aj,Au,AO,Ax,AK,AE])|refine Dl.regionEnd ?_|refine Dl.skip ?_|refine Dl.ret ?_|refine Dl.block ?_|refine Dl.inBlock ?_|refine Dl.loop ?_|refine Dl.inLoop ?_|refine Dl.exit (by with_unfolding_all rfl) ?_|(refine Dl.cond true (by with_unfolding_all rfl) ?_;simp only[AF,Av,Ae,↓reduceIte])|(refine Dl.cond false (by with_unfolding_all rfl) ?_;simp only[AF,Av,Ae,↓reduceIte])))|(refine Dl.unwanted rfl rfl ?_;walk_nrm)|(refine Dl.value _ rfl rfl (by k_ne) (fun _ _=>by(go_simp;try (first|rfl|w_num|decide))) (fun _ _=>by simp[go_sem, *]) ?_;walk_nrm)))
    (refine Dl.leave1 rfl rfl H.f_uAdd rfl ?_;walk_nrm)
    (repeat (first|(with_reducible (first|refine Dl.seq ?_|(refine Dl.region ?_;simp only[Ar,Aj,Au,AO,Ax,AK,AE])|refine Dl.regionEnd ?_|refine Dl.skip ?_|refine Dl.ret ?_|refine Dl.block ?_|refine Dl.inBlock ?_|refine Dl.loop ?_|refine Dl.inLoop ?_|refine Dl.exit (by with_unfolding_all rfl) ?_|(refine Dl.cond true (by with_unfolding_all rfl) ?_;simp only[AF,Av,Ae,↓reduceIte])|(refine Dl.cond false (by with_unfolding_all rfl) ?_;simp only[AF,Av,Ae,↓reduceIte])))|(refine Dl.unwanted rfl rfl ?_;walk_nrm)|(refine Dl.value _ rfl rfl (by k_ne) (fun _ _=>by(go_simp;try (first|rfl|w_num|decide))) (fun _ _=>by simp[go_sem, *]) ?_;walk_nrm)))
    (refine Dl.unwind_mark .enable rfl (by simp) rfl H.f_enable (x_enable_n L) (x_enable_b L) (x_enable_x L) (x_enable_f L) ?_)
    exact Dl.leave0 rfl rfl H.f_add rfl hT'
end Go.Am
end
