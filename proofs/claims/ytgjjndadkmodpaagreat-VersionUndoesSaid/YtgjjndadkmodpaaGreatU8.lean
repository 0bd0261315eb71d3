/- The check of chapter 32: it answers true. No condition. -/
import Derived.Test.YtgjjndadkmodpaaGreatU7
import Derived.Test.YtgjjndadkmodpaaGreatU6
import Derived.Test.YtgjjndadkmodpaaGreatU5
set_option linter.all false
set_option maxHeartbeats 8000000
set_option maxRecDepth 100000
open Bool renaming and_eq_true->AO,not_eq_true'->Cj,or_eq_true->CF
open Go.DataW renaming trod_int->DT
open Go.IntKind renaming i64->Ag
open Go.Proofs.Tryz renaming func9->Ed,prog->Aa,underlying5->Ej
open Go.Value renaming cells->D7
open Int renaming emod_lt_of_pos->E6,emod_nonneg->Ds,tmod_eq_emod_of_nonneg->DS
open List renaming all_eq_true->Ay,append_nil->AZ,cons_append->BO,drop_eq_getElem_cons->AP,drop_of_length_le->B2,drop_succ_cons->Cf,drop_zero->BZ,eq_nil_of_length_eq_zero->AE,flatMap_cons->Cy,flatMap_nil->Dz,flatten_cons->BE,getElem?_append_left->AK,getElem?_eq_getElem->Ab,getElem?_map->Aw,getElem_mem->Ar,length_append->Ak,length_pos_iff->Dp,length_singleton->As,map->AR,map_cons->A1,map_drop->Bu,map_nil->DB,map_take->BB,mem_map->AB,mem_of_getLast?->FD,mem_singleton->AU,nil_append->BN,take->BC,take_of_length_le->Ai,take_succ_cons->Ce,take_zero->Cp
open Nat renaming eq_zero_or_pos->B7,le_refl->Ap,le_trans->An,lt_succ_self->AG,one_le_two_pow->B8,sub_lt_sub_left->AA,zero_le->Al
open _root_ renaming decide_eq_false_iff_not->CN,decide_eq_true_eq->AI,if_neg->Ac,if_pos->Ad,of_decide_eq_true->BG
section
open List renaming map_map->C,mapM_map->E
open Go Go.Am Go.Proofs
namespace Go.Am
def OkA:List Cl->List Cg->Prop
 |_,[]=>True
 |c,x::l=>Ok2 c x/\((doX c x).2=0->OkA (doX c x).1 l)
def pR(ls:List (List Cg)):D:=.sl (ls.map λl=>[bQ l])
def yA{c0:List Cl}{ls:List (List Cg)}(hok:OkA c0 ls.flatten)(hls:ls.length<=100)(hll:∀l∈ls,l.length<=10000):Spec Aa 34 [aE c0,pR ls] (r2D (mM c0 ls.flatten)):=by
 refine exE (mM c0 ls.flatten) λR hR=>?_
 rw[hR];refine bF (N:=38) Tryz.func34 ?_;simp[-C,-E,↓KW,aE,pR];refine aP (λy:Nat×List Cl=>y.1<=ls.length/\OkA y.2 (ls.drop y.1).flatten/\mM y.2 (ls.drop y.1).flatten=R) (λy=>StL [(0,.d (aE y.2)),(12,.d (pR ls)),(13,.d (.i .i64 ls.length)),(14,.d (.i .i64 (y.1:Int)))] none []) (λy=>ls.length-y.1) (0,c0) ⟨Al _,hok,hR⟩ ?_ ?_
 ·refine wkQ [] ?_ ?_<;>simp[-C,upd,aO,Γ0,aE,pR]
 ·rintro⟨i,c⟩ ⟨hi,hoc,hrc⟩;simp only at hi hoc hrc ⊢;by_cases hgo:i<ls.length
  ·have q1:(i:Int)<ls.length:=by omega
   have hx:ls[i]? = some ls[i]:=Ab hgo;have hw:Ag.wrap ((i:Int)+1)=(i:Int)+1:=aW;have hll1:=hll _ (Ar hgo);have hfl:(ls.drop i).flatten=ls[i]++(ls.drop (i+1)).flatten:=by rw[AP hgo,BE]
   rw[hfl]at hoc hrc;refine exE ((ls.drop (i+1)).flatten) λT hT=>?_
   refine exE ls[i] λl hle=>?_
   rw[hle]at hx hll1 hoc hrc;rw[hT]at hoc hrc;simp[-C,-E,↓KW,aE,pR,bQ,q1,hx];refine aP (λy:Nat×List Cl=>y.1<=l.length/\OkA y.2 (l.drop y.1++T)/\mM y.2 (l.drop y.1++T)=R) (λy=>StL [(0,.d (aE y.2)),(12,.d (pR ls)),(13,.d (.i .i64 ls.length)),(14,.d (.i .i64 (i:Int))),(18,.d (bQ l)),(19,.d (.i .i64 l.length)),(20,.d (.i .i64 (y.1:Int)))] none []) (λy=>l.length-y.1) (0,c) ⟨Al _,hoc,hrc⟩ ?_ ?_
   ·refine wkQ [] ?_ ?_<;>simp[-C,upd,aO,Γ0,aE,pR,bQ]
   ·clear hoc hrc;rintro⟨j,c⟩ ⟨hj,hoc,hrc⟩;simp only at hj hoc hrc ⊢;by_cases hgo2:j<l.length
    ·have q2:(j:Int)<l.length:=by omega
     have hx2:l[j]? = some l[j]:=Ab hgo2;have hw2:Ag.wrap ((j:Int)+1)=(j:Int)+1:=aW;rw[AP hgo2,BO]at hoc hrc;refine exE l[j] λx hxe=>?_
     rw[hxe]at hx2 hoc hrc;obtain⟨hox,hon⟩:=hoc;obtain⟨f,hm,hap⟩:=bFn hox;have hxc:=dA x;refine exE (doX c x) λr hre=>?_
     have hno:=aDz (c:=c) (x:=x) (l.drop (j+1)++T);have hyes:=qN (c:=c) (x:=x) (l.drop (j+1)++T);rw[hre]at hon hap hno hyes;obtain⟨r1,r2⟩:=r;simp only at hon hno hyes;have hrD:r2D (r1,r2)=.tp [aE r1,.i .i64 r2]:=rfl;rw[hrD]at hap;simp[-C,-E,↓KW,aE,pR,bQ,q2,hx2,hxc,aC,aA,aB];refine aJ (vOf x) ?_;simp[-C,-E,↓KW,aE,hxc,↓aJl];refine aCj hm (ds:=[ofV x,aE c]) (by rfl) hap ?_;by_cases h0:r2=0
     ·have h0':((r2 != 0):Bool)=false:=by simpa using h0
      simp[-C,-E,↓KW,aE,h0',hw2];refine aI (τ:=Nat×List Cl) (j+1,r1) ⟨hgo2,hon h0,by rw[<-hrc];exact(hyes h0).symm⟩ (AA hgo2 (AG _)) (wkQ [] ?_ ?_)<;>simp[-C,upd,aO,Γ0,aE,pR,bQ]
     ·have h0':((r2 != 0):Bool)=true:=by simpa using h0
      have hfin:R=([],r2):=by rw[<-hrc];exact hno h0
      subst hfin;simp[-C,-E,↓KW,aE,r2D,h0',cG]
    ·have q2:¬(j:Int)<l.length:=by omega
     rw[B2 (by omega),BN]at hoc hrc;simp[-C,-E,↓KW,aE,pR,bQ,q2,hw];refine aI (τ:=Nat×List Cl) (i+1,c) ⟨hgo,by rw[hT];exact hoc,by rw[hT];exact hrc⟩ (slQ hgo) (wkQ [] ?_ ?_)<;>simp[-C,upd,aO,Γ0,aE,pR]
  ·have q1:¬(i:Int)<ls.length:=by omega
   rw[B2 (by omega)]at hrc;have hrc':(c,(0:Int))=R:=hrc;subst hrc';simp[-C,-E,↓KW,aE,pR,q1,r2D,cG]
def aGo(r:List Cl×List (Int×Ch)×Int):lP r=.ag [aE r.1,dK r.2.1,.i .i64 r.2.2]:=rfl
def bVr{c:List Cl}{x:Cg}(h:Ok2 c x):Spec Aa 37 [aE c,.ag (bO x)] (r2D (doX c x)):=by
 have hV:=aCk;have hI:=bBw h.sz h.v.val h.val h.bl h.bnd h.dim (by omega);have hR:=bBv (c:=c) x.a (by have:=h.sz.len;omega) λy hy=>by have:=h.sz.bl y hy;omega
 have hN:=aPu x.a x.b h.sz (by omega);rw[bPz h.v,aGo]at hN;have hC:=aMc x.a x.b h.v h.sz (by omega);rw[aGo]at hC;have hS:=aMb x.a x.w0 x.w1 h.v h.sz (by omega);rw[bPv h.v,aGo]at hS;unfold doX;refine bF (N:=63) Tryz.func37 ?_;by_cases h1:x.k=1
 ·have e1:((x.k==1):Bool)=true:=by simpa using h1
  simp[-C,-E,↓KW,aE,dA,h1,e1,aC,aA,aB];refine aJ hI ?_;simp[-C,-E,↓KW,r2D,h1,e1,aE,cG]
 ·have e1:((x.k==1):Bool)=false:=by simpa using h1
  by_cases h2:x.k=2
  ·have e2:((x.k==2):Bool)=true:=by simpa using h2
   simp[-C,-E,↓KW,aE,dA,h1,e1,h2,e2,aC,aA,aB];refine aJ hR ?_;simp[-C,-E,↓KW,r2D,h1,e1,h2,e2,aE,cG]
  ·have e2:((x.k==2):Bool)=false:=by simpa using h2
   by_cases h3:x.k=3
   ·have e3:((x.k==3):Bool)=true:=by simpa using h3
    simp[-C,-E,↓KW,aE,dA,h1,e1,h2,e2,h3,e3,aC,aA,aB];refine aJ hN ?_;simp[-C,-E,↓KW,r2D,h1,e1,h2,e2,h3,e3,two,aE,nA,kI,gP,cG]
   ·have e3:((x.k==3):Bool)=false:=by simpa using h3
    by_cases h4:x.k=4
    ·have e4:((x.k==4):Bool)=true:=by simpa using h4
     simp[-C,-E,↓KW,aE,dA,h1,e1,h2,e2,h3,e3,h4,e4,aC,aA,aB];refine aJ hC ?_;simp[-C,-E,↓KW,r2D,h1,e1,h2,e2,h3,e3,h4,e4,two,aE,nA,kI,gP,cG]
    ·have e4:((x.k==4):Bool)=false:=by simpa using h4
     by_cases h5:x.k=5
     ·have e5:((x.k==5):Bool)=true:=by simpa using h5
      simp[-C,-E,↓KW,aE,dA,h1,e1,h2,e2,h3,e3,h4,e4,h5,e5,aC,aA,aB];refine aJ hS ?_;simp[-C,-E,↓KW,r2D,h1,e1,h2,e2,h3,e3,h4,e4,h5,e5,two,aE,nA,kI,gP,cG]
     ·have e5:((x.k==5):Bool)=false:=by simpa using h5
      simp[-C,-E,↓KW,aE,dA,h1,e1,h2,e2,h3,e3,h4,e4,h5,e5,r2D,cG,aC,aA,aB]
def bHq{c0:List Cl}{l:List Cg}(hok:OkA c0 l)(hll:l.length<=10000):Spec Aa 42 [aE c0,bQ l] (r2D (mM c0 l)):=by
 refine exE (mM c0 l) λR hR=>?_
 rw[hR];refine bF (N:=29) Tryz.func42 ?_;simp[-C,-E,↓KW,aE,bQ];refine aP (λy:Nat×List Cl=>y.1<=l.length/\OkA y.2 (l.drop y.1)/\mM y.2 (l.drop y.1)=R) (λy=>StL [(0,.d (aE y.2)),(1,.d (bQ l)),(6,.d (.i .i64 (y.1:Int)))] none []) (λy=>l.length-y.1) (0,c0) ⟨Al _,hok,hR⟩ ?_ ?_
 ·refine wkQ [] ?_ ?_<;>simp[-C,upd,aO,Γ0,aE,bQ]
 ·rintro⟨j,c⟩ ⟨hj,hoc,hrc⟩;simp only at hj hoc hrc ⊢;by_cases hgo2:j<l.length
  ·have q2:(j:Int)<l.length:=by omega
   have hx2:l[j]? = some l[j]:=Ab hgo2;have hw2:Ag.wrap ((j:Int)+1)=(j:Int)+1:=aW;rw[AP hgo2]at hoc hrc;refine exE l[j] λx hxe=>?_
   rw[hxe]at hx2 hoc hrc;obtain⟨hox,hon⟩:=hoc;have hap:=bVr hox;have hxc:=dA x;refine exE (doX c x) λr hre=>?_
   have hno:=aDz (c:=c) (x:=x) (l.drop (j+1));have hyes:=qN (c:=c) (x:=x) (l.drop (j+1));rw[hre]at hon hap hno hyes;obtain⟨r1,r2⟩:=r;simp only at hon hno hyes;have hrD:r2D (r1,r2)=.tp [aE r1,.i .i64 r2]:=rfl;rw[hrD]at hap;simp[-C,-E,↓KW,aE,bQ,q2,hx2,hxc,aC,aA,aB];refine aJ hap ?_;by_cases h0:r2=0
   ·have h0':((r2 != 0):Bool)=false:=by simpa using h0
    simp[-C,-E,↓KW,aE,h0',hw2];refine aI (τ:=Nat×List Cl) (j+1,r1) ⟨hgo2,hon h0,by rw[<-hrc];exact(hyes h0).symm⟩ (AA hgo2 (AG _)) (wkQ [] ?_ ?_)<;>simp[-C,upd,aO,Γ0,aE,bQ]
   ·have h0':((r2 != 0):Bool)=true:=by simpa using h0
    have hfin:R=([],r2):=by rw[<-hrc];exact hno h0
    subst hfin;simp[-C,-E,↓KW,aE,r2D,h0',cG]
  ·have q2:¬(j:Int)<l.length:=by omega
   rw[B2 (by omega)]at hrc;have hrc':(c,(0:Int))=R:=hrc;subst hrc';simp[-C,-E,↓KW,aE,bQ,q2,r2D,cG]
def cAq:gQ Aa 40:=aEw Tryz.func40 (by kernel_rfl) rfl rfl rfl
def cAr:gQ Aa 33:=aEw Tryz.func33 (by kernel_rfl) rfl rfl rfl
def cAp:gQ Aa 46:=aEw Tryz.func46 (by kernel_rfl) rfl rfl rfl
def cAo:gQ Aa 48:=aEw Tryz.func48 (by kernel_rfl) rfl rfl rfl
def aVc(l:List Cg):fD 8 (l.map bO)=true:=by cases l<;>simp[fD,fZ]
def wQ(h:Hi):Int:=h.s+h.l.length
def wR(h:Hi)(n:Int):Bool:=decide (h.s<=n)&&decide (n-h.s<=h.l.length)
def atV(h:Hi)(n:Int):List Cl×Int:=if wR h n then mM h.c (h.l.take (n-h.s).toNat)else([],320)
structure OkH(h:Hi):Prop where
 s0:0<=h.s
 s1:h.s<=1000000
 len:h.l.length<=10000
 ok:OkA h.c h.l
def OkA.take{c:List Cl}{l:List Cg}(h:OkA c l)(n:Nat):OkA c (l.take n):=by
 induction l generalizing c n with
 |nil=>simp;trivial
 |cons x l ih=>cases n with
  |zero=>trivial
  |succ n=>exact⟨h.1,λh0=>ih (h.2 h0) n⟩
def aXy(h:Hi)(hs:0<=h.s/\h.s<=1000000)(hl:h.l.length<=10000):Spec Aa 14 [bZ h] (.i .i64 (wQ h)):=by have hw:Ag.wrap (h.s+(h.l.length:Int))=h.s+(h.l.length:Int):=aW;refine bF (N:=9) Tryz.func14 ?_;simp[-C,-E,↓KW,bY,bQ,aE,wQ,hw]
def aIx(h:Hi)(hs:0<=h.s/\h.s<=1000000)(hl:h.l.length<=10000):Spec Aa 15 [bZ h] (.i .i64 (wQ h)):=by have hw:Ag.wrap (h.s+(h.l.length:Int))=h.s+(h.l.length:Int):=aW;refine bF (N:=9) Tryz.func15 ?_;simp[-C,-E,↓KW,bY,bQ,aE,wQ,hw]
def cDq(h:Hi)(n:Int)(hs:0<=h.s/\h.s<=1000000)(hl:h.l.length<=10000)(hn:-1000000<=n/\n<=2000000):Spec Aa 41 [bZ h,.i .i64 n] (.b (wR h n)):=by
 have hw:Ag.wrap (n-h.s)=n-h.s:=aW;refine bF (N:=19) Tryz.func41 ?_;unfold wR;by_cases h1:h.s<=n
 ·by_cases h2:n-h.s<=h.l.length
  ·simp[-C,-E,↓KW,bY,bQ,aE,h1,h2,hw]
  ·simp[-C,-E,↓KW,bY,bQ,aE,h1,h2,hw]
 ·simp[-C,-E,↓KW,bY,bQ,aE,h1,hw]
def vAt{h:Hi}(n:Int)(ho:OkH h)(hn:-1000000<=n/\n<=2000000):Spec Aa 16 [bZ h,.i .i64 n] (r2D (atV h n)):=by
 have hH:=cDq h n ⟨ho.s0,ho.s1⟩ ho.len hn;have hw:Ag.wrap (n-h.s)=n-h.s:=wrap_i64 (by have:=ho.s0;have:=ho.s1;omega) (by have:=ho.s0;have:=ho.s1;omega);refine qP (N:=23) Tryz.func16 cAq ?_;unfold atV;cases hh:wR h n with
 |false =>
  rw[hh]at hH;simp[-C,-E,↓KW,bY,bQ,aE];refine aJ hH ?_;simp[-C,-E,↓KW,r2D,cG,aE]
 |true =>
  rw[hh]at hH;have hb:h.s<=n/\n-h.s<=h.l.length:=by simpa[wR]using hh
  refine exE ((n-h.s).toNat) λk hk=>?_
  have hkn:n-h.s=(k:Int):=by omega
  have hkl:k<=h.l.length:=by omega
  have hR:=yA (c0:=h.c) (ls:=[h.l.take k]) (by simpa using ho.ok.take k) (by simp) (by simp;have:=ho.len;omega);rw[BE,List.flatten_nil,AZ]at hR;have hwk:Ag.wrap (k:Int)=k:=by rw[<-hkn];exact hw
  obtain⟨⟨r1,r2⟩,hr⟩:∃R,mM h.c (h.l.take k)=R:=⟨_,rfl⟩;rw[hr]at hR;have hRD:r2D (r1,r2)=.tp [.sl (r1.map aN),.i .i64 r2]:=rfl;simp only[pR,bQ,aE,BB,A1,DB,hRD]at hR;simp only[hk,if_true,hr,hRD];cases hfl:oK (D.sl (r1.map aN))with
  |_ =>
   simp[-C,-E,↓KW,bY,bQ,aE];refine aJ hH ?_;simp[-C,-E,↓KW,hw,hkn,hwk,hkl,aVc];refine aJ hR ?_;simp[-C,-E,↓KW,cG,hfl]
def aXj(h:Hi)(c:List Cl):Prop:=mM h.c h.l=(c,0)
def pZ(h:Hi)(c:List Cl)(x:Cg):Hi×Int:=if(doX c x).2=0 then(⟨h.s,h.c,h.l++[x]⟩,0)else(h,(doX c x).2)
def h2D(r:Hi×Int):D:=.tp [bZ r.1,.i .i64 r.2]
def aSt(a b:List Cg):aKj a b=.sl [[.sl (a.map bO)],[.sl (b.map bO)]]:=rfl
def aCy{h:Hi}{c:List Cl}{x:Cg}(ho:OkH h)(hs:aXj h c)(hl:h.l.length<4000)(hx:Ok2 c x):Spec Aa 11 [bZ h,.ag (bO x)] (h2D (pZ h c x)):=by
 have hR:=yA (c0:=h.c) (ls:=[h.l]) (by simpa using ho.ok) (by simp) (by simp;have:=ho.len;omega);rw[BE,List.flatten_nil,AZ,hs]at hR;have hRD:r2D (c,0)=.tp [.sl (c.map aN),.i .i64 0]:=rfl;simp only[pR,bQ,aE,A1,DB,hRD]at hR;obtain⟨f,hm,hap⟩:=bFn hx;obtain⟨⟨r1,r2⟩,hr⟩:∃R,doX c x=R:=⟨_,rfl⟩;rw[hr]at hap;have hrD:r2D (r1,r2)=.tp [aE r1,.i .i64 r2]:=rfl;rw[hrD]at hap;have hC:=aZz h.l [x] ho.len (by simp);rw[aSt]at hC;simp only[A1,DB]at hC;obtain⟨L,hL⟩:∃L,(h.l++[x]).map bO=L:=⟨_,rfl⟩;have hL2:bQ (h.l++[x])=.sl L:=by rw[<-hL];rfl
 rw[hL2]at hC;have q1:¬(4000:Int)<=h.l.length:=by omega
 unfold pZ;rw[hr];simp only;have hxc:=dA x;cases hfl:oK (D.sl (c.map aN))with
 |_ =>
  refine qP (N:=48) Tryz.func11 cAr ?_;simp[-C,-E,↓KW,bY,bQ,aE,hxc,q1,aC,aA,aB];refine aJ hR ?_;simp[-C,-E,↓KW,hfl,aC,aA,aB];refine aJ (vOf x) ?_;simp[-C,-E,↓KW,hfl,aC,aA,aB,↓aJl];refine aCj hm (ds:=[ofV x,aE c]) (by rfl) hap ?_;by_cases h0:r2=0
  ·subst h0;simp[-C,-E,↓KW,hfl,aC,aA,aB];refine aJ hC ?_;cases hfl2:oK (D.sl (L))<;>simp[-C,-E,↓KW,hfl2,cG,h2D,bY,aE,bQ,hL,kill]
  ·have h0':((r2 != 0):Bool)=true:=by simpa using h0
   simp[-C,-E,↓KW,hfl,h0,h0',aC,aA,aB,cG,h2D,bY,aE,bQ]
end Go.Am
end
section
open List renaming map_map->C,mapM_map->E
namespace Go.Am
open RowKit (Below)
inductive Fx where
 |aw
 |rg (pre:List Nat) (t:Tr)
 |sq (f g:Fx)
 |bk (f:Fx)
 |lp (f:Fx)
 |cd (f g:Fx)
def qB(P:Program):Fx->Code->St->(Exit->St->Prop)->Prop
 |.aw,c,σ,Q=>AWP P c σ Q
 |.rg pre t,.region _ ops true,σ,Q=>∃σ2,(OW P ops (opsL ops pre) σ [] λσ1 con1=>OWT P ops t σ1 con1 λσ' con=>WkR (fin σ' con) σ2)/\Q .normal σ2
 |.sq f g,.seq x y,σ,Q=>qB P f x σ λe σ'=>match e with|.normal=>qB P g y σ' Q|e=>Q e σ'
 |.bk f,.block id c,σ,Q=>qB P f c σ λe σ'=>match e with|.exit id'=>if id'=id then Q .normal σ' else Q (.exit id') σ'|e=>Q e σ'
 |.lp f,.loop c,σ,Q=>∃(τ:Type) (S:τ->St) (m:τ->Nat) (x0:τ),WkR σ (S x0)/\∀x,qB P f c (S x) λe σ'=>match e with|.normal=>∃y,m y<m x/\WkR σ' (S y)|e=>Q e σ'
 |.cd f g,.cond c x y,σ,Q=>match oev σ.J c with|.d (.b t)=>if t then qB P f x σ Q else qB P g y σ Q|_=>False
 |_,_,_,_=>False
def aFu(P:Program):Fx->Code->Bool
 |.aw,c=>eF P c
 |.rg pre t,.region _ ops true=>aLp P ops pre t
 |.sq f g,.seq x y=>aFu P f x&&aFu P g y
 |.bk f,.block _ c=>aFu P f c
 |.lp f,.loop c=>aFu P f c
 |.cd f g,.cond _ x y=>aFu P f x&&aFu P g y
 |_,_=>false
section
variable {P:Program} {G:Ctx} {N:Nat} {ds:List Deferred}
def aHr(hm:P.follows .mixedOrders=true)(hZ:∀d,G.Z d=none):∀(f:Fx) (c:Code) (Q:Exit->St->Prop) (σ:St) (a:Act) (w:World),dL N c=true->aFu P f c=true->qB P f c σ Q->SR G N ds σ a w ->
  c.wp P (λe a' w'=>∃σ',Q e σ'/\SR G N ds σ' a' w') a w:=by
 intro f
 induction f with
 |aw=>intro c Q σ a w hd hl h hs;exact iC hm hZ c Q σ a w hd hl h hs
 |rg pre t =>
  intro c Q σ a w hd hl h hs
  cases c with
  |region id ops draw =>
   cases draw with
   |true =>
    obtain⟨σ2,h,hq⟩:=h
    refine aBz (WpR.plain P) (Q:=λσ'=>WkR σ' σ2) hm (λi o d hi ho=>⟨qJ hd i o d hi ho,hZ d⟩) hl hs h ?_
    intro σ' a' w' hw hs'
    exact⟨σ2,hq,pV hw hs'⟩
   |false=>exact h.elim
  |_=>exact h.elim
 |sq f g ihf ihg =>
  intro c Q σ a w hd hl h hs
  cases c with
  |seq x y =>
   simp only[dL,aFu,AO]at hd hl
   refine wp_seq (wp_mono (ihf x _ σ a w hd.1 hl.1 h hs) ?_)
   rintro e a' w' ⟨σ1,hq,hs'⟩
   cases e with
   |normal=>exact ihg y Q σ1 a' w' hd.2 hl.2 hq hs'
   |_=>exact⟨σ1,hq,hs'⟩
  |_=>exact h.elim
 |bk f ih =>
  intro c Q σ a w hd hl h hs
  cases c with
  |block id c =>
   refine(WpR.plain P).block (wp_mono (ih c _ σ a w hd hl h hs) ?_)
   rintro e a' w' ⟨σ',hq,hs'⟩
   cases e with
   |exit id' =>
    simp only[Exit.inBlock]at hq ⊢
    split at hq
    ·rename_i he;rw[Ad he];exact⟨σ',hq,hs'⟩
    ·rename_i he;rw[Ac he];exact⟨σ',hq,hs'⟩
   |_=>exact⟨σ',hq,hs'⟩
  |_=>exact h.elim
 |cd f g ihf ihg =>
  intro c Q σ a w hd hl h hs
  cases c with
  |cond c x y =>
   simp only[dL,aFu,AO]at hd hl
   unfold qB at h
   split at h
   ·rename_i t ht
    have hc:a.eval c=.bool t:=by
     obtain⟨_,_,F,ι,_,_,hV,_⟩:=hs;have:=fF (J:=σ.J) (a:=a) (x:=c) (F:=F) (w:=w) (ι:=ι) λt _=>hV t
     rw[ht]at this;generalize a.eval c=v at this;cases this with|d _ _ h=>cases h;rfl
    refine(WpR.plain P).cond hc ?_
    cases t
    ·exact ihg y Q σ a w hd.2 hl.2 h hs
    ·exact ihf x Q σ a w hd.1 hl.1 h hs
   ·exact h.elim
  |_=>exact h.elim
 |lp f ih =>
  intro c Q σ a w hd hl h hs
  cases c with
  |loop c =>
   obtain⟨τ,S,m,x0,hk,hround⟩:=h
   refine(WpR.plain P).loop (λn a w=>∃x,m x=n/\SR G N ds (S x) a w) ⟨m x0,x0,rfl,pV hk hs⟩ ?_
   rintro n a w ⟨x,rfl,hsx⟩
   refine wp_mono (ih c _ (S x) a w hd hl (hround x) hsx) ?_
   rintro e a' w' ⟨σ',hq,hs'⟩
   cases e with
   |normal =>
    obtain⟨y,hlt,hk⟩:=hq
    exact⟨m y,hlt,y,rfl,pV hk hs'⟩
   |_=>exact⟨σ',hq,hs'⟩
  |_=>exact h.elim
def jT {f N:Nat} {fn:Func} {c:Code} {args:List D} {r:D} (l:Fx) (hm:P.follows .mixedOrders=true) (hf:P.funcs[f]? = some fn) (hb:fn.body=some c) (hname:(fn.name == "runtime.NumGoroutine")=false) (hN:fn.ntmps=N)
  (hd:dL N c=true) (hl':aFu P l c=true) (ha:args.length<=N) (h:qB P l c (St0 args N) λe σ=>(e=.normal\/e=.ret)/\mX P fn.results.toList σ=some r):Spec P f args r:=by
 intro A W vs hA hl hv
 have hn:¬ fn.name = "runtime.NumGoroutine" := by simpa using hname
 refine⟨λw=>by simp[callFunc,hf,hn,hb],?_⟩
 refine calls_of_wp hf hb ?_
 subst hN
 refine wp_mono (aHr hm (λ_=>rfl) l c _ _ _ _ hd hl' h (SR0 hA hl hv ha)) ?_
 rintro e a w ⟨σ,⟨he,hr⟩,hs⟩
 obtain⟨v,hrun,hvd⟩:=nQ hs hr
 obtain⟨_,_,F,ι,hR,_,_,_,hdf,_⟩:=hs
 have hend:a.defers=[]/\∃v,(results fn a.tmps).run P w=.ok v w/\∃v',Ending.returned v=.returned v'/\Below W.heap.size W w/\VD (λb=>A b\/(W.heap.size<=b/\b<w.heap.size)) w r v':=by
  refine⟨hdf,v,hrun,v,rfl,⟨hR.kept.os,hR.kept.tape,hR.kept.output,hR.kept.size,λk hk=>hR.kept.block k hk (λh=>h)⟩,hvd.mono ?_⟩;rintro b (h|h|h)
  ·exact .inl h
  ·exact h.elim
  ·exact .inr h
 rcases he with rfl|rfl<;>exact hend
def aUk {f N:Nat} {fn:Func} {g:FuncId} {r0 rd rest:Code} {args:List D} {r:D} (l:Fx) (hm:P.follows .mixedOrders=true) (hf:P.funcs[f]? = some fn) (hb:fn.body=some (.seq r0 (.seq rd rest))) (hname:(fn.name == "runtime.NumGoroutine")=false)
  (hN:fn.ntmps=N) (hd0:dL N r0=true) (hl0:eF P r0=true) (hd1:dL N rest=true) (hl1:aFu P l rest=true) (hg:qM rd=some g) (hrec:gQ P g) (ha:args.length<=N)
  (h:AWP P r0 (St0 args N) λe σ0=>e=.normal/\qB P l rest σ0 λe σ=>(e=.normal\/e=.ret)/\mX P fn.results.toList σ=some r):Spec P f args r:=by
 intro A W vs hA hl hv
 have hn:¬ fn.name = "runtime.NumGoroutine" := by simpa using hname
 refine⟨λw=>by simp[callFunc,hf,hn,hb],?_⟩
 refine calls_of_wp_defers hf hb ?_
 subst hN
 refine wp_seq (wp_mono (iC hm (λ_=>rfl) r0 _ _ _ _ hd0 hl0 h (SR0 hA hl hv ha)) ?_)
 rintro e a w ⟨σ0,⟨rfl,h1⟩,hs0⟩
 refine wp_seq (rW hg ?_)
 refine wp_mono (aHr hm (λ_=>rfl) l rest _ _ _ _ hd1 hl1 h1 (aAf { target:=.fn (.func g) #[],args:=#[] } hs0)) ?_
 rintro e a w ⟨σ,⟨he,hr⟩,hs⟩
 rcases he with rfl|rfl<;>exact sG hrec hs hr
end
def cL(P:Program)(c:Code)(σ:St)(Q:Exit->St->Prop):qB P .aw c σ Q=AWP P c σ Q:=rfl
def cK(P:Program)(f g:Fx)(x y:Code)(σ:St)(Q:Exit->St->Prop):qB P (.sq f g) (.seq x y) σ Q=qB P f x σ λe σ'=>match e with|.normal=>qB P g y σ' Q|e=>Q e σ':=rfl
def cS(P:Program)(f:Fx)(id:Nat)(c:Code)(σ:St)(Q:Exit->St->Prop):qB P (.bk f) (.block id c) σ Q=qB P f c σ λe σ'=>match e with|.exit id'=>if id'=id then Q .normal σ' else Q (.exit id') σ'|e=>Q e σ':=rfl
def bWl(P:Program)(f g:Fx)(v:AV)(x y:Code)(σ:St)(Q:Exit->St->Prop)(_:Dm (x,y,Q)):Prop:=match v with|.d (.b t)=>IfD t (qB P f x σ Q) (qB P g y σ Q) .mk|_=>False
def cQ(P:Program)(f g:Fx)(t:Bool)(x y:Code)(σ:St)(Q:Exit->St->Prop)(d:Dm (x,y,Q)):bWl P f g (.d (.b t)) x y σ Q d=IfD t (qB P f x σ Q) (qB P g y σ Q) .mk:=rfl
def cR(P:Program)(f g:Fx)(c:Operand)(x y:Code)(σ:St)(Q:Exit->St->Prop):qB P (.cd f g) (.cond c x y) σ Q=bWl P f g (oev σ.J c) x y σ Q .mk:=rfl
def RgX(P:Program)(pre:List Nat)(t:Tr)(ops:Array Oper)(σ:St)(Q:St->Prop)(_:Dm (ops,Q)):Prop:=∃σ2,(OW P ops (opsL ops pre) σ [] λσ1 con1=>OWT P ops t σ1 con1 λσ' con=>WkR (fin σ' con) σ2)/\Q σ2
def wJ(P:Program)(pre:List Nat)(t:Tr)(id:Nat)(ops:Array Oper)(σ:St)(Q:Exit->St->Prop):qB P (.rg pre t) (.region id ops true) σ Q=RgX P pre t ops σ (Q .normal) .mk:=rfl
def aAv{P:Program}{pre:List Nat}{t:Tr}{ops:Array Oper}{σ:St}{Q:St->Prop}{d:Dm (ops,Q)}(σ2:St)(l:List Oper)(t':Tro)(h1:opsL ops pre=l)(h2:mG ops t=t')
  (h:bOm P ops l t' σ (λσ'=>WkR σ' σ2) .mk) (hq:Q σ2):RgX P pre t ops σ Q d:=by
 subst h1;subst h2
 refine⟨σ2,?_,hq⟩
 simp only[nT]
 exact h
end Go.Am
end
section
open List renaming map_map->C,mapM_map->E
open Go Go.Am Go.Proofs
namespace Go.Am
def cpH(h:Hi)(n:Int):Hi×Int:=if(atV h n).2=0 then(⟨n,(atV h n).1,h.l.drop (n-h.s).toNat⟩,0)else(h,(atV h n).2)
def udH(h:Hi):Hi×Int:=if h.l=[]then(h,320)else(⟨h.s,h.c,h.l.take (h.l.length-1)⟩,0)
def bFm{h:Hi}(n:Int)(ho:OkH h)(hn:-1000000<=n/\n<=2000000):Spec Aa 22 [bZ h,.i .i64 n] (h2D (cpH h n)):=by
 have hA:=vAt n ho hn;obtain⟨⟨r1,r2⟩,hr⟩:∃R,atV h n=R:=⟨_,rfl⟩;unfold cpH;rw[hr]at hA ⊢;have hrD:r2D (r1,r2)=.tp [aE r1,.i .i64 r2]:=rfl;rw[hrD]at hA;have hw:Ag.wrap (n-h.s)=n-h.s:=wrap_i64 (by have:=ho.s0;have:=ho.s1;omega) (by have:=ho.s0;have:=ho.s1;omega);refine qP (N:=31) Tryz.func22 cAo ?_;simp[-C,-E,↓KW,bY,bQ,aE];refine aJ hA ?_;by_cases h0:r2=0
 ·subst h0;have hh:wR h n=true:=by
   cases e:wR h n with
   |true=>rfl
   |false=>unfold atV at hr;rw[e]at hr;simp at hr
  have hb:h.s<=n/\n-h.s<=h.l.length:=by simpa[wR]using hh
  refine exE ((n-h.s).toNat) λk hk=>?_
  have hkn:n-h.s=(k:Int):=by omega
  have hkl:k<=h.l.length:=by omega
  have hwk:Ag.wrap (k:Int)=k:=by rw[<-hkn];exact hw
  have hC:=bAf (l:=h.l.drop k) (by simp;have:=ho.len;omega);simp only[bQ,Bu]at hC;have htk:BC h.l.length (AR bO h.l)=AR bO h.l:=Ai (by simp);simp[-C,-E,↓KW,bY,bQ,aE,hw,hkn,hwk,hkl,aVc,htk];refine aJ hC ?_;simp[-C,-E,↓KW,hk,cG,h2D,bY,aE,bQ]
 ·have h0':((r2 != 0):Bool)=true:=by simpa using h0
  simp[-C,-E,↓KW,h0,h0',cG,h2D,bY,aE,bQ]
def u13:Tr:=.one 13 (.one 14 (.one 15 (.one 16 (.one 17 .leaf))))
def u12:Tr:=.one 12 u13
def u11:Tr:=.one 11 u12
def u10:Tr:=.one 10 u11
def uA:Tr:=.two 3 u12 12 (.one 3 u13)
def uB:Tr:=.two 3 u11 11 uA
def uC:Tr:=.one 1 u11
def bVk:Tr:=.three 1 (.two 3 u10 10 uB) 3 (.two 1 u10 10 uC) 10 (.two 1 uB 3 uC)
def fxU:Fx:=.sq .aw (.sq .aw (.sq (.rg [0,2,4,5,6,7,8,9] bVk) .aw))
def bFl{h:Hi}(hl:h.l.length<=10000):Spec Aa 21 [bZ h] (h2D (udH h)):=by
 refine aUk (N:=24) fxU bL Tryz.func21 rfl rfl rfl (by kernel_rfl) (by kernel_rfl) (by kernel_rfl) (by kernel_rfl) rfl cAp (by simp) ?_;unfold udH fxU;by_cases h0:h.l=[]
 ·simp[-C,-E,↓KW,bY,bQ,aE,h0,↓cK,↓cL,↓wJ,cG,h2D]
 ·have hp:0<h.l.length:=Dp.2 h0;obtain⟨k,hk⟩:∃k:Nat,h.l.length=k+1:=⟨h.l.length-1,by omega⟩;have hk1:h.l.length-1=k:=by omega
  have hki:(h.l.length:Int)-1=(k:Int):=by omega
  have hwk:Ag.wrap (k:Int)=k:=aW;have hkl:k<=h.l.length:=by omega
  have e0:((h.l.length:Int)==0)=false:=by simpa using h0
  have hC:=bAf (l:=h.l.take k) (by simp;omega);simp only[bQ,BB]at hC;rw[Ac h0,hk1];have ok:=aVc h.l;have hX:bZ ⟨h.s,h.c,h.l.take k⟩=.ag [.i .i64 h.s,.sl (h.c.map aN),.sl ((h.l.map bO).take k)]:=by rw[<-BB];rfl
  have hLl:(h.l.map bO).length=h.l.length:=by simp
  have hH:bZ h=.ag [.i .i64 h.s,.sl (h.c.map aN),.sl (h.l.map bO)]:=rfl;rw[hH];obtain⟨L,hL⟩:∃L,h.l.map bO=L:=⟨_,rfl⟩;obtain⟨CL,hCL⟩:∃L,h.c.map aN=L:=⟨_,rfl⟩;obtain⟨n,hn⟩:∃n,h.l.length=n:=⟨_,rfl⟩;rw[hL]at hC ok hX hLl ⊢;rw[hCL]at hX ⊢;rw[hn]at hLl hki e0 hkl;simp[-C,-E,↓KW,hLl,e0,↓cK,↓cL,↓wJ];refine aAv (StL [(2,.ptr 1 0),(3,.d (.i .i64 0))] none [.cells 35 [.d (.i .i64 h.s),.d (.sl CL),.d (.sl (L.take k))]]) _ _ rfl rfl ?_ ?_
  ·simp only[opsL,opL,bVk,uA,uB,uC,u10,u11,u12,u13,mG,Cy,Dz,Cf,BZ,Ce,Cp,BO,BN];simp[-C,-E,↓KW,hLl,hki,hwk,hkl,ok,↓dP,↓aFd,↓dQ,↓dR,↓cX];refine aJ hC ?_;simp[-C,-E,↓KW,↓dP,↓aFd,↓dQ,↓dR,↓cX];repeat' apply And.intro
   all_goals refine .inr (wkQ [2] ?_ ?_)<;>simp[-C,upd,aO,Γ0]
  ·simp[-C,-E,↓KW,cG,h2D,hX]
def cAs{h:Hi}(n:Int)(ho:OkH h)(hn:-1000000<=n/\n<=2000000):Spec Aa 17 [bZ h,.i .i64 n] (r2D (atV h n)):=by
 have hH:=aIx h ⟨ho.s0,ho.s1⟩ ho.len;have hw:Ag.wrap (n-h.s)=n-h.s:=wrap_i64 (by have:=ho.s0;have:=ho.s1;omega) (by have:=ho.s0;have:=ho.s1;omega);refine bF (N:=28) Tryz.func17 ?_;unfold atV;by_cases h1:h.s<=n
 rotate_left
 ·have hh:wR h n=false:=by simp[wR,h1]
  have h1':n<h.s:=by omega
  simp[-C,-E,↓KW,bY,bQ,aE,h1',hh,r2D,cG]
 ·have h1':¬n<h.s:=by omega
  simp[-C,-E,↓KW,bY,bQ,aE,h1'];refine aJ hH ?_;by_cases h2:n-h.s<=h.l.length
  rotate_left
  ·have hh:wR h n=false:=by simp[wR,h2]
   have h2':wQ h<n:=by unfold wQ;omega
   simp[-C,-E,↓KW,h2',hh,r2D,cG,aE]
  ·have hh:wR h n=true:=by simp[wR,h1,h2]
   have h2':¬wQ h<n:=by unfold wQ;omega
   refine exE ((n-h.s).toNat) λk hk=>?_
   have hkn:n-h.s=(k:Int):=by omega
   have hkl:k<=h.l.length:=by omega
   have hR:=bHq (c0:=h.c) (l:=h.l.take k) (ho.ok.take k) (by simp;have:=ho.len;omega);have hwk:Ag.wrap (k:Int)=k:=by rw[<-hkn];exact hw
   obtain⟨⟨r1,r2⟩,hr⟩:∃R,mM h.c (h.l.take k)=R:=⟨_,rfl⟩;rw[hr]at hR;have hRD:r2D (r1,r2)=.tp [.sl (r1.map aN),.i .i64 r2]:=rfl;simp only[bQ,aE,BB,hRD]at hR;simp[-C,-E,↓KW,h2',hw,hkn,hwk,hkl,aVc];refine aJ hR ?_;simp[-C,-E,↓KW,cG,hk,hh,hr,hRD]
def bUv{h:Hi}{c:List Cl}(hs:aXj h c):atV h (wQ h)=(c,0):=by
 unfold atV;have hh:wR h (wQ h)=true:=by unfold wR wQ;simp;omega
 rw[hh,Ad rfl];have:(wQ h-h.s).toNat=h.l.length:=by unfold wQ;omega
 rw[this,List.take_length];exact hs
def aUv{h:Hi}{c:List Cl}(ho:OkH h)(hs:aXj h c):Spec Aa 10 [bZ h] (aE c):=by have hH:=aIx h ⟨ho.s0,ho.s1⟩ ho.len;have hA:=cAs (wQ h) ho ⟨by unfold wQ;have:=ho.s0;omega,by unfold wQ;have:=ho.s1;have:=ho.len;omega⟩;rw[bUv hs]at hA;have hRD:r2D (c,0)=.tp [.sl (c.map aN),.i .i64 0]:=rfl;rw[hRD]at hA;refine bF (N:=13) Tryz.func10 ?_;simp[-C,-E,↓KW,bY,bQ,aE];refine aJ hH ?_;simp[-C,-E,↓KW,bY,bQ,aE];refine aJ hA ?_;simp[-C,-E,↓KW,aE]
def bQm{h:Hi}{l:List Cg}(hl:h.l.length<=10000)(hl2:l.length<=10000):Spec Aa 38 [bZ h,bQ l] (bZ ⟨h.s,h.c,h.l++l⟩):=by
 refine bF (N:=15) Tryz.func38 ?_;obtain⟨a,ha⟩:∃a,h.l=a:=⟨_,rfl⟩;rw[ha]at hl;have hok:∀l:List Cg,fD 8 (l.map bO)=true:=aVc;have hone:∀l:List Cg,(∀(x:Cg),x∈l->∀(x_1:D),x_1∈bO x->one (AV.d x_1)=true)↔True:=λl=>⟨λ_=>trivial,λ_ x _ d hd=>Ay.1 (pC x) (.d d) (AB.2 ⟨d,hd,rfl⟩)⟩
 have hal:∀l:List Cg,(∀d∈flt bO l,one (AV.d d)=true)↔True:=λl=>⟨λ_=>trivial,λ_ d hd=>Ay.1 (dC pC l) (.d d) (AB.2 ⟨d,hd,rfl⟩)⟩
 have hff:=iR bO;have hla:=bJ fZ a;have hlb:=bJ fZ l;have hbb:a.length*80<=140737488355328/\a.length<=maxLen:=⟨by omega,aR (by omega)⟩;have hbb2:(a.length+l.length)*80<=140737488355328/\a.length+l.length<=maxLen:=⟨by omega,aR (by omega)⟩;have hab':(a++l).length=a.length+l.length:=Ak;have e1:BC ((a.length+l.length)*8) ((flt bO (a++l)).map AV.d)=(flt bO (a++l)).map AV.d:=dJ fZ hab';have e2:chunk 8 (a.length+l.length) (flt bO (a++l))=(a++l).map bO:=cY (by decide) fZ hab';have e3:=bJ fZ (a++l);rw[hab']at e3;have e4:(flt bO a).map AV.d++(flt bO l).map AV.d=(flt bO (a++l)).map AV.d:=by rw[cW,List.map_append]
 rw[ha];simp[-C,-E,↓KW,bY,bQ,aE,ha,uW,hok,hone,hal,hff,hla,hlb,hbb,hbb2,e1,e2,e3,e4,rD]
def bBt{h:Hi}{c:List Cl}{x:Cg}(ho:OkH h)(hs:aXj h c)(hl:h.l.length<4000)(hx:Ok2 c x):Spec Aa 12 [bZ h,.ag (bO x)] (h2D (pZ h c x)):=by
 have hN:=aUv ho hs;have hD:=bVr hx;have hW:=bQm (h:=h) (l:=[x]) (by omega) (by simp);obtain⟨⟨r1,r2⟩,hr⟩:∃R,doX c x=R:=⟨_,rfl⟩;rw[hr]at hD;have hrD:r2D (r1,r2)=.tp [aE r1,.i .i64 r2]:=rfl;rw[hrD]at hD;have q1:¬(4000:Int)<=h.l.length:=by omega
 unfold pZ;rw[hr];simp only;have hxc:=dA x;have hl1:bQ [x]=.sl [bO x]:=rfl;rw[hl1,bY ⟨h.s,h.c,h.l++[x]⟩]at hW;obtain⟨L,hL⟩:∃L,(h.l++[x]).map bO=L:=⟨_,rfl⟩;have hL2:bQ (h.l++[x])=.sl L:=by rw[<-hL];rfl
 simp only[hL2,aE]at hW;refine bF (N:=28) Tryz.func12 ?_;simp[-C,-E,↓KW,bY,bQ,aE,hxc,q1,aC,aA,aB];refine aJ hN ?_;simp[-C,-E,↓KW,aE,aC,aA,aB];refine aJ hD ?_;by_cases h0:r2=0
 ·subst h0;simp[-C,-E,↓KW,aC,aA,aB];refine aJ hW ?_;cases hf1:oK (D.sl L)<;>cases hf2:oK (D.sl (h.c.map aN))<;>simp[-C,-E,↓KW,cG,h2D,bY,aE,bQ,hL,hf1,hf2,kill]
 ·have h0':((r2 != 0):Bool)=true:=by simpa using h0
  simp[-C,-E,↓KW,h0,h0',aC,aA,aB,cG,h2D,bY,aE,bQ]
structure Sx where
 k:Int
 a:Int
 b:Int
 q:Q4
def Sx.ok(s:Sx):Prop:=(0<=s.k/\s.k<=255)/\(0<=s.a/\s.a<=255)/\(0<=s.b/\s.b<=255)/\s.q.ok
def kY(s:Sx):List D:=[.i .u8 s.k,.i .u8 s.a,.i .u8 s.b,.i .i8 s.q.1,.i .i8 s.q.2.1,.i .i8 s.q.2.2.1,.i .i8 s.q.2.2.2]
def aYg{c:List Cl}{m:Int}(k:Int)(hk:0<=k/\k<=255)(hl:c.length<=1000)(hid:∀y∈c,0<=y.id/\y.id<=m)(hm:255<=m):∃n:Int,(0<=n/\n<=m)/\Spec Aa 28 [aE c,.i .u8 k] (.i .i64 n):=by
 have hw:Ag.wrap k=k:=aW;by_cases h0:c=[]
 ·subst h0;refine⟨k,by omega,bF (N:=23) Tryz.func28 ?_⟩;simp[-C,-E,↓KW,aE,hw]
 ·have hpos:0<c.length:=Dp.2 h0;have e0:((c.length:Int)==0)=false:=by simpa using h0
  by_cases h1:250<=k
  ·refine⟨k,by omega,bF (N:=23) Tryz.func28 ?_⟩;simp[-C,-E,↓KW,aE,hw,h1,e0]
  ·have m1:=Ds k (b:=(c.length:Int)) (by omega);have m2:=E6 k (b:=(c.length:Int)) (by omega);obtain⟨j,j1,j2⟩:∃j:Nat,j<c.length/\k.tmod (c.length:Int)=(j:Int):=⟨(k%c.length).toNat,by omega,by rw[DS hk.1];omega⟩;have j3:(j:Int)<c.length:=by omega
   have hz:c[j]? = some c[j]:=Ab j1;have hzm:c[j]∈c:=Ar j1;refine exE c[j] λz hze=>?_
   rw[hze]at hz hzm;have hze':∀h:j<c.length,c[j]'h=z:=λ_=>hze
   have wj:Ag.wrap (j:Int)=(j:Int):=aW;have ez:aN z=[.i .i64 z.id,.i .i64 z.dim,aK z.b]:=rfl;refine⟨z.id,hid z hzm,bF (N:=23) Tryz.func28 ?_⟩;simp[-C,-E,↓KW,aE,hw,h1,h0,e0,j1,j2,j3,hz,hze',wj,ez,aC,aA,aB]
def pX:Fx:=.sq .aw (.sq .aw (.sq .aw (.sq .aw (.sq (.sq .aw (.bk (.sq .aw (.cd .aw (.sq .aw (.cd (.sq .aw (.sq .aw (.cd (.sq .aw (.rg [0,1,2,3,4,5,6,7,8,10] (.two 9 (.one 11 (.one 12 (.one 13 .leaf))) 11 (.one 9 (.one 12 (.one 13 .leaf)))))) .aw))) .aw)))))) .aw))))
def bIs(c:List Cl):Int:=match c.getLast? with|none=>1|some y=>y.id+1
def bRl{c:List Cl}{m:Int}(hid:∀y∈c,0<=y.id/\y.id<=m)(hm:0<=m):1<=bIs c/\bIs c<=m+1:=by
 unfold bIs;cases e:c.getLast? with
 |none=>simp only;omega
 |some y=>have:=hid y (FD e);simp only;omega
def Fg.zero{i M q d:Nat}{k a b w0 w1:Int}(hk:1<=k/\k<=6)(ha:0<=a/\a<=302+2*(i:Int))(hb:0<=b/\b<=302+2*(i:Int))(h0:0<=w0/\w0<=302+2*(i:Int))(h1:0<=w1/\w1<=302+2*(i:Int)):Fg i M q d ⟨k,⟨0,0,[]⟩,a,b,w0,w1⟩ :=
 ⟨hk,⟨Int.le_refl 0,show(0:Int)<=3 by decide⟩,Val.nil,by simp,Bnd.nil _,λf hf=>(by cases hf),⟨by simp,by simp;omega⟩,ha,hb,h0,h1⟩
def bLo{c:List Cl}(h:CxV c){p:Int×Int}(hp:p∈jN c):(∃y∈c,y.id=p.1)/\∃y∈c,y.id=p.2:=by obtain⟨z,xa,xb,t⟩:=aDx h (a:=p.1) (b:=p.2) hp;exact⟨⟨xa,t.ina,t.ida⟩,⟨xb,t.inb,t.idb⟩⟩
def bTg{c:List Cl}{x0 m:Int}(h:∀x∈c,0<=x.id/\x.id<=m)(hm:0<=m):0<=gId c x0/\gId c x0<=m+2:=by
 unfold gId;cases e:c.getLast? with
 |none=>simp only;omega
 |some y =>
  have:=h y (FD e);simp only;omega
def bJh{l:Ch}{n:Int}(hv:Val l){f:Int×Int}(h:f∈cI l [(n,1)]):f.1=n\/∃g∈l,g.1=f.1:=by
 obtain⟨h1,h2⟩:=cT [(n,1)] l hv;have e:=fL h1 h;rw[h2]at e;have hne:f.2≠0:=h1.2 f h;by_cases q:f.1=n
 ·exact .inl q
 ·right;refine Classical.byContradiction λhn=>hne ?_
  have e1:getM l f.1=0:=aSn λhm=>by obtain⟨g,hg,eg⟩:=AB.1 hm;exact hn ⟨g,hg,eg⟩
  rw[e1]at e;simp[cf,q]at e;exact e.symm
def Nw.fg{i M d:Nat}{c:List Cl}{y:Cl}(h:Hs i M d c)(N:Nw M (cC c 2).length d c y){k pa pb w0 w1 id:Int}{b:Ch}(hid:0<=id/\id<=302+2*(i:Int))(hk:1<=k/\k<=6)(ha:0<=pa/\pa<=302+2*(i:Int))(hb:0<=pb/\pb<=302+2*(i:Int))(h0:0<=w0/\w0<=302+2*(i:Int))(h1:0<=w1/\w1<=302+2*(i:Int))(hbb:b=y.b\/b=cI y.b [(pa,1)]) :
  Fg i M (cC c 2).length d ⟨k,⟨id,y.dim,b⟩,pa,pb,w0,w1⟩:=by
 have hB:∀{X:Nat},1<=2^X:=λ{X}=>B8
 have hk0:∀f∈y.b,0<=f.1/\f.1<=302+2*(i:Int):=λf hf=>by have h2:=N.face f hf;unfold cC at h2;obtain⟨z,hz,e⟩:=AB.1 h2;have:=h.ids z (List.mem_filter.1 hz).1;omega
 have hbn:Bnd (2^(cyE M (cC c 2).length (4+d) (b2F M d) y.dim+4)-1) y.b:=by
  rcases N.bnd with e|⟨_,e⟩
  ·rw[e];exact Bnd.nil _
  ·exact e
 rcases hbb with rfl|rfl
 ·exact⟨hk,N.dim,N.val,by have:=N.bl;simp only;omega,hbn.mono (Nat.sub_le _ _),hk0,hid,ha,hb,h0,h1⟩
 ·refine⟨hk,N.dim,(cT _ _ N.val).1,?_,?_,λf hf=>?_,hid,ha,hb,h0,h1⟩
  ·have h2:=oA y.b [(pa,1)]
   have:=N.bl
   simp only[As]at h2
   simp only;omega
  ·have h2:=mN (M:=2^(cyE M (cC c 2).length (4+d) (b2F M d) y.dim+4)-1) (K:=1) [(pa,1)] y.b hbn (λf hf=>by rw[AU.1 hf];exact Ap 1)
   refine h2.mono ?_
   have:=@hB (cyE M (cC c 2).length (4+d) (b2F M d) y.dim+4)
   simp only[As];omega
  ·rcases bJh N.val hf with e|⟨g,hg,e⟩
   ·omega
   ·have:=hk0 g hg;omega
def bZw{c:List Cl}{y:Cl}{M q d:Nat}(N:Nw M q d c y)(hE:cyE M q (4+d) (b2F M d) y.dim+5<4398046511104)(pa:Int):Spec Aa 30 [aK y.b,.sl [[.i .i64 pa,.b (decide ((1:Int)<0)),aM (aU (1:Int).natAbs)]],.ag [.b (decide ((1:Int)<0)),aM (aU (1:Int).natAbs)]] (aK (cI y.b [(pa,1)])):=by
 have hbn:Bnd (2^(cyE M q (4+d) (b2F M d) y.dim+4)) y.b:=by
  rcases N.bnd with e|⟨_,e⟩
  ·rw[e];exact Bnd.nil _
  ·exact e.mono (Nat.sub_le _ _)
 have h1:(aU (1*1)).length<=137438953472:=uP (e:=1) (by decide) (by decide);have h2:1<=2^(cyE M q (4+d) (b2F M d) y.dim+4):=B8;have h3:2^(cyE M q (4+d) (b2F M d) y.dim+4+1)=2^(cyE M q (4+d) (b2F M d) y.dim+4)*2:=Nat.pow_succ ..;have hA:=bHt y.b [(pa,1)] 1 _ 1 1 hbn (λf hf=>by rw[AU.1 hf];exact Ap 1) (by decide) (uP (e:=cyE M q (4+d) (b2F M d) y.dim+4+1) (by rw[h3];simp only[As];omega) (by omega)) h1 (uP (e:=1) (by decide) (by decide)) (uP (e:=1) (by decide) (by decide)) (by have:=N.bl;simp;omega);exact hA
def bQo{i M d:Nat}{c:List Cl}(h:Hs i M d c)(hi:i<=10)(s:Sx)(hs:s.ok):∃x:Cg,Fg i M (cC c 2).length d x/\Spec Aa 9 [aE c,.ag (kY s)] (.ag (bO x)):=by
 obtain⟨k,a,b,⟨x0,x1,x2,x3⟩⟩:=s;obtain⟨hk,ha,hb,hq⟩:=hs;simp only at hk ha hb hq;have hlen:=h.len;obtain⟨pa,pa1,hPa⟩:=aYg a ha (by omega) h.ids (by omega);obtain⟨pb,pb1,hPb⟩:=aYg b hb (by omega) h.ids (by omega);have hnx:=bRl h.ids (by omega);obtain⟨nx,hne⟩:∃nx,bIs c=nx:=⟨_,rfl⟩;rw[hne]at hnx;have wnx:Ag.wrap (nx+1)=nx+1:=aW;have m1:=Ds k (b:=6) (by omega);have m2:=E6 k (b:=6) (by omega);obtain⟨kk,hkk⟩:∃kk,k.tmod 6=kk:=⟨_,rfl⟩;have hkr:0<=kk/\kk<6:=by rw[DS hk.1]at hkk;omega
 have wu:IntKind.u8.wrap kk=kk:=by rw[xY];omega
 have wi:Ag.wrap kk=kk:=aW;have wk1:Ag.wrap (1+kk)=1+kk:=aW;have hes:kY ⟨k,a,b,(x0,x1,x2,x3)⟩=[.i .u8 k,.i .u8 a,.i .u8 b,.i .i8 x0,.i .i8 x1,.i .i8 x2,.i .i8 x3]:=rfl;have h0:True:=trivial;have w2:Ag.wrap 2=2:=by decide
 have hc:(c.length=0/\True/\True/\True/\True/\True/\True/\nx=1)\/(∃(n:Nat) (z:Cl),0<c.length/\(c.length:Int)-1=(n:Int)/\Ag.wrap (n:Int)=(n:Int)/\(n:Int)<c.length/\c[n]? = some z/\aN z=[.i .i64 z.id,.i .i64 z.dim,aK z.b]/\Ag.wrap (z.id+1)=z.id+1/\nx=z.id+1):=by
  rcases B7 c.length with e|e
  ·left;rw[AE e]at hne;exact⟨e,h0,h0,h0,h0,h0,h0,hne.symm⟩
  ·right;have hg:c[c.length-1]? = some c[c.length-1]:=Ab (by omega);have hm:=h.ids _ (List.mem_of_getElem? hg);refine⟨c.length-1,c[c.length-1],e,by omega,aW,by omega,hg,rfl,aW,?_⟩;rw[<-hne];unfold bIs;rw[List.getLast?_eq_getElem?,Ab (by omega)]
 by_cases k1:kk=0
 ·obtain⟨y,hG,hyi,N⟩:=bLh h hi x0 x1 x2 x3 hq;have hgI:=bTg (x0:=x0) h.ids (by omega);rw[<-hyi]at hgI;have g1:((1+kk==1):Bool)=true:=by simp;omega
  have g4:((1+kk==4):Bool)=false:=by simp;omega
  have g5:((1+kk==5):Bool)=false:=by simp;omega
  have hO1:=bXx 1 (by decide);have hEb:cyE M (cC c 2).length (4+d) (b2F M d) y.dim+5<4398046511104:=by
   have k4:=h.Md;have k5:=h.n2;obtain⟨g1,g2,g3,g4⟩:=aFi (M:=M) (d:=d) (q:=(cC c 2).length) h.M3 (by omega) (by omega);have hb2:b2F M d=2*gG M (4+d)+10+d:=rfl;unfold cyE;split
   ·omega
   ·split
    ·omega
    ·split<;>omega
  have hAdd:=bZw N hEb pa;obtain⟨g,hg⟩:∃g,c++[y]=g:=⟨_,rfl⟩;have hgn:(g.length:Int)-1=(c.length:Int):=by rw[<-hg];simp
  have hgl:(c.length:Int)<g.length:=by rw[<-hg];simp;omega
  have wgl:Ag.wrap ((g.length:Int)-1)=(c.length:Int):=by rw[hgn];exact aW
  have hgz:g[c.length]? = some y:=by rw[<-hg];simp
  rw[hg]at hG;have ey:aN y=[.i .i64 y.id,.i .i64 y.dim,aK y.b]:=rfl;by_cases a0:240<=a
  ·by_cases b0:240<=b
   ·refine⟨⟨1+kk,⟨pb,y.dim,cI y.b [(pa,1)]⟩,pa,pb,nx,nx+1⟩,N.fg h (by omega) (by omega) (by omega) (by omega) (by omega) (by omega) (.inr rfl),?_⟩;rcases hc with ⟨e0,hl1,wn,hn,hz,ez,wz,en⟩|⟨n,z,e0,hl1,wn,hn,hz,ez,wz,en⟩
    all_goals
     subst en
     refine jT (N:=118) pX bL Ed rfl rfl rfl (by kernel_rfl) (by kernel_rfl) (by simp) ?_
     unfold pX
     simp[-C,-E,↓KW,aE,h0,hl1,wn,hn,hz,ez,wz,aC,hes,e0,hkk,wu,wi,wk1,↓cK,↓cL,↓cS,↓cR,cQ]
     refine aJ hPa ?_
     simp[-C,-E,↓KW,aE,↓cK,↓cL,↓cS,↓cR,cQ]
     refine aJ hPb ?_
     simp[-C,-E,↓KW,aE,w2,wnx,g1,g4,g5,↓cK,↓cL,↓cS,↓cR,cQ]
     refine aJ hG ?_
     simp[-C,-E,↓KW,g1,g4,g5,aE,hgl,wgl,hgz,ey,a0,b0,aC,aA,aB,↓cK,↓cL,↓cS,↓cR,cQ]
     refine aJ hPa ?_
     simp[-C,-E,↓KW,aE,aC,aA,aB]
     refine aJ hO1 ?_
     simp[-C,-E,↓KW,encZ,encI,aE,aF,aD,aG,aC,aA,aB]
     refine aJ hO1 ?_
     simp[-C,-E,↓KW,encZ,encI,aE,aF,aD,aG,aC,aA,aB]
     refine aJ hAdd ?_
     simp[-C,-E,↓KW,g1,g4,g5,aE,aK,kill]
     rfl
   ·refine⟨⟨1+kk,⟨pb,y.dim,y.b⟩,pa,pb,nx,nx+1⟩,N.fg h (by omega) (by omega) (by omega) (by omega) (by omega) (by omega) (.inl rfl),?_⟩;rcases hc with ⟨e0,hl1,wn,hn,hz,ez,wz,en⟩|⟨n,z,e0,hl1,wn,hn,hz,ez,wz,en⟩
    all_goals
     subst en
     refine jT (N:=118) pX bL Ed rfl rfl rfl (by kernel_rfl) (by kernel_rfl) (by simp) ?_
     unfold pX
     simp[-C,-E,↓KW,aE,h0,hl1,wn,hn,hz,ez,wz,aC,hes,e0,hkk,wu,wi,wk1,↓cK,↓cL,↓cS,↓cR,cQ]
     refine aJ hPa ?_
     simp[-C,-E,↓KW,aE,↓cK,↓cL,↓cS,↓cR,cQ]
     refine aJ hPb ?_
     simp[-C,-E,↓KW,aE,w2,wnx,g1,g4,g5,↓cK,↓cL,↓cS,↓cR,cQ]
     refine aJ hG ?_
     simp[-C,-E,↓KW,g1,g4,g5,aE,hgl,wgl,hgz,ey,a0,b0,aC,aA,aB,↓cK,↓cL,↓cS,↓cR,cQ]
     rfl
  ·by_cases b0:240<=b
   ·refine⟨⟨1+kk,⟨y.id,y.dim,cI y.b [(pa,1)]⟩,pa,pb,nx,nx+1⟩,N.fg h (by omega) (by omega) (by omega) (by omega) (by omega) (by omega) (.inr rfl),?_⟩;rcases hc with ⟨e0,hl1,wn,hn,hz,ez,wz,en⟩|⟨n,z,e0,hl1,wn,hn,hz,ez,wz,en⟩
    all_goals
     subst en
     refine jT (N:=118) pX bL Ed rfl rfl rfl (by kernel_rfl) (by kernel_rfl) (by simp) ?_
     unfold pX
     simp[-C,-E,↓KW,aE,h0,hl1,wn,hn,hz,ez,wz,aC,hes,e0,hkk,wu,wi,wk1,↓cK,↓cL,↓cS,↓cR,cQ]
     refine aJ hPa ?_
     simp[-C,-E,↓KW,aE,↓cK,↓cL,↓cS,↓cR,cQ]
     refine aJ hPb ?_
     simp[-C,-E,↓KW,aE,w2,wnx,g1,g4,g5,↓cK,↓cL,↓cS,↓cR,cQ]
     refine aJ hG ?_
     simp[-C,-E,↓KW,g1,g4,g5,aE,hgl,wgl,hgz,ey,a0,b0,aC,aA,aB,↓cK,↓cL,↓cS,↓cR,cQ]
     refine aJ hPa ?_
     simp[-C,-E,↓KW,aE,aC,aA,aB]
     refine aJ hO1 ?_
     simp[-C,-E,↓KW,encZ,encI,aE,aF,aD,aG,aC,aA,aB]
     refine aJ hO1 ?_
     simp[-C,-E,↓KW,encZ,encI,aE,aF,aD,aG,aC,aA,aB]
     refine aJ hAdd ?_
     simp[-C,-E,↓KW,g1,g4,g5,aE,aK,kill]
     rfl
   ·refine⟨⟨1+kk,⟨y.id,y.dim,y.b⟩,pa,pb,nx,nx+1⟩,N.fg h (by omega) (by omega) (by omega) (by omega) (by omega) (by omega) (.inl rfl),?_⟩;rcases hc with ⟨e0,hl1,wn,hn,hz,ez,wz,en⟩|⟨n,z,e0,hl1,wn,hn,hz,ez,wz,en⟩
    all_goals
     subst en
     refine jT (N:=118) pX bL Ed rfl rfl rfl (by kernel_rfl) (by kernel_rfl) (by simp) ?_
     unfold pX
     simp[-C,-E,↓KW,aE,h0,hl1,wn,hn,hz,ez,wz,aC,hes,e0,hkk,wu,wi,wk1,↓cK,↓cL,↓cS,↓cR,cQ]
     refine aJ hPa ?_
     simp[-C,-E,↓KW,aE,↓cK,↓cL,↓cS,↓cR,cQ]
     refine aJ hPb ?_
     simp[-C,-E,↓KW,aE,w2,wnx,g1,g4,g5,↓cK,↓cL,↓cS,↓cR,cQ]
     refine aJ hG ?_
     simp[-C,-E,↓KW,g1,g4,g5,aE,hgl,wgl,hgz,ey,a0,b0,aC,aA,aB,↓cK,↓cL,↓cS,↓cR,cQ]
     rfl
 by_cases k4:kk=3
 ·have hF:=bQp (h.sz (by omega)) (by rw[aCk];omega);rw[aLz h.v]at hF;have hfl:=aKf (h.sz (by omega));have hin:∀p∈jN c,(0<=p.1/\p.1<=302+2*(i:Int))/\0<=p.2/\p.2<=302+2*(i:Int):=λp hp=>by obtain⟨⟨y,hy,e1⟩,⟨z,hz,e2⟩⟩:=bLo h.v hp;have:=h.ids y hy;have:=h.ids z hz;omega
  obtain⟨fr,hfr⟩:∃fr,jN c=fr:=⟨_,rfl⟩;rw[hfr]at hF hfl hin;have g1:((1+kk==1):Bool)=false:=by simp;omega
  have g4:((1+kk==4):Bool)=true:=by simp;omega
  have wa:Ag.wrap a=a:=aW;by_cases hgo:0<fr.length/\b<240
  ·obtain⟨f0,b0⟩:=hgo;have fne:¬fr=[]:=λe=>by rw[e]at f0;exact Nat.lt_irrefl 0 f0
   have m1:=Ds a (b:=(fr.length:Int)) (by omega);have m2:=E6 a (b:=(fr.length:Int)) (by omega);obtain⟨j,j1,j2⟩:∃j:Nat,j<fr.length/\a.tmod (fr.length:Int)=(j:Int):=⟨(a%fr.length).toNat,by omega,by rw[DS ha.1];omega⟩;have j3:(j:Int)<fr.length:=by omega
   have hp:fr[j]? = some fr[j]:=Ab j1;have hpm:fr[j]∈fr:=Ar j1;refine exE fr[j] λp hpe=>?_
   rw[hpe]at hp hpm;have hpe':∀h:j<fr.length,fr[j]'h=p:=λ_=>hpe
   have wj:Ag.wrap (j:Int)=(j:Int):=aW;have ep:uM p=[.i .i64 p.1,.i .i64 p.2]:=rfl;obtain⟨q1,q2⟩:=hin p hpm;refine⟨⟨1+kk,⟨0,0,[]⟩,p.1,p.2,nx,nx+1⟩,Fg.zero (by omega) q1 q2 (by omega) (by omega),?_⟩;rcases hc with ⟨e0,hl1,wn,hn,hz,ez,wz,en⟩|⟨n,z,e0,hl1,wn,hn,hz,ez,wz,en⟩
   ·subst en;refine jT (N:=118) pX bL Ed rfl rfl rfl (by kernel_rfl) (by kernel_rfl) (by simp) ?_;unfold pX;simp[-C,-E,↓KW,aE,h0,hes,e0,hkk,wu,wi,wk1,↓cK,↓cL,↓cS,↓cR,cQ];refine aJ hPa ?_;simp[-C,-E,↓KW,aE,↓cK,↓cL,↓cS,↓cR,cQ];refine aJ hPb ?_;simp[-C,-E,↓KW,aE,w2,wnx,g1,g4,↓cK,↓cL,↓cS,↓cR,cQ];refine aJ hF ?_;simp[-C,-E,↓KW,fT,g1,g4,f0,fne,b0,j1,j2,j3,hp,hpe',wj,wa,↓cK,↓cL,↓cS,↓cR,↓wJ,cQ];refine aAv (StL [(4,.ptr 1 0),(6,.ptr 2 0)] none [.cells 43 [.d (.i .i64 0),.d (.i .i64 0),.d (.i .i64 0),.nil,.d (.i .i64 0),.d (.i .i64 0),.d (.i .i64 0),.d (.i .i64 0)],.cells 43 [.d (.i .i64 (1+kk)),.d (.i .i64 0),.d (.i .i64 0),.nil,.d (.i .i64 p.1),.d (.i .i64 p.2),.d (.i .i64 (1)),.d (.i .i64 (2))]]) _ _ rfl rfl ?_ ?_
    ·simp only[opsL,opL,mG,Cy,Dz,Cf,BZ,Ce,Cp,BO,BN];simp[-C,-E,↓KW,fT,f0,fne,b0,j1,j2,j3,hp,hpe',wj,wa,ep,↓dP,↓dQ,↓dR,↓cX];refine .inr (wkQ [2,3] ?_ ?_)<;>simp[-C,upd,aO,Γ0,fT]
    ·simp[-C,-E,↓KW,ep];rfl
   ·subst en;refine jT (N:=118) pX bL Ed rfl rfl rfl (by kernel_rfl) (by kernel_rfl) (by simp) ?_;unfold pX;simp[-C,-E,↓KW,aE,h0,hl1,wn,hn,hz,ez,wz,aC,hes,e0,hkk,wu,wi,wk1,↓cK,↓cL,↓cS,↓cR,cQ];refine aJ hPa ?_;simp[-C,-E,↓KW,aE,↓cK,↓cL,↓cS,↓cR,cQ];refine aJ hPb ?_;simp[-C,-E,↓KW,aE,w2,wnx,g1,g4,↓cK,↓cL,↓cS,↓cR,cQ];refine aJ hF ?_;simp[-C,-E,↓KW,fT,g1,g4,f0,fne,b0,j1,j2,j3,hp,hpe',wj,wa,↓cK,↓cL,↓cS,↓cR,↓wJ,cQ];refine aAv (StL [(4,.ptr 1 0),(6,.ptr 2 0)] none [.cells 43 [.d (.i .i64 0),.d (.i .i64 0),.d (.i .i64 0),.nil,.d (.i .i64 0),.d (.i .i64 0),.d (.i .i64 0),.d (.i .i64 0)],.cells 43 [.d (.i .i64 (1+kk)),.d (.i .i64 0),.d (.i .i64 0),.nil,.d (.i .i64 p.1),.d (.i .i64 p.2),.d (.i .i64 (z.id+1)),.d (.i .i64 (z.id+1+1))]]) _ _ rfl rfl ?_ ?_
    ·simp only[opsL,opL,mG,Cy,Dz,Cf,BZ,Ce,Cp,BO,BN];simp[-C,-E,↓KW,fT,f0,fne,b0,j1,j2,j3,hp,hpe',wj,wa,ep,↓dP,↓dQ,↓dR,↓cX];refine .inr (wkQ [2,3] ?_ ?_)<;>simp[-C,upd,aO,Γ0,fT]
    ·simp[-C,-E,↓KW,ep];rfl
  ·refine⟨⟨1+kk,⟨0,0,[]⟩,pa,pb,nx,nx+1⟩,Fg.zero (by omega) (by omega) (by omega) (by omega) (by omega),?_⟩;by_cases f0:0<fr.length
   ·have b0:¬b<240:=λe=>hgo ⟨f0,e⟩
    rcases hc with ⟨e0,hl1,wn,hn,hz,ez,wz,en⟩|⟨n,z,e0,hl1,wn,hn,hz,ez,wz,en⟩
    all_goals
     subst en
     refine jT (N:=118) pX bL Ed rfl rfl rfl (by kernel_rfl) (by kernel_rfl) (by simp) ?_
     unfold pX
     simp[-C,-E,↓KW,aE,h0,hl1,wn,hn,hz,ez,wz,aC,hes,e0,hkk,wu,wi,wk1,↓cK,↓cL,↓cS,↓cR,cQ]
     refine aJ hPa ?_
     simp[-C,-E,↓KW,aE,↓cK,↓cL,↓cS,↓cR,cQ]
     refine aJ hPb ?_
     simp[-C,-E,↓KW,aE,w2,wnx,g1,g4,↓cK,↓cL,↓cS,↓cR,cQ]
     refine aJ hF ?_
     simp[-C,-E,↓KW,fT,g1,g4,f0,b0,↓cK,↓cL,↓cS,↓cR,↓wJ,cQ]
     rfl
   ·have f1:fr=[]:=AE (by omega);subst f1;rcases hc with ⟨e0,hl1,wn,hn,hz,ez,wz,en⟩|⟨n,z,e0,hl1,wn,hn,hz,ez,wz,en⟩
    all_goals
     subst en
     refine jT (N:=118) pX bL Ed rfl rfl rfl (by kernel_rfl) (by kernel_rfl) (by simp) ?_
     unfold pX
     simp[-C,-E,↓KW,aE,h0,hl1,wn,hn,hz,ez,wz,aC,hes,e0,hkk,wu,wi,wk1,↓cK,↓cL,↓cS,↓cR,cQ]
     refine aJ hPa ?_
     simp[-C,-E,↓KW,aE,↓cK,↓cL,↓cS,↓cR,cQ]
     refine aJ hPb ?_
     simp[-C,-E,↓KW,aE,w2,wnx,g1,g4,↓cK,↓cL,↓cS,↓cR,cQ]
     refine aJ hF ?_
     simp[-C,-E,↓KW,fT,g1,g4,↓cK,↓cL,↓cS,↓cR,↓wJ,cQ]
     rfl
 by_cases k5:kk=4
 ·have g1:((1+kk==1):Bool)=false:=by simp;omega
  have g4:((1+kk==4):Bool)=false:=by simp;omega
  have g5:((1+kk==5):Bool)=true:=by simp;omega
  by_cases b0:240<=b
  ·refine⟨⟨1+kk,⟨0,0,[]⟩,pa,pb,nx,pb⟩,Fg.zero (by omega) (by omega) (by omega) (by omega) (by omega),?_⟩;rcases hc with ⟨e0,hl1,wn,hn,hz,ez,wz,en⟩|⟨n,z,e0,hl1,wn,hn,hz,ez,wz,en⟩
   all_goals
    subst en
    refine jT (N:=118) pX bL Ed rfl rfl rfl (by kernel_rfl) (by kernel_rfl) (by simp) ?_
    unfold pX
    simp[-C,-E,↓KW,aE,h0,hl1,wn,hn,hz,ez,wz,aC,hes,e0,hkk,wu,wi,wk1,↓cK,↓cL,↓cS,↓cR,cQ]
    refine aJ hPa ?_
    simp[-C,-E,↓KW,aE,↓cK,↓cL,↓cS,↓cR,cQ]
    refine aJ hPb ?_
    simp[-C,-E,↓KW,aE,w2,wnx,g1,g4,g5,b0,↓cK,↓cL,↓cS,↓cR,cQ]
    rfl
  ·refine⟨⟨1+kk,⟨0,0,[]⟩,pa,pb,nx,nx+1⟩,Fg.zero (by omega) (by omega) (by omega) (by omega) (by omega),?_⟩;rcases hc with ⟨e0,hl1,wn,hn,hz,ez,wz,en⟩|⟨n,z,e0,hl1,wn,hn,hz,ez,wz,en⟩
   all_goals
    subst en
    refine jT (N:=118) pX bL Ed rfl rfl rfl (by kernel_rfl) (by kernel_rfl) (by simp) ?_
    unfold pX
    simp[-C,-E,↓KW,aE,h0,hl1,wn,hn,hz,ez,wz,aC,hes,e0,hkk,wu,wi,wk1,↓cK,↓cL,↓cS,↓cR,cQ]
    refine aJ hPa ?_
    simp[-C,-E,↓KW,aE,↓cK,↓cL,↓cS,↓cR,cQ]
    refine aJ hPb ?_
    simp[-C,-E,↓KW,aE,w2,wnx,g1,g4,g5,b0,↓cK,↓cL,↓cS,↓cR,cQ]
    rfl
 ·refine⟨⟨1+kk,⟨0,0,[]⟩,pa,pb,nx,nx+1⟩,Fg.zero (by omega) (by omega) (by omega) (by omega) (by omega),?_⟩;have g1:((1+kk==1):Bool)=false:=by simp;omega
  have g4:((1+kk==4):Bool)=false:=by simp;omega
  have g5:((1+kk==5):Bool)=false:=by simp;omega
  rcases hc with ⟨e0,hl1,wn,hn,hz,ez,wz,en⟩|⟨n,z,e0,hl1,wn,hn,hz,ez,wz,en⟩
  all_goals
   subst en
   refine jT (N:=118) pX bL Ed rfl rfl rfl (by kernel_rfl) (by kernel_rfl) (by simp) ?_
   unfold pX
   simp[-C,-E,↓KW,aE,h0,hl1,wn,hn,hz,ez,wz,aC,hes,e0,hkk,wu,wi,wk1,↓cK,↓cL,↓cS,↓cR,cQ]
   refine aJ hPa ?_
   simp[-C,-E,↓KW,aE,↓cK,↓cL,↓cS,↓cR,cQ]
   refine aJ hPb ?_
   simp[-C,-E,↓KW,aE,w2,wnx,g1,g4,g5,↓cK,↓cL,↓cS,↓cR,cQ]
   rfl
end Go.Am
end
section
open List renaming map_map->C,mapM_map->E
open Go Go.Am Go.Proofs
namespace Go.Am
open Go.ChangeShapes Go.WideShapes Go.ChangeAt Go.RowKit
def bFa:Aa.cellsOf 29=7:=by kernel_rfl
def cBo{α:Type}{l:List α}(h:l.length=7):∃a b c d e f g,l=[a,b,c,d,e,f,g]:=by
 match l,h with
 |[a,b,c,d,e,f,g],_=>exact⟨a,b,c,d,e,f,g,rfl⟩
section
variable {H:Type} {enc:TypeId×Value->H} {w:World} {sp:Nat->Bool} {held:Bool}
def bVs{cs:List Value}{x:DataW H×List MemPlace}{fuel:Nat}(h:DataW.trod enc Aa w 0 sp held fuel 29 cs=some x) :
  ∃y:Sx,y.ok/\cs.length=7/\(kY y).length=Aa.cellsOf 29/\∀(k:Nat) (c:D) (v:Value),(kY y)[k]? = some c->cs[k]? = some v->VD (λb=>b<w.heap.size) w c v:=by
 obtain⟨xs,n,_,_,hl,hlen,hfs⟩:=DataW.trod_struct Tryz.underlying29 h
 rw[bFa]at hl
 have h0:=hfs 0 { name := "K",type:=5,offset:=0,embedded:=false,tag := "",pkgPath := "",byteOffset:=0 } rfl
 have h1:=hfs 1 { name := "A",type:=5,offset:=1,embedded:=false,tag := "",pkgPath := "",byteOffset:=1 } rfl
 have h2:=hfs 2 { name := "B",type:=5,offset:=2,embedded:=false,tag := "",pkgPath := "",byteOffset:=2 } rfl
 have h3:=hfs 3 { name := "F",type:=27,offset:=3,embedded:=false,tag := "",pkgPath := "",byteOffset:=3 } rfl
 obtain⟨x0,hx0⟩:∃x,xs[0]? = some x:=⟨_,Ab (by rw[hlen];decide)⟩
 obtain⟨x1,hx1⟩:∃x,xs[1]? = some x:=⟨_,Ab (by rw[hlen];decide)⟩
 obtain⟨x2,hx2⟩:∃x,xs[2]? = some x:=⟨_,Ab (by rw[hlen];decide)⟩
 obtain⟨x3,hx3⟩:∃x,xs[3]? = some x:=⟨_,Ab (by rw[hlen];decide)⟩
 rw[hx0]at h0;rw[hx1]at h1;rw[hx2]at h2;rw[hx3]at h3
 obtain⟨a,b,c,d,e,f,g,rfl⟩:=cBo hl
 simp only[zU8,zA4,BZ,Cf,Ce,Cp]at h0 h1 h2 h3
 obtain⟨i0,e0,_,w0⟩:=DT Ej h0
 obtain⟨i1,e1,_,w1⟩:=DT Ej h1
 obtain⟨i2,e2,_,w2⟩:=DT Ej h2
 obtain⟨y,hy,_,hv⟩:=bVt h3
 injection e0 with e0;injection e1 with e1;injection e2 with e2
 subst e0;subst e1;subst e2
 refine⟨⟨i0,i1,i2,y⟩,⟨aLf w0,aLf w1,aLf w2,hy⟩,rfl,by rw[bFa];rfl,λk c v hk hv'=>?_⟩
 rcases k with _|_|_|k
 ·simp[kY]at hk hv';subst hk;subst hv';exact .i _ _
 ·simp[kY]at hk hv';subst hk;subst hv';exact .i _ _
 ·simp[kY]at hk hv';subst hk;subst hv';exact .i _ _
 ·refine hv k c v ?_ ?_
  ·exact hk
  ·exact hv'
def bCk{v:Value}{d:DataW H}{ps:List MemPlace}{cs:Array Value}(hv:v=.agg cs)(h:DataW.Trod enc Aa w 0 sp held 29 v d ps) :
  ∃y:Sx,VD (λb=>b<w.heap.size) w (.ag (kY y)) v/\y.ok:=by
 subst hv
 obtain⟨fuel,hf⟩:=h
 obtain⟨y,hy,hl,_,hk⟩:=bVs hf
 refine⟨y,.ag _ _ ?_ λk d v h1 h2=>hk k d v h1 ?_,hy⟩
 ·simp only[D7]at hl
  obtain⟨cs⟩:=cs
  show 7=_
  simpa using hl.symm
 ·simp only[D7]
  obtain⟨cs⟩:=cs
  simpa using h2
def bQy{cs:List Value}{x:DataW H×List MemPlace}{fuel:Nat}(hf:DataW.trod enc Aa w 0 sp held fuel 25 cs=some x) :
  ∃(u:Value) (l:List Sx),cs=[u]/\VD (λb=>b<w.heap.size) w (.sl (l.map kY)) u/\(∀x∈l,x.ok)/\l.length<=9223372036854775807 :=
 aJh Tryz.underlying25 (by rw[bFa];decide) kY Sx.ok (λfuel cs x h=>by
  obtain⟨y,h1,_,h2,h3⟩:=bVs h;exact⟨y,h1,h2,h3⟩) hf
end
end Go.Am
end
section
open List renaming map_map->C,mapM_map->E
open Go Go.Am Go.Proofs
namespace Go.Am
def bVp:gQ Aa 49:=aEw Tryz.func49 (by kernel_rfl) rfl rfl rfl
def bPf{a b:Hi}(hs:a.s≠b.s):Spec Aa 24 [bZ a,bZ b] (h2D (a,320)):=by
 have hd:((a.s != b.s):Bool)=true:=by simpa using hs
 refine qP (N:=120) Tryz.func24 bVp ?_;simp[-C,-E,↓KW,↓cP,↓bR,↓cN,↓cO,bY,bQ,aE,hd,cG,h2D]
def cCw(x y:List Cg):Prop:=x=[]\/y=[]\/∃x0 xs y0 ys,x=x0::xs/\y=y0::ys/\Spec Aa 52 [.ag (bO x0),.ag (bO y0)] (.b false)
structure MgH(s:Int)(c:List Cl)(p x y:List Cg)(pc:List Cl):Prop where
 cl:c.length<=1000
 cs:∀z∈c,SzC z
 ps:∀z∈p,SzC z.c
 xl:p.length+x.length<=2000
 yl:p.length+y.length<=2000
 stop:cCw x y
 okp:OkA c p
 snd:mM c p=(pc,0)
 okx:OkA pc (x++y)
 oky:OkA pc (y++x)
def aTz{s:Int}{c:List Cl}{p x y:List Cg}{pc o1 o2:List Cl}{e1 e2:Int}(h:MgH s c p x y pc)(h1:mM pc (x++y)=(o1,e1))(h2:mM pc (y++x)=(o2,e2))(hcase:e1≠0\/e1=0/\e2=0/\o1=o2/\o1.length<=1000/\∀z∈o1,SzC z) :
  Spec Aa 24 [bZ ⟨s,c,p++x⟩,bZ ⟨s,c,p++y⟩] (h2D (if e1=0 then(⟨s,c,p++x++y⟩,0)else(⟨s,c,p++x⟩,321))):=by
 have hxl:=h.xl
 have hyl:=h.yl
 have hd:((s != s):Bool)=false:=by simp
 have hE:=aSp h.cs (by have:=h.cl;omega)
 have hRp:=yA (c0:=c) (ls:=[p]) (by simpa using h.okp) (by simp) (by simp;omega)
 have hRx:=yA (c0:=pc) (ls:=[x,y]) (by simpa using h.okx) (by simp) (by simp;omega)
 have hRy:=yA (c0:=pc) (ls:=[y,x]) (by simpa using h.oky) (by simp) (by simp;omega)
 simp only[BE,List.flatten_nil,AZ,h1,h2,h.snd]at hRp hRx hRy
 have hCc:=aZz (p++x) y (by simp;omega) (by omega)
 rw[aSt]at hCc
 have okA:=aVc (p++x)
 have okB:=aVc (p++y)
 have hAi:∀i,∀h:i<p.length,((p++x).map bO)[i]? = some (bO p[i]):=λi hi=>by rw[Aw,AK hi,Ab hi];rfl
 have hBi:∀i,∀h:i<p.length,((p++y).map bO)[i]? = some (bO p[i]):=λi hi=>by rw[Aw,AK hi,Ab hi];rfl
 have hAl:((p++x).map bO).length=p.length+x.length:=by simp
 have hBl:((p++y).map bO).length=p.length+y.length:=by simp
 have hAt:((p++x).map bO).take p.length=p.map bO:=by rw[<-BB,List.take_left]
 have hAd:((p++x).map bO).drop p.length=x.map bO:=by rw[<-Bu,List.drop_left]
 have hBd:((p++y).map bO).drop p.length=y.map bO:=by rw[<-Bu,List.drop_left]
 have hAe:∀x0 xs,x=x0::xs->((p++x).map bO)[p.length]? = some (bO x0):=λx0 xs e=>by subst e;simp
 have hBe:∀x0 xs,y=x0::xs->((p++y).map bO)[p.length]? = some (bO x0):=λx0 xs e=>by subst e;simp
 have hAf:((p++x).map bO).take (p.length+x.length)=(p++x).map bO:=Ai (by simp)
 have hBf:((p++y).map bO).take (p.length+y.length)=(p++y).map bO:=Ai (by simp)
 have ha:bZ ⟨s,c,p++x⟩=.ag [.i .i64 s,.sl (c.map aN),.sl ((p++x).map bO)]:=rfl
 have hb:bZ ⟨s,c,p++y⟩=.ag [.i .i64 s,.sl (c.map aN),.sl ((p++y).map bO)]:=rfl
 have hxy:bZ ⟨s,c,p++x++y⟩=.ag [.i .i64 s,.sl (c.map aN),.sl ((p++x++y).map bO)]:=rfl
 have hLg:bQ (p++x++y)=.sl ((p++x++y).map bO):=rfl
 rw[hLg]at hCc
 obtain⟨A,hA⟩:∃A,(p++x).map bO=A:=⟨_,rfl⟩
 obtain⟨B,hB⟩:∃B,(p++y).map bO=B:=⟨_,rfl⟩
 obtain⟨AY,hAY⟩:∃B,(p++x++y).map bO=B:=⟨_,rfl⟩
 have hrd:∀r e,r2D (r,e)=.tp [.sl (r.map aN),.i .i64 e]:=λ_ _=>rfl
 simp only[pR,bQ,aE,A1,DB,hrd]at hRp hRx hRy hE
 obtain⟨PC,hPC⟩:∃B,pc.map aN=B:=⟨_,rfl⟩
 obtain⟨O1,hO1⟩:∃B,o1.map aN=B:=⟨_,rfl⟩
 obtain⟨O2,hO2⟩:∃B,o2.map aN=B:=⟨_,rfl⟩
 rw[hPC]at hRp hRx hRy
 rw[hO1]at hRx
 rw[hO2]at hRy
 have hYLl:(y.map bO).length=y.length:=by simp
 have ql:¬(4000:Int)<p.length+x.length+y.length:=by omega
 have wl:Ag.wrap ((p.length:Int)+x.length+y.length)=(p.length:Int)+x.length+y.length:=aW
 have tn1:((p.length:Int)+x.length).toNat=p.length+x.length:=by omega
 have tn2:((p.length:Int)+y.length).toNat=p.length+y.length:=by omega
 have qp1:(p.length:Int)<=p.length+x.length:=by omega
 have qp2:(p.length:Int)<=p.length+y.length:=by omega
 rw[hA]at okA hAl hAt hAd hAf ha hCc
 rw[hB]at okB hBl hBd hBf hb
 simp only[hA]at hAi hAe
 simp only[hB]at hBi hBe
 rw[hAY]at hCc hxy
 obtain⟨XL,hXL⟩:∃B,x.map bO=B:=⟨_,rfl⟩
 obtain⟨YL,hYL⟩:∃B,y.map bO=B:=⟨_,rfl⟩
 obtain⟨PL,hPL⟩:∃B,p.map bO=B:=⟨_,rfl⟩
 obtain⟨CL,hCL⟩:∃B,c.map aN=B:=⟨_,rfl⟩
 rw[hXL]at hAd hRx hRy
 rw[hYL]at hBd hRx hRy hCc hYLl
 rw[hPL]at hAt hRp
 rw[hCL]at ha hb hxy hRp hE
 have hxy2:=hxy
 rw[List.append_assoc]at hxy2
 rw[ha,hb]
 clear hA hB
 refine qP (N:=120) Tryz.func24 bVp ?_
 simp[-C,-E,↓KW,↓cP,↓bR,↓cN,↓cO,hd,nI,jZ]
 refine aJ hE ?_
 simp[-C,-E,↓KW,↓cP,↓bR,↓cN,↓cO]
 refine aP (λi:Nat=>i<=p.length) (λi=>StL [(2,.ptr 1 0),(3,.ptr 2 0),(4,.ptr 3 0),(5,.d (.i .i64 0)),(6,.d (.i .i64 (i:Int)))] none [.cells 35 [.d (.i .i64 s),.d (.sl CL),.d (.sl A)],.cells 35 [.d (.i .i64 s),.d (.sl CL),.d (.sl B)],.cells 35 [.d (.i .i64 0),.nil,.nil]]) (λi=>p.length-i) 0 (Al _) ?_ ?_
 ·refine wkQ [1,2,3] ?_ ?_<;>simp[-C,upd,aO,Γ0]
 ·intro i hi
  by_cases hgo:i<p.length
  ·have q1:(i:Int)<p.length+x.length:=by omega
   have q2:(i:Int)<p.length+y.length:=by omega
   have hxa:=hAi i hgo
   have hxb:=hBi i hgo
   have hps:=h.ps _ (Ar hgo)
   have hw:Ag.wrap ((i:Int)+1)=(i:Int)+1:=aW
   refine exE p[i] λu hue=>?_
   rw[hue]at hxa hxb hps
   have hS:=aOn hps
   have huc:=dA u
   simp[-C,-E,↓KW,hAl,hBl,q1,q2,hxa,hxb,okA,okB,huc,aC,aA,aB]
   refine aJ hS ?_
   simp[-C,-E,↓KW,hw]
   refine aI (i+1) hgo (slQ hgo) (wkQ [1,2,3] ?_ ?_)<;>simp[-C,upd,aO,Γ0]
  ·have hip:i=p.length:=by omega
   subst hip
   cases hf1:oK (D.sl PC)with
   |_ =>
    cases hf2:oK (D.sl O1)with
    |_ =>
     rcases h.stop with ex|ey|⟨x0,xs,y0,ys,ex,ey,hS⟩
     have q1:¬(p.length:Int)<p.length+x.length:=by rw[ex];simp
     simp[-C,-E,↓KW,hAl,hBl,q1,okA,okB,hAt,qp1]
     rotate_left
     by_cases ex:x=[]
     have q1:¬(p.length:Int)<p.length+x.length:=by rw[ex];simp
     simp[-C,-E,↓KW,hAl,hBl,q1,okA,okB,hAt,qp1]
     rotate_left
     have hx1:0<x.length:=Dp.2 ex
     have q1:(p.length:Int)<p.length+x.length:=by omega
     have q2:¬(p.length:Int)<p.length+y.length:=by rw[ey];simp
     simp[-C,-E,↓KW,hAl,hBl,q1,q2,okA,okB,hAt,qp1]
     rotate_left
     have hx1:0<x.length:=by rw[ex];simp
     have hy1:0<y.length:=by rw[ey];simp
     have q1:(p.length:Int)<p.length+x.length:=by omega
     have q2:(p.length:Int)<p.length+y.length:=by omega
     have hxa:=hAe x0 xs ex
     have hxb:=hBe y0 ys ey
     have hu0:=dA x0
     have hu1:=dA y0
     clear ex ey
     simp[-C,-E,↓KW,hAl,hBl,q1,q2,hxa,hxb,okA,okB,hu0,hu1,aC,aA,aB]
     refine aJ hS ?_
     simp[-C,-E,↓KW,hAl,okA,hAt,qp1]
     all_goals
      refine aJ hRp ?_
      simp[-C,-E,↓KW,hf1,kill,tn1,tn2,hAl,hBl,hAd,hBd,hAf,hBf,okA,okB,qp1,qp2]
      refine aJ hRx ?_
      by_cases he:e1=0
      ·obtain⟨he2,hoo,hol,hos⟩:=hcase.resolve_left (λq=>q he) |>.2
       subst he;subst he2;subst hoo
       have hE2:=aSp hos (by omega)
       simp only[aE]at hE2
       rw[hO1]at hE2
       have hO2':O2=O1:=by rw[<-hO1,<-hO2]
       subst hO2'
       simp[-C,-E,↓KW,hf2,kill]
       refine aJ hRy ?_
       simp[-C,-E,↓KW,↓cP,↓bR,↓cN,↓cO,hf2,kill,nI,jZ]
       refine aJ hE2 ?_
       simp[-C,-E,↓KW,hf2,kill,hAl,hYLl,ql,wl]
       refine aJ hCc ?_
       cases hf4:oK (D.sl AY)<;>simp[-C,-E,↓KW,hf4,kill,cG,h2D,hxy,hxy2]
      ·have he':((e1 != 0):Bool)=true:=by simpa using he
       simp[-C,-E,↓KW,hf2,kill,he,he',cG,h2D,ha]
def aPs{h:Hi}{c:List Cl}(n:Int)(ho:OkH h)(hs:aXj h c)(hl:(h.l.length:Int)<=n)(hv:CxV h.c)(hz:SzX bV h.c):Spec Aa 20 [bZ h,.i .i64 n] (.b true):=by
 have hV:=bHu hv hz (by rw[aCk];omega);have hA:=bHq (c0:=h.c) (l:=h.l) ho.ok ho.len;rw[hs]at hA;have hRD:r2D (c,0)=.tp [aE c,.i .i64 0]:=rfl;rw[hRD]at hA;have q1:¬h.s<0:=by have:=ho.s0;omega
 have q2:¬n<(h.l.length:Int):=by omega
 refine bF (N:=33) Tryz.func20 ?_;simp[-C,-E,↓KW,bY,bQ,aE,q1,q2];refine aJ hV ?_;simp[-C,-E,↓KW,aE,bQ];refine aJ hA ?_;simp[-C,-E,↓KW,aE]
def smF(f:Int×Int):Bool:=decide (0<=f.1)&&decide (f.1<=1000)&&decide (f.2.natAbs<=2)
def smL(x:Cl):Bool:=decide (x.b.length<=2)&&x.b.all smF&&decide (0<=x.id)&&decide (x.id<=1000)&&decide (0<=x.dim)&&decide (x.dim<=3)
def smC(c:List Cl):Bool:=decide (c.length<=5)&&c.all smL
def smG(x:Cg):Bool:=(decide (x.k=1)||decide (x.k=2)||decide (x.k=6))&&smL x.c&&decide (x.c.b.length<=1)&&x.c.b.all (λf=>!decide (f.2=0))&&decide (0<=x.a)&&decide (x.a<=1000)&&decide (0<=x.w0)&&decide (x.w0<=1000)&&decide (0<=x.w1)&&decide (x.w1<=1000)
def okB:List Cl->List Cg->Bool
 |_,[]=>true
 |c,x::l=>smC c&&smG x&&(!decide ((doX c x).2=0)||okB (doX c x).1 l)
def aUm{c:List Cl}(h:smC c=true):SzX bV c/\∀y∈c,Keys y.b/\SzC y:=by
 simp only[smC,AO,AI,Ay]at h;obtain⟨h1,h2⟩:=h;have hp:2<=2^bV:=An (by decide:2<=2^1) (yO (by decide));have hy:∀y∈c,y.b.length<=2/\∀f∈y.b,0<=f.1/\f.1<=1000/\f.2.natAbs<=2:=λy hy=>by have:=h2 y hy;simp only[smL,smF,AO,AI,Ay]at this;exact⟨this.1.1.1.1.1,λf hf=>⟨(this.1.1.1.1.2 f hf).1.1,(this.1.1.1.1.2 f hf).1.2,(this.1.1.1.1.2 f hf).2⟩⟩
 refine⟨⟨by omega,λy h=>by have:=(hy y h).1;omega,λy h f hf=>An ((hy y h).2 f hf).2.2 hp⟩,λy h=>⟨λf hf=>by have:=(hy y h).2 f hf;simp only[inr,AI];omega,by have:=(hy y h).1;omega,λf hf=>szE (e:=1) ((hy y h).2 f hf).2.2 (by decide)⟩⟩
def aLs{x:Cg}(h:smG x=true):Val x.c.b/\x.c.b.length<=1:=by
 simp only[smG,AO,AI,Ay,Cj,CN]at h;have h1:x.c.b.length<=1:=h.1.1.1.1.1.1.1.2;refine⟨⟨?_,h.1.1.1.1.1.1.2⟩,h1⟩;match x.c.b,h1 with
 |[],_=>exact .nil
 |[f],_=>exact List.pairwise_singleton _ _
 |_::_::_,h1=>simp at h1
def aLt{x:Cg}(h:smG x=true):SzC x.c:=by have hl:=(aLs h).2;simp only[smG,smL,smF,AO,AI,Ay,Cj,CN]at h;exact⟨by omega,λf hf=>szE (e:=1) (h.1.1.1.1.1.1.1.1.2.1.1.1.1.2 f hf).2 (by decide)⟩
def bGg{c:List Cl}{x:Cg}(hv:CxV c)(h1:smC c=true)(h2:smG x=true):Ok2 c x:=by obtain⟨z1,z2⟩:=aUm h1;have hv2:=aLs h2;have hp:2<=2^bV:=An (by decide:2<=2^1) (yO (by decide));simp only[smG,smL,smF,AO,AI,Ay,Cj,CN]at h2;obtain⟨⟨⟨⟨⟨⟨⟨⟨⟨g0,g1⟩,g2⟩,g3⟩,g4⟩,g5⟩,g6⟩,g7⟩,g8⟩,g9⟩:=h2;obtain⟨⟨⟨⟨⟨f1,f2⟩,f3⟩,f4⟩,f5⟩,f6⟩:=g1;exact⟨hv,z1,λy hy=>(z2 y hy).1,hv2.1,by omega,λf hf=>An (f2 f hf).2 hp,by omega,by simp only[inr,AI];omega,by simp only[inr,AI];omega,by simp only[inr,AI];omega⟩
def bVm{c:List Cl}{x:Cg}(hv:CxV c)(h2:smG x=true)(h0:(doX c x).2=0):CxV (doX c x).1:=by
 have hv2:=aLs h2;have hk:x.k=1\/x.k=2\/x.k=6:=by simp only[smG,AO,CF,AI]at h2;omega
 unfold doX at h0 ⊢;rcases hk with e|e|e
 ·rw[Ad e]at h0 ⊢;rcases aKc hv hv2.1 with ⟨n,hn,q⟩|⟨q1,_,q⟩
  ·rw[q]at h0;exact(hn h0).elim
  ·rw[q];exact q1
 ·rw[Ac (by omega),Ad e]at h0 ⊢;rcases aIw hv x.a with ⟨n,hn,q⟩|⟨q1,q⟩
  ·rw[q]at h0;exact(hn h0).elim
  ·rw[q];exact q1
 ·rw[Ac (by omega),Ac (by omega),Ac (by omega),Ac (by omega),Ac (by omega)]at h0;exact absurd h0 (by decide)
def pH:∀{l:List Cg} {c:List Cl},CxV c->okB c l=true->OkA c l/\(∀x∈l.take 1,SzC x.c)/\((mM c l).2=0->CxV (mM c l).1)
 |[],c,hv,_=>⟨trivial,(λ_ h=>by cases h),λ_=>hv⟩
 |x::l,c,hv,h=>by
  simp only[okB,AO,CF,Cj,CN]at h;obtain⟨⟨h1,h2⟩,h3⟩:=h;refine⟨⟨bGg hv h1 h2,λh0=>?_⟩,λy hy=>?_,λh0=>?_⟩
  ·exact(pH (bVm hv h2 h0) (h3.resolve_left (λq=>q h0))).1
  ·simp at hy;subst hy;exact aLt h2
  ·by_cases k:(doX c x).2=0
   ·rw[qN _ k]at h0 ⊢;exact(pH (bVm hv h2 k) (h3.resolve_left (λq=>q k))).2.2 h0
   ·rw[aDz _ k]at h0;exact(k h0).elim
def gN:CxV []:=⟨.nil,(λ_ h=>by cases h),(λ_ h=>by cases h),(λ_ h=>by cases h),(λ_ h=>by cases h)⟩
inductive Hc(c0:List Cl):List Cg->Nat->Nat->List Cl->Prop
 |nil (M:Nat) (h:Hs 0 M 0 c0):Hc c0 [] M 0 c0
 |snoc (l:List Cg) (M d:Nat) (c:List Cl) (x:Cg) (M' d':Nat) (h:Hc c0 l M d c) (hl:l.length<=10) (f:Fg l.length M (cC c 2).length d x) (h0:(doX c x).2=0) (h':Hs (l.length+1) M' d' (doX c x).1):Hc c0 (l++[x]) M' d' (doX c x).1
def Hc.hs{c0 c:List Cl}{l:List Cg}{M d:Nat}(h:Hc c0 l M d c):Hs l.length M d c:=by
 cases h with
 |nil M h=>exact h
 |snoc l M d c x M' d' h hl f h0 h'=>rw[Ak,As];exact h'
def Hc.len{c0 c:List Cl}{l:List Cg}{M d:Nat}(h:Hc c0 l M d c):l.length<=11:=by
 cases h with
 |nil M h=>exact Al _
 |snoc l M d c x M' d' h hl f h0 h'=>rw[Ak,As];omega
def Hs.ok2{i M d:Nat}{c:List Cl}{x:Cg}(h:Hs i M d c)(hi:i<=10)(f:Fg i M (cC c 2).length d x):Ok2 c x :=
 have hk:∀z:Int,0<=z/\z<=302+2*(i:Int)->inr z=true:=λz hz=>by simp only[inr,AI];omega
 ⟨h.v,h.sz (by omega),h.keys (by omega),f.val,by have:=f.bl;omega,f.sz h hi,by have:=f.dim;omega,hk _ f.a,hk _ f.w0,hk _ f.w1⟩
def Fg.szc{i M d:Nat}{c:List Cl}{x:Cg}(h:Hs i M d c)(hi:i<=10)(f:Fg i M (cC c 2).length d x):SzC x.c :=
 ⟨by have:=f.bl;omega,λg hg=>szE (e:=bV) (f.sz h hi g hg) (by rw[aCk];omega)⟩
def Hs.szc{i M d:Nat}{c:List Cl}(h:Hs i M d c)(hi:i<=11):∀z∈c,SzC z:=λz hz =>
 ⟨(h.sz hi).bl z hz,λg hg=>szE (e:=bV) ((h.sz hi).bb z hz g hg) (by rw[aCk];omega)⟩
def Hc.snd{c0 c:List Cl}{l:List Cg}{M d:Nat}(h:Hc c0 l M d c):mM c0 l=(c,0):=by
 induction h with
 |nil M h=>rfl
 |snoc l M d c x M' d' h hl f h0 h' ih =>
  rw[bEq _ (by rw[ih]),ih];simp only;rw[qN _ h0];rfl
def OkA.app{c:List Cl}{a b:List Cg}(h:OkA c a)(h2:(mM c a).2=0->OkA (mM c a).1 b):OkA c (a++b):=by
 induction a generalizing c with
 |nil=>exact h2 rfl
 |cons x a ih =>
  refine⟨h.1,λh0=>ih (h.2 h0) λk=>?_⟩;rw[qN _ h0]at h2;exact h2 k
def Hc.ok{c0 c:List Cl}{l:List Cg}{M d:Nat}(h:Hc c0 l M d c):OkA c0 l:=by
 induction h with
 |nil M h=>trivial
 |snoc l M d c x M' d' h hl f h0 h' ih =>
  refine ih.app λ_=>?_
  rw[h.snd];exact⟨h.hs.ok2 hl f,λ_=>trivial⟩
def Hc.base{c0 c:List Cl}{l:List Cg}{M d:Nat}(h:Hc c0 l M d c):∃M,Hs 0 M 0 c0:=by
 induction h with
 |nil M h=>exact⟨M,h⟩
 |snoc l M d c x M' d' h hl f h0 h' ih=>exact ih
def Hc.take{c0 c:List Cl}{l:List Cg}{M d:Nat}(h:Hc c0 l M d c):∀n,∃M' d' c',Hc c0 (l.take n) M' d' c':=by
 induction h with
 |nil M h=>intro n;rw[List.take_nil];exact⟨M,0,c0,.nil M h⟩
 |snoc l M d c x M' d' h hl f h0 h' ih =>
  intro n;by_cases k:n<=l.length
  ·rw[List.take_append_of_le_length k];exact ih n
  ·rw[Ai (by simp;omega)];exact⟨M',d',_,.snoc l M d c x M' d' h hl f h0 h'⟩
def Hc.szl{c0 c:List Cl}{l:List Cg}{M d:Nat}(h:Hc c0 l M d c):∀x∈l,SzC x.c:=by
 induction h with
 |nil M h=>intro x hx;cases hx
 |snoc l M d c x M' d' h hl f h0 h' ih =>
  intro y hy;rcases List.mem_append.1 hy with hy|hy
  ·exact ih y hy
  ·rw[AU.1 hy];exact f.szc h.hs hl
structure HP(h:Hi)(c:List Cl):Prop where
 s:h.s=0
 ch:∃M d,Hc h.c h.l M d c
def HP.okh{h:Hi}{c:List Cl}(p:HP h c):OkH h:=by obtain⟨M,d,q⟩:=p.ch;have:=q.len;exact⟨by rw[p.s];exact Int.le_refl 0,by rw[p.s];decide,by omega,q.ok⟩
def HP.snd{h:Hi}{c:List Cl}(p:HP h c):aXj h c:=by obtain⟨M,d,q⟩:=p.ch;exact q.snd
def HP.len{h:Hi}{c:List Cl}(p:HP h c):h.l.length<=11:=by obtain⟨M,d,q⟩:=p.ch;exact q.len
def HP.szh{h:Hi}{c:List Cl}(p:HP h c):SzH h:=by obtain⟨M,d,q⟩:=p.ch;obtain⟨M0,b⟩:=q.base;have:=b.len;exact⟨by omega,b.szc (by omega),by have:=q.len;omega,q.szl⟩
def HP.take{h:Hi}{c:List Cl}(p:HP h c)(n:Nat):∃c',HP ⟨h.s,h.c,h.l.take n⟩ c':=by obtain⟨M,d,q⟩:=p.ch;obtain⟨M',d',c',q'⟩:=q.take n;exact⟨c',p.s,M',d',q'⟩
def HP.made{h:Hi}{c:List Cl}(p:HP h c)(hl:h.l.length<=10)(s:Sx)(hs:s.ok):∃x,Spec Aa 9 [aE c,.ag (kY s)] (.ag (bO x))/\Ok2 c x/\∃c',HP (pZ h c x).1 c'/\((pZ h c x).2=0->c'=(doX c x).1)/\((pZ h c x).2≠0->(pZ h c x).1=h):=by
 obtain⟨M,d,q⟩:=p.ch;obtain⟨x,f,hS⟩:=bQo q.hs hl s hs;refine⟨x,hS,q.hs.ok2 hl f,?_⟩;unfold pZ;by_cases h0:(doX c x).2=0
 ·obtain⟨M',d',hs'⟩:=q.hs.step hl f h0;rw[Ad h0];exact⟨_,⟨p.s,M',d',.snoc _ M d c x M' d' q hl f h0 hs'⟩,λ_=>rfl,λk=>(k rfl).elim⟩
 ·rw[Ac h0];exact⟨c,p,λk=>(h0 k).elim,λ_=>rfl⟩
def aTh{h:Hi}{c:List Cl}{x:Cg}:(pZ h c x).1.l.length<=h.l.length+1:=by
 unfold pZ;split
 ·simp
 ·simp
inductive aIi:List Sx->Hi->List Cl->Hi->List Cl->Prop
 |nil (h:Hi) (c:List Cl):aIi [] h c h c
 |cons (s:Sx) (l:List Sx) (h:Hi) (c:List Cl) (x:Cg) (h1:Hi) (c1:List Cl) (h2:Hi) (c2:List Cl) (hm:Spec Aa 9 [aE c,.ag (kY s)] (.ag (bO x))) (ok:Ok2 c x) (ha:(pZ h c x).1=h1) (p1:HP h1 c1) (hr:aIi l h1 c1 h2 c2):aIi (s::l) h c h2 c2
def bVz:∀(l:List Sx) (h:Hi) (c:List Cl),HP h c->h.l.length+l.length<=10->(∀s∈l,s.ok)->∃h2 c2,aIi l h c h2 c2/\HP h2 c2/\h2.l.length<=h.l.length+l.length
 |[],h,c,p,_,_=>⟨h,c,.nil h c,p,Ap _⟩
 |s::l,h,c,p,hl,hs=>by
  simp only[List.length_cons]at hl ⊢;obtain⟨x,hm,ok,c1,p1,_,_⟩:=p.made (by omega) s (hs s (List.mem_cons_self ..));have hn:=aTh (h:=h) (c:=c) (x:=x);obtain⟨h2,c2,hr,p2,hl2⟩:=bVz l _ c1 p1 (by omega) λt ht=>hs t (List.mem_cons_of_mem _ ht)
  exact⟨h2,c2,.cons s l h c x _ c1 h2 c2 hm ok rfl p1 hr,p2,by omega⟩
def aIi.next{s:Sx}{l:List Sx}{h h2:Hi}{c c2:List Cl}(hr:aIi (s::l) h c h2 c2):∃x h1 c1,Spec Aa 9 [aE c,.ag (kY s)] (.ag (bO x))/\Ok2 c x/\(pZ h c x).1=h1/\HP h1 c1/\aIi l h1 c1 h2 c2:=by cases hr with|cons _ _ _ _ x h1 c1 _ _ hm ok ha p1 hr=>exact⟨x,h1,c1,hm,ok,ha,p1,hr⟩
def aIi.fin{h h2:Hi}{c c2:List Cl}(hr:aIi [] h c h2 c2):h2=h/\c2=c:=by cases hr;exact⟨rfl,rfl⟩
def aSs(s:Int)(l:List Q4):List D:=[.i .u8 s,.sl (l.map qW)]
def cEb(l:List Sx):fD 7 (l.map kY)=true:=by cases l<;>simp[fD,kY]
def cEc(l:List Q4):fD 4 (l.map qW)=true:=by cases l<;>simp[fD,qW]
def aUw(s:Int)(l:List Q4)(st:List Sx)(hs:0<=s/\s<=255)(hq:∀q∈l,q.ok)(hl:l.length<=9223372036854775807)(hst:∀x∈st,x.ok)(hsl:st.length<=9223372036854775807):∃h c,HP h c/\h.l.length<=10/\Spec Aa 8 [.ag (aSs s l),.sl (st.map kY)] (bZ h):=by
 obtain⟨c0,hM,hb⟩:=cCs s (l.take 1) hs (λq h=>hq q (List.take_subset _ _ h)) (by simp;omega);obtain⟨M0,b0⟩:=hb.hs;have p0:HP ⟨0,c0,[]⟩ c0:=⟨rfl,M0,0,.nil M0 b0⟩;obtain⟨hf,cf,hr,pf,hfl⟩:=bVz (st.take 10) ⟨0,c0,[]⟩ c0 p0 (by simp;omega) λx h=>hst x (List.take_subset _ _ h)
 refine⟨hf,cf,pf,by simp at hfl;omega,?_⟩;obtain⟨k,hk⟩:∃k,min l.length 1=k:=⟨_,rfl⟩;have hm1:(if(1:Int)<l.length then 1 else(l.length:Int))=(k:Int):=by split<;>omega
 have hm2:k<=l.length:=by omega
 have hok:=cEc l;have hM':Spec Aa 27 [.ag [.i .u8 s,.sl ((l.map qW).take (min l.length 1))]] (aE c0):=by
  have e:(l.map qW).take (min l.length 1)=(l.take 1).map qW:=by
   rw[<-BB];congr 1;rcases B7 l.length with h|h
   ·rw[AE h];rfl
   ·rw[Nat.min_eq_right h]
  rw[e];exact hM
 rw[hk]at hM';refine bF (N:=41) Tryz.func8 ?_;simp[-C,-E,↓KW,aSs,hm1,hm2,hok];refine aJ hM' ?_;simp[-C,-E,↓KW,aE];refine aP (λy:Nat×Hi×List Cl=>y.1<=(st.take 10).length/\HP y.2.1 y.2.2/\y.2.1.l.length<=y.1/\aIi ((st.take 10).drop y.1) y.2.1 y.2.2 hf cf) (λy=>StL [(1,.d (.sl (st.map kY))),(4,.ptr 1 0),(5,.ptr 2 0),(6,.d (.i .i64 (y.1:Int)))] none [.cells 35 [.d (.i .i64 0),.nil,.nil],.cells 35 [.d (.i .i64 y.2.1.s),.d (aE y.2.1.c),.d (bQ y.2.1.l)]]) (λy=>(st.take 10).length-y.1) (0,⟨0,c0,[]⟩,c0) ⟨Al _,p0,Al _,hr⟩ ?_ ?_
 ·refine wkQ [2,3] ?_ ?_<;>simp[-C,upd,aO,Γ0,aE,bQ,vI,aOw]
 ·rintro⟨i,h,c⟩ ⟨hi,p,hli,hr⟩;simp only at hi p hr hli ⊢;by_cases hgo:i<(st.take 10).length
  ·have hgo':i<st.length/\i<10:=by simp at hgo;omega
   have q1:(i:Int)<st.length:=by omega
   have q2:(i:Int)<10:=by omega
   have hx:st[i]? = some st[i]:=Ab hgo'.1;have hw:Ag.wrap ((i:Int)+1)=(i:Int)+1:=aW;rw[AP hgo,List.getElem_take]at hr;refine exE st[i] λz hze=>?_
   rw[hze]at hx hr;obtain⟨x,h1,c1,hm,ok,ha,p1,hr1⟩:=hr.next;have hN:=aUv p.okh p.snd;have hA:=bBt p.okh p.snd (by omega) ok;have hn:=aTh (h:=h) (c:=c) (x:=x);obtain⟨e,he⟩:∃e,(pZ h c x).2=e:=⟨_,rfl⟩;rw[ha]at hn;have hAD:h2D (pZ h c x)=.tp [.ag [.i .i64 h1.s,aE h1.c,bQ h1.l],.i .i64 e]:=by rw[<-ha,<-he];rfl
   rw[hAD]at hA;have hes:kY z=[.i .u8 z.k,.i .u8 z.a,.i .u8 z.b,.i .i8 z.q.1,.i .i8 z.q.2.1,.i .i8 z.q.2.2.1,.i .i8 z.q.2.2.2]:=rfl;have hxc:=dA x;simp[-C,-E,↓KW,q1,q2,aE,bQ];refine aJ hN ?_;simp[-C,-E,↓KW,q1,q2,aE,bQ,hx,hes,cEb];refine aJ hm ?_;simp[-C,-E,↓KW,aE,bQ,hxc,aC,aA,aB];refine aJ hA ?_;simp[-C,-E,↓KW,aE,bQ,hw];refine aI (τ:=Nat×Hi×List Cl) (i+1,h1,c1) ⟨hgo,p1,by simp only;omega,hr1⟩ (slQ hgo) (wkQ [1,2] ?_ ?_)<;>simp[-C,upd,aO,Γ0,aE,bQ]
  ·rw[B2 (by omega)]at hr;obtain⟨e1,e2⟩:=hr.fin;subst e1;have hgo':¬i<st.length\/¬i<10:=by simp at hgo;omega
   by_cases q1:(i:Int)<st.length
   ·have q2:¬(i:Int)<10:=by omega
    simp[-C,-E,↓KW,q1,q2,aE,bQ,rD,bY]
   ·simp[-C,-E,↓KW,q1,aE,bQ,rD,bY]
structure cCt(p:List Cl)(g:Int):Prop where
 len:p.length<=100
 sz:∀z∈p,SzC z
 ok:g=0->CxV p/\SzX bV p
def HP.verP{h:Hi}{c:List Cl}(p:HP h c):cCt c 0:=by obtain⟨M,d,q⟩:=p.ch;have:=q.len;have z:=q.hs.sz (by omega);exact⟨z.len,q.hs.szc (by omega),λ_=>⟨q.hs.v,z⟩⟩
def HP.at{h:Hi}{c:List Cl}(p:HP h c)(n:Int):cCt (atV h n).1 (atV h n).2:=by
 unfold atV;split
 ·obtain⟨c',p'⟩:=p.take (n-h.s).toNat;have:=p'.snd;unfold aXj at this;simp only at this;rw[this];exact p'.verP
 ·exact⟨by simp,(λ_ h=>by cases h),λh=>absurd h (by decide)⟩
def HP.sound{h:Hi}{c:List Cl}(p:HP h c)(n:Int)(hn:(h.l.length:Int)<=n):Spec Aa 20 [bZ h,.i .i64 n] (.b true):=by obtain⟨M,d,q⟩:=p.ch;obtain⟨M0,b⟩:=q.base;exact aPs n p.okh p.snd hn b.v (b.sz (by omega))
def HP.last{h:Hi}{c:List Cl}(p:HP h c)(h0:h.l≠[]):∃l y cd,h.l=l++[y]/\HP ⟨h.s,h.c,l⟩ cd/\Ok2 cd y/\pZ ⟨h.s,h.c,l⟩ cd y=(h,0):=by
 obtain⟨hs,hc,hl⟩:=h;obtain⟨M,d,q⟩:=p.ch;simp only at q h0 ⊢;cases q with
 |nil M h=>exact(h0 rfl).elim
 |snoc l M d c x M' d' h hl f hd h' =>
  refine⟨l,x,c,rfl,⟨p.s,M,d,h⟩,h.hs.ok2 hl f,?_⟩;unfold pZ;rw[Ad hd]
def bUw{h:Hi}{c:List Cl}{x:Cg}(h0:(pZ h c x).2=0):udH (pZ h c x).1=(h,0):=by
 unfold pZ at h0 ⊢;split at h0
 ·rename_i k;rw[Ad k];unfold udH;rw[Ac (by simp)];simp
 ·rename_i k;exact(k h0).elim
def cBr(s:Int)(l:List Q4)(st:List Sx)(z:Sx)(hs:0<=s/\s<=255)(hq:∀q∈l,q.ok)(hl:l.length<=9223372036854775807)(hst:∀x∈st,x.ok)(hsl:st.length<=9223372036854775807)(hz:z.ok)(hS:Spec Aa 7 [] (.b true)) :
  Spec Aa 4 [.ag (aSs s l),.sl (st.map kY),.ag (kY z)] (.b true):=by
 obtain⟨h,c,p,hl10,hH⟩:=aUw s l st hs hq hl hst hsl
 obtain⟨x,hm,ok,c',p',_,_⟩:=p.made hl10 z hz
 have hN:=aUv p.okh p.snd
 have hA:=aCy p.okh p.snd (by omega) ok
 have hun:=bUw (h:=h) (c:=c) (x:=x)
 obtain⟨⟨b,e⟩,hbe⟩:∃r,pZ h c x=r:=⟨_,rfl⟩
 rw[hbe]at hA p' hun
 simp only at p' hun
 have hlb:=p'.len
 have hSb:=p'.sound 11 (by omega)
 have hU:=bFl (h:=b) (by omega)
 have hUh:=bFl (h:=h) (by omega)
 have hSH:=tT p.szh
 obtain⟨⟨u,f⟩,huf⟩:∃r,udH b=r:=⟨_,rfl⟩
 rw[huf]at hU hun
 have hUD:h2D (u,f)=.tp [bZ u,.i .i64 f]:=rfl
 rw[hUD]at hU
 have hAD:h2D (b,e)=.tp [bZ b,.i .i64 e]:=rfl
 rw[hAD]at hA
 have hxc:=dA x
 have hes:kY z=[.i .u8 z.k,.i .u8 z.a,.i .u8 z.b,.i .i8 z.q.1,.i .i8 z.q.2.1,.i .i8 z.q.2.2.1,.i .i8 z.q.2.2.2]:=rfl
 refine bF (N:=99) Tryz.func4 ?_
 simp[-C,-E,↓KW,aSs,hes]
 refine aJ hS ?_
 simp[-C,-E,↓KW,aSs]
 refine aJ hH ?_
 simp[-C,-E,↓KW,bY,bQ,aE,hes]
 refine aJ hN ?_
 simp[-C,-E,↓KW,aE,hes]
 refine aJ hm ?_
 simp[-C,-E,↓KW,hxc,aC,aA,aB]
 refine aJ hA ?_
 simp[-C,-E,↓KW,bY,bQ,aE,aC,aA,aB]
 refine aJ hSb ?_
 simp[-C,-E,↓KW,bY,bQ,aE]
 refine aJ hU ?_
 by_cases he:e=0
 ·have hu:=hun he
  injection hu with hu hf
  subst hu;subst hf
  have h0':((e==0):Bool)=true:=by simpa using he
  simp[-C,-E,↓KW,h0',bY,bQ,aE]
  refine aJ hSH ?_
  simp[-C,-E,↓KW,h0',bY,bQ,aE]
  refine aJ hUh ?_
  by_cases hn:u.l=[]
  ·have e0:u.l.length=0:=by rw[hn];rfl
   have hud:udH u=(u,320):=Ad hn
   have hD:h2D (u,320)=.tp [bZ u,.i .i64 320]:=rfl
   rw[hud,hD]
   simp[-C,-E,↓KW,bY,bQ,aE,e0]
   refine aJ hSH ?_
   simp[-C,-E,↓KW]
  ·obtain⟨l',y,cd,el,pd,oky,happ⟩:=p.last hn
   have hn1:u.l.length=l'.length+1:=by rw[el];simp
   have hud:udH u=(⟨u.s,u.c,l'⟩,0):=by unfold udH;rw[Ac hn,el];simp
   have hD:h2D (⟨u.s,u.c,l'⟩,0)=.tp [bZ ⟨u.s,u.c,l'⟩,.i .i64 0]:=rfl
   rw[hud,hD]
   have hSd:=pd.sound 10 (by simp only;omega)
   have hA2:=aCy pd.okh pd.snd (by simp only;omega) oky
   have hD2:h2D (u,0)=.tp [bZ u,.i .i64 0]:=rfl
   rw[happ,hD2]at hA2
   have e0:((u.l.length:Int)==0)=false:=by simp;omega
   have hix:(u.l.map bO)[l'.length]? = some (bO y):=by rw[el];simp
   have hix2:u.l[l'.length]? = some y:=by rw[el];simp
   have hln:(u.l.length:Int)-1=(l'.length:Int):=by omega
   have hwn:Ag.wrap (l'.length:Int)=(l'.length:Int):=aW
   have hlt:(l'.length:Int)<u.l.length:=by omega
   have hyc:=dA y
   have hnn:¬u.l=[]:=hn
   simp[-C,-E,↓KW,bY,bQ,aE,e0]
   refine aJ hSd ?_
   simp[-C,-E,↓KW,bY,bQ,aE,hln,hwn,hlt,hix,hix2,hyc,aC,aA,aB]
   refine aJ hA2 ?_
   simp[-C,-E,↓KW,bY,bQ,aE]
   refine aJ hSH ?_
   simp[-C,-E,↓KW]
 ·have h0':((e==0):Bool)=false:=by simpa using he
  simp[-C,-E,↓KW,h0',bY,bQ,aE]
  refine aJ hUh ?_
  by_cases hn:h.l=[]
  ·have e0:h.l.length=0:=by rw[hn];rfl
   have hud:udH h=(h,320):=Ad hn
   have hD:h2D (h,320)=.tp [bZ h,.i .i64 320]:=rfl
   rw[hud,hD]
   simp[-C,-E,↓KW,bY,bQ,aE,e0]
   refine aJ hSH ?_
   simp[-C,-E,↓KW]
  ·obtain⟨l',y,cd,el,pd,oky,happ⟩:=p.last hn
   have hn1:h.l.length=l'.length+1:=by rw[el];simp
   have hud:udH h=(⟨h.s,h.c,l'⟩,0):=by unfold udH;rw[Ac hn,el];simp
   have hD:h2D (⟨h.s,h.c,l'⟩,0)=.tp [bZ ⟨h.s,h.c,l'⟩,.i .i64 0]:=rfl
   rw[hud,hD]
   have hSd:=pd.sound 10 (by simp only;omega)
   have hA2:=aCy pd.okh pd.snd (by simp only;omega) oky
   have hD2:h2D (h,0)=.tp [bZ h,.i .i64 0]:=rfl
   rw[happ,hD2]at hA2
   have e0:((h.l.length:Int)==0)=false:=by simp;omega
   have hix:(h.l.map bO)[l'.length]? = some (bO y):=by rw[el];simp
   have hix2:h.l[l'.length]? = some y:=by rw[el];simp
   have hln:(h.l.length:Int)-1=(l'.length:Int):=by omega
   have hwn:Ag.wrap (l'.length:Int)=(l'.length:Int):=aW
   have hlt:(l'.length:Int)<h.l.length:=by omega
   have hyc:=dA y
   have hnn:¬h.l=[]:=hn
   simp[-C,-E,↓KW,bY,bQ,aE,e0]
   refine aJ hSd ?_
   simp[-C,-E,↓KW,bY,bQ,aE,hln,hwn,hlt,hix,hix2,hyc,aC,aA,aB]
   refine aJ hA2 ?_
   simp[-C,-E,↓KW,bY,bQ,aE]
   refine aJ hSH ?_
   simp[-C,-E,↓KW]
def bAz{x y:Cl}(h:x.id≠y.id\/x.id=y.id/\x.dim≠y.dim):Spec Aa 51 [.ag (aN x),.ag (aN y)] (.b false):=by
 refine bF (N:=24) Tryz.func51 ?_;rcases h with h|⟨h,h2⟩
 ·have q:((x.id==y.id):Bool)=false:=by simpa using h
  simp[-C,-E,↓KW,↓cP,↓bR,↓cN,↓cO,aS,q,aC,aA,aB,jZ,nI]
 ·have q:((y.id==y.id):Bool)=true:=by simp
  have q2:((x.dim==y.dim):Bool)=false:=by simpa using h2
  simp[-C,-E,↓KW,↓cP,↓bR,↓cN,↓cO,aS,h,q,q2,aC,aA,aB,jZ,nI]
def tN{x y:Cg}(h:x.k≠y.k\/x.k=y.k/\x.a=y.a/\x.b=y.b/\x.w0=y.w0/\x.w1=y.w1/\(x.c.id≠y.c.id\/x.c.id=y.c.id/\x.c.dim≠y.c.dim)):Spec Aa 52 [.ag (bO x),.ag (bO y)] (.b false):=by
 refine bF (N:=38) Tryz.func52 ?_;rcases h with h|⟨h1,h2,h3,h4,h5,h6⟩
 ·have q:((x.k==y.k):Bool)=false:=by simpa using h
  simp[-C,-E,↓KW,dA,q,oW,aAa,aC,aA,aB]
 ·have hS:=bAz h6;have q:∀n:Int,((n==n):Bool)=true:=λn=>by simp
  simp[-C,-E,↓KW,dA,h1,h2,h3,h4,h5,q,oW,aAa,aC,aA,aB];refine aJ hS ?_;simp[-C,-E,↓KW,dA,h1,h2,h3,h4,h5,q,oW,aAa,aC,aA,aB]
def kP1:Cg:=⟨1,⟨1,0,[]⟩,0,0,0,0⟩
def kP2:Cg:=⟨1,⟨2,0,[]⟩,0,0,0,0⟩
def kQ:Cg:=⟨1,⟨1,1,[]⟩,0,0,0,0⟩
def kE:Cg:=⟨1,⟨3,1,[(1,2)]⟩,0,0,0,0⟩
def kD:Cg:=⟨2,⟨0,0,[]⟩,1,0,0,0⟩
def kU:Cg:=⟨6,⟨0,0,[]⟩,0,0,0,0⟩
def cK1:List Cl:=[⟨1,0,[]⟩]
def hN:Hi:=⟨0,[],[]⟩
def sL:Hi:=⟨0,[],[kP1]⟩
def bLe:Hi:=⟨0,[],[kP2]⟩
def bYr:Hi:=⟨0,[],[kQ]⟩
def bDp:Hi:=⟨0,[],[kP1,kE]⟩
def bLf:Hi:=⟨0,[],[kP1,kD]⟩
def aIf:Hi:=⟨1,cK1,[]⟩
def cBx:Hi:=⟨0,[],[kP1,kP2]⟩
def xT:CxV cK1:=(pH (l:=[kP1]) gN (by kernel_rfl)).2.2 (by kernel_rfl)
def okK{h:Hi}(hv:CxV h.c)(h0:decide (0<=h.s)=true:=by kernel_rfl)(h1:decide (h.s<=1000000)=true:=by kernel_rfl)(h2:decide (h.l.length<=10000)=true:=by kernel_rfl)(hb:okB h.c h.l=true:=by kernel_rfl):OkH h:=⟨BG h0,BG h1,BG h2,(pH hv hb).1⟩
def aXb{h g:Hi}{c:List Cl}{x:Cg}{e:Int}(ho:OkH h)(hv:CxV c)(hs:mM h.c h.l=(c,0):=by kernel_rfl)(hl:decide (h.l.length<4000)=true:=by kernel_rfl)(h1:smC c=true:=by kernel_rfl)(h2:smG x=true:=by kernel_rfl)(hr:pZ h c x=(g,e):=by kernel_rfl):Spec Aa 11 [bZ h,.ag (bO x)] (.tp [bZ g,.i .i64 e]):=by have:=aCy ho hs (BG hl) (bGg hv h1 h2);rwa [hr]at this
def bGf{h:Hi}{c:List Cl}(n:Int)(ho:OkH h)(hv:CxV h.c)(hs:mM h.c h.l=(c,0):=by kernel_rfl)(hl:decide ((h.l.length:Int)<=n)=true:=by kernel_rfl)(hz:smC h.c=true:=by kernel_rfl):Spec Aa 20 [bZ h,.i .i64 n] (.b true):=aPs n ho hs (BG hl) hv (aUm hz).1
def bRg:OkH hN:=okK gN
def aBb:OkH sL:=okK gN
def bXu:OkH bLe:=okK gN
def bXw:OkH bDp:=okK gN
def bXv:OkH bLf:=okK gN
def bIi:OkH aIf:=okK xT
def kA1:Spec Aa 11 [bZ hN,.ag (bO kP1)] (.tp [bZ sL,.i .i64 0]):=aXb bRg gN
def kA2:Spec Aa 11 [bZ hN,.ag (bO kP2)] (.tp [bZ bLe,.i .i64 0]):=aXb bRg gN
def kA3:Spec Aa 11 [bZ sL,.ag (bO kP1)] (.tp [bZ sL,.i .i64 253]):=aXb (c:=cK1) aBb xT
def kA4:Spec Aa 11 [bZ hN,.ag (bO kQ)] (.tp [bZ bYr,.i .i64 0]):=aXb bRg gN
def kA5:Spec Aa 11 [bZ sL,.ag (bO kE)] (.tp [bZ bDp,.i .i64 0]):=aXb (c:=cK1) aBb xT
def kA6:Spec Aa 11 [bZ sL,.ag (bO kD)] (.tp [bZ bLf,.i .i64 0]):=aXb (c:=cK1) aBb xT
def kA7:Spec Aa 11 [bZ hN,.ag (bO kU)] (.tp [bZ hN,.i .i64 1]):=aXb bRg gN
def kT1:Spec Aa 16 [bZ sL,.i .i64 2] (.tp [.sl [],.i .i64 320]):=vAt 2 aBb (by decide)
def kT2:Spec Aa 16 [bZ aIf,.i .i64 0] (.tp [.sl [],.i .i64 320]):=vAt 0 bIi (by decide)
def kC1:Spec Aa 22 [bZ sL,.i .i64 1] (.tp [bZ aIf,.i .i64 0]):=by
 have:=bFm 1 aBb (by decide);have e:cpH sL 1=(aIf,0):=by kernel_rfl
 rwa [e]at this
def kU1:Spec Aa 21 [bZ hN] (.tp [bZ hN,.i .i64 320]):=bFl (h:=hN) (by decide)
def kM1:Spec Aa 24 [bZ sL,bZ bLe] (.tp [bZ cBx,.i .i64 0]):=by have hs:SzC kP1.c:=aLt (by kernel_rfl);refine aTz (s:=0) (c:=[]) (p:=[]) (x:=[kP1]) (y:=[kP2]) (pc:=[]) (o1:=[⟨1,0,[]⟩,⟨2,0,[]⟩]) (o2:=[⟨1,0,[]⟩,⟨2,0,[]⟩]) (e1:=0) (e2:=0) ⟨by decide,(λ_ h=>by cases h),(λ_ h=>by cases h),by decide,by decide,.inr (.inr ⟨kP1,[],kP2,[],rfl,rfl,tN (.inr ⟨rfl,rfl,rfl,rfl,rfl,.inl (by decide)⟩)⟩),trivial,rfl,(pH gN (by kernel_rfl)).1,(pH gN (by kernel_rfl)).1⟩ (by kernel_rfl) (by kernel_rfl) (.inr ⟨rfl,rfl,rfl,by decide,λz hz=>((aUm (c:=[⟨1,0,[]⟩,⟨2,0,[]⟩]) (by kernel_rfl)).2 z hz).2⟩)
def kM2:Spec Aa 24 [bZ sL,bZ bYr] (.tp [bZ sL,.i .i64 321]) :=
 aTz (s:=0) (c:=[]) (p:=[]) (x:=[kP1]) (y:=[kQ]) (pc:=[]) (o1:=[]) (o2:=[]) (e1:=253) (e2:=253) ⟨by decide,(λ_ h=>by cases h),(λ_ h=>by cases h),by decide,by decide,.inr (.inr ⟨kP1,[],kQ,[],rfl,rfl,tN (.inr ⟨rfl,rfl,rfl,rfl,rfl,.inr ⟨rfl,by decide⟩⟩)⟩),trivial,rfl,(pH gN (by kernel_rfl)).1,(pH gN (by kernel_rfl)).1⟩ (by kernel_rfl) (by kernel_rfl) (.inl (by decide))
def kM3:Spec Aa 24 [bZ bDp,bZ bLf] (.tp [bZ bDp,.i .i64 321]) :=
 aTz (s:=0) (c:=[]) (p:=[kP1]) (x:=[kE]) (y:=[kD]) (pc:=cK1) (o1:=[]) (o2:=[]) (e1:=253) (e2:=251) ⟨by decide,(λ_ h=>by cases h),(λz hz=>by rw[AU.1 hz];exact aLt (by kernel_rfl)),by decide,by decide,.inr (.inr ⟨kE,[],kD,[],rfl,rfl,tN (.inl (by decide))⟩),(pH gN (by kernel_rfl)).1,by kernel_rfl,(pH xT (by kernel_rfl)).1,(pH xT (by kernel_rfl)).1⟩ (by kernel_rfl) (by kernel_rfl) (.inl (by decide))
def kM4:Spec Aa 24 [bZ aIf,bZ sL] (.tp [bZ aIf,.i .i64 320]):=bPf (by decide)
def kS1:Spec Aa 20 [bZ sL,.i .i64 1] (.b true):=bGf (c:=cK1) 1 aBb gN
def kS2:Spec Aa 20 [bZ bLe,.i .i64 1] (.b true):=bGf (c:=[⟨2,0,[]⟩]) 1 bXu gN
def kS3:Spec Aa 20 [bZ aIf,.i .i64 1] (.b true):=bGf (c:=cK1) 1 bIi xT
def kS4:Spec Aa 20 [bZ bDp,.i .i64 2] (.b true):=bGf (c:=[⟨1,0,[]⟩,⟨3,1,[(1,2)]⟩]) 2 bXw gN
def kS5:Spec Aa 20 [bZ bLf,.i .i64 2] (.b true):=bGf (c:=[]) 2 bXv gN
def kH1:Spec Aa 13 [bZ sL,bZ sL] (.b true):=tT ⟨by decide,(λ_ h=>by cases h),by decide,λz hz=>by rw[AU.1 hz];exact aLt (by kernel_rfl)⟩
def kL1:Spec Aa 14 [bZ sL] (.i .i64 1):=aXy sL (by decide) (by decide)
def kL2:Spec Aa 14 [bZ aIf] (.i .i64 1):=aXy aIf (by decide) (by decide)
def cEe:Spec Aa 25 [] (bZ hN):=by refine bF (N:=2) Tryz.func25 ?_;simp[-C,-E,↓KW,rD];rfl
def bSs(id dim:Int)(l:List Int)(hl:l.length<=100)(hb:∀z∈l,-1000<=z/\z<=1000):Spec Aa 26 [.i .i64 id,.i .i64 dim,kZ l] (.ag (bO ⟨1,⟨id,dim,cI [] (prs l)⟩,0,0,0,0⟩)):=by have hC:=fU id dim l hl hb;have e:aN ⟨id,dim,cI [] (prs l)⟩=[.i .i64 id,.i .i64 dim,aK (cI [] (prs l))]:=rfl;rw[e]at hC;refine bF (N:=12) Tryz.func26 ?_;simp[-C,-E,↓KW,kZ];refine aJ hC ?_;simp[-C,-E,↓KW,rD,dA,aC,aA,aB]
def bGw:Spec Aa 7 [] (.b true):=by
 have eN:bZ hN=.ag [.i .i64 0,.sl [],.sl []]:=rfl;obtain⟨L1,l1⟩:∃L,bQ [kP1]=.sl L:=⟨_,rfl⟩;obtain⟨L2,l2⟩:∃L,bQ [kP2]=.sl L:=⟨_,rfl⟩;obtain⟨L3,l3⟩:∃L,bQ [kQ]=.sl L:=⟨_,rfl⟩;obtain⟨L4,l4⟩:∃L,bQ [kP1,kE]=.sl L:=⟨_,rfl⟩;obtain⟨L5,l5⟩:∃L,bQ [kP1,kD]=.sl L:=⟨_,rfl⟩;obtain⟨L6,l6,n6⟩:∃L,bQ [kP1,kP2]=.sl L/\L.length=2:=⟨_,rfl,rfl⟩;obtain⟨C1,c1⟩:∃L,aE cK1=.sl L:=⟨_,rfl⟩;have e1:bZ sL=.ag [.i .i64 0,.sl [],.sl L1]:=by rw[<-l1];rfl
 have e2:bZ bLe=.ag [.i .i64 0,.sl [],.sl L2]:=by rw[<-l2];rfl
 have e3:bZ bYr=.ag [.i .i64 0,.sl [],.sl L3]:=by rw[<-l3];rfl
 have e4:bZ bDp=.ag [.i .i64 0,.sl [],.sl L4]:=by rw[<-l4];rfl
 have e5:bZ bLf=.ag [.i .i64 0,.sl [],.sl L5]:=by rw[<-l5];rfl
 have e6:bZ cBx=.ag [.i .i64 0,.sl [],.sl L6]:=by rw[<-l6];rfl
 have e7:bZ aIf=.ag [.i .i64 1,.sl C1,.sl []]:=by rw[<-c1];rfl
 have p1:bO kP1=[.i .i64 1,.i .i64 1,.i .i64 0,.sl [],.i .i64 0,.i .i64 0,.i .i64 0,.i .i64 0]:=rfl;have p2:bO kP2=[.i .i64 1,.i .i64 2,.i .i64 0,.sl [],.i .i64 0,.i .i64 0,.i .i64 0,.i .i64 0]:=rfl;have p3:bO kQ=[.i .i64 1,.i .i64 1,.i .i64 1,.sl [],.i .i64 0,.i .i64 0,.i .i64 0,.i .i64 0]:=rfl;have p4:bO kE=[.i .i64 1,.i .i64 3,.i .i64 1,aK [(1,2)],.i .i64 0,.i .i64 0,.i .i64 0,.i .i64 0]:=rfl;have p5:bO kD=[.i .i64 2,.i .i64 0,.i .i64 0,.sl [],.i .i64 1,.i .i64 0,.i .i64 0,.i .i64 0]:=rfl;have p6:bO kU=[.i .i64 6,.i .i64 0,.i .i64 0,.sl [],.i .i64 0,.i .i64 0,.i .i64 0,.i .i64 0]:=rfl;have d1:Spec Aa 26 [.i .i64 1,.i .i64 0,.sl []] (.ag (bO kP1)):=bSs 1 0 [] (by decide) (by decide);have d2:Spec Aa 26 [.i .i64 2,.i .i64 0,.sl []] (.ag (bO kP2)):=bSs 2 0 [] (by decide) (by decide);have d3:Spec Aa 26 [.i .i64 1,.i .i64 1,.sl []] (.ag (bO kQ)):=bSs 1 1 [] (by decide) (by decide);have d4:Spec Aa 26 [.i .i64 3,.i .i64 1,.sl [[.i .i64 1],[.i .i64 2]]] (.ag (bO kE)):=bSs 3 1 [1,2] (by decide) (by decide);have hNew:=cEe;have a1:=kA1;have a2:=kA2;have a3:=kA3;have a4:=kA4;have a5:=kA5;have a6:=kA6;have a7:=kA7;have t1:=kT1;have t2:=kT2;have k1:=kC1;have u1:=kU1;have m1:=kM1;have m2:=kM2;have m3:=kM3;have m4:=kM4;have s1:=kS1;have s2:=kS2;have s3:=kS3;have s4:=kS4;have s5:=kS5;have h1:=kH1;have b1:=kL1;have b2:=kL2;rw[e1]at a1 a3 a5 a6 t1 k1 m1 m2 m4 s1 h1 b1;rw[e2]at a2 m1 s2;rw[e3]at a4 m2;rw[e4]at a5 m3 s4;rw[e5]at a6 m3 s5;rw[e6]at m1;rw[e7]at t2 k1 m4 s3 b2;rw[eN]at hNew a1 a2 a4 a7 u1;rw[p1]at a1 a3 d1;rw[p2]at a2 d2;rw[p3]at a4 d3;rw[p4]at a5 d4;rw[p5]at a6;rw[p6]at a7;clear l1 l2 l3 l4 l5 l6 c1 e1 e2 e3 e4 e5 e6 e7 eN p1 p2 p3 p4 p5 p6;refine bF (N:=237) Tryz.func7 ?_;simp[-C,-E,↓KW];refine aJ hNew ?_;simp[-C,-E,↓KW];refine aJ d1 ?_;simp[-C,-E,↓KW,aC,aA,aB];refine aJ a1 ?_;simp[-C,-E,↓KW,aC,aA,aB];refine aJ d2 ?_;simp[-C,-E,↓KW,aC,aA,aB];refine aJ a2 ?_;simp[-C,-E,↓KW,aC,aA,aB];refine aJ s1 ?_;simp[-C,-E,↓KW,aC,aA,aB];refine aJ s2 ?_;simp[-C,-E,↓KW,aC,aA,aB];refine aJ d1 ?_;simp[-C,-E,↓KW,aC,aA,aB];refine aJ a3 ?_;simp[-C,-E,↓KW,aC,aA,aB];refine aJ t1 ?_;simp[-C,-E,↓KW,aC,aA,aB];refine aJ k1 ?_;simp[-C,-E,↓KW,aC,aA,aB];refine aJ s3 ?_;simp[-C,-E,↓KW,aC,aA,aB];refine aJ t2 ?_;simp[-C,-E,↓KW,aC,aA,aB];refine aJ u1 ?_;simp[-C,-E,↓KW];refine aJ m1 ?_;simp[-C,-E,↓KW,aC,aA,aB];refine aJ d3 ?_;simp[-C,-E,↓KW,aC,aA,aB];refine aJ a4 ?_;simp[-C,-E,↓KW,aC,aA,aB];refine aJ m2 ?_;simp[-C,-E,↓KW,aC,aA,aB];refine aJ d4 ?_;simp[-C,-E,↓KW,aC,aA,aB];refine aJ a5 ?_;simp[-C,-E,↓KW,aC,aA,aB,kill];refine aJ a6 ?_;simp[-C,-E,↓KW,aC,aA,aB];refine aJ s4 ?_;simp[-C,-E,↓KW,aC,aA,aB];refine aJ s5 ?_;simp[-C,-E,↓KW,aC,aA,aB];refine aJ m3 ?_;simp[-C,-E,↓KW,aC,aA,aB];refine aJ a7 ?_;simp[-C,-E,↓KW,aC,aA,aB];refine aJ m4 ?_;simp[-C,-E,↓KW,aC,aA,aB];refine aJ h1 ?_;simp[-C,-E,↓KW,n6];refine aJ b1 ?_;simp[-C,-E,↓KW];refine aJ b2 ?_;simp[-C,-E,↓KW]
end Go.Am
end
