/- The check of chapter 32: it answers true. No condition. -/
import Derived.Test.YtgjjndadkmodpaaGreatC6
import Derived.Test.YtgjjndadkmodpaaGreatC7
import Derived.Test.YtgjjndadkmodpaaGreatC5
set_option linter.all false
set_option maxHeartbeats 8000000
set_option maxRecDepth 100000
open Bool renaming and_eq_true->AO,not_eq_true'->Co,or_eq_true->CG
open Go.DataW renaming trod_int->Dp
open Go.IntKind renaming i64->Ag,u8->BO
open Go.Proofs.Tryz renaming func9->Ef,prog->Aa,underlying5->Ek
open Int renaming emod_lt_of_pos->E9,emod_nonneg->Dt,tmod_eq_emod_of_nonneg->DV,tmod_lt_of_pos->Ex
open List renaming all_eq_true->Ay,cons_append->BP,drop_succ_cons->B5,drop_zero->BY,eq_nil_of_length_eq_zero->AE,flatMap_cons->Cz,flatMap_nil->DA,getElem?_append_left->AJ,getElem?_eq_getElem->Ab,getElem?_map->Aw,getElem_mem->Ar,length_append->Ak,length_pos_iff->Dr,length_singleton->As,map->AQ,map_drop->Bv,map_take->BD,mem_append->A5,mem_map->AA,mem_of_getLast?->FF,mem_singleton->AT,nil_append->BN,take->BB,take_append_of_le_length->FI,take_of_length_le->Ai,take_succ_cons->B4,take_zero->Cc
open Nat renaming eq_zero_or_pos->Cb,le_refl->Ap,le_trans->An,one_le_two_pow->Cd,zero_le->Al
open _root_ renaming decide_eq_false->Bo,decide_eq_false_iff_not->CP,decide_eq_true->Bx,decide_eq_true_eq->AI,if_neg->Ac,if_pos->Ad,of_decide_eq_true->BH
section
open List renaming map_map->C,mapM_map->E
namespace Go.Am
open RowKit (Below)
inductive Fx where
 |aw
 |rg (pre:List Nat) (t:Tr)
 |sq (f g:Fx)
 |bk (f:Fx)
 |lp (f:Fx)
 |cd (f g:Fx)
def qC(P:Program):Fx->Code->St->(Exit->St->Prop)->Prop
 |.aw,c,σ,Q=>AWP P c σ Q
 |.rg pre t,.region _ ops true,σ,Q=>∃σ2,(OW P ops (opsL ops pre) σ [] λσ1 con1=>OWT P ops t σ1 con1 λσ' con=>WkR (fin σ' con) σ2)/\Q .normal σ2
 |.sq f g,.seq x y,σ,Q=>qC P f x σ λe σ'=>match e with|.normal=>qC P g y σ' Q|e=>Q e σ'
 |.bk f,.block id c,σ,Q=>qC P f c σ λe σ'=>match e with|.exit id'=>if id'=id then Q .normal σ' else Q (.exit id') σ'|e=>Q e σ'
 |.lp f,.loop c,σ,Q=>∃(τ:Type) (S:τ->St) (m:τ->Nat) (x0:τ),WkR σ (S x0)/\∀x,qC P f c (S x) λe σ'=>match e with|.normal=>∃y,m y<m x/\WkR σ' (S y)|e=>Q e σ'
 |.cd f g,.cond c x y,σ,Q=>match oev σ.J c with|.d (.b t)=>if t then qC P f x σ Q else qC P g y σ Q|_=>False
 |_,_,_,_=>False
def aFr(P:Program):Fx->Code->Bool
 |.aw,c=>eC P c
 |.rg pre t,.region _ ops true=>aLp P ops pre t
 |.sq f g,.seq x y=>aFr P f x&&aFr P g y
 |.bk f,.block _ c=>aFr P f c
 |.lp f,.loop c=>aFr P f c
 |.cd f g,.cond _ x y=>aFr P f x&&aFr P g y
 |_,_=>false
section
variable {P:Program} {G:Ctx} {N:Nat} {ds:List Deferred}
def aHr(hm:P.follows .mixedOrders=true)(hZ:∀d,G.Z d=none):∀(f:Fx) (c:Code) (Q:Exit->St->Prop) (σ:St) (a:Act) (w:World),dK N c=true->aFr P f c=true->qC P f c σ Q->SR G N ds σ a w ->
  c.wp P (λe a' w'=>∃σ',Q e σ'/\SR G N ds σ' a' w') a w:=by
 intro f
 induction f with
 |aw=>intro c Q σ a w hd hl h hs;exact iC hm hZ c Q σ a w hd hl h hs
 |rg pre t =>
  intro c Q σ a w hd hl h hs
  cases c with
  |region id ops draw =>
   cases draw with
   |true =>
    obtain⟨σ2,h,hq⟩:=h
    refine aBz (WpR.plain P) (Q:=λσ'=>WkR σ' σ2) hm (λi o d hi ho=>⟨qK hd i o d hi ho,hZ d⟩) hl hs h ?_
    intro σ' a' w' hw hs'
    exact⟨σ2,hq,pW hw hs'⟩
   |false=>exact h.elim
  |_=>exact h.elim
 |sq f g ihf ihg =>
  intro c Q σ a w hd hl h hs
  cases c with
  |seq x y =>
   simp only[dK,aFr,AO]at hd hl
   refine wp_seq (wp_mono (ihf x _ σ a w hd.1 hl.1 h hs) ?_)
   rintro e a' w' ⟨σ1,hq,hs'⟩
   cases e with
   |normal=>exact ihg y Q σ1 a' w' hd.2 hl.2 hq hs'
   |_=>exact⟨σ1,hq,hs'⟩
  |_=>exact h.elim
 |bk f ih =>
  intro c Q σ a w hd hl h hs
  cases c with
  |block id c =>
   refine(WpR.plain P).block (wp_mono (ih c _ σ a w hd hl h hs) ?_)
   rintro e a' w' ⟨σ',hq,hs'⟩
   cases e with
   |exit id' =>
    simp only[Exit.inBlock]at hq ⊢
    split at hq
    ·rename_i he;rw[Ad he];exact⟨σ',hq,hs'⟩
    ·rename_i he;rw[Ac he];exact⟨σ',hq,hs'⟩
   |_=>exact⟨σ',hq,hs'⟩
  |_=>exact h.elim
 |cd f g ihf ihg =>
  intro c Q σ a w hd hl h hs
  cases c with
  |cond c x y =>
   simp only[dK,aFr,AO]at hd hl
   unfold qC at h
   split at h
   ·rename_i t ht
    have hc:a.eval c=.bool t:=by
     obtain⟨_,_,F,ι,_,_,hV,_⟩:=hs;have:=fD (J:=σ.J) (a:=a) (x:=c) (F:=F) (w:=w) (ι:=ι) λt _=>hV t
     rw[ht]at this;generalize a.eval c=v at this;cases this with|d _ _ h=>cases h;rfl
    refine(WpR.plain P).cond hc ?_
    cases t
    ·exact ihg y Q σ a w hd.2 hl.2 h hs
    ·exact ihf x Q σ a w hd.1 hl.1 h hs
   ·exact h.elim
  |_=>exact h.elim
 |lp f ih =>
  intro c Q σ a w hd hl h hs
  cases c with
  |loop c =>
   obtain⟨τ,S,m,x0,hk,hround⟩:=h
   refine(WpR.plain P).loop (λn a w=>∃x,m x=n/\SR G N ds (S x) a w) ⟨m x0,x0,rfl,pW hk hs⟩ ?_
   rintro n a w ⟨x,rfl,hsx⟩
   refine wp_mono (ih c _ (S x) a w hd hl (hround x) hsx) ?_
   rintro e a' w' ⟨σ',hq,hs'⟩
   cases e with
   |normal =>
    obtain⟨y,hlt,hk⟩:=hq
    exact⟨m y,hlt,y,rfl,pW hk hs'⟩
   |_=>exact⟨σ',hq,hs'⟩
  |_=>exact h.elim
def jS {f N:Nat} {fn:Func} {c:Code} {args:List D} {r:D} (l:Fx) (hm:P.follows .mixedOrders=true) (hf:P.funcs[f]? = some fn) (hb:fn.body=some c) (hname:(fn.name == "runtime.NumGoroutine")=false) (hN:fn.ntmps=N)
  (hd:dK N c=true) (hl':aFr P l c=true) (ha:args.length<=N) (h:qC P l c (St0 args N) λe σ=>(e=.normal\/e=.ret)/\mY P fn.results.toList σ=some r):Spec P f args r:=by
 intro A W vs hA hl hv
 have hn:¬ fn.name = "runtime.NumGoroutine" := by simpa using hname
 refine⟨λw=>by simp[callFunc,hf,hn,hb],?_⟩
 refine calls_of_wp hf hb ?_
 subst hN
 refine wp_mono (aHr hm (λ_=>rfl) l c _ _ _ _ hd hl' h (SR0 hA hl hv ha)) ?_
 rintro e a w ⟨σ,⟨he,hr⟩,hs⟩
 obtain⟨v,hrun,hvd⟩:=nR hs hr
 obtain⟨_,_,F,ι,hR,_,_,_,hdf,_⟩:=hs
 have hend:a.defers=[]/\∃v,(results fn a.tmps).run P w=.ok v w/\∃v',Ending.returned v=.returned v'/\Below W.heap.size W w/\VD (λb=>A b\/(W.heap.size<=b/\b<w.heap.size)) w r v':=by
  refine⟨hdf,v,hrun,v,rfl,⟨hR.kept.os,hR.kept.tape,hR.kept.output,hR.kept.size,λk hk=>hR.kept.block k hk (λh=>h)⟩,hvd.mono ?_⟩;rintro b (h|h|h)
  ·exact .inl h
  ·exact h.elim
  ·exact .inr h
 rcases he with rfl|rfl<;>exact hend
def aUm {f N:Nat} {fn:Func} {g:FuncId} {r0 rd rest:Code} {args:List D} {r:D} (l:Fx) (hm:P.follows .mixedOrders=true) (hf:P.funcs[f]? = some fn) (hb:fn.body=some (.seq r0 (.seq rd rest))) (hname:(fn.name == "runtime.NumGoroutine")=false)
  (hN:fn.ntmps=N) (hd0:dK N r0=true) (hl0:eC P r0=true) (hd1:dK N rest=true) (hl1:aFr P l rest=true) (hg:qN rd=some g) (hrec:gQ P g) (ha:args.length<=N)
  (h:AWP P r0 (St0 args N) λe σ0=>e=.normal/\qC P l rest σ0 λe σ=>(e=.normal\/e=.ret)/\mY P fn.results.toList σ=some r):Spec P f args r:=by
 intro A W vs hA hl hv
 have hn:¬ fn.name = "runtime.NumGoroutine" := by simpa using hname
 refine⟨λw=>by simp[callFunc,hf,hn,hb],?_⟩
 refine calls_of_wp_defers hf hb ?_
 subst hN
 refine wp_seq (wp_mono (iC hm (λ_=>rfl) r0 _ _ _ _ hd0 hl0 h (SR0 hA hl hv ha)) ?_)
 rintro e a w ⟨σ0,⟨rfl,h1⟩,hs0⟩
 refine wp_seq (rW hg ?_)
 refine wp_mono (aHr hm (λ_=>rfl) l rest _ _ _ _ hd1 hl1 h1 (aAd { target:=.fn (.func g) #[],args:=#[] } hs0)) ?_
 rintro e a w ⟨σ,⟨he,hr⟩,hs⟩
 rcases he with rfl|rfl<;>exact sG hrec hs hr
end
def cK(P:Program)(c:Code)(σ:St)(Q:Exit->St->Prop):qC P .aw c σ Q=AWP P c σ Q:=rfl
def cJ(P:Program)(f g:Fx)(x y:Code)(σ:St)(Q:Exit->St->Prop):qC P (.sq f g) (.seq x y) σ Q=qC P f x σ λe σ'=>match e with|.normal=>qC P g y σ' Q|e=>Q e σ':=rfl
def cR(P:Program)(f:Fx)(id:Nat)(c:Code)(σ:St)(Q:Exit->St->Prop):qC P (.bk f) (.block id c) σ Q=qC P f c σ λe σ'=>match e with|.exit id'=>if id'=id then Q .normal σ' else Q (.exit id') σ'|e=>Q e σ':=rfl
def bWm(P:Program)(f g:Fx)(v:AV)(x y:Code)(σ:St)(Q:Exit->St->Prop)(_:Dm (x,y,Q)):Prop:=match v with|.d (.b t)=>IfD t (qC P f x σ Q) (qC P g y σ Q) .mk|_=>False
def cP(P:Program)(f g:Fx)(t:Bool)(x y:Code)(σ:St)(Q:Exit->St->Prop)(d:Dm (x,y,Q)):bWm P f g (.d (.b t)) x y σ Q d=IfD t (qC P f x σ Q) (qC P g y σ Q) .mk:=rfl
def cQ(P:Program)(f g:Fx)(c:Operand)(x y:Code)(σ:St)(Q:Exit->St->Prop):qC P (.cd f g) (.cond c x y) σ Q=bWm P f g (oev σ.J c) x y σ Q .mk:=rfl
def RgX(P:Program)(pre:List Nat)(t:Tr)(ops:Array Oper)(σ:St)(Q:St->Prop)(_:Dm (ops,Q)):Prop:=∃σ2,(OW P ops (opsL ops pre) σ [] λσ1 con1=>OWT P ops t σ1 con1 λσ' con=>WkR (fin σ' con) σ2)/\Q σ2
def wJ(P:Program)(pre:List Nat)(t:Tr)(id:Nat)(ops:Array Oper)(σ:St)(Q:Exit->St->Prop):qC P (.rg pre t) (.region id ops true) σ Q=RgX P pre t ops σ (Q .normal) .mk:=rfl
def aAu{P:Program}{pre:List Nat}{t:Tr}{ops:Array Oper}{σ:St}{Q:St->Prop}{d:Dm (ops,Q)}(σ2:St)(l:List Oper)(t':Tro)(h1:opsL ops pre=l)(h2:mI ops t=t')
  (h:bOn P ops l t' σ (λσ'=>WkR σ' σ2) .mk) (hq:Q σ2):RgX P pre t ops σ Q d:=by
 subst h1;subst h2
 refine⟨σ2,?_,hq⟩
 simp only[nU]
 exact h
end Go.Am
end
section
open List renaming map_map->C,mapM_map->E
open Go Go.Am Go.Proofs
namespace Go.Am
def cpH(h:Hi)(n:Int):Hi×Int:=if(atV h n).2=0 then(⟨n,(atV h n).1,h.l.drop (n-h.s).toNat⟩,0)else(h,(atV h n).2)
def udH(h:Hi):Hi×Int:=if h.l=[]then(h,320)else(⟨h.s,h.c,h.l.take (h.l.length-1)⟩,0)
def aEf{h:Hi}(n:Int)(ho:OkH h)(hn:-1000000<=n/\n<=2000000):Spec Aa 22 [bZ h,.i .i64 n] (h2D (cpH h n)):=by
 have hA:=vAt n ho hn;obtain⟨⟨r1,r2⟩,hr⟩:∃R,atV h n=R:=⟨_,rfl⟩;unfold cpH;rw[hr]at hA ⊢;have hrD:r2D (r1,r2)=.tp [aE r1,.i .i64 r2]:=rfl;rw[hrD]at hA;have hw:Ag.wrap (n-h.s)=n-h.s:=wrap_i64 (by have:=ho.s0;have:=ho.s1;omega) (by have:=ho.s0;have:=ho.s1;omega);refine qP (N:=31) Tryz.func22 cAu ?_;simp[-C,-E,↓KW,bX,bL,aE];refine aJ hA ?_;by_cases h0:r2=0
 ·subst h0;have hh:mF h n=true:=by
   cases e:mF h n with
   |true=>rfl
   |false=>unfold atV at hr;rw[e]at hr;simp at hr
  have hb:h.s<=n/\n-h.s<=h.l.length:=by simpa[mF]using hh
  refine exE ((n-h.s).toNat) λk hk=>?_
  have hkn:n-h.s=(k:Int):=by omega
  have hkl:k<=h.l.length:=by omega
  have hwk:Ag.wrap (k:Int)=k:=by rw[<-hkn];exact hw
  have hC:=bAh (l:=h.l.drop k) (by simp;have:=ho.len;omega);simp only[bL,Bv]at hC;have htk:BB h.l.length (AQ bP h.l)=AQ bP h.l:=Ai (by simp);simp[-C,-E,↓KW,bX,bL,aE,hw,hkn,hwk,hkl,aQt,htk];refine aJ hC ?_;simp[-C,-E,↓KW,hk,cD,h2D,bX,aE,bL]
 ·have h0':((r2 != 0):Bool)=true:=by simpa using h0
  simp[-C,-E,↓KW,h0,h0',cD,h2D,bX,aE,bL]
def u13:Tr:=.one 13 (.one 14 (.one 15 (.one 16 (.one 17 .leaf))))
def u12:Tr:=.one 12 u13
def u11:Tr:=.one 11 u12
def u10:Tr:=.one 10 u11
def uA:Tr:=.two 3 u12 12 (.one 3 u13)
def uB:Tr:=.two 3 u11 11 uA
def uC:Tr:=.one 1 u11
def bVl:Tr:=.three 1 (.two 3 u10 10 uB) 3 (.two 1 u10 10 uC) 10 (.two 1 uB 3 uC)
def fxU:Fx:=.sq .aw (.sq .aw (.sq (.rg [0,2,4,5,6,7,8,9] bVl) .aw))
def cAm{h:Hi}(hl:h.l.length<=10000):Spec Aa 21 [bZ h] (h2D (udH h)):=by
 refine aUm (N:=24) fxU bN Tryz.func21 rfl rfl rfl (by kernel_rfl) (by kernel_rfl) (by kernel_rfl) (by kernel_rfl) rfl cAv (by simp) ?_;unfold udH fxU;by_cases h0:h.l=[]
 ·simp[-C,-E,↓KW,bX,bL,aE,h0,↓cJ,↓cK,↓wJ,cD,h2D]
 ·have hp:0<h.l.length:=Dr.2 h0;obtain⟨k,hk⟩:∃k:Nat,h.l.length=k+1:=⟨h.l.length-1,by omega⟩;have hk1:h.l.length-1=k:=by omega
  have hki:(h.l.length:Int)-1=(k:Int):=by omega
  have hwk:Ag.wrap (k:Int)=k:=aV;have hkl:k<=h.l.length:=by omega
  have e0:((h.l.length:Int)==0)=false:=by simpa using h0
  have hC:=bAh (l:=h.l.take k) (by simp;omega);simp only[bL,BD]at hC;rw[Ac h0,hk1];have ok:=aQt h.l;have hX:bZ ⟨h.s,h.c,h.l.take k⟩=.ag [.i .i64 h.s,.sl (h.c.map aN),.sl ((h.l.map bP).take k)]:=by rw[<-BD];rfl
  have hLl:(h.l.map bP).length=h.l.length:=by simp
  have hH:bZ h=.ag [.i .i64 h.s,.sl (h.c.map aN),.sl (h.l.map bP)]:=rfl;rw[hH];obtain⟨L,hL⟩:∃L,h.l.map bP=L:=⟨_,rfl⟩;obtain⟨CL,hCL⟩:∃L,h.c.map aN=L:=⟨_,rfl⟩;obtain⟨n,hn⟩:∃n,h.l.length=n:=⟨_,rfl⟩;rw[hL]at hC ok hX hLl ⊢;rw[hCL]at hX ⊢;rw[hn]at hLl hki e0 hkl;simp[-C,-E,↓KW,hLl,e0,↓cJ,↓cK,↓wJ];refine aAu (StL [(2,.ptr 1 0),(3,.d (.i .i64 0))] none [.cells 35 [.d (.i .i64 h.s),.d (.sl CL),.d (.sl (L.take k))]]) _ _ rfl rfl ?_ ?_
  ·simp only[opsL,opL,bVl,uA,uB,uC,u10,u11,u12,u13,mI,Cz,DA,B5,BY,B4,Cc,BP,BN];simp[-C,-E,↓KW,hLl,hki,hwk,hkl,ok,↓dN,↓aFa,↓dO,↓dP,↓cV];refine aJ hC ?_;simp[-C,-E,↓KW,↓dN,↓aFa,↓dO,↓dP,↓cV];repeat' apply And.intro
   all_goals refine .inr (wkQ [2] ?_ ?_)<;>simp[-C,upd,aO,Γ0]
  ·simp[-C,-E,↓KW,cD,h2D,hX]
def bVt{h:Hi}(n:Int)(ho:OkH h)(hn:-1000000<=n/\n<=2000000):Spec Aa 17 [bZ h,.i .i64 n] (r2D (atV h n)):=by
 have hH:=aAv h ⟨ho.s0,ho.s1⟩ ho.len;have hw:Ag.wrap (n-h.s)=n-h.s:=wrap_i64 (by have:=ho.s0;have:=ho.s1;omega) (by have:=ho.s0;have:=ho.s1;omega);refine bF (N:=28) Tryz.func17 ?_;unfold atV;by_cases h1:h.s<=n
 rotate_left
 ·have hh:mF h n=false:=by simp[mF,h1]
  have h1':n<h.s:=by omega
  simp[-C,-E,↓KW,bX,bL,aE,h1',hh,r2D,cD]
 ·have h1':¬n<h.s:=by omega
  simp[-C,-E,↓KW,bX,bL,aE,h1'];refine aJ hH ?_;by_cases h2:n-h.s<=h.l.length
  rotate_left
  ·have hh:mF h n=false:=by simp[mF,h2]
   have h2':jK h<n:=by unfold jK;omega
   simp[-C,-E,↓KW,h2',hh,r2D,cD,aE]
  ·have hh:mF h n=true:=by simp[mF,h1,h2]
   have h2':¬jK h<n:=by unfold jK;omega
   refine exE ((n-h.s).toNat) λk hk=>?_
   have hkn:n-h.s=(k:Int):=by omega
   have hkl:k<=h.l.length:=by omega
   have hR:=bHq (c0:=h.c) (l:=h.l.take k) (ho.ok.take k) (by simp;have:=ho.len;omega);have hwk:Ag.wrap (k:Int)=k:=by rw[<-hkn];exact hw
   obtain⟨⟨r1,r2⟩,hr⟩:∃R,lG h.c (h.l.take k)=R:=⟨_,rfl⟩;rw[hr]at hR;have hRD:r2D (r1,r2)=.tp [.sl (r1.map aN),.i .i64 r2]:=rfl;simp only[bL,aE,BD,hRD]at hR;simp[-C,-E,↓KW,h2',hw,hkn,hwk,hkl,aQt];refine aJ hR ?_;simp[-C,-E,↓KW,cD,hk,hh,hr,hRD]
def bUw{h:Hi}{c:List Cl}(hs:aHl h c):atV h (jK h)=(c,0):=by
 unfold atV;have hh:mF h (jK h)=true:=by unfold mF jK;simp;omega
 rw[hh,Ad rfl];have:(jK h-h.s).toNat=h.l.length:=by unfold jK;omega
 rw[this,List.take_length];exact hs
def aUx{h:Hi}{c:List Cl}(ho:OkH h)(hs:aHl h c):Spec Aa 10 [bZ h] (aE c):=by have hH:=aAv h ⟨ho.s0,ho.s1⟩ ho.len;have hA:=bVt (jK h) ho ⟨by unfold jK;have:=ho.s0;omega,by unfold jK;have:=ho.s1;have:=ho.len;omega⟩;rw[bUw hs]at hA;have hRD:r2D (c,0)=.tp [.sl (c.map aN),.i .i64 0]:=rfl;rw[hRD]at hA;refine bF (N:=13) Tryz.func10 ?_;simp[-C,-E,↓KW,bX,bL,aE];refine aJ hH ?_;simp[-C,-E,↓KW,bX,bL,aE];refine aJ hA ?_;simp[-C,-E,↓KW,aE]
def bQn{h:Hi}{l:List Cg}(hl:h.l.length<=10000)(hl2:l.length<=10000):Spec Aa 38 [bZ h,bL l] (bZ ⟨h.s,h.c,h.l++l⟩):=by
 refine bF (N:=15) Tryz.func38 ?_;obtain⟨a,ha⟩:∃a,h.l=a:=⟨_,rfl⟩;rw[ha]at hl;have hok:∀l:List Cg,fB 8 (l.map bP)=true:=aQt;have hone:∀l:List Cg,(∀(x:Cg),x∈l->∀(x_1:D),x_1∈bP x->one (AV.d x_1)=true)↔True:=λl=>⟨λ_=>trivial,λ_ x _ d hd=>Ay.1 (pC x) (.d d) (AA.2 ⟨d,hd,rfl⟩)⟩
 have hal:∀l:List Cg,(∀d∈flt bP l,one (AV.d d)=true)↔True:=λl=>⟨λ_=>trivial,λ_ d hd=>Ay.1 (dB pC l) (.d d) (AA.2 ⟨d,hd,rfl⟩)⟩
 have hff:=iR bP;have hla:=bJ fX a;have hlb:=bJ fX l;have hbb:a.length*80<=140737488355328/\a.length<=maxLen:=⟨by omega,aS (by omega)⟩;have hbb2:(a.length+l.length)*80<=140737488355328/\a.length+l.length<=maxLen:=⟨by omega,aS (by omega)⟩;have hab':(a++l).length=a.length+l.length:=Ak;have e1:BB ((a.length+l.length)*8) ((flt bP (a++l)).map AV.d)=(flt bP (a++l)).map AV.d:=dI fX hab';have e2:chunk 8 (a.length+l.length) (flt bP (a++l))=(a++l).map bP:=cW (by decide) fX hab';have e3:=bJ fX (a++l);rw[hab']at e3;have e4:(flt bP a).map AV.d++(flt bP l).map AV.d=(flt bP (a++l)).map AV.d:=by rw[cX,List.map_append]
 rw[ha];simp[-C,-E,↓KW,bX,bL,aE,ha,uW,hok,hone,hal,hff,hla,hlb,hbb,hbb2,e1,e2,e3,e4,rD]
def bBv{h:Hi}{c:List Cl}{x:Cg}(ho:OkH h)(hs:aHl h c)(hl:h.l.length<4000)(hx:Ok2 c x):Spec Aa 12 [bZ h,.ag (bP x)] (h2D (lU h c x)):=by
 have hN:=aUx ho hs;have hD:=bVs hx;have hW:=bQn (h:=h) (l:=[x]) (by omega) (by simp);obtain⟨⟨r1,r2⟩,hr⟩:∃R,doX c x=R:=⟨_,rfl⟩;rw[hr]at hD;have hrD:r2D (r1,r2)=.tp [aE r1,.i .i64 r2]:=rfl;rw[hrD]at hD;have q1:¬(4000:Int)<=h.l.length:=by omega
 unfold lU;rw[hr];simp only;have hxc:=dE x;have hl1:bL [x]=.sl [bP x]:=rfl;rw[hl1,bX ⟨h.s,h.c,h.l++[x]⟩]at hW;obtain⟨L,hL⟩:∃L,(h.l++[x]).map bP=L:=⟨_,rfl⟩;have hL2:bL (h.l++[x])=.sl L:=by rw[<-hL];rfl
 simp only[hL2,aE]at hW;refine bF (N:=28) Tryz.func12 ?_;simp[-C,-E,↓KW,bX,bL,aE,hxc,q1,aC,aA,aB];refine aJ hN ?_;simp[-C,-E,↓KW,aE,aC,aA,aB];refine aJ hD ?_;by_cases h0:r2=0
 ·subst h0;simp[-C,-E,↓KW,aC,aA,aB];refine aJ hW ?_;cases hf1:oK (D.sl L)<;>cases hf2:oK (D.sl (h.c.map aN))<;>simp[-C,-E,↓KW,cD,h2D,bX,aE,bL,hL,hf1,hf2,kill]
 ·have h0':((r2 != 0):Bool)=true:=by simpa using h0
  simp[-C,-E,↓KW,h0,h0',aC,aA,aB,cD,h2D,bX,aE,bL]
def aUz{h:Hi}(n:Int)(ho:OkH h)(hn:-1000000<=n/\n<=2000000):Spec Aa 23 [bZ h,.i .i64 n] (h2D (cpH h n)):=by
 have hA:=bVt n ho hn;obtain⟨⟨r1,r2⟩,hr⟩:∃R,atV h n=R:=⟨_,rfl⟩;unfold cpH;rw[hr]at hA ⊢;have hrD:r2D (r1,r2)=.tp [aE r1,.i .i64 r2]:=rfl;rw[hrD]at hA;have hw:Ag.wrap (n-h.s)=n-h.s:=wrap_i64 (by have:=ho.s0;have:=ho.s1;omega) (by have:=ho.s0;have:=ho.s1;omega);refine bF (N:=28) Tryz.func23 ?_;simp[-C,-E,↓KW,bX,bL,aE];refine aJ hA ?_;by_cases h0:r2=0
 ·subst h0;have hh:mF h n=true:=by
   cases e:mF h n with
   |true=>rfl
   |false=>unfold atV at hr;rw[e]at hr;simp at hr
  have hb:h.s<=n/\n-h.s<=h.l.length:=by simpa[mF]using hh
  refine exE ((n-h.s).toNat) λk hk=>?_
  have hkn:n-h.s=(k:Int):=by omega
  have hkl:k<=h.l.length:=by omega
  have hwk:Ag.wrap (k:Int)=k:=by rw[<-hkn];exact hw
  have htk:BB h.l.length (AQ bP h.l)=AQ bP h.l:=Ai (by simp);simp[-C,-E,↓KW,bX,bL,aE,hw,hkn,hwk,hkl,aQt,htk,hk,cD,h2D]
 ·have h0':((r2 != 0):Bool)=true:=by simpa using h0
  simp[-C,-E,↓KW,h0,h0',cD,h2D,bX,aE,bL]
structure Sx where
 k:Int
 a:Int
 b:Int
 q:Q4
def Sx.ok(s:Sx):Prop:=(0<=s.k/\s.k<=255)/\(0<=s.a/\s.a<=255)/\(0<=s.b/\s.b<=255)/\s.q.ok
def mK(s:Sx):List D:=[.i .u8 s.k,.i .u8 s.a,.i .u8 s.b,.i .i8 s.q.1,.i .i8 s.q.2.1,.i .i8 s.q.2.2.1,.i .i8 s.q.2.2.2]
def aYg{c:List Cl}{m:Int}(k:Int)(hk:0<=k/\k<=255)(hl:c.length<=1000)(hid:∀y∈c,0<=y.id/\y.id<=m)(hm:255<=m):∃n:Int,(0<=n/\n<=m)/\Spec Aa 28 [aE c,.i .u8 k] (.i .i64 n):=by
 have hw:Ag.wrap k=k:=aV;by_cases h0:c=[]
 ·subst h0;refine⟨k,by omega,bF (N:=23) Tryz.func28 ?_⟩;simp[-C,-E,↓KW,aE,hw]
 ·have hpos:0<c.length:=Dr.2 h0;have e0:((c.length:Int)==0)=false:=by simpa using h0
  by_cases h1:250<=k
  ·refine⟨k,by omega,bF (N:=23) Tryz.func28 ?_⟩;simp[-C,-E,↓KW,aE,hw,h1,e0]
  ·have m1:=Dt k (b:=(c.length:Int)) (by omega);have m2:=E9 k (b:=(c.length:Int)) (by omega);obtain⟨j,j1,j2⟩:∃j:Nat,j<c.length/\k.tmod (c.length:Int)=(j:Int):=⟨(k%c.length).toNat,by omega,by rw[DV hk.1];omega⟩;have j3:(j:Int)<c.length:=by omega
   have hz:c[j]? = some c[j]:=Ab j1;have hzm:c[j]∈c:=Ar j1;refine exE c[j] λz hze=>?_
   rw[hze]at hz hzm;have hze':∀h:j<c.length,c[j]'h=z:=λ_=>hze
   have wj:Ag.wrap (j:Int)=(j:Int):=aV;have ez:aN z=[.i .i64 z.id,.i .i64 z.dim,aK z.b]:=rfl;refine⟨z.id,hid z hzm,bF (N:=23) Tryz.func28 ?_⟩;simp[-C,-E,↓KW,aE,hw,h1,h0,e0,j1,j2,j3,hz,hze',wj,ez,aC,aA,aB]
def pY:Fx:=.sq .aw (.sq .aw (.sq .aw (.sq .aw (.sq (.sq .aw (.bk (.sq .aw (.cd .aw (.sq .aw (.cd (.sq .aw (.sq .aw (.cd (.sq .aw (.rg [0,1,2,3,4,5,6,7,8,10] (.two 9 (.one 11 (.one 12 (.one 13 .leaf))) 11 (.one 9 (.one 12 (.one 13 .leaf)))))) .aw))) .aw)))))) .aw))))
def bIs(c:List Cl):Int:=match c.getLast? with|none=>1|some y=>y.id+1
def bRl{c:List Cl}{m:Int}(hid:∀y∈c,0<=y.id/\y.id<=m)(hm:0<=m):1<=bIs c/\bIs c<=m+1:=by
 unfold bIs;cases e:c.getLast? with
 |none=>simp only;omega
 |some y=>have:=hid y (FF e);simp only;omega
def Fg.zero{i M q d:Nat}{k a b w0 w1:Int}(hk:1<=k/\k<=6)(ha:0<=a/\a<=302+2*(i:Int))(hb:0<=b/\b<=302+2*(i:Int))(h0:0<=w0/\w0<=302+2*(i:Int))(h1:0<=w1/\w1<=302+2*(i:Int)):Fg i M q d ⟨k,⟨0,0,[]⟩,a,b,w0,w1⟩ :=
 ⟨hk,⟨Int.le_refl 0,show(0:Int)<=3 by decide⟩,Val.nil,by simp,Bnd.nil _,λf hf=>(by cases hf),⟨by simp,by simp;omega⟩,ha,hb,h0,h1⟩
def bLo{c:List Cl}(h:CxV c){p:Int×Int}(hp:p∈jM c):(∃y∈c,y.id=p.1)/\∃y∈c,y.id=p.2:=by obtain⟨z,xa,xb,t⟩:=aDu h (a:=p.1) (b:=p.2) hp;exact⟨⟨xa,t.ina,t.ida⟩,⟨xb,t.inb,t.idb⟩⟩
def bTh{c:List Cl}{x0 m:Int}(h:∀x∈c,0<=x.id/\x.id<=m)(hm:0<=m):0<=gId c x0/\gId c x0<=m+2:=by
 unfold gId;cases e:c.getLast? with
 |none=>simp only;omega
 |some y =>
  have:=h y (FF e);simp only;omega
def bJh{l:Ch}{n:Int}(hv:Val l){f:Int×Int}(h:f∈cF l [(n,1)]):f.1=n\/∃g∈l,g.1=f.1:=by
 obtain⟨h1,h2⟩:=cS [(n,1)] l hv;have e:=fJ h1 h;rw[h2]at e;have hne:f.2≠0:=h1.2 f h;by_cases q:f.1=n
 ·exact .inl q
 ·right;refine Classical.byContradiction λhn=>hne ?_
  have e1:getM l f.1=0:=aSq λhm=>by obtain⟨g,hg,eg⟩:=AA.1 hm;exact hn ⟨g,hg,eg⟩
  rw[e1]at e;simp[cf,q]at e;exact e.symm
def Nw.fg{i M d:Nat}{c:List Cl}{y:Cl}(h:Hs i M d c)(N:Nw M (cB c 2).length d c y){k pa pb w0 w1 id:Int}{b:Ch}(hid:0<=id/\id<=302+2*(i:Int))(hk:1<=k/\k<=6)(ha:0<=pa/\pa<=302+2*(i:Int))(hb:0<=pb/\pb<=302+2*(i:Int))(h0:0<=w0/\w0<=302+2*(i:Int))(h1:0<=w1/\w1<=302+2*(i:Int))(hbb:b=y.b\/b=cF y.b [(pa,1)]) :
  Fg i M (cB c 2).length d ⟨k,⟨id,y.dim,b⟩,pa,pb,w0,w1⟩:=by
 have hB:∀{X:Nat},1<=2^X:=λ{X}=>Cd
 have hk0:∀f∈y.b,0<=f.1/\f.1<=302+2*(i:Int):=λf hf=>by have h2:=N.face f hf;unfold cB at h2;obtain⟨z,hz,e⟩:=AA.1 h2;have:=h.ids z (List.mem_filter.1 hz).1;omega
 have hbn:Bnd (2^(cyE M (cB c 2).length (4+d) (b2F M d) y.dim+4)-1) y.b:=by
  rcases N.bnd with e|⟨_,e⟩
  ·rw[e];exact Bnd.nil _
  ·exact e
 rcases hbb with rfl|rfl
 ·exact⟨hk,N.dim,N.val,by have:=N.bl;simp only;omega,hbn.mono (Nat.sub_le _ _),hk0,hid,ha,hb,h0,h1⟩
 ·refine⟨hk,N.dim,(cS _ _ N.val).1,?_,?_,λf hf=>?_,hid,ha,hb,h0,h1⟩
  ·have h2:=oB y.b [(pa,1)]
   have:=N.bl
   simp only[As]at h2
   simp only;omega
  ·have h2:=mP (M:=2^(cyE M (cB c 2).length (4+d) (b2F M d) y.dim+4)-1) (K:=1) [(pa,1)] y.b hbn (λf hf=>by rw[AT.1 hf];exact Ap 1)
   refine h2.mono ?_
   have:=@hB (cyE M (cB c 2).length (4+d) (b2F M d) y.dim+4)
   simp only[As];omega
  ·rcases bJh N.val hf with e|⟨g,hg,e⟩
   ·omega
   ·have:=hk0 g hg;omega
def cAa{c:List Cl}{y:Cl}{M q d:Nat}(N:Nw M q d c y)(hE:cyE M q (4+d) (b2F M d) y.dim+5<4398046511104)(pa:Int):Spec Aa 30 [aK y.b,.sl [[.i .i64 pa,.b (decide ((1:Int)<0)),aM (aU (1:Int).natAbs)]],.ag [.b (decide ((1:Int)<0)),aM (aU (1:Int).natAbs)]] (aK (cF y.b [(pa,1)])):=by
 have hbn:Bnd (2^(cyE M q (4+d) (b2F M d) y.dim+4)) y.b:=by
  rcases N.bnd with e|⟨_,e⟩
  ·rw[e];exact Bnd.nil _
  ·exact e.mono (Nat.sub_le _ _)
 have h1:(aU (1*1)).length<=137438953472:=uP (e:=1) (by decide) (by decide);have h2:1<=2^(cyE M q (4+d) (b2F M d) y.dim+4):=Cd;have h3:2^(cyE M q (4+d) (b2F M d) y.dim+4+1)=2^(cyE M q (4+d) (b2F M d) y.dim+4)*2:=Nat.pow_succ ..;have hA:=bHt y.b [(pa,1)] 1 _ 1 1 hbn (λf hf=>by rw[AT.1 hf];exact Ap 1) (by decide) (uP (e:=cyE M q (4+d) (b2F M d) y.dim+4+1) (by rw[h3];simp only[As];omega) (by omega)) h1 (uP (e:=1) (by decide) (by decide)) (uP (e:=1) (by decide) (by decide)) (by have:=N.bl;simp;omega);exact hA
def bQo{i M d:Nat}{c:List Cl}(h:Hs i M d c)(hi:i<=10)(s:Sx)(hs:s.ok):∃x:Cg,Fg i M (cB c 2).length d x/\Spec Aa 9 [aE c,.ag (mK s)] (.ag (bP x)):=by
 obtain⟨k,a,b,⟨x0,x1,x2,x3⟩⟩:=s;obtain⟨hk,ha,hb,hq⟩:=hs;simp only at hk ha hb hq;have hlen:=h.len;obtain⟨pa,pa1,hPa⟩:=aYg a ha (by omega) h.ids (by omega);obtain⟨pb,pb1,hPb⟩:=aYg b hb (by omega) h.ids (by omega);have hnx:=bRl h.ids (by omega);obtain⟨nx,hne⟩:∃nx,bIs c=nx:=⟨_,rfl⟩;rw[hne]at hnx;have wnx:Ag.wrap (nx+1)=nx+1:=aV;have m1:=Dt k (b:=6) (by omega);have m2:=E9 k (b:=6) (by omega);obtain⟨kk,hkk⟩:∃kk,k.tmod 6=kk:=⟨_,rfl⟩;have hkr:0<=kk/\kk<6:=by rw[DV hk.1]at hkk;omega
 have wu:BO.wrap kk=kk:=by rw[tO];omega
 have wi:Ag.wrap kk=kk:=aV;have wk1:Ag.wrap (1+kk)=1+kk:=aV;have hes:mK ⟨k,a,b,(x0,x1,x2,x3)⟩=[.i .u8 k,.i .u8 a,.i .u8 b,.i .i8 x0,.i .i8 x1,.i .i8 x2,.i .i8 x3]:=rfl;have h0:True:=trivial;have w2:Ag.wrap 2=2:=by decide
 have hc:(c.length=0/\True/\True/\True/\True/\True/\True/\nx=1)\/(∃(n:Nat) (z:Cl),0<c.length/\(c.length:Int)-1=(n:Int)/\Ag.wrap (n:Int)=(n:Int)/\(n:Int)<c.length/\c[n]? = some z/\aN z=[.i .i64 z.id,.i .i64 z.dim,aK z.b]/\Ag.wrap (z.id+1)=z.id+1/\nx=z.id+1):=by
  rcases Cb c.length with e|e
  ·left;rw[AE e]at hne;exact⟨e,h0,h0,h0,h0,h0,h0,hne.symm⟩
  ·right;have hg:c[c.length-1]? = some c[c.length-1]:=Ab (by omega);have hm:=h.ids _ (List.mem_of_getElem? hg);refine⟨c.length-1,c[c.length-1],e,by omega,aV,by omega,hg,rfl,aV,?_⟩;rw[<-hne];unfold bIs;rw[List.getLast?_eq_getElem?,Ab (by omega)]
 by_cases k1:kk=0
 ·obtain⟨y,hG,hyi,N⟩:=bLh h hi x0 x1 x2 x3 hq;have hgI:=bTh (x0:=x0) h.ids (by omega);rw[<-hyi]at hgI;have g1:((1+kk==1):Bool)=true:=by simp;omega
  have g4:((1+kk==4):Bool)=false:=by simp;omega
  have g5:((1+kk==5):Bool)=false:=by simp;omega
  have hO1:=bXz 1 (by decide);have hEb:cyE M (cB c 2).length (4+d) (b2F M d) y.dim+5<4398046511104:=by
   have k4:=h.Md;have k5:=h.n2;obtain⟨g1,g2,g3,g4⟩:=aFf (M:=M) (d:=d) (q:=(cB c 2).length) h.M3 (by omega) (by omega);have hb2:b2F M d=2*gG M (4+d)+10+d:=rfl;unfold cyE;split
   ·omega
   ·split
    ·omega
    ·split<;>omega
  have hAdd:=cAa N hEb pa;obtain⟨g,hg⟩:∃g,c++[y]=g:=⟨_,rfl⟩;have hgn:(g.length:Int)-1=(c.length:Int):=by rw[<-hg];simp
  have hgl:(c.length:Int)<g.length:=by rw[<-hg];simp;omega
  have wgl:Ag.wrap ((g.length:Int)-1)=(c.length:Int):=by rw[hgn];exact aV
  have hgz:g[c.length]? = some y:=by rw[<-hg];simp
  rw[hg]at hG;have ey:aN y=[.i .i64 y.id,.i .i64 y.dim,aK y.b]:=rfl;by_cases a0:240<=a
  ·by_cases b0:240<=b
   ·refine⟨⟨1+kk,⟨pb,y.dim,cF y.b [(pa,1)]⟩,pa,pb,nx,nx+1⟩,N.fg h (by omega) (by omega) (by omega) (by omega) (by omega) (by omega) (.inr rfl),?_⟩;rcases hc with ⟨e0,hl1,wn,hn,hz,ez,wz,en⟩|⟨n,z,e0,hl1,wn,hn,hz,ez,wz,en⟩
    all_goals
     subst en
     refine jS (N:=118) pY bN Ef rfl rfl rfl (by kernel_rfl) (by kernel_rfl) (by simp) ?_
     unfold pY
     simp[-C,-E,↓KW,aE,h0,hl1,wn,hn,hz,ez,wz,aC,hes,e0,hkk,wu,wi,wk1,↓cJ,↓cK,↓cR,↓cQ,cP]
     refine aJ hPa ?_
     simp[-C,-E,↓KW,aE,↓cJ,↓cK,↓cR,↓cQ,cP]
     refine aJ hPb ?_
     simp[-C,-E,↓KW,aE,w2,wnx,g1,g4,g5,↓cJ,↓cK,↓cR,↓cQ,cP]
     refine aJ hG ?_
     simp[-C,-E,↓KW,g1,g4,g5,aE,hgl,wgl,hgz,ey,a0,b0,aC,aA,aB,↓cJ,↓cK,↓cR,↓cQ,cP]
     refine aJ hPa ?_
     simp[-C,-E,↓KW,aE,aC,aA,aB]
     refine aJ hO1 ?_
     simp[-C,-E,↓KW,encZ,encI,aE,aF,aD,aG,aC,aA,aB]
     refine aJ hO1 ?_
     simp[-C,-E,↓KW,encZ,encI,aE,aF,aD,aG,aC,aA,aB]
     refine aJ hAdd ?_
     simp[-C,-E,↓KW,g1,g4,g5,aE,aK,kill]
     rfl
   ·refine⟨⟨1+kk,⟨pb,y.dim,y.b⟩,pa,pb,nx,nx+1⟩,N.fg h (by omega) (by omega) (by omega) (by omega) (by omega) (by omega) (.inl rfl),?_⟩;rcases hc with ⟨e0,hl1,wn,hn,hz,ez,wz,en⟩|⟨n,z,e0,hl1,wn,hn,hz,ez,wz,en⟩
    all_goals
     subst en
     refine jS (N:=118) pY bN Ef rfl rfl rfl (by kernel_rfl) (by kernel_rfl) (by simp) ?_
     unfold pY
     simp[-C,-E,↓KW,aE,h0,hl1,wn,hn,hz,ez,wz,aC,hes,e0,hkk,wu,wi,wk1,↓cJ,↓cK,↓cR,↓cQ,cP]
     refine aJ hPa ?_
     simp[-C,-E,↓KW,aE,↓cJ,↓cK,↓cR,↓cQ,cP]
     refine aJ hPb ?_
     simp[-C,-E,↓KW,aE,w2,wnx,g1,g4,g5,↓cJ,↓cK,↓cR,↓cQ,cP]
     refine aJ hG ?_
     simp[-C,-E,↓KW,g1,g4,g5,aE,hgl,wgl,hgz,ey,a0,b0,aC,aA,aB,↓cJ,↓cK,↓cR,↓cQ,cP]
     rfl
  ·by_cases b0:240<=b
   ·refine⟨⟨1+kk,⟨y.id,y.dim,cF y.b [(pa,1)]⟩,pa,pb,nx,nx+1⟩,N.fg h (by omega) (by omega) (by omega) (by omega) (by omega) (by omega) (.inr rfl),?_⟩;rcases hc with ⟨e0,hl1,wn,hn,hz,ez,wz,en⟩|⟨n,z,e0,hl1,wn,hn,hz,ez,wz,en⟩
    all_goals
     subst en
     refine jS (N:=118) pY bN Ef rfl rfl rfl (by kernel_rfl) (by kernel_rfl) (by simp) ?_
     unfold pY
     simp[-C,-E,↓KW,aE,h0,hl1,wn,hn,hz,ez,wz,aC,hes,e0,hkk,wu,wi,wk1,↓cJ,↓cK,↓cR,↓cQ,cP]
     refine aJ hPa ?_
     simp[-C,-E,↓KW,aE,↓cJ,↓cK,↓cR,↓cQ,cP]
     refine aJ hPb ?_
     simp[-C,-E,↓KW,aE,w2,wnx,g1,g4,g5,↓cJ,↓cK,↓cR,↓cQ,cP]
     refine aJ hG ?_
     simp[-C,-E,↓KW,g1,g4,g5,aE,hgl,wgl,hgz,ey,a0,b0,aC,aA,aB,↓cJ,↓cK,↓cR,↓cQ,cP]
     refine aJ hPa ?_
     simp[-C,-E,↓KW,aE,aC,aA,aB]
     refine aJ hO1 ?_
     simp[-C,-E,↓KW,encZ,encI,aE,aF,aD,aG,aC,aA,aB]
     refine aJ hO1 ?_
     simp[-C,-E,↓KW,encZ,encI,aE,aF,aD,aG,aC,aA,aB]
     refine aJ hAdd ?_
     simp[-C,-E,↓KW,g1,g4,g5,aE,aK,kill]
     rfl
   ·refine⟨⟨1+kk,⟨y.id,y.dim,y.b⟩,pa,pb,nx,nx+1⟩,N.fg h (by omega) (by omega) (by omega) (by omega) (by omega) (by omega) (.inl rfl),?_⟩;rcases hc with ⟨e0,hl1,wn,hn,hz,ez,wz,en⟩|⟨n,z,e0,hl1,wn,hn,hz,ez,wz,en⟩
    all_goals
     subst en
     refine jS (N:=118) pY bN Ef rfl rfl rfl (by kernel_rfl) (by kernel_rfl) (by simp) ?_
     unfold pY
     simp[-C,-E,↓KW,aE,h0,hl1,wn,hn,hz,ez,wz,aC,hes,e0,hkk,wu,wi,wk1,↓cJ,↓cK,↓cR,↓cQ,cP]
     refine aJ hPa ?_
     simp[-C,-E,↓KW,aE,↓cJ,↓cK,↓cR,↓cQ,cP]
     refine aJ hPb ?_
     simp[-C,-E,↓KW,aE,w2,wnx,g1,g4,g5,↓cJ,↓cK,↓cR,↓cQ,cP]
     refine aJ hG ?_
     simp[-C,-E,↓KW,g1,g4,g5,aE,hgl,wgl,hgz,ey,a0,b0,aC,aA,aB,↓cJ,↓cK,↓cR,↓cQ,cP]
     rfl
 by_cases k4:kk=3
 ·have hF:=bQp (h.sz (by omega)) (by rw[zW];omega);rw[aLz h.v]at hF;have hfl:=aKe (h.sz (by omega));have hin:∀p∈jM c,(0<=p.1/\p.1<=302+2*(i:Int))/\0<=p.2/\p.2<=302+2*(i:Int):=λp hp=>by obtain⟨⟨y,hy,e1⟩,⟨z,hz,e2⟩⟩:=bLo h.v hp;have:=h.ids y hy;have:=h.ids z hz;omega
  obtain⟨fr,hfr⟩:∃fr,jM c=fr:=⟨_,rfl⟩;rw[hfr]at hF hfl hin;have g1:((1+kk==1):Bool)=false:=by simp;omega
  have g4:((1+kk==4):Bool)=true:=by simp;omega
  have wa:Ag.wrap a=a:=aV;by_cases hgo:0<fr.length/\b<240
  ·obtain⟨f0,b0⟩:=hgo;have fne:¬fr=[]:=λe=>by rw[e]at f0;exact Nat.lt_irrefl 0 f0
   have m1:=Dt a (b:=(fr.length:Int)) (by omega);have m2:=E9 a (b:=(fr.length:Int)) (by omega);obtain⟨j,j1,j2⟩:∃j:Nat,j<fr.length/\a.tmod (fr.length:Int)=(j:Int):=⟨(a%fr.length).toNat,by omega,by rw[DV ha.1];omega⟩;have j3:(j:Int)<fr.length:=by omega
   have hp:fr[j]? = some fr[j]:=Ab j1;have hpm:fr[j]∈fr:=Ar j1;refine exE fr[j] λp hpe=>?_
   rw[hpe]at hp hpm;have hpe':∀h:j<fr.length,fr[j]'h=p:=λ_=>hpe
   have wj:Ag.wrap (j:Int)=(j:Int):=aV;have ep:xA p=[.i .i64 p.1,.i .i64 p.2]:=rfl;obtain⟨q1,q2⟩:=hin p hpm;refine⟨⟨1+kk,⟨0,0,[]⟩,p.1,p.2,nx,nx+1⟩,Fg.zero (by omega) q1 q2 (by omega) (by omega),?_⟩;rcases hc with ⟨e0,hl1,wn,hn,hz,ez,wz,en⟩|⟨n,z,e0,hl1,wn,hn,hz,ez,wz,en⟩
   ·subst en;refine jS (N:=118) pY bN Ef rfl rfl rfl (by kernel_rfl) (by kernel_rfl) (by simp) ?_;unfold pY;simp[-C,-E,↓KW,aE,h0,hes,e0,hkk,wu,wi,wk1,↓cJ,↓cK,↓cR,↓cQ,cP];refine aJ hPa ?_;simp[-C,-E,↓KW,aE,↓cJ,↓cK,↓cR,↓cQ,cP];refine aJ hPb ?_;simp[-C,-E,↓KW,aE,w2,wnx,g1,g4,↓cJ,↓cK,↓cR,↓cQ,cP];refine aJ hF ?_;simp[-C,-E,↓KW,fR,g1,g4,f0,fne,b0,j1,j2,j3,hp,hpe',wj,wa,↓cJ,↓cK,↓cR,↓cQ,↓wJ,cP];refine aAu (StL [(4,.ptr 1 0),(6,.ptr 2 0)] none [.cells 43 [.d (.i .i64 0),.d (.i .i64 0),.d (.i .i64 0),.nil,.d (.i .i64 0),.d (.i .i64 0),.d (.i .i64 0),.d (.i .i64 0)],.cells 43 [.d (.i .i64 (1+kk)),.d (.i .i64 0),.d (.i .i64 0),.nil,.d (.i .i64 p.1),.d (.i .i64 p.2),.d (.i .i64 (1)),.d (.i .i64 (2))]]) _ _ rfl rfl ?_ ?_
    ·simp only[opsL,opL,mI,Cz,DA,B5,BY,B4,Cc,BP,BN];simp[-C,-E,↓KW,fR,f0,fne,b0,j1,j2,j3,hp,hpe',wj,wa,ep,↓dN,↓dO,↓dP,↓cV];refine .inr (wkQ [2,3] ?_ ?_)<;>simp[-C,upd,aO,Γ0,fR]
    ·simp[-C,-E,↓KW,ep];rfl
   ·subst en;refine jS (N:=118) pY bN Ef rfl rfl rfl (by kernel_rfl) (by kernel_rfl) (by simp) ?_;unfold pY;simp[-C,-E,↓KW,aE,h0,hl1,wn,hn,hz,ez,wz,aC,hes,e0,hkk,wu,wi,wk1,↓cJ,↓cK,↓cR,↓cQ,cP];refine aJ hPa ?_;simp[-C,-E,↓KW,aE,↓cJ,↓cK,↓cR,↓cQ,cP];refine aJ hPb ?_;simp[-C,-E,↓KW,aE,w2,wnx,g1,g4,↓cJ,↓cK,↓cR,↓cQ,cP];refine aJ hF ?_;simp[-C,-E,↓KW,fR,g1,g4,f0,fne,b0,j1,j2,j3,hp,hpe',wj,wa,↓cJ,↓cK,↓cR,↓cQ,↓wJ,cP];refine aAu (StL [(4,.ptr 1 0),(6,.ptr 2 0)] none [.cells 43 [.d (.i .i64 0),.d (.i .i64 0),.d (.i .i64 0),.nil,.d (.i .i64 0),.d (.i .i64 0),.d (.i .i64 0),.d (.i .i64 0)],.cells 43 [.d (.i .i64 (1+kk)),.d (.i .i64 0),.d (.i .i64 0),.nil,.d (.i .i64 p.1),.d (.i .i64 p.2),.d (.i .i64 (z.id+1)),.d (.i .i64 (z.id+1+1))]]) _ _ rfl rfl ?_ ?_
    ·simp only[opsL,opL,mI,Cz,DA,B5,BY,B4,Cc,BP,BN];simp[-C,-E,↓KW,fR,f0,fne,b0,j1,j2,j3,hp,hpe',wj,wa,ep,↓dN,↓dO,↓dP,↓cV];refine .inr (wkQ [2,3] ?_ ?_)<;>simp[-C,upd,aO,Γ0,fR]
    ·simp[-C,-E,↓KW,ep];rfl
  ·refine⟨⟨1+kk,⟨0,0,[]⟩,pa,pb,nx,nx+1⟩,Fg.zero (by omega) (by omega) (by omega) (by omega) (by omega),?_⟩;by_cases f0:0<fr.length
   ·have b0:¬b<240:=λe=>hgo ⟨f0,e⟩
    rcases hc with ⟨e0,hl1,wn,hn,hz,ez,wz,en⟩|⟨n,z,e0,hl1,wn,hn,hz,ez,wz,en⟩
    all_goals
     subst en
     refine jS (N:=118) pY bN Ef rfl rfl rfl (by kernel_rfl) (by kernel_rfl) (by simp) ?_
     unfold pY
     simp[-C,-E,↓KW,aE,h0,hl1,wn,hn,hz,ez,wz,aC,hes,e0,hkk,wu,wi,wk1,↓cJ,↓cK,↓cR,↓cQ,cP]
     refine aJ hPa ?_
     simp[-C,-E,↓KW,aE,↓cJ,↓cK,↓cR,↓cQ,cP]
     refine aJ hPb ?_
     simp[-C,-E,↓KW,aE,w2,wnx,g1,g4,↓cJ,↓cK,↓cR,↓cQ,cP]
     refine aJ hF ?_
     simp[-C,-E,↓KW,fR,g1,g4,f0,b0,↓cJ,↓cK,↓cR,↓cQ,↓wJ,cP]
     rfl
   ·have f1:fr=[]:=AE (by omega);subst f1;rcases hc with ⟨e0,hl1,wn,hn,hz,ez,wz,en⟩|⟨n,z,e0,hl1,wn,hn,hz,ez,wz,en⟩
    all_goals
     subst en
     refine jS (N:=118) pY bN Ef rfl rfl rfl (by kernel_rfl) (by kernel_rfl) (by simp) ?_
     unfold pY
     simp[-C,-E,↓KW,aE,h0,hl1,wn,hn,hz,ez,wz,aC,hes,e0,hkk,wu,wi,wk1,↓cJ,↓cK,↓cR,↓cQ,cP]
     refine aJ hPa ?_
     simp[-C,-E,↓KW,aE,↓cJ,↓cK,↓cR,↓cQ,cP]
     refine aJ hPb ?_
     simp[-C,-E,↓KW,aE,w2,wnx,g1,g4,↓cJ,↓cK,↓cR,↓cQ,cP]
     refine aJ hF ?_
     simp[-C,-E,↓KW,fR,g1,g4,↓cJ,↓cK,↓cR,↓cQ,↓wJ,cP]
     rfl
 by_cases k5:kk=4
 ·have g1:((1+kk==1):Bool)=false:=by simp;omega
  have g4:((1+kk==4):Bool)=false:=by simp;omega
  have g5:((1+kk==5):Bool)=true:=by simp;omega
  by_cases b0:240<=b
  ·refine⟨⟨1+kk,⟨0,0,[]⟩,pa,pb,nx,pb⟩,Fg.zero (by omega) (by omega) (by omega) (by omega) (by omega),?_⟩;rcases hc with ⟨e0,hl1,wn,hn,hz,ez,wz,en⟩|⟨n,z,e0,hl1,wn,hn,hz,ez,wz,en⟩
   all_goals
    subst en
    refine jS (N:=118) pY bN Ef rfl rfl rfl (by kernel_rfl) (by kernel_rfl) (by simp) ?_
    unfold pY
    simp[-C,-E,↓KW,aE,h0,hl1,wn,hn,hz,ez,wz,aC,hes,e0,hkk,wu,wi,wk1,↓cJ,↓cK,↓cR,↓cQ,cP]
    refine aJ hPa ?_
    simp[-C,-E,↓KW,aE,↓cJ,↓cK,↓cR,↓cQ,cP]
    refine aJ hPb ?_
    simp[-C,-E,↓KW,aE,w2,wnx,g1,g4,g5,b0,↓cJ,↓cK,↓cR,↓cQ,cP]
    rfl
  ·refine⟨⟨1+kk,⟨0,0,[]⟩,pa,pb,nx,nx+1⟩,Fg.zero (by omega) (by omega) (by omega) (by omega) (by omega),?_⟩;rcases hc with ⟨e0,hl1,wn,hn,hz,ez,wz,en⟩|⟨n,z,e0,hl1,wn,hn,hz,ez,wz,en⟩
   all_goals
    subst en
    refine jS (N:=118) pY bN Ef rfl rfl rfl (by kernel_rfl) (by kernel_rfl) (by simp) ?_
    unfold pY
    simp[-C,-E,↓KW,aE,h0,hl1,wn,hn,hz,ez,wz,aC,hes,e0,hkk,wu,wi,wk1,↓cJ,↓cK,↓cR,↓cQ,cP]
    refine aJ hPa ?_
    simp[-C,-E,↓KW,aE,↓cJ,↓cK,↓cR,↓cQ,cP]
    refine aJ hPb ?_
    simp[-C,-E,↓KW,aE,w2,wnx,g1,g4,g5,b0,↓cJ,↓cK,↓cR,↓cQ,cP]
    rfl
 ·refine⟨⟨1+kk,⟨0,0,[]⟩,pa,pb,nx,nx+1⟩,Fg.zero (by omega) (by omega) (by omega) (by omega) (by omega),?_⟩;have g1:((1+kk==1):Bool)=false:=by simp;omega
  have g4:((1+kk==4):Bool)=false:=by simp;omega
  have g5:((1+kk==5):Bool)=false:=by simp;omega
  rcases hc with ⟨e0,hl1,wn,hn,hz,ez,wz,en⟩|⟨n,z,e0,hl1,wn,hn,hz,ez,wz,en⟩
  all_goals
   subst en
   refine jS (N:=118) pY bN Ef rfl rfl rfl (by kernel_rfl) (by kernel_rfl) (by simp) ?_
   unfold pY
   simp[-C,-E,↓KW,aE,h0,hl1,wn,hn,hz,ez,wz,aC,hes,e0,hkk,wu,wi,wk1,↓cJ,↓cK,↓cR,↓cQ,cP]
   refine aJ hPa ?_
   simp[-C,-E,↓KW,aE,↓cJ,↓cK,↓cR,↓cQ,cP]
   refine aJ hPb ?_
   simp[-C,-E,↓KW,aE,w2,wnx,g1,g4,g5,↓cJ,↓cK,↓cR,↓cQ,cP]
   rfl
end Go.Am
end
section
open List renaming map_map->C,mapM_map->E
open Go Go.Am Go.Proofs
namespace Go.Am
open Go.ChangeShapes Go.WideShapes Go.ChangeAt Go.RowKit
def bFb:Aa.cellsOf 29=7:=by kernel_rfl
def cBv{α:Type}{l:List α}(h:l.length=7):∃a b c d e f g,l=[a,b,c,d,e,f,g]:=by
 match l,h with
 |[a,b,c,d,e,f,g],_=>exact⟨a,b,c,d,e,f,g,rfl⟩
section
variable {H:Type} {enc:TypeId×Value->H} {w:World} {sp:Nat->Bool} {held:Bool}
def cBb{cs:List Value}{x:DataW H×List MemPlace}{fuel:Nat}(h:DataW.trod enc Aa w 0 sp held fuel 29 cs=some x) :
  ∃y:Sx,y.ok/\cs.length=7/\(mK y).length=Aa.cellsOf 29/\∀(k:Nat) (c:D) (v:Value),(mK y)[k]? = some c->cs[k]? = some v->VD (λb=>b<w.heap.size) w c v:=by
 obtain⟨xs,n,_,_,hl,hlen,hfs⟩:=DataW.trod_struct Tryz.underlying29 h
 rw[bFb]at hl
 have h0:=hfs 0 { name := "K",type:=5,offset:=0,embedded:=false,tag := "",pkgPath := "",byteOffset:=0 } rfl
 have h1:=hfs 1 { name := "A",type:=5,offset:=1,embedded:=false,tag := "",pkgPath := "",byteOffset:=1 } rfl
 have h2:=hfs 2 { name := "B",type:=5,offset:=2,embedded:=false,tag := "",pkgPath := "",byteOffset:=2 } rfl
 have h3:=hfs 3 { name := "F",type:=27,offset:=3,embedded:=false,tag := "",pkgPath := "",byteOffset:=3 } rfl
 obtain⟨x0,hx0⟩:∃x,xs[0]? = some x:=⟨_,Ab (by rw[hlen];decide)⟩
 obtain⟨x1,hx1⟩:∃x,xs[1]? = some x:=⟨_,Ab (by rw[hlen];decide)⟩
 obtain⟨x2,hx2⟩:∃x,xs[2]? = some x:=⟨_,Ab (by rw[hlen];decide)⟩
 obtain⟨x3,hx3⟩:∃x,xs[3]? = some x:=⟨_,Ab (by rw[hlen];decide)⟩
 rw[hx0]at h0;rw[hx1]at h1;rw[hx2]at h2;rw[hx3]at h3
 obtain⟨a,b,c,d,e,f,g,rfl⟩:=cBv hl
 simp only[zU8,zA4,BY,B5,B4,Cc]at h0 h1 h2 h3
 obtain⟨i0,e0,_,w0⟩:=Dp Ek h0
 obtain⟨i1,e1,_,w1⟩:=Dp Ek h1
 obtain⟨i2,e2,_,w2⟩:=Dp Ek h2
 obtain⟨y,hy,_,hv⟩:=bVu h3
 injection e0 with e0;injection e1 with e1;injection e2 with e2
 subst e0;subst e1;subst e2
 refine⟨⟨i0,i1,i2,y⟩,⟨aLe w0,aLe w1,aLe w2,hy⟩,rfl,by rw[bFb];rfl,λk c v hk hv'=>?_⟩
 rcases k with _|_|_|k
 ·simp[mK]at hk hv';subst hk;subst hv';exact .i _ _
 ·simp[mK]at hk hv';subst hk;subst hv';exact .i _ _
 ·simp[mK]at hk hv';subst hk;subst hv';exact .i _ _
 ·refine hv k c v ?_ ?_
  ·exact hk
  ·exact hv'
def bQy{cs:List Value}{x:DataW H×List MemPlace}{fuel:Nat}(hf:DataW.trod enc Aa w 0 sp held fuel 25 cs=some x) :
  ∃(u:Value) (l:List Sx),cs=[u]/\VD (λb=>b<w.heap.size) w (.sl (l.map mK)) u/\(∀x∈l,x.ok)/\l.length<=9223372036854775807 :=
 aJg Tryz.underlying25 (by rw[bFb];decide) mK Sx.ok (λfuel cs x h=>by
  obtain⟨y,h1,_,h2,h3⟩:=cBb h;exact⟨y,h1,h2,h3⟩) hf
end
end Go.Am
end
section
open List renaming map_map->C,mapM_map->E
open Go Go.Am Go.Proofs
namespace Go.Am
def bVq:gQ Aa 49:=aEt Tryz.func49 (by kernel_rfl) rfl rfl rfl
def bPg{a b:Hi}(hs:a.s≠b.s):Spec Aa 24 [bZ a,bZ b] (h2D (a,320)):=by
 have hd:((a.s != b.s):Bool)=true:=by simpa using hs
 refine qP (N:=120) Tryz.func24 bVq ?_;simp[-C,-E,↓KW,↓cO,↓bR,↓cM,↓cN,bX,bL,aE,hd,cD,h2D]
def cDb(x y:List Cg):Prop:=x=[]\/y=[]\/∃x0 xs y0 ys,x=x0::xs/\y=y0::ys/\Spec Aa 52 [.ag (bP x0),.ag (bP y0)] (.b false)
structure MgH(s:Int)(c:List Cl)(p x y:List Cg)(pc:List Cl):Prop where
 cl:c.length<=1000
 cs:∀z∈c,SzC z
 ps:∀z∈p,SzC z.c
 xl:p.length+x.length<=2000
 yl:p.length+y.length<=2000
 stop:cDb x y
 okp:OkA c p
 snd:lG c p=(pc,0)
 okx:OkA pc (x++y)
 oky:OkA pc (y++x)
def aUb{s:Int}{c:List Cl}{p x y:List Cg}{pc o1 o2:List Cl}{e1 e2:Int}(h:MgH s c p x y pc)(h1:lG pc (x++y)=(o1,e1))(h2:lG pc (y++x)=(o2,e2))(hcase:e1≠0\/e1=0/\e2=0/\o1=o2/\o1.length<=1000/\∀z∈o1,SzC z) :
  Spec Aa 24 [bZ ⟨s,c,p++x⟩,bZ ⟨s,c,p++y⟩] (h2D (if e1=0 then(⟨s,c,p++x++y⟩,0)else(⟨s,c,p++x⟩,321))):=by
 have hxl:=h.xl
 have hyl:=h.yl
 have hd:((s != s):Bool)=false:=by simp
 have hE:=aSs h.cs (by have:=h.cl;omega)
 have hRp:=xX (c0:=c) (ls:=[p]) (by simpa using h.okp) (by simp) (by simp;omega)
 have hRx:=xX (c0:=pc) (ls:=[x,y]) (by simpa using h.okx) (by simp) (by simp;omega)
 have hRy:=xX (c0:=pc) (ls:=[y,x]) (by simpa using h.oky) (by simp) (by simp;omega)
 simp only[List.flatten_cons,List.flatten_nil,List.append_nil,h1,h2,h.snd]at hRp hRx hRy
 have hCc:=bAb (p++x) y (by simp;omega) (by omega)
 rw[aSv]at hCc
 have okA:=aQt (p++x)
 have okB:=aQt (p++y)
 have hAi:∀i,∀h:i<p.length,((p++x).map bP)[i]? = some (bP p[i]):=λi hi=>by rw[Aw,AJ hi,Ab hi];rfl
 have hBi:∀i,∀h:i<p.length,((p++y).map bP)[i]? = some (bP p[i]):=λi hi=>by rw[Aw,AJ hi,Ab hi];rfl
 have hAl:((p++x).map bP).length=p.length+x.length:=by simp
 have hBl:((p++y).map bP).length=p.length+y.length:=by simp
 have hAt:((p++x).map bP).take p.length=p.map bP:=by rw[<-BD,List.take_left]
 have hAd:((p++x).map bP).drop p.length=x.map bP:=by rw[<-Bv,List.drop_left]
 have hBd:((p++y).map bP).drop p.length=y.map bP:=by rw[<-Bv,List.drop_left]
 have hAe:∀x0 xs,x=x0::xs->((p++x).map bP)[p.length]? = some (bP x0):=λx0 xs e=>by subst e;simp
 have hBe:∀x0 xs,y=x0::xs->((p++y).map bP)[p.length]? = some (bP x0):=λx0 xs e=>by subst e;simp
 have hAf:((p++x).map bP).take (p.length+x.length)=(p++x).map bP:=Ai (by simp)
 have hBf:((p++y).map bP).take (p.length+y.length)=(p++y).map bP:=Ai (by simp)
 have ha:bZ ⟨s,c,p++x⟩=.ag [.i .i64 s,.sl (c.map aN),.sl ((p++x).map bP)]:=rfl
 have hb:bZ ⟨s,c,p++y⟩=.ag [.i .i64 s,.sl (c.map aN),.sl ((p++y).map bP)]:=rfl
 have hxy:bZ ⟨s,c,p++x++y⟩=.ag [.i .i64 s,.sl (c.map aN),.sl ((p++x++y).map bP)]:=rfl
 have hLg:bL (p++x++y)=.sl ((p++x++y).map bP):=rfl
 rw[hLg]at hCc
 obtain⟨A,hA⟩:∃A,(p++x).map bP=A:=⟨_,rfl⟩
 obtain⟨B,hB⟩:∃B,(p++y).map bP=B:=⟨_,rfl⟩
 obtain⟨AY,hAY⟩:∃B,(p++x++y).map bP=B:=⟨_,rfl⟩
 have hrd:∀r e,r2D (r,e)=.tp [.sl (r.map aN),.i .i64 e]:=λ_ _=>rfl
 simp only[pS,bL,aE,List.map_cons,List.map_nil,hrd]at hRp hRx hRy hE
 obtain⟨PC,hPC⟩:∃B,pc.map aN=B:=⟨_,rfl⟩
 obtain⟨O1,hO1⟩:∃B,o1.map aN=B:=⟨_,rfl⟩
 obtain⟨O2,hO2⟩:∃B,o2.map aN=B:=⟨_,rfl⟩
 rw[hPC]at hRp hRx hRy
 rw[hO1]at hRx
 rw[hO2]at hRy
 have hYLl:(y.map bP).length=y.length:=by simp
 have ql:¬(4000:Int)<p.length+x.length+y.length:=by omega
 have wl:Ag.wrap ((p.length:Int)+x.length+y.length)=(p.length:Int)+x.length+y.length:=aV
 have tn1:((p.length:Int)+x.length).toNat=p.length+x.length:=by omega
 have tn2:((p.length:Int)+y.length).toNat=p.length+y.length:=by omega
 have qp1:(p.length:Int)<=p.length+x.length:=by omega
 have qp2:(p.length:Int)<=p.length+y.length:=by omega
 rw[hA]at okA hAl hAt hAd hAf ha hCc
 rw[hB]at okB hBl hBd hBf hb
 simp only[hA]at hAi hAe
 simp only[hB]at hBi hBe
 rw[hAY]at hCc hxy
 obtain⟨XL,hXL⟩:∃B,x.map bP=B:=⟨_,rfl⟩
 obtain⟨YL,hYL⟩:∃B,y.map bP=B:=⟨_,rfl⟩
 obtain⟨PL,hPL⟩:∃B,p.map bP=B:=⟨_,rfl⟩
 obtain⟨CL,hCL⟩:∃B,c.map aN=B:=⟨_,rfl⟩
 rw[hXL]at hAd hRx hRy
 rw[hYL]at hBd hRx hRy hCc hYLl
 rw[hPL]at hAt hRp
 rw[hCL]at ha hb hxy hRp hE
 have hxy2:=hxy
 rw[List.append_assoc]at hxy2
 rw[ha,hb]
 clear hA hB
 refine qP (N:=120) Tryz.func24 bVq ?_
 simp[-C,-E,↓KW,↓cO,↓bR,↓cM,↓cN,hd,nJ,jY]
 refine aJ hE ?_
 simp[-C,-E,↓KW,↓cO,↓bR,↓cM,↓cN]
 refine aP (λi:Nat=>i<=p.length) (λi=>StL [(2,.ptr 1 0),(3,.ptr 2 0),(4,.ptr 3 0),(5,.d (.i .i64 0)),(6,.d (.i .i64 (i:Int)))] none [.cells 35 [.d (.i .i64 s),.d (.sl CL),.d (.sl A)],.cells 35 [.d (.i .i64 s),.d (.sl CL),.d (.sl B)],.cells 35 [.d (.i .i64 0),.nil,.nil]]) (λi=>p.length-i) 0 (Al _) ?_ ?_
 ·refine wkQ [1,2,3] ?_ ?_<;>simp[-C,upd,aO,Γ0]
 ·intro i hi
  by_cases hgo:i<p.length
  ·have q1:(i:Int)<p.length+x.length:=by omega
   have q2:(i:Int)<p.length+y.length:=by omega
   have hxa:=hAi i hgo
   have hxb:=hBi i hgo
   have hps:=h.ps _ (Ar hgo)
   have hw:Ag.wrap ((i:Int)+1)=(i:Int)+1:=aV
   refine exE p[i] λu hue=>?_
   rw[hue]at hxa hxb hps
   have hS:=aOq hps
   have huc:=dE u
   simp[-C,-E,↓KW,hAl,hBl,q1,q2,hxa,hxb,okA,okB,huc,aC,aA,aB]
   refine aJ hS ?_
   simp[-C,-E,↓KW,hw]
   refine aI (i+1) hgo (slQ hgo) (wkQ [1,2,3] ?_ ?_)<;>simp[-C,upd,aO,Γ0]
  ·have hip:i=p.length:=by omega
   subst hip
   cases hf1:oK (D.sl PC)with
   |_ =>
    cases hf2:oK (D.sl O1)with
    |_ =>
     rcases h.stop with ex|ey|⟨x0,xs,y0,ys,ex,ey,hS⟩
     have q1:¬(p.length:Int)<p.length+x.length:=by rw[ex];simp
     simp[-C,-E,↓KW,hAl,hBl,q1,okA,okB,hAt,qp1]
     rotate_left
     by_cases ex:x=[]
     have q1:¬(p.length:Int)<p.length+x.length:=by rw[ex];simp
     simp[-C,-E,↓KW,hAl,hBl,q1,okA,okB,hAt,qp1]
     rotate_left
     have hx1:0<x.length:=Dr.2 ex
     have q1:(p.length:Int)<p.length+x.length:=by omega
     have q2:¬(p.length:Int)<p.length+y.length:=by rw[ey];simp
     simp[-C,-E,↓KW,hAl,hBl,q1,q2,okA,okB,hAt,qp1]
     rotate_left
     have hx1:0<x.length:=by rw[ex];simp
     have hy1:0<y.length:=by rw[ey];simp
     have q1:(p.length:Int)<p.length+x.length:=by omega
     have q2:(p.length:Int)<p.length+y.length:=by omega
     have hxa:=hAe x0 xs ex
     have hxb:=hBe y0 ys ey
     have hu0:=dE x0
     have hu1:=dE y0
     clear ex ey
     simp[-C,-E,↓KW,hAl,hBl,q1,q2,hxa,hxb,okA,okB,hu0,hu1,aC,aA,aB]
     refine aJ hS ?_
     simp[-C,-E,↓KW,hAl,okA,hAt,qp1]
     all_goals
      refine aJ hRp ?_
      simp[-C,-E,↓KW,hf1,kill,tn1,tn2,hAl,hBl,hAd,hBd,hAf,hBf,okA,okB,qp1,qp2]
      refine aJ hRx ?_
      by_cases he:e1=0
      ·obtain⟨he2,hoo,hol,hos⟩:=hcase.resolve_left (λq=>q he) |>.2
       subst he;subst he2;subst hoo
       have hE2:=aSs hos (by omega)
       simp only[aE]at hE2
       rw[hO1]at hE2
       have hO2':O2=O1:=by rw[<-hO1,<-hO2]
       subst hO2'
       simp[-C,-E,↓KW,hf2,kill]
       refine aJ hRy ?_
       simp[-C,-E,↓KW,↓cO,↓bR,↓cM,↓cN,hf2,kill,nJ,jY]
       refine aJ hE2 ?_
       simp[-C,-E,↓KW,hf2,kill,hAl,hYLl,ql,wl]
       refine aJ hCc ?_
       cases hf4:oK (D.sl AY)<;>simp[-C,-E,↓KW,hf4,kill,cD,h2D,hxy,hxy2]
      ·have he':((e1 != 0):Bool)=true:=by simpa using he
       simp[-C,-E,↓KW,hf2,kill,he,he',cD,h2D,ha]
def aPu{h:Hi}{c:List Cl}(n:Int)(ho:OkH h)(hs:aHl h c)(hl:(h.l.length:Int)<=n)(hv:CxV h.c)(hz:SzX bV h.c):Spec Aa 20 [bZ h,.i .i64 n] (.b true):=by
 have hV:=bHu hv hz (by rw[zW];omega);have hA:=bHq (c0:=h.c) (l:=h.l) ho.ok ho.len;rw[hs]at hA;have hRD:r2D (c,0)=.tp [aE c,.i .i64 0]:=rfl;rw[hRD]at hA;have q1:¬h.s<0:=by have:=ho.s0;omega
 have q2:¬n<(h.l.length:Int):=by omega
 refine bF (N:=33) Tryz.func20 ?_;simp[-C,-E,↓KW,bX,bL,aE,q1,q2];refine aJ hV ?_;simp[-C,-E,↓KW,aE,bL];refine aJ hA ?_;simp[-C,-E,↓KW,aE]
def smF(f:Int×Int):Bool:=decide (0<=f.1)&&decide (f.1<=1000)&&decide (f.2.natAbs<=2)
def smL(x:Cl):Bool:=decide (x.b.length<=2)&&x.b.all smF&&decide (0<=x.id)&&decide (x.id<=1000)&&decide (0<=x.dim)&&decide (x.dim<=3)
def smC(c:List Cl):Bool:=decide (c.length<=5)&&c.all smL
def smG(x:Cg):Bool:=(decide (x.k=1)||decide (x.k=2)||decide (x.k=6))&&smL x.c&&decide (x.c.b.length<=1)&&x.c.b.all (λf=>!decide (f.2=0))&&decide (0<=x.a)&&decide (x.a<=1000)&&decide (0<=x.w0)&&decide (x.w0<=1000)&&decide (0<=x.w1)&&decide (x.w1<=1000)
def okB:List Cl->List Cg->Bool
 |_,[]=>true
 |c,x::l=>smC c&&smG x&&(!decide ((doX c x).2=0)||okB (doX c x).1 l)
def aUo{c:List Cl}(h:smC c=true):SzX bV c/\∀y∈c,Keys y.b/\SzC y:=by
 simp only[smC,AO,AI,Ay]at h;obtain⟨h1,h2⟩:=h;have hp:2<=2^bV:=An (by decide:2<=2^1) (yL (by decide));have hy:∀y∈c,y.b.length<=2/\∀f∈y.b,0<=f.1/\f.1<=1000/\f.2.natAbs<=2:=λy hy=>by have:=h2 y hy;simp only[smL,smF,AO,AI,Ay]at this;exact⟨this.1.1.1.1.1,λf hf=>⟨(this.1.1.1.1.2 f hf).1.1,(this.1.1.1.1.2 f hf).1.2,(this.1.1.1.1.2 f hf).2⟩⟩
 refine⟨⟨by omega,λy h=>by have:=(hy y h).1;omega,λy h f hf=>An ((hy y h).2 f hf).2.2 hp⟩,λy h=>⟨λf hf=>by have:=(hy y h).2 f hf;simp only[inr,AI];omega,by have:=(hy y h).1;omega,λf hf=>szE (e:=1) ((hy y h).2 f hf).2.2 (by decide)⟩⟩
def aLs{x:Cg}(h:smG x=true):Val x.c.b/\x.c.b.length<=1:=by
 simp only[smG,AO,AI,Ay,Co,CP]at h;have h1:x.c.b.length<=1:=h.1.1.1.1.1.1.1.2;refine⟨⟨?_,h.1.1.1.1.1.1.2⟩,h1⟩;match x.c.b,h1 with
 |[],_=>exact .nil
 |[f],_=>exact List.pairwise_singleton _ _
 |_::_::_,h1=>simp at h1
def aLt{x:Cg}(h:smG x=true):SzC x.c:=by have hl:=(aLs h).2;simp only[smG,smL,smF,AO,AI,Ay,Co,CP]at h;exact⟨by omega,λf hf=>szE (e:=1) (h.1.1.1.1.1.1.1.1.2.1.1.1.1.2 f hf).2 (by decide)⟩
def bGg{c:List Cl}{x:Cg}(hv:CxV c)(h1:smC c=true)(h2:smG x=true):Ok2 c x:=by obtain⟨z1,z2⟩:=aUo h1;have hv2:=aLs h2;have hp:2<=2^bV:=An (by decide:2<=2^1) (yL (by decide));simp only[smG,smL,smF,AO,AI,Ay,Co,CP]at h2;obtain⟨⟨⟨⟨⟨⟨⟨⟨⟨g0,g1⟩,g2⟩,g3⟩,g4⟩,g5⟩,g6⟩,g7⟩,g8⟩,g9⟩:=h2;obtain⟨⟨⟨⟨⟨f1,f2⟩,f3⟩,f4⟩,f5⟩,f6⟩:=g1;exact⟨hv,z1,λy hy=>(z2 y hy).1,hv2.1,by omega,λf hf=>An (f2 f hf).2 hp,by omega,by simp only[inr,AI];omega,by simp only[inr,AI];omega,by simp only[inr,AI];omega⟩
def bVn{c:List Cl}{x:Cg}(hv:CxV c)(h2:smG x=true)(h0:(doX c x).2=0):CxV (doX c x).1:=by
 have hv2:=aLs h2;have hk:x.k=1\/x.k=2\/x.k=6:=by simp only[smG,AO,CG,AI]at h2;omega
 unfold doX at h0 ⊢;rcases hk with e|e|e
 ·rw[Ad e]at h0 ⊢;rcases aKb hv hv2.1 with ⟨n,hn,q⟩|⟨q1,_,q⟩
  ·rw[q]at h0;exact(hn h0).elim
  ·rw[q];exact q1
 ·rw[Ac (by omega),Ad e]at h0 ⊢;rcases aIw hv x.a with ⟨n,hn,q⟩|⟨q1,q⟩
  ·rw[q]at h0;exact(hn h0).elim
  ·rw[q];exact q1
 ·rw[Ac (by omega),Ac (by omega),Ac (by omega),Ac (by omega),Ac (by omega)]at h0;exact absurd h0 (by decide)
def pH:∀{l:List Cg} {c:List Cl},CxV c->okB c l=true->OkA c l/\(∀x∈l.take 1,SzC x.c)/\((lG c l).2=0->CxV (lG c l).1)
 |[],c,hv,_=>⟨trivial,(λ_ h=>by cases h),λ_=>hv⟩
 |x::l,c,hv,h=>by
  simp only[okB,AO,CG,Co,CP]at h;obtain⟨⟨h1,h2⟩,h3⟩:=h;refine⟨⟨bGg hv h1 h2,λh0=>?_⟩,λy hy=>?_,λh0=>?_⟩
  ·exact(pH (bVn hv h2 h0) (h3.resolve_left (λq=>q h0))).1
  ·simp at hy;subst hy;exact aLt h2
  ·by_cases k:(doX c x).2=0
   ·rw[oW _ k]at h0 ⊢;exact(pH (bVn hv h2 k) (h3.resolve_left (λq=>q k))).2.2 h0
   ·rw[zY _ k]at h0;exact(k h0).elim
def gN:CxV []:=⟨.nil,(λ_ h=>by cases h),(λ_ h=>by cases h),(λ_ h=>by cases h),(λ_ h=>by cases h)⟩
inductive Hc(c0:List Cl):List Cg->Nat->Nat->List Cl->Prop
 |nil (M:Nat) (h:Hs 0 M 0 c0):Hc c0 [] M 0 c0
 |snoc (l:List Cg) (M d:Nat) (c:List Cl) (x:Cg) (M' d':Nat) (h:Hc c0 l M d c) (hl:l.length<=10) (f:Fg l.length M (cB c 2).length d x) (h0:(doX c x).2=0) (h':Hs (l.length+1) M' d' (doX c x).1):Hc c0 (l++[x]) M' d' (doX c x).1
def Hc.hs{c0 c:List Cl}{l:List Cg}{M d:Nat}(h:Hc c0 l M d c):Hs l.length M d c:=by
 cases h with
 |nil M h=>exact h
 |snoc l M d c x M' d' h hl f h0 h'=>rw[Ak,As];exact h'
def Hc.len{c0 c:List Cl}{l:List Cg}{M d:Nat}(h:Hc c0 l M d c):l.length<=11:=by
 cases h with
 |nil M h=>exact Al _
 |snoc l M d c x M' d' h hl f h0 h'=>rw[Ak,As];omega
def Hs.ok2{i M d:Nat}{c:List Cl}{x:Cg}(h:Hs i M d c)(hi:i<=10)(f:Fg i M (cB c 2).length d x):Ok2 c x :=
 have hk:∀z:Int,0<=z/\z<=302+2*(i:Int)->inr z=true:=λz hz=>by simp only[inr,AI];omega
 ⟨h.v,h.sz (by omega),h.keys (by omega),f.val,by have:=f.bl;omega,f.sz h hi,by have:=f.dim;omega,hk _ f.a,hk _ f.w0,hk _ f.w1⟩
def Fg.szc{i M d:Nat}{c:List Cl}{x:Cg}(h:Hs i M d c)(hi:i<=10)(f:Fg i M (cB c 2).length d x):SzC x.c :=
 ⟨by have:=f.bl;omega,λg hg=>szE (e:=bV) (f.sz h hi g hg) (by rw[zW];omega)⟩
def Hs.szc{i M d:Nat}{c:List Cl}(h:Hs i M d c)(hi:i<=11):∀z∈c,SzC z:=λz hz =>
 ⟨(h.sz hi).bl z hz,λg hg=>szE (e:=bV) ((h.sz hi).bb z hz g hg) (by rw[zW];omega)⟩
def Hc.snd{c0 c:List Cl}{l:List Cg}{M d:Nat}(h:Hc c0 l M d c):lG c0 l=(c,0):=by
 induction h with
 |nil M h=>rfl
 |snoc l M d c x M' d' h hl f h0 h' ih =>
  rw[aBs _ (by rw[ih]),ih];simp only;rw[oW _ h0];rfl
def OkA.app{c:List Cl}{a b:List Cg}(h:OkA c a)(h2:(lG c a).2=0->OkA (lG c a).1 b):OkA c (a++b):=by
 induction a generalizing c with
 |nil=>exact h2 rfl
 |cons x a ih =>
  refine⟨h.1,λh0=>ih (h.2 h0) λk=>?_⟩;rw[oW _ h0]at h2;exact h2 k
def Hc.ok{c0 c:List Cl}{l:List Cg}{M d:Nat}(h:Hc c0 l M d c):OkA c0 l:=by
 induction h with
 |nil M h=>trivial
 |snoc l M d c x M' d' h hl f h0 h' ih =>
  refine ih.app λ_=>?_
  rw[h.snd];exact⟨h.hs.ok2 hl f,λ_=>trivial⟩
def Hc.base{c0 c:List Cl}{l:List Cg}{M d:Nat}(h:Hc c0 l M d c):∃M,Hs 0 M 0 c0:=by
 induction h with
 |nil M h=>exact⟨M,h⟩
 |snoc l M d c x M' d' h hl f h0 h' ih=>exact ih
def Hc.take{c0 c:List Cl}{l:List Cg}{M d:Nat}(h:Hc c0 l M d c):∀n,∃M' d' c',Hc c0 (l.take n) M' d' c':=by
 induction h with
 |nil M h=>intro n;rw[List.take_nil];exact⟨M,0,c0,.nil M h⟩
 |snoc l M d c x M' d' h hl f h0 h' ih =>
  intro n;by_cases k:n<=l.length
  ·rw[FI k];exact ih n
  ·rw[Ai (by simp;omega)];exact⟨M',d',_,.snoc l M d c x M' d' h hl f h0 h'⟩
def Hc.szl{c0 c:List Cl}{l:List Cg}{M d:Nat}(h:Hc c0 l M d c):∀x∈l,SzC x.c:=by
 induction h with
 |nil M h=>intro x hx;cases hx
 |snoc l M d c x M' d' h hl f h0 h' ih =>
  intro y hy;rcases A5.1 hy with hy|hy
  ·exact ih y hy
  ·rw[AT.1 hy];exact f.szc h.hs hl
structure HP(h:Hi)(c:List Cl):Prop where
 s:h.s=0
 ch:∃M d,Hc h.c h.l M d c
def HP.okh{h:Hi}{c:List Cl}(p:HP h c):OkH h:=by obtain⟨M,d,q⟩:=p.ch;have:=q.len;exact⟨by rw[p.s];exact Int.le_refl 0,by rw[p.s];decide,by omega,q.ok⟩
def HP.snd{h:Hi}{c:List Cl}(p:HP h c):aHl h c:=by obtain⟨M,d,q⟩:=p.ch;exact q.snd
def HP.len{h:Hi}{c:List Cl}(p:HP h c):h.l.length<=11:=by obtain⟨M,d,q⟩:=p.ch;exact q.len
def HP.szh{h:Hi}{c:List Cl}(p:HP h c):SzH h:=by obtain⟨M,d,q⟩:=p.ch;obtain⟨M0,b⟩:=q.base;have:=b.len;exact⟨by omega,b.szc (by omega),by have:=q.len;omega,q.szl⟩
def HP.take{h:Hi}{c:List Cl}(p:HP h c)(n:Nat):∃c',HP ⟨h.s,h.c,h.l.take n⟩ c':=by obtain⟨M,d,q⟩:=p.ch;obtain⟨M',d',c',q'⟩:=q.take n;exact⟨c',p.s,M',d',q'⟩
def HP.made{h:Hi}{c:List Cl}(p:HP h c)(hl:h.l.length<=10)(s:Sx)(hs:s.ok):∃x,Spec Aa 9 [aE c,.ag (mK s)] (.ag (bP x))/\Ok2 c x/\∃c',HP (lU h c x).1 c'/\((lU h c x).2=0->c'=(doX c x).1)/\((lU h c x).2≠0->(lU h c x).1=h):=by
 obtain⟨M,d,q⟩:=p.ch;obtain⟨x,f,hS⟩:=bQo q.hs hl s hs;refine⟨x,hS,q.hs.ok2 hl f,?_⟩;unfold lU;by_cases h0:(doX c x).2=0
 ·obtain⟨M',d',hs'⟩:=q.hs.step hl f h0;rw[Ad h0];exact⟨_,⟨p.s,M',d',.snoc _ M d c x M' d' q hl f h0 hs'⟩,λ_=>rfl,λk=>(k rfl).elim⟩
 ·rw[Ac h0];exact⟨c,p,λk=>(h0 k).elim,λ_=>rfl⟩
def aTj{h:Hi}{c:List Cl}{x:Cg}:(lU h c x).1.l.length<=h.l.length+1:=by
 unfold lU;split
 ·simp
 ·simp
inductive aIi:List Sx->Hi->List Cl->Hi->List Cl->Prop
 |nil (h:Hi) (c:List Cl):aIi [] h c h c
 |cons (s:Sx) (l:List Sx) (h:Hi) (c:List Cl) (x:Cg) (h1:Hi) (c1:List Cl) (h2:Hi) (c2:List Cl) (hm:Spec Aa 9 [aE c,.ag (mK s)] (.ag (bP x))) (ok:Ok2 c x) (ha:(lU h c x).1=h1) (p1:HP h1 c1) (hr:aIi l h1 c1 h2 c2):aIi (s::l) h c h2 c2
def bWa:∀(l:List Sx) (h:Hi) (c:List Cl),HP h c->h.l.length+l.length<=10->(∀s∈l,s.ok)->∃h2 c2,aIi l h c h2 c2/\HP h2 c2/\h2.l.length<=h.l.length+l.length
 |[],h,c,p,_,_=>⟨h,c,.nil h c,p,Ap _⟩
 |s::l,h,c,p,hl,hs=>by
  simp only[List.length_cons]at hl ⊢;obtain⟨x,hm,ok,c1,p1,_,_⟩:=p.made (by omega) s (hs s (List.mem_cons_self ..));have hn:=aTj (h:=h) (c:=c) (x:=x);obtain⟨h2,c2,hr,p2,hl2⟩:=bWa l _ c1 p1 (by omega) λt ht=>hs t (List.mem_cons_of_mem _ ht)
  exact⟨h2,c2,.cons s l h c x _ c1 h2 c2 hm ok rfl p1 hr,p2,by omega⟩
def aIi.next{s:Sx}{l:List Sx}{h h2:Hi}{c c2:List Cl}(hr:aIi (s::l) h c h2 c2):∃x h1 c1,Spec Aa 9 [aE c,.ag (mK s)] (.ag (bP x))/\Ok2 c x/\(lU h c x).1=h1/\HP h1 c1/\aIi l h1 c1 h2 c2:=by cases hr with|cons _ _ _ _ x h1 c1 _ _ hm ok ha p1 hr=>exact⟨x,h1,c1,hm,ok,ha,p1,hr⟩
def aIi.fin{h h2:Hi}{c c2:List Cl}(hr:aIi [] h c h2 c2):h2=h/\c2=c:=by cases hr;exact⟨rfl,rfl⟩
def aGl(s:Int)(l:List Q4):List D:=[.i .u8 s,.sl (l.map qW)]
def cEg(l:List Sx):fB 7 (l.map mK)=true:=by cases l<;>simp[fB,mK]
def cEh(l:List Q4):fB 4 (l.map qW)=true:=by cases l<;>simp[fB,qW]
def aUy(s:Int)(l:List Q4)(st:List Sx)(hs:0<=s/\s<=255)(hq:∀q∈l,q.ok)(hl:l.length<=9223372036854775807)(hst:∀x∈st,x.ok)(hsl:st.length<=9223372036854775807):∃h c,HP h c/\h.l.length<=10/\Spec Aa 8 [.ag (aGl s l),.sl (st.map mK)] (bZ h):=by
 obtain⟨c0,hM,hb⟩:=cCy s (l.take 1) hs (λq h=>hq q (List.take_subset _ _ h)) (by simp;omega);obtain⟨M0,b0⟩:=hb.hs;have p0:HP ⟨0,c0,[]⟩ c0:=⟨rfl,M0,0,.nil M0 b0⟩;obtain⟨hf,cf,hr,pf,hfl⟩:=bWa (st.take 10) ⟨0,c0,[]⟩ c0 p0 (by simp;omega) λx h=>hst x (List.take_subset _ _ h)
 refine⟨hf,cf,pf,by simp at hfl;omega,?_⟩;obtain⟨k,hk⟩:∃k,min l.length 1=k:=⟨_,rfl⟩;have hm1:(if(1:Int)<l.length then 1 else(l.length:Int))=(k:Int):=by split<;>omega
 have hm2:k<=l.length:=by omega
 have hok:=cEh l;have hM':Spec Aa 27 [.ag [.i .u8 s,.sl ((l.map qW).take (min l.length 1))]] (aE c0):=by
  have e:(l.map qW).take (min l.length 1)=(l.take 1).map qW:=by
   rw[<-BD];congr 1;rcases Cb l.length with h|h
   ·rw[AE h];rfl
   ·rw[Nat.min_eq_right h]
  rw[e];exact hM
 rw[hk]at hM';refine bF (N:=41) Tryz.func8 ?_;simp[-C,-E,↓KW,aGl,hm1,hm2,hok];refine aJ hM' ?_;simp[-C,-E,↓KW,aE];refine aP (λy:Nat×Hi×List Cl=>y.1<=(st.take 10).length/\HP y.2.1 y.2.2/\y.2.1.l.length<=y.1/\aIi ((st.take 10).drop y.1) y.2.1 y.2.2 hf cf) (λy=>StL [(1,.d (.sl (st.map mK))),(4,.ptr 1 0),(5,.ptr 2 0),(6,.d (.i .i64 (y.1:Int)))] none [.cells 35 [.d (.i .i64 0),.nil,.nil],.cells 35 [.d (.i .i64 y.2.1.s),.d (aE y.2.1.c),.d (bL y.2.1.l)]]) (λy=>(st.take 10).length-y.1) (0,⟨0,c0,[]⟩,c0) ⟨Al _,p0,Al _,hr⟩ ?_ ?_
 ·refine wkQ [2,3] ?_ ?_<;>simp[-C,upd,aO,Γ0,aE,bL,vI,aOy]
 ·rintro⟨i,h,c⟩ ⟨hi,p,hli,hr⟩;simp only at hi p hr hli ⊢;by_cases hgo:i<(st.take 10).length
  ·have hgo':i<st.length/\i<10:=by simp at hgo;omega
   have q1:(i:Int)<st.length:=by omega
   have q2:(i:Int)<10:=by omega
   have hx:st[i]? = some st[i]:=Ab hgo'.1;have hw:Ag.wrap ((i:Int)+1)=(i:Int)+1:=aV;rw[List.drop_eq_getElem_cons hgo,List.getElem_take]at hr;refine exE st[i] λz hze=>?_
   rw[hze]at hx hr;obtain⟨x,h1,c1,hm,ok,ha,p1,hr1⟩:=hr.next;have hN:=aUx p.okh p.snd;have hA:=bBv p.okh p.snd (by omega) ok;have hn:=aTj (h:=h) (c:=c) (x:=x);obtain⟨e,he⟩:∃e,(lU h c x).2=e:=⟨_,rfl⟩;rw[ha]at hn;have hAD:h2D (lU h c x)=.tp [.ag [.i .i64 h1.s,aE h1.c,bL h1.l],.i .i64 e]:=by rw[<-ha,<-he];rfl
   rw[hAD]at hA;have hes:mK z=[.i .u8 z.k,.i .u8 z.a,.i .u8 z.b,.i .i8 z.q.1,.i .i8 z.q.2.1,.i .i8 z.q.2.2.1,.i .i8 z.q.2.2.2]:=rfl;have hxc:=dE x;simp[-C,-E,↓KW,q1,q2,aE,bL];refine aJ hN ?_;simp[-C,-E,↓KW,q1,q2,aE,bL,hx,hes,cEg];refine aJ hm ?_;simp[-C,-E,↓KW,aE,bL,hxc,aC,aA,aB];refine aJ hA ?_;simp[-C,-E,↓KW,aE,bL,hw];refine aI (τ:=Nat×Hi×List Cl) (i+1,h1,c1) ⟨hgo,p1,by simp only;omega,hr1⟩ (slQ hgo) (wkQ [1,2] ?_ ?_)<;>simp[-C,upd,aO,Γ0,aE,bL]
  ·rw[List.drop_of_length_le (by omega)]at hr;obtain⟨e1,e2⟩:=hr.fin;subst e1;have hgo':¬i<st.length\/¬i<10:=by simp at hgo;omega
   by_cases q1:(i:Int)<st.length
   ·have q2:¬(i:Int)<10:=by omega
    simp[-C,-E,↓KW,q1,q2,aE,bL,rD,bX]
   ·simp[-C,-E,↓KW,q1,aE,bL,rD,bX]
structure cAc(p:List Cl)(g:Int):Prop where
 len:p.length<=100
 sz:∀z∈p,SzC z
 ok:g=0->CxV p/\SzX bV p
def HP.verP{h:Hi}{c:List Cl}(p:HP h c):cAc c 0:=by obtain⟨M,d,q⟩:=p.ch;have:=q.len;have z:=q.hs.sz (by omega);exact⟨z.len,q.hs.szc (by omega),λ_=>⟨q.hs.v,z⟩⟩
def HP.at{h:Hi}{c:List Cl}(p:HP h c)(n:Int):cAc (atV h n).1 (atV h n).2:=by
 unfold atV;split
 ·obtain⟨c',p'⟩:=p.take (n-h.s).toNat;have:=p'.snd;unfold aHl at this;simp only at this;rw[this];exact p'.verP
 ·exact⟨by simp,(λ_ h=>by cases h),λh=>absurd h (by decide)⟩
def bUx{h:Hi}{c:List Cl}{x:Cg}{n:Int}(hn:n<=jK h):atV (lU h c x).1 n=atV h n:=by
 unfold lU;split
 ·unfold atV mF;unfold jK at hn;simp only;by_cases k:h.s<=n
  ·have k2:n-h.s<=(h.l.length:Int):=by omega
   have k3:n-h.s<=((h.l++[x]).length:Int):=by simp;omega
   rw[Bx k,Bx k2,Bx k3];simp only[Bool.and_self,if_true];rw[FI (by omega)]
  ·rw[Bo k];simp
 ·rfl
def bYl{h:Hi}{c:List Cl}(p:HP h c):0<=jK h/\jK h<=11:=by unfold jK;have:=p.len;rw[p.s];omega
def OkA.drop{c:List Cl}{a b:List Cg}(h:OkA c (a++b))(h0:(lG c a).2=0):OkA (lG c a).1 b:=by
 induction a generalizing c with
 |nil=>exact h
 |cons x a ih =>
  by_cases k:(doX c x).2=0
  ·rw[oW _ k]at h0 ⊢;exact ih (h.2 k) h0
  ·rw[zY _ k]at h0;exact(k h0).elim
def HP.sound{h:Hi}{c:List Cl}(p:HP h c)(n:Int)(hn:(h.l.length:Int)<=n):Spec Aa 20 [bZ h,.i .i64 n] (.b true):=by obtain⟨M,d,q⟩:=p.ch;obtain⟨M0,b⟩:=q.base;exact aPu n p.okh p.snd hn b.v (b.sz (by omega))
def HP.last{h:Hi}{c:List Cl}(p:HP h c)(h0:h.l≠[]):∃l y cd,h.l=l++[y]/\HP ⟨h.s,h.c,l⟩ cd/\Ok2 cd y/\lU ⟨h.s,h.c,l⟩ cd y=(h,0):=by
 obtain⟨hs,hc,hl⟩:=h;obtain⟨M,d,q⟩:=p.ch;simp only at q h0 ⊢;cases q with
 |nil M h=>exact(h0 rfl).elim
 |snoc l M d c x M' d' h hl f hd h' =>
  refine⟨l,x,c,rfl,⟨p.s,M,d,h⟩,h.hs.ok2 hl f,?_⟩;unfold lU;rw[Ad hd]
structure CpP(h:Hi)(c:List Cl)(n:Int)(b:Hi)(c':List Cl):Prop where
 ok:OkH b
 sz:SzH b
 snd:aHl b c
 cp:cpH h n=(b,0)
 n0:h.s<=n
 n1:n<=jK h
 low:∀i,i<n->atV b i=([],320)
 up:∀i,n<=i->i<=jK h->∃p,atV b i=(p,0)/\atV h i=(p,0)/\cAc p 0
 next:∀x,SzC x.c->(doX c x).2=0->cpH ⟨h.s,h.c,h.l++[x]⟩ n=(⟨b.s,b.c,b.l++[x]⟩,0)/\jK ⟨b.s,b.c,b.l++[x]⟩=jK h+1/\SzH ⟨b.s,b.c,b.l++[x]⟩
def HP.ver{h:Hi}{c:List Cl}(p:HP h c)(n:Int):(mF h n=true/\∃c',HP ⟨h.s,h.c,h.l.take (n-h.s).toNat⟩ c'/\atV h n=(c',0))\/(mF h n=false/\atV h n=([],320)):=by
 unfold atV;cases e:mF h n with
 |true =>
  obtain⟨c',p'⟩:=p.take (n-h.s).toNat;have:=p'.snd;unfold aHl at this;exact .inl ⟨rfl,c',p',by rw[Ad rfl];exact this⟩
 |false=>exact .inr ⟨rfl,by simp⟩
def HP.comp{h:Hi}{c:List Cl}(p:HP h c)(n:Int)(hn:-1000000<=n/\n<=1000000):cpH h n=(h,320)\/∃b c',CpP h c n b c':=by
 rcases p.ver n with ⟨hx,c',p',ha⟩|⟨_,ha⟩
 rotate_left
 ·left;unfold cpH;rw[ha];simp
 right;have hb:h.s<=n/\n-h.s<=h.l.length:=by simpa[mF]using hx
 obtain⟨k,hk⟩:∃k,(n-h.s).toNat=k:=⟨_,rfl⟩;rw[hk]at p';have hkn:n-h.s=(k:Int):=by omega
 have hkl:k<=h.l.length:=by omega
 have hs0:=p.s;have hs:=p'.snd;unfold aHl at hs;simp only at hs;have hsn:=p.snd;unfold aHl at hsn;have ho:=p.okh.ok;have hl:=p.len;rw[<-List.take_append_drop k h.l]at hsn ho;rw[aBs _ (by rw[hs]),hs]at hsn;have hd:=ho.drop (by rw[hs]);rw[hs]at hd;have hcp:cpH h n=(⟨n,c',h.l.drop k⟩,0):=by unfold cpH;rw[ha,hk];simp
 have v:=p'.verP;have hll:(h.l.drop k).length=h.l.length-k:=by simp
 have hzl:∀x∈h.l.drop k,SzC x.c:=λx hx=>p.szh.l x (List.mem_of_mem_drop hx)
 refine⟨⟨n,c',h.l.drop k⟩,c',⟨by show 0<=n;omega,by show n<=1000000;omega,by simp only;omega,hd⟩,⟨v.len,v.sz,by simp only;omega,hzl⟩,hsn,hcp,hb.1,by unfold jK;omega,λi hi=>?_,λi h1 h2=>?_,λx hz h0=>?_⟩
 ·unfold atV mF;simp only;rw[Bo (by omega)];simp
 ·have hx1:mF h i=true:=by unfold mF;unfold jK at h2;simp;omega
  have hx2:mF ⟨n,c',h.l.drop k⟩ i=true:=by unfold mF;unfold jK at h2;simp;omega
  rcases p.ver i with ⟨_,c2,p2,ha2⟩|⟨hf,_⟩
  ·refine⟨c2,?_,ha2,p2.verP⟩;rw[<-ha2];unfold atV;rw[hx1,hx2,Ad rfl,Ad rfl];simp only;obtain⟨d,hd⟩:∃d,(i-n).toNat=d:=⟨_,rfl⟩;have e:(i-h.s).toNat=k+d:=by omega
   rw[e,hd,List.take_add,aBs _ (by rw[hs]),hs]
  ·rw[hx1]at hf;cases hf
 ·refine⟨?_,?_,⟨v.len,v.sz,by simp only[Ak,As];omega,λy hy=>?_⟩⟩
  ·have e:lU h c x=(⟨h.s,h.c,h.l++[x]⟩,0):=by unfold lU;rw[Ad h0]
   have ha2:=bUx (h:=h) (c:=c) (x:=x) (n:=n) (by unfold jK;omega);rw[e]at ha2;unfold cpH;rw[ha2,ha];simp only[if_true,hk];rw[List.drop_append_of_le_length hkl]
  ·unfold jK;simp only[Ak,As];omega
  ·rcases A5.1 hy with hy|hy
   ·exact hzl y hy
   ·rw[AT.1 hy];exact hz
def Ok2.szc{c:List Cl}{x:Cg}(h:Ok2 c x):SzC x.c:=⟨h.bl,λf hf=>szE (e:=bV) (h.bnd f hf) (by rw[zW];omega)⟩
def bZz{h b:Hi}{c:List Cl}{x:Cg}:(lU h c x).2=(lU b c x).2:=by unfold lU;split<;>rfl
def bNq{h:Hi}{c:List Cl}{x:Cg}(h0:(lU h c x).2=0):(doX c x).2=0/\(lU h c x).1=⟨h.s,h.c,h.l++[x]⟩:=by
 unfold lU at h0 ⊢;split at h0
 ·rename_i k;rw[Ad k];exact⟨k,rfl⟩
 ·rename_i k;exact(k h0).elim
def bFp(w:Int):0<=BO.wrap w/\BO.wrap w<=255:=by rw[tO];omega
def cBx(s:Int)(l:List Q4)(st:List Sx)(w0 w1:Int)(hs:0<=s/\s<=255)(hq:∀q∈l,q.ok)(hl:l.length<=9223372036854775807)(hst:∀x∈st,x.ok)(hsl:st.length<=9223372036854775807)(hw0:-128<=w0/\w0<=127)(hw1:-128<=w1/\w1<=127)(hS:Spec Aa 7 [] (.b true)) :
  Spec Aa 5 [.ag (aGl s l),.sl (st.map mK),.ag [.i .i8 w0,.i .i8 w1]] (.b true):=by
 obtain⟨h,c,p,hl10,hH⟩:=aUy s l st hs hq hl hst hsl
 obtain⟨n,hn⟩:∃n,w0.tmod 12=n:=⟨_,rfl⟩
 have hnb:-12<n/\n<12:=by have h1:=Ex w0 (b:=12) (by decide);have h2:=Ex (-w0) (b:=12) (by decide);rw[Int.neg_tmod]at h2;omega
 have wn8:IntKind.i8.wrap n=n:=by simp[IntKind.wrap,IntKind.signed,IntKind.bits];omega
 have wn:Ag.wrap n=n:=aV
 have wn1:Ag.wrap (n-1)=n-1:=aV
 obtain⟨z,hzd⟩:∃z:Sx,z=⟨BO.wrap w1,BO.wrap w1,BO.wrap w0,(0,0,0,0)⟩:=⟨_,rfl⟩
 have hz:z.ok:=by rw[hzd];exact⟨bFp w1,bFp w1,bFp w0,by show -128<=(0:Int)/\(0:Int)<=127;decide,by show -128<=(0:Int)/\(0:Int)<=127;decide,by show -128<=(0:Int)/\(0:Int)<=127;decide,by show -128<=(0:Int)/\(0:Int)<=127;decide⟩
 have hes:mK z=[.i .u8 (BO.wrap w1),.i .u8 (BO.wrap w1),.i .u8 (BO.wrap w0),.i .i8 0,.i .i8 0,.i .i8 0,.i .i8 0]:=by rw[hzd];rfl
 obtain⟨x,hm,ok,c1,p1,_,_⟩:=p.made hl10 z hz
 have hC:=aEf n p.okh (by omega)
 have hR:=aUz n p.okh (by omega)
 have hL2:=aAv h ⟨p.okh.s0,p.okh.s1⟩ p.okh.len
 have hlh:=bYl p
 rcases p.comp n (by omega)with hcp|⟨b,c',B⟩
 ·have hSH:=lY p.szh
  have hD:h2D (h,320)=.tp [bZ h,.i .i64 320]:=rfl
  rw[hcp,hD]at hC hR
  refine bF (N:=168) Tryz.func5 ?_
  simp[-C,-E,↓KW,aGl]
  refine aJ hS ?_
  simp[-C,-E,↓KW,aGl]
  refine aJ hH ?_
  simp[-C,-E,↓KW,bX,bL,aE,hn,wn8,wn]
  refine aJ hC ?_
  simp[-C,-E,↓KW,bX,bL,aE]
  refine aJ hR ?_
  simp[-C,-E,↓KW,bX,bL,aE]
  refine aJ hSH ?_
  simp[-C,-E,↓KW]
 ·have hSH:=lY B.sz
  have hD:h2D (b,0)=.tp [bZ b,.i .i64 0]:=rfl
  rw[B.cp,hD]at hC hR
  have hbn0:=B.n0
  have hbn1:=B.n1
  refine bF (N:=168) Tryz.func5 ?_
  simp[-C,-E,↓KW,aGl]
  refine aJ hS ?_
  simp[-C,-E,↓KW,aGl]
  refine aJ hH ?_
  simp[-C,-E,↓KW,bX,bL,aE,hn,wn8,wn]
  refine aJ hC ?_
  simp[-C,-E,↓KW,bX,bL,aE]
  refine aJ hR ?_
  simp[-C,-E,↓KW,bX,bL,aE]
  refine aJ hSH ?_
  simp[-C,-E,↓KW,wn1]
  refine aP (λm:Nat=>n-1+(m:Int)<=jK h+1) (λm=>StL [(5,.ptr 1 0),(6,.d (.b false)),(7,.d (.b true)),(8,.ptr 2 0),(9,.d (.i .i64 n)),(12,.ptr 3 0),(14,.d (.i .i64 (n-1+(m:Int))))] none [.cells 58 [.d (.i .i8 w0),.d (.i .i8 w1)],.cells 35 [.d (.i .i64 h.s),.d (aE h.c),.d (bL h.l)],.cells 35 [.d (.i .i64 b.s),.d (aE b.c),.d (bL b.l)]]) (λm=>(jK h+2-n).toNat-m) 0 (by omega) ?_ ?_
  ·refine wkQ [2,3,5] ?_ ?_<;>simp[-C,upd,aO,Γ0,aE,bL]
  ·intro m hm0
   obtain⟨i,him⟩:∃i:Int,n-1+(m:Int)=i:=⟨_,rfl⟩
   rw[him]at hm0 ⊢
   have hi1:n-1+((m+1:Nat):Int)=i+1:=by omega
   have hi2:n-1+((m:Int)+1)=i+1:=by omega
   have hi3:i+1=n-1+((m:Int)+1):=by omega
   have hwi:Ag.wrap (i+1)=i+1:=aV
   simp[-C,-E,↓KW,aE,bL]
   refine aJ hL2 ?_
   by_cases hgo:i<=jK h
   ·have hA:=vAt i B.ok ⟨by omega,by omega⟩
    have hA2:=vAt i p.okh ⟨by omega,by omega⟩
    by_cases hlt:i<n
    ·rw[B.low i hlt]at hA
     obtain⟨⟨q1,q2⟩,hqq⟩:∃q,atV h i=q:=⟨_,rfl⟩
     rw[hqq]at hA2
     have hr1:r2D ([],320)=.tp [.sl [],.i .i64 320]:=rfl
     have hr2:r2D (q1,q2)=.tp [aE q1,.i .i64 q2]:=rfl
     have hge:¬n<=i:=by omega
     rw[hr1]at hA
     rw[hr2]at hA2
     simp[-C,-E,↓KW,hgo,aE,bL]
     refine aJ hA ?_
     simp[-C,-E,↓KW,aE,bL]
     refine aJ hA2 ?_
     simp[-C,-E,↓KW,hlt,hge,hwi]
     refine aI (m+1) (by omega) (by omega) (wkQ [1,2,3] ?_ ?_)<;>simp[-C,upd,aO,Γ0,aE,bL,hi1,hi2]
    ·obtain⟨q,e1,e2,v⟩:=B.up i (by omega) hgo
     rw[e1]at hA
     rw[e2]at hA2
     have hr:r2D (q,0)=.tp [aE q,.i .i64 0]:=rfl
     have hge:n<=i:=by omega
     rw[hr]at hA hA2
     have hSm:=aYh v.sz (by have:=v.len;omega)
     simp[-C,-E,↓KW,hgo,aE,bL]
     refine aJ hA ?_
     simp[-C,-E,↓KW,aE,bL]
     refine aJ hA2 ?_
     simp[-C,-E,↓KW,hlt,hge,aE]
     refine aJ hSm ?_
     simp[-C,-E,↓KW,hwi]
     refine aI (m+1) (by omega) (by omega) (wkQ [1,2,3] ?_ ?_)<;>simp[-C,upd,aO,Γ0,aE,bL,hi1,hi2]
   ·have hN:=aUx p.okh p.snd
    have hA:=aLn B.ok B.snd (by have:=B.sz.ll;omega) ok
    have hA2:=aLn p.okh p.snd (by omega) ok
    have hxc:=dE x
    have h12:=bZz (h:=h) (b:=b) (c:=c) (x:=x)
    have hq0:=bNq (h:=h) (c:=c) (x:=x)
    have hr0:=bNq (h:=b) (c:=c) (x:=x)
    obtain⟨⟨q,e⟩,hqe⟩:∃r,lU h c x=r:=⟨_,rfl⟩
    obtain⟨⟨r,e'⟩,hre⟩:∃r,lU b c x=r:=⟨_,rfl⟩
    rw[hqe,hre]at h12
    rw[hqe]at hA2 hq0 p1
    rw[hre]at hA hr0
    simp only at h12 hq0 hr0 p1
    subst h12
    have hqD:h2D (q,e)=.tp [bZ q,.i .i64 e]:=rfl
    have hrD:h2D (r,e)=.tp [bZ r,.i .i64 e]:=rfl
    rw[hqD]at hA2
    rw[hrD]at hA
    have hSq:=p1.sound 11 (by have:=p1.len;omega)
    have hee:((e != e):Bool)=false:=by simp
    rw[hes]at hm
    simp[-C,-E,↓KW,hgo,aE,bL]
    refine aJ hN ?_
    simp[-C,-E,↓KW,aE]
    refine aJ hm ?_
    simp[-C,-E,↓KW,hxc,aC,aA,aB]
    refine aJ hA ?_
    simp[-C,-E,↓KW,bX,bL,aE,aC,aA,aB]
    refine aJ hA2 ?_
    simp[-C,-E,↓KW,bX,bL,aE,hee]
    refine aJ hSq ?_
    by_cases he:e=0
    ·obtain⟨d0,eq⟩:=hq0 he
     obtain⟨_,er⟩:=hr0 he
     obtain⟨n1,n2,n3⟩:=B.next x ok.szc d0
     rw[<-eq,<-er]at n1
     rw[<-er]at n2 n3
     have hCq:=aEf n p1.okh (by omega)
     have hD1:h2D (r,0)=.tp [bZ r,.i .i64 0]:=rfl
     rw[n1,hD1]at hCq
     have hSr:=lY n3
     have hLr:=aLm r (by rw[er];exact⟨B.ok.s0,B.ok.s1⟩) (by have:=n3.ll;omega)
     rw[n2]at hLr
     have h0':((e != 0):Bool)=false:=by simpa using he
     have wl:Ag.wrap (jK h+1)=jK h+1:=aV
     have ll:((jK h+1==jK h+1):Bool)=true:=by simp
     simp[-C,-E,↓KW,h0',bX,bL,aE]
     refine aJ hCq ?_
     simp[-C,-E,↓KW,bX,bL,aE]
     refine aJ hSr ?_
     simp[-C,-E,↓KW,bX,bL,aE]
     refine aJ hLr ?_
     simp[-C,-E,↓KW,bX,bL,aE]
     refine aJ hL2 ?_
     simp[-C,-E,↓KW,wl,ll]
    ·have h0':((e != 0):Bool)=true:=by simpa using he
     simp[-C,-E,↓KW,h0',bX,bL,aE]
def bBb{x y:Cl}(h:x.id≠y.id\/x.id=y.id/\x.dim≠y.dim):Spec Aa 51 [.ag (aN x),.ag (aN y)] (.b false):=by
 refine bF (N:=24) Tryz.func51 ?_;rcases h with h|⟨h,h2⟩
 ·have q:((x.id==y.id):Bool)=false:=by simpa using h
  simp[-C,-E,↓KW,↓cO,↓bR,↓cM,↓cN,aR,q,aC,aA,aB,jY,nJ]
 ·have q:((y.id==y.id):Bool)=true:=by simp
  have q2:((x.dim==y.dim):Bool)=false:=by simpa using h2
  simp[-C,-E,↓KW,↓cO,↓bR,↓cM,↓cN,aR,h,q,q2,aC,aA,aB,jY,nJ]
def tQ{x y:Cg}(h:x.k≠y.k\/x.k=y.k/\x.a=y.a/\x.b=y.b/\x.w0=y.w0/\x.w1=y.w1/\(x.c.id≠y.c.id\/x.c.id=y.c.id/\x.c.dim≠y.c.dim)):Spec Aa 52 [.ag (bP x),.ag (bP y)] (.b false):=by
 refine bF (N:=38) Tryz.func52 ?_;rcases h with h|⟨h1,h2,h3,h4,h5,h6⟩
 ·have q:((x.k==y.k):Bool)=false:=by simpa using h
  simp[-C,-E,↓KW,dE,q,oV,zX,aC,aA,aB]
 ·have hS:=bBb h6;have q:∀n:Int,((n==n):Bool)=true:=λn=>by simp
  simp[-C,-E,↓KW,dE,h1,h2,h3,h4,h5,q,oV,zX,aC,aA,aB];refine aJ hS ?_;simp[-C,-E,↓KW,dE,h1,h2,h3,h4,h5,q,oV,zX,aC,aA,aB]
def kP1:Cg:=⟨1,⟨1,0,[]⟩,0,0,0,0⟩
def kP2:Cg:=⟨1,⟨2,0,[]⟩,0,0,0,0⟩
def kQ:Cg:=⟨1,⟨1,1,[]⟩,0,0,0,0⟩
def kE:Cg:=⟨1,⟨3,1,[(1,2)]⟩,0,0,0,0⟩
def kD:Cg:=⟨2,⟨0,0,[]⟩,1,0,0,0⟩
def kU:Cg:=⟨6,⟨0,0,[]⟩,0,0,0,0⟩
def cK1:List Cl:=[⟨1,0,[]⟩]
def hN:Hi:=⟨0,[],[]⟩
def sL:Hi:=⟨0,[],[kP1]⟩
def bLe:Hi:=⟨0,[],[kP2]⟩
def bYu:Hi:=⟨0,[],[kQ]⟩
def bDq:Hi:=⟨0,[],[kP1,kE]⟩
def bLf:Hi:=⟨0,[],[kP1,kD]⟩
def aIf:Hi:=⟨1,cK1,[]⟩
def cCd:Hi:=⟨0,[],[kP1,kP2]⟩
def xR:CxV cK1:=(pH (l:=[kP1]) gN (by kernel_rfl)).2.2 (by kernel_rfl)
def okK{h:Hi}(hv:CxV h.c)(h0:decide (0<=h.s)=true:=by kernel_rfl)(h1:decide (h.s<=1000000)=true:=by kernel_rfl)(h2:decide (h.l.length<=10000)=true:=by kernel_rfl)(hb:okB h.c h.l=true:=by kernel_rfl):OkH h:=⟨BH h0,BH h1,BH h2,(pH hv hb).1⟩
def aXd{h g:Hi}{c:List Cl}{x:Cg}{e:Int}(ho:OkH h)(hv:CxV c)(hs:lG h.c h.l=(c,0):=by kernel_rfl)(hl:decide (h.l.length<4000)=true:=by kernel_rfl)(h1:smC c=true:=by kernel_rfl)(h2:smG x=true:=by kernel_rfl)(hr:lU h c x=(g,e):=by kernel_rfl):Spec Aa 11 [bZ h,.ag (bP x)] (.tp [bZ g,.i .i64 e]):=by have:=aLn ho hs (BH hl) (bGg hv h1 h2);rwa [hr]at this
def bGf{h:Hi}{c:List Cl}(n:Int)(ho:OkH h)(hv:CxV h.c)(hs:lG h.c h.l=(c,0):=by kernel_rfl)(hl:decide ((h.l.length:Int)<=n)=true:=by kernel_rfl)(hz:smC h.c=true:=by kernel_rfl):Spec Aa 20 [bZ h,.i .i64 n] (.b true):=aPu n ho hs (BH hl) hv (aUo hz).1
def bRg:OkH hN:=okK gN
def aBb:OkH sL:=okK gN
def bXw:OkH bLe:=okK gN
def bXy:OkH bDq:=okK gN
def bXx:OkH bLf:=okK gN
def bIi:OkH aIf:=okK xR
def kA1:Spec Aa 11 [bZ hN,.ag (bP kP1)] (.tp [bZ sL,.i .i64 0]):=aXd bRg gN
def kA2:Spec Aa 11 [bZ hN,.ag (bP kP2)] (.tp [bZ bLe,.i .i64 0]):=aXd bRg gN
def kA3:Spec Aa 11 [bZ sL,.ag (bP kP1)] (.tp [bZ sL,.i .i64 253]):=aXd (c:=cK1) aBb xR
def kA4:Spec Aa 11 [bZ hN,.ag (bP kQ)] (.tp [bZ bYu,.i .i64 0]):=aXd bRg gN
def kA5:Spec Aa 11 [bZ sL,.ag (bP kE)] (.tp [bZ bDq,.i .i64 0]):=aXd (c:=cK1) aBb xR
def kA6:Spec Aa 11 [bZ sL,.ag (bP kD)] (.tp [bZ bLf,.i .i64 0]):=aXd (c:=cK1) aBb xR
def kA7:Spec Aa 11 [bZ hN,.ag (bP kU)] (.tp [bZ hN,.i .i64 1]):=aXd bRg gN
def kT1:Spec Aa 16 [bZ sL,.i .i64 2] (.tp [.sl [],.i .i64 320]):=vAt 2 aBb (by decide)
def kT2:Spec Aa 16 [bZ aIf,.i .i64 0] (.tp [.sl [],.i .i64 320]):=vAt 0 bIi (by decide)
def kC1:Spec Aa 22 [bZ sL,.i .i64 1] (.tp [bZ aIf,.i .i64 0]):=by
 have:=aEf 1 aBb (by decide);have e:cpH sL 1=(aIf,0):=by kernel_rfl
 rwa [e]at this
def kU1:Spec Aa 21 [bZ hN] (.tp [bZ hN,.i .i64 320]):=cAm (h:=hN) (by decide)
def kM1:Spec Aa 24 [bZ sL,bZ bLe] (.tp [bZ cCd,.i .i64 0]):=by have hs:SzC kP1.c:=aLt (by kernel_rfl);refine aUb (s:=0) (c:=[]) (p:=[]) (x:=[kP1]) (y:=[kP2]) (pc:=[]) (o1:=[⟨1,0,[]⟩,⟨2,0,[]⟩]) (o2:=[⟨1,0,[]⟩,⟨2,0,[]⟩]) (e1:=0) (e2:=0) ⟨by decide,(λ_ h=>by cases h),(λ_ h=>by cases h),by decide,by decide,.inr (.inr ⟨kP1,[],kP2,[],rfl,rfl,tQ (.inr ⟨rfl,rfl,rfl,rfl,rfl,.inl (by decide)⟩)⟩),trivial,rfl,(pH gN (by kernel_rfl)).1,(pH gN (by kernel_rfl)).1⟩ (by kernel_rfl) (by kernel_rfl) (.inr ⟨rfl,rfl,rfl,by decide,λz hz=>((aUo (c:=[⟨1,0,[]⟩,⟨2,0,[]⟩]) (by kernel_rfl)).2 z hz).2⟩)
def kM2:Spec Aa 24 [bZ sL,bZ bYu] (.tp [bZ sL,.i .i64 321]) :=
 aUb (s:=0) (c:=[]) (p:=[]) (x:=[kP1]) (y:=[kQ]) (pc:=[]) (o1:=[]) (o2:=[]) (e1:=253) (e2:=253) ⟨by decide,(λ_ h=>by cases h),(λ_ h=>by cases h),by decide,by decide,.inr (.inr ⟨kP1,[],kQ,[],rfl,rfl,tQ (.inr ⟨rfl,rfl,rfl,rfl,rfl,.inr ⟨rfl,by decide⟩⟩)⟩),trivial,rfl,(pH gN (by kernel_rfl)).1,(pH gN (by kernel_rfl)).1⟩ (by kernel_rfl) (by kernel_rfl) (.inl (by decide))
def kM3:Spec Aa 24 [bZ bDq,bZ bLf] (.tp [bZ bDq,.i .i64 321]) :=
 aUb (s:=0) (c:=[]) (p:=[kP1]) (x:=[kE]) (y:=[kD]) (pc:=cK1) (o1:=[]) (o2:=[]) (e1:=253) (e2:=251) ⟨by decide,(λ_ h=>by cases h),(λz hz=>by rw[AT.1 hz];exact aLt (by kernel_rfl)),by decide,by decide,.inr (.inr ⟨kE,[],kD,[],rfl,rfl,tQ (.inl (by decide))⟩),(pH gN (by kernel_rfl)).1,by kernel_rfl,(pH xR (by kernel_rfl)).1,(pH xR (by kernel_rfl)).1⟩ (by kernel_rfl) (by kernel_rfl) (.inl (by decide))
def kM4:Spec Aa 24 [bZ aIf,bZ sL] (.tp [bZ aIf,.i .i64 320]):=bPg (by decide)
def kS1:Spec Aa 20 [bZ sL,.i .i64 1] (.b true):=bGf (c:=cK1) 1 aBb gN
def kS2:Spec Aa 20 [bZ bLe,.i .i64 1] (.b true):=bGf (c:=[⟨2,0,[]⟩]) 1 bXw gN
def kS3:Spec Aa 20 [bZ aIf,.i .i64 1] (.b true):=bGf (c:=cK1) 1 bIi xR
def kS4:Spec Aa 20 [bZ bDq,.i .i64 2] (.b true):=bGf (c:=[⟨1,0,[]⟩,⟨3,1,[(1,2)]⟩]) 2 bXy gN
def kS5:Spec Aa 20 [bZ bLf,.i .i64 2] (.b true):=bGf (c:=[]) 2 bXx gN
def kH1:Spec Aa 13 [bZ sL,bZ sL] (.b true):=lY ⟨by decide,(λ_ h=>by cases h),by decide,λz hz=>by rw[AT.1 hz];exact aLt (by kernel_rfl)⟩
def kL1:Spec Aa 14 [bZ sL] (.i .i64 1):=aLm sL (by decide) (by decide)
def kL2:Spec Aa 14 [bZ aIf] (.i .i64 1):=aLm aIf (by decide) (by decide)
def cEj:Spec Aa 25 [] (bZ hN):=by refine bF (N:=2) Tryz.func25 ?_;simp[-C,-E,↓KW,rD];rfl
def bSs(id dim:Int)(l:List Int)(hl:l.length<=100)(hb:∀z∈l,-1000<=z/\z<=1000):Spec Aa 26 [.i .i64 id,.i .i64 dim,kW l] (.ag (bP ⟨1,⟨id,dim,cF [] (prs l)⟩,0,0,0,0⟩)):=by have hC:=fS id dim l hl hb;have e:aN ⟨id,dim,cF [] (prs l)⟩=[.i .i64 id,.i .i64 dim,aK (cF [] (prs l))]:=rfl;rw[e]at hC;refine bF (N:=12) Tryz.func26 ?_;simp[-C,-E,↓KW,kW];refine aJ hC ?_;simp[-C,-E,↓KW,rD,dE,aC,aA,aB]
def bGw:Spec Aa 7 [] (.b true):=by
 have eN:bZ hN=.ag [.i .i64 0,.sl [],.sl []]:=rfl;obtain⟨L1,l1⟩:∃L,bL [kP1]=.sl L:=⟨_,rfl⟩;obtain⟨L2,l2⟩:∃L,bL [kP2]=.sl L:=⟨_,rfl⟩;obtain⟨L3,l3⟩:∃L,bL [kQ]=.sl L:=⟨_,rfl⟩;obtain⟨L4,l4⟩:∃L,bL [kP1,kE]=.sl L:=⟨_,rfl⟩;obtain⟨L5,l5⟩:∃L,bL [kP1,kD]=.sl L:=⟨_,rfl⟩;obtain⟨L6,l6,n6⟩:∃L,bL [kP1,kP2]=.sl L/\L.length=2:=⟨_,rfl,rfl⟩;obtain⟨C1,c1⟩:∃L,aE cK1=.sl L:=⟨_,rfl⟩;have e1:bZ sL=.ag [.i .i64 0,.sl [],.sl L1]:=by rw[<-l1];rfl
 have e2:bZ bLe=.ag [.i .i64 0,.sl [],.sl L2]:=by rw[<-l2];rfl
 have e3:bZ bYu=.ag [.i .i64 0,.sl [],.sl L3]:=by rw[<-l3];rfl
 have e4:bZ bDq=.ag [.i .i64 0,.sl [],.sl L4]:=by rw[<-l4];rfl
 have e5:bZ bLf=.ag [.i .i64 0,.sl [],.sl L5]:=by rw[<-l5];rfl
 have e6:bZ cCd=.ag [.i .i64 0,.sl [],.sl L6]:=by rw[<-l6];rfl
 have e7:bZ aIf=.ag [.i .i64 1,.sl C1,.sl []]:=by rw[<-c1];rfl
 have p1:bP kP1=[.i .i64 1,.i .i64 1,.i .i64 0,.sl [],.i .i64 0,.i .i64 0,.i .i64 0,.i .i64 0]:=rfl;have p2:bP kP2=[.i .i64 1,.i .i64 2,.i .i64 0,.sl [],.i .i64 0,.i .i64 0,.i .i64 0,.i .i64 0]:=rfl;have p3:bP kQ=[.i .i64 1,.i .i64 1,.i .i64 1,.sl [],.i .i64 0,.i .i64 0,.i .i64 0,.i .i64 0]:=rfl;have p4:bP kE=[.i .i64 1,.i .i64 3,.i .i64 1,aK [(1,2)],.i .i64 0,.i .i64 0,.i .i64 0,.i .i64 0]:=rfl;have p5:bP kD=[.i .i64 2,.i .i64 0,.i .i64 0,.sl [],.i .i64 1,.i .i64 0,.i .i64 0,.i .i64 0]:=rfl;have p6:bP kU=[.i .i64 6,.i .i64 0,.i .i64 0,.sl [],.i .i64 0,.i .i64 0,.i .i64 0,.i .i64 0]:=rfl;have d1:Spec Aa 26 [.i .i64 1,.i .i64 0,.sl []] (.ag (bP kP1)):=bSs 1 0 [] (by decide) (by decide);have d2:Spec Aa 26 [.i .i64 2,.i .i64 0,.sl []] (.ag (bP kP2)):=bSs 2 0 [] (by decide) (by decide);have d3:Spec Aa 26 [.i .i64 1,.i .i64 1,.sl []] (.ag (bP kQ)):=bSs 1 1 [] (by decide) (by decide);have d4:Spec Aa 26 [.i .i64 3,.i .i64 1,.sl [[.i .i64 1],[.i .i64 2]]] (.ag (bP kE)):=bSs 3 1 [1,2] (by decide) (by decide);have hNew:=cEj;have a1:=kA1;have a2:=kA2;have a3:=kA3;have a4:=kA4;have a5:=kA5;have a6:=kA6;have a7:=kA7;have t1:=kT1;have t2:=kT2;have k1:=kC1;have u1:=kU1;have m1:=kM1;have m2:=kM2;have m3:=kM3;have m4:=kM4;have s1:=kS1;have s2:=kS2;have s3:=kS3;have s4:=kS4;have s5:=kS5;have h1:=kH1;have b1:=kL1;have b2:=kL2;rw[e1]at a1 a3 a5 a6 t1 k1 m1 m2 m4 s1 h1 b1;rw[e2]at a2 m1 s2;rw[e3]at a4 m2;rw[e4]at a5 m3 s4;rw[e5]at a6 m3 s5;rw[e6]at m1;rw[e7]at t2 k1 m4 s3 b2;rw[eN]at hNew a1 a2 a4 a7 u1;rw[p1]at a1 a3 d1;rw[p2]at a2 d2;rw[p3]at a4 d3;rw[p4]at a5 d4;rw[p5]at a6;rw[p6]at a7;clear l1 l2 l3 l4 l5 l6 c1 e1 e2 e3 e4 e5 e6 e7 eN p1 p2 p3 p4 p5 p6;refine bF (N:=237) Tryz.func7 ?_;simp[-C,-E,↓KW];refine aJ hNew ?_;simp[-C,-E,↓KW];refine aJ d1 ?_;simp[-C,-E,↓KW,aC,aA,aB];refine aJ a1 ?_;simp[-C,-E,↓KW,aC,aA,aB];refine aJ d2 ?_;simp[-C,-E,↓KW,aC,aA,aB];refine aJ a2 ?_;simp[-C,-E,↓KW,aC,aA,aB];refine aJ s1 ?_;simp[-C,-E,↓KW,aC,aA,aB];refine aJ s2 ?_;simp[-C,-E,↓KW,aC,aA,aB];refine aJ d1 ?_;simp[-C,-E,↓KW,aC,aA,aB];refine aJ a3 ?_;simp[-C,-E,↓KW,aC,aA,aB];refine aJ t1 ?_;simp[-C,-E,↓KW,aC,aA,aB];refine aJ k1 ?_;simp[-C,-E,↓KW,aC,aA,aB];refine aJ s3 ?_;simp[-C,-E,↓KW,aC,aA,aB];refine aJ t2 ?_;simp[-C,-E,↓KW,aC,aA,aB];refine aJ u1 ?_;simp[-C,-E,↓KW];refine aJ m1 ?_;simp[-C,-E,↓KW,aC,aA,aB];refine aJ d3 ?_;simp[-C,-E,↓KW,aC,aA,aB];refine aJ a4 ?_;simp[-C,-E,↓KW,aC,aA,aB];refine aJ m2 ?_;simp[-C,-E,↓KW,aC,aA,aB];refine aJ d4 ?_;simp[-C,-E,↓KW,aC,aA,aB];refine aJ a5 ?_;simp[-C,-E,↓KW,aC,aA,aB,kill];refine aJ a6 ?_;simp[-C,-E,↓KW,aC,aA,aB];refine aJ s4 ?_;simp[-C,-E,↓KW,aC,aA,aB];refine aJ s5 ?_;simp[-C,-E,↓KW,aC,aA,aB];refine aJ m3 ?_;simp[-C,-E,↓KW,aC,aA,aB];refine aJ a7 ?_;simp[-C,-E,↓KW,aC,aA,aB];refine aJ m4 ?_;simp[-C,-E,↓KW,aC,aA,aB];refine aJ h1 ?_;simp[-C,-E,↓KW,n6];refine aJ b1 ?_;simp[-C,-E,↓KW];refine aJ b2 ?_;simp[-C,-E,↓KW]
end Go.Am
end
