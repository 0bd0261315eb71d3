/- The check of chapter 32: it answers true. No condition. -/
import Derived.Test.YtgjjndadkmodpaaGreatB6
import Derived.Test.YtgjjndadkmodpaaGreatB7
import Derived.Test.YtgjjndadkmodpaaGreatB5
set_option linter.all false
set_option maxHeartbeats 8000000
set_option maxRecDepth 100000
open Bool renaming and_eq_true->AO,not_eq_true'->Ck,or_eq_true->CG
open Go.DataW renaming trod_int->DU
open Go.IntKind renaming i64->Ag
open Go.Proofs.Tryz renaming func9->Ed,prog->Aa,underlying5->Dy
open Int renaming emod_lt_of_pos->Es,emod_nonneg->C5,tmod_eq_emod_of_nonneg->Dn
open List renaming all_eq_true->Ay,append_nil->AX,cons_append->BN,drop_succ_cons->Ci,drop_zero->BZ,eq_nil_of_length_eq_zero->AE,flatMap_cons->Cz,flatMap_nil->Dz,getElem?_append_left->AJ,getElem?_eq_getElem->Ab,getElem?_map->Aw,getElem_mem->Ar,length_append->Al,length_pos_iff->Dq,length_singleton->Au,map->AQ,map_drop->Bu,map_take->By,mem_map->AA,mem_of_getLast?->FD,mem_singleton->AT,nil_append->BM,take->BB,take_append_drop->Cc,take_length->EU,take_of_length_le->Ai,take_succ_cons->Cf,take_zero->Cq
open Nat renaming eq_zero_or_pos->B7,le_refl->Ap,le_trans->An,one_le_two_pow->B8,zero_le->Ak
open _root_ renaming decide_eq_false_iff_not->CO,decide_eq_true_eq->AI,if_neg->Ac,if_pos->Ae,of_decide_eq_true->BI
section
open List renaming map_map->C,mapM_map->E
namespace Go.Am
open RowKit (Below)
inductive Fx where
 |aw
 |rg (pre:List Nat) (t:Tr)
 |sq (f g:Fx)
 |bk (f:Fx)
 |lp (f:Fx)
 |cd (f g:Fx)
def pY(P:Program):Fx->Code->St->(Exit->St->Prop)->Prop
 |.aw,c,σ,Q=>AWP P c σ Q
 |.rg pre t,.region _ ops true,σ,Q=>∃σ2,(OW P ops (opsL ops pre) σ [] λσ1 con1=>OWT P ops t σ1 con1 λσ' con=>WkR (fin σ' con) σ2)/\Q .normal σ2
 |.sq f g,.seq x y,σ,Q=>pY P f x σ λe σ'=>match e with|.normal=>pY P g y σ' Q|e=>Q e σ'
 |.bk f,.block id c,σ,Q=>pY P f c σ λe σ'=>match e with|.exit id'=>if id'=id then Q .normal σ' else Q (.exit id') σ'|e=>Q e σ'
 |.lp f,.loop c,σ,Q=>∃(τ:Type) (S:τ->St) (m:τ->Nat) (x0:τ),WkR σ (S x0)/\∀x,pY P f c (S x) λe σ'=>match e with|.normal=>∃y,m y<m x/\WkR σ' (S y)|e=>Q e σ'
 |.cd f g,.cond c x y,σ,Q=>match oev σ.J c with|.d (.b t)=>if t then pY P f x σ Q else pY P g y σ Q|_=>False
 |_,_,_,_=>False
def aFp(P:Program):Fx->Code->Bool
 |.aw,c=>eC P c
 |.rg pre t,.region _ ops true=>aLl P ops pre t
 |.sq f g,.seq x y=>aFp P f x&&aFp P g y
 |.bk f,.block _ c=>aFp P f c
 |.lp f,.loop c=>aFp P f c
 |.cd f g,.cond _ x y=>aFp P f x&&aFp P g y
 |_,_=>false
section
variable {P:Program} {G:Ctx} {N:Nat} {ds:List Deferred}
def aHn(hm:P.follows .mixedOrders=true)(hZ:∀d,G.Z d=none):∀(f:Fx) (c:Code) (Q:Exit->St->Prop) (σ:St) (a:Act) (w:World),dK N c=true->aFp P f c=true->pY P f c σ Q->SR G N ds σ a w ->
  c.wp P (λe a' w'=>∃σ',Q e σ'/\SR G N ds σ' a' w') a w:=by
 intro f
 induction f with
 |aw=>intro c Q σ a w hd hl h hs;exact iC hm hZ c Q σ a w hd hl h hs
 |rg pre t =>
  intro c Q σ a w hd hl h hs
  cases c with
  |region id ops draw =>
   cases draw with
   |true =>
    obtain⟨σ2,h,hq⟩:=h
    refine aBv (WpR.plain P) (Q:=λσ'=>WkR σ' σ2) hm (λi o d hi ho=>⟨qG hd i o d hi ho,hZ d⟩) hl hs h ?_
    intro σ' a' w' hw hs'
    exact⟨σ2,hq,pS hw hs'⟩
   |false=>exact h.elim
  |_=>exact h.elim
 |sq f g ihf ihg =>
  intro c Q σ a w hd hl h hs
  cases c with
  |seq x y =>
   simp only[dK,aFp,AO]at hd hl
   refine wp_seq (wp_mono (ihf x _ σ a w hd.1 hl.1 h hs) ?_)
   rintro e a' w' ⟨σ1,hq,hs'⟩
   cases e with
   |normal=>exact ihg y Q σ1 a' w' hd.2 hl.2 hq hs'
   |_=>exact⟨σ1,hq,hs'⟩
  |_=>exact h.elim
 |bk f ih =>
  intro c Q σ a w hd hl h hs
  cases c with
  |block id c =>
   refine(WpR.plain P).block (wp_mono (ih c _ σ a w hd hl h hs) ?_)
   rintro e a' w' ⟨σ',hq,hs'⟩
   cases e with
   |exit id' =>
    simp only[Exit.inBlock]at hq ⊢
    split at hq
    ·rename_i he;rw[Ae he];exact⟨σ',hq,hs'⟩
    ·rename_i he;rw[Ac he];exact⟨σ',hq,hs'⟩
   |_=>exact⟨σ',hq,hs'⟩
  |_=>exact h.elim
 |cd f g ihf ihg =>
  intro c Q σ a w hd hl h hs
  cases c with
  |cond c x y =>
   simp only[dK,aFp,AO]at hd hl
   unfold pY at h
   split at h
   ·rename_i t ht
    have hc:a.eval c=.bool t:=by
     obtain⟨_,_,F,ι,_,_,hV,_⟩:=hs;have:=fD (J:=σ.J) (a:=a) (x:=c) (F:=F) (w:=w) (ι:=ι) λt _=>hV t
     rw[ht]at this;generalize a.eval c=v at this;cases this with|d _ _ h=>cases h;rfl
    refine(WpR.plain P).cond hc ?_
    cases t
    ·exact ihg y Q σ a w hd.2 hl.2 h hs
    ·exact ihf x Q σ a w hd.1 hl.1 h hs
   ·exact h.elim
  |_=>exact h.elim
 |lp f ih =>
  intro c Q σ a w hd hl h hs
  cases c with
  |loop c =>
   obtain⟨τ,S,m,x0,hk,hround⟩:=h
   refine(WpR.plain P).loop (λn a w=>∃x,m x=n/\SR G N ds (S x) a w) ⟨m x0,x0,rfl,pS hk hs⟩ ?_
   rintro n a w ⟨x,rfl,hsx⟩
   refine wp_mono (ih c _ (S x) a w hd hl (hround x) hsx) ?_
   rintro e a' w' ⟨σ',hq,hs'⟩
   cases e with
   |normal =>
    obtain⟨y,hlt,hk⟩:=hq
    exact⟨m y,hlt,y,rfl,pS hk hs'⟩
   |_=>exact⟨σ',hq,hs'⟩
  |_=>exact h.elim
def jR {f N:Nat} {fn:Func} {c:Code} {args:List D} {r:D} (l:Fx) (hm:P.follows .mixedOrders=true) (hf:P.funcs[f]? = some fn) (hb:fn.body=some c) (hname:(fn.name == "runtime.NumGoroutine")=false) (hN:fn.ntmps=N)
  (hd:dK N c=true) (hl':aFp P l c=true) (ha:args.length<=N) (h:pY P l c (St0 args N) λe σ=>(e=.normal\/e=.ret)/\mU P fn.results.toList σ=some r):Spec P f args r:=by
 intro A W vs hA hl hv
 have hn:¬ fn.name = "runtime.NumGoroutine" := by simpa using hname
 refine⟨λw=>by simp[callFunc,hf,hn,hb],?_⟩
 refine calls_of_wp hf hb ?_
 subst hN
 refine wp_mono (aHn hm (λ_=>rfl) l c _ _ _ _ hd hl' h (SR0 hA hl hv ha)) ?_
 rintro e a w ⟨σ,⟨he,hr⟩,hs⟩
 obtain⟨v,hrun,hvd⟩:=nN hs hr
 obtain⟨_,_,F,ι,hR,_,_,_,hdf,_⟩:=hs
 have hend:a.defers=[]/\∃v,(results fn a.tmps).run P w=.ok v w/\∃v',Ending.returned v=.returned v'/\Below W.heap.size W w/\VD (λb=>A b\/(W.heap.size<=b/\b<w.heap.size)) w r v':=by
  refine⟨hdf,v,hrun,v,rfl,⟨hR.kept.os,hR.kept.tape,hR.kept.output,hR.kept.size,λk hk=>hR.kept.block k hk (λh=>h)⟩,hvd.mono ?_⟩;rintro b (h|h|h)
  ·exact .inl h
  ·exact h.elim
  ·exact .inr h
 rcases he with rfl|rfl<;>exact hend
def aUi {f N:Nat} {fn:Func} {g:FuncId} {r0 rd rest:Code} {args:List D} {r:D} (l:Fx) (hm:P.follows .mixedOrders=true) (hf:P.funcs[f]? = some fn) (hb:fn.body=some (.seq r0 (.seq rd rest))) (hname:(fn.name == "runtime.NumGoroutine")=false)
  (hN:fn.ntmps=N) (hd0:dK N r0=true) (hl0:eC P r0=true) (hd1:dK N rest=true) (hl1:aFp P l rest=true) (hg:qJ rd=some g) (hrec:gQ P g) (ha:args.length<=N)
  (h:AWP P r0 (St0 args N) λe σ0=>e=.normal/\pY P l rest σ0 λe σ=>(e=.normal\/e=.ret)/\mU P fn.results.toList σ=some r):Spec P f args r:=by
 intro A W vs hA hl hv
 have hn:¬ fn.name = "runtime.NumGoroutine" := by simpa using hname
 refine⟨λw=>by simp[callFunc,hf,hn,hb],?_⟩
 refine calls_of_wp_defers hf hb ?_
 subst hN
 refine wp_seq (wp_mono (iC hm (λ_=>rfl) r0 _ _ _ _ hd0 hl0 h (SR0 hA hl hv ha)) ?_)
 rintro e a w ⟨σ0,⟨rfl,h1⟩,hs0⟩
 refine wp_seq (rS hg ?_)
 refine wp_mono (aHn hm (λ_=>rfl) l rest _ _ _ _ hd1 hl1 h1 (aAc { target:=.fn (.func g) #[],args:=#[] } hs0)) ?_
 rintro e a w ⟨σ,⟨he,hr⟩,hs⟩
 rcases he with rfl|rfl<;>exact sC hrec hs hr
end
def cJ(P:Program)(c:Code)(σ:St)(Q:Exit->St->Prop):pY P .aw c σ Q=AWP P c σ Q:=rfl
def cI(P:Program)(f g:Fx)(x y:Code)(σ:St)(Q:Exit->St->Prop):pY P (.sq f g) (.seq x y) σ Q=pY P f x σ λe σ'=>match e with|.normal=>pY P g y σ' Q|e=>Q e σ':=rfl
def cQ(P:Program)(f:Fx)(id:Nat)(c:Code)(σ:St)(Q:Exit->St->Prop):pY P (.bk f) (.block id c) σ Q=pY P f c σ λe σ'=>match e with|.exit id'=>if id'=id then Q .normal σ' else Q (.exit id') σ'|e=>Q e σ':=rfl
def bWg(P:Program)(f g:Fx)(v:AV)(x y:Code)(σ:St)(Q:Exit->St->Prop)(_:Dm (x,y,Q)):Prop:=match v with|.d (.b t)=>IfD t (pY P f x σ Q) (pY P g y σ Q) .mk|_=>False
def cO(P:Program)(f g:Fx)(t:Bool)(x y:Code)(σ:St)(Q:Exit->St->Prop)(d:Dm (x,y,Q)):bWg P f g (.d (.b t)) x y σ Q d=IfD t (pY P f x σ Q) (pY P g y σ Q) .mk:=rfl
def cP(P:Program)(f g:Fx)(c:Operand)(x y:Code)(σ:St)(Q:Exit->St->Prop):pY P (.cd f g) (.cond c x y) σ Q=bWg P f g (oev σ.J c) x y σ Q .mk:=rfl
def RgX(P:Program)(pre:List Nat)(t:Tr)(ops:Array Oper)(σ:St)(Q:St->Prop)(_:Dm (ops,Q)):Prop:=∃σ2,(OW P ops (opsL ops pre) σ [] λσ1 con1=>OWT P ops t σ1 con1 λσ' con=>WkR (fin σ' con) σ2)/\Q σ2
def wE(P:Program)(pre:List Nat)(t:Tr)(id:Nat)(ops:Array Oper)(σ:St)(Q:Exit->St->Prop):pY P (.rg pre t) (.region id ops true) σ Q=RgX P pre t ops σ (Q .normal) .mk:=rfl
def aAs{P:Program}{pre:List Nat}{t:Tr}{ops:Array Oper}{σ:St}{Q:St->Prop}{d:Dm (ops,Q)}(σ2:St)(l:List Oper)(t':Tro)(h1:opsL ops pre=l)(h2:mE ops t=t')
  (h:bOi P ops l t' σ (λσ'=>WkR σ' σ2) .mk) (hq:Q σ2):RgX P pre t ops σ Q d:=by
 subst h1;subst h2
 refine⟨σ2,?_,hq⟩
 simp only[nQ]
 exact h
end Go.Am
end
section
open List renaming map_map->C,mapM_map->E
open Go Go.Am Go.Proofs
namespace Go.Am
def cpH(h:Hi)(n:Int):Hi×Int:=if(atV h n).2=0 then(⟨n,(atV h n).1,h.l.drop (n-h.s).toNat⟩,0)else(h,(atV h n).2)
def udH(h:Hi):Hi×Int:=if h.l=[]then(h,320)else(⟨h.s,h.c,h.l.take (h.l.length-1)⟩,0)
def bFh{h:Hi}(n:Int)(ho:OkH h)(hn:-1000000<=n/\n<=2000000):Spec Aa 22 [bY h,.i .i64 n] (h2D (cpH h n)):=by
 have hA:=vAt n ho hn;obtain⟨⟨r1,r2⟩,hr⟩:∃R,atV h n=R:=⟨_,rfl⟩;unfold cpH;rw[hr]at hA ⊢;have hrD:r2D (r1,r2)=.tp [aE r1,.i .i64 r2]:=rfl;rw[hrD]at hA;have hw:Ag.wrap (n-h.s)=n-h.s:=wrap_i64 (by have:=ho.s0;have:=ho.s1;omega) (by have:=ho.s0;have:=ho.s1;omega);refine qL (N:=31) Tryz.func22 cAk ?_;simp[-C,-E,↓KW,dC,bW,aE];refine aJ hA ?_;by_cases h0:r2=0
 ·subst h0;have hh:wN h n=true:=by
   cases e:wN h n with
   |true=>rfl
   |false=>unfold atV at hr;rw[e]at hr;simp at hr
  have hb:h.s<=n/\n-h.s<=h.l.length:=by simpa[wN]using hh
  refine exE ((n-h.s).toNat) λk hk=>?_
  have hkn:n-h.s=(k:Int):=by omega
  have hkl:k<=h.l.length:=by omega
  have hwk:Ag.wrap (k:Int)=k:=by rw[<-hkn];exact hw
  have hC:=bAc (l:=h.l.drop k) (by simp;have:=ho.len;omega);simp only[bW,Bu]at hC;have htk:BB h.l.length (AQ bN h.l)=AQ bN h.l:=Ai (by simp);simp[-C,-E,↓KW,dC,bW,aE,hw,hkn,hwk,hkl,aQo,htk];refine aJ hC ?_;simp[-C,-E,↓KW,hk,cC,h2D,dC,aE,bW]
 ·have h0':((r2 != 0):Bool)=true:=by simpa using h0
  simp[-C,-E,↓KW,h0,h0',cC,h2D,dC,aE,bW]
def u13:Tr:=.one 13 (.one 14 (.one 15 (.one 16 (.one 17 .leaf))))
def u12:Tr:=.one 12 u13
def u11:Tr:=.one 11 u12
def u10:Tr:=.one 10 u11
def uA:Tr:=.two 3 u12 12 (.one 3 u13)
def uB:Tr:=.two 3 u11 11 uA
def uC:Tr:=.one 1 u11
def bVg:Tr:=.three 1 (.two 3 u10 10 uB) 3 (.two 1 u10 10 uC) 10 (.two 1 uB 3 uC)
def fxU:Fx:=.sq .aw (.sq .aw (.sq (.rg [0,2,4,5,6,7,8,9] bVg) .aw))
def cAc{h:Hi}(hl:h.l.length<=10000):Spec Aa 21 [bY h] (h2D (udH h)):=by
 refine aUi (N:=24) fxU bL Tryz.func21 rfl rfl rfl (by kernel_rfl) (by kernel_rfl) (by kernel_rfl) (by kernel_rfl) rfl cAl (by simp) ?_;unfold udH fxU;by_cases h0:h.l=[]
 ·simp[-C,-E,↓KW,dC,bW,aE,h0,↓cI,↓cJ,↓wE,cC,h2D]
 ·have hp:0<h.l.length:=Dq.2 h0;obtain⟨k,hk⟩:∃k:Nat,h.l.length=k+1:=⟨h.l.length-1,by omega⟩;have hk1:h.l.length-1=k:=by omega
  have hki:(h.l.length:Int)-1=(k:Int):=by omega
  have hwk:Ag.wrap (k:Int)=k:=aV;have hkl:k<=h.l.length:=by omega
  have e0:((h.l.length:Int)==0)=false:=by simpa using h0
  have hC:=bAc (l:=h.l.take k) (by simp;omega);simp only[bW,By]at hC;rw[Ac h0,hk1];have ok:=aQo h.l;have hX:bY ⟨h.s,h.c,h.l.take k⟩=.ag [.i .i64 h.s,.sl (h.c.map aN),.sl ((h.l.map bN).take k)]:=by rw[<-By];rfl
  have hLl:(h.l.map bN).length=h.l.length:=by simp
  have hH:bY h=.ag [.i .i64 h.s,.sl (h.c.map aN),.sl (h.l.map bN)]:=rfl;rw[hH];obtain⟨L,hL⟩:∃L,h.l.map bN=L:=⟨_,rfl⟩;obtain⟨CL,hCL⟩:∃L,h.c.map aN=L:=⟨_,rfl⟩;obtain⟨n,hn⟩:∃n,h.l.length=n:=⟨_,rfl⟩;rw[hL]at hC ok hX hLl ⊢;rw[hCL]at hX ⊢;rw[hn]at hLl hki e0 hkl;simp[-C,-E,↓KW,hLl,e0,↓cI,↓cJ,↓wE];refine aAs (StL [(2,.ptr 1 0),(3,.d (.i .i64 0))] none [.cells 35 [.d (.i .i64 h.s),.d (.sl CL),.d (.sl (L.take k))]]) _ _ rfl rfl ?_ ?_
  ·simp only[opsL,opL,bVg,uA,uB,uC,u10,u11,u12,u13,mE,Cz,Dz,Ci,BZ,Cf,Cq,BN,BM];simp[-C,-E,↓KW,hLl,hki,hwk,hkl,ok,↓dN,↓aEy,↓dO,↓dP,↓cU];refine aJ hC ?_;simp[-C,-E,↓KW,↓dN,↓aEy,↓dO,↓dP,↓cU];repeat' apply And.intro
   all_goals refine .inr (wkQ [2] ?_ ?_)<;>simp[-C,upd,aO,Γ0]
  ·simp[-C,-E,↓KW,cC,h2D,hX]
def cAo{h:Hi}(n:Int)(ho:OkH h)(hn:-1000000<=n/\n<=2000000):Spec Aa 17 [bY h,.i .i64 n] (r2D (atV h n)):=by
 have hH:=aIt h ⟨ho.s0,ho.s1⟩ ho.len;have hw:Ag.wrap (n-h.s)=n-h.s:=wrap_i64 (by have:=ho.s0;have:=ho.s1;omega) (by have:=ho.s0;have:=ho.s1;omega);refine bF (N:=28) Tryz.func17 ?_;unfold atV;by_cases h1:h.s<=n
 rotate_left
 ·have hh:wN h n=false:=by simp[wN,h1]
  have h1':n<h.s:=by omega
  simp[-C,-E,↓KW,dC,bW,aE,h1',hh,r2D,cC]
 ·have h1':¬n<h.s:=by omega
  simp[-C,-E,↓KW,dC,bW,aE,h1'];refine aJ hH ?_;by_cases h2:n-h.s<=h.l.length
  rotate_left
  ·have hh:wN h n=false:=by simp[wN,h2]
   have h2':wL h<n:=by unfold wL;omega
   simp[-C,-E,↓KW,h2',hh,r2D,cC,aE]
  ·have hh:wN h n=true:=by simp[wN,h1,h2]
   have h2':¬wL h<n:=by unfold wL;omega
   refine exE ((n-h.s).toNat) λk hk=>?_
   have hkn:n-h.s=(k:Int):=by omega
   have hkl:k<=h.l.length:=by omega
   have hR:=bHn (c0:=h.c) (l:=h.l.take k) (ho.ok.take k) (by simp;have:=ho.len;omega);have hwk:Ag.wrap (k:Int)=k:=by rw[<-hkn];exact hw
   obtain⟨⟨r1,r2⟩,hr⟩:∃R,kW h.c (h.l.take k)=R:=⟨_,rfl⟩;rw[hr]at hR;have hRD:r2D (r1,r2)=.tp [.sl (r1.map aN),.i .i64 r2]:=rfl;simp only[bW,aE,By,hRD]at hR;simp[-C,-E,↓KW,h2',hw,hkn,hwk,hkl,aQo];refine aJ hR ?_;simp[-C,-E,↓KW,cC,hk,hh,hr,hRD]
def bUs{h:Hi}{c:List Cl}(hs:aTo h c):atV h (wL h)=(c,0):=by
 unfold atV;have hh:wN h (wL h)=true:=by unfold wN wL;simp;omega
 rw[hh,Ae rfl];have:(wL h-h.s).toNat=h.l.length:=by unfold wL;omega
 rw[this,EU];exact hs
def bHm{h:Hi}{c:List Cl}(ho:OkH h)(hs:aTo h c):Spec Aa 10 [bY h] (aE c):=by have hH:=aIt h ⟨ho.s0,ho.s1⟩ ho.len;have hA:=cAo (wL h) ho ⟨by unfold wL;have:=ho.s0;omega,by unfold wL;have:=ho.s1;have:=ho.len;omega⟩;rw[bUs hs]at hA;have hRD:r2D (c,0)=.tp [.sl (c.map aN),.i .i64 0]:=rfl;rw[hRD]at hA;refine bF (N:=13) Tryz.func10 ?_;simp[-C,-E,↓KW,dC,bW,aE];refine aJ hH ?_;simp[-C,-E,↓KW,dC,bW,aE];refine aJ hA ?_;simp[-C,-E,↓KW,aE]
def bQi{h:Hi}{l:List Cg}(hl:h.l.length<=10000)(hl2:l.length<=10000):Spec Aa 38 [bY h,bW l] (bY ⟨h.s,h.c,h.l++l⟩):=by
 refine bF (N:=15) Tryz.func38 ?_;obtain⟨a,ha⟩:∃a,h.l=a:=⟨_,rfl⟩;rw[ha]at hl;have hok:∀l:List Cg,fB 8 (l.map bN)=true:=aQo;have hone:∀l:List Cg,(∀(x:Cg),x∈l->∀(x_1:D),x_1∈bN x->one (AV.d x_1)=true)↔True:=λl=>⟨λ_=>trivial,λ_ x _ d hd=>Ay.1 (oY x) (.d d) (AA.2 ⟨d,hd,rfl⟩)⟩
 have hal:∀l:List Cg,(∀d∈flt bN l,one (AV.d d)=true)↔True:=λl=>⟨λ_=>trivial,λ_ d hd=>Ay.1 (dA oY l) (.d d) (AA.2 ⟨d,hd,rfl⟩)⟩
 have hff:=iR bN;have hla:=bJ fX a;have hlb:=bJ fX l;have hbb:a.length*80<=140737488355328/\a.length<=maxLen:=⟨by omega,aS (by omega)⟩;have hbb2:(a.length+l.length)*80<=140737488355328/\a.length+l.length<=maxLen:=⟨by omega,aS (by omega)⟩;have hab':(a++l).length=a.length+l.length:=Al;have e1:BB ((a.length+l.length)*8) ((flt bN (a++l)).map AV.d)=(flt bN (a++l)).map AV.d:=dH fX hab';have e2:chunk 8 (a.length+l.length) (flt bN (a++l))=(a++l).map bN:=cV (by decide) fX hab';have e3:=bJ fX (a++l);rw[hab']at e3;have e4:(flt bN a).map AV.d++(flt bN l).map AV.d=(flt bN (a++l)).map AV.d:=by rw[cW,List.map_append]
 rw[ha];simp[-C,-E,↓KW,dC,bW,aE,ha,uS,hok,hone,hal,hff,hla,hlb,hbb,hbb2,e1,e2,e3,e4,qZ]
def bBq{h:Hi}{c:List Cl}{x:Cg}(ho:OkH h)(hs:aTo h c)(hl:h.l.length<4000)(hx:Ok2 c x):Spec Aa 12 [bY h,.ag (bN x)] (h2D (wP h c x)):=by
 have hN:=bHm ho hs;have hD:=bVn hx;have hW:=bQi (h:=h) (l:=[x]) (by omega) (by simp);obtain⟨⟨r1,r2⟩,hr⟩:∃R,doX c x=R:=⟨_,rfl⟩;rw[hr]at hD;have hrD:r2D (r1,r2)=.tp [aE r1,.i .i64 r2]:=rfl;rw[hrD]at hD;have q1:¬(4000:Int)<=h.l.length:=by omega
 unfold wP;rw[hr];simp only;have hxc:=dJ x;have hl1:bW [x]=.sl [bN x]:=rfl;rw[hl1,dC ⟨h.s,h.c,h.l++[x]⟩]at hW;obtain⟨L,hL⟩:∃L,(h.l++[x]).map bN=L:=⟨_,rfl⟩;have hL2:bW (h.l++[x])=.sl L:=by rw[<-hL];rfl
 simp only[hL2,aE]at hW;refine bF (N:=28) Tryz.func12 ?_;simp[-C,-E,↓KW,dC,bW,aE,hxc,q1,aC,aA,aB];refine aJ hN ?_;simp[-C,-E,↓KW,aE,aC,aA,aB];refine aJ hD ?_;by_cases h0:r2=0
 ·subst h0;simp[-C,-E,↓KW,aC,aA,aB];refine aJ hW ?_;cases hf1:oG (D.sl L)<;>cases hf2:oG (D.sl (h.c.map aN))<;>simp[-C,-E,↓KW,cC,h2D,dC,aE,bW,hL,hf1,hf2,kill]
 ·have h0':((r2 != 0):Bool)=true:=by simpa using h0
  simp[-C,-E,↓KW,h0,h0',aC,aA,aB,cC,h2D,dC,aE,bW]
structure Sx where
 k:Int
 a:Int
 b:Int
 q:Q4
def Sx.ok(s:Sx):Prop:=(0<=s.k/\s.k<=255)/\(0<=s.a/\s.a<=255)/\(0<=s.b/\s.b<=255)/\s.q.ok
def mP(s:Sx):List D:=[.i .u8 s.k,.i .u8 s.a,.i .u8 s.b,.i .i8 s.q.1,.i .i8 s.q.2.1,.i .i8 s.q.2.2.1,.i .i8 s.q.2.2.2]
def aYc{c:List Cl}{m:Int}(k:Int)(hk:0<=k/\k<=255)(hl:c.length<=1000)(hid:∀y∈c,0<=y.id/\y.id<=m)(hm:255<=m):∃n:Int,(0<=n/\n<=m)/\Spec Aa 28 [aE c,.i .u8 k] (.i .i64 n):=by
 have hw:Ag.wrap k=k:=aV;by_cases h0:c=[]
 ·subst h0;refine⟨k,by omega,bF (N:=23) Tryz.func28 ?_⟩;simp[-C,-E,↓KW,aE,hw]
 ·have hpos:0<c.length:=Dq.2 h0;have e0:((c.length:Int)==0)=false:=by simpa using h0
  by_cases h1:250<=k
  ·refine⟨k,by omega,bF (N:=23) Tryz.func28 ?_⟩;simp[-C,-E,↓KW,aE,hw,h1,e0]
  ·have m1:=C5 k (b:=(c.length:Int)) (by omega);have m2:=Es k (b:=(c.length:Int)) (by omega);obtain⟨j,j1,j2⟩:∃j:Nat,j<c.length/\k.tmod (c.length:Int)=(j:Int):=⟨(k%c.length).toNat,by omega,by rw[Dn hk.1];omega⟩;have j3:(j:Int)<c.length:=by omega
   have hz:c[j]? = some c[j]:=Ab j1;have hzm:c[j]∈c:=Ar j1;refine exE c[j] λz hze=>?_
   rw[hze]at hz hzm;have hze':∀h:j<c.length,c[j]'h=z:=λ_=>hze
   have wj:Ag.wrap (j:Int)=(j:Int):=aV;have ez:aN z=[.i .i64 z.id,.i .i64 z.dim,aK z.b]:=rfl;refine⟨z.id,hid z hzm,bF (N:=23) Tryz.func28 ?_⟩;simp[-C,-E,↓KW,aE,hw,h1,h0,e0,j1,j2,j3,hz,hze',wj,ez,aC,aA,aB]
def pU:Fx:=.sq .aw (.sq .aw (.sq .aw (.sq .aw (.sq (.sq .aw (.bk (.sq .aw (.cd .aw (.sq .aw (.cd (.sq .aw (.sq .aw (.cd (.sq .aw (.rg [0,1,2,3,4,5,6,7,8,10] (.two 9 (.one 11 (.one 12 (.one 13 .leaf))) 11 (.one 9 (.one 12 (.one 13 .leaf)))))) .aw))) .aw)))))) .aw))))
def bIp(c:List Cl):Int:=match c.getLast? with|none=>1|some y=>y.id+1
def bRh{c:List Cl}{m:Int}(hid:∀y∈c,0<=y.id/\y.id<=m)(hm:0<=m):1<=bIp c/\bIp c<=m+1:=by
 unfold bIp;cases e:c.getLast? with
 |none=>simp only;omega
 |some y=>have:=hid y (FD e);simp only;omega
def Fg.zero{i M q d:Nat}{k a b w0 w1:Int}(hk:1<=k/\k<=6)(ha:0<=a/\a<=302+2*(i:Int))(hb:0<=b/\b<=302+2*(i:Int))(h0:0<=w0/\w0<=302+2*(i:Int))(h1:0<=w1/\w1<=302+2*(i:Int)):Fg i M q d ⟨k,⟨0,0,[]⟩,a,b,w0,w1⟩ :=
 ⟨hk,⟨Int.le_refl 0,show(0:Int)<=3 by decide⟩,Val.nil,by simp,Bnd.nil _,λf hf=>(by cases hf),⟨by simp,by simp;omega⟩,ha,hb,h0,h1⟩
def bLk{c:List Cl}(h:CxV c){p:Int×Int}(hp:p∈jL c):(∃y∈c,y.id=p.1)/\∃y∈c,y.id=p.2:=by obtain⟨z,xa,xb,t⟩:=aDr h (a:=p.1) (b:=p.2) hp;exact⟨⟨xa,t.ina,t.ida⟩,⟨xb,t.inb,t.idb⟩⟩
def bTd{c:List Cl}{x0 m:Int}(h:∀x∈c,0<=x.id/\x.id<=m)(hm:0<=m):0<=gId c x0/\gId c x0<=m+2:=by
 unfold gId;cases e:c.getLast? with
 |none=>simp only;omega
 |some y =>
  have:=h y (FD e);simp only;omega
def bJe{l:Ch}{n:Int}(hv:Val l){f:Int×Int}(h:f∈cE l [(n,1)]):f.1=n\/∃g∈l,g.1=f.1:=by
 obtain⟨h1,h2⟩:=cR [(n,1)] l hv;have e:=fJ h1 h;rw[h2]at e;have hne:f.2≠0:=h1.2 f h;by_cases q:f.1=n
 ·exact .inl q
 ·right;refine Classical.byContradiction λhn=>hne ?_
  have e1:getM l f.1=0:=aSl λhm=>by obtain⟨g,hg,eg⟩:=AA.1 hm;exact hn ⟨g,hg,eg⟩
  rw[e1]at e;simp[cf,q]at e;exact e.symm
def Nw.fg{i M d:Nat}{c:List Cl}{y:Cl}(h:Hs i M d c)(N:Nw M (cA c 2).length d c y){k pa pb w0 w1 id:Int}{b:Ch}(hid:0<=id/\id<=302+2*(i:Int))(hk:1<=k/\k<=6)(ha:0<=pa/\pa<=302+2*(i:Int))(hb:0<=pb/\pb<=302+2*(i:Int))(h0:0<=w0/\w0<=302+2*(i:Int))(h1:0<=w1/\w1<=302+2*(i:Int))(hbb:b=y.b\/b=cE y.b [(pa,1)]) :
  Fg i M (cA c 2).length d ⟨k,⟨id,y.dim,b⟩,pa,pb,w0,w1⟩:=by
 have hB:∀{X:Nat},1<=2^X:=λ{X}=>B8
 have hk0:∀f∈y.b,0<=f.1/\f.1<=302+2*(i:Int):=λf hf=>by have h2:=N.face f hf;unfold cA at h2;obtain⟨z,hz,e⟩:=AA.1 h2;have:=h.ids z (List.mem_filter.1 hz).1;omega
 have hbn:Bnd (2^(cyE M (cA c 2).length (4+d) (b2F M d) y.dim+4)-1) y.b:=by
  rcases N.bnd with e|⟨_,e⟩
  ·rw[e];exact Bnd.nil _
  ·exact e
 rcases hbb with rfl|rfl
 ·exact⟨hk,N.dim,N.val,by have:=N.bl;simp only;omega,hbn.mono (Nat.sub_le _ _),hk0,hid,ha,hb,h0,h1⟩
 ·refine⟨hk,N.dim,(cR _ _ N.val).1,?_,?_,λf hf=>?_,hid,ha,hb,h0,h1⟩
  ·have h2:=nX y.b [(pa,1)]
   have:=N.bl
   simp only[Au]at h2
   simp only;omega
  ·have h2:=mK (M:=2^(cyE M (cA c 2).length (4+d) (b2F M d) y.dim+4)-1) (K:=1) [(pa,1)] y.b hbn (λf hf=>by rw[AT.1 hf];exact Ap 1)
   refine h2.mono ?_
   have:=@hB (cyE M (cA c 2).length (4+d) (b2F M d) y.dim+4)
   simp only[Au];omega
  ·rcases bJe N.val hf with e|⟨g,hg,e⟩
   ·omega
   ·have:=hk0 g hg;omega
def bZr{c:List Cl}{y:Cl}{M q d:Nat}(N:Nw M q d c y)(hE:cyE M q (4+d) (b2F M d) y.dim+5<4398046511104)(pa:Int):Spec Aa 30 [aK y.b,.sl [[.i .i64 pa,.b (decide ((1:Int)<0)),aM (aU (1:Int).natAbs)]],.ag [.b (decide ((1:Int)<0)),aM (aU (1:Int).natAbs)]] (aK (cE y.b [(pa,1)])):=by
 have hbn:Bnd (2^(cyE M q (4+d) (b2F M d) y.dim+4)) y.b:=by
  rcases N.bnd with e|⟨_,e⟩
  ·rw[e];exact Bnd.nil _
  ·exact e.mono (Nat.sub_le _ _)
 have h1:(aU (1*1)).length<=137438953472:=uL (e:=1) (by decide) (by decide);have h2:1<=2^(cyE M q (4+d) (b2F M d) y.dim+4):=B8;have h3:2^(cyE M q (4+d) (b2F M d) y.dim+4+1)=2^(cyE M q (4+d) (b2F M d) y.dim+4)*2:=Nat.pow_succ ..;have hA:=bHq y.b [(pa,1)] 1 _ 1 1 hbn (λf hf=>by rw[AT.1 hf];exact Ap 1) (by decide) (uL (e:=cyE M q (4+d) (b2F M d) y.dim+4+1) (by rw[h3];simp only[Au];omega) (by omega)) h1 (uL (e:=1) (by decide) (by decide)) (uL (e:=1) (by decide) (by decide)) (by have:=N.bl;simp;omega);exact hA
def bQk{i M d:Nat}{c:List Cl}(h:Hs i M d c)(hi:i<=10)(s:Sx)(hs:s.ok):∃x:Cg,Fg i M (cA c 2).length d x/\Spec Aa 9 [aE c,.ag (mP s)] (.ag (bN x)):=by
 obtain⟨k,a,b,⟨x0,x1,x2,x3⟩⟩:=s;obtain⟨hk,ha,hb,hq⟩:=hs;simp only at hk ha hb hq;have hlen:=h.len;obtain⟨pa,pa1,hPa⟩:=aYc a ha (by omega) h.ids (by omega);obtain⟨pb,pb1,hPb⟩:=aYc b hb (by omega) h.ids (by omega);have hnx:=bRh h.ids (by omega);obtain⟨nx,hne⟩:∃nx,bIp c=nx:=⟨_,rfl⟩;rw[hne]at hnx;have wnx:Ag.wrap (nx+1)=nx+1:=aV;have m1:=C5 k (b:=6) (by omega);have m2:=Es k (b:=6) (by omega);obtain⟨kk,hkk⟩:∃kk,k.tmod 6=kk:=⟨_,rfl⟩;have hkr:0<=kk/\kk<6:=by rw[Dn hk.1]at hkk;omega
 have wu:IntKind.u8.wrap kk=kk:=by rw[xV];omega
 have wi:Ag.wrap kk=kk:=aV;have wk1:Ag.wrap (1+kk)=1+kk:=aV;have hes:mP ⟨k,a,b,(x0,x1,x2,x3)⟩=[.i .u8 k,.i .u8 a,.i .u8 b,.i .i8 x0,.i .i8 x1,.i .i8 x2,.i .i8 x3]:=rfl;have h0:True:=trivial;have w2:Ag.wrap 2=2:=by decide
 have hc:(c.length=0/\True/\True/\True/\True/\True/\True/\nx=1)\/(∃(n:Nat) (z:Cl),0<c.length/\(c.length:Int)-1=(n:Int)/\Ag.wrap (n:Int)=(n:Int)/\(n:Int)<c.length/\c[n]? = some z/\aN z=[.i .i64 z.id,.i .i64 z.dim,aK z.b]/\Ag.wrap (z.id+1)=z.id+1/\nx=z.id+1):=by
  rcases B7 c.length with e|e
  ·left;rw[AE e]at hne;exact⟨e,h0,h0,h0,h0,h0,h0,hne.symm⟩
  ·right;have hg:c[c.length-1]? = some c[c.length-1]:=Ab (by omega);have hm:=h.ids _ (List.mem_of_getElem? hg);refine⟨c.length-1,c[c.length-1],e,by omega,aV,by omega,hg,rfl,aV,?_⟩;rw[<-hne];unfold bIp;rw[List.getLast?_eq_getElem?,Ab (by omega)]
 by_cases k1:kk=0
 ·obtain⟨y,hG,hyi,N⟩:=bLd h hi x0 x1 x2 x3 hq;have hgI:=bTd (x0:=x0) h.ids (by omega);rw[<-hyi]at hgI;have g1:((1+kk==1):Bool)=true:=by simp;omega
  have g4:((1+kk==4):Bool)=false:=by simp;omega
  have g5:((1+kk==5):Bool)=false:=by simp;omega
  have hO1:=bXs 1 (by decide);have hEb:cyE M (cA c 2).length (4+d) (b2F M d) y.dim+5<4398046511104:=by
   have k4:=h.Md;have k5:=h.n2;obtain⟨g1,g2,g3,g4⟩:=aFd (M:=M) (d:=d) (q:=(cA c 2).length) h.M3 (by omega) (by omega);have hb2:b2F M d=2*gG M (4+d)+10+d:=rfl;unfold cyE;split
   ·omega
   ·split
    ·omega
    ·split<;>omega
  have hAdd:=bZr N hEb pa;obtain⟨g,hg⟩:∃g,c++[y]=g:=⟨_,rfl⟩;have hgn:(g.length:Int)-1=(c.length:Int):=by rw[<-hg];simp
  have hgl:(c.length:Int)<g.length:=by rw[<-hg];simp;omega
  have wgl:Ag.wrap ((g.length:Int)-1)=(c.length:Int):=by rw[hgn];exact aV
  have hgz:g[c.length]? = some y:=by rw[<-hg];simp
  rw[hg]at hG;have ey:aN y=[.i .i64 y.id,.i .i64 y.dim,aK y.b]:=rfl;by_cases a0:240<=a
  ·by_cases b0:240<=b
   ·refine⟨⟨1+kk,⟨pb,y.dim,cE y.b [(pa,1)]⟩,pa,pb,nx,nx+1⟩,N.fg h (by omega) (by omega) (by omega) (by omega) (by omega) (by omega) (.inr rfl),?_⟩;rcases hc with ⟨e0,hl1,wn,hn,hz,ez,wz,en⟩|⟨n,z,e0,hl1,wn,hn,hz,ez,wz,en⟩
    all_goals
     subst en
     refine jR (N:=118) pU bL Ed rfl rfl rfl (by kernel_rfl) (by kernel_rfl) (by simp) ?_
     unfold pU
     simp[-C,-E,↓KW,aE,h0,hl1,wn,hn,hz,ez,wz,aC,hes,e0,hkk,wu,wi,wk1,↓cI,↓cJ,↓cQ,↓cP,cO]
     refine aJ hPa ?_
     simp[-C,-E,↓KW,aE,↓cI,↓cJ,↓cQ,↓cP,cO]
     refine aJ hPb ?_
     simp[-C,-E,↓KW,aE,w2,wnx,g1,g4,g5,↓cI,↓cJ,↓cQ,↓cP,cO]
     refine aJ hG ?_
     simp[-C,-E,↓KW,g1,g4,g5,aE,hgl,wgl,hgz,ey,a0,b0,aC,aA,aB,↓cI,↓cJ,↓cQ,↓cP,cO]
     refine aJ hPa ?_
     simp[-C,-E,↓KW,aE,aC,aA,aB]
     refine aJ hO1 ?_
     simp[-C,-E,↓KW,encZ,encI,aE,aF,aD,aG,aC,aA,aB]
     refine aJ hO1 ?_
     simp[-C,-E,↓KW,encZ,encI,aE,aF,aD,aG,aC,aA,aB]
     refine aJ hAdd ?_
     simp[-C,-E,↓KW,g1,g4,g5,aE,aK,kill]
     rfl
   ·refine⟨⟨1+kk,⟨pb,y.dim,y.b⟩,pa,pb,nx,nx+1⟩,N.fg h (by omega) (by omega) (by omega) (by omega) (by omega) (by omega) (.inl rfl),?_⟩;rcases hc with ⟨e0,hl1,wn,hn,hz,ez,wz,en⟩|⟨n,z,e0,hl1,wn,hn,hz,ez,wz,en⟩
    all_goals
     subst en
     refine jR (N:=118) pU bL Ed rfl rfl rfl (by kernel_rfl) (by kernel_rfl) (by simp) ?_
     unfold pU
     simp[-C,-E,↓KW,aE,h0,hl1,wn,hn,hz,ez,wz,aC,hes,e0,hkk,wu,wi,wk1,↓cI,↓cJ,↓cQ,↓cP,cO]
     refine aJ hPa ?_
     simp[-C,-E,↓KW,aE,↓cI,↓cJ,↓cQ,↓cP,cO]
     refine aJ hPb ?_
     simp[-C,-E,↓KW,aE,w2,wnx,g1,g4,g5,↓cI,↓cJ,↓cQ,↓cP,cO]
     refine aJ hG ?_
     simp[-C,-E,↓KW,g1,g4,g5,aE,hgl,wgl,hgz,ey,a0,b0,aC,aA,aB,↓cI,↓cJ,↓cQ,↓cP,cO]
     rfl
  ·by_cases b0:240<=b
   ·refine⟨⟨1+kk,⟨y.id,y.dim,cE y.b [(pa,1)]⟩,pa,pb,nx,nx+1⟩,N.fg h (by omega) (by omega) (by omega) (by omega) (by omega) (by omega) (.inr rfl),?_⟩;rcases hc with ⟨e0,hl1,wn,hn,hz,ez,wz,en⟩|⟨n,z,e0,hl1,wn,hn,hz,ez,wz,en⟩
    all_goals
     subst en
     refine jR (N:=118) pU bL Ed rfl rfl rfl (by kernel_rfl) (by kernel_rfl) (by simp) ?_
     unfold pU
     simp[-C,-E,↓KW,aE,h0,hl1,wn,hn,hz,ez,wz,aC,hes,e0,hkk,wu,wi,wk1,↓cI,↓cJ,↓cQ,↓cP,cO]
     refine aJ hPa ?_
     simp[-C,-E,↓KW,aE,↓cI,↓cJ,↓cQ,↓cP,cO]
     refine aJ hPb ?_
     simp[-C,-E,↓KW,aE,w2,wnx,g1,g4,g5,↓cI,↓cJ,↓cQ,↓cP,cO]
     refine aJ hG ?_
     simp[-C,-E,↓KW,g1,g4,g5,aE,hgl,wgl,hgz,ey,a0,b0,aC,aA,aB,↓cI,↓cJ,↓cQ,↓cP,cO]
     refine aJ hPa ?_
     simp[-C,-E,↓KW,aE,aC,aA,aB]
     refine aJ hO1 ?_
     simp[-C,-E,↓KW,encZ,encI,aE,aF,aD,aG,aC,aA,aB]
     refine aJ hO1 ?_
     simp[-C,-E,↓KW,encZ,encI,aE,aF,aD,aG,aC,aA,aB]
     refine aJ hAdd ?_
     simp[-C,-E,↓KW,g1,g4,g5,aE,aK,kill]
     rfl
   ·refine⟨⟨1+kk,⟨y.id,y.dim,y.b⟩,pa,pb,nx,nx+1⟩,N.fg h (by omega) (by omega) (by omega) (by omega) (by omega) (by omega) (.inl rfl),?_⟩;rcases hc with ⟨e0,hl1,wn,hn,hz,ez,wz,en⟩|⟨n,z,e0,hl1,wn,hn,hz,ez,wz,en⟩
    all_goals
     subst en
     refine jR (N:=118) pU bL Ed rfl rfl rfl (by kernel_rfl) (by kernel_rfl) (by simp) ?_
     unfold pU
     simp[-C,-E,↓KW,aE,h0,hl1,wn,hn,hz,ez,wz,aC,hes,e0,hkk,wu,wi,wk1,↓cI,↓cJ,↓cQ,↓cP,cO]
     refine aJ hPa ?_
     simp[-C,-E,↓KW,aE,↓cI,↓cJ,↓cQ,↓cP,cO]
     refine aJ hPb ?_
     simp[-C,-E,↓KW,aE,w2,wnx,g1,g4,g5,↓cI,↓cJ,↓cQ,↓cP,cO]
     refine aJ hG ?_
     simp[-C,-E,↓KW,g1,g4,g5,aE,hgl,wgl,hgz,ey,a0,b0,aC,aA,aB,↓cI,↓cJ,↓cQ,↓cP,cO]
     rfl
 by_cases k4:kk=3
 ·have hF:=bQl (h.sz (by omega)) (by rw[aCg];omega);rw[aLv h.v]at hF;have hfl:=aKb (h.sz (by omega));have hin:∀p∈jL c,(0<=p.1/\p.1<=302+2*(i:Int))/\0<=p.2/\p.2<=302+2*(i:Int):=λp hp=>by obtain⟨⟨y,hy,e1⟩,⟨z,hz,e2⟩⟩:=bLk h.v hp;have:=h.ids y hy;have:=h.ids z hz;omega
  obtain⟨fr,hfr⟩:∃fr,jL c=fr:=⟨_,rfl⟩;rw[hfr]at hF hfl hin;have g1:((1+kk==1):Bool)=false:=by simp;omega
  have g4:((1+kk==4):Bool)=true:=by simp;omega
  have wa:Ag.wrap a=a:=aV;by_cases hgo:0<fr.length/\b<240
  ·obtain⟨f0,b0⟩:=hgo;have fne:¬fr=[]:=λe=>by rw[e]at f0;exact Nat.lt_irrefl 0 f0
   have m1:=C5 a (b:=(fr.length:Int)) (by omega);have m2:=Es a (b:=(fr.length:Int)) (by omega);obtain⟨j,j1,j2⟩:∃j:Nat,j<fr.length/\a.tmod (fr.length:Int)=(j:Int):=⟨(a%fr.length).toNat,by omega,by rw[Dn ha.1];omega⟩;have j3:(j:Int)<fr.length:=by omega
   have hp:fr[j]? = some fr[j]:=Ab j1;have hpm:fr[j]∈fr:=Ar j1;refine exE fr[j] λp hpe=>?_
   rw[hpe]at hp hpm;have hpe':∀h:j<fr.length,fr[j]'h=p:=λ_=>hpe
   have wj:Ag.wrap (j:Int)=(j:Int):=aV;have ep:wZ p=[.i .i64 p.1,.i .i64 p.2]:=rfl;obtain⟨q1,q2⟩:=hin p hpm;refine⟨⟨1+kk,⟨0,0,[]⟩,p.1,p.2,nx,nx+1⟩,Fg.zero (by omega) q1 q2 (by omega) (by omega),?_⟩;rcases hc with ⟨e0,hl1,wn,hn,hz,ez,wz,en⟩|⟨n,z,e0,hl1,wn,hn,hz,ez,wz,en⟩
   ·subst en;refine jR (N:=118) pU bL Ed rfl rfl rfl (by kernel_rfl) (by kernel_rfl) (by simp) ?_;unfold pU;simp[-C,-E,↓KW,aE,h0,hes,e0,hkk,wu,wi,wk1,↓cI,↓cJ,↓cQ,↓cP,cO];refine aJ hPa ?_;simp[-C,-E,↓KW,aE,↓cI,↓cJ,↓cQ,↓cP,cO];refine aJ hPb ?_;simp[-C,-E,↓KW,aE,w2,wnx,g1,g4,↓cI,↓cJ,↓cQ,↓cP,cO];refine aJ hF ?_;simp[-C,-E,↓KW,fR,g1,g4,f0,fne,b0,j1,j2,j3,hp,hpe',wj,wa,↓cI,↓cJ,↓cQ,↓cP,↓wE,cO];refine aAs (StL [(4,.ptr 1 0),(6,.ptr 2 0)] none [.cells 43 [.d (.i .i64 0),.d (.i .i64 0),.d (.i .i64 0),.nil,.d (.i .i64 0),.d (.i .i64 0),.d (.i .i64 0),.d (.i .i64 0)],.cells 43 [.d (.i .i64 (1+kk)),.d (.i .i64 0),.d (.i .i64 0),.nil,.d (.i .i64 p.1),.d (.i .i64 p.2),.d (.i .i64 (1)),.d (.i .i64 (2))]]) _ _ rfl rfl ?_ ?_
    ·simp only[opsL,opL,mE,Cz,Dz,Ci,BZ,Cf,Cq,BN,BM];simp[-C,-E,↓KW,fR,f0,fne,b0,j1,j2,j3,hp,hpe',wj,wa,ep,↓dN,↓dO,↓dP,↓cU];refine .inr (wkQ [2,3] ?_ ?_)<;>simp[-C,upd,aO,Γ0,fR]
    ·simp[-C,-E,↓KW,ep];rfl
   ·subst en;refine jR (N:=118) pU bL Ed rfl rfl rfl (by kernel_rfl) (by kernel_rfl) (by simp) ?_;unfold pU;simp[-C,-E,↓KW,aE,h0,hl1,wn,hn,hz,ez,wz,aC,hes,e0,hkk,wu,wi,wk1,↓cI,↓cJ,↓cQ,↓cP,cO];refine aJ hPa ?_;simp[-C,-E,↓KW,aE,↓cI,↓cJ,↓cQ,↓cP,cO];refine aJ hPb ?_;simp[-C,-E,↓KW,aE,w2,wnx,g1,g4,↓cI,↓cJ,↓cQ,↓cP,cO];refine aJ hF ?_;simp[-C,-E,↓KW,fR,g1,g4,f0,fne,b0,j1,j2,j3,hp,hpe',wj,wa,↓cI,↓cJ,↓cQ,↓cP,↓wE,cO];refine aAs (StL [(4,.ptr 1 0),(6,.ptr 2 0)] none [.cells 43 [.d (.i .i64 0),.d (.i .i64 0),.d (.i .i64 0),.nil,.d (.i .i64 0),.d (.i .i64 0),.d (.i .i64 0),.d (.i .i64 0)],.cells 43 [.d (.i .i64 (1+kk)),.d (.i .i64 0),.d (.i .i64 0),.nil,.d (.i .i64 p.1),.d (.i .i64 p.2),.d (.i .i64 (z.id+1)),.d (.i .i64 (z.id+1+1))]]) _ _ rfl rfl ?_ ?_
    ·simp only[opsL,opL,mE,Cz,Dz,Ci,BZ,Cf,Cq,BN,BM];simp[-C,-E,↓KW,fR,f0,fne,b0,j1,j2,j3,hp,hpe',wj,wa,ep,↓dN,↓dO,↓dP,↓cU];refine .inr (wkQ [2,3] ?_ ?_)<;>simp[-C,upd,aO,Γ0,fR]
    ·simp[-C,-E,↓KW,ep];rfl
  ·refine⟨⟨1+kk,⟨0,0,[]⟩,pa,pb,nx,nx+1⟩,Fg.zero (by omega) (by omega) (by omega) (by omega) (by omega),?_⟩;by_cases f0:0<fr.length
   ·have b0:¬b<240:=λe=>hgo ⟨f0,e⟩
    rcases hc with ⟨e0,hl1,wn,hn,hz,ez,wz,en⟩|⟨n,z,e0,hl1,wn,hn,hz,ez,wz,en⟩
    all_goals
     subst en
     refine jR (N:=118) pU bL Ed rfl rfl rfl (by kernel_rfl) (by kernel_rfl) (by simp) ?_
     unfold pU
     simp[-C,-E,↓KW,aE,h0,hl1,wn,hn,hz,ez,wz,aC,hes,e0,hkk,wu,wi,wk1,↓cI,↓cJ,↓cQ,↓cP,cO]
     refine aJ hPa ?_
     simp[-C,-E,↓KW,aE,↓cI,↓cJ,↓cQ,↓cP,cO]
     refine aJ hPb ?_
     simp[-C,-E,↓KW,aE,w2,wnx,g1,g4,↓cI,↓cJ,↓cQ,↓cP,cO]
     refine aJ hF ?_
     simp[-C,-E,↓KW,fR,g1,g4,f0,b0,↓cI,↓cJ,↓cQ,↓cP,↓wE,cO]
     rfl
   ·have f1:fr=[]:=AE (by omega);subst f1;rcases hc with ⟨e0,hl1,wn,hn,hz,ez,wz,en⟩|⟨n,z,e0,hl1,wn,hn,hz,ez,wz,en⟩
    all_goals
     subst en
     refine jR (N:=118) pU bL Ed rfl rfl rfl (by kernel_rfl) (by kernel_rfl) (by simp) ?_
     unfold pU
     simp[-C,-E,↓KW,aE,h0,hl1,wn,hn,hz,ez,wz,aC,hes,e0,hkk,wu,wi,wk1,↓cI,↓cJ,↓cQ,↓cP,cO]
     refine aJ hPa ?_
     simp[-C,-E,↓KW,aE,↓cI,↓cJ,↓cQ,↓cP,cO]
     refine aJ hPb ?_
     simp[-C,-E,↓KW,aE,w2,wnx,g1,g4,↓cI,↓cJ,↓cQ,↓cP,cO]
     refine aJ hF ?_
     simp[-C,-E,↓KW,fR,g1,g4,↓cI,↓cJ,↓cQ,↓cP,↓wE,cO]
     rfl
 by_cases k5:kk=4
 ·have g1:((1+kk==1):Bool)=false:=by simp;omega
  have g4:((1+kk==4):Bool)=false:=by simp;omega
  have g5:((1+kk==5):Bool)=true:=by simp;omega
  by_cases b0:240<=b
  ·refine⟨⟨1+kk,⟨0,0,[]⟩,pa,pb,nx,pb⟩,Fg.zero (by omega) (by omega) (by omega) (by omega) (by omega),?_⟩;rcases hc with ⟨e0,hl1,wn,hn,hz,ez,wz,en⟩|⟨n,z,e0,hl1,wn,hn,hz,ez,wz,en⟩
   all_goals
    subst en
    refine jR (N:=118) pU bL Ed rfl rfl rfl (by kernel_rfl) (by kernel_rfl) (by simp) ?_
    unfold pU
    simp[-C,-E,↓KW,aE,h0,hl1,wn,hn,hz,ez,wz,aC,hes,e0,hkk,wu,wi,wk1,↓cI,↓cJ,↓cQ,↓cP,cO]
    refine aJ hPa ?_
    simp[-C,-E,↓KW,aE,↓cI,↓cJ,↓cQ,↓cP,cO]
    refine aJ hPb ?_
    simp[-C,-E,↓KW,aE,w2,wnx,g1,g4,g5,b0,↓cI,↓cJ,↓cQ,↓cP,cO]
    rfl
  ·refine⟨⟨1+kk,⟨0,0,[]⟩,pa,pb,nx,nx+1⟩,Fg.zero (by omega) (by omega) (by omega) (by omega) (by omega),?_⟩;rcases hc with ⟨e0,hl1,wn,hn,hz,ez,wz,en⟩|⟨n,z,e0,hl1,wn,hn,hz,ez,wz,en⟩
   all_goals
    subst en
    refine jR (N:=118) pU bL Ed rfl rfl rfl (by kernel_rfl) (by kernel_rfl) (by simp) ?_
    unfold pU
    simp[-C,-E,↓KW,aE,h0,hl1,wn,hn,hz,ez,wz,aC,hes,e0,hkk,wu,wi,wk1,↓cI,↓cJ,↓cQ,↓cP,cO]
    refine aJ hPa ?_
    simp[-C,-E,↓KW,aE,↓cI,↓cJ,↓cQ,↓cP,cO]
    refine aJ hPb ?_
    simp[-C,-E,↓KW,aE,w2,wnx,g1,g4,g5,b0,↓cI,↓cJ,↓cQ,↓cP,cO]
    rfl
 ·refine⟨⟨1+kk,⟨0,0,[]⟩,pa,pb,nx,nx+1⟩,Fg.zero (by omega) (by omega) (by omega) (by omega) (by omega),?_⟩;have g1:((1+kk==1):Bool)=false:=by simp;omega
  have g4:((1+kk==4):Bool)=false:=by simp;omega
  have g5:((1+kk==5):Bool)=false:=by simp;omega
  rcases hc with ⟨e0,hl1,wn,hn,hz,ez,wz,en⟩|⟨n,z,e0,hl1,wn,hn,hz,ez,wz,en⟩
  all_goals
   subst en
   refine jR (N:=118) pU bL Ed rfl rfl rfl (by kernel_rfl) (by kernel_rfl) (by simp) ?_
   unfold pU
   simp[-C,-E,↓KW,aE,h0,hl1,wn,hn,hz,ez,wz,aC,hes,e0,hkk,wu,wi,wk1,↓cI,↓cJ,↓cQ,↓cP,cO]
   refine aJ hPa ?_
   simp[-C,-E,↓KW,aE,↓cI,↓cJ,↓cQ,↓cP,cO]
   refine aJ hPb ?_
   simp[-C,-E,↓KW,aE,w2,wnx,g1,g4,g5,↓cI,↓cJ,↓cQ,↓cP,cO]
   rfl
end Go.Am
end
section
open List renaming map_map->C,mapM_map->E
open Go Go.Am Go.Proofs
namespace Go.Am
open Go.ChangeShapes Go.WideShapes Go.ChangeAt Go.RowKit
def bEw:Aa.cellsOf 29=7:=by kernel_rfl
def cBm{α:Type}{l:List α}(h:l.length=7):∃a b c d e f g,l=[a,b,c,d,e,f,g]:=by
 match l,h with
 |[a,b,c,d,e,f,g],_=>exact⟨a,b,c,d,e,f,g,rfl⟩
section
variable {H:Type} {enc:TypeId×Value->H} {w:World} {sp:Nat->Bool} {held:Bool}
def cAs{cs:List Value}{x:DataW H×List MemPlace}{fuel:Nat}(h:DataW.trod enc Aa w 0 sp held fuel 29 cs=some x) :
  ∃y:Sx,y.ok/\cs.length=7/\(mP y).length=Aa.cellsOf 29/\∀(k:Nat) (c:D) (v:Value),(mP y)[k]? = some c->cs[k]? = some v->VD (λb=>b<w.heap.size) w c v:=by
 obtain⟨xs,n,_,_,hl,hlen,hfs⟩:=DataW.trod_struct Tryz.underlying29 h
 rw[bEw]at hl
 have h0:=hfs 0 { name := "K",type:=5,offset:=0,embedded:=false,tag := "",pkgPath := "",byteOffset:=0 } rfl
 have h1:=hfs 1 { name := "A",type:=5,offset:=1,embedded:=false,tag := "",pkgPath := "",byteOffset:=1 } rfl
 have h2:=hfs 2 { name := "B",type:=5,offset:=2,embedded:=false,tag := "",pkgPath := "",byteOffset:=2 } rfl
 have h3:=hfs 3 { name := "F",type:=27,offset:=3,embedded:=false,tag := "",pkgPath := "",byteOffset:=3 } rfl
 obtain⟨x0,hx0⟩:∃x,xs[0]? = some x:=⟨_,Ab (by rw[hlen];decide)⟩
 obtain⟨x1,hx1⟩:∃x,xs[1]? = some x:=⟨_,Ab (by rw[hlen];decide)⟩
 obtain⟨x2,hx2⟩:∃x,xs[2]? = some x:=⟨_,Ab (by rw[hlen];decide)⟩
 obtain⟨x3,hx3⟩:∃x,xs[3]? = some x:=⟨_,Ab (by rw[hlen];decide)⟩
 rw[hx0]at h0;rw[hx1]at h1;rw[hx2]at h2;rw[hx3]at h3
 obtain⟨a,b,c,d,e,f,g,rfl⟩:=cBm hl
 simp only[zU8,zA4,BZ,Ci,Cf,Cq]at h0 h1 h2 h3
 obtain⟨i0,e0,_,w0⟩:=DU Dy h0
 obtain⟨i1,e1,_,w1⟩:=DU Dy h1
 obtain⟨i2,e2,_,w2⟩:=DU Dy h2
 obtain⟨y,hy,_,hv⟩:=bVo h3
 injection e0 with e0;injection e1 with e1;injection e2 with e2
 subst e0;subst e1;subst e2
 refine⟨⟨i0,i1,i2,y⟩,⟨aDz w0,aDz w1,aDz w2,hy⟩,rfl,by rw[bEw];rfl,λk c v hk hv'=>?_⟩
 rcases k with _|_|_|k
 ·simp[mP]at hk hv';subst hk;subst hv';exact .i _ _
 ·simp[mP]at hk hv';subst hk;subst hv';exact .i _ _
 ·simp[mP]at hk hv';subst hk;subst hv';exact .i _ _
 ·refine hv k c v ?_ ?_
  ·exact hk
  ·exact hv'
def bQu{cs:List Value}{x:DataW H×List MemPlace}{fuel:Nat}(hf:DataW.trod enc Aa w 0 sp held fuel 25 cs=some x) :
  ∃(u:Value) (l:List Sx),cs=[u]/\VD (λb=>b<w.heap.size) w (.sl (l.map mP)) u/\(∀x∈l,x.ok)/\l.length<=9223372036854775807 :=
 aJd Tryz.underlying25 (by rw[bEw];decide) mP Sx.ok (λfuel cs x h=>by
  obtain⟨y,h1,_,h2,h3⟩:=cAs h;exact⟨y,h1,h2,h3⟩) hf
end
end Go.Am
end
section
open List renaming map_map->C,mapM_map->E
open Go Go.Am Go.Proofs
namespace Go.Am
def bVl:gQ Aa 49:=aEr Tryz.func49 (by kernel_rfl) rfl rfl rfl
def aXt{a b:Hi}(hs:a.s≠b.s):Spec Aa 24 [bY a,bY b] (h2D (a,320)):=by
 have hd:((a.s != b.s):Bool)=true:=by simpa using hs
 refine qL (N:=120) Tryz.func24 bVl ?_;simp[-C,-E,↓KW,↓cN,↓bQ,↓cL,↓cM,dC,bW,aE,hd,cC,h2D]
def cCu(x y:List Cg):Prop:=x=[]\/y=[]\/∃x0 xs y0 ys,x=x0::xs/\y=y0::ys/\Spec Aa 52 [.ag (bN x0),.ag (bN y0)] (.b false)
structure MgH(s:Int)(c:List Cl)(p x y:List Cg)(pc:List Cl):Prop where
 cl:c.length<=1000
 cs:∀z∈c,SzC z
 ps:∀z∈p,SzC z.c
 xl:p.length+x.length<=2000
 yl:p.length+y.length<=2000
 stop:cCu x y
 okp:OkA c p
 snd:kW c p=(pc,0)
 okx:OkA pc (x++y)
 oky:OkA pc (y++x)
def aEd{s:Int}{c:List Cl}{p x y:List Cg}{pc o1 o2:List Cl}{e1 e2:Int}(h:MgH s c p x y pc)(h1:kW pc (x++y)=(o1,e1))(h2:kW pc (y++x)=(o2,e2))(hcase:e1≠0\/e1=0/\e2=0/\o1=o2/\o1.length<=1000/\∀z∈o1,SzC z) :
  Spec Aa 24 [bY ⟨s,c,p++x⟩,bY ⟨s,c,p++y⟩] (h2D (if e1=0 then(⟨s,c,p++x++y⟩,0)else(⟨s,c,p++x⟩,321))):=by
 have hxl:=h.xl
 have hyl:=h.yl
 have hd:((s != s):Bool)=false:=by simp
 have hE:=aSn h.cs (by have:=h.cl;omega)
 have hRp:=xX (c0:=c) (ls:=[p]) (by simpa using h.okp) (by simp) (by simp;omega)
 have hRx:=xX (c0:=pc) (ls:=[x,y]) (by simpa using h.okx) (by simp) (by simp;omega)
 have hRy:=xX (c0:=pc) (ls:=[y,x]) (by simpa using h.oky) (by simp) (by simp;omega)
 simp only[List.flatten_cons,List.flatten_nil,AX,h1,h2,h.snd]at hRp hRx hRy
 have hCc:=aZw (p++x) y (by simp;omega) (by omega)
 rw[aSr]at hCc
 have okA:=aQo (p++x)
 have okB:=aQo (p++y)
 have hAi:∀i,∀h:i<p.length,((p++x).map bN)[i]? = some (bN p[i]):=λi hi=>by rw[Aw,AJ hi,Ab hi];rfl
 have hBi:∀i,∀h:i<p.length,((p++y).map bN)[i]? = some (bN p[i]):=λi hi=>by rw[Aw,AJ hi,Ab hi];rfl
 have hAl:((p++x).map bN).length=p.length+x.length:=by simp
 have hBl:((p++y).map bN).length=p.length+y.length:=by simp
 have hAt:((p++x).map bN).take p.length=p.map bN:=by rw[<-By,List.take_left]
 have hAd:((p++x).map bN).drop p.length=x.map bN:=by rw[<-Bu,List.drop_left]
 have hBd:((p++y).map bN).drop p.length=y.map bN:=by rw[<-Bu,List.drop_left]
 have hAe:∀x0 xs,x=x0::xs->((p++x).map bN)[p.length]? = some (bN x0):=λx0 xs e=>by subst e;simp
 have hBe:∀x0 xs,y=x0::xs->((p++y).map bN)[p.length]? = some (bN x0):=λx0 xs e=>by subst e;simp
 have hAf:((p++x).map bN).take (p.length+x.length)=(p++x).map bN:=Ai (by simp)
 have hBf:((p++y).map bN).take (p.length+y.length)=(p++y).map bN:=Ai (by simp)
 have ha:bY ⟨s,c,p++x⟩=.ag [.i .i64 s,.sl (c.map aN),.sl ((p++x).map bN)]:=rfl
 have hb:bY ⟨s,c,p++y⟩=.ag [.i .i64 s,.sl (c.map aN),.sl ((p++y).map bN)]:=rfl
 have hxy:bY ⟨s,c,p++x++y⟩=.ag [.i .i64 s,.sl (c.map aN),.sl ((p++x++y).map bN)]:=rfl
 have hLg:bW (p++x++y)=.sl ((p++x++y).map bN):=rfl
 rw[hLg]at hCc
 obtain⟨A,hA⟩:∃A,(p++x).map bN=A:=⟨_,rfl⟩
 obtain⟨B,hB⟩:∃B,(p++y).map bN=B:=⟨_,rfl⟩
 obtain⟨AY,hAY⟩:∃B,(p++x++y).map bN=B:=⟨_,rfl⟩
 have hrd:∀r e,r2D (r,e)=.tp [.sl (r.map aN),.i .i64 e]:=λ_ _=>rfl
 simp only[pO,bW,aE,List.map_cons,List.map_nil,hrd]at hRp hRx hRy hE
 obtain⟨PC,hPC⟩:∃B,pc.map aN=B:=⟨_,rfl⟩
 obtain⟨O1,hO1⟩:∃B,o1.map aN=B:=⟨_,rfl⟩
 obtain⟨O2,hO2⟩:∃B,o2.map aN=B:=⟨_,rfl⟩
 rw[hPC]at hRp hRx hRy
 rw[hO1]at hRx
 rw[hO2]at hRy
 have hYLl:(y.map bN).length=y.length:=by simp
 have ql:¬(4000:Int)<p.length+x.length+y.length:=by omega
 have wl:Ag.wrap ((p.length:Int)+x.length+y.length)=(p.length:Int)+x.length+y.length:=aV
 have tn1:((p.length:Int)+x.length).toNat=p.length+x.length:=by omega
 have tn2:((p.length:Int)+y.length).toNat=p.length+y.length:=by omega
 have qp1:(p.length:Int)<=p.length+x.length:=by omega
 have qp2:(p.length:Int)<=p.length+y.length:=by omega
 rw[hA]at okA hAl hAt hAd hAf ha hCc
 rw[hB]at okB hBl hBd hBf hb
 simp only[hA]at hAi hAe
 simp only[hB]at hBi hBe
 rw[hAY]at hCc hxy
 obtain⟨XL,hXL⟩:∃B,x.map bN=B:=⟨_,rfl⟩
 obtain⟨YL,hYL⟩:∃B,y.map bN=B:=⟨_,rfl⟩
 obtain⟨PL,hPL⟩:∃B,p.map bN=B:=⟨_,rfl⟩
 obtain⟨CL,hCL⟩:∃B,c.map aN=B:=⟨_,rfl⟩
 rw[hXL]at hAd hRx hRy
 rw[hYL]at hBd hRx hRy hCc hYLl
 rw[hPL]at hAt hRp
 rw[hCL]at ha hb hxy hRp hE
 have hxy2:=hxy
 rw[List.append_assoc]at hxy2
 rw[ha,hb]
 clear hA hB
 refine qL (N:=120) Tryz.func24 bVl ?_
 simp[-C,-E,↓KW,↓cN,↓bQ,↓cL,↓cM,hd,nF,jX]
 refine aJ hE ?_
 simp[-C,-E,↓KW,↓cN,↓bQ,↓cL,↓cM]
 refine aP (λi:Nat=>i<=p.length) (λi=>StL [(2,.ptr 1 0),(3,.ptr 2 0),(4,.ptr 3 0),(5,.d (.i .i64 0)),(6,.d (.i .i64 (i:Int)))] none [.cells 35 [.d (.i .i64 s),.d (.sl CL),.d (.sl A)],.cells 35 [.d (.i .i64 s),.d (.sl CL),.d (.sl B)],.cells 35 [.d (.i .i64 0),.nil,.nil]]) (λi=>p.length-i) 0 (Ak _) ?_ ?_
 ·refine wkQ [1,2,3] ?_ ?_<;>simp[-C,upd,aO,Γ0]
 ·intro i hi
  by_cases hgo:i<p.length
  ·have q1:(i:Int)<p.length+x.length:=by omega
   have q2:(i:Int)<p.length+y.length:=by omega
   have hxa:=hAi i hgo
   have hxb:=hBi i hgo
   have hps:=h.ps _ (Ar hgo)
   have hw:Ag.wrap ((i:Int)+1)=(i:Int)+1:=aV
   refine exE p[i] λu hue=>?_
   rw[hue]at hxa hxb hps
   have hS:=aOl hps
   have huc:=dJ u
   simp[-C,-E,↓KW,hAl,hBl,q1,q2,hxa,hxb,okA,okB,huc,aC,aA,aB]
   refine aJ hS ?_
   simp[-C,-E,↓KW,hw]
   refine aI (i+1) hgo (slQ hgo) (wkQ [1,2,3] ?_ ?_)<;>simp[-C,upd,aO,Γ0]
  ·have hip:i=p.length:=by omega
   subst hip
   cases hf1:oG (D.sl PC)with
   |_ =>
    cases hf2:oG (D.sl O1)with
    |_ =>
     rcases h.stop with ex|ey|⟨x0,xs,y0,ys,ex,ey,hS⟩
     have q1:¬(p.length:Int)<p.length+x.length:=by rw[ex];simp
     simp[-C,-E,↓KW,hAl,hBl,q1,okA,okB,hAt,qp1]
     rotate_left
     by_cases ex:x=[]
     have q1:¬(p.length:Int)<p.length+x.length:=by rw[ex];simp
     simp[-C,-E,↓KW,hAl,hBl,q1,okA,okB,hAt,qp1]
     rotate_left
     have hx1:0<x.length:=Dq.2 ex
     have q1:(p.length:Int)<p.length+x.length:=by omega
     have q2:¬(p.length:Int)<p.length+y.length:=by rw[ey];simp
     simp[-C,-E,↓KW,hAl,hBl,q1,q2,okA,okB,hAt,qp1]
     rotate_left
     have hx1:0<x.length:=by rw[ex];simp
     have hy1:0<y.length:=by rw[ey];simp
     have q1:(p.length:Int)<p.length+x.length:=by omega
     have q2:(p.length:Int)<p.length+y.length:=by omega
     have hxa:=hAe x0 xs ex
     have hxb:=hBe y0 ys ey
     have hu0:=dJ x0
     have hu1:=dJ y0
     clear ex ey
     simp[-C,-E,↓KW,hAl,hBl,q1,q2,hxa,hxb,okA,okB,hu0,hu1,aC,aA,aB]
     refine aJ hS ?_
     simp[-C,-E,↓KW,hAl,okA,hAt,qp1]
     all_goals
      refine aJ hRp ?_
      simp[-C,-E,↓KW,hf1,kill,tn1,tn2,hAl,hBl,hAd,hBd,hAf,hBf,okA,okB,qp1,qp2]
      refine aJ hRx ?_
      by_cases he:e1=0
      ·obtain⟨he2,hoo,hol,hos⟩:=hcase.resolve_left (λq=>q he) |>.2
       subst he;subst he2;subst hoo
       have hE2:=aSn hos (by omega)
       simp only[aE]at hE2
       rw[hO1]at hE2
       have hO2':O2=O1:=by rw[<-hO1,<-hO2]
       subst hO2'
       simp[-C,-E,↓KW,hf2,kill]
       refine aJ hRy ?_
       simp[-C,-E,↓KW,↓cN,↓bQ,↓cL,↓cM,hf2,kill,nF,jX]
       refine aJ hE2 ?_
       simp[-C,-E,↓KW,hf2,kill,hAl,hYLl,ql,wl]
       refine aJ hCc ?_
       cases hf4:oG (D.sl AY)<;>simp[-C,-E,↓KW,hf4,kill,cC,h2D,hxy,hxy2]
      ·have he':((e1 != 0):Bool)=true:=by simpa using he
       simp[-C,-E,↓KW,hf2,kill,he,he',cC,h2D,ha]
def bHl{h:Hi}{c:List Cl}(n:Int)(ho:OkH h)(hs:aTo h c)(hl:(h.l.length:Int)<=n)(hv:CxV h.c)(hz:SzX bV h.c):Spec Aa 20 [bY h,.i .i64 n] (.b true):=by
 have hV:=bHr hv hz (by rw[aCg];omega);have hA:=bHn (c0:=h.c) (l:=h.l) ho.ok ho.len;rw[hs]at hA;have hRD:r2D (c,0)=.tp [aE c,.i .i64 0]:=rfl;rw[hRD]at hA;have q1:¬h.s<0:=by have:=ho.s0;omega
 have q2:¬n<(h.l.length:Int):=by omega
 refine bF (N:=33) Tryz.func20 ?_;simp[-C,-E,↓KW,dC,bW,aE,q1,q2];refine aJ hV ?_;simp[-C,-E,↓KW,aE,bW];refine aJ hA ?_;simp[-C,-E,↓KW,aE]
def smF(f:Int×Int):Bool:=decide (0<=f.1)&&decide (f.1<=1000)&&decide (f.2.natAbs<=2)
def smL(x:Cl):Bool:=decide (x.b.length<=2)&&x.b.all smF&&decide (0<=x.id)&&decide (x.id<=1000)&&decide (0<=x.dim)&&decide (x.dim<=3)
def smC(c:List Cl):Bool:=decide (c.length<=5)&&c.all smL
def smG(x:Cg):Bool:=(decide (x.k=1)||decide (x.k=2)||decide (x.k=6))&&smL x.c&&decide (x.c.b.length<=1)&&x.c.b.all (λf=>!decide (f.2=0))&&decide (0<=x.a)&&decide (x.a<=1000)&&decide (0<=x.w0)&&decide (x.w0<=1000)&&decide (0<=x.w1)&&decide (x.w1<=1000)
def okB:List Cl->List Cg->Bool
 |_,[]=>true
 |c,x::l=>smC c&&smG x&&(!decide ((doX c x).2=0)||okB (doX c x).1 l)
def aUk{c:List Cl}(h:smC c=true):SzX bV c/\∀y∈c,Keys y.b/\SzC y:=by
 simp only[smC,AO,AI,Ay]at h;obtain⟨h1,h2⟩:=h;have hp:2<=2^bV:=An (by decide:2<=2^1) (yL (by decide));have hy:∀y∈c,y.b.length<=2/\∀f∈y.b,0<=f.1/\f.1<=1000/\f.2.natAbs<=2:=λy hy=>by have:=h2 y hy;simp only[smL,smF,AO,AI,Ay]at this;exact⟨this.1.1.1.1.1,λf hf=>⟨(this.1.1.1.1.2 f hf).1.1,(this.1.1.1.1.2 f hf).1.2,(this.1.1.1.1.2 f hf).2⟩⟩
 refine⟨⟨by omega,λy h=>by have:=(hy y h).1;omega,λy h f hf=>An ((hy y h).2 f hf).2.2 hp⟩,λy h=>⟨λf hf=>by have:=(hy y h).2 f hf;simp only[inr,AI];omega,by have:=(hy y h).1;omega,λf hf=>szE (e:=1) ((hy y h).2 f hf).2.2 (by decide)⟩⟩
def aLo{x:Cg}(h:smG x=true):Val x.c.b/\x.c.b.length<=1:=by
 simp only[smG,AO,AI,Ay,Ck,CO]at h;have h1:x.c.b.length<=1:=h.1.1.1.1.1.1.1.2;refine⟨⟨?_,h.1.1.1.1.1.1.2⟩,h1⟩;match x.c.b,h1 with
 |[],_=>exact .nil
 |[f],_=>exact List.pairwise_singleton _ _
 |_::_::_,h1=>simp at h1
def aLp{x:Cg}(h:smG x=true):SzC x.c:=by have hl:=(aLo h).2;simp only[smG,smL,smF,AO,AI,Ay,Ck,CO]at h;exact⟨by omega,λf hf=>szE (e:=1) (h.1.1.1.1.1.1.1.1.2.1.1.1.1.2 f hf).2 (by decide)⟩
def bGb{c:List Cl}{x:Cg}(hv:CxV c)(h1:smC c=true)(h2:smG x=true):Ok2 c x:=by obtain⟨z1,z2⟩:=aUk h1;have hv2:=aLo h2;have hp:2<=2^bV:=An (by decide:2<=2^1) (yL (by decide));simp only[smG,smL,smF,AO,AI,Ay,Ck,CO]at h2;obtain⟨⟨⟨⟨⟨⟨⟨⟨⟨g0,g1⟩,g2⟩,g3⟩,g4⟩,g5⟩,g6⟩,g7⟩,g8⟩,g9⟩:=h2;obtain⟨⟨⟨⟨⟨f1,f2⟩,f3⟩,f4⟩,f5⟩,f6⟩:=g1;exact⟨hv,z1,λy hy=>(z2 y hy).1,hv2.1,by omega,λf hf=>An (f2 f hf).2 hp,by omega,by simp only[inr,AI];omega,by simp only[inr,AI];omega,by simp only[inr,AI];omega⟩
def bVi{c:List Cl}{x:Cg}(hv:CxV c)(h2:smG x=true)(h0:(doX c x).2=0):CxV (doX c x).1:=by
 have hv2:=aLo h2;have hk:x.k=1\/x.k=2\/x.k=6:=by simp only[smG,AO,CG,AI]at h2;omega
 unfold doX at h0 ⊢;rcases hk with e|e|e
 ·rw[Ae e]at h0 ⊢;rcases aJy hv hv2.1 with ⟨n,hn,q⟩|⟨q1,_,q⟩
  ·rw[q]at h0;exact(hn h0).elim
  ·rw[q];exact q1
 ·rw[Ac (by omega),Ae e]at h0 ⊢;rcases aIs hv x.a with ⟨n,hn,q⟩|⟨q1,q⟩
  ·rw[q]at h0;exact(hn h0).elim
  ·rw[q];exact q1
 ·rw[Ac (by omega),Ac (by omega),Ac (by omega),Ac (by omega),Ac (by omega)]at h0;exact absurd h0 (by decide)
def pD:∀{l:List Cg} {c:List Cl},CxV c->okB c l=true->OkA c l/\(∀x∈l.take 1,SzC x.c)/\((kW c l).2=0->CxV (kW c l).1)
 |[],c,hv,_=>⟨trivial,(λ_ h=>by cases h),λ_=>hv⟩
 |x::l,c,hv,h=>by
  simp only[okB,AO,CG,Ck,CO]at h;obtain⟨⟨h1,h2⟩,h3⟩:=h;refine⟨⟨bGb hv h1 h2,λh0=>?_⟩,λy hy=>?_,λh0=>?_⟩
  ·exact(pD (bVi hv h2 h0) (h3.resolve_left (λq=>q h0))).1
  ·simp at hy;subst hy;exact aLp h2
  ·by_cases k:(doX c x).2=0
   ·rw[oS _ k]at h0 ⊢;exact(pD (bVi hv h2 k) (h3.resolve_left (λq=>q k))).2.2 h0
   ·rw[zX _ k]at h0;exact(k h0).elim
def gN:CxV []:=⟨.nil,(λ_ h=>by cases h),(λ_ h=>by cases h),(λ_ h=>by cases h),(λ_ h=>by cases h)⟩
inductive Hc(c0:List Cl):List Cg->Nat->Nat->List Cl->Prop
 |nil (M:Nat) (h:Hs 0 M 0 c0):Hc c0 [] M 0 c0
 |snoc (l:List Cg) (M d:Nat) (c:List Cl) (x:Cg) (M' d':Nat) (h:Hc c0 l M d c) (hl:l.length<=10) (f:Fg l.length M (cA c 2).length d x) (h0:(doX c x).2=0) (h':Hs (l.length+1) M' d' (doX c x).1):Hc c0 (l++[x]) M' d' (doX c x).1
def Hc.hs{c0 c:List Cl}{l:List Cg}{M d:Nat}(h:Hc c0 l M d c):Hs l.length M d c:=by
 cases h with
 |nil M h=>exact h
 |snoc l M d c x M' d' h hl f h0 h'=>rw[Al,Au];exact h'
def Hc.len{c0 c:List Cl}{l:List Cg}{M d:Nat}(h:Hc c0 l M d c):l.length<=11:=by
 cases h with
 |nil M h=>exact Ak _
 |snoc l M d c x M' d' h hl f h0 h'=>rw[Al,Au];omega
def Hs.ok2{i M d:Nat}{c:List Cl}{x:Cg}(h:Hs i M d c)(hi:i<=10)(f:Fg i M (cA c 2).length d x):Ok2 c x :=
 have hk:∀z:Int,0<=z/\z<=302+2*(i:Int)->inr z=true:=λz hz=>by simp only[inr,AI];omega
 ⟨h.v,h.sz (by omega),h.keys (by omega),f.val,by have:=f.bl;omega,f.sz h hi,by have:=f.dim;omega,hk _ f.a,hk _ f.w0,hk _ f.w1⟩
def Fg.szc{i M d:Nat}{c:List Cl}{x:Cg}(h:Hs i M d c)(hi:i<=10)(f:Fg i M (cA c 2).length d x):SzC x.c :=
 ⟨by have:=f.bl;omega,λg hg=>szE (e:=bV) (f.sz h hi g hg) (by rw[aCg];omega)⟩
def Hs.szc{i M d:Nat}{c:List Cl}(h:Hs i M d c)(hi:i<=11):∀z∈c,SzC z:=λz hz =>
 ⟨(h.sz hi).bl z hz,λg hg=>szE (e:=bV) ((h.sz hi).bb z hz g hg) (by rw[aCg];omega)⟩
def Hc.snd{c0 c:List Cl}{l:List Cg}{M d:Nat}(h:Hc c0 l M d c):kW c0 l=(c,0):=by
 induction h with
 |nil M h=>rfl
 |snoc l M d c x M' d' h hl f h0 h' ih =>
  rw[aKu _ (by rw[ih]),ih];simp only;rw[oS _ h0];rfl
def OkA.app{c:List Cl}{a b:List Cg}(h:OkA c a)(h2:(kW c a).2=0->OkA (kW c a).1 b):OkA c (a++b):=by
 induction a generalizing c with
 |nil=>exact h2 rfl
 |cons x a ih =>
  refine⟨h.1,λh0=>ih (h.2 h0) λk=>?_⟩;rw[oS _ h0]at h2;exact h2 k
def Hc.ok{c0 c:List Cl}{l:List Cg}{M d:Nat}(h:Hc c0 l M d c):OkA c0 l:=by
 induction h with
 |nil M h=>trivial
 |snoc l M d c x M' d' h hl f h0 h' ih =>
  refine ih.app λ_=>?_
  rw[h.snd];exact⟨h.hs.ok2 hl f,λ_=>trivial⟩
def Hc.base{c0 c:List Cl}{l:List Cg}{M d:Nat}(h:Hc c0 l M d c):∃M,Hs 0 M 0 c0:=by
 induction h with
 |nil M h=>exact⟨M,h⟩
 |snoc l M d c x M' d' h hl f h0 h' ih=>exact ih
def Hc.take{c0 c:List Cl}{l:List Cg}{M d:Nat}(h:Hc c0 l M d c):∀n,∃M' d' c',Hc c0 (l.take n) M' d' c':=by
 induction h with
 |nil M h=>intro n;rw[List.take_nil];exact⟨M,0,c0,.nil M h⟩
 |snoc l M d c x M' d' h hl f h0 h' ih =>
  intro n;by_cases k:n<=l.length
  ·rw[List.take_append_of_le_length k];exact ih n
  ·rw[Ai (by simp;omega)];exact⟨M',d',_,.snoc l M d c x M' d' h hl f h0 h'⟩
def Hc.szl{c0 c:List Cl}{l:List Cg}{M d:Nat}(h:Hc c0 l M d c):∀x∈l,SzC x.c:=by
 induction h with
 |nil M h=>intro x hx;cases hx
 |snoc l M d c x M' d' h hl f h0 h' ih =>
  intro y hy;rcases List.mem_append.1 hy with hy|hy
  ·exact ih y hy
  ·rw[AT.1 hy];exact f.szc h.hs hl
structure HP(h:Hi)(c:List Cl):Prop where
 s:h.s=0
 ch:∃M d,Hc h.c h.l M d c
def HP.okh{h:Hi}{c:List Cl}(p:HP h c):OkH h:=by obtain⟨M,d,q⟩:=p.ch;have:=q.len;exact⟨by rw[p.s];exact Int.le_refl 0,by rw[p.s];decide,by omega,q.ok⟩
def HP.snd{h:Hi}{c:List Cl}(p:HP h c):aTo h c:=by obtain⟨M,d,q⟩:=p.ch;exact q.snd
def HP.len{h:Hi}{c:List Cl}(p:HP h c):h.l.length<=11:=by obtain⟨M,d,q⟩:=p.ch;exact q.len
def HP.szh{h:Hi}{c:List Cl}(p:HP h c):SzH h:=by obtain⟨M,d,q⟩:=p.ch;obtain⟨M0,b⟩:=q.base;have:=b.len;exact⟨by omega,b.szc (by omega),by have:=q.len;omega,q.szl⟩
def HP.take{h:Hi}{c:List Cl}(p:HP h c)(n:Nat):∃c',HP ⟨h.s,h.c,h.l.take n⟩ c':=by obtain⟨M,d,q⟩:=p.ch;obtain⟨M',d',c',q'⟩:=q.take n;exact⟨c',p.s,M',d',q'⟩
def HP.made{h:Hi}{c:List Cl}(p:HP h c)(hl:h.l.length<=10)(s:Sx)(hs:s.ok):∃x,Spec Aa 9 [aE c,.ag (mP s)] (.ag (bN x))/\Ok2 c x/\∃c',HP (wP h c x).1 c'/\((wP h c x).2=0->c'=(doX c x).1)/\((wP h c x).2≠0->(wP h c x).1=h):=by
 obtain⟨M,d,q⟩:=p.ch;obtain⟨x,f,hS⟩:=bQk q.hs hl s hs;refine⟨x,hS,q.hs.ok2 hl f,?_⟩;unfold wP;by_cases h0:(doX c x).2=0
 ·obtain⟨M',d',hs'⟩:=q.hs.step hl f h0;rw[Ae h0];exact⟨_,⟨p.s,M',d',.snoc _ M d c x M' d' q hl f h0 hs'⟩,λ_=>rfl,λk=>(k rfl).elim⟩
 ·rw[Ac h0];exact⟨c,p,λk=>(h0 k).elim,λ_=>rfl⟩
def aTf{h:Hi}{c:List Cl}{x:Cg}:(wP h c x).1.l.length<=h.l.length+1:=by
 unfold wP;split
 ·simp
 ·simp
inductive aIe:List Sx->Hi->List Cl->Hi->List Cl->Prop
 |nil (h:Hi) (c:List Cl):aIe [] h c h c
 |cons (s:Sx) (l:List Sx) (h:Hi) (c:List Cl) (x:Cg) (h1:Hi) (c1:List Cl) (h2:Hi) (c2:List Cl) (hm:Spec Aa 9 [aE c,.ag (mP s)] (.ag (bN x))) (ok:Ok2 c x) (ha:(wP h c x).1=h1) (p1:HP h1 c1) (hr:aIe l h1 c1 h2 c2):aIe (s::l) h c h2 c2
def bVu:∀(l:List Sx) (h:Hi) (c:List Cl),HP h c->h.l.length+l.length<=10->(∀s∈l,s.ok)->∃h2 c2,aIe l h c h2 c2/\HP h2 c2/\h2.l.length<=h.l.length+l.length
 |[],h,c,p,_,_=>⟨h,c,.nil h c,p,Ap _⟩
 |s::l,h,c,p,hl,hs=>by
  simp only[List.length_cons]at hl ⊢;obtain⟨x,hm,ok,c1,p1,_,_⟩:=p.made (by omega) s (hs s (List.mem_cons_self ..));have hn:=aTf (h:=h) (c:=c) (x:=x);obtain⟨h2,c2,hr,p2,hl2⟩:=bVu l _ c1 p1 (by omega) λt ht=>hs t (List.mem_cons_of_mem _ ht)
  exact⟨h2,c2,.cons s l h c x _ c1 h2 c2 hm ok rfl p1 hr,p2,by omega⟩
def aIe.next{s:Sx}{l:List Sx}{h h2:Hi}{c c2:List Cl}(hr:aIe (s::l) h c h2 c2):∃x h1 c1,Spec Aa 9 [aE c,.ag (mP s)] (.ag (bN x))/\Ok2 c x/\(wP h c x).1=h1/\HP h1 c1/\aIe l h1 c1 h2 c2:=by cases hr with|cons _ _ _ _ x h1 c1 _ _ hm ok ha p1 hr=>exact⟨x,h1,c1,hm,ok,ha,p1,hr⟩
def aIe.fin{h h2:Hi}{c c2:List Cl}(hr:aIe [] h c h2 c2):h2=h/\c2=c:=by cases hr;exact⟨rfl,rfl⟩
def aSq(s:Int)(l:List Q4):List D:=[.i .u8 s,.sl (l.map qS)]
def cDz(l:List Sx):fB 7 (l.map mP)=true:=by cases l<;>simp[fB,mP]
def cEa(l:List Q4):fB 4 (l.map qS)=true:=by cases l<;>simp[fB,qS]
def aUt(s:Int)(l:List Q4)(st:List Sx)(hs:0<=s/\s<=255)(hq:∀q∈l,q.ok)(hl:l.length<=9223372036854775807)(hst:∀x∈st,x.ok)(hsl:st.length<=9223372036854775807):∃h c,HP h c/\h.l.length<=10/\Spec Aa 8 [.ag (aSq s l),.sl (st.map mP)] (bY h):=by
 obtain⟨c0,hM,hb⟩:=cCq s (l.take 1) hs (λq h=>hq q (List.take_subset _ _ h)) (by simp;omega);obtain⟨M0,b0⟩:=hb.hs;have p0:HP ⟨0,c0,[]⟩ c0:=⟨rfl,M0,0,.nil M0 b0⟩;obtain⟨hf,cf,hr,pf,hfl⟩:=bVu (st.take 10) ⟨0,c0,[]⟩ c0 p0 (by simp;omega) λx h=>hst x (List.take_subset _ _ h)
 refine⟨hf,cf,pf,by simp at hfl;omega,?_⟩;obtain⟨k,hk⟩:∃k,min l.length 1=k:=⟨_,rfl⟩;have hm1:(if(1:Int)<l.length then 1 else(l.length:Int))=(k:Int):=by split<;>omega
 have hm2:k<=l.length:=by omega
 have hok:=cEa l;have hM':Spec Aa 27 [.ag [.i .u8 s,.sl ((l.map qS).take (min l.length 1))]] (aE c0):=by
  have e:(l.map qS).take (min l.length 1)=(l.take 1).map qS:=by
   rw[<-By];congr 1;rcases B7 l.length with h|h
   ·rw[AE h];rfl
   ·rw[Nat.min_eq_right h]
  rw[e];exact hM
 rw[hk]at hM';refine bF (N:=41) Tryz.func8 ?_;simp[-C,-E,↓KW,aSq,hm1,hm2,hok];refine aJ hM' ?_;simp[-C,-E,↓KW,aE];refine aP (λy:Nat×Hi×List Cl=>y.1<=(st.take 10).length/\HP y.2.1 y.2.2/\y.2.1.l.length<=y.1/\aIe ((st.take 10).drop y.1) y.2.1 y.2.2 hf cf) (λy=>StL [(1,.d (.sl (st.map mP))),(4,.ptr 1 0),(5,.ptr 2 0),(6,.d (.i .i64 (y.1:Int)))] none [.cells 35 [.d (.i .i64 0),.nil,.nil],.cells 35 [.d (.i .i64 y.2.1.s),.d (aE y.2.1.c),.d (bW y.2.1.l)]]) (λy=>(st.take 10).length-y.1) (0,⟨0,c0,[]⟩,c0) ⟨Ak _,p0,Ak _,hr⟩ ?_ ?_
 ·refine wkQ [2,3] ?_ ?_<;>simp[-C,upd,aO,Γ0,aE,bW,vE,aOu]
 ·rintro⟨i,h,c⟩ ⟨hi,p,hli,hr⟩;simp only at hi p hr hli ⊢;by_cases hgo:i<(st.take 10).length
  ·have hgo':i<st.length/\i<10:=by simp at hgo;omega
   have q1:(i:Int)<st.length:=by omega
   have q2:(i:Int)<10:=by omega
   have hx:st[i]? = some st[i]:=Ab hgo'.1;have hw:Ag.wrap ((i:Int)+1)=(i:Int)+1:=aV;rw[List.drop_eq_getElem_cons hgo,List.getElem_take]at hr;refine exE st[i] λz hze=>?_
   rw[hze]at hx hr;obtain⟨x,h1,c1,hm,ok,ha,p1,hr1⟩:=hr.next;have hN:=bHm p.okh p.snd;have hA:=bBq p.okh p.snd (by omega) ok;have hn:=aTf (h:=h) (c:=c) (x:=x);obtain⟨e,he⟩:∃e,(wP h c x).2=e:=⟨_,rfl⟩;rw[ha]at hn;have hAD:h2D (wP h c x)=.tp [.ag [.i .i64 h1.s,aE h1.c,bW h1.l],.i .i64 e]:=by rw[<-ha,<-he];rfl
   rw[hAD]at hA;have hes:mP z=[.i .u8 z.k,.i .u8 z.a,.i .u8 z.b,.i .i8 z.q.1,.i .i8 z.q.2.1,.i .i8 z.q.2.2.1,.i .i8 z.q.2.2.2]:=rfl;have hxc:=dJ x;simp[-C,-E,↓KW,q1,q2,aE,bW];refine aJ hN ?_;simp[-C,-E,↓KW,q1,q2,aE,bW,hx,hes,cDz];refine aJ hm ?_;simp[-C,-E,↓KW,aE,bW,hxc,aC,aA,aB];refine aJ hA ?_;simp[-C,-E,↓KW,aE,bW,hw];refine aI (τ:=Nat×Hi×List Cl) (i+1,h1,c1) ⟨hgo,p1,by simp only;omega,hr1⟩ (slQ hgo) (wkQ [1,2] ?_ ?_)<;>simp[-C,upd,aO,Γ0,aE,bW]
  ·rw[List.drop_of_length_le (by omega)]at hr;obtain⟨e1,e2⟩:=hr.fin;subst e1;have hgo':¬i<st.length\/¬i<10:=by simp at hgo;omega
   by_cases q1:(i:Int)<st.length
   ·have q2:¬(i:Int)<10:=by omega
    simp[-C,-E,↓KW,q1,q2,aE,bW,qZ,dC]
   ·simp[-C,-E,↓KW,q1,aE,bW,qZ,dC]
structure cCr(p:List Cl)(g:Int):Prop where
 len:p.length<=100
 sz:∀z∈p,SzC z
 ok:g=0->CxV p/\SzX bV p
def HP.verP{h:Hi}{c:List Cl}(p:HP h c):cCr c 0:=by obtain⟨M,d,q⟩:=p.ch;have:=q.len;have z:=q.hs.sz (by omega);exact⟨z.len,q.hs.szc (by omega),λ_=>⟨q.hs.v,z⟩⟩
def HP.at{h:Hi}{c:List Cl}(p:HP h c)(n:Int):cCr (atV h n).1 (atV h n).2:=by
 unfold atV;split
 ·obtain⟨c',p'⟩:=p.take (n-h.s).toNat;have:=p'.snd;unfold aTo at this;simp only at this;rw[this];exact p'.verP
 ·exact⟨by simp,(λ_ h=>by cases h),λh=>absurd h (by decide)⟩
def OkA.drop{c:List Cl}{a b:List Cg}(h:OkA c (a++b))(h0:(kW c a).2=0):OkA (kW c a).1 b:=by
 induction a generalizing c with
 |nil=>exact h
 |cons x a ih =>
  by_cases k:(doX c x).2=0
  ·rw[oS _ k]at h0 ⊢;exact ih (h.2 k) h0
  ·rw[zX _ k]at h0;exact(k h0).elim
def HP.beg{h:Hi}{c:List Cl}(p:HP h c)(j:Nat):∃pc,MgH h.s h.c (h.l.take j) (h.l.drop j) [] pc/\MgH h.s h.c (h.l.take j) [] (h.l.drop j) pc/\kW pc (h.l.drop j)=(c,0):=by
 obtain⟨pc,p'⟩:=p.take j;have hs:=p'.snd;have hsn:=p.snd;have ho:=p.okh.ok;have hl:=p.len;have hz:=p.szh;unfold aTo at hs hsn;simp only at hs;rw[<-Cc j h.l]at hsn ho;rw[aKu _ (by rw[hs]),hs]at hsn;have hd:=ho.drop (by rw[hs]);rw[hs]at hd;have hps:∀z∈h.l.take j,SzC z.c:=λz h=>hz.l z (List.take_subset _ _ h)
 have e1:(h.l.take j).length+(h.l.drop j).length<=2000:=by simp;omega
 have e2:(h.l.take j).length+([]:List Cg).length<=2000:=by simp;omega
 exact⟨pc,⟨by have:=hz.cl;omega,hz.c,hps,e1,e2,.inr (.inl rfl),p'.okh.ok,hs,by rw[AX];exact hd,hd⟩,⟨by have:=hz.cl;omega,hz.c,hps,e2,e1,.inl rfl,p'.okh.ok,hs,hd,by rw[AX];exact hd⟩,hsn⟩
def HP.merge{h:Hi}{c:List Cl}(p:HP h c)(j:Nat):Spec Aa 24 [bY h,bY ⟨h.s,h.c,h.l.take j⟩] (.tp [bY h,.i .i64 0])/\Spec Aa 24 [bY ⟨h.s,h.c,h.l.take j⟩,bY h] (.tp [bY h,.i .i64 0]):=by obtain⟨pc,m1,m2,hx⟩:=p.beg j;have v:=p.verP;have hc:(0:Int)≠0\/(0:Int)=0/\(0:Int)=0/\c=c/\c.length<=1000/\∀z∈c,SzC z:=.inr ⟨rfl,rfl,rfl,by have:=v.len;omega,v.sz⟩;have h1:=aEd m1 (o1:=c) (o2:=c) (e1:=0) (e2:=0) (by rw[AX];exact hx) hx hc;have h2:=aEd m2 (o1:=c) (o2:=c) (e1:=0) (e2:=0) hx (by rw[AX];exact hx) hc;rw[Ae rfl,AX,AX,Cc]at h1;rw[Ae rfl,AX,Cc]at h2;exact⟨h1,h2⟩
def cBp(s:Int)(l:List Q4)(st:List Sx)(k:Int)(hs:0<=s/\s<=255)(hq:∀q∈l,q.ok)(hl:l.length<=9223372036854775807)(hst:∀x∈st,x.ok)(hsl:st.length<=9223372036854775807)(hk:0<=k/\k<=255)(hS:Spec Aa 7 [] (.b true)) :
  Spec Aa 6 [.ag (aSq s l),.sl (st.map mP),.i .u8 k] (.b true):=by
 obtain⟨h,c,p,hl10,hH⟩:=aUt s l st hs hq hl hst hsl
 have hw1:Ag.wrap k=k:=aV
 have hw2:Ag.wrap ((h.l.length:Int)+1)=(h.l.length:Int)+1:=aV
 have m1:=C5 k (b:=(h.l.length:Int)+1) (by omega)
 have m2:=Es k (b:=(h.l.length:Int)+1) (by omega)
 obtain⟨j,j1,j2⟩:∃j:Nat,j<=h.l.length/\k.tmod ((h.l.length:Int)+1)=(j:Int):=⟨(k%((h.l.length:Int)+1)).toNat,by omega,by rw[Dn hk.1];omega⟩
 have hwj:Ag.wrap (j:Int)=(j:Int):=aV
 have n0:¬(h.l.length:Int)+1=0:=by omega
 have hws:Ag.wrap (h.s+1)=h.s+1:=wrap_i64 (by have:=p.okh.s0;omega) (by have:=p.okh.s1;omega)
 have hSH:=tP p.szh
 obtain⟨hA,hB⟩:=p.merge j
 obtain⟨hC,_⟩:=p.merge h.l.length
 rw[EU]at hC
 have hD:=aXt (a:=h) (b:=⟨h.s+1,h.c,h.l⟩) (by simp only;omega)
 have hb:bY ⟨h.s,h.c,h.l.take j⟩=.ag [.i .i64 h.s,.sl (h.c.map aN),.sl ((h.l.map bN).take j)]:=by rw[<-By];rfl
 have hd:bY ⟨h.s+1,h.c,h.l⟩=.ag [.i .i64 (h.s+1),.sl (h.c.map aN),.sl (h.l.map bN)]:=rfl
 have hh:bY h=.ag [.i .i64 h.s,.sl (h.c.map aN),.sl (h.l.map bN)]:=rfl
 have hDD:h2D (h,320)=.tp [bY h,.i .i64 320]:=rfl
 rw[hDD]at hD
 rw[hb,hh]at hA hB
 rw[hd,hh]at hD
 rw[hh]at hC hH hSH
 have ok:=aQo h.l
 have hLl:(h.l.map bN).length=h.l.length:=by simp
 obtain⟨L,hL⟩:∃L,h.l.map bN=L:=⟨_,rfl⟩
 obtain⟨CL,hCL⟩:∃L,h.c.map aN=L:=⟨_,rfl⟩
 obtain⟨n,hn⟩:∃n,h.l.length=n:=⟨_,rfl⟩
 rw[hL]at hA hB hC hD hH hSH ok hLl
 rw[hCL]at hA hB hC hD hH hSH
 rw[hn]at hLl hw2 j1 j2 n0
 clear hb hd hh hL hCL
 refine bF (N:=96) Tryz.func6 ?_
 simp[-C,-E,↓KW,aSq]
 refine aJ hS ?_
 simp[-C,-E,↓KW,aSq]
 refine aJ hH ?_
 simp[-C,-E,↓KW,hLl,hw1,hw2,j1,j2,hwj,n0,ok]
 refine aJ hA ?_
 simp[-C,-E,↓KW]
 refine aJ hB ?_
 simp[-C,-E,↓KW]
 refine aJ hC ?_
 simp[-C,-E,↓KW,hws]
 refine aJ hD ?_
 simp[-C,-E,↓KW]
 refine aJ hSH ?_
 simp[-C,-E,↓KW]
 refine aJ hSH ?_
 simp[-C,-E,↓KW]
 refine aJ hSH ?_
 simp[-C,-E,↓KW]
def bAw{x y:Cl}(h:x.id≠y.id\/x.id=y.id/\x.dim≠y.dim):Spec Aa 51 [.ag (aN x),.ag (aN y)] (.b false):=by
 refine bF (N:=24) Tryz.func51 ?_;rcases h with h|⟨h,h2⟩
 ·have q:((x.id==y.id):Bool)=false:=by simpa using h
  simp[-C,-E,↓KW,↓cN,↓bQ,↓cL,↓cM,aR,q,aC,aA,aB,jX,nF]
 ·have q:((y.id==y.id):Bool)=true:=by simp
  have q2:((x.dim==y.dim):Bool)=false:=by simpa using h2
  simp[-C,-E,↓KW,↓cN,↓bQ,↓cL,↓cM,aR,h,q,q2,aC,aA,aB,jX,nF]
def tL{x y:Cg}(h:x.k≠y.k\/x.k=y.k/\x.a=y.a/\x.b=y.b/\x.w0=y.w0/\x.w1=y.w1/\(x.c.id≠y.c.id\/x.c.id=y.c.id/\x.c.dim≠y.c.dim)):Spec Aa 52 [.ag (bN x),.ag (bN y)] (.b false):=by
 refine bF (N:=38) Tryz.func52 ?_;rcases h with h|⟨h1,h2,h3,h4,h5,h6⟩
 ·have q:((x.k==y.k):Bool)=false:=by simpa using h
  simp[-C,-E,↓KW,dJ,q,oR,zW,aC,aA,aB]
 ·have hS:=bAw h6;have q:∀n:Int,((n==n):Bool)=true:=λn=>by simp
  simp[-C,-E,↓KW,dJ,h1,h2,h3,h4,h5,q,oR,zW,aC,aA,aB];refine aJ hS ?_;simp[-C,-E,↓KW,dJ,h1,h2,h3,h4,h5,q,oR,zW,aC,aA,aB]
def kP1:Cg:=⟨1,⟨1,0,[]⟩,0,0,0,0⟩
def kP2:Cg:=⟨1,⟨2,0,[]⟩,0,0,0,0⟩
def kQ:Cg:=⟨1,⟨1,1,[]⟩,0,0,0,0⟩
def kE:Cg:=⟨1,⟨3,1,[(1,2)]⟩,0,0,0,0⟩
def kD:Cg:=⟨2,⟨0,0,[]⟩,1,0,0,0⟩
def kU:Cg:=⟨6,⟨0,0,[]⟩,0,0,0,0⟩
def cK1:List Cl:=[⟨1,0,[]⟩]
def hN:Hi:=⟨0,[],[]⟩
def sH:Hi:=⟨0,[],[kP1]⟩
def bLa:Hi:=⟨0,[],[kP2]⟩
def bYm:Hi:=⟨0,[],[kQ]⟩
def bDl:Hi:=⟨0,[],[kP1,kE]⟩
def bLb:Hi:=⟨0,[],[kP1,kD]⟩
def aIb:Hi:=⟨1,cK1,[]⟩
def cBv:Hi:=⟨0,[],[kP1,kP2]⟩
def xQ:CxV cK1:=(pD (l:=[kP1]) gN (by kernel_rfl)).2.2 (by kernel_rfl)
def okK{h:Hi}(hv:CxV h.c)(h0:decide (0<=h.s)=true:=by kernel_rfl)(h1:decide (h.s<=1000000)=true:=by kernel_rfl)(h2:decide (h.l.length<=10000)=true:=by kernel_rfl)(hb:okB h.c h.l=true:=by kernel_rfl):OkH h:=⟨BI h0,BI h1,BI h2,(pD hv hb).1⟩
def aWx{h g:Hi}{c:List Cl}{x:Cg}{e:Int}(ho:OkH h)(hv:CxV c)(hs:kW h.c h.l=(c,0):=by kernel_rfl)(hl:decide (h.l.length<4000)=true:=by kernel_rfl)(h1:smC c=true:=by kernel_rfl)(h2:smG x=true:=by kernel_rfl)(hr:wP h c x=(g,e):=by kernel_rfl):Spec Aa 11 [bY h,.ag (bN x)] (.tp [bY g,.i .i64 e]):=by have:=bPb ho hs (BI hl) (bGb hv h1 h2);rwa [hr]at this
def bGa{h:Hi}{c:List Cl}(n:Int)(ho:OkH h)(hv:CxV h.c)(hs:kW h.c h.l=(c,0):=by kernel_rfl)(hl:decide ((h.l.length:Int)<=n)=true:=by kernel_rfl)(hz:smC h.c=true:=by kernel_rfl):Spec Aa 20 [bY h,.i .i64 n] (.b true):=bHl n ho hs (BI hl) hv (aUk hz).1
def bRc:OkH hN:=okK gN
def aAy:OkH sH:=okK gN
def bXp:OkH bLa:=okK gN
def bXr:OkH bDl:=okK gN
def bXq:OkH bLb:=okK gN
def bIf:OkH aIb:=okK xQ
def kA1:Spec Aa 11 [bY hN,.ag (bN kP1)] (.tp [bY sH,.i .i64 0]):=aWx bRc gN
def kA2:Spec Aa 11 [bY hN,.ag (bN kP2)] (.tp [bY bLa,.i .i64 0]):=aWx bRc gN
def kA3:Spec Aa 11 [bY sH,.ag (bN kP1)] (.tp [bY sH,.i .i64 253]):=aWx (c:=cK1) aAy xQ
def kA4:Spec Aa 11 [bY hN,.ag (bN kQ)] (.tp [bY bYm,.i .i64 0]):=aWx bRc gN
def kA5:Spec Aa 11 [bY sH,.ag (bN kE)] (.tp [bY bDl,.i .i64 0]):=aWx (c:=cK1) aAy xQ
def kA6:Spec Aa 11 [bY sH,.ag (bN kD)] (.tp [bY bLb,.i .i64 0]):=aWx (c:=cK1) aAy xQ
def kA7:Spec Aa 11 [bY hN,.ag (bN kU)] (.tp [bY hN,.i .i64 1]):=aWx bRc gN
def kT1:Spec Aa 16 [bY sH,.i .i64 2] (.tp [.sl [],.i .i64 320]):=vAt 2 aAy (by decide)
def kT2:Spec Aa 16 [bY aIb,.i .i64 0] (.tp [.sl [],.i .i64 320]):=vAt 0 bIf (by decide)
def kC1:Spec Aa 22 [bY sH,.i .i64 1] (.tp [bY aIb,.i .i64 0]):=by
 have:=bFh 1 aAy (by decide);have e:cpH sH 1=(aIb,0):=by kernel_rfl
 rwa [e]at this
def kU1:Spec Aa 21 [bY hN] (.tp [bY hN,.i .i64 320]):=cAc (h:=hN) (by decide)
def kM1:Spec Aa 24 [bY sH,bY bLa] (.tp [bY cBv,.i .i64 0]):=by have hs:SzC kP1.c:=aLp (by kernel_rfl);refine aEd (s:=0) (c:=[]) (p:=[]) (x:=[kP1]) (y:=[kP2]) (pc:=[]) (o1:=[⟨1,0,[]⟩,⟨2,0,[]⟩]) (o2:=[⟨1,0,[]⟩,⟨2,0,[]⟩]) (e1:=0) (e2:=0) ⟨by decide,(λ_ h=>by cases h),(λ_ h=>by cases h),by decide,by decide,.inr (.inr ⟨kP1,[],kP2,[],rfl,rfl,tL (.inr ⟨rfl,rfl,rfl,rfl,rfl,.inl (by decide)⟩)⟩),trivial,rfl,(pD gN (by kernel_rfl)).1,(pD gN (by kernel_rfl)).1⟩ (by kernel_rfl) (by kernel_rfl) (.inr ⟨rfl,rfl,rfl,by decide,λz hz=>((aUk (c:=[⟨1,0,[]⟩,⟨2,0,[]⟩]) (by kernel_rfl)).2 z hz).2⟩)
def kM2:Spec Aa 24 [bY sH,bY bYm] (.tp [bY sH,.i .i64 321]) :=
 aEd (s:=0) (c:=[]) (p:=[]) (x:=[kP1]) (y:=[kQ]) (pc:=[]) (o1:=[]) (o2:=[]) (e1:=253) (e2:=253) ⟨by decide,(λ_ h=>by cases h),(λ_ h=>by cases h),by decide,by decide,.inr (.inr ⟨kP1,[],kQ,[],rfl,rfl,tL (.inr ⟨rfl,rfl,rfl,rfl,rfl,.inr ⟨rfl,by decide⟩⟩)⟩),trivial,rfl,(pD gN (by kernel_rfl)).1,(pD gN (by kernel_rfl)).1⟩ (by kernel_rfl) (by kernel_rfl) (.inl (by decide))
def kM3:Spec Aa 24 [bY bDl,bY bLb] (.tp [bY bDl,.i .i64 321]) :=
 aEd (s:=0) (c:=[]) (p:=[kP1]) (x:=[kE]) (y:=[kD]) (pc:=cK1) (o1:=[]) (o2:=[]) (e1:=253) (e2:=251) ⟨by decide,(λ_ h=>by cases h),(λz hz=>by rw[AT.1 hz];exact aLp (by kernel_rfl)),by decide,by decide,.inr (.inr ⟨kE,[],kD,[],rfl,rfl,tL (.inl (by decide))⟩),(pD gN (by kernel_rfl)).1,by kernel_rfl,(pD xQ (by kernel_rfl)).1,(pD xQ (by kernel_rfl)).1⟩ (by kernel_rfl) (by kernel_rfl) (.inl (by decide))
def kM4:Spec Aa 24 [bY aIb,bY sH] (.tp [bY aIb,.i .i64 320]):=aXt (by decide)
def kS1:Spec Aa 20 [bY sH,.i .i64 1] (.b true):=bGa (c:=cK1) 1 aAy gN
def kS2:Spec Aa 20 [bY bLa,.i .i64 1] (.b true):=bGa (c:=[⟨2,0,[]⟩]) 1 bXp gN
def kS3:Spec Aa 20 [bY aIb,.i .i64 1] (.b true):=bGa (c:=cK1) 1 bIf xQ
def kS4:Spec Aa 20 [bY bDl,.i .i64 2] (.b true):=bGa (c:=[⟨1,0,[]⟩,⟨3,1,[(1,2)]⟩]) 2 bXr gN
def kS5:Spec Aa 20 [bY bLb,.i .i64 2] (.b true):=bGa (c:=[]) 2 bXq gN
def kH1:Spec Aa 13 [bY sH,bY sH] (.b true):=tP ⟨by decide,(λ_ h=>by cases h),by decide,λz hz=>by rw[AT.1 hz];exact aLp (by kernel_rfl)⟩
def kL1:Spec Aa 14 [bY sH] (.i .i64 1):=aXu sH (by decide) (by decide)
def kL2:Spec Aa 14 [bY aIb] (.i .i64 1):=aXu aIb (by decide) (by decide)
def cEc:Spec Aa 25 [] (bY hN):=by refine bF (N:=2) Tryz.func25 ?_;simp[-C,-E,↓KW,qZ];rfl
def bSo(id dim:Int)(l:List Int)(hl:l.length<=100)(hb:∀z∈l,-1000<=z/\z<=1000):Spec Aa 26 [.i .i64 id,.i .i64 dim,kT l] (.ag (bN ⟨1,⟨id,dim,cE [] (prs l)⟩,0,0,0,0⟩)):=by have hC:=fS id dim l hl hb;have e:aN ⟨id,dim,cE [] (prs l)⟩=[.i .i64 id,.i .i64 dim,aK (cE [] (prs l))]:=rfl;rw[e]at hC;refine bF (N:=12) Tryz.func26 ?_;simp[-C,-E,↓KW,kT];refine aJ hC ?_;simp[-C,-E,↓KW,qZ,dJ,aC,aA,aB]
def bGr:Spec Aa 7 [] (.b true):=by
 have eN:bY hN=.ag [.i .i64 0,.sl [],.sl []]:=rfl;obtain⟨L1,l1⟩:∃L,bW [kP1]=.sl L:=⟨_,rfl⟩;obtain⟨L2,l2⟩:∃L,bW [kP2]=.sl L:=⟨_,rfl⟩;obtain⟨L3,l3⟩:∃L,bW [kQ]=.sl L:=⟨_,rfl⟩;obtain⟨L4,l4⟩:∃L,bW [kP1,kE]=.sl L:=⟨_,rfl⟩;obtain⟨L5,l5⟩:∃L,bW [kP1,kD]=.sl L:=⟨_,rfl⟩;obtain⟨L6,l6,n6⟩:∃L,bW [kP1,kP2]=.sl L/\L.length=2:=⟨_,rfl,rfl⟩;obtain⟨C1,c1⟩:∃L,aE cK1=.sl L:=⟨_,rfl⟩;have e1:bY sH=.ag [.i .i64 0,.sl [],.sl L1]:=by rw[<-l1];rfl
 have e2:bY bLa=.ag [.i .i64 0,.sl [],.sl L2]:=by rw[<-l2];rfl
 have e3:bY bYm=.ag [.i .i64 0,.sl [],.sl L3]:=by rw[<-l3];rfl
 have e4:bY bDl=.ag [.i .i64 0,.sl [],.sl L4]:=by rw[<-l4];rfl
 have e5:bY bLb=.ag [.i .i64 0,.sl [],.sl L5]:=by rw[<-l5];rfl
 have e6:bY cBv=.ag [.i .i64 0,.sl [],.sl L6]:=by rw[<-l6];rfl
 have e7:bY aIb=.ag [.i .i64 1,.sl C1,.sl []]:=by rw[<-c1];rfl
 have p1:bN kP1=[.i .i64 1,.i .i64 1,.i .i64 0,.sl [],.i .i64 0,.i .i64 0,.i .i64 0,.i .i64 0]:=rfl;have p2:bN kP2=[.i .i64 1,.i .i64 2,.i .i64 0,.sl [],.i .i64 0,.i .i64 0,.i .i64 0,.i .i64 0]:=rfl;have p3:bN kQ=[.i .i64 1,.i .i64 1,.i .i64 1,.sl [],.i .i64 0,.i .i64 0,.i .i64 0,.i .i64 0]:=rfl;have p4:bN kE=[.i .i64 1,.i .i64 3,.i .i64 1,aK [(1,2)],.i .i64 0,.i .i64 0,.i .i64 0,.i .i64 0]:=rfl;have p5:bN kD=[.i .i64 2,.i .i64 0,.i .i64 0,.sl [],.i .i64 1,.i .i64 0,.i .i64 0,.i .i64 0]:=rfl;have p6:bN kU=[.i .i64 6,.i .i64 0,.i .i64 0,.sl [],.i .i64 0,.i .i64 0,.i .i64 0,.i .i64 0]:=rfl;have d1:Spec Aa 26 [.i .i64 1,.i .i64 0,.sl []] (.ag (bN kP1)):=bSo 1 0 [] (by decide) (by decide);have d2:Spec Aa 26 [.i .i64 2,.i .i64 0,.sl []] (.ag (bN kP2)):=bSo 2 0 [] (by decide) (by decide);have d3:Spec Aa 26 [.i .i64 1,.i .i64 1,.sl []] (.ag (bN kQ)):=bSo 1 1 [] (by decide) (by decide);have d4:Spec Aa 26 [.i .i64 3,.i .i64 1,.sl [[.i .i64 1],[.i .i64 2]]] (.ag (bN kE)):=bSo 3 1 [1,2] (by decide) (by decide);have hNew:=cEc;have a1:=kA1;have a2:=kA2;have a3:=kA3;have a4:=kA4;have a5:=kA5;have a6:=kA6;have a7:=kA7;have t1:=kT1;have t2:=kT2;have k1:=kC1;have u1:=kU1;have m1:=kM1;have m2:=kM2;have m3:=kM3;have m4:=kM4;have s1:=kS1;have s2:=kS2;have s3:=kS3;have s4:=kS4;have s5:=kS5;have h1:=kH1;have b1:=kL1;have b2:=kL2;rw[e1]at a1 a3 a5 a6 t1 k1 m1 m2 m4 s1 h1 b1;rw[e2]at a2 m1 s2;rw[e3]at a4 m2;rw[e4]at a5 m3 s4;rw[e5]at a6 m3 s5;rw[e6]at m1;rw[e7]at t2 k1 m4 s3 b2;rw[eN]at hNew a1 a2 a4 a7 u1;rw[p1]at a1 a3 d1;rw[p2]at a2 d2;rw[p3]at a4 d3;rw[p4]at a5 d4;rw[p5]at a6;rw[p6]at a7;clear l1 l2 l3 l4 l5 l6 c1 e1 e2 e3 e4 e5 e6 e7 eN p1 p2 p3 p4 p5 p6;refine bF (N:=237) Tryz.func7 ?_;simp[-C,-E,↓KW];refine aJ hNew ?_;simp[-C,-E,↓KW];refine aJ d1 ?_;simp[-C,-E,↓KW,aC,aA,aB];refine aJ a1 ?_;simp[-C,-E,↓KW,aC,aA,aB];refine aJ d2 ?_;simp[-C,-E,↓KW,aC,aA,aB];refine aJ a2 ?_;simp[-C,-E,↓KW,aC,aA,aB];refine aJ s1 ?_;simp[-C,-E,↓KW,aC,aA,aB];refine aJ s2 ?_;simp[-C,-E,↓KW,aC,aA,aB];refine aJ d1 ?_;simp[-C,-E,↓KW,aC,aA,aB];refine aJ a3 ?_;simp[-C,-E,↓KW,aC,aA,aB];refine aJ t1 ?_;simp[-C,-E,↓KW,aC,aA,aB];refine aJ k1 ?_;simp[-C,-E,↓KW,aC,aA,aB];refine aJ s3 ?_;simp[-C,-E,↓KW,aC,aA,aB];refine aJ t2 ?_;simp[-C,-E,↓KW,aC,aA,aB];refine aJ u1 ?_;simp[-C,-E,↓KW];refine aJ m1 ?_;simp[-C,-E,↓KW,aC,aA,aB];refine aJ d3 ?_;simp[-C,-E,↓KW,aC,aA,aB];refine aJ a4 ?_;simp[-C,-E,↓KW,aC,aA,aB];refine aJ m2 ?_;simp[-C,-E,↓KW,aC,aA,aB];refine aJ d4 ?_;simp[-C,-E,↓KW,aC,aA,aB];refine aJ a5 ?_;simp[-C,-E,↓KW,aC,aA,aB,kill];refine aJ a6 ?_;simp[-C,-E,↓KW,aC,aA,aB];refine aJ s4 ?_;simp[-C,-E,↓KW,aC,aA,aB];refine aJ s5 ?_;simp[-C,-E,↓KW,aC,aA,aB];refine aJ m3 ?_;simp[-C,-E,↓KW,aC,aA,aB];refine aJ a7 ?_;simp[-C,-E,↓KW,aC,aA,aB];refine aJ m4 ?_;simp[-C,-E,↓KW,aC,aA,aB];refine aJ h1 ?_;simp[-C,-E,↓KW,n6];refine aJ b1 ?_;simp[-C,-E,↓KW];refine aJ b2 ?_;simp[-C,-E,↓KW]
end Go.Am
end
