/- The program's histories: At, Latest, Append, Compact, Undo. No condition. -/
import Derived.Test.YtgjjndadkmodpaaGreatC6
import Derived.Shelf.SlSortCmp.PdqK
import Derived.Ground.SlsfProg
import Derived.Shelf.SlicesG.Cmp
import Derived.Shelf.Spec.SlicesInsertGrow
import Derived.Deep.RegionLaw
import Derived.Lib.SliceRun
set_option linter.all false
set_option maxHeartbeats 8000000
set_option maxRecDepth 1000000
open Array renaming ext_getElem?->DX,getElem?_append_left->BJ,getElem?_eq_getElem->AD,getElem?_eq_none->B6,getElem?_modify->Dx,getElem?_push->Dq,size_append->DG,size_push->EA
open Bool renaming and_eq_true->AO,false_eq_true->A0,or_eq_true->CG
open Classical renaming byContradiction->A9
open Eq renaming trans->F7
open Function renaming comp->DQ
open Go.Act renaming put->Eg
open Go.Builtin renaming append_->BT,copy_->E5,firstCells->C8,lenOf->Fv,zeroCells->BG
open Go.Extern.SlicesOverlaps renaming overlaps->Fu
open Go.IntKind renaming i64->Ag
open Go.Lib renaming bitLen->F8,compareInt->F9,run_append_grow_zeros->Gd,wpList_append_run->Dy
open Go.Proofs.Tryz renaming func138->Fi,isAgg3->Fb,ntmps138->Gt,prog->Aa,sizeOf3->ET,sizeOf40->Gs,underlying3->DR,underlying4->ES,zeroValue3->D7,zeroValue4->FL
open Go.Shelf renaming Ren->FX
open Go.Value renaming agg->EX
open Go.World renaming alloc->EO,cell?->FA,cell?_alloc_at->EN,cell?_setCells_in->El,cell?_setCells_out->C5,frozen?_setCells->Fj
open Int renaming add_zero->Dn,mul_add->De,mul_assoc->DD,neg_mul->C0,sign_eq_neg_one_of_neg->CU,sign_eq_one_of_pos->Dk,zero_add->CD
open List renaming all_append->FN,all_eq_true->Ay,any_append->FQ,any_eq_true->Db,append_assoc->Bh,append_nil->A7,cons_append->BP,countP_cons->Ft,drop->Cy,drop_eq_getElem_cons->AP,drop_of_length_le->B8,drop_zero->BY,eq_nil_of_length_eq_zero->AE,exists_cons_of_ne_nil->DW,ext_getElem?->DH,filter_append->BQ,filter_cons->CH,filter_eq_self->Eh,find?_cons->DN,flatMap_append->E1,flatten_cons->BF,getD_eq_getElem?_getD->Af,getElem?_append->D9,getElem?_append_left->AJ,getElem?_append_right->Az,getElem?_drop->Bt,getElem?_eq_getElem->Ab,getElem?_eq_none->AW,getElem?_eq_some_iff->Ah,getElem?_map->Aw,getElem?_of_mem->FG,getElem?_take->Bb,getElem_map->ER,getElem_mem->Ar,getElem_of_mem->Bw,length_append->Ak,length_cons->AH,length_drop->Bl,length_eq_zero_iff->Ff,length_filter_le->Cw,length_map->AL,length_nil->Bq,length_singleton->As,length_take->Ax,map->AQ,map_append->Bu,map_congr_left->BK,map_cons->AZ,map_drop->Bv,map_flatten->DB,map_map->CC,map_nil->DC,map_take->BD,mem_cons->AG,mem_cons_of_mem->Au,mem_cons_self->Av,mem_filter->Bi,mem_flatMap->Bc,mem_map->AA,mem_of_find?_eq_some->D4,mem_of_getElem?->Aq,mem_of_mem_drop->CQ,mem_range->C4,mem_singleton->AT,pairwise_cons->Bk,pairwise_iff_getElem->BC,pairwise_map->CN,range->CS,size_toArray->B0,take->BB,takeWhile_append_dropWhile->Du,takeWhile_cons->E2,take_add_one->AM,take_append_drop->CM,take_length->Fs,take_of_length_le->Ai
open List.Pairwise renaming filter->Df
open Nat renaming add_comm->CB,add_mul->By,le_refl->Ap,le_trans->An,lt_of_lt_of_le->E8,lt_or_ge->Bf,lt_succ_self->AK,min_eq_left->BR,mod_lt->EL,one_le_two_pow->Cd,pow_le_pow_right->BW,pow_succ->Cp,sub_lt_sub_left->AF,sub_mul->FH,sub_self->Cx,zero_add->A6,zero_le->Al,zero_mul->Cn
open Option renaming getD_some->Bd,isSome_iff_exists->B9,isSome_some->Fa,map_some->A4
open _root_ renaming decide_eq_false->Bo,decide_eq_true->Bx,decide_eq_true_eq->AI,eq_true->EI,if_false->B2,if_neg->Ac,if_pos->Ad,if_true->B1,of_decide_eq_false->Ga,of_decide_eq_true->BH
section
open List renaming map_map->C,mapM_map->E
open Go Go.Am Go.Proofs
namespace Go.Am
def aDj(c:List Cl)(g:List (Int×Ch)):(eF c g).length=c.length:=by unfold eF;rw[AL]
def wM:List (Int×Ch)->(Int->Int)->Int->Int
 |[],_,_=>0
 |p::m,w,k=>(if p.1=k then bO w p.2 else 0)+wM m w k
def aOb(w:Int->Int)(f:Int×Int):∀m:List (Int×Ch),bO w (apP m f)=f.2*wM m w f.1
 |[]=>by simp[apP,wM,bO]
 |p::m=>by
  have ih:=aOb w f m;show bO w ((if p.1=f.1 then mulR f.2 p.2 else[])++apP m f)=_;rw[lV,ih];simp only[wM];rw[De];by_cases h:p.1=f.1
  ·rw[Ad h,Ad h,mU]
  ·rw[Ac h,Ac h];simp[bO]
def aIn(w:Int->Int)(m:List (Int×Ch)):∀x:Ch,bO w (apL m x)=bO (wM m w) x
 |[]=>rfl
 |f::x=>by show bO w (apP m f++apL m x)=_;rw[lV,aOb,aIn w m x];rfl
def tN(w:Int->Int)(m:List (Int×Ch))(x:Ch):bO w (apX m x)=bO (wM m w) x:=by unfold apX;rw[dR,aIn]
def aXv{w:Int->Int}{k:Int}:∀{m:List (Int×Ch)},(∀p∈m,p.1≠k)->wM m w k=0
 |[],_=>rfl
 |p::m,h=>by simp only[wM];rw[Ac (h p (Av ..)),aXv λq hq=>h q (Au _ hq)];rfl
def bVk{w:Int->Int}:∀{m:List (Int×Ch)} {p:Int×Ch},(m.map (·.1)).Pairwise (·<·)->p∈m->wM m w p.1=bO w p.2
 |q::m,p,hm,hp=>by
  rw[AZ]at hm;obtain⟨h1,h2⟩:=Bk.1 hm;simp only[wM];rcases AG.1 hp with rfl|hp
  ·rw[Ad rfl,aXv λr hr=>by have:=h1 r.1 (AA.2 ⟨r,hr,rfl⟩);omega,Dn]
  ·have:=h1 p.1 (AA.2 ⟨p,hp,rfl⟩);rw[Ac (by omega),bVk h2 hp,CD]
def CmT.keys{a b:List Cl}{m:List (Int×Ch)}(h:CmT a b m):m.map (·.1)=a.map Cl.id:=by
 apply DH;intro i;rw[Aw,Aw];rcases Bf i a.length with hi|hi
 ·have h1:a[i]? = some a[i]:=Ab hi;have h2:m[i]? = some (m[i]'(by rw[h.len];exact hi)):=Ab _;rw[h1,h2,A4,A4,h.id i _ _ h1 h2]
 ·rw[AW hi,AW (by rw[h.len];exact hi)];rfl
def CmT.inc{a b:List Cl}{m:List (Int×Ch)}(h:CmT a b m)(ha:Inc a):(m.map (·.1)).Pairwise (·<·):=by rw[h.keys,CN];exact ha
def CmT.at{a b:List Cl}{m:List (Int×Ch)}(h:CmT a b m){y:Cl}(hy:y∈a):∃(i:Nat) (p:Int×Ch),a[i]? = some y/\m[i]? = some p/\p.1=y.id:=by obtain⟨i,hi,rfl⟩:=Bw hy;have h1:a[i]? = some a[i]:=Ab hi;have h2:m[i]? = some (m[i]'(by rw[h.len];exact hi)):=Ab _;exact⟨i,_,h1,h2,h.id i _ _ h1 h2⟩
def CmT.W{a b:List Cl}{m:List (Int×Ch)}(h:CmT a b m)(ha:Inc a)(w:Int->Int){y:Cl}(hy:y∈a):wM m (λk=>bO w (bOf b k)) y.id=bO (wM m w) y.b:=by obtain⟨i,p,h1,h2,h3⟩:=h.at hy;rw[<-h3,bVk (h.inc ha) (Aq h2),<-pF,<-tN,<-h.bd i y p h1 h2];unfold bdX;rw[dR]
def aGw(m n:List (Int×Ch)):List (Int×Ch):=m.map λp=>(p.1,apX n p.2)
def aTc(m n:List (Int×Ch)):(aGw m n).length=m.length:=by unfold aGw;rw[AL]
def bFj(n:List (Int×Ch))(w:Int->Int)(k:Int):∀m:List (Int×Ch),wM (aGw m n) w k=wM m (wM n w) k
 |[]=>rfl
 |p::m=>by show(if p.1=k then bO w (apX n p.2)else 0)+wM (aGw m n) w k=_;rw[bFj n w k m,tN];rfl
def bVa{m:List (Int×Ch)}{x:Ch}{g:Int×Int}(h:g∈apL m x):∃f∈x,∃p∈m,p.1=f.1/\∃u∈p.2,u.1=g.1:=by
 obtain⟨f,hf,h⟩:=Bc.1 h;obtain⟨p,hp,h⟩:=Bc.1 h;by_cases e:p.1=f.1
 ·rw[Ad e]at h;obtain⟨u,hu,rfl⟩:=AA.1 h;exact⟨f,hf,p,hp,e,u,hu,rfl⟩
 ·rw[Ac e]at h;cases h
def bUz{m:List (Int×Ch)}{x:Ch}{g:Int×Int}(h:g∈apX m x):∃f∈x,∃p∈m,p.1=f.1/\∃u∈p.2,u.1=g.1:=by obtain⟨q,hq,e⟩:=vW h;rw[<-e];exact bVa hq
def CmT.comp{c d e:List Cl}{m n:List (Int×Ch)}(h1:CmT c d m)(h2:CmT d e n)(hd:Inc d):CmT c e (aGw m n):=by
 have hget:∀(i:Nat) q,(aGw m n)[i]? = some q->∃p,m[i]? = some p/\q=(p.1,apX n p.2):=λi q hq=>by
  unfold aGw at hq;rw[Aw]at hq;cases e:m[i]? with
  |none=>rw[e]at hq;cases hq
  |some p=>rw[e]at hq;injection hq with hq;exact⟨p,rfl,hq.symm⟩
 refine⟨by rw[aTc];exact h1.len,λi x q hx hq=>?_,λi x q hx hq f hf=>?_,λi x q hx hq=>?_⟩
 ·obtain⟨p,hp,rfl⟩:=hget i q hq;exact h1.id i x p hx hp
 ·obtain⟨p,hp,rfl⟩:=hget i q hq;obtain⟨f0,hf0,r,hr,e1,u,hu,e2⟩:=bUz hf;obtain⟨y,hy,hyd⟩:=h1.key i x p hx hp f0 hf0;obtain⟨hyd1,hyd2⟩:=dF hy;obtain⟨j,hj,rfl⟩:=Bw hr;have hjd:j<d.length:=by rw[<-h2.len];exact hj
  have k1:d[j]? = some d[j]:=Ab hjd;have k2:n[j]? = some n[j]:=Ab hj;have k3:=h2.id j _ _ k1 k2;have k4:d[j]=y:=hd.eq (Ar hjd) hyd1 (by rw[<-k3,e1,hyd2]);obtain⟨z,hz,hzd⟩:=h2.key j _ _ k1 k2 u hu;exact⟨z,by rw[<-e2];exact hz,by rw[hzd,k4,hyd]⟩
 ·obtain⟨p,hp,rfl⟩:=hget i q hq;refine wS (cS _ [] Val.nil).1 (cS _ [] Val.nil).1 λw=>?_
  have e1:bO w (bdX e (apX n p.2))=bO (wM n λk=>bO w (bOf e k)) p.2:=by unfold bdX;rw[dR,pF,tN]
  have e2:bO (wM n λk=>bO w (bOf e k)) p.2=bO (λk=>bO (wM n w) (bOf d k)) p.2:=eB λf hf=>by obtain⟨y,hy,_⟩:=h1.key i x p hx hp f hf;obtain⟨y1,y2⟩:=dF hy;have:=h2.W hd w y1;rw[y2]at this;rw[this];unfold Go.Am.bOf;rw[hy];rfl
  have e3:bO (λk=>bO (wM n w) (bOf d k)) p.2=bO (wM n w) (apX m x.b):=by rw[<-h1.bd i x p hx hp];unfold bdX;rw[dR,pF]
  show bO w (bdX e (apX n p.2))=bO w (apX (aGw m n) x.b);rw[e1,e2,e3,tN,tN];exact eB λf _=>(bFj n w f.1 m).symm
def CmT.one{c:List Cl}(h:CxV c):CmT c c (eF c []):=by
 have hget:∀(i:Nat) x p,c[i]? = some x->(eF c [])[i]? = some p->p=(x.id,[(x.id,1)]):=λi x p hx hp=>by
  unfold eF at hp;rw[Aw,hx]at hp;injection hp with hp
  exact hp.symm
 refine⟨by rw[aDj],λi x p hx hp=>by rw[hget i x p hx hp],λi x p hx hp f hf=>?_,λi x p hx hp=>?_⟩
 ·rw[hget i x p hx hp]at hf;rw[AT.1 hf];exact⟨x,h.inc.find (Aq hx),rfl⟩
 ·have hxc:=Aq hx;rw[hget i x p hx hp];refine wS (cS _ [] Val.nil).1 (cS _ [] Val.nil).1 λw=>?_
  rw[bNi h hxc];unfold apX;rw[dR,xV h.inc w λf hf=>let ⟨y,hy,k,_⟩:=h.face x hxc f hf;⟨y,hy,k⟩];exact(eB λf _=>by simp[mH,bO]).symm
def uR{n:Int}{l:Ch}:0<sR n l↔∃f∈l,f.1=n:=by unfold sR;rw[List.countP_pos_iff];simp
def zS{n:Int}:∀{c:List Cl} {x:Cl},x∈c->sR n x.b<=pZ n c
 |y::c,x,h=>by
  show _<=sR n y.b+pZ n c;rcases AG.1 h with rfl|h
  ·omega
  ·have:=zS (n:=n) h;omega
def aTb{n:Int}:∀{c:List Cl} {x y:Cl},x∈c->y∈c->x≠y->sR n x.b+sR n y.b<=pZ n c
 |z::c,x,y,hx,hy,hne=>by
  show _<=sR n z.b+pZ n c;rcases AG.1 hx with rfl|hx2
  ·rcases AG.1 hy with rfl|hy2
   ·exact(hne rfl).elim
   ·have:=zS (n:=n) hy2;omega
  ·rcases AG.1 hy with rfl|hy2
   ·have:=zS (n:=n) hx2;omega
   ·have:=aTb (n:=n) hx2 hy2 hne;omega
def aIl(w:Int->Int)(z n:Int):∀l:Ch,bO w (rH z n l)=z*(bO w l-cf n l*w n)
 |[]=>by simp[rH,bO,cf]
 |f::l=>by
  have ih:=aIl w z n l;unfold rH at ih ⊢;simp only[cf];by_cases h:f.1=n
  ·have h':n=f.1:=h.symm;simp only[CH,h,decide_true,Bool.not_true,A0,B2,B1,ih,bO];congr 1;rw[Int.add_mul];omega
  ·have h':¬n=f.1:=λx=>h x.symm
   simp only[CH,h,decide_false,Bool.not_false,B1,AZ,bO,ih,Ac h'];rw[DD,<-De];congr 1;rw[CD];omega
structure oX(c:List Cl)(a b z:Int)(xa xb:Cl):Prop where
 ina:xa∈c
 ida:xa.id=a
 inb:xb∈c
 idb:xb.id=b
 dim:xb.dim=xa.dim-1
 ua:∀y∈c,∀f∈y.b,f.1≠a
 ub:∀y∈c,∀f∈y.b,f.1=b->y=xa
 mem:(b,z)∈xa.b
 unit:z=1\/z=-1
def aDu{c:List Cl}(h:CxV c){a b:Int}(hf:(a,b)∈jM c):∃z xa xb,oX c a b z xa xb:=by
 unfold jM at hf;obtain⟨x,hx,hf⟩:=Bc.1 hf;unfold lE at hf;split at hf
 ·cases hf
 ·rename_i h0;obtain⟨f,hm,he⟩:=AA.1 hf;injection he with e1 e2
  obtain⟨hfx,hok⟩:=Bi.1 hm;unfold tM at hok;simp only[AO,AI]at hok;obtain⟨n,z⟩:=f;simp only at e2 hok hfx;subst e2;obtain⟨y,hy,k1,k2⟩:=h.face x hx _ hfx;refine⟨z,x,y,hx,e1,hy,k1,k2,λu hu f hf q=>?_,λu hu f hf q=>?_,hfx,by omega⟩
  ·have h1:=zS (n:=a) hu;have h2:0<sR a u.b:=uR.2 ⟨f,hf,q⟩;rw[e1]at h0;omega
  ·refine A9 λhne=>?_
   have h1:=aTb (n:=n) hu hx hne;have h2:0<sR n u.b:=uR.2 ⟨f,hf,q⟩;have h3:0<sR n x.b:=uR.2 ⟨_,hfx,rfl⟩;omega
section
variable {c:List Cl} {a b z:Int} {xa xb:Cl}
def aGt{y:Cl}:y∈kN c a b↔y∈c/\y.id≠a/\y.id≠b:=by unfold kN jD;rw[Bi];simp
def aGu(h:Inc c):Inc (kN c a b):=Df _ h
def aGs(h:Inc c){y:Cl}(hy:y∈c)(h1:y.id≠a)(h2:y.id≠b):bG (kN c a b) y.id=some y:=(aGu h).find (aGt.2 ⟨hy,h1,h2⟩)
def aNe(h:Inc c){y:Cl}(hy:y∈c)(h1:y.id≠a)(h2:y.id≠b):bOf (kN c a b) y.id=y.b:=by unfold Go.Am.bOf;rw[aGs h hy h1 h2];rfl
def oX.ne(t:oX c a b z xa xb):a≠b:=λe=>by have:=t.ua xa t.ina _ t.mem;exact this e.symm
def oX.bOf(t:oX c a b z xa xb)(h:CxV c):Go.Am.bOf c a=xa.b:=by rw[<-t.ida];exact h.bOf t.ina
def oX.cf(t:oX c a b z xa xb)(h:CxV c):Go.Am.cf b xa.b=z:=by rw[gD (h.val xa t.ina)];exact fJ (h.val xa t.ina) t.mem
def oX.cf0(t:oX c a b z xa xb){y:Cl}(hy:y∈c)(hne:y≠xa):Go.Am.cf b y.b=0:=nO λf hf e=>hne (t.ub y hy f hf e)
def oX.last(t:oX c a b z xa xb)(h:CxV c):pL xa.b b=z:=by have e:pL xa.b b=lv b xa.b:=rfl;rw[e,aZd (h.val xa t.ina)];exact fJ (h.val xa t.ina) t.mem
def oX.stay(t:oX c a b z xa xb)(h:CxV c){y:Cl}(hy:y∈c){f:Int×Int}(hf:f∈y.b)(hne:y≠xa\/f.1≠b):∃u∈c,u.id=f.1/\u.dim=y.dim-1/\u.id≠a/\u.id≠b:=by
 obtain⟨u,hu,k1,k2⟩:=h.face y hy f hf;refine⟨u,hu,k1,k2,by rw[k1];exact t.ua y hy f hf,λe=>?_⟩;rcases hne with q|q
 ·exact q (t.ub y hy f hf (k1.symm.trans e))
 ·exact q (k1.symm.trans e)
def oX.valid(t:oX c a b z xa xb)(h:CxV c):CxV (kN c a b):=by
 have hs:∀{y:Cl},y∈kN c a b->y∈c/\y≠xa:=λhy=>by obtain⟨h1,h2,_⟩:=aGt.1 hy;exact⟨h1,λe=>h2 (by rw[e];exact t.ida)⟩
 refine⟨aGu h.inc,λy hy=>h.dim y (hs hy).1,λy hy=>h.val y (hs hy).1,λy hy f hf=>?_,λy hy n=>?_⟩
 ·obtain⟨u,hu,k1,k2,k3,k4⟩:=t.stay h (hs hy).1 hf (.inl (hs hy).2);exact⟨u,aGt.2 ⟨hu,k3,k4⟩,k1,k2⟩
 ·rw[<-h.cyc y (hs hy).1 n];refine eB λf hf=>?_
  obtain⟨u,hu,k1,k2,k3,k4⟩:=t.stay h (hs hy).1 hf (.inl (hs hy).2);rw[<-k1,aNe h.inc hu k3 k4,h.bOf hu]
def rT(b z:Int)(l:Ch):Ch:=cF [] (rH (-z) b l)
def oX.g(t:oX c a b z xa xb)(h:CxV c):aNf c a b=[(a,[]),(b,rT b z xa.b)]:=by unfold aNf bUi rT;rw[t.bOf h,t.last h]
def aWj(w:Int->Int)(b z:Int)(l:Ch):bO w (rT b z l)=-z*(bO w l-Go.Am.cf b l*w b):=by unfold rT;rw[dR,aIl]
def aTa{f:Int×Int}(l:Ch)(h:f∈rT b z l):∃g∈l,g.1=f.1/\g.1≠b:=by obtain⟨g,hg,e⟩:=vW h;unfold rH at hg;obtain⟨g0,h0,rfl⟩:=AA.1 hg;obtain⟨h1,h2⟩:=Bi.1 h0;exact⟨g0,h1,e,by simpa using h2⟩
def zH(h:a≠b)(R:Ch)(n:Int):(mH [(a,[]),(b,R)] n).getD [(n,1)]=if n=a then[]else if n=b then R else[(n,1)]:=by
 unfold mH;by_cases h1:n=a
 ·simp[h1]
 ·have h1':¬a=n:=λe=>h1 e.symm
  by_cases h2:n=b
  ·have h3:¬b=a:=λe=>h e.symm
   simp[DN,h2,h,h3]
  ·have h2':¬b=n:=λe=>h2 e.symm
   simp[DN,h1,h1',h2,h2']
def oX.comm(t:oX c a b z xa xb)(h:CxV c):CmT c (kN c a b) (eF c (aNf c a b)):=by
 rw[t.g h];have hget:∀(i:Nat) x p,c[i]? = some x->(eF c [(a,[]),(b,rT b z xa.b)])[i]? = some p->p=(x.id,if x.id=a then[]else if x.id=b then rT b z xa.b else[(x.id,1)]):=λi x p hx hp=>by
  unfold eF at hp;rw[Aw,hx]at hp;injection hp with hp
  simp only[zH t.ne]at hp;exact hp.symm
 refine⟨by rw[aDj],λi x p hx hp=>by rw[hget i x p hx hp],λi x p hx hp f hf=>?_,λi x p hx hp=>?_⟩
 ·have hxc:=Aq hx;rw[hget i x p hx hp]at hf;simp only at hf;by_cases q1:x.id=a
  ·rw[Ad q1]at hf;cases hf
  ·rw[Ac q1]at hf;by_cases q2:x.id=b
   ·rw[Ad q2]at hf;obtain⟨g,hg,e1,e2⟩:=aTa _ hf;obtain⟨u,hu,k1,k2,k3,k4⟩:=t.stay h t.ina hg (.inr e2);have hxx:x=xb:=h.inc.eq hxc t.inb (q2.trans t.idb.symm);refine⟨u,by rw[<-e1,<-k1];exact aGs h.inc hu k3 k4,by rw[k2,hxx,t.dim]⟩
   ·rw[Ac q2]at hf;rw[AT.1 hf];exact⟨x,aGs h.inc hxc q1 q2,rfl⟩
 ·have hxc:=Aq hx;rw[hget i x p hx hp];have hfc:∀f∈x.b,∃y∈c,y.id=f.1:=λf hf=>let ⟨y,hy,k,_⟩:=h.face x hxc f hf;⟨y,hy,k⟩
  refine wS (cS _ [] Val.nil).1 (cS _ [] Val.nil).1 λw=>?_
  unfold bdX apX;rw[dR,dR,pF,xV h.inc w hfc];simp only;obtain⟨W,hW⟩:∃W,bO w (rT b z xa.b)=W:=⟨_,rfl⟩;have hzz:z*z=1:=by rcases t.unit with e|e<;>rw[e]<;>rfl
  have hWv:W=-z*bO w xa.b+w b:=by rw[<-hW,aWj,t.cf h,Int.mul_sub,<-DD,C0 z z,hzz];omega
  have hr:bO (λk=>bO w ((mH [(a,[]),(b,rT b z xa.b)] k).getD [(k,1)])) x.b=bO w x.b+(W-w b)*Go.Am.cf b x.b:=by
   have e1:bO (λk=>bO w ((mH [(a,[]),(b,rT b z xa.b)] k).getD [(k,1)])) x.b=bO (λk=>w k+(W-w b)*(if k=b then 1 else 0)-0*0) x.b:=eB λf hf=>by
    rw[zH t.ne,Ac (t.ua x hxc f hf)];by_cases q:f.1=b
    ·rw[Ad q,Ad q,hW,q];omega
    ·rw[Ac q,Ac q];simp[bO]
   have e2:bO (λm=>if m=b then(1:Int)else 0) x.b=Go.Am.cf b x.b:=by rw[nN];exact eB λf _=>aVy f.1 b
   rw[e1,vA w _ (λ_=>0) _ 0,e2];omega
  rw[hr];by_cases q1:x.id=a
  ·have hxx:x=xa:=h.inc.eq hxc t.ina (q1.trans t.ida.symm);rw[Ad q1,hxx,t.cf h];have:(W-w b)*z=-bO w xa.b:=by rw[hWv,Int.add_sub_cancel,Int.mul_comm (-z),DD,C0,hzz];omega
   rw[this];simp only[bO];omega
  ·have hxx:x≠xa:=λe=>q1 (by rw[e];exact t.ida)
   rw[Ac q1,t.cf0 hxc hxx,Int.mul_zero,Dn];by_cases q2:x.id=b
   ·rw[Ad q2];have hxb:x=xb:=h.inc.eq hxc t.inb (q2.trans t.idb.symm);have e1:bO (λm=>bO w (Go.Am.bOf (kN c a b) m)) (rT b z xa.b)=bO (λm=>bO w (Go.Am.bOf c m)) (rT b z xa.b):=eB λf hf=>by obtain⟨g,hg,k1,k2⟩:=aTa _ hf;obtain⟨u,hu,j1,j2,j3,j4⟩:=t.stay h t.ina hg (.inr k2);rw[<-k1,<-j1,aNe h.inc hu j3 j4,h.bOf hu]
    have e2:bO (λm=>bO w (Go.Am.bOf c m)) xa.b=0:=h.wcyc t.ina w;rw[e1,aWj,e2,t.cf h,Int.zero_sub,Int.neg_mul_neg,<-DD,hzz,Int.one_mul,<-q2,h.bOf hxc]
   ·rw[Ac q2];simp only[bO];rw[aNe h.inc hxc q1 q2];omega
end
def bAe{c:List Cl}(h:CxV c){a b z:Int}{xa xb:Cl}(t:oX c a b z xa xb)(hf:(a,b)∈jM c):xS c a b=(kN c a b,eF c (aNf c a b),0):=by
 unfold xS;have e1:bG c a=some xa:=by rw[<-t.ida];exact h.inc.find t.ina
 have e2:bG c b=some xb:=by rw[<-t.idb];exact h.inc.find t.inb
 rw[Ac (by rw[e1,e2];simp),Ac (by simpa using hf)]
def bUj{c:List Cl}{F:Nat}(hz:SzX F c)(a b:Int):SzX F (kN c a b) :=
 ⟨An (zP _ _ _) hz.len,λy hy=>hz.bl y (Bi.1 hy).1,λy hy=>hz.bb y (Bi.1 hy).1⟩
def bUh{c:List Cl}{F:Nat}{a b z:Int}{xa xb:Cl}(t:oX c a b z xa xb)(h:CxV c)(hz:SzX F c):SzM (14+F) (eF c (aNf c a b)):=by
 have hR:(rT b z xa.b).length<=100/\Bnd (2^(14+F)) (rT b z xa.b)/\Val (rT b z xa.b):=by have h1:=hz.bl xa t.ina;have h2:=hz.bb xa t.ina;have h3:=aFb (-z) b xa.b;have h4:=aQv (n:=b) (z:=-z) (K:=1) (by rcases t.unit with e|e<;>rw[e]<;>decide) h2;rw[Nat.one_mul]at h4;have k1:=oB [] (rH (-z) b xa.b);have k2:=mP (rH (-z) b xa.b) [] (Bnd.nil 0) h4;simp only[Bq,A6]at k1 k2;unfold rT;exact⟨by omega,k2.mono (tW (An (by omega:(rH (-z) b xa.b).length<=100) (by decide))),(cS _ [] Val.nil).1⟩
 have hp:∀p∈eF c (aNf c a b),p.2=[]\/p.2=rT b z xa.b\/∃n,p.2=[(n,1)]:=λp hp=>by
  rw[t.g h]at hp;obtain⟨y,_,rfl⟩:=AA.1 hp;simp only[zH t.ne];split
  ·exact .inl rfl
  ·split
   ·exact .inr (.inl rfl)
   ·exact .inr (.inr ⟨_,rfl⟩)
 refine⟨by rw[aDj];exact hz.len,λp h1=>?_,λp h1=>?_,λp h1=>?_⟩
 ·rcases hp p h1 with e|e|⟨n,e⟩<;>rw[e]
  ·exact Al _
  ·exact hR.1
  ·simp
 ·rcases hp p h1 with e|e|⟨n,e⟩<;>rw[e]
  ·exact Bnd.nil _
  ·exact hR.2.1
  ·exact Bnd.one (An (by decide:(1:Int).natAbs<=2^0) (BW (by decide) (Al _)))
 ·rcases hp p h1 with e|e|⟨n,e⟩<;>rw[e]
  ·exact Val.nil
  ·exact hR.2.2
  ·exact jL n
def bRd{c:List Cl}(h:c.length<=100):SzM 0 (eF c []):=by
 have hp:∀p∈eF c [],∃n,p.2=[(n,1)]:=λp hp=>by obtain⟨y,_,rfl⟩:=AA.1 hp;exact⟨_,rfl⟩
 refine⟨by rw[aDj];exact h,λp h1=>?_,λp h1=>?_,λp h1=>?_⟩
 ·obtain⟨n,e⟩:=hp p h1;rw[e];simp
 ·obtain⟨n,e⟩:=hp p h1;rw[e];exact Bnd.one (Ap 1)
 ·obtain⟨n,e⟩:=hp p h1;rw[e];exact jL n
def cCp{d:List Cl}(hd:Inc d){x:Ch}(hx:Val x)(hk:∀f∈x,∃y,bG d f.1=some y):x.length<=d.length:=by
 have:=aDn (d.map Cl.id) (x.map (·.1)) (by rw[CN];exact hx.1) (by rw[CN];exact hd) λn hn=>by obtain⟨f,hf,rfl⟩:=AA.1 hn;obtain⟨y,hy⟩:=hk f hf;obtain⟨h1,h2⟩:=dF hy;exact AA.2 ⟨y,h1,h2⟩
 simpa using this
def CmT.len2{a b:List Cl}{m:List (Int×Ch)}(h:CmT a b m)(hb:Inc b)(hv:∀p∈m,Val p.2){p:Int×Ch}(hp:p∈m):p.2.length<=b.length:=by
 obtain⟨i,hi,rfl⟩:=Bw hp;have hia:i<a.length:=by rw[<-h.len];exact hi
 exact cCp hb (hv _ hp) λf hf=>let ⟨y,hy,_⟩:=h.key i _ _ (Ab hia) (Ab hi) f hf;⟨y,hy⟩
def bZk{c d e:List Cl}{m n:List (Int×Ch)}{g k:Nat}(h1:CmT c d m)(h2:CmT d e n)(hd:Inc d)(he:Inc e)(hm:SzM g m)(hn:SzM k n)(hel:e.length<=100):SzM (20+(g+k)) (aGw m n):=by
 have hv:∀p∈aGw m n,Val p.2:=λp hp=>by obtain⟨q,_,rfl⟩:=AA.1 hp;exact(cS _ [] Val.nil).1
 refine⟨by rw[aTc];exact hm.len,λp hp=>An ((h1.comp h2 hd).len2 he hv hp) hel,λp hp=>?_,hv⟩;obtain⟨q,hq,rfl⟩:=AA.1 hp;have hql:=hm.bl q hq;obtain⟨k1,k2⟩:=bNv hn (x:=q.2) (hm.bb q hq);have k3:=mP (apL n q.2) [] (Bnd.nil 0) k2;simp only[Bq,A6]at k3;have h5:=Nat.mul_le_mul_right 10000 hql;exact k3.mono (tW (An (An k1 h5) (by decide)))
structure ShI(F:Nat)(c0:List Cl)(j:Nat)(c:List Cl)(m:List (Int×Ch)):Prop where
 v:CxV c
 len:c.length+2*j<=11
 sz:SzX F c
 ids:∀x∈c,1<=x.id/\x.id<=17
 cm:CmT c0 c m
 szm:SzM (j*(F+40)) m
def bMj{c:List Cl}{a b z:Int}{xa xb:Cl}(t:oX c a b z xa xb)(h:Inc c):(kN c a b).length+2=c.length:=by
 have h1:∀{c:List Cl} {x:Cl},Inc c->x∈c->(c.filter λy=>!decide (y.id=x.id)).length+1=c.length:=by
  intro c;induction c with
  |nil=>intro x _ hx;cases hx
  |cons y c ih =>
   intro x hc hx;obtain⟨p1,p2⟩:=Bk.1 hc;rcases AG.1 hx with rfl|hx
   ·have:c.filter (λy=>!decide (y.id=x.id))=c:=Eh.2 λu hu=>by have:=p1 u hu;simp;omega
    simp[CH,this]
   ·have:=p1 x hx;have hne:¬y.id=x.id:=by omega
    have:=ih p2 hx;simp[CH,hne];exact this
 have e:kN c a b=(c.filter λy=>!decide (y.id=xa.id)).filter λy=>!decide (y.id=xb.id):=by unfold kN jD;rw[List.filter_filter,t.ida,t.idb];exact List.filter_congr λy _=>by rw[Bool.and_comm]
 have h2:=h1 h t.ina;have h3:=h1 (c:=c.filter λy=>!decide (y.id=xa.id)) (x:=xb) (Df _ h) (Bi.2 ⟨t.inb,by
  have:=t.ne;rw[t.idb,t.ida];simpa using λe=>this e.symm⟩)
 rw[e];omega
def ShI.step{F j:Nat}{c0 c:List Cl}{m:List (Int×Ch)}(s:ShI F c0 j c m){p:Int×Int}(hp:p∈jM c):ShI F c0 (j+1) (kN c p.1 p.2) (aGw m (eF c (aNf c p.1 p.2))):=by
 obtain⟨a,b⟩:=p;obtain⟨z,xa,xb,t⟩:=aDu s.v hp;have hl:=s.len;have h2:=bMj t s.v.inc;have h3:=bZk s.cm (t.comm s.v) s.v.inc (aGu s.v.inc) s.szm (bUh t s.v s.sz) (by omega);refine⟨t.valid s.v,by simp only;omega,bUj s.sz a b,λx hx=>s.ids x (Bi.1 hx).1,s.cm.comp (t.comm s.v) s.v.inc,?_⟩;have e:20+(j*(F+40)+(14+F))<=(j+1)*(F+40):=by rw[Nat.succ_mul];omega
 exact⟨h3.len,h3.bl,λp hp=>(h3.bb p hp).mono (BW (by decide) e),h3.val⟩
def ShI.one{F:Nat}{c:List Cl}(hc:MdX c)(hz:SzX F c):ShI F c 0 c (eF c []) :=
 ⟨hc.v,by have:=hc.len;omega,hz,hc.ids,CmT.one hc.v,by rw[Cn];exact bRd (by have:=hc.len;omega)⟩
def ShI.inr{F j:Nat}{c0 c:List Cl}{m:List (Int×Ch)}(s:ShI F c0 j c m){x:Cl}(hx:x∈c):inr x.id=true:=by have:=s.ids x hx;simp only[Go.Am.inr,AI];omega
def ShI.keys{F j:Nat}{c0 c:List Cl}{m:List (Int×Ch)}(s:ShI F c0 j c m):∀x∈c,Keys x.b:=λx hx f hf=>by obtain⟨y,hy,e,_⟩:=s.v.face x hx f hf;rw[<-e];exact s.inr hy
end Go.Am
end
section
open List renaming map_map->C,mapM_map->E
namespace Go.Proofs
open Go.RowKit Go.Lib Go.Sort Go.Shelf
def Tryz.sortC_ren:FX:=⟨λ|14=>220|20=>222|21=>223|22=>224|23=>225|24=>226|25=>227|26=>228|27=>229|46=>230|47=>199|48=>200|49=>231|50=>232|15=>186|57=>233|28=>196|29=>197|n=>n,λ|24=>40|22=>31|3=>3|25=>264|4=>4|0=>0|46=>240|45=>239|50=>199|66=>248|39=>102|55=>99|70=>252|76=>254|77=>255|53=>101|5=>5|9=>9|n=>n,λn=>n⟩
def Tryz.sortC:Go.Proofs.SlLaysF0.n14 Aa Tryz.sortC_ren:={
 mixed:=by kernel_rfl,
 f14:=⟨Tryz.f220.name,by decide,Tryz.func220.trans (congrArg some (by kernel_rfl))⟩,
 f15:=Tryz.func186.trans (congrArg some (by kernel_rfl)),
 f20:=⟨Tryz.f222.name,by decide,Tryz.func222.trans (congrArg some (by kernel_rfl))⟩,
 f21:=⟨Tryz.f223.name,by decide,Tryz.func223.trans (congrArg some (by kernel_rfl))⟩,
 f22:=⟨Tryz.f224.name,by decide,Tryz.func224.trans (congrArg some (by kernel_rfl))⟩,
 f23:=⟨Tryz.f225.name,by decide,Tryz.func225.trans (congrArg some (by kernel_rfl))⟩,
 f24:=⟨Tryz.f226.name,by decide,Tryz.func226.trans (congrArg some (by kernel_rfl))⟩,
 f25:=⟨Tryz.f227.name,by decide,Tryz.func227.trans (congrArg some (by kernel_rfl))⟩,
 f26:=⟨Tryz.f228.name,by decide,Tryz.func228.trans (congrArg some (by kernel_rfl))⟩,
 f27:=⟨Tryz.f229.name,by decide,Tryz.func229.trans (congrArg some (by kernel_rfl))⟩,
 f28:=Tryz.func196.trans (congrArg some (by kernel_rfl)),
 f29:=Tryz.func197.trans (congrArg some (by kernel_rfl)),
 f46:=⟨Tryz.f230.name,by decide,Tryz.func230.trans (congrArg some (by kernel_rfl))⟩,
 f47:=Tryz.func199.trans (congrArg some (by kernel_rfl)),
 f48:=Tryz.func200.trans (congrArg some (by kernel_rfl)),
 f49:=⟨Tryz.f231.name,by decide,Tryz.func231.trans (congrArg some (by kernel_rfl))⟩,
 f50:=⟨Tryz.f232.name,by decide,Tryz.func232.trans (congrArg some (by kernel_rfl))⟩,
 f57:=⟨Tryz.f233.name,by decide,Tryz.func233.trans (congrArg some (by kernel_rfl))⟩,
 t0:=Tryz.underlying0,
 a0:=Tryz.isAgg0,
 z0:=Tryz.sizeOf0,
 v0:=Tryz.zeroValue0,
 t3:=DR,
 a3:=Fb,
 z3:=ET,
 v3:=D7,
 t4:=ES,
 a4:=Tryz.isAgg4,
 z4:=Tryz.sizeOf4,
 v4:=FL,
 t5:=Tryz.underlying5,
 a5:=Tryz.isAgg5,
 z5:=Tryz.sizeOf5,
 v5:=Tryz.zeroValue5,
 t9:=Tryz.underlying9,
 a9:=Tryz.isAgg9,
 z9:=Tryz.sizeOf9,
 v9:=Tryz.zeroValue9,
 t22:=Tryz.underlying31,
 a22:=Tryz.isAgg31,
 z22:=Tryz.sizeOf31,
 v22:=Tryz.zeroValue31,
 t25:=Tryz.underlying264,
 a25:=Tryz.isAgg264,
 z25:=Tryz.sizeOf264,
 v25:=Tryz.zeroValue264,
 t39:=Tryz.underlying102,
 a39:=Tryz.isAgg102,
 z39:=Tryz.sizeOf102,
 v39:=Tryz.zeroValue102,
 t45:=Tryz.underlying239,
 a45:=Tryz.isAgg239,
 z45:=Tryz.sizeOf239,
 v45:=Tryz.zeroValue239,
 t46:=Tryz.underlying240,
 a46:=Tryz.isAgg240,
 z46:=Tryz.sizeOf240,
 v46:=Tryz.zeroValue240,
 t50:=Tryz.underlying199,
 a50:=Tryz.isAgg199,
 z50:=Tryz.sizeOf199,
 v50:=Tryz.zeroValue199,
 t53:=Tryz.underlying101,
 a53:=Tryz.isAgg101,
 z53:=Tryz.sizeOf101,
 v53:=Tryz.zeroValue101,
 t55:=Tryz.underlying99,
 a55:=Tryz.isAgg99,
 z55:=Tryz.sizeOf99,
 v55:=Tryz.zeroValue99,
 t66:=Tryz.underlying248,
 a66:=Tryz.isAgg248,
 z66:=Tryz.sizeOf248,
 v66:=Tryz.zeroValue248,
 t70:=Tryz.underlying252,
 a70:=Tryz.isAgg252,
 z70:=Tryz.sizeOf252,
 v70:=Tryz.zeroValue252,
 t76:=Tryz.underlying254,
 a76:=Tryz.isAgg254,
 z76:=Tryz.sizeOf254,
 v76:=Tryz.zeroValue254,
 t77:=Tryz.underlying255,
 a77:=Tryz.isAgg255,
 z77:=Tryz.sizeOf255,
 v77:=Tryz.zeroValue255 }
section
variable {α:Type} [Inhabited α]
def Tryz.sortFuncC(enc:α->List Value)(hk:∀x,(enc x).length=3)(h1:∀x,∀v∈enc x,v.oneCell'=true)(cf:α->α->Int)(hO:SWO (ltOf cf))(g:Nat)(cb:Array Value)(blk off cap:Nat)(d:Array α)(w:World)
  (eg:∀args w,(callFunc g args).run Aa w=.ok (.enter g args) w) (hcmp:CmpLays Aa g cb enc 3 cf blk off d.size w) (hH:HoldsK enc 3 w blk off d) (hblk:blk<w.heap.size) (hsz:d.size<4611686018427387904) :
  Calls Aa 217 #[.slice (some ⟨blk,off,none⟩) d.size cap,.func (.func g) #[] cb] w λe w' =>
   e=.returned (.tuple #[])/\∃n os,w'=sortWorldK enc 3 w blk off n (pdq (ltOf cf) d 0 d.size (F8 d.size) true true) os:=by
 have e14:∀args w,(callFunc 220 args).run Aa w=.ok (.enter 220 args) w:=enters_of Tryz.func220 (by kernel_rfl) rfl
 have e15:∀args w,(callFunc 186 args).run Aa w=.ok (.enter 186 args) w:=enters_of Tryz.func186 (by kernel_rfl) rfl
 have hlim:F8 d.size<4611686018427387904:=Nat.lt_of_le_of_lt (Lib.bitLen_le d.size 62 (by omega) (by omega)) (by omega)
 have hp:=AnyQ.pdqsortCmpFunc_all Tryz.sortC 3 Tryz.isAgg40 Gs enc cf g cb hO blk off cap d w eg hcmp ⟨hk,h1,hH,hblk⟩ (d.size+1) 0 d.size (F8 d.size) d w (by omega) rfl (SWK.start hH) (Al _) (Ap _) hsz hlim (Or.inl rfl)
 have hl:Calls Aa 186 #[.int .u64 (d.size:Int)] w λe w'=>e=.returned (.int .i64 (F8 d.size:Nat))/\w'=w:=by have h:=Any.bits_Len (SlLaysF0.n15.bits (P:=Aa) (ρ:=Tryz.sortC_ren) { Tryz.sortC with }) (d.size:Int) w (by omega) (by omega);rwa [Int.toNat_natCast]at h
 change Calls Aa 220 _ _ _ at hp
 have wr:IntKind.u64.wrap (d.size:Int)=d.size:=by simp[IntKind.wrap,IntKind.bits,IntKind.signed];omega
 clear hH hcmp hk h1
 go_enter Tryz.func217,Tryz.ntmps217
 go_wp2_with (first|(go_at_call 186;refine hl.mono ?_;rintro e w' ⟨rfl,rfl⟩)|(go_at_call 220;refine hp.mono ?_;rintro e w' ⟨rfl,n,os,rfl⟩))
 go_end0
 exact⟨rfl,n,os,rfl⟩
end
end Go.Proofs
end
section
open List renaming map_map->C,mapM_map->E
open Go Go.Am
namespace Go.Proofs
open Go.RowKit Go.Lib Go.Sort Go.Shelf
def Tryz.cmpC_ren:FX:=⟨λ|5=>142|7=>150|n=>n,λ|22=>3|3=>3|4=>4|n=>n,λ|n=>n⟩
def Tryz.cmpC:Go.Proofs.SlLaysC2.n5 Aa Tryz.cmpC_ren:={
 mixed:=by kernel_rfl,
 f5:=⟨"cmp.Compare[int]",by decide,Tryz.func142.trans (congrArg some (by kernel_rfl))⟩,
 f7:=⟨"cmp.isNaN[int]",by decide,Tryz.func150.trans (congrArg some (by kernel_rfl))⟩,
 t3:=DR,
 a3:=Fb,
 z3:=ET,
 v3:=D7,
 t4:=ES,
 a4:=Tryz.isAgg4,
 z4:=Tryz.sizeOf4,
 v4:=FL,
 t22:=DR,
 a22:=Fb,
 z22:=ET,
 v22:=D7 }
structure Cv where
 id:Int
 dim:Int
 v:Value
 h1:v.oneCell'=true
instance : Inhabited Cv := ⟨⟨0, 0, .bool false, rfl⟩⟩
def aHz(x:Cl)(v:Value):Cv:=if h:v.oneCell'=true then⟨x.id,x.dim,v,h⟩else⟨x.id,x.dim,.bool false,rfl⟩
def rS(x:Cv):List Value:=[.int .i64 x.id,.int .i64 x.dim,x.v]
def cfC(x y:Cv):Int:=F9 x.id y.id
def ltC(x y:Cv):ltOf cfC x y=decide (x.id<y.id):=by
 unfold ltOf cfC F9;by_cases h1:x.id<y.id
 ·simp[h1]
 ·by_cases h2:y.id<x.id<;>simp[h1,h2]
def cAt:SWO (ltOf cfC) where
 irrefl x:=by rw[ltC];simp
 trans x y z h1 h2:=by rw[ltC]at *;simp at *;omega
 ntrans x y z h1 h2:=by rw[ltC]at *;simp at *;omega
def Tryz.closC(x y:Cv)(W:World):Calls Aa 218 #[.agg #[.int .i64 x.id,.int .i64 x.dim,x.v],.agg #[.int .i64 y.id,.int .i64 y.dim,y.v]] W λe w'=>e=.returned (.int .i64 (F9 x.id y.id))/\∃q os',w'=grow (W.drewN q) os':=by
 have hcon:=λW'=>AnyG.cmp_Compare_int Tryz.cmpC x.id y.id W'
 change ∀W',Calls Aa 142 _ _ _ at hcon;generalize F9 x.id y.id=r at hcon ⊢;obtain⟨xi,xd,xv,xh⟩:=x;obtain⟨yi,yd,yv,yh⟩:=y;simp only at hcon ⊢
 go_enter Tryz.func218,Tryz.ntmps218
 go_wp2_with (go_at_call 142;refine(hcon _).mono ?_;rintro e w' ⟨rfl,rfl⟩)
 go_ret
 exact⟨rfl,0,_,by rw[alloc_eq_grow,alloc_eq_grow,grow_grow];rfl⟩
def aMj{α β:Type}(f:α->β){l' l:List β}(h:l'.Perm l):∀{M:List α},M.map f=l->∃M':List α,M'.Perm M/\l'=M'.map f:=by
 induction h with
 |nil=>intro M hM;exact⟨M,.refl _,by rw[hM]⟩
 |cons x p ih =>
  intro M hM;cases M with
  |nil=>cases hM
  |cons a M =>
   injection hM with h1 h2
   obtain⟨M',h3,h4⟩:=ih h2;exact⟨a::M',h3.cons a,by rw[AZ,h1,h4]⟩
 |swap x y l =>
  intro M hM;match M,hM with
  |a::c::M,hM =>
   injection hM with h1 h2
   injection h2 with h2 h3
   exact⟨c::a::M,.swap ..,by simp[h1,h2,h3]⟩
 |trans h1 h2 ih1 ih2 =>
  intro M hM;obtain⟨M2,h3,h4⟩:=ih2 hM;obtain⟨M1,h5,h6⟩:=ih1 h4.symm;exact⟨M1,h5.trans h3,h6⟩
def aRy{L' L:List Cl}(hs:Inc L)(hp:L'.Perm L)(hw:L'.Pairwise λx y=>x.id<=y.id):L'=L:=by
 induction L generalizing L' with
 |nil=>exact hp.eq_nil
 |cons a L ih =>
  obtain⟨h1,h2⟩:=Bk.1 hs;cases L' with
  |nil=>exact absurd hp.symm.eq_nil (by simp)
  |cons a' L' =>
   obtain⟨h3,h4⟩:=Bk.1 hw;have e:a'=a:=by
    rcases AG.1 (hp.mem_iff.1 (Av ..))with h|h
    ·exact h
    ·rcases AG.1 (hp.mem_iff.2 (Av ..))with h'|h'
     ·exact h'.symm
     ·have:=h1 _ h;have:=h3 _ h';omega
   subst e;rw[ih h2 (List.Perm.cons_inv hp) h4]
def aDs{α:Type}{f:α->List D}{k:Nat}(h:∀x,(f x).length=k):∀(l:List α) (j c:Nat) (x:α),l[j]? = some x->c<k->(flt f l)[j*k+c]? = (f x)[c]?
 |[],j,c,x,hx,_=>by simp at hx
 |y::l,0,c,x,hx,hc=>by simp at hx;subst hx;rw[Cn,A6,show flt f (y::l)=f y++flt f l from by simp[flt],AJ (by rw[h];exact hc)]
 |y::l,j+1,c,x,hx,hc=>by rw[show flt f (y::l)=f y++flt f l from by simp[flt],Az (by rw[h,By];omega),h,show(j+1)*k+c-k=j*k+c by rw[By];omega];exact aDs h l j c x (by simpa using hx) hc
def bBg{els:List (List D)}{A:Nat->Prop}{W:World}{v:Value}(h:VD A W (.sl els) v):v.oneCell'=true:=by obtain⟨ad,c,rfl,_⟩:=mQ h;rfl
def Tryz.sortO{L L':List Cl}(hp:L'.Perm L)(hs:Inc L')(hl:L.length<4611686018427387904) :
  tJ Aa 217 (.own 0 0 L.length 3) (.cells 40 ((flt aN L).map .d)) [.lit (.func (.func 218) #[] #[])] (.cells 40 ((flt aN L').map .d)) (.tp []):=by
 intro A W vs b hA hnb hb hob hlen hv0 hds
 obtain⟨ob,hob,hcr⟩:=hob
 obtain⟨v0,hv0,hV0⟩:=hv0
 have hsz:vs.size=2:=by simpa using hlen.symm
 obtain⟨v1,hv1⟩:∃v1,vs[1]? = some v1:=⟨vs[1],AD (by omega)⟩
 have hvs:vs=#[v0,v1]:=by
  apply DX;intro k;match k with
  |0=>simpa using hv0
  |1=>simpa using hv1
  |k+2=>rw[B6 (by omega)];simp
 have h1:=hds 0 _ v1 rfl hv1
 cases h1
 cases hV0 with
 |own _ _ _ _ b' cap cur e hι hb' hcap hlc hm =>
 have hbb:b'=b:=by unfold ι1 at hι;simp at hι;exact hι.symm
 subst hbb
 rw[hob]at hb'
 injection hb' with hb'
 subst hb'
 subst hvs
 generalize hn:L.length=n at hlc hcap hl
 have hent:∀w,(callFunc 217 #[.slice (some ⟨b',0*3,none⟩) n cap,.func (.func 218) #[] #[]]).run Aa w=.ok (.enter 217 #[.slice (some ⟨b',0*3,none⟩) n cap,.func (.func 218) #[] #[]]) w:=enters_of Tryz.func217 (by kernel_rfl) rfl _
 refine⟨hent,?_⟩
 cases hcr with
 |cells _ _ _ hle hcell =>
 have hat:∀(j c:Nat) (x:Cl),L[j]? = some x->c<3->∃y u,(aN x)[c]? = some y/\cur[j*3+c]? = some u/\VD A W y u:=by
  intro j c x hx hc;have h2:=aDs aX L j c x hx hc;obtain⟨y,hy⟩:∃y,(aN x)[c]? = some y:=⟨_,Ab (by rw[aX];exact hc)⟩;obtain⟨u,hu,hV⟩:=hcell (j*3+c) (.d y) (by rw[Aw,h2,hy];rfl);cases hV with
  |d _ _ h=>exact⟨y,u,hy,hu,h⟩
 let M:List (Cl×Value):=L.mapIdx λj x=>(x,(cur[j*3+2]?).getD default)
 have hMl:M.length=n:=by simp[M,hn]
 have hMj:∀j x,L[j]? = some x->M[j]? = some (x,(cur[j*3+2]?).getD default):=λj x hx=>by simp[M,List.getElem?_mapIdx,hx]
 have hM1:M.map Prod.fst=L:=by
  apply DH;intro j;rw[Aw];cases hx:L[j]? with
  |none=>simp[M,List.getElem?_mapIdx,hx]
  |some x=>rw[hMj j x hx];rfl
 have hM2:∀p∈M,VD A W (aK p.1.b) p.2:=by
  intro p hpm;obtain⟨j,hj⟩:=FG hpm;have hjl:j<L.length:=by rw[hn,<-hMl];exact(Ah.1 hj).1
  have hx:L[j]? = some L[j]:=Ab hjl;rw[hMj j _ hx]at hj;injection hj with hj
  obtain⟨y,u,hy,hu,hV⟩:=hat j 2 _ hx (by omega);subst hj;simp only[aN]at hy;simp at hy;subst hy;rw[hu];exact hV
 have hM3:∀p∈M,p.2.oneCell'=true:=λp hpm=>bBg (hM2 p hpm)
 let d:Array Cv:=(M.map λp=>aHz p.1 p.2).toArray
 have hds:d.size=n:=by simp[d,hMl]
 have hmk:∀p∈M,rS (aHz p.1 p.2)=[.int .i64 p.1.id,.int .i64 p.1.dim,p.2]:=λp hpm=>by unfold aHz;rw[dif_pos (hM3 p hpm)];rfl
 have hH:HoldsK rS 3 W b' 0 d:=by
  intro t ht;rw[size_flatK,hds]at ht;have hj:t/3<L.length:=by rw[hn];omega
  have hx:L[t/3]? = some L[t/3]:=Ab hj;have hd:d[t/3]! = aHz L[t/3] ((cur[t/3*3+2]?).getD default):=by rw[getElem!_pos d (t/3) (by rw[hds,<-hn];exact hj)];have:=hMj _ _ hx;have h3:=(Ah.1 this).2;simp only[d,List.getElem_toArray,ER,h3]
  have hmem:(L[t/3],(cur[t/3*3+2]?).getD default)∈M:=Aq (hMj _ _ hx);rw[get_flatK _ _ _ _ (by rw[hds];exact ht),hd,hmk _ hmem];constructor
  ·simp only[FA,hob,A6,id];obtain⟨y,u,hy,hu,hV⟩:=hat (t/3) (t%3) _ hx (EL _ (by omega));rw[Nat.div_add_mod' t 3]at hu;simp only[Option.isSome_none,A0,B2,hu];rcases(by omega:t%3=0\/t%3=1\/t%3=2)with hc|hc|hc
   ·rw[hc]at hy ⊢;simp[aN]at hy;subst hy;cases hV;rfl
   ·rw[hc]at hy ⊢;simp[aN]at hy;subst hy;cases hV;rfl
   ·have:t/3*3+2=t:=by omega
    rw[hc,this,hu];rfl
  ·simp only[World.frozen?,hob];simp
 have eg:∀args w,(callFunc 218 args).run Aa w=.ok (.enter 218 args) w:=enters_of Tryz.func218 (by kernel_rfl) rfl
 have hcall:=Tryz.sortFuncC rS (λ_=>rfl) (λx v hv=>by simp[rS]at hv;rcases hv with rfl|rfl|rfl;rfl;rfl;exact x.h1) cfC cAt 218 #[] b' 0 cap d W eg (λ_ _ _ _ x y=>Tryz.closC x y _) hH hb (by rw[hds];exact hl)
 rw[hds]at hcall
 refine hcall.mono ?_
 rintro e' w' ⟨rfl,q,os,rfl⟩
 have hpd:=pdq_sorts (ltOf cfC) cAt d 0 n (F8 n) true true (Al _) (by rw[hds];exact Ap _) (Or.inl rfl)
 generalize pdq (ltOf cfC) d 0 n (F8 n) true true=d' at hpd ⊢
 obtain⟨⟨hd1,_,hd2⟩,hso⟩:=hpd
 rw[hds]at hd1
 have hdp:d'.toList.Perm d.toList:=by
  have e1:d'.extract 0 n=d':=by rw[<-hd1];simp
  have e2:d.extract 0 n=d:=by rw[<-hds];simp
  rwa [e1,e2]at hd2
 obtain⟨M',hM',hdM⟩:=aMj (λp:Cl×Value=>aHz p.1 p.2) hdp (M:=M) (by simp[d])
 have hlM:M'.length=n:=by rw[hM'.length_eq,hMl]
 have hidk:∀p:Cl×Value,(aHz p.1 p.2).id=p.1.id:=λp=>by unfold aHz;split<;>rfl
 have hdj:∀j (h:j<M'.length),d'[j]! = aHz M'[j].1 M'[j].2:=λj h=>by rw[getElem!_pos d' j (by rw[hd1,<-hlM];exact h),<-Array.getElem_toList];simp only[hdM,ER]
 have hLM:M'.map Prod.fst=L':=by refine aRy hs (((hM'.map Prod.fst).trans (by rw[hM1])).trans hp.symm) ?_;rw[BC];intro i j hi hj hij;rw[AL]at hi hj;have:=hso i j (Al _) hij (by rw[<-hlM];exact hj);rw[hdj j hj,hdj i hi,ltC,hidk,hidk]at this;simp at this;simpa using this
 have hM2':∀p∈M',VD A W (aK p.1.b) p.2/\rS (aHz p.1 p.2)=[.int .i64 p.1.id,.int .i64 p.1.dim,p.2]:=λp hpm=>⟨hM2 p (hM'.mem_iff.1 hpm),hmk p (hM'.mem_iff.1 hpm)⟩
 have hw:(sortWorldK rS 3 W b' 0 q d' os).heap=W.heap.modify b' (onCells (putCells id 0 (flatK rS 3 d')))++os:=rfl
 have hblk:∀k,k<W.heap.size->k≠b'->(sortWorldK rS 3 W b' 0 q d' os).heap[k]? = W.heap[k]? := λk hk hkb=>by rw[hw,BJ (by simpa using hk),Dx,Ac (Ne.symm hkb)]
 have hbl:(sortWorldK rS 3 W b' 0 q d' os).heap[b']? = some (.cells (putCells id 0 (flatK rS 3 d') cur) 40 (0,0)):=by rw[hw,BJ (by simpa using hb),Dx,Ad rfl,hob];rfl
 have hszc:(putCells id 0 (flatK rS 3 d') cur).size=cur.size:=by simp[putCells]
 refine⟨_,_,rfl,⟨rfl,rfl,rfl,by rw[hw];simp,λk hk hkb=>hblk k hk hkb,λk c e hk hc=>?_⟩,hbl,λc e hc=>?_,?_,.tp _ _ rfl (λk c v hk=>by simp at hk)⟩
 ·by_cases hkb:k=b'
  ·subst hkb
   rw[hob]at hc;injection hc with hc;injection hc with hc1 hc2;subst hc1;subst hc2
   exact⟨_,hbl,hszc⟩
  ·exact⟨c,(hblk k hk hkb).trans hc,rfl⟩
 ·rw[hob]at hc;injection hc with hc;injection hc with hc1 hc2;subst hc1;subst hc2
  exact⟨_,rfl,hszc⟩
 ·have hLl:L'.length=n:=by rw[<-hLM,AL,hlM]
  refine .cells _ _ _ (by rw[AL,bJ aX,hLl,hszc];rw[AL,bJ aX,hn]at hle;exact hle) ?_
  intro k c hk
  have hkl:k<n*3:=by have:=(Ah.1 hk).1;rw[AL,bJ aX,hLl]at this;exact this
  have hj:k/3<M'.length:=by rw[hlM];omega
  have hx:L'[k/3]? = some M'[k/3].1:=by rw[<-hLM,Aw,Ab hj];rfl
  have h2:=aDs aX L' (k/3) (k%3) _ hx (EL _ (by omega))
  rw[Nat.div_add_mod' k 3]at h2
  have hcs:k<cur.size:=by rw[AL,bJ aX,hn]at hle;omega
  obtain⟨hv1,hv2⟩:=hM2' _ (Ar hj)
  have hcell':(putCells id 0 (flatK rS 3 d') cur)[k]? = some (rS (aHz M'[k/3].1 M'[k/3].2))[k%3]! := by simp only[putCells,Array.getElem?_mapIdx,AD hcs,A4,size_flatK,hd1];rw[Ad ⟨Al _,by omega⟩,Nat.sub_zero,get_flatK _ _ _ _ (by rw[hd1];exact hkl),hdj _ hj];rfl
  rw[hv2]at hcell'
  refine⟨_,hcell',?_⟩
  rw[Aw,h2]at hk
  rcases(by omega:k%3=0\/k%3=1\/k%3=2)with hc|hc|hc
  ·rw[hc]at hk ⊢;simp[aN]at hk;subst hk;exact .d _ _ (.i ..)
  ·rw[hc]at hk ⊢;simp[aN]at hk;subst hk;exact .d _ _ (.i ..)
  ·rw[hc]at hk ⊢;simp[aN]at hk;subst hk
   exact .d _ _ (hv1.step (λx hx=>.inl hx) λx hx=>hblk x (hA x hx) λh=>hnb (h ▸ hx))
end Go.Proofs
end
section
open List renaming map_map->C,mapM_map->E
open Go Go.Am Go.Proofs
namespace Go.Am
def bXg:gQ Aa 215:=aEt Tryz.func215 (by kernel_rfl) rfl rfl rfl
def wU{H H':Hp}{ρ:Nat->Nat}{t:TypeId}{id n:Nat}{l:Ch}(hn:l.length=n)(hH:H id=some (.cells t ((flt eL l).map .d)))(hv:∀j,(H' j).isSome=true->ρ j≠id):Sub H H' ρ (.own id 0 n 3) (.d (aK l)):=by
 have e1:=dI dD hn;have e2:=cW (by decide) dD hn;have e3:=bJ dD l;rw[hn]at e3;refine qE ?_ λa ha j h=>?_
 ·rw[jA,hH];simp only[Cn,A6,BY,e1,mA,A4,e2];rw[Ad ⟨by rw[AL];omega,by omega⟩];rfl
 ·have e:vis H 8 (.own id 0 n 3)=id::((flt eL l).map AV.d).flatMap (vis H 7):=by rw[aXx,hH,aEc,Cn,BY,e1]
  rw[e]at ha;rcases AG.1 ha with rfl|ha
  ·exact hv j h
  ·obtain⟨x,hx,hxa⟩:=Bc.1 ha;obtain⟨d,_,rfl⟩:=AA.1 hx;simp[vis]at hxa
def gL{H H':Hp}{ρ:Nat->Nat}(cs:List D):Sub H H' ρ (.fp cs) (.fp cs)↔True:=⟨λ_=>trivial,λ_=>⟨rfl,λa ha=>by simp[vis]at ha⟩⟩
def rX{H H':Hp}{ρ:Nat->Nat}{t:TypeId}{id:Nat}{cs:List D}(hH:H id=some (.cells t (cs.map .d)))(hv:∀j,(H' j).isSome=true->ρ j≠id):Sub H H' ρ (.ptr id 0) (.fp cs):=by
 have h1:frz H 8 (.ptr id 0)=some (.pt cs):=by rw[aSo,hH];simp only[Al,B1,BY,mA,A4]
 have h2:∀a∈vis H 8 (.ptr id 0),∀j,(H' j).isSome=true->ρ j≠a:=λa ha j h=>by
  rw[aOk,hH]at ha;simp only[BY]at ha;rcases AG.1 ha with rfl|ha
  ·exact hv j h
  ·obtain⟨x,hx,hxa⟩:=Bc.1 ha;obtain⟨d,_,rfl⟩:=AA.1 hx;simp[vis]at hxa
 exact⟨h1,h2⟩
def rR(H:Hp)(n:Nat):gJ H n []=H:=by funext id;simp only[gJ,Bq];rw[Ac (by omega)]
def pR(H:Hp)(n:Nat)(o:HO):gJ H n [o]=upd H n (some o):=by
 funext id;simp only[gJ,As];by_cases h:id=n
 ·subst h;rw[Ad (by omega),dC,Cx];rfl
 ·rw[Ac (by omega),dX _ _ h]
def aJb{l:Ch}{i:Nat}(h:i<l.length):wP (l.take (i+1))=wP (l.take i)++if 0<l[i].2 then[l[i]]else[]:=by unfold wP;rw[AM,Ab h,BQ];congr 1;by_cases e:0<l[i].2<;>simp[e]
def bCv{l:Ch}{i:Nat}(h:i<l.length):yU (l.take (i+1))=yU (l.take i)++if 0<l[i].2 then[]else[l[i]]:=by unfold yU;rw[AM,Ab h,BQ];congr 1;by_cases e:0<l[i].2<;>simp[e]
def bOc{l:Ch}{i:Nat}(h:i<l.length)(e w1:Int):adF e w1 (l.take (i+1))=adF e w1 (l.take i)++if l[i].1=e then[(w1,l[i].2)]else[]:=by unfold adF;rw[AM,Ab h,BQ,Bu];congr 1;by_cases q:l[i].1=e<;>simp[q]
def yN(l:Ch):(wP l).length<=l.length:=Cw _ _
def aFj(l:Ch):(yU l).length<=l.length:=Cw _ _
def aYd(z:Int):decide (0<z.sign)=decide (0<z):=by
 rcases Int.lt_trichotomy z 0 with h|h|h
 ·rw[CU h];simp;omega
 ·subst h;rfl
 ·rw[Dk h];simp[h]
def cAz{e:Nat}{w:Int}{z:Int}{l:Ch}(hz:z.natAbs=1)(h:Bnd (2^e) l):Bnd (2^e) ((w,z)::l):=λx hx=>by
 rcases AG.1 hx with rfl|hx
 ·show z.natAbs<=_;rw[hz];exact Cd
 ·exact h x hx
def aRn{c:List Cl}{F:Nat}(e w0 w1:Int)(hc:Inc c)(hz:SzX F c)(hk:∀x∈c,Keys x.b)(hi0:inr w0=true)(hi1:inr w1=true)(hie:inr e=true)(hne:∀f∈bOf c e,f.1≠e)(hF:F+20<4398046511104) :
  Spec Aa 214 [aE c,.i .i64 e,.ag [.i .i64 w0,.i .i64 w1]] (fU (aOz c e w0 w1)):=by
 have hlen:=hz.len
 have hFe:=sQ hc e (by omega)
 have hF0:=sQ hc w0 (by omega)
 have hF1:=sQ hc w1 (by omega)
 have hr:∃p x,(bG c e).isSome=p/\(bG c e).getD lA=x:=⟨_,_,rfl,rfl⟩
 obtain⟨p,x,hp,hx⟩:=hr
 have hde:dOf c e=x.dim:=by unfold dOf;rw[hx]
 have hbe:bOf c e=x.b:=by unfold bOf;rw[hx]
 have hxl:x.b.length<=100:=by rw[<-hbe];exact nQ hz.bl e
 have hxb:Bnd (2^F) x.b:=by rw[<-hbe];exact mN hz.bb e
 unfold oT at hFe hF0 hF1
 rw[hp,hx]at hFe
 have hk0:kn c w0=(bG c w0).isSome:=rfl
 have hk1:kn c w1=(bG c w1).isSome:=rfl
 obtain⟨u0,y0,hu0,hy0⟩:∃u y,(bG c w0).isSome=u/\(bG c w0).getD lA=y:=⟨_,_,rfl,rfl⟩
 obtain⟨u1,y1,hu1,hy1⟩:∃u y,(bG c w1).isSome=u/\(bG c w1).getD lA=y:=⟨_,_,rfl,rfl⟩
 rw[hu0,hy0]at hF0
 rw[hu1,hy1]at hF1
 rw[hu0]at hk0
 rw[hu1]at hk1
 unfold aOz
 rw[hp,hde,hk0,hk1]
 refine qP (N:=165) Tryz.func214 bXg ?_
 simp[-C,-E,↓KW,aE]
 refine aJ hFe ?_
 cases p with
 |false=>simp[-C,-E,↓KW,aE,aR,aC,aA,aB,eW,fU,dJ]
 |true =>
  by_cases h1:x.dim=1
  rotate_left
  ·have h1':((x.dim != 1):Bool)=true:=by simpa using h1
   simp[-C,-E,↓KW,aE,aR,aC,aA,aB,eW,fU,dJ,h1,h1']
  ·have h1':((x.dim != 1):Bool)=false:=by simpa using h1
   simp[-C,-E,↓KW,aE,aR,aC,aA,aB,h1,h1']
   refine aJ hF0 ?_
   simp[-C,-E,↓KW,aE,aR,aC,aA,aB,h1,h1']
   refine aJ hF1 ?_
   by_cases h2:w0=w1
   ·have h2':((w0==w1):Bool)=true:=by simpa using h2
    simp[-C,-E,↓KW,aE,aR,aC,aA,aB,eW,fU,dJ,h1,h1',h2,h2']
   ·have h2':((w0==w1):Bool)=false:=by simpa using h2
    cases u0 with
    |true=>simp[-C,-E,↓KW,aE,aR,aC,aA,aB,eW,fU,dJ,h1,h1',h2,h2']
    |false =>
     cases u1 with
     |true=>simp[-C,-E,↓KW,aE,aR,aC,aA,aB,eW,fU,dJ,h1,h1',h2,h2']
     |false =>
      have h3:¬(398:Int)<c.length:=by omega
      have h3':¬398<c.length:=by omega
      have hkx:Keys x.b:=by
       cases hfx:bG c e with
       |none=>rw[hfx]at hp;cases hp
       |some x' =>
        rw[hfx]at hx;have:x'=x:=hx;subst this;exact hk _ (dF hfx).1
      have hO1:=aMq
      have hOm:=bSw
      simp[-C,-E,↓KW,aE,aR,aC,aA,aB,h1,h1',h2,h2',h3,h3']
      refine aJ hO1 ?_
      simp[-C,-E,↓KW,aE,aY,aR,aC,aA,aB,aF,aD,aG]
      refine aJ hOm ?_
      simp[-C,-E,↓KW,aE,aK,aY,aR,aC,aA,aB,aF,aD,aG]
      clear hFe hF0 hF1 hO1 hOm hy0 hy1 hu0 hu1 hp hx
      refine aP (λy:Nat×Ch×Ch=>y.1<=x.b.length/\nE w0 (x.b.take y.1)=y.2.1/\lX w0 (x.b.take y.1)=y.2.2) (λy=>StL [(0,.d (aE c)),(1,.d (.i .i64 e)),(5,.fp [.i .i64 w0,.i .i64 w1]),(15,.own 1 0 y.2.1.length 3),(16,.own 2 0 y.2.2.length 3),(76,.d (aK x.b)),(77,.d (.i .i64 x.b.length)),(78,.d (.i .i64 (y.1:Int)))] none [.cells 75 ((flt eL y.2.1).map .d),.cells 75 ((flt eL y.2.2).map .d)]) (λy=>x.b.length-y.1) (0,[(w0,1)],[(w0,-1)]) ⟨Al _,rfl,rfl⟩ ?_ ?_
      ·refine wkQ [5,6] ?_ ?_<;>simp[-C,upd,aO,Γ0,aE,aK,cG,bE]
       exact rX (cs:=[.i .i64 w0,.i .i64 w1]) rfl λj hj=>vL hj (by simp) (by decide)
      ·rintro⟨i,r,p⟩ ⟨hi,hr,hp⟩
       simp only at hi hr hp ⊢
       by_cases hgo:i<x.b.length
       ·have q1:(i:Int)<x.b.length:=by omega
        have hf:x.b[i]? = some x.b[i]:=Ab hgo
        have hw:Ag.wrap ((i:Int)+1)=(i:Int)+1:=aV
        have tkr:=bCv hgo
        have tkp:=aJb hgo
        have hfb:=hxb _ (Ar hgo)
        have hrl:r.length<=i+1:=by have:=aFj (x.b.take i);rw[<-hr];unfold nE;rw[AH];rw[Ax]at this;omega
        have hpl:p.length<=i+1:=by have:=yN (x.b.take i);rw[<-hp];unfold lX;rw[AH];rw[Ax]at this;omega
        refine exE x.b[i] λf hfe=>?_
        rw[hfe]at hf tkr tkp hfb
        have hef:eL f=[.i .i64 f.1,.b (decide (f.2<0)),aM (aU f.2.natAbs)]:=rfl
        have hSg:=uI f.2 (szE hfb (by omega))
        have hsg:=aYd f.2
        have hm1:(1:Nat)<=maxLen:=aS (by decide)
        simp[-C,-E,↓KW,aE,aK,q1,hf,hef,aF,aD,aG,aC,aA,aB]
        refine aJ hSg ?_
        by_cases h0:0<f.2
        ·have hs0:decide (0<f.2.sign)=true:=by rw[hsg];exact Bx h0
         have hs1:0<f.2.sign:=BH hs0
         rw[Ad h0]at tkr tkp
         rw[A7]at tkr
         have hbb:=cH (n:=p.length) (by omega)
         have hcl:=bJ dD p
         have hal:=dB jW p
         simp[-C,-E,↓KW,aE,aK,q1,hf,hef,hs0,hs1,hw,hm1,hbb,hcl,hal,aS,aF,aD,aG,aC,aA,aB]
         refine aI (τ:=Nat×Ch×Ch) (i+1,r,p++[f]) ⟨hgo,by rw[<-hr];unfold nE;rw[tkr],by rw[<-hp];unfold lX;rw[tkp];rfl⟩ (slQ hgo) ?_
         simp only[Ak,As,cX,cG,bE]
         refine wkQ [1,5] ?_ ?_<;>simp[-C,upd,aO,Γ0,aE,aK,gL]
        ·have hs0:decide (0<f.2.sign)=false:=by rw[hsg];exact Bo h0
         have hs1:¬0<f.2.sign:=Ga hs0
         rw[Ac h0]at tkr tkp
         rw[A7]at tkp
         have hbb:=cH (n:=r.length) (by omega)
         have hcl:=bJ dD r
         have hal:=dB jW r
         simp[-C,-E,↓KW,aE,aK,q1,hf,hef,hs0,hs1,hw,hm1,hbb,hcl,hal,aS,aF,aD,aG,aC,aA,aB]
         refine aI (τ:=Nat×Ch×Ch) (i+1,r++[f],p) ⟨hgo,by rw[<-hr];unfold nE;rw[tkr];rfl,by rw[<-hp];unfold lX;rw[tkp]⟩ (slQ hgo) ?_
         simp only[Ak,As,cX,cG,bE]
         refine wkQ [5,2] ?_ ?_<;>simp[-C,upd,aO,Γ0,aE,aK,gL]
       ·have q1:¬(i:Int)<x.b.length:=by omega
        rw[Ai (by omega)]at hr hp
        have hpl:p.length<=101:=by have:=yN x.b;rw[<-hp];unfold lX;rw[AH];omega
        have hrl:r.length<=101:=by have:=aFj x.b;rw[<-hr];unfold nE;rw[AH];omega
        have hpb:Bnd (2^F) p:=by rw[<-hp];exact cAz rfl λf hf=>hxb f (Bi.1 hf).1
        have hrb:Bnd (2^F) r:=by rw[<-hr];exact cAz rfl λf hf=>hxb f (Bi.1 hf).1
        have hpk:Keys p:=by
         rw[<-hp];intro f hf;rcases AG.1 hf with rfl|hf
         ·exact hi0
         ·exact hkx f (Bi.1 hf).1
        have hrk:Keys r:=by
         rw[<-hr];intro f hf;rcases AG.1 hf with rfl|hf
         ·exact hi0
         ·exact hkx f (Bi.1 hf).1
        have hMp:=zA (l:=p) (e:=F) hpb hpk (by omega) (by omega)
        have e1:=dI dD (rfl:p.length=p.length)
        have e2:=cW (by decide) dD (rfl:p.length=p.length)
        have e3:=bJ dD p
        have hpe:aPc w0 w1 (bOf c e)=⟨w1,1,cF [] p⟩:=by rw[hbe];unfold aPc;rw[hp]
        refine exE (cF [] p) λP hPe=>?_
        rw[hPe]at hMp hpe
        simp[-C,-E,↓KW,aE,aK,q1,aF,aD,aG,aC,aA,aB]
        refine bK (ds:=[aK p]) (by simp[-C,-E,aK,upd,e1,e2,e3]) hMp ?_
        simp[-C,-E,↓KW,aE,aK,q1,e1,e2,e3,aQ,aT,aF,aD,aG,aC,aA,aB]
        have hsub:∀z:Cl,z.id=e->subL e w0 w1 (bOf c e) z=r:=λz h=>by unfold subL;rw[Ad h,hbe,hr]
        have hsub2:∀z:Cl,z.id≠e->subL e w0 w1 (bOf c e) z=z.b++adF e w1 z.b:=λz h=>by unfold subL;rw[Ac h]
        refine exE ((⟨w0,0,[]⟩:Cl)::[⟨w1,1,P⟩]) λU hU=>?_
        have hUl:U.length=2:=by rw[<-hU];rfl
        have hUu:aPa c e w0 w1=U++c.map (jR e w0 w1 (bOf c e)):=by unfold aPa aAm;rw[hpe,<-hU]
        refine aP (λy:Nat×List Cl=>y.1<=c.length/\y.2.length=y.1+2/\U++(c.take y.1).map (jR e w0 w1 (bOf c e))=y.2) (λy=>StL [(0,.d (aE c)),(1,.d (.i .i64 e)),(5,.fp [.i .i64 w0,.i .i64 w1]),(15,.d (aK r)),(19,.own 1 0 y.2.length 3),(104,.d (aE c)),(105,.d (.i .i64 c.length)),(106,.d (.i .i64 (y.1:Int)))] none [.cells 40 ((flt aN y.2).map .d)]) (λy=>c.length-y.1) (0,U) ⟨Al _,hUl,by simp⟩ ?_ ?_
        ·simp only[hUl]
         refine wkQ [3] ?_ ?_
         ·simp[-C,upd,aO,Γ0,aE,gL]
          exact wU (t:=75) rfl (by simp[fG,vK]) λj hj=>vL hj (by simp) (by decide)
         ·rw[<-hU]
          simp[-C,upd,aO,Γ0,aE,gL,flt,aR,aSw,vI]
          rfl
        ·rintro⟨i,d⟩ ⟨hi,hdl,hd⟩
         simp only at hi hdl hd ⊢
         by_cases hgo:i<c.length
         ·have q1:(i:Int)<c.length:=by omega
          have hx1:c[i]? = some c[i]:=Ab hgo
          have hw:Ag.wrap ((i:Int)+1)=(i:Int)+1:=aV
          have htk:U++(c.take (i+1)).map (jR e w0 w1 (bOf c e))=d++[jR e w0 w1 (bOf c e) c[i]]:=by rw[AM,hx1,Bu,<-Bh,hd];rfl
          have hzl:=hz.bl _ (Ar hgo)
          have hzb:=hz.bb _ (Ar hgo)
          have hzk:=hk _ (Ar hgo)
          have hzf:c[i].id=e->bOf c e=c[i].b:=λh=>by rw[<-h];unfold bOf;rw[hc.find (Ar hgo)];rfl
          refine exE c[i] λz hze=>?_
          rw[hze]at hx1 htk hzl hzb hzk hzf
          have hyc:aN z=[D.i .i64 z.id,.i .i64 z.dim,aK z.b]:=rfl
          have hcd:=bJ aX d
          have had:=dB eR d
          have hbb:=cH (n:=d.length) (by omega)
          have hm1:(1:Nat)<=maxLen:=aS (by decide)
          have hs1:=hsub z
          have hs2:=hsub2 z
          simp[-C,-E,↓KW,aE,q1,hx1,hyc,aC,aA,aB]
          by_cases hzn:z.b=[]
          ·have hno:∀f∈z.b,f.1≠e:=λf hf=>by rw[hzn]at hf;cases hf
           have hcl0:pX Aa 216 [aK z.b] (λ_=>.d (aK [])) (λ_=>[]):=by rw[hzn];exact bUk
           refine iO [aK z.b] (λ_=>.d (aK [])) (λ_=>[]) (by simp) (by simp) (by simp) (by rfl) (by rfl) hcl0 ?_
           by_cases hze':z.id=e
           ·have hse:=hs1 hze'
            have hzeq:((z.id==e):Bool)=true:=by simpa using hze'
            have hMk:=zA (l:=r) (e:=F) hrb hrk (by omega) (by omega)
            simp[-C,-E,↓KW,aE,aK,rR,hzeq,hw,aC,aA,aB]
            refine aP (λj:Nat=>j<=z.b.length) (λj=>StL [(0,.d (aE c)),(1,.d (.i .i64 e)),(5,.fp [.i .i64 w0,.i .i64 w1]),(15,.d (aK r)),(19,.own 1 0 d.length 3),(21,.ptr 2 0),(22,.d (aK r)),(104,.d (aE c)),(105,.d (.i .i64 c.length)),(106,.d (.i .i64 (i:Int))),(119,.d (aK z.b)),(120,.d (.i .i64 z.b.length)),(121,.d (.i .i64 (j:Int)))] none [.cells 40 ((flt aN d).map .d),.cells 40 [.d (.i .i64 z.id),.d (.i .i64 z.dim),.d (aK z.b)]]) (λj=>z.b.length-j) 0 (Al _) ?_ ?_
            ·refine wkQ [1,2] ?_ ?_<;>simp[-C,upd,aO,Γ0,aE,aK,gL,rR,hzeq]
            ·intro j hj
             by_cases hgo2:j<z.b.length
             ·have q2:(j:Int)<z.b.length:=by omega
              have hf:z.b[j]? = some z.b[j]:=Ab hgo2
              have hw2:Ag.wrap ((j:Int)+1)=(j:Int)+1:=aV
              have hfn:=hno _ (Ar hgo2)
              refine exE z.b[j] λf hfe=>?_
              rw[hfe]at hf hfn
              have hfn':((f.1==e):Bool)=false:=by simpa using hfn
              have hef:eL f=[.i .i64 f.1,.b (decide (f.2<0)),aM (aU f.2.natAbs)]:=rfl
              simp[-C,-E,↓KW,aE,aK,q2,hf,hef,hfn',hw2,aF,aD,aG,aC,aA,aB]
              refine aI (j+1) hgo2 (AF hgo2 (AK _)) (wkQ [1,2] ?_ ?_)<;>simp[-C,upd,aO,Γ0,aE,aK,gL]
             ·have q2:¬(j:Int)<z.b.length:=by omega
              simp[-C,-E,↓KW,aE,aK,q2,aC,aA,aB]
              refine aJ hMk ?_
              simp[-C,-E,↓KW,aE,aK,hw,hm1,hbb,hcd,had,aS,aQ,aT,aC,aA,aB,hse]
              refine aI (τ:=Nat×List Cl) (i+1,d++[jR e w0 w1 (bOf c e) z]) ⟨hgo,by rw[Ak,hdl];rfl,htk⟩ (slQ hgo) ?_
              simp only[Ak,As,cX,cG,aR,jR,hse]
              refine wkQ [4] ?_ ?_<;>simp[-C,upd,aO,Γ0,aE,aK,gL]
           ·have hse:subL e w0 w1 (bOf c e) z=[]:=by rw[hs2 hze',hzn];rfl
            have hzeq:((z.id==e):Bool)=false:=by simpa using hze'
            have hMk:=zA (l:=[]) (e:=F) (Bnd.nil _) (λf hf=>by cases hf) (by simp) (by omega)
            simp[-C,-E,↓KW,aE,aK,rR,hzeq,hw,aC,aA,aB]
            refine aP (λj:Nat=>j<=z.b.length) (λj=>StL [(0,.d (aE c)),(1,.d (.i .i64 e)),(5,.fp [.i .i64 w0,.i .i64 w1]),(15,.d (aK r)),(19,.own 1 0 d.length 3),(21,.ptr 2 0),(22,.d (aK ([]:Ch))),(104,.d (aE c)),(105,.d (.i .i64 c.length)),(106,.d (.i .i64 (i:Int))),(119,.d (aK z.b)),(120,.d (.i .i64 z.b.length)),(121,.d (.i .i64 (j:Int)))] none [.cells 40 ((flt aN d).map .d),.cells 40 [.d (.i .i64 z.id),.d (.i .i64 z.dim),.d (aK z.b)]]) (λj=>z.b.length-j) 0 (Al _) ?_ ?_
            ·refine wkQ [1,2] ?_ ?_<;>simp[-C,upd,aO,Γ0,aE,aK,gL,rR,hzeq]
            ·intro j hj
             by_cases hgo2:j<z.b.length
             ·have q2:(j:Int)<z.b.length:=by omega
              have hf:z.b[j]? = some z.b[j]:=Ab hgo2
              have hw2:Ag.wrap ((j:Int)+1)=(j:Int)+1:=aV
              have hfn:=hno _ (Ar hgo2)
              refine exE z.b[j] λf hfe=>?_
              rw[hfe]at hf hfn
              have hfn':((f.1==e):Bool)=false:=by simpa using hfn
              have hef:eL f=[.i .i64 f.1,.b (decide (f.2<0)),aM (aU f.2.natAbs)]:=rfl
              simp[-C,-E,↓KW,aE,aK,q2,hf,hef,hfn',hw2,aF,aD,aG,aC,aA,aB]
              refine aI (j+1) hgo2 (AF hgo2 (AK _)) (wkQ [1,2] ?_ ?_)<;>simp[-C,upd,aO,Γ0,aE,aK,gL]
             ·have q2:¬(j:Int)<z.b.length:=by omega
              simp[-C,-E,↓KW,aE,aK,q2,aC,aA,aB]
              refine aJ hMk ?_
              simp[-C,-E,↓KW,aE,aK,hw,hm1,hbb,hcd,had,aS,aQ,aT,aC,aA,aB,hse]
              refine aI (τ:=Nat×List Cl) (i+1,d++[jR e w0 w1 (bOf c e) z]) ⟨hgo,by rw[Ak,hdl];rfl,htk⟩ (slQ hgo) ?_
              simp only[Ak,As,cX,cG,aR,jR,hse]
              refine wkQ [4] ?_ ?_<;>simp[-C,upd,aO,Γ0,aE,aK,gL]
          ·have hcl1:=bZl hzn (by omega)
           refine iO [aK z.b] (λm=>.own m 0 z.b.length 3) (λ_=>[.cells 75 ((flt eL z.b).map .d)]) (by simp) (by simp) (by simp) (by rfl) (by rfl) hcl1 ?_
           by_cases hze':z.id=e
           ·have hno:∀f∈z.b,f.1≠e:=λf hf=>hne f (by rw[hzf hze'];exact hf)
            have hse:=hs1 hze'
            have hzeq:((z.id==e):Bool)=true:=by simpa using hze'
            have hMk:=zA (l:=r) (e:=F) hrb hrk (by omega) (by omega)
            simp[-C,-E,↓KW,aE,aK,pR,hzeq,hw,aC,aA,aB]
            refine aP (λj:Nat=>j<=z.b.length) (λj=>StL [(0,.d (aE c)),(1,.d (.i .i64 e)),(5,.fp [.i .i64 w0,.i .i64 w1]),(15,.d (aK r)),(19,.own 1 0 d.length 3),(21,.ptr 2 0),(22,.d (aK r)),(104,.d (aE c)),(105,.d (.i .i64 c.length)),(106,.d (.i .i64 (i:Int))),(119,.d (aK z.b)),(120,.d (.i .i64 z.b.length)),(121,.d (.i .i64 (j:Int)))] none [.cells 40 ((flt aN d).map .d),.cells 40 [.d (.i .i64 z.id),.d (.i .i64 z.dim),.d (aK z.b)]]) (λj=>z.b.length-j) 0 (Al _) ?_ ?_
            ·refine wkQ [1,2] ?_ ?_<;>simp[-C,upd,aO,Γ0,aE,aK,gL,pR,hzeq]
            ·intro j hj
             by_cases hgo2:j<z.b.length
             ·have q2:(j:Int)<z.b.length:=by omega
              have hf:z.b[j]? = some z.b[j]:=Ab hgo2
              have hw2:Ag.wrap ((j:Int)+1)=(j:Int)+1:=aV
              have hfn:=hno _ (Ar hgo2)
              refine exE z.b[j] λf hfe=>?_
              rw[hfe]at hf hfn
              have hfn':((f.1==e):Bool)=false:=by simpa using hfn
              have hef:eL f=[.i .i64 f.1,.b (decide (f.2<0)),aM (aU f.2.natAbs)]:=rfl
              simp[-C,-E,↓KW,aE,aK,q2,hf,hef,hfn',hw2,aF,aD,aG,aC,aA,aB]
              refine aI (j+1) hgo2 (AF hgo2 (AK _)) (wkQ [1,2] ?_ ?_)<;>simp[-C,upd,aO,Γ0,aE,aK,gL]
             ·have q2:¬(j:Int)<z.b.length:=by omega
              simp[-C,-E,↓KW,aE,aK,q2,aC,aA,aB]
              refine aJ hMk ?_
              simp[-C,-E,↓KW,aE,aK,hw,hm1,hbb,hcd,had,aS,aQ,aT,aC,aA,aB,hse]
              refine aI (τ:=Nat×List Cl) (i+1,d++[jR e w0 w1 (bOf c e) z]) ⟨hgo,by rw[Ak,hdl];rfl,htk⟩ (slQ hgo) ?_
              simp only[Ak,As,cX,cG,aR,jR,hse]
              refine wkQ [4] ?_ ?_<;>simp[-C,upd,aO,Γ0,aE,aK,gL]
           ·have hse:=hs2 hze'
            have hzeq:((z.id==e):Bool)=false:=by simpa using hze'
            simp[-C,-E,↓KW,aE,aK,pR,hzeq,hw,aC,aA,aB]
            refine aP (λy:Nat×Ch=>y.1<=z.b.length/\y.2.length<=z.b.length+y.1/\z.b++adF e w1 (z.b.take y.1)=y.2) (λy=>StL [(0,.d (aE c)),(1,.d (.i .i64 e)),(5,.fp [.i .i64 w0,.i .i64 w1]),(15,.d (aK r)),(19,.own 1 0 d.length 3),(21,.ptr 2 0),(22,.own 3 0 y.2.length 3),(104,.d (aE c)),(105,.d (.i .i64 c.length)),(106,.d (.i .i64 (i:Int))),(119,.d (aK z.b)),(120,.d (.i .i64 z.b.length)),(121,.d (.i .i64 (y.1:Int)))] none [.cells 40 ((flt aN d).map .d),.cells 40 [.d (.i .i64 z.id),.d (.i .i64 z.dim),.d (aK z.b)],.cells 75 ((flt eL y.2).map .d)]) (λy=>z.b.length-y.1) (0,z.b) ⟨Al _,by simp,by simp[adF]⟩ ?_ ?_
            ·refine wkQ [1,2,3] ?_ ?_<;>simp[-C,upd,aO,Γ0,aE,aK,gL]
            ·rintro⟨j,l⟩ ⟨hj,hll,hl⟩
             simp only at hj hll hl ⊢
             by_cases hgo2:j<z.b.length
             ·have q2:(j:Int)<z.b.length:=by omega
              have hf:z.b[j]? = some z.b[j]:=Ab hgo2
              have hw2:Ag.wrap ((j:Int)+1)=(j:Int)+1:=aV
              have htk2:=bOc hgo2 e w1
              refine exE z.b[j] λf hfe=>?_
              rw[hfe]at hf htk2
              have hef:eL f=[.i .i64 f.1,.b (decide (f.2<0)),aM (aU f.2.natAbs)]:=rfl
              by_cases h5:f.1=e
              ·rw[Ad h5]at htk2
               have q3:(((e:Int)==(e:Int)):Bool)=true:=by simp
               have hb2:=cH (n:=l.length) (by omega)
               have hc2:=bJ dD l
               have ha2:=dB jW l
               simp[-C,-E,↓KW,aE,aK,q2,hf,hef,h5,q3,hw2,hm1,hb2,hc2,ha2,aS,aF,aD,aG,aC,aA,aB]
               refine aI (τ:=Nat×Ch) (j+1,l++[(w1,f.2)]) ⟨hgo2,by simp only[Ak,As];omega,by rw[htk2,<-Bh,hl]⟩ (AF hgo2 (AK _)) ?_
               simp only[Ak,As,cX,cG,bE]
               refine wkQ [1,2,6] ?_ ?_<;>simp[-C,upd,aO,Γ0,aE,aK,gL]
              ·rw[Ac h5,A7]at htk2
               have h5':((f.1==e):Bool)=false:=by simpa using h5
               simp[-C,-E,↓KW,aE,aK,q2,hf,hef,h5,h5',hw2,aF,aD,aG,aC,aA,aB]
               refine aI (τ:=Nat×Ch) (j+1,l) ⟨hgo2,by simp only;omega,by rw[htk2,hl]⟩ (AF hgo2 (AK _)) (wkQ [1,2,3] ?_ ?_)<;>simp[-C,upd,aO,Γ0,aE,aK,gL]
             ·have q2:¬(j:Int)<z.b.length:=by omega
              rw[Ai (by omega)]at hl
              rw[hl]at hse
              have hlb:Bnd (2^F) l:=by rw[<-hl];exact hzb.app λf hf=>by unfold adF at hf;obtain⟨g,hg,rfl⟩:=AA.1 hf;exact hzb g (Bi.1 hg).1
              have hlk:Keys l:=by
               rw[<-hl];intro f hf;rcases List.mem_append.1 hf with hf|hf
               ·exact hzk f hf
               ·unfold adF at hf;obtain⟨g,hg,rfl⟩:=AA.1 hf;exact hi1
              have hMk:=zA (l:=l) (e:=F) hlb hlk (by omega) (by omega)
              have e4:=dI dD (rfl:l.length=l.length)
              have e5:=cW (by decide) dD (rfl:l.length=l.length)
              have e6:=bJ dD l
              simp[-C,-E,↓KW,aE,aK,q2,aC,aA,aB]
              refine bK (ds:=[aK l]) (by simp[-C,-E,aK,upd,e4,e5,e6]) hMk ?_
              simp[-C,-E,↓KW,aE,aK,hw,hm1,hbb,hcd,had,e4,e5,e6,aS,aQ,aT,aC,aA,aB]
              refine aI (τ:=Nat×List Cl) (i+1,d++[jR e w0 w1 (bOf c e) z]) ⟨hgo,by rw[Ak,hdl];rfl,htk⟩ (slQ hgo) ?_
              simp only[Ak,As,cX,cG,aR,jR,hse]
              refine wkQ [5] ?_ ?_<;>simp[-C,upd,aO,Γ0,aE,aK,gL]
         ·have q1:¬(i:Int)<c.length:=by omega
          rw[Ai (by omega),<-hUu]at hd
          have hsl:=aPd c e w0 w1
          have hul:=bFw c e w0 w1
          rw[hd]at hul
          have hSo:=Tryz.sortO (aAo c e w0 w1) (aPe hc hk0 hk1 h2) (by rw[hd,hul];omega)
          rw[hd]at hSo
          have hcd:=bJ aX d
          have hcs:=bJ aX (oD c e w0 w1)
          refine exE (oD c e w0 w1) λS hSe=>?_
          rw[hSe]at hSo hsl hcs
          rw[hSe]
          have hno1:∀l:List D,oG (.cells 40 (l.map .d))=true:=λl=>by unfold oG;rw[Ay];intro x hx;obtain⟨y,_,rfl⟩:=AA.1 hx;rfl
          have hSg0:=yW e
          have hSg1:=yW w1
          have va:Val [(e,(1:Int))]:=⟨List.pairwise_singleton _ _,λy hy=>by rw[AT.1 hy];simp⟩
          have hAd:=bEf [(e,1)] [(w1,1)] 1 1 1 1 (Bnd.one (Ap 1)) (Bnd.one (Ap 1)) (Ap 1) (uP (e:=1) (by simp) (by omega)) (uP (e:=0) (by decide) (by omega)) (uP (e:=0) (by decide) (by omega)) (uP (e:=0) (by decide) (by omega)) (uP (e:=0) (by decide) (by omega)) (λf hf=>by rw[AT.1 hf];exact hie) (λf hf=>by rw[AT.1 hf];exact hi1) (by simp)
          rw[add_eq va]at hAd
          refine exE (cF [(e,1)] (mulR 1 [(w1,1)])) λB hB=>?_
          rw[hB]at hAd
          rw[hB]
          have hMp:=pA c [(e,B)] (aWh [(e,B)]) rfl (aJx _) (by omega)
          have e1:=dI aX (hsl.trans hul.symm)
          have e2:=cW (by decide) aX (hsl.trans hul.symm)
          rw[hsl,<-hul]at hcs
          have hO1:=aMq
          simp[-C,-E,↓KW,aE,q1]
          refine aRb (by simp) ?_
          refine aCi (id:=1) (h:=.own 0 0 d.length 3) (by simp[upd,qA]) (hno1 _) (by rfl) (by rfl) hSo ?_ (hno1 _) ?_
          ·show(AQ _ _).length=(AQ _ _).length
           rw[AL,AL,hcd,hcs]
          ·simp[-C,-E,↓KW,aE]
           refine aJ hSg0 ?_
           simp[-C,-E,↓KW,aE,aQ,aT,aC,aA,aB]
           refine aJ hSg1 ?_
           simp[-C,-E,↓KW,aE,aQ,aT,aC,aA,aB]
           refine aJ hO1 ?_
           simp[-C,-E,↓KW,aE,aY,aZ,aW,aQ,aT,aC,aA,aB,aF,aD,aG]
           refine aJ hAd ?_
           simp[-C,-E,↓KW,aE,cC,cI,dW,aQ,aT,aC,aA,aB]
           refine aJ hMp ?_
           simp[-C,-E,↓KW,aE,cC,cI,dW,e1,e2,hcs,aQ,aT,aC,aA,aB,cZ,cA,iU,eW,fU,h1,h2,h3']
def atX(c:List Cl)(n:Int):Nat:=(c.takeWhile λy=>decide (y.id<n)).length
def bNo(c:List Cl)(n:Int):atX c n<=c.length:=(List.takeWhile_sublist _).length_le
def bFs(c:List Cl)(n:Int):c.take (atX c n)=c.takeWhile λy=>decide (y.id<n):=by
 unfold atX;conv=>lhs;arg 2;rw[<-Du (p:=λy:Cl=>decide (y.id<n)) (l:=c)]
 rw[List.take_left]
def bMa(c:List Cl)(n:Int):c.drop (atX c n)=c.dropWhile λy=>decide (y.id<n):=by
 unfold atX;conv=>lhs;arg 2;rw[<-Du (p:=λy:Cl=>decide (y.id<n)) (l:=c)]
 rw[List.drop_left]
def vO(c:List Cl)(x:Cl):cE c x=c.take (atX c x.id)++x::c.drop (atX c x.id):=by unfold cE;rw[bFs,bMa]
def aXb:∀{c:List Cl} {n:Int} {i:Nat},i<=atX c n->∀h:i<c.length,(i<atX c n↔c[i].id<n)
 |[],_,i,_,h=>by simp at h
 |y::c,n,0,_,h=>by unfold atX;rw[E2];by_cases e:y.id<n<;>simp[e]
 |y::c,n,i+1,hi,h=>by
  have e:y.id<n:=by
   rcases Int.lt_or_le y.id n with h|h
   ·exact h
   ·have:atX (y::c) n=0:=by unfold atX;rw[E2];simp;omega
    rw[this]at hi;omega
  have hs:atX (y::c) n=atX c n+1:=by unfold atX;rw[E2];simp[e]
  rw[hs]at hi ⊢;have:=aXb (c:=c) (n:=n) (i:=i) (by omega) (by simpa using h);simp only[List.getElem_cons_succ];rw[<-this];omega
def aIx{c:List Cl}(x:Cl)(hl:c.length<=1000000):Spec Aa 89 [aE c,.ag (aN x)] (aE (cE c x)):=by
 refine bF (N:=37) Tryz.func89 ?_;simp[-C,-E,↓KW,aE,aR,aC,aA,aB];refine aP (λi:Nat=>i<=atX c x.id) (λi=>StL [(0,.d (aE c)),(3,.ptr 1 0),(5,.d (.i .i64 (i:Int)))] none [.cells 40 [.d (.i .i64 x.id),.d (.i .i64 x.dim),.d (aK x.b)]]) (λi=>atX c x.id-i) 0 (Al _) ?_ ?_
 ·refine wkQ [1] ?_ ?_<;>simp[-C,upd,aO,Γ0,aE]
 ·intro i hi;have hal:=bNo c x.id;by_cases hgo:i<c.length
  ·have q1:(i:Int)<c.length:=by omega
   have hx1:c[i]? = some c[i]:=Ab hgo;have hw:Ag.wrap ((i:Int)+1)=(i:Int)+1:=aV;have hlt:i<atX c x.id↔c[i].id<x.id:=aXb hi hgo;refine exE c[i] λz hze=>?_
   rw[hze]at hx1 hlt;have hyc:aN z=[D.i .i64 z.id,.i .i64 z.dim,aK z.b]:=rfl;by_cases h0:z.id<x.id
   ·simp[-C,-E,↓KW,aE,q1,hx1,hyc,h0,hw,aC,aA,aB];refine aI (i+1) (by have:=hlt.2 h0;omega) (by have:=hlt.2 h0;omega) (wkQ [1] ?_ ?_)<;>simp[-C,upd,aO,Γ0,aE]
   ·have hie:i=atX c x.id:=by
     have:¬i<atX c x.id:=λh=>h0 (hlt.1 h)
     omega
    have hpl:=vO c x;rw[<-hie]at hpl;have hpn:=nA c x;have hT:BB i (AQ aN c)=(c.take i).map aN:=BD.symm;have hD:Cy i (AQ aN c)=(c.drop i).map aN:=Bv.symm;have hT2:BB c.length (AQ aN c)=AQ aN c:=Ai (by simp);have hT3:BB c.length (AQ (AQ AV.d) (AQ aN c))=AQ (AQ AV.d) (AQ aN c):=Ai (by simp);have hD2:Cy i (AQ (AQ AV.d) (AQ aN c))=AQ (AQ AV.d) ((c.drop i).map aN):=by rw[Bv,Bv]
    have hi3:i*3+3=(i+1)*3:=by omega
    have hAl:(c.take i).length=i:=by rw[Ax];omega
    have hBl:(c.drop i).length=c.length-i:=Bl;refine exE (c.take i) λA hA=>?_
    refine exE (c.drop i) λB hB=>?_
    rw[hA]at hT hAl hpl;rw[hB]at hD hD2 hBl hpl;have hil:i<=c.length:=by omega
    have hok:=eJ c;have hokA:=eJ A;have hokB:=eJ B;have hffA:=iR aN A;have hffB:=iR aN B;have haA:=EI (λ(a:D) (ha:a∈flt aN A)=>Ay.1 (dB eR A) (.d a) (AA.2 ⟨a,ha,rfl⟩));have haB:=EI (λ(a:D) (ha:a∈flt aN B)=>Ay.1 (dB eR B) (.d a) (AA.2 ⟨a,ha,rfl⟩));have hcA:=bJ aX A;have hcB:=bJ aX B;rw[hAl]at hcA;rw[hBl]at hcB;have hb1:i*40<=140737488355328/\i<=maxLen:=⟨by omega,aS (by omega)⟩;have hb2:=cH (n:=i) (by omega);have hb3:(i+1+(c.length-i))*40<=140737488355328/\i+1+(c.length-i)<=maxLen:=⟨by omega,aS (by omega)⟩;have hm1:(1:Nat)<=maxLen:=aS (by decide);have hfl:flt aN (cE c x)=flt aN A++([.i .i64 x.id,.i .i64 x.dim,aK x.b]++flt aN B):=by rw[hpl,cX,show x::B=[x]++B from rfl,cX,cG];rfl
    simp[-C,-E,↓KW,aE,q1,hx1,hyc,h0,hw,hil,hok,hT,hT2,hT3,hD,hD2,hi3,hAl,hBl,hokA,hokB,hffA,hffB,haA,haB,hcA,hcB,hb1,hb2,hb3,hm1,aS,uW,aC,aA,aB];have hpn':(cE c x).length=i+1+(c.length-i):=by omega
    have hce:(flt aN A).map AV.d++AV.d (.i .i64 x.id)::AV.d (.i .i64 x.dim)::AV.d (aK x.b)::(flt aN B).map AV.d=(flt aN (cE c x)).map .d:=by rw[hfl];simp
    refine⟨by omega,flt aN (cE c x),?_,cW (by decide) aX hpn'⟩;rw[hce,dI aX hpn'];exact mA _ 6 _
  ·have q1:¬(i:Int)<c.length:=by omega
   have hie:i=atX c x.id:=by omega
   have hpl:=vO c x;rw[<-hie]at hpl;have hpn:=nA c x;have hT:BB i (AQ aN c)=(c.take i).map aN:=BD.symm;have hD:Cy i (AQ aN c)=(c.drop i).map aN:=Bv.symm;have hT2:BB c.length (AQ aN c)=AQ aN c:=Ai (by simp);have hT3:BB c.length (AQ (AQ AV.d) (AQ aN c))=AQ (AQ AV.d) (AQ aN c):=Ai (by simp);have hD2:Cy i (AQ (AQ AV.d) (AQ aN c))=AQ (AQ AV.d) ((c.drop i).map aN):=by rw[Bv,Bv]
   have hi3:i*3+3=(i+1)*3:=by omega
   have hAl:(c.take i).length=i:=by rw[Ax];omega
   have hBl:(c.drop i).length=c.length-i:=Bl;refine exE (c.take i) λA hA=>?_
   refine exE (c.drop i) λB hB=>?_
   rw[hA]at hT hAl hpl;rw[hB]at hD hD2 hBl hpl;have hil:i<=c.length:=by omega
   have hok:=eJ c;have hokA:=eJ A;have hokB:=eJ B;have hffA:=iR aN A;have hffB:=iR aN B;have haA:=EI (λ(a:D) (ha:a∈flt aN A)=>Ay.1 (dB eR A) (.d a) (AA.2 ⟨a,ha,rfl⟩));have haB:=EI (λ(a:D) (ha:a∈flt aN B)=>Ay.1 (dB eR B) (.d a) (AA.2 ⟨a,ha,rfl⟩));have hcA:=bJ aX A;have hcB:=bJ aX B;rw[hAl]at hcA;rw[hBl]at hcB;have hb1:i*40<=140737488355328/\i<=maxLen:=⟨by omega,aS (by omega)⟩;have hb2:=cH (n:=i) (by omega);have hb3:(i+1+(c.length-i))*40<=140737488355328/\i+1+(c.length-i)<=maxLen:=⟨by omega,aS (by omega)⟩;have hm1:(1:Nat)<=maxLen:=aS (by decide);have hfl:flt aN (cE c x)=flt aN A++([.i .i64 x.id,.i .i64 x.dim,aK x.b]++flt aN B):=by rw[hpl,cX,show x::B=[x]++B from rfl,cX,cG];rfl
   simp[-C,-E,↓KW,aE,q1,hil,hok,hT,hT2,hT3,hD,hD2,hi3,hAl,hBl,hokA,hokB,hffA,hffB,haA,haB,hcA,hcB,hb1,hb2,hb3,hm1,aS,uW,aC,aA,aB];have hpn':(cE c x).length=i+1+(c.length-i):=by omega
   have hce:(flt aN A).map AV.d++AV.d (.i .i64 x.id)::AV.d (.i .i64 x.dim)::AV.d (aK x.b)::(flt aN B).map AV.d=(flt aN (cE c x)).map .d:=by rw[hfl];simp
   refine⟨by omega,flt aN (cE c x),?_,cW (by decide) aX hpn'⟩;rw[hce,dI aX hpn'];exact mA _ 6 _
def aAq(n:Int)(b:Ch)(z:Cl):Cl:=if z.id=n then⟨z.id,z.dim,b⟩else z
def bPy(c:List Cl)(e w0 w1:Int):List Cl:=(qR c e [(w1,1)]).map (aAq e (plM 1 (plM (-1) (bOf c e) (wP (bOf c e))) [(w0,1)]))
def bPz(c:List Cl)(e w0 w1:Int):List Cl:=cE (cE (bPy c e w0 w1) (aAm w0)) ⟨w1,1,plM (-1) (wP (bOf c e)) [(w0,1)]⟩
def bPx(c:List Cl)(e w0 w1:Int):List Cl×List (Int×Ch)×Int :=
 if(bG c e).isSome=false then([],[],250)else if dOf c e≠1 then([],[],260)else if kn c w0=true\/kn c w1=true\/w0=w1 then([],[],253)else if 398<c.length then([],[],2)
 else(bPz c e w0 w1,mS (eF c []) e (plM 1 [(e,1)] [(w1,1)]),0)
def aMh{l:Ch}(h:Val l):Val (wP l):=⟨Df _ h.1,λx hx=>h.2 x (aDg hx)⟩
def bHd{c:List Cl}(h:CxV c){e w0 w1:Int}{z:Cl}(hz:z∈c):aAq e (plM 1 (plM (-1) (bOf c e) (wP (bOf c e))) [(w0,1)]) (mT e [(w1,1)] z)=jR e w0 w1 (bOf c e) z:=by
 have hid:(mT e [(w1,1)] z).id=z.id/\(mT e [(w1,1)] z).dim=z.dim:=by unfold mT;split<;>exact⟨rfl,rfl⟩
 have hv:Val (bOf c e):=h.bval e;have hp:=aMh hv;unfold aAq jR subL;by_cases he:z.id=e
 ·rw[Ad (hid.1.trans he),Ad he,hid.1,hid.2];congr 1;have v1:=iX (-1) hv hp;refine wS (iX 1 v1 (jL w0)) (cS _ [] Val.nil).1 λw=>?_
  rw[pE v1 (jL w0),pE hv hp,dR];have:=aCt w (bOf c e);unfold nE;simp only[bO];omega
 ·rw[Ac (λq=>he (hid.1.symm.trans q)),Ac he];have hzv:=h.val z hz;unfold mT;have hc:=zQ hzv e;by_cases h0:eP z.b e=0
  ·rw[Ad h0];rw[h0]at hc;have:z.b=cF [] (z.b++adF e w1 z.b):=wS hzv (cS _ [] Val.nil).1 λw=>by rw[dR,lV,qY,<-hc];simp
   rw[<-this]
  ·rw[Ac h0];congr 1;refine wS (iX _ hzv (jL w1)) (cS _ [] Val.nil).1 λw=>?_
   rw[pE hzv (jL w1),dR,lV,qY,hc];simp only[bO];rw[Int.one_mul,Dn]
def bPw{c:List Cl}(h:CxV c)(e w0 w1:Int):bPx c e w0 w1=aOz c e w0 w1:=by
 unfold bPx aOz;by_cases h1:(bG c e).isSome=false
 ·rw[Ad h1,Ad h1]
 ·rw[Ac h1,Ac h1];by_cases h2:dOf c e≠1
  ·rw[Ad h2,Ad h2]
  ·rw[Ac h2,Ac h2];by_cases h3:w0=w1\/kn c w0=true\/kn c w1=true
   ·rw[Ad h3,Ad (by rcases h3 with h|h|h<;>simp[h])]
   ·rw[Ac h3,Ac (λq=>h3 (by rcases q with h|h|h<;>simp[h]))];by_cases h4:398<c.length
    ·rw[Ad h4,Ad h4]
    ·rw[Ac h4,Ac h4];have e1:bPy c e w0 w1=c.map (jR e w0 w1 (bOf c e)):=by unfold bPy qR;rw[CC];exact BK λz hz=>bHd h hz
     have e2:plM (-1) (wP (bOf c e)) [(w0,1)]=cF [] (lX w0 (bOf c e)):=by
      have hp:=aMh (h.bval e);refine wS (iX _ hp (jL w0)) (cS _ [] Val.nil).1 λw=>?_
      rw[pE hp (jL w0),dR];unfold lX;simp only[bO];omega
     have e3:plM 1 [(e,1)] [(w1,1)]=cF [(e,1)] (mulR 1 [(w1,1)]):=aDf (jL e) (jL w1) 1;have e4:mS (eF c []) e (cF [(e,1)] (mulR 1 [(w1,1)]))=eF c [(e,cF [(e,1)] (mulR 1 [(w1,1)]))]:=by
      unfold mS eF;rw[CC];refine BK λz _=>?_
      simp only[DQ,aFx];by_cases q:z.id=e
      ·simp[q]
      ·simp[q,mH]
     unfold bPz oD;rw[e1,e2,e3,e4];rfl
def aUh{c:List Cl}(h:CxV c)(e w0 w1:Int):(∃n,n≠0/\aOz c e w0 w1=([],[],n))\/(kC c e w0 w1/\aOz c e w0 w1=(oD c e w0 w1,eF c [(e,aHt e w1)],0)):=by
 unfold aOz;by_cases h1:(bG c e).isSome=false
 ·rw[Ad h1];exact .inl ⟨250,by decide,rfl⟩
 ·rw[Ac h1];by_cases h2:dOf c e≠1
  ·rw[Ad h2];exact .inl ⟨260,by decide,rfl⟩
  ·rw[Ac h2];by_cases h3:w0=w1\/kn c w0=true\/kn c w1=true
   ·rw[Ad h3];exact .inl ⟨253,by decide,rfl⟩
   ·rw[Ac h3];by_cases h4:398<c.length
    ·rw[Ad h4];exact .inl ⟨2,by decide,rfl⟩
    ·rw[Ac h4];have k0:kn c w0=false:=by cases q:kn c w0 with
      |false=>rfl
      |true=>exact(h3 (.inr (.inl q))).elim
     have k1:kn c w1=false:=by cases q:kn c w1 with
      |false=>rfl
      |true=>exact(h3 (.inr (.inr q))).elim
     refine .inr ⟨⟨?_,uF k0,uF k1,λq=>h3 (.inl q)⟩,rfl⟩;cases q:bG c e with
     |none=>exact(h1 (by rw[q];rfl)).elim
     |some x =>
      obtain⟨x1,x2⟩:=dF q;refine⟨x,x1,x2,?_⟩;have:dOf c e=x.dim:=by unfold dOf;rw[q];rfl
      rw[<-this];exact A9 h2
structure Cg where
 k:Int
 c:Cl
 a:Int
 b:Int
 w0:Int
 w1:Int
 deriving DecidableEq,Inhabited
def bP(x:Cg):List D:=[.i .i64 x.k,.i .i64 x.c.id,.i .i64 x.c.dim,aK x.c.b,.i .i64 x.a,.i .i64 x.b,.i .i64 x.w0,.i .i64 x.w1]
def bL(l:List Cg):D:=.sl (l.map bP)
structure Hi where
 s:Int
 c:List Cl
 l:List Cg
 deriving DecidableEq,Inhabited
def bZ(h:Hi):D:=.ag [.i .i64 h.s,aE h.c,bL h.l]
def oH(c:List Cl)(x:Cl):Int:=if rM c x.b then(if(decide (x.dim<0)||decide (3<x.dim))||x.b.any (λf=>!decide (dOf c f.1=x.dim-1))then 260 else 0)else 251
def aFu(c:List Cl)(x:Cl):List Cl×Int:=if kn c x.id then([],253)else if oH c x≠0 then([],oH c x)else if bdX c x.b≠[]then([],252)else if 400<=c.length then([],2)else(cE c x,0)
def xY(c:List Cl)(n:Int):Bool:=c.any λy=>y.b.any λf=>decide (f.1=n)
def xI(c:List Cl)(n:Int):List Cl:=c.filter λy=>!decide (y.id=n)
def aHw(c:List Cl)(n:Int):List Cl×Int:=if kn c n then(if xY c n then([],253)else(xI c n,0))else([],250)
def two(r:List Cl×List (Int×Ch)×Int):List Cl×Int:=(r.1,r.2.2)
def doX(c:List Cl)(x:Cg):List Cl×Int :=
 if x.k=1 then aFu c x.c else if x.k=2 then aHw c x.a else if x.k=3 then two (aSc c x.a x.b)else if x.k=4 then two (xS c x.a x.b)else if x.k=5 then two (aOz c x.a x.w0 x.w1)else([],1)
def lG(c:List Cl):List Cg->List Cl×Int
 |[]=>(c,0)
 |x::l=>if(doX c x).2=0 then lG (doX c x).1 l else([],(doX c x).2)
def oW{c:List Cl}{x:Cg}(l:List Cg)(h:(doX c x).2=0):lG c (x::l)=lG (doX c x).1 l:=Ad h
def zY{c:List Cl}{x:Cg}(l:List Cg)(h:(doX c x).2≠0):lG c (x::l)=([],(doX c x).2):=Ac h
def aBs{c:List Cl}{a:List Cg}(b:List Cg)(h:(lG c a).2=0):lG c (a++b)=lG (lG c a).1 b:=by
 induction a generalizing c with
 |nil=>rfl
 |cons x a ih =>
  by_cases k:(doX c x).2=0
  ·rw[oW _ k]at h;rw[BP,oW _ k,oW _ k,ih h]
  ·rw[zY _ k]at h;exact(k h).elim
def aKb{c:List Cl}(hc:CxV c){x:Cl}(hv:Val x.b):(∃n,n≠0/\aFu c x=([],n))\/(CxV (cE c x)/\(∀y∈c,y.id≠x.id)/\aFu c x=(cE c x,0)):=by
 unfold aFu;split
 ·exact .inl ⟨_,by decide,rfl⟩
 ·rename_i h1;split
  ·rename_i h2;exact .inl ⟨_,h2,rfl⟩
  ·rename_i h2;split
   ·exact .inl ⟨_,by decide,rfl⟩
   ·rename_i h3;split
    ·exact .inl ⟨_,by decide,rfl⟩
    ·right;have hne:∀y∈c,y.id≠x.id:=uF (by simpa using h1);have h3:bdX c x.b=[]:=by simpa using h3
     have h2:oH c x=0:=by simpa using h2
     unfold oH at h2;split at h2
     rotate_left
     ·cases h2
     rename_i hk;split at h2
     ·cases h2
     rename_i hd;simp only[CG,AI,Db,not_or,not_exists,not_and,Bool.not_eq_true',decide_eq_false_iff_not]at hd;have hface:∀f∈x.b,∃y∈c,y.id=f.1/\y.dim=x.dim-1:=λf hf=>by
      have h4:=Ay.1 hk f hf;unfold kn at h4;cases e:bG c f.1 with
      |none=>rw[e]at h4;cases h4
      |some y =>
       obtain⟨y1,y2⟩:=dF e;refine⟨y,y1,y2,?_⟩;have:=hd.2 f hf;have e2:dOf c f.1=y.dim:=by unfold dOf;rw[e];rfl
       rw[e2]at this;exact A9 this
     have hinc:=xK hc.inc hne;have hfind:∀y∈c,bG (cE c x) y.id=some y:=λy hy=>hinc.find (iH.2 (.inr hy))
     have hb:∀y∈c,bOf (cE c x) y.id=y.b:=λy hy=>by unfold bOf;rw[hfind y hy];rfl
     have hcyc:∀n,bO (λm=>cf n (bOf c m)) x.b=0:=λn=>by have h5:=(aNk c x.b).2 n;rw[h3,gX]at h5;exact h5.symm
     have hx0:∀(z:Cl),(∀f∈z.b,∃y∈c,y.id=f.1)->(∀n,bO (λm=>cf n (bOf c m)) z.b=0)->∀n,bO (λm=>cf n (bOf (cE c x) m)) z.b=0:=λz hz hw n=>by refine(eB λf hf=>?_).trans (hw n);obtain⟨y,hy,e⟩:=hz f hf;rw[<-e,hb y hy,hc.bOf hy]
     refine⟨⟨hinc,λy hy=>?_,λy hy=>?_,λy hy f hf=>?_,λy hy=>?_⟩,hne,rfl⟩
     ·rcases iH.1 hy with rfl|hy
      ·omega
      ·exact hc.dim y hy
     ·rcases iH.1 hy with rfl|hy
      ·exact hv
      ·exact hc.val y hy
     ·have:∃z∈c,z.id=f.1/\z.dim=y.dim-1:=by
       rcases iH.1 hy with rfl|hy
       ·exact hface f hf
       ·exact hc.face y hy f hf
      obtain⟨z,hz,e⟩:=this;exact⟨z,iH.2 (.inr hz),e⟩
     ·rcases iH.1 hy with rfl|hy
      ·exact hx0 y (λf hf=>let ⟨z,hz,e,_⟩:=hface f hf;⟨z,hz,e⟩) hcyc
      ·exact hx0 y (λf hf=>let ⟨z,hz,e,_⟩:=hc.face y hy f hf;⟨z,hz,e⟩) (hc.cyc y hy)
def aIw{c:List Cl}(hc:CxV c)(n:Int):(∃k,k≠0/\aHw c n=([],k))\/(CxV (xI c n)/\aHw c n=(xI c n,0)):=by
 unfold aHw;split
 rotate_left
 ·exact .inl ⟨_,by decide,rfl⟩
 split
 ·exact .inl ⟨_,by decide,rfl⟩
 right;rename_i hu;simp only[xY,Db,AI,not_exists,not_and]at hu;have hm:∀y,y∈xI c n↔y∈c/\y.id≠n:=λy=>by unfold xI;simp[Bi]
 have hinc:Inc (xI c n):=Df _ hc.inc;have hb:∀y∈xI c n,bOf (xI c n) y.id=bOf c y.id:=λy hy=>by unfold bOf;rw[hinc.find hy,hc.inc.find ((hm y).1 hy).1]
 have hf:∀y∈c,∀f∈y.b,∃z∈xI c n,z.id=f.1/\z.dim=y.dim-1:=λy hy f hf=>by obtain⟨z,hz,e1,e2⟩:=hc.face y hy f hf;exact⟨z,(hm z).2 ⟨hz,λe=>hu y hy f hf (e1.symm.trans e)⟩,e1,e2⟩
 refine⟨⟨hinc,λy hy=>hc.dim y ((hm y).1 hy).1,λy hy=>hc.val y ((hm y).1 hy).1,λy hy f h=>hf y ((hm y).1 hy).1 f h,λy hy k=>?_⟩,rfl⟩;have hy':=((hm y).1 hy).1;refine(eB λf h=>?_).trans (hc.cyc y hy' k);obtain⟨z,hz,e,_⟩:=hf y hy' f h;rw[<-e,hb z hz]
def bEb{c:List Cl}(hc:CxV c)(a b:Int):(∃k,k≠0/\xS c a b=([],[],k))\/(CxV (kN c a b)/\∃m,xS c a b=(kN c a b,m,0)):=by
 by_cases hf:(a,b)∈jM c
 ·obtain⟨z,xa,xb,t⟩:=aDu hc hf;exact .inr ⟨t.valid hc,_,bAe hc t hf⟩
 ·left;unfold xS;split
  ·exact⟨_,by decide,rfl⟩
  ·exact⟨_,by decide,rfl⟩
def rO(c:List Cl)(k:Int):(cB c k).length=c.countP λy=>decide (y.dim=k):=by unfold cB;rw[AL,List.countP_eq_length_filter]
def pO(c:List Cl)(x:Cl)(k:Int):(cB (cE c x) k).length=(cB c k).length+if x.dim=k then 1 else 0:=by rw[rO,rO,(nT c x).countP_eq,Ft];congr 1;by_cases e:x.dim=k<;>simp[e]
def qM(c:List Cl)(p:Cl->Bool)(k:Int):(cB (c.filter p) k).length<=(cB c k).length:=by rw[rO,rO];exact(List.filter_sublist (l:=c) (p:=p)).countP_le
def aRz(c:List Cl)(g:Cl->Cl)(hg:∀y,(g y).dim=y.dim)(k:Int):(cB (c.map g) k).length=(cB c k).length:=by rw[rO,rO,List.countP_map];congr 1;funext y;simp only[DQ,hg]
abbrev eV(M d:Nat)(k:Int):Nat:=eH (4+d) (b2F M d) (2097152+d) k
def bNl{M M' d d':Nat}(h:M<=M')(k:d<=d'):b2F M d+(d'-d)<=b2F M' d':=by have h1:=bLk (b:=4+d) h;have h2:=aDq (n:=M') (b:=4+d) (b':=4+d') (by omega);unfold b2F;omega
def cCm{M M' d d':Nat}{k:Int}(h:M<=M')(e:d<=d')(hk:1<=k/\k<=3):eV M d k+(d'-d)<=eV M' d' k:=by
 have:=bNl h e;have hk:k=1\/k=2\/k=3:=by omega
 rcases hk with rfl|rfl|rfl<;>simp[eH]<;>omega
def aNc{M M' d:Nat}(h:M<=M')(k:Int):eV M d k<=eV M' d k:=by
 have:=bNl (d:=d) (d':=d) h (Ap _);unfold eV eH;split
 ·omega
 ·split
  ·omega
  ·omega
def wI{M:Nat}{l:Ch}(h:∀n,(cf n l).natAbs<=M):Bnd M (cF [] l):=by
 obtain⟨h1,h2⟩:=cS l [] Val.nil;refine uT h1 λn=>?_
 rw[h2,gX,CD];exact h n
def aBq{M:Nat}{l:Ch}(hv:Val l)(h:Bnd M l)(n:Int):(cf n l).natAbs<=M:=by rw[gD hv];exact vY h n
def bQi{a b:Int}(hab:a≠b){l:Ch}{e:Nat}(hv:Val l)(h:Bnd (2^e) l):Bnd (2^(e+1)) (cF [] (l.map (hJ a b))):=by
 refine wI λn=>?_
 rw[aNg hab,Cp];have h1:=aBq hv h n;have h2:=aBq hv h b;have h3:=Int.natAbs_add_le (cf n l) (cf b l);split
 ·simp
 ·split
  ·omega
  ·rw[Dn];omega
def aKp{l:Ch}{p:Int×Int->Bool}(hv:Val l)(n:Int):(cf n (l.filter p)).natAbs<=(cf n l).natAbs:=by
 have hv2:Val (l.filter p):=⟨hv.1.filter _,λx hx=>hv.2 x (Bi.1 hx).1⟩;rw[gD hv2,gD hv];by_cases h:∃x∈l.filter p,x.1=n
 ·obtain⟨x,hx,rfl⟩:=h;rw[fJ hv2 hx,fJ hv (Bi.1 hx).1];exact Ap _
 ·rw[iA λy hy e=>h ⟨y,hy,e⟩];exact Al _
def aSy{w z:Int}{l:Ch}{M:Nat}(hw:∀f∈l,f.1≠w)(hz:z.natAbs<=M)(h:∀n,(cf n l).natAbs<=M)(n:Int):(cf n ((w,z)::l)).natAbs<=M:=by
 simp only[cf];by_cases e:n=w
 ·rw[Ad e,e,nO hw,Dn];exact hz
 ·rw[Ac e,CD];exact h n
def bZm(n e w1:Int)(l:Ch):cf n (adF e w1 l)=if n=w1 then cf e l else 0:=by have h:=qY (λm=>if n=m then 1 else 0) e w1 l;rw[<-nN]at h;rw[h];by_cases q:n=w1<;>simp[q]
section
variable {c:List Cl} {e w0 w1:Int} {M:Nat}
def bFv(h:CxV c)(s:kC c e w0 w1)(hM:1<=M)(hb:Bnd M (bOf c e)):Bnd M (cF [] (lX w0 (bOf c e)))/\Bnd M (cF [] (nE w0 (bOf c e))):=by
 have hv:=h.bval e;have hw:∀f∈bOf c e,f.1≠w0:=λf hf q=>by obtain⟨y,hy,k1,_⟩:=s.pts h hf;exact s.n0 y hy (k1.trans q)
 refine⟨wI (aSy (λf hf=>hw f (aDg hf)) (by simpa using hM) λn=>An (aKp hv n) (aBq hv hb n)),wI (aSy (λf hf=>hw f (aDh hf)) (by simpa using hM) λn=>An (aKp hv n) (aBq hv hb n))⟩
def bFu(h:CxV c)(s:kC c e w0 w1){y:Cl}(hy:y∈c)(hb:Bnd M y.b):Bnd M (cF [] (y.b++adF e w1 y.b)):=by
 have hv:=h.val y hy;refine wI λn=>?_
 rw[aWq,bZm];by_cases q:n=w1
 ·rw[Ad q,nO λf hf k=>?_,CD]
  ·exact aBq hv hb e
  ·obtain⟨z,hz,k1,_⟩:=h.face y hy f hf;exact s.n1 z hz (k1.trans (k.trans q))
 ·rw[Ac q,Dn];exact aBq hv hb n
end
structure Fg(i M q d:Nat)(x:Cg):Prop where
 k:1<=x.k/\x.k<=6
 dim:0<=x.c.dim/\x.c.dim<=3
 val:Val x.c.b
 bl:x.c.b.length<=49
 bnd:Bnd (2^(cyE M q (4+d) (b2F M d) x.c.dim+4)) x.c.b
 keys:∀f∈x.c.b,0<=f.1/\f.1<=302+2*(i:Int)
 cid:0<=x.c.id/\x.c.id<=302+2*(i:Int)
 a:0<=x.a/\x.a<=302+2*(i:Int)
 b:0<=x.b/\x.b<=302+2*(i:Int)
 w0:0<=x.w0/\x.w0<=302+2*(i:Int)
 w1:0<=x.w1/\x.w1<=302+2*(i:Int)
def Hs.of{i M d:Nat}{c:List Cl}(v:CxV c)(hi:i<=15)(len:c.length<=8+2*i)(n0:(cB c 0).length<=4+i)(n1:(cB c 1).length<=M)(M3:3<=M)(Md:M+d<=4+i)(n2:M+(cB c 2).length+d<=6+i)
  (ids:∀x∈c,0<=x.id/\x.id<=300+2*(i:Int)) (eb:∀x∈c,1<=x.dim->Bnd (2^eV M d x.dim) x.b):Hs i M d c :=
 ⟨v,len,n0,n1,M3,Md,n2,ids,λx hx=>by have:=v.bLen hx;omega,λx hx=>by
  by_cases h:1<=x.dim
  ·exact eb x hx h
  ·have:=v.dim x hx;rw[aSx v hx (by omega)];exact Bnd.nil _⟩
def Hs.filt{i M d:Nat}{c:List Cl}(h:Hs i M d c)(hi:i<=10)(p:Cl->Bool)(hv:CxV (c.filter p)):Hs (i+1) M d (c.filter p):=by
 have hm:∀x∈c.filter p,x∈c:=λx hx=>(Bi.1 hx).1
 have h1:=qM c p 0;have h2:=qM c p 1;have h3:=qM c p 2;have h4:=Cw p c;have k1:=h.len;have k2:=h.n0;have k3:=h.n1;have k4:=h.Md;have k5:=h.n2;exact .of hv (by omega) (by omega) (by omega) (by omega) h.M3 (by omega) (by omega) (λx hx=>by have:=h.ids x (hm x hx);omega) λx hx _=>h.eb x (hm x hx)
def Hs.step{i M d:Nat}{c:List Cl}{x:Cg}(h:Hs i M d c)(hi:i<=10)(f:Fg i M (cB c 2).length d x)(h0:(doX c x).2=0):∃M' d',Hs (i+1) M' d' (doX c x).1:=by
 have k1:=h.len;have k2:=h.n0;have k3:=h.n1;have k4:=h.Md;have k5:=h.n2;have k6:=h.M3;obtain⟨g1,g2,g3,g4⟩:=aFf (M:=M) (d:=d) (q:=(cB c 2).length) h.M3 (by omega) (by omega);unfold doX at h0 ⊢;by_cases e1:x.k=1
 ·rw[Ad e1]at h0 ⊢;rcases aKb h.v f.val with ⟨n,hn,e⟩|⟨hv,hne,e⟩
  ·rw[e]at h0;exact(hn h0).elim
  rw[e];show ∃M' d',Hs (i+1) M' d' (cE c x.c);have a0:=pO c x.c 0;have a1:=pO c x.c 1;have a2:=pO c x.c 2;have al:=nA c x.c;obtain⟨M',hM'⟩:∃M',M'=M+if x.c.dim=1 then 1 else 0:=⟨_,rfl⟩
  have hMM:M<=M':=by rw[hM'];exact Nat.le_add_right _ _
  refine⟨M',d,.of hv (by omega) (by omega) ?_ (by omega) (by omega) ?_ ?_ (λy hy=>?_) λy hy hd=>?_⟩
  ·show(cB (cE c x.c) 0).length<=_;rw[a0];split<;>omega
  ·rw[hM'];split<;>omega
  ·show M'+(cB (cE c x.c) 2).length+d<=_;rw[a2,hM'];split
   ·rename_i q;rw[Ac (by omega)];omega
   ·split<;>omega
  ·rcases iH.1 hy with rfl|hy
   ·have:=f.cid;omega
   ·have:=h.ids y hy;omega
  ·rcases iH.1 hy with rfl|hy
   ·refine f.bnd.pw (An ?_ (aNc hMM _));have:=f.dim;have hk:x.c.dim=1\/x.c.dim=2\/x.c.dim=3:=by omega
    have hb2:b2F M d=2*gG M (4+d)+10+d:=rfl;refine(show ∃n,b2F M d=n from⟨_,rfl⟩).elim λn hn=>?_
    rw[hn]at g3 g4 hb2;rcases hk with q|q|q<;>rw[q]<;>simp[eH,cyE,hn]<;>omega
   ·exact(h.eb y hy).pw (aNc hMM _)
 rw[Ac e1]at h0 ⊢;by_cases e2:x.k=2
 ·rw[Ad e2]at h0 ⊢;rcases aIw h.v x.a with ⟨n,hn,e⟩|⟨hv,e⟩
  ·rw[e]at h0;exact(hn h0).elim
  rw[e];exact⟨M,d,h.filt hi _ hv⟩
 rw[Ac e2]at h0 ⊢;by_cases e3:x.k=3
 ·rw[Ad e3]at h0 ⊢;rcases bDo c h.v x.a x.b with ⟨n,hn,e⟩|⟨t,e⟩
  ·rw[e]at h0;exact(hn h0).elim
  rw[e];show ∃M' d',Hs (i+1) M' d' (nX c x.a x.b);have hm:∀(k:Int),(cB (nX c x.a x.b) k).length<=(cB c k).length:=λk=>by
   unfold nX;rw[aRz]
   ·exact qM _ _ _
   ·intro y;rfl
  have h1:=hm 0;have h2:=hm 1;have h3:=hm 2;have h4:=aSd c x.a x.b;refine⟨M,d+1,.of (t.valid h.v) (by omega) (by omega) (by omega) (by omega) h.M3 (by omega) (by omega) (λy hy=>?_) λy hy hd=>?_⟩
  ·obtain⟨z,hz,_,rfl⟩:=mE.1 hy;have:=h.ids z hz;show 0<=z.id/\z.id<=_;omega
  ·obtain⟨z,hz,_,rfl⟩:=mE.1 hy;have hd2:1<=z.dim:=hd;refine(bQi t.ne (h.v.val z hz) (h.eb z hz)).pw ?_;have:=cCm (M:=M) (M':=M) (d:=d) (d':=d+1) (k:=z.dim) (Ap _) (by omega) ⟨hd2,(h.v.dim z hz).2⟩;show eV M d z.dim+1<=eV M (d+1) z.dim;omega
 rw[Ac e3]at h0 ⊢;by_cases e4:x.k=4
 ·rw[Ad e4]at h0 ⊢;rcases bEb h.v x.a x.b with ⟨n,hn,e⟩|⟨hv,m,e⟩
  ·rw[e]at h0;exact(hn h0).elim
  rw[e];exact⟨M,d,h.filt hi _ hv⟩
 rw[Ac e4]at h0 ⊢;by_cases e5:x.k=5
 rotate_left
 ·rw[Ac e5]at h0;exact absurd h0 (by decide)
 rw[Ad e5]at h0 ⊢;rcases aUh h.v x.a x.w0 x.w1 with ⟨n,hn,e⟩|⟨s,e⟩
 ·rw[e]at h0;exact(hn h0).elim
 rw[e];show ∃M' d',Hs (i+1) M' d' (oD c x.a x.w0 x.w1);have hm:∀(k:Int),(cB (oD c x.a x.w0 x.w1) k).length=(cB c k).length+(if(0:Int)=k then 1 else 0)+if(1:Int)=k then 1 else 0:=λk=>by
  unfold oD;rw[pO,pO,aRz]
  ·rfl
  ·intro y;rfl
 have h1:=hm 0;have h2:=hm 1;have h3:=hm 2;simp at h1 h2 h3;have h4:=aPd c x.a x.w0 x.w1;obtain⟨xe,he1,he2,he3,he4⟩:=s.own h.v;have hb:Bnd (2^(4+d)) (bOf c x.a):=by have:=h.eb xe he1;rw[he3]at this;rw[he4];exact this
 obtain⟨hb1,hb2⟩:=bFv h.v s Cd hb;refine⟨M+1,d,.of (s.valid h.v) (by omega) (by omega) (by omega) (by omega) (by omega) (by omega) (by omega) (λy hy=>?_) λy hy hd=>?_⟩
 ·rcases iN.1 hy with rfl|rfl|⟨z,hz,rfl⟩
  ·show 0<=x.w0/\x.w0<=_;have:=f.w0;omega
  ·show 0<=x.w1/\x.w1<=_;have:=f.w1;omega
  ·have:=h.ids z hz;show 0<=z.id/\z.id<=_;omega
 ·rcases iN.1 hy with rfl|rfl|⟨z,hz,rfl⟩
  ·exact Bnd.nil _
  ·exact hb1
  ·show Bnd (2^eV (M+1) d z.dim) (cF [] (subL x.a x.w0 x.w1 (bOf c x.a) z));unfold subL;split
   ·rename_i q;have:z=xe:=h.v.inc.eq hz he1 (q.trans he2.symm);subst this;rw[he3];exact hb2
   ·exact(bFu h.v s hz (h.eb z hz)).pw (aNc (Nat.le_succ M) _)
def bV:Nat:=1099511627776
def zW:bV=1099511627776:=rfl
def cBe:Bool:=(CS 16).all λM=>(CS 16).all λd=>decide (15<M+d)||decide (b2F M d<1000000000000)
def bRq:cBe=true:=by kernel_rfl
def Hs.sz{i M d:Nat}{c:List Cl}(h:Hs i M d c)(hi:i<=11):SzX bV c:=by
 have k1:=h.len;have k4:=h.Md;have hV:=zW;refine⟨by omega,λx hx=>by have:=h.bl x hx;omega,λx hx=>(h.eb x hx).pw ?_⟩;have hn:b2F M d<1000000000000:=by have hh:=bRq;unfold cBe at hh;rw[Ay]at hh;have hh:=hh M (C4.2 (by omega));rw[Ay]at hh;have hh:=hh d (C4.2 (by omega));simp only[CG,AI]at hh;exact hh.resolve_left (by omega)
 unfold eH;split
 ·omega
 ·split
  ·omega
  ·split<;>omega
def Hs.keys{i M d:Nat}{c:List Cl}(h:Hs i M d c)(hi:i<=11):∀x∈c,Keys x.b:=λx hx f hf=>by obtain⟨y,hy,e,_⟩:=h.v.face x hx f hf;have:=h.ids y hy;simp only[inr,AI];omega
def Fg.sz{i M d:Nat}{c:List Cl}{x:Cg}(h:Hs i M d c)(hi:i<=10)(f:Fg i M (cB c 2).length d x):Bnd (2^bV) x.c.b:=by
 have k4:=h.Md;have k5:=h.n2;obtain⟨g1,g2,g3,g4⟩:=aFf (M:=M) (d:=d) (q:=(cB c 2).length) h.M3 (by omega) (by omega);have hV:=zW;have hb2:b2F M d=2*gG M (4+d)+10+d:=rfl;refine f.bnd.pw ?_;unfold cyE;split
 ·omega
 ·split
  ·omega
  ·split<;>omega
def aBn(x:Cl):Bool:=decide (x.dim<0)||decide (3<x.dim)
def eX(c:List Cl)(x:Cl)(i:Nat):Int:=if aBn x||(x.b.take i).any (λf=>!decide (dOf c f.1=x.dim-1))then 260 else 0
def bNw{α:Type}(l:List α)(y:α)(p:α->Bool):(l++[y]).any p=(l.any p||p y):=by simp
def aZy{c:List Cl}{x:Cl}{i:Nat}(h:i<x.b.length):eX c x (i+1)=if dOf c x.b[i].1≠x.dim-1 then 260 else eX c x i:=by
 unfold eX;rw[AM,Ab h];refine exE x.b[i] λy hy=>?_
 rw[hy,Option.toList_some,bNw];generalize(x.b.take i).any _=q;by_cases e:dOf c y.1=x.dim-1
 ·have e2:¬dOf c y.1≠x.dim-1:=λh=>h e
  rw[Ac e2,Bx e];simp
 ·rw[Ad e,Bo e];simp
def bUe{c:List Cl}{x:Cl}(hc:Inc c)(hl:c.length<=1000000)(hxv:Val x.b)(hxl:x.b.length<=100)(hs:∀f∈x.b,Sz f.2)(hd:-1000000<=x.dim/\x.dim<=1000000):Spec Aa 135 [aE c,.ag (aN x)] (.i .i64 (oH c x)):=by
 refine bF (N:=69) Tryz.func135 ?_;obtain⟨e0,he0⟩:∃e0,eX c x 0=e0:=⟨_,rfl⟩;have h3:(x.dim<0/\¬3<x.dim/\e0=260)\/(¬x.dim<0/\3<x.dim/\e0=260)\/(¬x.dim<0/\¬3<x.dim/\e0=0):=by
  rw[<-he0];by_cases d1:x.dim<0
  ·exact .inl ⟨d1,by omega,by simp[eX,aBn,d1]⟩
  ·by_cases d2:3<x.dim
   ·exact .inr (.inl ⟨d1,d2,by simp[eX,aBn,d1,d2]⟩)
   ·exact .inr (.inr ⟨d1,d2,by simp[eX,aBn,d1,d2]⟩)
 rcases h3 with ⟨d1,d2,e0v⟩|⟨d1,d2,e0v⟩|⟨d1,d2,e0v⟩
 all_goals
  simp[-C,-E,↓KW,aE,aK,aR,d1,d2,aC,aA,aB]
  refine aP (λy:Nat×Int=>y.1<=x.b.length/\eX c x y.1=y.2/\rM c (x.b.take y.1)=true) (λy=>StL [(0,.d (aE c)),(3,.ptr 1 0),(5,.d (.i .i64 y.2)),(19,.d (aK x.b)),(20,.d (.i .i64 x.b.length)),(21,.d (.i .i64 (y.1:Int)))] none [.cells 40 [.d (.i .i64 x.id),.d (.i .i64 x.dim),.d (aK x.b)]]) (λy=>x.b.length-y.1) (0,e0) ⟨Al _,he0,rfl⟩ ?_ ?_
  ·refine wkQ [1] ?_ ?_<;>simp[-C,upd,aO,Γ0,aE,aK,e0v]
  ·rintro⟨i,e⟩ ⟨hi,he,hkn0⟩
   simp only at hi he hkn0 ⊢
   by_cases hgo:i<x.b.length
   ·have q1:(i:Int)<x.b.length:=by omega
    have hx:x.b[i]? = some x.b[i]:=Ab hgo
    have hnx:=aZy (c:=c) (x:=x) hgo
    have hfs0:=hs _ (Ar hgo)
    have hnz:=hxv.2 _ (Ar hgo)
    have hprev:∀(j:Nat) (hj:j<x.b.length),j<i->x.b[j].1<x.b[i].1:=λj hj hji=>(BC.1 hxv.1) j i hj hgo hji
    have hw3:Ag.wrap (x.dim-1)=x.dim-1:=aV
    have hkn1:(bG c x.b[i].1).isSome=true->rM c (x.b.take (i+1))=true:=λh=>by unfold rM at hkn0 ⊢;rw[AM,hx,FN,hkn0];simp[kn,h]
    refine exE x.b[i] λu hue=>?_
    rw[hue]at hx hnx hfs0 hnz hkn1
    simp only[hue]at hprev
    have hfs:Sz u.2:=hfs0
    have hfe:eL u=[.i .i64 u.1,.b (decide (u.2<0)),aM (aU u.2.natAbs)]:=rfl
    have hsg:((u.2.sign==0):Bool)=false:=by simp[hnz]
    have hF:=sQ hc u.1 hl
    unfold oT at hF
    rcases i with _|i
    ·have hx':∀h:0<x.b.length,x.b[0]'h=u:=λ_=>hue
     have hwi:Ag.wrap 1=1:=aV
     simp[-C,-E,↓KW,aE,aK,hgo,hx,hx',hfe,aC,aA,aB,aF,aD,aG]
     refine aJ (aKa u.2 hfs) ?_
     simp[-C,-E,↓KW,aE,aK,hfe,aY,aF,aD,aG]
     refine aJ (uI u.2 hfs) ?_
     simp[-C,-E,↓KW,aE,aK,hsg,aY,aF,aD,aG]
     refine aJ hF ?_
     cases hfd:bG c u.1 with
     |none =>
      have hk:rM c x.b=false:=by rw[<-Bool.not_eq_true];intro h;have:=Ay.1 h u (Aq hx);unfold kn at this;rw[hfd]at this;cases this
      have hfin:oH c x=251:=by unfold oH;rw[hk];rfl
      simp[-C,-E,↓KW,aE,aK,aR,hfin,aC,aA,aB]
     |some z =>
      have hdz:dOf c u.1=z.dim:=by unfold dOf;rw[hfd];rfl
      have hkn:=hkn1 (by rw[hfd];rfl);rw[hdz]at hnx;by_cases hd:z.dim=x.dim-1
      ·have hd':((z.dim != x.dim-1):Bool)=false:=by simpa using hd
       rw[Ac (by simpa using hd)]at hnx;simp[-C,-E,↓KW,aE,aK,aR,hw3,hd',hwi,aC,aA,aB];refine aI (τ:=Nat×Int) (0+1,e) ⟨hgo,by rw[hnx];exact he,hkn⟩ (slQ hgo) (wkQ [1] ?_ ?_)<;>simp[-C,upd,aO,Γ0,aE,aK]
      ·have hd':((z.dim != x.dim-1):Bool)=true:=by simpa using hd
       rw[Ad (by simpa using hd)]at hnx;simp[-C,-E,↓KW,aE,aK,aR,hw3,hd',hwi,aC,aA,aB];refine aI (τ:=Nat×Int) (0+1,260) ⟨hgo,hnx,hkn⟩ (slQ hgo) (wkQ [1] ?_ ?_)<;>simp[-C,upd,aO,Γ0,aE,aK]
    ·have hgp:i<x.b.length:=by omega
     have hp:x.b[i]? = some x.b[i]:=Ab hgp
     have hlt:=hprev i hgp (by omega)
     have q3:(0:Int)<((i+1:Nat):Int):=by omega
     have hw2:Ag.wrap (((i+1:Nat):Int)-1)=(i:Int):=by rw[aV];omega
     refine exE x.b[i] λy hye=>?_
     rw[hye]at hp hlt
     have hyc2:eL y=[.i .i64 y.1,.b (decide (y.2<0)),aM (aU y.2.natAbs)]:=rfl
     have q4:¬u.1<=y.1:=by omega
     have q5:(0:Int)<=(i:Int):=by omega
     have hwi:Ag.wrap (((i+1:Nat):Int)+1)=((i+1+1:Nat):Int):=by rw[aV];omega
     obtain⟨I,hI⟩:∃I:Int,((i+1:Nat):Int)=I:=⟨_,rfl⟩
     have hIt:I.toNat=i+1:=by omega
     have q6:0<=I:=by omega
     rw[hI]at q1 q3 hw2 hwi
     simp only[hI]
     simp[-C,-E,↓KW,aE,aK,q1,q3,hIt,q6,hw2,q5,hx,hp,hfe,hyc2,q4,aC,aA,aB,aF,aD,aG]
     refine aJ (aKa u.2 hfs) ?_
     simp[-C,-E,↓KW,aE,aK,hfe,aY,aF,aD,aG]
     refine aJ (uI u.2 hfs) ?_
     simp[-C,-E,↓KW,aE,aK,hsg,aY,aF,aD,aG]
     refine aJ hF ?_
     cases hfd:bG c u.1 with
     |none =>
      have hk:rM c x.b=false:=by rw[<-Bool.not_eq_true];intro h;have:=Ay.1 h u (Aq hx);unfold kn at this;rw[hfd]at this;cases this
      have hfin:oH c x=251:=by unfold oH;rw[hk];rfl
      simp[-C,-E,↓KW,aE,aK,aR,hfin,aC,aA,aB]
     |some z =>
      have hdz:dOf c u.1=z.dim:=by unfold dOf;rw[hfd];rfl
      have hkn:=hkn1 (by rw[hfd];rfl);rw[hdz]at hnx;by_cases hd:z.dim=x.dim-1
      ·have hd':((z.dim != x.dim-1):Bool)=false:=by simpa using hd
       rw[Ac (by simpa using hd)]at hnx;simp[-C,-E,↓KW,aE,aK,aR,hw3,hd',hwi,aC,aA,aB];refine aI (τ:=Nat×Int) (i+1+1,e) ⟨hgo,by rw[hnx];exact he,hkn⟩ (slQ hgo) (wkQ [1] ?_ ?_)<;>simp[-C,upd,aO,Γ0,aE,aK]
      ·have hd':((z.dim != x.dim-1):Bool)=true:=by simpa using hd
       rw[Ad (by simpa using hd)]at hnx;simp[-C,-E,↓KW,aE,aK,aR,hw3,hd',hwi,aC,aA,aB];refine aI (τ:=Nat×Int) (i+1+1,260) ⟨hgo,hnx,hkn⟩ (slQ hgo) (wkQ [1] ?_ ?_)<;>simp[-C,upd,aO,Γ0,aE,aK]
   ·have q1:¬(i:Int)<x.b.length:=by omega
    have hil:i=x.b.length:=by omega
    have hfin:oH c x=e:=by rw[Ai (by omega)]at hkn0;unfold oH;rw[hkn0,Ad rfl,<-he];unfold eX aBn;rw[Ai (by omega)]
    simp[-C,-E,↓KW,aE,aK,q1,hfin]
end Go.Am
end
section
open List renaming map_map->C,mapM_map->E
open Go Go.Am
namespace Go.Proofs
open Go.RowKit Go.Lib Go.Shelf
def kX{P:Program}(w:World)(dT sT ty elem:TypeId)(sz b o dLen dCap:Nat)(a:Addr)(sLen sCap:Nat)(cs:List Value)
  (hu:P.underlying dT=some (.slice elem)) (hs:∀w,(Go.sizeOf elem).run P w=.ok sz w) (m:Nat) (hm:Nat.min sLen dLen=m) (hn:cs.length=m*sz)
  (hsrc:∀j v,cs[j]? = some v->w.cell? (a.add j)=some v) (hc:∀j,j<cs.length->(w.cell? ⟨b,o+j,none⟩).isSome=true) (hf:∀j,j<cs.length->w.frozen? ⟨b,o+j,none⟩=false) (h1:∀v∈cs,v.oneCell'=true) :
  (E5 #[dT,sT] ty #[.slice (some ⟨b,o,none⟩) dLen dCap,.slice (some a) sLen sCap]).run P w=.ok (goInt m) (w.setCells b o cs):=by
 have hl:=run_loadCells_list (P:=P) w a cs hsrc
 have hst:=run_storeCells_cells (P:=P) b o cs 0 w (by simpa using hc) (by simpa using hf) h1
 rw[hn]at hl
 simp[E5,run_underlying hu,Fv,C8,hs,hm,hl,hst]
def aAr{P:Program}(w:World)(tS tR e:TypeId)(ht:P.underlying tS=some (.slice e))(size:Nat)(hz:∀w,(Go.sizeOf e).run P w=.ok size w)
  (a b:Addr) (la ca lb cb:Nat) (hne:a.block≠b.block) (tA tB:TypeId) (kA kB:Nat)
  (hsa:w.shape? a.block=some (tA,kA)) (hsb:w.shape? b.block=some (tB,kB)) (hkA:kA≠0) (hkB:kB≠0)
  (hfb:w.frozen? b=false) (hfe:w.frozen? { block:=b.block,off:=kB }=false) :
  (Fu #[tS,tS] #[tR] #[.slice (some a) la ca,.slice (some b) lb cb]).run P w=.ok (.bool false) w:=by
 have hnb:(a.block != b.block)=true:=by simpa using hne
 have hnb':(a.block==b.block)=false:=by simpa using hne
 change Sem.run P (α:=Value) (do
  let some t:=(#[tS,tS]:Array TypeId)[0]? | stuck "slices.overlaps: no parameter types"
  let .slice elem <- underlying t | stuck "slices.overlaps: slice type expected"
  let size <-sizeOf elem
  match(some a:Option Addr),(some b:Option Addr)with
  |some a,some b =>
   if la=0\/lb=0\/size=0 then pure (Value.bool false)
   else if a.block != b.block&&(<-frozen a)&&(<-frozen b)then unsupported .addressObserved
   else do
    if a.block != b.block then do
     noView a;noView b
     if <- mayBeOne a b then return Value.bool ((<- choose (.extern "sameAddr.stringBytes" 2)) == 1)
    pure (Value.bool (a.block==b.block&&a.off<b.off+lb*size&&b.off<a.off+la*size))
  |_,_=>pure (Value.bool false)) w=_
 by_cases h0:la=0\/lb=0\/size=0
 ·simp[run_underlying ht,hz,h0]
 ·cases kA with
  |zero=>exact absurd rfl hkA
  |succ kA =>
  cases kB with
  |zero=>exact absurd rfl hkB
  |succ kB =>
   cases hfa:w.frozen? a<;>cases hfz:w.frozen? { block:=a.block,off:=kA+1 } <;>
    simp[run_underlying ht,hz,h0,hnb,hnb',frozen,noView,viewAt,mayBeOne,stringish,shape,Sem.run,hsa,hsb,hfa,hfb,hfe,hfz]
noncomputable def Tryz.cellI:TypeInfo:=((Aa).info? 40).get (by kernel_rfl)
def Tryz.cellI_eq:(Aa).info? 40=some Tryz.cellI:=by kernel_rfl
def Tryz.cellI_zero:Tryz.cellI.zero=some (.agg #[.int .i64 0,.int .i64 0,.slice none 0 0]):=by kernel_rfl
def Tryz.cellI_size:Tryz.cellI.size=3:=by kernel_rfl
def Tryz.cellI_bytes:Tryz.cellI.bytes=40:=by kernel_rfl
def Tryz.ins_end_room(b n c:Nat)(va:Addr)(vc:Nat)(vs:List Value)(w:World)(hroom:n+1<=c)(hc63:c<=9223372036854775807)
  (hvl:vs.length=3) (hsp:∀j,j<3->(w.cell? ⟨b,n*3+j,none⟩).isSome=true) (hfz:∀j,j<3->w.frozen? ⟨b,n*3+j,none⟩=false)
  (hvs:∀j v,vs[j]? = some v->w.cell? (va.add j)=some v) (h1v:∀v∈vs,v.oneCell'=true) :
  Calls Aa 138 #[.slice (some ⟨b,0,none⟩) n c,.int .i64 n,.slice (some va) 1 vc] w λe w' =>
   e=.returned (.slice (some ⟨b,0,none⟩) (n+1) c)/\w'=w.setCells b (n*3) vs:=by
 have mixed:(Aa).follows .mixedOrders=true:=by kernel_rfl
 have hi0:=Tryz.cellI_eq;have hz0:=Tryz.cellI_zero;have hzs:=Tryz.cellI_size;have hzb:=Tryz.cellI_bytes
 have hu32:(Aa).underlying 32=some (.slice 40):=by kernel_rfl
 have hu31:(Aa).underlying 31=some (.slice 40):=by kernel_rfl
 have hsrc:Src Aa Tryz.cellI.size 31 (.slice (some va) 1 vc) 1 vs w:=by rw[hzs];exact Src.ofSlice w hu31 va 1 vc vs (by omega) hvs h1v
 have hrun:∀ty,(BT #[32,31] ty #[.slice (some ⟨b,0,none⟩) n c,.slice (some va) 1 vc]).run Aa w=.ok (.slice (some ⟨b,0,none⟩) (n+1) c) (w.setCells b (n*3) vs):=λty=>by have h:=run_append_room_src (w:=w) 32 31 ty 40 Tryz.cellI hu32 hi0 b 0 n c _ 1 vs hsrc hroom (by rw[hvl,hzs];intro j hj;rw[A6];exact hsp j hj) (by rw[hvl,hzs];intro j hj;rw[A6];exact hfz j hj);rw[hzs,A6]at h;exact h
 go_enter Fi,Gt
 go_wp2_with (at_builtin;refine Dy _ rfl _ _ _ _ rfl _ _ rfl rfl _ _ (hrun _) ?_)
 go_ret
 exact⟨rfl,rfl⟩
def Tryz.ins_end_grow(base:Option Addr)(n c:Nat)(va:Addr)(vc:Nat)(cs vs:List Value)(w:World)(hnc:n<=c)(hroom:c<n+1)(hbig:(n+1)*40<=140737488355328)
  (hcl:cs.length=n*3) (hvl:vs.length=3) (hnil:base=none->n=0)
  (hcs:∀a,base=some a->∀j v,cs[j]? = some v->w.cell? (a.add j)=some v)
  (hvs:∀j v,vs[j]? = some v->w.cell? (va.add j)=some v) (h1v:∀v∈vs,v.oneCell'=true) :
  Calls Aa 138 #[.slice base n c,.int .i64 n,.slice (some va) 1 vc] w λe w' =>
   e=.returned (.slice (some ⟨w.heap.size,0,none⟩) (n+1) (grownCap w (n+1) c 40)) /\
   w'=w.drew.alloc (.cells ((cs++vs).toArray++BG (EX #[.int .i64 0,.int .i64 0,.slice none 0 0]).cells (grownCap w (n+1) c 40-(n+1))) 40):=by
 have mixed:(Aa).follows .mixedOrders=true:=by kernel_rfl
 have hi0:=Tryz.cellI_eq;have hz0:=Tryz.cellI_zero;have hzs:=Tryz.cellI_size;have hzb:=Tryz.cellI_bytes
 have hu32:(Aa).underlying 32=some (.slice 40):=by kernel_rfl
 have hu31:(Aa).underlying 31=some (.slice 40):=by kernel_rfl
 have hsrc:Src Aa Tryz.cellI.size 31 (.slice (some va) 1 vc) 1 vs w:=by rw[hzs];exact Src.ofSlice w hu31 va 1 vc vs (by omega) hvs h1v
 have hold:(C8 Tryz.cellI.size n (.slice base n c)).run Aa w.drew=.ok cs.toArray w.drew:=by
  rw[hzs];cases base with
  |none =>
   have h0:=hnil rfl;subst h0;have h1:cs=[]:=Ff.1 (by omega);rw[h1];exact run_firstCells_none w.drew 3 0 0 c
  |some a=>exact run_firstCells_some w.drew 3 n a n c cs hcl (λj v hj=>hcs a rfl j v hj)
 have hrun:∀ty,(BT #[32,31] ty #[.slice base n c,.slice (some va) 1 vc]).run Aa w=_:=λty =>
  run_append_grow_src w 32 31 ty 40 Tryz.cellI _ hu32 hi0 hz0 base n c cs hold _ 1 vs hsrc hroom (by omega) (by rw[hzb];exact growslice_fits hroom hbig)
 go_enter Fi,Gt
 cases base with
 |none =>
  have h0:=hnil rfl
  subst h0
  go_wp2_with (at_builtin;refine Dy _ rfl _ _ _ _ rfl _ _ rfl rfl _ _ (hrun _) ?_)
  go_ret
  exact⟨rfl,rfl⟩
 |some a =>
  obtain⟨ab,ao,asp⟩:=a
  go_wp2_with (at_builtin;refine Dy _ rfl _ _ _ _ rfl _ _ rfl rfl _ _ (hrun _) ?_)
  all_goals (go_ret;exact⟨rfl,rfl⟩)
def Tryz.ins_shift(b n c i:Nat)(va:Addr)(vc:Nat)(cs vs:List Value)(w:World)(hi:i<n)(hroom:n+1<=c)(hc63:c<=9223372036854775807)(hvb:va.block≠b)
  (hcl:cs.length=n*3) (hvl:vs.length=3)
  (hcs:∀j v,cs[j]? = some v->w.cell? ⟨b,j,none⟩=some v) (hsp:∀j,j<(n+1)*3->(w.cell? ⟨b,j,none⟩).isSome=true) (hfz:∀j,w.frozen? ⟨b,j,none⟩=false)
  (hvs:∀j v,vs[j]? = some v->w.cell? (va.add j)=some v) (h1c:∀v∈cs,v.oneCell'=true) (h1v:∀v∈vs,v.oneCell'=true)
  (tA tB:TypeId) (kA kB:Nat) (hsa:w.shape? va.block=some (tA,kA)) (hsb:w.shape? b=some (tB,kB)) (hkA:kA≠0) (hkB:kB≠0) :
  Calls Aa 138 #[.slice (some ⟨b,0,none⟩) n c,.int .i64 i,.slice (some va) 1 vc] w λe w' =>
   e=.returned (.slice (some ⟨b,0,none⟩) (n+1) c)/\w'=(w.drew.setCells b ((i+1)*3) (cs.drop (i*3))).setCells b (i*3) vs:=by
 have mixed:(Aa).follows .mixedOrders=true:=by kernel_rfl
 have hi0:=Tryz.cellI_eq;have hz0:=Tryz.cellI_zero;have hzs:=Tryz.cellI_size;have hzb:=Tryz.cellI_bytes
 have hu32:(Aa).underlying 32=some (.slice 40):=by kernel_rfl
 have hu31:(Aa).underlying 31=some (.slice 40):=by kernel_rfl
 have hz40:∀w,(Go.sizeOf 40).run Aa w=.ok 3 w:=Gs
 have hz2:¬((i:Int)=(n:Int)):=by omega
 have hov:∀lb cb,(callFunc 148 #[.slice (some va) 1 vc,.slice (some ⟨b,(i+1)*3,none⟩) lb cb]).run Aa w=.ok (.value (.bool false)) w:=λlb cb=>by
  rw[run_callFunc_extern Tryz.func148 (by kernel_rfl) (by kernel_rfl) (by kernel_rfl) (e:=Fu #[31,31] #[4]) (by kernel_rfl),
   aAr w 31 4 40 hu31 3 hz40 va ⟨b,(i+1)*3,none⟩ 1 vc lb cb hvb tA tB kA kB hsa hsb hkA hkB (hfz _) (hfz _)]
  rfl
 have hdl:(cs.drop (i*3)).length=(n-i)*3:=by rw[Bl,hcl,FH]
 have hw1:Ag.wrap ((i:Int)+1)=(i:Int)+1:=by rw[IntKind.wrap_i64];omega
 have hb1:(0:Int)<=(i:Int)+1:=by omega
 have hin:i<=n:=by omega
 have htn:((i:Int)+1).toNat=i+1:=by omega
 have hb2:¬(c=i+1):=by omega
 have hb3:(i:Int)<=(n:Int):=by omega
 have hb4:¬(c=i):=by omega
 have hb5:(i:Int)<=(n:Int)+1:=by omega
 have hcp1:∀ty dc sc,(E5 #[32,32] ty #[.slice (some ⟨b,(i+1)*3,none⟩) (n-i) dc,.slice (some ⟨b,i*3,none⟩) (n+1-i) sc]).run Aa w.drew=.ok (goInt (n-i:Nat)) (w.drew.setCells b ((i+1)*3) (cs.drop (i*3))):=λty dc sc =>
  kX w.drew _ _ ty 40 3 b ((i+1)*3) (n-i) dc ⟨b,i*3,none⟩ (n+1-i) sc (cs.drop (i*3)) hu32 hz40 (n-i) (by simp only[Nat.min_def];split<;>omega) hdl
   (λj v hj=>by rw[Addr.add_lit];exact hcs (i*3+j) v (by rwa [Bt]at hj))
   (λj hj=>hsp _ (by omega)) (λj hj=>hfz _) (λv hv=>h1c v (CQ hv))
 obtain⟨W1,hW1⟩:∃W1,W1=w.drew.setCells b ((i+1)*3) (cs.drop (i*3)):=⟨_,rfl⟩
 have hsp1:∀k,k<(n+1)*3->(W1.cell? ⟨b,k,none⟩).isSome=true:=λk hk=>by rw[hW1];exact isSome_setCells b (cs.drop (i*3)) ((i+1)*3) w.drew (λj hj=>hsp _ (by omega)) _ (hsp k hk)
 have hcp2:∀(W:World),(∀x,W.cell? x=W1.cell? x)->(∀x,W.frozen? x=W1.frozen? x)->∀ty dc,(E5 #[32,31] ty #[.slice (some ⟨b,i*3,none⟩) (n+1-i) dc,.slice (some va) 1 vc]).run Aa W=.ok (goInt (1:Nat)) (W.setCells b (i*3) vs):=λW hWc hWf ty dc =>
  kX W _ _ ty 40 3 b (i*3) (n+1-i) dc va 1 vc vs hu32 hz40 1 (by simp only[Nat.min_def];split<;>omega) hvl
   (λj v hj=>by
    have hab:(va.add j).block≠b:=by rw[Go.Am.block_add];exact hvb
    rw[hWc,hW1];refine F7 ?_ (hvs j v hj);exact C5 b _ _ w.drew _ λh=>absurd h hab)
   (λj hj=>by rw[hWc];exact hsp1 _ (by omega)) (λj hj=>by rw[hWf,hW1,Fj];exact hfz _) h1v
 rw[<-hW1]at hcp1
 go_enter Fi,Gt
 go_wp2_with (simp only[hov])
 go_region_law_o (refine step_copy_runI rfl _ _ 32 32 rfl _ _ (by simp[Act.eval,Eg]) (by simp[Act.eval,Eg]) (hcp1 _ _ _) ?_)
 go_wp2_with (at_builtin;refine wpList_copy_runI _ rfl _ _ 32 31 rfl _ _ rfl rfl (hcp2 _ (λ_=>rfl) (λ_=>rfl) _ _) ?_)
 go_ret
 first|exact⟨rfl,rfl⟩|exact⟨rfl,by rw[hW1]⟩
def Tryz.ins_grow(b n c i:Nat)(va:Addr)(vc:Nat)(cs vs:List Value)(w:World)(hi:i<n)(hnc:n<=c)(hroom:c<n+1)(hbig:(n+1)*40<=140737488355328)
  (hcl:cs.length=n*3) (hvl:vs.length=3) (hbw:b<w.heap.size) (hvw:va.block<w.heap.size)
  (hcs:∀j v,cs[j]? = some v->w.cell? ⟨b,j,none⟩=some v)
  (hvs:∀j v,vs[j]? = some v->w.cell? (va.add j)=some v) (h1c:∀v∈cs,v.oneCell'=true) (h1v:∀v∈vs,v.oneCell'=true) :
  Calls Aa 138 #[.slice (some ⟨b,0,none⟩) n c,.int .i64 i,.slice (some va) 1 vc] w λe w'=>∃G ROW,n+1<=G/\(n+1)*3<=ROW.size/\(∀j,j<i*3->ROW[j]? = cs[j]?) /\
   e=.returned (.slice (some ⟨w.heap.size,0,none⟩) (n+1) G) /\
   w'=(((w.alloc (.cells ROW 40)).drew.setCells w.heap.size (i*3) vs).drew).setCells w.heap.size ((i+1)*3) (cs.drop (i*3)):=by
 have mixed:(Aa).follows .mixedOrders=true:=by kernel_rfl
 have hi0:=Tryz.cellI_eq;have hz0:=Tryz.cellI_zero;have hzs:=Tryz.cellI_size;have hzb:=Tryz.cellI_bytes
 have hu32:(Aa).underlying 32=some (.slice 40):=by kernel_rfl
 have hu31:(Aa).underlying 31=some (.slice 40):=by kernel_rfl
 have hu3:(Aa).underlying 3=some (.int .i64):=by kernel_rfl
 have hz40:∀w,(Go.sizeOf 40).run Aa w=.ok 3 w:=Gs
 have hz2:¬((i:Int)=(n:Int)):=by omega
 have hz3:(c:Int)<(n:Int)+1:=by omega
 have hkk:(n:Int)+1-(i:Int)=((n+1-i:Nat):Int):=by omega
 have hik:i+(n+1-i)=n+1:=by omega
 have hold:(C8 Tryz.cellI.size i (.slice (some ⟨b,0,none⟩) i c)).run Aa w.drew=.ok (cs.take (i*3)).toArray w.drew:=by
  rw[hzs];exact run_firstCells_some w.drew 3 i ⟨b,0,none⟩ i c (cs.take (i*3)) (by rw[Ax];omega) (λj v hj=>by
   rw[Addr.add_lit,A6];rw[Bb]at hj;split at hj
   ·exact hcs j v hj
   ·cases hj)
 have hrz:∀ty,(BT #[32,3] ty #[.slice (some ⟨b,0,none⟩) i c,.int .i64 ((n:Int)+1-(i:Int))]).run Aa w =
   .ok (.slice (some ⟨w.heap.size,0,none⟩) (n+1) (grownCap w (n+1) c 40)) (w.drew.alloc (.cells ((cs.take (i*3)).toArray++BG (EX #[.int .i64 0,.int .i64 0,.slice none 0 0]).cells (n+1-i)++BG (EX #[.int .i64 0,.int .i64 0,.slice none 0 0]).cells (grownCap w (n+1) c 40-(n+1))) 40)):=λty=>by
  have h:=Gd w 32 3 ty 40 Tryz.cellI _ .i64 .i64 hu32 hu3 hi0 hz0 (some ⟨b,0,none⟩) i c (cs.take (i*3)) hold (n+1-i) (by omega) (by omega) (by omega) (by omega) (by rw[hzb];omega) (by rw[hzb,hik];exact growslice_fits hroom hbig)
  rw[hik]at h
  rw[hkk]
  exact h
 obtain⟨G,hG⟩:∃G,G=grownCap w (n+1) c 40:=⟨_,rfl⟩
 obtain⟨ROW,hROW⟩:∃ROW:Array Value,ROW=(cs.take (i*3)).toArray++BG (EX #[.int .i64 0,.int .i64 0,.slice none 0 0]).cells (n+1-i)++BG (EX #[.int .i64 0,.int .i64 0,.slice none 0 0]).cells (G-(n+1)):=⟨_,rfl⟩
 rw[<-hG]at hrz
 rw[<-hROW]at hrz
 have hzc:(EX #[.int .i64 0,.int .i64 0,.slice none 0 0]).cells.size=3:=by kernel_rfl
 have htl:(cs.take (i*3)).length=i*3:=by rw[Ax];omega
 have hRl:(n+1)*3<=ROW.size:=by rw[hROW];simp only[DG,B0,htl,BG,Array.size_map,Array.size_range,hzc];omega
 have hRh:∀j,j<i*3->ROW[j]? = cs[j]? := λj hj=>by rw[hROW,BJ (by simp only[DG,B0,htl];omega),BJ (by simp only[B0,htl];omega),List.getElem?_toArray,Bb,Ad hj]
 obtain⟨W1,hW1⟩:∃W1,W1=w.drew.alloc (.cells ROW 40):=⟨_,rfl⟩
 rw[<-hW1]at hrz
 have hN:∀j,j<(n+1)*3->(W1.cell? ⟨w.heap.size,j,none⟩).isSome=true:=λj hj=>by rw[hW1,EN (w:=w.drew) ROW _ w.heap.size j rfl,AD (by omega)];rfl
 have hNf:∀j,W1.frozen? ⟨w.heap.size,j,none⟩=false:=λj=>by rw[hW1];exact World.frozen?_alloc_at (w:=w.drew) ROW _ w.heap.size j rfl
 have hOb:∀j v,w.cell? ⟨b,j,none⟩=some v->W1.cell? ⟨b,j,none⟩=some v:=λj v h=>by rw[hW1,World.cell?_alloc_past (w:=w.drew) _ b j hbw];exact h
 have hOv:∀j v,w.cell? (va.add j)=some v->W1.cell? (va.add j)=some v:=λj v h=>by
  rw[hW1];refine F7 ?_ h;refine Go.Am.cell_eq_of_block ?_;rw[Go.Am.block_add];simp only[EO,World.drew];rw[Dq];split
  ·rename_i e;omega
  ·rfl
 have hcpA:∀(W:World),(∀x,W.cell? x=W1.cell? x)->(∀x,W.frozen? x=W1.frozen? x)->∀ty dc,(E5 #[32,31] ty #[.slice (some ⟨w.heap.size,i*3,none⟩) (n+1-i) dc,.slice (some va) 1 vc]).run Aa W=.ok (goInt (1:Nat)) (W.setCells w.heap.size (i*3) vs):=λW hWc hWf ty dc =>
  kX W _ _ ty 40 3 w.heap.size (i*3) (n+1-i) dc va 1 vc vs hu32 hz40 1 (by simp only[Nat.min_def];split<;>omega) hvl
   (λj v hj=>by rw[hWc];exact hOv _ v (hvs j v hj))
   (λj hj=>by rw[hWc];exact hN _ (by omega)) (λj hj=>by rw[hWf];exact hNf _) h1v
 have hGn:n+1<=G:=by rw[hG];exact grownCap_ge w _ _ _
 have hG63:G<=9223372036854775807:=by have:=grownCap_le_maxLen w (n+1) c 40 (by unfold maxLen;omega);rw[<-hG]at this;unfold maxLen at this;omega
 have hGi:¬(G=i):=by omega
 have hGim:¬(G=i+1):=by omega
 have hci:¬(c=i):=by omega
 have hbN:b≠w.heap.size:=by omega
 have hdl:(cs.drop (i*3)).length=(n-i)*3:=by rw[Bl,hcl,FH]
 have hcpB:∀(W:World),(∀x,W.cell? x=(W1.setCells w.heap.size (i*3) vs).cell? x)->(∀x,W.frozen? x=(W1.setCells w.heap.size (i*3) vs).frozen? x)->∀ty dc sc,(E5 #[32,32] ty #[.slice (some ⟨w.heap.size,(i+1)*3,none⟩) (n-i) dc,.slice (some ⟨b,i*3,none⟩) (n-i) sc]).run Aa W=.ok (goInt (n-i:Nat)) (W.setCells w.heap.size ((i+1)*3) (cs.drop (i*3))):=λW hWc hWf ty dc sc =>
  kX W _ _ ty 40 3 w.heap.size ((i+1)*3) (n-i) dc ⟨b,i*3,none⟩ (n-i) sc (cs.drop (i*3)) hu32 hz40 (n-i) (by simp only[Nat.min_def];split<;>omega) hdl
   (λj v hj=>by
    rw[Addr.add_lit,hWc,C5 _ _ _ _ _ (λh _=>absurd h hbN)];exact hOb _ v (hcs (i*3+j) v (by rwa [Bt]at hj)))
   (λj hj=>by rw[hWc];exact isSome_setCells _ _ _ _ (λt ht=>hN _ (by omega)) _ (hN _ (by omega)))
   (λj hj=>by rw[hWf,Fj];exact hNf _) (λv hv=>h1c v (CQ hv))
 subst hW1
 have hE1:∀x,((w.alloc (.cells ROW 40)).drew).cell? x=(w.drew.alloc (.cells ROW 40)).cell? x:=λx=>rfl
 have hE2:∀x,((w.alloc (.cells ROW 40)).drew).frozen? x=(w.drew.alloc (.cells ROW 40)).frozen? x:=λx=>rfl
 have hF1:∀x,(((w.alloc (.cells ROW 40)).drew.setCells w.heap.size (i*3) vs).drew).cell? x=((w.drew.alloc (.cells ROW 40)).setCells w.heap.size (i*3) vs).cell? x:=λx=>rfl
 have hF2:∀x,(((w.alloc (.cells ROW 40)).drew.setCells w.heap.size (i*3) vs).drew).frozen? x=((w.drew.alloc (.cells ROW 40)).setCells w.heap.size (i*3) vs).frozen? x:=λx=>rfl
 have hw1:Ag.wrap ((i:Int)+1)=(i:Int)+1:=by rw[IntKind.wrap_i64];omega
 have hb1:(0:Int)<=(i:Int)+1:=by omega
 have hin:i<=n:=by omega
 have htn:((i:Int)+1).toNat=i+1:=by omega
 have hb3:(i:Int)<=(n:Int):=by omega
 have hb5:(i:Int)<=(n:Int)+1:=by omega
 have D:Aside (n+1<=G/\(n+1)*3<=ROW.size/\∀j,j<i*3->ROW[j]? = cs[j]?):=⟨hGn,hRl,hRh⟩
 clear hkk hik hold hROW hG hRl hRh
 go_enter Fi,Gt
 go_wp2_with (first
  |(at_builtin;refine Dy _ rfl _ _ _ _ rfl _ _ rfl rfl _ _ (hrz _) ?_)
  |(at_builtin;refine wpList_copy_runI _ rfl _ _ 32 31 rfl _ _ rfl rfl (hcpA _ hE1 hE2 _ _) ?_)
  |(at_builtin;refine wpList_copy_runI _ rfl _ _ 32 32 rfl _ _ rfl rfl (hcpB _ (λ_=>rfl) (λ_=>rfl) _ _ _) ?_))
 go_region_law_o (refine step_copy_runI rfl _ _ 32 32 rfl (.slice (some ⟨w.heap.size,(i+1)*3,none⟩) (n-i) (G-(i+1))) (.slice (some ⟨b,i*3,none⟩) (n-i) (c-i)) (by simp[Act.eval,Eg]) (by simp[Act.eval,Eg]) (hcpB _ hF1 hF2 3 (G-(i+1)) (c-i)) ?_)
 go_wp2
 go_ret
 exact⟨G,ROW,D.out.1,D.out.2.1,D.out.2.2,rfl,rfl⟩
end Go.Proofs
end
section
open List renaming map_map->C,mapM_map->E
open Go Go.Am
namespace Go.Proofs
open Go.RowKit Go.Lib Go.Shelf
def aAs{P:Program}(w:World)(t e ty:TypeId)(z:Value)(ht:P.underlying t=some (.slice e))(hv:∀w,(zeroValue e).run P w=.ok z w)(zs:List Value)(b o n c:Nat)(hn:0<n)(hz:(BG z.cells n).toList=zs)(h1:∀v∈zs,v.oneCell'=true)
  (hc:∀j,j<zs.length->(w.cell? ⟨b,o+j,none⟩).isSome=true) (hf:∀j,j<zs.length->w.frozen? ⟨b,o+j,none⟩=false) :
  (Builtin.clear_ #[t] ty #[.slice (some ⟨b,o,none⟩) n c]).run P w=.ok (.tuple #[]) (w.setCells b o zs):=by
 have hst:=run_storeCells_cells (P:=P) b o zs 0 w (by simpa using hc) (by simpa using hf) h1
 simp only[Nat.add_zero]at hst
 obtain⟨m,rfl⟩:∃m,n=m+1:=⟨n-1,by omega⟩
 simp[Builtin.clear_,run_underlying ht,hv,hz,hst]
def Tryz.del_one(b n c i:Nat)(cs:List Value)(w:World)(hi:i<n)(hnc:n<=c)(hc63:c<=9223372036854775807)
  (hcl:cs.length=n*3) (hcs:∀j v,cs[j]? = some v->w.cell? ⟨b,j,none⟩=some v) (hfz:∀j,w.frozen? ⟨b,j,none⟩=false) (h1c:∀v∈cs,v.oneCell'=true) :
  Calls Aa 163 #[.slice (some ⟨b,0,none⟩) n c,.int .i64 i,.int .i64 ((i:Int)+1)] w λe w'=>∃zs:List Value,zs.length=3 /\
   e=.returned (.slice (some ⟨b,0,none⟩) (i+(n-(i+1))) c)/\w'=(w.drew.setCells b (i*3) (cs.drop ((i+1)*3))).setCells b ((i+(n-(i+1)))*3) zs:=by
 have mixed:(Aa).follows .mixedOrders=true:=by kernel_rfl
 have hi0:=Tryz.cellI_eq;have hz0:=Tryz.cellI_zero;have hzs:=Tryz.cellI_size;have hzb:=Tryz.cellI_bytes
 have hu32:(Aa).underlying 32=some (.slice 40):=by kernel_rfl
 have hz40:∀w,(Go.sizeOf 40).run Aa w=.ok 3 w:=Gs
 have hv40:∀w,(zeroValue 40).run Aa w=.ok (.agg #[.int .i64 0,.int .i64 0,.slice none 0 0]) w:=Tryz.zeroValue40
 obtain⟨news,hnews⟩:∃news,news=cs.drop ((i+1)*3):=⟨_,rfl⟩
 have hlen:news.length=(n-(i+1))*3:=by rw[hnews,Bl,hcl,FH]
 have hsp:∀j,j<n*3->(w.cell? ⟨b,j,none⟩).isSome=true:=λj hj=>by rw[hcs j _ (Ab (by omega))];rfl
 obtain⟨A,hA,hsrc⟩:∃A:Addr,(if c=i+1 then some (⟨b,0,none⟩:Addr)else some ⟨b,(i+1)*3,none⟩)=some A/\Hid (∀t u,news[t]? = some u->w.drew.cell? (A.add t)=some u):=by
  by_cases h:c=i+1
  ·refine⟨⟨b,0,none⟩,by simp[h],λt u hu=>?_⟩;have h0:news.length=0:=by rw[hlen];omega
   rw[Ff.1 h0]at hu;simp at hu
  ·refine⟨⟨b,(i+1)*3,none⟩,by simp[h],λt u hu=>?_⟩;rw[hnews,Bt]at hu;rw[Addr.add_lit];exact hcs _ u hu
 have s1:Hid (news.length=(n-(i+1))*3):=hlen
 have s2:Hid (∀u∈news,u.oneCell'=true):=λu hu=>h1c u (CQ (by rw[hnews]at hu;exact hu))
 have s3:Hid (∀t,t<news.length->(w.drew.cell? ⟨b,0+i*3+t,none⟩).isSome=true/\w.drew.frozen? ⟨b,0+i*3+t,none⟩=false):=λt ht=>⟨hsp _ (by omega),hfz _⟩
 obtain⟨W1,hW1⟩:∃W1,W1=w.drew.setCells b (0+i*3) news:=⟨_,rfl⟩
 have hzc:(EX #[.int .i64 0,.int .i64 0,.slice none 0 0]).cells.size=3:=by kernel_rfl
 obtain⟨zs,hzs',hzl,hz1⟩:∃zs,(BG (EX #[.int .i64 0,.int .i64 0,.slice none 0 0]).cells 1).toList=zs/\zs.length=3/\∀v∈zs,v.oneCell'=true:=by
  refine⟨_,rfl,by kernel_rfl,?_⟩;have h:(BG (EX #[.int .i64 0,.int .i64 0,.slice none 0 0]).cells 1).toList.all (·.oneCell')=true:=by kernel_rfl
  exact Ay.1 h
 have hcl2:∀ty,(Builtin.clear_ #[32] ty #[.slice (some ⟨b,(i+(n-(i+1)))*3,none⟩) (n-(i+(n-(i+1)))) (c-(i+(n-(i+1))))]).run Aa W1=.ok (.tuple #[]) (W1.setCells b ((i+(n-(i+1)))*3) zs) :=
  λty=>aAs W1 _ 40 ty _ hu32 hv40 zs b _ _ _ (by omega) (by rw[show n-(i+(n-(i+1)))=1 by omega];exact hzs') hz1
   (λt ht=>by rw[hW1];exact isSome_setCells b news _ w.drew (λj hj=>by rw[A6];exact hsp _ (by omega)) _ (hsp _ (by omega))) (λt ht=>by rw[hW1,Fj];exact hfz _)
 have X:Aside (W1=w.drew.setCells b (i*3) news/\zs.length=3/\news=cs.drop ((i+1)*3)):=⟨by rw[hW1,A6],hzl,hnews⟩
 have hW:Hid (W1=w.drew.setCells b (0+i*3) news):=hW1
 have hic:i<=c:=by omega
 have hjc:i+1<=c:=by omega
 have hin:i<=n:=by omega
 have hjn:i+1<=n:=by omega
 have hne:¬((i:Int)=(i:Int)+1):=by omega
 have hb1:(0:Int)<=(i:Int)+1:=by omega
 have htn:((i:Int)+1).toNat=i+1:=by omega
 have hb6:(i:Int)<=(i:Int)+1:=by omega
 have hb7:(i:Int)+1<=(n:Int):=by omega
 have hlc:¬(c=i+(n-(i+1))):=by omega
 clear hW1 hnews hlen hsp
 go_enter Tryz.func163,Tryz.ntmps163
 go_wp2_with fail
 go_region_law_o (refine step_append_room rfl (.tmp 22) (.tmp 25) 32 rfl 40 Tryz.cellI 3 hu32 hi0 hzs b 0 i c (by simp[Act.eval,Eg]) A (n-(i+1)) (c-(i+1)) news (by simp[Act.eval,Eg]) s1.out hsrc.out s2.out (by omega) s3.out ?_;rw[<-hW.out])
 go_wp2
 go_ret
 obtain⟨x1,x2,x3⟩:=X.out
 refine⟨zs,x2,rfl,?_⟩
 rw[<-x3,<-x1]
end Go.Proofs
end
section
open List renaming map_map->C,mapM_map->E
open Go Go.Am
namespace Go.Proofs
open Go.RowKit Go.Lib Go.Shelf
def At(w:World)(b:Nat)(L:List Value):Prop:=∀(j:Nat) v,L[j]? = some v->w.cell? ⟨b,j,none⟩=some v
def aDv{w:World}{b j:Nat}:w.cell? ⟨b,j,none⟩=match w.heap[b]? with
  |some (.cells c _ _)=>c[j]?
  |_=>none:=by
 unfold FA
 cases w.heap[b]? with
 |none=>rfl
 |some ob=>cases ob<;>rfl
def aLw(w:World)(b o B:Nat)(v:Value):Kept (·=b) B w (w.setCell ⟨b,o,none⟩ v):=by
 refine⟨rfl,rfl,rfl,by simp[World.setCell],λk _ hk=>?_,λk cur e _ hc=>?_⟩
 ·simp only[World.setCell];rw[Dx];rw[Ac (λe=>hk e.symm)]
 ·simp only[World.setCell];rw[Dx];by_cases h:b=k
  ·rw[Ad h,hc];exact⟨cur.setIfInBounds o v,rfl,by simp⟩
  ·rw[Ac h];exact⟨cur,hc,rfl⟩
def fL(b B:Nat):∀(vs:List Value) (o:Nat) (w:World),Kept (·=b) B w (w.setCells b o vs)
 |[],_,w=>Kept.refl _ _ w
 |v::r,o,w=>(aLw w b o B v).trans (fL b B r (o+1) _)
def pD(M:Nat->Prop)(B:Nat)(w:World):Kept M B w w.drew:=⟨rfl,rfl,rfl,Ap _,λ_ _ _=>rfl,λ_ cur _ _ h=>⟨cur,h,rfl⟩⟩
def xU(M:Nat->Prop)(w:World)(o:Obj)(B:Nat)(hB:B<=w.heap.size):Kept M B w (w.alloc o):=by
 have hg:∀k,k<B->(w.alloc o).heap[k]? = w.heap[k]? := λk hk=>by simp only[EO];rw[Dq,Ac (by omega)]
 exact⟨rfl,rfl,rfl,by simp only[EO,EA];omega,λk hk _=>hg k hk,λk cur e hk hc=>⟨cur,(hg k hk).trans hc,rfl⟩⟩
def aRt{M:Nat->Prop}{w w1 w2:World}{g:Nat}(h:Kept M w.heap.size w w1)(hg:w.heap.size<=g)(k:Kept (·=g) w.heap.size w1 w2):Kept M w.heap.size w w2 :=
 h.trans ⟨k.os,k.tape,k.output,k.size,λj hj _=>k.block j hj (by omega),k.shape⟩
def At.set{w:World}{b o:Nat}{vs L L':List Value}(hs:∀j,j<vs.length->(w.cell? ⟨b,o+j,none⟩).isSome=true)
  (h:∀(j:Nat) v,L'[j]? = some v->(o<=j/\j<o+vs.length/\vs[j-o]? = some v)\/((j<o\/o+vs.length<=j)/\w.cell? ⟨b,j,none⟩=some v)):At (w.setCells b o vs) b L':=λj v hj=>by
 rcases h j v hj with ⟨h1,h2,h3⟩|⟨h1,h2⟩
 ·have:=El b vs o w hs (j-o) (by omega)
  rw[show o+(j-o)=j by omega]at this
  rw[this,<-h3,Ab]
 ·rw[C5 b vs o w ⟨b,j,none⟩ λ_ _=>h1];exact h2
structure RdC(F:Nat->Prop)(w:World)(ds:List D)(vs:List Value):Prop where
 len:ds.length=vs.length
 el:∀(j:Nat) d v,ds[j]? = some d->vs[j]? = some v->VD F w d v
def RdC.app{F:Nat->Prop}{w:World}{d1 d2:List D}{v1 v2:List Value}(h1:RdC F w d1 v1)(h2:RdC F w d2 v2):RdC F w (d1++d2) (v1++v2):=by
 refine⟨by simp[h1.len,h2.len],λj d v hd hv=>?_⟩;rw[D9]at hd hv;rw[<-h1.len]at hv;split at hd
 ·rename_i h;rw[Ad h]at hv;exact h1.el j d v hd hv
 ·rename_i h;rw[Ac h]at hv;exact h2.el _ d v hd hv
def RdC.take{F:Nat->Prop}{w:World}{ds:List D}{vs:List Value}(h:RdC F w ds vs)(n:Nat):RdC F w (ds.take n) (vs.take n):=by
 refine⟨by simp[h.len],λj d v hd hv=>?_⟩;rw[Bb]at hd hv;split at hd
 ·rename_i hj;rw[Ad hj]at hv;exact h.el j d v hd hv
 ·cases hd
def RdC.drop{F:Nat->Prop}{w:World}{ds:List D}{vs:List Value}(h:RdC F w ds vs)(n:Nat):RdC F w (ds.drop n) (vs.drop n):=by refine⟨by simp[h.len],λj d v hd hv=>?_⟩;rw[Bt]at hd hv;exact h.el _ d v hd hv
def RdC.step{F F':Nat->Prop}{w w':World}{ds:List D}{vs:List Value}(h:RdC F w ds vs)(hF:∀b,F b->F' b)(hb:∀b,F b->w'.heap[b]? = w.heap[b]?):RdC F' w' ds vs:=⟨h.len,λj d v hd hv=>(h.el j d v hd hv).step hF hb⟩
def aBi{α:Type}{f:α->List D}{k:Nat}(h:∀x,(f x).length=k)(l:List α)(p:Nat)(hp:p<=l.length):flt f (l.take p)=(flt f l).take (p*k)/\flt f (l.drop p)=(flt f l).drop (p*k):=by
 have e:flt f l=flt f (l.take p)++flt f (l.drop p):=by rw[<-cX,CM]
 have hl:=bJ h (l.take p);rw[Ax,BR hp]at hl;rw[e];constructor
 ·rw[<-hl,List.take_left'];rfl
 ·rw[<-hl,List.drop_left'];rfl
def aEd{F:Nat->Prop}{w:World}{L:List Cl}{b c:Nat}{vs:List Value}(hF:F b)(hc:L.length<=c)(h:RdC F w (flt aN L) vs)(hat:At w b vs):VD F w (aE L) (.slice (some ⟨b,0,none⟩) L.length c):=by
 have hl:=bJ aX L;have hvl:=h.len;refine .sl _ ⟨b,0,none⟩ _ c 3 (λj=>vs.getD j (.bool false)) (by simp) hc (λcs hcs=>?_) hF (λj hj=>?_) λj k cs d hcs hd=>?_
 ·obtain⟨x,_,rfl⟩:=AA.1 hcs;rfl
 ·rw[oJ,A6];refine hat j _ ?_;rw[Af,Ab (by omega)];rfl
 ·rw[Aw]at hcs;obtain⟨x,hx,rfl⟩:=Option.map_eq_some_iff.1 hcs;have hk:k<3:=(Ah.1 hd).1;have hj:j<L.length:=(Ah.1 hx).1;have h1:=aDs aX L j k x hx hk;rw[hd]at h1;refine h.el (j*3+k) d _ h1 ?_;rw[Af,Ab (by omega)];rfl
def vP{F:Nat->Prop}{w:World}{L:List Cl}{vs:List Value}(h:RdC F w (flt aN L) vs):∀v∈vs,v.oneCell'=true:=λv hv=>by
 obtain⟨j,hj⟩:=FG hv;have hjl:j<(flt aN L).length:=by rw[h.len];exact(Ah.1 hj).1
 have hd:=Ab hjl;have hvd:=h.el j _ v hd hj;have hmem:=Ar hjl;generalize(flt aN L)[j]=d at hvd hmem;unfold flt at hmem;obtain⟨cs,hcs,hm⟩:=List.mem_flatten.1 hmem;obtain⟨x,_,rfl⟩:=AA.1 hcs;simp only[aN,AG,List.not_mem_nil,or_false]at hm;rcases hm with rfl|rfl|rfl
 ·cases hvd;rfl
 ·cases hvd;rfl
 ·obtain⟨ad,c,rfl,_⟩:=mQ hvd;rfl
def bAo{F:Nat->Prop}{w:World}{x:Cl}{v:Value}(h:VD F w (.sl [aN x]) v):∃(ad:Addr) (c:Nat) (xs:List Value),v=.slice (some ad) 1 c/\F ad.block/\xs.length=3/\RdC F w (aN x) xs/\(∀(j:Nat) u,xs[j]? = some u->w.cell? (ad.add j)=some u)/\∃t k,w.shape? ad.block=some (t,k)/\k≠0:=by
 cases h with
 |sl _ ad n c sz f hn hc hsz hF hcell hel =>
  have h3:sz=3:=(hsz (aN x) (List.mem_singleton_self _)).symm;subst h3;have hn1:n=1:=hn;subst hn1;refine⟨ad,c,[f 0,f 1,f 2],rfl,hF,rfl,⟨rfl,λj d u hd hu=>?_⟩,λj u hu=>?_,?_⟩
  ·have:=hel 0 j (aN x) d rfl hd;rw[Cn,A6]at this;match j,hu with
   |0,hu=>simp at hu;rw[<-hu];exact this
   |1,hu=>simp at hu;rw[<-hu];exact this
   |2,hu=>simp at hu;rw[<-hu];exact this
   |k+3,hu=>simp at hu
  ·match j,hu with
   |0,hu=>simp at hu;rw[<-hu];exact hcell 0 (by omega)
   |1,hu=>simp at hu;rw[<-hu];exact hcell 1 (by omega)
   |2,hu=>simp at hu;rw[<-hu];exact hcell 2 (by omega)
   |k+3,hu=>simp at hu
  ·have h0:=hcell 0 (by omega);have e0:ad.add 0=ad:=by unfold Addr.add;simp
   rw[e0]at h0;unfold FA at h0;unfold World.shape?;split at h0
   ·rename_i cs e fr hb;split at h0
    ·cases h0
    ·refine⟨e,cs.size,rfl,λhz=>?_⟩;rw[B6 (by omega)]at h0;cases h0
   ·cases h0
def aMu(c:List Cl)(p:Nat)(x:Cl):List Cl:=c.take p++x::c.drop p
def bKt{c:List Cl}{p:Nat}{x:Cl}(hp:p<=c.length):flt aN (aMu c p x)=(flt aN c).take (p*3)++(aN x++(flt aN c).drop (p*3)):=by obtain⟨h1,h2⟩:=aBi aX c p hp;rw[<-h1,<-h2];unfold aMu;rw[cX,show x::c.drop p=[x]++c.drop p from rfl,cX,cG]
def aMt{cs xs:List Value}{p:Nat}{j:Nat}{v:Value}(hp:p*3<=cs.length)(hx:xs.length=3)(h:(cs.take (p*3)++(xs++cs.drop (p*3)))[j]? = some v) :
  (j<p*3/\cs[j]? = some v)\/(p*3<=j/\j<p*3+3/\xs[j-p*3]? = some v)\/(p*3+3<=j/\(cs.drop (p*3))[j-(p+1)*3]? = some v/\j<cs.length+3):=by
 have hl:(cs.take (p*3)).length=p*3:=by rw[Ax];omega
 rw[D9,hl]at h
 split at h
 ·rename_i h1
  rw[Bb,Ad h1]at h
  exact .inl ⟨h1,h⟩
 ·rename_i h1
  rw[D9,hx]at h
  split at h
  ·exact .inr (.inl ⟨by omega,by omega,h⟩)
  ·rename_i h2
   rw[show j-p*3-3=j-(p+1)*3 by omega]at h
   have h3:=(Ah.1 h).1
   rw[Bl]at h3
   exact .inr (.inr ⟨by omega,h,by omega⟩)
def Tryz.insU{c:List Cl}{x:Cl}{p:Nat}(hp:p<=c.length)(hl:c.length<=1000000):aCl Aa 138 (.own 0 0 c.length 3) (some (.cells 40 ((flt aN c).map .d))) [.i .i64 p,.sl [aN x]] (aE (aMu c p x)):=by
 intro A W vs ι hA hι hob hlen hv0 hds;obtain⟨b,ob,hib,hob,hcr⟩:=hob _ rfl;obtain⟨_,hnA,hbW⟩:=hι 0 b hib;obtain⟨v0,hv0,hV0⟩:=hv0;have hsz:vs.size=3:=by simpa using hlen.symm
 obtain⟨v1,hv1⟩:∃v1,vs[1]? = some v1:=⟨vs[1],AD (by omega)⟩;obtain⟨v2,hv2⟩:∃v2,vs[2]? = some v2:=⟨vs[2],AD (by omega)⟩;have hvs:vs=#[v0,v1,v2]:=by
  apply DX;intro k;match k with
  |0=>simpa using hv0
  |1=>simpa using hv1
  |2=>simpa using hv2
  |k+3=>rw[B6 (by omega)];simp
 have h1:=hds 0 _ v1 rfl hv1;cases h1;obtain⟨va,vc,xs,rfl,hva,hxl,hxr,hxc,tA,kA,hsa,hkA⟩:=bAo (hds 1 _ v2 rfl hv2);cases hV0 with
 |own _ _ _ _ b' cap cur e hi' hb' hcap hlc hm =>
 rw[hib]at hi';injection hi' with hi';subst hi'
 rw[hob]at hb';injection hb' with hb';subst hb'
 cases hcr with
 |cells _ _ _ hle hcell =>
 subst hvs;have hfl:=bJ aX c;obtain⟨cs,hcs⟩:∃cs,cs=cur.toList.take (c.length*3):=⟨_,rfl⟩;have hcl:cs.length=c.length*3:=by rw[hcs,Ax];simp at hle ⊢;omega
 have hcg:∀j v,cs[j]? = some v->cur[j]? = some v:=λj v hj=>by
  rw[hcs,Bb]at hj;split at hj
  ·simpa using hj
  ·cases hj
 have hrd:RdC A W (flt aN c) cs:=by
  refine⟨by rw[hfl,hcl],λj d v hd hv=>?_⟩;obtain⟨u,hu,hV⟩:=hcell j (.d d) (by rw[Aw,hd];rfl);rw[hcg j v hv]at hu;injection hu with hu;subst hu
  cases hV with|d _ _ h=>exact h
 have hat:At W b cs:=λj v hj=>by rw[aDv,hob];exact hcg j v hj
 have hsp:∀j,j<cap*3->(W.cell? ⟨b,j,none⟩).isSome=true:=λj hj=>by rw[aDv,hob];simp only;rw[AD (by omega)];rfl
 have hfz:∀j,W.frozen? ⟨b,j,none⟩=false:=λj=>by simp only[World.frozen?,hob];simp
 have h1c:=vP hrd;have h1v:∀v∈xs,v.oneCell'=true:=vP (L:=[x]) (by rw[cG];exact hxr);have hab:va.block≠b:=λe=>hnA (e ▸ hva)
 have hsb:W.shape? b=some (40,cur.size):=by simp only[World.shape?,hob]
 have hm':cap<=9223372036854775807:=by unfold maxLen at hm;omega
 have hent:∀w,(callFunc 138 #[.slice (some ⟨b,0*3,none⟩) c.length cap,.int .i64 p,.slice (some va) 1 vc]).run Aa w=.ok (.enter 138 #[.slice (some ⟨b,0*3,none⟩) c.length cap,.int .i64 p,.slice (some va) 1 vc]) w :=
  enters_of Fi (by kernel_rfl) rfl _
 refine⟨hent,?_⟩;rw[Cn]
 -- what is to be shown of each road
 have hLl:(aMu c p x).length=c.length+1:=by unfold aMu;simp;omega
 have fin:∀(w':World) (g G:Nat),(g=b\/(W.heap.size<=g/\g<w'.heap.size))->c.length+1<=G->Kept (·=b) W.heap.size W w'->At w' g (cs.take (p*3)++(xs++cs.drop (p*3))) ->
   ∃v,Ending.returned (.slice (some ⟨g,0,none⟩) (c.length+1) G)=.returned v/\Kept (λk=>ι 0=some k) W.heap.size W w'/\VD (λk=>A k\/ι 0=some k\/(W.heap.size<=k/\k<w'.heap.size)) w' (aE (aMu c p x)) v:=λw' g G hg hG hk hat'=>by
  refine⟨_,rfl,⟨hk.os,hk.tape,hk.output,hk.size,λk hkB hne=>hk.block k hkB λe=>hne (by rw[e];exact hib),hk.shape⟩,?_⟩
  have hst:RdC (λk=>A k\/ι 0=some k\/(W.heap.size<=k/\k<w'.heap.size)) w' (flt aN (aMu c p x)) (cs.take (p*3)++(xs++cs.drop (p*3))):=by rw[bKt hp];exact((hrd.take _).app (hxr.app (hrd.drop _))).step (λ_ h=>.inl h) λk hk'=>hk.block k (hA k hk') λe=>hnA (e ▸ hk')
  rw[<-hLl]
  refine aEd (F:=λk=>A k\/ι 0=some k\/(W.heap.size<=k/\k<w'.heap.size)) ?_ (by omega) hst hat'
  rcases hg with rfl|hg
  ·exact .inr (.inl hib)
  ·exact .inr (.inr hg)
 have hp3:p*3<=cs.length:=by omega
 by_cases hend:p=c.length
 ·subst hend;by_cases hroom:c.length+1<=cap
  ·refine(Tryz.ins_end_room b c.length cap va vc xs W hroom hm' hxl (λj hj=>hsp _ (by omega)) (λj _=>hfz _) hxc h1v).mono ?_;rintro e' w' ⟨rfl,rfl⟩;refine fin _ b cap (.inl rfl) hroom (fL b _ xs _ W) (At.set (L:=cs) (λj hj=>hsp _ (by omega)) λj v hj=>?_);rcases aMt hp3 hxl hj with ⟨h1,h2⟩|⟨h1,h2,h3⟩|⟨h1,h2,h3⟩
   ·exact .inr ⟨.inl h1,hat j v h2⟩
   ·exact .inl ⟨h1,by omega,h3⟩
   ·omega
  ·refine(Tryz.ins_end_grow (some ⟨b,0,none⟩) c.length cap va vc cs xs W hlc (by omega) (by omega) hcl hxl (λe=>by cases e) (λa ha j v hj=>by injection ha with ha;subst ha;rw[oJ,A6];exact hat j v hj) hxc h1v).mono ?_;rintro e' w' ⟨rfl,rfl⟩;have hG:=grownCap_ge W (c.length+1) cap 40;refine fin _ W.heap.size _ (.inr ⟨Ap _,by simp only[EO,World.drew,EA];omega⟩) hG ((pD _ _ W).trans (xU _ W.drew _ _ (Ap _))) λj v hj=>?_
   rw[EN (w:=W.drew) _ _ W.heap.size j rfl];have e1:cs.take (c.length*3)++(xs++cs.drop (c.length*3))=cs++xs:=by rw[Ai (by omega),B8 (by omega),A7]
   rw[e1]at hj;have hjl:=(Ah.1 hj).1;rw[BJ (by simpa using hjl)];simpa using hj
 ·have hpi:p<c.length:=by omega
  by_cases hroom:c.length+1<=cap
  ·refine(Tryz.ins_shift b c.length cap p va vc cs xs W hpi hroom hm' hab hcl hxl hat (λj hj=>hsp _ (by omega)) hfz hxc h1c h1v tA 40 kA cur.size hsa hsb hkA (by omega)).mono ?_;rintro e' w' ⟨rfl,rfl⟩;have hdl:(cs.drop (p*3)).length=(c.length-p)*3:=by rw[Bl,hcl,FH]
   have hs1:∀k,k<cap*3->((W.drew.setCells b ((p+1)*3) (cs.drop (p*3))).cell? ⟨b,k,none⟩).isSome=true:=λk hk=>isSome_setCells b _ _ W.drew (λj hj=>hsp _ (by omega)) _ (hsp k hk)
   refine fin _ b cap (.inl rfl) hroom (((pD _ _ W).trans (fL b _ _ _ W.drew)).trans (fL b _ _ _ _)) (At.set (L:=cs) (λj hj=>hs1 _ (by omega)) λj v hj=>?_);rcases aMt hp3 hxl hj with ⟨h1,h2⟩|⟨h1,h2,h3⟩|⟨h1,h2,h3⟩
   ·refine .inr ⟨.inl h1,?_⟩;rw[C5 b _ _ W.drew ⟨b,j,none⟩ λ_ _=>.inl (show j<(p+1)*3 by omega)];exact hat j v h2
   ·exact .inl ⟨h1,by omega,h3⟩
   ·refine .inr ⟨.inr (by omega),?_⟩;have:=El b (cs.drop (p*3)) ((p+1)*3) W.drew (λj hj=>hsp _ (by omega)) (j-(p+1)*3) (by omega);rw[show(p+1)*3+(j-(p+1)*3)=j by omega]at this;rw[this,<-h2,Ab]
  ·refine(Tryz.ins_grow b c.length cap p va vc cs xs W hpi hlc (by omega) (by omega) hcl hxl hbW (hA _ hva) hat hxc h1c h1v).mono ?_;rintro e' w' ⟨G,ROW,hG,hR1,hR2,rfl,rfl⟩;have hdl:(cs.drop (p*3)).length=(c.length-p)*3:=by rw[Bl,hcl,FH]
   have hs0:∀k,k<(c.length+1)*3->((W.alloc (.cells ROW 40)).drew.cell? ⟨W.heap.size,k,none⟩)=ROW[k]? := λk hk=>EN (w:=W) ROW _ W.heap.size k rfl
   have hs1:∀k,k<(c.length+1)*3->((W.alloc (.cells ROW 40)).drew.cell? ⟨W.heap.size,k,none⟩).isSome=true:=λk hk=>by rw[hs0 k hk,AD (by omega)];rfl
   have hs2:∀k,k<(c.length+1)*3->((((W.alloc (.cells ROW 40)).drew.setCells W.heap.size (p*3) xs).drew).cell? ⟨W.heap.size,k,none⟩).isSome=true:=λk hk=>isSome_setCells _ _ _ _ (λj hj=>hs1 _ (by omega)) _ (hs1 k hk)
   have hsize:W.heap.size<(((W.alloc (.cells ROW 40)).drew.setCells W.heap.size (p*3) xs).drew.setCells W.heap.size ((p+1)*3) (cs.drop (p*3))).heap.size:=by
    have h1:=(fL W.heap.size 0 xs (p*3) (W.alloc (.cells ROW 40)).drew).size;have h2:=(fL W.heap.size 0 (cs.drop (p*3)) ((p+1)*3) ((W.alloc (.cells ROW 40)).drew.setCells W.heap.size (p*3) xs).drew).size;have h3:W.heap.size<(W.alloc (.cells ROW 40)).heap.size:=by simp only[EO,EA];omega
    exact E8 (E8 h3 h1) h2
   have k1:Kept (·=b) W.heap.size W (W.alloc (.cells ROW 40)).drew:=(xU _ W _ _ (Ap _)).trans (pD _ _ _);have k2:=aRt k1 (Ap W.heap.size) (fL W.heap.size _ xs (p*3) _);have k3:=aRt (k2.trans (pD _ _ _)) (Ap W.heap.size) (fL W.heap.size _ (cs.drop (p*3)) ((p+1)*3) _);refine fin _ W.heap.size G (.inr ⟨Ap _,hsize⟩) hG k3 (At.set (L:=cs) (λj hj=>hs2 _ (by omega)) λj v hj=>?_);rcases aMt hp3 hxl hj with ⟨h1,h2⟩|⟨h1,h2,h3⟩|⟨h1,h2,h3⟩
   ·refine .inr ⟨.inl (by omega),?_⟩;have:=C5 W.heap.size xs (p*3) (W.alloc (.cells ROW 40)).drew ⟨W.heap.size,j,none⟩ λ_ _=>.inl h1
    refine F7 this ?_;rw[hs0 j (by omega),hR2 j h1];exact h2
   ·refine .inr ⟨.inl (by omega),?_⟩;have:=El W.heap.size xs (p*3) (W.alloc (.cells ROW 40)).drew (λj hj=>hs1 _ (by omega)) (j-p*3) (by omega);rw[show p*3+(j-p*3)=j by omega]at this;refine F7 this ?_;rw[<-h3,Ab]
   ·refine .inl ⟨by omega,by omega,h2⟩
def Tryz.insU0{x:Cl}:aCl Aa 138 (.fd []) none [.i .i64 (0:Nat),.sl [aN x]] (aE [x]):=by
 intro A W vs ι hA hι _ hlen hv0 hds;obtain⟨v0,hv0,hV0⟩:=hv0;have hsz:vs.size=3:=by simpa using hlen.symm
 obtain⟨v1,hv1⟩:∃v1,vs[1]? = some v1:=⟨vs[1],AD (by omega)⟩;obtain⟨v2,hv2⟩:∃v2,vs[2]? = some v2:=⟨vs[2],AD (by omega)⟩;have hvs:vs=#[v0,v1,v2]:=by
  apply DX;intro k;match k with
  |0=>simpa using hv0
  |1=>simpa using hv1
  |2=>simpa using hv2
  |k+3=>rw[B6 (by omega)];simp
 have h1:=hds 0 _ v1 rfl hv1;cases h1;obtain⟨va,vc,xs,rfl,hva,hxl,hxr,hxc,_⟩:=bAo (hds 1 _ v2 rfl hv2);obtain⟨ad,rfl⟩:∃ad,v0=.slice ad 0 0:=by
  cases hV0 with
  |fd _ ad n h =>
   cases h with
   |sl0=>exact⟨ad,rfl⟩
   |sl _ ad n c sz f hn=>simp at hn;subst hn;exact⟨_,rfl⟩
 subst hvs;have h1v:∀v∈xs,v.oneCell'=true:=vP (L:=[x]) (by rw[cG];exact hxr);have hent:∀w,(callFunc 138 #[.slice ad 0 0,.int .i64 (0:Nat),.slice (some va) 1 vc]).run Aa w=.ok (.enter 138 #[.slice ad 0 0,.int .i64 (0:Nat),.slice (some va) 1 vc]) w :=
  enters_of Fi (by kernel_rfl) rfl _
 refine⟨hent,?_⟩;refine(Tryz.ins_end_grow ad 0 0 va vc [] xs W (Ap _) (by omega) (by omega) rfl hxl (λ_=>rfl) (λa _ j v hj=>by simp at hj) hxc h1v).mono ?_;rintro e' w' ⟨rfl,rfl⟩;have hG:=grownCap_ge W (0+1) 0 40;have hk:Kept (λb=>ι 0=some b) W.heap.size W (W.drew.alloc (.cells (([]++xs).toArray++BG (EX #[.int .i64 0,.int .i64 0,.slice none 0 0]).cells (grownCap W (0+1) 0 40-(0+1))) 40)):=(pD _ _ W).trans (xU _ W.drew _ _ (Ap _));refine⟨_,rfl,hk,?_⟩;refine aEd (L:=[x]) (vs:=xs) (.inr (.inr ⟨Ap _,by simp only[EO,World.drew,EA];omega⟩)) hG ?_ λj v hj=>?_
 ·rw[cG];exact hxr.step (λ_ h=>.inl h) λk hk'=>hk.block k (hA k hk') λe=>(hι 0 k e).2.1 hk'
 ·rw[EN (w:=W.drew) _ _ W.heap.size j rfl];have hjl:=(Ah.1 hj).1;rw[BJ (by simpa using hjl)];simpa using hj
def Tryz.delU{c:List Cl}{p:Nat}(hp:p<c.length)(hl:c.length<=1000000):aCl Aa 163 (.own 0 0 c.length 3) (some (.cells 40 ((flt aN c).map .d))) [.i .i64 p,.i .i64 ((p:Int)+1)] (aE (c.take p++c.drop (p+1))):=by
 intro A W vs ι hA hι hob hlen hv0 hds;obtain⟨b,ob,hib,hob,hcr⟩:=hob _ rfl;obtain⟨_,hnA,hbW⟩:=hι 0 b hib;obtain⟨v0,hv0,hV0⟩:=hv0;have hsz:vs.size=3:=by simpa using hlen.symm
 obtain⟨v1,hv1⟩:∃v1,vs[1]? = some v1:=⟨vs[1],AD (by omega)⟩;obtain⟨v2,hv2⟩:∃v2,vs[2]? = some v2:=⟨vs[2],AD (by omega)⟩;have hvs:vs=#[v0,v1,v2]:=by
  apply DX;intro k;match k with
  |0=>simpa using hv0
  |1=>simpa using hv1
  |2=>simpa using hv2
  |k+3=>rw[B6 (by omega)];simp
 have h1:=hds 0 _ v1 rfl hv1;cases h1;have h2:=hds 1 _ v2 rfl hv2;cases h2;cases hV0 with
 |own _ _ _ _ b' cap cur e hi' hb' hcap hlc hm =>
 rw[hib]at hi';injection hi' with hi';subst hi'
 rw[hob]at hb';injection hb' with hb';subst hb'
 cases hcr with
 |cells _ _ _ hle hcell =>
 subst hvs;have hfl:=bJ aX c;obtain⟨cs,hcs⟩:∃cs,cs=cur.toList.take (c.length*3):=⟨_,rfl⟩;have hcl:cs.length=c.length*3:=by rw[hcs,Ax];simp at hle ⊢;omega
 have hcg:∀j v,cs[j]? = some v->cur[j]? = some v:=λj v hj=>by
  rw[hcs,Bb]at hj;split at hj
  ·simpa using hj
  ·cases hj
 have hrd:RdC A W (flt aN c) cs:=by
  refine⟨by rw[hfl,hcl],λj d v hd hv=>?_⟩;obtain⟨u,hu,hV⟩:=hcell j (.d d) (by rw[Aw,hd];rfl);rw[hcg j v hv]at hu;injection hu with hu;subst hu
  cases hV with|d _ _ h=>exact h
 have hat:At W b cs:=λj v hj=>by rw[aDv,hob];exact hcg j v hj
 have hsp:∀j,j<cap*3->(W.cell? ⟨b,j,none⟩).isSome=true:=λj hj=>by rw[aDv,hob];simp only;rw[AD (by omega)];rfl
 have hfz:∀j,W.frozen? ⟨b,j,none⟩=false:=λj=>by simp only[World.frozen?,hob];simp
 have h1c:=vP hrd;have hm':cap<=9223372036854775807:=by unfold maxLen at hm;omega
 have hent:∀w,(callFunc 163 #[.slice (some ⟨b,0*3,none⟩) c.length cap,.int .i64 p,.int .i64 ((p:Int)+1)]).run Aa w=.ok (.enter 163 #[.slice (some ⟨b,0*3,none⟩) c.length cap,.int .i64 p,.int .i64 ((p:Int)+1)]) w :=
  enters_of Tryz.func163 (by kernel_rfl) rfl _
 refine⟨hent,?_⟩;rw[Cn];refine(Tryz.del_one b c.length cap p cs W hp hlc hm' hcl hat hfz h1c).mono ?_;rintro e' w' ⟨zs,hzl,rfl,rfl⟩;have hdl:(cs.drop ((p+1)*3)).length=(c.length-(p+1))*3:=by rw[Bl,hcl,FH]
 have hk:Kept (·=b) W.heap.size W ((W.drew.setCells b (p*3) (cs.drop ((p+1)*3))).setCells b ((p+(c.length-(p+1)))*3) zs):=((pD _ _ W).trans (fL b _ _ _ W.drew)).trans (fL b _ _ _ _);refine⟨_,rfl,⟨hk.os,hk.tape,hk.output,hk.size,λk hkB hne=>hk.block k hkB λe=>hne (by rw[e];exact hib),hk.shape⟩,?_⟩;have hLl:(c.take p++c.drop (p+1)).length=p+(c.length-(p+1)):=by rw[Ak,Ax,Bl];omega
 have hff:flt aN (c.take p++c.drop (p+1))=(flt aN c).take (p*3)++(flt aN c).drop ((p+1)*3):=by rw[cX,(aBi aX c p (by omega)).1,(aBi aX c (p+1) (by omega)).2]
 have hs1:∀k,k<cap*3->((W.drew.setCells b (p*3) (cs.drop ((p+1)*3))).cell? ⟨b,k,none⟩).isSome=true:=λk hk=>isSome_setCells b _ _ W.drew (λj hj=>hsp _ (by omega)) _ (hsp k hk)
 have fin:VD (λk=>A k\/ι 0=some k\/(W.heap.size<=k/\k<((W.drew.setCells b (p*3) (cs.drop ((p+1)*3))).setCells b ((p+(c.length-(p+1)))*3) zs).heap.size)) ((W.drew.setCells b (p*3) (cs.drop ((p+1)*3))).setCells b ((p+(c.length-(p+1)))*3) zs) (aE (c.take p++c.drop (p+1))) (.slice (some ⟨b,0,none⟩) (c.take p++c.drop (p+1)).length cap):=?_
 ·rw[hLl]at fin;exact fin
 refine aEd (.inr (.inl hib)) (by omega) (vs:=cs.take (p*3)++cs.drop ((p+1)*3)) ?_ (At.set (L:=cs) (vs:=zs) (o:=(p+(c.length-(p+1)))*3) (λj hj=>hs1 _ (by omega)) λj v hj=>.inr ?_)
 ·rw[hff];exact((hrd.take _).app (hrd.drop _)).step (λ_ h=>.inl h) λk hk'=>hk.block k (hA k hk') λe=>hnA (e ▸ hk')
 ·have htl:(cs.take (p*3)).length=p*3:=by rw[Ax];omega
  have hj2:=(Ah.1 hj).1;rw[Ak,htl,hdl]at hj2;refine⟨.inl (by omega),?_⟩;rw[D9,htl]at hj;split at hj
  ·rename_i h1;rw[C5 b _ _ W.drew ⟨b,j,none⟩ λ_ _=>.inl h1];rw[Bb,Ad h1]at hj;exact hat j v hj
  ·rename_i h1;have:=El b (cs.drop ((p+1)*3)) (p*3) W.drew (λj hj=>hsp _ (by omega)) (j-p*3) (by omega);rw[show p*3+(j-p*3)=j by omega]at this;rw[this,<-hj,Ab]
def Tryz.clone_nil(ad:Option Addr)(cp:Nat)(w:World):Calls Aa 139 #[.slice ad 0 cp] w λe w'=>∃ad',e=.returned (.slice ad' 0 0)/\Below w.heap.size w w':=by
 have mixed:(Aa).follows .mixedOrders=true:=by kernel_rfl
 have hu32:(Aa).underlying 32=some (.slice 40):=by kernel_rfl
 have hi0:=Tryz.cellI_eq;have hzs:=Tryz.cellI_size;have q22:∀(w:World) (a:Option Addr) (n c n' c':Nat),(binOp .eql 32 (.slice a n c) (.slice none n' c')).run Aa w=.ok (.bool a.isNone) w:=λw a n c n' c'=>Lib.run_eql_slice_nil w _ _ a n c n' c' hu32
 cases ad with
 |none =>
  go_enter Tryz.func139,Tryz.ntmps139
  go_wp2
  go_ret
  exact⟨none,rfl,Below.refl _ _⟩
 |some a =>
  have hrun:∀(W:World) ty,(BT #[32,32] ty #[.slice (some ⟨w.heap.size,0,none⟩) 0 0,.slice (some a) 0 cp]).run Aa W=.ok (.slice (some ⟨w.heap.size,0,none⟩) 0 0) W:=λW ty=>by
   have hl:(loadCells a 0).run Aa W=.ok #[] W:=by simpa using run_loadCells_list (P:=Aa) W a [] (by simp)
   simp[BT,run_underlying hu32,sizeOf,typeInfo,hi0,Fv,C8,hl,storeCells]
  go_enter Tryz.func139,Tryz.ntmps139
  go_wp2_with (at_builtin;refine Dy _ rfl _ _ _ _ rfl _ _ rfl rfl _ _ (hrun _ _) ?_)
  go_ret
  exact⟨_,rfl,(Below.refl _ w).alloc (Ap _) _⟩
def Tryz.cloneX0:pX Aa 139 [aE []] (λ_=>.fd []) (λ_=>[]):=by
 intro A W vs hA hl hv;have hsz:vs.size=1:=by simpa using hl.symm
 obtain⟨v0,hv0⟩:∃v0,vs[0]? = some v0:=⟨vs[0],AD (by omega)⟩;have hvs:vs=#[v0]:=by
  apply DX;intro k;match k with
  |0=>simpa using hv0
  |k+1=>rw[B6 (by omega)];simp
 have h0:VD A W (.sl []) v0:=hv 0 _ v0 rfl hv0;obtain⟨ad,cp,rfl⟩:∃ad cp,v0=.slice ad 0 cp:=by obtain⟨ad,cp,e,_⟩:=mQ h0;exact⟨ad,cp,e⟩
 subst hvs;refine⟨enters_of Tryz.func139 (by kernel_rfl) rfl _,?_⟩;refine(Tryz.clone_nil ad cp W).mono ?_;rintro e w' ⟨ad',rfl,hb⟩;refine⟨_,rfl,hb,λm hm=>⟨A,λ_=>none,λb h=>.inl h,.fd [] ad' 0 (.sl0 _ _),λid=>⟨λ⟨b,h⟩=>(by cases h),λh=>(by simp at h;omega)⟩,λid b h=>(by cases h),λi o b h=>(by simp at h),λid id' b h=>(by cases h)⟩⟩
end Go.Proofs
end
section
open List renaming map_map->C,mapM_map->E
open Go Go.Am Go.Proofs
namespace Go.Am
def bUv{c:List Cl}{l:Ch}{i:Nat}(h:i<l.length):bdL c (l.take (i+1))=bdL c (l.take i)++mulR l[i].2 (bOf c l[i].1):=by unfold bdL;rw[AM,Ab h,E1];simp
def aEk(m a b:Ch):fF m (a++b)=fF (fF m a) b:=by unfold fF;rw[List.foldl_append]
def bCw{k:Int}{l:Ch}{j:Nat}(h:j<l.length):mulR k (l.take (j+1))=mulR k (l.take j)++[(l[j].1,k*l[j].2)]:=by unfold mulR;rw[AM,Ab h,Bu];rfl
def bPl{c:List Cl}{l:Ch}:(fF [] (bdL c l)=[])↔bdX c l=[]:=by
 obtain⟨h1,h2⟩:=yA (bdL c l) [] Mp.nil;obtain⟨h3,h4⟩:=cS (bdL c l) [] Val.nil;constructor
 ·intro h;refine h3.ext Val.nil λn=>?_
  have:=h2 n;rw[h]at this;rw[h4,<-this]
 ·intro h;cases q:fF [] (bdL c l)with
  |nil=>rfl
  |cons x m =>
   exfalso;have hx:getM (fF [] (bdL c l)) x.1≠0:=aSk h1 (by rw[q];simp);rw[h2 x.1,<-h4 x.1]at hx;have h':cF [] (bdL c l)=[]:=h;rw[h']at hx;exact hx rfl
def bBi(z:Int):(if strip (aU z.natAbs)=[]then(0:Int)else if decide (z<0)=true then -1 else 1)=z.sign:=by
 have hc:=qF (lF z.natAbs);by_cases h:strip (aU z.natAbs)=[]
 ·rw[Ad h];rw[hc]at h;have:=fP.1 h;have hz:z=0:=by omega
  subst hz;rfl
 ·rw[Ac h];have h0:z≠0:=λe=>h (by rw[hc,fP,e];rfl)
  by_cases h2:z<0
  ·rw[Bx h2,Ad rfl,CU h2]
  ·have:¬decide (z<0)=true:=by simpa using h2
   rw[Ac this,Dk (by omega)]
def bMh{c:List Cl}{l:Ch}{e f0:Nat}(hc:Inc c)(hz:SzX e c)(hl:l.length<=100)(hb:Bnd (2^f0) l)(hef:e+f0+20<4398046511104):Spec Aa 136 [aE c,aK l] (.b (decide (bdX c l=[]))):=by
 have hcl:=hz.len;refine bF (N:=59) Tryz.func136 ?_;have hSz:∀z:Int,z.natAbs<=2^(14+(e+f0))->Sz z:=λz h=>szE h (by omega)
 have hbdl:∀i,(bdL c (l.take i)).length<=10000/\Bnd (2^(e+f0)) (bdL c (l.take i)):=λi=>bNk hz (by rw[Ax];omega) hb.take
 simp[-C,-E,↓KW,aE,aK];refine aP (λi:Nat=>i<=l.length) (λi=>StL [(0,.d (aE c)),(5,.mp 1),(14,.d (aK l)),(15,.d (.i .i64 l.length)),(16,.d (.i .i64 (i:Int)))] none [.map .i64 (iJ (fF [] (bdL c (l.take i))))]) (λi=>l.length-i) 0 (Al _) ?_ ?_
 ·refine wkQ [1] ?_ ?_
  ·simp[-C,upd,aO,Γ0,aE,aK]
  ·exact⟨⟨_,by simp[dU];rfl,lI []⟩,trivial⟩
 ·intro i hi;by_cases hgo:i<l.length
  ·have q1:(i:Int)<l.length:=by omega
   have hx:l[i]? = some l[i]:=Ab hgo;have hw:Ag.wrap ((i:Int)+1)=(i:Int)+1:=aV;have hon:=bUv (c:=c) hgo;have hfb:=hb _ (Ar hgo);have hM0:=hbdl i;refine exE l[i] λf hue=>?_
   rw[hue]at hx hon hfb;refine exE (bdL c (l.take i)) λL hLe=>?_
   rw[hLe]at hon hM0;simp only[hLe];have hfe:eL f=[.i .i64 f.1,.b (decide (f.2<0)),aM (aU f.2.natAbs)]:=rfl;have hF:=sQ hc f.1 (by omega);have hfs:Sz f.2:=szE hfb (by omega);have hbo:bOf c f.1=((bG c f.1).getD lA).b:=rfl;have hzl:=nQ hz.bl f.1;have hzb:=mN hz.bb f.1;rw[hbo]at hon hzl hzb;unfold oT at hF;refine exE ((bG c f.1).getD lA) λz hze=>?_
   refine exE ((bG c f.1).isSome) λp hpe=>?_
   rw[hze]at hon hzl hzb;rw[hze,hpe]at hF;simp[-C,-E,↓KW,aE,aK,q1,hx,hfe,aC,aA,aB,aF,aD,aG];refine aJ hF ?_;simp[-C,-E,↓KW,aE,aK,aR,aC,aA,aB,aF,aD,aG];refine aP (λj:Nat=>j<=z.b.length) (λj=>StL [(0,.d (aE c)),(5,.mp 1),(7,.ptr 2 0),(14,.d (aK l)),(15,.d (.i .i64 l.length)),(16,.d (.i .i64 (i:Int))),(28,.d (aK z.b)),(29,.d (.i .i64 z.b.length)),(30,.d (.i .i64 (j:Int)))] none [.map .i64 (iJ (fF (fF [] L) (mulR f.2 (z.b.take j)))),.cells 75 [.d (.i .i64 f.1),.d (.b (decide (f.2<0))),.d (aM (aU f.2.natAbs))]]) (λj=>z.b.length-j) 0 (Al _) ?_ ?_
   ·refine wkQ [1,2] ?_ ?_
    ·simp[-C,upd,aO,Γ0,aE,aK]
    ·simp[-C,upd,aO,Γ0,aE,aK,jG,mulR,fF]
   ·intro j hj;by_cases hgo2:j<z.b.length
    ·have q2:(j:Int)<z.b.length:=by omega
     have hg:z.b[j]? = some z.b[j]:=Ab hgo2;have hw2:Ag.wrap ((j:Int)+1)=(j:Int)+1:=aV;have hgb:=hzb _ (Ar hgo2);have hmt:=bCw (k:=f.2) hgo2;refine exE z.b[j] λg hge=>?_
     rw[hge]at hg hgb hmt;have hgs:Sz g.2:=szE hgb (by omega);have hge2:eL g=[.i .i64 g.1,.b (decide (g.2<0)),aM (aU g.2.natAbs)]:=rfl;have hnx:fF (fF [] L) (mulR f.2 (z.b.take (j+1)))=jZ (fF (fF [] L) (mulR f.2 (z.b.take j))) g.1 (f.2*g.2):=by rw[hmt,aEk];rfl
     have hmb:Bnd (2^(14+(e+f0))) (fF (fF [] L) (mulR f.2 (z.b.take j))):=by rw[<-aEk];have h1:=rB (L++mulR f.2 (z.b.take j)) [] (Bnd.nil 0) (K:=2^(e+f0)) (hM0.2.app (by rw[CB e f0,<-pG];exact pI hfb hzb.take));refine h1.mono ?_;rw[A6];refine tW ?_;rw[Ak,yV,Ax];have:=hM0.1;omega
     have hgm:=hSz _ (vY hmb g.1);have hpb:(f.2*g.2).natAbs<=2^(e+f0):=by rw[Int.natAbs_mul,CB e f0,<-pG];exact Nat.mul_le_mul hfb hgb
     have hps:Sz (f.2*g.2):=szE hpb (by omega);have hMul:=aMr f.2 g.2 hfs hgs;have hml:=xL (fF (fF [] L) (mulR f.2 (z.b.take j))) g.1;have hz0:¬(fnd g.1 (fF (fF [] L) (mulR f.2 (z.b.take j)))).isSome=true->getM (fF (fF [] L) (mulR f.2 (z.b.take j))) g.1=0:=λh=>by
      unfold getM;cases hf:fnd g.1 (fF (fF [] L) (mulR f.2 (z.b.take j)))with
      |none=>rfl
      |some j=>rw[hf]at h;exact(h rfl).elim
     refine exE (fF (fF [] L) (mulR f.2 (z.b.take j))) λm hme=>?_
     rw[hme]at hnx hgm hml hz0;simp only[hme];have hAdd:=aMs (getM m g.1) (f.2*g.2) hgm hps;have hSg:=aDo (decide (getM m g.1+f.2*g.2<0)) (aU (getM m g.1+f.2*g.2).natAbs) (sP hgm hps);have hss:=bBi (getM m g.1+f.2*g.2);rw[hss]at hSg;refine exE (getM m g.1+f.2*g.2) λs hse=>?_
     refine exE (f.2*g.2) λp2 hpe2=>?_
     rw[hpe2]at hMul hse hnx;rw[hpe2,hse]at hAdd hSg;by_cases hsm:(fnd g.1 m).isSome=true
     ·rw[Ad hsm]at hml;simp[-C,-E,↓KW,aE,aK,q2,hg,hge2,cC,hml,aBl,aC,aA,aB,aF,aD,aG];refine aJ hMul ?_;simp[-C,-E,↓KW,aE,aK,aY,aF,aD,aG];refine aJ hAdd ?_;simp[-C,-E,↓KW,aE,aK,aY,aF,aD,aG];refine aJ hSg ?_;by_cases hs0:s=0
      ·have hsg':((s.sign==0):Bool)=true:=by rw[hs0];rfl
       have e2:jZ m g.1 p2=wQ m g.1:=by unfold jZ;rw[Ad (by rw[hse];exact hs0)]
       rw[e2]at hnx;simp[-C,-E,↓KW,hsg',cI,vX,hw2];refine aI (j+1) hgo2 (AF hgo2 (AK _)) ?_;rw[hnx];refine wkQ [1,2] ?_ ?_
       ·simp[-C,upd,aO,Γ0,aE,aK]
       ·simp[-C,upd,aO,Γ0,aE,aK,jG]
      ·have hsg':((s.sign==0):Bool)=false:=by simpa using hs0
       have e2:jZ m g.1 p2=wO m g.1 s:=by unfold jZ;rw[hse,Ac hs0]
       rw[e2]at hnx;have e3:=vU m g.1 s;unfold aBl at e3;simp[-C,-E,↓KW,hsg',cI,e3,hw2,aY,aD,aF,aG];refine aI (j+1) hgo2 (AF hgo2 (AK _)) ?_;rw[hnx];refine wkQ [1,2] ?_ ?_
       ·simp[-C,upd,aO,Γ0,aE,aK]
       ·simp[-C,upd,aO,Γ0,aE,aK,jG]
     ·rw[Ac hsm]at hml;have h0:=hz0 hsm;simp[-C,-E,↓KW,aE,aK,q2,hg,hge2,cC,hml,cv,aC,aA,aB,aF,aD,aG];refine aJ hMul ?_;simp[-C,-E,↓KW,aE,aK,aY,aF,aD,aG];refine bK (ds:=[encZ (getM m g.1),encZ p2]) (by rw[h0,aKg];rfl) hAdd ?_;simp[-C,-E,↓KW,aE,aK,aY,aF,aD,aG];refine aJ hSg ?_;by_cases hs0:s=0
      ·have hsg':((s.sign==0):Bool)=true:=by rw[hs0];rfl
       have e2:jZ m g.1 p2=wQ m g.1:=by unfold jZ;rw[Ad (by rw[hse];exact hs0)]
       rw[e2]at hnx;simp[-C,-E,↓KW,hsg',cI,vX,hw2];refine aI (j+1) hgo2 (AF hgo2 (AK _)) ?_;rw[hnx];refine wkQ [1,2] ?_ ?_
       ·simp[-C,upd,aO,Γ0,aE,aK]
       ·simp[-C,upd,aO,Γ0,aE,aK,jG]
      ·have hsg':((s.sign==0):Bool)=false:=by simpa using hs0
       have e2:jZ m g.1 p2=wO m g.1 s:=by unfold jZ;rw[hse,Ac hs0]
       rw[e2]at hnx;have e3:=vU m g.1 s;unfold aBl at e3;simp[-C,-E,↓KW,hsg',cI,e3,hw2,aY,aD,aF,aG];refine aI (j+1) hgo2 (AF hgo2 (AK _)) ?_;rw[hnx];refine wkQ [1,2] ?_ ?_
       ·simp[-C,upd,aO,Γ0,aE,aK]
       ·simp[-C,upd,aO,Γ0,aE,aK,jG]
    ·have q2:¬(j:Int)<z.b.length:=by omega
     have hfin:fF (fF [] L) (mulR f.2 z.b)=fF [] (bdL c (l.take (i+1))):=by rw[hon,aEk]
     rw[Ai (by omega),hfin];simp[-C,-E,↓KW,aE,aK,q2,hw];refine aI (i+1) hgo (slQ hgo) (wkQ [1] ?_ ?_)
     ·simp[-C,upd,aO,Γ0,aE,aK]
     ·simp[-C,upd,aO,Γ0,aE,aK,jG]
  ·have q1:¬(i:Int)<l.length:=by omega
   have e0:=bPl (c:=c) (l:=l);rw[Ai (by omega)];have hd:decide (bdX c l=[])=(((iJ (fF [] (bdL c l))).length:Int)==0):=by
    have:(iJ (fF [] (bdL c l))).length=(fF [] (bdL c l)).length:=by simp[iJ]
    rw[this];by_cases h:bdX c l=[]
    ·rw[e0.2 h];simp[h]
    ·have h2:fF [] (bdL c l)≠[]:=λx=>h (e0.1 x)
     rw[Bo h];symm;simp;exact h2
   rw[hd];simp[-C,-E,↓KW,aE,aK,q1]
end Go.Am
end
section
open List renaming map_map->C,mapM_map->E
namespace Go.Am
variable {P:Program}
def fI(t : TypeId)(x : Operand)(J : Nat -> AV)(n : Nat) : nev P (.makeInterface t x) J n = eO ((P.underlying t).bind λu => match u with
      |.interface _=>none
      |_=>(aAz (oev J x)).map λd=>.d (.iff t d)):=rfl
def bSz(t:TypeId)(d:D):inj (.iff t d)=.d (.iff t d):=rfl
def bKx(t:TypeId)(d:D):aO (.iff t d)=.d (.iff t d):=rfl
def bDi(H:Hp)(avs:List AV)(t:TypeId)(d:D):bS H avs (.iff t d)=fK H avs:=rfl
def aWu(t:TypeId)(d:D):fN (.d (.iff t d))=some [.d (.iff t d)]:=rfl
def bXm(x:D):aAz (.d x)=some x:=rfl
def bQv(cs:List AV):aAz (.ag cs)=(cs.mapM pDd).map .ag:=rfl
def cBa(x:D):pDd (.d x)=some x:=rfl
section
variable (dst:Option Tmp) (ty:TypeId) (pos:String) (after:Array Edge) (guard:Option (Nat×Bool)) (σ:St) (con:List Nat) (k:St->List Nat->Prop)
def gS(t:TypeId)(x:Operand)(d:Dm ((⟨dst,.makeInterface t x,ty,pos,after,guard⟩:Oper),k)):O1d P ⟨dst,.makeInterface t x,ty,pos,after,guard⟩ σ con k d=eG (nev P (.makeInterface t x) σ.J σ.n) (λp=>k ⟨bT σ.J dst p.1,jE σ.H σ.n p.2,cnt p.2 σ.n⟩ con) .mk:=dG rfl rfl
def bAx(P:Program)(x:AV)(name:String)(avs:List AV)(H:Hp)(k:List AV->D->Prop)(_:Dm k):Prop:=match x with
 |.d (.iff t d)=>match yX P t name with
  |some f=>∃ds r,fW H (.d d::avs)=some ds/\Spec P f ds r/\k (.d d::avs) r
  |none=>False
 |_=>False
def aCj{t:TypeId}{x:D}{f:FuncId}{name:String}{avs:List AV}{H:Hp}{k:List AV->D->Prop}{d:Dm k}{ds:List D}{r:D}(hm:yX P t name=some f)(h1:fW H (.d x::avs)=some ds)(h2:Spec P f ds r)(h3:k (.d x::avs) r):bAx P (.d (.iff t x)) name avs H k d:=by unfold bAx;simp only[hm];exact⟨ds,r,h1,h2,h3⟩
def aJk(t:Tmp)(name:String)(args:List Operand)(ts:Array TypeId)(d:Dm ((⟨dst,.call ⟨.invoke (.tmp t) name,args.toArray,ts⟩,ty,pos,after,guard⟩:Oper),k)):O1d P ⟨dst,.call ⟨.invoke (.tmp t) name,args.toArray,ts⟩,ty,pos,after,guard⟩ σ con k d =
  bAx P (σ.J t) name (args.map (oev σ.J)) σ.H (λavs r=>k ⟨bT σ.J dst (inj r),kill (bS σ.H avs r) σ.H,σ.n⟩ (bS σ.H avs r++con)) .mk:=by
 unfold O1d;simp only[O1,bAx]
 generalize σ.J t=x
 cases x with
 |d y =>
  cases y with
  |iff ty d=>cases yX P ty name<;>rfl
  |_=>rfl
 |_=>rfl
end
attribute [simp] fI bSz bKx bDi aWu bXm bQv cBa
end Go.Am
end
section
open List renaming map_map->C,mapM_map->E
open Go Go.Am Go.Proofs
namespace Go.Am
def fX(x:Cg):(bP x).length=8:=rfl
def pC(x:Cg):((bP x).map AV.d).all one=true:=rfl
def bAg{l:List Cl}(h0:l≠[])(hl:l.length<=1000000):pX Aa 139 [aE l] (λm=>.own m 0 l.length 3) (λ_=>[.cells 40 ((flt aN l).map .d)]):=by
 refine lZ (N:=8) bN Tryz.func139 rfl rfl rfl (by decide) (by kernel_rfl) (by kernel_rfl) (by simp) rfl ?_;obtain⟨x,r,rfl⟩:=DW h0;obtain⟨a,t,hE,hcond,hval,hlen⟩:∃a t,aE (x::r)=.sl (a::t)/\(a.length=3/\(∀x,x∈a->one (AV.d x)=true)/\∀x,x∈t->∀y,y∈x->one (AV.d y)=true)/\AQ AV.d a++(t.map (AQ AV.d)).flatten=(flt aN (x::r)).map .d/\t.length+1=(x::r).length:=by
  have h1:∀x:Cl,∀y∈aN x,one (AV.d y)=true:=λx y hy=>by have:=Ay.1 (eR x) (.d y) (AA.2 ⟨y,hy,rfl⟩);exact this
  refine⟨aN x,r.map aN,rfl,⟨rfl,h1 x,λz hz y hy=>?_⟩,?_,by simp⟩
  ·obtain⟨w,_,rfl⟩:=AA.1 hz;exact h1 w y hy
  ·simp[flt,DB]
 have hall:∀y,y∈flt aN (x::r)->one (AV.d y)=true:=λy hy=>Ay.1 (dB eR (x::r)) (.d y) (AA.2 ⟨y,hy,rfl⟩)
 have e1:=bJ aX (x::r);have e2:((flt aN (x::r)).map AV.d).take ((x::r).length*3)=(flt aN (x::r)).map AV.d:=dI aX rfl;have e3:chunk 3 (x::r).length (flt aN (x::r))=(x::r).map aN:=cW (by decide) aX rfl;generalize hL:x::r=l at *;have hall':=EI hall;have hbb:l.length*40<=140737488355328/\l.length<=maxLen:=⟨by omega,aS (by omega)⟩;rw[hE];simp[-C,-E,↓KW,hcond,hval,hlen,hbb,uW,hall'];refine λm hm=>⟨_,aMk ?_ m hm⟩
 simp[fG]
def bUl{l:List (Int×Int)}(hl:l.length<=1000000):Spec Aa 137 [aK l] (aK l):=by
 refine bF (N:=8) Tryz.func137 ?_;by_cases h0:l=[]
 ·subst h0;simp[-C,-E,↓KW,aK]
 ·obtain⟨x,r,rfl⟩:=DW h0;obtain⟨a,t,hE,hcond,hval,hlen⟩:∃a t,aK (x::r)=.sl (a::t)/\(a.length=3/\(∀x,x∈a->one (AV.d x)=true)/\∀x,x∈t->∀y,y∈x->one (AV.d y)=true)/\AQ AV.d a++(t.map (AQ AV.d)).flatten=(flt eL (x::r)).map .d/\t.length+1=(x::r).length:=by
   have h1:∀x:(Int×Int),∀y∈eL x,one (AV.d y)=true:=λx y hy=>by have:=Ay.1 (jW x) (.d y) (AA.2 ⟨y,hy,rfl⟩);exact this
   refine⟨eL x,r.map eL,rfl,⟨rfl,h1 x,λz hz y hy=>?_⟩,?_,by simp⟩
   ·obtain⟨w,_,rfl⟩:=AA.1 hz;exact h1 w y hy
   ·simp[flt,DB]
  have hall:∀y,y∈flt eL (x::r)->one (AV.d y)=true:=λy hy=>Ay.1 (dB jW (x::r)) (.d y) (AA.2 ⟨y,hy,rfl⟩)
  have e1:=bJ dD (x::r);have e2:((flt eL (x::r)).map AV.d).take ((x::r).length*3)=(flt eL (x::r)).map AV.d:=dI dD rfl;have e3:chunk 3 (x::r).length (flt eL (x::r))=(x::r).map eL:=cW (by decide) dD rfl;generalize hL:x::r=l at *;have hall':=EI hall;have hbb:l.length*40<=140737488355328/\l.length<=maxLen:=⟨by omega,aS (by omega)⟩;rw[hE];simp[-C,-E,↓KW,hcond,hval,hlen,hbb,uW,hall'];rw[e2];exact⟨Nat.le_of_eq e1.symm,_,mA _ 6 _,e3.trans (by injection hE)⟩
def bAh{l:List Cg}(hl:l.length<=1000000):Spec Aa 47 [bL l] (bL l):=by
 refine bF (N:=8) Tryz.func47 ?_;by_cases h0:l=[]
 ·subst h0;simp[-C,-E,↓KW,bL]
 ·obtain⟨x,r,rfl⟩:=DW h0;obtain⟨a,t,hE,hcond,hval,hlen⟩:∃a t,bL (x::r)=.sl (a::t)/\(a.length=8/\(∀x,x∈a->one (AV.d x)=true)/\∀x,x∈t->∀y,y∈x->one (AV.d y)=true)/\AQ AV.d a++(t.map (AQ AV.d)).flatten=(flt bP (x::r)).map .d/\t.length+1=(x::r).length:=by
   have h1:∀x:Cg,∀y∈bP x,one (AV.d y)=true:=λx y hy=>by have:=Ay.1 (pC x) (.d y) (AA.2 ⟨y,hy,rfl⟩);exact this
   refine⟨bP x,r.map bP,rfl,⟨rfl,h1 x,λz hz y hy=>?_⟩,?_,by simp⟩
   ·obtain⟨w,_,rfl⟩:=AA.1 hz;exact h1 w y hy
   ·simp[flt,DB]
  have hall:∀y,y∈flt bP (x::r)->one (AV.d y)=true:=λy hy=>Ay.1 (dB pC (x::r)) (.d y) (AA.2 ⟨y,hy,rfl⟩)
  have e1:=bJ fX (x::r);have e2:((flt bP (x::r)).map AV.d).take ((x::r).length*8)=(flt bP (x::r)).map AV.d:=dI fX rfl;have e3:chunk 8 (x::r).length (flt bP (x::r))=(x::r).map bP:=cW (by decide) fX rfl;generalize hL:x::r=l at *;have hall':=EI hall;have hbb:l.length*80<=140737488355328/\l.length<=maxLen:=⟨by omega,aS (by omega)⟩;rw[hE];simp[-C,-E,↓KW,hcond,hval,hlen,hbb,uW,hall'];rw[e2];exact⟨Nat.le_of_eq e1.symm,_,mA _ 6 _,e3.trans (by injection hE)⟩
def bQu(x:Int)(hx:(aU x.natAbs).length<=549755813888):Spec Aa 79 [encZ x] (encZ (x.natAbs:Int)):=by
 refine bF (N:=6) Tryz.func79 ?_;have la:=cY x.natAbs;have va:=dS x.natAbs;have ex:encZ x=.ag [.b (decide (x<0)),aM (aU x.natAbs)]:=rfl;have hm:=iF (aU x.natAbs) false (by omega);rw[fA la,va]at hm;have e:sg false x.natAbs=(x.natAbs:Int):=by unfold sg;simp
 rw[e]at hm;rw[ex];generalize aU x.natAbs=a at *;generalize decide (x<0)=nx at *;simp[-C,-E,↓KW,aM];refine aJ hm ?_;simp[-C,-E,↓KW,aM,encZ,encI]
def usR(c:List Cl)(n:Int):Nat:=c.countP λy=>decide (eP y.b n≠0)
def oR(c:List Cl)(a b:Int):Bool:=decide (usR c a=0)&&decide (usR c b=1)&&decide ((eP (bOf c a) b).natAbs=1)
def aOs{c:List Cl}{i:Nat}(h:i<c.length)(n:Int):usR (c.take (i+1)) n=usR (c.take i) n+if eP c[i].b n≠0 then 1 else 0:=by unfold usR;rw[AM,Ab h,List.countP_append];congr 1;by_cases e:eP c[i].b n=0<;>simp[e]
def bWw(c:List Cl)(n:Int)(i:Nat):usR (c.take i) n<=i:=by unfold usR;exact An (List.countP_le_length ..) (by rw[Ax];omega)
def bWv{c:List Cl}{i:Nat}(h:i<c.length){n:Int}(hn:eP c[i].b n≠0):usR c n≠0:=by unfold usR;rw[Nat.ne_zero_iff_zero_lt,List.countP_pos_iff];exact⟨c[i],Ar h,by simpa using hn⟩
def aWl{l:Ch}{M:Nat}(h:Bnd M l)(n:Int):(eP l n).natAbs<=M:=by
 unfold eP;cases e:l.find? λf=>decide (f.1=n)with
 |none=>exact Al _
 |some f=>exact h f (D4 e)
def aAx{c:List Cl}{F:Nat}(a b:Int)(hz:SzX F c)(hF:F+4<4398046511104):Spec Aa 59 [aE c,.i .i64 a,.i .i64 b] (.b (oR c a b)):=by
 have hlen:=hz.len;have hFa:=gC c a (by omega);have hr:∃p x,(bG c a).isSome=p/\(bG c a).getD lA=x:=⟨_,_,rfl,rfl⟩;obtain⟨p,x,hp,hx⟩:=hr;have hba:bOf c a=x.b:=by unfold bOf;rw[hx]
 have hxl:x.b.length<=100:=by rw[<-hba];exact nQ hz.bl a
 have hxb:Bnd (2^F) x.b:=by rw[<-hba];exact mN hz.bb a
 unfold oT at hFa;rw[hp,hx]at hFa;refine bF (N:=54) Tryz.func59 ?_;simp[-C,-E,↓KW,aE];refine aJ hFa ?_;simp[-C,-E,↓KW,aE,aR,aC,aA,aB];refine aP (λi:Nat=>i<=c.length/\usR (c.take i) a=0) (λi=>StL [(0,.d (aE c)),(1,.d (.i .i64 a)),(2,.d (.i .i64 b)),(7,.ptr 1 0),(9,.d (.i .i64 (usR (c.take i) b:Nat))),(10,.d (.i .i64 (i:Int)))] none [.cells 40 [.d (.i .i64 x.id),.d (.i .i64 x.dim),.d (aK x.b)]]) (λi=>c.length-i) 0 ⟨Al _,rfl⟩ ?_ ?_
 ·refine wkQ [1] ?_ ?_<;>simp[-C,upd,aO,Γ0,aE,aK,usR]
 ·rintro i ⟨hi,ha0⟩;by_cases hgo:i<c.length
  ·have q1:(i:Int)<c.length:=by omega
   have hy:c[i]? = some c[i]:=Ab hgo;have hw:Ag.wrap ((i:Int)+1)=(i:Int)+1:=aV;have ht1:=aOs hgo a;have ht2:=aOs hgo b;have hul:=bWw c b i;have hne:=@bWv c i hgo a;have hyl:=hz.bl _ (Ar hgo);have hyb:=hz.bb _ (Ar hgo);refine exE c[i] λy hye=>?_
   rw[hye]at hy ht1 ht2 hne hyl hyb;refine exE (usR (c.take i) b) λu hue=>?_
   rw[hue]at ht2 hul;simp only[hue];have hyc:aN y=[D.i .i64 y.id,.i .i64 y.dim,aK y.b]:=rfl;have hC1:=vM (x:=y.b) b (by omega);have hC2:=vM (x:=y.b) a (by omega);have hS1:=fH (eP y.b b);have hS2:=fH (eP y.b a);have hn1:=aCy (eP y.b b);have hn2:=aCy (eP y.b a);refine exE (eP y.b b) λk hke=>?_
   rw[hke]at hC1 hS1 hn1 ht2;refine exE (eP y.b a) λk2 hke2=>?_
   rw[hke2]at hC2 hS2 hn2 ht1 hne;have hwu:Ag.wrap ((u:Int)+1)=((u+1:Nat):Int):=by rw[aV];omega
   simp[-C,-E,↓KW,aE,q1,hy,hyc,aC,aA,aB];refine aJ hC1 ?_;simp[-C,-E,↓KW,aE,aY,q1,hy,hyc,aC,aA,aB,aF,aD,aG];refine aJ hS1 ?_;by_cases h1:k=0
   ·have h1':((k.sign != 0):Bool)=false:=by rw[hn1,h1];rfl
    have hub:usR (c.take (i+1)) b=u:=by rw[ht2,h1];simp
    simp[-C,-E,↓KW,aE,aY,q1,hy,hyc,h1',hwu,aC,aA,aB,aF,aD,aG];refine aJ hC2 ?_;simp[-C,-E,↓KW,aE,aY,q1,hy,hyc,h1',aC,aA,aB,aF,aD,aG];refine aJ hS2 ?_;by_cases h2:k2=0
    ·have h2':((k2.sign != 0):Bool)=false:=by rw[hn2,h2];rfl
     have hua:usR (c.take (i+1)) a=0:=by rw[ht1,h2,ha0];simp
     simp[-C,-E,↓KW,aE,hw,h2'];refine aI (i+1) ⟨hgo,hua⟩ (slQ hgo) ?_;rw[hub];refine wkQ [1] ?_ ?_<;>simp[-C,upd,aO,Γ0,aE,aK]
    ·have h2':((k2.sign != 0):Bool)=true:=by rw[hn2];simpa using h2
     have hfa:oR c a b=false:=by unfold oR;rw[Bo (hne h2)];rfl
     simp[-C,-E,↓KW,aE,h2',hfa]
   ·have h1':((k.sign != 0):Bool)=true:=by rw[hn1];simpa using h1
    have hub:usR (c.take (i+1)) b=u+1:=by rw[ht2];simp[h1]
    simp[-C,-E,↓KW,aE,aY,q1,hy,hyc,h1',hwu,aC,aA,aB,aF,aD,aG];refine aJ hC2 ?_;simp[-C,-E,↓KW,aE,aY,q1,hy,hyc,h1',aC,aA,aB,aF,aD,aG];refine aJ hS2 ?_;by_cases h2:k2=0
    ·have h2':((k2.sign != 0):Bool)=false:=by rw[hn2,h2];rfl
     have hua:usR (c.take (i+1)) a=0:=by rw[ht1,h2,ha0];simp
     simp[-C,-E,↓KW,aE,hw,h2'];refine aI (i+1) ⟨hgo,hua⟩ (slQ hgo) ?_;rw[hub];refine wkQ [1] ?_ ?_<;>simp[-C,upd,aO,Γ0,aE,aK]
    ·have h2':((k2.sign != 0):Bool)=true:=by rw[hn2];simpa using h2
     have hfa:oR c a b=false:=by unfold oR;rw[Bo (hne h2)];rfl
     simp[-C,-E,↓KW,aE,h2',hfa]
  ·have q1:¬(i:Int)<c.length:=by omega
   rw[Ai (by omega)]at ha0 ⊢;have hres:oR c a b=(decide (usR c b=1)&&decide ((eP x.b b).natAbs=1)):=by unfold oR;rw[ha0,hba];simp
   rw[hres];refine exE (usR c b) λu hue=>?_
   simp only[hue];by_cases h1:u=1
   ·have h1':(((u:Int)==(1:Int)):Bool)=true:=by simp;omega
    have hC:=vM (x:=x.b) b (by omega);have hkb:=aWl hxb b;refine exE (eP x.b b) λk hke=>?_
    rw[hke]at hC hkb;have hks:(aU k.natAbs).length<=549755813888:=An (szE hkb (by omega)) (by decide);have hA:=bQu k hks;have hO:=tE 1 (by decide) (by decide);have hS:=aEx (k.natAbs:Int) 1 (by rw[Int.natAbs_natCast];exact An hks (by decide)) (An sz1 (by decide));have hd:decide (((k.natAbs:Nat):Int)=1)=decide (k.natAbs=1):=by
     by_cases h:k.natAbs=1
     ·simp[h]
     ·have:¬((k.natAbs:Nat):Int)=1:=by omega
      rw[Bo h,Bo this]
    rw[hd]at hS;rw[Bx h1,Bool.true_and,hke];refine exE (decide (k.natAbs=1)) λr hre=>?_
    rw[hre]at hS ⊢;refine exE (((k.natAbs:Nat):Int)) λz hze=>?_
    rw[hze]at hA hS;simp[-C,-E,↓KW,aE,q1,h1',aC,aA,aB];refine aJ hC ?_;simp[-C,-E,↓KW,aE,aY,q1,h1',aC,aA,aB,aF,aD,aG];refine aJ hA ?_;simp[-C,-E,↓KW,aE,aY,q1,h1',aC,aA,aB,aF,aD,aG];refine aJ hO ?_;simp[-C,-E,↓KW,aE,aY,q1,h1',aC,aA,aB,aF,aD,aG];refine aJ hS ?_;simp[-C,-E,↓KW,aE,q1,h1']
   ·have h1':(((u:Int)==(1:Int)):Bool)=false:=by simp;omega
    rw[Bo h1,Bool.false_and];simp[-C,-E,↓KW,aE,q1,h1']
def sA(c:List Cl)(x:Cl):List (Int×Int):=(x.b.filter λf=>oR c x.id f.1).map λf=>(x.id,f.1)
def bBs(c:List Cl):List (Int×Int):=c.flatMap (sA c)
def bAf{n:Int}:∀{l:Ch},Val l->sR n l<=1
 |[],_=>Al _
 |f::l,h=>by
  obtain⟨h1,h2,_⟩:=h.tail;have ih:=bAf (n:=n) h1;unfold sR at ih ⊢;rw[Ft];by_cases e:f.1=n
  ·have h0:l.countP (λf=>decide (f.1=n))=0:=by rw[List.countP_eq_zero];intro y hy;have:=h2 y hy;simp;omega
   rw[h0];simp[e]
  ·simpa[e]using ih
def aGv{l:Ch}(h:Val l){f:Int×Int}(hf:f∈l):eP l f.1=f.2:=by rw[zQ h,gD h];exact fJ h hf
def bMk{l:Ch}(h:Val l)(n:Int):(if eP l n≠0 then 1 else 0)=sR n l:=by
 have h1:=bAf (n:=n) h;by_cases e:∃f∈l,f.1=n
 ·have h2:=uR.2 e;obtain⟨f,hf,rfl⟩:=e;rw[aGv h hf,Ad (h.2 f hf)];omega
 ·have h2:sR n l=0:=by
   have h0:¬0<sR n l:=λh=>e (uR.1 h)
   omega
  have h3:eP l n=0:=by rw[zQ h];exact nO λf hf q=>e ⟨f,hf,q⟩
  rw[h3,h2];simp
def aLo{c:List Cl}(h:∀y∈c,Val y.b)(n:Int):usR c n=pZ n c:=by
 induction c with
 |nil=>rfl
 |cons y c ih =>
  have e:=bMk (h y (Av ..)) n;have i:=ih λz hz=>h z (Au _ hz)
  unfold usR at i ⊢;rw[Ft];simp only[pZ,<-e,<-i];by_cases q:eP y.b n=0
  ·simp[q]
  ·simp[q];omega
def aLz{c:List Cl}(h:CxV c):bBs c=jM c:=by
 unfold bBs jM;rw[List.flatMap_def,List.flatMap_def];congr 1;refine BK λx hx=>?_
 unfold sA lE;by_cases h0:0<pZ x.id c
 ·rw[Ad h0];have:(x.b.filter λf=>oR c x.id f.1)=[]:=List.filter_eq_nil_iff.2 λf _=>by unfold oR;rw[aLo h.val,Bo (by omega)];simp
  rw[this];rfl
 ·rw[Ac h0];congr 1;refine List.filter_congr λf hf=>?_
  unfold oR tM;rw[aLo h.val,aLo h.val,Bx (show pZ x.id c=0 by omega),h.bOf hx,aGv (h.val x hx) hf];simp
def aZj{c:List Cl}(h:CxV c){a b:Int}(hf:(a,b)∈jM c):oR c a b=true:=by
 rw[<-aLz h]at hf;unfold bBs at hf;obtain⟨x,_,hf⟩:=Bc.1 hf;obtain⟨f,hm,he⟩:=AA.1 hf;injection he with e1 e2
 rw[<-e1,<-e2];exact(Bi.1 hm).2
def bBr{c d:List Cl}{i:Nat}(h:i<c.length):(c.take (i+1)).flatMap (sA d)=(c.take i).flatMap (sA d)++sA d c[i]:=by rw[AM,Ab h,E1];simp
def aUw{c:List Cl}{l:Ch}{i:Nat}(n:Int)(h:i<l.length):((l.take (i+1)).filter λf=>oR c n f.1).map (λf=>(n,f.1))=((l.take i).filter λf=>oR c n f.1).map (λf=>(n,f.1))++if oR c n l[i].1=true then[(n,l[i].1)]else[]:=by rw[AM,Ab h,BQ,Bu];congr 1;by_cases e:oR c n l[i].1=true<;>simp[e]
def bQp{c:List Cl}{F:Nat}(hz:SzX F c)(hF:F+4<4398046511104):Spec Aa 32 [aE c] (fR (bBs c)):=by
 have hlen:=hz.len;refine bF (N:=58) Tryz.func32 ?_;simp[-C,-E,↓KW,aE];refine aP (λy:Nat×List (Int×Int)=>y.1<=c.length/\y.2.length<=100*y.1/\(c.take y.1).flatMap (sA c)=y.2) (λy=>StL [(0,.d (aE c)),(3,.own 1 0 y.2.length 2),(4,.d (.i .i64 (y.1:Int)))] none [.cells 41 ((flt xA y.2).map .d)]) (λy=>c.length-y.1) (0,[]) ⟨Al _,Al _,rfl⟩ ?_ ?_
 ·refine wkQ [1] ?_ ?_<;>simp[-C,upd,aO,Γ0,aE,wA]
 ·rintro⟨i,l⟩ ⟨hi,hll,hl⟩;simp only at hi hll hl ⊢;by_cases hgo:i<c.length
  ·have q1:(i:Int)<c.length:=by omega
   have hx:c[i]? = some c[i]:=Ab hgo;have hw:Ag.wrap ((i:Int)+1)=(i:Int)+1:=aV;have htk:=bBr (d:=c) hgo;rw[hl]at htk;have hxl:=hz.bl _ (Ar hgo);refine exE c[i] λx hxe=>?_
   rw[hxe]at hx htk hxl;have hyc:aN x=[D.i .i64 x.id,.i .i64 x.dim,aK x.b]:=rfl;simp[-C,-E,↓KW,aE,q1];refine aP (λy:Nat×List (Int×Int)=>y.1<=x.b.length/\y.2.length<=100*i+y.1/\l++((x.b.take y.1).filter λf=>oR c x.id f.1).map (λf=>(x.id,f.1))=y.2) (λy=>StL [(0,.d (aE c)),(3,.own 1 0 y.2.length 2),(4,.d (.i .i64 (i:Int))),(5,.d (.i .i64 (y.1:Int)))] none [.cells 41 ((flt xA y.2).map .d)]) (λy=>x.b.length-y.1) (0,l) ⟨Al _,by simp only;omega,by simp⟩ ?_ ?_
   ·refine wkQ [1] ?_ ?_<;>simp[-C,upd,aO,Γ0,aE]
   ·rintro⟨j,l2⟩ ⟨hj,hl2,hinv⟩;simp only at hj hl2 hinv ⊢;by_cases hgo2:j<x.b.length
    ·have q2:(j:Int)<x.b.length:=by omega
     have hf:x.b[j]? = some x.b[j]:=Ab hgo2;have hw2:Ag.wrap ((j:Int)+1)=(j:Int)+1:=aV;have htk2:=aUw (c:=c) x.id hgo2;refine exE x.b[j] λf hfe=>?_
     rw[hfe]at hf htk2;have hef:eL f=[.i .i64 f.1,.b (decide (f.2<0)),aM (aU f.2.natAbs)]:=rfl;have hI:=aAx x.id f.1 hz hF;have hinv2:l++((x.b.take (j+1)).filter λf=>oR c x.id f.1).map (λf=>(x.id,f.1))=l2++if oR c x.id f.1=true then[(x.id,f.1)]else[]:=by rw[htk2,<-Bh,hinv]
     simp[-C,-E,↓KW,aE,aK,q2,hx,hyc,hf,hef,aC,aA,aB,aF,aD,aG];refine aJ hI ?_;cases hfx:oR c x.id f.1 with
     |true =>
      rw[hfx,Ad rfl]at hinv2;have hcl:=bJ lP l2;have hal:=dB aKh l2;have hbb:=uV (n:=l2.length) (by omega);have hb8:(l2.length+1)*16<=140737488355328:=by omega
      have hm1:(1:Nat)<=maxLen:=aS (by decide);simp[-C,-E,↓KW,aE,aK,q2,hx,hyc,hf,hef,hw2,hcl,hal,hbb,hb8,hm1,aS,aC,aA,aB,aF,aD,aG];refine aI (τ:=Nat×List (Int×Int)) (j+1,l2++[(x.id,f.1)]) ⟨hgo2,by simp only[Ak,As];omega,hinv2⟩ (AF hgo2 (AK _)) ?_;simp only[Ak,As,cX,cG,aGo];refine wkQ [3] ?_ ?_<;>simp[-C,upd,aO,Γ0,aE]
     |false =>
      rw[hfx]at hinv2;simp only[A0,B2,A7]at hinv2;simp[-C,-E,↓KW,aE,hw2];refine aI (τ:=Nat×List (Int×Int)) (j+1,l2) ⟨hgo2,by simp only;omega,hinv2⟩ (AF hgo2 (AK _)) (wkQ [1] ?_ ?_)<;>simp[-C,upd,aO,Γ0,aE]
    ·have q2:¬(j:Int)<x.b.length:=by omega
     rw[Ai (by omega)]at hinv;simp[-C,-E,↓KW,aE,aK,q2,hx,hyc,hw,aC,aA,aB];refine aI (τ:=Nat×List (Int×Int)) (i+1,l2) ⟨hgo,by simp only;omega,by rw[htk,<-hinv];rfl⟩ (slQ hgo) (wkQ [1] ?_ ?_)<;>simp[-C,upd,aO,Γ0,aE]
  ·have q1:¬(i:Int)<c.length:=by omega
   rw[Ai (by omega)]at hl;have hl':bBs c=l:=hl;have e1:=dI lP (rfl:l.length=l.length);have e2:=cW (by decide) lP (rfl:l.length=l.length);have e3:=bJ lP l;simp[-C,-E,↓KW,aE,fR,q1,hl',e1,e2,e3]
def aPt(z b:Int)(l:Ch):Ch:=plM (-z) [] (plM (-z) l [(b,1)])
def bFh{c:List Cl}{a b:Int}(h:a≠b)(R:Ch):mS (mS (eF c []) a []) b R=eF c [(a,[]),(b,R)]:=by
 unfold mS eF;rw[CC,CC];refine BK λx _=>?_
 simp only[DQ,zH h];by_cases h1:x.id=a
 ·have h2:¬x.id=b:=λe=>h (h1.symm.trans e)
  simp[h1,h,h2]
 ·by_cases h2:x.id=b
  ·have h3:¬b=a:=λe=>h e.symm
   simp[h2,h3]
  ·simp[h1,h2,mH]
def bHp{c:List Cl}(h:CxV c){a b z:Int}{xa xb:Cl}(t:oX c a b z xa xb):aPt z b xa.b=rT b z xa.b:=by
 have hv:=h.val xa t.ina;have v1:=iX (-z) hv (jL b);have vR:Val (rT b z xa.b):=(cS _ [] Val.nil).1;refine wS (iX (-z) Val.nil v1) vR λw=>?_
 have e:bO w (rT b z xa.b)=-z*(bO w xa.b-Go.Am.cf b xa.b*w b):=aWj w b z xa.b;unfold aPt;rw[pE Val.nil v1,pE hv (jL b),e,t.cf h];simp only[bO];rw[CD,Int.one_mul,Dn,C0,C0,C0];congr 1
def bQm{c:List Cl}(h:CxV c){a b z:Int}{xa xb:Cl}(t:oX c a b z xa xb)(hf:(a,b)∈jM c):(kN c a b,mS (mS (eF c []) a []) b (aPt z b xa.b),(0:Int))=xS c a b:=by rw[bAe h t hf,bFh t.ne,bHp h t,t.g h]
def aPx{c:List Cl}{F:Nat}{a b:Int}(hcv:CxV c)(hz:SzX F c)(hf:(a,b)∈jM c)(hF:F+10<4398046511104):Spec Aa 64 [aE c,.i .i64 a,.i .i64 b] (lO (xS c a b)):=by
 have hlen:=hz.len;obtain⟨z,xa,xb,t⟩:=aDu hcv hf;have hFa:=gC c a (by omega);have hFb:=gC c b (by omega);have e1:bG c a=some xa:=by rw[<-t.ida];exact hcv.inc.find t.ina
 have e2:bG c b=some xb:=by rw[<-t.idb];exact hcv.inc.find t.inb
 unfold oT at hFa hFb;rw[e1]at hFa;rw[e2]at hFb;simp only[Bd,Fa]at hFa hFb;have hI:=aAx a b hz (by omega);rw[aZj hcv hf]at hI;have hxl:=hz.bl xa t.ina;have hxb:=hz.bb xa t.ina;have hC:=vM (x:=xa.b) b (by omega);have hcz:eP xa.b b=z:=aGv (hcv.val xa t.ina) t.mem;rw[hcz]at hC;have hz1:z.natAbs<=2^0:=by rcases t.unit with e|e<;>rw[e]<;>decide
 have hzs:Sz z:=szE hz1 (by omega);have hNg:=nH z (An hzs (by decide));have hzn:(-z).natAbs<=2^0:=by rw[Int.natAbs_neg];exact hz1
 have hO:=xJ b;have hP1:=nG (k:=-z) (e:=F) (f:=0) (g:=0) (a:=xa.b) (b:=[(b,1)]) hxb (Bnd.one (Ap 1)) hzn (by omega) (by omega) (by omega) (by simp);have hv:=hcv.val xa t.ina;have hpl:plM (-z) xa.b [(b,1)]=lin xa.b [(b,1)] (-z):=aDf hv (jL b) (-z);have hrb:Bnd (2^(F+1)) (plM (-z) xa.b [(b,1)]):=by rw[hpl];have:=bSn (a:=xa.b) (b:=[(b,1)]) (k:=-z) (K:=1) (M:=1) hxb (Bnd.one (Ap 1)) hzn;refine this.mono ?_;have h1:1<=2^F:=Cd;simp only[As];rw[Cp];omega
 have hrl:(plM (-z) xa.b [(b,1)]).length<=101:=by rw[hpl];have:=bSm xa.b [(b,1)] (-z);simp only[As]at this;omega
 have hre:∃rs,plM (-z) xa.b [(b,1)]=rs:=⟨_,rfl⟩;obtain⟨rs,hrs⟩:=hre;rw[hrs]at hP1 hrb hrl;have hP2:=nG (k:=-z) (e:=0) (f:=F+1) (g:=0) (a:=[]) (b:=rs) (Bnd.nil _) hrb hzn (by omega) (by omega) (by simp) (by omega);have him:aPt z b xa.b=plM (-z) [] rs:=by unfold aPt;rw[hrs]
 have hEq:=bQm hcv t hf;rw[him]at hEq;obtain⟨im,himg⟩:∃im,plM (-z) [] rs=im:=⟨_,rfl⟩;rw[himg]at hP2 hEq;have hWo:=aEu (c:=c) a b (by omega);have hIt:=aAw (c:=c) (by omega);have hW1:=aDd (m:=eF c []) a [] (by rw[yZ];omega);have hW2:=aDd (m:=mS (eF c []) a []) b im (by unfold mS;rw[AL,yZ];omega);rw[<-hEq];have hy1:aN xa=[D.i .i64 xa.id,.i .i64 xa.dim,aK xa.b]:=rfl;have hy2:aN xb=[D.i .i64 xb.id,.i .i64 xb.dim,aK xb.b]:=rfl;have hrr:lO (kN c a b,mS (mS (eF c []) a []) b im,(0:Int))=.ag [aE (kN c a b),dJ (mS (mS (eF c []) a []) b im),.i .i64 0]:=rfl;rw[hrr];generalize mS (mS (eF c []) a []) b im=m2 at *;generalize mS (eF c []) a []=m1 at *;generalize eF c []=m0 at *;generalize kN c a b=c2 at *;clear hEq him himg hrs hpl hcz hz1 hzs hzn hrb hrl hxb hv e1 e2;generalize -z=zn at *;refine bF (N:=69) Tryz.func64 ?_;simp[-C,-E,↓KW,aE];refine aJ hFa ?_;simp[-C,-E,↓KW,aE,hy1,aC,aA,aB];refine aJ hFb ?_;simp[-C,-E,↓KW,aE,hy1,hy2,aC,aA,aB];refine aJ hI ?_;simp[-C,-E,↓KW,aE,aC,aA,aB];refine aJ hC ?_;simp[-C,-E,↓KW,aE,aY,aF,aD,aG,aZ,aQ,aT,aC,aA,aB];refine aJ hO ?_;simp[-C,-E,↓KW,aE,aY,aF,aD,aG,aZ,aQ,aT,aC,aA,aB];refine aJ hNg ?_;simp[-C,-E,↓KW,aE,aY,aF,aD,aG,aZ,aQ,aT,aC,aA,aB];refine aJ hP1 ?_;simp[-C,-E,↓KW,aE,aY,aF,aD,aG,aZ,aQ,aT,aC,aA,aB];refine aJ hNg ?_;simp[-C,-E,↓KW,aE,aY,aF,aD,aG,aZ,aQ,aT,aC,aA,aB];refine bK (ds:=[aK [],aK rs,encZ zn]) (by simp[-C,-E,aK,upd,jA,sS,aY]) hP2 ?_;simp[-C,-E,↓KW,aE,aY,aF,aD,aG,aZ,aQ,aT,aC,aA,aB];refine aJ hWo ?_;simp[-C,-E,↓KW,aE,aQ,aT,aC,aA,aB,fY,eK];refine aJ hIt ?_;simp[-C,-E,↓KW,aE,aQ,aT,aC,aA,aB,fY,eK,cZ,cA];refine bK (ds:=[dJ m0,.i .i64 a,aK []]) (by simp[-C,-E,aK,upd,jA,sS]) hW1 ?_;simp[-C,-E,↓KW,aE,aQ,aT,aC,aA,aB,fY,eK,cZ,cA];refine aJ hW2 ?_;simp[-C,-E,↓KW,aE,aQ,aT,aC,aA,aB,fY,eK,cZ,cA,rF,kH,lR,gP]
def sO(c:List Cl)(x:Cl):Int:=if oH c x≠0 then oH c x else if bdX c x.b≠[]then 252 else 0
def bTs{c:List Cl}{x:Cl}{f:Int×Int}(hf:f∈x.b)(h:bG c f.1=none):oH c x=251:=by
 have hk:rM c x.b=false:=by rw[<-Bool.not_eq_true];intro h2;have:=Ay.1 h2 f hf;unfold kn at this;rw[h]at this;cases this
 unfold oH;rw[hk];rfl
def bSp{c:List Cl}{l:Ch}{i:Nat}(h:i<l.length)(h0:rM c (l.take i)=true)(h1:(bG c l[i].1).isSome=true):rM c (l.take (i+1))=true:=by unfold rM at h0 ⊢;rw[AM,Ab h,FN,h0];simp[kn,h1]
def aZu{c:List Cl}{x:Cl}(hk:rM c x.b=true)(h:aBn x=true):oH c x=260:=by unfold aBn at h;unfold oH;rw[hk,Ad rfl,h];rfl
def bLt{c:List Cl}{x:Cl}(hk:rM c x.b=true):oH c x=eX c x x.b.length:=by unfold oH eX aBn;rw[hk,Ad rfl,Fs]
def bZi{c:List Cl}{x:Cl}{i:Nat}(hi:i<x.b.length)(h:dOf c x.b[i].1≠x.dim-1):eX c x x.b.length=260:=by
 unfold eX;have:(x.b.take x.b.length).any (λf=>!decide (dOf c f.1=x.dim-1))=true:=by rw[Fs,Db];exact⟨x.b[i],Ar hi,by simpa using h⟩
 rw[this,Bool.or_true];rfl
def bHv{c:List Cl}{x:Cl}{e f:Nat}(hc:SzX e c)(hcv:∀y∈c,Val y.b)(hxv:Val x.b)(hxl:x.b.length<=100)(hxb:Bnd (2^f) x.b)(hd:-1000000<=x.dim/\x.dim<=1000000)
  (hef:e+f+20<4398046511104):Spec Aa 45 [aE c,.ag (aN x)] (.i .i64 (sO c x)):=by
 have hcl:=hc.len
 refine bF (N:=73) Tryz.func45 ?_
 have hV:=qS x.b (hxb.sz (by omega)) (by omega)
 rw[xE hxv]at hV
 have hA:=aIy hcv hc hxl hxb (by omega)
 simp[-C,-E,↓KW,aE,aR,aC,aA,aB]
 refine aJ hV ?_
 simp[-C,-E,↓KW,aE]
 refine aP (λj:Nat=>j<=x.b.length/\rM c (x.b.take j)=true) (λj=>StL [(0,.d (aE c)),(3,.ptr 1 0),(5,.d (.i .i64 (j:Int)))] none [.cells 40 [.d (.i .i64 x.id),.d (.i .i64 x.dim),.d (aK x.b)]]) (λj=>x.b.length-j) 0 ⟨Al _,rfl⟩ ?_ ?_
 ·refine wkQ [1] ?_ ?_<;>simp[-C,upd,aO,Γ0,aE]
 ·rintro j ⟨hj,hkn⟩
  by_cases hgo2:j<x.b.length
  ·have q2:(j:Int)<x.b.length:=by omega
   have hf:x.b[j]? = some x.b[j]:=Ab hgo2
   have hw2:Ag.wrap ((j:Int)+1)=(j:Int)+1:=aV
   have hbad:=bTs (c:=c) (Ar hgo2)
   have hkn1:=bSp hgo2 hkn
   refine exE x.b[j] λu hue=>?_
   rw[hue]at hf hbad hkn1
   obtain⟨n2,v2⟩:=u
   simp only at hbad hkn1
   have hF:=gC c n2 (by omega)
   unfold oT at hF
   cases hzf:bG c n2 with
   |none =>
    rw[hzf]at hF
    simp only[Option.getD_none,Option.isSome_none]at hF
    have hb:=hbad hzf
    have hfin:sO c x=251:=by unfold sO;rw[hb];rfl
    simp[-C,-E,↓KW,aE,aK,q2,hf,bE,aF,aD,aG]
    refine aJ hF ?_
    simp[-C,-E,↓KW,aE,aR,hw2,hfin,aC,aA,aB]
   |some z =>
    rw[hzf]at hF
    simp only[Bd,Fa]at hF
    have hk2:=hkn1 (by rw[hzf];rfl)
    simp[-C,-E,↓KW,aE,aK,q2,hf,bE,aF,aD,aG]
    refine aJ hF ?_
    simp[-C,-E,↓KW,aE,aR,hw2,aC,aA,aB]
    refine aI (j+1) ⟨hgo2,hk2⟩ (AF hgo2 (AK _)) (wkQ [1] ?_ ?_)<;>simp[-C,upd,aO,Γ0,aE,aK]
  ·have q2:¬(j:Int)<x.b.length:=by omega
   rw[Ai (by omega)]at hkn
   by_cases d1:x.dim<0
   ·have hb:=aZu hkn (show aBn x=true by simp[aBn,d1])
    have hfin:sO c x=260:=by unfold sO;rw[hb];rfl
    simp[-C,-E,↓KW,aE,aK,q2,d1,hfin]
   ·by_cases d2:3<x.dim
    ·have hb:=aZu hkn (show aBn x=true by simp[aBn,d2])
     have hfin:sO c x=260:=by unfold sO;rw[hb];rfl
     simp[-C,-E,↓KW,aE,aK,q2,d1,d2,hfin]
    ·simp[-C,-E,↓KW,aE,aK,q2,d1,d2]
     refine aP (λj:Nat=>j<=x.b.length/\eX c x j=0) (λj=>StL [(0,.d (aE c)),(3,.ptr 1 0),(8,.d (.i .i64 (j:Int)))] none [.cells 40 [.d (.i .i64 x.id),.d (.i .i64 x.dim),.d (aK x.b)]]) (λj=>x.b.length-j) 0 ⟨Al _,by simp[eX,aBn,d1,d2]⟩ ?_ ?_
     ·refine wkQ [1] ?_ ?_<;>simp[-C,upd,aO,Γ0,aE,aK]
     ·clear hgo2 q2 hj j
      rintro j ⟨hj,hej⟩
      by_cases hgo2:j<x.b.length
      ·have q2:(j:Int)<x.b.length:=by omega
       have hf:x.b[j]? = some x.b[j]:=Ab hgo2
       have hw2:Ag.wrap ((j:Int)+1)=(j:Int)+1:=aV
       have hw3:Ag.wrap (x.dim-1)=x.dim-1:=aV
       have hnx:=aZy (c:=c) (x:=x) hgo2
       have hbad:=bZi (c:=c) (x:=x) hgo2
       refine exE x.b[j] λu hue=>?_
       rw[hue]at hf hnx hbad
       obtain⟨n2,v2⟩:=u
       simp only at hnx hbad
       have hF:=gC c n2 (by omega)
       unfold oT at hF
       have hdd:dOf c n2=((bG c n2).getD lA).dim:=rfl
       rw[hdd]at hnx hbad
       refine exE ((bG c n2).getD lA) λz hze=>?_
       refine exE ((bG c n2).isSome) λp hpe=>?_
       rw[hze]at hnx hbad
       rw[hze,hpe]at hF
       by_cases hdm:z.dim=x.dim-1
       ·have q4:((z.dim != x.dim-1):Bool)=false:=by simpa using hdm
        rw[Ac (by simpa using hdm)]at hnx
        simp[-C,-E,↓KW,aE,aK,q2,hf,bE,aF,aD,aG]
        refine aJ hF ?_
        simp[-C,-E,↓KW,aE,aK,aR,hw2,hw3,q4,aC,aA,aB]
        refine aI (j+1) ⟨hgo2,by rw[hnx];exact hej⟩ (AF hgo2 (AK _)) (wkQ [1] ?_ ?_)<;>simp[-C,upd,aO,Γ0,aE,aK]
       ·have q4:((z.dim != x.dim-1):Bool)=true:=by simpa using hdm
        have hb:oH c x=260:=by rw[bLt hkn];exact hbad hdm
        have hfin:sO c x=260:=by unfold sO;rw[hb];rfl
        simp[-C,-E,↓KW,aE,aK,q2,hf,bE,aF,aD,aG]
        refine aJ hF ?_
        simp[-C,-E,↓KW,aE,aK,aR,hw2,hw3,q4,hfin,aC,aA,aB]
      ·have q2:¬(j:Int)<x.b.length:=by omega
       have hjl:j=x.b.length:=by omega
       have hb:oH c x=0:=by rw[bLt hkn,<-hjl];exact hej
       simp[-C,-E,↓KW,aE,aK,q2]
       refine aJ hA ?_
       by_cases hz:bdX c x.b=[]
       ·have hfin:sO c x=0:=by unfold sO;rw[hb,hz];rfl
        rw[hz]
        simp[-C,-E,↓KW,aE,aK,hfin]
       ·have hfin:sO c x=252:=by unfold sO;rw[hb,Ac (by decide),Ad hz]
        have hpos:0<(bdX c x.b).length:=List.length_pos_iff.2 hz
        simp[-C,-E,↓KW,aE,aK,hfin,hpos]
def bQq{c:List Cl}(n:Int)(hl:c.length<=1000000)(hbl:∀y∈c,y.b.length<=1000000):Spec Aa 80 [aE c,.i .i64 n] (.b (xY c n)):=by
 refine bF (N:=34) Tryz.func80 ?_;simp[-C,-E,↓KW,aE];refine aP (λi:Nat=>i<=c.length/\xY (c.take i) n=false) (λi=>StL [(0,.d (aE c)),(1,.d (.i .i64 n)),(5,.d (.i .i64 (i:Int)))] none []) (λi=>c.length-i) 0 ⟨Al _,rfl⟩ ?_ ?_
 ·refine wkQ [] ?_ ?_<;>simp[-C,upd,aO,Γ0,aE]
 ·rintro i ⟨hi,hu⟩;by_cases hgo:i<c.length
  ·have q1:(i:Int)<c.length:=by omega
   have hx:c[i]? = some c[i]:=Ab hgo;have hw:Ag.wrap ((i:Int)+1)=(i:Int)+1:=aV;have hyl:=hbl _ (Ar hgo);have hym:=Ar hgo;have htk:xY (c.take (i+1)) n=c[i].b.any λf=>decide (f.1=n):=by unfold xY at hu ⊢;rw[AM,hx,FQ,hu];simp
   refine exE c[i] λy hye=>?_
   rw[hye]at hx hyl htk hym;have hyc:aN y=[D.i .i64 y.id,.i .i64 y.dim,aK y.b]:=rfl;simp[-C,-E,↓KW,aE,q1];refine aP (λj:Nat=>j<=y.b.length/\((y.b.take j).any λf=>decide (f.1=n))=false) (λj=>StL [(0,.d (aE c)),(1,.d (.i .i64 n)),(5,.d (.i .i64 (i:Int))),(6,.d (.i .i64 (j:Int)))] none []) (λj=>y.b.length-j) 0 ⟨Al _,rfl⟩ ?_ ?_
   ·refine wkQ [] ?_ ?_<;>simp[-C,upd,aO,Γ0,aE]
   ·rintro j ⟨hj,hv⟩;by_cases hgo2:j<y.b.length
    ·have q2:(j:Int)<y.b.length:=by omega
     have hf:y.b[j]? = some y.b[j]:=Ab hgo2;have hw2:Ag.wrap ((j:Int)+1)=(j:Int)+1:=aV;have hfm:=Ar hgo2;have ht2:((y.b.take (j+1)).any λf=>decide (f.1=n))=decide (y.b[j].1=n):=by rw[AM,hf,FQ,hv];simp
     refine exE y.b[j] λu hue=>?_
     rw[hue]at hf ht2 hfm;have hfe:eL u=[.i .i64 u.1,.b (decide (u.2<0)),aM (aU u.2.natAbs)]:=rfl;by_cases h0:u.1=n
     ·have h0':((u.1==n):Bool)=true:=by simpa using h0
      have hfin:xY c n=true:=by unfold xY;rw[Db];exact⟨y,hym,Db.2 ⟨u,hfm,by simpa using h0⟩⟩
      simp[-C,-E,↓KW,aE,aK,q2,hx,hyc,hf,hfe,h0',hfin,aC,aA,aB,aF,aD,aG]
     ·have h0':((u.1==n):Bool)=false:=by simpa using h0
      simp[-C,-E,↓KW,aE,aK,q2,hx,hyc,hf,hfe,h0',hw2,aC,aA,aB,aF,aD,aG];refine aI (j+1) ⟨hgo2,by rw[ht2];exact Bo h0⟩ (AF hgo2 (AK _)) (wkQ [] ?_ ?_)<;>simp[-C,upd,aO,Γ0,aE,aK]
    ·have q2:¬(j:Int)<y.b.length:=by omega
     rw[Ai (by omega)]at hv;simp[-C,-E,↓KW,aE,aK,q2,hx,hyc,hw,aC,aA,aB];refine aI (i+1) ⟨hgo,by rw[htk];exact hv⟩ (slQ hgo) (wkQ [] ?_ ?_)<;>simp[-C,upd,aO,Γ0,aE,aK]
  ·have q1:¬(i:Int)<c.length:=by omega
   rw[Ai (by omega)]at hu;simp[-C,-E,↓KW,aE,q1,hu]
def bBu{c:List Cl}{i:Nat}(h:i<c.length)(n:Int):xI (c.take (i+1)) n=xI (c.take i) n++if c[i].id=n then[]else[c[i]]:=by unfold xI;rw[AM,Ab h,BQ];congr 1;by_cases e:c[i].id=n<;>simp[e]
def bBx{c:List Cl}(n:Int)(hl:c.length<=1000000)(hbl:∀y∈c,y.b.length<=1000000):Spec Aa 62 [aE c,.i .i64 n] (.tp [aE (aHw c n).1,.i .i64 (aHw c n).2]):=by
 have hF:=gC c n hl;have hU:=bQq n hl hbl;unfold oT at hF;unfold aHw;have hkn:kn c n=(bG c n).isSome:=rfl;refine bF (N:=43) Tryz.func62 ?_;simp[-C,-E,↓KW,aE];refine aJ hF ?_;refine exE ((bG c n).getD lA) λz hze=>?_
 rw[hze];cases hfd:(bG c n).isSome with
 |false =>
  rw[hfd]at hkn;simp[-C,-E,↓KW,aE,aR,hkn,aC,aA,aB,cD]
 |true =>
  rw[hfd]at hkn;simp[-C,-E,↓KW,aE,aR,hkn,aC,aA,aB];refine aJ hU ?_;cases hux:xY c n with
  |true=>simp[-C,-E,↓KW,aE,aR,hkn,aC,aA,aB,cD]
  |false =>
   simp[-C,-E,↓KW,aE,aR,hkn,aC,aA,aB];clear hF hU hze;refine aP (λy:Nat×List Cl=>y.1<=c.length/\y.2.length<=y.1/\xI (c.take y.1) n=y.2) (λy=>StL [(0,.d (aE c)),(1,.d (.i .i64 n)),(8,.own 1 0 y.2.length 3),(9,.d (.i .i64 (y.1:Int)))] none [.cells 40 ((flt aN y.2).map .d)]) (λy=>c.length-y.1) (0,[]) ⟨Al _,Al _,rfl⟩ ?_ ?_
   ·refine wkQ [2] ?_ ?_<;>simp[-C,upd,aO,Γ0,aE,wA]
   ·rintro⟨i,out⟩ ⟨hi,hol,ho⟩;simp only at hi hol ho ⊢;by_cases hgo:i<c.length
    ·have q1:(i:Int)<c.length:=by omega
     have hx:c[i]? = some c[i]:=Ab hgo;have hw:Ag.wrap ((i:Int)+1)=(i:Int)+1:=aV;have htk:=bBu hgo n;rw[ho]at htk;refine exE c[i] λy hye=>?_
     rw[hye]at hx htk;have hyc:aN y=[D.i .i64 y.id,.i .i64 y.dim,aK y.b]:=rfl;by_cases h0:y.id=n
     ·have h0':((y.id != n):Bool)=false:=by simpa using h0
      rw[Ad h0,A7]at htk;simp[-C,-E,↓KW,aE,q1,hx,hyc,h0',hw,aC,aA,aB];refine aI (τ:=Nat×List Cl) (i+1,out) ⟨hgo,by simp only;omega,htk⟩ (slQ hgo) (wkQ [1] ?_ ?_)<;>simp[-C,upd,aO,Γ0,aE]
     ·have h0':((y.id != n):Bool)=true:=by simpa using h0
      rw[Ac h0]at htk;have hcl:=bJ aX out;have hal:=dB eR out;have hbb:=uV (n:=out.length) (by omega);have hb8:(out.length+1)*40<=140737488355328:=by omega
      have hm1:(1:Nat)<=maxLen:=aS (by decide);simp[-C,-E,↓KW,aE,q1,hx,hyc,h0',hw,hcl,hal,hbb,hb8,hm1,aS,aC,aA,aB];refine aI (τ:=Nat×List Cl) (i+1,out++[y]) ⟨hgo,by simp only[Ak,As];omega,htk⟩ (slQ hgo) ?_;simp only[Ak,As,cX,cG,aR];refine wkQ [3] ?_ ?_<;>simp[-C,upd,aO,Γ0,aE]
    ·have q1:¬(i:Int)<c.length:=by omega
     rw[Ai (by omega)]at ho;have e1:=dI aX (rfl:out.length=out.length);have e2:=cW (by decide) aX (rfl:out.length=out.length);have e3:=bJ aX out;simp[-C,-E,↓KW,aE,q1,hkn,hux,ho,e1,e2,e3,cD]
def bKg{c:List Cl}(h:CxV c){a b:Int}(ha:(bG c a).isSome=true):oR c a b=true↔(a,b)∈jM c:=by
 refine⟨λhi=>?_,aZj h⟩;obtain⟨x,hx⟩:=B9.1 ha;obtain⟨x1,x2⟩:=dF hx;have hbo:bOf c a=x.b:=by rw[<-x2];exact h.bOf x1
 have hi2:=hi;unfold oR at hi2;simp only[AO,AI]at hi2;have hc:eP x.b b≠0:=λe=>by have:=hi2.2;rw[hbo,e]at this;cases this
 unfold eP at hc;cases hf:x.b.find? λf=>decide (f.1=b)with
 |none=>rw[hf]at hc;exact(hc rfl).elim
 |some f =>
  have hm:=D4 hf;have he:f.1=b:=by simpa using List.find?_some hf
  rw[<-aLz h];unfold bBs;refine Bc.2 ⟨x,x1,?_⟩;unfold sA;exact AA.2 ⟨f,Bi.2 ⟨hm,by rw[x2,he];exact hi⟩,by rw[x2,he]⟩
def aMc{c:List Cl}{F:Nat}(a b:Int)(hcv:CxV c)(hz:SzX F c)(hF:F+10<4398046511104):Spec Aa 64 [aE c,.i .i64 a,.i .i64 b] (lO (xS c a b)):=by
 have hlen:=hz.len;by_cases hnf:(bG c a).isSome=false\/(bG c b).isSome=false
 ·have hres:xS c a b=([],[],250):=by unfold xS;rw[Ad hnf]
  have hFa:=gC c a (by omega);have hFb:=gC c b (by omega);rw[hres];have hrr:lO ([],[],250)=.ag [aE [],dJ [],.i .i64 250]:=rfl;rw[hrr];unfold oT at hFa hFb;refine exE ((bG c a).getD lA) λxa hxa=>?_
  refine exE ((bG c b).getD lA) λxb hxb=>?_
  refine exE ((bG c a).isSome) λpa hpa=>?_
  refine exE ((bG c b).isSome) λpb hpb=>?_
  rw[hxa,hpa]at hFa;rw[hxb,hpb]at hFb;rw[hpa,hpb]at hnf;refine bF (N:=69) Tryz.func64 ?_;simp[-C,-E,↓KW,aE];refine aJ hFa ?_;simp[-C,-E,↓KW,aE,aR,aC,aA,aB];refine aJ hFb ?_;cases pa with
  |false=>simp[-C,-E,↓KW,aE,dJ,aR,aC,aA,aB]
  |true =>
   cases pb with
   |false=>simp[-C,-E,↓KW,aE,dJ,aR,aC,aA,aB]
   |true=>rcases hnf with h|h<;>cases h
 ·by_cases hf:(a,b)∈jM c
  ·exact aPx hcv hz hf hF
  ·have hres:xS c a b=([],[],310):=by unfold xS;rw[Ac hnf,Ad hf]
   have hpa:(bG c a).isSome=true:=by
    cases h:(bG c a).isSome with
    |true=>rfl
    |false=>exact(hnf (.inl h)).elim
   have hpb:(bG c b).isSome=true:=by
    cases h:(bG c b).isSome with
    |true=>rfl
    |false=>exact(hnf (.inr h)).elim
   have hI:=aAx a b hz (by omega);have hif:oR c a b=false:=by
    cases h:oR c a b with
    |false=>rfl
    |true=>exact(hf ((bKg hcv hpa).1 h)).elim
   rw[hif]at hI;have hFa:=gC c a (by omega);have hFb:=gC c b (by omega);rw[hres];have hrr:lO ([],[],310)=.ag [aE [],dJ [],.i .i64 310]:=rfl;rw[hrr];unfold oT at hFa hFb;refine exE ((bG c a).getD lA) λxa hxa=>?_
   refine exE ((bG c b).getD lA) λxb hxb=>?_
   rw[hxa,hpa]at hFa;rw[hxb,hpb]at hFb;refine bF (N:=69) Tryz.func64 ?_;simp[-C,-E,↓KW,aE];refine aJ hFa ?_;simp[-C,-E,↓KW,aE,aR,aC,aA,aB];refine aJ hFb ?_;simp[-C,-E,↓KW,aE,aR,aC,aA,aB];refine aJ hI ?_;simp[-C,-E,↓KW,aE,dJ,aR,aC,aA,aB]
def bKp{c:List Cl}{x:Cl}(hl:c.length<400):aFu c x=if kn c x.id then([],253)else if sO c x≠0 then([],sO c x)else(cE c x,0):=by
 unfold aFu sO;have h3:¬400<=c.length:=by omega
 by_cases hk:kn c x.id=true
 ·simp[hk]
 ·by_cases h1:oH c x=0
  ·by_cases h2:bdX c x.b=[]
   ·simp[hk,h1,h2,h3]
   ·simp[hk,h1,h2]
  ·simp[hk,h1]
def bBy{c:List Cl}{x:Cl}{e f:Nat}(hc:SzX e c)(hcv:∀y∈c,Val y.b)(hxv:Val x.b)(hxl:x.b.length<=100)(hxb:Bnd (2^f) x.b)(hd:-1000000<=x.dim/\x.dim<=1000000)
  (hef:e+f+20<4398046511104):Spec Aa 61 [aE c,.ag (aN x)] (.tp [aE (aFu c x).1,.i .i64 (aFu c x).2]):=by
 have hl:=hc.len
 have hF:=gC c x.id (by omega)
 have hT:=bHv hc hcv hxv hxl hxb hd hef
 rw[bKp (by omega)]
 unfold oT at hF
 have hkn:kn c x.id=(bG c x.id).isSome:=rfl
 refine bF (N:=58) Tryz.func61 ?_
 simp[-C,-E,↓KW,aE,aR,aC,aA,aB]
 refine aJ hF ?_
 refine exE ((bG c x.id).getD lA) λz hze=>?_
 rw[hze]
 cases hfd:(bG c x.id).isSome with
 |true =>
  rw[hfd]at hkn
  simp[-C,-E,↓KW,aE,aR,hkn,aC,aA,aB,cD]
 |false =>
  rw[hfd]at hkn
  simp[-C,-E,↓KW,aE,aR,hkn,aC,aA,aB]
  refine aJ hT ?_
  by_cases hft:sO c x=0
  rotate_left
  ·have h1':((sO c x != 0):Bool)=true:=by simpa using hft
   simp[-C,-E,↓KW,aE,aR,hkn,h1',hft,aC,aA,aB,cD]
  ·have h1':((sO c x != 0):Bool)=false:=by simpa using hft
   have h3:¬(400:Int)<=c.length:=by omega
   simp[-C,-E,↓KW,aE,aR,hkn,h1',h3,aC,aA,aB]
   clear hF hT hze h1' h3
   refine aP (λi:Nat=>i<=atX c x.id) (λi=>StL [(0,.d (aE c)),(3,.ptr 1 0),(9,.d (.i .i64 (i:Int)))] none [.cells 40 [.d (.i .i64 x.id),.d (.i .i64 x.dim),.d (aK x.b)]]) (λi=>atX c x.id-i) 0 (Al _) ?_ ?_
   ·refine wkQ [1] ?_ ?_<;>simp[-C,upd,aO,Γ0,aE]
   ·intro i hi
    have hal:=bNo c x.id
    by_cases hgo:i<c.length
    ·have q1:(i:Int)<c.length:=by omega
     have hx1:c[i]? = some c[i]:=Ab hgo
     have hw:Ag.wrap ((i:Int)+1)=(i:Int)+1:=aV
     have hlt:i<atX c x.id↔c[i].id<x.id:=aXb hi hgo
     refine exE c[i] λz hze=>?_
     rw[hze]at hx1 hlt
     have hyc:aN z=[D.i .i64 z.id,.i .i64 z.dim,aK z.b]:=rfl
     by_cases h0:z.id<x.id
     ·simp[-C,-E,↓KW,aE,q1,hx1,hyc,h0,hw,aC,aA,aB]
      refine aI (i+1) (by have:=hlt.2 h0;omega) (by have:=hlt.2 h0;omega) (wkQ [1] ?_ ?_)<;>simp[-C,upd,aO,Γ0,aE]
     ·have hie:i=atX c x.id:=by
       have:¬i<atX c x.id:=λh=>h0 (hlt.1 h)
       omega
      have hpl:=vO c x
      rw[<-hie]at hpl
      have hpn:=nA c x
      have hT:BB i (AQ aN c)=(c.take i).map aN:=BD.symm
      have hD:Cy i (AQ aN c)=(c.drop i).map aN:=Bv.symm
      have hT2:BB c.length (AQ aN c)=AQ aN c:=Ai (by simp)
      have hT3:BB c.length (AQ (AQ AV.d) (AQ aN c))=AQ (AQ AV.d) (AQ aN c):=Ai (by simp)
      have hD2:Cy i (AQ (AQ AV.d) (AQ aN c))=AQ (AQ AV.d) ((c.drop i).map aN):=by rw[Bv,Bv]
      have hi3:i*3+3=(i+1)*3:=by omega
      have hAl:(c.take i).length=i:=by rw[Ax];omega
      have hBl:(c.drop i).length=c.length-i:=Bl
      refine exE (c.take i) λA hA=>?_
      refine exE (c.drop i) λB hB=>?_
      rw[hA]at hT hAl hpl
      rw[hB]at hD hD2 hBl hpl
      have hil:i<=c.length:=by omega
      have hok:=eJ c
      have hokA:=eJ A
      have hokB:=eJ B
      have hffA:=iR aN A
      have hffB:=iR aN B
      have haA:=EI (λ(a:D) (ha:a∈flt aN A)=>Ay.1 (dB eR A) (.d a) (AA.2 ⟨a,ha,rfl⟩))
      have haB:=EI (λ(a:D) (ha:a∈flt aN B)=>Ay.1 (dB eR B) (.d a) (AA.2 ⟨a,ha,rfl⟩))
      have hcA:=bJ aX A
      have hcB:=bJ aX B
      rw[hAl]at hcA
      rw[hBl]at hcB
      have hb1:i*40<=140737488355328/\i<=maxLen:=⟨by omega,aS (by omega)⟩
      have hb2:=cH (n:=i) (by omega)
      have hb3:(i+1+(c.length-i))*40<=140737488355328/\i+1+(c.length-i)<=maxLen:=⟨by omega,aS (by omega)⟩
      have hm1:(1:Nat)<=maxLen:=aS (by decide)
      have hfl:flt aN (cE c x)=flt aN A++([.i .i64 x.id,.i .i64 x.dim,aK x.b]++flt aN B):=by rw[hpl,cX,show x::B=[x]++B from rfl,cX,cG];rfl
      have hpn':(cE c x).length=i+1+(c.length-i):=by omega
      have hce:(flt aN A).map AV.d++AV.d (.i .i64 x.id)::AV.d (.i .i64 x.dim)::AV.d (aK x.b)::(flt aN B).map AV.d=(flt aN (cE c x)).map .d:=by rw[hfl];simp
      have e1:BB ((i+1+(c.length-i))*3) ((flt aN (cE c x)).map AV.d)=(flt aN (cE c x)).map AV.d:=dI aX hpn'
      have e2:chunk 3 (i+1+(c.length-i)) (flt aN (cE c x))=(cE c x).map aN:=cW (by decide) aX hpn'
      have e3:=bJ aX (cE c x)
      rw[hpn']at e3
      simp[-C,-E,↓KW,aE,q1,hx1,hyc,h0,hw,hil,hok,hT,hT2,hT3,hD,hD2,hi3,hAl,hBl,hokA,hokB,hffA,hffB,haA,haB,hcA,hcB,hb1,hb2,hb3,hm1,aS,uW,aC,aA,aB,hkn,hft,hce,e1,e2,e3,cD]
    ·have q1:¬(i:Int)<c.length:=by omega
     have hie:i=atX c x.id:=by omega
     have hpl:=vO c x
     rw[<-hie]at hpl
     have hpn:=nA c x
     have hT:BB i (AQ aN c)=(c.take i).map aN:=BD.symm
     have hD:Cy i (AQ aN c)=(c.drop i).map aN:=Bv.symm
     have hT2:BB c.length (AQ aN c)=AQ aN c:=Ai (by simp)
     have hT3:BB c.length (AQ (AQ AV.d) (AQ aN c))=AQ (AQ AV.d) (AQ aN c):=Ai (by simp)
     have hD2:Cy i (AQ (AQ AV.d) (AQ aN c))=AQ (AQ AV.d) ((c.drop i).map aN):=by rw[Bv,Bv]
     have hi3:i*3+3=(i+1)*3:=by omega
     have hAl:(c.take i).length=i:=by rw[Ax];omega
     have hBl:(c.drop i).length=c.length-i:=Bl
     refine exE (c.take i) λA hA=>?_
     refine exE (c.drop i) λB hB=>?_
     rw[hA]at hT hAl hpl
     rw[hB]at hD hD2 hBl hpl
     have hil:i<=c.length:=by omega
     have hok:=eJ c
     have hokA:=eJ A
     have hokB:=eJ B
     have hffA:=iR aN A
     have hffB:=iR aN B
     have haA:=EI (λ(a:D) (ha:a∈flt aN A)=>Ay.1 (dB eR A) (.d a) (AA.2 ⟨a,ha,rfl⟩))
     have haB:=EI (λ(a:D) (ha:a∈flt aN B)=>Ay.1 (dB eR B) (.d a) (AA.2 ⟨a,ha,rfl⟩))
     have hcA:=bJ aX A
     have hcB:=bJ aX B
     rw[hAl]at hcA
     rw[hBl]at hcB
     have hb1:i*40<=140737488355328/\i<=maxLen:=⟨by omega,aS (by omega)⟩
     have hb2:=cH (n:=i) (by omega)
     have hb3:(i+1+(c.length-i))*40<=140737488355328/\i+1+(c.length-i)<=maxLen:=⟨by omega,aS (by omega)⟩
     have hm1:(1:Nat)<=maxLen:=aS (by decide)
     have hfl:flt aN (cE c x)=flt aN A++([.i .i64 x.id,.i .i64 x.dim,aK x.b]++flt aN B):=by rw[hpl,cX,show x::B=[x]++B from rfl,cX,cG];rfl
     have hpn':(cE c x).length=i+1+(c.length-i):=by omega
     have hce:(flt aN A).map AV.d++AV.d (.i .i64 x.id)::AV.d (.i .i64 x.dim)::AV.d (aK x.b)::(flt aN B).map AV.d=(flt aN (cE c x)).map .d:=by rw[hfl];simp
     have e1:BB ((i+1+(c.length-i))*3) ((flt aN (cE c x)).map AV.d)=(flt aN (cE c x)).map AV.d:=dI aX hpn'
     have e2:chunk 3 (i+1+(c.length-i)) (flt aN (cE c x))=(cE c x).map aN:=cW (by decide) aX hpn'
     have e3:=bJ aX (cE c x)
     rw[hpn']at e3
     simp[-C,-E,↓KW,aE,q1,hil,hok,hT,hT2,hT3,hD,hD2,hi3,hAl,hBl,hokA,hokB,hffA,hffB,haA,haB,hcA,hcB,hb1,hb2,hb3,hm1,aS,uW,aC,aA,aB,hkn,hft,hce,e1,e2,e3,cD]
structure SzC(x:Cl):Prop where
 bl:x.b.length<=100
 sz:∀f∈x.b,Sz f.2
structure SzH(h:Hi):Prop where
 cl:h.c.length<=100
 c:∀x∈h.c,SzC x
 ll:h.l.length<=100
 l:∀x∈h.l,SzC x.c
def dE(x:Cg):bP x=[.i .i64 x.k,.i .i64 x.c.id,.i .i64 x.c.dim,aK x.c.b,.i .i64 x.a,.i .i64 x.b,.i .i64 x.w0,.i .i64 x.w1]:=rfl
def bHr{l:Ch}(hs:∀f∈l,Sz f.2)(hl:l.length<=1000000):Spec Aa 66 [aK l,aK l] (.b true):=by
 refine bF (N:=42) Tryz.func66 ?_;have q0:(((l.length:Int) != (l.length:Int)):Bool)=false:=by simp
 simp[-C,-E,↓KW,aK,q0];refine aP (λi:Nat=>i<=l.length) (λi=>StL [(0,.d (aK l)),(1,.d (aK l)),(5,.d (.i .i64 (i:Int)))] none []) (λi=>l.length-i) 0 (Al _) ?_ ?_
 ·refine wkQ [] ?_ ?_<;>simp[-C,upd,aO,Γ0,aK]
 ·intro i hi;by_cases hgo:i<l.length
  ·have q1:(i:Int)<l.length:=by omega
   have hx:l[i]? = some l[i]:=Ab hgo;have hw:Ag.wrap ((i:Int)+1)=(i:Int)+1:=aV;have hfs:=hs _ (Ar hgo);refine exE l[i] λu hue=>?_
   rw[hue]at hx hfs;have hfe:eL u=[.i .i64 u.1,.b (decide (u.2<0)),aM (aU u.2.natAbs)]:=rfl;have q2:(((u.1:Int) != (u.1:Int)):Bool)=false:=by simp
   have hS:=aEx u.2 u.2 (An hfs (by decide)) (An hfs (by decide));rw[Bx rfl]at hS;simp[-C,-E,↓KW,aK,q1,hx,hfe,q2,aF,aD,aG];refine aJ hS ?_;simp[-C,-E,↓KW,aK,hw];refine aI (i+1) hgo (slQ hgo) (wkQ [] ?_ ?_)<;>simp[-C,upd,aO,Γ0,aK]
  ·have q1:¬(i:Int)<l.length:=by omega
   simp[-C,-E,↓KW,aK,q1]
def aCa{x:Cl}(h:SzC x):Spec Aa 43 [.ag (aN x),.ag (aN x)] (.b true):=by
 have hS:=bHr h.sz (by have:=h.bl;omega);have q1:((x.id==x.id):Bool)=true:=by simp
 have q2:((x.dim==x.dim):Bool)=true:=by simp
 refine bF (N:=24) Tryz.func43 ?_;simp[-C,-E,↓KW,aR,q1,q2,aC,aA,aB];refine aJ hS ?_;simp[-C,-E,↓KW]
def aYh{c:List Cl}(hs:∀x∈c,SzC x)(hl:c.length<=1000000):Spec Aa 18 [aE c,aE c] (.b true):=by
 refine bF (N:=27) Tryz.func18 ?_;have q0:(((c.length:Int) != (c.length:Int)):Bool)=false:=by simp
 simp[-C,-E,↓KW,aE,q0];refine aP (λi:Nat=>i<=c.length) (λi=>StL [(0,.d (aE c)),(1,.d (aE c)),(5,.d (.i .i64 (i:Int)))] none []) (λi=>c.length-i) 0 (Al _) ?_ ?_
 ·refine wkQ [] ?_ ?_<;>simp[-C,upd,aO,Γ0,aE]
 ·intro i hi;by_cases hgo:i<c.length
  ·have q1:(i:Int)<c.length:=by omega
   have hx:c[i]? = some c[i]:=Ab hgo;have hw:Ag.wrap ((i:Int)+1)=(i:Int)+1:=aV;have hS:=aCa (hs _ (Ar hgo));refine exE c[i] λy hye=>?_
   rw[hye]at hx hS;have hyc:aN y=[D.i .i64 y.id,.i .i64 y.dim,aK y.b]:=rfl;simp[-C,-E,↓KW,aE,q1,hx,hyc,aC,aA,aB];refine aJ hS ?_;simp[-C,-E,↓KW,aE,hw];refine aI (i+1) hgo (slQ hgo) (wkQ [] ?_ ?_)<;>simp[-C,upd,aO,Γ0,aE]
  ·have q1:¬(i:Int)<c.length:=by omega
   simp[-C,-E,↓KW,aE,q1]
def aHx{x:Cg}(h:SzC x.c):Spec Aa 39 [.ag (bP x),.ag (bP x)] (.b true):=by
 have hS:=aCa h;have q:∀n:Int,((n==n):Bool)=true:=λn=>by simp
 refine bF (N:=38) Tryz.func39 ?_;simp[-C,-E,↓KW,dE,q,oV,zX,aC,aA,aB];refine aJ hS ?_;simp[-C,-E,↓KW,dE,q,oV,zX,aC,aA,aB]
def bX(h:Hi):bZ h=.ag [.i .i64 h.s,aE h.c,bL h.l]:=rfl
def pN(l:List Cg):aO (bL l)=.d (bL l):=rfl
def rG(l:List Cg):one (.d (bL l))=true:=rfl
def mM(l:List Cg):fN (.d (bL l))=some [.d (bL l)]:=rfl
def lY{h:Hi}(hz:SzH h):Spec Aa 13 [bZ h,bZ h] (.b true):=by
 have hS:=aYh hz.c (by have:=hz.cl;omega);have hll:=hz.ll;have q0:((h.s != h.s):Bool)=false:=by simp
 have q00:(((h.l.length:Int) != (h.l.length:Int)):Bool)=false:=by simp
 refine bF (N:=47) Tryz.func13 ?_;simp[-C,-E,↓KW,bX,q0,rF,lR,aBf,rG,mM,pN];refine aJ hS ?_;simp[-C,-E,↓KW,bX,bL,q00,rF,lR,aBf];refine aP (λi:Nat=>i<=h.l.length) (λi=>StL [(2,.ptr 1 0),(3,.ptr 2 0),(5,.d (.i .i64 (i:Int)))] none [.cells 35 [.d (.i .i64 h.s),.d (aE h.c),.d (bL h.l)],.cells 35 [.d (.i .i64 h.s),.d (aE h.c),.d (bL h.l)]]) (λi=>h.l.length-i) 0 (Al _) ?_ ?_
 ·refine wkQ [1,2] ?_ ?_<;>simp[-C,upd,aO,Γ0,bL,aE]
 ·intro i hi;by_cases hgo:i<h.l.length
  ·have q1:(i:Int)<h.l.length:=by omega
   have hx:h.l[i]? = some h.l[i]:=Ab hgo;have hw:Ag.wrap ((i:Int)+1)=(i:Int)+1:=aV;have hS:=aHx (hz.l _ (Ar hgo));refine exE h.l[i] λy hye=>?_
   rw[hye]at hx hS;have hyc:=dE y;simp[-C,-E,↓KW,bL,q1,hx,hyc,rF,lR,aBf,aC,aA,aB];refine aJ hS ?_;simp[-C,-E,↓KW,bL,hw];refine aI (i+1) hgo (slQ hgo) (wkQ [1,2] ?_ ?_)<;>simp[-C,upd,aO,Γ0,bL,aE]
  ·have q1:¬(i:Int)<h.l.length:=by omega
   simp[-C,-E,↓KW,bL,q1]
def bZf(m:List Nat)(hl:m.length<=1099511627776):Spec Aa 90 [aM m,aM m] (.b true):=by
 refine bF (N:=26) Tryz.func90 ?_;have q0:(((m.length:Int) != (m.length:Int)):Bool)=false:=by simp
 simp[-C,-E,↓KW,aM,q0];refine aP (λi:Nat=>i<=m.length) (λi=>StL [(0,.d (aM m)),(1,.d (aM m)),(12,.d (.i .i64 m.length)),(13,.d (.i .i64 (i:Int)))] none []) (λi=>m.length-i) 0 (Al _) ?_ ?_
 ·refine wkQ [] ?_ ?_<;>simp[-C,upd,aO,Γ0,aM]
 ·intro i hi;by_cases hgo:i<m.length
  ·have q1:(i:Int)<m.length:=by omega
   have hx:m[i]? = some m[i]:=Ab hgo;have hw:Ag.wrap ((i:Int)+1)=(i:Int)+1:=aV;refine exE m[i] λu hue=>?_
   rw[hue]at hx;have q2:(((u:Int) != (u:Int)):Bool)=false:=by simp
   simp[-C,-E,↓KW,aM,q1,hx,q2,hw];refine aI (i+1) hgo (slQ hgo) (wkQ [] ?_ ?_)<;>simp[-C,upd,aO,Γ0,aM]
  ·have q1:¬(i:Int)<m.length:=by omega
   simp[-C,-E,↓KW,aM,q1]
def bBa(u:Int×Int)(hs:Sz u.2):Spec Aa 72 [.ag (eL u),.ag (eL u)] (.b true):=by
 have hS:=bZf (aU u.2.natAbs) (An hs (by decide));have q:((u.1==u.1):Bool)=true:=by simp
 refine bF (N:=28) Tryz.func72 ?_;by_cases hn:u.2<0
 ·have q2:((decide (u.2<0)==decide (u.2<0)):Bool)=true:=by simp
  simp[-C,-E,↓KW,bE,q,q2,hn,aF,aD,aG];refine aJ hS ?_;simp[-C,-E,↓KW]
 ·have q2:((decide (u.2<0)==decide (u.2<0)):Bool)=true:=by simp
  simp[-C,-E,↓KW,bE,q,q2,hn,aF,aD,aG];refine aJ hS ?_;simp[-C,-E,↓KW]
def bLv{l:Ch}(hs:∀f∈l,Sz f.2)(hl:l.length<=1000000):Spec Aa 71 [aK l,aK l,.lit (.func (.func 72) #[] #[])] (.b true):=by
 refine bF (N:=32) Tryz.func71 ?_;have h1:(((l.length:Int) != (l.length:Int)):Bool)=false:=by simp
 simp[-C,-E,↓KW,↓cO,↓bR,↓cM,↓cN,aK,h1];refine aP (λi:Nat=>i<=l.length) (λi=>StL [(0,.d (aK l)),(1,.d (aK l)),(2,.d (.lit (.func (.func 72) #[] #[]))),(15,.d (aK l)),(16,.d (.i .i64 (l.length:Int))),(17,.d (.i .i64 (i:Int)))] none []) (λi=>l.length-i) 0 (Al _) ?_ ?_
 ·refine wkQ [] ?_ ?_<;>simp[-C,upd,aO,Γ0,aK]
 ·intro i hi;by_cases hgo:i<l.length
  ·have q1:(i:Int)<l.length:=by omega
   have hx:l[i]? = some l[i]:=Ab hgo;have hxs:=hs _ (Ar hgo);have hw:Ag.wrap ((i:Int)+1)=(i:Int)+1:=aV;refine exE l[i] λu hue=>?_
   rw[hue]at hx hxs;have hS:=bBa u hxs;simp[-C,-E,↓KW,↓cO,↓bR,↓cM,↓cN,aK,bE,q1,hx,aD,aF,aG];refine oA (ds:=[.ag (eL u),.ag (eL u)]) (by rfl) hS ?_;simp[-C,-E,↓KW,↓cO,↓bR,↓cM,↓cN,hw];refine aI (i+1) hgo (slQ hgo) (wkQ [] ?_ ?_)<;>simp[-C,upd,aO,Γ0,aK]
  ·have q1:¬(i:Int)<l.length:=by omega
   simp[-C,-E,↓KW,↓cO,↓bR,↓cM,↓cN,aK,q1]
def aIp{x:Cl}(h:SzC x):Spec Aa 51 [.ag (aN x),.ag (aN x)] (.b true):=by
 have hS:=bLv h.sz (by have:=h.bl;omega);have q:∀n:Int,((n==n):Bool)=true:=λn=>by simp
 refine bF (N:=24) Tryz.func51 ?_;simp[-C,-E,↓KW,↓cO,↓bR,↓cM,↓cN,aR,q,aC,aA,aB,jY,nJ];refine aJ hS ?_;simp[-C,-E,↓KW]
def aSs{c:List Cl}(hs:∀x∈c,SzC x)(hl:c.length<=1000000):Spec Aa 50 [aE c,aE c,.lit (.func (.func 51) #[] #[])] (.b true):=by
 refine bF (N:=32) Tryz.func50 ?_;have h1:(((c.length:Int) != (c.length:Int)):Bool)=false:=by simp
 simp[-C,-E,↓KW,↓cO,↓bR,↓cM,↓cN,aE,h1];refine aP (λi:Nat=>i<=c.length) (λi=>StL [(0,.d (aE c)),(1,.d (aE c)),(2,.d (.lit (.func (.func 51) #[] #[]))),(15,.d (aE c)),(16,.d (.i .i64 (c.length:Int))),(17,.d (.i .i64 (i:Int)))] none []) (λi=>c.length-i) 0 (Al _) ?_ ?_
 ·refine wkQ [] ?_ ?_<;>simp[-C,upd,aO,Γ0,aE]
 ·intro i hi;by_cases hgo:i<c.length
  ·have q1:(i:Int)<c.length:=by omega
   have hx:c[i]? = some c[i]:=Ab hgo;have hxs:=hs _ (Ar hgo);have hw:Ag.wrap ((i:Int)+1)=(i:Int)+1:=aV;refine exE c[i] λu hue=>?_
   rw[hue]at hx hxs;have hS:=aIp hxs;simp[-C,-E,↓KW,↓cO,↓bR,↓cM,↓cN,aE,aR,q1,hx,aA,aC,aB];refine oA (ds:=[.ag (aN u),.ag (aN u)]) (by rfl) hS ?_;simp[-C,-E,↓KW,↓cO,↓bR,↓cM,↓cN,hw];refine aI (i+1) hgo (slQ hgo) (wkQ [] ?_ ?_)<;>simp[-C,upd,aO,Γ0,aE]
  ·have q1:¬(i:Int)<c.length:=by omega
   simp[-C,-E,↓KW,↓cO,↓bR,↓cM,↓cN,aE,q1]
def aOq{x:Cg}(h:SzC x.c):Spec Aa 52 [.ag (bP x),.ag (bP x)] (.b true):=by
 have hS:=aIp h;have q:∀n:Int,((n==n):Bool)=true:=λn=>by simp
 refine bF (N:=38) Tryz.func52 ?_;simp[-C,-E,↓KW,dE,q,oV,zX,aC,aA,aB];refine aJ hS ?_;simp[-C,-E,↓KW,dE,q,oV,zX,aC,aA,aB]
end Go.Am
end
section
open List renaming map_map->C,mapM_map->E
open Go Go.Am
namespace Go.Proofs
open Go.RowKit Go.Lib Go.Shelf
noncomputable def Tryz.chgI:TypeInfo:=((Aa).info? 43).get (by kernel_rfl)
def Tryz.chgI_eq:(Aa).info? 43=some Tryz.chgI:=by kernel_rfl
noncomputable def Tryz.chgZ:Value:=Tryz.chgI.zero.get (by kernel_rfl)
def Tryz.chgI_zero:Tryz.chgI.zero=some Tryz.chgZ:=by kernel_rfl
def Tryz.chgZ_size:Tryz.chgZ.cells.size=8:=by kernel_rfl
def Tryz.chgI_size:Tryz.chgI.size=8:=by kernel_rfl
def Tryz.chgI_bytes:Tryz.chgI.bytes=80:=by kernel_rfl
def Tryz.grow_nil(n:Nat)(w:World)(h0:0<n)(hn:n<=1000000):Calls Aa 60 #[.slice none 0 0,.int .i64 n] w λe w'=>∃G ROW,n<=G/\G<=maxLen/\G*8<=ROW.size /\
  e=.returned (.slice (some ⟨w.heap.size,0,none⟩) 0 G)/\w'=w.drew.alloc (.cells ROW 43):=by
 have mixed:(Aa).follows .mixedOrders=true:=by kernel_rfl
 have hi0:=Tryz.chgI_eq;have hz0:=Tryz.chgI_zero;have hzs:=Tryz.chgI_size;have hzb:=Tryz.chgI_bytes;have hzc:=Tryz.chgZ_size
 have hu33:(Aa).underlying 33=some (.slice 43):=by kernel_rfl
 have hu3:(Aa).underlying 3=some (.int .i64):=by kernel_rfl
 have h1:¬((n:Int)<0):=by omega
 have h4:(n:Int)>0:=by omega
 have hw:Ag.wrap ((n:Int)-0)=(n:Int):=by rw[IntKind.wrap_i64];omega
 have hw64:wrap64 (n:Int)=(n:Int):=by unfold wrap64;omega
 have hold:(C8 Tryz.chgI.size 0 (.slice none 0 0)).run Aa w.drew=.ok ([]:List Value).toArray w.drew:=run_firstCells_none w.drew _ 0 0 0
 have hrz:∀ty,(BT #[33,3] ty #[.slice none 0 0,.int .i64 (n:Int)]).run Aa w =
   .ok (.slice (some ⟨w.heap.size,0,none⟩) n (grownCap w n 0 43)) (w.drew.alloc (.cells (([]:List Value).toArray++BG Tryz.chgZ.cells n++BG Tryz.chgZ.cells (grownCap w n 0 43-n)) 43)):=λty=>by
  have h:=Gd w 33 3 ty 43 Tryz.chgI _ .i64 .i64 hu33 hu3 hi0 hz0 none 0 0 [] hold n h0 (by omega) (by omega) (by omega) (by rw[hzb];omega) (by rw[hzb];exact growslice_fits (by omega) (by omega))
  rw[A6]at h
  exact h
 have hGn:n<=grownCap w n 0 43:=grownCap_ge w _ _ _
 have hGm:grownCap w n 0 43<=maxLen:=grownCap_le_maxLen w n 0 43 (by unfold maxLen;omega)
 obtain⟨G,hG⟩:∃G,G=grownCap w n 0 43:=⟨_,rfl⟩
 obtain⟨ROW,hROW⟩:∃ROW:Array Value,ROW=([]:List Value).toArray++BG Tryz.chgZ.cells n++BG Tryz.chgZ.cells (G-n):=⟨_,rfl⟩
 rw[<-hG]at hrz hGn hGm
 rw[<-hROW]at hrz
 have hRl:G*8<=ROW.size:=by rw[hROW];simp only[DG,B0,Bq,BG,Array.size_map,Array.size_range,hzc];omega
 have hG63:G<=9223372036854775807:=by unfold maxLen at hGm;omega
 have D:Aside (n<=G/\G<=maxLen/\G*8<=ROW.size):=⟨hGn,hGm,hRl⟩
 clear hG hROW hRl hGm hold
 go_enter Tryz.func60,Tryz.ntmps60
 go_wp2_with (at_builtin;refine Dy _ rfl _ _ _ _ rfl _ _ rfl rfl _ _ (hrz _) ?_)
 go_ret
 exact⟨G,D.out.1,D.out.2.1,ROW,D.out.2.2,rfl,rfl⟩
def Tryz.grow_zero(w:World):Calls Aa 60 #[.slice none 0 0,.int .i64 0] w λe w'=>e=.returned (.slice none 0 0)/\w'=w:=by
 have mixed:(Aa).follows .mixedOrders=true:=by kernel_rfl
 go_enter Tryz.func60,Tryz.ntmps60
 go_wp2
 go_ret
 exact⟨rfl,rfl⟩
def aOt{vs:Array Value}(h:2=vs.size):∃v0 v1,vs=#[v0,v1]:=by
 obtain⟨v0,hv0⟩:∃v1,vs[0]? = some v1:=⟨vs[0],AD (by omega)⟩;obtain⟨v1,hv1⟩:∃v1,vs[1]? = some v1:=⟨vs[1],AD (by omega)⟩;refine⟨v0,v1,?_⟩;apply DX;intro k;match k with
 |0=>simpa using hv0
 |1=>simpa using hv1
 |k+2=>rw[B6 (by omega)];simp
def Tryz.growN(n:Nat)(h0:0<n)(hn:n<=1000000):aHo Aa 60 [.nil,.d (.i .i64 (n:Int))] (λm=>.own m 0 0 8) (λ_=>[.cells 43 []]):=by
 intro A W vs hA hl hv;obtain⟨v0,v1,rfl⟩:=aOt hl;have h1:=hv 0 _ v0 rfl rfl;cases h1;have h2:=hv 1 _ v1 rfl rfl;cases h2 with|d _ _ h2 =>
 cases h2;refine⟨enters_of Tryz.func60 (by kernel_rfl) rfl _,?_⟩;refine(Tryz.grow_nil n W h0 hn).mono ?_;rintro e w' ⟨G,ROW,hG,hGm,hR,rfl,rfl⟩;have hb:Below W.heap.size W (W.drew.alloc (.cells ROW 43)):=by have h:=(Below.refl W.heap.size W.drew).alloc (Ap _) (.cells ROW 43);exact⟨h.os,h.tape,h.output,h.size,h.block⟩
 have hat:(W.drew.alloc (.cells ROW 43)).heap[W.heap.size]? = some (.cells ROW 43 (0,0)):=by simp only[EO,World.drew];rw[Dq,Ad rfl]
 have hsz:W.heap.size<(W.drew.alloc (.cells ROW 43)).heap.size:=by simp only[EO,World.drew,EA];omega
 refine⟨_,rfl,hb,λm hm=>⟨A,λid=>if id=m then some W.heap.size else none,λb h=>.inl h,?_,λid=>?_,λid b h=>?_,λi o b ho hb'=>?_,λid id' b h h'=>?_⟩⟩
 ·have:=V.own (F:=A) (w:=W.drew.alloc (.cells ROW 43)) (ι:=λid=>if id=m then some W.heap.size else none) m 0 0 8 W.heap.size G ROW 43 (Ad rfl) hat (by omega) (by omega) hGm;rwa [Cn]at this
 ·constructor
  ·rintro⟨b,h⟩;simp only at h;split at h
   ·rename_i e;subst e;exact⟨Ap _,by simp⟩
   ·cases h
  ·rintro⟨h1,h2⟩;have e:id=m:=by simp at h2;omega
   exact⟨_,Ad e⟩
 ·simp only at h;split at h
  ·injection h with h;subst h
   exact⟨Ap _,hsz,λh=>Nat.lt_irrefl _ (hA _ h)⟩
  ·cases h
 ·have hi:i=0:=by have:=(Ah.1 ho).1;simp at this;exact this
  subst hi;simp at ho;subst ho;simp at hb';subst hb';exact⟨_,hat,.cells _ _ _ (Al _) λk c h=>by simp at h⟩
 ·simp only at h h';split at h
  ·rename_i e;split at h'
   ·rename_i e';exact e.trans e'.symm
   ·cases h'
  ·cases h
def Tryz.growN0:aHo Aa 60 [.nil,.d (.i .i64 0)] (λ_=>.nil) (λ_=>[]):=by
 intro A W vs hA hl hv;obtain⟨v0,v1,rfl⟩:=aOt hl;have h1:=hv 0 _ v0 rfl rfl;cases h1;have h2:=hv 1 _ v1 rfl rfl;cases h2 with|d _ _ h2 =>
 cases h2;refine⟨enters_of Tryz.func60 (by kernel_rfl) rfl _,?_⟩;refine(Tryz.grow_zero W).mono ?_;rintro e w' ⟨rfl,rfl⟩;exact⟨_,rfl,Below.refl _ _,λm hm=>⟨A,λ_=>none,λb h=>.inl h,.nil,λid=>⟨λ⟨b,h⟩=>(by cases h),λh=>(by simp at h;omega)⟩,λid b h=>(by cases h),λi o b h=>(by simp at h),λid id' b h=>(by cases h)⟩⟩
end Go.Proofs
namespace Go.Am
open Go.Proofs
def aKi(a b:List Cg):D:=.sl [[bL a],[bL b]]
def bAb(a b:List Cg)(ha:a.length<=10000)(hb:b.length<=10000):Spec Aa 36 [aKi a b] (bL (a++b)):=by
 have hw0:Ag.wrap (a.length:Int)=(a.length:Int):=aV;have hw1:Ag.wrap ((a.length:Int)+b.length)=(a.length:Int)+b.length:=aV;have hwz:Ag.wrap 1=1:=by decide
 have hwz2:Ag.wrap 2=2:=by decide
 have h00:¬(a.length:Int)<0:=by omega
 have h01:¬(a.length:Int)+b.length<0:=by omega
 refine bF (N:=36) Tryz.func36 ?_;simp[-C,-E,↓KW,aKi,rG,mM,pN];refine aFp 3 ?_;simp[-C,-E,↓KW,↓cO,↓bR,↓cM,↓cN,aKi,bL,rG,mM,pN,hw0,hw1,hwz,hwz2,h00,h01];by_cases hab:a.length+b.length=0
 ·have ea:a=[]:=AE (by omega);have eb:b=[]:=AE (by omega);subst ea;subst eb;refine aJi (λ_=>.nil) (λ_=>[]) (by simp) (by simp) (by simp) (by rfl) (by simpa[gM,dU]using Tryz.growN0) ?_;simp[-C,-E,↓KW,rR,bL];refine aFp 3 ?_;simp[-C,-E,↓KW,↓cO,↓bR,↓cM,↓cN,aKi,bL,rG,mM,pN,hwz,hwz2]
 ·refine aJi (λm=>.own m 0 0 8) (λ_=>[.cells 43 []]) (by simp) (by simp) (by simp) (by rfl) (by simpa[gM,dU]using Tryz.growN (a.length+b.length) (by omega) (by omega)) ?_;have hok:∀l:List Cg,fB 8 (l.map bP)=true:=λl=>by cases l<;>simp[fB,fX]
  have hone:∀l:List Cg,(∀(x:Cg),x∈l->∀(x_1:D),x_1∈bP x->one (AV.d x_1)=true)↔True:=λl=>⟨λ_=>trivial,λ_ x _ d hd=>Ay.1 (pC x) (.d d) (AA.2 ⟨d,hd,rfl⟩)⟩
  have hal:∀l:List Cg,(∀d∈flt bP l,one (AV.d d)=true)↔True:=λl=>⟨λ_=>trivial,λ_ d hd=>Ay.1 (dB pC l) (.d d) (AA.2 ⟨d,hd,rfl⟩)⟩
  have hff:=iR bP;have hla:=bJ fX a;have hlb:=bJ fX b;have hbb:a.length*80<=140737488355328/\a.length<=maxLen:=⟨by omega,aS (by omega)⟩;have hbb2:(a.length+b.length)*80<=140737488355328/\a.length+b.length<=maxLen:=⟨by omega,aS (by omega)⟩;have hab':(a++b).length=a.length+b.length:=Ak;have e1:BB ((a.length+b.length)*8) ((flt bP (a++b)).map AV.d)=(flt bP (a++b)).map AV.d:=dI fX hab';have e2:chunk 8 (a.length+b.length) (flt bP (a++b))=(a++b).map bP:=cW (by decide) fX hab';have e3:=bJ fX (a++b);rw[hab']at e3;have e4:(flt bP a).map AV.d++(flt bP b).map AV.d=(flt bP (a++b)).map AV.d:=by rw[cX,Bu]
  simp[-C,-E,↓KW,pR,bL];refine aFp 3 ?_;simp[-C,-E,↓KW,↓cO,↓bR,↓cM,↓cN,aKi,bL,rG,mM,pN,hwz,hwz2,uW,hok,hone,hal,hff,hla,hlb,hbb,hbb2,e1,e2,e3,e4]
end Go.Am
end
section
open List renaming map_map->C,mapM_map->E
open Go Go.Am Go.Proofs
namespace Go.Am
def bCg{c:List Cl}(hc:Inc c)(x:Cl):aMu c (oF c x.id) x=cE c x:=by
 have h1:(c.takeWhile λy=>decide (y.id<x.id))++(c.dropWhile λy=>decide (y.id<x.id))=c:=Du;obtain⟨a,ha⟩:∃a,(c.takeWhile λy=>decide (y.id<x.id))=a:=⟨_,rfl⟩;obtain⟨d,hd⟩:∃d,(c.dropWhile λy=>decide (y.id<x.id))=d:=⟨_,rfl⟩;have hp:oF c x.id=a.length:=by
  rw[ha,hd]at h1;refine aMi (by rw[<-h1];simp) (λk y hk hy=>?_) λk y hk hy=>?_
  ·rw[<-h1,AJ hk]at hy;have hm:=Aq hy;rw[<-ha]at hm;have:=Ay.1 (List.all_takeWhile (l:=c) (p:=λy=>decide (y.id<x.id))) y hm;simpa using this
  ·cases hdd:d with
   |nil =>
    rw[hdd,A7]at h1;have:=(Ah.1 hy).1;rw[<-h1]at this;omega
   |cons z d' =>
    have hz:¬z.id<x.id:=by
     have hne:(c.dropWhile λy=>decide (y.id<x.id))≠[]:=by rw[hd,hdd];simp
     have h2:=List.head_dropWhile_not (λy:Cl=>decide (y.id<x.id)) hne;simp only[hd,hdd,List.head_cons]at h2;simpa using h2
    rw[hdd]at h1;rcases Bf a.length k with h|h
    ·have hzk:c[a.length]? = some z:=by rw[<-h1,Az (Ap _)];simp
     have hk1:=(Ah.1 hzk);have hk2:=(Ah.1 hy);obtain⟨q1,q2⟩:=hk1;obtain⟨q3,q4⟩:=hk2;have:=(BC.1 hc) a.length k q1 q3 h;rw[q2,q4]at this;omega
    ·have hke:k=a.length:=by omega
     subst hke;rw[<-h1,Az (Ap _)]at hy;simp at hy;subst hy;omega
 unfold aMu cE;rw[ha,hd]at h1 ⊢;rw[hp];have e1:c.take a.length=a:=by rw[<-h1,List.take_left'];rfl
 have e2:c.drop a.length=d:=by rw[<-h1,List.drop_left'];rfl
 rw[e1,e2]
def aBe(c:List Cl):inj (aE c)=.d (aE c):=rfl
def bMg{c:List Cl}{x:Cl}{e f:Nat}(hc:Inc c)(hz:SzX e c)(hxv:Val x.b)(hxl:x.b.length<=100)(hxb:Bnd (2^f) x.b)(hd:-1000000<=x.dim/\x.dim<=1000000)(hef:e+f+20<4398046511104) :
  Spec Aa 133 [aE c,.ag (aN x)] (.tp [aE (aFu c x).1,.i .i64 (aFu c x).2]):=by
 have hcl:=hz.len
 have hP:=aNd hc x.id (by omega)
 have hF:=bUe hc (by omega) hxv hxl (hxb.sz (by omega)) hd
 have hC:=bMh hc hz hxl hxb hef
 have hK:=bUl (l:=x.b) (by omega)
 have hpl:=bCg hc x
 have hpo:oF c x.id<=c.length:=by unfold oF;exact List.countP_le_length
 unfold aFu
 refine bF (N:=41) Tryz.func133 ?_
 simp[-C,-E,↓KW,aE,aR,aC,aA,aB]
 refine aJ hP ?_
 have hkn:kn c x.id=(bG c x.id).isSome:=rfl
 cases hfd:bG c x.id with
 |some y =>
  rw[hfd]at hkn
  simp[-C,-E,↓KW,aE,aR,hkn,aC,aA,aB,cD]
 |none =>
  rw[hfd]at hkn
  simp[-C,-E,↓KW,aE,aR,hkn,aC,aA,aB]
  refine aJ hF ?_
  by_cases h1:oH c x=0
  rotate_left
  ·have h1':((oH c x != 0):Bool)=true:=by simpa using h1
   simp[-C,-E,↓KW,aE,aR,hkn,h1',h1,aC,aA,aB,cD]
  ·have h1':((oH c x != 0):Bool)=false:=by simpa using h1
   simp[-C,-E,↓KW,aE,aR,hkn,h1',h1,aC,aA,aB]
   refine aJ hC ?_
   by_cases h2:bdX c x.b=[]
   rotate_left
   ·rw[Bo h2]
    simp[-C,-E,↓KW,aE,aR,hkn,h1',h1,h2,aC,aA,aB,cD]
   ·rw[Bx h2]
    have h3:¬(400:Int)<=c.length:=by omega
    have h3':¬400<=c.length:=by omega
    simp[-C,-E,↓KW,aE,aR,hkn,h1',h1,h2,h3,h3',aC,aA,aB]
    refine aJ hK ?_
    simp[-C,-E,↓KW,aE,aR,hkn,h1',h1,h2,h3,h3',aC,aA,aB,aQ,aT]
    by_cases hce:c=[]
    ·subst hce
     refine iO [aE []] (λ_=>.fd []) (λ_=>[]) (by simp) (by simp) (by simp) (by rfl) (by rfl) Tryz.cloneX0 ?_
     simp[-C,-E,↓KW,rR,aC,aA,aB]
     refine bCo (h:=.fd []) (ds:=[.i .i64 (0:Nat),.sl [aN x]]) (l:=[2]) (by simp) (by simp[gM,dU]) rfl rfl (by rfl) (by rfl) Tryz.insU0 ?_
     have hpx:cE [] x=[x]:=rfl
     simp[-C,-E,↓KW,hkn,h1,h2,hpx,h3',aBe,cD,aE]
    ·refine iO [aE c] (λm=>.own m 0 c.length 3) (λ_=>[.cells 40 ((flt aN c).map .d)]) (by simp) (by simp) (by simp) (by rfl) (by rfl) (bAg hce (by omega)) ?_
     simp[-C,-E,↓KW,pR,aC,aA,aB]
     refine aQw (id:=2) (h:=.own 0 0 c.length 3) (ho:=.cells 40 ((flt aN c).map .d)) (ds:=[.i .i64 (oF c x.id),.sl [aN x]]) (l:=[3]) (by simp) (by simp[gM,dU,hd1]) (by simp[dU]) (by simp[oG,noh,aFg]) (by rfl) (by decide) (by rfl) (Tryz.insU hpo (by omega)) ?_
     rw[hpl]
     simp[-C,-E,↓KW,hkn,h1,h2,h3',aBe,cD,aE]
def bQk{c:List Cl}(hc:Inc c){n:Int}(h:(bG c n).isSome=true):oF c n<c.length/\c.take (oF c n)++c.drop (oF c n+1)=xI c n:=by
 obtain⟨x,hx⟩:=B9.1 h;have hp:=aZt hc hx;obtain⟨h1,h2⟩:=dF hx;obtain⟨hl,he⟩:=Ah.1 hp;refine⟨hl,?_⟩;unfold xI;conv=>rhs;rw[<-CM (oF c n) c,AP hl]
 rw[BQ,CH];have e1:(c.take (oF c n)).filter (λy=>!decide (y.id=n))=c.take (oF c n):=Eh.2 λy hy=>by obtain⟨k,hk,rfl⟩:=Bw hy;rw[Ax]at hk;rw[List.getElem_take];have:=(BC.1 hc) k (oF c n) (by omega) hl (by omega);rw[he,h2]at this;simp;omega
 have e2:(c.drop (oF c n+1)).filter (λy=>!decide (y.id=n))=c.drop (oF c n+1):=Eh.2 λy hy=>by obtain⟨k,hk,rfl⟩:=Bw hy;rw[Bl]at hk;rw[List.getElem_drop];have:=(BC.1 hc) (oF c n) (oF c n+1+k) hl (by omega) (by omega);rw[he,h2]at this;simp;omega
 rw[e1,e2,he,h2];simp
def bMf{c:List Cl}(n:Int)(hc:Inc c)(hl:c.length<=1000000)(hbl:∀y∈c,y.b.length<=1000000):Spec Aa 162 [aE c,.i .i64 n] (.tp [aE (aHw c n).1,.i .i64 (aHw c n).2]):=by
 have hP:=aNd hc n hl;unfold aHw;have hkn:kn c n=(bG c n).isSome:=rfl;refine bF (N:=45) Tryz.func162 ?_;simp[-C,-E,↓KW,aE];refine aJ hP ?_;cases hfd:(bG c n).isSome with
 |false =>
  rw[hfd]at hkn;simp[-C,-E,↓KW,aE,hkn,cD]
 |true =>
  obtain⟨hpl,hrm⟩:=bQk hc hfd;rw[hfd]at hkn;simp[-C,-E,↓KW,aE,hkn];refine exE (oF c n) λp hpe=>?_
  rw[hpe]at hpl hrm;simp only[hpe];refine aP (λi:Nat=>i<=c.length/\xY (c.take i) n=false) (λi=>StL [(0,.d (aE c)),(1,.d (.i .i64 n)),(6,.d (.i .i64 (p:Nat))),(20,.d (aE c)),(21,.d (.i .i64 c.length)),(22,.d (.i .i64 (i:Int)))] none []) (λi=>c.length-i) 0 ⟨Al _,rfl⟩ ?_ ?_
  ·refine wkQ [] ?_ ?_<;>simp[-C,upd,aO,Γ0,aE]
  ·rintro i ⟨hi,hu⟩;by_cases hgo:i<c.length
   ·have q1:(i:Int)<c.length:=by omega
    have hx:c[i]? = some c[i]:=Ab hgo;have hw:Ag.wrap ((i:Int)+1)=(i:Int)+1:=aV;have hyl:=hbl _ (Ar hgo);have hym:=Ar hgo;have htk:xY (c.take (i+1)) n=c[i].b.any λf=>decide (f.1=n):=by unfold xY at hu ⊢;rw[AM,hx,FQ,hu];simp
    refine exE c[i] λy hye=>?_
    rw[hye]at hx hyl htk hym;have hyc:aN y=[D.i .i64 y.id,.i .i64 y.dim,aK y.b]:=rfl;simp[-C,-E,↓KW,aE,aK,q1,hx,hyc,aC,aA,aB];refine aP (λj:Nat=>j<=y.b.length/\((y.b.take j).any λf=>decide (f.1=n))=false) (λj=>StL [(0,.d (aE c)),(1,.d (.i .i64 n)),(6,.d (.i .i64 (p:Nat))),(20,.d (aE c)),(21,.d (.i .i64 c.length)),(22,.d (.i .i64 (i:Int))),(27,.d (aK y.b)),(28,.d (.i .i64 y.b.length)),(29,.d (.i .i64 (j:Int)))] none []) (λj=>y.b.length-j) 0 ⟨Al _,rfl⟩ ?_ ?_
    ·refine wkQ [] ?_ ?_<;>simp[-C,upd,aO,Γ0,aE,aK]
    ·rintro j ⟨hj,hv⟩;by_cases hgo2:j<y.b.length
     ·have q2:(j:Int)<y.b.length:=by omega
      have hf:y.b[j]? = some y.b[j]:=Ab hgo2;have hw2:Ag.wrap ((j:Int)+1)=(j:Int)+1:=aV;have hfm:=Ar hgo2;have ht2:((y.b.take (j+1)).any λf=>decide (f.1=n))=decide (y.b[j].1=n):=by rw[AM,hf,FQ,hv];simp
      refine exE y.b[j] λu hue=>?_
      rw[hue]at hf ht2 hfm;have hfe:eL u=[.i .i64 u.1,.b (decide (u.2<0)),aM (aU u.2.natAbs)]:=rfl;by_cases h0:u.1=n
      ·have h0':((u.1==n):Bool)=true:=by simpa using h0
       have hfin:xY c n=true:=by unfold xY;rw[Db];exact⟨y,hym,Db.2 ⟨u,hfm,by simpa using h0⟩⟩
       simp[-C,-E,↓KW,aE,aK,q2,hx,hyc,hf,hfe,h0',hfin,hkn,cD,aC,aA,aB,aF,aD,aG]
      ·have h0':((u.1==n):Bool)=false:=by simpa using h0
       simp[-C,-E,↓KW,aE,aK,q2,hx,hyc,hf,hfe,h0',hw2,aC,aA,aB,aF,aD,aG];refine aI (j+1) ⟨hgo2,by rw[ht2];exact Bo h0⟩ (AF hgo2 (AK _)) (wkQ [] ?_ ?_)<;>simp[-C,upd,aO,Γ0,aE,aK]
     ·have q2:¬(j:Int)<y.b.length:=by omega
      rw[Ai (by omega)]at hv;simp[-C,-E,↓KW,aE,aK,q2,hx,hyc,hw,aC,aA,aB];refine aI (i+1) ⟨hgo,by rw[htk];exact hv⟩ (slQ hgo) (wkQ [] ?_ ?_)<;>simp[-C,upd,aO,Γ0,aE,aK]
   ·have q1:¬(i:Int)<c.length:=by omega
    rw[Ai (by omega)]at hu;have hce:c≠[]:=λe=>by rw[e]at hpl;simp at hpl
    have hwp:Ag.wrap ((p:Int)+1)=(p:Int)+1:=aV;simp[-C,-E,↓KW,aE,q1];refine iO [aE c] (λm=>.own m 0 c.length 3) (λ_=>[.cells 40 ((flt aN c).map .d)]) (by simp) (by simp) (by simp) (by rfl) (by rfl) (bAg hce hl) ?_;simp[-C,-E,↓KW,pR,hwp];refine aQw (id:=1) (h:=.own 0 0 c.length 3) (ho:=.cells 40 ((flt aN c).map .d)) (ds:=[.i .i64 (p:Nat),.i .i64 ((p:Int)+1)]) (l:=[]) (by simp) (by simp[gM,dU,hd1]) (by simp[dU]) (by simp[oG,noh,aFg]) (by rfl) (by decide) (by rfl) (Tryz.delU hpl hl) ?_;rw[hrm];simp[-C,-E,↓KW,hkn,hu,aBe,cD,aE]
structure Ok2(c:List Cl)(x:Cg):Prop where
 v:CxV c
 sz:SzX bV c
 keys:∀y∈c,Keys y.b
 val:Val x.c.b
 bl:x.c.b.length<=100
 bnd:Bnd (2^bV) x.c.b
 dim:-1000000<=x.c.dim/\x.c.dim<=1000000
 a:inr x.a=true
 w0:inr x.w0=true
 w1:inr x.w1=true
def bUc{c:List Cl}(h:CxV c)(a:Int):∀f∈bOf c a,f.1≠a:=λf hf he=>by
 unfold bOf at hf;cases q:bG c a with
 |none=>rw[q]at hf;cases hf
 |some x =>
  rw[q]at hf;obtain⟨x1,x2⟩:=dF q;obtain⟨y,hy,e1,e2⟩:=h.face x x1 f hf;have:=h.inc.eq hy x1 (e1.trans (he.trans x2.symm));subst this;omega
def r2D(r:List Cl×Int):D:=.tp [aE r.1,.i .i64 r.2]
def aGn(r:List Cl×List (Int×Ch)×Int):fU r=.tp [aE r.1,dJ r.2.1,.i .i64 r.2.2]:=rfl
def cDx{c:List Cl}{x:Cl}{r:List Cl×Int}(hS:Spec Aa 133 [aE c,.ag (aN x)] (r2D r)):Spec Aa 132 [.ag (aN x),aE c] (r2D r):=by refine bF (N:=12) Tryz.func132 ?_;simp[-C,-E,↓KW,aE,aR,aC,aA,aB];refine aJ hS ?_;simp[-C,-E,↓KW,r2D,aE,cD]
def cAn{c:List Cl}{n:Int}{r:List Cl×Int}(hS:Spec Aa 162 [aE c,.i .i64 n] (r2D r)):Spec Aa 161 [.ag [.i .i64 n],aE c] (r2D r):=by refine bF (N:=12) Tryz.func161 ?_;simp[-C,-E,↓KW,aE];refine aJ hS ?_;simp[-C,-E,↓KW,r2D,aE,cD]
def cDu{c:List Cl}{a b:Int}{r:List Cl×List (Int×Ch)×Int}(hS:Spec Aa 165 [aE c,.i .i64 a,.i .i64 b] (fU r)):Spec Aa 164 [.ag [.i .i64 a,.i .i64 b],aE c] (r2D (two r)):=by rw[aGn]at hS;refine bF (N:=21) Tryz.func164 ?_;simp[-C,-E,↓KW,aE];refine aJ hS ?_;simp[-C,-E,↓KW,r2D,two,aE,nB,kH,gP,cD]
def cDw{c:List Cl}{a b:Int}{r:List Cl×List (Int×Ch)×Int}(hS:Spec Aa 205 [aE c,.i .i64 a,.i .i64 b] (fU r)):Spec Aa 204 [.ag [.i .i64 a,.i .i64 b],aE c] (r2D (two r)):=by rw[aGn]at hS;refine bF (N:=21) Tryz.func204 ?_;simp[-C,-E,↓KW,aE];refine aJ hS ?_;simp[-C,-E,↓KW,r2D,two,aE,nB,kH,gP,cD]
def cDt{c:List Cl}{a w0 w1:Int}{r:List Cl×List (Int×Ch)×Int}(hS:Spec Aa 214 [aE c,.i .i64 a,.ag [.i .i64 w0,.i .i64 w1]] (fU r)):Spec Aa 213 [.ag [.i .i64 a,.i .i64 w0,.i .i64 w1],aE c] (r2D (two r)):=by rw[aGn]at hS;refine bF (N:=21) Tryz.func213 ?_;simp[-C,-E,↓KW,aE];refine aJ hS ?_;simp[-C,-E,↓KW,r2D,two,aE,nB,kH,gP,cD]
def cDs(c:List Cl):Spec Aa 234 [.ag [],aE c] (r2D ([],1)):=by refine bF (N:=6) Tryz.func234 ?_;simp[-C,-E,↓KW,r2D,aE,cD]
def ofT(k:Int):TypeId:=if k=1 then 106 else if k=2 then 108 else if k=3 then 110 else if k=4 then 112 else if k=5 then 114 else 116
def ofV(x:Cg):D:=.ag (if x.k=1 then aN x.c else if x.k=2 then[.i .i64 x.a]else if x.k=3 then[.i .i64 x.a,.i .i64 x.b]else if x.k=4 then[.i .i64 x.a,.i .i64 x.b]else if x.k=5 then[.i .i64 x.a,.i .i64 x.w0,.i .i64 x.w1]else[])
def cBq(P:Program)(t:TypeId):Bool:=match P.underlying t with
 |some (.interface _)=>false
 |some _=>true
 |none=>false
def bCs{P:Program}{t:TypeId}(h:cBq P t=true)(x:Operand)(J:Nat->AV)(n:Nat):nev P (.makeInterface t x) J n=eO ((aAz (oev J x)).map λd=>.d (.iff t d)):=by
 rw[fI];unfold cBq at h;cases hu:P.underlying t with
 |none=>rw[hu]at h;cases h
 |some u =>
  rw[hu]at h;cases u<;>first|rfl|cases h
def mi1(x:Operand)(J:Nat->AV)(n:Nat):nev Aa (.makeInterface 106 x) J n=eO ((aAz (oev J x)).map λd=>.d (.iff 106 d)):=bCs (by kernel_rfl) x J n
def mi2(x:Operand)(J:Nat->AV)(n:Nat):nev Aa (.makeInterface 108 x) J n=eO ((aAz (oev J x)).map λd=>.d (.iff 108 d)):=bCs (by kernel_rfl) x J n
def mi3(x:Operand)(J:Nat->AV)(n:Nat):nev Aa (.makeInterface 110 x) J n=eO ((aAz (oev J x)).map λd=>.d (.iff 110 d)):=bCs (by kernel_rfl) x J n
def mi4(x:Operand)(J:Nat->AV)(n:Nat):nev Aa (.makeInterface 112 x) J n=eO ((aAz (oev J x)).map λd=>.d (.iff 112 d)):=bCs (by kernel_rfl) x J n
def mi5(x:Operand)(J:Nat->AV)(n:Nat):nev Aa (.makeInterface 114 x) J n=eO ((aAz (oev J x)).map λd=>.d (.iff 114 d)):=bCs (by kernel_rfl) x J n
def mi6(x:Operand)(J:Nat->AV)(n:Nat):nev Aa (.makeInterface 116 x) J n=eO ((aAz (oev J x)).map λd=>.d (.iff 116 d)):=bCs (by kernel_rfl) x J n
def vOf(x:Cg):Spec Aa 35 [.ag (bP x)] (.iff (ofT x.k) (ofV x)):=by
 refine bF (N:=43) Tryz.func35 ?_;by_cases h1:x.k=1
 ·have e1:((x.k==1):Bool)=true:=by simpa using h1
  simp[-C,-E,↓KW,dE,aR,ofT,ofV,h1,e1,↓gS,-fI,mi1,mi2,mi3,mi4,mi5,mi6,aC,aA,aB]
 ·have e1:((x.k==1):Bool)=false:=by simpa using h1
  by_cases h2:x.k=2
  ·have e2:((x.k==2):Bool)=true:=by simpa using h2
   simp[-C,-E,↓KW,dE,ofT,ofV,h1,e1,h2,e2,↓gS,-fI,mi1,mi2,mi3,mi4,mi5,mi6,aC,aA,aB]
  ·have e2:((x.k==2):Bool)=false:=by simpa using h2
   by_cases h3:x.k=3
   ·have e3:((x.k==3):Bool)=true:=by simpa using h3
    simp[-C,-E,↓KW,dE,ofT,ofV,h1,e1,h2,e2,h3,e3,↓gS,-fI,mi1,mi2,mi3,mi4,mi5,mi6,aC,aA,aB]
   ·have e3:((x.k==3):Bool)=false:=by simpa using h3
    by_cases h4:x.k=4
    ·have e4:((x.k==4):Bool)=true:=by simpa using h4
     simp[-C,-E,↓KW,dE,ofT,ofV,h1,e1,h2,e2,h3,e3,h4,e4,↓gS,-fI,mi1,mi2,mi3,mi4,mi5,mi6,aC,aA,aB]
    ·have e4:((x.k==4):Bool)=false:=by simpa using h4
     by_cases h5:x.k=5
     ·have e5:((x.k==5):Bool)=true:=by simpa using h5
      simp[-C,-E,↓KW,dE,ofT,ofV,h1,e1,h2,e2,h3,e3,h4,e4,h5,e5,↓gS,-fI,mi1,mi2,mi3,mi4,mi5,mi6,aC,aA,aB]
     ·have e5:((x.k==5):Bool)=false:=by simpa using h5
      simp[-C,-E,↓KW,dE,ofT,ofV,h1,e1,h2,e2,h3,e3,h4,e4,h5,e5,↓gS,-fI,mi1,mi2,mi3,mi4,mi5,mi6,aC,aA,aB]
def bFm {c:List Cl} {x:Cg} (h:Ok2 c x):∃f,yX Aa (ofT x.k) "torsion/version.apply" = some f/\Spec Aa f [ofV x,aE c] (r2D (doX c x)):=by
 have hV:=zW;unfold ofT ofV doX;by_cases h1:x.k=1
 ·simp only[Ad h1];exact⟨132,by kernel_rfl,cDx (bMg h.v.inc h.sz h.val h.bl h.bnd h.dim (by omega))⟩
 simp only[Ac h1];by_cases h2:x.k=2
 ·simp only[Ad h2];exact⟨161,by kernel_rfl,cAn (bMf x.a h.v.inc (by have:=h.sz.len;omega) λy hy=>by have:=h.sz.bl y hy;omega)⟩
 simp only[Ac h2];by_cases h3:x.k=3
 ·simp only[Ad h3];exact⟨164,by kernel_rfl,cDu (aVm x.a x.b h.v.inc h.sz h.keys h.a (by omega))⟩
 simp only[Ac h3];by_cases h4:x.k=4
 ·simp only[Ad h4];exact⟨204,by kernel_rfl,cDw (aVn x.a x.b h.v.inc h.sz h.keys (by omega))⟩
 simp only[Ac h4];by_cases h5:x.k=5
 ·simp only[Ad h5];exact⟨213,by kernel_rfl,cDt (aRn x.a x.w0 x.w1 h.v.inc h.sz h.keys h.w0 h.w1 h.a (bUc h.v x.a) (by omega))⟩
 simp only[Ac h5];exact⟨234,by kernel_rfl,cDs c⟩
def rsI(c:List Cl)(e:Int)(b y:Ch)(i:Nat):List Cl:=((qR c e y).take i).map (aAq e b)++(qR c e y).drop i
def aMb{c:List Cl}{F:Nat}(e w0 w1:Int)(hcv:CxV c)(hz:SzX F c)(hF:F+F+20<4398046511104) :
  Spec Aa 65 [aE c,.i .i64 e,.ag [.i .i64 w0,.i .i64 w1]] (lO (bPx c e w0 w1)):=by
 have hlen:=hz.len
 have hFe:=gC c e (by omega)
 have hF0:=gC c w0 (by omega)
 have hF1:=gC c w1 (by omega)
 have hr:∃p x,(bG c e).isSome=p/\(bG c e).getD lA=x:=⟨_,_,rfl,rfl⟩
 obtain⟨p,x,hp,hx⟩:=hr
 have hde:dOf c e=x.dim:=by unfold dOf;rw[hx]
 have hbe:bOf c e=x.b:=by unfold bOf;rw[hx]
 have hxl:x.b.length<=100:=by rw[<-hbe];exact nQ hz.bl e
 have hxb:Bnd (2^F) x.b:=by rw[<-hbe];exact mN hz.bb e
 unfold oT at hFe hF0 hF1
 rw[hp,hx]at hFe
 have hk0:kn c w0=(bG c w0).isSome:=rfl
 have hk1:kn c w1=(bG c w1).isSome:=rfl
 obtain⟨u0,y0,hu0,hy0⟩:∃u y,(bG c w0).isSome=u/\(bG c w0).getD lA=y:=⟨_,_,rfl,rfl⟩
 obtain⟨u1,y1,hu1,hy1⟩:∃u y,(bG c w1).isSome=u/\(bG c w1).getD lA=y:=⟨_,_,rfl,rfl⟩
 rw[hu0,hy0]at hF0
 rw[hu1,hy1]at hF1
 rw[hu0]at hk0
 rw[hu1]at hk1
 unfold bPx
 rw[hp,hde,hk0,hk1]
 refine bF (N:=148) Tryz.func65 ?_
 simp[-C,-E,↓KW,aE]
 refine aJ hFe ?_
 cases p with
 |false=>simp[-C,-E,↓KW,aE,aR,aC,aA,aB,lO,dJ]
 |true =>
  by_cases h1:x.dim=1
  rotate_left
  ·have h1':((x.dim != 1):Bool)=true:=by simpa using h1
   simp[-C,-E,↓KW,aE,aR,aC,aA,aB,lO,dJ,h1,h1']
  ·have h1':((x.dim != 1):Bool)=false:=by simpa using h1
   simp[-C,-E,↓KW,aE,aR,aC,aA,aB,h1,h1']
   refine aJ hF0 ?_
   simp[-C,-E,↓KW,aE,aR,aC,aA,aB,h1,h1']
   refine aJ hF1 ?_
   cases u0 with
   |true=>simp[-C,-E,↓KW,aE,aR,aC,aA,aB,lO,dJ,h1,h1']
   |false =>
    cases u1 with
    |true=>simp[-C,-E,↓KW,aE,aR,aC,aA,aB,lO,dJ,h1,h1']
    |false =>
     by_cases h2:w0=w1
     ·have h2':((w0==w1):Bool)=true:=by simpa using h2
      simp[-C,-E,↓KW,aE,aR,aC,aA,aB,lO,dJ,h1,h1',h2,h2']
     ·have h2':((w0==w1):Bool)=false:=by simpa using h2
      have h3:¬(398:Int)<c.length:=by omega
      have h3':¬398<c.length:=by omega
      simp[-C,-E,↓KW,aE,aK,aR,aC,aA,aB,h1,h1',h2,h2',h3,h3']
      clear hFe hF0 hF1 hy0 hy1 hu0 hu1 hp hx
      refine aP (λy:Nat×Ch=>y.1<=x.b.length/\wP (x.b.take y.1)=y.2) (λy=>StL [(0,.d (aE c)),(1,.d (.i .i64 e)),(5,.fp [.i .i64 w0,.i .i64 w1]),(6,.ptr 1 0),(7,.fp [.i .i64 x.id,.i .i64 x.dim,aK x.b]),(13,.own 2 0 y.2.length 3),(14,.d (.i .i64 (y.1:Int)))] none [.cells 123 [.nil,.nil,.d (.i .i64 0)],.cells 75 ((flt eL y.2).map .d)]) (λy=>x.b.length-y.1) (0,[]) ⟨Al _,rfl⟩ ?_ ?_
      ·refine wkQ [2,6] ?_ ?_
       ·simp[-C,upd,aO,Γ0,aE,aK,wA]
        exact⟨rX (cs:=[.i .i64 w0,.i .i64 w1]) rfl λj hj=>vL hj (by simp) (by decide),rX (cs:=[.i .i64 x.id,.i .i64 x.dim,aK x.b]) (by rw[h1];rfl) λj hj=>vL hj (by simp) (by decide)⟩
       ·simp[-C,upd,aO,Γ0,aE,aK,wA]
      ·rintro⟨i,p⟩ ⟨hi,hp⟩
       simp only at hi hp ⊢
       by_cases hgo:i<x.b.length
       ·have q1:(i:Int)<x.b.length:=by omega
        have hf:x.b[i]? = some x.b[i]:=Ab hgo
        have hw:Ag.wrap ((i:Int)+1)=(i:Int)+1:=aV
        have tkp:=aJb hgo
        have hpl:p.length<=i:=by have:=yN (x.b.take i);rw[<-hp];rw[Ax]at this;omega
        refine exE x.b[i] λf hfe=>?_
        rw[hfe]at hf tkp
        rw[hp]at tkp
        have hef:eL f=[.i .i64 f.1,.b (decide (f.2<0)),aM (aU f.2.natAbs)]:=rfl
        have hSg:=fH f.2
        have hsg:=aYd f.2
        have hm1:(1:Nat)<=maxLen:=aS (by decide)
        simp[-C,-E,↓KW,aE,aK,q1,hf,hef,aF,aD,aG,aC,aA,aB]
        refine aJ hSg ?_
        by_cases h0:0<f.2
        ·have hs0:decide (0<f.2.sign)=true:=by rw[hsg];exact Bx h0
         have hs1:0<f.2.sign:=BH hs0
         rw[Ad h0]at tkp
         have hbb:=cH (n:=p.length) (by omega)
         have hcl:=bJ dD p
         have hal:=dB jW p
         simp[-C,-E,↓KW,aE,aK,q1,hf,hef,hs0,hs1,hw,hm1,hbb,hcl,hal,aS,aF,aD,aG,aC,aA,aB]
         refine aI (τ:=Nat×Ch) (i+1,p++[f]) ⟨hgo,tkp⟩ (slQ hgo) ?_
         simp only[Ak,As,cX,cG,bE]
         refine wkQ [1,4] ?_ ?_<;>simp[-C,upd,aO,Γ0,aE,aK,gL]
        ·have hs0:decide (0<f.2.sign)=false:=by rw[hsg];exact Bo h0
         have hs1:¬0<f.2.sign:=Ga hs0
         rw[Ac h0,A7]at tkp
         simp[-C,-E,↓KW,aE,aK,q1,hf,hef,hs0,hs1,hw,aF,aD,aG,aC,aA,aB]
         refine aI (τ:=Nat×Ch) (i+1,p) ⟨hgo,tkp⟩ (slQ hgo) (wkQ [1,2] ?_ ?_)<;>simp[-C,upd,aO,Γ0,aE,aK,gL]
       ·have q1:¬(i:Int)<x.b.length:=by omega
        rw[Ai (by omega)]at hp
        have hxv:Val x.b:=by rw[<-hbe];exact hcv.bval e
        have hpv:Val p:=by rw[<-hp];exact aMh hxv
        have hpl:p.length<=100:=by rw[<-hp];exact An (yN _) hxl
        have hpb:Bnd (2^F) p:=by rw[<-hp];exact λf hf=>hxb f (aDg hf)
        have hnb:plM (-1) x.b p=yU x.b:=by
         refine wS (iX _ hxv hpv) ⟨Df _ hxv.1,λy hy=>hxv.2 y (aDh hy)⟩ λw=>?_
         rw[pE hxv hpv,<-hp];have:=aCt w x.b;omega
        have hnl:(yU x.b).length<=100:=An (aFj _) hxl
        have hnbb:Bnd (2^F) (yU x.b):=λf hf=>hxb f (aDh hf)
        have hOm:=tE (-1) (by decide) (by decide)
        have hO1:=tE 1 (by decide) (by decide)
        have hw0o:=xJ w0
        have hw1o:=xJ w1
        have heo:=xJ e
        have hP1:=nG (k:=-1) (g:=0) hxb hpb (by decide) (by omega) (by omega) (by omega) (by omega)
        rw[hnb]at hP1
        have hb1:∀n:Int,Bnd (2^0) [(n,(1:Int))]:=λn=>Bnd.one (Ap 1)
        have hP2:=nG (k:=1) (g:=0) (b:=[(w0,1)]) hnbb (hb1 w0) (by decide) (by omega) (by omega) (by omega) (by simp)
        have hP3:=nG (k:=-1) (g:=0) (b:=[(w0,1)]) hpb (hb1 w0) (by decide) (by omega) (by omega) (by omega) (by simp)
        have hP4:=nG (k:=1) (g:=0) (a:=[(e,1)]) (b:=[(w1,1)]) (hb1 e) (hb1 w1) (by decide) (by omega) (by omega) (by simp) (by simp)
        have hRp:=aMa e [(w1,1)] hz (hb1 w1) (by simp) (by omega)
        have hIt:=aAw (c:=c) (by omega)
        have hWi:=aDd (m:=eF c []) e (plM 1 [(e,1)] [(w1,1)]) (by rw[yZ];omega)
        have hb2e:plM 1 (plM (-1) (bOf c e) (wP (bOf c e))) [(w0,1)]=plM 1 (yU x.b) [(w0,1)]:=by rw[hbe,hp,hnb]
        have hrsC:bPz c e w0 w1=cE (cE ((qR c e [(w1,1)]).map (aAq e (plM 1 (yU x.b) [(w0,1)]))) (aAm w0)) ⟨w1,1,plM (-1) p [(w0,1)]⟩:=by unfold bPz bPy;rw[hb2e,hbe,hp]
        obtain⟨b2,hb2⟩:∃b2,plM 1 (yU x.b) [(w0,1)]=b2:=⟨_,rfl⟩
        obtain⟨b3,hb3⟩:∃b3,plM (-1) p [(w0,1)]=b3:=⟨_,rfl⟩
        obtain⟨b4,hb4⟩:∃b4,plM 1 [(e,1)] [(w1,1)]=b4:=⟨_,rfl⟩
        rw[hb2]at hP2 hrsC
        rw[hb3]at hP3 hrsC
        rw[hb4]at hP4 hWi
        simp[-C,-E,↓KW,aE,aK,q1,aF,aD,aG,aC,aA,aB]
        refine aJ hOm ?_
        simp[-C,-E,↓KW,aE,aK,aY,aF,aD,aG,aC,aA,aB]
        refine aJ hw1o ?_
        simp[-C,-E,↓KW,aE,aQ,aT,aF,aD,aG,aC,aA,aB]
        refine iO [aE c,.i .i64 e,aK [(w1,1)]] (λm=>.own m 0 c.length 3) (λ_=>[.cells 40 ((flt aN (qR c e [(w1,1)])).map .d)]) (by simp) (by simp) (by simp) (by rfl) (by rfl) hRp ?_
        simp[-C,-E,↓KW,pR]
        have hrl:(qR c e [(w1,1)]).length=c.length:=aPp _ _ _
        refine exE (qR c e [(w1,1)]) λR hRe=>?_
        rw[hRe]at hrl hrsC
        have hLi:∀i,rsI c e b2 [(w1,1)] i=(R.take i).map (aAq e b2)++R.drop i:=λi=>by unfold rsI;rw[hRe]
        refine aP (λi:Nat=>i<=c.length) (λi=>StL [(0,.d (aE c)),(1,.d (.i .i64 e)),(5,.fp [.i .i64 w0,.i .i64 w1]),(6,.ptr 1 0),(7,.fp [.i .i64 x.id,.i .i64 x.dim,aK x.b]),(13,.d (aK p)),(15,.fp [.b (decide ((-1:Int)<0)),aM (aU (-1:Int).natAbs)]),(16,.own 2 0 c.length 3),(17,.d (.i .i64 (i:Int)))] none [.cells 123 [.nil,.nil,.d (.i .i64 0)],.cells 40 ((flt aN (rsI c e b2 [(w1,1)] i)).map .d)]) (λi=>c.length-i) 0 (Al _) ?_ ?_
        ·have e0:rsI c e b2 [(w1,1)] 0=R:=by rw[hLi];simp
         rw[e0,hRe]
         refine wkQ [1,4] ?_ ?_
         ·simp[-C,upd,aO,Γ0,aE,gL]
          exact⟨(gL [.i .i64 x.id,.i .i64 x.dim,aK x.b]).2 trivial,wU (t:=75) rfl rfl λj hj=>vL hj (by simp) (by decide),rX (t:=72) rfl λj hj=>vL hj (by simp) (by decide)⟩
         ·simp[-C,upd,aO,Γ0,aE,gL]
        ·intro i hi
         have hwl:(rsI c e b2 [(w1,1)] i).length=c.length:=by rw[hLi,Ak,AL,Ax,Bl];omega
         by_cases hgo:i<c.length
         ·have q1:(i:Int)<c.length:=by omega
          have hgR:i<R.length:=by omega
          have hw:Ag.wrap ((i:Int)+1)=(i:Int)+1:=aV
          have hx1:(rsI c e b2 [(w1,1)] i)[i]? = some R[i]:=by rw[hLi,Az (by rw[AL,Ax];omega)];simp[Ax,BR (show i<=R.length by omega),hgR]
          have hnx:rsI c e b2 [(w1,1)] (i+1)=(rsI c e b2 [(w1,1)] i).set i (aAq e b2 R[i]):=by rw[hLi,hLi,AM,Ab hgR,Bu,List.set_append_right _ _ (by rw[AL,Ax];omega),AP hgR,AL,Ax,BR (show i<=R.length by omega),Cx,List.set_cons_zero];simp
          refine exE R[i] λz hze=>?_
          rw[hze]at hx1 hnx
          refine exE (rsI c e b2 [(w1,1)] i) λL hLe=>?_
          rw[hLe]at hx1 hnx hwl
          simp only[hLe]
          have c0:(flt aN L)[i*3]? = some (.i .i64 z.id):=aGe aX L i 0 z hx1 (by decide)
          have hcl:=bJ aX L
          rw[hwl]at hcl
          have hli:i*3+2+1<=c.length*3:=by omega
          have hm1:(1:Nat)<=maxLen:=aS (by decide)
          by_cases h0:z.id=e
          ·have hsb:aAq e b2 z=⟨z.id,z.dim,b2⟩:=by unfold aAq;rw[Ad h0]
           rw[hsb]at hnx
           have q3:(((e:Int)==(e:Int)):Bool)=true:=by simp
           have hst:lay ((flt aN L).map AV.d) (i*3+2) [.d (aK b2)]=(flt aN (L.set i ⟨z.id,z.dim,b2⟩)).map .d:=by rw[oQ _ _ _ (by omega),zJ aX L i 2 z ⟨z.id,z.dim,b2⟩ _ hx1 (by decide) rfl]
           simp[-C,-E,↓KW,aE,aR,q1,c0,hcl,h0,q3,aF,aD,aG,aC,aA,aB]
           refine aJ hP1 ?_
           simp[-C,-E,↓KW,aE,aR,q1,c0,hcl,aQ,aT,aF,aD,aG,aC,aA,aB]
           refine aJ hw0o ?_
           simp[-C,-E,↓KW,aE,aR,q1,c0,hcl,aQ,aT,aF,aD,aG,aC,aA,aB]
           refine aJ hO1 ?_
           simp[-C,-E,↓KW,aE,aR,aY,q1,c0,hcl,aZ,aW,aQ,aT,aF,aD,aG,aC,aA,aB]
           refine aJ hP2 ?_
           simp[-C,-E,↓KW,aE,aR,hw,q1,c0,hcl,hst,hli,aQ,aT,aF,aD,aG,aC,aA,aB]
           refine aI (i+1) hgo (slQ hgo) ?_
           rw[hnx]
           refine wkQ [1,2] ?_ ?_<;>simp[-C,upd,aO,Γ0,aE,aK,gL,h0]
          ·have h0':((z.id==e):Bool)=false:=by simpa using h0
           have hsb:aAq e b2 z=z:=by unfold aAq;rw[Ac h0]
           have hset:L.set i z=L:=by obtain⟨h1,h2⟩:=Ah.1 hx1;rw[<-h2];exact List.set_getElem_self h1
           rw[hsb,hset]at hnx
           simp[-C,-E,↓KW,aE,q1,c0,hcl,h0,h0',hw,aC,aA,aB]
           refine aI (i+1) hgo (slQ hgo) ?_
           rw[hnx]
           refine wkQ [1,2] ?_ ?_<;>simp[-C,upd,aO,Γ0,aE,aK,gL]
         ·have q1:¬(i:Int)<c.length:=by omega
          have hfin:rsI c e b2 [(w1,1)] i=R.map (aAq e b2):=by rw[hLi,Ai (by omega),B8 (by omega),A7]
          rw[hfin]at hwl
          simp only[hfin]
          obtain⟨D1,hD1⟩:∃D1,R.map (aAq e b2)=D1:=⟨_,rfl⟩
          rw[hD1]at hrsC hwl
          simp only[hD1]
          have hp1:=aIx (c:=D1) (aAm w0) (by omega)
          have hp2:=aIx (c:=cE D1 (aAm w0)) ⟨w1,1,b3⟩ (by rw[nA];omega)
          have e4:=dI aX hwl
          have e5:=cW (by decide) aX hwl
          have e6:=bJ aX D1
          rw[hwl]at e6
          simp[-C,-E,↓KW,aE,q1]
          have hv0:aN (aAm w0)=[.i .i64 w0,.i .i64 0,.sl []]:=rfl
          rw[hv0]at hp1
          refine bK (ds:=[aE D1,.ag [.i .i64 w0,.i .i64 0,.sl []]]) (by simp[-C,-E,aE,upd,jA,qA,e4,e5,e6]) hp1 ?_
          obtain⟨D2,hD2⟩:∃D2,cE D1 (aAm w0)=D2:=⟨_,rfl⟩
          rw[hD2]at hp2 hrsC
          simp only[hD2]
          simp[-C,-E,↓KW,aE,fY,eK,e4,e5,e6,aQ,aT,aC,aA,aB]
          refine aJ hw0o ?_
          simp[-C,-E,↓KW,aE,aQ,aT,aF,aD,aG,aC,aA,aB]
          refine aJ hP3 ?_
          simp[-C,-E,↓KW,aE,aQ,aT,aC,aA,aB]
          refine aJ hp2 ?_
          rw[<-hrsC]
          simp[-C,-E,↓KW,fY,eK,aQ,aT,aC,aA,aB]
          refine aJ hIt ?_
          simp[-C,-E,↓KW,fY,eK,cZ,cA,aQ,aT,aC,aA,aB]
          refine aJ heo ?_
          simp[-C,-E,↓KW,fY,eK,cZ,cA,aQ,aT,aC,aA,aB]
          refine aJ hw1o ?_
          simp[-C,-E,↓KW,fY,eK,cZ,cA,aQ,aT,aC,aA,aB]
          refine aJ hO1 ?_
          simp[-C,-E,↓KW,aY,aZ,aW,aF,aD,aG,fY,eK,cZ,cA,aQ,aT,aC,aA,aB]
          refine aJ hP4 ?_
          simp[-C,-E,↓KW,fY,eK,cZ,cA,aQ,aT,aC,aA,aB]
          refine aJ hWi ?_
          simp[-C,-E,↓KW,fY,eK,cZ,cA,aQ,aT,aC,aA,aB,rF,kH,lR,gP,lO,h1,h2,h3',hb4]
def OkA:List Cl->List Cg->Prop
 |_,[]=>True
 |c,x::l=>Ok2 c x/\((doX c x).2=0->OkA (doX c x).1 l)
def pS(ls:List (List Cg)):D:=.sl (ls.map λl=>[bL l])
def xX{c0:List Cl}{ls:List (List Cg)}(hok:OkA c0 ls.flatten)(hls:ls.length<=100)(hll:∀l∈ls,l.length<=10000):Spec Aa 34 [aE c0,pS ls] (r2D (lG c0 ls.flatten)):=by
 refine exE (lG c0 ls.flatten) λR hR=>?_
 rw[hR];refine bF (N:=38) Tryz.func34 ?_;simp[-C,-E,↓KW,aE,pS];refine aP (λy:Nat×List Cl=>y.1<=ls.length/\OkA y.2 (ls.drop y.1).flatten/\lG y.2 (ls.drop y.1).flatten=R) (λy=>StL [(0,.d (aE y.2)),(12,.d (pS ls)),(13,.d (.i .i64 ls.length)),(14,.d (.i .i64 (y.1:Int)))] none []) (λy=>ls.length-y.1) (0,c0) ⟨Al _,hok,hR⟩ ?_ ?_
 ·refine wkQ [] ?_ ?_<;>simp[-C,upd,aO,Γ0,aE,pS]
 ·rintro⟨i,c⟩ ⟨hi,hoc,hrc⟩;simp only at hi hoc hrc ⊢;by_cases hgo:i<ls.length
  ·have q1:(i:Int)<ls.length:=by omega
   have hx:ls[i]? = some ls[i]:=Ab hgo;have hw:Ag.wrap ((i:Int)+1)=(i:Int)+1:=aV;have hll1:=hll _ (Ar hgo);have hfl:(ls.drop i).flatten=ls[i]++(ls.drop (i+1)).flatten:=by rw[AP hgo,BF]
   rw[hfl]at hoc hrc;refine exE ((ls.drop (i+1)).flatten) λT hT=>?_
   refine exE ls[i] λl hle=>?_
   rw[hle]at hx hll1 hoc hrc;rw[hT]at hoc hrc;simp[-C,-E,↓KW,aE,pS,bL,q1,hx];refine aP (λy:Nat×List Cl=>y.1<=l.length/\OkA y.2 (l.drop y.1++T)/\lG y.2 (l.drop y.1++T)=R) (λy=>StL [(0,.d (aE y.2)),(12,.d (pS ls)),(13,.d (.i .i64 ls.length)),(14,.d (.i .i64 (i:Int))),(18,.d (bL l)),(19,.d (.i .i64 l.length)),(20,.d (.i .i64 (y.1:Int)))] none []) (λy=>l.length-y.1) (0,c) ⟨Al _,hoc,hrc⟩ ?_ ?_
   ·refine wkQ [] ?_ ?_<;>simp[-C,upd,aO,Γ0,aE,pS,bL]
   ·clear hoc hrc;rintro⟨j,c⟩ ⟨hj,hoc,hrc⟩;simp only at hj hoc hrc ⊢;by_cases hgo2:j<l.length
    ·have q2:(j:Int)<l.length:=by omega
     have hx2:l[j]? = some l[j]:=Ab hgo2;have hw2:Ag.wrap ((j:Int)+1)=(j:Int)+1:=aV;rw[AP hgo2,BP]at hoc hrc;refine exE l[j] λx hxe=>?_
     rw[hxe]at hx2 hoc hrc;obtain⟨hox,hon⟩:=hoc;obtain⟨f,hm,hap⟩:=bFm hox;have hxc:=dE x;refine exE (doX c x) λr hre=>?_
     have hno:=zY (c:=c) (x:=x) (l.drop (j+1)++T);have hyes:=oW (c:=c) (x:=x) (l.drop (j+1)++T);rw[hre]at hon hap hno hyes;obtain⟨r1,r2⟩:=r;simp only at hon hno hyes;have hrD:r2D (r1,r2)=.tp [aE r1,.i .i64 r2]:=rfl;rw[hrD]at hap;simp[-C,-E,↓KW,aE,pS,bL,q2,hx2,hxc,aC,aA,aB];refine aJ (vOf x) ?_;simp[-C,-E,↓KW,aE,hxc,↓aJk];refine aCj hm (ds:=[ofV x,aE c]) (by rfl) hap ?_;by_cases h0:r2=0
     ·have h0':((r2 != 0):Bool)=false:=by simpa using h0
      simp[-C,-E,↓KW,aE,h0',hw2];refine aI (τ:=Nat×List Cl) (j+1,r1) ⟨hgo2,hon h0,by rw[<-hrc];exact(hyes h0).symm⟩ (AF hgo2 (AK _)) (wkQ [] ?_ ?_)<;>simp[-C,upd,aO,Γ0,aE,pS,bL]
     ·have h0':((r2 != 0):Bool)=true:=by simpa using h0
      have hfin:R=([],r2):=by rw[<-hrc];exact hno h0
      subst hfin;simp[-C,-E,↓KW,aE,r2D,h0',cD]
    ·have q2:¬(j:Int)<l.length:=by omega
     rw[B8 (by omega),List.nil_append]at hoc hrc;simp[-C,-E,↓KW,aE,pS,bL,q2,hw];refine aI (τ:=Nat×List Cl) (i+1,c) ⟨hgo,by rw[hT];exact hoc,by rw[hT];exact hrc⟩ (slQ hgo) (wkQ [] ?_ ?_)<;>simp[-C,upd,aO,Γ0,aE,pS]
  ·have q1:¬(i:Int)<ls.length:=by omega
   rw[B8 (by omega)]at hrc;have hrc':(c,(0:Int))=R:=hrc;subst hrc';simp[-C,-E,↓KW,aE,pS,q1,r2D,cD]
def aGm(r:List Cl×List (Int×Ch)×Int):lO r=.ag [aE r.1,dJ r.2.1,.i .i64 r.2.2]:=rfl
def bVs{c:List Cl}{x:Cg}(h:Ok2 c x):Spec Aa 37 [aE c,.ag (bP x)] (r2D (doX c x)):=by
 have hV:=zW;have hI:=bBy h.sz h.v.val h.val h.bl h.bnd h.dim (by omega);have hR:=bBx (c:=c) x.a (by have:=h.sz.len;omega) λy hy=>by have:=h.sz.bl y hy;omega
 have hN:=aPw x.a x.b h.sz (by omega);rw[bQa h.v,aGm]at hN;have hC:=aMc x.a x.b h.v h.sz (by omega);rw[aGm]at hC;have hS:=aMb x.a x.w0 x.w1 h.v h.sz (by omega);rw[bPw h.v,aGm]at hS;unfold doX;refine bF (N:=63) Tryz.func37 ?_;by_cases h1:x.k=1
 ·have e1:((x.k==1):Bool)=true:=by simpa using h1
  simp[-C,-E,↓KW,aE,dE,h1,e1,aC,aA,aB];refine aJ hI ?_;simp[-C,-E,↓KW,r2D,h1,e1,aE,cD]
 ·have e1:((x.k==1):Bool)=false:=by simpa using h1
  by_cases h2:x.k=2
  ·have e2:((x.k==2):Bool)=true:=by simpa using h2
   simp[-C,-E,↓KW,aE,dE,h1,e1,h2,e2,aC,aA,aB];refine aJ hR ?_;simp[-C,-E,↓KW,r2D,h1,e1,h2,e2,aE,cD]
  ·have e2:((x.k==2):Bool)=false:=by simpa using h2
   by_cases h3:x.k=3
   ·have e3:((x.k==3):Bool)=true:=by simpa using h3
    simp[-C,-E,↓KW,aE,dE,h1,e1,h2,e2,h3,e3,aC,aA,aB];refine aJ hN ?_;simp[-C,-E,↓KW,r2D,h1,e1,h2,e2,h3,e3,two,aE,nB,kH,gP,cD]
   ·have e3:((x.k==3):Bool)=false:=by simpa using h3
    by_cases h4:x.k=4
    ·have e4:((x.k==4):Bool)=true:=by simpa using h4
     simp[-C,-E,↓KW,aE,dE,h1,e1,h2,e2,h3,e3,h4,e4,aC,aA,aB];refine aJ hC ?_;simp[-C,-E,↓KW,r2D,h1,e1,h2,e2,h3,e3,h4,e4,two,aE,nB,kH,gP,cD]
    ·have e4:((x.k==4):Bool)=false:=by simpa using h4
     by_cases h5:x.k=5
     ·have e5:((x.k==5):Bool)=true:=by simpa using h5
      simp[-C,-E,↓KW,aE,dE,h1,e1,h2,e2,h3,e3,h4,e4,h5,e5,aC,aA,aB];refine aJ hS ?_;simp[-C,-E,↓KW,r2D,h1,e1,h2,e2,h3,e3,h4,e4,h5,e5,two,aE,nB,kH,gP,cD]
     ·have e5:((x.k==5):Bool)=false:=by simpa using h5
      simp[-C,-E,↓KW,aE,dE,h1,e1,h2,e2,h3,e3,h4,e4,h5,e5,r2D,cD,aC,aA,aB]
def bHq{c0:List Cl}{l:List Cg}(hok:OkA c0 l)(hll:l.length<=10000):Spec Aa 42 [aE c0,bL l] (r2D (lG c0 l)):=by
 refine exE (lG c0 l) λR hR=>?_
 rw[hR];refine bF (N:=29) Tryz.func42 ?_;simp[-C,-E,↓KW,aE,bL];refine aP (λy:Nat×List Cl=>y.1<=l.length/\OkA y.2 (l.drop y.1)/\lG y.2 (l.drop y.1)=R) (λy=>StL [(0,.d (aE y.2)),(1,.d (bL l)),(6,.d (.i .i64 (y.1:Int)))] none []) (λy=>l.length-y.1) (0,c0) ⟨Al _,hok,hR⟩ ?_ ?_
 ·refine wkQ [] ?_ ?_<;>simp[-C,upd,aO,Γ0,aE,bL]
 ·rintro⟨j,c⟩ ⟨hj,hoc,hrc⟩;simp only at hj hoc hrc ⊢;by_cases hgo2:j<l.length
  ·have q2:(j:Int)<l.length:=by omega
   have hx2:l[j]? = some l[j]:=Ab hgo2;have hw2:Ag.wrap ((j:Int)+1)=(j:Int)+1:=aV;rw[AP hgo2]at hoc hrc;refine exE l[j] λx hxe=>?_
   rw[hxe]at hx2 hoc hrc;obtain⟨hox,hon⟩:=hoc;have hap:=bVs hox;have hxc:=dE x;refine exE (doX c x) λr hre=>?_
   have hno:=zY (c:=c) (x:=x) (l.drop (j+1));have hyes:=oW (c:=c) (x:=x) (l.drop (j+1));rw[hre]at hon hap hno hyes;obtain⟨r1,r2⟩:=r;simp only at hon hno hyes;have hrD:r2D (r1,r2)=.tp [aE r1,.i .i64 r2]:=rfl;rw[hrD]at hap;simp[-C,-E,↓KW,aE,bL,q2,hx2,hxc,aC,aA,aB];refine aJ hap ?_;by_cases h0:r2=0
   ·have h0':((r2 != 0):Bool)=false:=by simpa using h0
    simp[-C,-E,↓KW,aE,h0',hw2];refine aI (τ:=Nat×List Cl) (j+1,r1) ⟨hgo2,hon h0,by rw[<-hrc];exact(hyes h0).symm⟩ (AF hgo2 (AK _)) (wkQ [] ?_ ?_)<;>simp[-C,upd,aO,Γ0,aE,bL]
   ·have h0':((r2 != 0):Bool)=true:=by simpa using h0
    have hfin:R=([],r2):=by rw[<-hrc];exact hno h0
    subst hfin;simp[-C,-E,↓KW,aE,r2D,h0',cD]
  ·have q2:¬(j:Int)<l.length:=by omega
   rw[B8 (by omega)]at hrc;have hrc':(c,(0:Int))=R:=hrc;subst hrc';simp[-C,-E,↓KW,aE,bL,q2,r2D,cD]
def cAw:gQ Aa 40:=aEt Tryz.func40 (by kernel_rfl) rfl rfl rfl
def cAx:gQ Aa 33:=aEt Tryz.func33 (by kernel_rfl) rfl rfl rfl
def cAv:gQ Aa 46:=aEt Tryz.func46 (by kernel_rfl) rfl rfl rfl
def cAu:gQ Aa 48:=aEt Tryz.func48 (by kernel_rfl) rfl rfl rfl
def aQt(l:List Cg):fB 8 (l.map bP)=true:=by cases l<;>simp[fB,fX]
def jK(h:Hi):Int:=h.s+h.l.length
def mF(h:Hi)(n:Int):Bool:=decide (h.s<=n)&&decide (n-h.s<=h.l.length)
def atV(h:Hi)(n:Int):List Cl×Int:=if mF h n then lG h.c (h.l.take (n-h.s).toNat)else([],320)
structure OkH(h:Hi):Prop where
 s0:0<=h.s
 s1:h.s<=1000000
 len:h.l.length<=10000
 ok:OkA h.c h.l
def OkA.take{c:List Cl}{l:List Cg}(h:OkA c l)(n:Nat):OkA c (l.take n):=by
 induction l generalizing c n with
 |nil=>simp;trivial
 |cons x l ih=>cases n with
  |zero=>trivial
  |succ n=>exact⟨h.1,λh0=>ih (h.2 h0) n⟩
def aLm(h:Hi)(hs:0<=h.s/\h.s<=1000000)(hl:h.l.length<=10000):Spec Aa 14 [bZ h] (.i .i64 (jK h)):=by have hw:Ag.wrap (h.s+(h.l.length:Int))=h.s+(h.l.length:Int):=aV;refine bF (N:=9) Tryz.func14 ?_;simp[-C,-E,↓KW,bX,bL,aE,jK,hw]
def aAv(h:Hi)(hs:0<=h.s/\h.s<=1000000)(hl:h.l.length<=10000):Spec Aa 15 [bZ h] (.i .i64 (jK h)):=by have hw:Ag.wrap (h.s+(h.l.length:Int))=h.s+(h.l.length:Int):=aV;refine bF (N:=9) Tryz.func15 ?_;simp[-C,-E,↓KW,bX,bL,aE,jK,hw]
def cDv(h:Hi)(n:Int)(hs:0<=h.s/\h.s<=1000000)(hl:h.l.length<=10000)(hn:-1000000<=n/\n<=2000000):Spec Aa 41 [bZ h,.i .i64 n] (.b (mF h n)):=by
 have hw:Ag.wrap (n-h.s)=n-h.s:=aV;refine bF (N:=19) Tryz.func41 ?_;unfold mF;by_cases h1:h.s<=n
 ·by_cases h2:n-h.s<=h.l.length
  ·simp[-C,-E,↓KW,bX,bL,aE,h1,h2,hw]
  ·simp[-C,-E,↓KW,bX,bL,aE,h1,h2,hw]
 ·simp[-C,-E,↓KW,bX,bL,aE,h1,hw]
def vAt{h:Hi}(n:Int)(ho:OkH h)(hn:-1000000<=n/\n<=2000000):Spec Aa 16 [bZ h,.i .i64 n] (r2D (atV h n)):=by
 have hH:=cDv h n ⟨ho.s0,ho.s1⟩ ho.len hn;have hw:Ag.wrap (n-h.s)=n-h.s:=wrap_i64 (by have:=ho.s0;have:=ho.s1;omega) (by have:=ho.s0;have:=ho.s1;omega);refine qP (N:=23) Tryz.func16 cAw ?_;unfold atV;cases hh:mF h n with
 |false =>
  rw[hh]at hH;simp[-C,-E,↓KW,bX,bL,aE];refine aJ hH ?_;simp[-C,-E,↓KW,r2D,cD,aE]
 |true =>
  rw[hh]at hH;have hb:h.s<=n/\n-h.s<=h.l.length:=by simpa[mF]using hh
  refine exE ((n-h.s).toNat) λk hk=>?_
  have hkn:n-h.s=(k:Int):=by omega
  have hkl:k<=h.l.length:=by omega
  have hR:=xX (c0:=h.c) (ls:=[h.l.take k]) (by simpa using ho.ok.take k) (by simp) (by simp;have:=ho.len;omega);rw[BF,List.flatten_nil,A7]at hR;have hwk:Ag.wrap (k:Int)=k:=by rw[<-hkn];exact hw
  obtain⟨⟨r1,r2⟩,hr⟩:∃R,lG h.c (h.l.take k)=R:=⟨_,rfl⟩;rw[hr]at hR;have hRD:r2D (r1,r2)=.tp [.sl (r1.map aN),.i .i64 r2]:=rfl;simp only[pS,bL,aE,BD,AZ,DC,hRD]at hR;simp only[hk,B1,hr,hRD];cases hfl:oK (D.sl (r1.map aN))with
  |_ =>
   simp[-C,-E,↓KW,bX,bL,aE];refine aJ hH ?_;simp[-C,-E,↓KW,hw,hkn,hwk,hkl,aQt];refine aJ hR ?_;simp[-C,-E,↓KW,cD,hfl]
def aHl(h:Hi)(c:List Cl):Prop:=lG h.c h.l=(c,0)
def lU(h:Hi)(c:List Cl)(x:Cg):Hi×Int:=if(doX c x).2=0 then(⟨h.s,h.c,h.l++[x]⟩,0)else(h,(doX c x).2)
def h2D(r:Hi×Int):D:=.tp [bZ r.1,.i .i64 r.2]
def aSv(a b:List Cg):aKi a b=.sl [[.sl (a.map bP)],[.sl (b.map bP)]]:=rfl
def aLn{h:Hi}{c:List Cl}{x:Cg}(ho:OkH h)(hs:aHl h c)(hl:h.l.length<4000)(hx:Ok2 c x):Spec Aa 11 [bZ h,.ag (bP x)] (h2D (lU h c x)):=by
 have hR:=xX (c0:=h.c) (ls:=[h.l]) (by simpa using ho.ok) (by simp) (by simp;have:=ho.len;omega);rw[BF,List.flatten_nil,A7,hs]at hR;have hRD:r2D (c,0)=.tp [.sl (c.map aN),.i .i64 0]:=rfl;simp only[pS,bL,aE,AZ,DC,hRD]at hR;obtain⟨f,hm,hap⟩:=bFm hx;obtain⟨⟨r1,r2⟩,hr⟩:∃R,doX c x=R:=⟨_,rfl⟩;rw[hr]at hap;have hrD:r2D (r1,r2)=.tp [aE r1,.i .i64 r2]:=rfl;rw[hrD]at hap;have hC:=bAb h.l [x] ho.len (by simp);rw[aSv]at hC;simp only[AZ,DC]at hC;obtain⟨L,hL⟩:∃L,(h.l++[x]).map bP=L:=⟨_,rfl⟩;have hL2:bL (h.l++[x])=.sl L:=by rw[<-hL];rfl
 rw[hL2]at hC;have q1:¬(4000:Int)<=h.l.length:=by omega
 unfold lU;rw[hr];simp only;have hxc:=dE x;cases hfl:oK (D.sl (c.map aN))with
 |_ =>
  refine qP (N:=48) Tryz.func11 cAx ?_;simp[-C,-E,↓KW,bX,bL,aE,hxc,q1,aC,aA,aB];refine aJ hR ?_;simp[-C,-E,↓KW,hfl,aC,aA,aB];refine aJ (vOf x) ?_;simp[-C,-E,↓KW,hfl,aC,aA,aB,↓aJk];refine aCj hm (ds:=[ofV x,aE c]) (by rfl) hap ?_;by_cases h0:r2=0
  ·subst h0;simp[-C,-E,↓KW,hfl,aC,aA,aB];refine aJ hC ?_;cases hfl2:oK (D.sl (L))<;>simp[-C,-E,↓KW,hfl2,cD,h2D,bX,aE,bL,hL,kill]
  ·have h0':((r2 != 0):Bool)=true:=by simpa using h0
   simp[-C,-E,↓KW,hfl,h0,h0',aC,aA,aB,cD,h2D,bX,aE,bL]
end Go.Am
end
