/- Subdivided edges: valid, commuting, plain. No condition. -/
import Derived.Test.YtgjjndadkmodpaaGreatC5
import Derived.Test.YtgjjndadkmodpaaGreatC4
import Derived.Test.YtgjjndadkmodpaaGreatRows
set_option linter.all false
set_option maxHeartbeats 16000000
set_option maxRecDepth 100000
open Array renaming replicate->BI
open Bool renaming and_eq_true->AO,eq_iff_iff->DL,false_eq_true->A0
open Classical renaming byContradiction->A9
open Eq renaming trans->F7
open Function renaming comp->DQ
open Go.DataW renaming trod_int->Dp
open Go.IntKind renaming i64->Ag,i8->F6,u64->A1,u8->BO
open Go.Op renaming operands->AN
open Go.Proofs.Tryz renaming prog->Aa,underlying26->Ec
open Go.Region renaming ready->BU
open Int renaming mul_add->De,mul_assoc->DD,mul_comm->B7,mul_eq_zero->D8,mul_zero->DP,natAbs_mul->BX,natAbs_neg->CT,sign_eq_zero_iff_zero->Dw,zero_add->CD
open List renaming all_eq_true->Ay,append_assoc->Bh,append_nil->A7,cons_append->BP,drop_eq_getElem_cons->AP,drop_eq_nil_of_le->BA,drop_of_length_le->B8,drop_succ_cons->B5,drop_zero->BY,eq_nil_of_length_eq_zero->AE,filter_append->BQ,filter_cons->CH,find?_cons->DN,flatMap_cons->Cz,flatMap_nil->DA,flatten_cons->BF,foldl_append->Dl,getD_eq_getElem?_getD->Af,getElem?_append_right->Az,getElem?_eq_getElem->Ab,getElem?_eq_none->AW,getElem?_eq_some_iff->Ah,getElem?_map->Aw,getElem_mem->Ar,getElem_of_mem->Bw,getElem_take->Eb,length_append->Ak,length_cons->AH,length_drop->Bl,length_filter_le->Cw,length_map->AL,length_nil->Bq,length_singleton->As,length_take->Ax,map->AQ,map_append->Bu,map_congr_left->BK,map_cons->AZ,map_flatten->DB,map_map->CC,mem_append->A5,mem_append_left->FD,mem_cons->AG,mem_cons_of_mem->Au,mem_cons_self->Av,mem_filter->Bi,mem_map->AA,mem_of_getElem?->Aq,mem_of_mem_take->Cm,mem_range->C4,mem_singleton->AT,mem_singleton_self->Fe,nil_append->BN,nodup_cons->DK,pairwise_cons->Bk,pairwise_iff_getElem->BC,pairwise_map->CN,pairwise_singleton->Dg,range->CS,set_append_right->C3,set_cons_zero->CW,set_getElem_self->EF,take_add_one->AM,take_of_length_le->Ai,take_succ_cons->B4,take_zero->Cc,zip_cons_cons->Ey
open List.Pairwise renaming filter->Df
open Nat renaming add_mul->By,add_sub_cancel->Ba,le_refl->Ap,le_trans->An,lt_of_le_of_lt->Cu,lt_or_ge->Bf,lt_succ_self->AK,lt_trichotomy->Gk,min_eq_left->BR,mul_comm->Ci,mul_le_mul->Cs,mul_le_mul_left->BE,mul_le_mul_right->A8,one_le_two_pow->Cd,pow_add->CA,pow_le_pow_right->BW,sub_lt_sub_left->AF,sub_self->Cx,succ_mul->C7,zero_add->A6,zero_le->Al,zero_mul->Cn
open Option renaming getD_some->Bd,isSome_some->Fa,map_some->A4
open Option.some renaming injEq->AU
open Prod.mk renaming injEq->ED
open _root_ renaming beq_iff_eq->CK,decide_eq_false->Bo,decide_eq_false_iff_not->CP,decide_eq_true->Bx,decide_eq_true_eq->AI,decide_false->FY,eq_true->EI,if_false->B2,if_neg->Ac,if_pos->Ad,if_true->B1
section
open List renaming map_map->O,mapM_map->X
open Go Go.Am Go.Proofs
namespace Go.Am
def aYf(n:Nat)(x f g:Nat->Int)(a b:Int):sgm n (λi=>x i*(a*f i-g i*b))=a*sgm n (λi=>x i*f i)-sgm n (λi=>x i*g i)*b:=by
 induction n with
 |zero=>simp[sgm]
 |succ n ih=>simp only[sgm];rw[ih];grind
def bGl(n:Nat)(x y f:Nat->Int)(a b:Int):sgm n (λi=>(a*x i-b*y i)*f i)=a*sgm n (λi=>x i*f i)-b*sgm n (λi=>y i*f i):=by
 induction n with
 |zero=>simp[sgm]
 |succ n ih=>simp only[sgm];rw[ih];grind
def bPr{n B:Nat}{f:Nat->Int}(h:∀j,j<n->(f j).natAbs<=B):(sgm n f).natAbs<=n*B:=by
 induction n with
 |zero=>simp[sgm]
 |succ n ih =>
  have h1:=ih λj hj=>h j (by omega)
  have h2:=h n (by omega);rw[C7];simp only[sgm];omega
def aIt(k:Nat)(f:Nat->Int):∀n,sgm (k+n) f=sgm k f+sgm n (λi=>f (k+i))
 |0=>by simp[sgm]
 |n+1=>by rw[<-Nat.add_assoc];simp only[sgm];rw[aIt k f n];omega
def zZ{x y:Int}{a b:Nat}(hx:x.natAbs<=2^a)(hy:y.natAbs<=2^b):(x*y).natAbs<=2^(a+b):=by rw[BX,CA];exact Cs hx hy
def gG:Nat->Nat->Nat
 |0,_=>0
 |n+1,b=>gG n (2*b+1)+b+n
def aDq:∀{n b b':Nat},b<=b'->gG n b<=gG n b'
 |0,_,_,_=>Ap _
 |n+1,b,b',h=>by have:=aDq (n:=n) (b:=2*b+1) (b':=2*b'+1) (by omega);simp only[gG];omega
def bLk{n m b:Nat}(h:n<=m):gG n b<=gG m b:=by
 induction m with
 |zero=>rw[show n=0 by omega];exact Ap _
 |succ m ih =>
  by_cases e:n=m+1
  ·rw[e];exact Ap _
  ·have h1:=ih (by omega);have h2:=aDq (n:=m) (b:=b) (b':=2*b+1) (by omega);show _<=gG m (2*b+1)+b+m;omega
def aBo(c:Nat):∀(n b:Nat) (u:Nat->Nat->Int) (S:Nat->Prop),(∀i t,i<n->t<c->(u i t).natAbs<=2^b) ->
  (∃x:Nat->Int,(∃i,i<n/\x i≠0)/\(∀i,i<n->¬S i->x i=0)/\∀t,t<c->sgm n (λi=>x i*u i t)=0) ->
  ∃y:Nat->Int,(∃i,i<n/\y i≠0)/\(∀i,i<n->¬S i->y i=0)/\(∀t,t<c->sgm n (λi=>y i*u i t)=0)/\∀i,i<n->(y i).natAbs<=2^gG n b
 |0,b,u,S,_,⟨x,⟨i,hi,_⟩,_⟩=>absurd hi (Nat.not_lt_zero _)
 |n+1,b,u,S,hu,⟨x,⟨i0,hi0,hx0⟩,hxS,hx⟩=>by
  by_cases hS:S n
  rotate_left
  ·have xn:x n=0:=hxS n (by omega) hS;obtain⟨y,⟨i1,hi1,hy1⟩,hyS,hy,hyb⟩:=aBo c n b u S (λi t hi ht=>hu i t (by omega) ht) ⟨x,⟨i0,by
    by_cases e:i0=n
    ·rw[e]at hx0;exact absurd xn hx0
    ·omega,hx0⟩,λi hi=>hxS i (by omega),λt ht=>by have:=hx t ht;simp only[sgm]at this;rw[xn]at this;simpa using this⟩
   refine⟨λi=>if i=n then 0 else y i,⟨i1,by omega,by show(if i1=n then 0 else y i1)≠0;rw[Ac (by omega)];exact hy1⟩,λi hi hs=>?_,λt ht=>?_,λi hi=>?_⟩
   ·show(if i=n then 0 else y i)=0;split
    ·rfl
    ·exact hyS i (by omega) hs
   ·simp only[sgm,B1];rw[dL λi hi=>by rw[Ac (by omega:¬i=n)],hy t ht];simp
   ·show(if i=n then 0 else y i).natAbs<=_;split
    ·exact Al _
    ·refine An (hyb i (by omega)) (BW (by omega) ?_);have:=aDq (n:=n) (b:=b) (b':=2*b+1) (by omega);simp only[gG];omega
  ·by_cases hz:∃t,t<c/\u n t≠0
   rotate_left
   ·refine⟨λi=>if i=n then 1 else 0,⟨n,by omega,by simp⟩,λi hi hs=>?_,λt ht=>?_,λi hi=>?_⟩
    ·show(if i=n then(1:Int)else 0)=0;rw[Ac λ(e:i=n)=>hs (e ▸ hS)]
    ·refine(qH (by omega) λi=>u i t).trans ?_;exact A9 λe=>hz ⟨t,ht,e⟩
    ·have:1<=2^gG (n+1) b:=Cd;show(if i=n then(1:Int)else 0).natAbs<=_;split<;>simp<;>omega
   ·obtain⟨t0,ht0,hn0⟩:=hz;have hxn:∃i,i<n/\x i≠0:=A9 λh0=>by
     have hz:∀i,i<n->x i=0:=λi hi=>A9 λe=>h0 ⟨i,hi,e⟩
     have:=hx t0 ht0;simp only[sgm]at this;rw[rC λi hi=>by rw[hz i hi];simp,CD]at this;rcases D8.1 this with e|e
     ·by_cases e2:i0=n
      ·rw[e2]at hx0;exact hx0 e
      ·exact hx0 (hz i0 (by omega))
     ·exact hn0 e
    obtain⟨y,⟨i1,hi1,hy1⟩,hyS,hy,hyb⟩:=aBo c n (2*b+1) (λi t=>u n t0*u i t-u i t0*u n t) S (λi t hi ht=>by
     have h1:=zZ (hu n t0 (by omega) ht0) (hu i t (by omega) ht);have h2:=zZ (hu i t0 (by omega) ht0) (hu n t (by omega) ht);have h3:2^(2*b+1)=2^(b+b)+2^(b+b):=by rw[Nat.pow_succ,Nat.mul_two,show 2*b=b+b by omega]
     show(u n t0*u i t-u i t0*u n t).natAbs<=_;omega) ⟨x,hxn,λi hi=>hxS i (by omega),λt ht=>by
      have h1:=hx t ht;have h2:=hx t0 ht0;simp only[sgm]at h1 h2;rw[aYf n x (λi=>u i t) (λi=>u i t0),show sgm n (λi=>x i*u i t)=- (x n*u n t)by omega,show sgm n (λi=>x i*u i t0)=- (x n*u n t0)by omega];grind⟩
    obtain⟨g,hg⟩:∃g,gG n (2*b+1)=g:=⟨_,rfl⟩;have hg':gG (n+1) b=g+b+n:=by simp only[gG];rw[hg]
    rw[hg]at hyb;rw[hg'];have hy0:∀j,j<n->(y j*u j t0).natAbs<=2^(g+b):=λj hj=>zZ (hyb j hj) (hu j t0 (by omega) ht0)
    refine⟨λi=>if i=n then-sgm n (λi=>y i*u i t0)else u n t0*y i,⟨i1,by omega,?_⟩,λi hi hs=>?_,λt ht=>?_,λi hi=>?_⟩
    ·show(if i1=n then _ else u n t0*y i1)≠0;rw[Ac (by omega)];exact λe=>(D8.1 e).elim hn0 hy1
    ·show(if i=n then _ else u n t0*y i)=0;rw[Ac λ(e:i=n)=>hs (e ▸ hS),hyS i (by
      by_cases e:i=n
      ·exact absurd (e ▸ hS) hs
      ·omega) hs,DP]
    ·have h1:=hy t ht;rw[aYf n y (λi=>u i t) (λi=>u i t0)]at h1;simp only[sgm,B1];rw[dL (g:=λi=>u n t0*(y i*u i t)) λi hi=>by rw[Ac (by omega:¬i=n),DD],yF,Int.neg_mul];omega
    ·show(if i=n then _ else u n t0*y i).natAbs<=_;split
     ·rw[CT];refine An (bPr hy0) ?_;rw[CA _ (g+b),Ci];exact BE _ (Nat.le_of_lt Nat.lt_two_pow_self)
     ·refine An (zZ (hu n t0 (by omega) ht0) (hyb i (by omega))) (BW (by omega) (by omega))
structure bOp(R c Q k:Nat)(A M:List (List Int))(p:Nat->Nat):Prop where
 hn:Hn Q R R k M p
 le:k<=Q
 ker:∀i,i<k->∀t,t<c->sgm R (λj=>ent M i j*ent A j t)=0
 all:∀x:Nat->Int,(∀t,t<c->sgm R (λj=>x j*ent A j t)=0)->∃a:Nat->Int,∀j,j<R->sgm Q (λi=>a i*ent M i j)=x j
section
variable {R c Q k b:Nat} {A M:List (List Int)} {p:Nat->Nat}
def InK(R c:Nat)(A:List (List Int))(x:Nat->Int):Prop:=∀t,t<c->sgm R (λj=>x j*ent A j t)=0
def InK.lin{x y:Nat->Int}(hx:InK R c A x)(hy:InK R c A y)(a b:Int):InK R c A (λj=>a*x j-b*y j):=λt ht=>by rw[bGl,hx t ht,hy t ht];simp
def Hn.inj(h:Hn Q c R k M p){i j:Nat}(hi:i<k)(hj:j<k)(e:p i=p j):i=j:=by
 rcases Gk i j with h1|h1|h1
 ·have:=h.inc i j h1 hj;omega
 ·exact h1
 ·have:=h.inc j i h1 hi;omega
def aYo(h:bOp R c Q k A M p){i:Nat}(hi:i<k):∀n,i+1+n<=k->∃x:Nat->Int,InK R c A x/\x (p i)≠0/\∀m,m<i+1+n->m≠i->x (p m)=0
 |0,_=>⟨λj=>ent M i j,h.ker i hi,by have:=h.hn.pos i hi;show ent M i (p i)≠0;omega,λm hm hne=>h.hn.bef i _ hi (h.hn.inc m i (by omega) hi)⟩
 |n+1,hn=>by
  obtain⟨x,h1,h2,h3⟩:=aYo h hi n (by omega);have hm:i+1+n<k:=by omega
  have h0:∀m,m<i+1+n->ent M (i+1+n) (p m)=0:=λm hm'=>h.hn.bef _ _ hm (h.hn.inc m _ hm' hm)
  refine⟨λj=>ent M (i+1+n) (p (i+1+n))*x j-x (p (i+1+n))*ent M (i+1+n) j,h1.lin (h.ker _ hm) _ _,?_,λm hm' hne=>?_⟩
  ·show ent M (i+1+n) (p (i+1+n))*x (p i)-_*ent M (i+1+n) (p i)≠0;rw[h0 i (by omega)];intro e;have hp:=h.hn.pos _ hm;have:ent M (i+1+n) (p (i+1+n))*x (p i)=0:=by simpa using e
   rcases D8.1 this with e|e
   ·omega
   ·exact h2 e
  ·show ent M (i+1+n) (p (i+1+n))*x (p m)-x (p (i+1+n))*ent M (i+1+n) (p m)=0;by_cases e:m=i+1+n
   ·rw[e,B7];omega
   ·rw[h0 m (by omega),h3 m (by omega) hne];simp
def aJe(h:bOp R c Q k A M p)(hb:Be b A){i:Nat}(hi:i<k):∃w:Nat->Int,InK R c A w/\w (p i)≠0/\(∀m,m<k->m≠i->w (p m)=0)/\(∀j,j<R->(w j).natAbs<=2^gG R b)/\(ent M i (p i)).natAbs<=2^gG R b:=by
 obtain⟨x,x1,x2,x3⟩:=aYo h hi (k-i-1) (by omega);obtain⟨w,⟨j0,hj0,hw0⟩,w2,w3,w4⟩:=aBo c R b (λj t=>ent A j t) (λj=>j=p i\/∀m,m<k->p m≠j) (λj t _ _=>hb j t) ⟨x,⟨p i,h.hn.lt i hi,x2⟩,λj hj hs=>by
  have h1:j≠p i:=λe=>hs (.inl e)
  obtain⟨m,hm,e⟩:∃m,m<k/\p m=j:=A9 λh0=>hs (.inr λm hm e=>h0 ⟨m,hm,e⟩)
  rw[<-e];exact x3 m (by omega) λe2=>h1 (by rw[<-e,e2]),x1⟩
 obtain⟨a,ha⟩:=h.all w w3;obtain⟨m,m1,m2,_,m4⟩:=h.hn.lead h.le ha ⟨j0,hj0,hw0⟩;have hp:=h.hn.pos m m1;have hne:w (p m)≠0:=by
  rw[m4];intro e;rcases D8.1 e with e|e
  ·exact m2 e
  ·omega
 have em:m=i:=by
  refine h.hn.inj m1 hi (A9 λe=>hne (w2 _ (h.hn.lt m m1) λs=>?_));rcases s with s|s
  ·exact e s
  ·exact s m m1 rfl
 subst em;refine⟨w,w3,hne,λn hn hne=>w2 _ (h.hn.lt n hn) λs=>?_,w4,?_⟩
 ·rcases s with s|s
  ·exact hne (h.hn.inj hn m1 s)
  ·exact s n hn rfl
 ·refine An ?_ (w4 _ (h.hn.lt m m1));rw[m4,BX];have:=A8 (ent M m (p m)).natAbs (show 1<=(a m).natAbs by omega);omega
def aKf(h:bOp R c Q k A M p)(hb:Be b A):∀(m:Nat) (y:Nat->Int) (B:Nat),m<=k->InK R c A y->(∀j,j<k->m<=j->y (p j)=0)->(∀j,j<m->(y (p j)).natAbs<=B)->∀q,q<R->(∀j,j<k->p j≠q)->(y q).natAbs<=m*(B*2^gG R b)
 |0,y,B,_,hy,h0,_,q,hq,_=>by
  refine A9 λhne=>?_
  obtain⟨a,ha⟩:=h.all y hy;obtain⟨m,m1,m2,_,m4⟩:=h.hn.lead h.le ha ⟨q,hq,by intro e;rw[e]at hne;simp at hne⟩;rw[h0 m m1 (by omega)]at m4;have hp:=h.hn.pos m m1;rcases D8.1 m4.symm with e|e
  ·exact m2 e
  ·omega
 |m+1,y,B,hm,hy,h0,h1,q,hq,hnp=>by
  obtain⟨w,w1,w2,w3,w4,_⟩:=aJe h hb (show m<k by omega);have ih:=aKf h hb m (λj=>w (p m)*y j-y (p m)*w j) ((w (p m)).natAbs*B) (by omega) (hy.lin w1 _ _) (λj hj hmj=>by
   show w (p m)*y (p j)-y (p m)*w (p j)=0;by_cases e:j=m
   ·rw[e,B7];omega
   ·rw[h0 j hj (by omega),w3 j hj e];simp) (λj hj=>by
   show(w (p m)*y (p j)-y (p m)*w (p j)).natAbs<=_;rw[w3 j (by omega) (by omega),DP,Int.sub_zero,BX];exact BE _ (h1 j (by omega))) q hq hnp
  have h2:=Cs (h1 m (by omega)) (w4 q hq);rw[<-BX]at h2;have ih':(w (p m)*y q-y (p m)*w q).natAbs<=(w (p m)).natAbs*(m*(B*2^gG R b)):=by refine An ih (Nat.le_of_eq ?_);rw[Nat.mul_assoc,Nat.mul_left_comm]
  have h3:(w (p m)*y q).natAbs<=(w (p m)).natAbs*(m*(B*2^gG R b))+B*2^gG R b:=by omega
  have h4:1*(B*2^gG R b)<=(w (p m)).natAbs*(B*2^gG R b):=A8 _ (Int.natAbs_pos.2 w2);rw[BX]at h3;have h5:0<(w (p m)).natAbs:=Int.natAbs_pos.2 w2;refine Nat.le_of_mul_le_mul_left (c:=(w (p m)).natAbs) ?_ h5;rw[C7,Nat.mul_add];omega
def bDj(h:bOp R c Q k A M p)(hb:Be b A)(hk:k<=16){i q:Nat}(hi:i<k)(hq:q<R):(ent M i q).natAbs<=2^(2*gG R b+4):=by
 have hW:∀j,j<k->(ent M j (p j)).natAbs<=2^gG R b:=λj hj=>let ⟨_,_,_,_,_,e⟩:=aJe h hb hj;e
 have hpv:∀j,j<k->(ent M i (p j)).natAbs<=2^gG R b:=λj hj=>by
  rcases Gk j i with e|e|e
  ·rw[h.hn.bef i _ hi (h.hn.inc j i e hi)];exact Al _
  ·rw[e];exact hW i hi
  ·have:=hW j hj;obtain⟨r1,r2⟩:=h.hn.red i j e hj;omega
 have e1:2^(2*gG R b+4)=16*(2^gG R b*2^gG R b):=by rw[<-CA,CA,Ci,show 2*gG R b=gG R b+gG R b by omega]
 by_cases e:∃j,j<k/\p j=q
 ·obtain⟨j,hj,rfl⟩:=e;exact An (hpv j hj) (BW (by omega) (by omega))
 ·refine An (aKf h hb k (λj=>ent M i j) _ (Ap _) (h.ker i hi) (λj h1 h2=>by omega) hpv q hq λj hj e2=>e ⟨j,hj,e2⟩) ?_;rw[e1];exact A8 _ hk
end
def Hn.start(R c:Nat)(M:List (List Int)):Hn R c 0 0 M λ_=>0 :=
 ⟨λi j _ h=>by omega,λi h=>by omega,λi h=>by omega,λi t h=>by omega,λj i _ h=>by omega,λr t _ _ h=>by omega⟩
def Hn.rank{R c k:Nat}{M:List (List Int)}{p:Nat->Nat}(h:Hn R c c k M p)(hk:k<=R)(hM:Sh R c M):rkR M=k :=
 aDc hM hk (λr t h1 h2 h3=>h.low r t h1 h2 h3) λr hr=>⟨p r,h.lt r hr,by have:=h.pos r hr;omega⟩
def bTg{R t:Nat}{x:Nat->Int}(ht:t<R):sgm R (λj=>x j*ent (idM R) j t)=x t:=by rw[dL (g:=λj=>(if j=t then 1 else 0)*x j) λj hj=>by rw[sI hj ht,B7],qH ht]
def aZi{R c e:Nat}{A:List (List Int)}(hA:Sh R c A)(hR:R<=15)(hc:c<=1000)(hB:Be e A)(he:itD R e e e<4160000000000):∃L,aTt R c (2*gG R e+4) A L:=by
 obtain⟨wf,k,e',E',f1,f2,f3,f4,_,q1,q2,f5,f6,f7,f8⟩:=aZs hA hR hB he;have hB2:Sh (R-k) R (wf.U.drop k):=⟨by rw[Bl,f4.u.len],λv hv=>f4.u.row v (List.mem_of_mem_drop hv)⟩;have hbe:Be e' (wf.U.drop k):=λr t=>by rw[aGk];exact f5 _ _ (by omega)
 obtain⟨wg,q,e2,_,g1,g2,g3,g4,_,_,_,_,_,g7,g8⟩:=aZs hB2 (by omega) hbe (Cu f6 he);have he1:e<4160000000000:=Cu (aBc _ _ _ _) he;have he2:e'<4160000000000:=by omega
 have hS:=aQb hA hR hc (hB.mem he1) f1 f4.m f4.u (by rw[f2];exact f3) rfl (by rw[f2];exact hbe.mem he2) (by rw[f2];exact g1) (by rw[f2];exact g4.m);rw[g2]at hS;have hlen:(wg.M.take q).length=q:=by rw[Ax,g4.m.len];omega
 obtain⟨k1,p1,n1,n2⟩:=bWc f1 (Al _) (Al _) (Hn.start _ _ _);obtain⟨k2,p2,n3,n4⟩:=bWc g1 (Al _) (Al _) (Hn.start _ _ _);obtain rfl:k1=k:=by rw[<-n2.rank n1 f4.m];exact f2
 obtain rfl:k2=q:=by rw[<-n4.rank n3 g4.m];exact g2
 have hker:∀i,i<R-k1->∀t,t<c->sgm R (λj=>ent wg.M i j*ent A j t)=0:=λi hi t ht=>by
  rw[dL (g:=λj=>sgm (R-k1) λi2=>ent wg.U i i2*(ent wf.U (k1+i2) j*ent A j t)) λj hj=>by
   rw[<-g7 i j hi hj,<-bGk];exact dL λi2 _=>by rw[aGk,DD],bGn]
  refine rC λi2 h2=>?_
  rw[yF,f7 (k1+i2) t (by omega) ht,f8 (k1+i2) t (by omega) (by omega) ht,DP]
 have hK:bOp R c (R-k1) k2 A wg.M p2:=⟨n4,n3,λi hi=>hker i (by omega),λx hx=>by
  obtain⟨a,a1,a2⟩:=InP.fo f1 (x:=λ_=>0) (y:=x) ⟨x,hx,λt ht=>bTg ht⟩;have a0:∀j,j<k1->a j=0:=λj hj=>A9 λhne=>by
   obtain⟨m,m1,m2,_,m4⟩:=n2.min n1 a1 ⟨j,hj,hne⟩;have hp:=n2.pos m m1;rcases D8.1 m4.symm with e|e
   ·exact m2 e
   ·omega
  obtain⟨a',a1',_⟩:=InP.fo g1 (x:=x) (y:=λt=>sgm (R-k1) λj=>a (k1+j)*ent (idM (R-k1)) j t) ⟨λi=>a (k1+i),λt ht=>by
   rw[<-a2 t ht];have h1:=aIt k1 (λj=>a j*ent wf.U j t) (R-k1);rw[show k1+(R-k1)=R by omega,show sgm k1 (λj=>a j*ent wf.U j t)=0 from rC λj hj=>by rw[a0 j hj];simp]at h1;rw[h1,CD];exact dL λj _=>by show _*ent (List.drop k1 wf.U) j t=_;rw[aGk],λt ht=>rfl⟩
  exact⟨a',a1'⟩⟩
 have hgd:∀{v:List Int} {r:Nat},r<k2->(h:r<(wg.M.take k2).length)->(wg.M.take k2)[r]=v->∀j,v.getD j 0=ent wg.M r j:=λ{v r} hr h e j=>by rw[Eb]at e;unfold ent;rw[Af (l:=wg.M),Ab (by rw[g4.m.len];omega),Bd,e]
 refine⟨wg.M.take k2,by rw[hlen];exact hS,by omega,λv hv=>g4.m.row v (Cm hv),λv hv z hz=>?_,λv hv t ht=>?_⟩
 ·obtain⟨i,hi,e1⟩:=Bw hv;obtain⟨s,hs,e2'⟩:=yY hz;have hs':s<R:=by rw[g4.m.row v (Cm hv)]at hs;exact hs
  rw[<-e2',hgd (by omega) hi e1];exact bDj hK hB (by omega) (by omega) hs'
 ·obtain⟨r,hr,e1⟩:=Bw hv;rw[dL λj _=>by rw[hgd (by omega) hr e1 j]];exact hker r (by omega) t ht
def eD(d:Int):Nat:=if d=1 then 4 else if d=2 then 1024 else if d=3 then 65536 else 0
structure Gr(g:Int->Nat)(i:Nat)(c:List Cl):Prop where
 v:CxV c
 len:c.length<=7+i
 n0:(cB c 0).length<=3+i
 n1:(cB c 1).length<=3+i
 n2:(cB c 2).length<=2+i
 n3:(cB c 3).length<=1+i
 ids:∀x∈c,1<=x.id/\x.id<=9+2*(i:Int)
 bl:∀x∈c,x.b.length<=48
 eb:∀x∈c,Bnd (2^g x.dim) x.b
def grB(c:List Cl):Prop:=(c.Pairwise λx y=>x.id<y.id)/\(∀x∈c,0<=x.dim/\x.dim<=3)/\(∀x∈c,x.b.Pairwise (λx y=>x.1<y.1)/\∀y∈x.b,y.2≠0)/\(∀x∈c,∀f∈x.b,∃y∈c,y.id=f.1/\y.dim=x.dim-1)/\(∀x∈c,cF [] (bdL c x.b)=[])
 /\ c.length<=7/\(cB c 0).length<=3/\(cB c 1).length<=3/\(cB c 2).length<=2/\(cB c 3).length<=1/\(∀x∈c,1<=x.id/\x.id<=9)/\(∀x∈c,x.b.length<=48)/\∀x∈c,x.b=[]\/(1<=x.dim/\∀y∈x.b,y.2.natAbs<=16)
instance (c : List Cl) : Decidable (grB c) := by unfold grB;infer_instance
def cCe{e:Int->Nat}{c:List Cl}(he:∀d:Int,1<=d->d<=3->4<=e d)(h:grB c):Gr e 0 c:=by
 obtain⟨h1,h2,h3,h4,h5,h6,h7,h8,h9,h9',h10,h11,h12⟩:=h;refine⟨⟨h1,h2,h3,h4,λx hx n=>?_⟩,h6,h7,h8,h9,h9',λx hx=>by have:=h10 x hx;omega,h11,λx hx=>?_⟩
 ·rw[<-aWp];have:=(cS (bdL c x.b) [] Val.nil).2 n;rw[h5 x hx,gX]at this;omega
 ·rcases h12 x hx with h|⟨h,h'⟩
  ·rw[h];exact Bnd.nil _
  ·exact Bnd.mono (M:=16) h' (An (show 16<=2^4 by decide) (yL (he _ h (h2 x hx).2)))
def bXc{e:Int->Nat}(he:∀d:Int,1<=d->d<=3->4<=e d)(j:Nat)(h:j<14):Gr e 0 (spc j):=by refine cCe he ?_;clear he;revert j;decide
def aFy{c:List Cl}{E:Nat}{cyc:List (List (Int×Int))}{xs:List Int}{S:Int->Prop}{W:Int->Int->Int}(hc:∀y∈cyc,Val y/\Bnd (2^E) y/\(∀f∈y,S f.1)/\∀n,bO (W n) y=0) :
  ∀i,i<=cyc.length->Val (gB cyc xs i)/\Bnd (i*(2^2*2^E)) (gB cyc xs i)/\(∀f∈gB cyc xs i,S f.1)/\∀n,bO (W n) (gB cyc xs i)=0
 |0,_=>⟨Val.nil,Bnd.nil _,(λf hf=>absurd hf List.not_mem_nil),λn=>rfl⟩
 |i+1,hi=>by
  obtain⟨h1,h2,h3,h4⟩:=aFy (c:=c) (xs:=xs) hc i (by omega);have hm:cyc.getD i []∈cyc:=by rw[Af,Ab (by omega)];exact Ar _
  obtain⟨y1,y2,y3,y4⟩:=hc _ hm;refine⟨(aDm h1 y1 _).1,?_,aJy h1 y1 h3 y3,λn=>?_⟩
  ·rw[C7];exact bJn h1 y1 h2 y2 (aOu _).1
  ·show bO (W n) (cF (gB cyc xs i) (mulR _ (cyc.getD i [])))=0;rw[mV,mU,h4,y4];simp
def bYw{c:List Cl}{x0:Int}(h:Inc c):∀x∈c,x.id<gId c x0:=λx hx=>by
 unfold gId;cases e:c.getLast? with
 |none=>rw[List.getLast?_eq_none_iff]at e;rw[e]at hx;cases hx
 |some y =>
  obtain⟨ys,hy⟩:=List.getLast?_eq_some_iff.1 e;have:x.id<=y.id:=by
   rw[hy]at hx h;rcases A5.1 hx with hx|hx
   ·exact Int.le_of_lt ((List.pairwise_append.1 h).2.2 x hx y (Fe _))
   ·rw[AT.1 hx];exact Int.le_refl _
  simp only;omega
def bYv{c:List Cl}{x0 m:Int}(h:∀x∈c,1<=x.id/\x.id<=m)(hm:0<=m):1<=gId c x0/\gId c x0<=m+2:=by
 unfold gId;cases e:c.getLast? with
 |none=>simp only;omega
 |some y =>
  have:=h y (List.mem_of_getLast? e);simp only;omega
def grow{e:Int->Nat}{i E:Nat}{c:List Cl}{x0 x1 x2 x3:Int}{cyc:List (List (Int×Int))}(g:Gr e i c)(hc:∀y∈cyc,Val y/\Bnd (2^E) y/\(∀f∈y,f.1∈cB c (jP x0-1))/\∀n,bO (λm=>cf n (bOf c m)) y=0)(hl:∀y∈cyc,y.length<=16)
  (hE:cyc=[]\/E+4<=e (jP x0)):Gr e (i+1) (grown c x0 x1 x2 x3 cyc):=by
 obtain⟨b1,b2,b3,b4⟩:=aFy (c:=c) (xs:=[x0,x1,x2,x3]) hc (min 3 cyc.length) (by omega)
 have b5:(gB cyc [x0,x1,x2,x3] (min 3 cyc.length)).length<=48:=by have:=(aZq (e:=E) (xs:=[x0,x1,x2,x3]) (λy hy=>(hc y hy).2.1) hl (min 3 cyc.length) (by omega) (by omega)).2;omega
 have b6:Bnd (2^e (jP x0)) (gB cyc [x0,x1,x2,x3] (min 3 cyc.length)):=by
  rcases hE with h|h
  ·subst h;exact Bnd.nil _
  ·refine b2.mono (An ?_ (yL h));rw[pG,show E+4=2+(2+E)by omega];exact tW (An (show min 3 cyc.length<=3 by omega) (by decide))
 unfold grown
 generalize gB cyc [x0,x1,x2,x3] (min 3 cyc.length)=b at *
 have hgt:=bYw (x0:=x0) g.v.inc
 have hle:=bYv (x0:=x0) g.ids (by omega)
 have hd:0<=jP x0/\jP x0<=3:=by unfold jP;omega
 generalize gId c x0=id at *
 generalize jP x0=d at *
 have hmem:∀n k,n∈cB c k->n≠id:=λn k hn=>by obtain⟨y,hy,_,e⟩:=rK.1 hn;have:=hgt y hy;omega
 have hall:∀(P:Cl->Prop),(∀x∈c,P x)->P ⟨id,d,b⟩->∀x∈c++[⟨id,d,b⟩],P x:=λP h1 h2 x hx=>by
  rcases A5.1 hx with hx|hx
  ·exact h1 x hx
  ·rw[AT.1 hx];exact h2
 have hcnt:∀k m,(cB c k).length<=m->(cB (c++[⟨id,d,b⟩]) k).length<=m+1:=λk m h=>by rw[aSa,Ak];split<;>simp<;>omega
 refine⟨⟨?_,hall _ g.v.dim hd,hall _ g.v.val b1,hall _ (λx hx f hf=>?_) λf hf=>?_,hall _ (λx hx n=>?_) λn=>?_⟩,?_,hcnt 0 _ g.n0,hcnt 1 _ g.n1,hcnt 2 _ g.n2,hcnt 3 _ g.n3,hall _ (λx hx=>?_) ?_,hall _ g.bl b5,hall _ g.eb b6⟩
 ·refine List.pairwise_append.2 ⟨g.v.inc,Dg _ _,λx hx y hy=>?_⟩
  rw[AT.1 hy];exact hgt x hx
 ·obtain⟨y,hy,e⟩:=g.v.face x hx f hf
  exact⟨y,FD _ hy,e⟩
 ·obtain⟨y,hy,e1,e2⟩:=rK.1 (b3 f hf)
  exact⟨y,FD _ hy,e2,e1⟩
 ·rw[eB λf hf=>?_]
  ·exact g.v.cyc x hx n
  ·obtain⟨y,hy,e,_⟩:=g.v.face x hx f hf
   rw[bAl]
   have:=hgt y hy
   show f.1≠id;omega
 ·rw[eB λf hf=>?_]
  ·exact b4 n
  ·rw[bAl];exact hmem _ _ (b3 f hf)
 ·rw[Ak];have:=g.len;simp;omega
 ·have:=g.ids x hx;omega
 ·show 1<=id/\id<=_;omega
def bKf{R R' e:Nat}(h:R<=R'):itD R e e e<=itD R' e e e:=by
 induction R' with
 |zero=>rw[show R=0 by omega];exact Ap _
 |succ n ih =>
  by_cases e:R=n+1
  ·rw[e];exact Ap _
  ·exact An (ih (by omega)) (bYn _ _ _ _)
def bZj{E:Nat}{c:List Cl}{k:Int}{L:List (List Int)}(hv:CxV c)(hL:aTt (cB c k).length (cB c (k-1)).length E (tK c k) L) :
  ∀y∈L.map λv=>(chX c k v).1,(Val y/\Bnd (2^E) y/\(∀f∈y,f.1∈cB c k)/\∀n,bO (λm=>cf n (bOf c m)) y=0)/\y.length<=(cB c k).length:=λy hy=>by
 obtain⟨v,hvL,rfl⟩:=AA.1 hy
 have hr:=hL.row v hvL
 have e:(chX c k v).1=cF [] ((cB c k).zip v):=by unfold chX;rw[Ad hr]
 rw[e]
 obtain⟨c1,c2,c3,c4,_⟩:=bMr (hv.inc.ids k) (hL.be v hvL)
 exact⟨⟨c1,c2,c3,hv.cycle hr (hL.ker v hvL)⟩,c4⟩
abbrev Q4:=Int×Int×Int×Int
def Q4.ok(q:Q4):Prop:=(-128<=q.1/\q.1<=127)/\(-128<=q.2.1/\q.2.1<=127)/\(-128<=q.2.2.1/\q.2.2.1<=127)/\(-128<=q.2.2.2/\q.2.2.2<=127)
def qW(q:Q4):List D:=[.i .i8 q.1,.i .i8 q.2.1,.i .i8 q.2.2.1,.i .i8 q.2.2.2]
def aNa(s:Int)(l:List Q4):D:=.ag [.i .u8 s,.sl (l.map qW)]
inductive MkR:List Q4->List Cl->List Cl->Prop
 |nil (c:List Cl):MkR [] c c
 |cons (q:Q4) (l:List Q4) (c c1 c2:List Cl) (h:Spec Aa 29 [aE c,.ag (qW q)] (aE c1)) (h2:MkR l c1 c2):MkR (q::l) c c2
def MkR.end{c c2:List Cl}(h:MkR [] c c2):c2=c:=by cases h;rfl
def MkR.next{q:Q4}{l:List Q4}{c c2:List Cl}(h:MkR (q::l) c c2):∃c1,Spec Aa 29 [aE c,.ag (qW q)] (aE c1)/\MkR l c1 c2:=by cases h with|cons _ _ _ c1 _ h h2=>exact⟨c1,h,h2⟩
def aPy(s:Int)(l:List Q4)(c0 c:List Cl)(hl:l.length<=9223372036854775807)(hS:Spec Aa 54 [.i .u8 s] (aE c0))(hm:MkR (l.take 4) c0 c):Spec Aa 27 [aNa s l] (aE c):=by
 refine bF (N:=27) Tryz.func27 ?_;have hq4:∀q:Q4,qW q=[.i .i8 q.1,.i .i8 q.2.1,.i .i8 q.2.2.1,.i .i8 q.2.2.2]:=λq=>rfl
 simp[-O,-X,↓KW,aNa];refine aJ hS ?_;simp[-O,-X,↓KW,aE];refine aP (λy:Nat×List Cl=>y.1<=min 4 l.length/\MkR ((l.take 4).drop y.1) y.2 c) (λy=>StL [(1,.ptr 1 0),(3,.d (aE y.2)),(4,.d (.i .i64 (y.1:Int)))] none [.cells 24 [.d (.i .u8 s),.d (.sl (l.map qW))]]) (λy=>4-y.1) (0,c0) ⟨Al _,hm⟩ ?_ ?_
 ·refine wkQ [1] ?_ ?_<;>simp[-O,upd,aO,Γ0,aE]
 ·rintro⟨i,d⟩ ⟨hi,hm⟩;simp only at hi hm ⊢;by_cases hgo:i<l.length/\i<4
  ·have g1:=hgo.1;have g2:=hgo.2;have q1:(i:Int)<l.length:=by omega
   have q2:(i:Int)<4:=by omega
   have hx:l[i]? = some l[i]:=Ab g1;have hd:(l.take 4).drop i=l[i]::(l.take 4).drop (i+1):=by rw[AP (by rw[Ax];omega),Eb]
   rw[hd]at hm;have hw:Ag.wrap ((i:Int)+1)=(i:Int)+1:=aV;refine(hm.next).elim λd1 hh=>?_
   have h1:=hh.1;have h2:=hh.2;clear hh hd hm;have hx':∀h:i<l.length,l[i]'h=l[i]:=λh=>rfl
   refine exE l[i] λq hq=>?_
   rw[hq]at hx h1;have hgy':∀h:i<l.length,l[i]'h=q:=λh=>hq
   have e4:=hq4 q;rw[e4]at h1;simp[-O,-X,↓KW,aE,g1,g2,q1,q2,hx,hgy',e4];refine aJ h1 ?_;simp[-O,-X,↓KW,aE,hw];refine aI (i+1,d1) ⟨by simp only;omega,h2⟩ (by simp only;omega) (wkQ [1] ?_ ?_)<;>simp[-O,upd,aO,Γ0,aE]
  ·have hd:(l.take 4).drop i=[]:=BA (by rw[Ax];omega);rw[hd]at hm;have he:=hm.end;by_cases g1:i<l.length
   ·have q1:(i:Int)<l.length:=by omega
    have q2:¬(i:Int)<4:=by omega
    simp[-O,-X,↓KW,aE,q1,q2,he]
   ·have q1:¬(i:Int)<l.length:=by omega
    simp[-O,-X,↓KW,aE,q1,he]
def bGe(s:Int)(h:0<=s/\s<=255):∃j,j<14/\Spec Aa 54 [.i .u8 s] (aE (spc j)):=by have h1:=Int.tmod_lt_of_pos s (b:=14) (by decide);have h2:0<=s.tmod 14:=Int.tmod_nonneg _ h.1;exact⟨(s.tmod 14).toNat,by omega,bXd s _ (by omega) (by omega)⟩
structure MdX(c:List Cl):Prop where
 v:CxV c
 len:c.length<=11
 ids:∀x∈c,1<=x.id/\x.id<=17
 sz:∃F,F=549755944960/\SzX F c
 n1:(cB c 1).length<=7
 n2:(cB c 2).length<=6
 n3:(cB c 3).length<=5
 eb:∀x∈c,Bnd (2^eD x.dim) x.b
end Go.Am
end
section
open List renaming map_map->O,mapM_map->X
open Go Go.Am Go.Proofs
namespace Go.Am
open Go.ChangeShapes Go.WideShapes Go.ChangeAt Go.RowKit
def cDq:Aa.cellsOf 24=2:=by kernel_rfl
def zU8:Aa.cellsOf 5=1:=by kernel_rfl
def zI8:Aa.cellsOf 26=1:=by kernel_rfl
def zA4:Aa.cellsOf 27=4:=by kernel_rfl
def zL4:Aa.cellsOf 22=1:=by kernel_rfl
def zA2:Aa.cellsOf 58=2:=by kernel_rfl
def aAh{n:Int}(h:(Lit.int .i8 n).wf=true):-128<=n/\n<=127:=by have hmin:F6.min=-128:=rfl;have hmax:F6.max=127:=rfl;simp only[Lit.wf,AO,AI]at h;omega
def aLe{n:Int}(h:(Lit.int .u8 n).wf=true):0<=n/\n<=255:=by have hmin:BO.min=0:=rfl;have hmax:BO.max=255:=rfl;simp only[Lit.wf,AO,AI]at h;omega
def cBw{α:Type}{l:List α}(h:l.length=4):∃a b c d,l=[a,b,c,d]:=by
 match l,h with
 |[a,b,c,d],_=>exact⟨a,b,c,d,rfl⟩
def bVx{α:Type}{l:List α}(h:l.length=2):∃a b,l=[a,b]:=by
 match l,h with
 |[a,b],_=>exact⟨a,b,rfl⟩
section
variable {H:Type} {enc:TypeId×Value->H} {w:World} {sp:Nat->Bool} {held:Bool}
def bVu{cs:List Value}{x:DataW H×List MemPlace}{fuel:Nat}(h:DataW.trod enc Aa w 0 sp held fuel 27 cs=some x) :
  ∃y:Q4,y.ok/\(qW y).length=Aa.cellsOf 27/\∀(k:Nat) (c:D) (v:Value),(qW y)[k]? = some c->cs[k]? = some v->VD (λb=>b<w.heap.size) w c v:=by
 obtain⟨xs,m,_,_,hcl,hxl,hx⟩:=DataW.trod_array Tryz.underlying27 h
 rw[zA4]at hcl
 obtain⟨a,b,c,d,rfl⟩:=cBw hcl
 have h0:=hx 0 (by decide)
 have h1:=hx 1 (by decide)
 have h2:=hx 2 (by decide)
 have h3:=hx 3 (by decide)
 rw[zI8,Ab (by omega)]at h0 h1 h2 h3
 simp only[Nat.mul_one,Cn,Nat.one_mul,BY,B5,B4,Cc]at h0 h1 h2 h3
 obtain⟨i0,e0,_,w0⟩:=Dp Ec h0
 obtain⟨i1,e1,_,w1⟩:=Dp Ec h1
 obtain⟨i2,e2,_,w2⟩:=Dp Ec h2
 obtain⟨i3,e3,_,w3⟩:=Dp Ec h3
 injection e0 with e0;injection e1 with e1;injection e2 with e2;injection e3 with e3
 subst e0;subst e1;subst e2;subst e3
 refine⟨(i0,i1,i2,i3),⟨aAh w0,aAh w1,aAh w2,aAh w3⟩,by rw[zA4];rfl,λk c v hk hv=>?_⟩
 rcases k with _|_|_|_|k
 ·simp[qW]at hk hv;subst hk;subst hv;exact .i _ _
 ·simp[qW]at hk hv;subst hk;subst hv;exact .i _ _
 ·simp[qW]at hk hv;subst hk;subst hv;exact .i _ _
 ·simp[qW]at hk hv;subst hk;subst hv;exact .i _ _
 ·simp[qW]at hk
def bIh{v:Value}{d:DataW H}{ps:List MemPlace}{cs:Array Value}(hv:v=.agg cs)(h:DataW.Trod enc Aa w 0 sp held 24 v d ps) :
  ∃(s:Int) (l:List Q4),VD (λb=>b<w.heap.size) w (aNa s l) v/\(0<=s/\s<=255)/\(∀y∈l,y.ok)/\l.length<=9223372036854775807:=by
 subst hv
 obtain⟨fuel,hf⟩:=h
 obtain⟨xs,n,_,_,hl,hlen,hfs⟩:=DataW.trod_struct Tryz.underlying24 hf
 rw[cDq]at hl
 have h0:=hfs 0 { name := "S",type:=5,offset:=0,embedded:=false,tag := "",pkgPath := "",byteOffset:=0 } rfl
 have h1:=hfs 1 { name := "L",type:=22,offset:=1,embedded:=false,tag := "",pkgPath := "",byteOffset:=8 } rfl
 obtain⟨x0,hx0⟩:∃x,xs[0]? = some x:=⟨_,Ab (by rw[hlen];decide)⟩
 obtain⟨x1,hx1⟩:∃x,xs[1]? = some x:=⟨_,Ab (by rw[hlen];decide)⟩
 rw[hx0]at h0;rw[hx1]at h1
 simp only[Value.cells]at h0 h1 hl
 obtain⟨cs⟩:=cs
 simp only at h0 h1 hl
 obtain⟨a,b,rfl⟩:=bVx hl
 simp only[zU8,zL4,BY,B5,B4,Cc]at h0 h1
 obtain⟨i,e1,_,w1⟩:=Dp Tryz.underlying5 h0
 obtain⟨u,l,e2,hu,hg,hL⟩:=aJg Tryz.underlying22 (by rw[zA4];decide) qW Q4.ok (λfuel cs x h=>bVu h) h1
 injection e1 with e1;injection e2 with e2
 subst e1;subst e2
 refine⟨i,l,.ag _ _ rfl λk d v hk hv=>?_,aLe w1,hg,hL⟩
 rcases k with _|_|k
 ·simp at hk hv;subst hk;subst hv;exact .i _ _
 ·simp at hk hv;subst hk;subst hv;exact hu
 ·simp at hk
end
end Go.Am
namespace Go.Proofs.YtgjjndadkmodpaaGreat
def cEe:ownKnob Aa.godebug=none:=by kernel_rfl
def bJv:laidOutB Aa=true:=by kernel_rfl
end Go.Proofs.YtgjjndadkmodpaaGreat
end
section
open List renaming map_map->O,mapM_map->X
open Go Go.Am Go.Proofs
namespace Go.Am
def b2F(M d:Nat):Nat:=2*gG M (4+d)+10+d
def cBf(M d q:Nat):Bool:=decide (itD M (4+d) (4+d) (4+d)<4160000000000)&&decide (itD q (b2F M d) (b2F M d) (b2F M d)<4160000000000)&&decide (2*gG q (b2F M d)+20<2097152)&&decide (b2F M d<2097152)
def bRp:((CS 15).all λM=>(CS 15).all λd=>(CS 17).all λq=>decide (M<3)||decide (14<M+d)||decide (16<M+q+d)||cBf M d q)=true:=by kernel_rfl
def aFf{M d q:Nat}(h3:3<=M)(h1:M+d<=14)(h2:M+q+d<=16):itD M (4+d) (4+d) (4+d)<4160000000000/\itD q (b2F M d) (b2F M d) (b2F M d)<4160000000000/\2*gG q (b2F M d)+20<2097152/\b2F M d<2097152:=by have h:=bRp;rw[Ay]at h;have h:=h M (C4.2 (by omega));rw[Ay]at h;have h:=h d (C4.2 (by omega));rw[Ay]at h;have h:=h q (C4.2 (by omega));simp only[Bool.or_eq_true,AI]at h;have h:=h.resolve_left (by omega);simp only[cBf,AO,AI]at h;exact⟨h.1.1.1,h.1.1.2,h.1.2,h.2⟩
def eH(b1 b2 b3:Nat)(d:Int):Nat:=if d=1 then b1 else if d=2 then b2 else if d=3 then b3 else 0
def cyE(M q b1 b2:Nat)(d:Int):Nat:=if d=1 then 0 else if d=2 then 2*gG M b1+4 else if d=3 then 2*gG q b2+4 else 0
def bAa{c:List Cl}{b1 b2 b3 M q:Nat}(hv:CxV c)(hlen:c.length<=40)(hbl:∀x∈c,x.b.length<=48)(h0:(cB c 0).length<=15)(h1:(cB c 1).length<=M)(hM:M<=15)(h2:(cB c 2).length<=q)(hq:q<=15)
  (eb:∀x∈c,Bnd (2^eH b1 b2 b3 x.dim) x.b) (k1:itD M b1 b1 b1<4160000000000) (k2:itD q b2 b2 b2<4160000000000) (kM:2*gG M b1+4<2097152) (kq:2*gG q b2+4<2097152) (d:Int) (hd:0<=d/\d<=3) :
  ∃cyc E,Spec Aa 55 [aE c,.i .i64 (d-1)] (nZ cyc)/\(cyc=[]\/1<=d/\E<=cyE M q b1 b2 d)/\E+20<4398046511104/\cyc.length<=100 /\
  ∀y∈cyc,(Val y/\Bnd (2^E) y/\(∀f∈y,f.1∈cB c (d-1))/\∀n,bO (λm=>cf n (bOf c m)) y=0)/\y.length<=16:=by
 have hbl':∀x∈c,x.b.length<=1000000:=λx hx=>An (hbl x hx) (by decide)
 have fin:∀(k:Int) (E:Nat) L,0<=k->k<=2->(cB c k).length<=16->E+20<4398046511104->E<=cyE M q b1 b2 (k+1)->aTt (cB c k).length (cB c (k-1)).length E (tK c k) L->∃cyc E,Spec Aa 55 [aE c,.i .i64 k] (nZ cyc)/\(cyc=[]\/1<=k+1/\E<=cyE M q b1 b2 (k+1))/\E+20<4398046511104/\cyc.length<=100 /\
   ∀y∈cyc,(Val y/\Bnd (2^E) y/\(∀f∈y,f.1∈cB c k)/\∀n,bO (λm=>cf n (bOf c m)) y=0)/\y.length<=16:=λk E L h1 h2 h3 h4 h5 hL=>by
  have hc:=bZj hv hL
  refine⟨_,E,bBw c k L (by omega) (by omega) hbl' hL h4,(.inr ⟨by omega,h5⟩),h4,?_,λy hy=>⟨(hc y hy).1,An (hc y hy).2 h3⟩⟩
  rw[AL]
  have:=hL.len;omega
 have hd':d=0\/d=1\/d=2\/d=3:=by omega
 rcases hd' with rfl|rfl|rfl|rfl
 ·exact⟨[],0,aVa c _ (by decide),.inl rfl,by decide,by simp,λy hy=>by cases hy⟩
 ·have h0':(cB c (0-1)).length=0:=by
   rw[List.length_eq_zero_iff];refine List.eq_nil_iff_forall_not_mem.2 λn hn=>?_
   obtain⟨x,hx,hdx,_⟩:=rK.1 hn;have:=(hv.dim x hx).1;omega
  have hs:=aDi c 0
  rw[h0']at hs
  have hl:=left_id hs (by omega)
  exact fin 0 0 _ (by decide) (by decide) (by omega) (by decide) (Al _) (by rw[h0'];exact hl)
 ·have hb:Be b1 (tK c 1):=aZc hv.inc λx hx hdx=>by have:=eb x hx;rw[hdx]at this;exact this
  obtain⟨L,hL⟩:=aZi (aDi c 1) (by omega) (by have:=nW c (1-1);omega) hb (Cu (bKf h1) k1)
  have h3:=bLk (b:=b1) h1
  exact fin 1 _ L (by decide) (by decide) (by omega) (by omega) (by show _<=2*gG M b1+4;omega) hL
 ·have hb:Be b2 (tK c 2):=aZc hv.inc λx hx hdx=>by have:=eb x hx;rw[hdx]at this;exact this
  obtain⟨L,hL⟩:=aZi (aDi c 2) (by omega) (by have:=nW c (2-1);omega) hb (Cu (bKf h2) k2)
  have h3:=bLk (b:=b2) h2
  exact fin 2 _ L (by decide) (by decide) (by omega) (by omega) (by show _<=2*gG q b2+4;omega) hL
abbrev gH:Int->Nat:=eH 4 80 2097152
def cCf{d:Int}(h1:1<=d)(h3:d<=3):4<=gH d:=by
 have:d=1\/d=2\/d=3:=by omega
 rcases this with rfl|rfl|rfl<;>simp[gH,eH]
structure Bs(c:List Cl):Prop where
 g:Gr gH 1 c
 n12:(cB c 1).length<=3/\(cB c 2).length<=3\/(cB c 1).length<=4/\(cB c 2).length<=2
def Gr.up{e:Int->Nat}{c:List Cl}(g:Gr e 0 c):Gr e 1 c :=
 ⟨g.v,by have:=g.len;omega,by have:=g.n0;omega,by have:=g.n1;omega,by have:=g.n2;omega,by have:=g.n3;omega,λx hx=>by have:=g.ids x hx;omega,g.bl,g.eb⟩
def bLg{c:List Cl}(g:Gr gH 0 c)(q:Q4)(hq:q.ok):∃c',Spec Aa 29 [aE c,.ag (qW q)] (aE c')/\Bs c':=by
 obtain⟨x0,x1,x2,x3⟩:=q;have hlen:=g.len;have hn0:=g.n0;obtain⟨k1,k2,k3,_⟩:=aFf (M:=3) (d:=0) (q:=2) (by decide) (by decide) (by decide);have e2:b2F 3 0=80:=by decide
 rw[e2]at k2 k3;obtain⟨cyc,E,h1,h2,h3,h4,h5⟩:=bAa (M:=3) (q:=2) (b1:=4) (b2:=80) (b3:=2097152) g.v (by omega) g.bl (by omega) g.n1 (by decide) g.n2 (by decide) g.eb k1 k2 (by decide) (by omega) (jP x0) (by unfold jP;omega);have hE:cyc=[]\/E+4<=gH (jP x0):=by
  refine h2.imp id λh=>?_
  obtain⟨h0,h⟩:=h;have hd:jP x0=1\/jP x0=2\/jP x0=3:=by unfold jP at h0 ⊢;omega
  have g1:cyE 3 2 4 80 2=74:=by decide
  have g2:cyE 3 2 4 80 3=488:=by decide
  have g3:cyE 3 2 4 80 1=0:=by decide
  have g4:gH 1=4:=by decide
  have g5:gH 2=80:=by decide
  have g6:gH 3=2097152:=by decide
  rcases hd with hd|hd|hd<;>rw[hd]at h ⊢<;>omega
 have hG:=grow (x1:=x1) (x2:=x2) (x3:=x3) g (λy hy=>(h5 y hy).1) (λy hy=>(h5 y hy).2) hE;refine⟨_,aPz (e:=E) c x0 x1 x2 x3 cyc hq.1 hq.2.1 hq.2.2.1 hq.2.2.2 (by omega) (λy hy=>by have:=g.ids y hy;omega) h1 h4 (λy hy=>(h5 y hy).1.2.1) (λy hy=>(h5 y hy).2) h3,hG,?_⟩;have n1:=g.n1;have n2:=g.n2;unfold grown;simp only[aSa,Ak];by_cases d1:jP x0=1
 ·have d2:¬jP x0=2:=by omega
  simp[d1];omega
 ·simp[d1];left;split<;>simp<;>omega
def cCy(s:Int)(l:List Q4)(hs:0<=s/\s<=255)(hq:∀q∈l,q.ok)(hl:l.length<=1):∃c,Spec Aa 27 [aNa s l] (aE c)/\Bs c:=by
 obtain⟨j,hj,h1⟩:=bGe s hs;have g:=bXc (e:=gH) (λd h1 h2=>cCf h1 h2) j hj;match l,hl,hq with
 |[],_,_=>exact⟨_,aPy s [] _ _ (by simp) h1 (.nil _),g.up,.inl ⟨g.n1,by have:=g.n2;omega⟩⟩
 |[q],_,hq =>
  obtain⟨c,h2,h3⟩:=bLg g q (hq q (Fe _))
  exact⟨c,aPy s [q] _ _ (by simp) h1 (.cons q [] _ c c h2 (.nil c)),h3⟩
 |_::_::_,hl,_=>simp at hl
structure Hs(i M d:Nat)(c:List Cl):Prop where
 v:CxV c
 len:c.length<=8+2*i
 n0:(cB c 0).length<=4+i
 n1:(cB c 1).length<=M
 M3:3<=M
 Md:M+d<=4+i
 n2:M+(cB c 2).length+d<=6+i
 ids:∀x∈c,0<=x.id/\x.id<=300+2*(i:Int)
 bl:∀x∈c,x.b.length<=48
 eb:∀x∈c,Bnd (2^eH (4+d) (b2F M d) (2097152+d) x.dim) x.b
def Bs.hs{c:List Cl}(h:Bs c):∃M,Hs 0 M 0 c:=by
 have g:=h.g;have up:∀M,80<=b2F M 0->∀x∈c,Bnd (2^eH (4+0) (b2F M 0) (2097152+0) x.dim) x.b:=λM hM x hx=>by
  refine(g.eb x hx).pw ?_;unfold gH eH;split
  ·exact Ap _
  ·split
   ·exact hM
   ·split<;>exact Ap _
 have e3:80<=b2F 3 0:=by decide
 have e4:80<=b2F 4 0:=by decide
 have hl:=g.len;have h0:=g.n0;rcases h.n12 with ⟨h1,h2⟩|⟨h1,h2⟩
 ·exact⟨3,g.v,by omega,by omega,h1,by decide,by decide,by omega,λx hx=>by have:=g.ids x hx;omega,g.bl,up 3 e3⟩
 ·exact⟨4,g.v,by omega,by omega,h1,by decide,by decide,by omega,λx hx=>by have:=g.ids x hx;omega,g.bl,up 4 e4⟩
structure Nw(M q d:Nat)(c:List Cl)(x:Cl):Prop where
 dim:0<=x.dim/\x.dim<=3
 val:Val x.b
 bnd:x.b=[]\/1<=x.dim/\Bnd (2^(cyE M q (4+d) (b2F M d) x.dim+4)-1) x.b
 bl:x.b.length<=48
 face:∀f∈x.b,f.1∈cB c (x.dim-1)
 cyc:∀n,bO (λm=>cf n (bOf c m)) x.b=0
def bLh{i M d:Nat}{c:List Cl}(h:Hs i M d c)(hi:i<=10)(x0 x1 x2 x3:Int)(hq:Q4.ok (x0,x1,x2,x3)):∃x:Cl,Spec Aa 29 [aE c,.ag (qW (x0,x1,x2,x3))] (aE (c++[x]))/\x.id=gId c x0/\Nw M (cB c 2).length d c x:=by
 have hlen:=h.len;have h0:=h.n0;have hM:=h.Md;have h2:=h.n2;obtain⟨k1,k2,k3,kb⟩:=aFf (M:=M) (d:=d) (q:=(cB c 2).length) h.M3 (by omega) (by omega);have kM:2*gG M (4+d)+10+d<=b2F M d:=Ap _;obtain⟨cyc,E,e1,e2,e3,e4,e5⟩:=bAa (M:=M) (q:=(cB c 2).length) h.v (by omega) h.bl (by omega) h.n1 (by omega) (Ap _) (by have:=h.M3;omega) h.eb k1 k2 (by omega) (by omega) (jP x0) (by unfold jP;omega);refine⟨⟨gId c x0,jP x0,gB cyc [x0,x1,x2,x3] (min 3 cyc.length)⟩,aPz (e:=E) c x0 x1 x2 x3 cyc hq.1 hq.2.1 hq.2.2.1 hq.2.2.2 (by omega) (λy hy=>by have:=h.ids y hy;omega) e1 e4 (λy hy=>(e5 y hy).1.2.1) (λy hy=>(e5 y hy).2) e3,rfl,?_⟩;obtain⟨b1,b2,b3,b4⟩:=aFy (c:=c) (xs:=[x0,x1,x2,x3]) (λy hy=>(e5 y hy).1) (min 3 cyc.length) (by omega);refine⟨by unfold jP;simp only;omega,b1,?_,?_,b3,b4⟩
 ·refine e2.imp (λe=>by subst e;rfl) λe=>⟨e.1,b2.mono ?_⟩
  have h1:2^E<=2^cyE M (cB c 2).length (4+d) (b2F M d) (jP x0):=yL e.2;have h2:1<=2^E:=Cd;have h3:=A8 (2^2*2^E) (show min 3 cyc.length<=3 by omega);show _<=2^(cyE M (cB c 2).length (4+d) (b2F M d) (jP x0)+4)-1;rw[CA];omega
 ·have:=(aZq (e:=E) (xs:=[x0,x1,x2,x3]) (λy hy=>(e5 y hy).1.2.1) (λy hy=>(e5 y hy).2) (min 3 cyc.length) (by omega) (by omega)).2;show(gB cyc [x0,x1,x2,x3] (min 3 cyc.length)).length<=48;omega
def aMd(a b:List (Int×Int))(ha:∀x∈a,Sz x.2)(hb:∀x∈b,Sz x.2)(hl:a.length<=1073741824)(hl2:b.length<=1073741824):Spec Aa 81 [aK a,aK b] (.b (decide (a=b))):=by
 refine bF (N:=42) Tryz.func81 ?_;by_cases hn:a.length=b.length
 rotate_left
 ·have h1:((a.length:Int) != b.length)=true:=by simp;omega
  have h2:¬a=b:=λe=>hn (by rw[e])
  simp[-O,-X,↓KW,aK,h1,h2]
 ·have h1:((a.length:Int) != b.length)=false:=by simp;omega
  simp[-O,-X,↓KW,aK,h1];refine aP (λi:Nat=>i<=a.length/\a.take i=b.take i) (λi=>StL [(0,.d (aK a)),(1,.d (aK b)),(5,.d (.i .i64 i))] none []) (λi=>a.length-i) 0 ⟨Al _,by simp⟩ ?_ ?_
  ·refine wkQ [] ?_ ?_<;>simp[-O,upd,aO,Γ0,aK]
  ·rintro i ⟨hi,ht⟩;by_cases hgo:i<a.length
   ·have hgb:i<b.length:=by omega
    have q1:(i:Int)<a.length:=by omega
    have hw7:Ag.wrap ((i:Int)+1)=(i:Int)+1:=aV;have g1:a[i]? = some a[i]:=Ab hgo;have g2:b[i]? = some b[i]:=Ab hgb;have hsx:=ha _ (Ar hgo);have hsy:=hb _ (Ar hgb);have hne:a[i]≠b[i]->¬a=b:=λh e=>h (by subst e;rfl)
    have hta:a[i]=b[i]->a.take (i+1)=b.take (i+1):=λe=>by rw[AM,AM,ht,g1,g2,e]
    generalize a[i]=x at *;generalize b[i]=y at *;obtain⟨xi,xc⟩:=x;obtain⟨yi,yc⟩:=y;simp only at hsx hsy;by_cases h2:xi=yi
    ·have h3:(xi != yi)=false:=by simpa using h2
     simp[-O,-X,↓KW,aK,q1,g1,g2,h3,bE,aF,aD];refine aJ (aEx xc yc (An hsx (by decide)) (An hsy (by decide))) ?_;by_cases h4:xc=yc
     ·have h5:=hta (by rw[h2,h4]);simp[-O,-X,↓KW,h4,hw7];refine aI (i+1) ⟨hgo,h5⟩ (AF hgo (AK i)) (wkQ [] ?_ ?_)<;>simp[-O,upd,aO,Γ0,aK]
     ·have h5:=hne (λe=>h4 (by injection e));simp[-O,-X,↓KW,h4,h5]
    ·have h3:(xi != yi)=true:=by simpa using h2
     have h5:=hne (λe=>h2 (by injection e));simp[-O,-X,↓KW,aK,q1,g1,g2,h3,h5,bE,aF,aD]
   ·have q1:¬(i:Int)<a.length:=by omega
    have e:a=b:=by rwa [Ai (by omega),Ai (by omega)]at ht
    subst e;simp[-O,-X,↓KW,aK,q1]
def qS(l:List (Int×Int))(hs:∀x∈l,Sz x.2)(hl:l.length<=1073741824):Spec Aa 44 [aK l] (.b (xD l)):=by
 refine bF (N:=44) Tryz.func44 ?_;simp[-O,-X,↓KW,aK];refine aP (λi:Nat=>i<=l.length/\∀j,j<i->aQu l j=true) (λi=>StL [(0,.d (aK l)),(3,.d (.i .i64 i))] none []) (λi=>l.length-i) 0 ⟨Al _,λj h=>by omega⟩ ?_ ?_
 ·refine wkQ [] ?_ ?_<;>simp[-O,upd,aO,Γ0,aK]
 ·rintro i ⟨hi,hok⟩;by_cases hgo:i<l.length
  ·have q1:(i:Int)<l.length:=by omega
   have hw7:Ag.wrap ((i:Int)+1)=(i:Int)+1:=aV;have g1:=bLi hgo;have hsx:Sz (l.getD i (0,0)).2:=hs _ (Aq g1);have hoka:aQu l i=(decide ((l.getD i (0,0)).2≠0)&&(decide (i=0)||decide ((l.getD (i-1) (0,0)).1<(l.getD i (0,0)).1))):=rfl;have hfalse:=aLk hgo;have hnext:aQu l i=true->∀j,j<i+1->aQu l j=true:=λh j hj=>by
    rcases Bf j i with h2|h2
    ·exact hok j h2
    ·have:j=i:=by omega
     subst this;exact h
   rcases i with _|k
   ·cases l with
    |nil=>simp at hgo
    |cons x rest =>
     obtain⟨xi,xc⟩:=x;have hd:(((xi,xc)::rest).getD 0 (0,0))=(xi,xc):=rfl;rw[hd]at hsx hoka;simp only at hsx hoka;have q1':(0:Int)<(rest.length:Int)+1:=by omega
     have hw8:Ag.wrap 1=1:=by decide
     simp[-O,-X,↓KW,aK,q1',bE,aF,aD];refine aJ (aIz xc (An hsx (by decide))) ?_;simp[-O,-X,↓KW,aK,bE,aF,aD];refine aJ (fH xc) ?_;by_cases h0:xc=0
     ·have e0:(xc.sign==0)=true:=by simp[h0]
      have e1:=hfalse (by rw[hoka];simp[h0]);simp[-O,-X,↓KW,e0,e1]
     ·have e0:(xc.sign==0)=false:=by simp[h0]
      have e1:=hnext (by rw[hoka];simp[h0]);simp[-O,-X,↓KW,e0,hw8];refine aI 1 ⟨hgo,e1⟩ (slQ hgo) (wkQ [] ?_ ?_)<;>simp[-O,upd,aO,Γ0,aK,bE]
   ·have g2:=bLi (l:=l) (i:=k) (by omega);have q3:(0:Int)<(k:Int)+1:=by omega
    have q5:(0:Int)<=(k:Int)+1:=by omega
    have q4:Ag.wrap (k:Int)=k:=aOc (by omega);simp only[Ba]at hoka;generalize l.getD (k+1) (0,0)=x at *;generalize l.getD k (0,0)=y at *;obtain⟨xi,xc⟩:=x;obtain⟨yi,yc⟩:=y;simp only at hsx hoka;have hw8:Ag.wrap ((k:Int)+1+1)=(k:Int)+1+1:=by simpa using hw7
    have q1':(k:Int)+1<l.length:=by simpa using q1
    simp[-O,-X,↓KW,aK,q1',q5,g1,bE,aF,aD];refine aJ (aIz xc (An hsx (by decide))) ?_;simp[-O,-X,↓KW,aK,q1',q5,g1,bE,aF,aD];refine aJ (fH xc) ?_;by_cases h0:xc=0
    ·have e0:(xc.sign==0)=true:=by simp[h0]
     have e1:=hfalse (by rw[hoka];simp[h0]);simp[-O,-X,↓KW,e0,e1]
    ·have e0:(xc.sign==0)=false:=by simp[h0]
     by_cases h2:xi<=yi
     ·have e1:=hfalse (by rw[hoka];simp[h0];omega);simp[-O,-X,↓KW,aK,e0,e1,g1,g2,q3,q4,q5,h2,bE,aF,aD]
     ·have e1:=hnext (by rw[hoka];simp[h0];omega);simp[-O,-X,↓KW,aK,e0,g1,g2,q3,q4,q5,h2,hw8,bE,aF,aD];refine aI (k+1+1) ⟨hgo,e1⟩ (slQ hgo) (wkQ [] ?_ ?_)<;>simp[-O,upd,aO,Γ0,aK]
  ·have q1:¬(i:Int)<l.length:=by omega
   have e:xD l=true:=aBw (λj hj=>hok j (by omega));simp[-O,-X,↓KW,aK,q1,e]
end Go.Am
end
section
open List renaming map_map->O,mapM_map->X
namespace Go.Am
variable {P:Program}
def aRg(f:FuncId)(cs:List Operand)(J:Nat->AV)(n:Nat):nev P (.makeFunc (.func f) #[] cs.toArray) J n=some (.fn f (cs.map (oev J)),none):=by simp[nev,eO]
def bIu(t : TypeId)(x i : Operand)(J : Nat -> AV)(n : Nat) : nev P (.index t x i) J n = eO ((aAj P t).bind λp => (tsz P p.2).bind λsz => (dA P p.2).bind λag => (iZ (oev J i)).bind λk => (aIh (oev J x)).bind λcs =>
      if 0<=k/\k<p.1 then(if ag then(if k.toNat*sz+sz<=cs.length then some (.ag ((cs.drop (k.toNat*sz)).take sz))else none)else cs[k.toNat*sz]?)else none):=rfl
def bYq(f:FuncId)(cs:List D):inj (.fn f cs)=.d (.fn f cs):=rfl
def bTc(f:FuncId)(cs:List D):aO (.fn f cs)=.d (.fn f cs):=rfl
def bTb(cs:List D):aO (.pt cs)=.fp cs:=rfl
def bKw(v:Value):aO (.lit v)=.d (.lit v):=rfl
def bJz(H:Hp)(avs:List AV)(f:FuncId)(cs:List D):bS H avs (.fn f cs)=fK H avs:=rfl
def bJy(H:Hp)(avs:List AV)(cs:List D):bS H avs (.pt cs)=fK H avs:=rfl
def aWy(f:FuncId)(cs:List AV):kY (.fn f cs)=some (f,cs):=rfl
def aTf(f:FuncId)(cs:List D):kY (.d (.fn f cs))=some (f,cs.map aO):=rfl
def aTe(f:FuncId):kY (.d (.lit (.func (.func f) #[] #[])))=some (f,[]):=rfl
def bTl(H:Hp)(n:Nat)(f:FuncId)(cs:List AV):frz H (n+1) (.fn f cs)=(cs.mapM (frz H n)).map (.fn f):=rfl
def bTk(H:Hp)(n:Nat)(cs:List D):frz H (n+1) (.fp cs)=some (.pt cs):=rfl
def aSo(H : Hp)(n : Nat)(id off : Nat) : frz H (n + 1) (.ptr id off) = match H id with
      |some (.cells _ cs)=>if off<=cs.length then((cs.drop off).mapM (frz H n)).map .pt else none
      |_=>none:=rfl
def bPf(H:Hp)(n:Nat)(f:FuncId)(cs:List AV):vis H (n+1) (.fn f cs)=cs.flatMap (vis H n):=rfl
def bPe(H:Hp)(n:Nat)(cs:List D):vis H (n+1) (.fp cs)=[]:=rfl
def aOk(H : Hp)(n : Nat)(id off : Nat) : vis H (n + 1) (.ptr id off) = match H id with
      |some (.cells _ cs)=>id::(cs.drop off).flatMap (vis H n)
      |_=>[]:=rfl
def bEj(f:FuncId)(cs:List AV):fN (.fn f cs)=some [.fn f cs]:=rfl
def aWw(f:FuncId)(cs:List D):fN (.d (.fn f cs))=some [.d (.fn f cs)]:=rfl
def bGs(l:List Nat)(f:FuncId)(cs:List AV):lJ l (.fn f cs)=.fn f (cs.map (aLx l)):=rfl
section
variable (dst:Option Tmp) (ty:TypeId) (pos:String) (after:Array Edge) (guard:Option (Nat×Bool)) (σ:St) (con:List Nat) (k:St->List Nat->Prop)
def bR(f:Fn)(x y:Array Operand)(d:Dm ((⟨dst,.makeFunc f x y,ty,pos,after,guard⟩:Oper),k)):O1d P ⟨dst,.makeFunc f x y,ty,pos,after,guard⟩ σ con k d=eG (nev P (.makeFunc f x y) σ.J σ.n) (λp=>k ⟨bT σ.J dst p.1,jE σ.H σ.n p.2,cnt p.2 σ.n⟩ con) .mk:=dG rfl rfl
def cM(t:TypeId)(x y:Operand)(d:Dm ((⟨dst,.index t x y,ty,pos,after,guard⟩:Oper),k)):O1d P ⟨dst,.index t x y,ty,pos,after,guard⟩ σ con k d=eG (nev P (.index t x y) σ.J σ.n) (λp=>k ⟨bT σ.J dst p.1,jE σ.H σ.n p.2,cnt p.2 σ.n⟩ con) .mk:=dG rfl rfl
def bOr(P:Program)(c:Option (FuncId×List AV))(avs:List AV)(H:Hp)(k:List AV->D->Prop)(_:Dm k):Prop:=match c with
 |some (f,cs)=>∃ds r,fW H (avs++cs)=some ds/\Spec P f ds r/\k (avs++cs) r
 |none=>False
def oA{f:FuncId}{cs avs:List AV}{H:Hp}{k:List AV->D->Prop}{d:Dm k}{ds:List D}{r:D}(h1:fW H (avs++cs)=some ds)(h2:Spec P f ds r)(h3:k (avs++cs) r):bOr P (some (f,cs)) avs H k d:=⟨ds,r,h1,h2,h3⟩
def cN(t:Tmp)(args:List Operand)(ts:Array TypeId)(d:Dm ((⟨dst,.call ⟨.value (.tmp t),args.toArray,ts⟩,ty,pos,after,guard⟩:Oper),k)):O1d P ⟨dst,.call ⟨.value (.tmp t),args.toArray,ts⟩,ty,pos,after,guard⟩ σ con k d =
  bOr P (kY (σ.J t)) (args.map (oev σ.J)) σ.H (λavs r=>k ⟨bT σ.J dst (inj r),kill (bS σ.H avs r) σ.H,σ.n⟩ (bS σ.H avs r++con)) .mk:=by
 unfold O1d;simp only[O1,bOr]
 cases kY (σ.J t)with
 |none=>rfl
 |some p=>obtain⟨f,cs⟩:=p;rfl
end
attribute [simp] aRg bIu bYq bTc bTb bKw aWy aTf aTe bTl bTk aSo bPf bPe aOk bEj aWw bGs bJz bJy
end Go.Am
end
section
open List renaming map_map->O,mapM_map->X
open Go Go.Am Go.Proofs
namespace Go.Am
@[simp]def cDo(k:IntKind)(n:Int):oK (.i k n)=true:=rfl
@[simp]def cDp(x:Bool):oK (.b x)=true:=rfl
def cEb{t:Nat}:kZ .shr .u64 (t:Int) 1=some (.i .u64 ((t/2:Nat):Int)):=by have:min 1 A1.bits=1:=rfl;simp only[kZ];rw[Ac (by decide),show(1:Int).toNat=1 from rfl,this,Int.fdiv_eq_ediv_of_nonneg _ (by decide)];congr 2
def jY(f:FuncId):fN (.d (.lit (.func (.func f) #[] #[])))=some [.d (.lit (.func (.func f) #[] #[]))]:=rfl
def nJ(J:Nat->AV)(f:FuncId):oev J (.func f)=.d (.lit (.func (.func f) #[] #[])):=rfl
def aYn(x:Cl)(n:Int):Spec Aa 141 [.ag (aN x),.i .i64 n] (.i .i64 (mL x.id n)):=by refine bF (N:=9) Tryz.func141 ?_;have hS:=aWm x.id n;simp[-O,-X,↓KW,aN,aC,aA,aB];refine aJ hS ?_;simp[-O,-X,↓KW]
def oF(c:List Cl)(n:Int):Nat:=c.countP λx=>decide (x.id<n)
def aMi{c:List Cl}{n:Int}{i:Nat}(hi:i<=c.length)(h1:∀k x,k<i->c[k]? = some x->x.id<n)(h2:∀k x,i<=k->c[k]? = some x->n<=x.id):oF c n=i:=by
 unfold oF;conv=>lhs;rw[<-List.take_append_drop i c]
 rw[List.countP_append];have e1:(c.take i).countP (λx=>decide (x.id<n))=(c.take i).length:=by rw[List.countP_eq_length];intro x hx;obtain⟨k,hk,rfl⟩:=Bw hx;rw[Ax]at hk;exact Bx (h1 k _ (by omega) (by rw[Eb,Ab]))
 have e2:(c.drop i).countP (λx=>decide (x.id<n))=0:=by rw[List.countP_eq_zero];intro x hx;obtain⟨k,hk,rfl⟩:=Bw hx;rw[Bl]at hk;have:=h2 (i+k) (c[i+k]'(by omega)) (by omega) (Ab _);rw[List.getElem_drop];simp;omega
 rw[e1,e2,Ax];omega
def bLr{c:List Cl}{n:Int}{i:Nat}(h1:∀k x,k<i->c[k]? = some x->x.id<n)(h2:∀k x,i<=k->c[k]? = some x->n<=x.id)(hc:Inc c):(∀x,c[i]? = some x->bG c n=if x.id=n then some x else none)/\(c[i]? = none->bG c n=none):=by
 have hn:∀x,c[i]? = some x->x.id≠n->bG c n=none:=λx hx hne=>by
  cases e:bG c n with
  |none=>rfl
  |some y =>
   obtain⟨hy,he⟩:=dF e;obtain⟨k,hk,rfl⟩:=Bw hy;exfalso;rcases Gk k i with h|h|h
   ·have:=h1 k _ h (Ab hk);omega
   ·subst h;rw[Ab hk]at hx;injection hx with hx;subst hx;exact hne he
   ·have hi:i<c.length:=(Ah.1 hx).1;have g1:=h2 i x (Ap _) hx;have g2:=(BC.1 hc) i k hi hk h;rw[Ab hi]at hx;injection hx with hx;subst hx
    omega
 refine⟨λx hx=>?_,λhx=>?_⟩
 ·by_cases he:x.id=n
  ·rw[Ad he,<-he];exact hc.find (Aq hx)
  ·rw[Ac he];exact hn x hx he
 ·cases e:bG c n with
  |none=>rfl
  |some y =>
   obtain⟨hy,he⟩:=dF e;obtain⟨k,hk,rfl⟩:=Bw hy;have:=h1 k _ (by have:=List.getElem?_eq_none_iff.1 hx;omega) (Ab hk);omega
def bUu{c:List Cl}(hc:Inc c)(n:Int)(hl:c.length<=1000000):Spec Aa 140 [aE c,.i .i64 n,.lit (.func (.func 141) #[] #[])] (.tp [.i .i64 (oF c n),.b (bG c n).isSome]):=by
 refine bF (N:=49) Tryz.func140 ?_;simp[-O,-X,↓KW,↓cO,↓bR,↓cM,↓cN,aE];refine aP (λp:Nat×Nat=>p.1<=p.2/\p.2<=c.length/\(∀k x,k<p.1->c[k]? = some x->x.id<n)/\(∀k x,p.2<=k->c[k]? = some x->n<=x.id)) (λp=>StL [(0,.d (aE c)),(1,.d (.i .i64 n)),(2,.d (.lit (.func (.func 141) #[] #[]))),(8,.d (.i .i64 (c.length:Int))),(9,.d (.i .i64 (p.1:Int))),(10,.d (.i .i64 (p.2:Int)))] none []) (λp=>p.2-p.1) (0,c.length) ⟨Al _,Ap _,λk x h=>by omega,λk x h hx=>by have:=(Ah.1 hx).1;omega⟩ ?_ ?_
 ·refine wkQ [] ?_ ?_<;>simp[-O,upd,aO,Γ0,aE]
 ·rintro⟨i,j⟩ ⟨hij,hj,h1,h2⟩;simp only at hij hj h1 h2;by_cases hgo:i<j
  ·have q1:(i:Int)<j:=by omega
   have hw1:Ag.wrap ((i:Int)+j)=((i+j:Nat):Int):=by rw[aV];omega
   have hw2:A1.wrap ((i+j:Nat):Int)=((i+j:Nat):Int):=bU (by omega) (by omega);have hh:(i+j)/2<c.length:=by omega
   have hw3:Ag.wrap (((i+j)/2:Nat):Int)=(((i+j)/2:Nat):Int):=aV;have hw4:Ag.wrap ((((i+j)/2:Nat):Int)+1)=(((i+j)/2+1:Nat):Int):=by rw[aV];omega
   have hm1:i<=(i+j)/2:=by omega
   have hm2:(i+j)/2<j:=by omega
   have hx:c[(i+j)/2]? = some c[(i+j)/2]:=Ab hh;have hsh:=@cEb (i+j);have q0:(0:Int)<=(((i+j)/2:Nat):Int):=by omega
   generalize(i+j)/2=m at *;have hS:=aYn c[m] n;have hlt:∀k x,k<m->c[k]? = some x->x.id<c[m].id:=λk x hk hkx=>by
    have h0:k<c.length:=by omega
    rw[Ab h0]at hkx;injection hkx with hkx;subst hkx
    exact(BC.1 hc) k m h0 hh hk
   have hgt:∀k x,m<k->c[k]? = some x->c[m].id<x.id:=λk x hk hkx=>by
    have h0:k<c.length:=(Ah.1 hkx).1;rw[Ab h0]at hkx;injection hkx with hkx;subst hkx
    exact(BC.1 hc) m k hh h0 hk
   generalize i+j=s at *;generalize hxm:c[m]=x at *;simp[-O,-X,↓KW,↓cO,↓bR,↓cM,↓cN,aE,aN,q1,hw1,hw2,hw3,hsh,hx,q0,aC,aA,aB,jY,nJ];refine oA (ds:=[.ag (aN x),.i .i64 n]) (by rfl) hS ?_;by_cases hlx:x.id<n
   ·have e:mL x.id n=-1:=by unfold mL;rw[Ad hlx]
    rw[e];simp[-O,-X,↓KW,↓cO,↓bR,↓cM,↓cN,hw4];refine aI (m+1,j) ⟨by simp only;omega,hj,λk y hk hky=>?_,h2⟩ (by simp only;omega) (wkQ [] ?_ ?_)
    ·simp only at hk;rcases Bf k m with h|h
     ·have:=hlt k y h hky;omega
     ·rw[show k=m by omega,hx]at hky;injection hky with hky;rw[<-hky];exact hlx
    ·simp[-O,upd,aO,Γ0,aE]
    ·trivial
   ·have e:¬mL x.id n<0:=by unfold mL;rw[Ac hlx];split<;>omega
    generalize mL x.id n=r at *;simp[-O,-X,↓KW,↓cO,↓bR,↓cM,↓cN,e];refine aI (i,m) ⟨by simp only;omega,by simp only;omega,h1,λk y hk hky=>?_⟩ (by simp only;omega) (wkQ [] ?_ ?_)
    ·simp only at hk;rcases Bf m k with h|h
     ·have:=hgt k y h hky;omega
     ·rw[show k=m by omega,hx]at hky;injection hky with hky;rw[<-hky];omega
    ·simp[-O,upd,aO,Γ0,aE]
    ·trivial
  ·have q1:¬(i:Int)<j:=by omega
   have hje:j=i:=by omega
   subst hje;have hp:=aMi hj h1 h2;obtain⟨f1,f2⟩:=bLr h1 h2 hc;rw[hp];by_cases hin:j<c.length
   ·have q2:(j:Int)<c.length:=by omega
    have hx:c[j]? = some c[j]:=Ab hin;have hS:=aYn c[j] n;have f3:=f1 _ hx;have q0:(0:Int)<=(j:Int):=by omega
    generalize c[j]=x at *;simp[-O,-X,↓KW,↓cO,↓bR,↓cM,↓cN,aE,aN,q1,q2,hx,aC,aA,aB,jY,nJ];refine oA (ds:=[.ag (aN x),.i .i64 n]) (by rfl) hS ?_;have e:((mL x.id n==0):Bool)=(bG c n).isSome:=by
     rw[f3];unfold mL;by_cases h:x.id=n
     ·rw[Ad h];simp[h]
     ·rw[Ac h];split
      ·rfl
      ·split
       ·rfl
       ·omega
    rw[<-e];generalize mL x.id n=r at *;simp[-O,-X,↓KW,↓cO,↓bR,↓cM,↓cN,aE,cD]
   ·have q2:¬(j:Int)<c.length:=by omega
    have f3:=f2 (AW (by omega));rw[f3];simp[-O,-X,↓KW,↓cO,↓bR,↓cM,↓cN,aE,aN,q1,q2,aC,aA,aB,jY,nJ,cD]
def aZt{c:List Cl}(hc:Inc c){n:Int}{x:Cl}(h:bG c n=some x):c[oF c n]? = some x:=by
 obtain⟨hx,he⟩:=dF h;obtain⟨k,hk,rfl⟩:=Bw hx;have hp:oF c n=k:=aMi (by omega) (λj y hj hy=>by
   have h0:j<c.length:=(Ah.1 hy).1;rw[Ab h0]at hy;injection hy with hy;subst hy
   have:=(BC.1 hc) j k h0 hk hj;omega) (λj y hj hy=>by
   have h0:j<c.length:=(Ah.1 hy).1;rw[Ab h0]at hy;injection hy with hy;subst hy
   rcases Bf k j with h|h
   ·have:=(BC.1 hc) k j hk h0 h;omega
   ·have:j=k:=by omega
    subst this;omega)
 rw[hp];exact Ab hk
def aNd{c:List Cl}(hc:Inc c)(n:Int)(hl:c.length<=1000000):Spec Aa 134 [aE c,.i .i64 n] (.tp [.i .i64 (oF c n),.b (bG c n).isSome]):=by refine bF (N:=11) Tryz.func134 ?_;have hS:=bUu hc n hl;simp[-O,-X,↓KW,↓cO,↓bR,↓cM,↓cN,aE,nJ];refine aJ hS ?_;simp[-O,-X,↓KW,↓cO,↓bR,↓cM,↓cN,cD]
def sQ{c:List Cl}(hc:Inc c)(n:Int)(hl:c.length<=1000000):Spec Aa 145 [aE c,.i .i64 n] (oT c n):=by
 refine bF (N:=21) Tryz.func145 ?_;have hS:=aNd hc n hl;unfold oT;simp[-O,-X,↓KW,aE];refine aJ hS ?_;cases hf:bG c n with
 |none=>simp[-O,-X,↓KW,aE,aN,lA,aK,cD]
 |some x =>
  have hx:=aZt hc hf;have q0:(0:Int)<=(oF c n:Int):=by omega
  generalize oF c n=p at *;simp[-O,-X,↓KW,aE,aN,hx,q0,aC,aA,aB,cD]
def bEc(m n:Nat):rU (aU m) (aU n)=0↔m=n:=by
 unfold rU;rw[lB,lB];by_cases h1:m<n
 ·simp[h1];omega
 ·by_cases h2:n<m
  ·simp[h1,h2];omega
  ·simp[h1,h2];omega
def bMn(a b:List Nat):-1<=rU a b/\rU a b<=1:=by
 unfold rU;split
 ·exact⟨by decide,by decide⟩
 ·split<;>exact⟨by decide,by decide⟩
def aZk(x y:Int)(hx:Sz x)(hy:Sz y):∃r:Int,Spec Aa 172 [encZ x,encZ y] (.i .i64 r)/\(r=0↔x=y):=by
 have hSx:=uI x hx;have hSy:=uI y hy;have hTx:=qL (aU x.natAbs) (An hx (by decide));have hTy:=qL (aU y.natAbs) (An hy (by decide));rw[qF (lF _)]at hTx hTy;have hC:=aFt (aU x.natAbs) (aU y.natAbs) (cY _) (cY _) (An hx (by decide)) (An hy (by decide));have hc0:=bEc x.natAbs y.natAbs;have hcb:=bMn (aU x.natAbs) (aU y.natAbs);have hI:=aWm x.sign y.sign;by_cases hs:x.sign=y.sign
 ·refine⟨x.sign*rU (aU x.natAbs) (aU y.natAbs),?_,?_⟩
  rotate_left
  ·rw[D8,hc0];constructor
   ·rintro(h|h)
    ·have h1:=Dw.1 h;have h2:=Dw.1 (hs ▸ h);omega
    ·rw[<-Int.sign_mul_natAbs x,<-Int.sign_mul_natAbs y,hs,h]
   ·rintro rfl;exact .inr rfl
  ·refine bF (N:=26) Tryz.func172 ?_;have hne:((x.sign != y.sign):Bool)=false:=by simp[hs]
   have hsb:-1<=x.sign/\x.sign<=1:=by
    rcases Int.lt_trichotomy x 0 with h|h|h
    ·rw[Int.sign_eq_neg_one_of_neg h];decide
    ·subst h;decide
    ·rw[Int.sign_eq_one_of_pos h];decide
   generalize rU (aU x.natAbs) (aU y.natAbs)=r at *;generalize y.sign=sy at *;generalize x.sign=sx at *;have hw:Ag.wrap (sx*r)=sx*r:=by
    have h1:sx=-1\/sx=0\/sx=1:=by omega
    rcases h1 with rfl|rfl|rfl<;>exact aV
   simp[-O,-X,↓KW,aY,aD,aF,aG,aZ,aW];refine aJ hSx ?_;simp[-O,-X,↓KW,aY,aD,aF,aG,aZ,aW];refine aJ hSy ?_;simp[-O,-X,↓KW,hne,aD,aF,aG,aZ,aW];refine aJ hTx ?_;simp[-O,-X,↓KW,aD,aF,aG,aZ,aW];refine aJ hTy ?_;simp[-O,-X,↓KW,aD,aF,aG,aZ,aW];refine aJ hC ?_;simp[-O,-X,↓KW,hw,aD,aF,aG,aZ,aW]
 ·refine⟨mL x.sign y.sign,?_,?_⟩
  rotate_left
  ·unfold mL;constructor
   ·intro h;exfalso;split at h
    ·cases h
    ·split at h
     ·cases h
     ·omega
   ·rintro rfl;exact(hs rfl).elim
  ·refine bF (N:=26) Tryz.func172 ?_;have hne:((x.sign != y.sign):Bool)=true:=by simpa using hs
   generalize y.sign=sy at *;generalize x.sign=sx at *;simp[-O,-X,↓KW,aY,aD,aF,aG,aZ,aW];refine aJ hSx ?_;simp[-O,-X,↓KW,aY,aD,aF,aG,aZ,aW];refine aJ hSy ?_;simp[-O,-X,↓KW,hne,aD,aF,aG,aZ,aW];refine aJ hI ?_;simp[-O,-X,↓KW]
def bSy(x:Int)(hx:Sz x):Spec Aa 212 [encZ x] (encZ x.natAbs):=by have hC:=aWn (aU x.natAbs) (An hx (by decide));have hV:=pB (cY x.natAbs) (An hx (by decide)) false;rw[dS]at hV;refine bF (N:=7) Tryz.func212 ?_;simp[-O,-X,↓KW,aY,aD,aF,aG,aZ,aW];refine aJ hC ?_;simp[-O,-X,↓KW,aY,aD,aF,aG,aZ,aW];refine aJ hV ?_;simp[-O,-X,↓KW,aY,sg,aD,aF,aG,aZ,aW]
def bSx(x:Int)(hx:Sz x):Spec Aa 209 [encZ x] (encZ (-x)):=by
 have hC:=aWn (aU x.natAbs) (An hx (by decide));have hV:=pB (cY x.natAbs) (An hx (by decide)) (!decide (x<0));rw[dS]at hV;have e:sg (!decide (x<0)) x.natAbs=-x:=by
  unfold sg;by_cases h:x<0
  ·simp[h];omega
  ·simp[h];omega
 rw[e]at hV;refine bF (N:=10) Tryz.func209 ?_;simp[-O,-X,↓KW,aY,aD,aF,aG,aZ,aW];refine aJ hC ?_;simp[-O,-X,↓KW,aY,aD,aF,aG,aZ,aW];refine aJ hV ?_;simp[-O,-X,↓KW,aY,aD,aF,aG,aZ,aW]
def bZh:encZ 1=.ag [.b false,.sl [[.i .u32 1]]]:=by
 have h:aU 1=[1]:=by rw[jX (by decide)];simp[dH]
 simp[encZ,encI,aM,h]
def bUa:encZ (-1)=.ag [.b true,.sl [[.i .u32 1]]]:=by
 have h:aU 1=[1]:=by rw[jX (by decide)];simp[dH]
 simp[encZ,encI,aM,h]
def aMq:Spec Aa 176 [.i .i64 1] (encZ 1):=by rw[bZh];exact(aLy (fuel:=100) bN bWl 20).call 176 [.i .i64 1] (.ag [.b false,.sl [[.i .u32 1]]]) (by kernel_rfl)
def bSw:Spec Aa 176 [.i .i64 (-1)] (encZ (-1)):=by rw[bUa];exact(aLy (fuel:=100) bN bWl 20).call 176 [.i .i64 (-1)] (.ag [.b true,.sl [[.i .u32 1]]]) (by kernel_rfl)
abbrev Ch:=List (Int×Int)
def pT(p:Int×Ch):List D:=[.i .i64 p.1,aK p.2]
def dJ(m:List (Int×Ch)):D:=.sl (m.map pT)
def aWh(g:List (Int×Ch)):D:=.mp .i64 (g.map (·.1)) (g.map λp=>aK p.2)
def mH(g:List (Int×Ch))(n:Int):Option Ch:=(g.find? λp=>decide (p.1=n)).map (·.2)
def eF(c:List Cl)(g:List (Int×Ch)):List (Int×Ch):=c.map λx=>(x.id,(mH g x.id).getD [(x.id,1)])
def sz1:Sz 1:=by unfold Sz;rw[show(1:Int).natAbs=1 from rfl,jX (by decide)];simp[dH]
def bLx(n z:Int):aK [(n,z)]=.sl [[.i .i64 n,.b (decide (z<0)),aM (aU z.natAbs)]]:=rfl
def yW(n:Int):Spec Aa 170 [.i .i64 n] (aK [(n,1)]):=by refine bF (N:=7) Tryz.func170 ?_;have hS:=aMq;rw[bLx];simp[-O,-X,↓KW,aK];refine aJ hS ?_;simp[-O,-X,↓KW,aY,aD,aF,aG,aZ,aW]
def bZa(x y:Int×Int)(hx:Sz x.2)(hy:Sz y.2):Spec Aa 171 [.ag (eL x),.ag (eL y)] (.b (decide (x=y))):=by
 refine bF (N:=18) Tryz.func171 ?_;obtain⟨xc,xv⟩:=x;obtain⟨yc,yv⟩:=y;obtain⟨r,hC,hr⟩:=aZk xv yv hx hy;by_cases h1:xc=yc
 ·have h2:((xc==yc):Bool)=true:=by simpa using h1
  have h3:decide (((xc,xv):Int×Int)=(yc,yv))=(r==0):=by rw[DL,AI,CK,hr,ED];simp[h1]
  rw[h3];subst h1;simp[-O,-X,↓KW,bE,h2,aD,aF,aG,aZ,aW];refine aJ hC ?_;simp[-O,-X,↓KW]
 ·have h2:((xc==yc):Bool)=false:=by simpa using h1
  have h3:decide (((xc,xv):Int×Int)=(yc,yv))=false:=by rw[CP,ED];exact λh=>h1 h.1
  rw[h3];simp[-O,-X,↓KW,bE,h2,h1,aD,aF,aG,aZ,aW]
def bUq{a b:Ch}(ha:∀x∈a,Sz x.2)(hb:∀x∈b,Sz x.2)(hla:a.length<=4294967296):Spec Aa 71 [aK a,aK b,.lit (.func (.func 171) #[] #[])] (.b (decide (a=b))):=by
 refine bF (N:=32) Tryz.func71 ?_;by_cases hn:a.length=b.length
 rotate_left
 ·have h1:(((a.length:Int) != b.length):Bool)=true:=by simp;omega
  have h2:decide (a=b)=false:=by simp;intro e;rw[e]at hn;exact hn rfl
  simp[-O,-X,↓KW,↓cO,↓bR,↓cM,↓cN,aK,h1,h2]
 ·have h1:(((a.length:Int) != b.length):Bool)=false:=by simp;omega
  simp[-O,-X,↓KW,↓cO,↓bR,↓cM,↓cN,aK,h1];refine aP (λi:Nat=>i<=a.length/\∀j,j<i->a[j]? = b[j]?) (λi=>StL [(0,.d (aK a)),(1,.d (aK b)),(2,.d (.lit (.func (.func 171) #[] #[]))),(15,.d (aK a)),(16,.d (.i .i64 (a.length:Int))),(17,.d (.i .i64 (i:Int)))] none []) (λi=>a.length-i) 0 ⟨Al _,λj h=>by omega⟩ ?_ ?_
  ·refine wkQ [] ?_ ?_<;>simp[-O,upd,aO,Γ0,aK]
  ·rintro i ⟨hi,hok⟩;by_cases hgo:i<a.length
   ·have q1:(i:Int)<a.length:=by omega
    have hgb:i<b.length:=by omega
    have hx:a[i]? = some a[i]:=Ab hgo;have hy:b[i]? = some b[i]:=Ab hgb;have hxs:=ha _ (Ar hgo);have hys:=hb _ (Ar hgb);have hw:Ag.wrap ((i:Int)+1)=(i:Int)+1:=aV;generalize a[i]=x at *;generalize b[i]=y at *;have hS:=bZa x y hxs hys;have hne:¬(x=y)->decide (a=b)=false:=λh=>by
     simp only[CP];intro e;rw[e,hy]at hx;injection hx with hx
     exact h hx.symm
    simp[-O,-X,↓KW,↓cO,↓bR,↓cM,↓cN,aK,bE,q1,hx,hy,aD,aF,aG];refine oA (ds:=[.ag (eL x),.ag (eL y)]) (by rfl) hS ?_;by_cases hv:x=y
    ·subst hv;rw[Bx rfl];simp[-O,-X,↓KW,↓cO,↓bR,↓cM,↓cN,hw];refine aI (i+1) ⟨hgo,λj hj=>?_⟩ (slQ hgo) (wkQ [] ?_ ?_)
     ·rcases Bf j i with h2|h2
      ·exact hok j h2
      ·rw[show j=i by omega,hx,hy]
     ·simp[-O,upd,aO,Γ0,aK]
     ·trivial
    ·rw[Bo hv];have e2:=hne hv;simp[-O,-X,↓KW,↓cO,↓bR,↓cM,↓cN,e2]
   ·have q1:¬(i:Int)<a.length:=by omega
    have e:decide (a=b)=true:=by
     simp only[AI];apply List.ext_getElem?;intro j;rcases Bf j a.length with h|h
     ·exact hok j (by omega)
     ·rw[AW h,AW (by omega)]
    simp[-O,-X,↓KW,↓cO,↓bR,↓cM,↓cN,aK,q1,e]
def bSb{a b:Ch}(ha:∀x∈a,Sz x.2)(hb:∀x∈b,Sz x.2)(hla:a.length<=4294967296):Spec Aa 167 [aK a,aK b] (.b (decide (a=b))):=by refine bF (N:=8) Tryz.func167 ?_;have hS:=bUq ha hb hla;simp[-O,-X,↓KW,↓cO,↓bR,↓cM,↓cN,aK,nJ];refine aJ hS ?_;simp[-O,-X,↓KW,↓cO,↓bR,↓cM,↓cN]
def bDa(g:List (Int×Ch))(n:Int):rI (aId (g.map (·.1)) (g.map λp=>aK p.2)) n=(mH g n).map λy=>.d (aK y):=by
 unfold mH rI aId;induction g with
 |nil=>rfl
 |cons p g ih =>
  simp only[AZ,Ey,iP,DN];by_cases h:p.1=n
  ·simp[h,aB]
  ·rw[Ac h,Bo h];simp only[Option.bind_map];rw[<-ih];rfl
def grS(t:Nat)(sl:List (Nat×AV))(e:TypeId)(sz:Nat)(n:Nat)(cells:List D):St:=match n with
 |0=>StL ((t,.nil)::sl) none []
 |n+1=>StL ((t,.own 1 0 (n+1) sz)::sl) none [.cells e (cells.map .d)]
def bMo{k:Nat}(hk:0<k)(l:List (List D))(h:∀x∈l,x.length=k):chunk k l.length l.flatten=l:=by
 induction l with
 |nil=>rfl
 |cons a l ih =>
  have ha:=h a (Av ..);have:=ih λx hx=>h x (Au _ hx)
  unfold chunk at this ⊢;rw[AH,List.range_succ_eq_map,AZ,CC,BF];congr 1
  ·simp[<-ha]
  ·conv=>rhs;rw[<-this]
   apply BK;intro i _;simp only[DQ];rw[show Nat.succ i*k=a.length+i*k from by rw[C7,ha,Nat.add_comm],List.drop_append,BA (by omega)];simp
def flt{α:Type}(f:α->List D)(l:List α):List D:=(l.map f).flatten
def wA{α:Type}(f:α->List D):flt f []=[]:=rfl
def cG{α:Type}(f:α->List D)(x:α):flt f [x]=f x:=by simp[flt]
def cX{α:Type}(f:α->List D)(a b:List α):flt f (a++b)=flt f a++flt f b:=by simp[flt]
def bJ{α:Type}{f:α->List D}{k:Nat}(h:∀x,(f x).length=k)(l:List α):(flt f l).length=l.length*k:=by
 unfold flt;induction l with
 |nil=>simp
 |cons x l ih=>rw[AZ,BF,Ak,ih,h,AH,C7];omega
def dB{α:Type}{f:α->List D}(h:∀x,((f x).map AV.d).all one=true)(l:List α):((flt f l).map AV.d).all one=true:=by
 unfold flt;induction l with
 |nil=>rfl
 |cons x l ih=>rw[AZ,BF,Bu,List.all_append,h,ih];rfl
def cW{α:Type}{f:α->List D}{k:Nat}(hk:0<k)(h:∀x,(f x).length=k){l:List α}{n:Nat}(hn:l.length=n):chunk k n (flt f l)=l.map f:=by
 have:=bMo hk (l.map f) λx hx=>by obtain⟨y,_,rfl⟩:=AA.1 hx;exact h y
 rwa [AL,hn]at this
def dI{α:Type}{f:α->List D}{k:Nat}(h:∀x,(f x).length=k){l:List α}{n:Nat}(hn:l.length=n):((flt f l).map AV.d).take (n*k)=(flt f l).map AV.d:=Ai (by rw[AL,bJ h,hn];exact Ap _)
def aR(x:Cl):aN x=[.i .i64 x.id,.i .i64 x.dim,aK x.b]:=rfl
def fO(x:Int×Ch):(pT x).length=2:=rfl
def aBm(x:Int×Ch):((pT x).map AV.d).all one=true:=rfl
def uN(x:Int×Ch):pT x=[.i .i64 x.1,aK x.2]:=rfl
def lkV:Option Ch->AV
 |some y=>.tp [.d (aK y),.d (.b true)]
 |none=>.tp [.nil,.d (.b false)]
def aJx(g:List (Int×Ch))(H:Hp)(n:Int):pK Aa H 223 (.d (aWh g)) (.d (.i .i64 n)) true=some (lkV (mH g n)):=by
 have h1:tmp Aa 223=some (3,38):=by kernel_rfl
 have h2:jJ Aa 3=some .i64:=by kernel_rfl
 have h3:tz Aa 38=some (.slice none 0 0):=by kernel_rfl
 show aCe Aa 223 .i64 (aId (g.map (·.1)) (g.map λp=>aK p.2)) (.d (.i .i64 n)) true=_;simp only[aCe,bDa];cases mH g n<;>simp[h1,h2,h3,lkV,cv,cv1]
def aJu{c:List Cl}{i:Nat}(h:i<c.length)(g:List (Int×Ch)):eF (c.take (i+1)) g=eF (c.take i) g++[(c[i].id,(mH g c[i].id).getD [(c[i].id,1)])]:=by unfold eF;rw[AM,Ab h,Bu];rfl
def pA(c:List Cl)(g:List (Int×Ch))(G:D)(hG:aO G=.d G)(hlk:∀H n,pK Aa H 223 (.d G) (.d (.i .i64 n)) true=some (lkV (mH g n)))(hl:c.length<=1000000):Spec Aa 169 [aE c,G] (dJ (eF c g)):=by
 refine bF (N:=37) Tryz.func169 ?_;simp[-O,-X,↓KW,aE,hG];refine aP (λy:Nat×List (Int×Ch)=>y.1<=c.length/\y.2.length=y.1/\eF (c.take y.1) g=y.2) (λy=>grS 5 [(0,.d (aE c)),(1,.d G),(10,.d (aE c)),(11,.d (.i .i64 c.length)),(12,.d (.i .i64 (y.1:Int)))] 164 2 y.2.length (flt pT y.2)) (λy=>c.length-y.1) (0,[]) ⟨Al _,rfl,rfl⟩ ?_ ?_
 ·simp only[Bq,grS];refine wkQ [] ?_ ?_<;>simp[-O,upd,Γ0,aE,dY,hG]
 ·rintro⟨i,out⟩ ⟨hi,hoi,ho⟩;simp only at hi ho hoi ⊢;by_cases hgo:i<c.length
  ·have q1:(i:Int)<c.length:=by omega
   have hx:c[i]? = some c[i]:=Ab hgo;have hw:Ag.wrap ((i:Int)+1)=(i:Int)+1:=aV;have htk:=aJu hgo g;rw[ho]at htk;refine exE c[i] λx hxe=>?_
   rw[hxe]at hx htk;have hyc:aN x=[D.i .i64 x.id,.i .i64 x.dim,aK x.b]:=rfl;have hS:=yW x.id;have hlk':=λH=>hlk H x.id
   have hm1:(1:Nat)<=maxLen:=aS (by decide);refine exE ((mH g x.id).getD [(x.id,1)]) λy hy=>?_
   rw[hy]at htk;rcases hn:out with _|⟨o1,o2⟩
   ·rw[hn]at htk hoi;simp only[Bq,grS];rcases hgv:mH g x.id with _|v
    ·rw[hgv]at hlk' hy;simp only[lkV]at hlk';simp[-O,-X,↓KW,aE,q1,hx,hyc,hw,hm1,hlk',aC,aA,aB];refine aJ hS ?_;simp[-O,-X,↓KW,aE,q1,hx,hyc,hw,hm1,hlk',aC,aA,aB,aQ,aT];refine aI (i+1,[(x.id,y)]) ⟨hgo,by simp only[As];simp at hoi;omega,htk⟩ (slQ hgo) ?_;simp only[As,grS,cG,uN,<-hy];refine wkQ [3] ?_ ?_<;>simp[-O,upd,aO,Γ0,aE]
    ·rw[hgv]at hlk' hy;simp only[lkV]at hlk';have hy':v=y:=hy;simp[-O,-X,↓KW,aE,q1,hx,hyc,hw,hm1,hlk',aC,aA,aB];refine aI (i+1,[(x.id,y)]) ⟨hgo,by simp only[As];simp at hoi;omega,htk⟩ (slQ hgo) ?_;simp only[As,grS,cG,uN,<-hy'];refine wkQ [3] ?_ ?_<;>simp[-O,upd,aO,Γ0,aE]
   ·rw[<-hn];refine(show ∃m,out.length=m+1 from⟨o2.length,by rw[hn];rfl⟩).elim λm hm=>?_
    have hbb:=cH (n:=m+1) (by omega);have hb8:(m+1+1)*32<=140737488355328:=by omega
    have hcl:=bJ fO out;rw[hm]at hcl;have hal:=dB aBm out;have hfa:flt pT (out++[(x.id,y)])=flt pT out++[.i .i64 x.id,aK y]:=by rw[cX,cG];rfl
    simp only[hm,grS];rcases hgv:mH g x.id with _|v
    ·rw[hgv]at hlk' hy;simp only[lkV]at hlk';simp[-O,-X,↓KW,aE,q1,hx,hyc,hw,hm,hlk',hbb,hb8,hcl,hal,aS,aC,aA,aB];refine aJ hS ?_;simp[-O,-X,↓KW,aE,q1,hx,hyc,hw,hm,hlk',hbb,hb8,hcl,hal,aS,aC,aA,aB,aQ,aT];refine aI (i+1,out++[(x.id,y)]) ⟨hgo,by simp only[Ak,As];omega,htk⟩ (slQ hgo) ?_;simp only[Ak,hm,As,grS,hfa,<-hy];refine wkQ [4] ?_ ?_<;>simp[-O,upd,aO,Γ0,aE,cX,cG,uN]
    ·rw[hgv]at hlk' hy;simp only[lkV]at hlk';have hy':v=y:=hy;simp[-O,-X,↓KW,aE,q1,hx,hyc,hw,hm,hlk',hbb,hb8,hcl,hal,aS,aC,aA,aB];refine aI (i+1,out++[(x.id,y)]) ⟨hgo,by simp only[Ak,As];omega,htk⟩ (slQ hgo) ?_;simp only[Ak,hm,As,grS,hfa,<-hy'];refine wkQ [4] ?_ ?_<;>simp[-O,upd,aO,Γ0,aE,cX,cG,uN]
  ·have q1:¬(i:Int)<c.length:=by omega
   rw[Ai (by omega)]at ho;rw[ho];rcases hn:out.length with _|m
   ·have e0:out=[]:=AE hn;simp only[grS];simp[-O,-X,↓KW,aE,dJ,q1,e0]
   ·have e1:=dI fO hn;have e2:=cW (by decide) fO hn;have e3:=bJ fO out;rw[hn]at e3;simp only[grS];simp[-O,-X,↓KW,aE,dJ,q1,e1,e2,e3,hn]
def nzF(f:Int×Int):Ch:=if f.2=0 then[]else[f]
def plM(k:Int):Ch->Ch->Ch
 |[],[]=>[]
 |x::a,[]=>nzF x++plM k a []
 |[],y::b=>nzF (y.1,k*y.2)++plM k [] b
 |x::a,y::b=>if x.1<y.1 then nzF x++plM k a (y::b)else if y.1<x.1 then nzF (y.1,k*y.2)++plM k (x::a) b else nzF (x.1,x.2+k*y.2)++plM k a b
termination_by a b=>a.length+b.length
def aGy(n:Int)(f:Int×Int)(l:Ch):cf n (nzF f++l)=cf n (f::l):=by
 unfold nzF;by_cases h:f.2=0
 ·rw[Ad h,BN];simp[cf,h]
 ·rw[Ac h];rfl
def uS(k n:Int):∀a b:Ch,cf n (plM k a b)=cf n a+k*cf n b
 |[],[]=>by simp[plM,cf]
 |x::a,[]=>by have ih:=uS k n a [];rw[plM,aGy];simp only[cf]at ih ⊢;rw[ih];simp only[DP,Int.add_zero]
 |[],y::b=>by have ih:=uS k n [] b;rw[plM,aGy];simp only[cf]at ih ⊢;rw[ih,De];split<;>simp
 |x::a,y::b=>by
  have h1:=uS k n a (y::b);have h2:=uS k n (x::a) b;have h3:=uS k n a b;rw[plM];split
  ·rw[aGy];simp only[cf]at h1 ⊢;rw[h1];omega
  ·split
   ·rw[aGy];simp only[cf]at h2 ⊢;rw[h2,De];split
    ·split<;>(try simp only[DP])<;>omega
    ·split<;>(try simp only[DP])<;>omega
   ·rename_i g1 g2;have he:x.1=y.1:=by omega
    rw[aGy];simp only[cf];rw[h3,he,De];split<;>(try simp only[DP])<;>omega
termination_by a b=>a.length+b.length
def nI(k:Int):∀(a b:Ch) (x:Int×Int),x∈plM k a b->x.2≠0/\((∃y∈a,y.1=x.1)\/∃y∈b,y.1=x.1)
 |[],[],x,h=>by simp[plM]at h
 |u::a,[],x,h=>by
  rw[plM]at h;rcases A5.1 h with h|h
  ·unfold nzF at h;split at h
   ·cases h
   ·rw[AT]at h;subst h;exact⟨by assumption,.inl ⟨_,Av ..,rfl⟩⟩
  ·obtain⟨h1,h2⟩:=nI k a [] x h;refine⟨h1,?_⟩;rcases h2 with ⟨y,hy,e⟩|⟨y,hy,e⟩
   ·exact .inl ⟨y,Au _ hy,e⟩
   ·cases hy
 |[],v::b,x,h=>by
  rw[plM]at h;rcases A5.1 h with h|h
  ·unfold nzF at h;split at h
   ·cases h
   ·rw[AT]at h;subst h;exact⟨by assumption,.inr ⟨_,Av ..,rfl⟩⟩
  ·obtain⟨h1,h2⟩:=nI k [] b x h;refine⟨h1,?_⟩;rcases h2 with ⟨y,hy,e⟩|⟨y,hy,e⟩
   ·cases hy
   ·exact .inr ⟨y,Au _ hy,e⟩
 |u::a,v::b,x,h=>by
  rw[plM]at h;have up:((∃y∈a,y.1=x.1)\/∃y∈v::b,y.1=x.1)->((∃y∈u::a,y.1=x.1)\/∃y∈v::b,y.1=x.1):=λh=>h.imp (λ⟨y,hy,e⟩=>⟨y,Au _ hy,e⟩) id
  have up2:((∃y∈u::a,y.1=x.1)\/∃y∈b,y.1=x.1)->((∃y∈u::a,y.1=x.1)\/∃y∈v::b,y.1=x.1):=λh=>h.imp id (λ⟨y,hy,e⟩=>⟨y,Au _ hy,e⟩)
  split at h
  ·rcases A5.1 h with h|h
   ·unfold nzF at h;split at h
    ·cases h
    ·rw[AT]at h;subst h;exact⟨by assumption,.inl ⟨_,Av ..,rfl⟩⟩
   ·obtain⟨h1,h2⟩:=nI k a (v::b) x h;exact⟨h1,up h2⟩
  ·split at h
   ·rcases A5.1 h with h|h
    ·unfold nzF at h;split at h
     ·cases h
     ·rw[AT]at h;subst h;exact⟨by assumption,.inr ⟨_,Av ..,rfl⟩⟩
    ·obtain⟨h1,h2⟩:=nI k (u::a) b x h;exact⟨h1,up2 h2⟩
   ·rcases A5.1 h with h|h
    ·unfold nzF at h;split at h
     ·cases h
     ·rw[AT]at h;subst h;exact⟨by assumption,.inl ⟨_,Av ..,rfl⟩⟩
    ·obtain⟨h1,h2⟩:=nI k a b x h;exact⟨h1,h2.imp (λ⟨y,hy,e⟩=>⟨y,Au _ hy,e⟩) (λ⟨y,hy,e⟩=>⟨y,Au _ hy,e⟩)⟩
termination_by a b=>a.length+b.length
def yT{f:Int×Int}{l:Ch}(hl:Val l)(h:∀y∈l,f.1<y.1):Val (nzF f++l):=by
 unfold nzF;split
 ·exact hl
 ·refine⟨Bk.2 ⟨h,hl.1⟩,λy hy=>?_⟩;rcases AG.1 hy with rfl|hy
  ·assumption
  ·exact hl.2 y hy
def iX(k:Int):∀{a b:Ch},Val a->Val b->Val (plM k a b)
 |[],[],_,_=>by rw[plM];exact Val.nil
 |x::a,[],ha,hb=>by
  obtain⟨h1,h2,_⟩:=ha.tail;rw[plM];refine yT (iX k h1 hb) λy hy=>?_
  rcases(nI k a [] y hy).2 with ⟨z,hz,e⟩|⟨z,hz,e⟩
  ·rw[<-e];exact h2 z hz
  ·cases hz
 |[],y::b,ha,hb=>by
  obtain⟨h1,h2,_⟩:=hb.tail;rw[plM];refine yT (iX k ha h1) λu hu=>?_
  rcases(nI k [] b u hu).2 with ⟨z,hz,e⟩|⟨z,hz,e⟩
  ·cases hz
  ·rw[<-e];exact h2 z hz
 |x::a,y::b,ha,hb=>by
  obtain⟨a1,a2,_⟩:=ha.tail;obtain⟨b1,b2,_⟩:=hb.tail;rw[plM];split
  ·refine yT (iX k a1 hb) λu hu=>?_
   rcases(nI k a (y::b) u hu).2 with ⟨z,hz,e⟩|⟨z,hz,e⟩
   ·rw[<-e];exact a2 z hz
   ·rcases AG.1 hz with rfl|hz
    ·omega
    ·have:=b2 z hz;omega
  ·split
   ·refine yT (iX k ha b1) λu hu=>?_
    simp only;rcases(nI k (x::a) b u hu).2 with ⟨z,hz,e⟩|⟨z,hz,e⟩
    ·rcases AG.1 hz with rfl|hz
     ·omega
     ·have:=a2 z hz;omega
    ·rw[<-e];exact b2 z hz
   ·refine yT (iX k a1 b1) λu hu=>?_
    simp only;rcases(nI k a b u hu).2 with ⟨z,hz,e⟩|⟨z,hz,e⟩
    ·rw[<-e];exact a2 z hz
    ·have:=b2 z hz;omega
termination_by a b=>a.length+b.length
def aDf{a b:Ch}(ha:Val a)(hb:Val b)(k:Int):plM k a b=lin a b k:=by
 obtain⟨h1,h2⟩:=aDm ha hb k;have h3:=iX k ha hb;refine h3.ext h1 λn=>?_
 rw[h2 n,<-gD h3,uS,gD ha,gD hb]
def bQx(k:Int):plM k [] []=[]:=by rw[plM]
def aQm{k:Int}{a b:Ch}{i:Nat}(h:i<a.length)(hb:b=[]\/∃y l,b=y::l/\a[i].1<y.1):plM k (a.drop i) b=nzF a[i]++plM k (a.drop (i+1)) b:=by
 rw[AP h];rcases hb with rfl|⟨y,l,rfl,hlt⟩
 ·rw[plM]
 ·rw[plM,Ad hlt]
def aJd{k:Int}{a b:Ch}{j:Nat}(h:j<b.length)(ha:a=[]\/∃x l,a=x::l/\b[j].1<x.1):plM k a (b.drop j)=nzF (b[j].1,k*b[j].2)++plM k a (b.drop (j+1)):=by
 rw[AP h];rcases ha with rfl|⟨x,l,rfl,hlt⟩
 ·rw[plM]
 ·rw[plM,Ac (by omega),Ad hlt]
def bIc{k:Int}{a b:Ch}{i j:Nat}(h:i<a.length)(h2:j<b.length)(he:a[i].1=b[j].1):plM k (a.drop i) (b.drop j)=nzF (a[i].1,a[i].2+k*b[j].2)++plM k (a.drop (i+1)) (b.drop (j+1)):=by rw[AP h,AP h2,plM,Ac (by omega),Ac (by omega)]
def nG{a b:Ch}{k:Int}{e f g:Nat}(ha:Bnd (2^e) a)(hb:Bnd (2^f) b)(hk:k.natAbs<=2^g)(he:e+2<4398046511104)(hf:g+f+2<4398046511104)(hla:a.length<=1048576)(hlb:b.length<=1048576):Spec Aa 82 [aK a,aK b,encZ k] (aK (plM k a b)):=by
 have hkS:Sz k:=szE hk (by omega);refine bF (N:=116) Tryz.func82 ?_;simp[-O,-X,↓KW,aK,aY,aF,aD,aG];refine aP (λy:Nat×Nat×Ch=>y.1<=a.length/\y.2.1<=b.length/\y.2.2.length<=y.1+y.2.1/\y.2.2++plM k (a.drop y.1) (b.drop y.2.1)=plM k a b) (λy=>StL [(0,.d (aK a)),(1,.d (aK b)),(5,.ptr 1 0),(7,.own 2 0 y.2.2.length 3),(8,.d (.i .i64 (y.1:Int))),(9,.d (.i .i64 (y.2.1:Int)))] none [.cells 72 [.d (.b (decide (k<0))),.d (aM (aU k.natAbs))],.cells 75 ((fcs y.2.2).map .d)]) (λy=>(a.length-y.1)+(b.length-y.2.1)) (0,0,[]) ⟨Al _,Al _,Al _,rfl⟩ ?_ ?_
 ·refine wkQ [1,2] ?_ ?_<;>simp[-O,upd,aO,Γ0,aK,fcs]
 ·rintro⟨i,j,out⟩ ⟨hi,hj,hol,hinv⟩;simp only at hi hj hol hinv;refine exE out.length λn hn=>?_
  rw[hn]at hol;have hfl:=wC out;rw[hn]at hfl;have hb8:=cH (n:=n) (by omega);by_cases hgi:i<a.length
  ·have q1:(i:Int)<a.length:=by omega
   have hw1:Ag.wrap ((i:Int)+1)=((i+1:Nat):Int):=by rw[aV];omega
   have g1:a[i]? = some a[i]:=Ab hgi;have hax:=ha _ (Ar hgi);by_cases hgj:j<b.length
   ·have q2:((j:Int)==b.length)=false:=by simp;omega
    have q3:(j:Int)<b.length:=by omega
    have q5:((i:Int)==a.length)=false:=by simp;omega
    have hw2:Ag.wrap ((j:Int)+1)=((j+1:Nat):Int):=by rw[aV];omega
    have g2:b[j]? = some b[j]:=Ab hgj;have hby:=hb _ (Ar hgj);have st1:a[i].1<b[j].1->plM k (a.drop i) (b.drop j)=nzF a[i]++plM k (a.drop (i+1)) (b.drop j):=λh=>aQm hgi (.inr ⟨_,_,AP hgj,h⟩)
    have st2:b[j].1<a[i].1->plM k (a.drop i) (b.drop j)=nzF (b[j].1,k*b[j].2)++plM k (a.drop i) (b.drop (j+1)):=λh=>aJd hgj (.inr ⟨_,_,AP hgi,h⟩)
    have st3:=bIc (k:=k) hgi hgj;refine exE a[i] λx hxe=>?_
    refine exE b[j] λy hye=>?_
    rw[hxe]at g1 st1 st2 st3 hax;rw[hye]at g2 st1 st2 st3 hby;obtain⟨xi,xc⟩:=x;obtain⟨yi,yc⟩:=y;simp only at hax hby st1 st2 st3;have hsx:Sz xc:=szE hax (by omega);have hsy:Sz yc:=szE hby (by omega);have hM:=qI k yc hkS hsy;have hmb:(k*yc).natAbs<=2^(g+f):=by rw[BX,<-pG];exact Cs hk hby
    refine exE (k*yc) λz hze=>?_
    rw[hze]at hM st2 st3 hmb;by_cases c1:xi<yi
    ·have hstep:=st1 c1;have hol2:out.length<=i+1+j:=by omega
     simp[-O,-X,↓KW,aK,q1,q2,g1,g2,c1,hw1,bE,aF,aD,aG];refine aJ (fH xc) ?_;by_cases hz0:xc=0
     ·have hz1:((xc).sign != 0)=false:=by simp[hz0]
      have hz2:nzF (xi,xc)=[]:=by unfold nzF;rw[Ad hz0]
      rw[hz2,BN]at hstep;rw[hstep]at hinv;simp[-O,-X,↓KW,hz1,hn,hw1];refine aI (τ:=Nat×Nat×Ch) (i+1,j,out) ⟨by simp only;omega,by simp only;omega,hol2,hinv⟩ (by simp only;omega) (wkQ [1,2] ?_ ?_)
      ·simp[-O,upd,aO,Γ0,aK,hn]
      ·simp[-O,upd,aO,Γ0,aK,hn]
     ·have hz1:((xc).sign != 0)=true:=by simp[hz0]
      have hz2:nzF (xi,xc)=[(xi,xc)]:=by unfold nzF;rw[Ac hz0]
      rw[hz2]at hstep;rw[hstep,<-Bh]at hinv;simp[-O,-X,↓KW,hz1,bE,aF,aD,dM,jV,hn,hfl,hb8,aS,hw1];refine aI (τ:=Nat×Nat×Ch) (i+1,j,out++[(xi,xc)]) ⟨by simp only;omega,by simp only;omega,by simp only[Ak,As];omega,hinv⟩ (by simp only;omega) (wkQ [1,5] ?_ ?_)
      ·simp[-O,upd,aO,Γ0,aK,bE,dM,fT,hn]
      ·simp[-O,upd,aO,Γ0,aK,bE,dM,fT,hn]
    ·by_cases c2:yi<xi
     ·have hstep:=st2 c2;have hol2:out.length<=i+(j+1):=by omega
      simp[-O,-X,↓KW,aK,q1,q2,q5,g1,g2,c1,c2,hw2,bE,aF,aD,aG];refine aJ hM ?_;simp[-O,-X,↓KW,aY,hw2,bE,aF,aD,aG];refine aJ (fH z) ?_;by_cases hz0:z=0
      ·have hz1:((z).sign != 0)=false:=by simp[hz0]
       have hz2:nzF (yi,z)=[]:=by unfold nzF;rw[Ad hz0]
       rw[hz2,BN]at hstep;rw[hstep]at hinv;simp[-O,-X,↓KW,hz1,hn,hw2];refine aI (τ:=Nat×Nat×Ch) (i,j+1,out) ⟨by simp only;omega,by simp only;omega,hol2,hinv⟩ (by simp only;omega) (wkQ [1,2] ?_ ?_)
       ·simp[-O,upd,aO,Γ0,aK,hn]
       ·simp[-O,upd,aO,Γ0,aK,hn]
      ·have hz1:((z).sign != 0)=true:=by simp[hz0]
       have hz2:nzF (yi,z)=[(yi,z)]:=by unfold nzF;rw[Ac hz0]
       rw[hz2]at hstep;rw[hstep,<-Bh]at hinv;simp[-O,-X,↓KW,hz1,bE,aF,aD,dM,jV,hn,hfl,hb8,aS,hw2];refine aI (τ:=Nat×Nat×Ch) (i,j+1,out++[(yi,z)]) ⟨by simp only;omega,by simp only;omega,by simp only[Ak,As];omega,hinv⟩ (by simp only;omega) (wkQ [1,5] ?_ ?_)
       ·simp[-O,upd,aO,Γ0,aK,bE,dM,fT,hn]
       ·simp[-O,upd,aO,Γ0,aK,bE,dM,fT,hn]
     ·have c3:xi=yi:=by omega
      have hstep:=st3 c3;have hol2:out.length<=i+1+(j+1):=by omega
      have hA:=sB xc z (An hsx (by decide)) (An (szE hmb (by omega)) (by decide));simp[-O,-X,↓KW,aK,q1,q2,q5,g1,g2,c1,c2,hw1,hw2,bE,aF,aD,aG];refine aJ hM ?_;simp[-O,-X,↓KW,aY,hw2,bE,aF,aD,aG];refine aJ hA ?_;simp[-O,-X,↓KW,aY,hw1,hw2,bE,aF,aD,aG];refine exE (xc+z) λu hue=>?_
      rw[hue]at hstep ⊢;refine aJ (fH u) ?_;by_cases hz0:u=0
      ·have hz1:((u).sign != 0)=false:=by simp[hz0]
       have hz2:nzF (xi,u)=[]:=by unfold nzF;rw[Ad hz0]
       rw[hz2,BN]at hstep;rw[hstep]at hinv;simp[-O,-X,↓KW,hz1,hn,hw1,hw2];refine aI (τ:=Nat×Nat×Ch) (i+1,j+1,out) ⟨by simp only;omega,by simp only;omega,hol2,hinv⟩ (by simp only;omega) (wkQ [1,2] ?_ ?_)
       ·simp[-O,upd,aO,Γ0,aK,hn]
       ·simp[-O,upd,aO,Γ0,aK,hn]
      ·have hz1:((u).sign != 0)=true:=by simp[hz0]
       have hz2:nzF (xi,u)=[(xi,u)]:=by unfold nzF;rw[Ac hz0]
       rw[hz2]at hstep;rw[hstep,<-Bh]at hinv;simp[-O,-X,↓KW,hz1,bE,aF,aD,dM,jV,hn,hfl,hb8,aS,hw1,hw2];refine aI (τ:=Nat×Nat×Ch) (i+1,j+1,out++[(xi,u)]) ⟨by simp only;omega,by simp only;omega,by simp only[Ak,As];omega,hinv⟩ (by simp only;omega) (wkQ [1,5] ?_ ?_)
       ·simp[-O,upd,aO,Γ0,aK,bE,dM,fT,hn]
       ·simp[-O,upd,aO,Γ0,aK,bE,dM,fT,hn]
   ·have hje:j=b.length:=by omega
    have q2:((j:Int)==b.length)=true:=by simp;omega
    have hstep:=aQm (k:=k) (b:=b.drop j) hgi (.inl (BA (by omega)));have hol2:out.length<=i+1+j:=by omega
    refine exE a[i] λx hxe=>?_
    rw[hxe]at g1 hstep hax;obtain⟨xi,xc⟩:=x;simp only at hax;have hsx:Sz xc:=szE hax (by omega);simp[-O,-X,↓KW,aK,q1,q2,g1,hw1,bE,aF,aD,aG];refine aJ (fH xc) ?_;by_cases hz0:xc=0
    ·have hz1:((xc).sign != 0)=false:=by simp[hz0]
     have hz2:nzF (xi,xc)=[]:=by unfold nzF;rw[Ad hz0]
     rw[hz2,BN]at hstep;rw[hstep]at hinv;simp[-O,-X,↓KW,hz1,hn,hw1];refine aI (τ:=Nat×Nat×Ch) (i+1,j,out) ⟨by simp only;omega,by simp only;omega,hol2,hinv⟩ (by simp only;omega) (wkQ [1,2] ?_ ?_)
     ·simp[-O,upd,aO,Γ0,aK,hn]
     ·simp[-O,upd,aO,Γ0,aK,hn]
    ·have hz1:((xc).sign != 0)=true:=by simp[hz0]
     have hz2:nzF (xi,xc)=[(xi,xc)]:=by unfold nzF;rw[Ac hz0]
     rw[hz2]at hstep;rw[hstep,<-Bh]at hinv;simp[-O,-X,↓KW,hz1,bE,aF,aD,dM,jV,hn,hfl,hb8,aS,hw1];refine aI (τ:=Nat×Nat×Ch) (i+1,j,out++[(xi,xc)]) ⟨by simp only;omega,by simp only;omega,by simp only[Ak,As];omega,hinv⟩ (by simp only;omega) (wkQ [1,5] ?_ ?_)
     ·simp[-O,upd,aO,Γ0,aK,bE,dM,fT,hn]
     ·simp[-O,upd,aO,Γ0,aK,bE,dM,fT,hn]
  ·have q1:¬(i:Int)<a.length:=by omega
   have q5:((i:Int)==a.length)=true:=by simp;omega
   have hde:a.drop i=[]:=BA (by omega);rw[hde]at hinv;by_cases hgj:j<b.length
   ·have q2:((j:Int)==b.length)=false:=by simp;omega
    have q3:(j:Int)<b.length:=by omega
    have hw2:Ag.wrap ((j:Int)+1)=((j+1:Nat):Int):=by rw[aV];omega
    have g2:b[j]? = some b[j]:=Ab hgj;have hby:=hb _ (Ar hgj);have hstep:=aJd (k:=k) hgj (.inl (rfl:([]:Ch)=[]));have hol2:out.length<=i+(j+1):=by omega
    refine exE b[j] λy hye=>?_
    rw[hye]at g2 hstep hby;obtain⟨yi,yc⟩:=y;simp only at hby hstep;have hsy:Sz yc:=szE hby (by omega);have hM:=qI k yc hkS hsy;refine exE (k*yc) λz hze=>?_
    rw[hze]at hM hstep;rw[<-hde]at hinv hstep;simp[-O,-X,↓KW,aK,q1,q2,q3,q5,g2,hw2,bE,aF,aD,aG];refine aJ hM ?_;simp[-O,-X,↓KW,aY,hw2,bE,aF,aD,aG];refine aJ (fH z) ?_;by_cases hz0:z=0
    ·have hz1:((z).sign != 0)=false:=by simp[hz0]
     have hz2:nzF (yi,z)=[]:=by unfold nzF;rw[Ad hz0]
     rw[hz2,BN]at hstep;rw[hstep]at hinv;simp[-O,-X,↓KW,hz1,hn,hw2];refine aI (τ:=Nat×Nat×Ch) (i,j+1,out) ⟨by simp only;omega,by simp only;omega,hol2,hinv⟩ (by simp only;omega) (wkQ [1,2] ?_ ?_)
     ·simp[-O,upd,aO,Γ0,aK,hn]
     ·simp[-O,upd,aO,Γ0,aK,hn]
    ·have hz1:((z).sign != 0)=true:=by simp[hz0]
     have hz2:nzF (yi,z)=[(yi,z)]:=by unfold nzF;rw[Ac hz0]
     rw[hz2]at hstep;rw[hstep,<-Bh]at hinv;simp[-O,-X,↓KW,hz1,bE,aF,aD,dM,jV,hn,hfl,hb8,aS,hw2];refine aI (τ:=Nat×Nat×Ch) (i,j+1,out++[(yi,z)]) ⟨by simp only;omega,by simp only;omega,by simp only[Ak,As];omega,hinv⟩ (by simp only;omega) (wkQ [1,5] ?_ ?_)
     ·simp[-O,upd,aO,Γ0,aK,bE,dM,fT,hn]
     ·simp[-O,upd,aO,Γ0,aK,bE,dM,fT,hn]
   ·have q3:¬(j:Int)<b.length:=by omega
    rw[BA (by omega),bQx,A7]at hinv;have hc:=wG hn;have ht:=oU hn;have hinv':plM k a b=out:=hinv.symm;simp[-O,-X,↓KW,aK,q1,q3,hn,hfl,hc,ht,hinv']
def rg(n:Nat)(f:Nat->Int):List Int:=(CS n).map f
def pF(w:Int->Int)(c:List Cl):∀y:List (Int×Int),bO w (bdL c y)=bO (λm=>bO w (bOf c m)) y
 |[]=>rfl
 |f::y=>by show bO w (mulR f.2 (bOf c f.1)++bdL c y)=_;rw[lV,mU,pF w c y];rfl
def aIk{w:Int->Int}:∀{l:List (Int×Int)},(∀x∈l,w x.1=0)->bO w l=0
 |[],_=>rfl
 |x::l,h=>by simp only[bO];rw[h x (Av ..),aIk λy hy=>h y (Au _ hy)];simp
def aNk(c:List Cl)(x:List (Int×Int)):Val (bdX c x)/\∀n,getM (bdX c x) n=bO (λm=>cf n (bOf c m)) x:=by obtain⟨h1,h2⟩:=cS (bdL c x) [] Val.nil;exact⟨h1,λn=>by show getM (cF [] (bdL c x)) n=_;rw[h2 n,gX,CD,aWp]⟩
def In(c:List Cl)(k:Int)(x:List (Int×Int)):Prop:=∀f∈x,f.1∈cB c k
def In.lin{c:List Cl}{k:Int}{a b:List (Int×Int)}(ha:Val a)(hb:Val b)(ia:In c k a)(ib:In c k b)(n:Int):In c k (lin a b n):=aJy (S:=λm=>m∈cB c k) ha hb ia ib
def bNi{c:List Cl}(hv:CxV c){y:Cl}(hy:y∈c):bdX c [(y.id,1)]=y.b:=by
 obtain⟨h1,h2⟩:=aNk c [(y.id,1)];refine h1.ext (hv.val y hy) λn=>?_
 rw[h2];simp only[bO];rw[hv.bOf hy,gD (hv.val y hy)];omega
def aNl{c:List Cl}{x:Ch}{f g:Nat}(hc:SzX f c)(hx:x.length<=100)(hg:Bnd (2^g) x)(i:Nat):Bnd (2^(14+(f+g))) (cF [] (bdL c (x.take i)))/\(cF [] (bdL c (x.take i))).length<=10000:=by obtain⟨h1,h2⟩:=bNk (x:=x.take i) hc (by rw[Ax];omega) (hg.take (i:=i));have h3:=mP (bdL c (x.take i)) [] (Bnd.nil 0) h2;have h4:=oB [] (bdL c (x.take i));simp only[Bq,A6]at h3 h4;exact⟨h3.mono (tW (An h1 (by decide))),by omega⟩
def aIy{c:List Cl}{x:Ch}{f g:Nat}(hv:∀y∈c,Val y.b)(hc:SzX f c)(hx:x.length<=100)(hg:Bnd (2^g) x)(hfg:f+g+20<4398046511104):Spec Aa 70 [aE c,aK x] (aK (bdX c x)):=by
 have hlen:=hc.len;refine bF (N:=36) Tryz.func70 ?_;simp[-O,-X,↓KW,aE,aK];refine aP (λi:Nat=>i<=x.length) (λi=>StL [(0,.d (aE c)),(1,.d (aK x)),(5,.d (aK (cF [] (bdL c (x.take i))))),(6,.d (.i .i64 (i:Int)))] none []) (λi=>x.length-i) 0 (Al _) ?_ ?_
 ·refine wkQ [] ?_ ?_
  ·simp[-O,upd,aO,Γ0,aE,aK,cF,bdL];exact qE (by simp[jA,upd,sS]) (λa _ id h=>by simp[qA]at h)
  ·trivial
 ·intro i hi;by_cases hgo:i<x.length
  ·have q1:(i:Int)<x.length:=by omega
   have hx1:x[i]? = some x[i]:=Ab hgo;have hw:Ag.wrap ((i:Int)+1)=(i:Int)+1:=aV;have hxg:=hg _ (Ar hgo);obtain⟨ob,ol⟩:=aNl hc hx hg i;have ov:=(cS (bdL c (x.take i)) [] Val.nil).1;have htk:cF [] (bdL c (x.take (i+1)))=cF (cF [] (bdL c (x.take i))) (mulR x[i].2 (bOf c x[i].1)):=by rw[bNj hgo,aTm]
   refine exE x[i] λu hue=>?_
   rw[hue]at hx1 hxg htk;obtain⟨n,z⟩:=u;simp only at hxg htk;have hbv:Val (bOf c n):=by
    unfold bOf;cases e:bG c n with
    |none=>exact Val.nil
    |some y=>exact hv y (dF e).1
   have hbb:=mN hc.bb n;have hbl:=nQ hc.bl n;have hF:=gC c n (by omega);refine exE (cF [] (bdL c (x.take i))) λout hoe=>?_
   rw[hoe]at ob ol ov htk;have hP:=nG (k:=z) ob hbb hxg (by omega) (by omega) (by omega) (by omega);rw[aDf ov hbv]at hP;unfold lin at hP;rw[<-htk]at hP;unfold oT at hF;have hbo:bOf c n=((bG c n).getD lA).b:=rfl;rw[hbo]at hP;simp only[hoe];simp[-O,-X,↓KW,aE,aK,q1,hx1,bE,aF,aD,aG];refine aJ hF ?_;simp[-O,-X,↓KW,aE,aK,aR,q1,hx1,bE,aF,aD,aG,aC,aA,aB];refine aJ hP ?_;simp[-O,-X,↓KW,hw,aQ,aT,aC,aA];refine aI (i+1) hgo (slQ hgo) (wkQ [] ?_ ?_)<;>simp[-O,upd,aO,Γ0,aE,aK]
  ·have q1:¬(i:Int)<x.length:=by omega
   rw[Ai (by omega)];simp[-O,-X,↓KW,aE,aK,q1,bdX]
def apP(m:List (Int×Ch))(f:Int×Int):Ch:=m.flatMap λp=>if p.1=f.1 then mulR f.2 p.2 else[]
def apL(m:List (Int×Ch))(x:Ch):Ch:=x.flatMap (apP m)
def apX(m:List (Int×Ch))(x:Ch):Ch:=cF [] (apL m x)
structure SzM(h:Nat)(m:List (Int×Ch)):Prop where
 len:m.length<=100
 bl:∀p∈m,p.2.length<=100
 bb:∀p∈m,Bnd (2^h) p.2
 val:∀p∈m,Val p.2
def bNu{h g:Nat}:∀{m:List (Int×Ch)} {f:Int×Int},(∀p∈m,p.2.length<=100)->(∀p∈m,Bnd (2^h) p.2)->f.2.natAbs<=2^g->(apP m f).length<=m.length*100/\Bnd (2^(g+h)) (apP m f)
 |[],f,_,_,_=>⟨Al _,Bnd.nil _⟩
 |p::m,f,h1,h2,h3=>by
  obtain⟨i1,i2⟩:=bNu (m:=m) (f:=f) (λq hq=>h1 q (Au _ hq)) (λq hq=>h2 q (Au _ hq)) h3;have hp1:=h1 p (Av ..);have hp2:=pI h3 (h2 p (Av ..));rw[pG]at hp2;show((if p.1=f.1 then mulR f.2 p.2 else[])++apP m f).length<=_/\Bnd _ ((if p.1=f.1 then mulR f.2 p.2 else[])++apP m f);rw[Ak,AH,C7];split
  ·exact⟨by rw[yV];omega,hp2.app i2⟩
  ·exact⟨by simp only[Bq];omega,i2⟩
def bNv{h g:Nat}{m:List (Int×Ch)}(hm:SzM h m):∀{x:Ch},Bnd (2^g) x->(apL m x).length<=x.length*10000/\Bnd (2^(g+h)) (apL m x)
 |[],_=>⟨Al _,Bnd.nil _⟩
 |f::x,hx=>by
  obtain⟨i1,i2⟩:=bNv hm (x:=x) λy hy=>hx y (Au _ hy)
  obtain⟨j1,j2⟩:=bNu (f:=f) hm.bl hm.bb (hx f (Av ..));have:=hm.len;have h2:m.length*100<=10000:=by omega
  show(apP m f++apL m x).length<=_/\Bnd _ (apP m f++apL m x);rw[Ak,AH,C7];exact⟨by omega,j2.app i2⟩
structure CmT(a b:List Cl)(m:List (Int×Ch)):Prop where
 len:m.length=a.length
 id:∀(i:Nat) x p,a[i]? = some x->m[i]? = some p->p.1=x.id
 key:∀(i:Nat) x p,a[i]? = some x->m[i]? = some p->∀f∈p.2,∃y,bG b f.1=some y/\y.dim=x.dim
 bd:∀(i:Nat) x p,a[i]? = some x->m[i]? = some p->bdX b p.2=apX m x.b
def bQr{c:List Cl}{x:Cl}{e f:Nat}(hc:SzX e c)(hcv:∀y∈c,Val y.b)(hxv:Val x.b)(hxl:x.b.length<=100)(hxb:Bnd (2^f) x.b)(hd:0<=x.dim/\x.dim<=3)(hk:∀g∈x.b,∃y,bG c g.1=some y/\y.dim=x.dim-1)(hz:bdX c x.b=[])
  (hef:e+f+20<4398046511104):Spec Aa 45 [aE c,.ag (aN x)] (.i .i64 0):=by
 have hcl:=hc.len
 refine bF (N:=73) Tryz.func45 ?_
 have hV:=qS x.b (hxb.sz (by omega)) (by omega)
 rw[xE hxv]at hV
 have hA:=aIy hcv hc hxl hxb (by omega)
 rw[hz]at hA
 simp[-O,-X,↓KW,aE,aR,aC,aA,aB]
 refine aJ hV ?_
 simp[-O,-X,↓KW,aE]
 refine aP (λj:Nat=>j<=x.b.length) (λj=>StL [(0,.d (aE c)),(3,.ptr 1 0),(5,.d (.i .i64 (j:Int)))] none [.cells 40 [.d (.i .i64 x.id),.d (.i .i64 x.dim),.d (aK x.b)]]) (λj=>x.b.length-j) 0 (Al _) ?_ ?_
 ·refine wkQ [1] ?_ ?_<;>simp[-O,upd,aO,Γ0,aE]
 ·intro j hj
  by_cases hgo2:j<x.b.length
  ·have q2:(j:Int)<x.b.length:=by omega
   have hf:x.b[j]? = some x.b[j]:=Ab hgo2
   have hw2:Ag.wrap ((j:Int)+1)=(j:Int)+1:=aV
   obtain⟨z,hzf,hzd⟩:=hk _ (Ar hgo2)
   refine exE x.b[j] λu hue=>?_
   rw[hue]at hf hzf
   obtain⟨n2,v2⟩:=u
   simp only at hzf
   have hF:=gC c n2 (by omega)
   unfold oT at hF
   rw[hzf]at hF
   simp only[Bd,Fa]at hF
   simp[-O,-X,↓KW,aE,aK,q2,hf,bE,aF,aD,aG]
   refine aJ hF ?_
   simp[-O,-X,↓KW,aE,aR,hw2,aC,aA,aB]
   refine aI (j+1) hgo2 (AF hgo2 (AK _)) (wkQ [1] ?_ ?_)<;>simp[-O,upd,aO,Γ0,aE,aK]
  ·have q2:¬(j:Int)<x.b.length:=by omega
   have d1:¬x.dim<0:=by omega
   have d2:¬3<x.dim:=by omega
   simp[-O,-X,↓KW,aE,aK,q2,d1,d2]
   refine aP (λj:Nat=>j<=x.b.length) (λj=>StL [(0,.d (aE c)),(3,.ptr 1 0),(8,.d (.i .i64 (j:Int)))] none [.cells 40 [.d (.i .i64 x.id),.d (.i .i64 x.dim),.d (aK x.b)]]) (λj=>x.b.length-j) 0 (Al _) ?_ ?_
   ·refine wkQ [1] ?_ ?_<;>simp[-O,upd,aO,Γ0,aE,aK]
   ·clear hgo2 q2 hj j
    intro j hj
    by_cases hgo2:j<x.b.length
    ·have q2:(j:Int)<x.b.length:=by omega
     have hf:x.b[j]? = some x.b[j]:=Ab hgo2
     have hw2:Ag.wrap ((j:Int)+1)=(j:Int)+1:=aV
     have hw3:Ag.wrap (x.dim-1)=x.dim-1:=aV
     obtain⟨z,hzf,hzd⟩:=hk _ (Ar hgo2)
     refine exE x.b[j] λu hue=>?_
     rw[hue]at hf hzf
     obtain⟨n2,v2⟩:=u
     simp only at hzf
     have hF:=gC c n2 (by omega)
     unfold oT at hF
     rw[hzf]at hF
     simp only[Bd,Fa]at hF
     have q4:((x.dim-1 != x.dim-1):Bool)=false:=by simp
     simp[-O,-X,↓KW,aE,aK,q2,hf,bE,aF,aD,aG]
     refine aJ hF ?_
     simp[-O,-X,↓KW,aE,aK,aR,hw2,hw3,hzd,q4,aC,aA,aB]
     refine aI (j+1) hgo2 (AF hgo2 (AK _)) (wkQ [1] ?_ ?_)<;>simp[-O,upd,aO,Γ0,aE,aK]
    ·have q2:¬(j:Int)<x.b.length:=by omega
     simp[-O,-X,↓KW,aE,aK,q2]
     refine aJ hA ?_
     simp[-O,-X,↓KW,aE,aK]
def CxV.bd0{c:List Cl}(h:CxV c){x:Cl}(hx:x∈c):bdX c x.b=[]:=by
 obtain⟨h1,h2⟩:=aNk c x.b;refine h1.ext Val.nil λn=>?_
 rw[h2,gX];exact h.cyc x hx n
def bHu{c:List Cl}{e:Nat}(h:CxV c)(hc:SzX e c)(he:e+e+20<4398046511104):Spec Aa 19 [aE c] (.b true):=by
 have hcl:=hc.len;refine bF (N:=52) Tryz.func19 ?_;have q0:¬(400:Int)<c.length:=by omega
 simp[-O,-X,↓KW,aE,q0];refine aP (λi:Nat=>i<=c.length) (λi=>StL [(0,.d (aE c)),(3,.d (.i .i64 (i:Int)))] none []) (λi=>c.length-i) 0 (Al _) ?_ ?_
 ·refine wkQ [] ?_ ?_<;>simp[-O,upd,aO,Γ0,aE]
 ·intro i hi;by_cases hgo:i<c.length
  ·have q1:(i:Int)<c.length:=by omega
   have hx:c[i]? = some c[i]:=Ab hgo;have hw:Ag.wrap ((i:Int)+1)=(i:Int)+1:=aV;have hxv:=h.val _ (Ar hgo);have hxb:=hc.bb _ (Ar hgo);have hxl:=hc.bl _ (Ar hgo);have hprev:∀(j:Nat) (hj:j<c.length),j<i->c[j].id<c[i].id:=λj hj hji=>(BC.1 h.inc) j i hj hgo hji
   refine exE c[i] λx hxe=>?_
   rw[hxe]at hx hxv hxb hxl;simp only[hxe]at hprev;have hV:=qS x.b (hxb.sz (by omega)) (by omega);rw[xE hxv]at hV;have hyc:aN x=[D.i .i64 x.id,.i .i64 x.dim,aK x.b]:=rfl;rcases i with _|i
   ·have hw0:Ag.wrap 1=1:=aV;have hxe':∀h:0<c.length,c[0]'h=x:=λ_=>hxe
    simp[-O,-X,↓KW,aE,hgo,hx,hxe',hyc,aC,aA,aB];refine aJ hV ?_;simp[-O,-X,↓KW,aE,hw0];refine aI (0+1) hgo (slQ hgo) (wkQ [] ?_ ?_)<;>simp[-O,upd,aO,Γ0,aE]
   ·have hgp:i<c.length:=by omega
    have hp:c[i]? = some c[i]:=Ab hgp;have hlt:=hprev i hgp (by omega);have q3:(0:Int)<((i+1:Nat):Int):=by omega
    have hw2:Ag.wrap (((i+1:Nat):Int)-1)=(i:Int):=by rw[aV];omega
    refine exE c[i] λy hye=>?_
    rw[hye]at hp hlt;have hyc2:aN y=[D.i .i64 y.id,.i .i64 y.dim,aK y.b]:=rfl;have q4:¬x.id<=y.id:=by omega
    have q5:(0:Int)<=(i:Int):=by omega
    have hw':Ag.wrap (((i+1:Nat):Int)+1)=((i+1+1:Nat):Int):=by rw[aV];omega
    obtain⟨I,hI⟩:∃I:Int,((i+1:Nat):Int)=I:=⟨_,rfl⟩;have hIt:I.toNat=i+1:=by omega
    have q6:0<=I:=by omega
    rw[hI]at q1 q3 hw2 hw';simp only[hI];simp[-O,-X,↓KW,aE,q1,q3,hIt,q6,hw2,q5,hx,hp,hyc,hyc2,q4,aC,aA,aB];refine aJ hV ?_;simp[-O,-X,↓KW,aE,hw'];refine aI (i+1+1) hgo (slQ hgo) (wkQ [] ?_ ?_)<;>simp[-O,upd,aO,Γ0,aE]
  ·have q1:¬(i:Int)<c.length:=by omega
   simp[-O,-X,↓KW,aE,q1];refine aP (λi:Nat=>i<=c.length) (λi=>StL [(0,.d (aE c)),(4,.d (.i .i64 (i:Int)))] none []) (λi=>c.length-i) 0 (Al _) ?_ ?_
   ·refine wkQ [] ?_ ?_<;>simp[-O,upd,aO,Γ0,aE]
   ·clear hgo q1 hi i;intro i hi;by_cases hgo:i<c.length
    ·have q1:(i:Int)<c.length:=by omega
     have hx:c[i]? = some c[i]:=Ab hgo;have hw:Ag.wrap ((i:Int)+1)=(i:Int)+1:=aV;have hF:=bQr (x:=c[i]) hc h.val (h.val _ (Ar hgo)) (hc.bl _ (Ar hgo)) (hc.bb _ (Ar hgo)) (h.dim _ (Ar hgo)) (λg hg=>by
      obtain⟨y,hy,e1,e2⟩:=h.face _ (Ar hgo) g hg;exact⟨y,by rw[<-e1];exact h.inc.find hy,e2⟩) (h.bd0 (Ar hgo)) he
     refine exE c[i] λx hxe=>?_
     rw[hxe]at hx hF;have hyc:aN x=[D.i .i64 x.id,.i .i64 x.dim,aK x.b]:=rfl;simp[-O,-X,↓KW,aE,q1,hx,hyc,aC,aA,aB];refine aJ hF ?_;simp[-O,-X,↓KW,aE,hw];refine aI (i+1) hgo (slQ hgo) (wkQ [] ?_ ?_)<;>simp[-O,upd,aO,Γ0,aE]
    ·have q1:¬(i:Int)<c.length:=by omega
     simp[-O,-X,↓KW,aE,q1]
def zA{l:Ch}{e:Nat}(hb:Bnd (2^e) l)(hk:Keys l)(hl:l.length<=16384)(he:e+14<4398046511104):Spec Aa 168 [aK l] (aK (cF [] l)):=by have:=aWo l (2^e) (uP (e:=14+e) (tW (An hl (by decide))) (by omega)) hb hk (by omega);rwa [bSg]at this
def bXj:gQ Aa 166:=aEt Tryz.func166 (by kernel_rfl) rfl rfl rfl
def gr2(t1 t2:Nat)(sl:List (Nat×AV))(zb:HO)(e1:TypeId)(s1 n1:Nat)(c1:List D)(e2:TypeId)(s2 n2:Nat)(c2:List D):St:=match n1,n2 with
 |0,0=>StL ((t1,.nil)::(t2,.nil)::sl) none [zb]
 |0,n+1=>StL ((t1,.nil)::(t2,.own 2 0 (n+1) s2)::sl) none [zb,.cells e2 (c2.map .d)]
 |m+1,0=>StL ((t1,.own 2 0 (m+1) s1)::(t2,.nil)::sl) none [zb,.cells e1 (c1.map .d)]
 |m+1,n+1=>StL ((t1,.own 2 0 (m+1) s1)::(t2,.own 3 0 (n+1) s2)::sl) none [zb,.cells e1 (c1.map .d),.cells e2 (c2.map .d)]
def dD(x:Int×Int):(eL x).length=3:=rfl
def jW(x:Int×Int):((eL x).map AV.d).all one=true:=rfl
def aX(x:Cl):(aN x).length=3:=rfl
def eR(x:Cl):((aN x).map AV.d).all one=true:=rfl
def hJ(a b:Int)(f:Int×Int):Int×Int:=if f.1=b then(a,f.2)else f
def tG(a b:Int)(z:Cl):Cl:=⟨z.id,z.dim,cF [] (z.b.map (hJ a b))⟩
def nX(c:List Cl)(a b:Int):List Cl:=(c.filter λz=>!decide (z.id=b)).map (tG a b)
def aSc(c:List Cl)(a b:Int):List Cl×List (Int×Ch)×Int :=
 if(bG c a).isSome=false\/(bG c b).isSome=false then([],[],250)else if dOf c a≠dOf c b then([],[],260)else if a=b\/bOf c a≠bOf c b then([],[],310)else(nX c a b,eF c [(b,[(a,1)])],0)
def fU(r:List Cl×List (Int×Ch)×Int):D:=.tp [aE r.1,dJ r.2.1,.i .i64 r.2.2]
def aPr{a b:Int}{M:Nat}{l:Ch}(h:Bnd M l):Bnd M (l.map (hJ a b)):=λx hx=>by obtain⟨y,hy,rfl⟩:=AA.1 hx;unfold hJ;split<;>exact h y hy
def aIv{a b:Int}{l:Ch}(h:Keys l)(ha:inr a=true):Keys (l.map (hJ a b)):=λx hx=>by
 obtain⟨y,hy,rfl⟩:=AA.1 hx;unfold hJ;split
 ·exact ha
 ·exact h y hy
def iU(H : Hp)(n id : Nat) : vis H (n + 1) (.mp id) = match H id with
      |some (.map _ es)=>id::(es.map (·.2)).flatMap (vis H n)
      |_=>[]:=rfl
def cZ(m:List (Int×Ch)):inj (dJ m)=.d (dJ m):=rfl
def cA(H:Hp)(avs:List AV)(m:List (Int×Ch)):bS H avs (dJ m)=fK H avs:=rfl
def dW(n:Int)(v:AV):sD [] n v=[(n,v)]:=rfl
def bDp{c:List Cl}{i:Nat}(h:i<c.length)(a b:Int):nX (c.take (i+1)) a b=nX (c.take i) a b++if c[i].id=b then[]else[tG a b c[i]]:=by unfold nX;rw[AM,Ab h,BQ,Bu];congr 1;by_cases e:c[i].id=b<;>simp[e]
def aSd(c:List Cl)(a b:Int):(nX c a b).length<=c.length:=by unfold nX;rw[AL];exact Cw _ _
def aVm{c:List Cl}{e:Nat}(a b:Int)(hc:Inc c)(hz:SzX e c)(hk:∀x∈c,Keys x.b)(ha:inr a=true)(he:e+14<4398046511104):Spec Aa 165 [aE c,.i .i64 a,.i .i64 b] (fU (aSc c a b)):=by
 have hlen:=hz.len;have hFa:=sQ hc a (by omega);have hFb:=sQ hc b (by omega);have hr:∃p x q y,(bG c a).isSome=p/\(bG c a).getD lA=x/\(bG c b).isSome=q/\(bG c b).getD lA=y:=⟨_,_,_,_,rfl,rfl,rfl,rfl⟩;obtain⟨p,x,q,y,hp,hx,hq,hy⟩:=hr;have hda:dOf c a=x.dim:=by unfold dOf;rw[hx]
 have hdb:dOf c b=y.dim:=by unfold dOf;rw[hy]
 have hba:bOf c a=x.b:=by unfold bOf;rw[hx]
 have hbb:bOf c b=y.b:=by unfold bOf;rw[hy]
 have hxl:x.b.length<=100:=by rw[<-hba];exact nQ hz.bl a
 have hxs:∀f∈x.b,Sz f.2:=by rw[<-hba];exact(mN hz.bb a).sz (by omega)
 have hys:∀f∈y.b,Sz f.2:=by rw[<-hbb];exact(mN hz.bb b).sz (by omega)
 have hE:=bSb hxs hys (by omega);unfold oT at hFa hFb;rw[hp,hx]at hFa;rw[hq,hy]at hFb;unfold aSc;rw[hp,hq,hda,hdb,hba,hbb];refine qP (N:=100) Tryz.func165 bXj ?_;simp[-O,-X,↓KW,aE];refine aJ hFa ?_;simp[-O,-X,↓KW,aE,aR,aC,aA,aB];refine aJ hFb ?_;cases p with
 |false=>simp[-O,-X,↓KW,aE,aR,aC,aA,aB,eW,fU,dJ]
 |true =>
  cases q with
  |false=>simp[-O,-X,↓KW,aE,aR,aC,aA,aB,eW,fU,dJ]
  |true =>
   by_cases h1:x.dim=y.dim
   rotate_left
   ·have h1':((x.dim != y.dim):Bool)=true:=by simpa using h1
    simp[-O,-X,↓KW,aE,aR,aC,aA,aB,eW,fU,dJ,h1',h1]
   ·have h1':((x.dim != y.dim):Bool)=false:=by simpa using h1
    by_cases h2:a=b
    ·have h2':((a==b):Bool)=true:=by simpa using h2
     simp[-O,-X,↓KW,aE,aR,aC,aA,aB,eW,fU,dJ,h1',h1,h2',h2]
    ·have h2':((a==b):Bool)=false:=by simpa using h2
     simp[-O,-X,↓KW,aE,aR,aC,aA,aB,eW,fU,dJ,h1',h1,h2',h2];refine aJ hE ?_;by_cases h3:x.b=y.b
     rotate_left
     ·rw[Bo h3];simp[-O,-X,↓KW,aE,aR,aC,aA,aB,eW,fU,dJ,h1',h1,h2',h2,h3]
     ·rw[Bx h3];simp[-O,-X,↓KW,aE,aR,aC,aA,aB,eW,fU,dJ,h1',h1,h2',h2,h3];clear hFa hFb hE hp hq hx hy hda hdb hba hbb hxl hxs hys h1' h2';refine aP (λy:Nat×List Cl=>y.1<=c.length/\nX (c.take y.1) a b=y.2) (λy=>grS 13 [(0,.d (aE c)),(1,.d (.i .i64 a)),(2,.d (.i .i64 b)),(53,.d (aE c)),(54,.d (.i .i64 c.length)),(55,.d (.i .i64 (y.1:Int)))] 40 3 y.2.length (flt aN y.2)) (λy=>c.length-y.1) (0,[]) ⟨Al _,rfl⟩ ?_ ?_
      ·simp only[Bq,grS];refine wkQ [] ?_ ?_<;>simp[-O,upd,aO,Γ0,aE,dY]
      ·rintro⟨i,out⟩ ⟨hi,ho⟩;simp only at hi ho ⊢;by_cases hgo:i<c.length
       ·have q1:(i:Int)<c.length:=by omega
        have hx:c[i]? = some c[i]:=Ab hgo;have hw:Ag.wrap ((i:Int)+1)=(i:Int)+1:=aV;have htk:=bDp hgo a b;rw[ho]at htk;have hln:out.length<=i:=by rw[<-ho];exact An (aSd _ _ _) (by simp;omega)
        have hzl:=hz.bl _ (Ar hgo);have hzb:=hz.bb _ (Ar hgo);have hzk:=hk _ (Ar hgo);refine exE c[i] λz hze=>?_
        rw[hze]at hx htk hzl hzb hzk;have hyc:aN z=[D.i .i64 z.id,.i .i64 z.dim,aK z.b]:=rfl;by_cases h0:z.id=b
        ·have h0':((z.id==b):Bool)=true:=by simpa using h0
         rw[Ad h0,A7]at htk;have q3:(((b:Int)==(b:Int)):Bool)=true:=by simp
         rcases hn:out.length with _|m
         ·simp only[hn,grS];simp[-O,-X,↓KW,aE,q1,hx,hyc,h0,h0',q3,hw,aC,aA,aB];refine aI (i+1,out) ⟨hgo,htk⟩ (slQ hgo) ?_;simp only[hn,grS];refine wkQ [] ?_ ?_<;>simp[-O,upd,aO,Γ0,aE,dY]
         ·simp only[hn,grS];simp[-O,-X,↓KW,aE,q1,hx,hyc,h0,h0',q3,hw,aC,aA,aB];refine aI (i+1,out) ⟨hgo,htk⟩ (slQ hgo) ?_;simp only[hn,grS];refine wkQ [1] ?_ ?_<;>simp[-O,upd,aO,Γ0,aE,dY]
        ·have h0':((z.id==b):Bool)=false:=by simpa using h0
         rw[Ac h0]at htk;rcases hn:out.length with _|m
         ·simp only[hn,grS];simp[-O,-X,↓KW,aE,aK,q1,hx,hyc,h0,h0',hw,aC,aA,aB];refine aP (λy:Nat×Ch=>y.1<=z.b.length/\y.2.length=y.1/\(z.b.take y.1).map (hJ a b)=y.2) (λy=>gr2 13 16 [(0,.d (aE c)),(1,.d (.i .i64 a)),(2,.d (.i .i64 b)),(15,.ptr 1 0),(53,.d (aE c)),(54,.d (.i .i64 c.length)),(55,.d (.i .i64 (i:Int))),(64,.d (aK z.b)),(65,.d (.i .i64 z.b.length)),(66,.d (.i .i64 (y.1:Int)))] (.cells 40 [.d (.i .i64 z.id),.d (.i .i64 z.dim),.d (aK z.b)]) 40 3 out.length (flt aN out) 75 3 y.2.length (flt eL y.2)) (λy=>z.b.length-y.1) (0,[]) ⟨Al _,rfl,rfl⟩ ?_ ?_
          ·simp only[Bq,hn,gr2];refine wkQ [1] ?_ ?_<;>simp[-O,upd,aO,Γ0,aE,aK,dY]
          ·rintro⟨j,l⟩ ⟨hj,hlj,hl⟩;simp only at hj hlj hl ⊢;by_cases hgo2:j<z.b.length
           ·have q2:(j:Int)<z.b.length:=by omega
            have hf:z.b[j]? = some z.b[j]:=Ab hgo2;have hw2:Ag.wrap ((j:Int)+1)=(j:Int)+1:=aV;have htk2:(z.b.take (j+1)).map (hJ a b)=l++[hJ a b z.b[j]]:=by rw[AM,hf,Bu,hl];rfl
            refine exE z.b[j] λf hfe=>?_
            rw[hfe]at hf htk2;have hef:eL f=[.i .i64 f.1,.b (decide (f.2<0)),aM (aU f.2.natAbs)]:=rfl;have hm1:(1:Nat)<=maxLen:=aS (by decide);have hll:(l++[hJ a b f]).length=j+1:=by rw[Ak,hlj];rfl
            by_cases h5:f.1=b
            ·have h5':((f.1==b):Bool)=true:=by simpa using h5
             have q3:(((b:Int)==(b:Int)):Bool)=true:=by simp
             have hrf:hJ a b f=(a,f.2):=by unfold hJ;rw[Ad h5]
             rcases hn2:l.length with _|k
             ·have e0:l=[]:=AE hn2;simp only[hn,gr2];simp[-O,-X,↓KW,aE,aK,q2,hf,hef,h5,h5',q3,hw2,hm1,aC,aA,aB,aF,aD,aG];obtain rfl:j=0:=by omega
              refine aI (τ:=Nat×Ch) (0+1,l++[hJ a b f]) ⟨hgo2,hll,htk2⟩ (AF hgo2 (AK _)) ?_;simp only[hll,hn,gr2];refine wkQ [1,4] ?_ ?_<;>simp[-O,upd,aO,Γ0,aE,aK,e0,cG,bE,hrf]
             ·have hbb:=cH (n:=k+1) (by omega);have hcl:=bJ dD l;rw[hn2]at hcl;have hal:=dB jW l;simp only[hn,gr2];simp[-O,-X,↓KW,aE,aK,q2,hf,hef,h5,h5',q3,hw2,hm1,hbb,hcl,hal,aS,aC,aA,aB,aF,aD,aG];obtain rfl:j=k+1:=by omega
              refine aI (τ:=Nat×Ch) (k+1+1,l++[hJ a b f]) ⟨hgo2,hll,htk2⟩ (AF hgo2 (AK _)) ?_;simp only[hll,hn,gr2];refine wkQ [1,5] ?_ ?_<;>simp[-O,upd,aO,Γ0,aE,aK,cX,cG,bE,hrf]
            ·have h5':((f.1==b):Bool)=false:=by simpa using h5
             have hrf:hJ a b f=f:=by unfold hJ;rw[Ac h5]
             rcases hn2:l.length with _|k
             ·have e0:l=[]:=AE hn2;simp only[hn,gr2];simp[-O,-X,↓KW,aE,aK,q2,hf,hef,h5,h5',hw2,hm1,aC,aA,aB,aF,aD,aG];obtain rfl:j=0:=by omega
              refine aI (τ:=Nat×Ch) (0+1,l++[hJ a b f]) ⟨hgo2,hll,htk2⟩ (AF hgo2 (AK _)) ?_;simp only[hll,hn,gr2];refine wkQ [1,4] ?_ ?_<;>simp[-O,upd,aO,Γ0,aE,aK,e0,cG,bE,hrf]
             ·have hbb:=cH (n:=k+1) (by omega);have hcl:=bJ dD l;rw[hn2]at hcl;have hal:=dB jW l;simp only[hn,gr2];simp[-O,-X,↓KW,aE,aK,q2,hf,hef,h5,h5',hw2,hm1,hbb,hcl,hal,aS,aC,aA,aB,aF,aD,aG];obtain rfl:j=k+1:=by omega
              refine aI (τ:=Nat×Ch) (k+1+1,l++[hJ a b f]) ⟨hgo2,hll,htk2⟩ (AF hgo2 (AK _)) ?_;simp only[hll,hn,gr2];refine wkQ [1,5] ?_ ?_<;>simp[-O,upd,aO,Γ0,aE,aK,cX,cG,bE,hrf]
           ·have q2:¬(j:Int)<z.b.length:=by omega
            rw[Ai (by omega)]at hl;have hM:=zA (l:=l) (e:=e) (by rw[<-hl];exact aPr hzb) (by rw[<-hl];exact aIv hzk ha) (by omega) he;have htk':nX (c.take (i+1)) a b=out++[⟨z.id,z.dim,cF [] l⟩]:=by rw[htk];unfold tG;rw[hl]
            have hcl1:=bJ aX out;have hal1:=dB eR out;rw[hn]at hcl1;refine exE (cF [] l) λr hr=>?_
            rw[hr]at hM htk';have hm1:(1:Nat)<=maxLen:=aS (by decide);rcases hn2:l.length with _|k
            ·have e0:l=[]:=AE hn2;rw[e0]at hM;simp only[hn,gr2];simp[-O,-X,↓KW,aE,aK,q2,aC,aA,aB];refine aJ hM ?_;have eo:out=[]:=AE hn;rw[eo]at htk';simp[-O,-X,↓KW,aE,aK,hm1,hm1,hw,aQ,aT,aC,aA,aB];refine aI (i+1,[⟨z.id,z.dim,r⟩]) ⟨hgo,htk'⟩ (slQ hgo) ?_;simp only[As,grS,cG,aR];refine wkQ [3] ?_ ?_<;>simp[-O,upd,aO,Γ0,aE,aK]
            ·have e1:=dI dD hn2;have e2:=cW (by decide) dD hn2;have e3:=bJ dD l;rw[hn2]at e3;simp only[hn,gr2];simp[-O,-X,↓KW,aE,aK,q2,aC,aA,aB];refine bK (ds:=[aK l]) (by simp[-O,-X,aK,upd,e1,e2,e3]) hM ?_;have eo:out=[]:=AE hn;rw[eo]at htk';simp[-O,-X,↓KW,aE,aK,e1,hm1,hw,aQ,aT,aC,aA,aB];refine aI (i+1,[⟨z.id,z.dim,r⟩]) ⟨hgo,htk'⟩ (slQ hgo) ?_;simp only[As,grS,cG,aR];refine wkQ [4] ?_ ?_<;>simp[-O,upd,aO,Γ0,aE,aK]
         ·simp only[hn,grS];simp[-O,-X,↓KW,aE,aK,q1,hx,hyc,h0,h0',hw,aC,aA,aB];refine aP (λy:Nat×Ch=>y.1<=z.b.length/\y.2.length=y.1/\(z.b.take y.1).map (hJ a b)=y.2) (λy=>gr2 13 16 [(0,.d (aE c)),(1,.d (.i .i64 a)),(2,.d (.i .i64 b)),(15,.ptr 1 0),(53,.d (aE c)),(54,.d (.i .i64 c.length)),(55,.d (.i .i64 (i:Int))),(64,.d (aK z.b)),(65,.d (.i .i64 z.b.length)),(66,.d (.i .i64 (y.1:Int)))] (.cells 40 [.d (.i .i64 z.id),.d (.i .i64 z.dim),.d (aK z.b)]) 40 3 out.length (flt aN out) 75 3 y.2.length (flt eL y.2)) (λy=>z.b.length-y.1) (0,[]) ⟨Al _,rfl,rfl⟩ ?_ ?_
          ·simp only[Bq,hn,gr2];refine wkQ [2,1] ?_ ?_<;>simp[-O,upd,aO,Γ0,aE,aK,dY]
          ·rintro⟨j,l⟩ ⟨hj,hlj,hl⟩;simp only at hj hlj hl ⊢;by_cases hgo2:j<z.b.length
           ·have q2:(j:Int)<z.b.length:=by omega
            have hf:z.b[j]? = some z.b[j]:=Ab hgo2;have hw2:Ag.wrap ((j:Int)+1)=(j:Int)+1:=aV;have htk2:(z.b.take (j+1)).map (hJ a b)=l++[hJ a b z.b[j]]:=by rw[AM,hf,Bu,hl];rfl
            refine exE z.b[j] λf hfe=>?_
            rw[hfe]at hf htk2;have hef:eL f=[.i .i64 f.1,.b (decide (f.2<0)),aM (aU f.2.natAbs)]:=rfl;have hm1:(1:Nat)<=maxLen:=aS (by decide);have hll:(l++[hJ a b f]).length=j+1:=by rw[Ak,hlj];rfl
            by_cases h5:f.1=b
            ·have h5':((f.1==b):Bool)=true:=by simpa using h5
             have q3:(((b:Int)==(b:Int)):Bool)=true:=by simp
             have hrf:hJ a b f=(a,f.2):=by unfold hJ;rw[Ad h5]
             rcases hn2:l.length with _|k
             ·have e0:l=[]:=AE hn2;simp only[hn,gr2];simp[-O,-X,↓KW,aE,aK,q2,hf,hef,h5,h5',q3,hw2,hm1,aC,aA,aB,aF,aD,aG];obtain rfl:j=0:=by omega
              refine aI (τ:=Nat×Ch) (0+1,l++[hJ a b f]) ⟨hgo2,hll,htk2⟩ (AF hgo2 (AK _)) ?_;simp only[hll,hn,gr2];refine wkQ [1,2,5] ?_ ?_<;>simp[-O,upd,aO,Γ0,aE,aK,e0,cG,bE,hrf]
             ·have hbb:=cH (n:=k+1) (by omega);have hcl:=bJ dD l;rw[hn2]at hcl;have hal:=dB jW l;simp only[hn,gr2];simp[-O,-X,↓KW,aE,aK,q2,hf,hef,h5,h5',q3,hw2,hm1,hbb,hcl,hal,aS,aC,aA,aB,aF,aD,aG];obtain rfl:j=k+1:=by omega
              refine aI (τ:=Nat×Ch) (k+1+1,l++[hJ a b f]) ⟨hgo2,hll,htk2⟩ (AF hgo2 (AK _)) ?_;simp only[hll,hn,gr2];refine wkQ [1,2,6] ?_ ?_<;>simp[-O,upd,aO,Γ0,aE,aK,cX,cG,bE,hrf]
            ·have h5':((f.1==b):Bool)=false:=by simpa using h5
             have hrf:hJ a b f=f:=by unfold hJ;rw[Ac h5]
             rcases hn2:l.length with _|k
             ·have e0:l=[]:=AE hn2;simp only[hn,gr2];simp[-O,-X,↓KW,aE,aK,q2,hf,hef,h5,h5',hw2,hm1,aC,aA,aB,aF,aD,aG];obtain rfl:j=0:=by omega
              refine aI (τ:=Nat×Ch) (0+1,l++[hJ a b f]) ⟨hgo2,hll,htk2⟩ (AF hgo2 (AK _)) ?_;simp only[hll,hn,gr2];refine wkQ [1,2,5] ?_ ?_<;>simp[-O,upd,aO,Γ0,aE,aK,e0,cG,bE,hrf]
             ·have hbb:=cH (n:=k+1) (by omega);have hcl:=bJ dD l;rw[hn2]at hcl;have hal:=dB jW l;simp only[hn,gr2];simp[-O,-X,↓KW,aE,aK,q2,hf,hef,h5,h5',hw2,hm1,hbb,hcl,hal,aS,aC,aA,aB,aF,aD,aG];obtain rfl:j=k+1:=by omega
              refine aI (τ:=Nat×Ch) (k+1+1,l++[hJ a b f]) ⟨hgo2,hll,htk2⟩ (AF hgo2 (AK _)) ?_;simp only[hll,hn,gr2];refine wkQ [1,2,6] ?_ ?_<;>simp[-O,upd,aO,Γ0,aE,aK,cX,cG,bE,hrf]
           ·have q2:¬(j:Int)<z.b.length:=by omega
            rw[Ai (by omega)]at hl;have hM:=zA (l:=l) (e:=e) (by rw[<-hl];exact aPr hzb) (by rw[<-hl];exact aIv hzk ha) (by omega) he;have htk':nX (c.take (i+1)) a b=out++[⟨z.id,z.dim,cF [] l⟩]:=by rw[htk];unfold tG;rw[hl]
            have hcl1:=bJ aX out;have hal1:=dB eR out;rw[hn]at hcl1;refine exE (cF [] l) λr hr=>?_
            rw[hr]at hM htk';have hm1:(1:Nat)<=maxLen:=aS (by decide);rcases hn2:l.length with _|k
            ·have e0:l=[]:=AE hn2;rw[e0]at hM;simp only[hn,gr2];simp[-O,-X,↓KW,aE,aK,q2,aC,aA,aB];refine aJ hM ?_;have hbb:=cH (n:=m+1) (by omega);simp[-O,-X,↓KW,aE,aK,hm1,hm1,hw,hbb,hcl1,hal1,aS,aQ,aT,aC,aA,aB];refine aI (i+1,out++[⟨z.id,z.dim,r⟩]) ⟨hgo,htk'⟩ (slQ hgo) ?_;simp only[Ak,hn,As,grS,cX,cG,aR];refine wkQ [4] ?_ ?_<;>simp[-O,upd,aO,Γ0,aE,aK]
            ·have e1:=dI dD hn2;have e2:=cW (by decide) dD hn2;have e3:=bJ dD l;rw[hn2]at e3;simp only[hn,gr2];simp[-O,-X,↓KW,aE,aK,q2,aC,aA,aB];refine bK (ds:=[aK l]) (by simp[-O,-X,aK,upd,e1,e2,e3]) hM ?_;have hbb:=cH (n:=m+1) (by omega);simp[-O,-X,↓KW,aE,aK,e1,hm1,hw,hbb,hcl1,hal1,aS,aQ,aT,aC,aA,aB];refine aI (i+1,out++[⟨z.id,z.dim,r⟩]) ⟨hgo,htk'⟩ (slQ hgo) ?_;simp only[Ak,hn,As,grS,cX,cG,aR];refine wkQ [5] ?_ ?_<;>simp[-O,upd,aO,Γ0,aE,aK]
       ·have q1:¬(i:Int)<c.length:=by omega
        rw[Ai (by omega)]at ho;have hSg:=yW a;have hMp:=pA c [(b,[(a,1)])] (aWh [(b,[(a,1)])]) rfl (aJx _) (by omega);rcases hn:out.length with _|m
        ·have e0:out=[]:=AE hn;have e1:out=[]:=e0;simp only[grS];simp[-O,-X,↓KW,aE,q1,cC,cI];refine aJ hSg ?_;simp[-O,-X,↓KW,aE,q1,cC,cI,dW,aQ,aT,aC,aA,aB];refine aJ hMp ?_;simp[-O,-X,↓KW,aE,q1,cC,cI,dW,e1,e0,aQ,aT,aC,aA,aB,cZ,cA,iU,eW,fU,h1,h2,h3,ho];rfl
        ·have e1:=dI aX hn;have e2:=cW (by decide) aX hn;have e3:=bJ aX out;rw[hn]at e3;simp only[grS];simp[-O,-X,↓KW,aE,q1,cC,cI];refine aJ hSg ?_;simp[-O,-X,↓KW,aE,q1,cC,cI,dW,aQ,aT,aC,aA,aB];refine aJ hMp ?_;simp[-O,-X,↓KW,aE,q1,cC,cI,dW,e1,hn,e2,e3,aQ,aT,aC,aA,aB,cZ,cA,iU,eW,fU,h1,h2,h3,ho];rfl
def aNm{g:List (Int×Ch)}:∀{c:List Cl} {y:Cl} {f:Int×Int},Inc c->y∈c->f.1=y.id->apP (eF c g) f=mulR f.2 ((mH g y.id).getD [(y.id,1)])
 |z::c,y,f,hi,hy,hf=>by
  obtain⟨h1,h2⟩:=Bk.1 hi;have hnone:∀{c:List Cl},(∀x∈c,x.id≠f.1)->apP (eF c g) f=[]:=by
   intro c hc;induction c with
   |nil=>rfl
   |cons u c ih =>
    show(if u.id=f.1 then _ else[])++apP (eF c g) f=[];rw[Ac (hc u (Av ..)),ih λx hx=>hc x (Au _ hx)];rfl
  show(if z.id=f.1 then mulR f.2 ((mH g z.id).getD [(z.id,1)])else[])++apP (eF c g) f=_;rcases AG.1 hy with rfl|hy
  ·rw[Ad hf.symm,hnone λx hx=>by have:=h1 x hx;omega,A7]
  ·rw[Ac (by have:=h1 y hy;omega),BN,aNm h2 hy hf]
def bAp{g:List (Int×Ch)}{c:List Cl}(hi:Inc c)(r:Int->Int)(hr:∀y∈c,(mH g y.id).getD [(y.id,1)]=[(r y.id,1)]):∀{x:Ch},(∀f∈x,∃y∈c,y.id=f.1)->apL (eF c g) x=x.map λf=>(r f.1,f.2)
 |[],_=>rfl
 |f::x,h=>by obtain⟨y,hy,he⟩:=h f (Av ..);show apP (eF c g) f++apL (eF c g) x=_;rw[aNm hi hy he.symm,hr y hy,bAp hi r hr λf hf=>h f (Au _ hf),he];simp[mulR]
def aEa(w:Int->Int)(r:Int->Int):∀l:Ch,bO w (l.map λf=>(r f.1,f.2))=bO (λn=>w (r n)) l
 |[]=>rfl
 |f::l=>by simp only[AZ,bO,aEa w r l]
def CxV.wcyc{c:List Cl}(h:CxV c){x:Cl}(hx:x∈c)(w:Int->Int):bO (λm=>bO w (Go.Am.bOf c m)) x.b=0:=by rw[<-pF];have h1:=h.bd0 hx;have h2:bO w (bdX c x.b)=bO w []+bO w (bdL c x.b):=mV w _ _;rw[h1]at h2;simp only[bO]at h2;omega
def dR(w:Int->Int)(l:Ch):bO w (cF [] l)=bO w l:=by rw[mV];simp[bO]
def rn(a b n:Int):Int:=if n=b then a else n
def aDb(a b:Int):hJ a b=λf=>(rn a b f.1,f.2):=by funext f;unfold hJ rn;split<;>rfl
structure aNs(c:List Cl)(a b:Int):Prop where
 ne:a≠b
 ina:∃x∈c,x.id=a
 inb:∃x∈c,x.id=b
 dim:dOf c a=dOf c b
 bd:bOf c a=bOf c b
section
variable {c:List Cl} {a b:Int}
def mE{z:Cl}:z∈nX c a b↔∃y∈c,y.id≠b/\z=tG a b y:=by
 unfold nX;rw[AA];constructor
 ·rintro⟨y,hy,rfl⟩;obtain⟨h1,h2⟩:=Bi.1 hy;exact⟨y,h1,by simpa using h2,rfl⟩
 ·rintro⟨y,h1,h2,rfl⟩;exact⟨y,Bi.2 ⟨h1,by simpa using h2⟩,rfl⟩
def aSe(h:Inc c):Inc (nX c a b):=by unfold nX Inc;rw[CN];exact Df _ h
def bMe(h:Inc c){x:Cl}(hx:x∈c):dOf c x.id=x.dim:=by unfold dOf;rw[h.find hx];rfl
def aSb(h:Inc c){y:Cl}(hy:y∈c)(hn:y.id≠b):bG (nX c a b) y.id=some (tG a b y):=(aSe h).find (x:=tG a b y) (mE.2 ⟨y,hy,hn,rfl⟩)
def bTf(h:Inc c){y:Cl}(hy:y∈c)(hn:y.id≠b):bOf (nX c a b) y.id=cF [] (y.b.map (hJ a b)):=by unfold bOf;rw[aSb h hy hn];rfl
def aNs.rep(t:aNs c a b)(h:CxV c){y:Cl}(hy:y∈c):∃z∈c,z.id≠b/\z.id=rn a b y.id/\z.dim=y.dim/\z.b=y.b:=by
 by_cases e:y.id=b
 ·obtain⟨z,hz,hza⟩:=t.ina;refine⟨z,hz,by rw[hza];exact t.ne,by unfold rn;rw[Ad e];exact hza,?_,?_⟩
  ·have:=t.dim;rw[<-hza,<-e,bMe h.inc hz,bMe h.inc hy]at this;exact this
  ·have:=t.bd;rw[<-hza,<-e,h.bOf hz,h.bOf hy]at this;exact this
 ·exact⟨y,hy,e,by unfold rn;rw[Ac e],rfl,rfl⟩
def aNs.bOf(t:aNs c a b)(h:CxV c){y:Cl}(hy:y∈c):Go.Am.bOf (nX c a b) (rn a b y.id)=cF [] (y.b.map (hJ a b)):=by obtain⟨z,hz,h1,h2,_,h4⟩:=t.rep h hy;rw[<-h2,bTf h.inc hz h1,h4]
def aNs.valid(t:aNs c a b)(h:CxV c):CxV (nX c a b):=by
 refine⟨aSe h.inc,λz hz=>?_,λz hz=>?_,λz hz f hf=>?_,λz hz n=>?_⟩
 ·obtain⟨y,hy,_,rfl⟩:=mE.1 hz;exact h.dim y hy
 ·obtain⟨y,hy,_,rfl⟩:=mE.1 hz;exact(cS _ [] Val.nil).1
 ·obtain⟨y,hy,_,rfl⟩:=mE.1 hz;obtain⟨h1,h2⟩:=cS (y.b.map (hJ a b)) [] Val.nil;have hf':f∈cF [] (y.b.map (hJ a b)):=hf;have e:=fJ h1 hf';rw[h2,gX,CD]at e;have hne:cf f.1 (y.b.map (hJ a b))≠0:=by rw[e];exact h1.2 f hf'
  obtain⟨g,hg,he⟩:∃g∈y.b,(hJ a b g).1=f.1:=A9 λhn=>hne (nO λx hx e=>by
   obtain⟨g,hg,rfl⟩:=AA.1 hx;exact hn ⟨g,hg,e⟩)
  obtain⟨u,hu,e1,e2⟩:=h.face y hy g hg;obtain⟨z,hz',k1,k2,k3,_⟩:=t.rep h hu;refine⟨tG a b z,mE.2 ⟨z,hz',k1,rfl⟩,?_,?_⟩
  ·show z.id=f.1;rw[k2,e1,<-he,aDb]
  ·show z.dim=y.dim-1;rw[k3,e2]
 ·obtain⟨y,hy,_,rfl⟩:=mE.1 hz;show bO (λm=>cf n (Go.Am.bOf (nX c a b) m)) (cF [] (y.b.map (hJ a b)))=0;rw[dR,aDb,aEa];refine F7 (eB λf hf=>?_) (h.wcyc hy λk=>if n=rn a b k then 1 else 0);obtain⟨u,hu,e1,_⟩:=h.face y hy f hf;rw[<-e1,t.bOf h hu,h.bOf hu,nN,dR,aDb,aEa]
def aSm(a b n:Int):(mH [(b,[(a,1)])] n).getD [(n,1)]=[(rn a b n,1)]:=by
 unfold mH rn;by_cases e:n=b
 ·rw[Ad e];simp[e]
 ·rw[Ac e];have:¬b=n:=λh=>e h.symm
  simp[this]
def aNs.comm(t:aNs c a b)(h:CxV c):CmT c (nX c a b) (eF c [(b,[(a,1)])]):=by
 have hget:∀(i:Nat) x p,c[i]? = some x->(eF c [(b,[(a,1)])])[i]? = some p->p=(x.id,[(rn a b x.id,1)]):=λi x p hx hp=>by
  unfold eF at hp;rw[Aw,hx]at hp;injection hp with hp
  simp only[aSm]at hp;exact hp.symm
 refine⟨by simp[eF],λi x p hx hp=>by rw[hget i x p hx hp],λi x p hx hp f hf=>?_,λi x p hx hp=>?_⟩
 ·rw[hget i x p hx hp]at hf;have hf':f=(rn a b x.id,1):=by simpa using hf
  subst hf';obtain⟨z,hz,h1,h2,h3,_⟩:=t.rep h (Aq hx);exact⟨tG a b z,by rw[<-h2];exact aSb h.inc hz h1,h3⟩
 ·have hxc:=Aq hx;rw[hget i x p hx hp];obtain⟨z,hz,h1,h2,_,h4⟩:=t.rep h hxc;have e1:bdX (nX c a b) [(rn a b x.id,1)]=cF [] (x.b.map (hJ a b)):=by have:=bNi (t.valid h) (y:=tG a b z) (mE.2 ⟨z,hz,h1,rfl⟩);rw[<-h2];refine F7 this ?_;show cF [] (z.b.map (hJ a b))=_;rw[h4]
  rw[e1];unfold apX;rw[bAp h.inc (rn a b) (λy _=>aSm a b y.id) (λf hf=>let ⟨y,hy,e,_⟩:=h.face x hxc f hf;⟨y,hy,e⟩),aDb]
end
end Go.Am
end
section
open List renaming map_map->O,mapM_map->X
namespace Go.Am
open RowKit (Below)
section
variable {P:Program} {G:Ctx} {N:Nat} {ds:List Deferred}
end
def vL{hs:List HO}{rs:List Nat}{a id:Nat}(hid:(qA 1 hs id).isSome=true)(hl:hs.length<=rs.length)(h:a ∉ rs):aEr rs id≠a:=by
 rw[uU]at hid;cases id with
 |zero=>simp at hid
 |succ i =>
  rw[Ad (by omega),Ba]at hid;have hi:i<rs.length:=by
   rcases Bf i hs.length with h'|h'
   ·omega
   ·rw[AW h']at hid;cases hid
  show rs.getD i 0≠a;rw[aDp hi];exact λe=>h (e ▸ Ar hi)
end Go.Am
end
section
open List renaming map_map->O,mapM_map->X
open Go Go.Am Go.Proofs
namespace Go.Am
section
variable {c:List Cl} {x:Cl} {N:Int}
end
def iR{α:Type}(f:α->List D)(l:List α):((l.map f).map (AQ AV.d)).flatten=(flt f l).map AV.d:=by unfold flt;rw[DB]
def nB(m:List (Int×Ch)):aO (dJ m)=.d (dJ m):=rfl
end Go.Am
end
section
open List renaming map_map->O,mapM_map->X
namespace Go.Am
def enA{β:Type}(g:β->AV)(m:List (Int×β)):List (Int×AV):=m.map λp=>(p.1,g p.2)
def alk{β:Type}:List (Int×β)->Int->Option β
 |[],_=>none
 |p::m,n=>if p.1=n then some p.2 else alk m n
def apt{β:Type}:List (Int×β)->Int->β->List (Int×β)
 |[],n,v=>[(n,v)]
 |p::m,n,v=>if p.1=n then(n,v)::m else p::apt m n v
def vV{β:Type}(g:β->AV)(n:Int):∀m:List (Int×β),rI (enA g m) n=(alk m n).map g
 |[]=>rfl
 |p::m=>by
  have ih:=vV g n m;unfold rI at ih ⊢;simp only[enA,AZ,iP,alk]at ih ⊢;by_cases h:p.1=n
  ·simp[h]
  ·rw[Ac h,Ac h,<-ih];cases iP n (m.map λp=>(p.1,g p.2))<;>rfl
def aFl{β:Type}(g:β->AV)(n:Int)(v:β):∀m:List (Int×β),sD (enA g m) n (g v)=enA g (apt m n v)
 |[]=>rfl
 |p::m=>by
  have ih:=aFl g n v m;unfold sD at ih ⊢;simp only[enA,AZ,iP,apt]at ih ⊢;by_cases h:p.1=n
  ·simp[h]
  ·rw[Ac h,Ac h,AZ,<-ih];cases iP n (m.map λp=>(p.1,g p.2))<;>rfl
def aDw{β:Type}(n k:Int)(v:β):∀m:List (Int×β),alk (apt m n v) k=if k=n then some v else alk m k
 |[]=>by
  simp only[apt,alk];by_cases h:k=n
  ·rw[Ad h,Ad h.symm]
  ·rw[Ac h,Ac (Ne.symm h)]
 |p::m=>by
  have ih:=aDw n k v m;simp only[apt,alk];by_cases h:p.1=n
  ·rw[Ad h];simp only[alk];by_cases hk:k=n
   ·rw[Ad hk.symm,Ad hk]
   ·rw[Ac (Ne.symm hk),Ac hk,Ac (by omega)]
  ·rw[Ac h];simp only[alk,ih];by_cases hp:p.1=k
   ·rw[Ad hp,Ad hp,Ac (by omega)]
   ·rw[Ac hp,Ac hp]
def aTi{β:Type}(n:Int)(v:β):∀(m:List (Int×β)) (k:Int),k∈(apt m n v).map (·.1)↔k∈m.map (·.1)\/k=n
 |[],k=>by simp[apt]
 |p::m,k=>by
  have ih:=aTi n v m k;simp only[apt];split
  ·rename_i h;simp only[AZ,AG];constructor
   ·rintro(h1|h1)
    ·exact .inr h1
    ·exact .inl (.inr h1)
   ·rintro((h1|h1)|h1)
    ·exact .inl (by omega)
    ·exact .inr h1
    ·exact .inl h1
  ·simp only[AZ,AG,ih];constructor
   ·rintro(h1|h1|h1)
    ·exact .inl (.inl h1)
    ·exact .inl (.inr h1)
    ·exact .inr h1
   ·rintro((h1|h1)|h1)
    ·exact .inl h1
    ·exact .inr (.inl h1)
    ·exact .inr (.inr h1)
def aKw{β:Type}(n:Int)(v:β):∀{m:List (Int×β)},(m.map (·.1)).Nodup->((apt m n v).map (·.1)).Nodup
 |[],_=>by simp[apt]
 |p::m,h=>by
  simp only[AZ,DK]at h;simp only[apt];split
  ·rename_i e;simp only[AZ,DK];exact⟨by rw[<-e];exact h.1,h.2⟩
  ·rename_i e;simp only[AZ,DK];refine⟨λhm=>?_,aKw n v h.2⟩;rcases(aTi n v m p.1).1 hm with h1|h1
   ·exact h.1 h1
   ·exact e h1
def aNn{β:Type}{n:Int}{v:β}:∀{m:List (Int×β)},(m.map (·.1)).Nodup->(alk m n=some v↔(n,v)∈m)
 |[],_=>by simp[alk]
 |p::m,h=>by
  simp only[AZ,DK]at h;have ih:=aNn (n:=n) (v:=v) h.2;simp only[alk,AG];by_cases e:p.1=n
  ·rw[Ad e];constructor
   ·intro h1;injection h1 with h1;exact .inl (by rw[<-e,<-h1])
   ·rintro(h1|h1)
    ·rw[<-h1]
    ·exact absurd (AA.2 ⟨_,h1,rfl⟩) (by rw[e]at h;exact h.1)
  ·rw[Ac e,ih];constructor
   ·exact .inr
   ·rintro(h1|h1)
    ·rw[<-h1]at e;exact absurd rfl e
    ·exact h1
def aPb{β:Type}{g:β->D}{H H':Hp}{ρ:Nat->Nat}{m m':List (Int×β)}(h:m=m'):nC H H' ρ (.map .i64 (enA (λv=>.d (g v)) m)) (.map .i64 (enA (λv=>.d (g v)) m')):=by
 subst h;refine aEl λx hx=>?_
 obtain⟨p,_,rfl⟩:=AA.1 hx;exact bVm _
def yC{β:Type}{g:β->D}{H H':Hp}{ρ:Nat->Nat}(m:List (Int×β)):nC H H' ρ (.map .i64 (enA (λv=>.d (g v)) m)) (.map .i64 (enA (λv=>.d (g v)) m))↔True:=⟨λ_=>trivial,λ_=>aPb rfl⟩
def aEp{β:Type}(l:List Nat)(g:β->D)(m:List (Int×β)):fG l (.map .i64 (enA (λv=>.d (g v)) m))=.map .i64 (enA (λv=>.d (g v)) m):=by simp only[fG,enA,CC];congr 1
def bTj{β:Type}(g:β->D)(H:Hp)(n id:Nat)(m:List (Int×β))(h:H id=some (.map .i64 (enA (λv=>.d (g v)) m))):frz H (n+2) (.mp id)=some (.mp .i64 (m.map (·.1)) (m.map λp=>g p.2)):=by
 have e:∀m:List (Int×β),((enA (λv=>AV.d (g v)) m).map (·.2)).mapM (frz H (n+1))=some (m.map λp=>g p.2):=λm=>by
  induction m with
  |nil=>rfl
  |cons p m ih =>
   show(((enA (λv=>AV.d (g v)) (p::m)).map (·.2)).mapM (frz H (n+1)))=_;simp only[enA,AZ,List.mapM_cons]at ih ⊢;rw[ih];rfl
 have e2:frz H (n+1+1) (.mp id)=match H id with
   |some (.map k es)=>((es.map λx:Int×AV=>x.2).mapM (frz H (n+1))).map (D.mp k (es.map λx:Int×AV=>x.1))
   |_=>none:=rfl
 rw[show n+2=n+1+1 from rfl,e2,h];simp only[e,A4];simp[enA]
def bKv{β:Type}(g:β->D)(hg:∀v,aO (g v)=.d (g v))(m:List (Int×β)):aId (m.map (·.1)) (m.map λp=>g p.2)=enA (λv=>.d (g v)) m:=by
 unfold aId enA;induction m with
 |nil=>rfl
 |cons p m ih=>simp only[AZ,Ey,ih,hg]
end Go.Am
end
section
open List renaming map_map->O,mapM_map->X
open Go Go.Am Go.Proofs
namespace Go.Am
def bXh:gQ Aa 211:=aEt Tryz.func211 (by kernel_rfl) rfl rfl rfl
def xA(p:Int×Int):List D:=[.i .i64 p.1,.i .i64 p.2]
def fR(l:List (Int×Int)):D:=.sl (l.map xA)
def lP(x:Int×Int):(xA x).length=2:=rfl
def aKh(x:Int×Int):((xA x).map AV.d).all one=true:=rfl
def aGo(x:Int×Int):xA x=[.i .i64 x.1,.i .i64 x.2]:=rfl
def aIe(m:List (Int×Int))(n:Int):List (Int×Int):=apt m n ((alk m n).getD 0+1)
def lW(l:Ch)(m:List (Int×Int)):List (Int×Int):=l.foldl (λm f=>aIe m f.1) m
def tT(c:List Cl):List (Int×Int):=c.foldl (λm x=>lW x.b m) []
def sR(n:Int)(l:Ch):Nat:=l.countP λf=>decide (f.1=n)
def pZ(n:Int):List Cl->Nat
 |[]=>0
 |x::c=>sR n x.b+pZ n c
def aXk(m:List (Int×Int))(k:Int->Nat):Prop:=(m.map (·.1)).Nodup/\∀n,(alk m n).getD 0=(k n:Int)
def bTe{m:List (Int×Int)}{k:Int->Nat}(h:aXk m k)(n:Int):aXk (aIe m n) λq=>k q+if q=n then 1 else 0:=by
 refine⟨aKw _ _ h.1,λq=>?_⟩;unfold aIe;rw[aDw];by_cases e:q=n
 ·subst e;simp[h.2 q]
 ·simp[e,h.2 q]
def aOr:∀(l:Ch) {m:List (Int×Int)} {k:Int->Nat},aXk m k->aXk (lW l m) λq=>k q+sR q l
 |[],m,k,h=>by simpa[lW,sR]using h
 |f::l,m,k,h=>by
  have:=aOr l (bTe h f.1);refine⟨this.1,λq=>?_⟩;show(alk (lW l (aIe m f.1)) q).getD 0=_;rw[this.2 q];simp only[sR,List.countP_cons];by_cases e:q=f.1
  ·rw[Ad e,Ad (by simp[e])];omega
  ·have:¬f.1=q:=λh=>e h.symm
   simp[e,this]
def bFn(c:List Cl):aXk (tT c) λq=>pZ q c:=by
 suffices ∀(c:List Cl) (m:List (Int×Int)) (k:Int->Nat),aXk m k->aXk (c.foldl (λm x=>lW x.b m) m) λq=>k q+pZ q c by have:=this c [] (λ_=>0) ⟨by simp,λn=>rfl⟩;simpa[tT]using this
 intro c;induction c with
 |nil=>intro m k h;simpa[pZ]using h
 |cons x c ih =>
  intro m k h;have:=ih _ _ (aOr x.b h);refine⟨this.1,λq=>?_⟩;show(alk (c.foldl (λm x=>lW x.b m) (lW x.b m)) q).getD 0=_;rw[this.2 q];simp only[pZ];omega
def aUd{c:List Cl}{i:Nat}(h:i<c.length):tT (c.take (i+1))=lW c[i].b (tT (c.take i)):=by unfold tT;rw[AM,Ab h,Dl];rfl
def aUc{l:Ch}{i:Nat}(h:i<l.length)(m:List (Int×Int)):lW (l.take (i+1)) m=aIe (lW (l.take i) m) l[i].1:=by unfold lW;rw[AM,Ab h,Dl];rfl
def wT{l:Ch}{m:List (Int×Int)}{B:Int}(h:∀n,0<=(alk m n).getD 0/\(alk m n).getD 0<=B):∀n,0<=(alk (lW l m) n).getD 0/\(alk (lW l m) n).getD 0<=B+l.length:=by
 induction l generalizing m B with
 |nil=>intro n;have:=h n;simp only[lW,List.foldl_nil,Bq];omega
 |cons f l ih =>
  intro n;have:=ih (m:=aIe m f.1) (B:=B+1) (λq=>by
   unfold aIe;rw[aDw];have h1:=h q;have h2:=h f.1;split
   ·simp only[Bd];omega
   ·omega) n
  show 0<=(alk (lW l (aIe m f.1)) n).getD 0/\(alk (lW l (aIe m f.1)) n).getD 0<=_;simp only[AH];omega
def tM(c:List Cl)(f:Int×Int):Bool:=decide (pZ f.1 c=1)&&decide (f.2.natAbs=1)
def lE(c:List Cl)(x:Cl):List (Int×Int):=if 0<pZ x.id c then[]else(x.b.filter (tM c)).map λf=>(x.id,f.1)
def jM(c:List Cl):List (Int×Int):=c.flatMap (lE c)
def iD(v:Int):D:=.i .i64 v
def bD(v:Bool):D:=.b v
def usE(m:List (Int×Int)):List (Int×AV):=enA (λv=>.d (iD v)) m
def onE(m:List (Int×Bool)):List (Int×AV):=enA (λv=>.d (bD v)) m
def bRf:([]:List (Int×AV))=onE []:=rfl
def bCy(m:List (Int×Int))(n:Int):rI (usE m) n=(alk m n).map λv=>.d (.i .i64 v):=vV _ _ _
def bCz(m:List (Int×Bool))(n:Int):rI (onE m) n=(alk m n).map λv=>.d (.b v):=vV _ _ _
def bJe(m:List (Int×Int))(n v:Int):sD (usE m) n (.d (.i .i64 v))=usE (apt m n v):=aFl (λv=>AV.d (iD v)) _ _ _
def aRl(m:List (Int×Bool))(n:Int)(v:Bool):sD (onE m) n (.d (.b v))=onE (apt m n v):=aFl (λv=>AV.d (bD v)) _ _ _
def yB{H H':Hp}{ρ:Nat->Nat}(m:List (Int×Int)):nC H H' ρ (.map .i64 (usE m)) (.map .i64 (usE m))↔True:=yC _
def gK{H H':Hp}{ρ:Nat->Nat}(m:List (Int×Bool)):nC H H' ρ (.map .i64 (onE m)) (.map .i64 (onE m))↔True:=yC _
def mX(l:List Nat)(m:List (Int×Int)):fG l (.map .i64 (usE m))=.map .i64 (usE m):=aEp _ _ _
def gF(l:List Nat)(m:List (Int×Bool)):fG l (.map .i64 (onE m))=.map .i64 (onE m):=aEp _ _ _
def cBs(H:Hp)(id:Nat)(m:List (Int×Int))(n:Int)(h:H id=some (.map .i64 (usE m))):pK Aa H 259 (.mp id) (.d (.i .i64 n)) false=some (.d (.i .i64 ((alk m n).getD 0))):=by
 have h1:tmp Aa 259=some (3,3):=by kernel_rfl
 have h2:jJ Aa 3=some .i64:=by kernel_rfl
 have h3:tz Aa 3=some (.int .i64 0):=by kernel_rfl
 rw[cC,h];simp only[bCy];cases alk m n<;>simp[h1,h2,h3,cv,cv1]
def cBt(H:Hp)(id:Nat)(m:List (Int×Bool))(n:Int)(h:H id=some (.map .i64 (onE m))):pK Aa H 260 (.mp id) (.d (.i .i64 n)) false=some (.d (.b ((alk m n).getD false))):=by
 have h1:tmp Aa 260=some (3,4):=by kernel_rfl
 have h2:jJ Aa 3=some .i64:=by kernel_rfl
 have h3:tz Aa 4=some (.bool false):=by kernel_rfl
 rw[cC,h];simp only[bCz];cases alk m n<;>simp[h1,h2,h3,cv,cv1]
def usD(m:List (Int×Int)):D:=.mp .i64 (m.map (·.1)) (m.map λp=>iD p.2)
def bYk(H:Hp)(m:List (Int×Int))(n:Int):pK Aa H 259 (.d (usD m)) (.d (.i .i64 n)) false=some (.d (.i .i64 ((alk m n).getD 0))):=by
 have h1:tmp Aa 259=some (3,3):=by kernel_rfl
 have h2:jJ Aa 3=some .i64:=by kernel_rfl
 have h3:tz Aa 3=some (.int .i64 0):=by kernel_rfl
 have e:pK Aa H 259 (.d (usD m)) (.d (.i .i64 n)) false=aCe Aa 259 .i64 (aId (m.map (·.1)) (m.map λp=>iD p.2)) (.d (.i .i64 n)) false:=rfl;rw[e,bKv iD λ_=>rfl];simp only[aCe,vV];cases alk m n<;>simp[h1,h2,h3,cv,cv1,iD]
def usI(m:List (Int×Int)):List (Int×D):=m.map λp=>(p.1,iD p.2)
def bCq(m:List (Int×Int))(J:Nat->AV)(n:Nat)(x:Operand)(h:oev J x=.d (usD m)):nev Aa (.range 259 x) J n=some (.ptr n 0,some (.iter .i64 none (usI m))):=by
 have h1:tmp Aa 259=some (3,3):=by kernel_rfl
 have e:∀m:List (Int×Int),(m.map (·.1)).zip (m.map λp=>iD p.2)=usI m:=λm=>by
  induction m with
  |nil=>rfl
  |cons p m ih=>simp only[AZ,Ey,ih,usI]
 simp only[nev,h1,h,usD,Option.bind_some,e]
def aGi{α:Type}:∀{l:List α} {j:Nat} {e:α},l[j]? = some e->l.Perm (e::l.eraseIdx j)
 |[],j,e,h=>by simp at h
 |x::l,0,e,h=>by simp at h;subst h;exact List.Perm.refl _
 |x::l,j+1,e,h=>by have:=aGi (l:=l) (j:=j) (e:=e) (by simpa using h);exact(List.Perm.cons x this).trans (List.Perm.swap e x _)
def bSt(H:Hp)(id:Nat):itA H (.ptr id 0)=match H id with
  |some (.iter k _ es)=>some (id,k,es)
  |_=>none:=rfl
def aSu(H:Hp)(id:Nat):bLw H (.ptr id 0)=match H id with
  |some (.iter k (some e) _)=>some (.tp [.d (.i k e.1),aO e.2])
  |_=>none:=rfl
def aAn{H H':Hp}{ρ:Nat->Nat}(k k':IntKind)(l l':Option (Int×D))(es es':List (Int×D)):nC H H' ρ (.iter k l es) (.iter k' l' es')↔(k=k'/\l=l'/\es=es'):=Iff.rfl
def aBx(s:List Nat)(k:IntKind)(l:Option (Int×D))(es:List (Int×D)):fG s (.iter k l es)=.iter k l es:=rfl
def aXz{m:List (Int×Int)}{e:Int×D}(h:e∈usI m):∃n v,e=(n,iD v)/\(n,v)∈m:=by obtain⟨p,hp,rfl⟩:=AA.1 h;exact⟨p.1,p.2,rfl,hp⟩
def bLb{a b:Int}(h:iD a=iD b):a=b:=by injection h
def aZo(v:Int):aO (iD v)=.d (.i .i64 v):=rfl
def aNv(m:List (Int×Int))(rest:List (Int×D))(once:List (Int×Bool)):Prop:=∃done,(done++rest).Perm (usI m)/\∀n,(alk once n).getD false=true↔(n,iD 1)∈done
def aNv.step{m:List (Int×Int)}{rest:List (Int×D)}{once:List (Int×Bool)}(h:aNv m rest once){j:Nat}{n v:Int}(he:rest[j]? = some (n,iD v)):aNv m (rest.eraseIdx j) (if v=1 then apt once n true else once):=by
 obtain⟨done,h1,h2⟩:=h;refine⟨done++[(n,iD v)],?_,λq=>?_⟩
 ·rw[Bh];exact((List.Perm.append_left done (aGi he)).symm).trans h1
 ·rw[A5,AT,ED];by_cases hv:v=1
  ·rw[Ad hv,aDw];by_cases hq:q=n
   ·subst hq;subst hv;simp
   ·rw[Ac hq,h2];simp[hq]
  ·rw[Ac hv,h2];constructor
   ·exact .inl
   ·rintro(h|⟨_,h⟩)
    ·exact h
    ·exact absurd (bLb h).symm hv
def aNv.fin{m:List (Int×Int)}{once:List (Int×Bool)}(hnd:(m.map (·.1)).Nodup)(h:aNv m [] once)(n:Int):(alk once n).getD false=true↔(alk m n).getD 0=1:=by
 obtain⟨done,h1,h2⟩:=h;rw[A7]at h1;rw[h2,h1.mem_iff];constructor
 ·intro h;obtain⟨a,v,e,hm⟩:=aXz h;injection e with e1 e2
  rw[<-bLb e2,<-e1]at hm;rw[(aNn hnd).2 hm];rfl
 ·intro h;cases hk:alk m n with
  |none=>rw[hk]at h;simp at h
  |some v =>
   rw[hk]at h;have hv:v=1:=h;subst hv;exact AA.2 ⟨(n,1),(aNn hnd).1 hk,rfl⟩
def aNv.nil(m:List (Int×Int)):aNv m (usI m) []:=⟨[],by simp,λn=>by simp[alk]⟩
def sM(t:Nat)(sl:List (Nat×AV))(mb:HO)(e:TypeId)(sz n:Nat)(cells:List D):St:=match n with
 |0=>StL ((t,.nil)::sl) none [mb]
 |n+1=>StL ((t,.own 2 0 (n+1) sz)::sl) none [mb,.cells e (cells.map .d)]
def aMv(t:Nat)(sl:List (Nat×AV))(mb xb:HO)(e:TypeId)(sz n:Nat)(cells:List D):St:=match n with
 |0=>StL ((t,.nil)::sl) none [mb,xb]
 |n+1=>StL ((t,.own 3 0 (n+1) sz)::sl) none [mb,xb,.cells e (cells.map .d)]
def aVz{c d:List Cl}{i:Nat}(h:i<c.length):(c.take (i+1)).flatMap (lE d)=(c.take i).flatMap (lE d)++lE d c[i]:=by rw[AM,Ab h,List.flatMap_append];simp
def bDr{c:List Cl}{l:Ch}{i:Nat}(n:Int)(h:i<l.length):((l.take (i+1)).filter (tM c)).map (λf=>(n,f.1))=((l.take i).filter (tM c)).map (λf=>(n,f.1))++if tM c l[i]then[(n,l[i].1)]else[]:=by rw[AM,Ab h,BQ,Bu];congr 1;by_cases e:tM c l[i]=true<;>simp[e]
def bYh{c:List Cl}{e:Nat}(hz:SzX e c)(he:e+14<4398046511104):Spec Aa 208 [aE c] (fR (jM c)):=by
 have hlen:=hz.len;refine qP (N:=90) Tryz.func208 bXh ?_;simp[-O,-X,↓KW,aE];refine aVo (λi:Nat=>i<=c.length/\∀n,0<=(alk (tT (c.take i)) n).getD 0/\(alk (tT (c.take i)) n).getD 0<=100*i) (λi=>StL [(0,.d (aE c)),(3,.mp 1),(17,.d (aE c)),(18,.d (.i .i64 c.length)),(19,.d (.i .i64 (i:Int)))] none [.map .i64 (usE (tT (c.take i)))]) (λi=>c.length-i) 0 ⟨Al _,λn=>by simp[tT,alk]⟩ ?_ ?_
 ·refine wkQ [1] ?_ ?_
  ·simp[-O,upd,aO,Γ0,aE]
  ·exact⟨⟨_,by simp[upd];rfl,aPb rfl⟩,trivial⟩
 ·rintro i ⟨hi,hub⟩;by_cases hgo:i<c.length
  ·have q1:(i:Int)<c.length:=by omega
   have hx:c[i]? = some c[i]:=Ab hgo;have hw:Ag.wrap ((i:Int)+1)=(i:Int)+1:=aV;have htk:=aUd hgo;have hxl:=hz.bl _ (Ar hgo);refine exE c[i] λx hxe=>?_
   rw[hxe]at hx htk hxl;refine exE (tT (c.take i)) λm hme=>?_
   rw[hme]at htk;simp only[hme]at hub ⊢;have hyc:aN x=[D.i .i64 x.id,.i .i64 x.dim,aK x.b]:=rfl;simp[-O,-X,↓KW,aE,aK,q1,hx,hyc,aC,aA,aB,mX];refine aP (λj:Nat=>j<=x.b.length) (λj=>StL [(0,.d (aE c)),(3,.mp 1),(17,.d (aE c)),(18,.d (.i .i64 c.length)),(19,.d (.i .i64 (i:Int))),(24,.d (aK x.b)),(25,.d (.i .i64 x.b.length)),(26,.d (.i .i64 (j:Int)))] none [.map .i64 (usE (lW (x.b.take j) m))]) (λj=>x.b.length-j) 0 (Al _) ?_ ?_
   ·refine wkQ [1] ?_ ?_<;>simp[-O,upd,aO,Γ0,aE,aK,mX,yB,lW]
   ·intro j hj;by_cases hgo2:j<x.b.length
    ·have q2:(j:Int)<x.b.length:=by omega
     have hf:x.b[j]? = some x.b[j]:=Ab hgo2;have hw2:Ag.wrap ((j:Int)+1)=(j:Int)+1:=aV;have htk2:=aUc hgo2 m;have hb2:=wT (l:=x.b.take j) hub;rw[Ax]at hb2;refine exE x.b[j] λf hfe=>?_
     rw[hfe]at hf htk2;refine(show ∃m',lW (x.b.take j) m=m' from⟨_,rfl⟩).elim λm' hme'=>?_
     rw[hme']at htk2 hb2;simp only[hme'];have hb3:=hb2 f.1;have hlk:∀H:Hp,H 1=some (.map .i64 (usE m'))->pK Aa H 259 (.mp 1) (.d (.i .i64 f.1)) false=some (.d (.i .i64 ((alk m' f.1).getD 0))):=λH h=>cBs H 1 m' f.1 h
     have hinc:apt m' f.1 ((alk m' f.1).getD 0+1)=aIe m' f.1:=rfl;refine exE ((alk m' f.1).getD 0) λv hve=>?_
     rw[hve]at hlk hinc hb3;have hw3:Ag.wrap (v+1)=v+1:=aV;simp[-O,-X,↓KW,aE,aK,bE,q2,hf,hlk,hw3,hw2,cI,bJe,hinc,mX,aF,aD,aG];refine aI (j+1) hgo2 (AF hgo2 (AK _)) (wkQ [1] ?_ ?_)<;>simp[-O,upd,aO,Γ0,aE,aK,mX,yB,htk2]
    ·have q2:¬(j:Int)<x.b.length:=by omega
     have hb2:=wT (l:=x.b) hub;rw[Ai (by omega)];simp[-O,-X,↓KW,aE,aK,q2,hw];refine aI (i+1) ⟨hgo,λn=>?_⟩ (slQ hgo) (wkQ [1] ?_ ?_)
     ·rw[htk];have:=hb2 n;omega
     ·simp[-O,upd,aO,Γ0,aE,aK,mX,yB,htk]
     ·simp[-O,upd,aO,Γ0,aE,aK,mX,yB,htk]
  ·have q1:¬(i:Int)<c.length:=by omega
   rw[Ai (by omega)]at hub ⊢;obtain⟨hnd,hcnt⟩:=bFn c;refine exE (tT c) λm hme=>?_
   rw[hme]at hub hnd hcnt ⊢;simp[-O,-X,↓KW,aE,q1];refine bZb (StL [(0,.d (aE c)),(3,.d (usD m))] none []) (wkQ [] ?_ ?_) ?_
   ·simp[-O,upd,aO,Γ0,aE];exact qE (bTj iD _ 6 1 m rfl) (λa _ id h=>by simp[qA]at h)
   ·trivial
   ·simp[-O,-X,↓KW,aE,↓bIn,bCq m,bRf];refine aP (λy:Option (Int×D)×List (Int×D)×List (Int×Bool)=>aNv m y.2.1 y.2.2) (λy=>StL [(0,.d (aE c)),(3,.d (usD m)),(8,.mp 1),(39,.ptr 2 0)] none [.map .i64 (onE y.2.2),.iter .i64 y.1 y.2.1]) (λy=>y.2.1.length) (none,usI m,[]) (aNv.nil m) ?_ ?_
    ·refine wkQ [1,2] ?_ ?_<;>simp[-O,upd,aO,Γ0,aE,gK,aAn]
    ·rintro⟨last,rest,once⟩ hok;simp only at hok ⊢;simp[-O,-X,↓KW,aE,↓bRj,bSt];refine aRj (λhe=>?_) (λj ⟨n,w⟩ he=>?_)
     ·subst he;have hfin:=hok.fin hnd;simp[-O,-X,↓KW,aE];refine aP (λy:Nat×List (Int×Int)=>y.1<=c.length/\y.2.length<=100*y.1/\(c.take y.1).flatMap (lE c)=y.2) (λy=>sM 11 [(0,.d (aE c)),(3,.d (usD m)),(8,.mp 1),(49,.d (aE c)),(50,.d (.i .i64 c.length)),(51,.d (.i .i64 (y.1:Int)))] (.map .i64 (onE once)) 41 2 y.2.length (flt xA y.2)) (λy=>c.length-y.1) (0,[]) ⟨Al _,Al _,rfl⟩ ?_ ?_
      ·simp only[Bq,sM];refine wkQ [1] ?_ ?_<;>simp[-O,upd,aO,Γ0,aE,gK,dY]
      ·clear hi hgo q1 i hub;rintro⟨i,l⟩ ⟨hi,hll,hl⟩;simp only at hi hll hl ⊢;by_cases hgo:i<c.length
       ·have q1:(i:Int)<c.length:=by omega
        have hx:c[i]? = some c[i]:=Ab hgo;have hw:Ag.wrap ((i:Int)+1)=(i:Int)+1:=aV;have htk:=aVz (d:=c) hgo;rw[hl]at htk;have hxl:=hz.bl _ (Ar hgo);have hxb:=hz.bb _ (Ar hgo);refine exE c[i] λx hxe=>?_
        rw[hxe]at hx htk hxl hxb;have hyc:aN x=[D.i .i64 x.id,.i .i64 x.dim,aK x.b]:=rfl;have hlu:∀H:Hp,pK Aa H 259 (.d (usD m)) (.d (.i .i64 x.id)) false=some (.d (.i .i64 ((pZ x.id c:Nat):Int))):=λH=>by rw[bYk H m x.id,hcnt]
        rcases hn:l.length with _|k
        all_goals
         simp only[hn,sM]
         by_cases h0:0<pZ x.id c
         ·have h0':(0:Int)<((pZ x.id c:Nat):Int):=by omega
          have hfc:lE c x=[]:=by unfold lE;rw[Ad h0]
          rw[hfc,A7]at htk
          simp[-O,-X,↓KW,aE,q1,hx,hyc,hlu,h0,h0',hw,aC,aA,aB,gF]
          refine aI (τ:=Nat×List (Int×Int)) (i+1,l) ⟨hgo,by simp only;omega,htk⟩ (slQ hgo) ?_
          simp only[hn,sM]
          first|(refine wkQ [1] ?_ ?_<;>simp[-O,upd,aO,Γ0,aE,gK,dY];done)|(refine wkQ [1,2] ?_ ?_<;>simp[-O,upd,aO,Γ0,aE,gK,dY])
         ·have h0':¬(0:Int)<((pZ x.id c:Nat):Int):=by omega
          have hfc:lE c x=(x.b.filter (tM c)).map λf=>(x.id,f.1):=by unfold lE;rw[Ac h0]
          rw[hfc]at htk
          simp[-O,-X,↓KW,aE,aK,q1,hx,hyc,hlu,h0,h0',hw,aC,aA,aB,gF]
          refine aP (λy:Nat×List (Int×Int)=>y.1<=x.b.length/\y.2.length<=100*i+y.1/\l++((x.b.take y.1).filter (tM c)).map (λf=>(x.id,f.1))=y.2) (λy=>aMv 11 [(0,.d (aE c)),(3,.d (usD m)),(8,.mp 1),(13,.ptr 2 0),(49,.d (aE c)),(50,.d (.i .i64 c.length)),(51,.d (.i .i64 (i:Int))),(61,.d (aK x.b)),(62,.d (.i .i64 x.b.length)),(63,.d (.i .i64 (y.1:Int)))] (.map .i64 (onE once)) (.cells 40 [.d (.i .i64 x.id),.d (.i .i64 x.dim),.d (aK x.b)]) 41 2 y.2.length (flt xA y.2)) (λy=>x.b.length-y.1) (0,l) ⟨Al _,by simp only;omega,by simp⟩ ?_ ?_
          ·simp only[hn,aMv]
           first|(refine wkQ [1,2] ?_ ?_<;>simp[-O,upd,aO,Γ0,aE,aK,gK,dY];done)|(refine wkQ [1,3,2] ?_ ?_<;>simp[-O,upd,aO,Γ0,aE,aK,gK,dY])
          ·rintro⟨j,l2⟩ ⟨hj,hl2,hinv⟩
           simp only at hj hl2 hinv ⊢
           by_cases hgo2:j<x.b.length
           ·have q2:(j:Int)<x.b.length:=by omega
            have hf:x.b[j]? = some x.b[j]:=Ab hgo2
            have hw2:Ag.wrap ((j:Int)+1)=(j:Int)+1:=aV
            have hfb:=hxb _ (Ar hgo2)
            have htk2:=bDr (c:=c) x.id hgo2
            refine exE x.b[j] λf hfe=>?_
            rw[hfe]at hf htk2 hfb
            have hinv2:l++((x.b.take (j+1)).filter (tM c)).map (λf=>(x.id,f.1))=l2++if tM c f then[(x.id,f.1)]else[]:=by rw[htk2,<-Bh,hinv]
            have hef:eL f=[.i .i64 f.1,.b (decide (f.2<0)),aM (aU f.2.natAbs)]:=rfl
            obtain⟨n,z⟩:=f
            simp only at hfb hef hinv2
            have hzS:Sz z:=szE hfb (by omega)
            have hon:(alk once n).getD false=decide (pZ n c=1):=by rw[DL,hfin,hcnt,AI];simp only;omega
            have hlo:∀H:Hp,H 1=some (.map .i64 (onE once))->pK Aa H 260 (.mp 1) (.d (.i .i64 n)) false=some (.d (.b (decide (pZ n c=1)))):=λH h=>by rw[cBt H 1 once n h,hon]
            have hm1:(1:Nat)<=maxLen:=aS (by decide)
            rcases hn2:l2.length with _|k
            all_goals
             by_cases h1:pZ n c=1
             ·have hA:=bSy z hzS
              have hO:=aMq
              obtain⟨r,hC,hr⟩:=aZk (z.natAbs:Int) 1 (by unfold Sz at hzS ⊢;rw[Int.natAbs_natCast];exact hzS) sz1
              rw[Bx h1]at hlo
              simp only[aMv]
              simp[-O,-X,↓KW,aE,aK,bE,q2,hf,hlo,aF,aD,aG]
              refine aJ hA ?_
              simp[-O,-X,↓KW,aE,aK,bE,aY,aF,aD,aG,gF]
              refine aJ hO ?_
              simp[-O,-X,↓KW,aE,aK,bE,aY,aF,aD,aG,gF]
              refine aJ hC ?_
              by_cases hz1:z.natAbs=1
              ·have hr0:r=0:=hr.2 (by omega)
               have hok:tM c (n,z)=true:=by unfold tM;simp[h1,hz1]
               rw[hok,Ad rfl]at hinv2
               rw[hr0]
               first|(have e0:l2=[]:=AE hn2;simp[-O,-X,↓KW,hr0,hw2,hm1,gF];refine aI (τ:=Nat×List (Int×Int)) (j+1,l2++[(x.id,n)]) ⟨hgo2,by simp only[Ak,As];omega,hinv2⟩ (AF hgo2 (AK _)) ?_;simp only[Ak,hn2,As,aMv];refine wkQ [1,2,5] ?_ ?_<;>simp[-O,upd,aO,Γ0,aE,aK,gK,e0,cG,aGo];done)|(have hbb:=cH (n:=k+1) (by omega);have hcl:=bJ lP l2;rw[hn2]at hcl;have hal:=dB aKh l2;have hb8:(k+1+1)*16<=140737488355328:=(by omega);simp[-O,-X,↓KW,hr0,hw2,hm1,hbb,hb8,hcl,hal,aS,gF];refine aI (τ:=Nat×List (Int×Int)) (j+1,l2++[(x.id,n)]) ⟨hgo2,by simp only[Ak,As];omega,hinv2⟩ (AF hgo2 (AK _)) ?_;simp only[Ak,hn2,As,aMv];refine wkQ [1,2,6] ?_ ?_<;>simp[-O,upd,aO,Γ0,aE,aK,gF,gK,cX,cG,aGo])
              ·have hr0:((r==0):Bool)=false:=by simp;exact λh=>hz1 (by have:=hr.1 h;omega)
               have hok:tM c (n,z)=false:=by unfold tM;simp[hz1]
               rw[hok]at hinv2
               simp only[A0,B2,A7]at hinv2
               simp[-O,-X,↓KW,hr0,hw2,gF]
               refine aI (τ:=Nat×List (Int×Int)) (j+1,l2) ⟨hgo2,by simp only;omega,hinv2⟩ (AF hgo2 (AK _)) ?_
               simp only[hn2,aMv]
               first|(refine wkQ [1,2] ?_ ?_<;>simp[-O,upd,aO,Γ0,aE,aK,gK,dY];done)|(refine wkQ [1,2,3] ?_ ?_<;>simp[-O,upd,aO,Γ0,aE,aK,gK,dY])
             ·rw[Bo h1]at hlo
              have hok:tM c (n,z)=false:=by unfold tM;simp[h1]
              rw[hok]at hinv2
              simp only[A0,B2,A7]at hinv2
              simp only[aMv]
              simp[-O,-X,↓KW,aE,aK,bE,q2,hf,hlo,hw2,aF,aD,aG,gF]
              refine aI (τ:=Nat×List (Int×Int)) (j+1,l2) ⟨hgo2,by simp only;omega,hinv2⟩ (AF hgo2 (AK _)) ?_
              simp only[hn2,aMv]
              first|(refine wkQ [1,2] ?_ ?_<;>simp[-O,upd,aO,Γ0,aE,aK,gK,dY];done)|(refine wkQ [1,2,3] ?_ ?_<;>simp[-O,upd,aO,Γ0,aE,aK,gK,dY])
           ·have q2:¬(j:Int)<x.b.length:=by omega
            rw[Ai (by omega)]at hinv
            rcases hn2:l2.length with _|k
            all_goals
             simp only[aMv]
             simp[-O,-X,↓KW,aE,aK,q2,hw,gF]
             refine aI (τ:=Nat×List (Int×Int)) (i+1,l2) ⟨hgo,by simp only;omega,by rw[htk,hinv]⟩ (slQ hgo) ?_
             simp only[hn2,sM]
             first|(refine wkQ [1] ?_ ?_<;>simp[-O,upd,aO,Γ0,aE,gK,dY];done)|(refine wkQ [1,3] ?_ ?_<;>simp[-O,upd,aO,Γ0,aE,gK,dY])
       ·have q1:¬(i:Int)<c.length:=by omega
        rw[Ai (by omega)]at hl;have hl':jM c=l:=hl;rcases hn:l.length with _|k
        ·have e0:l=[]:=AE hn;simp only[sM];simp[-O,-X,↓KW,aE,fR,q1,hl',e0]
        ·have e1:=dI lP hn;have e2:=cW (by decide) lP hn;have e3:=bJ lP l;rw[hn]at e3;simp only[sM];simp[-O,-X,↓KW,aE,fR,q1,hl',e1,e2,e3,hn]
     ·have hlt:=(Ah.1 he).1;obtain⟨n',v,hnv,hnm⟩:∃n' v,((n,w):Int×D)=(n',iD v)/\(n',v)∈m:=by obtain⟨done,h1,_⟩:=hok;exact aXz (h1.mem_iff.1 (List.mem_append_right _ (Aq he)))
      injection hnv with e1 e2
      subst e1;subst e2;have hst:=hok.step he;have hel:(rest.eraseIdx j).length<rest.length:=by rw[List.length_eraseIdx,Ad hlt];omega
      refine(show ∃r',rest.eraseIdx j=r' from⟨_,rfl⟩).elim λr' hre=>?_
      rw[hre]at hst hel ⊢;by_cases hv:v=1
      ·have hv':((v==1):Bool)=true:=by simpa using hv
       rw[Ad hv]at hst;have q3:(((1:Int)==(1:Int)):Bool)=true:=rfl;simp[-O,-X,↓KW,aE,↓aRa,aSu,aZo,hv',hv,q3,cI,aRl,gF,aBx];refine aI (τ:=Option (Int×D)×List (Int×D)×List (Int×Bool)) (some (n,iD v),r',apt once n true) hst hel (wkQ [1,2] ?_ ?_)<;>simp[-O,upd,aO,Γ0,aE,gK,aAn,hv]
      ·have hv':((v==1):Bool)=false:=by simpa using hv
       rw[Ac hv]at hst;simp[-O,-X,↓KW,aE,↓aRa,aSu,aZo,hv',hv,cI,aRl,gF,aBx];refine aI (τ:=Option (Int×D)×List (Int×D)×List (Int×Bool)) (some (n,iD v),r',once) hst hel (wkQ [1,2] ?_ ?_)<;>simp[-O,upd,aO,Γ0,aE,gK,aAn]
def oV(x y:List AV):kJ .eql false (.ag x) (.ag y)=none:=rfl
def cAr:tai Aa 41=some .i64:=by kernel_rfl
def zX(a b c d:Int):bNp .eql (tai Aa 41) (.ag [.d (.i .i64 a),.d (.i .i64 b)]) (.ag [.d (.i .i64 c),.d (.i .i64 d)])=some (.b (a==c&&b==d)):=by rw[cAr];rfl
def ixP(l:List (Int×Int))(p:Int×Int):Int:=if p∈l then(l.findIdx (λq=>q==p):Nat)else -1
def cCb(l:List (Int×Int))(a b:Int)(hl:l.length<=1000000):Spec Aa 210 [fR l,.ag [.i .i64 a,.i .i64 b]] (.i .i64 (ixP l (a,b))):=by
 refine bF (N:=19) Tryz.func210 ?_;simp[-O,-X,↓KW,fR];refine aP (λi:Nat=>i<=l.length/\∀j p,j<i->l[j]? = some p->p≠(a,b)) (λi=>StL [(0,.d (fR l)),(3,.ptr 1 0),(7,.d (.i .i64 l.length)),(8,.d (.i .i64 (i:Int)))] none [.cells 41 [.d (.i .i64 a),.d (.i .i64 b)]]) (λi=>l.length-i) 0 ⟨Al _,λj p h=>by omega⟩ ?_ ?_
 ·refine wkQ [1] ?_ ?_<;>simp[-O,upd,aO,Γ0,fR]
 ·rintro i ⟨hi,hn⟩;by_cases hgo:i<l.length
  ·have q1:(i:Int)<l.length:=by omega
   have hx:l[i]? = some l[i]:=Ab hgo;have hw:Ag.wrap ((i:Int)+1)=(i:Int)+1:=aV;have hw0:Ag.wrap (i:Int)=(i:Int):=aV;refine exE l[i] λx hxe=>?_
   rw[hxe]at hx;have hy:xA x=[.i .i64 x.1,.i .i64 x.2]:=rfl;by_cases he:x=(a,b)
   ·subst he;have hb:((a==a&&b==b):Bool)=true:=by simp
    have hix:ixP l (a,b)=i:=by unfold ixP;rw[Ad (Aq hx)];congr 1;rw[List.findIdx_eq hgo];refine⟨by rw[hxe];simp,λj hj=>?_⟩;have:=hn j l[j] hj (Ab (by omega));simpa using this
    simp[-O,-X,↓KW,fR,q1,hx,hy,hw,oV,zX,hb,hix]
   ·have hb:((a==x.1&&b==x.2):Bool)=false:=by
     cases h:((a==x.1&&b==x.2):Bool)
     ·rfl
     ·simp only[AO,CK]at h;exact(he (Prod.ext h.1.symm h.2.symm)).elim
    simp[-O,-X,↓KW,fR,q1,hx,hy,hw,oV,zX,hb];refine aI (i+1) ⟨hgo,λj p hj hp=>?_⟩ (slQ hgo) (wkQ [1] ?_ ?_)
    ·rcases Bf j i with h|h
     ·exact hn j p h hp
     ·obtain rfl:j=i:=by omega
      rw[hx]at hp;injection hp with hp;rw[<-hp];exact he
    ·simp[-O,upd,aO,Γ0,fR]
    ·simp[-O,upd,aO,Γ0,fR]
  ·have q1:¬(i:Int)<l.length:=by omega
   have hnm:(a,b) ∉ l:=λh=>by obtain⟨j,hj⟩:=List.getElem?_of_mem h;exact hn j _ (by have:=(Ah.1 hj).1;omega) hj rfl
   simp[-O,-X,↓KW,fR,q1,ixP,hnm]
def cEl(l:List (Int×Int))(a b:Int)(hl:l.length<=1000000):Spec Aa 207 [fR l,.ag [.i .i64 a,.i .i64 b]] (.b (decide ((a,b)∈l))):=by
 refine bF (N:=9) Tryz.func207 ?_;have hI:=cCb l a b hl;have hge:decide ((0:Int)<=ixP l (a,b))=decide ((a,b)∈l):=by
  unfold ixP;by_cases h:(a,b)∈l
  ·rw[Ad h];simp[h]
  ·rw[Ac h];simp[h]
 simp[-O,-X,↓KW,fR];refine aJ hI ?_;simp[-O,-X,↓KW,fR,hge]
end Go.Am
end
section
open List renaming map_map->O,mapM_map->X
namespace Go.Am
open RowKit (Below)
inductive Tr where
 |leaf
 |one (i:Nat) (t:Tr)
 |two (i:Nat) (t:Tr) (j:Nat) (u:Tr)
 |three (i:Nat) (t:Tr) (j:Nat) (u:Tr) (m:Nat) (v:Tr)
def bJa(P:Program)(o:Oper):Bool:=match o.op with
 |.move _=>true
 |.assign _=>true
 |.insert ..=>true
 |.load ..=>true
 |.store ..=>true
 |.convert ..=>true
 |.binOp ..=>true
 |.indexAddr ..=>true
 |.fieldAddr ..=>true
 |.call { callee:=.value (.func f),.. }=>!bB P f && !bC P f
 |_=>false
def opL(ops:Array Oper)(i:Nat):List Oper:=(ops.toList.drop i).take 1
def opsL(ops:Array Oper)(is:List Nat):List Oper:=is.flatMap (opL ops)
def aYt{ops:Array Oper}{i:Nat}{o:Oper}(h:ops[i]? = some o):opL ops i=[o]:=by
 unfold opL;have h':ops.toList[i]? = some o:=by simpa using h
 obtain⟨hl,he⟩:=Ah.1 h';rw[AP hl,he];rfl
def aQj(P:Program)(ops:Array Oper):List Nat->Array Bool->Option (Array Bool)
 |[],l=>some l
 |i::is,l=>if(BU .any ops l).contains i&&aZr P ops l i then aQj P ops is (l.setIfInBounds i true)else none
def aRh(P:Program)(ops:Array Oper)(i:Nat):Bool:=match ops[i]? with
 |some o=>bJa P o
 |none=>false
def zT(P:Program)(ops:Array Oper):Nat->Array Bool->Tr->Bool
 |0,l,.leaf=>(BU .any ops l).isEmpty
 |n+1,l,.one i t=>(BU .any ops l==[i])&&aRh P ops i&&zT P ops n (l.setIfInBounds i true) t
 |n+1,l,.two i t j u=>(BU .any ops l==[i,j])&&aRh P ops i&&aRh P ops j&&zT P ops n (l.setIfInBounds i true) t&&zT P ops n (l.setIfInBounds j true) u
 |n+1,l,.three i t j u m v=>(BU .any ops l==[i,j,m])&&aRh P ops i&&aRh P ops j&&aRh P ops m&&zT P ops n (l.setIfInBounds i true) t&&zT P ops n (l.setIfInBounds j true) u&&zT P ops n (l.setIfInBounds m true) v
 |_,_,_=>false
def OWT(P:Program)(ops:Array Oper):Tr->St->List Nat->(St->List Nat->Prop)->Prop
 |.leaf,σ,con,k=>k σ con
 |.one i t,σ,con,k=>OW P ops (opL ops i) σ con λσ' con'=>OWT P ops t σ' con' k
 |.two i t j u,σ,con,k=>(OW P ops (opL ops i) σ con λσ' con'=>OWT P ops t σ' con' k)/\(OW P ops (opL ops j) σ con λσ' con'=>OWT P ops u σ' con' k)
 |.three i t j u m v,σ,con,k=>(OW P ops (opL ops i) σ con λσ' con'=>OWT P ops t σ' con' k)/\(OW P ops (opL ops j) σ con λσ' con'=>OWT P ops u σ' con' k)/\(OW P ops (opL ops m) σ con λσ' con'=>OWT P ops v σ' con' k)
def aLp(P:Program)(ops:Array Oper)(pre:List Nat)(t:Tr):Bool:=match aQj P ops pre (BI ops.size false)with
 |some l=>sC (opsL ops pre)&&decide (pre.length<=ops.size)&&zT P ops (ops.size-pre.length) l t
 |none=>false
section
variable {P:Program} {G:Ctx} {ops:Array Oper}
def aTq{Q:AS->Prop}{n:Nat}{l1:Array Bool}:∀(is:List Nat) (listed:Array Bool) (s:AS),Dc ops listed->aQj P ops is listed=some l1->aBu P G ops (λs'=>Dc ops l1->aNp P G ops Q n l1 s') (opsL ops is) s->aNp P G ops Q (is.length+n) listed s
 |[],listed,s,hdc,hp,h=>by simp only[aQj,AU]at hp;subst hp;simpa using h hdc
 |i::is,listed,s,hdc,hp,h=>by
  simp only[aQj]at hp;split at hp
  case isFalse=>cases hp
  rename_i hc;simp only[AO]at hc;have hr:i∈BU .any ops listed:=by simpa using hc.1
  obtain⟨_,o,ho,_⟩:=mem_ready.1 hr;have e:opsL ops (i::is)=o::opsL ops is:=by show opL ops i++opsL ops is=_;rw[aYt ho];rfl
  rw[e]at h;obtain⟨s',hd,h⟩:=h;rw[AH,Nat.add_right_comm];exact aHg ho (is.length+n) listed s s' hdc (aGa ho hc.2) hr hd (aTq is _ _ (aXl hdc hr) hp h)
def yM{e:Option AV}{av:AV}{nb:Option HO}(h:eO e=some (av,nb)):nb=none:=by unfold eO at h;cases e<;>simp at h;exact h.2.symm
def cEf{k:St->List Nat->Prop}{o:Oper}{σ:St}{con:List Nat}(hnn:bJa P o=true)(hn0:σ.n=0->∀b,G.P0 b)(hwf:Wf σ con)(h:OW P ops [o] σ con k) :
  ∀s,eZ σ con s->∃s',qX P G ops o s s'/\∃σ' con',k σ' con'/\(σ'.n=0->∀b,G.P0 b)/\Wf σ' con'/\eZ σ' con' s':=by
 unfold OW at h
 have pure0:∀(av:AV) (con':List Nat) (H':Hp),H'=kill con' σ.H->(∀id∈con',(σ.H id).isSome=true)->k ⟨bT σ.J o.dst av,H',σ.n⟩ (con'++con) ->
   (∀s,eZ σ con s->Ev P G o s.J s.T s.K s.K av bW (λi=>i∈con'))->eY ops o σ.J=some true ->
   ∀s,eZ σ con s->∃s',qX P G ops o s s'/\∃σ' con',k σ' con'/\(σ'.n=0->∀b,G.P0 b)/\Wf σ' con'/\eZ σ' con' s':=by
  intro av con' H' hH' hc' hk hev hw s hs
  subst hH'
  have hwf':Wf ⟨bT σ.J o.dst av,kill con' σ.H,σ.n⟩ (con'++con):=by
   refine⟨λid hid=>?_,λid hid=>?_⟩
   ·cases hx:kill con' σ.H id with
    |none=>exact hx
    |some o'=>have:=(iQ hx).1;rw[hwf.top id hid]at this;cases this
   ·rcases A5.1 hid with hid|hid
    ·refine⟨?_,pM hid⟩;have:=hc' id hid;rcases Bf id σ.n with h|h
     ·exact h
     ·rw[hwf.top id h]at this;cases this
    ·obtain⟨h1,h2⟩:=hwf.con id hid;refine⟨h1,?_⟩;cases hx:kill con' σ.H id with
     |none=>exact hx
     |some o'=>have:=(iQ hx).1;rw[h2]at this;cases this
  refine⟨_,.yes av bW (λi=>i∈con') s.K (by rw[hs.J];exact hw) (hev s hs) (λ_ h=>h.elim) (λ_ h=>h.elim) (λh=>h.elim),_,_,hk,hn0,hwf',?_⟩
  refine⟨by rw[hs.J],λid=>by simp[hs.T,or_comm],λid o' h=>hs.K id o' (iQ h).1,λid=>?_⟩
  simp only[hs.U,bW,or_false,A5]
  by_cases hid:id∈con'
  ·simp[hid,hc' id hid,pM hid]
  ·rw[uG hid];simp[hid]
 have write1:∀(av:AV) (id:Nat) (ho old:HO) (ts:Nat),Operand.tmp ts∈o.op.operands->mG id (σ.J ts)=true->σ.H id=some old->kind P o.op=2->k ⟨bT σ.J o.dst av,upd σ.H id (some ho),σ.n⟩ con ->
   (∀(T2:Nat->Prop) (K2:Hp),K2 id=some old->¬T2 id->Y P G o σ.J T2 K2 (kK K2 T2 id ho) av bW bW)->eY ops o σ.J=some true ->
   ∀s,eZ σ con s->∃s',qX P G ops o s s'/\∃σ' con',k σ' con'/\(σ'.n=0->∀b,G.P0 b)/\Wf σ' con'/\eZ σ' con' s':=by
  intro av id ho old ts hts hΓ hold hkd h hY hw s hs
  have hwf':Wf ⟨bT σ.J o.dst av,upd σ.H id (some ho),σ.n⟩ con:=by
   refine⟨λi hi=>?_,λi hi=>?_⟩
   ·simp only at hi ⊢;rw[dX _ _ (λe=>by rw[e]at hi;rw[hwf.top id hi]at hold;cases hold)];exact hwf.top i hi
   ·obtain⟨h1,h2⟩:=hwf.con i hi;refine⟨h1,?_⟩;simp only;rw[dX _ _ (λe=>by rw[e]at h2;rw[h2]at hold;cases hold)];exact h2
  have hidn:id<σ.n:=by
   rcases Bf id σ.n with h|h
   ·exact h
   ·rw[hwf.top id h]at hold;cases hold
  have hnT:¬s.T id:=λh=>by have:=(hwf.con id ((hs.T id).1 h)).2;rw[this]at hold;cases hold
  refine⟨_,.yes av bW bW (kK s.K s.T id ho) (by rw[hs.J];exact hw) (.inr (.inr (.inl ⟨hkd,rfl,rfl,id,ts,old,ho,hts,by rw[hs.J];exact hΓ,hs.K _ _ hold,hnT,rfl,λT2 K2 hK2 hT2=>by rw[hs.J];exact hY T2 K2 hK2 hT2⟩))) (λ_ h=>h.elim) (λ_ h=>h.elim) (λh=>h.elim),_,_,h,hn0,hwf',?_⟩
  refine⟨by rw[hs.J],λi=>by simp[hs.T,bW],λi o' h=>?_,λi=>?_⟩
  ·simp only at h ⊢
   by_cases hid:i=id
   ·subst hid;rw[dC]at h;unfold kK;rw[Ad rfl];exact h
   ·rw[dX _ _ hid]at h
    rw[oY hid (λht=>by have:=(hwf.con i ((hs.T i).1 ht)).2;rw[this]at h;cases h)]
    exact hs.K i o' h
  ·simp only[hs.U,bW,or_false]
   by_cases hid:i=id
   ·subst hid;simp[dC,hold]
   ·rw[dX _ _ hid]
 have wsub:∀{T2:Nat->Prop} {K2:Hp} {id:Nat} {ho:HO} (j:Nat) (o':HO),j≠id->kK K2 T2 id ho j=some o'->K2 j=some o'/\¬T2 j:=by
  intro T2 K2 id ho j o' hj h;unfold kK at h;rw[Ac hj]at h;split at h
  ·cases h
  ·exact⟨h,by assumption⟩
 have one1:∀{K2:Hp} {id:Nat} {old:HO},σ.H id=some old->K2 id=some old->∀i ob,(if i=id then σ.H id else none)=some ob->K2 i=some ob:=by
  intro K2 id old hold hK2 i ob h;split at h
  ·rename_i e;subst e;rw[hold]at h;rw[hK2];exact h
  ·cases h
 have val0:∀(av:AV),kind P o.op=0->nev P o.op σ.J σ.n=some (av,none)->k ⟨bT σ.J o.dst av,σ.H,σ.n⟩ con->eY ops o σ.J=some true ->
   ∀s,eZ σ con s->∃s',qX P G ops o s s'/\∃σ' con',k σ' con'/\(σ'.n=0->∀b,G.P0 b)/\Wf σ' con'/\eZ σ' con' s':=by
  intro av hk hnev h hw
  have e0:(λi=>i∈([]:List Nat))=bW:=funext λi=>by simp[bW]
  refine pure0 av [] σ.H rfl (λ_ h=>by cases h) h (λs hs=>?_) hw
  rw[e0]
  exact .inl ⟨hk,rfl,rfl,λT2 K2 _=>aFi (n:=σ.n) (by rw[hs.J];exact hnev)⟩
 split at h
 case h_3=>exact h.elim
 case h_2 hw =>
  have hwf':Wf ⟨bT σ.J o.dst .un,σ.H,σ.n⟩ con:=⟨hwf.top,hwf.con⟩
  exact λs hs=>⟨_,.no (by rw[hs.J];exact hw),_,_,h,hn0,hwf',⟨by rw[hs.J],hs.T,hs.K,hs.U⟩⟩
 case h_1 hw =>
 simp only[OW]at h
 unfold bJa at hnn
 split at hnn
 ·-- move
  rename_i x hop
  unfold O1 at h
  simp only[hop]at h
  obtain⟨hk,h⟩:=h
  split at h
  ·rename_i av nb hnev
   have e:nb=none:=by simp only[nev]at hnev;injection hnev with hnev;injection hnev with _ h2;exact h2.symm
   subst e
   exact val0 av (by rw[hop];exact hk) (by rw[hop];exact hnev) h hw
  ·exact h.elim
 ·-- assign
  rename_i x hop
  unfold O1 at h
  simp only[hop]at h
  obtain⟨hk,h⟩:=h
  split at h
  ·rename_i av nb hnev
   have e:nb=none:=by simp only[nev]at hnev;injection hnev with hnev;injection hnev with _ h2;exact h2.symm
   subst e
   exact val0 av (by rw[hop];exact hk) (by rw[hop];exact hnev) h hw
  ·exact h.elim
 ·-- a new element of a map
  rename_i t m x v hop
  unfold O1 at h
  simp only[hop]at h
  split at h
  ·rename_i id ho hst
   obtain⟨old,hm,hold,_⟩:=aDk hst
   obtain⟨ts,hts,hΓ⟩:=sK (J:=σ.J) (x:=m) (id:=id) (h:=.mp 0) (by rw[hm];rfl)
   refine write1 .any id ho old ts (by rw[hop];simp[AN,hts]) hΓ hold (by rw[hop];rfl) h (λT2 K2 hK2 hT2=>?_) hw
   refine aLd (H:=λi=>if i=id then σ.H id else none) (v:=some v) (id:=id) (ho:=ho) (.inl ⟨v,rfl,.inr hop⟩) (one1 hold hK2) ?_ hT2 (by unfold kK;rw[Ad rfl]) wsub
   unfold tL at hst ⊢
   rw[hm]at hst ⊢
   simp only[B1]at hst ⊢
   exact hst
  ·exact h.elim
 ·-- load
  rename_i t x hop
  unfold O1 at h
  simp only[hop]at h
  split at h
  ·rename_i v hv
   refine pure0 v [] σ.H rfl (λ_ h=>by cases h) h (λs hs=>.inr (.inl ⟨by rw[hop];rfl,rfl,(λ_ h=>by cases h),(λ_ _ _ _ _ _ _ _ h=>by cases h),λT2 _=>?_⟩)) hw
   have:(λi=>i∈([]:List Nat))=bW:=funext λi=>by simp[bW]
   rw[this]
   refine aAf λF w ι a hR hops=>?_
   obtain⟨u,h1,h2⟩:=aDl (P:=P) hR hs.K hv (fD (J:=σ.J) (a:=a) λt e=>by rw[<-hs.J];exact hops t (by rw[hop];simp[AN,e]))
   exact⟨u,by simp only[execOp,hop,Sem.run_bind,h1];rfl,h2⟩
  ·exact h.elim
 ·-- store
  rename_i t ad x hop
  unfold O1 at h
  simp only[hop]at h
  split at h
  ·rename_i id ho hst
   obtain⟨off,old,hadp,hold⟩:=aIs hst
   obtain⟨ts,hts,hΓ⟩:=sK (J:=σ.J) (x:=ad) (id:=id) (h:=.ptr 0 off) (by rw[hadp];rfl)
   refine write1 .un id ho old ts (by rw[hop];simp[AN,hts]) hΓ hold (by rw[hop];rfl) h (λT2 K2 hK2 hT2=>?_) hw
   refine aXr (H:=λi=>if i=id then σ.H id else none) (id:=id) (ho:=ho) hop (one1 hold hK2) ?_ hT2 (by unfold kK;rw[Ad rfl]) wsub
   unfold qO at hst ⊢
   rw[hadp]at hst ⊢
   simp only[B1]at hst ⊢
   exact hst
  ·exact h.elim
 ·-- conversion
  rename_i f t x hop
  unfold O1 at h
  simp only[hop]at h
  obtain⟨hk,h⟩:=h
  split at h
  ·rename_i av nb hnev
   obtain rfl:=yM hnev
   exact val0 av (by rw[hop];exact hk) (by rw[hop];exact hnev) h hw
  ·exact h.elim
 ·-- two operands
  rename_i b t x y u hop
  unfold O1 at h
  simp only[hop]at h
  obtain⟨hk,h⟩:=h
  split at h
  ·rename_i av nb hnev
   obtain rfl:=yM hnev
   exact val0 av (by rw[hop];exact hk) (by rw[hop];exact hnev) h hw
  ·exact h.elim
 ·-- an element's place
  rename_i t x y hop
  unfold O1 at h
  simp only[hop]at h
  obtain⟨hk,h⟩:=h
  split at h
  ·rename_i av nb hnev
   obtain rfl:=yM hnev
   exact val0 av (by rw[hop];exact hk) (by rw[hop];exact hnev) h hw
  ·exact h.elim
 ·-- a field's place
  rename_i t x y hop
  unfold O1 at h
  simp only[hop]at h
  obtain⟨hk,h⟩:=h
  split at h
  ·rename_i av nb hnev
   obtain rfl:=yM hnev
   exact val0 av (by rw[hop];exact hk) (by rw[hop];exact hnev) h hw
  ·exact h.elim
 ·-- call
  rename_i f args ts hop
  simp only[AO,Bool.not_eq_true']at hnn
  obtain⟨hmut,hnew⟩:=hnn
  unfold O1 at h
  simp only[hop]at h
  unfold OC at h
  rw[hmut]at h
  simp only[A0,B2]at h
  have hkd:kind P o.op=1:=by rw[hop];simp[kind,hmut]
  rcases h with ⟨h1,_⟩|h
  ·rw[hnew]at h1;cases h1
  split at h
  ·rename_i g id hargs
   obtain⟨x,hx,hxe⟩:∃x,args.toList=[x]/\oev σ.J x=.kf g id:=by
    cases hl:args.toList with
    |nil=>rw[hl]at hargs;cases hargs
    |cons x l =>
     rw[hl]at hargs;cases l with
     |nil=>simp only[AZ,List.map_nil,List.cons.injEq,and_true]at hargs;exact⟨x,rfl,hargs⟩
     |cons y l=>simp at hargs
   split at h
   ·rename_i es hH
    obtain⟨hn,hrr,hss,h⟩:=h
    refine pure0 _ [] σ.H rfl (λ_ h=>by cases h) h (λs hs=>.inr (.inl ⟨hkd,rfl,(λ_ h=>by cases h),(λ_ _ _ _ _ _ _ _ h=>by cases h),λT2 _=>?_⟩)) hw
    have:(λi=>i∈([]:List Nat))=bW:=funext λi=>by simp[bW]
    rw[this]
    exact aNy (J:=s.J) hop hx hs.K (by rw[hs.J];exact hxe) hH hn hrr hss
   ·exact h.elim
  ·obtain⟨ds,r,hfr,hsp,h⟩:=h
   refine pure0 (inj r) (bS σ.H (args.toList.map (oev σ.J)) r) _ rfl (λid hid=>by obtain⟨o',ho'⟩:=jU hid;rw[ho'];rfl) h (λs hs=>.inr (.inl ⟨hkd,rfl,λid hid ht=>?_,λF w ι T2 a hR hops id hid=>?_,λT2 hT2=>?_⟩)) hw
   ·obtain⟨o',ho'⟩:=jU hid
    have:=(hwf.con id ((hs.T id).1 ht)).2
    rw[this]at ho';cases ho'
   ·refine aKq (J:=σ.J) (a:=a) (r:=r) hR hs.K hfr (λx hx=>fD λt e=>?_) id hid
    rw[<-hs.J];exact hops t (by rw[hop];subst e;simp[AN,Call.operands];simpa using hx)
   ·have:=bFe (P:=P) (G:=G) (J:=s.J) (C:=T2) (K:=s.K) (H:=σ.H) (o:=o) (r:=r) hop hs.K (by rw[hs.J];exact hfr) hsp (by rw[hs.J];exact hT2)
    rw[hs.J]at this ⊢
    exact this
 ·cases hnn
def aKz{k:St->List Nat->Prop}:∀(n:Nat) (listed:Array Bool) (t:Tr) (σ:St) (con:List Nat),zT P ops n listed t=true->(σ.n=0->∀b,G.P0 b)->Wf σ con->OWT P ops t σ con k ->
  ∀s,eZ σ con s->aNp P G ops (λs'=>∃σ' con',k σ' con'/\(σ'.n=0->∀b,G.P0 b)/\Wf σ' con'/\eZ σ' con' s') n listed s
 |0,listed,t,σ,con,hc,hn0,hwf,h,s,hs=>by cases t<;>simp only[zT,A0]at hc;exact⟨by simpa using hc,σ,con,h,hn0,hwf,hs⟩
 |n+1,listed,t,σ,con,hc,hn0,hwf,h,s,hs=>by
  have step:∀(i:Nat) (u:Tr),aRh P ops i=true->zT P ops n (listed.setIfInBounds i true) u=true->(OW P ops (opL ops i) σ con λσ' con'=>OWT P ops u σ' con' k) ->
    aOp P G ops i (aNp P G ops (λs'=>∃σ' con',k σ' con'/\(σ'.n=0->∀b,G.P0 b)/\Wf σ' con'/\eZ σ' con' s') n (listed.setIfInBounds i true)) s:=by
   intro i u hn hcu hu
   unfold aRh at hn
   split at hn
   case h_2=>cases hn
   rename_i o ho
   rw[aYt ho]at hu
   obtain⟨s',hd,σ',con',hk,hn',hwf',hs'⟩:=cEf hn hn0 hwf hu s hs
   unfold aOp
   simp only[ho]
   exact .inr ⟨s',hd,aKz n _ u σ' con' hcu hn' hwf' hk s' hs'⟩
  cases t with
  |leaf=>simp only[zT,A0]at hc
  |one i u =>
   simp only[zT,AO,CK]at hc;refine⟨λhe=>(by rw[he]at hc;cases hc.1.1),λj hj=>?_⟩;rw[hc.1.1,AT]at hj;subst hj;exact step j u hc.1.2 hc.2 h
  |two i u j v =>
   simp only[zT,AO,CK]at hc;obtain⟨⟨⟨⟨hr,hi⟩,hj⟩,hu⟩,hv⟩:=hc;refine⟨λhe=>(by rw[he]at hr;cases hr),λm hm=>?_⟩;rw[hr]at hm;rcases AG.1 hm with rfl|hm
   ·exact step m u hi hu h.1
   ·rw[AT]at hm;subst hm;exact step m v hj hv h.2
  |three i u j v m w =>
   simp only[zT,AO,CK]at hc;obtain⟨⟨⟨⟨⟨⟨hr,hi⟩,hj⟩,hm'⟩,hu⟩,hv⟩,hw⟩:=hc;refine⟨λhe=>(by rw[he]at hr;cases hr),λq hq=>?_⟩;rw[hr]at hq;rcases AG.1 hq with rfl|hq
   ·exact step q u hi hu h.1
   rcases AG.1 hq with rfl|hq
   ·exact step q v hj hv h.2.1
   ·rw[AT]at hq;subst hq;exact step q w hm' hw h.2.2
end
def aKx{P:Program}{G:Ctx}{ops:Array Oper}{Q Q':AS->Prop}(h:∀s,Q s->Q' s):∀(l:List Oper) (s:AS),aBu P G ops Q l s->aBu P G ops Q' l s
 |[],s,hh=>h s hh
 |o::l,s,⟨s',hd,hh⟩=>⟨s',hd,aKx h l s' hh⟩
def aBz{P:Program}{WW:Code->(Exit->Act->World->Prop)->Act->World->Prop}(hW:WpR P false WW){G:Ctx}{id N:Nat}{ds:List Deferred}{ops:Array Oper}{pre:List Nat}{t:Tr}{Q:St->Prop}{Q':Exit->Act->World->Prop}{σ:St}{a:Act}{w:World}(hm:P.follows .mixedOrders=true)
  (hdst:∀(i:Nat) (o:Oper) (d:Tmp),ops[i]? = some o->o.dst=some d->d<N/\G.Z d=none) (hB:aLp P ops pre t=true) (hsr:SR G N ds σ a w)
  (h:OW P ops (opsL ops pre) σ [] λσ1 con1=>OWT P ops t σ1 con1 λσ' con=>Q (fin σ' con)) (hQ:∀σ a w,Q σ->SR G N ds σ a w->Q' .normal a w):WW (.region id ops true) Q' a w:=by
 unfold aLp at hB
 split at hB
 case h_2=>cases hB
 rename_i l1 hl1
 simp only[AO,AI]at hB
 obtain⟨⟨hnx,hlen⟩,hchk⟩:=hB
 obtain⟨hn0,hwf,hag⟩:=aAe hsr
 obtain⟨fb,hfb⟩:=uY (G:=G) (opsL ops pre) σ [] hnx hn0 hwf h
 obtain⟨h1,h2⟩:=hag (λi=>if i<σ.n then σ.H i else fb i) (λi o hi=>by
  rcases Bf i σ.n with hlt|hge
  ·rw[Ad hlt];exact hi
  ·rw[hwf.top i hge]at hi;cases hi)
 have h3:=hfb _ h1 (λi hi=>by simp only;rw[Ac (by omega)])
 have hQ2:∀(s:AS) (a:Act) (w:World),(∃σ' con',Q (fin σ' con')/\(σ'.n=0->∀b,G.P0 b)/\Wf σ' con'/\eZ σ' con' s)->sV G N ds s a w->Q' .normal a w:=by rintro s a w ⟨σ',con',hq,hn',hwf',hag'⟩ hr;exact hQ _ a w hq (aNu hn' hwf' hag' hr)
 refine hW.regA hm (λh=>by cases h) (qD hdst hQ2 _ _ _ a _ h2.drew ?_)
 have h4:=aTq (P:=P) (G:=G) (n:=ops.size-pre.length) (l1:=l1) pre (BI ops.size false) _ (λm om hm=>by simp only[Array.getD_eq_getD_getElem?,Array.getElem?_replicate]at hm;split at hm<;>cases hm) hl1
  (aKx (λs' ⟨σ1,con1,hk,hn1,hwf1,hs1⟩ _=>aKz _ _ _ σ1 con1 hchk hn1 hwf1 hk s' hs1) _ _ h3)
 rw[show pre.length+(ops.size-pre.length)=ops.size by omega]at h4
 exact h4
inductive Fl where
 |st
 |wk
 |tr (pre:List Nat) (t:Tr)
def aCs(P:Program):List Fl->Code->St->(Exit->St->Prop)->Prop
 |[],c,σ,Q=>AWP P c σ Q
 |.wk::l,c,σ,Q=>∃σ2,WkR σ σ2/\aCs P l c σ2 Q
 |.st::l,.seq x y,σ,Q=>AWP P x σ λe σ'=>match e with|.normal=>aCs P l y σ' Q|e=>Q e σ'
 |.tr pre t::l,.seq (.region _ ops true) y,σ,Q=>OW P ops (opsL ops pre) σ [] λσ1 con1=>OWT P ops t σ1 con1 λσ' con=>aCs P l y (fin σ' con) Q
 |_::_,_,_,_=>False
def aVp(P:Program):List Fl->Code->Bool
 |[],c=>eC P c
 |.wk::l,c=>aVp P l c
 |.st::l,.seq x y=>eC P x&&aVp P l y
 |.tr pre t::l,.seq (.region _ ops true) y=>aLp P ops pre t&&aVp P l y
 |_::_,_=>false
section
variable {P:Program} {G:Ctx} {N:Nat} {ds:List Deferred}
def aXo(hm:P.follows .mixedOrders=true)(hZ:∀d,G.Z d=none):∀(l:List Fl) (c:Code) (Q:Exit->St->Prop) (σ:St) (a:Act) (w:World),dK N c=true->aVp P l c=true->aCs P l c σ Q->SR G N ds σ a w ->
  c.wp P (λe a' w'=>∃σ',Q e σ'/\SR G N ds σ' a' w') a w:=by
 intro l
 induction l with
 |nil=>intro c Q σ a w hd hl h hs;exact iC hm hZ c Q σ a w hd hl h hs
 |cons f l ih =>
  intro c Q σ a w hd hl h hs
  cases f with
  |wk =>
   obtain⟨σ2,hw,h⟩:=h
   exact ih c Q σ2 a w hd hl h (pW hw hs)
  |st =>
   cases c with
   |seq x y =>
    simp only[dK,aVp,AO]at hd hl
    refine wp_seq (wp_mono (iC hm hZ x _ _ a w hd.1 hl.1 h hs) ?_)
    rintro e a' w' ⟨σ1,hq,hs'⟩
    cases e with
    |normal=>exact ih y Q σ1 a' w' hd.2 hl.2 hq hs'
    |_=>exact⟨σ1,hq,hs'⟩
   |_=>exact h.elim
  |tr pre t =>
   cases c with
   |seq x y =>
    cases x with
    |region id ops draw =>
     cases draw with
     |true =>
      simp only[dK,aVp,AO]at hd hl
      refine wp_seq ?_
      refine aBz (WpR.plain P) (Q:=λσ'=>aCs P l y σ' Q) hm (λi o d hi ho=>⟨qK hd.1 i o d hi ho,hZ d⟩) hl.1 hs h ?_
      intro σ' a' w' hq hs'
      exact ih y Q σ' a' w' hd.2 hl.2 hq hs'
     |false=>exact h.elim
    |_=>exact h.elim
   |_=>exact h.elim
def aUn {f N:Nat} {fn:Func} {g:FuncId} {r0 rd rest:Code} {args:List D} {r:D} (l:List Fl) (hm:P.follows .mixedOrders=true) (hf:P.funcs[f]? = some fn) (hb:fn.body=some (.seq r0 (.seq rd rest))) (hname:(fn.name == "runtime.NumGoroutine")=false)
  (hN:fn.ntmps=N) (hd0:dK N r0=true) (hl0:eC P r0=true) (hd1:dK N rest=true) (hl1:aVp P l rest=true) (hg:qN rd=some g) (hrec:gQ P g) (ha:args.length<=N)
  (h:AWP P r0 (St0 args N) λe σ0=>e=.normal/\aCs P l rest σ0 λe σ=>(e=.normal\/e=.ret)/\mY P fn.results.toList σ=some r):Spec P f args r:=by
 intro A W vs hA hl hv
 have hn:¬ fn.name = "runtime.NumGoroutine" := by simpa using hname
 refine⟨λw=>by simp[callFunc,hf,hn,hb],?_⟩
 refine calls_of_wp_defers hf hb ?_
 subst hN
 refine wp_seq (wp_mono (iC hm (λ_=>rfl) r0 _ _ _ _ hd0 hl0 h (SR0 hA hl hv ha)) ?_)
 rintro e a w ⟨σ0,⟨rfl,h1⟩,hs0⟩
 refine wp_seq (rW hg ?_)
 refine wp_mono (aXo hm (λ_=>rfl) l rest _ _ _ _ hd1 hl1 h1 (aAd { target:=.fn (.func g) #[],args:=#[] } hs0)) ?_
 rintro e a w ⟨σ,⟨he,hr⟩,hs⟩
 rcases he with rfl|rfl<;>exact sG hrec hs hr
end
def eE(P:Program)(c:Code)(σ:St)(Q:Exit->St->Prop):aCs P [] c σ Q=AWP P c σ Q:=rfl
def mO(P:Program)(l:List Fl)(x y:Code)(σ:St)(Q:Exit->St->Prop):aCs P (.st::l) (.seq x y) σ Q=AWP P x σ λe σ'=>match e with|.normal=>aCs P l y σ' Q|e=>Q e σ':=rfl
inductive Tro where
 |leaf
 |one (l:List Oper) (t:Tro)
 |two (l:List Oper) (t:Tro) (m:List Oper) (u:Tro)
 |three (l:List Oper) (t:Tro) (m:List Oper) (u:Tro) (q:List Oper) (v:Tro)
def mI(ops:Array Oper):Tr->Tro
 |.leaf=>.leaf
 |.one i t=>.one (opL ops i) (mI ops t)
 |.two i t j u=>.two (opL ops i) (mI ops t) (opL ops j) (mI ops u)
 |.three i t j u m v=>.three (opL ops i) (mI ops t) (opL ops j) (mI ops u) (opL ops m) (mI ops v)
def qB(P:Program)(ops:Array Oper):Tro->St->List Nat->(St->List Nat->Prop)->Prop
 |.leaf,σ,con,k=>k σ con
 |.one l t,σ,con,k=>OW P ops l σ con λσ' con'=>qB P ops t σ' con' k
 |.two l t m u,σ,con,k=>(OW P ops l σ con λσ' con'=>qB P ops t σ' con' k)/\(OW P ops m σ con λσ' con'=>qB P ops u σ' con' k)
 |.three l t m u q v,σ,con,k=>(OW P ops l σ con λσ' con'=>qB P ops t σ' con' k)/\(OW P ops m σ con λσ' con'=>qB P ops u σ' con' k)/\(OW P ops q σ con λσ' con'=>qB P ops v σ' con' k)
def nU(P:Program)(ops:Array Oper):∀(t:Tr) (σ:St) (con:List Nat) (k:St->List Nat->Prop),OWT P ops t σ con k=qB P ops (mI ops t) σ con k
 |.leaf,_,_,_=>rfl
 |.one i t,σ,con,k=>by simp only[OWT,qB,mI];exact congrArg _ (funext λσ'=>funext λcon'=>nU P ops t σ' con' k)
 |.two i t j u,σ,con,k=>by simp only[OWT,qB,mI];exact congr (congrArg And (congrArg _ (funext λσ'=>funext λcon'=>nU P ops t σ' con' k))) (congrArg _ (funext λσ'=>funext λcon'=>nU P ops u σ' con' k))
 |.three i t j u m v,σ,con,k=>by simp only[OWT,qB,mI];exact congr (congrArg And (congrArg _ (funext λσ'=>funext λcon'=>nU P ops t σ' con' k))) (congr (congrArg And (congrArg _ (funext λσ'=>funext λcon'=>nU P ops u σ' con' k))) (congrArg _ (funext λσ'=>funext λcon'=>nU P ops v σ' con' k)))
def bOn(P:Program)(ops:Array Oper)(l:List Oper)(t:Tro)(σ:St)(k:St->Prop)(_:Dm k):Prop:=OWd P ops l σ [] (λσ1 con1=>qB P ops t σ1 con1 λσ' con=>aIj σ' con k .mk) .mk
def wK{P:Program}{fl:List Fl}{pre:List Nat}{t:Tr}{id:Nat}{ops:Array Oper}{y:Code}{σ:St}{Q:Exit->St->Prop}(l:List Oper)(t':Tro)(h1:opsL ops pre=l)(h2:mI ops t=t')
  (h:bOn P ops l t' σ (λσ'=>aCs P fl y σ' Q) .mk):aCs P (.tr pre t::fl) (.seq (.region id ops true) y) σ Q:=by
 subst h1;subst h2
 show OW P ops (opsL ops pre) σ [] λσ1 con1=>OWT P ops t σ1 con1 λσ' con=>aCs P fl y (fin σ' con) Q
 simp only[nU]
 exact h
def dN(P:Program)(ops:Array Oper)(l:List Oper)(t:Tro)(σ:St)(k:St->Prop)(d:Dm k):bOn P ops l t σ k d=OWd P ops l σ [] (λσ1 con1=>qB P ops t σ1 con1 λσ' con=>aIj σ' con k .mk) .mk:=rfl
def cV(P:Program)(ops:Array Oper)(σ:St)(con:List Nat)(k:St->List Nat->Prop):qB P ops .leaf σ con k=k σ con:=rfl
def dP(P:Program)(ops:Array Oper)(l:List Oper)(t:Tro)(σ:St)(con:List Nat)(k:St->List Nat->Prop):qB P ops (.one l t) σ con k=OWd P ops l σ con (λσ' con'=>qB P ops t σ' con' k) .mk:=rfl
def dO(P:Program)(ops:Array Oper)(l:List Oper)(t:Tro)(m:List Oper)(u:Tro)(σ:St)(con:List Nat)(k:St->List Nat->Prop):qB P ops (.two l t m u) σ con k=(OWd P ops l σ con (λσ' con'=>qB P ops t σ' con' k) .mk/\OWd P ops m σ con (λσ' con'=>qB P ops u σ' con' k) .mk):=rfl
def aFa(P:Program)(ops:Array Oper)(l:List Oper)(t:Tro)(m:List Oper)(u:Tro)(q:List Oper)(v:Tro)(σ:St)(con:List Nat)(k:St->List Nat->Prop):qB P ops (.three l t m u q v) σ con k=(OWd P ops l σ con (λσ' con'=>qB P ops t σ' con' k) .mk/\OWd P ops m σ con (λσ' con'=>qB P ops u σ' con' k) .mk/\OWd P ops q σ con (λσ' con'=>qB P ops v σ' con' k) .mk):=rfl
end Go.Am
end
section
open List renaming map_map->O,mapM_map->X
open Go Go.Am Go.Proofs
namespace Go.Am
def bXi:gQ Aa 206:=aEt Tryz.func206 (by kernel_rfl) rfl rfl rfl
def pL(l:Ch)(n:Int):Int:=l.foldl (λa f=>if f.1=n then f.2 else a) 0
def aVs{l:Ch}{i:Nat}(h:i<l.length)(n:Int):pL (l.take (i+1)) n=if l[i].1=n then l[i].2 else pL (l.take i) n:=by unfold pL;rw[AM,Ab h,Dl];rfl
def bDg{l:Ch}{n:Int}:pL l n=0\/∃f∈l,pL l n=f.2:=by
 unfold pL
 suffices ∀(l:Ch) (a:Int),l.foldl (λa f=>if f.1=n then f.2 else a) a=a\/∃f∈l,l.foldl (λa f=>if f.1=n then f.2 else a) a=f.2 from this l 0
 intro l;induction l with
 |nil=>intro a;exact .inl rfl
 |cons f l ih =>
  intro a;rw[List.foldl_cons];rcases ih (if f.1=n then f.2 else a)with h|⟨g,hg,h⟩
  ·rw[h];by_cases e:f.1=n
   ·rw[Ad e];exact .inr ⟨f,Av ..,rfl⟩
   ·rw[Ac e];exact .inl rfl
  ·exact .inr ⟨g,Au _ hg,h⟩
def bDh{l:Ch}{M:Nat}(h:Bnd M l)(n:Int):(pL l n).natAbs<=M:=by
 rcases bDg (l:=l) (n:=n)with e|⟨f,hf,e⟩
 ·rw[e];exact Al _
 ·rw[e];exact h f hf
def aKe{c:List Cl}{e:Nat}(hz:SzX e c):(jM c).length<=10000:=by
 have:∀d:List Cl,(∀x∈d,x∈c)->(d.flatMap (lE c)).length<=100*d.length:=by
  intro d;induction d with
  |nil=>intro _;simp
  |cons x d ih =>
   intro h;rw[Cz,Ak,AH];have h1:=ih λy hy=>h y (Au _ hy)
   have h2:=hz.bl x (h x (Av ..));have h3:(lE c x).length<=x.b.length:=by
    unfold lE;split
    ·simp
    ·rw[AL];exact Cw _ _
   omega
 have h1:=this c λ_ h=>h
 have h2:=hz.len;unfold jM;omega
def xN(l:List (Int×Int)):inj (fR l)=.d (fR l):=rfl
def sH(H:Hp)(avs:List AV)(l:List (Int×Int)):bS H avs (fR l)=fK H avs:=rfl
def bLp{c:List Cl}{a b:Int}(h:(a,b)∈jM c):a≠b:=by
 unfold jM at h;obtain⟨x,hx,h⟩:=List.mem_flatMap.1 h;unfold lE at h;split at h
 ·cases h
 ·rename_i h0;obtain⟨f,hf,he⟩:=AA.1 h;injection he with h1 h2
  have h3:=(Bi.1 hf).2;unfold tM at h3;simp only[AO,AI]at h3;intro hab;rw[h2,<-hab,<-h1]at h3;omega
def aJv{c:List Cl}{a b:Int}{r:Ch}(h:a≠b):eF c [(b,r),(a,[])]=eF c [(a,[]),(b,r)]:=by
 unfold eF;refine BK λx _=>?_
 unfold mH;by_cases h1:b=x.id
 ·have h2:¬a=x.id:=λe=>h (e.trans h1.symm)
  simp[DN,h1,h2]
 ·by_cases h2:a=x.id<;>simp[DN,h1,h2]
def aZb{a b:Int}(h:a≠b)(v w:AV):sD [(a,v)] b w=[(a,v),(b,w)]:=by simp[sD,iP,List.findIdx?_cons,h]
def jD(cell face:Int)(z:Cl):Bool:=!decide (z.id=cell) && !decide (z.id=face)
def kN(c:List Cl)(cell face:Int):List Cl:=c.filter (jD cell face)
def aBp{c:List Cl}{i:Nat}(h:i<c.length)(a b:Int):kN (c.take (i+1)) a b=kN (c.take i) a b++if jD a b c[i]then[c[i]]else[]:=by unfold kN;rw[AM,Ab h,BQ];congr 1;by_cases e:jD a b c[i]=true<;>simp[e]
def zP(c:List Cl)(a b:Int):(kN c a b).length<=c.length:=Cw _ _
def rH(z n:Int)(l:Ch):Ch:=(l.filter λf=>!decide (f.1=n)).map λf=>(f.1,z*f.2)
def bCm{l:Ch}{i:Nat}(h:i<l.length)(z n:Int):rH z n (l.take (i+1))=rH z n (l.take i)++if l[i].1=n then[]else[(l[i].1,z*l[i].2)]:=by unfold rH;rw[AM,Ab h,BQ,Bu];congr 1;by_cases e:l[i].1=n<;>simp[e]
def aFb(z n:Int)(l:Ch):(rH z n l).length<=l.length:=by unfold rH;rw[AL];exact Cw _ _
def aQv{z n:Int}{l:Ch}{K M:Nat}(hz:z.natAbs<=K)(h:Bnd M l):Bnd (K*M) (rH z n l):=λx hx=>by unfold rH at hx;obtain⟨f,hf,rfl⟩:=AA.1 hx;rw[BX];exact Cs hz (h f (Bi.1 hf).1)
def bCn{z n:Int}{l:Ch}(h:Keys l):Keys (rH z n l):=λx hx=>by unfold rH at hx;obtain⟨f,hf,rfl⟩:=AA.1 hx;exact h f (Bi.1 hf).1
def bUi(l:Ch)(face:Int):Ch:=rH (-pL l face) face l
def aNf(c:List Cl)(cell face:Int):List (Int×Ch):=[(cell,[]),(face,cF [] (bUi (bOf c cell) face))]
def xS(c:List Cl)(cell face:Int):List Cl×List (Int×Ch)×Int :=
 if(bG c cell).isSome=false\/(bG c face).isSome=false then([],[],250)else if(cell,face) ∉ jM c then([],[],310)else(kN c cell face,eF c (aNf c cell face),0)
def vI{H H':Hp}{ρ:Nat->Nat}:pV H H' ρ .nil (.d (.sl []))↔True:=⟨λ_=>trivial,λ_=>⟨rfl,λa ha=>by simp[vis]at ha⟩⟩
def aSw:aK []=.sl []:=rfl
def aOy{H H':Hp}{ρ:Nat->Nat}:Sub H H' ρ .nil (.d (.sl []))↔True:=vI
def aLq{H:Hp}{ρ:Nat->Nat}{t:TypeId}{id n:Nat}{l:Ch}(hn:l.length=n)(hH:H id=some (.cells t ((flt eL l).map .d))):Sub H (qA 1 []) ρ (.own id 0 n 3) (.d (aK l)):=by
 refine qE ?_ λa _ id h=>by simp[qA]at h
 have e1:=dI dD hn;have e2:=cW (by decide) dD hn;have e3:=bJ dD l;rw[hn]at e3;rw[jA,hH];simp only[Cn,A6,BY,e1,mA,A4,e2];rw[Ad ⟨by rw[AL];omega,by omega⟩];rfl
def bWd:List Fl:=[.st,.st,.st,.st,.st,.st,.st,.st,.st,.st]
def xF:Tr:=.one 9 (.one 10 (.one 11 (.one 12 (.one 13 .leaf))))
def aEg:Tr:=.two 4 (.one 7 (.one 8 xF)) 7 (.two 4 (.one 8 xF) 8 (.one 4 xF))
def cCg:List Fl:=bWd++[.tr [0,1,2,3,5,6] aEg]
def aVn{c:List Cl}{e:Nat}(a b:Int)(hc:Inc c)(hz:SzX e c)(hk:∀x∈c,Keys x.b)(he:e+e+14<4398046511104):Spec Aa 205 [aE c,.i .i64 a,.i .i64 b] (fU (xS c a b)):=by
 have hlen:=hz.len;have hFa:=sQ hc a (by omega);have hFb:=sQ hc b (by omega);have hFr:=bYh hz (by omega);have hfl:=aKe hz;have hCt:=cEl (jM c) a b (by omega);have hr:∃p x q y,(bG c a).isSome=p/\(bG c a).getD lA=x/\(bG c b).isSome=q/\(bG c b).getD lA=y:=⟨_,_,_,_,rfl,rfl,rfl,rfl⟩;obtain⟨p,x,q,y,hp,hx,hq,hy⟩:=hr;have hba:bOf c a=x.b:=by unfold bOf;rw[hx]
 have hxl:x.b.length<=100:=by rw[<-hba];exact nQ hz.bl a
 have hxb:Bnd (2^e) x.b:=by rw[<-hba];exact mN hz.bb a
 unfold oT at hFa hFb;rw[hp,hx]at hFa;rw[hq,hy]at hFb;unfold xS aNf;rw[hp,hq,hba];refine aUn (N:=114) cCg bN Tryz.func205 rfl rfl rfl (by kernel_rfl) (by kernel_rfl) (by kernel_rfl) (by kernel_rfl) rfl bXi (by simp) ?_;simp[-O,-X,↓KW,aE,cCg,bWd,↓mO];refine aJ hFa ?_;simp[-O,-X,↓KW,aE,aR,aC,aA,aB,↓mO];refine aJ hFb ?_;cases p with
 |false=>simp[-O,-X,↓KW,aE,aR,aC,aA,aB,eW,fU,dJ,↓mO]
 |true =>
  cases q with
  |false=>simp[-O,-X,↓KW,aE,aR,aC,aA,aB,eW,fU,dJ,↓mO]
  |true =>
   simp[-O,-X,↓KW,aE,aR,aC,aA,aB,↓mO];refine aJ hFr ?_;simp[-O,-X,↓KW,aE,aR,aC,aA,aB,xN,sH,↓mO];refine aJ hCt ?_;by_cases hin:(a,b)∈jM c
   rotate_left
   ·rw[Bo hin];simp[-O,-X,↓KW,aE,aR,aC,aA,aB,xN,sH,eW,fU,dJ,hin,↓mO]
   ·rw[Bx hin];have hkx:Keys x.b:=by
     cases hfx:bG c a with
     |none=>rw[hfx]at hp;cases hp
     |some x' =>
      rw[hfx]at hx;have:x'=x:=hx;subst this;exact hk _ (dF hfx).1
    have hne:=bLp hin;clear hFa hFb hFr hCt hp hq hx hy hfl;simp[-O,-X,↓KW,aE,aK,aR,aC,aA,aB,xN,sH,↓mO];refine aP (λi:Nat=>i<=x.b.length) (λi=>StL [(0,.d (aE c)),(1,.d (.i .i64 a)),(2,.d (.i .i64 b)),(9,.ptr 1 0),(13,.ptr 2 0),(48,.d (aK x.b)),(49,.d (.i .i64 x.b.length)),(50,.d (.i .i64 (i:Int)))] none [.cells 40 [.d (.i .i64 x.id),.d (.i .i64 x.dim),.d (aK x.b)],.cells 72 [.d (.b (decide (pL (x.b.take i) b<0))),.d (aM (aU (pL (x.b.take i) b).natAbs))]]) (λi=>x.b.length-i) 0 (Al _) ?_ ?_
    ·refine wkQ [1,3] ?_ ?_<;>simp[-O,upd,aO,Γ0,aE,aK,pL,dH,aM,vI]
    ·intro i hi;by_cases hgo:i<x.b.length
     ·have q1:(i:Int)<x.b.length:=by omega
      have hf:x.b[i]? = some x.b[i]:=Ab hgo;have hw:Ag.wrap ((i:Int)+1)=(i:Int)+1:=aV;have htk:=aVs hgo b;refine exE x.b[i] λf hfe=>?_
      rw[hfe]at hf htk;refine exE (pL (x.b.take i) b) λz hze=>?_
      rw[hze]at htk;simp only[hze];have hef:eL f=[.i .i64 f.1,.b (decide (f.2<0)),aM (aU f.2.natAbs)]:=rfl;by_cases h0:f.1=b
      ·have h0':((f.1==b):Bool)=true:=by simpa using h0
       rw[Ad h0]at htk;have q3:(((b:Int)==(b:Int)):Bool)=true:=by simp
       simp[-O,-X,↓KW,aE,aK,q1,hf,hef,h0,h0',q3,hw,aF,aD,aG,aC,aA,aB];refine aI (i+1) hgo (slQ hgo) (wkQ [1,2] ?_ ?_)<;>simp[-O,upd,aO,Γ0,aE,aK,htk]
      ·have h0':((f.1==b):Bool)=false:=by simpa using h0
       rw[Ac h0]at htk;simp[-O,-X,↓KW,aE,aK,q1,hf,hef,h0,h0',hw,aF,aD,aG,aC,aA,aB];refine aI (i+1) hgo (slQ hgo) (wkQ [1,2] ?_ ?_)<;>simp[-O,upd,aO,Γ0,aE,aK,htk]
     ·have q1:¬(i:Int)<x.b.length:=by omega
      rw[Ai (by omega)];have hzb:=bDh hxb b;refine exE (pL x.b b) λz hze=>?_
      rw[hze]at hzb;have hNg:=bSx z (szE hzb (by omega));obtain⟨zn,hzn⟩:∃zn,-z=zn:=⟨_,rfl⟩;have hzb':zn.natAbs<=2^e:=by rw[<-hzn,CT];exact hzb
      have hcol:bUi x.b b=rH zn b x.b:=by unfold bUi;rw[hze,hzn]
      rw[hzn]at hNg;clear hzn;simp only[hze];simp[-O,-X,↓KW,aE,aK,q1,aC,aA,aB,aF,aD,aG,↓mO];refine aP (λy:Nat×Ch=>y.1<=x.b.length/\rH zn b (x.b.take y.1)=y.2) (λy=>sM 16 [(0,.d (aE c)),(1,.d (.i .i64 a)),(2,.d (.i .i64 b)),(13,.ptr 1 0),(62,.d (aK x.b)),(63,.d (.i .i64 x.b.length)),(64,.d (.i .i64 (y.1:Int)))] (.cells 72 [.d (.b (decide (z<0))),.d (aM (aU z.natAbs))]) 75 3 y.2.length (flt eL y.2)) (λy=>x.b.length-y.1) (0,[]) ⟨Al _,rfl⟩ ?_ ?_
      ·simp only[Bq,sM];refine wkQ [2] ?_ ?_<;>simp[-O,upd,aO,Γ0,aE,aK,dY]
      ·rintro⟨j,l⟩ ⟨hj,hl⟩;simp only at hj hl ⊢;by_cases hgo:j<x.b.length
       ·have q1:(j:Int)<x.b.length:=by omega
        have hf:x.b[j]? = some x.b[j]:=Ab hgo;have hw:Ag.wrap ((j:Int)+1)=(j:Int)+1:=aV;have htk:=bCm hgo zn b;rw[hl]at htk;have hll:l.length<=j:=by rw[<-hl];exact An (aFb _ _ _) (by rw[Ax];omega)
        have hfb:=hxb _ (Ar hgo);refine exE x.b[j] λf hfe=>?_
        rw[hfe]at hf htk hfb;have hef:eL f=[.i .i64 f.1,.b (decide (f.2<0)),aM (aU f.2.natAbs)]:=rfl;have hm1:(1:Nat)<=maxLen:=aS (by decide);by_cases h0:f.1=b
        ·have h0':((f.1 != b):Bool)=false:=by simpa using h0
         rw[Ad h0,A7]at htk;have q3:(((b:Int) != (b:Int)):Bool)=false:=by simp
         rcases hn:l.length with _|k
         ·simp only[hn,sM];simp[-O,-X,↓KW,aE,aK,q1,hf,hef,h0,h0',q3,hw,aF,aD,aG,aC,aA,aB];refine aI (τ:=Nat×Ch) (j+1,l) ⟨hgo,htk⟩ (slQ hgo) ?_;simp only[hn,sM];refine wkQ [1] ?_ ?_<;>simp[-O,upd,aO,Γ0,aE,aK,dY]
         ·simp only[hn,sM];simp[-O,-X,↓KW,aE,aK,q1,hf,hef,h0,h0',q3,hw,aF,aD,aG,aC,aA,aB];refine aI (τ:=Nat×Ch) (j+1,l) ⟨hgo,htk⟩ (slQ hgo) ?_;simp only[hn,sM];refine wkQ [1,2] ?_ ?_<;>simp[-O,upd,aO,Γ0,aE,aK,dY]
        ·have h0':((f.1 != b):Bool)=true:=by simpa using h0
         rw[Ac h0]at htk;have hMu:=aMr zn f.2 (uP hzb' (by omega)) (uP hfb (by omega));rcases hn:l.length with _|k
         ·have e0:l=[]:=AE hn;simp only[hn,sM];simp[-O,-X,↓KW,aE,aK,q1,hf,hef,h0,h0',hw,aF,aD,aG,aC,aA,aB];refine aJ hNg ?_;simp[-O,-X,↓KW,aE,aK,aY,q1,hf,hef,h0,h0',hw,aF,aD,aG,aC,aA,aB];refine aJ hMu ?_;simp[-O,-X,↓KW,aE,aK,aY,q1,hf,hef,h0,h0',hw,hm1,aF,aD,aG,aC,aA,aB];refine aI (τ:=Nat×Ch) (j+1,l++[(f.1,zn*f.2)]) ⟨hgo,htk⟩ (slQ hgo) ?_;simp only[Ak,hn,As,sM];refine wkQ [1,4] ?_ ?_<;>simp[-O,upd,aO,Γ0,aE,aK,bE,e0,cG]
         ·have hbb:=cH (n:=k+1) (by omega);have hcl:=bJ dD l;rw[hn]at hcl;have hal:=dB jW l;simp only[hn,sM];simp[-O,-X,↓KW,aE,aK,q1,hf,hef,h0,h0',hw,aF,aD,aG,aC,aA,aB];refine aJ hNg ?_;simp[-O,-X,↓KW,aE,aK,aY,q1,hf,hef,h0,h0',hw,aF,aD,aG,aC,aA,aB];refine aJ hMu ?_;simp[-O,-X,↓KW,aE,aK,aY,q1,hf,hef,h0,h0',hw,hm1,hbb,hcl,hal,aS,aF,aD,aG,aC,aA,aB];refine aI (τ:=Nat×Ch) (j+1,l++[(f.1,zn*f.2)]) ⟨hgo,htk⟩ (slQ hgo) ?_;simp only[Ak,hn,As,sM];refine wkQ [1,5] ?_ ?_<;>simp[-O,upd,aO,Γ0,aE,aK,bE,cX,cG]
       ·have q1:¬(j:Int)<x.b.length:=by omega
        rw[Ai (by omega)]at hl;have hlb:=aQv (n:=b) (z:=zn) hzb' hxb;have hlk:=bCn (n:=b) (z:=zn) hkx;have hlL:=aFb zn b x.b;rw[hl]at hlb hlk hlL hcol;rcases hn:l.length with _|k
        ·have e0:l=[]:=AE hn;simp only[hn,sM];simp[-O,-X,↓KW,aE,aK,q1,aC,aA,aB,aF,aD,aG,↓mO];refine aP (λy:Nat×List Cl=>y.1<=c.length/\kN (c.take y.1) a b=y.2) (λy=>grS 19 [(0,.d (aE c)),(1,.d (.i .i64 a)),(2,.d (.i .i64 b)),(16,.d (aK l)),(84,.d (aE c)),(85,.d (.i .i64 c.length)),(86,.d (.i .i64 (y.1:Int)))] 40 3 y.2.length (flt aN y.2)) (λy=>c.length-y.1) (0,[]) ⟨Al _,rfl⟩ ?_ ?_
         ·simp only[Bq,grS];refine wkQ [] ?_ ?_<;>simp[-O,upd,aO,Γ0,aE,dY,e0,aSw,aOy]
         ·rintro⟨i,out⟩ ⟨hi,ho⟩;simp only at hi ho ⊢;by_cases hgo:i<c.length
          ·have q1:(i:Int)<c.length:=by omega
           have hx:c[i]? = some c[i]:=Ab hgo;have hw:Ag.wrap ((i:Int)+1)=(i:Int)+1:=aV;have htk:=aBp hgo a b;rw[ho]at htk;have hln:out.length<=i:=by rw[<-ho];exact An (zP _ _ _) (by rw[Ax];omega)
           refine exE c[i] λy hye=>?_
           rw[hye]at hx htk;have hyc:aN y=[D.i .i64 y.id,.i .i64 y.dim,aK y.b]:=rfl;have hm1:(1:Nat)<=maxLen:=aS (by decide);by_cases h0:y.id=a
           ·have h0':((y.id != a):Bool)=false:=by simpa using h0
            have hkp:jD a b y=false:=by unfold jD;simp[h0]
            rw[hkp]at htk;simp only[A0,B2,A7]at htk;have q3:(((a:Int) != (a:Int)):Bool)=false:=by simp
            rcases hn:out.length with _|m
            ·simp only[hn,grS];simp[-O,-X,↓KW,aE,q1,hx,hyc,h0,h0',q3,hw,aF,aD,aG,aC,aA,aB];refine aI (τ:=Nat×List Cl) (i+1,out) ⟨hgo,htk⟩ (slQ hgo) ?_;simp only[hn,grS];refine wkQ [] ?_ ?_<;>simp[-O,upd,aO,Γ0,aE,dY]
            ·simp only[hn,grS];simp[-O,-X,↓KW,aE,q1,hx,hyc,h0,h0',q3,hw,aF,aD,aG,aC,aA,aB];refine aI (τ:=Nat×List Cl) (i+1,out) ⟨hgo,htk⟩ (slQ hgo) ?_;simp only[hn,grS];refine wkQ [1] ?_ ?_<;>simp[-O,upd,aO,Γ0,aE,dY]
           ·have h0':((y.id != a):Bool)=true:=by simpa using h0
            by_cases h1:y.id=b
            ·have h1':((y.id != b):Bool)=false:=by simpa using h1
             have hkp:jD a b y=false:=by unfold jD;simp[h1]
             rw[hkp]at htk;simp only[A0,B2,A7]at htk;have q3:(((b:Int) != (b:Int)):Bool)=false:=by simp
             rw[h1]at h0';rcases hn:out.length with _|m
             ·simp only[hn,grS];simp[-O,-X,↓KW,aE,q1,hx,hyc,h1,h0',q3,hw,aF,aD,aG,aC,aA,aB];refine aI (τ:=Nat×List Cl) (i+1,out) ⟨hgo,htk⟩ (slQ hgo) ?_;simp only[hn,grS];refine wkQ [] ?_ ?_<;>simp[-O,upd,aO,Γ0,aE,dY]
             ·simp only[hn,grS];simp[-O,-X,↓KW,aE,q1,hx,hyc,h1,h0',q3,hw,aF,aD,aG,aC,aA,aB];refine aI (τ:=Nat×List Cl) (i+1,out) ⟨hgo,htk⟩ (slQ hgo) ?_;simp only[hn,grS];refine wkQ [1] ?_ ?_<;>simp[-O,upd,aO,Γ0,aE,dY]
            ·have h1':((y.id != b):Bool)=true:=by simpa using h1
             have hkp:jD a b y=true:=by unfold jD;simp[h0,h1]
             rw[hkp,Ad rfl]at htk;rcases hn:out.length with _|m
             ·have e0:out=[]:=AE hn;simp only[hn,grS];simp[-O,-X,↓KW,aE,q1,hx,hyc,h0,h0',h1,h1',hw,hm1,aF,aD,aG,aC,aA,aB];refine aI (τ:=Nat×List Cl) (i+1,out++[y]) ⟨hgo,htk⟩ (slQ hgo) ?_;simp only[Ak,hn,As,grS];refine wkQ [3] ?_ ?_<;>simp[-O,upd,aO,Γ0,aE,aR,e0,cG]
             ·have hbb:=cH (n:=m+1) (by omega);have hcl:=bJ aX out;rw[hn]at hcl;have hal:=dB eR out;simp only[hn,grS];simp[-O,-X,↓KW,aE,q1,hx,hyc,h0,h0',h1,h1',hw,hm1,hbb,hcl,hal,aS,aF,aD,aG,aC,aA,aB];refine aI (τ:=Nat×List Cl) (i+1,out++[y]) ⟨hgo,htk⟩ (slQ hgo) ?_;simp only[Ak,hn,As,grS];refine wkQ [4] ?_ ?_<;>simp[-O,upd,aO,Γ0,aE,aR,cX,cG]
          ·have q1:¬(i:Int)<c.length:=by omega
           rw[Ai (by omega)]at ho;have hM:=zA (l:=l) (e:=e+e) (by rw[<-pG];exact hlb) hlk (by omega) he;refine exE (cF [] l) λr hr=>?_
           rw[hr]at hM;have hMp1:=pA c [(a,[]),(b,r)] (aWh [(a,[]),(b,r)]) rfl (aJx _) (by omega);have hMp2:=pA c [(b,r),(a,[])] (aWh [(b,r),(a,[])]) rfl (aJx _) (by omega);rw[aJv hne]at hMp2;have hmp1:∀v w:AV,sD [(a,v)] b w=[(a,v),(b,w)]:=λv w=>aZb hne v w
           have hmp2:∀v w:AV,sD [(b,v)] a w=[(b,v),(a,w)]:=λv w=>aZb (Ne.symm hne) v w
           rw[hcol,hr,ho];rcases hn:out.length with _|m
           ·have e0:out=[]:=AE hn;simp only[grS];simp[-O,-X,↓KW,aE,q1];refine wK _ _ rfl rfl ?_;simp only[opsL,opL,aEg,xF,mI,Cz,DA,B5,BY,B4,Cc,BP,BN];simp[-O,-X,↓KW,aE,q1,↓dN,↓dO,↓dP,↓cV,↓eE,cC,cI];refine⟨?_,?_⟩
            ·refine aJ hM ?_;simp[-O,-X,↓KW,aE,q1,↓dN,↓dO,↓dP,↓cV,↓eE,cC,cI,dW,hmp1,hmp2,aQ,aT];refine aJ hMp1 ?_;simp[-O,-X,↓KW,aE,q1,↓dN,↓dO,↓dP,↓cV,↓eE,cC,cI,dW,hmp1,hmp2,e0,aQ,aT,cZ,cA,iU,eW,fU,hin]
            ·refine aJ hM ?_;simp[-O,-X,↓KW,aE,q1,↓dN,↓dO,↓dP,↓cV,↓eE,cC,cI,dW,hmp1,hmp2,aQ,aT];refine⟨?_,?_⟩
             ·refine aJ hMp1 ?_;simp[-O,-X,↓KW,aE,q1,↓dN,↓dO,↓dP,↓cV,↓eE,cC,cI,dW,hmp1,hmp2,e0,aQ,aT,cZ,cA,iU,eW,fU,hin]
             ·refine aJ hMp2 ?_;simp[-O,-X,↓KW,aE,q1,↓dN,↓dO,↓dP,↓cV,↓eE,cC,cI,dW,hmp1,hmp2,e0,aQ,aT,cZ,cA,iU,eW,fU,hin]
           ·have e1:=dI aX hn;have e2:=cW (by decide) aX hn;have e3:=bJ aX out;rw[hn]at e3;simp only[grS];simp[-O,-X,↓KW,aE,q1];refine wK _ _ rfl rfl ?_;simp only[opsL,opL,aEg,xF,mI,Cz,DA,B5,BY,B4,Cc,BP,BN];simp[-O,-X,↓KW,aE,q1,↓dN,↓dO,↓dP,↓cV,↓eE,cC,cI];refine⟨?_,?_⟩
            ·refine aJ hM ?_;simp[-O,-X,↓KW,aE,q1,↓dN,↓dO,↓dP,↓cV,↓eE,cC,cI,dW,hmp1,hmp2,aQ,aT];refine aJ hMp1 ?_;simp[-O,-X,↓KW,aE,q1,↓dN,↓dO,↓dP,↓cV,↓eE,cC,cI,dW,hmp1,hmp2,e1,e2,e3,aQ,aT,cZ,cA,iU,eW,fU,hin]
            ·refine aJ hM ?_;simp[-O,-X,↓KW,aE,q1,↓dN,↓dO,↓dP,↓cV,↓eE,cC,cI,dW,hmp1,hmp2,aQ,aT];refine⟨?_,?_⟩
             ·refine aJ hMp1 ?_;simp[-O,-X,↓KW,aE,q1,↓dN,↓dO,↓dP,↓cV,↓eE,cC,cI,dW,hmp1,hmp2,e1,e2,e3,aQ,aT,cZ,cA,iU,eW,fU,hin]
             ·refine aJ hMp2 ?_;simp[-O,-X,↓KW,aE,q1,↓dN,↓dO,↓dP,↓cV,↓eE,cC,cI,dW,hmp1,hmp2,e1,e2,e3,aQ,aT,cZ,cA,iU,eW,fU,hin]
        ·have hfz:∀(H:Hp) (ρ:Nat->Nat),H 2=some (.cells 75 ((flt eL l).map .d))->Sub H (qA 1 []) ρ (.own 2 0 (k+1) 3) (.d (aK l)):=λH ρ hH=>aLq hn hH
         simp only[hn,sM];simp[-O,-X,↓KW,aE,aK,q1,aC,aA,aB,aF,aD,aG,↓mO];refine aP (λy:Nat×List Cl=>y.1<=c.length/\kN (c.take y.1) a b=y.2) (λy=>grS 19 [(0,.d (aE c)),(1,.d (.i .i64 a)),(2,.d (.i .i64 b)),(16,.d (aK l)),(84,.d (aE c)),(85,.d (.i .i64 c.length)),(86,.d (.i .i64 (y.1:Int)))] 40 3 y.2.length (flt aN y.2)) (λy=>c.length-y.1) (0,[]) ⟨Al _,rfl⟩ ?_ ?_
         ·simp only[Bq,grS];refine wkQ [] ?_ ?_<;>simp[-O,upd,aO,Γ0,aE,dY,hfz]
         ·rintro⟨i,out⟩ ⟨hi,ho⟩;simp only at hi ho ⊢;by_cases hgo:i<c.length
          ·have q1:(i:Int)<c.length:=by omega
           have hx:c[i]? = some c[i]:=Ab hgo;have hw:Ag.wrap ((i:Int)+1)=(i:Int)+1:=aV;have htk:=aBp hgo a b;rw[ho]at htk;have hln:out.length<=i:=by rw[<-ho];exact An (zP _ _ _) (by rw[Ax];omega)
           refine exE c[i] λy hye=>?_
           rw[hye]at hx htk;have hyc:aN y=[D.i .i64 y.id,.i .i64 y.dim,aK y.b]:=rfl;have hm1:(1:Nat)<=maxLen:=aS (by decide);by_cases h0:y.id=a
           ·have h0':((y.id != a):Bool)=false:=by simpa using h0
            have hkp:jD a b y=false:=by unfold jD;simp[h0]
            rw[hkp]at htk;simp only[A0,B2,A7]at htk;have q3:(((a:Int) != (a:Int)):Bool)=false:=by simp
            rcases hn:out.length with _|m
            ·simp only[hn,grS];simp[-O,-X,↓KW,aE,q1,hx,hyc,h0,h0',q3,hw,aF,aD,aG,aC,aA,aB];refine aI (τ:=Nat×List Cl) (i+1,out) ⟨hgo,htk⟩ (slQ hgo) ?_;simp only[hn,grS];refine wkQ [] ?_ ?_<;>simp[-O,upd,aO,Γ0,aE,dY]
            ·simp only[hn,grS];simp[-O,-X,↓KW,aE,q1,hx,hyc,h0,h0',q3,hw,aF,aD,aG,aC,aA,aB];refine aI (τ:=Nat×List Cl) (i+1,out) ⟨hgo,htk⟩ (slQ hgo) ?_;simp only[hn,grS];refine wkQ [1] ?_ ?_<;>simp[-O,upd,aO,Γ0,aE,dY]
           ·have h0':((y.id != a):Bool)=true:=by simpa using h0
            by_cases h1:y.id=b
            ·have h1':((y.id != b):Bool)=false:=by simpa using h1
             have hkp:jD a b y=false:=by unfold jD;simp[h1]
             rw[hkp]at htk;simp only[A0,B2,A7]at htk;have q3:(((b:Int) != (b:Int)):Bool)=false:=by simp
             rw[h1]at h0';rcases hn:out.length with _|m
             ·simp only[hn,grS];simp[-O,-X,↓KW,aE,q1,hx,hyc,h1,h0',q3,hw,aF,aD,aG,aC,aA,aB];refine aI (τ:=Nat×List Cl) (i+1,out) ⟨hgo,htk⟩ (slQ hgo) ?_;simp only[hn,grS];refine wkQ [] ?_ ?_<;>simp[-O,upd,aO,Γ0,aE,dY]
             ·simp only[hn,grS];simp[-O,-X,↓KW,aE,q1,hx,hyc,h1,h0',q3,hw,aF,aD,aG,aC,aA,aB];refine aI (τ:=Nat×List Cl) (i+1,out) ⟨hgo,htk⟩ (slQ hgo) ?_;simp only[hn,grS];refine wkQ [1] ?_ ?_<;>simp[-O,upd,aO,Γ0,aE,dY]
            ·have h1':((y.id != b):Bool)=true:=by simpa using h1
             have hkp:jD a b y=true:=by unfold jD;simp[h0,h1]
             rw[hkp,Ad rfl]at htk;rcases hn:out.length with _|m
             ·have e0:out=[]:=AE hn;simp only[hn,grS];simp[-O,-X,↓KW,aE,q1,hx,hyc,h0,h0',h1,h1',hw,hm1,aF,aD,aG,aC,aA,aB];refine aI (τ:=Nat×List Cl) (i+1,out++[y]) ⟨hgo,htk⟩ (slQ hgo) ?_;simp only[Ak,hn,As,grS];refine wkQ [3] ?_ ?_<;>simp[-O,upd,aO,Γ0,aE,aR,e0,cG]
             ·have hbb:=cH (n:=m+1) (by omega);have hcl:=bJ aX out;rw[hn]at hcl;have hal:=dB eR out;simp only[hn,grS];simp[-O,-X,↓KW,aE,q1,hx,hyc,h0,h0',h1,h1',hw,hm1,hbb,hcl,hal,aS,aF,aD,aG,aC,aA,aB];refine aI (τ:=Nat×List Cl) (i+1,out++[y]) ⟨hgo,htk⟩ (slQ hgo) ?_;simp only[Ak,hn,As,grS];refine wkQ [4] ?_ ?_<;>simp[-O,upd,aO,Γ0,aE,aR,cX,cG]
          ·have q1:¬(i:Int)<c.length:=by omega
           rw[Ai (by omega)]at ho;have hM:=zA (l:=l) (e:=e+e) (by rw[<-pG];exact hlb) hlk (by omega) he;refine exE (cF [] l) λr hr=>?_
           rw[hr]at hM;have hMp1:=pA c [(a,[]),(b,r)] (aWh [(a,[]),(b,r)]) rfl (aJx _) (by omega);have hMp2:=pA c [(b,r),(a,[])] (aWh [(b,r),(a,[])]) rfl (aJx _) (by omega);rw[aJv hne]at hMp2;have hmp1:∀v w:AV,sD [(a,v)] b w=[(a,v),(b,w)]:=λv w=>aZb hne v w
           have hmp2:∀v w:AV,sD [(b,v)] a w=[(b,v),(a,w)]:=λv w=>aZb (Ne.symm hne) v w
           rw[hcol,hr,ho];rcases hn:out.length with _|m
           ·have e0:out=[]:=AE hn;simp only[grS];simp[-O,-X,↓KW,aE,q1];refine wK _ _ rfl rfl ?_;simp only[opsL,opL,aEg,xF,mI,Cz,DA,B5,BY,B4,Cc,BP,BN];simp[-O,-X,↓KW,aE,q1,↓dN,↓dO,↓dP,↓cV,↓eE,cC,cI];refine⟨?_,?_⟩
            ·refine aJ hM ?_;simp[-O,-X,↓KW,aE,q1,↓dN,↓dO,↓dP,↓cV,↓eE,cC,cI,dW,hmp1,hmp2,aQ,aT];refine aJ hMp1 ?_;simp[-O,-X,↓KW,aE,q1,↓dN,↓dO,↓dP,↓cV,↓eE,cC,cI,dW,hmp1,hmp2,e0,aQ,aT,cZ,cA,iU,eW,fU,hin]
            ·refine aJ hM ?_;simp[-O,-X,↓KW,aE,q1,↓dN,↓dO,↓dP,↓cV,↓eE,cC,cI,dW,hmp1,hmp2,aQ,aT];refine⟨?_,?_⟩
             ·refine aJ hMp1 ?_;simp[-O,-X,↓KW,aE,q1,↓dN,↓dO,↓dP,↓cV,↓eE,cC,cI,dW,hmp1,hmp2,e0,aQ,aT,cZ,cA,iU,eW,fU,hin]
             ·refine aJ hMp2 ?_;simp[-O,-X,↓KW,aE,q1,↓dN,↓dO,↓dP,↓cV,↓eE,cC,cI,dW,hmp1,hmp2,e0,aQ,aT,cZ,cA,iU,eW,fU,hin]
           ·have e1:=dI aX hn;have e2:=cW (by decide) aX hn;have e3:=bJ aX out;rw[hn]at e3;simp only[grS];simp[-O,-X,↓KW,aE,q1];refine wK _ _ rfl rfl ?_;simp only[opsL,opL,aEg,xF,mI,Cz,DA,B5,BY,B4,Cc,BP,BN];simp[-O,-X,↓KW,aE,q1,↓dN,↓dO,↓dP,↓cV,↓eE,cC,cI];refine⟨?_,?_⟩
            ·refine aJ hM ?_;simp[-O,-X,↓KW,aE,q1,↓dN,↓dO,↓dP,↓cV,↓eE,cC,cI,dW,hmp1,hmp2,aQ,aT];refine aJ hMp1 ?_;simp[-O,-X,↓KW,aE,q1,↓dN,↓dO,↓dP,↓cV,↓eE,cC,cI,dW,hmp1,hmp2,e1,e2,e3,aQ,aT,cZ,cA,iU,eW,fU,hin]
            ·refine aJ hM ?_;simp[-O,-X,↓KW,aE,q1,↓dN,↓dO,↓dP,↓cV,↓eE,cC,cI,dW,hmp1,hmp2,aQ,aT];refine⟨?_,?_⟩
             ·refine aJ hMp1 ?_;simp[-O,-X,↓KW,aE,q1,↓dN,↓dO,↓dP,↓cV,↓eE,cC,cI,dW,hmp1,hmp2,e1,e2,e3,aQ,aT,cZ,cA,iU,eW,fU,hin]
             ·refine aJ hMp2 ?_;simp[-O,-X,↓KW,aE,q1,↓dN,↓dO,↓dP,↓cV,↓eE,cC,cI,dW,hmp1,hmp2,e1,e2,e3,aQ,aT,cZ,cA,iU,eW,fU,hin]
def zJ{α:Type}{f:α->List D}{k:Nat}(h:∀x,(f x).length=k):∀(l:List α) (i c:Nat) (x y:α) (v:D),l[i]? = some x->c<k->f y=(f x).set c v->(flt f l).set (i*k+c) v=flt f (l.set i y)
 |[],i,c,x,y,v,hx,_,_=>by simp at hx
 |z::l,0,c,x,y,v,hx,hc,hy=>by simp at hx;subst hx;rw[show flt f (z::l)=f z++flt f l from by simp[flt],CW,show flt f (y::l)=f y++flt f l from by simp[flt],Cn,A6,List.set_append_left _ _ (by rw[h];exact hc),hy]
 |z::l,i+1,c,x,y,v,hx,hc,hy=>by rw[show flt f (z::l)=f z++flt f l from by simp[flt],List.set_cons_succ,show flt f (z::l.set i y)=f z++flt f (l.set i y)from by simp[flt],C3 _ _ (by rw[h,By];omega),h,show(i+1)*k+c-k=i*k+c by rw[By];omega,zJ h l i c x y v (by simpa using hx) hc hy]
def xJ(n:Int):Spec Aa 83 [.i .i64 n] (aK [(n,1)]):=by refine bF (N:=7) Tryz.func83 ?_;have hO:=tE 1 (by decide) (by decide);simp[-O,-X,↓KW];refine aJ hO ?_;simp[-O,-X,↓KW,aK,bE,aY,aF,aD,aG]
def bJi{c:List Cl}{i:Nat}(h:i<c.length):eF (c.take (i+1)) []=eF (c.take i) []++[(c[i].id,[(c[i].id,1)])]:=aJu h []
def aAw{c:List Cl}(hl:c.length<=1000000):Spec Aa 87 [aE c] (dJ (eF c [])):=by
 refine bF (N:=28) Tryz.func87 ?_;simp[-O,-X,↓KW,aE];refine aP (λy:Nat×List (Int×Ch)=>y.1<=c.length/\y.2.length=y.1/\eF (c.take y.1) []=y.2) (λy=>StL [(0,.d (aE c)),(3,.own 1 0 y.2.length 2),(4,.d (.i .i64 (y.1:Int)))] none [.cells 164 ((flt pT y.2).map .d)]) (λy=>c.length-y.1) (0,[]) ⟨Al _,rfl,rfl⟩ ?_ ?_
 ·refine wkQ [1] ?_ ?_<;>simp[-O,upd,aO,Γ0,aE,wA]
 ·rintro⟨i,out⟩ ⟨hi,hoi,ho⟩;simp only at hi hoi ho ⊢;by_cases hgo:i<c.length
  ·have q1:(i:Int)<c.length:=by omega
   have hx:c[i]? = some c[i]:=Ab hgo;have hw:Ag.wrap ((i:Int)+1)=(i:Int)+1:=aV;have htk:=bJi hgo;rw[ho]at htk;refine exE c[i] λx hxe=>?_
   rw[hxe]at hx htk;have hyc:aN x=[D.i .i64 x.id,.i .i64 x.dim,aK x.b]:=rfl;have hO:=xJ x.id;have hcl:=bJ fO out;have hal:=dB aBm out;have hbb:=uV (n:=out.length) (by omega);simp[-O,-X,↓KW,aE,q1,hx,hyc,aC,aA,aB];refine aJ hO ?_;simp[-O,-X,↓KW,aE,q1,hx,hyc,hw,hcl,hal,hbb,aS,aC,aA,aB,aQ,aT];refine aI (τ:=Nat×List (Int×Ch)) (i+1,out++[(x.id,[(x.id,1)])]) ⟨hgo,by rw[Ak,hoi];rfl,htk⟩ (slQ hgo) ?_;simp only[Ak,As,cX,cG,uN];refine wkQ [3] ?_ ?_<;>simp[-O,upd,aO,Γ0,aE]
  ·have q1:¬(i:Int)<c.length:=by omega
   rw[Ai (by omega)]at ho;have e1:=dI fO (rfl:out.length=out.length);have e2:=cW (by decide) fO (rfl:out.length=out.length);have e3:=bJ fO out;simp[-O,-X,↓KW,aE,q1,e1,e2,e3,ho,dJ]
def mS(m:List (Int×Ch))(n:Int)(x:Ch):List (Int×Ch):=m.map λp=>if p.1=n then(p.1,x)else p
def eP(x:Ch)(n:Int):Int:=((x.find? λf=>decide (f.1=n)).map (·.2)).getD 0
def aWk{x:Ch}{i:Nat}(h:i<x.length)(n:Int):eP (x.drop i) n=if x[i].1=n then x[i].2 else eP (x.drop (i+1)) n:=by unfold eP;rw[AP h,DN];by_cases e:x[i].1=n<;>simp[e]
def vM{x:Ch}(n:Int)(hl:x.length<=1000000):Spec Aa 77 [aK x,.i .i64 n] (encZ (eP x n)):=by
 refine bF (N:=25) Tryz.func77 ?_;simp[-O,-X,↓KW,aK];refine aP (λi:Nat=>i<=x.length/\eP (x.drop i) n=eP x n) (λi=>StL [(0,.d (aK x)),(1,.d (.i .i64 n)),(4,.ptr 1 0),(5,.d (.i .i64 (i:Int)))] none [.cells 72 [.d (.b false),.nil]]) (λi=>x.length-i) 0 ⟨Al _,rfl⟩ ?_ ?_
 ·refine wkQ [1] ?_ ?_<;>simp[-O,upd,aO,Γ0,aK]
 ·rintro i ⟨hi,hd⟩;by_cases hgo:i<x.length
  ·have q1:(i:Int)<x.length:=by omega
   have hf:x[i]? = some x[i]:=Ab hgo;have hw:Ag.wrap ((i:Int)+1)=(i:Int)+1:=aV;rw[aWk hgo]at hd;refine exE x[i] λf hfe=>?_
   rw[hfe]at hf hd;have hef:eL f=[.i .i64 f.1,.b (decide (f.2<0)),aM (aU f.2.natAbs)]:=rfl;by_cases h0:f.1=n
   ·rw[Ad h0]at hd;have q3:(((n:Int)==(n:Int)):Bool)=true:=by simp
    simp[-O,-X,↓KW,aK,q1,hf,hef,h0,q3,aY,<-hd,aF,aD,aG]
   ·rw[Ac h0]at hd;have h0':((f.1==n):Bool)=false:=by simpa using h0
    simp[-O,-X,↓KW,aK,q1,hf,hef,h0,h0',hw,aF,aD,aG];refine aI (i+1) ⟨hgo,hd⟩ (slQ hgo) (wkQ [1] ?_ ?_)<;>simp[-O,upd,aO,Γ0,aK]
  ·have q1:¬(i:Int)<x.length:=by omega
   have h0:eP x n=0:=by rw[<-hd,B8 (by omega)];rfl
   have h1:aM (aU 0)=.sl []:=by rw[dH];rfl
   simp[-O,-X,↓KW,aK,q1,h0,aY,h1]
def aGe{α:Type}{f:α->List D}{k:Nat}(h:∀x,(f x).length=k):∀(l:List α) (j c:Nat) (x:α),l[j]? = some x->c<k->(flt f l)[j*k+c]? = (f x)[c]?
 |[],j,c,x,hx,_=>by simp at hx
 |y::l,0,c,x,hx,hc=>by simp at hx;subst hx;rw[Cn,A6,show flt f (y::l)=f y++flt f l from by simp[flt],List.getElem?_append_left (by rw[h];exact hc)]
 |y::l,j+1,c,x,hx,hc=>by rw[show flt f (y::l)=f y++flt f l from by simp[flt],Az (by rw[h,By];omega),h,show(j+1)*k+c-k=j*k+c by rw[By];omega];exact aGe h l j c x (by simpa using hx) hc
def aCm(m:List (Int×Ch))(n:Int)(x:Ch)(i:Nat):List (Int×Ch):=mS (m.take i) n x++m.drop i
def aDd{m:List (Int×Ch)}(n:Int)(x:Ch)(hl:m.length<=1000000):Spec Aa 86 [dJ m,.i .i64 n,aK x] (dJ (mS m n x)):=by
 refine bF (N:=31) Tryz.func86 ?_;have hbb:m.length*32<=140737488355328/\m.length<=maxLen:=⟨by omega,aS (by omega)⟩;have hal:=EI (λ(a:D) (ha:a∈flt pT m)=>Ay.1 (dB aBm m) (.d a) (AA.2 ⟨a,ha,rfl⟩));have hff:=iR pT m;have hcl:=bJ fO m;have hok:fB 2 (m.map pT)=true:=by cases m<;>simp[fB,fO]
 simp[-O,-X,↓KW,dJ,hbb,uW,hff,hok,hal];refine aP (λi:Nat=>i<=m.length) (λi=>StL [(0,.d (dJ m)),(1,.d (.i .i64 n)),(2,.d (aK x)),(7,.own 1 0 m.length 2),(8,.d (.i .i64 (i:Int)))] none [.cells 164 ((flt pT (aCm m n x i)).map .d)]) (λi=>m.length-i) 0 (Al _) ?_ ?_
 ·have e0:aCm m n x 0=m:=rfl;rw[e0];refine wkQ [2] ?_ ?_<;>simp[-O,upd,aO,Γ0,dJ,aK]
 ·intro i hi;have hwl:(aCm m n x i).length=m.length:=by unfold aCm mS;rw[Ak,AL,Ax,Bl];omega
  by_cases hgo:i<m.length
  ·have q1:(i:Int)<m.length:=by omega
   have hw:Ag.wrap ((i:Int)+1)=(i:Int)+1:=aV;have hx:(aCm m n x i)[i]? = some m[i]:=by unfold aCm;rw[Az (by unfold mS;rw[AL,Ax];omega)];simp[mS,Ax,BR hi,hgo]
   have hnx:aCm m n x (i+1)=(aCm m n x i).set i (if m[i].1=n then(m[i].1,x)else m[i]):=by unfold aCm mS;rw[AM,Ab hgo,Bu,C3 _ _ (by rw[AL,Ax];omega),AP hgo,AL,Ax,BR hi,Cx,CW];simp
   refine exE m[i] λp hpe=>?_
   rw[hpe]at hx hnx;refine exE (aCm m n x i) λL hLe=>?_
   rw[hLe]at hx hnx hwl;simp only[hLe,hnx];have c0:(flt pT L)[i*2]? = some (.i .i64 p.1):=aGe fO L i 0 p hx (by decide);have hcl:=bJ fO L;rw[hwl]at hcl;by_cases h0:p.1=n
   ·have q3:(((n:Int)==(n:Int)):Bool)=true:=by simp
    rw[Ad h0]at hnx;have hst:lay ((flt pT L).map AV.d) (i*2+1) [.d (aK x)]=(flt pT (L.set i (p.1,x))).map .d:=by rw[oQ _ _ _ (by omega),zJ fO L i 1 p (p.1,x) _ hx (by decide) rfl]
    have hli:i*2+1+1<=m.length*2:=by omega
    rw[h0]at hst;simp[-O,-X,↓KW,dJ,aB,aC,aA,q1,hw,h0,q3,c0,hcl,hst,hli];refine aI (i+1) hgo (slQ hgo) ?_;rw[hnx];refine wkQ [1] ?_ ?_<;>simp[-O,upd,aO,Γ0,dJ,aK,h0]
   ·have h0':((p.1==n):Bool)=false:=by simpa using h0
    have hset:L.set i p=L:=by obtain⟨h1,h2⟩:=Ah.1 hx;rw[<-h2];exact EF h1
    rw[Ac h0,hset]at hnx;simp[-O,-X,↓KW,dJ,aB,q1,hw,h0,h0',c0,hcl];refine aI (i+1) hgo (slQ hgo) ?_;rw[hnx];refine wkQ [1] ?_ ?_<;>simp[-O,upd,aO,Γ0,dJ,aK]
  ·have q1:¬(i:Int)<m.length:=by omega
   have hfin:aCm m n x i=mS m n x:=by unfold aCm;rw[Ai (by omega),B8 (by omega),A7]
   rw[hfin]at hwl ⊢;have e1:=dI fO hwl;have e2:=cW (by decide) fO hwl;have e3:=bJ fO (mS m n x);rw[hwl]at e3;simp[-O,-X,↓KW,dJ,q1,e1,e2,e3]
def aEu{c:List Cl}(a b:Int)(hl:c.length<=1000000):Spec Aa 84 [aE c,.ag [.i .i64 a,.i .i64 b]] (aE (kN c a b)):=by
 refine bF (N:=40) Tryz.func84 ?_;simp[-O,-X,↓KW,aE];refine aP (λy:Nat×List Cl=>y.1<=c.length/\kN (c.take y.1) a b=y.2) (λy=>StL [(0,.d (aE c)),(3,.ptr 1 0),(5,.own 2 0 y.2.length 3),(6,.d (.i .i64 (y.1:Int)))] none [.cells 41 [.d (.i .i64 a),.d (.i .i64 b)],.cells 40 ((flt aN y.2).map .d)]) (λy=>c.length-y.1) (0,[]) ⟨Al _,rfl⟩ ?_ ?_
 ·refine wkQ [1,2] ?_ ?_<;>simp[-O,upd,aO,Γ0,aE,wA]
 ·rintro⟨i,out⟩ ⟨hi,ho⟩;simp only at hi ho ⊢;by_cases hgo:i<c.length
  ·have q1:(i:Int)<c.length:=by omega
   have hx:c[i]? = some c[i]:=Ab hgo;have hw:Ag.wrap ((i:Int)+1)=(i:Int)+1:=aV;have htk:=aBp hgo a b;rw[ho]at htk;have hln:out.length<=i:=by rw[<-ho];exact An (zP _ _ _) (by rw[Ax];omega)
   refine exE c[i] λy hye=>?_
   rw[hye]at hx htk;have hyc:aN y=[D.i .i64 y.id,.i .i64 y.dim,aK y.b]:=rfl;have hm1:(1:Nat)<=maxLen:=aS (by decide);by_cases h0:y.id=a
   ·have h0':((y.id != a):Bool)=false:=by simpa using h0
    have hkp:jD a b y=false:=by unfold jD;simp[h0]
    rw[hkp]at htk;simp only[A0,B2,A7]at htk;have q3:(((a:Int) != (a:Int)):Bool)=false:=by simp
    simp[-O,-X,↓KW,aE,q1,hx,hyc,h0,h0',q3,hw,aC,aA,aB];refine aI (τ:=Nat×List Cl) (i+1,out) ⟨hgo,htk⟩ (slQ hgo) (wkQ [1,2] ?_ ?_)<;>simp[-O,upd,aO,Γ0,aE]
   ·have h0':((y.id != a):Bool)=true:=by simpa using h0
    by_cases h1:y.id=b
    ·have h1':((y.id != b):Bool)=false:=by simpa using h1
     have hkp:jD a b y=false:=by unfold jD;simp[h1]
     rw[hkp]at htk;simp only[A0,B2,A7]at htk;have q3:(((b:Int) != (b:Int)):Bool)=false:=by simp
     rw[h1]at h0';simp[-O,-X,↓KW,aE,q1,hx,hyc,h1,h0',q3,hw,aC,aA,aB];refine aI (τ:=Nat×List Cl) (i+1,out) ⟨hgo,htk⟩ (slQ hgo) (wkQ [1,2] ?_ ?_)<;>simp[-O,upd,aO,Γ0,aE]
    ·have h1':((y.id != b):Bool)=true:=by simpa using h1
     have hkp:jD a b y=true:=by unfold jD;simp[h0,h1]
     rw[hkp,Ad rfl]at htk;have hbb:=cH (n:=out.length) (by omega);have hcl:=bJ aX out;have hal:=dB eR out;simp[-O,-X,↓KW,aE,q1,hx,hyc,h0,h0',h1,h1',hw,hm1,hbb,hcl,hal,aS,aC,aA,aB];refine aI (τ:=Nat×List Cl) (i+1,out++[y]) ⟨hgo,htk⟩ (slQ hgo) ?_;simp only[Ak,As,cX,cG,aR];refine wkQ [1,4] ?_ ?_<;>simp[-O,upd,aO,Γ0,aE]
  ·have q1:¬(i:Int)<c.length:=by omega
   rw[Ai (by omega)]at ho;have e1:=dI aX (rfl:out.length=out.length);have e2:=cW (by decide) aX (rfl:out.length=out.length);have e3:=bJ aX out;simp[-O,-X,↓KW,aE,q1,e1,e2,e3,ho]
def aKk(x:Int×Int):(eL x).length=3:=rfl
def aKj(x:Int×Int):((eL x).map AV.d).all one=true:=rfl
def aMk{J:Nat->AV}{H:Hp}{n0 k n sz:Nat}{e:TypeId}{cs:List D}(hH:H k=some (.cells e (cs.map .d)))(m:Nat)(hm:0<m):Wk ⟨upd J 0 (.own k 0 n sz),H,n0⟩ (gR (λm=>.own m 0 n sz) (λ_=>[.cells e (cs.map .d)]) m) (λ_=>k):=by
 refine⟨λid hid=>?_,λt'=>?_,λid o' ho=>?_,λid id' h1 h2 _=>?_,λh=>?_,λh=>?_⟩
 ·simp only[gR,gJ]at hid ⊢;rw[Ac (by simp at hid ⊢;omega)]
 ·by_cases h:t'=0
  ·subst h;show Sub H _ _ (upd J 0 (.own k 0 n sz) 0) (upd (λ_=>.any) 0 (.own m 0 n sz) 0);rw[dC,dC];exact⟨rfl,rfl,rfl,rfl,by simp[gR,gJ]⟩
  ·simp only[gR,upd,Ac h];exact oN _
 ·simp only[gR,gJ]at ho;split at ho
  ·rename_i hid;simp at hid;obtain rfl:id=m:=by omega
   simp at ho;subst ho;refine⟨_,hH,fM.2 ⟨rfl,fQ.2 ⟨rfl,λk x y h1 h2=>?_⟩⟩⟩;rw[h1]at h2;injection h2 with h2;subst h2
   rw[Aw]at h1;obtain⟨d,_,rfl⟩:=Option.map_eq_some_iff.1 h1;exact(kL _ _).2 rfl
  ·cases ho
 ·simp only[gR,gJ]at h1 h2;split at h1
  ·split at h2
   ·simp at *;omega
   ·cases h2
  ·cases h1
 ·simp only[gR,gJ]at h;split at h
  ·simp at *;omega
  ·cases h
 ·simp only[gR]at h;simp at h
def aYs{J:Nat->AV}{H:Hp}{n0:Nat}{x:AV}(hx:frz H 8 x=some (.sl []))(m:Nat)(hm:0<m):Wk ⟨upd J 0 x,H,n0⟩ (gR (λ_=>.d (.sl [])) (λ_=>[]) m) (λ_=>0):=by
 refine⟨λid hid=>?_,λt'=>?_,λid o' ho=>?_,λid id' h1 h2 _=>?_,λh=>?_,λh=>?_⟩
 ·simp[gR,gJ]
 ·by_cases h:t'=0
  ·subst h;show Sub H _ _ (upd J 0 x 0) (upd (λ_=>.any) 0 (.d (.sl [])) 0);rw[dC,dC];exact qE hx λa _ id hid=>by simp[gR,gJ]at hid
  ·simp only[gR,upd,Ac h];exact oN _
 ·simp[gR,gJ]at ho
 ·simp[gR,gJ]at h1
 ·simp[gR,gJ]at h
 ·simp only[gR]at h;simp at h;omega
def bUk:pX Aa 216 [aK []] (λ_=>.d (aK [])) (λ_=>[]):=by refine lZ (N:=8) bN Tryz.func216 rfl rfl rfl (by decide) (by kernel_rfl) (by kernel_rfl) (by simp) rfl ?_;simp[-O,-X,↓KW,aK];refine⟨λm hm=>⟨_,aYs rfl m hm⟩,λm hm=>⟨_,aYs ?_ m hm⟩⟩;simp[jA,fG,chunk]
def bZl{l:Ch}(h0:l≠[])(hl:l.length<=1000000):pX Aa 216 [aK l] (λm=>.own m 0 l.length 3) (λ_=>[.cells 75 ((flt eL l).map .d)]):=by
 refine lZ (N:=8) bN Tryz.func216 rfl rfl rfl (by decide) (by kernel_rfl) (by kernel_rfl) (by simp) rfl ?_;obtain⟨x,r,rfl⟩:=List.exists_cons_of_ne_nil h0;obtain⟨a,t,hE,hcond,hval,hlen⟩:∃a t,aK (x::r)=.sl (a::t)/\(a.length=3/\(∀x,x∈a->one (AV.d x)=true)/\∀x,x∈t->∀y,y∈x->one (AV.d y)=true)/\AQ AV.d a++(t.map (AQ AV.d)).flatten=(flt eL (x::r)).map .d/\t.length+1=(x::r).length:=by
  have h1:∀x:Int×Int,∀y∈eL x,one (AV.d y)=true:=λx y hy=>by have:=Ay.1 (aKj x) (.d y) (AA.2 ⟨y,hy,rfl⟩);exact this
  refine⟨eL x,r.map eL,rfl,⟨rfl,h1 x,λz hz y hy=>?_⟩,?_,by simp⟩
  ·obtain⟨w,_,rfl⟩:=AA.1 hz;exact h1 w y hy
  ·simp[flt,DB]
 have hall:∀y,y∈flt eL (x::r)->one (AV.d y)=true:=λy hy=>Ay.1 (dB aKj (x::r)) (.d y) (AA.2 ⟨y,hy,rfl⟩)
 have e1:=bJ aKk (x::r);have e2:((flt eL (x::r)).map AV.d).take ((x::r).length*3)=(flt eL (x::r)).map AV.d:=dI aKk rfl;generalize hL:x::r=l at *;have hall':=EI hall;have hbb:l.length*40<=140737488355328/\l.length<=maxLen:=⟨by omega,aS (by omega)⟩;rw[hE];simp[-O,-X,↓KW,hcond,hval,hlen,hbb,uW,hall'];refine λm hm=>⟨_,aMk ?_ m hm⟩
 simp[fG]
def mT(n:Int)(y:Ch)(z:Cl):Cl:=if eP z.b n=0 then z else⟨z.id,z.dim,plM (eP z.b n) z.b y⟩
def qR(c:List Cl)(n:Int)(y:Ch):List Cl:=c.map (mT n y)
def oO(c:List Cl)(n:Int)(y:Ch)(i:Nat):List Cl:=(c.take i).map (mT n y)++c.drop i
def aKm{x:Ch}{M:Nat}(h:Bnd M x)(n:Int):(eP x n).natAbs<=M:=by
 unfold eP;cases e:x.find? λf=>decide (f.1=n)with
 |none=>exact Al _
 |some f=>exact h f (List.mem_of_find?_eq_some e)
def aCy(n:Int):((n.sign != 0):Bool)=!decide (n=0):=by
 by_cases h:n=0
 ·subst h;rfl
 ·have:n.sign≠0:=λe=>h (Dw.1 e)
  simp[this,h]
def aPv{c:List Cl}{e f:Nat}(n:Int)(y:Ch)(hz:SzX e c)(hy:Bnd (2^f) y)(hyl:y.length<=1048576)(he:e+f+e+2<4398046511104):Spec Aa 85 [aE c,.i .i64 n,aK y] (aE (qR c n y)):=by
 have hlen:=hz.len;refine bF (N:=42) Tryz.func85 ?_;have hbb:c.length*40<=140737488355328/\c.length<=maxLen:=⟨by omega,aS (by omega)⟩;have hal:=EI (λ(a:D) (ha:a∈flt aN c)=>Ay.1 (dB eR c) (.d a) (AA.2 ⟨a,ha,rfl⟩));have hff:=iR aN c;have hok:=eJ c;simp[-O,-X,↓KW,aE,hbb,uW,hff,hok,hal];refine aP (λi:Nat=>i<=c.length) (λi=>StL [(0,.d (aE c)),(1,.d (.i .i64 n)),(2,.d (aK y)),(7,.own 1 0 c.length 3),(8,.d (.i .i64 (i:Int)))] none [.cells 40 ((flt aN (oO c n y i)).map .d)]) (λi=>c.length-i) 0 (Al _) ?_ ?_
 ·have e0:oO c n y 0=c:=rfl;rw[e0];refine wkQ [2] ?_ ?_<;>simp[-O,upd,aO,Γ0,aE,aK]
 ·intro i hi;have hwl:(oO c n y i).length=c.length:=by unfold oO;rw[Ak,AL,Ax,Bl];omega
  by_cases hgo:i<c.length
  ·have q1:(i:Int)<c.length:=by omega
   have hw:Ag.wrap ((i:Int)+1)=(i:Int)+1:=aV;have hx:(oO c n y i)[i]? = some c[i]:=by unfold oO;rw[Az (by rw[AL,Ax];omega)];simp[Ax,BR hi,hgo]
   have hnx:oO c n y (i+1)=(oO c n y i).set i (mT n y c[i]):=by unfold oO;rw[AM,Ab hgo,Bu,C3 _ _ (by rw[AL,Ax];omega),AP hgo,AL,Ax,BR hi,Cx,CW];simp
   have hzl:=hz.bl _ (Ar hgo);have hzb:=hz.bb _ (Ar hgo);refine exE c[i] λz hze=>?_
   rw[hze]at hx hnx hzl hzb;refine exE (oO c n y i) λL hLe=>?_
   rw[hLe]at hx hnx hwl;simp only[hLe];have c2:(flt aN L)[i*3+2]? = some (aK z.b):=aGe aX L i 2 z hx (by decide);have hcl:=bJ aX L;rw[hwl]at hcl;have hCo:=vM (x:=z.b) n (by omega);have hcb:=aKm hzb n;have hPl:=nG (k:=eP z.b n) hzb hy hcb (by omega) (by omega) (by omega) hyl;have hSg:=fH (eP z.b n);have hsn:=aCy (eP z.b n);have hli:i*3+2+1<=c.length*3:=by omega
   refine exE (eP z.b n) λk hke=>?_
   have hrc:mT n y z=if k=0 then z else⟨z.id,z.dim,plM k z.b y⟩:=by unfold mT;rw[hke]
   rw[hke]at hCo hPl hSg hsn;rw[hrc]at hnx;simp[-O,-X,↓KW,aE,q1,c2,hcl,aC,aA,aB];refine aJ hCo ?_;simp[-O,-X,↓KW,aE,aY,q1,c2,hcl,aC,aA,aB,aF,aD,aG];refine aJ hSg ?_;by_cases h0:k=0
   ·rw[Ad h0]at hnx;rw[Bx h0]at hsn;have hset:L.set i z=L:=by obtain⟨h1,h2⟩:=Ah.1 hx;rw[<-h2];exact EF h1
    rw[hset]at hnx;have hsn':((k.sign != 0):Bool)=false:=hsn;simp[-O,-X,↓KW,aE,aY,hsn',hw,aC,aA,aB,aF,aD,aG];refine aI (i+1) hgo (slQ hgo) ?_;rw[hnx];refine wkQ [1] ?_ ?_<;>simp[-O,upd,aO,Γ0,aE,aK]
   ·rw[Ac h0]at hnx;rw[Bo h0]at hsn;have hst:lay ((flt aN L).map AV.d) (i*3+2) [.d (aK (plM k z.b y))]=(flt aN (L.set i ⟨z.id,z.dim,plM k z.b y⟩)).map .d:=by rw[oQ _ _ _ (by omega),zJ aX L i 2 z ⟨z.id,z.dim,plM k z.b y⟩ _ hx (by decide) rfl]
    have hsn':((k.sign != 0):Bool)=true:=hsn;simp[-O,-X,↓KW,aE,aY,hsn',q1,c2,hcl,aC,aA,aB,aF,aD,aG];refine aJ hPl ?_;simp[-O,-X,↓KW,aE,aY,hw,q1,c2,hcl,hst,hli,aQ,aT,aC,aA,aB,aF,aD,aG];refine aI (i+1) hgo (slQ hgo) ?_;rw[hnx];refine wkQ [1] ?_ ?_<;>simp[-O,upd,aO,Γ0,aE,aK]
  ·have q1:¬(i:Int)<c.length:=by omega
   have hfin:oO c n y i=qR c n y:=by unfold oO qR;rw[Ai (by omega),B8 (by omega),A7]
   rw[hfin]at hwl ⊢;have e1:=dI aX hwl;have e2:=cW (by decide) aX hwl;have e3:=bJ aX (qR c n y);rw[hwl]at e3;simp[-O,-X,↓KW,aE,q1,e1,e2,e3]
def aMa{c:List Cl}{e f:Nat}(n:Int)(y:Ch)(hz:SzX e c)(hy:Bnd (2^f) y)(hyl:y.length<=1048576)(he:e+f+e+2<4398046511104):pX Aa 85 [aE c,.i .i64 n,aK y] (λm=>.own m 0 c.length 3) (λ_=>[.cells 40 ((flt aN (qR c n y)).map .d)]):=by
 have hlen:=hz.len;refine lZ (N:=42) bN Tryz.func85 rfl rfl rfl (by decide) (by kernel_rfl) (by kernel_rfl) (by simp) rfl ?_;have hbb:c.length*40<=140737488355328/\c.length<=maxLen:=⟨by omega,aS (by omega)⟩;have hal:=EI (λ(a:D) (ha:a∈flt aN c)=>Ay.1 (dB eR c) (.d a) (AA.2 ⟨a,ha,rfl⟩));have hff:=iR aN c;have hok:=eJ c;simp[-O,-X,↓KW,aE,hbb,uW,hff,hok,hal];refine aP (λi:Nat=>i<=c.length) (λi=>StL [(0,.d (aE c)),(1,.d (.i .i64 n)),(2,.d (aK y)),(7,.own 1 0 c.length 3),(8,.d (.i .i64 (i:Int)))] none [.cells 40 ((flt aN (oO c n y i)).map .d)]) (λi=>c.length-i) 0 (Al _) ?_ ?_
 ·have e0:oO c n y 0=c:=rfl;rw[e0];refine wkQ [2] ?_ ?_<;>simp[-O,upd,aO,Γ0,aE,aK]
 ·intro i hi;have hwl:(oO c n y i).length=c.length:=by unfold oO;rw[Ak,AL,Ax,Bl];omega
  by_cases hgo:i<c.length
  ·have q1:(i:Int)<c.length:=by omega
   have hw:Ag.wrap ((i:Int)+1)=(i:Int)+1:=aV;have hx:(oO c n y i)[i]? = some c[i]:=by unfold oO;rw[Az (by rw[AL,Ax];omega)];simp[Ax,BR hi,hgo]
   have hnx:oO c n y (i+1)=(oO c n y i).set i (mT n y c[i]):=by unfold oO;rw[AM,Ab hgo,Bu,C3 _ _ (by rw[AL,Ax];omega),AP hgo,AL,Ax,BR hi,Cx,CW];simp
   have hzl:=hz.bl _ (Ar hgo);have hzb:=hz.bb _ (Ar hgo);refine exE c[i] λz hze=>?_
   rw[hze]at hx hnx hzl hzb;refine exE (oO c n y i) λL hLe=>?_
   rw[hLe]at hx hnx hwl;simp only[hLe];have c2:(flt aN L)[i*3+2]? = some (aK z.b):=aGe aX L i 2 z hx (by decide);have hcl:=bJ aX L;rw[hwl]at hcl;have hCo:=vM (x:=z.b) n (by omega);have hcb:=aKm hzb n;have hPl:=nG (k:=eP z.b n) hzb hy hcb (by omega) (by omega) (by omega) hyl;have hSg:=fH (eP z.b n);have hsn:=aCy (eP z.b n);have hli:i*3+2+1<=c.length*3:=by omega
   refine exE (eP z.b n) λk hke=>?_
   have hrc:mT n y z=if k=0 then z else⟨z.id,z.dim,plM k z.b y⟩:=by unfold mT;rw[hke]
   rw[hke]at hCo hPl hSg hsn;rw[hrc]at hnx;simp[-O,-X,↓KW,aE,q1,c2,hcl,aC,aA,aB];refine aJ hCo ?_;simp[-O,-X,↓KW,aE,aY,q1,c2,hcl,aC,aA,aB,aF,aD,aG];refine aJ hSg ?_;by_cases h0:k=0
   ·rw[Ad h0]at hnx;rw[Bx h0]at hsn;have hset:L.set i z=L:=by obtain⟨h1,h2⟩:=Ah.1 hx;rw[<-h2];exact EF h1
    rw[hset]at hnx;have hsn':((k.sign != 0):Bool)=false:=hsn;simp[-O,-X,↓KW,aE,aY,hsn',hw,aC,aA,aB,aF,aD,aG];refine aI (i+1) hgo (slQ hgo) ?_;rw[hnx];refine wkQ [1] ?_ ?_<;>simp[-O,upd,aO,Γ0,aE,aK]
   ·rw[Ac h0]at hnx;rw[Bo h0]at hsn;have hst:lay ((flt aN L).map AV.d) (i*3+2) [.d (aK (plM k z.b y))]=(flt aN (L.set i ⟨z.id,z.dim,plM k z.b y⟩)).map .d:=by rw[oQ _ _ _ (by omega),zJ aX L i 2 z ⟨z.id,z.dim,plM k z.b y⟩ _ hx (by decide) rfl]
    have hsn':((k.sign != 0):Bool)=true:=hsn;simp[-O,-X,↓KW,aE,aY,hsn',q1,c2,hcl,aC,aA,aB,aF,aD,aG];refine aJ hPl ?_;simp[-O,-X,↓KW,aE,aY,hw,q1,c2,hcl,hst,hli,aQ,aT,aC,aA,aB,aF,aD,aG];refine aI (i+1) hgo (slQ hgo) ?_;rw[hnx];refine wkQ [1] ?_ ?_<;>simp[-O,upd,aO,Γ0,aE,aK]
  ·have q1:¬(i:Int)<c.length:=by omega
   have hfin:oO c n y i=qR c n y:=by unfold oO qR;rw[Ai (by omega),B8 (by omega),A7]
   rw[hfin]at hwl ⊢;simp[-O,-X,↓KW,aE,q1];refine λm hm=>⟨_,aMk ?_ m hm⟩
   simp[qA]
def bIm{P:Program}{dst:Option Tmp}{ty:TypeId}{pos:String}{after:Array Edge}{guard:Option (Nat×Bool)}{σ:St}{con:List Nat}{k:St->List Nat->Prop}{f:FuncId}{args:List Operand}{ts:Array TypeId}
  {d:Dm ((⟨dst,.call ⟨.value (.func f),args.toArray,ts⟩,ty,pos,after,guard⟩:Oper),k)} (ds:List D) (r:D) (hm:bB P f=false) (hnk:∀g id,args.map (oev σ.J)≠[.kf g id]) (hfr:fW σ.H (args.map (oev σ.J))=some ds) (hsp:Spec P f ds r)
  (hk:k ⟨bT σ.J dst (inj r),kill (bS σ.H (args.map (oev σ.J)) r) σ.H,σ.n⟩ (bS σ.H (args.map (oev σ.J)) r++con)):O1d P ⟨dst,.call ⟨.value (.func f),args.toArray,ts⟩,ty,pos,after,guard⟩ σ con k d:=by
 show OC P f args.toArray dst σ con k
 unfold OC
 simp only[hm,A0,B2]
 refine .inr ?_
 first|exact⟨ds,r,hfr,hsp,hk⟩|(split<;>first|exact⟨ds,r,hfr,hsp,hk⟩|(rename_i g id h;exact(hnk g id h).elim))
def lO(r:List Cl×List (Int×Ch)×Int):D:=.ag [aE r.1,dJ r.2.1,.i .i64 r.2.2]
def bQb(c:List Cl)(a b:Int):List Cl×List (Int×Ch)×Int :=
 if(bG c a).isSome=false\/(bG c b).isSome=false then([],[],250)else if dOf c a≠dOf c b then([],[],260)else if a=b\/bOf c a≠bOf c b then([],[],310)
 else(kN (qR c b (plM (-1) [(a,1)] [(b,1)])) b b,mS (eF c []) b [(a,1)],0)
def aPp(c:List Cl)(n:Int)(y:Ch):(qR c n y).length=c.length:=by unfold qR;rw[AL]
def yZ(c:List Cl)(g:List (Int×Ch)):(eF c g).length=c.length:=by unfold eF;rw[AL]
def fY(c:List Cl):inj (aE c)=.d (aE c):=rfl
def eK(H:Hp)(avs:List AV)(c:List Cl):bS H avs (aE c)=fK H avs:=rfl
def rF(c:List Cl):one (AV.d (aE c))=true:=rfl
def kH(c:List (Int×Ch)):one (AV.d (dJ c))=true:=rfl
def lR(c:List Cl):fN (AV.d (aE c))=some [AV.d (aE c)]:=rfl
def gP(c:List (Int×Ch)):fN (AV.d (dJ c))=some [AV.d (dJ c)]:=rfl
def aBf(c:List Cl):aO (aE c)=.d (aE c):=rfl
def aPw{c:List Cl}{e:Nat}(a b:Int)(hz:SzX e c)(he:e+e+4<4398046511104):Spec Aa 63 [aE c,.i .i64 a,.i .i64 b] (lO (bQb c a b)):=by
 have hlen:=hz.len;have hFa:=gC c a (by omega);have hFb:=gC c b (by omega);have hr:∃p x q y,(bG c a).isSome=p/\(bG c a).getD lA=x/\(bG c b).isSome=q/\(bG c b).getD lA=y:=⟨_,_,_,_,rfl,rfl,rfl,rfl⟩;obtain⟨p,x,q,y,hp,hx,hq,hy⟩:=hr;have hda:dOf c a=x.dim:=by unfold dOf;rw[hx]
 have hdb:dOf c b=y.dim:=by unfold dOf;rw[hy]
 have hba:bOf c a=x.b:=by unfold bOf;rw[hx]
 have hbb:bOf c b=y.b:=by unfold bOf;rw[hy]
 have hxl:x.b.length<=100:=by rw[<-hba];exact nQ hz.bl a
 have hyl:y.b.length<=100:=by rw[<-hbb];exact nQ hz.bl b
 have hxs:∀f∈x.b,Sz f.2:=by rw[<-hba];exact(mN hz.bb a).sz (by omega)
 have hys:∀f∈y.b,Sz f.2:=by rw[<-hbb];exact(mN hz.bb b).sz (by omega)
 have hE:=aMd x.b y.b hxs hys (by omega) (by omega);unfold oT at hFa hFb;rw[hp,hx]at hFa;rw[hq,hy]at hFb;have hO1:=xJ a;have hO2:=xJ b;have hOf:=tE (-1) (by decide) (by decide);have hPl:=nG (k:=-1) (e:=0) (f:=0) (g:=0) (a:=[(a,1)]) (b:=[(b,1)]) (Bnd.one (Ap 1)) (Bnd.one (Ap 1)) (by decide) (by omega) (by omega) (by simp) (by simp);have hmv:∃mv,plM (-1) [(a,1)] [(b,1)]=mv:=⟨_,rfl⟩;obtain⟨mv,hmv⟩:=hmv;have hmb:Bnd (2^0) mv/\mv.length<=1048576:=by
  rw[<-hmv];have h1:∀l:Ch,(∀f∈l,f.2.natAbs<=1)->Bnd (2^0) l:=λl h=>h
  by_cases h2:a<b
  ·have e:plM (-1) [(a,1)] [(b,1)]=[(a,1),(b,-1)]:=by simp[plM,nzF,h2]
   rw[e];exact⟨h1 _ (by simp),by simp⟩
  ·by_cases h3:b<a
   ·have e:plM (-1) [(a,1)] [(b,1)]=[(b,-1),(a,1)]:=by simp[plM,nzF,h2,h3]
    rw[e];exact⟨h1 _ (by simp),by simp⟩
   ·have e:plM (-1) [(a,1)] [(b,1)]=[]:=by simp[plM,nzF,h2,h3]
    rw[e];exact⟨h1 _ (by simp),by simp⟩
 unfold bQb;rw[hp,hq,hda,hdb,hba,hbb,hmv];rw[hmv]at hPl;have hRp:=aPv b mv hz hmb.1 hmb.2 (by omega);have hWo:=aEu (c:=qR c b mv) b b (by rw[aPp];omega);have hIt:=aAw (c:=c) (by omega);have hWi:=aDd (m:=eF c []) b [(a,1)] (by rw[yZ];omega);refine bF (N:=70) Tryz.func63 ?_;simp[-O,-X,↓KW,aE];refine aJ hFa ?_;simp[-O,-X,↓KW,aE,aR,aC,aA,aB];refine aJ hFb ?_;cases p with
 |false=>simp[-O,-X,↓KW,aE,aR,aC,aA,aB,lO,dJ]
 |true =>
  cases q with
  |false=>simp[-O,-X,↓KW,aE,aR,aC,aA,aB,lO,dJ]
  |true =>
   by_cases h1:x.dim=y.dim
   rotate_left
   ·have h1':((x.dim != y.dim):Bool)=true:=by simpa using h1
    simp[-O,-X,↓KW,aE,aR,aC,aA,aB,lO,dJ,h1',h1]
   ·have h1':((x.dim != y.dim):Bool)=false:=by simpa using h1
    by_cases h2:a=b
    ·have h2':((a==b):Bool)=true:=by simpa using h2
     simp[-O,-X,↓KW,aE,aR,aC,aA,aB,lO,dJ,h1',h1,h2',h2]
    ·have h2':((a==b):Bool)=false:=by simpa using h2
     simp[-O,-X,↓KW,aE,aR,aC,aA,aB,h1',h1,h2',h2];refine aJ hE ?_;by_cases h3:x.b=y.b
     rotate_left
     ·rw[Bo h3];simp[-O,-X,↓KW,aE,aR,aC,aA,aB,lO,dJ,h1',h1,h2',h2,h3]
     ·rw[Bx h3];simp[-O,-X,↓KW,aE,aR,aC,aA,aB,h1',h1,h2',h2,h3];refine aJ hO1 ?_;simp[-O,-X,↓KW,aE,aY,aF,aD,aG,aZ,aQ,aT,aC,aA,aB];refine aJ hO2 ?_;simp[-O,-X,↓KW,aE,aY,aF,aD,aG,aZ,aQ,aT,aC,aA,aB];refine aJ hOf ?_;simp[-O,-X,↓KW,aE,aY,aF,aD,aG,aZ,aQ,aT,aC,aA,aB];refine aJ hPl ?_;simp[-O,-X,↓KW,aE,aY,aF,aD,aG,aZ,aQ,aT,aC,aA,aB];refine bIm [aE c,.i .i64 b,aK mv] _ (by simp) (λg id h=>by simp at h) (by rfl) hRp ?_;simp[-O,-X,↓KW,aE,aY,aF,aD,aG,aZ,aQ,aT,aC,aA,aB,fY,eK];refine aJ hWo ?_;simp[-O,-X,↓KW,aE,aY,aF,aD,aG,aZ,aQ,aT,aC,aA,aB,fY,eK];refine aJ hIt ?_;simp[-O,-X,↓KW,aE,aY,aF,aD,aG,aZ,aQ,aT,aC,aA,aB,fY,eK,cZ,cA];refine aJ hO1 ?_;simp[-O,-X,↓KW,aE,aY,aF,aD,aG,aZ,aQ,aT,aC,aA,aB,fY,eK,cZ,cA];refine aJ hWi ?_;simp[-O,-X,↓KW,aE,aY,aF,aD,aG,aZ,aQ,aT,aC,aA,aB,fY,eK,cZ,cA,rF,kH,lR,gP,lO,h1,h2,h3]
def aNg{a b:Int}(h:a≠b)(n:Int):∀l:Ch,cf n (l.map (hJ a b))=if n=b then 0 else cf n l+if n=a then cf b l else 0
 |[]=>by simp[cf]
 |f::l=>by
  rw[AZ];simp only[cf];rw[aNg h n l];unfold hJ;by_cases h1:f.1=b
  ·rw[Ad h1];by_cases h2:n=b
   ·have h3:¬n=a:=λe=>h (e.symm.trans h2)
    rw[Ad h2,Ad h2,Ac h3];simp
   ·have h3:¬n=f.1:=λe=>h2 (e.trans h1)
    rw[Ac h2,Ac h2,Ac h3];by_cases h4:n=a
    ·rw[Ad h4,Ad h4,Ad h4,Ad h1.symm];omega
    ·rw[Ac h4,Ac h4,Ac h4];omega
  ·rw[Ac h1];by_cases h2:n=b
   ·have h3:¬n=f.1:=λe=>h1 (e.symm.trans h2)
    rw[Ad h2,Ad h2,Ac h3];simp
   ·rw[Ac h2,Ac h2];have h5:¬b=f.1:=λe=>h1 e.symm
    rw[Ac h5];by_cases h4:n=a
    ·rw[Ad h4,Ad h4];omega
    ·rw[Ac h4,Ac h4];omega
def zQ{l:Ch}(h:Val l)(n:Int):eP l n=cf n l:=by
 induction l with
 |nil=>rfl
 |cons f l ih =>
  obtain⟨h1,h2,_⟩:=h.tail;unfold eP;rw[DN];simp only[cf];by_cases e:f.1=n
  ·have h0:cf n l=0:=by
    rw[gD h1,<-gD h1];have:∀(l:Ch),(∀x∈l,x.1≠n)->cf n l=0:=by
     intro l;induction l with
     |nil=>intro _;rfl
     |cons x l ih=>intro hh;simp only[cf];rw[Ac (λe=>hh x (Av ..) e.symm),ih λy hy=>hh y (Au _ hy)];rfl
    refine this l λx hx=>?_
    have:=(Bk.1 h.1).1 x hx;omega
   simp[e,h0]
  ·have e':¬n=f.1:=λx=>e x.symm
   rw[Ac e'];simp only[e,FY,A0,B2,CD];exact ih h1
def bQf{a b:Int}(h:a≠b){z:Cl}(hz:Val z.b)(hn:z.id≠b):mT b (plM (-1) [(a,1)] [(b,1)]) z=tG a b z:=by
 have va:Val [(a,(1:Int))]:=⟨Dg _ _,λy hy=>by rw[AT.1 hy];simp⟩;have vb:Val [(b,(1:Int))]:=⟨Dg _ _,λy hy=>by rw[AT.1 hy];simp⟩;have vm:=iX (-1) va vb;obtain⟨h1,h2⟩:=cS (z.b.map (hJ a b)) [] Val.nil;unfold mT tG;have hc:=zQ hz b;by_cases h0:eP z.b b=0
 ·rw[Ad h0];rw[h0]at hc;have:z.b=cF [] (z.b.map (hJ a b)):=hz.ext h1 λn=>by
   rw[h2,gX,aNg h,<-gD hz,<-hc];by_cases e:n=b
   ·rw[Ad e,e,<-hc];simp
   ·rw[Ac e];simp
  rw[<-this]
 ·rw[Ac h0];congr 1;have vp:=iX (eP z.b b) hz vm;refine vp.ext h1 λn=>?_
  rw[h2,gX,<-gD vp,uS,uS,aNg h,hc];simp only[cf];by_cases e:n=b
  ·have e2:¬n=a:=λx=>h (x.symm.trans e)
   rw[Ad e,Ac e2,Ad e,e];omega
  ·rw[Ac e,Ac e];by_cases e2:n=a
   ·rw[Ad e2,Ad e2];omega
   ·rw[Ac e2,Ac e2];omega
def bQa{c:List Cl}(hc:CxV c)(a b:Int):bQb c a b=aSc c a b:=by
 unfold bQb aSc;split
 ·rfl
 ·split
  ·rfl
  ·split
   ·rfl
   ·rename_i h;have hab:a≠b:=λe=>h (.inl e)
    have e1:kN (qR c b (plM (-1) [(a,1)] [(b,1)])) b b=nX c a b:=by
     unfold kN qR nX;rw[List.filter_map];have e2:((jD b b) ∘ mT b (plM (-1) [(a,1)] [(b,1)]))=λz:Cl=>!decide (z.id=b):=by
      funext z;have:(mT b (plM (-1) [(a,1)] [(b,1)]) z).id=z.id:=by unfold mT;split<;>rfl
      simp only[DQ,jD,this,Bool.and_self]
     rw[e2];refine BK λz hz=>?_
     obtain⟨h1,h2⟩:=Bi.1 hz;exact bQf hab (hc.val z h1) (by simpa using h2)
    have e3:mS (eF c []) b [(a,1)]=eF c [(b,[(a,1)])]:=by
     unfold mS eF;rw[CC];refine BK λz _=>?_
     simp only[DQ,mH];by_cases e:z.id=b
     ·simp[e]
     ·have e':¬b=z.id:=λx=>e x.symm
      simp[e,e']
    rw[e1,e3]
def bDo(c:List Cl)(hc:CxV c)(a b:Int):(∃n,n≠0/\aSc c a b=([],[],n))\/(aNs c a b/\aSc c a b=(nX c a b,eF c [(b,[(a,1)])],0)):=by
 unfold aSc;split
 ·exact .inl ⟨250,by decide,rfl⟩
 ·rename_i h1;split
  ·exact .inl ⟨260,by decide,rfl⟩
  ·rename_i h2;split
   ·exact .inl ⟨310,by decide,rfl⟩
   ·rename_i h3;refine .inr ⟨⟨λe=>h3 (.inl e),?_,?_,?_,?_⟩,rfl⟩
    ·cases e:bG c a with
     |none=>exact(h1 (.inl (by rw[e];rfl))).elim
     |some x=>exact⟨x,dF e⟩
    ·cases e:bG c b with
     |none=>exact(h1 (.inr (by rw[e];rfl))).elim
     |some x=>exact⟨x,dF e⟩
    ·exact A9 λe=>h2 e
    ·exact A9 λe=>h3 (.inr e)
def cE(c:List Cl)(x:Cl):List Cl:=(c.takeWhile λy=>decide (y.id<x.id))++x::c.dropWhile λy=>decide (y.id<x.id)
def nT(c:List Cl)(x:Cl):(cE c x).Perm (x::c):=by unfold cE;refine List.perm_middle.trans ?_;rw[List.takeWhile_append_dropWhile]
def aQk(y:Cl)(c:List Cl)(x:Cl):cE (y::c) x=if y.id<x.id then y::cE c x else x::y::c:=by unfold cE;by_cases h:y.id<x.id<;>simp[List.takeWhile_cons,List.dropWhile_cons,h]
def nA(c:List Cl)(x:Cl):(cE c x).length=c.length+1:=by rw[(nT c x).length_eq];rfl
def iH{c:List Cl}{x y:Cl}:y∈cE c x↔y=x\/y∈c:=by rw[(nT c x).mem_iff,AG]
def xK{c:List Cl}{x:Cl}(hc:Inc c)(hx:∀y∈c,y.id≠x.id):Inc (cE c x):=by
 induction c with
 |nil=>simp[cE,Inc]
 |cons y c ih =>
  obtain⟨h1,h2⟩:=Bk.1 hc;rw[aQk];have hne:=hx y (Av ..);by_cases h:y.id<x.id
  ·rw[Ad h];refine Bk.2 ⟨λz hz=>?_,ih h2 λz hz=>hx z (Au _ hz)⟩;rcases iH.1 hz with rfl|hz
   ·exact h
   ·exact h1 z hz
  ·rw[Ac h];refine Bk.2 ⟨λz hz=>?_,hc⟩;rcases AG.1 hz with rfl|hz
   ·omega
   ·have:=h1 z hz;omega
def wP(l:Ch):Ch:=l.filter λf=>decide (0<f.2)
def yU(l:Ch):Ch:=l.filter λf=>!decide (0<f.2)
def nE(w0:Int)(l:Ch):Ch:=(w0,1)::yU l
def lX(w0:Int)(l:Ch):Ch:=(w0,-1)::wP l
def adF(e w1:Int)(l:Ch):Ch:=(l.filter λf=>decide (f.1=e)).map λf=>(w1,f.2)
def subL(e w0 w1:Int)(xb:Ch)(z:Cl):Ch:=if z.id=e then nE w0 xb else z.b++adF e w1 z.b
def jR(e w0 w1:Int)(xb:Ch)(z:Cl):Cl:=⟨z.id,z.dim,cF [] (subL e w0 w1 xb z)⟩
def aAm(w0:Int):Cl:=⟨w0,0,[]⟩
def aPc(w0 w1:Int)(xb:Ch):Cl:=⟨w1,1,cF [] (lX w0 xb)⟩
def aPa(c:List Cl)(e w0 w1:Int):List Cl:=[aAm w0,aPc w0 w1 (bOf c e)]++c.map (jR e w0 w1 (bOf c e))
def oD(c:List Cl)(e w0 w1:Int):List Cl:=cE (cE (c.map (jR e w0 w1 (bOf c e))) (aAm w0)) (aPc w0 w1 (bOf c e))
def aOz(c:List Cl)(e w0 w1:Int):List Cl×List (Int×Ch)×Int :=
 if(bG c e).isSome=false then([],[],250)else if dOf c e≠1 then([],[],260)else if w0=w1\/kn c w0=true\/kn c w1=true then([],[],253)else if 398<c.length then([],[],2)
 else(oD c e w0 w1,eF c [(e,cF [(e,1)] (mulR 1 [(w1,1)]))],0)
def aAo(c:List Cl)(e w0 w1:Int):(oD c e w0 w1).Perm (aPa c e w0 w1):=by unfold oD aPa;refine(nT _ _).trans (((nT _ _).cons _).trans ?_);exact .swap ..
def uF{c:List Cl}{n:Int}(h:kn c n=false):∀y∈c,y.id≠n:=by unfold kn at h;exact aGf (by simpa using h)
def aPe{c:List Cl}{e w0 w1:Int}(hc:Inc c)(h0:kn c w0=false)(h1:kn c w1=false)(h:w0≠w1):Inc (oD c e w0 w1):=by
 have hm:Inc (c.map (jR e w0 w1 (bOf c e))):=CN.2 hc;refine xK (xK hm λy hy=>?_) λy hy=>?_
 ·obtain⟨z,hz,rfl⟩:=AA.1 hy;exact uF h0 z hz
 ·rcases iH.1 hy with rfl|hy
  ·exact h
  ·obtain⟨z,hz,rfl⟩:=AA.1 hy;exact uF h1 z hz
def aPd(c:List Cl)(e w0 w1:Int):(oD c e w0 w1).length=c.length+2:=by rw[(aAo c e w0 w1).length_eq];simp[aPa]
def bFw(c:List Cl)(e w0 w1:Int):(aPa c e w0 w1).length=c.length+2:=by simp[aPa]
def wS{a b:Ch}(ha:Val a)(hb:Val b)(h:∀w,bO w a=bO w b):a=b :=
 ha.ext hb λn=>by rw[<-gD ha,<-gD hb,nN,nN];exact h _
def aCt(w:Int->Int):∀l:Ch,bO w (wP l)+bO w (yU l)=bO w l
 |[]=>rfl
 |f::l=>by
  have ih:=aCt w l;unfold wP yU at ih ⊢;by_cases h:0<f.2
  ·simp only[CH,h,decide_true,B1,Bool.not_true,A0,B2,bO];omega
  ·simp only[CH,h,FY,A0,B2,Bool.not_false,B1,bO];omega
def qY(w:Int->Int)(e w1:Int):∀l:Ch,bO w (adF e w1 l)=cf e l*w w1
 |[]=>by simp[adF,bO,cf]
 |f::l=>by
  have ih:=qY w e w1 l;unfold adF at ih ⊢;simp only[cf];by_cases h:f.1=e
  ·have h':e=f.1:=h.symm;simp only[CH,h,decide_true,B1,AZ,bO,ih];rw[Int.add_mul]
  ·have h':¬e=f.1:=λx=>h x.symm
   simp only[CH,h,FY,A0,B2,ih,Ac h'];simp
def vA(a b d:Int->Int)(k r:Int):∀l:Ch,bO (λm=>a m+k*b m-r*d m) l=bO a l+k*bO b l-r*bO d l
 |[]=>by simp[bO]
 |f::l=>by simp only[bO,vA a b d k r l];rw[Int.mul_sub,De,De,De,Int.mul_left_comm f.2 k,Int.mul_left_comm f.2 r];omega
def vW{l:Ch}{f:Int×Int}(h:f∈cF [] l):∃g∈l,g.1=f.1:=by
 obtain⟨h1,h2⟩:=cS l [] Val.nil;have e:=fJ h1 h;rw[h2,gX,CD]at e;have hne:cf f.1 l≠0:=by rw[e];exact h1.2 f h
 exact A9 λhn=>hne (nO λx hx e=>hn ⟨x,hx,e⟩)
def aVy(m e:Int):(if m=e then(1:Int)else 0)=if e=m then 1 else 0:=by
 by_cases q:m=e
 ·simp[q]
 ·have q':¬e=m:=λx=>q x.symm
  simp[q,q']
structure kC(c:List Cl)(e w0 w1:Int):Prop where
 ine:∃x∈c,x.id=e/\x.dim=1
 n0:∀y∈c,y.id≠w0
 n1:∀y∈c,y.id≠w1
 ne:w0≠w1
section
variable {c:List Cl} {e w0 w1:Int}
def iN{z:Cl}:z∈oD c e w0 w1↔z=aAm w0\/z=aPc w0 w1 (bOf c e)\/∃y∈c,z=jR e w0 w1 (bOf c e) y:=by
 rw[(aAo c e w0 w1).mem_iff];unfold aPa;rw[A5,AG,AT,AA];constructor
 ·rintro((h|h)|⟨y,hy,rfl⟩)
  ·exact .inl h
  ·exact .inr (.inl h)
  ·exact .inr (.inr ⟨y,hy,rfl⟩)
 ·rintro(h|h|⟨y,hy,rfl⟩)
  ·exact .inl (.inl h)
  ·exact .inl (.inr h)
  ·exact .inr ⟨y,hy,rfl⟩
def bVy(h:∀y∈c,y.id≠w0):kn c w0=false:=by
 unfold kn;cases e:bG c w0 with
 |none=>rfl
 |some x=>obtain⟨h1,h2⟩:=dF e;exact(h x h1 h2).elim
def kC.inc(s:kC c e w0 w1)(h:Inc c):Inc (oD c e w0 w1):=aPe h (bVy s.n0) (bVy s.n1) s.ne
def kC.find(s:kC c e w0 w1)(h:Inc c){y:Cl}(hy:y∈c):bG (oD c e w0 w1) y.id=some (jR e w0 w1 (bOf c e) y):=(s.inc h).find (x:=jR e w0 w1 (bOf c e) y) (iN.2 (.inr (.inr ⟨y,hy,rfl⟩)))
def kC.find0(s:kC c e w0 w1)(h:Inc c):bG (oD c e w0 w1) w0=some (aAm w0):=(s.inc h).find (x:=aAm w0) (iN.2 (.inl rfl))
def kC.find1(s:kC c e w0 w1)(h:Inc c):bG (oD c e w0 w1) w1=some (aPc w0 w1 (bOf c e)):=(s.inc h).find (x:=aPc w0 w1 (bOf c e)) (iN.2 (.inr (.inl rfl)))
def kC.b(s:kC c e w0 w1)(h:Inc c){y:Cl}(hy:y∈c):bOf (oD c e w0 w1) y.id=cF [] (subL e w0 w1 (bOf c e) y):=by unfold Go.Am.bOf;rw[s.find h hy];rfl
def kC.b0(s:kC c e w0 w1)(h:Inc c):bOf (oD c e w0 w1) w0=[]:=by unfold Go.Am.bOf;rw[s.find0 h];rfl
def kC.b1(s:kC c e w0 w1)(h:Inc c):bOf (oD c e w0 w1) w1=cF [] (lX w0 (bOf c e)):=by unfold Go.Am.bOf;rw[s.find1 h];rfl
def aSx(h:CxV c){y:Cl}(hy:y∈c)(hd:y.dim=0):y.b=[]:=by
 cases hb:y.b with
 |nil=>rfl
 |cons f l =>
  obtain⟨z,hz,_,e2⟩:=h.face y hy f (by rw[hb];exact Av ..);have:=(h.dim z hz).1;omega
def kC.own(s:kC c e w0 w1)(h:CxV c):∃x∈c,x.id=e/\x.dim=1/\bOf c e=x.b:=by obtain⟨x,hx,e1,e2⟩:=s.ine;exact⟨x,hx,e1,e2,by rw[<-e1];exact h.bOf hx⟩
def kC.pts(s:kC c e w0 w1)(h:CxV c){f:Int×Int}(hf:f∈bOf c e):∃y∈c,y.id=f.1/\y.dim=0/\y.id≠e:=by obtain⟨x,hx,e1,e2,e3⟩:=s.own h;rw[e3]at hf;obtain⟨y,hy,k1,k2⟩:=h.face x hx f hf;refine⟨y,hy,k1,by omega,λhe=>?_⟩;have:=h.inc.eq hy hx (he.trans e1.symm);subst this;omega
def kC.zero(s:kC c e w0 w1)(h:CxV c){y:Cl}(hy:y∈c)(hd:y.dim=0):bOf (oD c e w0 w1) y.id=[]:=by
 rw[s.b h.inc hy];unfold subL;have hb:=aSx h hy hd;have hne:y.id≠e:=λhe=>by obtain⟨x,hx,e1,e2,_⟩:=s.own h;have:=h.inc.eq hy hx (he.trans e1.symm);subst this;omega
 rw[Ac hne,hb];rfl
def kC.noE(s:kC c e w0 w1)(h:CxV c):cf e (bOf c e)=0:=nO λf hf he=>by obtain⟨y,_,k1,_,k3⟩:=s.pts h hf;exact k3 (k1.trans he)
def aDg{l:Ch}{f:Int×Int}(h:f∈wP l):f∈l:=(Bi.1 h).1
def aDh{l:Ch}{f:Int×Int}(h:f∈yU l):f∈l:=(Bi.1 h).1
def nw(c:List Cl)(e w0 w1:Int)(w:Int->Int)(m:Int):Int:=bO w (bOf (oD c e w0 w1) m)
def kC.nw1(s:kC c e w0 w1)(h:Inc c)(w:Int->Int):nw c e w0 w1 w w1=- w w0+bO w (wP (bOf c e)):=by unfold nw;rw[s.b1 h,dR];unfold lX;simp only[bO];omega
def kC.nwy(s:kC c e w0 w1)(h:CxV c)(w:Int->Int){y:Cl}(hy:y∈c):nw c e w0 w1 w y.id=bO w (bOf c y.id)+w w1*cf e (bOf c y.id)-nw c e w0 w1 w w1*(if y.id=e then 1 else 0):=by
 have h1:nw c e w0 w1 w y.id=bO w (subL e w0 w1 (bOf c e) y):=by unfold nw;rw[s.b h.inc hy,dR]
 rw[h1,s.nw1 h.inc];unfold subL;by_cases he:y.id=e
 ·rw[Ad he,Ad he,he,s.noE h];have:=aCt w (bOf c e);unfold nE;simp only[bO];omega
 ·rw[Ac he,Ac he,lV,qY,h.bOf hy,B7 (w w1)];omega
def kC.nw0(s:kC c e w0 w1)(h:CxV c)(w:Int->Int){l:Ch}(hl:∀f∈l,f.1=w0\/∃y∈c,y.id=f.1/\y.dim=0):bO (nw c e w0 w1 w) l=0:=aIk λf hf=>by
 unfold nw;rcases hl f hf with e1|⟨y,hy,e1,e2⟩
 ·rw[e1,s.b0 h.inc];rfl
 ·rw[<-e1,s.zero h hy e2];rfl
def kC.valid(s:kC c e w0 w1)(h:CxV c):CxV (oD c e w0 w1):=by
 have hpos:∀f∈lX w0 (bOf c e),f.1=w0\/∃y∈c,y.id=f.1/\y.dim=0:=λf hf=>by
  rcases AG.1 hf with rfl|hf
  ·exact .inl rfl
  ·obtain⟨y,hy,k1,k2,_⟩:=s.pts h (aDg hf);exact .inr ⟨y,hy,k1,k2⟩
 have hrest:∀f∈nE w0 (bOf c e),f.1=w0\/∃y∈c,y.id=f.1/\y.dim=0:=λf hf=>by
  rcases AG.1 hf with rfl|hf
  ·exact .inl rfl
  ·obtain⟨y,hy,k1,k2,_⟩:=s.pts h (aDh hf);exact .inr ⟨y,hy,k1,k2⟩
 have hface:∀(f:Int×Int) (d:Int),(f.1=w0\/∃y∈c,y.id=f.1/\y.dim=0)->d=1->∃y∈oD c e w0 w1,y.id=f.1/\y.dim=d-1:=λf d hf hd=>by
  rcases hf with e1|⟨y,hy,e1,e2⟩
  ·exact⟨aAm w0,iN.2 (.inl rfl),e1.symm,by show(0:Int)=_;omega⟩
  ·exact⟨jR e w0 w1 (bOf c e) y,iN.2 (.inr (.inr ⟨y,hy,rfl⟩)),e1,by show y.dim=_;omega⟩
 obtain⟨xe,hxe,xe1,xe2,xe3⟩:=s.own h;refine⟨s.inc h.inc,λz hz=>?_,λz hz=>?_,λz hz f hf=>?_,λz hz n=>?_⟩
 ·rcases iN.1 hz with rfl|rfl|⟨y,hy,rfl⟩
  ·exact⟨Int.le_refl 0,by show(0:Int)<=3;decide⟩
  ·exact⟨by show(0:Int)<=1;decide,by show(1:Int)<=3;decide⟩
  ·exact h.dim y hy
 ·rcases iN.1 hz with rfl|rfl|⟨y,hy,rfl⟩
  ·exact Val.nil
  ·exact(cS _ [] Val.nil).1
  ·exact(cS _ [] Val.nil).1
 ·rcases iN.1 hz with rfl|rfl|⟨y,hy,rfl⟩
  ·cases hf
  ·obtain⟨g,hg,he⟩:=vW (l:=lX w0 (bOf c e)) hf;have:=hface g 1 (hpos g hg) rfl;rw[he]at this;exact this
  ·obtain⟨g,hg,he⟩:=vW (l:=subL e w0 w1 (bOf c e) y) hf;unfold subL at hg;by_cases hye:y.id=e
   ·rw[Ad hye]at hg;have hyd:y.dim=1:=by rw[h.inc.eq hy hxe (hye.trans xe1.symm)];exact xe2
    have:=hface g y.dim (hrest g hg) hyd;rw[he]at this;exact this
   ·rw[Ac hye]at hg;rcases A5.1 hg with hg|hg
    ·obtain⟨u,hu,k1,k2⟩:=h.face y hy g hg;exact⟨jR e w0 w1 (bOf c e) u,iN.2 (.inr (.inr ⟨u,hu,rfl⟩)),k1.trans he,k2⟩
    ·unfold adF at hg;obtain⟨g',hg',rfl⟩:=AA.1 hg;obtain⟨h1,h2⟩:=Bi.1 hg';have h2:g'.1=e:=by simpa using h2
     obtain⟨u,hu,k1,k2⟩:=h.face y hy g' h1;have hu2:u=xe:=h.inc.eq hu hxe (k1.trans (h2.trans xe1.symm));refine⟨aPc w0 w1 (bOf c e),iN.2 (.inr (.inl rfl)),he,?_⟩;show(1:Int)=y.dim-1;rw[<-k2,hu2,xe2]
 ·suffices hw:∀w:Int->Int,bO (nw c e w0 w1 w) z.b=0 by
   have:=hw λm=>if n=m then 1 else 0
   refine F7 (eB λf _=>?_) this;unfold nw;rw[nN]
  intro w;rcases iN.1 hz with rfl|rfl|⟨y,hy,rfl⟩
  ·rfl
  ·show bO _ (cF [] (lX w0 (bOf c e)))=0;rw[dR];exact s.nw0 h w hpos
  ·show bO _ (cF [] (subL e w0 w1 (bOf c e) y))=0;rw[dR];unfold subL;by_cases hye:y.id=e
   ·rw[Ad hye];exact s.nw0 h w hrest
   ·rw[Ac hye,lV,qY];have e1:bO (nw c e w0 w1 w) y.b=bO (λm=>bO w (bOf c m)+w w1*cf e (bOf c m)-nw c e w0 w1 w w1*(if m=e then 1 else 0)) y.b:=eB λf hf=>by obtain⟨u,hu,k1,_⟩:=h.face y hy f hf;rw[<-k1];exact s.nwy h w hu
    have e2:bO (λm=>if m=e then(1:Int)else 0) y.b=cf e y.b:=by rw[nN];exact eB λf _=>aVy f.1 e
    rw[e1,vA,h.wcyc hy w,h.cyc y hy e,e2,B7 (nw c e w0 w1 w w1)];omega
def aHt(e w1:Int):Ch:=cF [(e,1)] (mulR 1 [(w1,1)])
def jL(n:Int):Val [(n,(1:Int))]:=⟨Dg _ _,λy hy=>by rw[AT.1 hy];simp⟩
def aUj(e w1:Int)(w:Int->Int):bO w (aHt e w1)=w e+w w1:=by unfold aHt;rw[mV,mU];simp[bO]
def aFx(e n:Int)(B:Ch):(mH [(e,B)] n).getD [(n,1)]=if n=e then B else[(n,1)]:=by
 unfold mH;by_cases h:n=e
 ·simp[h]
 ·have:¬e=n:=λx=>h x.symm
  simp[this,h]
def xV{g:List (Int×Ch)}(hi:Inc c)(w:Int->Int):∀{x:Ch},(∀f∈x,∃y∈c,y.id=f.1)->bO w (apL (eF c g) x)=bO (λk=>bO w ((mH g k).getD [(k,1)])) x
 |[],_=>rfl
 |f::x,h=>by obtain⟨y,hy,he⟩:=h f (Av ..);show bO w (apP (eF c g) f++apL (eF c g) x)=_;rw[lV,aNm hi hy he.symm,mU,xV hi w λf hf=>h f (Au _ hf),he];rfl
def kC.comm(s:kC c e w0 w1)(h:CxV c):CmT c (oD c e w0 w1) (eF c [(e,aHt e w1)]):=by
 have hget:∀(i:Nat) x p,c[i]? = some x->(eF c [(e,aHt e w1)])[i]? = some p->p=(x.id,if x.id=e then aHt e w1 else[(x.id,1)]):=λi x p hx hp=>by
  unfold eF at hp;rw[Aw,hx]at hp;injection hp with hp
  simp only[aFx]at hp;exact hp.symm
 obtain⟨xe,hxe,xe1,xe2,xe3⟩:=s.own h;have hne:e≠w1:=λx=>s.n1 xe hxe (xe1.trans x)
 refine⟨by simp[eF],λi x p hx hp=>by rw[hget i x p hx hp],λi x p hx hp f hf=>?_,λi x p hx hp=>?_⟩
 ·rw[hget i x p hx hp]at hf;have hxc:=Aq hx;simp only at hf;by_cases hxe':x.id=e
  ·rw[Ad hxe']at hf;have hxx:x=xe:=h.inc.eq hxc hxe (hxe'.trans xe1.symm);have hm:f.1=e\/f.1=w1:=by
    have hv:=(cS (mulR 1 [(w1,1)]) _ (jL e)).1;by_cases q:f.1=e
    ·exact .inl q
    ·refine .inr (A9 λq2=>?_);have e0:=fJ hv hf;rw[<-gD hv,nN]at e0;have:=aUj e w1 (λm=>if f.1=m then 1 else 0);unfold aHt at this;rw[this,Ac q,Ac q2]at e0;exact hv.2 f hf e0.symm
   rcases hm with q|q
   ·have hfe:=s.find h.inc hxe;rw[xe1]at hfe;refine⟨_,by rw[q];exact hfe,?_⟩;rw[hxx];rfl
   ·refine⟨_,by rw[q];exact s.find1 h.inc,?_⟩;rw[hxx,xe2];rfl
  ·rw[Ac hxe']at hf;rw[AT.1 hf];exact⟨_,s.find h.inc hxc,rfl⟩
 ·have hxc:=Aq hx;rw[hget i x p hx hp];have hfc:∀f∈x.b,∃y∈c,y.id=f.1:=λf hf=>let ⟨y,hy,k,_⟩:=h.face x hxc f hf;⟨y,hy,k⟩
  refine wS (cS _ [] Val.nil).1 (cS _ [] Val.nil).1 λw=>?_
  unfold bdX apX;rw[dR,dR,pF,xV h.inc w hfc];show bO (nw c e w0 w1 w) (if x.id=e then aHt e w1 else[(x.id,1)])=_;have hr:bO (λk=>bO w ((mH [(e,aHt e w1)] k).getD [(k,1)])) x.b=bO w x.b+w w1*cf e x.b:=by
   have e1:bO (λk=>bO w ((mH [(e,aHt e w1)] k).getD [(k,1)])) x.b=bO (λk=>w k+w w1*(if k=e then 1 else 0)-0*0) x.b:=eB λf _=>by
    rw[aFx];by_cases q:f.1=e
    ·rw[Ad q,Ad q,aUj,q];omega
    ·rw[Ac q,Ac q];simp[bO]
   have e2:bO (λm=>if m=e then(1:Int)else 0) x.b=cf e x.b:=by rw[nN];exact eB λf _=>aVy f.1 e
   rw[e1,vA w _ (λ_=>0) _ 0,e2];omega
  rw[hr];by_cases hxe':x.id=e
  ·rw[Ad hxe',aUj];have hxx:x=xe:=h.inc.eq hxc hxe (hxe'.trans xe1.symm);have k1:=s.nwy h w hxe;rw[xe1,Ad rfl,xe3,<-xe3,s.noE h]at k1;rw[k1,hxx,<-xe3,s.noE h];omega
  ·rw[Ac hxe'];simp only[bO];rw[s.nwy h w hxc,Ac hxe',h.bOf hxc];omega
end
def aDn:∀(b a:List Int),a.Pairwise (·<·)->b.Pairwise (·<·)->(∀x∈a,x∈b)->a.length<=b.length
 |[],a,_,_,h=>by
  cases a with
  |nil=>exact Ap _
  |cons x a=>cases h x (Av ..)
 |y::b,[],_,_,_=>Al _
 |y::b,x::a,ha,hb,h=>by
  obtain⟨a1,a2⟩:=Bk.1 ha;obtain⟨b1,b2⟩:=Bk.1 hb;by_cases e:x=y
  ·have:=aDn b a a2 b2 λz hz=>by
    rcases AG.1 (h z (Au _ hz))with q|q
    ·have:=a1 z hz;omega
    ·exact q
   simp only[AH];omega
  ·have hx:x∈b:=by
    rcases AG.1 (h x (Av ..))with q|q
    ·exact(e q).elim
    ·exact q
   have hyx:=b1 x hx;have:=aDn b (x::a) ha b2 λz hz=>by
    rcases AG.1 (h z hz)with q|q
    ·rcases AG.1 hz with q2|q2
     ·omega
     ·have:=a1 z q2;omega
    ·exact q
   simp only[AH]at this ⊢;omega
def CxV.bLen{c:List Cl}(h:CxV c){x:Cl}(hx:x∈c):x.b.length<=c.length:=by
 have:=aDn (c.map Cl.id) (x.b.map (·.1)) (by rw[CN];exact(h.val x hx).1) (by rw[CN];exact h.inc) λn hn=>by obtain⟨f,hf,rfl⟩:=AA.1 hn;obtain⟨y,hy,k,_⟩:=h.face x hx f hf;exact AA.2 ⟨y,hy,k⟩
 simpa using this
def pE{a b:Ch}(ha:Val a)(hb:Val b)(k:Int)(w:Int->Int):bO w (plM k a b)=bO w a+k*bO w b:=by rw[aDf ha hb];unfold lin;rw[mV,mU]
end Go.Am
end
