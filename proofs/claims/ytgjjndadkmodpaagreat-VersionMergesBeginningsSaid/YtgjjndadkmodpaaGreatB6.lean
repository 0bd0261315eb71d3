/- Subdivided edges: valid, commuting, plain. No condition. -/
import Derived.Test.YtgjjndadkmodpaaGreatB5
import Derived.Test.YtgjjndadkmodpaaGreatB4
import Derived.Test.YtgjjndadkmodpaaGreatRows
set_option linter.all false
set_option maxHeartbeats 16000000
set_option maxRecDepth 100000
open Array renaming replicate->BG
open Bool renaming and_eq_true->AO,eq_iff_iff->DK,false_eq_true->A1
open Classical renaming byContradiction->A8
open Eq renaming trans->F4
open Function renaming comp->DQ
open Go.DataW renaming trod_int->DU
open Go.IntKind renaming i64->Ag,u64->A2,u8->Cx
open Go.Op renaming operands->AN
open Go.Proofs.Tryz renaming prog->Aa,underlying26->Ff
open Go.Region renaming ready->BS
open Int renaming mul_add->De,mul_assoc->DD,mul_comm->B1,mul_eq_zero->D7,mul_zero->DO,natAbs_mul->BV,natAbs_neg->CQ,sign_eq_zero_iff_zero->Du,zero_add->CD
open List renaming all_eq_true->Ay,append_assoc->Bg,append_nil->AX,cons_append->BN,drop_eq_getElem_cons->AP,drop_eq_nil_of_le->Bz,drop_of_length_le->B2,drop_succ_cons->Ci,drop_zero->BZ,eq_nil_of_length_eq_zero->AE,filter_append->BO,filter_cons->CH,find?_cons->DM,flatMap_cons->Cz,flatMap_nil->Dz,flatten_cons->BE,foldl_append->Dk,getD_eq_getElem?_getD->Af,getElem?_append_right->Az,getElem?_eq_getElem->Ab,getElem?_eq_none->AW,getElem?_eq_some_iff->Ah,getElem?_map->Aw,getElem_mem->Ar,getElem_of_mem->Bv,getElem_take->Ea,length_append->Al,length_cons->AH,length_drop->Bk,length_filter_le->Ct,length_map->AL,length_nil->Bo,length_singleton->Au,length_take->Ax,map->AQ,map_append->Bt,map_congr_left->BJ,map_cons->A0,map_flatten->DA,map_map->CC,mem_append->A6,mem_append_left->FB,mem_cons->AG,mem_cons_of_mem->As,mem_cons_self->Av,mem_filter->Bh,mem_map->AA,mem_of_getElem?->Aq,mem_of_mem_take->Cj,mem_range->C0,mem_singleton->AT,mem_singleton_self->Fb,nil_append->BM,nodup_cons->DJ,pairwise_cons->Bj,pairwise_iff_getElem->BA,pairwise_map->CM,pairwise_singleton->Dg,range->CP,set_append_right->CZ,set_cons_zero->CT,set_getElem_self->EB,take_add_one->AM,take_of_length_le->Ai,take_succ_cons->Cf,take_zero->Cq,zip_cons_cons->Er
open List.Pairwise renaming filter->Df
open Nat renaming add_mul->Bw,add_sub_cancel->A9,le_refl->Ap,le_trans->An,lt_of_le_of_lt->Cs,lt_or_ge->Bd,lt_succ_self->AK,lt_trichotomy->Gh,min_eq_left->BP,mul_comm->Cb,mul_le_mul->Cp,mul_le_mul_left->BC,mul_le_mul_right->A7,one_le_two_pow->B8,pow_add->CA,pow_le_pow_right->BU,sub_lt_sub_left->AF,sub_self->Cu,succ_mul->C4,zero_add->A5,zero_le->Ak,zero_mul->Cw
open Option renaming getD_some->Bc,isSome_some->E8,map_some->A4
open Option.some renaming injEq->AU
open Prod.mk renaming injEq->Ez
open _root_ renaming beq_iff_eq->CK,decide_eq_false->Br,decide_eq_false_iff_not->CO,decide_eq_true->BD,decide_eq_true_eq->AI,decide_false->FV,eq_true->EE,if_false->BY,if_neg->Ac,if_pos->Ae,if_true->B5
section
open List renaming map_map->O,mapM_map->X
open Go Go.Am Go.Proofs
namespace Go.Am
def aYb(n:Nat)(x f g:Nat->Int)(a b:Int):sgm n (λi=>x i*(a*f i-g i*b))=a*sgm n (λi=>x i*f i)-sgm n (λi=>x i*g i)*b:=by
 induction n with
 |zero=>simp[sgm]
 |succ n ih=>simp only[sgm];rw[ih];grind
def bGg(n:Nat)(x y f:Nat->Int)(a b:Int):sgm n (λi=>(a*x i-b*y i)*f i)=a*sgm n (λi=>x i*f i)-b*sgm n (λi=>y i*f i):=by
 induction n with
 |zero=>simp[sgm]
 |succ n ih=>simp only[sgm];rw[ih];grind
def bPm{n B:Nat}{f:Nat->Int}(h:∀j,j<n->(f j).natAbs<=B):(sgm n f).natAbs<=n*B:=by
 induction n with
 |zero=>simp[sgm]
 |succ n ih =>
  have h1:=ih λj hj=>h j (by omega)
  have h2:=h n (by omega);rw[C4];simp only[sgm];omega
def aIp(k:Nat)(f:Nat->Int):∀n,sgm (k+n) f=sgm k f+sgm n (λi=>f (k+i))
 |0=>by simp[sgm]
 |n+1=>by rw[<-Nat.add_assoc];simp only[sgm];rw[aIp k f n];omega
def zY{x y:Int}{a b:Nat}(hx:x.natAbs<=2^a)(hy:y.natAbs<=2^b):(x*y).natAbs<=2^(a+b):=by rw[BV,CA];exact Cp hx hy
def gG:Nat->Nat->Nat
 |0,_=>0
 |n+1,b=>gG n (2*b+1)+b+n
def aDn:∀{n b b':Nat},b<=b'->gG n b<=gG n b'
 |0,_,_,_=>Ap _
 |n+1,b,b',h=>by have:=aDn (n:=n) (b:=2*b+1) (b':=2*b'+1) (by omega);simp only[gG];omega
def bLg{n m b:Nat}(h:n<=m):gG n b<=gG m b:=by
 induction m with
 |zero=>rw[show n=0 by omega];exact Ap _
 |succ m ih =>
  by_cases e:n=m+1
  ·rw[e];exact Ap _
  ·have h1:=ih (by omega);have h2:=aDn (n:=m) (b:=b) (b':=2*b+1) (by omega);show _<=gG m (2*b+1)+b+m;omega
def aBl(c:Nat):∀(n b:Nat) (u:Nat->Nat->Int) (S:Nat->Prop),(∀i t,i<n->t<c->(u i t).natAbs<=2^b) ->
  (∃x:Nat->Int,(∃i,i<n/\x i≠0)/\(∀i,i<n->¬S i->x i=0)/\∀t,t<c->sgm n (λi=>x i*u i t)=0) ->
  ∃y:Nat->Int,(∃i,i<n/\y i≠0)/\(∀i,i<n->¬S i->y i=0)/\(∀t,t<c->sgm n (λi=>y i*u i t)=0)/\∀i,i<n->(y i).natAbs<=2^gG n b
 |0,b,u,S,_,⟨x,⟨i,hi,_⟩,_⟩=>absurd hi (Nat.not_lt_zero _)
 |n+1,b,u,S,hu,⟨x,⟨i0,hi0,hx0⟩,hxS,hx⟩=>by
  by_cases hS:S n
  rotate_left
  ·have xn:x n=0:=hxS n (by omega) hS;obtain⟨y,⟨i1,hi1,hy1⟩,hyS,hy,hyb⟩:=aBl c n b u S (λi t hi ht=>hu i t (by omega) ht) ⟨x,⟨i0,by
    by_cases e:i0=n
    ·rw[e]at hx0;exact absurd xn hx0
    ·omega,hx0⟩,λi hi=>hxS i (by omega),λt ht=>by have:=hx t ht;simp only[sgm]at this;rw[xn]at this;simpa using this⟩
   refine⟨λi=>if i=n then 0 else y i,⟨i1,by omega,by show(if i1=n then 0 else y i1)≠0;rw[Ac (by omega)];exact hy1⟩,λi hi hs=>?_,λt ht=>?_,λi hi=>?_⟩
   ·show(if i=n then 0 else y i)=0;split
    ·rfl
    ·exact hyS i (by omega) hs
   ·simp only[sgm,B5];rw[dL λi hi=>by rw[Ac (by omega:¬i=n)],hy t ht];simp
   ·show(if i=n then 0 else y i).natAbs<=_;split
    ·exact Ak _
    ·refine An (hyb i (by omega)) (BU (by omega) ?_);have:=aDn (n:=n) (b:=b) (b':=2*b+1) (by omega);simp only[gG];omega
  ·by_cases hz:∃t,t<c/\u n t≠0
   rotate_left
   ·refine⟨λi=>if i=n then 1 else 0,⟨n,by omega,by simp⟩,λi hi hs=>?_,λt ht=>?_,λi hi=>?_⟩
    ·show(if i=n then(1:Int)else 0)=0;rw[Ac λ(e:i=n)=>hs (e ▸ hS)]
    ·refine(qD (by omega) λi=>u i t).trans ?_;exact A8 λe=>hz ⟨t,ht,e⟩
    ·have:1<=2^gG (n+1) b:=B8;show(if i=n then(1:Int)else 0).natAbs<=_;split<;>simp<;>omega
   ·obtain⟨t0,ht0,hn0⟩:=hz;have hxn:∃i,i<n/\x i≠0:=A8 λh0=>by
     have hz:∀i,i<n->x i=0:=λi hi=>A8 λe=>h0 ⟨i,hi,e⟩
     have:=hx t0 ht0;simp only[sgm]at this;rw[qY λi hi=>by rw[hz i hi];simp,CD]at this;rcases D7.1 this with e|e
     ·by_cases e2:i0=n
      ·rw[e2]at hx0;exact hx0 e
      ·exact hx0 (hz i0 (by omega))
     ·exact hn0 e
    obtain⟨y,⟨i1,hi1,hy1⟩,hyS,hy,hyb⟩:=aBl c n (2*b+1) (λi t=>u n t0*u i t-u i t0*u n t) S (λi t hi ht=>by
     have h1:=zY (hu n t0 (by omega) ht0) (hu i t (by omega) ht);have h2:=zY (hu i t0 (by omega) ht0) (hu n t (by omega) ht);have h3:2^(2*b+1)=2^(b+b)+2^(b+b):=by rw[Nat.pow_succ,Nat.mul_two,show 2*b=b+b by omega]
     show(u n t0*u i t-u i t0*u n t).natAbs<=_;omega) ⟨x,hxn,λi hi=>hxS i (by omega),λt ht=>by
      have h1:=hx t ht;have h2:=hx t0 ht0;simp only[sgm]at h1 h2;rw[aYb n x (λi=>u i t) (λi=>u i t0),show sgm n (λi=>x i*u i t)=- (x n*u n t)by omega,show sgm n (λi=>x i*u i t0)=- (x n*u n t0)by omega];grind⟩
    obtain⟨g,hg⟩:∃g,gG n (2*b+1)=g:=⟨_,rfl⟩;have hg':gG (n+1) b=g+b+n:=by simp only[gG];rw[hg]
    rw[hg]at hyb;rw[hg'];have hy0:∀j,j<n->(y j*u j t0).natAbs<=2^(g+b):=λj hj=>zY (hyb j hj) (hu j t0 (by omega) ht0)
    refine⟨λi=>if i=n then-sgm n (λi=>y i*u i t0)else u n t0*y i,⟨i1,by omega,?_⟩,λi hi hs=>?_,λt ht=>?_,λi hi=>?_⟩
    ·show(if i1=n then _ else u n t0*y i1)≠0;rw[Ac (by omega)];exact λe=>(D7.1 e).elim hn0 hy1
    ·show(if i=n then _ else u n t0*y i)=0;rw[Ac λ(e:i=n)=>hs (e ▸ hS),hyS i (by
      by_cases e:i=n
      ·exact absurd (e ▸ hS) hs
      ·omega) hs,DO]
    ·have h1:=hy t ht;rw[aYb n y (λi=>u i t) (λi=>u i t0)]at h1;simp only[sgm,B5];rw[dL (g:=λi=>u n t0*(y i*u i t)) λi hi=>by rw[Ac (by omega:¬i=n),DD],yF,Int.neg_mul];omega
    ·show(if i=n then _ else u n t0*y i).natAbs<=_;split
     ·rw[CQ];refine An (bPm hy0) ?_;rw[CA _ (g+b),Cb];exact BC _ (Nat.le_of_lt Nat.lt_two_pow_self)
     ·refine An (zY (hu n t0 (by omega) ht0) (hyb i (by omega))) (BU (by omega) (by omega))
structure bOk(R c Q k:Nat)(A M:List (List Int))(p:Nat->Nat):Prop where
 hn:Hn Q R R k M p
 le:k<=Q
 ker:∀i,i<k->∀t,t<c->sgm R (λj=>ent M i j*ent A j t)=0
 all:∀x:Nat->Int,(∀t,t<c->sgm R (λj=>x j*ent A j t)=0)->∃a:Nat->Int,∀j,j<R->sgm Q (λi=>a i*ent M i j)=x j
section
variable {R c Q k b:Nat} {A M:List (List Int)} {p:Nat->Nat}
def InK(R c:Nat)(A:List (List Int))(x:Nat->Int):Prop:=∀t,t<c->sgm R (λj=>x j*ent A j t)=0
def InK.lin{x y:Nat->Int}(hx:InK R c A x)(hy:InK R c A y)(a b:Int):InK R c A (λj=>a*x j-b*y j):=λt ht=>by rw[bGg,hx t ht,hy t ht];simp
def Hn.inj(h:Hn Q c R k M p){i j:Nat}(hi:i<k)(hj:j<k)(e:p i=p j):i=j:=by
 rcases Gh i j with h1|h1|h1
 ·have:=h.inc i j h1 hj;omega
 ·exact h1
 ·have:=h.inc j i h1 hi;omega
def aYj(h:bOk R c Q k A M p){i:Nat}(hi:i<k):∀n,i+1+n<=k->∃x:Nat->Int,InK R c A x/\x (p i)≠0/\∀m,m<i+1+n->m≠i->x (p m)=0
 |0,_=>⟨λj=>ent M i j,h.ker i hi,by have:=h.hn.pos i hi;show ent M i (p i)≠0;omega,λm hm hne=>h.hn.bef i _ hi (h.hn.inc m i (by omega) hi)⟩
 |n+1,hn=>by
  obtain⟨x,h1,h2,h3⟩:=aYj h hi n (by omega);have hm:i+1+n<k:=by omega
  have h0:∀m,m<i+1+n->ent M (i+1+n) (p m)=0:=λm hm'=>h.hn.bef _ _ hm (h.hn.inc m _ hm' hm)
  refine⟨λj=>ent M (i+1+n) (p (i+1+n))*x j-x (p (i+1+n))*ent M (i+1+n) j,h1.lin (h.ker _ hm) _ _,?_,λm hm' hne=>?_⟩
  ·show ent M (i+1+n) (p (i+1+n))*x (p i)-_*ent M (i+1+n) (p i)≠0;rw[h0 i (by omega)];intro e;have hp:=h.hn.pos _ hm;have:ent M (i+1+n) (p (i+1+n))*x (p i)=0:=by simpa using e
   rcases D7.1 this with e|e
   ·omega
   ·exact h2 e
  ·show ent M (i+1+n) (p (i+1+n))*x (p m)-x (p (i+1+n))*ent M (i+1+n) (p m)=0;by_cases e:m=i+1+n
   ·rw[e,B1];omega
   ·rw[h0 m (by omega),h3 m (by omega) hne];simp
def aJb(h:bOk R c Q k A M p)(hb:Be b A){i:Nat}(hi:i<k):∃w:Nat->Int,InK R c A w/\w (p i)≠0/\(∀m,m<k->m≠i->w (p m)=0)/\(∀j,j<R->(w j).natAbs<=2^gG R b)/\(ent M i (p i)).natAbs<=2^gG R b:=by
 obtain⟨x,x1,x2,x3⟩:=aYj h hi (k-i-1) (by omega);obtain⟨w,⟨j0,hj0,hw0⟩,w2,w3,w4⟩:=aBl c R b (λj t=>ent A j t) (λj=>j=p i\/∀m,m<k->p m≠j) (λj t _ _=>hb j t) ⟨x,⟨p i,h.hn.lt i hi,x2⟩,λj hj hs=>by
  have h1:j≠p i:=λe=>hs (.inl e)
  obtain⟨m,hm,e⟩:∃m,m<k/\p m=j:=A8 λh0=>hs (.inr λm hm e=>h0 ⟨m,hm,e⟩)
  rw[<-e];exact x3 m (by omega) λe2=>h1 (by rw[<-e,e2]),x1⟩
 obtain⟨a,ha⟩:=h.all w w3;obtain⟨m,m1,m2,_,m4⟩:=h.hn.lead h.le ha ⟨j0,hj0,hw0⟩;have hp:=h.hn.pos m m1;have hne:w (p m)≠0:=by
  rw[m4];intro e;rcases D7.1 e with e|e
  ·exact m2 e
  ·omega
 have em:m=i:=by
  refine h.hn.inj m1 hi (A8 λe=>hne (w2 _ (h.hn.lt m m1) λs=>?_));rcases s with s|s
  ·exact e s
  ·exact s m m1 rfl
 subst em;refine⟨w,w3,hne,λn hn hne=>w2 _ (h.hn.lt n hn) λs=>?_,w4,?_⟩
 ·rcases s with s|s
  ·exact hne (h.hn.inj hn m1 s)
  ·exact s n hn rfl
 ·refine An ?_ (w4 _ (h.hn.lt m m1));rw[m4,BV];have:=A7 (ent M m (p m)).natAbs (show 1<=(a m).natAbs by omega);omega
def aKc(h:bOk R c Q k A M p)(hb:Be b A):∀(m:Nat) (y:Nat->Int) (B:Nat),m<=k->InK R c A y->(∀j,j<k->m<=j->y (p j)=0)->(∀j,j<m->(y (p j)).natAbs<=B)->∀q,q<R->(∀j,j<k->p j≠q)->(y q).natAbs<=m*(B*2^gG R b)
 |0,y,B,_,hy,h0,_,q,hq,_=>by
  refine A8 λhne=>?_
  obtain⟨a,ha⟩:=h.all y hy;obtain⟨m,m1,m2,_,m4⟩:=h.hn.lead h.le ha ⟨q,hq,by intro e;rw[e]at hne;simp at hne⟩;rw[h0 m m1 (by omega)]at m4;have hp:=h.hn.pos m m1;rcases D7.1 m4.symm with e|e
  ·exact m2 e
  ·omega
 |m+1,y,B,hm,hy,h0,h1,q,hq,hnp=>by
  obtain⟨w,w1,w2,w3,w4,_⟩:=aJb h hb (show m<k by omega);have ih:=aKc h hb m (λj=>w (p m)*y j-y (p m)*w j) ((w (p m)).natAbs*B) (by omega) (hy.lin w1 _ _) (λj hj hmj=>by
   show w (p m)*y (p j)-y (p m)*w (p j)=0;by_cases e:j=m
   ·rw[e,B1];omega
   ·rw[h0 j hj (by omega),w3 j hj e];simp) (λj hj=>by
   show(w (p m)*y (p j)-y (p m)*w (p j)).natAbs<=_;rw[w3 j (by omega) (by omega),DO,Int.sub_zero,BV];exact BC _ (h1 j (by omega))) q hq hnp
  have h2:=Cp (h1 m (by omega)) (w4 q hq);rw[<-BV]at h2;have ih':(w (p m)*y q-y (p m)*w q).natAbs<=(w (p m)).natAbs*(m*(B*2^gG R b)):=by refine An ih (Nat.le_of_eq ?_);rw[Nat.mul_assoc,Nat.mul_left_comm]
  have h3:(w (p m)*y q).natAbs<=(w (p m)).natAbs*(m*(B*2^gG R b))+B*2^gG R b:=by omega
  have h4:1*(B*2^gG R b)<=(w (p m)).natAbs*(B*2^gG R b):=A7 _ (Int.natAbs_pos.2 w2);rw[BV]at h3;have h5:0<(w (p m)).natAbs:=Int.natAbs_pos.2 w2;refine Nat.le_of_mul_le_mul_left (c:=(w (p m)).natAbs) ?_ h5;rw[C4,Nat.mul_add];omega
def bDe(h:bOk R c Q k A M p)(hb:Be b A)(hk:k<=16){i q:Nat}(hi:i<k)(hq:q<R):(ent M i q).natAbs<=2^(2*gG R b+4):=by
 have hW:∀j,j<k->(ent M j (p j)).natAbs<=2^gG R b:=λj hj=>let ⟨_,_,_,_,_,e⟩:=aJb h hb hj;e
 have hpv:∀j,j<k->(ent M i (p j)).natAbs<=2^gG R b:=λj hj=>by
  rcases Gh j i with e|e|e
  ·rw[h.hn.bef i _ hi (h.hn.inc j i e hi)];exact Ak _
  ·rw[e];exact hW i hi
  ·have:=hW j hj;obtain⟨r1,r2⟩:=h.hn.red i j e hj;omega
 have e1:2^(2*gG R b+4)=16*(2^gG R b*2^gG R b):=by rw[<-CA,CA,Cb,show 2*gG R b=gG R b+gG R b by omega]
 by_cases e:∃j,j<k/\p j=q
 ·obtain⟨j,hj,rfl⟩:=e;exact An (hpv j hj) (BU (by omega) (by omega))
 ·refine An (aKc h hb k (λj=>ent M i j) _ (Ap _) (h.ker i hi) (λj h1 h2=>by omega) hpv q hq λj hj e2=>e ⟨j,hj,e2⟩) ?_;rw[e1];exact A7 _ hk
end
def Hn.start(R c:Nat)(M:List (List Int)):Hn R c 0 0 M λ_=>0 :=
 ⟨λi j _ h=>by omega,λi h=>by omega,λi h=>by omega,λi t h=>by omega,λj i _ h=>by omega,λr t _ _ h=>by omega⟩
def Hn.rank{R c k:Nat}{M:List (List Int)}{p:Nat->Nat}(h:Hn R c c k M p)(hk:k<=R)(hM:Sh R c M):rkR M=k :=
 aCz hM hk (λr t h1 h2 h3=>h.low r t h1 h2 h3) λr hr=>⟨p r,h.lt r hr,by have:=h.pos r hr;omega⟩
def bTc{R t:Nat}{x:Nat->Int}(ht:t<R):sgm R (λj=>x j*ent (idM R) j t)=x t:=by rw[dL (g:=λj=>(if j=t then 1 else 0)*x j) λj hj=>by rw[sE hj ht,B1],qD ht]
def aZd{R c e:Nat}{A:List (List Int)}(hA:Sh R c A)(hR:R<=15)(hc:c<=1000)(hB:Be e A)(he:itD R e e e<4160000000000):∃L,aTq R c (2*gG R e+4) A L:=by
 obtain⟨wf,k,e',E',f1,f2,f3,f4,_,q1,q2,f5,f6,f7,f8⟩:=aZn hA hR hB he;have hB2:Sh (R-k) R (wf.U.drop k):=⟨by rw[Bk,f4.u.len],λv hv=>f4.u.row v (List.mem_of_mem_drop hv)⟩;have hbe:Be e' (wf.U.drop k):=λr t=>by rw[aGi];exact f5 _ _ (by omega)
 obtain⟨wg,q,e2,_,g1,g2,g3,g4,_,_,_,_,_,g7,g8⟩:=aZn hB2 (by omega) hbe (Cs f6 he);have he1:e<4160000000000:=Cs (aAz _ _ _ _) he;have he2:e'<4160000000000:=by omega
 have hS:=aPw hA hR hc (hB.mem he1) f1 f4.m f4.u (by rw[f2];exact f3) rfl (by rw[f2];exact hbe.mem he2) (by rw[f2];exact g1) (by rw[f2];exact g4.m);rw[g2]at hS;have hlen:(wg.M.take q).length=q:=by rw[Ax,g4.m.len];omega
 obtain⟨k1,p1,n1,n2⟩:=bVw f1 (Ak _) (Ak _) (Hn.start _ _ _);obtain⟨k2,p2,n3,n4⟩:=bVw g1 (Ak _) (Ak _) (Hn.start _ _ _);obtain rfl:k1=k:=by rw[<-n2.rank n1 f4.m];exact f2
 obtain rfl:k2=q:=by rw[<-n4.rank n3 g4.m];exact g2
 have hker:∀i,i<R-k1->∀t,t<c->sgm R (λj=>ent wg.M i j*ent A j t)=0:=λi hi t ht=>by
  rw[dL (g:=λj=>sgm (R-k1) λi2=>ent wg.U i i2*(ent wf.U (k1+i2) j*ent A j t)) λj hj=>by
   rw[<-g7 i j hi hj,<-bGf];exact dL λi2 _=>by rw[aGi,DD],bGi]
  refine qY λi2 h2=>?_
  rw[yF,f7 (k1+i2) t (by omega) ht,f8 (k1+i2) t (by omega) (by omega) ht,DO]
 have hK:bOk R c (R-k1) k2 A wg.M p2:=⟨n4,n3,λi hi=>hker i (by omega),λx hx=>by
  obtain⟨a,a1,a2⟩:=InP.fo f1 (x:=λ_=>0) (y:=x) ⟨x,hx,λt ht=>bTc ht⟩;have a0:∀j,j<k1->a j=0:=λj hj=>A8 λhne=>by
   obtain⟨m,m1,m2,_,m4⟩:=n2.min n1 a1 ⟨j,hj,hne⟩;have hp:=n2.pos m m1;rcases D7.1 m4.symm with e|e
   ·exact m2 e
   ·omega
  obtain⟨a',a1',_⟩:=InP.fo g1 (x:=x) (y:=λt=>sgm (R-k1) λj=>a (k1+j)*ent (idM (R-k1)) j t) ⟨λi=>a (k1+i),λt ht=>by
   rw[<-a2 t ht];have h1:=aIp k1 (λj=>a j*ent wf.U j t) (R-k1);rw[show k1+(R-k1)=R by omega,show sgm k1 (λj=>a j*ent wf.U j t)=0 from qY λj hj=>by rw[a0 j hj];simp]at h1;rw[h1,CD];exact dL λj _=>by show _*ent (List.drop k1 wf.U) j t=_;rw[aGi],λt ht=>rfl⟩
  exact⟨a',a1'⟩⟩
 have hgd:∀{v:List Int} {r:Nat},r<k2->(h:r<(wg.M.take k2).length)->(wg.M.take k2)[r]=v->∀j,v.getD j 0=ent wg.M r j:=λ{v r} hr h e j=>by rw[Ea]at e;unfold ent;rw[Af (l:=wg.M),Ab (by rw[g4.m.len];omega),Bc,e]
 refine⟨wg.M.take k2,by rw[hlen];exact hS,by omega,λv hv=>g4.m.row v (Cj hv),λv hv z hz=>?_,λv hv t ht=>?_⟩
 ·obtain⟨i,hi,e1⟩:=Bv hv;obtain⟨s,hs,e2'⟩:=yY hz;have hs':s<R:=by rw[g4.m.row v (Cj hv)]at hs;exact hs
  rw[<-e2',hgd (by omega) hi e1];exact bDe hK hB (by omega) (by omega) hs'
 ·obtain⟨r,hr,e1⟩:=Bv hv;rw[dL λj _=>by rw[hgd (by omega) hr e1 j]];exact hker r (by omega) t ht
def eD(d:Int):Nat:=if d=1 then 4 else if d=2 then 1024 else if d=3 then 65536 else 0
structure Gr(g:Int->Nat)(i:Nat)(c:List Cl):Prop where
 v:CxV c
 len:c.length<=7+i
 n0:(cA c 0).length<=3+i
 n1:(cA c 1).length<=3+i
 n2:(cA c 2).length<=2+i
 n3:(cA c 3).length<=1+i
 ids:∀x∈c,1<=x.id/\x.id<=9+2*(i:Int)
 bl:∀x∈c,x.b.length<=48
 eb:∀x∈c,Bnd (2^g x.dim) x.b
def grB(c:List Cl):Prop:=(c.Pairwise λx y=>x.id<y.id)/\(∀x∈c,0<=x.dim/\x.dim<=3)/\(∀x∈c,x.b.Pairwise (λx y=>x.1<y.1)/\∀y∈x.b,y.2≠0)/\(∀x∈c,∀f∈x.b,∃y∈c,y.id=f.1/\y.dim=x.dim-1)/\(∀x∈c,cE [] (bdL c x.b)=[])
 /\ c.length<=7/\(cA c 0).length<=3/\(cA c 1).length<=3/\(cA c 2).length<=2/\(cA c 3).length<=1/\(∀x∈c,1<=x.id/\x.id<=9)/\(∀x∈c,x.b.length<=48)/\∀x∈c,x.b=[]\/(1<=x.dim/\∀y∈x.b,y.2.natAbs<=16)
instance (c : List Cl) : Decidable (grB c) := by unfold grB;infer_instance
def cBw{e:Int->Nat}{c:List Cl}(he:∀d:Int,1<=d->d<=3->4<=e d)(h:grB c):Gr e 0 c:=by
 obtain⟨h1,h2,h3,h4,h5,h6,h7,h8,h9,h9',h10,h11,h12⟩:=h;refine⟨⟨h1,h2,h3,h4,λx hx n=>?_⟩,h6,h7,h8,h9,h9',λx hx=>by have:=h10 x hx;omega,h11,λx hx=>?_⟩
 ·rw[<-aWj];have:=(cR (bdL c x.b) [] Val.nil).2 n;rw[h5 x hx,gX]at this;omega
 ·rcases h12 x hx with h|⟨h,h'⟩
  ·rw[h];exact Bnd.nil _
  ·exact Bnd.mono (M:=16) h' (An (show 16<=2^4 by decide) (yL (he _ h (h2 x hx).2)))
def bWw{e:Int->Nat}(he:∀d:Int,1<=d->d<=3->4<=e d)(j:Nat)(h:j<14):Gr e 0 (spc j):=by refine cBw he ?_;clear he;revert j;decide
def aFw{c:List Cl}{E:Nat}{cyc:List (List (Int×Int))}{xs:List Int}{S:Int->Prop}{W:Int->Int->Int}(hc:∀y∈cyc,Val y/\Bnd (2^E) y/\(∀f∈y,S f.1)/\∀n,bO (W n) y=0) :
  ∀i,i<=cyc.length->Val (gB cyc xs i)/\Bnd (i*(2^2*2^E)) (gB cyc xs i)/\(∀f∈gB cyc xs i,S f.1)/\∀n,bO (W n) (gB cyc xs i)=0
 |0,_=>⟨Val.nil,Bnd.nil _,(λf hf=>absurd hf List.not_mem_nil),λn=>rfl⟩
 |i+1,hi=>by
  obtain⟨h1,h2,h3,h4⟩:=aFw (c:=c) (xs:=xs) hc i (by omega);have hm:cyc.getD i []∈cyc:=by rw[Af,Ab (by omega)];exact Ar _
  obtain⟨y1,y2,y3,y4⟩:=hc _ hm;refine⟨(aDj h1 y1 _).1,?_,aJv h1 y1 h3 y3,λn=>?_⟩
  ·rw[C4];exact bJk h1 y1 h2 y2 (aOq _).1
  ·show bO (W n) (cE (gB cyc xs i) (mulR _ (cyc.getD i [])))=0;rw[mR,mQ,h4,y4];simp
def bYo{c:List Cl}{x0:Int}(h:Inc c):∀x∈c,x.id<gId c x0:=λx hx=>by
 unfold gId;cases e:c.getLast? with
 |none=>rw[List.getLast?_eq_none_iff]at e;rw[e]at hx;cases hx
 |some y =>
  obtain⟨ys,hy⟩:=List.getLast?_eq_some_iff.1 e;have:x.id<=y.id:=by
   rw[hy]at hx h;rcases A6.1 hx with hx|hx
   ·exact Int.le_of_lt ((List.pairwise_append.1 h).2.2 x hx y (Fb _))
   ·rw[AT.1 hx];exact Int.le_refl _
  simp only;omega
def bYn{c:List Cl}{x0 m:Int}(h:∀x∈c,1<=x.id/\x.id<=m)(hm:0<=m):1<=gId c x0/\gId c x0<=m+2:=by
 unfold gId;cases e:c.getLast? with
 |none=>simp only;omega
 |some y =>
  have:=h y (List.mem_of_getLast? e);simp only;omega
def grow{e:Int->Nat}{i E:Nat}{c:List Cl}{x0 x1 x2 x3:Int}{cyc:List (List (Int×Int))}(g:Gr e i c)(hc:∀y∈cyc,Val y/\Bnd (2^E) y/\(∀f∈y,f.1∈cA c (jO x0-1))/\∀n,bO (λm=>cf n (bOf c m)) y=0)(hl:∀y∈cyc,y.length<=16)
  (hE:cyc=[]\/E+4<=e (jO x0)):Gr e (i+1) (grown c x0 x1 x2 x3 cyc):=by
 obtain⟨b1,b2,b3,b4⟩:=aFw (c:=c) (xs:=[x0,x1,x2,x3]) hc (min 3 cyc.length) (by omega)
 have b5:(gB cyc [x0,x1,x2,x3] (min 3 cyc.length)).length<=48:=by have:=(aZl (e:=E) (xs:=[x0,x1,x2,x3]) (λy hy=>(hc y hy).2.1) hl (min 3 cyc.length) (by omega) (by omega)).2;omega
 have b6:Bnd (2^e (jO x0)) (gB cyc [x0,x1,x2,x3] (min 3 cyc.length)):=by
  rcases hE with h|h
  ·subst h;exact Bnd.nil _
  ·refine b2.mono (An ?_ (yL h));rw[pC,show E+4=2+(2+E)by omega];exact tQ (An (show min 3 cyc.length<=3 by omega) (by decide))
 unfold grown
 generalize gB cyc [x0,x1,x2,x3] (min 3 cyc.length)=b at *
 have hgt:=bYo (x0:=x0) g.v.inc
 have hle:=bYn (x0:=x0) g.ids (by omega)
 have hd:0<=jO x0/\jO x0<=3:=by unfold jO;omega
 generalize gId c x0=id at *
 generalize jO x0=d at *
 have hmem:∀n k,n∈cA c k->n≠id:=λn k hn=>by obtain⟨y,hy,_,e⟩:=rG.1 hn;have:=hgt y hy;omega
 have hall:∀(P:Cl->Prop),(∀x∈c,P x)->P ⟨id,d,b⟩->∀x∈c++[⟨id,d,b⟩],P x:=λP h1 h2 x hx=>by
  rcases A6.1 hx with hx|hx
  ·exact h1 x hx
  ·rw[AT.1 hx];exact h2
 have hcnt:∀k m,(cA c k).length<=m->(cA (c++[⟨id,d,b⟩]) k).length<=m+1:=λk m h=>by rw[aRv,Al];split<;>simp<;>omega
 refine⟨⟨?_,hall _ g.v.dim hd,hall _ g.v.val b1,hall _ (λx hx f hf=>?_) λf hf=>?_,hall _ (λx hx n=>?_) λn=>?_⟩,?_,hcnt 0 _ g.n0,hcnt 1 _ g.n1,hcnt 2 _ g.n2,hcnt 3 _ g.n3,hall _ (λx hx=>?_) ?_,hall _ g.bl b5,hall _ g.eb b6⟩
 ·refine List.pairwise_append.2 ⟨g.v.inc,Dg _ _,λx hx y hy=>?_⟩
  rw[AT.1 hy];exact hgt x hx
 ·obtain⟨y,hy,e⟩:=g.v.face x hx f hf
  exact⟨y,FB _ hy,e⟩
 ·obtain⟨y,hy,e1,e2⟩:=rG.1 (b3 f hf)
  exact⟨y,FB _ hy,e2,e1⟩
 ·rw[eB λf hf=>?_]
  ·exact g.v.cyc x hx n
  ·obtain⟨y,hy,e,_⟩:=g.v.face x hx f hf
   rw[bAg]
   have:=hgt y hy
   show f.1≠id;omega
 ·rw[eB λf hf=>?_]
  ·exact b4 n
  ·rw[bAg];exact hmem _ _ (b3 f hf)
 ·rw[Al];have:=g.len;simp;omega
 ·have:=g.ids x hx;omega
 ·show 1<=id/\id<=_;omega
def bKb{R R' e:Nat}(h:R<=R'):itD R e e e<=itD R' e e e:=by
 induction R' with
 |zero=>rw[show R=0 by omega];exact Ap _
 |succ n ih =>
  by_cases e:R=n+1
  ·rw[e];exact Ap _
  ·exact An (ih (by omega)) (bYf _ _ _ _)
def bZb{E:Nat}{c:List Cl}{k:Int}{L:List (List Int)}(hv:CxV c)(hL:aTq (cA c k).length (cA c (k-1)).length E (tF c k) L) :
  ∀y∈L.map λv=>(chX c k v).1,(Val y/\Bnd (2^E) y/\(∀f∈y,f.1∈cA c k)/\∀n,bO (λm=>cf n (bOf c m)) y=0)/\y.length<=(cA c k).length:=λy hy=>by
 obtain⟨v,hvL,rfl⟩:=AA.1 hy
 have hr:=hL.row v hvL
 have e:(chX c k v).1=cE [] ((cA c k).zip v):=by unfold chX;rw[Ae hr]
 rw[e]
 obtain⟨c1,c2,c3,c4,_⟩:=bMn (hv.inc.ids k) (hL.be v hvL)
 exact⟨⟨c1,c2,c3,hv.cycle hr (hL.ker v hvL)⟩,c4⟩
abbrev Q4:=Int×Int×Int×Int
def Q4.ok(q:Q4):Prop:=(-128<=q.1/\q.1<=127)/\(-128<=q.2.1/\q.2.1<=127)/\(-128<=q.2.2.1/\q.2.2.1<=127)/\(-128<=q.2.2.2/\q.2.2.2<=127)
def qS(q:Q4):List D:=[.i .i8 q.1,.i .i8 q.2.1,.i .i8 q.2.2.1,.i .i8 q.2.2.2]
def aMw(s:Int)(l:List Q4):D:=.ag [.i .u8 s,.sl (l.map qS)]
inductive MkR:List Q4->List Cl->List Cl->Prop
 |nil (c:List Cl):MkR [] c c
 |cons (q:Q4) (l:List Q4) (c c1 c2:List Cl) (h:Spec Aa 29 [aE c,.ag (qS q)] (aE c1)) (h2:MkR l c1 c2):MkR (q::l) c c2
def MkR.end{c c2:List Cl}(h:MkR [] c c2):c2=c:=by cases h;rfl
def MkR.next{q:Q4}{l:List Q4}{c c2:List Cl}(h:MkR (q::l) c c2):∃c1,Spec Aa 29 [aE c,.ag (qS q)] (aE c1)/\MkR l c1 c2:=by cases h with|cons _ _ _ c1 _ h h2=>exact⟨c1,h,h2⟩
def aPt(s:Int)(l:List Q4)(c0 c:List Cl)(hl:l.length<=9223372036854775807)(hS:Spec Aa 54 [.i .u8 s] (aE c0))(hm:MkR (l.take 4) c0 c):Spec Aa 27 [aMw s l] (aE c):=by
 refine bF (N:=27) Tryz.func27 ?_;have hq4:∀q:Q4,qS q=[.i .i8 q.1,.i .i8 q.2.1,.i .i8 q.2.2.1,.i .i8 q.2.2.2]:=λq=>rfl
 simp[-O,-X,↓KW,aMw];refine aJ hS ?_;simp[-O,-X,↓KW,aE];refine aP (λy:Nat×List Cl=>y.1<=min 4 l.length/\MkR ((l.take 4).drop y.1) y.2 c) (λy=>StL [(1,.ptr 1 0),(3,.d (aE y.2)),(4,.d (.i .i64 (y.1:Int)))] none [.cells 24 [.d (.i .u8 s),.d (.sl (l.map qS))]]) (λy=>4-y.1) (0,c0) ⟨Ak _,hm⟩ ?_ ?_
 ·refine wkQ [1] ?_ ?_<;>simp[-O,upd,aO,Γ0,aE]
 ·rintro⟨i,d⟩ ⟨hi,hm⟩;simp only at hi hm ⊢;by_cases hgo:i<l.length/\i<4
  ·have g1:=hgo.1;have g2:=hgo.2;have q1:(i:Int)<l.length:=by omega
   have q2:(i:Int)<4:=by omega
   have hx:l[i]? = some l[i]:=Ab g1;have hd:(l.take 4).drop i=l[i]::(l.take 4).drop (i+1):=by rw[AP (by rw[Ax];omega),Ea]
   rw[hd]at hm;have hw:Ag.wrap ((i:Int)+1)=(i:Int)+1:=aV;refine(hm.next).elim λd1 hh=>?_
   have h1:=hh.1;have h2:=hh.2;clear hh hd hm;have hx':∀h:i<l.length,l[i]'h=l[i]:=λh=>rfl
   refine exE l[i] λq hq=>?_
   rw[hq]at hx h1;have hgy':∀h:i<l.length,l[i]'h=q:=λh=>hq
   have e4:=hq4 q;rw[e4]at h1;simp[-O,-X,↓KW,aE,g1,g2,q1,q2,hx,hgy',e4];refine aJ h1 ?_;simp[-O,-X,↓KW,aE,hw];refine aI (i+1,d1) ⟨by simp only;omega,h2⟩ (by simp only;omega) (wkQ [1] ?_ ?_)<;>simp[-O,upd,aO,Γ0,aE]
  ·have hd:(l.take 4).drop i=[]:=Bz (by rw[Ax];omega);rw[hd]at hm;have he:=hm.end;by_cases g1:i<l.length
   ·have q1:(i:Int)<l.length:=by omega
    have q2:¬(i:Int)<4:=by omega
    simp[-O,-X,↓KW,aE,q1,q2,he]
   ·have q1:¬(i:Int)<l.length:=by omega
    simp[-O,-X,↓KW,aE,q1,he]
def bFz(s:Int)(h:0<=s/\s<=255):∃j,j<14/\Spec Aa 54 [.i .u8 s] (aE (spc j)):=by have h1:=Int.tmod_lt_of_pos s (b:=14) (by decide);have h2:0<=s.tmod 14:=Int.tmod_nonneg _ h.1;exact⟨(s.tmod 14).toNat,by omega,bWx s _ (by omega) (by omega)⟩
structure MdX(c:List Cl):Prop where
 v:CxV c
 len:c.length<=11
 ids:∀x∈c,1<=x.id/\x.id<=17
 sz:∃F,F=549755944960/\SzX F c
 n1:(cA c 1).length<=7
 n2:(cA c 2).length<=6
 n3:(cA c 3).length<=5
 eb:∀x∈c,Bnd (2^eD x.dim) x.b
end Go.Am
end
section
open List renaming map_map->O,mapM_map->X
open Go Go.Am Go.Proofs
namespace Go.Am
open Go.ChangeShapes Go.WideShapes Go.ChangeAt Go.RowKit
def cDj:Aa.cellsOf 24=2:=by kernel_rfl
def zU8:Aa.cellsOf 5=1:=by kernel_rfl
def zI8:Aa.cellsOf 26=1:=by kernel_rfl
def zA4:Aa.cellsOf 27=4:=by kernel_rfl
def zL4:Aa.cellsOf 22=1:=by kernel_rfl
def aLc{n:Int}(h:(Lit.int .i8 n).wf=true):-128<=n/\n<=127:=by have hmin:IntKind.i8.min=-128:=rfl;have hmax:IntKind.i8.max=127:=rfl;simp only[Lit.wf,AO,AI]at h;omega
def aDz{n:Int}(h:(Lit.int .u8 n).wf=true):0<=n/\n<=255:=by have hmin:Cx.min=0:=rfl;have hmax:Cx.max=255:=rfl;simp only[Lit.wf,AO,AI]at h;omega
def cBn{α:Type}{l:List α}(h:l.length=4):∃a b c d,l=[a,b,c,d]:=by
 match l,h with
 |[a,b,c,d],_=>exact⟨a,b,c,d,rfl⟩
def cBo{α:Type}{l:List α}(h:l.length=2):∃a b,l=[a,b]:=by
 match l,h with
 |[a,b],_=>exact⟨a,b,rfl⟩
section
variable {H:Type} {enc:TypeId×Value->H} {w:World} {sp:Nat->Bool} {held:Bool}
def bVo{cs:List Value}{x:DataW H×List MemPlace}{fuel:Nat}(h:DataW.trod enc Aa w 0 sp held fuel 27 cs=some x) :
  ∃y:Q4,y.ok/\(qS y).length=Aa.cellsOf 27/\∀(k:Nat) (c:D) (v:Value),(qS y)[k]? = some c->cs[k]? = some v->VD (λb=>b<w.heap.size) w c v:=by
 obtain⟨xs,m,_,_,hcl,hxl,hx⟩:=DataW.trod_array Tryz.underlying27 h
 rw[zA4]at hcl
 obtain⟨a,b,c,d,rfl⟩:=cBn hcl
 have h0:=hx 0 (by decide)
 have h1:=hx 1 (by decide)
 have h2:=hx 2 (by decide)
 have h3:=hx 3 (by decide)
 rw[zI8,Ab (by omega)]at h0 h1 h2 h3
 simp only[Nat.mul_one,Cw,Nat.one_mul,BZ,Ci,Cf,Cq]at h0 h1 h2 h3
 obtain⟨i0,e0,_,w0⟩:=DU Ff h0
 obtain⟨i1,e1,_,w1⟩:=DU Ff h1
 obtain⟨i2,e2,_,w2⟩:=DU Ff h2
 obtain⟨i3,e3,_,w3⟩:=DU Ff h3
 injection e0 with e0;injection e1 with e1;injection e2 with e2;injection e3 with e3
 subst e0;subst e1;subst e2;subst e3
 refine⟨(i0,i1,i2,i3),⟨aLc w0,aLc w1,aLc w2,aLc w3⟩,by rw[zA4];rfl,λk c v hk hv=>?_⟩
 rcases k with _|_|_|_|k
 ·simp[qS]at hk hv;subst hk;subst hv;exact .i _ _
 ·simp[qS]at hk hv;subst hk;subst hv;exact .i _ _
 ·simp[qS]at hk hv;subst hk;subst hv;exact .i _ _
 ·simp[qS]at hk hv;subst hk;subst hv;exact .i _ _
 ·simp[qS]at hk
def bIe{v:Value}{d:DataW H}{ps:List MemPlace}{cs:Array Value}(hv:v=.agg cs)(h:DataW.Trod enc Aa w 0 sp held 24 v d ps) :
  ∃(s:Int) (l:List Q4),VD (λb=>b<w.heap.size) w (aMw s l) v/\(0<=s/\s<=255)/\(∀y∈l,y.ok)/\l.length<=9223372036854775807:=by
 subst hv
 obtain⟨fuel,hf⟩:=h
 obtain⟨xs,n,_,_,hl,hlen,hfs⟩:=DataW.trod_struct Tryz.underlying24 hf
 rw[cDj]at hl
 have h0:=hfs 0 { name := "S",type:=5,offset:=0,embedded:=false,tag := "",pkgPath := "",byteOffset:=0 } rfl
 have h1:=hfs 1 { name := "L",type:=22,offset:=1,embedded:=false,tag := "",pkgPath := "",byteOffset:=8 } rfl
 obtain⟨x0,hx0⟩:∃x,xs[0]? = some x:=⟨_,Ab (by rw[hlen];decide)⟩
 obtain⟨x1,hx1⟩:∃x,xs[1]? = some x:=⟨_,Ab (by rw[hlen];decide)⟩
 rw[hx0]at h0;rw[hx1]at h1
 simp only[Value.cells]at h0 h1 hl
 obtain⟨cs⟩:=cs
 simp only at h0 h1 hl
 obtain⟨a,b,rfl⟩:=cBo hl
 simp only[zU8,zL4,BZ,Ci,Cf,Cq]at h0 h1
 obtain⟨i,e1,_,w1⟩:=DU Tryz.underlying5 h0
 obtain⟨u,l,e2,hu,hg,hL⟩:=aJd Tryz.underlying22 (by rw[zA4];decide) qS Q4.ok (λfuel cs x h=>bVo h) h1
 injection e1 with e1;injection e2 with e2
 subst e1;subst e2
 refine⟨i,l,.ag _ _ rfl λk d v hk hv=>?_,aDz w1,hg,hL⟩
 rcases k with _|_|k
 ·simp at hk hv;subst hk;subst hv;exact .i _ _
 ·simp at hk hv;subst hk;subst hv;exact hu
 ·simp at hk
end
end Go.Am
namespace Go.Proofs.YtgjjndadkmodpaaGreat
def cDx:ownKnob Aa.godebug=none:=by kernel_rfl
def bVr:laidOutB Aa=true:=by kernel_rfl
end Go.Proofs.YtgjjndadkmodpaaGreat
end
section
open List renaming map_map->O,mapM_map->X
open Go Go.Am Go.Proofs
namespace Go.Am
def b2F(M d:Nat):Nat:=2*gG M (4+d)+10+d
def cAw(M d q:Nat):Bool:=decide (itD M (4+d) (4+d) (4+d)<4160000000000)&&decide (itD q (b2F M d) (b2F M d) (b2F M d)<4160000000000)&&decide (2*gG q (b2F M d)+20<2097152)&&decide (b2F M d<2097152)
def bRl:((CP 15).all λM=>(CP 15).all λd=>(CP 17).all λq=>decide (M<3)||decide (14<M+d)||decide (16<M+q+d)||cAw M d q)=true:=by kernel_rfl
def aFd{M d q:Nat}(h3:3<=M)(h1:M+d<=14)(h2:M+q+d<=16):itD M (4+d) (4+d) (4+d)<4160000000000/\itD q (b2F M d) (b2F M d) (b2F M d)<4160000000000/\2*gG q (b2F M d)+20<2097152/\b2F M d<2097152:=by have h:=bRl;rw[Ay]at h;have h:=h M (C0.2 (by omega));rw[Ay]at h;have h:=h d (C0.2 (by omega));rw[Ay]at h;have h:=h q (C0.2 (by omega));simp only[Bool.or_eq_true,AI]at h;have h:=h.resolve_left (by omega);simp only[cAw,AO,AI]at h;exact⟨h.1.1.1,h.1.1.2,h.1.2,h.2⟩
def eH(b1 b2 b3:Nat)(d:Int):Nat:=if d=1 then b1 else if d=2 then b2 else if d=3 then b3 else 0
def cyE(M q b1 b2:Nat)(d:Int):Nat:=if d=1 then 0 else if d=2 then 2*gG M b1+4 else if d=3 then 2*gG q b2+4 else 0
def aZv{c:List Cl}{b1 b2 b3 M q:Nat}(hv:CxV c)(hlen:c.length<=40)(hbl:∀x∈c,x.b.length<=48)(h0:(cA c 0).length<=15)(h1:(cA c 1).length<=M)(hM:M<=15)(h2:(cA c 2).length<=q)(hq:q<=15)
  (eb:∀x∈c,Bnd (2^eH b1 b2 b3 x.dim) x.b) (k1:itD M b1 b1 b1<4160000000000) (k2:itD q b2 b2 b2<4160000000000) (kM:2*gG M b1+4<2097152) (kq:2*gG q b2+4<2097152) (d:Int) (hd:0<=d/\d<=3) :
  ∃cyc E,Spec Aa 55 [aE c,.i .i64 (d-1)] (nV cyc)/\(cyc=[]\/1<=d/\E<=cyE M q b1 b2 d)/\E+20<4398046511104/\cyc.length<=100 /\
  ∀y∈cyc,(Val y/\Bnd (2^E) y/\(∀f∈y,f.1∈cA c (d-1))/\∀n,bO (λm=>cf n (bOf c m)) y=0)/\y.length<=16:=by
 have hbl':∀x∈c,x.b.length<=1000000:=λx hx=>An (hbl x hx) (by decide)
 have fin:∀(k:Int) (E:Nat) L,0<=k->k<=2->(cA c k).length<=16->E+20<4398046511104->E<=cyE M q b1 b2 (k+1)->aTq (cA c k).length (cA c (k-1)).length E (tF c k) L->∃cyc E,Spec Aa 55 [aE c,.i .i64 k] (nV cyc)/\(cyc=[]\/1<=k+1/\E<=cyE M q b1 b2 (k+1))/\E+20<4398046511104/\cyc.length<=100 /\
   ∀y∈cyc,(Val y/\Bnd (2^E) y/\(∀f∈y,f.1∈cA c k)/\∀n,bO (λm=>cf n (bOf c m)) y=0)/\y.length<=16:=λk E L h1 h2 h3 h4 h5 hL=>by
  have hc:=bZb hv hL
  refine⟨_,E,bBr c k L (by omega) (by omega) hbl' hL h4,(.inr ⟨by omega,h5⟩),h4,?_,λy hy=>⟨(hc y hy).1,An (hc y hy).2 h3⟩⟩
  rw[AL]
  have:=hL.len;omega
 have hd':d=0\/d=1\/d=2\/d=3:=by omega
 rcases hd' with rfl|rfl|rfl|rfl
 ·exact⟨[],0,aUu c _ (by decide),.inl rfl,by decide,by simp,λy hy=>by cases hy⟩
 ·have h0':(cA c (0-1)).length=0:=by
   rw[List.length_eq_zero_iff];refine List.eq_nil_iff_forall_not_mem.2 λn hn=>?_
   obtain⟨x,hx,hdx,_⟩:=rG.1 hn;have:=(hv.dim x hx).1;omega
  have hs:=aDf c 0
  rw[h0']at hs
  have hl:=left_id hs (by omega)
  exact fin 0 0 _ (by decide) (by decide) (by omega) (by decide) (Ak _) (by rw[h0'];exact hl)
 ·have hb:Be b1 (tF c 1):=aYx hv.inc λx hx hdx=>by have:=eb x hx;rw[hdx]at this;exact this
  obtain⟨L,hL⟩:=aZd (aDf c 1) (by omega) (by have:=nS c (1-1);omega) hb (Cs (bKb h1) k1)
  have h3:=bLg (b:=b1) h1
  exact fin 1 _ L (by decide) (by decide) (by omega) (by omega) (by show _<=2*gG M b1+4;omega) hL
 ·have hb:Be b2 (tF c 2):=aYx hv.inc λx hx hdx=>by have:=eb x hx;rw[hdx]at this;exact this
  obtain⟨L,hL⟩:=aZd (aDf c 2) (by omega) (by have:=nS c (2-1);omega) hb (Cs (bKb h2) k2)
  have h3:=bLg (b:=b2) h2
  exact fin 2 _ L (by decide) (by decide) (by omega) (by omega) (by show _<=2*gG q b2+4;omega) hL
abbrev gH:Int->Nat:=eH 4 80 2097152
def cBx{d:Int}(h1:1<=d)(h3:d<=3):4<=gH d:=by
 have:d=1\/d=2\/d=3:=by omega
 rcases this with rfl|rfl|rfl<;>simp[gH,eH]
structure Bs(c:List Cl):Prop where
 g:Gr gH 1 c
 n12:(cA c 1).length<=3/\(cA c 2).length<=3\/(cA c 1).length<=4/\(cA c 2).length<=2
def Gr.up{e:Int->Nat}{c:List Cl}(g:Gr e 0 c):Gr e 1 c :=
 ⟨g.v,by have:=g.len;omega,by have:=g.n0;omega,by have:=g.n1;omega,by have:=g.n2;omega,by have:=g.n3;omega,λx hx=>by have:=g.ids x hx;omega,g.bl,g.eb⟩
def bLc{c:List Cl}(g:Gr gH 0 c)(q:Q4)(hq:q.ok):∃c',Spec Aa 29 [aE c,.ag (qS q)] (aE c')/\Bs c':=by
 obtain⟨x0,x1,x2,x3⟩:=q;have hlen:=g.len;have hn0:=g.n0;obtain⟨k1,k2,k3,_⟩:=aFd (M:=3) (d:=0) (q:=2) (by decide) (by decide) (by decide);have e2:b2F 3 0=80:=by decide
 rw[e2]at k2 k3;obtain⟨cyc,E,h1,h2,h3,h4,h5⟩:=aZv (M:=3) (q:=2) (b1:=4) (b2:=80) (b3:=2097152) g.v (by omega) g.bl (by omega) g.n1 (by decide) g.n2 (by decide) g.eb k1 k2 (by decide) (by omega) (jO x0) (by unfold jO;omega);have hE:cyc=[]\/E+4<=gH (jO x0):=by
  refine h2.imp id λh=>?_
  obtain⟨h0,h⟩:=h;have hd:jO x0=1\/jO x0=2\/jO x0=3:=by unfold jO at h0 ⊢;omega
  have g1:cyE 3 2 4 80 2=74:=by decide
  have g2:cyE 3 2 4 80 3=488:=by decide
  have g3:cyE 3 2 4 80 1=0:=by decide
  have g4:gH 1=4:=by decide
  have g5:gH 2=80:=by decide
  have g6:gH 3=2097152:=by decide
  rcases hd with hd|hd|hd<;>rw[hd]at h ⊢<;>omega
 have hG:=grow (x1:=x1) (x2:=x2) (x3:=x3) g (λy hy=>(h5 y hy).1) (λy hy=>(h5 y hy).2) hE;refine⟨_,aPu (e:=E) c x0 x1 x2 x3 cyc hq.1 hq.2.1 hq.2.2.1 hq.2.2.2 (by omega) (λy hy=>by have:=g.ids y hy;omega) h1 h4 (λy hy=>(h5 y hy).1.2.1) (λy hy=>(h5 y hy).2) h3,hG,?_⟩;have n1:=g.n1;have n2:=g.n2;unfold grown;simp only[aRv,Al];by_cases d1:jO x0=1
 ·have d2:¬jO x0=2:=by omega
  simp[d1];omega
 ·simp[d1];left;split<;>simp<;>omega
def cCq(s:Int)(l:List Q4)(hs:0<=s/\s<=255)(hq:∀q∈l,q.ok)(hl:l.length<=1):∃c,Spec Aa 27 [aMw s l] (aE c)/\Bs c:=by
 obtain⟨j,hj,h1⟩:=bFz s hs;have g:=bWw (e:=gH) (λd h1 h2=>cBx h1 h2) j hj;match l,hl,hq with
 |[],_,_=>exact⟨_,aPt s [] _ _ (by simp) h1 (.nil _),g.up,.inl ⟨g.n1,by have:=g.n2;omega⟩⟩
 |[q],_,hq =>
  obtain⟨c,h2,h3⟩:=bLc g q (hq q (Fb _))
  exact⟨c,aPt s [q] _ _ (by simp) h1 (.cons q [] _ c c h2 (.nil c)),h3⟩
 |_::_::_,hl,_=>simp at hl
structure Hs(i M d:Nat)(c:List Cl):Prop where
 v:CxV c
 len:c.length<=8+2*i
 n0:(cA c 0).length<=4+i
 n1:(cA c 1).length<=M
 M3:3<=M
 Md:M+d<=4+i
 n2:M+(cA c 2).length+d<=6+i
 ids:∀x∈c,0<=x.id/\x.id<=300+2*(i:Int)
 bl:∀x∈c,x.b.length<=48
 eb:∀x∈c,Bnd (2^eH (4+d) (b2F M d) (2097152+d) x.dim) x.b
def Bs.hs{c:List Cl}(h:Bs c):∃M,Hs 0 M 0 c:=by
 have g:=h.g;have up:∀M,80<=b2F M 0->∀x∈c,Bnd (2^eH (4+0) (b2F M 0) (2097152+0) x.dim) x.b:=λM hM x hx=>by
  refine(g.eb x hx).pw ?_;unfold gH eH;split
  ·exact Ap _
  ·split
   ·exact hM
   ·split<;>exact Ap _
 have e3:80<=b2F 3 0:=by decide
 have e4:80<=b2F 4 0:=by decide
 have hl:=g.len;have h0:=g.n0;rcases h.n12 with ⟨h1,h2⟩|⟨h1,h2⟩
 ·exact⟨3,g.v,by omega,by omega,h1,by decide,by decide,by omega,λx hx=>by have:=g.ids x hx;omega,g.bl,up 3 e3⟩
 ·exact⟨4,g.v,by omega,by omega,h1,by decide,by decide,by omega,λx hx=>by have:=g.ids x hx;omega,g.bl,up 4 e4⟩
structure Nw(M q d:Nat)(c:List Cl)(x:Cl):Prop where
 dim:0<=x.dim/\x.dim<=3
 val:Val x.b
 bnd:x.b=[]\/1<=x.dim/\Bnd (2^(cyE M q (4+d) (b2F M d) x.dim+4)-1) x.b
 bl:x.b.length<=48
 face:∀f∈x.b,f.1∈cA c (x.dim-1)
 cyc:∀n,bO (λm=>cf n (bOf c m)) x.b=0
def bLd{i M d:Nat}{c:List Cl}(h:Hs i M d c)(hi:i<=10)(x0 x1 x2 x3:Int)(hq:Q4.ok (x0,x1,x2,x3)):∃x:Cl,Spec Aa 29 [aE c,.ag (qS (x0,x1,x2,x3))] (aE (c++[x]))/\x.id=gId c x0/\Nw M (cA c 2).length d c x:=by
 have hlen:=h.len;have h0:=h.n0;have hM:=h.Md;have h2:=h.n2;obtain⟨k1,k2,k3,kb⟩:=aFd (M:=M) (d:=d) (q:=(cA c 2).length) h.M3 (by omega) (by omega);have kM:2*gG M (4+d)+10+d<=b2F M d:=Ap _;obtain⟨cyc,E,e1,e2,e3,e4,e5⟩:=aZv (M:=M) (q:=(cA c 2).length) h.v (by omega) h.bl (by omega) h.n1 (by omega) (Ap _) (by have:=h.M3;omega) h.eb k1 k2 (by omega) (by omega) (jO x0) (by unfold jO;omega);refine⟨⟨gId c x0,jO x0,gB cyc [x0,x1,x2,x3] (min 3 cyc.length)⟩,aPu (e:=E) c x0 x1 x2 x3 cyc hq.1 hq.2.1 hq.2.2.1 hq.2.2.2 (by omega) (λy hy=>by have:=h.ids y hy;omega) e1 e4 (λy hy=>(e5 y hy).1.2.1) (λy hy=>(e5 y hy).2) e3,rfl,?_⟩;obtain⟨b1,b2,b3,b4⟩:=aFw (c:=c) (xs:=[x0,x1,x2,x3]) (λy hy=>(e5 y hy).1) (min 3 cyc.length) (by omega);refine⟨by unfold jO;simp only;omega,b1,?_,?_,b3,b4⟩
 ·refine e2.imp (λe=>by subst e;rfl) λe=>⟨e.1,b2.mono ?_⟩
  have h1:2^E<=2^cyE M (cA c 2).length (4+d) (b2F M d) (jO x0):=yL e.2;have h2:1<=2^E:=B8;have h3:=A7 (2^2*2^E) (show min 3 cyc.length<=3 by omega);show _<=2^(cyE M (cA c 2).length (4+d) (b2F M d) (jO x0)+4)-1;rw[CA];omega
 ·have:=(aZl (e:=E) (xs:=[x0,x1,x2,x3]) (λy hy=>(e5 y hy).1.2.1) (λy hy=>(e5 y hy).2) (min 3 cyc.length) (by omega) (by omega)).2;show(gB cyc [x0,x1,x2,x3] (min 3 cyc.length)).length<=48;omega
def aLz(a b:List (Int×Int))(ha:∀x∈a,Sz x.2)(hb:∀x∈b,Sz x.2)(hl:a.length<=1073741824)(hl2:b.length<=1073741824):Spec Aa 81 [aK a,aK b] (.b (decide (a=b))):=by
 refine bF (N:=42) Tryz.func81 ?_;by_cases hn:a.length=b.length
 rotate_left
 ·have h1:((a.length:Int) != b.length)=true:=by simp;omega
  have h2:¬a=b:=λe=>hn (by rw[e])
  simp[-O,-X,↓KW,aK,h1,h2]
 ·have h1:((a.length:Int) != b.length)=false:=by simp;omega
  simp[-O,-X,↓KW,aK,h1];refine aP (λi:Nat=>i<=a.length/\a.take i=b.take i) (λi=>StL [(0,.d (aK a)),(1,.d (aK b)),(5,.d (.i .i64 i))] none []) (λi=>a.length-i) 0 ⟨Ak _,by simp⟩ ?_ ?_
  ·refine wkQ [] ?_ ?_<;>simp[-O,upd,aO,Γ0,aK]
  ·rintro i ⟨hi,ht⟩;by_cases hgo:i<a.length
   ·have hgb:i<b.length:=by omega
    have q1:(i:Int)<a.length:=by omega
    have hw7:Ag.wrap ((i:Int)+1)=(i:Int)+1:=aV;have g1:a[i]? = some a[i]:=Ab hgo;have g2:b[i]? = some b[i]:=Ab hgb;have hsx:=ha _ (Ar hgo);have hsy:=hb _ (Ar hgb);have hne:a[i]≠b[i]->¬a=b:=λh e=>h (by subst e;rfl)
    have hta:a[i]=b[i]->a.take (i+1)=b.take (i+1):=λe=>by rw[AM,AM,ht,g1,g2,e]
    generalize a[i]=x at *;generalize b[i]=y at *;obtain⟨xi,xc⟩:=x;obtain⟨yi,yc⟩:=y;simp only at hsx hsy;by_cases h2:xi=yi
    ·have h3:(xi != yi)=false:=by simpa using h2
     simp[-O,-X,↓KW,aK,q1,g1,g2,h3,bE,aF,aD];refine aJ (aEv xc yc (An hsx (by decide)) (An hsy (by decide))) ?_;by_cases h4:xc=yc
     ·have h5:=hta (by rw[h2,h4]);simp[-O,-X,↓KW,h4,hw7];refine aI (i+1) ⟨hgo,h5⟩ (AF hgo (AK i)) (wkQ [] ?_ ?_)<;>simp[-O,upd,aO,Γ0,aK]
     ·have h5:=hne (λe=>h4 (by injection e));simp[-O,-X,↓KW,h4,h5]
    ·have h3:(xi != yi)=true:=by simpa using h2
     have h5:=hne (λe=>h2 (by injection e));simp[-O,-X,↓KW,aK,q1,g1,g2,h3,h5,bE,aF,aD]
   ·have q1:¬(i:Int)<a.length:=by omega
    have e:a=b:=by rwa [Ai (by omega),Ai (by omega)]at ht
    subst e;simp[-O,-X,↓KW,aK,q1]
def qO(l:List (Int×Int))(hs:∀x∈l,Sz x.2)(hl:l.length<=1073741824):Spec Aa 44 [aK l] (.b (xC l)):=by
 refine bF (N:=44) Tryz.func44 ?_;simp[-O,-X,↓KW,aK];refine aP (λi:Nat=>i<=l.length/\∀j,j<i->aQp l j=true) (λi=>StL [(0,.d (aK l)),(3,.d (.i .i64 i))] none []) (λi=>l.length-i) 0 ⟨Ak _,λj h=>by omega⟩ ?_ ?_
 ·refine wkQ [] ?_ ?_<;>simp[-O,upd,aO,Γ0,aK]
 ·rintro i ⟨hi,hok⟩;by_cases hgo:i<l.length
  ·have q1:(i:Int)<l.length:=by omega
   have hw7:Ag.wrap ((i:Int)+1)=(i:Int)+1:=aV;have g1:=bLe hgo;have hsx:Sz (l.getD i (0,0)).2:=hs _ (Aq g1);have hoka:aQp l i=(decide ((l.getD i (0,0)).2≠0)&&(decide (i=0)||decide ((l.getD (i-1) (0,0)).1<(l.getD i (0,0)).1))):=rfl;have hfalse:=aLi hgo;have hnext:aQp l i=true->∀j,j<i+1->aQp l j=true:=λh j hj=>by
    rcases Bd j i with h2|h2
    ·exact hok j h2
    ·have:j=i:=by omega
     subst this;exact h
   rcases i with _|k
   ·cases l with
    |nil=>simp at hgo
    |cons x rest =>
     obtain⟨xi,xc⟩:=x;have hd:(((xi,xc)::rest).getD 0 (0,0))=(xi,xc):=rfl;rw[hd]at hsx hoka;simp only at hsx hoka;have q1':(0:Int)<(rest.length:Int)+1:=by omega
     have hw8:Ag.wrap 1=1:=by decide
     simp[-O,-X,↓KW,aK,q1',bE,aF,aD];refine aJ (aIw xc (An hsx (by decide))) ?_;simp[-O,-X,↓KW,aK,bE,aF,aD];refine aJ (fH xc) ?_;by_cases h0:xc=0
     ·have e0:(xc.sign==0)=true:=by simp[h0]
      have e1:=hfalse (by rw[hoka];simp[h0]);simp[-O,-X,↓KW,e0,e1]
     ·have e0:(xc.sign==0)=false:=by simp[h0]
      have e1:=hnext (by rw[hoka];simp[h0]);simp[-O,-X,↓KW,e0,hw8];refine aI 1 ⟨hgo,e1⟩ (slQ hgo) (wkQ [] ?_ ?_)<;>simp[-O,upd,aO,Γ0,aK,bE]
   ·have g2:=bLe (l:=l) (i:=k) (by omega);have q3:(0:Int)<(k:Int)+1:=by omega
    have q5:(0:Int)<=(k:Int)+1:=by omega
    have q4:Ag.wrap (k:Int)=k:=aNy (by omega);simp only[A9]at hoka;generalize l.getD (k+1) (0,0)=x at *;generalize l.getD k (0,0)=y at *;obtain⟨xi,xc⟩:=x;obtain⟨yi,yc⟩:=y;simp only at hsx hoka;have hw8:Ag.wrap ((k:Int)+1+1)=(k:Int)+1+1:=by simpa using hw7
    have q1':(k:Int)+1<l.length:=by simpa using q1
    simp[-O,-X,↓KW,aK,q1',q5,g1,bE,aF,aD];refine aJ (aIw xc (An hsx (by decide))) ?_;simp[-O,-X,↓KW,aK,q1',q5,g1,bE,aF,aD];refine aJ (fH xc) ?_;by_cases h0:xc=0
    ·have e0:(xc.sign==0)=true:=by simp[h0]
     have e1:=hfalse (by rw[hoka];simp[h0]);simp[-O,-X,↓KW,e0,e1]
    ·have e0:(xc.sign==0)=false:=by simp[h0]
     by_cases h2:xi<=yi
     ·have e1:=hfalse (by rw[hoka];simp[h0];omega);simp[-O,-X,↓KW,aK,e0,e1,g1,g2,q3,q4,q5,h2,bE,aF,aD]
     ·have e1:=hnext (by rw[hoka];simp[h0];omega);simp[-O,-X,↓KW,aK,e0,g1,g2,q3,q4,q5,h2,hw8,bE,aF,aD];refine aI (k+1+1) ⟨hgo,e1⟩ (slQ hgo) (wkQ [] ?_ ?_)<;>simp[-O,upd,aO,Γ0,aK]
  ·have q1:¬(i:Int)<l.length:=by omega
   have e:xC l=true:=aBs (λj hj=>hok j (by omega));simp[-O,-X,↓KW,aK,q1,e]
end Go.Am
end
section
open List renaming map_map->O,mapM_map->X
namespace Go.Am
variable {P:Program}
def aRb(f:FuncId)(cs:List Operand)(J:Nat->AV)(n:Nat):nev P (.makeFunc (.func f) #[] cs.toArray) J n=some (.fn f (cs.map (oev J)),none):=by simp[nev,eO]
def bIr(t : TypeId)(x i : Operand)(J : Nat -> AV)(n : Nat) : nev P (.index t x i) J n = eO ((aAh P t).bind λp => (tsz P p.2).bind λsz => (cZ P p.2).bind λag => (iZ (oev J i)).bind λk => (aId (oev J x)).bind λcs =>
      if 0<=k/\k<p.1 then(if ag then(if k.toNat*sz+sz<=cs.length then some (.ag ((cs.drop (k.toNat*sz)).take sz))else none)else cs[k.toNat*sz]?)else none):=rfl
def bYi(f:FuncId)(cs:List D):inj (.fn f cs)=.d (.fn f cs):=rfl
def bSy(f:FuncId)(cs:List D):aO (.fn f cs)=.d (.fn f cs):=rfl
def bSx(cs:List D):aO (.pt cs)=.fp cs:=rfl
def bKs(v:Value):aO (.lit v)=.d (.lit v):=rfl
def bJv(H:Hp)(avs:List AV)(f:FuncId)(cs:List D):bR H avs (.fn f cs)=fK H avs:=rfl
def bJu(H:Hp)(avs:List AV)(cs:List D):bR H avs (.pt cs)=fK H avs:=rfl
def aWs(f:FuncId)(cs:List AV):kY (.fn f cs)=some (f,cs):=rfl
def aTb(f:FuncId)(cs:List D):kY (.d (.fn f cs))=some (f,cs.map aO):=rfl
def aTa(f:FuncId):kY (.d (.lit (.func (.func f) #[] #[])))=some (f,[]):=rfl
def bTh(H:Hp)(n:Nat)(f:FuncId)(cs:List AV):frz H (n+1) (.fn f cs)=(cs.mapM (frz H n)).map (.fn f):=rfl
def bTg(H:Hp)(n:Nat)(cs:List D):frz H (n+1) (.fp cs)=some (.pt cs):=rfl
def aSj(H : Hp)(n : Nat)(id off : Nat) : frz H (n + 1) (.ptr id off) = match H id with
      |some (.cells _ cs)=>if off<=cs.length then((cs.drop off).mapM (frz H n)).map .pt else none
      |_=>none:=rfl
def bPa(H:Hp)(n:Nat)(f:FuncId)(cs:List AV):vis H (n+1) (.fn f cs)=cs.flatMap (vis H n):=rfl
def bOz(H:Hp)(n:Nat)(cs:List D):vis H (n+1) (.fp cs)=[]:=rfl
def aOg(H : Hp)(n : Nat)(id off : Nat) : vis H (n + 1) (.ptr id off) = match H id with
      |some (.cells _ cs)=>id::(cs.drop off).flatMap (vis H n)
      |_=>[]:=rfl
def bEe(f:FuncId)(cs:List AV):fN (.fn f cs)=some [.fn f cs]:=rfl
def aWq(f:FuncId)(cs:List D):fN (.d (.fn f cs))=some [.d (.fn f cs)]:=rfl
def bGn(l:List Nat)(f:FuncId)(cs:List AV):lI l (.fn f cs)=.fn f (cs.map (aLt l)):=rfl
section
variable (dst:Option Tmp) (ty:TypeId) (pos:String) (after:Array Edge) (guard:Option (Nat×Bool)) (σ:St) (con:List Nat) (k:St->List Nat->Prop)
def bQ(f:Fn)(x y:Array Operand)(d:Dm ((⟨dst,.makeFunc f x y,ty,pos,after,guard⟩:Oper),k)):O1d P ⟨dst,.makeFunc f x y,ty,pos,after,guard⟩ σ con k d=eG (nev P (.makeFunc f x y) σ.J σ.n) (λp=>k ⟨bS σ.J dst p.1,jE σ.H σ.n p.2,cnt p.2 σ.n⟩ con) .mk:=dF rfl rfl
def cL(t:TypeId)(x y:Operand)(d:Dm ((⟨dst,.index t x y,ty,pos,after,guard⟩:Oper),k)):O1d P ⟨dst,.index t x y,ty,pos,after,guard⟩ σ con k d=eG (nev P (.index t x y) σ.J σ.n) (λp=>k ⟨bS σ.J dst p.1,jE σ.H σ.n p.2,cnt p.2 σ.n⟩ con) .mk:=dF rfl rfl
def bOm(P:Program)(c:Option (FuncId×List AV))(avs:List AV)(H:Hp)(k:List AV->D->Prop)(_:Dm k):Prop:=match c with
 |some (f,cs)=>∃ds r,fW H (avs++cs)=some ds/\Spec P f ds r/\k (avs++cs) r
 |none=>False
def nW{f:FuncId}{cs avs:List AV}{H:Hp}{k:List AV->D->Prop}{d:Dm k}{ds:List D}{r:D}(h1:fW H (avs++cs)=some ds)(h2:Spec P f ds r)(h3:k (avs++cs) r):bOm P (some (f,cs)) avs H k d:=⟨ds,r,h1,h2,h3⟩
def cM(t:Tmp)(args:List Operand)(ts:Array TypeId)(d:Dm ((⟨dst,.call ⟨.value (.tmp t),args.toArray,ts⟩,ty,pos,after,guard⟩:Oper),k)):O1d P ⟨dst,.call ⟨.value (.tmp t),args.toArray,ts⟩,ty,pos,after,guard⟩ σ con k d =
  bOm P (kY (σ.J t)) (args.map (oev σ.J)) σ.H (λavs r=>k ⟨bS σ.J dst (inj r),kill (bR σ.H avs r) σ.H,σ.n⟩ (bR σ.H avs r++con)) .mk:=by
 unfold O1d;simp only[O1,bOm]
 cases kY (σ.J t)with
 |none=>rfl
 |some p=>obtain⟨f,cs⟩:=p;rfl
end
attribute [simp] aRb bIr bYi bSy bSx bKs aWs aTb aTa bTh bTg aSj bPa bOz aOg bEe aWq bGn bJv bJu
end Go.Am
end
section
open List renaming map_map->O,mapM_map->X
open Go Go.Am Go.Proofs
namespace Go.Am
@[simp]def cDh(k:IntKind)(n:Int):oG (.i k n)=true:=rfl
@[simp]def cDi(x:Bool):oG (.b x)=true:=rfl
def cDu{t:Nat}:kZ .shr .u64 (t:Int) 1=some (.i .u64 ((t/2:Nat):Int)):=by have:min 1 A2.bits=1:=rfl;simp only[kZ];rw[Ac (by decide),show(1:Int).toNat=1 from rfl,this,Int.fdiv_eq_ediv_of_nonneg _ (by decide)];congr 2
def jX(f:FuncId):fN (.d (.lit (.func (.func f) #[] #[])))=some [.d (.lit (.func (.func f) #[] #[]))]:=rfl
def nF(J:Nat->AV)(f:FuncId):oev J (.func f)=.d (.lit (.func (.func f) #[] #[])):=rfl
def aYi(x:Cl)(n:Int):Spec Aa 141 [.ag (aN x),.i .i64 n] (.i .i64 (mG x.id n)):=by refine bF (N:=9) Tryz.func141 ?_;have hS:=aWg x.id n;simp[-O,-X,↓KW,aN,aC,aA,aB];refine aJ hS ?_;simp[-O,-X,↓KW]
def oB(c:List Cl)(n:Int):Nat:=c.countP λx=>decide (x.id<n)
def aMe{c:List Cl}{n:Int}{i:Nat}(hi:i<=c.length)(h1:∀k x,k<i->c[k]? = some x->x.id<n)(h2:∀k x,i<=k->c[k]? = some x->n<=x.id):oB c n=i:=by
 unfold oB;conv=>lhs;rw[<-List.take_append_drop i c]
 rw[List.countP_append];have e1:(c.take i).countP (λx=>decide (x.id<n))=(c.take i).length:=by rw[List.countP_eq_length];intro x hx;obtain⟨k,hk,rfl⟩:=Bv hx;rw[Ax]at hk;exact BD (h1 k _ (by omega) (by rw[Ea,Ab]))
 have e2:(c.drop i).countP (λx=>decide (x.id<n))=0:=by rw[List.countP_eq_zero];intro x hx;obtain⟨k,hk,rfl⟩:=Bv hx;rw[Bk]at hk;have:=h2 (i+k) (c[i+k]'(by omega)) (by omega) (Ab _);rw[List.getElem_drop];simp;omega
 rw[e1,e2,Ax];omega
def bLn{c:List Cl}{n:Int}{i:Nat}(h1:∀k x,k<i->c[k]? = some x->x.id<n)(h2:∀k x,i<=k->c[k]? = some x->n<=x.id)(hc:Inc c):(∀x,c[i]? = some x->bG c n=if x.id=n then some x else none)/\(c[i]? = none->bG c n=none):=by
 have hn:∀x,c[i]? = some x->x.id≠n->bG c n=none:=λx hx hne=>by
  cases e:bG c n with
  |none=>rfl
  |some y =>
   obtain⟨hy,he⟩:=dE e;obtain⟨k,hk,rfl⟩:=Bv hy;exfalso;rcases Gh k i with h|h|h
   ·have:=h1 k _ h (Ab hk);omega
   ·subst h;rw[Ab hk]at hx;injection hx with hx;subst hx;exact hne he
   ·have hi:i<c.length:=(Ah.1 hx).1;have g1:=h2 i x (Ap _) hx;have g2:=(BA.1 hc) i k hi hk h;rw[Ab hi]at hx;injection hx with hx;subst hx
    omega
 refine⟨λx hx=>?_,λhx=>?_⟩
 ·by_cases he:x.id=n
  ·rw[Ae he,<-he];exact hc.find (Aq hx)
  ·rw[Ac he];exact hn x hx he
 ·cases e:bG c n with
  |none=>rfl
  |some y =>
   obtain⟨hy,he⟩:=dE e;obtain⟨k,hk,rfl⟩:=Bv hy;have:=h1 k _ (by have:=List.getElem?_eq_none_iff.1 hx;omega) (Ab hk);omega
def bUq{c:List Cl}(hc:Inc c)(n:Int)(hl:c.length<=1000000):Spec Aa 140 [aE c,.i .i64 n,.lit (.func (.func 141) #[] #[])] (.tp [.i .i64 (oB c n),.b (bG c n).isSome]):=by
 refine bF (N:=49) Tryz.func140 ?_;simp[-O,-X,↓KW,↓cN,↓bQ,↓cL,↓cM,aE];refine aP (λp:Nat×Nat=>p.1<=p.2/\p.2<=c.length/\(∀k x,k<p.1->c[k]? = some x->x.id<n)/\(∀k x,p.2<=k->c[k]? = some x->n<=x.id)) (λp=>StL [(0,.d (aE c)),(1,.d (.i .i64 n)),(2,.d (.lit (.func (.func 141) #[] #[]))),(8,.d (.i .i64 (c.length:Int))),(9,.d (.i .i64 (p.1:Int))),(10,.d (.i .i64 (p.2:Int)))] none []) (λp=>p.2-p.1) (0,c.length) ⟨Ak _,Ap _,λk x h=>by omega,λk x h hx=>by have:=(Ah.1 hx).1;omega⟩ ?_ ?_
 ·refine wkQ [] ?_ ?_<;>simp[-O,upd,aO,Γ0,aE]
 ·rintro⟨i,j⟩ ⟨hij,hj,h1,h2⟩;simp only at hij hj h1 h2;by_cases hgo:i<j
  ·have q1:(i:Int)<j:=by omega
   have hw1:Ag.wrap ((i:Int)+j)=((i+j:Nat):Int):=by rw[aV];omega
   have hw2:A2.wrap ((i+j:Nat):Int)=((i+j:Nat):Int):=bT (by omega) (by omega);have hh:(i+j)/2<c.length:=by omega
   have hw3:Ag.wrap (((i+j)/2:Nat):Int)=(((i+j)/2:Nat):Int):=aV;have hw4:Ag.wrap ((((i+j)/2:Nat):Int)+1)=(((i+j)/2+1:Nat):Int):=by rw[aV];omega
   have hm1:i<=(i+j)/2:=by omega
   have hm2:(i+j)/2<j:=by omega
   have hx:c[(i+j)/2]? = some c[(i+j)/2]:=Ab hh;have hsh:=@cDu (i+j);have q0:(0:Int)<=(((i+j)/2:Nat):Int):=by omega
   generalize(i+j)/2=m at *;have hS:=aYi c[m] n;have hlt:∀k x,k<m->c[k]? = some x->x.id<c[m].id:=λk x hk hkx=>by
    have h0:k<c.length:=by omega
    rw[Ab h0]at hkx;injection hkx with hkx;subst hkx
    exact(BA.1 hc) k m h0 hh hk
   have hgt:∀k x,m<k->c[k]? = some x->c[m].id<x.id:=λk x hk hkx=>by
    have h0:k<c.length:=(Ah.1 hkx).1;rw[Ab h0]at hkx;injection hkx with hkx;subst hkx
    exact(BA.1 hc) m k hh h0 hk
   generalize i+j=s at *;generalize hxm:c[m]=x at *;simp[-O,-X,↓KW,↓cN,↓bQ,↓cL,↓cM,aE,aN,q1,hw1,hw2,hw3,hsh,hx,q0,aC,aA,aB,jX,nF];refine nW (ds:=[.ag (aN x),.i .i64 n]) (by rfl) hS ?_;by_cases hlx:x.id<n
   ·have e:mG x.id n=-1:=by unfold mG;rw[Ae hlx]
    rw[e];simp[-O,-X,↓KW,↓cN,↓bQ,↓cL,↓cM,hw4];refine aI (m+1,j) ⟨by simp only;omega,hj,λk y hk hky=>?_,h2⟩ (by simp only;omega) (wkQ [] ?_ ?_)
    ·simp only at hk;rcases Bd k m with h|h
     ·have:=hlt k y h hky;omega
     ·rw[show k=m by omega,hx]at hky;injection hky with hky;rw[<-hky];exact hlx
    ·simp[-O,upd,aO,Γ0,aE]
    ·trivial
   ·have e:¬mG x.id n<0:=by unfold mG;rw[Ac hlx];split<;>omega
    generalize mG x.id n=r at *;simp[-O,-X,↓KW,↓cN,↓bQ,↓cL,↓cM,e];refine aI (i,m) ⟨by simp only;omega,by simp only;omega,h1,λk y hk hky=>?_⟩ (by simp only;omega) (wkQ [] ?_ ?_)
    ·simp only at hk;rcases Bd m k with h|h
     ·have:=hgt k y h hky;omega
     ·rw[show k=m by omega,hx]at hky;injection hky with hky;rw[<-hky];omega
    ·simp[-O,upd,aO,Γ0,aE]
    ·trivial
  ·have q1:¬(i:Int)<j:=by omega
   have hje:j=i:=by omega
   subst hje;have hp:=aMe hj h1 h2;obtain⟨f1,f2⟩:=bLn h1 h2 hc;rw[hp];by_cases hin:j<c.length
   ·have q2:(j:Int)<c.length:=by omega
    have hx:c[j]? = some c[j]:=Ab hin;have hS:=aYi c[j] n;have f3:=f1 _ hx;have q0:(0:Int)<=(j:Int):=by omega
    generalize c[j]=x at *;simp[-O,-X,↓KW,↓cN,↓bQ,↓cL,↓cM,aE,aN,q1,q2,hx,aC,aA,aB,jX,nF];refine nW (ds:=[.ag (aN x),.i .i64 n]) (by rfl) hS ?_;have e:((mG x.id n==0):Bool)=(bG c n).isSome:=by
     rw[f3];unfold mG;by_cases h:x.id=n
     ·rw[Ae h];simp[h]
     ·rw[Ac h];split
      ·rfl
      ·split
       ·rfl
       ·omega
    rw[<-e];generalize mG x.id n=r at *;simp[-O,-X,↓KW,↓cN,↓bQ,↓cL,↓cM,aE,cC]
   ·have q2:¬(j:Int)<c.length:=by omega
    have f3:=f2 (AW (by omega));rw[f3];simp[-O,-X,↓KW,↓cN,↓bQ,↓cL,↓cM,aE,aN,q1,q2,aC,aA,aB,jX,nF,cC]
def aZo{c:List Cl}(hc:Inc c){n:Int}{x:Cl}(h:bG c n=some x):c[oB c n]? = some x:=by
 obtain⟨hx,he⟩:=dE h;obtain⟨k,hk,rfl⟩:=Bv hx;have hp:oB c n=k:=aMe (by omega) (λj y hj hy=>by
   have h0:j<c.length:=(Ah.1 hy).1;rw[Ab h0]at hy;injection hy with hy;subst hy
   have:=(BA.1 hc) j k h0 hk hj;omega) (λj y hj hy=>by
   have h0:j<c.length:=(Ah.1 hy).1;rw[Ab h0]at hy;injection hy with hy;subst hy
   rcases Bd k j with h|h
   ·have:=(BA.1 hc) k j hk h0 h;omega
   ·have:j=k:=by omega
    subst this;omega)
 rw[hp];exact Ab hk
def aMz{c:List Cl}(hc:Inc c)(n:Int)(hl:c.length<=1000000):Spec Aa 134 [aE c,.i .i64 n] (.tp [.i .i64 (oB c n),.b (bG c n).isSome]):=by refine bF (N:=11) Tryz.func134 ?_;have hS:=bUq hc n hl;simp[-O,-X,↓KW,↓cN,↓bQ,↓cL,↓cM,aE,nF];refine aJ hS ?_;simp[-O,-X,↓KW,↓cN,↓bQ,↓cL,↓cM,cC]
def sM{c:List Cl}(hc:Inc c)(n:Int)(hl:c.length<=1000000):Spec Aa 145 [aE c,.i .i64 n] (oP c n):=by
 refine bF (N:=21) Tryz.func145 ?_;have hS:=aMz hc n hl;unfold oP;simp[-O,-X,↓KW,aE];refine aJ hS ?_;cases hf:bG c n with
 |none=>simp[-O,-X,↓KW,aE,aN,lA,aK,cC]
 |some x =>
  have hx:=aZo hc hf;have q0:(0:Int)<=(oB c n:Int):=by omega
  generalize oB c n=p at *;simp[-O,-X,↓KW,aE,aN,hx,q0,aC,aA,aB,cC]
def bDx(m n:Nat):rQ (aU m) (aU n)=0↔m=n:=by
 unfold rQ;rw[lB,lB];by_cases h1:m<n
 ·simp[h1];omega
 ·by_cases h2:n<m
  ·simp[h1,h2];omega
  ·simp[h1,h2];omega
def bMj(a b:List Nat):-1<=rQ a b/\rQ a b<=1:=by
 unfold rQ;split
 ·exact⟨by decide,by decide⟩
 ·split<;>exact⟨by decide,by decide⟩
def aZf(x y:Int)(hx:Sz x)(hy:Sz y):∃r:Int,Spec Aa 172 [encZ x,encZ y] (.i .i64 r)/\(r=0↔x=y):=by
 have hSx:=uE x hx;have hSy:=uE y hy;have hTx:=qH (aU x.natAbs) (An hx (by decide));have hTy:=qH (aU y.natAbs) (An hy (by decide));rw[qB (lF _)]at hTx hTy;have hC:=aFr (aU x.natAbs) (aU y.natAbs) (cX _) (cX _) (An hx (by decide)) (An hy (by decide));have hc0:=bDx x.natAbs y.natAbs;have hcb:=bMj (aU x.natAbs) (aU y.natAbs);have hI:=aWg x.sign y.sign;by_cases hs:x.sign=y.sign
 ·refine⟨x.sign*rQ (aU x.natAbs) (aU y.natAbs),?_,?_⟩
  rotate_left
  ·rw[D7,hc0];constructor
   ·rintro(h|h)
    ·have h1:=Du.1 h;have h2:=Du.1 (hs ▸ h);omega
    ·rw[<-Int.sign_mul_natAbs x,<-Int.sign_mul_natAbs y,hs,h]
   ·rintro rfl;exact .inr rfl
  ·refine bF (N:=26) Tryz.func172 ?_;have hne:((x.sign != y.sign):Bool)=false:=by simp[hs]
   have hsb:-1<=x.sign/\x.sign<=1:=by
    rcases Int.lt_trichotomy x 0 with h|h|h
    ·rw[Int.sign_eq_neg_one_of_neg h];decide
    ·subst h;decide
    ·rw[Int.sign_eq_one_of_pos h];decide
   generalize rQ (aU x.natAbs) (aU y.natAbs)=r at *;generalize y.sign=sy at *;generalize x.sign=sx at *;have hw:Ag.wrap (sx*r)=sx*r:=by
    have h1:sx=-1\/sx=0\/sx=1:=by omega
    rcases h1 with rfl|rfl|rfl<;>exact aV
   simp[-O,-X,↓KW,aY,aD,aF,aG,aZ,aW];refine aJ hSx ?_;simp[-O,-X,↓KW,aY,aD,aF,aG,aZ,aW];refine aJ hSy ?_;simp[-O,-X,↓KW,hne,aD,aF,aG,aZ,aW];refine aJ hTx ?_;simp[-O,-X,↓KW,aD,aF,aG,aZ,aW];refine aJ hTy ?_;simp[-O,-X,↓KW,aD,aF,aG,aZ,aW];refine aJ hC ?_;simp[-O,-X,↓KW,hw,aD,aF,aG,aZ,aW]
 ·refine⟨mG x.sign y.sign,?_,?_⟩
  rotate_left
  ·unfold mG;constructor
   ·intro h;exfalso;split at h
    ·cases h
    ·split at h
     ·cases h
     ·omega
   ·rintro rfl;exact(hs rfl).elim
  ·refine bF (N:=26) Tryz.func172 ?_;have hne:((x.sign != y.sign):Bool)=true:=by simpa using hs
   generalize y.sign=sy at *;generalize x.sign=sx at *;simp[-O,-X,↓KW,aY,aD,aF,aG,aZ,aW];refine aJ hSx ?_;simp[-O,-X,↓KW,aY,aD,aF,aG,aZ,aW];refine aJ hSy ?_;simp[-O,-X,↓KW,hne,aD,aF,aG,aZ,aW];refine aJ hI ?_;simp[-O,-X,↓KW]
def bSu(x:Int)(hx:Sz x):Spec Aa 212 [encZ x] (encZ x.natAbs):=by have hC:=aWh (aU x.natAbs) (An hx (by decide));have hV:=oX (cX x.natAbs) (An hx (by decide)) false;rw[dS]at hV;refine bF (N:=7) Tryz.func212 ?_;simp[-O,-X,↓KW,aY,aD,aF,aG,aZ,aW];refine aJ hC ?_;simp[-O,-X,↓KW,aY,aD,aF,aG,aZ,aW];refine aJ hV ?_;simp[-O,-X,↓KW,aY,sg,aD,aF,aG,aZ,aW]
def bSt(x:Int)(hx:Sz x):Spec Aa 209 [encZ x] (encZ (-x)):=by
 have hC:=aWh (aU x.natAbs) (An hx (by decide));have hV:=oX (cX x.natAbs) (An hx (by decide)) (!decide (x<0));rw[dS]at hV;have e:sg (!decide (x<0)) x.natAbs=-x:=by
  unfold sg;by_cases h:x<0
  ·simp[h];omega
  ·simp[h];omega
 rw[e]at hV;refine bF (N:=10) Tryz.func209 ?_;simp[-O,-X,↓KW,aY,aD,aF,aG,aZ,aW];refine aJ hC ?_;simp[-O,-X,↓KW,aY,aD,aF,aG,aZ,aW];refine aJ hV ?_;simp[-O,-X,↓KW,aY,aD,aF,aG,aZ,aW]
def bYz:encZ 1=.ag [.b false,.sl [[.i .u32 1]]]:=by
 have h:aU 1=[1]:=by rw[jW (by decide)];simp[dG]
 simp[encZ,encI,aM,h]
def bTw:encZ (-1)=.ag [.b true,.sl [[.i .u32 1]]]:=by
 have h:aU 1=[1]:=by rw[jW (by decide)];simp[dG]
 simp[encZ,encI,aM,h]
def aMm:Spec Aa 176 [.i .i64 1] (encZ 1):=by rw[bYz];exact(aLu (fuel:=100) bL bWf 20).call 176 [.i .i64 1] (.ag [.b false,.sl [[.i .u32 1]]]) (by kernel_rfl)
def bSs:Spec Aa 176 [.i .i64 (-1)] (encZ (-1)):=by rw[bTw];exact(aLu (fuel:=100) bL bWf 20).call 176 [.i .i64 (-1)] (.ag [.b true,.sl [[.i .u32 1]]]) (by kernel_rfl)
abbrev Ch:=List (Int×Int)
def pP(p:Int×Ch):List D:=[.i .i64 p.1,aK p.2]
def dI(m:List (Int×Ch)):D:=.sl (m.map pP)
def aWb(g:List (Int×Ch)):D:=.mp .i64 (g.map (·.1)) (g.map λp=>aK p.2)
def mD(g:List (Int×Ch))(n:Int):Option Ch:=(g.find? λp=>decide (p.1=n)).map (·.2)
def eF(c:List Cl)(g:List (Int×Ch)):List (Int×Ch):=c.map λx=>(x.id,(mD g x.id).getD [(x.id,1)])
def sz1:Sz 1:=by unfold Sz;rw[show(1:Int).natAbs=1 from rfl,jW (by decide)];simp[dG]
def bLt(n z:Int):aK [(n,z)]=.sl [[.i .i64 n,.b (decide (z<0)),aM (aU z.natAbs)]]:=rfl
def yW(n:Int):Spec Aa 170 [.i .i64 n] (aK [(n,1)]):=by refine bF (N:=7) Tryz.func170 ?_;have hS:=aMm;rw[bLt];simp[-O,-X,↓KW,aK];refine aJ hS ?_;simp[-O,-X,↓KW,aY,aD,aF,aG,aZ,aW]
def bYs(x y:Int×Int)(hx:Sz x.2)(hy:Sz y.2):Spec Aa 171 [.ag (eL x),.ag (eL y)] (.b (decide (x=y))):=by
 refine bF (N:=18) Tryz.func171 ?_;obtain⟨xc,xv⟩:=x;obtain⟨yc,yv⟩:=y;obtain⟨r,hC,hr⟩:=aZf xv yv hx hy;by_cases h1:xc=yc
 ·have h2:((xc==yc):Bool)=true:=by simpa using h1
  have h3:decide (((xc,xv):Int×Int)=(yc,yv))=(r==0):=by rw[DK,AI,CK,hr,Ez];simp[h1]
  rw[h3];subst h1;simp[-O,-X,↓KW,bE,h2,aD,aF,aG,aZ,aW];refine aJ hC ?_;simp[-O,-X,↓KW]
 ·have h2:((xc==yc):Bool)=false:=by simpa using h1
  have h3:decide (((xc,xv):Int×Int)=(yc,yv))=false:=by rw[CO,Ez];exact λh=>h1 h.1
  rw[h3];simp[-O,-X,↓KW,bE,h2,h1,aD,aF,aG,aZ,aW]
def bUm{a b:Ch}(ha:∀x∈a,Sz x.2)(hb:∀x∈b,Sz x.2)(hla:a.length<=4294967296):Spec Aa 71 [aK a,aK b,.lit (.func (.func 171) #[] #[])] (.b (decide (a=b))):=by
 refine bF (N:=32) Tryz.func71 ?_;by_cases hn:a.length=b.length
 rotate_left
 ·have h1:(((a.length:Int) != b.length):Bool)=true:=by simp;omega
  have h2:decide (a=b)=false:=by simp;intro e;rw[e]at hn;exact hn rfl
  simp[-O,-X,↓KW,↓cN,↓bQ,↓cL,↓cM,aK,h1,h2]
 ·have h1:(((a.length:Int) != b.length):Bool)=false:=by simp;omega
  simp[-O,-X,↓KW,↓cN,↓bQ,↓cL,↓cM,aK,h1];refine aP (λi:Nat=>i<=a.length/\∀j,j<i->a[j]? = b[j]?) (λi=>StL [(0,.d (aK a)),(1,.d (aK b)),(2,.d (.lit (.func (.func 171) #[] #[]))),(15,.d (aK a)),(16,.d (.i .i64 (a.length:Int))),(17,.d (.i .i64 (i:Int)))] none []) (λi=>a.length-i) 0 ⟨Ak _,λj h=>by omega⟩ ?_ ?_
  ·refine wkQ [] ?_ ?_<;>simp[-O,upd,aO,Γ0,aK]
  ·rintro i ⟨hi,hok⟩;by_cases hgo:i<a.length
   ·have q1:(i:Int)<a.length:=by omega
    have hgb:i<b.length:=by omega
    have hx:a[i]? = some a[i]:=Ab hgo;have hy:b[i]? = some b[i]:=Ab hgb;have hxs:=ha _ (Ar hgo);have hys:=hb _ (Ar hgb);have hw:Ag.wrap ((i:Int)+1)=(i:Int)+1:=aV;generalize a[i]=x at *;generalize b[i]=y at *;have hS:=bYs x y hxs hys;have hne:¬(x=y)->decide (a=b)=false:=λh=>by
     simp only[CO];intro e;rw[e,hy]at hx;injection hx with hx
     exact h hx.symm
    simp[-O,-X,↓KW,↓cN,↓bQ,↓cL,↓cM,aK,bE,q1,hx,hy,aD,aF,aG];refine nW (ds:=[.ag (eL x),.ag (eL y)]) (by rfl) hS ?_;by_cases hv:x=y
    ·subst hv;rw[BD rfl];simp[-O,-X,↓KW,↓cN,↓bQ,↓cL,↓cM,hw];refine aI (i+1) ⟨hgo,λj hj=>?_⟩ (slQ hgo) (wkQ [] ?_ ?_)
     ·rcases Bd j i with h2|h2
      ·exact hok j h2
      ·rw[show j=i by omega,hx,hy]
     ·simp[-O,upd,aO,Γ0,aK]
     ·trivial
    ·rw[Br hv];have e2:=hne hv;simp[-O,-X,↓KW,↓cN,↓bQ,↓cL,↓cM,e2]
   ·have q1:¬(i:Int)<a.length:=by omega
    have e:decide (a=b)=true:=by
     simp only[AI];apply List.ext_getElem?;intro j;rcases Bd j a.length with h|h
     ·exact hok j (by omega)
     ·rw[AW h,AW (by omega)]
    simp[-O,-X,↓KW,↓cN,↓bQ,↓cL,↓cM,aK,q1,e]
def bRx{a b:Ch}(ha:∀x∈a,Sz x.2)(hb:∀x∈b,Sz x.2)(hla:a.length<=4294967296):Spec Aa 167 [aK a,aK b] (.b (decide (a=b))):=by refine bF (N:=8) Tryz.func167 ?_;have hS:=bUm ha hb hla;simp[-O,-X,↓KW,↓cN,↓bQ,↓cL,↓cM,aK,nF];refine aJ hS ?_;simp[-O,-X,↓KW,↓cN,↓bQ,↓cL,↓cM]
def bCv(g:List (Int×Ch))(n:Int):rE (aHz (g.map (·.1)) (g.map λp=>aK p.2)) n=(mD g n).map λy=>.d (aK y):=by
 unfold mD rE aHz;induction g with
 |nil=>rfl
 |cons p g ih =>
  simp only[A0,Er,iP,DM];by_cases h:p.1=n
  ·simp[h,aB]
  ·rw[Ac h,Br h];simp only[Option.bind_map];rw[<-ih];rfl
def grS(t:Nat)(sl:List (Nat×AV))(e:TypeId)(sz:Nat)(n:Nat)(cells:List D):St:=match n with
 |0=>StL ((t,.nil)::sl) none []
 |n+1=>StL ((t,.own 1 0 (n+1) sz)::sl) none [.cells e (cells.map .d)]
def bMk{k:Nat}(hk:0<k)(l:List (List D))(h:∀x∈l,x.length=k):chunk k l.length l.flatten=l:=by
 induction l with
 |nil=>rfl
 |cons a l ih =>
  have ha:=h a (Av ..);have:=ih λx hx=>h x (As _ hx)
  unfold chunk at this ⊢;rw[AH,List.range_succ_eq_map,A0,CC,BE];congr 1
  ·simp[<-ha]
  ·conv=>rhs;rw[<-this]
   apply BJ;intro i _;simp only[DQ];rw[show Nat.succ i*k=a.length+i*k from by rw[C4,ha,Nat.add_comm],List.drop_append,Bz (by omega)];simp
def flt{α:Type}(f:α->List D)(l:List α):List D:=(l.map f).flatten
def vW{α:Type}(f:α->List D):flt f []=[]:=rfl
def cF{α:Type}(f:α->List D)(x:α):flt f [x]=f x:=by simp[flt]
def cW{α:Type}(f:α->List D)(a b:List α):flt f (a++b)=flt f a++flt f b:=by simp[flt]
def bJ{α:Type}{f:α->List D}{k:Nat}(h:∀x,(f x).length=k)(l:List α):(flt f l).length=l.length*k:=by
 unfold flt;induction l with
 |nil=>simp
 |cons x l ih=>rw[A0,BE,Al,ih,h,AH,C4];omega
def dA{α:Type}{f:α->List D}(h:∀x,((f x).map AV.d).all one=true)(l:List α):((flt f l).map AV.d).all one=true:=by
 unfold flt;induction l with
 |nil=>rfl
 |cons x l ih=>rw[A0,BE,Bt,List.all_append,h,ih];rfl
def cV{α:Type}{f:α->List D}{k:Nat}(hk:0<k)(h:∀x,(f x).length=k){l:List α}{n:Nat}(hn:l.length=n):chunk k n (flt f l)=l.map f:=by
 have:=bMk hk (l.map f) λx hx=>by obtain⟨y,_,rfl⟩:=AA.1 hx;exact h y
 rwa [AL,hn]at this
def dH{α:Type}{f:α->List D}{k:Nat}(h:∀x,(f x).length=k){l:List α}{n:Nat}(hn:l.length=n):((flt f l).map AV.d).take (n*k)=(flt f l).map AV.d:=Ai (by rw[AL,bJ h,hn];exact Ap _)
def aR(x:Cl):aN x=[.i .i64 x.id,.i .i64 x.dim,aK x.b]:=rfl
def fO(x:Int×Ch):(pP x).length=2:=rfl
def aBj(x:Int×Ch):((pP x).map AV.d).all one=true:=rfl
def uJ(x:Int×Ch):pP x=[.i .i64 x.1,aK x.2]:=rfl
def lkV:Option Ch->AV
 |some y=>.tp [.d (aK y),.d (.b true)]
 |none=>.tp [.nil,.d (.b false)]
def aJu(g:List (Int×Ch))(H:Hp)(n:Int):pG Aa H 223 (.d (aWb g)) (.d (.i .i64 n)) true=some (lkV (mD g n)):=by
 have h1:tmp Aa 223=some (3,38):=by kernel_rfl
 have h2:jJ Aa 3=some .i64:=by kernel_rfl
 have h3:tz Aa 38=some (.slice none 0 0):=by kernel_rfl
 show aCa Aa 223 .i64 (aHz (g.map (·.1)) (g.map λp=>aK p.2)) (.d (.i .i64 n)) true=_;simp only[aCa,bCv];cases mD g n<;>simp[h1,h2,h3,lkV,cv,cv1]
def aJr{c:List Cl}{i:Nat}(h:i<c.length)(g:List (Int×Ch)):eF (c.take (i+1)) g=eF (c.take i) g++[(c[i].id,(mD g c[i].id).getD [(c[i].id,1)])]:=by unfold eF;rw[AM,Ab h,Bt];rfl
def oW(c:List Cl)(g:List (Int×Ch))(G:D)(hG:aO G=.d G)(hlk:∀H n,pG Aa H 223 (.d G) (.d (.i .i64 n)) true=some (lkV (mD g n)))(hl:c.length<=1000000):Spec Aa 169 [aE c,G] (dI (eF c g)):=by
 refine bF (N:=37) Tryz.func169 ?_;simp[-O,-X,↓KW,aE,hG];refine aP (λy:Nat×List (Int×Ch)=>y.1<=c.length/\y.2.length=y.1/\eF (c.take y.1) g=y.2) (λy=>grS 5 [(0,.d (aE c)),(1,.d G),(10,.d (aE c)),(11,.d (.i .i64 c.length)),(12,.d (.i .i64 (y.1:Int)))] 164 2 y.2.length (flt pP y.2)) (λy=>c.length-y.1) (0,[]) ⟨Ak _,rfl,rfl⟩ ?_ ?_
 ·simp only[Bo,grS];refine wkQ [] ?_ ?_<;>simp[-O,upd,Γ0,aE,dY,hG]
 ·rintro⟨i,out⟩ ⟨hi,hoi,ho⟩;simp only at hi ho hoi ⊢;by_cases hgo:i<c.length
  ·have q1:(i:Int)<c.length:=by omega
   have hx:c[i]? = some c[i]:=Ab hgo;have hw:Ag.wrap ((i:Int)+1)=(i:Int)+1:=aV;have htk:=aJr hgo g;rw[ho]at htk;refine exE c[i] λx hxe=>?_
   rw[hxe]at hx htk;have hyc:aN x=[D.i .i64 x.id,.i .i64 x.dim,aK x.b]:=rfl;have hS:=yW x.id;have hlk':=λH=>hlk H x.id
   have hm1:(1:Nat)<=maxLen:=aS (by decide);refine exE ((mD g x.id).getD [(x.id,1)]) λy hy=>?_
   rw[hy]at htk;rcases hn:out with _|⟨o1,o2⟩
   ·rw[hn]at htk hoi;simp only[Bo,grS];rcases hgv:mD g x.id with _|v
    ·rw[hgv]at hlk' hy;simp only[lkV]at hlk';simp[-O,-X,↓KW,aE,q1,hx,hyc,hw,hm1,hlk',aC,aA,aB];refine aJ hS ?_;simp[-O,-X,↓KW,aE,q1,hx,hyc,hw,hm1,hlk',aC,aA,aB,aQ,aT];refine aI (i+1,[(x.id,y)]) ⟨hgo,by simp only[Au];simp at hoi;omega,htk⟩ (slQ hgo) ?_;simp only[Au,grS,cF,uJ,<-hy];refine wkQ [3] ?_ ?_<;>simp[-O,upd,aO,Γ0,aE]
    ·rw[hgv]at hlk' hy;simp only[lkV]at hlk';have hy':v=y:=hy;simp[-O,-X,↓KW,aE,q1,hx,hyc,hw,hm1,hlk',aC,aA,aB];refine aI (i+1,[(x.id,y)]) ⟨hgo,by simp only[Au];simp at hoi;omega,htk⟩ (slQ hgo) ?_;simp only[Au,grS,cF,uJ,<-hy'];refine wkQ [3] ?_ ?_<;>simp[-O,upd,aO,Γ0,aE]
   ·rw[<-hn];refine(show ∃m,out.length=m+1 from⟨o2.length,by rw[hn];rfl⟩).elim λm hm=>?_
    have hbb:=cG (n:=m+1) (by omega);have hb8:(m+1+1)*32<=140737488355328:=by omega
    have hcl:=bJ fO out;rw[hm]at hcl;have hal:=dA aBj out;have hfa:flt pP (out++[(x.id,y)])=flt pP out++[.i .i64 x.id,aK y]:=by rw[cW,cF];rfl
    simp only[hm,grS];rcases hgv:mD g x.id with _|v
    ·rw[hgv]at hlk' hy;simp only[lkV]at hlk';simp[-O,-X,↓KW,aE,q1,hx,hyc,hw,hm,hlk',hbb,hb8,hcl,hal,aS,aC,aA,aB];refine aJ hS ?_;simp[-O,-X,↓KW,aE,q1,hx,hyc,hw,hm,hlk',hbb,hb8,hcl,hal,aS,aC,aA,aB,aQ,aT];refine aI (i+1,out++[(x.id,y)]) ⟨hgo,by simp only[Al,Au];omega,htk⟩ (slQ hgo) ?_;simp only[Al,hm,Au,grS,hfa,<-hy];refine wkQ [4] ?_ ?_<;>simp[-O,upd,aO,Γ0,aE,cW,cF,uJ]
    ·rw[hgv]at hlk' hy;simp only[lkV]at hlk';have hy':v=y:=hy;simp[-O,-X,↓KW,aE,q1,hx,hyc,hw,hm,hlk',hbb,hb8,hcl,hal,aS,aC,aA,aB];refine aI (i+1,out++[(x.id,y)]) ⟨hgo,by simp only[Al,Au];omega,htk⟩ (slQ hgo) ?_;simp only[Al,hm,Au,grS,hfa,<-hy'];refine wkQ [4] ?_ ?_<;>simp[-O,upd,aO,Γ0,aE,cW,cF,uJ]
  ·have q1:¬(i:Int)<c.length:=by omega
   rw[Ai (by omega)]at ho;rw[ho];rcases hn:out.length with _|m
   ·have e0:out=[]:=AE hn;simp only[grS];simp[-O,-X,↓KW,aE,dI,q1,e0]
   ·have e1:=dH fO hn;have e2:=cV (by decide) fO hn;have e3:=bJ fO out;rw[hn]at e3;simp only[grS];simp[-O,-X,↓KW,aE,dI,q1,e1,e2,e3,hn]
def nzF(f:Int×Int):Ch:=if f.2=0 then[]else[f]
def plM(k:Int):Ch->Ch->Ch
 |[],[]=>[]
 |x::a,[]=>nzF x++plM k a []
 |[],y::b=>nzF (y.1,k*y.2)++plM k [] b
 |x::a,y::b=>if x.1<y.1 then nzF x++plM k a (y::b)else if y.1<x.1 then nzF (y.1,k*y.2)++plM k (x::a) b else nzF (x.1,x.2+k*y.2)++plM k a b
termination_by a b=>a.length+b.length
def aGv(n:Int)(f:Int×Int)(l:Ch):cf n (nzF f++l)=cf n (f::l):=by
 unfold nzF;by_cases h:f.2=0
 ·rw[Ae h,BM];simp[cf,h]
 ·rw[Ac h];rfl
def uO(k n:Int):∀a b:Ch,cf n (plM k a b)=cf n a+k*cf n b
 |[],[]=>by simp[plM,cf]
 |x::a,[]=>by have ih:=uO k n a [];rw[plM,aGv];simp only[cf]at ih ⊢;rw[ih];simp only[DO,Int.add_zero]
 |[],y::b=>by have ih:=uO k n [] b;rw[plM,aGv];simp only[cf]at ih ⊢;rw[ih,De];split<;>simp
 |x::a,y::b=>by
  have h1:=uO k n a (y::b);have h2:=uO k n (x::a) b;have h3:=uO k n a b;rw[plM];split
  ·rw[aGv];simp only[cf]at h1 ⊢;rw[h1];omega
  ·split
   ·rw[aGv];simp only[cf]at h2 ⊢;rw[h2,De];split
    ·split<;>(try simp only[DO])<;>omega
    ·split<;>(try simp only[DO])<;>omega
   ·rename_i g1 g2;have he:x.1=y.1:=by omega
    rw[aGv];simp only[cf];rw[h3,he,De];split<;>(try simp only[DO])<;>omega
termination_by a b=>a.length+b.length
def nE(k:Int):∀(a b:Ch) (x:Int×Int),x∈plM k a b->x.2≠0/\((∃y∈a,y.1=x.1)\/∃y∈b,y.1=x.1)
 |[],[],x,h=>by simp[plM]at h
 |u::a,[],x,h=>by
  rw[plM]at h;rcases A6.1 h with h|h
  ·unfold nzF at h;split at h
   ·cases h
   ·rw[AT]at h;subst h;exact⟨by assumption,.inl ⟨_,Av ..,rfl⟩⟩
  ·obtain⟨h1,h2⟩:=nE k a [] x h;refine⟨h1,?_⟩;rcases h2 with ⟨y,hy,e⟩|⟨y,hy,e⟩
   ·exact .inl ⟨y,As _ hy,e⟩
   ·cases hy
 |[],v::b,x,h=>by
  rw[plM]at h;rcases A6.1 h with h|h
  ·unfold nzF at h;split at h
   ·cases h
   ·rw[AT]at h;subst h;exact⟨by assumption,.inr ⟨_,Av ..,rfl⟩⟩
  ·obtain⟨h1,h2⟩:=nE k [] b x h;refine⟨h1,?_⟩;rcases h2 with ⟨y,hy,e⟩|⟨y,hy,e⟩
   ·cases hy
   ·exact .inr ⟨y,As _ hy,e⟩
 |u::a,v::b,x,h=>by
  rw[plM]at h;have up:((∃y∈a,y.1=x.1)\/∃y∈v::b,y.1=x.1)->((∃y∈u::a,y.1=x.1)\/∃y∈v::b,y.1=x.1):=λh=>h.imp (λ⟨y,hy,e⟩=>⟨y,As _ hy,e⟩) id
  have up2:((∃y∈u::a,y.1=x.1)\/∃y∈b,y.1=x.1)->((∃y∈u::a,y.1=x.1)\/∃y∈v::b,y.1=x.1):=λh=>h.imp id (λ⟨y,hy,e⟩=>⟨y,As _ hy,e⟩)
  split at h
  ·rcases A6.1 h with h|h
   ·unfold nzF at h;split at h
    ·cases h
    ·rw[AT]at h;subst h;exact⟨by assumption,.inl ⟨_,Av ..,rfl⟩⟩
   ·obtain⟨h1,h2⟩:=nE k a (v::b) x h;exact⟨h1,up h2⟩
  ·split at h
   ·rcases A6.1 h with h|h
    ·unfold nzF at h;split at h
     ·cases h
     ·rw[AT]at h;subst h;exact⟨by assumption,.inr ⟨_,Av ..,rfl⟩⟩
    ·obtain⟨h1,h2⟩:=nE k (u::a) b x h;exact⟨h1,up2 h2⟩
   ·rcases A6.1 h with h|h
    ·unfold nzF at h;split at h
     ·cases h
     ·rw[AT]at h;subst h;exact⟨by assumption,.inl ⟨_,Av ..,rfl⟩⟩
    ·obtain⟨h1,h2⟩:=nE k a b x h;exact⟨h1,h2.imp (λ⟨y,hy,e⟩=>⟨y,As _ hy,e⟩) (λ⟨y,hy,e⟩=>⟨y,As _ hy,e⟩)⟩
termination_by a b=>a.length+b.length
def yT{f:Int×Int}{l:Ch}(hl:Val l)(h:∀y∈l,f.1<y.1):Val (nzF f++l):=by
 unfold nzF;split
 ·exact hl
 ·refine⟨Bj.2 ⟨h,hl.1⟩,λy hy=>?_⟩;rcases AG.1 hy with rfl|hy
  ·assumption
  ·exact hl.2 y hy
def iX(k:Int):∀{a b:Ch},Val a->Val b->Val (plM k a b)
 |[],[],_,_=>by rw[plM];exact Val.nil
 |x::a,[],ha,hb=>by
  obtain⟨h1,h2,_⟩:=ha.tail;rw[plM];refine yT (iX k h1 hb) λy hy=>?_
  rcases(nE k a [] y hy).2 with ⟨z,hz,e⟩|⟨z,hz,e⟩
  ·rw[<-e];exact h2 z hz
  ·cases hz
 |[],y::b,ha,hb=>by
  obtain⟨h1,h2,_⟩:=hb.tail;rw[plM];refine yT (iX k ha h1) λu hu=>?_
  rcases(nE k [] b u hu).2 with ⟨z,hz,e⟩|⟨z,hz,e⟩
  ·cases hz
  ·rw[<-e];exact h2 z hz
 |x::a,y::b,ha,hb=>by
  obtain⟨a1,a2,_⟩:=ha.tail;obtain⟨b1,b2,_⟩:=hb.tail;rw[plM];split
  ·refine yT (iX k a1 hb) λu hu=>?_
   rcases(nE k a (y::b) u hu).2 with ⟨z,hz,e⟩|⟨z,hz,e⟩
   ·rw[<-e];exact a2 z hz
   ·rcases AG.1 hz with rfl|hz
    ·omega
    ·have:=b2 z hz;omega
  ·split
   ·refine yT (iX k ha b1) λu hu=>?_
    simp only;rcases(nE k (x::a) b u hu).2 with ⟨z,hz,e⟩|⟨z,hz,e⟩
    ·rcases AG.1 hz with rfl|hz
     ·omega
     ·have:=a2 z hz;omega
    ·rw[<-e];exact b2 z hz
   ·refine yT (iX k a1 b1) λu hu=>?_
    simp only;rcases(nE k a b u hu).2 with ⟨z,hz,e⟩|⟨z,hz,e⟩
    ·rw[<-e];exact a2 z hz
    ·have:=b2 z hz;omega
termination_by a b=>a.length+b.length
def aDc{a b:Ch}(ha:Val a)(hb:Val b)(k:Int):plM k a b=lin a b k:=by
 obtain⟨h1,h2⟩:=aDj ha hb k;have h3:=iX k ha hb;refine h3.ext h1 λn=>?_
 rw[h2 n,<-gD h3,uO,gD ha,gD hb]
def bQt(k:Int):plM k [] []=[]:=by rw[plM]
def aQh{k:Int}{a b:Ch}{i:Nat}(h:i<a.length)(hb:b=[]\/∃y l,b=y::l/\a[i].1<y.1):plM k (a.drop i) b=nzF a[i]++plM k (a.drop (i+1)) b:=by
 rw[AP h];rcases hb with rfl|⟨y,l,rfl,hlt⟩
 ·rw[plM]
 ·rw[plM,Ae hlt]
def aJa{k:Int}{a b:Ch}{j:Nat}(h:j<b.length)(ha:a=[]\/∃x l,a=x::l/\b[j].1<x.1):plM k a (b.drop j)=nzF (b[j].1,k*b[j].2)++plM k a (b.drop (j+1)):=by
 rw[AP h];rcases ha with rfl|⟨x,l,rfl,hlt⟩
 ·rw[plM]
 ·rw[plM,Ac (by omega),Ae hlt]
def bHz{k:Int}{a b:Ch}{i j:Nat}(h:i<a.length)(h2:j<b.length)(he:a[i].1=b[j].1):plM k (a.drop i) (b.drop j)=nzF (a[i].1,a[i].2+k*b[j].2)++plM k (a.drop (i+1)) (b.drop (j+1)):=by rw[AP h,AP h2,plM,Ac (by omega),Ac (by omega)]
def nC{a b:Ch}{k:Int}{e f g:Nat}(ha:Bnd (2^e) a)(hb:Bnd (2^f) b)(hk:k.natAbs<=2^g)(he:e+2<4398046511104)(hf:g+f+2<4398046511104)(hla:a.length<=1048576)(hlb:b.length<=1048576):Spec Aa 82 [aK a,aK b,encZ k] (aK (plM k a b)):=by
 have hkS:Sz k:=szE hk (by omega);refine bF (N:=116) Tryz.func82 ?_;simp[-O,-X,↓KW,aK,aY,aF,aD,aG];refine aP (λy:Nat×Nat×Ch=>y.1<=a.length/\y.2.1<=b.length/\y.2.2.length<=y.1+y.2.1/\y.2.2++plM k (a.drop y.1) (b.drop y.2.1)=plM k a b) (λy=>StL [(0,.d (aK a)),(1,.d (aK b)),(5,.ptr 1 0),(7,.own 2 0 y.2.2.length 3),(8,.d (.i .i64 (y.1:Int))),(9,.d (.i .i64 (y.2.1:Int)))] none [.cells 72 [.d (.b (decide (k<0))),.d (aM (aU k.natAbs))],.cells 75 ((fcs y.2.2).map .d)]) (λy=>(a.length-y.1)+(b.length-y.2.1)) (0,0,[]) ⟨Ak _,Ak _,Ak _,rfl⟩ ?_ ?_
 ·refine wkQ [1,2] ?_ ?_<;>simp[-O,upd,aO,Γ0,aK,fcs]
 ·rintro⟨i,j,out⟩ ⟨hi,hj,hol,hinv⟩;simp only at hi hj hol hinv;refine exE out.length λn hn=>?_
  rw[hn]at hol;have hfl:=vY out;rw[hn]at hfl;have hb8:=cG (n:=n) (by omega);by_cases hgi:i<a.length
  ·have q1:(i:Int)<a.length:=by omega
   have hw1:Ag.wrap ((i:Int)+1)=((i+1:Nat):Int):=by rw[aV];omega
   have g1:a[i]? = some a[i]:=Ab hgi;have hax:=ha _ (Ar hgi);by_cases hgj:j<b.length
   ·have q2:((j:Int)==b.length)=false:=by simp;omega
    have q3:(j:Int)<b.length:=by omega
    have q5:((i:Int)==a.length)=false:=by simp;omega
    have hw2:Ag.wrap ((j:Int)+1)=((j+1:Nat):Int):=by rw[aV];omega
    have g2:b[j]? = some b[j]:=Ab hgj;have hby:=hb _ (Ar hgj);have st1:a[i].1<b[j].1->plM k (a.drop i) (b.drop j)=nzF a[i]++plM k (a.drop (i+1)) (b.drop j):=λh=>aQh hgi (.inr ⟨_,_,AP hgj,h⟩)
    have st2:b[j].1<a[i].1->plM k (a.drop i) (b.drop j)=nzF (b[j].1,k*b[j].2)++plM k (a.drop i) (b.drop (j+1)):=λh=>aJa hgj (.inr ⟨_,_,AP hgi,h⟩)
    have st3:=bHz (k:=k) hgi hgj;refine exE a[i] λx hxe=>?_
    refine exE b[j] λy hye=>?_
    rw[hxe]at g1 st1 st2 st3 hax;rw[hye]at g2 st1 st2 st3 hby;obtain⟨xi,xc⟩:=x;obtain⟨yi,yc⟩:=y;simp only at hax hby st1 st2 st3;have hsx:Sz xc:=szE hax (by omega);have hsy:Sz yc:=szE hby (by omega);have hM:=qE k yc hkS hsy;have hmb:(k*yc).natAbs<=2^(g+f):=by rw[BV,<-pC];exact Cp hk hby
    refine exE (k*yc) λz hze=>?_
    rw[hze]at hM st2 st3 hmb;by_cases c1:xi<yi
    ·have hstep:=st1 c1;have hol2:out.length<=i+1+j:=by omega
     simp[-O,-X,↓KW,aK,q1,q2,g1,g2,c1,hw1,bE,aF,aD,aG];refine aJ (fH xc) ?_;by_cases hz0:xc=0
     ·have hz1:((xc).sign != 0)=false:=by simp[hz0]
      have hz2:nzF (xi,xc)=[]:=by unfold nzF;rw[Ae hz0]
      rw[hz2,BM]at hstep;rw[hstep]at hinv;simp[-O,-X,↓KW,hz1,hn,hw1];refine aI (τ:=Nat×Nat×Ch) (i+1,j,out) ⟨by simp only;omega,by simp only;omega,hol2,hinv⟩ (by simp only;omega) (wkQ [1,2] ?_ ?_)
      ·simp[-O,upd,aO,Γ0,aK,hn]
      ·simp[-O,upd,aO,Γ0,aK,hn]
     ·have hz1:((xc).sign != 0)=true:=by simp[hz0]
      have hz2:nzF (xi,xc)=[(xi,xc)]:=by unfold nzF;rw[Ac hz0]
      rw[hz2]at hstep;rw[hstep,<-Bg]at hinv;simp[-O,-X,↓KW,hz1,bE,aF,aD,dM,jU,hn,hfl,hb8,aS,hw1];refine aI (τ:=Nat×Nat×Ch) (i+1,j,out++[(xi,xc)]) ⟨by simp only;omega,by simp only;omega,by simp only[Al,Au];omega,hinv⟩ (by simp only;omega) (wkQ [1,5] ?_ ?_)
      ·simp[-O,upd,aO,Γ0,aK,bE,dM,fT,hn]
      ·simp[-O,upd,aO,Γ0,aK,bE,dM,fT,hn]
    ·by_cases c2:yi<xi
     ·have hstep:=st2 c2;have hol2:out.length<=i+(j+1):=by omega
      simp[-O,-X,↓KW,aK,q1,q2,q5,g1,g2,c1,c2,hw2,bE,aF,aD,aG];refine aJ hM ?_;simp[-O,-X,↓KW,aY,hw2,bE,aF,aD,aG];refine aJ (fH z) ?_;by_cases hz0:z=0
      ·have hz1:((z).sign != 0)=false:=by simp[hz0]
       have hz2:nzF (yi,z)=[]:=by unfold nzF;rw[Ae hz0]
       rw[hz2,BM]at hstep;rw[hstep]at hinv;simp[-O,-X,↓KW,hz1,hn,hw2];refine aI (τ:=Nat×Nat×Ch) (i,j+1,out) ⟨by simp only;omega,by simp only;omega,hol2,hinv⟩ (by simp only;omega) (wkQ [1,2] ?_ ?_)
       ·simp[-O,upd,aO,Γ0,aK,hn]
       ·simp[-O,upd,aO,Γ0,aK,hn]
      ·have hz1:((z).sign != 0)=true:=by simp[hz0]
       have hz2:nzF (yi,z)=[(yi,z)]:=by unfold nzF;rw[Ac hz0]
       rw[hz2]at hstep;rw[hstep,<-Bg]at hinv;simp[-O,-X,↓KW,hz1,bE,aF,aD,dM,jU,hn,hfl,hb8,aS,hw2];refine aI (τ:=Nat×Nat×Ch) (i,j+1,out++[(yi,z)]) ⟨by simp only;omega,by simp only;omega,by simp only[Al,Au];omega,hinv⟩ (by simp only;omega) (wkQ [1,5] ?_ ?_)
       ·simp[-O,upd,aO,Γ0,aK,bE,dM,fT,hn]
       ·simp[-O,upd,aO,Γ0,aK,bE,dM,fT,hn]
     ·have c3:xi=yi:=by omega
      have hstep:=st3 c3;have hol2:out.length<=i+1+(j+1):=by omega
      have hA:=rX xc z (An hsx (by decide)) (An (szE hmb (by omega)) (by decide));simp[-O,-X,↓KW,aK,q1,q2,q5,g1,g2,c1,c2,hw1,hw2,bE,aF,aD,aG];refine aJ hM ?_;simp[-O,-X,↓KW,aY,hw2,bE,aF,aD,aG];refine aJ hA ?_;simp[-O,-X,↓KW,aY,hw1,hw2,bE,aF,aD,aG];refine exE (xc+z) λu hue=>?_
      rw[hue]at hstep ⊢;refine aJ (fH u) ?_;by_cases hz0:u=0
      ·have hz1:((u).sign != 0)=false:=by simp[hz0]
       have hz2:nzF (xi,u)=[]:=by unfold nzF;rw[Ae hz0]
       rw[hz2,BM]at hstep;rw[hstep]at hinv;simp[-O,-X,↓KW,hz1,hn,hw1,hw2];refine aI (τ:=Nat×Nat×Ch) (i+1,j+1,out) ⟨by simp only;omega,by simp only;omega,hol2,hinv⟩ (by simp only;omega) (wkQ [1,2] ?_ ?_)
       ·simp[-O,upd,aO,Γ0,aK,hn]
       ·simp[-O,upd,aO,Γ0,aK,hn]
      ·have hz1:((u).sign != 0)=true:=by simp[hz0]
       have hz2:nzF (xi,u)=[(xi,u)]:=by unfold nzF;rw[Ac hz0]
       rw[hz2]at hstep;rw[hstep,<-Bg]at hinv;simp[-O,-X,↓KW,hz1,bE,aF,aD,dM,jU,hn,hfl,hb8,aS,hw1,hw2];refine aI (τ:=Nat×Nat×Ch) (i+1,j+1,out++[(xi,u)]) ⟨by simp only;omega,by simp only;omega,by simp only[Al,Au];omega,hinv⟩ (by simp only;omega) (wkQ [1,5] ?_ ?_)
       ·simp[-O,upd,aO,Γ0,aK,bE,dM,fT,hn]
       ·simp[-O,upd,aO,Γ0,aK,bE,dM,fT,hn]
   ·have hje:j=b.length:=by omega
    have q2:((j:Int)==b.length)=true:=by simp;omega
    have hstep:=aQh (k:=k) (b:=b.drop j) hgi (.inl (Bz (by omega)));have hol2:out.length<=i+1+j:=by omega
    refine exE a[i] λx hxe=>?_
    rw[hxe]at g1 hstep hax;obtain⟨xi,xc⟩:=x;simp only at hax;have hsx:Sz xc:=szE hax (by omega);simp[-O,-X,↓KW,aK,q1,q2,g1,hw1,bE,aF,aD,aG];refine aJ (fH xc) ?_;by_cases hz0:xc=0
    ·have hz1:((xc).sign != 0)=false:=by simp[hz0]
     have hz2:nzF (xi,xc)=[]:=by unfold nzF;rw[Ae hz0]
     rw[hz2,BM]at hstep;rw[hstep]at hinv;simp[-O,-X,↓KW,hz1,hn,hw1];refine aI (τ:=Nat×Nat×Ch) (i+1,j,out) ⟨by simp only;omega,by simp only;omega,hol2,hinv⟩ (by simp only;omega) (wkQ [1,2] ?_ ?_)
     ·simp[-O,upd,aO,Γ0,aK,hn]
     ·simp[-O,upd,aO,Γ0,aK,hn]
    ·have hz1:((xc).sign != 0)=true:=by simp[hz0]
     have hz2:nzF (xi,xc)=[(xi,xc)]:=by unfold nzF;rw[Ac hz0]
     rw[hz2]at hstep;rw[hstep,<-Bg]at hinv;simp[-O,-X,↓KW,hz1,bE,aF,aD,dM,jU,hn,hfl,hb8,aS,hw1];refine aI (τ:=Nat×Nat×Ch) (i+1,j,out++[(xi,xc)]) ⟨by simp only;omega,by simp only;omega,by simp only[Al,Au];omega,hinv⟩ (by simp only;omega) (wkQ [1,5] ?_ ?_)
     ·simp[-O,upd,aO,Γ0,aK,bE,dM,fT,hn]
     ·simp[-O,upd,aO,Γ0,aK,bE,dM,fT,hn]
  ·have q1:¬(i:Int)<a.length:=by omega
   have q5:((i:Int)==a.length)=true:=by simp;omega
   have hde:a.drop i=[]:=Bz (by omega);rw[hde]at hinv;by_cases hgj:j<b.length
   ·have q2:((j:Int)==b.length)=false:=by simp;omega
    have q3:(j:Int)<b.length:=by omega
    have hw2:Ag.wrap ((j:Int)+1)=((j+1:Nat):Int):=by rw[aV];omega
    have g2:b[j]? = some b[j]:=Ab hgj;have hby:=hb _ (Ar hgj);have hstep:=aJa (k:=k) hgj (.inl (rfl:([]:Ch)=[]));have hol2:out.length<=i+(j+1):=by omega
    refine exE b[j] λy hye=>?_
    rw[hye]at g2 hstep hby;obtain⟨yi,yc⟩:=y;simp only at hby hstep;have hsy:Sz yc:=szE hby (by omega);have hM:=qE k yc hkS hsy;refine exE (k*yc) λz hze=>?_
    rw[hze]at hM hstep;rw[<-hde]at hinv hstep;simp[-O,-X,↓KW,aK,q1,q2,q3,q5,g2,hw2,bE,aF,aD,aG];refine aJ hM ?_;simp[-O,-X,↓KW,aY,hw2,bE,aF,aD,aG];refine aJ (fH z) ?_;by_cases hz0:z=0
    ·have hz1:((z).sign != 0)=false:=by simp[hz0]
     have hz2:nzF (yi,z)=[]:=by unfold nzF;rw[Ae hz0]
     rw[hz2,BM]at hstep;rw[hstep]at hinv;simp[-O,-X,↓KW,hz1,hn,hw2];refine aI (τ:=Nat×Nat×Ch) (i,j+1,out) ⟨by simp only;omega,by simp only;omega,hol2,hinv⟩ (by simp only;omega) (wkQ [1,2] ?_ ?_)
     ·simp[-O,upd,aO,Γ0,aK,hn]
     ·simp[-O,upd,aO,Γ0,aK,hn]
    ·have hz1:((z).sign != 0)=true:=by simp[hz0]
     have hz2:nzF (yi,z)=[(yi,z)]:=by unfold nzF;rw[Ac hz0]
     rw[hz2]at hstep;rw[hstep,<-Bg]at hinv;simp[-O,-X,↓KW,hz1,bE,aF,aD,dM,jU,hn,hfl,hb8,aS,hw2];refine aI (τ:=Nat×Nat×Ch) (i,j+1,out++[(yi,z)]) ⟨by simp only;omega,by simp only;omega,by simp only[Al,Au];omega,hinv⟩ (by simp only;omega) (wkQ [1,5] ?_ ?_)
     ·simp[-O,upd,aO,Γ0,aK,bE,dM,fT,hn]
     ·simp[-O,upd,aO,Γ0,aK,bE,dM,fT,hn]
   ·have q3:¬(j:Int)<b.length:=by omega
    rw[Bz (by omega),bQt,AX]at hinv;have hc:=wC hn;have ht:=oQ hn;have hinv':plM k a b=out:=hinv.symm;simp[-O,-X,↓KW,aK,q1,q3,hn,hfl,hc,ht,hinv']
def rg(n:Nat)(f:Nat->Int):List Int:=(CP n).map f
def pB(w:Int->Int)(c:List Cl):∀y:List (Int×Int),bO w (bdL c y)=bO (λm=>bO w (bOf c m)) y
 |[]=>rfl
 |f::y=>by show bO w (mulR f.2 (bOf c f.1)++bdL c y)=_;rw[lT,mQ,pB w c y];rfl
def aIg{w:Int->Int}:∀{l:List (Int×Int)},(∀x∈l,w x.1=0)->bO w l=0
 |[],_=>rfl
 |x::l,h=>by simp only[bO];rw[h x (Av ..),aIg λy hy=>h y (As _ hy)];simp
def aNg(c:List Cl)(x:List (Int×Int)):Val (bdX c x)/\∀n,getM (bdX c x) n=bO (λm=>cf n (bOf c m)) x:=by obtain⟨h1,h2⟩:=cR (bdL c x) [] Val.nil;exact⟨h1,λn=>by show getM (cE [] (bdL c x)) n=_;rw[h2 n,gX,CD,aWj]⟩
def In(c:List Cl)(k:Int)(x:List (Int×Int)):Prop:=∀f∈x,f.1∈cA c k
def In.lin{c:List Cl}{k:Int}{a b:List (Int×Int)}(ha:Val a)(hb:Val b)(ia:In c k a)(ib:In c k b)(n:Int):In c k (lin a b n):=aJv (S:=λm=>m∈cA c k) ha hb ia ib
def bNe{c:List Cl}(hv:CxV c){y:Cl}(hy:y∈c):bdX c [(y.id,1)]=y.b:=by
 obtain⟨h1,h2⟩:=aNg c [(y.id,1)];refine h1.ext (hv.val y hy) λn=>?_
 rw[h2];simp only[bO];rw[hv.bOf hy,gD (hv.val y hy)];omega
def aNh{c:List Cl}{x:Ch}{f g:Nat}(hc:SzX f c)(hx:x.length<=100)(hg:Bnd (2^g) x)(i:Nat):Bnd (2^(14+(f+g))) (cE [] (bdL c (x.take i)))/\(cE [] (bdL c (x.take i))).length<=10000:=by obtain⟨h1,h2⟩:=bNg (x:=x.take i) hc (by rw[Ax];omega) (hg.take (i:=i));have h3:=mK (bdL c (x.take i)) [] (Bnd.nil 0) h2;have h4:=nX [] (bdL c (x.take i));simp only[Bo,A5]at h3 h4;exact⟨h3.mono (tQ (An h1 (by decide))),by omega⟩
def aIv{c:List Cl}{x:Ch}{f g:Nat}(hv:∀y∈c,Val y.b)(hc:SzX f c)(hx:x.length<=100)(hg:Bnd (2^g) x)(hfg:f+g+20<4398046511104):Spec Aa 70 [aE c,aK x] (aK (bdX c x)):=by
 have hlen:=hc.len;refine bF (N:=36) Tryz.func70 ?_;simp[-O,-X,↓KW,aE,aK];refine aP (λi:Nat=>i<=x.length) (λi=>StL [(0,.d (aE c)),(1,.d (aK x)),(5,.d (aK (cE [] (bdL c (x.take i))))),(6,.d (.i .i64 (i:Int)))] none []) (λi=>x.length-i) 0 (Ak _) ?_ ?_
 ·refine wkQ [] ?_ ?_
  ·simp[-O,upd,aO,Γ0,aE,aK,cE,bdL];exact qA (by simp[jA,upd,sO]) (λa _ id h=>by simp[pW]at h)
  ·trivial
 ·intro i hi;by_cases hgo:i<x.length
  ·have q1:(i:Int)<x.length:=by omega
   have hx1:x[i]? = some x[i]:=Ab hgo;have hw:Ag.wrap ((i:Int)+1)=(i:Int)+1:=aV;have hxg:=hg _ (Ar hgo);obtain⟨ob,ol⟩:=aNh hc hx hg i;have ov:=(cR (bdL c (x.take i)) [] Val.nil).1;have htk:cE [] (bdL c (x.take (i+1)))=cE (cE [] (bdL c (x.take i))) (mulR x[i].2 (bOf c x[i].1)):=by rw[bNf hgo,aTi]
   refine exE x[i] λu hue=>?_
   rw[hue]at hx1 hxg htk;obtain⟨n,z⟩:=u;simp only at hxg htk;have hbv:Val (bOf c n):=by
    unfold bOf;cases e:bG c n with
    |none=>exact Val.nil
    |some y=>exact hv y (dE e).1
   have hbb:=mI hc.bb n;have hbl:=nM hc.bl n;have hF:=gC c n (by omega);refine exE (cE [] (bdL c (x.take i))) λout hoe=>?_
   rw[hoe]at ob ol ov htk;have hP:=nC (k:=z) ob hbb hxg (by omega) (by omega) (by omega) (by omega);rw[aDc ov hbv]at hP;unfold lin at hP;rw[<-htk]at hP;unfold oP at hF;have hbo:bOf c n=((bG c n).getD lA).b:=rfl;rw[hbo]at hP;simp only[hoe];simp[-O,-X,↓KW,aE,aK,q1,hx1,bE,aF,aD,aG];refine aJ hF ?_;simp[-O,-X,↓KW,aE,aK,aR,q1,hx1,bE,aF,aD,aG,aC,aA,aB];refine aJ hP ?_;simp[-O,-X,↓KW,hw,aQ,aT,aC,aA];refine aI (i+1) hgo (slQ hgo) (wkQ [] ?_ ?_)<;>simp[-O,upd,aO,Γ0,aE,aK]
  ·have q1:¬(i:Int)<x.length:=by omega
   rw[Ai (by omega)];simp[-O,-X,↓KW,aE,aK,q1,bdX]
def apP(m:List (Int×Ch))(f:Int×Int):Ch:=m.flatMap λp=>if p.1=f.1 then mulR f.2 p.2 else[]
def apL(m:List (Int×Ch))(x:Ch):Ch:=x.flatMap (apP m)
def apX(m:List (Int×Ch))(x:Ch):Ch:=cE [] (apL m x)
structure SzM(h:Nat)(m:List (Int×Ch)):Prop where
 len:m.length<=100
 bl:∀p∈m,p.2.length<=100
 bb:∀p∈m,Bnd (2^h) p.2
 val:∀p∈m,Val p.2
def bNp{h g:Nat}:∀{m:List (Int×Ch)} {f:Int×Int},(∀p∈m,p.2.length<=100)->(∀p∈m,Bnd (2^h) p.2)->f.2.natAbs<=2^g->(apP m f).length<=m.length*100/\Bnd (2^(g+h)) (apP m f)
 |[],f,_,_,_=>⟨Ak _,Bnd.nil _⟩
 |p::m,f,h1,h2,h3=>by
  obtain⟨i1,i2⟩:=bNp (m:=m) (f:=f) (λq hq=>h1 q (As _ hq)) (λq hq=>h2 q (As _ hq)) h3;have hp1:=h1 p (Av ..);have hp2:=pE h3 (h2 p (Av ..));rw[pC]at hp2;show((if p.1=f.1 then mulR f.2 p.2 else[])++apP m f).length<=_/\Bnd _ ((if p.1=f.1 then mulR f.2 p.2 else[])++apP m f);rw[Al,AH,C4];split
  ·exact⟨by rw[yV];omega,hp2.app i2⟩
  ·exact⟨by simp only[Bo];omega,i2⟩
def bNq{h g:Nat}{m:List (Int×Ch)}(hm:SzM h m):∀{x:Ch},Bnd (2^g) x->(apL m x).length<=x.length*10000/\Bnd (2^(g+h)) (apL m x)
 |[],_=>⟨Ak _,Bnd.nil _⟩
 |f::x,hx=>by
  obtain⟨i1,i2⟩:=bNq hm (x:=x) λy hy=>hx y (As _ hy)
  obtain⟨j1,j2⟩:=bNp (f:=f) hm.bl hm.bb (hx f (Av ..));have:=hm.len;have h2:m.length*100<=10000:=by omega
  show(apP m f++apL m x).length<=_/\Bnd _ (apP m f++apL m x);rw[Al,AH,C4];exact⟨by omega,j2.app i2⟩
structure CmT(a b:List Cl)(m:List (Int×Ch)):Prop where
 len:m.length=a.length
 id:∀(i:Nat) x p,a[i]? = some x->m[i]? = some p->p.1=x.id
 key:∀(i:Nat) x p,a[i]? = some x->m[i]? = some p->∀f∈p.2,∃y,bG b f.1=some y/\y.dim=x.dim
 bd:∀(i:Nat) x p,a[i]? = some x->m[i]? = some p->bdX b p.2=apX m x.b
def bQn{c:List Cl}{x:Cl}{e f:Nat}(hc:SzX e c)(hcv:∀y∈c,Val y.b)(hxv:Val x.b)(hxl:x.b.length<=100)(hxb:Bnd (2^f) x.b)(hd:0<=x.dim/\x.dim<=3)(hk:∀g∈x.b,∃y,bG c g.1=some y/\y.dim=x.dim-1)(hz:bdX c x.b=[])
  (hef:e+f+20<4398046511104):Spec Aa 45 [aE c,.ag (aN x)] (.i .i64 0):=by
 have hcl:=hc.len
 refine bF (N:=73) Tryz.func45 ?_
 have hV:=qO x.b (hxb.sz (by omega)) (by omega)
 rw[xD hxv]at hV
 have hA:=aIv hcv hc hxl hxb (by omega)
 rw[hz]at hA
 simp[-O,-X,↓KW,aE,aR,aC,aA,aB]
 refine aJ hV ?_
 simp[-O,-X,↓KW,aE]
 refine aP (λj:Nat=>j<=x.b.length) (λj=>StL [(0,.d (aE c)),(3,.ptr 1 0),(5,.d (.i .i64 (j:Int)))] none [.cells 40 [.d (.i .i64 x.id),.d (.i .i64 x.dim),.d (aK x.b)]]) (λj=>x.b.length-j) 0 (Ak _) ?_ ?_
 ·refine wkQ [1] ?_ ?_<;>simp[-O,upd,aO,Γ0,aE]
 ·intro j hj
  by_cases hgo2:j<x.b.length
  ·have q2:(j:Int)<x.b.length:=by omega
   have hf:x.b[j]? = some x.b[j]:=Ab hgo2
   have hw2:Ag.wrap ((j:Int)+1)=(j:Int)+1:=aV
   obtain⟨z,hzf,hzd⟩:=hk _ (Ar hgo2)
   refine exE x.b[j] λu hue=>?_
   rw[hue]at hf hzf
   obtain⟨n2,v2⟩:=u
   simp only at hzf
   have hF:=gC c n2 (by omega)
   unfold oP at hF
   rw[hzf]at hF
   simp only[Bc,E8]at hF
   simp[-O,-X,↓KW,aE,aK,q2,hf,bE,aF,aD,aG]
   refine aJ hF ?_
   simp[-O,-X,↓KW,aE,aR,hw2,aC,aA,aB]
   refine aI (j+1) hgo2 (AF hgo2 (AK _)) (wkQ [1] ?_ ?_)<;>simp[-O,upd,aO,Γ0,aE,aK]
  ·have q2:¬(j:Int)<x.b.length:=by omega
   have d1:¬x.dim<0:=by omega
   have d2:¬3<x.dim:=by omega
   simp[-O,-X,↓KW,aE,aK,q2,d1,d2]
   refine aP (λj:Nat=>j<=x.b.length) (λj=>StL [(0,.d (aE c)),(3,.ptr 1 0),(8,.d (.i .i64 (j:Int)))] none [.cells 40 [.d (.i .i64 x.id),.d (.i .i64 x.dim),.d (aK x.b)]]) (λj=>x.b.length-j) 0 (Ak _) ?_ ?_
   ·refine wkQ [1] ?_ ?_<;>simp[-O,upd,aO,Γ0,aE,aK]
   ·clear hgo2 q2 hj j
    intro j hj
    by_cases hgo2:j<x.b.length
    ·have q2:(j:Int)<x.b.length:=by omega
     have hf:x.b[j]? = some x.b[j]:=Ab hgo2
     have hw2:Ag.wrap ((j:Int)+1)=(j:Int)+1:=aV
     have hw3:Ag.wrap (x.dim-1)=x.dim-1:=aV
     obtain⟨z,hzf,hzd⟩:=hk _ (Ar hgo2)
     refine exE x.b[j] λu hue=>?_
     rw[hue]at hf hzf
     obtain⟨n2,v2⟩:=u
     simp only at hzf
     have hF:=gC c n2 (by omega)
     unfold oP at hF
     rw[hzf]at hF
     simp only[Bc,E8]at hF
     have q4:((x.dim-1 != x.dim-1):Bool)=false:=by simp
     simp[-O,-X,↓KW,aE,aK,q2,hf,bE,aF,aD,aG]
     refine aJ hF ?_
     simp[-O,-X,↓KW,aE,aK,aR,hw2,hw3,hzd,q4,aC,aA,aB]
     refine aI (j+1) hgo2 (AF hgo2 (AK _)) (wkQ [1] ?_ ?_)<;>simp[-O,upd,aO,Γ0,aE,aK]
    ·have q2:¬(j:Int)<x.b.length:=by omega
     simp[-O,-X,↓KW,aE,aK,q2]
     refine aJ hA ?_
     simp[-O,-X,↓KW,aE,aK]
def CxV.bd0{c:List Cl}(h:CxV c){x:Cl}(hx:x∈c):bdX c x.b=[]:=by
 obtain⟨h1,h2⟩:=aNg c x.b;refine h1.ext Val.nil λn=>?_
 rw[h2,gX];exact h.cyc x hx n
def bHr{c:List Cl}{e:Nat}(h:CxV c)(hc:SzX e c)(he:e+e+20<4398046511104):Spec Aa 19 [aE c] (.b true):=by
 have hcl:=hc.len;refine bF (N:=52) Tryz.func19 ?_;have q0:¬(400:Int)<c.length:=by omega
 simp[-O,-X,↓KW,aE,q0];refine aP (λi:Nat=>i<=c.length) (λi=>StL [(0,.d (aE c)),(3,.d (.i .i64 (i:Int)))] none []) (λi=>c.length-i) 0 (Ak _) ?_ ?_
 ·refine wkQ [] ?_ ?_<;>simp[-O,upd,aO,Γ0,aE]
 ·intro i hi;by_cases hgo:i<c.length
  ·have q1:(i:Int)<c.length:=by omega
   have hx:c[i]? = some c[i]:=Ab hgo;have hw:Ag.wrap ((i:Int)+1)=(i:Int)+1:=aV;have hxv:=h.val _ (Ar hgo);have hxb:=hc.bb _ (Ar hgo);have hxl:=hc.bl _ (Ar hgo);have hprev:∀(j:Nat) (hj:j<c.length),j<i->c[j].id<c[i].id:=λj hj hji=>(BA.1 h.inc) j i hj hgo hji
   refine exE c[i] λx hxe=>?_
   rw[hxe]at hx hxv hxb hxl;simp only[hxe]at hprev;have hV:=qO x.b (hxb.sz (by omega)) (by omega);rw[xD hxv]at hV;have hyc:aN x=[D.i .i64 x.id,.i .i64 x.dim,aK x.b]:=rfl;rcases i with _|i
   ·have hw0:Ag.wrap 1=1:=aV;have hxe':∀h:0<c.length,c[0]'h=x:=λ_=>hxe
    simp[-O,-X,↓KW,aE,hgo,hx,hxe',hyc,aC,aA,aB];refine aJ hV ?_;simp[-O,-X,↓KW,aE,hw0];refine aI (0+1) hgo (slQ hgo) (wkQ [] ?_ ?_)<;>simp[-O,upd,aO,Γ0,aE]
   ·have hgp:i<c.length:=by omega
    have hp:c[i]? = some c[i]:=Ab hgp;have hlt:=hprev i hgp (by omega);have q3:(0:Int)<((i+1:Nat):Int):=by omega
    have hw2:Ag.wrap (((i+1:Nat):Int)-1)=(i:Int):=by rw[aV];omega
    refine exE c[i] λy hye=>?_
    rw[hye]at hp hlt;have hyc2:aN y=[D.i .i64 y.id,.i .i64 y.dim,aK y.b]:=rfl;have q4:¬x.id<=y.id:=by omega
    have q5:(0:Int)<=(i:Int):=by omega
    have hw':Ag.wrap (((i+1:Nat):Int)+1)=((i+1+1:Nat):Int):=by rw[aV];omega
    obtain⟨I,hI⟩:∃I:Int,((i+1:Nat):Int)=I:=⟨_,rfl⟩;have hIt:I.toNat=i+1:=by omega
    have q6:0<=I:=by omega
    rw[hI]at q1 q3 hw2 hw';simp only[hI];simp[-O,-X,↓KW,aE,q1,q3,hIt,q6,hw2,q5,hx,hp,hyc,hyc2,q4,aC,aA,aB];refine aJ hV ?_;simp[-O,-X,↓KW,aE,hw'];refine aI (i+1+1) hgo (slQ hgo) (wkQ [] ?_ ?_)<;>simp[-O,upd,aO,Γ0,aE]
  ·have q1:¬(i:Int)<c.length:=by omega
   simp[-O,-X,↓KW,aE,q1];refine aP (λi:Nat=>i<=c.length) (λi=>StL [(0,.d (aE c)),(4,.d (.i .i64 (i:Int)))] none []) (λi=>c.length-i) 0 (Ak _) ?_ ?_
   ·refine wkQ [] ?_ ?_<;>simp[-O,upd,aO,Γ0,aE]
   ·clear hgo q1 hi i;intro i hi;by_cases hgo:i<c.length
    ·have q1:(i:Int)<c.length:=by omega
     have hx:c[i]? = some c[i]:=Ab hgo;have hw:Ag.wrap ((i:Int)+1)=(i:Int)+1:=aV;have hF:=bQn (x:=c[i]) hc h.val (h.val _ (Ar hgo)) (hc.bl _ (Ar hgo)) (hc.bb _ (Ar hgo)) (h.dim _ (Ar hgo)) (λg hg=>by
      obtain⟨y,hy,e1,e2⟩:=h.face _ (Ar hgo) g hg;exact⟨y,by rw[<-e1];exact h.inc.find hy,e2⟩) (h.bd0 (Ar hgo)) he
     refine exE c[i] λx hxe=>?_
     rw[hxe]at hx hF;have hyc:aN x=[D.i .i64 x.id,.i .i64 x.dim,aK x.b]:=rfl;simp[-O,-X,↓KW,aE,q1,hx,hyc,aC,aA,aB];refine aJ hF ?_;simp[-O,-X,↓KW,aE,hw];refine aI (i+1) hgo (slQ hgo) (wkQ [] ?_ ?_)<;>simp[-O,upd,aO,Γ0,aE]
    ·have q1:¬(i:Int)<c.length:=by omega
     simp[-O,-X,↓KW,aE,q1]
def zA{l:Ch}{e:Nat}(hb:Bnd (2^e) l)(hk:Keys l)(hl:l.length<=16384)(he:e+14<4398046511104):Spec Aa 168 [aK l] (aK (cE [] l)):=by have:=aWi l (2^e) (uL (e:=14+e) (tQ (An hl (by decide))) (by omega)) hb hk (by omega);rwa [bSc]at this
def bXd:gQ Aa 166:=aEr Tryz.func166 (by kernel_rfl) rfl rfl rfl
def gr2(t1 t2:Nat)(sl:List (Nat×AV))(zb:HO)(e1:TypeId)(s1 n1:Nat)(c1:List D)(e2:TypeId)(s2 n2:Nat)(c2:List D):St:=match n1,n2 with
 |0,0=>StL ((t1,.nil)::(t2,.nil)::sl) none [zb]
 |0,n+1=>StL ((t1,.nil)::(t2,.own 2 0 (n+1) s2)::sl) none [zb,.cells e2 (c2.map .d)]
 |m+1,0=>StL ((t1,.own 2 0 (m+1) s1)::(t2,.nil)::sl) none [zb,.cells e1 (c1.map .d)]
 |m+1,n+1=>StL ((t1,.own 2 0 (m+1) s1)::(t2,.own 3 0 (n+1) s2)::sl) none [zb,.cells e1 (c1.map .d),.cells e2 (c2.map .d)]
def dD(x:Int×Int):(eL x).length=3:=rfl
def jV(x:Int×Int):((eL x).map AV.d).all one=true:=rfl
def aX(x:Cl):(aN x).length=3:=rfl
def eR(x:Cl):((aN x).map AV.d).all one=true:=rfl
def hJ(a b:Int)(f:Int×Int):Int×Int:=if f.1=b then(a,f.2)else f
def tC(a b:Int)(z:Cl):Cl:=⟨z.id,z.dim,cE [] (z.b.map (hJ a b))⟩
def nT(c:List Cl)(a b:Int):List Cl:=(c.filter λz=>!decide (z.id=b)).map (tC a b)
def aRx(c:List Cl)(a b:Int):List Cl×List (Int×Ch)×Int :=
 if(bG c a).isSome=false\/(bG c b).isSome=false then([],[],250)else if dOf c a≠dOf c b then([],[],260)else if a=b\/bOf c a≠bOf c b then([],[],310)else(nT c a b,eF c [(b,[(a,1)])],0)
def fU(r:List Cl×List (Int×Ch)×Int):D:=.tp [aE r.1,dI r.2.1,.i .i64 r.2.2]
def aPn{a b:Int}{M:Nat}{l:Ch}(h:Bnd M l):Bnd M (l.map (hJ a b)):=λx hx=>by obtain⟨y,hy,rfl⟩:=AA.1 hx;unfold hJ;split<;>exact h y hy
def aIr{a b:Int}{l:Ch}(h:Keys l)(ha:inr a=true):Keys (l.map (hJ a b)):=λx hx=>by
 obtain⟨y,hy,rfl⟩:=AA.1 hx;unfold hJ;split
 ·exact ha
 ·exact h y hy
def iU(H : Hp)(n id : Nat) : vis H (n + 1) (.mp id) = match H id with
      |some (.map _ es)=>id::(es.map (·.2)).flatMap (vis H n)
      |_=>[]:=rfl
def cY(m:List (Int×Ch)):inj (dI m)=.d (dI m):=rfl
def bZ(H:Hp)(avs:List AV)(m:List (Int×Ch)):bR H avs (dI m)=fK H avs:=rfl
def dW(n:Int)(v:AV):rZ [] n v=[(n,v)]:=rfl
def bDk{c:List Cl}{i:Nat}(h:i<c.length)(a b:Int):nT (c.take (i+1)) a b=nT (c.take i) a b++if c[i].id=b then[]else[tC a b c[i]]:=by unfold nT;rw[AM,Ab h,BO,Bt];congr 1;by_cases e:c[i].id=b<;>simp[e]
def aRy(c:List Cl)(a b:Int):(nT c a b).length<=c.length:=by unfold nT;rw[AL];exact Ct _ _
def aVg{c:List Cl}{e:Nat}(a b:Int)(hc:Inc c)(hz:SzX e c)(hk:∀x∈c,Keys x.b)(ha:inr a=true)(he:e+14<4398046511104):Spec Aa 165 [aE c,.i .i64 a,.i .i64 b] (fU (aRx c a b)):=by
 have hlen:=hz.len;have hFa:=sM hc a (by omega);have hFb:=sM hc b (by omega);have hr:∃p x q y,(bG c a).isSome=p/\(bG c a).getD lA=x/\(bG c b).isSome=q/\(bG c b).getD lA=y:=⟨_,_,_,_,rfl,rfl,rfl,rfl⟩;obtain⟨p,x,q,y,hp,hx,hq,hy⟩:=hr;have hda:dOf c a=x.dim:=by unfold dOf;rw[hx]
 have hdb:dOf c b=y.dim:=by unfold dOf;rw[hy]
 have hba:bOf c a=x.b:=by unfold bOf;rw[hx]
 have hbb:bOf c b=y.b:=by unfold bOf;rw[hy]
 have hxl:x.b.length<=100:=by rw[<-hba];exact nM hz.bl a
 have hxs:∀f∈x.b,Sz f.2:=by rw[<-hba];exact(mI hz.bb a).sz (by omega)
 have hys:∀f∈y.b,Sz f.2:=by rw[<-hbb];exact(mI hz.bb b).sz (by omega)
 have hE:=bRx hxs hys (by omega);unfold oP at hFa hFb;rw[hp,hx]at hFa;rw[hq,hy]at hFb;unfold aRx;rw[hp,hq,hda,hdb,hba,hbb];refine qL (N:=100) Tryz.func165 bXd ?_;simp[-O,-X,↓KW,aE];refine aJ hFa ?_;simp[-O,-X,↓KW,aE,aR,aC,aA,aB];refine aJ hFb ?_;cases p with
 |false=>simp[-O,-X,↓KW,aE,aR,aC,aA,aB,eW,fU,dI]
 |true =>
  cases q with
  |false=>simp[-O,-X,↓KW,aE,aR,aC,aA,aB,eW,fU,dI]
  |true =>
   by_cases h1:x.dim=y.dim
   rotate_left
   ·have h1':((x.dim != y.dim):Bool)=true:=by simpa using h1
    simp[-O,-X,↓KW,aE,aR,aC,aA,aB,eW,fU,dI,h1',h1]
   ·have h1':((x.dim != y.dim):Bool)=false:=by simpa using h1
    by_cases h2:a=b
    ·have h2':((a==b):Bool)=true:=by simpa using h2
     simp[-O,-X,↓KW,aE,aR,aC,aA,aB,eW,fU,dI,h1',h1,h2',h2]
    ·have h2':((a==b):Bool)=false:=by simpa using h2
     simp[-O,-X,↓KW,aE,aR,aC,aA,aB,eW,fU,dI,h1',h1,h2',h2];refine aJ hE ?_;by_cases h3:x.b=y.b
     rotate_left
     ·rw[Br h3];simp[-O,-X,↓KW,aE,aR,aC,aA,aB,eW,fU,dI,h1',h1,h2',h2,h3]
     ·rw[BD h3];simp[-O,-X,↓KW,aE,aR,aC,aA,aB,eW,fU,dI,h1',h1,h2',h2,h3];clear hFa hFb hE hp hq hx hy hda hdb hba hbb hxl hxs hys h1' h2';refine aP (λy:Nat×List Cl=>y.1<=c.length/\nT (c.take y.1) a b=y.2) (λy=>grS 13 [(0,.d (aE c)),(1,.d (.i .i64 a)),(2,.d (.i .i64 b)),(53,.d (aE c)),(54,.d (.i .i64 c.length)),(55,.d (.i .i64 (y.1:Int)))] 40 3 y.2.length (flt aN y.2)) (λy=>c.length-y.1) (0,[]) ⟨Ak _,rfl⟩ ?_ ?_
      ·simp only[Bo,grS];refine wkQ [] ?_ ?_<;>simp[-O,upd,aO,Γ0,aE,dY]
      ·rintro⟨i,out⟩ ⟨hi,ho⟩;simp only at hi ho ⊢;by_cases hgo:i<c.length
       ·have q1:(i:Int)<c.length:=by omega
        have hx:c[i]? = some c[i]:=Ab hgo;have hw:Ag.wrap ((i:Int)+1)=(i:Int)+1:=aV;have htk:=bDk hgo a b;rw[ho]at htk;have hln:out.length<=i:=by rw[<-ho];exact An (aRy _ _ _) (by simp;omega)
        have hzl:=hz.bl _ (Ar hgo);have hzb:=hz.bb _ (Ar hgo);have hzk:=hk _ (Ar hgo);refine exE c[i] λz hze=>?_
        rw[hze]at hx htk hzl hzb hzk;have hyc:aN z=[D.i .i64 z.id,.i .i64 z.dim,aK z.b]:=rfl;by_cases h0:z.id=b
        ·have h0':((z.id==b):Bool)=true:=by simpa using h0
         rw[Ae h0,AX]at htk;have q3:(((b:Int)==(b:Int)):Bool)=true:=by simp
         rcases hn:out.length with _|m
         ·simp only[hn,grS];simp[-O,-X,↓KW,aE,q1,hx,hyc,h0,h0',q3,hw,aC,aA,aB];refine aI (i+1,out) ⟨hgo,htk⟩ (slQ hgo) ?_;simp only[hn,grS];refine wkQ [] ?_ ?_<;>simp[-O,upd,aO,Γ0,aE,dY]
         ·simp only[hn,grS];simp[-O,-X,↓KW,aE,q1,hx,hyc,h0,h0',q3,hw,aC,aA,aB];refine aI (i+1,out) ⟨hgo,htk⟩ (slQ hgo) ?_;simp only[hn,grS];refine wkQ [1] ?_ ?_<;>simp[-O,upd,aO,Γ0,aE,dY]
        ·have h0':((z.id==b):Bool)=false:=by simpa using h0
         rw[Ac h0]at htk;rcases hn:out.length with _|m
         ·simp only[hn,grS];simp[-O,-X,↓KW,aE,aK,q1,hx,hyc,h0,h0',hw,aC,aA,aB];refine aP (λy:Nat×Ch=>y.1<=z.b.length/\y.2.length=y.1/\(z.b.take y.1).map (hJ a b)=y.2) (λy=>gr2 13 16 [(0,.d (aE c)),(1,.d (.i .i64 a)),(2,.d (.i .i64 b)),(15,.ptr 1 0),(53,.d (aE c)),(54,.d (.i .i64 c.length)),(55,.d (.i .i64 (i:Int))),(64,.d (aK z.b)),(65,.d (.i .i64 z.b.length)),(66,.d (.i .i64 (y.1:Int)))] (.cells 40 [.d (.i .i64 z.id),.d (.i .i64 z.dim),.d (aK z.b)]) 40 3 out.length (flt aN out) 75 3 y.2.length (flt eL y.2)) (λy=>z.b.length-y.1) (0,[]) ⟨Ak _,rfl,rfl⟩ ?_ ?_
          ·simp only[Bo,hn,gr2];refine wkQ [1] ?_ ?_<;>simp[-O,upd,aO,Γ0,aE,aK,dY]
          ·rintro⟨j,l⟩ ⟨hj,hlj,hl⟩;simp only at hj hlj hl ⊢;by_cases hgo2:j<z.b.length
           ·have q2:(j:Int)<z.b.length:=by omega
            have hf:z.b[j]? = some z.b[j]:=Ab hgo2;have hw2:Ag.wrap ((j:Int)+1)=(j:Int)+1:=aV;have htk2:(z.b.take (j+1)).map (hJ a b)=l++[hJ a b z.b[j]]:=by rw[AM,hf,Bt,hl];rfl
            refine exE z.b[j] λf hfe=>?_
            rw[hfe]at hf htk2;have hef:eL f=[.i .i64 f.1,.b (decide (f.2<0)),aM (aU f.2.natAbs)]:=rfl;have hm1:(1:Nat)<=maxLen:=aS (by decide);have hll:(l++[hJ a b f]).length=j+1:=by rw[Al,hlj];rfl
            by_cases h5:f.1=b
            ·have h5':((f.1==b):Bool)=true:=by simpa using h5
             have q3:(((b:Int)==(b:Int)):Bool)=true:=by simp
             have hrf:hJ a b f=(a,f.2):=by unfold hJ;rw[Ae h5]
             rcases hn2:l.length with _|k
             ·have e0:l=[]:=AE hn2;simp only[hn,gr2];simp[-O,-X,↓KW,aE,aK,q2,hf,hef,h5,h5',q3,hw2,hm1,aC,aA,aB,aF,aD,aG];obtain rfl:j=0:=by omega
              refine aI (τ:=Nat×Ch) (0+1,l++[hJ a b f]) ⟨hgo2,hll,htk2⟩ (AF hgo2 (AK _)) ?_;simp only[hll,hn,gr2];refine wkQ [1,4] ?_ ?_<;>simp[-O,upd,aO,Γ0,aE,aK,e0,cF,bE,hrf]
             ·have hbb:=cG (n:=k+1) (by omega);have hcl:=bJ dD l;rw[hn2]at hcl;have hal:=dA jV l;simp only[hn,gr2];simp[-O,-X,↓KW,aE,aK,q2,hf,hef,h5,h5',q3,hw2,hm1,hbb,hcl,hal,aS,aC,aA,aB,aF,aD,aG];obtain rfl:j=k+1:=by omega
              refine aI (τ:=Nat×Ch) (k+1+1,l++[hJ a b f]) ⟨hgo2,hll,htk2⟩ (AF hgo2 (AK _)) ?_;simp only[hll,hn,gr2];refine wkQ [1,5] ?_ ?_<;>simp[-O,upd,aO,Γ0,aE,aK,cW,cF,bE,hrf]
            ·have h5':((f.1==b):Bool)=false:=by simpa using h5
             have hrf:hJ a b f=f:=by unfold hJ;rw[Ac h5]
             rcases hn2:l.length with _|k
             ·have e0:l=[]:=AE hn2;simp only[hn,gr2];simp[-O,-X,↓KW,aE,aK,q2,hf,hef,h5,h5',hw2,hm1,aC,aA,aB,aF,aD,aG];obtain rfl:j=0:=by omega
              refine aI (τ:=Nat×Ch) (0+1,l++[hJ a b f]) ⟨hgo2,hll,htk2⟩ (AF hgo2 (AK _)) ?_;simp only[hll,hn,gr2];refine wkQ [1,4] ?_ ?_<;>simp[-O,upd,aO,Γ0,aE,aK,e0,cF,bE,hrf]
             ·have hbb:=cG (n:=k+1) (by omega);have hcl:=bJ dD l;rw[hn2]at hcl;have hal:=dA jV l;simp only[hn,gr2];simp[-O,-X,↓KW,aE,aK,q2,hf,hef,h5,h5',hw2,hm1,hbb,hcl,hal,aS,aC,aA,aB,aF,aD,aG];obtain rfl:j=k+1:=by omega
              refine aI (τ:=Nat×Ch) (k+1+1,l++[hJ a b f]) ⟨hgo2,hll,htk2⟩ (AF hgo2 (AK _)) ?_;simp only[hll,hn,gr2];refine wkQ [1,5] ?_ ?_<;>simp[-O,upd,aO,Γ0,aE,aK,cW,cF,bE,hrf]
           ·have q2:¬(j:Int)<z.b.length:=by omega
            rw[Ai (by omega)]at hl;have hM:=zA (l:=l) (e:=e) (by rw[<-hl];exact aPn hzb) (by rw[<-hl];exact aIr hzk ha) (by omega) he;have htk':nT (c.take (i+1)) a b=out++[⟨z.id,z.dim,cE [] l⟩]:=by rw[htk];unfold tC;rw[hl]
            have hcl1:=bJ aX out;have hal1:=dA eR out;rw[hn]at hcl1;refine exE (cE [] l) λr hr=>?_
            rw[hr]at hM htk';have hm1:(1:Nat)<=maxLen:=aS (by decide);rcases hn2:l.length with _|k
            ·have e0:l=[]:=AE hn2;rw[e0]at hM;simp only[hn,gr2];simp[-O,-X,↓KW,aE,aK,q2,aC,aA,aB];refine aJ hM ?_;have eo:out=[]:=AE hn;rw[eo]at htk';simp[-O,-X,↓KW,aE,aK,hm1,hm1,hw,aQ,aT,aC,aA,aB];refine aI (i+1,[⟨z.id,z.dim,r⟩]) ⟨hgo,htk'⟩ (slQ hgo) ?_;simp only[Au,grS,cF,aR];refine wkQ [3] ?_ ?_<;>simp[-O,upd,aO,Γ0,aE,aK]
            ·have e1:=dH dD hn2;have e2:=cV (by decide) dD hn2;have e3:=bJ dD l;rw[hn2]at e3;simp only[hn,gr2];simp[-O,-X,↓KW,aE,aK,q2,aC,aA,aB];refine bK (ds:=[aK l]) (by simp[-O,-X,aK,upd,e1,e2,e3]) hM ?_;have eo:out=[]:=AE hn;rw[eo]at htk';simp[-O,-X,↓KW,aE,aK,e1,hm1,hw,aQ,aT,aC,aA,aB];refine aI (i+1,[⟨z.id,z.dim,r⟩]) ⟨hgo,htk'⟩ (slQ hgo) ?_;simp only[Au,grS,cF,aR];refine wkQ [4] ?_ ?_<;>simp[-O,upd,aO,Γ0,aE,aK]
         ·simp only[hn,grS];simp[-O,-X,↓KW,aE,aK,q1,hx,hyc,h0,h0',hw,aC,aA,aB];refine aP (λy:Nat×Ch=>y.1<=z.b.length/\y.2.length=y.1/\(z.b.take y.1).map (hJ a b)=y.2) (λy=>gr2 13 16 [(0,.d (aE c)),(1,.d (.i .i64 a)),(2,.d (.i .i64 b)),(15,.ptr 1 0),(53,.d (aE c)),(54,.d (.i .i64 c.length)),(55,.d (.i .i64 (i:Int))),(64,.d (aK z.b)),(65,.d (.i .i64 z.b.length)),(66,.d (.i .i64 (y.1:Int)))] (.cells 40 [.d (.i .i64 z.id),.d (.i .i64 z.dim),.d (aK z.b)]) 40 3 out.length (flt aN out) 75 3 y.2.length (flt eL y.2)) (λy=>z.b.length-y.1) (0,[]) ⟨Ak _,rfl,rfl⟩ ?_ ?_
          ·simp only[Bo,hn,gr2];refine wkQ [2,1] ?_ ?_<;>simp[-O,upd,aO,Γ0,aE,aK,dY]
          ·rintro⟨j,l⟩ ⟨hj,hlj,hl⟩;simp only at hj hlj hl ⊢;by_cases hgo2:j<z.b.length
           ·have q2:(j:Int)<z.b.length:=by omega
            have hf:z.b[j]? = some z.b[j]:=Ab hgo2;have hw2:Ag.wrap ((j:Int)+1)=(j:Int)+1:=aV;have htk2:(z.b.take (j+1)).map (hJ a b)=l++[hJ a b z.b[j]]:=by rw[AM,hf,Bt,hl];rfl
            refine exE z.b[j] λf hfe=>?_
            rw[hfe]at hf htk2;have hef:eL f=[.i .i64 f.1,.b (decide (f.2<0)),aM (aU f.2.natAbs)]:=rfl;have hm1:(1:Nat)<=maxLen:=aS (by decide);have hll:(l++[hJ a b f]).length=j+1:=by rw[Al,hlj];rfl
            by_cases h5:f.1=b
            ·have h5':((f.1==b):Bool)=true:=by simpa using h5
             have q3:(((b:Int)==(b:Int)):Bool)=true:=by simp
             have hrf:hJ a b f=(a,f.2):=by unfold hJ;rw[Ae h5]
             rcases hn2:l.length with _|k
             ·have e0:l=[]:=AE hn2;simp only[hn,gr2];simp[-O,-X,↓KW,aE,aK,q2,hf,hef,h5,h5',q3,hw2,hm1,aC,aA,aB,aF,aD,aG];obtain rfl:j=0:=by omega
              refine aI (τ:=Nat×Ch) (0+1,l++[hJ a b f]) ⟨hgo2,hll,htk2⟩ (AF hgo2 (AK _)) ?_;simp only[hll,hn,gr2];refine wkQ [1,2,5] ?_ ?_<;>simp[-O,upd,aO,Γ0,aE,aK,e0,cF,bE,hrf]
             ·have hbb:=cG (n:=k+1) (by omega);have hcl:=bJ dD l;rw[hn2]at hcl;have hal:=dA jV l;simp only[hn,gr2];simp[-O,-X,↓KW,aE,aK,q2,hf,hef,h5,h5',q3,hw2,hm1,hbb,hcl,hal,aS,aC,aA,aB,aF,aD,aG];obtain rfl:j=k+1:=by omega
              refine aI (τ:=Nat×Ch) (k+1+1,l++[hJ a b f]) ⟨hgo2,hll,htk2⟩ (AF hgo2 (AK _)) ?_;simp only[hll,hn,gr2];refine wkQ [1,2,6] ?_ ?_<;>simp[-O,upd,aO,Γ0,aE,aK,cW,cF,bE,hrf]
            ·have h5':((f.1==b):Bool)=false:=by simpa using h5
             have hrf:hJ a b f=f:=by unfold hJ;rw[Ac h5]
             rcases hn2:l.length with _|k
             ·have e0:l=[]:=AE hn2;simp only[hn,gr2];simp[-O,-X,↓KW,aE,aK,q2,hf,hef,h5,h5',hw2,hm1,aC,aA,aB,aF,aD,aG];obtain rfl:j=0:=by omega
              refine aI (τ:=Nat×Ch) (0+1,l++[hJ a b f]) ⟨hgo2,hll,htk2⟩ (AF hgo2 (AK _)) ?_;simp only[hll,hn,gr2];refine wkQ [1,2,5] ?_ ?_<;>simp[-O,upd,aO,Γ0,aE,aK,e0,cF,bE,hrf]
             ·have hbb:=cG (n:=k+1) (by omega);have hcl:=bJ dD l;rw[hn2]at hcl;have hal:=dA jV l;simp only[hn,gr2];simp[-O,-X,↓KW,aE,aK,q2,hf,hef,h5,h5',hw2,hm1,hbb,hcl,hal,aS,aC,aA,aB,aF,aD,aG];obtain rfl:j=k+1:=by omega
              refine aI (τ:=Nat×Ch) (k+1+1,l++[hJ a b f]) ⟨hgo2,hll,htk2⟩ (AF hgo2 (AK _)) ?_;simp only[hll,hn,gr2];refine wkQ [1,2,6] ?_ ?_<;>simp[-O,upd,aO,Γ0,aE,aK,cW,cF,bE,hrf]
           ·have q2:¬(j:Int)<z.b.length:=by omega
            rw[Ai (by omega)]at hl;have hM:=zA (l:=l) (e:=e) (by rw[<-hl];exact aPn hzb) (by rw[<-hl];exact aIr hzk ha) (by omega) he;have htk':nT (c.take (i+1)) a b=out++[⟨z.id,z.dim,cE [] l⟩]:=by rw[htk];unfold tC;rw[hl]
            have hcl1:=bJ aX out;have hal1:=dA eR out;rw[hn]at hcl1;refine exE (cE [] l) λr hr=>?_
            rw[hr]at hM htk';have hm1:(1:Nat)<=maxLen:=aS (by decide);rcases hn2:l.length with _|k
            ·have e0:l=[]:=AE hn2;rw[e0]at hM;simp only[hn,gr2];simp[-O,-X,↓KW,aE,aK,q2,aC,aA,aB];refine aJ hM ?_;have hbb:=cG (n:=m+1) (by omega);simp[-O,-X,↓KW,aE,aK,hm1,hm1,hw,hbb,hcl1,hal1,aS,aQ,aT,aC,aA,aB];refine aI (i+1,out++[⟨z.id,z.dim,r⟩]) ⟨hgo,htk'⟩ (slQ hgo) ?_;simp only[Al,hn,Au,grS,cW,cF,aR];refine wkQ [4] ?_ ?_<;>simp[-O,upd,aO,Γ0,aE,aK]
            ·have e1:=dH dD hn2;have e2:=cV (by decide) dD hn2;have e3:=bJ dD l;rw[hn2]at e3;simp only[hn,gr2];simp[-O,-X,↓KW,aE,aK,q2,aC,aA,aB];refine bK (ds:=[aK l]) (by simp[-O,-X,aK,upd,e1,e2,e3]) hM ?_;have hbb:=cG (n:=m+1) (by omega);simp[-O,-X,↓KW,aE,aK,e1,hm1,hw,hbb,hcl1,hal1,aS,aQ,aT,aC,aA,aB];refine aI (i+1,out++[⟨z.id,z.dim,r⟩]) ⟨hgo,htk'⟩ (slQ hgo) ?_;simp only[Al,hn,Au,grS,cW,cF,aR];refine wkQ [5] ?_ ?_<;>simp[-O,upd,aO,Γ0,aE,aK]
       ·have q1:¬(i:Int)<c.length:=by omega
        rw[Ai (by omega)]at ho;have hSg:=yW a;have hMp:=oW c [(b,[(a,1)])] (aWb [(b,[(a,1)])]) rfl (aJu _) (by omega);rcases hn:out.length with _|m
        ·have e0:out=[]:=AE hn;have e1:out=[]:=e0;simp only[grS];simp[-O,-X,↓KW,aE,q1,cB,cH];refine aJ hSg ?_;simp[-O,-X,↓KW,aE,q1,cB,cH,dW,aQ,aT,aC,aA,aB];refine aJ hMp ?_;simp[-O,-X,↓KW,aE,q1,cB,cH,dW,e1,e0,aQ,aT,aC,aA,aB,cY,bZ,iU,eW,fU,h1,h2,h3,ho];rfl
        ·have e1:=dH aX hn;have e2:=cV (by decide) aX hn;have e3:=bJ aX out;rw[hn]at e3;simp only[grS];simp[-O,-X,↓KW,aE,q1,cB,cH];refine aJ hSg ?_;simp[-O,-X,↓KW,aE,q1,cB,cH,dW,aQ,aT,aC,aA,aB];refine aJ hMp ?_;simp[-O,-X,↓KW,aE,q1,cB,cH,dW,e1,hn,e2,e3,aQ,aT,aC,aA,aB,cY,bZ,iU,eW,fU,h1,h2,h3,ho];rfl
def aNi{g:List (Int×Ch)}:∀{c:List Cl} {y:Cl} {f:Int×Int},Inc c->y∈c->f.1=y.id->apP (eF c g) f=mulR f.2 ((mD g y.id).getD [(y.id,1)])
 |z::c,y,f,hi,hy,hf=>by
  obtain⟨h1,h2⟩:=Bj.1 hi;have hnone:∀{c:List Cl},(∀x∈c,x.id≠f.1)->apP (eF c g) f=[]:=by
   intro c hc;induction c with
   |nil=>rfl
   |cons u c ih =>
    show(if u.id=f.1 then _ else[])++apP (eF c g) f=[];rw[Ac (hc u (Av ..)),ih λx hx=>hc x (As _ hx)];rfl
  show(if z.id=f.1 then mulR f.2 ((mD g z.id).getD [(z.id,1)])else[])++apP (eF c g) f=_;rcases AG.1 hy with rfl|hy
  ·rw[Ae hf.symm,hnone λx hx=>by have:=h1 x hx;omega,AX]
  ·rw[Ac (by have:=h1 y hy;omega),BM,aNi h2 hy hf]
def bAk{g:List (Int×Ch)}{c:List Cl}(hi:Inc c)(r:Int->Int)(hr:∀y∈c,(mD g y.id).getD [(y.id,1)]=[(r y.id,1)]):∀{x:Ch},(∀f∈x,∃y∈c,y.id=f.1)->apL (eF c g) x=x.map λf=>(r f.1,f.2)
 |[],_=>rfl
 |f::x,h=>by obtain⟨y,hy,he⟩:=h f (Av ..);show apP (eF c g) f++apL (eF c g) x=_;rw[aNi hi hy he.symm,hr y hy,bAk hi r hr λf hf=>h f (As _ hf),he];simp[mulR]
def aDx(w:Int->Int)(r:Int->Int):∀l:Ch,bO w (l.map λf=>(r f.1,f.2))=bO (λn=>w (r n)) l
 |[]=>rfl
 |f::l=>by simp only[A0,bO,aDx w r l]
def CxV.wcyc{c:List Cl}(h:CxV c){x:Cl}(hx:x∈c)(w:Int->Int):bO (λm=>bO w (Go.Am.bOf c m)) x.b=0:=by rw[<-pB];have h1:=h.bd0 hx;have h2:bO w (bdX c x.b)=bO w []+bO w (bdL c x.b):=mR w _ _;rw[h1]at h2;simp only[bO]at h2;omega
def dR(w:Int->Int)(l:Ch):bO w (cE [] l)=bO w l:=by rw[mR];simp[bO]
def rn(a b n:Int):Int:=if n=b then a else n
def aCy(a b:Int):hJ a b=λf=>(rn a b f.1,f.2):=by funext f;unfold hJ rn;split<;>rfl
structure aNo(c:List Cl)(a b:Int):Prop where
 ne:a≠b
 ina:∃x∈c,x.id=a
 inb:∃x∈c,x.id=b
 dim:dOf c a=dOf c b
 bd:bOf c a=bOf c b
section
variable {c:List Cl} {a b:Int}
def mA{z:Cl}:z∈nT c a b↔∃y∈c,y.id≠b/\z=tC a b y:=by
 unfold nT;rw[AA];constructor
 ·rintro⟨y,hy,rfl⟩;obtain⟨h1,h2⟩:=Bh.1 hy;exact⟨y,h1,by simpa using h2,rfl⟩
 ·rintro⟨y,h1,h2,rfl⟩;exact⟨y,Bh.2 ⟨h1,by simpa using h2⟩,rfl⟩
def aRz(h:Inc c):Inc (nT c a b):=by unfold nT Inc;rw[CM];exact Df _ h
def bMa(h:Inc c){x:Cl}(hx:x∈c):dOf c x.id=x.dim:=by unfold dOf;rw[h.find hx];rfl
def aRw(h:Inc c){y:Cl}(hy:y∈c)(hn:y.id≠b):bG (nT c a b) y.id=some (tC a b y):=(aRz h).find (x:=tC a b y) (mA.2 ⟨y,hy,hn,rfl⟩)
def bTb(h:Inc c){y:Cl}(hy:y∈c)(hn:y.id≠b):bOf (nT c a b) y.id=cE [] (y.b.map (hJ a b)):=by unfold bOf;rw[aRw h hy hn];rfl
def aNo.rep(t:aNo c a b)(h:CxV c){y:Cl}(hy:y∈c):∃z∈c,z.id≠b/\z.id=rn a b y.id/\z.dim=y.dim/\z.b=y.b:=by
 by_cases e:y.id=b
 ·obtain⟨z,hz,hza⟩:=t.ina;refine⟨z,hz,by rw[hza];exact t.ne,by unfold rn;rw[Ae e];exact hza,?_,?_⟩
  ·have:=t.dim;rw[<-hza,<-e,bMa h.inc hz,bMa h.inc hy]at this;exact this
  ·have:=t.bd;rw[<-hza,<-e,h.bOf hz,h.bOf hy]at this;exact this
 ·exact⟨y,hy,e,by unfold rn;rw[Ac e],rfl,rfl⟩
def aNo.bOf(t:aNo c a b)(h:CxV c){y:Cl}(hy:y∈c):Go.Am.bOf (nT c a b) (rn a b y.id)=cE [] (y.b.map (hJ a b)):=by obtain⟨z,hz,h1,h2,_,h4⟩:=t.rep h hy;rw[<-h2,bTb h.inc hz h1,h4]
def aNo.valid(t:aNo c a b)(h:CxV c):CxV (nT c a b):=by
 refine⟨aRz h.inc,λz hz=>?_,λz hz=>?_,λz hz f hf=>?_,λz hz n=>?_⟩
 ·obtain⟨y,hy,_,rfl⟩:=mA.1 hz;exact h.dim y hy
 ·obtain⟨y,hy,_,rfl⟩:=mA.1 hz;exact(cR _ [] Val.nil).1
 ·obtain⟨y,hy,_,rfl⟩:=mA.1 hz;obtain⟨h1,h2⟩:=cR (y.b.map (hJ a b)) [] Val.nil;have hf':f∈cE [] (y.b.map (hJ a b)):=hf;have e:=fJ h1 hf';rw[h2,gX,CD]at e;have hne:cf f.1 (y.b.map (hJ a b))≠0:=by rw[e];exact h1.2 f hf'
  obtain⟨g,hg,he⟩:∃g∈y.b,(hJ a b g).1=f.1:=A8 λhn=>hne (nK λx hx e=>by
   obtain⟨g,hg,rfl⟩:=AA.1 hx;exact hn ⟨g,hg,e⟩)
  obtain⟨u,hu,e1,e2⟩:=h.face y hy g hg;obtain⟨z,hz',k1,k2,k3,_⟩:=t.rep h hu;refine⟨tC a b z,mA.2 ⟨z,hz',k1,rfl⟩,?_,?_⟩
  ·show z.id=f.1;rw[k2,e1,<-he,aCy]
  ·show z.dim=y.dim-1;rw[k3,e2]
 ·obtain⟨y,hy,_,rfl⟩:=mA.1 hz;show bO (λm=>cf n (Go.Am.bOf (nT c a b) m)) (cE [] (y.b.map (hJ a b)))=0;rw[dR,aCy,aDx];refine F4 (eB λf hf=>?_) (h.wcyc hy λk=>if n=rn a b k then 1 else 0);obtain⟨u,hu,e1,_⟩:=h.face y hy f hf;rw[<-e1,t.bOf h hu,h.bOf hu,nJ,dR,aCy,aDx]
def aSh(a b n:Int):(mD [(b,[(a,1)])] n).getD [(n,1)]=[(rn a b n,1)]:=by
 unfold mD rn;by_cases e:n=b
 ·rw[Ae e];simp[e]
 ·rw[Ac e];have:¬b=n:=λh=>e h.symm
  simp[this]
def aNo.comm(t:aNo c a b)(h:CxV c):CmT c (nT c a b) (eF c [(b,[(a,1)])]):=by
 have hget:∀(i:Nat) x p,c[i]? = some x->(eF c [(b,[(a,1)])])[i]? = some p->p=(x.id,[(rn a b x.id,1)]):=λi x p hx hp=>by
  unfold eF at hp;rw[Aw,hx]at hp;injection hp with hp
  simp only[aSh]at hp;exact hp.symm
 refine⟨by simp[eF],λi x p hx hp=>by rw[hget i x p hx hp],λi x p hx hp f hf=>?_,λi x p hx hp=>?_⟩
 ·rw[hget i x p hx hp]at hf;have hf':f=(rn a b x.id,1):=by simpa using hf
  subst hf';obtain⟨z,hz,h1,h2,h3,_⟩:=t.rep h (Aq hx);exact⟨tC a b z,by rw[<-h2];exact aRw h.inc hz h1,h3⟩
 ·have hxc:=Aq hx;rw[hget i x p hx hp];obtain⟨z,hz,h1,h2,_,h4⟩:=t.rep h hxc;have e1:bdX (nT c a b) [(rn a b x.id,1)]=cE [] (x.b.map (hJ a b)):=by have:=bNe (t.valid h) (y:=tC a b z) (mA.2 ⟨z,hz,h1,rfl⟩);rw[<-h2];refine F4 this ?_;show cE [] (z.b.map (hJ a b))=_;rw[h4]
  rw[e1];unfold apX;rw[bAk h.inc (rn a b) (λy _=>aSh a b y.id) (λf hf=>let ⟨y,hy,e,_⟩:=h.face x hxc f hf;⟨y,hy,e⟩),aCy]
end
end Go.Am
end
section
open List renaming map_map->O,mapM_map->X
namespace Go.Am
open RowKit (Below)
section
variable {P:Program} {G:Ctx} {N:Nat} {ds:List Deferred}
end
def vH{hs:List HO}{rs:List Nat}{a id:Nat}(hid:(pW 1 hs id).isSome=true)(hl:hs.length<=rs.length)(h:a ∉ rs):aEp rs id≠a:=by
 rw[uQ]at hid;cases id with
 |zero=>simp at hid
 |succ i =>
  rw[Ae (by omega),A9]at hid;have hi:i<rs.length:=by
   rcases Bd i hs.length with h'|h'
   ·omega
   ·rw[AW h']at hid;cases hid
  show rs.getD i 0≠a;rw[aDm hi];exact λe=>h (e ▸ Ar hi)
end Go.Am
end
section
open List renaming map_map->O,mapM_map->X
open Go Go.Am Go.Proofs
namespace Go.Am
section
variable {c:List Cl} {x:Cl} {N:Int}
end
def iR{α:Type}(f:α->List D)(l:List α):((l.map f).map (AQ AV.d)).flatten=(flt f l).map AV.d:=by unfold flt;rw[DA]
def mX(m:List (Int×Ch)):aO (dI m)=.d (dI m):=rfl
end Go.Am
end
section
open List renaming map_map->O,mapM_map->X
namespace Go.Am
def enA{β:Type}(g:β->AV)(m:List (Int×β)):List (Int×AV):=m.map λp=>(p.1,g p.2)
def alk{β:Type}:List (Int×β)->Int->Option β
 |[],_=>none
 |p::m,n=>if p.1=n then some p.2 else alk m n
def apt{β:Type}:List (Int×β)->Int->β->List (Int×β)
 |[],n,v=>[(n,v)]
 |p::m,n,v=>if p.1=n then(n,v)::m else p::apt m n v
def vQ{β:Type}(g:β->AV)(n:Int):∀m:List (Int×β),rE (enA g m) n=(alk m n).map g
 |[]=>rfl
 |p::m=>by
  have ih:=vQ g n m;unfold rE at ih ⊢;simp only[enA,A0,iP,alk]at ih ⊢;by_cases h:p.1=n
  ·simp[h]
  ·rw[Ac h,Ac h,<-ih];cases iP n (m.map λp=>(p.1,g p.2))<;>rfl
def aFj{β:Type}(g:β->AV)(n:Int)(v:β):∀m:List (Int×β),rZ (enA g m) n (g v)=enA g (apt m n v)
 |[]=>rfl
 |p::m=>by
  have ih:=aFj g n v m;unfold rZ at ih ⊢;simp only[enA,A0,iP,apt]at ih ⊢;by_cases h:p.1=n
  ·simp[h]
  ·rw[Ac h,Ac h,A0,<-ih];cases iP n (m.map λp=>(p.1,g p.2))<;>rfl
def aDt{β:Type}(n k:Int)(v:β):∀m:List (Int×β),alk (apt m n v) k=if k=n then some v else alk m k
 |[]=>by
  simp only[apt,alk];by_cases h:k=n
  ·rw[Ae h,Ae h.symm]
  ·rw[Ac h,Ac (Ne.symm h)]
 |p::m=>by
  have ih:=aDt n k v m;simp only[apt,alk];by_cases h:p.1=n
  ·rw[Ae h];simp only[alk];by_cases hk:k=n
   ·rw[Ae hk.symm,Ae hk]
   ·rw[Ac (Ne.symm hk),Ac hk,Ac (by omega)]
  ·rw[Ac h];simp only[alk,ih];by_cases hp:p.1=k
   ·rw[Ae hp,Ae hp,Ac (by omega)]
   ·rw[Ac hp,Ac hp]
def aTe{β:Type}(n:Int)(v:β):∀(m:List (Int×β)) (k:Int),k∈(apt m n v).map (·.1)↔k∈m.map (·.1)\/k=n
 |[],k=>by simp[apt]
 |p::m,k=>by
  have ih:=aTe n v m k;simp only[apt];split
  ·rename_i h;simp only[A0,AG];constructor
   ·rintro(h1|h1)
    ·exact .inr h1
    ·exact .inl (.inr h1)
   ·rintro((h1|h1)|h1)
    ·exact .inl (by omega)
    ·exact .inr h1
    ·exact .inl h1
  ·simp only[A0,AG,ih];constructor
   ·rintro(h1|h1|h1)
    ·exact .inl (.inl h1)
    ·exact .inl (.inr h1)
    ·exact .inr h1
   ·rintro((h1|h1)|h1)
    ·exact .inl h1
    ·exact .inr (.inl h1)
    ·exact .inr (.inr h1)
def aKt{β:Type}(n:Int)(v:β):∀{m:List (Int×β)},(m.map (·.1)).Nodup->((apt m n v).map (·.1)).Nodup
 |[],_=>by simp[apt]
 |p::m,h=>by
  simp only[A0,DJ]at h;simp only[apt];split
  ·rename_i e;simp only[A0,DJ];exact⟨by rw[<-e];exact h.1,h.2⟩
  ·rename_i e;simp only[A0,DJ];refine⟨λhm=>?_,aKt n v h.2⟩;rcases(aTe n v m p.1).1 hm with h1|h1
   ·exact h.1 h1
   ·exact e h1
def aNj{β:Type}{n:Int}{v:β}:∀{m:List (Int×β)},(m.map (·.1)).Nodup->(alk m n=some v↔(n,v)∈m)
 |[],_=>by simp[alk]
 |p::m,h=>by
  simp only[A0,DJ]at h;have ih:=aNj (n:=n) (v:=v) h.2;simp only[alk,AG];by_cases e:p.1=n
  ·rw[Ae e];constructor
   ·intro h1;injection h1 with h1;exact .inl (by rw[<-e,<-h1])
   ·rintro(h1|h1)
    ·rw[<-h1]
    ·exact absurd (AA.2 ⟨_,h1,rfl⟩) (by rw[e]at h;exact h.1)
  ·rw[Ac e,ih];constructor
   ·exact .inr
   ·rintro(h1|h1)
    ·rw[<-h1]at e;exact absurd rfl e
    ·exact h1
def aOx{β:Type}{g:β->D}{H H':Hp}{ρ:Nat->Nat}{m m':List (Int×β)}(h:m=m'):mY H H' ρ (.map .i64 (enA (λv=>.d (g v)) m)) (.map .i64 (enA (λv=>.d (g v)) m')):=by
 subst h;refine aEj λx hx=>?_
 obtain⟨p,_,rfl⟩:=AA.1 hx;exact bVh _
def yC{β:Type}{g:β->D}{H H':Hp}{ρ:Nat->Nat}(m:List (Int×β)):mY H H' ρ (.map .i64 (enA (λv=>.d (g v)) m)) (.map .i64 (enA (λv=>.d (g v)) m))↔True:=⟨λ_=>trivial,λ_=>aOx rfl⟩
def aEn{β:Type}(l:List Nat)(g:β->D)(m:List (Int×β)):fG l (.map .i64 (enA (λv=>.d (g v)) m))=.map .i64 (enA (λv=>.d (g v)) m):=by simp only[fG,enA,CC];congr 1
def bTf{β:Type}(g:β->D)(H:Hp)(n id:Nat)(m:List (Int×β))(h:H id=some (.map .i64 (enA (λv=>.d (g v)) m))):frz H (n+2) (.mp id)=some (.mp .i64 (m.map (·.1)) (m.map λp=>g p.2)):=by
 have e:∀m:List (Int×β),((enA (λv=>AV.d (g v)) m).map (·.2)).mapM (frz H (n+1))=some (m.map λp=>g p.2):=λm=>by
  induction m with
  |nil=>rfl
  |cons p m ih =>
   show(((enA (λv=>AV.d (g v)) (p::m)).map (·.2)).mapM (frz H (n+1)))=_;simp only[enA,A0,List.mapM_cons]at ih ⊢;rw[ih];rfl
 have e2:frz H (n+1+1) (.mp id)=match H id with
   |some (.map k es)=>((es.map λx:Int×AV=>x.2).mapM (frz H (n+1))).map (D.mp k (es.map λx:Int×AV=>x.1))
   |_=>none:=rfl
 rw[show n+2=n+1+1 from rfl,e2,h];simp only[e,A4];simp[enA]
def bKr{β:Type}(g:β->D)(hg:∀v,aO (g v)=.d (g v))(m:List (Int×β)):aHz (m.map (·.1)) (m.map λp=>g p.2)=enA (λv=>.d (g v)) m:=by
 unfold aHz enA;induction m with
 |nil=>rfl
 |cons p m ih=>simp only[A0,Er,ih,hg]
end Go.Am
end
section
open List renaming map_map->O,mapM_map->X
open Go Go.Am Go.Proofs
namespace Go.Am
def bXb:gQ Aa 211:=aEr Tryz.func211 (by kernel_rfl) rfl rfl rfl
def wZ(p:Int×Int):List D:=[.i .i64 p.1,.i .i64 p.2]
def fR(l:List (Int×Int)):D:=.sl (l.map wZ)
def lO(x:Int×Int):(wZ x).length=2:=rfl
def aKe(x:Int×Int):((wZ x).map AV.d).all one=true:=rfl
def aGl(x:Int×Int):wZ x=[.i .i64 x.1,.i .i64 x.2]:=rfl
def aIa(m:List (Int×Int))(n:Int):List (Int×Int):=apt m n ((alk m n).getD 0+1)
def lU(l:Ch)(m:List (Int×Int)):List (Int×Int):=l.foldl (λm f=>aIa m f.1) m
def tM(c:List Cl):List (Int×Int):=c.foldl (λm x=>lU x.b m) []
def sN(n:Int)(l:Ch):Nat:=l.countP λf=>decide (f.1=n)
def pV(n:Int):List Cl->Nat
 |[]=>0
 |x::c=>sN n x.b+pV n c
def aXe(m:List (Int×Int))(k:Int->Nat):Prop:=(m.map (·.1)).Nodup/\∀n,(alk m n).getD 0=(k n:Int)
def bTa{m:List (Int×Int)}{k:Int->Nat}(h:aXe m k)(n:Int):aXe (aIa m n) λq=>k q+if q=n then 1 else 0:=by
 refine⟨aKt _ _ h.1,λq=>?_⟩;unfold aIa;rw[aDt];by_cases e:q=n
 ·subst e;simp[h.2 q]
 ·simp[e,h.2 q]
def aOm:∀(l:Ch) {m:List (Int×Int)} {k:Int->Nat},aXe m k->aXe (lU l m) λq=>k q+sN q l
 |[],m,k,h=>by simpa[lU,sN]using h
 |f::l,m,k,h=>by
  have:=aOm l (bTa h f.1);refine⟨this.1,λq=>?_⟩;show(alk (lU l (aIa m f.1)) q).getD 0=_;rw[this.2 q];simp only[sN,List.countP_cons];by_cases e:q=f.1
  ·rw[Ae e,Ae (by simp[e])];omega
  ·have:¬f.1=q:=λh=>e h.symm
   simp[e,this]
def bFj(c:List Cl):aXe (tM c) λq=>pV q c:=by
 suffices ∀(c:List Cl) (m:List (Int×Int)) (k:Int->Nat),aXe m k->aXe (c.foldl (λm x=>lU x.b m) m) λq=>k q+pV q c by have:=this c [] (λ_=>0) ⟨by simp,λn=>rfl⟩;simpa[tM]using this
 intro c;induction c with
 |nil=>intro m k h;simpa[pV]using h
 |cons x c ih =>
  intro m k h;have:=ih _ _ (aOm x.b h);refine⟨this.1,λq=>?_⟩;show(alk (c.foldl (λm x=>lU x.b m) (lU x.b m)) q).getD 0=_;rw[this.2 q];simp only[pV];omega
def aTz{c:List Cl}{i:Nat}(h:i<c.length):tM (c.take (i+1))=lU c[i].b (tM (c.take i)):=by unfold tM;rw[AM,Ab h,Dk];rfl
def aTy{l:Ch}{i:Nat}(h:i<l.length)(m:List (Int×Int)):lU (l.take (i+1)) m=aIa (lU (l.take i) m) l[i].1:=by unfold lU;rw[AM,Ab h,Dk];rfl
def wS{l:Ch}{m:List (Int×Int)}{B:Int}(h:∀n,0<=(alk m n).getD 0/\(alk m n).getD 0<=B):∀n,0<=(alk (lU l m) n).getD 0/\(alk (lU l m) n).getD 0<=B+l.length:=by
 induction l generalizing m B with
 |nil=>intro n;have:=h n;simp only[lU,List.foldl_nil,Bo];omega
 |cons f l ih =>
  intro n;have:=ih (m:=aIa m f.1) (B:=B+1) (λq=>by
   unfold aIa;rw[aDt];have h1:=h q;have h2:=h f.1;split
   ·simp only[Bc];omega
   ·omega) n
  show 0<=(alk (lU l (aIa m f.1)) n).getD 0/\(alk (lU l (aIa m f.1)) n).getD 0<=_;simp only[AH];omega
def tI(c:List Cl)(f:Int×Int):Bool:=decide (pV f.1 c=1)&&decide (f.2.natAbs=1)
def lE(c:List Cl)(x:Cl):List (Int×Int):=if 0<pV x.id c then[]else(x.b.filter (tI c)).map λf=>(x.id,f.1)
def jL(c:List Cl):List (Int×Int):=c.flatMap (lE c)
def iD(v:Int):D:=.i .i64 v
def bD(v:Bool):D:=.b v
def usE(m:List (Int×Int)):List (Int×AV):=enA (λv=>.d (iD v)) m
def onE(m:List (Int×Bool)):List (Int×AV):=enA (λv=>.d (bD v)) m
def bRb:([]:List (Int×AV))=onE []:=rfl
def bCt(m:List (Int×Int))(n:Int):rE (usE m) n=(alk m n).map λv=>.d (.i .i64 v):=vQ _ _ _
def bCu(m:List (Int×Bool))(n:Int):rE (onE m) n=(alk m n).map λv=>.d (.b v):=vQ _ _ _
def bJb(m:List (Int×Int))(n v:Int):rZ (usE m) n (.d (.i .i64 v))=usE (apt m n v):=aFj (λv=>AV.d (iD v)) _ _ _
def aRg(m:List (Int×Bool))(n:Int)(v:Bool):rZ (onE m) n (.d (.b v))=onE (apt m n v):=aFj (λv=>AV.d (bD v)) _ _ _
def yB{H H':Hp}{ρ:Nat->Nat}(m:List (Int×Int)):mY H H' ρ (.map .i64 (usE m)) (.map .i64 (usE m))↔True:=yC _
def gK{H H':Hp}{ρ:Nat->Nat}(m:List (Int×Bool)):mY H H' ρ (.map .i64 (onE m)) (.map .i64 (onE m))↔True:=yC _
def mT(l:List Nat)(m:List (Int×Int)):fG l (.map .i64 (usE m))=.map .i64 (usE m):=aEn _ _ _
def gF(l:List Nat)(m:List (Int×Bool)):fG l (.map .i64 (onE m))=.map .i64 (onE m):=aEn _ _ _
def cBj(H:Hp)(id:Nat)(m:List (Int×Int))(n:Int)(h:H id=some (.map .i64 (usE m))):pG Aa H 259 (.mp id) (.d (.i .i64 n)) false=some (.d (.i .i64 ((alk m n).getD 0))):=by
 have h1:tmp Aa 259=some (3,3):=by kernel_rfl
 have h2:jJ Aa 3=some .i64:=by kernel_rfl
 have h3:tz Aa 3=some (.int .i64 0):=by kernel_rfl
 rw[cB,h];simp only[bCt];cases alk m n<;>simp[h1,h2,h3,cv,cv1]
def cBk(H:Hp)(id:Nat)(m:List (Int×Bool))(n:Int)(h:H id=some (.map .i64 (onE m))):pG Aa H 260 (.mp id) (.d (.i .i64 n)) false=some (.d (.b ((alk m n).getD false))):=by
 have h1:tmp Aa 260=some (3,4):=by kernel_rfl
 have h2:jJ Aa 3=some .i64:=by kernel_rfl
 have h3:tz Aa 4=some (.bool false):=by kernel_rfl
 rw[cB,h];simp only[bCu];cases alk m n<;>simp[h1,h2,h3,cv,cv1]
def usD(m:List (Int×Int)):D:=.mp .i64 (m.map (·.1)) (m.map λp=>iD p.2)
def bYd(H:Hp)(m:List (Int×Int))(n:Int):pG Aa H 259 (.d (usD m)) (.d (.i .i64 n)) false=some (.d (.i .i64 ((alk m n).getD 0))):=by
 have h1:tmp Aa 259=some (3,3):=by kernel_rfl
 have h2:jJ Aa 3=some .i64:=by kernel_rfl
 have h3:tz Aa 3=some (.int .i64 0):=by kernel_rfl
 have e:pG Aa H 259 (.d (usD m)) (.d (.i .i64 n)) false=aCa Aa 259 .i64 (aHz (m.map (·.1)) (m.map λp=>iD p.2)) (.d (.i .i64 n)) false:=rfl;rw[e,bKr iD λ_=>rfl];simp only[aCa,vQ];cases alk m n<;>simp[h1,h2,h3,cv,cv1,iD]
def usI(m:List (Int×Int)):List (Int×D):=m.map λp=>(p.1,iD p.2)
def bCl(m:List (Int×Int))(J:Nat->AV)(n:Nat)(x:Operand)(h:oev J x=.d (usD m)):nev Aa (.range 259 x) J n=some (.ptr n 0,some (.iter .i64 none (usI m))):=by
 have h1:tmp Aa 259=some (3,3):=by kernel_rfl
 have e:∀m:List (Int×Int),(m.map (·.1)).zip (m.map λp=>iD p.2)=usI m:=λm=>by
  induction m with
  |nil=>rfl
  |cons p m ih=>simp only[A0,Er,ih,usI]
 simp only[nev,h1,h,usD,Option.bind_some,e]
def aGg{α:Type}:∀{l:List α} {j:Nat} {e:α},l[j]? = some e->l.Perm (e::l.eraseIdx j)
 |[],j,e,h=>by simp at h
 |x::l,0,e,h=>by simp at h;subst h;exact List.Perm.refl _
 |x::l,j+1,e,h=>by have:=aGg (l:=l) (j:=j) (e:=e) (by simpa using h);exact(List.Perm.cons x this).trans (List.Perm.swap e x _)
def bSp(H:Hp)(id:Nat):itA H (.ptr id 0)=match H id with
  |some (.iter k _ es)=>some (id,k,es)
  |_=>none:=rfl
def aSp(H:Hp)(id:Nat):bLs H (.ptr id 0)=match H id with
  |some (.iter k (some e) _)=>some (.tp [.d (.i k e.1),aO e.2])
  |_=>none:=rfl
def aAl{H H':Hp}{ρ:Nat->Nat}(k k':IntKind)(l l':Option (Int×D))(es es':List (Int×D)):mY H H' ρ (.iter k l es) (.iter k' l' es')↔(k=k'/\l=l'/\es=es'):=Iff.rfl
def aBt(s:List Nat)(k:IntKind)(l:Option (Int×D))(es:List (Int×D)):fG s (.iter k l es)=.iter k l es:=rfl
def aXv{m:List (Int×Int)}{e:Int×D}(h:e∈usI m):∃n v,e=(n,iD v)/\(n,v)∈m:=by obtain⟨p,hp,rfl⟩:=AA.1 h;exact⟨p.1,p.2,rfl,hp⟩
def bKx{a b:Int}(h:iD a=iD b):a=b:=by injection h
def aZj(v:Int):aO (iD v)=.d (.i .i64 v):=rfl
def aNr(m:List (Int×Int))(rest:List (Int×D))(once:List (Int×Bool)):Prop:=∃done,(done++rest).Perm (usI m)/\∀n,(alk once n).getD false=true↔(n,iD 1)∈done
def aNr.step{m:List (Int×Int)}{rest:List (Int×D)}{once:List (Int×Bool)}(h:aNr m rest once){j:Nat}{n v:Int}(he:rest[j]? = some (n,iD v)):aNr m (rest.eraseIdx j) (if v=1 then apt once n true else once):=by
 obtain⟨done,h1,h2⟩:=h;refine⟨done++[(n,iD v)],?_,λq=>?_⟩
 ·rw[Bg];exact((List.Perm.append_left done (aGg he)).symm).trans h1
 ·rw[A6,AT,Ez];by_cases hv:v=1
  ·rw[Ae hv,aDt];by_cases hq:q=n
   ·subst hq;subst hv;simp
   ·rw[Ac hq,h2];simp[hq]
  ·rw[Ac hv,h2];constructor
   ·exact .inl
   ·rintro(h|⟨_,h⟩)
    ·exact h
    ·exact absurd (bKx h).symm hv
def aNr.fin{m:List (Int×Int)}{once:List (Int×Bool)}(hnd:(m.map (·.1)).Nodup)(h:aNr m [] once)(n:Int):(alk once n).getD false=true↔(alk m n).getD 0=1:=by
 obtain⟨done,h1,h2⟩:=h;rw[AX]at h1;rw[h2,h1.mem_iff];constructor
 ·intro h;obtain⟨a,v,e,hm⟩:=aXv h;injection e with e1 e2
  rw[<-bKx e2,<-e1]at hm;rw[(aNj hnd).2 hm];rfl
 ·intro h;cases hk:alk m n with
  |none=>rw[hk]at h;simp at h
  |some v =>
   rw[hk]at h;have hv:v=1:=h;subst hv;exact AA.2 ⟨(n,1),(aNj hnd).1 hk,rfl⟩
def aNr.nil(m:List (Int×Int)):aNr m (usI m) []:=⟨[],by simp,λn=>by simp[alk]⟩
def sI(t:Nat)(sl:List (Nat×AV))(mb:HO)(e:TypeId)(sz n:Nat)(cells:List D):St:=match n with
 |0=>StL ((t,.nil)::sl) none [mb]
 |n+1=>StL ((t,.own 2 0 (n+1) sz)::sl) none [mb,.cells e (cells.map .d)]
def aMr(t:Nat)(sl:List (Nat×AV))(mb xb:HO)(e:TypeId)(sz n:Nat)(cells:List D):St:=match n with
 |0=>StL ((t,.nil)::sl) none [mb,xb]
 |n+1=>StL ((t,.own 3 0 (n+1) sz)::sl) none [mb,xb,.cells e (cells.map .d)]
def aVt{c d:List Cl}{i:Nat}(h:i<c.length):(c.take (i+1)).flatMap (lE d)=(c.take i).flatMap (lE d)++lE d c[i]:=by rw[AM,Ab h,List.flatMap_append];simp
def bDm{c:List Cl}{l:Ch}{i:Nat}(n:Int)(h:i<l.length):((l.take (i+1)).filter (tI c)).map (λf=>(n,f.1))=((l.take i).filter (tI c)).map (λf=>(n,f.1))++if tI c l[i]then[(n,l[i].1)]else[]:=by rw[AM,Ab h,BO,Bt];congr 1;by_cases e:tI c l[i]=true<;>simp[e]
def bYa{c:List Cl}{e:Nat}(hz:SzX e c)(he:e+14<4398046511104):Spec Aa 208 [aE c] (fR (jL c)):=by
 have hlen:=hz.len;refine qL (N:=90) Tryz.func208 bXb ?_;simp[-O,-X,↓KW,aE];refine aVi (λi:Nat=>i<=c.length/\∀n,0<=(alk (tM (c.take i)) n).getD 0/\(alk (tM (c.take i)) n).getD 0<=100*i) (λi=>StL [(0,.d (aE c)),(3,.mp 1),(17,.d (aE c)),(18,.d (.i .i64 c.length)),(19,.d (.i .i64 (i:Int)))] none [.map .i64 (usE (tM (c.take i)))]) (λi=>c.length-i) 0 ⟨Ak _,λn=>by simp[tM,alk]⟩ ?_ ?_
 ·refine wkQ [1] ?_ ?_
  ·simp[-O,upd,aO,Γ0,aE]
  ·exact⟨⟨_,by simp[upd];rfl,aOx rfl⟩,trivial⟩
 ·rintro i ⟨hi,hub⟩;by_cases hgo:i<c.length
  ·have q1:(i:Int)<c.length:=by omega
   have hx:c[i]? = some c[i]:=Ab hgo;have hw:Ag.wrap ((i:Int)+1)=(i:Int)+1:=aV;have htk:=aTz hgo;have hxl:=hz.bl _ (Ar hgo);refine exE c[i] λx hxe=>?_
   rw[hxe]at hx htk hxl;refine exE (tM (c.take i)) λm hme=>?_
   rw[hme]at htk;simp only[hme]at hub ⊢;have hyc:aN x=[D.i .i64 x.id,.i .i64 x.dim,aK x.b]:=rfl;simp[-O,-X,↓KW,aE,aK,q1,hx,hyc,aC,aA,aB,mT];refine aP (λj:Nat=>j<=x.b.length) (λj=>StL [(0,.d (aE c)),(3,.mp 1),(17,.d (aE c)),(18,.d (.i .i64 c.length)),(19,.d (.i .i64 (i:Int))),(24,.d (aK x.b)),(25,.d (.i .i64 x.b.length)),(26,.d (.i .i64 (j:Int)))] none [.map .i64 (usE (lU (x.b.take j) m))]) (λj=>x.b.length-j) 0 (Ak _) ?_ ?_
   ·refine wkQ [1] ?_ ?_<;>simp[-O,upd,aO,Γ0,aE,aK,mT,yB,lU]
   ·intro j hj;by_cases hgo2:j<x.b.length
    ·have q2:(j:Int)<x.b.length:=by omega
     have hf:x.b[j]? = some x.b[j]:=Ab hgo2;have hw2:Ag.wrap ((j:Int)+1)=(j:Int)+1:=aV;have htk2:=aTy hgo2 m;have hb2:=wS (l:=x.b.take j) hub;rw[Ax]at hb2;refine exE x.b[j] λf hfe=>?_
     rw[hfe]at hf htk2;refine(show ∃m',lU (x.b.take j) m=m' from⟨_,rfl⟩).elim λm' hme'=>?_
     rw[hme']at htk2 hb2;simp only[hme'];have hb3:=hb2 f.1;have hlk:∀H:Hp,H 1=some (.map .i64 (usE m'))->pG Aa H 259 (.mp 1) (.d (.i .i64 f.1)) false=some (.d (.i .i64 ((alk m' f.1).getD 0))):=λH h=>cBj H 1 m' f.1 h
     have hinc:apt m' f.1 ((alk m' f.1).getD 0+1)=aIa m' f.1:=rfl;refine exE ((alk m' f.1).getD 0) λv hve=>?_
     rw[hve]at hlk hinc hb3;have hw3:Ag.wrap (v+1)=v+1:=aV;simp[-O,-X,↓KW,aE,aK,bE,q2,hf,hlk,hw3,hw2,cH,bJb,hinc,mT,aF,aD,aG];refine aI (j+1) hgo2 (AF hgo2 (AK _)) (wkQ [1] ?_ ?_)<;>simp[-O,upd,aO,Γ0,aE,aK,mT,yB,htk2]
    ·have q2:¬(j:Int)<x.b.length:=by omega
     have hb2:=wS (l:=x.b) hub;rw[Ai (by omega)];simp[-O,-X,↓KW,aE,aK,q2,hw];refine aI (i+1) ⟨hgo,λn=>?_⟩ (slQ hgo) (wkQ [1] ?_ ?_)
     ·rw[htk];have:=hb2 n;omega
     ·simp[-O,upd,aO,Γ0,aE,aK,mT,yB,htk]
     ·simp[-O,upd,aO,Γ0,aE,aK,mT,yB,htk]
  ·have q1:¬(i:Int)<c.length:=by omega
   rw[Ai (by omega)]at hub ⊢;obtain⟨hnd,hcnt⟩:=bFj c;refine exE (tM c) λm hme=>?_
   rw[hme]at hub hnd hcnt ⊢;simp[-O,-X,↓KW,aE,q1];refine bYt (StL [(0,.d (aE c)),(3,.d (usD m))] none []) (wkQ [] ?_ ?_) ?_
   ·simp[-O,upd,aO,Γ0,aE];exact qA (bTf iD _ 6 1 m rfl) (λa _ id h=>by simp[pW]at h)
   ·trivial
   ·simp[-O,-X,↓KW,aE,↓bIk,bCl m,bRb];refine aP (λy:Option (Int×D)×List (Int×D)×List (Int×Bool)=>aNr m y.2.1 y.2.2) (λy=>StL [(0,.d (aE c)),(3,.d (usD m)),(8,.mp 1),(39,.ptr 2 0)] none [.map .i64 (onE y.2.2),.iter .i64 y.1 y.2.1]) (λy=>y.2.1.length) (none,usI m,[]) (aNr.nil m) ?_ ?_
    ·refine wkQ [1,2] ?_ ?_<;>simp[-O,upd,aO,Γ0,aE,gK,aAl]
    ·rintro⟨last,rest,once⟩ hok;simp only at hok ⊢;simp[-O,-X,↓KW,aE,↓bRf,bSp];refine aRe (λhe=>?_) (λj ⟨n,w⟩ he=>?_)
     ·subst he;have hfin:=hok.fin hnd;simp[-O,-X,↓KW,aE];refine aP (λy:Nat×List (Int×Int)=>y.1<=c.length/\y.2.length<=100*y.1/\(c.take y.1).flatMap (lE c)=y.2) (λy=>sI 11 [(0,.d (aE c)),(3,.d (usD m)),(8,.mp 1),(49,.d (aE c)),(50,.d (.i .i64 c.length)),(51,.d (.i .i64 (y.1:Int)))] (.map .i64 (onE once)) 41 2 y.2.length (flt wZ y.2)) (λy=>c.length-y.1) (0,[]) ⟨Ak _,Ak _,rfl⟩ ?_ ?_
      ·simp only[Bo,sI];refine wkQ [1] ?_ ?_<;>simp[-O,upd,aO,Γ0,aE,gK,dY]
      ·clear hi hgo q1 i hub;rintro⟨i,l⟩ ⟨hi,hll,hl⟩;simp only at hi hll hl ⊢;by_cases hgo:i<c.length
       ·have q1:(i:Int)<c.length:=by omega
        have hx:c[i]? = some c[i]:=Ab hgo;have hw:Ag.wrap ((i:Int)+1)=(i:Int)+1:=aV;have htk:=aVt (d:=c) hgo;rw[hl]at htk;have hxl:=hz.bl _ (Ar hgo);have hxb:=hz.bb _ (Ar hgo);refine exE c[i] λx hxe=>?_
        rw[hxe]at hx htk hxl hxb;have hyc:aN x=[D.i .i64 x.id,.i .i64 x.dim,aK x.b]:=rfl;have hlu:∀H:Hp,pG Aa H 259 (.d (usD m)) (.d (.i .i64 x.id)) false=some (.d (.i .i64 ((pV x.id c:Nat):Int))):=λH=>by rw[bYd H m x.id,hcnt]
        rcases hn:l.length with _|k
        all_goals
         simp only[hn,sI]
         by_cases h0:0<pV x.id c
         ·have h0':(0:Int)<((pV x.id c:Nat):Int):=by omega
          have hfc:lE c x=[]:=by unfold lE;rw[Ae h0]
          rw[hfc,AX]at htk
          simp[-O,-X,↓KW,aE,q1,hx,hyc,hlu,h0,h0',hw,aC,aA,aB,gF]
          refine aI (τ:=Nat×List (Int×Int)) (i+1,l) ⟨hgo,by simp only;omega,htk⟩ (slQ hgo) ?_
          simp only[hn,sI]
          first|(refine wkQ [1] ?_ ?_<;>simp[-O,upd,aO,Γ0,aE,gK,dY];done)|(refine wkQ [1,2] ?_ ?_<;>simp[-O,upd,aO,Γ0,aE,gK,dY])
         ·have h0':¬(0:Int)<((pV x.id c:Nat):Int):=by omega
          have hfc:lE c x=(x.b.filter (tI c)).map λf=>(x.id,f.1):=by unfold lE;rw[Ac h0]
          rw[hfc]at htk
          simp[-O,-X,↓KW,aE,aK,q1,hx,hyc,hlu,h0,h0',hw,aC,aA,aB,gF]
          refine aP (λy:Nat×List (Int×Int)=>y.1<=x.b.length/\y.2.length<=100*i+y.1/\l++((x.b.take y.1).filter (tI c)).map (λf=>(x.id,f.1))=y.2) (λy=>aMr 11 [(0,.d (aE c)),(3,.d (usD m)),(8,.mp 1),(13,.ptr 2 0),(49,.d (aE c)),(50,.d (.i .i64 c.length)),(51,.d (.i .i64 (i:Int))),(61,.d (aK x.b)),(62,.d (.i .i64 x.b.length)),(63,.d (.i .i64 (y.1:Int)))] (.map .i64 (onE once)) (.cells 40 [.d (.i .i64 x.id),.d (.i .i64 x.dim),.d (aK x.b)]) 41 2 y.2.length (flt wZ y.2)) (λy=>x.b.length-y.1) (0,l) ⟨Ak _,by simp only;omega,by simp⟩ ?_ ?_
          ·simp only[hn,aMr]
           first|(refine wkQ [1,2] ?_ ?_<;>simp[-O,upd,aO,Γ0,aE,aK,gK,dY];done)|(refine wkQ [1,3,2] ?_ ?_<;>simp[-O,upd,aO,Γ0,aE,aK,gK,dY])
          ·rintro⟨j,l2⟩ ⟨hj,hl2,hinv⟩
           simp only at hj hl2 hinv ⊢
           by_cases hgo2:j<x.b.length
           ·have q2:(j:Int)<x.b.length:=by omega
            have hf:x.b[j]? = some x.b[j]:=Ab hgo2
            have hw2:Ag.wrap ((j:Int)+1)=(j:Int)+1:=aV
            have hfb:=hxb _ (Ar hgo2)
            have htk2:=bDm (c:=c) x.id hgo2
            refine exE x.b[j] λf hfe=>?_
            rw[hfe]at hf htk2 hfb
            have hinv2:l++((x.b.take (j+1)).filter (tI c)).map (λf=>(x.id,f.1))=l2++if tI c f then[(x.id,f.1)]else[]:=by rw[htk2,<-Bg,hinv]
            have hef:eL f=[.i .i64 f.1,.b (decide (f.2<0)),aM (aU f.2.natAbs)]:=rfl
            obtain⟨n,z⟩:=f
            simp only at hfb hef hinv2
            have hzS:Sz z:=szE hfb (by omega)
            have hon:(alk once n).getD false=decide (pV n c=1):=by rw[DK,hfin,hcnt,AI];simp only;omega
            have hlo:∀H:Hp,H 1=some (.map .i64 (onE once))->pG Aa H 260 (.mp 1) (.d (.i .i64 n)) false=some (.d (.b (decide (pV n c=1)))):=λH h=>by rw[cBk H 1 once n h,hon]
            have hm1:(1:Nat)<=maxLen:=aS (by decide)
            rcases hn2:l2.length with _|k
            all_goals
             by_cases h1:pV n c=1
             ·have hA:=bSu z hzS
              have hO:=aMm
              obtain⟨r,hC,hr⟩:=aZf (z.natAbs:Int) 1 (by unfold Sz at hzS ⊢;rw[Int.natAbs_natCast];exact hzS) sz1
              rw[BD h1]at hlo
              simp only[aMr]
              simp[-O,-X,↓KW,aE,aK,bE,q2,hf,hlo,aF,aD,aG]
              refine aJ hA ?_
              simp[-O,-X,↓KW,aE,aK,bE,aY,aF,aD,aG,gF]
              refine aJ hO ?_
              simp[-O,-X,↓KW,aE,aK,bE,aY,aF,aD,aG,gF]
              refine aJ hC ?_
              by_cases hz1:z.natAbs=1
              ·have hr0:r=0:=hr.2 (by omega)
               have hok:tI c (n,z)=true:=by unfold tI;simp[h1,hz1]
               rw[hok,Ae rfl]at hinv2
               rw[hr0]
               first|(have e0:l2=[]:=AE hn2;simp[-O,-X,↓KW,hr0,hw2,hm1,gF];refine aI (τ:=Nat×List (Int×Int)) (j+1,l2++[(x.id,n)]) ⟨hgo2,by simp only[Al,Au];omega,hinv2⟩ (AF hgo2 (AK _)) ?_;simp only[Al,hn2,Au,aMr];refine wkQ [1,2,5] ?_ ?_<;>simp[-O,upd,aO,Γ0,aE,aK,gK,e0,cF,aGl];done)|(have hbb:=cG (n:=k+1) (by omega);have hcl:=bJ lO l2;rw[hn2]at hcl;have hal:=dA aKe l2;have hb8:(k+1+1)*16<=140737488355328:=(by omega);simp[-O,-X,↓KW,hr0,hw2,hm1,hbb,hb8,hcl,hal,aS,gF];refine aI (τ:=Nat×List (Int×Int)) (j+1,l2++[(x.id,n)]) ⟨hgo2,by simp only[Al,Au];omega,hinv2⟩ (AF hgo2 (AK _)) ?_;simp only[Al,hn2,Au,aMr];refine wkQ [1,2,6] ?_ ?_<;>simp[-O,upd,aO,Γ0,aE,aK,gF,gK,cW,cF,aGl])
              ·have hr0:((r==0):Bool)=false:=by simp;exact λh=>hz1 (by have:=hr.1 h;omega)
               have hok:tI c (n,z)=false:=by unfold tI;simp[hz1]
               rw[hok]at hinv2
               simp only[A1,BY,AX]at hinv2
               simp[-O,-X,↓KW,hr0,hw2,gF]
               refine aI (τ:=Nat×List (Int×Int)) (j+1,l2) ⟨hgo2,by simp only;omega,hinv2⟩ (AF hgo2 (AK _)) ?_
               simp only[hn2,aMr]
               first|(refine wkQ [1,2] ?_ ?_<;>simp[-O,upd,aO,Γ0,aE,aK,gK,dY];done)|(refine wkQ [1,2,3] ?_ ?_<;>simp[-O,upd,aO,Γ0,aE,aK,gK,dY])
             ·rw[Br h1]at hlo
              have hok:tI c (n,z)=false:=by unfold tI;simp[h1]
              rw[hok]at hinv2
              simp only[A1,BY,AX]at hinv2
              simp only[aMr]
              simp[-O,-X,↓KW,aE,aK,bE,q2,hf,hlo,hw2,aF,aD,aG,gF]
              refine aI (τ:=Nat×List (Int×Int)) (j+1,l2) ⟨hgo2,by simp only;omega,hinv2⟩ (AF hgo2 (AK _)) ?_
              simp only[hn2,aMr]
              first|(refine wkQ [1,2] ?_ ?_<;>simp[-O,upd,aO,Γ0,aE,aK,gK,dY];done)|(refine wkQ [1,2,3] ?_ ?_<;>simp[-O,upd,aO,Γ0,aE,aK,gK,dY])
           ·have q2:¬(j:Int)<x.b.length:=by omega
            rw[Ai (by omega)]at hinv
            rcases hn2:l2.length with _|k
            all_goals
             simp only[aMr]
             simp[-O,-X,↓KW,aE,aK,q2,hw,gF]
             refine aI (τ:=Nat×List (Int×Int)) (i+1,l2) ⟨hgo,by simp only;omega,by rw[htk,hinv]⟩ (slQ hgo) ?_
             simp only[hn2,sI]
             first|(refine wkQ [1] ?_ ?_<;>simp[-O,upd,aO,Γ0,aE,gK,dY];done)|(refine wkQ [1,3] ?_ ?_<;>simp[-O,upd,aO,Γ0,aE,gK,dY])
       ·have q1:¬(i:Int)<c.length:=by omega
        rw[Ai (by omega)]at hl;have hl':jL c=l:=hl;rcases hn:l.length with _|k
        ·have e0:l=[]:=AE hn;simp only[sI];simp[-O,-X,↓KW,aE,fR,q1,hl',e0]
        ·have e1:=dH lO hn;have e2:=cV (by decide) lO hn;have e3:=bJ lO l;rw[hn]at e3;simp only[sI];simp[-O,-X,↓KW,aE,fR,q1,hl',e1,e2,e3,hn]
     ·have hlt:=(Ah.1 he).1;obtain⟨n',v,hnv,hnm⟩:∃n' v,((n,w):Int×D)=(n',iD v)/\(n',v)∈m:=by obtain⟨done,h1,_⟩:=hok;exact aXv (h1.mem_iff.1 (List.mem_append_right _ (Aq he)))
      injection hnv with e1 e2
      subst e1;subst e2;have hst:=hok.step he;have hel:(rest.eraseIdx j).length<rest.length:=by rw[List.length_eraseIdx,Ae hlt];omega
      refine(show ∃r',rest.eraseIdx j=r' from⟨_,rfl⟩).elim λr' hre=>?_
      rw[hre]at hst hel ⊢;by_cases hv:v=1
      ·have hv':((v==1):Bool)=true:=by simpa using hv
       rw[Ae hv]at hst;have q3:(((1:Int)==(1:Int)):Bool)=true:=rfl;simp[-O,-X,↓KW,aE,↓aQv,aSp,aZj,hv',hv,q3,cH,aRg,gF,aBt];refine aI (τ:=Option (Int×D)×List (Int×D)×List (Int×Bool)) (some (n,iD v),r',apt once n true) hst hel (wkQ [1,2] ?_ ?_)<;>simp[-O,upd,aO,Γ0,aE,gK,aAl,hv]
      ·have hv':((v==1):Bool)=false:=by simpa using hv
       rw[Ac hv]at hst;simp[-O,-X,↓KW,aE,↓aQv,aSp,aZj,hv',hv,cH,aRg,gF,aBt];refine aI (τ:=Option (Int×D)×List (Int×D)×List (Int×Bool)) (some (n,iD v),r',once) hst hel (wkQ [1,2] ?_ ?_)<;>simp[-O,upd,aO,Γ0,aE,gK,aAl]
def oR(x y:List AV):kI .eql false (.ag x) (.ag y)=none:=rfl
def cAh:tai Aa 41=some .i64:=by kernel_rfl
def zW(a b c d:Int):bNl .eql (tai Aa 41) (.ag [.d (.i .i64 a),.d (.i .i64 b)]) (.ag [.d (.i .i64 c),.d (.i .i64 d)])=some (.b (a==c&&b==d)):=by rw[cAh];rfl
def ixP(l:List (Int×Int))(p:Int×Int):Int:=if p∈l then(l.findIdx (λq=>q==p):Nat)else -1
def cBt(l:List (Int×Int))(a b:Int)(hl:l.length<=1000000):Spec Aa 210 [fR l,.ag [.i .i64 a,.i .i64 b]] (.i .i64 (ixP l (a,b))):=by
 refine bF (N:=19) Tryz.func210 ?_;simp[-O,-X,↓KW,fR];refine aP (λi:Nat=>i<=l.length/\∀j p,j<i->l[j]? = some p->p≠(a,b)) (λi=>StL [(0,.d (fR l)),(3,.ptr 1 0),(7,.d (.i .i64 l.length)),(8,.d (.i .i64 (i:Int)))] none [.cells 41 [.d (.i .i64 a),.d (.i .i64 b)]]) (λi=>l.length-i) 0 ⟨Ak _,λj p h=>by omega⟩ ?_ ?_
 ·refine wkQ [1] ?_ ?_<;>simp[-O,upd,aO,Γ0,fR]
 ·rintro i ⟨hi,hn⟩;by_cases hgo:i<l.length
  ·have q1:(i:Int)<l.length:=by omega
   have hx:l[i]? = some l[i]:=Ab hgo;have hw:Ag.wrap ((i:Int)+1)=(i:Int)+1:=aV;have hw0:Ag.wrap (i:Int)=(i:Int):=aV;refine exE l[i] λx hxe=>?_
   rw[hxe]at hx;have hy:wZ x=[.i .i64 x.1,.i .i64 x.2]:=rfl;by_cases he:x=(a,b)
   ·subst he;have hb:((a==a&&b==b):Bool)=true:=by simp
    have hix:ixP l (a,b)=i:=by unfold ixP;rw[Ae (Aq hx)];congr 1;rw[List.findIdx_eq hgo];refine⟨by rw[hxe];simp,λj hj=>?_⟩;have:=hn j l[j] hj (Ab (by omega));simpa using this
    simp[-O,-X,↓KW,fR,q1,hx,hy,hw,oR,zW,hb,hix]
   ·have hb:((a==x.1&&b==x.2):Bool)=false:=by
     cases h:((a==x.1&&b==x.2):Bool)
     ·rfl
     ·simp only[AO,CK]at h;exact(he (Prod.ext h.1.symm h.2.symm)).elim
    simp[-O,-X,↓KW,fR,q1,hx,hy,hw,oR,zW,hb];refine aI (i+1) ⟨hgo,λj p hj hp=>?_⟩ (slQ hgo) (wkQ [1] ?_ ?_)
    ·rcases Bd j i with h|h
     ·exact hn j p h hp
     ·obtain rfl:j=i:=by omega
      rw[hx]at hp;injection hp with hp;rw[<-hp];exact he
    ·simp[-O,upd,aO,Γ0,fR]
    ·simp[-O,upd,aO,Γ0,fR]
  ·have q1:¬(i:Int)<l.length:=by omega
   have hnm:(a,b) ∉ l:=λh=>by obtain⟨j,hj⟩:=List.getElem?_of_mem h;exact hn j _ (by have:=(Ah.1 hj).1;omega) hj rfl
   simp[-O,-X,↓KW,fR,q1,ixP,hnm]
def cEe(l:List (Int×Int))(a b:Int)(hl:l.length<=1000000):Spec Aa 207 [fR l,.ag [.i .i64 a,.i .i64 b]] (.b (decide ((a,b)∈l))):=by
 refine bF (N:=9) Tryz.func207 ?_;have hI:=cBt l a b hl;have hge:decide ((0:Int)<=ixP l (a,b))=decide ((a,b)∈l):=by
  unfold ixP;by_cases h:(a,b)∈l
  ·rw[Ae h];simp[h]
  ·rw[Ac h];simp[h]
 simp[-O,-X,↓KW,fR];refine aJ hI ?_;simp[-O,-X,↓KW,fR,hge]
end Go.Am
end
section
open List renaming map_map->O,mapM_map->X
namespace Go.Am
open RowKit (Below)
inductive Tr where
 |leaf
 |one (i:Nat) (t:Tr)
 |two (i:Nat) (t:Tr) (j:Nat) (u:Tr)
 |three (i:Nat) (t:Tr) (j:Nat) (u:Tr) (m:Nat) (v:Tr)
def bIx(P:Program)(o:Oper):Bool:=match o.op with
 |.move _=>true
 |.assign _=>true
 |.insert ..=>true
 |.load ..=>true
 |.store ..=>true
 |.convert ..=>true
 |.binOp ..=>true
 |.indexAddr ..=>true
 |.fieldAddr ..=>true
 |.call { callee:=.value (.func f),.. }=>!bB P f && !bC P f
 |_=>false
def opL(ops:Array Oper)(i:Nat):List Oper:=(ops.toList.drop i).take 1
def opsL(ops:Array Oper)(is:List Nat):List Oper:=is.flatMap (opL ops)
def aYo{ops:Array Oper}{i:Nat}{o:Oper}(h:ops[i]? = some o):opL ops i=[o]:=by
 unfold opL;have h':ops.toList[i]? = some o:=by simpa using h
 obtain⟨hl,he⟩:=Ah.1 h';rw[AP hl,he];rfl
def aQe(P:Program)(ops:Array Oper):List Nat->Array Bool->Option (Array Bool)
 |[],l=>some l
 |i::is,l=>if(BS .any ops l).contains i&&aZm P ops l i then aQe P ops is (l.setIfInBounds i true)else none
def aRc(P:Program)(ops:Array Oper)(i:Nat):Bool:=match ops[i]? with
 |some o=>bIx P o
 |none=>false
def zT(P:Program)(ops:Array Oper):Nat->Array Bool->Tr->Bool
 |0,l,.leaf=>(BS .any ops l).isEmpty
 |n+1,l,.one i t=>(BS .any ops l==[i])&&aRc P ops i&&zT P ops n (l.setIfInBounds i true) t
 |n+1,l,.two i t j u=>(BS .any ops l==[i,j])&&aRc P ops i&&aRc P ops j&&zT P ops n (l.setIfInBounds i true) t&&zT P ops n (l.setIfInBounds j true) u
 |n+1,l,.three i t j u m v=>(BS .any ops l==[i,j,m])&&aRc P ops i&&aRc P ops j&&aRc P ops m&&zT P ops n (l.setIfInBounds i true) t&&zT P ops n (l.setIfInBounds j true) u&&zT P ops n (l.setIfInBounds m true) v
 |_,_,_=>false
def OWT(P:Program)(ops:Array Oper):Tr->St->List Nat->(St->List Nat->Prop)->Prop
 |.leaf,σ,con,k=>k σ con
 |.one i t,σ,con,k=>OW P ops (opL ops i) σ con λσ' con'=>OWT P ops t σ' con' k
 |.two i t j u,σ,con,k=>(OW P ops (opL ops i) σ con λσ' con'=>OWT P ops t σ' con' k)/\(OW P ops (opL ops j) σ con λσ' con'=>OWT P ops u σ' con' k)
 |.three i t j u m v,σ,con,k=>(OW P ops (opL ops i) σ con λσ' con'=>OWT P ops t σ' con' k)/\(OW P ops (opL ops j) σ con λσ' con'=>OWT P ops u σ' con' k)/\(OW P ops (opL ops m) σ con λσ' con'=>OWT P ops v σ' con' k)
def aLl(P:Program)(ops:Array Oper)(pre:List Nat)(t:Tr):Bool:=match aQe P ops pre (BG ops.size false)with
 |some l=>rY (opsL ops pre)&&decide (pre.length<=ops.size)&&zT P ops (ops.size-pre.length) l t
 |none=>false
section
variable {P:Program} {G:Ctx} {ops:Array Oper}
def aTm{Q:AS->Prop}{n:Nat}{l1:Array Bool}:∀(is:List Nat) (listed:Array Bool) (s:AS),Dc ops listed->aQe P ops is listed=some l1->aBq P G ops (λs'=>Dc ops l1->aNl P G ops Q n l1 s') (opsL ops is) s->aNl P G ops Q (is.length+n) listed s
 |[],listed,s,hdc,hp,h=>by simp only[aQe,AU]at hp;subst hp;simpa using h hdc
 |i::is,listed,s,hdc,hp,h=>by
  simp only[aQe]at hp;split at hp
  case isFalse=>cases hp
  rename_i hc;simp only[AO]at hc;have hr:i∈BS .any ops listed:=by simpa using hc.1
  obtain⟨_,o,ho,_⟩:=mem_ready.1 hr;have e:opsL ops (i::is)=o::opsL ops is:=by show opL ops i++opsL ops is=_;rw[aYo ho];rfl
  rw[e]at h;obtain⟨s',hd,h⟩:=h;rw[AH,Nat.add_right_comm];exact aHd ho (is.length+n) listed s s' hdc (aFy ho hc.2) hr hd (aTm is _ _ (aXf hdc hr) hp h)
def yM{e:Option AV}{av:AV}{nb:Option HO}(h:eO e=some (av,nb)):nb=none:=by unfold eO at h;cases e<;>simp at h;exact h.2.symm
def cDy{k:St->List Nat->Prop}{o:Oper}{σ:St}{con:List Nat}(hnn:bIx P o=true)(hn0:σ.n=0->∀b,G.P0 b)(hwf:Wf σ con)(h:OW P ops [o] σ con k) :
  ∀s,eZ σ con s->∃s',qT P G ops o s s'/\∃σ' con',k σ' con'/\(σ'.n=0->∀b,G.P0 b)/\Wf σ' con'/\eZ σ' con' s':=by
 unfold OW at h
 have pure0:∀(av:AV) (con':List Nat) (H':Hp),H'=kill con' σ.H->(∀id∈con',(σ.H id).isSome=true)->k ⟨bS σ.J o.dst av,H',σ.n⟩ (con'++con) ->
   (∀s,eZ σ con s->Ev P G o s.J s.T s.K s.K av bU (λi=>i∈con'))->eY ops o σ.J=some true ->
   ∀s,eZ σ con s->∃s',qT P G ops o s s'/\∃σ' con',k σ' con'/\(σ'.n=0->∀b,G.P0 b)/\Wf σ' con'/\eZ σ' con' s':=by
  intro av con' H' hH' hc' hk hev hw s hs
  subst hH'
  have hwf':Wf ⟨bS σ.J o.dst av,kill con' σ.H,σ.n⟩ (con'++con):=by
   refine⟨λid hid=>?_,λid hid=>?_⟩
   ·cases hx:kill con' σ.H id with
    |none=>exact hx
    |some o'=>have:=(iQ hx).1;rw[hwf.top id hid]at this;cases this
   ·rcases A6.1 hid with hid|hid
    ·refine⟨?_,pI hid⟩;have:=hc' id hid;rcases Bd id σ.n with h|h
     ·exact h
     ·rw[hwf.top id h]at this;cases this
    ·obtain⟨h1,h2⟩:=hwf.con id hid;refine⟨h1,?_⟩;cases hx:kill con' σ.H id with
     |none=>exact hx
     |some o'=>have:=(iQ hx).1;rw[h2]at this;cases this
  refine⟨_,.yes av bU (λi=>i∈con') s.K (by rw[hs.J];exact hw) (hev s hs) (λ_ h=>h.elim) (λ_ h=>h.elim) (λh=>h.elim),_,_,hk,hn0,hwf',?_⟩
  refine⟨by rw[hs.J],λid=>by simp[hs.T,or_comm],λid o' h=>hs.K id o' (iQ h).1,λid=>?_⟩
  simp only[hs.U,bU,or_false,A6]
  by_cases hid:id∈con'
  ·simp[hid,hc' id hid,pI hid]
  ·rw[tZ hid];simp[hid]
 have write1:∀(av:AV) (id:Nat) (ho old:HO) (ts:Nat),Operand.tmp ts∈o.op.operands->mC id (σ.J ts)=true->σ.H id=some old->kind P o.op=2->k ⟨bS σ.J o.dst av,upd σ.H id (some ho),σ.n⟩ con ->
   (∀(T2:Nat->Prop) (K2:Hp),K2 id=some old->¬T2 id->Y P G o σ.J T2 K2 (kJ K2 T2 id ho) av bU bU)->eY ops o σ.J=some true ->
   ∀s,eZ σ con s->∃s',qT P G ops o s s'/\∃σ' con',k σ' con'/\(σ'.n=0->∀b,G.P0 b)/\Wf σ' con'/\eZ σ' con' s':=by
  intro av id ho old ts hts hΓ hold hkd h hY hw s hs
  have hwf':Wf ⟨bS σ.J o.dst av,upd σ.H id (some ho),σ.n⟩ con:=by
   refine⟨λi hi=>?_,λi hi=>?_⟩
   ·simp only at hi ⊢;rw[dX _ _ (λe=>by rw[e]at hi;rw[hwf.top id hi]at hold;cases hold)];exact hwf.top i hi
   ·obtain⟨h1,h2⟩:=hwf.con i hi;refine⟨h1,?_⟩;simp only;rw[dX _ _ (λe=>by rw[e]at h2;rw[h2]at hold;cases hold)];exact h2
  have hidn:id<σ.n:=by
   rcases Bd id σ.n with h|h
   ·exact h
   ·rw[hwf.top id h]at hold;cases hold
  have hnT:¬s.T id:=λh=>by have:=(hwf.con id ((hs.T id).1 h)).2;rw[this]at hold;cases hold
  refine⟨_,.yes av bU bU (kJ s.K s.T id ho) (by rw[hs.J];exact hw) (.inr (.inr (.inl ⟨hkd,rfl,rfl,id,ts,old,ho,hts,by rw[hs.J];exact hΓ,hs.K _ _ hold,hnT,rfl,λT2 K2 hK2 hT2=>by rw[hs.J];exact hY T2 K2 hK2 hT2⟩))) (λ_ h=>h.elim) (λ_ h=>h.elim) (λh=>h.elim),_,_,h,hn0,hwf',?_⟩
  refine⟨by rw[hs.J],λi=>by simp[hs.T,bU],λi o' h=>?_,λi=>?_⟩
  ·simp only at h ⊢
   by_cases hid:i=id
   ·subst hid;rw[dB]at h;unfold kJ;rw[Ae rfl];exact h
   ·rw[dX _ _ hid]at h
    rw[oU hid (λht=>by have:=(hwf.con i ((hs.T i).1 ht)).2;rw[this]at h;cases h)]
    exact hs.K i o' h
  ·simp only[hs.U,bU,or_false]
   by_cases hid:i=id
   ·subst hid;simp[dB,hold]
   ·rw[dX _ _ hid]
 have wsub:∀{T2:Nat->Prop} {K2:Hp} {id:Nat} {ho:HO} (j:Nat) (o':HO),j≠id->kJ K2 T2 id ho j=some o'->K2 j=some o'/\¬T2 j:=by
  intro T2 K2 id ho j o' hj h;unfold kJ at h;rw[Ac hj]at h;split at h
  ·cases h
  ·exact⟨h,by assumption⟩
 have one1:∀{K2:Hp} {id:Nat} {old:HO},σ.H id=some old->K2 id=some old->∀i ob,(if i=id then σ.H id else none)=some ob->K2 i=some ob:=by
  intro K2 id old hold hK2 i ob h;split at h
  ·rename_i e;subst e;rw[hold]at h;rw[hK2];exact h
  ·cases h
 have val0:∀(av:AV),kind P o.op=0->nev P o.op σ.J σ.n=some (av,none)->k ⟨bS σ.J o.dst av,σ.H,σ.n⟩ con->eY ops o σ.J=some true ->
   ∀s,eZ σ con s->∃s',qT P G ops o s s'/\∃σ' con',k σ' con'/\(σ'.n=0->∀b,G.P0 b)/\Wf σ' con'/\eZ σ' con' s':=by
  intro av hk hnev h hw
  have e0:(λi=>i∈([]:List Nat))=bU:=funext λi=>by simp[bU]
  refine pure0 av [] σ.H rfl (λ_ h=>by cases h) h (λs hs=>?_) hw
  rw[e0]
  exact .inl ⟨hk,rfl,rfl,λT2 K2 _=>aFg (n:=σ.n) (by rw[hs.J];exact hnev)⟩
 split at h
 case h_3=>exact h.elim
 case h_2 hw =>
  have hwf':Wf ⟨bS σ.J o.dst .un,σ.H,σ.n⟩ con:=⟨hwf.top,hwf.con⟩
  exact λs hs=>⟨_,.no (by rw[hs.J];exact hw),_,_,h,hn0,hwf',⟨by rw[hs.J],hs.T,hs.K,hs.U⟩⟩
 case h_1 hw =>
 simp only[OW]at h
 unfold bIx at hnn
 split at hnn
 ·-- move
  rename_i x hop
  unfold O1 at h
  simp only[hop]at h
  obtain⟨hk,h⟩:=h
  split at h
  ·rename_i av nb hnev
   have e:nb=none:=by simp only[nev]at hnev;injection hnev with hnev;injection hnev with _ h2;exact h2.symm
   subst e
   exact val0 av (by rw[hop];exact hk) (by rw[hop];exact hnev) h hw
  ·exact h.elim
 ·-- assign
  rename_i x hop
  unfold O1 at h
  simp only[hop]at h
  obtain⟨hk,h⟩:=h
  split at h
  ·rename_i av nb hnev
   have e:nb=none:=by simp only[nev]at hnev;injection hnev with hnev;injection hnev with _ h2;exact h2.symm
   subst e
   exact val0 av (by rw[hop];exact hk) (by rw[hop];exact hnev) h hw
  ·exact h.elim
 ·-- a new element of a map
  rename_i t m x v hop
  unfold O1 at h
  simp only[hop]at h
  split at h
  ·rename_i id ho hst
   obtain⟨old,hm,hold,_⟩:=aDh hst
   obtain⟨ts,hts,hΓ⟩:=sG (J:=σ.J) (x:=m) (id:=id) (h:=.mp 0) (by rw[hm];rfl)
   refine write1 .any id ho old ts (by rw[hop];simp[AN,hts]) hΓ hold (by rw[hop];rfl) h (λT2 K2 hK2 hT2=>?_) hw
   refine aLb (H:=λi=>if i=id then σ.H id else none) (v:=some v) (id:=id) (ho:=ho) (.inl ⟨v,rfl,.inr hop⟩) (one1 hold hK2) ?_ hT2 (by unfold kJ;rw[Ae rfl]) wsub
   unfold tG at hst ⊢
   rw[hm]at hst ⊢
   simp only[B5]at hst ⊢
   exact hst
  ·exact h.elim
 ·-- load
  rename_i t x hop
  unfold O1 at h
  simp only[hop]at h
  split at h
  ·rename_i v hv
   refine pure0 v [] σ.H rfl (λ_ h=>by cases h) h (λs hs=>.inr (.inl ⟨by rw[hop];rfl,rfl,(λ_ h=>by cases h),(λ_ _ _ _ _ _ _ _ h=>by cases h),λT2 _=>?_⟩)) hw
   have:(λi=>i∈([]:List Nat))=bU:=funext λi=>by simp[bU]
   rw[this]
   refine aAe λF w ι a hR hops=>?_
   obtain⟨u,h1,h2⟩:=aDi (P:=P) hR hs.K hv (fD (J:=σ.J) (a:=a) λt e=>by rw[<-hs.J];exact hops t (by rw[hop];simp[AN,e]))
   exact⟨u,by simp only[execOp,hop,Sem.run_bind,h1];rfl,h2⟩
  ·exact h.elim
 ·-- store
  rename_i t ad x hop
  unfold O1 at h
  simp only[hop]at h
  split at h
  ·rename_i id ho hst
   obtain⟨off,old,hadp,hold⟩:=aIo hst
   obtain⟨ts,hts,hΓ⟩:=sG (J:=σ.J) (x:=ad) (id:=id) (h:=.ptr 0 off) (by rw[hadp];rfl)
   refine write1 .un id ho old ts (by rw[hop];simp[AN,hts]) hΓ hold (by rw[hop];rfl) h (λT2 K2 hK2 hT2=>?_) hw
   refine aXl (H:=λi=>if i=id then σ.H id else none) (id:=id) (ho:=ho) hop (one1 hold hK2) ?_ hT2 (by unfold kJ;rw[Ae rfl]) wsub
   unfold qK at hst ⊢
   rw[hadp]at hst ⊢
   simp only[B5]at hst ⊢
   exact hst
  ·exact h.elim
 ·-- conversion
  rename_i f t x hop
  unfold O1 at h
  simp only[hop]at h
  obtain⟨hk,h⟩:=h
  split at h
  ·rename_i av nb hnev
   obtain rfl:=yM hnev
   exact val0 av (by rw[hop];exact hk) (by rw[hop];exact hnev) h hw
  ·exact h.elim
 ·-- two operands
  rename_i b t x y u hop
  unfold O1 at h
  simp only[hop]at h
  obtain⟨hk,h⟩:=h
  split at h
  ·rename_i av nb hnev
   obtain rfl:=yM hnev
   exact val0 av (by rw[hop];exact hk) (by rw[hop];exact hnev) h hw
  ·exact h.elim
 ·-- an element's place
  rename_i t x y hop
  unfold O1 at h
  simp only[hop]at h
  obtain⟨hk,h⟩:=h
  split at h
  ·rename_i av nb hnev
   obtain rfl:=yM hnev
   exact val0 av (by rw[hop];exact hk) (by rw[hop];exact hnev) h hw
  ·exact h.elim
 ·-- a field's place
  rename_i t x y hop
  unfold O1 at h
  simp only[hop]at h
  obtain⟨hk,h⟩:=h
  split at h
  ·rename_i av nb hnev
   obtain rfl:=yM hnev
   exact val0 av (by rw[hop];exact hk) (by rw[hop];exact hnev) h hw
  ·exact h.elim
 ·-- call
  rename_i f args ts hop
  simp only[AO,Bool.not_eq_true']at hnn
  obtain⟨hmut,hnew⟩:=hnn
  unfold O1 at h
  simp only[hop]at h
  unfold OC at h
  rw[hmut]at h
  simp only[A1,BY]at h
  have hkd:kind P o.op=1:=by rw[hop];simp[kind,hmut]
  rcases h with ⟨h1,_⟩|h
  ·rw[hnew]at h1;cases h1
  split at h
  ·rename_i g id hargs
   obtain⟨x,hx,hxe⟩:∃x,args.toList=[x]/\oev σ.J x=.kf g id:=by
    cases hl:args.toList with
    |nil=>rw[hl]at hargs;cases hargs
    |cons x l =>
     rw[hl]at hargs;cases l with
     |nil=>simp only[A0,List.map_nil,List.cons.injEq,and_true]at hargs;exact⟨x,rfl,hargs⟩
     |cons y l=>simp at hargs
   split at h
   ·rename_i es hH
    obtain⟨hn,hrr,hss,h⟩:=h
    refine pure0 _ [] σ.H rfl (λ_ h=>by cases h) h (λs hs=>.inr (.inl ⟨hkd,rfl,(λ_ h=>by cases h),(λ_ _ _ _ _ _ _ _ h=>by cases h),λT2 _=>?_⟩)) hw
    have:(λi=>i∈([]:List Nat))=bU:=funext λi=>by simp[bU]
    rw[this]
    exact aNu (J:=s.J) hop hx hs.K (by rw[hs.J];exact hxe) hH hn hrr hss
   ·exact h.elim
  ·obtain⟨ds,r,hfr,hsp,h⟩:=h
   refine pure0 (inj r) (bR σ.H (args.toList.map (oev σ.J)) r) _ rfl (λid hid=>by obtain⟨o',ho'⟩:=jT hid;rw[ho'];rfl) h (λs hs=>.inr (.inl ⟨hkd,rfl,λid hid ht=>?_,λF w ι T2 a hR hops id hid=>?_,λT2 hT2=>?_⟩)) hw
   ·obtain⟨o',ho'⟩:=jT hid
    have:=(hwf.con id ((hs.T id).1 ht)).2
    rw[this]at ho';cases ho'
   ·refine aKn (J:=σ.J) (a:=a) (r:=r) hR hs.K hfr (λx hx=>fD λt e=>?_) id hid
    rw[<-hs.J];exact hops t (by rw[hop];subst e;simp[AN,Call.operands];simpa using hx)
   ·have:=bEz (P:=P) (G:=G) (J:=s.J) (C:=T2) (K:=s.K) (H:=σ.H) (o:=o) (r:=r) hop hs.K (by rw[hs.J];exact hfr) hsp (by rw[hs.J];exact hT2)
    rw[hs.J]at this ⊢
    exact this
 ·cases hnn
def aKx{k:St->List Nat->Prop}:∀(n:Nat) (listed:Array Bool) (t:Tr) (σ:St) (con:List Nat),zT P ops n listed t=true->(σ.n=0->∀b,G.P0 b)->Wf σ con->OWT P ops t σ con k ->
  ∀s,eZ σ con s->aNl P G ops (λs'=>∃σ' con',k σ' con'/\(σ'.n=0->∀b,G.P0 b)/\Wf σ' con'/\eZ σ' con' s') n listed s
 |0,listed,t,σ,con,hc,hn0,hwf,h,s,hs=>by cases t<;>simp only[zT,A1]at hc;exact⟨by simpa using hc,σ,con,h,hn0,hwf,hs⟩
 |n+1,listed,t,σ,con,hc,hn0,hwf,h,s,hs=>by
  have step:∀(i:Nat) (u:Tr),aRc P ops i=true->zT P ops n (listed.setIfInBounds i true) u=true->(OW P ops (opL ops i) σ con λσ' con'=>OWT P ops u σ' con' k) ->
    aOp P G ops i (aNl P G ops (λs'=>∃σ' con',k σ' con'/\(σ'.n=0->∀b,G.P0 b)/\Wf σ' con'/\eZ σ' con' s') n (listed.setIfInBounds i true)) s:=by
   intro i u hn hcu hu
   unfold aRc at hn
   split at hn
   case h_2=>cases hn
   rename_i o ho
   rw[aYo ho]at hu
   obtain⟨s',hd,σ',con',hk,hn',hwf',hs'⟩:=cDy hn hn0 hwf hu s hs
   unfold aOp
   simp only[ho]
   exact .inr ⟨s',hd,aKx n _ u σ' con' hcu hn' hwf' hk s' hs'⟩
  cases t with
  |leaf=>simp only[zT,A1]at hc
  |one i u =>
   simp only[zT,AO,CK]at hc;refine⟨λhe=>(by rw[he]at hc;cases hc.1.1),λj hj=>?_⟩;rw[hc.1.1,AT]at hj;subst hj;exact step j u hc.1.2 hc.2 h
  |two i u j v =>
   simp only[zT,AO,CK]at hc;obtain⟨⟨⟨⟨hr,hi⟩,hj⟩,hu⟩,hv⟩:=hc;refine⟨λhe=>(by rw[he]at hr;cases hr),λm hm=>?_⟩;rw[hr]at hm;rcases AG.1 hm with rfl|hm
   ·exact step m u hi hu h.1
   ·rw[AT]at hm;subst hm;exact step m v hj hv h.2
  |three i u j v m w =>
   simp only[zT,AO,CK]at hc;obtain⟨⟨⟨⟨⟨⟨hr,hi⟩,hj⟩,hm'⟩,hu⟩,hv⟩,hw⟩:=hc;refine⟨λhe=>(by rw[he]at hr;cases hr),λq hq=>?_⟩;rw[hr]at hq;rcases AG.1 hq with rfl|hq
   ·exact step q u hi hu h.1
   rcases AG.1 hq with rfl|hq
   ·exact step q v hj hv h.2.1
   ·rw[AT]at hq;subst hq;exact step q w hm' hw h.2.2
end
def aKv{P:Program}{G:Ctx}{ops:Array Oper}{Q Q':AS->Prop}(h:∀s,Q s->Q' s):∀(l:List Oper) (s:AS),aBq P G ops Q l s->aBq P G ops Q' l s
 |[],s,hh=>h s hh
 |o::l,s,⟨s',hd,hh⟩=>⟨s',hd,aKv h l s' hh⟩
def aBv{P:Program}{WW:Code->(Exit->Act->World->Prop)->Act->World->Prop}(hW:WpR P false WW){G:Ctx}{id N:Nat}{ds:List Deferred}{ops:Array Oper}{pre:List Nat}{t:Tr}{Q:St->Prop}{Q':Exit->Act->World->Prop}{σ:St}{a:Act}{w:World}(hm:P.follows .mixedOrders=true)
  (hdst:∀(i:Nat) (o:Oper) (d:Tmp),ops[i]? = some o->o.dst=some d->d<N/\G.Z d=none) (hB:aLl P ops pre t=true) (hsr:SR G N ds σ a w)
  (h:OW P ops (opsL ops pre) σ [] λσ1 con1=>OWT P ops t σ1 con1 λσ' con=>Q (fin σ' con)) (hQ:∀σ a w,Q σ->SR G N ds σ a w->Q' .normal a w):WW (.region id ops true) Q' a w:=by
 unfold aLl at hB
 split at hB
 case h_2=>cases hB
 rename_i l1 hl1
 simp only[AO,AI]at hB
 obtain⟨⟨hnx,hlen⟩,hchk⟩:=hB
 obtain⟨hn0,hwf,hag⟩:=aAd hsr
 obtain⟨fb,hfb⟩:=uU (G:=G) (opsL ops pre) σ [] hnx hn0 hwf h
 obtain⟨h1,h2⟩:=hag (λi=>if i<σ.n then σ.H i else fb i) (λi o hi=>by
  rcases Bd i σ.n with hlt|hge
  ·rw[Ae hlt];exact hi
  ·rw[hwf.top i hge]at hi;cases hi)
 have h3:=hfb _ h1 (λi hi=>by simp only;rw[Ac (by omega)])
 have hQ2:∀(s:AS) (a:Act) (w:World),(∃σ' con',Q (fin σ' con')/\(σ'.n=0->∀b,G.P0 b)/\Wf σ' con'/\eZ σ' con' s)->sQ G N ds s a w->Q' .normal a w:=by rintro s a w ⟨σ',con',hq,hn',hwf',hag'⟩ hr;exact hQ _ a w hq (aNq hn' hwf' hag' hr)
 refine hW.regA hm (λh=>by cases h) (pZ hdst hQ2 _ _ _ a _ h2.drew ?_)
 have h4:=aTm (P:=P) (G:=G) (n:=ops.size-pre.length) (l1:=l1) pre (BG ops.size false) _ (λm om hm=>by simp only[Array.getD_eq_getD_getElem?,Array.getElem?_replicate]at hm;split at hm<;>cases hm) hl1
  (aKv (λs' ⟨σ1,con1,hk,hn1,hwf1,hs1⟩ _=>aKx _ _ _ σ1 con1 hchk hn1 hwf1 hk s' hs1) _ _ h3)
 rw[show pre.length+(ops.size-pre.length)=ops.size by omega]at h4
 exact h4
inductive Fl where
 |st
 |wk
 |tr (pre:List Nat) (t:Tr)
def aCp(P:Program):List Fl->Code->St->(Exit->St->Prop)->Prop
 |[],c,σ,Q=>AWP P c σ Q
 |.wk::l,c,σ,Q=>∃σ2,WkR σ σ2/\aCp P l c σ2 Q
 |.st::l,.seq x y,σ,Q=>AWP P x σ λe σ'=>match e with|.normal=>aCp P l y σ' Q|e=>Q e σ'
 |.tr pre t::l,.seq (.region _ ops true) y,σ,Q=>OW P ops (opsL ops pre) σ [] λσ1 con1=>OWT P ops t σ1 con1 λσ' con=>aCp P l y (fin σ' con) Q
 |_::_,_,_,_=>False
def aVj(P:Program):List Fl->Code->Bool
 |[],c=>eC P c
 |.wk::l,c=>aVj P l c
 |.st::l,.seq x y=>eC P x&&aVj P l y
 |.tr pre t::l,.seq (.region _ ops true) y=>aLl P ops pre t&&aVj P l y
 |_::_,_=>false
section
variable {P:Program} {G:Ctx} {N:Nat} {ds:List Deferred}
def aXi(hm:P.follows .mixedOrders=true)(hZ:∀d,G.Z d=none):∀(l:List Fl) (c:Code) (Q:Exit->St->Prop) (σ:St) (a:Act) (w:World),dK N c=true->aVj P l c=true->aCp P l c σ Q->SR G N ds σ a w ->
  c.wp P (λe a' w'=>∃σ',Q e σ'/\SR G N ds σ' a' w') a w:=by
 intro l
 induction l with
 |nil=>intro c Q σ a w hd hl h hs;exact iC hm hZ c Q σ a w hd hl h hs
 |cons f l ih =>
  intro c Q σ a w hd hl h hs
  cases f with
  |wk =>
   obtain⟨σ2,hw,h⟩:=h
   exact ih c Q σ2 a w hd hl h (pS hw hs)
  |st =>
   cases c with
   |seq x y =>
    simp only[dK,aVj,AO]at hd hl
    refine wp_seq (wp_mono (iC hm hZ x _ _ a w hd.1 hl.1 h hs) ?_)
    rintro e a' w' ⟨σ1,hq,hs'⟩
    cases e with
    |normal=>exact ih y Q σ1 a' w' hd.2 hl.2 hq hs'
    |_=>exact⟨σ1,hq,hs'⟩
   |_=>exact h.elim
  |tr pre t =>
   cases c with
   |seq x y =>
    cases x with
    |region id ops draw =>
     cases draw with
     |true =>
      simp only[dK,aVj,AO]at hd hl
      refine wp_seq ?_
      refine aBv (WpR.plain P) (Q:=λσ'=>aCp P l y σ' Q) hm (λi o d hi ho=>⟨qG hd.1 i o d hi ho,hZ d⟩) hl.1 hs h ?_
      intro σ' a' w' hq hs'
      exact ih y Q σ' a' w' hd.2 hl.2 hq hs'
     |false=>exact h.elim
    |_=>exact h.elim
   |_=>exact h.elim
def aUj {f N:Nat} {fn:Func} {g:FuncId} {r0 rd rest:Code} {args:List D} {r:D} (l:List Fl) (hm:P.follows .mixedOrders=true) (hf:P.funcs[f]? = some fn) (hb:fn.body=some (.seq r0 (.seq rd rest))) (hname:(fn.name == "runtime.NumGoroutine")=false)
  (hN:fn.ntmps=N) (hd0:dK N r0=true) (hl0:eC P r0=true) (hd1:dK N rest=true) (hl1:aVj P l rest=true) (hg:qJ rd=some g) (hrec:gQ P g) (ha:args.length<=N)
  (h:AWP P r0 (St0 args N) λe σ0=>e=.normal/\aCp P l rest σ0 λe σ=>(e=.normal\/e=.ret)/\mU P fn.results.toList σ=some r):Spec P f args r:=by
 intro A W vs hA hl hv
 have hn:¬ fn.name = "runtime.NumGoroutine" := by simpa using hname
 refine⟨λw=>by simp[callFunc,hf,hn,hb],?_⟩
 refine calls_of_wp_defers hf hb ?_
 subst hN
 refine wp_seq (wp_mono (iC hm (λ_=>rfl) r0 _ _ _ _ hd0 hl0 h (SR0 hA hl hv ha)) ?_)
 rintro e a w ⟨σ0,⟨rfl,h1⟩,hs0⟩
 refine wp_seq (rS hg ?_)
 refine wp_mono (aXi hm (λ_=>rfl) l rest _ _ _ _ hd1 hl1 h1 (aAc { target:=.fn (.func g) #[],args:=#[] } hs0)) ?_
 rintro e a w ⟨σ,⟨he,hr⟩,hs⟩
 rcases he with rfl|rfl<;>exact sC hrec hs hr
end
def eE(P:Program)(c:Code)(σ:St)(Q:Exit->St->Prop):aCp P [] c σ Q=AWP P c σ Q:=rfl
def mJ(P:Program)(l:List Fl)(x y:Code)(σ:St)(Q:Exit->St->Prop):aCp P (.st::l) (.seq x y) σ Q=AWP P x σ λe σ'=>match e with|.normal=>aCp P l y σ' Q|e=>Q e σ':=rfl
inductive Tro where
 |leaf
 |one (l:List Oper) (t:Tro)
 |two (l:List Oper) (t:Tro) (m:List Oper) (u:Tro)
 |three (l:List Oper) (t:Tro) (m:List Oper) (u:Tro) (q:List Oper) (v:Tro)
def mE(ops:Array Oper):Tr->Tro
 |.leaf=>.leaf
 |.one i t=>.one (opL ops i) (mE ops t)
 |.two i t j u=>.two (opL ops i) (mE ops t) (opL ops j) (mE ops u)
 |.three i t j u m v=>.three (opL ops i) (mE ops t) (opL ops j) (mE ops u) (opL ops m) (mE ops v)
def pX(P:Program)(ops:Array Oper):Tro->St->List Nat->(St->List Nat->Prop)->Prop
 |.leaf,σ,con,k=>k σ con
 |.one l t,σ,con,k=>OW P ops l σ con λσ' con'=>pX P ops t σ' con' k
 |.two l t m u,σ,con,k=>(OW P ops l σ con λσ' con'=>pX P ops t σ' con' k)/\(OW P ops m σ con λσ' con'=>pX P ops u σ' con' k)
 |.three l t m u q v,σ,con,k=>(OW P ops l σ con λσ' con'=>pX P ops t σ' con' k)/\(OW P ops m σ con λσ' con'=>pX P ops u σ' con' k)/\(OW P ops q σ con λσ' con'=>pX P ops v σ' con' k)
def nQ(P:Program)(ops:Array Oper):∀(t:Tr) (σ:St) (con:List Nat) (k:St->List Nat->Prop),OWT P ops t σ con k=pX P ops (mE ops t) σ con k
 |.leaf,_,_,_=>rfl
 |.one i t,σ,con,k=>by simp only[OWT,pX,mE];exact congrArg _ (funext λσ'=>funext λcon'=>nQ P ops t σ' con' k)
 |.two i t j u,σ,con,k=>by simp only[OWT,pX,mE];exact congr (congrArg And (congrArg _ (funext λσ'=>funext λcon'=>nQ P ops t σ' con' k))) (congrArg _ (funext λσ'=>funext λcon'=>nQ P ops u σ' con' k))
 |.three i t j u m v,σ,con,k=>by simp only[OWT,pX,mE];exact congr (congrArg And (congrArg _ (funext λσ'=>funext λcon'=>nQ P ops t σ' con' k))) (congr (congrArg And (congrArg _ (funext λσ'=>funext λcon'=>nQ P ops u σ' con' k))) (congrArg _ (funext λσ'=>funext λcon'=>nQ P ops v σ' con' k)))
def bOi(P:Program)(ops:Array Oper)(l:List Oper)(t:Tro)(σ:St)(k:St->Prop)(_:Dm k):Prop:=OWd P ops l σ [] (λσ1 con1=>pX P ops t σ1 con1 λσ' con=>aIf σ' con k .mk) .mk
def wF{P:Program}{fl:List Fl}{pre:List Nat}{t:Tr}{id:Nat}{ops:Array Oper}{y:Code}{σ:St}{Q:Exit->St->Prop}(l:List Oper)(t':Tro)(h1:opsL ops pre=l)(h2:mE ops t=t')
  (h:bOi P ops l t' σ (λσ'=>aCp P fl y σ' Q) .mk):aCp P (.tr pre t::fl) (.seq (.region id ops true) y) σ Q:=by
 subst h1;subst h2
 show OW P ops (opsL ops pre) σ [] λσ1 con1=>OWT P ops t σ1 con1 λσ' con=>aCp P fl y (fin σ' con) Q
 simp only[nQ]
 exact h
def dN(P:Program)(ops:Array Oper)(l:List Oper)(t:Tro)(σ:St)(k:St->Prop)(d:Dm k):bOi P ops l t σ k d=OWd P ops l σ [] (λσ1 con1=>pX P ops t σ1 con1 λσ' con=>aIf σ' con k .mk) .mk:=rfl
def cU(P:Program)(ops:Array Oper)(σ:St)(con:List Nat)(k:St->List Nat->Prop):pX P ops .leaf σ con k=k σ con:=rfl
def dP(P:Program)(ops:Array Oper)(l:List Oper)(t:Tro)(σ:St)(con:List Nat)(k:St->List Nat->Prop):pX P ops (.one l t) σ con k=OWd P ops l σ con (λσ' con'=>pX P ops t σ' con' k) .mk:=rfl
def dO(P:Program)(ops:Array Oper)(l:List Oper)(t:Tro)(m:List Oper)(u:Tro)(σ:St)(con:List Nat)(k:St->List Nat->Prop):pX P ops (.two l t m u) σ con k=(OWd P ops l σ con (λσ' con'=>pX P ops t σ' con' k) .mk/\OWd P ops m σ con (λσ' con'=>pX P ops u σ' con' k) .mk):=rfl
def aEy(P:Program)(ops:Array Oper)(l:List Oper)(t:Tro)(m:List Oper)(u:Tro)(q:List Oper)(v:Tro)(σ:St)(con:List Nat)(k:St->List Nat->Prop):pX P ops (.three l t m u q v) σ con k=(OWd P ops l σ con (λσ' con'=>pX P ops t σ' con' k) .mk/\OWd P ops m σ con (λσ' con'=>pX P ops u σ' con' k) .mk/\OWd P ops q σ con (λσ' con'=>pX P ops v σ' con' k) .mk):=rfl
end Go.Am
end
section
open List renaming map_map->O,mapM_map->X
open Go Go.Am Go.Proofs
namespace Go.Am
def bXc:gQ Aa 206:=aEr Tryz.func206 (by kernel_rfl) rfl rfl rfl
def pH(l:Ch)(n:Int):Int:=l.foldl (λa f=>if f.1=n then f.2 else a) 0
def aVm{l:Ch}{i:Nat}(h:i<l.length)(n:Int):pH (l.take (i+1)) n=if l[i].1=n then l[i].2 else pH (l.take i) n:=by unfold pH;rw[AM,Ab h,Dk];rfl
def bDb{l:Ch}{n:Int}:pH l n=0\/∃f∈l,pH l n=f.2:=by
 unfold pH
 suffices ∀(l:Ch) (a:Int),l.foldl (λa f=>if f.1=n then f.2 else a) a=a\/∃f∈l,l.foldl (λa f=>if f.1=n then f.2 else a) a=f.2 from this l 0
 intro l;induction l with
 |nil=>intro a;exact .inl rfl
 |cons f l ih =>
  intro a;rw[List.foldl_cons];rcases ih (if f.1=n then f.2 else a)with h|⟨g,hg,h⟩
  ·rw[h];by_cases e:f.1=n
   ·rw[Ae e];exact .inr ⟨f,Av ..,rfl⟩
   ·rw[Ac e];exact .inl rfl
  ·exact .inr ⟨g,As _ hg,h⟩
def bDc{l:Ch}{M:Nat}(h:Bnd M l)(n:Int):(pH l n).natAbs<=M:=by
 rcases bDb (l:=l) (n:=n)with e|⟨f,hf,e⟩
 ·rw[e];exact Ak _
 ·rw[e];exact h f hf
def aKb{c:List Cl}{e:Nat}(hz:SzX e c):(jL c).length<=10000:=by
 have:∀d:List Cl,(∀x∈d,x∈c)->(d.flatMap (lE c)).length<=100*d.length:=by
  intro d;induction d with
  |nil=>intro _;simp
  |cons x d ih =>
   intro h;rw[Cz,Al,AH];have h1:=ih λy hy=>h y (As _ hy)
   have h2:=hz.bl x (h x (Av ..));have h3:(lE c x).length<=x.b.length:=by
    unfold lE;split
    ·simp
    ·rw[AL];exact Ct _ _
   omega
 have h1:=this c λ_ h=>h
 have h2:=hz.len;unfold jL;omega
def xM(l:List (Int×Int)):inj (fR l)=.d (fR l):=rfl
def sD(H:Hp)(avs:List AV)(l:List (Int×Int)):bR H avs (fR l)=fK H avs:=rfl
def bLl{c:List Cl}{a b:Int}(h:(a,b)∈jL c):a≠b:=by
 unfold jL at h;obtain⟨x,hx,h⟩:=List.mem_flatMap.1 h;unfold lE at h;split at h
 ·cases h
 ·rename_i h0;obtain⟨f,hf,he⟩:=AA.1 h;injection he with h1 h2
  have h3:=(Bh.1 hf).2;unfold tI at h3;simp only[AO,AI]at h3;intro hab;rw[h2,<-hab,<-h1]at h3;omega
def aJs{c:List Cl}{a b:Int}{r:Ch}(h:a≠b):eF c [(b,r),(a,[])]=eF c [(a,[]),(b,r)]:=by
 unfold eF;refine BJ λx _=>?_
 unfold mD;by_cases h1:b=x.id
 ·have h2:¬a=x.id:=λe=>h (e.trans h1.symm)
  simp[DM,h1,h2]
 ·by_cases h2:a=x.id<;>simp[DM,h1,h2]
def aYw{a b:Int}(h:a≠b)(v w:AV):rZ [(a,v)] b w=[(a,v),(b,w)]:=by simp[rZ,iP,List.findIdx?_cons,h]
def jD(cell face:Int)(z:Cl):Bool:=!decide (z.id=cell) && !decide (z.id=face)
def kL(c:List Cl)(cell face:Int):List Cl:=c.filter (jD cell face)
def aBm{c:List Cl}{i:Nat}(h:i<c.length)(a b:Int):kL (c.take (i+1)) a b=kL (c.take i) a b++if jD a b c[i]then[c[i]]else[]:=by unfold kL;rw[AM,Ab h,BO];congr 1;by_cases e:jD a b c[i]=true<;>simp[e]
def zP(c:List Cl)(a b:Int):(kL c a b).length<=c.length:=Ct _ _
def rD(z n:Int)(l:Ch):Ch:=(l.filter λf=>!decide (f.1=n)).map λf=>(f.1,z*f.2)
def bCh{l:Ch}{i:Nat}(h:i<l.length)(z n:Int):rD z n (l.take (i+1))=rD z n (l.take i)++if l[i].1=n then[]else[(l[i].1,z*l[i].2)]:=by unfold rD;rw[AM,Ab h,BO,Bt];congr 1;by_cases e:l[i].1=n<;>simp[e]
def aEz(z n:Int)(l:Ch):(rD z n l).length<=l.length:=by unfold rD;rw[AL];exact Ct _ _
def aQq{z n:Int}{l:Ch}{K M:Nat}(hz:z.natAbs<=K)(h:Bnd M l):Bnd (K*M) (rD z n l):=λx hx=>by unfold rD at hx;obtain⟨f,hf,rfl⟩:=AA.1 hx;rw[BV];exact Cp hz (h f (Bh.1 hf).1)
def bCi{z n:Int}{l:Ch}(h:Keys l):Keys (rD z n l):=λx hx=>by unfold rD at hx;obtain⟨f,hf,rfl⟩:=AA.1 hx;exact h f (Bh.1 hf).1
def bUe(l:Ch)(face:Int):Ch:=rD (-pH l face) face l
def aNb(c:List Cl)(cell face:Int):List (Int×Ch):=[(cell,[]),(face,cE [] (bUe (bOf c cell) face))]
def xR(c:List Cl)(cell face:Int):List Cl×List (Int×Ch)×Int :=
 if(bG c cell).isSome=false\/(bG c face).isSome=false then([],[],250)else if(cell,face) ∉ jL c then([],[],310)else(kL c cell face,eF c (aNb c cell face),0)
def vE{H H':Hp}{ρ:Nat->Nat}:pR H H' ρ .nil (.d (.sl []))↔True:=⟨λ_=>trivial,λ_=>⟨rfl,λa ha=>by simp[vis]at ha⟩⟩
def aSs:aK []=.sl []:=rfl
def aOu{H H':Hp}{ρ:Nat->Nat}:Sub H H' ρ .nil (.d (.sl []))↔True:=vE
def aLm{H:Hp}{ρ:Nat->Nat}{t:TypeId}{id n:Nat}{l:Ch}(hn:l.length=n)(hH:H id=some (.cells t ((flt eL l).map .d))):Sub H (pW 1 []) ρ (.own id 0 n 3) (.d (aK l)):=by
 refine qA ?_ λa _ id h=>by simp[pW]at h
 have e1:=dH dD hn;have e2:=cV (by decide) dD hn;have e3:=bJ dD l;rw[hn]at e3;rw[jA,hH];simp only[Cw,A5,BZ,e1,lX,A4,e2];rw[Ae ⟨by rw[AL];omega,by omega⟩];rfl
def bVx:List Fl:=[.st,.st,.st,.st,.st,.st,.st,.st,.st,.st]
def xE:Tr:=.one 9 (.one 10 (.one 11 (.one 12 (.one 13 .leaf))))
def aEe:Tr:=.two 4 (.one 7 (.one 8 xE)) 7 (.two 4 (.one 8 xE) 8 (.one 4 xE))
def cBy:List Fl:=bVx++[.tr [0,1,2,3,5,6] aEe]
def aVh{c:List Cl}{e:Nat}(a b:Int)(hc:Inc c)(hz:SzX e c)(hk:∀x∈c,Keys x.b)(he:e+e+14<4398046511104):Spec Aa 205 [aE c,.i .i64 a,.i .i64 b] (fU (xR c a b)):=by
 have hlen:=hz.len;have hFa:=sM hc a (by omega);have hFb:=sM hc b (by omega);have hFr:=bYa hz (by omega);have hfl:=aKb hz;have hCt:=cEe (jL c) a b (by omega);have hr:∃p x q y,(bG c a).isSome=p/\(bG c a).getD lA=x/\(bG c b).isSome=q/\(bG c b).getD lA=y:=⟨_,_,_,_,rfl,rfl,rfl,rfl⟩;obtain⟨p,x,q,y,hp,hx,hq,hy⟩:=hr;have hba:bOf c a=x.b:=by unfold bOf;rw[hx]
 have hxl:x.b.length<=100:=by rw[<-hba];exact nM hz.bl a
 have hxb:Bnd (2^e) x.b:=by rw[<-hba];exact mI hz.bb a
 unfold oP at hFa hFb;rw[hp,hx]at hFa;rw[hq,hy]at hFb;unfold xR aNb;rw[hp,hq,hba];refine aUj (N:=114) cBy bL Tryz.func205 rfl rfl rfl (by kernel_rfl) (by kernel_rfl) (by kernel_rfl) (by kernel_rfl) rfl bXc (by simp) ?_;simp[-O,-X,↓KW,aE,cBy,bVx,↓mJ];refine aJ hFa ?_;simp[-O,-X,↓KW,aE,aR,aC,aA,aB,↓mJ];refine aJ hFb ?_;cases p with
 |false=>simp[-O,-X,↓KW,aE,aR,aC,aA,aB,eW,fU,dI,↓mJ]
 |true =>
  cases q with
  |false=>simp[-O,-X,↓KW,aE,aR,aC,aA,aB,eW,fU,dI,↓mJ]
  |true =>
   simp[-O,-X,↓KW,aE,aR,aC,aA,aB,↓mJ];refine aJ hFr ?_;simp[-O,-X,↓KW,aE,aR,aC,aA,aB,xM,sD,↓mJ];refine aJ hCt ?_;by_cases hin:(a,b)∈jL c
   rotate_left
   ·rw[Br hin];simp[-O,-X,↓KW,aE,aR,aC,aA,aB,xM,sD,eW,fU,dI,hin,↓mJ]
   ·rw[BD hin];have hkx:Keys x.b:=by
     cases hfx:bG c a with
     |none=>rw[hfx]at hp;cases hp
     |some x' =>
      rw[hfx]at hx;have:x'=x:=hx;subst this;exact hk _ (dE hfx).1
    have hne:=bLl hin;clear hFa hFb hFr hCt hp hq hx hy hfl;simp[-O,-X,↓KW,aE,aK,aR,aC,aA,aB,xM,sD,↓mJ];refine aP (λi:Nat=>i<=x.b.length) (λi=>StL [(0,.d (aE c)),(1,.d (.i .i64 a)),(2,.d (.i .i64 b)),(9,.ptr 1 0),(13,.ptr 2 0),(48,.d (aK x.b)),(49,.d (.i .i64 x.b.length)),(50,.d (.i .i64 (i:Int)))] none [.cells 40 [.d (.i .i64 x.id),.d (.i .i64 x.dim),.d (aK x.b)],.cells 72 [.d (.b (decide (pH (x.b.take i) b<0))),.d (aM (aU (pH (x.b.take i) b).natAbs))]]) (λi=>x.b.length-i) 0 (Ak _) ?_ ?_
    ·refine wkQ [1,3] ?_ ?_<;>simp[-O,upd,aO,Γ0,aE,aK,pH,dG,aM,vE]
    ·intro i hi;by_cases hgo:i<x.b.length
     ·have q1:(i:Int)<x.b.length:=by omega
      have hf:x.b[i]? = some x.b[i]:=Ab hgo;have hw:Ag.wrap ((i:Int)+1)=(i:Int)+1:=aV;have htk:=aVm hgo b;refine exE x.b[i] λf hfe=>?_
      rw[hfe]at hf htk;refine exE (pH (x.b.take i) b) λz hze=>?_
      rw[hze]at htk;simp only[hze];have hef:eL f=[.i .i64 f.1,.b (decide (f.2<0)),aM (aU f.2.natAbs)]:=rfl;by_cases h0:f.1=b
      ·have h0':((f.1==b):Bool)=true:=by simpa using h0
       rw[Ae h0]at htk;have q3:(((b:Int)==(b:Int)):Bool)=true:=by simp
       simp[-O,-X,↓KW,aE,aK,q1,hf,hef,h0,h0',q3,hw,aF,aD,aG,aC,aA,aB];refine aI (i+1) hgo (slQ hgo) (wkQ [1,2] ?_ ?_)<;>simp[-O,upd,aO,Γ0,aE,aK,htk]
      ·have h0':((f.1==b):Bool)=false:=by simpa using h0
       rw[Ac h0]at htk;simp[-O,-X,↓KW,aE,aK,q1,hf,hef,h0,h0',hw,aF,aD,aG,aC,aA,aB];refine aI (i+1) hgo (slQ hgo) (wkQ [1,2] ?_ ?_)<;>simp[-O,upd,aO,Γ0,aE,aK,htk]
     ·have q1:¬(i:Int)<x.b.length:=by omega
      rw[Ai (by omega)];have hzb:=bDc hxb b;refine exE (pH x.b b) λz hze=>?_
      rw[hze]at hzb;have hNg:=bSt z (szE hzb (by omega));obtain⟨zn,hzn⟩:∃zn,-z=zn:=⟨_,rfl⟩;have hzb':zn.natAbs<=2^e:=by rw[<-hzn,CQ];exact hzb
      have hcol:bUe x.b b=rD zn b x.b:=by unfold bUe;rw[hze,hzn]
      rw[hzn]at hNg;clear hzn;simp only[hze];simp[-O,-X,↓KW,aE,aK,q1,aC,aA,aB,aF,aD,aG,↓mJ];refine aP (λy:Nat×Ch=>y.1<=x.b.length/\rD zn b (x.b.take y.1)=y.2) (λy=>sI 16 [(0,.d (aE c)),(1,.d (.i .i64 a)),(2,.d (.i .i64 b)),(13,.ptr 1 0),(62,.d (aK x.b)),(63,.d (.i .i64 x.b.length)),(64,.d (.i .i64 (y.1:Int)))] (.cells 72 [.d (.b (decide (z<0))),.d (aM (aU z.natAbs))]) 75 3 y.2.length (flt eL y.2)) (λy=>x.b.length-y.1) (0,[]) ⟨Ak _,rfl⟩ ?_ ?_
      ·simp only[Bo,sI];refine wkQ [2] ?_ ?_<;>simp[-O,upd,aO,Γ0,aE,aK,dY]
      ·rintro⟨j,l⟩ ⟨hj,hl⟩;simp only at hj hl ⊢;by_cases hgo:j<x.b.length
       ·have q1:(j:Int)<x.b.length:=by omega
        have hf:x.b[j]? = some x.b[j]:=Ab hgo;have hw:Ag.wrap ((j:Int)+1)=(j:Int)+1:=aV;have htk:=bCh hgo zn b;rw[hl]at htk;have hll:l.length<=j:=by rw[<-hl];exact An (aEz _ _ _) (by rw[Ax];omega)
        have hfb:=hxb _ (Ar hgo);refine exE x.b[j] λf hfe=>?_
        rw[hfe]at hf htk hfb;have hef:eL f=[.i .i64 f.1,.b (decide (f.2<0)),aM (aU f.2.natAbs)]:=rfl;have hm1:(1:Nat)<=maxLen:=aS (by decide);by_cases h0:f.1=b
        ·have h0':((f.1 != b):Bool)=false:=by simpa using h0
         rw[Ae h0,AX]at htk;have q3:(((b:Int) != (b:Int)):Bool)=false:=by simp
         rcases hn:l.length with _|k
         ·simp only[hn,sI];simp[-O,-X,↓KW,aE,aK,q1,hf,hef,h0,h0',q3,hw,aF,aD,aG,aC,aA,aB];refine aI (τ:=Nat×Ch) (j+1,l) ⟨hgo,htk⟩ (slQ hgo) ?_;simp only[hn,sI];refine wkQ [1] ?_ ?_<;>simp[-O,upd,aO,Γ0,aE,aK,dY]
         ·simp only[hn,sI];simp[-O,-X,↓KW,aE,aK,q1,hf,hef,h0,h0',q3,hw,aF,aD,aG,aC,aA,aB];refine aI (τ:=Nat×Ch) (j+1,l) ⟨hgo,htk⟩ (slQ hgo) ?_;simp only[hn,sI];refine wkQ [1,2] ?_ ?_<;>simp[-O,upd,aO,Γ0,aE,aK,dY]
        ·have h0':((f.1 != b):Bool)=true:=by simpa using h0
         rw[Ac h0]at htk;have hMu:=aMn zn f.2 (uL hzb' (by omega)) (uL hfb (by omega));rcases hn:l.length with _|k
         ·have e0:l=[]:=AE hn;simp only[hn,sI];simp[-O,-X,↓KW,aE,aK,q1,hf,hef,h0,h0',hw,aF,aD,aG,aC,aA,aB];refine aJ hNg ?_;simp[-O,-X,↓KW,aE,aK,aY,q1,hf,hef,h0,h0',hw,aF,aD,aG,aC,aA,aB];refine aJ hMu ?_;simp[-O,-X,↓KW,aE,aK,aY,q1,hf,hef,h0,h0',hw,hm1,aF,aD,aG,aC,aA,aB];refine aI (τ:=Nat×Ch) (j+1,l++[(f.1,zn*f.2)]) ⟨hgo,htk⟩ (slQ hgo) ?_;simp only[Al,hn,Au,sI];refine wkQ [1,4] ?_ ?_<;>simp[-O,upd,aO,Γ0,aE,aK,bE,e0,cF]
         ·have hbb:=cG (n:=k+1) (by omega);have hcl:=bJ dD l;rw[hn]at hcl;have hal:=dA jV l;simp only[hn,sI];simp[-O,-X,↓KW,aE,aK,q1,hf,hef,h0,h0',hw,aF,aD,aG,aC,aA,aB];refine aJ hNg ?_;simp[-O,-X,↓KW,aE,aK,aY,q1,hf,hef,h0,h0',hw,aF,aD,aG,aC,aA,aB];refine aJ hMu ?_;simp[-O,-X,↓KW,aE,aK,aY,q1,hf,hef,h0,h0',hw,hm1,hbb,hcl,hal,aS,aF,aD,aG,aC,aA,aB];refine aI (τ:=Nat×Ch) (j+1,l++[(f.1,zn*f.2)]) ⟨hgo,htk⟩ (slQ hgo) ?_;simp only[Al,hn,Au,sI];refine wkQ [1,5] ?_ ?_<;>simp[-O,upd,aO,Γ0,aE,aK,bE,cW,cF]
       ·have q1:¬(j:Int)<x.b.length:=by omega
        rw[Ai (by omega)]at hl;have hlb:=aQq (n:=b) (z:=zn) hzb' hxb;have hlk:=bCi (n:=b) (z:=zn) hkx;have hlL:=aEz zn b x.b;rw[hl]at hlb hlk hlL hcol;rcases hn:l.length with _|k
        ·have e0:l=[]:=AE hn;simp only[hn,sI];simp[-O,-X,↓KW,aE,aK,q1,aC,aA,aB,aF,aD,aG,↓mJ];refine aP (λy:Nat×List Cl=>y.1<=c.length/\kL (c.take y.1) a b=y.2) (λy=>grS 19 [(0,.d (aE c)),(1,.d (.i .i64 a)),(2,.d (.i .i64 b)),(16,.d (aK l)),(84,.d (aE c)),(85,.d (.i .i64 c.length)),(86,.d (.i .i64 (y.1:Int)))] 40 3 y.2.length (flt aN y.2)) (λy=>c.length-y.1) (0,[]) ⟨Ak _,rfl⟩ ?_ ?_
         ·simp only[Bo,grS];refine wkQ [] ?_ ?_<;>simp[-O,upd,aO,Γ0,aE,dY,e0,aSs,aOu]
         ·rintro⟨i,out⟩ ⟨hi,ho⟩;simp only at hi ho ⊢;by_cases hgo:i<c.length
          ·have q1:(i:Int)<c.length:=by omega
           have hx:c[i]? = some c[i]:=Ab hgo;have hw:Ag.wrap ((i:Int)+1)=(i:Int)+1:=aV;have htk:=aBm hgo a b;rw[ho]at htk;have hln:out.length<=i:=by rw[<-ho];exact An (zP _ _ _) (by rw[Ax];omega)
           refine exE c[i] λy hye=>?_
           rw[hye]at hx htk;have hyc:aN y=[D.i .i64 y.id,.i .i64 y.dim,aK y.b]:=rfl;have hm1:(1:Nat)<=maxLen:=aS (by decide);by_cases h0:y.id=a
           ·have h0':((y.id != a):Bool)=false:=by simpa using h0
            have hkp:jD a b y=false:=by unfold jD;simp[h0]
            rw[hkp]at htk;simp only[A1,BY,AX]at htk;have q3:(((a:Int) != (a:Int)):Bool)=false:=by simp
            rcases hn:out.length with _|m
            ·simp only[hn,grS];simp[-O,-X,↓KW,aE,q1,hx,hyc,h0,h0',q3,hw,aF,aD,aG,aC,aA,aB];refine aI (τ:=Nat×List Cl) (i+1,out) ⟨hgo,htk⟩ (slQ hgo) ?_;simp only[hn,grS];refine wkQ [] ?_ ?_<;>simp[-O,upd,aO,Γ0,aE,dY]
            ·simp only[hn,grS];simp[-O,-X,↓KW,aE,q1,hx,hyc,h0,h0',q3,hw,aF,aD,aG,aC,aA,aB];refine aI (τ:=Nat×List Cl) (i+1,out) ⟨hgo,htk⟩ (slQ hgo) ?_;simp only[hn,grS];refine wkQ [1] ?_ ?_<;>simp[-O,upd,aO,Γ0,aE,dY]
           ·have h0':((y.id != a):Bool)=true:=by simpa using h0
            by_cases h1:y.id=b
            ·have h1':((y.id != b):Bool)=false:=by simpa using h1
             have hkp:jD a b y=false:=by unfold jD;simp[h1]
             rw[hkp]at htk;simp only[A1,BY,AX]at htk;have q3:(((b:Int) != (b:Int)):Bool)=false:=by simp
             rw[h1]at h0';rcases hn:out.length with _|m
             ·simp only[hn,grS];simp[-O,-X,↓KW,aE,q1,hx,hyc,h1,h0',q3,hw,aF,aD,aG,aC,aA,aB];refine aI (τ:=Nat×List Cl) (i+1,out) ⟨hgo,htk⟩ (slQ hgo) ?_;simp only[hn,grS];refine wkQ [] ?_ ?_<;>simp[-O,upd,aO,Γ0,aE,dY]
             ·simp only[hn,grS];simp[-O,-X,↓KW,aE,q1,hx,hyc,h1,h0',q3,hw,aF,aD,aG,aC,aA,aB];refine aI (τ:=Nat×List Cl) (i+1,out) ⟨hgo,htk⟩ (slQ hgo) ?_;simp only[hn,grS];refine wkQ [1] ?_ ?_<;>simp[-O,upd,aO,Γ0,aE,dY]
            ·have h1':((y.id != b):Bool)=true:=by simpa using h1
             have hkp:jD a b y=true:=by unfold jD;simp[h0,h1]
             rw[hkp,Ae rfl]at htk;rcases hn:out.length with _|m
             ·have e0:out=[]:=AE hn;simp only[hn,grS];simp[-O,-X,↓KW,aE,q1,hx,hyc,h0,h0',h1,h1',hw,hm1,aF,aD,aG,aC,aA,aB];refine aI (τ:=Nat×List Cl) (i+1,out++[y]) ⟨hgo,htk⟩ (slQ hgo) ?_;simp only[Al,hn,Au,grS];refine wkQ [3] ?_ ?_<;>simp[-O,upd,aO,Γ0,aE,aR,e0,cF]
             ·have hbb:=cG (n:=m+1) (by omega);have hcl:=bJ aX out;rw[hn]at hcl;have hal:=dA eR out;simp only[hn,grS];simp[-O,-X,↓KW,aE,q1,hx,hyc,h0,h0',h1,h1',hw,hm1,hbb,hcl,hal,aS,aF,aD,aG,aC,aA,aB];refine aI (τ:=Nat×List Cl) (i+1,out++[y]) ⟨hgo,htk⟩ (slQ hgo) ?_;simp only[Al,hn,Au,grS];refine wkQ [4] ?_ ?_<;>simp[-O,upd,aO,Γ0,aE,aR,cW,cF]
          ·have q1:¬(i:Int)<c.length:=by omega
           rw[Ai (by omega)]at ho;have hM:=zA (l:=l) (e:=e+e) (by rw[<-pC];exact hlb) hlk (by omega) he;refine exE (cE [] l) λr hr=>?_
           rw[hr]at hM;have hMp1:=oW c [(a,[]),(b,r)] (aWb [(a,[]),(b,r)]) rfl (aJu _) (by omega);have hMp2:=oW c [(b,r),(a,[])] (aWb [(b,r),(a,[])]) rfl (aJu _) (by omega);rw[aJs hne]at hMp2;have hmp1:∀v w:AV,rZ [(a,v)] b w=[(a,v),(b,w)]:=λv w=>aYw hne v w
           have hmp2:∀v w:AV,rZ [(b,v)] a w=[(b,v),(a,w)]:=λv w=>aYw (Ne.symm hne) v w
           rw[hcol,hr,ho];rcases hn:out.length with _|m
           ·have e0:out=[]:=AE hn;simp only[grS];simp[-O,-X,↓KW,aE,q1];refine wF _ _ rfl rfl ?_;simp only[opsL,opL,aEe,xE,mE,Cz,Dz,Ci,BZ,Cf,Cq,BN,BM];simp[-O,-X,↓KW,aE,q1,↓dN,↓dO,↓dP,↓cU,↓eE,cB,cH];refine⟨?_,?_⟩
            ·refine aJ hM ?_;simp[-O,-X,↓KW,aE,q1,↓dN,↓dO,↓dP,↓cU,↓eE,cB,cH,dW,hmp1,hmp2,aQ,aT];refine aJ hMp1 ?_;simp[-O,-X,↓KW,aE,q1,↓dN,↓dO,↓dP,↓cU,↓eE,cB,cH,dW,hmp1,hmp2,e0,aQ,aT,cY,bZ,iU,eW,fU,hin]
            ·refine aJ hM ?_;simp[-O,-X,↓KW,aE,q1,↓dN,↓dO,↓dP,↓cU,↓eE,cB,cH,dW,hmp1,hmp2,aQ,aT];refine⟨?_,?_⟩
             ·refine aJ hMp1 ?_;simp[-O,-X,↓KW,aE,q1,↓dN,↓dO,↓dP,↓cU,↓eE,cB,cH,dW,hmp1,hmp2,e0,aQ,aT,cY,bZ,iU,eW,fU,hin]
             ·refine aJ hMp2 ?_;simp[-O,-X,↓KW,aE,q1,↓dN,↓dO,↓dP,↓cU,↓eE,cB,cH,dW,hmp1,hmp2,e0,aQ,aT,cY,bZ,iU,eW,fU,hin]
           ·have e1:=dH aX hn;have e2:=cV (by decide) aX hn;have e3:=bJ aX out;rw[hn]at e3;simp only[grS];simp[-O,-X,↓KW,aE,q1];refine wF _ _ rfl rfl ?_;simp only[opsL,opL,aEe,xE,mE,Cz,Dz,Ci,BZ,Cf,Cq,BN,BM];simp[-O,-X,↓KW,aE,q1,↓dN,↓dO,↓dP,↓cU,↓eE,cB,cH];refine⟨?_,?_⟩
            ·refine aJ hM ?_;simp[-O,-X,↓KW,aE,q1,↓dN,↓dO,↓dP,↓cU,↓eE,cB,cH,dW,hmp1,hmp2,aQ,aT];refine aJ hMp1 ?_;simp[-O,-X,↓KW,aE,q1,↓dN,↓dO,↓dP,↓cU,↓eE,cB,cH,dW,hmp1,hmp2,e1,e2,e3,aQ,aT,cY,bZ,iU,eW,fU,hin]
            ·refine aJ hM ?_;simp[-O,-X,↓KW,aE,q1,↓dN,↓dO,↓dP,↓cU,↓eE,cB,cH,dW,hmp1,hmp2,aQ,aT];refine⟨?_,?_⟩
             ·refine aJ hMp1 ?_;simp[-O,-X,↓KW,aE,q1,↓dN,↓dO,↓dP,↓cU,↓eE,cB,cH,dW,hmp1,hmp2,e1,e2,e3,aQ,aT,cY,bZ,iU,eW,fU,hin]
             ·refine aJ hMp2 ?_;simp[-O,-X,↓KW,aE,q1,↓dN,↓dO,↓dP,↓cU,↓eE,cB,cH,dW,hmp1,hmp2,e1,e2,e3,aQ,aT,cY,bZ,iU,eW,fU,hin]
        ·have hfz:∀(H:Hp) (ρ:Nat->Nat),H 2=some (.cells 75 ((flt eL l).map .d))->Sub H (pW 1 []) ρ (.own 2 0 (k+1) 3) (.d (aK l)):=λH ρ hH=>aLm hn hH
         simp only[hn,sI];simp[-O,-X,↓KW,aE,aK,q1,aC,aA,aB,aF,aD,aG,↓mJ];refine aP (λy:Nat×List Cl=>y.1<=c.length/\kL (c.take y.1) a b=y.2) (λy=>grS 19 [(0,.d (aE c)),(1,.d (.i .i64 a)),(2,.d (.i .i64 b)),(16,.d (aK l)),(84,.d (aE c)),(85,.d (.i .i64 c.length)),(86,.d (.i .i64 (y.1:Int)))] 40 3 y.2.length (flt aN y.2)) (λy=>c.length-y.1) (0,[]) ⟨Ak _,rfl⟩ ?_ ?_
         ·simp only[Bo,grS];refine wkQ [] ?_ ?_<;>simp[-O,upd,aO,Γ0,aE,dY,hfz]
         ·rintro⟨i,out⟩ ⟨hi,ho⟩;simp only at hi ho ⊢;by_cases hgo:i<c.length
          ·have q1:(i:Int)<c.length:=by omega
           have hx:c[i]? = some c[i]:=Ab hgo;have hw:Ag.wrap ((i:Int)+1)=(i:Int)+1:=aV;have htk:=aBm hgo a b;rw[ho]at htk;have hln:out.length<=i:=by rw[<-ho];exact An (zP _ _ _) (by rw[Ax];omega)
           refine exE c[i] λy hye=>?_
           rw[hye]at hx htk;have hyc:aN y=[D.i .i64 y.id,.i .i64 y.dim,aK y.b]:=rfl;have hm1:(1:Nat)<=maxLen:=aS (by decide);by_cases h0:y.id=a
           ·have h0':((y.id != a):Bool)=false:=by simpa using h0
            have hkp:jD a b y=false:=by unfold jD;simp[h0]
            rw[hkp]at htk;simp only[A1,BY,AX]at htk;have q3:(((a:Int) != (a:Int)):Bool)=false:=by simp
            rcases hn:out.length with _|m
            ·simp only[hn,grS];simp[-O,-X,↓KW,aE,q1,hx,hyc,h0,h0',q3,hw,aF,aD,aG,aC,aA,aB];refine aI (τ:=Nat×List Cl) (i+1,out) ⟨hgo,htk⟩ (slQ hgo) ?_;simp only[hn,grS];refine wkQ [] ?_ ?_<;>simp[-O,upd,aO,Γ0,aE,dY]
            ·simp only[hn,grS];simp[-O,-X,↓KW,aE,q1,hx,hyc,h0,h0',q3,hw,aF,aD,aG,aC,aA,aB];refine aI (τ:=Nat×List Cl) (i+1,out) ⟨hgo,htk⟩ (slQ hgo) ?_;simp only[hn,grS];refine wkQ [1] ?_ ?_<;>simp[-O,upd,aO,Γ0,aE,dY]
           ·have h0':((y.id != a):Bool)=true:=by simpa using h0
            by_cases h1:y.id=b
            ·have h1':((y.id != b):Bool)=false:=by simpa using h1
             have hkp:jD a b y=false:=by unfold jD;simp[h1]
             rw[hkp]at htk;simp only[A1,BY,AX]at htk;have q3:(((b:Int) != (b:Int)):Bool)=false:=by simp
             rw[h1]at h0';rcases hn:out.length with _|m
             ·simp only[hn,grS];simp[-O,-X,↓KW,aE,q1,hx,hyc,h1,h0',q3,hw,aF,aD,aG,aC,aA,aB];refine aI (τ:=Nat×List Cl) (i+1,out) ⟨hgo,htk⟩ (slQ hgo) ?_;simp only[hn,grS];refine wkQ [] ?_ ?_<;>simp[-O,upd,aO,Γ0,aE,dY]
             ·simp only[hn,grS];simp[-O,-X,↓KW,aE,q1,hx,hyc,h1,h0',q3,hw,aF,aD,aG,aC,aA,aB];refine aI (τ:=Nat×List Cl) (i+1,out) ⟨hgo,htk⟩ (slQ hgo) ?_;simp only[hn,grS];refine wkQ [1] ?_ ?_<;>simp[-O,upd,aO,Γ0,aE,dY]
            ·have h1':((y.id != b):Bool)=true:=by simpa using h1
             have hkp:jD a b y=true:=by unfold jD;simp[h0,h1]
             rw[hkp,Ae rfl]at htk;rcases hn:out.length with _|m
             ·have e0:out=[]:=AE hn;simp only[hn,grS];simp[-O,-X,↓KW,aE,q1,hx,hyc,h0,h0',h1,h1',hw,hm1,aF,aD,aG,aC,aA,aB];refine aI (τ:=Nat×List Cl) (i+1,out++[y]) ⟨hgo,htk⟩ (slQ hgo) ?_;simp only[Al,hn,Au,grS];refine wkQ [3] ?_ ?_<;>simp[-O,upd,aO,Γ0,aE,aR,e0,cF]
             ·have hbb:=cG (n:=m+1) (by omega);have hcl:=bJ aX out;rw[hn]at hcl;have hal:=dA eR out;simp only[hn,grS];simp[-O,-X,↓KW,aE,q1,hx,hyc,h0,h0',h1,h1',hw,hm1,hbb,hcl,hal,aS,aF,aD,aG,aC,aA,aB];refine aI (τ:=Nat×List Cl) (i+1,out++[y]) ⟨hgo,htk⟩ (slQ hgo) ?_;simp only[Al,hn,Au,grS];refine wkQ [4] ?_ ?_<;>simp[-O,upd,aO,Γ0,aE,aR,cW,cF]
          ·have q1:¬(i:Int)<c.length:=by omega
           rw[Ai (by omega)]at ho;have hM:=zA (l:=l) (e:=e+e) (by rw[<-pC];exact hlb) hlk (by omega) he;refine exE (cE [] l) λr hr=>?_
           rw[hr]at hM;have hMp1:=oW c [(a,[]),(b,r)] (aWb [(a,[]),(b,r)]) rfl (aJu _) (by omega);have hMp2:=oW c [(b,r),(a,[])] (aWb [(b,r),(a,[])]) rfl (aJu _) (by omega);rw[aJs hne]at hMp2;have hmp1:∀v w:AV,rZ [(a,v)] b w=[(a,v),(b,w)]:=λv w=>aYw hne v w
           have hmp2:∀v w:AV,rZ [(b,v)] a w=[(b,v),(a,w)]:=λv w=>aYw (Ne.symm hne) v w
           rw[hcol,hr,ho];rcases hn:out.length with _|m
           ·have e0:out=[]:=AE hn;simp only[grS];simp[-O,-X,↓KW,aE,q1];refine wF _ _ rfl rfl ?_;simp only[opsL,opL,aEe,xE,mE,Cz,Dz,Ci,BZ,Cf,Cq,BN,BM];simp[-O,-X,↓KW,aE,q1,↓dN,↓dO,↓dP,↓cU,↓eE,cB,cH];refine⟨?_,?_⟩
            ·refine aJ hM ?_;simp[-O,-X,↓KW,aE,q1,↓dN,↓dO,↓dP,↓cU,↓eE,cB,cH,dW,hmp1,hmp2,aQ,aT];refine aJ hMp1 ?_;simp[-O,-X,↓KW,aE,q1,↓dN,↓dO,↓dP,↓cU,↓eE,cB,cH,dW,hmp1,hmp2,e0,aQ,aT,cY,bZ,iU,eW,fU,hin]
            ·refine aJ hM ?_;simp[-O,-X,↓KW,aE,q1,↓dN,↓dO,↓dP,↓cU,↓eE,cB,cH,dW,hmp1,hmp2,aQ,aT];refine⟨?_,?_⟩
             ·refine aJ hMp1 ?_;simp[-O,-X,↓KW,aE,q1,↓dN,↓dO,↓dP,↓cU,↓eE,cB,cH,dW,hmp1,hmp2,e0,aQ,aT,cY,bZ,iU,eW,fU,hin]
             ·refine aJ hMp2 ?_;simp[-O,-X,↓KW,aE,q1,↓dN,↓dO,↓dP,↓cU,↓eE,cB,cH,dW,hmp1,hmp2,e0,aQ,aT,cY,bZ,iU,eW,fU,hin]
           ·have e1:=dH aX hn;have e2:=cV (by decide) aX hn;have e3:=bJ aX out;rw[hn]at e3;simp only[grS];simp[-O,-X,↓KW,aE,q1];refine wF _ _ rfl rfl ?_;simp only[opsL,opL,aEe,xE,mE,Cz,Dz,Ci,BZ,Cf,Cq,BN,BM];simp[-O,-X,↓KW,aE,q1,↓dN,↓dO,↓dP,↓cU,↓eE,cB,cH];refine⟨?_,?_⟩
            ·refine aJ hM ?_;simp[-O,-X,↓KW,aE,q1,↓dN,↓dO,↓dP,↓cU,↓eE,cB,cH,dW,hmp1,hmp2,aQ,aT];refine aJ hMp1 ?_;simp[-O,-X,↓KW,aE,q1,↓dN,↓dO,↓dP,↓cU,↓eE,cB,cH,dW,hmp1,hmp2,e1,e2,e3,aQ,aT,cY,bZ,iU,eW,fU,hin]
            ·refine aJ hM ?_;simp[-O,-X,↓KW,aE,q1,↓dN,↓dO,↓dP,↓cU,↓eE,cB,cH,dW,hmp1,hmp2,aQ,aT];refine⟨?_,?_⟩
             ·refine aJ hMp1 ?_;simp[-O,-X,↓KW,aE,q1,↓dN,↓dO,↓dP,↓cU,↓eE,cB,cH,dW,hmp1,hmp2,e1,e2,e3,aQ,aT,cY,bZ,iU,eW,fU,hin]
             ·refine aJ hMp2 ?_;simp[-O,-X,↓KW,aE,q1,↓dN,↓dO,↓dP,↓cU,↓eE,cB,cH,dW,hmp1,hmp2,e1,e2,e3,aQ,aT,cY,bZ,iU,eW,fU,hin]
def zJ{α:Type}{f:α->List D}{k:Nat}(h:∀x,(f x).length=k):∀(l:List α) (i c:Nat) (x y:α) (v:D),l[i]? = some x->c<k->f y=(f x).set c v->(flt f l).set (i*k+c) v=flt f (l.set i y)
 |[],i,c,x,y,v,hx,_,_=>by simp at hx
 |z::l,0,c,x,y,v,hx,hc,hy=>by simp at hx;subst hx;rw[show flt f (z::l)=f z++flt f l from by simp[flt],CT,show flt f (y::l)=f y++flt f l from by simp[flt],Cw,A5,List.set_append_left _ _ (by rw[h];exact hc),hy]
 |z::l,i+1,c,x,y,v,hx,hc,hy=>by rw[show flt f (z::l)=f z++flt f l from by simp[flt],List.set_cons_succ,show flt f (z::l.set i y)=f z++flt f (l.set i y)from by simp[flt],CZ _ _ (by rw[h,Bw];omega),h,show(i+1)*k+c-k=i*k+c by rw[Bw];omega,zJ h l i c x y v (by simpa using hx) hc hy]
def xI(n:Int):Spec Aa 83 [.i .i64 n] (aK [(n,1)]):=by refine bF (N:=7) Tryz.func83 ?_;have hO:=sY 1 (by decide) (by decide);simp[-O,-X,↓KW];refine aJ hO ?_;simp[-O,-X,↓KW,aK,bE,aY,aF,aD,aG]
def bJf{c:List Cl}{i:Nat}(h:i<c.length):eF (c.take (i+1)) []=eF (c.take i) []++[(c[i].id,[(c[i].id,1)])]:=aJr h []
def aAt{c:List Cl}(hl:c.length<=1000000):Spec Aa 87 [aE c] (dI (eF c [])):=by
 refine bF (N:=28) Tryz.func87 ?_;simp[-O,-X,↓KW,aE];refine aP (λy:Nat×List (Int×Ch)=>y.1<=c.length/\y.2.length=y.1/\eF (c.take y.1) []=y.2) (λy=>StL [(0,.d (aE c)),(3,.own 1 0 y.2.length 2),(4,.d (.i .i64 (y.1:Int)))] none [.cells 164 ((flt pP y.2).map .d)]) (λy=>c.length-y.1) (0,[]) ⟨Ak _,rfl,rfl⟩ ?_ ?_
 ·refine wkQ [1] ?_ ?_<;>simp[-O,upd,aO,Γ0,aE,vW]
 ·rintro⟨i,out⟩ ⟨hi,hoi,ho⟩;simp only at hi hoi ho ⊢;by_cases hgo:i<c.length
  ·have q1:(i:Int)<c.length:=by omega
   have hx:c[i]? = some c[i]:=Ab hgo;have hw:Ag.wrap ((i:Int)+1)=(i:Int)+1:=aV;have htk:=bJf hgo;rw[ho]at htk;refine exE c[i] λx hxe=>?_
   rw[hxe]at hx htk;have hyc:aN x=[D.i .i64 x.id,.i .i64 x.dim,aK x.b]:=rfl;have hO:=xI x.id;have hcl:=bJ fO out;have hal:=dA aBj out;have hbb:=uR (n:=out.length) (by omega);simp[-O,-X,↓KW,aE,q1,hx,hyc,aC,aA,aB];refine aJ hO ?_;simp[-O,-X,↓KW,aE,q1,hx,hyc,hw,hcl,hal,hbb,aS,aC,aA,aB,aQ,aT];refine aI (τ:=Nat×List (Int×Ch)) (i+1,out++[(x.id,[(x.id,1)])]) ⟨hgo,by rw[Al,hoi];rfl,htk⟩ (slQ hgo) ?_;simp only[Al,Au,cW,cF,uJ];refine wkQ [3] ?_ ?_<;>simp[-O,upd,aO,Γ0,aE]
  ·have q1:¬(i:Int)<c.length:=by omega
   rw[Ai (by omega)]at ho;have e1:=dH fO (rfl:out.length=out.length);have e2:=cV (by decide) fO (rfl:out.length=out.length);have e3:=bJ fO out;simp[-O,-X,↓KW,aE,q1,e1,e2,e3,ho,dI]
def mN(m:List (Int×Ch))(n:Int)(x:Ch):List (Int×Ch):=m.map λp=>if p.1=n then(p.1,x)else p
def eP(x:Ch)(n:Int):Int:=((x.find? λf=>decide (f.1=n)).map (·.2)).getD 0
def aWe{x:Ch}{i:Nat}(h:i<x.length)(n:Int):eP (x.drop i) n=if x[i].1=n then x[i].2 else eP (x.drop (i+1)) n:=by unfold eP;rw[AP h,DM];by_cases e:x[i].1=n<;>simp[e]
def vI{x:Ch}(n:Int)(hl:x.length<=1000000):Spec Aa 77 [aK x,.i .i64 n] (encZ (eP x n)):=by
 refine bF (N:=25) Tryz.func77 ?_;simp[-O,-X,↓KW,aK];refine aP (λi:Nat=>i<=x.length/\eP (x.drop i) n=eP x n) (λi=>StL [(0,.d (aK x)),(1,.d (.i .i64 n)),(4,.ptr 1 0),(5,.d (.i .i64 (i:Int)))] none [.cells 72 [.d (.b false),.nil]]) (λi=>x.length-i) 0 ⟨Ak _,rfl⟩ ?_ ?_
 ·refine wkQ [1] ?_ ?_<;>simp[-O,upd,aO,Γ0,aK]
 ·rintro i ⟨hi,hd⟩;by_cases hgo:i<x.length
  ·have q1:(i:Int)<x.length:=by omega
   have hf:x[i]? = some x[i]:=Ab hgo;have hw:Ag.wrap ((i:Int)+1)=(i:Int)+1:=aV;rw[aWe hgo]at hd;refine exE x[i] λf hfe=>?_
   rw[hfe]at hf hd;have hef:eL f=[.i .i64 f.1,.b (decide (f.2<0)),aM (aU f.2.natAbs)]:=rfl;by_cases h0:f.1=n
   ·rw[Ae h0]at hd;have q3:(((n:Int)==(n:Int)):Bool)=true:=by simp
    simp[-O,-X,↓KW,aK,q1,hf,hef,h0,q3,aY,<-hd,aF,aD,aG]
   ·rw[Ac h0]at hd;have h0':((f.1==n):Bool)=false:=by simpa using h0
    simp[-O,-X,↓KW,aK,q1,hf,hef,h0,h0',hw,aF,aD,aG];refine aI (i+1) ⟨hgo,hd⟩ (slQ hgo) (wkQ [1] ?_ ?_)<;>simp[-O,upd,aO,Γ0,aK]
  ·have q1:¬(i:Int)<x.length:=by omega
   have h0:eP x n=0:=by rw[<-hd,B2 (by omega)];rfl
   have h1:aM (aU 0)=.sl []:=by rw[dG];rfl
   simp[-O,-X,↓KW,aK,q1,h0,aY,h1]
def aGc{α:Type}{f:α->List D}{k:Nat}(h:∀x,(f x).length=k):∀(l:List α) (j c:Nat) (x:α),l[j]? = some x->c<k->(flt f l)[j*k+c]? = (f x)[c]?
 |[],j,c,x,hx,_=>by simp at hx
 |y::l,0,c,x,hx,hc=>by simp at hx;subst hx;rw[Cw,A5,show flt f (y::l)=f y++flt f l from by simp[flt],List.getElem?_append_left (by rw[h];exact hc)]
 |y::l,j+1,c,x,hx,hc=>by rw[show flt f (y::l)=f y++flt f l from by simp[flt],Az (by rw[h,Bw];omega),h,show(j+1)*k+c-k=j*k+c by rw[Bw];omega];exact aGc h l j c x (by simpa using hx) hc
def aCj(m:List (Int×Ch))(n:Int)(x:Ch)(i:Nat):List (Int×Ch):=mN (m.take i) n x++m.drop i
def aDa{m:List (Int×Ch)}(n:Int)(x:Ch)(hl:m.length<=1000000):Spec Aa 86 [dI m,.i .i64 n,aK x] (dI (mN m n x)):=by
 refine bF (N:=31) Tryz.func86 ?_;have hbb:m.length*32<=140737488355328/\m.length<=maxLen:=⟨by omega,aS (by omega)⟩;have hal:=EE (λ(a:D) (ha:a∈flt pP m)=>Ay.1 (dA aBj m) (.d a) (AA.2 ⟨a,ha,rfl⟩));have hff:=iR pP m;have hcl:=bJ fO m;have hok:fB 2 (m.map pP)=true:=by cases m<;>simp[fB,fO]
 simp[-O,-X,↓KW,dI,hbb,uS,hff,hok,hal];refine aP (λi:Nat=>i<=m.length) (λi=>StL [(0,.d (dI m)),(1,.d (.i .i64 n)),(2,.d (aK x)),(7,.own 1 0 m.length 2),(8,.d (.i .i64 (i:Int)))] none [.cells 164 ((flt pP (aCj m n x i)).map .d)]) (λi=>m.length-i) 0 (Ak _) ?_ ?_
 ·have e0:aCj m n x 0=m:=rfl;rw[e0];refine wkQ [2] ?_ ?_<;>simp[-O,upd,aO,Γ0,dI,aK]
 ·intro i hi;have hwl:(aCj m n x i).length=m.length:=by unfold aCj mN;rw[Al,AL,Ax,Bk];omega
  by_cases hgo:i<m.length
  ·have q1:(i:Int)<m.length:=by omega
   have hw:Ag.wrap ((i:Int)+1)=(i:Int)+1:=aV;have hx:(aCj m n x i)[i]? = some m[i]:=by unfold aCj;rw[Az (by unfold mN;rw[AL,Ax];omega)];simp[mN,Ax,BP hi,hgo]
   have hnx:aCj m n x (i+1)=(aCj m n x i).set i (if m[i].1=n then(m[i].1,x)else m[i]):=by unfold aCj mN;rw[AM,Ab hgo,Bt,CZ _ _ (by rw[AL,Ax];omega),AP hgo,AL,Ax,BP hi,Cu,CT];simp
   refine exE m[i] λp hpe=>?_
   rw[hpe]at hx hnx;refine exE (aCj m n x i) λL hLe=>?_
   rw[hLe]at hx hnx hwl;simp only[hLe,hnx];have c0:(flt pP L)[i*2]? = some (.i .i64 p.1):=aGc fO L i 0 p hx (by decide);have hcl:=bJ fO L;rw[hwl]at hcl;by_cases h0:p.1=n
   ·have q3:(((n:Int)==(n:Int)):Bool)=true:=by simp
    rw[Ae h0]at hnx;have hst:lay ((flt pP L).map AV.d) (i*2+1) [.d (aK x)]=(flt pP (L.set i (p.1,x))).map .d:=by rw[oM _ _ _ (by omega),zJ fO L i 1 p (p.1,x) _ hx (by decide) rfl]
    have hli:i*2+1+1<=m.length*2:=by omega
    rw[h0]at hst;simp[-O,-X,↓KW,dI,aB,aC,aA,q1,hw,h0,q3,c0,hcl,hst,hli];refine aI (i+1) hgo (slQ hgo) ?_;rw[hnx];refine wkQ [1] ?_ ?_<;>simp[-O,upd,aO,Γ0,dI,aK,h0]
   ·have h0':((p.1==n):Bool)=false:=by simpa using h0
    have hset:L.set i p=L:=by obtain⟨h1,h2⟩:=Ah.1 hx;rw[<-h2];exact EB h1
    rw[Ac h0,hset]at hnx;simp[-O,-X,↓KW,dI,aB,q1,hw,h0,h0',c0,hcl];refine aI (i+1) hgo (slQ hgo) ?_;rw[hnx];refine wkQ [1] ?_ ?_<;>simp[-O,upd,aO,Γ0,dI,aK]
  ·have q1:¬(i:Int)<m.length:=by omega
   have hfin:aCj m n x i=mN m n x:=by unfold aCj;rw[Ai (by omega),B2 (by omega),AX]
   rw[hfin]at hwl ⊢;have e1:=dH fO hwl;have e2:=cV (by decide) fO hwl;have e3:=bJ fO (mN m n x);rw[hwl]at e3;simp[-O,-X,↓KW,dI,q1,e1,e2,e3]
def aEs{c:List Cl}(a b:Int)(hl:c.length<=1000000):Spec Aa 84 [aE c,.ag [.i .i64 a,.i .i64 b]] (aE (kL c a b)):=by
 refine bF (N:=40) Tryz.func84 ?_;simp[-O,-X,↓KW,aE];refine aP (λy:Nat×List Cl=>y.1<=c.length/\kL (c.take y.1) a b=y.2) (λy=>StL [(0,.d (aE c)),(3,.ptr 1 0),(5,.own 2 0 y.2.length 3),(6,.d (.i .i64 (y.1:Int)))] none [.cells 41 [.d (.i .i64 a),.d (.i .i64 b)],.cells 40 ((flt aN y.2).map .d)]) (λy=>c.length-y.1) (0,[]) ⟨Ak _,rfl⟩ ?_ ?_
 ·refine wkQ [1,2] ?_ ?_<;>simp[-O,upd,aO,Γ0,aE,vW]
 ·rintro⟨i,out⟩ ⟨hi,ho⟩;simp only at hi ho ⊢;by_cases hgo:i<c.length
  ·have q1:(i:Int)<c.length:=by omega
   have hx:c[i]? = some c[i]:=Ab hgo;have hw:Ag.wrap ((i:Int)+1)=(i:Int)+1:=aV;have htk:=aBm hgo a b;rw[ho]at htk;have hln:out.length<=i:=by rw[<-ho];exact An (zP _ _ _) (by rw[Ax];omega)
   refine exE c[i] λy hye=>?_
   rw[hye]at hx htk;have hyc:aN y=[D.i .i64 y.id,.i .i64 y.dim,aK y.b]:=rfl;have hm1:(1:Nat)<=maxLen:=aS (by decide);by_cases h0:y.id=a
   ·have h0':((y.id != a):Bool)=false:=by simpa using h0
    have hkp:jD a b y=false:=by unfold jD;simp[h0]
    rw[hkp]at htk;simp only[A1,BY,AX]at htk;have q3:(((a:Int) != (a:Int)):Bool)=false:=by simp
    simp[-O,-X,↓KW,aE,q1,hx,hyc,h0,h0',q3,hw,aC,aA,aB];refine aI (τ:=Nat×List Cl) (i+1,out) ⟨hgo,htk⟩ (slQ hgo) (wkQ [1,2] ?_ ?_)<;>simp[-O,upd,aO,Γ0,aE]
   ·have h0':((y.id != a):Bool)=true:=by simpa using h0
    by_cases h1:y.id=b
    ·have h1':((y.id != b):Bool)=false:=by simpa using h1
     have hkp:jD a b y=false:=by unfold jD;simp[h1]
     rw[hkp]at htk;simp only[A1,BY,AX]at htk;have q3:(((b:Int) != (b:Int)):Bool)=false:=by simp
     rw[h1]at h0';simp[-O,-X,↓KW,aE,q1,hx,hyc,h1,h0',q3,hw,aC,aA,aB];refine aI (τ:=Nat×List Cl) (i+1,out) ⟨hgo,htk⟩ (slQ hgo) (wkQ [1,2] ?_ ?_)<;>simp[-O,upd,aO,Γ0,aE]
    ·have h1':((y.id != b):Bool)=true:=by simpa using h1
     have hkp:jD a b y=true:=by unfold jD;simp[h0,h1]
     rw[hkp,Ae rfl]at htk;have hbb:=cG (n:=out.length) (by omega);have hcl:=bJ aX out;have hal:=dA eR out;simp[-O,-X,↓KW,aE,q1,hx,hyc,h0,h0',h1,h1',hw,hm1,hbb,hcl,hal,aS,aC,aA,aB];refine aI (τ:=Nat×List Cl) (i+1,out++[y]) ⟨hgo,htk⟩ (slQ hgo) ?_;simp only[Al,Au,cW,cF,aR];refine wkQ [1,4] ?_ ?_<;>simp[-O,upd,aO,Γ0,aE]
  ·have q1:¬(i:Int)<c.length:=by omega
   rw[Ai (by omega)]at ho;have e1:=dH aX (rfl:out.length=out.length);have e2:=cV (by decide) aX (rfl:out.length=out.length);have e3:=bJ aX out;simp[-O,-X,↓KW,aE,q1,e1,e2,e3,ho]
def aKh(x:Int×Int):(eL x).length=3:=rfl
def aKg(x:Int×Int):((eL x).map AV.d).all one=true:=rfl
def aMg{J:Nat->AV}{H:Hp}{n0 k n sz:Nat}{e:TypeId}{cs:List D}(hH:H k=some (.cells e (cs.map .d)))(m:Nat)(hm:0<m):Wk ⟨upd J 0 (.own k 0 n sz),H,n0⟩ (gR (λm=>.own m 0 n sz) (λ_=>[.cells e (cs.map .d)]) m) (λ_=>k):=by
 refine⟨λid hid=>?_,λt'=>?_,λid o' ho=>?_,λid id' h1 h2 _=>?_,λh=>?_,λh=>?_⟩
 ·simp only[gR,gJ]at hid ⊢;rw[Ac (by simp at hid ⊢;omega)]
 ·by_cases h:t'=0
  ·subst h;show Sub H _ _ (upd J 0 (.own k 0 n sz) 0) (upd (λ_=>.any) 0 (.own m 0 n sz) 0);rw[dB,dB];exact⟨rfl,rfl,rfl,rfl,by simp[gR,gJ]⟩
  ·simp only[gR,upd,Ac h];exact oJ _
 ·simp only[gR,gJ]at ho;split at ho
  ·rename_i hid;simp at hid;obtain rfl:id=m:=by omega
   simp at ho;subst ho;refine⟨_,hH,fM.2 ⟨rfl,fQ.2 ⟨rfl,λk x y h1 h2=>?_⟩⟩⟩;rw[h1]at h2;injection h2 with h2;subst h2
   rw[Aw]at h1;obtain⟨d,_,rfl⟩:=Option.map_eq_some_iff.1 h1;exact(kK _ _).2 rfl
  ·cases ho
 ·simp only[gR,gJ]at h1 h2;split at h1
  ·split at h2
   ·simp at *;omega
   ·cases h2
  ·cases h1
 ·simp only[gR,gJ]at h;split at h
  ·simp at *;omega
  ·cases h
 ·simp only[gR]at h;simp at h
def aYn{J:Nat->AV}{H:Hp}{n0:Nat}{x:AV}(hx:frz H 8 x=some (.sl []))(m:Nat)(hm:0<m):Wk ⟨upd J 0 x,H,n0⟩ (gR (λ_=>.d (.sl [])) (λ_=>[]) m) (λ_=>0):=by
 refine⟨λid hid=>?_,λt'=>?_,λid o' ho=>?_,λid id' h1 h2 _=>?_,λh=>?_,λh=>?_⟩
 ·simp[gR,gJ]
 ·by_cases h:t'=0
  ·subst h;show Sub H _ _ (upd J 0 x 0) (upd (λ_=>.any) 0 (.d (.sl [])) 0);rw[dB,dB];exact qA hx λa _ id hid=>by simp[gR,gJ]at hid
  ·simp only[gR,upd,Ac h];exact oJ _
 ·simp[gR,gJ]at ho
 ·simp[gR,gJ]at h1
 ·simp[gR,gJ]at h
 ·simp only[gR]at h;simp at h;omega
def bUg:pT Aa 216 [aK []] (λ_=>.d (aK [])) (λ_=>[]):=by refine lW (N:=8) bL Tryz.func216 rfl rfl rfl (by decide) (by kernel_rfl) (by kernel_rfl) (by simp) rfl ?_;simp[-O,-X,↓KW,aK];refine⟨λm hm=>⟨_,aYn rfl m hm⟩,λm hm=>⟨_,aYn ?_ m hm⟩⟩;simp[jA,fG,chunk]
def bZd{l:Ch}(h0:l≠[])(hl:l.length<=1000000):pT Aa 216 [aK l] (λm=>.own m 0 l.length 3) (λ_=>[.cells 75 ((flt eL l).map .d)]):=by
 refine lW (N:=8) bL Tryz.func216 rfl rfl rfl (by decide) (by kernel_rfl) (by kernel_rfl) (by simp) rfl ?_;obtain⟨x,r,rfl⟩:=List.exists_cons_of_ne_nil h0;obtain⟨a,t,hE,hcond,hval,hlen⟩:∃a t,aK (x::r)=.sl (a::t)/\(a.length=3/\(∀x,x∈a->one (AV.d x)=true)/\∀x,x∈t->∀y,y∈x->one (AV.d y)=true)/\AQ AV.d a++(t.map (AQ AV.d)).flatten=(flt eL (x::r)).map .d/\t.length+1=(x::r).length:=by
  have h1:∀x:Int×Int,∀y∈eL x,one (AV.d y)=true:=λx y hy=>by have:=Ay.1 (aKg x) (.d y) (AA.2 ⟨y,hy,rfl⟩);exact this
  refine⟨eL x,r.map eL,rfl,⟨rfl,h1 x,λz hz y hy=>?_⟩,?_,by simp⟩
  ·obtain⟨w,_,rfl⟩:=AA.1 hz;exact h1 w y hy
  ·simp[flt,DA]
 have hall:∀y,y∈flt eL (x::r)->one (AV.d y)=true:=λy hy=>Ay.1 (dA aKg (x::r)) (.d y) (AA.2 ⟨y,hy,rfl⟩)
 have e1:=bJ aKh (x::r);have e2:((flt eL (x::r)).map AV.d).take ((x::r).length*3)=(flt eL (x::r)).map AV.d:=dH aKh rfl;generalize hL:x::r=l at *;have hall':=EE hall;have hbb:l.length*40<=140737488355328/\l.length<=maxLen:=⟨by omega,aS (by omega)⟩;rw[hE];simp[-O,-X,↓KW,hcond,hval,hlen,hbb,uS,hall'];refine λm hm=>⟨_,aMg ?_ m hm⟩
 simp[fG]
def mO(n:Int)(y:Ch)(z:Cl):Cl:=if eP z.b n=0 then z else⟨z.id,z.dim,plM (eP z.b n) z.b y⟩
def qN(c:List Cl)(n:Int)(y:Ch):List Cl:=c.map (mO n y)
def oK(c:List Cl)(n:Int)(y:Ch)(i:Nat):List Cl:=(c.take i).map (mO n y)++c.drop i
def aKj{x:Ch}{M:Nat}(h:Bnd M x)(n:Int):(eP x n).natAbs<=M:=by
 unfold eP;cases e:x.find? λf=>decide (f.1=n)with
 |none=>exact Ak _
 |some f=>exact h f (List.mem_of_find?_eq_some e)
def aCv(n:Int):((n.sign != 0):Bool)=!decide (n=0):=by
 by_cases h:n=0
 ·subst h;rfl
 ·have:n.sign≠0:=λe=>h (Du.1 e)
  simp[this,h]
def aPq{c:List Cl}{e f:Nat}(n:Int)(y:Ch)(hz:SzX e c)(hy:Bnd (2^f) y)(hyl:y.length<=1048576)(he:e+f+e+2<4398046511104):Spec Aa 85 [aE c,.i .i64 n,aK y] (aE (qN c n y)):=by
 have hlen:=hz.len;refine bF (N:=42) Tryz.func85 ?_;have hbb:c.length*40<=140737488355328/\c.length<=maxLen:=⟨by omega,aS (by omega)⟩;have hal:=EE (λ(a:D) (ha:a∈flt aN c)=>Ay.1 (dA eR c) (.d a) (AA.2 ⟨a,ha,rfl⟩));have hff:=iR aN c;have hok:=eJ c;simp[-O,-X,↓KW,aE,hbb,uS,hff,hok,hal];refine aP (λi:Nat=>i<=c.length) (λi=>StL [(0,.d (aE c)),(1,.d (.i .i64 n)),(2,.d (aK y)),(7,.own 1 0 c.length 3),(8,.d (.i .i64 (i:Int)))] none [.cells 40 ((flt aN (oK c n y i)).map .d)]) (λi=>c.length-i) 0 (Ak _) ?_ ?_
 ·have e0:oK c n y 0=c:=rfl;rw[e0];refine wkQ [2] ?_ ?_<;>simp[-O,upd,aO,Γ0,aE,aK]
 ·intro i hi;have hwl:(oK c n y i).length=c.length:=by unfold oK;rw[Al,AL,Ax,Bk];omega
  by_cases hgo:i<c.length
  ·have q1:(i:Int)<c.length:=by omega
   have hw:Ag.wrap ((i:Int)+1)=(i:Int)+1:=aV;have hx:(oK c n y i)[i]? = some c[i]:=by unfold oK;rw[Az (by rw[AL,Ax];omega)];simp[Ax,BP hi,hgo]
   have hnx:oK c n y (i+1)=(oK c n y i).set i (mO n y c[i]):=by unfold oK;rw[AM,Ab hgo,Bt,CZ _ _ (by rw[AL,Ax];omega),AP hgo,AL,Ax,BP hi,Cu,CT];simp
   have hzl:=hz.bl _ (Ar hgo);have hzb:=hz.bb _ (Ar hgo);refine exE c[i] λz hze=>?_
   rw[hze]at hx hnx hzl hzb;refine exE (oK c n y i) λL hLe=>?_
   rw[hLe]at hx hnx hwl;simp only[hLe];have c2:(flt aN L)[i*3+2]? = some (aK z.b):=aGc aX L i 2 z hx (by decide);have hcl:=bJ aX L;rw[hwl]at hcl;have hCo:=vI (x:=z.b) n (by omega);have hcb:=aKj hzb n;have hPl:=nC (k:=eP z.b n) hzb hy hcb (by omega) (by omega) (by omega) hyl;have hSg:=fH (eP z.b n);have hsn:=aCv (eP z.b n);have hli:i*3+2+1<=c.length*3:=by omega
   refine exE (eP z.b n) λk hke=>?_
   have hrc:mO n y z=if k=0 then z else⟨z.id,z.dim,plM k z.b y⟩:=by unfold mO;rw[hke]
   rw[hke]at hCo hPl hSg hsn;rw[hrc]at hnx;simp[-O,-X,↓KW,aE,q1,c2,hcl,aC,aA,aB];refine aJ hCo ?_;simp[-O,-X,↓KW,aE,aY,q1,c2,hcl,aC,aA,aB,aF,aD,aG];refine aJ hSg ?_;by_cases h0:k=0
   ·rw[Ae h0]at hnx;rw[BD h0]at hsn;have hset:L.set i z=L:=by obtain⟨h1,h2⟩:=Ah.1 hx;rw[<-h2];exact EB h1
    rw[hset]at hnx;have hsn':((k.sign != 0):Bool)=false:=hsn;simp[-O,-X,↓KW,aE,aY,hsn',hw,aC,aA,aB,aF,aD,aG];refine aI (i+1) hgo (slQ hgo) ?_;rw[hnx];refine wkQ [1] ?_ ?_<;>simp[-O,upd,aO,Γ0,aE,aK]
   ·rw[Ac h0]at hnx;rw[Br h0]at hsn;have hst:lay ((flt aN L).map AV.d) (i*3+2) [.d (aK (plM k z.b y))]=(flt aN (L.set i ⟨z.id,z.dim,plM k z.b y⟩)).map .d:=by rw[oM _ _ _ (by omega),zJ aX L i 2 z ⟨z.id,z.dim,plM k z.b y⟩ _ hx (by decide) rfl]
    have hsn':((k.sign != 0):Bool)=true:=hsn;simp[-O,-X,↓KW,aE,aY,hsn',q1,c2,hcl,aC,aA,aB,aF,aD,aG];refine aJ hPl ?_;simp[-O,-X,↓KW,aE,aY,hw,q1,c2,hcl,hst,hli,aQ,aT,aC,aA,aB,aF,aD,aG];refine aI (i+1) hgo (slQ hgo) ?_;rw[hnx];refine wkQ [1] ?_ ?_<;>simp[-O,upd,aO,Γ0,aE,aK]
  ·have q1:¬(i:Int)<c.length:=by omega
   have hfin:oK c n y i=qN c n y:=by unfold oK qN;rw[Ai (by omega),B2 (by omega),AX]
   rw[hfin]at hwl ⊢;have e1:=dH aX hwl;have e2:=cV (by decide) aX hwl;have e3:=bJ aX (qN c n y);rw[hwl]at e3;simp[-O,-X,↓KW,aE,q1,e1,e2,e3]
def aLw{c:List Cl}{e f:Nat}(n:Int)(y:Ch)(hz:SzX e c)(hy:Bnd (2^f) y)(hyl:y.length<=1048576)(he:e+f+e+2<4398046511104):pT Aa 85 [aE c,.i .i64 n,aK y] (λm=>.own m 0 c.length 3) (λ_=>[.cells 40 ((flt aN (qN c n y)).map .d)]):=by
 have hlen:=hz.len;refine lW (N:=42) bL Tryz.func85 rfl rfl rfl (by decide) (by kernel_rfl) (by kernel_rfl) (by simp) rfl ?_;have hbb:c.length*40<=140737488355328/\c.length<=maxLen:=⟨by omega,aS (by omega)⟩;have hal:=EE (λ(a:D) (ha:a∈flt aN c)=>Ay.1 (dA eR c) (.d a) (AA.2 ⟨a,ha,rfl⟩));have hff:=iR aN c;have hok:=eJ c;simp[-O,-X,↓KW,aE,hbb,uS,hff,hok,hal];refine aP (λi:Nat=>i<=c.length) (λi=>StL [(0,.d (aE c)),(1,.d (.i .i64 n)),(2,.d (aK y)),(7,.own 1 0 c.length 3),(8,.d (.i .i64 (i:Int)))] none [.cells 40 ((flt aN (oK c n y i)).map .d)]) (λi=>c.length-i) 0 (Ak _) ?_ ?_
 ·have e0:oK c n y 0=c:=rfl;rw[e0];refine wkQ [2] ?_ ?_<;>simp[-O,upd,aO,Γ0,aE,aK]
 ·intro i hi;have hwl:(oK c n y i).length=c.length:=by unfold oK;rw[Al,AL,Ax,Bk];omega
  by_cases hgo:i<c.length
  ·have q1:(i:Int)<c.length:=by omega
   have hw:Ag.wrap ((i:Int)+1)=(i:Int)+1:=aV;have hx:(oK c n y i)[i]? = some c[i]:=by unfold oK;rw[Az (by rw[AL,Ax];omega)];simp[Ax,BP hi,hgo]
   have hnx:oK c n y (i+1)=(oK c n y i).set i (mO n y c[i]):=by unfold oK;rw[AM,Ab hgo,Bt,CZ _ _ (by rw[AL,Ax];omega),AP hgo,AL,Ax,BP hi,Cu,CT];simp
   have hzl:=hz.bl _ (Ar hgo);have hzb:=hz.bb _ (Ar hgo);refine exE c[i] λz hze=>?_
   rw[hze]at hx hnx hzl hzb;refine exE (oK c n y i) λL hLe=>?_
   rw[hLe]at hx hnx hwl;simp only[hLe];have c2:(flt aN L)[i*3+2]? = some (aK z.b):=aGc aX L i 2 z hx (by decide);have hcl:=bJ aX L;rw[hwl]at hcl;have hCo:=vI (x:=z.b) n (by omega);have hcb:=aKj hzb n;have hPl:=nC (k:=eP z.b n) hzb hy hcb (by omega) (by omega) (by omega) hyl;have hSg:=fH (eP z.b n);have hsn:=aCv (eP z.b n);have hli:i*3+2+1<=c.length*3:=by omega
   refine exE (eP z.b n) λk hke=>?_
   have hrc:mO n y z=if k=0 then z else⟨z.id,z.dim,plM k z.b y⟩:=by unfold mO;rw[hke]
   rw[hke]at hCo hPl hSg hsn;rw[hrc]at hnx;simp[-O,-X,↓KW,aE,q1,c2,hcl,aC,aA,aB];refine aJ hCo ?_;simp[-O,-X,↓KW,aE,aY,q1,c2,hcl,aC,aA,aB,aF,aD,aG];refine aJ hSg ?_;by_cases h0:k=0
   ·rw[Ae h0]at hnx;rw[BD h0]at hsn;have hset:L.set i z=L:=by obtain⟨h1,h2⟩:=Ah.1 hx;rw[<-h2];exact EB h1
    rw[hset]at hnx;have hsn':((k.sign != 0):Bool)=false:=hsn;simp[-O,-X,↓KW,aE,aY,hsn',hw,aC,aA,aB,aF,aD,aG];refine aI (i+1) hgo (slQ hgo) ?_;rw[hnx];refine wkQ [1] ?_ ?_<;>simp[-O,upd,aO,Γ0,aE,aK]
   ·rw[Ac h0]at hnx;rw[Br h0]at hsn;have hst:lay ((flt aN L).map AV.d) (i*3+2) [.d (aK (plM k z.b y))]=(flt aN (L.set i ⟨z.id,z.dim,plM k z.b y⟩)).map .d:=by rw[oM _ _ _ (by omega),zJ aX L i 2 z ⟨z.id,z.dim,plM k z.b y⟩ _ hx (by decide) rfl]
    have hsn':((k.sign != 0):Bool)=true:=hsn;simp[-O,-X,↓KW,aE,aY,hsn',q1,c2,hcl,aC,aA,aB,aF,aD,aG];refine aJ hPl ?_;simp[-O,-X,↓KW,aE,aY,hw,q1,c2,hcl,hst,hli,aQ,aT,aC,aA,aB,aF,aD,aG];refine aI (i+1) hgo (slQ hgo) ?_;rw[hnx];refine wkQ [1] ?_ ?_<;>simp[-O,upd,aO,Γ0,aE,aK]
  ·have q1:¬(i:Int)<c.length:=by omega
   have hfin:oK c n y i=qN c n y:=by unfold oK qN;rw[Ai (by omega),B2 (by omega),AX]
   rw[hfin]at hwl ⊢;simp[-O,-X,↓KW,aE,q1];refine λm hm=>⟨_,aMg ?_ m hm⟩
   simp[pW]
def bIj{P:Program}{dst:Option Tmp}{ty:TypeId}{pos:String}{after:Array Edge}{guard:Option (Nat×Bool)}{σ:St}{con:List Nat}{k:St->List Nat->Prop}{f:FuncId}{args:List Operand}{ts:Array TypeId}
  {d:Dm ((⟨dst,.call ⟨.value (.func f),args.toArray,ts⟩,ty,pos,after,guard⟩:Oper),k)} (ds:List D) (r:D) (hm:bB P f=false) (hnk:∀g id,args.map (oev σ.J)≠[.kf g id]) (hfr:fW σ.H (args.map (oev σ.J))=some ds) (hsp:Spec P f ds r)
  (hk:k ⟨bS σ.J dst (inj r),kill (bR σ.H (args.map (oev σ.J)) r) σ.H,σ.n⟩ (bR σ.H (args.map (oev σ.J)) r++con)):O1d P ⟨dst,.call ⟨.value (.func f),args.toArray,ts⟩,ty,pos,after,guard⟩ σ con k d:=by
 show OC P f args.toArray dst σ con k
 unfold OC
 simp only[hm,A1,BY]
 refine .inr ?_
 first|exact⟨ds,r,hfr,hsp,hk⟩|(split<;>first|exact⟨ds,r,hfr,hsp,hk⟩|(rename_i g id h;exact(hnk g id h).elim))
def lN(r:List Cl×List (Int×Ch)×Int):D:=.ag [aE r.1,dI r.2.1,.i .i64 r.2.2]
def bPw(c:List Cl)(a b:Int):List Cl×List (Int×Ch)×Int :=
 if(bG c a).isSome=false\/(bG c b).isSome=false then([],[],250)else if dOf c a≠dOf c b then([],[],260)else if a=b\/bOf c a≠bOf c b then([],[],310)
 else(kL (qN c b (plM (-1) [(a,1)] [(b,1)])) b b,mN (eF c []) b [(a,1)],0)
def aPl(c:List Cl)(n:Int)(y:Ch):(qN c n y).length=c.length:=by unfold qN;rw[AL]
def yZ(c:List Cl)(g:List (Int×Ch)):(eF c g).length=c.length:=by unfold eF;rw[AL]
def fY(c:List Cl):inj (aE c)=.d (aE c):=rfl
def eK(H:Hp)(avs:List AV)(c:List Cl):bR H avs (aE c)=fK H avs:=rfl
def rB(c:List Cl):one (AV.d (aE c))=true:=rfl
def kG(c:List (Int×Ch)):one (AV.d (dI c))=true:=rfl
def lQ(c:List Cl):fN (AV.d (aE c))=some [AV.d (aE c)]:=rfl
def gP(c:List (Int×Ch)):fN (AV.d (dI c))=some [AV.d (dI c)]:=rfl
def aBc(c:List Cl):aO (aE c)=.d (aE c):=rfl
def aPr{c:List Cl}{e:Nat}(a b:Int)(hz:SzX e c)(he:e+e+4<4398046511104):Spec Aa 63 [aE c,.i .i64 a,.i .i64 b] (lN (bPw c a b)):=by
 have hlen:=hz.len;have hFa:=gC c a (by omega);have hFb:=gC c b (by omega);have hr:∃p x q y,(bG c a).isSome=p/\(bG c a).getD lA=x/\(bG c b).isSome=q/\(bG c b).getD lA=y:=⟨_,_,_,_,rfl,rfl,rfl,rfl⟩;obtain⟨p,x,q,y,hp,hx,hq,hy⟩:=hr;have hda:dOf c a=x.dim:=by unfold dOf;rw[hx]
 have hdb:dOf c b=y.dim:=by unfold dOf;rw[hy]
 have hba:bOf c a=x.b:=by unfold bOf;rw[hx]
 have hbb:bOf c b=y.b:=by unfold bOf;rw[hy]
 have hxl:x.b.length<=100:=by rw[<-hba];exact nM hz.bl a
 have hyl:y.b.length<=100:=by rw[<-hbb];exact nM hz.bl b
 have hxs:∀f∈x.b,Sz f.2:=by rw[<-hba];exact(mI hz.bb a).sz (by omega)
 have hys:∀f∈y.b,Sz f.2:=by rw[<-hbb];exact(mI hz.bb b).sz (by omega)
 have hE:=aLz x.b y.b hxs hys (by omega) (by omega);unfold oP at hFa hFb;rw[hp,hx]at hFa;rw[hq,hy]at hFb;have hO1:=xI a;have hO2:=xI b;have hOf:=sY (-1) (by decide) (by decide);have hPl:=nC (k:=-1) (e:=0) (f:=0) (g:=0) (a:=[(a,1)]) (b:=[(b,1)]) (Bnd.one (Ap 1)) (Bnd.one (Ap 1)) (by decide) (by omega) (by omega) (by simp) (by simp);have hmv:∃mv,plM (-1) [(a,1)] [(b,1)]=mv:=⟨_,rfl⟩;obtain⟨mv,hmv⟩:=hmv;have hmb:Bnd (2^0) mv/\mv.length<=1048576:=by
  rw[<-hmv];have h1:∀l:Ch,(∀f∈l,f.2.natAbs<=1)->Bnd (2^0) l:=λl h=>h
  by_cases h2:a<b
  ·have e:plM (-1) [(a,1)] [(b,1)]=[(a,1),(b,-1)]:=by simp[plM,nzF,h2]
   rw[e];exact⟨h1 _ (by simp),by simp⟩
  ·by_cases h3:b<a
   ·have e:plM (-1) [(a,1)] [(b,1)]=[(b,-1),(a,1)]:=by simp[plM,nzF,h2,h3]
    rw[e];exact⟨h1 _ (by simp),by simp⟩
   ·have e:plM (-1) [(a,1)] [(b,1)]=[]:=by simp[plM,nzF,h2,h3]
    rw[e];exact⟨h1 _ (by simp),by simp⟩
 unfold bPw;rw[hp,hq,hda,hdb,hba,hbb,hmv];rw[hmv]at hPl;have hRp:=aPq b mv hz hmb.1 hmb.2 (by omega);have hWo:=aEs (c:=qN c b mv) b b (by rw[aPl];omega);have hIt:=aAt (c:=c) (by omega);have hWi:=aDa (m:=eF c []) b [(a,1)] (by rw[yZ];omega);refine bF (N:=70) Tryz.func63 ?_;simp[-O,-X,↓KW,aE];refine aJ hFa ?_;simp[-O,-X,↓KW,aE,aR,aC,aA,aB];refine aJ hFb ?_;cases p with
 |false=>simp[-O,-X,↓KW,aE,aR,aC,aA,aB,lN,dI]
 |true =>
  cases q with
  |false=>simp[-O,-X,↓KW,aE,aR,aC,aA,aB,lN,dI]
  |true =>
   by_cases h1:x.dim=y.dim
   rotate_left
   ·have h1':((x.dim != y.dim):Bool)=true:=by simpa using h1
    simp[-O,-X,↓KW,aE,aR,aC,aA,aB,lN,dI,h1',h1]
   ·have h1':((x.dim != y.dim):Bool)=false:=by simpa using h1
    by_cases h2:a=b
    ·have h2':((a==b):Bool)=true:=by simpa using h2
     simp[-O,-X,↓KW,aE,aR,aC,aA,aB,lN,dI,h1',h1,h2',h2]
    ·have h2':((a==b):Bool)=false:=by simpa using h2
     simp[-O,-X,↓KW,aE,aR,aC,aA,aB,h1',h1,h2',h2];refine aJ hE ?_;by_cases h3:x.b=y.b
     rotate_left
     ·rw[Br h3];simp[-O,-X,↓KW,aE,aR,aC,aA,aB,lN,dI,h1',h1,h2',h2,h3]
     ·rw[BD h3];simp[-O,-X,↓KW,aE,aR,aC,aA,aB,h1',h1,h2',h2,h3];refine aJ hO1 ?_;simp[-O,-X,↓KW,aE,aY,aF,aD,aG,aZ,aQ,aT,aC,aA,aB];refine aJ hO2 ?_;simp[-O,-X,↓KW,aE,aY,aF,aD,aG,aZ,aQ,aT,aC,aA,aB];refine aJ hOf ?_;simp[-O,-X,↓KW,aE,aY,aF,aD,aG,aZ,aQ,aT,aC,aA,aB];refine aJ hPl ?_;simp[-O,-X,↓KW,aE,aY,aF,aD,aG,aZ,aQ,aT,aC,aA,aB];refine bIj [aE c,.i .i64 b,aK mv] _ (by simp) (λg id h=>by simp at h) (by rfl) hRp ?_;simp[-O,-X,↓KW,aE,aY,aF,aD,aG,aZ,aQ,aT,aC,aA,aB,fY,eK];refine aJ hWo ?_;simp[-O,-X,↓KW,aE,aY,aF,aD,aG,aZ,aQ,aT,aC,aA,aB,fY,eK];refine aJ hIt ?_;simp[-O,-X,↓KW,aE,aY,aF,aD,aG,aZ,aQ,aT,aC,aA,aB,fY,eK,cY,bZ];refine aJ hO1 ?_;simp[-O,-X,↓KW,aE,aY,aF,aD,aG,aZ,aQ,aT,aC,aA,aB,fY,eK,cY,bZ];refine aJ hWi ?_;simp[-O,-X,↓KW,aE,aY,aF,aD,aG,aZ,aQ,aT,aC,aA,aB,fY,eK,cY,bZ,rB,kG,lQ,gP,lN,h1,h2,h3]
def aNc{a b:Int}(h:a≠b)(n:Int):∀l:Ch,cf n (l.map (hJ a b))=if n=b then 0 else cf n l+if n=a then cf b l else 0
 |[]=>by simp[cf]
 |f::l=>by
  rw[A0];simp only[cf];rw[aNc h n l];unfold hJ;by_cases h1:f.1=b
  ·rw[Ae h1];by_cases h2:n=b
   ·have h3:¬n=a:=λe=>h (e.symm.trans h2)
    rw[Ae h2,Ae h2,Ac h3];simp
   ·have h3:¬n=f.1:=λe=>h2 (e.trans h1)
    rw[Ac h2,Ac h2,Ac h3];by_cases h4:n=a
    ·rw[Ae h4,Ae h4,Ae h4,Ae h1.symm];omega
    ·rw[Ac h4,Ac h4,Ac h4];omega
  ·rw[Ac h1];by_cases h2:n=b
   ·have h3:¬n=f.1:=λe=>h1 (e.symm.trans h2)
    rw[Ae h2,Ae h2,Ac h3];simp
   ·rw[Ac h2,Ac h2];have h5:¬b=f.1:=λe=>h1 e.symm
    rw[Ac h5];by_cases h4:n=a
    ·rw[Ae h4,Ae h4];omega
    ·rw[Ac h4,Ac h4];omega
def zQ{l:Ch}(h:Val l)(n:Int):eP l n=cf n l:=by
 induction l with
 |nil=>rfl
 |cons f l ih =>
  obtain⟨h1,h2,_⟩:=h.tail;unfold eP;rw[DM];simp only[cf];by_cases e:f.1=n
  ·have h0:cf n l=0:=by
    rw[gD h1,<-gD h1];have:∀(l:Ch),(∀x∈l,x.1≠n)->cf n l=0:=by
     intro l;induction l with
     |nil=>intro _;rfl
     |cons x l ih=>intro hh;simp only[cf];rw[Ac (λe=>hh x (Av ..) e.symm),ih λy hy=>hh y (As _ hy)];rfl
    refine this l λx hx=>?_
    have:=(Bj.1 h.1).1 x hx;omega
   simp[e,h0]
  ·have e':¬n=f.1:=λx=>e x.symm
   rw[Ac e'];simp only[e,FV,A1,BY,CD];exact ih h1
def bQa{a b:Int}(h:a≠b){z:Cl}(hz:Val z.b)(hn:z.id≠b):mO b (plM (-1) [(a,1)] [(b,1)]) z=tC a b z:=by
 have va:Val [(a,(1:Int))]:=⟨Dg _ _,λy hy=>by rw[AT.1 hy];simp⟩;have vb:Val [(b,(1:Int))]:=⟨Dg _ _,λy hy=>by rw[AT.1 hy];simp⟩;have vm:=iX (-1) va vb;obtain⟨h1,h2⟩:=cR (z.b.map (hJ a b)) [] Val.nil;unfold mO tC;have hc:=zQ hz b;by_cases h0:eP z.b b=0
 ·rw[Ae h0];rw[h0]at hc;have:z.b=cE [] (z.b.map (hJ a b)):=hz.ext h1 λn=>by
   rw[h2,gX,aNc h,<-gD hz,<-hc];by_cases e:n=b
   ·rw[Ae e,e,<-hc];simp
   ·rw[Ac e];simp
  rw[<-this]
 ·rw[Ac h0];congr 1;have vp:=iX (eP z.b b) hz vm;refine vp.ext h1 λn=>?_
  rw[h2,gX,<-gD vp,uO,uO,aNc h,hc];simp only[cf];by_cases e:n=b
  ·have e2:¬n=a:=λx=>h (x.symm.trans e)
   rw[Ae e,Ac e2,Ae e,e];omega
  ·rw[Ac e,Ac e];by_cases e2:n=a
   ·rw[Ae e2,Ae e2];omega
   ·rw[Ac e2,Ac e2];omega
def bPv{c:List Cl}(hc:CxV c)(a b:Int):bPw c a b=aRx c a b:=by
 unfold bPw aRx;split
 ·rfl
 ·split
  ·rfl
  ·split
   ·rfl
   ·rename_i h;have hab:a≠b:=λe=>h (.inl e)
    have e1:kL (qN c b (plM (-1) [(a,1)] [(b,1)])) b b=nT c a b:=by
     unfold kL qN nT;rw[List.filter_map];have e2:((jD b b) ∘ mO b (plM (-1) [(a,1)] [(b,1)]))=λz:Cl=>!decide (z.id=b):=by
      funext z;have:(mO b (plM (-1) [(a,1)] [(b,1)]) z).id=z.id:=by unfold mO;split<;>rfl
      simp only[DQ,jD,this,Bool.and_self]
     rw[e2];refine BJ λz hz=>?_
     obtain⟨h1,h2⟩:=Bh.1 hz;exact bQa hab (hc.val z h1) (by simpa using h2)
    have e3:mN (eF c []) b [(a,1)]=eF c [(b,[(a,1)])]:=by
     unfold mN eF;rw[CC];refine BJ λz _=>?_
     simp only[DQ,mD];by_cases e:z.id=b
     ·simp[e]
     ·have e':¬b=z.id:=λx=>e x.symm
      simp[e,e']
    rw[e1,e3]
def bDj(c:List Cl)(hc:CxV c)(a b:Int):(∃n,n≠0/\aRx c a b=([],[],n))\/(aNo c a b/\aRx c a b=(nT c a b,eF c [(b,[(a,1)])],0)):=by
 unfold aRx;split
 ·exact .inl ⟨250,by decide,rfl⟩
 ·rename_i h1;split
  ·exact .inl ⟨260,by decide,rfl⟩
  ·rename_i h2;split
   ·exact .inl ⟨310,by decide,rfl⟩
   ·rename_i h3;refine .inr ⟨⟨λe=>h3 (.inl e),?_,?_,?_,?_⟩,rfl⟩
    ·cases e:bG c a with
     |none=>exact(h1 (.inl (by rw[e];rfl))).elim
     |some x=>exact⟨x,dE e⟩
    ·cases e:bG c b with
     |none=>exact(h1 (.inr (by rw[e];rfl))).elim
     |some x=>exact⟨x,dE e⟩
    ·exact A8 λe=>h2 e
    ·exact A8 λe=>h3 (.inr e)
def cD(c:List Cl)(x:Cl):List Cl:=(c.takeWhile λy=>decide (y.id<x.id))++x::c.dropWhile λy=>decide (y.id<x.id)
def nP(c:List Cl)(x:Cl):(cD c x).Perm (x::c):=by unfold cD;refine List.perm_middle.trans ?_;rw[List.takeWhile_append_dropWhile]
def aQf(y:Cl)(c:List Cl)(x:Cl):cD (y::c) x=if y.id<x.id then y::cD c x else x::y::c:=by unfold cD;by_cases h:y.id<x.id<;>simp[List.takeWhile_cons,List.dropWhile_cons,h]
def mW(c:List Cl)(x:Cl):(cD c x).length=c.length+1:=by rw[(nP c x).length_eq];rfl
def iH{c:List Cl}{x y:Cl}:y∈cD c x↔y=x\/y∈c:=by rw[(nP c x).mem_iff,AG]
def xJ{c:List Cl}{x:Cl}(hc:Inc c)(hx:∀y∈c,y.id≠x.id):Inc (cD c x):=by
 induction c with
 |nil=>simp[cD,Inc]
 |cons y c ih =>
  obtain⟨h1,h2⟩:=Bj.1 hc;rw[aQf];have hne:=hx y (Av ..);by_cases h:y.id<x.id
  ·rw[Ae h];refine Bj.2 ⟨λz hz=>?_,ih h2 λz hz=>hx z (As _ hz)⟩;rcases iH.1 hz with rfl|hz
   ·exact h
   ·exact h1 z hz
  ·rw[Ac h];refine Bj.2 ⟨λz hz=>?_,hc⟩;rcases AG.1 hz with rfl|hz
   ·omega
   ·have:=h1 z hz;omega
def wK(l:Ch):Ch:=l.filter λf=>decide (0<f.2)
def yU(l:Ch):Ch:=l.filter λf=>!decide (0<f.2)
def nA(w0:Int)(l:Ch):Ch:=(w0,1)::yU l
def lV(w0:Int)(l:Ch):Ch:=(w0,-1)::wK l
def adF(e w1:Int)(l:Ch):Ch:=(l.filter λf=>decide (f.1=e)).map λf=>(w1,f.2)
def subL(e w0 w1:Int)(xb:Ch)(z:Cl):Ch:=if z.id=e then nA w0 xb else z.b++adF e w1 z.b
def jQ(e w0 w1:Int)(xb:Ch)(z:Cl):Cl:=⟨z.id,z.dim,cE [] (subL e w0 w1 xb z)⟩
def aAk(w0:Int):Cl:=⟨w0,0,[]⟩
def aOy(w0 w1:Int)(xb:Ch):Cl:=⟨w1,1,cE [] (lV w0 xb)⟩
def aOw(c:List Cl)(e w0 w1:Int):List Cl:=[aAk w0,aOy w0 w1 (bOf c e)]++c.map (jQ e w0 w1 (bOf c e))
def nZ(c:List Cl)(e w0 w1:Int):List Cl:=cD (cD (c.map (jQ e w0 w1 (bOf c e))) (aAk w0)) (aOy w0 w1 (bOf c e))
def aOv(c:List Cl)(e w0 w1:Int):List Cl×List (Int×Ch)×Int :=
 if(bG c e).isSome=false then([],[],250)else if dOf c e≠1 then([],[],260)else if w0=w1\/kn c w0=true\/kn c w1=true then([],[],253)else if 398<c.length then([],[],2)
 else(nZ c e w0 w1,eF c [(e,cE [(e,1)] (mulR 1 [(w1,1)]))],0)
def aAm(c:List Cl)(e w0 w1:Int):(nZ c e w0 w1).Perm (aOw c e w0 w1):=by unfold nZ aOw;refine(nP _ _).trans (((nP _ _).cons _).trans ?_);exact .swap ..
def tY{c:List Cl}{n:Int}(h:kn c n=false):∀y∈c,y.id≠n:=by unfold kn at h;exact aGd (by simpa using h)
def aPa{c:List Cl}{e w0 w1:Int}(hc:Inc c)(h0:kn c w0=false)(h1:kn c w1=false)(h:w0≠w1):Inc (nZ c e w0 w1):=by
 have hm:Inc (c.map (jQ e w0 w1 (bOf c e))):=CM.2 hc;refine xJ (xJ hm λy hy=>?_) λy hy=>?_
 ·obtain⟨z,hz,rfl⟩:=AA.1 hy;exact tY h0 z hz
 ·rcases iH.1 hy with rfl|hy
  ·exact h
  ·obtain⟨z,hz,rfl⟩:=AA.1 hy;exact tY h1 z hz
def aOz(c:List Cl)(e w0 w1:Int):(nZ c e w0 w1).length=c.length+2:=by rw[(aAm c e w0 w1).length_eq];simp[aOw]
def bFr(c:List Cl)(e w0 w1:Int):(aOw c e w0 w1).length=c.length+2:=by simp[aOw]
def wR{a b:Ch}(ha:Val a)(hb:Val b)(h:∀w,bO w a=bO w b):a=b :=
 ha.ext hb λn=>by rw[<-gD ha,<-gD hb,nJ,nJ];exact h _
def aCq(w:Int->Int):∀l:Ch,bO w (wK l)+bO w (yU l)=bO w l
 |[]=>rfl
 |f::l=>by
  have ih:=aCq w l;unfold wK yU at ih ⊢;by_cases h:0<f.2
  ·simp only[CH,h,decide_true,B5,Bool.not_true,A1,BY,bO];omega
  ·simp only[CH,h,FV,A1,BY,Bool.not_false,B5,bO];omega
def qU(w:Int->Int)(e w1:Int):∀l:Ch,bO w (adF e w1 l)=cf e l*w w1
 |[]=>by simp[adF,bO,cf]
 |f::l=>by
  have ih:=qU w e w1 l;unfold adF at ih ⊢;simp only[cf];by_cases h:f.1=e
  ·have h':e=f.1:=h.symm;simp only[CH,h,decide_true,B5,A0,bO,ih];rw[Int.add_mul]
  ·have h':¬e=f.1:=λx=>h x.symm
   simp only[CH,h,FV,A1,BY,ih,Ac h'];simp
def uW(a b d:Int->Int)(k r:Int):∀l:Ch,bO (λm=>a m+k*b m-r*d m) l=bO a l+k*bO b l-r*bO d l
 |[]=>by simp[bO]
 |f::l=>by simp only[bO,uW a b d k r l];rw[Int.mul_sub,De,De,De,Int.mul_left_comm f.2 k,Int.mul_left_comm f.2 r];omega
def vS{l:Ch}{f:Int×Int}(h:f∈cE [] l):∃g∈l,g.1=f.1:=by
 obtain⟨h1,h2⟩:=cR l [] Val.nil;have e:=fJ h1 h;rw[h2,gX,CD]at e;have hne:cf f.1 l≠0:=by rw[e];exact h1.2 f h
 exact A8 λhn=>hne (nK λx hx e=>hn ⟨x,hx,e⟩)
def aVs(m e:Int):(if m=e then(1:Int)else 0)=if e=m then 1 else 0:=by
 by_cases q:m=e
 ·simp[q]
 ·have q':¬e=m:=λx=>q x.symm
  simp[q,q']
structure jZ(c:List Cl)(e w0 w1:Int):Prop where
 ine:∃x∈c,x.id=e/\x.dim=1
 n0:∀y∈c,y.id≠w0
 n1:∀y∈c,y.id≠w1
 ne:w0≠w1
section
variable {c:List Cl} {e w0 w1:Int}
def iN{z:Cl}:z∈nZ c e w0 w1↔z=aAk w0\/z=aOy w0 w1 (bOf c e)\/∃y∈c,z=jQ e w0 w1 (bOf c e) y:=by
 rw[(aAm c e w0 w1).mem_iff];unfold aOw;rw[A6,AG,AT,AA];constructor
 ·rintro((h|h)|⟨y,hy,rfl⟩)
  ·exact .inl h
  ·exact .inr (.inl h)
  ·exact .inr (.inr ⟨y,hy,rfl⟩)
 ·rintro(h|h|⟨y,hy,rfl⟩)
  ·exact .inl (.inl h)
  ·exact .inl (.inr h)
  ·exact .inr ⟨y,hy,rfl⟩
def bVs(h:∀y∈c,y.id≠w0):kn c w0=false:=by
 unfold kn;cases e:bG c w0 with
 |none=>rfl
 |some x=>obtain⟨h1,h2⟩:=dE e;exact(h x h1 h2).elim
def jZ.inc(s:jZ c e w0 w1)(h:Inc c):Inc (nZ c e w0 w1):=aPa h (bVs s.n0) (bVs s.n1) s.ne
def jZ.find(s:jZ c e w0 w1)(h:Inc c){y:Cl}(hy:y∈c):bG (nZ c e w0 w1) y.id=some (jQ e w0 w1 (bOf c e) y):=(s.inc h).find (x:=jQ e w0 w1 (bOf c e) y) (iN.2 (.inr (.inr ⟨y,hy,rfl⟩)))
def jZ.find0(s:jZ c e w0 w1)(h:Inc c):bG (nZ c e w0 w1) w0=some (aAk w0):=(s.inc h).find (x:=aAk w0) (iN.2 (.inl rfl))
def jZ.find1(s:jZ c e w0 w1)(h:Inc c):bG (nZ c e w0 w1) w1=some (aOy w0 w1 (bOf c e)):=(s.inc h).find (x:=aOy w0 w1 (bOf c e)) (iN.2 (.inr (.inl rfl)))
def jZ.b(s:jZ c e w0 w1)(h:Inc c){y:Cl}(hy:y∈c):bOf (nZ c e w0 w1) y.id=cE [] (subL e w0 w1 (bOf c e) y):=by unfold Go.Am.bOf;rw[s.find h hy];rfl
def jZ.b0(s:jZ c e w0 w1)(h:Inc c):bOf (nZ c e w0 w1) w0=[]:=by unfold Go.Am.bOf;rw[s.find0 h];rfl
def jZ.b1(s:jZ c e w0 w1)(h:Inc c):bOf (nZ c e w0 w1) w1=cE [] (lV w0 (bOf c e)):=by unfold Go.Am.bOf;rw[s.find1 h];rfl
def aSt(h:CxV c){y:Cl}(hy:y∈c)(hd:y.dim=0):y.b=[]:=by
 cases hb:y.b with
 |nil=>rfl
 |cons f l =>
  obtain⟨z,hz,_,e2⟩:=h.face y hy f (by rw[hb];exact Av ..);have:=(h.dim z hz).1;omega
def jZ.own(s:jZ c e w0 w1)(h:CxV c):∃x∈c,x.id=e/\x.dim=1/\bOf c e=x.b:=by obtain⟨x,hx,e1,e2⟩:=s.ine;exact⟨x,hx,e1,e2,by rw[<-e1];exact h.bOf hx⟩
def jZ.pts(s:jZ c e w0 w1)(h:CxV c){f:Int×Int}(hf:f∈bOf c e):∃y∈c,y.id=f.1/\y.dim=0/\y.id≠e:=by obtain⟨x,hx,e1,e2,e3⟩:=s.own h;rw[e3]at hf;obtain⟨y,hy,k1,k2⟩:=h.face x hx f hf;refine⟨y,hy,k1,by omega,λhe=>?_⟩;have:=h.inc.eq hy hx (he.trans e1.symm);subst this;omega
def jZ.zero(s:jZ c e w0 w1)(h:CxV c){y:Cl}(hy:y∈c)(hd:y.dim=0):bOf (nZ c e w0 w1) y.id=[]:=by
 rw[s.b h.inc hy];unfold subL;have hb:=aSt h hy hd;have hne:y.id≠e:=λhe=>by obtain⟨x,hx,e1,e2,_⟩:=s.own h;have:=h.inc.eq hy hx (he.trans e1.symm);subst this;omega
 rw[Ac hne,hb];rfl
def jZ.noE(s:jZ c e w0 w1)(h:CxV c):cf e (bOf c e)=0:=nK λf hf he=>by obtain⟨y,_,k1,_,k3⟩:=s.pts h hf;exact k3 (k1.trans he)
def aDd{l:Ch}{f:Int×Int}(h:f∈wK l):f∈l:=(Bh.1 h).1
def aDe{l:Ch}{f:Int×Int}(h:f∈yU l):f∈l:=(Bh.1 h).1
def nw(c:List Cl)(e w0 w1:Int)(w:Int->Int)(m:Int):Int:=bO w (bOf (nZ c e w0 w1) m)
def jZ.nw1(s:jZ c e w0 w1)(h:Inc c)(w:Int->Int):nw c e w0 w1 w w1=- w w0+bO w (wK (bOf c e)):=by unfold nw;rw[s.b1 h,dR];unfold lV;simp only[bO];omega
def jZ.nwy(s:jZ c e w0 w1)(h:CxV c)(w:Int->Int){y:Cl}(hy:y∈c):nw c e w0 w1 w y.id=bO w (bOf c y.id)+w w1*cf e (bOf c y.id)-nw c e w0 w1 w w1*(if y.id=e then 1 else 0):=by
 have h1:nw c e w0 w1 w y.id=bO w (subL e w0 w1 (bOf c e) y):=by unfold nw;rw[s.b h.inc hy,dR]
 rw[h1,s.nw1 h.inc];unfold subL;by_cases he:y.id=e
 ·rw[Ae he,Ae he,he,s.noE h];have:=aCq w (bOf c e);unfold nA;simp only[bO];omega
 ·rw[Ac he,Ac he,lT,qU,h.bOf hy,B1 (w w1)];omega
def jZ.nw0(s:jZ c e w0 w1)(h:CxV c)(w:Int->Int){l:Ch}(hl:∀f∈l,f.1=w0\/∃y∈c,y.id=f.1/\y.dim=0):bO (nw c e w0 w1 w) l=0:=aIg λf hf=>by
 unfold nw;rcases hl f hf with e1|⟨y,hy,e1,e2⟩
 ·rw[e1,s.b0 h.inc];rfl
 ·rw[<-e1,s.zero h hy e2];rfl
def jZ.valid(s:jZ c e w0 w1)(h:CxV c):CxV (nZ c e w0 w1):=by
 have hpos:∀f∈lV w0 (bOf c e),f.1=w0\/∃y∈c,y.id=f.1/\y.dim=0:=λf hf=>by
  rcases AG.1 hf with rfl|hf
  ·exact .inl rfl
  ·obtain⟨y,hy,k1,k2,_⟩:=s.pts h (aDd hf);exact .inr ⟨y,hy,k1,k2⟩
 have hrest:∀f∈nA w0 (bOf c e),f.1=w0\/∃y∈c,y.id=f.1/\y.dim=0:=λf hf=>by
  rcases AG.1 hf with rfl|hf
  ·exact .inl rfl
  ·obtain⟨y,hy,k1,k2,_⟩:=s.pts h (aDe hf);exact .inr ⟨y,hy,k1,k2⟩
 have hface:∀(f:Int×Int) (d:Int),(f.1=w0\/∃y∈c,y.id=f.1/\y.dim=0)->d=1->∃y∈nZ c e w0 w1,y.id=f.1/\y.dim=d-1:=λf d hf hd=>by
  rcases hf with e1|⟨y,hy,e1,e2⟩
  ·exact⟨aAk w0,iN.2 (.inl rfl),e1.symm,by show(0:Int)=_;omega⟩
  ·exact⟨jQ e w0 w1 (bOf c e) y,iN.2 (.inr (.inr ⟨y,hy,rfl⟩)),e1,by show y.dim=_;omega⟩
 obtain⟨xe,hxe,xe1,xe2,xe3⟩:=s.own h;refine⟨s.inc h.inc,λz hz=>?_,λz hz=>?_,λz hz f hf=>?_,λz hz n=>?_⟩
 ·rcases iN.1 hz with rfl|rfl|⟨y,hy,rfl⟩
  ·exact⟨Int.le_refl 0,by show(0:Int)<=3;decide⟩
  ·exact⟨by show(0:Int)<=1;decide,by show(1:Int)<=3;decide⟩
  ·exact h.dim y hy
 ·rcases iN.1 hz with rfl|rfl|⟨y,hy,rfl⟩
  ·exact Val.nil
  ·exact(cR _ [] Val.nil).1
  ·exact(cR _ [] Val.nil).1
 ·rcases iN.1 hz with rfl|rfl|⟨y,hy,rfl⟩
  ·cases hf
  ·obtain⟨g,hg,he⟩:=vS (l:=lV w0 (bOf c e)) hf;have:=hface g 1 (hpos g hg) rfl;rw[he]at this;exact this
  ·obtain⟨g,hg,he⟩:=vS (l:=subL e w0 w1 (bOf c e) y) hf;unfold subL at hg;by_cases hye:y.id=e
   ·rw[Ae hye]at hg;have hyd:y.dim=1:=by rw[h.inc.eq hy hxe (hye.trans xe1.symm)];exact xe2
    have:=hface g y.dim (hrest g hg) hyd;rw[he]at this;exact this
   ·rw[Ac hye]at hg;rcases A6.1 hg with hg|hg
    ·obtain⟨u,hu,k1,k2⟩:=h.face y hy g hg;exact⟨jQ e w0 w1 (bOf c e) u,iN.2 (.inr (.inr ⟨u,hu,rfl⟩)),k1.trans he,k2⟩
    ·unfold adF at hg;obtain⟨g',hg',rfl⟩:=AA.1 hg;obtain⟨h1,h2⟩:=Bh.1 hg';have h2:g'.1=e:=by simpa using h2
     obtain⟨u,hu,k1,k2⟩:=h.face y hy g' h1;have hu2:u=xe:=h.inc.eq hu hxe (k1.trans (h2.trans xe1.symm));refine⟨aOy w0 w1 (bOf c e),iN.2 (.inr (.inl rfl)),he,?_⟩;show(1:Int)=y.dim-1;rw[<-k2,hu2,xe2]
 ·suffices hw:∀w:Int->Int,bO (nw c e w0 w1 w) z.b=0 by
   have:=hw λm=>if n=m then 1 else 0
   refine F4 (eB λf _=>?_) this;unfold nw;rw[nJ]
  intro w;rcases iN.1 hz with rfl|rfl|⟨y,hy,rfl⟩
  ·rfl
  ·show bO _ (cE [] (lV w0 (bOf c e)))=0;rw[dR];exact s.nw0 h w hpos
  ·show bO _ (cE [] (subL e w0 w1 (bOf c e) y))=0;rw[dR];unfold subL;by_cases hye:y.id=e
   ·rw[Ae hye];exact s.nw0 h w hrest
   ·rw[Ac hye,lT,qU];have e1:bO (nw c e w0 w1 w) y.b=bO (λm=>bO w (bOf c m)+w w1*cf e (bOf c m)-nw c e w0 w1 w w1*(if m=e then 1 else 0)) y.b:=eB λf hf=>by obtain⟨u,hu,k1,_⟩:=h.face y hy f hf;rw[<-k1];exact s.nwy h w hu
    have e2:bO (λm=>if m=e then(1:Int)else 0) y.b=cf e y.b:=by rw[nJ];exact eB λf _=>aVs f.1 e
    rw[e1,uW,h.wcyc hy w,h.cyc y hy e,e2,B1 (nw c e w0 w1 w w1)];omega
def aHp(e w1:Int):Ch:=cE [(e,1)] (mulR 1 [(w1,1)])
def jK(n:Int):Val [(n,(1:Int))]:=⟨Dg _ _,λy hy=>by rw[AT.1 hy];simp⟩
def aUf(e w1:Int)(w:Int->Int):bO w (aHp e w1)=w e+w w1:=by unfold aHp;rw[mR,mQ];simp[bO]
def aFv(e n:Int)(B:Ch):(mD [(e,B)] n).getD [(n,1)]=if n=e then B else[(n,1)]:=by
 unfold mD;by_cases h:n=e
 ·simp[h]
 ·have:¬e=n:=λx=>h x.symm
  simp[this,h]
def xU{g:List (Int×Ch)}(hi:Inc c)(w:Int->Int):∀{x:Ch},(∀f∈x,∃y∈c,y.id=f.1)->bO w (apL (eF c g) x)=bO (λk=>bO w ((mD g k).getD [(k,1)])) x
 |[],_=>rfl
 |f::x,h=>by obtain⟨y,hy,he⟩:=h f (Av ..);show bO w (apP (eF c g) f++apL (eF c g) x)=_;rw[lT,aNi hi hy he.symm,mQ,xU hi w λf hf=>h f (As _ hf),he];rfl
def jZ.comm(s:jZ c e w0 w1)(h:CxV c):CmT c (nZ c e w0 w1) (eF c [(e,aHp e w1)]):=by
 have hget:∀(i:Nat) x p,c[i]? = some x->(eF c [(e,aHp e w1)])[i]? = some p->p=(x.id,if x.id=e then aHp e w1 else[(x.id,1)]):=λi x p hx hp=>by
  unfold eF at hp;rw[Aw,hx]at hp;injection hp with hp
  simp only[aFv]at hp;exact hp.symm
 obtain⟨xe,hxe,xe1,xe2,xe3⟩:=s.own h;have hne:e≠w1:=λx=>s.n1 xe hxe (xe1.trans x)
 refine⟨by simp[eF],λi x p hx hp=>by rw[hget i x p hx hp],λi x p hx hp f hf=>?_,λi x p hx hp=>?_⟩
 ·rw[hget i x p hx hp]at hf;have hxc:=Aq hx;simp only at hf;by_cases hxe':x.id=e
  ·rw[Ae hxe']at hf;have hxx:x=xe:=h.inc.eq hxc hxe (hxe'.trans xe1.symm);have hm:f.1=e\/f.1=w1:=by
    have hv:=(cR (mulR 1 [(w1,1)]) _ (jK e)).1;by_cases q:f.1=e
    ·exact .inl q
    ·refine .inr (A8 λq2=>?_);have e0:=fJ hv hf;rw[<-gD hv,nJ]at e0;have:=aUf e w1 (λm=>if f.1=m then 1 else 0);unfold aHp at this;rw[this,Ac q,Ac q2]at e0;exact hv.2 f hf e0.symm
   rcases hm with q|q
   ·have hfe:=s.find h.inc hxe;rw[xe1]at hfe;refine⟨_,by rw[q];exact hfe,?_⟩;rw[hxx];rfl
   ·refine⟨_,by rw[q];exact s.find1 h.inc,?_⟩;rw[hxx,xe2];rfl
  ·rw[Ac hxe']at hf;rw[AT.1 hf];exact⟨_,s.find h.inc hxc,rfl⟩
 ·have hxc:=Aq hx;rw[hget i x p hx hp];have hfc:∀f∈x.b,∃y∈c,y.id=f.1:=λf hf=>let ⟨y,hy,k,_⟩:=h.face x hxc f hf;⟨y,hy,k⟩
  refine wR (cR _ [] Val.nil).1 (cR _ [] Val.nil).1 λw=>?_
  unfold bdX apX;rw[dR,dR,pB,xU h.inc w hfc];show bO (nw c e w0 w1 w) (if x.id=e then aHp e w1 else[(x.id,1)])=_;have hr:bO (λk=>bO w ((mD [(e,aHp e w1)] k).getD [(k,1)])) x.b=bO w x.b+w w1*cf e x.b:=by
   have e1:bO (λk=>bO w ((mD [(e,aHp e w1)] k).getD [(k,1)])) x.b=bO (λk=>w k+w w1*(if k=e then 1 else 0)-0*0) x.b:=eB λf _=>by
    rw[aFv];by_cases q:f.1=e
    ·rw[Ae q,Ae q,aUf,q];omega
    ·rw[Ac q,Ac q];simp[bO]
   have e2:bO (λm=>if m=e then(1:Int)else 0) x.b=cf e x.b:=by rw[nJ];exact eB λf _=>aVs f.1 e
   rw[e1,uW w _ (λ_=>0) _ 0,e2];omega
  rw[hr];by_cases hxe':x.id=e
  ·rw[Ae hxe',aUf];have hxx:x=xe:=h.inc.eq hxc hxe (hxe'.trans xe1.symm);have k1:=s.nwy h w hxe;rw[xe1,Ae rfl,xe3,<-xe3,s.noE h]at k1;rw[k1,hxx,<-xe3,s.noE h];omega
  ·rw[Ac hxe'];simp only[bO];rw[s.nwy h w hxc,Ac hxe',h.bOf hxc];omega
end
def aDk:∀(b a:List Int),a.Pairwise (·<·)->b.Pairwise (·<·)->(∀x∈a,x∈b)->a.length<=b.length
 |[],a,_,_,h=>by
  cases a with
  |nil=>exact Ap _
  |cons x a=>cases h x (Av ..)
 |y::b,[],_,_,_=>Ak _
 |y::b,x::a,ha,hb,h=>by
  obtain⟨a1,a2⟩:=Bj.1 ha;obtain⟨b1,b2⟩:=Bj.1 hb;by_cases e:x=y
  ·have:=aDk b a a2 b2 λz hz=>by
    rcases AG.1 (h z (As _ hz))with q|q
    ·have:=a1 z hz;omega
    ·exact q
   simp only[AH];omega
  ·have hx:x∈b:=by
    rcases AG.1 (h x (Av ..))with q|q
    ·exact(e q).elim
    ·exact q
   have hyx:=b1 x hx;have:=aDk b (x::a) ha b2 λz hz=>by
    rcases AG.1 (h z hz)with q|q
    ·rcases AG.1 hz with q2|q2
     ·omega
     ·have:=a1 z q2;omega
    ·exact q
   simp only[AH]at this ⊢;omega
def CxV.bLen{c:List Cl}(h:CxV c){x:Cl}(hx:x∈c):x.b.length<=c.length:=by
 have:=aDk (c.map Cl.id) (x.b.map (·.1)) (by rw[CM];exact(h.val x hx).1) (by rw[CM];exact h.inc) λn hn=>by obtain⟨f,hf,rfl⟩:=AA.1 hn;obtain⟨y,hy,k,_⟩:=h.face x hx f hf;exact AA.2 ⟨y,hy,k⟩
 simpa using this
def pA{a b:Ch}(ha:Val a)(hb:Val b)(k:Int)(w:Int->Int):bO w (plM k a b)=bO w a+k*bO w b:=by rw[aDc ha hb];unfold lin;rw[mR,mQ]
end Go.Am
end
