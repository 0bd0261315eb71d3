/- Views of goroutines that run side by side: what each sees unfrozen is a hole to the others. No condition. -/
import Derived.Test.YtdgdlndhaecliaaGreatC4
import Derived.Test.YtdgdlndhaecliaaGreatC3
import Derived.Test.YtdgdlndhaecliaaGreatC1
import Derived.Conc.Beside
import Derived.Conc.QuitsD
import Derived.Conc.WgGenLone
import Derived.Conc.WgGenWait
set_option linter.all false
set_option maxHeartbeats 8000000
set_option maxRecDepth 10000
open Array renaming getD_eq_getD_getElem?->Au,getElem?_append_right->Cu,getElem?_eq_getElem->Al,getElem?_eq_some_iff->AX,getElem?_replicate->Ch,getElem?_setIfInBounds->FV,replicate->AY
open Bool renaming and_eq_true->A8
open Decidable renaming byContradiction->BW
open Go.Event renaming mute->Em
open Go.Frame renaming finish_at->D7
open Go.IntKind renaming bits->CK,i64->Ah,signed->Et,u32->BI,u64->AB,wrap->E2,wrap_u32->Ez,wrap_u64->EA
open Go.Obj renaming cells->C9
open Go.Proofs.Tryz renaming prog->Aa
open Go.Region renaming wanted->Bu
open Go.Value renaming cells->Ed
open Int renaming emod_add_mul_ediv->FD,emod_lt_of_pos->Gg,emod_nonneg->Dw,mul_assoc->FN,mul_neg->DD,natCast_add->DM,natCast_mul->Cd,neg_mul->Gs,tdiv_eq_ediv_of_nonneg->D2,tmod_eq_emod_of_nonneg->Ca,toNat->F3,toNat_of_nonneg->BV,zero_emod->GG
open List renaming all_cons->FM,all_eq_true->A3,append_assoc->CQ,append_nil->Ea,cons_append->Co,contains_cons->Bo,drop_eq_getElem_cons->Cn,drop_eq_nil_of_le->C0,drop_zero->D4,eq_of_mem_replicate->El,ext_getElem->FE,ext_getElem?->CH,filter_cons->E6,flatten_cons->CG,foldl_append->Gv,foldl_cons->D8,getD_eq_getElem?_getD->Ac,getElem?_append_left->AQ,getElem?_append_right->AJ,getElem?_cons_succ->BB,getElem?_cons_zero->BX,getElem?_drop->BG,getElem?_eq_getElem->Ab,getElem?_eq_none->AW,getElem?_eq_some_iff->Ao,getElem?_map->Ag,getElem?_range->Bq,getElem?_replicate->DH,getElem?_set->CW,getElem?_set_ne->Ef,getElem?_take->Bt,getElem_mem->Bz,length_append->Bc,length_cons->Ak,length_drop->CZ,length_eq_zero_iff->DI,length_map->Bl,length_nil->Aw,length_pos_iff->Ep,length_set->CB,length_singleton->BN,length_take->AZ,map->Cj,map_congr_left->CP,map_cons->BO,map_map->Dd,map_set->Fv,mem_append->BP,mem_cons->Bn,mem_cons_of_mem->AE,mem_cons_self->AI,mem_iff_getElem->BM,mem_map->AM,mem_map_of_mem->DN,mem_of_getElem?->Aj,mem_of_mem_take->Bw,mem_or_eq_of_mem_set->Fa,mem_range->Cr,mem_singleton->BQ,nil_append->Dv,nodup_cons->Df,not_mem_nil->E7,pairwise_cons->EG,pairwise_iff_getElem->Gn,pairwise_map->Fz,range->AN,replicate->Av,replicate_succ->Cz,set_append_right->Da,set_cons_succ->Fl,set_cons_zero->CL,take->D9,take_add_one->A5,take_append_drop->Dx,take_of_length_le->As,take_sublist->Dq,take_succ_cons->DO,take_zero->BD
open Nat renaming add_comm->EE,add_sub_cancel->DY,add_zero->B6,div_eq_of_lt->Di,div_le_self->Eb,eq_zero_or_pos->A7,le_of_lt->C1,le_refl->Ay,le_trans->AR,lt_log2_self->FK,lt_of_le_of_lt->Bf,lt_of_lt_of_le->A6,lt_or_ge->A4,lt_succ_of_lt->Gt,lt_succ_self->Ck,min_eq_left->De,mod_eq_of_lt->BY,mod_lt->BF,mul_comm->B5,mul_le_mul->A9,mul_lt_mul''->FG,mul_one->Dj,pow_add->Fq,pow_le_pow_right->Ci,pow_succ->BR,sub_lt_sub_left->Fc,sub_self->CU,zero_add->AA,zero_le->A1,zero_mul->DS
open Ne renaming symm->Eo
open Option renaming getD_some->AT,map_eq_some_iff->Af,map_some->AU,toList_some->DC
open Option.some renaming inj->Bm
open Rat renaming intCast_mul->CM
open _root_ renaming beq_eq_false_iff_ne->CO,decide_eq_false->Bs,decide_eq_true->B4,decide_eq_true_eq->BC,getElem!_pos->B7,if_neg->Ai,if_pos->Aq,or_false->Fg
section
open List renaming map_map->O,mapM_map->ξ
namespace Go.Am
def bIq{T:List Int}{i j:Nat}{x:Int}(hi:i<T.length):(T.set i x)[j]! = if i=j then x else T[j]! := by
 by_cases hj:j<T.length
 ·rw[B7 (T.set i x) j (by simpa using hj),List.getElem_set,B7 T j hj]
 ·have h:¬i=j:=by omega
  rw[Ai h,getElem!_neg (T.set i x) j (by simpa using hj),getElem!_neg T j hj]
def aCx:∀(j:Nat) (T:List Int) (m:Nat),j<=m->m<T.length->(∀p q,p<q->q<=m->p≠j->q≠j->T[p]! <= T[q]!)->(∀q,j<q->q<=m->T[j]! <= T[q]!)->∀p q,p<q->q<=m->(qS j T)[p]! <= (qS j T)[q]!
 | 0,T,m,_,hm,h1,h2,p,q,hpq,hq=>by
  show T[p]! <= T[q]!;rcases A7 p with hp|hp
  ·subst hp;exact h2 q hpq hq
  ·exact h1 p q hpq hq (by omega) (by omega)
 | j+1,T,m,hj,hm,h1,h2,p,q,hpq,hq=>by
  unfold qS;split
  ·rename_i hlt;have hg:∀i,((T.set (j+1) T[j]!).set j T[j+1]!)[i]! = if j=i then T[j+1]! else if j+1=i then T[j]! else T[i]! := λi=>by rw[bIq (by simp;omega),bIq (by omega)]
   refine aCx j _ m (by omega) (by simp;omega) (λp q hpq hq hp hqj=>?_) (λq hq1 hq2=>?_) p q hpq hq
   ·rw[hg,hg,Ai (show ¬j=p by omega),Ai (show ¬j=q by omega)];by_cases hp1:j+1=p
    ·rw[Aq hp1,Ai (show ¬j+1=q by omega)];exact h1 j q (by omega) hq (by omega) (by omega)
    ·rw[Ai hp1];by_cases hq1:j+1=q
     ·rw[Aq hq1];exact h1 p j (by omega) (by omega) (by omega) (by omega)
     ·rw[Ai hq1];exact h1 p q hpq hq (by omega) (by omega)
   ·rw[hg,hg,Aq rfl,Ai (show ¬j=q by omega)];by_cases hq3:j+1=q
    ·rw[Aq hq3];omega
    ·rw[Ai hq3];exact h2 q (by omega) hq2
  ·rename_i hge;have hle:T[j]! <= T[j+1]! := by omega
   by_cases hq1:q=j+1
   ·subst hq1;by_cases hp1:p=j
    ·subst hp1;exact hle
    ·exact Int.le_trans (h1 p j (by omega) (by omega) (by omega) (by omega)) hle
   ·by_cases hp1:p=j+1
    ·subst hp1;exact h2 q hpq hq
    ·exact h1 p q hpq hq hp1 hq1
def aBq(l:List Int):∀k,k<l.length->∀p q,p<q->q<=k->(jY l k)[p]! <= (jY l k)[q]!
 |0,_,p,q,h1,h2=>by omega
 | k+1,hk,p,q,h1,h2=>by have ih:=aBq l k (by omega);unfold jY;exact aCx (k+1) (jY l k) (k+1) (Ay _) (by rw[eF];exact hk) (λp q a b c d=>ih p q a (by omega)) (λq a b=>by omega) p q h1 h2
def tB(l:List Int):(dC l).Pairwise (·<=·):=by rw[Gn];intro i j hi hj hij;have hl:(dC l).length=l.length:=eF l _;have:=aBq l (l.length-1) (by omega) i j hij (by omega);unfold dC at *;rwa [B7 (jY l (l.length-1)) i hi,B7 (jY l (l.length-1)) j hj]at this
def bDg{l m:List Int}(hl:l.Pairwise (·<=·))(hm:m.Pairwise (·<=·))(h:l.Perm m):l=m:=h.eq_of_pairwise (λa b _ _ h1 h2=>Int.le_antisymm h1 h2) hl hm
def bDi{l m:List Int}(hm:m.Pairwise (·<=·))(h:m.Perm l):dC l=m:=bDg (tB l) hm ((kV l).trans h.symm)
end Go.Am
end
section
open List renaming map_map->O,mapM_map->ξ
open Go Go.Am Go.Proofs
namespace Go.Am
def iU:Nat->Nat->Nat
 |0,_=>0
 |k+1,s=>s%2+iU k (s/2)
def fB{α:Type}:List α->Nat->List α
 |[],_=>[]
 |x::l,s=>if s%2=1 then x::fB l (s/2)else fB l (s/2)
def qU{α:Type}:∀(l:List α) (s:Nat),(fB l s).length=iU l.length s
 |[],s=>rfl
 | x::l,s=>by
  unfold fB;split
  ·rename_i h;rw[Ak,qU l,Ak,iU,h];omega
  ·rename_i h;rw[qU l,Ak,iU];omega
def aGm{α:Type}(x:α):∀(l:List α) (s:Nat),fB (l++[x]) s=fB l s++if s/2^l.length%2=1 then[x]else[]
 |[],s=>by simp only[fB,Dv,Aw,Nat.pow_zero,Nat.div_one]
 | y::l,s=>by
  simp only[Co,fB,aGm x l,Ak];have e:s/2^(l.length+1)=s/2/2^l.length:=by rw[BR,B5 (2^l.length) 2,<-Nat.div_div_eq_div_mul]
  simp only[e];split<;>simp
def rM:∀(k m s:Nat),s<2^k->iU (k+m) s=iU k s
 | 0,m,s,h=>by
  have:s=0:=by simpa using h
  subst this;have h0:∀n,iU n 0=0:=λn=>by
   induction n with
   |zero=>rfl
   |succ n ih=>simp[iU,ih]
  rw[h0,h0]
 | k+1,m,s,h=>by rw[show k+1+m=(k+m)+1 from by omega];unfold iU;rw[rM k m (s/2) (by rw[BR]at h;omega)]
def aOu(a:Nat)(ha:a<4294967296):bits .and .u32 (a:Int) 1=((a%2:Nat):Int):=by
 have h1:(BitVec.ofInt 32 (a:Int)).toNat=a:=by rw[BitVec.ofInt_natCast,BitVec.toNat_ofNat];exact BY (by omega)
 have h2:(BitVec.ofInt 32 (1:Int)).toNat=1:=by decide
 show BI.wrap ((BitVec.ofInt 32 (a:Int) &&& BitVec.ofInt 32 (1:Int)).toNat:Int)=_;rw[BitVec.toNat_and,h1,h2,Nat.and_one_is_mod,Ez];omega
def aUa(s i:Nat)(hi:i<=32):dT .shr .u32 (s:Int) (i:Int)=some (.i .u32 ((s/2^i:Nat):Int)):=by simp only[dT,CK];rw[Ai (by omega)];congr 2;rw[show min (i:Int).toNat 32=i from by omega,Int.fdiv_eq_ediv_of_nonneg _ (Int.le_of_lt (Int.pow_pos (by decide)))];rw[show(2:Int)^i=((2^i:Nat):Int)from by simp];rfl
def aCr{k:Nat}(hk:0<k)(l:List (List D))(h:∀x∈l,x.length=k):chunk k l.length l.flatten=l:=by
 induction l with
 |nil=>rfl
 | cons a l ih =>
  have ha:=h a (AI ..);have:=ih λx hx=>h x (AE _ hx)
  unfold chunk at this ⊢;rw[Ak,List.range_succ_eq_map,BO,Dd,CG];congr 1
  ·simp[<-ha]
  ·conv=>rhs;rw[<-this]
   apply CP;intro i _;simp only[Function.comp];rw[show Nat.succ i*k=a.length+i*k from by rw[Nat.succ_mul,ha,EE],List.drop_append,C0 (by omega)];simp
def dR(l:List (Nat×Nat)):List D:=(l.map λx=>[.i .u64 (x.1:Int),.i .u64 (x.2:Int)]).flatten
def aJo(l:List (Nat×Nat)):(dR l).length=l.length*2:=by
 unfold dR;induction l with
 |nil=>rfl
 |cons x l ih=>simp only[BO,CG,Bc,ih,Ak,Aw];omega
def bKk(p v:Nat):dR [(p,v)]=[.i .u64 p,.i .u64 v]:=rfl
def yA{l:List (Nat×Nat)}{n:Nat}(h:l.length=n):((dR l).map AV.d).take (n*2)=(dR l).map AV.d:=As (by rw[Bl,aJo,h];exact Ay _)
def aOd{l:List (Nat×Nat)}{n:Nat}(h:l.length=n):chunk 2 n (dR l)=l.map λx=>[D.i .u64 (x.1:Int),D.i .u64 (x.2:Int)]:=by
 subst h;have:=aCr (k:=2) (by decide) (l.map λx=>[D.i .u64 (x.1:Int),D.i .u64 (x.2:Int)]) (λx hx=>by
  obtain⟨y,_,rfl⟩:=AM.1 hx;rfl)
 rwa [Bl]at this
def cAi{H:Hp}{id:Nat}{e:TypeId}{T:List (Nat×Nat)}{n:Nat}(hn:T.length=n)(hH:H id=some (.cells e ((dR T).map AV.d))):frz H 8 (.own id 0 n 2)=some (pM T):=by have e1:=yA hn;have e2:=aOd hn;have e3:=aJo T;rw[hn]at e3;simp[-O,-ξ,aBz,hH,e1,e2,e3,pM]
def rsL(l:List (Nat×Nat×Nat)):List (Nat×Nat):=l.map (·.2)
def chS(L:List (List D))(s n i:Nat):List (Nat×Nat)->St
 |[]=>StL [(1,.d (.i .u32 s)),(5,.nil),(8,.d (.sl L)),(9,.d (.i .i64 n)),(10,.d (.i .i64 i))] none []
 |x::T=>StL [(1,.d (.i .u32 s)),(5,.own 1 0 (T.length+1) 2),(8,.d (.sl L)),(9,.d (.i .i64 n)),(10,.d (.i .i64 i))] none [.cells 76 ((dR (x::T)).map .d)]
def bUd(x:Nat×Nat)(a b:List (Nat×Nat)):dR (x::(a++b))=dR (x::a)++dR b:=by simp[dR]
def aSp[M:Mch Aa](l:List (Nat×Nat×Nat))(s:Nat)(hl:l.length<=30)(hs:s<4294967296):Spec Aa 47 [eZ l,.i .u32 s] (pM (fB (rsL l) s)):=by
 obtain⟨L,hL,hLl,hLg⟩:=kA l;rw[hL];refine aX (N:=27) Tryz.func47 ?_;simp[-O,-ξ,↓KW];refine aY (τ:=Nat) (λi=>i<=l.length) (λi=>chS L s L.length i (fB (rsL (l.take i)) s)) (λi=>l.length-i) 0 (A1 _) ?_ ?_
 ·rw[BD];show ∃ρ,Wk _ (chS _ _ _ _ []) ρ;unfold chS;refine wkQ [] ?_ ?_<;>simp[-O,upd,aL,Γ0]
 ·intro i hi;by_cases hlt:i<l.length
  ·obtain⟨⟨w,p,v⟩,hge⟩:∃x,l[i]? = some x:=⟨_,Ab hlt⟩;have hLi:=hLg i _ hge;simp only at hLi;have hLi':=bP hLi;have hiL:i<L.length:=by omega
   have hT1:rsL (l.take (i+1))=rsL (l.take i)++[(p,v)]:=by rw[A5,hge];simp[rsL]
   have hB1:fB (rsL (l.take (i+1))) s=fB (rsL (l.take i)) s++if s/2^i%2=1 then[(p,v)]else[]:=by
    rw[hT1,aGm];have:(rsL (l.take i)).length=i:=by simp[rsL];omega
    rw[this]
   have hBl:(fB (rsL (l.take i)) s).length<=i:=by
    have h1:=qU (rsL (l.take i)) s;have h2:∀k s,iU k s<=k:=λk=>by
     induction k with
     |zero=>intro s;simp[iU]
     |succ k ih=>intro s;have:=ih (s/2);simp only[iU];omega
    have h3:(rsL (l.take i)).length=i:=by simp[rsL];omega
    have:=h2 (rsL (l.take i)).length s;omega
   have hw1:Ah.wrap ((i:Int)+1)=((i+1:Nat):Int):=aP;have hw0:Ah.wrap (i:Int)=i:=aP;have hsh:=aUa s i (by omega);have hx32:s/2^i<4294967296:=Bf (Eb ..) hs;have hand:dG .and false (.d (.i .u32 ((s/2^i:Nat):Int))) (.d (.i .u32 1))=some (.i .u32 ((s/2^i%2:Nat):Int)):=by show some (D.i .u32 (bits .and .u32 ((s/2^i:Nat):Int) 1))=_;rw[aOu _ hx32]
   generalize s/2^i=z at *;generalize fB (rsL (l.take i)) s=T at *;by_cases hz:z%2=1
   ·rw[Aq hz]at hB1;rw[hz]at hand;cases T with
    | nil =>
     have hm1:(1:Nat)<=maxLen:=bJ (by decide);simp[-O,-ξ,↓KW,chS,hiL,hLi,hLi',hsh,hand,hw0,hw1,hm1];refine aI (i+1) (by omega) (by show l.length-(i+1)<l.length-i;omega) ?_;show ∃ρ,Wk _ (chS _ _ _ _ _) ρ;rw[hB1];show ∃ρ,Wk _ (chS _ _ _ _ ((p,v)::[])) ρ;unfold chS;refine wkQ [3] ?_ ?_<;>simp[-O,upd,aL,Γ0,Bo,bM,bKk]
    | cons x T =>
     have hbb:(T.length+1)*16<=140737488355328/\T.length+1<=1099511627776/\(T.length+1+1)*16<=140737488355328/\T.length+1+1<=1099511627776:=by simp only[Ak]at hBl;omega
     simp[-O,-ξ,↓KW,chS,hiL,hLi,hLi',hsh,hand,hw0,hw1,aJo,hbb,bJ];refine aI (i+1) (by omega) (by show l.length-(i+1)<l.length-i;omega) ?_;show ∃ρ,Wk _ (chS _ _ _ _ _) ρ;rw[hB1];show ∃ρ,Wk _ (chS _ _ _ _ (x::(T++[(p,v)]))) ρ;unfold chS;refine wkQ [4] ?_ ?_<;>simp[-O,upd,aL,Γ0,Bo,bM,bUd,bKk]
   ·rw[Ai hz,Ea]at hB1;have hz0:z%2=0:=by omega
    rw[hz0]at hand;cases T with
    | nil =>
     simp[-O,-ξ,↓KW,chS,hiL,hLi,hLi',hsh,hand,hw0,hw1];refine aI (i+1) (by omega) (by show l.length-(i+1)<l.length-i;omega) ?_;show ∃ρ,Wk _ (chS _ _ _ _ _) ρ;rw[hB1];unfold chS;refine wkQ [] ?_ ?_<;>simp[-O,upd,aL,Γ0]
    | cons x T =>
     simp[-O,-ξ,↓KW,chS,hiL,hLi,hLi',hsh,hand,hw0,hw1];refine aI (i+1) (by omega) (by show l.length-(i+1)<l.length-i;omega) ?_;show ∃ρ,Wk _ (chS _ _ _ _ _) ρ;rw[hB1];unfold chS;refine wkQ [1] ?_ ?_<;>simp[-O,upd,aL,Γ0]
  ·have hiL:¬i<L.length:=by omega
   rw[As (show l.length<=i by omega)];generalize fB (rsL l) s=T at *;cases T with
   | nil =>
    simp[-O,-ξ,↓KW,chS,hiL];refine aS ?_;simp[-O,-ξ,↓KW,pM]
   | cons x T =>
    have hf:∀H:Hp,H 1=some (.cells 76 ((dR (x::T)).map AV.d))->frz H 8 (.own 1 0 (T.length+1) 2)=some (pM (x::T)):=λH hH=>cAi rfl hH
    have e1:=yA (l:=x::T) (n:=T.length+1) rfl;have e2:=aOd (l:=x::T) (n:=T.length+1) rfl;have e3:=aJo (x::T);rw[show(x::T).length=T.length+1 from rfl]at e3;simp[-O,-ξ,↓KW,chS,hiL];refine aS ?_;simp[-O,-ξ,↓KW,pM,e1,e2,e3]
def aNt(q:Rat):List D:=[.b (decide (q.num<0)),aB (aJ q.num.natAbs),.b false,aB (aJ q.den)]
def gU(l:List Rat):D:=.sl (l.map aNt)
def dQ(l:List Rat):List D:=(l.map aNt).flatten
def aCn(l:List Rat):(dQ l).length=l.length*4:=by
 unfold dQ;induction l with
 |nil=>rfl
 |cons x l ih=>simp only[BO,CG,Bc,ih,Ak,aNt,Aw];omega
def bKm(a b:List Rat):dQ (a++b)=dQ a++dQ b:=by simp[dQ]
def bKl(q:Rat):dQ [q]=[.b (decide (q.num<0)),aB (aJ q.num.natAbs),.b false,aB (aJ q.den)]:=rfl
def yB{l:List Rat}{n:Nat}(h:l.length=n):((dQ l).map AV.d).take (n*4)=(dQ l).map AV.d:=As (by rw[Bl,aCn,h];exact Ay _)
def aOe{l:List Rat}{n:Nat}(h:l.length=n):chunk 4 n (dQ l)=l.map aNt:=by
 subst h;have:=aCr (k:=4) (by decide) (l.map aNt) (λx hx=>by
  obtain⟨y,_,rfl⟩:=AM.1 hx;rfl)
 rwa [Bl]at this
def vH(l:List Rat):∃L,gU l=.sl L/\L.length=l.length/\∀(i:Nat) (q:Rat),l[i]? = some q->L[i]? = some [.b (decide (q.num<0)),aB (aJ q.num.natAbs),.b false,aB (aJ q.den)]:=⟨_,rfl,by simp,λi x hx=>by rw[Ag,hx];rfl⟩
def aCi(v:List Int):∃L,dW v=.sl L/\L.length=v.length/\∀(i:Nat) (z:Int),v[i]? = some z->L[i]? = some [.b (decide (z<0)),aB (aJ z.natAbs)]:=⟨_,rfl,by simp,λi x hx=>by rw[Ag,hx];rfl⟩
def pZ(v:List Int):List Rat:=v.map λ(z:Int)=>(z:Rat)
def qsS(L:List (List D))(i:Nat)(T:List Rat):St:=StL [(0,.d (.sl L)),(3,.own 1 0 T.length 4),(4,.d (.i .i64 i))] none [.cells 169 ((dQ T).map .d)]
def aIa[M:Mch Aa](v:List Int)(hv:v.length<=1000):Spec Aa 128 [dW v] (gU (pZ v)):=by
 obtain⟨L,hL,hLl,hLg⟩:=aCi v;rw[hL];refine aX (N:=21) Tryz.func128 ?_;simp[-O,-ξ,↓KW];refine aY (τ:=Nat) (λi=>i<=v.length) (λi=>qsS L i (pZ (v.take i))) (λi=>v.length-i) 0 (A1 _) ?_ ?_
 ·rw[BD];show ∃ρ,Wk _ (qsS _ _ []) ρ;unfold qsS;refine wkQ [1] ?_ ?_<;>simp[-O,upd,aL,Γ0,dQ]
 ·intro i hi;have hTl:(pZ (v.take i)).length=i:=by simp[pZ];omega
  by_cases hlt:i<v.length
  ·obtain⟨z,hge⟩:∃x,v[i]? = some x:=⟨_,Ab hlt⟩;have hLi:=hLg i _ hge;have hLi':=bP hLi;have hiL:i<L.length:=by omega
   have hW:=aLo z;have hT1:pZ (v.take (i+1))=(pZ (v.take i))++[(z:Rat)]:=by rw[A5,hge];simp[pZ]
   have hw0:Ah.wrap (i:Int)=i:=aP;have hw1:Ah.wrap ((i:Int)+1)=((i+1:Nat):Int):=aP;generalize(z:Rat)=q at *;generalize(pZ (v.take i))=T at *;have hbb:(i+1)*64<=140737488355328/\i+1<=1099511627776:=by omega
   simp[-O,-ξ,↓KW,qsS,hiL,hLi,hLi',hw0,aH];refine aC hW ?_;simp[-O,-ξ,↓KW,cK q,aCn,hTl,hbb,bJ,hw1,aH];refine aI (i+1) (by omega) (by show v.length-(i+1)<v.length-i;omega) ?_;show ∃ρ,Wk _ (qsS _ _ _) ρ;rw[hT1];unfold qsS;refine wkQ [3] ?_ ?_<;>simp[-O,upd,aL,Γ0,Bo,bM,bKm,bKl,Bc,hTl]
  ·have hiL:¬i<L.length:=by omega
   rw[As (show v.length<=i by omega)]at hTl ⊢;generalize(pZ v)=T at *;have e1:=yB hTl;have e2:=aOe hTl;have e3:=aCn T;rw[hTl]at e3;simp[-O,-ξ,↓KW,qsS,hiL];exact aS (by simp[-O,-ξ,↓KW,hTl,e1,e2,e3,gU])
def jC(a b:List Rat)(c:Rat):List Rat:=(AN a.length).map λi=>a.getD i 0-c*b.getD i 0
def lsS(A B:List (List D))(c:Rat)(i:Nat)(T:List Rat):St:=StL [(0,.d (.sl A)),(1,.d (.sl B)),(5,.ptr 1 0),(7,.own 2 0 T.length 4),(8,.d (.i .i64 i))] none [.cells 169 [.d (.b (decide (c.num<0))),.d (aB (aJ c.num.natAbs)),.d (.b false),.d (aB (aJ c.den))],.cells 169 ((dQ T).map .d)]
def bQd[M:Mch Aa](a b:List Rat)(c:Rat)(ha:a.length<=1000)(hab:a.length<=b.length)(hc:QS c)(hA:∀q∈a,QS q)(hB:∀q∈b,QS q)(hcb:∀q∈b,QS (c*q)) :
  Spec Aa 132 [gU a,gU b,dH c] (gU (jC a b c)):=by
 obtain⟨LA,hLA,hLAl,hLAg⟩:=vH a
 obtain⟨LB,hLB,hLBl,hLBg⟩:=vH b
 rw[hLA,hLB]
 refine aX (N:=31) Tryz.func132 ?_
 simp[-O,-ξ,↓KW,cK c,aH]
 refine aY (τ:=Nat) (λi=>i<=a.length) (λi=>lsS LA LB c i ((jC a b c).take i)) (λi=>a.length-i) 0 (A1 _) ?_ ?_
 ·rw[BD]
  show ∃ρ,Wk _ (lsS _ _ _ _ []) ρ
  unfold lsS
  refine wkQ [1,2] ?_ ?_<;>simp[-O,upd,aL,Γ0,dQ]
 ·intro i hi
  have hTl:((jC a b c).take i).length=i:=by simp[jC];omega
  by_cases hlt:i<a.length
  ·obtain⟨x,hx⟩:∃x,a[i]? = some x:=⟨_,Ab hlt⟩
   obtain⟨y,hy⟩:∃x,b[i]? = some x:=⟨_,Ab (by omega)⟩
   have hLi:=hLAg i _ hx
   have hLi':=bP hLi
   have hLb:=hLBg i _ hy
   have hLb':=bP hLb
   have hiL:i<LA.length:=by omega
   have hiB:i<LB.length:=by omega
   have hMl:=bFq c y hc (hB y (Aj hy))
   have hSb:=bYk x (c*y) (hA x (Aj hx)) (hcb y (Aj hy))
   have hT1:(jC a b c).take (i+1)=(jC a b c).take i++[x-c*y]:=by rw[A5];congr 1;unfold jC;rw[Ag,Bq hlt,AU,DC,Ac,Ac,hx,hy];rfl
   have hw0:Ah.wrap (i:Int)=i:=aP
   have hw1:Ah.wrap ((i:Int)+1)=((i+1:Nat):Int):=aP
   generalize x-c*y=u at *
   generalize c*y=w at *
   generalize(jC a b c).take i=T at *
   have hbb:(i+1)*64<=140737488355328/\i+1<=1099511627776:=by omega
   simp[-O,-ξ,↓KW,lsS,hiL,hiB,hLi,hLi',hLb,hLb',hw0,aH]
   refine aC hMl ?_
   simp[-O,-ξ,↓KW,cK w,aH]
   refine aC hSb ?_
   simp[-O,-ξ,↓KW,cK u,aCn,hTl,hbb,bJ,hw1,aH]
   refine aI (i+1) (by omega) (by show a.length-(i+1)<a.length-i;omega) ?_
   show ∃ρ,Wk _ (lsS _ _ _ _ _) ρ
   rw[hT1]
   unfold lsS
   refine wkQ [1,4] ?_ ?_<;>simp[-O,upd,aL,Γ0,Bo,bM,bKm,bKl,Bc,hTl]
  ·have hiL:¬i<LA.length:=by omega
   rw[As (show(jC a b c).length<=i by simp[jC];omega)]at hTl ⊢
   generalize jC a b c=T at *
   have e1:=yB hTl
   have e2:=aOe hTl
   have e3:=aCn T
   rw[hTl]at e3
   simp[-O,-ξ,↓KW,lsS,hiL]
   exact aS (by simp[-O,-ξ,↓KW,hTl,e1,e2,e3,gU])
end Go.Am
end
section
open List renaming map_map->O,mapM_map->ξ
namespace Go.Am
def en(M:List (List Rat))(i j:Nat):Rat:=(M.getD i []).getD j 0
def pad(n:Nat)(M:List (List Rat))(i j:Nat):Rat:=if i<n/\j<n then en M i j else if i=j then 1 else 0
def wP{n:Nat}{M:List (List Rat)}{i j:Nat}(h:i<n/\j<n):pad n M i j=en M i j:=Aq h
def rN{n:Nat}{M:List (List Rat)}{i j:Nat}(h:¬(i<n/\j<n)):pad n M i j=if i=j then 1 else 0:=Ai h
def dN(n:Nat)(M:List (List Rat)):Rat:=gE (pad n M)
def dg(M:List (List Rat)):Nat->Rat
 |0=>1
 |k+1=>dg M k*en M k k
def aCl{M M':List (List Rat)}:∀k:Nat,(∀i j,i<k->en M' i j=en M i j)->dg M' k=dg M k
 |0,_=>rfl
 |k+1,h=>by rw[dg,dg,h k k (Ck k),aCl k λi j hi=>h i j (Gt hi)]
def iE{α:Type}{l:List α}{i r:Nat}{x d:α}(hi:i<l.length):(l.set i x).getD r d=if r=i then x else l.getD r d:=by
 rw[Ac,CW];by_cases h:r=i
 ·subst h;rw[Aq rfl,Aq rfl,Aq hi];rfl
 ·rw[Ai (λe=>h e.symm),Ai h,Ac]
def Sg(n k:Nat)(D:Rat)(M:List (List Rat))(o:Rat):Prop:=∃s:Rat,(s=1\/s=-1)/\o=s*dg M k/\D=s*dN n M
def Lo(n k:Nat)(M:List (List Rat)):Prop:=∀i j,j<k->j<i->i<n->en M i j=0
def Rw(n:Nat)(M:List (List Rat)):Prop:=M.length=n/\∀i,i<n->(M.getD i []).length=n
def bEa(n:Nat)(M:List (List Rat)):Sg n 0 (dN n M) M 1:=⟨1,.inl rfl,by simp[dg],by simp⟩
def bOw{n k:Nat}{D o:Rat}{M:List (List Rat)}(hn:n<=4)(hk:k<n)(h:Sg n k D M o)(hl:Lo n k M)(h0:∀i,k<=i->i<n->en M i k=0):D=0:=by
 obtain⟨s,_,_,rfl⟩:=h;have:dN n M=0:=by
  refine aGg (pad n M) (k:=k) (by omega) (λi j h1 h2 h3=>?_) λi h1 h2=>?_
  ·unfold pad;by_cases h:i<n/\j<n
   ·rw[Aq h];exact hl i j h2 h1 h.1
   ·rw[Ai h,Ai (by omega)]
  ·unfold pad;by_cases h:i<n/\k<n
   ·rw[Aq h];exact h0 i h1 h.1
   ·rw[Ai h,Ai (by omega)]
 rw[this];simp
def pR(M:List (List Rat))(k a:Nat):List (List Rat):=(M.set k (M.getD a [])).set a (M.getD k [])
def bJo{M:List (List Rat)}{k a:Nat}(hk:k<M.length)(ha:a<M.length)(hka:k≠a)(i j:Nat):en (pR M k a) i j=en M (swp k a i) j:=by
 unfold en pR swp;rw[iE (by simpa using ha),iE hk];by_cases h1:i=a
 ·rw[Aq h1,h1,Ai (λe=>hka e.symm),Aq rfl]
 ·rw[Ai h1];by_cases h2:i=k
  ·rw[Aq h2,Aq h2]
  ·rw[Ai h2,Ai h2,Ai h1]
def bOx{n k a:Nat}{D o:Rat}{M:List (List Rat)}(hn:n<=4)(hM:M.length=n)(hk:k<a)(ha:a<n)(h:Sg n k D M o):Sg n k D (pR M k a) (-o):=by
 obtain⟨s,hs,rfl,rfl⟩:=h;have he:=bJo (M:=M) (k:=k) (a:=a) (by omega) (by omega) (by omega);have hd:dN n (pR M k a)=- dN n M:=by
  unfold dN;rw[<-aGh (pad n M) hk (by omega)];congr 1;funext i j;have h1:swp k a i<n↔i<n:=by unfold swp;split<;>(try split)<;>omega
  by_cases h:i<n/\j<n
  ·rw[wP h,wP ⟨h1.2 h.1,h.2⟩,he]
  ·rw[rN h,rN λh'=>h ⟨h1.1 h'.1,h'.2⟩];by_cases h3:i<n
   ·rw[Ai (by omega),Ai (by have:=h1.2 h3;omega)]
   ·have:swp k a i=i:=by unfold swp;rw[Ai (by omega),Ai (by omega)]
    rw[this]
 refine⟨-s,by rcases hs with rfl|rfl<;>simp,?_,?_⟩
 ·rw[aCl (M:=M) (M':=pR M k a) k λi j hi=>by rw[he];unfold swp;rw[Ai (by omega),Ai (by omega)]];grind
 ·rw[hd];grind
def bRz{n k a:Nat}{M:List (List Rat)}(hM:M.length=n)(hk:k<a)(ha:a<n)(h:Lo n k M):Lo n k (pR M k a):=λi j h1 h2 h3=>by
 rw[bJo (by omega) (by omega) (by omega)];unfold swp;split
 ·exact h a j h1 (by omega) ha
 ·split
  ·exact h k j h1 (by omega) (by omega)
  ·exact h i j h1 h2 h3
def bPd{n k a:Nat}{M:List (List Rat)}(hM:Rw n M)(hk:k<n)(ha:a<n):Rw n (pR M k a):=by
 refine⟨by simp[pR,hM.1],λi hi=>?_⟩;unfold pR;rw[iE (by rw[CB,hM.1];exact ha),iE (by rw[hM.1];exact hk)];split
 ·exact hM.2 k hk
 ·split
  ·exact hM.2 a ha
  ·exact hM.2 i hi
def elR(M:List (List Rat))(k i:Nat)(c:Rat):List (List Rat):=M.set i (jC (M.getD i []) (M.getD k []) c)
def bJp{n:Nat}{M:List (List Rat)}{k a:Nat}(c:Rat)(hM:Rw n M)(ha:a<n)(i j:Nat)(hj:j<n):en (elR M k a c) i j=if i=a then en M a j-c*en M k j else en M i j:=by
 unfold en elR;rw[iE (by rw[hM.1];exact ha)];by_cases h:i=a
 ·rw[Aq h,Aq h];unfold jC;rw[Ac,Ag,Bq (by rw[hM.2 a ha];exact hj)];rfl
 ·rw[Ai h,Ai h]
def bVr{n:Nat}{M:List (List Rat)}{k a:Nat}(c:Rat)(hM:Rw n M)(ha:a<n):Rw n (elR M k a c):=by
 refine⟨by simp[elR,hM.1],λi hi=>?_⟩;unfold elR;rw[iE (by rw[hM.1];exact ha)];split
 ·simp only[jC,Bl,List.length_range];exact hM.2 a ha
 ·exact hM.2 i hi
def cBz{n k K a:Nat}{D o:Rat}{M:List (List Rat)}(c:Rat)(hn:n<=4)(hM:Rw n M)(hk:k<a)(ha:a<n)(hK:K<=a)(hKn:K<=n)(h:Sg n K D M o):Sg n K D (elR M k a c) o:=by
 obtain⟨s,hs,rfl,rfl⟩:=h;have he:=bJp (k:=k) c hM ha;refine⟨s,hs,?_,?_⟩
 ·rw[aCl (M:=M) (M':=elR M k a c) K λi j hi=>by
   unfold en elR;rw[iE (by rw[hM.1];exact ha),Ai (by omega)]]
 ·congr 1;unfold dN;rw[<-aNw (pad n M) c hk (by omega)];congr 1;funext i j;symm;by_cases h:i<n/\j<n
  ·rw[wP h,he i j h.2,wP ⟨ha,h.2⟩,wP ⟨by omega,h.2⟩,wP h]
  ·rw[rN h];by_cases h2:i=a
   ·subst h2;rw[Aq rfl,rN (by omega),rN (by omega),Ai (by omega),Ai (by omega)];grind
   ·rw[Ai h2,rN h]
def cCv{n k a:Nat}{M:List (List Rat)}(c:Rat)(hM:Rw n M)(hk:k<a)(ha:a<n)(h:Lo n k M):Lo n k (elR M k a c):=λi j h1 h2 h3=>by
 rw[bJp c hM ha i j (by omega)];split
 ·rw[h a j h1 (by omega) ha,h k j h1 (by omega) (by omega)];grind
 ·exact h i j h1 h2 h3
def bXy{n k:Nat}{D o:Rat}{M:List (List Rat)}(h:Sg n k D M o):Sg n (k+1) D M (o*en M k k):=by obtain⟨s,hs,rfl,rfl⟩:=h;exact⟨s,hs,by rw[dg,Rat.mul_assoc],rfl⟩
def bSa{n k:Nat}{M:List (List Rat)}(h:Lo n k M)(h0:∀r,k<r->r<n->en M r k=0):Lo n (k+1) M:=λi j h1 h2 h3=>by
 by_cases hj:j=k
 ·rw[hj];exact h0 i (by omega) h3
 ·exact h i j (by omega) h2 h3
def cAo{M:List (List Rat)}{k i r:Nat}{c:Rat}(hi:i<M.length):(elR M k i c).getD r []=if r=i then jC (M.getD i []) (M.getD k []) c else M.getD r []:=by unfold elR;rw[iE hi]
def bXp{M:List (List Rat)}{k a r:Nat}(hk:k<M.length)(ha:a<M.length):(pR M k a).getD r []=if r=a then M.getD k []else if r=k then M.getD a []else M.getD r []:=by unfold pR;rw[iE (by simpa using ha),iE hk]
def bXz{n:Nat}{D o:Rat}{M:List (List Rat)}(hn:n<=4)(h:Sg n n D M o)(hl:Lo n n M):o=D:=by
 obtain⟨s,_,rfl,rfl⟩:=h;congr 1;have ht:=aNv (pad n M) λi j h1 h2=>by
  unfold pad;by_cases h:i<n/\j<n
  ·rw[Aq h];exact hl i j h.2 h1 h.1
  ·rw[Ai h,Ai (by omega)]
 unfold dN;rw[ht];have:n=0\/n=1\/n=2\/n=3\/n=4:=by omega
 rcases this with rfl|rfl|rfl|rfl|rfl<;>simp[pad,dg]
end Go.Am
end
section
open List renaming map_map->O,mapM_map->ξ
open Go Go.Am Go.Proofs
namespace Go.Am
def Bkk:Nat->Nat
 |0=>10
 |k+1=>2*(Bkk k*(Bkk k*Bkk k*Bkk k))
def Ok:Nat->Nat
 |0=>1
 |k+1=>Ok k*Bkk k
def aOl{k:Nat}(h:k<=3):Bkk k<=b1k:=by
 have:k=0\/k=1\/k=2\/k=3:=by omega
 rcases this with rfl|rfl|rfl|rfl<;>(unfold b1k;simp only[Bkk];decide)
def bLf{k:Nat}(h:k<=2):Bkk k*Bkk k<=b1k/\Bkk k*Bkk k*Bkk k<=b1k:=by
 have:k=0\/k=1\/k=2:=by omega
 rcases this with rfl|rfl|rfl<;>(unfold b1k;simp only[Bkk];decide)
def bVx{k:Nat}(h:k<=4):Ok k<=b1k:=by
 have:k=0\/k=1\/k=2\/k=3\/k=4:=by omega
 rcases this with rfl|rfl|rfl|rfl|rfl<;>(unfold b1k;simp only[Ok,Bkk];decide)
def aEj(B:Nat)(r:List Rat):Prop:=∀q∈r,QB B q
def aYl{B:Nat}{a b:List Rat}{c:Rat}(ha:aEj B a)(hb:aEj B b)(hab:a.length<=b.length)(hc:QB (B*B) c):aEj (2*(B*(B*B*B))) (jC a b c):=λq hq=>by obtain⟨i,hi,rfl⟩:=AM.1 hq;have hi:=Cr.1 hi;rw[Ac,Ac,Ab hi,Ab (by omega)];exact(ha _ (Bz hi)).sub (hc.mul (hb _ (Bz (by omega))))
def wR(l:List Rat):one (.d (gU l))=true:=rfl
def oO(l:List Rat):cY (.d (gU l))=some [.d (gU l)]:=rfl
def tK(l:List Rat):aL (gU l)=.d (gU l):=rfl
def wV(l:List Rat):inj (gU l)=.d (gU l):=rfl
def qI(H:Hp)(avs:List AV)(l:List Rat):aZ H avs (gU l)=bV H avs:=rfl
def aFf(l:List Int):one (.d (dW l))=true:=rfl
def vQ(l:List Int):cY (.d (dW l))=some [.d (dW l)]:=rfl
def aBs(l:List Int):aL (dW l)=.d (dW l):=rfl
def aFx(l:List Int):inj (dW l)=.d (dW l):=rfl
def cZ(M:List (List Rat)):List D:=M.map gU
def cR(M:List (List Rat)):(cZ M).length=M.length:=by simp[cZ]
def aXw(M N:List (List Rat)):cZ (M++N)=cZ M++cZ N:=by simp[cZ]
def wM(M:List (List Rat))(i:Nat)(r:List Rat):(cZ M).set i (gU r)=cZ (M.set i r):=by unfold cZ;rw[Fv]
def aXv(r:List Rat):cZ [r]=[gU r]:=rfl
def dtS(M:List (List Rat))(o:Rat)(k:Nat):St:=StL [(2,.ptr 1 0),(4,.own 2 0 M.length 1),(5,.ptr 3 0),(7,.d (.i .i64 k))] none [.cells 31 [.d (.b false),.nil],.cells 171 ((cZ M).map .d),.cells 169 [.d (.b (decide (o.num<0))),.d (aB (aJ o.num.natAbs)),.d (.b false),.d (aB (aJ o.den))]]
def aSj(M:List (List Rat))(o:Rat)(k a:Nat):St:=StL [(2,.ptr 1 0),(4,.own 2 0 M.length 1),(5,.ptr 3 0),(7,.d (.i .i64 k)),(8,.d (.i .i64 a))] none [.cells 31 [.d (.b false),.nil],.cells 171 ((cZ M).map .d),.cells 169 [.d (.b (decide (o.num<0))),.d (aB (aJ o.num.natAbs)),.d (.b false),.d (aB (aJ o.den))]]
def aSi(M:List (List Rat))(o:Rat)(k i:Nat):St:=StL [(2,.ptr 1 0),(4,.own 2 0 M.length 1),(5,.ptr 3 0),(7,.d (.i .i64 k)),(9,.d (.i .i64 i))] none [.cells 31 [.d (.b false),.nil],.cells 171 ((cZ M).map .d),.cells 169 [.d (.b (decide (o.num<0))),.d (aB (aJ o.num.natAbs)),.d (.b false),.d (aB (aJ o.den))]]
def dtI(n:Nat)(D:Rat)(k:Nat)(M:List (List Rat))(o:Rat):Prop:=k<=n/\Rw n M/\Sg n k D M o/\Lo n k M/\QB (Ok k) o/\∀r,k<=r->r<n->aEj (Bkk k) (M.getD r [])
def dtE(n:Nat)(D:Rat)(k:Nat)(x:List Rat)(o:Rat)(i:Nat)(E:List (List Rat)):Prop:=k+1<=i/\i<=n/\Rw n E/\Sg n (k+1) D E o/\Lo n k E/\(∀r,k<r->r<i->en E r k=0)/\E.getD k []=x/\(∀r,k<r->r<i->aEj (Bkk (k+1)) (E.getD r []))/\(∀r,i<=r->r<n->aEj (Bkk k) (E.getD r []))
def jF(n:Nat)(A:List (List Int)):D:=.ag [.i .i64 (n:Int),.i .i64 (n:Int),.sl (A.map λv=>[dW v])]
def sK(A:List (List Int)):List (List Rat):=A.map pZ
def aSk(n:Nat)(L:List (List D))(T:List (List Rat))(i:Nat):St:=StL [(1,.ptr 1 0),(2,.ptr 2 0),(4,.own 3 0 T.length 1),(5,.ptr 4 0),(6,.d (.i .i64 i))] none [.cells 61 [.d (.i .i64 n),.d (.i .i64 n),.d (.sl L)],.cells 31 [.d (.b false),.nil],.cells 171 ((cZ T).map .d),.cells 169 [.d (.b (decide ((1:Rat).num<0))),.d (aB (aJ (1:Rat).num.natAbs)),.d (.b false),.d (aB (aJ (1:Rat).den))]]
def bYi[M:Mch Aa](n:Nat)(A:List (List Int))(d:Int)(hn:n<=4)(hA:A.length=n)(hAr:∀v∈A,v.length=n)(hB:∀v∈A,∀z∈v,z.natAbs<=10)(hd:dN n (sK A)=(d:Rat)) :
  Spec Aa 77 [jF n A] (.tp [encZ d,.i .i64 0]):=by
 obtain⟨L,hL,hLl,hLg⟩:∃L,(A.map λv=>[dW v])=L/\L.length=A.length/\∀(i:Nat) (v:List Int),A[i]? = some v->L[i]? = some [dW v]:=⟨_,rfl,by simp,λi v h=>by rw[Ag,h];rfl⟩
 have hOne:=bYl (M:=M)
 unfold jF
 rw[hL]
 refine aX (N:=127) Tryz.func77 ?_
 simp[-O,-ξ,↓KW]
 refine aC hOne ?_
 simp[-O,-ξ,↓KW,cK 1,aH]
 refine aY (τ:=Nat) (λi=>i<=n) (λi=>aSk n L (sK (A.take i)) i) (λi=>n-i) 0 (A1 _) ?_ ?_
 ·rw[BD]
  show ∃ρ,Wk _ (aSk _ _ [] _) ρ
  unfold aSk
  refine wkQ [1,2,3,4] ?_ ?_<;>simp[-O,upd,aL,Γ0,cZ]
 ·intro i hi
  have hTl:(sK (A.take i)).length=i:=by simp[sK];omega
  by_cases hlt:i<n
  ·obtain⟨v,hge⟩:∃x,A[i]? = some x:=⟨_,Ab (by omega)⟩
   have hLi:=hLg i _ hge
   have hLi':=bP hLi
   have hiL:i<L.length:=by omega
   have hvl:=hAr v (Aj hge)
   have hRt:=aIa v (by omega)
   have hT1:sK (A.take (i+1))=sK (A.take i)++[pZ v]:=by rw[A5,hge];simp[sK]
   have hw0:Ah.wrap (i:Int)=i:=aP
   have hw1:Ah.wrap ((i:Int)+1)=((i+1:Nat):Int):=aP
   generalize pZ v=q at *
   generalize sK (A.take i)=T at *
   have hbb:(i+1)*24<=140737488355328/\i+1<=1099511627776:=by omega
   simp[-O,-ξ,↓KW,aSk,hlt,hiL,hLi,hLi',hw0,aFf,vQ,aBs,aFx]
   refine aC hRt ?_
   simp[-O,-ξ,↓KW,cR,hTl,hbb,bJ,hw1,wR,oO,tK,wV,qI]
   refine aI (i+1) (by omega) (by show n-(i+1)<n-i;omega) ?_
   show ∃ρ,Wk _ (aSk _ _ _ _) ρ
   rw[hT1]
   unfold aSk
   refine wkQ [1,2,6,4] ?_ ?_<;>simp[-O,upd,aL,Γ0,Bo,bM,aXw,aXv,Bc,hTl]
  ·have hin:n=i:=by omega
   subst hin
   rw[As (show A.length<=n by omega)]at hTl ⊢
   clear hlt hi
   have hI0:dtI n (d:Rat) 0 (sK A) 1:=by
    refine⟨A1 _,⟨hTl,λi hi=>?_⟩,hd ▸ bEa n _,λi j h=>by omega,?_,λr _ hr=>?_⟩
    ·have hA':(sK A).getD i []=pZ (A.getD i []):=by unfold sK;rw[Ac,Ag,Ac,Ab (by omega)];rfl
     rw[hA',Ac,Ab (by omega)];simp only[pZ,Bl,AT];exact hAr _ (Bz _)
    ·exact⟨by decide,by decide⟩
    ·have hA':(sK A).getD r []=pZ (A.getD r []):=by unfold sK;rw[Ac,Ag,Ac,Ab (by omega)];rfl
     rw[hA',Ac,Ab (by omega)];intro q hq;obtain⟨z,hz,rfl⟩:=AM.1 hq;exact QB.int (hB _ (Bz _) z hz) (by decide)
   generalize sK A=M0 at *
   clear hd hB hAr hLg
   simp[-O,-ξ,↓KW,aSk]
   refine aS ?_
   simp[-O,-ξ,↓KW]
   refine aY (τ:=Nat×List (List Rat)×Rat) (λt=>dtI n d t.1 t.2.1 t.2.2) (λt=>dtS t.2.1 t.2.2 t.1) (λt=>n-t.1) (0,M0,1) hI0 ?_ ?_
   ·show ∃ρ,Wk _ (dtS _ _ _) ρ
    unfold dtS
    refine wkQ [2,3,4] ?_ ?_<;>simp[-O,upd,aL,Γ0]
   ·rintro⟨k,R,o⟩ hI
    simp only at hI
    obtain⟨hkn,hRw,hSg,hLo,hO,hQ⟩:=hI
    have hRl:=hRw.1
    by_cases hk:k<n
    ·simp[-O,-ξ,↓KW,dtS,hk,cR,hRl]
     refine aY (τ:=Nat) (λa=>k<=a/\a<=n/\∀r,k<=r->r<a->en R r k=0) (λa=>aSj R o k a) (λa=>n-a) k ⟨Ay _,hkn,λr h1 h2=>by omega⟩ ?_ ?_
     ·show ∃ρ,Wk _ (aSj _ _ _ _) ρ
      unfold aSj
      refine wkQ [1,2,3] ?_ ?_<;>simp[-O,upd,aL,Γ0,hRl]
     ·rintro a ⟨hka,han,hz⟩
      by_cases ha:a<n
      ·obtain⟨x,hx⟩:∃x,R.getD a []=x:=⟨_,rfl⟩
       obtain⟨Lx,hLx,hLxl,hLxg⟩:=vH x
       have hxl:x.length=n:=by rw[<-hx];exact hRw.2 a ha
       obtain⟨q,hq⟩:∃q,x[k]? = some q:=⟨_,Ab (by omega)⟩
       have hLk:=hLxg k q hq
       have hLk':=bP hLk
       have hra:(cZ R)[a]? = some (.sl Lx):=by rw[<-hLx,<-hx];unfold cZ;rw[Ag,Ac,Ab (by omega)];rfl
       have hra':∀h,(cZ R)[a]'h=.sl Lx:=λh=>by rw[Ab h]at hra;injection hra
       have hqe:en R a k=q:=by unfold en;rw[hx,Ac,hq];rfl
       have hSn:=bQf q
       have hw0:Ah.wrap (a:Int)=a:=aP
       have hwk:Ah.wrap (k:Int)=k:=aP
       have hw1:Ah.wrap ((a:Int)+1)=((a+1:Nat):Int):=aP
       have hkL:k<Lx.length:=by omega
       simp[-O,-ξ,↓KW,aSj,ha,cR,hRl,hra,hra',hw0,hwk,hkL,hLk,hLk',aH]
       refine aC hSn ?_
       by_cases hq0:q=0
       ·subst hq0
        simp[-O,-ξ,↓KW,hw1]
        refine aI (a+1) ⟨by omega,by omega,λr h1 h2=>?_⟩ (by show n-(a+1)<n-a;omega) ?_
        ·by_cases hr:r=a
         ·rw[hr];exact hqe
         ·exact hz r h1 (by omega)
        ·show ∃ρ,Wk _ (aSj _ _ _ _) ρ
         unfold aSj
         refine wkQ [1,2,3] ?_ ?_<;>simp[-O,upd,aL,Γ0,hRl]
       ·have hs0:(q.num.sign==0)=false:=by have:=aQi (b:=q.num) (λh=>hq0 (Rat.num_eq_zero.1 h));rw[bne,Bool.not_eq_true']at this;exact this
        generalize q.num.sign=sg at *
        have hna:((a:Int)==(n:Int))=false:=by simp;omega
        have hna':¬a=n:=by omega
        simp[-O,-ξ,↓KW,hs0]
        refine aS ?_
        by_cases hak:a=k
        case' pos =>
         have hak:=hak.symm
         subst hak
         have hRw2:=hRw
         have hSg2:=hSg
         have hLo2:=hLo
         have hO2:=hO
         have hQ2:=hQ
         have hxk:=hx
         have piv:=hqe
         generalize hR2:R=R2 at *
         generalize o=o2 at *
         simp[-O,-ξ,↓KW,cR,hRl,hna,hna']
        case' neg =>
         have hak':((a:Int) != (k:Int))=true:=by simp;omega
         have hrk:(cZ R)[k]? = some (gU (R.getD k [])):=by unfold cZ;rw[Ag,Ac,Ab (by omega)];rfl
         have hrk':∀h,(cZ R)[k]'h=gU (R.getD k []):=λh=>by rw[Ab h]at hrk;injection hrk
         have hl1:lay (Cj AV.d (cZ R)) k [AV.d (D.sl Lx)]=Cj AV.d (cZ (R.set k x)):=by rw[eQ _ _ _ (by rw[cR];omega),<-hLx,wM]
         have hl2:lay (Cj AV.d (cZ (R.set k x))) a [AV.d (gU (R.getD k []))]=Cj AV.d (cZ (pR R k a)):=by rw[eQ _ _ _ (by rw[cR,CB];omega),wM];unfold pR;rw[hx]
         have hk1:k+1<=n:=hk
         have ha1:a+1<=n:=ha
         have hRw2:=bPd hRw hk ha
         have hSg2:=bOx hn hRl (show k<a by omega) ha hSg
         have hLo2:=bRz hRl (show k<a by omega) ha hLo
         have hO2:=hO.neg
         have hsg:=λr=>bXp (M:=R) (k:=k) (a:=a) (r:=r) (by omega) (by omega)
         have hQ2:∀r,k<=r->r<n->aEj (Bkk k) ((pR R k a).getD r []):=λr h1 h2=>by
          rw[hsg];split
          ·exact hQ k (Ay _) hk
          ·split
           ·exact hQ a hka ha
           ·exact hQ r h1 h2
         have hxk:(pR R k a).getD k []=x:=by rw[hsg,Ai (by omega),Aq rfl];exact hx
         have piv:en (pR R k a) k k=q:=by rw[bJo (by omega) (by omega) (by omega)];unfold swp;rw[Aq rfl];exact hqe
         have hNg:=bFp o (hO.mono (bVx (by omega)))
         clear hsg
         generalize R.getD k []=y at *
         generalize pR R k a=R2 at *
         generalize -o=o2 at *
         simp[-O,-ξ,↓KW,cR,hRl,hk1,ha1,hl1,hl2,CB,hna,hna',hak,hak',ha,hk,hra,hra',hrk,hrk',wR,oO,tK,wV,qI,aH]
         refine aC hNg ?_
         simp[-O,-ξ,↓KW,cK o2,aH]
        all_goals
         have hrk2:(cZ R2)[k]? = some (.sl Lx):=by rw[<-hLx,<-hxk];unfold cZ;rw[Ag,Ac,Ab (by have:=hRw2.1;omega)];rfl
         have hrk2':∀h,(cZ R2)[k]'h=.sl Lx:=λh=>by rw[Ab h]at hrk2;injection hrk2
         have hqB:QB (Bkk k) q:=by have:=hQ2 k (Ay _) hk;rw[hxk]at this;exact this q (Aj hq)
         have hMl:=bFq o2 q (hO2.mono (bVx (by omega))) (hqB.mono (aOl (by omega)))
         have hR2l:=hRw2.1
         simp[-O,-ξ,↓KW,hk,cR,hR2l,hrk2,hrk2',hwk,hkL,hLk,hLk',aH]
         refine aC hMl ?_
         have hO3:QB (Ok (k+1)) (o2*q):=hO2.mul hqB
         have hSg3:Sg n (k+1) d R2 (o2*q):=by have:=bXy hSg2;rwa [piv]at this
         generalize o2*q=o3 at *
         have hwk1:Ah.wrap ((k:Int)+1)=((k+1:Nat):Int):=aP
         simp[-O,-ξ,↓KW,cK o3,hwk1,aH]
         refine aY (τ:=Nat×List (List Rat)) (λt=>dtE n d k x o3 t.1 t.2) (λt=>aSi t.2 o3 k t.1) (λt=>n-t.1) (k+1,R2) ⟨Ay _,hk,hRw2,hSg3,hLo2,λr h1 h2=>by omega,hxk,λr h1 h2=>by omega,λr h1 h2=>hQ2 r (by omega) h2⟩ ?_ ?_
         ·show ∃ρ,Wk _ (aSi _ _ _ _) ρ
          unfold aSi
          refine wkQ [1,2,3] ?_ ?_<;>simp[-O,upd,aL,Γ0,hR2l]
         ·rintro⟨i,E⟩ hE
          simp only at hE
          obtain⟨hki,hin,hRwE,hSgE,hLoE,hzE,hxE,hQ1,hQE⟩:=hE
          have hEl:=hRwE.1
          by_cases hi:i<n
          ·obtain⟨y,hy⟩:∃y,E.getD i []=y:=⟨_,rfl⟩
           obtain⟨Ly,hLy,hLyl,hLyg⟩:=vH y
           have hyl:y.length=n:=by rw[<-hy];exact hRwE.2 i hi
           obtain⟨u,hu⟩:∃u,y[k]? = some u:=⟨_,Ab (by omega)⟩
           have hLu:=hLyg k u hu
           have hLu':=bP hLu
           have hre:(cZ E)[i]? = some (.sl Ly):=by rw[<-hLy,<-hy];unfold cZ;rw[Ag,Ac,Ab (by omega)];rfl
           have hre':∀h,(cZ E)[i]'h=.sl Ly:=λh=>by rw[Ab h]at hre;injection hre
           have hrx:(cZ E)[k]? = some (.sl Lx):=by rw[<-hLx,<-hxE];unfold cZ;rw[Ag,Ac,Ab (by omega)];rfl
           have hrx':∀h,(cZ E)[k]'h=.sl Lx:=λh=>by rw[Ab h]at hrx;injection hrx
           have hxl:x.length=n:=by rw[<-hxE];exact hRwE.2 k hk
           have hyB:aEj (Bkk k) y:=hy ▸ hQE i (Ay _) hi
           have hxB:aEj (Bkk k) x:=by have:=hQ2 k (Ay _) hk;rwa [hxk]at this
           have huB:QB (Bkk k) u:=hyB u (Aj hu)
           have hk2:k<=2:=by omega
           have hOv:=bQg u q hq0 (huB.mono (aOl (by omega))) (hqB.mono (aOl (by omega)))
           have hcB:QB (Bkk k*Bkk k) (u/q):=huB.div hqB hq0
           have hLs:=bQd y x (u/q) (by omega) (by omega) (hcB.mono (bLf hk2).1) (λt ht=>(hyB t ht).mono (aOl (by omega))) (λt ht=>(hxB t ht).mono (aOl (by omega))) (λt ht=>(hcB.mul (hxB t ht)).mono (bLf hk2).2)
           rw[hLy,hLx]at hLs
           have hnB:aEj (Bkk (k+1)) (jC y x (u/q)):=aYl hyB hxB (by omega) hcB
           have huE:en E i k=u:=by unfold en;rw[hy,Ac,hu];rfl
           have hqE:en E k k=q:=by unfold en;rw[hxE,Ac,hq];rfl
           have hnew:dtE n d k x o3 (i+1) (elR E k i (u/q)):=by
            have hgt:=λr=>cAo (M:=E) (k:=k) (i:=i) (r:=r) (c:=u/q) (by omega)
            refine⟨by omega,hi,bVr _ hRwE hi,cBz _ hn hRwE (by omega) hi (by omega) (by omega) hSgE,cCv _ hRwE (by omega) hi hLoE,λr h1 h2=>?_,?_,λr h1 h2=>?_,λr h1 h2=>?_⟩
            ·rw[bJp _ hRwE hi r k hk];by_cases hr:r=i
             ·rw[Aq hr,huE,hqE];grind
             ·rw[Ai hr];exact hzE r h1 (by omega)
            ·rw[hgt,Ai (by omega)];exact hxE
            ·rw[hgt];by_cases hr:r=i
             ·rw[Aq hr,hy,hxE];exact hnB
             ·rw[Ai hr];exact hQ1 r h1 (by omega)
            ·rw[hgt,Ai (by omega)];exact hQE r (by omega) h2
           have hlE:lay (Cj AV.d (cZ E)) i [AV.d (gU (jC y x (u/q)))]=Cj AV.d (cZ (elR E k i (u/q))):=by rw[eQ _ _ _ (by rw[cR];omega),wM];unfold elR;rw[hy,hxE]
           have hE1:(elR E k i (u/q)).length=n:=(bVr (k:=k) (u/q) hRwE hi).1
           generalize elR E k i (u/q)=E1 at *
           generalize jC y x (u/q)=w at *
           generalize u/q=c at *
           have hwi:Ah.wrap (i:Int)=i:=aP
           have hwi1:Ah.wrap ((i:Int)+1)=((i+1:Nat):Int):=aP
           have hkLy:k<Ly.length:=by omega
           have hi1:i+1<=n:=hi
           simp[-O,-ξ,↓KW,aSi,hi,hi1,hk,cR,hEl,hre,hre',hrx,hrx',hwi,hwk,hkL,hkLy,hLu,hLu',hLk,hLk',aH]
           refine aC hOv ?_
           simp[-O,-ξ,↓KW,cK c,hi,hi1,hk,cR,hEl,hre,hre',hrx,hrx',hwi,hwk,aH]
           refine aC hLs ?_
           simp[-O,-ξ,↓KW,hlE,hi,hi1,cR,hEl,hwi,hwi1,wR,oO,tK,wV,qI]
           refine aI (i+1,E1) hnew (by show n-(i+1)<n-i;omega) ?_
           show ∃ρ,Wk _ (aSi _ _ _ _) ρ
           unfold aSi
           refine wkQ [1,2,3] ?_ ?_<;>simp[-O,upd,aL,Γ0,hE1,hEl]
          ·have hie:i=n:=by omega
           have hi':¬(i:Int)<(n:Int):=by omega
           have hdI:dtI n d (k+1) E o3:=⟨hk,hRwE,hSgE,bSa hLoE λr h1 h2=>hzE r h1 (by omega),hO3,λr h1 h2=>hQ1 r (by omega) (by omega)⟩
           simp[-O,-ξ,↓KW,aSi,hi,hi',cR,hEl]
           refine aS ?_
           simp[-O,-ξ,↓KW,hwk1]
           refine aI (k+1,E,o3) hdI (by show n-(k+1)<n-k;omega) ?_
           show ∃ρ,Wk _ (dtS _ _ _) ρ
           unfold dtS
           refine wkQ [1,2,3] ?_ ?_<;>simp[-O,upd,aL,Γ0,hEl]
      ·have hae:a=n:=by omega
       have ha':¬(a:Int)<(n:Int):=by omega
       have hd0:d=0:=by
        have:=bOw hn hk hSg hLo λr h1 h2=>hz r h1 (by omega)
        exact Rat.intCast_eq_zero_iff.1 this
       have hna:((a:Int)==(n:Int))=true:=by simp;omega
       subst hd0
       simp[-O,-ξ,↓KW,aSj,ha,ha',cR,hRl]
       refine aS ?_
       simp[-O,-ξ,↓KW,cR,hRl,hna,hae]
       exact aS (by simp[-O,-ξ,↓KW,dV,bB 0,bZ,aB])
    ·have hke:k=n:=by omega
     have hk':¬(k:Int)<(n:Int):=by omega
     subst hke
     have hod:=bXz hn hSg hLo
     subst hod
     simp[-O,-ξ,↓KW,dtS,hk',cR,hRl]
     refine aS ?_
     simp[-O,-ξ,↓KW,bB d,Rat.num_intCast,aH,dV]
     exact decide_eq_decide.2 Iff.rfl
structure Sh(R c:Nat)(M:List (List Int)):Prop where
 len:M.length=R
 row:∀v∈M,v.length=c
def ent(M:List (List Int))(r s:Nat):Int:=(M.getD r []).getD s 0
def mkM(R c:Nat)(f:Nat->Nat->Int):List (List Int):=(AN R).map λr=>(AN c).map λs=>f r s
def Sh.get{R c r:Nat}{M:List (List Int)}(h:Sh R c M)(hr:r<R):∃v,M[r]? = some v/\v.length=c/\∀s,v.getD s 0=ent M r s:=by
 have hl:r<M.length:=by rw[h.len];exact hr
 refine⟨M[r],Ab hl,h.row _ (Bz hl),λs=>?_⟩;unfold ent;rw[Ac (l:=M),Ab hl];rfl
def bVy(R c:Nat)(f:Nat->Nat->Int):Sh R c (mkM R c f):=⟨by simp[mkM],λv hv=>by obtain⟨r,_,rfl⟩:=AM.1 hv;simp⟩
def bZk{R c r s:Nat}(f:Nat->Nat->Int)(hr:r<R)(hs:s<c):ent (mkM R c f) r s=f r s:=by unfold ent mkM;rw[Ac (l:=Cj _ _),Ag,Bq hr];simp only[AU,AT];rw[Ac,Ag,Bq hs];rfl
def bRt{R c:Nat}{M M':List (List Int)}(h:Sh R c M)(h':Sh R c M')(he:∀r s,r<R->s<c->ent M r s=ent M' r s):M=M':=by
 refine FE (by rw[h.len,h'.len]) λr h1 h2=>?_
 have hr:r<R:=by rw[<-h.len];exact h1
 refine FE (by rw[h.row _ (Bz h1),h'.row _ (Bz h2)]) λs g1 g2=>?_
 have hs:s<c:=by rw[<-h.row _ (Bz h1)];exact g1
 have:=he r s hr hs;unfold ent at this;rw[Ac (l:=M),Ab h1,Ac (l:=M'),Ab h2]at this;simp only[AT]at this;rw[Ac,Ab g1,Ac,Ab g2]at this;exact this
def bXx{R c i:Nat}{M:List (List Int)}(h:Sh R c M){v:List Int}(hv:v.length=c):Sh R c (M.set i v) :=
 ⟨by rw[CB,h.len],λw hw=>(Fa hw).elim (h.row w) λe=>e ▸ hv⟩
def bTp{R c i j:Nat}{M:List (List Int)}(h:Sh R c M){v:List Int}{z:Int}(hi:i<R)(hj:j<c)(hv:M[i]? = some v)(r s:Nat):ent (M.set i (v.set j z)) r s=if r=i/\s=j then z else ent M r s:=by
 have hl:i<M.length:=by rw[h.len];exact hi
 have hvl:v.length=c:=h.row v (Aj hv);unfold ent;rw[Ac (l:=M.set i _),CW];by_cases e:r=i
 ·subst e;rw[Aq rfl,Aq hl,Ac (l:=M),hv];simp only[AT,true_and];rw[Ac,CW];by_cases e2:s=j
  ·subst e2;rw[Aq rfl,Aq (by omega),Aq rfl];rfl
  ·rw[Ai (λh=>e2 h.symm),Ai e2,Ac]
 ·rw[Ai (λh=>e h.symm),Ai (λh=>e h.1),Ac (l:=M)]
def aSg{R c i j:Nat}{M:List (List Int)}(h:Sh R c M){v:List Int}{z:Int}(hv:M[i]? = some v):Sh R c (M.set i (v.set j z)) :=
 bXx h (by rw[CB];exact h.row v (Aj hv))
def cCs{R c:Nat}{M:List (List Int)}(h:Sh R c M){f:Nat->Nat->Int}(he:∀r s,r<R->s<c->ent M r s=f r s):M=mkM R c f :=
 bRt h (bVy R c f) λr s hr hs=>by rw[he r s hr hs,bZk f hr hs]
def jE(b:Nat)(l:List HO):Hp:=λid=>if id<b then none else l[id-b]?
def qO{b i:Nat}{l:List HO}:jE b l (i+b)=l[i]? := by unfold jE;rw[Ai (by omega),DY]
def aCf{b:Nat}{l:List HO}{id:Nat}(h:l.length+b<=id):jE b l id=none:=by unfold jE;rw[Ai (by omega),AW (by omega)]
def aGe{b:Nat}{l:List HO}{id:Nat}(h1:b<=id)(h2:id<l.length+b):(jE b l id).isSome=true:=by unfold jE;rw[Ai (by omega),Ab (by omega)];rfl
def rfC(a n:Nat):AV->Bool
 |.d _|.nil=>true
 |.own id _ _ _=>decide (a<=id/\id<n)
 |.ptr id _=>decide (a<=id/\id<n)
 |_=>false
def rfO(a n:Nat):HO->Bool
 |.cells _ cs=>cs.all (rfC a n)
 |_=>false
def bPr{H H':Hp}{ρ:Nat->Nat}{a n:Nat}{c:AV}(hc:rfC a n c=true)(h:∀id,a<=id->id<n->id=ρ id/\(H' id).isSome=true):mY H H' ρ c c:=by
 unfold rfC at hc;split at hc
 ·exact(lF _ _).2 rfl
 ·trivial
 ·simp only[BC]at hc;obtain⟨h1,h2⟩:=h _ hc.1 hc.2;exact⟨h1,rfl,rfl,rfl,h2⟩
 ·simp only[BC]at hc;obtain⟨h1,h2⟩:=h _ hc.1 hc.2;exact⟨h1,rfl,h2⟩
 ·cases hc
def bPp{H H':Hp}{ρ:Nat->Nat}{a n:Nat}{o:HO}(ho:rfO a n o=true)(h:∀id,a<=id->id<n->id=ρ id/\(H' id).isSome=true):nO H H' ρ o o:=by
 cases o with
 | cells e cs =>
  refine dS.2 ⟨rfl,dO.2 ⟨rfl,λk c d h1 h2=>?_⟩⟩;rw[h1]at h2;injection h2 with h2;subst h2
  exact bPr (A3.1 ho c (Aj h1)) h
 |map k es=>cases ho
 |iter _ _ _=>cases ho
def bPq(a n:Nat)(v:List Int):rfO a n (aLh v)=true:=by
 unfold rfO aLh;refine A3.2 λc hc=>?_
 obtain⟨x,_,rfl⟩:=AM.1 hc;rfl
def bYh{a n c m:Nat}{M:List (List Int)}(h1:a<=m+1)(h2:m+1+M.length<=n):∀o∈mB c M m,rfO a n o=true:=by
 intro o ho;rcases Bn.1 ho with rfl|ho
 ·refine A3.2 λx hx=>?_
  obtain⟨j,hj,rfl⟩:=AM.1 hx;have:=Cr.1 hj;simp only[rfC,BC];omega
 ·obtain⟨v,_,rfl⟩:=AM.1 ho;exact bPq _ _ _
def aCe{H:Hp}{b:Nat}{l:List HO}(h:∀o∈l,rfO b (l.length+b) o=true){id:Nat}{o:HO}(ho:jE b l id=some o):nO H (jE b l) (λi=>i) o o:=by
 refine bPp (h o ?_) λid h1 h2=>⟨rfl,aGe h1 h2⟩
 unfold jE at ho;split at ho
 ·cases ho
 ·exact Aj ho
def aVq{b c m:Nat}{pre post:List HO}{M:List (List Int)}(hm:m=pre.length+b):jE b (pre++mB c M m++post) m=some (.cells 110 (hdr c M.length (m+1))):=by subst hm;rw[qO,CQ,AJ (Ay _),CU];rfl
def aJe{b c m j:Nat}{pre post:List HO}{M:List (List Int)}{v:List Int}(hm:m=pre.length+b)(hv:M[j]? = some v):jE b (pre++mB c M m++post) (j+(m+1))=some (aLh v):=by have hj:=(Ao.1 hv).1;rw[show j+(m+1)=(j+1+pre.length)+b by omega,qO,CQ,AJ (by omega),DY,AQ (by rw[oC];omega)];simp only[mB,BB,Ag,hv,AU]
def bTk{b c m i:Nat}{pre post:List HO}{M:List (List Int)}{v:List Int}(hm:m=pre.length+b)(hi:i<M.length)(id:Nat) :
  jE b (pre++mB c (M.set i v) m++post) id=if id=i+(m+1)then some (aLh v)else jE b (pre++mB c M m++post) id:=by
 by_cases e:id=i+(m+1)
 ·rw[Aq e,e]
  exact aJe hm (List.getElem?_set_self hi)
 ·rw[Ai e]
  unfold jE
  by_cases h0:id<b
  ·rw[Aq h0,Aq h0]
  ·rw[Ai h0,Ai h0]
   have hl:(mB c (M.set i v) m).length=(mB c M m).length:=by rw[oC,oC,CB]
   rw[CQ,CQ]
   rcases A4 (id-b) pre.length with h1|h1
   ·rw[AQ h1,AQ h1]
   ·rw[AJ h1,AJ h1]
    rcases A4 (id-b-pre.length) (mB c M m).length with h2|h2
    ·rw[AQ (by omega),AQ h2]
     generalize hk:id-b-pre.length=k at *
     rcases k with _|k
     ·simp[mB]
     ·simp only[mB,BB,Ag]
      rw[Ef (by omega)]
    ·rw[AJ (by omega),AJ h2,hl]
def aJf{c m:Nat}{pre post:List HO}{M:List (List Int)}:(pre++mB c M m++post).length=pre.length+M.length+1+post.length:=by rw[Bc,Bc,oC];omega
def bSe{v:List Int}{j:Nat}(z:Int)(hj:j<v.length):lay ((vcs v).map AV.d) (j*2) [.d (.b (decide (z<0))),.d (aB (aJ z.natAbs))]=(vcs (v.set j z)).map .d:=by rw[<-aTw _ hj];simp[lay,vI]
def bOb{b c m i:Nat}{pre post:List HO}{M:List (List Int)}{v:List Int}(hm:m=pre.length+b)(hi:i<M.length) :
  upd (jE b (pre++mB c M m++post)) (i+(m+1)) (some (aLh v))=jE b (pre++mB c (M.set i v) m++post):=by
 funext id
 rw[bTk hm hi]
 rfl
def aVr{b n:Nat}{pre l:List HO}(h:n=pre.length+b):gX (jE b pre) n l=jE b (pre++l):=by
 funext id;subst h;unfold gX jE;by_cases h0:id<b
 ·rw[Ai (by omega),Aq h0,Aq h0]
 ·rw[Ai h0];by_cases h1:pre.length+b<=id/\id<pre.length+b+l.length
  ·rw[Aq h1,Ai h0,AJ (by omega),show id-b-pre.length=id-(pre.length+b)by omega]
  ·rw[Ai h1,Ai h0];rcases A4 (id-b) pre.length with h2|h2
   ·rw[AQ h2]
   ·rw[AW h2,AJ h2,AW (by omega)]
def aNr{b n:Nat}{l:List HO}{p:HO}(h:n=l.length+b):upd (jE b l) n (some p)=jE b (l++[p]):=by
 rw[<-aVr h];funext id;unfold upd gX;simp only[BN];by_cases e:id=n
 ·subst e;rw[Aq rfl,Aq (by omega),CU];rfl
 ·rw[Ai e,Ai (by omega)]
def bTm(b:Nat):(λ_=>none:Hp)=jE b []:=by funext id;unfold jE;split<;>rfl
def aWw{H:Hp}{n:Nat}{a a':Option HO}:upd (upd H n a) n a'=upd H n a':=by funext id;unfold upd;split<;>rfl
def bTl(a:HO):upd (λ_=>none) 1 (some a)=jE 1 [a]:=by rw[bTm 1];exact aNr rfl
def aNs{b c m n:Nat}{pre:List HO}{M:List (List Int)}{p:HO}(hn:n=pre.length+b+(M.length+1)):jE b (pre++mB c M m++[p]) n=some p:=by
 subst hn;rw[show pre.length+b+(M.length+1)=(pre.length+M.length+1)+b by omega,qO,AJ (by rw[Bc,oC];omega),Bc,oC,
  show pre.length+M.length+1-(pre.length+(M.length+1))=0 by omega];rfl
def aVv(l:List Int):D:=.sl (l.map λn=>[D.i .i8 n])
def vf(l:List Int)(t:Nat):Int:=(l.getD t 0).tmod 10
def bVo(l:List Int)(t:Nat):(vf l t).natAbs<=10:=by have h1:=Int.tmod_lt_of_pos (l.getD t 0) (b:=10) (by decide);have h2:=Int.tmod_lt_of_pos (-(l.getD t 0)) (b:=10) (by decide);rw[Int.neg_tmod]at h2;show((l.getD t 0).tmod 10).natAbs<=10;omega
def sqM(l:List Int)(n:Nat):List (List Int):=mkM n n λr s=>vf l (r*n+s)
def sqF(l:List Int)(n i j r s:Nat):Int:=if r<i\/(r=i/\s<j)then vf l (r*n+s)else 0
def bBv{n:Int}(h1:-128<=n)(h2:n<=127):IntKind.i8.wrap n=n:=by unfold E2;simp[CK,Et];omega
def aNu(l:List Int):∃L,aVv l=.sl L/\L.length=l.length/\∀(i:Nat) (z:Int),l[i]? = some z->L[i]? = some [D.i .i8 z]:=⟨_,rfl,by simp,λi x hx=>by rw[Ag,hx];rfl⟩
def fqH(n:Nat)(M:List (List Int)):Hp:=jE 1 ([.cells 61 [.d (.i .i64 0),.d (.i .i64 0),.nil]]++mB n M 2++[.cells 61 [.d (.i .i64 (n:Int)),.d (.i .i64 (n:Int)),.own 2 0 n 1]])
def qM{n:Nat}{M:List (List Int)}(hM:Sh n n M){H:Hp}{id:Nat}{o:HO}(ho:fqH n M id=some o):nO H (fqH n M) (λi=>i) o o:=by
 refine aCe (λo ho=>?_) ho;rw[aJf,hM.len,BN,BN];rcases BP.1 ho with ho|ho
 ·rcases BP.1 ho with ho|ho
  ·rw[BQ.1 ho];rfl
  ·exact bYh (by omega) (by rw[hM.len];omega) o ho
 ·rw[BQ.1 ho];simp only[rfO,rfC,FM,List.all_nil,Bool.and_true,Bool.true_and,BC];omega
def vC{n:Nat}{M:List (List Int)}(hM:Sh n n M){id:Nat}(h:n+4<=id):fqH n M id=none :=
 aCf (by rw[aJf,hM.len,BN,BN];omega)
def lO{n:Nat}{M:List (List Int)}(hM:Sh n n M){id:Nat}(h1:1<=id)(h2:id<n+4):(fqH n M id).isSome=true :=
 aGe h1 (by rw[aJf,hM.len,BN,BN];omega)
def aYg[M:Mch Aa](l:List Int)(n:Nat)(hn:n<=16)(hb:∀x∈l,-128<=x/\x<=127)(hll:l.length<=9223372036854775807) :
  Spec Aa 66 [.i .i64 (n:Int),.i .i64 (n:Int),aVv l] (jF n (sqM l n)):=by
 obtain⟨L,hL,hLl,hLg⟩:=aNu l
 rw[hL]
 refine aX (N:=60) Tryz.func66 ?_
 have hN:=aIb (M:=M) n n (by omega) (by omega)
 have m1:¬(n:Int)<0:=by omega
 have m2:¬(16:Int)<n:=by omega
 have m3:¬16<n:=by omega
 simp[-O,-ξ,↓KW,m1,m2,m3]
 refine lI [.i .i64 (n:Int),.i .i64 (n:Int)] (nwV n n) (mB n (Av n (Av n 0))) (by simp) (by simp) (by simp) (by rfl) (by rfl) hN ?_
 have hne1:¬1=2+(n+1):=by omega
 have hz0:Sh n n (Av n (Av n (0:Int))):=⟨by simp,λv hv=>by rw[El hv];simp⟩
 have hH0:∀p q:HO,upd (gX (upd (λ_=>none) 1 (some q)) 2 (mB n (Av n (Av n 0)) 2)) (2+(n+1)) (some p)=jE 1 ([q]++mB n (Av n (Av n 0)) 2++[p]):=λp q=>by rw[bTl,aVr (n:=2) (pre:=[_]) rfl,aNr (by rw[Bc,oC,List.length_replicate,BN];omega)]
 simp[-O,-ξ,↓KW,nwV,oC,gX,hne1]
 refine cB (λx:Nat×List (List Int)=>x.1<=n/\Sh n n x.2/\∀r s,r<n->s<n->ent x.2 r s=sqF l n x.1 0 r s) (λx=>⟨gK [(2,.d (.sl L)),(6,.ptr 1 0),(7,.ptr (n+3) 0),(8,.d (.i .i64 (x.1:Int)))],fqH n x.2,n+4⟩) (λx=>n-x.1)
  (0,Av n (Av n 0)) ⟨A1 _,hz0,λr s hr hs=>?_⟩ ?_ ?_
 ·unfold ent sqF
  rw[Ai (by omega),Ac (l:=Av n _),DH,Aq hr]
  simp only[AT]
  rw[Ac,DH,Aq hs];rfl
 ·rw[aWw,hH0]
  refine⟨_,lX ?_ (λid o' ho=>⟨o',ho,qM hz0 ho⟩) (λid hid=>vC hz0 hid) (by simp)⟩
  have g1:=lO hz0 (id:=1) (by omega) (by omega)
  have g4:=lO hz0 (id:=n+3) (by omega) (by omega)
  have g5:2+(n+1)=n+3:=by omega
  simp[-O,upd,aL,Γ0,g1,g4,g5]
 ·rintro⟨i,M⟩ ⟨hi,hM,hME⟩
  simp only at hi hM hME
  have hH1:fqH n M 1=some (.cells 61 [.d (.i .i64 0),.d (.i .i64 0),.nil]):=rfl
  have hHo:fqH n M (n+3)=some (.cells 61 [.d (.i .i64 (n:Int)),.d (.i .i64 (n:Int)),.own 2 0 n 1]):=aNs (by rw[hM.len,BN];omega)
  by_cases hgi:i<n
  ·have q1:(i:Int)<n:=by omega
   have hw:Ah.wrap ((i:Int)+1)=(i:Int)+1:=aP
   have hsome:=λid=>lO hM (id:=id)
   have htop:=λid=>vC hM (id:=id)
   have hself:=λ(H:Hp) id o=>qM hM (H:=H) (id:=id) (o:=o)
   generalize hHg:fqH n M=H at *
   simp[-O,-ξ,↓KW,q1,hH1,hHo]
   refine cB (λx:Nat×List (List Int)=>x.1<=n/\Sh n n x.2/\∀r s,r<n->s<n->ent x.2 r s=sqF l n i x.1 r s) (λx=>⟨gK [(2,.d (.sl L)),(6,.ptr 1 0),(7,.ptr (n+3) 0),(8,.d (.i .i64 (i:Int))),(9,.d (.i .i64 (x.1:Int)))],fqH n x.2,n+4⟩) (λx=>n-x.1)
    (0,M) ⟨A1 _,hM,hME⟩ ?_ ?_
   ·rw[hHg]
    refine⟨_,lX ?_ (λid o' ho=>⟨o',ho,hself _ _ _ ho⟩) (λid hid=>htop id hid) (by simp)⟩
    have g1:=hsome 1 (by omega) (by omega)
    have g4:=hsome (n+3) (by omega) (by omega)
    simp[-O,upd,aL,Γ0,g1,g4]
   ·clear hHg hH1 hHo hsome htop hself hM hME
    rintro⟨j,M⟩ ⟨hj,hM,hME⟩
    simp only at hj hM hME
    have hH1:fqH n M 1=some (.cells 61 [.d (.i .i64 0),.d (.i .i64 0),.nil]):=rfl
    have hHo:fqH n M (n+3)=some (.cells 61 [.d (.i .i64 (n:Int)),.d (.i .i64 (n:Int)),.own 2 0 n 1]):=aNs (by rw[hM.len,BN];omega)
    have hHh:fqH n M 2=some (.cells 110 (hdr n n 3)):=by have:=aVq (b:=1) (c:=n) (m:=2) (pre:=[.cells 61 [.d (.i .i64 0),.d (.i .i64 0),.nil]]) (M:=M) (post:=[.cells 61 [.d (.i .i64 (n:Int)),.d (.i .i64 (n:Int)),.own 2 0 n 1]]) rfl;rwa [hM.len]at this
    obtain⟨v,hv,hvl,hve⟩:=hM.get hgi
    have hHi:fqH n M (i+3)=some (.cells 31 ((vcs v).map .d)):=aJe (m:=2) rfl hv
    have hin:i*n<=16*16:=A9 (by omega) hn
    have hmm:((i:Int)*(n:Int))=((i*n:Nat):Int):=by rw[Cd]
    obtain⟨q,hq⟩:∃q,q=i*n+j:=⟨_,rfl⟩
    obtain⟨t,ht⟩:∃t,t=i*n:=⟨_,rfl⟩
    rw[<-ht]at hmm hin hq
    have hwm:Ah.wrap ((i:Int)*(n:Int))=(t:Int):=by rw[hmm];exact aP
    have hwq:Ah.wrap ((t:Int)+(j:Int))=(q:Int):=by rw[hq,DM];exact aP
    by_cases hgj:j<n
    ·have q2:(j:Int)<n:=by omega
     have hw2:Ah.wrap ((j:Int)+1)=(j:Int)+1:=aP
     by_cases hql:q<l.length
     ·have q3:q<L.length:=by omega
      have q3':(q:Int)<L.length:=by omega
      have hwq0:Ah.wrap (q:Int)=q:=aP
      obtain⟨z,hz⟩:∃z,l[q]? = some z:=⟨_,Ab hql⟩
      have hLi:=hLg q z hz
      have hLi':=bP hLi
      have hz8:=hb _ (Aj hz)
      have hvq:vf l (i*n+j)=z.tmod 10:=by unfold vf;rw[<-ht,<-hq,Ac,hz];rfl
      obtain⟨u,hu⟩:∃u,z.tmod 10=u:=⟨_,rfl⟩
      have hub:=bVo l (i*n+j)
      rw[hu]at hvq
      rw[hvq]at hub
      have hw8:IntKind.i8.wrap u=u:=bBv (by omega) (by omega)
      have hwu:Ah.wrap u=u:=aP
      have hof:=aLs u (by omega) (by omega)
      have hM':Sh n n (M.set i (v.set j u)):=aSg hM hv
      have hupd:upd (fqH n M) (i+3) (some (.cells 31 ((vcs (v.set j u)).map .d)))=fqH n (M.set i (v.set j u)):=bOb (m:=2) rfl (by rw[hM.len];exact hgi)
      have hlay:=bSe (v:=v) u (j:=j) (by rw[hvl];exact hgj)
      have hvcl:=aHf v
      rw[hvl]at hvcl
      have hj2:j*2+2<=n*2:=by omega
      have hg:=zN (c:=n) (b:=3) hgi
      have hgl:=kS n n 3
      have hg2:∀h:i<(hdr n n 3).length,(hdr n n 3)[i]'h=.own (i+3) 0 n 2:=λh=>Bm ((Ab h).symm.trans hg)
      generalize hHg:fqH n M=H at *
      generalize hdr n n 3=cellsR at *
      simp[-O,-ξ,↓KW,q1,q2,q3,q3',hwm,hwq,hwq0,hLi,hLi',hu,hw8,hwu,hH1,hHo,hHh,hHi,hg,hg2,hgl,hgi,hgj]
      refine aC hof ?_
      rw[bB]
      simp[-O,-ξ,↓KW,hw2,hH1,hHo,hHh,hHi,hg,hg2,hgl,hgi,hgj,hj2,hvcl,hlay,aH]
      rw[hupd]
      refine aI (j+1,M.set i (v.set j u)) ⟨hgj,hM',λr s hr hs=>?_⟩ (Fc hgj (Ck _)) ?_
      ·rw[bTp hM hgi hgj hv,hME r s hr hs]
       simp only[sqF]
       split
       ·rename_i e;rw[Aq (by omega),e.1,e.2,hvq]
       ·split
        ·rw[Aq (by omega)]
        ·rw[Ai (by omega)]
      ·refine⟨_,lX ?_ (λid o' ho=>⟨o',ho,qM hM' ho⟩) (λid hid=>vC hM' hid) (by simp)⟩
       have g1:=lO hM' (id:=1) (by omega) (by omega)
       have g4:=lO hM' (id:=n+3) (by omega) (by omega)
       simp[-O,upd,aL,Γ0,g1,g4]
     ·have q3:¬q<L.length:=by omega
      have q3':¬(q:Int)<L.length:=by omega
      have hsome:=λid=>lO hM (id:=id)
      have htop:=λid=>vC hM (id:=id)
      have hself:=λ(H:Hp) id o=>qM hM (H:=H) (id:=id) (o:=o)
      generalize hHg:fqH n M=H at *
      simp[-O,-ξ,↓KW,q1,q2,q3,q3',hwm,hwq,hH1,hHo,hw]
      refine aI (i+1,M) ⟨hgi,hM,λr s hr hs=>?_⟩ (Fc hgi (Ck _)) ?_
      ·rw[hME r s hr hs]
       simp only[sqF]
       by_cases e:r<i\/(r=i/\s<j)
       ·rw[Aq e,Aq (by omega)]
       ·rw[Ai e]
        by_cases e2:r<i+1\/(r=i+1/\s<0)
        ·have er:r=i:=by omega
         rw[Aq e2,er,<-ht]
         unfold vf
         rw[Ac,AW (by omega)];rfl
        ·rw[Ai e2]
      ·rw[hHg]
       refine⟨_,lX ?_ (λid o' ho=>⟨o',ho,hself _ _ _ ho⟩) (λid hid=>htop id hid) (by simp)⟩
       have g1:=hsome 1 (by omega) (by omega)
       have g4:=hsome (n+3) (by omega) (by omega)
       simp[-O,upd,aL,Γ0,g1,g4]
    ·have q2:¬(j:Int)<n:=by omega
     have ej:j=n:=by omega
     have hsome:=λid=>lO hM (id:=id)
     have htop:=λid=>vC hM (id:=id)
     have hself:=λ(H:Hp) id o=>qM hM (H:=H) (id:=id) (o:=o)
     generalize hHg:fqH n M=H at *
     simp[-O,-ξ,↓KW,q2,hH1,hHo,hw]
     refine aI (i+1,M) ⟨hgi,hM,λr s hr hs=>?_⟩ (Fc hgi (Ck _)) ?_
     ·rw[hME r s hr hs]
      simp only[sqF]
      by_cases e:r<i\/(r=i/\s<j)
      ·rw[Aq e,Aq (by omega)]
      ·rw[Ai e,Ai (by omega)]
     ·rw[hHg]
      refine⟨_,lX ?_ (λid o' ho=>⟨o',ho,hself _ _ _ ho⟩) (λid hid=>htop id hid) (by simp)⟩
      have g1:=hsome 1 (by omega) (by omega)
      have g4:=hsome (n+3) (by omega) (by omega)
      simp[-O,upd,aL,Γ0,g1,g4]
  ·have q1:¬(i:Int)<n:=by omega
   have hMk:M=sqM l n:=cCs hM λr s hr hs=>by rw[hME r s hr hs];simp only[sqF];rw[Aq (by omega)]
   have hMl:=hM.len
   have hHh:fqH n M 2=some (.cells 110 (hdr n n 3)):=by have:=aVq (b:=1) (c:=n) (m:=2) (pre:=[.cells 61 [.d (.i .i64 0),.d (.i .i64 0),.nil]]) (M:=M) (post:=[.cells 61 [.d (.i .i64 (n:Int)),.d (.i .i64 (n:Int)),.own 2 0 n 1]]) rfl;rwa [hM.len]at this
   have hfr:∀(H:Hp),(∀id,id<n->H (id+3)=fqH n M (id+3))->(hdr n n 3).mapM (frz H 6)=some (M.map dW):=λH hH=>by
    rw[mapM_some (frz H 6) (λk=>dW (M.getD k [])) _ λk x hx=>by
     have hlt:k<n:=by have:=(Ao.1 hx).1;rwa [kS]at this
     rw[zN hlt]at hx;injection hx with hx;subst hx
     obtain⟨v,hv,hvl,hve⟩:=hM.get hlt;have hHi:fqH n M (k+3)=some (.cells 31 ((vcs v).map .d)):=aJe (m:=2) rfl hv;rw[Ac,hv,AT];exact bIu 4 (by rw[hH k hlt,hHi]) hvl]
    congr 1;apply CH;intro k;rw[kS];by_cases hk:k<n
    ·rw[Ag,Bq hk,Ag,AU,Ac,Ab (by omega)];rfl
    ·rw[AW (by simpa using hk),AW (by simpa[hMl]using hk)]
   have hgl:=kS n n 3
   have htk:D9 n (hdr n n 3)=hdr n n 3:=As (by rw[hgl];exact Ay _)
   rw[<-hMk]
   generalize fqH n M=H at *
   generalize hdr n n 3=cellsR at *
   have hml:(M.map dW).length=n:=by rw[Bl,hMl]
   simp[-O,-ξ,↓KW,q1,hH1,hHo,hHh,jF,hgl,htk]
   have hch:chunk 1 n (M.map dW)=M.map λv=>[dW v]:=by rw[kZ _ _ hml.symm,Dd];rfl
   rw[hfr _ (λid hid=>by simp[upd])]
   simp[-O,hch]
def blL(z:Int)(l:List (Nat×Nat×Nat)):List Int:=(l.filter λx=>z%(x.2.1:Int) != (x.2.2:Int)).map λx=>(x.1:Int)
def aOk(z:Int)(l:List (Nat×Nat×Nat))(w p v:Nat):blL z (l++[(w,p,v)])=blL z l++if z%(p:Int)=(v:Int)then[]else[(w:Int)]:=by unfold blL;rw[List.filter_append,List.map_append];congr 1;by_cases h:z%(p:Int)=(v:Int)<;>simp[h]
def aJv(z:Int)(l:List (Nat×Nat×Nat)):(blL z l).length<=l.length:=by unfold blL;rw[Bl];exact List.length_filter_le ..
def bJu(x:Int)(a b:List Int):dzI (x::(a++b))=dzI (x::a)++dzI b:=by simp[dzI]
def zQ(x:Int):dzI [x]=[.i .i64 x]:=rfl
def oL{l:List Int}{n:Nat}(h:l.length=n):D9 n ((dzI l).map AV.d)=(dzI l).map AV.d:=As (by simp[dzI,h])
def xG{l:List Int}{n:Nat}(h:l.length=n):chunk 1 n (dzI l)=l.map λx=>[D.i .i64 x]:=by rw[kZ _ _ (by rw[eR];exact h.symm)];simp[dzI]
def bS(z:Int)(L:List (List D))(n i:Nat):List Int->St
 |[]=>StL [(2,.ptr 1 0),(5,.nil),(8,.d (.sl L)),(9,.d (.i .i64 n)),(10,.d (.i .i64 i))] none [.cells 31 [.d (.b (decide (z<0))),.d (aB (aJ z.natAbs))]]
 |x::T=>StL [(2,.ptr 1 0),(5,.own 2 0 (T.length+1) 1),(8,.d (.sl L)),(9,.d (.i .i64 n)),(10,.d (.i .i64 i))] none [.cells 31 [.d (.b (decide (z<0))),.d (aB (aJ z.natAbs))],.cells 3 ((dzI (x::T)).map .d)]
def bAz[M:Mch Aa](z:Int)(l:List (Nat×Nat×Nat))(hl:l.length<=12)(hz:Sz z)(hp:∀x∈l,0<x.2.1/\x.2.1<=2147483648)(hP:∀x∈l,Spec Aa 52 [.i .u64 (x.2.1:Nat)] (.b true)) :
  Spec Aa 16 [encZ z,eZ l] (ezI (dC (blL z l))):=by
 obtain⟨L,hL,hLl,hLg⟩:=kA l
 rw[hL]
 refine aX (N:=39) Tryz.func16 ?_
 simp[-O,-ξ,↓KW,bB z,aH]
 refine aY (τ:=Nat) (λi=>i<=l.length) (λi=>bS z L L.length i (blL z (l.take i))) (λi=>l.length-i) 0 (A1 _) ?_ ?_
 ·rw[BD]
  show ∃ρ,Wk _ (bS _ _ _ _ []) ρ
  unfold bS
  refine wkQ [1] ?_ ?_<;>simp[-O,upd,aL,Γ0]
 ·intro i hi
  by_cases hlt:i<l.length
  ·obtain⟨⟨w,p,v⟩,hge⟩:∃x,l[i]? = some x:=⟨_,Ab hlt⟩
   have hmem:=Aj hge
   have hLi:=hLg i _ hge
   simp only at hLi
   have hLi':=bP hLi
   have hiL:i<L.length:=by omega
   have hT1:blL z (l.take (i+1))=blL z (l.take i)++if z%(p:Int)=(v:Int)then[]else[(w:Int)]:=by rw[A5,hge,DC,aOk]
   have hBl:(blL z (l.take i)).length<=i:=AR (aJv _ _) (by rw[AZ];omega)
   have hw1:Ah.wrap ((i:Int)+1)=((i+1:Nat):Int):=aP
   have hPp:Spec Aa 52 [.i .u64 (p:Nat)] (.b true):=hP _ hmem
   have hRd:=aHw p z (hp _ hmem).1 (hp _ hmem).2 hz
   generalize blL z (l.take i)=T at *
   generalize z%(p:Int)=r at *
   by_cases hr:r=(v:Int)
   ·rw[Aq hr,Ea]at hT1
    cases T with
    | nil =>
     simp[-O,-ξ,↓KW,bS,hiL,hLi,hLi',hw1,aH]
     refine aC hPp ?_
     simp[-O,-ξ,↓KW,aH]
     refine aC hRd ?_
     simp[-O,-ξ,↓KW,hr,hw1]
     refine aI (i+1) (by omega) (by show l.length-(i+1)<l.length-i;omega) ?_
     show ∃ρ,Wk _ (bS _ _ _ _ _) ρ
     rw[hT1]
     unfold bS
     refine wkQ [1] ?_ ?_<;>simp[-O,upd,aL,Γ0]
    | cons x T =>
     simp[-O,-ξ,↓KW,bS,hiL,hLi,hLi',hw1,aH]
     refine aC hPp ?_
     simp[-O,-ξ,↓KW,aH]
     refine aC hRd ?_
     simp[-O,-ξ,↓KW,hr,hw1]
     refine aI (i+1) (by omega) (by show l.length-(i+1)<l.length-i;omega) ?_
     show ∃ρ,Wk _ (bS _ _ _ _ _) ρ
     rw[hT1]
     unfold bS
     refine wkQ [1,2] ?_ ?_<;>simp[-O,upd,aL,Γ0]
   ·rw[Ai hr]at hT1
    have hr':(r != (v:Int))=true:=by simp[hr]
    cases T with
    | nil =>
     have hm1:(1:Nat)<=maxLen:=bJ (by decide)
     simp[-O,-ξ,↓KW,bS,hiL,hLi,hLi',hw1,aH]
     refine aC hPp ?_
     simp[-O,-ξ,↓KW,aH]
     refine aC hRd ?_
     simp[-O,-ξ,↓KW,hr,hr',hw1,hm1]
     refine aI (i+1) (by omega) (by show l.length-(i+1)<l.length-i;omega) ?_
     show ∃ρ,Wk _ (bS _ _ _ _ _) ρ
     rw[hT1]
     show ∃ρ,Wk _ (bS _ _ _ _ ((w:Int)::[])) ρ
     unfold bS
     refine wkQ [1,4] ?_ ?_<;>simp[-O,upd,aL,Γ0,Bo,bM,zQ]
    | cons x T =>
     have hbb:=eL (n:=T.length+1) (by simp only[Ak]at hBl;omega)
     simp[-O,-ξ,↓KW,bS,hiL,hLi,hLi',hw1,aH]
     refine aC hPp ?_
     simp[-O,-ξ,↓KW,aH]
     refine aC hRd ?_
     simp[-O,-ξ,↓KW,hr,hr',hw1,eR,hbb,bJ]
     refine aI (i+1) (by omega) (by show l.length-(i+1)<l.length-i;omega) ?_
     show ∃ρ,Wk _ (bS _ _ _ _ _) ρ
     rw[hT1]
     show ∃ρ,Wk _ (bS _ _ _ _ (x::(T++[(w:Int)]))) ρ
     unfold bS
     refine wkQ [1,5] ?_ ?_<;>simp[-O,upd,aL,Γ0,Bo,bM,bJu,zQ]
  ·have hiL:¬i<L.length:=by omega
   rw[As (show l.length<=i by omega)]
   have hTl:=aJv z l
   generalize blL z l=T at *
   cases T with
   | nil =>
    simp[-O,-ξ,↓KW,bS,hiL]
    refine aS ?_
    simp[-O,-ξ,↓KW]
    have h0:ezI (dC [])=.sl []:=rfl
    refine aYy (h:=.nil) (ds:=[]) (r:=.tp []) (l:=[]) (by simp) (by rfl) (by rfl) (by rfl) (by rfl) (by rfl) (aKn (d:=.sl []) (by rfl) bXv) ?_
    simp[-O,-ξ,↓KW,h0]
   | cons x T =>
    have hsl:(x::T).length<=12:=by omega
    have hSo:=cBy (x::T) hsl
    have hlen:(dzI (dC (x::T))).length=(dzI (x::T)).length:=by rw[eR,eR];exact eF _ _
    have hSl:(dC (x::T)).length=T.length+1:=eF _ _
    have e1:=oL hSl
    have e2:=xG hSl
    have e3:=eR (dC (x::T))
    rw[hSl]at e3
    have hno1:=nX 3 (x::T)
    have hno2:=nX 3 (dC (x::T))
    have e4:ezI (dC (x::T))=.sl ((dC (x::T)).map λx=>[D.i .i64 x]):=rfl
    rw[show(x::T).length=T.length+1 from rfl]at hSo
    generalize dC (x::T)=S at *
    simp[-O,-ξ,↓KW,bS,hiL]
    refine aS ?_
    simp[-O,-ξ,↓KW]
    refine nE (by simp) ?_
    refine iT (id:=2) (h:=.own 0 0 (T.length+1) 1) (by rfl) hno1 (by rfl) (by rfl) hSo (by simp[HO.len,hlen]) hno2 ?_
    simp[-O,-ξ,↓KW,e4,e1,e2,e3]
def tE(p:Nat):∀l:List Nat,bG (l++[p])=bG l*p
 |[]=>by simp[bG]
 |x::l=>by simp only[Co,bG,tE p l,Nat.mul_assoc]
def bTr[M:Mch Aa](l:List Nat)(b:Nat)(hl:l.length<=1000)(hb:b<2^200)(h1:∀p∈l,0<p/\p<4294967296)(hB:bG l<2^255) :
  Spec Aa 44 [bU l,bK b] (.b (decide (2*b<bG l))):=by
 obtain⟨L,hL,hLl,hLg⟩:=qP l
 have hO:=oF (n:=1) (by omega)
 have hA:=bBe (x:=b) (y:=b) (by omega) (by omega)
 rw[<-Nat.two_mul]at hA
 rw[hL]
 obtain⟨c,hc⟩:∃c,2*b=c:=⟨_,rfl⟩
 have hc2:c<2^201:=by omega
 rw[hc]at hA ⊢
 refine aX (N:=26) Tryz.func44 ?_
 simp[-O,-ξ,↓KW,aN b,aH]
 refine aC hO ?_
 simp[-O,-ξ,↓KW,aN 1,aH]
 have hq:∀i,bG (l.take i)<2^255:=λi=>Bf (mQ (λq hq=>(h1 q hq).1) i) hB
 refine aY (τ:=Nat) (λi=>i<=l.length) (λi=>StL [(3,.ptr 1 0),(5,.ptr 2 0),(9,.d (.sl L)),(10,.d (.i .i64 L.length)),(11,.d (.i .i64 i))] none [.cells 31 [.d (.b false),.d (aB (aJ b))],.cells 31 [.d (.b false),.d (aB (aJ (bG (l.take i))))]]) (λi=>l.length-i) 0 (A1 _) ?_ ?_
 ·rw[BD]
  refine wkQ [1,2] ?_ ?_<;>simp[-O,upd,aL,Γ0,bG]
 ·intro i hi
  have hqi:=hq i
  by_cases hlt:i<l.length
  ·have hLi:=hLg i hlt
   have hge:l[i]? = some l[i]! := by rw[B7 l i hlt];exact Ab hlt
   have hp:=h1 l[i]! (Aj hge)
   have hT:bG (l.take (i+1))=bG (l.take i)*l[i]! := by rw[A5,hge];exact tE _ _
   have hLi':=bP hLi
   have hiL:i<L.length:=by omega
   have hw1:Ah.wrap ((i:Int)+1)=((i+1:Nat):Int):=aP
   have hW:=cBq (n:=l[i]!) (by omega)
   have hM:=aRk (x:=bG (l.take i)) (y:=l[i]!) (by omega) (by omega)
   rw[<-hT]at hM
   obtain⟨q',hq'⟩:∃q',bG (l.take (i+1))=q':=⟨_,rfl⟩
   rw[hq']at hM
   generalize l[i]! = p at *
   generalize bG (l.take i)=q at *
   simp[-O,-ξ,↓KW,hiL,hLi,hLi',aH]
   refine aC hW ?_
   simp[-O,-ξ,↓KW,aN p,aH]
   refine aC hM ?_
   simp[-O,-ξ,↓KW,aN q',hw1,aH]
   refine aI (i+1) (by omega) (by show l.length-(i+1)<l.length-i;omega) ?_
   show ∃ρ,Wk _ (StL _ _ _) ρ
   rw[hq']
   refine wkQ [1,2] ?_ ?_<;>simp[-O,upd,aL,Γ0]
  ·have hiL:¬i<L.length:=by omega
   rw[As (show l.length<=i by omega)]at hqi ⊢
   obtain⟨r,hC,hr⟩:=bKs (x:=bG l) (y:=c) (by omega) (by omega)
   have hd:decide (0<r)=decide (c<bG l):=by
    by_cases h:c<bG l
    ·rw[B4 h,B4 (hr.2 h)]
    ·rw[Bs h,Bs (λh'=>h (hr.1 h'))]
   generalize bG l=q at *
   simp[-O,-ξ,↓KW,hiL]
   refine aS ?_
   simp[-O,-ξ,↓KW,aH]
   refine aC hA ?_
   simp[-O,-ξ,↓KW,aN c,aH]
   refine aC hC ?_
   simp[-O,-ξ,↓KW,hd]
end Go.Am
end
section
open List renaming map_map->O,mapM_map->ξ
namespace Go.Am
def sqS:List Int->Nat
 |[]=>0
 |z::v=>z.natAbs*z.natAbs+sqS v
def aKw(z:Int):∀v:List Int,sqS (v++[z])=sqS v+z.natAbs*z.natAbs
 |[]=>by simp[sqS]
 |y::v=>by rw[Co,sqS,sqS,aKw z v];omega
def aHn{B:Nat}:∀{v:List Int} {n:Nat},v.length<=n->(∀z∈v,z.natAbs<=B)->sqS v<=n*(B*B)
 |[],n,_,_=>A1 _
 |z::v,0,h,_=>by simp at h
 | z::v,n+1,h,hb=>by
  have h1:=aHn (v:=v) (n:=n) (by simpa using h) λy hy=>hb y (AE _ hy)
  have h2:=A9 (hb z (AI ..)) (hb z (AI ..));rw[sqS,Nat.succ_mul];omega
def aMb(n:Nat)(A:List (List Int))(i j:Nat):Int:=if i<n/\j<n then(A.getD i []).getD j 0 else if i=j then 1 else 0
def kG(n:Nat)(A:List (List Int)):Int:=gE (aMb n A)
def bUe{n:Nat}{A:List (List Int)}(hA:A.length=n):dN n (sK A)=((kG n A:Int):Rat):=by
 unfold dN kG;rw[<-jP];congr 1;funext i j;unfold pad aMb;by_cases h:i<n/\j<n
 ·rw[Aq h,Aq h];unfold en sK;rw[Ac (l:=A.map pZ),Ag,Ac (l:=A),Ab (by omega)];simp only[AU,AT,pZ];rw[Ac,Ag,Ac];cases(A[i])[j]?<;>rfl
 ·rw[Ai h,Ai h];split<;>rfl
def rsq(x:Nat->Int):Int:=x 0^2+x 1^2+x 2^2+x 3^2
def aAh(z:Int):((z.natAbs*z.natAbs:Nat):Int)=z^2:=by rw[Int.natAbs_mul_self,Int.pow_succ,Int.pow_one]
def bPn{n:Nat}(hn:n<=4){v:List Int}(hv:v.length=n):rsq (λj=>if j<n then v.getD j 0 else 0)=(sqS v:Int):=by
 have:n=0\/n=1\/n=2\/n=3\/n=4:=by omega
 rcases this with rfl|rfl|rfl|rfl|rfl
 ·match v,hv with
  |[],_=>rfl
 ·match v,hv with
  |[a],_=>simp[rsq,sqS,<-aAh]
 ·match v,hv with
  |[a,b],_=>simp[rsq,sqS,<-aAh]
 ·match v,hv with
  |[a,b,c],_=>simp[rsq,sqS,<-aAh];omega
 ·match v,hv with
  |[a,b,c,d],_=>simp[rsq,sqS,<-aAh];omega
def zE{n:Nat}(hn:n<=4){A:List (List Int)}(hA:A.length=n)(hr:∀v∈A,v.length=n){i:Nat}(hi:i<=3):rsq (aMb n A i)=if i<n then(sqS (A.getD i []):Int)else 1:=by
 by_cases h:i<n
 ·rw[Aq h,Ac,Ab (by omega),AT,<-bPn hn (hr _ (Bz (by omega)))];congr 1;funext j;unfold aMb;by_cases hj:j<n
  ·rw[Aq ⟨h,hj⟩,Aq hj,Ac (l:=A),Ab (by omega),AT]
  ·rw[Ai (λh'=>hj h'.2),Ai (by omega),Ai hj]
 ·rw[Ai h];have:i=0\/i=1\/i=2\/i=3:=by omega
  rcases this with rfl|rfl|rfl|rfl<;>simp[rsq,aMb,h]
def bIo{n:Nat}(hn:n<=4){A:List (List Int)}(hA:A.length=n)(hr:∀v∈A,v.length=n):(kG n A).natAbs*(kG n A).natAbs<=bG (A.map sqS):=by
 have h:=cFc (aMb n A);have h0:=zE hn hA hr (i:=0) (by decide);have h1:=zE hn hA hr (i:=1) (by decide);have h2:=zE hn hA hr (i:=2) (by decide);have h3:=zE hn hA hr (i:=3) (by decide);unfold rsq at h0 h1 h2 h3;rw[h0,h1,h2,h3]at h;have h':(((kG n A).natAbs*(kG n A).natAbs:Nat):Int)<=((bG (A.map sqS):Nat):Int):=by
  rw[aAh];refine Int.le_trans h (Int.le_of_eq ?_);have:n=0\/n=1\/n=2\/n=3\/n=4:=by omega
  rcases this with rfl|rfl|rfl|rfl|rfl
  ·match A,hA with
   |[],_=>simp[bG]
  ·match A,hA with
   |[a],_=>simp[bG]
  ·match A,hA with
   |[a,b],_=>simp[bG]
  ·match A,hA with
   |[a,b,c],_=>simp[bG,FN]
  ·match A,hA with
   |[a,b,c,d],_=>simp[bG,FN]
 exact_mod_cast h'
def bVk(P b:Nat):Prop:=P<=b*b/\∀c,P<=c*c->b<=c
def aNe{a b:Nat}(h:a*a<=b*b):a<=b:=by
 rcases A4 b a with h'|h'
 ·have:=FG h' h';omega
 ·exact h'
def cAc{n:Nat}(hn:n<=4){A:List (List Int)}(hA:A.length=n)(hr:∀v∈A,v.length=n){b:Nat}(hb:bVk (bG (A.map sqS)) b):(kG n A).natAbs<=b :=
 aNe (AR (bIo hn hA hr) hb.1)
def aLw{A:List (List Int)}(hA:A.length<=4)(hr:∀v∈A,v.length<=4)(hB:∀v∈A,∀z∈v,z.natAbs<=10):bG (A.map sqS)<=25600000000:=by
 have hk:∀L:List (List Int),(∀v∈L,sqS v<=400)->bG (L.map sqS)<=400^L.length:=λL=>by
  induction L with
  |nil=>intro _;exact Ay _
  | cons v L ih =>
   intro h;have h1:=ih λw hw=>h w (AE _ hw)
   have h2:=A9 (h v (AI ..)) h1;rw[BO,bG,Ak,BR,B5 (400^L.length)];exact h2
 refine AR (hk A λv hv=>?_) (AR (Ci (by decide) hA) (by decide));exact AR (aHn (n:=4) (B:=10) (hr v hv) λz hz=>hB v hv z hz) (by decide)
def bSj{P b:Nat}(h:bVk P b)(hP:P<=25600000000):b<=160000:=h.2 160000 (by omega)
def bSi{P r:Nat}(h1:r*r<=P)(h2:P<(r+1)*(r+1)):bVk P (if r*r<P then r+1 else r):=by
 split
 ·rename_i h;exact⟨by omega,λc hc=>by
   rcases A4 r c with h'|h'
   ·exact h'
   ·have:=A9 h' h';omega⟩
 ·exact⟨by omega,λc hc=>aNe (by omega)⟩
end Go.Am
end
section
open List renaming map_map->O,mapM_map->ξ
open Go Go.Am Go.Proofs
namespace Go.Am
def cAt[M:Mch Aa](m:List Nat)(h:m.length<=1000000):Spec Aa 96 [aB m] (aB m):=by
 refine aX (N:=8) Tryz.func96 ?_;cases m with
 | nil =>
  simp[-O,-ξ,↓KW,aB]
 | cons x m =>
  have hb:(m.length+1)*4<=140737488355328/\m.length+1<=maxLen:=by simp only[Ak]at h;exact⟨by omega,bJ (by omega)⟩
  have e1:chunk 1 (m.length+1) (lms (x::m))=(x::m).map λ(x:Nat)=>[D.i .u32 (x:Int)]:=dP rfl
  have e2:(lms m).length=m.length:=by simp[lms]
  have e3:D9 m.length ((lms m).map AV.d)=(lms m).map AV.d:=As (by simp[lms]);have e4:chunk 1 (m.length+1) (D.i .u32 (x:Int)::lms m)=(x::m).map λ(x:Nat)=>[D.i .u32 (x:Int)]:=e1
  have e5:∀d,D9 (m.length+1) (AV.d d::(lms m).map AV.d)=AV.d d::(lms m).map AV.d:=λd=>by rw[DO,e3]
  simp[-O,-ξ,↓KW,aB,hb,e2,e3,e4,e5]
def bSp[M:Mch Aa](x:Int)(hx:x.natAbs<2^256):Spec Aa 49 [encZ x] (bK x.natAbs):=by
 have hlen:(aJ x.natAbs).length<=8:=cU (n:=x.natAbs) (k:=8) (A6 hx (by decide));have hC:=cAt (aJ x.natAbs) (by omega);have hV:=nI (bT x.natAbs) (by omega) false;rw[cD]at hV;have hV':Spec Aa 95 [.b false,aB (aJ x.natAbs)] (bK x.natAbs):=by rw[<-cX];exact hV
 refine aX (N:=7) Tryz.func49 ?_;simp[-O,-ξ,↓KW,bB x,aH];refine aC hC ?_;simp[-O,-ξ,↓KW,aH];refine aC hV' ?_;simp[-O,-ξ,↓KW,aN x.natAbs,aH]
def bGd[M:Mch Aa](s:Nat)(hs:s<1024):Spec Aa 45 [.i .u32 s] (.i .i64 (iU 10 s:Nat)):=by
 have h:((AN 1024).all λn=>match(kJ Aa EP 100 20).call 45 [.i .u32 (n:Nat)]with|some (.i .i64 r)=>r==(iU 10 n:Nat)|_=>false)=true:=by kernel_rfl
 have:=A3.1 h s (Cr.2 hs);split at this
 ·rename_i r hr;rw[beq_iff_eq]at this;subst this;exact fK hr
 ·cases this
def vdE(e:Int):D:=.tp [.ag [.b false,.sl [],.sl []],.i .i64 e]
def cEn[M:Mch Aa](b:Nat)(hb:b<2^200):∃s:Int,¬s<0/\Spec Aa 41 [bK b] (.i .i64 s):=by
 have h:=aBo (b:Int) (szN (by omega));rw[cX]at h;refine⟨_,?_,h⟩;rw[jS];split
 ·omega
 ·split<;>omega
def kN(l:List Nat):List Nat:=(dC (uI l)).map F3
def aHh(l:List Nat):uI (kN l)=dC (uI l):=by
 unfold uI kN;rw[Dd];have:∀x∈dC (uI l),((λ(p:Nat)=>(p:Int)) ∘ F3) x=x:=λx hx=>by have hm:=(kV (uI l)).mem_iff.1 hx;obtain⟨p,_,rfl⟩:=AM.1 hm;simp
 exact(CP this).trans (List.map_id _)
def rH(l:List Nat):(kN l).Perm l:=by
 have h:=(kV (uI l)).map F3;have e:(uI l).map F3=l:=by unfold uI;rw[Dd];exact(CP (λx _=>by simp)).trans (List.map_id _)
 rw[e]at h;exact h
def bJs(l:List Nat):dzU (uI l)=dU l:=by simp[dzU,uI,dU]
def bTh{H:Hp}{id:Nat}{e:TypeId}{T:List Nat}{k:Nat}(hk:k<=T.length)(hH:H id=some (.cells e ((dU T).map AV.d))):frz H 8 (.own id 0 k 1)=some (bU (T.take k)):=by
 have e0:D9 k ((dU T).map AV.d)=(dU (T.take k)).map AV.d:=by simp[dU]
 have e2:=nL (l:=T.take k) (n:=k) (by rw[AZ];omega);have e3:=dZ T;simp[-O,-ξ,aBz,hH,e0,e2,e3,bU,hk]
def aAw{B:Nat}:∀{l:List Nat} {k:Nat},(∀p∈l,p<=B)->l.length=k->bG l<=B^k
 |[],_,_,h=>by subst h;simp[bG]
 |p::l,0,_,h=>by simp at h
 | p::l,k+1,h,hk=>by rw[bG,BR,B5];exact A9 (aAw (λq hq=>h q (AE _ hq)) (by simpa using hk)) (h p (AI ..))
def bIs{H:Hp}{x y:AV}{a b:D}(h1:frz H 8 x=some a)(h2:frz H 8 y=some b):cI H [x,y]=some [a,b]:=by simp[cI,h1,h2]
def aKu(l:List Nat):(kN l).length=l.length:=(rH l).length_eq
def bCs(z:Int)(l:List (Nat×Nat×Nat)):D:=.tp [.ag [.b (decide (z<0)),aB (aJ z.natAbs),ezI (dC (blL z l))],.i .i64 0]
def zOf(l:List (Nat×Nat×Nat))(s:Nat):Int:=aJp (fB (rsL l) s)
def aMg(l:List (Nat×Nat)):one (.d (pM l))=true:=rfl
def yD(l:List (Nat×Nat)):cY (.d (pM l))=some [.d (pM l)]:=rfl
def aFy(l:List (Nat×Nat)):aL (pM l)=.d (pM l):=rfl
def aNj(l:List (Nat×Nat)):inj (pM l)=.d (pM l):=rfl
def aBl(H:Hp)(avs:List AV)(l:List (Nat×Nat)):aZ H avs (pM l)=bV H avs:=rfl
def okS(b:Nat)(l:List (Nat×Nat×Nat))(n s:Nat):Prop:=iU 10 s=l.length-2*n/\(zOf l s).natAbs<=b/\(blL (zOf l s) l).length<=n
def enR(b:Nat)(l:List (Nat×Nat×Nat))(n:Nat):Prop:=2*b<bG ((kN (pmL l)).take (l.length-2*n))
def aUs(l:List Int):one (.d (ezI l))=true:=rfl
def aCs(l:List Int):cY (.d (ezI l))=some [.d (ezI l)]:=rfl
def aNk(l:List Int):aL (ezI l)=.d (ezI l):=rfl
def aVk(l:List Int):inj (ezI l)=.d (ezI l):=rfl
def aFv(H:Hp)(avs:List AV)(l:List Int):aZ H avs (ezI l)=bV H avs:=rfl
def cAl(l:List Int):∃L,ezI l=.sl L/\L.length=l.length:=⟨_,rfl,by simp⟩
def lP(P:List Nat)(n i:Nat):List Int:=uI (P.take i)++Av (n-i) 0
def vS{α:Type}:∀(l:List α) (s:Nat),(fB l s).Sublist l
 |[],s=>List.Sublist.refl _
 | x::l,s=>by
  unfold fB;split
  ·exact(vS l _).cons_cons x
  ·exact(vS l _).cons x
def aWp{n:Int}(h1:0<=n)(h2:n<4294967296):BI.wrap n=n:=by rw[Ez];omega
def aUe(l:List (Nat×Nat×Nat)):prR (rsL l)=pmL l:=by simp[prR,rsL,pmL]
def bAj[M:Mch Aa](b:Nat)(l:List (Nat×Nat×Nat))(n B:Nat)(R:D)(hb:b<2^200)(hl:l.length<=12)(hl2:l.length-n<=10)(hgood:yQ l/\(pmL l).Nodup)(hP:∀x∈l,Spec Aa 52 [.i .u64 (x.2.1:Nat)] (.b true))(hf:2*n<=l.length)
  (hpr:∀x∈l,PrN x.2.1/\x.2.1<=B) (hB31:B<2147483648) (hB:B^(l.length-2*n)<2^250)
  (hR0:¬enR b l n->R=vdE 200) (hR1:enR b l n->∀s,s<2^(l.length-n)->okS b l n s->(∀s',s'<s->¬okS b l n s')->R=bCs (zOf l s) l) (hR2:enR b l n->(∀s,s<2^(l.length-n)->¬okS b l n s)->R=vdE 201) :
  Spec Aa 10 [bK b,eZ l,.i .i64 n] R:=by
 obtain⟨s,hs0,hSg⟩:=cEn b hb
 have hPr:=aQz l true ⟨λh=>hgood,λh=>rfl⟩ (by omega) hP
 obtain⟨L,hL,hLl,hLg⟩:=kA l
 rw[hL]at hPr ⊢
 have hn0:¬(n:Int)<0:=by omega
 have hl16:¬(16:Int)<(L.length:Int):=by omega
 have hL16:¬16<L.length:=by omega
 have hd2:¬((L.length:Int).tdiv 2)<n:=by rw[D2 (by omega)];omega
 have hd3:¬(L.length:Int)/2<n:=by omega
 have hw:Ah.wrap ((L.length:Int)/2)=(L.length:Int)/2:=aP
 have hm1:8*(L.length:Int)<=281474976710656/\(L.length:Int)<=9223372036854775807:=by omega
 have hPl:(pmL l).length=l.length:=by simp[pmL]
 have hrep:Av L.length (AV.d (D.i .u64 0))=(dzU (lP (pmL l) l.length 0)).map AV.d:=by simp[lP,uI,dzU,hLl]
 obtain⟨D00,hD00⟩:∃D00,dzU (lP (pmL l) l.length 0)=D00:=⟨_,rfl⟩
 rw[hD00]at hrep
 refine aX (N:=109) Tryz.func10 ?_
 simp[-O,-ξ,↓KW,aN b,aH]
 refine aC hSg ?_
 simp[-O,-ξ,↓KW,hs0,hn0,hl16,hL16,aH]
 refine aC hPr ?_
 simp[-O,-ξ,↓KW,hd2,hd3,hw]
 simp[-O,-ξ,↓KW,hm1,hrep]
 refine aY (τ:=Nat) (λi=>i<=l.length) (λi=>StL [(1,.d (.sl L)),(2,.d (.i .i64 n)),(3,.ptr 1 0),(6,.ptr 2 0),(7,.d (.i .i64 0)),(8,.own 3 0 L.length 1),(41,.d (.sl L)),(42,.d (.i .i64 L.length)),(43,.d (.i .i64 i))] none [.cells 31 [.d (.b false),.d (aB (aJ b))],.cells 34 [.d (.b false),.nil,.nil],.cells 51 ((dzU (lP (pmL l) l.length i)).map .d)]) (λi=>l.length-i) 0 (A1 _) ?_ ?_
 ·rw[hD00]
  refine wkQ [1,2,3] ?_ ?_<;>simp[-O,upd,aL,Γ0]
 ·intro i hi
  by_cases hlt:i<l.length
  ·obtain⟨⟨w,p,v⟩,hge⟩:∃x,l[i]? = some x:=⟨_,Ab hlt⟩
   have hLi:=hLg i _ hge
   simp only at hLi
   have hLi':=bP hLi
   have hiL:i<L.length:=by omega
   have hw1:Ah.wrap ((i:Int)+1)=((i+1:Nat):Int):=aP
   have hw0:Ah.wrap (i:Int)=i:=aP
   have hfl:(dzU (lP (pmL l) l.length i)).length=L.length:=by rw[mK,lP];simp[uI,pmL];omega
   have hset:(dzU (lP (pmL l) l.length i)).set i (.i .u64 (p:Int))=dzU (lP (pmL l) l.length (i+1)):=by
    rw[aJj];congr 1;unfold lP;have hpg:(pmL l)[i]? = some p:=by unfold pmL;rw[Ag,hge];rfl
    have e1:(pmL l).take (i+1)=(pmL l).take i++[p]:=by rw[A5,hpg];rfl
    have e2:l.length-i=(l.length-(i+1))+1:=by omega
    have e3:(uI ((pmL l).take i)).length=i:=by simp[uI];omega
    rw[e1,e2,Cz,Da _ _ (by omega),e3,CU,CL];simp[uI]
   have e1:lay ((dzU (lP (pmL l) l.length i)).map AV.d) i [.d (.i .u64 (p:Int))]=(dzU (lP (pmL l) l.length (i+1))).map .d:=by rw[eQ _ _ _ (by omega),hset]
   obtain⟨D1,hD1⟩:∃D1,dzU (lP (pmL l) l.length (i+1))=D1:=⟨_,rfl⟩
   rw[hD1]at e1
   generalize dzU (lP (pmL l) l.length i)=D0 at *
   have hiL1:i+1<=L.length:=by omega
   simp[-O,-ξ,↓KW,hiL,hLi,hLi',hw0,hw1,hfl,hiL1,e1]
   refine aI (i+1) (by omega) (by show l.length-(i+1)<l.length-i;omega) ?_
   show ∃ρ,Wk _ (StL _ _ _) ρ
   rw[hD1]
   refine wkQ [1,2,3] ?_ ?_<;>simp[-O,upd,aL,Γ0,e1]
  ·have hiL:¬i<L.length:=by omega
   have hfi:lP (pmL l) l.length i=uI (pmL l):=by unfold lP;rw[show l.length-i=0 from by omega,As (by omega)];simp
   rw[hfi]
   simp[-O,-ξ,↓KW,hiL]
   refine aS ?_
   have hSo:=cBx (uI (pmL l)) (by simp[uI];omega)
   have hlen:(dzU (dC (uI (pmL l)))).length=(dzU (uI (pmL l))).length:=by rw[mK,mK];exact eF _ _
   have hno1:=nW 51 (uI (pmL l))
   have hno2:=nW 51 (dC (uI (pmL l)))
   have hul:(uI (pmL l)).length=L.length:=by simp[uI];omega
   rw[hul,<-aHh,bJs (kN (pmL l))]at hSo
   rw[<-aHh,bJs (kN (pmL l))]at hlen hno2
   have hsl:(kN (pmL l)).length=L.length:=by rw[aKu];omega
   have hsure:L.length-2*n<=(kN (pmL l)).length:=by omega
   have hmp:∀p∈kN (pmL l),0<p/\p<=B:=λp hp=>by have:=(rH (pmL l)).mem_iff.1 hp;obtain⟨x,hx,rfl⟩:=AM.1 this;have h:=hpr x hx;have:=h.1.1;exact⟨by omega,h.2⟩
   have htk:((kN (pmL l)).take (L.length-2*n)).length=L.length-2*n:=by rw[AZ];omega
   have hpb:bG ((kN (pmL l)).take (L.length-2*n))<=B^(L.length-2*n):=aAw (λp hp=>(hmp p (Bw hp)).2) htk
   rw[hLl]at hpb
   have hpb2:bG ((kN (pmL l)).take (l.length-2*n))<2^255:=Bf hpb (Nat.lt_trans hB (by decide))
   rw[<-hLl]at hpb2
   have hEn:=bTr ((kN (pmL l)).take (L.length-2*n)) b (by omega) hb (λp hp=>by
    have:=hmp p (Bw hp);omega) hpb2
   have hEE:enR b l n↔2*b<bG ((kN (pmL l)).take (L.length-2*n)):=by unfold enR;rw[hLl]
   have hfr:∀H:Hp,H 3=some (.cells 51 ((dU (kN (pmL l))).map AV.d))->frz H 8 (.own 3 0 (L.length-2*n) 1)=some (bU ((kN (pmL l)).take (L.length-2*n))):=λH hH=>bTh hsure hH
   have hwn2:Ah.wrap (2*(n:Int))=2*(n:Int):=aP
   have hwsu:Ah.wrap ((L.length:Int)-2*(n:Int))=((L.length-2*n:Nat):Int):=by
    have e:(L.length:Int)-2*(n:Int)=((L.length-2*n:Nat):Int):=by omega
    rw[e];exact aP
   have hsle:L.length-2*n<=L.length:=by omega
   obtain⟨su,hsu⟩:∃su,L.length-2*n=su:=⟨_,rfl⟩
   rw[hsu]at hEn hEE hwsu hsle hsure
   simp only[hsu]at hfr
   generalize kN (pmL l)=SP at *
   generalize dzU (uI (pmL l))=D0 at *
   generalize hsEn:D9 su SP=SPs at *
   generalize hD1:dU SP=D1 at *
   simp[-O,-ξ,↓KW]
   refine nE (by simp) ?_
   refine iT (id:=3) (h:=.own 0 0 L.length 1) (by rfl) hno1 (by rfl) (by rfl) hSo (by simp[HO.len,hlen]) hno2 ?_
   obtain⟨X,hX,hfX⟩:∃X,iI 1 (.own 3 0 L.length 1) 0 (su:Int) false=some X/\∀H:Hp,H 3=some (.cells 51 (D1.map AV.d))->frz H 8 X=some (bU SPs):=by
    rcases A7 su with h0|h0
    ·refine⟨.d (.sl []),by subst h0;simp[iI],λH _=>?_⟩;rw[<-hsEn,h0,BD];rfl
    ·refine⟨.own 3 0 su 1,?_,λH hH=>hfr H (by rw[hH])⟩;have h1:¬(0:Int)=(su:Int):=by omega
     have h2:(su:Int)<=(L.length:Int):=by omega
     simp[iI,hsle];omega
   simp[-O,-ξ,↓KW,hwn2,hwsu,hX,aH]
   refine bE (ds:=[bU SPs,bK b]) (bIs (hfX _ rfl) (by rfl)) hEn ?_
   by_cases hE:2*b<bG SPs
   ·have hEr:=hEE.2 hE
    rw[B4 hE]
    obtain⟨K,hK⟩:∃K,L.length-n=K:=⟨_,rfl⟩
    have hKl:l.length-n=K:=by omega
    rw[hKl]at hR1 hR2
    have hK10:K<=10:=by omega
    have hN:(2:Nat)^K<=1024:=AR (Ci (by decide) hK10) (by decide)
    have hwk:Ah.wrap ((L.length:Int)-(n:Int))=(K:Int):=by rw[show(L.length:Int)-(n:Int)=(K:Int)from by omega];exact aP
    have hshl:dT .shl .u32 1 (K:Int)=some (.i .u32 ((2^K:Nat):Int)):=by simp only[dT,CK];rw[Ai (by omega)];congr 2;rw[show min (K:Int).toNat 32=K from by omega,Int.one_mul,show(2:Int)^K=((2^K:Nat):Int)from by simp];rw[Ez];generalize(2:Nat)^K=N at *;omega
    replace hR1:=hR1 hEr
    replace hR2:=hR2 hEr
    generalize hNN:(2:Nat)^K=N at *
    simp[-O,-ξ,↓KW,hwk,hshl]
    refine aY (τ:=Nat) (λs=>s<=N/\∀s',s'<s->¬okS b l n s') (λs=>StL [(1,.d (.sl L)),(2,.d (.i .i64 n)),(3,.ptr 1 0),(6,.ptr 2 0),(7,.d (.i .i64 0)),(11,.d (.i .i64 su)),(73,.d (.i .u32 N)),(74,.d (.i .u32 s))] none [.cells 31 [.d (.b false),.d (aB (aJ b))],.cells 34 [.d (.b false),.nil,.nil]]) (λs=>N-s) 0 ⟨A1 _,λs' h=>by omega⟩ ?_ ?_
    ·refine wkQ [1,2] ?_ ?_<;>simp[-O,upd,aL,Γ0]
    ·rintro s ⟨hs1,hs2⟩
     by_cases hsN:s<N
     ·have hOn:=bGd s (by omega)
      have hws:BI.wrap ((s:Int)+1)=((s+1:Nat):Int):=aWp (by omega) (by omega)
      have hsK:s<2^K:=by rw[hNN];exact hsN
      have hp10:iU 10 s=iU K s:=by rw[show 10=K+(10-K)from by omega];exact rM K _ s hsK
      have hpl:iU l.length s=iU K s:=by rw[show l.length=K+n from by omega];exact rM K _ s hsK
      have hsul:l.length-2*n=su:=by omega
      by_cases hpk:iU 10 s=su
      ·have hbl:(fB (rsL l) s).length=su:=by rw[qU,show(rsL l).length=l.length from by simp[rsL],hpl,<-hp10,hpk]
       have hsub:=vS (rsL l) s
       have hmr:∀x∈rsL l,∃y∈l,y.2=x:=λx hx=>by obtain⟨y,hy,e⟩:=AM.1 hx;exact⟨y,hy,e⟩
       have hPr2:bBi (fB (rsL l) s):=⟨λx hx=>by
        obtain⟨y,hy,rfl⟩:=hmr x (hsub.subset hx);exact(hpr y hy).1,λx hx=>by
        obtain⟨y,hy,rfl⟩:=hmr x (hsub.subset hx);exact hgood.1.2 y hy,by
        have h1:((rsL l).map (·.1)).Nodup:=by have:=hgood.2;rw[<-aUe]at this;exact this
        exact(hsub.map (·.1)).nodup h1⟩
       have hbd:bG (prR (fB (rsL l) s))<2^250:=by refine Bf (aAw (B:=B) (k:=su) (λp hp=>?_) (by simp[prR,hbl])) (by rw[<-hsul];exact hB);obtain⟨x,hx,rfl⟩:=AM.1 hp;obtain⟨y,hy,rfl⟩:=hmr x (hsub.subset hx);exact(hpr y hy).2
       have hCo:=aOc (fB (rsL l) s) hPr2 (by omega) hbd (λx hx=>by
        obtain⟨y,hy,rfl⟩:=hmr x (hsub.subset hx);have:=(hpr y hy).2;omega) (λx hx=>by
        obtain⟨y,hy,rfl⟩:=hmr x (hsub.subset hx);exact hP y hy)
       obtain⟨_,hz1,hz2⟩:=aWa hPr2
       have hz3:(zOf l s).natAbs<2^250:=by unfold zOf;have hbd':bG ((fB (rsL l) s).map (·.1))<2^250:=hbd;generalize bG ((fB (rsL l) s).map (·.1))=Mx at *;omega
       have hCh:=aSp l s (by omega) (by omega)
       rw[hL]at hCh
       have hzd:aJp (fB (rsL l) s)=zOf l s:=rfl
       rw[hzd]at hCo
       have hAb:=bSp (zOf l s) (by omega)
       obtain⟨r,hCm,hr⟩:=bKs (x:=(zOf l s).natAbs) (y:=b) (by omega) (by omega)
       have hBl:=bAz (zOf l s) l hl (sY (by omega)) (λx hx=>by
        have h1:=(hpr x hx).1.1;have h2:=(hpr x hx).2;omega) hP
       rw[hL]at hBl
       have hokd:okS b l n s↔(zOf l s).natAbs<=b/\(blL (zOf l s) l).length<=n:=⟨λh=>h.2,λh=>⟨by rw[hpk,hsul],h⟩⟩
       have hsl2:(dC (blL (zOf l s) l)).length=(blL (zOf l s) l).length:=eF _ _
       have hRok:=hR1 s hsN
       unfold bCs at hRok
       obtain⟨BL,hBLe,hBLl⟩:=cAl (dC (blL (zOf l s) l))
       rw[hBLe]at hBl hRok
       rw[hsl2]at hBLl
       have hpk2:(((iU 10 s:Nat):Int) != (su:Int))=false:=by simp[hpk]
       have hcont:¬okS b l n s->∀s',s'<s+1->¬okS b l n s':=λhnok s' h=>by
        by_cases h':s'=s
        ·subst h';exact hnok
        ·exact hs2 s' (by omega)
       generalize fB (rsL l) s=CR at *
       generalize iU 10 s=pk at *
       generalize hzz:zOf l s=z at *
       generalize(blL z l).length=bn at *
       simp[-O,-ξ,↓KW,hsN]
       refine aC hOn ?_
       simp[-O,-ξ,↓KW,hpk2,hpk,hws]
       refine aC hCh ?_
       simp[-O,-ξ,↓KW,aMg,yD,aFy,aNj,aBl]
       refine aC hCo ?_
       simp[-O,-ξ,↓KW,bB z,aMg,yD,aFy,aNj,aBl,aH]
       refine aC hAb ?_
       simp[-O,-ξ,↓KW,aN z.natAbs,aH]
       refine aC hCm ?_
       by_cases hzb:b<z.natAbs
       ·have hr1:=hr.2 hzb
        have hnok:¬okS b l n s:=λh=>by have:=(hokd.1 h).1;omega
        simp[-O,-ξ,↓KW,hr1,hws]
        refine aI (s+1) ⟨by omega,hcont hnok⟩ (by show N-(s+1)<N-s;omega) ?_
        show ∃ρ,Wk _ (StL _ _ _) ρ
        refine wkQ [1,2] ?_ ?_<;>simp[-O,upd,aL,Γ0]
       ·have hr1:¬0<r:=λh=>hzb (hr.1 h)
        simp[-O,-ξ,↓KW,hr1,hws,aH]
        refine aC hBl ?_
        by_cases hbn:bn<=n
        ·have hR:=hRok (hokd.2 ⟨by omega,hbn⟩) hs2
         subst hR
         have hbn':(bn:Int)<=(n:Int):=by omega
         simp[-O,-ξ,↓KW,hBLl,hbn,hbn',aH,dV]
         exact aS (by simp[-O,-ξ,↓KW,aH,dV])
        ·have hbn':¬(bn:Int)<=(n:Int):=by omega
         have hnok:¬okS b l n s:=λh=>hbn (hokd.1 h).2
         simp[-O,-ξ,↓KW,hBLl,hbn,hbn',hws]
         refine aI (s+1) ⟨by omega,hcont hnok⟩ (by show N-(s+1)<N-s;omega) ?_
         show ∃ρ,Wk _ (StL _ _ _) ρ
         refine wkQ [1,2] ?_ ?_<;>simp[-O,upd,aL,Γ0]
      ·have hnok:¬okS b l n s:=λh=>hpk (by have:=h.1;omega)
       have hpk1:(((iU 10 s:Nat):Int) != (su:Int))=true:=by simp;omega
       generalize iU 10 s=pk at *
       simp[-O,-ξ,↓KW,hsN]
       refine aC hOn ?_
       simp[-O,-ξ,↓KW,hpk1,hpk,hws]
       refine aI (s+1) ⟨by omega,λs' h=>by
        by_cases h':s'=s
        ·subst h';exact hnok
        ·exact hs2 s' (by omega)⟩ (by show N-(s+1)<N-s;omega) ?_
       show ∃ρ,Wk _ (StL _ _ _) ρ
       refine wkQ [1,2] ?_ ?_<;>simp[-O,upd,aL,Γ0]
     ·have hsN':s=N:=by omega
      have hR:=hR2 (λs' h=>hs2 s' (by omega))
      subst hR
      simp[-O,-ξ,↓KW,hsN]
      refine aS ?_
      simp[-O,-ξ,↓KW,vdE,dV]
   ·have hR:=hR0 (λh=>hE (hEE.1 h))
    rw[Bs hE]
    subst hR
    simp[-O,-ξ,↓KW,vdE,dV]
def szD{z:Int}(h:z.natAbs<2^256):(aJ z.natAbs).length<=130000000000:=by have:=cU (n:=z.natAbs) (k:=8) (A6 h (by decide));omega
def aYj[M:Mch Aa](n:Nat)(hn:n<4294967296):Spec Aa 135 [bK n] (.tp [.i .i64 n,.b true]):=by
 have hw1:Ah.wrap (n:Int)=n:=aP;have hw2:AB.wrap (n:Int)=n:=wrap_u64 (by omega) (by omega);have hle:(n:Int)<=9223372036854775807:=by omega
 have hle2:n<=9223372036854775807:=by omega
 have z0:Ah.wrap 0=0:=by decide
 have z1:Ah.wrap (-1)=-1:=by decide
 have z2:AB.wrap 0=0:=by decide
 rcases A7 n with h0|h0
 ·subst h0;have e:bK 0=.ag [.b false,.sl []]:=by rw[aN,bZ];rfl
  rw[e];refine aX (N:=38) Tryz.func135 ?_;simp[-O,-ξ,↓KW];refine eD 1 ?_;simp[-O,-ξ,↓KW,↓aE,↓aA,↓aF,↓aG,z0,z1,z2,dV]
 ·have e:bK n=.ag [.b false,.sl [[.i .u32 n]]]:=by
   rw[aN];have:aJ n=[n]:=by rw[gB (by omega),BY hn,Di hn,bZ]
   rw[this];rfl
  rw[e];refine aX (N:=38) Tryz.func135 ?_;simp[-O,-ξ,↓KW];refine eD 2 ?_;simp[-O,-ξ,↓KW,↓aE,↓aA,↓aF,↓aG,z0,z1,z2,hw1,hw2,hle,hle2,dV]
def aYh[M:Mch Aa](p:Nat)(z:Int)(hp:0<p)(hp1:p<=2147483648)(hz:z.natAbs<2^256):Spec Aa 78 [.i .u64 p,encZ z] (.i .u64 (z%(p:Int))):=by have hO:=aAt (x:=p) (by omega);have hD:=kX z (p:Int) (by omega) (szD hz) (szD (by simp;omega));rw[cX]at hD;have hr0:=Dw z (show(p:Int)≠0 by omega);have hr1:=Gg z (show(0:Int)<p by omega);obtain⟨r,hr⟩:∃r:Nat,z%(p:Int)=r:=⟨(z%(p:Int)).toNat,by omega⟩;rw[hr,cX]at hD;rw[hr];have hS:=aYj r (by omega);have hw1:Ah.wrap (p:Int)=p:=aP;have hw2:AB.wrap (r:Int)=r:=wrap_u64 (by omega) (by omega);generalize z/(p:Int)=q at *;refine aX (N:=26) Tryz.func78 ?_;simp[-O,-ξ,↓KW,bB z,hw1,aH];refine aC hO ?_;simp[-O,-ξ,↓KW,aN p,aH];refine aC hD ?_;simp[-O,-ξ,↓KW,bB q,aN r,aH];refine aC hS ?_;simp[-O,-ξ,↓KW,hw2]
def aLm[M:Mch Aa](w p v:Nat)(z:Int)(hp:0<p)(hp1:p<=2147483648)(hz:z.natAbs<2^256):Spec Aa 55 [.ag [.i .i64 w,.i .u64 p,.i .u64 v],encZ z] (.b (decide (z%(p:Int)=(v:Int)))):=by have hR:=aYh p z hp hp1 hz;generalize z%(p:Int)=r at *;have hd:(r==(v:Int))=decide (r=(v:Int)):=rfl;refine aX (N:=14) Tryz.func55 ?_;simp[-O,-ξ,↓KW,bB z,aH];refine aC hR ?_;simp[-O,-ξ,↓KW,hd]
def rI1(n:Int)(y:List Int×Bool)(x:Int):List Int×Bool:=if y.2=false/\n<x then(y.1++[n,x],true)else(y.1++[x],y.2)
def rI0(n:Int)(l:List Int):List Int×Bool:=l.foldl (rI1 n) ([],false)
def aDy(n:Int)(l:List Int):List Int:=if(rI0 n l).2 then(rI0 n l).1 else(rI0 n l).1++[n]
def bFl(n:Int)(l:List Int)(x:Int):rI0 n (l++[x])=rI1 n (rI0 n l) x:=by unfold rI0;rw[Gv];rfl
def bQc(n:Int)(l:List Int):(rI0 n l).1.length<=2*l.length:=by
 have h:∀(l:List Int) (y:List Int×Bool),(l.foldl (rI1 n) y).1.length<=y.1.length+2*l.length:=by
  intro l;induction l with
  |nil=>intro y;simp
  | cons x l ih =>
   intro y;rw[D8];refine AR (ih _) ?_;have:(rI1 n y x).1.length<=y.1.length+2:=by unfold rI1;split<;>simp
   rw[Ak];omega
 have:=h l ([],false);unfold rI0;simpa using this
def aVs(l:List Int):∃L,ezI l=.sl L/\L.length=l.length/\∀i,i<l.length->L[i]? = some [.i .i64 l[i]!]:=⟨_,rfl,by simp,λi hi=>by rw[Ag,Ab hi,B7 l i hi];rfl⟩
def aJk(a b:List Int):dzI (a++b)=dzI a++dzI b:=by simp[dzI]
def bTv(x y:Int):dzI [x,y]=[.i .i64 x,.i .i64 y]:=rfl
def riS(L:List (List D))(n:Int)(i:Nat)(y:List Int×Bool):St:=StL [(0,.d (.sl L)),(1,.d (.i .i64 n)),(5,.own 1 0 y.1.length 1),(6,.d (.b y.2)),(7,.d (.i .i64 i))] none [.cells 3 ((dzI y.1).map .d)]
def aYc[M:Mch Aa](l:List Int)(n:Int)(hl:l.length<=1000):Spec Aa 56 [ezI l,.i .i64 n] (ezI (aDy n l)):=by
 obtain⟨L,hL,hLl,hLg⟩:=aVs l;rw[hL];refine aX (N:=43) Tryz.func56 ?_;simp[-O,-ξ,↓KW];refine aY (τ:=Nat) (λi=>i<=l.length) (λi=>riS L n i (rI0 n (l.take i))) (λi=>l.length-i) 0 (A1 _) ?_ ?_
 ·rw[BD];show ∃ρ,Wk _ (riS _ _ _ ([],false)) ρ;unfold riS;refine wkQ [1] ?_ ?_<;>simp[-O,upd,aL,Γ0,dzI]
 ·intro i hi;have hol:=bQc n (l.take i);rw[AZ]at hol;by_cases hlt:i<l.length
  ·have hLi:=hLg i hlt;have hLi':=bP hLi;have hiL:i<L.length:=by omega
   have hge:l[i]? = some l[i]! := by rw[B7 l i hlt];exact Ab hlt
   have hT1:rI0 n (l.take (i+1))=rI1 n (rI0 n (l.take i)) l[i]! := by rw[A5,hge,DC,bFl]
   have hw0:Ah.wrap (i:Int)=i:=aP;have hw1:Ah.wrap ((i:Int)+1)=((i+1:Nat):Int):=aP;generalize l[i]! = x at *;generalize rI0 n (l.take i)=y at *;obtain⟨o,d⟩:=y;simp only at hol;have hbb:=eL (n:=o.length) (by omega);have hbb2:=eL (n:=o.length+1) (by omega);cases d with
   | true =>
    have hT2:rI0 n (l.take (i+1))=(o++[x],true):=by rw[hT1];simp[rI1]
    simp[-O,-ξ,↓KW,riS,hiL,hLi,hLi',hw0,hw1,eR,hbb,bJ];refine aI (i+1) (by omega) (by show l.length-(i+1)<l.length-i;omega) ?_;show ∃ρ,Wk _ (riS _ _ _ _) ρ;rw[hT2];unfold riS;refine wkQ [3] ?_ ?_<;>simp[-O,upd,aL,Γ0,Bo,bM,aJk,zQ]
   | false =>
    by_cases hx:n<x
    ·have hT2:rI0 n (l.take (i+1))=(o++[n,x],true):=by rw[hT1];simp[rI1,hx]
     simp[-O,-ξ,↓KW,riS,hiL,hLi,hLi',hx,hw0,hw1,eR,hbb,hbb2,bJ];refine aI (i+1) (by omega) (by show l.length-(i+1)<l.length-i;omega) ?_;show ∃ρ,Wk _ (riS _ _ _ _) ρ;rw[hT2];unfold riS;refine wkQ [5] ?_ ?_<;>simp[-O,upd,aL,Γ0,Bo,bM,aJk,bTv]
    ·have hT2:rI0 n (l.take (i+1))=(o++[x],false):=by rw[hT1];simp[rI1,hx]
     simp[-O,-ξ,↓KW,riS,hiL,hLi,hLi',hx,hw0,hw1,eR,hbb,bJ];refine aI (i+1) (by omega) (by show l.length-(i+1)<l.length-i;omega) ?_;show ∃ρ,Wk _ (riS _ _ _ _) ρ;rw[hT2];unfold riS;refine wkQ [3] ?_ ?_<;>simp[-O,upd,aL,Γ0,Bo,bM,aJk,zQ]
  ·have hiL:¬i<L.length:=by omega
   rw[As (show l.length<=i by omega)]at hol ⊢;have hR:aDy n l=if(rI0 n l).2 then(rI0 n l).1 else(rI0 n l).1++[n]:=rfl
   rw[hR];generalize rI0 n l=y at *;obtain⟨o,d⟩:=y;simp only at hol;have hbb:=eL (n:=o.length) (by omega);cases d with
   | true =>
    have e0:(if(o,true).2=true then(o,true).1 else(o,true).1++[n])=o:=rfl;rw[e0];have e1:=oL (l:=o) rfl;have e2:=xG (l:=o) rfl;simp[-O,-ξ,↓KW,riS,hiL];refine aS ?_;simp[-O,-ξ,↓KW,ezI,eR,e1,e2]
   | false =>
    have e0:(if(o,false).2=true then(o,false).1 else(o,false).1++[n])=o++[n]:=rfl;rw[e0];have hol2:(o++[n]).length=o.length+1:=by simp
    have e1:=oL hol2;have e2:=xG hol2;have e3:=eR (o++[n]);rw[hol2]at e3;simp[-O,-ξ,↓KW,riS,hiL];refine aS ?_;have hcat:Cj AV.d (dzI o)++[AV.d (.i .i64 n)]=(dzI (o++[n])).map AV.d:=by simp[dzI]
    simp[-O,-ξ,↓KW,eR,hbb,bJ,hcat,e1,e2,e3,ezI]
def blR(z:Int)(l:List (Nat×Nat×Nat)):List Int:=l.foldl (λo x=>if z%(x.2.1:Int)=(x.2.2:Int)then o else aDy x.1 o) []
def bLd(z:Int)(l:List (Nat×Nat×Nat))(w p v:Nat):blR z (l++[(w,p,v)])=if z%(p:Int)=(v:Int)then blR z l else aDy w (blR z l):=by unfold blR;rw[Gv];rfl
def bFm[M:Mch Aa](z:Int)(l:List (Nat×Nat×Nat))(hl:l.length<=1000)(hbl:∀i,(blR z (l.take i)).length<=1000)(hz:z.natAbs<2^256)(hp:∀x∈l,0<x.2.1/\x.2.1<=2147483648):Spec Aa 17 [encZ z,eZ l] (ezI (blR z l)):=by
 obtain⟨L,hL,hLl,hLg⟩:=kA l;rw[hL];refine aX (N:=29) Tryz.func17 ?_;simp[-O,-ξ,↓KW,bB z,aH];refine aY (τ:=Nat) (λi=>i<=l.length) (λi=>StL [(1,.d (.sl L)),(2,.ptr 1 0),(5,.d (ezI (blR z (l.take i)))),(6,.d (.i .i64 i))] none [.cells 31 [.d (.b (decide (z<0))),.d (aB (aJ z.natAbs))]]) (λi=>l.length-i) 0 (A1 _) ?_ ?_
 ·rw[BD];refine wkQ [1] ?_ ?_
  ·simp[-O,upd,aL,Γ0,show ezI (blR z [])=.sl []from rfl];refine aTz (by rfl) (λa ha id hid=>?_);have ha':a=2:=by simpa[-O,-ξ,upd]using ha
   rw[ha'];exact aUf hid (by simp) (by decide)
  ·simp[-O,upd,aL,Γ0]
 ·intro i hi;by_cases hlt:i<l.length
  ·obtain⟨⟨w,p,v⟩,hge⟩:∃x,l[i]? = some x:=⟨_,Ab hlt⟩;have hmem:=Aj hge;have hLi:=hLg i _ hge;simp only at hLi;have hLi':=bP hLi;have hiL:i<L.length:=by omega
   have hC:=aLm w p v z (hp _ hmem).1 (hp _ hmem).2 hz;have hT1:blR z (l.take (i+1))=if z%(p:Int)=(v:Int)then blR z (l.take i)else aDy w (blR z (l.take i)):=by rw[A5,hge,DC,bLd]
   have hIn:=aYc (blR z (l.take i)) w (hbl i);have hw0:Ah.wrap (i:Int)=i:=aP;have hw1:Ah.wrap ((i:Int)+1)=((i+1:Nat):Int):=aP;generalize z%(p:Int)=r at *;by_cases hr:r=(v:Int)
   ·rw[Aq hr]at hT1;rw[B4 hr]at hC;clear hIn;generalize blR z (l.take i)=T at *;simp[-O,-ξ,↓KW,hiL,hLi,hLi',hw0,aH];refine aC hC ?_;simp[-O,-ξ,↓KW,hw1];refine aI (i+1) (by omega) (by show l.length-(i+1)<l.length-i;omega) ?_;show ∃ρ,Wk _ (StL _ _ _) ρ;rw[hT1];refine wkQ [1] ?_ ?_<;>simp[-O,upd,aL,Γ0]
   ·rw[Ai hr]at hT1;rw[Bs hr]at hC;obtain⟨T2,hT2⟩:∃T2,aDy w (blR z (l.take i))=T2:=⟨_,rfl⟩;rw[hT2]at hIn hT1;generalize blR z (l.take i)=T at *;simp[-O,-ξ,↓KW,hiL,hLi,hLi',hw0,aH];refine aC hC ?_;simp[-O,-ξ,↓KW,hiL,hLi,hLi',hw0,hw1];refine aC hIn ?_;simp[-O,-ξ,↓KW,hw1,aUs,aCs,aNk,aVk,aFv];refine aI (i+1) (by omega) (by show l.length-(i+1)<l.length-i;omega) ?_;show ∃ρ,Wk _ (StL _ _ _) ρ;rw[hT1];refine wkQ [1] ?_ ?_<;>simp[-O,upd,aL,Γ0]
  ·have hiL:¬i<L.length:=by omega
   rw[As (show l.length<=i by omega)];generalize blR z l=T at *;simp[-O,-ξ,↓KW,hiL];exact aS (by simp[-O,-ξ,↓KW,aUs,aCs,aNk,aVk,aFv])
def oin(n:Int):List Int->List Int
 |[]=>[n]
 |x::l=>if n<x then n::x::l else x::oin n l
def aUh(n:Int):∀(l o:List Int),l.foldl (rI1 n) (o,true)=(o++l,true)
 |[],o=>by simp
 | x::l,o=>by
  rw[D8];have:rI1 n (o,true) x=(o++[x],true):=by simp[rI1]
  rw[this,aUh n l];simp
def aLl(n:Int):∀(l o:List Int),(let y:=l.foldl (rI1 n) (o,false);if y.2 then y.1 else y.1++[n])=o++oin n l
 |[],o=>by simp[oin]
 | x::l,o=>by
  rw[D8];by_cases h:n<x
  ·have:rI1 n (o,false) x=(o++[n,x],true):=by simp[rI1,h]
   rw[this,aUh n l];simp[oin,h]
  ·have:rI1 n (o,false) x=(o++[x],false):=by simp[rI1,h]
   rw[this,aLl n l (o++[x])];simp[oin,h]
def bQb(n:Int)(l:List Int):aDy n l=oin n l:=by have h:=aLl n l [];simp only[Dv]at h;unfold aDy rI0;generalize List.foldl (rI1 n) ([],false) l=y at *;obtain⟨o,d⟩:=y;rw[<-h]
def aBb(n:Int):∀l:List Int,(oin n l).Perm (n::l)
 |[]=>.refl _
 | x::l=>by
  unfold oin;split
  ·exact .refl _
  ·exact((aBb n l).cons x).trans (.swap n x l)
def aBa(n:Int):∀l:List Int,l.Pairwise (·<=·)->(oin n l).Pairwise (·<=·)
 |[],_=>by simp[oin]
 | x::l,h=>by
  rw[EG]at h;unfold oin;split
  ·rename_i hx;rw[EG,EG];refine⟨λy hy=>?_,h⟩;rcases Bn.1 hy with rfl|hy
   ·omega
   ·have:=h.1 y hy;omega
  ·rename_i hx;rw[EG];refine⟨λy hy=>?_,aBa n l h.2⟩;have:=(aBb n l).mem_iff.1 hy;rcases Bn.1 this with rfl|hy
   ·omega
   ·exact h.1 y hy
def aTa(z:Int)(l:List (Nat×Nat×Nat)):(blR z l).Pairwise (·<=·)/\(blR z l).Perm (blL z l):=by
 have h:∀(l:List (Nat×Nat×Nat)) (o:List Int),o.Pairwise (·<=·)->(l.foldl (λo x=>if z%(x.2.1:Int)=(x.2.2:Int)then o else aDy x.1 o) o).Pairwise (·<=·)/\(l.foldl (λo x=>if z%(x.2.1:Int)=(x.2.2:Int)then o else aDy x.1 o) o).Perm (o++blL z l):=by
  intro l;induction l with
  |nil=>intro o ho;exact⟨ho,by simp[blL]⟩
  | cons x l ih =>
   intro o ho;rw[D8];have hb:blL z (x::l)=(if z%(x.2.1:Int)=(x.2.2:Int)then[]else[(x.1:Int)])++blL z l:=by have:=aOk z [] x.1 x.2.1 x.2.2;by_cases h:z%(x.2.1:Int)=(x.2.2:Int)<;>simp[blL,E6,h]
   by_cases hx:z%(x.2.1:Int)=(x.2.2:Int)
   ·rw[Aq hx]at hb ⊢;rw[hb];exact ih o ho
   ·rw[Ai hx]at hb ⊢;rw[hb,bQb];obtain⟨h1,h2⟩:=ih (oin x.1 o) (aBa _ _ ho);refine⟨h1,h2.trans ?_⟩;refine((aBb (x.1:Int) o).append_right _).trans ?_;simp only[List.singleton_append];exact(List.perm_middle (l₁:=o)).symm
 simpa[blR]using h l [] List.Pairwise.nil
def bUw(z:Int)(l:List (Nat×Nat×Nat)):blR z l=dC (blL z l):=(bDi (aTa z l).1 (aTa z l).2).symm
def bUx(z:Int)(l:List (Nat×Nat×Nat)):(blR z l).length<=l.length:=by rw[(aTa z l).2.length_eq];exact aJv z l
def aFm{α:Type}{l:List α}{i k:Nat}{x:α}(hk:k<i)(h1:l[k]? = some x)(h2:l[i]? = some x):¬l.Nodup:=λh=>by obtain⟨a,ha⟩:=Ao.1 h1;obtain⟨b,hb⟩:=Ao.1 h2;have:=(List.nodup_iff_pairwise_ne.1 h);rw[Gn]at this;exact this k i a b hk (ha.trans hb.symm)
def pH{α:Type}{l:List α}{i:Nat}{x:α}(hx:l[i]? = some x)(h:(l.take i).Nodup)(hne:∀k,k<i->l[k]? ≠ some x):(l.take (i+1)).Nodup:=by
 rw[A5,hx];refine nY h λhm=>?_
 obtain⟨k,hk⟩:=List.mem_iff_getElem?.1 hm;have hk2:=(Ao.1 hk).1;rw[AZ]at hk2;rw[List.getElem?_take_of_lt (by omega)]at hk;exact hne k (by omega) hk
def aHy[M:Mch Aa](l:List Nat)(hl:l.length<=1000000)(hP:∀p∈l,Spec Aa 98 [.i .u64 (p:Nat)] (.b true)):Spec Aa 51 [bU l] (.b (decide l.Nodup)):=by
 obtain⟨L,hL,hLl,hLg⟩:=qP l;rw[hL];refine aX (N:=31) Tryz.func51 ?_;simp[-O,-ξ,↓KW];refine aY (τ:=Nat) (λi=>i<=l.length/\(l.take i).Nodup) (λi=>StL [(0,.d (.sl L)),(3,.d (.i .i64 i))] none []) (λi=>l.length-i) 0 ⟨A1 _,by simp⟩ ?_ ?_
 ·refine wkQ [] ?_ ?_<;>simp[-O,upd,aL,Γ0]
 ·rintro i ⟨hi,hn⟩;by_cases hlt:i<l.length
  ·have hLi:=hLg i hlt;have hLi':=bP hLi;have hiL:i<L.length:=by omega
   have hge:l[i]? = some l[i]! := by rw[B7 l i hlt];exact Ab hlt
   have hPp:Spec Aa 98 [.i .u64 (l[i]! : Nat)] (.b true):=hP _ (Aj hge);have hw0:Ah.wrap (i:Int)=i:=aP;have hw1:Ah.wrap ((i:Int)+1)=((i+1:Nat):Int):=aP;generalize hpe:l[i]! = p at *;simp[-O,-ξ,↓KW,hiL,hLi,hLi',hw0];refine aC hPp ?_;simp[-O,-ξ,↓KW];refine aY (τ:=Nat) (λk=>k<=i/\∀j,j<k->l[j]? ≠ some p) (λk=>StL [(0,.d (.sl L)),(3,.d (.i .i64 i)),(4,.d (.i .i64 k))] none []) (λk=>i-k) 0 ⟨A1 _,λj h=>by omega⟩ ?_ ?_
   ·refine wkQ [] ?_ ?_<;>simp[-O,upd,aL,Γ0]
   ·rintro k ⟨hk,hne⟩;by_cases hki:k<i
    ·have hLk:=hLg k (by omega);have hLk':=bP hLk;have hkL:k<L.length:=by omega
     have hgk:l[k]? = some l[k]! := by rw[B7 l k (by omega)];exact Ab (by omega)
     have hwk0:Ah.wrap (k:Int)=k:=aP;have hwk1:Ah.wrap ((k:Int)+1)=((k+1:Nat):Int):=aP;generalize hqe:l[k]! = q at *;by_cases hpq:q=p
     ·subst hpq;have hd:decide l.Nodup=false:=Bs (aFm hki hgk hge);rw[hd];simp[-O,-ξ,↓KW,hki,hkL,hiL,hLk,hLk',hLi,hLi',hw0,hwk0];refine aS ?_;simp[-O,-ξ,↓KW];exact aS (by simp[-O,-ξ,↓KW])
     ·have hpqi:((q:Int)==(p:Int))=false:=by simp;omega
      simp[-O,-ξ,↓KW,hki,hkL,hiL,hLk,hLk',hLi,hLi',hw0,hwk0,hwk1,hpq,hpqi];refine aI (k+1) ⟨by omega,λj h=>?_⟩ (by show i-(k+1)<i-k;omega) (wkQ [] ?_ ?_)
      ·by_cases hj:j=k
       ·subst hj;rw[hgk];intro h';injection h' with h';exact hpq h'
       ·exact hne j (by omega)
      ·simp[-O,upd,aL,Γ0]
      ·simp[-O,upd,aL,Γ0]
    ·have hke:k=i:=by omega
     subst hke;simp[-O,-ξ,↓KW,hki];refine aS ?_;simp[-O,-ξ,↓KW,hw1];refine aI (k+1) ⟨by omega,pH hge hn hne⟩ (by show l.length-(k+1)<l.length-k;omega) (wkQ [] ?_ ?_)<;>simp[-O,upd,aL,Γ0]
  ·have hiL:¬i<L.length:=by omega
   rw[As (show l.length<=i by omega)]at hn;rw[B4 hn];simp[-O,-ξ,↓KW,hiL];exact aS (by simp[-O,-ξ,↓KW])
def yX{l:List (Nat×Nat×Nat)}{i:Nat}{x:Nat×Nat×Nat}(h:l[i]? = some x):(wkL l)[i]? = some x.1:=by unfold wkL;rw[Ag,h];rfl
def aLy(L:List (List D))(i:Nat)(P:List Nat):St:=StL [(0,.d (.sl L)),(3,.own 1 0 P.length 1),(4,.d (.i .i64 i))] none [.cells 51 ((dU P).map .d)]
def bFu(L:List (List D))(i k:Nat)(P:List Nat):St:=StL [(0,.d (.sl L)),(3,.own 1 0 P.length 1),(4,.d (.i .i64 i)),(5,.d (.i .i64 k))] none [.cells 51 ((dU P).map .d)]
def aYd[M:Mch Aa](l:List (Nat×Nat×Nat))(b:Bool)(hb:b=true↔yQ l/\(pmL l).Nodup)(hl:l.length<=1000000)(hP:∀x∈l,Spec Aa 98 [.i .u64 (x.2.1:Nat)] (.b true)):Spec Aa 14 [eZ l] (.b b):=by
 obtain⟨L,hL,hLl,hLg⟩:=kA l;have hD:=aHy (pmL l) (by simp[pmL];omega) (λp hp=>by
  obtain⟨x,hx,rfl⟩:=AM.1 hp;exact hP x hx)
 rw[hL];refine aX (N:=53) Tryz.func14 ?_;simp[-O,-ξ,↓KW];refine aY (τ:=Nat) (λi=>i<=l.length/\yQ (l.take i)) (λi=>aLy L i (pmL (l.take i))) (λi=>l.length-i) 0 ⟨A1 _,by simp[yQ,wkL]⟩ ?_ ?_
 ·rw[BD];show ∃ρ,Wk _ (aLy _ _ []) ρ;unfold aLy;refine wkQ [1] ?_ ?_<;>simp[-O,upd,aL,Γ0,dU]
 ·rintro i ⟨hi,hn⟩;by_cases hlt:i<l.length
  ·obtain⟨⟨w,p,v⟩,hge⟩:∃x,l[i]? = some x:=⟨_,Ab hlt⟩;have hmem:=Aj hge;have hLi:=hLg i _ hge;simp only at hLi;have hLi':=bP hLi;have hiL:i<L.length:=by omega
   have hT1:l.take (i+1)=l.take i++[(w,p,v)]:=by rw[A5,hge];rfl
   have hw0:Ah.wrap (i:Int)=i:=aP;have hw1:Ah.wrap ((i:Int)+1)=((i+1:Nat):Int):=aP;have hpT:pmL (l.take (i+1))=pmL (l.take i)++[p]:=by rw[hT1];simp[pmL]
   have hPl:(pmL (l.take i)).length=i:=by simp[pmL];omega
   have hbb:=eL (n:=(pmL (l.take i)).length) (by omega);have hP1:(pmL (l.take (i+1))).length=(pmL (l.take i)).length+1:=by rw[hpT];simp
   have hdU1:(dU (pmL (l.take i))).map AV.d++[AV.d (.i .u64 (p:Int))]=(dU (pmL (l.take (i+1)))).map AV.d:=by rw[hpT];simp[dU]
   by_cases hv:v<p
   ·have hpv:¬(p:Int)<=(v:Int):=by omega
    have hpv':¬p<=v:=by omega
    obtain⟨PT1,hPT1⟩:∃PT1,pmL (l.take (i+1))=PT1:=⟨_,rfl⟩;rw[hPT1]at hP1 hdU1;generalize pmL (l.take i)=PT at *;simp[-O,-ξ,↓KW,aLy,hiL,hLi,hLi',hw0,hpv,hpv',dZ,hbb,bJ];refine aY (τ:=Nat) (λk=>k<=i/\∀j,j<k->(wkL l)[j]? ≠ some w) (λk=>bFu L i k PT1) (λk=>i-k) 0 ⟨A1 _,λj h=>by omega⟩ ?_ ?_
    ·unfold bFu;rw[hP1];refine wkQ [3] ?_ ?_<;>simp[-O,upd,aL,Γ0,Bo,bM,hdU1]
    ·rintro k ⟨hk,hne⟩;by_cases hki:k<i
     ·obtain⟨⟨w',p',v'⟩,hgk⟩:∃x,l[k]? = some x:=⟨_,Ab (by omega)⟩;have hLk:=hLg k _ hgk;simp only at hLk;have hLk':=bP hLk;have hkL:k<L.length:=by omega
      have hwk0:Ah.wrap (k:Int)=k:=aP;have hwk1:Ah.wrap ((k:Int)+1)=((k+1:Nat):Int):=aP;by_cases hww:w'=w
      ·subst hww;have hbf:b=false:=by
        cases b with
        |false=>rfl
        |true=>exact absurd (hb.1 rfl).1.1 (aFm hki (show(wkL l)[k]? = some w' from yX hgk) (show(wkL l)[i]? = some w' from yX hge))
       subst hbf;simp[-O,-ξ,↓KW,bFu,hki,hkL,hiL,hLk,hLk',hLi,hLi',hw0,hwk0];refine aS ?_;simp[-O,-ξ,↓KW];exact aS (by simp[-O,-ξ,↓KW])
      ·have hwwi:((w':Int)==(w:Int))=false:=by simp;omega
       simp[-O,-ξ,↓KW,bFu,hki,hkL,hiL,hLk,hLk',hLi,hLi',hw0,hwk0,hwk1,hww,hwwi];refine aI (k+1) ⟨by omega,λj h=>?_⟩ (by show i-(k+1)<i-k;omega) (wkQ [1] ?_ ?_)
       ·by_cases hj:j=k
        ·subst hj;rw[yX hgk];intro h';injection h' with h';exact hww h'
        ·exact hne j (by omega)
       ·simp[-O,upd,aL,Γ0]
       ·simp[-O,upd,aL,Γ0]
     ·have hke:k=i:=by omega
      subst hke;have hokn:yQ (l.take (k+1)):=⟨by rw[zW];exact pH (yX hge) (by rw[<-zW];exact hn.1) hne,λx hx=>by
       rw[hT1]at hx;rcases BP.1 hx with h|h
       ·exact hn.2 x h
       ·simp only[BQ]at h;subst h;exact hv⟩
      simp[-O,-ξ,↓KW,bFu,hki];refine aS ?_;simp[-O,-ξ,↓KW,hw1];refine aI (k+1) ⟨by omega,hokn⟩ (by show l.length-(k+1)<l.length-k;omega) ?_;show ∃ρ,Wk _ (aLy _ _ _) ρ;rw[hPT1];unfold aLy;refine wkQ [1] ?_ ?_<;>simp[-O,upd,aL,Γ0]
   ·have hpv:(p:Int)<=(v:Int):=by omega
    have hpv':p<=v:=by omega
    have hbf:b=false:=by
     cases b with
     |false=>rfl
     |true=>exact absurd ((hb.1 rfl).1.2 _ hmem) (by simpa using hpv')
    subst hbf;generalize pmL (l.take i)=PT at *;simp[-O,-ξ,↓KW,aLy,hiL,hLi,hLi',hw0,hpv,hpv'];exact aS (by simp[-O,-ξ,↓KW])
  ·have hiL:¬i<L.length:=by omega
   rw[As (show l.length<=i by omega)]at hn ⊢;have hbe:b=decide (pmL l).Nodup:=by
    cases b with
    |false=>symm;rw[decide_eq_false_iff_not];exact λh=>by have:=hb.2 ⟨hn,h⟩;cases this
    |true=>symm;rw[BC];exact(hb.1 rfl).2
   rw[hbe];generalize decide (pmL l).Nodup=bb at *;generalize hPT:pmL l=PT at *;simp[-O,-ξ,↓KW,aLy,hiL];refine aS ?_;simp[-O,-ξ,↓KW];refine bE (ds:=[bU PT]) (aNo (bIw rfl rfl)) hD ?_;simp[-O,-ξ,↓KW]
def aUc(z:Int):z.sign<0↔z<0:=by
 rw[jS];split
 ·simp_all
 ·split<;>simp_all
def cCb[M:Mch Aa](b:Nat):∃s:Int,¬s<0/\Spec Aa 64 [bK b] (.i .i64 s):=by have h:=lG (b:Int);rw[cX]at h;refine⟨_,?_,h⟩;rw[aUc];omega
def bQe[M:Mch Aa](l:List Int)(hl:l.length<=1000000):Spec Aa 15 [ezI l,ezI l] (.b true):=by
 obtain⟨L,hL,hn,hg⟩:=aVs l;rw[hL];refine aX (N:=26) Tryz.func15 ?_;simp[-O,-ξ,↓KW];refine cB (τ:=Nat) (λi=>i<=L.length) (λi=>StL [(0,.d (.sl L)),(1,.d (.sl L)),(5,.d (.i .i64 (i:Int)))] none []) (λi=>L.length-i) 0 (A1 _) ?_ ?_
 ·refine wkQ [] ?_ ?_<;>simp[-O,upd,aL,Γ0]
 ·intro i hi;have hw1:Ah.wrap ((i:Int)+1)=((i+1:Nat):Int):=aP;have hw0:Ah.wrap (i:Int)=i:=aP;by_cases hlt:i<L.length
  ·have hp:=hg i (by omega);have hp':∀h,L[i]'h=[.i .i64 l[i]!]:=λh=>by rw[Ab h]at hp;injection hp
   generalize l[i]! = p at *;simp[-O,-ξ,↓KW,hlt,hp,hp',hw0,hw1];refine aI (i+1) (by omega) (by show L.length-(i+1)<L.length-i;omega) (wkQ [] ?_ ?_)<;>simp[-O,upd,aL,Γ0]
  ·simp[-O,-ξ,↓KW,hlt]
def aKt(l:List Nat):(kN l).Pairwise (·<=·):=by have h:=tB (uI l);rw[<-aHh]at h;exact(Fz.1 h).imp λh=>by omega
def aAu:∀(S Q:List Nat) (k:Nat),S.Pairwise (·<=·)->(∀p∈S,0<p)->Q.Sublist S->k<=Q.length->bG (S.take k)<=bG Q
 |S,Q,0,_,hp,hQ,_=>rL (l:=Q) λp h=>hp p (hQ.mem h)
 |[],Q,k+1,_,_,hQ,hk=>by cases hQ;simp at hk
 | x::T,Q,k+1,hs,hp,hQ,hk=>by
  rw[EG]at hs;have hpT:∀p∈T,0<p:=λp h=>hp p (AE _ h)
  rw[DO,bG];rcases List.sublist_cons_iff.1 hQ with h|⟨R,rfl,h⟩
  ·cases Q with
   |nil=>simp at hk
   | cons y R =>
    rw[bG];exact A9 (hs.1 y (h.mem (AI ..))) (aAu T R k hs.2 hpT ((List.sublist_cons_self y R).trans h) (by simpa using hk))
  ·rw[bG];exact Nat.mul_le_mul_left x (aAu T R k hs.2 hpT h (by simpa using hk))
def aRa{P Q:List Nat}{k:Nat}(hn:P.Nodup)(hp:∀p∈P,0<p)(hQ:Q.Sublist P)(hk:k<=Q.length):bG ((kN P).take k)<=bG Q:=by
 have hS:=rH P;have h1:Q.Perm ((kN P).filter (λx=>decide (x∈Q))):=by rw[List.perm_ext_iff_of_nodup (hQ.nodup hn) ((hS.nodup_iff.2 hn).filter _)];intro a;rw[List.mem_filter,hS.mem_iff,decide_eq_true_iff];exact⟨λh=>⟨hQ.mem h,h⟩,λh=>h.2⟩
 rw[aAv h1];exact aAu _ _ k (aKt P) (λp h=>hp p (hS.mem_iff.1 h)) List.filter_sublist (by rw[<-h1.length_eq];exact hk)
structure Good(l:List (Nat×Nat×Nat)):Prop where
 ok:yQ l
 nd:(pmL l).Nodup
 pr:∀x∈l,PrN x.2.1
def wF{α:Type}(f g:α->Bool):∀l:List α,l.length<=(l.filter λx=>f x&&g x).length+(l.filter λx=>!f x).length+(l.filter λx=>!g x).length
 |[]=>by simp
 | x::l=>by have:=wF f g l;cases hf:f x<;>cases hg:g x<;>simp[hf,hg]<;>omega
def zS(z:Int)(l:List (Nat×Nat×Nat)):(l.filter λx=>!(z%(x.2.1:Int)==(x.2.2:Int))).length=(blL z l).length:=by unfold blL;rw[Bl];rfl
def aVw{l:List (Nat×Nat×Nat)}(hG:Good l){b n:Nat}(he:enR b l n){Q:List Nat}(hQ:Q.Sublist (pmL l))(hk:l.length-2*n<=Q.length):2*b<bG Q :=
 A6 he (aRa hG.nd (λp hp=>by
  obtain⟨x,hx,rfl⟩:=AM.1 hp;have:=(hG.pr x hx).1;omega) hQ hk)
def bFx{l:List (Nat×Nat×Nat)}(hG:Good l){p:Nat}(hp:p∈pmL l):PrN p:=by obtain⟨x,hx,rfl⟩:=AM.1 hp;exact hG.pr x hx
def aKm{l:List (Nat×Nat×Nat)}(hG:Good l){b n:Nat}(he:enR b l n){y z:Int}(hy:y.natAbs<=b)(hz:z.natAbs<=b)(hy1:(blL y l).length<=n)(hz1:(blL z l).length<=n):y=z:=by
 have hc:=wF (λx:Nat×Nat×Nat=>y%(x.2.1:Int)==(x.2.2:Int)) (λx=>z%(x.2.1:Int)==(x.2.2:Int)) l;rw[zS,zS]at hc;obtain⟨F,hF⟩:∃F,(l.filter λx:Nat×Nat×Nat=>y%(x.2.1:Int)==(x.2.2:Int)&&z%(x.2.1:Int)==(x.2.2:Int))=F:=⟨_,rfl⟩;have hFs:F.Sublist l:=hF ▸ List.filter_sublist;have hFc:∀x∈F,y%(x.2.1:Int)=(x.2.2:Int)/\z%(x.2.1:Int)=(x.2.2:Int):=λx hx=>by rw[<-hF,List.mem_filter]at hx;simpa using hx.2
 rw[hF]at hc;have hQ:(pmL F).Sublist (pmL l):=hFs.map _;have hb:=aVw hG he hQ (by simp only[pmL,Bl];omega);refine aNy (l:=pmL F) (λq hq=>bFx hG (hQ.mem hq)) (hQ.nodup hG.nd) (λq hq=>?_) (by omega);obtain⟨x,hx,rfl⟩:=AM.1 hq;obtain⟨h1,h2⟩:=hFc x hx;rw[Int.sub_emod,h1,h2,Int.sub_self,GG]
def mkS{α:Type}(f:α->Bool):List α->Nat->Nat
 |[],_=>0
 |_::_,0=>0
 |x::l,k+1=>if f x then 1+2*mkS f l k else 2*mkS f l (k+1)
def aRn{α:Type}(f:α->Bool):∀(l:List α) (k:Nat),mkS f l k<2^l.length
 |[],k=>by simp[mkS]
 |x::l,0=>by simp only[mkS];exact Nat.pow_pos (by decide)
 | x::l,k+1=>by have h1:=aRn f l k;have h2:=aRn f l (k+1);rw[Ak,BR];unfold mkS;split<;>omega
def xI{α:Type}:∀l:List α,fB l 0=[]
 |[]=>rfl
 |x::l=>by simp[fB,xI l]
def aOn{α:Type}:∀(a b:List α) (s:Nat),s<2^a.length->fB (a++b) s=fB a s
 | [],b,s,h=>by
  have:s=0:=by simpa using h
  subst this;rw[Dv,xI];rfl
 | x::a,b,s,h=>by
  have h':s/2<2^a.length:=by rw[Ak,BR]at h;omega
  simp only[Co,fB,aOn a b (s/2) h']
def aIr{α:Type}(f:α->Bool):∀(l:List α) (k:Nat),∀x∈fB l (mkS f l k),f x=true
 |[],k,x,h=>by simp[fB]at h
 |y::l,0,x,h=>by simp only[mkS,xI]at h;cases h
 | y::l,k+1,x,h=>by
  unfold mkS at h;by_cases hy:f y=true
  ·rw[Aq hy]at h;simp only[fB,show(1+2*mkS f l k)%2=1 from by omega,if_true,show(1+2*mkS f l k)/2=mkS f l k from by omega,Bn]at h;rcases h with rfl|h
   ·exact hy
   ·exact aIr f l k x h
  ·rw[Ai hy]at h;simp only[fB,show 2*mkS f l (k+1)%2=0 from by omega,show 2*mkS f l (k+1)/2=mkS f l (k+1)from by omega,Nat.zero_ne_one,if_false]at h;exact aIr f l (k+1) x h
def aFc:∀n,iU n 0=0
 |0=>rfl
 |n+1=>by simp[iU,aFc n]
def aIq{α:Type}(f:α->Bool):∀(l:List α) (k:Nat),k<=(l.filter f).length->iU l.length (mkS f l k)=k
 |[],k,h=>by simp at h;subst h;rfl
 |y::l,0,h=>by simp only[mkS];exact aFc _
 | y::l,k+1,h=>by
  unfold mkS;by_cases hy:f y=true
  ·rw[Aq hy,Ak,iU,show(1+2*mkS f l k)%2=1 from by omega,show(1+2*mkS f l k)/2=mkS f l k from by omega,aIq f l k (by simp[hy]at h;exact h)];omega
  ·rw[Ai hy,Ak,iU,show 2*mkS f l (k+1)%2=0 from by omega,show 2*mkS f l (k+1)/2=mkS f l (k+1)from by omega,aIq f l (k+1) (by simp[hy]at h;exact h)];omega
def aOm{α β:Type}(g:α->β):∀(l:List α) (s:Nat),fB (l.map g) s=(fB l s).map g
 |[],s=>rfl
 | x::l,s=>by simp only[BO,fB,aOm g l];split<;>simp
def bYr{l:List (Nat×Nat×Nat)}(hG:Good l){C:List (Nat×Nat)}(hC:C.Sublist (rsL l)):bBi C where
 pr:=λx hx=>by obtain⟨y,hy,rfl⟩:=AM.1 (hC.mem hx);exact hG.pr y hy
 lt:=λx hx=>by obtain⟨y,hy,rfl⟩:=AM.1 (hC.mem hx);exact hG.ok.2 y hy
 nd:=(hC.map (·.1)).nodup (by have:=hG.nd;rwa [<-aUe]at this)
def bYb{l:List (Nat×Nat×Nat)}(hG:Good l){b n:Nat}(he:enR b l n)(hf:2*n<=l.length){z:Int}(hz:z.natAbs<=b)(hz1:(blL z l).length<=n) :
  ∃s,s<2^(l.length-n)/\iU (l.length-n) s=l.length-2*n/\zOf l s=z:=by
 obtain⟨f,hfe⟩:∃f:Nat×Nat×Nat->Bool,f=λx=>z%(x.2.1:Int)==(x.2.2:Int):=⟨_,rfl⟩
 obtain⟨s,hs⟩:∃s,mkS f (l.take (l.length-n)) (l.length-2*n)=s:=⟨_,rfl⟩
 have hll:(l.take (l.length-n)).length=l.length-n:=by rw[AZ];omega
 have hcnt:l.length-2*n<=((l.take (l.length-n)).filter f).length:=by
  have h1:=wF f f (l.take (l.length-n));have h2:((l.take (l.length-n)).filter λx=>!f x).length<=n:=by refine AR ?_ hz1;rw[<-zS,hfe];exact((Dq _ l).filter _).length_le
  have h3:((l.take (l.length-n)).filter λx=>f x&&f x)=(l.take (l.length-n)).filter f:=List.filter_congr λx _=>Bool.and_self _
  have h4:l.length-n<=(l.filter λx=>!f x).length+((l.take (l.length-n)).filter f).length:=by
   have h5:∀L:List (Nat×Nat×Nat),L.length<=(L.filter λx=>!f x).length+(L.filter f).length:=λL=>by
    induction L with
    |nil=>simp
    |cons x L ih=>cases hx:f x<;>simp[hx]<;>omega
   have h6:=h5 (l.take (l.length-n));have h7:=((Dq (l.length-n) l).filter λx=>!f x).length_le;omega
  have h8:(l.filter λx=>!f x).length<=n:=by rw[hfe,zS];exact hz1
  omega
 have hlt:=aRn f (l.take (l.length-n)) (l.length-2*n)
 have hbit:=aIr f (l.take (l.length-n)) (l.length-2*n)
 have hpop:=aIq f (l.take (l.length-n)) (l.length-2*n) hcnt
 rw[hll,hs]at hlt hpop
 rw[hs]at hbit
 have hbl:fB l s=fB (l.take (l.length-n)) s:=by have h:=aOn (l.take (l.length-n)) (l.drop (l.length-n)) s (by rw[hll];exact hlt);rwa [Dx]at h
 refine⟨s,hlt,hpop,?_⟩
 obtain⟨T,hT⟩:∃T,fB l s=T:=⟨_,rfl⟩
 have hTs:T.Sublist l:=hT ▸ vS l s
 have hTl:T.length=l.length-2*n:=by rw[<-hT,hbl,qU,hll,hpop]
 have hTc:∀x∈T,z%(x.2.1:Int)=(x.2.2:Int):=λx hx=>by rw[<-hT,hbl]at hx;have:=hbit x hx;rw[hfe]at this;simpa using this
 unfold zOf
 rw[show rsL l=l.map (·.2)from rfl,aOm,hT]
 have hC:(T.map (·.2)).Sublist (rsL l):=hTs.map _
 obtain⟨h1,h2,h3⟩:=aWa (bYr hG hC)
 have hpm:(T.map (·.2)).map (·.1)=pmL T:=by simp[pmL]
 rw[hpm]at h2 h3
 have hQ:(pmL T).Sublist (pmL l):=hTs.map _
 have hb:=aVw hG he hQ (by simp only[pmL,Bl];omega)
 refine aNy (l:=pmL T) (λq hq=>bFx hG (hQ.mem hq)) (hQ.nodup hG.nd) (λq hq=>?_) (by omega)
 obtain⟨x,hx,rfl⟩:=AM.1 hq
 have h4:=h1 x.2 (DN hx)
 have h5:=hTc x hx
 rw[Int.sub_emod,h4,h5,Int.sub_self,GG]
abbrev Rp3:=Nat×Nat×Nat
def uW(d:Int)(ps:List Nat):List Rp3:=(AN ps.length).map λi=>(i,ps.getD i 0,(d%(ps.getD i 0:Int)).toNat)
def bIl(d:Int)(ps:List Nat):(uW d ps).length=ps.length:=by simp[uW]
def aVm(d:Int)(ps:List Nat):pmL (uW d ps)=ps:=by unfold pmL uW;rw[Dd];apply FE (by simp);intro i h1 h2;simp only[List.getElem_map,List.getElem_range,Function.comp];rw[Ac,Ab h2];rfl
def bSx(d:Int)(ps:List Nat):wkL (uW d ps)=AN ps.length:=by unfold wkL uW;rw[Dd];exact(CP λi _=>rfl).trans (List.map_id _)
def bJr{d:Int}{p:Nat}(hp:0<p):(d%(p:Int)).toNat<p:=by have h1:=Dw d (b:=(p:Int)) (by omega);have h2:=Gg d (b:=(p:Int)) (by omega);omega
structure Gd(d:Int)(k:Nat)(l:List Rp3):Prop where
 good:Good l
 lies:(blL d l).length<=k
def bUy{d:Int}{l:List Rp3}(h:∀x∈l,d%(x.2.1:Int)=(x.2.2:Int)):blL d l=[]:=by unfold blL;rw[List.filter_eq_nil_iff.2 λx hx=>by simp[h x hx]];rfl
def cAa{d:Int}{ps:List Nat}(hn:ps.Nodup)(hp:∀p∈ps,PrN p):Gd d 0 (uW d ps):=by
 have hm:∀x∈uW d ps,x.2.1∈ps/\x.2.2=(d%(x.2.1:Int)).toNat:=λx hx=>by obtain⟨i,hi,rfl⟩:=AM.1 hx;have hi:=Cr.1 hi;refine⟨?_,rfl⟩;show ps.getD i 0∈ps;rw[Ac,Ab hi];exact Bz hi
 refine⟨⟨⟨by rw[bSx];exact List.nodup_range,λx hx=>?_⟩,by rw[aVm];exact hn,λx hx=>hp _ (hm x hx).1⟩,?_⟩
 ·rw[(hm x hx).2];exact bJr (by have:=(hp _ (hm x hx).1).1;omega)
 ·rw[bUy λx hx=>?_]
  ·exact Ay _
  ·rw[(hm x hx).2];have h0:=(hp _ (hm x hx).1).1;have:=Dw d (b:=(x.2.1:Int)) (by omega);omega
def yS(l:List Rp3)(y:Nat×Nat):List Rp3:=let x:=l.getD (y.1%l.length) (0,0,0);l.set (y.1%l.length) (x.1,x.2.1,(x.2.2+y.2%x.2.1)%x.2.1)
def jQ(l:List Rp3)(ys:List (Nat×Nat)):List Rp3:=ys.foldl yS l
def bKo(l:List Rp3)(y:Nat×Nat):(yS l y).length=l.length:=by simp[yS]
def vO(l:List Rp3)(ys:List (Nat×Nat)):(jQ l ys).length=l.length:=by
 unfold jQ;induction ys generalizing l with
 |nil=>rfl
 |cons y ys ih=>rw[D8,ih,bKo]
def bAh(l:List Rp3)(ys:List (Nat×Nat))(y:Nat×Nat):jQ l (ys++[y])=yS (jQ l ys) y:=by unfold jQ;rw[Gv];rfl
def aUd{α β:Type}(f:α->β)(l:List α)(i:Nat)(x:α)(d:α)(h:f x=f (l.getD i d)):(l.set i x).map f=l.map f:=by
 apply CH λk=>?_
 rw[Ag,Ag,CW];split
 ·rename_i e;subst e;split
  ·rename_i hi;rw[Ac,Ab hi]at h;rw[Ab hi];simp only[AU,h,AT]
  ·rename_i hi;rw[AW (by omega)]
 ·rfl
def aJr(l:List Rp3)(y:Nat×Nat):pmL (yS l y)=pmL l:=aUd _ _ _ _ (0,0,0) rfl
def bUi(l:List Rp3)(y:Nat×Nat):wkL (yS l y)=wkL l:=aUd _ _ _ _ (0,0,0) rfl
def count_set(d:Int):∀(l:List Rp3) (i:Nat) (x:Rp3),(blL d (l.set i x)).length<=(blL d l).length+1
 |[],i,x=>by simp
 | z::l,0,x=>by
  have h1:(blL d (x::l)).length<=(blL d l).length+1:=by unfold blL;rw[E6];split<;>simp
  have h2:(blL d l).length<=(blL d (z::l)).length:=by unfold blL;rw[E6 (x:=z)];split<;>simp
  rw[CL];omega
 | z::l,i+1,x=>by have ih:=count_set d l i x;rw[Fl];unfold blL at ih ⊢;rw[E6,E6];split<;>simp at ih ⊢<;>omega
def bUj{d:Int}{k:Nat}{l:List Rp3}(h:Gd d k l)(y:Nat×Nat):Gd d (k+1) (yS l y):=by
 refine⟨⟨⟨by rw[bUi];exact h.good.ok.1,λx hx=>?_⟩,by rw[aJr];exact h.good.nd,λx hx=>?_⟩,AR (count_set _ _ _ _) (by have:=h.lies;omega)⟩
 ·by_cases hl:l=[]
  ·subst hl;simp[yS]at hx
  ·have hlt:y.1%l.length<l.length:=BF _ (Ep.2 hl);rcases Fa hx with hx|rfl
   ·exact h.good.ok.2 x hx
   ·have hm:l.getD (y.1%l.length) (0,0,0)∈l:=by rw[Ac,Ab hlt];exact Bz hlt
    exact BF _ (by have:=(h.good.pr _ hm).1;omega)
 ·have:x.2.1∈pmL (yS l y):=DN hx;rw[aJr]at this;exact bFx h.good this
def aJs{d:Int}:∀{ys:List (Nat×Nat)} {k:Nat} {l:List Rp3},Gd d k l->Gd d (k+ys.length) (jQ l ys)
 |[],k,l,h=>h
 | y::ys,k,l,h=>by have:=aJs (ys:=ys) (bUj h y);rw[Ak,show k+(ys.length+1)=k+1+ys.length by omega];exact this
def bUk(l:List Rp3):∀ys:List (Nat×Nat),pmL (jQ l ys)=pmL l:=λys=>by
 unfold jQ;induction ys generalizing l with
 |nil=>rfl
 |cons y ys ih=>rw[D8,ih,aJr]
def aOb{l:List Rp3}{ys:List (Nat×Nat)}{x:Rp3}(h:x∈jQ l ys):x.2.1∈pmL l:=by have:x.2.1∈pmL (jQ l ys):=DN h;rwa [bUk]at this
def rY(l:List Rp3)(n:Nat):List Rp3:=(AN l.length).map λi=>l.getD ((i+n)%l.length) (0,0,0)
def aKp(l:List Rp3)(n:Nat):(rY l n).length=l.length:=by simp[rY]
def aXc(l:List Rp3)(n:Nat):(rY l n).Perm l:=by
 rcases A7 l.length with h0|h0
 ·have:l=[]:=DI.1 h0;subst this;exact List.Perm.refl _
 obtain⟨m,hm⟩:∃m,n%l.length=m:=⟨_,rfl⟩;have hml:m<l.length:=hm ▸ BF _ h0;have he:rY l n=l.drop m++l.take m:=by
  apply CH λi=>?_
  unfold rY;rw[Ag];by_cases hi:i<l.length
  ·rw[Bq hi,AU];have hmod:(i+n)%l.length=(i+m)%l.length:=by rw[<-hm,Nat.add_mod_mod]
   rw[hmod];by_cases h1:i<l.length-m
   ·rw[AQ (by rw[CZ];exact h1),BG,BY (by omega),EE m i,Ac,Ab (by omega)];rfl
   ·have e:(i+m)%l.length=i+m-l.length:=by rw[Nat.mod_eq_sub_mod (by omega),BY (by omega)]
    rw[AJ (by rw[CZ];omega),CZ,Bt,Aq (by omega),e,show i-(l.length-m)=i+m-l.length by omega,Ac,Ab (by omega)];rfl
  ·rw[AW (by simpa using hi),AW (by rw[Bc,CZ,AZ];omega)];rfl
 rw[he];exact List.perm_append_comm.trans (by rw[Dx])
def bTd{d:Int}{k:Nat}{l m:List Rp3}(h:Gd d k l)(hs:m.Perm l):Gd d k m:=by have hb:(blL d m).length=(blL d l).length:=((hs.filter _).map _).length_eq;exact⟨⟨⟨(hs.map _).nodup_iff.2 h.good.ok.1,λx hx=>h.good.ok.2 x (hs.mem_iff.1 hx)⟩,(hs.map _).nodup_iff.2 h.good.nd,λx hx=>h.good.pr x (hs.mem_iff.1 hx)⟩,by rw[hb];exact h.lies⟩
def aPd(l:List Rp3):Prop:=∀x∈l,x.2.1∈P10
def nV{p:Nat}(h:p∈P10):2147483477<=p/\p<=2147483647:=by simp only[P10,Bn,E7,Fg]at h;omega
def bJq{b n:Nat}{l:List Rp3}(hb:b<=160000)(hg:aPd l)(h:b=0\/1<=l.length-2*n):enR b l n:=by
 unfold enR;have hm:∀p∈(kN (pmL l)).take (l.length-2*n),2147483477<=p:=λp hp=>by have:=(rH (pmL l)).mem_iff.1 (Bw hp);obtain⟨x,hx,rfl⟩:=AM.1 this;exact(nV (hg x hx)).1
 have hlen:((kN (pmL l)).take (l.length-2*n)).length=l.length-2*n:=by rw[AZ,aKu];simp only[pmL,Bl];omega
 generalize(kN (pmL l)).take (l.length-2*n)=Q at *;rcases Q with _|⟨q,Q⟩
 ·rw[Aw]at hlen;have:b=0:=by omega
  subst this;decide
 ·have h1:=hm q (AI ..);have h2:0<bG Q:=rL λp hp=>by have:=hm p (AE _ hp);omega
  rw[bG];have:=A9 h1 h2;omega
def wD{b k:Nat}(hb:b<=160000)(hk:k<=3):wpL b k=P10.take (2*k+if b=0 then 0 else 1):=by
 unfold wpL;have h2:2*k<P10.length:=by rw[uF];omega
 obtain⟨q,hq⟩:∃q,P10[2*k]? = some q:=⟨_,Ab h2⟩;have hd:P10.drop (2*k)=q::P10.drop (2*k+1):=by
  rw[Ab h2]at hq;injection hq with hq
  rw[<-hq];exact(Cn h2)
 have hqb:=nV (Aj hq);rw[hd];by_cases h0:b=0
 ·subst h0;rw[Aq rfl,B6];simp[fX]
 ·rw[Ai h0,A5,hq];congr 1;unfold fX;rw[Ai (by omega)];rcases P10.drop (2*k+1)with _|⟨r,l⟩
  ·rfl
  ·unfold fX;rw[Aq (by omega)];rfl
def bNm{b k p:Nat}(hb:b<=160000)(hk:k<=3)(h:p∈wpL b k):p∈P10:=by rw[wD hb hk]at h;exact Bw h
def bYt:P10.Nodup:=by decide
def bXb{b k:Nat}(hb:b<=160000)(hk:k<=3):(wpL b k).Nodup:=by rw[wD hb hk];exact(Dq _ _).nodup bYt
def bNn{b k:Nat}(hb:b<=160000)(hk:k<=3):(wpL b k).length=2*k+if b=0 then 0 else 1:=by rw[wD hb hk,AZ,uF];split<;>omega
def bQp{p:Nat}(h:Pr3 p):PrN p:=⟨h.1,h.2.2⟩
def wQ[M:Mch Aa]{p:Nat}(h:p∈P10):Spec Aa 52 [.i .u64 (p:Nat)] (.b true) :=
 bFv (b:=true) (by
  have:(P10.all λp=>prB p==1)=true:=by kernel_rfl
  exact eq_of_beq (A3.1 this p h))
def aUo{p:Nat}(h:p∈P10):Pr3 p:=by
 simp only[P10,Bn,E7,Fg]at h;rcases h with rfl|rfl|rfl|rfl|rfl|rfl|rfl|rfl|rfl|rfl
 ·exact mR (by decide) (by decide) (by decide) np0
 ·exact mR (by decide) (by decide) (by decide) np1
 ·exact mR (by decide) (by decide) (by decide) np2
 ·exact mR (by decide) (by decide) (by decide) np3
 ·exact mR (by decide) (by decide) (by decide) np4
 ·exact mR (by decide) (by decide) (by decide) np5
 ·exact mR (by decide) (by decide) (by decide) np6
 ·exact mR (by decide) (by decide) (by decide) np7
 ·exact mR (by decide) (by decide) (by decide) np8
 ·exact mR (by decide) (by decide) (by decide) np9
def bQt[M:Mch Aa]{p:Nat}(h:p∈P10):Spec Aa 98 [.i .u64 (p:Nat)] (.b true) :=
 bFo p true ⟨λ_=>aUo h,λ_=>rfl⟩ (by have:=nV h;omega)
def aUn{p:Nat}(h:p∈P10):PrN p:=bQp (aUo h)
def aSo[M:Mch Aa](b n:Nat)(l:List Rp3)(hb:b<=160000)(hG:Good l)(hg:aPd l)(hl:l.length<=9)(hf:2*n<=l.length)(hs:l.length-2*n<=7)(he:b=0\/1<=l.length-2*n) :
  (∃z:Int,z.natAbs<=b/\(blL z l).length<=n/\Spec Aa 10 [bK b,eZ l,.i .i64 n] (bCs z l)) \/
  ((∀z:Int,z.natAbs<=b->n<(blL z l).length)/\Spec Aa 10 [bK b,eZ l,.i .i64 n] (vdE 201)):=by
 have hE:=bJq (n:=n) hb hg he
 have hc:=λR h0 h1 h2=>bAj b l n 2147483647 R (Bf hb (by decide)) (by omega) (by omega) ⟨hG.ok,hG.nd⟩ (λx hx=>wQ (hg x hx)) hf (λx hx=>⟨hG.pr x hx,(nV (hg x hx)).2⟩) (by decide) (Bf (Ci (by decide) hs) (by decide)) h0 h1 h2
 by_cases hz:∃z:Int,z.natAbs<=b/\(blL z l).length<=n
 ·obtain⟨z,hz,hz1⟩:=hz
  refine .inl ⟨z,hz,hz1,hc _ (λh=>absurd hE h) (λ_ s _ hs _=>?_) λ_ hno=>?_⟩
  ·rw[aKm hG hE hz hs.2.1 hz1 hs.2.2]
  ·obtain⟨s,h1,h2,h3⟩:=bYb hG hE hf hz hz1
   refine absurd ⟨?_,by rw[h3];exact hz,by rw[h3];exact hz1⟩ (hno s h1)
   have:=rM (l.length-n) (10-(l.length-n)) s h1
   rw[show l.length-n+(10-(l.length-n))=10 from by omega]at this
   rw[this,h2]
 ·refine .inr ⟨λz h=>?_,hc _ (λh=>absurd hE h) (λ_ s _ hs _=>absurd ⟨_,hs.2.1,hs.2.2⟩ hz) λ_ _=>rfl⟩
  exact Nat.lt_of_not_le λh'=>hz ⟨z,h,h'⟩
def bAi[M:Mch Aa](b n:Nat)(d:Int)(l:List Rp3)(hb:b<=160000)(hd:d.natAbs<=b)(hG:Gd d n l)(hg:aPd l)(hl:l.length<=9)(hf:2*n<=l.length)(hs:l.length-2*n<=7)(he:b=0\/1<=l.length-2*n) :
  Spec Aa 10 [bK b,eZ l,.i .i64 n] (bCs d l):=by
 rcases aSo b n l hb hG.good hg hl hf hs he with ⟨z,h1,h2,h3⟩|⟨h1,_⟩
 ·rw[aKm hG.good (bJq hb hg he) hd h1 hG.lies h2];exact h3
 ·have:=h1 d hd
  have:=hG.lies
  omega
def zsq(z:Int):encZ (z*z)=bK (z.natAbs*z.natAbs):=by rw[<-Int.natAbs_mul_self,cX]
def cCd[M:Mch Aa](z:Int)(hz:z.natAbs<2^100):Spec Aa 24 [encZ z,encZ z] (bK (z.natAbs*z.natAbs)):=by have h:=jT z z (szR (z:=z) (by omega)).1 (szR (z:=z) (by omega)).1;rwa [zsq]at h
def lnS(L:List (List D))(i s:Nat):St:=StL [(0,.d (.sl L)),(2,.ptr 1 0),(3,.ptr 2 0),(4,.d (.i .i64 (i:Int)))] none [.cells 31 [.d (.b false),.nil],.cells 31 [.d (.b false),.d (aB (aJ s))]]
def aYe[M:Mch Aa](v:List Int)(hl:v.length<=1000)(hb:∀z∈v,z.natAbs<=1000000):Spec Aa 67 [dW v] (bK (sqS v)):=by
 obtain⟨L,hL,hLl,hLg⟩:=aCi v;rw[hL];have hO:=aAt (M:=M) (x:=0) (by omega);refine aX (N:=24) Tryz.func67 ?_;simp[-O,-ξ,↓KW];refine aC hO ?_;simp[-O,-ξ,↓KW,aN 0,aH];refine aY (τ:=Nat) (λi=>i<=v.length) (λi=>lnS L i (sqS (v.take i))) (λi=>v.length-i) 0 (A1 _) ?_ ?_
 ·rw[BD];show ∃ρ,Wk _ (lnS _ _ 0) ρ;unfold lnS;refine wkQ [1,2] ?_ ?_<;>simp[-O,upd,aL,Γ0]
 ·intro i hi;by_cases hlt:i<v.length
  ·obtain⟨z,hge⟩:∃x,v[i]? = some x:=⟨_,Ab hlt⟩;have hLi:=hLg i _ hge;have hLi':=bP hLi;have hiL:i<L.length:=by omega
   have hzb:=hb z (Aj hge);have hM:=cCd z (Bf hzb (by decide));have hsb:sqS (v.take i)<=1000*(1000000*1000000):=aHn (by rw[AZ];omega) λy hy=>hb y (Bw hy)
   have hzz:z.natAbs*z.natAbs<=1000000*1000000:=A9 hzb hzb;have hA:=aIe (x:=sqS (v.take i)) (y:=z.natAbs*z.natAbs) (by omega) (by omega);have hT1:sqS (v.take (i+1))=sqS (v.take i)+z.natAbs*z.natAbs:=by rw[A5,hge];exact aKw z _
   rw[<-hT1]at hA;obtain⟨s1,hs1⟩:∃s,sqS (v.take (i+1))=s:=⟨_,rfl⟩;rw[hs1]at hA;have hw0:Ah.wrap (i:Int)=i:=aP;have hw1:Ah.wrap ((i:Int)+1)=((i+1:Nat):Int):=aP;clear hT1 hsb hzz;generalize sqS (v.take i)=s0 at *;generalize z.natAbs*z.natAbs=q at *;simp[-O,-ξ,↓KW,lnS,hiL,hLi,hLi',hw0,aH];refine aC hM ?_;simp[-O,-ξ,↓KW,aN q,aH];refine aC hA ?_;simp[-O,-ξ,↓KW,aN s1,hw1,aH];refine aI (i+1) (by omega) (by show v.length-(i+1)<v.length-i;omega) ?_;show ∃ρ,Wk _ (lnS _ _ _) ρ;rw[hs1];unfold lnS;refine wkQ [1,2] ?_ ?_<;>simp[-O,upd,aL,Γ0]
  ·have hiL:¬i<L.length:=by omega
   rw[As (show v.length<=i by omega)];generalize sqS v=s0 at *;simp[-O,-ξ,↓KW,lnS,hiL];refine aS ?_;simp[-O,-ξ,↓KW,aN s0,aH]
def aLt[M:Mch Aa](m:List Nat)(n t k:Nat)(hn:n<=100)(hm:m.length=n+1)(hg:m[n]! = t)(ht:t<4294967296)(hk:k<=31)(h1:2^k<=t)(h2:t<2^(k+1)) :
  Spec Aa 164 [.ag [.b false,aB m]] (.i .i64 ((32*n+k+1:Nat):Int)):=by
 obtain⟨L,hL,hLl,hLg⟩:=aVu m
 rw[hL]
 have hLn:=hLg n (by omega)
 rw[hg]at hLn
 have hLn':=bP hLn
 obtain⟨R,hR⟩:∃R:Int,((32*n+k+1:Nat):Int)=R:=⟨_,rfl⟩
 rw[hR]
 have hLL:(L.length:Int)=(n:Int)+1:=by omega
 have hnL:n<L.length:=by omega
 have hw1:Ah.wrap (32*((n:Int)+1))=32*((n:Int)+1):=aP
 have hw2:Ah.wrap ((n:Int)+1-1)=n:=by rw[show(n:Int)+1-1=n by omega];exact aP
 have hw3:Ah.wrap (n:Int)=n:=aP
 have hw4:Ah.wrap (32*(n:Int))=32*(n:Int):=aP
 refine aX (N:=39) Tryz.func164 ?_
 simp[-O,-ξ,↓KW,hLL,hw1,hw2,hw3]
 refine aY (τ:=Unit) (λ_=>True) (λ_=>StL [(1,.ptr 1 0),(2,.d (.i .i64 0)),(3,.d (.i .i64 (32*((n:Int)+1)))),(4,.d (.i .i64 (n:Int)))] none [.cells 31 [.d (.b false),.d (.sl L)]]) (λ_=>0) () trivial ?_ ?_
 ·refine wkQ [1] ?_ ?_<;>simp[-O,upd,aL,Γ0]
 ·rintro⟨⟩ _
  simp[-O,-ξ,↓KW]
  refine aY (τ:=Nat) (λj=>k<=j/\j<=31) (λj=>StL [(1,.ptr 1 0),(2,.d (.i .i64 0)),(3,.d (.i .i64 (32*((n:Int)+1)-(31-(j:Int))))),(4,.d (.i .i64 (n:Int))),(5,.d (.i .i64 (j:Int)))] none [.cells 31 [.d (.b false),.d (.sl L)]]) (λj=>j) 31 ⟨hk,Ay _⟩ ?_ ?_
  ·refine wkQ [1] ?_ ?_<;>simp[-O,upd,aL,Γ0]
  ·rintro j ⟨hj1,hj2⟩
   have hsh:=aUa t j (by omega)
   have hx32:t/2^j<4294967296:=Bf (Eb ..) ht
   have hand:dG .and false (.d (.i .u32 ((t/2^j:Nat):Int))) (.d (.i .u32 1))=some (.i .u32 ((t/2^j%2:Nat):Int)):=by show some (D.i .u32 (bits .and .u32 ((t/2^j:Nat):Int) 1))=_;rw[aOu _ hx32]
   have hwj:Ah.wrap (j:Int)=j:=aP
   by_cases hjk:j=k
   ·have hz:t/2^j=1:=by
     rw[hjk];refine Nat.div_eq_of_lt_le ?_ ?_
     ·omega
     ·rw[BR]at h2;omega
    rw[hz]at hsh hand
    replace hand:dG .and false (.d (.i .u32 1)) (.d (.i .u32 1))=some (.i .u32 1):=hand
    have hwr:Ah.wrap (Ah.wrap (32*(n:Int)+(j:Int))+1)=R:=by rw[wrap_i64 (n:=32*(n:Int)+(j:Int)) (by omega) (by omega),<-hR,hjk];rw[aP];omega
    simp[-O,-ξ,↓KW,hnL,hLn,hLn',hw3,hw4,hsh,hand,hwr]
    refine aS ?_
    simp[-O,-ξ,↓KW]
    refine aS ?_
    simp[-O,-ξ,↓KW]
   ·have hz:t/2^j=0:=Di (A6 h2 (Ci (by decide) (by omega)))
    rw[hz]at hsh hand
    replace hand:dG .and false (.d (.i .u32 0)) (.d (.i .u32 1))=some (.i .u32 0):=hand
    obtain⟨i,rfl⟩:∃i,j=i+1:=⟨j-1,by omega⟩
    have hwr:Ah.wrap (32*((n:Int)+1)-(31-((i+1:Nat):Int))-1)=32*((n:Int)+1)-(31-(i:Int)):=by rw[aP];omega
    have hwi:Ah.wrap (((i+1:Nat):Int)-1)=i:=by rw[aP];omega
    obtain⟨J,hJ⟩:∃J:Int,((i+1:Nat):Int)=J:=⟨_,rfl⟩
    have hJ0:(0:Int)<=J:=by omega
    rw[hJ]at hsh hwr hwi hwj ⊢
    simp[-O,-ξ,↓KW,hnL,hLn,hLn',hw3,hsh,hand,hwr,hwi,hwj,hJ0]
    refine aI i ⟨by omega,by omega⟩ (by omega) ?_
    refine wkQ [1] ?_ ?_<;>simp[-O,upd,aL,Γ0]
def rtF(a:Nat):Nat->Nat->Nat
 |0,o=>o
 |j+1,o=>if(o+2^j)*(o+2^j)<=a then rtF a j (o+2^j)else rtF a j o
def aQt(a:Nat):∀(j o:Nat),o*o<=a->a<(o+2^j)*(o+2^j)->rtF a j o*rtF a j o<=a/\a<(rtF a j o+1)*(rtF a j o+1)
 |0,o,h1,h2=>⟨h1,by simpa[rtF]using h2⟩
 | j+1,o,h1,h2=>by
  unfold rtF;split
  ·rename_i h;refine aQt a j _ h ?_;rw[show o+2^j+2^j=o+2^(j+1)by rw[BR];omega];exact h2
  ·exact aQt a j o h1 (by omega)
def bZo[M:Mch Aa](n:Nat)(hn:n<4294967296):Spec Aa 18 [aB [n],.b false] (bK n):=by rw[<-cX];exact aNa n hn
def bDx(j:Nat)(hj:j<=31):dT .shl .u32 1 (j:Int)=some (.i .u32 ((2^j:Nat):Int)):=by simp only[dT,CK];rw[Ai (by omega)];congr 2;rw[show min (j:Int).toNat 32=j from by omega,Int.one_mul,show(2:Int)^j=((2^j:Nat):Int)from by simp];rw[Ez];have:2^j<=2^31:=Ci (by decide) hj;generalize(2:Nat)^j=N at *;omega
def rtS(a j o:Nat):St:=StL [(1,.ptr 1 0),(2,.ptr 2 0),(3,.d (.i .i64 0)),(4,.ptr 3 0),(5,.d (.i .i64 (pE j)))] none [.cells 31 [.d (.b false),.d (aB (aJ a))],.cells 31 [.d (.b false),.nil],.cells 31 [.d (.b false),.d (aB (aJ o))]]
def bQj[M:Mch Aa](a c:Nat)(ha:a<2^60)(hc:c<=61)(hB:Spec Aa 164 [bK a] (.i .i64 (c:Nat))) :
  Spec Aa 105 [bK a] (.tp [bK (rtF a ((c+1)/2+1) 0),.i .i64 0]):=by
 obtain⟨r,hr⟩:∃r,rtF a ((c+1)/2+1) 0=r:=⟨_,rfl⟩
 rw[hr]
 obtain⟨s,hs0,hSg⟩:=cCb a
 obtain⟨n,hn⟩:∃n,(c+1)/2=n:=⟨_,rfl⟩
 have hn31:n<=31:=by omega
 have hw1:Ah.wrap ((c:Int)+1)=((c+1:Nat):Int):=aP
 have hw2:Ah.wrap (((c+1:Nat):Int).tdiv 2)=(n:Int):=by rw[D2 (by omega),aP];omega
 obtain⟨c1,hc1⟩:∃c1:Int,((c+1:Nat):Int)=c1:=⟨_,rfl⟩
 rw[hc1]at hw1 hw2
 rw[hn]at hr
 have hp0:pE (n+1)=(n:Int):=tG n
 refine aX (N:=44) Tryz.func105 ?_
 simp[-O,-ξ,↓KW,aN a,aH]
 refine aC hSg ?_
 simp[-O,-ξ,↓KW,hs0,aN a,aH]
 refine aC hB ?_
 simp[-O,-ξ,↓KW,hw1,hw2]
 refine aY (τ:=Nat×Nat) (λx=>x.1<=n+1/\rtF a x.1 x.2=r/\x.2*x.2<=a) (λx=>rtS a x.1 x.2) (λx=>x.1) (n+1,0) ⟨Ay _,hr,by simp⟩ ?_ ?_
 ·show ∃ρ,Wk _ (rtS _ _ _) ρ
  unfold rtS
  refine wkQ [1,2,3] ?_ ?_<;>simp[-O,upd,aL,Γ0,hp0,bZ,show aB []=.sl []from rfl]
  exact⟨rfl,λa ha=>by simp[vis]at ha⟩
 ·rintro⟨j,o⟩ ⟨hj,hro,hoo⟩
  simp only at hj hro hoo
  have ho30:o<2^31:=by
   rcases A4 o (2^31)with h|h
   ·exact h
   ·have:=A9 h h;omega
  rcases j with _|j
  ·have hlt:¬(0:Int)<=pE 0:=by decide
   have hro:o=r:=hro
   subst hro
   simp[-O,-ξ,↓KW,rtS,hlt]
   refine aS ?_
   simp[-O,-ξ,↓KW,aN o,aH,dV]
  ·have hps:=tG j
   have hj31:j<=31:=by omega
   have hq1:(j:Int).tdiv 32=0:=by rw[D2 (by omega)];omega
   have hq2:(j:Int)/32=0:=by omega
   have hr1:(j:Int).tmod 32=j:=by rw[Ca (by omega)];omega
   have hr2:(j:Int)%32=j:=by omega
   have hwj:Ah.wrap (j:Int)=j:=aP
   have hwp:Ah.wrap ((j:Int)-1)=pE j:=by rw[aP];rfl
   have hsh:=bDx j hj31
   have h2j:2^j<=2^31:=Ci (by decide) hj31
   have hMd:=bZo (M:=M) (2^j) (by omega)
   obtain⟨q,hq⟩:∃q,2^j=q:=⟨_,rfl⟩
   unfold rtF at hro
   rw[hq]at hsh h2j hMd hro
   have hAd:=aIe (M:=M) (x:=o) (y:=q) (by omega) (by omega)
   obtain⟨x,hx⟩:∃x,o+q=x:=⟨_,rfl⟩
   rw[hx]at hAd hro
   have hxb:x*x<=2^32*2^32:=A9 (by omega) (by omega)
   have hMl:=aId (M:=M) (x:=x) (y:=x) (by omega) (by omega)
   obtain⟨t,hCm,ht1,ht2⟩:=bQk (M:=M) (x:=x*x) (y:=a) (by omega) (by omega)
   obtain⟨y,hy⟩:∃y,x*x=y:=⟨_,rfl⟩
   rw[hy]at hMl hCm ht1 ht2 hro
   have hm1:(1:Nat)<=maxLen:=bJ (by decide)
   have hnn:(0:Int)<=(j:Int):=by omega
   have z0:Ah.wrap 0=0:=by decide
   have z1:Ah.wrap 1=1:=by decide
   have hfz:∀H:Hp,∀e,H 4=some (.cells e [.d (.i .u32 (q:Int))])->frz H 8 (.own 4 0 1 1)=some (aB [q]):=λH e hH=>by simp[uY,hH,chunk,aB,aGd]
   simp[-O,-ξ,↓KW,rtS,hps,hnn,hq1,hq2,hr1,hr2,hwj,hsh,hm1,z0,z1]
   refine bE (ds:=[aB [q],.b false]) ?_ hMd ?_
   ·simp[-O,-ξ,↓KW,aB]
   simp[-O,-ξ,↓KW,aN q,aH]
   refine aC hAd ?_
   simp[-O,-ξ,↓KW,aN x,aH]
   refine aC hMl ?_
   simp[-O,-ξ,↓KW,aN y,aH]
   refine aC hCm ?_
   by_cases hya:y<=a
   ·have ht:=ht1.2 hya
    rw[Aq hya]at hro
    simp[-O,-ξ,↓KW,ht,hps,hwp,aN x,aH]
    refine aI (j,x) ⟨by omega,hro,by show x*x<=a;rw[hy];exact hya⟩ (Ck _) ?_
    show ∃ρ,Wk _ (rtS _ _ _) ρ
    unfold rtS
    refine wkQ [1,2,3] ?_ ?_<;>simp[-O,upd,aL,Γ0]
   ·have ht:¬t<=0:=λh=>hya (ht1.1 h)
    rw[Ai hya]at hro
    simp[-O,-ξ,↓KW,ht,hps,hwp,aH]
    refine aI (j,o) ⟨by omega,hro,hoo⟩ (Ck _) ?_
    show ∃ρ,Wk _ (rtS _ _ _) ρ
    unfold rtS
    refine wkQ [1,2,3] ?_ ?_<;>simp[-O,upd,aL,Γ0]
def bQl[M:Mch Aa]{x y:Nat}(hx:x<2^254)(hy:y<2^254):∃r:Int,Spec Aa 23 [bK x,bK y] (.i .i64 r)/\(r<0↔x<y):=by have h:=aUi (M:=M) (x:Int) (y:Int) (by omega) (by omega);rw[cX,cX]at h;exact⟨_,h,by rw[aUc];omega⟩
def cCc[M:Mch Aa](a r:Nat)(ha:a<2^60)(hr:r<2^60)(hR:Spec Aa 105 [bK a] (.tp [bK r,.i .i64 0])) :
  Spec Aa 68 [bK a] (bK (if r*r<a then r+1 else r)):=by
 have hrr:r*r<2^60*2^60:=FG hr hr
 have hMl:=aId (M:=M) (x:=r) (y:=r) (by omega) (by omega)
 obtain⟨t,hCm,ht⟩:=bQl (M:=M) (x:=r*r) (y:=a) (by omega) (by omega)
 have hAd:=aIe (M:=M) (x:=r) (y:=1) (by omega) (by omega)
 have hO:=aAt (M:=M) (x:=1) (by omega)
 generalize r*r=q at *
 generalize hr1:r+1=r1 at *
 refine aX (N:=20) Tryz.func68 ?_
 simp[-O,-ξ,↓KW,aN a,aH]
 refine aC hR ?_
 simp[-O,-ξ,↓KW,aN r,aH]
 refine aC hMl ?_
 simp[-O,-ξ,↓KW,aN q,aH]
 refine aC hCm ?_
 by_cases h:q<a
 ·have ht1:=ht.2 h
  rw[Aq h]
  simp[-O,-ξ,↓KW,ht1,aH]
  refine aC hO ?_
  simp[-O,-ξ,↓KW,aN 1,aH]
  refine aC hAd ?_
  simp[-O,-ξ,↓KW,aN r1,aH]
 ·have ht1:¬t<0:=λh'=>h (ht.1 h')
  rw[Ai h]
  simp[-O,-ξ,↓KW,ht1,aN r,aH]
def hdS(n:Nat)(L:List (List D))(i q:Nat):St:=StL [(1,.ptr 1 0),(2,.ptr 2 0),(3,.d (.i .i64 0)),(4,.ptr 3 0),(5,.d (.i .i64 (i:Int)))] none [.cells 61 [.d (.i .i64 n),.d (.i .i64 n),.d (.sl L)],.cells 31 [.d (.b false),.nil],.cells 31 [.d (.b false),.d (aB (aJ q))]]
def aHz[M:Mch Aa](n:Nat)(A:List (List Int))(b:Nat)(hn:n<=4)(hA:A.length=n)(hr:∀v∈A,v.length=n)(hB:∀v∈A,∀z∈v,z.natAbs<=10)
  (hU:Spec Aa 68 [bK (bG (A.map sqS))] (bK b)):Spec Aa 26 [jF n A] (.tp [bK b,.i .i64 0]):=by
 obtain⟨L,hL,hLl,hLg⟩:∃L,(A.map λv=>[dW v])=L/\L.length=A.length/\∀(i:Nat) (v:List Int),A[i]? = some v->L[i]? = some [dW v]:=⟨_,rfl,by simp,λi v h=>by rw[Ag,h];rfl⟩
 have hO:=aAt (M:=M) (x:=1) (by omega)
 unfold jF
 rw[hL]
 refine aX (N:=29) Tryz.func26 ?_
 simp[-O,-ξ,↓KW]
 refine aC hO ?_
 simp[-O,-ξ,↓KW,aN 1,aH]
 refine aY (τ:=Nat) (λi=>i<=n) (λi=>hdS n L i (bG ((A.take i).map sqS))) (λi=>n-i) 0 (A1 _) ?_ ?_
 ·rw[BD]
  show ∃ρ,Wk _ (hdS _ _ _ 1) ρ
  unfold hdS
  refine wkQ [1,2,3] ?_ ?_<;>simp[-O,upd,aL,Γ0]
 ·intro i hi
  by_cases hlt:i<n
  ·obtain⟨v,hge⟩:∃x,A[i]? = some x:=⟨_,Ab (by omega)⟩
   have hLi:=hLg i _ hge
   have hLi':=bP hLi
   have hiL:i<L.length:=by omega
   have hv:=Aj hge
   have hvl:=hr v hv
   have hLn:=aYe (M:=M) v (by omega) λz hz=>AR (hB v hv z hz) (by decide)
   have hT1:(A.take (i+1)).map sqS=(A.take i).map sqS++[sqS v]:=by rw[A5,hge];simp
   have hb0:=aLw (A:=A.take i) (by rw[AZ];omega) (λw hw=>by rw[hr w (Bw hw)];exact hn) λw hw=>hB w (Bw hw)
   have hb1:sqS v<=4*(10*10):=aHn (by omega) λz hz=>hB v hv z hz
   have hMl:=aId (M:=M) (x:=bG ((A.take i).map sqS)) (y:=sqS v) (by omega) (by omega)
   rw[<-tE,<-hT1]at hMl
   obtain⟨q1,hq1⟩:∃q1,bG ((A.take (i+1)).map sqS)=q1:=⟨_,rfl⟩
   rw[hq1]at hMl
   have hw0:Ah.wrap (i:Int)=i:=aP
   have hw1:Ah.wrap ((i:Int)+1)=((i+1:Nat):Int):=aP
   clear hT1 hb0 hb1
   generalize bG ((A.take i).map sqS)=q at *
   generalize sqS v=s at *
   simp[-O,-ξ,↓KW,hdS,hlt,hiL,hLi,hLi',hw0,aFf,vQ,aBs,aFx,aH]
   refine aC hLn ?_
   simp[-O,-ξ,↓KW,aN s,aH]
   refine aC hMl ?_
   simp[-O,-ξ,↓KW,aN q1,hw1,aH]
   refine aI (i+1) (by omega) (by show n-(i+1)<n-i;omega) ?_
   show ∃ρ,Wk _ (hdS _ _ _ (bG ((A.take (i+1)).map sqS))) ρ
   rw[hq1]
   unfold hdS
   refine wkQ [1,2,3] ?_ ?_<;>simp[-O,upd,aL,Γ0]
  ·have hlt':¬(i:Int)<(n:Int):=by omega
   rw[As (show A.length<=i by omega)]
   generalize bG (A.map sqS)=q at *
   simp[-O,-ξ,↓KW,hdS,hlt,hlt']
   refine aS ?_
   simp[-O,-ξ,↓KW,aN q,aH]
   refine aC hU ?_
   simp[-O,-ξ,↓KW,aN b,aH,dV]
def bFt[M:Mch Aa](a:Nat)(ha:a<2^60):∃c:Nat,c<=61/\a<2^c/\Spec Aa 164 [bK a] (.i .i64 (c:Nat)):=by
 rcases A7 a with h0|h0
 ·subst h0;refine⟨0,by decide,by decide,?_⟩;unfold bK;rw[bZ,aB];have z0:Ah.wrap 0=0:=by decide
  have z1:Ah.wrap (-1)=-1:=by decide
  refine aX (N:=39) Tryz.func164 ?_;simp[-O,-ξ,↓KW,z0,z1];refine aY (τ:=Unit) (λ_=>True) (λ_=>StL [(1,.ptr 1 0),(2,.d (.i .i64 0)),(3,.d (.i .i64 0)),(4,.d (.i .i64 (-1)))] none [.cells 31 [.d (.b false),.d (.sl [])]]) (λ_=>0) () trivial ?_ ?_
  ·refine wkQ [1] ?_ ?_<;>simp[-O,upd,aL,Γ0,z0,z1]
  ·rintro⟨⟩ _;simp[-O,-ξ,↓KW];refine aS ?_;simp[-O,-ξ,↓KW]
 ·rcases A4 a 4294967296 with h1|h1
  ·have hk:a.log2<=31:=by have:=(Nat.log2_lt (n:=a) (k:=32) (by omega)).2 (by omega);omega
   refine⟨32*0+a.log2+1,by omega,by rw[show 32*0+a.log2+1=a.log2+1 by omega];exact FK,?_⟩;have:=aLt (M:=M) [a] 0 a a.log2 (by decide) rfl rfl h1 hk (Nat.log2_self_le (by omega)) FK;rw[<-aJl (by omega) h1]at this;exact this
  ·obtain⟨t,ht⟩:∃t,a/4294967296=t:=⟨_,rfl⟩;have ht0:t≠0:=by omega
   have ht2:t<2^28:=by omega
   have hk:t.log2<28:=(Nat.log2_lt ht0).2 ht2;have hd:aJ a=[a%4294967296,t]:=by rw[gB (by omega),ht,aJl ht0 (by omega)]
   refine⟨32*1+t.log2+1,by omega,?_,?_⟩
   ·have h3:=FK (n:=t);rw[show 32*1+t.log2+1=t.log2+1+32 by omega,Fq];generalize 2^(t.log2+1)=X at *;omega
   ·have:=aLt (M:=M) [a%4294967296,t] 1 t t.log2 (by decide) rfl rfl (by omega) (by omega) (Nat.log2_self_le ht0) FK;rw[<-hd]at this;exact this
def aLn[M:Mch Aa](n:Nat)(A:List (List Int))(hn:n<=4)(hA:A.length=n)(hr:∀v∈A,v.length=n)(hB:∀v∈A,∀z∈v,z.natAbs<=10) :
  ∃b:Nat,bVk (bG (A.map sqS)) b/\b<=160000/\Spec Aa 26 [jF n A] (.tp [bK b,.i .i64 0]):=by
 have hP:=aLw (by omega) (λv hv=>by rw[hr v hv];exact hn) hB
 obtain⟨c,hc,hac,hBt⟩:=bFt (M:=M) (bG (A.map sqS)) (by omega)
 have hR:=bQj (bG (A.map sqS)) c (by omega) hc hBt
 have hok:=aQt (bG (A.map sqS)) ((c+1)/2+1) 0 (A1 _) (by
  rw[AA,<-Fq];exact A6 hac (Ci (by decide) (by omega)))
 generalize rtF (bG (A.map sqS)) ((c+1)/2+1) 0=r at *
 have hr60:r<2^60:=by
  rcases A4 r (2^60)with h|h
  ·exact h
  ·have:=A9 h h;omega
 have hup:=bSi hok.1 hok.2
 exact⟨_,hup,bSj hup hP,aHz n A _ hn hA hr hB (cCc _ r (by omega) hr60 hR)⟩
def dRp(l:List (Nat×Nat×Nat)):List D:=(l.map λx=>[.i .i64 (x.1:Int),.i .u64 (x.2.1:Int),.i .u64 (x.2.2:Int)]).flatten
def vM(l:List (Nat×Nat×Nat)):(dRp l).length=l.length*3:=by
 unfold dRp;induction l with
 |nil=>rfl
 |cons x l ih=>simp only[BO,CG,Bc,ih,Ak,Aw];omega
def aJn(a b:List (Nat×Nat×Nat)):dRp (a++b)=dRp a++dRp b:=by simp[dRp]
def bUb(w p v:Nat):dRp [(w,p,v)]=[.i .i64 w,.i .u64 p,.i .u64 v]:=rfl
def vL{l:List (Nat×Nat×Nat)}{n:Nat}(h:l.length=n):((dRp l).map AV.d).take (n*3)=(dRp l).map AV.d:=As (by rw[Bl,vM,h];exact Ay _)
def aGj{l:List (Nat×Nat×Nat)}{n:Nat}(h:l.length=n):chunk 3 n (dRp l)=l.map λx=>[D.i .i64 (x.1:Int),D.i .u64 (x.2.1:Int),D.i .u64 (x.2.2:Int)]:=by
 subst h;have:=aCr (k:=3) (by decide) (l.map λx=>[D.i .i64 (x.1:Int),D.i .u64 (x.2.1:Int),D.i .u64 (x.2.2:Int)]) (λx hx=>by
  obtain⟨y,_,rfl⟩:=AM.1 hx;rfl)
 rwa [Bl]at this
def bFj(R C:Nat)(V:List Int):D:=.ag [.i .u8 R,.i .u8 C,aVv V]
def aYf[M:Mch Aa](R C:Nat)(V:List Int)(hR:R<256)(hb:∀x∈V,-128<=x/\x<=127)(hll:V.length<=9223372036854775807) :
  Spec Aa 25 [bFj R C V] (jF (R%5) (sqM V (R%5))):=by
 have hF:=aYg (M:=M) V (R%5) (by omega) hb hll
 obtain⟨L,hL,_,_⟩:=aNu V
 unfold bFj
 rw[hL]at hF ⊢
 obtain⟨n,hn⟩:∃n,R%5=n:=⟨_,rfl⟩
 rw[hn]at hF ⊢
 have h1:(R:Int).tmod 5=n:=by rw[Ca (by omega)];omega
 have h2:(R:Int)%5=n:=by omega
 have hw:IntKind.u8.wrap (n:Int)=n:=by unfold E2;simp[CK,Et];omega
 have hw2:Ah.wrap (n:Int)=n:=aP
 generalize sqM V n=A at *
 refine aX (N:=14) Tryz.func25 ?_
 simp[-O,-ξ,↓KW,h1,h2,hw,hw2]
 refine aC hF ?_
 simp[-O,-ξ,↓KW,jF]
def bFn[M:Mch Aa](n:Nat)(A:List (List Int))(hn:n<=4)(hA:A.length=n)(hAr:∀v∈A,v.length=n)(hB:∀v∈A,∀z∈v,z.natAbs<=10) :
  Spec Aa 30 [jF n A] (encZ (kG n A)):=by
 have hD:=bYi (M:=M) n A (kG n A) hn hA hAr hB (bUe hA)
 generalize kG n A=d at *
 unfold jF at hD ⊢
 generalize(A.map λv=>[dW v])=L at *
 refine aX (N:=11) Tryz.func30 ?_
 simp[-O,-ξ,↓KW]
 refine aC hD ?_
 simp[-O,-ξ,↓KW,bB d,aH]
def bYj[M:Mch Aa](p a b:Nat)(hp:0<p)(ha:a<4294967296)(hb:b<4294967296):Spec Aa 76 [.i .u64 p,.i .u64 a,.i .u64 b] (.i .u64 ((a+b)%p:Nat)):=by
 have hw:AB.wrap ((a:Int)+b)=((a+b:Nat):Int):=by rw[EA];omega
 obtain⟨s,hs⟩:∃s,a+b=s:=⟨_,rfl⟩;obtain⟨q,hq⟩:∃q,s%p=q:=⟨_,rfl⟩;have hqb:q<p:=by rw[<-hq];exact BF _ hp
 have hqs:q<=s:=by rw[<-hq];exact Nat.mod_le _ _
 rw[hs]at hw ⊢;have h1:(s:Int).tmod p=q:=by rw[Ca (by omega),<-hq];rfl
 have h2:(s:Int)%p=q:=by rw[<-hq];rfl
 have hw2:AB.wrap (q:Int)=q:=by rw[EA];omega
 have hp0:((p:Int)==0)=false:=by simp;omega
 have hp1:¬p=0:=by omega
 rw[hq];refine aX (N:=12) Tryz.func76 ?_;simp[-O,-ξ,↓KW,hw,h1,h2,hw2,hp0,hp1]
def tuS(L:List (List D))(n i:Nat)(T:List Rp3):St:=StL [(0,.d (.sl L)),(1,.d (.i .i64 (n:Int))),(5,.own 1 0 T.length 3),(6,.d (.i .i64 (i:Int)))] none [.cells 78 ((dRp T).map .d)]
def aPv[M:Mch Aa](l:List Rp3)(n:Nat)(hl:l.length<=1000)(hn:n<=1000):Spec Aa 29 [eZ l,.i .i64 n] (eZ (rY l n)):=by
 obtain⟨L,hL,hLl,hLg⟩:=kA l;rw[hL];refine aX (N:=27) Tryz.func29 ?_;simp[-O,-ξ,↓KW];refine aY (τ:=Nat) (λi=>i<=l.length) (λi=>tuS L n i ((rY l n).take i)) (λi=>l.length-i) 0 (A1 _) ?_ ?_
 ·rw[BD];show ∃ρ,Wk _ (tuS _ _ _ []) ρ;unfold tuS;refine wkQ [1] ?_ ?_<;>simp[-O,upd,aL,Γ0,dRp]
 ·intro i hi;have hTl:((rY l n).take i).length=i:=by rw[AZ,aKp];omega
  by_cases hlt:i<l.length
  ·obtain⟨j,hj⟩:∃j,(i+n)%l.length=j:=⟨_,rfl⟩;have hjl:j<l.length:=hj ▸ BF _ (by omega);obtain⟨⟨w,p,v⟩,hge⟩:∃x,l[j]? = some x:=⟨_,Ab hjl⟩;have hLi:=hLg j _ hge;simp only at hLi;have hLi':=bP hLi;have hiL:i<L.length:=by omega
   have hjL:j<L.length:=by omega
   have hT1:(rY l n).take (i+1)=(rY l n).take i++[(w,p,v)]:=by rw[A5];congr 1;unfold rY;rw[Ag,Bq hlt,AU,hj,Ac,hge];rfl
   have hw0:Ah.wrap ((i:Int)+(n:Int))=((i+n:Nat):Int):=aP;obtain⟨t,ht⟩:∃t,i+n=t:=⟨_,rfl⟩;rw[ht]at hw0 hj;have hL0:((L.length:Int)==0)=false:=by rw[CO];omega
   have hL1:¬L.length=0:=by omega
   have hL2:¬L=[]:=λh=>by rw[h]at hL1;exact hL1 rfl
   have hr1:(t:Int).tmod (L.length:Int)=j:=by rw[Ca (by omega),<-hj,hLl];rfl
   have hr2:(t:Int)%(L.length:Int)=j:=by rw[<-hj,hLl];rfl
   have hwj:Ah.wrap (j:Int)=j:=aP;have hw1:Ah.wrap ((i:Int)+1)=((i+1:Nat):Int):=aP;have hbb:(i+1)*24<=140737488355328/\i+1<=1099511627776:=by omega
   generalize(rY l n).take i=T at *;simp[-O,-ξ,↓KW,tuS,hiL,hjL,hLi,hLi',hw0,hwj,hL0,hL1,hL2,hr1,hr2,vM,hTl,hbb,bJ,hw1];refine aI (i+1) (by omega) (by show l.length-(i+1)<l.length-i;omega) ?_;show ∃ρ,Wk _ (tuS _ _ _ _) ρ;rw[hT1];unfold tuS;refine wkQ [3] ?_ ?_<;>simp[-O,upd,aL,Γ0,Bo,bM,aJn,bUb,Bc,hTl]
  ·have hiL:¬i<L.length:=by omega
   rw[As (show(rY l n).length<=i by rw[aKp];omega)]at hTl ⊢;generalize rY l n=T at *;have e1:=vL hTl;have e2:=aGj hTl;have e3:=vM T;rw[hTl]at e3;simp[-O,-ξ,↓KW,tuS,hiL];exact aS (by simp[-O,-ξ,↓KW,hTl,e1,e2,e3,eZ])
def bJm(l:List Nat):D:=.sl (l.map λ(n:Nat)=>[D.i .u8 (n:Int)])
def bJl(l:List Nat):∃L,bJm l=.sl L/\L.length=l.length/\∀(i n:Nat),l[i]? = some n->L[i]? = some [.i .u8 (n:Int)]:=⟨_,rfl,by simp,λi n h=>by rw[Ag,h];rfl⟩
def bJk(l:List Nat):∃L,bU l=.sl L/\L.length=l.length/\∀(i n:Nat),l[i]? = some n->L[i]? = some [.i .u64 (n:Int)]:=⟨_,rfl,by simp,λi n h=>by rw[Ag,h];rfl⟩
def vJ(N:Nat)(At By:List Nat)(T:Nat):D:=.ag [.i .u8 N,bJm At,bU By,.i .u8 T]
def bUc{T:List Rp3}{k:Nat}{w p v:Nat}(h:T[k]? = some (w,p,v)):(dRp T)[k*3+1]? = some (.i .u64 p)/\(dRp T)[k*3+2]? = some (.i .u64 v):=by
 induction T generalizing k with
 |nil=>simp at h
 | cons x T ih =>
  have e:dRp (x::T)=dRp [x]++dRp T:=by rw[<-aJn];rfl
  have e3:(dRp [x]).length=3:=rfl;rcases k with _|k
  ·simp at h;subst h;exact⟨rfl,rfl⟩
  ·have:=ih (k:=k) (by simpa using h);rw[e,AJ (by omega),AJ (by omega),e3,show(k+1)*3+1-3=k*3+1 by omega,show(k+1)*3+2-3=k*3+2 by omega];exact this
def bUa{T:List Rp3}{k:Nat}{w p v u:Nat}(h:T[k]? = some (w,p,v)):(dRp T).set (k*3+2) (.i .u64 (u:Int))=dRp (T.set k (w,p,u)):=by
 induction T generalizing k with
 |nil=>simp at h
 | cons x T ih =>
  have e:∀y T,dRp (y::T)=dRp [y]++dRp T:=λy T=>by rw[<-aJn];rfl
  rcases k with _|k
  ·simp at h;subst h;rw[CL,e,e];rfl
  ·have:=ih (k:=k) (by simpa using h);rw[Fl,e,e _ (T.set k _),<-this,Da _ _ (by show 3<=_;omega)];congr 2;show(k+1)*3+2-3=k*3+2;omega
def aOa(ys:List (Nat×Nat)):jQ [] ys=[]:=DI.1 (by rw[vO];rfl)
def coS(N n tn:Nat)(A B:List (List D))(i:Nat)(T:List Rp3):St:=StL [(2,.d (.i .i64 (n:Int))),(4,.ptr 1 0),(7,.own 2 0 T.length 3),(8,.d (.i .i64 (i:Int)))] none [.cells 58 [.d (.i .u8 N),.d (.sl A),.d (.sl B),.d (.i .u8 tn)],.cells 78 ((dRp T).map .d)]
def aEf[M:Mch Aa](l:List Rp3)(N tn n:Nat)(At By:List Nat)(d:Int)(k0:Nat)(hl:l.length<=1000)(hn:n<=1000)(hA:∀x∈At,x<256)(hB:∀x∈By,x<18446744073709551616)
  (hAl:At.length<=9223372036854775807) (hBl:By.length<=9223372036854775807) (hG:Gd d k0 l) (hg:aPd l):Spec Aa 28 [eZ l,vJ N At By tn,.i .i64 n] (eZ (jQ l ((At.zip By).take n))):=by
 obtain⟨L,hL,hLl,hLg⟩:=kA l
 obtain⟨A,hAe,hAL,hAg⟩:=bJl At
 obtain⟨B,hBe,hBL,hBg⟩:=bJk By
 obtain⟨Z,hZ⟩:∃Z,(At.zip By).take n=Z:=⟨_,rfl⟩
 have hZl:Z.length=min n (min At.length By.length):=by rw[<-hZ,AZ,List.length_zip]
 have hZg:∀i,i<Z.length->∃a b,At[i]? = some a/\By[i]? = some b/\Z[i]? = some (a,b):=λi hi=>by
  have h1:i<At.length:=by omega
  have h2:i<By.length:=by omega
  refine⟨At[i],By[i],Ab h1,Ab h2,?_⟩;rw[<-hZ,Bt,Aq (by omega),List.getElem?_zip_eq_some];exact⟨Ab h1,Ab h2⟩
 unfold vJ
 rw[hL,hAe,hBe,hZ]
 have hfl:(Cj (Cj AV.d) L).flatten=(dRp l).map AV.d:=by
  have:L=l.map λx=>[D.i .i64 (x.1:Int),D.i .u64 (x.2.1:Int),D.i .u64 (x.2.2:Int)]:=by unfold eZ at hL;injection hL with hL;exact hL.symm
  rw[this,dRp,List.map_flatten]
 have hok:fH 3 L=true:=by
  have:L=l.map λx=>[D.i .i64 (x.1:Int),D.i .u64 (x.2.1:Int),D.i .u64 (x.2.2:Int)]:=by unfold eZ at hL;injection hL with hL;exact hL.symm
  rw[this];rcases l with _|⟨x,l⟩<;>rfl
 have hone:(∀x:D,x∈dRp l->one (AV.d x)=true)=True:=eq_true λx hx=>by unfold dRp at hx;obtain⟨y,hy,hx⟩:=List.mem_flatten.1 hx;obtain⟨z,_,rfl⟩:=AM.1 hy;simp only[Bn,E7,Fg]at hx;rcases hx with rfl|rfl|rfl<;>rfl
 have hbb:l.length*24<=140737488355328/\l.length<=1099511627776:=by omega
 refine aX (N:=77) Tryz.func28 ?_
 simp[-O,-ξ,↓KW,hLl,hfl,hbb,bJ,hok,hone]
 refine aY (τ:=Nat) (λi=>i<=Z.length) (λi=>coS N n tn A B i (jQ l (Z.take i))) (λi=>Z.length-i) 0 (A1 _) ?_ ?_
 ·rw[BD]
  show ∃ρ,Wk _ (coS _ _ _ _ _ _ l) ρ
  unfold coS
  refine wkQ [1,3] ?_ ?_<;>simp[-O,upd,aL,Γ0]
 ·intro i hi
  have hTl:(jQ l (Z.take i)).length=l.length:=vO _ _
  have hfin:∀{P:Prop},(¬(i<Z.length/\l≠[]))->jQ l (Z.take i)=jQ l Z:=λh=>by
   by_cases h':i<Z.length
   ·have:l=[]:=BW λh2=>h ⟨h',h2⟩
    rw[this,aOa,aOa]
   ·rw[As (by omega)]
  by_cases hgo:i<Z.length/\l≠[]
  ·obtain⟨hlt,hne⟩:=hgo
   have hl0:0<l.length:=Ep.2 hne
   obtain⟨a,b,ha,hb,hz⟩:=hZg i hlt
   have hAi:=hAg i a ha
   have hAi':=bP hAi
   have hBi:=hBg i b hb
   have hBi':=bP hBi
   have hiA:i<A.length:=by omega
   have hiB:i<B.length:=by omega
   have hin:(i:Int)<(n:Int):=by omega
   have hin':i<n:=by omega
   have hGT:=aJs (ys:=Z.take i) hG
   have hgT:∀x∈jQ l (Z.take i),x.2.1∈P10:=λx hx=>by obtain⟨y,hy,e⟩:=AM.1 (aOb hx);rw[<-e];exact hg y hy
   obtain⟨k,hk⟩:∃k,a%l.length=k:=⟨_,rfl⟩
   have hkl:k<l.length:=hk ▸ BF _ hl0
   have hcs:jQ l (Z.take (i+1))=yS (jQ l (Z.take i)) (a,b):=by rw[A5,hz];exact bAh _ _ _
   obtain⟨T,hT⟩:∃T,jQ l (Z.take i)=T:=⟨_,rfl⟩
   rw[hT]at hcs hTl hGT hgT
   obtain⟨⟨w,p,v⟩,hge⟩:∃x,T[k]? = some x:=⟨_,Ab (by omega)⟩
   have hmem:=Aj hge
   have hpb:=nV (hgT _ hmem)
   have hvp:=hGT.good.ok.2 _ hmem
   simp only at hpb hvp
   have hcs2:yS T (a,b)=T.set k (w,p,(v+b%p)%p):=by unfold yS;simp only;rw[hTl,hk,Ac,hge];rfl
   have hbm:b%p<p:=BF _ (by omega)
   have hAd:=bYj (M:=M) p v (b%p) (by omega) (by omega) (by omega)
   obtain⟨c,hc⟩:∃c,b%p=c:=⟨_,rfl⟩
   obtain⟨u,hu⟩:∃u,(v+c)%p=u:=⟨_,rfl⟩
   rw[hc]at hAd hcs2 hbm
   rw[hu]at hAd hcs2
   have hc1:(b:Int).tmod (p:Int)=c:=by rw[Ca (by omega),<-hc];rfl
   have hc2:(b:Int)%(p:Int)=c:=by rw[<-hc];rfl
   have hk1:(a:Int).tmod (l.length:Int)=k:=by rw[Ca (by omega),<-hk];rfl
   have hk2:(a:Int)%(l.length:Int)=k:=by rw[<-hk];rfl
   have hwa:Ah.wrap (a:Int)=a:=wrap_i64 (by omega) (by have:=hA a (Aj ha);omega)
   have hwk:Ah.wrap (k:Int)=k:=aP
   have hwc:AB.wrap (c:Int)=c:=by rw[EA];omega
   have hwi:Ah.wrap (i:Int)=i:=aP
   have hw1:Ah.wrap ((i:Int)+1)=((i+1:Nat):Int):=aP
   have hl1:((l.length:Int)==0)=false:=by rw[CO];omega
   have hl2:¬l.length=0:=by omega
   have hp1:((p:Int)==0)=false:=by rw[CO];omega
   have hp2:¬p=0:=by omega
   obtain⟨hg1,hg2⟩:=bUc hge
   have hst:=bUa (u:=u) hge
   rw[<-hcs2,<-hcs]at hst
   simp[-O,-ξ,↓KW,coS,hT,hiA,hiB,hin,hin',hTl,hl0,hAi,hAi',hBi,hBi',hl1,hl2,hne,hk1,hk2,hwa,hwk,hwc,hwi,hp1,hp2,hc1,hc2,hg1,hg2,hkl]
   refine aC hAd ?_
   have hdl:=vM T
   rw[hTl]at hdl
   have hk3:k*3+2<l.length*3:=by omega
   have hk4:k*3+3<=l.length*3:=by omega
   have hly:lay (Cj AV.d (dRp T)) (k*3+2) [AV.d (D.i .u64 (u:Int))]=Cj AV.d (dRp (jQ l (Z.take (i+1)))):=by rw[eQ _ _ _ (by omega),hst]
   obtain⟨T1,hT1⟩:∃T1,jQ l (Z.take (i+1))=T1:=⟨_,rfl⟩
   have hT1l:T1.length=l.length:=by rw[<-hT1];exact vO _ _
   rw[hT1]at hly
   simp[-O,-ξ,↓KW,hdl,hk3,hk4,hly,hw1,hkl,hTl,hl0,hwk,hwi]
   refine aI (i+1) (by omega) (by show Z.length-(i+1)<Z.length-i;omega) ?_
   show ∃ρ,Wk _ (coS _ _ _ _ _ _ (jQ l (Z.take (i+1)))) ρ
   rw[hT1]
   unfold coS
   refine wkQ [1,2] ?_ ?_<;>simp[-O,upd,aL,Γ0,hT1l]
  ·rw[hfin (P:=True) hgo]at hTl ⊢
   obtain⟨T,hT⟩:∃T,jQ l Z=T:=⟨_,rfl⟩
   rw[hT]at hTl ⊢
   have e1:=vL hTl
   have e2:=aGj hTl
   have e3:=vM T
   rw[hTl]at e3
   by_cases a1:i<A.length
   ·by_cases a2:i<B.length
    ·by_cases a3:i<n
     ·have hl0:l.length=0:=by refine DI.2 (BW λh=>hgo ⟨by omega,h⟩)
      rw[hl0]at hTl e1 e2 e3
      have hTn:=DI.1 hTl
      simp[-O,-ξ,↓KW,coS,a1,a2,a3,hTl]
      exact aS (by simp[-O,-ξ,↓KW,hTl,e1,e2,e3,eZ,hTn])
     ·simp[-O,-ξ,↓KW,coS,a1,a2,a3,hTl]
      exact aS (by simp[-O,-ξ,↓KW,hTl,e1,e2,e3,eZ])
    ·simp[-O,-ξ,↓KW,coS,a1,a2,hTl]
     exact aS (by simp[-O,-ξ,↓KW,hTl,e1,e2,e3,eZ])
   ·simp[-O,-ξ,↓KW,coS,a1,hTl]
    exact aS (by simp[-O,-ξ,↓KW,hTl,e1,e2,e3,eZ])
end Go.Am
end
section
open List renaming map_map->O,mapM_map->ξ
open Go Go.Am Go.Proofs
namespace Go.Am
open Go.ChangeShapes Go.WideShapes Go.ChangeAt Go.RowKit
def cBk:Aa.cellsOf 55=3:=by kernel_rfl
def bWu:Aa.cellsOf 58=4:=by kernel_rfl
def bWs:Aa.cellsOf 5=1:=by kernel_rfl
def cEf:Aa.cellsOf 25=1:=by kernel_rfl
def cBj:Aa.cellsOf 51=1:=by kernel_rfl
def cBm:Aa.cellsOf 53=1:=by kernel_rfl
def cBl:Aa.cellsOf 56=1:=by kernel_rfl
def bWt:Aa.cellsOf 46=1:=by kernel_rfl
def cCz{α:Type}{l:List α}(h:l.length=3):∃a b c,l=[a,b,c]:=by
 match l,h with
 |[a,b,c],_=>exact⟨a,b,c,rfl⟩
def cCy{α:Type}{l:List α}(h:l.length=4):∃a b c d,l=[a,b,c,d]:=by
 match l,h with
 |[a,b,c,d],_=>exact⟨a,b,c,d,rfl⟩
section
variable {H:Type} {enc:TypeId×Value->H} {w:World} {sp:Nat->Bool} {held:Bool}
def aIh{cs:List Value}{x:DataW H×List MemPlace}{fuel:Nat}(h:DataW.trod enc Aa w 0 sp held fuel 5 cs=some x):∃n:Nat,cs=[.int .u8 n]/\n<256:=by obtain⟨a,q1,_,w1⟩:=DataW.trod_int Tryz.underlying5 h;have:=bCi w1;exact⟨a.toNat,by rw[q1];congr 2;omega,by omega⟩
def aRd{t e:TypeId}{cs:List Value}{x:DataW H×List MemPlace}{fuel:Nat}(k:IntKind)(lo hi:Int)(ht:Aa.underlying t=some (.slice e))(he:Aa.underlying e=some (.int k))(ce:Aa.cellsOf e=1)
  (hw:∀n:Int,(Lit.int k n).wf=true->lo<=n/\n<=hi) (hf:DataW.trod enc Aa w 0 sp held fuel t cs=some x):∃(v:Value) (m:List Int),cs=[v]/\VD (λb=>b<w.heap.size) w (.sl (m.map λn=>[D.i k n])) v/\(∀n∈m,lo<=n/\n<=hi)/\m.length<=9223372036854775807:=by
 obtain⟨v,m,h1,h2,h3,h4⟩:=aYw ht (by omega) (λn:Int=>[D.i k n]) (λn=>lo<=n/\n<=hi) (λfuel cs x h=>by
  obtain⟨a,q1,_,w1⟩:=DataW.trod_int he h;subst q1;refine⟨a,hw a w1,by simp[ce],λk c v hk hv=>?_⟩;rcases k with _|k
  ·simp at hk hv;subst hk;subst hv;exact .i _ _
  ·simp at hk) hf
 exact⟨v,m,h1,h2,h3,h4⟩
def cCo{k:IntKind}{m:List Int}(h:∀n∈m,(0:Int)<=n):(m.map λn=>[D.i k n])=(m.map F3).map λn:Nat=>[D.i k (n:Int)]:=by
 rw[Dd];refine CP λn hn=>?_
 have:=h n hn;show[D.i k n]=[D.i k ((n.toNat:Nat):Int)];rw[BV this]
def bXf{n:Int}(h:(Lit.int .i8 n).wf=true):-128<=n/\n<=127:=by have hmin:IntKind.i8.min=-128:=rfl;have hmax:IntKind.i8.max=127:=rfl;simp only[Lit.wf,A8,BC]at h;omega
def bNs{n:Int}(h:(Lit.int .u64 n).wf=true):0<=n/\n<=18446744073709551615:=by have hmin:AB.min=0:=rfl;have hmax:AB.max=18446744073709551615:=rfl;simp only[Lit.wf,A8,BC]at h;omega
def bGb{v:Value}{d:DataW H}{ps:List MemPlace}{cs:Array Value}(hv:v=.agg cs)(h:DataW.Trod enc Aa w 0 sp held 55 v d ps) :
  ∃(R C:Nat) (V:List Int),VD (λb=>b<w.heap.size) w (bFj R C V) v/\R<256/\(∀x∈V,-128<=x/\x<=127)/\V.length<=9223372036854775807:=by
 subst hv
 obtain⟨fuel,hf⟩:=h
 obtain⟨xs,n,_,_,hl,hlen,hfs⟩:=DataW.trod_struct Tryz.underlying55 hf
 rw[cBk]at hl
 have h0:=hfs 0 { name := "R",type:=5,offset:=0,embedded:=false,tag := "",pkgPath := "",byteOffset:=0 } rfl
 have h1:=hfs 1 { name := "C",type:=5,offset:=1,embedded:=false,tag := "",pkgPath := "",byteOffset:=1 } rfl
 have h2:=hfs 2 { name := "V",type:=53,offset:=2,embedded:=false,tag := "",pkgPath := "",byteOffset:=8 } rfl
 obtain⟨x0,hx0⟩:∃x,xs[0]? = some x:=⟨_,Ab (by rw[hlen];decide)⟩
 obtain⟨x1,hx1⟩:∃x,xs[1]? = some x:=⟨_,Ab (by rw[hlen];decide)⟩
 obtain⟨x2,hx2⟩:∃x,xs[2]? = some x:=⟨_,Ab (by rw[hlen];decide)⟩
 rw[hx0]at h0;rw[hx1]at h1;rw[hx2]at h2
 simp only[Ed]at h0 h1 h2 hl
 obtain⟨cs⟩:=cs
 simp only at h0 h1 h2 hl
 obtain⟨a,b,c,rfl⟩:=cCz hl
 simp only[bWs,cBm,D4,List.drop_succ_cons,DO,BD]at h0 h1 h2
 obtain⟨R,e0,hR⟩:=aIh h0
 obtain⟨C,e1,_⟩:=aIh h1
 obtain⟨u,V,e2,hu,hg,hL⟩:=aRd .i8 (-128) 127 Tryz.underlying53 Tryz.underlying25 cEf (λn h=>bXf h) h2
 injection e0 with e0;injection e1 with e1;injection e2 with e2
 subst e0;subst e1;subst e2
 refine⟨R,C,V,.ag _ _ rfl λk d v hk hv=>?_,hR,hg,hL⟩
 rcases k with _|_|_|k
 ·simp at hk hv;subst hk;subst hv;exact .i _ _
 ·simp at hk hv;subst hk;subst hv;exact .i _ _
 ·simp at hk hv;subst hk;subst hv;exact hu
 ·simp at hk
def bGc{v:Value}{d:DataW H}{ps:List MemPlace}{cs:Array Value}(hv:v=.agg cs)(h:DataW.Trod enc Aa w 0 sp held 58 v d ps) :
  ∃(N tn:Nat) (At By:List Nat),VD (λb=>b<w.heap.size) w (vJ N At By tn) v/\N<256/\tn<256/\(∀x∈At,x<256)/\(∀x∈By,x<18446744073709551616)/\At.length<=9223372036854775807/\By.length<=9223372036854775807:=by
 subst hv
 obtain⟨fuel,hf⟩:=h
 obtain⟨xs,n,_,_,hl,hlen,hfs⟩:=DataW.trod_struct Tryz.underlying58 hf
 rw[bWu]at hl
 have h0:=hfs 0 { name := "N",type:=5,offset:=0,embedded:=false,tag := "",pkgPath := "",byteOffset:=0 } rfl
 have h1:=hfs 1 { name := "At",type:=56,offset:=1,embedded:=false,tag := "",pkgPath := "",byteOffset:=8 } rfl
 have h2:=hfs 2 { name := "By",type:=46,offset:=2,embedded:=false,tag := "",pkgPath := "",byteOffset:=32 } rfl
 have h3:=hfs 3 { name := "Turn",type:=5,offset:=3,embedded:=false,tag := "",pkgPath := "",byteOffset:=56 } rfl
 obtain⟨x0,hx0⟩:∃x,xs[0]? = some x:=⟨_,Ab (by rw[hlen];decide)⟩
 obtain⟨x1,hx1⟩:∃x,xs[1]? = some x:=⟨_,Ab (by rw[hlen];decide)⟩
 obtain⟨x2,hx2⟩:∃x,xs[2]? = some x:=⟨_,Ab (by rw[hlen];decide)⟩
 obtain⟨x3,hx3⟩:∃x,xs[3]? = some x:=⟨_,Ab (by rw[hlen];decide)⟩
 rw[hx0]at h0;rw[hx1]at h1;rw[hx2]at h2;rw[hx3]at h3
 simp only[Ed]at h0 h1 h2 h3 hl
 obtain⟨cs⟩:=cs
 simp only at h0 h1 h2 h3 hl
 obtain⟨a,b,c,e,rfl⟩:=cCy hl
 simp only[bWs,cBl,bWt,D4,List.drop_succ_cons,DO,BD]at h0 h1 h2 h3
 obtain⟨N,e0,hN⟩:=aIh h0
 obtain⟨T,e3,hT⟩:=aIh h3
 obtain⟨u,At,e1,hu,hg,hL⟩:=aRd .u8 0 255 Tryz.underlying56 Tryz.underlying5 bWs (λn h=>bCi h) h1
 obtain⟨u',By,e2,hu',hg',hL'⟩:=aRd .u64 0 18446744073709551615 Tryz.underlying46 Tryz.underlying51 cBj (λn h=>bNs h) h2
 injection e0 with e0;injection e1 with e1;injection e2 with e2;injection e3 with e3
 subst e0;subst e1;subst e2;subst e3
 rw[cCo λn hn=>(hg n hn).1]at hu
 rw[cCo λn hn=>(hg' n hn).1]at hu'
 refine⟨N,T,At.map F3,By.map F3,.ag _ _ rfl λk d v hk hv=>?_,hN,hT,λx hx=>?_,λx hx=>?_,by rw[Bl];exact hL,by rw[Bl];exact hL'⟩
 ·rcases k with _|_|_|_|k
  ·simp at hk hv;subst hk;subst hv;exact .i _ _
  ·simp at hk hv;subst hk;subst hv;exact hu
  ·simp at hk hv;subst hk;subst hv;exact hu'
  ·simp at hk hv;subst hk;subst hv;exact .i _ _
  ·simp at hk
 ·obtain⟨y,hy,rfl⟩:=AM.1 hx
  have:=hg y hy;omega
 ·obtain⟨y,hy,rfl⟩:=AM.1 hx
  have:=hg' y hy;omega
end
end Go.Am
end
section
open List renaming map_map->O,mapM_map->ξ
namespace Go.Am
def cAq(ops:Array Oper)(i j:Nat):Bool:=match ops[i]? with|some o=>o.after.any λe=>Region.binds .any e&&e.on==j|none=>false
def bWg(ops:Array Oper):Bool:=(AN ops.size).all λi=>match ops[i]? with|some o=>o.after.all λe=>!Region.binds .any e||decide (e.on<i)|none=>true
def unl(l:Array Bool):Nat:=l.toList.count false
def bOd{l:Array Bool}{i:Nat}:l.getD i true=false↔l.toList[i]? = some false:=by
 rw[Au,Array.getElem?_toList];cases l[i]? with
 |none=>simp
 |some b=>simp
def bOc{l:Array Bool}{i:Nat}(h:l.getD i true=false):unl (l.setIfInBounds i true)<unl l:=by rw[bOd]at h;unfold unl;obtain⟨hi,he⟩:=Ao.1 h;have h1:0<l.toList.count false:=List.count_pos_iff.2 (Aj h);rw[Array.toList_setIfInBounds,List.count_set hi,he,Aq (by rfl),Ai (by decide)];omega
def bCw{l:Array Bool}(h:unl l=0)(i:Nat)(hi:i<l.size):l.getD i false=true:=by
 unfold unl at h;rw[List.count_eq_zero]at h;rw[Au,Al hi,AT];cases hb:l[i]with
 |true=>rfl
 |false=>exact absurd (by rw[<-hb];simp) h
def aZt{l:Array Bool}{i:Nat}(hi:i<l.size)(h:¬l.getD i true=false):l.getD i false=true:=by rw[Au,Al hi,AT]at h ⊢;simpa using h
section
variable {P:Program} [M:Mch P] {ops:Array Oper} {k:St->Prop}
def bGf(T:(Nat->Prop)->St->Prop)(hb:bWg ops=true)
  (hstep:∀(L:Nat->Prop) (i:Nat) (o:Oper),ops[i]? = some o->¬L i->(∀j,cAq ops i j=true->L j)->∀σ,T L σ->OWd P ops [o] σ [] (λσ' con=>aEk σ' con (λσ2=>T (λj=>L j\/j=i) σ2) .mk) .mk)
  (hend:∀L σ,(∀i,i<ops.size->L i)->T L σ->k σ) :
  ∀(fuel:Nat) (listed:Array Bool) (σ:St),listed.size=ops.size->unl listed<=fuel->T (λj=>listed.getD j false=true) σ->OA P ops k fuel listed σ
 | 0,listed,σ,hs,hu,hT=>by
  have hall:∀i,i<ops.size->listed.getD i false=true:=λi hi=>bCw (by omega) i (by omega)
  refine⟨?_,hend _ σ hall hT⟩;refine List.eq_nil_iff_forall_not_mem.2 λj hj=>?_
  obtain⟨h1,o,ho,_⟩:=mem_ready.1 hj;have hj:j<ops.size:=(AX.1 ho).1;have h2:=hall j hj;rw[Au,Al (by omega)]at h1 h2;simp at h1 h2;rw[h1]at h2;cases h2
 | fuel+1,listed,σ,hs,hu,hT=>by
  refine⟨λh0=>hend _ σ (λi=>?_) hT,λi hi=>?_⟩
  ·refine Nat.strongRecOn i λi ih hi=>?_
   refine BW λhno=>?_
   have hun:listed.getD i true=false:=BW λh=>hno (aZt (by omega) h)
   have:i∈Region.ready .any ops listed:=mem_ready.2 ⟨hun,ops[i],Al hi,λe he hbd=>by
    have h1:=A3.1 hb i (Cr.2 hi);rw[Al hi]at h1;simp only[Array.all_eq_true']at h1;have h2:=h1 e he;rw[hbd]at h2;have h3:e.on<i:=by simpa using h2
    exact ih e.on h3 (by omega)⟩
   rw[h0]at this;cases this
  ·obtain⟨h1,o,ho,hall⟩:=mem_ready.1 hi;simp only[ho];have hii:i<listed.size:=by rw[hs];exact(AX.1 ho).1
   have hL:(λj=>listed.getD j false=true\/j=i)=λj=>(listed.setIfInBounds i true).getD j false=true:=by
    funext j;refine propext ?_;by_cases hji:j=i
    ·subst hji;simp[Au,FV,hii]
    ·simp[Au,FV,hji,Eo hji]
   have h2:=hstep (λj=>listed.getD j false=true) i o ho (λh=>by
    rw[Au,Al hii]at h1 h;simp at h1 h;rw[h1]at h;cases h) (λj hj=>by
    unfold cAq at hj;rw[ho]at hj;obtain⟨e,he,hbd⟩:=Array.any_eq_true'.1 hj;simp only[A8,beq_iff_eq]at hbd;rw[<-hbd.2];exact hall e he hbd.1) σ hT
   refine zT (λσ' con hq=>?_) _ _ _ h2;have hq':T (λj=>(listed.setIfInBounds i true).getD j false=true) (fin σ' con):=hL ▸ hq;exact bGf T hb hstep hend fuel _ _ (by rw[Array.size_setIfInBounds];exact hs) (by have:=bOc h1;omega) hq'
def bNu{id:Nat}{l:List Oper}{σ:St}{Q:Exit->St->Prop}(T:(Nat->Prop)->St->Prop)(hno:fQ l=true)(hb:bWg l.toArray=true)(h0:T (λ_=>False) σ)
  (hstep:∀(L:Nat->Prop) (i:Nat) (o:Oper),l[i]? = some o->¬L i->(∀j,cAq l.toArray i j=true->L j)->∀σ,T L σ->OWd P l.toArray [o] σ [] (λσ' con=>aEk σ' con (λσ2=>T (λj=>L j\/j=i) σ2) .mk) .mk)
  (hend:∀L σ,(∀i,i<l.length->L i)->T L σ->Q .normal σ):Wal P (.region id l.toArray true) σ Q:=by
 refine bCm hno ?_
 refine bGf T hb (λL i o ho hn hd σ hT=>hstep L i o (by simpa using ho) hn hd σ hT) (λL σ hL hT=>hend L σ (λi hi=>hL i (by simpa using hi)) hT) _ _ _ (by simp) (by
  unfold unl;rw[Array.toList_replicate];exact AR List.count_le_length (by simp)) ?_
 have:(λj=>(AY l.length false).getD j false=true)=λ_=>False:=by funext j;refine propext ⟨λh=>?_,λh=>h.elim⟩;rw[Au,Ch]at h;split at h<;>simp at h
 rw[this];exact h0
end
end Go.Am
end
section
open List renaming map_map->O,mapM_map->ξ
open Go Go.Am Go.Proofs
namespace Go.Am
def bXu(V:List Int)(n:Nat):(sqM V n).length=n/\(∀v∈sqM V n,v.length=n)/\∀v∈sqM V n,∀z∈v,z.natAbs<=10:=by
 have h:=bVy n n λr s=>vf V (r*n+s)
 refine⟨h.len,h.row,λv hv z hz=>?_⟩;obtain⟨r,_,rfl⟩:=AM.1 hv;obtain⟨s,_,rfl⟩:=AM.1 hz;exact bVo V _
def cAe{d:Int}{ps:List Nat}(h:∀p∈ps,p∈P10):aPd (uW d ps):=λx hx=>by have:x.2.1∈pmL (uW d ps):=DN hx;rw[aVm]at this;exact h _ this
def cAf{l:List Rp3}{ys:List (Nat×Nat)}(h:aPd l):aPd (jQ l ys):=λx hx=>by obtain⟨y,hy,e⟩:=AM.1 (aOb hx);rw[<-e];exact h y hy
def bBt{n:Nat}(h:n<256):IntKind.u8.wrap (n:Int)=n:=by unfold E2;simp[CK,Et];omega
structure SqT(a0 a1 a2 a3 a4 a5:Nat)(R C N k m tn:Nat)(VL L A B:List (List D))(LL:Nat->Prop)(Γ:Nat->AV)(H:Hp)(n:Nat):Prop where
 b2:Γ 2=.ptr 1 0
 b3:Γ 3=.ptr 2 0
 b5:Γ 5=.d (.b true)
 s0:LL 0->Γ a0=.ag [.d (.i .u8 R),.d (.i .u8 C),.d (.sl VL)]
 s1:LL 1->Γ a1=.ag [.d (.i .i64 m),.d (.i .i64 m),.d (.sl L)]
 s2:LL 2->Γ a2=.ptr 2 0
 s3:LL 3->Γ a3=.d (.i .u8 N)
 s4:LL 4->Γ a4=.d (.i .u8 k)
 s5:LL 5->Γ a5=.d (.i .i64 k)
 s8:LL 8->Γ 7=.d (.i .i64 k)
 h1:H 1=some (.cells 55 [.d (.i .u8 R),.d (.i .u8 C),.d (.sl VL)])
 h2:H 2=some (.cells 58 [.d (.i .u8 N),.d (.sl A),.d (.sl B),.d (.i .u8 tn)])
 n0:¬LL 6->n=3
 n1:LL 6->n=4/\Γ 6=.ptr 3 0
 z3:LL 6->¬LL 7->H 3=some (.cells 61 [.d (.i .i64 0),.d (.i .i64 0),.nil])
 m3:LL 7->H 3=some (.cells 61 [.d (.i .i64 m),.d (.i .i64 m),.d (.sl L)])
 top:∀id,n<=id->H id=none
 w7:LL 7->LL 6
end Go.Am
end
section
open List renaming map_map->O,mapM_map->ξ
namespace Go.Am
open RowKit (Below)
section
variable {P:Program} [M:Mch P]
def StR(d0:D)(h:AV)(o:HO)(args:List D)(N:Nat):St:=⟨λt=>match t with|0=>aL d0|1=>h|t+2=>Γ0 args N t,λid=>if id=0 then some o else none,1⟩
def SRR{A:Nat->Prop}{W:World}{vs:Array Value}{args:List D}{d0:D}{h:AV}{o:HO}{b N:Nat}(hok:OkV W)(hA:∀b,A b->b<W.heap.size)(hAb:¬A b)(hb:b<W.heap.size)(ho:∃ob,W.heap[b]? = some ob/\CR A W (ι1 b) o ob)
    (hl:args.length+2=vs.size) (hd:∃v,vs[0]? = some v/\VD A W d0 v) (h0:∃v,vs[1]? = some v/\V A W (ι1 b) h v) (hv:∀(k:Nat) d v,args[k]? = some d->vs[k+2]? = some v->VD A W d v) (hN:args.length+2<=N) :
    SR ⟨W,A,(·=b),(·=b),λ_=>none⟩ N [] (StR d0 h o args N) { tmps:=vs++AY (N-vs.size) undef,defers:=[] } W:=by
  have hι:∀id b',ι1 b id=some b'->id=0/\b'=b:=λid b' e=>by
    unfold ι1 at e;split at e
    · injection e with e;exact⟨by assumption,e.symm⟩
    · cases e
  have hH:∀id o',(if id=0 then some o else none)=some o'->id=0/\o'=o:=λid o' e=>by
    split at e
    · injection e with e;exact⟨by assumption,e.symm⟩
    · cases e
  refine⟨λid h=>by simp only[StR]at h ⊢;rw[Ai (by omega)],λh=>by simp[StR]at h,hok,A,ι1 b,⟨.refl _ _ _,hA,λb h=>.inl h,λid b' e=>?_,λid b' o' e e'=>?_,λid id' b' e e' _ _=>?_,λid id' b' o1 o2 e e' _ h1 h2=>?_⟩,λid=>?_,λt=>?_,⟨by simp;omega,λ_ _ h=>by cases h⟩,rfl,λb' e=>(hι 0 b' e).2⟩
  · obtain⟨_,rfl⟩:=hι id b' e;exact⟨.inl rfl,hb,λ_=>hAb⟩
  · obtain⟨_,rfl⟩:=hι id b' e;obtain⟨_,rfl⟩:=hH id o' e';exact ho
  · rw[(hι _ _ e).1,(hι _ _ e').1]
  · rw[(hH _ _ h1).2,(hH _ _ h2).2];exact Ay _
  · simp only[StR,ι1]
    by_cases hid:id=0<;>simp[hid]
  · have hget:∀k,k<vs.size->(vs++AY (N - vs.size) undef).getD k undef=vs.getD k undef:=λk hk=>by simp only[Au];rw[Array.getElem?_append_left hk]
    have hget2:∀k,vs.size<=k->(vs++AY (N-vs.size) undef).getD k undef=undef:=λk hk=>by
      simp only[Au];rw[Cu hk];by_cases h2:k-vs.size<N-vs.size
      · rw[Ch,Aq h2];rfl
      · rw[Ch,Ai h2];rfl
    rcases t with _|_|t
    · obtain⟨v,hv0,hV0⟩:=hd
      show V A W (ι1 b) (aL d0) _
      rw[show(({ tmps:=vs++AY (N-vs.size) undef,defers:=[] }:Act).tmps.getD 0 undef)=v from by
        rw[hget 0 (by omega)];simp[Au,hv0]]
      exact mX hV0
    · obtain⟨v,hv0,hV0⟩:=h0
      show V A W (ι1 b) h _
      rw[show(({ tmps:=vs++AY (N-vs.size) undef,defers:=[] }:Act).tmps.getD (0+1) undef)=v from by
        rw[hget 1 (by omega)];simp[Au,hv0]]
      exact hV0
    · show V A W (ι1 b) (Γ0 args N t) _
      simp only[Γ0]
      by_cases ht:t<args.length
      · have ht':t+2<vs.size:=by omega
        rw[Ab ht,show t+1+1=t+2 from rfl,hget _ ht',Au,Al ht']
        exact mX (hv t _ _ (Ab ht) (Al ht'))
      · rw[AW (by omega),show t+1+1=t+2 from rfl,hget2 _ (by omega)]
        simp only[ite_self]
        exact .un
def bFc {f N:Nat} {fn:Func} {c:Code} {d0:D} {h:AV} {o o':HO} {args:List D} (hm:P.follows .mixedOrders=true) (hf:P.funcs[f]? = some fn) (hb:fn.body=some c) (hname:(fn.name == "runtime.NumGoroutine")=false) (hN:fn.ntmps=N)
    (hd:bN N c=true) (ha:args.length+2<=N) (hno':kE o'=true)
    (hA:Wal P c (StR d0 h o args N) λe σ=>(e=.normal\/e=.ret)/\jA P fn.results.toList σ=some (.tp [])/\σ.H 0=some o'):aPb P f d0 h o args o':=by
  intro A W vs b hAl hAb hbl hob hl hd0 hv0 hv
  have hn:¬ fn.name = "runtime.NumGoroutine" := by simpa using hname
  refine⟨λw=>by simp[callFunc,hf,hn,hb],?_⟩
  refine gF hf hb ?_
  subst hN
  refine(WpR.plain P).okv λhok=>?_
  have hsr:=SRR (N:=fn.ntmps) hok hAl hAb hbl hob hl hd0 hv0 hv ha
  refine cC (hA _ _ _ _ _ hm (λ_=>rfl) hd hsr) ?_
  rintro e a w0 ⟨σ,⟨he,hr,hH0⟩,hs0⟩
  have hend:a.defers=[]/\∀w,Env w0 w->∃v,aK P (results fn a.tmps) w=.ok v w/\∃ob',Kept (·=b) W.heap.size W w/\w.heap[b]? = some ob' /\
      (∀cur e,W.heap[b]? = some (.cells cur e (0,0))->∃cur',ob'=.cells cur' e (0,0)/\cur'.size=cur.size) /\
      CR (λk=>A k\/(W.heap.size<=k/\k<w.heap.size)) w (ι1 b) o' ob'/\VD (λk=>A k\/(W.heap.size<=k/\k<w.heap.size)) w (.tp []) v:=by
   refine⟨hs0.2.2.2.elim λ_ h=>h.elim λ_ h=>h.2.2.2.2.1,λw henv=>?_⟩
   have hs:=hs0.env henv
   obtain⟨_,_,_,F,ι,hR,hdom,hVs,_,hdf,hp⟩:=hs
   obtain⟨v,hrun,hvd⟩:=kO hR hVs hr
   obtain⟨b',hb'⟩:=(hdom 0).2 (by rw[hH0];rfl)
   have hbb:=hp b' hb'
   simp only at hbb
   subst hbb
   obtain⟨ob',hob',hcr⟩:=hR.obj 0 b' o' hb' hH0
   have hnF:¬F b':=(hR.place 0 b' hb').2.2 (λx=>x)
   have hFA:∀k,F k->A k\/(W.heap.size<=k/\k<w.heap.size):=λk hk=>by
     rcases hR.F_ok k hk with h|h|h
     · exact .inl h
     · simp only at h;subst h;exact(hnF hk).elim
     · exact .inr ⟨h,hR.F_lt k hk⟩
   refine⟨v,hrun,ob',hR.kept,hob',λcur e he=>?_,(xP hno' hcr).step ⟨hFA,λ_ _=>rfl,λ_ _ h=>h,λ_ _ cur _ _ h=>⟨cur,h,rfl⟩⟩,?_⟩
   · obtain⟨cur',h1,h2⟩:=hR.kept.shape b' cur e hbl he
     rw[hob']at h1;injection h1 with h1
     exact⟨cur',h1,h2⟩
   · cases hvd with|tp ds vs hl hh=>exact .tp _ _ hl λk d v hk=>by simp at hk
  rcases he with rfl|rfl<;>exact hend
end
end Go.Am
end
section
open List renaming map_map->O,mapM_map->ξ
open Go Go.Am Go.Proofs
namespace Go.Am
def bVf[M:Mch Aa](p a b:Nat)(hp:0<p)(ha:a<4294967296)(hb:b<4294967296):Spec Aa 193 [.i .u64 p,.i .u64 a,.i .u64 b] (.i .u64 ((a+b)%p:Nat)):=by
 have hR:=uB (a+b) p hp;generalize(a+b)%p=r at *;have hw1:AB.wrap ((a:Int)+(b:Int))=((a+b:Nat):Int):=by rw[<-DM];exact wrap_u64 (by omega) (by omega)
 generalize a+b=x at *;refine aX (N:=12) Tryz.func193 ?_;simp[-O,-ξ,↓KW,hw1];refine aC hR ?_;simp[-O,-ξ,↓KW]
def aVp(e:TypeId)(l:List Nat):vD (.cells e ((dU l).map .d))=true:=by
 unfold vD;refine A3.2 λc hc=>?_
 obtain⟨x,hx,rfl⟩:=AM.1 hc;obtain⟨y,_,rfl⟩:=AM.1 hx;rfl
def bZg(e:TypeId)(l:List Nat):kE (.cells e ((dU l).map .d))=true:=by
 unfold kE;refine A3.2 λc hc=>?_
 obtain⟨x,hx,rfl⟩:=AM.1 hc;rfl
def aSn{l:List Nat}{i x:Nat}(h:l[i]? = some x):(dU l)[i]? = some (.i .u64 (x:Int)):=by unfold dU;rw[Ag,h];rfl
def bKj(l:List Nat)(i x:Nat):(dU l).set i (.i .u64 (x:Int))=dU (l.set i x):=by unfold dU;rw[Fv]
def adL(p:Nat)(a b:List Nat)(k:Nat):List Nat:=(AN a.length).map λj=>(a.getD j 0+k*b.getD j 0%p)%p
def kU(p:Nat)(a b:List Nat)(k:Nat):(adL p a b k).length=a.length:=by simp[adL]
def vV{p k j:Nat}{a b:List Nat}(hj:j<a.length):(adL p a b k)[j]? = some ((a.getD j 0+k*b.getD j 0%p)%p):=by unfold adL;rw[Ag,Bq hj];rfl
def bMg{p:Nat}{a b:List Nat}(ha:∀x∈a,x<p):adL p a b 0=a:=by
 apply CH λj=>?_
 by_cases hj:j<a.length
 ·rw[vV hj,Ab hj,Ac,Ab hj,DS,Nat.zero_mod,B6,AT,BY (ha _ (Bz hj))]
 ·rw[AW (by rw[kU];omega),AW (by omega)]
def atS(p k n:Nat)(L:List (List D))(j:Nat)(T:List Nat):St:=StL [(0,.d (.i .u64 p)),(1,.own 0 0 n 1),(3,.d (.i .u64 k)),(12,.d (.sl L)),(13,.d (.i .i64 n)),(14,.d (.i .i64 (j:Int)))] (some (.cells 51 ((dU T).map .d))) []
def bBd[M:Mch Aa](p k:Nat)(a b:List Nat)(hp:0<p)(hp1:p<=2147483648)(hk:k<p)(ha:∀x∈a,x<p)(hb:∀x∈b,x<p)(hl:a.length=b.length)(hn:a.length<=1000) :
  aPb Aa 172 (.i .u64 p) (.own 0 0 a.length 1) (.cells 51 ((dU a).map .d)) [bU b,.i .u64 k] (.cells 51 ((dU (adL p a b k)).map .d)):=by
 obtain⟨L,hL,hLl,hLg⟩:=qP b
 rw[hL]
 refine bFc (N:=33) aR Tryz.func172 rfl rfl rfl (by kernel_rfl) (by simp) (bZg _ _) (yZ (by kernel_rfl) ?_)
 by_cases hk0:k=0
 ·subst hk0
  rw[bMg ha]
  simp[-O,-ξ,↓KW,StR,gZ]
 ·have hk1:((k:Int)==0)=false:=by rw[CO];omega
  have hLn:(L.length:Int)=(a.length:Int):=by omega
  simp[-O,-ξ,↓KW,StR,hk1,hk0,hLn]
  refine aY (τ:=Nat) (λj=>j<=a.length) (λj=>atS p k a.length L j ((adL p a b k).take j++a.drop j)) (λj=>a.length-j) 0 (A1 _) ?_ ?_
  ·rw[BD,D4,Dv]
   show ∃ρ,Wk _ (atS _ _ _ _ _ a) ρ
   unfold atS
   refine yI ?_ rfl
   simp[-O,upd,aL,Γ0,hLl]
  ·intro j hj
   have hTl:((adL p a b k).take j++a.drop j).length=a.length:=by rw[Bc,AZ,kU,CZ];omega
   by_cases hlt:j<a.length
   ·obtain⟨x,hx⟩:∃x,a[j]? = some x:=⟨_,Ab hlt⟩
    have hjb:j<b.length:=by omega
    have hLj:=hLg j hjb
    have hLj':=bP hLj
    have hjL:j<L.length:=by omega
    obtain⟨y,hy⟩:∃y,b[j]! = y:=⟨_,rfl⟩
    have hyb:b.getD j 0=y:=by rw[Ac,Ab hjb,<-hy,B7 b j hjb];rfl
    have hyp:y<p:=by rw[<-hy,B7 b j hjb];exact hb _ (Bz hjb)
    have hxp:x<p:=ha x (Aj hx)
    have hxa:a.getD j 0=x:=by rw[Ac,hx];rfl
    rw[hy]at hLj hLj'
    have hM:=nZ (M:=M) p k y hp (Bf (A9 (C1 hk) (C1 hyp)) (Bf (A9 hp1 hp1) (by decide)))
    have hmp:k*y%p<p:=BF _ hp
    have hA:=bVf (M:=M) p x (k*y%p) hp (by omega) (by omega)
    obtain⟨z,hz⟩:∃z,(x+k*y%p)%p=z:=⟨_,rfl⟩
    rw[hz]at hA
    obtain⟨T,hT⟩:∃T,(adL p a b k).take j++a.drop j=T:=⟨_,rfl⟩
    have hTj:T[j]? = some x:=by rw[<-hT,AJ (by rw[AZ,kU];omega),AZ,kU,De (by omega),CU,BG,B6];exact hx
    have hT1:T.set j z=(adL p a b k).take (j+1)++a.drop (j+1):=by rw[<-hT,A5,vV hlt,hyb,hxa,hz,Da _ _ (by rw[AZ,kU];omega),AZ,kU,De (by omega),CU,Cn hlt,CL];simp
    rw[hT]at hTl ⊢
    have hTd:=aSn hTj
    have hTd':∀h,(dU T)[j]'h=.i .u64 (x:Int):=λh=>by rw[Ab h]at hTd;injection hTd
    have hdl:(dU T).length=a.length:=by rw[dZ];exact hTl
    have hly:lay (Cj AV.d (dU T)) j [AV.d (D.i .u64 (z:Int))]=Cj AV.d (dU (T.set j z)):=by rw[eQ _ _ _ (by omega),bKj]
    obtain⟨T1,hT1e⟩:∃T1,T.set j z=T1:=⟨_,rfl⟩
    rw[hT1e]at hly hT1
    have hw0:Ah.wrap (j:Int)=j:=aP
    have hw1:Ah.wrap ((j:Int)+1)=((j+1:Nat):Int):=aP
    have hj1:j+1<=a.length:=by omega
    have hlt':(j:Int)<(a.length:Int):=by omega
    generalize k*y%p=q at *
    simp[-O,-ξ,↓KW,atS,hlt,hlt',hjL,hLj,hLj',hw0,hdl,hTd,hTd']
    refine aC hM ?_
    simp[-O,-ξ,↓KW,hlt,hlt',hw0,hdl,hTd,hTd']
    refine aC hA ?_
    simp[-O,-ξ,↓KW,hlt,hlt',hw0,hw1,hdl,hTd,hTd',hj1,hly]
    refine aI (j+1) hj1 (by show a.length-(j+1)<a.length-j;omega) ?_
    show ∃ρ,Wk _ (atS _ _ _ _ _ ((adL p a b k).take (j+1)++a.drop (j+1))) ρ
    rw[<-hT1]
    unfold atS
    refine yI ?_ rfl
    simp[-O,upd,aL,Γ0]
   ·have hj':j=a.length:=by omega
    have hlt':¬(j:Int)<(a.length:Int):=by omega
    rw[As (by rw[kU];omega),C0 (by omega),Ea]
    simp[-O,-ξ,↓KW,atS,hlt,hlt']
    exact aS (by simp[-O,-ξ,↓KW,gZ])
end Go.Am
end
section
open List renaming map_map->O,mapM_map->ξ
namespace Go.Am
def Cg(p x y:Int):Prop:=∃t:Int,x-y=p*t
def Cg.refl(p x:Int):Cg p x x:=⟨0,by simp⟩
def Cg.symm{p x y:Int}(h:Cg p x y):Cg p y x:=by obtain⟨t,h⟩:=h;exact⟨-t,by rw[DD,<-h];omega⟩
def Cg.trans{p x y z:Int}(h:Cg p x y)(h2:Cg p y z):Cg p x z:=by obtain⟨t,h⟩:=h;obtain⟨u,h2⟩:=h2;exact⟨t+u,by rw[Int.mul_add,<-h,<-h2];omega⟩
def Cg.add{p x y u v:Int}(h:Cg p x y)(h2:Cg p u v):Cg p (x+u) (y+v):=by obtain⟨t,h⟩:=h;obtain⟨s,h2⟩:=h2;exact⟨t+s,by rw[Int.mul_add,<-h,<-h2];omega⟩
def Cg.sub{p x y u v:Int}(h:Cg p x y)(h2:Cg p u v):Cg p (x-u) (y-v):=by obtain⟨t,h⟩:=h;obtain⟨s,h2⟩:=h2;exact⟨t-s,by rw[Int.mul_sub,<-h,<-h2];omega⟩
def Cg.mul{p x y u v:Int}(h:Cg p x y)(h2:Cg p u v):Cg p (x*u) (y*v):=by
 obtain⟨t,h⟩:=h;obtain⟨s,h2⟩:=h2;exact⟨t*u+y*s,by
  have e1:x=y+p*t:=by omega
  have e2:u=v+p*s:=by omega
  subst e1;subst e2;grind⟩
def Cg.emod(p:Int)(x:Int):Cg p (x%p) x:=⟨-(x/p),by have:=FD x p;rw[DD];omega⟩
def Cg.eq{p x y:Int}(h:Cg p x y):x%p=y%p:=by
 obtain⟨t,h⟩:=h;have e:x=y+p*t:=by omega
 rw[e,Int.add_mul_emod_self_left]
def Cg.modN{p a:Nat}:Cg (p:Int) ((a%p:Nat):Int) (a:Int):=by rw[Int.natCast_emod];exact Cg.emod _ _
def Cg.zero{p x:Int}(h:x%p=0):Cg p x 0:=⟨x/p,by have:=FD x p;omega⟩
def aVy{p:Int}{x y:Nat->Nat->Int}(h:∀i j,Cg p (x i j) (y i j)):Cg p (gE x) (gE y):=by unfold gE;repeat' (first|exact h _ _|refine Cg.sub ?_ ?_|refine Cg.add ?_ ?_|refine Cg.mul ?_ ?_)
def bQa{a b:Int}(h:(a:Rat)=(b:Rat)):a=b:=by exact_mod_cast h
def bAf(x:Nat->Nat->Int){k a:Nat}(h:k<a)(ha:a<=3):gE (λi j=>x (swp k a i) j)=- gE x:=by refine bQa ?_;rw[Rat.intCast_neg,<-jP,<-jP];exact aGh (λi j=>((x i j:Int):Rat)) h ha
def bKe(x:Nat->Nat->Int)(c:Int){k a:Nat}(h:k<a)(ha:a<=3):gE (λi j=>if i=a then x a j-c*x k j else x i j)=gE x:=by
 refine bQa ?_;rw[<-jP,<-jP,<-aNw (λi j=>((x i j:Int):Rat)) (c:Rat) h ha];congr 1;funext i j;split
 ·rw[Rat.intCast_sub,CM]
 ·rfl
def bKd(x:Nat->Nat->Int)(h:∀i j,j<i->i<=3->x i j=0):gE x=x 0 0*x 1 1*x 2 2*x 3 3:=by refine bQa ?_;rw[<-jP,CM,CM,CM];exact aNv (λi j=>((x i j:Int):Rat)) λi j h1 h2=>by simp[h i j h1 h2]
def bAe(x:Nat->Nat->Int){k:Nat}(hk:k<=3)(h:∀i j,j<i->j<k->i<=3->x i j=0)(h0:∀i,k<=i->i<=3->x i k=0):gE x=0:=by refine bQa ?_;rw[<-jP];exact aGg (λi j=>((x i j:Int):Rat)) hk (λi j h1 h2 h3=>by simp[h i j h1 h2 h3]) λi h1 h2=>by simp[h0 i h1 h2]
def enN(M:List (List Nat))(i j:Nat):Nat:=(M.getD i []).getD j 0
def yP(n:Nat)(M:List (List Nat))(i j:Nat):Int:=if i<n/\j<n then(enN M i j:Int)else if i=j then 1 else 0
def jU{n:Nat}{M:List (List Nat)}{i j:Nat}(h:i<n/\j<n):yP n M i j=(enN M i j:Int):=Aq h
def iB{n:Nat}{M:List (List Nat)}{i j:Nat}(h:¬(i<n/\j<n)):yP n M i j=if i=j then 1 else 0:=Ai h
def dgI(M:List (List Nat)):Nat->Int
 |0=>1
 |k+1=>dgI M k*(enN M k k:Int)
def xF{M M':List (List Nat)}:∀k:Nat,(∀i j,i<k->enN M' i j=enN M i j)->dgI M' k=dgI M k
 |0,_=>rfl
 |k+1,h=>by rw[dgI,dgI,h k k (Ck k),xF k λi j hi=>h i j (Gt hi)]
def SgM(p:Nat)(n k:Nat)(D:Int)(M:List (List Nat))(o:Nat):Prop:=∃s:Int,(s=1\/s=-1)/\Cg p o (s*dgI M k)/\Cg p D (s*gE (yP n M))
def LoM(n k:Nat)(M:List (List Nat)):Prop:=∀i j,j<k->j<i->i<n->enN M i j=0
def RwM(p n:Nat)(M:List (List Nat)):Prop:=M.length=n/\∀i,i<n->(M.getD i []).length=n/\∀x∈M.getD i [],x<p
def rQ{α:Type}{l:List α}{i r:Nat}{x d:α}(hi:i<l.length):(l.set i x).getD r d=if r=i then x else l.getD r d:=by
 rw[Ac,CW];by_cases h:r=i
 ·subst h;rw[Aq rfl,Aq rfl,Aq hi];rfl
 ·rw[Ai (λe=>h e.symm),Ai h,Ac]
def bEb{p n k:Nat}{D:Int}{o:Nat}{M:List (List Nat)}(hn:n<=4)(hk:k<n)(h:SgM p n k D M o)(hl:LoM n k M)(h0:∀i,k<=i->i<n->enN M i k=0):D%(p:Int)=0:=by
 obtain⟨s,_,_,h⟩:=h;have:gE (yP n M)=0:=by
  refine bAe (yP n M) (k:=k) (by omega) (λi j h1 h2 h3=>?_) λi h1 h2=>?_
  ·by_cases h:i<n/\j<n
   ·rw[jU h,hl i j h2 h1 h.1];rfl
   ·rw[iB h,Ai (by omega)]
  ·by_cases h:i<n/\k<n
   ·rw[jU h,h0 i h1 h.1];rfl
   ·rw[iB h,Ai (by omega)]
 rw[this,Int.mul_zero]at h;rw[h.eq];simp
def swM(M:List (List Nat))(k a:Nat):List (List Nat):=(M.set k (M.getD a [])).set a (M.getD k [])
def aHi{M:List (List Nat)}{k a r:Nat}(hk:k<M.length)(ha:a<M.length):(swM M k a).getD r []=if r=a then M.getD k []else if r=k then M.getD a []else M.getD r []:=by unfold swM;rw[rQ (by simpa using ha),rQ hk]
def bJn{M:List (List Nat)}{k a:Nat}(hk:k<M.length)(ha:a<M.length)(hka:k≠a)(i j:Nat):enN (swM M k a) i j=enN M (swp k a i) j:=by
 unfold enN swp;rw[aHi hk ha];by_cases h1:i=a
 ·rw[Aq h1,h1,Ai (λe=>hka e.symm),Aq rfl]
 ·rw[Ai h1];by_cases h2:i=k
  ·rw[Aq h2,Aq h2]
  ·rw[Ai h2,Ai h2,Ai h1]
def bGt{p o:Nat}(hp:0<p)(ho:o<p):Cg p ((0+p-o)%p:Nat) (-(o:Int)):=by refine Cg.modN.trans ⟨1,?_⟩;omega
def bEc{p n k a:Nat}{D:Int}{o:Nat}{M:List (List Nat)}(hn:n<=4)(hp:0<p)(ho:o<p)(hM:M.length=n)(hk:k<a)(ha:a<n)(h:SgM p n k D M o):SgM p n k D (swM M k a) ((0+p-o)%p):=by
 obtain⟨s,hs,h1,h2⟩:=h;have he:=bJn (M:=M) (k:=k) (a:=a) (by omega) (by omega) (by omega);have hd:gE (yP n (swM M k a))=- gE (yP n M):=by
  rw[<-bAf (yP n M) hk (by omega)];congr 1;funext i j;have h1:swp k a i<n↔i<n:=by unfold swp;split<;>(try split)<;>omega
  by_cases h:i<n/\j<n
  ·rw[jU h,jU ⟨h1.2 h.1,h.2⟩,he]
  ·rw[iB h,iB λh'=>h ⟨h1.1 h'.1,h'.2⟩];by_cases h3:i<n
   ·rw[Ai (by omega),Ai (by have:=h1.2 h3;omega)]
   ·have:swp k a i=i:=by unfold swp;rw[Ai (by omega),Ai (by omega)]
    rw[this]
 refine⟨-s,by rcases hs with rfl|rfl<;>simp,?_,?_⟩
 ·rw[xF (M:=M) (M':=swM M k a) k λi j hi=>by rw[he];unfold swp;rw[Ai (by omega),Ai (by omega)]];refine(bGt hp ho).trans ?_;have:=(Cg.refl (p:Int) 0).sub h1;rw[Int.zero_sub,Int.zero_sub]at this;rwa [Gs]
 ·rw[hd,Int.neg_mul_neg];exact h2
def bHc{n k a:Nat}{M:List (List Nat)}(hM:M.length=n)(hk:k<a)(ha:a<n)(h:LoM n k M):LoM n k (swM M k a):=λi j h1 h2 h3=>by
 rw[bJn (by omega) (by omega) (by omega)];unfold swp;split
 ·exact h a j h1 (by omega) ha
 ·split
  ·exact h k j h1 (by omega) (by omega)
  ·exact h i j h1 h2 h3
def bEr{p n k a:Nat}{M:List (List Nat)}(hM:RwM p n M)(hk:k<n)(ha:a<n):RwM p n (swM M k a):=by
 refine⟨by simp[swM,hM.1],λi hi=>?_⟩;rw[aHi (by rw[hM.1];exact hk) (by rw[hM.1];exact ha)];split
 ·exact hM.2 k hk
 ·split
  ·exact hM.2 a ha
  ·exact hM.2 i hi
def bOy{p n k:Nat}{D:Int}{o:Nat}{M:List (List Nat)}(h:SgM p n k D M o):SgM p n (k+1) D M (o*enN M k k%p):=by obtain⟨s,hs,h1,h2⟩:=h;refine⟨s,hs,Cg.modN.trans ?_,h2⟩;rw[dgI,<-FN,Cd];exact h1.mul (Cg.refl _ _)
def bYa{p n k K a:Nat}{D:Int}{o:Nat}{M:List (List Nat)}(c:Int)(v:List Nat)(hn:n<=4)(hM:RwM p n M)(hk:k<a)(ha:a<n)(hK:K<=a)(hv:∀j,j<n->Cg p (v.getD j 0:Nat) ((enN M a j:Int)-c*(enN M k j:Int)))(h:SgM p n K D M o):SgM p n K D (M.set a v) o:=by
 obtain⟨s,hs,h1,h2⟩:=h;have hg:=λr=>rQ (l:=M) (i:=a) (r:=r) (x:=v) (d:=[]) (by rw[hM.1];exact ha)
 refine⟨s,hs,?_,?_⟩
 ·rw[xF (M:=M) (M':=M.set a v) K λi j hi=>by unfold enN;rw[hg,Ai (by omega)]];exact h1
 ·refine h2.trans ((Cg.refl _ _).mul ?_);rw[<-bKe (yP n M) c hk (by omega)];refine(aVy λi j=>?_).symm;by_cases h:i<n/\j<n
  ·rw[jU h];unfold enN;rw[hg];by_cases hi:i=a
   ·rw[Aq hi,Aq hi,jU ⟨ha,h.2⟩,jU ⟨by omega,h.2⟩];exact hv j h.2
   ·rw[Ai hi,Ai hi,jU h];exact Cg.refl _ _
  ·rw[iB h];by_cases hi:i=a
   ·subst hi;rw[Aq rfl,iB (by omega),iB (by omega),Ai (by omega),Ai (by omega)];exact⟨0,by simp⟩
   ·rw[Ai hi,iB h];exact Cg.refl _ _
def bOz{p n:Nat}{D:Int}{o:Nat}{M:List (List Nat)}(hn:n<=4)(h:SgM p n n D M o)(hl:LoM n n M):Cg p o D:=by
 obtain⟨s,hs,h1,h2⟩:=h;have ht:=bKd (yP n M) λi j h1 h2=>by
  by_cases h:i<n/\j<n
  ·rw[jU h,hl i j h.2 h1 h.1];rfl
  ·rw[iB h,Ai (by omega)]
 have hd:gE (yP n M)=dgI M n:=by
  rw[ht];have:n=0\/n=1\/n=2\/n=3\/n=4:=by omega
  rcases this with rfl|rfl|rfl|rfl|rfl<;>simp[yP,dgI]
 rw[hd]at h2;exact h1.trans h2.symm
def fC(p:Nat)(A:List (List Int)):List (List Nat):=A.map λv=>v.map λz=>(z%(p:Int)).toNat
def bPv{p n:Nat}{A:List (List Int)}(hp:0<p)(hA:A.length=n)(hr:∀v∈A,v.length=n):RwM p n (fC p A):=by
 refine⟨by simp[fC,hA],λi hi=>?_⟩;have hg:(fC p A).getD i []=(A[i]'(by omega)).map λz=>(z%(p:Int)).toNat:=by unfold fC;rw[Ac,Ag,Ab (by omega)];rfl
 rw[hg];refine⟨by rw[Bl];exact hr _ (Bz _),λx hx=>?_⟩;obtain⟨z,_,rfl⟩:=AM.1 hx;have h1:=Dw z (b:=(p:Int)) (by omega);have h2:=Gg z (b:=(p:Int)) (by omega);omega
def aXl{p n:Nat}{A:List (List Int)}(hp:0<p)(hA:A.length=n):SgM p n 0 (kG n A) (fC p A) 1:=by
 refine⟨1,.inl rfl,by simp[dgI];exact Cg.refl _ _,?_⟩;rw[Int.one_mul];unfold kG;refine aVy λi j=>?_
 by_cases h:i<n/\j<n
 ·rw[jU h];unfold aMb;rw[Aq h];have hg:enN (fC p A) i j=(((A.getD i []).getD j 0)%(p:Int)).toNat:=by
   unfold enN fC;rw[Ac (l:=Cj _ A),Ag,Ac (l:=A)];cases A[i]? with
   |none=>simp
   | some v =>
    simp only[AU,AT];rw[Ac,Ag,Ac];cases v[j]? with
    |none=>simp
    |some z=>rfl
  rw[hg,BV (Dw _ (by omega))];exact(Cg.emod _ _).symm
 ·rw[iB h];unfold aMb;rw[Ai h];exact Cg.refl _ _
end Go.Am
end
section
open List renaming map_map->O,mapM_map->ξ
open Go Go.Am Go.Proofs
namespace Go.Am
def sT(M:List (List Nat)):D:=.sl (M.map λv=>[bU v])
def vG(M:List (List Nat)):∃L,sT M=.sl L/\L.length=M.length/\∀(i:Nat) (v:List Nat),M[i]? = some v->L[i]? = some [bU v]:=⟨_,rfl,by simp,λi v h=>by rw[Ag,h];rfl⟩
def SrR(M:List (List Nat))(n k c:Nat)(r:Int):Prop:=(r=-1/\∀i,k<=i->i<n->enN M i c=0)\/∃i:Nat,r=i/\k<=i/\i<n/\enN M i c≠0/\∀j,k<=j->j<i->enN M j c=0
def bXt(M:List (List Nat))(n k c:Nat):∃r,SrR M n k c r:=by
 by_cases h:∃i,k<=i/\i<n/\enN M i c≠0
 ·have key:∀m,(∃i,k<=i/\i<n/\enN M i c≠0/\i<k+m)->∃i,k<=i/\i<n/\enN M i c≠0/\∀j,k<=j->j<i->enN M j c=0:=λm=>by
   induction m with
   |zero=>rintro⟨i,h1,_,_,h4⟩;omega
   | succ m ih =>
    rintro⟨i,h1,h2,h3,h4⟩;by_cases h5:∃i,k<=i/\i<n/\enN M i c≠0/\i<k+m
    ·exact ih h5
    ·exact⟨i,h1,h2,h3,λj hj1 hj2=>BW λhne=>h5 ⟨j,hj1,by omega,hne,by omega⟩⟩
  obtain⟨i,h1,h2,h3⟩:=h;obtain⟨i,h⟩:=key (i+1) ⟨i,h1,h2,h3,by omega⟩;exact⟨i,.inr ⟨i,rfl,h⟩⟩
 ·exact⟨-1,.inl ⟨rfl,λi h1 h2=>BW λhne=>h ⟨i,h1,h2,hne⟩⟩⟩
def seS(L:List (List D))(k c i:Nat):St:=StL [(0,.d (.sl L)),(1,.d (.i .i64 k)),(2,.d (.i .i64 c)),(7,.d (.i .i64 (-1))),(8,.d (.i .i64 (i:Int)))] none []
def aQj[M0:Mch Aa](p n k c:Nat)(M:List (List Nat))(r:Int)(hn:n<=1000)(hM:RwM p n M)(hk:k<=n)(hc:c<n)(hr:SrR M n k c r):Spec Aa 171 [sT M,.i .i64 k,.i .i64 c] (.i .i64 r):=by
 obtain⟨L,hL,hLl,hLg⟩:=vG M;have hMl:=hM.1;have hLn:(L.length:Int)=(n:Int):=by omega
 have hLn':L.length=n:=by omega
 have hm1:Ah.wrap (-1)=-1:=by decide
 rw[hL];refine aX (N:=27) Tryz.func171 ?_;simp[-O,-ξ,↓KW,hm1];refine aY (τ:=Nat) (λi=>k<=i/\i<=n/\∀j,k<=j->j<i->enN M j c=0) (λi=>seS L k c i) (λi=>n-i) k ⟨Ay _,hk,λj h1 h2=>by omega⟩ ?_ ?_
 ·unfold seS;refine wkQ [] ?_ ?_<;>simp[-O,upd,aL,Γ0]
 ·rintro i ⟨hki,hin,hz⟩;by_cases hlt:i<n
  ·obtain⟨v,hv⟩:∃v,M[i]? = some v:=⟨_,Ab (by omega)⟩;have hLi:=hLg i v hv;have hLi':=bP hLi;obtain⟨U,hU,hUl,hUg⟩:=qP v;have hgv:M.getD i []=v:=by rw[Ac,hv];rfl
   have hvl:v.length=n:=by have:=(hM.2 i hlt).1;rwa [hgv]at this
   have hcv:c<v.length:=by omega
   have hUc:=hUg c hcv;have hUc':=bP hUc;have hcU:c<U.length:=by omega
   obtain⟨x,hx⟩:∃x,v[c]! = x:=⟨_,rfl⟩;have hen:enN M i c=x:=by unfold enN;rw[hgv,Ac,Ab hcv,<-hx,B7 v c hcv];rfl
   rw[hU]at hLi hLi';rw[hx]at hUc hUc';have hw0:Ah.wrap (i:Int)=i:=aP;have hwc:Ah.wrap (c:Int)=c:=aP;have hw1:Ah.wrap ((i:Int)+1)=((i+1:Nat):Int):=aP;have hltI:(i:Int)<(n:Int):=by omega
   by_cases hx0:x=0
   ·subst hx0;simp[-O,-ξ,↓KW,seS,hLn,hLn',hlt,hltI,hLi,hLi',hcU,hUc,hUc',hw0,hwc,hw1];refine aI (i+1) ⟨by omega,by omega,λj h1 h2=>?_⟩ (by show n-(i+1)<n-i;omega) ?_
    ·by_cases hj:j=i
     ·rw[hj];exact hen
     ·exact hz j h1 (by omega)
    ·show ∃ρ,Wk _ (seS _ _ _ _) ρ;unfold seS;refine wkQ [] ?_ ?_<;>simp[-O,upd,aL,Γ0]
   ·have hx1:((x:Int)==0)=false:=by rw[CO];omega
    have hri:r=i:=by
     rcases hr with ⟨_,h⟩|⟨i',rfl,h1,h2,h3,h4⟩
     ·exact absurd (hen ▸ h i hki hlt) hx0
     ·rcases Nat.lt_trichotomy i i' with h|h|h
      ·exact absurd (hen ▸ h4 i hki h) hx0
      ·rw[h]
      ·exact absurd (hz i' h1 h) h3
    subst hri;simp[-O,-ξ,↓KW,seS,hLn,hLn',hlt,hltI,hLi,hLi',hcU,hUc,hUc',hw0,hwc,hx0,hx1];exact aS (by simp[-O,-ξ,↓KW])
  ·have hltI:¬(i:Int)<(n:Int):=by omega
   have hri:r=-1:=by
    rcases hr with ⟨h,_⟩|⟨i',rfl,h1,h2,h3,h4⟩
    ·exact h
    ·exact absurd (hz i' h1 (by omega)) h3
   subst hri;simp[-O,-ξ,↓KW,seS,hLn,hLn',hlt,hltI];exact aS (by simp[-O,-ξ,↓KW])
def vF(l:List Nat):∃L,bU l=.sl L/\L.length=l.length/\∀(i n:Nat),l[i]? = some n->L[i]? = some [.i .u64 (n:Int)]:=⟨_,rfl,by simp,λi n h=>by rw[Ag,h];rfl⟩
def bUz[M:Mch Aa](p x:Nat)(h:x<p):Spec Aa 202 [.i .u64 x,.pt [.i .u64 p]] (.b false):=by
 have h1:¬(p:Int)<=(x:Int):=by omega
 have h2:¬p<=x:=by omega
 refine aX (N:=7) Tryz.func202 ?_;simp[-O,-ξ,↓KW,↓aE,↓aA,↓aF,↓aG,h1,h2]
def aRy[M:Mch Aa](p:Nat)(v:List Nat)(hv:∀x∈v,x<p)(hl:v.length<=1000000):Spec Aa 204 [bU v,.fn 202 [.pt [.i .u64 p]]] (.i .i64 (-1)):=by
 obtain⟨L,hL,hLl,hLg⟩:=vF v;have hm1:Ah.wrap (-1)=-1:=by decide
 rw[hL];refine aX (N:=19) Tryz.func204 ?_;simp[-O,-ξ,↓KW,↓aE,↓aA,↓aF,↓aG];refine cB (λi:Nat=>i<=v.length) (λi=>StL [(0,.d (.sl L)),(1,.d (.fn 202 [.pt [.i .u64 p]])),(7,.d (.i .i64 (L.length:Int))),(8,.d (.i .i64 (i:Int)))] none []) (λi=>v.length-i) 0 (A1 _) ?_ ?_
 ·refine wkQ [] ?_ ?_<;>simp[-O,upd,aL,Γ0]
 ·intro i hi;by_cases hgo:i<v.length
  ·obtain⟨x,hx⟩:∃x,v[i]? = some x:=⟨_,Ab hgo⟩;have hLi:=hLg i x hx;have hLi':=bP hLi;have hiL:i<L.length:=by omega
   have hw:Ah.wrap ((i:Int)+1)=((i+1:Nat):Int):=aP;have hw0:Ah.wrap (i:Int)=i:=aP;have hS:=bUz (M:=M) p x (hv x (Aj hx));simp[-O,-ξ,↓KW,↓aE,↓aA,↓aF,↓aG,hiL,hLi,hLi',hw0];refine aOi (ds:=[.i .u64 x,.pt [.i .u64 p]]) (by rfl) hS ?_;simp[-O,-ξ,↓KW,↓aE,↓aA,↓aF,↓aG,hw];refine aI (i+1) hgo (slQ hgo) (wkQ [] ?_ ?_)<;>simp[-O,upd,aL,Γ0]
  ·have hiL:¬i<L.length:=by omega
   simp[-O,-ξ,↓KW,↓aE,↓aA,↓aF,↓aG,hiL,hm1]
def aEg[M:Mch Aa](p:Nat)(v:List Nat)(hv:∀x∈v,x<p)(hl:v.length<=1000000):Spec Aa 201 [bU v,.fn 202 [.pt [.i .u64 p]]] (.b false):=by have hS:=aRy (M:=M) p v hv hl;obtain⟨L,hL,hLl,hLg⟩:=vF v;rw[hL]at hS ⊢;refine aX (N:=9) Tryz.func201 ?_;simp[-O,-ξ,↓KW,↓aE,↓aA,↓aF,↓aG];refine aC hS ?_;simp[-O,-ξ,↓KW,↓aE,↓aA,↓aF,↓aG]
def aTc[M:Mch Aa](p:Nat)(v:List Nat)(hv:∀x∈v,x<p)(hl:v.length<=1000000):Spec Aa 191 [.i .u64 p,bU v] (.b true):=by have hS:=aEg (M:=M) p v hv hl;obtain⟨L,hL,hLl,hLg⟩:=vF v;rw[hL]at hS ⊢;refine aX (N:=9) Tryz.func191 ?_;simp[-O,-ξ,↓KW,↓aE,↓aA,↓aF,↓aG];refine aC hS ?_;simp[-O,-ξ,↓KW,↓aE,↓aA,↓aF,↓aG]
def sU(p n:Nat)(M:List (List Nat)):D:=.ag [.i .u64 p,.i .i64 (n:Int),sT M]
def aVb[M0:Mch Aa](p n:Nat)(M:List (List Nat))(hn:n<=1000)(hM:RwM p n M)(hP:Spec Aa 52 [.i .u64 p] (.b true)):Spec Aa 169 [sU p n M] (.b true):=by
 obtain⟨L,hL,hLl,hLg⟩:=vG M;have hMl:=hM.1;have hLn:(L.length:Int)=(n:Int):=by omega
 have hLn':L.length=n:=by omega
 have hn0:¬(n:Int)<0:=by omega
 unfold sU;rw[hL];refine aX (N:=34) Tryz.func169 ?_;simp[-O,-ξ,↓KW];refine aC hP ?_;simp[-O,-ξ,↓KW,hn0,hLn,hLn'];refine aY (τ:=Nat) (λi=>i<=n) (λi=>StL [(1,.ptr 1 0),(15,.d (.sl L)),(16,.d (.i .i64 n)),(17,.d (.i .i64 (i:Int)))] none [.cells 162 [.d (.i .u64 p),.d (.i .i64 n),.d (.sl L)]]) (λi=>n-i) 0 (A1 _) ?_ ?_
 ·refine wkQ [1] ?_ ?_<;>simp[-O,upd,aL,Γ0]
 ·intro i hi;by_cases hlt:i<n
  ·obtain⟨v,hv⟩:∃v,M[i]? = some v:=⟨_,Ab (by omega)⟩;have hLi:=hLg i v hv;have hLi':=bP hLi;have hiL:i<L.length:=by omega
   have hgv:M.getD i []=v:=by rw[Ac,hv];rfl
   have hMv:=hM.2 i hlt;rw[hgv]at hMv;have hB:=aTc (M:=M0) p v hMv.2 (by omega);obtain⟨U,hU,hUl,_⟩:=vF v;rw[hU]at hLi hLi' hB;have hUn:(U.length:Int)=(n:Int):=by omega
   have hUn':U.length=n:=by omega
   have hw0:Ah.wrap (i:Int)=i:=aP;have hw1:Ah.wrap ((i:Int)+1)=((i+1:Nat):Int):=aP;have hltI:(i:Int)<(n:Int):=by omega
   simp[-O,-ξ,↓KW,hlt,hltI,hiL,hLi,hLi',hUn,hUn',hw0];refine aC hB ?_;simp[-O,-ξ,↓KW,hw1];refine aI (i+1) hlt (by show n-(i+1)<n-i;omega) ?_;show ∃ρ,Wk _ (StL _ _ _) ρ;refine wkQ [1] ?_ ?_<;>simp[-O,upd,aL,Γ0]
  ·have hltI:¬(i:Int)<(n:Int):=by omega
   simp[-O,-ξ,↓KW,hlt,hltI];exact aS (by simp[-O,-ξ,↓KW])
def qB(v:Nat->AV)(o:HO)(m id:Nat):(jH v (λ_=>[o]) m).H id=if id=m then some o else none:=by
 simp only[jH,gX,BN];by_cases h:id=m
 ·rw[Aq h,Aq (by omega),h,CU];rfl
 ·rw[Ai h,Ai (by omega)]
def bNq{Γ:Nat->AV}{H:Hp}{n b l s:Nat}{e:TypeId}{dl:List D}(hn:n≠0)(hH:H b=some (.cells e (dl.map .d))) :
  ∀m,0<m->∃ρ,Wk ⟨upd Γ 0 (.own b 0 l s),H,n⟩ (jH (λm=>.own m 0 l s) (λ_=>[.cells e (dl.map .d)]) m) ρ:=by
 intro m hm
 refine⟨λ_=>b,λid hid=>?_,λt=>?_,λid o' ho=>?_,λid id' h1 h2 _=>?_,λh=>?_,λh=>absurd h ?_⟩
 ·rw[qB,Ai (by simp only[jH,BN]at hid;omega)]
 ·show Sub _ _ _ _ (upd (λ_=>.any) 0 (.own m 0 l s) t)
  by_cases e:t=0
  ·subst e
   simp only[upd_same]
   exact⟨rfl,rfl,rfl,rfl,by rw[qB,Aq rfl];rfl⟩
  ·rw[upd_ne _ _ e];exact rF _
 ·rw[qB]at ho
  split at ho
  ·injection ho with ho;subst ho
   exact⟨_,hH,nB _ _⟩
  ·cases ho
 ·rw[qB]at h1 h2
  split at h1
  ·split at h2
   ·omega
   ·cases h2
  ·cases h1
 ·rw[qB,Ai (by omega)]at h;cases h
 ·simp only[jH,BN];omega
def cAs[M:Mch Aa](v:List Nat)(h0:v≠[])(h:v.length<=1000000):sW Aa 192 [bU v] (λm=>.own m 0 v.length 1) (λ_=>[.cells 51 ((dU v).map .d)]):=by
 refine aBf (N:=8) aR Tryz.func192 rfl rfl rfl (by decide) (by kernel_rfl) (by kernel_rfl) (by simp) rfl ?_;obtain⟨x,w,rfl⟩:∃x w,v=x::w:=by
  cases v with
  |nil=>exact absurd rfl h0
  |cons x w=>exact⟨x,w,rfl⟩
 have hb:(w.length+1)*8<=140737488355328/\w.length+1<=maxLen:=by simp only[Ak]at h;exact⟨by omega,bJ (by omega)⟩
 have hcs:dU (x::w)=D.i .u64 x::dU w:=rfl;have hfl:(Cj (Cj AV.d) (Cj (λ(p:Nat)=>[D.i .u64 (p:Int)]) w)).flatten=(dU w).map AV.d:=aVz w;have hone:(∀y:D,y∈dU w->one (AV.d y)=true)=True:=eq_true λy hy=>by obtain⟨z,_,rfl⟩:=AM.1 hy;rfl
 have hdl:=dZ w;simp[-O,-ξ,↓KW,bU,hb,hfl,hcs,hone,hdl];refine bNq (e:=51) (dl:=dU (x::w)) (by decide) ?_;rw[Aq rfl,hcs];simp[fU,dY,Function.comp_def]
def iY(v:List Nat):HO:=.cells 51 ((dU v).map .d)
def hdI(ids:List Nat)(c:Nat):List AV:=ids.map λj=>AV.own j 0 c 1
def idR(n m:Nat):List Nat:=(AN n).map (·+m)
def bSw(n m:Nat):(idR n m).length=n:=by simp[idR]
def zM{n m i:Nat}(h:i<n):(idR n m)[i]? = some (i+m):=by unfold idR;rw[Ag,Bq h];rfl
def mU(c:Nat)(M:List (List Nat))(m:Nat):List HO:=.cells 46 (hdI (idR M.length (m+1)) c)::M.map iY
def aIu(c:Nat)(M:List (List Nat))(m:Nat):(mU c M m).length=M.length+1:=by simp[mU]
def oG{ids:List Nat}{c i j:Nat}(h:ids[i]? = some j):(hdI ids c)[i]? = some (.own j 0 c 1):=by unfold hdI;rw[Ag,h];rfl
def bNp{Γ:Nat->AV}{H:Hp}{n:Nat}{av:AV}{R c m0:Nat}{M:List (List Nat)}(hM:M.length=R)(hn:n≠0)(hav:av=.own m0 0 R 1)(hH:∀(i:Nat) o,(mU c M m0)[i]? = some o->H (i+m0)=some o) :
  ∀m,0<m->∃ρ,Wk ⟨upd Γ 0 av,H,n⟩ (jH (λm=>.own m 0 R 1) (mU c M) m) ρ:=by
 intro m hm0
 subst hav
 have hML:(mU c M m).length=R+1:=by rw[aIu,hM]
 have hin:∀i,i<R+1->(jH (λm=>.own m 0 R 1) (mU c M) m).H (i+m)=(mU c M m)[i]? := λi h=>by simp only[jH,gX];rw[Aq ⟨by omega,by rw[hML];omega⟩,DY]
 have hout:∀id,¬(m<=id/\id<m+(R+1))->(jH (λm=>.own m 0 R 1) (mU c M) m).H id=none:=λid h=>by simp only[jH,gX];rw[Ai (by rw[hML];exact h)]
 have hsome:∀id,((jH (λm=>.own m 0 R 1) (mU c M) m).H id).isSome=true->∃i,id=i+m/\i<R+1:=λid h=>by
  by_cases hr:m<=id/\id<m+(R+1)
  ·exact⟨id-m,by omega,by omega⟩
  ·rw[hout id hr]at h;cases h
 have hget:∀i,i<R+1->((jH (λm=>.own m 0 R 1) (mU c M) m).H (i+m)).isSome=true:=λi h=>by rw[hin i h,Ab (by rw[hML];exact h)];rfl
 refine⟨λid=>id-m+m0,λid hid=>hout id (by simp only[jH]at hid;rw[hML]at hid;omega),λt=>?_,λid o' ho=>?_,λid id' h1 h2 e=>?_,λh=>?_,λh=>?_⟩
 ·show Sub _ _ _ _ (upd (λ_=>.any) 0 (.own m 0 R 1) t)
  by_cases e:t=0
  ·subst e
   simp only[upd_same]
   exact⟨by simp,rfl,rfl,rfl,by have:=hget 0 (by omega);rwa [AA]at this⟩
  ·rw[upd_ne _ _ e];exact rF _
 ·obtain⟨i,rfl,hi⟩:=hsome id (by rw[ho];rfl)
  rw[hin i hi]at ho
  simp only[DY]
  rcases i with _|i
  ·simp only[mU,BX]at ho
   injection ho with ho;subst ho
   refine⟨_,hH 0 _ rfl,dS.2 ⟨rfl,dO.2 ⟨by simp[hdI,idR],λk x y h1 h2=>?_⟩⟩⟩
   have hlt:k<M.length:=by have:=(Ao.1 h1).1;simpa[hdI,idR]using this
   rw[oG (zM hlt)]at h1 h2
   injection h1 with h1;injection h2 with h2;subst h1;subst h2
   rw[hM]at hlt
   exact⟨by show k+(m0+1)=k+(m+1)-m+m0;omega,rfl,rfl,rfl,by have:=hget (k+1) (by omega);rwa [show k+1+m=k+(m+1)by omega]at this⟩
  ·refine⟨o',hH (i+1) o' (by simpa only[mU,BB]using ho),?_⟩
   simp only[mU,BB,Ag]at ho
   obtain⟨v,_,rfl⟩:=Af.1 ho
   exact nB _ _
 ·obtain⟨i,rfl,_⟩:=hsome id h1
  obtain⟨j,rfl,_⟩:=hsome id' h2
  have e':i+m-m+m0=j+m-m+m0:=e
  omega
 ·obtain⟨i,hi,_⟩:=hsome 0 h;omega
 ·simp only[jH]at h;omega
def hdC(n c i:Nat):List AV:=hdI (idR i 2) c++Av (n-i) .nil
def bTb{n c i:Nat}(h:i<=n):(hdC n c i).length=n:=by simp[hdC,hdI,idR];omega
def aNl(i m:Nat):idR (i+1) m=idR i m++[i+m]:=by simp[idR,List.range_succ]
def bTa{n c i:Nat}(h:i<n):(hdC n c i).set i (.own (i+2) 0 c 1)=hdC n c (i+1):=by
 unfold hdC;have hl:(hdI (idR i 2) c).length=i:=by simp[hdI,idR]
 rw[Da _ _ (by omega),hl,CU,show n-i=(n-(i+1))+1 by omega,Cz,CL,aNl];simp[hdI]
def aRs(l:List AV)(off:Nat)(x:AV)(h:off<l.length):lay l off [x]=l.set off x:=by
 have h1:off+[x].length<=l.length:=by simp;omega
 apply CH;intro k;rw[zK h1,CW];by_cases e:off=k
 ·subst e;simp[h]
 ·rw[Ai (by simp;omega),Ai e]
def cpH(n c:Nat)(M:List (List Nat))(i:Nat):Hp:=jE 1 (.cells 46 (hdC n c i)::(M.take i).map iY)
def zR{n c i j:Nat}{M:List (List Nat)}{v:List Nat}(hj:j<i)(hv:M[j]? = some v):cpH n c M i (j+2)=some (iY v):=by unfold cpH;rw[show j+2=(j+1)+1 by omega,qO,BB,Ag,Bt,Aq hj,hv];rfl
def vN{n c i id:Nat}{M:List (List Nat)}(hi:i<=M.length)(h:i+2<=id):cpH n c M i id=none:=aCf (by simp;omega)
def aNz{n c i:Nat}{M:List (List Nat)}(hi:i<=M.length){H:Hp}{id:Nat}{o:HO}(ho:cpH n c M i id=some o):nO H (cpH n c M i) (λi=>i) o o:=by
 refine aCe (λo ho=>?_) ho;have hlen:(HO.cells 46 (hdC n c i)::(M.take i).map iY).length=i+1:=by simp;omega
 rw[hlen];rcases Bn.1 ho with rfl|ho
 ·refine A3.2 λx hx=>?_
  rcases BP.1 hx with hx|hx
  ·obtain⟨j,hj,rfl⟩:=AM.1 hx;obtain⟨k,hk,rfl⟩:=AM.1 hj;have:=Cr.1 hk;simp only[rfC,BC];omega
  ·rw[El hx];rfl
 ·obtain⟨v,_,rfl⟩:=AM.1 ho;refine A3.2 λc hc=>?_
  obtain⟨x,_,rfl⟩:=AM.1 hc;rfl
def aCp[M0:Mch Aa](n c:Nat)(M:List (List Nat))(hn:n<=1000)(hM:M.length=n)(hr:∀v∈M,v.length=c)(hc:0<c)(hc1:c<=1000):sW Aa 170 [sT M] (λm=>.own m 0 n 1) (mU c M):=by
 obtain⟨L,hL,hLl,hLg⟩:=vG M;have hLn:(L.length:Int)=(n:Int):=by omega
 have hLn':L.length=n:=by omega
 have m1:¬(n:Int)<0:=by omega
 have hm3:24*(n:Int)<=281474976710656:=by omega
 have hm4:(n:Int)<=9223372036854775807:=by omega
 rw[hL];refine aBf (N:=23) aR Tryz.func170 rfl rfl rfl (by decide) (by kernel_rfl) (by kernel_rfl) (by simp) rfl ?_;simp[-O,-ξ,↓KW,hLn,hLn',m1,hm3,hm4,bJ];refine cB (λi:Nat=>i<=n) (λi=>⟨gK [(3,.own 1 0 n 1),(9,.d (.sl L)),(10,.d (.i .i64 n)),(11,.d (.i .i64 (i:Int)))],cpH n c M i,i+2⟩) (λi=>n-i) 0 (A1 _) ?_ ?_
 ·refine⟨_,lX ?_ (λid o' ho=>?_) (λid hid=>vN (by omega) hid) (by simp)⟩
  ·have g1:(cpH n c M 0 1).isSome=true:=rfl;simp[-O,upd,aL,Γ0,g1]
  ·refine⟨o',?_,aNz (by omega) ho⟩;have hid:id=1:=by
    rcases A4 id 2 with h|h
    ·rcases A7 id with h0|h0
     ·subst h0;cases ho
     ·omega
    ·rw[vN (by omega) h]at ho;cases ho
   subst hid;have e:cpH n c M 0 1=some (.cells 46 (Av n .nil)):=by show some (HO.cells _ (hdC n c 0))=_;simp[hdC,hdI,idR]
   rw[e]at ho;simpa[upd]using ho
 ·intro i hi;by_cases hlt:i<n
  ·obtain⟨v,hv⟩:∃v,M[i]? = some v:=⟨_,Ab (by omega)⟩;have hLi:=hLg i v hv;have hLi':=bP hLi;have hiL:i<L.length:=by omega
   have hvl:=hr v (Aj hv);have hv0:v≠[]:=λe=>by rw[e]at hvl;simp at hvl;omega
   have hCl:=cAs (M:=M0) v hv0 (by omega);rw[hvl]at hCl;have q1:(i:Int)<n:=by omega
   have hw0:Ah.wrap (i:Int)=i:=aP;have hw1:Ah.wrap ((i:Int)+1)=((i+1:Nat):Int):=aP;have hH1:cpH n c M i 1=some (.cells 46 (hdC n c i)):=rfl;have hhl:=bTb (c:=c) hi;have hset:=bTa (c:=c) hlt;have hly:lay (hdC n c i) i [.own (i+2) 0 c 1]=hdC n c (i+1):=by rw[aRs _ _ _ (by omega),hset]
   have hne1:¬1=i+2:=by omega
   have hi1:i+1<=n:=hlt;have hrow:=λj (hj:j<i+1) (w:List Nat) (hw:M[j]? = some w)=>zR (n:=n) (c:=c) hj hw
   have hold:∀id,id≠1->id≠i+2->cpH n c M (i+1) id=cpH n c M i id:=λid h1 h2=>by
    rcases A7 id with h0|h0
    ·subst h0;rfl
    ·obtain⟨j,rfl⟩:∃j,id=j+2:=⟨id-2,by omega⟩;by_cases hj:j<i
     ·have hjM:M[j]? = some (M.getD j []):=by rw[Ac,Ab (by omega)];rfl
      rw[zR hj hjM,zR (by omega) hjM]
     ·rw[vN (by omega) (by omega),vN (by omega) (by omega)]
   have htop:=λid=>vN (n:=n) (c:=c) (M:=M) (i:=i+1) (id:=id) (by omega)
   have hself:=λ(H:Hp) id o=>aNz (n:=n) (c:=c) (M:=M) (i:=i+1) (by omega) (H:=H) (id:=id) (o:=o)
   have hnew:=hrow i (by omega) v hv;have hn1:cpH n c M (i+1) 1=some (.cells 46 (hdC n c (i+1))):=rfl;generalize hHg:cpH n c M i=H at *;generalize hKg:cpH n c M (i+1)=K at *;generalize hdC n c i=cs at *;generalize hdC n c (i+1)=cs1 at *;simp[-O,-ξ,↓KW,q1,hlt,hiL,hLi,hLi',hw0];refine lI [bU v] (λm=>.own m 0 c 1) (λ_=>[.cells 51 ((dU v).map .d)]) (by simp) (by simp) (by simp) (by rfl) (by rfl) hCl ?_;simp[-O,-ξ,↓KW,vE,hne1,hH1,hhl,hlt,hi1,hly,hw0,hw1];refine aI (i+1) hi1 (by show n-(i+1)<n-i;omega) ?_;rw[hKg];refine⟨_,lX ?_ (λid o' ho=>?_) (λid hid=>htop id hid) (by simp)⟩
   ·simp[-O,upd,aL,Γ0,hn1]
   ·refine⟨o',?_,hself _ _ _ ho⟩;by_cases h1:id=1
    ·subst h1;rw[hn1]at ho;simpa[upd]using ho
    ·by_cases h2:id=i+2
     ·subst h2;rw[hnew]at ho;simpa[upd,iY]using ho
     ·rw[hold id h1 h2]at ho;simpa[upd,h1,h2]using ho
  ·have q1:¬(i:Int)<n:=by omega
   have hin:i=n:=by omega
   subst hin;have hmb:∀(j:Nat) o,(mU c M 1)[j]? = some o->cpH i c M i (j+1)=some o:=λj o h=>by
    rcases j with _|j
    ·simp only[mU,BX]at h;injection h with h;subst h
     show some (HO.cells _ (hdC i c i))=_;unfold hdC;rw[CU,List.replicate_zero,Ea,hM]
    ·simp only[mU,BB,Ag]at h;obtain⟨v,hv,rfl⟩:=Af.1 h;exact zR (by have:=(Ao.1 hv).1;omega) hv
   generalize hHg:cpH i c M i=H at *;simp[-O,-ξ,↓KW,q1];exact bNp hM (Nat.succ_ne_zero _) rfl hmb
def iZ:List Nat->List (List Nat)->Nat->Option HO
 |j::ids,v::M,id=>if id=j then some (iY v)else iZ ids M id
 |_,_,_=>none
def fV:∀{ids:List Nat} {M:List (List Nat)} {id:Nat} {o:HO},iZ ids M id=some o->∃(i:Nat) (v:List Nat),ids[i]? = some id/\M[i]? = some v/\o=iY v
 |[],M,id,o,h=>by cases M<;>cases h
 |j::ids,[],id,o,h=>by cases h
 | j::ids,v::M,id,o,h=>by
  unfold iZ at h;split at h
  ·rename_i e;injection h with h;exact⟨0,v,by simp[e],rfl,h.symm⟩
  ·obtain⟨i,w,h1,h2,h3⟩:=fV h;exact⟨i+1,w,h1,h2,h3⟩
def jN:∀{ids:List Nat} {M:List (List Nat)} {i id:Nat} {v:List Nat},ids.Nodup->ids[i]? = some id->M[i]? = some v->iZ ids M id=some (iY v)
 |[],M,i,id,v,_,h,_=>by simp at h
 |j::ids,[],i,id,v,_,_,h=>by simp at h
 | j::ids,w::M,0,id,v,_,h1,h2=>by simp at h1 h2;subst h1;subst h2;unfold iZ;rw[Aq rfl]
 | j::ids,w::M,i+1,id,v,hn,h1,h2=>by
  have h1':ids[i]? = some id:=by simpa using h1
  have hne:id≠j:=λe=>(Df.1 hn).1 (by rw[<-e];exact Aj h1')
  unfold iZ;rw[Ai hne];exact jN (Df.1 hn).2 h1' (by simpa using h2)
def aXx{ids ids':List Nat}{M M':List (List Nat)}(hn:ids.Nodup)(hn':ids'.Nodup)(h:∀(i:Nat) (id:Nat) (v:List Nat),ids[i]? = some id->M[i]? = some v->∃j:Nat,ids'[j]? = some id/\M'[j]? = some v)
  (h':∀(i:Nat) (id:Nat) (v:List Nat),ids'[i]? = some id->M'[i]? = some v->∃j:Nat,ids[j]? = some id/\M[j]? = some v):iZ ids M=iZ ids' M':=by
 funext id
 cases h1:iZ ids M id with
 | some o =>
  obtain⟨i,v,e1,e2,rfl⟩:=fV h1
  obtain⟨j,e3,e4⟩:=h i id v e1 e2
  exact(jN hn' e3 e4).symm
 | none =>
  cases h2:iZ ids' M' id with
  |none=>rfl
  | some o =>
   obtain⟨i,v,e1,e2,rfl⟩:=fV h2
   obtain⟨j,e3,e4⟩:=h' i id v e1 e2
   rw[jN hn e3 e4]at h1;cases h1
def aEz{ids:List Nat}{M:List (List Nat)}{i id:Nat}{v:List Nat}(hn:ids.Nodup)(hl:ids.length=M.length)(hi:ids[i]? = some id)(j:Nat):iZ ids (M.set i v) j=if j=id then some (iY v)else iZ ids M j:=by
 have hil:i<M.length:=by rw[<-hl];exact(Ao.1 hi).1
 by_cases hj:j=id
 ·subst hj;rw[Aq rfl];exact jN hn hi (List.getElem?_set_self hil)
 ·rw[Ai hj];cases h1:iZ ids M j with
  | some o =>
   obtain⟨k,w,e1,e2,rfl⟩:=fV h1;refine jN hn e1 ?_;rw[Ef (λe=>by rw[e]at hi;rw[hi]at e1;injection e1 with e1;exact hj e1.symm)];exact e2
  | none =>
   cases h2:iZ ids (M.set i v) j with
   |none=>rfl
   | some o =>
    obtain⟨k,w,e1,e2,rfl⟩:=fV h2;rw[Ef (λe=>by rw[e]at hi;rw[hi]at e1;injection e1 with e1;exact hj e1.symm)]at e2;rw[jN hn e1 e2]at h1;cases h1
structure pK(n:Nat)(ids:List Nat):Prop where
 len:ids.length=n
 nd:ids.Nodup
 lo:∀j∈ids,3<=j/\j<n+3
def deH(p n:Nat)(L:List (List D))(ids:List Nat)(M:List (List Nat)):Hp:=λid =>
 if id=1 then some (.cells 162 [.d (.i .u64 p),.d (.i .i64 n),.d (.sl L)])else if id=2 then some (.cells 46 (hdI ids n))else iZ ids M id
section
variable {p n:Nat} {L:List (List D)} {ids:List Nat} {M:List (List Nat)}
def rV{i id:Nat}{v:List Nat}(h:pK n ids)(hi:ids[i]? = some id)(hv:M[i]? = some v):deH p n L ids M id=some (iY v):=by have:=h.lo id (Aj hi);unfold deH;rw[Ai (by omega),Ai (by omega)];exact jN h.nd hi hv
def aJm{id:Nat}(h:pK n ids)(hid:n+3<=id):deH p n L ids M id=none:=by
 unfold deH;rw[Ai (by omega),Ai (by omega)];cases h1:iZ ids M id with
 |none=>rfl
 | some o =>
  obtain⟨i,v,e1,_,_⟩:=fV h1;have:=h.lo id (Aj e1);omega
def aNx(h:pK n ids)(hM:M.length=n){H:Hp}{id:Nat}{o:HO}(ho:deH p n L ids M id=some o):nO H (deH p n L ids M) (λi=>i) o o:=by
 unfold deH at ho;split at ho
 ·injection ho with ho;subst ho
  refine dS.2 ⟨rfl,dO.2 ⟨rfl,λk x y h1 h2=>?_⟩⟩;rw[h1]at h2;injection h2 with h2;subst h2
  rcases k with _|_|_|k
  ·simp at h1;subst h1;exact(lF _ _).2 rfl
  ·simp at h1;subst h1;exact(lF _ _).2 rfl
  ·simp at h1;subst h1;exact(lF _ _).2 rfl
  ·simp at h1
 ·split at ho
  ·injection ho with ho;subst ho
   refine dS.2 ⟨rfl,dO.2 ⟨rfl,λk x y h1 h2=>?_⟩⟩;rw[h1]at h2;injection h2 with h2;subst h2
   unfold hdI at h1;rw[Ag]at h1;obtain⟨j,hj,rfl⟩:=Af.1 h1;have hk:k<M.length:=by rw[hM,<-h.len];exact(Ao.1 hj).1
   exact⟨rfl,rfl,rfl,rfl,by rw[rV h hj (Ab hk)];rfl⟩
  ·obtain⟨i,v,_,_,rfl⟩:=fV ho;exact nB _ _
def bTy{i id:Nat}{v:List Nat}(h:pK n ids)(hM:M.length=n)(hi:ids[i]? = some id):upd (deH p n L ids M) id (some (iY v))=deH p n L ids (M.set i v):=by
 have hlo:=h.lo id (Aj hi);funext j;unfold upd deH;by_cases hj:j=id
 ·subst hj;rw[Aq rfl,Ai (by omega),Ai (by omega),aEz h.nd (by rw[h.len,hM]) hi,Aq rfl]
 ·rw[Ai hj];split
  ·rfl
  ·split
   ·rfl
   ·rw[aEz h.nd (by rw[h.len,hM]) hi,Ai hj]
def swI(ids:List Nat)(k a:Nat):List Nat:=(ids.set k (ids.getD a 0)).set a (ids.getD k 0)
def aHj{k a r:Nat}(hk:k<ids.length)(ha:a<ids.length)(hr:r<ids.length):(swI ids k a)[r]? = some (if r=a then ids.getD k 0 else if r=k then ids.getD a 0 else ids.getD r 0):=by
 unfold swI;rw[CW];by_cases h1:a=r
 ·rw[Aq h1,Aq (by rw[CB];exact ha),Aq h1.symm]
 ·rw[Ai h1,Ai (λe=>h1 e.symm),CW];by_cases h2:k=r
  ·rw[Aq h2,Aq hk,Aq h2.symm]
  ·rw[Ai h2,Ai (λe=>h2 e.symm),Ab hr,Ac,Ab hr];rfl
def aAe{k a r:Nat}(hk:k<M.length)(ha:a<M.length)(hr:r<M.length):(swM M k a)[r]? = some (if r=a then M.getD k []else if r=k then M.getD a []else M.getD r []):=by have h:=aHi (M:=M) (k:=k) (a:=a) (r:=r) hk ha;rw[<-h,Ac,Ab (by simp[swM];exact hr)];rfl
def bDb{k a:Nat}(hk:k<ids.length)(ha:a<ids.length):(swI ids k a).Perm ids:=by
 unfold swI;by_cases e:a=k
 ·subst e;have:ids.set a (ids.getD a 0)=ids:=by rw[Ac,Ab hk];exact List.set_getElem_self hk
  rw[this,this]
 ·have h1:ids.getD a 0=ids[a]:=by rw[Ac,Ab ha];rfl
  have h2:ids.getD k 0=ids[k]:=by rw[Ac,Ab hk];rfl
  rw[h1,h2];exact List.set_set_perm hk ha
def aPx{k a:Nat}(h:pK n ids)(hk:k<n)(ha:a<n):pK n (swI ids k a):=by have hp:=bDb (ids:=ids) (k:=k) (a:=a) (by rw[h.len];exact hk) (by rw[h.len];exact ha);exact⟨by rw[hp.length_eq,h.len],hp.nodup_iff.2 h.nd,λj hj=>h.lo j (hp.mem_iff.1 hj)⟩
def aQu{k a:Nat}(h:pK n ids)(hM:M.length=n)(hk:k<n)(ha:a<n):iZ (swI ids k a) (swM M k a)=iZ ids M:=by
 have hk1:k<ids.length:=by rw[h.len];exact hk
 have ha1:a<ids.length:=by rw[h.len];exact ha
 have hk2:k<M.length:=by rw[hM];exact hk
 have ha2:a<M.length:=by rw[hM];exact ha
 have gI:∀r,r<n->ids[r]? = some (ids.getD r 0):=λr hr=>by rw[Ac,Ab (by rw[h.len];exact hr)];rfl
 have gM:∀r,r<n->M[r]? = some (M.getD r []):=λr hr=>by rw[Ac,Ab (by rw[hM];exact hr)];rfl
 refine aXx (aPx h hk ha).nd h.nd (λi id v e1 e2=>?_) λi id v e1 e2=>?_
 ·have hi:i<n:=by have:=(Ao.1 e1).1;rw[(aPx h hk ha).len]at this;exact this
  rw[aHj hk1 ha1 (by rw[h.len];exact hi)]at e1;rw[aAe hk2 ha2 (by rw[hM];exact hi)]at e2;injection e1 with e1;injection e2 with e2
  by_cases c1:i=a
  ·rw[Aq c1]at e1 e2;exact⟨k,by rw[gI k hk,e1],by rw[gM k hk,e2]⟩
  ·rw[Ai c1]at e1 e2;by_cases c2:i=k
   ·rw[Aq c2]at e1 e2;exact⟨a,by rw[gI a ha,e1],by rw[gM a ha,e2]⟩
   ·rw[Ai c2]at e1 e2;exact⟨i,by rw[gI i hi,e1],by rw[gM i hi,e2]⟩
 ·have hi:i<n:=by have:=(Ao.1 e1).1;rw[h.len]at this;exact this
  rw[gI i hi]at e1;rw[gM i hi]at e2;injection e1 with e1;injection e2 with e2
  have sI:=λr (hr:r<n)=>aHj (ids:=ids) (k:=k) (a:=a) (r:=r) hk1 ha1 (by rw[h.len];exact hr)
  have sM:=λr (hr:r<n)=>aAe (M:=M) (k:=k) (a:=a) (r:=r) hk2 ha2 (by rw[hM];exact hr)
  by_cases c1:i=a
  ·subst c1;refine⟨k,?_,?_⟩
   ·rw[sI k hk];by_cases c:k=i
    ·rw[Aq c,c,e1]
    ·rw[Ai c,Aq rfl,e1]
   ·rw[sM k hk];by_cases c:k=i
    ·rw[Aq c,c,e2]
    ·rw[Ai c,Aq rfl,e2]
  ·by_cases c2:i=k
   ·subst c2;exact⟨a,by rw[sI a ha,Aq rfl,e1],by rw[sM a ha,Aq rfl,e2]⟩
   ·exact⟨i,by rw[sI i hi,Ai c1,Ai c2,e1],by rw[sM i hi,Ai c1,Ai c2,e2]⟩
def bKi{k a:Nat}(h:pK n ids)(hM:M.length=n)(hk:k<n)(ha:a<n):upd (deH p n L ids M) 2 (some (.cells 46 (hdI (swI ids k a) n)))=deH p n L (swI ids k a) (swM M k a):=by
 funext j;unfold upd deH;rw[aQu h hM hk ha];by_cases h1:j=1
 ·subst h1;rw[Ai (by decide),Aq rfl,Aq rfl]
 ·by_cases h2:j=2
  ·subst h2;rw[Aq rfl,Ai (by decide),Aq rfl]
  ·rw[Ai h2,Ai h1,Ai h2,Ai h1,Ai h2]
def aBy{H:Hp}{B:Nat}{v:List Nat}{n:Nat}(m:Nat)(hB:H B=some (iY v))(hv:v.length=n):frz H (m+2) (.own B 0 n 1)=some (bU v)/\vis H (m+2) (.own B 0 n 1)=[B]:=by
 have hl:=dZ v;rw[hv]at hl;constructor
 ·rw[uY,hB];simp only[iY,AA,Bl,hl,DS,D4,Dj];rw[iS hv,Aq ⟨Ay _,by decide⟩];have:List.mapM (frz H (m+1)) ((dU v).map AV.d)=some (dU v):=aBi H m (dU v);rw[this,AU,nL hv];rfl
 ·simp only[vis,hB,iY,DS,D4,Dj];rw[iS hv];congr 1;refine List.flatMap_eq_nil_iff.2 λx hx=>?_
  obtain⟨y,_,rfl⟩:=AM.1 hx;rfl
def cAg(h:pK n ids)(hM:M.length=n)(hr:∀v∈M,v.length=n){H:Hp}(hH:∀id,(id=2\/id∈ids)->H id=deH p n L ids M id):frz H 8 (.own 2 0 n 1)=some (sT M):=by
 have h2:H 2=some (.cells 46 (hdI ids n)):=by rw[hH 2 (.inl rfl)];rfl
 have hl:(hdI ids n).length=n:=by simp[hdI,h.len]
 rw[uY,h2];simp only[AA,hl,DS,D4,Dj];rw[As (by rw[hl];exact Ay _),Aq ⟨Ay _,by decide⟩];have:(hdI ids n).mapM (frz H 7)=some (M.map bU):=by
  rw[mapM_some (frz H 7) (λk=>bU (M.getD k [])) _ λk x hx=>by
   have hlt:k<n:=by have:=(Ao.1 hx).1;rwa [hl]at this
   unfold hdI at hx;rw[Ag]at hx;obtain⟨j,hj,rfl⟩:=Af.1 hx;have hv:M[k]? = some (M.getD k []):=by rw[Ac,Ab (by omega)];rfl
   exact(aBy 5 (by rw[hH j (.inr (Aj hj))];exact rV h hj hv) (hr _ (Aj hv))).1]
  congr 1;apply CH;intro k;rw[hl];by_cases hk:k<n
  ·rw[Ag,Bq hk,Ag,AU,Ac,Ab (by omega)];rfl
  ·rw[AW (by simpa using hk),AW (by simpa[hM]using hk)]
 rw[this,AU,kZ _ _ (by rw[Bl,hM]),Dd];rfl
end
def bIt{H:Hp}{x:AV}{d a b:D}(h:frz H 8 x=some d):cI H [x,.d a,.d b]=some [d,a,b]:=by simp[cI,h,aGd]
def aVn(ids:List Nat)(n k j:Nat)(hk:k<ids.length):lay (hdI ids n) k [.own j 0 n 1]=hdI (ids.set k j) n:=by rw[aRs _ _ _ (by simpa[hdI]using hk)];unfold hdI;rw[Fv]
def bZz(n m:Nat):(idR n m).Nodup:=by unfold idR List.Nodup;rw[Fz];exact List.Pairwise.imp (λ{a b} h=>by omega) (List.nodup_range (n:=n))
def aIz(n:Nat):pK n (idR n 3):=⟨bSw n 3,bZz n 3,λj hj=>by
  unfold idR at hj;obtain⟨k,hk,rfl⟩:=AM.1 hj;have:=Cr.1 hk;omega⟩
def bAg(p n:Nat)(L:List (List D))(M:List (List Nat))(hM:M.length=n):gX (upd (λ_=>none) 1 (some (.cells 162 [.d (.i .u64 p),.d (.i .i64 n),.d (.sl L)]))) 2 (mU n M 2)=deH p n L (idR n 3) M:=by
 have hid:=aIz n;funext id;simp only[gX,aIu,hM];by_cases h1:2<=id/\id<2+(n+1)
 ·rw[Aq h1];obtain⟨j,rfl⟩:∃j,id=j+2:=⟨id-2,by omega⟩;rw[DY];rcases j with _|j
  ·simp only[mU,BX,deH];simp[hM]
  ·simp only[mU,BB,Ag];have hv:M[j]? = some (M[j]'(by omega)):=Ab _;rw[hv,show j+1+2=j+3 by omega,rV hid (zM (by omega)) hv];rfl
 ·rw[Ai h1];by_cases h2:id=1
  ·subst h2;simp[upd,deH]
  ·rw[upd_ne _ _ h2];rcases A7 id with h0|h0
   ·subst h0;unfold deH;rw[Ai (by omega),Ai (by omega)];cases h3:iZ (idR n 3) M 0 with
    |none=>rfl
    | some o =>
     obtain⟨i,v,e1,_,_⟩:=fV h3;have:=hid.lo 0 (Aj e1);omega
   ·rw[aJm hid (by omega)]
def dmI(p n:Nat)(D:Int)(k:Nat)(ids:List Nat)(M:List (List Nat))(d:Nat):Prop:=k<=n/\pK n ids/\RwM p n M/\SgM p n k D M d/\LoM n k M/\d<p
def dmE(p n:Nat)(D:Int)(k:Nat)(x:List Nat)(d:Nat)(j:Nat)(M:List (List Nat)):Prop:=k+1+j<=n/\RwM p n M/\SgM p n (k+1) D M d/\LoM n k M/\M.getD k []=x/\∀r,k<r->r<k+1+j->enN M r k=0
def aNb{n k:Nat}{M:List (List Nat)}(h:LoM n k M)(h0:∀r,k<r->r<n->enN M r k=0):LoM n (k+1) M:=λi j h1 h2 h3=>by
 by_cases hj:j=k
 ·rw[hj];exact h0 i (by omega) h3
 ·exact h i j (by omega) h2 h3
def bKa{p n k j d q inv u f g:Nat}{D:Int}{x y:List Nat}{M:List (List Nat)}(hn:n<=4)(hp:PrN p)(hk:k<n)(h:dmE p n D k x d j M)(hlt:k+1+j<n)(hq:x.getD k 0=q)(hq0:q≠0)(hqp:q<p)(hinv:inv=q^(p-2)%p)
  (hy:M.getD (k+1+j) []=y) (hu:y.getD k 0=u) (hf:inv*u%p=f) (hg:(0+p-f)%p=g):dmE p n D k x d (j+1) (M.set (k+1+j) (adL p y x g)):=by
 obtain⟨h1,hR,hS,hL,hx,hz⟩:=h
 have hp0:0<p:=by have:=hp.1;omega
 have hyr:=hR.2 (k+1+j) hlt
 rw[hy]at hyr
 have hxr:=hR.2 k hk
 rw[hx]at hxr
 have hfp:f<p:=hf ▸ BF _ hp0
 have hgd:=λr=>rQ (l:=M) (i:=k+1+j) (r:=r) (x:=adL p y x g) (d:=[]) (by rw[hR.1];exact hlt)
 have hgc:Cg p (g:Int) (-(f:Int)):=hg ▸ bGt hp0 hfp
 have hw:∀c,c<n->Cg p ((adL p y x g).getD c 0:Nat) ((y.getD c 0:Nat)-(f:Int)*(x.getD c 0:Nat)):=λc hc=>by rw[Ac,vV (by rw[hyr.1];exact hc),AT];refine Cg.modN.trans ?_;rw[DM,show((y.getD c 0:Nat):Int)-(f:Int)*(x.getD c 0:Nat)=(y.getD c 0:Nat)+(-(f:Int))*(x.getD c 0:Nat)by rw[Gs];omega];refine(Cg.refl _ _).add (Cg.modN.trans ?_);rw[Cd];exact hgc.mul (Cg.refl _ _)
 have hlen:(adL p y x g).length=n:=by rw[kU];exact hyr.1
 have hwlt:∀z∈adL p y x g,z<p:=λz hz=>by obtain⟨c,_,rfl⟩:=AM.1 hz;exact BF _ hp0
 have hwk:(adL p y x g).getD k 0=0:=by
  have h2:=hw k hk;rw[hu,hq]at h2;have h3:Cg p ((f:Int)*(q:Int)) (u:Int):=by
   rw[<-hf];have e1:Cg p ((inv*u%p:Nat):Int) ((inv:Int)*(u:Int)):=by have:=Cg.modN (p:=p) (a:=inv*u);rwa [Cd]at this
   refine(e1.mul (Cg.refl _ (q:Int))).trans ?_;have e2:Cg p ((inv:Int)*(q:Int)) 1:=by
    have h5:=aCd hp (a:=q) (by rw[BY hqp];exact hq0);refine⟨((inv*q:Nat):Int)/p,?_⟩;have h6:(inv*q)%p=1:=by rw[hinv,Nat.mod_mul_mod];exact h5
    have h7:((inv*q:Nat):Int)%(p:Int)=1:=by exact_mod_cast congrArg (Nat.cast (R:=Int)) h6
    have h8:=FD ((inv*q:Nat):Int) (p:Int);rw[h7]at h8;rw[<-Cd];omega
   have:=e2.mul (Cg.refl _ (u:Int));rw[Int.one_mul]at this;rwa [show(inv:Int)*u*q=inv*q*u by rw[FN,Int.mul_comm (u:Int),<-FN]]
  have h4:Cg p ((adL p y x g).getD k 0:Nat) 0:=h2.trans (by have:=(Cg.refl (p:Int) (u:Int)).sub h3;rwa [Int.sub_self]at this);have h5:=h4.eq;have h6:(adL p y x g).getD k 0<p:=by rw[Ac,vV (by rw[hyr.1];exact hk)];exact BF _ hp0
  have h7:(adL p y x g).getD k 0%p=0:=by rw[GG]at h5;exact_mod_cast h5
  rwa [BY h6]at h7
 refine⟨by omega,⟨by rw[CB];exact hR.1,λr hr=>?_⟩,?_,λr c h2 h3 h4=>?_,by rw[hgd,Ai (by omega)];exact hx,λr h2 h3=>?_⟩
 ·rw[hgd]
  split
  ·exact⟨hlen,hwlt⟩
  ·exact hR.2 r hr
 ·refine bYa (k:=k) (K:=k+1) (a:=k+1+j) (f:Int) (adL p y x g) hn hR (by omega) hlt (by omega) (λc hc=>?_) hS
  have:=hw c hc
  unfold enN
  rw[hy,hx];exact this
 ·unfold enN
  rw[hgd]
  split
  ·rename_i e
   have h0:Cg p ((adL p y x g).getD c 0:Nat) 0:=by
    have h5:=hw c (by omega);have e1:y.getD c 0=0:=by have:=hL (k+1+j) c h2 (by omega) hlt;unfold enN at this;rwa [hy]at this
    have e2:x.getD c 0=0:=by have:=hL k c h2 (by omega) hk;unfold enN at this;rwa [hx]at this
    rw[e1,e2]at h5;simpa using h5
   have h5:=h0.eq
   have h6:(adL p y x g).getD c 0<p:=by rw[Ac,vV (by rw[hyr.1];omega)];exact BF _ hp0
   have h7:(adL p y x g).getD c 0%p=0:=by rw[GG]at h5;exact_mod_cast h5
   rwa [BY h6]at h7
  ·exact hL r c h2 h3 h4
 ·unfold enN
  rw[hgd]
  split
  ·exact hwk
  ·exact hz r h2 (by omega)
def dmS(p n:Nat)(L:List (List D))(ids:List Nat)(M:List (List Nat))(d k:Nat):St:=⟨gK [(1,.ptr 1 0),(4,.own 2 0 n 1),(5,.d (.i .u64 d)),(28,.d (.i .i64 n)),(29,.d (.i .i64 (k:Int)))],deH p n L ids M,n+3⟩
def aSm(p n:Nat)(L:List (List D))(ids:List Nat)(M:List (List Nat))(d k m v j:Nat):St:=⟨gK [(1,.ptr 1 0),(4,.own 2 0 n 1),(5,.d (.i .u64 d)),(6,.d (.i .i64 (k:Int))),(8,.d (.i .u64 v)),(28,.d (.i .i64 n)),(29,.d (.i .i64 (k:Int))),(86,.own 2 (k+1) m 1),(87,.d (.i .i64 m)),(88,.d (.i .i64 (j:Int)))],deH p n L ids M,n+3⟩
def aTs{p n:Nat}{L:List (List D)}{ids:List Nat}{M:List (List Nat)}{Γ:Nat->AV}{S:List (Nat×AV)}(hI:pK n ids)(hM:M.length=n)(h:jR (deH p n L ids M) (deH p n L ids M) (λi=>i) Γ S):∃ρ,Wk ⟨Γ,deH p n L ids M,n+3⟩ ⟨gK S,deH p n L ids M,n+3⟩ ρ :=
 ⟨_,lX h (λid o' ho=>⟨o',ho,aNx hI hM ho⟩) (λid hid=>aJm hI hid) (by simp)⟩
def bKg{p n:Nat}{L:List (List D)}{ids:List Nat}{M:List (List Nat)}:(deH p n L ids M 2).isSome=true:=rfl
def bKh{p n:Nat}{L:List (List D)}{ids:List Nat}{M:List (List Nat)}:(deH p n L ids M 1).isSome=true:=rfl
def bZh[M0:Mch Aa](p n:Nat)(A:List (List Int))(hn:n<=4)(hn0:0<n)(hp:PrN p)(hp1:p<2147483648)(hA:A.length=n)(hr:∀v∈A,v.length=n)(hP:Spec Aa 52 [.i .u64 p] (.b true)) :
  Spec Aa 120 [sU p n (fC p A)] (.tp [.i .u64 (kG n A%(p:Int)),.i .i64 0]):=by
 have hp0:0<p:=by have:=hp.1;omega
 have hp2:p<=2147483648:=by omega
 have hMr:=bPv hp0 hA hr
 have hSt:=aXl hp0 hA
 obtain⟨D,hD⟩:∃D,kG n A=D:=⟨_,rfl⟩
 rw[hD]at hSt ⊢
 obtain⟨Mz,hMz⟩:∃M,fC p A=M:=⟨_,rfl⟩
 rw[hMz]at hSt hMr ⊢
 have hVl:=aVb (M0:=M0) p n Mz (by omega) hMr hP
 have hMl:=hMr.1
 have hrow:∀v∈Mz,v.length=n:=λv hv=>by obtain⟨i,hi,rfl⟩:=BM.1 hv;have:=(hMr.2 i (by omega)).1;rwa [Ac,Ab hi]at this
 have hCp:=aCp (M0:=M0) n n Mz (by omega) hMl hrow hn0 (by omega)
 obtain⟨L,hL,hLl,hLg⟩:=vG Mz
 have hLn:(L.length:Int)=(n:Int):=by omega
 have hLn':L.length=n:=by omega
 unfold sU at hVl ⊢
 rw[hL]at hVl hCp ⊢
 have hst:=bAg p n L Mz hMl
 refine aX (N:=115) Tryz.func120 ?_
 simp[-O,-ξ,↓KW]
 refine aC hVl ?_
 simp[-O,-ξ,↓KW,hLn,hLn']
 refine lI [.sl L] (λm=>.own m 0 n 1) (mU n Mz) (by simp) (by simp) (by simp) (by rfl) (by rfl) hCp ?_
 simp[-O,-ξ,↓KW,aIu,hMl,hst]
 refine aY (τ:=Nat×List Nat×List (List Nat)×Nat) (λt=>dmI p n D t.1 t.2.1 t.2.2.1 t.2.2.2) (λt=>dmS p n L t.2.1 t.2.2.1 t.2.2.2 t.1) (λt=>n-t.1) (0,idR n 3,Mz,1) ⟨A1 _,aIz n,hMr,hSt,λi j h=>absurd h (Nat.not_lt_zero _),show 1<p by have:=hp.1;omega⟩ ?_ ?_
 ·show ∃ρ,Wk _ (dmS p n L (idR n 3) Mz 1 0) ρ
  unfold dmS
  refine⟨_,lX ?_ (λid o' ho=>⟨o',ho,aNx (aIz n) hMl ho⟩) (λid hid=>aJm (aIz n) hid) (by simp)⟩
  simp[-O,upd,aL,Γ0,bKh,bKg]
 ·rintro⟨k,ids,M,d⟩ hI
  simp only at hI
  obtain⟨hkn,hI1,hR1,hS1,hLo1,hd1⟩:=hI
  have hM1l:=hR1.1
  by_cases hk:k<n
  ·obtain⟨r,hrr⟩:=bXt M n k k
   have hSe:=aQj (M0:=M0) p n k k M r (by omega) hR1 hkn hk hrr
   have hrowM:∀v∈M,v.length=n:=λv hv=>by obtain⟨i,hi,rfl⟩:=BM.1 hv;have:=(hR1.2 i (by omega)).1;rwa [Ac,Ab hi]at this
   have hfz:=cAg (p:=p) (L:=L) hI1 hM1l hrowM (H:=deH p n L ids M) λ_ _=>rfl
   have hkI:(k:Int)<(n:Int):=by omega
   have gM:∀r,r<n->M[r]? = some (M.getD r []):=λr hr=>by rw[Ac,Ab (by omega)];rfl
   have gI:∀r,r<n->ids[r]? = some (ids.getD r 0):=λr hr=>by rw[Ac,Ab (by rw[hI1.len];omega)];rfl
   generalize hHg:deH p n L ids M=H at *
   simp[-O,-ξ,↓KW,dmS,hHg,hk,hkI]
   refine bE (ds:=[sT M,.i .i64 k,.i .i64 k]) (bIt hfz) hSe ?_
   rcases hrr with ⟨rfl,hz⟩|⟨i,rfl,hki,hin,hne,hzb⟩
   ·have hD0:=bEb hn hk hS1 hLo1 hz
    simp[-O,-ξ,↓KW]
    exact aS (by simp[-O,-ξ,↓KW,dV,hD0])
   ·have hi0:¬(i:Int)<0:=by omega
    by_cases hik:i=k
    case' pos =>
     subst hik
     obtain⟨idk,hidk⟩:∃j,ids[i]? = some j:=⟨_,gI i hk⟩
     obtain⟨x,hxk⟩:∃x,M[i]? = some x:=⟨_,gM i hk⟩
     obtain⟨q,hqe⟩:∃q,x.getD i 0=q:=⟨_,rfl⟩
     have hq0:q≠0:=by
      have:M.getD i []=x:=by rw[Ac,hxk];rfl
      unfold enN at hne;rw[this,hqe]at hne;exact hne
     have hI2:=hI1
     have hR2:=hR1
     have hS2:=hS1
     have hLo2:=hLo1
     have hd2:=hd1
     clear hzb hne hfz hSe
     subst hHg
     have hii:((i:Int)==(i:Int))=true:=by simp
     simp[-O,-ξ,↓KW,hi0]
     generalize hkk:i=k at *
     generalize ids=ids2 at *
     generalize M=M2 at *
     generalize d=d2 at *
    case' neg =>
     have hki':k<i:=by omega
     have hneq:((i:Int) != (k:Int))=true:=by simp;omega
     have hneqd:¬((i:Int)=(k:Int)):=by omega
     obtain⟨idk,hidk⟩:∃j,ids[k]? = some j:=⟨_,gI k hk⟩
     obtain⟨idi,hidi⟩:∃j,ids[i]? = some j:=⟨_,gI i hin⟩
     obtain⟨xk,hxk⟩:∃x,M[k]? = some x:=⟨_,gM k hk⟩
     obtain⟨x,hxi⟩:∃x,M[i]? = some x:=⟨_,gM i hin⟩
     obtain⟨q,hqe⟩:∃q,x.getD k 0=q:=⟨_,rfl⟩
     have hq0:q≠0:=by
      have:M.getD i []=x:=by rw[Ac,hxi];rfl
      unfold enN at hne;rw[this,hqe]at hne;exact hne
     have hil:ids.length=n:=hI1.len
     have hhd:H 2=some (.cells 46 (hdI ids n)):=hHg ▸ rfl
     have hbx:H 1=some (.cells 162 [.d (.i .u64 p),.d (.i .i64 n),.d (.sl L)]):=hHg ▸ rfl
     have hgk:(hdI ids n)[k]? = some (.own idk 0 n 1):=oG hidk
     have hgi:(hdI ids n)[i]? = some (.own idi 0 n 1):=oG hidi
     have hgk':∀h,(hdI ids n)[k]'h=.own idk 0 n 1:=λh=>by rw[Ab h]at hgk;injection hgk
     have hgi':∀h,(hdI ids n)[i]'h=.own idi 0 n 1:=λh=>by rw[Ab h]at hgi;injection hgi
     have hhl:(hdI ids n).length=n:=by simp[hdI,hil]
     have hl1:lay (hdI ids n) k [.own idi 0 n 1]=hdI (ids.set k idi) n:=aVn ids n k idi (by omega)
     have hl2:lay (hdI (ids.set k idi) n) i [.own idk 0 n 1]=hdI ((ids.set k idi).set i idk) n:=aVn _ n i idk (by rw[CB];omega)
     have hhl2:(hdI (ids.set k idi) n).length=n:=by simp[hdI,hil]
     have hsw:(ids.set k idi).set i idk=swI ids k i:=by unfold swI;rw[Ac,hidi,Ac,hidk];rfl
     have hSu:=aHk (M:=M0) p 0 d hp0 hp2 (by omega) hd1
     have hk1:k+1<=n:=hk
     have hi1:i+1<=n:=hin
     simp[-O,-ξ,↓KW,hi0,hneq,hneqd,hhd,hhl,hgk,hgk',hgi,hgi',hk,hin,hk1,hi1,hl1,hl2,hhl2,hsw,hbx]
     have hHe:upd (upd H 2 (some (.cells 46 (hdI (ids.set k idi) n)))) 2 (some (.cells 46 (hdI (swI ids k i) n)))=deH p n L (swI ids k i) (swM M k i):=by rw[<-hHg,<-bKi hI1 hM1l hk hin];funext j;simp only[upd];split<;>rfl
     have hidk2:(swI ids k i)[k]? = some idi:=by rw[aHj (by omega) (by omega) (by omega),Ai (by omega),Aq rfl,Ac,hidi];rfl
     have hxk2:(swM M k i)[k]? = some x:=by rw[aAe (by omega) (by omega) (by omega),Ai (by omega),Aq rfl,Ac,hxi];rfl
     have hI2:=aPx hI1 hk hin
     have hR2:=bEr hR1 hk hin
     have hS2:=bEc hn hp0 hd1 hM1l hki' hin hS1
     have hLo2:=bHc hM1l hki' hin hLo1
     have hd2:(0+p-d)%p<p:=BF _ hp0
     refine aC hSu ?_
     rw[hHe]
     clear hHe hSu hsw hl2 hl1 hhl2 hgi' hgk' hgi hgk hhl hhd hbx hfz hSe hidi hidk hxk hxi gM gI hHg hne hzb
     generalize(0+p-d)%p=d2 at *
     generalize swI ids k i=ids2 at *
     generalize swM M k i=M2 at *
     generalize idi=idk at *
     have hidk:=hidk2
     have hxk:=hxk2
    all_goals
     have hM2l:=hR2.1
     have hx:M2.getD k []=x:=by rw[Ac,hxk];rfl
     have hid1:=hI2.lo _ (Aj hidk)
     have hrk:deH p n L ids2 M2 idk=some (iY x):=rV hI2 hidk hxk
     have hhd:deH p n L ids2 M2 2=some (.cells 46 (hdI ids2 n)):=rfl
     have hbx:deH p n L ids2 M2 1=some (.cells 162 [.d (.i .u64 p),.d (.i .i64 n),.d (.sl L)]):=rfl
     have hgk:(hdI ids2 n)[k]? = some (.own idk 0 n 1):=oG hidk
     have hgk':∀h,(hdI ids2 n)[k]'h=.own idk 0 n 1:=λh=>by rw[Ab h]at hgk;injection hgk
     have hhl:(hdI ids2 n).length=n:=by simp[hdI,hI2.len]
     have hxr:=hR2.2 k hk
     rw[hx]at hxr
     have hqx:x[k]? = some q:=by rw[Ab (by rw[hxr.1];exact hk)];rw[Ac,Ab (by rw[hxr.1];exact hk)]at hqe;exact congrArg some hqe
     have hdq:=aSn hqx
     have hdq':∀h,(dU x)[k]'h=.i .u64 (q:Int):=λh=>by rw[Ab h]at hdq;injection hdq
     have hdl:(dU x).length=n:=by rw[dZ];exact hxr.1
     have hqp:q<p:=hxr.2 q (Aj hqx)
     have hq31:q<=2147483648:=by omega
     have hMu:=nZ (M:=M0) p d2 q hp0 (Bf (A9 (C1 hd2) (C1 hqp)) (Bf (A9 hp2 hp2) (by decide)))
     have hIv:=aVi (M:=M0) p q hp.1 hp2 hqp hq0
     have hS3:SgM p n (k+1) D M2 (d2*q%p):=by
      have hen:enN M2 k k=q:=by unfold enN;rw[hx];exact hqe
      have:=bOy hS2;rwa [hen]at this
     have hd3:d2*q%p<p:=BF _ hp0
     generalize d2*q%p=d3 at *
     obtain⟨inv,hinv⟩:∃inv,q^(p-2)%p=inv:=⟨_,rfl⟩
     have hinvp:inv<p:=hinv ▸ BF _ hp0
     rw[hinv]at hIv
     have hwk:Ah.wrap (k:Int)=k:=aP
     have hwk1:Ah.wrap ((k:Int)+1)=((k+1:Nat):Int):=aP
     have hk1n:k+1<=n:=hk
     obtain⟨kI,hkI⟩:∃kI:Int,((k+1:Nat):Int)=kI:=⟨_,rfl⟩
     rw[hkI]at hwk1
     have hkI0:(0:Int)<=kI:=by omega
     have hkIn:kI<=(n:Int):=by omega
     generalize hHg:deH p n L ids2 M2=H at *
     generalize hCg:hdI ids2 n=cs at *
     simp[-O,-ξ,↓KW,hbx,hhd,hhl,hgk,hgk',hk,hwk,hrk,hdl,hdq,hdq',iY]
     refine aC hMu ?_
     simp[-O,-ξ,↓KW,hbx,hhd,hhl,hgk,hgk',hk,hwk,hrk,hdl,hdq,hdq',iY]
     refine aC hIv ?_
     by_cases hm:k+1=n
     ·have hkn:kI=(n:Int):=by omega
      have hsl:iI 1 (.own 2 0 n 1) (n:Int) (n:Int) false=some (.d (.sl [])):=by simp[iI]
      simp[-O,-ξ,↓KW,hwk1,hkI0,hkIn,hkn,hsl]
      refine eD 1 ?_
      simp[-O,-ξ,↓KW,↓aE,hwk1]
      refine aI (k+1,ids2,M2,d3) ⟨hk1n,hI2,hR2,hS3,aNb hLo2 λr h1 h2=>by omega,hd3⟩ (by show n-(k+1)<n-k;omega) ?_
      show ∃ρ,Wk _ (dmS p n L ids2 M2 d3 (k+1)) ρ
      unfold dmS
      subst hHg
      refine aTs hI2 hM2l ?_
      simp[-O,upd,aL,Γ0,bKh,bKg,hm,hkn]
     ·obtain⟨m,hm'⟩:∃m,n-(k+1)=m:=⟨_,rfl⟩
      have hsl:iI 1 (.own 2 0 n 1) kI (n:Int) false=some (.own 2 (k+1) m 1):=by
       have e1:¬kI=(n:Int):=by omega
       have e2:kI.toNat=k+1:=by omega
       have e3:((n:Int)-kI).toNat=m:=by omega
       simp[iI,hkI0,hkIn,e1,e2,e3]
      simp[-O,-ξ,↓KW,hwk1,hkI0,hkIn,hsl]
      refine aY (τ:=Nat×List (List Nat)) (λt=>dmE p n D k x d3 t.1 t.2) (λt=>aSm p n L ids2 t.2 d3 k m inv t.1) (λt=>n-(k+1+t.1)) (0,M2) ⟨by omega,hR2,hS3,hLo2,hx,λr h1 h2=>by omega⟩ ?_ ?_
      ·show ∃ρ,Wk _ (aSm p n L ids2 M2 d3 k m inv 0) ρ
       unfold aSm
       subst hHg
       refine aTs hI2 hM2l ?_
       simp[-O,upd,aL,Γ0,bKh,bKg]
      ·rintro⟨j,M3⟩ hE
       simp only at hE
       have hE0:=hE
       obtain⟨hjn,hR3,hS4,hLo3,hx3,hz3⟩:=hE
       have hM3l:=hR3.1
       by_cases hj:k+1+j<n
       ·have hjI:(j:Int)<(m:Int):=by omega
        have hjm:j<m:=by omega
        obtain⟨idj,hidj⟩:∃i,ids2[k+1+j]? = some i:=⟨_,Ab (by rw[hI2.len];exact hj)⟩
        obtain⟨y,hyj⟩:∃y,M3[k+1+j]? = some y:=⟨_,Ab (by rw[hM3l];exact hj)⟩
        have hyd:M3.getD (k+1+j) []=y:=by rw[Ac,hyj];rfl
        obtain⟨u,hu⟩:∃u,y.getD k 0=u:=⟨_,rfl⟩
        have hx3':M3[k]? = some x:=by rw[<-hx3,Ac,Ab (by rw[hM3l];exact hk)];rfl
        have hyr:=hR3.2 (k+1+j) hj
        rw[hyd]at hyr
        have hrk3:deH p n L ids2 M3 idk=some (iY x):=rV hI2 hidk hx3'
        have hrj3:deH p n L ids2 M3 idj=some (iY y):=rV hI2 hidj hyj
        have hhd3:deH p n L ids2 M3 2=some (.cells 46 cs):=hCg ▸ rfl
        have hbx3:deH p n L ids2 M3 1=some (.cells 162 [.d (.i .u64 p),.d (.i .i64 n),.d (.sl L)]):=rfl
        have hgj:cs[k+1+j]? = some (.own idj 0 n 1):=hCg ▸ oG hidj
        have hgj':∀h,cs[k+1+j]'h=.own idj 0 n 1:=λh=>by rw[Ab h]at hgj;injection hgj
        have hkj:idj≠idk:=λe=>by subst e;have:=(List.getElem?_inj (by rw[hI2.len];exact hj) hI2.nd).1 (hidj.trans hidk.symm);omega
        have huy:y[k]? = some u:=by rw[Ab (by rw[hyr.1];exact hk)];rw[Ac,Ab (by rw[hyr.1];exact hk)]at hu;exact congrArg some hu
        have hdu:=aSn huy
        have hdu':∀h,(dU y)[k]'h=.i .u64 (u:Int):=λh=>by rw[Ab h]at hdu;injection hdu
        have hyl:(dU y).length=n:=by rw[dZ];exact hyr.1
        have hup:u<p:=hyr.2 u (Aj huy)
        have hMu2:=nZ (M:=M0) p inv u hp0 (Bf (A9 (C1 hinvp) (C1 hup)) (Bf (A9 hp2 hp2) (by decide)))
        obtain⟨f,hf⟩:∃f,inv*u%p=f:=⟨_,rfl⟩
        have hfp:f<p:=hf ▸ BF _ hp0
        rw[hf]at hMu2
        have hSu2:=aHk (M:=M0) p 0 f hp0 (by omega) (by omega) (by omega)
        obtain⟨g,hg⟩:∃g,(0+p-f)%p=g:=⟨_,rfl⟩
        rw[hg]at hSu2
        have hgp:g<p:=hg ▸ BF _ hp0
        have hAd:=bBd (M:=M0) p g y x hp0 hp2 hgp hyr.2 hxr.2 (by rw[hyr.1,hxr.1]) (by rw[hyr.1];omega)
        rw[hyr.1]at hAd
        have hupd:=bTy (p:=p) (L:=L) (v:=adL p y x g) hI2 hM3l hidj
        have hE2:=bKa (by omega) hp hk hE0 hj hqe hq0 hqp hinv.symm hyd hu hf hg
        have hwj1:Ah.wrap ((j:Int)+1)=((j+1:Nat):Int):=aP
        generalize hHg3:deH p n L ids2 M3=H3 at *
        simp[-O,-ξ,↓KW,aSm,hHg3,hjI,hhd3,hgj,hgj',hbx3,hk,hrj3,hyl,hdu,hdu',iY]
        refine aC hMu2 ?_
        simp[-O,-ξ,↓KW,hhd3,hhl,hgk,hgk',hbx3,hk]
        refine aC hSu2 ?_
        simp[-O,-ξ,↓KW,hhd3,hhl,hgk,hgk',hbx3,hk]
        have hfz:=aBy (H:=H3) (B:=idk) (v:=x) (n:=n) 6 hrk3 hxr.1
        have hfz1:frz H3 8 (.own idk 0 n 1)=some (bU x):=hfz.1
        have hfz2:vis H3 8 (.own idk 0 n 1)=[idk]:=hfz.2
        refine bGg (d0:=.i .u64 p) (id:=idj) (h:=.own 0 0 n 1) (ho:=iY y) (ds:=[bU x,.i .u64 g]) (ho':=iY (adL p y x g)) (by kernel_rfl) (by rfl) (by rfl) (by rfl) hrj3 (aVp _ _) ?_ ?_ hAd (by simp[iY,HO.len,dZ,kU]) (aVp _ _) ?_
        ·show idj ∉ bV H3 [.own idk 0 n 1,.d (.i .u64 g)]
         simp[aEq,aKi,bCq,hfz2,hkj]
        ·show cI H3 [.own idk 0 n 1,.d (.i .u64 g)]=some [bU x,.i .u64 g]
         simp[cI,hfz1,aGd]
        simp[-O,-ξ,↓KW,hwj1]
        refine aI (j+1,M3.set (k+1+j) (adL p y x g)) hE2 (by show n-(k+1+(j+1))<n-(k+1+j);omega) ?_
        show ∃ρ,Wk _ (aSm p n L ids2 (M3.set (k+1+j) (adL p y x g)) d3 k m inv (j+1)) ρ
        unfold aSm
        rw[hupd]
        refine aTs hI2 (by rw[CB];exact hM3l) ?_
        simp[-O,upd,aL,Γ0,bKh,bKg]
       ·have hjm:j=m:=by omega
        have hjI:¬(j:Int)<(m:Int):=by omega
        have hwk1:Ah.wrap ((k:Int)+1)=((k+1:Nat):Int):=aP
        simp[-O,-ξ,↓KW,aSm,hjI]
        refine aS ?_
        simp[-O,-ξ,↓KW,hwk1]
        refine aI (k+1,ids2,M3,d3) ⟨hk1n,hI2,hR3,hS4,aNb hLo3 λr h1 h2=>hz3 r h1 (by omega),by assumption⟩ (by show n-(k+1)<n-k;omega) ?_
        show ∃ρ,Wk _ (dmS p n L ids2 M3 d3 (k+1)) ρ
        unfold dmS
        refine aTs hI2 hM3l ?_
        simp[-O,upd,aL,Γ0,bKh,bKg]
  ·have hkn':k=n:=by omega
   have hkI:¬(k:Int)<(n:Int):=by omega
   subst hkn'
   have hend:=(bOz hn hS1 hLo1).eq
   have hdv:D%(p:Int)=(d:Int):=by rw[<-hend];exact Int.emod_eq_of_lt (by omega) (by omega)
   simp[-O,-ξ,↓KW,dmS,hk,hkI]
   exact aS (by simp[-O,-ξ,↓KW,dV,hdv])
def hdN(n:Nat)(i:Nat):List AV:=hdI (idR i 5) n++Av (n-i) .nil
def zO{n i:Nat}(h:i<=n):(hdN n i).length=n:=by simp[hdN,hdI,idR];omega
def bSy{n i:Nat}(h:i<n):(hdN n i).set i (.own (i+5) 0 n 1)=hdN n (i+1):=by
 unfold hdN;have hl:(hdI (idR i 5) n).length=i:=by simp[hdI,idR]
 rw[Da _ _ (by omega),hl,CU,show n-i=(n-(i+1))+1 by omega,Cz,CL,aNl];simp[hdI]
def bSz{n i j:Nat}(h:j<i):(hdN n i)[j]? = some (.own (j+5) 0 n 1):=by unfold hdN;rw[AQ (by simp[hdI,idR,h])];exact oG (zM h)
def rdP(p n:Nat)(L:List (List D))(i:Nat):List HO:=[.cells 61 [.d (.i .i64 n),.d (.i .i64 n),.d (.sl L)],.cells 162 [.d (.i .u64 0),.d (.i .i64 0),.nil],.cells 46 (hdN n i),.cells 162 [.d (.i .u64 p),.d (.i .i64 n),.own 3 0 n 1]]
def rdH(p n:Nat)(L:List (List D))(R:List (List Nat)):Hp:=jE 1 (rdP p n L R.length++R.map iY)
section
variable {p n:Nat} {L:List (List D)} {R:List (List Nat)}
def rI{j:Nat}{v:List Nat}(hv:R[j]? = some v):rdH p n L R (j+5)=some (iY v):=by unfold rdH;rw[show j+5=(j+4)+1 by omega,qO,AJ (by simp[rdP]),Ag,show j+4-(rdP p n L R.length).length=j by simp[rdP],hv];rfl
def mG{id:Nat}(h:R.length+5<=id):rdH p n L R id=none:=aCf (by simp[rdP];omega)
def uD(hR:R.length<=n){H:Hp}{id:Nat}{o:HO}(ho:rdH p n L R id=some o):nO H (rdH p n L R) (λi=>i) o o:=by
 refine aCe (λo ho=>?_) ho;have hlen:(rdP p n L R.length++R.map iY).length=R.length+4:=by simp[rdP]
 rw[hlen];rcases BP.1 ho with ho|ho
 ·simp only[rdP,Bn,E7,Fg]at ho;rcases ho with rfl|rfl|rfl|rfl
  ·rfl
  ·rfl
  ·refine A3.2 λx hx=>?_
   rcases BP.1 hx with hx|hx
   ·obtain⟨j,hj,rfl⟩:=AM.1 hx;obtain⟨k,hk,rfl⟩:=AM.1 hj;have:=Cr.1 hk;simp only[rfC,BC];omega
   ·rw[El hx];rfl
  ·simp only[rfO,rfC,FM,List.all_nil,Bool.and_true,Bool.true_and,BC];omega
 ·obtain⟨v,_,rfl⟩:=AM.1 ho;refine A3.2 λc hc=>?_
  obtain⟨x,_,rfl⟩:=AM.1 hc;rfl
def aHx{v:List Nat}{id:Nat}(h3:id≠3)(h:id≠R.length+5):rdH p n L (R++[v]) id=rdH p n L R id:=by
 rcases A4 id 5 with h1|h1
 ·have:id=0\/id=1\/id=2\/id=4:=by omega
  rcases this with rfl|rfl|rfl|rfl<;>rfl
 ·obtain⟨j,rfl⟩:∃j,id=j+5:=⟨id-5,by omega⟩;by_cases hj:j<R.length
  ·have e1:R[j]? = some R[j]:=Ab hj;rw[rI e1,rI (by rw[AQ hj];exact e1)]
  ·rw[mG (by simp;omega),mG (by omega)]
def bPz{v w:List Nat}:upd (rdH p n L (R++[v])) (R.length+5) (some (iY w))=rdH p n L (R++[w]):=by
 have hl:∀u:List Nat,(R++[u])[R.length]? = some u:=λu=>by simp
 funext id;unfold upd;by_cases h:id=R.length+5
 ·subst h;rw[Aq rfl,rI (hl w)]
 ·rw[Ai h];by_cases h3:id=3
  ·subst h3;show some (HO.cells _ (hdN n (R++[v]).length))=some (HO.cells _ (hdN n (R++[w]).length));simp
  ·rw[aHx h3 h,aHx h3 h]
end
def bSf{n i:Nat}(h:i<n):lay (hdN n i) i [.own (i+5) 0 n 1]=hdN n (i+1):=by rw[aRs _ _ _ (by rw[zO (C1 h)];exact h),bSy h]
def aYb(p n:Nat)(L:List (List D))(x:HO):upd (upd (upd (upd (upd (λ_=>none) 1 (some (.cells 61 [.d (.i .i64 n),.d (.i .i64 n),.d (.sl L)]))) 2 (some (.cells 162 [.d (.i .u64 0),.d (.i .i64 0),.nil]))) 3 (some (.cells 46 (Av n .nil)))) 4 (some x)) 4 (some (.cells 162 [.d (.i .u64 p),.d (.i .i64 n),.own 3 0 n 1]))=rdH p n L []:=by
 have h0:hdN n 0=Av n .nil:=by simp[hdN,hdI,idR]
 funext id;rcases A4 id 5 with h1|h1
 ·have:id=0\/id=1\/id=2\/id=3\/id=4:=by omega
  rcases this with rfl|rfl|rfl|rfl|rfl
  ·rfl
  ·rfl
  ·rfl
  ·show some (HO.cells _ (Av n .nil))=some (HO.cells _ (hdN n 0));rw[h0]
  ·rfl
 ·rw[mG (by simpa using h1)];simp only[upd];rw[Ai (by omega),Ai (by omega),Ai (by omega),Ai (by omega),Ai (by omega)]
def bFi{p n i:Nat}{L:List (List D)}{R:List (List Nat)}{v:List Nat}(h:R.length=i):upd (upd (rdH p n L R) (i+5) (some (iY v))) 3 (some (.cells 46 (hdN n (i+1))))=rdH p n L (R++[v]):=by
 funext id;unfold upd;by_cases h3:id=3
 ·subst h3;show some (HO.cells _ (hdN n (i+1)))=some (HO.cells _ (hdN n (R++[v]).length));simp[h]
 ·rw[Ai h3];by_cases h5:id=i+5
  ·subst h5;subst h;rw[Aq rfl,rI (v:=v) (by simp)]
  ·rw[Ai h5,aHx h3 (by omega)]
def bRu{n:Nat}{M:List (List Nat)}(hM:M.length=n)(hr:∀v∈M,v.length=n){H:Hp}(hH:∀(j:Nat) v,M[j]? = some v->H (j+5)=some (iY v)):(hdN n n).mapM (frz H 6)=some (M.map bU):=by
 have e0:hdN n n=hdI (idR n 5) n:=by simp[hdN]
 rw[e0];have hl:(hdI (idR n 5) n).length=n:=by simp[hdI,idR]
 rw[mapM_some (frz H 6) (λk=>bU (M.getD k [])) _ λk x hx=>by
  have hlt:k<n:=by have:=(Ao.1 hx).1;rwa [hl]at this
  rw[oG (zM hlt)]at hx;injection hx with hx
  subst hx;have hv:M[k]? = some (M.getD k []):=by rw[Ac,Ab (by omega)];rfl
  exact(aBy 4 (hH k _ hv) (hr _ (Aj hv))).1]
 congr 1;apply CH;intro k;rw[hl];by_cases hk:k<n
 ·rw[Ag,Bq hk,Ag,AU,Ac,Ab (by omega)];rfl
 ·rw[AW (by simpa using hk),AW (by simpa[hM]using hk)]
def bKw{n:Nat}{M:List (List Nat)}(hM:M.length=n):chunk 1 n (M.map bU)=M.map λv=>[bU v]:=by rw[kZ _ _ (by rw[Bl,hM]),Dd];rfl
def bPy{p n:Nat}{L:List (List D)}{R:List (List Nat)}:(rdH p n L R 1).isSome=true:=rfl
def bPx{p n:Nat}{L:List (List D)}{R:List (List Nat)}:(rdH p n L R 2).isSome=true:=rfl
def bPw{p n:Nat}{L:List (List D)}{R:List (List Nat)}:(rdH p n L R 4).isSome=true:=rfl
def prW(p n:Nat)(v:List Int)(j:Nat):List Nat:=((v.take j).map λz=>(z%(p:Int)).toNat)++Av (n-j) 0
def bQn{p n j:Nat}{v:List Int}(hv:v.length=n)(hj:j<=n):(prW p n v j).length=n:=by simp[prW];omega
def bQm{p n j:Nat}{v:List Int}{z:Int}(hv:v.length=n)(hj:j<n)(hz:v[j]? = some z):(prW p n v j).set j (z%(p:Int)).toNat=prW p n v (j+1):=by unfold prW;rw[A5,hz,Da _ _ (by simp;omega),show n-j=(n-(j+1))+1 by omega,Cz,show j-((v.take j).map λz=>(z%(p:Int)).toNat).length=0 by simp;omega,CL];simp
def bQo{p n:Nat}{v:List Int}(hv:v.length=n):prW p n v n=v.map λz=>(z%(p:Int)).toNat:=by unfold prW;rw[CU,As (by omega)];simp
def aYa{p:Nat}{A:List (List Int)}{i:Nat}{v:List Int}(h:A[i]? = some v):fC p (A.take (i+1))=fC p (A.take i)++[v.map λz=>(z%(p:Int)).toNat]:=by unfold fC;rw[A5,h];simp
def aQx(p n:Nat)(L:List (List D))(i:Nat):List (Nat×AV):=[(0,.d (.i .u64 p)),(3,.ptr 1 0),(4,.ptr 2 0),(5,.ptr 4 0),(28,.d (.sl L)),(29,.d (.i .i64 n)),(30,.d (.i .i64 (i:Int)))]
def aAs(p n:Nat)(L U:List (List D))(i j:Nat):List (Nat×AV):=[(0,.d (.i .u64 p)),(3,.ptr 1 0),(4,.ptr 2 0),(5,.ptr 4 0),(6,.d (.i .i64 (i:Int))),(28,.d (.sl L)),(29,.d (.i .i64 n)),(30,.d (.i .i64 (i:Int))),(48,.d (.sl U)),(49,.d (.i .i64 n)),(50,.d (.i .i64 (j:Int)))]
def bGw[M0:Mch Aa](p n:Nat)(A:List (List Int))(hn:n<=1000)(hp0:0<p)(hp1:p<=2147483648)(hA:A.length=n)(hr:∀v∈A,v.length=n)(hB:∀v∈A,∀z∈v,Sz z)(hP:Spec Aa 52 [.i .u64 p] (.b true)) :
  Spec Aa 121 [.i .u64 p,jF n A] (sU p n (fC p A)):=by
 obtain⟨L,hL,hLl,hLg⟩:∃L,(A.map λv=>[dW v])=L/\L.length=A.length/\∀(i:Nat) (v:List Int),A[i]? = some v->L[i]? = some [dW v]:=⟨_,rfl,by simp,λi v h=>by rw[Ag,h];rfl⟩
 have hLn:(L.length:Int)=(n:Int):=by omega
 have hLn':L.length=n:=by omega
 have m1:¬(n:Int)<0:=by omega
 have hm3:24*(n:Int)<=281474976710656:=by omega
 have hm8:8*(n:Int)<=281474976710656:=by omega
 have hm4:(n:Int)<=9223372036854775807:=by omega
 unfold jF
 rw[hL]
 refine aX (N:=68) Tryz.func121 ?_
 simp[-O,-ξ,↓KW]
 refine aC hP ?_
 simp[-O,-ξ,↓KW,m1,hLn,hLn',hm3,hm4,bJ]
 refine cB (λi:Nat=>i<=n) (λi=>⟨gK (aQx p n L i),rdH p n L (fC p (A.take i)),i+5⟩) (λi=>n-i) 0 (A1 _) ?_ ?_
 ·rw[aYb p n L]
  show ∃ρ,Wk _ ⟨gK (aQx p n L 0),rdH p n L [],5⟩ ρ
  refine⟨_,lX ?_ (λid o' ho=>⟨o',ho,uD (A1 _) ho⟩) (λid hid=>mG hid) (by simp)⟩
  simp[-O,upd,aL,Γ0,aQx,bPy,bPx,bPw]
 ·intro i hi
  have hTl:(fC p (A.take i)).length=i:=by simp[fC];omega
  by_cases hin:i<n
  ·obtain⟨v,hv⟩:∃v,A[i]? = some v:=⟨_,Ab (by omega)⟩
   have hvm:=Aj hv
   have hvl:=hr v hvm
   obtain⟨U,hU,hUl,hUg⟩:∃U,dW v=.sl U/\U.length=v.length/\∀(j:Nat) (z:Int),v[j]? = some z->U[j]? = some (vI z):=⟨_,rfl,by simp,λj z h=>by rw[Ag,h];rfl⟩
   have hUn:(U.length:Int)=(n:Int):=by omega
   have hUn':U.length=n:=by omega
   have hLi:=hLg i v hv
   rw[hU]at hLi
   have hLi':=bP hLi
   have hii:(i:Int)<(n:Int):=by omega
   have hwi:Ah.wrap ((i:Int)+1)=((i+1:Nat):Int):=aP
   have h1:rdH p n L (fC p (A.take i)) 1=some (.cells 61 [.d (.i .i64 n),.d (.i .i64 n),.d (.sl L)]):=rfl
   have h2:rdH p n L (fC p (A.take i)) 2=some (.cells 162 [.d (.i .u64 0),.d (.i .i64 0),.nil]):=rfl
   have h4:rdH p n L (fC p (A.take i)) 4=some (.cells 162 [.d (.i .u64 p),.d (.i .i64 n),.own 3 0 n 1]):=rfl
   have h3:rdH p n L (fC p (A.take i)) 3=some (.cells 46 (hdN n i)):=by show some (HO.cells _ (hdN n (fC p (A.take i)).length))=_;rw[hTl]
   generalize hHg:rdH p n L (fC p (A.take i))=H at *
   have hl1:=bSf hin
   have hl2:i+1<=(hdN n i).length:=by rw[zO hi];exact hin
   have hz0:Av n (AV.d (.i .u64 0))=(dU (prW p n v 0)).map .d:=by simp[prW,dU]
   simp[-O,-ξ,↓KW,aQx,hHg,h1,h2,h3,h4,hii,hin,hLi,hLi',hLn,hLn',hUn,hUn',hm8,hm4,bJ,hl1,hl2,hz0]
   have hpu:=bFi (p:=p) (L:=L) (v:=prW p n v 0) hTl (n:=n)
   rw[hHg]at hpu
   have hpu':upd (upd H (i+5) (some (.cells 51 ((dU (prW p n v 0)).map .d)))) 3 (some (.cells 46 (hdN n (i+1))))=rdH p n L (fC p (A.take i)++[prW p n v 0]):=hpu
   rw[hpu']
   refine aY (λj:Nat=>j<=n) (λj=>⟨gK (aAs p n L U i j),rdH p n L (fC p (A.take i)++[prW p n v j]),i+6⟩) (λj=>n-j) 0 (A1 _) ?_ ?_
   ·show ∃ρ,Wk _ ⟨gK (aAs p n L U i 0),rdH p n L (fC p (A.take i)++[prW p n v 0]),i+6⟩ ρ
    refine⟨_,lX ?_ (λid o' ho=>⟨o',ho,uD (by simp[hTl];omega) ho⟩) (λid hid=>mG (by simp[hTl];omega)) (by simp)⟩
    simp[-O,upd,aL,Γ0,aAs,bPy,bPx,bPw]
   ·intro j hj
    obtain⟨T,hT⟩:∃T,fC p (A.take i)=T:=⟨_,rfl⟩
    rw[hT]at hTl
    simp only[hT]
    by_cases hjn:j<n
    ·obtain⟨z,hz⟩:∃z,v[j]? = some z:=⟨_,Ab (by omega)⟩
     have hUj:=hUg j z hz
     have hUj':=bP hUj
     have hRz:=aHw (M:=M0) p z hp0 hp1 (hB v hvm z (Aj hz))
     obtain⟨y,hy⟩:∃y:Nat,z%(p:Int)=(y:Int):=⟨(z%(p:Int)).toNat,by have:=Dw z (b:=(p:Int)) (by omega);omega⟩
     rw[hy,bB]at hRz
     have hjj:(j:Int)<(n:Int):=by omega
     have hwj:Ah.wrap ((j:Int)+1)=((j+1:Nat):Int):=aP
     have k4:rdH p n L (T++[prW p n v j]) 4=some (.cells 162 [.d (.i .u64 p),.d (.i .i64 n),.own 3 0 n 1]):=rfl
     have k3:rdH p n L (T++[prW p n v j]) 3=some (.cells 46 (hdN n (i+1))):=by show some (HO.cells _ (hdN n (T++[prW p n v j]).length))=_;simp[hTl]
     have k5:rdH p n L (T++[prW p n v j]) (i+5)=some (.cells 51 ((dU (prW p n v j)).map .d)):=rI (by simp[hTl])
     have hgi:=bSz (n:=n) (show i<i+1 by omega)
     have hgi':∀h,(hdN n (i+1))[i]'h=.own (i+5) 0 n 1:=λh=>by rw[Ab h]at hgi;injection hgi
     have hhl:=zO (n:=n) (i:=i+1) (by omega)
     have hprl:=bQn (p:=p) hvl hj
     generalize hHg2:rdH p n L (T++[prW p n v j])=H2 at *
     have hps:=bQm (p:=p) hvl hjn hz
     rw[hy,Int.toNat_natCast]at hps
     have hdl:(dU (prW p n v j)).length=n:=by rw[dZ];exact hprl
     have hly:lay ((dU (prW p n v j)).map AV.d) j [AV.d (D.i .u64 (y:Int))]=(dU (prW p n v (j+1))).map AV.d:=by rw[eQ _ _ _ (by omega),bKj,hps]
     have hj1:j+1<=n:=hjn
     simp[-O,-ξ,↓KW,aAs,hHg2,hjj,hjn,hUj,hUj',hUn,hUn',bTt,wW,lH,gJ,aBr,hin,k3,k4,k5,hgi,hgi',hhl,hdl,hjn]
     refine aC hRz ?_
     simp[-O,-ξ,↓KW,hin,k3,k4,k5,hgi,hgi',hhl,hdl,hjn,hj1,hly,hwj]
     refine aI (j+1) hj1 (by show n-(j+1)<n-j;omega) ?_
     have hset:=bPz (p:=p) (n:=n) (L:=L) (R:=T) (v:=prW p n v j) (w:=prW p n v (j+1))
     rw[hTl,hHg2]at hset
     show ∃ρ,Wk _ ⟨gK (aAs p n L U i (j+1)),rdH p n L (fC p (A.take i)++[prW p n v (j+1)]),i+6⟩ ρ
     rw[hT]
     refine⟨_,lX ?_ (λid o' ho=>⟨o',?_,uD (by simp[hTl];omega) ho⟩) (λid hid=>mG (by simp[hTl];omega)) (by simp)⟩
     ·simp[-O,upd,aL,Γ0,aAs,bPy,bPx,bPw]
     ·have h6:id≠i+6:=λe=>by rw[e,mG (by simp[hTl])]at ho;cases ho
      rw[<-hset]at ho
      simp only[upd,h6,if_false]at ho ⊢
      exact ho
    ·have hjn':j=n:=by omega
     have hjI:¬(j:Int)<(n:Int):=by omega
     simp[-O,-ξ,↓KW,aAs,hjI]
     refine aS ?_
     simp[-O,-ξ,↓KW,hwi]
     refine aI (i+1) (show i+1<=n by omega) (by show n-(i+1)<n-i;omega) ?_
     rw[hjn',bQo hvl,<-hT,<-aYa hv]
     show ∃ρ,Wk _ ⟨gK (aQx p n L (i+1)),rdH p n L (fC p (A.take (i+1))),i+1+5⟩ ρ
     have hTl':(fC p (A.take (i+1))).length=i+1:=by simp[fC];omega
     refine⟨_,lX ?_ (λid o' ho=>⟨o',ho,uD (by omega) ho⟩) (λid hid=>mG (by omega)) (by simp)⟩
     simp[-O,upd,aL,Γ0,aQx,bPy,bPx,bPw]
  ·have hin':i=n:=by omega
   have hii:¬(i:Int)<(n:Int):=by omega
   have hA':A.take i=A:=As (by omega)
   rw[hA']at hTl ⊢
   have h2:rdH p n L (fC p A) 2=some (.cells 162 [.d (.i .u64 0),.d (.i .i64 0),.nil]):=rfl
   have h4:rdH p n L (fC p A) 4=some (.cells 162 [.d (.i .u64 p),.d (.i .i64 n),.own 3 0 n 1]):=rfl
   have h3:rdH p n L (fC p A) 3=some (.cells 46 (hdN n n)):=by show some (HO.cells _ (hdN n (fC p A).length))=_;rw[hTl,hin']
   have hrow:∀v∈fC p A,v.length=n:=λv hv=>by obtain⟨w,hw,rfl⟩:=AM.1 hv;rw[Bl];exact hr w hw
   have hfr:∀x,(hdN n n).mapM (frz (upd (rdH p n L (fC p A)) 2 x) 6)=some ((fC p A).map bU):=λx =>
    bRu (by omega) hrow λj v hv=>by simp only[upd];rw[Ai (by omega)];exact rI hv
   have hch:=bKw (n:=n) (M:=fC p A) (by omega)
   have hl:=zO (n:=n) (i:=n) (Ay _)
   have htk:(hdN n n).take n=hdN n n:=As (by omega)
   simp[-O,-ξ,↓KW,aQx,hii,h2,h4,h3,hl,htk,hfr,hch,sU,sT]
def aZn[M:Mch Aa](z:Int)(hl:Sz z):Spec Aa 106 [encZ z] (.b true):=by
 have:=bIa (decide (z<0)) (aJ z.natAbs) (AR hl (by decide));have hc:=lS z.natAbs;unfold lV at hc;cases h:(aJ z.natAbs).getLast? with
 | none =>
  have hz:=gD.1 (List.getLast?_eq_none_iff.1 h);have e:(!decide (z<0))=true:=by simp;omega
  rw[h]at this;have this2:Spec Aa 106 [encI (decide (z<0)) (aJ z.natAbs)] (.b (!decide (z<0))):=this;rw[e]at this2;exact this2
 | some x =>
  rw[h]at hc this;have e:(x != 0)=true:=by simpa using hc
  have this2:Spec Aa 106 [encI (decide (z<0)) (aJ z.natAbs)] (.b (x != 0)):=this;rw[e]at this2;exact this2
def mvB(n:Nat)(L:List (List D)):HO:=.cells 61 [.d (.i .i64 n),.d (.i .i64 n),.d (.sl L)]
def bGy[M:Mch Aa](n:Nat)(A:List (List Int))(hn:n<=1000)(hA:A.length=n)(hr:∀v∈A,v.length=n)(hB:∀v∈A,∀z∈v,Sz z):Spec Aa 69 [jF n A] (.b true):=by
 obtain⟨L,hL,hLl,hLg⟩:∃L,(A.map λv=>[dW v])=L/\L.length=A.length/\∀(i:Nat) (v:List Int),A[i]? = some v->L[i]? = some [dW v]:=⟨_,rfl,by simp,λi v h=>by rw[Ag,h];rfl⟩;have hLn:(L.length:Int)=(n:Int):=by omega
 have hLn':L.length=n:=by omega
 have hn0:¬(n:Int)<0:=by omega
 unfold jF;rw[hL];refine aX (N:=46) Tryz.func69 ?_;simp[-O,-ξ,↓KW,hn0,hLn,hLn'];refine aY (τ:=Nat) (λi=>i<=n) (λi=>StL [(1,.ptr 1 0),(24,.d (.sl L)),(25,.d (.i .i64 n)),(26,.d (.i .i64 (i:Int)))] none [mvB n L]) (λi=>n-i) 0 (A1 _) ?_ ?_
 ·refine wkQ [1] ?_ ?_<;>simp[-O,upd,aL,Γ0,mvB]
 ·intro i hi;by_cases hlt:i<n
  ·obtain⟨v,hv⟩:∃v,A[i]? = some v:=⟨_,Ab (by omega)⟩;have hLi:=hLg i v hv;have hLi':=bP hLi;have hiL:i<L.length:=by omega
   have hvm:=Aj hv;have hvl:=hr v hvm;obtain⟨U,hU,hUl,hUg⟩:=aCi v;rw[hU]at hLi hLi';have hUn:(U.length:Int)=(n:Int):=by omega
   have hUn':U.length=n:=by omega
   have hw0:Ah.wrap (i:Int)=i:=aP;have hw1:Ah.wrap ((i:Int)+1)=((i+1:Nat):Int):=aP;have hltI:(i:Int)<(n:Int):=by omega
   simp[-O,-ξ,↓KW,mvB,hlt,hltI,hiL,hLi,hLi',hUn,hUn',hw0];refine aY (τ:=Nat) (λj=>j<=n) (λj=>StL [(1,.ptr 1 0),(24,.d (.sl L)),(25,.d (.i .i64 n)),(26,.d (.i .i64 (i:Int))),(35,.d (.sl U)),(36,.d (.i .i64 n)),(37,.d (.i .i64 (j:Int)))] none [mvB n L]) (λj=>n-j) 0 (A1 _) ?_ ?_
   ·refine wkQ [1] ?_ ?_<;>simp[-O,upd,aL,Γ0,mvB]
   ·intro j hj;by_cases hgj:j<n
    ·obtain⟨z,hz⟩:∃z,v[j]? = some z:=⟨_,Ab (by omega)⟩;have hUj:=hUg j z hz;have hUj':=bP hUj;have hjU:j<U.length:=by omega
     have hZ:=aZn (M:=M) z (hB v hvm z (Aj hz));have hv0:Ah.wrap (j:Int)=j:=aP;have hv1:Ah.wrap ((j:Int)+1)=((j+1:Nat):Int):=aP;have hgI:(j:Int)<(n:Int):=by omega
     simp[-O,-ξ,↓KW,mvB,hgj,hgI,hjU,hUj,hUj',hv0,aH];refine aC hZ ?_;simp[-O,-ξ,↓KW,hv1];refine aI (j+1) hgj (by show n-(j+1)<n-j;omega) ?_;show ∃ρ,Wk _ (StL _ _ _) ρ;refine wkQ [1] ?_ ?_<;>simp[-O,upd,aL,Γ0,mvB]
    ·have hgI:¬(j:Int)<(n:Int):=by omega
     simp[-O,-ξ,↓KW,mvB,hgj,hgI];refine aS ?_;simp[-O,-ξ,↓KW,hw1];refine aI (i+1) hlt (by show n-(i+1)<n-i;omega) ?_;show ∃ρ,Wk _ (StL _ _ _) ρ;refine wkQ [1] ?_ ?_<;>simp[-O,upd,aL,Γ0,mvB]
  ·have hltI:¬(i:Int)<(n:Int):=by omega
   simp[-O,-ξ,↓KW,mvB,hlt,hltI];exact aS (by simp[-O,-ξ,↓KW])
end Go.Am
end
section
open List renaming map_map->O,mapM_map->ξ
namespace Go.Am
open Go.Conc
inductive Dl(P:Program)(main:Bool)(I:World->Prop)(Rm:Event->Prop)(K:Nat->Goroutine->Prop):Nat->Goroutine->Prop
  |here {d:Nat} {g:Goroutine} (h:K d g):Dl P main I Rm K d g
  |step {d:Nat} {g g':Goroutine} {es:Array Event} (hs:g.status=.running) (hm:∀e∈es,Em e=true\/Rm e) (h:∀w,I w->stepG P main g w=.go g' w es) (hq:Dl P main I Rm K (deafBehind d es) g'):Dl P main I Rm K d g
section
variable {P:Program} {main:Bool} {I:World->Prop} {Rm:Event->Prop} {K:Nat->Goroutine->Prop} {b:Frame} {a:Act} {k:List Item} {cs:List Frame} {d:Nat}
def Dl.ctl{g g':Goroutine}(hs:g.status=.running)(h:∀w,I w->stepG P main g w=.go g' w)(hq:Dl P main I Rm K d g'):Dl P main I Rm K d g:=.step hs (by simp) h hq
def Dl.value{ops:Array Oper}{i:Nat}{rest:List Nat}{o:Oper}(v:Value)(ho:ops[i]? = some o)(hw:Bu o (yielded ops a.tmps)=true)(hk:b.kind≠.early)
    (hr:∀w,I w->(execOp a.eval o).run P w=.ok (.value v) w) (he:∀w,I w->(execOp a.eval o).events P w #[]=#[])
    (hq:Dl P main I Rm K d (G (b.at (a.put o.dst v) (.inRegion ops rest::k)) cs)):Dl P main I Rm K d (G (b.at a (.inRegion ops (i::rest)::k)) cs) :=
  .ctl rfl (λw hI=>by rw[stepG_value ho hw hk (hr w hI)];unfold listed;rw[he w hI,seen_none]) hq
def Dl.unwanted{ops:Array Oper}{i:Nat}{rest:List Nat}{o:Oper}(ho:ops[i]? = some o)(hw:Bu o (yielded ops a.tmps)=false)
    (hq:Dl P main I Rm K d (G (b.at (a.put o.dst undef) (.inRegion ops rest::k)) cs)):Dl P main I Rm K d (G (b.at a (.inRegion ops (i::rest)::k)) cs) :=
  .ctl rfl (λ_ _=>stepG_unwanted ho hw) hq
def Dl.enter{ops:Array Oper}{i:Nat}{rest:List Nat}{o:Oper}{f:FuncId}{args:Array Value}(ho:ops[i]? = some o)(hw:Bu o (yielded ops a.tmps)=true)(hk:b.kind≠.early)
    (hr:∀w,I w->(execOp a.eval o).run P w=.ok (.enter f args) w) (he:∀w,I w->(execOp a.eval o).events P w #[]=#[])
    (hq:Dl P main I Rm K d (G (Frame.enter P f args .normal) (b.at a (.inRegion ops (i::rest)::k)::cs))):Dl P main I Rm K d (G (b.at a (.inRegion ops (i::rest)::k)) cs) :=
  .ctl rfl (λw hI=>by rw[stepG_enter ho hw hk (hr w hI)];unfold listed;rw[he w hI,seen_none]) hq
def Dl.leave0{fn:Func}{todo:List Item}{b₀:Frame}{a₀:Act}{ops:Array Oper}{i:Nat}{rest:List Nat}(hn:b.kind=.normal)(hd:a.defers=[])(hf:P.funcs[b.fn]? = some fn)(hr:fn.results=#[])
    (hq:Dl P main I Rm K d (G (b₀.at (a₀.put ((ops[i]?).bind (·.dst)) (.tuple #[])) (.inRegion ops rest::k)) cs)) :
    Dl P main I Rm K d (G { b.at a todo with mode:=.returning } (b₀.at a₀ (.inRegion ops (i::rest)::k)::cs)) :=
  .ctl rfl (λw _=>by rw[stepG_leave hn hd hf (results_none hr _ P w) (events_results_none hr _ _),D7]) hq
def Dl.leave1{fn:Func}{todo:List Item}{b₀:Frame}{a₀:Act}{ops:Array Oper}{i:Nat}{rest:List Nat}{t:Tmp}(hn:b.kind=.normal)(hd:a.defers=[])(hf:P.funcs[b.fn]? = some fn)(hr:fn.results=#[.tmp t])
    (hq:Dl P main I Rm K d (G (b₀.at (a₀.put ((ops[i]?).bind (·.dst)) (a.tmps.getD t undef)) (.inRegion ops rest::k)) cs)) :
    Dl P main I Rm K d (G { b.at a todo with mode:=.returning } (b₀.at a₀ (.inRegion ops (i::rest)::k)::cs)) :=
  .ctl rfl (λw _=>by rw[stepG_leave hn hd hf (results_tmp hr _ P w) (events_results_tmp hr _ _),D7]) hq
def Dl.call{ops:Array Oper}{i:Nat}{rest:List Nat}{o:Oper}{f:FuncId}{fn:Func}{c:Code}{args:Array Operand}{ats:Array TypeId}
    (ho:ops[i]? = some o) (hw:Bu o (yielded ops a.tmps)=true) (hk:b.kind≠.early) (hop:o.op=.call { callee:=.value (.func f),args,argTypes:=ats })
    (hf:P.funcs[f]? = some fn) (hname:(fn.name == "runtime.NumGoroutine")=false) (hb:fn.body=some c)
    (hq:Dl P main I Rm K d (G ((base f).at { tmps:=args.map a.eval++AY (fn.ntmps-(args.map a.eval).size) undef,defers:=[] } [.code c]) (b.at a (.inRegion ops (i::rest)::k)::cs))) :
    Dl P main I Rm K d (G (b.at a (.inRegion ops (i::rest)::k)) cs):=by
  have hb':fn.body.isNone=false:=by rw[hb];rfl
  refine .ctl rfl (λw _=>?_) hq
  rw[stepG_enter ho hw hk (run_call_body hop hf hname hb'),enter_at _ hf hb]
  have:listed P b.fn a o w=#[]:=by unfold listed;rw[events_call_body hop hf hname hb'];exact seen_none P _
  rw[this]
def Dl.unwind_mark{fn:Func}{f:FuncId}{todo:List Item}{ds:List Deferred}(m:Mark)(hm:Em ⟨.mark m,false,true⟩=true)(hx:∀g,m≠.extern g)(hd:a.defers=dcall f #[]::ds)
    (hf:P.funcs[f]? = some fn) (hname:(fn.name == "runtime.NumGoroutine")=false) (hb:fn.body.isNone=true) (hn:Extern.findNext fn=none)
    (he:Extern.find fn=some (λ_=>do mark m;pure Extern.Race.none_))
    (hq:Dl P main I Rm K (deafBehind d #[⟨.mark m,false,true⟩]) (G { b.at ⟨a.tmps,ds⟩ todo with mode:=.returning } cs)):Dl P main I Rm K d (G { b.at a todo with mode:=.returning } cs) :=
  .step rfl (by intro e h;simp at h;subst h;exact .inl hm) (λw _=>stepG_unwind_entry (v:=.tuple #[]) hd hf hname hb hn he (by simp[Extern.Race.none_]) (by simp) (by
    intro x hx';simp at hx';subst hx';exact⟨rfl,λg h=>hx g (Loc.mark.inj h)⟩)) hq
def Dl.leaveD{fn:Func}{todo:List Item}{c:Frame}(hn:b.kind=.deferred)(hd:a.defers=[])(hf:P.funcs[b.fn]? = some fn)(hr:fn.results=#[])(hc:c.mode=.returning)
    (hq:Dl P main I Rm K d (G c cs)):Dl P main I Rm K d (G { b.at a todo with mode:=.returning } (c::cs)) :=
  .ctl rfl (λw _=>stepG_leave_deferred hn hd hf (results_none hr _ P w) (events_results_none hr _ _) hc) hq
def Dl.done(h:Dl P main I Rm K d (G { b.at a []with mode:=.returning } cs)):Dl P main I Rm K d (G (b.at a []) cs):=.ctl rfl (λ_ _=>stepG_end) h
def Dl.seq{x y:Code}(h:Dl P main I Rm K d (G (b.at a (.code x::.code y::k)) cs)):Dl P main I Rm K d (G (b.at a (.code (.seq x y)::k)) cs):=.ctl rfl (λ_ _=>stepG_seq) h
def Dl.skip(h:Dl P main I Rm K d (G (b.at a k) cs)):Dl P main I Rm K d (G (b.at a (.code .skip::k)) cs):=.ctl rfl (λ_ _=>stepG_skip) h
def Dl.region{id:Nat}{ops:Array Oper}(h:Dl P main I Rm K d (G (b.at a (.inRegion ops (AN ops.size)::k)) cs)):Dl P main I Rm K d (G (b.at a (.code (.region id ops false)::k)) cs):=.ctl rfl (λ_ _=>stepG_region) h
def Dl.regionEnd{ops:Array Oper}(h:Dl P main I Rm K d (G (b.at a k) cs)):Dl P main I Rm K d (G (b.at a (.inRegion ops []::k)) cs):=.ctl rfl (λ_ _=>stepG_region_end) h
def Dl.cond{c:Operand}{x y:Code}(t:Bool)(hc:a.eval c=.bool t)(h:Dl P main I Rm K d (G (b.at a (.code (if t then x else y)::k)) cs)):Dl P main I Rm K d (G (b.at a (.code (.cond c x y)::k)) cs):=.ctl rfl (λ_ _=>stepG_cond hc) h
def Dl.block{id:Nat}{c:Code}(h:Dl P main I Rm K d (G (b.at a (.code c::.inBlock id::k)) cs)):Dl P main I Rm K d (G (b.at a (.code (.block id c)::k)) cs):=.ctl rfl (λ_ _=>stepG_block) h
def Dl.inBlock{id:Nat}(h:Dl P main I Rm K d (G (b.at a k) cs)):Dl P main I Rm K d (G (b.at a (.inBlock id::k)) cs):=.ctl rfl (λ_ _=>stepG_inBlock) h
def Dl.loop{c:Code}(h:Dl P main I Rm K d (G (b.at a (.code c::.inLoop c::k)) cs)):Dl P main I Rm K d (G (b.at a (.code (.loop c)::k)) cs):=.ctl rfl (λ_ _=>stepG_loop) h
def Dl.inLoop{c:Code}(h:Dl P main I Rm K d (G (b.at a (.code c::.inLoop c::k)) cs)):Dl P main I Rm K d (G (b.at a (.inLoop c::k)) cs):=.ctl rfl (λ_ _=>stepG_inLoop) h
def Dl.exit{id:Nat}{k':List Item}(hx:exitTo id k=some k')(h:Dl P main I Rm K d (G (b.at a k') cs)):Dl P main I Rm K d (G (b.at a (.code (.exit id)::k)) cs):=.ctl rfl (λ_ _=>stepG_exit hx) h
def Dl.ret(h:Dl P main I Rm K d (G { b.at a (.code .ret::k)with mode:=.returning } cs)):Dl P main I Rm K d (G (b.at a (.code .ret::k)) cs):=.ctl rfl (λ_ _=>stepG_ret') h
def DlN(P:Program)(main:Bool)(I:World->Prop)(Rm:Event->Prop)(K:Nat->Goroutine->Prop):Nat->Nat->Goroutine->Prop
  |0,d,g=>K d g
  |n+1,d,g=>K d g\/(g.status=.running/\∃g' es,(∀e∈es,Em e=true\/Rm e)/\(∀w,I w->stepG P main g w=.go g' w es)/\DlN P main I Rm K n (deafBehind d es) g')
def Dl.count{g:Goroutine}(h:Dl P main I Rm K d g):∃n,DlN P main I Rm K n d g:=by
  induction h with
  |here h=>exact⟨0,h⟩
  |step hs hm h _ ih=>obtain⟨n,ih⟩:=ih;exact⟨n+1,.inr ⟨hs,_,_,hm,h,ih⟩⟩
def DlN.cases{n:Nat}{g:Goroutine}(h:DlN P main I Rm K n d g):K d g\/∃m,n=m+1/\g.status=.running/\∃g' es,(∀e∈es,Em e=true\/Rm e)/\(∀w,I w->stepG P main g w=.go g' w es)/\DlN P main I Rm K m (deafBehind d es) g':=by
  cases n with
  |zero=>exact .inl h
  |succ n=>exact h.imp id λx=>⟨n,rfl,x⟩
def Dl.mono{K':Nat->Goroutine->Prop}(hK:∀d g,K d g->K' d g){g:Goroutine}(h:Dl P main I Rm K d g):Dl P main I Rm K' d g:=by
  induction h with
  |here h=>exact .here (hK _ _ h)
  |step hs hm h _ ih=>exact .step hs hm h ih
def Dl.bind{K':Nat->Goroutine->Prop}(hK:∀d g,K d g->Dl P main I Rm K' d g){g:Goroutine}(h:Dl P main I Rm K d g):Dl P main I Rm K' d g:=by
  induction h with
  |here h=>exact hK _ _ h
  |step hs hm h _ ih=>exact .step hs hm h ih
def Dl.quits{g:Goroutine}(h:Dl P false (λ_=>True) (λ_=>False) (λd g=>∃n,QuitsD P n d g) d g):∃n,QuitsD P n d g:=by
  induction h with
  |here h=>exact h
  |step hs hm h _ ih=>obtain⟨n,ih⟩:=ih;exact⟨n+1,.inr ⟨hs,_,_,λe he=>(hm e he).resolve_right id,λw=>h w trivial,ih⟩⟩
end
end Go.Am
end
section
open List renaming map_map->O,mapM_map->ξ
namespace Go.Am
open Go.Conc
inductive Tr where
  |leaf
  |node (f:World×World->Tr)
def tO(a b:Tr):Prop:=∃f p,b=.node f/\a=f p
def aKq(t:Tr):Acc tO t:=by
  induction t with
  |leaf=>exact⟨_,λy ⟨f,p,h,_⟩=>by cases h⟩
  |node f ih=>exact⟨_,λy ⟨g,p,h,e⟩=>by cases h;exact e ▸ ih p⟩
def Tr.nat:Nat->Tr
  |0=>.leaf
  |n+1=>.node λ_=>Tr.nat n
def rE(f:World×World->Tr)(p:World×World):tO (f p) (.node f):=⟨f,p,rfl,rfl⟩
def iW(n:Nat):tO (Tr.nat n) (Tr.nat (n+1)):=⟨_,default,rfl,rfl⟩
def Tr.up(t:Tr):Tr:=.node λ_=>t
structure aDk(Rm:Event->Prop)(v w v' w':World)(es:Array Event):Prop where
  sim:Sim v' w'
  ok:OkV v'
  ext:Ext v v'
  rest:xO v w w'
  evs:∀e∈es,EvV v' e\/Em e=true\/Rm e
def xN.q{Rm:Event->Prop}{v w v' w':World}{es:Array Event}(h:xN v w v' w' es):aDk Rm v w v' w' es:=⟨h.sim,h.ok,h.ext,h.rest,λe he=>.inl (h.evs e he)⟩
def GT(P:Program)(main:Bool)(I:World->Prop)(Rm:Event->Prop)(Stop:Nat->Goroutine->World->Prop):Tr->Nat->Goroutine->World->Prop
  |.leaf,d,g,v=>Stop d g v
  | .node f,d,g,v=>g.status=.running/\OkV v/\∀v1 w,Env v v1->Sim v1 w->I w ->
      ∃g' v' w' es,stepG P main g w=.go g' w' es/\aDk Rm v1 w v' w' es/\GT P main I Rm Stop (f (v1,w)) (deafBehind d es) g' v'
def bBm(Stop:Nat->Goroutine->World->Prop):Prop:=∀d g v v1,Stop d g v->Env v v1->Stop d g v1
def bTn{v:World}{e:Event}(h:EvV v e):e.loc≠.mark .disable/\e.loc≠.mark .enable:=by
  rcases h with ⟨a,c,t,f,h1,_⟩|⟨r,o,h1,_⟩|rfl
  · rw[h1];exact⟨by simp,by simp⟩
  · rw[h1];exact⟨by simp,by simp⟩
  · exact⟨by simp,by simp⟩
section
variable {P:Program} {main:Bool} {I:World->Prop} {Rm:Event->Prop} {Stop:Nat->Goroutine->World->Prop}
def GT.env(hS:bBm Stop){tr:Tr}{d:Nat}{g:Goroutine}{v v1:World}(h:GT P main I Rm Stop tr d g v)(he:Env v v1):GT P main I Rm Stop tr d g v1:=by
  cases tr with
  |leaf=>exact hS _ _ _ _ h he
  |node f=>exact⟨h.1,he.okV h.2.1,λv2 w he2 hs hi=>h.2.2 v2 w (he.trans he2) hs hi⟩
def GoW(P:Program)(main:Bool)(I:World->Prop)(Rm:Event->Prop)(Stop:Nat->Goroutine->World->Prop)(g:Goroutine)(v:World):Prop:=∃tr,GT P main I Rm Stop tr 0 g v
def aGa{d:Nat}{g:Goroutine}{v:World}(hr:g.status=.running)(hv:OkV v)
    (h:∀v1 w,Env v v1->Sim v1 w->I w->∃g' v' w' es,stepG P main g w=.go g' w' es/\aDk Rm v1 w v' w' es/\∃tr,GT P main I Rm Stop tr (deafBehind d es) g' v'):∃tr,GT P main I Rm Stop tr d g v:=by
  classical
  have h':∀p:World×World,∃tr:Tr,Env v p.1->Sim p.1 p.2->I p.2->∃g' v' w' es,stepG P main g p.2=.go g' w' es/\aDk Rm p.1 p.2 v' w' es/\GT P main I Rm Stop tr (deafBehind d es) g' v':=by
    intro p;by_cases hp:Env v p.1/\Sim p.1 p.2/\I p.2
    · obtain⟨g',v',w',es,h1,h2,tr,h3⟩:=h p.1 p.2 hp.1 hp.2.1 hp.2.2
      exact⟨tr,λ_ _ _=>⟨g',v',w',es,h1,h2,h3⟩⟩
    · exact⟨.leaf,λa b c=>(hp ⟨a,b,c⟩).elim⟩
  obtain⟨F,hF⟩:=Classical.axiomOfChoice h'
  exact⟨.node F,hr,hv,λv1 w he hs hi=>hF (v1,w) he hs hi⟩
def aRz(hS:bBm Stop):aKd P main (GoW P main I Rm Stop) where
  env h he:=by obtain⟨tr,h⟩:=h;exact⟨tr,h.env hS he⟩
  step {g v} hr hv h:=aGa hr hv λv1 w he hs hi=>by obtain⟨g',v',w',es,h1,h2,tr,h3⟩:=h v1 w he hs;exact⟨g',v',w',es,h1,h2.q,tr,by rw[deafBehind_still λe hx=>bTn (h2.evs e hx)];exact h3⟩
@[instance_reducible]def kK(P:Program)(main:Bool):Mch P where
  main:=main
  Fam Win:=(∃I Rm Stop,bBm Stop/\Win=GoW P main I Rm Stop)\/Win=λ_ _=>False
  closed h:=by
    rcases h with ⟨I,Rm,Stop,hS,rfl⟩|rfl
    · exact aRz hS
    · exact xV main
  none:=.inr rfl
def Dl.gt{K:Nat->Goroutine->Prop}{d:Nat}{g:Goroutine}(h:Dl P main I Rm K d g):∀{v:World},OkV v->(∀d g v1,Env v v1->K d g->∃tr,GT P main I Rm Stop tr d g v1)->∃tr,GT P main I Rm Stop tr d g v:=by
  induction h with
  |here h=>exact λ_ hK=>hK _ _ _ (.refl _) h
  | step hs hm h _ ih =>
    intro v hv hK;exact aGa hs hv λv1 w he hsim hi=>⟨_,v1,w,_,h w hi,⟨hsim,he.okV hv,.refl _,.refl _ _,λe hx=>.inr (hm e hx)⟩,ih (he.okV hv) λd g v2 he2 hk=>hK d g v2 (he.trans he2) hk⟩
end
end Go.Am
end
section
open List renaming map_map->O,mapM_map->ξ
namespace Go.Am
open Go.Conc
def Unf(v:World)(b:Nat):Prop:=∃o,v.heap[b]? = some o/\∀c t,o≠C9 c t (0,c.size)
def qW(v:World)(b:Nat):Prop:=∃c t,v.heap[b]? = some (.cells c t (0,c.size))
def tM{v:World}{b:Nat}(h:v.heap[b]? = some hole):qW v b:=⟨#[],0,h⟩
def qW.not_unf{v:World}{b:Nat}(h:qW v b):¬Unf v b:=by obtain⟨c,t,h⟩:=h;rintro⟨o,ho,hn⟩;rw[h]at ho;exact hn c t (Bm ho).symm
def kR{v:World}{b:Nat}(h:v.heap[b]? = some hole):¬Unf v b:=(tM h).not_unf
def aHb{v:World}{b:Nat}(h:b<v.heap.size):qW v b\/Unf v b:=by
 classical
 by_cases hw:qW v b
 ·exact .inl hw
 ·exact .inr ⟨_,Al h,λc t e=>hw ⟨c,t,by rw[Al h,e]⟩⟩
def iO(v w':World):World:={ v with heap:=v.heap++AY (w'.heap.size-v.heap.size) hole,drawn:=w'.drawn }
def cG(v w':World):Env v (iO v w'):=⟨rfl,rfl,rfl,_,rfl⟩
def aBu{v w':World}(h:v.heap.size<=w'.heap.size):(iO v w').heap.size=w'.heap.size:=by simp[iO];omega
def rP{v w':World}{b:Nat}(h:b<v.heap.size):(iO v w').heap[b]? = v.heap[b]? := (cG v w').get h
def wY{v w':World}{b:Nat}(h:v.heap.size<=b){o:Obj}(ho:(iO v w').heap[b]? = some o):o=hole:=by simp only[iO]at ho;rw[Cu h]at ho;have:=Array.mem_of_getElem? ho;rw[Array.mem_replicate]at this;exact this.2
def aGb{v w':World}{b:Nat}:Unf (iO v w') b↔Unf v b:=by
 constructor
 ·rintro⟨o,ho,hn⟩;rcases A4 b v.heap.size with h|h
  ·exact⟨o,by rw[<-rP h];exact ho,hn⟩
  ·exact absurd (wY h ho) (by rintro rfl;exact hn #[] 0 rfl)
 ·rintro⟨o,ho,hn⟩;exact⟨o,by rw[rP (bF ho)];exact ho,hn⟩
def lN{v w':World}{b:Nat}(h:v.heap[b]? = some hole):(iO v w').heap[b]? = some hole:=by rw[rP (bF h)];exact h
structure dL(v v':World):Prop where
 size:v.heap.size<=v'.heap.size
 unf:∀b,b<v.heap.size->(Unf v' b↔Unf v b)
 whole:∀b c t,b<v.heap.size->(v'.heap[b]? = some (.cells c t (0,c.size))↔v.heap[b]? = some (.cells c t (0,c.size)))
 tape:v'.tape=v.tape
 os:v'.os=v.os
 output:v'.output=v.output
def dL.of_env{v v':World}(h:Env v v'):dL v v':=⟨h.size,λb hb=>by simp only[Unf,h.get hb],λb c t hb=>by rw[h.get hb],h.tape,h.os,h.output⟩
def dL.of_ext{v v':World}(h:Ext v v')(hv:OkV v):dL v v':=by
 have key:∀(b:Nat) (o:Obj),v.heap[b]? = some o->(∃(c:Array Value) (t:TypeId) (f:Nat×Nat),o=C9 c t f/\∃c':Array Value,v'.heap[b]? = some (C9 c' t f)/\c'.size=c.size/\(f=(0,c.size)->c'=c))\/((∀(c:Array Value) (t:TypeId) (f:Nat×Nat),o≠C9 c t f)/\∃o':Obj,v'.heap[b]? = some o'/\∀(c:Array Value) (t:TypeId) (f:Nat×Nat),o'≠C9 c t f):=by
  intro b o hb;by_cases hc:∃(c:Array Value) (t:TypeId) (f:Nat×Nat),o=C9 c t f
  ·obtain⟨c,t,f,rfl⟩:=hc;exact .inl ⟨c,t,f,rfl,h.cells b c t f hb⟩
  ·have hc':∀c t f,o≠C9 c t f:=λc t f e=>hc ⟨c,t,f,e⟩
   obtain⟨o',h1,h2,_⟩:=h.other b o hb hc' (hv b o hb);exact .inr ⟨hc',o',h1,h2⟩
 refine⟨h.size,λb hb=>?_,λb c t hb=>?_,h.tape,h.os,h.output⟩
 ·obtain⟨o,ho⟩:∃o,v.heap[b]? = some o:=⟨_,Al hb⟩;rcases key b o ho with ⟨c,t,f,rfl,c',h1,h2,h3⟩|⟨h1,o',h2,h3⟩
  ·constructor
   ·rintro⟨o,ho',hn⟩;rw[h1]at ho';obtain rfl:=Bm ho';refine⟨_,ho,λc2 t2 e=>?_⟩;injection e with e1 e2 e3;subst e1;subst e3
    have:=h3 rfl;subst this;exact hn _ _ rfl
   ·rintro⟨o,ho',hn⟩;rw[ho]at ho';obtain rfl:=Bm ho';refine⟨_,h1,λc2 t2 e=>?_⟩;injection e with e1 e2 e3;subst e1;subst e3
    exact hn c t (by rw[h2])
  ·exact⟨λ_=>⟨o,ho,λc t=>h1 c t _⟩,λ_=>⟨o',h2,λc t=>h3 c t _⟩⟩
 ·obtain⟨o,ho⟩:∃o,v.heap[b]? = some o:=⟨_,Al hb⟩;rcases key b o ho with ⟨c0,t0,f,rfl,c',h1,h2,h3⟩|⟨h1,o',h2,h3⟩
  ·rw[h1,ho];constructor
   ·intro e;injection e with e;injection e with e1 e2 e3;subst e1;subst e2;subst e3
    have:=h3 (by rw[h2]);subst this;rfl
   ·intro e;injection e with e;injection e with e1 e2 e3;subst e1;subst e2;subst e3
    have:=h3 rfl;subst this;rfl
  ·rw[h2,ho];constructor
   ·intro e;exact absurd (Bm e) (h3 _ _ _)
   ·intro e;exact absurd (Bm e) (h1 _ _ _)
def dL.trans{v v1 v2:World}(h:dL v v1)(k:dL v1 v2):dL v v2 :=
 ⟨AR h.size k.size,λb hb=>(k.unf b (A6 hb h.size)).trans (h.unf b hb),λb c t hb=>(k.whole b c t (A6 hb h.size)).trans (h.whole b c t hb),k.tape.trans h.tape,k.os.trans h.os,k.output.trans h.output⟩
def dL.hole{v v':World}(h:dL v v'){b:Nat}(hb:v.heap[b]? = some hole):v'.heap[b]? = some hole:=(h.whole b #[] 0 (bF hb)).2 hb
def dL.whole'{v v':World}(h:dL v v'){b:Nat}(hb:qW v b):qW v' b:=by obtain⟨c,t,hb⟩:=hb;exact⟨c,t,(h.whole b c t (bF hb)).2 hb⟩
structure Vws(A:Nat->Prop)(V:Nat->World)(w:World):Prop where
 sim:∀k,A k->Sim (V k) w
 ok:∀k,A k->OkV (V k)
 dis:∀k k',A k->A k'->k≠k'->∀b,Unf (V k) b->(V k').heap[b]? = some hole
def aDz(V:Nat->World)(k:Nat)(v' w':World)(x:Nat):World:=if x=k then v' else iO (V x) w'
def kY(V:Nat->World)(k:Nat)(v' w':World):aDz V k v' w' k=v':=by simp[aDz]
def nU(V:Nat->World){k x:Nat}(v' w':World)(h:x≠k):aDz V k v' w' x=iO (V x) w':=by simp[aDz,h]
def aGc{v w w':World}(h:Sim v w)(hsz:w.heap.size<=w'.heap.size)(ht:w'.tape=w.tape)(ho:w'.os=w.os)(hp:w'.output=w.output)
  (hb:∀(b:Nat) (o:Obj),v.heap[b]? = some o->o≠hole->w'.heap[b]? = w.heap[b]?):Sim (iO v w') w':=by
 have hs:v.heap.size=w.heap.size:=h.size
 refine⟨by simp[iO,h.tape,ht],rfl,by simp[iO,h.os,ho],by simp[iO,h.output,hp],aBu (by omega),λb o hx=>?_⟩
 rcases A4 b v.heap.size with hlt|hge
 ·rw[rP hlt]at hx
  by_cases e:o=hole
  ·exact .inl e
  ·rw[hb b o hx e];exact h.blk b o hx
 ·exact .inl (wY hge hx)
def Vws.step{A:Nat->Prop}{V:Nat->World}{w:World}(h:Vws A V w){k:Nat}(hk:A k){Rm:Event->Prop}{v' w':World}{es:Array Event}(hs:aDk Rm (V k) w v' w' es):Vws A (aDz V k v' w') w':=by
 have hsz:(V k).heap.size=w.heap.size:=(h.sim k hk).size;have hsz':v'.heap.size=w'.heap.size:=hs.sim.size;have hge:(V k).heap.size<=v'.heap.size:=hs.ext.size;have hO:=dL.of_ext hs.ext (h.ok k hk);have htp:w'.tape=w.tape:=by rw[<-hs.sim.tape,hs.ext.tape,(h.sim k hk).tape]
 have hos:w'.os=w.os:=by rw[<-hs.sim.os,hs.ext.os,(h.sim k hk).os]
 have hop:w'.output=w.output:=by rw[<-hs.sim.output,hs.ext.output,(h.sim k hk).output]
 refine⟨λx hx=>?_,λx hx=>?_,λx y hx hy hne b hu=>?_⟩
 ·by_cases e:x=k
  ·subst e;rw[kY];exact hs.sim
  ·rw[nU V _ _ e];refine aGc (h.sim x hx) (by omega) htp hos hop λb o hb hne=>?_
   have hlt:b<(V k).heap.size:=by rw[hsz,<-(h.sim x hx).size];exact bF hb
   rcases aHb hlt with ⟨c,t,hw⟩|hu
   ·exact hs.rest b c t hw
   ·have:=h.dis k x hk hx (Eo e) b hu;rw[hb]at this;exact absurd (Bm this) hne
 ·by_cases e:x=k
  ·subst e;rw[kY];exact hs.ok
  ·rw[nU V _ _ e];exact(cG _ _).okV (h.ok x hx)
 ·by_cases e:x=k
  ·subst e;have ey:y≠x:=Eo hne;rw[kY]at hu;rw[nU V _ _ ey];rcases A4 b (V x).heap.size with hlt|hge'
   ·exact lN (h.dis x y hx hy hne b ((hO.unf b hlt).1 hu))
   ·obtain⟨o,ho,_⟩:=hu;have hlt:=bF ho;have hy':(V y).heap.size=w.heap.size:=(h.sim y hy).size;have hb:b<(iO (V y) w').heap.size:=by rw[aBu (by omega)];omega
    have hget:=Al hb;have:=wY (v:=V y) (w':=w') (b:=b) (by omega) hget;rw[hget,this]
  ·rw[nU V _ _ e]at hu;have hu':=aGb.1 hu;by_cases ey:y=k
   ·subst ey;rw[kY];exact hO.hole (h.dis x y hx hy hne b hu')
   ·rw[nU V _ _ ey];exact lN (h.dis x y hx hy hne b hu')
def Vws.aside{A:Nat->Prop}{V:Nat->World}{w w':World}(h:Vws A V w)(hsz:w'.heap.size=w.heap.size)(ht:w'.tape=w.tape)(ho:w'.os=w.os)(hp:w'.output=w.output)
  (hb:∀k,A k->∀(b:Nat) (o:Obj),(V k).heap[b]? = some o->o≠hole->w'.heap[b]? = w.heap[b]?):Vws A (λx=>iO (V x) w') w' :=
 ⟨λk hk=>aGc (h.sim k hk) (by omega) ht ho hp (hb k hk),λk hk=>(cG _ _).okV (h.ok k hk),λk k' hk hk' hne b hu=>lN (h.dis k k' hk hk' hne b (aGb.1 hu))⟩
def aCc:Obj->Obj
 |.cells c e _=>.cells c e (0,c.size)
 |_=>hole
def jI(v:World):World:={ v with heap:=v.heap.map aCc }
def nJ(v:World)(b:Nat):(jI v).heap[b]? = (v.heap[b]?).map aCc:=by simp[jI]
def wZ(v:World):(jI v).heap.size=v.heap.size:=by simp[jI]
def qL(o:Obj):∃c t,aCc o=.cells c t (0,c.size):=by
 cases o with
 |cells c e f=>exact⟨c,e,rfl⟩
 |_=>exact⟨#[],0,rfl⟩
def aCa{v:World}{b:Nat}(h:b<v.heap.size):qW (jI v) b:=by obtain⟨c,t,e⟩:=qL v.heap[b];exact⟨c,t,by rw[nJ,Al h,AU,e]⟩
def aJb(v:World)(b:Nat):¬Unf (jI v) b:=by rintro⟨o,ho,hn⟩;have hlt:=bF ho;rw[wZ]at hlt;exact(aCa hlt).not_unf ⟨o,ho,hn⟩
def aCb:aCc hole=hole:=rfl
def xA{v:World}{b:Nat}(h:v.heap[b]? = some hole):(jI v).heap[b]? = some hole:=by rw[nJ,h,AU,aCb]
def aJa(v:World):OkV (jI v):=λb o ho=>by rw[nJ]at ho;obtain⟨x,_,rfl⟩:=Af.1 ho;obtain⟨c,t,e⟩:=qL x;rw[e];rfl
def aNp{v w:World}(h:Sim v w):Sim (jI v) w:=by
 refine⟨h.tape,h.drawn,h.os,h.output,by rw[wZ];exact h.size,λb o ho=>?_⟩;rw[nJ]at ho;obtain⟨x,hx,rfl⟩:=Af.1 ho;cases x with
 | cells c e f =>
  simp only[aCc];rcases h.blk b _ hx with e1|e1|⟨c',e',f',e1,e2⟩
  ·injection e1 with e1 e2 e3;subst e1;subst e2;exact .inl rfl
  ·exact .inr (.inr ⟨c,e,f,rfl,e1⟩)
  ·injection e1 with e1 e3 e4;subst e1;subst e3
   exact .inr (.inr ⟨c,e,f',rfl,e2⟩)
 |_=>exact .inl rfl
end Go.Am
end
