/- The reference's Hermite form, plain: its result is in normal form and generates the same lattice; normal forms of one lattice are equal. No condition. -/
import Derived.Test.YtgjjndadkmodpaaGreatC4
import Derived.Test.YtgjjndadkmodpaaGreatC3
set_option linter.all false
set_option maxHeartbeats 16000000
set_option maxRecDepth 10000
open Bool renaming and_eq_true->AO,and_true->Fz,or_eq_true->CG,true_and->E3
open Classical renaming byContradiction->A9
open Go.IntKind renaming i64->Ag,i8->F6,u8->BO
open Go.Proofs.Tryz renaming prog->Aa
open Int renaming add_mul->Gh,emod_lt->Gi,emod_nonneg->Dt,mul_add->De,mul_assoc->DD,mul_comm->B7,mul_ediv_add_emod->DZ,mul_neg->En,mul_zero->DP,natAbs_ediv_le_natAbs->D5,natAbs_mul->BX,natAbs_natCast->DT,natAbs_neg->CT,neg_mul->C0,sign_eq_zero_iff_zero->Dw,tmod_lt_of_pos->Ex,zero_add->CD,zero_ediv->Gp
open List renaming all_cons->Ee,all_eq_true->Ay,append_assoc->Bh,append_nil->A7,cons_append->BP,drop->Cy,drop_eq_getElem_cons->AP,drop_eq_nil_of_le->BA,eq_nil_of_length_eq_zero->AE,eq_of_mem_replicate->E4,ext_getElem->EV,filter_append->BQ,getD_eq_getElem?_getD->Af,getElem?_append_left->AJ,getElem?_append_right->Az,getElem?_cons_succ->Bg,getElem?_cons_zero->Cj,getElem?_eq_getElem->Ab,getElem?_eq_none->AW,getElem?_eq_some_iff->Ah,getElem?_map->Aw,getElem?_replicate->CO,getElem_map->ER,getElem_mem->Ar,getElem_of_mem->Bw,getLast?_eq_getElem?->Dv,length_append->Ak,length_cons->AH,length_drop->Bl,length_map->AL,length_nil->Bq,length_replicate->EE,length_singleton->As,length_take->Ax,length_zip->FP,map->AQ,map_append->Bu,map_congr_left->BK,map_cons->AZ,map_drop->Bv,map_flatten->DB,map_map->CC,map_take->BD,mem_append->A5,mem_cons->AG,mem_cons_of_mem->Au,mem_cons_self->Av,mem_filter->Bi,mem_map->AA,mem_of_getElem?->Aq,mem_of_mem_drop->CQ,mem_singleton->AT,not_mem_nil->EW,replicate->AB,take->BB,take_add_one->AM,take_of_length_le->Ai,take_zero->Cc,zip_cons_cons->Ey
open List.Pairwise renaming filter->Df
open Nat renaming add_comm->CB,add_mul->By,add_sub_cancel->Ba,add_sub_cancel_left->Fc,add_zero->Ce,le_refl->Ap,le_trans->An,lt_of_le_of_lt->Cu,lt_succ_self->AK,mul_add->Cq,mul_assoc->Ck,mul_comm->Ci,mul_le_mul->Cs,mul_le_mul_left->BE,mul_le_mul_right->A8,mul_one->DE,not_lt_zero->FO,one_le_two_pow->Cd,pow_add->CA,pow_le_pow_right->BW,pow_succ->Cp,sub_lt_sub_left->AF,sub_self->Cx,sub_zero->Eo,succ_mul->C7,succ_ne_zero->DS,zero_add->A6,zero_le->Al,zero_mul->Cn
open Option renaming getD_some->Bd,isSome_iff_exists->B9,map_eq_some_iff->Aj,map_some->A4
open Option.some renaming inj->Br,injEq->AU
open _root_ renaming decide_eq_false->Bo,decide_eq_true->Bx,decide_eq_true_eq->AI,if_neg->Ac,if_pos->Ad,of_decide_eq_true->BH,or_false->EB
section
open List renaming map_map->F,mapM_map->I
open Go Go.Am Go.Proofs
namespace Go.Am
def lQ{x y q r:Int}(hy:y≠0)(h:r+y*q=x)(h0:0<=r)(h1:r<(y.natAbs:Int)):x/y=q/\x%y=r:=by
 by_cases hp:0<y
 ·exact(Int.ediv_emod_unique hp).2 ⟨h,h0,by omega⟩
 ·obtain⟨z,hz⟩:∃z,y=-z:=⟨-y,by omega⟩;subst hz;have:=(Int.ediv_emod_unique (a:=x) (b:=z) (q:=-q) (r:=r) (by omega)).2 ⟨by rw[<-h,En,C0],h0,by omega⟩;rw[Int.ediv_neg,Int.emod_neg];omega
def aJw(x:Int)(hx:(aU x.natAbs).length<=1099511627776):Spec Aa 58 [aM (aU x.natAbs),.b (decide (x<0))] (encZ x):=by have hm:=iF (aU x.natAbs) (decide (x<0)) hx;rwa [fA (cY _),dS,jH]at hm
def bMb(x y:Int)(hy:y≠0){qq rr:Nat}(hqq:x.natAbs/y.natAbs=qq)(hrr:x.natAbs%y.natAbs=rr) :
  (rr<y.natAbs)/\qq*y.natAbs+rr=x.natAbs/\(¬x<0->¬y<0->x/y=qq/\x%y=rr)/\(¬x<0->y<0->x/y=-(qq:Int)/\x%y=rr) /\
  (x<0->rr=0->¬y<0->x/y=-(qq:Int)/\x%y=0)/\(x<0->rr=0->y<0->x/y=qq/\x%y=0) /\
  (x<0->0<rr->¬y<0->x/y=-((qq:Int)+1)/\x%y=(y.natAbs:Int)-rr)/\(x<0->0<rr->y<0->x/y=(qq:Int)+1/\x%y=(y.natAbs:Int)-rr):=by
 have hya:0<y.natAbs:=by omega
 have h1:rr<y.natAbs:=by rw[<-hrr];exact Nat.mod_lt _ hya
 have h2:qq*y.natAbs+rr=x.natAbs:=by rw[<-hqq,<-hrr,Ci];exact Nat.div_add_mod ..
 have h3:(qq:Int)*(y.natAbs:Int)+rr=(x.natAbs:Int):=by exact_mod_cast h2
 have ep:¬y<0->(y.natAbs:Int)=y:=λh=>by omega
 have en:y<0->(y.natAbs:Int)=-y:=λh=>by omega
 refine⟨h1,h2,λhx h=>?_,λhx h=>?_,λhx h0 h=>?_,λhx h0 h=>?_,λhx h0 h=>?_,λhx h0 h=>?_⟩
 ·exact lQ hy (by rw[ep h,B7]at h3;omega) (by omega) (by omega)
 ·exact lQ hy (by rw[en h,En,B7]at h3;rw[En];omega) (by omega) (by omega)
 ·exact lQ hy (by rw[ep h,B7]at h3;rw[En];omega) (by omega) (by omega)
 ·exact lQ hy (by rw[en h,En,B7]at h3;omega) (by omega) (by omega)
 ·exact lQ hy (by rw[ep h,B7]at h3;rw[ep h,En,De];omega) (by omega) (by omega)
 ·exact lQ hy (by rw[en h,En,B7]at h3;rw[en h,De];omega) (by omega) (by omega)
def aIg(n:Nat):(aU (n+1)).length<=(aU n).length+1:=by have h:=gW (Ap (aU n).length);refine fZ ?_;rw[Cp];have:0<4294967296^(aU n).length:=Nat.pow_pos (by decide);omega
def bDc(y:Int)(hy:(aU y.natAbs).length<=1099511627776):Spec Aa 58 [aM (aU y.natAbs),.b false] (encZ (y.natAbs:Int)):=by have hm:=iF (aU y.natAbs) false hy;rw[fA (cY _),dS]at hm;exact hm
def aJa(x y:Int)(hy:y≠0)(hx:(aU x.natAbs).length<=130000000000)(hyl:(aU y.natAbs).length<=130000000000):Spec Aa 101 [encZ x,encZ y] (.tp [encZ (x/y),encZ (x%y),.i .i64 0]):=by
 have hx0:=hx;have hyl0:=hyl;refine bGd (N:=56) bN Tryz.func101 rfl rfl rfl (by kernel_rfl) (by kernel_rfl) (by simp) ?_;obtain⟨qq,hqq⟩:∃q,x.natAbs/y.natAbs=q:=⟨_,rfl⟩;obtain⟨rr,hrr⟩:∃q,x.natAbs%y.natAbs=q:=⟨_,rfl⟩;have hf:=bMb x y hy hqq hrr;obtain⟨Q,hQ⟩:∃Q,x/y=Q:=⟨_,rfl⟩;obtain⟨R,hR⟩:∃Q,x%y=Q:=⟨_,rfl⟩;have hm1:=aJw x (by omega);have hm2:=aJw y (by omega);have hd:=bCb x.natAbs y.natAbs qq rr hqq hrr (by omega) hx hyl;have hs:=fH y;have hs0:y.sign≠0:=λh=>hy (Dw.1 h)
 have hmy:=bDc y (by omega);have hlq:(aU qq).length<=130000000000:=An (fC (by rw[<-hqq];exact Nat.div_le_self ..)) hx0;have hlr:(aU rr).length<=130000000000:=An (fC (by have:=hf.1;omega)) hyl0;have hnq:((qq:Int)).natAbs=qq:=DT qq;have hnr:((rr:Int)).natAbs=rr:=DT rr;have hny0:((y.natAbs:Int)).natAbs=y.natAbs:=DT _;have hof:=tE 1 (by decide) (by decide);have had:=sB (qq:Int) 1 (by rw[hnq];omega) (An (fZ (k:=1) (by decide)) (by decide));have hsu:=aMe (y.natAbs:Int) (rr:Int) (by rw[hny0];omega) (by rw[hnr];omega);have hn1:=nH (qq:Int) (by rw[hnq];omega);have hn2:=nH ((qq:Int)+1) (by
  have:((qq:Int)+1).natAbs=qq+1:=by omega
  rw[this];have:=aIg qq;omega)
 have hsr:=fH (rr:Int);have hz:∀z:Int,∃s m,encZ z=.ag [.b s,aM m]:=λz=>⟨_,_,rfl⟩
 obtain⟨sq,mq,eq⟩:=hz qq;obtain⟨sr,mr,er⟩:=hz rr;obtain⟨s1,m1,e1⟩:=hz 1;obtain⟨sp,mp,ep⟩:=hz ((qq:Int)+1);obtain⟨sy,my,ey0⟩:=hz (y.natAbs:Int);obtain⟨sd,md,ed⟩:=hz ((y.natAbs:Int)-rr);obtain⟨sn,mn,en1⟩:=hz (-(qq:Int));obtain⟨sm,mm,en2⟩:=hz (-((qq:Int)+1));rw[eq,er]at hd;rw[e1]at hof;rw[eq,e1,ep]at had;rw[ey0,er,ed]at hsu;rw[eq,en1]at hn1;rw[ep,en2]at hn2;rw[er]at hsr;rw[ey0]at hmy;have hsg0:rr=0->(rr:Int).sign=0:=λh=>by rw[h];rfl
 have hsg1:¬rr=0->(rr:Int).sign=1:=λh=>Int.sign_eq_one_of_pos (by omega)
 rw[hQ,hR]at hf ⊢;have ex:encZ x=.ag [.b (decide (x<0)),aM (aU x.natAbs)]:=rfl;have ey:encZ y=.ag [.b (decide (y<0)),aM (aU y.natAbs)]:=rfl;rw[ex]at hm1 ⊢;rw[ey]at hm2 hs ⊢;generalize aU x.natAbs=a at *;generalize aU y.natAbs=b at *;have hs1:(y.sign==0)=false:=by simpa using hs0
 simp[-F,-I,↓KW,↓bH,↓bI,bQ,aM];refine aJ hm1 ?_;simp[-F,-I,↓KW,↓bH,↓bI,bQ,aM];refine aJ hm2 ?_;simp[-F,-I,↓KW,↓bH,↓bI,bQ,aM];refine bK (ds:=[.ag [.b (decide (y<0)),aM b]]) ?_ hs ?_
 ·simp[-F,-I,↓KW,↓bH,↓bI,bQ,aM,hs1]
 simp[-F,-I,↓KW,↓bH,↓bI,bQ,aM,hs1];refine aJ hd ?_;by_cases hnx:x<0<;>by_cases hny:y<0;rw[Bx hnx,Bx hny]at *;by_cases hr0:rr=0;obtain⟨f1,f2⟩:=hf.2.2.2.2.2.1 hnx hr0 hny;have e0:encZ 0=.ag [.b sr,aM mr]:=by rw[<-er,hr0];rfl
 have hsg:=hsg0 hr0;rw[f1,f2,eq,e0];simp[-F,-I,↓KW,↓bH,↓bI,bQ,aM];refine bK (ds:=[.ag [.b sr,aM mr]]) ?_ hsr ?_
 ·simp[-F,-I,↓KW,↓bH,↓bI,bQ,aM,hsg]
 simp[-F,-I,↓KW,↓bH,↓bI,bQ,aM,hsg]
 rotate_left
 obtain⟨f1,f2⟩:=hf.2.2.2.2.2.2.2 hnx (by omega) hny;have hsg:=hsg1 hr0;rw[f1,f2,ep,ed];simp[-F,-I,↓KW,↓bH,↓bI,bQ,aM];refine bK (ds:=[.ag [.b sr,aM mr]]) ?_ hsr ?_
 ·simp[-F,-I,↓KW,↓bH,↓bI,bQ,aM,hsg]
 simp[-F,-I,↓KW,↓bH,↓bI,bQ,aM,hsg];refine aJ hof ?_;simp[-F,-I,↓KW,↓bH,↓bI,bQ,aM];refine bK (ds:=[.ag [.b sq,aM mq],.ag [.b s1,aM m1]]) ?_ had ?_
 ·simp[-F,-I,↓KW,↓bH,↓bI,bQ,aM]
 simp[-F,-I,↓KW,↓bH,↓bI,bQ,aM];refine aJ hmy ?_;simp[-F,-I,↓KW,↓bH,↓bI,bQ,aM];refine bK (ds:=[.ag [.b sy,aM my],.ag [.b sr,aM mr]]) ?_ hsu ?_
 ·simp[-F,-I,↓KW,↓bH,↓bI,bQ,aM]
 simp[-F,-I,↓KW,↓bH,↓bI,bQ,aM]
 rotate_left
 rw[Bx hnx,Bo hny]at *;by_cases hr0:rr=0;obtain⟨f1,f2⟩:=hf.2.2.2.2.1 hnx hr0 hny;have e0:encZ 0=.ag [.b sr,aM mr]:=by rw[<-er,hr0];rfl
 have hsg:=hsg0 hr0;rw[f1,f2,en1,e0];simp[-F,-I,↓KW,↓bH,↓bI,bQ,aM];refine bK (ds:=[.ag [.b sr,aM mr]]) ?_ hsr ?_
 ·simp[-F,-I,↓KW,↓bH,↓bI,bQ,aM,hsg]
 simp[-F,-I,↓KW,↓bH,↓bI,bQ,aM,hsg];refine bK (ds:=[.ag [.b sq,aM mq]]) ?_ hn1 ?_
 ·simp[-F,-I,↓KW,↓bH,↓bI,bQ,aM]
 simp[-F,-I,↓KW,↓bH,↓bI,bQ,aM]
 rotate_left
 obtain⟨f1,f2⟩:=hf.2.2.2.2.2.2.1 hnx (by omega) hny;have hsg:=hsg1 hr0;rw[f1,f2,en2,ed];simp[-F,-I,↓KW,↓bH,↓bI,bQ,aM];refine bK (ds:=[.ag [.b sr,aM mr]]) ?_ hsr ?_
 ·simp[-F,-I,↓KW,↓bH,↓bI,bQ,aM,hsg]
 simp[-F,-I,↓KW,↓bH,↓bI,bQ,aM,hsg];refine aJ hof ?_;simp[-F,-I,↓KW,↓bH,↓bI,bQ,aM];refine bK (ds:=[.ag [.b sq,aM mq],.ag [.b s1,aM m1]]) ?_ had ?_
 ·simp[-F,-I,↓KW,↓bH,↓bI,bQ,aM]
 simp[-F,-I,↓KW,↓bH,↓bI,bQ,aM];refine aJ hmy ?_;simp[-F,-I,↓KW,↓bH,↓bI,bQ,aM];refine bK (ds:=[.ag [.b sy,aM my],.ag [.b sr,aM mr]]) ?_ hsu ?_
 ·simp[-F,-I,↓KW,↓bH,↓bI,bQ,aM]
 simp[-F,-I,↓KW,↓bH,↓bI,bQ,aM];refine bK (ds:=[.ag [.b sp,aM mp]]) ?_ hn2 ?_
 ·simp[-F,-I,↓KW,↓bH,↓bI,bQ,aM]
 simp[-F,-I,↓KW,↓bH,↓bI,bQ,aM]
 rotate_left
 rw[Bo hnx,Bx hny]at *;obtain⟨f1,f2⟩:=hf.2.2.2.1 hnx hny;rw[f1,f2,en1,er];simp[-F,-I,↓KW,↓bH,↓bI,bQ,aM];refine bK (ds:=[.ag [.b sq,aM mq]]) ?_ hn1 ?_
 ·simp[-F,-I,↓KW,↓bH,↓bI,bQ,aM]
 simp[-F,-I,↓KW,↓bH,↓bI,bQ,aM]
 rotate_left
 rw[Bo hnx,Bo hny]at *;obtain⟨f1,f2⟩:=hf.2.2.1 hnx hny;rw[f1,f2,eq,er];simp[-F,-I,↓KW,↓bH,↓bI,bQ,aM]
 rotate_left
 all_goals
  refine bIj 0 1 (by kernel_rfl) rfl rfl ?_ ?_
  ·simp[-F,-I,↓KW,↓bH,↓bI,bQ,aM]
   refine bIj 1 2 (by kernel_rfl) rfl rfl ?_ ?_
   ·simp[-F,-I,↓KW,↓bH,↓bI,bQ,aM]
    refine qT 2 (by kernel_rfl) rfl ?_
    simp[-F,-I,↓KW,↓bH,↓bI,bQ,aM]
    refine qT 3 (by kernel_rfl) rfl ?_
    simp[-F,-I,↓KW,↓bH,↓bI,bQ,aM]
    refine qT 4 (by kernel_rfl) rfl ?_
    simp[-F,-I,↓KW,↓bH,↓bI,bQ,aM]
    refine aVf (by kernel_rfl) ?_
    simp[-F,-I,↓KW,↓bH,↓bI,bQ,aM,eW]
   ·simp[-F,-I,↓KW,↓bH,↓bI,bQ,aM]
    refine qT 1 (by kernel_rfl) rfl ?_
    simp[-F,-I,↓KW,↓bH,↓bI,bQ,aM]
    refine qT 3 (by kernel_rfl) rfl ?_
    simp[-F,-I,↓KW,↓bH,↓bI,bQ,aM]
    refine qT 4 (by kernel_rfl) rfl ?_
    simp[-F,-I,↓KW,↓bH,↓bI,bQ,aM]
    refine aVf (by kernel_rfl) ?_
    simp[-F,-I,↓KW,↓bH,↓bI,bQ,aM,eW]
  ·simp[-F,-I,↓KW,↓bH,↓bI,bQ,aM]
   refine qT 0 (by kernel_rfl) rfl ?_
   simp[-F,-I,↓KW,↓bH,↓bI,bQ,aM]
   refine qT 2 (by kernel_rfl) rfl ?_
   simp[-F,-I,↓KW,↓bH,↓bI,bQ,aM]
   refine qT 3 (by kernel_rfl) rfl ?_
   simp[-F,-I,↓KW,↓bH,↓bI,bQ,aM]
   refine qT 4 (by kernel_rfl) rfl ?_
   simp[-F,-I,↓KW,↓bH,↓bI,bQ,aM]
   refine aVf (by kernel_rfl) ?_
   simp[-F,-I,↓KW,↓bH,↓bI,bQ,aM,eW]
def aTy{J:Nat->AV}{H:Hp}{n:Nat}{av:AV}{R c m0:Nat}{M:List (List Int)}(hM:Sh R c M)(hn:n≠0)(hav:av=.ag [.d (.i .i64 (R:Int)),.d (.i .i64 (c:Int)),.own m0 0 R 1])(hH:∀(i:Nat) o,(mB c M m0)[i]? = some o->H (i+m0)=some o) :
  ∀m,0<m->∃ρ,Wk ⟨upd J 0 av,H,n⟩ (gR (nwV R c) (mB c M) m) ρ:=by
 intro m hm0
 subst hav
 have hML:(mB c M m).length=R+1:=by rw[cT,hM.len]
 have hin:∀i,i<R+1->(gR (nwV R c) (mB c M) m).H (i+m)=(mB c M m)[i]? := λi h=>by simp only[gR,gJ];rw[Ad ⟨by omega,by rw[hML];omega⟩,Ba]
 have hout:∀id,¬(m<=id/\id<m+(R+1))->(gR (nwV R c) (mB c M) m).H id=none:=λid h=>by simp only[gR,gJ];rw[Ac (by rw[hML];exact h)]
 have hsome:∀id,((gR (nwV R c) (mB c M) m).H id).isSome=true->∃i,id=i+m/\i<R+1:=λid h=>by
  by_cases hr:m<=id/\id<m+(R+1)
  ·exact⟨id-m,by omega,by omega⟩
  ·rw[hout id hr]at h;cases h
 have hget:∀i,i<R+1->((gR (nwV R c) (mB c M) m).H (i+m)).isSome=true:=λi h=>by rw[hin i h,Ab (by rw[hML];exact h)];rfl
 refine⟨λid=>id-m+m0,λid hid=>hout id (by simp only[gR]at hid;rw[hML]at hid;omega),λt=>?_,λid o' ho=>?_,λid id' h1 h2 e=>?_,λh=>?_,λh=>?_⟩
 ·show Sub _ _ _ _ (upd (λ_=>.any) 0 (nwV R c m) t)
  by_cases e:t=0
  ·subst e
   simp only[dC,nwV]
   refine⟨rfl,λk c d h1 h2=>?_⟩
   rcases k with _|_|_|k
   ·simp at h1 h2;subst h1;subst h2;exact(kL _ _).2 rfl
   ·simp at h1 h2;subst h1;subst h2;exact(kL _ _).2 rfl
   ·simp at h1 h2;subst h1;subst h2
    exact⟨by simp,rfl,rfl,rfl,by have:=hget 0 (by omega);rwa [A6]at this⟩
   ·simp at h1
  ·rw[dX _ _ e];exact oN _
 ·obtain⟨i,rfl,hi⟩:=hsome id (by rw[ho];rfl)
  rw[hin i hi]at ho
  simp only[Ba]
  rcases i with _|i
  ·simp only[mB,Cj]at ho
   injection ho with ho;subst ho
   refine⟨_,hH 0 _ rfl,fM.2 ⟨rfl,fQ.2 ⟨by rw[cU,cU],λk x y h1 h2=>?_⟩⟩⟩
   have hlt:k<M.length:=by have:=(Ah.1 h1).1;rwa [cU]at this
   rw[dZ hlt]at h1 h2
   injection h1 with h1;injection h2 with h2;subst h1;subst h2
   rw[hM.len]at hlt
   exact⟨by show k+(m0+1)=k+(m+1)-m+m0;omega,rfl,rfl,rfl,by have:=hget (k+1) (by omega);rwa [show k+1+m=k+(m+1)by omega]at this⟩
  ·refine⟨o',hH (i+1) o' (by simpa only[mB,Bg]using ho),?_⟩
   simp only[mB,Bg,Aw]at ho
   obtain⟨v,_,rfl⟩:=Aj.1 ho
   exact vH _ _
 ·obtain⟨i,rfl,_⟩:=hsome id h1
  obtain⟨j,rfl,_⟩:=hsome id' h2
  have e':i+m-m+m0=j+m-m+m0:=e
  omega
 ·obtain⟨i,hi,_⟩:=hsome 0 h;omega
 ·simp only[gR]at h;omega
def scF(M:List (List Int))(k:Int)(i j:Nat)(r s:Nat):Int:=if r<i\/(r=i/\s<j)then ent M r s*k else 0
def tV(R c:Nat)(A:List (List Int))(k:Int):List HO :=
 [.cells 136 [.d (.i .i64 (R:Int)),.d (.i .i64 (c:Int)),.d (.sl (A.map λv=>[dQ v]))],.cells 72 [.d (.b (decide (k<0))),.d (aM (aU k.natAbs))],
  .cells 136 [.d (.i .i64 0),.d (.i .i64 0),.nil]]
def aEq(R c:Nat):HO:=.cells 136 [.d (.i .i64 (R:Int)),.d (.i .i64 (c:Int)),.own 4 0 R 1]
def scH(R c:Nat)(A:List (List Int))(k:Int)(M:List (List Int)):Hp:=iK 1 (tV R c A k++mB c M 4++[aEq R c])
def yH{R c:Nat}{A:List (List Int)}{k:Int}{M:List (List Int)}(hM:Sh R c M){H:Hp}{id:Nat}{o:HO}(ho:scH R c A k M id=some o):nC H (scH R c A k M) (λi=>i) o o:=by
 refine aGg (λo ho=>?_) ho;rw[wE,hM.len,show(tV R c A k).length=3 from rfl,show[aEq R c].length=1 from rfl];rcases A5.1 ho with ho|ho
 ·rcases A5.1 ho with ho|ho
  ·simp only[tV,AG,List.mem_nil_iff,EB]at ho;rcases ho with rfl|rfl|rfl<;>rfl
  ·exact xH (by omega) (by rw[hM.len];omega) o ho
 ·rw[AT.1 ho];simp only[rfO,aEq,rfC,Ee,List.all_nil,Fz,E3,AI];omega
def aCz{R c:Nat}{A:List (List Int)}{k:Int}{M:List (List Int)}(hM:Sh R c M){id:Nat}(h:R+6<=id):scH R c A k M id=none :=
 zL (by rw[wE,hM.len,show(tV R c A k).length=3 from rfl,show[aEq R c].length=1 from rfl];omega)
def kR{R c:Nat}{A:List (List Int)}{k:Int}{M:List (List Int)}(hM:Sh R c M){id:Nat}(h1:1<=id)(h2:id<R+6):(scH R c A k M id).isSome=true :=
 lN h1 (by rw[wE,hM.len,show(tV R c A k).length=3 from rfl,show[aEq R c].length=1 from rfl];omega)
def bHz{R c:Nat}{A:List (List Int)}{k:Int}(hA:Sh R c A)(hR:R<=1000)(hc:c<=1000)(hk:Sz k)(hAs:∀v∈A,∀z∈v,Sz z) :
  pX Aa 112 [eQ R c A,encZ k] (nwV R c) (mB c (mk R c λr s=>ent A r s*k)):=by
 refine lZ (N:=43) bN Tryz.func112 rfl rfl rfl (by decide) (by kernel_rfl) (by kernel_rfl) (by simp) rfl ?_
 have hN:=bIa R c hR hc
 simp[-F,-I,↓KW,eQ,aY,aD,aF,aG,aZ,aW]
 refine iO [.i .i64 (R:Int),.i .i64 (c:Int)] (nwV R c) (mB c (AB R (AB c 0))) (by simp) (by simp) (by simp) (by rfl) (by rfl) hN ?_
 have hne1:¬1=4+(R+1):=by omega
 have hne2:¬2=4+(R+1):=by omega
 have hne3:¬3=4+(R+1):=by omega
 have hH0:∀p:HO,upd (gJ (upd (upd (upd (λ_=>none) 1 (some (.cells 136 [.d (.i .i64 (R:Int)),.d (.i .i64 (c:Int)),.d (.sl (A.map λv=>[dQ v]))]))) 2 (some (.cells 72 [.d (.b (decide (k<0))),.d (aM (aU k.natAbs))])))
   3 (some (.cells 136 [.d (.i .i64 0),.d (.i .i64 0),.nil]))) 4 (mB c (AB R (AB c 0)) 4)) (4+(R+1)) (some p)=iK 1 (tV R c A k++mB c (AB R (AB c 0)) 4++[p]):=λp=>by
  rw[bDx,aDt (n:=4) (pre:=[_,_,_]) rfl,rQ (by rw[Ak,cT,EE,AH,AH,AH,Bq];omega)];rfl
 have hz0:Sh R c (AB R (AB c (0:Int))):=⟨by simp,λv hv=>by rw[E4 hv];simp⟩
 simp[-F,-I,↓KW,nwV,cT,gJ,hne1,hne2,hne3]
 refine aP (λx:Nat×List (List Int)=>x.1<=R/\Sh R c x.2/\∀r s,r<R->s<c->ent x.2 r s=scF A k x.1 0 r s) (λx=>⟨jO [(2,.ptr 1 0),(3,.ptr 2 0),(4,.ptr 3 0),(5,.ptr (R+5) 0),(6,.d (.i .i64 (x.1:Int)))],scH R c A k x.2,R+6⟩) (λx=>R-x.1)
  (0,AB R (AB c 0)) ⟨Al _,hz0,λr s hr hs=>?_⟩ ?_ ?_
 ·unfold ent scF
  rw[Ac (by omega),Af (l:=AB R _),CO,Ad hr]
  simp only[Bd]
  rw[Af,CO,Ad hs];rfl
 ·rw[aIq,hH0]
  refine⟨_,lH ?_ (λid o' ho=>⟨o',ho,yH hz0 ho⟩) (λid hid=>aCz hz0 hid) (by simp)⟩
  have g1:=kR (A:=A) (k:=k) hz0 (id:=1) (by omega) (by omega)
  have g2:=kR (A:=A) (k:=k) hz0 (id:=2) (by omega) (by omega)
  have g3:=kR (A:=A) (k:=k) hz0 (id:=3) (by omega) (by omega)
  have g4:=kR (A:=A) (k:=k) hz0 (id:=R+5) (by omega) (by omega)
  have g5:4+(R+1)=R+5:=by omega
  simp[-F,upd,aO,Γ0,g1,g2,g3,g4,g5]
 ·rintro⟨i,M⟩ ⟨hi,hM,hME⟩
  simp only at hi hM hME
  have hH1:scH R c A k M 1=some (.cells 136 [.d (.i .i64 (R:Int)),.d (.i .i64 (c:Int)),.d (.sl (A.map λv=>[dQ v]))]):=rfl
  have hH3:scH R c A k M 3=some (.cells 136 [.d (.i .i64 0),.d (.i .i64 0),.nil]):=rfl
  have hHo:scH R c A k M (R+5)=some (aEq R c):=aGh (by rw[hM.len,show(tV R c A k).length=3 from rfl];omega)
  by_cases hgi:i<R
  ·have q1:(i:Int)<R:=by omega
   have hw:Ag.wrap ((i:Int)+1)=(i:Int)+1:=aV
   have hsome:=λid=>kR (A:=A) (k:=k) hM (id:=id)
   have htop:=λid=>aCz (A:=A) (k:=k) hM (id:=id)
   have hself:=λ(H:Hp) id o=>yH (A:=A) (k:=k) hM (H:=H) (id:=id) (o:=o)
   generalize hHg:scH R c A k M=H at *
   simp[-F,-I,↓KW,q1,hH1]
   refine aP (λx:Nat×List (List Int)=>x.1<=c/\Sh R c x.2/\∀r s,r<R->s<c->ent x.2 r s=scF A k i x.1 r s) (λx=>⟨jO [(2,.ptr 1 0),(3,.ptr 2 0),(4,.ptr 3 0),(5,.ptr (R+5) 0),(6,.d (.i .i64 (i:Int))),(7,.d (.i .i64 (x.1:Int)))],scH R c A k x.2,R+6⟩) (λx=>c-x.1)
    (0,M) ⟨Al _,hM,hME⟩ ?_ ?_
   ·rw[hHg]
    refine⟨_,lH ?_ (λid o' ho=>⟨o',ho,hself _ _ _ ho⟩) (λid hid=>htop id hid) (by simp)⟩
    have g1:=hsome 1 (by omega) (by omega)
    have g2:=hsome 2 (by omega) (by omega)
    have g3:=hsome 3 (by omega) (by omega)
    have g4:=hsome (R+5) (by omega) (by omega)
    simp[-F,upd,aO,Γ0,g1,g2,g3,g4]
   ·clear hHg hH1 hH3 hHo hsome htop hself hM hME
    rintro⟨j,M⟩ ⟨hj,hM,hME⟩
    simp only at hj hM hME
    have hH1:scH R c A k M 1=some (.cells 136 [.d (.i .i64 (R:Int)),.d (.i .i64 (c:Int)),.d (.sl (A.map λv=>[dQ v]))]):=rfl
    have hH2:scH R c A k M 2=some (.cells 72 [.d (.b (decide (k<0))),.d (aM (aU k.natAbs))]):=rfl
    have hHo:scH R c A k M (R+5)=some (.cells 136 [.d (.i .i64 (R:Int)),.d (.i .i64 (c:Int)),.own 4 0 R 1]):=aGh (by rw[hM.len,show(tV R c A k).length=3 from rfl];omega)
    have hHh:scH R c A k M 4=some (.cells 140 (hdr c R 5)):=by rw[<-hM.len];exact zK rfl
    obtain⟨v,hv,hvl,hve⟩:=hM.get hgi
    have hHi:scH R c A k M (i+5)=some (.cells 72 ((vcs v).map .d)):=wD (m:=4) rfl hv
    by_cases hgj:j<c
    ·have q2:(j:Int)<c:=by omega
     have hw2:Ag.wrap ((j:Int)+1)=(j:Int)+1:=aV
     obtain⟨av,hav,havl,have1⟩:=hA.get hgi
     have hz:av[j]? = some (ent A i j):=by rw[<-have1 j,Af,Ab (by omega)];rfl
     have hzS:Sz (ent A i j):=hAs _ (Aq hav) _ (Aq hz)
     have hmul:=qI (ent A i j) k hzS hk
     have hM':Sh R c (M.set i (v.set j (ent A i j*k))):=iI hM hv
     have hupd:upd (scH R c A k M) (i+5) (some (.cells 72 ((vcs (v.set j (ent A i j*k))).map .d)))=scH R c A k (M.set i (v.set j (ent A i j*k))):=xZ (m:=4) rfl (by rw[hM.len];exact hgi)
     have hlay:=mC (v:=v) (ent A i j*k) (by rw[hvl];exact hgj)
     have hvcl:=gY v
     rw[hvl]at hvcl
     have hj2:j*2+2<=c*2:=by omega
     have hg:=dZ (c:=c) (b:=5) hgi
     have hgl:=cU c R 5
     have hg2:∀h:i<(hdr c R 5).length,(hdr c R 5)[i]'h=.own (i+5) 0 c 2:=λh=>Br ((Ab h).symm.trans hg)
     generalize hze:ent A i j=z at *
     generalize hz':z*k=z' at *
     generalize hHg:scH R c A k M=H at *
     generalize hdr c R 5=cellsR at *
     simp[-F,-I,↓KW,q2,hH1,hH2,hHo,hHh,hHi,hg,hg2,hgl,hgi,hgj,hav,hz,hj2,hvcl,dQ,aNb,aD,aF,aG,aZ,aW]
     refine aJ hmul ?_
     rw[aY]
     simp[-F,-I,↓KW,hw2,hH1,hH2,hHo,hHh,hHi,hg,hg2,hgl,hgi,hgj,hj2,hvcl,hlay,aD,aF,aG,aZ,aW]
     rw[hupd]
     refine aI (j+1,M.set i (v.set j z')) ⟨hgj,hM',λr s hr hs=>?_⟩ (AF hgj (AK _)) ?_
     ·rw[nL hM hgi hgj hv,hME r s hr hs]
      simp only[scF]
      split
      ·rename_i e;rw[Ad (by omega),e.1,e.2,hze,hz']
      ·split
       ·rw[Ad (by omega)]
       ·rw[Ac (by omega)]
     ·refine⟨_,lH ?_ (λid o' ho=>⟨o',ho,yH hM' ho⟩) (λid hid=>aCz hM' hid) (by simp)⟩
      have g1:=kR (A:=A) (k:=k) hM' (id:=1) (by omega) (by omega)
      have g2:=kR (A:=A) (k:=k) hM' (id:=2) (by omega) (by omega)
      have g3:=kR (A:=A) (k:=k) hM' (id:=3) (by omega) (by omega)
      have g4:=kR (A:=A) (k:=k) hM' (id:=R+5) (by omega) (by omega)
      simp[-F,upd,aO,Γ0,g1,g2,g3,g4]
    ·have q2:¬(j:Int)<c:=by omega
     have ej:j=c:=by omega
     have hsome:=λid=>kR (A:=A) (k:=k) hM (id:=id)
     have htop:=λid=>aCz (A:=A) (k:=k) hM (id:=id)
     have hself:=λ(H:Hp) id o=>yH (A:=A) (k:=k) hM (H:=H) (id:=id) (o:=o)
     generalize hHg:scH R c A k M=H at *
     simp[-F,-I,↓KW,q2,hH1,hw]
     refine aI (i+1,M) ⟨hgi,hM,λr s hr hs=>?_⟩ (AF hgi (AK _)) ?_
     ·rw[hME r s hr hs]
      simp only[scF]
      by_cases e:r<i\/(r=i/\s<j)
      ·rw[Ad e,Ad (by omega)]
      ·rw[Ac e,Ac (by omega)]
     ·rw[hHg]
      refine⟨_,lH ?_ (λid o' ho=>⟨o',ho,hself _ _ _ ho⟩) (λid hid=>htop id hid) (by simp)⟩
      have g1:=hsome 1 (by omega) (by omega)
      have g2:=hsome 2 (by omega) (by omega)
      have g3:=hsome 3 (by omega) (by omega)
      have g4:=hsome (R+5) (by omega) (by omega)
      simp[-F,upd,aO,Γ0,g1,g2,g3,g4]
  ·have q1:¬(i:Int)<R:=by omega
   have ei:i=R:=by omega
   have hMk:M=mk R c λr s=>ent A r s*k:=tF hM λr s hr hs=>by rw[hME r s hr hs];simp only[scF];rw[Ad (by omega)]
   have hmb:∀(i:Nat) o,(mB c M 4)[i]? = some o->scH R c A k M (i+4)=some o:=λi o h=>by have hi:=(Ah.1 h).1;unfold scH;rw[show i+4=(i+3)+1 by omega,mJ,AJ (by rw[Ak,show(tV R c A k).length=3 from rfl];omega),Az (by rw[show(tV R c A k).length=3 from rfl];omega),show(tV R c A k).length=3 from rfl,Ba];exact h
   rw[aEq]at hHo
   generalize hHg:scH R c A k M=H at *
   simp[-F,-I,↓KW,q1,hH1,hH3,hHo]
   rw[<-hMk]
   refine aTy hM (DS _) rfl λi o h=>?_
   simp only[upd]
   rw[Ac (by omega)]
   exact hmb i o h
def bCa{R c:Nat}{A:List (List Int)}(hA:Sh R c A)(hR:R<=1000)(hc:c<=1000)(hAs:∀v∈A,∀z∈v,Sz z) :
  pX Aa 108 [eQ R c A] (nwV R c) (mB c A):=by
 refine lZ (N:=6) bN Tryz.func108 rfl rfl rfl (by decide) (by kernel_rfl) (by kernel_rfl) (by simp) rfl ?_
 have hof:=tE 1 (by decide) (by decide)
 have hN:=bHz (k:=1) hA hR hc (An (fZ (n:=1) (k:=1) (by decide)) (by decide)) hAs
 have hMk:(mk R c λr s=>ent A r s*1)=A:=(tF hA λr s _ _=>by rw[Int.mul_one]).symm
 rw[hMk]at hN
 have hl:(mB c A 3).length=R+1:=by rw[cT,hA.len]
 simp[-F,-I,↓KW,eQ]
 refine aJ hof ?_
 rw[aY]
 simp[-F,-I,↓KW,eQ,aD,aF,aG,aZ,aW]
 refine iO [eQ R c A,encZ 1] (nwV R c) (mB c A) (by simp) (by simp) (by simp) (by rfl) (by rfl) hN ?_
 have hne1:¬1=3+(R+1):=by omega
 simp[-F,-I,↓KW,nwV,hl,gJ]
 refine aTy hA (DS _) rfl λi o h=>?_
 have hi:=(Ah.1 h).1
 rw[hl]at hi
 simp only[upd,gJ,hl]
 rw[Ac (by omega),Ad (by omega),Ba]
 exact h
def idM(n:Nat):List (List Int):=mk n n λr s=>if r=s then 1 else 0
def idF(i r s:Nat):Int:=if r<i/\r=s then 1 else 0
def idH(n:Nat)(M:List (List Int)):Hp:=iK 1 ([.cells 136 [.d (.i .i64 0),.d (.i .i64 0),.nil]]++mB n M 2++[.cells 136 [.d (.i .i64 (n:Int)),.d (.i .i64 (n:Int)),.own 2 0 n 1]])
def aSf{n:Nat}{M:List (List Int)}(hM:Sh n n M){H:Hp}{id:Nat}{o:HO}(ho:idH n M id=some o):nC H (idH n M) (λi=>i) o o:=by
 refine aGg (λo ho=>?_) ho;rw[wE,hM.len,As,As];rcases A5.1 ho with ho|ho
 ·rcases A5.1 ho with ho|ho
  ·rw[AT.1 ho];rfl
  ·exact xH (by omega) (by rw[hM.len];omega) o ho
 ·rw[AT.1 ho];simp only[rfO,rfC,Ee,List.all_nil,Fz,E3,AI];omega
def aZp{n:Nat}{M:List (List Int)}(hM:Sh n n M){id:Nat}(h:n+4<=id):idH n M id=none :=
 zL (by rw[wE,hM.len,As,As];omega)
def zG{n:Nat}{M:List (List Int)}(hM:Sh n n M){id:Nat}(h1:1<=id)(h2:id<n+4):(idH n M id).isSome=true :=
 lN h1 (by rw[wE,hM.len,As,As];omega)
def aQd(n:Nat)(hR:n<=1000):pX Aa 109 [.i .i64 (n:Int)] (nwV n n) (mB n (idM n)):=by
 refine lZ (N:=22) bN Tryz.func109 rfl rfl rfl (by decide) (by kernel_rfl) (by kernel_rfl) (by simp) rfl ?_;have hN:=bIa n n hR hR;have hof:=tE 1 (by decide) (by decide);simp[-F,-I,↓KW];refine iO [.i .i64 (n:Int),.i .i64 (n:Int)] (nwV n n) (mB n (AB n (AB n 0))) (by simp) (by simp) (by simp) (by rfl) (by rfl) hN ?_;have hne1:¬1=2+(n+1):=by omega
 have hz0:Sh n n (AB n (AB n (0:Int))):=⟨by simp,λv hv=>by rw[E4 hv];simp⟩;have hH0:∀p q:HO,upd (gJ (upd (λ_=>none) 1 (some q)) 2 (mB n (AB n (AB n 0)) 2)) (2+(n+1)) (some p)=iK 1 ([q]++mB n (AB n (AB n 0)) 2++[p]):=λp q=>by rw[aZw,aDt (n:=2) (pre:=[_]) rfl,rQ (by rw[Ak,cT,EE,As];omega)]
 simp[-F,-I,↓KW,nwV,cT,gJ,hne1];refine aP (λx:Nat×List (List Int)=>x.1<=n/\Sh n n x.2/\∀r s,r<n->s<n->ent x.2 r s=idF x.1 r s) (λx=>⟨jO [(0,.d (.i .i64 (n:Int))),(2,.ptr 1 0),(3,.ptr (n+3) 0),(4,.d (.i .i64 (x.1:Int)))],idH n x.2,n+4⟩) (λx=>n-x.1)
  (0,AB n (AB n 0)) ⟨Al _,hz0,λr s hr hs=>?_⟩ ?_ ?_
 ·unfold ent idF;rw[Ac (by omega),Af (l:=AB n _),CO,Ad hr];simp only[Bd];rw[Af,CO,Ad hs];rfl
 ·rw[aIq,hH0];refine⟨_,lH ?_ (λid o' ho=>⟨o',ho,aSf hz0 ho⟩) (λid hid=>aZp hz0 hid) (by simp)⟩;have g1:=zG hz0 (id:=1) (by omega) (by omega);have g4:=zG hz0 (id:=n+3) (by omega) (by omega);have g5:2+(n+1)=n+3:=by omega
  simp[-F,upd,aO,Γ0,g1,g4,g5]
 ·rintro⟨i,M⟩ ⟨hi,hM,hME⟩;simp only at hi hM hME;have hH1:idH n M 1=some (.cells 136 [.d (.i .i64 0),.d (.i .i64 0),.nil]):=rfl;have hHo:idH n M (n+3)=some (.cells 136 [.d (.i .i64 (n:Int)),.d (.i .i64 (n:Int)),.own 2 0 n 1]):=aGh (by rw[hM.len,As];omega);by_cases hgi:i<n
  ·have q1:(i:Int)<n:=by omega
   have hw:Ag.wrap ((i:Int)+1)=(i:Int)+1:=aV;have hHh:idH n M 2=some (.cells 140 (hdr n n 3)):=by have:=zK (b:=1) (c:=n) (m:=2) (pre:=[.cells 136 [.d (.i .i64 0),.d (.i .i64 0),.nil]]) (M:=M) (post:=[.cells 136 [.d (.i .i64 (n:Int)),.d (.i .i64 (n:Int)),.own 2 0 n 1]]) rfl;rwa [hM.len]at this
   obtain⟨v,hv,hvl,hve⟩:=hM.get hgi;have hHi:idH n M (i+3)=some (.cells 72 ((vcs v).map .d)):=wD (m:=2) rfl hv;obtain⟨z',hz'⟩:∃z',z'=(1:Int):=⟨1,rfl⟩;have hofz:Spec Aa 31 [.i .i64 1] (encZ z'):=by rw[hz'];exact hof
   have hM':Sh n n (M.set i (v.set i z')):=iI hM hv;have hupd:upd (idH n M) (i+3) (some (.cells 72 ((vcs (v.set i z')).map .d)))=idH n (M.set i (v.set i z')):=xZ (m:=2) rfl (by rw[hM.len];exact hgi);have hlay:=mC (v:=v) z' (j:=i) (by rw[hvl];exact hgi);have hvcl:=gY v;rw[hvl]at hvcl;have hj2:i*2+2<=n*2:=by omega
   have hg:=dZ (c:=n) (b:=3) hgi;have hgl:=cU n n 3;have hg2:∀h:i<(hdr n n 3).length,(hdr n n 3)[i]'h=.own (i+3) 0 n 2:=λh=>Br ((Ab h).symm.trans hg)
   generalize hHg:idH n M=H at *;generalize hdr n n 3=cellsR at *;simp[-F,-I,↓KW,q1,hH1,hHo,hHh,hHi,hg,hg2,hgl,hgi];refine aJ hofz ?_;rw[aY];simp[-F,-I,↓KW,hw,hH1,hHo,hHh,hHi,hg,hg2,hgl,hgi,hj2,hvcl,hlay,aD,aF,aG,aZ,aW];rw[hupd];refine aI (i+1,M.set i (v.set i z')) ⟨hgi,hM',λr s hr hs=>?_⟩ (AF hgi (AK _)) ?_
   ·rw[nL hM hgi hgi hv,hME r s hr hs,hz'];simp only[idF];by_cases e:r=i/\s=i
    ·rw[Ad e,Ad (by omega)]
    ·rw[Ac e];by_cases e2:r<i/\r=s
     ·rw[Ad e2,Ad (by omega)]
     ·rw[Ac e2,Ac (by omega)]
   ·refine⟨_,lH ?_ (λid o' ho=>⟨o',ho,aSf hM' ho⟩) (λid hid=>aZp hM' hid) (by simp)⟩;have g1:=zG hM' (id:=1) (by omega) (by omega);have g4:=zG hM' (id:=n+3) (by omega) (by omega);simp[-F,upd,aO,Γ0,g1,g4]
  ·have q1:¬(i:Int)<n:=by omega
   have hMk:M=idM n:=tF hM λr s hr hs=>by
    rw[hME r s hr hs];simp only[idF];by_cases e:r=s
    ·rw[Ad e,Ad ⟨by omega,e⟩]
    ·rw[Ac e,Ac (λh=>e h.2)]
   have hmb:∀(i:Nat) o,(mB n M 2)[i]? = some o->idH n M (i+2)=some o:=λi o h=>by have hi:=(Ah.1 h).1;unfold idH;rw[show i+2=(i+1)+1 by omega,mJ,AJ (by rw[Ak,As];omega),Az (by rw[As];omega),As,Ba];exact h
   generalize hHg:idH n M=H at *;simp[-F,-I,↓KW,q1,hH1,hHo];rw[<-hMk];refine aTy hM (DS _) rfl λi o h=>?_
   simp only[upd];rw[Ac (by omega)];exact hmb i o h
def wRt(R c p q r:Nat):HO:=.cells 168 [.d (.i .i64 (R:Int)),.d (.i .i64 (c:Int)),.own p 0 R 1,.d (.i .i64 (R:Int)),.d (.i .i64 (R:Int)),.own q 0 R 1,.d (.i .i64 (R:Int)),.d (.i .i64 (R:Int)),.own r 0 R 1]
def wHs(R c:Nat)(M U V:List (List Int))(p q r:Nat):List HO:=mB c M p++mB R U q++mB R V r
def wH(R c:Nat)(M U V:List (List Int)):List HO:=wHs R c M U V 1 (R+2) (2*R+3)
def wR0(R c:Nat):HO:=wRt R c 1 (R+2) (2*R+3)
structure WS(R c:Nat)(M U V:List (List Int)):Prop where
 m:Sh R c M
 u:Sh R R U
 v:Sh R R V
def iE{R c:Nat}{M U V:List (List Int)}(h:WS R c M U V)(p q r:Nat):(wHs R c M U V p q r).length=3*R+3:=by unfold wHs;rw[Ak,Ak,cT,cT,cT,h.m.len,h.u.len,h.v.len];omega
def aOi{R c i p q r:Nat}{M U V:List (List Int)}(h:WS R c M U V)(hi:i<R+1):(wHs R c M U V p q r)[i]? = (mB c M p)[i]? := by unfold wHs;rw[Bh,AJ (by rw[cT,h.m.len];exact hi)]
def aOh{R c i p q r:Nat}{M U V:List (List Int)}(h:WS R c M U V)(hi:i<R+1):(wHs R c M U V p q r)[i+(R+1)]? = (mB R U q)[i]? := by unfold wHs;rw[Bh,Az (by rw[cT,h.m.len];omega),cT,h.m.len,Ba,AJ (by rw[cT,h.u.len];exact hi)]
def aOg{R c i p q r:Nat}{M U V:List (List Int)}(h:WS R c M U V)(hi:i<R+1):(wHs R c M U V p q r)[i+(2*R+2)]? = (mB R V r)[i]? := by unfold wHs;rw[Az (by rw[Ak,cT,cT,h.m.len,h.u.len];omega),Ak,cT,cT,h.m.len,h.u.len,show i+(2*R+2)-(R+1+(R+1))=i by omega]
def cCc{R i:Nat}(h:i<3*R+3):i<R+1\/(∃t,t<R+1/\i=t+(R+1))\/∃t,t<R+1/\i=t+(2*R+2):=by
 by_cases h1:i<R+1
 ·exact .inl h1
 ·by_cases h2:i<2*R+2
  ·exact .inr (.inl ⟨i-(R+1),by omega,by omega⟩)
  ·exact .inr (.inr ⟨i-(2*R+2),by omega,by omega⟩)
structure HW(H:Hp)(b p q r R c:Nat)(M U V:List (List Int)):Prop where
 root:H b=some (wRt R c p q r)
 m:∀(i:Nat) o,(mB c M p)[i]? = some o->H (i+p)=some o
 u:∀(i:Nat) o,(mB R U q)[i]? = some o->H (i+q)=some o
 v:∀(i:Nat) o,(mB R V r)[i]? = some o->H (i+r)=some o
def wNu(b p q r R:Nat)(i:Nat):Nat:=if i=0 then b else if i<R+2 then p+(i-1)else if i<2*R+3 then q+(i-(R+2))else r+(i-(2*R+3))
def aXu{b p q r R t:Nat}(h:t<R+1):wNu b p q r R (t+1)=p+t:=by unfold wNu;rw[Ac (by omega),Ad (by omega)];rfl
def aXt{b p q r R t:Nat}(h:t<R+1):wNu b p q r R (t+(R+2))=q+t:=by unfold wNu;rw[Ac (by omega),Ac (by omega),Ad (by omega),Ba]
def aXs{b p q r R t:Nat}:wNu b p q r R (t+(2*R+3))=r+t:=by unfold wNu;rw[Ac (by omega),Ac (by omega),Ac (by omega),Ba]
def bQg(ν:Nat->Nat)(v:List Int):lT ν (aCo v)=aCo v:=by simp only[lT,aCo,CC];congr 1
def bQh{ν:Nat->Nat}{c n m m':Nat}(h:∀t,t<n->ν (t+m)=t+m'):(hdr c n m).map (wN ν)=hdr c n m':=by
 unfold hdr;rw[CC];refine BK λj hj=>?_
 simp only[Function.comp,wN];rw[h j (List.mem_range.1 hj)]
def bHl{ν:Nat->Nat}{c m m':Nat}{M:List (List Int)}(h:∀t,t<M.length->ν (t+(m+1))=t+(m'+1)):(mB c M m).map (lT ν)=mB c M m':=by
 unfold mB;rw[AZ,CC];congr 1
 ·simp only[lT];rw[bQh h]
 ·refine BK λv _=>?_
  exact bQg ν v
def aPq(b p q r R c:Nat):lT (wNu b p q r R) (wR0 R c)=wRt R c p q r:=by
 have h1:wNu b p q r R 1=p:=aXu (t:=0) (by omega);have h2:wNu b p q r R (R+2)=q:=by have:=aXt (b:=b) (p:=p) (q:=q) (r:=r) (R:=R) (t:=0) (by omega);rwa [A6,Ce]at this
 have h3:wNu b p q r R (2*R+3)=r:=by have:=aXs (b:=b) (p:=p) (q:=q) (r:=r) (R:=R) (t:=0);rwa [A6,Ce]at this
 simp only[wR0,wRt,lT,AZ,List.map_nil,wN,h1,h2,h3]
def cBu{a n:Nat}{o:HO}(h:rfO a n o=true):lfO n o=true:=by
 cases o with
 |map _ _=>cases h
 |iter _ _ _=>cases h
 |cells e cs =>
  refine Ay.2 λc hc=>?_
  have:=Ay.1 h c hc;cases c<;>first|rfl|(cases this;done)|(simp only[rfC,lf0,AI]at this ⊢;omega)
def aIu{R c:Nat}{M U V:List (List Int)}(h:WS R c M U V):∀o∈wR0 R c::wH R c M U V,rfO 1 (3*R+4) o=true:=by
 intro o ho;rcases AG.1 ho with rfl|ho
 ·simp only[wR0,wRt,rfO,rfC,Ee,List.all_nil,Fz,E3,AO,AI];omega
 ·unfold wH wHs at ho;rcases A5.1 ho with ho|ho
  ·rcases A5.1 ho with ho|ho
   ·exact xH (by omega) (by rw[h.m.len];omega) o ho
   ·exact xH (by omega) (by rw[h.u.len];omega) o ho
  ·exact xH (by omega) (by rw[h.v.len];omega) o ho
def aFn{c n m t:Nat}(h:t<n):aIa (t+m) (.cells 140 (hdr c n m))=true:=by simp only[aIa];refine List.any_eq_true.2 ⟨.own (t+m) 0 c 2,Aq (dZ h),by simp[mG]⟩
def bWs{R c:Nat}{M U V:List (List Int)}(h:WS R c M U V):∀i,0<i->i<(wH R c M U V).length+1->∃j ob,j<i/\(wR0 R c::wH R c M U V)[j]? = some ob/\aIa i ob=true:=by
 intro i hi hl;rw[show(wH R c M U V).length=3*R+3 from iE h _ _ _]at hl;obtain⟨k,rfl⟩:∃k,i=k+1:=⟨i-1,by omega⟩;rcases cCc (i:=k) (R:=R) (by omega)with ht|⟨t,ht,rfl⟩|⟨t,ht,rfl⟩
 ·rcases k with _|t
  ·exact⟨0,_,by omega,rfl,by simp[aIa,wR0,wRt,mG]⟩
  ·refine⟨1,.cells 140 (hdr c R 2),by omega,?_,?_⟩
   ·rw[Bg];show(wHs R c M U V _ _ _)[0]? = _;rw[aOi h (by omega)];simp only[mB,Cj,h.m.len]
   ·have:=aFn (c:=c) (n:=R) (m:=2) (t:=t) (by omega);rwa [show t+2=t+1+1 by omega]at this
 ·rcases t with _|t
  ·refine⟨0,_,by omega,rfl,?_⟩;simp only[aIa,wR0,wRt,mG,List.any_cons,List.any_nil,Bool.or_false,CG,beq_iff_eq];omega
  ·refine⟨R+2,.cells 140 (hdr R R (R+3)),by omega,?_,?_⟩
   ·rw[show R+2=(0+(R+1))+1 by omega,Bg];show(wHs R c M U V _ _ _)[0+(R+1)]? = _;rw[aOh h (by omega)];simp only[mB,Cj,h.u.len]
   ·have:=aFn (c:=R) (n:=R) (m:=R+3) (t:=t) (by omega);rwa [show t+(R+3)=t+1+(R+1)+1 by omega]at this
 ·rcases t with _|t
  ·refine⟨0,_,by omega,rfl,?_⟩;simp only[aIa,wR0,wRt,mG,List.any_cons,List.any_nil,Bool.or_false,CG,beq_iff_eq];omega
  ·refine⟨2*R+3,.cells 140 (hdr R R (2*R+4)),by omega,?_,?_⟩
   ·rw[show 2*R+3=(0+(2*R+2))+1 by omega,Bg];show(wHs R c M U V _ _ _)[0+(2*R+2)]? = _;rw[aOg h (by omega)];simp only[mB,Cj,h.v.len]
   ·have:=aFn (c:=R) (n:=R) (m:=2*R+4) (t:=t) (by omega);rwa [show t+(2*R+4)=t+1+(2*R+2)+1 by omega]at this
def HW.get{H:Hp}{b p q r R c:Nat}{M U V:List (List Int)}(h:HW H b p q r R c M U V)(hs:WS R c M U V)(i:Nat)(ob:HO)(ho:(wR0 R c::wH R c M U V)[i]? = some ob):H (wNu b p q r R i)=some (lT (wNu b p q r R) ob):=by
 rcases i with _|i
 ·simp only[Cj,AU]at ho;subst ho;rw[aPq];exact h.root
 ·rw[Bg]at ho;have hlt:=(Ah.1 ho).1;rw[show(wH R c M U V).length=3*R+3 from iE hs _ _ _]at hlt;have key:∀{c' m m':Nat} {N:List (List Int)} {t:Nat},(∀t,t<N.length->wNu b p q r R (t+(m+1))=t+(m'+1))->(mB c' N m)[t]? = some ob->(mB c' N m')[t]? = some (lT (wNu b p q r R) ob):=λhν ht=>by rw[<-bHl hν,Aw,ht];rfl
  rcases cCc hlt with ht|⟨t,ht,rfl⟩|⟨t,ht,rfl⟩
  ·unfold wH at ho;rw[aOi hs ht]at ho;rw[aXu ht,CB p i];exact h.m i _ (key (λt ht=>by rw[hs.m.len]at ht;rw[show t+(1+1)=(t+1)+1 by omega,aXu (by omega)];omega) ho)
  ·unfold wH at ho;rw[aOh hs ht]at ho;rw[show t+(R+1)+1=t+(R+2)by omega,aXt ht,CB q t];exact h.u t _ (key (λt ht=>by rw[hs.u.len]at ht;rw[show t+(R+2+1)=(t+1)+(R+2)by omega,aXt (by omega)];omega) ho)
  ·unfold wH at ho;rw[aOg hs ht]at ho;rw[show t+(2*R+2)+1=t+(2*R+3)by omega,aXs,CB r t];exact h.v t _ (key (λt ht=>by rw[show t+(2*R+3+1)=(t+1)+(2*R+3)by omega,aXs];omega) ho)
def aLh{b p q r R:Nat}(h1:b<p\/r+R<b)(h2:p+R<q)(h3:q+R<r)(i j:Nat)(hi:i<3*R+4)(hj:j<3*R+4)(he:wNu b p q r R i=wNu b p q r R j):i=j:=by unfold wNu at he;split at he<;>split at he<;>first|omega|(split at he<;>first|omega|(split at he<;>first|omega|(split at he<;>first|omega|(split at he<;>omega))))
structure HF(H:Hp)(pre:List HO)(p q r R c:Nat)(M U V:List (List Int)):Prop where
 w:HW H (pre.length+1) p q r R c M U V
 pre:∀(i:Nat) o,pre[i]? = some o->H (i+1)=some o
def HW.hdrM{H:Hp}{b p q r R c:Nat}{M U V:List (List Int)}(h:HW H b p q r R c M U V)(hs:WS R c M U V):H p=some (.cells 140 (hdr c R (p+1))):=by have:=h.m 0 _ rfl;rwa [A6,hs.m.len]at this
def HW.rowM{H:Hp}{b p q r R c i:Nat}{M U V:List (List Int)}(h:HW H b p q r R c M U V){v:List Int}(hv:M[i]? = some v):H (i+(p+1))=some (.cells 72 ((vcs v).map .d)):=by have:=h.m (i+1) (aCo v) (by simp only[mB,Bg,Aw,hv,A4]);rwa [show i+1+p=i+(p+1)by omega]at this
def bIz(b n R:Nat):nuT b n=wNu b n (n+R+1) (n+2*R+2) R:=by
 funext j;unfold nuT wNu;by_cases h:j=0
 ·rw[Ad h,Ad h]
 ·rw[Ac h,Ac h];split
  ·rfl
  ·split<;>omega
def bVj{b p q r R n:Nat}(h1:b<p)(h2:p+R<q)(h3:q+R<r)(h4:r+R<n){id:Nat}(h:id∈nuL (wNu b p q r R) (3*R+3)):b<id/\id<n:=by
 obtain⟨j,hj,hj2,rfl⟩:=vS.1 h;unfold wNu;rw[Ac (by omega)];split
 ·omega
 ·split<;>omega
def bIk{P:Program}{dst:Option Tmp}{ty:TypeId}{pos:String}{after:Array Edge}{guard:Option (Nat×Bool)}{σ:St}{con:List Nat}{k:St->List Nat->Prop}{f:FuncId}{x:Operand}{rest:List Operand}{ts:Array TypeId}
  {d:Dm ((⟨dst,.call ⟨.value (.func f),(x::rest).toArray,ts⟩,ty,pos,after,guard⟩:Oper),k)} {b p q r R c:Nat} {M U V M' U' V':List (List Int)} {ds:List D} (hm:bB P f=true) (hpos:0<σ.n) (hx:oev σ.J x=.ptr b 0)
  (hW:HW σ.H b p q r R c M U V) (hs:WS R c M U V) (h1:b<p) (h2:p+R<q) (h3:q+R<r) (hvis:fK σ.H (rest.map (oev σ.J))=[]) (hfr:fW σ.H (rest.map (oev σ.J))=some ds)
  (hs':WS R c M' U' V') (hsp:aAc P f (.ptr 0 0) (wR0 R c) (wH R c M U V) ds (wR0 R c) (wH R c M' U' V') (.tp []))
  (hk:k ⟨bT σ.J dst (inj (.tp [])),tcH σ.H σ.n b (nuL (wNu b p q r R) (3*R+3)) (wR0 R c) (wH R c M' U' V'),σ.n+(3*R+3)⟩ (nuL (wNu b p q r R) (3*R+3)++con)):O1d P ⟨dst,.call ⟨.value (.func f),(x::rest).toArray,ts⟩,ty,pos,after,guard⟩ σ con k d:=by
 have hl:(wH R c M U V).length=3*R+3:=iE hs _ _ _
 have hl':(wH R c M' U' V').length=3*R+3:=iE hs' _ _ _
 refine bIl (wNu b p q r R) (.ptr 0 0) (wR0 R c) (wH R c M U V) ds (wR0 R c) (wH R c M' U' V') (.tp []) hm hpos ?_ rfl (by simp[lf0]) (λi j hi hj he=>?_) (λi ob ho=>⟨?_,hW.get hs i ob ho⟩) (bWs hs) hvis hfr hsp ?_
 ·rw[hx];rfl
 ·exact aLh (.inl h1) h2 h3 i j (by omega) (by omega) he
 ·have:=cBu (aIu hs ob (Aq ho))
  rwa [hl]
 ·rw[hl,hl'];exact hk
def bTo(σ:St){con:List Nat}(h:con≠[])(k:St->Prop)(d:Dm k):aIj σ con k d=k ⟨λt=>lJ con (σ.J t),λid=>(σ.H id).map (fG con),σ.n⟩:=by
 cases con with
 |nil=>exact(h rfl).elim
 |cons c l=>rfl
def bYe(ν:Nat->Nat)(n:Nat):nuL ν (n+1)++[]≠[]:=by unfold nuL;intro h;have:=congrArg List.length h;simp at this
def aPj{l:List Nat}{a n:Nat}{o:HO}(hl:∀id∈l,id<a\/n<=id)(ho:rfO a n o=true):fG l o=o:=by
 cases o with
 |map _ _=>cases ho
 |iter _ _ _=>cases ho
 |cells e cs =>
  simp only[fG];congr 1;conv=>rhs;rw[<-List.map_id cs]
  refine BK λc hc=>?_
  have:=Ay.1 ho c hc;cases c<;>first|rfl|(cases this;done)|(simp only[rfC,AI]at this;simp only[fV,id];rw[Ac];intro hm;have:=hl _ hm;omega)
def HF.call{H:Hp}{pre:List HO}{p q r R c n:Nat}{M U V M' U' V':List (List Int)}(h:HF H pre p q r R c M U V)(hs':WS R c M' U' V')(h1:pre.length+1<p)(h2:p+R<q)(h3:q+R<r)(h4:r+R<n)(hpre:∀o∈pre,rfO 0 0 o=true) :
  HF (λid=>(tcH H n (pre.length+1) (nuL (wNu (pre.length+1) p q r R) (3*R+3)) (wR0 R c) (wH R c M' U' V') id).map (fG (nuL (wNu (pre.length+1) p q r R) (3*R+3)))) pre n (n+R+1) (n+2*R+2) R c M' U' V':=by
 have hl':(wH R c M' U' V').length=3*R+3:=iE hs' _ _ _
 have hids:=λid h=>bVj h1 h2 h3 h4 (id:=id) h
 generalize nuL (wNu (pre.length+1) p q r R) (3*R+3)=l at *
 have hsc:∀{o:HO},rfO n (n+3*R+3) o=true->fG l o=o:=λho=>aPj (λid hid=>.inl (hids id hid).2) ho
 have hrf:∀{c' m':Nat} {N:List (List Int)},n<=m'->m'+1+N.length<=n+3*R+3->∀o∈mB c' N m',fG l o=o:=λh1 h2 o ho=>hsc (xH (by omega) h2 o ho)
 have hnew:∀(i:Nat) ob,(wH R c M' U' V')[i]? = some ob->tcH H n (pre.length+1) l (wR0 R c) (wH R c M' U' V') (i+n)=some (lT (wNu (pre.length+1) n (n+R+1) (n+2*R+2) R) ob):=λi ob ho=>by have hi:=(Ah.1 ho).1;unfold tcH;rw[Ad ⟨by omega,by omega⟩,Ba,ho,<-bIz];rfl
 have key:∀{c' m m':Nat} {N:List (List Int)} {t:Nat} {o:HO},(∀t,t<N.length->wNu (pre.length+1) n (n+R+1) (n+2*R+2) R (t+(m+1))=t+(m'+1))->(mB c' N m')[t]? = some o->∃ob,(mB c' N m)[t]? = some ob/\o=lT (wNu (pre.length+1) n (n+R+1) (n+2*R+2) R) ob:=λhν ht=>by rw[<-bHl hν,Aw]at ht;obtain⟨ob,h1,h2⟩:=Aj.1 ht;exact⟨ob,h1,h2.symm⟩
 have hmlen:M'.length=R:=hs'.m.len
 have hulen:U'.length=R:=hs'.u.len
 have hvlen:V'.length=R:=hs'.v.len
 refine⟨⟨?_,λi o ho=>?_,λi o ho=>?_,λi o ho=>?_⟩,λi o ho=>?_⟩
 ·have:tcH H n (pre.length+1) l (wR0 R c) (wH R c M' U' V') (pre.length+1)=some (wRt R c n (n+R+1) (n+2*R+2)):=by unfold tcH;rw[Ac (by omega),Ad rfl,bIz _ _ R,aPq]
  rw[this]
  simp only[A4]
  rw[hsc]
  simp only[wRt,rfO,rfC,Ee,List.all_nil,Fz,E3,AO,AI];omega
 ·have hi:i<R+1:=by have:=(Ah.1 ho).1;rwa [cT,hmlen]at this
  obtain⟨ob,g1,g2⟩:=key (m:=1) (λt ht=>by rw[hmlen]at ht;rw[show t+(1+1)=(t+1)+1 by omega,aXu (by omega)];omega) ho
  rw[hnew i ob (by unfold wH;rw[aOi hs' hi];exact g1),<-g2]
  simp only[A4]
  rw[hrf (by omega) (by omega) o (Aq ho)]
 ·have hi:i<R+1:=by have:=(Ah.1 ho).1;rwa [cT,hulen]at this
  obtain⟨ob,g1,g2⟩:=key (m:=R+2) (λt ht=>by rw[hulen]at ht;rw[show t+(R+2+1)=(t+1)+(R+2)by omega,aXt (by omega)];omega) ho
  have:=hnew (i+(R+1)) ob (by unfold wH;rw[aOh hs' hi];exact g1)
  rw[show i+(n+R+1)=i+(R+1)+n by omega,this,<-g2]
  simp only[A4]
  rw[hrf (by omega) (by omega) o (Aq ho)]
 ·have hi:i<R+1:=by have:=(Ah.1 ho).1;rwa [cT,hvlen]at this
  obtain⟨ob,g1,g2⟩:=key (m:=2*R+3) (λt ht=>by rw[show t+(2*R+3+1)=(t+1)+(2*R+3)by omega,aXs];omega) ho
  have:=hnew (i+(2*R+2)) ob (by unfold wH;rw[aOg hs' hi];exact g1)
  rw[show i+(n+2*R+2)=i+(2*R+2)+n by omega,this,<-g2]
  simp only[A4]
  rw[hrf (by omega) (by omega) o (Aq ho)]
 ·have hi:=(Ah.1 ho).1
  have:tcH H n (pre.length+1) l (wR0 R c) (wH R c M' U' V') (i+1)=some o:=by unfold tcH;rw[Ac (by omega),Ac (by omega),Ac (λhm=>by have:=(hids _ hm).1;omega)];exact h.pre i o ho
  rw[this]
  simp only[A4]
  rw[aPj (a:=0) (n:=0) (λid _=>.inr (Al _)) (hpre o (Aq ho))]
def wFl(pre:List HO)(R c:Nat)(M U V:List (List Int)):List HO:=pre++(wRt R c (pre.length+2) (pre.length+R+3) (pre.length+2*R+4)::wHs R c M U V (pre.length+2) (pre.length+R+3) (pre.length+2*R+4))
def lS(pre:List HO)(R c:Nat)(M U V:List (List Int)):Hp:=iK 1 (wFl pre R c M U V)
def aXw{pre:List HO}{R c:Nat}{M U V:List (List Int)}(hs:WS R c M U V):(wFl pre R c M U V).length=pre.length+3*R+4:=by unfold wFl;rw[Ak,AH,iE hs];omega
def aLi{pre:List HO}{R c:Nat}{M U V:List (List Int)}(hs:WS R c M U V):HF (lS pre R c M U V) pre (pre.length+2) (pre.length+R+3) (pre.length+2*R+4) R c M U V:=by
 have hget:∀i,lS pre R c M U V (i+(pre.length+2))=(wHs R c M U V (pre.length+2) (pre.length+R+3) (pre.length+2*R+4))[i]? := λi=>by unfold lS wFl;rw[show i+(pre.length+2)=(i+1+pre.length)+1 by omega,mJ,Az (by omega),Ba,Bg]
 refine⟨⟨?_,λi o ho=>?_,λi o ho=>?_,λi o ho=>?_⟩,λi o ho=>?_⟩
 ·unfold lS wFl;rw[mJ,Az (Ap _),Cx];rfl
 ·have hi:i<R+1:=by have:=(Ah.1 ho).1;rwa [cT,hs.m.len]at this
  rw[hget,aOi hs hi];exact ho
 ·have hi:i<R+1:=by have:=(Ah.1 ho).1;rwa [cT,hs.u.len]at this
  rw[show i+(pre.length+R+3)=(i+(R+1))+(pre.length+2)by omega,hget,aOh hs hi];exact ho
 ·have hi:i<R+1:=by have:=(Ah.1 ho).1;rwa [cT,hs.v.len]at this
  rw[show i+(pre.length+2*R+4)=(i+(2*R+2))+(pre.length+2)by omega,hget,aOg hs hi];exact ho
 ·unfold lS wFl;rw[mJ,AJ (Ah.1 ho).1];exact ho
def aLg(b p q r R:Nat)(id:Nat):Nat:=if id<b then id else wNu b p q r R (id-b)
def bHi{H H':Hp}{ρ ν μ:Nat->Nat}{a n:Nat}{c:AV}(hc:rfC a n c=true)(h:∀id,a<=id->id<n->ν id=ρ (μ id)/\(H' (μ id)).isSome=true):pV H H' ρ (wN ν c) (wN μ c):=by
 cases c<;>first
  |(cases hc;done)
  |exact(kL _ _).2 rfl
  |trivial
  |(simp only[rfC,AI]at hc;obtain⟨h1,h2⟩:=h _ hc.1 hc.2;exact⟨h1,rfl,rfl,rfl,h2⟩)
  |(simp only[rfC,AI]at hc;obtain⟨h1,h2⟩:=h _ hc.1 hc.2;exact⟨h1,rfl,h2⟩)
def bHh{H H':Hp}{ρ ν μ:Nat->Nat}{a n:Nat}{o:HO}(ho:rfO a n o=true)(h:∀id,a<=id->id<n->ν id=ρ (μ id)/\(H' (μ id)).isSome=true):nC H H' ρ (lT ν o) (lT μ o):=by
 cases o with
 |map k es=>cases ho
 |iter _ _ _=>cases ho
 |cells e cs =>
  refine fM.2 ⟨rfl,fQ.2 ⟨by simp,λk c d h1 h2=>?_⟩⟩;rw[Aw]at h1 h2;obtain⟨c0,hc0,rfl⟩:=Aj.1 h1;rw[hc0]at h2;injection h2 with h2;subst h2
  exact bHi (Ay.1 ho c0 (Aq hc0)) h
def vD{R b i:Nat}:wNu b (b+1) (b+R+2) (b+2*R+3) R i=b+i:=by
 unfold wNu;split
 ·omega
 ·split
  ·omega
  ·split<;>omega
def mW{H:Hp}{pre:List HO}{p q r R c n b:Nat}{M U V:List (List Int)}{J:Nat->AV}{sl:List (Nat×AV)}(h:HF H pre p q r R c M U V)(hs:WS R c M U V)(hb:b=pre.length+1)(h1:b<p)(h2:p+R<q)(h3:q+R<r)(hpre:∀o∈pre,rfO 0 0 o=true)
  (hslot:nF H (lS pre R c M U V) (aLg b p q r R) J sl):∃ρ,Wk ⟨J,H,n⟩ ⟨jO sl,lS pre R c M U V,b+3*R+4⟩ ρ:=by
 subst hb
 have hF:=aLi (pre:=pre) hs
 have hlen:=aXw (pre:=pre) hs
 have hcan:∀i,i<3*R+4->(lS pre R c M U V (i+(pre.length+1))).isSome=true:=λi hi=>lN (by omega) (by rw[hlen];omega)
 have hge:∀id o',lS pre R c M U V id=some o'->1<=id/\id<pre.length+3*R+5:=λid o' ho=>by have:=aMz (b:=1) (l:=wFl pre R c M U V) (id:=id) (by unfold lS at ho;rw[ho];rfl);rw[hlen]at this;omega
 refine⟨_,aTz (aLg (pre.length+1) p q r R) hslot (λid o' ho=>?_) (λid id' e1 e2 e=>?_) (λh0=>?_) (λid hid=>?_) (by omega)⟩
 ·obtain⟨g1,g2⟩:=hge id o' ho
  by_cases hid:id<pre.length+1
  ·obtain⟨k,rfl⟩:∃k,id=k+1:=⟨id-1,by omega⟩
   have hk:pre[k]? = some o':=by unfold lS wFl at ho;rwa [mJ,AJ (by omega)]at ho
   refine⟨o',?_,aDa (hpre o' (Aq hk)) λid _ h2=>absurd h2 (FO _)⟩
   unfold aLg
   rw[Ad hid]
   exact h.pre k o' hk
  ·obtain⟨i,rfl⟩:∃i,id=i+(pre.length+1):=⟨id-(pre.length+1),by omega⟩
   have hi:i<3*R+4:=by omega
   have hl4:i<(wR0 R c::wH R c M U V).length:=by rw[AH,show(wH R c M U V).length=3*R+3 from iE hs _ _ _];omega
   obtain⟨ob,hob⟩:∃ob,(wR0 R c::wH R c M U V)[i]? = some ob:=⟨_,Ab hl4⟩
   have e1:=h.w.get hs i ob hob
   have e2:=hF.w.get hs i ob hob
   rw[show pre.length+2=pre.length+1+1 by omega,show pre.length+R+3=pre.length+1+R+2 by omega,show pre.length+2*R+4=pre.length+1+2*R+3 by omega]at e2
   rw[vD,CB (pre.length+1) i,ho]at e2
   injection e2 with e2
   rw[e2]
   refine⟨lT (wNu (pre.length+1) p q r R) ob,?_,bHh (ν:=wNu (pre.length+1) p q r R) (aIu hs ob (Aq hob)) λid g1 g2=>⟨?_,?_⟩⟩
   ·unfold aLg
    rw[Ac (by omega),Ba];exact e1
   ·rw[vD]
    unfold aLg
    rw[Ac (by omega),Fc]
   ·rw[vD,CB]
    exact hcan id g2
 ·obtain⟨o1,ho1⟩:=B9.1 e1
  obtain⟨o2,ho2⟩:=B9.1 e2
  have g1:=hge id o1 ho1
  have g2:=hge id' o2 ho2
  have hbig:∀i,pre.length+1<=wNu (pre.length+1) p q r R i:=λi=>by
   unfold wNu;split
   ·exact Ap _
   ·split
    ·omega
    ·split<;>omega
  unfold aLg at e
  split at e<;>split at e
  ·exact e
  ·have:=hbig (id'-(pre.length+1));omega
  ·have:=hbig (id-(pre.length+1));omega
  ·have:=aLh (.inl h1) h2 h3 (id-(pre.length+1)) (id'-(pre.length+1)) (by omega) (by omega) e
   omega
 ·obtain⟨o1,ho1⟩:=B9.1 h0
  have:=hge 0 o1 ho1
  omega
 ·exact zL (by rw[hlen];omega)
def xC(R c:Nat)(M U V:List (List Int))(m:Nat):List HO:=wRt R c (m+1) (m+R+2) (m+2*R+3)::wHs R c M U V (m+1) (m+R+2) (m+2*R+3)
def aOf{R c:Nat}{M U V:List (List Int)}(hs:WS R c M U V)(m:Nat):(xC R c M U V m).length=3*R+4:=by unfold xC;rw[AH,iE hs]
def bFi{R c:Nat}{M U V:List (List Int)}(hs:WS R c M U V){m i:Nat}{ob:HO}(ho:(wR0 R c::wH R c M U V)[i]? = some ob):(xC R c M U V m)[i]? = some (lT (wNu m (m+1) (m+R+2) (m+2*R+3) R) ob):=by
 have hW:HW (λid=>if id<m then none else(xC R c M U V m)[id-m]?) m (m+1) (m+R+2) (m+2*R+3) R c M U V:=by
  refine⟨by rw[Ac (by omega),Cx];rfl,λi o ho=>?_,λi o ho=>?_,λi o ho=>?_⟩
  ·have hi:i<R+1:=by have:=(Ah.1 ho).1;rwa [cT,hs.m.len]at this
   rw[Ac (by omega),show i+(m+1)-m=i+1 by omega];show(wHs R c M U V (m+1) (m+R+2) (m+2*R+3))[i]? = _;rw[aOi hs hi];exact ho
  ·have hi:i<R+1:=by have:=(Ah.1 ho).1;rwa [cT,hs.u.len]at this
   rw[Ac (by omega),show i+(m+R+2)-m=(i+(R+1))+1 by omega];show(wHs R c M U V (m+1) (m+R+2) (m+2*R+3))[i+(R+1)]? = _;rw[aOh hs hi];exact ho
  ·have hi:i<R+1:=by have:=(Ah.1 ho).1;rwa [cT,hs.v.len]at this
   rw[Ac (by omega),show i+(m+2*R+3)-m=(i+(2*R+2))+1 by omega];show(wHs R c M U V (m+1) (m+R+2) (m+2*R+3))[i+(2*R+2)]? = _;rw[aOg hs hi];exact ho
 have:=hW.get hs i ob ho;rw[vD]at this;rwa [Ac (by omega),Fc]at this
def bPc{J:Nat->AV}{H:Hp}{n b p q r R c:Nat}{M U V:List (List Int)}(hW:HW H b p q r R c M U V)(hs:WS R c M U V)(hn:n≠0)(h1:b<p\/r+R<b)(h2:p+R<q)(h3:q+R<r) :
  ∀m,0<m->∃ρ,Wk ⟨upd J 0 (.ptr b 0),H,n⟩ (gR (λm=>.ptr m 0) (xC R c M U V) m) ρ:=by
 intro m hm0
 have hl:=aOf hs m
 have hin:∀i,i<3*R+4->(gR (λm=>.ptr m 0) (xC R c M U V) m).H (i+m)=(xC R c M U V m)[i]? := λi h=>by simp only[gR,gJ];rw[Ad ⟨by omega,by rw[hl];omega⟩,Ba]
 have hout:∀id,¬(m<=id/\id<m+(3*R+4))->(gR (λm=>.ptr m 0) (xC R c M U V) m).H id=none:=λid h=>by simp only[gR,gJ];rw[Ac (by rw[hl];exact h)]
 have hsome:∀id,((gR (λm=>.ptr m 0) (xC R c M U V) m).H id).isSome=true->∃i,id=i+m/\i<3*R+4:=λid h=>by
  by_cases hr:m<=id/\id<m+(3*R+4)
  ·exact⟨id-m,by omega,by omega⟩
  ·rw[hout id hr]at h;cases h
 have hget:∀i,i<3*R+4->((gR (λm=>.ptr m 0) (xC R c M U V) m).H (i+m)).isSome=true:=λi h=>by rw[hin i h,Ab (by rw[hl];exact h)];rfl
 refine⟨λid=>wNu b p q r R (id-m),λid hid=>hout id (by simp only[gR]at hid;rw[hl]at hid;omega),λt=>?_,λid o' ho=>?_,λid id' g1 g2 e=>?_,λh=>?_,λh=>?_⟩
 ·show Sub _ _ _ _ (upd (λ_=>.any) 0 (.ptr m 0) t)
  by_cases e:t=0
  ·subst e
   simp only[dC]
   refine⟨?_,rfl,by have:=hget 0 (by omega);rwa [A6]at this⟩
   show b=wNu b p q r R (m-m)
   rw[Cx];rfl
  ·rw[dX _ _ e];exact oN _
 ·obtain⟨i,rfl,hi⟩:=hsome id (by rw[ho];rfl)
  rw[hin i hi]at ho
  simp only[Ba]
  have hl4:i<(wR0 R c::wH R c M U V).length:=by rw[AH,show(wH R c M U V).length=3*R+3 from iE hs _ _ _];omega
  obtain⟨ob,hob⟩:∃ob,(wR0 R c::wH R c M U V)[i]? = some ob:=⟨_,Ab hl4⟩
  rw[bFi hs hob]at ho
  injection ho with ho
  rw[<-ho]
  refine⟨_,hW.get hs i ob hob,bHh (ν:=wNu b p q r R) (aIu hs ob (Aq hob)) λid g1 g2=>⟨?_,?_⟩⟩
  ·rw[vD,Fc]
  ·rw[vD,CB];exact hget id g2
 ·obtain⟨i,rfl,hi⟩:=hsome id g1
  obtain⟨j,rfl,hj⟩:=hsome id' g2
  have e':wNu b p q r R (i+m-m)=wNu b p q r R (j+m-m):=e
  rw[Ba,Ba]at e'
  have:=aLh h1 h2 h3 i j hi hj e'
  omega
 ·obtain⟨i,hi,_⟩:=hsome 0 h;omega
 ·simp only[gR]at h;omega
def bHw{R c:Nat}{A:List (List Int)}(hA:Sh R c A)(hR:R<=1000)(hc:c<=1000)(hAs:∀v∈A,∀z∈v,Sz z) :
  pX Aa 100 [eQ R c A] (λm=>.ptr m 0) (xC R c A (idM R) (idM R)):=by
 refine lZ (N:=13) bN Tryz.func100 rfl rfl rfl (by decide) (by kernel_rfl) (by kernel_rfl) (by simp) rfl ?_
 have hN1:=bCa hA hR hc hAs
 have hN2:=aQd R hR
 have hl:∀m,(mB c A m).length=R+1:=λm=>by rw[cT,hA.len]
 have hl2:∀m,(mB R (idM R) m).length=R+1:=λm=>by rw[cT,show(idM R).length=R from(kS _ _ _).len]
 simp[-F,-I,↓KW,eQ]
 refine iO [eQ R c A] (nwV R c) (mB c A) (by simp) (by simp) (by simp) (by rfl) (by rfl) hN1 ?_
 have hne1:¬2<=1:=by omega
 have hne2:¬2+(R+1)<=1:=by omega
 have hne3:¬2+(R+1)+(R+1)<=1:=by omega
 simp[-F,-I,↓KW,nwV,hl,gJ,hne1]
 refine iO [.i .i64 (R:Int)] (nwV R R) (mB R (idM R)) (by simp) (by simp) (show 0<2+(R+1)by omega) (by rfl) (by rfl) hN2 ?_
 simp[-F,-I,↓KW,nwV,hl,hl2,gJ,hne1,hne2]
 refine iO [.i .i64 (R:Int)] (nwV R R) (mB R (idM R)) (by simp) (by simp) (show 0<2+(R+1)+(R+1)by omega) (by rfl) (by rfl) hN2 ?_
 simp[-F,-I,↓KW,nwV,hl,hl2,gJ,hne1,hne2,hne3]
 have hs:WS R c A (idM R) (idM R):=⟨hA,kS _ _ _,kS _ _ _⟩
 refine bPc (b:=2+(R+1)+(R+1)+(R+1)) (p:=2) (q:=2+(R+1)) (r:=2+(R+1)+(R+1)) ?_ hs (DS _) (by omega) (by omega) (by omega)
 refine⟨by rw[dC];rfl,λi o ho=>?_,λi o ho=>?_,λi o ho=>?_⟩
 ·have hi:i<R+1:=by have:=(Ah.1 ho).1;rwa [hl]at this
  simp only[upd,gJ,hl,hl2]
  rw[Ac (by omega),Ac (by omega),Ac (by omega),Ad (by omega),Ba];exact ho
 ·have hi:i<R+1:=by have:=(Ah.1 ho).1;rwa [hl2]at this
  simp only[upd,gJ,hl,hl2]
  rw[Ac (by omega),Ac (by omega),Ad (by omega),Ba];exact ho
 ·have hi:i<R+1:=by have:=(Ah.1 ho).1;rwa [hl2]at this
  simp only[upd,gJ,hl,hl2]
  rw[Ac (by omega),Ad (by omega),Ba];exact ho
end Go.Am
end
section
open List renaming map_map->F,mapM_map->I
open Go Go.Am Go.Proofs
namespace Go.Am
def aL(R c:Nat)(M U V:List (List Int))(x:List HO):List HO:=[wR0 R c]++mB c M 1++(mB R U (R+2)++mB R V (2*R+3)++x)
def aH(R c:Nat)(M U V:List (List Int))(x:List HO):Hp:=iK 0 (aL R c M U V x)
def bVd(R c:Nat)(M U V:List (List Int))(x:List HO):aL R c M U V x=(wR0 R c::mB c M 1)++mB R U (R+2)++(mB R V (2*R+3)++x):=by simp[aL]
def aXh(R c:Nat)(M U V:List (List Int))(x:List HO):aL R c M U V x=(wR0 R c::(mB c M 1++mB R U (R+2)))++mB R V (2*R+3)++x:=by simp[aL]
def aKy(R c:Nat)(M U V:List (List Int))(x:List HO):aL R c M U V x=wR0 R c::(wH R c M U V++x):=by simp[aL,wH,wHs]
variable {R c:Nat} {M U V:List (List Int)} {x:List HO}
def aHf(hs:WS R c M U V):(aL R c M U V x).length=3*R+4+x.length:=by rw[aKy,AH,Ak,show(wH R c M U V).length=3*R+3 from iE hs _ _ _];omega
def bAr{i:Nat}{v:List Int}(hs:WS R c M U V)(hi:i<R):upd (aH R c M U V x) (i+2) (some (.cells 72 ((vcs v).map .d)))=aH R c (M.set i v) U V x :=
 xZ (m:=1) rfl (by rw[hs.m.len];exact hi)
def bAq{i:Nat}{v:List Int}(hs:WS R c M U V)(hi:i<R):upd (aH R c M U V x) (i+(R+3)) (some (.cells 72 ((vcs v).map .d)))=aH R c M (U.set i v) V x:=by unfold aH;rw[bVd,bVd];exact xZ (m:=R+2) (by rw[AH,cT,hs.m.len]<;>omega) (by rw[hs.u.len];exact hi)
def aDx{i:Nat}{v:List Int}(hs:WS R c M U V)(hi:i<R):upd (aH R c M U V x) (i+(2*R+4)) (some (.cells 72 ((vcs v).map .d)))=aH R c M U (V.set i v) x:=by unfold aH;rw[aXh,aXh];exact xZ (m:=2*R+3) (by rw[AH,Ak,cT,cT,hs.m.len,hs.u.len];omega) (by rw[hs.v.len];exact hi)
def bAs:aH R c M U V x 0=some (wR0 R c):=rfl
def bAu(hs:WS R c M U V):aH R c M U V x 1=some (.cells 140 (hdr c R 2)):=by have:=zK (b:=0) (c:=c) (m:=1) (pre:=[wR0 R c]) (M:=M) (post:=mB R U (R+2)++mB R V (2*R+3)++x) rfl;rwa [hs.m.len]at this
def bAt(hs:WS R c M U V):aH R c M U V x (R+2)=some (.cells 140 (hdr R R (R+3))):=by have:=zK (b:=0) (c:=R) (m:=R+2) (pre:=wR0 R c::mB c M 1) (M:=U) (post:=mB R V (2*R+3)++x) (by rw[AH,cT,hs.m.len]<;>omega);rw[<-bVd,hs.u.len]at this;exact this
def bOg(hs:WS R c M U V):aH R c M U V x (2*R+3)=some (.cells 140 (hdr R R (2*R+4))):=by have:=zK (b:=0) (c:=R) (m:=2*R+3) (pre:=wR0 R c::(mB c M 1++mB R U (R+2))) (M:=V) (post:=x) (by rw[AH,Ak,cT,cT,hs.m.len,hs.u.len];omega);rw[<-aXh,hs.v.len]at this;exact this
def aTp{i:Nat}{v:List Int}(hv:M[i]? = some v):aH R c M U V x (i+2)=some (.cells 72 ((vcs v).map .d)):=wD (m:=1) rfl hv
def aTo{i:Nat}{v:List Int}(hs:WS R c M U V)(hv:U[i]? = some v):aH R c M U V x (i+(R+3))=some (.cells 72 ((vcs v).map .d)):=by unfold aH;rw[bVd];exact wD (m:=R+2) (by rw[AH,cT,hs.m.len]<;>omega) hv
def bOd{i:Nat}{v:List Int}(hs:WS R c M U V)(hv:V[i]? = some v):aH R c M U V x (i+(2*R+4))=some (.cells 72 ((vcs v).map .d)):=by unfold aH;rw[aXh];exact wD (m:=2*R+3) (by rw[AH,Ak,cT,cT,hs.m.len,hs.u.len];omega) hv
def cAb(hs:WS R c M U V){i:Nat}{o:HO}(ho:x[i]? = some o):aH R c M U V x (i+(3*R+4))=some o:=by
 unfold aH iK;rw[Ac (by omega),aKy,Eo,show i+(3*R+4)=(i+(3*R+3))+1 by omega,Bg,Az (by rw[show(wH R c M U V).length=3*R+3 from iE hs _ _ _];omega),
  show(wH R c M U V).length=3*R+3 from iE hs _ _ _,Ba];exact ho
def gE(hs:WS R c M U V)(hx:∀o∈x,rfO 0 0 o=true){H:Hp}{id:Nat}{o:HO}(ho:aH R c M U V x id=some o):nC H (aH R c M U V x) (λi=>i) o o:=by
 refine aGg (λo ho=>?_) ho;rw[aHf hs];rw[aKy,AG,A5]at ho;rcases ho with ho|ho|ho
 ·exact aEs (Al _) (by omega) (aIu hs o (by rw[ho];exact Av ..))
 ·exact aEs (Al _) (by omega) (aIu hs o (Au _ ho))
 ·exact aEs (Al _) (Al _) (hx o ho)
def iT(hs:WS R c M U V){id:Nat}(h:3*R+4+x.length<=id):aH R c M U V x id=none:=zL (by rw[aHf hs];omega)
def eS(hs:WS R c M U V){id:Nat}(h:id<3*R+4+x.length):(aH R c M U V x id).isSome=true:=lN (Al _) (by rw[aHf hs];omega)
def aXi{J:Nat->AV}{n:Nat}(hs:WS R c M U V)(hn:n≠0):∃ρ,Wk ⟨J,aH R c M U V x,n⟩ (StL [] (some (wR0 R c)) (wH R c M U V)) ρ:=by
 have hH:∀id,(StL [] (some (wR0 R c)) (wH R c M U V)).H id=(wR0 R c::wH R c M U V)[id]? := λid=>by
  cases id with
  |zero=>rw[aNt];rfl
  |succ i=>rw[aBv,Bg]
 have hl:(wR0 R c::wH R c M U V).length=3*R+4:=by rw[AH,show(wH R c M U V).length=3*R+3 from iE hs _ _ _]
 have hsome:∀id,id<3*R+4->((StL [] (some (wR0 R c)) (wH R c M U V)).H id).isSome=true:=λid h=>by rw[hH,Ab (by rw[hl];exact h)];rfl
 refine⟨λi=>i,λid hid=>?_,λt=>?_,λid o' ho=>?_,λ_ _ _ _ e=>e,λ_=>rfl,λh=>?_⟩
 ·rw[hH];refine AW ?_;rw[hl];simp only[StL,show(wH R c M U V).length=3*R+3 from iE hs _ _ _]at hid;omega
 ·show Sub _ _ _ _ (jO [] t);exact oN _
 ·rw[hH]at ho;have hlt:=(Ah.1 ho).1;refine⟨o',?_,aDa (aIu hs o' (Aq ho)) λid _ h2=>⟨rfl,hsome id h2⟩⟩;show iK 0 _ id=_;unfold iK;rw[Ac (by omega),aKy,Eo,<-BP,AJ hlt];exact ho
 ·simp[StL]at h
def uO{x y:Int}{a b:Nat}(h1:(aU x.natAbs).length<=a)(h2:(aU y.natAbs).length<=b):(aU (x*y).natAbs).length<=a+b:=by have e1:=gW h1;have e2:=gW h2;refine fZ ?_;rw[BX,CA];exact Nat.mul_lt_mul'' e1 e2
def Sy(z:Int):Prop:=(aU z.natAbs).length<=130000000000
def SyM(M:List (List Int)):Prop:=∀v∈M,∀z∈v,Sy z
def SyM.ent{M:List (List Int)}(h:SyM M)(r s:Nat):Sy (ent M r s):=by
 unfold Am.ent;by_cases hr:r<M.length
 ·rw[Af (l:=M),Ab hr];simp only[Bd];by_cases hs:s<M[r].length
  ·rw[Af,Ab hs];exact h _ (Ar hr) _ (Ar hs)
  ·rw[Af,AW (by omega)];show(aU 0).length<=_;rw[dH];simp
 ·rw[Af (l:=M),AW (by omega)];show(aU 0).length<=_;rw[dH];simp
end Go.Am
end
section
open List renaming map_map->F,mapM_map->I
open Go Go.Am Go.Proofs
namespace Go.Am
def sgm:Nat->(Nat->Int)->Int
 |0,_=>0
 |n+1,f=>sgm n f+f n
def dL{n:Nat}{f g:Nat->Int}(h:∀j,j<n->f j=g j):sgm n f=sgm n g:=by
 induction n with
 |zero=>rfl
 |succ n ih=>simp only[sgm];rw[ih λj hj=>h j (by omega),h n (by omega)]
def vJ(n:Nat)(f g:Nat->Int):sgm n (λj=>f j+g j)=sgm n f+sgm n g:=by
 induction n with
 |zero=>rfl
 |succ n ih=>simp only[sgm];rw[ih];omega
def yF(n:Nat)(k:Int)(f:Nat->Int):sgm n (λj=>k*f j)=k*sgm n f:=by
 induction n with
 |zero=>simp[sgm]
 |succ n ih=>simp only[sgm];rw[ih,De]
def yE(n:Nat):sgm n (λ_=>0)=0:=by
 induction n with
 |zero=>rfl
 |succ n ih=>simp only[sgm];rw[ih];rfl
def qH{n k:Nat}(hk:k<n)(f:Nat->Int):sgm n (λj=>(if j=k then 1 else 0)*f j)=f k:=by
 induction n with
 |zero=>omega
 |succ n ih =>
  simp only[sgm];by_cases e:k=n
  ·subst e;rw[Ad rfl,dL (g:=λ_=>0) λj hj=>by rw[Ac (by omega)];simp,yE];simp
  ·rw[ih (by omega),Ac (λh=>e h.symm)];simp
structure W3 where
 M:List (List Int)
 U:List (List Int)
 V:List (List Int)
def aXg(M:List (List Int))(i j:Nat)(k:Int)(s r t:Nat):Int:=if r=i/\t<s then ent M i t+k*ent M j t else ent M r t
def bOb(V:List (List Int))(i j:Nat)(k:Int)(s r t:Nat):Int:=if t=j/\r<s then ent V r j-k*ent V r i else ent V r t
def rZ(R c:Nat)(M:List (List Int))(i j:Nat)(k:Int):List (List Int):=mk R c (aXg M i j k c)
def aXf(R:Nat)(V:List (List Int))(i j:Nat)(k:Int):List (List Int):=mk R R (bOb V i j k R)
def swp(i j r:Nat):Nat:=if r=i then j else if r=j then i else r
def swR(R c:Nat)(M:List (List Int))(i j:Nat):List (List Int):=mk R c λr t=>ent M (swp i j r) t
def swC(V:List (List Int))(i j:Nat)(s r t:Nat):Int:=if r<s then ent V r (swp i j t)else ent V r t
def swV(R:Nat)(V:List (List Int))(i j:Nat):List (List Int):=mk R R (swC V i j R)
def ngF(M:List (List Int))(i:Nat)(s r t:Nat):Int:=if r=i/\t<s then-ent M i t else ent M r t
def ngC(V:List (List Int))(i:Nat)(s r t:Nat):Int:=if t=i/\r<s then-ent V r i else ent V r t
def ngR(R c:Nat)(M:List (List Int))(i:Nat):List (List Int):=mk R c (ngF M i c)
def ngV(R:Nat)(V:List (List Int))(i:Nat):List (List Int):=mk R R (ngC V i R)
def W3.add(R c:Nat)(w:W3)(i j:Nat)(k:Int):W3:=⟨rZ R c w.M i j k,rZ R R w.U i j k,aXf R w.V i j k⟩
def W3.sw(R c:Nat)(w:W3)(i j:Nat):W3:=⟨swR R c w.M i j,swR R R w.U i j,swV R w.V i j⟩
def W3.ng(R c:Nat)(w:W3)(i:Nat):W3:=⟨ngR R c w.M i,ngR R R w.U i,ngV R w.V i⟩
def W3.sh(R c:Nat)(w:W3):Prop:=WS R c w.M w.U w.V
def W3.add_sh(R c:Nat)(w:W3)(i j:Nat)(k:Int):(w.add R c i j k).sh R c:=⟨kS _ _ _,kS _ _ _,kS _ _ _⟩
def W3.sw_sh(R c:Nat)(w:W3)(i j:Nat):(w.sw R c i j).sh R c:=⟨kS _ _ _,kS _ _ _,kS _ _ _⟩
def W3.ng_sh(R c:Nat)(w:W3)(i:Nat):(w.ng R c i).sh R c:=⟨kS _ _ _,kS _ _ _,kS _ _ _⟩
def aAk{R i j r:Nat}(hi:i<R)(hj:j<R)(hr:r<R):swp i j r<R:=by
 unfold swp;split
 ·exact hj
 ·split
  ·exact hi
  ·exact hr
def aYb(i j r:Nat):swp i j (swp i j r)=r:=by
 unfold swp;by_cases h1:r=i
 ·rw[Ad h1];by_cases h2:j=i
  ·rw[Ad h2,h1,h2]
  ·rw[Ac h2,Ad rfl,h1]
 ·rw[Ac h1];by_cases h2:r=j
  ·rw[Ad h2,Ad rfl,h2]
  ·rw[Ac h2,Ac h1,Ac h2]
def iS{R c i j r t:Nat}{M:List (List Int)}{k:Int}(hr:r<R)(ht:t<c):ent (rZ R c M i j k) r t=if r=i then ent M i t+k*ent M j t else ent M r t:=by
 unfold rZ;rw[sE _ hr ht];unfold aXg;by_cases e:r=i
 ·rw[Ad ⟨e,ht⟩,Ad e]
 ·rw[Ac (λh=>e h.1),Ac e]
def aSt{R i j r t:Nat}{V:List (List Int)}{k:Int}(hr:r<R)(ht:t<R):ent (aXf R V i j k) r t=if t=j then ent V r j-k*ent V r i else ent V r t:=by
 unfold aXf;rw[sE _ hr ht];unfold bOb;by_cases e:t=j
 ·rw[Ad ⟨e,hr⟩,Ad e]
 ·rw[Ac (λh=>e h.1),Ac e]
def zN{R c i j r t:Nat}{M:List (List Int)}(hr:r<R)(ht:t<c):ent (swR R c M i j) r t=ent M (swp i j r) t:=by unfold swR;rw[sE _ hr ht]
def bTx{R i j r t:Nat}{V:List (List Int)}(hr:r<R)(ht:t<R):ent (swV R V i j) r t=ent V r (swp i j t):=by unfold swV;rw[sE _ hr ht];unfold swC;rw[Ad hr]
def nM{R c i r t:Nat}{M:List (List Int)}(hr:r<R)(ht:t<c):ent (ngR R c M i) r t=if r=i then-ent M i t else ent M r t:=by
 unfold ngR;rw[sE _ hr ht];unfold ngF;by_cases e:r=i
 ·rw[Ad ⟨e,ht⟩,Ad e]
 ·rw[Ac (λh=>e h.1),Ac e]
def bTy{R i r t:Nat}{V:List (List Int)}(hr:r<R)(ht:t<R):ent (ngV R V i) r t=if t=i then-ent V r i else ent V r t:=by
 unfold ngV;rw[sE _ hr ht];unfold ngC;by_cases e:t=i
 ·rw[Ad ⟨e,hr⟩,Ad e]
 ·rw[Ac (λh=>e h.1),Ac e]
def wR(R c n:Nat)(U A M:List (List Int)):Prop:=∀r t,r<R->t<c->sgm n (λj=>ent U r j*ent A j t)=ent M r t
def wR.add{R c:Nat}{U A M:List (List Int)}{i j:Nat}{k:Int}(h:wR R c R U A M)(hi:i<R)(hj:j<R):wR R c R (rZ R R U i j k) A (rZ R c M i j k):=by
 intro r t hr ht;rw[iS hr ht];by_cases e:r=i
 ·rw[Ad e,<-h i t hi ht,<-h j t hj ht,<-yF,<-vJ];exact dL λq hq=>by rw[iS hr hq,Ad e,Gh,DD]
 ·rw[Ac e,<-h r t hr ht];exact dL λq hq=>by rw[iS hr hq,Ac e]
def wR.sw{R c:Nat}{U A M:List (List Int)}{i j:Nat}(h:wR R c R U A M)(hi:i<R)(hj:j<R):wR R c R (swR R R U i j) A (swR R c M i j):=by intro r t hr ht;rw[zN hr ht,<-h _ t (aAk hi hj hr) ht];exact dL λq hq=>by rw[zN hr hq]
def wR.ng{R c:Nat}{U A M:List (List Int)}{i:Nat}(h:wR R c R U A M)(hi:i<R):wR R c R (ngR R R U i) A (ngR R c M i):=by
 intro r t hr ht;rw[nM hr ht];by_cases e:r=i
 ·rw[Ad e,<-h i t hi ht,show-sgm R (λj=>ent U i j*ent A j t)=(-1)*sgm R (λj=>ent U i j*ent A j t)by omega,<-yF];exact dL λq hq=>by rw[nM hr hq,Ad e,<-DD];congr 1;omega
 ·rw[Ac e,<-h r t hr ht];exact dL λq hq=>by rw[nM hr hq,Ac e]
def Sd(z:Int):Prop:=(aU z.natAbs).length<=130000000000
def SdM(M:List (List Int)):Prop:=∀r t,Sd (ent M r t)
structure Ok(R c:Nat)(w:W3):Prop where
 sh:w.sh R c
 m:SdM w.M
 u:SdM w.U
 v:SdM w.V
def euT(R c col top i:Nat)(w:W3):W3:=if ent w.M top col=0 then w else w.add R c top i (-(ent w.M top col/ent w.M i col))
def euS(R c col top i:Nat)(w:W3):W3:=(euT R c col top i w).sw R c top i
inductive Eu(R c col top i:Nat):W3->W3->Prop where
 |done (w:W3) (ok:Ok R c w) (h:ent w.M i col=0):Eu R c col top i w w
 |go (w w':W3) (ok:Ok R c w) (h:ent w.M i col≠0) (h2:Eu R c col top i (euS R c col top i w) w'):Eu R c col top i w w'
inductive Ei(R c col top:Nat):Nat->W3->W3->Prop where
 |done (i:Nat) (w:W3) (ok:Ok R c w) (h:i=R):Ei R c col top i w w
 |go (i:Nat) (w w1 w2:W3) (h:i<R) (h1:Eu R c col top i w w1) (h2:Ei R c col top (i+1) w1 w2):Ei R c col top i w w2
def rdS(R c col top i:Nat)(w:W3):W3:=w.add R c i top (-(ent w.M i col/ent w.M top col))
inductive Rd(R c col top:Nat):Nat->W3->W3->Prop where
 |done (i:Nat) (w:W3) (ok:Ok R c w) (h:i=top):Rd R c col top i w w
 |go (i:Nat) (w w2:W3) (ok:Ok R c w) (h:i<top) (h2:Rd R c col top (i+1) (rdS R c col top i w) w2):Rd R c col top i w w2
def ngS(R c col top:Nat)(w:W3):W3:=if ent w.M top col<0 then w.ng R c top else w
inductive Fo(R c:Nat):Nat->Nat->W3->W3->Prop where
 |done (col top:Nat) (w:W3) (ok:Ok R c w) (h:¬(col<c/\top<R)):Fo R c col top w w
 |zero (col top:Nat) (w w1 w2:W3) (h1:col<c) (h2:top<R) (h3:Ei R c col top (top+1) w w1) (h4:ent w1.M top col=0) (h5:Fo R c (col+1) top w1 w2):Fo R c col top w w2
 |piv (col top:Nat) (w w1 w2 w3:W3) (h1:col<c) (h2:top<R) (h3:Ei R c col top (top+1) w w1) (h4:ent w1.M top col≠0) (h5:Rd R c col top 0 (ngS R c col top w1) w2) (h6:Fo R c (col+1) (top+1) w2 w3):Fo R c col top w w3
def oC{z:Int}{E:Nat}(h:z.natAbs<=2^E)(k:Nat)(hE:E<32*k):(aU z.natAbs).length<=k:=by refine fZ (Cu h ?_);rw[show(4294967296:Nat)=2^32 from rfl,<-Nat.pow_mul];exact Nat.pow_lt_pow_right (by omega) hE
def Be(e:Nat)(M:List (List Int)):Prop:=∀r t,(ent M r t).natAbs<=2^e
def Be.mono{e e':Nat}{M:List (List Int)}(h:Be e M)(he:e<=e'):Be e' M:=λr t=>An (h r t) (BW (by omega) he)
def Be.sd{e:Nat}{M:List (List Int)}(h:Be e M)(he:e<4160000000000):SdM M:=λr t=>oC (h r t) _ (by omega)
def Be.of{R c e:Nat}{M:List (List Int)}(hs:Sh R c M)(h:∀r t,r<R->t<c->(ent M r t).natAbs<=2^e):Be e M:=λr t=>by
 by_cases hr:r<R/\t<c
 ·exact h r t hr.1 hr.2
 ·rw[jN hs hr];exact Al _
structure B3(e:Nat)(w:W3):Prop where
 m:Be e w.M
 u:Be e w.U
 v:Be e w.V
def B3.mono{e e':Nat}{w:W3}(h:B3 e w)(he:e<=e'):B3 e' w:=⟨h.m.mono he,h.u.mono he,h.v.mono he⟩
def B3.ok{R c e:Nat}{w:W3}(h:B3 e w)(hs:w.sh R c)(he:e<4160000000000):Ok R c w:=⟨hs,h.m.sd he,h.u.sd he,h.v.sd he⟩
def phi(a b x y:Int):Nat:=(if y<0 then 3 else 1)*(a.natAbs*y.natAbs+b.natAbs*x.natAbs+(if x<0 then 2*(b.natAbs*y.natAbs)else 0))
def bUd(x y:Int)(hy:y≠0):(x/y).natAbs*y.natAbs+(x%y).natAbs<=x.natAbs+(if x<0 then 2*(x%y).natAbs else 0):=by
 have h1:=DZ x y;have h2:=Dt x hy;have h3:=Gi x hy;have h4:0<=x->x%y<=x:=λhx=>by obtain⟨n,rfl⟩:∃n:Nat,x=n:=⟨x.toNat,by omega⟩;show((n%y.natAbs:Nat):Int)<=n;have:=Nat.mod_le n y.natAbs;omega
 have h5:(x/y).natAbs*y.natAbs=(x-x%y).natAbs:=by rw[<-BX,B7];congr 1;omega
 rw[h5];split<;>omega
def aEz{a b x y a':Int}(hy:y≠0)(ha:a'.natAbs<=a.natAbs+(x/y).natAbs*b.natAbs):phi b a' y (x%y)<=phi a b x y:=by
 have h1:=bUd x y hy;have h2:=Dt x hy;have h3:(x%y).natAbs<=y.natAbs:=by have:=Gi x hy;omega
 generalize x%y=r at *;have hr:¬r<0:=by omega
 unfold phi;rw[Ac hr];generalize(x/y).natAbs=q at *;generalize a'.natAbs=A' at *;generalize a.natAbs=A at *;generalize b.natAbs=B at *;generalize hr2:r.natAbs=r' at *;generalize hy2:y.natAbs=y' at *;generalize hx2:x.natAbs=x' at *
 -- T = A y' + B x' + ..
 have k1:A'*y'<=A*y'+B*(q*y'):=by have:=A8 y' ha;rw[By]at this;rw[show B*(q*y')=q*B*y' by rw[<-Ck,Ci B q]];exact this
 have k2:B*(q*y')+B*r'<=B*x'+(if x<0 then 2*(B*y')else 0):=by
  rw[<-Cq];refine An (BE B h1) ?_;rw[Cq];split
  ·rw[show B*(2*r')=2*(B*r')by rw[Nat.mul_left_comm]];have:=BE B h3;omega
  ·simp
 have k3:A'*r'<=A'*y':=BE A' h3;generalize A'*r'=z1 at *;generalize A'*y'=z2 at *;generalize A*y'=z3 at *;generalize B*(q*y')=z4 at *;generalize B*r'=z5 at *;generalize B*x'=z6 at *;generalize B*y'=z7 at *;split<;>split at k2<;>simp_all<;>omega
def bId{a b x y:Int}(hx:x≠0):b.natAbs<=phi a b x y:=by have:b.natAbs*1<=b.natAbs*x.natAbs:=BE _ (by omega);unfold phi;split<;>omega
section
variable {R c col top i:Nat} {A:List (List Int)} {w:W3}
def cCj{r t:Nat}(hr:r<R)(ht:t<c):ent (euT R c col top i w).M r t=if r=top then ent w.M top t-(ent w.M top col/ent w.M i col)*ent w.M i t else ent w.M r t:=by
 unfold euT;split
 ·rename_i h;rw[h,Gp];split
  ·rename_i e;rw[e];simp
  ·rfl
 ·show ent (rZ R c w.M top i _) r t=_;rw[iS hr ht];split
  ·rw[C0];rfl
  ·rfl
def cCi{r t:Nat}(hr:r<R)(ht:t<R):ent (euT R c col top i w).U r t=if r=top then ent w.U top t-(ent w.M top col/ent w.M i col)*ent w.U i t else ent w.U r t:=by
 unfold euT;split
 ·rename_i h;rw[h,Gp];split
  ·rename_i e;rw[e];simp
  ·rfl
 ·show ent (rZ R R w.U top i _) r t=_;rw[iS hr ht];split
  ·rw[C0];rfl
  ·rfl
def cCh{r t:Nat}(hr:r<R)(ht:t<R):ent (euT R c col top i w).V r t=if t=i then ent w.V r i+(ent w.M top col/ent w.M i col)*ent w.V r top else ent w.V r t:=by
 unfold euT;split
 ·rename_i h;rw[h,Gp];split
  ·rename_i e;rw[e];simp
  ·rfl
 ·show ent (aXf R w.V top i _) r t=_;rw[aSt hr ht];split
  ·rw[C0];omega
  ·rfl
def bZd(h:wR R c R w.U A w.M)(ht:top<R)(hi:i<R):wR R c R (euT R c col top i w).U A (euT R c col top i w).M:=by
 unfold euT;split
 ·exact h
 ·exact h.add ht hi
def bZe(h:wR R c R w.U A w.M)(ht:top<R)(hi:i<R):wR R c R (euS R c col top i w).U A (euS R c col top i w).M:=(bZd h ht hi).sw ht hi
def aSr(hti:top≠i)(htR:top<R)(hi:i<R){r t:Nat}(hr:r<R)(ht:t<c):ent (euS R c col top i w).M r t=if r=top then ent w.M i t else if r=i then ent w.M top t-(ent w.M top col/ent w.M i col)*ent w.M i t else ent w.M r t:=by
 show ent (swR R c _ top i) r t=_;rw[zN hr ht,cCj (aAk htR hi hr) ht];unfold swp;by_cases e1:r=top
 ·rw[Ad e1,Ad e1,Ac (λh=>hti h.symm)]
 ·rw[Ac e1,Ac e1];by_cases e2:r=i
  ·rw[Ad e2,Ad e2,Ad rfl]
  ·rw[Ac e2,Ac e2,Ac e1]
def cCl(hti:top≠i)(htR:top<R)(hi:i<R){r t:Nat}(hr:r<R)(ht:t<R):ent (euS R c col top i w).U r t=if r=top then ent w.U i t else if r=i then ent w.U top t-(ent w.M top col/ent w.M i col)*ent w.U i t else ent w.U r t:=by
 show ent (swR R R _ top i) r t=_;rw[zN hr ht,cCi (aAk htR hi hr) ht];unfold swp;by_cases e1:r=top
 ·rw[Ad e1,Ad e1,Ac (λh=>hti h.symm)]
 ·rw[Ac e1,Ac e1];by_cases e2:r=i
  ·rw[Ad e2,Ad e2,Ad rfl]
  ·rw[Ac e2,Ac e2,Ac e1]
def cCk(hti:top≠i)(htR:top<R)(hi:i<R){r t:Nat}(hr:r<R)(ht:t<R):ent (euS R c col top i w).V r t=if t=top then ent w.V r i+(ent w.M top col/ent w.M i col)*ent w.V r top else if t=i then ent w.V r top else ent w.V r t:=by
 show ent (swV R _ top i) r t=_;rw[bTx hr ht,cCh hr (aAk htR hi ht)];unfold swp;by_cases e1:t=top
 ·rw[Ad e1,Ad e1,Ad rfl]
 ·rw[Ac e1,Ac e1];by_cases e2:t=i
  ·rw[Ad e2,Ad e2,Ac hti]
  ·rw[Ac e2,Ac e2,Ac e2]
end
section
variable {R c col top i e:Nat} {A:List (List Int)} {w:W3}
def bZc(hcol:col<c)(hti:top<i)(hiR:i<R){w w':W3}(h:Eu R c col top i w w'):(w'=w\/ent w'.M top col≠0)/\(ent w.M top col≠0->ent w'.M top col≠0):=by
 induction h with
 |done w ok h=>exact⟨.inl rfl,λh=>h⟩
 |go w w' ok hy h2 ih =>
  have hx1:ent (euS R c col top i w).M top col≠0:=by rw[aSr (by omega) (by omega) hiR (by omega) hcol,Ad rfl];exact hy
  exact⟨.inr (ih.2 hx1),λ_=>ih.2 hx1⟩
def aMo(hcol:col<c)(hR:top<R){r:Nat}(hr:r<R):(ent (ngS R c col top w).M r col=0↔ent w.M r col=0):=by
 unfold ngS;split
 ·show ent (ngR R c w.M top) r col=0↔_;rw[nM hr hcol];split
  ·rename_i e;rw[e];omega
  ·exact Iff.rfl
 ·exact Iff.rfl
end
def kO(k:Int):List HO:=[.cells 72 [.d (.b (decide (k<0))),.d (aM (aU k.natAbs))]]
def zF(k:Int):∀o∈kO k,rfO 0 0 o=true:=λo ho=>by rw[AT.1 ho];rfl
def aEw{R c i j:Nat}{M U V:List (List Int)}{k:Int}(hs:WS R c M U V)(hR:R<=1000)(hc:c<=1000)(hi:i<R)(hj:j<R)(hk:Sy k)(hM:∀r t,Sy (ent M r t))(hU:∀r t,Sy (ent U r t))(hV:∀r t,Sy (ent V r t)) :
  aAc Aa 102 (.ptr 0 0) (wR0 R c) (wH R c M U V) [.i .i64 (i:Int),.i .i64 (j:Int),encZ k] (wR0 R c) (wH R c (rZ R c M i j k) (rZ R R U i j k) (aXf R V i j k)) (.tp []):=by
 refine aAi (N:=143) bN Tryz.func102 rfl rfl rfl rfl (by kernel_rfl) (by kernel_rfl) (by simp) ?_
 have hl:(wH R c M U V).length=3*R+3:=iE hs _ _ _
 have hH0:∀p:HO,upd (λid=>(wR0 R c::wH R c M U V)[id]?) (3*R+3+1) (some p)=aH R c M U V [p]:=λp=>by
  have e:(λid=>(wR0 R c::wH R c M U V)[id]?)=iK 0 (wR0 R c::wH R c M U V):=by funext id;rfl
  rw[e,rQ (by rw[AH,hl])];unfold aH;rw[aKy];rfl
 simp[-F,-I,↓KW,StT,aY,aD,aF,aG,aZ,aW,hl,hH0]
 have hko:[HO.cells 72 [.d (.b (decide (k<0))),.d (aM (aU k.natAbs))]]=kO k:=rfl
 rw[hko,show 3*R+3+1=3*R+4 by omega]
 refine aP (λy:Nat×List (List Int)=>y.1<=c/\Sh R c y.2/\∀r t,r<R->t<c->ent y.2 r t=aXg M i j k y.1 r t) (λy=>⟨jO [(0,.ptr 0 0),(1,.d (.i .i64 (i:Int))),(2,.d (.i .i64 (j:Int))),(7,.ptr (3*R+4) 0),(8,.d (.i .i64 (y.1:Int)))],aH R c y.2 U V (kO k),3*R+5⟩) (λy=>c-y.1)
  (0,M) ⟨Al _,hs.m,λr t hr ht=>(Ac (by omega)).symm⟩ ?_ ?_
 ·refine⟨_,lH ?_ (λid o' ho=>⟨o',ho,gE hs (zF k) ho⟩) (λid hid=>iT hs hid) (by simp)⟩
  have g0:=eS (x:=(kO k)) hs (id:=0) (by omega)
  have g1:=eS (x:=(kO k)) hs (id:=3*R+4) (by show _<_+1;omega)
  simp[-F,upd,aO,Γ0,g0,g1]
 ·rintro⟨s,M1⟩ ⟨hsb,hM1,hME⟩
  simp only at hsb hM1 hME
  have hs0:WS R c M1 U V:=⟨hM1,hs.u,hs.v⟩
  have hHr:aH R c M1 U V (kO k) 0=some (.cells 168 [.d (.i .i64 (R:Int)),.d (.i .i64 (c:Int)),.own 1 0 R 1,.d (.i .i64 (R:Int)),.d (.i .i64 (R:Int)),.own (R+2) 0 R 1,.d (.i .i64 (R:Int)),.d (.i .i64 (R:Int)),.own (2*R+3) 0 R 1]):=rfl
  by_cases hgo:s<c
  ·have q1:(s:Int)<c:=by omega
   have hw:Ag.wrap ((s:Int)+1)=(s:Int)+1:=aV
   have hHh:aH R c M1 U V (kO k) 1=some (.cells 140 (hdr c R 2)):=bAu hs0
   have hHk:aH R c M1 U V (kO k) (3*R+4)=some (.cells 72 [.d (.b (decide (k<0))),.d (aM (aU k.natAbs))]):=by have:=cAb hs0 (x:=(kO k)) (i:=0) rfl;rwa [A6]at this
   obtain⟨vi,hvi,hvli,hvei⟩:=hM1.get hi
   have hHi:aH R c M1 U V (kO k) (i+2)=some (.cells 72 ((vcs vi).map .d)):=aTp hvi
   have hgi:=dZ (c:=c) (b:=2) hi
   have hggi:∀h:i<(hdr c R 2).length,(hdr c R 2)[i]'h=.own (i+2) 0 c 2:=λh=>Br ((Ab h).symm.trans hgi)
   have hvci:=gY vi
   rw[hvli]at hvci
   obtain⟨vj,hvj,hvlj,hvej⟩:=hM1.get hj
   have hHj:aH R c M1 U V (kO k) (j+2)=some (.cells 72 ((vcs vj).map .d)):=aTp hvj
   have hgj:=dZ (c:=c) (b:=2) hj
   have hggj:∀h:j<(hdr c R 2).length,(hdr c R 2)[j]'h=.own (j+2) 0 c 2:=λh=>Br ((Ab h).symm.trans hgj)
   have hvcj:=gY vj
   rw[hvlj]at hvcj
   have hbs:s*2+2<=c*2:=by omega
   have hz0:ent M1 i s=ent M i s:=by rw[hME i s (by omega) (by omega)];exact Ac (by omega)
   have hrd0:BB 2 (Cy (s*2) ((vcs vi).map AV.d))=[.d (.b (decide (ent M i s<0))),.d (aM (aU (ent M i s).natAbs))]:=by rw[<-hz0,<-hvei s,<-Bv,<-BD,iM (z:=vi.getD s 0) (by rw[Af,Ab (by omega)];rfl)];rfl
   have hzs0:Sy (ent M i s):=hM i s
   have hz1:ent M1 j s=ent M j s:=by rw[hME j s (by omega) (by omega)];exact Ac (by omega)
   have hrd1:BB 2 (Cy (s*2) ((vcs vj).map AV.d))=[.d (.b (decide (ent M j s<0))),.d (aM (aU (ent M j s).natAbs))]:=by rw[<-hz1,<-hvej s,<-Bv,<-BD,iM (z:=vj.getD s 0) (by rw[Af,Ab (by omega)];rfl)];rfl
   have hzs1:Sy (ent M j s):=hM j s
   have hmul:=qI k (ent M j s) (An hk (by decide)) (An hzs1 (by decide))
   have hadd:=sB (ent M i s) (k*ent M j s) (An hzs0 (by decide)) (An (uO hk hzs1) (by decide))
   obtain⟨z,hZ⟩:∃z,ent M i s+k*ent M j s=z:=⟨_,rfl⟩
   rw[hZ]at hadd
   have hM2:Sh R c (M1.set i (vi.set s z)):=iI hM1 hvi
   have hs1:WS R c (M1.set i (vi.set s z)) U V:=⟨hM2,hs.u,hs.v⟩
   have hupd:upd (aH R c M1 U V (kO k)) (i+2) (some (.cells 72 ((vcs (vi.set s z)).map .d)))=aH R c (M1.set i (vi.set s z)) U V (kO k):=bAr hs0 hi
   have hlay:=mC (v:=vi) z (j:=s) (by rw[hvli];omega)
   have hgl:=cU c R 2
   generalize hzm:k*ent M j s=zm at *
   generalize hz0g:ent M i s=z0 at *
   generalize hz1g:ent M j s=z1 at *
   generalize hHg:aH R c M1 U V (kO k)=H at *
   generalize hdr c R 2=cellsR at *
   simp[-F,-I,↓KW,q1,hHr,hHh,hHk,hHi,hgi,hggi,hvci,hi,hHj,hgj,hggj,hvcj,hj,hbs,hgo,hrd0,hrd1,hgl,aD,aF,aG,aZ,aW]
   refine aJ hmul ?_
   rw[aY]
   simp[-F,-I,↓KW,hHr,hHh,hHk,hHi,hgi,hggi,hvci,hi,hHj,hgj,hggj,hvcj,hj,hbs,hgo,hrd0,hrd1,hgl,aD,aF,aG,aZ,aW]
   refine aJ hadd ?_
   rw[aY]
   simp[-F,-I,↓KW,hHr,hHh,hHk,hHi,hgi,hggi,hvci,hi,hHj,hgj,hggj,hvcj,hj,hbs,hgo,hrd0,hrd1,hgl,hw,hlay,aD,aF,aG,aZ,aW]
   rw[hupd]
   refine aI (s+1,M1.set i (vi.set s z)) ⟨hgo,hM2,λr t hr ht=>?_⟩ (slQ hgo) ?_
   ·rw[nL hM1 hi (by omega) hvi,hME r t hr ht,<-hZ]
    unfold aXg
    by_cases e:r=i/\t=s
    ·obtain⟨e1,e2⟩:=e
     subst e1;subst e2
     rw[Ad ⟨rfl,rfl⟩,Ad (by omega)]
     rw[<-hzm,<-hz0g,<-hz1g]
    ·rw[Ac e]
     split
     ·rw[Ad (by omega)]
     ·rw[Ac (by omega)]
   ·refine⟨_,lH ?_ (λid o' ho=>⟨o',ho,gE hs1 (zF k) ho⟩) (λid hid=>iT hs1 hid) (by simp)⟩
    have g0:=eS (x:=(kO k)) hs1 (id:=0) (by omega)
    have g1:=eS (x:=(kO k)) hs1 (id:=3*R+4) (by show _<_+1;omega)
    simp[-F,upd,aO,Γ0,g0,g1]
  ·have q1:¬(s:Int)<c:=by omega
   have es:s=c:=by omega
   have hNe:M1=rZ R c M i j k:=tF hM1 λr t hr ht=>by rw[hME r t hr ht,es]
   have hsome:=λid=>eS (x:=(kO k)) hs0 (id:=id)
   have hself:=λ(H:Hp) id o=>gE (x:=(kO k)) hs0 (zF k) (H:=H) (id:=id) (o:=o)
   have htop:=λid=>iT (x:=(kO k)) hs0 (id:=id)
   clear hM1 hME
   rw[<-hNe]
   clear hNe
   generalize hHg:aH R c M1 U V (kO k)=H at *
   simp[-F,-I,↓KW,q1,hHr]
   rw[<-hHg]
   have hs:=hs0
   clear hs0 hHr hself hsome htop hHg
   refine aP (λy:Nat×List (List Int)=>y.1<=R/\Sh R R y.2/\∀r t,r<R->t<R->ent y.2 r t=aXg U i j k y.1 r t) (λy=>⟨jO [(0,.ptr 0 0),(1,.d (.i .i64 (i:Int))),(2,.d (.i .i64 (j:Int))),(7,.ptr (3*R+4) 0),(9,.d (.i .i64 (y.1:Int)))],aH R c M1 y.2 V (kO k),3*R+5⟩) (λy=>R-y.1)
    (0,U) ⟨Al _,hs.u,λr t hr ht=>(Ac (by omega)).symm⟩ ?_ ?_
   ·refine⟨_,lH ?_ (λid o' ho=>⟨o',ho,gE hs (zF k) ho⟩) (λid hid=>iT hs hid) (by simp)⟩
    have g0:=eS (x:=(kO k)) hs (id:=0) (by omega)
    have g1:=eS (x:=(kO k)) hs (id:=3*R+4) (by show _<_+1;omega)
    simp[-F,upd,aO,Γ0,g0,g1]
   ·rintro⟨s,U1⟩ ⟨hsb,hM1,hME⟩
    simp only at hsb hM1 hME
    have hs0:WS R c M1 U1 V:=⟨hs.m,hM1,hs.v⟩
    have hHr:aH R c M1 U1 V (kO k) 0=some (.cells 168 [.d (.i .i64 (R:Int)),.d (.i .i64 (c:Int)),.own 1 0 R 1,.d (.i .i64 (R:Int)),.d (.i .i64 (R:Int)),.own (R+2) 0 R 1,.d (.i .i64 (R:Int)),.d (.i .i64 (R:Int)),.own (2*R+3) 0 R 1]):=rfl
    by_cases hgo:s<R
    ·have q1:(s:Int)<R:=by omega
     have hw:Ag.wrap ((s:Int)+1)=(s:Int)+1:=aV
     have hHh:aH R c M1 U1 V (kO k) (R+2)=some (.cells 140 (hdr R R (R+3))):=bAt hs0
     have hHk:aH R c M1 U1 V (kO k) (3*R+4)=some (.cells 72 [.d (.b (decide (k<0))),.d (aM (aU k.natAbs))]):=by have:=cAb hs0 (x:=(kO k)) (i:=0) rfl;rwa [A6]at this
     obtain⟨vi,hvi,hvli,hvei⟩:=hM1.get hi
     have hHi:aH R c M1 U1 V (kO k) (i+(R+3))=some (.cells 72 ((vcs vi).map .d)):=aTo hs0 hvi
     have hgi:=dZ (c:=R) (b:=(R+3)) hi
     have hggi:∀h:i<(hdr R R (R+3)).length,(hdr R R (R+3))[i]'h=.own (i+(R+3)) 0 R 2:=λh=>Br ((Ab h).symm.trans hgi)
     have hvci:=gY vi
     rw[hvli]at hvci
     obtain⟨vj,hvj,hvlj,hvej⟩:=hM1.get hj
     have hHj:aH R c M1 U1 V (kO k) (j+(R+3))=some (.cells 72 ((vcs vj).map .d)):=aTo hs0 hvj
     have hgj:=dZ (c:=R) (b:=(R+3)) hj
     have hggj:∀h:j<(hdr R R (R+3)).length,(hdr R R (R+3))[j]'h=.own (j+(R+3)) 0 R 2:=λh=>Br ((Ab h).symm.trans hgj)
     have hvcj:=gY vj
     rw[hvlj]at hvcj
     have hbs:s*2+2<=R*2:=by omega
     have hz0:ent U1 i s=ent U i s:=by rw[hME i s (by omega) (by omega)];exact Ac (by omega)
     have hrd0:BB 2 (Cy (s*2) ((vcs vi).map AV.d))=[.d (.b (decide (ent U i s<0))),.d (aM (aU (ent U i s).natAbs))]:=by rw[<-hz0,<-hvei s,<-Bv,<-BD,iM (z:=vi.getD s 0) (by rw[Af,Ab (by omega)];rfl)];rfl
     have hzs0:Sy (ent U i s):=hU i s
     have hz1:ent U1 j s=ent U j s:=by rw[hME j s (by omega) (by omega)];exact Ac (by omega)
     have hrd1:BB 2 (Cy (s*2) ((vcs vj).map AV.d))=[.d (.b (decide (ent U j s<0))),.d (aM (aU (ent U j s).natAbs))]:=by rw[<-hz1,<-hvej s,<-Bv,<-BD,iM (z:=vj.getD s 0) (by rw[Af,Ab (by omega)];rfl)];rfl
     have hzs1:Sy (ent U j s):=hU j s
     have hmul:=qI k (ent U j s) (An hk (by decide)) (An hzs1 (by decide))
     have hadd:=sB (ent U i s) (k*ent U j s) (An hzs0 (by decide)) (An (uO hk hzs1) (by decide))
     obtain⟨z,hZ⟩:∃z,ent U i s+k*ent U j s=z:=⟨_,rfl⟩
     rw[hZ]at hadd
     have hM2:Sh R R (U1.set i (vi.set s z)):=iI hM1 hvi
     have hs1:WS R c M1 (U1.set i (vi.set s z)) V:=⟨hs.m,hM2,hs.v⟩
     have hupd:upd (aH R c M1 U1 V (kO k)) (i+(R+3)) (some (.cells 72 ((vcs (vi.set s z)).map .d)))=aH R c M1 (U1.set i (vi.set s z)) V (kO k):=bAq hs0 hi
     have hlay:=mC (v:=vi) z (j:=s) (by rw[hvli];omega)
     have hgl:=cU R R (R+3)
     generalize hzm:k*ent U j s=zm at *
     generalize hz0g:ent U i s=z0 at *
     generalize hz1g:ent U j s=z1 at *
     generalize hHg:aH R c M1 U1 V (kO k)=H at *
     generalize hdr R R (R+3)=cellsR at *
     simp[-F,-I,↓KW,q1,hHr,hHh,hHk,hHi,hgi,hggi,hvci,hi,hHj,hgj,hggj,hvcj,hj,hbs,hgo,hrd0,hrd1,hgl,aD,aF,aG,aZ,aW]
     refine aJ hmul ?_
     rw[aY]
     simp[-F,-I,↓KW,hHr,hHh,hHk,hHi,hgi,hggi,hvci,hi,hHj,hgj,hggj,hvcj,hj,hbs,hgo,hrd0,hrd1,hgl,aD,aF,aG,aZ,aW]
     refine aJ hadd ?_
     rw[aY]
     simp[-F,-I,↓KW,hHr,hHh,hHk,hHi,hgi,hggi,hvci,hi,hHj,hgj,hggj,hvcj,hj,hbs,hgo,hrd0,hrd1,hgl,hw,hlay,aD,aF,aG,aZ,aW]
     rw[hupd]
     refine aI (s+1,U1.set i (vi.set s z)) ⟨hgo,hM2,λr t hr ht=>?_⟩ (slQ hgo) ?_
     ·rw[nL hM1 hi (by omega) hvi,hME r t hr ht,<-hZ]
      unfold aXg
      by_cases e:r=i/\t=s
      ·obtain⟨e1,e2⟩:=e
       subst e1;subst e2
       rw[Ad ⟨rfl,rfl⟩,Ad (by omega)]
       rw[<-hzm,<-hz0g,<-hz1g]
      ·rw[Ac e]
       split
       ·rw[Ad (by omega)]
       ·rw[Ac (by omega)]
     ·refine⟨_,lH ?_ (λid o' ho=>⟨o',ho,gE hs1 (zF k) ho⟩) (λid hid=>iT hs1 hid) (by simp)⟩
      have g0:=eS (x:=(kO k)) hs1 (id:=0) (by omega)
      have g1:=eS (x:=(kO k)) hs1 (id:=3*R+4) (by show _<_+1;omega)
      simp[-F,upd,aO,Γ0,g0,g1]
    ·have q1:¬(s:Int)<R:=by omega
     have es:s=R:=by omega
     have hNe:U1=rZ R R U i j k:=tF hM1 λr t hr ht=>by rw[hME r t hr ht,es]
     have hsome:=λid=>eS (x:=(kO k)) hs0 (id:=id)
     have hself:=λ(H:Hp) id o=>gE (x:=(kO k)) hs0 (zF k) (H:=H) (id:=id) (o:=o)
     have htop:=λid=>iT (x:=(kO k)) hs0 (id:=id)
     clear hM1 hME
     rw[<-hNe]
     clear hNe
     generalize hHg:aH R c M1 U1 V (kO k)=H at *
     simp[-F,-I,↓KW,q1,hHr]
     rw[<-hHg]
     have hs:=hs0
     clear hs0 hHr hself hsome htop hHg
     refine aP (λy:Nat×List (List Int)=>y.1<=R/\Sh R R y.2/\∀r t,r<R->t<R->ent y.2 r t=bOb V i j k y.1 r t) (λy=>⟨jO [(0,.ptr 0 0),(1,.d (.i .i64 (i:Int))),(2,.d (.i .i64 (j:Int))),(7,.ptr (3*R+4) 0),(10,.d (.i .i64 (y.1:Int)))],aH R c M1 U1 y.2 (kO k),3*R+5⟩) (λy=>R-y.1)
      (0,V) ⟨Al _,hs.v,λr t hr ht=>(Ac (by omega)).symm⟩ ?_ ?_
     ·refine⟨_,lH ?_ (λid o' ho=>⟨o',ho,gE hs (zF k) ho⟩) (λid hid=>iT hs hid) (by simp)⟩
      have g0:=eS (x:=(kO k)) hs (id:=0) (by omega)
      have g1:=eS (x:=(kO k)) hs (id:=3*R+4) (by show _<_+1;omega)
      simp[-F,upd,aO,Γ0,g0,g1]
     ·rintro⟨s,V1⟩ ⟨hsb,hM1,hME⟩
      simp only at hsb hM1 hME
      have hs0:WS R c M1 U1 V1:=⟨hs.m,hs.u,hM1⟩
      have hHr:aH R c M1 U1 V1 (kO k) 0=some (.cells 168 [.d (.i .i64 (R:Int)),.d (.i .i64 (c:Int)),.own 1 0 R 1,.d (.i .i64 (R:Int)),.d (.i .i64 (R:Int)),.own (R+2) 0 R 1,.d (.i .i64 (R:Int)),.d (.i .i64 (R:Int)),.own (2*R+3) 0 R 1]):=rfl
      by_cases hgo:s<R
      ·have q1:(s:Int)<R:=by omega
       have hw:Ag.wrap ((s:Int)+1)=(s:Int)+1:=aV
       have hHh:aH R c M1 U1 V1 (kO k) (2*R+3)=some (.cells 140 (hdr R R (2*R+4))):=bOg hs0
       have hHk:aH R c M1 U1 V1 (kO k) (3*R+4)=some (.cells 72 [.d (.b (decide (k<0))),.d (aM (aU k.natAbs))]):=by have:=cAb hs0 (x:=(kO k)) (i:=0) rfl;rwa [A6]at this
       obtain⟨vs,hvs,hvls,hves⟩:=hM1.get hgo
       have hHs:aH R c M1 U1 V1 (kO k) (s+(2*R+4))=some (.cells 72 ((vcs vs).map .d)):=bOd hs0 hvs
       have hgs:=dZ (c:=R) (b:=(2*R+4)) hgo
       have hggs:∀h:s<(hdr R R (2*R+4)).length,(hdr R R (2*R+4))[s]'h=.own (s+(2*R+4)) 0 R 2:=λh=>Br ((Ab h).symm.trans hgs)
       have hvcs:=gY vs
       rw[hvls]at hvcs
       have hbj:j*2+2<=R*2:=by omega
       have hbi:i*2+2<=R*2:=by omega
       have hz0:ent V1 s j=ent V s j:=by rw[hME s j (by omega) (by omega)];exact Ac (by omega)
       have hrd0:BB 2 (Cy (j*2) ((vcs vs).map AV.d))=[.d (.b (decide (ent V s j<0))),.d (aM (aU (ent V s j).natAbs))]:=by rw[<-hz0,<-hves j,<-Bv,<-BD,iM (z:=vs.getD j 0) (by rw[Af,Ab (by omega)];rfl)];rfl
       have hzs0:Sy (ent V s j):=hV s j
       have hz1:ent V1 s i=ent V s i:=by rw[hME s i (by omega) (by omega)];exact Ac (by omega)
       have hrd1:BB 2 (Cy (i*2) ((vcs vs).map AV.d))=[.d (.b (decide (ent V s i<0))),.d (aM (aU (ent V s i).natAbs))]:=by rw[<-hz1,<-hves i,<-Bv,<-BD,iM (z:=vs.getD i 0) (by rw[Af,Ab (by omega)];rfl)];rfl
       have hzs1:Sy (ent V s i):=hV s i
       have hmul:=qI k (ent V s i) (An hk (by decide)) (An hzs1 (by decide))
       have hsub:=aMe (ent V s j) (k*ent V s i) (An hzs0 (by decide)) (An (uO hk hzs1) (by decide))
       obtain⟨z,hZ⟩:∃z,ent V s j-k*ent V s i=z:=⟨_,rfl⟩
       rw[hZ]at hsub
       have hM2:Sh R R (V1.set s (vs.set j z)):=iI hM1 hvs
       have hs1:WS R c M1 U1 (V1.set s (vs.set j z)):=⟨hs.m,hs.u,hM2⟩
       have hupd:upd (aH R c M1 U1 V1 (kO k)) (s+(2*R+4)) (some (.cells 72 ((vcs (vs.set j z)).map .d)))=aH R c M1 U1 (V1.set s (vs.set j z)) (kO k):=aDx hs0 hgo
       have hlay:=mC (v:=vs) z (j:=j) (by rw[hvls];omega)
       have hgl:=cU R R (2*R+4)
       generalize hzm:k*ent V s i=zm at *
       generalize hz0g:ent V s j=z0 at *
       generalize hz1g:ent V s i=z1 at *
       generalize hHg:aH R c M1 U1 V1 (kO k)=H at *
       generalize hdr R R (2*R+4)=cellsR at *
       simp[-F,-I,↓KW,q1,hHr,hHh,hHk,hHs,hgs,hggs,hvcs,hgo,hbj,hbi,hj,hi,hrd0,hrd1,hgl,aD,aF,aG,aZ,aW]
       refine aJ hmul ?_
       rw[aY]
       simp[-F,-I,↓KW,hHr,hHh,hHk,hHs,hgs,hggs,hvcs,hgo,hbj,hbi,hj,hi,hrd0,hrd1,hgl,aD,aF,aG,aZ,aW]
       refine aJ hsub ?_
       rw[aY]
       simp[-F,-I,↓KW,hHr,hHh,hHk,hHs,hgs,hggs,hvcs,hgo,hbj,hbi,hj,hi,hrd0,hrd1,hgl,hw,hlay,aD,aF,aG,aZ,aW]
       rw[hupd]
       refine aI (s+1,V1.set s (vs.set j z)) ⟨hgo,hM2,λr t hr ht=>?_⟩ (slQ hgo) ?_
       ·rw[nL hM1 hgo (by omega) hvs,hME r t hr ht,<-hZ]
        unfold bOb
        by_cases e:r=s/\t=j
        ·obtain⟨e1,e2⟩:=e
         subst e1;subst e2
         rw[Ad ⟨rfl,rfl⟩,Ad (by omega)]
         rw[<-hzm,<-hz0g,<-hz1g]
        ·rw[Ac e]
         split
         ·rw[Ad (by omega)]
         ·rw[Ac (by omega)]
       ·refine⟨_,lH ?_ (λid o' ho=>⟨o',ho,gE hs1 (zF k) ho⟩) (λid hid=>iT hs1 hid) (by simp)⟩
        have g0:=eS (x:=(kO k)) hs1 (id:=0) (by omega)
        have g1:=eS (x:=(kO k)) hs1 (id:=3*R+4) (by show _<_+1;omega)
        simp[-F,upd,aO,Γ0,g0,g1]
      ·have q1:¬(s:Int)<R:=by omega
       have es:s=R:=by omega
       have hNe:V1=aXf R V i j k:=tF hM1 λr t hr ht=>by rw[hME r t hr ht,es]
       have hsome:=λid=>eS (x:=(kO k)) hs0 (id:=id)
       have hself:=λ(H:Hp) id o=>gE (x:=(kO k)) hs0 (zF k) (H:=H) (id:=id) (o:=o)
       have htop:=λid=>iT (x:=(kO k)) hs0 (id:=id)
       clear hM1 hME
       rw[<-hNe]
       clear hNe
       generalize hHg:aH R c M1 U1 V1 (kO k)=H at *
       simp[-F,-I,↓KW,q1,hHr]
       rw[<-hHg]
       exact aXi hs0 (DS _)
def bOe{R c:Nat}{M U V:List (List Int)}:(λid=>(wR0 R c::wH R c M U V)[id]?)=aH R c M U V []:=by funext id;unfold aH iK;rw[Ac (by omega),aKy,A7,Eo]
def bBz{R c i:Nat}{M U V:List (List Int)}(hs:WS R c M U V)(hR:R<=1000)(hc:c<=1000)(hi:i<R)(hM:∀r t,Sy (ent M r t))(hU:∀r t,Sy (ent U r t))(hV:∀r t,Sy (ent V r t)) :
  aAc Aa 104 (.ptr 0 0) (wR0 R c) (wH R c M U V) [.i .i64 (i:Int)] (wR0 R c) (wH R c (ngR R c M i) (ngR R R U i) (ngV R V i)) (.tp []):=by
 refine aAi (N:=100) bN Tryz.func104 rfl rfl rfl rfl (by kernel_rfl) (by kernel_rfl) (by simp) ?_
 have hl:(wH R c M U V).length=3*R+3:=iE hs _ _ _
 simp[-F,-I,↓KW,StT,hl,bOe]
 rw[show 3*R+3+1=3*R+4 by omega]
 refine aP (λy:Nat×List (List Int)=>y.1<=c/\Sh R c y.2/\∀r t,r<R->t<c->ent y.2 r t=ngF M i y.1 r t) (λy=>⟨jO [(0,.ptr 0 0),(1,.d (.i .i64 (i:Int))),(4,.d (.i .i64 (y.1:Int)))],aH R c y.2 U V [],3*R+4⟩) (λy=>c-y.1)
  (0,M) ⟨Al _,hs.m,λr t hr ht=>(Ac (by omega)).symm⟩ ?_ ?_
 ·refine⟨_,lH ?_ (λid o' ho=>⟨o',ho,gE hs (λo ho=>by cases ho) ho⟩) (λid hid=>iT hs hid) (by simp)⟩
  have g0:=eS (x:=[]) hs (id:=0) (by omega)
  simp[-F,upd,aO,Γ0,g0]
 ·rintro⟨s,M1⟩ ⟨hsb,hM1,hME⟩
  simp only at hsb hM1 hME
  have hs0:WS R c M1 U V:=⟨hM1,hs.u,hs.v⟩
  have hHr:aH R c M1 U V [] 0=some (.cells 168 [.d (.i .i64 (R:Int)),.d (.i .i64 (c:Int)),.own 1 0 R 1,.d (.i .i64 (R:Int)),.d (.i .i64 (R:Int)),.own (R+2) 0 R 1,.d (.i .i64 (R:Int)),.d (.i .i64 (R:Int)),.own (2*R+3) 0 R 1]):=rfl
  by_cases hgo:s<c
  ·have q1:(s:Int)<c:=by omega
   have hw:Ag.wrap ((s:Int)+1)=(s:Int)+1:=aV
   have hHh:aH R c M1 U V [] 1=some (.cells 140 (hdr c R 2)):=bAu hs0
   obtain⟨vi,hvi,hvli,hvei⟩:=hM1.get hi
   have hHi:aH R c M1 U V [] (i+2)=some (.cells 72 ((vcs vi).map .d)):=aTp hvi
   have hgi:=dZ (c:=c) (b:=2) hi
   have hggi:∀h:i<(hdr c R 2).length,(hdr c R 2)[i]'h=.own (i+2) 0 c 2:=λh=>Br ((Ab h).symm.trans hgi)
   have hvci:=gY vi
   rw[hvli]at hvci
   have hbs:s*2+2<=c*2:=by omega
   have hz0:ent M1 i s=ent M i s:=by rw[hME i s (by omega) (by omega)];exact Ac (by omega)
   have hrd0:BB 2 (Cy (s*2) ((vcs vi).map AV.d))=[.d (.b (decide (ent M i s<0))),.d (aM (aU (ent M i s).natAbs))]:=by rw[<-hz0,<-hvei s,<-Bv,<-BD,iM (z:=vi.getD s 0) (by rw[Af,Ab (by omega)];rfl)];rfl
   have hzs0:Sy (ent M i s):=hM i s
   have hneg:=nH (ent M i s) (An hzs0 (by decide))
   obtain⟨z,hZ⟩:∃z,-ent M i s=z:=⟨_,rfl⟩
   rw[hZ]at hneg
   have hM2:Sh R c (M1.set i (vi.set s z)):=iI hM1 hvi
   have hs1:WS R c (M1.set i (vi.set s z)) U V:=⟨hM2,hs.u,hs.v⟩
   have hupd:upd (aH R c M1 U V []) (i+2) (some (.cells 72 ((vcs (vi.set s z)).map .d)))=aH R c (M1.set i (vi.set s z)) U V []:=bAr hs0 hi
   have hlay:=mC (v:=vi) z (j:=s) (by rw[hvli];omega)
   have hgl:=cU c R 2
   generalize hz0g:ent M i s=z0 at *
   generalize hHg:aH R c M1 U V []=H at *
   generalize hdr c R 2=cellsR at *
   simp[-F,-I,↓KW,q1,hHr,hHh,hHi,hgi,hggi,hvci,hi,hbs,hgo,hrd0,hgl,aD,aF,aG,aZ,aW]
   refine aJ hneg ?_
   rw[aY]
   simp[-F,-I,↓KW,hHr,hHh,hHi,hgi,hggi,hvci,hi,hbs,hgo,hrd0,hgl,hw,hlay,aD,aF,aG,aZ,aW]
   rw[hupd]
   refine aI (s+1,M1.set i (vi.set s z)) ⟨hgo,hM2,λr t hr ht=>?_⟩ (slQ hgo) ?_
   ·rw[nL hM1 hi (by omega) hvi,hME r t hr ht,<-hZ]
    unfold ngF
    by_cases e:r=i/\t=s
    ·obtain⟨e1,e2⟩:=e
     subst e1;subst e2
     rw[Ad ⟨rfl,rfl⟩,Ad (by omega)]
     rw[<-hz0g]
    ·rw[Ac e]
     split
     ·rw[Ad (by omega)]
     ·rw[Ac (by omega)]
   ·refine⟨_,lH ?_ (λid o' ho=>⟨o',ho,gE hs1 (λo ho=>by cases ho) ho⟩) (λid hid=>iT hs1 hid) (by simp)⟩
    have g0:=eS (x:=[]) hs1 (id:=0) (by omega)
    simp[-F,upd,aO,Γ0,g0]
  ·have q1:¬(s:Int)<c:=by omega
   have es:s=c:=by omega
   have hNe:M1=ngR R c M i:=tF hM1 λr t hr ht=>by rw[hME r t hr ht,es]
   have hsome:=λid=>eS (x:=[]) hs0 (id:=id)
   have hself:=λ(H:Hp) id o=>gE (x:=[]) hs0 (λo ho=>by cases ho) (H:=H) (id:=id) (o:=o)
   have htop:=λid=>iT (x:=[]) hs0 (id:=id)
   clear hM1 hME
   rw[<-hNe]
   clear hNe
   generalize hHg:aH R c M1 U V []=H at *
   simp[-F,-I,↓KW,q1,hHr]
   rw[<-hHg]
   have hs:=hs0
   clear hs0 hHr hself hsome htop hHg
   refine aP (λy:Nat×List (List Int)=>y.1<=R/\Sh R R y.2/\∀r t,r<R->t<R->ent y.2 r t=ngF U i y.1 r t) (λy=>⟨jO [(0,.ptr 0 0),(1,.d (.i .i64 (i:Int))),(5,.d (.i .i64 (y.1:Int)))],aH R c M1 y.2 V [],3*R+4⟩) (λy=>R-y.1)
    (0,U) ⟨Al _,hs.u,λr t hr ht=>(Ac (by omega)).symm⟩ ?_ ?_
   ·refine⟨_,lH ?_ (λid o' ho=>⟨o',ho,gE hs (λo ho=>by cases ho) ho⟩) (λid hid=>iT hs hid) (by simp)⟩
    have g0:=eS (x:=[]) hs (id:=0) (by omega)
    simp[-F,upd,aO,Γ0,g0]
   ·rintro⟨s,U1⟩ ⟨hsb,hM1,hME⟩
    simp only at hsb hM1 hME
    have hs0:WS R c M1 U1 V:=⟨hs.m,hM1,hs.v⟩
    have hHr:aH R c M1 U1 V [] 0=some (.cells 168 [.d (.i .i64 (R:Int)),.d (.i .i64 (c:Int)),.own 1 0 R 1,.d (.i .i64 (R:Int)),.d (.i .i64 (R:Int)),.own (R+2) 0 R 1,.d (.i .i64 (R:Int)),.d (.i .i64 (R:Int)),.own (2*R+3) 0 R 1]):=rfl
    by_cases hgo:s<R
    ·have q1:(s:Int)<R:=by omega
     have hw:Ag.wrap ((s:Int)+1)=(s:Int)+1:=aV
     have hHh:aH R c M1 U1 V [] (R+2)=some (.cells 140 (hdr R R (R+3))):=bAt hs0
     obtain⟨vi,hvi,hvli,hvei⟩:=hM1.get hi
     have hHi:aH R c M1 U1 V [] (i+(R+3))=some (.cells 72 ((vcs vi).map .d)):=aTo hs0 hvi
     have hgi:=dZ (c:=R) (b:=(R+3)) hi
     have hggi:∀h:i<(hdr R R (R+3)).length,(hdr R R (R+3))[i]'h=.own (i+(R+3)) 0 R 2:=λh=>Br ((Ab h).symm.trans hgi)
     have hvci:=gY vi
     rw[hvli]at hvci
     have hbs:s*2+2<=R*2:=by omega
     have hz0:ent U1 i s=ent U i s:=by rw[hME i s (by omega) (by omega)];exact Ac (by omega)
     have hrd0:BB 2 (Cy (s*2) ((vcs vi).map AV.d))=[.d (.b (decide (ent U i s<0))),.d (aM (aU (ent U i s).natAbs))]:=by rw[<-hz0,<-hvei s,<-Bv,<-BD,iM (z:=vi.getD s 0) (by rw[Af,Ab (by omega)];rfl)];rfl
     have hzs0:Sy (ent U i s):=hU i s
     have hneg:=nH (ent U i s) (An hzs0 (by decide))
     obtain⟨z,hZ⟩:∃z,-ent U i s=z:=⟨_,rfl⟩
     rw[hZ]at hneg
     have hM2:Sh R R (U1.set i (vi.set s z)):=iI hM1 hvi
     have hs1:WS R c M1 (U1.set i (vi.set s z)) V:=⟨hs.m,hM2,hs.v⟩
     have hupd:upd (aH R c M1 U1 V []) (i+(R+3)) (some (.cells 72 ((vcs (vi.set s z)).map .d)))=aH R c M1 (U1.set i (vi.set s z)) V []:=bAq hs0 hi
     have hlay:=mC (v:=vi) z (j:=s) (by rw[hvli];omega)
     have hgl:=cU R R (R+3)
     generalize hz0g:ent U i s=z0 at *
     generalize hHg:aH R c M1 U1 V []=H at *
     generalize hdr R R (R+3)=cellsR at *
     simp[-F,-I,↓KW,q1,hHr,hHh,hHi,hgi,hggi,hvci,hi,hbs,hgo,hrd0,hgl,aD,aF,aG,aZ,aW]
     refine aJ hneg ?_
     rw[aY]
     simp[-F,-I,↓KW,hHr,hHh,hHi,hgi,hggi,hvci,hi,hbs,hgo,hrd0,hgl,hw,hlay,aD,aF,aG,aZ,aW]
     rw[hupd]
     refine aI (s+1,U1.set i (vi.set s z)) ⟨hgo,hM2,λr t hr ht=>?_⟩ (slQ hgo) ?_
     ·rw[nL hM1 hi (by omega) hvi,hME r t hr ht,<-hZ]
      unfold ngF
      by_cases e:r=i/\t=s
      ·obtain⟨e1,e2⟩:=e
       subst e1;subst e2
       rw[Ad ⟨rfl,rfl⟩,Ad (by omega)]
       rw[<-hz0g]
      ·rw[Ac e]
       split
       ·rw[Ad (by omega)]
       ·rw[Ac (by omega)]
     ·refine⟨_,lH ?_ (λid o' ho=>⟨o',ho,gE hs1 (λo ho=>by cases ho) ho⟩) (λid hid=>iT hs1 hid) (by simp)⟩
      have g0:=eS (x:=[]) hs1 (id:=0) (by omega)
      simp[-F,upd,aO,Γ0,g0]
    ·have q1:¬(s:Int)<R:=by omega
     have es:s=R:=by omega
     have hNe:U1=ngR R R U i:=tF hM1 λr t hr ht=>by rw[hME r t hr ht,es]
     have hsome:=λid=>eS (x:=[]) hs0 (id:=id)
     have hself:=λ(H:Hp) id o=>gE (x:=[]) hs0 (λo ho=>by cases ho) (H:=H) (id:=id) (o:=o)
     have htop:=λid=>iT (x:=[]) hs0 (id:=id)
     clear hM1 hME
     rw[<-hNe]
     clear hNe
     generalize hHg:aH R c M1 U1 V []=H at *
     simp[-F,-I,↓KW,q1,hHr]
     rw[<-hHg]
     have hs:=hs0
     clear hs0 hHr hself hsome htop hHg
     refine aP (λy:Nat×List (List Int)=>y.1<=R/\Sh R R y.2/\∀r t,r<R->t<R->ent y.2 r t=ngC V i y.1 r t) (λy=>⟨jO [(0,.ptr 0 0),(1,.d (.i .i64 (i:Int))),(6,.d (.i .i64 (y.1:Int)))],aH R c M1 U1 y.2 [],3*R+4⟩) (λy=>R-y.1)
      (0,V) ⟨Al _,hs.v,λr t hr ht=>(Ac (by omega)).symm⟩ ?_ ?_
     ·refine⟨_,lH ?_ (λid o' ho=>⟨o',ho,gE hs (λo ho=>by cases ho) ho⟩) (λid hid=>iT hs hid) (by simp)⟩
      have g0:=eS (x:=[]) hs (id:=0) (by omega)
      simp[-F,upd,aO,Γ0,g0]
     ·rintro⟨s,V1⟩ ⟨hsb,hM1,hME⟩
      simp only at hsb hM1 hME
      have hs0:WS R c M1 U1 V1:=⟨hs.m,hs.u,hM1⟩
      have hHr:aH R c M1 U1 V1 [] 0=some (.cells 168 [.d (.i .i64 (R:Int)),.d (.i .i64 (c:Int)),.own 1 0 R 1,.d (.i .i64 (R:Int)),.d (.i .i64 (R:Int)),.own (R+2) 0 R 1,.d (.i .i64 (R:Int)),.d (.i .i64 (R:Int)),.own (2*R+3) 0 R 1]):=rfl
      by_cases hgo:s<R
      ·have q1:(s:Int)<R:=by omega
       have hw:Ag.wrap ((s:Int)+1)=(s:Int)+1:=aV
       have hHh:aH R c M1 U1 V1 [] (2*R+3)=some (.cells 140 (hdr R R (2*R+4))):=bOg hs0
       obtain⟨vs,hvs,hvls,hves⟩:=hM1.get hgo
       have hHs:aH R c M1 U1 V1 [] (s+(2*R+4))=some (.cells 72 ((vcs vs).map .d)):=bOd hs0 hvs
       have hgs:=dZ (c:=R) (b:=(2*R+4)) hgo
       have hggs:∀h:s<(hdr R R (2*R+4)).length,(hdr R R (2*R+4))[s]'h=.own (s+(2*R+4)) 0 R 2:=λh=>Br ((Ab h).symm.trans hgs)
       have hvcs:=gY vs
       rw[hvls]at hvcs
       have hbi:i*2+2<=R*2:=by omega
       have hz0:ent V1 s i=ent V s i:=by rw[hME s i (by omega) (by omega)];exact Ac (by omega)
       have hrd0:BB 2 (Cy (i*2) ((vcs vs).map AV.d))=[.d (.b (decide (ent V s i<0))),.d (aM (aU (ent V s i).natAbs))]:=by rw[<-hz0,<-hves i,<-Bv,<-BD,iM (z:=vs.getD i 0) (by rw[Af,Ab (by omega)];rfl)];rfl
       have hzs0:Sy (ent V s i):=hV s i
       have hneg:=nH (ent V s i) (An hzs0 (by decide))
       obtain⟨z,hZ⟩:∃z,-ent V s i=z:=⟨_,rfl⟩
       rw[hZ]at hneg
       have hM2:Sh R R (V1.set s (vs.set i z)):=iI hM1 hvs
       have hs1:WS R c M1 U1 (V1.set s (vs.set i z)):=⟨hs.m,hs.u,hM2⟩
       have hupd:upd (aH R c M1 U1 V1 []) (s+(2*R+4)) (some (.cells 72 ((vcs (vs.set i z)).map .d)))=aH R c M1 U1 (V1.set s (vs.set i z)) []:=aDx hs0 hgo
       have hlay:=mC (v:=vs) z (j:=i) (by rw[hvls];omega)
       have hgl:=cU R R (2*R+4)
       generalize hz0g:ent V s i=z0 at *
       generalize hHg:aH R c M1 U1 V1 []=H at *
       generalize hdr R R (2*R+4)=cellsR at *
       simp[-F,-I,↓KW,q1,hHr,hHh,hHs,hgs,hggs,hvcs,hgo,hbi,hi,hrd0,hgl,aD,aF,aG,aZ,aW]
       refine aJ hneg ?_
       rw[aY]
       simp[-F,-I,↓KW,hHr,hHh,hHs,hgs,hggs,hvcs,hgo,hbi,hi,hrd0,hgl,hw,hlay,aD,aF,aG,aZ,aW]
       rw[hupd]
       refine aI (s+1,V1.set s (vs.set i z)) ⟨hgo,hM2,λr t hr ht=>?_⟩ (slQ hgo) ?_
       ·rw[nL hM1 hgo (by omega) hvs,hME r t hr ht,<-hZ]
        unfold ngC
        by_cases e:r=s/\t=i
        ·obtain⟨e1,e2⟩:=e
         subst e1;subst e2
         rw[Ad ⟨rfl,rfl⟩,Ad (by omega)]
         rw[<-hz0g]
        ·rw[Ac e]
         split
         ·rw[Ad (by omega)]
         ·rw[Ac (by omega)]
       ·refine⟨_,lH ?_ (λid o' ho=>⟨o',ho,gE hs1 (λo ho=>by cases ho) ho⟩) (λid hid=>iT hs1 hid) (by simp)⟩
        have g0:=eS (x:=[]) hs1 (id:=0) (by omega)
        simp[-F,upd,aO,Γ0,g0]
      ·have q1:¬(s:Int)<R:=by omega
       have es:s=R:=by omega
       have hNe:V1=ngV R V i:=tF hM1 λr t hr ht=>by rw[hME r t hr ht,es]
       have hsome:=λid=>eS (x:=[]) hs0 (id:=id)
       have hself:=λ(H:Hp) id o=>gE (x:=[]) hs0 (λo ho=>by cases ho) (H:=H) (id:=id) (o:=o)
       have htop:=λid=>iT (x:=[]) hs0 (id:=id)
       clear hM1 hME
       rw[<-hNe]
       clear hNe
       generalize hHg:aH R c M1 U1 V1 []=H at *
       simp[-F,-I,↓KW,q1,hHr]
       rw[<-hHg]
       exact aXi hs0 (DS _)
def aSi(c n b i j:Nat):List AV:=lay (lay (hdr c n b) i [.own (j+b) 0 c 2]) j [.own (i+b) 0 c 2]
def aSg{c n b i j:Nat}(hi:i<n)(hj:j<n):(aSi c n b i j).length=n:=by
 unfold aSi;have h1:(lay (hdr c n b) i [.own (j+b) 0 c 2]).length=n:=by rw[iY (by rw[cU];exact hi),cU]
 rw[iY (by rw[h1];exact hj),h1]
def aSh{c n b i j k:Nat}(hi:i<n)(hj:j<n)(hk:k<n):(aSi c n b i j)[k]? = some (.own (swp i j k+b) 0 c 2):=by
 unfold aSi;have h1:(lay (hdr c n b) i [.own (j+b) 0 c 2]).length=n:=by rw[iY (by rw[cU];exact hi),cU]
 rw[zE (by rw[h1];exact hj),zE (by rw[cU];exact hi)];simp only[As];unfold swp;by_cases e1:k=j
 ·subst e1;rw[Ad (by omega),Cx];by_cases e2:k=i
  ·subst e2;rw[Ad rfl];rfl
  ·rw[Ac e2,Ad rfl];rfl
 ·rw[Ac (by omega)];by_cases e2:k=i
  ·subst e2;rw[Ad (by omega),Ad rfl,Cx];rfl
  ·rw[Ac (by omega),Ac e2,Ac e1,dZ hk]
def aYc{R c i j t:Nat}{M:List (List Int)}(h:Sh R c M)(hi:i<R)(hj:j<R)(ht:t<R):(swR R c M i j)[t]? = M[swp i j t]? := by
 obtain⟨v,h1,h2,h3⟩:=(kS R c λr t=>ent M (swp i j r) t).get ht;obtain⟨v',g1,g2,g3⟩:=h.get (aAk hi hj ht);unfold swR;rw[h1,g1];congr 1;refine EV (by rw[h2,g2]) λs a1 a2=>?_
 have e1:=h3 s;have e2:=g3 s;rw[sE _ ht (by omega)]at e1;rw[Af,Ab a1]at e1;rw[Af,Ab a2]at e2;simp only[Bd]at e1 e2;rw[e1,e2]
def aXc{α:Type}{a b:List α}{n k:Nat}(h:a.length=n):(a++b)[k+n]? = b[k]? := by rw[Az (by omega),h,Ba]
def swN(R i j:Nat)(id:Nat):Nat:=if 2<=id/\id<R+2 then swp i j (id-2)+2 else if R+3<=id/\id<2*R+3 then swp i j (id-(R+3))+(R+3)else id
def cAk{R c i j n:Nat}{M U V:List (List Int)}{J:Nat->AV}{sl:List (Nat×AV)}{H:Hp}(hs:WS R c M U V)(hi:i<R)(hj:j<R)
  (h1:H 1=some (.cells 140 (aSi c R 2 i j))) (h2:H (R+2)=some (.cells 140 (aSi R R (R+3) i j))) (ho:∀id,id≠1->id≠R+2->H id=aH R c M U V [] id)
  (hslot:nF H (aH R c (swR R c M i j) (swR R R U i j) V []) (swN R i j) J sl):∃ρ,Wk ⟨J,H,n+1⟩ ⟨jO sl,aH R c (swR R c M i j) (swR R R U i j) V [],3*R+4⟩ ρ:=by
 have hs':WS R c (swR R c M i j) (swR R R U i j) V:=⟨kS _ _ _,kS _ _ _,hs.v⟩
 have hlen:=aHf (x:=[]) hs'
 have hsome:=λid=>eS (x:=[]) hs' (id:=id)
 have hge:∀id,(aH R c (swR R c M i j) (swR R R U i j) V [] id).isSome=true->id<3*R+4:=λid h=>by have:=(aMz h).2;rw[hlen]at this;simpa using this
 have n2:∀t,t<R->swN R i j (t+2)=swp i j t+2:=λt ht=>by unfold swN;rw[Ad (by omega),Ba]
 have n3:∀t,t<R->swN R i j (t+(R+3))=swp i j t+(R+3):=λt ht=>by unfold swN;rw[Ac (by omega),Ad (by omega),Ba]
 have n0:∀id,id<2->swN R i j id=id:=λid h=>by unfold swN;rw[Ac (by omega),Ac (by omega)]
 have n1:swN R i j (R+2)=R+2:=by unfold swN;rw[Ac (by omega),Ac (by omega)]
 have n4:∀id,2*R+3<=id->swN R i j id=id:=λid h=>by unfold swN;rw[Ac (by omega),Ac (by omega)]
 have hk:∀t,t<R->swp i j t<R:=λt ht=>aAk hi hj ht
 have cases5:∀id,id<3*R+4->id=0\/id=1\/(∃t,t<R/\id=t+2)\/id=R+2\/(∃t,t<R/\id=t+(R+3))\/2*R+3<=id:=λid h=>by
  by_cases a:id<2
  ·omega
  ·by_cases b:id<R+2
   ·exact .inr (.inr (.inl ⟨id-2,by omega,by omega⟩))
   ·by_cases d:id=R+2
    ·exact .inr (.inr (.inr (.inl d)))
    ·by_cases f:id<2*R+3
     ·exact .inr (.inr (.inr (.inr (.inl ⟨id-(R+3),by omega,by omega⟩))))
     ·exact .inr (.inr (.inr (.inr (.inr (by omega)))))
 refine⟨_,aTz (swN R i j) hslot (λid o' h=>?_) (λid id' g1 g2 e=>?_) (λ_=>n0 0 (by omega)) (λid hid=>iT hs' hid) (by omega)⟩
 ·show ∃o,H (swN R i j id)=some o/\nC H _ (swN R i j) o o'
  have hid:=hge id (by rw[h];rfl)
  rcases cases5 id hid with rfl|rfl|⟨t,ht,rfl⟩|rfl|⟨t,ht,rfl⟩|hbig
  ·rw[n0 0 (by omega),ho 0 (by omega) (by omega)]
   rw[bAs]at h
   injection h with h;subst h
   have m1:=n0 1 (by omega)
   have m2:=n4 (2*R+3) (by omega)
   have s1:=hsome 1 (by omega)
   have s2:=hsome (R+2) (by omega)
   have s3:=hsome (2*R+3) (by omega)
   refine⟨_,bAs,?_⟩
   unfold wR0 wRt
   simp[-F,upd,aO,Γ0]
   exact⟨⟨m1.symm,rfl,rfl,rfl,s1⟩,⟨n1.symm,rfl,rfl,rfl,s2⟩,⟨m2.symm,rfl,rfl,rfl,s3⟩⟩
  ·rw[n0 1 (by omega),h1]
   rw[bAu hs']at h
   injection h with h;subst h
   refine⟨_,rfl,fM.2 ⟨rfl,fQ.2 ⟨by rw[aSg hi hj,cU],λk x y a1 a2=>?_⟩⟩⟩
   have hkR:k<R:=by have:=(Ah.1 a2).1;rwa [cU]at this
   rw[aSh hi hj hkR]at a1;injection a1 with a1;subst a1
   rw[dZ hkR]at a2;injection a2 with a2;subst a2
   exact⟨(n2 k hkR).symm,rfl,rfl,rfl,hsome _ (by omega)⟩
  ·rw[n2 t ht,ho _ (by omega) (by have:=hk t ht;omega)]
   obtain⟨v,hv,_⟩:=hs.m.get (hk t ht)
   rw[aTp (v:=v) (by rw[aYc hs.m hi hj ht];exact hv)]at h
   injection h with h;subst h
   exact⟨_,aTp hv,vH _ _⟩
  ·rw[n1,h2]
   rw[bAt hs']at h
   injection h with h;subst h
   refine⟨_,rfl,fM.2 ⟨rfl,fQ.2 ⟨by rw[aSg hi hj,cU],λk x y a1 a2=>?_⟩⟩⟩
   have hkR:k<R:=by have:=(Ah.1 a2).1;rwa [cU]at this
   rw[aSh hi hj hkR]at a1;injection a1 with a1;subst a1
   rw[dZ hkR]at a2;injection a2 with a2;subst a2
   exact⟨(n3 k hkR).symm,rfl,rfl,rfl,hsome _ (by omega)⟩
  ·rw[n3 t ht,ho _ (by have:=hk t ht;omega) (by omega)]
   obtain⟨v,hv,_⟩:=hs.u.get (hk t ht)
   rw[aTo hs' (v:=v) (by rw[aYc hs.u hi hj ht];exact hv)]at h
   injection h with h;subst h
   exact⟨_,aTo hs hv,vH _ _⟩
  ·rw[n4 id hbig,ho id (by omega) (by omega)]
   have hmem:o'∈mB R V (2*R+3):=by
    obtain⟨k,rfl⟩:∃k,id=k+(2*R+3):=⟨id-(2*R+3),by omega⟩;unfold aH at h;rw[aXh]at h;have l2:(wR0 R c::(mB c (swR R c M i j) 1++mB R (swR R R U i j) (R+2))).length=2*R+3:=by rw[AH,Ak,cT,cT,hs'.m.len,hs'.u.len];omega
    unfold iK at h;rw[Ac (by omega),Bh,Eo,aXc l2,A7]at h;exact Aq h
   have eqV:aH R c M U V [] id=aH R c (swR R c M i j) (swR R R U i j) V [] id:=by
    unfold aH;rw[aXh,aXh];obtain⟨k,rfl⟩:∃k,id=k+(2*R+3):=⟨id-(2*R+3),by omega⟩;have l1:(wR0 R c::(mB c M 1++mB R U (R+2))).length=2*R+3:=by rw[AH,Ak,cT,cT,hs.m.len,hs.u.len];omega
    have l2:(wR0 R c::(mB c (swR R c M i j) 1++mB R (swR R R U i j) (R+2))).length=2*R+3:=by rw[AH,Ak,cT,cT,hs'.m.len,hs'.u.len];omega
    unfold iK;rw[Ac (by omega),Ac (by omega),Bh,Bh,Eo,aXc l1,aXc l2]
   rw[eqV,h]
   refine⟨o',rfl,aDa (xH (a:=2*R+3) (n:=3*R+4) (by omega) (by rw[hs.v.len];omega) o' hmem) λid g1 g2=>⟨(n4 id g1).symm,hsome id (by show _<_+0;omega)⟩⟩
 ·have inv:∀id,id<3*R+4->swN R i j (swN R i j id)=id:=λid h=>by
   rcases cases5 id h with rfl|rfl|⟨t,ht,rfl⟩|rfl|⟨t,ht,rfl⟩|hbig
   ·rw[n0 0 (by omega),n0 0 (by omega)]
   ·rw[n0 1 (by omega),n0 1 (by omega)]
   ·rw[n2 t ht,n2 _ (hk t ht),aYb]
   ·rw[n1,n1]
   ·rw[n3 t ht,n3 _ (hk t ht),aYb]
   ·rw[n4 id hbig,n4 id hbig]
  rw[<-inv id (hge id g1),<-inv id' (hge id' g2)]
  exact congrArg _ e
def aYi{R c i j:Nat}{M U V:List (List Int)}(hs:WS R c M U V)(hR:R<=1000)(hc:c<=1000)(hi:i<R)(hj:j<R) :
  aAc Aa 103 (.ptr 0 0) (wR0 R c) (wH R c M U V) [.i .i64 (i:Int),.i .i64 (j:Int)] (wR0 R c) (wH R c (swR R c M i j) (swR R R U i j) (swV R V i j)) (.tp []):=by
 refine aAi (N:=123) bN Tryz.func103 rfl rfl rfl rfl (by kernel_rfl) (by kernel_rfl) (by simp) ?_
 have hl:(wH R c M U V).length=3*R+3:=iE hs _ _ _
 have hHr:aH R c M U V [] 0=some (.cells 168 [.d (.i .i64 (R:Int)),.d (.i .i64 (c:Int)),.own 1 0 R 1,.d (.i .i64 (R:Int)),.d (.i .i64 (R:Int)),.own (R+2) 0 R 1,.d (.i .i64 (R:Int)),.d (.i .i64 (R:Int)),.own (2*R+3) 0 R 1]):=rfl
 have hHh:aH R c M U V [] 1=some (.cells 140 (hdr c R 2)):=bAu hs
 have hHu:aH R c M U V [] (R+2)=some (.cells 140 (hdr R R (R+3))):=bAt hs
 have hgi:=dZ (c:=c) (b:=2) hi
 have hgj:=dZ (c:=c) (b:=2) hj
 have hui:=dZ (c:=R) (b:=R+3) hi
 have huj:=dZ (c:=R) (b:=R+3) hj
 have hgl:=cU c R 2
 have hul:=cU R R (R+3)
 obtain⟨m1,hm1⟩:∃m1,lay (hdr c R 2) i [.own (j+2) 0 c 2]=m1:=⟨_,rfl⟩
 obtain⟨m2,hm2⟩:∃m2,lay m1 j [.own (i+2) 0 c 2]=m2:=⟨_,rfl⟩
 obtain⟨u1,hu1⟩:∃u1,lay (hdr R R (R+3)) i [.own (j+(R+3)) 0 R 2]=u1:=⟨_,rfl⟩
 obtain⟨u2,hu2⟩:∃u2,lay u1 j [.own (i+(R+3)) 0 R 2]=u2:=⟨_,rfl⟩
 have hm1l:m1.length=R:=by rw[<-hm1,iY (by rw[cU];exact hi),cU]
 have hu1l:u1.length=R:=by rw[<-hu1,iY (by rw[cU];exact hi),cU]
 have hm3:m2=aSi c R 2 i j:=by rw[<-hm2,<-hm1];rfl
 have hu3:u2=aSi R R (R+3) i j:=by rw[<-hu2,<-hu1];rfl
 have e1:R+2≠1:=by omega
 have e2:∀h:i<(hdr c R 2).length,(hdr c R 2)[i]'h=.own (i+2) 0 c 2:=λh=>Br ((Ab h).symm.trans hgi)
 have e3:∀h:j<(hdr c R 2).length,(hdr c R 2)[j]'h=.own (j+2) 0 c 2:=λh=>Br ((Ab h).symm.trans hgj)
 have e4:∀h:i<(hdr R R (R+3)).length,(hdr R R (R+3))[i]'h=.own (i+(R+3)) 0 R 2:=λh=>Br ((Ab h).symm.trans hui)
 have e5:∀h:j<(hdr R R (R+3)).length,(hdr R R (R+3))[j]'h=.own (j+(R+3)) 0 R 2:=λh=>Br ((Ab h).symm.trans huj)
 have hst:StT (.ptr 0 0) (wR0 R c) (wH R c M U V) [.i .i64 (i:Int),.i .i64 (j:Int)] 123=⟨(StT (.ptr 0 0) (wR0 R c) (wH R c M U V) [.i .i64 (i:Int),.i .i64 (j:Int)] 123).J,aH R c M U V [],3*R+4⟩:=by rw[<-bOe];unfold StT;rw[hl]
 have hself:=λid o=>gE (x:=[]) hs (λo ho=>by cases ho) (H:=aH R c M U V []) (id:=id) (o:=o)
 rw[hst]
 clear hst
 obtain⟨H,hHg⟩:∃H,aH R c M U V []=H:=⟨_,rfl⟩
 obtain⟨cellsM,hcM⟩:∃l,hdr c R 2=l:=⟨_,rfl⟩
 obtain⟨cellsU,hcU⟩:∃l,hdr R R (R+3)=l:=⟨_,rfl⟩
 rw[hHg,hcM]at hHh
 rw[hHg,hcU]at hHu
 rw[hHg]at hHr ⊢
 simp only[hcM]at hgi hgj hgl hm1 e2 e3
 simp only[hcU]at hui huj hul hu1 e4 e5
 have hi1:i+1<=R:=hi
 have hj1:j+1<=R:=hj
 simp[-F,-I,↓KW,StT,hi1,hj1,hHr,hHh,hHu,hgi,hgj,hui,huj,hgl,hul,hm1,hm2,hu1,hu2,hm1l,hu1l,e1,e2,e3,e4,e5,hi,hj]
 have hs':WS R c (swR R c M i j) (swR R R U i j) V:=⟨kS _ _ _,kS _ _ _,hs.v⟩
 refine aP (λy:Nat×List (List Int)=>y.1<=R/\Sh R R y.2/\∀r t,r<R->t<R->ent y.2 r t=swC V i j y.1 r t) (λy=>⟨jO [(0,.ptr 0 0),(1,.d (.i .i64 (i:Int))),(2,.d (.i .i64 (j:Int))),(7,.d (.i .i64 (y.1:Int)))],aH R c (swR R c M i j) (swR R R U i j) y.2 [],3*R+4⟩) (λy=>R-y.1)
  (0,V) ⟨Al _,hs.v,λr t hr ht=>by unfold swC;rw[Ac (by omega)]⟩ ?_ ?_
 ·refine cAk (n:=3*R+3) hs hi hj ?_ ?_ (λid h1 h2=>?_) ?_
  ·simp[upd,hm3]
  ·simp[upd,hu3]
  ·simp only[upd]
   rw[Ac h2,Ac h2,Ac h1,Ac h1,hHg]
  ·have g0:=eS (x:=[]) hs' (id:=0) (by omega)
   have g1:swN R i j 0=0:=by unfold swN;rw[Ac (by omega),Ac (by omega)]
   simp[-F,upd,aO,Γ0,g0,g1]
 ·rintro⟨s,V1⟩ ⟨hsb,hM1,hME⟩
  simp only at hsb hM1 hME
  have hm:(swR R c M i j)=(swR R c M i j):=rfl
  generalize hMg:swR R c M i j=M1 at *
  generalize hUg:swR R R U i j=U1 at *
  have hs0:WS R c M1 U1 V1:=⟨hs'.m,hs'.u,hM1⟩
  have hHr:aH R c M1 U1 V1 [] 0=some (.cells 168 [.d (.i .i64 (R:Int)),.d (.i .i64 (c:Int)),.own 1 0 R 1,.d (.i .i64 (R:Int)),.d (.i .i64 (R:Int)),.own (R+2) 0 R 1,.d (.i .i64 (R:Int)),.d (.i .i64 (R:Int)),.own (2*R+3) 0 R 1]):=rfl
  by_cases hgo:s<R
  ·have q1:(s:Int)<R:=by omega
   have hw:Ag.wrap ((s:Int)+1)=(s:Int)+1:=aV
   have hHh:aH R c M1 U1 V1 [] (2*R+3)=some (.cells 140 (hdr R R (2*R+4))):=bOg hs0
   obtain⟨vs,hvs,hvls,hves⟩:=hM1.get hgo
   have hHs:aH R c M1 U1 V1 [] (s+(2*R+4))=some (.cells 72 ((vcs vs).map .d)):=bOd hs0 hvs
   have hgs:=dZ (c:=R) (b:=(2*R+4)) hgo
   have hggs:∀h:s<(hdr R R (2*R+4)).length,(hdr R R (2*R+4))[s]'h=.own (s+(2*R+4)) 0 R 2:=λh=>Br ((Ab h).symm.trans hgs)
   have hvcs:=gY vs
   rw[hvls]at hvcs
   have hbi:i*2+2<=R*2:=by omega
   have hbj:j*2+2<=R*2:=by omega
   obtain⟨z0,hz0⟩:∃z,ent V1 s i=z:=⟨_,rfl⟩
   obtain⟨z1,hz1⟩:∃z,ent V1 s j=z:=⟨_,rfl⟩
   have hrd0:BB 2 (Cy (i*2) ((vcs vs).map AV.d))=[.d (.b (decide (z0<0))),.d (aM (aU z0.natAbs))]:=by rw[<-hz0,<-hves i,<-Bv,<-BD,iM (z:=vs.getD i 0) (by rw[Af,Ab (by omega)];rfl)];rfl
   have hrd1:BB 2 (Cy (j*2) ((vcs vs).map AV.d))=[.d (.b (decide (z1<0))),.d (aM (aU z1.natAbs))]:=by rw[<-hz1,<-hves j,<-Bv,<-BD,iM (z:=vs.getD j 0) (by rw[Af,Ab (by omega)];rfl)];rfl
   obtain⟨vs1,hvs1⟩:∃v,vs.set i z1=v:=⟨_,rfl⟩
   have hlay:=mC (v:=vs) z1 (j:=i) (by rw[hvls];omega)
   rw[hvs1]at hlay
   have hvls1:vs1.length=R:=by rw[<-hvs1,List.length_set];exact hvls
   have hvcs1:=gY vs1
   rw[hvls1]at hvcs1
   have hlay1:=mC (v:=vs1) z0 (j:=j) (by rw[hvls1];omega)
   have hM2:Sh R R (V1.set s vs1):=by rw[<-hvs1];exact iI hM1 hvs
   have hvs2:(V1.set s vs1)[s]? = some vs1:=List.getElem?_set_self (by rw[hM1.len];exact hgo)
   have hM3:Sh R R ((V1.set s vs1).set s (vs1.set j z0)):=iI hM2 hvs2
   have hs1:WS R c M1 U1 ((V1.set s vs1).set s (vs1.set j z0)):=⟨hs'.m,hs'.u,hM3⟩
   have hs2:WS R c M1 U1 (V1.set s vs1):=⟨hs'.m,hs'.u,hM2⟩
   have hupd:upd (aH R c M1 U1 V1 []) (s+(2*R+4)) (some (.cells 72 ((vcs vs1).map .d)))=aH R c M1 U1 (V1.set s vs1) []:=aDx hs0 hgo
   have hupd2:upd (aH R c M1 U1 (V1.set s vs1) []) (s+(2*R+4)) (some (.cells 72 ((vcs (vs1.set j z0)).map .d)))=aH R c M1 U1 ((V1.set s vs1).set s (vs1.set j z0)) []:=aDx hs2 hgo
   have hgl:=cU R R (2*R+4)
   have k1:s+(2*R+4)≠3*R+4:=by omega
   have k2:2*R+3≠3*R+4:=by omega
   have k3:2*R+3≠s+(2*R+4):=by omega
   have k4:3*R+4≠s+(2*R+4):=by omega
   have k1':¬s+2*R=3*R:=by omega
   have k2':¬2*R=3*R+1:=by omega
   have k3':¬2*R=s+(2*R+1):=by omega
   have k4':¬3*R=s+2*R:=by omega
   obtain⟨H,hHg⟩:∃H,aH R c M1 U1 V1 []=H:=⟨_,rfl⟩
   obtain⟨cells,hc⟩:∃l,hdr R R (2*R+4)=l:=⟨_,rfl⟩
   rw[hHg]at hHr hHh hHs hupd ⊢
   simp only[hc]at hHh hgs hggs hgl
   simp[-F,-I,↓KW,q1,hHr,hHh,hHs,hgs,hggs,hvcs,hvcs1,hi,hj,hbi,hbj,hrd0,hrd1,hlay,hlay1,hgl,hgo,hw,k1,k2,k3,k4,k1',k2',k3',k4',aD,aF,aG,aZ,aW]
   refine aI (s+1,(V1.set s vs1).set s (vs1.set j z0)) ⟨hgo,hM3,λr t hr ht=>?_⟩ (slQ hgo) ?_
   ·have a1:=nL (i:=s) (j:=i) (z:=z1) hM1 hgo hi hvs r t
    rw[hvs1]at a1
    rw[nL hM2 hgo hj hvs2,a1,hME r t hr ht,<-hz0,<-hz1,hME s i hgo hi,hME s j hgo hj]
    unfold swC swp
    by_cases e:r=s
    ·subst e
     simp only[true_and,Nat.lt_irrefl,if_false,AK,if_true]
     by_cases a:t=j
     ·subst a
      rw[Ad rfl]
      by_cases b:t=i
      ·rw[Ad b,b]
      ·rw[Ac b,Ad rfl]
     ·rw[Ac a]
      by_cases b:t=i
      ·rw[Ad b,Ad b]
      ·rw[Ac b,Ac b,Ac a]
    ·simp only[e,false_and,if_false]
     by_cases g:r<s
     ·rw[Ad g,Ad (show r<s+1 by omega)]
     ·rw[Ac g,Ac (show ¬r<s+1 by omega)]
   ·refine⟨_,lH ?_ (λid o' ho=>?_) (λid hid=>iT hs1 hid) (by simp)⟩
    ·have g0:=eS (x:=[]) hs1 (id:=0) (by omega)
     rw[List.set_set]at g0
     simp[-F,upd,aO,Γ0,g0]
    ·have hlt:id<3*R+4:=by have:=(aMz (b:=0) (l:=aL R c M1 U1 ((V1.set s vs1).set s (vs1.set j z0)) []) (id:=id) (by unfold aH at ho;rw[ho];rfl)).2;rw[aHf hs1]at this;simpa using this
     refine⟨o',?_,gE hs1 (λo ho=>by cases ho) ho⟩
     rw[<-hupd2,<-hupd]at ho
     simp only[upd]at ho ⊢
     by_cases e:id=s+(2*R+4)
     ·rw[Ad e]at ho ⊢;exact ho
     ·rw[Ac e,Ac e]at ho
      rw[Ac e,Ac e,Ac (by omega),Ac (by omega)];exact ho
  ·have q1:¬(s:Int)<R:=by omega
   have es:s=R:=by omega
   have hNe:V1=swV R V i j:=tF hM1 λr t hr ht=>by rw[hME r t hr ht,es]
   obtain⟨H,hHg⟩:∃H,aH R c M1 U1 V1 []=H:=⟨_,rfl⟩
   rw[hHg]at hHr
   rw[<-hNe,hHg]
   simp[-F,-I,↓KW,q1,hHr]
   rw[<-hHg]
   exact aXi hs0 (DS _)
def Eu.ok{R c col top i:Nat}{w w':W3}(h:Eu R c col top i w w'):Ok R c w:=by cases h<;>assumption
def Ei.ok{R c col top i:Nat}{w w':W3}(h:Ei R c col top i w w'):Ok R c w:=by
 cases h with
 |done _ _ ok _=>exact ok
 |go _ _ _ _ _ h1 _=>exact h1.ok
def Rd.ok{R c col top i:Nat}{w w':W3}(h:Rd R c col top i w w'):Ok R c w:=by cases h<;>assumption
def Fo.ok{R c col top:Nat}{w w':W3}(h:Fo R c col top w w'):Ok R c w:=by
 cases h with
 |done _ _ _ ok _=>exact ok
 |zero _ _ _ _ _ _ _ h3 _ _=>exact h3.ok
 |piv _ _ _ _ _ _ _ _ h3 _ _ _=>exact h3.ok
def Eu.end{R c col top i:Nat}{w w':W3}(h:Eu R c col top i w w')(h0:ent w.M i col=0):w=w':=by
 cases h with
 |done _ _ _=>rfl
 |go _ _ _ h1 _=>exact absurd h0 h1
def Eu.next{R c col top i:Nat}{w w':W3}(h:Eu R c col top i w w')(h0:ent w.M i col≠0):Eu R c col top i (euS R c col top i w) w':=by
 cases h with
 |done _ _ h1=>exact absurd h1 h0
 |go _ _ _ _ h2=>exact h2
def Eu.less{R c col top i:Nat}{w:W3}(hcol:col<c)(hti:top<i)(hiR:i<R)(hy:ent w.M i col≠0):(ent (euS R c col top i w).M i col).natAbs<(ent w.M i col).natAbs:=by
 have hy1:ent (euS R c col top i w).M i col=ent w.M top col%ent w.M i col:=by rw[aSr (by omega) (by omega) hiR hiR hcol,Ac (by omega),Ad rfl];have:=DZ (ent w.M top col) (ent w.M i col);rw[B7 (ent w.M top col/_)];omega
 have hlt:=Gi (ent w.M top col) hy;have hnn:=Dt (ent w.M top col) hy;rw[hy1];omega
def Ei.end{R c col top i:Nat}{w w':W3}(h:Ei R c col top i w w')(h0:¬i<R):w=w':=by
 cases h with
 |done _ _ _ _=>rfl
 |go _ _ _ _ h1 _ _=>exact absurd h1 h0
def Ei.next{R c col top i:Nat}{w w':W3}(h:Ei R c col top i w w')(h0:i<R):∃w1,Eu R c col top i w w1/\Ei R c col top (i+1) w1 w':=by
 cases h with
 |done _ _ _ h1=>omega
 |go _ _ w1 _ _ h1 h2=>exact⟨w1,h1,h2⟩
def Rd.end{R c col top i:Nat}{w w':W3}(h:Rd R c col top i w w')(h0:¬i<top):w=w':=by
 cases h with
 |done _ _ _ _=>rfl
 |go _ _ _ _ h1 _=>exact absurd h1 h0
def Rd.next{R c col top i:Nat}{w w':W3}(h:Rd R c col top i w w')(h0:i<top):Rd R c col top (i+1) (rdS R c col top i w) w':=by
 cases h with
 |done _ _ _ h1=>omega
 |go _ _ _ _ _ h2=>exact h2
def Fo.end{R c col top:Nat}{w w':W3}(h:Fo R c col top w w')(h0:¬(col<c/\top<R)):w=w':=by
 cases h with
 |done _ _ _ _ _=>rfl
 |zero _ _ _ _ _ h1 h2 _ _ _=>exact absurd ⟨h1,h2⟩ h0
 |piv _ _ _ _ _ _ h1 h2 _ _ _ _=>exact absurd ⟨h1,h2⟩ h0
def Fo.next{R c col top:Nat}{w w':W3}(h:Fo R c col top w w')(h0:col<c/\top<R):∃w1,Ei R c col top (top+1) w w1/\((ent w1.M top col=0/\Fo R c (col+1) top w1 w')\/(ent w1.M top col≠0/\∃w2,Rd R c col top 0 (ngS R c col top w1) w2/\Fo R c (col+1) (top+1) w2 w')):=by
 cases h with
 |done _ _ _ _ h1=>exact absurd h0 h1
 |zero _ _ _ w1 _ _ _ h3 h4 h5=>exact⟨w1,h3,.inl ⟨h4,h5⟩⟩
 |piv _ _ _ w1 w2 _ _ _ h3 h4 h5 h6=>exact⟨w1,h3,.inr ⟨h4,w2,h5,h6⟩⟩
def Rd.col{R c col top i:Nat}{w w':W3}(hcol:col<c)(hR:top<R)(h:Rd R c col top i w w'):∀r,top<=r->r<R->ent w'.M r col=ent w.M r col:=by
 induction h with
 |done _ _ _ _=>intro r _ _;rfl
 |go i w w2 _ h1 _ ih =>
  intro r h2 h3;rw[ih r h2 h3];show ent (rZ R c w.M i top _) r col=_;rw[iS h3 hcol,Ac (by omega)]
def gV{z:Int}(h:Sd z):Sy z:=An h (by decide)
def cEk:HO:=.cells 153 [.d (.i .i64 0),.d (.i .i64 0),.nil,.d (.i .i64 0),.d (.i .i64 0),.nil,.d (.i .i64 0),.d (.i .i64 0),.nil]
def aSp(R c:Nat)(A:List (List Int)):List HO:=[.cells 136 [.d (.i .i64 (R:Int)),.d (.i .i64 (c:Int)),.d (.sl (A.map λv=>[dQ v]))],cEk]
def bLq(R c:Nat)(A:List (List Int)):∀o∈aSp R c A,rfO 0 0 o=true:=by intro o ho;simp only[aSp,AG,EW,EB]at ho;rcases ho with rfl|rfl<;>rfl
def HF.upd{H:Hp}{pre:List HO}{p q r R c n:Nat}{M U V:List (List Int)}{x:Option HO}(h:HF H pre p q r R c M U V)(hs:WS R c M U V)(h0:pre.length+1<p)(h2:p+R<q)(h3:q+R<r)(hn:r+R<n):HF (upd H n x) pre p q r R c M U V:=by
 have hl:∀{c' m:Nat} {N:List (List Int)} {i:Nat} {o:HO},N.length=R->(mB c' N m)[i]? = some o->i<R+1:=λhN h=>by have:=(Ah.1 h).1;rwa [cT,hN]at this
 refine⟨⟨?_,λi o ho=>?_,λi o ho=>?_,λi o ho=>?_⟩,λi o ho=>?_⟩
 ·rw[dX _ _ (by omega)];exact h.w.root
 ·have:=hl hs.m.len ho;rw[dX _ _ (by omega)];exact h.w.m i o ho
 ·have:=hl hs.u.len ho;rw[dX _ _ (by omega)];exact h.w.u i o ho
 ·have:=hl hs.v.len ho;rw[dX _ _ (by omega)];exact h.w.v i o ho
 ·have:=(Ah.1 ho).1;rw[dX _ _ (by omega)];exact h.pre i o ho
def aHa{pre:List HO}{R c:Nat}{M U V:List (List Int)}{H:Hp}(hs:WS R c M U V)(hH:lS pre R c M U V=H):∃p q r,pre.length+1<p/\p+R<q/\q+R<r/\r+R<pre.length+3*R+5/\HF H pre p q r R c M U V :=
 ⟨_,_,_,by omega,by omega,by omega,by omega,hH ▸ aLi hs⟩
def gT{pre:List HO}{p q r R c:Nat}{M U V:List (List Int)}(hpl:pre.length=2)(hs:WS R c M U V):aLg 3 p q r R 1=1/\aLg 3 p q r R 2=2/\aLg 3 p q r R 3=3/\(lS pre R c M U V 1).isSome=true/\(lS pre R c M U V 2).isSome=true/\(lS pre R c M U V 3).isSome=true:=by have hl:=aXw (pre:=pre) hs;exact⟨rfl,rfl,rfl,lN (by omega) (by rw[hl];omega),lN (by omega) (by rw[hl];omega),lN (by omega) (by rw[hl];omega)⟩
def HF.root2{H:Hp}{pre:List HO}{p q r R c:Nat}{M U V:List (List Int)}(h:HF H pre p q r R c M U V)(hpl:pre.length=2) :
  H 3=some (.cells 168 [.d (.i .i64 (R:Int)),.d (.i .i64 (c:Int)),.own p 0 R 1,.d (.i .i64 (R:Int)),.d (.i .i64 (R:Int)),.own q 0 R 1,.d (.i .i64 (R:Int)),.d (.i .i64 (R:Int)),.own r 0 R 1]):=by
 have:=h.w.root
 rwa [hpl]at this
structure Rdg(H:Hp)(p R c i s:Nat)(z:Int):Prop where
 hd:∃v:List Int,H (i+(p+1))=some (.cells 72 ((vcs v).map .d))/\(vcs v).length=c*2/\BB 2 (Cy (s*2) ((vcs v).map AV.d))=[.d (.b (decide (z<0))),.d (aM (aU z.natAbs))]
def HF.rd{H:Hp}{pre:List HO}{p q r R c i s:Nat}{M U V:List (List Int)}(h:HF H pre p q r R c M U V)(hs:WS R c M U V)(hi:i<R)(hc:s<c):Rdg H p R c i s (ent M i s):=by obtain⟨v,hv,hl,he⟩:=hs.m.get hi;have h2:=gY v;refine⟨v,h.w.rowM hv,by rw[h2,hl],?_⟩;rw[<-he s,<-Bv,<-BD,iM (z:=v.getD s 0) (by rw[Af,Ab (by omega)];rfl)];rfl
def vQ{P:Program}{dst:Option Tmp}{ty:TypeId}{pos:String}{after:Array Edge}{guard:Option (Nat×Bool)}{σ:St}{k:St->List Nat->Prop}{f:FuncId}{x:Operand}{rest:List Operand}{ts:Array TypeId}
  {d:Dm ((⟨dst,.call ⟨.value (.func f),(x::rest).toArray,ts⟩,ty,pos,after,guard⟩:Oper),k)} {pre:List HO} {p q r R c:Nat} {w w':W3} {ds:List D} {K:St->Prop} {dm:Dm K} (hkk:∀σ' con',k σ' con'=aIj σ' con' K dm) (hm:bB P f=true) (hx:oev σ.J x=.ptr (pre.length+1) 0)
  (hF:HF σ.H pre p q r R c w.M w.U w.V) (hpre:∀o∈pre,rfO 0 0 o=true) (hs:w.sh R c) (h1:pre.length+1<p) (h2:p+R<q) (h3:q+R<r) (h4:r+R<σ.n) (hvis:fK σ.H (rest.map (oev σ.J))=[]) (hfr:fW σ.H (rest.map (oev σ.J))=some ds)
  (hs':w'.sh R c) (hsp:aAc P f (.ptr 0 0) (wR0 R c) (wH R c w.M w.U w.V) ds (wR0 R c) (wH R c w'.M w'.U w'.V) (.tp []))
  (hk:∀(l:List Nat) (H':Hp) (p' q' r' n':Nat),(∀id,id<=pre.length+1->¬id∈l)->pre.length+1<p'->p'+R<q'->q'+R<r'->r'+R<n'->HF H' pre p' q' r' R c w'.M w'.U w'.V->K ⟨λt=>lJ l (bT σ.J dst (inj (.tp [])) t),H',n'⟩):O1d P ⟨dst,.call ⟨.value (.func f),(x::rest).toArray,ts⟩,ty,pos,after,guard⟩ σ [] k d:=by
 refine bIk (b:=pre.length+1) hm (by omega) hx hF.w hs h1 h2 h3 hvis hfr hs' hsp ?_
 rw[hkk,bTo _ (bYe _ _),A7]
 refine hk _ _ σ.n (σ.n+R+1) (σ.n+2*R+2) _ (λid hid hm=>?_) (by omega) (by omega) (by omega) (by simp only;omega) (HF.call hF hs' h1 h2 h3 h4 hpre)
 have:=bVj h1 h2 h3 h4 hm
 omega
def aMw{H:Hp}{R c p:Nat}{M:List (List Int)}(k:Nat)(hM:Sh R c M)(h:∀(i:Nat) o,(mB c M p)[i]? = some o->H (i+p)=some o):frz H (k+3) (.own p 0 R 1)=some (.sl (M.map λv=>[dQ v])):=by
 have h0:H p=some (.cells 140 (hdr c R (p+1))):=by have:=h 0 _ rfl;rwa [A6,hM.len]at this
 rw[bLm,h0];simp only[A6,DE,cU,Cn,List.drop_zero];rw[Ad ⟨Ap _,by decide⟩,Ai (by rw[cU];exact Ap _)];rw[mapM_some (frz H (k+2)) (λi=>dQ (M.getD i [])) _ λi x hx=>?_]
 ·simp only[A4,cU];congr 2;unfold chunk;refine EV (by simp[hM.len]) λi a1 a2=>?_
  have hi:i<R:=by simpa using a1
  have hiM:i<M.length:=by rw[hM.len];exact hi
  simp only[ER,List.getElem_range,DE];rw[AP (by simpa using hi)];simp only[ER,List.getElem_range,List.take_succ_cons,Cc];rw[Af,Ab hiM];rfl
 ·have hi:i<R:=by have:=(Ah.1 hx).1;rwa [cU]at this
  rw[dZ hi]at hx;injection hx with hx;subst hx
  have hiM:i<M.length:=by rw[hM.len];exact hi
  rw[Af,Ab hiM,Bd];have:=h (i+1) (aCo M[i]) (by simp only[mB,Bg,Aw,Ab hiM,A4]);exact bLl k (by rwa [show i+1+p=i+(p+1)by omega]at this) (hM.row _ (Ar hiM))
def aGp(R c:Nat)(w:W3):D:=.ag [.i .i64 (R:Int),.i .i64 (c:Int),.sl (w.M.map λv=>[dQ v]),.i .i64 (R:Int),.i .i64 (R:Int),.sl (w.U.map λv=>[dQ v]),.i .i64 (R:Int),.i .i64 (R:Int),.sl (w.V.map λv=>[dQ v])]
def aQc(x y:Int)(hy:y≠0)(hx:Sd x)(hyl:Sd y):Spec Aa 105 [encZ x,encZ y] (encZ (x/y)):=by refine bF (N:=16) Tryz.func105 ?_;have h:=aJa x y hy hx hyl;simp[-F,-I,↓KW,aY,aD,aF,aG,aZ,aW];refine aJ h ?_;rw[aY,aY];simp[-F,-I,↓KW,aY,aD,aF,aG,aZ,aW]
def aYk{R c:Nat}{A:List (List Int)}{wf:W3}(hA:Sh R c A)(hR:R<=15)(hc:c<=1000)(hAs:∀v∈A,∀z∈v,Sz z)(hFo:Fo R c 0 0 ⟨A,idM R,idM R⟩ wf) :
  Spec Aa 91 [eQ R c A] (aGp R c wf):=by
 refine bF (N:=173) Tryz.func91 ?_
 have hst:=bHw hA (by omega) hc hAs
 have hH0:gJ (upd (upd (λ_=>none) 1 (some (.cells 136 [.d (.i .i64 (R:Int)),.d (.i .i64 (c:Int)),.d (.sl (A.map λv=>[dQ v]))]))) 2 (some (.cells 153 [.d (.i .i64 0),.d (.i .i64 0),.nil,.d (.i .i64 0),.d (.i .i64 0),.nil,.d (.i .i64 0),.d (.i .i64 0),.nil]))) 3 (xC R c A (idM R) (idM R) 3)=lS (aSp R c A) R c A (idM R) (idM R):=by rw[aZv,aDt (n:=3) rfl];have e1:(aSp R c A).length=2:=rfl;unfold lS wFl xC;rw[e1,show 3+1=2+2 by omega,show 3+R+2=2+R+3 by omega,show 3+2*R+3=2+2*R+4 by omega];rfl
 have hlo:(xC R c A (idM R) (idM R) 3).length=3*R+4:=aOf ⟨hA,kS _ _ _,kS _ _ _⟩ 3
 obtain⟨pre,hpre⟩:∃l,aSp R c A=l:=⟨_,rfl⟩
 have hpl:pre.length=2:=by rw[<-hpre];rfl
 have hprf:∀o∈pre,rfO 0 0 o=true:=by rw[<-hpre];exact bLq R c A
 have hp1:pre[0]? = some (.cells 136 [.d (.i .i64 (R:Int)),.d (.i .i64 (c:Int)),.d (.sl (A.map λv=>[dQ v]))]):=by rw[<-hpre];rfl
 have hp2:pre[1]? = some (.cells 153 [.d (.i .i64 0),.d (.i .i64 0),.nil,.d (.i .i64 0),.d (.i .i64 0),.nil,.d (.i .i64 0),.d (.i .i64 0),.nil]):=by rw[<-hpre];rfl
 rw[hpre]at hH0
 obtain⟨w0,hw0⟩:∃w:W3,⟨A,idM R,idM R⟩=w:=⟨_,rfl⟩
 have hM0:w0.M=A:=by rw[<-hw0]
 have hU0:w0.U=idM R:=by rw[<-hw0]
 have hV0:w0.V=idM R:=by rw[<-hw0]
 rw[hw0]at hFo
 have hH1:lS pre R c A (idM R) (idM R)=lS pre R c w0.M w0.U w0.V:=by rw[hM0,hU0,hV0]
 rw[hH1]at hH0
 simp[-F,-I,↓KW,eQ]
 refine iO [eQ R c A] (λm=>.ptr m 0) (xC R c A (idM R) (idM R)) (by simp) (by simp) (by simp) (by rfl) (by rfl) hst ?_
 simp[-F,-I,↓KW,hH0,hlo]
 refine aP (λx:Nat×Nat×W3×(Hp)=>Fo R c x.1 x.2.1 x.2.2.1 wf/\x.1<=c/\x.2.1<=R/\lS pre R c x.2.2.1.M x.2.2.1.U x.2.2.1.V=x.2.2.2) (λx=>⟨jO [(1,.ptr 1 0),(2,.ptr 2 0),(3,.ptr 3 0),(4,.d (.i .i64 (x.2.1:Int))),(5,.d (.i .i64 (x.1:Int)))],x.2.2.2,3+3*R+4⟩) (λx=>c-x.1) (0,0,w0,lS pre R c w0.M w0.U w0.V) ⟨hFo,Al _,Al _,rfl⟩ ?_ ?_
 ·have hs:=hFo.ok.sh
  obtain⟨g1,g2,g3,s1,s2,s3⟩:=gT (p:=pre.length+2) (q:=pre.length+R+3) (r:=pre.length+2*R+4) hpl hs
  refine mW (aLi hs) hs (by omega) (by omega) (by omega) (by omega) hprf ?_
  simp[-F,upd,aO,Γ0,g1,g2,g3,s1,s2,s3]
 ·rintro⟨col,top,w,H⟩ ⟨hf,hcb,htb,hHg⟩
  simp only at hf hcb htb hHg
  have hs:=hf.ok.sh
  refine(aHa (pre:=pre) hs hHg).elim λp hh=>hh.elim λq hh=>hh.elim λr hh=>?_
  have h1:=hh.1
  have h2:=hh.2.1
  have h3:=hh.2.2.1
  have h4:=hh.2.2.2.1
  have hF:=hh.2.2.2.2
  rw[hpl]at h1 h4
  clear hh
  have hH1:H 1=_:=hF.pre 0 _ hp1
  have hH2:H 2=_:=hF.pre 1 _ hp2
  have hH3:=hF.root2 hpl
  by_cases hgo:col<c/\top<R
  ·have q1:(col:Int)<c:=by omega
   have q2:(top:Int)<R:=by omega
   have hw1:Ag.wrap ((top:Int)+1)=(top:Int)+1:=aV
   have hw2:Ag.wrap ((col:Int)+1)=(col:Int)+1:=aV
   refine(hf.next hgo).elim λw1 hw=>?_
   have hei:=hw.1
   have hrest:=hw.2
   simp[-F,-I,↓KW,q1,q2,hgo.1,hgo.2,hH1,hw1]
   refine aP (λx:Nat×W3×(Hp)=>Ei R c col top x.1 x.2.1 w1/\top<x.1/\x.1<=R/\lS pre R c x.2.1.M x.2.1.U x.2.1.V=x.2.2) (λx=>⟨jO [(1,.ptr 1 0),(2,.ptr 2 0),(3,.ptr 3 0),(4,.d (.i .i64 (top:Int))),(5,.d (.i .i64 (col:Int))),(6,.d (.i .i64 (x.1:Int)))],x.2.2,3+3*R+4⟩) (λx=>R-x.1) (top+1,w,H) ⟨hei,AK _,hgo.2,hHg⟩ ?_ ?_
   ·obtain⟨g1,g2,g3,s1,s2,s3⟩:=gT (p:=p) (q:=q) (r:=r) hpl hs
    subst hHg
    refine mW hF hs (by omega) (by omega) h2 h3 hprf ?_
    simp[-F,upd,aO,Γ0,g1,g2,g3,s1,s2,s3]
   ·clear hei hH1 hH2 hH3 hF hHg h1 h2 h3 h4 hs
    rintro⟨i,w,H⟩ ⟨hei,hti,hiR,hHg⟩
    simp only at hei hti hiR hHg
    have hs:=hei.ok.sh
    refine(aHa (pre:=pre) hs hHg).elim λp hh=>hh.elim λq hh=>hh.elim λr hh=>?_
    have h1:=hh.1
    have h2:=hh.2.1
    have h3:=hh.2.2.1
    have h4:=hh.2.2.2.1
    have hF:=hh.2.2.2.2
    rw[hpl]at h1 h4
    clear hh
    have hH1:H 1=_:=hF.pre 0 _ hp1
    have hH2:H 2=_:=hF.pre 1 _ hp2
    have hH3:=hF.root2 hpl
    by_cases hi:i<R
    ·have q3:(i:Int)<R:=by omega
     have hw3:Ag.wrap ((i:Int)+1)=(i:Int)+1:=aV
     refine(hei.next hi).elim λw2 hw=>?_
     have heu:=hw.1
     have hei2:=hw.2
     simp[-F,-I,↓KW,q3,hi,hH1]
     refine aP (λx:W3×(Hp)=>Eu R c col top i x.1 w2/\lS pre R c x.1.M x.1.U x.1.V=x.2) (λx=>⟨jO [(1,.ptr 1 0),(2,.ptr 2 0),(3,.ptr 3 0),(4,.d (.i .i64 (top:Int))),(5,.d (.i .i64 (col:Int))),(6,.d (.i .i64 (i:Int)))],x.2,3+3*R+4⟩) (λx=>(ent x.1.M i col).natAbs) (w,H) ⟨heu,hHg⟩ ?_ ?_
     ·obtain⟨g1,g2,g3,s1,s2,s3⟩:=gT (p:=p) (q:=q) (r:=r) hpl hs
      subst hHg
      refine mW hF hs (by omega) (by omega) h2 h3 hprf ?_
      simp[-F,upd,aO,Γ0,g1,g2,g3,s1,s2,s3]
     ·clear heu hH1 hH2 hH3 hF hHg h1 h2 h3 h4 hs
      rintro⟨w,H⟩ ⟨heu,hHg⟩
      simp only at heu hHg
      have ok:=heu.ok
      have hs:=ok.sh
      refine(aHa (pre:=pre) hs hHg).elim λp hh=>hh.elim λq hh=>hh.elim λr hh=>?_
      have h1:=hh.1
      have h2:=hh.2.1
      have h3:=hh.2.2.1
      have h4:=hh.2.2.2.1
      have hF:=hh.2.2.2.2
      rw[hpl]at h1 h4
      clear hh
      have hH3:=hF.root2 hpl
      have hHd:=hF.w.hdrM hs
      have hgi:=dZ (c:=c) (b:=p+1) hi
      have hgt:=dZ (c:=c) (b:=p+1) hgo.2
      have hgl:=cU c R (p+1)
      refine exE (hdr c R (p+1)) λcells hcl=>?_
      rw[hcl]at hHd hgi hgt hgl
      have hggi:∀h:i<cells.length,cells[i]'h=.own (i+(p+1)) 0 c 2:=λh=>Br ((Ab h).symm.trans hgi)
      have hggt:∀h:top<cells.length,cells[top]'h=.own (top+(p+1)) 0 c 2:=λh=>Br ((Ab h).symm.trans hgt)
      refine(hF.rd hs hi hgo.1).hd.elim λvi hh=>?_
      have hHi:=hh.1
      have hvi:=hh.2.1
      have hri:=hh.2.2
      clear hh
      refine(hF.rd hs hgo.2 hgo.1).hd.elim λvt hh=>?_
      have hHt:=hh.1
      have hvt:=hh.2.1
      have hrt:=hh.2.2
      clear hh
      have hbc:col*2+2<=c*2:=by omega
      have hg1:=hgo.1
      have hg2:=hgo.2
      have hsgi:=fH (ent w.M i col)
      have hsgt:=fH (ent w.M top col)
      refine exE (ent w.M i col) λy hy=>?_
      refine exE (ent w.M top col) λx hx=>?_
      rw[hy]at hri hsgi
      rw[hx]at hrt hsgt
      by_cases hy0:y=0
      ·have hys:(y.sign != 0)=false:=by simp[hy0]
       have e:=heu.end (hy.trans hy0)
       simp[-F,-I,↓KW,hH3,hHd,hgi,hgt,hgl,hggi,hggt,hHi,hHt,hvi,hvt,hri,hrt,hbc,hg1,hg2,hi,hys,aD,aF,aG,aZ,aW]
       refine aJ hsgi ?_
       simp[-F,-I,↓KW,hH3,hHd,hgi,hgt,hgl,hggi,hggt,hHi,hHt,hvi,hvt,hri,hrt,hbc,hg1,hg2,hi,hys,aD,aF,aG,aZ,aW,hw3]
       refine aI (i+1,w,H) ⟨e ▸ hei2,by omega,hi,hHg⟩ (by omega) ?_
       subst hHg
       have e:=gT (p:=p) (q:=q) (r:=r) hpl hs
       refine mW hF hs (by omega) (by omega) h2 h3 hprf ?_
       simp[-F,upd,aO,Γ0,e.1,e.2.1,e.2.2.1,e.2.2.2.1,e.2.2.2.2.1,e.2.2.2.2.2]
      ·have hys:(y.sign != 0)=true:=by simp[hy0]
       simp[-F,-I,↓KW,hH3,hHd,hgi,hgt,hgl,hggi,hggt,hHi,hHt,hvi,hvt,hri,hrt,hbc,hg1,hg2,hi,hys,aD,aF,aG,aZ,aW]
       refine aJ hsgi ?_
       simp[-F,-I,↓KW,hH3,hHd,hgi,hgt,hgl,hggi,hggt,hHi,hHt,hvi,hvt,hri,hrt,hbc,hg1,hg2,hi,hys,aD,aF,aG,aZ,aW]
       refine aJ hsgt ?_
       by_cases hx0:x=0
       ·have hxs:(x.sign != 0)=false:=by simp[hx0]
        have hsw:=aYi hs (by omega) hc hgo.2 hi
        have hS:euS R c col top i w=w.sw R c top i:=by unfold euS euT;rw[Ad (hx.trans hx0)]
        have heu2:=heu.next (λh=>hy0 (hy.symm.trans h))
        have hless:=Eu.less (w:=w) hgo.1 hti hi (λh=>hy0 (hy.symm.trans h))
        rw[hS]at heu2 hless
        simp[-F,-I,↓KW,hH3,hHd,hgi,hgt,hgl,hggi,hggt,hHi,hHt,hvi,hvt,hri,hrt,hbc,hg1,hg2,hi,hys,aD,aF,aG,aZ,aW,hxs]
        refine vQ (pre:=pre) (w:=w) (w':=w.sw R c top i) (λ_ _=>by first|rfl|exact qJ _ _ _ _ _) (by simp) (by rw[hpl];rfl) hF hprf hs (by omega) h2 h3 (by simp only;omega) (by rfl) (by rfl) (W3.sw_sh ..) hsw ?_
        intro l H' p' q' r' n' hl g1 g2 g3 g4 hF'
        have hl1:=hl 1 (by omega)
        have hl2:=hl 2 (by omega)
        have hl3:=hl 3 (by omega)
        refine aI (w.sw R c top i,lS pre R c (w.sw R c top i).M (w.sw R c top i).U (w.sw R c top i).V) ⟨heu2,rfl⟩ hless ?_
        have e:=gT (p:=p') (q:=q') (r:=r') hpl (W3.sw_sh R c w top i)
        refine mW hF' (W3.sw_sh R c w top i) (by omega) (by omega) g2 g3 hprf ?_
        simp[-F,upd,aO,Γ0,e.1,e.2.1,e.2.2.1,e.2.2.2.1,e.2.2.2.2.1,e.2.2.2.2.2,hl1,hl2,hl3]
       ·have hxs:(x.sign != 0)=true:=by simp[hx0]
        simp[-F,-I,↓KW,hH3,hHd,hgi,hgt,hgl,hggi,hggt,hHi,hHt,hvi,hvt,hri,hrt,hbc,hg1,hg2,hi,hys,aD,aF,aG,aZ,aW,hxs]
        have hq:=aJa x y hy0 (by rw[<-hx];exact ok.m _ _) (by rw[<-hy];exact ok.m _ _)
        have hqs:Sd (x/y):=An (fC (D5 x y)) (by rw[<-hx];exact ok.m _ _)
        have hS:euS R c col top i w=(w.add R c top i (-(x/y))).sw R c top i:=by unfold euS euT;rw[Ac (λh=>hx0 (hx.symm.trans h)),hx,hy]
        have heu2:=heu.next (λh=>hy0 (hy.symm.trans h))
        have hless:=Eu.less (w:=w) hgo.1 hti hi (λh=>hy0 (hy.symm.trans h))
        rw[hS]at heu2 hless
        refine exE (x/y) λqq hqq=>?_
        refine exE (x%y) λrr hrr=>?_
        rw[hqq,hrr]at hq
        rw[hqq]at hqs heu2 hless
        have hng:=nH qq (An hqs (by decide))
        have hsn:Sd (-qq):=by unfold Sd;rw[CT];exact hqs
        refine exE (-qq) λnq hnq=>?_
        rw[hnq]at hng hsn heu2 hless
        have hs2:(w.add R c top i nq).sh R c:=W3.add_sh ..
        have had:=aEw hs (by omega) hc hgo.2 hi (gV hsn) (λr t=>gV (ok.m r t)) (λr t=>gV (ok.u r t)) (λr t=>gV (ok.v r t))
        have hsw:=aYi hs2 (by omega) hc hgo.2 hi
        refine aJ hq ?_
        simp[-F,-I,↓KW,aY,hH3,hHd,hgi,hgt,hgl,hggi,hggt,hHi,hHt,hvi,hvt,hri,hrt,hbc,hg1,hg2,hi,hys,aD,aF,aG,aZ,aW]
        refine aJ hng ?_
        simp[-F,-I,↓KW,aY,hH3,hHd,hgi,hgt,hgl,hggi,hggt,hHi,hHt,hvi,hvt,hri,hrt,hbc,hg1,hg2,hi,hys,aD,aF,aG,aZ,aW]
        refine vQ (pre:=pre) (w:=w) (w':=w.add R c top i nq) (ds:=[.i .i64 (top:Int),.i .i64 (i:Int),encZ nq]) (λ_ _=>by first|rfl|exact qJ _ _ _ _ _) (by simp) (by rw[hpl];rfl) ((((hF.upd hs (by omega) h2 h3 (by omega)).upd hs (by omega) h2 h3 (by omega)).upd hs (by omega) h2 h3 (by omega)).upd hs (by omega) h2 h3 (by omega)) hprf hs (by omega) h2 h3 (by simp only;omega) (by rfl) (by rfl) hs2 had ?_
        intro l H' p' q' r' n' hl g1 g2 g3 g4 hF'
        have hl1:=hl 1 (by omega)
        have hl2:=hl 2 (by omega)
        have hl3:=hl 3 (by omega)
        simp[-F,-I,↓KW,hl1,hl2,hl3]
        refine vQ (pre:=pre) (w:=w.add R c top i nq) (w':=(w.add R c top i nq).sw R c top i) (ds:=[.i .i64 (top:Int),.i .i64 (i:Int)]) (λ_ _=>by first|rfl|exact qJ _ _ _ _ _) (by simp) (by rw[hpl];rfl) hF' hprf hs2 (by omega) g2 g3 g4 (by rfl) (by rfl) (W3.sw_sh ..) hsw ?_
        intro l2 H2 p2 q2 r2 n2 kl k1 k2 k3 k4 kF
        have kl1:=kl 1 (by omega)
        have kl2:=kl 2 (by omega)
        have kl3:=kl 3 (by omega)
        refine aI ((w.add R c top i nq).sw R c top i,lS pre R c ((w.add R c top i nq).sw R c top i).M ((w.add R c top i nq).sw R c top i).U ((w.add R c top i nq).sw R c top i).V) ⟨heu2,rfl⟩ hless ?_
        have e:=gT (p:=p2) (q:=q2) (r:=r2) hpl (W3.sw_sh R c (w.add R c top i nq) top i)
        refine mW kF (W3.sw_sh R c (w.add R c top i nq) top i) (by omega) (by omega) k2 k3 hprf ?_
        simp[-F,upd,aO,Γ0,e.1,e.2.1,e.2.2.1,e.2.2.2.1,e.2.2.2.2.1,e.2.2.2.2.2,hl1,hl2,hl3,kl1,kl2,kl3]
    ·have hq3:¬(i:Int)<R:=by omega
     have e:=hei.end hi
     have ok:=hei.ok
     have hHd:=hF.w.hdrM hs
     have hgt:=dZ (c:=c) (b:=p+1) hgo.2
     have hgl:=cU c R (p+1)
     refine exE (hdr c R (p+1)) λcells hcl=>?_
     rw[hcl]at hHd hgt hgl
     have hggt:∀h:top<cells.length,cells[top]'h=.own (top+(p+1)) 0 c 2:=λh=>Br ((Ab h).symm.trans hgt)
     refine(hF.rd hs hgo.2 hgo.1).hd.elim λvt hh=>?_
     have hHt:=hh.1
     have hvt:=hh.2.1
     have hrt:=hh.2.2
     clear hh
     have hbc:col*2+2<=c*2:=by omega
     have hg1:=hgo.1
     have hg2:=hgo.2
     have hsgt:=fH (ent w.M top col)
     have hrest':=hrest
     rw[<-e]at hrest'
     refine exE (ent w.M top col) λx hx=>?_
     rw[hx]at hrt hsgt hrest'
     simp[-F,-I,↓KW,hq3,hi,hH1]
     simp[-F,-I,↓KW,hH3,hHd,hgt,hgl,hggt,hHt,hvt,hrt,hbc,hg1,hg2,aD,aF,aG,aZ,aW]
     refine aJ hsgt ?_
     by_cases hx0:x=0
     ·have hxs:(x.sign==0)=true:=by simp[hx0]
      have hfo:=(hrest'.resolve_right λh=>h.1 hx0).2
      simp[-F,-I,↓KW,hH3,hHd,hgt,hgl,hggt,hHt,hvt,hrt,hbc,hg1,hg2,aD,aF,aG,aZ,aW,hxs,hw2]
      refine aI (col+1,top,w,H) ⟨hfo,hgo.1,htb,hHg⟩ (by omega) ?_
      subst hHg
      have e:=gT (p:=p) (q:=q) (r:=r) hpl hs
      refine mW hF hs (by omega) (by omega) h2 h3 hprf ?_
      simp[-F,upd,aO,Γ0,e.1,e.2.1,e.2.2.1,e.2.2.2.1,e.2.2.2.2.1,e.2.2.2.2.2]
     ·have hxs:(x.sign==0)=false:=by simp[hx0]
      refine(hrest'.resolve_left λh=>hx0 h.1).2.elim λw2 hh=>?_
      have hrd0:=hh.1
      have hfo:=hh.2
      clear hh
      simp[-F,-I,↓KW,hH3,hHd,hgt,hgl,hggt,hHt,hvt,hrt,hbc,hg1,hg2,aD,aF,aG,aZ,aW,hxs]
      refine aJ hsgt ?_
      by_cases hxn:x<0
      ·have hxl:x.sign<0:=by rw[Int.sign_eq_neg_one_of_neg hxn];decide
       have hng:=bBz hs (by omega) hc hgo.2 (λr t=>gV (ok.m r t)) (λr t=>gV (ok.u r t)) (λr t=>gV (ok.v r t))
       have hS:ngS R c col top w=w.ng R c top:=by unfold ngS;rw[hx,Ad hxn]
       have hx1:ent (w.ng R c top).M top col≠0:=by have:=aMo (w:=w) hgo.1 hgo.2 hgo.2;rw[hS,hx]at this;exact λh=>hx0 (this.1 h)
       rw[hS]at hrd0
       simp[-F,-I,↓KW,hH3,hHd,hgt,hgl,hggt,hHt,hvt,hrt,hbc,hg1,hg2,aD,aF,aG,aZ,aW,hxl]
       refine vQ (pre:=pre) (w:=w) (w':=w.ng R c top) (ds:=[.i .i64 (top:Int)]) (λ_ _=>by first|rfl|exact qJ _ _ _ _ _) (by simp) (by rw[hpl];rfl) hF hprf hs (by omega) h2 h3 (by simp only;omega) (by rfl) (by rfl) (W3.ng_sh ..) hng ?_
       intro l H' p' q' r' n' hl g1 g2 g3 g4 hF'
       have hl1:=hl 1 (by omega)
       have hl2:=hl 2 (by omega)
       have hl3:=hl 3 (by omega)
       simp[-F,-I,↓KW,hl1,hl2,hl3]
       refine aP (λx:Nat×W3×(Hp)=>Rd R c col top x.1 x.2.1 w2/\x.1<=top/\ent x.2.1.M top col≠0/\lS pre R c x.2.1.M x.2.1.U x.2.1.V=x.2.2) (λx=>⟨jO [(1,.ptr 1 0),(2,.ptr 2 0),(3,.ptr 3 0),(4,.d (.i .i64 (top:Int))),(5,.d (.i .i64 (col:Int))),(10,.d (.i .i64 (x.1:Int)))],x.2.2,3+3*R+4⟩) (λx=>top-x.1) (0,w.ng R c top,lS pre R c (w.ng R c top).M (w.ng R c top).U (w.ng R c top).V) ⟨hrd0,Al _,hx1,rfl⟩ ?_ ?_
       ·have e:=gT (p:=p') (q:=q') (r:=r') hpl (W3.ng_sh R c w top)
        refine mW hF' (W3.ng_sh R c w top) (by omega) (by omega) g2 g3 hprf ?_
        simp[-F,upd,aO,Γ0,e.1,e.2.1,e.2.2.1,e.2.2.2.1,e.2.2.2.2.1,e.2.2.2.2.2,hl1,hl2,hl3]
       ·clear hH3 hHd hgt hgl hggt hHt hvt hrt hF h1 h2 h3 h4 hs hHg hx hsgt hei
        rintro⟨i,w,H⟩ ⟨hrd,hit,hxc,hHg⟩
        simp only at hrd hit hxc hHg
        have ok:=hrd.ok
        have hs:=ok.sh
        refine(aHa (pre:=pre) hs hHg).elim λp hh=>hh.elim λq hh=>hh.elim λr hh=>?_
        have h1:=hh.1
        have h2:=hh.2.1
        have h3:=hh.2.2.1
        have h4:=hh.2.2.2.1
        have hF:=hh.2.2.2.2
        rw[hpl]at h1 h4
        clear hh
        have hH3:=hF.root2 hpl
        by_cases hig:i<top
        ·have q5:(i:Int)<top:=by omega
         have hi:i<R:=by omega
         have hw5:Ag.wrap ((i:Int)+1)=(i:Int)+1:=aV
         have hHd:=hF.w.hdrM hs
         have hgi:=dZ (c:=c) (b:=p+1) hi
         have hgt:=dZ (c:=c) (b:=p+1) hgo.2
         have hgl:=cU c R (p+1)
         refine exE (hdr c R (p+1)) λcells hcl=>?_
         rw[hcl]at hHd hgi hgt hgl
         have hggi:∀h:i<cells.length,cells[i]'h=.own (i+(p+1)) 0 c 2:=λh=>Br ((Ab h).symm.trans hgi)
         have hggt:∀h:top<cells.length,cells[top]'h=.own (top+(p+1)) 0 c 2:=λh=>Br ((Ab h).symm.trans hgt)
         refine(hF.rd hs hi hgo.1).hd.elim λvi hh=>?_
         have hHi:=hh.1
         have hvi:=hh.2.1
         have hri:=hh.2.2
         clear hh
         refine(hF.rd hs hgo.2 hgo.1).hd.elim λvt hh=>?_
         have hHt:=hh.1
         have hvt:=hh.2.1
         have hrt:=hh.2.2
         clear hh
         have hnext:=hrd.next hig
         have hxn:ent (rdS R c col top i w).M top col≠0:=by show ent (rZ R c w.M i top _) top col≠0;rw[iS hgo.2 hgo.1,Ac (by omega)];exact hxc
         have hS:rdS R c col top i w=w.add R c i top (-(ent w.M i col/ent w.M top col)):=rfl
         have hyd:Sd (ent w.M i col):=ok.m i col
         have hxd:Sd (ent w.M top col):=ok.m top col
         have hqs:Sd (ent w.M i col/ent w.M top col):=An (fC (D5 _ _)) hyd
         have hfl:=aQc (ent w.M i col) (ent w.M top col) hxc hyd hxd
         have hng:=nH (ent w.M i col/ent w.M top col) (An hqs (by decide))
         refine exE (-(ent w.M i col/ent w.M top col)) λnq hnq=>?_
         have hsn:Sd nq:=by rw[<-hnq];unfold Sd;rw[CT];exact hqs
         rw[hnq]at hng hS
         rw[hS]at hnext hxn
         refine exE (ent w.M i col/ent w.M top col) λqq hqq=>?_
         rw[hqq]at hng hfl
         refine exE (ent w.M i col) λy hy=>?_
         refine exE (ent w.M top col) λx hx=>?_
         rw[hy]at hri hfl
         rw[hx]at hrt hfl
         have hs2:(w.add R c i top nq).sh R c:=W3.add_sh ..
         have had:=aEw hs (by omega) hc hi hgo.2 (gV hsn) (λr t=>gV (ok.m r t)) (λr t=>gV (ok.u r t)) (λr t=>gV (ok.v r t))
         have hbc:col*2+2<=c*2:=by omega
         have hg1:=hgo.1
         have hg2:=hgo.2
         simp[-F,-I,↓KW,q5,hig,hH3,hHd,hgi,hgt,hgl,hggi,hggt,hHi,hHt,hvi,hvt,hri,hrt,hbc,hg1,hg2,hi,aD,aF,aG,aZ,aW]
         refine aJ hfl ?_
         simp[-F,-I,↓KW,aY,hH3,hHd,hgi,hgt,hgl,hggi,hggt,hHi,hHt,hvi,hvt,hri,hrt,hbc,hg1,hg2,hi,aD,aF,aG,aZ,aW]
         refine aJ hng ?_
         simp[-F,-I,↓KW,aY,hH3,hHd,hgi,hgt,hgl,hggi,hggt,hHi,hHt,hvi,hvt,hri,hrt,hbc,hg1,hg2,hi,aD,aF,aG,aZ,aW]
         refine vQ (pre:=pre) (w:=w) (w':=w.add R c i top nq) (ds:=[.i .i64 (i:Int),.i .i64 (top:Int),encZ nq]) (λ_ _=>by first|rfl|exact qJ _ _ _ _ _) (by simp) (by rw[hpl];rfl) hF hprf hs (by omega) h2 h3 (by simp only;omega) (by rfl) (by rfl) hs2 had ?_
         intro l H' p' q' r' n' hl g1 g2 g3 g4 hF'
         have hl1:=hl 1 (by omega)
         have hl2:=hl 2 (by omega)
         have hl3:=hl 3 (by omega)
         simp[-F,-I,↓KW,hl1,hl2,hl3,hw5]
         refine aI (i+1,w.add R c i top nq,lS pre R c (w.add R c i top nq).M (w.add R c i top nq).U (w.add R c i top nq).V) ⟨hnext,hig,hxn,rfl⟩ (by omega) ?_
         have e:=gT (p:=p') (q:=q') (r:=r') hpl hs2
         refine mW hF' hs2 (by omega) (by omega) g2 g3 hprf ?_
         simp[-F,upd,aO,Γ0,e.1,e.2.1,e.2.2.1,e.2.2.2.1,e.2.2.2.2.1,e.2.2.2.2.2,hl1,hl2,hl3]
        ·have q5:¬(i:Int)<top:=by omega
         have e:=hrd.end hig
         simp[-F,-I,↓KW,q5,hig,hw1,hw2]
         refine aI (col+1,top+1,w,H) ⟨e ▸ hfo,hgo.1,hgo.2,hHg⟩ (by omega) ?_
         subst hHg
         have e:=gT (p:=p) (q:=q) (r:=r) hpl hs
         refine mW hF hs (by omega) (by omega) h2 h3 hprf ?_
         simp[-F,upd,aO,Γ0,e.1,e.2.1,e.2.2.1,e.2.2.2.1,e.2.2.2.2.1,e.2.2.2.2.2]
      ·have hxl:¬x.sign<0:=by have:=Int.sign_nonneg_iff.2 (show 0<=x by omega);omega
       have hS:ngS R c col top w=w:=by unfold ngS;rw[hx,Ac hxn]
       rw[hS]at hrd0
       simp[-F,-I,↓KW,hH3,hHd,hgt,hgl,hggt,hHt,hvt,hrt,hbc,hg1,hg2,aD,aF,aG,aZ,aW,hxl]
       refine aP (λx:Nat×W3×(Hp)=>Rd R c col top x.1 x.2.1 w2/\x.1<=top/\ent x.2.1.M top col≠0/\lS pre R c x.2.1.M x.2.1.U x.2.1.V=x.2.2) (λx=>⟨jO [(1,.ptr 1 0),(2,.ptr 2 0),(3,.ptr 3 0),(4,.d (.i .i64 (top:Int))),(5,.d (.i .i64 (col:Int))),(10,.d (.i .i64 (x.1:Int)))],x.2.2,3+3*R+4⟩) (λx=>top-x.1) (0,w,H) ⟨hrd0,Al _,λh=>hx0 (hx.symm.trans h),hHg⟩ ?_ ?_
       ·subst hHg
        have e:=gT (p:=p) (q:=q) (r:=r) hpl hs
        refine mW hF hs (by omega) (by omega) h2 h3 hprf ?_
        simp[-F,upd,aO,Γ0,e.1,e.2.1,e.2.2.1,e.2.2.2.1,e.2.2.2.2.1,e.2.2.2.2.2]
       ·clear hH3 hHd hgt hgl hggt hHt hvt hrt hF h1 h2 h3 h4 hs hHg hx hsgt hei
        rintro⟨i,w,H⟩ ⟨hrd,hit,hxc,hHg⟩
        simp only at hrd hit hxc hHg
        have ok:=hrd.ok
        have hs:=ok.sh
        refine(aHa (pre:=pre) hs hHg).elim λp hh=>hh.elim λq hh=>hh.elim λr hh=>?_
        have h1:=hh.1
        have h2:=hh.2.1
        have h3:=hh.2.2.1
        have h4:=hh.2.2.2.1
        have hF:=hh.2.2.2.2
        rw[hpl]at h1 h4
        clear hh
        have hH3:=hF.root2 hpl
        by_cases hig:i<top
        ·have q5:(i:Int)<top:=by omega
         have hi:i<R:=by omega
         have hw5:Ag.wrap ((i:Int)+1)=(i:Int)+1:=aV
         have hHd:=hF.w.hdrM hs
         have hgi:=dZ (c:=c) (b:=p+1) hi
         have hgt:=dZ (c:=c) (b:=p+1) hgo.2
         have hgl:=cU c R (p+1)
         refine exE (hdr c R (p+1)) λcells hcl=>?_
         rw[hcl]at hHd hgi hgt hgl
         have hggi:∀h:i<cells.length,cells[i]'h=.own (i+(p+1)) 0 c 2:=λh=>Br ((Ab h).symm.trans hgi)
         have hggt:∀h:top<cells.length,cells[top]'h=.own (top+(p+1)) 0 c 2:=λh=>Br ((Ab h).symm.trans hgt)
         refine(hF.rd hs hi hgo.1).hd.elim λvi hh=>?_
         have hHi:=hh.1
         have hvi:=hh.2.1
         have hri:=hh.2.2
         clear hh
         refine(hF.rd hs hgo.2 hgo.1).hd.elim λvt hh=>?_
         have hHt:=hh.1
         have hvt:=hh.2.1
         have hrt:=hh.2.2
         clear hh
         have hnext:=hrd.next hig
         have hxn:ent (rdS R c col top i w).M top col≠0:=by show ent (rZ R c w.M i top _) top col≠0;rw[iS hgo.2 hgo.1,Ac (by omega)];exact hxc
         have hS:rdS R c col top i w=w.add R c i top (-(ent w.M i col/ent w.M top col)):=rfl
         have hyd:Sd (ent w.M i col):=ok.m i col
         have hxd:Sd (ent w.M top col):=ok.m top col
         have hqs:Sd (ent w.M i col/ent w.M top col):=An (fC (D5 _ _)) hyd
         have hfl:=aQc (ent w.M i col) (ent w.M top col) hxc hyd hxd
         have hng:=nH (ent w.M i col/ent w.M top col) (An hqs (by decide))
         refine exE (-(ent w.M i col/ent w.M top col)) λnq hnq=>?_
         have hsn:Sd nq:=by rw[<-hnq];unfold Sd;rw[CT];exact hqs
         rw[hnq]at hng hS
         rw[hS]at hnext hxn
         refine exE (ent w.M i col/ent w.M top col) λqq hqq=>?_
         rw[hqq]at hng hfl
         refine exE (ent w.M i col) λy hy=>?_
         refine exE (ent w.M top col) λx hx=>?_
         rw[hy]at hri hfl
         rw[hx]at hrt hfl
         have hs2:(w.add R c i top nq).sh R c:=W3.add_sh ..
         have had:=aEw hs (by omega) hc hi hgo.2 (gV hsn) (λr t=>gV (ok.m r t)) (λr t=>gV (ok.u r t)) (λr t=>gV (ok.v r t))
         have hbc:col*2+2<=c*2:=by omega
         have hg1:=hgo.1
         have hg2:=hgo.2
         simp[-F,-I,↓KW,q5,hig,hH3,hHd,hgi,hgt,hgl,hggi,hggt,hHi,hHt,hvi,hvt,hri,hrt,hbc,hg1,hg2,hi,aD,aF,aG,aZ,aW]
         refine aJ hfl ?_
         simp[-F,-I,↓KW,aY,hH3,hHd,hgi,hgt,hgl,hggi,hggt,hHi,hHt,hvi,hvt,hri,hrt,hbc,hg1,hg2,hi,aD,aF,aG,aZ,aW]
         refine aJ hng ?_
         simp[-F,-I,↓KW,aY,hH3,hHd,hgi,hgt,hgl,hggi,hggt,hHi,hHt,hvi,hvt,hri,hrt,hbc,hg1,hg2,hi,aD,aF,aG,aZ,aW]
         refine vQ (pre:=pre) (w:=w) (w':=w.add R c i top nq) (ds:=[.i .i64 (i:Int),.i .i64 (top:Int),encZ nq]) (λ_ _=>by first|rfl|exact qJ _ _ _ _ _) (by simp) (by rw[hpl];rfl) hF hprf hs (by omega) h2 h3 (by simp only;omega) (by rfl) (by rfl) hs2 had ?_
         intro l H' p' q' r' n' hl g1 g2 g3 g4 hF'
         have hl1:=hl 1 (by omega)
         have hl2:=hl 2 (by omega)
         have hl3:=hl 3 (by omega)
         simp[-F,-I,↓KW,hl1,hl2,hl3,hw5]
         refine aI (i+1,w.add R c i top nq,lS pre R c (w.add R c i top nq).M (w.add R c i top nq).U (w.add R c i top nq).V) ⟨hnext,hig,hxn,rfl⟩ (by omega) ?_
         have e:=gT (p:=p') (q:=q') (r:=r') hpl hs2
         refine mW hF' hs2 (by omega) (by omega) g2 g3 hprf ?_
         simp[-F,upd,aO,Γ0,e.1,e.2.1,e.2.2.1,e.2.2.2.1,e.2.2.2.2.1,e.2.2.2.2.2,hl1,hl2,hl3]
        ·have q5:¬(i:Int)<top:=by omega
         have e:=hrd.end hig
         simp[-F,-I,↓KW,q5,hig,hw1,hw2]
         refine aI (col+1,top+1,w,H) ⟨e ▸ hfo,hgo.1,hgo.2,hHg⟩ (by omega) ?_
         subst hHg
         have e:=gT (p:=p) (q:=q) (r:=r) hpl hs
         refine mW hF hs (by omega) (by omega) h2 h3 hprf ?_
         simp[-F,upd,aO,Γ0,e.1,e.2.1,e.2.2.1,e.2.2.2.1,e.2.2.2.2.1,e.2.2.2.2.2]
  ·have e:=hf.end hgo
   subst e
   have hu:∀{c' m:Nat} {N:List (List Int)} (x:Option HO),3<m->(∀(i:Nat) o,(mB c' N m)[i]? = some o->H (i+m)=some o)->∀(i:Nat) o,(mB c' N m)[i]? = some o->upd H 2 x (i+m)=some o:=λx hm h i o ho=>by rw[dX _ _ (by omega)];exact h i o ho
   have f1:=λx k=>aMw (H:=upd H 2 x) k hs.m (hu x (by omega) hF.w.m)
   have f2:=λx k=>aMw (H:=upd H 2 x) k hs.u (hu x (by omega) hF.w.u)
   have f3:=λx k=>aMw (H:=upd H 2 x) k hs.v (hu x (by omega) hF.w.v)
   by_cases q1:col<c
   ·have q2:¬top<R:=λh=>hgo ⟨q1,h⟩
    have q1':(col:Int)<c:=by omega
    have q2':¬(top:Int)<R:=by omega
    simp[-F,-I,↓KW,q1,q1',q2,q2',hH1,hH2,hH3,f1,f2,f3,-jA]
    rfl
   ·have q1':¬(col:Int)<c:=by omega
    simp[-F,-I,↓KW,q1,q1',hH1,hH2,hH3,f1,f2,f3,-jA]
    rfl
def pvF:Nat->List Int->Int
 |_,[]=>-1
 |k,z::l=>if z=0 then pvF (k+1) l else(k:Int)
def aVc(v:List Int):Int:=pvF 0 v
def cEd{z:Int}(h:z=0):(z.sign != 0)=false:=by rw[h];rfl
def cEc{z:Int}(h:¬z=0):(z.sign != 0)=true:=by
 have:z.sign≠0:=λe=>h (Dw.1 e)
 simpa using this
def bHx(v:List Int)(hl:v.length<=1000000):Spec Aa 106 [dQ v] (.i .i64 (aVc v)):=by
 refine bF (N:=17) Tryz.func106 ?_;simp[-F,-I,↓KW,dQ];refine aP (λi:Nat=>i<=v.length/\pvF i (v.drop i)=aVc v) (λi=>StL [(0,.d (dQ v)),(3,.d (.i .i64 (i:Int)))] none []) (λi=>v.length-i) 0 ⟨Al _,rfl⟩ ?_ ?_
 ·refine wkQ [] ?_ ?_<;>simp[-F,upd,aO,Γ0,dQ,dY]
 ·intro i ⟨hi,hp⟩;by_cases hgo:i<v.length
  ·have q1:(i:Int)<v.length:=by omega
   have hx:v[i]? = some v[i]:=Ab hgo;have hw:Ag.wrap ((i:Int)+1)=(i:Int)+1:=aV;rw[AP hgo,pvF]at hp;generalize v[i]=z at *;have hS:=fH z;simp[-F,-I,↓KW,dQ,q1,hx,aNb];refine aJ hS ?_;by_cases h0:z=0
   ·have hs:=cEd h0;rw[Ad h0]at hp;generalize z.sign=sn at *;simp[-F,-I,↓KW,hw,hs];refine aI (i+1) ⟨hgo,hp⟩ (slQ hgo) (wkQ [] ?_ ?_)<;>simp[-F,upd,aO,Γ0,dQ,dY]
   ·have hs:=cEc h0;rw[Ac h0]at hp;generalize z.sign=sn at *;simp[-F,-I,↓KW,hw,hs,<-hp]
  ·have q1:¬(i:Int)<v.length:=by omega
   rw[BA (by omega),pvF]at hp;simp[-F,-I,↓KW,dQ,q1,<-hp]
def rkR(A:List (List Int)):Nat:=(A.filter λv=>decide (0<=aVc v)).length
def bHf{A:List (List Int)}{i:Nat}(h:i<A.length):rkR (A.take (i+1))=rkR (A.take i)+if 0<=aVc A[i]then 1 else 0:=by rw[AM,Ab h];unfold rkR;rw[BQ,Ak];congr 1;by_cases e:0<=aVc A[i]<;>simp[e]
def bHg(A:List (List Int)):rkR A<=A.length:=List.length_filter_le _ _
def aPo(A:List (List Int))(i:Nat):rkR (A.take i)<=i:=An (bHg _) (by simp;omega)
def aYj{R c:Nat}{A:List (List Int)}(hA:Sh R c A)(hR:R<=1000)(hc:c<=1000):Spec Aa 92 [eQ R c A] (.i .i64 (rkR A:Int)):=by
 refine bF (N:=21) Tryz.func92 ?_;simp[-F,-I,↓KW,eQ];refine aP (λi:Nat=>i<=R) (λi=>StL [(1,.ptr 1 0),(3,.d (.i .i64 (rkR (A.take i):Int))),(4,.d (.i .i64 (i:Int)))] none [.cells 136 [.d (.i .i64 (R:Int)),.d (.i .i64 (c:Int)),.d (.sl (A.map λv=>[dQ v]))]]) (λi=>R-i) 0 (Al _) ?_ ?_
 ·refine wkQ [1] ?_ ?_<;>simp[-F,upd,aO,Γ0,rkR]
 ·intro i hi;have hAl:=hA.len;by_cases hgo:i<R
  ·have q1:(i:Int)<R:=by omega
   have hgA:i<A.length:=by omega
   have hx:A[i]? = some A[i]:=Ab hgA;have hw:Ag.wrap ((i:Int)+1)=(i:Int)+1:=aV;have htk:=bHf hgA;have hvl:=hA.row _ (Ar hgA);have hrl:=aPo A i;generalize A[i]=v at *;generalize rkR (A.take i)=n at *;have hw2:Ag.wrap ((n:Int)+1)=(n:Int)+1:=aV;have hS:=bHx v (by omega);have hv2:dQ v=.sl (v.map xP):=rfl;simp[-F,-I,↓KW,q1,hx,hv2];refine aJ hS ?_;by_cases h0:0<=aVc v
   ·rw[Ad h0]at htk;simp[-F,-I,↓KW,hw,hw2,h0];refine aI (i+1) hgo (slQ hgo) (wkQ [1] ?_ ?_)<;>simp[-F,upd,aO,Γ0,htk]
   ·rw[Ac h0]at htk;simp[-F,-I,↓KW,hw,hw2,h0];refine aI (i+1) hgo (slQ hgo) (wkQ [1] ?_ ?_)<;>simp[-F,upd,aO,Γ0,htk]
  ·have q1:¬(i:Int)<R:=by omega
   rw[Ai (by omega)];simp[-F,-I,↓KW,q1]
def aCb(A:List (List Int)):fB 1 (A.map λv=>[dQ v])=true:=by cases A<;>rfl
def bXl{R c:Nat}{A:List (List Int)}(hA:Sh R c A)(n:Nat)(hn:n<=R)(hR:R<=1000)(hc:c<=1000):Spec Aa 107 [eQ R c A,.i .i64 (n:Int)] (eQ n c (A.take n)):=by
 refine bF (N:=13) Tryz.func107 ?_;have hAl:=hA.len;have q1:(n:Int)<=A.length:=by omega
 have q2:n<=A.length:=by omega
 have q3:=aCb A;simp[-F,-I,↓KW,eQ,qQ,q1,q2,q3,hAl,hn,BD]
def bHy{R c:Nat}{A:List (List Int)}{wf:W3}(hA:Sh R c A)(hR:R<=15)(hc:c<=1000)(hAs:∀v∈A,∀z∈v,Sz z)(hFo:Fo R c 0 0 ⟨A,idM R,idM R⟩ wf)(hw:Sh R c wf.M) :
  Spec Aa 93 [eQ R c A] (eQ (rkR wf.M) c (wf.M.take (rkR wf.M))):=by
 refine bF (N:=12) Tryz.func93 ?_
 have hF:=aYk hA hR hc hAs hFo
 have hK:=aYj hw (by omega) hc
 have hle:rkR wf.M<=R:=by have:=bHg wf.M;rwa [hw.len]at this
 have hT:=bXl hw (rkR wf.M) hle (by omega) hc
 generalize rkR wf.M=k at *
 simp[-F,-I,↓KW,eQ]
 refine aJ hF ?_
 simp[-F,-I,↓KW,aGp]
 refine aJ hK ?_
 simp[-F,-I,↓KW,aGp]
 refine aJ hT ?_
 simp[-F,-I,↓KW,eQ]
def aQb{R c:Nat}{A B:List (List Int)}{wf wg:W3}(hA:Sh R c A)(hR:R<=15)(hc:c<=1000)(hAs:∀v∈A,∀z∈v,Sz z)(hFo:Fo R c 0 0 ⟨A,idM R,idM R⟩ wf)(hw:Sh R c wf.M)(hu:Sh R R wf.U)
  (hk:rkR wf.M<=R) (hB:wf.U.drop (rkR wf.M)=B) (hBs:∀v∈B,∀z∈v,Sz z) (hFg:Fo (R-rkR wf.M) R 0 0 ⟨B,idM (R-rkR wf.M),idM (R-rkR wf.M)⟩ wg) (hg:Sh (R-rkR wf.M) R wg.M) :
  Spec Aa 73 [eQ R c A] (eQ (rkR wg.M) R (wg.M.take (rkR wg.M))):=by
 refine bF (N:=25) Tryz.func73 ?_
 have hF:=aYk hA hR hc hAs hFo
 have hK:=aYj hw (by omega) hc
 have hBh:Sh (R-rkR wf.M) R B:=⟨by rw[<-hB,Bl,hu.len],λv hv=>hu.row v (CQ (hB ▸ hv))⟩
 have hG:=bHy hBh (by omega) (by omega) hBs hFg hg
 have hul:=hu.len
 generalize rkR wf.M=k at *
 have q1:(k:Int)<=wf.U.length:=by omega
 have q2:k<=wf.U.length:=by omega
 have q3:=aCb wf.U
 have q5:BB R (wf.U.map λv=>[dQ v])=wf.U.map λv=>[dQ v]:=Ai (by simp;omega)
 have q4:((R-k:Nat):Int)=(R:Int)-k:=by omega
 have hwr:Ag.wrap ((R:Int)-k)=(R:Int)-k:=aV
 rw[q4]at hG
 simp[-F,-I,↓KW,eQ]
 refine aJ hF ?_
 simp[-F,-I,↓KW,aGp]
 refine aJ hK ?_
 simp[-F,-I,↓KW,aGp,hwr,qQ,q1,q2,q3,q5,hul,hk]
 refine bK (ds:=[eQ ((R:Int)-k) R B]) (by simp only[<-hB,eQ,Bv];rfl) hG ?_
 simp[-F,-I,↓KW,eQ]
def aBa{a b x y:Int}{e f:Nat}(ha:a.natAbs<=2^e)(hb:b.natAbs<=2^e)(hx:x.natAbs<=2^f)(hy:y.natAbs<=2^f):phi a b x y<=2^(e+f+4):=by have h1:=Cs ha hy;have h2:=Cs hb hx;have h3:=Cs hb hy;rw[show 2^(e+f+4)=16*(2^e*2^f)by rw[CA,CA,Ci]];unfold phi;split<;>split<;>omega
def itD:Nat->Nat->Nat->Nat->Nat
 |0,e,E,D=>D
 |m+1,e,E,D=>itD m (e+m*(e+4)) (E+(e+m*(e+4))+1) (D+E+(e+m*(e+4))+4)
def aFs:∀{m e E D e' E' D':Nat},e<=e'->E<=E'->D<=D'->itD m e E D<=itD m e' E' D'
 |0,e,E,D,e',E',D',h1,h2,h3=>h3
 |m+1,e,E,D,e',E',D',h1,h2,h3=>by have:=BE m (show e+4<=e'+4 by omega);simp only[itD];exact aFs (by omega) (by omega) (by omega)
def aBc:∀(m e E D:Nat),D<=itD m e E D
 |0,_,_,_=>Ap _
 |m+1,e,E,D=>by have:=aBc m (e+m*(e+4)) (E+(e+m*(e+4))+1) (D+E+(e+m*(e+4))+4);simp only[itD];omega
def bYn(m e E D:Nat):itD m e E D<=itD (m+1) e E D:=by simp only[itD];exact aFs (by omega) (by omega) (by omega)
structure Gq(R c:Nat)(A:List (List Int))(e E D col top:Nat)(w:W3):Prop where
 sh:w.sh R c
 eq:wR R c R w.U A w.M
 low:∀r t,top<=r->r<R->t<col->ent w.M r t=0
 hi:∀r,r<top->∃t,t<col/\ent w.M r t≠0
 ma:∀r t,top<=r->(ent w.M r t).natAbs<=2^e
 ua:∀r t,top<=r->(ent w.U r t).natAbs<=2^e
 va:∀r t,top<=t->(ent w.V r t).natAbs<=2^e
 mu:∀r t,r<top->(ent w.M r t).natAbs<=2^E
 uu:∀r t,r<top->(ent w.U r t).natAbs<=2^E
 vu:∀r t,t<top->(ent w.V r t).natAbs<=2^D
section
variable {R c col top i e f E D:Nat} {A:List (List Int)} {w:W3}
def Gq.ok3(g:Gq R c A e E D col top w)(h:e<4160000000000/\E<4160000000000/\D<4160000000000):Ok R c w :=
 ⟨g.sh,λr t=>by
  by_cases hr:r<top
  ·exact oC (g.mu r t hr) _ (by omega)
  ·exact oC (g.ma r t (by omega)) _ (by omega),λr t=>by
  by_cases hr:r<top
  ·exact oC (g.uu r t hr) _ (by omega)
  ·exact oC (g.ua r t (by omega)) _ (by omega),λr t=>by
  by_cases hr:t<top
  ·exact oC (g.vu r t hr) _ (by omega)
  ·exact oC (g.va r t (by omega)) _ (by omega)⟩
def Gq.ok(g:Gq R c A e E D col top w)(h:e<=E/\E<=D/\D<4160000000000):Ok R c w:=g.ok3 (by omega)
def wX{x:Int}{a b:Nat}(h:x.natAbs<=2^a)(hab:a<=b):x.natAbs<=2^b:=An h (BW (by omega) hab)
def Gq.mono{e' E' D':Nat}(g:Gq R c A e E D col top w)(h1:e<=e')(h2:E<=E')(h3:D<=D'):Gq R c A e' E' D' col top w :=
 ⟨g.sh,g.eq,g.low,g.hi,λr t h=>wX (g.ma r t h) h1,λr t h=>wX (g.ua r t h) h1,λr t h=>wX (g.va r t h) h1,λr t h=>wX (g.mu r t h) h2,λr t h=>wX (g.uu r t h) h2,λr t h=>wX (g.vu r t h) h3⟩
structure Ep(R c:Nat)(A:List (List Int))(e f E D col top i:Nat)(w:W3):Prop where
 g:Gq R c A (e+f+4) E D col top w
 cl:∀r,top<=r->(ent w.M r col).natAbs<=2^f
 z:∀r,top<r->r<i->ent w.M r col=0
 pm:∀t,t<c->phi (ent w.M top t) (ent w.M i t) (ent w.M top col) (ent w.M i col)<=2^(e+f+4)
 pu:∀t,t<R->phi (ent w.U top t) (ent w.U i t) (ent w.M top col) (ent w.M i col)<=2^(e+f+4)
 pv:∀r,r<R->phi (ent w.V r i) (ent w.V r top) (ent w.M top col) (ent w.M i col)<=2^(e+f+4)
def Ep.init(g:Gq R c A e E D col top w)(hti:top<i)(cl:∀r,top<=r->(ent w.M r col).natAbs<=2^f)(z:∀r,top<r->r<i->ent w.M r col=0):Ep R c A e f E D col top i w :=
 ⟨g.mono (by omega) (Ap _) (Ap _),cl,z,λt _=>aBa (g.ma _ _ (Ap _)) (g.ma _ _ (by omega)) (cl _ (Ap _)) (cl _ (by omega)),λt _=>aBa (g.ua _ _ (Ap _)) (g.ua _ _ (by omega)) (cl _ (Ap _)) (cl _ (by omega)),λt _=>aBa (g.va _ _ (by omega)) (g.va _ _ (Ap _)) (cl _ (Ap _)) (cl _ (by omega))⟩
def Ep.step(h:Ep R c A e f E D col top i w)(hcol:col<c)(hti:top<i)(hiR:i<R)(hy:ent w.M i col≠0):Ep R c A e f E D col top i (euS R c col top i w):=by
 have htR:top<R:=by omega
 have hne:top≠i:=by omega
 have hne':¬i=top:=by omega
 have eM:=λr t hr ht=>aSr (w:=w) (c:=c) (col:=col) hne htR hiR (r:=r) (t:=t) hr ht
 have eU:=λr t hr ht=>cCl (w:=w) (c:=c) (col:=col) hne htR hiR (r:=r) (t:=t) hr ht
 have eV:=λr t hr ht=>cCk (w:=w) (c:=c) (col:=col) hne htR hiR (r:=r) (t:=t) hr ht
 have hsh:(euS R c col top i w).sh R c:=W3.sw_sh ..;have outM:∀{r t},¬(r<R/\t<c)->(ent (euS R c col top i w).M r t).natAbs=0:=λh=>by rw[jN hsh.m h];rfl
 have outU:∀{r t},¬(r<R/\t<R)->(ent (euS R c col top i w).U r t).natAbs=0:=λh=>by rw[jN hsh.u h];rfl
 have outV:∀{r t},¬(r<R/\t<R)->(ent (euS R c col top i w).V r t).natAbs=0:=λh=>by rw[jN hsh.v h];rfl
 have hx1:ent (euS R c col top i w).M top col=ent w.M i col:=by rw[eM _ _ htR hcol,Ad rfl]
 have hy1:ent (euS R c col top i w).M i col=ent w.M top col%ent w.M i col:=by rw[eM _ _ hiR hcol,Ac hne',Ad rfl];have:=DZ (ent w.M top col) (ent w.M i col);rw[B7 (ent w.M top col/_)];omega
 have pm:∀t,t<c->phi (ent (euS R c col top i w).M top t) (ent (euS R c col top i w).M i t) (ent w.M i col) (ent w.M top col%ent w.M i col)<=2^(e+f+4):=λt ht=>by rw[eM _ _ htR ht,Ad rfl,eM _ _ hiR ht,Ac hne',Ad rfl];refine An (aEz hy ?_) (h.pm t ht);rw[<-BX];omega
 have pu:∀t,t<R->phi (ent (euS R c col top i w).U top t) (ent (euS R c col top i w).U i t) (ent w.M i col) (ent w.M top col%ent w.M i col)<=2^(e+f+4):=λt ht=>by rw[eU _ _ htR ht,Ad rfl,eU _ _ hiR ht,Ac hne',Ad rfl];refine An (aEz hy ?_) (h.pu t ht);rw[<-BX];omega
 have pv:∀r,r<R->phi (ent (euS R c col top i w).V r i) (ent (euS R c col top i w).V r top) (ent w.M i col) (ent w.M top col%ent w.M i col)<=2^(e+f+4):=λr hr=>by rw[eV _ _ hr htR,Ad rfl,eV _ _ hr hiR,Ac hne',Ad rfl];refine An (aEz hy ?_) (h.pv r hr);rw[<-BX];omega
 refine⟨⟨hsh,bZe h.g.eq htR hiR,λr t h1 h2 h3=>?_,λr hr=>?_,λr t hr=>?_,λr t hr=>?_,λr t ht=>?_,λr t hr=>?_,λr t hr=>?_,λr t ht=>?_⟩,λr hr=>?_,λr h1 h2=>?_,λt ht=>by rw[hx1,hy1];exact pm t ht,λt ht=>by rw[hx1,hy1];exact pu t ht,λt ht=>by rw[hx1,hy1];exact pv t ht⟩
 ·have hl:∀r,top<=r->r<R->ent w.M r t=0:=λr h1 h2=>h.g.low r t h1 h2 h3
  rw[eM _ _ h2 (by omega),hl i (by omega) hiR,hl top (by omega) htR,hl r h1 h2];split
  ·rfl
  ·split
   ·simp
   ·rfl
 ·obtain⟨t,ht,h0⟩:=h.g.hi r hr;exact⟨t,ht,by rw[eM _ _ (by omega) (by omega),Ac (by omega),Ac (by omega)];exact h0⟩
 ·by_cases hb:r<R/\t<c
  ·by_cases e2:r=i
   ·rw[e2];exact An (bId hy) (pm t hb.2)
   ·rw[eM _ _ hb.1 hb.2];split
    ·exact h.g.ma _ _ (by omega)
    ·exact h.g.ma _ _ hr
  ·rw[outM hb];exact Al _
 ·by_cases hb:r<R/\t<R
  ·by_cases e2:r=i
   ·rw[e2];exact An (bId hy) (pu t hb.2)
   ·rw[eU _ _ hb.1 hb.2];split
    ·exact h.g.ua _ _ (by omega)
    ·exact h.g.ua _ _ hr
  ·rw[outU hb];exact Al _
 ·by_cases hb:r<R/\t<R
  ·by_cases e2:t=top
   ·rw[e2];exact An (bId hy) (pv r hb.1)
   ·rw[eV _ _ hb.1 hb.2,Ac e2];split
    ·exact h.g.va _ _ (Ap _)
    ·exact h.g.va _ _ ht
  ·rw[outV hb];exact Al _
 ·by_cases hb:r<R/\t<c
  ·rw[eM _ _ hb.1 hb.2,Ac (by omega),Ac (by omega)];exact h.g.mu r t hr
  ·rw[outM hb];exact Al _
 ·by_cases hb:r<R/\t<R
  ·rw[eU _ _ hb.1 hb.2,Ac (by omega),Ac (by omega)];exact h.g.uu r t hr
  ·rw[outU hb];exact Al _
 ·by_cases hb:r<R/\t<R
  ·rw[eV _ _ hb.1 hb.2,Ac (by omega),Ac (by omega)];exact h.g.vu r t ht
  ·rw[outV hb];exact Al _
 ·by_cases hb:r<R
  ·by_cases e1:r=top
   ·rw[e1,hx1];exact h.cl i (by omega)
   ·by_cases e2:r=i
    ·rw[e2,hy1];have h1:=Dt (ent w.M top col) hy;have h2:=Gi (ent w.M top col) hy;exact An (show _<=(ent w.M i col).natAbs by omega) (h.cl i (by omega))
    ·rw[eM _ _ hb hcol,Ac e1,Ac e2];exact h.cl r hr
  ·rw[outM (λh=>hb h.1)];exact Al _
 ·rw[eM _ _ (by omega) hcol,Ac (by omega),Ac (by omega)];exact h.z r h1 h2
def bWf(hcol:col<c)(hti:top<i)(hiR:i<R)(he:e+f+4<4160000000000/\E<4160000000000/\D<4160000000000):∀(n:Nat) (w:W3),(ent w.M i col).natAbs<=n->Ep R c A e f E D col top i w->∃w',Eu R c col top i w w'/\Ep R c A e f E D col top i w'/\ent w'.M i col=0
 |n,w,hn,h=>by
  have ok:Ok R c w:=h.g.ok3 he;by_cases hy:ent w.M i col=0
  ·exact⟨w,.done w ok hy,h,hy⟩
  ·have h1:=h.step hcol hti hiR hy;have hy1:ent (euS R c col top i w).M i col=ent w.M top col%ent w.M i col:=by rw[aSr (by omega) (by omega) hiR hiR hcol,Ac (by omega),Ad rfl];have:=DZ (ent w.M top col) (ent w.M i col);rw[B7 (ent w.M top col/_)];omega
   have hlt:=Gi (ent w.M top col) hy;have hnn:=Dt (ent w.M top col) hy;cases n with
   |zero=>omega
   |succ n =>
    obtain⟨w',e1,e2,e3⟩:=bWf hcol hti hiR he n _ (by rw[hy1];omega) h1;exact⟨w',.go w w' ok hy e1,e2,e3⟩
def bLy(hcol:col<c)(hR:top<R):∀(n i e:Nat) (w:W3),n+i=R->top<i->Gq R c A e E D col top w->(∀r,top<=r->(ent w.M r col).natAbs<=2^f)->(∀r,top<r->r<i->ent w.M r col=0)->e+n*(f+4)<4160000000000/\E<4160000000000/\D<4160000000000 ->
  ∃w',Ei R c col top i w w'/\Gq R c A (e+n*(f+4)) E D col top w'/\(∀r,top<r->r<R->ent w'.M r col=0)/\(w'=w\/ent w'.M top col≠0)/\(ent w.M top col≠0->ent w'.M top col≠0)
 |0,i,e,w,hi,hti,g,cl,z,hb=>⟨w,.done i w (g.ok3 (by omega)) (by omega),g.mono (by omega) (Ap _) (Ap _),λr h1 h2=>z r h1 (by omega),.inl rfl,λh=>h⟩
 |n+1,i,e,w,hi,hti,g,cl,z,hb=>by
  have hs:e+(n+1)*(f+4)=e+f+4+n*(f+4):=by rw[C7];omega
  rw[hs]at hb ⊢;obtain⟨w1,e1,e2,e3⟩:=bWf (A:=A) (e:=e) (f:=f) (E:=E) (D:=D) hcol hti (by omega:i<R) (by omega) _ w (Ap _) (.init g hti cl z);have ht:=bZc hcol hti (by omega) e1;obtain⟨w2,f1,f2,f3,f4,f5⟩:=bLy hcol hR n (i+1) (e+f+4) w1 (by omega) (by omega) e2.g e2.cl (λr h1 h2=>if h:r=i then h ▸ e3 else e2.z r h1 (by omega)) hb;refine⟨w2,.go i w w1 w2 (by omega) e1 f1,f2,f3,?_,λh=>f5 (ht.2 h)⟩;rcases ht.1 with h|h
  ·subst h;exact f4
  ·exact .inr (f5 h)
def bYf(g:Gq R c A e E D col top w)(hcol:col<c)(hR:top<R):Gq R c A e E D col top (ngS R c col top w):=by
 unfold ngS;split
 ·have hsh:(w.ng R c top).sh R c:=W3.ng_sh ..;have kM:∀r t,(ent (w.ng R c top).M r t).natAbs<=(ent w.M r t).natAbs:=λr t=>by
   by_cases hb:r<R/\t<c
   ·show(ent (ngR R c w.M top) r t).natAbs<=_;rw[nM hb.1 hb.2];split
    ·rename_i h;rw[h,CT];exact Ap _
    ·exact Ap _
   ·rw[jN hsh.m hb];exact Al _
  have kU:∀r t,(ent (w.ng R c top).U r t).natAbs<=(ent w.U r t).natAbs:=λr t=>by
   by_cases hb:r<R/\t<R
   ·show(ent (ngR R R w.U top) r t).natAbs<=_;rw[nM hb.1 hb.2];split
    ·rename_i h;rw[h,CT];exact Ap _
    ·exact Ap _
   ·rw[jN hsh.u hb];exact Al _
  have kV:∀r t,(ent (w.ng R c top).V r t).natAbs<=(ent w.V r t).natAbs:=λr t=>by
   by_cases hb:r<R/\t<R
   ·show(ent (ngV R w.V top) r t).natAbs<=_;rw[bTy hb.1 hb.2];split
    ·rename_i h;rw[h,CT];exact Ap _
    ·exact Ap _
   ·rw[jN hsh.v hb];exact Al _
  refine⟨hsh,g.eq.ng hR,λr t h1 h2 h3=>?_,λr hr=>?_,λr t h=>An (kM r t) (g.ma r t h),λr t h=>An (kU r t) (g.ua r t h),λr t h=>An (kV r t) (g.va r t h),λr t h=>An (kM r t) (g.mu r t h),λr t h=>An (kU r t) (g.uu r t h),λr t h=>An (kV r t) (g.vu r t h)⟩
  ·show ent (ngR R c w.M top) r t=0;rw[nM h2 (by omega),g.low top t (Ap _) hR h3,g.low r t h1 h2 h3];split<;>rfl
  ·obtain⟨t,h1,h2⟩:=g.hi r hr;refine⟨t,h1,?_⟩;show ent (ngR R c w.M top) r t≠0;rw[nM (by omega) (by omega),Ac (by omega)];exact h2
 ·exact g
structure Rq(R c:Nat)(A:List (List Int))(e E D col top i:Nat)(w:W3):Prop where
 sh:w.sh R c
 eq:wR R c R w.U A w.M
 low:∀r t,top<=r->r<R->t<col->ent w.M r t=0
 hi:∀r,r<top->∃t,t<col/\ent w.M r t≠0
 ma:∀r t,top<=r->(ent w.M r t).natAbs<=2^e
 ua:∀r t,top<=r->(ent w.U r t).natAbs<=2^e
 va:∀r t,top<t->(ent w.V r t).natAbs<=2^e
 m1:∀r t,i<=r->r<top->(ent w.M r t).natAbs<=2^E
 u1:∀r t,i<=r->r<top->(ent w.U r t).natAbs<=2^E
 m0:∀r t,r<i->(ent w.M r t).natAbs<=2^(E+e+1)
 u0:∀r t,r<i->(ent w.U r t).natAbs<=2^(E+e+1)
 vu:∀r t,t<top->(ent w.V r t).natAbs<=2^D
 vt:∀r,(ent w.V r top).natAbs<=2^e+i*2^(D+E)
def Rq.init(g:Gq R c A e E D col top w):Rq R c A e E D col top 0 w :=
 ⟨g.sh,g.eq,g.low,g.hi,g.ma,g.ua,λr t h=>g.va r t (by omega),λr t _ h=>g.mu r t h,λr t _ h=>g.uu r t h,λr t h=>absurd h (FO _),λr t h=>absurd h (FO _),g.vu,λr=>by rw[Cn];exact g.va r top (Ap _)⟩
def Rq.ok(g:Rq R c A e E D col top i w)(hi:i<=15)(h:D+E+e+4<4160000000000):Ok R c w :=
 ⟨g.sh,λr t=>by
  by_cases h1:r<i
  ·exact oC (g.m0 r t h1) _ (by omega)
  ·by_cases hr:r<top
   ·exact oC (g.m1 r t (by omega) hr) _ (by omega)
   ·exact oC (g.ma r t (by omega)) _ (by omega),λr t=>by
  by_cases h1:r<i
  ·exact oC (g.u0 r t h1) _ (by omega)
  ·by_cases hr:r<top
   ·exact oC (g.u1 r t (by omega) hr) _ (by omega)
   ·exact oC (g.ua r t (by omega)) _ (by omega),λr t=>by
  by_cases h1:t<top
  ·exact oC (g.vu r t h1) _ (by omega)
  ·by_cases h2:t=top
   ·refine oC (E:=D+E+e+4) ?_ _ (by omega);rw[h2];refine An (g.vt r) ?_;have e1:2^(D+E+e+4)=16*(2^(D+E)*2^e):=by rw[CA,CA,Ci]
    have e2:1*2^e<=2^(D+E)*2^e:=A8 _ Cd;have e3:2^(D+E)*1<=2^(D+E)*2^e:=BE _ Cd;have e4:i*2^(D+E)<=15*2^(D+E):=A8 _ hi;omega
   ·exact oC (g.va r t (by omega)) _ (by omega)⟩
def Rq.step(h:Rq R c A e E D col top i w)(hcol:col<c)(hR:top<R)(hi:i<top):Rq R c A e E D col top (i+1) (rdS R c col top i w):=by
 obtain⟨k,hk⟩:∃k:Int,-(ent w.M i col/ent w.M top col)=k:=⟨_,rfl⟩;have hkb:k.natAbs<=2^E:=by rw[<-hk,CT];exact An (D5 _ _) (h.m1 i col (Ap _) hi)
 have hmul:∀{z:Int} {b:Nat},z.natAbs<=2^b->(k*z).natAbs<=2^(E+b):=λhz=>by rw[BX,CA];exact Cs hkb hz
 have hS:rdS R c col top i w=w.add R c i top k:=by unfold rdS;rw[hk]
 have hsh:(w.add R c i top k).sh R c:=W3.add_sh ..;have eM:∀{r t},r<R->t<c->ent (w.add R c i top k).M r t=_:=λhr ht=>iS (M:=w.M) (i:=i) (j:=top) (k:=k) hr ht
 have eU:∀{r t},r<R->t<R->ent (w.add R c i top k).U r t=_:=λhr ht=>iS (M:=w.U) (i:=i) (j:=top) (k:=k) hr ht
 have eV:∀{r t},r<R->t<R->ent (w.add R c i top k).V r t=_:=λhr ht=>aSt (V:=w.V) (i:=i) (j:=top) (k:=k) hr ht
 have kM:∀r t,r≠i->(ent (w.add R c i top k).M r t).natAbs<=(ent w.M r t).natAbs:=λr t hr=>by
  by_cases hb:r<R/\t<c
  ·rw[eM hb.1 hb.2,Ac hr];exact Ap _
  ·rw[jN hsh.m hb];exact Al _
 have kU:∀r t,r≠i->(ent (w.add R c i top k).U r t).natAbs<=(ent w.U r t).natAbs:=λr t hr=>by
  by_cases hb:r<R/\t<R
  ·rw[eU hb.1 hb.2,Ac hr];exact Ap _
  ·rw[jN hsh.u hb];exact Al _
 have kV:∀r t,t≠top->(ent (w.add R c i top k).V r t).natAbs<=(ent w.V r t).natAbs:=λr t ht=>by
  by_cases hb:r<R/\t<R
  ·rw[eV hb.1 hb.2,Ac ht];exact Ap _
  ·rw[jN hsh.v hb];exact Al _
 have ps:2^(E+e+1)=2^(E+e)+2^(E+e):=by rw[Cp,Nat.mul_two]
 have pe:2^E<=2^(E+e):=BW (by omega) (by omega);rw[hS];refine⟨hsh,h.eq.add (by omega) hR,λr t h1 h2 h3=>?_,λr hr=>?_,λr t hr=>An (kM r t (by omega)) (h.ma r t hr),λr t hr=>An (kU r t (by omega)) (h.ua r t hr),λr t ht=>An (kV r t (by omega)) (h.va r t ht),λr t h1 h2=>An (kM r t (by omega)) (h.m1 r t (by omega) h2),λr t h1 h2=>An (kU r t (by omega)) (h.u1 r t (by omega) h2),λr t hr=>?_,λr t hr=>?_,λr t ht=>An (kV r t (by omega)) (h.vu r t ht),λr=>?_⟩
 ·rw[eM h2 (by omega),Ac (by omega)];exact h.low r t h1 h2 h3
 ·obtain⟨t,h1,h2⟩:=h.hi r hr;refine⟨t,h1,?_⟩;rw[eM (by omega) (by omega)];split
  ·rename_i e2;rw[h.low top t (Ap _) hR h1,<-e2];simpa using h2
  ·exact h2
 ·by_cases e2:r=i
  ·subst e2;by_cases hb:r<R/\t<c
   ·rw[eM hb.1 hb.2,Ad rfl];have h1:=h.m1 r t (Ap _) hi;have h2:=hmul (h.ma top t (Ap _));omega
   ·rw[jN hsh.m hb];exact Al _
  ·exact An (kM r t e2) (h.m0 r t (by omega))
 ·by_cases e2:r=i
  ·subst e2;by_cases hb:r<R/\t<R
   ·rw[eU hb.1 hb.2,Ad rfl];have h1:=h.u1 r t (Ap _) hi;have h2:=hmul (h.ua top t (Ap _));omega
   ·rw[jN hsh.u hb];exact Al _
  ·exact An (kU r t e2) (h.u0 r t (by omega))
 ·by_cases hr:r<R
  ·rw[eV hr hR,Ad rfl];have h1:=h.vt r;have h2:=hmul (h.vu r i hi);rw[C7,CB D E]at *;omega
  ·rw[jN hsh.v λh=>hr h.1];exact Al _
def bHo(hcol:col<c)(hR:top<R)(hR2:R<=15)(he:D+E+e+4<4160000000000):∀(n i:Nat) (w:W3),n+i=top->Rq R c A e E D col top i w->(∀r,top<r->r<R->ent w.M r col=0)->ent w.M top col≠0->∃w',Rd R c col top i w w'/\Gq R c A e (E+e+1) (D+E+e+4) (col+1) (top+1) w'
 |0,i,w,hi,h,z,hp=>by
  refine⟨w,.done i w (h.ok (by omega) he) (by omega),h.sh,h.eq,λr t h1 h2 h3=>?_,λr hr=>?_,λr t hr=>h.ma r t (by omega),λr t hr=>h.ua r t (by omega),λr t ht=>h.va r t (by omega),λr t hr=>?_,λr t hr=>?_,λr t ht=>?_⟩
  ·by_cases e2:t=col
   ·rw[e2];exact z r (by omega) h2
   ·exact h.low r t (by omega) h2 (by omega)
  ·by_cases e2:r=top
   ·rw[e2];exact⟨col,by omega,hp⟩
   ·obtain⟨t,h1,h2⟩:=h.hi r (by omega);exact⟨t,by omega,h2⟩
  ·by_cases e2:r=top
   ·rw[e2];exact wX (h.ma top t (Ap _)) (by omega)
   ·exact h.m0 r t (by omega)
  ·by_cases e2:r=top
   ·rw[e2];exact wX (h.ua top t (Ap _)) (by omega)
   ·exact h.u0 r t (by omega)
  ·by_cases e2:t=top
   ·rw[e2];refine An (h.vt r) ?_;have e1:2^(D+E+e+4)=16*(2^(D+E)*2^e):=by rw[CA,CA,Ci]
    have e2:1*2^e<=2^(D+E)*2^e:=A8 _ Cd;have e3:2^(D+E)*1<=2^(D+E)*2^e:=BE _ Cd;have e4:i*2^(D+E)<=15*2^(D+E):=A8 _ (by omega);omega
   ·exact wX (h.vu r t (by omega)) (by omega)
 |n+1,i,w,hi,h,z,hp=>by
  have hs:=h.step hcol hR (by omega);have eM:∀{r t},i<r->r<R->t<c->ent (rdS R c col top i w).M r t=ent w.M r t:=λh1 hr ht=>by show ent (rZ R c w.M i top _) _ _=_;rw[iS hr ht,Ac (by omega)]
  obtain⟨w',h1,h2⟩:=bHo hcol hR hR2 he n (i+1) _ (by omega) hs (λr h1 h2=>by rw[eM (by omega) h2 hcol];exact z r h1 h2) (by rw[eM (by omega) hR hcol];exact hp);exact⟨w',.go i w w' (h.ok (by omega) he) (by omega) h1,h2⟩
def aWa(hR2:R<=15):∀(n col top e E D:Nat) (w:W3),n+col=c->top<=R->Gq R c A e E D col top w->e<=E->E<=D->itD (R-top) e E D<4160000000000->∃w' k e' E' D',Fo R c col top w w'/\k<=R/\e'<=E'/\E'<=D'/\Gq R c A e' E' D' c k w'/\(∀r t,k<=r->r<R->t<c->ent w'.M r t=0)/\itD (R-k) e' E' D'<=itD (R-top) e E D
 |0,col,top,e,E,D,w,hc,ht,g,hE,hD,hb=>by
  have:col=c:=by omega
  subst this;exact⟨w,top,e,E,D,.done col top w (g.ok ⟨hE,hD,Cu (aBc _ _ _ _) hb⟩) (by omega),ht,hE,hD,g,λr t h1 h2 h3=>g.low r t h1 h2 h3,Ap _⟩
 |n+1,col,top,e,E,D,w,hc,ht,g,hE,hD,hb=>by
  have hcol:col<c:=by omega
  by_cases hR:top<R
  ·obtain⟨m,hm⟩:∃m,R-top=m+1:=⟨R-top-1,by omega⟩;have hm2:R-(top+1)=m:=by omega
   have hb0:=hb;rw[hm]at hb;simp only[itD]at hb;have hb1:=Cu (aBc _ _ _ _) hb;obtain⟨w1,h3,g1,z1,q1,_⟩:=bLy (f:=e) hcol hR m (top+1) e w (by omega) (by omega) g (λr hr=>g.ma r col hr) (λr h1 h2=>by omega) (by omega);by_cases h4:ent w1.M top col=0
   ·have:w1=w:=q1.resolve_right λh=>h h4
    subst this;have g2:Gq R c A e E D (col+1) top w1:=⟨g.sh,g.eq,λr t h1 h2 h3=>by
     by_cases e2:t=col
     ·rw[e2];by_cases e3:r=top
      ·rw[e3];exact h4
      ·exact z1 r (by omega) h2
     ·exact g.low r t h1 h2 (by omega),λr hr=>let ⟨t,h1,h2⟩:=g.hi r hr;⟨t,by omega,h2⟩,g.ma,g.ua,g.va,g.mu,g.uu,g.vu⟩
    obtain⟨w',k,e',E',D',f1,f2,q2,q3,f3,f4,f5⟩:=aWa hR2 n (col+1) top e E D w1 (by omega) ht g2 hE hD hb0;exact⟨w',k,e',E',D',.zero col top w1 w1 w' hcol hR h3 h4 f1,f2,q2,q3,f3,f4,f5⟩
   ·have g2:=bYf g1 hcol hR;obtain⟨w2,h5,g3⟩:=bHo hcol hR hR2 (by omega) top 0 _ (by omega) (.init g2) (λr h1 h2=>(aMo hcol hR h2).2 (z1 r h1 h2)) (λh=>h4 ((aMo hcol hR hR).1 h));obtain⟨w',k,e',E',D',f1,f2,q2,q3,f3,f4,f5⟩:=aWa hR2 n (col+1) (top+1) _ _ _ w2 (by omega) (by omega) g3 (by omega) (by omega) (by rw[hm2];exact hb);refine⟨w',k,e',E',D',.piv col top w w1 w2 w' hcol hR h3 h4 h5 f1,f2,q2,q3,f3,f4,?_⟩;rw[hm2]at f5;rw[hm];simp only[itD];exact f5
  ·have:top=R:=by omega
   subst this;exact⟨w,top,e,E,D,.done col top w (g.ok ⟨hE,hD,Cu (aBc _ _ _ _) hb⟩) (by omega),ht,hE,hD,⟨g.sh,g.eq,λr t h1 h2 h3=>absurd h2 (by omega),λr hr=>let ⟨t,h1,h2⟩:=g.hi r hr;⟨t,by omega,h2⟩,g.ma,g.ua,g.va,g.mu,g.uu,g.vu⟩,λr t h1 h2 h3=>absurd h2 (by omega),Ap _⟩
end
def aMf:∀(v:List Int) (k:Nat),0<=pvF k v↔∃z∈v,z≠0
 |[],k=>by simp[pvF]
 |z::v,k=>by
  unfold pvF;by_cases h:z=0
  ·rw[Ad h,aMf v (k+1)];simp[h]
  ·rw[Ac h];exact⟨λ_=>⟨z,Av ..,h⟩,λ_=>by omega⟩
def bLj{v:List Int}{t:Nat}(h:v.getD t 0≠0):v.getD t 0∈v:=by
 rw[Af]at h ⊢;cases e:v[t]? with
 |none=>rw[e]at h;exact(h rfl).elim
 |some z=>exact Aq e
def yY{v:List Int}{z:Int}(h:z∈v):∃t,t<v.length/\v.getD t 0=z:=by obtain⟨t,ht,e⟩:=Bw h;exact⟨t,ht,by rw[Af,Ab ht,e];rfl⟩
def aDc{R c k:Nat}{M:List (List Int)}(hM:Sh R c M)(hk:k<=R)(hz:∀r t,k<=r->r<R->t<c->ent M r t=0)(hn:∀r,r<k->∃t,t<c/\ent M r t≠0):rkR M=k:=by
 unfold rkR;have hl:=hM.len;have e:(M.take k++M.drop k).filter (λv=>decide (0<=aVc v))=M.take k:=by
  rw[BQ,List.filter_eq_self.2,List.filter_eq_nil_iff.2,A7]
  ·intro v hv;obtain⟨i,hi,e⟩:=Bw hv;rw[List.getElem_drop]at e;have hi2:k+i<R:=by rw[Bl]at hi;omega
   intro h;obtain⟨z,hzv,hz0⟩:=(aMf v 0).1 (BH h);obtain⟨t,ht,et⟩:=yY hzv;have hvc:v.length=c:=hM.row v (CQ hv);refine hz0 ?_;rw[<-et];have:=hz (k+i) t (by omega) hi2 (by omega);unfold ent at this;rwa [Af (l:=M),Ab (by omega),Bd,e]at this
  ·intro v hv;obtain⟨i,hi,e⟩:=Bw hv;rw[List.getElem_take]at e;have hi2:i<k:=by rw[Ax]at hi;omega
   obtain⟨t,ht,ht0⟩:=hn i hi2;unfold ent at ht0;rw[Af (l:=M),Ab (by omega),Bd,e]at ht0;exact Bx ((aMf v 0).2 ⟨_,bLj ht0,ht0⟩)
 rw[List.take_append_drop]at e;rw[e,Ax];omega
def Be.mem{e:Nat}{M:List (List Int)}(h:Be e M)(he:e<4160000000000):∀v∈M,∀z∈v,Sz z:=λv hv z hz=>by obtain⟨i,hi,e1⟩:=Bw hv;obtain⟨t,ht,e2⟩:=yY hz;have:=h.sd he i t;unfold ent at this;rw[Af (l:=M),Ab hi,Bd,e1,e2]at this;exact An this (by decide)
def lC(R:Nat):Sh R R (idM R):=kS _ _ _
def sI{R r s:Nat}(hr:r<R)(hs:s<R):ent (idM R) r s=if r=s then 1 else 0:=sE _ hr hs
def sJ(R e:Nat):Be e (idM R):=Be.of (lC R) λr t hr ht=>by rw[sI hr ht];have:1<=2^e:=Cd;split<;>simp<;>omega
def aZs{R c e:Nat}{A:List (List Int)}(hA:Sh R c A)(hR:R<=15)(hB:Be e A)(he:itD R e e e<4160000000000) :
  ∃wf k e' E',Fo R c 0 0 ⟨A,idM R,idM R⟩ wf/\rkR wf.M=k/\k<=R/\wf.sh R c/\Be E' wf.M/\e'<=E'/\E'<4160000000000/\(∀r t,k<=r->(ent wf.U r t).natAbs<=2^e')/\itD (R-k) e' e' e'<=itD R e e e/\wR R c R wf.U A wf.M/\∀r t,k<=r->r<R->t<c->ent wf.M r t=0:=by
 have g:Gq R c A e e e 0 0 ⟨A,idM R,idM R⟩:=⟨⟨hA,lC R,lC R⟩,λr t hr ht=>by
  show sgm R (λj=>ent (idM R) r j*ent A j t)=ent A r t;rw[<-qH hr λj=>ent A j t];refine dL λj hj=>?_
  rw[sI hr hj];by_cases e:r=j
  ·rw[Ad e,Ad e.symm]
  ·rw[Ac e,Ac λh=>e h.symm],λr t _ _ h=>by omega,λr h=>by omega,λr t _=>hB r t,λr t _=>sJ R e r t,λr t _=>sJ R e r t,λr t h=>by omega,λr t h=>by omega,λr t h=>by omega⟩
 obtain⟨w',k,e',E',D',h1,h2,q1,q2,h3,h4,h5⟩:=aWa (A:=A) hR c 0 0 e e e _ (by omega) (Al _) g (Ap _) (Ap _) he
 have h6:=aBc (R-k) e' E' D'
 have h7:=aFs (m:=R-k) (Ap e') q1 (An q1 q2)
 refine⟨w',k,e',E',h1,aDc h3.sh.m h2 h4 h3.hi,h2,h3.sh,λr t=>?_,q1,by rw[Eo]at h5;omega,h3.ua,An h7 h5,h3.eq,h4⟩
 by_cases h:r<k
 ·exact h3.mu r t h
 ·exact wX (h3.ma r t (by omega)) q1
def bGn(n m:Nat)(f:Nat->Nat->Int):sgm n (λi=>sgm m (λj=>f i j))=sgm m (λj=>sgm n (λi=>f i j)):=by
 induction n with
 |zero=>exact(yE m).symm
 |succ n ih =>
  show sgm n _+sgm m _=_;rw[ih,<-vJ];rfl
def bGk(n:Nat)(k:Int)(f:Nat->Int):sgm n (λj=>f j*k)=sgm n f*k:=by rw[B7,<-yF];exact dL λj _=>B7 _ _
def aGk{k r s:Nat}{M:List (List Int)}:ent (M.drop k) r s=ent M (k+r) s:=by unfold ent;rw[Af (l:=M.drop k),List.getElem?_drop,Af (l:=M)]
structure aTt(R c E:Nat)(A L:List (List Int)):Prop where
 spec:Spec Aa 73 [eQ R c A] (eQ L.length R L)
 len:L.length<=R
 row:∀v∈L,v.length=R
 be:∀v∈L,∀z∈v,z.natAbs<=2^E
 ker:∀v∈L,∀t,t<c->sgm R (λj=>v.getD j 0*ent A j t)=0
def bBq{R c i j:Nat}{M:List (List Int)}(h:Sh R c M):rZ R c M i j 0=M :=
 (tF h λr t hr ht=>by unfold aXg;split<;>simp_all).symm
def bEs{R i j:Nat}{V:List (List Int)}(h:Sh R R V):aXf R V i j 0=V :=
 (tF h λr t hr ht=>by unfold bOb;split<;>simp_all).symm
def aFw(R:Nat):Ok R R ⟨idM R,idM R,idM R⟩ :=
 have h:B3 0 ⟨idM R,idM R,idM R⟩:=⟨sJ R 0,sJ R 0,sJ R 0⟩
 h.ok ⟨lC R,lC R,lC R⟩ (by decide)
def bWg{R col:Nat}(hc:col<R):∀(n i:Nat),n+i=R->col<i->Ei R R col col i ⟨idM R,idM R,idM R⟩ ⟨idM R,idM R,idM R⟩
 |0,i,h,_=>.done i _ (aFw R) (by omega)
 |n+1,i,h,h2=>.go i _ _ _ (by omega) (.done _ (aFw R) (by rw[sI (by omega) hc,Ac (by omega)])) (bWg hc n (i+1) (by omega) (by omega))
def bVr{R col:Nat}(hc:col<R):∀(n i:Nat),n+i=col->Rd R R col col i ⟨idM R,idM R,idM R⟩ ⟨idM R,idM R,idM R⟩
 |0,i,h=>.done i _ (aFw R) (by omega)
 |n+1,i,h=>.go i _ _ (aFw R) (by omega) (by
  have e:rdS R R col col i ⟨idM R,idM R,idM R⟩=⟨idM R,idM R,idM R⟩:=by unfold rdS W3.add;simp only;rw[sI (show i<R by omega) hc,Ac (by omega),Gp,Int.neg_zero,bBq (lC R),bEs (lC R)]
  rw[e];exact bVr hc n (i+1) (by omega))
def bWb{R:Nat}:∀(n col:Nat),n+col=R->Fo R R col col ⟨idM R,idM R,idM R⟩ ⟨idM R,idM R,idM R⟩
 |0,col,h=>.done col col _ (aFw R) (by omega)
 |n+1,col,h=>by
  have hc:col<R:=by omega
  have h1:ent (idM R) col col=1:=by rw[sI hc hc,Ad rfl]
  refine .piv col col _ _ _ _ hc hc (bWg hc (R-(col+1)) (col+1) (by omega) (by omega)) (by rw[h1];decide) ?_ (bWb n (col+1) (by omega));have e:ngS R R col col ⟨idM R,idM R,idM R⟩=⟨idM R,idM R,idM R⟩:=by unfold ngS;rw[h1,Ac (by decide)]
  rw[e];exact bVr hc col 0 (by omega)
def left_id{R:Nat}{A:List (List Int)}(hA:Sh R 0 A)(hR:R<=15):aTt R 0 0 A (idM R):=by
 have hr0:rkR A=0:=aDc hA (Al _) (λr t _ _ h=>by omega) (λr h=>by omega);have hr1:rkR (idM R)=R:=aDc (lC R) (Ap _) (λr t h1 h2 _=>by omega) (λr h=>⟨r,h,by rw[sI h h,Ad rfl];decide⟩);have hAs:∀v∈A,∀z∈v,Sz z:=λv hv z hz=>by have:=hA.row v hv;rw[AE this]at hz;cases hz
 have hb:B3 0 ⟨A,idM R,idM R⟩:=⟨λr t=>by rw[jN hA (by omega)];exact Al _,sJ R 0,sJ R 0⟩;have hIs:=(sJ R 0).mem (by decide);have hl:(idM R).length=R:=(lC R).len;have hd:(idM R).drop (rkR A)=idM R:=by rw[hr0];rfl
 have hS:=aQb (B:=idM R) (wf:=⟨A,idM R,idM R⟩) (wg:=⟨idM R,idM R,idM R⟩) hA hR (by decide) hAs (.done 0 0 _ (hb.ok ⟨hA,lC R,lC R⟩ (by decide)) (by omega)) hA (lC R) (by rw[hr0];omega) hd hIs
  (by rw[hr0];exact bWb R 0 rfl) (by rw[hr0];exact lC R)
 have e1:(idM R).take R=idM R:=Ai (by omega);simp only[hr1,e1]at hS;exact⟨by rw[hl];exact hS,by omega,(lC R).row,λv hv z hz=>by
  obtain⟨r,hr,e2⟩:=Bw hv;obtain⟨s,hs,e3⟩:=yY hz;have:=sJ R 0 r s;unfold ent at this;rwa [Af (l:=idM R),Ab hr,Bd,e2,e3]at this,λv hv t ht=>by omega⟩
def bRy{a b:List Int}{k:Nat}{z:Int}(hl:a.length=b.length)(hk:k<a.length)(hz:a[k]? = some z):(a.take k++b.drop k).set k z=a.take (k+1)++b.drop (k+1):=by
 have e:k-(a.take k).length=0:=by rw[Ax];omega
 rw[List.set_append_right _ _ (by rw[Ax];omega),e,AP (show k<b.length by omega),List.set_cons_zero,AM,hz];simp
def bJg{a b:List Int}{k:Nat}(hl:a.length=b.length)(hk:k<a.length)(hz:a[k]? = b[k]?):a.take k++b.drop k=a.take (k+1)++b.drop (k+1):=by rw[AM,AP (show k<b.length by omega),hz,Ab (by omega)];simp
def yI(ids:List Int)(x:List (Int×Int)):(wL ids x).length=ids.length:=by simp[wL]
def yJ{ids:List Int}{x:List (Int×Int)}{k:Nat}{q:Int}(h:ids[k]? = some q):(wL ids x)[k]? = some (lv q x):=by simp[wL,h]
def bHe(ids:List Int):wL ids []=AB ids.length 0:=by unfold wL;rw[List.map_eq_replicate_iff.2];intro n _;rfl
def bXk(x:List (Int×Int))(ids:List Int)(hl:x.length<=1000000)(hn:ids.length<=1000000):Spec Aa 95 [aK x,dV ids] (dQ (wL ids x)):=by
 refine bF (N:=42) Tryz.func95 ?_;have hmx:32*(ids.length:Int)<=281474976710656/\(ids.length:Int)<=9223372036854775807:=by omega
 have hmx2:ids.length<=maxLen:=aS (by omega);have hmx3:ids.length*32<=140737488355328:=by omega
 simp[-F,-I,↓KW,aK,dV,hmx,hmx2,hmx3];refine aP (λi:Nat=>i<=x.length) (λi=>StL [(0,.d (aK x)),(1,.d (dV ids)),(5,.own 1 0 ids.length 2),(6,.d (.i .i64 (i:Int)))] none [.cells 72 ((vcs (wL ids (x.take i))).map .d)]) (λi=>x.length-i) 0 (Al _) ?_ ?_
 ·have hz:=λ(H H':Hp) ρ=>aTw (H:=H) (H':=H') (ρ:=ρ) ids.length
  refine wkQ [1] ?_ ?_
  ·simp[-F,upd,aO,Γ0,aK,dV]
  ·rw[Cc,bHe];exact⟨⟨_,by simp[dU];rfl,fM.2 ⟨rfl,hz _ _ _⟩⟩,trivial⟩
 ·intro i hi;by_cases hgo:i<x.length
  ·have q1:(i:Int)<x.length:=by omega
   have hx:x[i]? = some x[i]:=Ab hgo;have hw:Ag.wrap ((i:Int)+1)=(i:Int)+1:=aV;have htk:=λq=>bSh hgo q
   have hra:=yI ids (x.take i);have hrb:=yI ids (x.take (i+1));have hrg:=λ(k:Nat) (q:Int) (h:ids[k]? = some q)=>yJ (x:=x.take i) h
   have hrg1:=λ(k:Nat) (q:Int) (h:ids[k]? = some q)=>yJ (x:=x.take (i+1)) h
   obtain⟨a,ha⟩:∃a,wL ids (x.take i)=a:=⟨_,rfl⟩;obtain⟨b,hb⟩:∃b,wL ids (x.take (i+1))=b:=⟨_,rfl⟩;rw[ha]at hra hrg;rw[hb]at hrb hrg1;simp only[ha];generalize x[i]=f at *;obtain⟨fn,fc⟩:=f;have hvl:=gY a;rw[hra]at hvl;simp[-F,-I,↓KW,aK,dV,q1];refine aP (λk:Nat=>k<=ids.length) (λk=>StL [(0,.d (aK x)),(1,.d (dV ids)),(5,.own 1 0 ids.length 2),(6,.d (.i .i64 (i:Int))),(7,.d (.i .i64 (k:Int)))] none [.cells 72 ((vcs (b.take k++a.drop k)).map .d)]) (λk=>ids.length-k) 0 (Al _) ?_ ?_
   ·refine wkQ [1] ?_ ?_<;>simp[-F,upd,aO,Γ0,aK,dV]
   ·intro k hk;have hml:(b.take k++a.drop k).length=ids.length:=by rw[Ak,Ax,Bl];omega
    by_cases hgk:k<ids.length
    ·have q2:(k:Int)<ids.length:=by omega
     have hy:ids[k]? = some ids[k]:=Ab hgk;have hwk:Ag.wrap ((k:Int)+1)=(k:Int)+1:=aV;have hm1:=bRy (a:=b) (b:=a) (k:=k) (z:=fc) (by omega) (by omega);have hm2:=bJg (a:=b) (b:=a) (k:=k) (by omega) (by omega);have hg1:=hrg k _ hy;have hg2:=hrg1 k _ hy;rw[htk]at hg2;generalize ids[k]=q at *;have hy':∀h:k<ids.length,ids[k]'h=q:=λh=>Br ((Ab h).symm.trans hy)
     obtain⟨v,hv⟩:∃v,b.take k++a.drop k=v:=⟨_,rfl⟩;obtain⟨v',hv'⟩:∃v,b.take (k+1)++a.drop (k+1)=v:=⟨_,rfl⟩;rw[hv,hv']at hm1 hm2;rw[hv]at hml;simp only[hv];have hvc:=gY v;rw[hml]at hvc;have hb2:k*2+2<=ids.length*2:=by omega
     have hlay:=mC (v:=v) fc (j:=k) (by omega);by_cases h0:q=fn
     ·have h0':((q==fn):Bool)=true:=by simpa using h0
      rw[Ad h0.symm]at hg2;rw[hm1 hg2]at hlay;subst h0;have q3:((q==q):Bool)=true:=by simp
      simp[-F,-I,↓KW,aK,dV,bE,q1,q2,hx,hy,h0',q3,hb2,hvc,hlay,hwk,hgk,hy',aD,aF,aG,aZ];refine aI (k+1) hgk (AF hgk (AK _)) (wkQ [1] ?_ ?_)<;>simp[-F,upd,aO,Γ0,aK,dV,hv',hvc]
     ·have h0':((q==fn):Bool)=false:=by simpa using h0
      rw[Ac λe=>h0 e.symm]at hg2;rw[hm2 (hg2.trans hg1.symm)];simp[-F,-I,↓KW,aK,dV,bE,q1,q2,hx,hy,h0,h0',hwk,aD,aF,aG,aZ];refine aI (k+1) hgk (AF hgk (AK _)) (wkQ [1] ?_ ?_)<;>simp[-F,upd,aO,Γ0,aK,dV,hv']
    ·have q2:¬(k:Int)<ids.length:=by omega
     have e:b.take k++a.drop k=b:=by rw[Ai (by omega),BA (by omega),A7]
     rw[e];simp[-F,-I,↓KW,aK,dV,q2,hw];refine aI (i+1) hgo (slQ hgo) (wkQ [1] ?_ ?_)<;>simp[-F,upd,aO,Γ0,aK,dV,hb]
  ·have q1:¬(i:Int)<x.length:=by omega
   rw[Ai (by omega)];have hfl:=gY (wL ids x);have hvl:=yI ids x;rw[hvl]at hfl;generalize wL ids x=out at *;simp[-F,-I,↓KW,aK,dV,dQ,q1,hfl,aKo hvl,xW hvl]
def aRp(c:List Cl)(k:Int):(tK c k).length=(cB c k).length:=by simp[tK]
def aFo{c:List Cl}{k:Int}{i:Nat}{q:Int}(h:(cB c k)[i]? = some q):(tK c k)[i]? = some (wL (cB c (k-1)) (bOf c q)):=by simp[tK,h]
def bdS(c:List Cl)(R:List Int)(cs:List Int)(M:List (List Int)):Nat->St
 |0=>StL [(0,.d (aE c)),(4,.ptr 1 0),(5,.d (dV R)),(6,.d (dV cs)),(7,.ptr 2 0),(8,.d (.i .i64 0))] none [.cells 136 [.d (.i .i64 0),.d (.i .i64 0),.nil],.cells 136 [.d (.i .i64 R.length),.d (.i .i64 cs.length),.nil]]
 |i+1=>StL [(0,.d (aE c)),(4,.ptr 1 0),(5,.d (dV R)),(6,.d (dV cs)),(7,.ptr 2 0),(8,.d (.i .i64 ((i:Int)+1)))] none [.cells 136 [.d (.i .i64 0),.d (.i .i64 0),.nil],.cells 136 [.d (.i .i64 R.length),.d (.i .i64 cs.length),.own 3 0 (i+1) 1],.cells 140 (((M.take (i+1)).map dQ).map .d)]
def aJh(v:List Int):one (.d (dQ v))=true:=rfl
def zU(v:List Int):fN (.d (dQ v))=some [.d (dQ v)]:=rfl
def aFv(v:List Int):aO (dQ v)=.d (dQ v):=rfl
def aKd(v:List Int):inj (dQ v)=.d (dQ v):=rfl
def aCf(H:Hp)(avs:List AV)(v:List Int):bS H avs (dQ v)=fK H avs:=rfl
def aQa(c:List Cl)(k:Int)(hk:-1000<=k/\k<=1000)(hl:c.length<=1000)(hb:∀x∈c,x.b.length<=1000000) :
  Spec Aa 74 [aE c,.i .i64 k] (eQ (cB c k).length (cB c (k-1)).length (tK c k)):=by
 refine bF (N:=48) Tryz.func74 ?_
 have h1:=aEv c k (by omega)
 have h2:=aEv c (k-1) (by omega)
 have hwk:Ag.wrap (k-1)=k-1:=aV
 have hml:=aRp c k
 have hmg:=λi q h=>aFo (c:=c) (k:=k) (i:=i) (q:=q) h
 have hrl:=nW c k
 have hcl:=nW c (k-1)
 generalize cB c (k-1)=cs at *
 generalize cB c k=R at *
 generalize tK c k=M at *
 have hfnd:=λn=>gC c n (by omega)
 have hbl:∀n,(bOf c n).length<=1000000:=λn=>by
  unfold bOf;cases e:bG c n with
  |none=>exact Al _
  |some x=>exact hb x (dF e).1
 have hrow:=λn=>bXk (bOf c n) cs (hbl n) (by omega)
 simp[-F,-I,↓KW,aE]
 refine aJ h1 ?_
 simp[-F,-I,↓KW,aE,dV,hwk]
 refine aJ h2 ?_
 simp[-F,-I,↓KW,aE,dV]
 refine aP (λi:Nat=>i<=R.length) (bdS c R cs M) (λi=>R.length-i) 0 (Al _) ?_ ?_
 ·refine wkQ [1,2] ?_ ?_<;>simp[-F,upd,aO,Γ0,aE,dV,bdS]
 ·intro i hi
  by_cases hgo:i<R.length
  ·have hx:R[i]? = some R[i]:=Ab hgo
   have hm:=hmg i _ hx
   have htk:M.take (i+1)=M.take i++[wL cs (bOf c R[i])]:=by rw[AM,hm];rfl
   have hF:=hfnd R[i]
   have hR:=hrow R[i]
   generalize R[i]=q at *
   have hnb:((bG c q).getD lA).b=bOf c q:=rfl
   unfold oT at hF
   generalize((bG c q).getD lA)=y at *
   generalize(bG c q).isSome=t at *
   obtain⟨yi,yd,yb⟩:=y
   simp only at hnb
   subst hnb
   generalize wL cs (bOf c q)=row at *
   generalize bOf c q=yb at *
   rcases i with _|i
   ·have q1:0<R.length:=hgo
    rw[Cc,List.nil_append]at htk
    have hx':∀h:0<R.length,R[0]'h=q:=λh=>Br ((Ab h).symm.trans hx)
    have hh:R.head? = some q:=by rw[List.head?_eq_getElem?];exact hx
    have hw:Ag.wrap 1=1:=by decide
    have hm1:(1:Nat)<=maxLen:=aS (by decide)
    unfold bdS
    simp[-F,-I,↓KW,aE,dV,q1,hx,hx',hh]
    refine aJ hF ?_
    simp[-F,-I,↓KW,aE,dV,aN,aC,aA,aB,aQ]
    refine aJ hR ?_
    simp[-F,-I,↓KW,aE,dV,aN,hw,hm1,aC,aA,aB,aQ,aJh,zU,aFv,aKd,aCf]
    refine aI (0+1) hgo (slQ hgo) ?_
    simp only[bdS]
    refine wkQ [1,2,5] ?_ ?_<;>simp[-F,upd,aO,Γ0,aE,dV,htk,wV]
   ·have q1:(i:Int)+1<R.length:=by omega
    have q0:(0:Int)<=(i:Int)+1:=by omega
    have hx':∀h:i+1<R.length,R[i+1]'h=q:=λh=>Br ((Ab h).symm.trans hx)
    have hw:Ag.wrap ((i:Int)+1+1)=(i:Int)+1+1:=aV
    have hbb:=cH (n:=i+1) (by omega)
    have hb8:(i+1+1)*24<=140737488355328:=by omega
    have hml1:(M.take (i+1)).length=i+1:=by rw[Ax];omega
    have hml2:((M.take (i+1)).map dQ).length=i+1:=by rw[AL];exact hml1
    unfold bdS
    simp only[]
    generalize M.take (i+1)=out at *
    simp[-F,-I,↓KW,aE,dV,q1,q0,hx,hx']
    refine aJ hF ?_
    simp[-F,-I,↓KW,aE,dV,aN,aC,aA,aB,aQ]
    refine aJ hR ?_
    simp[-F,-I,↓KW,aE,dV,aN,hw,hbb,hb8,hml1,hml2,aS,aC,aA,aB,aQ,aJh,zU,aFv,aKd,aCf]
    refine aI (i+1+1) hgo (slQ hgo) ?_
    simp only[bdS]
    refine wkQ [1,2,6] ?_ ?_<;>simp[-F,upd,aO,Γ0,aE,dV,htk,wV]
  ·have e:i=R.length:=by omega
   rcases i with _|i
   ·have q1:¬0<R.length:=by omega
    have eM:M=[]:=AE (by omega)
    unfold bdS
    simp[-F,-I,↓KW,aE,dV,q1,eM,eQ]
   ·have q1:¬(i:Int)+1<R.length:=by omega
    have e2:M.take (i+1)=M:=Ai (by omega)
    have e3:(M.map dQ).length=i+1:=by rw[AL];omega
    have e4:chunk 1 (i+1) (M.map dQ)=M.map λv=>[dQ v]:=by rw[wF _ _ e3.symm,CC];rfl
    have e5:BB (i+1) ((M.map dQ).map AV.d)=(M.map dQ).map AV.d:=Ai (by simp;omega)
    have e6:M.length=i+1:=by omega
    unfold bdS
    simp[-F,-I,↓KW,aE,dV,q1,e2,e3,e4,e5,e6,eQ]
def uP{e n:Nat}(h:n<=2^e)(he:e<4398046511104):(aU n).length<=137438953472:=by have:=oC (z:=(n:Int)) (E:=e) (by simpa using h) 137438953472 (by omega);simpa using this
def szE{e:Nat}{z:Int}(h:z.natAbs<=2^e)(he:e<4398046511104):Sz z:=uP h he
def pG(a b:Nat):2^a*2^b=2^(a+b):=(CA 2 a b).symm
def yL{a b:Nat}(h:a<=b):2^a<=2^b:=BW (by decide) h
def tW{n l x:Nat}(h:n<=2^l):n*2^x<=2^(l+x):=by rw[<-pG];exact A8 _ h
def Bnd.pw{a b:Nat}{l:List (Int×Int)}(h:Bnd (2^a) l)(k:a<=b):Bnd (2^b) l:=h.mono (yL k)
def Bnd.sz{e:Nat}{l:List (Int×Int)}(h:Bnd (2^e) l)(he:e<4398046511104):∀x∈l,Sz x.2:=λx hx=>szE (h x hx) he
def yV(k:Int)(b:List (Int×Int)):(mulR k b).length=b.length:=by simp[mulR]
def nQ{c:List Cl}{L:Nat}(hb:∀x∈c,x.b.length<=L)(n:Int):(bOf c n).length<=L:=by
 unfold bOf;cases e:bG c n with
 |none=>exact Al _
 |some x=>exact hb x (dF e).1
def mN{c:List Cl}{M:Nat}(hb:∀x∈c,Bnd M x.b)(n:Int):Bnd M (bOf c n):=by
 unfold bOf;cases e:bG c n with
 |none=>exact Bnd.nil M
 |some x=>exact hb x (dF e).1
def bAj{c:List Cl}{L:Nat}(hb:∀x∈c,x.b.length<=L):∀x:List (Int×Int),(bdL c x).length<=x.length*L
 |[]=>Al _
 |f::x=>by have:=bAj hb x;have h2:=nQ hb f.1;show(mulR f.2 (bOf c f.1)++bdL c x).length<=_;rw[Ak,yV,AH,C7];omega
def bAk{c:List Cl}{K M:Nat}(hb:∀x∈c,Bnd M x.b):∀{x:List (Int×Int)},Bnd K x->Bnd (K*M) (bdL c x)
 |[],_=>Bnd.nil _
 |f::x,h=>(pI (h f (Av ..)) (mN hb f.1)).app (bAk hb λy hy=>h y (Au _ hy))
structure SzX(f:Nat)(c:List Cl):Prop where
 len:c.length<=100
 bl:∀x∈c,x.b.length<=100
 bb:∀x∈c,Bnd (2^f) x.b
def bNk{f g:Nat}{c:List Cl}{x:List (Int×Int)}(hc:SzX f c)(hx:x.length<=100)(hg:Bnd (2^g) x):(bdL c x).length<=10000/\Bnd (2^(f+g)) (bdL c x):=by refine⟨An (bAj hc.bl x) (by omega),?_⟩;have:=bAk hc.bb hg;rwa [pG,CB]at this
def bFa{ids v:List Int}{i:Nat}(h1:i<ids.length)(h2:i<v.length):(ids.zip v).take (i+1)=(ids.zip v).take i++[(ids[i],v[i])]:=by
 have h:i<(ids.zip v).length:=by rw[FP];omega
 rw[AM,Ab h,List.getElem_zip];rfl
def bOw{ids v:List Int}{M:Nat}(h:∀z∈v,z.natAbs<=M):Bnd M (ids.zip v):=λx hx=>h _ (List.of_mem_zip hx).2
def Bnd.take{M i:Nat}{l:List (Int×Int)}(h:Bnd M l):Bnd M (l.take i):=λx hx=>h x (List.mem_of_mem_take hx)
def bHs{g:Nat}(c:List Cl)(k:Int)(v:List Int)(hl:c.length<=100)(hv:∀z∈v,z.natAbs<=2^g)(hg:g+20<4398046511104) :
  Spec Aa 96 [aE c,.i .i64 k,dQ v] (.tp [aK (chX c k v).1,.i .i64 (chX c k v).2]):=by
 have hI:=aEv c k (by omega)
 have hil:=nW c k
 by_cases he:v.length=(cB c k).length
 ·have hr:chX c k v=(cF [] ((cB c k).zip v),0):=by unfold chX;rw[Ad he]
  rw[hr]
  clear hr
  generalize cB c k=ids at *
  have hb:=bOw (ids:=ids) hv
  have he':(((v.length:Int) != ids.length):Bool)=false:=by simp;omega
  refine bF (N:=38) Tryz.func96 ?_
  simp[-F,-I,↓KW,aE,dQ]
  refine aJ hI ?_
  simp[-F,-I,↓KW,aE,dV,he']
  refine aP (λi:Nat=>i<=v.length) (λi=>StL [(2,.d (dQ v)),(8,.d (dV ids)),(9,.d (aK (cF [] ((ids.zip v).take i)))),(10,.d (.i .i64 (i:Int)))] none []) (λi=>v.length-i) 0 (Al _) ?_ ?_
  ·refine wkQ [] ?_ ?_
   ·simp[-F,upd,aO,Γ0,dQ,dV,aK,cF]
    exact qE (by simp[jA,upd,sS]) (λa _ id h=>by simp[qA]at h)
   ·trivial
  ·intro i hi
   by_cases hgo:i<v.length
   ·have q1:(i:Int)<v.length:=by omega
    have hgi:i<ids.length:=by omega
    have hx:v[i]? = some v[i]:=Ab hgo
    have hy:ids[i]? = some ids[i]:=Ab hgi
    have hz:=hv _ (Ar hgo)
    have htk:cF [] ((ids.zip v).take (i+1))=oS (cF [] ((ids.zip v).take i)) (ids[i],v[i]):=by rw[bFa hgi hgo,aTm];rfl
    have ho:=mP ((ids.zip v).take i) [] (Bnd.nil 0) hb.take
    have hol:=oB [] ((ids.zip v).take i)
    have hzl:((ids.zip v).take i).length<=100:=by rw[Ax,FP];omega
    have hw:Ag.wrap ((i:Int)+1)=(i:Int)+1:=aV
    have hob:Bnd (2^(7+g)) (cF [] ((ids.zip v).take i)):=ho.mono (by
     have:=tW (x:=g) (An hzl (show 100<=2^7 by decide));omega)
    generalize cF [] ((ids.zip v).take i)=out at *
    generalize v[i]=z at *
    generalize ids[i]=q at *
    have hin:=aAy out q z (szE hz (by omega)) (hob.sz (by omega)) (by simp only[Bq]at hol;omega)
    simp[-F,-I,↓KW,dQ,dV,aNb,q1,hx,hy,aD,aF]
    refine aJ hin ?_
    simp[-F,-I,↓KW,aK,hw]
    refine aI (i+1) hgo (slQ hgo) (wkQ [] ?_ ?_)
    ·simp[-F,upd,aO,Γ0,dQ,dV,aK,htk]
    ·trivial
   ·have q1:¬(i:Int)<v.length:=by omega
    rw[Ai (by rw[FP];omega)]
    generalize cF [] (ids.zip v)=out at *
    simp[-F,-I,↓KW,dQ,dV,aK,q1,cD]
 ·have hr:chX c k v=([],50):=by unfold chX;rw[Ac he]
  rw[hr]
  clear hr
  generalize cB c k=ids at *
  have he':(((v.length:Int) != ids.length):Bool)=true:=by simp;omega
  refine bF (N:=38) Tryz.func96 ?_
  simp[-F,-I,↓KW,aE,dQ]
  refine aJ hI ?_
  simp[-F,-I,↓KW,aE,dV,aK,he',cD]
def cAy{g:Nat}(c:List Cl)(k:Int)(v:List Int)(hl:c.length<=100)(hv:∀z∈v,z.natAbs<=2^g)(hg:g+20<4398046511104) :
  Spec Aa 75 [aE c,.i .i64 k,dQ v] (aK (chX c k v).1):=by
 refine bF (N:=17) Tryz.func75 ?_
 have h:=bHs c k v hl hv hg
 generalize(chX c k v).1=out at *
 generalize(chX c k v).2=e at *
 simp[-F,-I,↓KW,aE,dQ]
 refine aJ h ?_
 simp[-F,-I,↓KW,aK]
def kW(l:List Int):D:=.sl (l.map λn=>[.i .i64 n])
def prs:List Int->List (Int×Int)
 |a::b::l=>(a,b)::prs l
 |_=>[]
def aQi:∀(l:List Int) (i:Nat),2*i+1<l.length->prs (l.drop (2*i))=(l.getD (2*i) 0,l.getD (2*i+1) 0)::prs (l.drop (2*(i+1)))
 |[],i,h=>by simp at h
 |[a],i,h=>by simp at h
 |a::b::l,0,h=>rfl
 |a::b::l,i+1,h=>by have:=aQi l i (by simp only[AH]at h;omega);rw[show 2*(i+1)=2*i+1+1 by omega,show 2*(i+1+1)=2*(i+1)+1+1 by omega];simp only[List.drop_succ_cons,List.getD_cons_succ];exact this
def bCf{l:List Int}(h:l.length<=1):prs l=[]:=by
 rcases l with _|⟨a,_|⟨b,l⟩⟩
 ·rfl
 ·rfl
 ·simp at h
def fS(id dim:Int)(l:List Int)(hl:l.length<=100)(hb:∀z∈l,-1000<=z/\z<=1000):Spec Aa 53 [.i .i64 id,.i .i64 dim,kW l] (.ag (aN ⟨id,dim,cF [] (prs l)⟩)):=by
 refine bF (N:=34) Tryz.func53 ?_;simp[-F,-I,↓KW,kW];refine aP (λy:Nat×List (Int×Int)=>2*y.1<=l.length+1/\cF y.2 (prs (l.drop (2*y.1)))=cF [] (prs l)/\y.2.length<=y.1/\Bnd (y.1*1000) y.2) (λy=>StL [(0,.d (.i .i64 id)),(1,.d (.i .i64 dim)),(2,.d (kW l)),(6,.ptr 1 0),(7,.d (aK y.2)),(8,.d (.i .i64 ((2*y.1:Nat):Int)))] none [.cells 40 [.d (.i .i64 0),.d (.i .i64 0),.nil]]) (λy=>l.length+1-2*y.1) (0,[]) ⟨Al _,rfl,Al _,Bnd.nil _⟩ ?_ ?_
 ·refine wkQ [1] ?_ ?_
  ·simp[-F,upd,aO,Γ0,kW,aK];exact qE (by simp[jA,upd,sS]) (λa ha id h=>by
    simp[upd]at ha;by_cases e:id=1
    ·subst e;rw[ha];show(1:Nat)≠2;decide
    ·simp[qA,upd,e]at h)
  ·simp[-F,upd,aO,Γ0,kW,aK]
 ·rintro⟨i,out⟩ ⟨hi,ho,hol,hob⟩;simp only at hi ho hol hob ⊢;have hw1:Ag.wrap (((2*i:Nat):Int)+1)=((2*i:Nat):Int)+1:=aV;have hw2:Ag.wrap (((2*i:Nat):Int)+2)=((2*i:Nat):Int)+2:=aV;by_cases hgo:2*i+1<l.length
  ·have q1:((2*i:Nat):Int)+1<l.length:=by omega
   have hg2:2*i<l.length:=by omega
   have hx:l[2*i]? = some (l.getD (2*i) 0):=by rw[Af,Ab hg2];rfl
   have hy:l[2*i+1]? = some (l.getD (2*i+1) 0):=by rw[Af,Ab hgo];rfl
   have hbx:=hb _ (Aq hx);have hby:=hb _ (Aq hy);rw[aQi l i hgo]at ho;generalize l.getD (2*i) 0=a at *;generalize l.getD (2*i+1) 0=b at *;have hof:=tE b (by omega) (by omega);have hin:=aAy out a b (szE (e:=10) (by omega) (by decide)) (λx hx=>szE (e:=20) (An (hob x hx) (by omega)) (by decide)) (by omega);have hnb:Bnd ((i+1)*1000) (oS out (a,b)):=(aRw (K:=1000) hob (by show b.natAbs<=1000;omega)).mono (by omega);have hnl:=aKc out (a,b);have ec:(((2*i:Nat):Int)+2)=((2*(i+1):Nat):Int):=by omega
   have ec1:(((2*i:Nat):Int)+1)=((2*i+1:Nat):Int):=by omega
   rw[ec1]at hw1 q1;rw[ec]at hw2;generalize hm1:2*i+1=m1 at *;generalize hm2:2*(i+1)=m2 at *;generalize hm:2*i=m at *;simp[-F,-I,↓KW,kW,hw1,q1,hx,hy,ec1];refine aJ hof ?_;rw[aY];simp[-F,-I,↓KW,aK,aD,aF,aG,aZ,aW];refine aJ hin ?_;simp[-F,-I,↓KW,aK,hw2,ec];refine aI (i+1,oS out (a,b)) ⟨by omega,by rw[hm2];exact ho,by simp only;omega,hnb⟩ (by simp only;omega) (wkQ [1] ?_ ?_)
   ·simp[-F,upd,aO,Γ0,kW,aK,hm2];omega
   ·simp[-F,upd,aO,Γ0,kW,aK,hm2]
  ·have q1:¬((2*i:Nat):Int)+1<l.length:=by omega
   rw[bCf (by rw[Bl];omega)]at ho;generalize hm:2*i=m at *;rw[<-ho];have e:cF out []=out:=rfl;rw[e];simp[-F,-I,↓KW,kW,aN,aK,hw1,q1]
def spc:Nat->List Cl
 |0=>[]
 |1=>[⟨1,0,[]⟩]
 |2=>[⟨1,0,[]⟩,⟨7,0,[]⟩]
 |3=>[⟨1,0,[]⟩,⟨2,0,[]⟩,⟨3,1,[(1,-1),(2,1)]⟩]
 |4=>[⟨1,0,[]⟩,⟨2,1,[]⟩]
 |5=>[⟨1,0,[]⟩,⟨2,0,[]⟩,⟨3,0,[]⟩,⟨4,1,[(1,-1),(2,1)]⟩,⟨5,1,[(2,-1),(3,1)]⟩,⟨6,1,[(1,1),(3,-1)]⟩]
 |6=>[⟨1,0,[]⟩,⟨2,0,[]⟩,⟨3,0,[]⟩,⟨4,1,[(1,-1),(2,1)]⟩,⟨5,1,[(2,-1),(3,1)]⟩,⟨6,1,[(1,1),(3,-1)]⟩,⟨9,2,[(4,1),(5,1),(6,1)]⟩]
 |7=>[⟨1,0,[]⟩,⟨2,2,[]⟩]
 |8=>[⟨1,0,[]⟩,⟨2,1,[]⟩,⟨3,1,[]⟩,⟨4,2,[]⟩]
 |9=>[⟨1,0,[]⟩,⟨2,1,[]⟩,⟨3,2,[(2,2)]⟩]
 |10=>[⟨1,0,[]⟩,⟨2,1,[]⟩,⟨3,1,[]⟩,⟨4,2,[(2,2)]⟩]
 |11=>[⟨1,0,[]⟩,⟨2,1,[]⟩,⟨3,2,[(2,3)]⟩,⟨4,3,[]⟩]
 |12=>[⟨1,0,[]⟩,⟨2,1,[]⟩,⟨3,2,[(2,4)]⟩,⟨4,2,[(2,6)]⟩]
 |13=>[⟨1,0,[]⟩,⟨2,1,[]⟩,⟨3,0,[]⟩,⟨5,1,[]⟩,⟨6,2,[(5,2)]⟩]
 |_=>[]
def cCx:Spec Aa 53 [.i .i64 1,.i .i64 0,kW []] (.ag [.i .i64 1,.i .i64 0,aK []]):=fS 1 0 [] (by decide) (by decide)
def cCw:Spec Aa 53 [.i .i64 2,.i .i64 1,kW []] (.ag [.i .i64 2,.i .i64 1,aK []]):=fS 2 1 [] (by decide) (by decide)
def bWi:Spec Aa 53 [.i .i64 2,.i .i64 0,kW []] (.ag [.i .i64 2,.i .i64 0,aK []]):=fS 2 0 [] (by decide) (by decide)
def bWh:Spec Aa 53 [.i .i64 3,.i .i64 0,kW []] (.ag [.i .i64 3,.i .i64 0,aK []]):=fS 3 0 [] (by decide) (by decide)
def cCv:Spec Aa 53 [.i .i64 4,.i .i64 1,kW [1,-1,2,1]] (.ag [.i .i64 4,.i .i64 1,aK [(1,-1),(2,1)]]):=fS 4 1 [1,-1,2,1] (by decide) (by decide)
def cCu:Spec Aa 53 [.i .i64 5,.i .i64 1,kW [2,-1,3,1]] (.ag [.i .i64 5,.i .i64 1,aK [(2,-1),(3,1)]]):=fS 5 1 [2,-1,3,1] (by decide) (by decide)
def cCt:Spec Aa 53 [.i .i64 6,.i .i64 1,kW [1,1,3,-1]] (.ag [.i .i64 6,.i .i64 1,aK [(1,1),(3,-1)]]):=fS 6 1 [1,1,3,-1] (by decide) (by decide)
def cCs:Spec Aa 53 [.i .i64 7,.i .i64 0,kW []] (.ag [.i .i64 7,.i .i64 0,aK []]):=fS 7 0 [] (by decide) (by decide)
def cCr:Spec Aa 53 [.i .i64 3,.i .i64 1,kW [1,-1,2,1]] (.ag [.i .i64 3,.i .i64 1,aK [(1,-1),(2,1)]]):=fS 3 1 [1,-1,2,1] (by decide) (by decide)
def cCq:Spec Aa 53 [.i .i64 9,.i .i64 2,kW [4,1,5,1,6,1]] (.ag [.i .i64 9,.i .i64 2,aK [(4,1),(5,1),(6,1)]]):=fS 9 2 [4,1,5,1,6,1] (by decide) (by decide)
def bZw:Spec Aa 53 [.i .i64 2,.i .i64 2,kW []] (.ag [.i .i64 2,.i .i64 2,aK []]):=fS 2 2 [] (by decide) (by decide)
def bMu:Spec Aa 53 [.i .i64 3,.i .i64 1,kW []] (.ag [.i .i64 3,.i .i64 1,aK []]):=fS 3 1 [] (by decide) (by decide)
def bZv:Spec Aa 53 [.i .i64 4,.i .i64 2,kW []] (.ag [.i .i64 4,.i .i64 2,aK []]):=fS 4 2 [] (by decide) (by decide)
def bZu:Spec Aa 53 [.i .i64 3,.i .i64 2,kW [2,2]] (.ag [.i .i64 3,.i .i64 2,aK [(2,2)]]):=fS 3 2 [2,2] (by decide) (by decide)
def bZt:Spec Aa 53 [.i .i64 4,.i .i64 2,kW [2,2]] (.ag [.i .i64 4,.i .i64 2,aK [(2,2)]]):=fS 4 2 [2,2] (by decide) (by decide)
def bZs:Spec Aa 53 [.i .i64 3,.i .i64 2,kW [2,3]] (.ag [.i .i64 3,.i .i64 2,aK [(2,3)]]):=fS 3 2 [2,3] (by decide) (by decide)
def bZr:Spec Aa 53 [.i .i64 4,.i .i64 3,kW []] (.ag [.i .i64 4,.i .i64 3,aK []]):=fS 4 3 [] (by decide) (by decide)
def bZq:Spec Aa 53 [.i .i64 3,.i .i64 2,kW [2,4]] (.ag [.i .i64 3,.i .i64 2,aK [(2,4)]]):=fS 3 2 [2,4] (by decide) (by decide)
def bZp:Spec Aa 53 [.i .i64 4,.i .i64 2,kW [2,6]] (.ag [.i .i64 4,.i .i64 2,aK [(2,6)]]):=fS 4 2 [2,6] (by decide) (by decide)
def bZo:Spec Aa 53 [.i .i64 5,.i .i64 1,kW []] (.ag [.i .i64 5,.i .i64 1,aK []]):=fS 5 1 [] (by decide) (by decide)
def bZn:Spec Aa 53 [.i .i64 6,.i .i64 2,kW [5,2]] (.ag [.i .i64 6,.i .i64 2,aK [(5,2)]]):=fS 6 2 [5,2] (by decide) (by decide)
def bXd(k:Int)(j:Nat)(hj:j<14)(hk:k.tmod 14=(j:Int)):Spec Aa 54 [.i .u8 k] (aE (spc j)):=by
 have hm2:∀n,n<=100->n<=maxLen:=λn h=>aS (by omega)
 refine bF (N:=104) Tryz.func54 ?_;simp[-F,-I,↓KW];refine aJ cCx ?_;simp[-F,-I,↓KW,hm2,aC,aA,aB,aQ];refine aJ cCw ?_;simp[-F,-I,↓KW,hm2,aC,aA,aB,aQ];refine aJ bWi ?_;simp[-F,-I,↓KW,hm2,aC,aA,aB,aQ];refine aJ bWh ?_;simp[-F,-I,↓KW,hm2,aC,aA,aB,aQ];refine aJ cCv ?_;simp[-F,-I,↓KW,hm2,aC,aA,aB,aQ];refine aJ cCu ?_;simp[-F,-I,↓KW,hm2,aC,aA,aB,aQ];refine aJ cCt ?_;rcases(show j=0\/j=1\/j=2\/j=3\/j=4\/j=5\/j=6\/j=7\/j=8\/j=9\/j=10\/j=11\/j=12\/j=13 by omega)with rfl|rfl|rfl|rfl|rfl|rfl|rfl|rfl|rfl|rfl|rfl|rfl|rfl|rfl
 ·have hw:BO.wrap 0=0:=by decide
  simp[-F,-I,↓KW,hk,hw,hm2,aC,aA,aB,aQ]<;>rfl
 ·have hw:BO.wrap 1=1:=by decide
  simp[-F,-I,↓KW,hk,hw,hm2,aC,aA,aB,aQ]<;>rfl
 ·have hw:BO.wrap 2=2:=by decide
  simp[-F,-I,↓KW,hk,hw,hm2,aC,aA,aB,aQ];refine aJ cCs ?_;simp[-F,-I,↓KW,hk,hw,hm2,aC,aA,aB,aQ]<;>rfl
 ·have hw:BO.wrap 3=3:=by decide
  simp[-F,-I,↓KW,hk,hw,hm2,aC,aA,aB,aQ];refine aJ bWi ?_;simp[-F,-I,↓KW,hk,hw,hm2,aC,aA,aB,aQ];refine aJ cCr ?_;simp[-F,-I,↓KW,hk,hw,hm2,aC,aA,aB,aQ]<;>rfl
 ·have hw:BO.wrap 4=4:=by decide
  simp[-F,-I,↓KW,hk,hw,hm2,aC,aA,aB,aQ]<;>rfl
 ·have hw:BO.wrap 5=5:=by decide
  simp[-F,-I,↓KW,hk,hw,hm2,aC,aA,aB,aQ]<;>rfl
 ·have hw:BO.wrap 6=6:=by decide
  simp[-F,-I,↓KW,hk,hw,hm2,aC,aA,aB,aQ];refine aJ cCq ?_;simp[-F,-I,↓KW,hk,hw,hm2,aC,aA,aB,aQ]<;>rfl
 ·have hw:BO.wrap 7=7:=by decide
  simp[-F,-I,↓KW,hk,hw,hm2,aC,aA,aB,aQ];refine aJ bZw ?_;simp[-F,-I,↓KW,hk,hw,hm2,aC,aA,aB,aQ]<;>rfl
 ·have hw:BO.wrap 8=8:=by decide
  simp[-F,-I,↓KW,hk,hw,hm2,aC,aA,aB,aQ];refine aJ bMu ?_;simp[-F,-I,↓KW,hk,hw,hm2,aC,aA,aB,aQ];refine aJ bZv ?_;simp[-F,-I,↓KW,hk,hw,hm2,aC,aA,aB,aQ]<;>rfl
 ·have hw:BO.wrap 9=9:=by decide
  simp[-F,-I,↓KW,hk,hw,hm2,aC,aA,aB,aQ];refine aJ bZu ?_;simp[-F,-I,↓KW,hk,hw,hm2,aC,aA,aB,aQ]<;>rfl
 ·have hw:BO.wrap 10=10:=by decide
  simp[-F,-I,↓KW,hk,hw,hm2,aC,aA,aB,aQ];refine aJ bMu ?_;simp[-F,-I,↓KW,hk,hw,hm2,aC,aA,aB,aQ];refine aJ bZt ?_;simp[-F,-I,↓KW,hk,hw,hm2,aC,aA,aB,aQ]<;>rfl
 ·have hw:BO.wrap 11=11:=by decide
  simp[-F,-I,↓KW,hk,hw,hm2,aC,aA,aB,aQ];refine aJ bZs ?_;simp[-F,-I,↓KW,hk,hw,hm2,aC,aA,aB,aQ];refine aJ bZr ?_;simp[-F,-I,↓KW,hk,hw,hm2,aC,aA,aB,aQ]<;>rfl
 ·have hw:BO.wrap 12=12:=by decide
  simp[-F,-I,↓KW,hk,hw,hm2,aC,aA,aB,aQ];refine aJ bZq ?_;simp[-F,-I,↓KW,hk,hw,hm2,aC,aA,aB,aQ];refine aJ bZp ?_;simp[-F,-I,↓KW,hk,hw,hm2,aC,aA,aB,aQ]<;>rfl
 ·have hw:BO.wrap 13=13:=by decide
  simp[-F,-I,↓KW,hk,hw,hm2,aC,aA,aB,aQ];refine aJ bWh ?_;simp[-F,-I,↓KW,hk,hw,hm2,aC,aA,aB,aQ];refine aJ bZo ?_;simp[-F,-I,↓KW,hk,hw,hm2,aC,aA,aB,aQ];refine aJ bZn ?_;simp[-F,-I,↓KW,hk,hw,hm2,aC,aA,aB,aQ]<;>rfl
def nZ(l:List (List (Int×Int))):D:=.sl (l.map λx=>[aK x])
def aVa(c:List Cl)(k:Int)(hk:k<0):Spec Aa 55 [aE c,.i .i64 k] (nZ []):=by refine bF (N:=34) Tryz.func55 ?_;simp[-F,-I,↓KW,aE,nZ,hk]
def bBw{E:Nat}(c:List Cl)(k:Int)(L:List (List Int))(hk:0<=k/\k<=1000)(hl:c.length<=100)(hb:∀x∈c,x.b.length<=1000000)
  (hL:aTt (cB c k).length (cB c (k-1)).length E (tK c k) L) (hE:E+20<4398046511104):Spec Aa 55 [aE c,.i .i64 k] (nZ (L.map λv=>(chX c k v).1)):=by
 refine bF (N:=34) Tryz.func55 ?_
 have hB:=aQa c k (by omega) (by omega) hb
 have hS:=hL.spec
 have hOf:=λv hv=>cAy c k v hl (hL.be v hv) hE
 have hLl:=An hL.len (nW c k)
 have hneg:¬k<0:=by omega
 generalize(cB c k).length=R at *
 generalize(cB c (k-1)).length=C at *
 generalize tK c k=M at *
 simp[-F,-I,↓KW,aE,hneg]
 refine aJ hB ?_
 simp[-F,-I,↓KW,eQ]
 refine aJ hS ?_
 simp[-F,-I,↓KW,eQ]
 obtain⟨out,hout⟩:∃o,(L.map λv=>(chX c k v).1)=o:=⟨_,rfl⟩
 have hol:out.length=L.length:=by rw[<-hout,AL]
 have hog:∀i v,L[i]? = some v->out[i]? = some (chX c k v).1:=λi v h=>by rw[<-hout,Aw,h];rfl
 rw[hout]
 refine aP (λi:Nat=>i<=L.length) (λi=>StL [(0,.d (aE c)),(1,.d (.i .i64 k)),(5,.own 1 0 i 1),(6,.ptr 2 0),(7,.d (.i .i64 (i:Int)))] none [.cells 38 (((out.take i).map aK).map .d),.cells 136 [.d (.i .i64 (L.length:Int)),.d (.i .i64 (R:Int)),.d (.sl (L.map λv=>[dQ v]))]]) (λi=>L.length-i) 0 (Al _) ?_ ?_
 ·refine wkQ [1,2] ?_ ?_<;>simp[-F,upd,aO,Γ0,aE]
 ·intro i hi
  by_cases hgo:i<L.length
  ·have q1:(i:Int)<L.length:=by omega
   have hx:L[i]? = some L[i]:=Ab hgo
   have hO:=hOf _ (Ar hgo)
   have hg:=hog i _ hx
   have htk:out.take (i+1)=out.take i++[(chX c k L[i]).1]:=by rw[AM,hg];rfl
   have hw:Ag.wrap ((i:Int)+1)=(i:Int)+1:=aV
   have hol1:(out.take i).length=i:=by rw[Ax];omega
   have hol2:((out.take i).map aK).length=i:=by rw[AL];exact hol1
   have hbb:=cH (n:=i) (by omega)
   have hb8:(i+1)*24<=140737488355328:=by omega
   generalize out.take i=o1 at *
   generalize(chX c k L[i]).1=y at *
   generalize L[i]=v at *
   have hv2:dQ v=.sl (v.map xP):=rfl
   simp[-F,-I,↓KW,aE,q1,hx,hv2]
   refine aJ hO ?_
   simp[-F,-I,↓KW,hw,hbb,hb8,hol1,hol2,aS,aC,aA,aB,aQ,aT,dQ]
   refine aI (i+1) hgo (slQ hgo) (wkQ [4,2] ?_ ?_)<;>simp[-F,upd,aO,Γ0,aE,htk]
  ·have q1:¬(i:Int)<L.length:=by omega
   have e:i=L.length:=by omega
   have e2:out.take i=out:=Ai (by omega)
   have e3:(out.map aK).length=i:=by rw[AL];omega
   have e4:chunk 1 i (out.map aK)=out.map λx=>[aK x]:=by rw[wF _ _ e3.symm,CC];rfl
   have e5:BB i ((out.map aK).map AV.d)=(out.map aK).map AV.d:=Ai (by simp;omega)
   have e6:out.length=i:=by omega
   simp[-F,-I,↓KW,nZ,q1,e2,e3,e4,e5,e6]
def gB(cyc:List (List (Int×Int)))(xs:List Int):Nat->List (Int×Int)
 |0=>[]
 |i+1=>cF (gB cyc xs i) (mulR ((xs.getD (i+1) 0).tmod 4) (cyc.getD i []))
def jP(x0:Int):Int:=(x0%256)%4
def gId(c:List Cl)(x0:Int):Int:=match c.getLast? with
 |none=>1
 |some y=>y.id+1+(x0%256)/128
def grown(c:List Cl)(x0 x1 x2 x3:Int)(cyc:List (List (Int×Int))):List Cl:=c++[⟨gId c x0,jP x0,gB cyc [x0,x1,x2,x3] (min 3 cyc.length)⟩]
def aOu(x:Int):(x.tmod 4).natAbs<=2^2/\-4<x.tmod 4/\x.tmod 4<4:=by have h1:=Ex x (b:=4) (by decide);have h2:=Ex (-x) (b:=4) (by decide);rw[Int.neg_tmod]at h2;exact⟨by omega,by omega,h1⟩
def aZq{e:Nat}{cyc:List (List (Int×Int))}{xs:List Int}(hb:∀y∈cyc,Bnd (2^e) y)(hl:∀y∈cyc,y.length<=16):∀i,i<=3->i<=cyc.length->Bnd (i*(16*(2^2*2^e))) (gB cyc xs i)/\(gB cyc xs i).length<=i*16
 |0,_,_=>⟨Bnd.nil _,Ap _⟩
 |i+1,h3,hc=>by
  obtain⟨h1,h2⟩:=aZq hb hl i (by omega) (by omega);have hm:cyc.getD i []∈cyc:=by rw[Af,Ab (by omega)];exact Ar _
  have h4:=mP (mulR ((xs.getD (i+1) 0).tmod 4) (cyc.getD i [])) (gB cyc xs i) h1 (pI (aOu _).1 (hb _ hm));have h5:=oB (gB cyc xs i) (mulR ((xs.getD (i+1) 0).tmod 4) (cyc.getD i []));rw[yV]at h4 h5;have h6:=hl _ hm;refine⟨h4.mono ?_,?_⟩
  ·exact An (Nat.add_le_add_left (A8 _ h6) _) (Nat.le_of_eq (C7 i _).symm)
  ·show(cF _ _).length<=_;omega
def bFf{n:Int}(h1:-128<=n)(h2:n<=127):F6.wrap n=n:=by show F6.wrap n=n;unfold IntKind.wrap;simp[IntKind.bits,IntKind.signed];omega
def bUt(c:List Cl):(c.map aN).flatten.length=c.length*3:=by
 induction c with
 |nil=>rfl
 |cons x c ih=>simp only[AZ,List.flatten_cons,Ak,ih,aN,AH,Bq];omega
def bEe(c:List Cl)(y:Cl):chunk 3 (c.length+1) ((c.map aN).flatten++aN y)=c.map aN++[aN y]:=by
 have h:=aCh (c.map aN++[aN y]) (λx hx=>by
  rcases A5.1 hx with hx|hx
  ·obtain⟨z,_,rfl⟩:=AA.1 hx;rfl
  ·rw[AT.1 hx];rfl)
 rw[Ak,AL,List.flatten_append]at h;simpa using h
def bAi(c:List Cl):∀(x:Cl),x∈c->∀(x_1:D),x_1∈aN x->one (AV.d x_1)=true:=λx _ d hd=>by simp only[aN,AG,EW,EB]at hd;rcases hd with rfl|rfl|rfl<;>rfl
def gsz{i e n:Nat}(hi:i<=3)(hn:n<=16):i*(16*(2^2*2^e))+n*(2^2*2^e)<=2^(e+20):=by rw[pG,<-Ck,<-By,show e+20=18+(2+e)by omega];exact tW (An (show i*16+n<=100 by omega) (by decide))
def aPz{e:Nat}(c:List Cl)(x0 x1 x2 x3:Int)(cyc:List (List (Int×Int)))(hx0:-128<=x0/\x0<=127)(hx1:-128<=x1/\x1<=127)(hx2:-128<=x2/\x2<=127)(hx3:-128<=x3/\x3<=127)(hl:c.length<=100)
  (hid:∀y∈c,-1000<=y.id/\y.id<=1000) (hS:Spec Aa 55 [aE c,.i .i64 (jP x0-1)] (nZ cyc)) (hcl:cyc.length<=100) (hb:∀y∈cyc,Bnd (2^e) y) (hyl:∀y∈cyc,y.length<=16) (he:e+20<4398046511104) :
  Spec Aa 29 [aE c,.ag [.i .i8 x0,.i .i8 x1,.i .i8 x2,.i .i8 x3]] (aE (grown c x0 x1 x2 x3 cyc)):=by
 have hu:BO.wrap x0=x0%256:=tO x0
 have hr:(x0%256).tmod 4=jP x0:=by rw[Int.tmod_eq_emod_of_nonneg (by omega)];rfl
 have hd:0<=jP x0/\jP x0<=3:=by unfold jP;omega
 have hu2:BO.wrap (jP x0)=jP x0:=by rw[tO];omega
 have hw1:Ag.wrap (jP x0)=jP x0:=aV
 have hw2:Ag.wrap (jP x0-1)=jP x0-1:=aV
 obtain⟨xs,hxs⟩:∃l,[x0,x1,x2,x3]=l:=⟨_,rfl⟩
 have hgs:=aZq (xs:=xs) hb hyl
 have hfin:aE (grown c x0 x1 x2 x3 cyc)=.sl (c.map aN++[aN ⟨gId c x0,jP x0,gB cyc xs (min 3 cyc.length)⟩]):=by unfold grown aE;rw[hxs,Bu];rfl
 rw[hfin]
 clear hfin
 generalize hdd:jP x0=d at *
 obtain⟨bb,hbe⟩:∃b,gB cyc xs (min 3 cyc.length)=b:=⟨_,rfl⟩
 obtain⟨gi,hgi⟩:∃b,gId c x0=b:=⟨_,rfl⟩
 rw[hbe,hgi]
 refine bF (N:=71) Tryz.func29 ?_
 simp[-F,-I,↓KW,aE,hu,hr,hu2,hw1]
 refine bK (ds:=[aE c,.i .i64 (d-1)]) (by rw[hw2];rfl) hS ?_
 simp[-F,-I,↓KW,aE,nZ]
 refine aP (λy:Nat×List (Int×Int)=>y.1<=min 3 cyc.length/\gB cyc xs y.1=y.2) (λy=>StL [(0,.d (aE c)),(3,.ptr 1 0),(5,.d (.i .i64 d)),(6,.d (aK y.2)),(7,.d (.i .i64 1)),(8,.d (nZ cyc)),(9,.d (.i .i64 (y.1:Int)))] none [.cells 27 [.d (.i .i8 x0),.d (.i .i8 x1),.d (.i .i8 x2),.d (.i .i8 x3)]]) (λy=>3-y.1) (0,[]) ⟨Al _,rfl⟩ ?_ ?_
 ·refine wkQ [1] ?_ ?_
  ·simp[-F,upd,aO,Γ0,aE,nZ,aK,gB]
   exact qE (by simp[jA,upd,sS]) (λa ha id h=>by
    simp[upd]at ha;by_cases e:id=1
    ·subst e;rw[ha];show(1:Nat)≠2;decide
    ·simp[qA,upd,e]at h)
  ·simp[-F,upd,aO,Γ0,aE,nZ]
 ·rintro⟨i,o⟩ ⟨hi,ho⟩
  simp only at hi ho ⊢
  have hgs0:=hgs i (by omega) (by omega)
  rw[ho]at hgs0
  by_cases hgo:i<cyc.length/\i<3
  ·have q1:(i:Int)<cyc.length:=by omega
   have q3:(i:Int)<3:=by omega
   have g1:=hgo.1
   have g2:=hgo.2
   have a1:(0:Int)<=(i:Int)+1:=by omega
   have a2:(i:Int)+1<4:=by omega
   have a3:i+1+1<=4:=by omega
   have a4:i+1<4:=by omega
   have a5:i<=2:=by omega
   refine exE (xs.getD (i+1) 0) λq hq=>?_
   have hrd:BB 1 (Cy i [AV.d (.i .i8 x1),AV.d (.i .i8 x2),AV.d (.i .i8 x3)])=[AV.d (.i .i8 q)]:=by
    rw[<-hq,<-hxs];rcases i with _|_|_|i
    ·rfl
    ·rfl
    ·rfl
    ·omega
   have hre:∀h:i<[AV.d (.i .i8 x1),AV.d (.i .i8 x2),AV.d (.i .i8 x3)].length,[AV.d (.i .i8 x1),AV.d (.i .i8 x2),AV.d (.i .i8 x3)][i]'h=AV.d (.i .i8 q):=λh=>by
    subst hq;subst hxs;rcases i with _|_|_|i
    ·rfl
    ·rfl
    ·rfl
    ·omega
   have t1:=(aOu q).1
   have t2:=(aOu q).2.1
   have t3:=(aOu q).2.2
   have hw8:F6.wrap (q.tmod 4)=q.tmod 4:=bFf (by omega) (by omega)
   have hw:Ag.wrap ((i:Int)+1)=(i:Int)+1:=aV
   have hwt:Ag.wrap (q.tmod 4)=q.tmod 4:=aV
   have hof:=tE (q.tmod 4) (by omega) (by omega)
   have hgy:cyc[i]? = some (cyc.getD i []):=by rw[Af,Ab g1];rfl
   have hyb:=hb _ (Aq hgy)
   have hyl1:=hyl _ (Aq hgy)
   have hnx:gB cyc xs (i+1)=cF o (mulR (q.tmod 4) (cyc.getD i [])):=by rw[gB,hq,ho]
   clear ho hgs
   refine exE (cyc.getD i []) λy hye=>?_
   rw[hye]at hgy hyb hyl1 hnx
   have hgy':∀h:i<cyc.length,cyc[i]'h=y:=λh=>Br ((Ab h).symm.trans hgy)
   refine exE (q.tmod 4) λz hz=>?_
   rw[hz]at t1 t2 t3 hw8 hwt hof hnx
   have hA:=bHt o y z _ (2^e) (2^2) hgs0.1 hyb t1 (uP (gsz (by omega) hyl1) he) (uP (by rw[pG];exact yL (show 2+e<=e+20 by omega)) he) (uP (yL (show 2<=e+20 by omega)) he) (uP (yL (show e<=e+20 by omega)) he) (by omega)
   simp[-F,-I,↓KW,aE,nZ,g1,g2,q1,q3,a1,a2,a3,a4,a5,hgy,hgy',hwt,hw8,hw,hrd,hre,hz]
   refine aJ hof ?_
   simp[-F,-I,↓KW,aY,aK,aD,aF,aG,aZ,aW]
   refine aJ hA ?_
   simp[-F,-I,↓KW,aK,hw]
   refine aI (i+1,cF o (mulR z y)) ⟨by simp only;omega,hnx⟩ (by simp only;omega) (wkQ [1] ?_ ?_)<;>simp[-F,upd,aO,Γ0,aE,nZ,aK]
  ·have hmin:min 3 cyc.length=i:=by omega
   have hob:bb=o:=by rw[<-hbe,hmin,ho]
   clear hgs0 hgs hS hb hyl ho hmin hi hbe
   have hfl:(c.map aN).flatten.length=c.length*3:=bUt c
   have hok:=eJ c
   have hfin:∀y:Cl,chunk 3 (c.length+1) ((c.map aN).flatten++aN y)=c.map aN++[aN y]:=bEe c
   have hr2:(x0%256).tdiv 128=x0%256/128:=Int.tdiv_eq_ediv_of_nonneg (by omega)
   refine exE (x0%256/128) λu hue=>?_
   have hu3:BO.wrap u=u:=by rw[tO];omega
   have hu4:Ag.wrap u=u:=aV
   have hub:0<=u/\u<=1:=by omega
   rw[hue]at hr2
   have b1:(c.length+1)*40<=140737488355328:=by omega
   have b2:c.length*40<=140737488355328:=by omega
   have b3:c.length+1<=maxLen:=aS (by omega)
   have b4:c.length<=maxLen:=aS (by omega)
   have key:∀(gi:Int) (sl:Nat->AV),True:=λ_ _=>trivial
   by_cases g1:i<cyc.length
   ·have g2:¬i<3:=λh=>hgo ⟨g1,h⟩
    have q1:(i:Int)<cyc.length:=by omega
    have q3:¬(i:Int)<3:=by omega
    by_cases hc0:0<c.length
    ·have hc0':(0:Int)<c.length:=by omega
     refine(show ∃y,c[c.length-1]? = some y from⟨c[c.length-1],Ab (by omega)⟩).elim λy hy=>?_
     have hgy:c.getLast? = some y:=by rw[Dv];exact hy
     have hgi2:gi=y.id+1+u:=by rw[<-hgi,<-hue];unfold gId;rw[hgy]
     have hyb:=hid y (Aq hy)
     have hw5:Ag.wrap ((c.length:Int)-1)=((c.length-1:Nat):Int):=by rw[aV];omega
     have hw6:Ag.wrap (y.id+1)=y.id+1:=aV
     have hw7:Ag.wrap (y.id+1+u)=y.id+1+u:=aV
     have hf2:chunk 3 (c.length+1) ((c.map aN).flatten++[D.i .i64 (y.id+1+u),.i .i64 d,aK o])=c.map aN++[[D.i .i64 (y.id+1+u),.i .i64 d,aK o]]:=hfin ⟨y.id+1+u,d,o⟩
     have hyc:aN y=[D.i .i64 y.id,.i .i64 y.dim,aK y.b]:=rfl
     have hec:aN ⟨y.id+1+u,d,o⟩=[D.i .i64 (y.id+1+u),.i .i64 d,aK o]:=rfl
     have hfl2:((c.map aN).flatten.map AV.d).length=c.length*3:=by rw[AL];exact hfl
     have hfl3:¬c.length*3=0:=by omega
     have hcn:¬c.length=0:=by omega
     have hone:(∀(x:Cl),x∈c->∀(x_1:D),x_1∈aN x->one (AV.d x_1)=true)↔True:=⟨λ_=>trivial,λ_=>bAi c⟩
     refine exE ((c.map aN).flatten) λfl hfe=>?_
     have hfm:(AQ (AQ AV.d) (AQ aN c)).flatten=fl.map AV.d:=by rw[<-hfe,DB]
     have hl1:fl.length=c.length*3:=by rw[<-hfe];exact hfl
     have hf3:chunk 3 (c.length+1) (fl++[D.i .i64 (y.id+1+u),.i .i64 d,aK o])=c.map aN++[[D.i .i64 (y.id+1+u),.i .i64 d,aK o]]:=by rw[<-hfe];exact hf2
     simp[-F,-I,↓KW,aE,nZ,q1,q3,hob,hc0,hc0',hw5,hy,hyc,hu,hr2,hu3,hu4,hw6,hw7]
     simp[-F,-I,↓KW,hok,hone,hfm,hl1,hfl3,hcn,hf3,b1,b2,b3,b4,aC,aA,aB]
     refine⟨by omega,fl++[D.i .i64 (y.id+1+u),.i .i64 d,aK o],?_,?_⟩
     ·rw[Ai (by simp;omega),show AQ AV.d fl++[AV.d (D.i Ag (y.id+1+u)),AV.d (D.i Ag d),AV.d (aK o)]=(fl++[D.i .i64 (y.id+1+u),.i .i64 d,aK o]).map AV.d by simp]
      exact mA _ 6 _
     ·rw[hf3,hgi2,hob,hec]
    ·have hc0':¬(0:Int)<c.length:=by omega
     have hce:c=[]:=AE (by omega)
     subst hce
     have hgi2:gi=1:=by rw[<-hgi];rfl
     have hm1:(1:Nat)<=maxLen:=aS (by decide)
     have hec:aN ⟨1,d,o⟩=[D.i .i64 1,.i .i64 d,aK o]:=rfl
     simp[-F,-I,↓KW,aE,nZ,q1,q3,hob,hm1,aC,aA,aB]
     simp[-F,-I,↓KW,hgi2,hec]
   ·have q1:¬(i:Int)<cyc.length:=by omega
    by_cases hc0:0<c.length
    ·have hc0':(0:Int)<c.length:=by omega
     refine(show ∃y,c[c.length-1]? = some y from⟨c[c.length-1],Ab (by omega)⟩).elim λy hy=>?_
     have hgy:c.getLast? = some y:=by rw[Dv];exact hy
     have hgi2:gi=y.id+1+u:=by rw[<-hgi,<-hue];unfold gId;rw[hgy]
     have hyb:=hid y (Aq hy)
     have hw5:Ag.wrap ((c.length:Int)-1)=((c.length-1:Nat):Int):=by rw[aV];omega
     have hw6:Ag.wrap (y.id+1)=y.id+1:=aV
     have hw7:Ag.wrap (y.id+1+u)=y.id+1+u:=aV
     have hf2:chunk 3 (c.length+1) ((c.map aN).flatten++[D.i .i64 (y.id+1+u),.i .i64 d,aK o])=c.map aN++[[D.i .i64 (y.id+1+u),.i .i64 d,aK o]]:=hfin ⟨y.id+1+u,d,o⟩
     have hyc:aN y=[D.i .i64 y.id,.i .i64 y.dim,aK y.b]:=rfl
     have hec:aN ⟨y.id+1+u,d,o⟩=[D.i .i64 (y.id+1+u),.i .i64 d,aK o]:=rfl
     have hfl2:((c.map aN).flatten.map AV.d).length=c.length*3:=by rw[AL];exact hfl
     have hfl3:¬c.length*3=0:=by omega
     have hcn:¬c.length=0:=by omega
     have hone:(∀(x:Cl),x∈c->∀(x_1:D),x_1∈aN x->one (AV.d x_1)=true)↔True:=⟨λ_=>trivial,λ_=>bAi c⟩
     refine exE ((c.map aN).flatten) λfl hfe=>?_
     have hfm:(AQ (AQ AV.d) (AQ aN c)).flatten=fl.map AV.d:=by rw[<-hfe,DB]
     have hl1:fl.length=c.length*3:=by rw[<-hfe];exact hfl
     have hf3:chunk 3 (c.length+1) (fl++[D.i .i64 (y.id+1+u),.i .i64 d,aK o])=c.map aN++[[D.i .i64 (y.id+1+u),.i .i64 d,aK o]]:=by rw[<-hfe];exact hf2
     simp[-F,-I,↓KW,aE,nZ,q1,hob,hc0,hc0',hw5,hy,hyc,hu,hr2,hu3,hu4,hw6,hw7]
     simp[-F,-I,↓KW,hok,hone,hfm,hl1,hfl3,hcn,hf3,b1,b2,b3,b4,aC,aA,aB]
     refine⟨by omega,fl++[D.i .i64 (y.id+1+u),.i .i64 d,aK o],?_,?_⟩
     ·rw[Ai (by simp;omega),show AQ AV.d fl++[AV.d (D.i Ag (y.id+1+u)),AV.d (D.i Ag d),AV.d (aK o)]=(fl++[D.i .i64 (y.id+1+u),.i .i64 d,aK o]).map AV.d by simp]
      exact mA _ 6 _
     ·rw[hf3,hgi2,hob,hec]
    ·have hc0':¬(0:Int)<c.length:=by omega
     have hce:c=[]:=AE (by omega)
     subst hce
     have hgi2:gi=1:=by rw[<-hgi];rfl
     have hm1:(1:Nat)<=maxLen:=aS (by decide)
     have hec:aN ⟨1,d,o⟩=[D.i .i64 1,.i .i64 d,aK o]:=rfl
     simp[-F,-I,↓KW,aE,nZ,q1,hob,hm1,aC,aA,aB]
     simp[-F,-I,↓KW,hgi2,hec]
def bO(w:Int->Int):List (Int×Int)->Int
 |[]=>0
 |x::l=>x.2*w x.1+bO w l
def lV(w:Int->Int):∀a b:List (Int×Int),bO w (a++b)=bO w a+bO w b
 |[],b=>by simp[bO]
 |x::a,b=>by have:=lV w a b;simp only[BP,bO,this];omega
def aIm(w:Int->Int)(id z:Int):∀l:List (Int×Int),bO w (aBd id z l)=bO w l+z*w id
 |[]=>by simp[aBd,bO]
 |x::l=>by
  rw[aBd];by_cases h1:x.1>id
  ·rw[Ad h1];simp only[bO];omega
  ·rw[Ac h1];by_cases h2:x.1=id
   ·rw[Ad h2];by_cases h3:x.2+z=0
    ·rw[Ad h3];have:x.2*w x.1+z*w id=0:=by rw[h2,<-Gh,h3,Int.zero_mul]
     simp only[bO];omega
    ·rw[Ac h3];simp only[bO];rw[h2,Gh];omega
   ·rw[Ac h2];simp only[bO];rw[aIm w id z l];omega
def bAz(w:Int->Int)(l:List (Int×Int))(f:Int×Int):bO w (oS l f)=bO w l+f.2*w f.1:=by
 obtain⟨id,z⟩:=f;rw[aZn];by_cases h:z=0
 ·rw[Ad h,h];simp
 ·rw[Ac h,aIm]
def mV(w:Int->Int):∀b a:List (Int×Int),bO w (cF a b)=bO w a+bO w b
 |[],a=>by simp[cF,bO]
 |f::b,a=>by show bO w (cF (oS a f) b)=_;rw[mV w b,bAz];simp only[bO];omega
def mU(w:Int->Int)(k:Int):∀b:List (Int×Int),bO w (mulR k b)=k*bO w b
 |[]=>by simp[mulR,bO]
 |f::b=>by have ih:=mU w k b;show k*f.2*w f.1+bO w (mulR k b)=k*(f.2*w f.1+bO w b);rw[ih,De,DD]
def eB{w w':Int->Int}:∀{l:List (Int×Int)},(∀x∈l,w x.1=w' x.1)->bO w l=bO w' l
 |[],_=>rfl
 |x::l,h=>by simp only[bO];rw[h x (Av ..),eB λy hy=>h y (Au _ hy)]
def nN(n:Int):∀l:List (Int×Int),cf n l=bO (λm=>if n=m then 1 else 0) l
 |[]=>rfl
 |x::l=>by simp only[cf,bO];rw[nN n l];split<;>simp
def nO{n:Int}:∀{l:List (Int×Int)},(∀x∈l,x.1≠n)->cf n l=0
 |[],_=>rfl
 |x::l,h=>by simp only[cf];rw[Ac λe=>h x (Av ..) e.symm,nO λy hy=>h y (Au _ hy)];rfl
def aWp(c:List Cl)(n:Int):∀y:List (Int×Int),cf n (bdL c y)=bO (λm=>cf n (bOf c m)) y
 |[]=>rfl
 |f::y=>by show cf n (mulR f.2 (bOf c f.1)++bdL c y)=_;rw[aWq,aNh,aWp c n y];rfl
def bGm(n:Nat)(f:Nat->Int):sgm (n+1) f=f 0+sgm n λj=>f (j+1):=by
 induction n with
 |zero=>show 0+f 0=f 0+0;omega
 |succ n ih =>
  show sgm (n+1) f+f (n+1)=f 0+(sgm n (λj=>f (j+1))+f (n+1));rw[ih];omega
def aOa(w:Int->Int):∀(ids v:List Int),ids.length=v.length->bO w (ids.zip v)=sgm ids.length λj=>v.getD j 0*w (ids.getD j 0)
 |[],[],_=>rfl
 |[],_::_,h=>by simp at h
 |_::_,[],h=>by simp at h
 |i::ids,z::v,h=>by have ih:=aOa w ids v (by simpa using h);rw[Ey,AH,bGm];simp only[bO,ih];rfl
def fJ:∀{l:List (Int×Int)} {x:Int×Int},Val l->x∈l->getM l x.1=x.2
 |y::l,x,h,hx=>by
  obtain⟨h1,h2,_⟩:=h.tail;rw[cL];rcases AG.1 hx with rfl|hx
  ·rw[Ad rfl]
  ·rw[Ac (by have:=h2 x hx;omega),fJ h1 hx]
def uT{l:List (Int×Int)}{M:Nat}(h:Val l)(hb:∀n,(getM l n).natAbs<=M):Bnd M l:=λx hx=>by rw[<-fJ h hx];exact hb _
def aCd{l:List (Int×Int)}{n:Int}(h:getM l n≠0):∃x∈l,x.1=n:=A9 λhn=>h (iA λy hy e=>hn ⟨y,hy,e⟩)
def vY{M:Nat}{l:List (Int×Int)}(h:Bnd M l)(n:Int):(getM l n).natAbs<=M:=pP h n
def bJn{a b:List (Int×Int)}{k:Int}{A M K:Nat}(ha:Val a)(hb:Val b)(bA:Bnd A a)(bM:Bnd M b)(hk:k.natAbs<=K):Bnd (A+K*M) (cF a (mulR k b)):=by
 obtain⟨h1,h2⟩:=aDm ha hb k;refine uT h1 λn=>?_
 show(getM (lin a b k) n).natAbs<=_;rw[h2 n];have e1:=vY bA n;have e2:=Cs hk (vY bM n);have e3:=Int.natAbs_add_le (getM a n) (k*getM b n);rw[BX]at e3;omega
def aJy{a b:List (Int×Int)}{k:Int}{S:Int->Prop}(ha:Val a)(hb:Val b)(ka:∀x∈a,S x.1)(kb:∀x∈b,S x.1):∀x∈cF a (mulR k b),S x.1:=λx hx=>by
 obtain⟨h1,h2⟩:=aDm ha hb k;have e:=fJ (l:=lin a b k) h1 hx;rw[h2]at e;have hne:x.2≠0:=h1.2 x hx;by_cases h:getM a x.1=0
 ·have:getM b x.1≠0:=λh'=>by rw[h,h',DP]at e;exact hne e.symm
  obtain⟨y,hy,e2⟩:=aCd this;rw[<-e2];exact kb y hy
 ·obtain⟨y,hy,e2⟩:=aCd h;rw[<-e2];exact ka y hy
def xT{M:Nat}(n:Int):∀(ids v:List Int),ids.Pairwise (·<·)->(∀z∈v,z.natAbs<=M)->(cf n (ids.zip v)).natAbs<=M/\(cf n (ids.zip v)≠0->n∈ids)
 |[],v,_,_=>by simp[cf]
 |i::ids,[],_,_=>by simp[cf]
 |i::ids,z::v,hp,hv=>by
  obtain⟨h1,h2⟩:=List.pairwise_cons.1 hp;obtain⟨h3,h4⟩:=xT n ids v h2 λy hy=>hv y (Au _ hy)
  rw[Ey];simp only[cf];by_cases e:n=i
  ·have hz:cf n (ids.zip v)=0:=nO λx hx e2=>by have:=h1 _ (List.of_mem_zip hx).1;omega
   rw[Ad e,hz,Int.add_zero];exact⟨hv z (Av ..),λ_=>by rw[e];exact Av ..⟩
  ·rw[Ac e,CD];exact⟨h3,λh=>Au _ (h4 h)⟩
def bMr{ids v:List Int}{M:Nat}(hp:ids.Pairwise (·<·))(hv:∀z∈v,z.natAbs<=M):Val (cF [] (ids.zip v))/\Bnd M (cF [] (ids.zip v))/\(∀x∈cF [] (ids.zip v),x.1∈ids)/\(cF [] (ids.zip v)).length<=ids.length/\∀n,getM (cF [] (ids.zip v)) n=cf n (ids.zip v):=by
 obtain⟨h1,h2⟩:=cS (ids.zip v) [] Val.nil;have h3:∀n,getM (cF [] (ids.zip v)) n=cf n (ids.zip v):=λn=>by rw[h2 n,gX,CD]
 refine⟨h1,uT h1 λn=>by rw[h3];exact(xT n ids v hp hv).1,λx hx=>?_,?_,h3⟩
 ·have e:=fJ h1 hx;rw[h3]at e;exact(xT x.1 ids v hp hv).2 (by rw[e];exact h1.2 x hx)
 ·have:=oB [] (ids.zip v);rw[FP]at this;simp only[Bq]at this;omega
def Inc.ids{c:List Cl}(h:Inc c)(k:Int):(cB c k).Pairwise (·<·):=by unfold cB;rw[List.pairwise_map];exact(Df _ h)
def rK{c:List Cl}{k n:Int}:n∈cB c k↔∃x∈c,x.dim=k/\x.id=n:=by
 unfold cB;rw[AA];constructor
 ·rintro⟨x,hx,e⟩;obtain⟨h1,h2⟩:=Bi.1 hx;exact⟨x,h1,BH h2,e⟩
 ·rintro⟨x,h1,h2,e⟩;exact⟨x,Bi.2 ⟨h1,Bx h2⟩,e⟩
def aSa(c:List Cl)(x:Cl)(k:Int):cB (c++[x]) k=cB c k++if x.dim=k then[x.id]else[]:=by unfold cB;rw[BQ,Bu];congr 1;by_cases e:x.dim=k<;>simp[e]
def bDt{c:List Cl}{x:Cl}{n:Int}(h:n≠x.id):bG (c++[x]) n=bG c n:=by
 unfold bG;rw[List.find?_append];have:[x].find? (λy=>decide (y.id=n))=none:=by simp;exact λe=>h e.symm
 rw[this,Option.or_none]
def bAl{c:List Cl}{x:Cl}{n:Int}(h:n≠x.id):bOf (c++[x]) n=bOf c n:=by unfold bOf;rw[bDt h]
structure CxV(c:List Cl):Prop where
 inc:Inc c
 dim:∀x∈c,0<=x.dim/\x.dim<=3
 val:∀x∈c,Val x.b
 face:∀x∈c,∀f∈x.b,∃y∈c,y.id=f.1/\y.dim=x.dim-1
 cyc:∀x∈c,∀n,bO (λm=>cf n (bOf c m)) x.b=0
def CxV.bOf{c:List Cl}(h:CxV c){x:Cl}(hx:x∈c):bOf c x.id=x.b:=by unfold Go.Am.bOf;rw[h.inc.find hx];rfl
def CxV.bval{c:List Cl}(h:CxV c)(n:Int):Val (Go.Am.bOf c n):=by
 unfold Go.Am.bOf;cases e:bG c n with
 |none=>exact Val.nil
 |some x=>exact h.val x (dF e).1
def CxV.cycle{c:List Cl}(h:CxV c){k:Int}{v:List Int}(hv:v.length=(cB c k).length)(hz:∀t,t<(cB c (k-1)).length->sgm (cB c k).length (λj=>v.getD j 0*ent (tK c k) j t)=0)(n:Int) :
  bO (λm=>cf n (Go.Am.bOf c m)) (cF [] ((cB c k).zip v))=0:=by
 rw[mV,aOa _ _ _ hv.symm]
 show 0+_=(0:Int)
 rw[CD]
 have hrow:∀j,j<(cB c k).length->∃x∈c,x.dim=k/\x.id=(cB c k).getD j 0:=λj hj=>by rw[Af,Ab hj];exact rK.1 (Ar hj)
 by_cases hn:n∈cB c (k-1)
 ·obtain⟨t,ht,e⟩:=Bw hn
  refine Eq.trans ?_ (hz t ht)
  refine dL λj hj=>?_
  have:ent (tK c k) j t=cf n (Go.Am.bOf c ((cB c k).getD j 0)):=by unfold ent;rw[Af (l:=tK c k),aFo (Ab hj),Bd,Af,yJ (Ab ht),Bd,e,aZd (h.bval _),<-gD (h.bval _)];rw[Af,Ab hj];rfl
  rw[this]
 ·rw[dL (g:=λ_=>0) λj hj=>?_,yE]
  obtain⟨x,hx,hd,he⟩:=hrow j hj
  rw[<-he,h.bOf hx,nO λf hf e=>?_,DP]
  obtain⟨y,hy,e1,e2⟩:=h.face x hx f hf
  exact hn (rK.2 ⟨y,hy,by omega,by omega⟩)
def aDi(c:List Cl)(k:Int):Sh (cB c k).length (cB c (k-1)).length (tK c k):=⟨aRp c k,λv hv=>by
 obtain⟨n,_,rfl⟩:=AA.1 hv;exact yI _ _⟩
def aZc{c:List Cl}{k:Int}{e:Nat}(hi:Inc c)(hb:∀x∈c,x.dim=k->Bnd (2^e) x.b):Be e (tK c k):=Be.of (aDi c k) λr t hr ht=>by
 unfold ent;rw[Af (l:=tK c k),aFo (Ab hr),Bd,Af,yJ (Ab ht),Bd];obtain⟨x,hx,hd,he⟩:=rK.1 (Ar hr);rw[<-he];have:bOf c x.id=x.b:=by unfold bOf;rw[hi.find hx];rfl
 rw[this];exact bYj (hb x hx hd) _
def aUq{n k:Nat}{f:Nat->Int}(hk:k<n)(h:∀j,j<n->j≠k->f j=0):sgm n f=f k:=by
 rw[<-qH hk f];refine dL λj hj=>?_
 by_cases e:j=k
 ·rw[Ad e,Int.one_mul]
 ·rw[Ac e,Int.zero_mul];exact h j hj e
def rC{n:Nat}{f:Nat->Int}(h:∀j,j<n->f j=0):sgm n f=0:=by rw[dL h,yE]
def bPq{n i j:Nat}(hi:i<n)(hj:j<n)(f:Nat->Int):sgm n (λr=>f (swp i j r))=sgm n f:=by
 by_cases e:i=j
 ·subst e;refine dL λr _=>?_
  unfold swp;split
  ·rename_i h;rw[h]
  ·rfl
 ·have h:sgm n (λr=>f (swp i j r))=sgm n (λr=>f r+((if r=i then 1 else 0)*(f j-f i)+(if r=j then 1 else 0)*(f i-f j))):=by
   refine dL λr _=>?_
   unfold swp;by_cases h1:r=i
   ·rw[Ad h1,Ad h1,Ac (by omega),h1];omega
   ·rw[Ac h1,Ac h1];by_cases h2:r=j
    ·rw[Ad h2,Ad h2,h2];omega
    ·rw[Ac h2,Ac h2];omega
  rw[h,vJ,vJ,qH hi λ_=>f j-f i,qH hj λ_=>f i-f j];omega
def InP(R c:Nat)(w:W3)(x y:Nat->Int):Prop:=∃a:Nat->Int,(∀t,t<c->sgm R (λj=>a j*ent w.M j t)=x t)/\∀t,t<R->sgm R (λj=>a j*ent w.U j t)=y t
def aSz{R c i j:Nat}{k:Int}{M:List (List Int)}{a:Nat->Int}(hi:i<R)(hj:j<R)(hij:i≠j){t:Nat}(ht:t<c) :
  sgm R (λr=>(if r=j then a j-k*a i else a r)*ent (rZ R c M i j k) r t)=sgm R (λr=>a r*ent M r t):=by
 have h:∀r,r<R->(if r=j then a j-k*a i else a r)*ent (rZ R c M i j k) r t=a r*ent M r t+((if r=i then 1 else 0)*(a i*(k*ent M j t))+(if r=j then 1 else 0)*(- (k*a i)*ent M j t)):=λr hr=>by
  rw[iS hr ht];by_cases h1:r=i
  ·rw[Ad h1,Ac (by omega),Ad h1,Ac (by omega),h1,De];omega
  ·rw[Ac h1,Ac h1];by_cases h2:r=j
   ·rw[Ad h2,Ad h2,h2,Int.sub_mul,C0];omega
   ·rw[Ac h2,Ac h2];omega
 rw[dL h,vJ,vJ,qH hi λ_=>a i*(k*ent M j t),qH hj λ_=>- (k*a i)*ent M j t]
 have:a i*(k*ent M j t)=k*a i*ent M j t:=by rw[<-DD,B7 (a i)]
 rw[this,C0];omega
def bAc{R c i j:Nat}{M:List (List Int)}{a:Nat->Int}(hi:i<R)(hj:j<R){t:Nat}(ht:t<c) :
  sgm R (λr=>a (swp i j r)*ent (swR R c M i j) r t)=sgm R (λr=>a r*ent M r t):=by
 rw[<-bPq hi hj λr=>a r*ent M r t]
 exact dL λr hr=>by rw[zN hr ht]
def bAd{R c i:Nat}{M:List (List Int)}{a:Nat->Int}{t:Nat}(ht:t<c) :
  sgm R (λr=>(if r=i then-a i else a r)*ent (ngR R c M i) r t)=sgm R (λr=>a r*ent M r t) :=
 dL λr hr=>by
  rw[nM hr ht];by_cases h1:r=i
  ·rw[Ad h1,Ad h1,Int.neg_mul_neg,h1]
  ·rw[Ac h1,Ac h1]
section
variable {R c col top i j:Nat} {w w':W3} {x y:Nat->Int}
def InP.add(h:InP R c w x y)(hi:i<R)(hj:j<R)(hij:i≠j)(k:Int):InP R c (w.add R c i j k) x y:=by obtain⟨a,h1,h2⟩:=h;exact⟨_,λt ht=>(aSz hi hj hij ht).trans (h1 t ht),λt ht=>(aSz hi hj hij ht).trans (h2 t ht)⟩
def InP.sw(h:InP R c w x y)(hi:i<R)(hj:j<R):InP R c (w.sw R c i j) x y:=by obtain⟨a,h1,h2⟩:=h;exact⟨_,λt ht=>(bAc hi hj ht).trans (h1 t ht),λt ht=>(bAc hi hj ht).trans (h2 t ht)⟩
def InP.ng(h:InP R c w x y):InP R c (w.ng R c i) x y:=by obtain⟨a,h1,h2⟩:=h;exact⟨_,λt ht=>(bAd ht).trans (h1 t ht),λt ht=>(bAd ht).trans (h2 t ht)⟩
def InP.eu(h:Eu R c col top i w w')(hti:top<i)(hi:i<R)(g:InP R c w x y):InP R c w' x y:=by
 induction h with
 |done w ok h=>exact g
 |go w w' ok hy h2 ih =>
  refine ih ?_;unfold euS euT;split
  ·exact g.sw (by omega) hi
  ·exact(g.add (by omega) hi (by omega) _).sw (by omega) hi
def InP.ei(h:Ei R c col top i w w')(hti:top<i)(g:InP R c w x y):InP R c w' x y:=by
 induction h with
 |done i w ok h=>exact g
 |go i w w1 w2 h h1 h2 ih=>exact ih (by omega) (g.eu h1 hti h)
def InP.rd(h:Rd R c col top i w w')(ht:top<R)(g:InP R c w x y):InP R c w' x y:=by
 induction h with
 |done i w ok h=>exact g
 |go i w w2 ok h h2 ih=>exact ih (g.add (by omega) ht (by omega) _)
def InP.fo(h:Fo R c col top w w')(g:InP R c w x y):InP R c w' x y:=by
 induction h with
 |done col top w ok h=>exact g
 |zero col top w w1 w2 h1 h2 h3 h4 h5 ih=>exact ih (g.ei h3 (by omega))
 |piv col top w w1 w2 w3 h1 h2 h3 h4 h5 h6 ih =>
  refine ih (InP.rd h5 h2 ?_);have:=g.ei h3 (by omega);unfold ngS;split
  ·exact this.ng
  ·exact this
structure Hn(R c col top:Nat)(M:List (List Int))(p:Nat->Nat):Prop where
 inc:∀i j,i<j->j<top->p i<p j
 lt:∀i,i<top->p i<col
 pos:∀i,i<top->0<ent M i (p i)
 bef:∀i t,i<top->t<p i->ent M i t=0
 red:∀j i,j<i->i<top->0<=ent M j (p i)/\ent M j (p i)<ent M i (p i)
 low:∀r t,top<=r->r<R->t<col->ent M r t=0
def bTv(h:Eu R c col top i w w')(hti:top<i)(hi:i<R)(hcol:col<c):(∀r t,r<R->t<c->r≠top->r≠i->ent w'.M r t=ent w.M r t)/\(∀t,t<c->ent w.M top t=0->ent w.M i t=0->ent w'.M top t=0/\ent w'.M i t=0)/\ent w'.M i col=0:=by
 induction h with
 |done w ok h=>exact⟨λ_ _ _ _ _ _=>rfl,λt _ h1 h2=>⟨h1,h2⟩,h⟩
 |go w w' ok hy h2 ih =>
  have eM:=λr t hr ht=>aSr (w:=w) (c:=c) (col:=col) (by omega:top≠i) (by omega:top<R) hi (r:=r) (t:=t) hr ht
  refine⟨λr t hr ht n1 n2=>by rw[ih.1 r t hr ht n1 n2,eM r t hr ht,Ac n1,Ac n2],λt ht z1 z2=>ih.2.1 t ht ?_ ?_,ih.2.2⟩
  ·rw[eM _ _ (by omega) ht,Ad rfl];exact z2
  ·rw[eM _ _ hi ht,Ac (by omega),Ad rfl,z1,z2];simp
def aZx(h:Ei R c col top i w w')(hti:top<i)(hcol:col<c)(z:∀r,top<r->r<i->ent w.M r col=0):(∀r t,r<top->r<R->t<c->ent w'.M r t=ent w.M r t)/\(∀t,t<c->(∀r,top<=r->r<R->ent w.M r t=0)->∀r,top<=r->r<R->ent w'.M r t=0)/\∀r,top<r->r<R->ent w'.M r col=0:=by
 induction h with
 |done i w ok h=>exact⟨λ_ _ _ _ _=>rfl,λt _ h r h1 h2=>h r h1 h2,λr h1 h2=>z r h1 (by omega)⟩
 |go i w w1 w2 h h1 h2 ih =>
  obtain⟨a1,a2,a3⟩:=bTv h1 hti h hcol;obtain⟨b1,b2,b3⟩:=ih (by omega) (λr g1 g2=>by
   by_cases e:r=i
   ·rw[e];exact a3
   ·rw[a1 r col (by omega) hcol (by omega) e];exact z r g1 (by omega))
  refine⟨λr t g1 g2 g3=>by rw[b1 r t g1 g2 g3,a1 r t g2 g3 (by omega) (by omega)],λt ht hz=>b2 t ht λr g1 g2=>?_,b3⟩;have h0:=a2 t ht (hz top (Ap _) (by omega)) (hz i (by omega) h);by_cases e1:r=top
  ·rw[e1];exact h0.1
  ·by_cases e2:r=i
   ·rw[e2];exact h0.2
   ·rw[a1 r t g2 ht e1 e2];exact hz r g1 g2
def bQl(h:Rd R c col top i w w')(hR:top<R)(hcol:col<c):∀r t,r<R->t<c->ent w'.M r t=if i<=r/\r<top then ent w.M r t-(ent w.M r col/ent w.M top col)*ent w.M top t else ent w.M r t:=by
 induction h with
 |done i w ok h=>intro r t _ _;rw[Ac (by omega)]
 |go i w w2 ok h h2 ih =>
  intro r t hr ht;have eM:∀{r t},r<R->t<c->ent (rdS R c col top i w).M r t=_:=λ{r t} hr ht=>iS (R:=R) (c:=c) (M:=w.M) (i:=i) (j:=top) (k:=-(ent w.M i col/ent w.M top col)) hr ht
  rw[ih r t hr ht,eM hr ht,eM hr hcol,eM hR hcol,eM hR ht,Ac (show ¬top=i by omega),Ac (show ¬top=i by omega)];by_cases e:r=i
  ·subst e;rw[Ac (by omega),Ad rfl,Ad ⟨Ap _,h⟩,C0];omega
  ·rw[Ac e,Ac e];by_cases e2:i<=r/\r<top
   ·rw[Ad e2,Ad (by omega)]
   ·rw[Ac e2,Ac (by omega)]
def bWc(h:Fo R c col top w w'):∀{p},col<=c->top<=R->Hn R c col top w.M p->∃k q,k<=R/\Hn R c c k w'.M q:=by
 induction h with
 |done col top w ok h =>
  intro p hc hT g;exact⟨top,p,hT,g.inc,λi hi=>by have:=g.lt i hi;omega,g.pos,g.bef,g.red,λr t h1 h2 h3=>g.low r t h1 h2 (by omega)⟩
 |zero col top w w1 w2 h1 h2 h3 h4 h5 ih =>
  intro p hc hT g;obtain⟨a1,a2,a3⟩:=aZx h3 (by omega) h1 (λr _ _=>by omega);have e:∀i t,i<top->t<c->ent w1.M i t=ent w.M i t:=λi t hi ht=>a1 i t hi (by omega) ht
  have lt:∀i,i<top->p i<c:=λi hi=>by have:=g.lt i hi;omega
  refine ih (p:=p) h1 hT ⟨g.inc,λi hi=>by have:=g.lt i hi;omega,λi hi=>by rw[e i _ hi (lt i hi)];exact g.pos i hi,λi t hi ht=>by rw[e i t hi (by have:=lt i hi;omega)];exact g.bef i t hi ht,λj i hj hi=>by rw[e j _ (by omega) (lt i hi),e i _ hi (lt i hi)];exact g.red j i hj hi,λr t g1 g2 g3=>?_⟩;by_cases e1:t=col
  ·rw[e1];by_cases e2:r=top
   ·rw[e2];exact h4
   ·exact a3 r (by omega) g2
  ·exact a2 t (by omega) (λr k1 k2=>g.low r t k1 k2 (by omega)) r g1 g2
 |piv col top w w1 w2 w3 h1 h2 h3 h4 h5 h6 ih =>
  intro p hc hT g;obtain⟨a1,a2,a3⟩:=aZx h3 (by omega) h1 (λr _ _=>by omega);have a2':∀r t,top<=r->r<R->t<col->ent w1.M r t=0:=λr t k1 k2 k3=>a2 t (by omega) (λr g1 g2=>g.low r t g1 g2 k3) r k1 k2
  have n1:∀r t,r<R->t<c->ent (ngS R c col top w1).M r t=if r=top/\ent w1.M top col<0 then-ent w1.M top t else ent w1.M r t:=λr t hr ht=>by
   unfold ngS;by_cases e:ent w1.M top col<0
   ·rw[Ad e];show ent (ngR R c w1.M top) r t=_;rw[nM hr ht];by_cases e2:r=top
    ·rw[Ad e2,Ad ⟨e2,e⟩]
    ·rw[Ac e2,Ac λh=>e2 h.1]
   ·rw[Ac e,Ac λh=>e h.2]
  have hd:=bQl h5 h2 h1;have hp:0<ent (ngS R c col top w1).M top col:=by rw[n1 top col h2 h1];split<;>omega
  have ntop:∀t,t<col->ent (ngS R c col top w1).M top t=0:=λt ht=>by rw[n1 top t h2 (by omega),a2' top t (Ap _) h2 ht];split<;>rfl
  have nrow:∀i t,i<top->t<c->ent (ngS R c col top w1).M i t=ent w.M i t:=λi t hi ht=>by rw[n1 i t (by omega) ht,Ac (by omega),a1 i t hi (by omega) ht]
  have nlow:∀r t,top<r->r<R->t<=col->ent (ngS R c col top w1).M r t=0:=λr t k1 k2 k3=>by
   rw[n1 r t k2 (by omega),Ac (by omega)];by_cases e:t=col
   ·rw[e];exact a3 r k1 k2
   ·exact a2' r t (by omega) k2 (by omega)
  -- rows of w2
  have rtop:∀t,t<c->ent w2.M top t=ent (ngS R c col top w1).M top t:=λt ht=>by rw[hd top t h2 ht,Ac (by omega)]
  have rup:∀i t,i<top->t<col->ent w2.M i t=ent w.M i t:=λi t hi ht=>by rw[hd i t (by omega) (by omega),Ad (by omega),ntop t ht,nrow i t hi (by omega)];simp
  have rcol:∀i,i<top->ent w2.M i col=ent w.M i col%ent w2.M top col:=λi hi=>by rw[rtop col h1,hd i col (by omega) h1,Ad (by omega),nrow i col hi h1];have:=DZ (ent w.M i col) (ent (ngS R c col top w1).M top col);rw[B7]at this;omega
  have hp2:0<ent w2.M top col:=by rw[rtop col h1];exact hp
  refine ih (p:=λi=>if i=top then col else p i) h1 (by omega) ⟨λi j hij hj=>?_,λi hi=>?_,λi hi=>?_,λi t hi ht=>?_,λj i hj hi=>?_,λr t k1 k2 k3=>?_⟩
  ·rw[Ac (show ¬i=top by omega)];split
   ·exact g.lt i (by omega)
   ·exact g.inc i j hij (by omega)
  ·show(if i=top then col else p i)<_;split
   ·omega
   ·have:=g.lt i (by omega);omega
  ·show 0<ent w2.M i (if i=top then col else p i);split
   ·rename_i e;rw[e];exact hp2
   ·rw[rup i _ (by omega) (g.lt i (by omega))];exact g.pos i (by omega)
  ·replace ht:t<if i=top then col else p i:=ht
   split at ht
   ·rename_i e;rw[e,rtop t (by omega)];exact ntop t ht
   ·have:=g.lt i (by omega);rw[rup i t (by omega) (by omega)];exact g.bef i t (by omega) ht
  ·show 0<=ent w2.M j (if i=top then col else p i)/\ent w2.M j (if i=top then col else p i)<ent w2.M i (if i=top then col else p i);split
   ·rename_i e;rw[rcol j (by omega),e];exact⟨Dt _ (by omega),Int.emod_lt_of_pos _ hp2⟩
   ·rw[rup j _ (by omega) (g.lt i (by omega)),rup i _ (by omega) (g.lt i (by omega))];exact g.red j i hj (by omega)
  ·rw[hd r t k2 (by omega),Ac (by omega)];exact nlow r t (by omega) k2 (by omega)
end
section
variable {R R' c k k':Nat} {M M':List (List Int)} {p p':Nat->Nat} {a x:Nat->Int}
def Hn.min(h:Hn R c c k M p)(hk:k<=R)(hx:∀t,t<c->sgm R (λj=>a j*ent M j t)=x t)(hne:∃j,j<k/\a j≠0):∃m,m<k/\a m≠0/\(∀t,t<p m->x t=0)/\x (p m)=a m*ent M m (p m):=by
 have key:∀n,n<=k->(∀j,j<n->a j=0)\/∃m,m<n/\a m≠0/\∀j,j<m->a j=0:=by
  intro n;induction n with
  |zero=>intro _;exact .inl λj hj=>by omega
  |succ n ih =>
   intro hn;rcases ih (by omega)with h1|⟨m,h1,h2,h3⟩
   ·by_cases e:a n=0
    ·refine .inl λj hj=>?_
     by_cases e2:j=n
     ·rw[e2];exact e
     ·exact h1 j (by omega)
    ·exact .inr ⟨n,by omega,e,h1⟩
   ·exact .inr ⟨m,by omega,h2,h3⟩
 rcases key k (Ap _)with h0|⟨m,h1,h2,h3⟩
 ·obtain⟨j,hj,hn⟩:=hne;exact absurd (h0 j hj) hn
 ·have hm:=h.lt m h1;refine⟨m,h1,h2,λt ht=>?_,?_⟩
  ·rw[<-hx t (by omega)];refine rC λj hj=>?_
   by_cases e:j<m
   ·rw[h3 j e];simp
   ·by_cases e2:j<k
    ·rw[h.bef j t e2 (by
      by_cases e3:j=m
      ·rw[e3];exact ht
      ·have:=h.inc m j (by omega) e2;omega)];simp
    ·rw[h.low j t (by omega) hj (by omega)];simp
  ·rw[<-hx _ hm];refine aUq (by omega) λj hj hne=>?_
   by_cases e:j<m
   ·rw[h3 j e];simp
   ·by_cases e2:j<k
    ·rw[h.bef j _ e2 (h.inc m j (by omega) e2)];simp
    ·rw[h.low j _ (by omega) hj hm];simp
def Hn.lead(h:Hn R c c k M p)(hk:k<=R)(hx:∀t,t<c->sgm R (λj=>a j*ent M j t)=x t)(hne:∃t,t<c/\x t≠0):∃m,m<k/\a m≠0/\(∀t,t<p m->x t=0)/\x (p m)=a m*ent M m (p m):=by
 refine h.min hk hx (A9 λh0=>?_);obtain⟨t,ht,hn⟩:=hne;refine hn ?_;rw[<-hx t ht];refine rC λj hj=>?_
 by_cases e:j<k
 ·rw[show a j=0 from A9 λe'=>h0 ⟨j,e,e'⟩];simp
 ·rw[h.low j t (by omega) hj ht];simp
end
end Go.Am
end
