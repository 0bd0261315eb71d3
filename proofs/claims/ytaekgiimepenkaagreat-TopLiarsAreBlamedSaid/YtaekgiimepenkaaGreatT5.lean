/- A worker of workers.Work: the whole of it. No condition. -/
import Derived.Test.YtaekgiimepenkaaGreatT4
import Derived.Test.YtaekgiimepenkaaGreatT3
import Derived.Test.YtaekgiimepenkaaGreatT1
import Derived.Conc.Beside
import Derived.Conc.QuitsD
import Derived.Conc.WgGenLone
import Derived.Conc.WgGenWait
import Derived.Conc.WgArith
import Derived.Conc.CrowdRun
import Derived.Test.YtaekgiimepenkaaGreatProg
import Derived.Conc.WgGenDone
set_option linter.all false
set_option maxHeartbeats 8000000
set_option maxRecDepth 100000
open Array renaming getD_eq_getD_getElem?->Au,getElem?_append_left->B5,getElem?_append_right->Cu,getElem?_eq_getElem->Ar,getElem?_eq_some_iff->Bm,getElem?_map->B6,getElem?_push->BW,getElem?_push_lt->Gb,getElem?_replicate->Co,getElem?_setIfInBounds->Fj,getElem?_setIfInBounds_ne->AI,getElem?_setIfInBounds_self_of_lt->Ce,getElem?_toList->Bq,mem_append->Ed,mem_of_getElem?->B7,replicate->Bd,size_setIfInBounds->G8
open Bool renaming and_eq_true->A5,false->Az,true->Ak
open Classical renaming axiomOfChoice->Hc,byContradiction->EC
open Decidable renaming byContradiction->CY
open Go renaming Code->B1,Deferred->Cl,Event->C5,Frame->BU,FuncId->AU,Goroutine->Ay,Oper->Bf,Operand->AN,Program->As,TypeId->AF,Value->AE,World->Ag
open Go.Conc renaming mem_ofEvents->B2
open Go.ConcN renaming Deaf_still->Gm,Mode->ES,bk_rw->G0,cnt->CE,upd->By,upd_ne->BD,upd_same->Bx
open Go.ConcN.Mode renaming retag->FE
open Go.ConcR renaming g_of_ofEvents->Fb
open Go.DataW renaming trod_int->GO
open Go.Event renaming mute->ER
open Go.Frame renaming enter->Dt,finish_at->Ek
open Go.GStep renaming after->CJ
open Go.Instr renaming indexAt->EN
open Go.IntKind renaming bits->Df,i64->Ax,u32->Cs,u64->Bh,wrap_u32->E0
open Go.MemAct renaming ofEvent->BA,touch?->BY
open Go.MemOp renaming ofEvents->Cd
open Go.Obj renaming cells->DM
open Go.Proofs.Tryz renaming prog->Ab
open Go.Region renaming ready->Bo,schedule->Ff,wanted->Bu
open Go.Region.linearise renaming go->BF
open Go.Sem renaming bind->EU,runT->Fe,runT_eq->DU
open Go.Trace renaming g?->GP
open Go.Value renaming cells->EG,oneCell'->CZ
open Go.World renaming cell?->BN,setCell->FJ
open Int renaming emod_add_mul_ediv->Gf,emod_nonneg->En,mul_assoc->Gr,natAbs->Eo,natCast_add->Em,natCast_mul->Di,tdiv_eq_ediv_of_nonneg->Ey,tmod_eq_emod_of_nonneg->Cq,toNat_of_nonneg->Cj
open List renaming all_eq_true->A1,append_nil->El,cons_append->Cz,contains_cons->Ci,drop_zero->Ew,ext_getElem?->Dr,getD_eq_getElem?_getD->Ah,getElem?_eq_getElem->Ac,getElem?_eq_none->Bn,getElem?_eq_some_iff->AA,getElem?_map->Ao,getElem?_range->BZ,getElem?_replicate->E2,getElem_mem->B3,length_append->BK,length_cons->Av,length_map->BV,length_set->CO,length_singleton->B8,length_take->Bt,map->DX,map_append->Fi,map_congr_left->DF,map_cons->BX,map_map->Dp,map_nil->Ee,map_take->FL,mem_append->BR,mem_cons_of_mem->AT,mem_cons_self->AX,mem_map->AY,mem_of_getElem?->At,mem_of_mem_take->BS,mem_range->Cc,mem_range'_1->GZ,mem_singleton->CB,range->AW,range'->D8,replicate->AO,reverse_singleton->E5,set_append_right->DN,set_cons_zero->Dg,singleton_append->Ez,take->D7,take_add_one->BG,take_of_length_le->A4,take_succ_cons->DD,take_zero->Ct
open Nat renaming add_zero->CU,div_eq_of_lt->DW,div_le_self->FO,eq_zero_or_pos->BB,exists_eq_add_of_le->FX,le_of_eq->GJ,le_of_lt->Dz,le_refl->AM,le_trans->Bg,lt_of_le_of_lt->Bv,lt_of_lt_of_le->Be,lt_or_ge->Bc,lt_succ_self->CM,lt_trans->FD,min_eq_left->Dv,mod_eq_of_lt->Cr,mod_lt->B9,mul_assoc->C7,mul_comm->Da,mul_le_mul->BO,mul_le_mul_right->Ck,pow_add->Gw,pow_le_pow_right->CL,pow_succ->CI,sub_lt_sub_left->FI,sub_self->Dw,zero_add->AP,zero_le->BH
open Ne renaming symm->DZ
open Option renaming bind_eq_some_iff->Af,getD_some->AQ,map_eq_some_iff->Ai,map_some->Bj,none->Aj,some->Aa
open Option.some renaming inj->BC,injEq->AH
open Prod.Lex renaming left->FM,right->GQ
open Rat renaming intCast_mul->DR
open _root_ renaming Array->Aw,Bool->Bw,Int->Al,List->Ad,Nat->Ae,Option->Aq,beq_eq_false_iff_ne->D6,decide_eq_false->Cn,decide_eq_true->CQ,decide_eq_true_eq->Bz,getElem!_pos->CC,if_neg->Ap,if_pos->AB
open List renaming map_map->E,mapM_map->O
section
open Go Go.Am Go.Proofs
namespace Go.Am
def aOj(l:Ad Al):D:=.sl (l.map λn=>[D.i .i8 n])
def vf(l:Ad Al)(t:Ae):Al:=(l.getD t 0).tmod 10
def bVi(l:Ad Al)(t:Ae):(vf l t).natAbs<=10:=by have h1:=Int.tmod_lt_of_pos (l.getD t 0) (b:=10) (by decide);have h2:=Int.tmod_lt_of_pos (-(l.getD t 0)) (b:=10) (by decide);rw[Int.neg_tmod]at h2;show((l.getD t 0).tmod 10).natAbs<=10;omega
def sqM(l:Ad Al)(n:Ae):Ad (Ad Al):=mkM n n λr s=>vf l (r*n+s)
def rcM(l:Ad Al)(n c:Ae):Ad (Ad Al):=mkM n c λr s=>vf l (r*c+s)
def aWq(n c:Ae)(A:Ad (Ad Al)):D:=.ag [.i .i64 (n:Al),.i .i64 (c:Al),.sl (A.map λv=>[dK v])]
def sqF(l:Ad Al)(c i j r s:Ae):Al:=if r<i\/(r=i/\s<j)then vf l (r*c+s)else 0
def bCm{n:Al}(h1:-128<=n)(h2:n<=127):IntKind.i8.wrap n=n:=by unfold IntKind.wrap;simp[Df,IntKind.signed];omega
def aOi(l:Ad Al):∃L,aOj l=.sl L/\L.length=l.length/\∀(i:Ae) (z:Al),l[i]? = Aa z->L[i]? = Aa [D.i .i8 z]:=⟨_,rfl,by simp,λi x hx=>by rw[Ao,hx];rfl⟩
def fqH(n c:Ae)(M:Ad (Ad Al)):Hp:=jS 1 ([.cells 31 [.d (.i .i64 0),.d (.i .i64 0),.nil]]++mB c M 2++[.cells 31 [.d (.i .i64 (n:Al)),.d (.i .i64 (c:Al)),.own 2 0 n 1]])
def rN{n c:Ae}{M:Ad (Ad Al)}(hM:Sh n c M){H:Hp}{id:Ae}{o:HO}(ho:fqH n c M id=Aa o):mZ H (fqH n c M) (λi=>i) o o:=by
 refine aDk (λo ho=>?_) ho;rw[aJt,hM.len,B8,B8];rcases BR.1 ho with ho|ho
 .rcases BR.1 ho with ho|ho
  .rw[CB.1 ho];rfl
  .exact bXy (by omega) (by rw[hM.len];omega) o ho
 .rw[CB.1 ho];simp only[rfO,rfC,List.all_cons,List.all_nil,Bool.and_true,Bool.true_and,Bz];omega
def wF{n c:Ae}{M:Ad (Ad Al)}(hM:Sh n c M){id:Ae}(h:n+4<=id):fqH n c M id=none :=
 aDl (by rw[aJt,hM.len,B8,B8];omega)
def mO{n c:Ae}{M:Ad (Ad Al)}(hM:Sh n c M){id:Ae}(h1:1<=id)(h2:id<n+4):(fqH n c M id).isSome=true :=
 aGx h1 (by rw[aJt,hM.len,B8,B8];omega)
def aRi[M:Mch Ab](l:Ad Al)(n c:Ae)(hn:n<=16)(hc:c<=16)(hb:∀x∈l,-128<=x/\x<=127)(hll:l.length<=9223372036854775807) :
 Spec Ab 42 [.i .i64 (n:Al),.i .i64 (c:Al),aOj l] (aWq n c (rcM l n c)):=by
 obtain⟨L,hL,hLl,hLg⟩:=aOi l
 rw[hL]
 refine bU (N:=60) Tryz.func42 ?_
 have hN:=bYa (M:=M) n c (by omega) (by omega)
 have m1:¬(n:Al)<0:=by omega
 have m2:¬(16:Al)<n:=by omega
 have m3:¬16<n:=by omega
 have m1c:¬(c:Al)<0:=by omega
 have m2c:¬(16:Al)<c:=by omega
 have m3c:¬16<c:=by omega
 simp[-E,-O,↓KW,m1,m2,m3,m1c,m2c,m3c]
 refine vJ [.i .i64 (n:Al),.i .i64 (c:Al)] (nwV n c) (mB c (AO n (AO c 0))) (by simp) (by simp) (by simp) (by rfl) (by rfl) hN ?_
 have hne1:¬1=2+(n+1):=by omega
 have hz0:Sh n c (AO n (AO c (0:Al))):=⟨by simp,λv hv=>by rw[List.eq_of_mem_replicate hv];simp⟩
 have hH0:∀p q:HO,upd (iY (upd (λ_=>Aj) 1 (Aa q)) 2 (mB c (AO n (AO c 0)) 2)) (2+(n+1)) (Aa p)=jS 1 ([q]++mB c (AO n (AO c 0)) 2++[p]):=λp q=>by rw[bTf,aWm (n:=2) (pre:=[_]) rfl,aOc (by rw[BK,pL,List.length_replicate,B8];omega)]
 simp[-E,-O,↓KW,nwV,pL,iY,hne1]
 refine eF (λx:Ae×Ad (Ad Al)=>x.1<=n/\Sh n c x.2/\∀r s,r<n->s<c->ent x.2 r s=sqF l c x.1 0 r s) (λx=>⟨gK [(2,.d (.sl L)),(6,.ptr 1 0),(7,.ptr (n+3) 0),(8,.d (.i .i64 (x.1:Al)))],fqH n c x.2,n+4⟩) (λx=>n-x.1)
  (0,AO n (AO c 0)) ⟨BH _,hz0,λr s hr hs=>?_⟩ ?_ ?_
 .unfold ent sqF
  rw[Ap (by omega),Ah (l:=AO n _),E2,AB hr]
  simp only[AQ]
  rw[Ah,E2,AB hs];rfl
 .rw[aYa,hH0]
  refine⟨_,nB ?_ (λid o' ho=>⟨o',ho,rN hz0 ho⟩) (λid hid=>wF hz0 hid) (by simp)⟩
  have g1:=mO hz0 (id:=1) (by omega) (by omega)
  have g4:=mO hz0 (id:=n+3) (by omega) (by omega)
  have g5:2+(n+1)=n+3:=by omega
  simp[-E,upd,bH,Γ0,g1,g4,g5]
 .rintro⟨i,M⟩ ⟨hi,hM,hME⟩
  simp only at hi hM hME
  have hH1:fqH n c M 1=Aa (.cells 31 [.d (.i .i64 0),.d (.i .i64 0),.nil]):=rfl
  have hHo:fqH n c M (n+3)=Aa (.cells 31 [.d (.i .i64 (n:Al)),.d (.i .i64 (c:Al)),.own 2 0 n 1]):=aOd (by rw[hM.len,B8];omega)
  by_cases hgi:i<n
  .have q1:(i:Al)<n:=by omega
   have hw:Ax.wrap ((i:Al)+1)=(i:Al)+1:=bP
   have hsome:=λid=>mO hM (id:=id)
   have htop:=λid=>wF hM (id:=id)
   have hself:=λ(H:Hp) id o=>rN hM (H:=H) (id:=id) (o:=o)
   generalize hHg:fqH n c M=H at *
   simp[-E,-O,↓KW,q1,hH1,hHo]
   refine eF (λx:Ae×Ad (Ad Al)=>x.1<=c/\Sh n c x.2/\∀r s,r<n->s<c->ent x.2 r s=sqF l c i x.1 r s) (λx=>⟨gK [(2,.d (.sl L)),(6,.ptr 1 0),(7,.ptr (n+3) 0),(8,.d (.i .i64 (i:Al))),(9,.d (.i .i64 (x.1:Al)))],fqH n c x.2,n+4⟩) (λx=>c-x.1)
    (0,M) ⟨BH _,hM,hME⟩ ?_ ?_
   .rw[hHg]
    refine⟨_,nB ?_ (λid o' ho=>⟨o',ho,hself _ _ _ ho⟩) (λid hid=>htop id hid) (by simp)⟩
    have g1:=hsome 1 (by omega) (by omega)
    have g4:=hsome (n+3) (by omega) (by omega)
    simp[-E,upd,bH,Γ0,g1,g4]
   .clear hHg hH1 hHo hsome htop hself hM hME
    rintro⟨j,M⟩ ⟨hj,hM,hME⟩
    simp only at hj hM hME
    have hH1:fqH n c M 1=Aa (.cells 31 [.d (.i .i64 0),.d (.i .i64 0),.nil]):=rfl
    have hHo:fqH n c M (n+3)=Aa (.cells 31 [.d (.i .i64 (n:Al)),.d (.i .i64 (c:Al)),.own 2 0 n 1]):=aOd (by rw[hM.len,B8];omega)
    have hHh:fqH n c M 2=Aa (.cells 66 (hdr c n 3)):=by have:=aWl (b:=1) (c:=c) (m:=2) (pre:=[.cells 31 [.d (.i .i64 0),.d (.i .i64 0),.nil]]) (M:=M) (post:=[.cells 31 [.d (.i .i64 (n:Al)),.d (.i .i64 (c:Al)),.own 2 0 n 1]]) rfl;rwa [hM.len]at this
    obtain⟨v,hv,hvl,hve⟩:=hM.get hgi
    have hHi:fqH n c M (i+3)=Aa (.cells 35 ((vcs v).map .d)):=aJs (m:=2) rfl hv
    have hin:i*c<=16*16:=BO (by omega) hc
    have hmm:((i:Al)*(c:Al))=((i*c:Ae):Al):=by rw[Di]
    obtain⟨q,hq⟩:∃q,q=i*c+j:=⟨_,rfl⟩
    obtain⟨t,ht⟩:∃t,t=i*c:=⟨_,rfl⟩
    rw[<-ht]at hmm hin hq
    have hwm:Ax.wrap ((i:Al)*(c:Al))=(t:Al):=by rw[hmm];exact bP
    have hwq:Ax.wrap ((t:Al)+(j:Al))=(q:Al):=by rw[hq,Em];exact bP
    by_cases hgj:j<c
    .have q2:(j:Al)<c:=by omega
     have hw2:Ax.wrap ((j:Al)+1)=(j:Al)+1:=bP
     by_cases hql:q<l.length
     .have q3:q<L.length:=by omega
      have q3':(q:Al)<L.length:=by omega
      have hwq0:Ax.wrap (q:Al)=q:=bP
      obtain⟨z,hz⟩:∃z,l[q]? = Aa z:=⟨_,Ac hql⟩
      have hLi:=hLg q z hz
      have hLi':=cI hLi
      have hz8:=hb _ (At hz)
      have hvq:vf l (i*c+j)=z.tmod 10:=by unfold vf;rw[<-ht,<-hq,Ah,hz];rfl
      obtain⟨u,hu⟩:∃u,z.tmod 10=u:=⟨_,rfl⟩
      have hub:=bVi l (i*c+j)
      rw[hu]at hvq
      rw[hvq]at hub
      have hw8:IntKind.i8.wrap u=u:=bCm (by omega) (by omega)
      have hwu:Ax.wrap u=u:=bP
      have hof:=cCx u (by omega) (by omega)
      have hM':Sh n c (M.set i (v.set j u)):=aSx hM hv
      have hupd:upd (fqH n c M) (i+3) (Aa (.cells 35 ((vcs (v.set j u)).map .d)))=fqH n c (M.set i (v.set j u)):=bOf (m:=2) rfl (by rw[hM.len];exact hgi)
      have hlay:=aAj (v:=v) u (j:=j) (by rw[hvl];exact hgj)
      have hvcl:=fR v
      rw[hvl]at hvcl
      have hj2:j*2+2<=c*2:=by omega
      have hg:=aAo (c:=c) (b:=3) hgi
      have hgl:=lT c n 3
      have hg2:∀h:i<(hdr c n 3).length,(hdr c n 3)[i]'h=.own (i+3) 0 c 2:=λh=>BC ((Ac h).symm.trans hg)
      generalize hHg:fqH n c M=H at *
      generalize hdr c n 3=cellsR at *
      simp[-E,-O,↓KW,q1,q2,q3,q3',hwm,hwq,hwq0,hLi,hLi',hu,hw8,hwu,hH1,hHo,hHh,hHi,hg,hg2,hgl,hgi,hgj]
      refine aL hof ?_
      rw[cX]
      simp[-E,-O,↓KW,hw2,hH1,hHo,hHh,hHi,hg,hg2,hgl,hgi,hgj,hj2,hvcl,hlay,bE]
      rw[hupd]
      refine bD (j+1,M.set i (v.set j u)) ⟨hgj,hM',λr s hr hs=>?_⟩ (FI hgj (CM _)) ?_
      .rw[bTm hM hgi hgj hv,hME r s hr hs]
       simp only[sqF]
       split
       .rename_i e;rw[AB (by omega),e.1,e.2,hvq]
       .split
        .rw[AB (by omega)]
        .rw[Ap (by omega)]
      .refine⟨_,nB ?_ (λid o' ho=>⟨o',ho,rN hM' ho⟩) (λid hid=>wF hM' hid) (by simp)⟩
       have g1:=mO hM' (id:=1) (by omega) (by omega)
       have g4:=mO hM' (id:=n+3) (by omega) (by omega)
       simp[-E,upd,bH,Γ0,g1,g4]
     .have q3:¬q<L.length:=by omega
      have q3':¬(q:Al)<L.length:=by omega
      have hsome:=λid=>mO hM (id:=id)
      have htop:=λid=>wF hM (id:=id)
      have hself:=λ(H:Hp) id o=>rN hM (H:=H) (id:=id) (o:=o)
      generalize hHg:fqH n c M=H at *
      simp[-E,-O,↓KW,q1,q2,q3,q3',hwm,hwq,hH1,hHo,hw]
      refine bD (i+1,M) ⟨hgi,hM,λr s hr hs=>?_⟩ (FI hgi (CM _)) ?_
      .rw[hME r s hr hs]
       simp only[sqF]
       by_cases e:r<i\/(r=i/\s<j)
       .rw[AB e,AB (by omega)]
       .rw[Ap e]
        by_cases e2:r<i+1\/(r=i+1/\s<0)
        .have er:r=i:=by omega
         rw[AB e2,er,<-ht]
         unfold vf
         rw[Ah,Bn (by omega)];rfl
        .rw[Ap e2]
      .rw[hHg]
       refine⟨_,nB ?_ (λid o' ho=>⟨o',ho,hself _ _ _ ho⟩) (λid hid=>htop id hid) (by simp)⟩
       have g1:=hsome 1 (by omega) (by omega)
       have g4:=hsome (n+3) (by omega) (by omega)
       simp[-E,upd,bH,Γ0,g1,g4]
    .have q2:¬(j:Al)<c:=by omega
     have ej:j=c:=by omega
     have hsome:=λid=>mO hM (id:=id)
     have htop:=λid=>wF hM (id:=id)
     have hself:=λ(H:Hp) id o=>rN hM (H:=H) (id:=id) (o:=o)
     generalize hHg:fqH n c M=H at *
     simp[-E,-O,↓KW,q2,hH1,hHo,hw]
     refine bD (i+1,M) ⟨hgi,hM,λr s hr hs=>?_⟩ (FI hgi (CM _)) ?_
     .rw[hME r s hr hs]
      simp only[sqF]
      by_cases e:r<i\/(r=i/\s<j)
      .rw[AB e,AB (by omega)]
      .rw[Ap e,Ap (by omega)]
     .rw[hHg]
      refine⟨_,nB ?_ (λid o' ho=>⟨o',ho,hself _ _ _ ho⟩) (λid hid=>htop id hid) (by simp)⟩
      have g1:=hsome 1 (by omega) (by omega)
      have g4:=hsome (n+3) (by omega) (by omega)
      simp[-E,upd,bH,Γ0,g1,g4]
  .have q1:¬(i:Al)<n:=by omega
   have hMk:M=rcM l n c:=cDe hM λr s hr hs=>by rw[hME r s hr hs];simp only[sqF];rw[AB (by omega)]
   have hMl:=hM.len
   have hHh:fqH n c M 2=Aa (.cells 66 (hdr c n 3)):=by have:=aWl (b:=1) (c:=c) (m:=2) (pre:=[.cells 31 [.d (.i .i64 0),.d (.i .i64 0),.nil]]) (M:=M) (post:=[.cells 31 [.d (.i .i64 (n:Al)),.d (.i .i64 (c:Al)),.own 2 0 n 1]]) rfl;rwa [hM.len]at this
   have hfr:∀(H:Hp),(∀id,id<n->H (id+3)=fqH n c M (id+3))->(hdr c n 3).mapM (frz H 6)=Aa (M.map dK):=λH hH=>by
    rw[mapM_some (frz H 6) (λk=>dK (M.getD k [])) _ λk x hx=>by
     have hlt:k<n:=by have:=(AA.1 hx).1;rwa [lT]at this
     rw[aAo hlt]at hx;injection hx with hx;subst hx
     obtain⟨v,hv,hvl,hve⟩:=hM.get hlt;have hHi:fqH n c M (k+3)=Aa (.cells 35 ((vcs v).map .d)):=aJs (m:=2) rfl hv;rw[Ah,hv,AQ];exact bJh 4 (by rw[hH k hlt,hHi]) hvl]
    congr 1;apply Dr;intro k;rw[lT];by_cases hk:k<n
    .rw[Ao,BZ hk,Ao,Bj,Ah,Ac (by omega)];rfl
    .rw[Bn (by simpa using hk),Bn (by simpa[hMl]using hk)]
   have hgl:=lT c n 3
   have htk:D7 n (hdr c n 3)=hdr c n 3:=A4 (by rw[hgl];exact AM _)
   rw[<-hMk]
   generalize fqH n c M=H at *
   generalize hdr c n 3=cellsR at *
   have hml:(M.map dK).length=n:=by rw[BV,hMl]
   simp[-E,-O,↓KW,q1,hH1,hHo,hHh,aWq,hgl,htk]
   have hch:chunk 1 n (M.map dK)=M.map λv=>[dK v]:=by rw[lZ _ _ hml.symm,Dp];rfl
   rw[hfr _ (λid hid=>by simp[upd])]
   simp[-E,hch]
def aZb[M:Mch Ab](l:Ad Al)(n:Ae)(hn:n<=16)(hb:∀x∈l,-128<=x/\x<=127)(hll:l.length<=9223372036854775807) :
 Spec Ab 42 [.i .i64 (n:Al),.i .i64 (n:Al),aOj l] (lC n (sqM l n)):=aRi l n n hn hn hb hll
open Go.ChangeShapes Go.WideShapes Go.ChangeAt Go.RowKit
def bFx(R C:Ae)(V:Ad Al):D:=.ag [.i .u8 R,.i .u8 C,aOj V]
def cBh:Ab.cellsOf 24=3:=by kernel_rfl
def cBg:Ab.cellsOf 5=1:=by kernel_rfl
def cFa:Ab.cellsOf 193=1:=by kernel_rfl
def cBi:Ab.cellsOf 22=1:=by kernel_rfl
def cDl{α:Type}{l:Ad α}(h:l.length=3):∃a b c,l=[a,b,c]:=by
 match l,h with
 |[a,b,c],_=>exact⟨a,b,c,rfl⟩
section
variable {H:Type} {enc:AF×AE->H} {w:Ag} {sp:Ae->Bw} {held:Bw}
def bGk{cs:Ad AE}{x:DataW H×Ad MemPlace}{fuel:Ae}(h:DataW.trod enc Ab w 0 sp held fuel 5 cs=Aa x):∃n:Ae,cs=[.int .u8 n]/\n<256:=by obtain⟨a,q1,_,w1⟩:=GO Tryz.underlying5 h;have:=bDd w1;exact⟨a.toNat,by rw[q1];congr 2;omega,by omega⟩
def bYg{t e:AF}{cs:Ad AE}{x:DataW H×Ad MemPlace}{fuel:Ae}(k:IntKind)(lo hi:Al)(ht:Ab.underlying t=Aa (.slice e))(he:Ab.underlying e=Aa (.int k))(ce:Ab.cellsOf e=1)
 (hw:∀n:Al,(Lit.int k n).wf=Ak->lo<=n/\n<=hi) (hf:DataW.trod enc Ab w 0 sp held fuel t cs=Aa x):∃(v:AE) (m:Ad Al),cs=[v]/\VD (λb=>b<w.heap.size) w (.sl (m.map λn=>[D.i k n])) v/\(∀n∈m,lo<=n/\n<=hi)/\m.length<=9223372036854775807:=by
 obtain⟨v,m,h1,h2,h3,h4⟩:=aZk ht (by omega) (λn:Al=>[D.i k n]) (λn=>lo<=n/\n<=hi) (λfuel cs x h=>by
  obtain⟨a,q1,_,w1⟩:=GO he h;subst q1;refine⟨a,hw a w1,by simp[ce],λk c v hk hv=>?_⟩;rcases k with _|k
  .simp at hk hv;subst hk;subst hv;exact .i _ _
  .simp at hk) hf
 exact⟨v,m,h1,h2,h3,h4⟩
def bWv{n:Al}(h:(Lit.int .i8 n).wf=Ak):-128<=n/\n<=127:=by have hmin:IntKind.i8.min=-128:=rfl;have hmax:IntKind.i8.max=127:=rfl;simp only[Lit.wf,A5,Bz]at h;omega
def bGl{v:AE}{d:DataW H}{ps:Ad MemPlace}{cs:Aw AE}(hv:v=.agg cs)(h:DataW.Trod enc Ab w 0 sp held 24 v d ps) :
 ∃(R C:Ae) (V:Ad Al),VD (λb=>b<w.heap.size) w (bFx R C V) v/\R<256/\(∀x∈V,-128<=x/\x<=127)/\V.length<=9223372036854775807/\C<256:=by
 subst hv
 obtain⟨fuel,hf⟩:=h
 obtain⟨xs,n,_,_,hl,hlen,hfs⟩:=DataW.trod_struct Tryz.underlying24 hf
 rw[cBh]at hl
 have h0:=hfs 0 { name := "R",type:=5,offset:=0,embedded:=Az,tag := "",pkgPath := "",byteOffset:=0 } rfl
 have h1:=hfs 1 { name := "C",type:=5,offset:=1,embedded:=Az,tag := "",pkgPath := "",byteOffset:=1 } rfl
 have h2:=hfs 2 { name := "V",type:=22,offset:=2,embedded:=Az,tag := "",pkgPath := "",byteOffset:=8 } rfl
 obtain⟨x0,hx0⟩:∃x,xs[0]? = Aa x:=⟨_,Ac (by rw[hlen];decide)⟩
 obtain⟨x1,hx1⟩:∃x,xs[1]? = Aa x:=⟨_,Ac (by rw[hlen];decide)⟩
 obtain⟨x2,hx2⟩:∃x,xs[2]? = Aa x:=⟨_,Ac (by rw[hlen];decide)⟩
 rw[hx0]at h0;rw[hx1]at h1;rw[hx2]at h2
 simp only[EG]at h0 h1 h2 hl
 obtain⟨cs⟩:=cs
 simp only at h0 h1 h2 hl
 obtain⟨a,b,c,rfl⟩:=cDl hl
 simp only[cBg,cBi,Ew,List.drop_succ_cons,DD,Ct]at h0 h1 h2
 obtain⟨R,e0,hR⟩:=bGk h0
 obtain⟨C,e1,hC⟩:=bGk h1
 obtain⟨u,V,e2,hu,hg,hL⟩:=bYg .i8 (-128) 127 Tryz.underlying22 Tryz.underlying193 cFa (λn h=>bWv h) h2
 injection e0 with e0;injection e1 with e1;injection e2 with e2
 subst e0;subst e1;subst e2
 refine⟨R,C,V,.ag _ _ rfl λk d v hk hv=>?_,hR,hg,hL,hC⟩
 rcases k with _|_|_|k
 .simp at hk hv;subst hk;subst hv;exact .i _ _
 .simp at hk hv;subst hk;subst hv;exact .i _ _
 .simp at hk hv;subst hk;subst hv;exact hu
 .simp at hk
end
end Go.Am
end
section
open Go Go.Am Go.Proofs
namespace Go.Am
def aXe[M:Mch Ab](m:Ad Ae)(h:m.length<=1000000):Spec Ab 77 [aZ m] (aZ m):=by
 refine bU (N:=8) Tryz.func77 ?_;cases m with
 | nil =>
  simp[-E,-O,↓KW,aZ]
 | cons x m =>
  have hb:(m.length+1)*4<=140737488355328/\m.length+1<=maxLen:=by simp only[Av]at h;exact⟨by omega,Bg (by omega) (by decide:1000000<=maxLen)⟩
  have e1:chunk 1 (m.length+1) (lms (x::m))=(x::m).map λ(x:Ae)=>[D.i .u32 (x:Al)]:=kN rfl
  have e2:(lms m).length=m.length:=by simp[lms]
  have e3:D7 m.length ((lms m).map AV.d)=(lms m).map AV.d:=A4 (by simp[lms]);have e4:chunk 1 (m.length+1) (D.i .u32 (x:Al)::lms m)=(x::m).map λ(x:Ae)=>[D.i .u32 (x:Al)]:=e1
  have e5:∀d,D7 (m.length+1) (AV.d d::(lms m).map AV.d)=AV.d d::(lms m).map AV.d:=λd=>by rw[DD,e3]
  simp[-E,-O,↓KW,aZ,hb,e2,e3,e4,e5]
def bKk:Ad (Ad D)->Aq (Ad Ae)
 |[]=>Aa []
 | [.i .u32 a]::l=>if 0<=a then match bKk l with
  |some m=>Aa (a.toNat::m)
  |none=>Aj
  else Aj
 |_=>Aj
def aWx:∀(l:Ad (Ad D)) (m:Ad Ae),bKk l=Aa m->.sl l=aZ m
 |[],m,h=>by simp only[bKk,AH]at h;subst h;rfl
 | x::l,m,h=>by
  unfold bKk at h;split at h
  .rename_i e;cases e
  .rename_i a l' e;injection e with e1 e2;subst e1;subst e2
   split at h
   case isFalse=>cases h
   rename_i h0;split at h
   case h_2=>cases h
   rename_i m' hm;injection h with h;subst h
   have:=aWx _ _ hm;unfold aZ at this ⊢;injection this with this
   simp only[BX,Cj h0,<-this]
  .cases h
def aTc(d:D):Aq Al:=match d with
 |.ag [.b s,.sl []]=>if s then Aj else Aa 0
 |.ag [.b s,.sl [[.i .u32 a]]]=>if 0<a/\a<4294967296 then Aa (if s then -a else a)else Aj
 |_=>Aj
def bTq(z:Al):Aq D:=if z=0 then Aa (.ag [.b Az,.sl []])else if z.natAbs<4294967296 then Aa (.ag [.b (decide (z<0)),.sl [[.i .u32 z.natAbs]]])else Aj
def aTb{n:Ae}(h0:n≠0)(h:n<4294967296):bJ n=[n]:=by rw[gB h0,Cr h,DW h,cN]
def aWp{z:Al}{d:D}(h:bTq z=Aa d):d=encZ z:=by
 unfold bTq at h;split at h
 .rename_i e;subst e;injection h with h;subst h;simp[encZ,encI,aZ,cN]
 .split at h
  .injection h with h;subst h
   rename_i h0 h1;simp only[encZ,encI,aTb (n:=z.natAbs) (by omega) h1,aZ,BX,Ee]
  .cases h
def wM{z:Al}{d:D}(h:aTc d=Aa z):d=encZ z/\z.natAbs<4294967296:=by
 unfold aTc at h;split at h
 .rename_i s;cases s
  .simp only[Bool.false_eq_true,if_false,AH]at h;subst h;exact⟨by simp[encZ,encI,aZ,cN],by decide⟩
  .simp at h
 .rename_i s a;split at h
  case isFalse=>cases h
  rename_i hc;injection h with h
  have h1:z.natAbs=a.toNat:=by subst h;cases s<;>simp<;>omega
  have h2:decide (z<0)=s:=by subst h;cases s<;>simp<;>omega
  refine⟨?_,by omega⟩;simp only[encZ,encI,h1,h2,aTb (n:=a.toNat) (by omega) (by omega),aZ,BX,Ee,Cj (Int.le_of_lt hc.1)]
 .cases h
def aNl{z:Al}(h:z.natAbs<4294967296):(bJ z.natAbs).length<=137438953472:=by have:=cV (n:=z.natAbs) (k:=1) (by simpa using h);omega
def EIc(f:AU)(ds:Ad D):Aq D :=
 if f=73 then match ds with
  |[x,y]=>(aTc x).bind λa=>(aTc y).bind λb=>bTq (a+b)
  |_=>Aj
 else if f=114 then match ds with
  |[x,y]=>(aTc x).bind λa=>(aTc y).bind λb=>bTq (a*b)
  |_=>Aj
 else if f=77 then match ds with
  |[.sl l]=>(bKk l).bind λm=>if m.length<=1000000 then Aa (.sl l)else Aj
  |_=>Aj
 else if f=57 then match ds with
  |[x]=>(aTc x).bind λa=>Aa (.i .i64 (if a=0 then 0 else if decide (a<0)then -1 else 1))
  |_=>Aj
 else Aj
def cAy[M:Mch Ab]{f:AU}{ds:Ad D}{r:D}(h:EIc f ds=Aa r):Spec Ab f ds r:=by
 unfold EIc at h;split at h
 .rename_i hf;subst hf;split at h
  case h_2=>cases h
  rename_i x y;obtain⟨a,ha,h'⟩:=Af.1 h;obtain⟨b,hb,h2⟩:=Af.1 h';clear h h';obtain⟨rfl,la⟩:=wM ha;obtain⟨rfl,lb⟩:=wM hb;rw[aWp h2];exact aAl a b (aNl la) (aNl lb)
 split at h
 .rename_i hf;subst hf;split at h
  case h_2=>cases h
  rename_i x y;obtain⟨a,ha,h'⟩:=Af.1 h;obtain⟨b,hb,h2⟩:=Af.1 h';clear h h';obtain⟨rfl,la⟩:=wM ha;obtain⟨rfl,lb⟩:=wM hb;rw[aWp h2];exact aJl a b (aNl la) (aNl lb)
 split at h
 .rename_i hf;subst hf;split at h
  case h_2=>cases h
  rename_i l;obtain⟨m,hm,h⟩:=Af.1 h;split at h
  case isFalse=>cases h
  rename_i hl;injection h with h;subst h
  rw[aWx l m hm];exact aXe m hl
 split at h
 .rename_i hf;subst hf;split at h
  case h_2=>cases h
  rename_i x;obtain⟨a,ha,h2⟩:=Af.1 h;clear h;obtain⟨rfl,la⟩:=wM ha;injection h2 with h2;subst h2
  have:=aWf (decide (a<0)) (bJ a.natAbs) (Bg (aNl la) (by decide));rw[kV (mR _)]at this;have hz:(bJ a.natAbs=[])↔(a=0):=by
   constructor
   .intro h;apply EC;intro h0;rw[gB (by omega)]at h;cases h
   .intro h;subst h;simp[cN]
  simp only[hz]at this;exact this
 cases h
def EI:Kn:={ E00 with call:=EIc }
def aPr[M:Mch Ab]:oB Ab EI:=⟨λf ds r h=>cAy h,λ_ _ _ _ _ _ h=>by(cases h),λ_ _ h=>by(cases h),λ_ _ h=>by(cases h),λ_ _ _ _ _ _ _ _ h=>by(cases h)⟩
def cGt:Ad Ae:=[204,275,205,253,274,81,162,245,276,110,256,68,106,84,80,190,263,108,101,146,224,286,163,164,165,247,248,244,246,333,280,334,335,208,277,367,336,109,211,191,192,268]
def E1:Kn:={ EI with hf:=λf=>cGt.contains f }
def aHu[M:Mch Ab]:oB Ab E1:=⟨aPr.call,aPr.ocall,aPr.keys,aPr.sorted,aPr.hcall⟩
def kc1[M:Mch Ab]{f:AU}{args:Ad D}{r:D}(h:(kC Ab E1 100 30).call f args=Aa r):Spec Ab f args r:=(mF (fuel:=100) aT aHu 30).call _ _ _ h
def zi(n:Al):Ad D:=[.b (decide (n<0)),.sl (if n=0 then[]else[[.i .u32 n.natAbs]])]
def zM(r c:Al)(A:Ad (Ad Al)):D:=.ag [.i .i64 r,.i .i64 c,.sl (A.map λv=>[.sl (v.map zi)])]
def aM:D:=zM 2 2 [[1,2],[3,4]]
def fmD:D:=.ag [.i .i64 2,.i .i64 2,.sl [[.sl [zi 1,zi 0]],[.sl [zi 0,zi 2]]],.i .i64 2,.i .i64 2,.sl [[.sl [zi (-2),zi 1]],[.sl [zi 3,zi (-1)]]],.i .i64 2,.i .i64 2,.sl [[.sl [zi 1,zi 1]],[.sl [zi 3,zi 2]]]]
def cDp[M:Mch Ab]:Spec Ab 25 [aM] fmD:=kc1 (by kernel_rfl)
def cGm[M:Mch Ab]:Spec Ab 41 [aM] (.sl [zi 1,zi 2]):=kc1 (by kernel_rfl)
def ctD:D:=.ag ([.i .i64 2]++zi (-2)++[.i .u64 0,.sl [[.i .i64 0],[.i .i64 1]],.sl [],.sl [[.i .i64 2,.i .i64 2,.sl [[.sl [zi 1,zi 0]],[.sl [zi (-3),zi 1]]]],[.i .i64 2,.i .i64 2,.sl [[.sl [zi 1,zi 2]],[.sl [zi 0,zi (-2)]]]]],.sl [],.sl [],.b Az])
def cGp[M:Mch Ab]:Spec Ab 36 [aM] (.tp [.ag (zi (-2)),.i .i64 0]):=kc1 (by kernel_rfl)
def cDo[M:Mch Ab]:Spec Ab 37 [aM,.i .i64 2] (.tp [ctD,.i .i64 0]):=kc1 (by kernel_rfl)
section
variable [M:Mch Ab]
def cGo:Spec Ab 39 [aM,ctD] (.b Ak):=kc1 (by kernel_rfl)
end
def blL(z:Al)(l:Ad (Ae×Ae×Ae)):Ad Al:=(l.filter λx=>z%(x.2.1:Al) != (x.2.2:Al)).map λx=>(x.1:Al)
def aOz(z:Al)(l:Ad (Ae×Ae×Ae))(w p v:Ae):blL z (l++[(w,p,v)])=blL z l++if z%(p:Al)=(v:Al)then[]else[(w:Al)]:=by unfold blL;rw[List.filter_append,Fi];congr 1;by_cases h:z%(p:Al)=(v:Al)<;>simp[h]
def aKi(z:Al)(l:Ad (Ae×Ae×Ae)):(blL z l).length<=l.length:=by unfold blL;rw[BV];exact List.length_filter_le ..
def bJy(x:Al)(a b:Ad Al):dzI (x::(a++b))=dzI (x::a)++dzI b:=by simp[dzI]
def aWt(x:Al):dzI [x]=[.i .i64 x]:=rfl
def aJz{l:Ad Al}{n:Ae}(h:l.length=n):D7 n ((dzI l).map AV.d)=(dzI l).map AV.d:=A4 (by simp[dzI,h])
def bBg{l:Ad Al}{n:Ae}(h:l.length=n):chunk 1 n (dzI l)=l.map λx=>[D.i .i64 x]:=by rw[lZ _ _ (by rw[kT];exact h.symm)];simp[dzI]
def bS(z:Al)(L:Ad (Ad D))(n i:Ae):Ad Al->St
 |[]=>StL [(2,.ptr 1 0),(5,.nil),(8,.d (.sl L)),(9,.d (.i .i64 n)),(10,.d (.i .i64 i))] Aj [.cells 35 [.d (.b (decide (z<0))),.d (aZ (bJ z.natAbs))]]
 |x::T=>StL [(2,.ptr 1 0),(5,.own 2 0 (T.length+1) 1),(8,.d (.sl L)),(9,.d (.i .i64 n)),(10,.d (.i .i64 i))] Aj [.cells 35 [.d (.b (decide (z<0))),.d (aZ (bJ z.natAbs))],.cells 3 ((dzI (x::T)).map .d)]
def bBu[M:Mch Ab](z:Al)(l:Ad (Ae×Ae×Ae))(hl:l.length<=12)(hz:Sz z)(hp:∀x∈l,0<x.2.1/\x.2.1<=2147483648)(hP:∀x∈l,Spec Ab 129 [.i .u64 (x.2.1:Ae)] (.b Ak)) :
 Spec Ab 65 [encZ z,lB l] (ezI (dV (blL z l))):=by
 obtain⟨L,hL,hLl,hLg⟩:=rQ l
 rw[hL]
 refine bU (N:=39) Tryz.func65 ?_
 simp[-E,-O,↓KW,cX z,bE]
 refine bT (τ:=Ae) (λi=>i<=l.length) (λi=>bS z L L.length i (blL z (l.take i))) (λi=>l.length-i) 0 (BH _) ?_ ?_
 .rw[Ct]
  show ∃ρ,Wk _ (bS _ _ _ _ []) ρ
  unfold bS
  refine wkQ [1] ?_ ?_<;>simp[-E,upd,bH,Γ0]
 .intro i hi
  by_cases hlt:i<l.length
  .obtain⟨⟨w,p,v⟩,hge⟩:∃x,l[i]? = Aa x:=⟨_,Ac hlt⟩
   have hmem:=At hge
   have hLi:=hLg i _ hge
   simp only at hLi
   have hLi':=cI hLi
   have hiL:i<L.length:=by omega
   have hT1:blL z (l.take (i+1))=blL z (l.take i)++if z%(p:Al)=(v:Al)then[]else[(w:Al)]:=by rw[BG,hge,Option.toList_some,aOz]
   have hBl:(blL z (l.take i)).length<=i:=Bg (aKi _ _) (by rw[Bt];omega)
   have hw1:Ax.wrap ((i:Al)+1)=((i+1:Ae):Al):=bP
   have hPp:Spec Ab 129 [.i .u64 (p:Ae)] (.b Ak):=hP _ hmem
   have hRd:=aIs p z (hp _ hmem).1 (hp _ hmem).2 hz
   generalize blL z (l.take i)=T at *
   generalize z%(p:Al)=r at *
   by_cases hr:r=(v:Al)
   .rw[AB hr,El]at hT1
    cases T with
    | nil =>
     simp[-E,-O,↓KW,bS,hiL,hLi,hLi',hw1,bE]
     refine aL hPp ?_
     simp[-E,-O,↓KW,bE]
     refine aL hRd ?_
     simp[-E,-O,↓KW,hr,hw1]
     refine bD (i+1) (by omega) (by show l.length-(i+1)<l.length-i;omega) ?_
     show ∃ρ,Wk _ (bS _ _ _ _ _) ρ
     rw[hT1]
     unfold bS
     refine wkQ [1] ?_ ?_<;>simp[-E,upd,bH,Γ0]
    | cons x T =>
     simp[-E,-O,↓KW,bS,hiL,hLi,hLi',hw1,bE]
     refine aL hPp ?_
     simp[-E,-O,↓KW,bE]
     refine aL hRd ?_
     simp[-E,-O,↓KW,hr,hw1]
     refine bD (i+1) (by omega) (by show l.length-(i+1)<l.length-i;omega) ?_
     show ∃ρ,Wk _ (bS _ _ _ _ _) ρ
     rw[hT1]
     unfold bS
     refine wkQ [1,2] ?_ ?_<;>simp[-E,upd,bH,Γ0]
   .rw[Ap hr]at hT1
    have hr':(r != (v:Al))=true:=by simp[hr]
    cases T with
    | nil =>
     have hm1:(1:Ae)<=maxLen:=bY (by decide)
     simp[-E,-O,↓KW,bS,hiL,hLi,hLi',hw1,bE]
     refine aL hPp ?_
     simp[-E,-O,↓KW,bE]
     refine aL hRd ?_
     simp[-E,-O,↓KW,hr,hr',hw1,hm1]
     refine bD (i+1) (by omega) (by show l.length-(i+1)<l.length-i;omega) ?_
     show ∃ρ,Wk _ (bS _ _ _ _ _) ρ
     rw[hT1]
     show ∃ρ,Wk _ (bS _ _ _ _ ((w:Al)::[])) ρ
     unfold bS
     refine wkQ [1,4] ?_ ?_<;>simp[-E,upd,bH,Γ0,Ci,cH,aWt]
    | cons x T =>
     have hbb:=kO (n:=T.length+1) (by simp only[Av]at hBl;omega)
     simp[-E,-O,↓KW,bS,hiL,hLi,hLi',hw1,bE]
     refine aL hPp ?_
     simp[-E,-O,↓KW,bE]
     refine aL hRd ?_
     simp[-E,-O,↓KW,hr,hr',hw1,kT,hbb,bY]
     refine bD (i+1) (by omega) (by show l.length-(i+1)<l.length-i;omega) ?_
     show ∃ρ,Wk _ (bS _ _ _ _ _) ρ
     rw[hT1]
     show ∃ρ,Wk _ (bS _ _ _ _ (x::(T++[(w:Al)]))) ρ
     unfold bS
     refine wkQ [1,5] ?_ ?_<;>simp[-E,upd,bH,Γ0,Ci,cH,bJy,aWt]
  .have hiL:¬i<L.length:=by omega
   rw[A4 (show l.length<=i by omega)]
   have hTl:=aKi z l
   generalize blL z l=T at *
   cases T with
   | nil =>
    simp[-E,-O,↓KW,bS,hiL]
    refine bQ ?_
    simp[-E,-O,↓KW]
    have h0:ezI (dV [])=.sl []:=rfl
    refine xQ (h:=.nil) (ds:=[]) (r:=.tp []) (l:=[]) (by simp) (by rfl) (by rfl) (by rfl) (by rfl) (by rfl) (uW (d:=.sl []) (by rfl) bXm) ?_
    simp[-E,-O,↓KW,h0]
   | cons x T =>
    have hsl:(x::T).length<=12:=by omega
    have hSo:=cCt (x::T) hsl
    have hlen:(dzI (dV (x::T))).length=(dzI (x::T)).length:=by rw[kT,kT];exact eW _ _
    have hSl:(dV (x::T)).length=T.length+1:=eW _ _
    have e1:=aJz hSl
    have e2:=bBg hSl
    have e3:=kT (dV (x::T))
    rw[hSl]at e3
    have hno1:=pI 3 (x::T)
    have hno2:=pI 3 (dV (x::T))
    have e4:ezI (dV (x::T))=.sl ((dV (x::T)).map λx=>[D.i .i64 x]):=rfl
    rw[show(x::T).length=T.length+1 from rfl]at hSo
    generalize dV (x::T)=S at *
    simp[-E,-O,↓KW,bS,hiL]
    refine bQ ?_
    simp[-E,-O,↓KW]
    refine jP (by simp) ?_
    refine eZ (id:=2) (h:=.own 0 0 (T.length+1) 1) (by rfl) hno1 (by rfl) (by rfl) hSo (by simp[HO.len,hlen]) hno2 ?_
    simp[-E,-O,↓KW,e4,e1,e2,e3]
def aCc(p:Ae):∀l:Ad Ae,bK (l++[p])=bK l*p
 |[]=>by simp[bK]
 |x::l=>by simp only[Cz,bK,aCc p l,C7]
def bTo[M:Mch Ab](l:Ad Ae)(b:Ae)(hl:l.length<=1000)(hb:b<2^200)(h1:∀p∈l,0<p/\p<4294967296)(hB:bK l<2^255) :
 Spec Ab 60 [cO l,cB b] (.b (decide (2*b<bK l))):=by
 obtain⟨L,hL,hLl,hLg⟩:=wK l
 have hO:=mL (n:=1) (by omega)
 have hA:=aKj (x:=b) (y:=b) (by omega) (by omega)
 rw[<-Nat.two_mul]at hA
 rw[hL]
 obtain⟨c,hc⟩:∃c,2*b=c:=⟨_,rfl⟩
 have hc2:c<2^201:=by omega
 rw[hc]at hA ⊢
 refine bU (N:=26) Tryz.func60 ?_
 simp[-E,-O,↓KW,aY b,bE]
 refine aL hO ?_
 simp[-E,-O,↓KW,aY 1,bE]
 have hq:∀i,bK (l.take i)<2^255:=λi=>Bv (nX (λq hq=>(h1 q hq).1) i) hB
 refine bT (τ:=Ae) (λi=>i<=l.length) (λi=>StL [(3,.ptr 1 0),(5,.ptr 2 0),(9,.d (.sl L)),(10,.d (.i .i64 L.length)),(11,.d (.i .i64 i))] Aj [.cells 35 [.d (.b Az),.d (aZ (bJ b))],.cells 35 [.d (.b Az),.d (aZ (bJ (bK (l.take i))))]]) (λi=>l.length-i) 0 (BH _) ?_ ?_
 .rw[Ct]
  refine wkQ [1,2] ?_ ?_<;>simp[-E,upd,bH,Γ0,bK]
 .intro i hi
  have hqi:=hq i
  by_cases hlt:i<l.length
  .have hLi:=hLg i hlt
   have hge:l[i]? = Aa l[i]! := by rw[CC l i hlt];exact Ac hlt
   have hp:=h1 l[i]! (At hge)
   have hT:bK (l.take (i+1))=bK (l.take i)*l[i]! := by rw[BG,hge];exact aCc _ _
   have hLi':=cI hLi
   have hiL:i<L.length:=by omega
   have hw1:Ax.wrap ((i:Al)+1)=((i+1:Ae):Al):=bP
   have hW:=cBn (n:=l[i]!) (by omega)
   have hM:=aJd (x:=bK (l.take i)) (y:=l[i]!) (by omega) (by omega)
   rw[<-hT]at hM
   obtain⟨q',hq'⟩:∃q',bK (l.take (i+1))=q':=⟨_,rfl⟩
   rw[hq']at hM
   generalize l[i]! = p at *
   generalize bK (l.take i)=q at *
   simp[-E,-O,↓KW,hiL,hLi,hLi',bE]
   refine aL hW ?_
   simp[-E,-O,↓KW,aY p,bE]
   refine aL hM ?_
   simp[-E,-O,↓KW,aY q',hw1,bE]
   refine bD (i+1) (by omega) (by show l.length-(i+1)<l.length-i;omega) ?_
   show ∃ρ,Wk _ (StL _ _ _) ρ
   rw[hq']
   refine wkQ [1,2] ?_ ?_<;>simp[-E,upd,bH,Γ0]
  .have hiL:¬i<L.length:=by omega
   rw[A4 (show l.length<=i by omega)]at hqi ⊢
   obtain⟨r,hC,hr⟩:=bKu (x:=bK l) (y:=c) (by omega) (by omega)
   have hd:decide (0<r)=decide (c<bK l):=by
    by_cases h:c<bK l
    .rw[CQ h,CQ (hr.2 h)]
    .rw[Cn h,Cn (λh'=>h (hr.1 h'))]
   generalize bK l=q at *
   simp[-E,-O,↓KW,hiL]
   refine bQ ?_
   simp[-E,-O,↓KW,bE]
   refine aL hA ?_
   simp[-E,-O,↓KW,aY c,bE]
   refine aL hC ?_
   simp[-E,-O,↓KW,hd]
end Go.Am
end
namespace Go.Am
def sqS:Ad Al->Ae
 |[]=>0
 |z::v=>z.natAbs*z.natAbs+sqS v
def aLm(z:Al):∀v:Ad Al,sqS (v++[z])=sqS v+z.natAbs*z.natAbs
 |[]=>by simp[sqS]
 |y::v=>by rw[Cz,sqS,sqS,aLm z v];omega
def aBn{B:Ae}:∀{v:Ad Al} {n:Ae},v.length<=n->(∀z∈v,z.natAbs<=B)->sqS v<=n*(B*B)
 |[],n,_,_=>BH _
 |z::v,0,h,_=>by simp at h
 | z::v,n+1,h,hb=>by
  have h1:=aBn (v:=v) (n:=n) (by simpa using h) λy hy=>hb y (AT _ hy)
  have h2:=BO (hb z (AX ..)) (hb z (AX ..));rw[sqS,Nat.succ_mul];omega
def aRp(n:Ae)(A:Ad (Ad Al))(i j:Ae):Al:=if i<n/\j<n then(A.getD i []).getD j 0 else if i=j then 1 else 0
def fK(n:Ae)(A:Ad (Ad Al)):Al:=iJ (aRp n A)
def rsq(x:Ae->Al):Al:=x 0^2+x 1^2+x 2^2+x 3^2
def aBm(z:Al):((z.natAbs*z.natAbs:Ae):Al)=z^2:=by rw[Int.natAbs_mul_self,Int.pow_succ,Int.pow_one]
def bPr{n:Ae}(hn:n<=4){v:Ad Al}(hv:v.length=n):rsq (λj=>if j<n then v.getD j 0 else 0)=(sqS v:Al):=by
 have:n=0\/n=1\/n=2\/n=3\/n=4:=by omega
 rcases this with rfl|rfl|rfl|rfl|rfl
 .match v,hv with
  |[],_=>rfl
 .match v,hv with
  |[a],_=>simp[rsq,sqS,<-aBm]
 .match v,hv with
  |[a,b],_=>simp[rsq,sqS,<-aBm]
 .match v,hv with
  |[a,b,c],_=>simp[rsq,sqS,<-aBm];omega
 .match v,hv with
  |[a,b,c,d],_=>simp[rsq,sqS,<-aBm];omega
def aAc{n:Ae}(hn:n<=4){A:Ad (Ad Al)}(hA:A.length=n)(hr:∀v∈A,v.length=n){i:Ae}(hi:i<=3):rsq (aRp n A i)=if i<n then(sqS (A.getD i []):Al)else 1:=by
 by_cases h:i<n
 .rw[AB h,Ah,Ac (by omega),AQ,<-bPr hn (hr _ (B3 (by omega)))];congr 1;funext j;unfold aRp;by_cases hj:j<n
  .rw[AB ⟨h,hj⟩,AB hj,Ah (l:=A),Ac (by omega),AQ]
  .rw[Ap (λh'=>hj h'.2),Ap (by omega),Ap hj]
 .rw[Ap h];have:i=0\/i=1\/i=2\/i=3:=by omega
  rcases this with rfl|rfl|rfl|rfl<;>simp[rsq,aRp,h]
def aNw{n:Ae}(hn:n<=4){A:Ad (Ad Al)}(hA:A.length=n)(hr:∀v∈A,v.length=n):(fK n A).natAbs*(fK n A).natAbs<=bK (A.map sqS):=by
 have h:=cGu (aRp n A);have h0:=aAc hn hA hr (i:=0) (by decide);have h1:=aAc hn hA hr (i:=1) (by decide);have h2:=aAc hn hA hr (i:=2) (by decide);have h3:=aAc hn hA hr (i:=3) (by decide);unfold rsq at h0 h1 h2 h3;rw[h0,h1,h2,h3]at h;have h':(((fK n A).natAbs*(fK n A).natAbs:Ae):Al)<=((bK (A.map sqS):Ae):Al):=by
  rw[aBm];refine Int.le_trans h (Int.le_of_eq ?_);have:n=0\/n=1\/n=2\/n=3\/n=4:=by omega
  rcases this with rfl|rfl|rfl|rfl|rfl
  .match A,hA with
   |[],_=>simp[bK]
  .match A,hA with
   |[a],_=>simp[bK]
  .match A,hA with
   |[a,b],_=>simp[bK]
  .match A,hA with
   |[a,b,c],_=>simp[bK,Gr]
  .match A,hA with
   |[a,b,c,d],_=>simp[bK,Gr]
 exact_mod_cast h'
def bMp(P b:Ae):Prop:=P<=b*b/\∀c,P<=c*c->b<=c
def aCr{a b:Ae}(h:a*a<=b*b):a<=b:=by
 rcases Bc b a with h'|h'
 .have:=Nat.mul_lt_mul'' h' h';omega
 .exact h'
def bZp{n:Ae}(hn:n<=4){A:Ad (Ad Al)}(hA:A.length=n)(hr:∀v∈A,v.length=n){b:Ae}(hb:bMp (bK (A.map sqS)) b):(fK n A).natAbs<=b :=
 aCr (Bg (aNw hn hA hr) hb.1)
def aMf{A:Ad (Ad Al)}(hA:A.length<=4)(hr:∀v∈A,v.length<=4)(hB:∀v∈A,∀z∈v,z.natAbs<=10):bK (A.map sqS)<=25600000000:=by
 have hk:∀L:Ad (Ad Al),(∀v∈L,sqS v<=400)->bK (L.map sqS)<=400^L.length:=λL=>by
  induction L with
  |nil=>intro _;exact AM _
  | cons v L ih =>
   intro h;have h1:=ih λw hw=>h w (AT _ hw)
   have h2:=BO (h v (AX ..)) h1;rw[BX,bK,Av,CI,Da (400^L.length)];exact h2
 refine Bg (hk A λv hv=>?_) (Bg (CL (by decide) hA) (by decide));exact Bg (aBn (n:=4) (B:=10) (hr v hv) λz hz=>hB v hv z hz) (by decide)
def bSa{P b:Ae}(h:bMp P b)(hP:P<=25600000000):b<=160000:=h.2 160000 (by omega)
def bRz{P r:Ae}(h1:r*r<=P)(h2:P<(r+1)*(r+1)):bMp P (if r*r<P then r+1 else r):=by
 split
 .rename_i h;exact⟨by omega,λc hc=>by
   rcases Bc r c with h'|h'
   .exact h'
   .have:=BO h' h';omega⟩
 .exact⟨by omega,λc hc=>aCr (by omega)⟩
open Go Go.Am Go.Proofs
def cAj[M:Mch Ab](m:Ad Ae)(h:m.length<=1000000):Spec Ab 77 [aZ m] (aZ m):=by
 refine bU (N:=8) Tryz.func77 ?_;cases m with
 | nil =>
  simp[-E,-O,↓KW,aZ]
 | cons x m =>
  have hb:(m.length+1)*4<=140737488355328/\m.length+1<=maxLen:=by simp only[Av]at h;exact⟨by omega,bY (by omega)⟩
  have e1:chunk 1 (m.length+1) (lms (x::m))=(x::m).map λ(x:Ae)=>[D.i .u32 (x:Al)]:=kN rfl
  have e2:(lms m).length=m.length:=by simp[lms]
  have e3:D7 m.length ((lms m).map AV.d)=(lms m).map AV.d:=A4 (by simp[lms]);have e4:chunk 1 (m.length+1) (D.i .u32 (x:Al)::lms m)=(x::m).map λ(x:Ae)=>[D.i .u32 (x:Al)]:=e1
  have e5:∀d,D7 (m.length+1) (AV.d d::(lms m).map AV.d)=AV.d d::(lms m).map AV.d:=λd=>by rw[DD,e3]
  simp[-E,-O,↓KW,aZ,hb,e2,e3,e4,e5]
def bSe[M:Mch Ab](x:Al)(hx:x.natAbs<2^256):Spec Ab 64 [encZ x] (cB x.natAbs):=by
 have hlen:(bJ x.natAbs).length<=8:=cV (n:=x.natAbs) (k:=8) (Be hx (by decide));have hC:=cAj (bJ x.natAbs) (by omega);have hV:=jC (dH x.natAbs) (by omega) Az;rw[fI]at hV;have hV':Spec Ab 152 [.b Az,aZ (bJ x.natAbs)] (cB x.natAbs):=by rw[<-fQ];exact hV
 refine bU (N:=7) Tryz.func64 ?_;simp[-E,-O,↓KW,cX x,bE];refine aL hC ?_;simp[-E,-O,↓KW,bE];refine aL hV' ?_;simp[-E,-O,↓KW,aY x.natAbs,bE]
def bGm[M:Mch Ab](s:Ae)(hs:s<1024):Spec Ab 61 [.i .u32 s] (.i .i64 (jH 10 s:Ae)):=by
 have h:((AW 1024).all λn=>match(kC Ab EP 100 20).call 61 [.i .u32 (n:Ae)]with|some (.i .i64 r)=>r==(jH 10 n:Ae)|_=>Az)=true:=by kernel_rfl
 have:=A1.1 h s (Cc.2 hs);split at this
 .rename_i r hr;rw[beq_iff_eq]at this;subst this;exact aCu hr
 .cases this
def vdE(e:Al):D:=.tp [.ag [.b Az,.sl [],.sl []],.i .i64 e]
def cGf[M:Mch Ab](b:Ae)(hb:b<2^200):∃s:Al,¬s<0/\Spec Ab 57 [cB b] (.i .i64 s):=by
 have h:=wA (b:Al) (szN (by omega));rw[fQ]at h;refine⟨_,?_,h⟩;rw[sJ];split
 .omega
 .split<;>omega
def lK(l:Ad Ae):Ad Ae:=(dV (uI l)).map Int.toNat
def aIc(l:Ad Ae):uI (lK l)=dV (uI l):=by
 unfold uI lK;rw[Dp];have:∀x∈dV (uI l),((λ(p:Ae)=>(p:Al)) ∘ Int.toNat) x=x:=λx hx=>by have hm:=(sG (uI l)).mem_iff.1 hx;obtain⟨p,_,rfl⟩:=AY.1 hm;simp
 exact(DF this).trans (List.map_id _)
def sF(l:Ad Ae):(lK l).Perm l:=by
 have h:=(sG (uI l)).map Int.toNat;have e:(uI l).map Int.toNat=l:=by unfold uI;rw[Dp];exact(DF (λx _=>by simp)).trans (List.map_id _)
 rw[e]at h;exact h
def bJw(l:Ad Ae):dzU (uI l)=dU l:=by simp[dzU,uI,dU]
def bTa{H:Hp}{id:Ae}{e:AF}{T:Ad Ae}{k:Ae}(hk:k<=T.length)(hH:H id=Aa (.cells e ((dU T).map AV.d))):frz H 8 (.own id 0 k 1)=Aa (cO (T.take k)):=by
 have e0:D7 k ((dU T).map AV.d)=(dU (T.take k)).map AV.d:=by simp[dU]
 have e2:=oP (l:=T.take k) (n:=k) (by rw[Bt];omega);have e3:=fC T;simp[-E,-O,aDe,hH,e0,e2,e3,cO,hk]
def vE{B:Ae}:∀{l:Ad Ae} {k:Ae},(∀p∈l,p<=B)->l.length=k->bK l<=B^k
 |[],_,_,h=>by subst h;simp[bK]
 |p::l,0,_,h=>by simp at h
 | p::l,k+1,h,hk=>by rw[bK,CI,Da];exact BO (vE (λq hq=>h q (AT _ hq)) (by simpa using hk)) (h p (AX ..))
def bJe{H:Hp}{x y:AV}{a b:D}(h1:frz H 8 x=Aa a)(h2:frz H 8 y=Aa b):cK H [x,y]=Aa [a,b]:=by simp[cK,h1,h2]
def aLk(l:Ad Ae):(lK l).length=l.length:=(sF l).length_eq
def aXz(z:Al)(l:Ad (Ae×Ae×Ae)):D:=.tp [.ag [.b (decide (z<0)),aZ (bJ z.natAbs),ezI (dV (blL z l))],.i .i64 0]
def zOf(l:Ad (Ae×Ae×Ae))(s:Ae):Al:=aFf (fM (rsL l) s)
def aMo(l:Ad (Ae×Ae)):one (.d (oO l))=true:=rfl
def zH(l:Ad (Ae×Ae)):eC (.d (oO l))=Aa [.d (oO l)]:=rfl
def aGs(l:Ad (Ae×Ae)):bH (oO l)=.d (oO l):=rfl
def aNr(l:Ad (Ae×Ae)):inj (oO l)=.d (oO l):=rfl
def aCs(H:Hp)(avs:Ad AV)(l:Ad (Ae×Ae)):bM H avs (oO l)=bW H avs:=rfl
def aEz(b:Ae)(l:Ad (Ae×Ae×Ae))(n s:Ae):Prop:=jH 10 s=l.length-2*n/\(zOf l s).natAbs<=b/\(blL (zOf l s) l).length<=n
def enR(b:Ae)(l:Ad (Ae×Ae×Ae))(n:Ae):Prop:=2*b<bK ((lK (pmL l)).take (l.length-2*n))
def cAb(l:Ad Al):∃L,ezI l=.sl L/\L.length=l.length:=⟨_,rfl,by simp⟩
def mP(P:Ad Ae)(n i:Ae):Ad Al:=uI (P.take i)++AO (n-i) 0
def wS{α:Type}:∀(l:Ad α) (s:Ae),(fM l s).Sublist l
 |[],s=>List.Sublist.refl _
 | x::l,s=>by
  unfold fM;split
  .exact(wS l _).cons_cons x
  .exact(wS l _).cons x
def aXt{n:Al}(h1:0<=n)(h2:n<4294967296):Cs.wrap n=n:=by rw[E0];omega
def sP(l:Ad (Ae×Ae×Ae)):prR (rsL l)=pmL l:=by simp[prR,rsL,pmL]
def bBd[M:Mch Ab](b:Ae)(l:Ad (Ae×Ae×Ae))(n B:Ae)(R:D)(hb:b<2^200)(hl:l.length<=12)(hl2:l.length-n<=10)(hgood:aMq l/\(pmL l).Nodup)(hP:∀x∈l,Spec Ab 129 [.i .u64 (x.2.1:Ae)] (.b Ak))(hf:2*n<=l.length)
 (hpr:∀x∈l,PrN x.2.1/\x.2.1<=B) (hB31:B<2147483648) (hB:B^(l.length-2*n)<2^250)
 (hR0:¬enR b l n->R=vdE 200) (hR1:enR b l n->∀s,s<2^(l.length-n)->aEz b l n s->(∀s',s'<s->¬aEz b l n s')->R=aXz (zOf l s) l) (hR2:enR b l n->(∀s,s<2^(l.length-n)->¬aEz b l n s)->R=vdE 201) :
 Spec Ab 12 [cB b,lB l,.i .i64 n] R:=by
 obtain⟨s,hs0,hSg⟩:=cGf b hb
 have hPr:=aRl l Ak ⟨λh=>hgood,λh=>rfl⟩ (by omega) hP
 obtain⟨L,hL,hLl,hLg⟩:=rQ l
 rw[hL]at hPr ⊢
 have hn0:¬(n:Al)<0:=by omega
 have hl16:¬(16:Al)<(L.length:Al):=by omega
 have hL16:¬16<L.length:=by omega
 have hd2:¬((L.length:Al).tdiv 2)<n:=by rw[Ey (by omega)];omega
 have hd3:¬(L.length:Al)/2<n:=by omega
 have hw:Ax.wrap ((L.length:Al)/2)=(L.length:Al)/2:=bP
 have hm1:8*(L.length:Al)<=281474976710656/\(L.length:Al)<=9223372036854775807:=by omega
 have hPl:(pmL l).length=l.length:=by simp[pmL]
 have hrep:AO L.length (AV.d (D.i .u64 0))=(dzU (mP (pmL l) l.length 0)).map AV.d:=by simp[mP,uI,dzU,hLl]
 obtain⟨D00,hD00⟩:∃D00,dzU (mP (pmL l) l.length 0)=D00:=⟨_,rfl⟩
 rw[hD00]at hrep
 refine bU (N:=109) Tryz.func12 ?_
 simp[-E,-O,↓KW,aY b,bE]
 refine aL hSg ?_
 simp[-E,-O,↓KW,hs0,hn0,hl16,hL16,bE]
 refine aL hPr ?_
 simp[-E,-O,↓KW,hd2,hd3,hw]
 simp[-E,-O,↓KW,hm1,hrep]
 refine bT (τ:=Ae) (λi=>i<=l.length) (λi=>StL [(1,.d (.sl L)),(2,.d (.i .i64 n)),(3,.ptr 1 0),(6,.ptr 2 0),(7,.d (.i .i64 0)),(8,.own 3 0 L.length 1),(41,.d (.sl L)),(42,.d (.i .i64 L.length)),(43,.d (.i .i64 i))] Aj [.cells 35 [.d (.b Az),.d (aZ (bJ b))],.cells 53 [.d (.b Az),.nil,.nil],.cells 46 ((dzU (mP (pmL l) l.length i)).map .d)]) (λi=>l.length-i) 0 (BH _) ?_ ?_
 .rw[hD00]
  refine wkQ [1,2,3] ?_ ?_<;>simp[-E,upd,bH,Γ0]
 .intro i hi
  by_cases hlt:i<l.length
  .obtain⟨⟨w,p,v⟩,hge⟩:∃x,l[i]? = Aa x:=⟨_,Ac hlt⟩
   have hLi:=hLg i _ hge
   simp only at hLi
   have hLi':=cI hLi
   have hiL:i<L.length:=by omega
   have hw1:Ax.wrap ((i:Al)+1)=((i+1:Ae):Al):=bP
   have hw0:Ax.wrap (i:Al)=i:=bP
   have hfl:(dzU (mP (pmL l) l.length i)).length=L.length:=by rw[nM,mP];simp[uI,pmL];omega
   have hset:(dzU (mP (pmL l) l.length i)).set i (.i .u64 (p:Al))=dzU (mP (pmL l) l.length (i+1)):=by
    rw[aJy];congr 1;unfold mP;have hpg:(pmL l)[i]? = Aa p:=by unfold pmL;rw[Ao,hge];rfl
    have e1:(pmL l).take (i+1)=(pmL l).take i++[p]:=by rw[BG,hpg];rfl
    have e2:l.length-i=(l.length-(i+1))+1:=by omega
    have e3:(uI ((pmL l).take i)).length=i:=by simp[uI];omega
    rw[e1,e2,List.replicate_succ,DN _ _ (by omega),e3,Dw,Dg];simp[uI]
   have e1:lay ((dzU (mP (pmL l) l.length i)).map AV.d) i [.d (.i .u64 (p:Al))]=(dzU (mP (pmL l) l.length (i+1))).map .d:=by rw[iU _ _ _ (by omega),hset]
   obtain⟨D1,hD1⟩:∃D1,dzU (mP (pmL l) l.length (i+1))=D1:=⟨_,rfl⟩
   rw[hD1]at e1
   generalize dzU (mP (pmL l) l.length i)=D0 at *
   have hiL1:i+1<=L.length:=by omega
   simp[-E,-O,↓KW,hiL,hLi,hLi',hw0,hw1,hfl,hiL1,e1]
   refine bD (i+1) (by omega) (by show l.length-(i+1)<l.length-i;omega) ?_
   show ∃ρ,Wk _ (StL _ _ _) ρ
   rw[hD1]
   refine wkQ [1,2,3] ?_ ?_<;>simp[-E,upd,bH,Γ0,e1]
  .have hiL:¬i<L.length:=by omega
   have hfi:mP (pmL l) l.length i=uI (pmL l):=by unfold mP;rw[show l.length-i=0 from by omega,A4 (by omega)];simp
   rw[hfi]
   simp[-E,-O,↓KW,hiL]
   refine bQ ?_
   have hSo:=cCs (uI (pmL l)) (by simp[uI];omega)
   have hlen:(dzU (dV (uI (pmL l)))).length=(dzU (uI (pmL l))).length:=by rw[nM,nM];exact eW _ _
   have hno1:=pH 46 (uI (pmL l))
   have hno2:=pH 46 (dV (uI (pmL l)))
   have hul:(uI (pmL l)).length=L.length:=by simp[uI];omega
   rw[hul,<-aIc,bJw (lK (pmL l))]at hSo
   rw[<-aIc,bJw (lK (pmL l))]at hlen hno2
   have hsl:(lK (pmL l)).length=L.length:=by rw[aLk];omega
   have hsure:L.length-2*n<=(lK (pmL l)).length:=by omega
   have hmp:∀p∈lK (pmL l),0<p/\p<=B:=λp hp=>by have:=(sF (pmL l)).mem_iff.1 hp;obtain⟨x,hx,rfl⟩:=AY.1 this;have h:=hpr x hx;have:=h.1.1;exact⟨by omega,h.2⟩
   have htk:((lK (pmL l)).take (L.length-2*n)).length=L.length-2*n:=by rw[Bt];omega
   have hpb:bK ((lK (pmL l)).take (L.length-2*n))<=B^(L.length-2*n):=vE (λp hp=>(hmp p (BS hp)).2) htk
   rw[hLl]at hpb
   have hpb2:bK ((lK (pmL l)).take (l.length-2*n))<2^255:=Bv hpb (FD hB (by decide))
   rw[<-hLl]at hpb2
   have hEn:=bTo ((lK (pmL l)).take (L.length-2*n)) b (by omega) hb (λp hp=>by
    have:=hmp p (BS hp);omega) hpb2
   have hEE:enR b l n↔2*b<bK ((lK (pmL l)).take (L.length-2*n)):=by unfold enR;rw[hLl]
   have hfr:∀H:Hp,H 3=Aa (.cells 46 ((dU (lK (pmL l))).map AV.d))->frz H 8 (.own 3 0 (L.length-2*n) 1)=Aa (cO ((lK (pmL l)).take (L.length-2*n))):=λH hH=>bTa hsure hH
   have hwn2:Ax.wrap (2*(n:Al))=2*(n:Al):=bP
   have hwsu:Ax.wrap ((L.length:Al)-2*(n:Al))=((L.length-2*n:Ae):Al):=by
    have e:(L.length:Al)-2*(n:Al)=((L.length-2*n:Ae):Al):=by omega
    rw[e];exact bP
   have hsle:L.length-2*n<=L.length:=by omega
   obtain⟨su,hsu⟩:∃su,L.length-2*n=su:=⟨_,rfl⟩
   rw[hsu]at hEn hEE hwsu hsle hsure
   simp only[hsu]at hfr
   generalize lK (pmL l)=SP at *
   generalize dzU (uI (pmL l))=D0 at *
   generalize hsEn:D7 su SP=SPs at *
   generalize hD1:dU SP=D1 at *
   simp[-E,-O,↓KW]
   refine jP (by simp) ?_
   refine eZ (id:=3) (h:=.own 0 0 L.length 1) (by rfl) hno1 (by rfl) (by rfl) hSo (by simp[HO.len,hlen]) hno2 ?_
   obtain⟨X,hX,hfX⟩:∃X,iW 1 (.own 3 0 L.length 1) 0 (su:Al) Az=Aa X/\∀H:Hp,H 3=Aa (.cells 46 (D1.map AV.d))->frz H 8 X=Aa (cO SPs):=by
    rcases BB su with h0|h0
    .refine⟨.d (.sl []),by subst h0;simp[iW],λH _=>?_⟩;rw[<-hsEn,h0,Ct];rfl
    .refine⟨.own 3 0 su 1,?_,λH hH=>hfr H (by rw[hH])⟩;have h1:¬(0:Al)=(su:Al):=by omega
     have h2:(su:Al)<=(L.length:Al):=by omega
     simp[iW,hsle];omega
   simp[-E,-O,↓KW,hwn2,hwsu,hX,bE]
   refine iD (ds:=[cO SPs,cB b]) (bJe (hfX _ rfl) (by rfl)) hEn ?_
   by_cases hE:2*b<bK SPs
   .have hEr:=hEE.2 hE
    rw[CQ hE]
    obtain⟨K,hK⟩:∃K,L.length-n=K:=⟨_,rfl⟩
    have hKl:l.length-n=K:=by omega
    rw[hKl]at hR1 hR2
    have hK10:K<=10:=by omega
    have hN:(2:Ae)^K<=1024:=Bg (CL (by decide) hK10) (by decide)
    have hwk:Ax.wrap ((L.length:Al)-(n:Al))=(K:Al):=by rw[show(L.length:Al)-(n:Al)=(K:Al)from by omega];exact bP
    have hshl:cY .shl .u32 1 (K:Al)=Aa (.i .u32 ((2^K:Ae):Al)):=by simp only[cY,Df];rw[Ap (by omega)];congr 2;rw[show min (K:Al).toNat 32=K from by omega,Int.one_mul,show(2:Al)^K=((2^K:Ae):Al)from by simp];rw[E0];generalize(2:Ae)^K=N at *;omega
    replace hR1:=hR1 hEr
    replace hR2:=hR2 hEr
    generalize hNN:(2:Ae)^K=N at *
    simp[-E,-O,↓KW,hwk,hshl]
    refine bT (τ:=Ae) (λs=>s<=N/\∀s',s'<s->¬aEz b l n s') (λs=>StL [(1,.d (.sl L)),(2,.d (.i .i64 n)),(3,.ptr 1 0),(6,.ptr 2 0),(7,.d (.i .i64 0)),(11,.d (.i .i64 su)),(73,.d (.i .u32 N)),(74,.d (.i .u32 s))] Aj [.cells 35 [.d (.b Az),.d (aZ (bJ b))],.cells 53 [.d (.b Az),.nil,.nil]]) (λs=>N-s) 0 ⟨BH _,λs' h=>by omega⟩ ?_ ?_
    .refine wkQ [1,2] ?_ ?_<;>simp[-E,upd,bH,Γ0]
    .rintro s ⟨hs1,hs2⟩
     by_cases hsN:s<N
     .have hOn:=bGm s (by omega)
      have hws:Cs.wrap ((s:Al)+1)=((s+1:Ae):Al):=aXt (by omega) (by omega)
      have hsK:s<2^K:=by rw[hNN];exact hsN
      have hp10:jH 10 s=jH K s:=by rw[show 10=K+(10-K)from by omega];exact sS K _ s hsK
      have hpl:jH l.length s=jH K s:=by rw[show l.length=K+n from by omega];exact sS K _ s hsK
      have hsul:l.length-2*n=su:=by omega
      by_cases hpk:jH 10 s=su
      .have hbl:(fM (rsL l) s).length=su:=by rw[rT,show(rsL l).length=l.length from by simp[rsL],hpl,<-hp10,hpk]
       have hsub:=wS (rsL l) s
       have hmr:∀x∈rsL l,∃y∈l,y.2=x:=λx hx=>by obtain⟨y,hy,e⟩:=AY.1 hx;exact⟨y,hy,e⟩
       have hPr2:bCa (fM (rsL l) s):=⟨λx hx=>by
        obtain⟨y,hy,rfl⟩:=hmr x (hsub.subset hx);exact(hpr y hy).1,λx hx=>by
        obtain⟨y,hy,rfl⟩:=hmr x (hsub.subset hx);exact hgood.1.2 y hy,by
        have h1:((rsL l).map (·.1)).Nodup:=by have:=hgood.2;rw[<-sP]at this;exact this
        exact(hsub.map (·.1)).nodup h1⟩
       have hbd:bK (prR (fM (rsL l) s))<2^250:=by refine Bv (vE (B:=B) (k:=su) (λp hp=>?_) (by simp[prR,hbl])) (by rw[<-hsul];exact hB);obtain⟨x,hx,rfl⟩:=AY.1 hp;obtain⟨y,hy,rfl⟩:=hmr x (hsub.subset hx);exact(hpr y hy).2
       have hCo:=zG (fM (rsL l) s) hPr2 (by omega) hbd (λx hx=>by
        obtain⟨y,hy,rfl⟩:=hmr x (hsub.subset hx);have:=(hpr y hy).2;omega) (λx hx=>by
        obtain⟨y,hy,rfl⟩:=hmr x (hsub.subset hx);exact hP y hy)
       obtain⟨_,hz1,hz2⟩:=aKe hPr2
       have hz3:(zOf l s).natAbs<2^250:=by unfold zOf;have hbd':bK ((fM (rsL l) s).map (·.1))<2^250:=hbd;generalize bK ((fM (rsL l) s).map (·.1))=Mx at *;omega
       have hCh:=aTg l s (by omega) (by omega)
       rw[hL]at hCh
       have hzd:aFf (fM (rsL l) s)=zOf l s:=rfl
       rw[hzd]at hCo
       have hAb:=bSe (zOf l s) (by omega)
       obtain⟨r,hCm,hr⟩:=bKu (x:=(zOf l s).natAbs) (y:=b) (by omega) (by omega)
       have hBl:=bBu (zOf l s) l hl (tZ (by omega)) (λx hx=>by
        have h1:=(hpr x hx).1.1;have h2:=(hpr x hx).2;omega) hP
       rw[hL]at hBl
       have hokd:aEz b l n s↔(zOf l s).natAbs<=b/\(blL (zOf l s) l).length<=n:=⟨λh=>h.2,λh=>⟨by rw[hpk,hsul],h⟩⟩
       have hsl2:(dV (blL (zOf l s) l)).length=(blL (zOf l s) l).length:=eW _ _
       have hRok:=hR1 s hsN
       unfold aXz at hRok
       obtain⟨BL,hBLe,hBLl⟩:=cAb (dV (blL (zOf l s) l))
       rw[hBLe]at hBl hRok
       rw[hsl2]at hBLl
       have hpk2:(((jH 10 s:Ae):Al) != (su:Al))=false:=by simp[hpk]
       have hcont:¬aEz b l n s->∀s',s'<s+1->¬aEz b l n s':=λhnok s' h=>by
        by_cases h':s'=s
        .subst h';exact hnok
        .exact hs2 s' (by omega)
       generalize fM (rsL l) s=CR at *
       generalize jH 10 s=pk at *
       generalize hzz:zOf l s=z at *
       generalize(blL z l).length=bn at *
       simp[-E,-O,↓KW,hsN]
       refine aL hOn ?_
       simp[-E,-O,↓KW,hpk2,hpk,hws]
       refine aL hCh ?_
       simp[-E,-O,↓KW,aMo,zH,aGs,aNr,aCs]
       refine aL hCo ?_
       simp[-E,-O,↓KW,cX z,aMo,zH,aGs,aNr,aCs,bE]
       refine aL hAb ?_
       simp[-E,-O,↓KW,aY z.natAbs,bE]
       refine aL hCm ?_
       by_cases hzb:b<z.natAbs
       .have hr1:=hr.2 hzb
        have hnok:¬aEz b l n s:=λh=>by have:=(hokd.1 h).1;omega
        simp[-E,-O,↓KW,hr1,hws]
        refine bD (s+1) ⟨by omega,hcont hnok⟩ (by show N-(s+1)<N-s;omega) ?_
        show ∃ρ,Wk _ (StL _ _ _) ρ
        refine wkQ [1,2] ?_ ?_<;>simp[-E,upd,bH,Γ0]
       .have hr1:¬0<r:=λh=>hzb (hr.1 h)
        simp[-E,-O,↓KW,hr1,hws,bE]
        refine aL hBl ?_
        by_cases hbn:bn<=n
        .have hR:=hRok (hokd.2 ⟨by omega,hbn⟩) hs2
         subst hR
         have hbn':(bn:Al)<=(n:Al):=by omega
         simp[-E,-O,↓KW,hBLl,hbn,hbn',bE,gV]
         exact bQ (by simp[-E,-O,↓KW,bE,gV])
        .have hbn':¬(bn:Al)<=(n:Al):=by omega
         have hnok:¬aEz b l n s:=λh=>hbn (hokd.1 h).2
         simp[-E,-O,↓KW,hBLl,hbn,hbn',hws]
         refine bD (s+1) ⟨by omega,hcont hnok⟩ (by show N-(s+1)<N-s;omega) ?_
         show ∃ρ,Wk _ (StL _ _ _) ρ
         refine wkQ [1,2] ?_ ?_<;>simp[-E,upd,bH,Γ0]
      .have hnok:¬aEz b l n s:=λh=>hpk (by have:=h.1;omega)
       have hpk1:(((jH 10 s:Ae):Al) != (su:Al))=true:=by simp;omega
       generalize jH 10 s=pk at *
       simp[-E,-O,↓KW,hsN]
       refine aL hOn ?_
       simp[-E,-O,↓KW,hpk1,hpk,hws]
       refine bD (s+1) ⟨by omega,λs' h=>by
        by_cases h':s'=s
        .subst h';exact hnok
        .exact hs2 s' (by omega)⟩ (by show N-(s+1)<N-s;omega) ?_
       show ∃ρ,Wk _ (StL _ _ _) ρ
       refine wkQ [1,2] ?_ ?_<;>simp[-E,upd,bH,Γ0]
     .have hsN':s=N:=by omega
      have hR:=hR2 (λs' h=>hs2 s' (by omega))
      subst hR
      simp[-E,-O,↓KW,hsN]
      refine bQ ?_
      simp[-E,-O,↓KW,vdE,gV]
   .have hR:=hR0 (λh=>hE (hEE.1 h))
    rw[Cn hE]
    subst hR
    simp[-E,-O,↓KW,vdE,gV]
def bEj(j:Ae)(hj:j<=31):cY .shl .u32 1 (j:Al)=Aa (.i .u32 ((2^j:Ae):Al)):=by simp only[cY,Df];rw[Ap (by omega)];congr 2;rw[show min (j:Al).toNat 32=j from by omega,Int.one_mul,show(2:Al)^j=((2^j:Ae):Al)from by simp];rw[E0];have:2^j<=2^31:=CL (by decide) hj;generalize(2:Ae)^j=N at *;omega
def aIi(x k:Ae)(hk:k<=64)(h:x*2^k<18446744073709551616):cY .shl .u64 (x:Al) (k:Al)=Aa (.i .u64 ((x*2^k:Ae):Al)):=by simp only[cY,Df];rw[Ap (by omega)];congr 2;rw[show min (k:Al).toNat 64=k from by omega,show(2:Al)^k=((2^k:Ae):Al)from by simp,<-Di];exact wrap_u64 (by omega) (by omega)
def bGi(y x:Ae)(hx:x<4294967296)(hy:y<4294967296):dT .or Az (.d (.i .u64 (x:Al))) (.d (.i .u64 ((y*4294967296:Ae):Al)))=Aa (.i .u64 ((x+y*4294967296:Ae):Al)):=by show Aa (D.i .u64 (bits .or .u64 (x:Al) ((y*4294967296:Ae):Al)))=_;rw[bits_or_u64_nat _ _ (by omega) (by omega)];congr 3;have:=Nat.shiftLeft_add_eq_or_of_lt (i:=32) (b:=x) (by omega) y;rw[Nat.shiftLeft_eq]at this;rw[Nat.or_comm,Nat.add_comm];exact this.symm
def cBq[M:Mch Ab]:Spec Ab 307 [aZ []] (.i .u64 0):=aCu (by kernel_rfl)
def cBp[M:Mch Ab]{x:Ae}(hx:x<4294967296):Spec Ab 307 [aZ [x]] (.i .u64 x):=by
 have hw:Bh.wrap (x:Al)=x:=wrap_u64 (by omega) (by omega);have hs:cY .shl .u64 (x:Al) 0=Aa (.i .u64 (x:Al)):=by have:=aIi x 0 (by omega) (by omega);simpa using this
 have ho:dT .or Az (.d (.i .u64 0)) (.d (.i .u64 (x:Al)))=Aa (.i .u64 (x:Al)):=by have:=bGi 0 x hx (by decide);show Aa (D.i .u64 (bits .or .u64 0 (x:Al)))=_;have e:=bits_or_u64_nat 0 x (by omega) (by omega);rw[show((0:Ae):Al)=0 from rfl]at e;rw[e,Nat.zero_or]
 have z0:Ax.wrap 0=0:=by decide
 have z1:Ax.wrap 1=1:=by decide
 refine bU (N:=22) Tryz.func307 ?_;simp[-E,-O,↓KW,aZ];refine eR 2 ?_;simp[-E,-O,↓KW,↓aF,↓aA,↓aG,↓aH,hw,hs,ho,z0,z1]
def cBo[M:Mch Ab]{x y:Ae}(hx:x<4294967296)(hy:y<4294967296):Spec Ab 307 [aZ [x,y]] (.i .u64 ((x+y*4294967296:Ae):Al)):=by
 have hw:Bh.wrap (x:Al)=x:=wrap_u64 (by omega) (by omega);have hw2:Bh.wrap (y:Al)=y:=wrap_u64 (by omega) (by omega);have hs:cY .shl .u64 (x:Al) 0=Aa (.i .u64 (x:Al)):=by have:=aIi x 0 (by omega) (by omega);simpa using this
 have hs2:cY .shl .u64 (y:Al) 32=Aa (.i .u64 ((y*4294967296:Ae):Al)):=aIi y 32 (by omega) (by omega);have ho:dT .or Az (.d (.i .u64 0)) (.d (.i .u64 (x:Al)))=Aa (.i .u64 (x:Al)):=by show Aa (D.i .u64 (bits .or .u64 0 (x:Al)))=_;have e:=bits_or_u64_nat 0 x (by omega) (by omega);rw[show((0:Ae):Al)=0 from rfl]at e;rw[e,Nat.zero_or]
 have ho2:=bGi y x hx hy;have z0:Ax.wrap 0=0:=by decide
 have z1:Ax.wrap 1=1:=by decide
 have z2:Ax.wrap 2=2:=by decide
 have z3:Ax.wrap 32=32:=by decide
 generalize x+y*4294967296=X at *;generalize y*4294967296=Y at *;refine bU (N:=22) Tryz.func307 ?_;simp[-E,-O,↓KW,aZ];refine eR 3 ?_;simp[-E,-O,↓KW,↓aF,↓aA,↓aG,↓aH,hw,hw2,hs,hs2,ho,ho2,z0,z1,z2,z3]
def bVw{u:Ae}(h:u<18446744073709551616):bJ u=[]/\u=0\/bJ u=[u]/\u<4294967296/\0<u\/bJ u=[u%4294967296,u/4294967296]/\4294967296<=u:=by
 rcases BB u with h0|h0
 .exact .inl ⟨by rw[h0,cN],h0⟩
 rcases Bc u 4294967296 with h1|h1
 .exact .inr (.inl ⟨aKa (by omega) h1,h1,h0⟩)
 .refine .inr (.inr ⟨?_,h1⟩);rw[gB (by omega),aKa (by omega) (by omega)]
def bCx[M:Mch Ab]{u:Ae}(h:u<18446744073709551616):Spec Ab 307 [aZ (bJ u)] (.i .u64 u):=by
 rcases bVw h with ⟨e,h0⟩|⟨e,h1,_⟩|⟨e,h1⟩
 .rw[e,h0];exact cBq
 .rw[e];exact cBp h1
 .rw[e];have:=cBo (M:=M) (x:=u%4294967296) (y:=u/4294967296) (by omega) (by omega);rwa [show u%4294967296+u/4294967296*4294967296=u from by omega]at this
def cDi(q:Ae)(h:q<18446744073709551616):Lim [q%4294967296,q/4294967296]/\val [q%4294967296,q/4294967296]=q:=by refine⟨λx hx=>?_,by simp[val];omega⟩;simp at hx;rcases hx with rfl|rfl<;>omega
def bTu[M:Mch Ab]{a b:Ae}(ha:a<18446744073709551616)(hb:b<18446744073709551616)(h0:0<b) :
 ∃Q R:Ad Ae,Lim Q/\Lim R/\val Q=a/b/\val R=a%b/\Q.length<=2/\R.length<=2/\Spec Ab 254 [aZ (bJ a),aZ (bJ b)] (.tp [aZ Q,aZ R]):=by
 have la:=dH a
 have lb:=dH b
 have l2:(bJ a).length<=2:=cV (k:=2) ha
 have l2b:(bJ b).length<=2:=cV (k:=2) hb
 have hC:=uH (M:=M) (bJ a) (bJ b) la lb (by omega) (by omega)
 have hcmp:(a<b->jU (bJ a) (bJ b)<0)/\(¬a<b->¬jU (bJ a) (bJ b)<0):=by
  unfold jU;rw[fU,fU];constructor
  .intro h;rw[AB (by simpa using h)];decide
  .intro h;rw[Ap (by simpa using h)];split<;>decide
 by_cases hlt:a<b
 .refine⟨[],bJ a,Lim.nil,la,by rw[DW hlt];rfl,by rw[fI,Cr hlt],by simp,l2,?_⟩
  have hcl:=aXe (M:=M) (bJ a) (by omega)
  have hc:=hcmp.1 hlt
  generalize jU (bJ a) (bJ b)=c at *
  generalize bJ a=A at *
  generalize bJ b=B at *
  refine bU (N:=128) Tryz.func254 ?_
  simp[-E,-O,↓KW,aZ]
  refine aL hC ?_
  simp[-E,-O,↓KW,aZ,hc]
  refine aL hcl ?_
  simp[-E,-O,↓KW,aZ,gV]
 .have hq:a/b<18446744073709551616:=Bv (FO ..) ha
  have hr:a%b<18446744073709551616:=Bv (Nat.mod_le ..) ha
  obtain⟨q1,q2⟩:=cDi _ hq
  obtain⟨r1,r2⟩:=cDi _ hr
  refine⟨_,_,q1,r1,q2,r2,by simp,by simp,?_⟩
  have hL1:=xU (M:=M) (a/b) hq
  have hL2:=xU (M:=M) (a%b) hr
  have hW1:=bCx (M:=M) ha
  have hW2:=bCx (M:=M) hb
  have hc:=hcmp.2 hlt
  have hz:((b:Al)==0)=false:=by simp;omega
  have ht:(a:Al).tdiv (b:Al)=((a/b:Ae):Al):=by rw[Ey (by omega)];rfl
  have ht2:(a:Al)/(b:Al)=((a/b:Ae):Al):=rfl
  have hm:(a:Al).tmod (b:Al)=((a%b:Ae):Al):=by rw[Cq (by omega)];rfl
  have hm2:(a:Al)%(b:Al)=((a%b:Ae):Al):=rfl
  have hwq:Bh.wrap ((a/b:Ae):Al)=((a/b:Ae):Al):=wrap_u64 (by omega) (by omega)
  have hwr:Bh.wrap ((a%b:Ae):Al)=((a%b:Ae):Al):=wrap_u64 (by omega) (by omega)
  have h1:¬b=0:=by omega
  generalize[a/b%4294967296,a/b/4294967296]=Q at *
  generalize[a%b%4294967296,a%b/4294967296]=R at *
  have hl2:((bJ a).length:Al)<=2:=by omega
  generalize jU (bJ a) (bJ b)=c at *
  generalize bJ a=A at *
  generalize bJ b=B at *
  generalize a/b=q at *
  generalize a%b=r at *
  refine bU (N:=128) Tryz.func254 ?_
  simp[-E,-O,↓KW,aZ]
  refine aL hC ?_
  simp[-E,-O,↓KW,aZ,hc,hl2,l2]
  refine aL hW1 ?_
  simp[-E,-O,↓KW,aZ]
  refine aL hW2 ?_
  simp[-E,-O,↓KW,aZ,hz,h1,ht,ht2,hm,hm2,hwq,hwr]
  refine aL hL1 ?_
  simp[-E,-O,↓KW,aZ,hz,h1,ht,ht2,hm,hm2,hwq,hwr]
  refine aL hL2 ?_
  simp[-E,-O,↓KW,aZ,gV]
def aWu[M:Mch Ab]{a b:Ae}(ha:a<18446744073709551616)(hb:b<18446744073709551616)(h0:0<b) :
 Spec Ab 180 [cB a,cB b] (.tp [cB (a/b),cB (a%b),.i .i64 0]):=by
 obtain⟨Q,R,lQ,lR,vQ,vR,nQ,nR,hD⟩:=bTu (M:=M) ha hb h0
 have ta:=iV (M:=M) (bJ a) (Bg (cV (k:=2) ha) (by decide))
 have tb:=iV (M:=M) (bJ b) (Bg (cV (k:=2) hb) (by decide))
 rw[kV (mR _)]at ta tb
 have tr:=iV (M:=M) R (by omega)
 have hsr:=gR lR
 rw[vR]at hsr
 rw[hsr]at tr
 have vq:=jC (M:=M) lQ (by omega) Az
 have vr:=jC (M:=M) (dH (a%b)) (Bg (cV (n:=a%b) (k:=2) (Bv (Nat.mod_le ..) ha)) (by decide)) Az
 rw[vQ,show sg Az (a/b)=((a/b:Ae):Al)from rfl,fQ]at vq
 rw[fI,show sg Az (a%b)=((a%b:Ae):Al)from rfl,fQ]at vr
 have hbn:bJ b≠[]:=by rw[Ne,lE];omega
 have hbl:((bJ b).length:Al)≠0:=by have:=List.length_pos_iff.2 hbn;omega
 have hbl2:(((bJ b).length:Al)==0)=false:=by simpa using hbl
 rw[aY a,aY b]
 generalize bJ a=A at *
 generalize bJ b=B at *
 generalize hdr:bJ (a%b)=R' at *
 refine bU (N:=53) Tryz.func180 ?_
 simp[-E,-O,↓KW,aZ]
 refine aL ta ?_
 simp[-E,-O,↓KW,aZ]
 refine aL tb ?_
 simp[-E,-O,↓KW,aZ,hbl2,hbn]
 refine aL hD ?_
 simp[-E,-O,↓KW,aZ]
 refine aL tr ?_
 simp[-E,-O,↓KW,aZ]
 refine aL vq ?_
 rw[aY (a/b)]
 simp[-E,-O,↓KW,bE]
 refine aL vr ?_
 rw[aY (a%b)]
 simp[-E,-O,↓KW,bE,bXz]
def sT{P:As}[M:Mch P]{dst:Aq Tmp}{ty t:AF}{pos:String}{after:Aw Edge}{guard:Aq (Ae×Bw)}{s s':ByteArray}{i:AN}{kk:IntKind}{σ:St}{con:Ad Ae}{K:St->Ad Ae->Prop}{d:Dm ((⟨dst,.index t (.const (.string s)) i,ty,pos,after,guard⟩:Bf),K)}{x:Ae}{b:UInt8}(hb:s'[x]? = Aa b)
 (he:s=s':=by kernel_rfl) (ht:P.underlying t=Aa .string:=by kernel_rfl) (hx:oev σ.Γ i=.d (.i kk (x:Al))) (h:K ⟨bN σ.Γ dst (.d (.i .u8 b.toNat)),σ.H,σ.n⟩ con):O1d P ⟨dst,.index t (.const (.string s)) i,ty,pos,after,guard⟩ σ con K d:=by
 subst he
 have:nev P (.index t (.const (.string s)) i) σ.Γ σ.n=Aa (.d (.i .u8 b.toNat),Aj):=by simp only[nev,ht,hx,fB];simp[hb,cU]
 have h2:=cF (P:=P) (o:=⟨dst,.index t (.const (.string s)) i,ty,pos,after,guard⟩) (σ:=σ) (con:=con) (k:=K) (d:=d) rfl rfl
 rw[h2,this]
 exact h
noncomputable def bXg:ByteArray:=match Tryz.f238.body with
 | some (.seq _ (.seq _ (.seq _ (.seq (.region _ o _) _))))=>(match(o[3]?).map (λ(q:Bf)=>q.op)with
  |some (Op.index _ (.const (.string s)) _)=>s
  |_=>.empty)
 |_=>.empty
def bOn:((AW 256).all λx=>match bXg[x]? with|some b=>decide (x<2^b.toNat)&&decide (b.toNat<=8)|none=>Az)=true:=by kernel_rfl
def bOo{x:Ae}(h:x<256):∃b,bXg[x]? = Aa b/\x<2^b.toNat/\b.toNat<=8:=by
 have:=A1.1 bOn x (Cc.2 h);split at this
 .rename_i b hb;simp at this;exact⟨b,hb,this⟩
 .cases this
def bZc[M:Mch Ab](t:Ae)(ht:t<4294967296)(x n:Ae)(b:UInt8)(hb:bXg[x]? = Aa b)(hn:n+b.toNat<=32)(hx:x<256)
 (h:(t<256/\x=t/\n=0)\/(256<=t/\t<65536/\x=t/256/\n=8)\/(65536<=t/\t/65536<256/\x=t/65536/\n=16)\/(65536<=t/\256<=t/65536/\x=t/65536/256/\n=24)) :
 Spec Ab 238 [.i .u32 t] (.i .i64 (n+b.toNat:Ae)):=by
 have s16:=aAb t 16 (by omega)
 have s8:=aAb t 8 (by omega)
 have s168:=aAb (t/65536) 8 (by omega)
 replace s16:cY .shr .u32 (t:Al) 16=Aa (.i .u32 ((t/65536:Ae):Al)):=s16
 replace s8:cY .shr .u32 (t:Al) 8=Aa (.i .u32 ((t/256:Ae):Al)):=s8
 replace s168:cY .shr .u32 ((t/65536:Ae):Al) 8=Aa (.i .u32 ((t/65536/256:Ae):Al)):=s168
 have hw:IntKind.u8.wrap (x:Al)=x:=by rw[bCk];omega
 have hwb:Ax.wrap (b.toNat:Al)=b.toNat:=bP
 have hwr:∀m:Al,m=n->Ax.wrap (m+(b.toNat:Al))=((n+b.toNat:Ae):Al):=λm hm=>by rw[hm,bP];omega
 have z0:Ax.wrap 0=0:=by decide
 have z8:Ax.wrap 8=8:=by decide
 have z24:Ax.wrap 24=24:=by decide
 obtain⟨R,hR⟩:∃R:Al,((n+b.toNat:Ae):Al)=R:=⟨_,rfl⟩
 rw[hR]at hwr ⊢
 clear hR
 refine bU (N:=19) Tryz.func238 ?_
 rcases h with ⟨h1,rfl,rfl⟩|⟨h1,h2,h3,rfl⟩|⟨h1,h2,h3,rfl⟩|⟨h1,h2,h3,rfl⟩
 .have g1:¬(65536:Al)<=x:=by omega
  have g2:¬(256:Al)<=x:=by omega
  have e:=hwr 0 rfl
  rw[Int.zero_add,hwb]at e
  have e2:Ax.wrap R=R:=by rw[<-e];exact hwb
  simp[-E,-O,↓KW,g1,g2,hw]
  refine sT hb (by kernel_rfl) (by kernel_rfl) (by rfl) ?_
  simp[-E,-O,↓KW,e,e2,z0]
 .subst h3
  have g1:¬(65536:Al)<=t:=by omega
  have g1':¬65536<=t:=by omega
  have g2:(256:Al)<=t:=by omega
  have g2':256<=t:=by omega
  have hwr':=hwr 8 rfl
  generalize t/256=x at *
  simp[-E,-O,↓KW,g1,g1',g2,g2',s8,hw,z8]
  refine sT hb (by kernel_rfl) (by kernel_rfl) (by rfl) ?_
  simp[-E,-O,↓KW,hwb,hwr',z0]
 .subst h3
  have g1:(65536:Al)<=t:=by omega
  have g1':65536<=t:=by omega
  have g2:¬(256:Al)<=((t/65536:Ae):Al):=by omega
  have hwr':=hwr 16 rfl
  generalize t/65536=x at *
  have g2':¬256<=x:=by omega
  simp[-E,-O,↓KW,g1,g1',g2,g2',s16,hw,z8]
  refine sT hb (by kernel_rfl) (by kernel_rfl) (by rfl) ?_
  simp[-E,-O,↓KW,hwb,hwr',z0]
 .subst h3
  have g1:(65536:Al)<=t:=by omega
  have g1':65536<=t:=by omega
  have g2:(256:Al)<=((t/65536:Ae):Al):=by omega
  have hwr':=hwr 24 rfl
  generalize t/65536/256=x at *
  generalize t/65536=u at *
  simp[-E,-O,↓KW,g1,g1',g2,h2,s16,s168,hw,z8,z24]
  refine sT hb (by kernel_rfl) (by kernel_rfl) (by rfl) ?_
  simp[-E,-O,↓KW,hwb,hwr',z0]
def bVq[M:Mch Ab]{t:Ae}(ht:t<4294967296):∃k:Ae,k<=32/\(t<65536->k<=16)/\t<2^k/\Spec Ab 238 [.i .u32 t] (.i .i64 (k:Ae)):=by
 have go:∀x n:Ae,x<256->n<=24->t<(x+1)*2^n->((t<256/\x=t/\n=0)\/(256<=t/\t<65536/\x=t/256/\n=8)\/(65536<=t/\t/65536<256/\x=t/65536/\n=16)\/(65536<=t/\256<=t/65536/\x=t/65536/256/\n=24))->∃k:Ae,k<=32/\(t<65536->k<=16)/\t<2^k/\Spec Ab 238 [.i .u32 t] (.i .i64 (k:Ae)):=by intro x n hx hn hlt h;obtain⟨b,hb,h1,h2⟩:=bOo hx;refine⟨n+b.toNat,by omega,λ_=>by omega,?_,bZc t ht x n b hb (by omega) hx h⟩;rw[Gw,Da];exact Be hlt (Ck _ h1)
 rcases Bc t 256 with h1|h1
 .exact go t 0 h1 (by omega) (by simp) (.inl ⟨h1,rfl,rfl⟩)
 rcases Bc t 65536 with h2|h2
 .exact go (t/256) 8 (by omega) (by omega) (by omega) (.inr (.inl ⟨h1,h2,rfl,rfl⟩))
 rcases Bc (t/65536) 256 with h3|h3
 .exact go (t/65536) 16 (by omega) (by omega) (by omega) (.inr (.inr (.inl ⟨h2,h3,rfl,rfl⟩)))
 .exact go (t/65536/256) 24 (by omega) (by omega) (by omega) (.inr (.inr (.inr ⟨h2,h3,rfl,rfl⟩)))
def cEg[M:Mch Ab]{a:Ae}(h0:0<a)(ha:a<2^48):∃c:Ae,c<=48/\a<2^c/\Spec Ab 281 [cB a] (.i .i64 (c:Ae)):=by
 have ha64:a<18446744073709551616:=FD ha (by decide);have ta:=iV (M:=M) (bJ a) (Bg (cV (k:=2) ha64) (by decide));rw[kV (mR _)]at ta;have z0:Ax.wrap 0=0:=by decide
 have z1:Ax.wrap 1=1:=by decide
 have z32:Ax.wrap 32=32:=by decide
 rw[aY a];rcases bVw ha64 with ⟨e,h⟩|⟨e,h1,_⟩|⟨e,h1⟩
 .omega
 .obtain⟨k,hk,_,h2,hL⟩:=bVq (M:=M) h1;refine⟨k,by omega,h2,?_⟩;rw[e]at ta ⊢;have hw:Ax.wrap (k:Al)=k:=bP;refine bU (N:=22) Tryz.func281 ?_;simp[-E,-O,↓KW,bE];refine aL ta ?_;simp[-E,-O,↓KW,aZ,z0,z1,z32];refine aL hL ?_;simp[-E,-O,↓KW,z0,z1,z32,hw]
 .obtain⟨k,hk,hk2,h2,hL⟩:=bVq (M:=M) (t:=a/4294967296) (by omega);have hk3:=hk2 (by omega);refine⟨32+k,by omega,?_,?_⟩
  .rw[Gw];have:(2:Ae)^32=4294967296:=by decide
   rw[this];omega
  rw[e]at ta ⊢;have hw:Ax.wrap (32+(k:Al))=((32+k:Ae):Al):=by rw[bP];omega
  generalize a%4294967296=lo at *;generalize a/4294967296=hi at *;generalize((32+k:Ae):Al)=R at *;refine bU (N:=22) Tryz.func281 ?_;simp[-E,-O,↓KW,bE];refine aL ta ?_;simp[-E,-O,↓KW,aZ,z0,z1,z32];refine aL hL ?_;simp[-E,-O,↓KW,z0,z1,z32,hw]
def bHc{a x:Ae}(hx:0<x):a<((x+a/x)/2+1)*((x+a/x)/2+1):=by
 have h1:a<(a/x+1)*x:=by have:=Nat.lt_mul_div_succ a hx;rwa [Da]at this
 obtain⟨q,hq⟩:∃q,a/x+1=q:=⟨_,rfl⟩;obtain⟨y,hy⟩:∃y,(x+a/x)/2+1=y:=⟨_,rfl⟩;rw[hy];rw[hq]at h1;have h2:x+q<=2*y:=by omega
 have h3:4*(q*x)<=(x+q)*(x+q):=by
  rcases Nat.le_total x q with h|h
  .obtain⟨d,rfl⟩:=FX h;grind
  .obtain⟨d,rfl⟩:=FX h;grind
 have h4:(x+q)*(x+q)<=(2*y)*(2*y):=BO h2 h2;have h5:(2*y)*(2*y)=4*(y*y):=by grind
 omega
def aRx{a x:Ae}(hx:0<x)(h:x<=(x+a/x)/2):x*x<=a:=by
 have:x<=a/x:=by omega
 exact(Nat.le_div_iff_mul_le hx).1 this
def nwt(a:Ae):Ae->Ae->Ae
 |0,x=>x
 |k+1,x=>if x<=(x+a/x)/2 then x else nwt a k ((x+a/x)/2)
def aCj{a x:Ae}(ha:0<a)(hx:0<x):0<(x+a/x)/2:=by
 rcases BB ((x+a/x)/2)with h|h
 .have:=bHc (a:=a) hx;rw[h]at this;omega
 .exact h
def bGt{a:Ae}(ha:0<a):∀k x,0<x->x<=k->a<(x+1)*(x+1)->nwt a k x*nwt a k x<=a/\a<(nwt a k x+1)*(nwt a k x+1)
 |0,x,h0,h1,_=>by omega
 | k+1,x,h0,h1,h2=>by
  unfold nwt;split
  .rename_i h;exact⟨aRx h0 h,h2⟩
  .rename_i h;exact bGt ha k _ (aCj ha h0) (by omega) (bHc h0)
def roS(a x:Ae):St:=StL [(1,.ptr 1 0),(2,.ptr 2 0),(3,.d (.i .i64 0)),(4,.ptr 3 0),(7,.ptr 4 0)] Aj [.cells 35 [.d (.b Az),.d (aZ (bJ a))],.cells 35 [.d (.b Az),.nil],.cells 35 [.d (.b Az),.d (aZ (bJ 2))],.cells 35 [.d (.b Az),.d (aZ (bJ x))]]
def cCw[M:Mch Ab]{a:Ae}(ha:a<2^48):∃r:Ae,r*r<=a/\a<(r+1)*(r+1)/\Spec Ab 212 [cB a] (.tp [cB r,.i .i64 0]):=by
 have hSg:=wA (M:=M) (a:Al) (szN (by omega));rw[fQ]at hSg;rcases BB a with h0|h0
 .subst h0;refine⟨0,by decide,by decide,?_⟩;have e:aZ (bJ 0)=.sl []:=by rw[cN];rfl
  replace hSg:Spec Ab 57 [cB 0] (.i .i64 0):=hSg;rw[aY 0,e]at hSg ⊢;refine bU (N:=62) Tryz.func212 ?_;simp[-E,-O,↓KW];refine aL hSg ?_;simp[-E,-O,↓KW,gV]
 .obtain⟨c,hc,hac,hB⟩:=cEg (M:=M) h0 ha;have hsg:(a:Al).sign=1:=Int.sign_eq_one_of_pos (by omega);rw[hsg]at hSg;have hO:=mL (M:=M) (n:=2) (by decide);obtain⟨n,hn⟩:∃n,(c+1)/2=n:=⟨_,rfl⟩;have hn31:n<=31:=by omega
  have hw1:Ax.wrap ((c:Al)+1)=((c+1:Ae):Al):=bP;have hw2:Ax.wrap (((c+1:Ae):Al).tdiv 2)=(n:Al):=by rw[Ey (by omega),bP];omega
  obtain⟨c1,hc1⟩:∃c1:Al,((c+1:Ae):Al)=c1:=⟨_,rfl⟩;rw[hc1]at hw1 hw2;have hq1:(n:Al).tdiv 32=0:=by rw[Ey (by omega)];omega
  have hq2:(n:Al)/32=0:=by omega
  have hr1:(n:Al).tmod 32=n:=by rw[Cq (by omega)];omega
  have hr2:(n:Al)%32=n:=by omega
  have hwn:Ax.wrap (n:Al)=n:=bP;have hsh:=bEj n hn31;have h2n:2^n<=2^31:=CL (by decide) hn31;have h1n:0<2^n:=Nat.pow_pos (by decide);have hbig:a<(2^n+1)*(2^n+1):=by have h1:2^c<=2^(n+n):=CL (by decide) (by omega);rw[Gw]at h1;have h2:2^n*2^n<=(2^n+1)*(2^n+1):=BO (by omega) (by omega);omega
  have hV:=jC (M:=M) (Lim.one (x:=2^n) (by omega)) (by simp) Az;rw[show sg Az (val [2^n])=((2^n:Ae):Al)from by simp[sg,val],fQ]at hV;obtain⟨X,hX⟩:∃X,2^n=X:=⟨_,rfl⟩;rw[hX]at hsh h2n h1n hbig hV;have hm1:(1:Ae)<=maxLen:=bY (by decide);have z0:Ax.wrap 0=0:=by decide
  have z1:Ax.wrap 1=1:=by decide
  have hD:=λ(x:Ae) (h:0<x) (h2:x<18446744073709551616)=>aWu (M:=M) (a:=a) (b:=x) (by omega) h2 h
  have hD2:=λ(x:Ae) (h2:x<18446744073709551616)=>aWu (M:=M) (a:=x) (b:=2) h2 (by decide) (by decide)
  obtain⟨hr1',hr2'⟩:=bGt h0 X X h1n (AM _) hbig;refine⟨nwt a X X,hr1',hr2',?_⟩;obtain⟨R,hR⟩:∃R,nwt a X X=R:=⟨_,rfl⟩;rw[hR];clear hr1' hr2' hbig;refine bU (N:=62) Tryz.func212 ?_;simp[-E,-O,↓KW,aY a,bE];refine aL hSg ?_;simp[-E,-O,↓KW,aY a,bE];refine aL hO ?_;rw[aY 2];simp[-E,-O,↓KW,bE];refine aL hB ?_;simp[-E,-O,↓KW,hw1,hw2,hq1,hq2,hr1,hr2,hwn,hsh,hm1,z0,z1];refine iD (ds:=[.b Az,aZ [X]]) ?_ hV ?_
  .simp[-E,-O,↓KW,aZ]
  rw[aY X];simp[-E,-O,↓KW,bE];refine bT (τ:=Ae×Ae) (λp=>p.2<=p.1/\0<p.2/\p.2<=X/\nwt a p.1 p.2=R) (λp=>roS a p.2) (λp=>p.1) (X,X) ⟨AM _,h1n,AM _,hR⟩ ?_ ?_
  .show ∃ρ,Wk _ (roS _ _) ρ;unfold roS;refine wkQ [1,2,3,5] ?_ ?_<;>simp[-E,upd,bH,Γ0]
  .rintro⟨k,x⟩ ⟨hk,hx0,hxX,hx⟩;simp only at hk hx0 hxX hx ⊢;have hqa:a/x<=a:=FO ..;have hpos:=aCj h0 hx0;have hDx:=hD x hx0 (by omega);have hAd:=aKj (M:=M) (x:=x) (y:=a/x) (by omega) (by omega);have hDy:=hD2 (x+a/x) (by omega);obtain⟨k',rfl⟩:∃k',k=k'+1:=⟨k-1,by omega⟩;unfold nwt at hx;obtain⟨q,hq⟩:∃q,a/x=q:=⟨_,rfl⟩;rw[hq]at hDx hAd hDy hpos hx hqa;obtain⟨m,hm⟩:∃m,a%x=m:=⟨_,rfl⟩;rw[hm]at hDx;obtain⟨w,hw⟩:∃w,x+q=w:=⟨_,rfl⟩;rw[hw]at hAd hDy hpos hx;obtain⟨y,hy⟩:∃y,w/2=y:=⟨_,rfl⟩;obtain⟨m2,hm2⟩:∃m,w%2=m:=⟨_,rfl⟩;rw[hy,hm2]at hDy;rw[hy]at hpos hx;obtain⟨t,hCm,ht1,ht2⟩:=aAk (M:=M) (y:Al) (x:Al) (szN (by omega)) (szN (by omega));rw[fQ,fQ]at hCm;simp[-E,-O,↓KW,roS];refine aL hDx ?_;rw[aY q,aY m];simp[-E,-O,↓KW,bE];refine aL hAd ?_;rw[aY w];simp[-E,-O,↓KW,bE];refine aL hDy ?_;rw[aY y,aY m2];simp[-E,-O,↓KW,bE];refine aL hCm ?_;by_cases hyx:x<=y
   .have ht:(0:Al)<=t:=by omega
    rw[AB hyx]at hx;subst hx;simp[-E,-O,↓KW,ht,bE];try exact bQ (by simp[-E,-O,↓KW,aY x,gV])
   .have ht:¬(0:Al)<=t:=by omega
    rw[Ap hyx]at hx;simp[-E,-O,↓KW,ht,bE];refine bD (k',y) ⟨by omega,hpos,by omega,hx⟩ (CM _) ?_;show ∃ρ,Wk _ (roS _ _) ρ;unfold roS;refine wkQ [1,2,3,4] ?_ ?_<;>simp[-E,upd,bH,Γ0]
def aFh:Ae->Ad Al->Ad Al
 |0,l=>l
 |j+1,l=>if l[j]! < l[j+1]! then aFh j ((l.set (j+1) l[j]!).set j l[j+1]!)else l
def xW(l:Ad Al):Ae->Ad Al
 |0=>l
 |k+1=>aFh (k+1) (xW l k)
def kH(l:Ad Al):Ad Al:=xW l (l.length-1)
def aOy:∀(j:Ae) (l:Ad Al),(aFh j l).length=l.length
 |0,l=>rfl
 | j+1,l=>by
  unfold aFh;split
  .rw[aOy];simp
  .rfl
def aCx(l:Ad Al):∀k,(xW l k).length=l.length
 |0=>rfl
 |k+1=>by unfold xW;rw[aOy,aCx l k]
def aHd:∀(j:Ae) (l:Ad Al),j<l.length->(aFh j l).Perm l
 |0,l,_=>.refl _
 | j+1,l,h=>by
  unfold aFh;split
  .refine(aHd j _ (by simp;omega)).trans (xH h (by omega))
  .exact .refl _
def xV(l:Ad Al):∀k,k<l.length\/k=0->(xW l k).Perm l
 |0,_=>.refl _
 | k+1,h=>by unfold xW;exact(aHd (k+1) _ (by rw[aCx];omega)).trans (xV l k (by omega))
def sH(l:Ad Al):(kH l).Perm l:=xV l _ (by omega)
def vI(Γ:Ae->AV)(f:AU):oev Γ (.func f)=.d (.lit (.func (.func f) #[] #[])):=rfl
def lnF:D:=.lit (.func (.func 214) #[] #[])
def pE(e:AF)(l:Ad Al):kL (.cells e ((vcs l).map .d))=true:=by simp only[kL,A1];intro x hx;obtain⟨d,hd,rfl⟩:=AY.1 hx;rfl
def bZb[M:Mch Ab](x y:Al)(hx:Sz x)(hy:Sz y):∃r:Al,Spec Ab 214 [encZ x,encZ y] (.i .i64 r)/\(r<0↔y<x):=by obtain⟨r,h1,_,h2⟩:=aAk (M:=M) y x hy hx;refine⟨r,?_,h2⟩;refine bU (N:=8) Tryz.func214 ?_;simp[-E,-O,↓KW,cX x,cX y,bE];refine aL h1 ?_;simp[-E,-O,↓KW]
def bIq[M:Mch Ab](l:Ad Al)(hl:l.length<=1000)(hz:∀z∈l,Sz z):jV Ab 337 (.own 0 0 l.length 2) (.cells 35 ((vcs l).map .d)) [.i .i64 0,.i .i64 l.length,lnF] (.cells 35 ((vcs (kH l)).map .d)) (.tp []):=by
 refine eB (N:=53) aT Tryz.func337 rfl rfl rfl (by kernel_rfl) (by kernel_rfl) (by simp) (pE _ _) ?_;have hw1:Ax.wrap 1=1:=by decide
 by_cases h0:l.length=0
 .have hl0:l=[]:=List.eq_nil_of_length_eq_zero h0;subst hl0;simp[-E,-O,↓KW,St1,hw1,lnF];refine eR 1 ?_;simp[-E,-O,↓KW,↓aF,↓aA,↓aG,↓aH,show kH []=[]from rfl,eQ]
 replace h0:0<l.length:=by omega
 have hzz:∀T:Ad Al,T.Perm l->∀j,j<T.length->Sz T[j]! := λT hT j hj=>hz _ (hT.mem_iff.1 (by rw[CC T j hj];exact B3 hj))
 simp[-E,-O,↓KW,St1,hw1,lnF];refine bT (τ:=Ae) (λk=>k+1<=l.length) (λk=>StL [(0,.own 0 0 l.length 2),(1,.d (.i .i64 0)),(2,.d (.i .i64 l.length)),(3,.d lnF),(8,.d (.i .i64 (lJ k)))] (Aa (.cells 35 ((vcs (xW l k)).map .d))) []) (λk=>l.length-k) 0 (by omega) ?_ ?_
 .refine qW ?_ rfl;simp[-E,upd,bH,Γ0,lJ,xW,lnF]
 .intro k hk;have hkl:=aCx l k;have hkp:=xV l k (by omega);by_cases hlt:k+1<l.length
  .have hR:xW l (k+1)=aFh (k+1) (xW l k):=rfl;obtain⟨R,hRR⟩:∃R,xW l (k+1)=R:=⟨_,rfl⟩;rw[hRR]at hR;obtain⟨i,hi⟩:∃i,k+1=i:=⟨_,rfl⟩;rw[hi]at hR hlt;have hs:lJ k=(i:Al):=by unfold lJ;omega
   have hs1:Ax.wrap ((i:Al)+1)=lJ (k+1):=by unfold lJ;rw[show(i:Al)+1=((k+1+1:Ae):Al)from by omega];exact bP
   rw[hs];generalize xW l k=T0 at *;generalize l.length=n at *;simp[-E,-O,↓KW,hlt];refine bT (τ:=Ae×Ad Al) (λx=>x.1<=i/\x.2.length=n/\aFh x.1 x.2=R/\x.2.Perm l) (λx=>StL [(0,.own 0 0 n 2),(1,.d (.i .i64 0)),(2,.d (.i .i64 n)),(3,.d lnF),(8,.d (.i .i64 i)),(9,.d (.i .i64 (x.1:Ae)))] (Aa (.cells 35 ((vcs x.2).map .d))) []) (λx=>x.1) (i,T0) ⟨AM _,hkl,hR.symm,hkp⟩ ?_ ?_
   .refine qW ?_ rfl;simp[-E,upd,bH,Γ0]
   .rintro⟨j,T⟩ ⟨h1,h2,h3,h4⟩;simp only at h1 h2 h3 h4 ⊢;cases j with
    | zero =>
     have h3':T=R:=h3;subst h3';simp[-E,-O,↓KW];refine bQ ?_;simp[-E,-O,↓KW,hs1];refine bD (k+1) (by omega) (by show n-(k+1)<n-k;omega) ?_;show ∃ρ,Wk _ (StL _ _ _) ρ;rw[hRR];refine qW ?_ rfl;simp[-E,upd,bH,Γ0]
    | succ j =>
     have hbub:aFh (j+1) T=if T[j]! < T[j+1]! then aFh j ((T.set (j+1) T[j]!).set j T[j+1]!)else T:=rfl
     obtain⟨r,hL,hr⟩:=bZb (M:=M) T[j+1]! T[j]! (hzz T h4 (j+1) (by omega)) (hzz T h4 j (by omega));have hTl:((T.set (j+1) T[j]!).set j T[j+1]!).length=n:=by simp[h2]
     have hTp:((T.set (j+1) T[j]!).set j T[j+1]!).Perm l:=(xH (l:=T) (i:=j+1) (j:=j) (by omega) (by omega)).trans h4;have hra:D7 2 (List.drop ((j+1)*2) ((vcs T).map AV.d))=(qT T[j+1]!).map .d:=by rw[<-List.map_drop,<-FL,aBb (z:=T[j+1]!) (by rw[CC T (j+1) (by omega)];exact Ac (by omega))]
     have hrb:D7 2 (List.drop (j*2) ((vcs T).map AV.d))=(qT T[j]!).map .d:=by rw[<-List.map_drop,<-FL,aBb (z:=T[j]!) (by rw[CC T j (by omega)];exact Ac (by omega))]
     have e1:=aAj (v:=T) T[j]! (j:=j+1) (by omega);have e2:=aAj (v:=T.set (j+1) T[j]!) T[j+1]! (j:=j) (by rw[CO];omega);have hvl:=fR T;have hvl2:=fR (T.set (j+1) T[j]!);rw[CO]at hvl2;rw[h2]at hvl hvl2;rw[hbub]at h3;have hjn:j+1<n:=by omega
     have hjn':j<n:=by omega
     have hw0:Ax.wrap (j:Al)=j:=bP;have hwJ:Ax.wrap (((j+1:Ae):Al)-1)=j:=by rw[show((j+1:Ae):Al)-1=(j:Al)from by omega];exact hw0
     have hwJ0:Ax.wrap ((j+1:Ae):Al)=((j+1:Ae):Al):=bP;have hJ0:0<j+1:=by omega
     generalize(T.set (j+1) T[j]!).set j T[j+1]! = T2 at *;generalize T.set (j+1) T[j]! = T1 at *;generalize T[j+1]! = x at *;generalize T[j]! = y at *;rw[aJx]at hra hrb;obtain⟨J,hJ⟩:∃J,j+1=J:=⟨_,rfl⟩;have hJlt:j<J:=by omega
     simp only[hJ]at *;have hJ1:J*2+2<=n*2:=by omega
     have hJ2:j*2+2<=n*2:=by omega
     have hJ3:J<=n:=by omega
     by_cases hxy:y<x
     .rw[AB hxy]at h3;have hr0:r<0:=hr.2 hxy;simp[-E,-O,↓KW,↓aF,↓aA,↓aG,↓aH,lnF,hra,hrb,hw0,hwJ,hwJ0,hJ0,hvl,hjn,hjn',hJ1,hJ2];refine nO (ds:=[encZ x,encZ y]) (by rfl) hL ?_;simp[-E,-O,↓KW,hr0,hra,hrb,hw0,hwJ,hwJ0,hJ0,hvl,hvl2,hjn,hjn',hJ1,hJ2,hJ3,e1,e2,bE]
      refine bD (j,T2) ⟨by omega,hTl,h3,hTp⟩ (CM _) ?_
      show ∃ρ,Wk _ (StL _ _ _) ρ
      refine qW ?_ ?_<;>simp[-E,upd,bH,Γ0,e1,e2,lnF]
     .rw[Ap hxy]at h3
      have hr0:¬r<0:=λh=>hxy (hr.1 h)
      simp[-E,-O,↓KW,↓aF,↓aA,↓aG,↓aH,lnF,hra,hrb,hw0,hwJ,hwJ0,hJ0,hvl,hjn,hjn',hJ1,hJ2]
      refine nO (ds:=[encZ x,encZ y]) (by rfl) hL ?_
      simp[-E,-O,↓KW,hr0,hra,hrb,hw0,hwJ,hwJ0,hJ0,hvl,hjn,hjn',hJ1,hJ2]
      subst h3
      refine bQ ?_
      simp[-E,-O,↓KW,hs1]
      refine bD (k+1) (by omega) (by show n-(k+1)<n-k;omega) ?_
      show ∃ρ,Wk _ (StL _ _ _) ρ
      rw[hRR]
      refine qW ?_ ?_<;>simp[-E,upd,bH,Γ0,lnF]
  .have hk1:k+1=l.length:=by omega
   have hsr:kH l=xW l k:=by unfold kH;rw[show l.length-1=k from by omega]
   rw[hsr]
   have hs:lJ k=(l.length:Al):=by unfold lJ;omega
   rw[hs]
   simp[-E,-O,↓KW]
   exact bQ (by simp[-E,-O,↓KW,eQ])
def cGj[M:Mch Ab](l:Ad Al)(r:Al)(hl:l.length<=12)(hz:∀z∈l,Sz z):jV Ab 282 (.own 0 0 l.length 2) (.cells 35 ((vcs l).map .d)) [.i .i64 0,.i .i64 l.length,.i .i64 r,lnF] (.cells 35 ((vcs (kH l)).map .d)) (.tp []):=by
 have hI:=bIq (M:=M) l (by omega) hz;have hlen:(vcs (kH l)).length=(vcs l).length:=by rw[fR,fR,(sH l).length_eq]
 have hno1:=pE 35 l;have hno2:=pE 35 (kH l);have hw0:Ax.wrap (l.length:Al)=l.length:=bP;have hle:(l.length:Al)<=12:=by omega
 refine eB (N:=148) aT Tryz.func282 rfl rfl rfl (by kernel_rfl) (by kernel_rfl) (by simp) hno2 ?_;unfold lnF at *;generalize kH l=T at *;generalize l.length=n at *;generalize vcs T=DT at *;generalize vcs l=DL at *;simp[-E,-O,↓KW,St1];refine eR 1 ?_;simp[-E,-O,↓KW,↓aF,↓aA,↓aG,↓aH,hw0,hl,hle];refine jP (by simp) ?_;refine eZ (id:=0) (h:=.own 0 0 n 2) (by rfl) hno1 (by rfl) (by rfl) hI (by simp[HO.len,hlen]) hno2 ?_;simp[-E,-O,↓KW,eQ]
def cEf[M:Mch Ab](n:Ae)(hn:n<=12):∃r,Spec Ab 149 [.i .u64 n] (.i .i64 r):=by
 have h:((AW 13).all λn=>match(kC Ab EP 100 20).call 149 [.i .u64 (n:Ae)]with|some (.i .i64 r)=>Ak|_=>Az)=true:=by kernel_rfl
 have:=A1.1 h n (Cc.2 (by omega));split at this
 .rename_i r hr;exact⟨r,aCu hr⟩
 .cases this
def cCu[M:Mch Ab](l:Ad Al)(hl:l.length<=12)(hz:∀z∈l,Sz z):jV Ab 213 (.own 0 0 l.length 2) (.cells 35 ((vcs l).map .d)) [lnF] (.cells 35 ((vcs (kH l)).map .d)) (.tp []):=by
 obtain⟨r,hB⟩:=cEf (M:=M) l.length hl;have hI:=cGj (M:=M) l r hl hz;have hlen:(vcs (kH l)).length=(vcs l).length:=by rw[fR,fR,(sH l).length_eq]
 have hno1:=pE 35 l;have hno2:=pE 35 (kH l);have hw0:Bh.wrap (l.length:Al)=l.length:=wrap_u64 (by omega) (by omega);refine eB (N:=14) aT Tryz.func213 rfl rfl rfl (by kernel_rfl) (by kernel_rfl) (by simp) hno2 ?_;unfold lnF at *;generalize kH l=T at *;generalize l.length=n at *;generalize vcs T=DT at *;generalize vcs l=DL at *;simp[-E,-O,↓KW,St1,hw0];refine aL hB ?_;simp[-E,-O,↓KW,St1,hw0];refine jP (by simp) ?_;refine eZ (id:=0) (h:=.own 0 0 n 2) (by rfl) hno1 (by rfl) (by rfl) hI (by simp[HO.len,hlen]) hno2 ?_;simp[-E,-O,↓KW,eQ]
def sqL(v:Ad Al):Ad Al:=v.map λz=>z*z
def aJe:D:=.lit (.func (.func 114) #[] #[])
def aFu:∀(C:Ad Al) (i:Ae) (x:Al),i<C.length->(C.set i x).take (i+1)=C.take i++[x]
 |[],i,x,h=>by simp at h
 |c::C,0,x,_=>by simp
 | c::C,i+1,x,h=>by rw[List.set_cons_succ,DD,aFu C i x (by simpa using h)];rfl
def cAh[M:Mch Ab](v:Ad Al)(hl:v.length<=1000)(hb:∀z∈v,z.natAbs<=1000000):Spec Ab 253 [dK v,dK v,aJe] (dK (sqL v)):=by
 obtain⟨L,hL,hLl,hLg⟩:=wI v;rw[hL];have hmx:L.length<=maxLen:=Bg (by omega) (bY (n:=1000) (by decide));have hmk:32*(L.length:Al)<=281474976710656/\(L.length:Al)<=9223372036854775807:=⟨by omega,by omega⟩;refine bU (N:=32) Tryz.func253 ?_;simp[-E,-O,↓KW,aJe,hmx,hmk];refine bT (τ:=Ae×Ad Al) (λp=>p.1<=v.length/\p.2.length=v.length/\p.2.take p.1=(sqL v).take p.1) (λp=>StL [(0,.d (.sl L)),(1,.d (.sl L)),(2,.d aJe),(7,.own 1 0 L.length 2),(13,.d (.i .i64 (L.length:Al))),(14,.d (.i .i64 (p.1:Al)))] Aj [.cells 35 ((vcs p.2).map .d)]) (λp=>v.length-p.1) (0,AO v.length 0) ⟨BH _,by simp,by simp⟩ ?_ ?_
 .refine wkQ [1] ?_ ?_
  .simp[-E,upd,bH,Γ0,aJe]
  .simp[-E,upd,bH,Γ0,aJe];rw[<-hLl];exact aPu L.length
 .rintro⟨i,C⟩ ⟨hi,hC,hT⟩;simp only at hi hC hT ⊢;by_cases hlt:i<v.length
  .obtain⟨z,hge⟩:∃x,v[i]? = Aa x:=⟨_,Ac hlt⟩;have hLi:=hLg i _ hge;have hLi':=cI hLi;have hiL:i<L.length:=by omega
   have hzb:=hb z (At hge);have hSz:=(szR (z:=z) (by omega)).1;have hM:=aJl (M:=M) z z (Bg hSz (by decide)) (Bg hSz (by decide));have hlay:=aAj (v:=C) (z*z) (j:=i) (by omega);have hT2:(C.set i (z*z)).take (i+1)=(sqL v).take (i+1):=by rw[aFu C i _ (by omega),hT,BG,sqL,Ao,hge];rfl
   have hvl:=fR C;rw[hC,<-hLl]at hvl;have hij:i*2+2<=L.length*2:=by omega
   have hw0:Ax.wrap (i:Al)=i:=bP;have hw1:Ax.wrap ((i:Al)+1)=((i+1:Ae):Al):=bP;have hCs:(C.set i (z*z)).length=v.length:=by rw[CO,hC]
   generalize C.set i (z*z)=C2 at *;generalize z*z=q at *;simp[-E,-O,↓KW,↓aF,↓aA,↓aG,↓aH,aJe,hiL,hLi,hLi',hw0,hvl,hij,bE];refine nO (ds:=[encZ z,encZ z]) (by rfl) hM ?_;rw[cX q];simp[-E,-O,↓KW,hiL,hw0,hw1,hvl,hij,hlay,bE];refine bD (i+1,C2) ⟨by omega,hCs,hT2⟩ (by show v.length-(i+1)<v.length-i;omega) ?_;show ∃ρ,Wk _ (StL _ _ _) ρ;refine wkQ [1] ?_ ?_<;>simp[-E,upd,bH,Γ0,aJe]
  .have hiL:¬i<L.length:=by omega
   have hCe:C=sqL v:=by rw[A4 (by omega),A4 (by rw[sqL,BV];omega)]at hT;exact hT
   have e1:=oX (l:=C) (n:=L.length) (by omega);have e2:=yG (l:=C) (n:=L.length) (by omega);have e3:=fR C;rw[hC,<-hLl]at e3;rw[<-hCe];simp[-E,-O,↓KW,aJe,hiL];refine bQ ?_;simp[-E,-O,↓KW,e1,e2,e3,dK]
def cDy[M:Mch Ab](v:Ad Al)(hl:v.length<=1000)(hb:∀z∈v,z.natAbs<=1000000):Spec Ab 177 [dK v,dK v] (.tp [cB (sqS v),.i .i64 0]):=by
 have hcb:=cAh (M:=M) v hl hb;obtain⟨L0,hL0⟩:∃L,dK v=.sl L:=⟨_,rfl⟩;obtain⟨L,hL,hLl,hLg⟩:=wI (sqL v);have hsl:(sqL v).length=v.length:=by simp[sqL]
 rw[hsl]at hLl;rw[hL0,hL]at hcb;rw[hL0];have hne:((L0.length:Al) != (L0.length:Al))=false:=by simp
 have e0:aZ (bJ 0)=.sl []:=by rw[cN];rfl
 refine bU (N:=28) Tryz.func177 ?_;simp[-E,-O,↓KW,↓aF,↓aA,↓aG,↓aH,hne,vI];refine xQ (h:=.d (.sl L0)) (ds:=[.sl L0,aJe]) (r:=.sl L) (l:=[]) (by simp) (by rfl) (by rfl) (by rfl) (by rfl) (by rfl) (uW (d:=.sl L0) (by rfl) hcb) ?_;simp[-E,-O,↓KW];refine bT (τ:=Ae) (λi=>i<=v.length) (λi=>StL [(4,.ptr 1 0),(5,.d (.i .i64 0)),(6,.ptr 2 0),(17,.d (.sl L)),(18,.d (.i .i64 (L.length:Al))),(19,.d (.i .i64 (i:Al)))] Aj [.cells 35 [.d (.b Az),.nil],.cells 35 [.d (.b Az),.d (aZ (bJ (sqS (v.take i))))]]) (λi=>v.length-i) 0 (BH _) ?_ ?_
 .rw[Ct];refine wkQ [1,2] ?_ ?_<;>simp[-E,upd,bH,Γ0,show sqS []=0 from rfl,e0];exact⟨rfl,λa ha=>by simp[vis]at ha⟩
 .intro i hi;by_cases hlt:i<v.length
  .obtain⟨z,hge⟩:∃x,v[i]? = Aa x:=⟨_,Ac hlt⟩;have hLi:=hLg i (z*z) (by rw[sqL,Ao,hge];rfl);have hzn:decide (z*z<0)=false:=Cn (by rw[<-Int.natAbs_mul_self];exact Int.not_lt.2 (Int.natCast_nonneg _));have hza:(z*z).natAbs=z.natAbs*z.natAbs:=Int.natAbs_mul z z;rw[hzn,hza]at hLi;have hLi':=cI hLi;have hiL:i<L.length:=by omega
   have hzb:=hb z (At hge);have hsb:sqS (v.take i)<=1000*(1000000*1000000):=aBn (by rw[Bt];omega) λy hy=>hb y (BS hy)
   have hzz:z.natAbs*z.natAbs<=1000000*1000000:=BO hzb hzb;have hA:=aKj (M:=M) (x:=sqS (v.take i)) (y:=z.natAbs*z.natAbs) (by omega) (by omega);have hT1:sqS (v.take (i+1))=sqS (v.take i)+z.natAbs*z.natAbs:=by rw[BG,hge];exact aLm z _
   rw[<-hT1]at hA;obtain⟨s1,hs1⟩:∃s,sqS (v.take (i+1))=s:=⟨_,rfl⟩;rw[hs1]at hA;have hw0:Ax.wrap (i:Al)=i:=bP;have hw1:Ax.wrap ((i:Al)+1)=((i+1:Ae):Al):=bP;clear hT1 hsb hzz hza hzn;generalize sqS (v.take i)=s0 at *;generalize z.natAbs*z.natAbs=q at *;simp[-E,-O,↓KW,hiL,hLi,hLi',hw0,bE];refine aL hA ?_;simp[-E,-O,↓KW,aY s1,hw1,bE];refine bD (i+1) (by omega) (by show v.length-(i+1)<v.length-i;omega) ?_;show ∃ρ,Wk _ (StL _ _ _) ρ;rw[hs1];refine wkQ [1,2] ?_ ?_<;>simp[-E,upd,bH,Γ0]
  .have hiL:¬i<L.length:=by omega
   rw[A4 (show v.length<=i by omega)];generalize sqS v=s0 at *;simp[-E,-O,↓KW,hiL];refine bQ ?_;simp[-E,-O,↓KW,aY s0,bE,gV]
end Go.Am
namespace Go.Am
open RowKit (Below)
section
variable {P:As} [M:Mch P]
def StR(d0:D)(h:AV)(o:HO)(args:Ad D)(N:Ae):St:=⟨λt=>match t with|0=>bH d0|1=>h|t+2=>Γ0 args N t,λid=>if id=0 then Aa o else Aj,1⟩
def SRR{A:Ae->Prop}{W:Ag}{vs:Aw AE}{args:Ad D}{d0:D}{h:AV}{o:HO}{b N:Ae}(hok:OkV W)(hA:∀b,A b->b<W.heap.size)(hAb:¬A b)(hb:b<W.heap.size)(ho:∃ob,W.heap[b]? = Aa ob/\CR A W (ι1 b) o ob)
 (hl:args.length+2=vs.size) (hd:∃v,vs[0]? = Aa v/\VD A W d0 v) (h0:∃v,vs[1]? = Aa v/\V A W (ι1 b) h v) (hv:∀(k:Ae) d v,args[k]? = Aa d->vs[k+2]? = Aa v->VD A W d v) (hN:args.length+2<=N) :
 SR ⟨W,A,(·=b),λid b'=>id=0->b'=b,λ_=>Aj⟩ N [] (StR d0 h o args N) { tmps:=vs++Bd (N-vs.size) undef,defers:=[] } W:=by
 have hι:∀id b',ι1 b id=Aa b'->id=0/\b'=b:=λid b' e=>by
  unfold ι1 at e;split at e
  . injection e with e;exact⟨by assumption,e.symm⟩
  . cases e
 have hH:∀id o',(if id=0 then Aa o else Aj)=Aa o'->id=0/\o'=o:=λid o' e=>by
  split at e
  . injection e with e;exact⟨by assumption,e.symm⟩
  . cases e
 refine⟨λid h=>by simp only[StR]at h ⊢;rw[Ap (by omega)],⟨λid h b' e=>by simp[StR]at h;omega,λid h b' e=>(h e).elim⟩,hok,A,ι1 b,⟨.refl _ _ _,hA,λb h=>.inl h,λid b' e=>?_,λid b' o' e e'=>?_,λid id' b' e e' _ _=>?_,λid id' b' o1 o2 e e' _ h1 h2=>?_⟩,λid=>?_,λt=>?_,⟨by simp;omega,λ_ _ h=>by cases h⟩,rfl,λid b' e _=>(hι id b' e).2⟩
 . obtain⟨_,rfl⟩:=hι id b' e;exact⟨.inl rfl,hb,λ_=>hAb⟩
 . obtain⟨_,rfl⟩:=hι id b' e;obtain⟨_,rfl⟩:=hH id o' e';exact ho
 . rw[(hι _ _ e).1,(hι _ _ e').1]
 . rw[(hH _ _ h1).2,(hH _ _ h2).2];exact AM _
 . simp only[StR,ι1]
   by_cases hid:id=0<;>simp[hid]
 . have hget:∀k,k<vs.size->(vs++Bd (N - vs.size) undef).getD k undef=vs.getD k undef:=λk hk=>by simp only[Au];rw[B5 hk]
   have hget2:∀k,vs.size<=k->(vs++Bd (N-vs.size) undef).getD k undef=undef:=λk hk=>by
    simp only[Au];rw[Cu hk];by_cases h2:k-vs.size<N-vs.size
    . rw[Co,AB h2];rfl
    . rw[Co,Ap h2];rfl
   rcases t with _|_|t
   . obtain⟨v,hv0,hV0⟩:=hd
     show V A W (ι1 b) (bH d0) _
     rw[show(({ tmps:=vs++Bd (N-vs.size) undef,defers:=[] }:Act).tmps.getD 0 undef)=v from by
      rw[hget 0 (by omega)];simp[Au,hv0]]
     exact mS hV0
   . obtain⟨v,hv0,hV0⟩:=h0
     show V A W (ι1 b) h _
     rw[show(({ tmps:=vs++Bd (N-vs.size) undef,defers:=[] }:Act).tmps.getD (0+1) undef)=v from by
      rw[hget 1 (by omega)];simp[Au,hv0]]
     exact hV0
   . show V A W (ι1 b) (Γ0 args N t) _
     simp only[Γ0]
     by_cases ht:t<args.length
     . have ht':t+2<vs.size:=by omega
       rw[Ac ht,show t+1+1=t+2 from rfl,hget _ ht',Au,Ar ht']
       exact mS (hv t _ _ (Ac ht) (Ar ht'))
     . rw[Bn (by omega),show t+1+1=t+2 from rfl,hget2 _ (by omega)]
       simp only[ite_self]
       exact .un
def bFp {f N:Ae} {fn:Func} {c:B1} {d0:D} {h:AV} {o o':HO} {args:Ad D} (hm:P.follows .mixedOrders=Ak) (hf:P.funcs[f]? = Aa fn) (hb:fn.body=Aa c) (hname:(fn.name == "runtime.NumGoroutine")=Az) (hN:fn.ntmps=N)
 (hd:bX N c=Ak) (ha:args.length+2<=N) (hno':kL o'=Ak)
 (hA:Wal P c (StR d0 h o args N) λe σ=>(e=.normal\/e=.ret)/\jM P fn.results.toList σ=Aa (.tp [])/\σ.H 0=Aa o'):aPo P f d0 h o args o':=by
 intro A W vs b hAl hAb hbl hob hl hd0 hv0 hv
 have hn:¬ fn.name = "runtime.NumGoroutine" := by simpa using hname
 refine⟨λw=>by simp[callFunc,hf,hn,hb],?_⟩
 refine jT hf hb ?_
 subst hN
 refine(cA P).okv λhok=>?_
 have hsr:=SRR (N:=fn.ntmps) hok hAl hAb hbl hob hl hd0 hv0 hv ha
 refine cG (hA _ _ _ _ _ hm (λ_=>rfl) hd hsr) ?_
 rintro e a w0 ⟨σ,⟨he,hr,hH0⟩,hs0⟩
 have hend:a.defers=[]/\∀w,Env w0 w->∃v,aU P (results fn a.tmps) w=.ok v w/\∃ob',Kept (·=b) W.heap.size W w/\w.heap[b]? = Aa ob' /\
  (∀cur e,W.heap[b]? = Aa (.cells cur e (0,0))->∃cur',ob'=.cells cur' e (0,0)/\cur'.size=cur.size) /\
  CR (λk=>A k\/(W.heap.size<=k/\k<w.heap.size)) w (ι1 b) o' ob'/\VD (λk=>A k\/(W.heap.size<=k/\k<w.heap.size)) w (.tp []) v:=by
  refine⟨hs0.2.2.2.elim λ_ h=>h.elim λ_ h=>h.2.2.2.2.1,λw henv=>?_⟩
  have hs:=hs0.env henv
  obtain⟨_,_,_,F,ι,hR,hdom,hVs,_,hdf,hp⟩:=hs
  obtain⟨v,hrun,hvd⟩:=lM hR hVs hr
  obtain⟨b',hb'⟩:=(hdom 0).2 (by rw[hH0];rfl)
  have hbb:=hp 0 b' hb' rfl
  subst hbb
  obtain⟨ob',hob',hcr⟩:=hR.obj 0 b' o' hb' hH0
  have hnF:¬F b':=(hR.place 0 b' hb').2.2 (λx=>x)
  have hFA:∀k,F k->A k\/(W.heap.size<=k/\k<w.heap.size):=λk hk=>by
   rcases hR.F_ok k hk with h|h|h
   . exact .inl h
   . simp only at h;subst h;exact(hnF hk).elim
   . exact .inr ⟨h,hR.F_lt k hk⟩
  refine⟨v,hrun,ob',hR.kept,hob',λcur e he=>?_,(yS hno' hcr).step ⟨hFA,λ_ _=>rfl,λ_ _ h=>h,λ_ _ cur _ _ h=>⟨cur,h,rfl⟩⟩,?_⟩
  . obtain⟨cur',h1,h2⟩:=hR.kept.shape b' cur e hbl he
    rw[hob']at h1;injection h1 with h1
    exact⟨cur',h1,h2⟩
  . cases hvd with|tp ds vs hl hh=>exact .tp _ _ hl λk d v hk=>by simp at hk
 rcases he with rfl|rfl<;>exact hend
end
end Go.Am
section
open Go Go.Am Go.Proofs
namespace Go.Am
def bVa[M:Mch Ab](p a b:Ae)(hp:0<p)(ha:a<4294967296)(hb:b<4294967296):Spec Ab 287 [.i .u64 p,.i .u64 a,.i .u64 b] (.i .u64 ((a+b)%p:Ae)):=by
 have hR:=vB (a+b) p hp;generalize(a+b)%p=r at *;have hw1:Bh.wrap ((a:Al)+(b:Al))=((a+b:Ae):Al):=by rw[<-Em];exact wrap_u64 (by omega) (by omega)
 generalize a+b=x at *;refine bU (N:=12) Tryz.func287 ?_;simp[-E,-O,↓KW,hw1];refine aL hR ?_;simp[-E,-O,↓KW]
def aWk(e:AF)(l:Ad Ae):wG (.cells e ((dU l).map .d))=true:=by
 unfold wG;refine A1.2 λc hc=>?_
 obtain⟨x,hx,rfl⟩:=AY.1 hc;obtain⟨y,_,rfl⟩:=AY.1 hx;rfl
def bYs(e:AF)(l:Ad Ae):kL (.cells e ((dU l).map .d))=true:=by
 unfold kL;refine A1.2 λc hc=>?_
 obtain⟨x,hx,rfl⟩:=AY.1 hc;rfl
def aTd{l:Ad Ae}{i x:Ae}(h:l[i]? = Aa x):(dU l)[i]? = Aa (.i .u64 (x:Al)):=by unfold dU;rw[Ao,h];rfl
def bKo(l:Ad Ae)(i x:Ae):(dU l).set i (.i .u64 (x:Al))=dU (l.set i x):=by unfold dU;rw[List.map_set]
def adL(p:Ae)(a b:Ad Ae)(k:Ae):Ad Ae:=(AW a.length).map λj=>(a.getD j 0+k*b.getD j 0%p)%p
def lU(p:Ae)(a b:Ad Ae)(k:Ae):(adL p a b k).length=a.length:=by simp[adL]
def wW{p k j:Ae}{a b:Ad Ae}(hj:j<a.length):(adL p a b k)[j]? = Aa ((a.getD j 0+k*b.getD j 0%p)%p):=by unfold adL;rw[Ao,BZ hj];rfl
def bMg{p:Ae}{a b:Ad Ae}(ha:∀x∈a,x<p):adL p a b 0=a:=by
 apply Dr λj=>?_
 by_cases hj:j<a.length
 .rw[wW hj,Ac hj,Ah,Ac hj,Nat.zero_mul,Nat.zero_mod,CU,AQ,Cr (ha _ (B3 hj))]
 .rw[Bn (by rw[lU];omega),Bn (by omega)]
def atS(p k n:Ae)(L:Ad (Ad D))(j:Ae)(T:Ad Ae):St:=StL [(0,.d (.i .u64 p)),(1,.own 0 0 n 1),(3,.d (.i .u64 k)),(12,.d (.sl L)),(13,.d (.i .i64 n)),(14,.d (.i .i64 (j:Al)))] (Aa (.cells 46 ((dU T).map .d))) []
def bBx[M:Mch Ab](p k:Ae)(a b:Ad Ae)(hp:0<p)(hp1:p<=2147483648)(hk:k<p)(ha:∀x∈a,x<p)(hb:∀x∈b,x<p)(hl:a.length=b.length)(hn:a.length<=1000) :
 aPo Ab 226 (.i .u64 p) (.own 0 0 a.length 1) (.cells 46 ((dU a).map .d)) [cO b,.i .u64 k] (.cells 46 ((dU (adL p a b k)).map .d)):=by
 obtain⟨L,hL,hLl,hLg⟩:=wK b
 rw[hL]
 refine bFp (N:=33) aT Tryz.func226 rfl rfl rfl (by kernel_rfl) (by simp) (bYs _ _) (aUs (by kernel_rfl) ?_)
 by_cases hk0:k=0
 .subst hk0
  rw[bMg ha]
  simp[-E,-O,↓KW,StR,eQ]
 .have hk1:((k:Al)==0)=false:=by rw[D6];omega
  have hLn:(L.length:Al)=(a.length:Al):=by omega
  simp[-E,-O,↓KW,StR,hk1,hk0,hLn]
  refine bT (τ:=Ae) (λj=>j<=a.length) (λj=>atS p k a.length L j ((adL p a b k).take j++a.drop j)) (λj=>a.length-j) 0 (BH _) ?_ ?_
  .rw[Ct,Ew,List.nil_append]
   show ∃ρ,Wk _ (atS _ _ _ _ _ a) ρ
   unfold atS
   refine qW ?_ rfl
   simp[-E,upd,bH,Γ0,hLl]
  .intro j hj
   have hTl:((adL p a b k).take j++a.drop j).length=a.length:=by rw[BK,Bt,lU,List.length_drop];omega
   by_cases hlt:j<a.length
   .obtain⟨x,hx⟩:∃x,a[j]? = Aa x:=⟨_,Ac hlt⟩
    have hjb:j<b.length:=by omega
    have hLj:=hLg j hjb
    have hLj':=cI hLj
    have hjL:j<L.length:=by omega
    obtain⟨y,hy⟩:∃y,b[j]! = y:=⟨_,rfl⟩
    have hyb:b.getD j 0=y:=by rw[Ah,Ac hjb,<-hy,CC b j hjb];rfl
    have hyp:y<p:=by rw[<-hy,CC b j hjb];exact hb _ (B3 hjb)
    have hxp:x<p:=ha x (At hx)
    have hxa:a.getD j 0=x:=by rw[Ah,hx];rfl
    rw[hy]at hLj hLj'
    have hM:=pJ (M:=M) p k y hp (Bv (BO (Dz hk) (Dz hyp)) (Bv (BO hp1 hp1) (by decide)))
    have hmp:k*y%p<p:=B9 _ hp
    have hA:=bVa (M:=M) p x (k*y%p) hp (by omega) (by omega)
    obtain⟨z,hz⟩:∃z,(x+k*y%p)%p=z:=⟨_,rfl⟩
    rw[hz]at hA
    obtain⟨T,hT⟩:∃T,(adL p a b k).take j++a.drop j=T:=⟨_,rfl⟩
    have hTj:T[j]? = Aa x:=by rw[<-hT,List.getElem?_append_right (by rw[Bt,lU];omega),Bt,lU,Dv (by omega),Dw,List.getElem?_drop,CU];exact hx
    have hT1:T.set j z=(adL p a b k).take (j+1)++a.drop (j+1):=by rw[<-hT,BG,wW hlt,hyb,hxa,hz,DN _ _ (by rw[Bt,lU];omega),Bt,lU,Dv (by omega),Dw,List.drop_eq_getElem_cons hlt,Dg];simp
    rw[hT]at hTl ⊢
    have hTd:=aTd hTj
    have hTd':∀h,(dU T)[j]'h=.i .u64 (x:Al):=λh=>by rw[Ac h]at hTd;injection hTd
    have hdl:(dU T).length=a.length:=by rw[fC];exact hTl
    have hly:lay (DX AV.d (dU T)) j [AV.d (D.i .u64 (z:Al))]=DX AV.d (dU (T.set j z)):=by rw[iU _ _ _ (by omega),bKo]
    obtain⟨T1,hT1e⟩:∃T1,T.set j z=T1:=⟨_,rfl⟩
    rw[hT1e]at hly hT1
    have hw0:Ax.wrap (j:Al)=j:=bP
    have hw1:Ax.wrap ((j:Al)+1)=((j+1:Ae):Al):=bP
    have hj1:j+1<=a.length:=by omega
    have hlt':(j:Al)<(a.length:Al):=by omega
    generalize k*y%p=q at *
    simp[-E,-O,↓KW,atS,hlt,hlt',hjL,hLj,hLj',hw0,hdl,hTd,hTd']
    refine aL hM ?_
    simp[-E,-O,↓KW,hlt,hlt',hw0,hdl,hTd,hTd']
    refine aL hA ?_
    simp[-E,-O,↓KW,hlt,hlt',hw0,hw1,hdl,hTd,hTd',hj1,hly]
    refine bD (j+1) hj1 (by show a.length-(j+1)<a.length-j;omega) ?_
    show ∃ρ,Wk _ (atS _ _ _ _ _ ((adL p a b k).take (j+1)++a.drop (j+1))) ρ
    rw[<-hT1]
    unfold atS
    refine qW ?_ rfl
    simp[-E,upd,bH,Γ0]
   .have hj':j=a.length:=by omega
    have hlt':¬(j:Al)<(a.length:Al):=by omega
    rw[A4 (by rw[lU];omega),List.drop_eq_nil_of_le (by omega),El]
    simp[-E,-O,↓KW,atS,hlt,hlt']
    exact bQ (by simp[-E,-O,↓KW,eQ])
end Go.Am
end
namespace Go.Am
def Cg(p x y:Al):Prop:=∃t:Al,x-y=p*t
def Cg.refl(p x:Al):Cg p x x:=⟨0,by simp⟩
def Cg.symm{p x y:Al}(h:Cg p x y):Cg p y x:=by obtain⟨t,h⟩:=h;exact⟨-t,by rw[Int.mul_neg,<-h];omega⟩
def Cg.trans{p x y z:Al}(h:Cg p x y)(h2:Cg p y z):Cg p x z:=by obtain⟨t,h⟩:=h;obtain⟨u,h2⟩:=h2;exact⟨t+u,by rw[Int.mul_add,<-h,<-h2];omega⟩
def Cg.add{p x y u v:Al}(h:Cg p x y)(h2:Cg p u v):Cg p (x+u) (y+v):=by obtain⟨t,h⟩:=h;obtain⟨s,h2⟩:=h2;exact⟨t+s,by rw[Int.mul_add,<-h,<-h2];omega⟩
def Cg.sub{p x y u v:Al}(h:Cg p x y)(h2:Cg p u v):Cg p (x-u) (y-v):=by obtain⟨t,h⟩:=h;obtain⟨s,h2⟩:=h2;exact⟨t-s,by rw[Int.mul_sub,<-h,<-h2];omega⟩
def Cg.mul{p x y u v:Al}(h:Cg p x y)(h2:Cg p u v):Cg p (x*u) (y*v):=by
 obtain⟨t,h⟩:=h;obtain⟨s,h2⟩:=h2;exact⟨t*u+y*s,by
  have e1:x=y+p*t:=by omega
  have e2:u=v+p*s:=by omega
  subst e1;subst e2;grind⟩
def Cg.emod(p:Al)(x:Al):Cg p (x%p) x:=⟨-(x/p),by have:=Gf x p;rw[Int.mul_neg];omega⟩
def Cg.eq{p x y:Al}(h:Cg p x y):x%p=y%p:=by
 obtain⟨t,h⟩:=h;have e:x=y+p*t:=by omega
 rw[e,Int.add_mul_emod_self_left]
def Cg.modN{p a:Ae}:Cg (p:Al) ((a%p:Ae):Al) (a:Al):=by rw[Int.natCast_emod];exact Cg.emod _ _
def Cg.zero{p x:Al}(h:x%p=0):Cg p x 0:=⟨x/p,by have:=Gf x p;omega⟩
def aWw{p:Al}{x y:Ae->Ae->Al}(h:∀i j,Cg p (x i j) (y i j)):Cg p (iJ x) (iJ y):=by unfold iJ;repeat' (first|exact h _ _|refine Cg.sub ?_ ?_|refine Cg.add ?_ ?_|refine Cg.mul ?_ ?_)
def bQg{a b:Al}(h:(a:Rat)=(b:Rat)):a=b:=by exact_mod_cast h
def bAy(x:Ae->Ae->Al){k a:Ae}(h:k<a)(ha:a<=3):iJ (λi j=>x (swp k a i) j)=- iJ x:=by refine bQg ?_;rw[Rat.intCast_neg,<-lY,<-lY];exact bBa (λi j=>((x i j:Al):Rat)) h ha
def bKf(x:Ae->Ae->Al)(c:Al){k a:Ae}(h:k<a)(ha:a<=3):iJ (λi j=>if i=a then x a j-c*x k j else x i j)=iJ x:=by
 refine bQg ?_;rw[<-lY,<-lY,<-bKh (λi j=>((x i j:Al):Rat)) (c:Rat) h ha];congr 1;funext i j;split
 .rw[Rat.intCast_sub,DR]
 .rfl
def bKe(x:Ae->Ae->Al)(h:∀i j,j<i->i<=3->x i j=0):iJ x=x 0 0*x 1 1*x 2 2*x 3 3:=by refine bQg ?_;rw[<-lY,DR,DR,DR];exact bKg (λi j=>((x i j:Al):Rat)) λi j h1 h2=>by simp[h i j h1 h2]
def bAx(x:Ae->Ae->Al){k:Ae}(hk:k<=3)(h:∀i j,j<i->j<k->i<=3->x i j=0)(h0:∀i,k<=i->i<=3->x i k=0):iJ x=0:=by refine bQg ?_;rw[<-lY];exact bAz (λi j=>((x i j:Al):Rat)) hk (λi j h1 h2 h3=>by simp[h i j h1 h2 h3]) λi h1 h2=>by simp[h0 i h1 h2]
def enN(M:Ad (Ad Ae))(i j:Ae):Ae:=(M.getD i []).getD j 0
def zS(n:Ae)(M:Ad (Ad Ae))(i j:Ae):Al:=if i<n/\j<n then(enN M i j:Al)else if i=j then 1 else 0
def kR{n:Ae}{M:Ad (Ad Ae)}{i j:Ae}(h:i<n/\j<n):zS n M i j=(enN M i j:Al):=AB h
def iM{n:Ae}{M:Ad (Ad Ae)}{i j:Ae}(h:¬(i<n/\j<n)):zS n M i j=if i=j then 1 else 0:=Ap h
def dgI(M:Ad (Ad Ae)):Ae->Al
 |0=>1
 |k+1=>dgI M k*(enN M k k:Al)
def yF{M M':Ad (Ad Ae)}:∀k:Ae,(∀i j,i<k->enN M' i j=enN M i j)->dgI M' k=dgI M k
 |0,_=>rfl
 |k+1,h=>by rw[dgI,dgI,h k k (CM k),yF k λi j hi=>h i j (Nat.lt_succ_of_lt hi)]
def SgM(p:Ae)(n k:Ae)(D:Al)(M:Ad (Ad Ae))(o:Ae):Prop:=∃s:Al,(s=1\/s=-1)/\Cg p o (s*dgI M k)/\Cg p D (s*iJ (zS n M))
def LoM(n k:Ae)(M:Ad (Ad Ae)):Prop:=∀i j,j<k->j<i->i<n->enN M i j=0
def RwM(p n:Ae)(M:Ad (Ad Ae)):Prop:=M.length=n/\∀i,i<n->(M.getD i []).length=n/\∀x∈M.getD i [],x<p
def sY{α:Type}{l:Ad α}{i r:Ae}{x d:α}(hi:i<l.length):(l.set i x).getD r d=if r=i then x else l.getD r d:=by
 rw[Ah,List.getElem?_set];by_cases h:r=i
 .subst h;rw[AB rfl,AB rfl,AB hi];rfl
 .rw[Ap (λe=>h e.symm),Ap h,Ah]
def bEl{p n k:Ae}{D:Al}{o:Ae}{M:Ad (Ad Ae)}(hn:n<=4)(hk:k<n)(h:SgM p n k D M o)(hl:LoM n k M)(h0:∀i,k<=i->i<n->enN M i k=0):D%(p:Al)=0:=by
 obtain⟨s,_,_,h⟩:=h;have:iJ (zS n M)=0:=by
  refine bAx (zS n M) (k:=k) (by omega) (λi j h1 h2 h3=>?_) λi h1 h2=>?_
  .by_cases h:i<n/\j<n
   .rw[kR h,hl i j h2 h1 h.1];rfl
   .rw[iM h,Ap (by omega)]
  .by_cases h:i<n/\k<n
   .rw[kR h,h0 i h1 h.1];rfl
   .rw[iM h,Ap (by omega)]
 rw[this,Int.mul_zero]at h;rw[h.eq];simp
def swM(M:Ad (Ad Ae))(k a:Ae):Ad (Ad Ae):=(M.set k (M.getD a [])).set a (M.getD k [])
def aIe{M:Ad (Ad Ae)}{k a r:Ae}(hk:k<M.length)(ha:a<M.length):(swM M k a).getD r []=if r=a then M.getD k []else if r=k then M.getD a []else M.getD r []:=by unfold swM;rw[sY (by simpa using ha),sY hk]
def bJt{M:Ad (Ad Ae)}{k a:Ae}(hk:k<M.length)(ha:a<M.length)(hka:k≠a)(i j:Ae):enN (swM M k a) i j=enN M (swp k a i) j:=by
 unfold enN swp;rw[aIe hk ha];by_cases h1:i=a
 .rw[AB h1,h1,Ap (λe=>hka e.symm),AB rfl]
 .rw[Ap h1];by_cases h2:i=k
  .rw[AB h2,AB h2]
  .rw[Ap h2,Ap h2,Ap h1]
def bHe{p o:Ae}(hp:0<p)(ho:o<p):Cg p ((0+p-o)%p:Ae) (-(o:Al)):=by refine Cg.modN.trans ⟨1,?_⟩;omega
def bEm{p n k a:Ae}{D:Al}{o:Ae}{M:Ad (Ad Ae)}(hn:n<=4)(hp:0<p)(ho:o<p)(hM:M.length=n)(hk:k<a)(ha:a<n)(h:SgM p n k D M o):SgM p n k D (swM M k a) ((0+p-o)%p):=by
 obtain⟨s,hs,h1,h2⟩:=h;have he:=bJt (M:=M) (k:=k) (a:=a) (by omega) (by omega) (by omega);have hd:iJ (zS n (swM M k a))=- iJ (zS n M):=by
  rw[<-bAy (zS n M) hk (by omega)];congr 1;funext i j;have h1:swp k a i<n↔i<n:=by unfold swp;split<;>(try split)<;>omega
  by_cases h:i<n/\j<n
  .rw[kR h,kR ⟨h1.2 h.1,h.2⟩,he]
  .rw[iM h,iM λh'=>h ⟨h1.1 h'.1,h'.2⟩];by_cases h3:i<n
   .rw[Ap (by omega),Ap (by have:=h1.2 h3;omega)]
   .have:swp k a i=i:=by unfold swp;rw[Ap (by omega),Ap (by omega)]
    rw[this]
 refine⟨-s,by rcases hs with rfl|rfl<;>simp,?_,?_⟩
 .rw[yF (M:=M) (M':=swM M k a) k λi j hi=>by rw[he];unfold swp;rw[Ap (by omega),Ap (by omega)]];refine(bHe hp ho).trans ?_;have:=(Cg.refl (p:Al) 0).sub h1;rw[Int.zero_sub,Int.zero_sub]at this;rwa [Int.neg_mul]
 .rw[hd,Int.neg_mul_neg];exact h2
def bHr{n k a:Ae}{M:Ad (Ad Ae)}(hM:M.length=n)(hk:k<a)(ha:a<n)(h:LoM n k M):LoM n k (swM M k a):=λi j h1 h2 h3=>by
 rw[bJt (by omega) (by omega) (by omega)];unfold swp;split
 .exact h a j h1 (by omega) ha
 .split
  .exact h k j h1 (by omega) (by omega)
  .exact h i j h1 h2 h3
def bFb{p n k a:Ae}{M:Ad (Ad Ae)}(hM:RwM p n M)(hk:k<n)(ha:a<n):RwM p n (swM M k a):=by
 refine⟨by simp[swM,hM.1],λi hi=>?_⟩;rw[aIe (by rw[hM.1];exact hk) (by rw[hM.1];exact ha)];split
 .exact hM.2 k hk
 .split
  .exact hM.2 a ha
  .exact hM.2 i hi
def bPd{p n k:Ae}{D:Al}{o:Ae}{M:Ad (Ad Ae)}(h:SgM p n k D M o):SgM p n (k+1) D M (o*enN M k k%p):=by obtain⟨s,hs,h1,h2⟩:=h;refine⟨s,hs,Cg.modN.trans ?_,h2⟩;rw[dgI,<-Gr,Di];exact h1.mul (Cg.refl _ _)
def bXq{p n k K a:Ae}{D:Al}{o:Ae}{M:Ad (Ad Ae)}(c:Al)(v:Ad Ae)(hn:n<=4)(hM:RwM p n M)(hk:k<a)(ha:a<n)(hK:K<=a)(hv:∀j,j<n->Cg p (v.getD j 0:Ae) ((enN M a j:Al)-c*(enN M k j:Al)))(h:SgM p n K D M o):SgM p n K D (M.set a v) o:=by
 obtain⟨s,hs,h1,h2⟩:=h;have hg:=λr=>sY (l:=M) (i:=a) (r:=r) (x:=v) (d:=[]) (by rw[hM.1];exact ha)
 refine⟨s,hs,?_,?_⟩
 .rw[yF (M:=M) (M':=M.set a v) K λi j hi=>by unfold enN;rw[hg,Ap (by omega)]];exact h1
 .refine h2.trans ((Cg.refl _ _).mul ?_);rw[<-bKf (zS n M) c hk (by omega)];refine(aWw λi j=>?_).symm;by_cases h:i<n/\j<n
  .rw[kR h];unfold enN;rw[hg];by_cases hi:i=a
   .rw[AB hi,AB hi,kR ⟨ha,h.2⟩,kR ⟨by omega,h.2⟩];exact hv j h.2
   .rw[Ap hi,Ap hi,kR h];exact Cg.refl _ _
  .rw[iM h];by_cases hi:i=a
   .subst hi;rw[AB rfl,iM (by omega),iM (by omega),Ap (by omega),Ap (by omega)];exact⟨0,by simp⟩
   .rw[Ap hi,iM h];exact Cg.refl _ _
def bPe{p n:Ae}{D:Al}{o:Ae}{M:Ad (Ad Ae)}(hn:n<=4)(h:SgM p n n D M o)(hl:LoM n n M):Cg p o D:=by
 obtain⟨s,hs,h1,h2⟩:=h;have ht:=bKe (zS n M) λi j h1 h2=>by
  by_cases h:i<n/\j<n
  .rw[kR h,hl i j h.2 h1 h.1];rfl
  .rw[iM h,Ap (by omega)]
 have hd:iJ (zS n M)=dgI M n:=by
  rw[ht];have:n=0\/n=1\/n=2\/n=3\/n=4:=by omega
  rcases this with rfl|rfl|rfl|rfl|rfl<;>simp[zS,dgI]
 rw[hd]at h2;exact h1.trans h2.symm
def fO(p:Ae)(A:Ad (Ad Al)):Ad (Ad Ae):=A.map λv=>v.map λz=>(z%(p:Al)).toNat
def bQa{p n:Ae}{A:Ad (Ad Al)}(hp:0<p)(hA:A.length=n)(hr:∀v∈A,v.length=n):RwM p n (fO p A):=by
 refine⟨by simp[fO,hA],λi hi=>?_⟩;have hg:(fO p A).getD i []=(A[i]'(by omega)).map λz=>(z%(p:Al)).toNat:=by unfold fO;rw[Ah,Ao,Ac (by omega)];rfl
 rw[hg];refine⟨by rw[BV];exact hr _ (B3 _),λx hx=>?_⟩;obtain⟨z,_,rfl⟩:=AY.1 hx;have h1:=En z (b:=(p:Al)) (by omega);have h2:=Int.emod_lt_of_pos z (b:=(p:Al)) (by omega);omega
def aYl{p n:Ae}{A:Ad (Ad Al)}(hp:0<p)(hA:A.length=n):SgM p n 0 (fK n A) (fO p A) 1:=by
 refine⟨1,.inl rfl,by simp[dgI];exact Cg.refl _ _,?_⟩;rw[Int.one_mul];unfold fK;refine aWw λi j=>?_
 by_cases h:i<n/\j<n
 .rw[kR h];unfold aRp;rw[AB h];have hg:enN (fO p A) i j=(((A.getD i []).getD j 0)%(p:Al)).toNat:=by
   unfold enN fO;rw[Ah (l:=DX _ A),Ao,Ah (l:=A)];cases A[i]? with
   |none=>simp
   | some v =>
    simp only[Bj,AQ];rw[Ah,Ao,Ah];cases v[j]? with
    |none=>simp
    |some z=>rfl
  rw[hg,Cj (En _ (by omega))];exact(Cg.emod _ _).symm
 .rw[iM h];unfold aRp;rw[Ap h];exact Cg.refl _ _
open Go Go.Am Go.Proofs
def tR(M:Ad (Ad Ae)):D:=.sl (M.map λv=>[cO v])
def wL(M:Ad (Ad Ae)):∃L,tR M=.sl L/\L.length=M.length/\∀(i:Ae) (v:Ad Ae),M[i]? = Aa v->L[i]? = Aa [cO v]:=⟨_,rfl,by simp,λi v h=>by rw[Ao,h];rfl⟩
def SrR(M:Ad (Ad Ae))(n k c:Ae)(r:Al):Prop:=(r=-1/\∀i,k<=i->i<n->enN M i c=0)\/∃i:Ae,r=i/\k<=i/\i<n/\enN M i c≠0/\∀j,k<=j->j<i->enN M j c=0
def bXk(M:Ad (Ad Ae))(n k c:Ae):∃r,SrR M n k c r:=by
 by_cases h:∃i,k<=i/\i<n/\enN M i c≠0
 .have key:∀m,(∃i,k<=i/\i<n/\enN M i c≠0/\i<k+m)->∃i,k<=i/\i<n/\enN M i c≠0/\∀j,k<=j->j<i->enN M j c=0:=λm=>by
   induction m with
   |zero=>rintro⟨i,h1,_,_,h4⟩;omega
   | succ m ih =>
    rintro⟨i,h1,h2,h3,h4⟩;by_cases h5:∃i,k<=i/\i<n/\enN M i c≠0/\i<k+m
    .exact ih h5
    .exact⟨i,h1,h2,h3,λj hj1 hj2=>CY λhne=>h5 ⟨j,hj1,by omega,hne,by omega⟩⟩
  obtain⟨i,h1,h2,h3⟩:=h;obtain⟨i,h⟩:=key (i+1) ⟨i,h1,h2,h3,by omega⟩;exact⟨i,.inr ⟨i,rfl,h⟩⟩
 .exact⟨-1,.inl ⟨rfl,λi h1 h2=>CY λhne=>h ⟨i,h1,h2,hne⟩⟩⟩
def seS(L:Ad (Ad D))(k c i:Ae):St:=StL [(0,.d (.sl L)),(1,.d (.i .i64 k)),(2,.d (.i .i64 c)),(7,.d (.i .i64 (-1))),(8,.d (.i .i64 (i:Al)))] Aj []
def aQu[M0:Mch Ab](p n k c:Ae)(M:Ad (Ad Ae))(r:Al)(hn:n<=1000)(hM:RwM p n M)(hk:k<=n)(hc:c<n)(hr:SrR M n k c r):Spec Ab 225 [tR M,.i .i64 k,.i .i64 c] (.i .i64 r):=by
 obtain⟨L,hL,hLl,hLg⟩:=wL M;have hMl:=hM.1;have hLn:(L.length:Al)=(n:Al):=by omega
 have hLn':L.length=n:=by omega
 have hm1:Ax.wrap (-1)=-1:=by decide
 rw[hL];refine bU (N:=27) Tryz.func225 ?_;simp[-E,-O,↓KW,hm1];refine bT (τ:=Ae) (λi=>k<=i/\i<=n/\∀j,k<=j->j<i->enN M j c=0) (λi=>seS L k c i) (λi=>n-i) k ⟨AM _,hk,λj h1 h2=>by omega⟩ ?_ ?_
 .unfold seS;refine wkQ [] ?_ ?_<;>simp[-E,upd,bH,Γ0]
 .rintro i ⟨hki,hin,hz⟩;by_cases hlt:i<n
  .obtain⟨v,hv⟩:∃v,M[i]? = Aa v:=⟨_,Ac (by omega)⟩;have hLi:=hLg i v hv;have hLi':=cI hLi;obtain⟨U,hU,hUl,hUg⟩:=wK v;have hgv:M.getD i []=v:=by rw[Ah,hv];rfl
   have hvl:v.length=n:=by have:=(hM.2 i hlt).1;rwa [hgv]at this
   have hcv:c<v.length:=by omega
   have hUc:=hUg c hcv;have hUc':=cI hUc;have hcU:c<U.length:=by omega
   obtain⟨x,hx⟩:∃x,v[c]! = x:=⟨_,rfl⟩;have hen:enN M i c=x:=by unfold enN;rw[hgv,Ah,Ac hcv,<-hx,CC v c hcv];rfl
   rw[hU]at hLi hLi';rw[hx]at hUc hUc';have hw0:Ax.wrap (i:Al)=i:=bP;have hwc:Ax.wrap (c:Al)=c:=bP;have hw1:Ax.wrap ((i:Al)+1)=((i+1:Ae):Al):=bP;have hltI:(i:Al)<(n:Al):=by omega
   by_cases hx0:x=0
   .subst hx0;simp[-E,-O,↓KW,seS,hLn,hLn',hlt,hltI,hLi,hLi',hcU,hUc,hUc',hw0,hwc,hw1];refine bD (i+1) ⟨by omega,by omega,λj h1 h2=>?_⟩ (by show n-(i+1)<n-i;omega) ?_
    .by_cases hj:j=i
     .rw[hj];exact hen
     .exact hz j h1 (by omega)
    .show ∃ρ,Wk _ (seS _ _ _ _) ρ;unfold seS;refine wkQ [] ?_ ?_<;>simp[-E,upd,bH,Γ0]
   .have hx1:((x:Al)==0)=false:=by rw[D6];omega
    have hri:r=i:=by
     rcases hr with ⟨_,h⟩|⟨i',rfl,h1,h2,h3,h4⟩
     .exact absurd (hen ▸ h i hki hlt) hx0
     .rcases Nat.lt_trichotomy i i' with h|h|h
      .exact absurd (hen ▸ h4 i hki h) hx0
      .rw[h]
      .exact absurd (hz i' h1 h) h3
    subst hri;simp[-E,-O,↓KW,seS,hLn,hLn',hlt,hltI,hLi,hLi',hcU,hUc,hUc',hw0,hwc,hx0,hx1];exact bQ (by simp[-E,-O,↓KW])
  .have hltI:¬(i:Al)<(n:Al):=by omega
   have hri:r=-1:=by
    rcases hr with ⟨h,_⟩|⟨i',rfl,h1,h2,h3,h4⟩
    .exact h
    .exact absurd (hz i' h1 (by omega)) h3
   subst hri;simp[-E,-O,↓KW,seS,hLn,hLn',hlt,hltI];exact bQ (by simp[-E,-O,↓KW])
def wJ(l:Ad Ae):∃L,cO l=.sl L/\L.length=l.length/\∀(i n:Ae),l[i]? = Aa n->L[i]? = Aa [.i .u64 (n:Al)]:=⟨_,rfl,by simp,λi n h=>by rw[Ao,h];rfl⟩
def bUu[M:Mch Ab](p x:Ae)(h:x<p):Spec Ab 347 [.i .u64 x,.pt [.i .u64 p]] (.b Az):=by
 have h1:¬(p:Al)<=(x:Al):=by omega
 have h2:¬p<=x:=by omega
 refine bU (N:=7) Tryz.func347 ?_;simp[-E,-O,↓KW,↓aF,↓aA,↓aG,↓aH,h1,h2]
def aSm[M:Mch Ab](p:Ae)(v:Ad Ae)(hv:∀x∈v,x<p)(hl:v.length<=1000000):Spec Ab 371 [cO v,.fn 347 [.pt [.i .u64 p]]] (.i .i64 (-1)):=by
 obtain⟨L,hL,hLl,hLg⟩:=wJ v;have hm1:Ax.wrap (-1)=-1:=by decide
 rw[hL];refine bU (N:=19) Tryz.func371 ?_;simp[-E,-O,↓KW,↓aF,↓aA,↓aG,↓aH];refine eF (λi:Ae=>i<=v.length) (λi=>StL [(0,.d (.sl L)),(1,.d (.fn 347 [.pt [.i .u64 p]])),(7,.d (.i .i64 (L.length:Al))),(8,.d (.i .i64 (i:Al)))] Aj []) (λi=>v.length-i) 0 (BH _) ?_ ?_
 .refine wkQ [] ?_ ?_<;>simp[-E,upd,bH,Γ0]
 .intro i hi;by_cases hgo:i<v.length
  .obtain⟨x,hx⟩:∃x,v[i]? = Aa x:=⟨_,Ac hgo⟩;have hLi:=hLg i x hx;have hLi':=cI hLi;have hiL:i<L.length:=by omega
   have hw:Ax.wrap ((i:Al)+1)=((i+1:Ae):Al):=bP;have hw0:Ax.wrap (i:Al)=i:=bP;have hS:=bUu (M:=M) p x (hv x (At hx));simp[-E,-O,↓KW,↓aF,↓aA,↓aG,↓aH,hiL,hLi,hLi',hw0];refine nO (ds:=[.i .u64 x,.pt [.i .u64 p]]) (by rfl) hS ?_;simp[-E,-O,↓KW,↓aF,↓aA,↓aG,↓aH,hw];refine bD (i+1) hgo (slQ hgo) (wkQ [] ?_ ?_)<;>simp[-E,upd,bH,Γ0]
  .have hiL:¬i<L.length:=by omega
   simp[-E,-O,↓KW,↓aF,↓aA,↓aG,↓aH,hiL,hm1]
def aFg[M:Mch Ab](p:Ae)(v:Ad Ae)(hv:∀x∈v,x<p)(hl:v.length<=1000000):Spec Ab 346 [cO v,.fn 347 [.pt [.i .u64 p]]] (.b Az):=by have hS:=aSm (M:=M) p v hv hl;obtain⟨L,hL,hLl,hLg⟩:=wJ v;rw[hL]at hS ⊢;refine bU (N:=9) Tryz.func346 ?_;simp[-E,-O,↓KW,↓aF,↓aA,↓aG,↓aH];refine aL hS ?_;simp[-E,-O,↓KW,↓aF,↓aA,↓aG,↓aH]
def aTt[M:Mch Ab](p:Ae)(v:Ad Ae)(hv:∀x∈v,x<p)(hl:v.length<=1000000):Spec Ab 285 [.i .u64 p,cO v] (.b Ak):=by have hS:=aFg (M:=M) p v hv hl;obtain⟨L,hL,hLl,hLg⟩:=wJ v;rw[hL]at hS ⊢;refine bU (N:=9) Tryz.func285 ?_;simp[-E,-O,↓KW,↓aF,↓aA,↓aG,↓aH];refine aL hS ?_;simp[-E,-O,↓KW,↓aF,↓aA,↓aG,↓aH]
def tS(p n:Ae)(M:Ad (Ad Ae)):D:=.ag [.i .u64 p,.i .i64 (n:Al),tR M]
def aVv[M0:Mch Ab](p n:Ae)(M:Ad (Ad Ae))(hn:n<=1000)(hM:RwM p n M)(hP:Spec Ab 129 [.i .u64 p] (.b Ak)):Spec Ab 223 [tS p n M] (.b Ak):=by
 obtain⟨L,hL,hLl,hLg⟩:=wL M;have hMl:=hM.1;have hLn:(L.length:Al)=(n:Al):=by omega
 have hLn':L.length=n:=by omega
 have hn0:¬(n:Al)<0:=by omega
 unfold tS;rw[hL];refine bU (N:=34) Tryz.func223 ?_;simp[-E,-O,↓KW];refine aL hP ?_;simp[-E,-O,↓KW,hn0,hLn,hLn'];refine bT (τ:=Ae) (λi=>i<=n) (λi=>StL [(1,.ptr 1 0),(15,.d (.sl L)),(16,.d (.i .i64 n)),(17,.d (.i .i64 (i:Al)))] Aj [.cells 216 [.d (.i .u64 p),.d (.i .i64 n),.d (.sl L)]]) (λi=>n-i) 0 (BH _) ?_ ?_
 .refine wkQ [1] ?_ ?_<;>simp[-E,upd,bH,Γ0]
 .intro i hi;by_cases hlt:i<n
  .obtain⟨v,hv⟩:∃v,M[i]? = Aa v:=⟨_,Ac (by omega)⟩;have hLi:=hLg i v hv;have hLi':=cI hLi;have hiL:i<L.length:=by omega
   have hgv:M.getD i []=v:=by rw[Ah,hv];rfl
   have hMv:=hM.2 i hlt;rw[hgv]at hMv;have hB:=aTt (M:=M0) p v hMv.2 (by omega);obtain⟨U,hU,hUl,_⟩:=wJ v;rw[hU]at hLi hLi' hB;have hUn:(U.length:Al)=(n:Al):=by omega
   have hUn':U.length=n:=by omega
   have hw0:Ax.wrap (i:Al)=i:=bP;have hw1:Ax.wrap ((i:Al)+1)=((i+1:Ae):Al):=bP;have hltI:(i:Al)<(n:Al):=by omega
   simp[-E,-O,↓KW,hlt,hltI,hiL,hLi,hLi',hUn,hUn',hw0];refine aL hB ?_;simp[-E,-O,↓KW,hw1];refine bD (i+1) hlt (by show n-(i+1)<n-i;omega) ?_;show ∃ρ,Wk _ (StL _ _ _) ρ;refine wkQ [1] ?_ ?_<;>simp[-E,upd,bH,Γ0]
  .have hltI:¬(i:Al)<(n:Al):=by omega
   simp[-E,-O,↓KW,hlt,hltI];exact bQ (by simp[-E,-O,↓KW])
def bAe[M:Mch Ab](z:Al)(hl:Sz z):Spec Ab 145 [encZ z] (.b Ak):=by
 have:=bIm (decide (z<0)) (bJ z.natAbs) (Bg hl (by decide));have hc:=mR z.natAbs;unfold rY at hc;cases h:(bJ z.natAbs).getLast? with
 | none =>
  have hz:=lE.1 (List.getLast?_eq_none_iff.1 h);have e:(!decide (z<0))=true:=by simp;omega
  rw[h]at this;have this2:Spec Ab 145 [encI (decide (z<0)) (bJ z.natAbs)] (.b (!decide (z<0))):=this;rw[e]at this2;exact this2
 | some x =>
  rw[h]at hc this;have e:(x != 0)=true:=by simpa using hc
  have this2:Spec Ab 145 [encI (decide (z<0)) (bJ z.natAbs)] (.b (x != 0)):=this;rw[e]at this2;exact this2
def mvB(n c:Ae)(L:Ad (Ad D)):HO:=.cells 31 [.d (.i .i64 n),.d (.i .i64 c),.d (.sl L)]
def aZx[M:Mch Ab](n c:Ae)(A:Ad (Ad Al))(hn:n<=1000)(hc:c<=1000)(hA:A.length=n)(hr:∀v∈A,v.length=c)(hB:∀v∈A,∀z∈v,Sz z):Spec Ab 52 [aWq n c A] (.b Ak):=by
 obtain⟨L,hL,hLl,hLg⟩:∃L,(A.map λv=>[dK v])=L/\L.length=A.length/\∀(i:Ae) (v:Ad Al),A[i]? = Aa v->L[i]? = Aa [dK v]:=⟨_,rfl,by simp,λi v h=>by rw[Ao,h];rfl⟩;have hLn:(L.length:Al)=(n:Al):=by omega
 have hLn':L.length=n:=by omega
 have hn0:¬(n:Al)<0:=by omega
 have hc0:¬(c:Al)<0:=by omega
 unfold aWq;rw[hL];refine bU (N:=46) Tryz.func52 ?_;simp[-E,-O,↓KW,hn0,hc0,hLn,hLn'];refine bT (τ:=Ae) (λi=>i<=n) (λi=>StL [(1,.ptr 1 0),(24,.d (.sl L)),(25,.d (.i .i64 n)),(26,.d (.i .i64 (i:Al)))] Aj [mvB n c L]) (λi=>n-i) 0 (BH _) ?_ ?_
 .refine wkQ [1] ?_ ?_<;>simp[-E,upd,bH,Γ0,mvB]
 .intro i hi;by_cases hlt:i<n
  .obtain⟨v,hv⟩:∃v,A[i]? = Aa v:=⟨_,Ac (by omega)⟩;have hLi:=hLg i v hv;have hLi':=cI hLi;have hiL:i<L.length:=by omega
   have hvm:=At hv;have hvl:=hr v hvm;obtain⟨U,hU,hUl,hUg⟩:=wI v;rw[hU]at hLi hLi';have hUn:(U.length:Al)=(c:Al):=by omega
   have hUn':U.length=c:=by omega
   have hw0:Ax.wrap (i:Al)=i:=bP;have hw1:Ax.wrap ((i:Al)+1)=((i+1:Ae):Al):=bP;have hltI:(i:Al)<(n:Al):=by omega
   simp[-E,-O,↓KW,mvB,hlt,hltI,hiL,hLi,hLi',hUn,hUn',hw0];refine bT (τ:=Ae) (λj=>j<=c) (λj=>StL [(1,.ptr 1 0),(24,.d (.sl L)),(25,.d (.i .i64 n)),(26,.d (.i .i64 (i:Al))),(35,.d (.sl U)),(36,.d (.i .i64 c)),(37,.d (.i .i64 (j:Al)))] Aj [mvB n c L]) (λj=>c-j) 0 (BH _) ?_ ?_
   .refine wkQ [1] ?_ ?_<;>simp[-E,upd,bH,Γ0,mvB]
   .intro j hj;by_cases hgj:j<c
    .obtain⟨z,hz⟩:∃z,v[j]? = Aa z:=⟨_,Ac (by omega)⟩;have hUj:=hUg j z hz;have hUj':=cI hUj;have hjU:j<U.length:=by omega
     have hZ:=bAe (M:=M) z (hB v hvm z (At hz));have hv0:Ax.wrap (j:Al)=j:=bP;have hv1:Ax.wrap ((j:Al)+1)=((j+1:Ae):Al):=bP;have hgI:(j:Al)<(c:Al):=by omega
     simp[-E,-O,↓KW,mvB,hgj,hgI,hjU,hUj,hUj',hv0,bE];refine aL hZ ?_;simp[-E,-O,↓KW,hv1];refine bD (j+1) hgj (by show c-(j+1)<c-j;omega) ?_;show ∃ρ,Wk _ (StL _ _ _) ρ;refine wkQ [1] ?_ ?_<;>simp[-E,upd,bH,Γ0,mvB]
    .have hgI:¬(j:Al)<(c:Al):=by omega
     simp[-E,-O,↓KW,mvB,hgj,hgI];refine bQ ?_;simp[-E,-O,↓KW,hw1];refine bD (i+1) hlt (by show n-(i+1)<n-i;omega) ?_;show ∃ρ,Wk _ (StL _ _ _) ρ;refine wkQ [1] ?_ ?_<;>simp[-E,upd,bH,Γ0,mvB]
  .have hltI:¬(i:Al)<(n:Al):=by omega
   simp[-E,-O,↓KW,mvB,hlt,hltI];exact bQ (by simp[-E,-O,↓KW])
def aNf[M:Mch Ab](n:Ae)(A:Ad (Ad Al))(hn:n<=1000)(hA:A.length=n)(hr:∀v∈A,v.length=n)(hB:∀v∈A,∀z∈v,Sz z):Spec Ab 52 [lC n A] (.b Ak):=aZx n n A hn hn hA hr hB
def lnL(A:Ad (Ad Al)):Ad Al:=A.map λv=>(sqS v:Al)
def bDl(x z:Al)(a:Ad Al):vcs (x::(a++[z]))=vcs (x::a)++[.b (decide (z<0)),aZ (bJ z.natAbs)]:=by rw[<-Cz,bOc,aUu]
def bXn[M:Mch Ab]:Spec Ab 213 [.sl [],lnF] (.tp []):=aCu (by kernel_rfl)
def lgS(n:Ae)(L:Ad (Ad D))(i:Ae):Ad Al->St
 |[]=>StL [(1,.ptr 1 0),(3,.nil),(9,.d (.sl L)),(10,.d (.i .i64 n)),(11,.d (.i .i64 (i:Al)))] Aj [mvB n n L]
 |x::T=>StL [(1,.ptr 1 0),(3,.own 2 0 (T.length+1) 2),(9,.d (.sl L)),(10,.d (.i .i64 n)),(11,.d (.i .i64 (i:Al)))] Aj [mvB n n L,.cells 35 ((vcs (x::T)).map .d)]
def aNk[M:Mch Ab](n:Ae)(A:Ad (Ad Al))(hn:n<=12)(hA:A.length=n)(hr:∀v∈A,v.length<=1000)(hB:∀v∈A,∀z∈v,z.natAbs<=1000000) :
 Spec Ab 112 [lC n A] (dK (kH (lnL A))):=by
 obtain⟨L,hL,hLl,hLg⟩:∃L,(A.map λv=>[dK v])=L/\L.length=A.length/\∀(i:Ae) (v:Ad Al),A[i]? = Aa v->L[i]? = Aa [dK v]:=⟨_,rfl,by simp,λi v h=>by rw[Ao,h];rfl⟩
 have hLn:(L.length:Al)=(n:Al):=by omega
 have hLn':L.length=n:=by omega
 have hsq:∀v∈A,sqS v<=1000*(1000000*1000000):=λv hv=>aBn (hr v hv) (hB v hv)
 have hll:(lnL A).length=n:=by simp[lnL,hA]
 unfold lC
 rw[hL]
 refine bU (N:=29) Tryz.func112 ?_
 simp[-E,-O,↓KW,hLn,hLn']
 refine bT (τ:=Ae) (λi=>i<=n) (λi=>lgS n L i ((lnL A).take i)) (λi=>n-i) 0 (BH _) ?_ ?_
 .rw[Ct]
  show ∃ρ,Wk _ (lgS _ _ _ _) ρ
  unfold lgS
  refine wkQ [1] ?_ ?_<;>simp[-E,upd,bH,Γ0,mvB]
 .intro i hi
  by_cases hlt:i<n
  .obtain⟨v,hv⟩:∃v,A[i]? = Aa v:=⟨_,Ac (by omega)⟩
   have hLi:=hLg i v hv
   have hLi':=cI hLi
   have hiL:i<L.length:=by omega
   have hvm:=At hv
   have hD:=cDy (M:=M) v (hr v hvm) (hB v hvm)
   obtain⟨U,hU⟩:∃U,dK v=.sl U:=⟨_,rfl⟩
   rw[hU]at hLi hLi' hD
   have hw0:Ax.wrap (i:Al)=i:=bP
   have hw1:Ax.wrap ((i:Al)+1)=((i+1:Ae):Al):=bP
   have hltI:(i:Al)<(n:Al):=by omega
   have hT1:(lnL A).take (i+1)=(lnL A).take i++[(sqS v:Al)]:=by rw[BG,lnL,Ao,hv];rfl
   have htl:((lnL A).take i).length=i:=by rw[Bt];omega
   generalize sqS v=q at *
   have hqn:decide ((q:Al)<0)=false:=by simp
   cases hT:(lnL A).take i with
   | nil =>
    have hm1:(1:Ae)<=maxLen:=bY (by decide)
    rw[hT]at hT1
    simp[-E,-O,↓KW,lgS,mvB,hlt,hltI,hiL,hLi,hLi',hw0]
    refine aL hD ?_
    rw[aY q]
    simp[-E,-O,↓KW,hm1,hw1,bE]
    refine bD (i+1) hlt (by show n-(i+1)<n-i;omega) ?_
    show ∃ρ,Wk _ (lgS _ _ _ _) ρ
    rw[hT1]
    show ∃ρ,Wk _ (lgS _ _ _ ((q:Al)::[])) ρ
    unfold lgS
    refine wkQ [1,4] ?_ ?_<;>simp[-E,upd,bH,Γ0,mvB,Ci,cH,aUu,hqn]
   | cons x T =>
    rw[hT]at hT1 htl
    have hbb:(T.length+1)*32<=140737488355328/\T.length+1<=1099511627776/\(T.length+1+1)*32<=140737488355328/\T.length+1+1<=1099511627776:=by simp at htl;omega
    have hvl:=fR (x::T)
    rw[Av]at hvl
    simp[-E,-O,↓KW,lgS,mvB,hlt,hltI,hiL,hLi,hLi',hw0]
    refine aL hD ?_
    rw[aY q]
    simp[-E,-O,↓KW,hbb,bY,hvl,hw1,bE]
    refine bD (i+1) hlt (by show n-(i+1)<n-i;omega) ?_
    show ∃ρ,Wk _ (lgS _ _ _ _) ρ
    rw[hT1]
    show ∃ρ,Wk _ (lgS _ _ _ (x::(T++[(q:Al)]))) ρ
    unfold lgS
    refine wkQ [1,5] ?_ ?_<;>simp[-E,upd,bH,Γ0,mvB,Ci,cH,bDl,hqn]
  .have hiL:¬i<L.length:=by omega
   have hlt2:¬(i:Al)<(n:Al):=by omega
   rw[A4 (show(lnL A).length<=i by omega)]
   have hSz:∀z∈lnL A,Sz z:=λz hz=>by obtain⟨v,hv,rfl⟩:=AY.1 hz;have:=hsq v hv;exact szN (by omega)
   have hlz:(lnL A).length<=12:=by omega
   generalize lnL A=T at *
   cases T with
   | nil =>
    simp[-E,-O,↓KW,lgS,mvB,hlt,hlt2,vI]
    refine bQ ?_
    simp[-E,-O,↓KW,↓aF,↓aA,↓aG,↓aH,vI]
    have h0:dK (kH [])=.sl []:=rfl
    refine xQ (h:=.nil) (ds:=[lnF]) (r:=.tp []) (l:=[]) (by simp) (by rfl) (by rfl) (by rfl) (by rfl) (by rfl) (uW (d:=.sl []) (by rfl) bXn) ?_
    simp[-E,-O,↓KW,h0]
   | cons x T =>
    have hSo:=cCu (M:=M) (x::T) hlz hSz
    have hSl:(kH (x::T)).length=T.length+1:=(sH _).length_eq
    have hlen:(vcs (kH (x::T))).length=(vcs (x::T)).length:=by rw[fR,fR,hSl];rfl
    have e1:=oX hSl
    have e2:=yG hSl
    have e3:=fR (kH (x::T))
    rw[hSl]at e3
    have hno1:=pE 35 (x::T)
    have hno2:=pE 35 (kH (x::T))
    have e4:dK (kH (x::T))=.sl ((kH (x::T)).map qT):=rfl
    rw[show(x::T).length=T.length+1 from rfl]at hSo
    generalize kH (x::T)=S at *
    simp[-E,-O,↓KW,lgS,mvB,hlt,hlt2]
    refine bQ ?_
    simp[-E,-O,↓KW,↓aF,↓aA,↓aG,↓aH,vI]
    refine jP (by simp) ?_
    refine eZ (id:=2) (h:=.own 0 0 (T.length+1) 2) (by rfl) hno1 (by rfl) (by rfl) hSo (by simp[HO.len,hlen]) hno2 ?_
    simp[-E,-O,↓KW,e4,e1,e2,e3]
def yV:∀(a:Ad Ae) (x:Ae),bK (a++[x])=bK a*x
 |[],x=>by simp[bK]
 |y::a,x=>by rw[Cz,bK,bK,yV a x,C7]
def hrS(L:Ad (Ad D))(i q:Ae):St:=StL [(2,.ptr 1 0),(3,.ptr 2 0),(9,.d (.sl L)),(10,.d (.i .i64 (L.length:Al))),(11,.d (.i .i64 (i:Al)))] Aj [.cells 35 [.d (.b Az),.nil],.cells 35 [.d (.b Az),.d (aZ (bJ q))]]
def bFr[M:Mch Ab](l:Ad Al)(B:Ae)(hn:l.length<=12)(h0:∀z∈l,0<=z)(hP:∀i,bK ((l.take i).map Eo)<=B)(hz:∀z∈l,z.natAbs<2^100)(hB:B<2^48) :
 ∃b,bMp (bK (l.map Eo)) b/\Spec Ab 111 [dK l] (cB b):=by
 obtain⟨L,hL,hLl,hLg⟩:=wI l
 rw[hL]
 have hPl:=hP l.length
 rw[List.take_length]at hPl
 obtain⟨r,hr1,hr2,hR⟩:=cCw (M:=M) (a:=bK (l.map Eo)) (by omega)
 refine⟨_,bRz hr1 hr2,?_⟩
 have hO:=mL (M:=M) (n:=1) (by decide)
 have hrr:r<2^48:=by
  rcases Bc r (2^48)with h|h
  .exact h
  .have:=BO h h;omega
 have hrq:r*r<2^48*2^48:=Nat.mul_lt_mul'' hrr hrr
 have hM2:=aJd (M:=M) (x:=r) (y:=r) (by omega) (by omega)
 have hA2:=aKj (M:=M) (x:=r) (y:=1) (by omega) (by omega)
 obtain⟨t,hCm,_,ht⟩:=aAk (M:=M) ((r*r:Ae):Al) ((bK (l.map Eo):Ae):Al) (szN (by omega)) (szN (by omega))
 rw[fQ,fQ]at hCm
 refine bU (N:=34) Tryz.func111 ?_
 simp[-E,-O,↓KW]
 refine aL hO ?_
 rw[aY 1]
 simp[-E,-O,↓KW,bE]
 refine bT (τ:=Ae) (λi=>i<=l.length) (λi=>hrS L i (bK ((l.take i).map Eo))) (λi=>l.length-i) 0 (BH _) ?_ ?_
 .rw[Ct]
  show ∃ρ,Wk _ (hrS _ _ 1) ρ
  unfold hrS
  refine wkQ [1,2] ?_ ?_<;>simp[-E,upd,bH,Γ0]
 .intro i hi
  by_cases hlt:i<l.length
  .obtain⟨z,hge⟩:∃x,l[i]? = Aa x:=⟨_,Ac hlt⟩
   have hzm:=At hge
   have hz0:=h0 z hzm
   have hLi:=hLg i _ hge
   rw[Cn (by omega:¬z<0)]at hLi
   have hLi':=cI hLi
   have hiL:i<L.length:=by omega
   have hPi:=hP i
   have hM:=aJd (M:=M) (x:=bK ((l.take i).map Eo)) (y:=z.natAbs) (by omega) (FD (hz z hzm) (by decide))
   have hT1:bK ((l.take (i+1)).map Eo)=bK ((l.take i).map Eo)*z.natAbs:=by rw[BG,hge,Fi];exact yV _ _
   rw[<-hT1]at hM
   obtain⟨s1,hs1⟩:∃s,bK ((l.take (i+1)).map Eo)=s:=⟨_,rfl⟩
   rw[hs1]at hM
   have hw0:Ax.wrap (i:Al)=i:=bP
   have hw1:Ax.wrap ((i:Al)+1)=((i+1:Ae):Al):=bP
   clear hT1 hPi
   generalize bK ((l.take i).map Eo)=s0 at *
   generalize z.natAbs=q at *
   simp[-E,-O,↓KW,hrS,hiL,hLi,hLi',hw0,bE]
   refine aL hM ?_
   simp[-E,-O,↓KW,aY s1,hw1,bE]
   refine bD (i+1) (by omega) (by show l.length-(i+1)<l.length-i;omega) ?_
   show ∃ρ,Wk _ (hrS _ _ _) ρ
   rw[hs1]
   unfold hrS
   refine wkQ [1,2] ?_ ?_<;>simp[-E,upd,bH,Γ0]
  .have hiL:¬i<L.length:=by omega
   rw[A4 (show l.length<=i by omega)]
   obtain⟨rr,hrr2⟩:∃q,r*r=q:=⟨_,rfl⟩
   rw[hrr2]at hM2 hCm ht ⊢
   generalize bK (l.map Eo)=P at *
   simp[-E,-O,↓KW,hrS,hiL]
   refine bQ ?_
   simp[-E,-O,↓KW,bE]
   refine aL hR ?_
   rw[aY r]
   simp[-E,-O,↓KW,bE]
   refine aL hM2 ?_
   simp[-E,-O,↓KW,aY rr,bE]
   refine aL hCm ?_
   by_cases hc:rr<P
   .have ht1:t<0:=by omega
    rw[AB hc]
    simp[-E,-O,↓KW,ht1,bE]
    refine aL hO ?_
    rw[aY 1]
    simp[-E,-O,↓KW,bE]
    refine aL hA2 ?_
    rw[aY (r+1)]
    simp[-E,-O,↓KW,bE]
   .have ht1:¬t<0:=by omega
    rw[Ap hc,aY r]
    simp[-E,-O,↓KW,ht1,bE]
end Go.Am
namespace Go.Am
def bKj(ops:Aw Bf)(i j:Ae):Bw:=match ops[i]? with|some o=>o.after.any λe=>Region.binds .any e&&e.on==j|none=>Az
def bVz(ops:Aw Bf):Bw:=(AW ops.size).all λi=>match ops[i]? with|some o=>o.after.all λe=>!Region.binds .any e||decide (e.on<i)|none=>Ak
def unl(l:Aw Bw):Ae:=l.toList.count Az
def bOh{l:Aw Bw}{i:Ae}:l.getD i Ak=Az↔l.toList[i]? = Aa false:=by
 rw[Au,Bq];cases l[i]? with
 |none=>simp
 |some b=>simp
def bOg{l:Aw Bw}{i:Ae}(h:l.getD i Ak=Az):unl (l.setIfInBounds i Ak)<unl l:=by rw[bOh]at h;unfold unl;obtain⟨hi,he⟩:=AA.1 h;have h1:0<l.toList.count false:=List.count_pos_iff.2 (At h);rw[Array.toList_setIfInBounds,List.count_set hi,he,AB (by rfl),Ap (by decide)];omega
def bDo{l:Aw Bw}(h:unl l=0)(i:Ae)(hi:i<l.size):l.getD i Az=true:=by
 unfold unl at h;rw[List.count_eq_zero]at h;rw[Au,Ar hi,AQ];cases hb:l[i]with
 |true=>rfl
 |false=>exact absurd (by rw[<-hb];simp) h
def bAl{l:Aw Bw}{i:Ae}(hi:i<l.size)(h:¬l.getD i Ak=Az):l.getD i Az=true:=by rw[Au,Ar hi,AQ]at h ⊢;simpa using h
section
variable {P:As} [M:Mch P] {ops:Aw Bf} {k:St->Prop}
end
open Go.Conc
inductive Dl(P:As)(main:Bw)(I:Ag->Prop)(Rm:C5->Prop)(K:Ae->Ay->Prop):Ae->Ay->Prop
 |here {d:Ae} {g:Ay} (h:K d g):Dl P main I Rm K d g
 |step {d:Ae} {g g':Ay} {es:Aw C5} (hs:g.status=.running) (hm:∀e∈es,ER e=Ak\/Rm e) (h:∀w,I w->stepG P main g w=.go g' w es) (hq:Dl P main I Rm K (deafBehind d es) g'):Dl P main I Rm K d g
section
variable {P:As} {main:Bw} {I:Ag->Prop} {Rm:C5->Prop} {K:Ae->Ay->Prop} {b:BU} {a:Act} {k:Ad Item} {cs:Ad BU} {d:Ae}
def Dl.ctl{g g':Ay}(hs:g.status=.running)(h:∀w,I w->stepG P main g w=.go g' w)(hq:Dl P main I Rm K d g'):Dl P main I Rm K d g:=.step hs (by simp) h hq
def aJ{ops:Aw Bf}{i:Ae}{rest:Ad Ae}{o:Bf}(v:AE)(ho:ops[i]? = Aa o)(hw:Bu o (yielded ops a.tmps)=Ak)(hk:b.kind≠.early)
 (hr:∀w,I w->(execOp a.eval o).run P w=.ok (.value v) w) (he:∀w,I w->(execOp a.eval o).events P w #[]=#[])
 (hq:Dl P main I Rm K d (G (b.at (a.put o.dst v) (.inRegion ops rest::k)) cs)):Dl P main I Rm K d (G (b.at a (.inRegion ops (i::rest)::k)) cs) :=
 .ctl rfl (λw hI=>by rw[stepG_value ho hw hk (hr w hI)];unfold listed;rw[he w hI,seen_none]) hq
def aS{ops:Aw Bf}{i:Ae}{rest:Ad Ae}{o:Bf}(ho:ops[i]? = Aa o)(hw:Bu o (yielded ops a.tmps)=Az)
 (hq:Dl P main I Rm K d (G (b.at (a.put o.dst undef) (.inRegion ops rest::k)) cs)):Dl P main I Rm K d (G (b.at a (.inRegion ops (i::rest)::k)) cs) :=
 .ctl rfl (λ_ _=>stepG_unwanted ho hw) hq
def Dl.enter{ops:Aw Bf}{i:Ae}{rest:Ad Ae}{o:Bf}{f:AU}{args:Aw AE}(ho:ops[i]? = Aa o)(hw:Bu o (yielded ops a.tmps)=Ak)(hk:b.kind≠.early)
 (hr:∀w,I w->(execOp a.eval o).run P w=.ok (.enter f args) w) (he:∀w,I w->(execOp a.eval o).events P w #[]=#[])
 (hq:Dl P main I Rm K d (G (Dt P f args .normal) (b.at a (.inRegion ops (i::rest)::k)::cs))):Dl P main I Rm K d (G (b.at a (.inRegion ops (i::rest)::k)) cs) :=
 .ctl rfl (λw hI=>by rw[stepG_enter ho hw hk (hr w hI)];unfold listed;rw[he w hI,seen_none]) hq
def dM{fn:Func}{todo:Ad Item}{b₀:BU}{a₀:Act}{ops:Aw Bf}{i:Ae}{rest:Ad Ae}(hn:b.kind=.normal)(hd:a.defers=[])(hf:P.funcs[b.fn]? = Aa fn)(hr:fn.results=#[])
 (hq:Dl P main I Rm K d (G (b₀.at (a₀.put ((ops[i]?).bind (·.dst)) (.tuple #[])) (.inRegion ops rest::k)) cs)) :
 Dl P main I Rm K d (G { b.at a todo with mode:=.returning } (b₀.at a₀ (.inRegion ops (i::rest)::k)::cs)) :=
 .ctl rfl (λw _=>by rw[stepG_leave hn hd hf (results_none hr _ P w) (events_results_none hr _ _),Ek]) hq
def cP{fn:Func}{todo:Ad Item}{b₀:BU}{a₀:Act}{ops:Aw Bf}{i:Ae}{rest:Ad Ae}{t:Tmp}(hn:b.kind=.normal)(hd:a.defers=[])(hf:P.funcs[b.fn]? = Aa fn)(hr:fn.results=#[.tmp t])
 (hq:Dl P main I Rm K d (G (b₀.at (a₀.put ((ops[i]?).bind (·.dst)) (a.tmps.getD t undef)) (.inRegion ops rest::k)) cs)) :
 Dl P main I Rm K d (G { b.at a todo with mode:=.returning } (b₀.at a₀ (.inRegion ops (i::rest)::k)::cs)) :=
 .ctl rfl (λw _=>by rw[stepG_leave hn hd hf (results_tmp hr _ P w) (events_results_tmp hr _ _),Ek]) hq
def dE{ops:Aw Bf}{i:Ae}{rest:Ad Ae}{o:Bf}{f:AU}{fn:Func}{c:B1}{args:Aw AN}{ats:Aw AF}
 (ho:ops[i]? = Aa o) (hw:Bu o (yielded ops a.tmps)=Ak) (hk:b.kind≠.early) (hop:o.op=.call { callee:=.value (.func f),args,argTypes:=ats })
 (hf:P.funcs[f]? = Aa fn) (hname:(fn.name == "runtime.NumGoroutine")=Az) (hb:fn.body=Aa c)
 (hq:Dl P main I Rm K d (G ((base f).at { tmps:=args.map a.eval++Bd (fn.ntmps-(args.map a.eval).size) undef,defers:=[] } [.code c]) (b.at a (.inRegion ops (i::rest)::k)::cs))) :
 Dl P main I Rm K d (G (b.at a (.inRegion ops (i::rest)::k)) cs):=by
 have hb':fn.body.isNone=false:=by rw[hb];rfl
 refine .ctl rfl (λw _=>?_) hq
 rw[stepG_enter ho hw hk (run_call_body hop hf hname hb'),enter_at _ hf hb]
 have:listed P b.fn a o w=#[]:=by unfold listed;rw[events_call_body hop hf hname hb'];exact seen_none P _
 rw[this]
def dI{fn:Func}{f:AU}{todo:Ad Item}{ds:Ad Cl}(m:Mark)(hm:ER ⟨.mark m,Az,Ak⟩=Ak)(hx:∀g,m≠.extern g)(hd:a.defers=dcall f #[]::ds)
 (hf:P.funcs[f]? = Aa fn) (hname:(fn.name == "runtime.NumGoroutine")=Az) (hb:fn.body.isNone=Ak) (hn:Extern.findNext fn=Aj)
 (he:Extern.find fn=Aa (λ_=>do mark m;pure Extern.Race.none_))
 (hq:Dl P main I Rm K (deafBehind d #[⟨.mark m,Az,Ak⟩]) (G { b.at ⟨a.tmps,ds⟩ todo with mode:=.returning } cs)):Dl P main I Rm K d (G { b.at a todo with mode:=.returning } cs) :=
 .step rfl (by intro e h;simp at h;subst h;exact .inl hm) (λw _=>stepG_unwind_entry (v:=.tuple #[]) hd hf hname hb hn he (by simp[Extern.Race.none_]) (by simp) (by
  intro x hx';simp at hx';subst hx';exact⟨rfl,λg h=>hx g (Loc.mark.inj h)⟩)) hq
def Dl.leaveD{fn:Func}{todo:Ad Item}{c:BU}(hn:b.kind=.deferred)(hd:a.defers=[])(hf:P.funcs[b.fn]? = Aa fn)(hr:fn.results=#[])(hc:c.mode=.returning)
 (hq:Dl P main I Rm K d (G c cs)):Dl P main I Rm K d (G { b.at a todo with mode:=.returning } (c::cs)) :=
 .ctl rfl (λw _=>stepG_leave_deferred hn hd hf (results_none hr _ P w) (events_results_none hr _ _) hc) hq
def Dl.done(h:Dl P main I Rm K d (G { b.at a []with mode:=.returning } cs)):Dl P main I Rm K d (G (b.at a []) cs):=.ctl rfl (λ_ _=>stepG_end) h
def bB{x y:B1}(h:Dl P main I Rm K d (G (b.at a (.code x::.code y::k)) cs)):Dl P main I Rm K d (G (b.at a (.code (.seq x y)::k)) cs):=.ctl rfl (λ_ _=>stepG_seq) h
def aV(h:Dl P main I Rm K d (G (b.at a k) cs)):Dl P main I Rm K d (G (b.at a (.code .skip::k)) cs):=.ctl rfl (λ_ _=>stepG_skip) h
def aN{id:Ae}{ops:Aw Bf}(h:Dl P main I Rm K d (G (b.at a (.inRegion ops (AW ops.size)::k)) cs)):Dl P main I Rm K d (G (b.at a (.code (.region id ops Az)::k)) cs):=.ctl rfl (λ_ _=>stepG_region) h
def aC{ops:Aw Bf}(h:Dl P main I Rm K d (G (b.at a k) cs)):Dl P main I Rm K d (G (b.at a (.inRegion ops []::k)) cs):=.ctl rfl (λ_ _=>stepG_region_end) h
def aOr{c:AN}{x y:B1}(t:Bw)(hc:a.eval c=.bool t)(h:Dl P main I Rm K d (G (b.at a (.code (if t then x else y)::k)) cs)):Dl P main I Rm K d (G (b.at a (.code (.cond c x y)::k)) cs):=.ctl rfl (λ_ _=>stepG_cond hc) h
def aO{id:Ae}{c:B1}(h:Dl P main I Rm K d (G (b.at a (.code c::.inBlock id::k)) cs)):Dl P main I Rm K d (G (b.at a (.code (.block id c)::k)) cs):=.ctl rfl (λ_ _=>stepG_block) h
def aI{id:Ae}(h:Dl P main I Rm K d (G (b.at a k) cs)):Dl P main I Rm K d (G (b.at a (.inBlock id::k)) cs):=.ctl rfl (λ_ _=>stepG_inBlock) h
def aW{c:B1}(h:Dl P main I Rm K d (G (b.at a (.code c::.inLoop c::k)) cs)):Dl P main I Rm K d (G (b.at a (.code (.loop c)::k)) cs):=.ctl rfl (λ_ _=>stepG_loop) h
def aK{c:B1}(h:Dl P main I Rm K d (G (b.at a (.code c::.inLoop c::k)) cs)):Dl P main I Rm K d (G (b.at a (.inLoop c::k)) cs):=.ctl rfl (λ_ _=>stepG_inLoop) h
def aOf{id:Ae}{k':Ad Item}(hx:exitTo id k=Aa k')(h:Dl P main I Rm K d (G (b.at a k') cs)):Dl P main I Rm K d (G (b.at a (.code (.exit id)::k)) cs):=.ctl rfl (λ_ _=>stepG_exit hx) h
def aQ{c:AN}{x y:B1}(h:Dl P main I Rm K d (G (b.at a (.code x::k)) cs))(hc:a.eval c=.bool true:=by with_unfolding_all rfl):Dl P main I Rm K d (G (b.at a (.code (.cond c x y)::k)) cs):=.ctl rfl (λ_ _=>stepG_cond hc) h
def aR{c:AN}{x y:B1}(h:Dl P main I Rm K d (G (b.at a (.code y::k)) cs))(hc:a.eval c=.bool false:=by with_unfolding_all rfl):Dl P main I Rm K d (G (b.at a (.code (.cond c x y)::k)) cs):=.ctl rfl (λ_ _=>stepG_cond hc) h
def aP{id:Ae}{k':Ad Item}(h:Dl P main I Rm K d (G (b.at a k') cs))(hx:exitTo id k=Aa k':=by with_unfolding_all rfl):Dl P main I Rm K d (G (b.at a (.code (.exit id)::k)) cs):=aOf hx h
def bC(h:Dl P main I Rm K d (G { b.at a (.code .ret::k)with mode:=.returning } cs)):Dl P main I Rm K d (G (b.at a (.code .ret::k)) cs):=.ctl rfl (λ_ _=>stepG_ret') h
def DlN(P:As)(main:Bw)(I:Ag->Prop)(Rm:C5->Prop)(K:Ae->Ay->Prop):Ae->Ae->Ay->Prop
 |0,d,g=>K d g
 |n+1,d,g=>K d g\/(g.status=.running/\∃g' es,(∀e∈es,ER e=Ak\/Rm e)/\(∀w,I w->stepG P main g w=.go g' w es)/\DlN P main I Rm K n (deafBehind d es) g')
def Dl.count{g:Ay}(h:Dl P main I Rm K d g):∃n,DlN P main I Rm K n d g:=by
 induction h with
 |here h=>exact⟨0,h⟩
 |step hs hm h _ ih=>obtain⟨n,ih⟩:=ih;exact⟨n+1,.inr ⟨hs,_,_,hm,h,ih⟩⟩
def DlN.cases{n:Ae}{g:Ay}(h:DlN P main I Rm K n d g):K d g\/∃m,n=m+1/\g.status=.running/\∃g' es,(∀e∈es,ER e=Ak\/Rm e)/\(∀w,I w->stepG P main g w=.go g' w es)/\DlN P main I Rm K m (deafBehind d es) g':=by
 cases n with
 |zero=>exact .inl h
 |succ n=>exact h.imp id λx=>⟨n,rfl,x⟩
def Dl.mono{K':Ae->Ay->Prop}(hK:∀d g,K d g->K' d g){g:Ay}(h:Dl P main I Rm K d g):Dl P main I Rm K' d g:=by
 induction h with
 |here h=>exact .here (hK _ _ h)
 |step hs hm h _ ih=>exact .step hs hm h ih
def Dl.bind{K':Ae->Ay->Prop}(hK:∀d g,K d g->Dl P main I Rm K' d g){g:Ay}(h:Dl P main I Rm K d g):Dl P main I Rm K' d g:=by
 induction h with
 |here h=>exact hK _ _ h
 |step hs hm h _ ih=>exact .step hs hm h ih
def Dl.quits{g:Ay}(h:Dl P Az (λ_=>True) (λ_=>False) (λd g=>∃n,QuitsD P n d g) d g):∃n,QuitsD P n d g:=by
 induction h with
 |here h=>exact h
 |step hs hm h _ ih=>obtain⟨n,ih⟩:=ih;exact⟨n+1,.inr ⟨hs,_,_,λe he=>(hm e he).resolve_right id,λw=>h w trivial,ih⟩⟩
end
end Go.Am
namespace Go.Am
open Go.Conc
inductive Tr where
 |leaf
 |node (f:Ag×Ag->Tr)
def uP(a b:Tr):Prop:=∃f p,b=.node f/\a=f p
def aLg(t:Tr):Acc uP t:=by
 induction t with
 |leaf=>exact⟨_,λy ⟨f,p,h,_⟩=>by cases h⟩
 |node f ih=>exact⟨_,λy ⟨g,p,h,e⟩=>by cases h;exact e ▸ ih p⟩
def Tr.nat:Ae->Tr
 |0=>.leaf
 |n+1=>.node λ_=>Tr.nat n
def sD(f:Ag×Ag->Tr)(p:Ag×Ag):uP (f p) (.node f):=⟨f,p,rfl,rfl⟩
def jI(n:Ae):uP (Tr.nat n) (Tr.nat (n+1)):=⟨_,default,rfl,rfl⟩
def Tr.up(t:Tr):Tr:=.node λ_=>t
structure aEi(Rm:C5->Prop)(v w v' w':Ag)(es:Aw C5):Prop where
 sim:Sim v' w'
 ok:OkV v'
 ext:Ext v v'
 rest:yQ v w w'
 evs:∀e∈es,EvV v' e\/ER e=Ak\/Rm e
def yO.q{Rm:C5->Prop}{v w v' w':Ag}{es:Aw C5}(h:yO v w v' w' es):aEi Rm v w v' w' es:=⟨h.sim,h.ok,h.ext,h.rest,λe he=>.inl (h.evs e he)⟩
def GT(P:As)(main:Bw)(I:Ag->Prop)(Rm:C5->Prop)(Stop:Ae->Ay->Ag->Prop):Tr->Ae->Ay->Ag->Prop
 |.leaf,d,g,v=>Stop d g v
 | .node f,d,g,v=>g.status=.running/\OkV v/\∀v1 w,Env v v1->Sim v1 w->I w ->
    ∃g' v' w' es,stepG P main g w=.go g' w' es/\aEi Rm v1 w v' w' es/\GT P main I Rm Stop (f (v1,w)) (deafBehind d es) g' v'
def bCf(Stop:Ae->Ay->Ag->Prop):Prop:=∀d g v v1,Stop d g v->Env v v1->Stop d g v1
def bTh{v:Ag}{e:C5}(h:EvV v e):e.loc≠.mark .disable/\e.loc≠.mark .enable:=by
 rcases h with ⟨a,c,t,f,h1,_⟩|⟨r,o,h1,_⟩|rfl
 . rw[h1];exact⟨by simp,by simp⟩
 . rw[h1];exact⟨by simp,by simp⟩
 . exact⟨by simp,by simp⟩
section
variable {P:As} {main:Bw} {I:Ag->Prop} {Rm:C5->Prop} {Stop:Ae->Ay->Ag->Prop}
def GT.env(hS:bCf Stop){tr:Tr}{d:Ae}{g:Ay}{v v1:Ag}(h:GT P main I Rm Stop tr d g v)(he:Env v v1):GT P main I Rm Stop tr d g v1:=by
 cases tr with
 |leaf=>exact hS _ _ _ _ h he
 |node f=>exact⟨h.1,he.okV h.2.1,λv2 w he2 hs hi=>h.2.2 v2 w (he.trans he2) hs hi⟩
def GoW(P:As)(main:Bw)(I:Ag->Prop)(Rm:C5->Prop)(Stop:Ae->Ay->Ag->Prop)(g:Ay)(v:Ag):Prop:=∃tr,GT P main I Rm Stop tr 0 g v
def aGu{d:Ae}{g:Ay}{v:Ag}(hr:g.status=.running)(hv:OkV v)
 (h:∀v1 w,Env v v1->Sim v1 w->I w->∃g' v' w' es,stepG P main g w=.go g' w' es/\aEi Rm v1 w v' w' es/\∃tr,GT P main I Rm Stop tr (deafBehind d es) g' v'):∃tr,GT P main I Rm Stop tr d g v:=by
 classical
 have h':∀p:Ag×Ag,∃tr:Tr,Env v p.1->Sim p.1 p.2->I p.2->∃g' v' w' es,stepG P main g p.2=.go g' w' es/\aEi Rm p.1 p.2 v' w' es/\GT P main I Rm Stop tr (deafBehind d es) g' v':=by
  intro p;by_cases hp:Env v p.1/\Sim p.1 p.2/\I p.2
  . obtain⟨g',v',w',es,h1,h2,tr,h3⟩:=h p.1 p.2 hp.1 hp.2.1 hp.2.2
    exact⟨tr,λ_ _ _=>⟨g',v',w',es,h1,h2,h3⟩⟩
  . exact⟨.leaf,λa b c=>(hp ⟨a,b,c⟩).elim⟩
 obtain⟨F,hF⟩:=Hc h'
 exact⟨.node F,hr,hv,λv1 w he hs hi=>hF (v1,w) he hs hi⟩
def aSp(hS:bCf Stop):aKr P main (GoW P main I Rm Stop) where
 env h he:=by obtain⟨tr,h⟩:=h;exact⟨tr,h.env hS he⟩
 step {g v} hr hv h:=aGu hr hv λv1 w he hs hi=>by obtain⟨g',v',w',es,h1,h2,tr,h3⟩:=h v1 w he hs;exact⟨g',v',w',es,h1,h2.q,tr,by rw[deafBehind_still λe hx=>bTh (h2.evs e hx)];exact h3⟩
@[instance_reducible]def eX(P:As)(main:Bw):Mch P where
 main:=main
 Fam Win:=(∃I Rm Stop,bCf Stop/\Win=GoW P main I Rm Stop)\/Win=λ_ _=>False
 closed h:=by
  rcases h with ⟨I,Rm,Stop,hS,rfl⟩|rfl
  . exact aSp hS
  . exact yZ main
 none:=.inr rfl
def Dl.gt{K:Ae->Ay->Prop}{d:Ae}{g:Ay}(h:Dl P main I Rm K d g):∀{v:Ag},OkV v->(∀d g v1,Env v v1->K d g->∃tr,GT P main I Rm Stop tr d g v1)->∃tr,GT P main I Rm Stop tr d g v:=by
 induction h with
 |here h=>exact λ_ hK=>hK _ _ _ (.refl _) h
 | step hs hm h _ ih =>
   intro v hv hK;exact aGu hs hv λv1 w he hsim hi=>⟨_,v1,w,_,h w hi,⟨hsim,he.okV hv,.refl _,.refl _ _,λe hx=>.inr (hm e hx)⟩,ih (he.okV hv) λd g v2 he2 hk=>hK d g v2 (he.trans he2) hk⟩
end
def Unf(v:Ag)(b:Ae):Prop:=∃o,v.heap[b]? = Aa o/\∀c t,o≠DM c t (0,c.size)
def rV(v:Ag)(b:Ae):Prop:=∃c t,v.heap[b]? = Aa (.cells c t (0,c.size))
def uK{v:Ag}{b:Ae}(h:v.heap[b]? = Aa hole):rV v b:=⟨#[],0,h⟩
def rV.not_unf{v:Ag}{b:Ae}(h:rV v b):¬Unf v b:=by obtain⟨c,t,h⟩:=h;rintro⟨o,ho,hn⟩;rw[h]at ho;exact hn c t (BC ho).symm
def lS{v:Ag}{b:Ae}(h:v.heap[b]? = Aa hole):¬Unf v b:=(uK h).not_unf
def aHz{v:Ag}{b:Ae}(h:b<v.heap.size):rV v b\/Unf v b:=by
 classical
 by_cases hw:rV v b
 .exact .inl hw
 .exact .inr ⟨_,Ar h,λc t e=>hw ⟨c,t,by rw[Ar h,e]⟩⟩
def jD(v w':Ag):World:={ v with heap:=v.heap++Bd (w'.heap.size-v.heap.size) hole,drawn:=w'.drawn }
def cL(v w':Ag):Env v (jD v w'):=⟨rfl,rfl,rfl,_,rfl⟩
def aDa{v w':Ag}(h:v.heap.size<=w'.heap.size):(jD v w').heap.size=w'.heap.size:=by simp[jD];omega
def sX{v w':Ag}{b:Ae}(h:b<v.heap.size):(jD v w').heap[b]? = v.heap[b]? := (cL v w').get h
def yA{v w':Ag}{b:Ae}(h:v.heap.size<=b){o:Obj}(ho:(jD v w').heap[b]? = Aa o):o=hole:=by simp only[jD]at ho;rw[Cu h]at ho;have:=B7 ho;rw[Array.mem_replicate]at this;exact this.2
def aGv{v w':Ag}{b:Ae}:Unf (jD v w') b↔Unf v b:=by
 constructor
 .rintro⟨o,ho,hn⟩;rcases Bc b v.heap.size with h|h
  .exact⟨o,by rw[<-sX h];exact ho,hn⟩
  .exact absurd (yA h ho) (by rintro rfl;exact hn #[] 0 rfl)
 .rintro⟨o,ho,hn⟩;exact⟨o,by rw[sX (bL ho)];exact ho,hn⟩
def mM{v w':Ag}{b:Ae}(h:v.heap[b]? = Aa hole):(jD v w').heap[b]? = Aa hole:=by rw[sX (bL h)];exact h
structure dZ(v v':Ag):Prop where
 size:v.heap.size<=v'.heap.size
 unf:∀b,b<v.heap.size->(Unf v' b↔Unf v b)
 whole:∀b c t,b<v.heap.size->(v'.heap[b]? = Aa (.cells c t (0,c.size))↔v.heap[b]? = Aa (.cells c t (0,c.size)))
 tape:v'.tape=v.tape
 os:v'.os=v.os
 output:v'.output=v.output
def dZ.of_env{v v':Ag}(h:Env v v'):dZ v v':=⟨h.size,λb hb=>by simp only[Unf,h.get hb],λb c t hb=>by rw[h.get hb],h.tape,h.os,h.output⟩
def dZ.of_ext{v v':Ag}(h:Ext v v')(hv:OkV v):dZ v v':=by
 have key:∀(b:Ae) (o:Obj),v.heap[b]? = Aa o->(∃(c:Aw AE) (t:AF) (f:Ae×Ae),o=DM c t f/\∃c':Aw AE,v'.heap[b]? = Aa (DM c' t f)/\c'.size=c.size/\(f=(0,c.size)->c'=c))\/((∀(c:Aw AE) (t:AF) (f:Ae×Ae),o≠DM c t f)/\∃o':Obj,v'.heap[b]? = Aa o'/\∀(c:Aw AE) (t:AF) (f:Ae×Ae),o'≠DM c t f):=by
  intro b o hb;by_cases hc:∃(c:Aw AE) (t:AF) (f:Ae×Ae),o=DM c t f
  .obtain⟨c,t,f,rfl⟩:=hc;exact .inl ⟨c,t,f,rfl,h.cells b c t f hb⟩
  .have hc':∀c t f,o≠DM c t f:=λc t f e=>hc ⟨c,t,f,e⟩
   obtain⟨o',h1,h2,_⟩:=h.other b o hb hc' (hv b o hb);exact .inr ⟨hc',o',h1,h2⟩
 refine⟨h.size,λb hb=>?_,λb c t hb=>?_,h.tape,h.os,h.output⟩
 .obtain⟨o,ho⟩:∃o,v.heap[b]? = Aa o:=⟨_,Ar hb⟩;rcases key b o ho with ⟨c,t,f,rfl,c',h1,h2,h3⟩|⟨h1,o',h2,h3⟩
  .constructor
   .rintro⟨o,ho',hn⟩;rw[h1]at ho';obtain rfl:=BC ho';refine⟨_,ho,λc2 t2 e=>?_⟩;injection e with e1 e2 e3;subst e1;subst e3
    have:=h3 rfl;subst this;exact hn _ _ rfl
   .rintro⟨o,ho',hn⟩;rw[ho]at ho';obtain rfl:=BC ho';refine⟨_,h1,λc2 t2 e=>?_⟩;injection e with e1 e2 e3;subst e1;subst e3
    exact hn c t (by rw[h2])
  .exact⟨λ_=>⟨o,ho,λc t=>h1 c t _⟩,λ_=>⟨o',h2,λc t=>h3 c t _⟩⟩
 .obtain⟨o,ho⟩:∃o,v.heap[b]? = Aa o:=⟨_,Ar hb⟩;rcases key b o ho with ⟨c0,t0,f,rfl,c',h1,h2,h3⟩|⟨h1,o',h2,h3⟩
  .rw[h1,ho];constructor
   .intro e;injection e with e;injection e with e1 e2 e3;subst e1;subst e2;subst e3
    have:=h3 (by rw[h2]);subst this;rfl
   .intro e;injection e with e;injection e with e1 e2 e3;subst e1;subst e2;subst e3
    have:=h3 rfl;subst this;rfl
  .rw[h2,ho];constructor
   .intro e;exact absurd (BC e) (h3 _ _ _)
   .intro e;exact absurd (BC e) (h1 _ _ _)
def dZ.trans{v v1 v2:Ag}(h:dZ v v1)(k:dZ v1 v2):dZ v v2 :=
 ⟨Bg h.size k.size,λb hb=>(k.unf b (Be hb h.size)).trans (h.unf b hb),λb c t hb=>(k.whole b c t (Be hb h.size)).trans (h.whole b c t hb),k.tape.trans h.tape,k.os.trans h.os,k.output.trans h.output⟩
def dZ.hole{v v':Ag}(h:dZ v v'){b:Ae}(hb:v.heap[b]? = Aa hole):v'.heap[b]? = Aa hole:=(h.whole b #[] 0 (bL hb)).2 hb
def dZ.whole'{v v':Ag}(h:dZ v v'){b:Ae}(hb:rV v b):rV v' b:=by obtain⟨c,t,hb⟩:=hb;exact⟨c,t,(h.whole b c t (bL hb)).2 hb⟩
structure Vws(A:Ae->Prop)(V:Ae->Ag)(w:Ag):Prop where
 sim:∀k,A k->Sim (V k) w
 ok:∀k,A k->OkV (V k)
 dis:∀k k',A k->A k'->k≠k'->∀b,Unf (V k) b->(V k').heap[b]? = Aa hole
def aEy(V:Ae->Ag)(k:Ae)(v' w':Ag)(x:Ae):World:=if x=k then v' else jD (V x) w'
def lX(V:Ae->Ag)(k:Ae)(v' w':Ag):aEy V k v' w' k=v':=by simp[aEy]
def pB(V:Ae->Ag){k x:Ae}(v' w':Ag)(h:x≠k):aEy V k v' w' x=jD (V x) w':=by simp[aEy,h]
def aGw{v w w':Ag}(h:Sim v w)(hsz:w.heap.size<=w'.heap.size)(ht:w'.tape=w.tape)(ho:w'.os=w.os)(hp:w'.output=w.output)
 (hb:∀(b:Ae) (o:Obj),v.heap[b]? = Aa o->o≠hole->w'.heap[b]? = w.heap[b]?):Sim (jD v w') w':=by
 have hs:v.heap.size=w.heap.size:=h.size
 refine⟨by simp[jD,h.tape,ht],rfl,by simp[jD,h.os,ho],by simp[jD,h.output,hp],aDa (by omega),λb o hx=>?_⟩
 rcases Bc b v.heap.size with hlt|hge
 .rw[sX hlt]at hx
  by_cases e:o=hole
  .exact .inl e
  .rw[hb b o hx e];exact h.blk b o hx
 .exact .inl (yA hge hx)
def Vws.step{A:Ae->Prop}{V:Ae->Ag}{w:Ag}(h:Vws A V w){k:Ae}(hk:A k){Rm:C5->Prop}{v' w':Ag}{es:Aw C5}(hs:aEi Rm (V k) w v' w' es):Vws A (aEy V k v' w') w':=by
 have hsz:(V k).heap.size=w.heap.size:=(h.sim k hk).size;have hsz':v'.heap.size=w'.heap.size:=hs.sim.size;have hge:(V k).heap.size<=v'.heap.size:=hs.ext.size;have hO:=dZ.of_ext hs.ext (h.ok k hk);have htp:w'.tape=w.tape:=by rw[<-hs.sim.tape,hs.ext.tape,(h.sim k hk).tape]
 have hos:w'.os=w.os:=by rw[<-hs.sim.os,hs.ext.os,(h.sim k hk).os]
 have hop:w'.output=w.output:=by rw[<-hs.sim.output,hs.ext.output,(h.sim k hk).output]
 refine⟨λx hx=>?_,λx hx=>?_,λx y hx hy hne b hu=>?_⟩
 .by_cases e:x=k
  .subst e;rw[lX];exact hs.sim
  .rw[pB V _ _ e];refine aGw (h.sim x hx) (by omega) htp hos hop λb o hb hne=>?_
   have hlt:b<(V k).heap.size:=by rw[hsz,<-(h.sim x hx).size];exact bL hb
   rcases aHz hlt with ⟨c,t,hw⟩|hu
   .exact hs.rest b c t hw
   .have:=h.dis k x hk hx (DZ e) b hu;rw[hb]at this;exact absurd (BC this) hne
 .by_cases e:x=k
  .subst e;rw[lX];exact hs.ok
  .rw[pB V _ _ e];exact(cL _ _).okV (h.ok x hx)
 .by_cases e:x=k
  .subst e;have ey:y≠x:=DZ hne;rw[lX]at hu;rw[pB V _ _ ey];rcases Bc b (V x).heap.size with hlt|hge'
   .exact mM (h.dis x y hx hy hne b ((hO.unf b hlt).1 hu))
   .obtain⟨o,ho,_⟩:=hu;have hlt:=bL ho;have hy':(V y).heap.size=w.heap.size:=(h.sim y hy).size;have hb:b<(jD (V y) w').heap.size:=by rw[aDa (by omega)];omega
    have hget:=Ar hb;have:=yA (v:=V y) (w':=w') (b:=b) (by omega) hget;rw[hget,this]
  .rw[pB V _ _ e]at hu;have hu':=aGv.1 hu;by_cases ey:y=k
   .subst ey;rw[lX];exact hO.hole (h.dis x y hx hy hne b hu')
   .rw[pB V _ _ ey];exact mM (h.dis x y hx hy hne b hu')
def Vws.aside{A:Ae->Prop}{V:Ae->Ag}{w w':Ag}(h:Vws A V w)(hsz:w'.heap.size=w.heap.size)(ht:w'.tape=w.tape)(ho:w'.os=w.os)(hp:w'.output=w.output)
 (hb:∀k,A k->∀(b:Ae) (o:Obj),(V k).heap[b]? = Aa o->o≠hole->w'.heap[b]? = w.heap[b]?):Vws A (λx=>jD (V x) w') w' :=
 ⟨λk hk=>aGw (h.sim k hk) (by omega) ht ho hp (hb k hk),λk hk=>(cL _ _).okV (h.ok k hk),λk k' hk hk' hne b hu=>mM (h.dis k k' hk hk' hne b (aGv.1 hu))⟩
def aDh:Obj->Obj
 |.cells c e _=>.cells c e (0,c.size)
 |_=>hole
def gL(v:Ag):World:={ v with heap:=v.heap.map aDh }
def oN(v:Ag)(b:Ae):(gL v).heap[b]? = (v.heap[b]?).map aDh:=by simp[gL]
def tA(v:Ag):(gL v).heap.size=v.heap.size:=by simp[gL]
def rM(o:Obj):∃c t,aDh o=.cells c t (0,c.size):=by
 cases o with
 |cells c e f=>exact⟨c,e,rfl⟩
 |_=>exact⟨#[],0,rfl⟩
def aDf{v:Ag}{b:Ae}(h:b<v.heap.size):rV (gL v) b:=by obtain⟨c,t,e⟩:=rM v.heap[b];exact⟨c,t,by rw[oN,Ar h,Bj,e]⟩
def aJp(v:Ag)(b:Ae):¬Unf (gL v) b:=by rintro⟨o,ho,hn⟩;have hlt:=bL ho;rw[tA]at hlt;exact(aDf hlt).not_unf ⟨o,ho,hn⟩
def aDg:aDh hole=hole:=rfl
def yB{v:Ag}{b:Ae}(h:v.heap[b]? = Aa hole):(gL v).heap[b]? = Aa hole:=by rw[oN,h,Bj,aDg]
def wD(v:Ag):OkV (gL v):=λb o ho=>by rw[oN]at ho;obtain⟨x,_,rfl⟩:=Ai.1 ho;obtain⟨c,t,e⟩:=rM x;rw[e];rfl
def aOa{v w:Ag}(h:Sim v w):Sim (gL v) w:=by
 refine⟨h.tape,h.drawn,h.os,h.output,by rw[tA];exact h.size,λb o ho=>?_⟩;rw[oN]at ho;obtain⟨x,hx,rfl⟩:=Ai.1 ho;cases x with
 | cells c e f =>
  simp only[aDh];rcases h.blk b _ hx with e1|e1|⟨c',e',f',e1,e2⟩
  .injection e1 with e1 e2 e3;subst e1;subst e2;exact .inl rfl
  .exact .inr (.inr ⟨c,e,f,rfl,e1⟩)
  .injection e1 with e1 e3 e4;subst e1;subst e3
   exact .inr (.inr ⟨c,e,f',rfl,e2⟩)
 |_=>exact .inl rfl
end Go.Am
namespace Go.Am
open Go.Conc Go.ConcR.Gen Go.Conc.Lib Go.RowKit Go.ConcR
open Go
def cQ(ty:AF)(Wg:Ae)(w:Ag):Prop:=∃st sm,w.heap[Wg]? = Aa (wgBlock ty st sm)
def cQ.cell0{ty:AF}{Wg:Ae}{w:Ag}(h:cQ ty Wg w):∃v,w.cell? ⟨Wg,0,Aj⟩=Aa v:=by obtain⟨st,sm,h⟩:=h;exact⟨.int .u64 st,by simp[BN,h,wgBlock]⟩
def cQ.cell1{ty:AF}{Wg:Ae}{w:Ag}(h:cQ ty Wg w):∃v,w.cell? ⟨Wg,1,Aj⟩=Aa v:=by obtain⟨st,sm,h⟩:=h;exact⟨.int .u32 sm,by simp[BN,h,wgBlock]⟩
def noE:C5->Prop:=λ_=>False
section
variable (P:As) (L:WgLink) (Wg:Ae)
def bWh(d:Ae)(g:Ay):Prop :=
 d=1/\g.status=.running/\mayWake P g=Ak/\∀w,w.heap[Wg]? = Aa (wgBlock L.tWg 0 0)->∃g',stepG P Az g w=.go g' (w.setCell (smA Wg) (.int .u32 1)) (semEvents (smA Wg))/\∃q,QuitsD P q d g'
def bMw(d:Ae)(g:Ay):Prop :=
 d=1/\g.status=.running/\∀w,w.heap[Wg]? = Aa (wgBlock L.tWg 1 0)->∃g',stepG P Az g w=.go g' (w.setCell (stA Wg) (.int .u64 0)) #[wr (stA Wg)]/\Dl P Az (cQ L.tWg Wg) noE (bWh P L Wg) d g'
def bMx(d:Ae)(g:Ay):Prop :=
 d=1/\g.status=.running/\∀w,w.heap[Wg]? = Aa (wgBlock L.tWg 1 0)->∃g',stepG P Az g w=.go g' w #[rd (stA Wg)]/\Dl P Az (cQ L.tWg Wg) noE (bMw P L Wg) d g'
def bWg(d:Ae)(g:Ay):Prop :=
 g.status=.running/\∀(w:Ag) (v wt:Ae),wt<=1->v<2147483647->w.heap[Wg]? = Aa (wgBlock L.tWg (((v:Al)+1)*KK+wt) 0) ->
  ∃g',stepG P Az g w=.go g' (w.setCell (stA Wg) (.int .u64 ((v:Al)*KK+wt))) #[rd (stA Wg),wr (stA Wg)] /\
   ((v=0/\wt=1)->Dl P Az (cQ L.tWg Wg) noE (bMx P L Wg) d g')/\(¬(v=0/\wt=1)->∃q,QuitsD P q d g')
def uT(d:Ae)(g:Ay):Prop :=
 g.status=.running/\d=0/\∃g',(∀w,cQ L.tWg Wg w->stepG P Az g w=.go g' w #[mk (.releaseMerge (stA Wg))])/\Dl P Az (cQ L.tWg Wg) noE (λd g=>d=1/\bWg P L Wg d g) 0 g'
end
def cZ(Wg:Ae)(e:C5):Prop:=e=⟨.mark (.read (smA Wg)),Az,Ak⟩\/e=⟨.mark (.write (smA Wg)),Az,Ak⟩
section
variable (P:As) (L:WgLink) (Wg:Ae)
def aEr(K:Ae->Ay->Prop)(d:Ae)(g:Ay):Prop :=
 g.status=.running/\∀(w:Ag) (v:Ae),v<2147483647->w.heap[Wg]? = Aa (wgBlock L.tWg ((v:Al)*KK) 0) ->
  ∃g',stepG P Ak g w=.go g' (w.setCell (stA Wg) (.int .u64 (((v:Al)+1)*KK))) #[rd (stA Wg),wr (stA Wg)]/\Dl P Ak (cQ L.tWg Wg) (cZ Wg) K d g'
end
section
variable (P:As) (L:WgLink) (Wg:Ae) (K:Ay->Prop)
def bMy(d:Ae)(g:Ay):Prop :=
 d=0/\g.status=.running/\∃g',(∀w,cQ L.tWg Wg w->stepG P Ak g w=.go g' w #[mk (.acquire (stA Wg))])/\Dl P Ak (λ_=>True) noE (λd g=>d=0/\K g) 0 g'
def bWj(d:Ae)(g:Ay):Prop :=
 g.status=.running/\∀w,w.heap[Wg]? = Aa (wgBlock L.tWg 0 0)->∃g',stepG P Ak g w=.go g' w #[rd (stA Wg)]/\Dl P Ak (cQ L.tWg Wg) (cZ Wg) (bMy P L Wg K) d g'
def aUf(d:Ae)(g:Ay):Prop :=
 g.status=.running/\g.offers=Aj/\(∀w st,w.heap[Wg]? = Aa (wgBlock L.tWg st 0)->stepG P Ak g w=.go { g with status:=.blocked } w #[]) /\
  ∀w,w.heap[Wg]? = Aa (wgBlock L.tWg 0 1)->∃g',stepG P Ak g w=.go g' (w.setCell (smA Wg) (.int .u32 0)) (semEvents (smA Wg))/\Dl P Ak (cQ L.tWg Wg) (cZ Wg) (bWj P L Wg K) d g'
def aXs(An:Ay->Prop)(vs:Ae)(d:Ae)(g:Ay):Prop :=
 g.status=.running/\∀(w:Ag) (v:Ae),v<2147483648->w.heap[Wg]? = Aa (wgBlock L.tWg ((v:Al)*KK) 0) ->
  (v=vs->∃g',stepG P Ak g w=.go g' (w.setCell (stA Wg) (.int .u64 ((v:Al)*KK+1))) #[rd (stA Wg),wr (stA Wg)]/\Dl P Ak (cQ L.tWg Wg) (cZ Wg) (aUf P L Wg K) d g') /\
  (v≠vs->∃g',stepG P Ak g w=.go g' w #[rd (stA Wg)]/\Dl P Ak (cQ L.tWg Wg) (cZ Wg) (λd' g=>d'=d/\An g) d g')
def tN(An:Ay->Prop)(d:Ae)(g:Ay):Prop :=
 g.status=.running/\∀(w:Ag) (v:Ae),v<2147483648->w.heap[Wg]? = Aa (wgBlock L.tWg ((v:Al)*KK) 0) ->
  ∃g',stepG P Ak g w=.go g' w #[rd (stA Wg)]/\(v=0->Dl P Ak (cQ L.tWg Wg) (cZ Wg) (bMy P L Wg K) d g')/\(v≠0->Dl P Ak (cQ L.tWg Wg) (cZ Wg) (λd' g=>d'=d/\aXs P L Wg K An v d' g) d g')
def tV(c:BU)(cs:Ad BU)(g:Ay):Prop :=
 ∃T:Aw AE,g=G ((base L.wait).at ⟨T,[]⟩ [.code (L7 L),.inLoop (L7 L),.inBlock 0]) (c::cs)/\T.size=84/\T[0]? = Aa (.pointer (Aa ⟨Wg,0,Aj⟩))
end
end Go.Am
namespace Go.Am
open Go.Conc
open Go.ConcN (CT Apart Ok0 OkW PermW)
open Go.ConcR (stA smA)
structure Pl where
 C:Ae
 wd:Ae
 n:Ae
 ety:AF
 val:Ae->Ae->AE
 pos:0<wd
 tot:Ae
 le:n*wd<=tot
def Pl.cell(p:Pl)(i r:Ae):Addr:=⟨p.C,i*p.wd+r,Aj⟩
def pM:Loc->Aq Ae
 |.cell a=>Aa a.block
 |.obj r=>Aa r
 |_=>Aj
section
variable (p:Pl) (m j:Ae) (V:Ae->Ag)
def uS(k:Ae)(l:Loc):Prop:=m<=k/\k<m+j/\((∃b,pM l=Aa b/\Unf (V k) b)\/∃r,r<p.wd/\l=.cell (p.cell (k-m) r))
def RdF(k:Ae)(l:Loc):Prop:=m<=k/\k<m+j/\∃(a:Addr) (c:Aw AE) (t:AF),l=.cell a/\(V k).heap[a.block]? = Aa (.cells c t (0,c.size))/\a.off<c.size
end
def iK(m j k:Ae):Prop:=k=0\/(m<=k/\k<m+j)
def wU{p:Pl}{m j:Ae}{V:Ae->Ag}{w:Ag}{S:Ae->Prop}(hv:Vws (iK m j) V w)(hm:1<=m)(hC:∀k,iK m j k->(V k).heap[p.C]? = Aa hole)(hS:∀k,iK m j k->∀b,S b->(V k).heap[b]? = Aa hole)(hCS:¬S p.C) :
 Apart (dP S) (uS p m j V) (RdF m j V) where
 own k k' l h h':=by
  obtain⟨a1,a2,h⟩:=h;obtain⟨b1,b2,h'⟩:=h';by_cases hne:k=k'
  .exact hne
  rcases h with ⟨b,e,hu⟩|⟨r,hr,e⟩<;>rcases h' with ⟨b',e',hu'⟩|⟨r',hr',e'⟩
  .rw[e]at e';obtain rfl:=BC e';exact absurd hu' (lS (hv.dis k k' (.inr ⟨a1,a2⟩) (.inr ⟨b1,b2⟩) hne b hu))
  .subst e';simp only[pM,AH,Pl.cell]at e;subst e;exact absurd hu (lS (hC k (.inr ⟨a1,a2⟩)))
  .subst e;simp only[pM,AH,Pl.cell]at e';subst e';exact absurd hu' (lS (hC k' (.inr ⟨b1,b2⟩)))
  .subst e;simp only[Pl.cell,Loc.cell.injEq,Addr.mk.injEq,and_true,true_and]at e';have h1:(r+p.wd*(k-m))/p.wd=k-m:=by rw[Nat.add_mul_div_left _ _ (by omega),DW hr];omega
   have h2:(r'+p.wd*(k'-m))/p.wd=k'-m:=by rw[Nat.add_mul_div_left _ _ (by omega),DW hr'];omega
   have h3:r+p.wd*(k-m)=r'+p.wd*(k'-m):=by rw[Da,Da p.wd];omega
   rw[h3,h2]at h1;omega
 ownRd k k' l h h':=by
  obtain⟨a1,a2,h⟩:=h;obtain⟨b1,b2,a,c,t,rfl,hw,hlt⟩:=h';rcases h with ⟨b,e,hu⟩|⟨r,hr,e⟩
  .simp only[pM,AH]at e;subst e;by_cases hne:k=k'
   .subst hne;exact rV.not_unf ⟨c,t,hw⟩ hu
   .have:=hv.dis k k' (.inr ⟨a1,a2⟩) (.inr ⟨b1,b2⟩) hne _ hu;rw[hw]at this;injection this with this;injection this with e1 _ _;subst e1;simp at hlt
  .injection e with e;subst e
   rw[show(p.cell (k-m) r).block=p.C from rfl,hC k' (.inr ⟨b1,b2⟩)]at hw;injection hw with hw;injection hw with e1 _ _;subst e1;simp at hlt
 ownSh k l h hs:=by
  obtain⟨a1,a2,h⟩:=h;cases l with
  | cell a =>
   rcases h with ⟨b,e,hu⟩|⟨r,hr,e⟩
   .simp only[pM,AH]at e;subst e;exact lS (hS k (.inr ⟨a1,a2⟩) _ hs) hu
   .injection e with e;subst e;exact hCS hs
  |_=>exact hs
 rdSh k l h hs:=by obtain⟨b1,b2,a,c,t,rfl,hw,hlt⟩:=h;rw[hS k (.inr ⟨b1,b2⟩) _ hs]at hw;injection hw with hw;injection hw with e1 _ _;subst e1;simp at hlt
def yN(t:Trace)(l:Loc):Prop:=∀i a,touchAt t i=Aa a->a.loc≠l
def aFp{x:MemAct}{B:Ae}{a:Touch}(h:x.low B)(ha:x.touch? = Aa a):a.loc.low B:=by
 cases x with
 |access e=>simp only[BY,AH]at ha;subst ha;exact h
 |mark mk=>cases mk<;>simp[BY]at ha<;>subst ha<;>exact h
 |_=>simp[BY]at ha
def uX{t:Trace}{B:Ae}(h:∀op∈t,op.act.low B){l:Loc}{b:Ae}(hl:pM l=Aa b)(hb:B<=b):yN t l:=by intro i a ha e;obtain⟨op,hop,hoa⟩:=touch_of ha;have:=aFp (h op (B7 hop)) hoa;rw[e]at this;cases l<;>simp[pM]at hl<;>subst hl<;>simp only[Loc.low]at this<;>omega
def CT.grow{Sh:Loc->Prop}{Own Own' Rd Rd':Ae->Loc->Prop}{t:Trace}{j:Ae}(h:CT Sh Own Rd t j)(ho:∀k l,1<=k->k<=j->Own k l->Own' k l)(hr:∀k l,1<=k->k<=j->Rd k l->Rd' k l)
 (hf:∀k l,1<=k->k<=j->Own' k l->Own k l\/yN t l) (hg:∀k l,1<=k->k<=j->Rd' k l->Rd k l\/yN t l):CT Sh Own' Rd' t j where
 quiet:=h.quiet
 own k h1 h2 l hl:=by
  rcases hf k l h1 h2 hl with h3|h3
  .exact h.own k h1 h2 l h3
  .exact λi a ha e=>(h3 i a ha e).elim
 rd k h1 h2 l hl:=by
  rcases hg k l h1 h2 hl with h3|h3
  .exact h.rd k h1 h2 l h3
  .exact λi a ha e _=>(h3 i a ha e).elim
 free l hs hn:=h.free l hs λk h1 h2=>⟨λx=>(hn k h1 h2).1 (ho k l h1 h2 x),λx=>(hn k h1 h2).2 (hr k l h1 h2 x)⟩
 mine l hs hn:=h.mine l hs λk h1 h2 x=>hn k h1 h2 (ho k l h1 h2 x)
 nr:=h.nr
 gs:=h.gs
def aDo{p:Pl}{m j N:Ae}{V V':Ae->Ag}{t:Trace}{S:Ae->Prop}{B:Ae}(h:CT (dP S) (uS p m j V) (RdF m j V) t N)(hB:∀op∈t,op.act.low B)(hsz:∀k,m<=k->k<m+j->(V k).heap.size=B)(hO:∀k,m<=k->k<m+j->dZ (V k) (V' k)) :
 CT (dP S) (uS p m j V') (RdF m j V') t N:=by
 refine CT.grow h (λk l _ _ ⟨a1,a2,hl⟩=>⟨a1,a2,?_⟩) (λk l _ _ ⟨a1,a2,a,c,ty,e,hw,hlt⟩=>⟨a1,a2,a,c,ty,e,?_,hlt⟩) (λk l _ _ ⟨a1,a2,hl⟩=>?_) (λk l _ _ ⟨a1,a2,a,c,ty,e,hw,hlt⟩=>?_)
 .rcases hl with ⟨b,e,hu⟩|hl
  .exact .inl ⟨b,e,((hO k a1 a2).unf b (let ⟨_,ho,_⟩:=hu;bL ho)).2 hu⟩
  .exact .inr hl
 .exact((hO k a1 a2).whole _ c ty (bL hw)).2 hw
 .rcases hl with ⟨b,e,hu⟩|hl
  .rcases Bc b B with hlt|hge
   .exact .inl ⟨a1,a2,.inl ⟨b,e,((hO k a1 a2).unf b (by rw[hsz k a1 a2];exact hlt)).1 hu⟩⟩
   .exact .inr (uX hB e hge)
  .exact .inl ⟨a1,a2,.inr hl⟩
 .rcases Bc a.block B with hlt'|hge
  .exact .inl ⟨a1,a2,a,c,ty,e,((hO k a1 a2).whole _ c ty (by rw[hsz k a1 a2];exact hlt')).1 hw,hlt⟩
  .exact .inr (uX hB (by rw[e];rfl) hge)
def bQw{p:Pl}{m j k:Ae}{V:Ae->Ag}{S:Ae->Prop}(hk:m<=k)(hkj:k<m+j){e:C5}(h:EvV (V k) e)(fn:AU)(pos:String):OkW (dP S) (uS p m j V) (RdF m j V) k { g:=k,fn,pos,act:=.ofEvent e }:=by
 refine⟨rfl,λx hx=>?_⟩;obtain⟨loc,wr,sy⟩:=e;rcases h with ⟨a,c,t,f,h1,h2,h3,h4,h5⟩|⟨r,o,h1,h2,h3,h4,h5⟩|h
 .simp only at h1 h2 h3 h5;subst h1;subst h2;simp[BA,BY]at hx;subst hx;by_cases hf:f=(0,c.size)
  .subst hf;refine .inr (.inr ⟨⟨hk,hkj,a,c,t,rfl,h3,h4⟩,?_⟩);cases wr with
   |false=>rfl
   |true=>exact absurd rfl (h5 rfl)
  .refine .inr (.inl ⟨hk,hkj,.inl ⟨a.block,rfl,_,h3,λc2 t2 e=>?_⟩⟩);injection e with e1 e2 e3;subst e1;exact hf e3
 .simp only at h1 h2 h3;subst h1;subst h2;simp[BA,BY]at hx;subst hx;exact .inr (.inl ⟨hk,hkj,.inl ⟨r,rfl,o,h3,λc t=>h4 c t _⟩⟩)
 .injection h with e1 e2 e3;subst e1;subst e2;subst e3
  simp[BA,BY]at hx
def bQx{p:Pl}{m j N:Ae}{V:Ae->Ag}{w:Ag}{S:Ae->Prop}(hv:Vws (iK m j) V w)(hm:1<=m)(hC:(V 0).heap[p.C]? = Aa hole)(hS:∀b,S b->(V 0).heap[b]? = Aa hole){e:C5}(h:EvV (V 0) e)(fn:AU)(pos:String) :
 Ok0 (dP S) (uS p m j V) (RdF m j V) N { g:=0,fn,pos,act:=.ofEvent e }:=by
 refine⟨rfl,λx hx=>?_⟩
 obtain⟨loc,wr,sy⟩:=e
 have key:∀k b,m<=k->k<m+j->∀o,(V 0).heap[b]? = Aa o->o≠hole->¬Unf (V k) b:=λk b h1 h2 o ho hne hu=>by have:=hv.dis k 0 (.inr ⟨h1,h2⟩) (.inl rfl) (by omega) b hu;rw[ho]at this;exact hne (BC this)
 rcases h with ⟨a,c,t,f,h1,h2,h3,h4,h5⟩|⟨r,o,h1,h2,h3,h4,h5⟩|h
 .simp only at h1 h2 h3 h5;subst h1;subst h2
  simp[BA,BY]at hx;subst hx
  have hne:DM c t f≠hole:=by intro e;injection e with e1 _ _;subst e1;simp at h4
  refine .inr ⟨λhs=>?_,λk _ _ ⟨a1,a2,ho⟩=>?_,λhw k _ _ ⟨a1,a2,a',c',t',e,hw',hlt⟩=>?_⟩
  .rw[hS a.block hs]at h3;exact hne (BC h3).symm
  .rcases ho with ⟨b,e,hu⟩|⟨r,hr,e⟩
   .simp only[pM,AH]at e;subst e
    exact key k _ a1 a2 _ h3 hne hu
   .injection e with e;subst e
    rw[show(p.cell (k-m) r).block=p.C from rfl,hC]at h3;exact hne (BC h3).symm
  .injection e with e;subst e
   have hu:Unf (V 0) a.block:=⟨_,h3,λc2 t2 e=>by injection e with e1 e2 e3;subst e1;exact h5 hw e3⟩
   have:=hv.dis 0 k (.inl rfl) (.inr ⟨a1,a2⟩) (by omega) _ hu
   rw[hw']at this;injection this with this;injection this with e1 _ _;subst e1;simp at hlt
 .simp only at h1 h2 h3;subst h1;subst h2
  simp[BA,BY]at hx;subst hx
  have hne:o≠hole:=λe=>h4 _ _ _ e
  refine .inr ⟨λhs=>hs.elim,λk _ _ ⟨a1,a2,ho⟩=>?_,λhw k _ _ ⟨a1,a2,a',c',t',e,_⟩=>by cases e⟩
  rcases ho with ⟨b,e,hu⟩|⟨r',hr,e⟩
  .simp only[pM,AH]at e;subst e
   exact key k _ a1 a2 _ h3 hne hu
  .cases e
 .injection h with e1 e2 e3;subst e1;subst e2;subst e3
  simp[BA,BY]at hx
def aVy{v:Ag}{B:Ae}(hB:v.heap.size<=B){e:C5}(h:EvV v e):(BA e).low B:=by exact(pT (S:=λ_=>False) (λ_ x=>x.elim) hB h).2.2.2
end Go.Am
namespace Go.Am
open Go.Conc Go.Conc.Lib
open Go.ConcN (CT Apart Ok0 OkW PermW RelBy CTag phi Mode WD Vc Ssum sumTo upd upd_same upd_ne)
open Go.ConcR (KK wgBlock stA smA rd wr mk)
section
variable (P:As) (L:WgLink) (Wg:Ae) (p:Pl)
def bCb(w:Ag):Prop:=∃(cs:Aw AE) (f:Ae×Ae),w.heap[p.C]? = Aa (.cells cs p.ety f)/\cs.size=p.tot/\(cs.size≠0->f=(0,0))
structure cEm(i:Ae)(w w':Ag):Prop where
 tape:w'.tape=w.tape
 os:w'.os=w.os
 output:w'.output=w.output
 size:w'.heap.size=w.heap.size
 block:∀b,b≠p.C->w'.heap[b]? = w.heap[b]?
 pay:bCb p w'
 cells:∀o,(o<i*p.wd\/(i+1)*p.wd<=o)->w'.cell? ⟨p.C,o,Aj⟩=w.cell? ⟨p.C,o,Aj⟩
 new:∀r,r<p.wd->w'.cell? (p.cell i r)=Aa (p.val i r)
def bWi(i:Ae)(d:Ae)(g:Ay):Prop :=
 d=0/\g.status=.running/\∀w,bCb p w->∃g' w' es,stepG P Az g w=.go g' w' es/\cEm p i w w'/\(∀e∈es,∃r,r<p.wd/\e=⟨.cell (p.cell i r),Ak,Az⟩)/\Dl P Az (cQ L.tWg Wg) noE (uT P L Wg) 0 g'
abbrev GTw(i:Ae):=GT P Az (λ_=>True) noE (λd g _=>bWi P L Wg p i d g)
inductive WS(i:Ae):Ae->Tr->Ae->Ay->Ag->Prop
 |work {tr:Tr} {d:Ae} {g:Ay} {v:Ag}:GTw P L Wg p i tr d g v->WS i 7 tr d g v
 |rel {n d:Ae} {g:Ay} {v:Ag}:DlN P Az (cQ L.tWg Wg) noE (uT P L Wg) n d g->WS i 6 (Tr.nat n) d g v
 |sub {n d:Ae} {g:Ay} {v:Ag}:DlN P Az (cQ L.tWg Wg) noE (λd g=>d=1/\bWg P L Wg d g) n d g->WS i 5 (Tr.nat n) d g v
 |look {n d:Ae} {g:Ay} {v:Ag}:DlN P Az (cQ L.tWg Wg) noE (bMx P L Wg) n d g->WS i 4 (Tr.nat n) d g v
 |zero {n d:Ae} {g:Ay} {v:Ag}:DlN P Az (cQ L.tWg Wg) noE (bMw P L Wg) n d g->WS i 3 (Tr.nat n) d g v
 |sem {n d:Ae} {g:Ay} {v:Ag}:DlN P Az (cQ L.tWg Wg) noE (bWh P L Wg) n d g->WS i 2 (Tr.nat n) d g v
 |quit {n d:Ae} {g:Ay} {v:Ag}:QuitsD P n d g->WS i 1 (Tr.nat n) d g v
abbrev GTm(Stop:Ae->Ay->Ag->Prop):=GT P Ak (cQ L.tWg Wg) (cZ Wg) Stop
def aKs(i:Ae)(Next:Ay->Ag->Prop)(d:Ae)(g:Ay)(v:Ag):Prop :=
 d=0/\g.status=.running/\∀v1,Env v v1->∃g' child,(∀w,Sim v1 w->cQ L.tWg Wg w->stepG P Ak g w=.spawn g' child w #[])/\child.status=.running/\(∃tr,GTw P L Wg p i tr 0 child (gL v1))/\Next g' (gL v1)
def aPm(i:Ae)(Next:Ay->Ag->Prop)(d:Ae)(g:Ay)(v:Ag):Prop :=
 d=1/\aEr P L Wg (λd' g'=>∀v1,Env v v1->OkV v1->∃tr,GTm P L Wg (aKs P L Wg p i Next) tr d' g' v1) d g
variable (K An:Ay->Prop)
def aHp(d:Ae)(g:Ay)(_:Ag):Prop:=d=1/\tN P L Wg K An d g
def kQ:Ae->Ay->Ag->Prop
 |0,g,v=>∃tr,GTm P L Wg (aHp P L Wg K An) tr 0 g v
 |r+1,g,v=>∃tr,GTm P L Wg (aPm P L Wg p (p.n-(r+1)) (kQ r)) tr 0 g v
inductive CS:CTag->Ae->Tr->Ae->Ay->Ag->Prop
 |a1 {r:Ae} {tr:Tr} {d:Ae} {g:Ay} {v:Ag}:r<p.n->GTm P L Wg (aPm P L Wg p (p.n-(r+1)) (kQ P L Wg p K An r)) tr d g v->CS (.sp r 4) (p.n-(r+1)) tr d g v
 |go {r:Ae} {tr:Tr} {d:Ae} {g:Ay} {v:Ag}:r<p.n->GTm P L Wg (aKs P L Wg p (p.n-(r+1)) (kQ P L Wg p K An r)) tr d g v->CS (.sp r 3) (p.n-(r+1)) tr d g v
 |w1 {tr:Tr} {d:Ae} {g:Ay} {v:Ag}:GTm P L Wg (aHp P L Wg K An) tr d g v->CS .w1 p.n tr d g v
 |w2 {vs n d:Ae} {g:Ay} {v:Ag}:DlN P Ak (cQ L.tWg Wg) (cZ Wg) (λd g=>d=1/\aXs P L Wg K An vs d g) n d g->CS (.w2 vs) p.n (Tr.nat n) d g v
 |w3 {n d:Ae} {g:Ay} {v:Ag}:DlN P Ak (cQ L.tWg Wg) (cZ Wg) (aUf P L Wg K) n d g->CS .w3 p.n (Tr.nat (n+1)) d g v
 |blk {r:Tr} {d:Ae} {g:Ay} {v:Ag}:aUf P L Wg K d g->CS .blk p.n r d { g with status:=.blocked } v
 |w4 {n d:Ae} {g:Ay} {v:Ag}:DlN P Ak (cQ L.tWg Wg) (cZ Wg) (bWj P L Wg K) n d g->CS .w4 p.n (Tr.nat n) d g v
 |acq {n d:Ae} {g:Ay} {v:Ag}:DlN P Ak (cQ L.tWg Wg) (cZ Wg) (bMy P L Wg K) n d g->CS .acq p.n (Tr.nat n) d g v
 |ret {n d:Ae} {g:Ay} {v:Ag}:DlN P Ak (λ_=>True) noE (λd g=>d=0/\K g) n d g->CS .ret p.n (Tr.nat n) d g v
end
section
variable {P:As} {L:WgLink} {Wg:Ae} {p:Pl} {K An:Ay->Prop}
def GTw.env'{i:Ae}{tr:Tr}{d:Ae}{g:Ay}{v v1:Ag}(h:GTw P L Wg p i tr d g v)(he:Env v v1):GTw P L Wg p i tr d g v1:=GT.env (λ_ _ _ _ h _=>h) h he
def WS.env{i s d:Ae}{r:Tr}{g:Ay}{v v1:Ag}(h:WS P L Wg p i s r d g v)(he:Env v v1):WS P L Wg p i s r d g v1:=by
 cases h with
 |work h=>exact .work (h.env' he)
 |rel h=>exact .rel h
 |sub h=>exact .sub h
 |look h=>exact .look h
 |zero h=>exact .zero h
 |sem h=>exact .sem h
 |quit h=>exact .quit h
def aEd{i:Ae}{N:Ay->Ag->Prop}:bCf (aKs P L Wg p i N):=λ_ _ _ _ h he=>⟨h.1,h.2.1,λv2 he2=>h.2.2 v2 (he.trans he2)⟩
def uO{K K':Ae->Ay->Prop}(hK:∀d g,K d g->K' d g){d:Ae}{g:Ay}(h:aEr P L Wg K d g):aEr P L Wg K' d g :=
 ⟨h.1,λw v hv hw=>let ⟨g',h1,h2⟩:=h.2 w v hv hw;⟨g',h1,h2.mono hK⟩⟩
def aFs{i:Ae}{N:Ay->Ag->Prop}:bCf (aPm P L Wg p i N):=λ_ _ _ _ h he=>⟨h.1,uO (λ_ _ hk v2 he2 ho=>hk v2 (he.trans he2) ho) h.2⟩
def xJ:bCf (aHp P L Wg K An):=λ_ _ _ _ h _=>h
def CS.env{tag:CTag}{j d:Ae}{r:Tr}{g:Ay}{v v1:Ag}(h:CS P L Wg p K An tag j r d g v)(he:Env v v1):CS P L Wg p K An tag j r d g v1:=by
 cases h with
 |a1 hr h=>exact .a1 hr (h.env aFs he)
 |go hr h=>exact .go hr (h.env aEd he)
 |w1 h=>exact .w1 (h.env xJ he)
 |w2 h=>exact .w2 h
 |w3 h=>exact .w3 h
 |blk h=>exact .blk h
 |w4 h=>exact .w4 h
 |acq h=>exact .acq h
 |ret h=>exact .ret h
def DlN.run{main:Bw}{I:Ag->Prop}{Rm:C5->Prop}{K:Ae->Ay->Prop}(hK:∀d g,K d g->g.status=.running){n d:Ae}{g:Ay}(h:DlN P main I Rm K n d g):g.status=.running:=by
 rcases h.cases with h|⟨_,_,h,_⟩
 .exact hK _ _ h
 .exact h
def GT.run{main:Bw}{I:Ag->Prop}{Rm:C5->Prop}{Stop:Ae->Ay->Ag->Prop}(hK:∀d g v,Stop d g v->g.status=.running){tr:Tr}{d:Ae}{g:Ay}{v:Ag}(h:GT P main I Rm Stop tr d g v):g.status=.running:=by
 cases tr with
 |leaf=>exact hK _ _ _ h
 |node f=>exact h.1
def WS.status{i s d:Ae}{r:Tr}{g:Ay}{v:Ag}(h:WS P L Wg p i s r d g v):(g.status=.running)\/(g.status=.finished/\s=1):=by
 cases h with
 |work h=>exact .inl (h.run λ_ _ _ h=>h.2.1)
 |rel h=>exact .inl (h.run λ_ _ h=>h.1)
 |sub h=>exact .inl (h.run λ_ _ h=>h.2.1)
 |look h=>exact .inl (h.run λ_ _ h=>h.2.1)
 |zero h=>exact .inl (h.run λ_ _ h=>h.2.1)
 |sem h=>exact .inl (h.run λ_ _ h=>h.2.1)
 |quit h=>exact h.status.elim .inl λx=>.inr ⟨x,rfl⟩
def WS.woken{i s d:Ae}{r:Tr}{g:Ay}{v:Ag}(h:WS P L Wg p i s r d g v)(a a':Ay)(w':Ag):woken P a a' w' g=g:=by
 unfold Go.Conc.woken;split
 .exact again_running _ (h.status.elim .inl λx=>.inr x.1)
 .rfl
def CS.status(hK:∀g,K g->g.status=.running){tag:CTag}{j d:Ae}{r:Tr}{g:Ay}{v:Ag}(h:CS P L Wg p K An tag j r d g v):(g.status=.running/\tag≠.blk)\/(g.status=.blocked/\tag=.blk):=by
 cases h with
 |a1 hr h=>exact .inl ⟨h.run λ_ _ _ h=>h.2.1,by simp⟩
 |go hr h=>exact .inl ⟨h.run λ_ _ _ h=>h.2.1,by simp⟩
 |w1 h=>exact .inl ⟨h.run λ_ _ _ h=>h.2.1,by simp⟩
 |w2 h=>exact .inl ⟨h.run λ_ _ h=>h.2.1,by simp⟩
 |w3 h=>exact .inl ⟨h.run λ_ _ h=>h.1,by simp⟩
 |blk h=>exact .inr ⟨rfl,rfl⟩
 |w4 h=>exact .inl ⟨h.run λ_ _ h=>h.1,by simp⟩
 |acq h=>exact .inl ⟨h.run λ_ _ h=>h.2.1,by simp⟩
 |ret h=>exact .inl ⟨h.run λ_ _ h=>hK _ h.2,by simp⟩
def CS.wokenBy(hK:∀g,K g->g.status=.running){tag:CTag}{j d:Ae}{r:Tr}{a:Ay}{v:Ag}(h:CS P L Wg p K An tag j r d a v)(g g':Ay)(w':Ag) :
 ∃tag' r',CS P L Wg p K An tag' j r' d (woken P g g' w' a) v/\(tag'=tag\/(tag=.blk/\tag'=.w3))/\(mayWake P g=Ak->g'.status=.running->tag'≠.blk):=by
 unfold Go.Conc.woken
 split
 .rcases h.status hK with ⟨hs,hne⟩|⟨_,rfl⟩
  .exact⟨tag,r,by rw[again_running _ (.inl hs)];exact h,.inl rfl,λ_ _=>hne⟩
  .cases h with
   | blk hb =>
    exact⟨.w3,Tr.nat (0+1),by rw[Go.ConcR.again_blocked hb.1 hb.2.1];exact .w3 (n:=0) hb,.inr ⟨rfl,rfl⟩,λ_ _=>by simp⟩
 .rename_i hc
  exact⟨tag,r,h,.inl rfl,λh1 h2=>absurd (by simp[h1,h2]) hc⟩
end
end Go.Am
namespace Go.Am
open Go.Conc Go.Conc.Lib
open Go.ConcN (CT Apart Ok0 OkW PermW RelBy CTag phi Mode WD Vc Ssum sumTo)
open Go.ConcR (KK wgBlock stA smA rd wr mk)
def ShW(S:Ae->Prop)(Wg b:Ae):Prop:=S b\/b=Wg
structure Com(P:As)(L:WgLink)(Wg:Ae)(p:Pl)(S:Ae->Prop)(w0:Ag)(m j:Ae)(gs:Aw Ay)(w:Ag)(t:Trace)(D:Ae->WD)(R:Ae->Tr)(V:Ae->Ag)(d0:Ae):Prop where
 mpos:1<=m
 size:gs.size=m+j
 wk:∀i,i<j->∃g,gs[m+i]? = Aa g/\WS P L Wg p i (D i).stage (R (m+i)) (D i).deaf g (V (m+i))
 old:∀i,0<i->i<m->∃g q,gs[i]? = Aa g/\R i=Tr.nat q/\QuitsD P q (Deaf t i) g
 above:∀i,m+j<=i->Deaf t i=0
 ct:CT (dP (ShW S Wg)) (uS p m j V) (RdF m j V) t (m+j-1)
 norel:NoRelease (stA Wg) t
 deaf0:Deaf t 0=d0
 deafW:∀i,i<j->Deaf t (m+i)=(D i).deaf
 rel:∀i,i<j->(D i).stage<=5->∃r,RelBy (stA Wg) t (m+i) r
 has:∀i,i<j->(D i).stage<=6->∀r,r<p.wd->w.cell? (p.cell i r)=Aa (p.val i r)
 pay:bCb p w
 vws:Vws (iK m j) V w
 low:∀k,iK m j k->∀b,b<=Wg->rV (V k) b
 hC:∀k,iK m j k->(V k).heap[p.C]? = Aa hole
 hS:∀k,iK m j k->∀b,ShW S Wg b->(V k).heap[b]? = Aa hole
 stay:∀b,b<Wg->(b≠p.C\/p.tot=0)->w.heap[b]? = w0.heap[b]?
 like:w.tape=w0.tape/\w.os=w0.os/\w.output=w0.output
 kn:∀i a,touchAt t i=Aa a->Knows t 0 i\/(dP (ShW S Wg) a.loc/\a.kind=.atomic)\/((∃g,t.g? i=Aa g/\m<=g)/\a.kind≠.atomic)
 mem:∀i a,touchAt t i=Aa a->a.loc.isMemory=Ak
 over:∀i g,t.g? i=Aa g->g≠0->g<m->t.counts i->∃q,t.g? q=Aa 0/\HappensBefore t i q
 seen:∀op∈t,op.act.low w.heap.size
structure Geo(Wg:Ae)(p:Pl)(S:Ae->Prop):Prop where
 C:p.C<Wg
 S:¬S p.C
section
variable {P:As} {L:WgLink} {Wg:Ae} {p:Pl} {S:Ae->Prop} {w0:Ag} {m j:Ae} {gs:Aw Ay} {w w':Ag} {t u:Trace} {D:Ae->WD} {R:Ae->Tr} {V V':Ae->Ag} {d0:Ae}
def Com.apart(h:Com P L Wg p S w0 m j gs w t D R V d0)(G:Geo Wg p S):Apart (dP (ShW S Wg)) (uS p m j V) (RdF m j V) :=
 wU h.vws h.mpos h.hC h.hS λhs=>hs.elim G.S λe=>by have:=G.C;omega
def aJk(h:∀i a,touchAt t i=Aa a->Knows t 0 i\/(dP (ShW S Wg) a.loc/\a.kind=.atomic)\/((∃g,t.g? i=Aa g/\m<=g)/\a.kind≠.atomic))
 (hu:∀op∈u,∀a,op.act.touch? = Aa a->op.g=0\/(dP (ShW S Wg) a.loc/\a.kind=.atomic)\/(m<=op.g/\a.kind≠.atomic)) :
 ∀i a,touchAt (t++u) i=Aa a->Knows (t++u) 0 i\/(dP (ShW S Wg) a.loc/\a.kind=.atomic)\/((∃g,(t++u).g? i=Aa g/\m<=g)/\a.kind≠.atomic):=by
 intro i a ha
 obtain⟨x,hx,hxa⟩:=touch_of ha
 rcases getElem?_append_cases hx with ⟨hi,hx'⟩|⟨_,hxu⟩
 .rcases h i a (by rw[touchAt_of hx'];exact hxa)with h1|h1|⟨⟨g,h1,h2⟩,h3⟩
  .exact .inl (h1.app u)
  .exact .inr (.inl h1)
  .exact .inr (.inr ⟨⟨g,by simpa[GP,getElem?_append_old hi]using h1,h2⟩,h3⟩)
 .rcases hu x hxu a hxa with h1|h1|⟨h1,h2⟩
  .have:=knows_own hx
   rw[h1]at this
   exact .inl this
  .exact .inr (.inl h1)
  .exact .inr (.inr ⟨⟨x.g,by simp[GP,hx],h1⟩,h2⟩)
def aAg(h:∀i a,touchAt t i=Aa a->a.loc.isMemory=Ak)(hu:∀op∈u,∀a,op.act.touch? = Aa a->a.loc.isMemory=Ak):∀i a,touchAt (t++u) i=Aa a->a.loc.isMemory=true:=by
 intro i a ha;obtain⟨x,hx,hxa⟩:=touch_of ha;rcases getElem?_append_cases hx with ⟨_,hx'⟩|⟨_,hxu⟩
 .exact h i a (by rw[touchAt_of hx'];exact hxa)
 .exact hu x hxu a hxa
def vG(h:∀i g,t.g? i=Aa g->g≠0->g<m->t.counts i->∃q,t.g? q=Aa 0/\HappensBefore t i q)(hu:∀op∈u,op.g=0\/m<=op.g\/op.act.touch? = Aj) :
 ∀i g,(t++u).g? i=Aa g->g≠0->g<m->(t++u).counts i->∃q,(t++u).g? q=Aa 0/\HappensBefore (t++u) i q:=by
 intro i g hg hne hlt hc
 obtain⟨x,hx,_⟩:=hc
 obtain⟨op,hop,hox⟩:=touch_of hx
 rcases getElem?_append_cases hop with ⟨hi,hop'⟩|⟨_,hopu⟩
 .obtain⟨q,hq,hb⟩:=h i g (by simpa[GP,getElem?_append_old hi]using hg) hne hlt ((counts_old hi).1 ⟨x,hx,‹_›⟩)
  have hql:q<t.size:=by unfold GP at hq;obtain⟨z,hz,_⟩:=Ai.1 hq;exact lt_size_of_getElem? hz
  exact⟨q,by simpa[GP,getElem?_append_old hql]using hq,hb_app u hb⟩
 .have hgg:op.g=g:=by simpa[GP,hop]using hg
  rcases hu op hopu with h0|h0|h0
  .exact absurd (hgg.symm.trans h0) hne
  .omega
  .rw[h0]at hox;cases hox
def aAh{B B':Ae}(h:∀op∈t,op.act.low B)(hB:B<=B')(hu:∀op∈u,op.act.low B'):∀op∈t++u,op.act.low B':=λop hop=>(Ed.1 hop).elim (λx=>MemAct.low_mono hB (h op x)) (hu op)
structure aHr(p:Pl)(Wg:Ae)(w w':Ag):Prop where
 size:w.heap.size<=w'.heap.size
 stay:∀b,b<Wg->(b≠p.C\/p.tot=0)->w'.heap[b]? = w.heap[b]?
 like:w'.tape=w.tape/\w'.os=w.os/\w'.output=w.output
 pay:bCb p w'
def Com.stepW(h:Com P L Wg p S w0 m j gs w t D R V d0)(G:Geo Wg p S){i:Ae}(hi:i<j){g g':Ay}{es:Aw C5}{s' dd':Ae}{r':Tr}
 (hg:gs[m+i]? = Aa g) (hK:aHr p Wg w w') (hV:Vws (iK m j) V' w') (hE:∀x,x≠m+i->Env (V x) (V' x)) (hO:dZ (V (m+i)) (V' (m+i)))
 (hs':WS P L Wg p i s' r' dd' g' (V' (m+i))) (hdd:deafBehind (D i).deaf es=dd')
 (hok:∀e∈es,∀fn pos,OkW (dP (ShW S Wg)) (uS p m j V') (RdF m j V') (m+i) { g:=m+i,fn,pos,act:=.ofEvent e })
 (hat:∀e∈es,∀x,(BA e).touch? = Aa x->x.loc.isMemory=Ak/\((dP (ShW S Wg) x.loc/\x.kind=.atomic)\/x.kind≠.atomic))
 (hnr:∀e∈es,e.loc≠.mark (.release (stA Wg))) (hlow:∀e∈es,(BA e).low w'.heap.size)
 (hrel:s'<=5->∃r,RelBy (stA Wg) (t++Cd (m+i) g.frame.fn g.frame.place es) (m+i) r)
 (hhas:s'<=6->∀r,r<p.wd->w'.cell? (p.cell i r)=Aa (p.val i r)) (hho:∀i',i'<j->i'≠i->∀r,r<p.wd->w'.cell? (p.cell i' r)=w.cell? (p.cell i' r)) :
 Com P L Wg p S w0 m j ((gs.map (woken P g g' w')).setIfInBounds (m+i) g') w' (t++Cd (m+i) g.frame.fn g.frame.place es) (By D i ⟨s',0,dd'⟩) (By R (m+i) r') V' d0:=by
 have hm:=h.mpos
 have hact:iK m j (m+i):=.inr ⟨by omega,by omega⟩
 have hold:∀x,dZ (V x) (V' x):=λx=>by
  by_cases e:x=m+i
  .subst e;exact hO
  .exact dZ.of_env (hE x e)
 have hops:∀op∈Cd (m+i) g.frame.fn g.frame.place es,op.g=m+i:=λop hop=>by obtain⟨e,_,rfl⟩:=B2 hop;rfl
 have hA:Apart (dP (ShW S Wg)) (uS p m j V') (RdF m j V'):=wU hV hm (λk hk=>(hold k).hole (h.hC k hk)) (λk hk b hb=>(hold k).hole (h.hS k hk b hb)) λhs=>hs.elim G.S λe=>by have:=G.C;omega
 refine⟨hm,by simp[h.size],λi' hi'=>?_,λi' h1 h2=>?_,λi' hi'=>?_,?_,?_,?_,λi' hi'=>?_,λi' hi' hs=>?_,λi' hi' hs r hr=>?_,hK.pay,hV,λk hk b hb=>(hold k).whole' (h.low k hk b hb),λk hk=>(hold k).hole (h.hC k hk),λk hk b hb=>(hold k).hole (h.hS k hk b hb),
  λb hb hne=>(hK.stay b hb hne).trans (h.stay b hb hne),⟨hK.like.1.trans h.like.1,hK.like.2.1.trans h.like.2.1,hK.like.2.2.trans h.like.2.2⟩,?_,?_,?_,aAh h.seen hK.size λop hop=>by obtain⟨e,he,rfl⟩:=B2 hop;exact hlow e he⟩
 .by_cases e:i'=i
  .subst e
   refine⟨g',?_,by rw[Bx,Bx];exact hs'⟩
   have:m+i'<gs.size:=(Bm.1 hg).1
   rw[Ce (by simpa using this)]
  .obtain⟨g1,hg1,hs1⟩:=h.wk i' hi'
   refine⟨g1,?_,by rw[BD D _ e,BD R _ (by omega)];exact hs1.env (hE _ (by omega))⟩
   rw[AI (by omega),B6,hg1]
   simp[hs1.woken]
 .obtain⟨g1,q,hg1,hr,hq⟩:=h.old i' h1 h2
  refine⟨g1,q,?_,by rw[BD R _ (by omega)];exact hr,by rw[Deaf_other t (by omega) _ hops];exact hq⟩
  rw[AI (by omega),B6,hg1]
  simp[woken_quitsD hq]
 .rw[Deaf_other t (g':=m+i) (by omega) _ hops];exact h.above i' hi'
 .refine ConcN.CT.appW hA (aDo h.ct h.seen (λk h1 h2=>(h.vws.sim k (.inr ⟨h1,h2⟩)).size) λk _ _=>hold k) (k:=m+i) (by omega) (by omega) λop hop=>?_
  obtain⟨e,he,rfl⟩:=B2 hop
  exact hok e he _ _
 .exact h.norel.app (ConcN.norel_of hnr)
 .rw[Deaf_other t (g:=0) (g':=m+i) (by omega) _ hops];exact h.deaf0
 .by_cases e:i'=i
  .subst e;rw[Bx,Deaf_own,h.deafW i' hi',hdd]
  .rw[BD D _ e,Deaf_other t (g':=m+i) (by omega) _ hops,h.deafW i' hi']
 .by_cases e:i'=i
  .subst e;rw[Bx]at hs;exact hrel hs
  .rw[BD D _ e]at hs
   obtain⟨r,hr⟩:=h.rel i' hi' hs
   exact⟨r,hr.appOther hops (by omega)⟩
 .by_cases e:i'=i
  .subst e;rw[Bx]at hs;exact hhas hs r hr
  .rw[BD D _ e]at hs
   rw[hho i' hi' e r hr];exact h.has i' hi' hs r hr
 .refine aJk h.kn λop hop a ha=>?_
  obtain⟨e,he,rfl⟩:=B2 hop
  rcases(hat e he a ha).2 with h1|h1
  .exact .inr (.inl h1)
  .exact .inr (.inr ⟨by simp only;omega,h1⟩)
 .refine aAg h.mem λop hop a ha=>?_
  obtain⟨e,he,rfl⟩:=B2 hop
  exact(hat e he a ha).1
 .exact vG h.over λop hop=>.inr (.inl (by rw[hops op hop];omega))
def Com.step0(h:Com P L Wg p S w0 m j gs w t D R V d0)(G:Geo Wg p S){g g':Ay}{es:Aw C5}
 (hg:gs[0]? = Aa g) (hK:aHr p Wg w w') (hV:Vws (iK m j) V' w') (hE:∀x,x≠0->Env (V x) (V' x)) (hO:dZ (V 0) (V' 0))
 (hok:∀e∈es,∀fn pos,Ok0 (dP (ShW S Wg)) (uS p m j V') (RdF m j V') (m+j-1) { g:=0,fn,pos,act:=.ofEvent e })
 (hat:∀e∈es,∀x,(BA e).touch? = Aa x->x.loc.isMemory=Ak)
 (hnr:∀e∈es,e.loc≠.mark (.release (stA Wg))) (hlow:∀e∈es,(BA e).low w'.heap.size)
 (hho:∀i,i<j->∀r,r<p.wd->w'.cell? (p.cell i r)=w.cell? (p.cell i r)) (r0:Tr) :
 Com P L Wg p S w0 m j ((gs.map (woken P g g' w')).setIfInBounds 0 g') w' (t++Cd 0 g.frame.fn g.frame.place es) D (By R 0 r0) V' (deafBehind d0 es):=by
 have hm:=h.mpos
 have hold:∀x,dZ (V x) (V' x):=λx=>by
  by_cases e:x=0
  .subst e;exact hO
  .exact dZ.of_env (hE x e)
 have hops:∀op∈Cd 0 g.frame.fn g.frame.place es,op.g=0:=λop hop=>by obtain⟨e,_,rfl⟩:=B2 hop;rfl
 have hA:Apart (dP (ShW S Wg)) (uS p m j V') (RdF m j V'):=wU hV hm (λk hk=>(hold k).hole (h.hC k hk)) (λk hk b hb=>(hold k).hole (h.hS k hk b hb)) λhs=>hs.elim G.S λe=>by have:=G.C;omega
 refine⟨hm,by simp[h.size],λi' hi'=>?_,λi' h1 h2=>?_,λi' hi'=>?_,?_,?_,?_,λi' hi'=>?_,λi' hi' hs=>?_,λi' hi' hs r hr=>?_,hK.pay,hV,λk hk b hb=>(hold k).whole' (h.low k hk b hb),λk hk=>(hold k).hole (h.hC k hk),λk hk b hb=>(hold k).hole (h.hS k hk b hb),
  λb hb hne=>(hK.stay b hb hne).trans (h.stay b hb hne),⟨hK.like.1.trans h.like.1,hK.like.2.1.trans h.like.2.1,hK.like.2.2.trans h.like.2.2⟩,?_,?_,?_,aAh h.seen hK.size λop hop=>by obtain⟨e,he,rfl⟩:=B2 hop;exact hlow e he⟩
 .obtain⟨g1,hg1,hs1⟩:=h.wk i' hi'
  refine⟨g1,?_,by rw[BD R _ (by omega)];exact hs1.env (hE _ (by omega))⟩
  rw[AI (by omega),B6,hg1]
  simp[hs1.woken]
 .obtain⟨g1,q,hg1,hr,hq⟩:=h.old i' h1 h2
  refine⟨g1,q,?_,by rw[BD R _ (by omega)];exact hr,by rw[Deaf_other t (by omega) _ hops];exact hq⟩
  rw[AI (by omega),B6,hg1]
  simp[woken_quitsD hq]
 .rw[Deaf_other t (g':=0) (by omega) _ hops];exact h.above i' hi'
 .refine ConcN.CT.app0 hA (aDo h.ct h.seen (λk h1 h2=>(h.vws.sim k (.inr ⟨h1,h2⟩)).size) λk _ _=>hold k) λop hop=>?_
  obtain⟨e,he,rfl⟩:=B2 hop
  exact hok e he _ _
 .exact h.norel.app (ConcN.norel_of hnr)
 .rw[Deaf_own,h.deaf0]
 .rw[Deaf_other t (g':=0) (by omega) _ hops,h.deafW i' hi']
 .obtain⟨r,hr⟩:=h.rel i' hi' hs
  exact⟨r,hr.appOther hops (by omega)⟩
 .rw[hho i' hi' r hr];exact h.has i' hi' hs r hr
 .exact aJk h.kn λop hop a ha=>.inl (hops op hop)
 .refine aAg h.mem λop hop a ha=>?_
  obtain⟨e,he,rfl⟩:=B2 hop
  exact hat e he a ha
 .exact vG h.over λop hop=>.inl (hops op hop)
def Com.stepO(h:Com P L Wg p S w0 m j gs w t D R V d0)(G:Geo Wg p S){i q:Ae}(h0:0<i)(him:i<m){g g':Ay}{es:Aw C5}
 (hg:gs[i]? = Aa g) (hm':∀e∈es,ER e=Ak) (hq':QuitsD P q (deafBehind (Deaf t i) es) g') :
 Com P L Wg p S w0 m j ((gs.map (woken P g g' w)).setIfInBounds i g') w (t++Cd i g.frame.fn g.frame.place es) D (By R i (Tr.nat q)) V d0:=by
 have hm:=h.mpos
 have hlt:i<gs.size:=(Bm.1 hg).1
 have hops:∀op∈Cd i g.frame.fn g.frame.place es,op.g=i:=λop hop=>by obtain⟨e,_,rfl⟩:=B2 hop;rfl
 have hnt:∀op∈Cd i g.frame.fn g.frame.place es,op.act.touch? = none:=λop hop=>by obtain⟨e,he,rfl⟩:=B2 hop;exact touch_mute (hm' e he)
 refine⟨hm,by simp[h.size],λi' hi'=>?_,λi' h1 h2=>?_,λi' hi'=>?_,?_,?_,?_,λi' hi'=>?_,λi' hi' hs=>?_,h.has,h.pay,h.vws,h.low,h.hC,h.hS,h.stay,h.like,aJk h.kn λop hop a ha=>?_,aAg h.mem λop hop a ha=>?_,vG h.over λop hop=>.inr (.inr (hnt op hop)),aAh h.seen (AM _) λop hop=>?_⟩
 .obtain⟨g1,hg1,hs1⟩:=h.wk i' hi'
  refine⟨g1,?_,by rw[BD R _ (by omega)];exact hs1⟩
  rw[AI (by omega),B6,hg1]
  simp[hs1.woken]
 .by_cases e:i'=i
  .subst e
   refine⟨g',q,by rw[Ce (by simpa using hlt)],by rw[Bx],by rw[Deaf_own];exact hq'⟩
  .obtain⟨g1,q1,hg1,hr,hq⟩:=h.old i' h1 h2
   refine⟨g1,q1,?_,by rw[BD R _ e];exact hr,by rw[Deaf_other t (by omega) _ hops];exact hq⟩
   rw[AI (by omega),B6,hg1]
   simp[woken_quitsD hq]
 .rw[Deaf_other t (g':=i) (by omega) _ hops];exact h.above i' hi'
 .refine ConcN.CT.appW (h.apart G) h.ct (k:=i) (by omega) (by omega) λop hop=>⟨hops op hop,λx hx=>by rw[hnt op hop]at hx;cases hx⟩
 .refine h.norel.app λop hop e=>?_
  obtain⟨x,hx,rfl⟩:=B2 hop
  have:=hm' x hx
  have e':=Go.ConcR.loc_of_ofEvent e
  obtain⟨loc,wr,sy⟩:=x
  simp only at e'
  subst e'
  simp[ER]at this
 .rw[Deaf_other t (g:=0) (g':=i) (by omega) _ hops];exact h.deaf0
 .rw[Deaf_other t (g':=i) (by omega) _ hops,h.deafW i' hi']
 .obtain⟨r,hr⟩:=h.rel i' hi' hs
  exact⟨r,hr.appOther hops (by omega)⟩
 .rw[hnt op hop]at ha;cases ha
 .rw[hnt op hop]at ha;cases ha
 .obtain⟨e,he,rfl⟩:=B2 hop
  exact low_mute (hm' e he) _
def Com.at(h:Com P L Wg p S w0 m j gs w t D R V d0)(d:Ae):Com P L Wg p S w0 m j gs (w.at d) t D R (λx=>jD (V x) (w.at d)) d0 where
 mpos:=h.mpos
 size:=h.size
 wk i hi:=let ⟨g,h1,h2⟩:=h.wk i hi;⟨g,h1,h2.env (cL _ _)⟩
 old:=h.old
 above:=h.above
 ct:=aDo h.ct h.seen (λk h1 h2=>(h.vws.sim k (.inr ⟨h1,h2⟩)).size) λk _ _=>dZ.of_env (cL _ _)
 norel:=h.norel
 deaf0:=h.deaf0
 deafW:=h.deafW
 rel:=h.rel
 has:=h.has
 pay:=h.pay
 vws:=h.vws.aside rfl rfl rfl rfl λ_ _ _ _ _ _=>rfl
 low k hk b hb:=(dZ.of_env (cL _ _)).whole' (h.low k hk b hb)
 hC k hk:=mM (h.hC k hk)
 hS k hk b hb:=mM (h.hS k hk b hb)
 stay:=h.stay
 like:=h.like
 kn:=h.kn
 mem:=h.mem
 over:=h.over
 seen:=h.seen
end
end Go.Am
namespace Go.Am
open Go.Conc Go.Conc.Lib
open Go.ConcN (CT Apart Ok0 OkW PermW RelBy CTag phi WD Vc Ssum sumTo sumTo_upd OpenSt AllQuit isOpen isW3 isFin pend phi_mono phi_retag le_sumTo Vc_le Vc_upd others_uncounted bk_cell)
open Go.ConcR (KK wgBlock stA smA rd wr mk Bk bk_of_mute ofEvent_loc_mark ofEvent_cell ofEvent_mk)
inductive LLt:Ad Tr->Ad Tr->Prop
 |head {x y:Tr} {l:Ad Tr}:uP x y->LLt (x::l) (y::l)
 |tail {x:Tr} {l l':Ad Tr}:LLt l l'->LLt (x::l) (x::l')
def bHt{x:Tr}(hx:Acc uP x):∀l,Acc LLt l->Acc LLt (x::l):=by
 induction hx with
 | intro x _ ihx =>
  intro l hl;induction hl with
  | intro l hl' ihl =>
   refine⟨_,λy hy=>?_⟩;cases hy with
   |head h=>exact ihx _ h l ⟨_,hl'⟩
   |tail h=>exact ihl _ h
def aWb:∀l:Ad Tr,Acc LLt l
 |[]=>⟨_,λy hy=>by cases hy⟩
 |x::l=>bHt (aLg x) l (aWb l)
def bRu{l:Ad Ae}{f f':Ae->Tr}{k:Ae}(hk:k∈l)(hn:l.Nodup)(h:uP (f' k) (f k))(he:∀x∈l,x≠k->f' x=f x):LLt (l.map f') (l.map f):=by
 induction l with
 |nil=>cases hk
 | cons x l ih =>
  have hn':=List.nodup_cons.1 hn;by_cases e:x=k
  .subst e;have:l.map f'=l.map f:=DF λy hy=>he y (by simp[hy]) λe=>hn'.1 (e ▸ hy)
   rw[BX,BX,this];exact .head h
  .rw[BX,BX,he x (by simp) e];exact .tail (ih (by simpa[DZ e]using hk) hn'.2 λy hy=>he y (by simp[hy]))
abbrev Mu:=Ae×(Ad Tr×Tr)
def MLt:Mu->Mu->Prop:=Prod.Lex (·<·) (Prod.Lex LLt uP)
def bYw:WellFounded MLt:=(Prod.lex ⟨(·<·),Nat.lt_wfRel.wf⟩ (Prod.lex ⟨LLt,⟨aWb⟩⟩ ⟨uP,⟨aLg⟩⟩)).wf
def kD(R:Ae->Tr)(N:Ae):Ad Tr:=(D8 1 (N-1)).map R
def aMc{R R':Ae->Tr}{N k:Ae}(h1:1<=k)(h2:k<N)(h:uP (R' k) (R k))(he:∀x,x≠0->x≠k->R' x=R x):LLt (kD R' N) (kD R N) :=
 bRu (k:=k) (by simp[GZ];omega) (List.nodup_range' (step:=1)) h λx hx hne=>he x (by simp[GZ]at hx;omega) hne
def bFy{R R':Ae->Tr}{N:Ae}(he:∀x,x≠0->R' x=R x):kD R' N=kD R N :=
 DF λx hx=>he x (by simp[GZ]at hx;omega)
def xC(Wg m j:Ae)(t:Trace):Prop :=
 ∃q,t.act? q=Aa (.mark (.acquire (stA Wg)))/\t.g? q=Aa 0/\t.heard q/\∀i,i<j->∃r,RelBy (stA Wg) t (m+i) r/\r<q
def xC.app{Wg m j:Ae}{t u:Trace}(h:xC Wg m j t)(hu:∀i r,i<j->RelBy (stA Wg) t (m+i) r->RelBy (stA Wg) (t++u) (m+i) r):xC Wg m j (t++u):=by obtain⟨q,h1,h2,h3,h4⟩:=h;have hq:=lt_of_act? h1;exact⟨q,by rw[act?_old hq];exact h1,by rw[g?_old hq];exact h2,(heard_old hq).2 h3,λi hi=>let ⟨r,hr,hrq⟩:=h4 i hi;⟨r,hu i r hi hr,hrq⟩⟩
section
variable (P:As) (L:WgLink) (Wg:Ae) (p:Pl) (K An:Ay->Prop) (S:Ae->Prop) (w0:Ag) (m:Ae)
def Inv(μ:Mu)(M:Machine)(t:Trace):Prop :=
 ∃(gs:Aw Ay) (w:Ag) (sl:Aq (Ae×Ae)) (j:Ae) (D:Ae->WD) (R:Ae->Tr) (V:Ae->Ag) (tag:CTag) (d0:Ae) (a:Ay) (st sm:Al),
  M=crowd gs w sl/\gs[0]? = Aa a/\CS P L Wg p K An tag j (R 0) d0 a (V 0)/\Com P L Wg p S w0 m j gs w t D R V d0/\w.heap[Wg]? = Aa (wgBlock L.tWg st sm)/\ES j D tag st sm /\
  (tag=.ret->xC Wg m j t)/\μ=(phi p.n (Vc j D) tag+Ssum j D,kD R (m+j),R 0)
end
section
variable {P:As} {L:WgLink} {Wg:Ae} {p:Pl} {K An:Ay->Prop} {S:Ae->Prop} {w0:Ag} {m j:Ae} {gs:Aw Ay} {w w':Ag} {sl:Aq (Ae×Ae)} {t:Trace} {D:Ae->WD} {R:Ae->Tr} {V V':Ae->Ag} {tag:CTag} {d0:Ae} {a:Ay} {st sm:Al}
def oV(hKr:∀g,K g->g.status=.running)(G:Geo Wg p S)
 (ha:gs[0]? = Aa a) (hcs:CS P L Wg p K An tag j (R 0) d0 a (V 0)) (hcom:Com P L Wg p S w0 m j gs w t D R V d0)
 {i:Ae} (hi:i<j) {g g':Ay} {es:Aw C5} {s' dd':Ae} {r':Tr} {st' sm':Al} (hg:gs[m+i]? = Aa g) (hgo:stepG P Az g w=.go g' w' es)
 (hK:aHr p Wg w w') (hV:Vws (iK m j) V' w') (hE:∀x,x≠m+i->Env (V x) (V' x)) (hO:dZ (V (m+i)) (V' (m+i)))
 (hs':WS P L Wg p i s' r' dd' g' (V' (m+i))) (hdd:deafBehind (D i).deaf es=dd')
 (hok:∀e∈es,∀fn pos,OkW (dP (ShW S Wg)) (uS p m j V') (RdF m j V') (m+i) { g:=m+i,fn,pos,act:=.ofEvent e })
 (hat:∀e∈es,∀x,(BA e).touch? = Aa x->x.loc.isMemory=Ak/\((dP (ShW S Wg) x.loc/\x.kind=.atomic)\/x.kind≠.atomic))
 (hnr:∀e∈es,e.loc≠.mark (.release (stA Wg))) (hlow:∀e∈es,(BA e).low w'.heap.size)
 (hrel:s'<=5->∃r,RelBy (stA Wg) (t++Cd (m+i) g.frame.fn g.frame.place es) (m+i) r)
 (hhas:s'<=6->∀r,r<p.wd->w'.cell? (p.cell i r)=Aa (p.val i r)) (hho:∀i',i'<j->i'≠i->∀r,r<p.wd->w'.cell? (p.cell i' r)=w.cell? (p.cell i' r))
 (hwg:w'.heap[Wg]? = Aa (wgBlock L.tWg st' sm'))
 (hmode:∀tag',(tag'=tag\/(tag=.blk/\tag'=.w3))->(mayWake P g=Ak->g'.status=.running->tag'≠.blk)->ES j (By D i ⟨s',0,dd'⟩) tag' st' sm')
 (hacq:tag=.ret->xC Wg m j (t++Cd (m+i) g.frame.fn g.frame.place es))
 (hlt:(s'<(D i).stage/\CE ⟨s',0,dd'⟩<=CE (D i))\/(s'=(D i).stage/\uP r' (R (m+i)))) :
 ∃M ops μ',runT P (crowd gs w sl) (m+i)=(.next M,ops)/\MLt μ' (phi p.n (Vc j D) tag+Ssum j D,kD R (m+j),R 0)/\Inv P L Wg p K An S w0 m μ' M (t++ops):=by
 have hm:=hcom.mpos
 obtain⟨tag',r0,hcs',htag,hwk⟩:=(hcs.env (hE 0 (by omega))).wokenBy hKr g g' w'
 have hrun:=runT_crowd_go (P:=P) (sl:=sl) (i:=m+i) hg (by rw[show(m+i==0)=Az by simp;omega];exact hgo)
 have e1:=sumTo_upd D (⟨s',0,dd'⟩:WD) CE hi
 have e2:=sumTo_upd D (⟨s',0,dd'⟩:WD) WD.stage hi
 have hcom':=hcom.stepW G hi hg hK hV hE hO hs' hdd hok hat hnr hlow hrel hhas hho
 have hcom'':Com P L Wg p S w0 m j ((gs.map (woken P g g' w')).setIfInBounds (m+i) g') w' (t++Cd (m+i) g.frame.fn g.frame.place es) (By D i ⟨s',0,dd'⟩) (By (By R (m+i) r') 0 r0) V' d0 :=
  { hcom' with wk:=λi' hi'=>by rw[BD (By R (m+i) r') r0 (show m+i'≠0 by omega)];exact hcom'.wk i' hi',old:=λi' h1 h2=>by rw[BD (By R (m+i) r') r0 (show i'≠0 by omega)];exact hcom'.old i' h1 h2 }
 refine⟨_,_,(phi p.n (Vc j (By D i ⟨s',0,dd'⟩)) tag'+Ssum j (By D i ⟨s',0,dd'⟩),kD (By (By R (m+i) r') 0 r0) (m+j),r0),hrun,?_,
  _,w',sl,j,By D i ⟨s',0,dd'⟩,By (By R (m+i) r') 0 r0,V',tag',d0,woken P g g' w' a,st',sm',rfl,?_,by rw[Bx];exact hcs',hcom'',hwg,hmode tag' htag hwk,?_,by rw[Bx]⟩
 .rw[phi_retag p.n _ htag]
  simp only[Vc,Ssum]at *
  rcases hlt with ⟨h1,h2⟩|⟨h1,h2⟩
  .refine FM _ _ ?_
   have:=phi_mono p.n (v':=sumTo j λa=>CE (By D i ⟨s',0,dd'⟩ a)) (v:=sumTo j λa=>CE (D a)) (by omega) tag
   omega
  .have ec:CE (⟨s',0,dd'⟩:WD)=CE (D i):=by simp only[CE,h1]
   have ev:(sumTo j λa=>CE (By D i ⟨s',0,dd'⟩ a))=sumTo j λa=>CE (D a):=by omega
   have es':(sumTo j λa=>(By D i ⟨s',0,dd'⟩ a).stage)=sumTo j λa=>(D a).stage:=by omega
   rw[ev,es']
   refine GQ _ (FM _ _ (aMc (k:=m+i) (by omega) (by omega) ?_ λx h0 hx=>by rw[BD _ _ h0,BD _ _ hx]))
   rw[BD _ _ (by omega),Bx];exact h2
 .rw[AI (by omega),B6,ha];rfl
 .intro e
  rcases htag with rfl|⟨_,rfl⟩
  .exact hacq e
  .cases e
def bGn{k:Ae}{Own Rd:Ae->Loc->Prop}{e:C5}(h:Bk Wg e)(fn:AU)(pos:String):OkW (dP (ShW S Wg)) Own Rd k { g:=k,fn,pos,act:=.ofEvent e }:=by
 refine⟨rfl,λx hx=>?_⟩;rcases h with h1|h1|⟨a,wr,rfl,ha⟩
 .simp only[ofEvent_loc_mark h1]at hx;cases hx
 .simp only[ofEvent_loc_mark h1]at hx;cases hx
 .simp only[ofEvent_cell,BY,AH]at hx;subst hx;exact .inl ⟨.inr ha,by simp,by simp⟩
def aRt{N:Ae}{Own Rd:Ae->Loc->Prop}{e:C5}(h:Bk Wg e)(fn:AU)(pos:String):Ok0 (dP (ShW S Wg)) Own Rd N { g:=0,fn,pos,act:=.ofEvent e }:=by
 refine⟨rfl,λx hx=>?_⟩;rcases h with h1|h1|⟨a,wr,rfl,ha⟩
 .simp only[ofEvent_loc_mark h1]at hx;cases hx
 .simp only[ofEvent_loc_mark h1]at hx;cases hx
 .simp only[ofEvent_cell,BY,AH]at hx;subst hx;exact .inl ⟨.inr ha,by simp⟩
def bLx{e:C5}(h:Bk Wg e):∀x,(BA e).touch? = Aa x->x.loc.isMemory=Ak/\((dP (ShW S Wg) x.loc/\x.kind=.atomic)\/x.kind≠.atomic):=by
 intro x hx;rcases h with h1|h1|⟨a,wr,rfl,ha⟩
 .simp only[ofEvent_loc_mark h1]at hx;cases hx
 .simp only[ofEvent_loc_mark h1]at hx;cases hx
 .simp only[ofEvent_cell,BY,AH]at hx;subst hx;exact⟨rfl,.inl ⟨.inr ha,by simp⟩⟩
def aNa{e:C5}(h:Bk Wg e):e.loc≠.mark (.release (stA Wg)):=by
 intro hl;rcases h with h1|h1|⟨a,wr,rfl,_⟩
 .rw[h1]at hl;cases hl
 .rw[h1]at hl;cases hl
 .cases hl
def aSb{e:C5}(h:Bk Wg e){B:Ae}(hB:Wg<B):(BA e).low B:=by
 rcases h with h1|h1|⟨a,wr,rfl,ha⟩
 .rw[ofEvent_loc_mark h1];trivial
 .rw[ofEvent_loc_mark h1];trivial
 .rw[ofEvent_cell];simp only[MemAct.low,Loc.low];omega
structure iQ(Wg:Ae)(w w':Ag):Prop where
 tape:w'.tape=w.tape
 os:w'.os=w.os
 output:w'.output=w.output
 size:w'.heap.size=w.heap.size
 block:∀b,b≠Wg->w'.heap[b]? = w.heap[b]?
def iQ.refl(Wg:Ae)(w:Ag):iQ Wg w w:=⟨rfl,rfl,rfl,rfl,λ_ _=>rfl⟩
def iQ.set(Wg:Ae)(w:Ag)(o:Ae)(x:AE):iQ Wg w (w.setCell ⟨Wg,o,Aj⟩ x):=⟨rfl,rfl,rfl,by simp[FJ],λb hb=>by rw[dO,Ap hb]⟩
def xK{Wg:Ae}{w:Ag}{ty:AF}{st sm:Al}(h:w.heap[Wg]? = Aa (wgBlock ty st sm))(x:Al):(w.setCell (stA Wg) (.int .u64 x)).heap[Wg]? = Aa (wgBlock ty x sm):=by rw[dO,AB (show Wg=(stA Wg).block from rfl),h];simp[bPf,wgBlock,stA]
def bEo{Wg:Ae}{w:Ag}{ty:AF}{st sm:Al}(h:w.heap[Wg]? = Aa (wgBlock ty st sm))(x:Al):(w.setCell (smA Wg) (.int .u32 x)).heap[Wg]? = Aa (wgBlock ty st x):=by rw[dO,AB (show Wg=(smA Wg).block from rfl),h];simp[bPf,wgBlock,smA]
def iQ.kept(h:iQ Wg w w')(G:Geo Wg p S)(hp:bCb p w):aHr p Wg w w' :=
 ⟨GJ h.size.symm,λb hb _=>h.block b (by omega),⟨h.tape,h.os,h.output⟩,by obtain⟨cs,f,h1,h2⟩:=hp;exact⟨cs,f,(h.block p.C (by have:=G.C;omega)).trans h1,h2⟩⟩
def iQ.cells(h:iQ Wg w w')(G:Geo Wg p S)(i r:Ae):w'.cell? (p.cell i r)=w.cell? (p.cell i r):=by have:=h.block p.C (by have:=G.C;omega);simp[BN,Pl.cell,this]
def Com.turn(hcom:Com P L Wg p S w0 m j gs w t D R V d0)(h:iQ Wg w w'):Vws (iK m j) (λx=>jD (V x) w') w' :=
 hcom.vws.aside h.size h.tape h.os h.output λk hk b o ho hne=>h.block b λe=>by subst e;rw[hcom.hS k hk b (.inr rfl)]at ho;exact hne (BC ho).symm
def aDw(hKr:∀g,K g->g.status=.running)(G:Geo Wg p S)(ha:gs[0]? = Aa a)(hcs:CS P L Wg p K An tag j (R 0) d0 a (V 0))(hcom:Com P L Wg p S w0 m j gs w t D R V d0)
 {i:Ae} (hi:i<j) {g g':Ay} {es:Aw C5} {s' dd':Ae} {r':Tr} {st' sm':Al} (hg:gs[m+i]? = Aa g) (hgo:stepG P Az g w=.go g' w' es)
 (hT:iQ Wg w w') (hwg:w'.heap[Wg]? = Aa (wgBlock L.tWg st' sm')) (hbk:∀e∈es,Bk Wg e)
 (hd:∀jx e,es[jx]? = Aa e->(BA e).touch? = Aj\/0<deafBehind (D i).deaf (es.extract 0 jx))
 (hs':∀v,WS P L Wg p i s' r' dd' g' v) (hdd:deafBehind (D i).deaf es=dd') (h6:(D i).stage<=6) (h5:s'<=5->(D i).stage<=5)
 (hmode:∀tag',(tag'=tag\/(tag=.blk/\tag'=.w3))->(mayWake P g=Ak->g'.status=.running->tag'≠.blk)->ES j (By D i ⟨s',0,dd'⟩) tag' st' sm')
 (hacq:tag=.ret->xC Wg m j (t++Cd (m+i) g.frame.fn g.frame.place es))
 (hlt:(s'<(D i).stage/\CE ⟨s',0,dd'⟩<=CE (D i))\/(s'=(D i).stage/\uP r' (R (m+i)))) :
 ∃M ops μ',runT P (crowd gs w sl) (m+i)=(.next M,ops)/\MLt μ' (phi p.n (Vc j D) tag+Ssum j D,kD R (m+j),R 0)/\Inv P L Wg p K An S w0 m μ' M (t++ops):=by
 have hdk:Deaf t (m+i)=(D i).deaf:=hcom.deafW i hi
 have hlt':Wg<w'.heap.size:=bL hwg
 exact oV hKr G ha hcs hcom hi hg hgo (hT.kept G hcom.pay) (hcom.turn hT) (λx _=>cL _ _) (dZ.of_env (cL _ _)) (hs' _) hdd
  (λe he fn pos=>bGn (hbk e he) fn pos) (λe he=>bLx (hbk e he)) (λe he=>aNa (hbk e he)) (λe he=>aSb (hbk e he) hlt')
  (λh=>let ⟨r,hr⟩:=hcom.rel i hi (h5 h);⟨r,hr.book hdk _ _ hbk hd⟩) (λ_ r hr=>(hT.cells G i r).trans (hcom.has i hi h6 r hr)) (λi' _ _ r _=>hT.cells G i' r) hwg hmode hacq hlt
end
def bAt{v:Ag}{e:C5}(h:EvV v e){x:Touch}(hx:(BA e).touch? = Aa x):x.kind=.plain:=by
 obtain⟨loc,wr,sy⟩:=e;rcases h with ⟨a,c,t,f,h1,h2,_⟩|⟨r,o,h1,h2,_⟩|h
 .simp only at h1 h2;subst h1;subst h2;simp[BA,BY]at hx;subst hx;rfl
 .simp only at h1 h2;subst h1;subst h2;simp[BA,BY]at hx;subst hx;rfl
 .injection h with e1 e2 e3;subst e1;subst e2;subst e3
  simp[BA,BY]at hx
def bJq{v:Ag}{e:C5}(h:EvV v e)(a:Addr):e.loc≠.mark (.release a):=by
 rcases h with ⟨a,c,t,f,h1,_⟩|⟨r,o,h1,_⟩|rfl
 .rw[h1];simp
 .rw[h1];simp
 .simp
section
variable {P:As} {L:WgLink} {Wg:Ae} {p:Pl} {K An:Ay->Prop} {S:Ae->Prop} {w0:Ag} {m j:Ae} {gs:Aw Ay} {w w':Ag} {sl:Aq (Ae×Ae)} {t:Trace} {D:Ae->WD} {R:Ae->Tr} {V V':Ae->Ag} {tag:CTag} {d0:Ae} {a:Ay} {st sm:Al}
def Com.keptQ(hcom:Com P L Wg p S w0 m j gs w t D R V d0)(G:Geo Wg p S){k:Ae}(hk:iK m j k){Rm:C5->Prop}{v':Ag}{es:Aw C5}(hq:aEi Rm (V k) w v' w' es) :
 aHr p Wg w w'/\w'.heap[Wg]? = w.heap[Wg]? /\ w'.heap[p.C]? = w.heap[p.C]? := by
 have hs:=hcom.vws.sim k hk
 have hsz:(V k).heap.size=w.heap.size:=hs.size
 have hge:=hq.ext.size
 have hsz':=hq.sim.size
 have hC:w'.heap[p.C]? = w.heap[p.C]? := hq.rest _ #[] 0 (hcom.hC k hk)
 refine⟨⟨by omega,λb hb hne=>?_,⟨by rw[<-hq.sim.tape,hq.ext.tape,hs.tape],by rw[<-hq.sim.os,hq.ext.os,hs.os],by rw[<-hq.sim.output,hq.ext.output,hs.output]⟩,?_⟩,hq.rest _ #[] 0 (hcom.hS k hk _ (.inr rfl)),hC⟩
 .obtain⟨c,ty,h⟩:=hcom.low k hk b (by omega)
  exact hq.rest b c ty h
 .obtain⟨cs,f,h1,h2⟩:=hcom.pay
  exact⟨cs,f,hC.trans h1,h2⟩
def aQm(hKr:∀g,K g->g.status=.running)(G:Geo Wg p S)(hn:p.n<2147483648)(hjn:j+pend tag<=p.n)
 (ha:gs[0]? = Aa a) (hcs:CS P L Wg p K An tag j (R 0) d0 a (V 0)) (hcom:Com P L Wg p S w0 m j gs w t D R V d0) (hwg:w.heap[Wg]? = Aa (wgBlock L.tWg st sm)) (hmode:ES j D tag st sm)
 (hacq:tag=.ret->xC Wg m j t) {i:Ae} (hi:i<j) {g:Ay} (hg:gs[m+i]? = Aa g) (hrun:g.status=.running) :
 ∃M ops μ',runT P (crowd gs w sl) (m+i)=(.next M,ops)/\MLt μ' (phi p.n (Vc j D) tag+Ssum j D,kD R (m+j),R 0)/\Inv P L Wg p K An S w0 m μ' M (t++ops):=by
 obtain⟨g₁,hg₁,hs⟩:=hcom.wk i hi
 obtain rfl:g=g₁:=by rw[hg]at hg₁;exact BC hg₁
 have hm:=hcom.mpos
 have hact:iK m j (m+i):=.inr ⟨by omega,by omega⟩
 have hVj:=Vc_le j D
 have hdk:Deaf t (m+i)=(D i).deaf:=hcom.deafW i hi
 have hI:cQ L.tWg Wg w:=⟨st,sm,hwg⟩
 generalize hst:(D i).stage=s at hs
 generalize hR:R (m+i)=r at hs
 generalize hde:(D i).deaf=dd at hs
 have nr:s≠1->tag≠.ret:=λh=>hmode.not_ret hi (by omega)
 -- idle steps behind the working stage
 have idle:∀{g':Ay} {es:Aw C5} {k:Ae},stepG P Az g w=.go g' w es->(∀e∈es,ER e=Ak\/noE e)->(∀v,WS P L Wg p i s (Tr.nat k) (deafBehind dd es) g' v)->r=Tr.nat (k+1)->s<=6 ->
  ∃M ops μ',runT P (crowd gs w sl) (m+i)=(.next M,ops)/\MLt μ' (phi p.n (Vc j D) tag+Ssum j D,kD R (m+j),R 0)/\Inv P L Wg p K An S w0 m μ' M (t++ops):=by
  intro g' es k hgo hmu hs' hr h6
  have hmu':∀e∈es,ER e=true:=λe he=>(hmu e he).resolve_right id
  have hbk:∀e∈es,Bk Wg e:=λe he=>bk_of_mute (hmu' e he)
  have hno:∀jx e,es[jx]? = Aa e->(BA e).touch? = Aj\/0<deafBehind (D i).deaf (es.extract 0 jx):=λjx e he=>.inl (touch_mute (hmu' e (B7 he)))
  refine aDw hKr G ha hcs hcom hi hg hgo (.refl Wg w) hwg hbk hno (s':=s) hs' (by rw[hde]) (by omega) (λh=>by omega) (λtag' ht _=>?_) (λe=>?_) (.inr ⟨hst.symm,by rw[hR,hr];exact jI k⟩)
  .have:=hmode.same (i:=i) 0 (deafBehind dd es)
   rw[hst]at this
   exact this.retag ht
  .refine(hacq e).app λi' r' hi' hr'=>?_
   by_cases e':i'=i
   .subst e';exact hr'.book hdk _ _ hbk hno
   .exact hr'.appOther Fb (by omega)
 cases hs with
 | work h =>
  cases htr:r with
  | node f =>
   rw[htr]at h
   obtain⟨_,hv,hst'⟩:=h
   obtain⟨g',v',w',es,hgo,hq,hgt⟩:=hst' (V (m+i)) w (.refl _) (hcom.vws.sim _ hact) trivial
   obtain⟨hK,hW,hC⟩:=hcom.keptQ G hact hq
   have hput:aEy V (m+i) v' w' (m+i)=v':=lX _ _ _ _
   have hev:∀e∈es,EvV v' e\/ER e=true:=λe he=>(hq.evs e he).imp id λx=>x.resolve_right id
   have hcell:∀i' r,w'.cell? (p.cell i' r)=w.cell? (p.cell i' r):=λi' r=>by simp[BN,Pl.cell,hC]
   have hlt':Wg<w'.heap.size:=bL (hW.trans hwg)
   refine oV hKr G ha hcs hcom hi hg hgo (V':=aEy V (m+i) v' w') hK (hcom.vws.step hact hq) (λx hx=>by rw[pB V _ _ hx];exact cL _ _) (by rw[hput];exact dZ.of_ext hq.ext hv)
    (s':=7) (r':=f (V (m+i),w)) (dd':=deafBehind dd es) (.work (by rw[hput];exact hgt)) (by rw[hde])
    (λe he fn pos=>?_) (λe he x hx=>?_) (λe he=>?_) (λe he=>?_) (λh=>by omega) (λh=>by omega) (λi' _ _ r _=>hcell i' r) (hW.trans hwg) (λtag' ht _=>?_) (λe=>absurd e (nr (by omega))) (.inr ⟨hst.symm,?_⟩)
   .rcases hev e he with h1|h1
    .exact bQw (by omega) (by omega) (by rw[hput];exact h1) fn pos
    .exact bGn (bk_of_mute h1) fn pos
   .rcases hev e he with h1|h1
    .exact⟨(aJu h1 hx).1,.inr (by rw[bAt h1 hx];simp)⟩
    .rw[touch_mute h1]at hx;cases hx
   .rcases hev e he with h1|h1
    .exact bJq h1 _
    .exact aNa (bk_of_mute h1)
   .rcases hev e he with h1|h1
    .exact aVy (GJ hq.sim.size) h1
    .exact low_mute h1 _
   .have:=hmode.same (i:=i) 0 (deafBehind dd es)
    rw[hst]at this
    exact this.retag ht
   .rw[hR,htr];exact sD f _
  | leaf =>
   rw[htr]at h
   obtain⟨hd,_,hput⟩:=h
   obtain⟨g',w',es,hgo,hp,hes,hdl⟩:=hput w hcom.pay
   obtain⟨n,hdn⟩:=hdl.count
   have hd0:deafBehind dd es=0:=by rw[deafBehind_still λe he=>by obtain⟨r,_,rfl⟩:=hes e he;exact⟨by simp,by simp⟩];exact hd
   have hCl:p.C<w'.heap.size:=by obtain⟨cs,f,h1,_⟩:=hp.pay;exact bL h1
   have hW:w'.heap[Wg]? = w.heap[Wg]? := hp.block Wg (by have:=G.C;omega)
   refine oV hKr G ha hcs hcom hi hg hgo (V':=λx=>jD (V x) w') ⟨GJ hp.size.symm,λb _ hne=>hne.elim (hp.block b) λe=>absurd e (by have:=Nat.mul_pos (show 0<p.n by omega) p.pos;have:=p.le;omega),⟨hp.tape,hp.os,hp.output⟩,hp.pay⟩
    (hcom.vws.aside hp.size hp.tape hp.os hp.output λk hk b o ho hne=>hp.block b λe=>by subst e;rw[hcom.hC k hk]at ho;exact hne (BC ho).symm) (λx _=>cL _ _) (dZ.of_env (cL _ _))
    (s':=6) (dd':=0) (.rel hdn) (by rw[hde];exact hd0) (λe he fn pos=>?_) (λe he x hx=>?_) (λe he=>?_) (λe he=>?_) (λh=>by omega) (λ_ r hr=>hp.new r hr) (λi' hi' hne r hr=>?_) (hW.trans hwg)
    (λtag' ht _=>(hmode.counted hi (by omega) (.inl rfl) _ _).retag ht) (λe=>absurd e (nr (by omega))) (.inl ⟨by omega,by simp[CE,hst]⟩)
   .obtain⟨r,hr,rfl⟩:=hes e he
    refine⟨rfl,λx hx=>?_⟩
    simp only[ofEvent_cell,BY,AH]at hx
    subst hx
    exact .inr (.inl ⟨by omega,by omega,.inr ⟨r,hr,by simp⟩⟩)
   .obtain⟨r,hr,rfl⟩:=hes e he
    simp only[ofEvent_cell,BY,AH]at hx
    subst hx
    exact⟨rfl,.inr (by simp)⟩
   .obtain⟨r,hr,rfl⟩:=hes e he
    simp
   .obtain⟨r,hr,rfl⟩:=hes e he
    rw[ofEvent_cell];exact hCl
   .refine hp.cells _ ?_
    rcases Nat.lt_or_gt_of_ne hne with h1|h1
    .left
     have:(i'+1)*p.wd<=i*p.wd:=Ck _ h1
     rw[Nat.add_mul]at this;omega
    .right
     have:(i+1)*p.wd<=i'*p.wd:=Ck _ h1
     omega
 | rel h =>
  rcases h.cases with ⟨_,hd,g',hgo,hdl⟩|⟨n',rfl,_,g',es,hmu,hgo,h'⟩
  .obtain⟨n,hdn⟩:=hdl.count
   have hlt':Wg<w.heap.size:=bL hwg
   refine oV hKr G ha hcs hcom hi hg (hgo w hI) (V':=V) ((iQ.refl Wg w).kept G hcom.pay) hcom.vws (λx _=>.refl _) (dZ.of_env (.refl _)) (s':=5) (dd':=0) (.sub hdn) (by rw[hde,hd];rfl)
    (λe he fn pos=>?_) (λe he x hx=>?_) (λe he=>?_) (λe he=>?_) (λ_=>⟨t.size,ConcN.RelBy.new (by rw[hdk,hde,hd]) _ _⟩) (λ_ r hr=>hcom.has i hi (by omega) r hr) (λ_ _ _ _ _=>rfl) hwg
    (λtag' ht _=>(hmode.counted hi (by omega) (.inr rfl) _ _).retag ht) (λe=>absurd e (nr (by omega))) (.inl ⟨by omega,by simp[CE,hst]⟩)
   .simp at he;subst he;exact⟨rfl,λx hx=>by simp[ofEvent_mk,BY]at hx⟩
   .simp at he;subst he;simp[ofEvent_mk,BY]at hx
   .simp at he;subst he;simp[mk]
   .simp at he;subst he;rw[ofEvent_mk];exact hlt'
  .exact idle (hgo w hI) hmu (λv=>.rel h') rfl (by omega)
 | sub h =>
  rcases h.cases with ⟨hd,_,hall⟩|⟨n',rfl,_,g',es,hmu,hgo,h'⟩
  .have hc1:CE (D i)=1:=by simp[CE,hst]
   have hV1:1<=Vc j D:=by have:=le_sumTo (f:=λx=>CE (D x)) hi;simp only[Vc];omega
   have bk2:∀e∈#[rd (stA Wg),wr (stA Wg)],Bk Wg e:=by intro e he;simp at he;rcases he with rfl|rfl<;>exact bk_cell _ _ rfl
   have df2:∀jx e,(#[rd (stA Wg),wr (stA Wg)]:Aw C5)[jx]? = Aa e->(BA e).touch? = Aj\/0<deafBehind (D i).deaf ((#[rd (stA Wg),wr (stA Wg)]:Aw C5).extract 0 jx):=by
    intro jx e he;rw[hde,hd];match jx,he with
    |0,_=>exact .inr (by simp[deafBehind])
    |1,_=>exact .inr (by simp[deafBehind,rd])
    |jx+2,he=>simp at he
   have hdd:deafBehind (D i).deaf #[rd (stA Wg),wr (stA Wg)]=dd:=by rw[hde];simp[deafBehind,rd,wr]
   have hq0:∀x,CE (⟨1,0,x⟩:WD)=0:=λ_=>rfl
   have opq:OpenSt j D->OpenSt j (By D i ⟨1,0,dd⟩):=λh a ha=>by
    by_cases e:a=i
    .subst e;rw[Bx];simp
    .rw[BD D _ e];exact h a ha
   cases hmode with
   | opn h1 h2 h3 =>
    obtain⟨v,hv⟩:∃v,Vc j D+pend tag=v+1:=⟨Vc j D+pend tag-1,by omega⟩
    rw[hv]at hwg
    have hw1:w.heap[Wg]? = Aa (wgBlock L.tWg (((v:Al)+1)*KK+((0:Ae):Al)) 0):=by simpa using hwg
    obtain⟨g',hgo,_,hq⟩:=hall w v 0 (by omega) (by omega) hw1
    obtain⟨q,hq⟩:=hq (by omega)
    have hv':Vc j (By D i ⟨1,0,dd⟩)+pend tag=v:=by have:=Vc_upd D (⟨1,0,dd⟩:WD) hi;have:=hq0 dd;omega
    refine aDw hKr G ha hcs hcom hi hg hgo (iQ.set Wg w 0 _) (xK hw1 _) bk2 df2 (s':=1) (dd':=dd) (λv=>.quit hq) hdd (by omega) (λ_=>by omega) (λtag' ht _=>FE ?_ ht) (λe=>absurd e (nr (by omega))) (.inl ⟨by omega,by simp[CE]⟩)
    have e:((v:Ae):Al)*KK+((0:Ae):Al)=((Vc j (By D i ⟨1,0,dd⟩)+pend tag:Ae):Al)*KK:=by rw[hv'];simp
    rw[e]
    exact .opn h1 (opq h2) (λvs ev=>by have:=h3 vs ev;omega)
   | reg h1 h2 h3 =>
    obtain⟨v,hv⟩:∃v,Vc j D=v+1:=⟨Vc j D-1,by omega⟩
    rw[hv]at hwg
    have hp:pend tag=0:=by cases tag<;>first|rfl|exact h1.elim
    have hw1:w.heap[Wg]? = Aa (wgBlock L.tWg (((v:Al)+1)*KK+((1:Ae):Al)) 0):=by simpa using hwg
    obtain⟨g',hgo,hl,hq⟩:=hall w v 1 (by omega) (by omega) hw1
    by_cases hv0:v=0
    .subst hv0
     obtain⟨n2,hk⟩:=(hl ⟨rfl,rfl⟩).count
     refine aDw hKr G ha hcs hcom hi hg hgo (iQ.set Wg w 0 _) (xK hw1 _) bk2 df2 (s':=4) (dd':=dd) (λv=>.look hk) hdd (by omega) (λ_=>by omega) (λtag' ht _=>FE ?_ ht) (λe=>absurd e (nr (by omega))) (.inl ⟨by omega,by simp[CE]⟩)
     have hoth:∀a,a<j->a≠i->(D a).stage=1:=λa ha e=>by have c0:=others_uncounted hi hv hc1 a ha e;have:=h2 a ha;simp only[CE]at c0;split at c0<;>omega
     have:=ConcN.Mode.last (j:=j) (D:=By D i ⟨4,0,dd⟩) (tag:=tag) i h1 hi (by rw[Bx];simp) (λa ha e=>by rw[BD D _ e];exact hoth a ha e)
     rw[Bx]at this
     simpa using this
    .obtain⟨q,hq⟩:=hq (by omega)
     have hv':Vc j (By D i ⟨1,0,dd⟩)=v:=by have:=Vc_upd D (⟨1,0,dd⟩:WD) hi;have:=hq0 dd;omega
     refine aDw hKr G ha hcs hcom hi hg hgo (iQ.set Wg w 0 _) (xK hw1 _) bk2 df2 (s':=1) (dd':=dd) (λv=>.quit hq) hdd (by omega) (λ_=>by omega) (λtag' ht _=>FE ?_ ht) (λe=>absurd e (nr (by omega))) (.inl ⟨by omega,by simp[CE]⟩)
     have e:((v:Ae):Al)*KK+((1:Ae):Al)=((Vc j (By D i ⟨1,0,dd⟩):Ae):Al)*KK+1:=by rw[hv'];simp
     rw[e]
     exact .reg h1 (opq h2) (by omega)
   | last L' _ h2 h3 h4 =>
    by_cases e:i=L'
    .subst e;omega
    .have:=h4 i hi e;omega
   |sema h2=>have:=h2 i hi;omega
   |fin _ h2=>have:=h2 i hi;omega
  .exact idle (hgo w hI) hmu (λv=>.sub h') rfl (by omega)
 | look h =>
  rcases h.cases with ⟨hd,_,hx⟩|⟨n',rfl,_,g',es,hmu,hgo,h'⟩
  .obtain⟨hW3,hoth,rfl,rfl⟩:=hmode.isLast hi (by omega)
   simp only[hst]at hwg
   obtain⟨g',hgo,hk⟩:=hx w (by simpa using hwg)
   obtain⟨n2,hk⟩:=hk.count
   refine aDw hKr G ha hcs hcom hi hg hgo (.refl Wg w) hwg (by intro e he;simp at he;subst he;exact bk_cell _ _ rfl) (by rw[hde,hd];intro jx e he;match jx,he with|0,_=>exact .inr (by simp[deafBehind])|jx+1,he=>simp at he)
    (s':=3) (dd':=dd) (λv=>.zero hk) (by rw[hde];simp[deafBehind,rd]) (by omega) (λ_=>by omega) (λtag' ht _=>FE ?_ ht) (λe=>absurd e (nr (by omega))) (.inl ⟨by omega,by simp[CE]⟩)
   have:=ConcN.Mode.last (j:=j) (D:=By D i ⟨3,0,dd⟩) (tag:=tag) i hW3 hi (by rw[Bx];simp) (λa ha e=>by rw[BD D _ e];exact hoth a ha e)
   rw[Bx]at this
   simpa using this
  .exact idle (hgo w hI) hmu (λv=>.look h') rfl (by omega)
 | zero h =>
  rcases h.cases with ⟨hd,_,hx⟩|⟨n',rfl,_,g',es,hmu,hgo,h'⟩
  .obtain⟨hW3,hoth,rfl,rfl⟩:=hmode.isLast hi (by omega)
   simp only[hst]at hwg
   have hwg':w.heap[Wg]? = Aa (wgBlock L.tWg 1 0):=by simpa using hwg
   obtain⟨g',hgo,hk⟩:=hx w hwg'
   obtain⟨n2,hk⟩:=hk.count
   refine aDw hKr G ha hcs hcom hi hg hgo (iQ.set Wg w 0 _) (xK hwg' 0) (by intro e he;simp at he;subst he;exact bk_cell _ _ rfl) (by rw[hde,hd];intro jx e he;match jx,he with|0,_=>exact .inr (by simp[deafBehind])|jx+1,he=>simp at he)
    (s':=2) (dd':=dd) (λv=>.sem hk) (by rw[hde];simp[deafBehind,wr]) (by omega) (λ_=>by omega) (λtag' ht _=>FE ?_ ht) (λe=>absurd e (nr (by omega))) (.inl ⟨by omega,by simp[CE]⟩)
   have:=ConcN.Mode.last (j:=j) (D:=By D i ⟨2,0,dd⟩) (tag:=tag) i hW3 hi (by rw[Bx];simp) (λa ha e=>by rw[BD D _ e];exact hoth a ha e)
   rw[Bx]at this
   simpa using this
  .exact idle (hgo w hI) hmu (λv=>.zero h') rfl (by omega)
 | sem h =>
  rcases h.cases with ⟨hd,_,hmw,hx⟩|⟨n',rfl,_,g',es,hmu,hgo,h'⟩
  .obtain⟨hW3,hoth,rfl,rfl⟩:=hmode.isLast hi (by omega)
   simp only[hst]at hwg
   have hwg':w.heap[Wg]? = Aa (wgBlock L.tWg 0 0):=by simpa using hwg
   obtain⟨g',hgo,q,hq⟩:=hx w hwg'
   have hrun':g'.status=.running:=by
    cases q with
    |zero=>exact absurd hq.2 (by omega)
    |succ q=>exact hq.elim (λx=>absurd x.2 (by omega)) (λx=>x.1)
   refine aDw hKr G ha hcs hcom hi hg hgo (iQ.set Wg w 1 _) (bEo hwg' 1) (es:=semEvents (smA Wg)) ?_ ?_ (s':=1) (dd':=dd) (λv=>.quit hq) (by rw[hde,hd];simp[deafBehind,semEvents]) (by omega) (λ_=>by omega) ?_ (λe=>absurd e (nr (by omega))) (.inl ⟨by omega,by simp[CE]⟩)
   .exact ConcN.bk_sem
   .intro jx e he
    rw[hde,hd]
    match jx,he with
    |0,he=>simp[semEvents]at he;subst he;exact .inl rfl
    |1,_=>exact .inr (by simp[deafBehind,semEvents])
    |2,_=>exact .inr (by simp[deafBehind,semEvents])
    |3,he=>simp[semEvents]at he;subst he;exact .inl rfl
    |jx+4,he=>simp[semEvents]at he
   .intro tag' ht hw
    have hnb:=hw hmw hrun'
    have e3:tag'=.w3:=by
     rcases ht with rfl|⟨_,rfl⟩
     .cases tag'<;>first|rfl|exact hW3.elim|exact absurd rfl hnb
     .rfl
    subst e3
    exact .sema λa ha=>by
     by_cases e:a=i
     .subst e;rw[Bx]
     .rw[BD D _ e];exact hoth a ha e
  .exact idle (hgo w hI) hmu (λv=>.sem h') rfl (by omega)
 | quit h =>
  rename_i n
  cases n with
  |zero=>rw[h.1]at hrun;cases hrun
  | succ q =>
   rcases h with ⟨hf,_⟩|⟨_,g',es,hmute,hstep,hq⟩
   .rw[hf]at hrun;cases hrun
   .exact idle (hstep w) (λe he=>.inl (hmute e he)) (λv=>.quit hq) rfl (by omega)
end
end Go.Am
namespace Go.Am
open Go.Conc Go.Conc.Lib
open Go.ConcN (CT Apart Ok0 OkW PermW RelBy CTag phi WD Vc Ssum sumTo sumTo_upd sumTo_upd_out OpenSt AllQuit isOpen isW3 isFin pend phi_mono phi_retag le_sumTo Vc_le Vc_upd others_uncounted bk_cell allQuit_of)
open Go.ConcR (KK wgBlock stA smA rd wr mk Bk bk_of_mute ofEvent_loc_mark ofEvent_cell ofEvent_mk)
section
variable {P:As} {L:WgLink} {Wg:Ae} {p:Pl} {K An:Ay->Prop} {S:Ae->Prop} {w0:Ag} {m j:Ae} {gs:Aw Ay} {w w':Ag} {sl:Aq (Ae×Ae)} {t:Trace} {D:Ae->WD} {R:Ae->Tr} {V V':Ae->Ag} {tag tag':CTag} {d0:Ae} {a a':Ay} {st sm st' sm':Al} {es:Aw C5} {r':Tr}
def CS.bound{d:Ae}{r:Tr}{v:Ag}(h:CS P L Wg p K An tag j r d a v):j+pend tag<=p.n:=by cases h<;>simp only[pend]<;>(try simp)<;>omega
def pX(G:Geo Wg p S)(ha:gs[0]? = Aa a)(hcom:Com P L Wg p S w0 m j gs w t D R V d0)
 (hgo:stepG P Ak a w=.go a' w' es) (hK:aHr p Wg w w') (hV:Vws (iK m j) V' w') (hE:∀x,x≠0->Env (V x) (V' x)) (hO:dZ (V 0) (V' 0))
 (hok:∀e∈es,∀fn pos,Ok0 (dP (ShW S Wg)) (uS p m j V') (RdF m j V') (m+j-1) { g:=0,fn,pos,act:=.ofEvent e })
 (hat:∀e∈es,∀x,(BA e).touch? = Aa x->x.loc.isMemory=Ak) (hnr:∀e∈es,e.loc≠.mark (.release (stA Wg))) (hlow:∀e∈es,(BA e).low w'.heap.size)
 (hho:∀i,i<j->∀r,r<p.wd->w'.cell? (p.cell i r)=w.cell? (p.cell i r))
 (hcs':CS P L Wg p K An tag' j r' (deafBehind d0 es) a' (V' 0)) (hwg:w'.heap[Wg]? = Aa (wgBlock L.tWg st' sm')) (hmode:ES j D tag' st' sm')
 (hacq:tag'=.ret->xC Wg m j (t++Cd 0 a.frame.fn a.frame.place es))
 (hlt:phi p.n (Vc j D) tag'<phi p.n (Vc j D) tag\/(phi p.n (Vc j D) tag'=phi p.n (Vc j D) tag/\uP r' (R 0))) :
 ∃M ops μ',runT P (crowd gs w sl) 0=(.next M,ops)/\MLt μ' (phi p.n (Vc j D) tag+Ssum j D,kD R (m+j),R 0)/\Inv P L Wg p K An S w0 m μ' M (t++ops):=by
 have hrun:=runT_crowd_go (P:=P) (sl:=sl) (i:=0) ha (by simpa using hgo)
 have hlt0:0<gs.size:=(Bm.1 ha).1
 refine⟨_,_,(phi p.n (Vc j D) tag'+Ssum j D,kD (By R 0 r') (m+j),r'),hrun,?_,
  _,w',sl,j,D,By R 0 r',V',tag',deafBehind d0 es,a',st',sm',rfl,by simp[hlt0],by rw[Bx];exact hcs',hcom.step0 G ha hK hV hE hO hok hat hnr hlow hho r',hwg,hmode,hacq,by rw[Bx]⟩
 rw[bFy (R':=By R 0 r') (R:=R) λx hx=>BD R _ hx]
 rcases hlt with h|⟨h1,h2⟩
 .exact FM _ _ (by omega)
 .rw[h1];exact GQ _ (GQ _ h2)
def nF{e:C5}(h:cZ Wg e):(∀{Own Rd:Ae->Loc->Prop} {N:Ae} (fn:AU) (pos:String),Ok0 (dP (ShW S Wg)) Own Rd N { g:=0,fn,pos,act:=.ofEvent e })/\(∀x,(BA e).touch? = Aa x->x.loc.isMemory=Ak)/\e.loc≠.mark (.release (stA Wg))/\∀B,Wg<B->(BA e).low B:=by
 rcases h with rfl|rfl
 .refine⟨λfn pos=>⟨rfl,λx hx=>?_⟩,λx hx=>?_,by simp,λB hB=>hB⟩<;>simp only[BA,BY,AH]at hx<;>subst hx
  .exact .inl ⟨.inr rfl,by simp⟩
  .rfl
 .refine⟨λfn pos=>⟨rfl,λx hx=>?_⟩,λx hx=>?_,by simp,λB hB=>hB⟩<;>simp only[BA,BY,AH]at hx<;>subst hx
  .exact .inl ⟨.inr rfl,by simp⟩
  .rfl
def tT(G:Geo Wg p S)(ha:gs[0]? = Aa a)(hcom:Com P L Wg p S w0 m j gs w t D R V d0)
 (hgo:stepG P Ak a w=.go a' w' es) (hT:iQ Wg w w') (hwg:w'.heap[Wg]? = Aa (wgBlock L.tWg st' sm')) (hbk:∀e∈es,Bk Wg e\/cZ Wg e)
 (hcs':∀v,Env (V 0) v->CS P L Wg p K An tag' j r' (deafBehind d0 es) a' v) (hmode:ES j D tag' st' sm')
 (hacq:tag'=.ret->xC Wg m j (t++Cd 0 a.frame.fn a.frame.place es))
 (hlt:phi p.n (Vc j D) tag'<phi p.n (Vc j D) tag\/(phi p.n (Vc j D) tag'=phi p.n (Vc j D) tag/\uP r' (R 0))) :
 ∃M ops μ',runT P (crowd gs w sl) 0=(.next M,ops)/\MLt μ' (phi p.n (Vc j D) tag+Ssum j D,kD R (m+j),R 0)/\Inv P L Wg p K An S w0 m μ' M (t++ops):=by
 have hlt':Wg<w'.heap.size:=bL hwg
 refine pX G ha hcom hgo (hT.kept G hcom.pay) (hcom.turn hT) (λx _=>cL _ _) (dZ.of_env (cL _ _)) (λe he fn pos=>?_) (λe he=>?_) (λe he=>?_) (λe he=>?_) (λi _ r _=>hT.cells G i r) (hcs' _ (cL _ _)) hwg hmode hacq hlt
 .rcases hbk e he with h|h
  .exact aRt h fn pos
  .exact(nF (S:=S) h).1 fn pos
 .rcases hbk e he with h|h
  .exact λx hx=>(bLx (S:=S) h x hx).1
  .exact(nF (S:=S) h).2.1
 .rcases hbk e he with h|h
  .exact aNa h
  .exact(nF (S:=S) h).2.2.1
 .rcases hbk e he with h|h
  .exact aSb h hlt'
  .exact(nF (S:=S) h).2.2.2 _ hlt'
def bDk(G:Geo Wg p S)(ha:gs[0]? = Aa a)(hcom:Com P L Wg p S w0 m j gs w t D R V d0)(hwg:w.heap[Wg]? = Aa (wgBlock L.tWg st sm))(hmode:ES j D tag st sm)(hacq:tag≠.ret)
 {v':Ag} (hgo:stepG P Ak a w=.go a' w' es) (hq:aEi (cZ Wg) (V 0) w v' w' es) (hcs':CS P L Wg p K An tag j r' (deafBehind d0 es) a' v') (hlt:uP r' (R 0)) :
 ∃M ops μ',runT P (crowd gs w sl) 0=(.next M,ops)/\MLt μ' (phi p.n (Vc j D) tag+Ssum j D,kD R (m+j),R 0)/\Inv P L Wg p K An S w0 m μ' M (t++ops):=by
 obtain⟨hK,hW,hC⟩:=hcom.keptQ G (.inl rfl) hq
 have hput:aEy V 0 v' w' 0=v':=lX _ _ _ _
 have hcell:∀i' r,w'.cell? (p.cell i' r)=w.cell? (p.cell i' r):=λi' r=>by simp[BN,Pl.cell,hC]
 have hlt':Wg<w'.heap.size:=bL (hW.trans hwg)
 have hO:dZ (V 0) v':=dZ.of_ext hq.ext (hcom.vws.ok 0 (.inl rfl))
 have hVV:Vws (iK m j) (aEy V 0 v' w') w':=hcom.vws.step (.inl rfl) hq
 refine pX G ha hcom hgo (V':=aEy V 0 v' w') hK hVV (λx hx=>by rw[pB V _ _ hx];exact cL _ _) (by rw[hput];exact hO) (λe he fn pos=>?_) (λe he=>?_) (λe he=>?_) (λe he=>?_) (λi _ r _=>hcell i r) (by rw[hput];exact hcs') (hW.trans hwg) hmode (λe=>absurd e hacq) (.inr ⟨rfl,hlt⟩)
 .rcases hq.evs e he with h|h|h
  .exact bQx hVV hcom.mpos (by rw[hput];exact hO.hole (hcom.hC 0 (.inl rfl))) (λb hb=>by rw[hput];exact hO.hole (hcom.hS 0 (.inl rfl) b hb)) (by rw[hput];exact h) fn pos
  .exact aRt (bk_of_mute h) fn pos
  .exact(nF (S:=S) h).1 fn pos
 .rcases hq.evs e he with h|h|h
  .exact λx hx=>(aJu h hx).1
  .exact λx hx=>by rw[touch_mute h]at hx;cases hx
  .exact(nF (S:=S) h).2.1
 .rcases hq.evs e he with h|h|h
  .exact bJq h _
  .exact aNa (bk_of_mute h)
  .exact(nF (S:=S) h).2.2.1
 .rcases hq.evs e he with h|h|h
  .exact aVy (GJ hq.sim.size) h
  .exact low_mute h _
  .exact(nF (S:=S) h).2.2.2 _ hlt'
def Com.spawn(h:Com P L Wg p S w0 m j gs w t D R V 0)(G:Geo Wg p S){child:Ay}{x y:MemOp}{tr r0:Tr}(hx:x.g=0/\x.act=.go (m+j))(hy:y.g=m+j/\y.act=.start)(hWg:Wg<w.heap.size)
 (hc:GTw P L Wg p j tr 0 child (gL (V 0))) :
 Com P L Wg p S w0 m (j+1) ((gs.setIfInBounds 0 a').push child) w (t++#[x,y]) (By D j ⟨7,0,0⟩) (By (By R (m+j) tr) 0 r0) (By (By V (m+j) (gL (V 0))) 0 (gL (V 0))) 0:=by
 have hm:=h.mpos
 generalize hVd:By (By V (m+j) (gL (V 0))) 0 (gL (V 0))=V'
 have v0:V' 0=gL (V 0):=by rw[<-hVd,Bx]
 have vj:V' (m+j)=gL (V 0):=by rw[<-hVd,BD _ _ (by omega),Bx]
 have vx:∀k,k≠0->k≠m+j->V' k=V k:=λk h0 h1=>by rw[<-hVd,BD _ _ h0,BD _ _ h1]
 have hact:∀k,iK m (j+1) k->(V' k=gL (V 0)/\(k=0\/k=m+j))\/(V' k=V k/\k≠0/\m<=k/\k<m+j):=λk hk=>by
  by_cases h0:k=0
  .subst h0;exact .inl ⟨v0,.inl rfl⟩
  by_cases h1:k=m+j
  .subst h1;exact .inl ⟨vj,.inr rfl⟩
  .rcases hk with hk|⟨h2,h3⟩
   .exact absurd hk h0
   .exact .inr ⟨vx k h0 h1,h0,h2,by omega⟩
 have hmm:∀op∈#[x,y],op=x\/op=y:=by intro op hop;simpa using hop
 have hst:∀op∈#[x,y],op.act≠.mark .disable/\op.act≠.mark .enable:=by
  intro op hop;rcases hmm op hop with rfl|rfl
  .rw[hx.2];exact⟨by simp,by simp⟩
  .rw[hy.2];exact⟨by simp,by simp⟩
 have hnt:∀op∈#[x,y],op.act.touch? = none:=by
  intro op hop;rcases hmm op hop with rfl|rfl
  .rw[hx.2];rfl
  .rw[hy.2];rfl
 have hVw:Vws (iK m (j+1)) V' w:=by
  refine⟨λk hk=>?_,λk hk=>?_,λk k' hk hk' hne b hu=>?_⟩
  .rcases hact k hk with ⟨e,_⟩|⟨e,_,h1,h2⟩
   .rw[e];exact aOa (h.vws.sim 0 (.inl rfl))
   .rw[e];exact h.vws.sim k (.inr ⟨h1,h2⟩)
  .rcases hact k hk with ⟨e,_⟩|⟨e,_,h1,h2⟩
   .rw[e];exact wD _
   .rw[e];exact h.vws.ok k (.inr ⟨h1,h2⟩)
  .rcases hact k hk with ⟨e,_⟩|⟨e,h0,h1,h2⟩
   .rw[e]at hu;exact absurd hu (aJp _ _)
   .rw[e]at hu;rcases hact k' hk' with ⟨e',_⟩|⟨e',h0',h1',h2'⟩
    .rw[e'];exact yB (h.vws.dis k 0 (.inr ⟨h1,h2⟩) (.inl rfl) h0 b hu)
    .rw[e'];exact h.vws.dis k k' (.inr ⟨h1,h2⟩) (.inr ⟨h1',h2'⟩) hne b hu
 have hC':∀k,iK m (j+1) k->(V' k).heap[p.C]? = Aa hole:=λk hk=>by
  rcases hact k hk with ⟨e,_⟩|⟨e,_,h1,h2⟩
  .rw[e];exact yB (h.hC 0 (.inl rfl))
  .rw[e];exact h.hC k (.inr ⟨h1,h2⟩)
 have hS':∀k,iK m (j+1) k->∀b,ShW S Wg b->(V' k).heap[b]? = Aa hole:=λk hk b hb=>by
  rcases hact k hk with ⟨e,_⟩|⟨e,_,h1,h2⟩
  .rw[e];exact yB (h.hS 0 (.inl rfl) b hb)
  .rw[e];exact h.hS k (.inr ⟨h1,h2⟩) b hb
 have hA:Apart (dP (ShW S Wg)) (uS p m (j+1) V') (RdF m (j+1) V'):=wU hVw hm hC' hS' λhs=>hs.elim G.S λe=>by have:=G.C;omega
 have hct:CT (dP (ShW S Wg)) (uS p m (j+1) V') (RdF m (j+1) V') t (m+j-1):=by
  refine CT.grow h.ct (λk l k1 kj ⟨a1,a2,hl⟩=>⟨a1,by omega,?_⟩) (λk l k1 kj ⟨a1,a2,hl⟩=>⟨a1,by omega,?_⟩) (λk l k1 kj ⟨a1,a2,hl⟩=>.inl ⟨a1,by omega,?_⟩) (λk l k1 kj ⟨a1,a2,hl⟩=>.inl ⟨a1,by omega,?_⟩)
  .rw[vx k (by omega) (by omega)];exact hl
  .rw[vx k (by omega) (by omega)];exact hl
  .rw[vx k (by omega) (by omega)]at hl;exact hl
  .rw[vx k (by omega) (by omega)]at hl;exact hl
 have hsz:=h.size
 refine⟨hm,by simp[hsz];omega,λi hi=>?_,λi h1 h2=>?_,λi hi=>?_,?_,h.norel.app λop hop=>?_,by rw[Gm t 0 _ hst,h.deaf0],λi hi=>?_,λi hi hs=>?_,λi hi hs r hr=>?_,h.pay,hVw,λk hk b hb=>?_,hC',hS',h.stay,h.like,aJk h.kn λop hop a ha=>?_,aAg h.mem λop hop a ha=>?_,vG h.over λop hop=>.inr (.inr (hnt op hop)),aAh h.seen (AM _) λop hop=>?_⟩
 .rcases Bc i j with hlt|hge
  .obtain⟨g,hg,hsg⟩:=h.wk i hlt
   refine⟨g,?_,by rw[BD D _ (by omega),BD (By R (m+j) tr) _ (by omega),BD R _ (by omega),vx _ (by omega) (by omega)];exact hsg⟩
   rw[Gb (by simp[hsz];omega),<-Ar,AI (by omega)]
   exact hg
  .obtain rfl:i=j:=by omega
   refine⟨child,?_,by rw[Bx,BD (By R (m+i) tr) _ (by omega),Bx,vj];exact .work hc⟩
   rw[show m+i=(gs.setIfInBounds 0 a').size by simp[hsz],Array.getElem?_push_size]
 .obtain⟨g,q,hg,hr,hq⟩:=h.old i h1 h2
  refine⟨g,q,?_,by rw[BD (By R (m+j) tr) _ (by omega),BD R _ (by omega)];exact hr,by rw[Gm t _ _ hst];exact hq⟩
  rw[Gb (by simp[hsz];omega),<-Ar,AI (by omega)]
  exact hg
 .rw[Gm t _ _ hst];exact h.above i (by omega)
 .have:=ConcN.CT.fork hA hct (x:=x) (y:=y) (by rw[show m+j-1+1=m+j by omega];exact hx) (by rw[show m+j-1+1=m+j by omega];exact hy) h.deaf0
  rw[show m+j-1+1=m+(j+1)-1 by omega]at this
  exact this
 .rcases hmm op hop with rfl|rfl
  .rw[hx.2];simp
  .rw[hy.2];simp
 .rw[Gm t _ _ hst]
  rcases Bc i j with hlt|hge
  .rw[h.deafW i hlt,BD D _ (by omega)]
  .obtain rfl:i=j:=by omega
   rw[Bx]
   exact h.above _ (AM _)
 .rcases Bc i j with hlt|hge
  .rw[BD D _ (by omega)]at hs
   obtain⟨r,hr⟩:=h.rel i hlt hs
   refine⟨r,hr.appNot λop hop=>?_⟩
   rcases hmm op hop with rfl|rfl
   .rw[hx.1];omega
   .rw[hy.1];omega
  .obtain rfl:i=j:=by omega
   rw[Bx]at hs
   simp at hs
 .rcases Bc i j with hlt|hge
  .rw[BD D _ (by omega)]at hs
   exact h.has i hlt hs r hr
  .obtain rfl:i=j:=by omega
   rw[Bx]at hs
   simp at hs
 .rcases hact k hk with ⟨e,_⟩|⟨e,_,h1,h2⟩
  .rw[e];exact aDf (by have:=(h.vws.sim 0 (.inl rfl)).size;omega)
  .rw[e];exact h.low k (.inr ⟨h1,h2⟩) b hb
 .rw[hnt op hop]at ha;cases ha
 .rw[hnt op hop]at ha;cases ha
 .rcases hmm op hop with rfl|rfl
  .rw[hx.2];trivial
  .rw[hy.2];trivial
end
section
variable {P:As} {L:WgLink} {Wg:Ae} {p:Pl} {K An:Ay->Prop} {S:Ae->Prop} {w0:Ag} {m j:Ae} {gs:Aw Ay} {w w':Ag} {sl:Aq (Ae×Ae)} {t:Trace} {D:Ae->WD} {R:Ae->Tr} {V V':Ae->Ag} {tag tag':CTag} {d0:Ae} {a a':Ay} {st sm st' sm':Al} {es:Aw C5} {r':Tr}
def bkS{es:Aw C5}(h:∀e∈es,Bk Wg e):∀e∈es,Bk Wg e\/cZ Wg e:=λe he=>.inl (h e he)
def aQo(hKr:∀g,K g->g.status=.running)(hAn:∀g,An g->Dl P Ak (cQ L.tWg Wg) (cZ Wg) (λd g=>d=1/\tN P L Wg K An d g) 1 g)(G:Geo Wg p S)(hn:p.n<2147483648)
 (ha:gs[0]? = Aa a) (hcs:CS P L Wg p K An tag j (R 0) d0 a (V 0)) (hcom:Com P L Wg p S w0 m j gs w t D R V d0) (hwg:w.heap[Wg]? = Aa (wgBlock L.tWg st sm)) (hmode:ES j D tag st sm)
 (hacq:tag=.ret->xC Wg m j t) (hrun:a.status=.running) (hstop:¬(tag=.ret/\d0=0/\K a)) :
 ∃M ops μ',runT P (crowd gs w sl) 0=(.next M,ops)/\MLt μ' (phi p.n (Vc j D) tag+Ssum j D,kD R (m+j),R 0)/\Inv P L Wg p K An S w0 m μ' M (t++ops):=by
 have hVj:=Vc_le j D
 have hb:=hcs.bound
 have hI:cQ L.tWg Wg w:=⟨st,sm,hwg⟩
 have hsim0:=hcom.vws.sim 0 (.inl rfl)
 have hok0:=hcom.vws.ok 0 (.inl rfl)
 -- an idle step of a chain
 have idle:∀{g':Ay} {es:Aw C5} {r':Tr},tag≠.ret->stepG P Ak a w=.go g' w es->(∀e∈es,ER e=Ak\/cZ Wg e)->(∀v,CS P L Wg p K An tag j r' (deafBehind d0 es) g' v)->uP r' (R 0) ->
  ∃M ops μ',runT P (crowd gs w sl) 0=(.next M,ops)/\MLt μ' (phi p.n (Vc j D) tag+Ssum j D,kD R (m+j),R 0)/\Inv P L Wg p K An S w0 m μ' M (t++ops) :=
  λhne hgo hmu hcs' hlt=>tT G ha hcom hgo (.refl Wg w) hwg (λe he=>(hmu e he).imp bk_of_mute id) (λv _=>hcs' v) hmode (λe=>absurd e hne) (.inr ⟨rfl,hlt⟩)
 generalize hR:R 0=r at hcs
 cases hcs with
 | a1 hr h =>
  rename_i r1
  cases htr:r with
  | node f =>
   rw[htr]at h
   obtain⟨_,hv,hs⟩:=h
   obtain⟨g',v',w',es,hgo,hq,hgt⟩:=hs (V 0) w (.refl _) hsim0 hI
   have:=bDk (sl:=sl) G ha hcom hwg hmode (by simp) hgo hq (.a1 hr hgt) (by rw[hR,htr];exact sD f _)
   rwa [hR,htr]at this
  | leaf =>
   rw[htr]at h
   obtain⟨hd,_,hall⟩:=h
   obtain⟨ho,rfl,rfl,_⟩:=hmode.open_inv trivial
   have hwg0:w.heap[Wg]? = Aa (wgBlock L.tWg ((Vc (p.n-(r1+1)) D:Ae)*KK:Al) 0):=by simpa[pend]using hwg
   obtain⟨g',hgo,hdl⟩:=hall w (Vc (p.n-(r1+1)) D) (by omega) hwg0
   have hdd:deafBehind d0 #[rd (stA Wg),wr (stA Wg)]=d0:=by simp[deafBehind,rd,wr]
   have hT:=iQ.set Wg w 0 (.int .u64 (((Vc (p.n-(r1+1)) D:Ae)+1)*KK))
   obtain⟨tr,hgt⟩:=hdl.gt ((cL (V 0) _).okV hok0) (v:=jD (V 0) (w.setCell (stA Wg) (.int .u64 (((Vc (p.n-(r1+1)) D:Ae)+1)*KK)))) λd g v1 he hk=>hk v1 ((cL _ _).trans he) (((cL _ _).trans he).okV hok0)
   rw[<-(hR.trans htr)]
   refine pX G ha hcom hgo (hT.kept G hcom.pay) (hcom.turn hT) (λx _=>cL _ _) (dZ.of_env (cL _ _)) (λe he fn pos=>aRt (G0 e he) fn pos) (λe he x hx=>(bLx (S:=S) (G0 e he) x hx).1) (λe he=>aNa (G0 e he)) (λe he=>aSb (G0 e he) (by simpa[FJ]using bL hwg0))
    (λi _ r _=>hT.cells G i r) (tag':=.sp r1 3) (r':=tr) (by rw[hdd];exact .go hr hgt) (xK hwg0 _) ?_ (by simp) (.inl (by simp only[phi];omega))
   have e:(((Vc (p.n-(r1+1)) D:Ae):Al)+1)*KK=((Vc (p.n-(r1+1)) D+pend (.sp r1 3):Ae):Al)*KK:=by simp[pend]
   rw[e]
   exact .opn trivial ho (by simp)
 | go hr h =>
  rename_i r1
  cases htr:r with
  | node f =>
   rw[htr]at h
   obtain⟨_,hv,hs⟩:=h
   obtain⟨g',v',w',es,hgo,hq,hgt⟩:=hs (V 0) w (.refl _) hsim0 hI
   have:=bDk (sl:=sl) G ha hcom hwg hmode (by simp) hgo hq (.go hr hgt) (by rw[hR,htr];exact sD f _)
   rwa [hR,htr]at this
  | leaf =>
   rw[htr]at h
   obtain⟨rfl,_,hgo'⟩:=h
   obtain⟨g',child,hsp,_,⟨tr,hgt⟩,hnext⟩:=hgo' (V 0) (.refl _)
   have hsp:=hsp w hsim0 hI
   obtain⟨ho,rfl,rfl,_⟩:=hmode.open_inv trivial
   have hrun':=runT_crowd_spawn (P:=P) (sl:=sl) (i:=0) ha (by simpa using hsp)
   rw[hcom.size]at hrun'
   have hlt0:0<gs.size:=(Bm.1 ha).1
   have eV:Vc (p.n-(r1+1)+1) (By D (p.n-(r1+1)) ⟨7,0,0⟩)=Vc (p.n-(r1+1)) D+1:=by simp only[Vc,sumTo,Bx];rw[sumTo_upd_out D _ CE (AM _)];rfl
   have eS:Ssum (p.n-(r1+1)+1) (By D (p.n-(r1+1)) ⟨7,0,0⟩)=Ssum (p.n-(r1+1)) D+7:=by simp only[Ssum,sumTo,Bx];rw[sumTo_upd_out D _ WD.stage (AM _)]
   have ho':OpenSt (p.n-(r1+1)+1) (By D (p.n-(r1+1)) ⟨7,0,0⟩):=λi hi=>by
    by_cases e:i=p.n-(r1+1)
    .subst e;rw[Bx];simp
    .rw[BD D _ e];exact ho i (by omega)
   have ha':((gs.setIfInBounds 0 g').push child)[0]? = Aa g':=by rw[Gb (by simp;omega),<-Ar];simp[hlt0]
   have ej:p.n-(r1+1)+1=p.n-r1:=by omega
   have hsp':∀r0,Com P L Wg p S w0 m (p.n-(r1+1)+1) _ w _ _ (By (By R (m+(p.n-(r1+1))) tr) 0 r0) _ 0:=λr0=>hcom.spawn G (a':=g') (r0:=r0) (child:=child) (x:={ g:=0,fn:=a.frame.fn,pos:=a.frame.place,act:=.go (m+(p.n-(r1+1))) }) (y:={ g:=m+(p.n-(r1+1)),fn:=child.frame.fn,pos:=a.frame.place,act:=.start }) ⟨rfl,rfl⟩ ⟨rfl,rfl⟩ (bL hwg) hgt
   rw[ej]at eV eS ho' hsp'
   have est:∀tag',pend tag'=0->((Vc (p.n-(r1+1)) D+pend (.sp r1 3):Ae):Al)*KK=((Vc (p.n-r1) (By D (p.n-(r1+1)) ⟨7,0,0⟩)+pend tag':Ae):Al)*KK:=λtag' hp=>by rw[eV,hp];simp[pend]
   cases r1 with
   | zero =>
    obtain⟨tr0,hk⟩:=hnext
    simp only[Nat.sub_zero]at hrun' hsp' eV eS ho' est
    refine⟨_,_,(phi p.n (Vc p.n (By D (p.n-(0+1)) ⟨7,0,0⟩)) .w1+Ssum p.n (By D (p.n-(0+1)) ⟨7,0,0⟩),_,_),hrun',FM _ _ (by simp only[phi];have:=Vc_le p.n (By D (p.n-(0+1)) ⟨7,0,0⟩);omega),
     _,w,sl,p.n,_,_,_,.w1,0,g',_,_,rfl,ha',?_,hsp' tr0,hwg,?_,by simp,rfl⟩
    .rw[Bx,Bx];exact .w1 hk
    .rw[est .w1 rfl]
     exact .opn trivial ho' (by simp)
   | succ r2 =>
    obtain⟨tr0,hk⟩:=hnext
    refine⟨_,_,(phi p.n (Vc (p.n-(r2+1)) (By D (p.n-(r2+1+1)) ⟨7,0,0⟩)) (.sp r2 4)+Ssum (p.n-(r2+1)) (By D (p.n-(r2+1+1)) ⟨7,0,0⟩),_,_),hrun',FM _ _ (by simp only[phi];omega),
     _,w,sl,p.n-(r2+1),_,_,_,.sp r2 4,0,g',_,_,rfl,ha',?_,hsp' tr0,hwg,?_,by simp,rfl⟩
    .rw[Bx,Bx];exact .a1 (by omega) hk
    .rw[est (.sp r2 4) rfl]
     exact .opn trivial ho' (by simp)
 | w1 h =>
  cases htr:r with
  | node f =>
   rw[htr]at h
   obtain⟨_,hv,hs⟩:=h
   obtain⟨g',v',w',es,hgo,hq,hgt⟩:=hs (V 0) w (.refl _) hsim0 hI
   have:=bDk (sl:=sl) G ha hcom hwg hmode (by simp) hgo hq (.w1 hgt) (by rw[hR,htr];exact sD f _)
   rwa [hR,htr]at this
  | leaf =>
   rw[htr]at h
   obtain⟨hd,_,hall⟩:=h
   obtain⟨ho,rfl,rfl,_⟩:=hmode.open_inv trivial
   have hwg0:w.heap[Wg]? = Aa (wgBlock L.tWg ((Vc p.n D:Ae)*KK:Al) 0):=by simpa[pend]using hwg
   obtain⟨g',hgo,h0,hne⟩:=hall w (Vc p.n D) (by omega) hwg0
   have hdd:deafBehind d0 #[rd (stA Wg)]=d0:=by simp[deafBehind,rd]
   rw[<-(hR.trans htr)]
   by_cases hv:Vc p.n D=0
   .obtain⟨n,hk⟩:=(h0 hv).count
    refine tT G ha hcom hgo (.refl Wg w) hwg (bkS ConcN.bk_rd) (tag':=.acq) (λv _=>by rw[hdd];exact .acq hk) ?_ (by simp) (.inl (by simp only[phi];omega))
    have e:((Vc p.n D+pend .w1:Ae):Al)*KK=0:=by rw[hv];simp[pend]
    rw[e]
    exact .fin trivial (allQuit_of ho hv)
   .obtain⟨n,hk⟩:=(hne hv).count
    refine tT G ha hcom hgo (.refl Wg w) hwg (bkS ConcN.bk_rd) (tag':=.w2 (Vc p.n D)) (λv _=>by rw[hdd];subst hd;exact .w2 hk) (hmode.reopen trivial trivial rfl (λvs e=>by cases e;omega)) (by simp) (.inl (by simp only[phi];omega))
 | w2 h =>
  rename_i vs n
  rw[<-hR]
  rcases h.cases with ⟨hd,_,hall⟩|⟨n',rfl,_,g',es,hmu,hgo,h'⟩
  .obtain⟨ho,rfl,rfl,hw2⟩:=hmode.open_inv trivial
   obtain⟨hle,h1⟩:=hw2 vs rfl
   have hwg0:w.heap[Wg]? = Aa (wgBlock L.tWg ((Vc p.n D:Ae)*KK:Al) 0):=by simpa[pend]using hwg
   obtain⟨hhit,hmiss⟩:=hall w (Vc p.n D) (by omega) hwg0
   by_cases e:Vc p.n D=vs
   .obtain⟨g',hgo,hk⟩:=hhit e
    obtain⟨n2,hk⟩:=hk.count
    exact tT G ha hcom hgo (iQ.set Wg w 0 _) (xK hwg0 _) (bkS G0) (tag':=.w3) (λv _=>by rw[show deafBehind d0 #[rd (stA Wg),wr (stA Wg)]=d0 by simp[deafBehind,rd,wr]];exact .w3 hk) (.reg trivial ho (by omega)) (by simp) (.inl (by simp only[phi];omega))
   .obtain⟨g',hgo,hk⟩:=hmiss e
    have hdd:deafBehind d0 #[rd (stA Wg)]=d0:=by simp[deafBehind,rd]
    have hk':Dl P Ak (cQ L.tWg Wg) (cZ Wg) (λd g=>d=1/\tN P L Wg K An d g) d0 g':=hk.bind λd g hk2=>by rw[hk2.1,hd];exact hAn g hk2.2
    obtain⟨tr,hgt⟩:=hk'.gt (v:=V 0) hok0 (Stop:=aHp P L Wg K An) λd g v1 _ hk=>⟨.leaf,hk⟩
    exact tT G ha hcom hgo (.refl Wg w) hwg (bkS ConcN.bk_rd) (tag':=.w1) (r':=tr) (λv he=>by rw[hdd];exact .w1 (hgt.env xJ he)) (hmode.reopen trivial trivial rfl (by simp)) (by simp) (.inl (by simp only[phi];omega))
  .exact idle (by simp) (hgo w hI) hmu (λv=>.w2 h') (by rw[hR];exact jI n')
 | w3 h =>
  rename_i n
  rw[<-hR]
  rcases h.cases with ⟨hs,hoff,hblk,htake⟩|⟨n',rfl,_,g',es,hmu,hgo,h'⟩
  .cases hmode with
   |opn h1 _ _=>exact h1.elim
   |reg h1 h2 h3=>exact tT G ha hcom (hblk w _ hwg) (.refl Wg w) hwg (by simp) (tag':=.blk) (r':=Tr.nat n) (λv _=>.blk ⟨hs,hoff,hblk,htake⟩) (.reg trivial h2 h3) (by simp) (.inr ⟨rfl,by rw[hR];exact jI n⟩)
   |last L' h1 h2 h3 h4=>exact tT G ha hcom (hblk w _ hwg) (.refl Wg w) hwg (by simp) (tag':=.blk) (r':=Tr.nat n) (λv _=>.blk ⟨hs,hoff,hblk,htake⟩) (.last L' trivial h2 h3 h4) (by simp) (.inr ⟨rfl,by rw[hR];exact jI n⟩)
   | sema h2 =>
    obtain⟨g',hgo,hk⟩:=htake w hwg
    obtain⟨n2,hk⟩:=hk.count
    exact tT G ha hcom hgo (iQ.set Wg w 1 _) (bEo hwg 0) (bkS ConcN.bk_sem) (tag':=.w4) (λv _=>by rw[show deafBehind d0 (semEvents (smA Wg))=d0 by simp[deafBehind,semEvents]];exact .w4 hk) (.fin trivial h2) (by simp) (.inl (by simp only[phi];omega))
   |fin h1 _=>exact h1.elim
  .exact idle (by simp) (hgo w hI) hmu (λv=>.w3 h') (by rw[hR];exact jI (n'+1))
 |blk h=>simp at hrun
 | w4 h =>
  rename_i n
  rw[<-hR]
  rcases h.cases with ⟨_,hx⟩|⟨n',rfl,_,g',es,hmu,hgo,h'⟩
  .obtain⟨hq,rfl,rfl⟩:=hmode.fin_inv trivial
   obtain⟨g',hgo,hk⟩:=hx w hwg
   obtain⟨n2,hk⟩:=hk.count
   exact tT G ha hcom hgo (.refl Wg w) hwg (bkS ConcN.bk_rd) (tag':=.acq) (λv _=>by rw[show deafBehind d0 #[rd (stA Wg)]=d0 by simp[deafBehind,rd]];exact .acq hk) (.fin trivial hq) (by simp) (.inl (by simp only[phi];omega))
  .exact idle (by simp) (hgo w hI) hmu (λv=>.w4 h') (by rw[hR];exact jI n')
 | acq h =>
  rename_i n
  rw[<-hR]
  rcases h.cases with ⟨hd,_,g',hgo,hk⟩|⟨n',rfl,_,g',es,hmu,hgo,h'⟩
  .obtain⟨hq,rfl,rfl⟩:=hmode.fin_inv trivial
   obtain⟨n2,hk⟩:=hk.count
   have hlt':Wg<w.heap.size:=bL hwg
   refine pX G ha hcom (hgo w hI) ((iQ.refl Wg w).kept G hcom.pay) (V':=V) hcom.vws (λx _=>.refl _) (dZ.of_env (.refl _)) (λe he fn pos=>?_) (λe he x hx=>?_) (λe he=>?_) (λe he=>?_) (λ_ _ _ _=>rfl) (tag':=.ret) (r':=Tr.nat n2)
    (by rw[show deafBehind d0 #[mk (.acquire (stA Wg))]=0 by simp[deafBehind,mk,hd]];exact .ret hk) hwg (.fin trivial hq) (λ_=>?_) (.inl (by simp only[phi];omega))
   .simp at he;subst he;exact⟨rfl,λx hx=>by simp[ofEvent_mk,BY]at hx⟩
   .simp at he;subst he;simp[ofEvent_mk,BY]at hx
   .simp at he;subst he;simp[mk]
   .simp at he;subst he;rw[ofEvent_mk];exact hlt'
   .have e1:Cd 0 a.frame.fn a.frame.place #[mk (.acquire (stA Wg))]=#[{ g:=0,fn:=a.frame.fn,pos:=a.frame.place,act:=.mark (.acquire (stA Wg)) }]:=by rw[ofEvents_eq];simp[ofEvent_mk]
    have hy:(t++#[({ g:=0,fn:=a.frame.fn,pos:=a.frame.place,act:=.mark (.acquire (stA Wg)) }:MemOp)])[t.size]? = Aa { g:=0,fn:=a.frame.fn,pos:=a.frame.place,act:=.mark (.acquire (stA Wg)) }:=by simp
    have hm:=hcom.mpos
    refine⟨t.size,by rw[e1,act?_of hy],by rw[e1];simp[GP],by rw[e1];exact⟨0,by simp[GP],by rw[deaf_old (AM _)];exact hcom.deaf0.trans hd⟩,λi hi=>?_⟩
    obtain⟨r,hr⟩:=hcom.rel i hi (by rw[hq i hi];omega)
    exact⟨r,hr.appOther Fb (by omega),lt_of_act? hr.act⟩
  .exact idle (by simp) (hgo w hI) hmu (λv=>.acq h') (by rw[hR];exact jI n')
 | ret h =>
  rename_i n
  rw[<-hR]
  rcases h.cases with ⟨hd,hk⟩|⟨n',rfl,_,g',es,hmu,hgo,h'⟩
  .exact absurd ⟨rfl,hd,hk⟩ hstop
  .have hm:=hcom.mpos
   exact tT G ha hcom (hgo w trivial) (.refl Wg w) hwg (λe he=>.inl (bk_of_mute ((hmu e he).resolve_right id))) (tag':=.ret) (λv _=>.ret h') hmode (λ_=>(hacq rfl).app λi r _ hr=>hr.appOther Fb (by omega)) (.inr ⟨rfl,by rw[hR];exact jI n'⟩)
end
end Go.Am
namespace Go.Am
open Go.Conc Go.Conc.Lib
open Go.ConcN (CT Apart Ok0 OkW PermW RelBy CTag phi WD Vc Ssum sumTo sumTo_upd OpenSt AllQuit isOpen isW3 isFin pend phi_mono phi_retag le_sumTo Vc_le Vc_upd)
open Go.ConcR (KK wgBlock stA smA rd wr mk)
section
variable {P:As} {L:WgLink} {Wg:Ae} {p:Pl} {K An:Ay->Prop} {S:Ae->Prop} {w0:Ag} {m j:Ae} {gs:Aw Ay} {w w':Ag} {sl:Aq (Ae×Ae)} {t:Trace} {D:Ae->WD} {R:Ae->Tr} {V V':Ae->Ag} {tag tag':CTag} {d0:Ae} {a a':Ay} {st sm st' sm':Al} {es:Aw C5} {r':Tr} {Post:AE->Ag->Prop}
def CS.ret_j{d:Ae}{r:Tr}{v:Ag}(h:CS P L Wg p K An tag j r d a v)(e:tag=.ret):j=p.n:=by cases h<;>first|rfl|cases e
def bOs(hKr:∀g,K g->g.status=.running)(G:Geo Wg p S)(ha:gs[0]? = Aa a)(hcs:CS P L Wg p K An tag j (R 0) d0 a (V 0))(hcom:Com P L Wg p S w0 m j gs w t D R V d0)(hwg:w.heap[Wg]? = Aa (wgBlock L.tWg st sm))(hmode:ES j D tag st sm)
 (hacq:tag=.ret->xC Wg m j t) {i:Ae} (h0:0<i) (him:i<m) {g:Ay} (hg:gs[i]? = Aa g) (hrun:g.status=.running) :
 ∃M ops μ',runT P (crowd gs w sl) i=(.next M,ops)/\MLt μ' (phi p.n (Vc j D) tag+Ssum j D,kD R (m+j),R 0)/\Inv P L Wg p K An S w0 m μ' M (t++ops):=by
 obtain⟨g1,q,hg1,hR,hq⟩:=hcom.old i h0 him
 obtain rfl:g=g1:=by rw[hg]at hg1;exact BC hg1
 cases q with
 |zero=>rw[hq.1]at hrun;cases hrun
 | succ q =>
  rcases hq with ⟨hf,_⟩|⟨_,g',es,hm',hstp,hq'⟩
  .rw[hf]at hrun;cases hrun
  obtain⟨tag',r0,hcs',htag,hwk⟩:=hcs.wokenBy hKr g g' w
  have hrunT:=runT_crowd_go (P:=P) (sl:=sl) (i:=i) hg (by rw[show(i==0)=Az by simp;omega];exact hstp w)
  have hcom':=hcom.stepO G h0 him hg hm' hq'
  have hcom'':Com P L Wg p S w0 m j ((gs.map (woken P g g' w)).setIfInBounds i g') w (t++Cd i g.frame.fn g.frame.place es) D (By (By R i (Tr.nat q)) 0 r0) V d0 :=
   { hcom' with wk:=λi' hi'=>by rw[BD (By R i (Tr.nat q)) r0 (show m+i'≠0 by omega)];exact hcom'.wk i' hi',old:=λi' h1 h2=>by rw[BD (By R i (Tr.nat q)) r0 (show i'≠0 by omega)];exact hcom'.old i' h1 h2 }
  refine⟨_,_,(phi p.n (Vc j D) tag'+Ssum j D,kD (By (By R i (Tr.nat q)) 0 r0) (m+j),r0),hrunT,?_,_,w,sl,j,D,_,V,tag',d0,woken P g g' w a,st,sm,rfl,?_,by rw[Bx];exact hcs',hcom'',hwg,hmode.retag htag,?_,by rw[Bx]⟩
  .rw[phi_retag p.n _ htag]
   refine GQ _ (FM _ _ (aMc (k:=i) (by omega) (by omega) ?_ λx h0 hx=>by rw[BD _ _ h0,BD _ _ hx]))
   rw[BD _ _ (by omega),Bx,hR];exact jI q
  .rw[AI (by omega),B6,ha];rfl
  .intro e
   rcases htag with rfl|⟨_,rfl⟩
   .exact(hacq e).app λi' r _ hr=>hr.appOther Fb (by omega)
   .cases e
def bEh(hKr:∀g,K g->g.status=.running)(ha:gs[0]? = Aa a)(hcs:CS P L Wg p K An tag j (R 0) d0 a (V 0))(hcom:Com P L Wg p S w0 m j gs w t D R V d0)(hmode:ES j D tag st sm) :
 ∃(i:Ae) (g:Ay),gs[i]? = Aa g/\g.status=.running:=by
 rcases hcs.status hKr with ⟨h,_⟩|⟨_,rfl⟩
 .exact⟨0,a,ha,h⟩
 have wk:∀i,i<j->(D i).stage≠1->∃(i:Ae) (g:Ay),gs[i]? = Aa g/\g.status=.running:=λi hi hne=>by
  obtain⟨g,hg,hs⟩:=hcom.wk i hi;rcases hs.status with h|⟨_,h⟩
  .exact⟨m+i,g,hg,h⟩
  .exact absurd h hne
 cases hmode with
 |opn h1 _ _=>exact h1.elim
 | reg _ h2 h3 =>
  obtain⟨i,hi,h5⟩:∃i,i<j/\CE (D i)≠0:=EC λhno=>by
   have:Vc j D=0:=by
    have:∀i,i<j->CE (D i)=0:=λi hi=>EC λhne=>hno ⟨i,hi,hne⟩
    have e:=ConcN.sumTo_congr (f:=λi=>CE (D i)) (g:=λ_=>0) (j:=j) this;have z:∀j,sumTo j (λ_=>0)=0:=λj=>by induction j with
     |zero=>rfl
     |succ j ih=>simp[sumTo,ih]
    simp only[Vc];rw[e,z]
   omega
  refine wk i hi λe=>h5 ?_
  simp[CE,e]
 |last L' _ h2 h3 _=>exact wk L' h2 (by omega)
 |fin h1 _=>exact h1.elim
def bMe(hKr:∀g,K g->g.status=.running)(ha:gs[0]? = Aa a)(hcs:CS P L Wg p K An tag j (R 0) d0 a (V 0))(hcom:Com P L Wg p S w0 m j gs w t D R V d0):∀g∈gs,awake g:=by
 intro g hg tm;obtain⟨i,hi⟩:=Array.mem_iff_getElem?.1 hg;by_cases h0:i=0
 .subst h0;rw[ha]at hi;cases hi;rcases hcs.status hKr with ⟨hs,_⟩|⟨hs,_⟩<;>rw[hs]<;>simp
 .have hlt:i<m+j:=by have:=(Bm.1 hi).1;rw[hcom.size]at this;omega
  by_cases him:i<m
  .obtain⟨g',q,hg',_,hq⟩:=hcom.old i (by omega) him;rw[hi]at hg';cases hg';rcases hq.status with h|h<;>rw[h]<;>simp
  .obtain⟨g',hg',hs⟩:=hcom.wk (i-m) (by omega);rw[show m+(i-m)=i by omega,hi]at hg';cases hg';rcases hs.status with h|⟨h,_⟩<;>rw[h]<;>simp
def bQo(hKr:∀g,K g->g.status=.running)(hAn:∀g,An g->Dl P Ak (cQ L.tWg Wg) (cZ Wg) (λd g=>d=1/\tN P L Wg K An d g) 1 g)(G:Geo Wg p S)(hn:p.n<2147483648)
 (hFin:∀(gs:Aw Ay) (w:Ag) (sl:Aq (Ae×Ae)) (R:Ae->Tr) (V:Ae->Ag) (D:Ae->WD) (a:Ay) (t:Trace),gs[0]? = Aa a->K a->Com P L Wg p S w0 m p.n gs w t D R V 0->w.heap[Wg]? = Aa (wgBlock L.tWg 0 0)->AllQuit p.n D->xC Wg m p.n t->dS P Post (crowd gs w sl) t) :
 ∀μ M t,Inv P L Wg p K An S w0 m μ M t->dS P Post M t:=by
 intro μ
 induction μ using bYw.induction with
 | _ μ ih =>
  rintro M t ⟨gs,w,sl,j,D,R,V,tag,d0,a,st,sm,rfl,ha,hcs,hcom,hwg,hmode,hacq,rfl⟩
  by_cases hstop:tag=.ret/\d0=0/\K a
  .obtain⟨rfl,rfl,hk⟩:=hstop
   obtain⟨hq,rfl,rfl⟩:=hmode.fin_inv trivial
   obtain rfl:j=p.n:=hcs.ret_j rfl
   exact hFin gs w sl R V D a t ha hk hcom hwg hq (hacq rfl)
  obtain⟨i,g,d,sl',hg,hrun,hst⟩:=crowd_pick (P:=P) (w:=w) (sl:=sl) (bMe hKr ha hcs hcom) (bEh hKr ha hcs hcom hmode)
  have hcs':=hcs.env (cL (V 0) (w.at d))
  have hcom':=hcom.at d
  have hwg':(w.at d).heap[Wg]? = Aa (wgBlock L.tWg st sm):=hwg
  have hm:=hcom.mpos
  by_cases h0:i=0
  .subst h0
   obtain rfl:g=a:=by rw[ha]at hg;exact(BC hg).symm
   obtain⟨M,ops,μ',h1,h2,h3⟩:=aQo (sl:=sl') hKr hAn G hn ha hcs' hcom' hwg' hmode hacq hrun hstop
   exact dS.step (hst.trans h1) (ih μ' h2 M _ h3)
  have hlt:i<m+j:=by have:=(Bm.1 hg).1;rw[hcom.size]at this;omega
  by_cases him:i<m
  .obtain⟨M,ops,μ',h1,h2,h3⟩:=bOs (sl:=sl') hKr G ha hcs' hcom' hwg' hmode hacq (by omega) him hg hrun
   exact dS.step (hst.trans h1) (ih μ' h2 M _ h3)
  .obtain⟨i',rfl⟩:∃i',i=m+i':=⟨i-m,by omega⟩
   obtain⟨M,ops,μ',h1,h2,h3⟩:=aQm (sl:=sl') hKr G hn hcs.bound ha hcs' hcom' hwg' hmode hacq (by omega) hg hrun
   exact dS.step (hst.trans h1) (ih μ' h2 M _ h3)
end
end Go.Am
namespace Go.Am
open Go.Conc Go.Conc.Lib
open Go.ConcN (CT Apart Ok0 OkW PermW RelBy CTag phi WD Vc Ssum sumTo sumTo_upd OpenSt AllQuit isOpen isW3 isFin pend)
open Go.ConcR (KK wgBlock stA smA rd wr mk)
def inV(v:Ag)(C:Ae):World:={ v with heap:=((v.heap.map aDh).setIfInBounds C hole).push hole }
def rK(v:Ag)(C:Ae):(inV v C).heap.size=v.heap.size+1:=by simp[inV]
def aWh{v:Ag}{C:Ae}(h:C<v.heap.size):(inV v C).heap[C]? = Aa hole:=by simp[inV,BW,h]
def aJm(v:Ag)(C:Ae):(inV v C).heap[v.heap.size]? = Aa hole:=by simp only[inV,BW];simp
def aAm{v:Ag}{C b:Ae}(h:b<v.heap.size)(hne:b≠C):(inV v C).heap[b]? = (v.heap[b]?).map aDh:=by simp only[inV,BW,G8,Array.size_map,Ap (Nat.ne_of_lt h)];rw[AI (DZ hne),B6]
def bIv{v:Ag}{C b:Ae}(h:v.heap[b]? = Aa hole):(inV v C).heap[b]? = Aa hole:=by
 have hlt:=bL h;by_cases e:b=C
 .subst e;exact aWh hlt
 .rw[aAm hlt e,h,Bj,aDg]
def aGt{v:Ag}{C b:Ae}(h:b<=v.heap.size):rV (inV v C) b:=by
 rcases Nat.lt_or_eq_of_le h with hlt|rfl
 .by_cases e:b=C
  .subst e;exact uK (aWh hlt)
  .obtain⟨c,t,e'⟩:=rM v.heap[b];exact⟨c,t,by rw[aAm hlt e,Ar hlt,Bj,e']⟩
 .exact uK (aJm v C)
def aSn(v:Ag)(C:Ae):OkV (inV v C):=λb o ho=>by have hlt:=bL ho;rw[rK]at hlt;obtain⟨c,t,e⟩:=aGt (v:=v) (C:=C) (b:=b) (by omega);rw[e]at ho;obtain rfl:=BC ho;rfl
def bSk{v w:Ag}(h:Sim v w)(C:Ae)(o:Obj):Sim (inV v C) { w with heap:=w.heap.push o }:=by
 refine⟨h.tape,h.drawn,h.os,h.output,by rw[rK];simp[h.size],λb x hx=>?_⟩;have hlt:=bL hx;rw[rK]at hlt;by_cases e:b=v.heap.size
 .subst e;rw[aJm]at hx;exact .inl (BC hx).symm
 .by_cases e':b=C
  .subst e';rw[aWh (by omega)]at hx;exact .inl (BC hx).symm
  .rw[aAm (by omega) e']at hx;have:=(aOa h).blk b x (by rw[oN];exact hx);simp only[BW];rw[Ap (by rw[<-h.size];exact e)];exact this
structure bVf(p:Pl)(v v':Ag):Prop where
 ok:OkV v'
 tape:v'.tape=v.tape
 os:v'.os=v.os
 output:v'.output=v.output
 size:v.heap.size<v'.heap.size
 old:∀b,b<v.heap.size->b≠p.C->v'.heap[b]? = v.heap[b]?
 val:∃cs:Aw AE,v'.heap[p.C]? = Aa (.cells cs p.ety (0,0))/\cs.size=p.tot/\∀i,i<p.n->∀r,r<p.wd->cs[i*p.wd+r]? = Aa (p.val i r)
 new:∀b,v.heap.size<=b->b<v'.heap.size->v'.heap[b]? = Aa hole
def KF(P:As)(W0:Ag)(Post:AE->Ag->Prop)(p:Pl)(v:Ag)(g:Ay):Prop:=g.status=.running/\∀v',bVf p v v'->dC P W0 Post g v'
section
variable {P:As} {L:WgLink} {p:Pl} {W0:Ag} {Post:AE->Ag->Prop} {S:Ae->Prop}
def bZo{Wg m n:Ae}{gs:Aw Ay}{w w0:Ag}{t:Trace}{D:Ae->WD}{R:Ae->Tr}{V:Ae->Ag}(hcom:Com P L Wg p S w0 m n gs w t D R V 0)(hacq:xC Wg m n t):t.HandedOver:=by
 intro i g hgi hne hc;have hm:=hcom.mpos;by_cases hlt:g<m
 .exact hcom.over i g hgi hne hlt hc
 obtain⟨q,h1,h2,h3,h4⟩:=hacq;obtain⟨op,ho,rfl⟩:=Ai.1 hgi;have:=hcom.ct.gs i op ho;obtain⟨r,hr,hrq⟩:=h4 (op.g-m) (by omega);rw[show m+(op.g-m)=op.g by omega]at hr;have edge:HappensBefore t r q:=.single (.inr ⟨.marked hrq (.inr hr.act) h1 (λk _ _=>hcom.norel k),hr.heard,h3⟩);have hle:i<=r:=Nat.le_of_not_lt λhlt=>hr.after i hlt hgi hc
 rcases Bc i r with hlt|hge
 .exact⟨q,h2,.trans (.single (.inl ⟨hlt,op.g,hgi,hr.g⟩)) edge⟩
 .obtain rfl:i=r:=by omega
  exact⟨q,h2,edge⟩
def WS.quits{Wg i s d:Ae}{r:Tr}{g:Ay}{v:Ag}(h:WS P L Wg p i s r d g v)(hs:s=1):∃q,QuitsD P q d g:=by cases h<;>first|exact absurd hs (by decide)|exact⟨_,‹_›⟩
def bYd{v1 ws:Ag}(hsim:Sim v1 ws)(hok:OkV v1)(hKp:Kp W0 v1 ws)(hS:∀b,S b->v1.heap[b]? = Aa hole){cs0:Aw AE}(hC:v1.heap[p.C]? = Aa (.cells cs0 p.ety (0,0)))(hCs:cs0.size=p.tot)(hty:p.ety≠0)
 {m:Ae} {gs:Aw Ay} {w:Ag} {sl:Aq (Ae×Ae)} {R:Ae->Tr} {V:Ae->Ag} {D:Ae->WD} {a:Ay} {t:Trace} (ha:gs[0]? = Aa a) (hK:KF P W0 Post p v1 a)
 (hcom:Com P L ws.heap.size p S { ws with heap:=ws.heap.push (wgBlock L.tWg 0 0) } m p.n gs w t D R V 0) (hwg:w.heap[ws.heap.size]? = Aa (wgBlock L.tWg 0 0)) (hq:AllQuit p.n D) (hacq:xC ws.heap.size m p.n t):dS P Post (crowd gs w sl) t:=by
 have hm:=hcom.mpos
 have hsz:v1.heap.size=ws.heap.size:=hsim.size
 have hwlt:=bL hwg
 have hClt:=bL hC
 obtain⟨cs,fz,hcs,hcn,hfz⟩:=hcom.pay
 have hstay:∀b,b<ws.heap.size->(b≠p.C\/p.tot=0)->w.heap[b]? = ws.heap[b]? := λb hb hne=>by rw[hcom.stay b hb hne];simp only[BW];rw[Ap (by omega)]
 generalize hv:({ v1 with heap:=v1.heap.setIfInBounds p.C (.cells cs p.ety (0,0))++Bd (w.heap.size-v1.heap.size) hole,drawn:=w.drawn }:Ag)=v'
 have gC:v'.heap[p.C]? = Aa (.cells cs p.ety (0,0)):=by rw[<-hv];simp only;rw[B5 (by simpa using hClt),Ce hClt]
 have gO:∀b,b<v1.heap.size->b≠p.C->v'.heap[b]? = v1.heap[b]? := λb hb hne=>by rw[<-hv];simp only;rw[B5 (by simpa using hb),AI (DZ hne)]
 have gS:v'.heap.size=w.heap.size:=by rw[<-hv];simp;omega
 have gN:∀b,v1.heap.size<=b->b<v'.heap.size->v'.heap[b]? = Aa hole:=λb h1 h2=>by rw[gS]at h2;rw[<-hv];simp only;rw[Cu (by simpa using h1),Co];simp;omega
 have gok:OkV v':=λb o ho=>by
  have hlt:=bL ho;by_cases e:b=p.C
  .subst e;rw[gC]at ho;obtain rfl:=BC ho;rfl
  .rcases Bc b v1.heap.size with h|h
   .rw[gO b h e]at ho;exact hok b o ho
   .rw[gN b h hlt]at ho;obtain rfl:=BC ho;rfl
 have gsim:Sim v' w:=by
  refine⟨?_,?_,?_,?_,gS,λb o ho=>?_⟩
  .rw[<-hv,hcom.like.1];exact hsim.tape
  .rw[<-hv]
  .rw[<-hv,hcom.like.2.1];exact hsim.os
  .rw[<-hv,hcom.like.2.2];exact hsim.output
  .have hlt:=bL ho;by_cases e:b=p.C
   .subst e;rw[gC]at ho;rw[hcs];obtain rfl:=BC ho;by_cases hz:cs.size=0
    .exact .inr (.inr ⟨cs,p.ety,fz,by rw[hz],rfl⟩)
    .rw[hfz hz];exact .inr (.inl rfl)
   .rcases Bc b v1.heap.size with h|h
    .rw[gO b h e]at ho;rw[hstay b (by omega) (.inl e)];exact hsim.blk b o ho
    .rw[gN b h hlt]at ho;exact .inl (BC ho).symm
 have hF:bVf p v1 v':=by refine⟨gok,by rw[<-hv],by rw[<-hv],by rw[<-hv],by omega,gO,⟨cs,gC,hcn,λi hi r hr=>?_⟩,gN⟩;have:=hcom.has i hi (by rw[hq i hi];omega) r hr;simpa[BN,Pl.cell,hcs]using this
 have hover:=bZo hcom hacq
 have hquit:∀i,0<i->∀g,gs[i]? = Aa g->∃q,QuitsD P q (Deaf t i) g:=λi h0 g hg=>by
  have hlt:i<m+p.n:=by have:=(Bm.1 hg).1;rw[hcom.size]at this;exact this
  by_cases him:i<m
  .obtain⟨g',q,hg',_,hqq⟩:=hcom.old i h0 him;rw[hg]at hg';cases hg';exact⟨q,hqq⟩
  .obtain⟨g',hg',hs⟩:=hcom.wk (i-m) (by omega);rw[show m+(i-m)=i by omega,hg]at hg';cases hg';obtain⟨q,hqq⟩:=hs.quits (hq (i-m) (by omega));have:=hcom.deafW (i-m) (by omega);rw[show m+(i-m)=i by omega]at this;exact⟨q,by rw[this];exact hqq⟩
 have hqf:∃q:Ae->Ae,∀i g,0<i->gs[i]? = Aa g->QuitsD P (q i) (Deaf t i) g:=by
  classical
  refine Hc (r:=λi q=>∀g,0<i->gs[i]? = Aa g->QuitsD P q (Deaf t i) g) (λi=>?_) |>.elim λq h=>⟨q,λi g h0 hg=>h i g h0 hg⟩
  by_cases h:∃g,0<i/\gs[i]? = Aa g
  .obtain⟨g,h0,hg⟩:=h;obtain⟨q,hqq⟩:=hquit i h0 g hg;exact⟨q,λg' _ hg'=>by rw[hg]at hg';cases hg';exact hqq⟩
  .exact⟨0,λg h0 hg=>(h ⟨g,h0,hg⟩).elim⟩
 obtain⟨q,hqf⟩:=hqf
 refine hK.2 v' hF v' (.refl _) gok (ShW S ws.heap.size) gs w sl t q (λb hb=>?_) gsim ha ⟨λi g h0 hg=>hqf i g h0 hg,λi hi=>hcom.above i (by rw[<-hcom.size];exact hi)⟩ ⟨hcom.ct.nr,λi x hx hmm=>?_,hover,hcom.deaf0,hcom.seen⟩
  ⟨hcom.ct.quiet,hcom.mem,λi op hop=>by have:=hcom.ct.gs i op hop;rw[hcom.size];omega⟩ (λb o hb ho=>?_)
 .rcases hb with hb|rfl
  .have h:=hS b hb
   have hlt:=bL h
   rw[gO b hlt (λe=>by subst e;rw[hC]at h;injection h with h;injection h with _ e2 _;exact hty e2)];exact h
  .exact gN _ (by omega) (by omega)
 .rcases hcom.kn i x hx with h|h|⟨⟨g,hg,hgm⟩,hk⟩
  .exact .inl h
  .exact .inr h
  .obtain⟨q',hq1,hq2⟩:=hover i g hg (by omega) ⟨x,hx,hmm,.inl hk⟩
   obtain⟨z,hz,hzg⟩:=Ai.1 hq1
   exact .inl ⟨q',z,hz,hzg,.inr hq2⟩
 .obtain⟨h1,c,ty,h2⟩:=hKp b o hb ho
  have hlt:=bL h2
  by_cases e:b=p.C
  .subst e
   rw[hC]at h2
   injection h2 with h2;injection h2 with e1 e2 e3
   subst e1;subst e2
   have hz:cs0.size=0:=by injection e3 with _ e4;exact e4.symm
   have hcz:cs.size=0:=by omega
   exact⟨(hstay _ (by omega) (.inr (by omega))).trans h1,cs,p.ety,by rw[gC,hcz]⟩
  .exact⟨(hstay b (by omega) (.inl e)).trans h1,c,ty,(gO b hlt e).trans h2⟩
def aGd{g0:Ay}{g1:Ae->Ay}{v:Ag}(hrun:g0.status=.running)
 (halloc:∀v1 w,Env v v1->OkV v1->Sim v1 w->stepG P Ak g0 w=.go (g1 w.heap.size) { w with heap:=w.heap.push (wgBlock L.tWg 0 0) } #[])
 (hC:∃cs:Aw AE,v.heap[p.C]? = Aa (.cells cs p.ety (0,0))/\cs.size=p.tot) (hty:p.ety≠0) (hn:p.n<2147483648)
 (hscr:∀v1,Env v v1->OkV v1->∃An:Ay->Prop,(∀g,An g->Dl P Ak (cQ L.tWg v1.heap.size) (cZ v1.heap.size) (λd g=>d=1/\tN P L v1.heap.size (KF P W0 Post p v1) An d g) 1 g) /\
  kQ P L v1.heap.size p (KF P W0 Post p v1) An p.n (g1 v1.heap.size) (inV v1 p.C)):dC P W0 Post g0 v:=by
 refine aCo hrun λv1 w he hok hsim hKp=>.inl ⟨_,_,_,halloc v1 w he hok hsim,λS gs sl t q hS hg0 hL hP hTd=>?_⟩
 have et:t++Cd 0 g0.frame.fn g0.frame.place #[]=t:=by rw[ofEvents_eq];simp
 rw[et]at hL ⊢
 obtain⟨cs0,hC,hCs⟩:=hC
 have hC1:v1.heap[p.C]? = Aa (.cells cs0 p.ety (0,0)):=by rw[he.get (bL hC)];exact hC
 have hClt:=bL hC1
 have hsz:v1.heap.size=w.heap.size:=hsim.size
 obtain⟨An,hAn,hscr⟩:=hscr v1 he hok
 rw[hsz]at hAn hscr
 have hlt0:0<gs.size:=(Bm.1 hg0).1
 have hwC:∃f,w.heap[p.C]? = Aa (.cells cs0 p.ety f)/\(cs0.size≠0->f=(0,0)):=by
  rcases hsim.blk _ _ hC1 with e|e|⟨c,e',f',e,h⟩
  .injection e with e1 e2 e3;exact absurd e2 hty
  .exact⟨_,e,λ_=>rfl⟩
  .injection e with e1 e2 e3;subst e1;subst e2
   refine⟨f',h,λhz=>?_⟩;injection e3 with _ e4;exact absurd e4.symm hz
 have G:Geo w.heap.size p S:=⟨by omega,λhs=>by
  have:=hS _ hs;rw[hC1]at this;injection this with this;injection this with _ e2 _;exact hty e2⟩
 have hfar:∀i x,touchAt t i=Aa x->∀a,x.loc=.cell a->a.block<w.heap.size:=λi x hx a e=>by obtain⟨op,hop,hox⟩:=touch_of hx;have:=aFp (hP.seen op (B7 hop)) hox;rw[e]at this;exact this
 have hpay0:bCb p { w with heap:=w.heap.push (wgBlock L.tWg 0 0) }:=by obtain⟨f,h1,h2⟩:=hwC;refine⟨cs0,f,?_,hCs,h2⟩;simp only[BW];rw[Ap (by omega)];exact h1
 have hcom:∀R:Ae->Tr,(∀i,0<i->i<gs.size->R i=Tr.nat (q i))->Com P L w.heap.size p S { w with heap:=w.heap.push (wgBlock L.tWg 0 0) } gs.size 0 gs { w with heap:=w.heap.push (wgBlock L.tWg 0 0) } t (λ_=>⟨0,0,0⟩) R (λ_=>inV v1 p.C) 0:=λR hR=>by
  have a0:∀k,iK gs.size 0 k->k=0:=λk hk=>hk.elim id λx=>by omega
  have hfree:∀l,¬dP (ShW S w.heap.size) l->Perm t 0 l:=λl hl i x hx e=>by
   rcases hP.known i x hx (hTd.mem i x hx)with h|⟨h,_⟩
   .exact h
   .refine absurd ?_ hl;rw[<-e];cases hx':x.loc with
    |cell a=>rw[hx']at h;exact .inl h
    |_=>rw[hx']at h;exact h.elim
  refine⟨hlt0,rfl,λi hi=>by omega,λi h1 h2=>?_,λi hi=>hL.above i hi,⟨λi op x hop hx hs=>?_,λk h1 h2 l hl=>absurd hl.2.1 (by have:=hl.1;omega),λk h1 h2 l hl=>absurd hl.2.1 (by have:=hl.1;omega),λl hl _=>hfree l hl,λl hl _=>PermW.of (hfree l hl),hP.clean,λi op hop=>by have:=hTd.num i op hop;omega⟩,
   λi hi=>?_,hP.hears,λi hi=>by omega,λi hi=>by omega,λi hi=>by omega,hpay0,⟨λk hk=>bSk hsim _ _,λk hk=>aSn _ _,λk k' hk hk' hne=>absurd ((a0 k hk).trans (a0 k' hk').symm) hne⟩,λk hk b hb=>aGt (by omega),λk hk=>aWh hClt,λk hk b hb=>?_,λb hb hne=>rfl,⟨rfl,rfl,rfl⟩,λi x hx=>?_,hTd.mem,λi g hg hne _ hc=>hP.over i g hg hne hc,λop hop=>MemAct.low_mono (by simp) (hP.seen op hop)⟩
  .obtain⟨g,hg⟩:∃g,gs[i]? = Aa g:=⟨_,Ar h2⟩;exact⟨g,q i,hg,hR i h1 h2,hL.old i g h1 hg⟩
  .have hxt:touchAt t i=Aa x:=by rw[touchAt_of hop];exact hx
   refine hTd.quiet i op x hop hx ?_;cases hx':x.loc with
   | cell a =>
    rw[hx']at hs;rcases hs with hs|hs
    .exact hs
    .have:=hfar i x hxt a hx';omega
   |_=>rw[hx']at hs;exact hs.elim
  .obtain⟨op,hop,hoa⟩:=Ai.1 hi;have:=hP.seen op (B7 hop);rw[hoa]at this;exact absurd this (Nat.lt_irrefl _)
  .rcases hb with hb|rfl
   .exact bIv (hS b hb)
   .rw[<-hsz];exact aJm _ _
  .rcases hP.known i x hx (hTd.mem i x hx)with h|⟨h,hk⟩
   .exact .inl h
   .refine .inr (.inl ⟨?_,hk⟩);cases hx':x.loc with
    |cell a=>rw[hx']at h;exact .inl h
    |_=>rw[hx']at h;exact h.elim
 have hwg:({ w with heap:=w.heap.push (wgBlock L.tWg 0 0) }:Ag).heap[w.heap.size]? = Aa (wgBlock L.tWg 0 0):=by simp
 have hmode:∀tag,isOpen tag->pend tag=0->(∀vs,tag≠.w2 vs)->ES 0 (λ_=>(⟨0,0,0⟩:WD)) tag 0 0:=λtag h1 h2 h3=>by have:=ConcN.Mode.opn (j:=0) (D:=λ_=>(⟨0,0,0⟩:WD)) h1 (λi hi=>by omega) (λvs e=>absurd e (h3 vs));simpa[Vc,sumTo,h2]using this
 have hrest:∀μ M t,Inv P L w.heap.size p (KF P W0 Post p v1) An S { w with heap:=w.heap.push (wgBlock L.tWg 0 0) } gs.size μ M t->dS P Post M t :=
  bQo (λg h=>h.1) hAn G hn λgs' w' sl' R V D a t' ha hk hcom' hwg' hq hacq=>bYd hsim hok hKp hS hC1 hCs hty ha hk hcom' hwg' hq hacq
 cases hpn:p.n with
 | zero =>
  rw[hpn]at hscr
  obtain⟨tr,hk⟩:=hscr
  refine hrest _ _ _ ⟨gs,_,sl,0,_,λi=>if i=0 then tr else Tr.nat (q i),_,.w1,0,_,0,0,rfl,hg0,?_,hcom _ λi h0 _=>Ap (by omega),hwg,hmode .w1 trivial rfl (by simp),by simp,rfl⟩
  have:=CS.w1 (p:=p) hk
  rw[hpn]at this
  exact this
 | succ r =>
  rw[hpn]at hscr
  obtain⟨tr,hk⟩:=hscr
  refine hrest _ _ _ ⟨gs,_,sl,0,_,λi=>if i=0 then tr else Tr.nat (q i),_,.sp r 4,0,_,0,0,rfl,hg0,?_,hcom _ λi h0 _=>Ap (by omega),hwg,hmode (.sp r 4) trivial rfl (by simp),by simp,rfl⟩
  have:=CS.a1 (p:=p) (r:=r) (by omega) hk
  rw[show p.n-(r+1)=0 by omega]at this
  exact this
end
end Go.Am
namespace Go.Am
open Go.Conc
section
variable {P:As} [M:Mch P]
def aUp{Win:Ay->Ag->Prop}(hW:M.Fam Win){ops:Aw Bf}{b:BU}{k:Ad Item}{cs:Ad BU}(hb:kA b){Q:Exit->Act->Ag->Prop}{r:Ae}:∀(l:Ad Bf) (n:Ae) (a:Act) (v:Ag),OkV v->(∀j o,l[j]? = Aa o->ops[n+j]? = Aa o)->gP P ops Q l a v ->
 (∀a' v',OkV v'->Q .normal a' v'->Win (G (b.at a' (.inRegion ops (D8 (n+l.length) r)::k)) cs) v')->Win (G (b.at a (.inRegion ops (D8 n (l.length+r))::k)) cs) v
 |[],n,a,v,hv,_,h,hk=>by simpa using hk a v hv h
 | o::l,n,a,v,hv,hl,h,hk=>by
  have ho:ops[n]? = Aa o:=by simpa using hl 0 o rfl
  have ih:=λa v hv h=>aUp hW hb (Q:=Q) (r:=r) l (n+1) a v hv (λj o hj=>by have:=hl (j+1) o (by simpa using hj);rw[<-this];congr 1;omega) h (λa' v' hv' hq=>by have:=hk a' v' hv' hq;rwa [show n+1+l.length=n+(o::l).length by simp;omega])
  rw[show(o::l).length+r=(l.length+r)+1 by simp;omega,List.range'_succ];unfold gP at h;split at h
  .rename_i hw;exact aAw hW hb ho hw hv h λa' v' hv' h'=>ih a' v' hv' h'
  .rename_i hw;exact qX hW ho hw hv (ih _ v hv h)
def aQc{Win:Ay->Ag->Prop}(hW:M.Fam Win){Gx:Ctx}{N:Ae}{ds:Ad Cl}{σ:St}{a:Act}{v:Ag}{id:Ae}{ops:Aw Bf}{l1 l2:Ad Bf}{b:BU}{k:Ad Item}{cs:Ad BU}{Q:St->Prop}
 (hb:kA b) (hops:ops.toList=l1++l2) (hdst:∀o∈l1,∀d,o.dst=Aa d->d<N/\Gx.Z d=Aj) (hsr:SR Gx N ds σ a v) (h:OWd P ops l1 σ [] (λσ' con=>aUd σ' con Q .mk) .mk)
 (hk:∀σ' a' v',OkV v'->Q σ'->SR Gx N ds σ' a' v'->Win (G (b.at a' (.inRegion ops (D8 l1.length l2.length)::k)) cs) v'):Win (G (b.at a (.code (.region id ops Az)::k)) cs) v:=by
 have hv:OkV v:=hsr.2.2.1
 refine aD hW rfl hv (λw=>stepG_region) ?_
 have hsz:ops.size=l1.length+l2.length:=by rw[<-Array.length_toList,hops,BK]
 rw[List.range_eq_range',hsz]
 obtain⟨hn0,hwf,hag⟩:=oS hsr
 obtain⟨h1,h2⟩:=hag σ.H λ_ _ h=>h
 have:=aIv (k:=λσ' con=>Q (fin σ' con)) (Q':=λe a' v'=>e=.normal/\∃σ',Q σ'/\SR Gx N ds σ' a' v') (λσ' con' s a w hq hn' hwf' hag' hr=>⟨rfl,_,hq,yP hsr.2.1.2 hn' hwf' hag' hr⟩) l1 σ [] _ a v hdst hn0 hwf h1 h2 h
 refine aUp hW hb l1 0 a v hv (λj o hj=>?_) this λa' v' hv' hq=>?_
 .rw[AP,<-Bq,hops,List.getElem?_append_left (AA.1 hj).1];exact hj
 .obtain⟨_,σ',hq1,hq2⟩:=hq
  rw[AP]
  exact hk σ' a' v' hv' hq1 hq2
end
def uR{v:Ag}{N:Ae}{a:Act}{sl:Ad (Ae×AV)}{Z:Ae->Aq AE}(hok:OkV v)(hN:a.tmps.size=N)(hZ:∀t x,Z t=Aa x->a.tmps.getD t undef=x)
 (hs:∀t,V (λb=>b<v.heap.size) v (λ_=>Aj) (gK sl t) (a.tmps.getD t undef)):SR ⟨v,λb=>b<v.heap.size,bG,λ_ _=>True,Z⟩ N a.defers (StL sl Aj []) a v:=by
 have hH:∀id,(StL sl Aj []).H id=none:=λid=>by cases id<;>simp[StL,bLg,zV]
 refine⟨λid _=>hH id,⟨λ_ _ _=>trivial,λ_ _ _=>trivial⟩,hok,λb=>b<v.heap.size,λ_=>Aj,⟨.refl _ _ _,λb h=>h,λb h=>.inl h,λ_ _ h=>by simp at h,λ_ _ _ h=>by simp at h,λ_ _ _ h=>by simp at h,λ_ _ _ _ _ h=>by simp at h⟩,λid=>by rw[hH];simp,hs,⟨hN,hZ⟩,rfl,λ_ _ h=>by simp at h⟩
def lL{F:Ae->Prop}{v:Ag}{ι:Ae->Aq Ae}{T:Ae->AE}:∀(sl:Ad (Ae×AV)),(∀x∈sl,V F v ι x.2 (T x.1))->∀t,V F v ι (gK sl t) (T t)
 |[],_,t=>by exact .any _
 | (n,x)::sl,h,t=>by
  have ih:=lL sl (λy hy=>h y (AT _ hy)) t;have h0:=h (n,x) (AX ..);by_cases e:t=n
  .subst e;rw[gK,upd_same];exact h0
  .rw[gK,upd_ne _ _ e];exact ih
section
variable {P:As} [M:Mch P] {Gx:Ctx} {N:Ae} {ds:Ad Cl} {ops:Aw Bf}
def bYf{o:Bf}{σ:St}{a:Act}{v:Ag}{Q:St->Prop}(hno:gW [o]=Ak)(hdst:∀d,o.dst=Aa d->d<N/\Gx.Z d=Aj)(hs:SR Gx N ds σ a v)(h:OWd P ops [o] σ [] (λσ' con=>aUd σ' con Q .mk) .mk) :
 if Bu o (yielded ops a.tmps)then ∀v1,Env v v1->wpX P o a v1 (λa' v'=>∃σ',Q σ'/\SR Gx N ds σ' a' v')else ∃σ',Q σ'/\SR Gx N ds σ' (a.put o.dst undef) v:=by
 obtain⟨hn0,hwf,hag⟩:=oS hs
 obtain⟨fb,hfb⟩:=rW (G:=Gx) (k:=λσ' con=>Q (fin σ' con)) [o] σ [] hno hn0 hwf h
 obtain⟨g1,g2⟩:=hag (λi=>if i<σ.n then σ.H i else fb i) (λi o hi=>by
  rcases Bc i σ.n with hlt|hge
  .rw[AB hlt];exact hi
  .rw[hwf.top i hge]at hi;cases hi)
 obtain⟨s',hd,σ',con',hoa,hn',hwf',hag'⟩:=hfb _ g1 (λi hi=>by simp only;rw[Ap (by omega)])
 exact pU (K:=λa' v'=>∃σ',Q σ'/\SR Gx N ds σ' a' v') hd hdst g2 λa' w' hr'=>⟨_,hoa,yP hs.2.1.2 hn' hwf' hag' hr'⟩
def aYy{listed:Aw Bw}(hb:bVz ops=Ak)(hs:listed.size=ops.size)(h0:Bo .any ops listed=[])(i:Ae)(hi:i<ops.size):listed.getD i Az=true:=by
 revert hi;refine Nat.strongRecOn i λi ih hi=>?_
 refine CY λhno=>?_
 have hun:listed.getD i Ak=false:=CY λh=>hno (bAl (by omega) h)
 have:i∈Bo .any ops listed:=mem_ready.2 ⟨hun,ops[i],Ar hi,λe he hbd=>by
  have h1:=A1.1 hb i (Cc.2 hi);rw[Ar hi]at h1;simp only[Array.all_eq_true']at h1;have h2:=h1 e he;rw[hbd]at h2;have h3:e.on<i:=by simpa using h2
  exact ih e.on h3 (by omega)⟩
 rw[h0]at this;cases this
def bAa{listed:Aw Bw}{i:Ae}(hii:i<listed.size):(λj=>listed.getD j Az=Ak\/j=i)=λj=>(listed.setIfInBounds i Ak).getD j Az=true:=by
 funext j;refine propext ?_;by_cases hji:j=i
 .subst hji;simp[Au,Fj,hii]
 .simp[Au,Fj,hji,DZ hji]
def aKw{Win:Ay->Ag->Prop}(hW:M.Fam Win){b:BU}{k:Ad Item}{cs:Ad BU}(hb:kA b)(T:(Ae->Prop)->St->Prop)(s:Ae)(hs:s<ops.size)(hback:bVz ops=Ak)(hno:gW ops.toList=Ak)
 (hdst:∀(i:Ae) (o:Bf) (d:Tmp),ops[i]? = Aa o->o.dst=Aa d->d<N/\Gx.Z d=Aj)
 (hstep:∀(L:Ae->Prop) (i:Ae) (o:Bf),ops[i]? = Aa o->i≠s->¬L s->(∀j,bKj ops i j=Ak->L j)->∀σ,T L σ->OWd P ops [o] σ [] (λσ' con=>aUd σ' con (λσ2=>T (λj=>L j\/j=i) σ2) .mk) .mk)
 (hend:∀(fuel t:Ae) (listed:Aw Bw) (σ:St) (a:Act) (v:Ag),listed.size=ops.size->listed.getD s Ak=Az->unl (listed.setIfInBounds s Ak)<=fuel->(∀j,bKj ops s j=Ak->listed.getD j Az=Ak)->T (λj=>listed.getD j Az=Ak) σ->SR Gx N ds σ a v ->
  Win (G (b.at a (.inRegion ops (s::BF .any ops fuel t (listed.setIfInBounds s Ak) [])::k)) cs) v) :
 ∀(fuel t:Ae) (listed:Aw Bw) (σ:St) (a:Act) (v:Ag),listed.size=ops.size->unl listed<=fuel->listed.getD s Ak=Az->T (λj=>listed.getD j Az=Ak) σ->SR Gx N ds σ a v ->
  Win (G (b.at a (.inRegion ops (BF .any ops fuel t listed [])::k)) cs) v
 | 0,t,listed,σ,a,v,hsz,hu,hls,hT,hsr=>by have h1:=bDo (by omega) s (by omega:s<listed.size);rw[Au,Ar (by omega)]at h1 hls;simp at h1 hls;rw[h1]at hls;cases hls
 | fuel+1,t,listed,σ,a,v,hsz,hu,hls,hT,hsr=>by
  have hv:OkV v:=hsr.2.2.1;have hnil:Bo .any ops listed≠[]:=λh0=>by have h1:=aYy hback hsz h0 s hs;rw[Au,Ar (by omega)]at h1 hls;simp at h1 hls;rw[h1]at hls;cases hls
  simp only[BF];change Win (G (b.at a (.inRegion ops (match(Bo .any ops listed)[t%(Bo .any ops listed).length]? with
   |some i=>BF .any ops fuel (t/(Bo .any ops listed).length) (listed.setIfInBounds i Ak) [i]
   |none=>[].reverse)::k)) cs) v
  cases hi:(Bo .any ops listed)[t%(Bo .any ops listed).length]? with
  | none =>
   refine absurd ?_ hnil;cases hr:Bo .any ops listed with
   |nil=>rfl
   | cons x xs =>
    rw[hr]at hi;have hlt:t%(x::xs).length<(x::xs).length:=B9 _ (by simp);simp at hi;simp at hlt;omega
  | some i =>
   simp only[];rw[linearise_go_acc,E5,Ez];obtain⟨h1,o,ho,hall⟩:=mem_ready.1 (At hi);have hii:i<listed.size:=by rw[hsz];exact(Bm.1 ho).1
   have hdep:∀j,bKj ops i j=Ak->listed.getD j Az=true:=λj hj=>by unfold bKj at hj;rw[ho]at hj;obtain⟨e,he,hbd⟩:=Array.any_eq_true'.1 hj;simp only[A5,beq_iff_eq]at hbd;rw[<-hbd.2];exact hall e he hbd.1
   have hu':unl (listed.setIfInBounds i Ak)<=fuel:=by have:=bOg h1;omega
   by_cases his:i=s
   .subst his;exact hend _ _ listed σ a v hsz hls hu' hdep hT hsr
   have hns:¬listed.getD s Az=true:=λh=>by rw[Au,Ar (by omega)]at h hls;simp at h hls;rw[h]at hls;cases hls
   have hst:=hstep (λj=>listed.getD j Az=Ak) i o ho his hns hdep σ hT;rw[bAa hii]at hst;have hno1:gW [o]=true:=by
    have h0:o∈ops.toList:=by rw[Array.mem_toList_iff];exact B7 ho
    have:=A1.1 hno o h0;simpa[gW]using this
   have h2:=bYf hno1 (λd hd=>hdst i o d ho hd) hsr hst;have hls':(listed.setIfInBounds i Ak).getD s Ak=false:=by rw[Au,Fj,Ap his,<-Au];exact hls
   have ih:=λt σ a v hT hsr=>aKw hW hb T s hs hback hno hdst hstep hend fuel t (listed.setIfInBounds i Ak) σ a v (by rw[G8];exact hsz) hu' hls' hT hsr
   split at h2
   .rename_i hw;exact aAw hW hb ho hw hv h2 λa' v' hv' h'=>by obtain⟨σ',hq,hs'⟩:=h';exact ih _ _ _ _ hq hs'
   .rename_i hw;obtain⟨σ',hq,hs'⟩:=h2;exact qX hW ho hw hv (ih _ _ _ _ hq hs')
def aSo{fuel t:Ae}{listed:Aw Bw}(h:Bo .any ops listed=[]):BF .any ops fuel t listed []=[]:=by
 cases fuel with
 |zero=>simp only[BF,List.reverse_nil]
 | succ n =>
  simp only[BF];change(match(Bo .any ops listed)[t%(Bo .any ops listed).length]? with
   |some i=>BF .any ops n (t/(Bo .any ops listed).length) (listed.setIfInBounds i Ak) [i]
   |none=>[].reverse)=_
  rw[h];rfl
def wB{fuel t i:Ae}{listed:Aw Bw}(h:(Bo .any ops listed)[t%(Bo .any ops listed).length]? = Aa i) :
 ∃t',BF .any ops (fuel+1) t listed []=i::BF .any ops fuel t' (listed.setIfInBounds i Ak) []:=by
 refine⟨t/(Bo .any ops listed).length,?_⟩
 simp only[BF]
 change(match(Bo .any ops listed)[t%(Bo .any ops listed).length]? with
  |some i=>BF .any ops fuel (t/(Bo .any ops listed).length) (listed.setIfInBounds i Ak) [i]
  |none=>[].reverse)=_
 rw[h]
 simp only[]
 rw[linearise_go_acc,E5,Ez]
def bDc{Win:Ay->Ag->Prop}(hW:M.Fam Win){id:Ae}{b:BU}{a:Act}{v:Ag}{k:Ad Item}{cs:Ad BU}(hm:P.follows .mixedOrders=Ak)(hv:OkV v)
 (h:∀t d,Win (G (b.at a (.inRegion ops (BF .any ops ops.size t (Bd ops.size Az) [])::k)) cs) { v with drawn:=d }):Win (G (b.at a (.code (.region id ops Ak)::k)) cs) v:=by
 refine(M.closed hW).step rfl hv λv1 w he hsim=>?_
 have hd:stepG P M.main (G (b.at a (.code (.region id ops Ak)::k)) cs) w =
  .go (G (b.at a (.inRegion ops (Ff (P.follows .mixedOrders) ops (w.tape w.drawn (.order b.fn id)))::k)) cs) { w with drawn:=w.drawn+1 }:=by
  simp[G,stepG,stepG.exec,Frame.at,choose,Sem.run,Question.forced,Question.cut]
 have he2:Env { v with drawn:=v1.drawn+1 } { v1 with drawn:=v1.drawn+1 }:=⟨he.tape,he.os,he.output,he.heap⟩
 refine⟨_,{ v1 with drawn:=v1.drawn+1 },_,#[],hd,⟨⟨hsim.tape,by simp[hsim.drawn],hsim.os,hsim.output,hsim.size,hsim.blk⟩,(he.okV hv).congr rfl,⟨rfl,rfl,rfl,AM _,λ_ c _ _ h=>⟨c,h,rfl,λ_=>rfl⟩,λ_ o h h1 h2=>⟨o,h,h1,h2⟩⟩,λ_ _ _ _=>rfl,by simp⟩,(M.closed hW).env ?_ he2⟩
 simp only[Ff,hm,Bool.true_or,if_true]
 exact h _ _
end
end Go.Am
namespace Go.Am
open Go Go.Conc.Lib Go.Proofs
def bF:WgLink:={ add:=45,done:=47,wait:=49,relMerge:=116,disable:=117,enable:=118,inBubble:=119,associate:=120,fatal:=121,uOr:=122,uAdd:=123,raceRead:=124,uLoad:=125,uStore:=126,disassociate:=127,semrelease:=128,acquire:=132,isAssociated:=133,uCas:=134,raceWrite:=135,semacquire:=136,orU64:=218,addU64:=219,loadU64:=220,storeU64:=221,casU64:=227,tWgP:=199,tUP:=201,tAssoc:=202,tWg:=116,tAU:=114,tU64:=46,tUint:=187,tU32:=26,tPU32:=206,tPAU:=277,tPU64:=279,tNoCopy:=110,tANoCopy:=111,tAlign64:=112 }
def qB:WgLib Ab bF :=
 ⟨Tryz.func45,Tryz.func47,Tryz.func49,Tryz.func116,Tryz.func117,Tryz.func118,Tryz.func119,Tryz.func120,Tryz.func121,Tryz.func122,Tryz.func123,Tryz.func124,Tryz.func125,Tryz.func126,Tryz.func127,Tryz.func128,Tryz.func132,Tryz.func133,Tryz.func134,Tryz.func135,Tryz.func136,Tryz.func218,Tryz.func219,Tryz.func220,Tryz.func221,Tryz.func227,Tryz.underlying199,Tryz.runUnderlying199,Tryz.sizeOf199,Tryz.isAgg199,Tryz.zeroValue199,Tryz.underlying201,Tryz.runUnderlying201,Tryz.sizeOf201,Tryz.isAgg201,Tryz.zeroValue201,Tryz.underlying202,Tryz.runUnderlying202,Tryz.sizeOf202,Tryz.isAgg202,Tryz.zeroValue202,Tryz.underlying116,Tryz.runUnderlying116,Tryz.sizeOf116,Tryz.isAgg116,Tryz.zeroValue116,Tryz.underlying114,Tryz.runUnderlying114,Tryz.sizeOf114,Tryz.isAgg114,Tryz.zeroValue114,Tryz.underlying46,Tryz.runUnderlying46,Tryz.sizeOf46,Tryz.isAgg46,Tryz.zeroValue46,Tryz.underlying187,Tryz.runUnderlying187,Tryz.sizeOf187,Tryz.isAgg187,Tryz.zeroValue187,Tryz.underlying26,Tryz.runUnderlying26,Tryz.sizeOf26,Tryz.isAgg26,Tryz.zeroValue26,Tryz.underlying206,Tryz.runUnderlying206,Tryz.sizeOf206,Tryz.isAgg206,Tryz.zeroValue206,Tryz.underlying277,Tryz.runUnderlying277,Tryz.sizeOf277,Tryz.isAgg277,Tryz.zeroValue277,Tryz.underlying279,Tryz.runUnderlying279,Tryz.sizeOf279,Tryz.isAgg279,Tryz.zeroValue279,Tryz.underlying0,Tryz.runUnderlying0,Tryz.sizeOf0,Tryz.isAgg0,Tryz.zeroValue0,Tryz.underlying3,Tryz.runUnderlying3,Tryz.sizeOf3,Tryz.isAgg3,Tryz.zeroValue3,Tryz.underlying4,Tryz.runUnderlying4,Tryz.sizeOf4,Tryz.isAgg4,Tryz.zeroValue4,Tryz.underlying9,Tryz.runUnderlying9,Tryz.sizeOf9,Tryz.isAgg9,Tryz.zeroValue9,Tryz.underlying20,Tryz.runUnderlying20,Tryz.sizeOf20,Tryz.isAgg20,Tryz.zeroValue20,Tryz.underlying21,Tryz.runUnderlying21,Tryz.sizeOf21,Tryz.isAgg21,Tryz.zeroValue21,by kernel_rfl,by kernel_rfl⟩
end Go.Am
section
open Go Go.Am Go.Proofs
namespace Go.Am
open Go.Conc Go.Conc.Lib Go.RowKit Go.ConcR.Gen
open Go.ConcR (KK wgBlock stA smA rd wr mk)
noncomputable def bot:Frame:={ (default:BU)with fn:=Ab.funcs.size,defers:=[],mode:=.panicking [goexitEntry] }
def bI(b:Ae):Value:=.pointer (Aa ⟨b,0,Aj⟩)
def aFm(Wg Ba Bp Bi Br:Ae):Deferred:={ target:=.fn (.func 54) #[bI Wg,bI Ba,bI Bp,bI Bi,bI Br],args:=#[] }
noncomputable def bLe:Code:=Tryz.f54.body.getD .skip
def bBr(Wg Ba Bp Bi Br:Ae)(w:Ag):stepG Ab Az (born Ab (aFm Wg Ba Bp Bi Br)) w =
 .go (G ((baseD 54).at ⟨#[bI Wg,bI Ba,bI Bp,bI Bi,bI Br]++Bd 14 undef,[]⟩ [.code bLe]) [bot]) w #[]:=by
 simp[born,aFm,stepG,unwind,callDeferred,invoke,callFunc,Tryz.func54,Tryz.f54,seen,CJ,G,Dt,Frame.at,baseD,bot,bLe]
def aZc(T:Aw AE)(todo:Ad Item):QuitsD Ab 2 0 (G { (baseD 54).at ⟨T,[]⟩ todo with mode:=.returning } [bot]):=by
 refine QuitsD.ctl (g':=G bot []) rfl (λw=>?_) ?_
 . simp[G,stepG,unwind,doReturn,results,Frame.at,baseD,bot,Tryz.func54,Tryz.f54,seen,CJ,goexitEntry]
 refine QuitsD.ctl (g':={ G bot []with status:=.finished }) rfl (λw=>?_) ⟨rfl,rfl⟩;simp[G,stepG,unwind,bot,goexitEntry,Frame.catches];rfl
def zC{F:Ae->Prop}{w:Ag}{ι:Ae->Aq Ae}{cs:Ad D}{v:AE}(h:VD F w (.pt cs) v):V F w ι (.fp cs) v:=by
 cases h with
 |pt cs ad f hF hcell hel=>exact .fp cs ad f hF hcell hel
def v_i{F:Ae->Prop}{w:Ag}{ι:Ae->Aq Ae}{k:IntKind}{n:Al}{v:AE}(h:V F w ι (.d (.i k n)) v):v=.int k n:=by cases h with|d _ _ h=>cases h;rfl
def fF{F:Ae->Prop}{w:Ag}{ι:Ae->Aq Ae}{x v:AE}(h:V F w ι (.d (.lit x)) v):v=x:=by cases h with|d _ _ h=>cases h;rfl
abbrev zX(Wg:Ae)(p:Pl)(i:Ae):=GoW Ab Az (λ_=>True) noE (λd g _=>bWi Ab bF Wg p i d g)
def bCr{Wg Ba Bp Bi Br:Ae}{p:Pl}{i:Ae}{v:Ag}{c0 c1 c2:D}{pr rp rv er:Al}{sv:AE}(hok:OkV v)
 (hBa:VD (λb=>b<v.heap.size) v (.pt [c0,c1,c2]) (bI Ba)) (hBp:VD (λb=>b<v.heap.size) v (.pt [.i .u64 pr]) (bI Bp)) (hBi:VD (λb=>b<v.heap.size) v (.pt [.i .i64 i]) (bI Bi)) (hBr:VD (λb=>b<v.heap.size) v (.pt [.lit sv]) (bI Br))
 (hsp:letI:=eX Ab Az;Spec Ab 48 [.ag [c0,c1,c2],.i .u64 pr] (.tp [.ag [.i .u64 rp,.i .u64 rv],.i .i64 er]))
 (hlast:∀(a:Act) (v':Ag) (ops:Aw Bf) (o6 o7:Bf),OkV v'->ops[5]? = Aa o6->ops[6]? = Aa o7->o6.op=.indexAddr 40 (.tmp 13) (.tmp 14)->o6.dst=Aa 18->o6.guard=Aj->o7.op=.store 50 (.tmp 18) (.tmp 17)->o7.dst=Aj->o7.guard=Aj ->
   a.tmps.size=19->a.defers=[dcall 47 #[bI Wg]]->a.tmps.getD 13 undef=sv->a.tmps.getD 14 undef=.int .i64 i->a.tmps.getD 17 undef=.agg #[.int .i64 i,.int .u64 rp,.int .u64 rv] ->
   zX Wg p i (G ((baseD 54).at a [.inRegion ops [5,6]]) [bot]) v') :
 zX Wg p i (born Ab (aFm Wg Ba Bp Bi Br)) v:=by
 letI:=eX Ab Az
 have hW:(eX Ab Az).Fam (zX Wg p i):=.inl ⟨_,_,_,λ_ _ _ _ h _=>h,rfl⟩
 have hb:kA (baseD 54):=.inr rfl
 refine aD hW rfl hok (λw=>bBr Wg Ba Bp Bi Br w) ?_
 simp only[bLe,Tryz.f54,AQ]
 refine aD hW rfl hok (λw=>stepG_seq) ?_
 refine aD hW rfl hok (λw=>stepG_region) ?_
 refine aD hW rfl hok (λw=>stepG_defer rfl rfl (by k_ne) rfl) ?_
 walk_nrm
 refine aD hW rfl hok (λw=>stepG_region_end) ?_
 refine aD hW rfl hok (λw=>stepG_seq) ?_
 refine bZ (G:=⟨v,λb=>b<v.heap.size,bG,λ_ _=>True,λ_=>Aj⟩) (N:=19) (ds:=[dcall 47 #[bI Wg]]) aT (λ_=>rfl) _
  (λe σ=>e=.normal/\∃id,σ.Γ 5=.ptr id 0/\σ.H id=Aa (.cells 48 [.d (.i .u64 rp),.d (.i .u64 rv)])/\σ.Γ 3=.fp [.i .i64 i]/\σ.Γ 4=.fp [.lit sv])
  (StL [(1,.fp [c0,c1,c2]),(2,.fp [.i .u64 pr]),(3,.fp [.i .i64 i]),(4,.fp [.lit sv])] Aj []) _ v (by kernel_rfl) (by kernel_rfl) ?hawp
  ?hsr _ hW hok _ _ _ hb λe a' v' hv' hq=>?_
 case hsr =>
  refine uR (Z:=λ_=>Aj) hok rfl (λ_ _ h=>by simp at h) (lL _ ?_)
  simp only[List.forall_mem_cons]
  exact⟨zC hBa,zC hBp,zC hBi,zC hBr,λ_ h=>by simp at h⟩
 case hawp =>
  simp[-E,-O,↓KW]
  refine aL hsp ?_
  simp[-E,-O,↓KW]
 obtain⟨σ,⟨rfl,id,h5,hH,h3,h4⟩,hsr⟩:=hq
 simp only[fW]
 refine aQc hW hb (l1:=D7 5 _) (l2:=List.drop 5 _) (List.take_append_drop 5 _).symm ?hdst hsr (Q:=λσ'=>σ'.Γ 13=.d (.lit sv)/\σ'.Γ 14=.d (.i .i64 i)/\σ'.Γ 17=.ag [.d (.i .i64 i),.d (.i .u64 rp),.d (.i .u64 rv)]) ?how λσ' a'' v'' hv'' hq hsr'=>?_
 case hdst =>
  intro o ho d hd
  simp at ho
  rcases ho with rfl|rfl|rfl|rfl|rfl<;>simp at hd<;>subst hd<;>exact⟨by decide,rfl⟩
 case how =>
  simp only[DD,Ct]
  simp[-E,-O,↓KW,h5,hH,h3,h4]
 obtain⟨q13,q14,q17⟩:=hq
 obtain⟨_,_,_,F,ι,hR,_,hV,⟨hN,_⟩,hds,_⟩:=hsr'
 have e13:a''.tmps.getD 13 undef=sv:=by have h:=hV 13;rw[q13]at h;exact fF h
 have e14:a''.tmps.getD 14 undef=.int .i64 i:=by have h:=hV 14;rw[q14]at h;exact v_i h
 have e17:a''.tmps.getD 17 undef=.agg #[.int .i64 i,.int .u64 rp,.int .u64 rv]:=by
  have h:=hV 17;rw[q17]at h;generalize a''.tmps.getD 17 undef=x at h;cases h with
  | ag cs vs hl h =>
    have h0:vs[0]? = Aa (.int .i64 i):=by have hx:=Ar (xs:=vs) (i:=0) (by simp at hl;omega);rw[hx,v_i (h 0 _ _ rfl hx)]
    have h1:vs[1]? = Aa (.int .u64 rp):=by have hx:=Ar (xs:=vs) (i:=1) (by simp at hl;omega);rw[hx,v_i (h 1 _ _ rfl hx)]
    have h2:vs[2]? = Aa (.int .u64 rv):=by have hx:=Ar (xs:=vs) (i:=2) (by simp at hl;omega);rw[hx,v_i (h 2 _ _ rfl hx)]
    congr 1;apply Array.ext_getElem?;intro k;match k with
    |0=>exact h0
    |1=>exact h1
    |2=>exact h2
    |k+3=>rw[Array.getElem?_eq_none (by simp at hl;omega)];simp
 show zX Wg p i (G ((baseD 54).at a'' [.inRegion _ [5,6]]) [bot]) v''
 exact hlast a'' v'' _ _ _ hv'' (by rfl) (by rfl) rfl rfl rfl rfl rfl rfl hN hds e13 e14 e17
end Go.Am
end
namespace Go.Am
open Go.Conc
structure aPs(C o:Ae)(vs:Ad AE)(t:AF)(cur:Aw AE)(w w':Ag):Prop where
 tape:w'.tape=w.tape
 os:w'.os=w.os
 output:w'.output=w.output
 size:w'.heap.size=w.heap.size
 block:∀b,b≠C->w'.heap[b]? = w.heap[b]?
 new:∃cur':Aw AE,w'.heap[C]? = Aa (.cells cur' t (0,0))/\cur'.size=cur.size/\(∀r v,vs[r]? = Aa v->cur'[o+r]? = Aa v)/\∀k,(k<o\/o+vs.length<=k)->cur'[k]? = cur[k]?
def qK{P:As}{C o:Ae}{t:AF}:∀(vs:Ad AE) (i:Ae) (cur:Aw AE) (w:Ag) (es:Aw C5),w.heap[C]? = Aa (.cells cur t (0,0))->o+i+vs.length<=cur.size->(∀v∈vs,v.oneCell'=Ak) ->
 ∃w' es',(storeCells ⟨C,o,Aj⟩ vs i).runT P w es=(.ok () w',es++es')/\aPs C (o+i) vs t cur w w'/\∀e∈es',∃r,r<vs.length/\e=⟨.cell ⟨C,o+i+r,Aj⟩,Ak,Az⟩
 |[],i,cur,w,es,hC,_,_=>⟨w,#[],by simp[storeCells,Fe],⟨rfl,rfl,rfl,rfl,λ_ _=>rfl,cur,hC,rfl,λr v h=>by simp at h,λ_ _=>rfl⟩,by simp⟩
 | v::vs,i,cur,w,es,hC,hl,h1=>by
  have hi:o+i<cur.size:=by simp at hl;omega
  have hadd:(⟨C,o,Aj⟩:Addr).add i=⟨C,o+i,Aj⟩:=fN _ _ _;have hcell:w.cell? ⟨C,o+i,Aj⟩=Aa cur[o+i]:=by simp[BN,hC,hi]
  have hfro:w.frozen? ⟨C,o+i,Aj⟩=false:=by simp[World.frozen?,hC]
  have hC':(w.setCell ⟨C,o+i,Aj⟩ v).heap[C]? = Aa (.cells (cur.setIfInBounds (o+i) v) t (0,0)):=by rw[dO,AB rfl,hC];simp[bPf]
  obtain⟨w',es',hr,hp,he⟩:=qK (P:=P) (C:=C) (o:=o) (t:=t) vs (i+1) (cur.setIfInBounds (o+i) v) (w.setCell ⟨C,o+i,Aj⟩ v) (es.push ⟨.cell ⟨C,o+i,Aj⟩,Ak,Az⟩) hC' (by simp at hl ⊢;omega) (λx hx=>h1 x (by simp[hx]));have hv:=h1 v (by simp);refine⟨w',#[⟨.cell ⟨C,o+i,Aj⟩,Ak,Az⟩]++es',?_,⟨hp.tape,hp.os,hp.output,hp.size.trans (by simp[FJ]),λb hb=>(hp.block b hb).trans (by rw[dO,Ap hb]),?_⟩,?_⟩
  .have hs:∀k:Sem Unit,(Sem.store .plain ⟨C,o+i,Aj⟩ v k).runT P w es=k.runT P (w.setCell ⟨C,o+i,Aj⟩ v) (es.push ⟨.cell ⟨C,o+i,Aj⟩,Ak,Az⟩):=by intro k;cases v<;>first|(simp[CZ]at hv;done)|(simp only[Fe,hcell,hfro];rfl)
   show(EU (store ((⟨C,o,Aj⟩:Addr).add i) v) λ_=>storeCells ⟨C,o,Aj⟩ vs (i+1)).runT P w es=_;rw[hadd];simp only[store,EU];rw[hs,hr];simp
  .obtain⟨cur',g1,g2,g3,g4⟩:=hp.new;refine⟨cur',g1,by simpa using g2,λr x hx=>?_,λk hk=>?_⟩
   .cases r with
    | zero =>
     simp at hx;subst hx;rw[CU,g4 _ (.inl (by omega))];simp[hi]
    |succ r=>rw[show o+i+(r+1)=o+(i+1)+r by omega];exact g3 r x (by simpa using hx)
   .simp only[Av]at hk;rw[g4 k (by omega),AI (by omega)]
  .intro e hx;rcases Ed.1 hx with hx|hx
   .simp at hx;subst hx;exact⟨0,by simp,by simp⟩
   .obtain⟨r,hr',rfl⟩:=he e hx;exact⟨r+1,by simp;omega,by rw[show o+(i+1)+r=o+i+(r+1)by omega]⟩
def bGa{P:As}{a:Act}{o:Bf}{x y:AN}{t:AF}{C off n:Ae}{vs cur:Aw AE}{e:AF}{w:Ag}(hop:o.op=.store t x y)(hx:a.eval x=.pointer (Aa ⟨C,off,Aj⟩))(hy:a.eval y=.agg vs)(hvs:vs.size=n)
 (h1:∀v∈vs.toList,v.oneCell'=Ak) (hsz:∀w es,(sizeOf t).runT P w es=(.ok n w,es)) (hC:w.heap[C]? = Aa (.cells cur e (0,0))) (hfit:off+n<=cur.size) :
 ∃w' es,(execOp a.eval o).run P w=.ok .skip w'/\(execOp a.eval o).events P w #[]=es/\aPs C off vs.toList e cur w w'/\∀ev∈es,∃r,r<n/\ev=⟨.cell ⟨C,off+r,Aj⟩,Ak,Az⟩:=by
 obtain⟨w',es',hr,hp,he⟩:=qK (P:=P) (C:=C) (o:=off) (t:=e) vs.toList 0 cur w #[] hC (by simp;omega) h1
 have hT:(execOp a.eval o).runT P w #[]=(.ok .skip w',#[]++es'):=by unfold execOp;simp only[hop,hx,hy,Instr.storeAt,Instr.sureAddr,storeVar,EG];show(EU _ _).runT P w #[]=_;simp only[Sem.runT_bind',Bind.bind,EU,Pure.pure,hsz,hvs,ne_eq,not_true_eq_false,if_false,hr];simp[Fe]
 have hE:=DU P (execOp a.eval o) w #[]
 rw[hT]at hE
 refine⟨w',es',(congrArg Prod.fst hE).symm,by have:=congrArg Prod.snd hE;simpa using this.symm,by simpa using hp,λev hev=>?_⟩
 obtain⟨r,h2,h3⟩:=he ev hev
 exact⟨r,by simpa[hvs]using h2,by simpa using h3⟩
end Go.Am
namespace Go.Am
open Go.Conc Go.ConcR.Gen Go.Conc.Lib Go.RowKit Go.ConcR
open Go
end Go.Am
section
open Go Go.Am Go.Proofs
namespace Go.Am
open Go.Conc Go.Conc.Lib Go.RowKit Go.ConcR.Gen
open Go.ConcR (KK wgBlock stA smA rd wr mk)
def bWd(Wg:Ae):Prop:=∀{c:BU} {cs:Ad BU} {q:Ae},c.mode=.returning->QuitsD Ab q 0 (G c cs) ->
 Dl Ab Az (cQ bF.tWg Wg) noE (uT Ab bF Wg) 0 (G ((baseD bF.done).at ⟨#[.pointer (Aa ⟨Wg,0,Aj⟩),undef,undef,undef],[]⟩ [.code (body_done bF)]) (c::cs))
def aUy{α:Type}{P:As}{s:Sem α}{r:α}(h1:∀w,s.run P w=.ok r w)(h2:∀w es,s.events P w es=es)(w:Ag)(es:Aw C5):s.runT P w es=(.ok r w,es):=by rw[DU,h1,h2]
def bXo(w:Ag)(es:Aw C5):(sizeOf 50).runT Ab w es=(.ok 3 w,es):=by refine aUy Tryz.sizeOf50 (λw es=>?_) w es;simp[sizeOf,typeInfo,go_sem];split<;>simp[stuck]
def cDq{a:Act}{o:Bf}{C n cap i:Ae}(hop:o.op=.indexAddr 40 (.tmp 13) (.tmp 14))(hx:a.tmps.getD 13 undef=.slice (Aa ⟨C,0,Aj⟩) n cap)(hy:a.tmps.getD 14 undef=.int .i64 i)(hi:i<n)(w:Ag) :
 (execOp a.eval o).run Ab w=.ok (.value (.pointer (Aa ⟨C,i*3,Aj⟩))) w/\(execOp a.eval o).events Ab w #[]=#[]:=by
 have hx':a.eval (.tmp 13)=.slice (Aa ⟨C,0,Aj⟩) n cap:=hx
 have hy':a.eval (.tmp 14)=.int .i64 i:=hy
 have h0:(0:Al)<=i:=by omega
 have h1:(i:Al)<n:=by omega
 have ha:(⟨C,0,Aj⟩:Addr).add (i*3)=⟨C,i*3,Aj⟩:=by rw[fN,AP]
 unfold execOp
 simp only[hop,hx',hy']
 constructor
 . simp[go_sem,EN,Tryz.runUnderlying40,Tryz.sizeOf50,h0,h1,ha]
   intro hh;omega
 . simp[go_sem,EN,Tryz.runUnderlying40,Tryz.sizeOf50,h0,h1,ha]
   intro hh;omega
def aXu{Wg:Ae}{p:Pl}{i n cap:Ae}{rp rv:Al}(hdone:bWd Wg)(hwd:p.wd=3)(hi:i<p.n)(hn:p.n=n)(h0:p.val i 0=.int .i64 i)(h1:p.val i 1=.int .u64 rp)(h2:p.val i 2=.int .u64 rv)
 {a:Act} {v':Ag} {ops:Aw Bf} {o6 o7:Bf} (hv:OkV v') (ho6:ops[5]? = Aa o6) (ho7:ops[6]? = Aa o7) (p6:o6.op=.indexAddr 40 (.tmp 13) (.tmp 14)) (d6:o6.dst=Aa 18) (g6:o6.guard=Aj) (p7:o7.op=.store 50 (.tmp 18) (.tmp 17)) (d7:o7.dst=Aj) (g7:o7.guard=Aj)
 (hN:a.tmps.size=19) (hds:a.defers=[dcall 47 #[bI Wg]]) (e13:a.tmps.getD 13 undef=.slice (Aa ⟨p.C,0,Aj⟩) n cap) (e14:a.tmps.getD 14 undef=.int .i64 i) (e17:a.tmps.getD 17 undef=.agg #[.int .i64 i,.int .u64 rp,.int .u64 rv]) :
 zX Wg p i (G ((baseD 54).at a [.inRegion ops [5,6]]) [bot]) v':=by
 have hW:(eX Ab Az).Fam (zX Wg p i):=.inl ⟨_,_,_,λ_ _ _ _ h _=>h,rfl⟩
 letI:=eX Ab Az
 have w6:Bu o6 (yielded ops a.tmps)=true:=by simp[Bu,g6]
 refine aD hW (g':=G ((baseD 54).at (a.put o6.dst (.pointer (Aa ⟨p.C,i*3,Aj⟩))) [.inRegion ops [6]]) [bot]) rfl hv (λw=>?_) ?_
 . have hx:=cDq p6 e13 e14 (by omega) w
   rw[stepG_value ho6 w6 (by k_ne) hx.1];unfold listed;rw[hx.2,seen_none]
 rw[d6]
 have hget:∀t,t≠18->(a.put (Aa 18) (.pointer (Aa ⟨p.C,i*3,Aj⟩))).eval (.tmp t)=a.tmps.getD t undef:=λt ht=>by simp[Act.put,Act.eval,Au,AI (DZ ht)]
 have h18:(a.put (Aa 18) (.pointer (Aa ⟨p.C,i*3,Aj⟩))).eval (.tmp 18)=.pointer (Aa ⟨p.C,i*3,Aj⟩):=by simp[Act.put,Act.eval,Au,hN]
 have hds':(a.put (Aa 18) (.pointer (Aa ⟨p.C,i*3,Aj⟩))).defers=a.defers:=rfl
 generalize a.put (Aa 18) (.pointer (Aa ⟨p.C,i*3,Aj⟩))=a2 at hget h18 hds'
 have w7:Bu o7 (yielded ops a2.tmps)=true:=by simp[Bu,g7]
 refine⟨.leaf,rfl,rfl,λw hp=>?_⟩
 obtain⟨cur,f,hC,hsz,hf⟩:=hp
 have hpos:0<p.n*3:=by omega
 have hle:=p.le;rw[hwd]at hle
 have hfz:f=(0,0):=hf (by rw[hsz];omega)
 subst hfz
 have hfit:i*3+3<=cur.size:=by rw[hsz];have:(i+1)*3<=p.n*3:=Ck _ hi;omega
 obtain⟨w',es,hr,he,hput,hes⟩:=bGa (P:=Ab) (n:=3) p7 h18 ((hget 17 (by decide)).trans e17) rfl (by simp[CZ]) bXo hC hfit
 refine⟨_,w',_,stepG_none ho7 w7 (by k_ne) hr,?_,λev hev=>?_,?_⟩
 . obtain⟨cur',g1,g2,g3,g4⟩:=hput.new
   refine⟨hput.tape,hput.os,hput.output,hput.size,hput.block,⟨cur',(0,0),g1,by rw[g2,hsz],λ_=>rfl⟩,λo ho=>?_,λr hr=>?_⟩
   . rw[hwd]at ho
     have:=g4 o (by simp;omega)
     simp[BN,g1,hC,this]
   . rw[hwd]at hr
     match r,hr with
     |0,_=>rw[h0];simpa[BN,Pl.cell,g1,hwd]using g3 0 _ rfl
     |1,_=>rw[h1];simpa[BN,Pl.cell,g1,hwd]using g3 1 _ rfl
     |2,_=>rw[h2];simpa[BN,Pl.cell,g1,hwd]using g3 2 _ rfl
 . have:=mem_listed hev
   rw[he]at this
   obtain⟨r,hr,rfl⟩:=hes ev this
   exact⟨r,by omega,by simp[Pl.cell,hwd]⟩
 . rw[d7]
   refine aC (Dl.done ?_)
   refine Dl.ctl rfl (λw _=>stepG_unwind_enter (hds'.trans hds) Tryz.func47 (nm_done bF) rfl) ?_
   have:=hdone (c:={ (baseD 54).at ⟨a2.tmps,[]⟩ []with mode:=.returning }) (cs:=[bot]) rfl (aZc a2.tmps [])
   simp only[body_done,doneFn,AQ]at this
   exact this
end Go.Am
end
