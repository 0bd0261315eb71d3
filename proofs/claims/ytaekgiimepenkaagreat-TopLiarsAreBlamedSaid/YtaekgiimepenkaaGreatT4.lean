/- Heaps whose blocks are a list; matrices by their entries. No condition. -/
import Derived.Test.YtaekgiimepenkaaGreatT3
import Derived.Conc.Beside
import Derived.Conc.Fork
import Derived.Conc.LeavingOf
import Derived.Conc.Holds
import Derived.ProofKit
import Derived.OpenShut
import Derived.Conc.DeferLaws
import Derived.Laws.Bits64b
set_option linter.all false
set_option maxHeartbeats 8000000
set_option maxRecDepth 100000
open And renaming intro->A6
open Array renaming getD_eq_getD_getElem?->Au,getElem?_append_left->B5,getElem?_eq_getElem->Ar,getElem?_eq_some_iff->Bm,getElem?_map->B6,getElem?_replicate->Co,getElem?_setIfInBounds_ne->AI,replicate->Bd
open Bool renaming and_eq_true->A5,false->Az,not_eq_true'->Dd,or_eq_false_iff->Gv,true->Ak
open Decidable renaming byContradiction->CY
open Go renaming Code->B1,Deferred->Cl,Exit->Cf,Frame->BU,FuncId->AU,Goroutine->Ay,IntKind->BJ,Oper->Bf,Operand->AN,Program->As,TypeId->AF,Value->AE,World->Ag
open Go.Act renaming eval->Dh
open Go.Builtin renaming append_->Cm,zeroCells->DH
open Go.Conc renaming mem_ofEvents->B2
open Go.ConcN renaming upd->By
open Go.Frame renaming enter->Dt
open Go.GStep renaming after->CJ
open Go.Instr renaming sureAddr->CH
open Go.IntKind renaming bits->Df,i64->Ax,u32->Cs,u64->Bh,wrap_u32->E0
open Go.MemAct renaming ofEvent->BA,touch?->BY
open Go.MemOp renaming ofEvents->Cd
open Go.Obj renaming cells->DM
open Go.Proofs.Tryz renaming f146->FZ,prog->Ab
open Go.Region renaming wanted->Bu
open Go.Result renaming andThen_ok->AR
open Go.Value renaming int->Gk,slice->Fx
open Go.World renaming cell?->BN
open Int renaming emod_eq_zero_of_dvd->Ha,fdiv_eq_ediv_of_nonneg->D4,lt_trichotomy->GX,mul_le_mul_of_nonneg_right->Gl,natAbs_ediv_le_natAbs->GR,natAbs_mul->F9,natAbs_natCast->FQ,natCast_add->Em,natCast_dvd_natCast->F0,natCast_mul->Di,sign_eq_neg_one_of_neg->Fw,sign_eq_one_of_pos->Fa,sq_nonneg->CF,toNat_of_nonneg->Cj
open List renaming all_eq_true->A1,append_assoc->Db,append_nil->El,cons_append->Cz,contains_cons->Ci,drop_eq_getElem_cons->CW,drop_eq_nil_of_le->Dy,drop_zero->Ew,eq_nil_of_length_eq_zero->BI,ext_getElem->Gg,filterMap_cons->ET,flatten_cons->Dq,getD_eq_getElem?_getD->Ah,getElem?_append_left->Bb,getElem?_append_right->AZ,getElem?_cons_succ->BT,getElem?_cons_zero->Ca,getElem?_eq_getElem->Ac,getElem?_eq_none->Bn,getElem?_eq_some_iff->AA,getElem?_map->Ao,getElem?_range->BZ,getElem?_replicate->E2,getElem?_set->DI,getElem?_set_ne->Fv,getElem_mem->B3,length_append->BK,length_cons->Av,length_drop->Et,length_map->BV,length_nil->AK,length_set->CO,length_singleton->B8,length_take->Bt,lookup_cons->Gj,map->DX,mapM_cons->CG,map_append->Fi,map_congr_left->DF,map_cons->BX,map_map->Dp,map_replicate->GN,map_set->GK,map_take->FL,mem_append->BR,mem_append_left->EH,mem_append_right->Ge,mem_cons->BQ,mem_cons_of_mem->AT,mem_cons_self->AX,mem_iff_getElem->BE,mem_map->AY,mem_map_of_mem->Dn,mem_of_getElem?->At,mem_of_mem_take->BS,mem_range->Cc,mem_singleton->CB,nil_append->Ea,nodup_append->Ej,nodup_cons->DQ,pairwise_map->Ga,range->AW,range_succ_eq_map->E6,replicate->AO,replicate_succ->C9,set_cons_succ->E9,set_cons_zero->Dg,take->D7,take_add_one->BG,take_of_length_le->A4,take_sublist->DK,take_zero->Ct
open List.Sublist renaming nodup->Ex
open Nat renaming Coprime->Fz,add_assoc->EL,add_comm->EF,add_mul_mod_self_left->FH,add_sub_cancel->Eu,add_zero->CU,div_add_mod->GA,div_eq_of_lt->DW,div_le_self->FO,dvd_of_mod_eq_zero->C4,eq_zero_or_pos->BB,le_of_dvd->G7,le_of_lt->Dz,le_refl->AM,le_trans->Bg,lt_of_le_of_lt->Bv,lt_of_lt_of_le->Be,lt_or_ge->Bc,lt_succ_self->CM,lt_trans->FD,mod_eq_of_lt->Cr,mod_lt->B9,mod_mod->E3,mod_two_eq_zero_or_one->Fy,mul_add->DJ,mul_assoc->C7,mul_comm->Da,mul_le_mul->BO,mul_le_mul_left->DC,mul_mod->EK,mul_one->Eb,mul_zero->EJ,one_mul->Fu,pow_add->Gw,pow_le_pow_right->CL,pow_succ->CI,sub_mod_eq_zero_of_mod_eq->E4,sub_self->Dw,zero_add->AP,zero_le->BH,zero_mul->Ef
open Nat.Coprime renaming eq_one_of_dvd->GS
open Option renaming bind_eq_some_iff->Af,getD_some->AQ,map_eq_some_iff->Ai,map_some->Bj,none->Aj,some->Aa,toList_some->E8
open Option.some renaming inj->BC,injEq->AH
open Rat renaming intCast_mul->DR,intCast_natCast->Ep
open _root_ renaming Array->Aw,Bool->Bw,Int->Al,List->Ad,Nat->Ae,Option->Aq,beq_iff_eq->C6,decide_eq_false->Cn,decide_eq_false_iff_not->Hb,decide_eq_true->CQ,decide_eq_true_eq->Bz,getElem!_pos->CC,if_neg->Ap,if_pos->AB
open List renaming map_map->O,mapM_map->U
namespace Go.Am
variable {P:As} [Mc:Mch P]
def iZ{l:Ae}{xs:Ad (Ad D)}:∀(c:B1) {k:Ae} {σ:St} {Q:Cf->Ae->St->Prop},aCz c=Az->(AWP P c σ λe σ'=>Q e k σ')->iS P l xs c k σ Q:=by
 intro c;induction c with
 | region id ops draw =>
   intro k σ Q hy h;unfold iS;simp only[aCz]at hy;rw[hy];exact h
 | seq x y ihx ihy =>
   intro k σ Q hy h;simp only[aCz,Gv]at hy;refine ihx hy.1 (gE x (λe σ h=>?_) h);cases e with
   |normal=>exact ihy hy.2 h
   |_=>exact h
 | cond c x y ihx ihy =>
   intro k σ Q hy h;simp only[aCz,Gv]at hy;unfold iS;unfold AWP at h;split
   . rename_i t ht
     simp only[ht]at h
     cases t
     . exact ihy hy.2 h
     . exact ihx hy.1 h
   . rename_i ht
     simp only[ht]at h
     exact⟨ihx hy.1 h.1,ihy hy.2 h.2⟩
   . rename_i h1 h2
     split at h
     . rename_i t ht;exact h1 _ ht
     . rename_i ht;exact h2 ht
     . exact h
 | block id c ih =>
   intro k σ Q hy h;refine ih hy (gE c (λe σ h=>?_) h);cases e<;>exact h
 | loop c ih =>
   intro k σ Q hy h;simp only[aCz]at hy;unfold iS;rw[hy];exact h
 |_=>intro k σ Q _ h;exact h
@[congr]def cAm{l:Ae}{xs:Ad (Ad D)}{c:B1}{k:Ae}{σ σ':St}{Q:Cf->Ae->St->Prop}(h:σ=σ'):iS P l xs c k σ Q=iS P l xs c k σ' Q:=by rw[h]
def tI{l:Ae}{xs:Ad (Ad D)}{x y:B1}{k:Ae}{σ:St}{Q:Cf->Ae->St->Prop}(hy:aCz x=Az)(h:AWP P x σ λe σ'=>match e with|.normal=>iS P l xs y k σ' Q|e=>Q e k σ'):iS P l xs (.seq x y) k σ Q:=by refine iZ (l:=l) (xs:=xs) x (k:=k) hy (gE x (λe σ h=>?_) h);cases e<;>exact h
def pY{l:Ae}{xs:Ad (Ad D)}{id:Ae}{c:B1}{k:Ae}{σ:St}{Q:Cf->Ae->St->Prop}(h:iS P l xs c k σ λe k' σ'=>match e with|.exit id'=>if id'=id then Q .normal k' σ' else Q (.exit id') k' σ'|e=>Q e k' σ'):iS P l xs (.block id c) k σ Q:=h
def wT{l:Ae}{xs:Ad (Ad D)}{x y:B1}{k:Ae}{σ:St}{Q:Cf->Ae->St->Prop}(h:iS P l xs x k σ λe k' σ'=>match e with|.normal=>iS P l xs y k' σ' Q|e=>Q e k' σ'):iS P l xs (.seq x y) k σ Q:=h
def aDz{l:Ae}{xs:Ad (Ad D)}{id:Ae}{ops:Aw Bf}{k:Ae}{σ:St}{Q:Cf->Ae->St->Prop}{pre post:Ad Bf}{y:Bf}(hno:gW ops.toList=Ak)(hs:aBo ops.toList=Aa (pre,y,post))
 (h:OWd P ops pre σ [] (λσ1 con1=>YO l xs y k (fin σ1 con1) λσ2=>OWd P ops post σ2 [] (λσ3 con3=>aUd σ3 con3 (Q .normal (k+1)) .mk) .mk) .mk):iS P l xs (.region id ops Az) k σ Q:=by
 unfold iS
 rw[hs]
 refine⟨rfl,hno,?_⟩
 unfold YR
 rw[hs]
 exact h
@[congr]def cBl{l:Ae}{xs:Ad (Ad D)}{y:Bf}{k:Ae}{σ σ':St}{K:St->Prop}(h:σ=σ'):YO l xs y k σ K=YO l xs y k σ' K:=by rw[h]
def aKu{l:Ae}{xs:Ad (Ad D)}{dst:Aq Tmp}{t:Tmp}{args:Ad AN}{ts:Aw AF}{ty:AF}{pos:String}{after:Aw Edge}{guard:Aq (Ae×Bw)}{k:Ae}{σ:St}{K:St->Prop}{dd:Ad D}{l2:Ad Ae}
 (h1:σ.Γ t=.d (.lit (.func (.yield l) #[] #[]))) (h2:cK σ.H (args.map (oev σ.Γ))=Aa dd) (h3:xs[k]? = Aa dd) (h4:bW σ.H (args.map (oev σ.Γ))=l2)
 (h5:K ⟨bN (mW σ l2).Γ dst (.d (.b (decide (k+1≠xs.length)))),(mW σ l2).H,(mW σ l2).n⟩):YO l xs ⟨dst,.call ⟨.value (.tmp t),args.toArray,ts⟩,ty,pos,after,guard⟩ k σ K:=by
 subst h4
 exact⟨h1,dd,h2,h3,h5⟩
def cHh{τ:Type}(I:τ->Prop)(m κ:τ->Ae)(S:τ->St)(x:τ)(k:Ae)(σ':St)(_:Dm (I,m,κ,S,x)):Prop:=∃y,I y/\m y<m x/\κ y=k/\∃ρ,Wk σ' (S y) ρ
def aHl{τ:Type}{l:Ae}{xs:Ad (Ad D)}{c:B1}{k:Ae}{σ:St}{Q:Cf->Ae->St->Prop}(hy:aCz c=Ak)(I:τ->Prop)(S:τ->St)(κ m:τ->Ae)(x0:τ)(hI:I x0)(hk:κ x0=k)(h0:∃ρ,Wk σ (S x0) ρ)
 (h:∀x,I x->iS P l xs c (κ x) (S x) λe k' σ'=>match e with|.normal=>cHh I m κ S x k' σ' .mk|e=>Q e k' σ'):iS P l xs (.loop c) k σ Q:=by
 unfold iS
 rw[AB hy]
 refine⟨{ x:τ // I x },λx=>S x.1,λx=>κ x.1,λx=>m x.1,⟨x0,hI⟩,hk,h0,λx=>?_⟩
 refine cast (congrArg (iS P l xs c (κ x.1) (S x.1)) ?_) (h x.1 x.2)
 funext e k' σ'
 cases e with
 |normal=>exact propext ⟨λ⟨y,h1,h2,h3⟩=>⟨⟨y,h1⟩,h2,h3⟩,λ⟨y,h2,h3⟩=>⟨y.1,y.2,h2,h3⟩⟩
 |_=>rfl
def bAj:B1->Bw
 |.seq x y=>bAj x||bAj y
 |.block _ c|.scope c=>bAj c
 |.rangeFunc ..=>Ak
 |_=>Az
def aEc{N:Ae}:∀(c:B1) {σ:St} {Q:Cf->St->Prop},bAj c=Az->AWP P c σ Q->oT P N c σ Q:=by
 intro c;induction c with
 | seq x y ihx ihy =>
   intro σ Q hr h;simp only[bAj,Gv]at hr;refine ihx hr.1 (gE x (λe σ h=>?_) h);cases e with
   |normal=>exact ihy hr.2 h
   |_=>exact h
 |block id c ih=>intro σ Q hr h;exact ih hr h
 |scope c ih=>intro σ Q hr h;exact ih hr h
 |rangeFunc=>intro σ Q hr;cases hr
 |_=>intro σ Q _ h;exact h
@[congr]def cAn{N:Ae}{c:B1}{σ σ':St}{Q:Cf->St->Prop}(h:σ=σ'):oT P N c σ Q=oT P N c σ' Q:=by rw[h]
def dD{N:Ae}{x y:B1}{σ:St}{Q:Cf->St->Prop}(hr:bAj x=Az)(h:AWP P x σ λe σ'=>match e with|.normal=>oT P N y σ' Q|e=>Q e σ'):oT P N (.seq x y) σ Q:=by refine aEc x hr (gE x (λe σ h=>?_) h);cases e<;>exact h
def aEa{N:Ae}{x y:B1}{σ:St}{Q:Cf->St->Prop}(h:oT P N x σ λe σ'=>match e with|.normal=>oT P N y σ' Q|e=>Q e σ'):oT P N (.seq x y) σ Q:=h
def aEb{N:Ae}{c:B1}{σ:St}{Q:Cf->St->Prop}(h:oT P N c σ λe σ'=>match e with|.goto _=>False|e=>Q e σ'):oT P N (.scope c) σ Q:=h
def uN{N id:Ae}{c:B1}{σ:St}{Q:Cf->St->Prop}(h:oT P N c σ λe σ'=>match e with|.exit id'=>if id'=id then Q .normal σ' else Q (.exit id') σ'|e=>Q e σ'):oT P N (.block id c) σ Q:=h
def bVe(wl:Ad Ae)(T:St)(σ2:St)(_:Dm (wl,T)):Prop:=∃ρ,Wk ⟨λt=>if wl.contains t then .any else σ2.Γ t,σ2.H,σ2.n⟩ T ρ
def aTv{N:Ae}{g:AN}{ps:Aw Tmp}{assign body:B1}{σ:St}{Q:Cf->St->Prop}{gf:AU}{cs:Ad AV}{caps:Ad D}(xs:Ad (Ad D))(T:Ae->St)(wl:Ad Ae)(E:Cf)(jc:B1)
 (hE:(E,jc)=(Exit.ret,Code.ret)\/∃id,(E,jc)=(Exit.exit id,Code.exit id))
 (hg:dG (oev σ.Γ g)=Aa (gf,cs)) (hf:cK σ.H cs=Aa caps) (hseq:nP P gf caps xs) (h0:∃ρ,Wk (mW σ (bW σ.H cs)) (T 0) ρ)
 (hc:(bX N assign&&bX N body&&cM P assign&&cM P body&&fD assign&&fD body&&fL (λt=>!wl.contains t) assign&&fL (λt=>!wl.contains t) body&&ps.toList.all λp=>decide (p<N)&&wl.contains p)=Ak)
 (hne:0<xs.length)
 (hr0:∀k x,k+1<xs.length->xs[k]? = Aa x->x.length=ps.size/\AWP P assign ⟨aEs (ps.toList.zip x) (T k).Γ,(T k).H,(T k).n⟩ λe σ1=>match e with
   |.normal=>AWP P body σ1 λe σ2=>match e with|.normal=>bVe wl (T (k+1)) σ2 .mk|_=>False
   |_=>False)
 (hr1:∀k x,k+1=xs.length->xs[k]? = Aa x->x.length=ps.size/\AWP P assign ⟨aEs (ps.toList.zip x) (T k).Γ,(T k).H,(T k).n⟩ λe σ1=>match e with
   |.normal=>AWP P body σ1 λe σ2=>e=E/\bVe wl (T (k+1)) σ2 .mk
   |_=>False)
 (hq:Q E (T xs.length)):oT P N (.rangeFunc g ps assign body) σ Q:=by
 simp only[A5,A1,Bz]at hc
 obtain⟨⟨⟨⟨⟨⟨⟨⟨d1,d2⟩,l1⟩,l2⟩,r1⟩,r2⟩,z1⟩,z2⟩,hps⟩:=hc
 refine⟨gf,cs,caps,xs,T,wl,E,jc,hE,hg,hf,hseq,⟨⟨d1,d2⟩,⟨l1,l2⟩,⟨r1,r2⟩,⟨z1,z2⟩,hps,hne,λk x hx=>?_⟩,h0,hq⟩
 have hk:=(AA.1 hx).1
 by_cases hl:k+1=xs.length
 . refine⟨(hr1 k x hl hx).1,gE assign (λe σ1 h=>?_) (hr1 k x hl hx).2⟩
   cases e with
   | normal =>
     refine⟨rfl,gE body (λe σ2 h=>?_) h⟩
     rw[AB hl];exact h
   |_=>exact h.elim
 . refine⟨(hr0 k x (by omega) hx).1,gE assign (λe σ1 h=>?_) (hr0 k x (by omega) hx).2⟩
   cases e with
   | normal =>
     refine⟨rfl,gE body (λe σ2 h=>?_) h⟩
     rw[Ap hl]
     cases e with
     |normal=>exact⟨rfl,h⟩
     |_=>exact h.elim
   |_=>exact h.elim
def rU{N:Ae}{g:AN}{ps:Aw Tmp}{assign body:B1}{σ:St}{Q:Cf->St->Prop}{gf:AU}{cs:Ad AV}{caps:Ad D}(xs:Ad (Ad D))(T:Ae->St)(wl:Ad Ae)(E:Cf)(jc:B1)
 (hE:(E,jc)=(Exit.ret,Code.ret)\/∃id,(E,jc)=(Exit.exit id,Code.exit id))
 (hg:dG (oev σ.Γ g)=Aa (gf,cs)) (hf:cK σ.H cs=Aa caps) (hv:bW σ.H cs=[]) (hseq:nP P gf caps xs) (h0:∃ρ,Wk σ (T 0) ρ)
 (hc:(bX N assign&&bX N body&&cM P assign&&cM P body&&fD assign&&fD body&&fL (λt=>!wl.contains t) assign&&fL (λt=>!wl.contains t) body&&ps.toList.all λp=>decide (p<N)&&wl.contains p)=Ak)
 (hne:0<xs.length)
 (hr0:∀k x,k+1<xs.length->xs[k]? = Aa x->x.length=ps.size/\AWP P assign ⟨aEs (ps.toList.zip x) (T k).Γ,(T k).H,(T k).n⟩ λe σ1=>match e with
   |.normal=>AWP P body σ1 λe σ2=>match e with|.normal=>bVe wl (T (k+1)) σ2 .mk|_=>False
   |_=>False)
 (hr1:∀k x,k+1=xs.length->xs[k]? = Aa x->x.length=ps.size/\AWP P assign ⟨aEs (ps.toList.zip x) (T k).Γ,(T k).H,(T k).n⟩ λe σ1=>match e with
   |.normal=>AWP P body σ1 λe σ2=>e=E/\bVe wl (T (k+1)) σ2 .mk
   |_=>False)
 (hq:Q E (T xs.length)):oT P N (.rangeFunc g ps assign body) σ Q :=
 aTv xs T wl E jc hE hg hf hseq (by rw[hv];exact h0) hc hne hr0 hr1 hq
end Go.Am
namespace Go.Am
open Go.Conc
open Go.ConcN (sumTo sumTo_upd)
def dP(S:Ae->Prop):Loc->Prop
 |.cell a=>S a.block
 |_=>False
def dS(P:As)(Post:AE->Ag->Prop)(m:Machine)(t:Trace):Prop :=
 ∃N last o w' t',runNT P (N+1) m t=(.ended o w',t')/\runN P N m=.next last/\step P last=.ended o w'/\Conc.Good P Post last o w' t'
def dS.step{P:As}{Post:AE->Ag->Prop}{m m':Machine}{t:Trace}{ops:Trace}(h:stepT P m=(.next m',ops))(hg:dS P Post m' (t++ops)):dS P Post m t:=by obtain⟨N,last,o,w',t',h1,h2,h3,h4⟩:=hg;exact⟨N+1,last,o,w',t',by rw[runNT_succ_next h];exact h1,by rw[runN_succ_next h];exact h2,h3,h4⟩
def stO:Obj->Bw
 |DM c _ f=>f==(0,c.size)
 |o=>!okO o
def Kp(W0 v w:Ag):Prop:=∀(b:Ae) (o:Obj),W0.heap[b]? = Aa o->stO o=Ak->w.heap[b]? = Aa o/\∃(c:Aw AE) (t:AF),v.heap[b]? = Aa (DM c t (0,c.size))
def Kp.step{W0 v w v' w':Ag}(h:Kp W0 v w)(hx:Ext v v')(hr:yQ v w w'):Kp W0 v' w':=λb o hb ho=>by obtain⟨h1,c,t,h2⟩:=h b o hb ho;refine⟨(hr b c t h2).trans h1,?_⟩;obtain⟨c',g1,_,g3⟩:=hx.cells b c t _ h2;have:=g3 rfl;subst this;exact⟨c',t,g1⟩
def Kp.congr{W0 v w v' w':Ag}(h:Kp W0 v w)(hv:v'.heap=v.heap)(hw:w'.heap=w.heap):Kp W0 v' w':=λb o hb ho=>by rw[hv,hw];exact h b o hb ho
structure aKn(Sh:Loc->Prop)(N:Ae)(t:Trace):Prop where
 quiet:Quiet Sh t
 mem:∀i a,touchAt t i=Aa a->a.loc.isMemory=Ak
 num:∀(i:Ae) (op:MemOp),t[i]? = Aa op->op.g<N
def aKn.app{Sh:Loc->Prop}{N:Ae}{t u:Trace}(h:aKn Sh N t)(hq:∀op∈u,∀x,op.act.touch? = Aa x->Sh x.loc->x.kind≠.plain/\(x.kind=.said->op.g=0))(hm:∀op∈u,∀x,op.act.touch? = Aa x->x.loc.isMemory=Ak)(hn:∀op∈u,op.g<N):aKn Sh N (t++u):=by
 refine⟨h.quiet.app hq,λi a ha=>?_,λi op hi=>?_⟩
 . obtain⟨x,hx,hxa⟩:=touch_of ha
   rcases getElem?_append_cases hx with ⟨_,hx'⟩|⟨_,hxu⟩
   . exact h.mem i a (by rw[touchAt_of hx'];exact hxa)
   . exact hm x hxu a hxa
 . rcases getElem?_append_cases hi with ⟨_,hi'⟩|⟨_,hiu⟩
   . exact h.num i op hi'
   . exact hn op hiu
def aKn.mute{Sh:Loc->Prop}{N:Ae}{t:Trace}(h:aKn Sh N t){g:Ae}(hg:g<N){fn:AU}{pos:String}{es:Aw Event}(hm:∀e∈es,e.mute=Ak):aKn Sh N (t++Cd g fn pos es):=by
 refine h.app (λop hop x hx=>?_) (λop hop x hx=>?_) (λop hop=>?_)<;>obtain⟨e,he,rfl⟩:=B2 hop
 . rw[touch_mute (hm e he)]at hx;cases hx
 . rw[touch_mute (hm e he)]at hx;cases hx
 . exact hg
def dC(P:As)(W0:Ag)(Post:AE->Ag->Prop)(g:Ay)(v:Ag):Prop :=
 ∀v1,Env v v1->OkV v1->∀(S:Ae->Prop) (gs:Aw Ay) (w:Ag) (sl:Aq (Ae×Ae)) (t:Trace) (q:Ae->Ae),(∀b,S b->v1.heap[b]? = Aa hole)->Sim v1 w->gs[0]? = Aa g->Leavers P t gs q->Past (dP S) w.heap.size t->aKn (dP S) gs.size t->Kp W0 v1 w ->
  dS P Post (crowd gs w sl) t
def pT{v:Ag}{S:Ae->Prop}{B:Ae}(hS:∀b,S b->v.heap[b]? = Aa hole)(hB:v.heap.size<=B){e:Event}(h:EvV v e):EvL (dP S) B e:=by
 obtain⟨loc,wr,sy⟩:=e;rcases h with ⟨a,c,t,f,h1,h2,h3,h4,h5⟩|⟨r,o,h1,h2,h3,h4,h5⟩|h
 . simp only at h1 h2;subst h1;subst h2
   have hlt:=bL h3
   refine evL_cell a wr (λhs=>?_) (by omega)
   have:=hS a.block hs
   rw[h3]at this;injection this with this;injection this with e1 _ _;subst e1;simp at h4
 . simp only at h1 h2;subst h1;subst h2
   have hlt:=bL h3
   refine⟨λx hx hs=>?_,by simp,by simp,?_⟩
   . simp[BA,BY]at hx
     subst hx;exact hs.elim
   . have:r<B:=by omega
     simpa[BA,MemAct.low,Loc.low]using this
 . injection h with e1 e2 e3;subst e1;subst e2;subst e3
   exact⟨λx hx=>by simp[BA,BY]at hx,by simp,by simp,trivial⟩
def bIz{v v':Ag}{b:Ae}(h:Ext v v')(hb:v.heap[b]? = Aa hole):v'.heap[b]? = Aa hole:=by obtain⟨c',h1,h2,h3⟩:=h.cells b #[] 0 (0,0) hb;have:=h3 rfl;subst this;exact h1
def aJu{v:Ag}{e:Event}(h:EvV v e){x:Touch}(hx:(BA e).touch? = Aa x):x.loc.isMemory=Ak/\x.kind≠.said:=by
 obtain⟨loc,wr,sy⟩:=e;rcases h with ⟨a,c,t,f,h1,h2,_⟩|⟨r,o,h1,h2,_⟩|h
 . simp only at h1 h2;subst h1;subst h2
   simp[BA,BY]at hx;subst hx;exact⟨rfl,by simp⟩
 . simp only at h1 h2;subst h1;subst h2
   simp[BA,BY]at hx;subst hx;exact⟨rfl,by simp⟩
 . injection h with e1 e2 e3;subst e1;subst e2;subst e3
   simp[BA,BY]at hx
section
variable {P:As} {W0:Ag} {Post:AE->Ag->Prop}
def aCo{g : Ay}{v : Ag}(hrun : g.status = .running) (hstep : ∀v1 w, Env v v1 -> OkV v1 -> Sim v1 w -> Kp W0 v1 w ->
 (∃g' w' es,stepG P Ak g w=.go g' w' es/\∀(S:Ae->Prop) (gs:Aw Ay) (sl:Aq (Ae×Ae)) (t:Trace) (q:Ae->Ae),(∀b,S b->v1.heap[b]? = Aa hole)->gs[0]? = Aa g'->Leavers P (t++Cd 0 g.frame.fn g.frame.place es) gs q ->
   Past (dP S) w.heap.size t->aKn (dP S) gs.size t->dS P Post (crowd gs w' sl) (t++Cd 0 g.frame.fn g.frame.place es)) \/
 ∃x w' es,stepG P Ak g w=.ended (.done x) w' es/\(∀e∈es,EvV v1 e)/\Post x w'):dC P W0 Post g v:=by
 have key:∀ (M:Ae) (v1:Ag),Env v v1->OkV v1->∀ (S:Ae->Prop) (gs:Aw Ay) (w:Ag) (sl:Aq (Ae × Ae)) (t:Trace) (q:Ae->Ae),sumTo gs.size q<=M->(∀b,S b->v1.heap[b]? = Aa hole)->Sim v1 w->gs[0]? = Aa g->Leavers P t gs q->Past (dP S) w.heap.size t->aKn (dP S) gs.size t->Kp W0 v1 w ->
  dS P Post (crowd gs w sl) t:=by
  intro M
  induction M with
  | zero|succ M ih =>
    intro v1 he hok S gs w sl t q hM hS hsim h0 hL hP hTd hKp
    have haw:∀g∈gs,awake g:=by
     intro g1 hg;obtain⟨i,hi,rfl⟩:=Array.mem_iff_getElem.1 hg;rcases BB i with rfl|hpos
     . have:gs[0]=g:=by simpa[Ar hi]using h0
       rw[this];exact awake_of (.inl hrun)
     . exact awake_of ((hL.old i _ hpos (Ar hi)).status.elim .inl λx=>.inr (.inr x))
    obtain⟨i,g1,d,sl',hi,hg,hst⟩:=crowd_pick (P:=P) (w:=w) (sl:=sl) haw ⟨0,g,h0,hrun⟩
    have hed:Env v1 { v1 with drawn:=d }:=⟨rfl,rfl,rfl,0,by simp⟩
    have hokd:OkV { v1 with drawn:=d }:=hok.congr rfl
    have hsimd:Sim { v1 with drawn:=d } (w.at d):=⟨hsim.tape,rfl,hsim.os,hsim.output,hsim.size,hsim.blk⟩
    rcases BB i with rfl|hpos
    . obtain rfl:g1=g:=by rw[h0]at hi;exact(BC hi).symm
      rcases hstep _ (w.at d) (he.trans hed) hokd hsimd (hKp.congr rfl rfl)with ⟨g',w',es,hgo,hwin⟩|⟨x,w'',es,hend,hev,hpost⟩
      . have hrunT:=runT_crowd_go (P:=P) (sl:=sl') (i:=0) hi (show stepG P (0==0) g1 (w.at d)=_ from hgo)
        have hlt:0<gs.size:=(Bm.1 h0).1
        refine dS.step (hst.trans hrunT) (hwin S _ sl' t q hS (by simp[hlt]) ⟨λj x hj hx=>?_,λj hj=>?_⟩ hP (by simpa using hTd))
        . have hne:0≠j:=by omega
          rw[AI hne,B6]at hx
          obtain⟨y,hy,rfl⟩:=Ai.1 hx
          have hq:=hL.old j y hj hy
          rw[woken_quitsD hq,Deaf_other t (by omega) _ (λop hop=>by obtain⟨e,_,rfl⟩:=B2 hop;rfl)]
          exact hq
        . rw[Deaf_other t (g':=0) (by simp at hj;omega) _ (λop hop=>by obtain⟨e,_,rfl⟩:=B2 hop;rfl)]
          exact hL.above j (by simpa using hj)
      . have hrunT:=runT_many_ended (P:=P) (sl:=sl') (i:=0) hi (show stepG P (0==0) g1 (w.at d)=_ from hend)
        have hsz0:v1.heap.size=w.heap.size:=hsim.size
        have hP':=hP.own (fn:=g1.frame.fn) (pos:=g1.frame.place) (es:=es) λe hx=>pT (v:={ v1 with drawn:=d }) hS (by simp only;omega) (hev e hx)
        have hsT:=hst.trans hrunT
        refine⟨0,_,_,_,_,?_,rfl,?_,x,rfl,hpost,hP'.clean,hP'.over,⟨λy hy=>?_,rfl⟩,λj y hy hj=>?_⟩
        . simp[runNT,hsT]
        . simp[Go.step,hsT]
        . obtain⟨j,hj⟩:=List.mem_iff_getElem?.1 hy
          rw[List.getElem?_drop]at hj
          exact⟨_,(hL.old (1+j) y (by omega) (by simpa[crowd]using hj)).leaves⟩
        . have hq:=hL.old j y (by omega) hy
          refine⟨q j,?_⟩
          have e:(t++Cd 0 g1.frame.fn g1.frame.place es).deaf j (t++Cd 0 g1.frame.fn g1.frame.place es).size=Deaf t j :=
           Deaf_other t (g:=j) (g':=0) (by omega) _ (λop hop=>by obtain⟨e,_,rfl⟩:=B2 hop;rfl)
          rw[e]
          exact hq.hears _
    . have hq:=hL.old i g1 hpos hi
      have hi0:(i==0)=false:=by simp;omega
      have hlt:i<gs.size:=(Bm.1 hi).1
      cases hqi:q i with
      |zero=>rw[hqi]at hq;rw[hq.1]at hg;cases hg
      | succ k =>
        rw[hqi]at hq
        rcases hq with ⟨hf,_⟩|⟨_,g',es,hm,hstp,hq'⟩
        . rw[hf]at hg;cases hg
        have hrunT:=runT_crowd_go (P:=P) (sl:=sl') (i:=i) hi (by rw[hi0];exact hstp (w.at d))
        have hsz:((gs.map (woken P g1 g' (w.at d))).setIfInBounds i g').size=gs.size:=by simp
        have hsum:sumTo gs.size (By q i k)+(k+1)=sumTo gs.size q+k:=by have:=sumTo_upd q k id hlt;simpa[hqi]using this
        first
        |exact absurd hM (by omega)
        | refine dS.step (hst.trans hrunT) (ih _ (he.trans hed) hokd S _ (w.at d) sl' _ (By q i k) (by rw[hsz];omega) hS hsimd ?_ ⟨λj x hj hx=>?_,λj hj=>?_⟩ (hP.mute (by omega) hm) (by rw[hsz];exact hTd.mute hlt hm) (hKp.congr rfl rfl))
          . have hne:i≠0:=by omega
            rw[AI hne,B6,h0]
            simp[woken_run hrun]
          . by_cases hji:i=j
            . subst hji
              rw[Array.getElem?_setIfInBounds_self_of_lt (by simpa using hlt)]at hx
              obtain rfl:=BC hx
              rw[ConcN.upd_same,Deaf_own]
              exact hq'
            . rw[AI hji,B6]at hx
              obtain⟨y,hy,rfl⟩:=Ai.1 hx
              have hqj:=hL.old j y hj hy
              rw[woken_quitsD hqj,ConcN.upd_ne q k (Ne.symm hji),Deaf_other t hji _ (λop hop=>by obtain⟨e,_,rfl⟩:=B2 hop;rfl)]
              exact hqj
          . rw[Deaf_other t (g':=i) (by simp at hj;omega) _ (λop hop=>by obtain⟨e,_,rfl⟩:=B2 hop;rfl)]
            exact hL.above j (by simpa using hj)
 intro v1 he hok S gs w sl t q hS hsim h0 hL hP hTd hKp
 exact key _ v1 he hok S gs w sl t q (AM _) hS hsim h0 hL hP hTd hKp
def aGo{g : Ay}{v : Ag}(hrun : g.status = .running) (hstep : ∀v1 w, Env v v1 -> OkV v1 -> Sim v1 w -> Kp W0 v1 w ->
 (∃g' v' w' es,stepG P Ak g w=.go g' w' es/\yO v1 w v' w' es/\dC P W0 Post g' v')\/∃x w' es,stepG P Ak g w=.ended (.done x) w' es/\(∀e∈es,EvV v1 e)/\Post x w'):dC P W0 Post g v:=by
 refine aCo hrun λv1 w he hok hsim hKp=>?_
 rcases hstep v1 w he hok hsim hKp with ⟨g',v',w',es,hgo,hso,hwin⟩|h
 . have hsz:v'.heap.size=w'.heap.size:=hso.sim.size
   have hsz0:v1.heap.size=w.heap.size:=hsim.size
   have hge:v1.heap.size<=v'.heap.size:=hso.ext.size
   refine .inl ⟨g',w',es,hgo,λS gs sl t q hS h0 hL hP hTd=>?_⟩
   have hS':∀b,S b->v'.heap[b]? = Aa hole:=λb hb=>bIz hso.ext (hS b hb)
   have hlt:0<gs.size:=(Bm.1 h0).1
   refine hwin v' (.refl _) hso.ok S gs w' sl _ q hS' hso.sim h0 hL ?_ ?_ (hKp.step hso.ext hso.rest)
   . exact(hP.mono (by omega)).own λe hx=>pT hS' (by omega) (hso.evs e hx)
   . refine hTd.app (λop hop x hx hs=>?_) (λop hop x hx=>?_) (λop hop=>?_)<;>obtain⟨e,he',rfl⟩:=B2 hop
     . exact⟨(pT (B:=w'.heap.size) hS' (by omega) (hso.evs e he')).1 x hx hs,λ_=>rfl⟩
     . exact(aJu (hso.evs e he') hx).1
     . exact hlt
 . exact .inr h
def aNh(W0:Ag)(Post:AE->Ag->Prop):aKr P Ak (dC P W0 Post) where
 env h he:=λv1 he1=>h v1 (he.trans he1)
 step hr hv h:=aGo hr λv1 w he _ hsim _=>by obtain⟨g',v',w',es,h1,h2,h3⟩:=h v1 w he hsim;exact .inl ⟨g',v',w',es,h1,h2,h3⟩
def yZ(main:Bw):aKr P main (λ_ _=>False) where
 env h _:=h
 step hr hv h:=by obtain⟨_,_,_,_,_,_,h3⟩:=h _ _ (.refl _) (.refl _);exact h3
end
@[instance_reducible]def bV(P:As):Mch P where
 main:=Ak
 Fam Win:=(∃W0 Post,Win=dC P W0 Post)\/Win=λ_ _=>False
 closed h:=by
  rcases h with ⟨W0,Post,rfl⟩|rfl
  . exact aNh W0 Post
  . exact yZ Ak
 none:=.inr rfl
end Go.Am
namespace Go.Am
open Go.Conc
open RowKit (Below)
def strike(W:Ag):World:={ W with heap:=W.heap.map λo=>if okO o then o else hole }
def kG(W:Ag)(b:Ae):(strike W).heap[b]? = (W.heap[b]?).map λo=>if okO o then o else hole:=by simp[strike]
def nD(W:Ag):(strike W).heap.size=W.heap.size:=by simp[strike]
def xI(W:Ag):OkV (strike W):=λb o hb=>by
 rw[kG]at hb;cases h:W.heap[b]? with
 |none=>rw[h]at hb;cases hb
 | some x =>
   rw[h]at hb;simp only[Bj,AH]at hb;subst hb;split
   . assumption
   . rfl
def aQk(W:Ag):Sim (strike W) W:=⟨rfl,rfl,rfl,rfl,nD W,λb o hb=>by
 rw[kG]at hb;cases h:W.heap[b]? with
 |none=>rw[h]at hb;cases hb
 | some x =>
   rw[h]at hb;simp only[Bj,AH]at hb;subst hb;by_cases hx:okO x=Ak
   . rw[AB hx];exact .inr (.inl rfl)
   . rw[Ap hx];exact .inl rfl⟩
def aYg(W:Ag):Kp W (strike W) W:=λb o hb ho=>by
 refine⟨hb,?_⟩;rw[kG,hb,Bj];by_cases hx:okO o=Ak
 . rw[AB hx]
   cases o with
   |cells c t f=>simp only[stO,C6]at ho;exact⟨c,t,by rw[ho]⟩
   |_=>simp[stO,hx]at ho
 . rw[Ap hx];exact⟨#[],0,rfl⟩
def tJ(W:Ag)(r:D)(x:AE)(w':Ag):Prop :=
 (∀b,b<W.heap.size->w'.heap[b]? = W.heap[b]?)/\w'.os=W.os/\w'.tape=W.tape/\w'.output=W.output/\W.heap.size<=w'.heap.size/\∃v':Ag,VD (λb=>b<v'.heap.size) v' r x
def aSy{W v' w':Ag}{r:D}{x:AE}(hs:Sim v' w')(hk:Kp W v' w')(hb:Below (strike W).heap.size (strike W) v')(hv:VD (λb=>b<v'.heap.size) v' r x):tJ W r x w':=by
 refine⟨λb hlt=>?_,?_,?_,?_,?_,v',hv⟩
 . obtain⟨o,ho⟩:∃o,W.heap[b]? = Aa o:=⟨_,Ar hlt⟩
   by_cases hst:stO o=Ak
   . rw[(hk b o ho hst).1,ho]
   . have hbl:=hb.block b (by rw[nD];exact hlt)
     have hok:okO o=true:=by cases o<;>simp[stO]at hst<;>first|rfl|exact hst
     rw[kG,ho,Bj,AB hok]at hbl
     rcases hs.blk b o hbl with e|e|⟨c,t,_,e,_⟩
     . subst e;exact absurd rfl hst
     . rw[e,ho]
     . subst e;exact absurd (by simp[stO]) hst
 . rw[<-hs.os];exact hb.os
 . rw[<-hs.tape];exact hb.tape
 . rw[<-hs.output];exact hb.output
 . have:=hb.size;rw[nD]at this;rw[<-hs.size];exact this
def aQn{P:As}{b:BU}{a:Act}{fn:Func}{todo:Ad Item}{x:AE}{w w':Ag}{es:Aw Event}(hn:b.kind=.normal)(hi:P.inits.idxOf? b.fn=Aj)(hd:a.defers=[])(hf:P.funcs[b.fn]? = Aa fn)(hr:(results fn a.tmps).runT P w #[]=(.ok x w',es)) :
 stepG P Ak (G { b.at a todo with mode:=.returning } []) w=.ended (.done x) w' (seen P b.fn es):=by
 simp only[G,stepG,unwind,Frame.at,hd,hf,hr,doReturn,CJ,hn,hi]
 simp
section
variable {P:As}
def aQz{f:AU}{fn:Func}{c:B1}{args:Aw AE}{W:Ag}{r:D}(hf:P.funcs[f]? = Aa fn)(hb:fn.body=Aa c)(hi:P.inits.idxOf? f=Aj)
 (h:letI:=bV P;WC P c (aXf P fn λx v'=>Below (strike W).heap.size (strike W) v'/\VD (λb=>b<v'.heap.size) v' r x) { tmps:=args++Bd (fn.ntmps-args.size) undef,defers:=[] } (strike W)) :
 dS P (tJ W r) (solo (G (Dt P f args .normal) []) W) #[]:=by
 letI:=bV P
 have hW:(bV P).Fam (dC P W (tJ W r)):=.inl ⟨W,_,rfl⟩
 have hwin:dC P W (tJ W r) (G (Dt P f args .normal) []) (strike W):=by
  rw[enter_at args hf hb];have back:∀(a':Act) (v':Ag) (todo:Ad Item),aXf P fn (λx v'=>Below (strike W).heap.size (strike W) v'/\VD (λb=>b<v'.heap.size) v' r x) .ret a' v'->dC P W (tJ W r) (G { (base f).at a' todo with mode:=.returning } []) v':=by
   intro a' v' todo hq;obtain⟨hd,hr⟩:=hq;refine aGo rfl λv1 w he hok hsim hk=>.inr ?_
   obtain⟨x,hx,hb1,hb2⟩:=hr v1 he;obtain⟨w',es',h1,h2,h3,h4,h5,h6⟩:=fH _ v1 w #[] x v1 hok hsim hx;have hK':Kp W v1 w':=hk.step h4 h5;exact⟨x,w',_,aQn rfl hi hd hf h1,λe he'=>h6 e (by have:=mem_seen he';simpa using this),aSy h2 hK' hb1 hb2⟩
  refine h _ hW (xI W) (base f) [] [] (.inl rfl) λe a' v' hv' hq=>?_
  cases e with
  | normal =>
    refine aD hW rfl hv' (λw=>stepG_end) ?_;exact back a' v' [] hq
  |ret=>exact λtodo=>back a' v' todo hq
  |exit id=>exact hq.elim
  |goto l=>exact hq.elim
  |panic ch=>exact hq.elim
  |outgrown=>exact hq.elim
 refine hwin _ (.refl _) (xI W) (λ_=>False) #[G (Dt P f args .normal) []] W Aj #[] (λ_=>0) (λb h=>h.elim) (aQk W) rfl (leavers_one P _) ?_ ?_ (aYg W)
 have h0:dP (λ_=>False)=λ_=>False:=by funext l;cases l<;>rfl
 . rw[h0]
   exact past_nil.mono (BH _)
 . exact⟨λi op x hi=>by simp at hi,λi a ha=>by simp[touchAt,Trace.act?]at ha,λi op hi=>by simp at hi⟩
end
end Go.Am
namespace Go.Am
open RowKit (Below)
def Wal(P:As)[M:Mch P](c:B1)(σ:St)(Q:Cf->St->Prop):Prop :=
 ∀(G:Ctx) (N:Ae) (ds:Ad Cl) (a:Act) (w:Ag),P.follows .mixedOrders=Ak->(∀d,G.Z d=Aj)->bX N c=Ak->SR G N ds σ a w->WC P c (λe a' w'=>∃σ',Q e σ'/\SR G N ds σ' a' w') a w
section
variable {P:As} [M:Mch P] {σ:St} {Q:Cf->St->Prop} {x y c:B1}
def aUs(hl:cM P c=Ak)(h:AWP P c σ Q):Wal P c σ Q:=λG N ds a w hm hZ hd hs=>bZ hm hZ c Q σ a w hd hl h hs
end
open Go.Conc
def bPi{P:As}{f N:Ae}{fn:Func}{c:B1}{args:Ad D}{r:D}(hm:P.follows .mixedOrders=Ak)(hf:P.funcs[f]? = Aa fn)(hb:fn.body=Aa c)(hi:P.inits.idxOf? f=Aj)(hN:fn.ntmps=N)
 (hd:bX N c=Ak) (ha:args.length<=N) (h:letI:=bV P;Wal P c (St0 args N) λe σ=>(e=.normal\/e=.ret)/\jM P fn.results.toList σ=Aa r)
 {W:Ag} {vs:Aw AE} (hl:args.length=vs.size) (hv:∀(k:Ae) d v,args[k]? = Aa d->vs[k]? = Aa v->VD (λb=>b<(strike W).heap.size) (strike W) d v) :
 dS P (tJ W r) (solo (G (Dt P f vs .normal) []) W) #[]:=by
 refine aQz hf hb hi ?_
 letI:=bV P
 subst hN
 refine cG (h _ _ _ _ _ hm (λ_=>rfl) hd (SR0 (A:=λb=>b<(strike W).heap.size) (xI W) (λ_ h=>h) hl hv ha)) ?_
 rintro e a w ⟨σ,⟨he,hr⟩,hs⟩
 have hend:a.defers=[]/\∀v1,Env w v1->∃x,aU P (results fn a.tmps) v1=.ok x v1/\Below (strike W).heap.size (strike W) v1/\VD (λb=>b<v1.heap.size) v1 r x:=by
  refine⟨hs.2.2.2.elim λ_ h=>h.elim λ_ h=>h.2.2.2.2.1,λv1 he=>?_⟩;have hs1:=hs.env he;obtain⟨v,hrun,hvd⟩:=fP hs1 hr;obtain⟨_,_,_,F,ι,hR,_,_,_,hdf,_⟩:=hs1;have hsz:=hR.kept.size;refine⟨v,hrun,⟨hR.kept.os,hR.kept.tape,hR.kept.output,hR.kept.size,λk hk=>hR.kept.block k hk (λh=>h)⟩,hvd.mono ?_⟩;rintro b (h|h|h)
  . exact Be h hsz
  . exact h.elim
  . exact h.2
 rcases he with rfl|rfl<;>exact hend
end Go.Am
namespace Go.Am
open Go.Conc
open RowKit (Below)
def cAv(P:As)[M:Mch P](fn:Func)(N:Ae)(args:Ad D)(r:D):Prop :=
 ∃c,fn.body=Aa c/\fn.ntmps=N/\bX N c=Ak/\args.length<=N/\Wal P c (St0 args N) λe σ=>(e=.normal\/e=.ret)/\jM P fn.results.toList σ=Aa r
def aSg{P:As}[M:Mch P]{fn:Func}{N:Ae}{c:B1}{args:Ad D}{r:D}(hb:fn.body=Aa c)(hN:fn.ntmps=N)(hd:bX N c=Ak)(hl:cM P c=Ak)(ha:args.length<=N)
 (h:AWP P c (St0 args N) λe σ=>(e=.normal\/e=.ret)/\jM P fn.results.toList σ=Aa r):cAv P fn N args r:=⟨c,hb,hN,hd,ha,aUs hl h⟩
def yT{W:Ag}{a:Addr}{x:AE}(h:W.cell? a=Aa x):(strike W).cell? a=Aa x:=by
 obtain⟨c,t,f,hb,hlt,hs⟩:=pW h;have:(strike W).heap[a.block]? = Aa (.cells c t f):=by rw[kG,hb];rfl
 simp only[BN,hb,this]at h ⊢;exact h
def VD.strike{F:Ae->Prop}{W:Ag}{d:D}{x:AE}(h:VD F W d x):VD F (strike W) d x:=by
 induction h with
 |b x=>exact .b x
 |i k n=>exact .i k n
 |sl0 ad c=>exact .sl0 ad c
 |sl els ad n c sz f hn hc hsz hFb hcell hel ih=>exact .sl els ad n c sz f hn hc hsz hFb (λj hj=>yT (hcell j hj)) ih
 |ag cs vs hl h ih=>exact .ag cs vs hl ih
 |tp cs vs hl h ih=>exact .tp cs vs hl ih
 |lit v=>exact .lit v
 |pt cs ad f hFb hcell hel ih=>exact .pt cs ad f hFb (λj hj=>yT (hcell j hj)) ih
 |fn g cs vs hl h ih=>exact .fn g cs vs hl ih
 |mp k ks ds b ents clock hFb hb' hst hl hl' hk hv ih=>exact .mp k ks ds b ents clock hFb (by rw[kG,hb'];rfl) hst hl hl' hk ih
 |iff t x v h ih=>exact .iff t x v ih
 |fm g x u h ih=>exact .fm g x u ih
def bPl{P:As}{f N:Ae}{fn:Func}{args:Ad D}{r:D}(hm:P.follows .mixedOrders=Ak)(hf:P.funcs[f]? = Aa fn)(hi:P.inits.idxOf? f=Aj)(h:letI:=bV P;cAv P fn N args r)
 {W:Ag} {vs:Aw AE} {Q:AE->Ag->Prop} (hl:args.length=vs.size) (hv:∀(k:Ae) d v,args[k]? = Aa d->vs[k]? = Aa v->VD (λb=>b<W.heap.size) W d v)
 (hQ:∀x W',Below W.heap.size W W'->(∃(F:Ae->Prop) (v':Ag),VD F v' r x)->Q x W') :
 ∃M last o w' t',runNT P (M+1) (solo (G (Dt P f vs .normal) []) W) #[]=(.ended o w',t')/\runN P M (solo (G (Dt P f vs .normal) []) W)=.next last/\step P last=.ended o w'/\Conc.Good P Q last o w' t':=by
 obtain⟨c,hb,hN,hd,ha,hw⟩:=h
 obtain⟨M,last,o,w',t',h1,h2,h3,h4⟩:=bPi hm hf hb hi hN hd ha hw (W:=W) (vs:=vs) hl λk d v hk hv'=>by have:=(hv k d v hk hv').strike;simpa[nD]using this
 refine⟨M,last,o,w',t',h1,h2,h3,h4.mono λx hx=>?_⟩
 obtain⟨q1,q2,q3,q4,q5,v',q6⟩:=hx
 exact hQ x w' ⟨q2,q3,q4,q5,λk hk=>q1 k hk⟩ ⟨_,v',q6⟩
end Go.Am
namespace Go.Am
variable {P:As} [Mc:Mch P]
def aMz(f:AU)(cs:Ad AN)(Γ:Ae->AV)(n:Ae):nev P (.makeFunc (.func f) #[] cs.toArray) Γ n=Aa (.fn f (cs.map (oev Γ)),Aj):=by simp[nev,cU]
def bGv(t : AF)(x : Tmp)(i : AN)(Γ : Ae -> AV)(n : Ae) : nev P (.index t (.tmp x) i) Γ n = cU ((oE P t).bind λp => (tsz P p.2).bind λsz => (aBh P p.2).bind λag => (fB (oev Γ i)).bind λk => (zW (oev Γ (.tmp x))).bind λcs =>
 if 0<=k/\k<p.1 then(if ag then(if k.toNat*sz+sz<=cs.length then Aa (.ag ((cs.drop (k.toNat*sz)).take sz))else Aj)else cs[k.toNat*sz]?)else Aj):=rfl
def bZh(f:AU)(cs:Ad D):inj (.fn f cs)=.d (.fn f cs):=rfl
def bSi(f:AU)(cs:Ad D):bH (.fn f cs)=.d (.fn f cs):=rfl
def bSh(cs:Ad D):bH (.pt cs)=.fp cs:=rfl
def bIs(v:AE):bH (.lit v)=.d (.lit v):=rfl
def bId(H:Hp)(avs:Ad AV)(f:AU)(cs:Ad D):bM H avs (.fn f cs)=bW H avs:=rfl
def bIc(H:Hp)(avs:Ad AV)(cs:Ad D):bM H avs (.pt cs)=bW H avs:=rfl
def aTn(f:AU)(cs:Ad AV):dG (.fn f cs)=Aa (f,cs):=rfl
def aOw(f:AU)(cs:Ad D):dG (.d (.fn f cs))=Aa (f,cs.map bH):=rfl
def aOv(f:AU):dG (.d (.lit (.func (.func f) #[] #[])))=Aa (f,[]):=rfl
def bSz(H:Hp)(n:Ae)(f:AU)(cs:Ad AV):frz H (n+1) (.fn f cs)=(cs.mapM (frz H n)).map (.fn f):=rfl
def bSy(H:Hp)(n:Ae)(cs:Ad D):frz H (n+1) (.fp cs)=Aa (.pt cs):=rfl
def bJi(H : Hp)(n : Ae)(id off : Ae) : frz H (n + 1) (.ptr id off) = match H id with
 |some (.cells _ cs)=>if off<=cs.length then((cs.drop off).mapM (frz H n)).map .pt else Aj
 |_=>none:=rfl
def bOb(H:Hp)(n:Ae)(f:AU)(cs:Ad AV):vis H (n+1) (.fn f cs)=cs.flatMap (vis H n):=rfl
def bOa(H:Hp)(n:Ae)(cs:Ad D):vis H (n+1) (.fp cs)=[]:=rfl
def bDh(H : Hp)(n : Ae)(id off : Ae) : vis H (n + 1) (.ptr id off) = match H id with
 |some (.cells _ cs)=>id::(cs.drop off).flatMap (vis H n)
 |_=>[]:=rfl
def bBl(f:AU)(cs:Ad AV):eC (.fn f cs)=Aa [.fn f cs]:=rfl
def aTl(f:AU)(cs:Ad D):eC (.d (.fn f cs))=Aa [.d (.fn f cs)]:=rfl
def bEv(l:Ad Ae)(f:AU)(cs:Ad AV):kB l (.fn f cs)=.fn f (cs.map (aIj l)):=rfl
section
variable (dst:Aq Tmp) (ty:AF) (pos:String) (after:Aw Edge) (guard:Aq (Ae×Bw)) (σ:St) (con:Ad Ae) (k:St->Ad Ae->Prop)
def aA(f:Fn)(x y:Aw AN)(d:Dm ((⟨dst,.makeFunc f x y,ty,pos,after,guard⟩:Bf),k)):O1d P ⟨dst,.makeFunc f x y,ty,pos,after,guard⟩ σ con k d=cS (nev P (.makeFunc f x y) σ.Γ σ.n) (λp=>k ⟨bN σ.Γ dst p.1,fE σ.H σ.n p.2,cnt p.2 σ.n⟩ con) .mk:=cF rfl rfl
def aG(t:AF)(x y:AN)(d:Dm ((⟨dst,.index t x y,ty,pos,after,guard⟩:Bf),k)):O1d P ⟨dst,.index t x y,ty,pos,after,guard⟩ σ con k d=cS (nev P (.index t x y) σ.Γ σ.n) (λp=>k ⟨bN σ.Γ dst p.1,fE σ.H σ.n p.2,cnt p.2 σ.n⟩ con) .mk:=cF rfl rfl
def bMt(P:As)[Mc:Mch P](c:Aq (AU×Ad AV))(avs:Ad AV)(H:Hp)(k:Ad AV->D->Prop)(_:Dm k):Prop:=match c with
 |some (f,cs)=>∃ds r,cK H (avs++cs)=Aa ds/\Spec P f ds r/\k (avs++cs) r
 |none=>False
def nO{f:AU}{cs avs:Ad AV}{H:Hp}{k:Ad AV->D->Prop}{d:Dm k}{ds:Ad D}{r:D}(h1:cK H (avs++cs)=Aa ds)(h2:Spec P f ds r)(h3:k (avs++cs) r):bMt P (Aa (f,cs)) avs H k d:=⟨ds,r,h1,h2,h3⟩
def aXp(P:As)[Mc:Mch P](x:AV)(avs:Ad AV)(H:Hp)(k:Ad AV->D->Prop)(_:Dm k):Prop:=match x with
 |.d (.fm f d)=>∃ds r,cK H (.d d::avs)=Aa ds/\Spec P f ds r/\k (.d d::avs) r
 |_=>False
def aXn(P:As)[Mc:Mch P](c:Aq (AU×Ad AV))(x:AV)(avs:Ad AV)(H:Hp)(k:Ad AV->D->Prop)(_:Dm k):Prop:=match c with
 |some p=>bMt P (Aa p) avs H k .mk
 |none=>aXp P x avs H k .mk
def aTo(p:AU×Ad AV)(x:AV)(avs:Ad AV)(H:Hp)(k:Ad AV->D->Prop)(d:Dm k):aXn P (Aa p) x avs H k d=bMt P (Aa p) avs H k .mk:=rfl
def aH(t:Tmp)(args:Ad AN)(ts:Aw AF)(d:Dm ((⟨dst,.call ⟨.value (.tmp t),args.toArray,ts⟩,ty,pos,after,guard⟩:Bf),k))(hm:bRg P (hvF (σ.Γ t))=Az):O1d P ⟨dst,.call ⟨.value (.tmp t),args.toArray,ts⟩,ty,pos,after,guard⟩ σ con k d =
 aXn P (dG (σ.Γ t)) (σ.Γ t) (args.map (oev σ.Γ)) σ.H (λavs r=>k ⟨bN σ.Γ dst (inj r),kill (bM σ.H avs r) σ.H,σ.n⟩ (bM σ.H avs r++con)) .mk:=by
 have hno:∀f avs,¬(hvl (σ.Γ t) (args.toArray.toList.map (oev σ.Γ))=Aa (f,avs)/\qS P f=Ak/\HCo P f avs dst σ con k):=λf avs ⟨h1,h2,_⟩=>by rw[bSm h1]at hm;simp only[bRg]at hm;rw[h2]at hm;cases hm
 unfold O1d;simp only[O1,aXn,aXp]
 simp only[hno,exists_false,or_false]
 cases dG (σ.Γ t)with
 |none=>rfl
 |some p=>obtain⟨f,cs⟩:=p;rfl
end
def bZm(f:AU)(cs:Ad AV):hvF (.fn f cs)=Aa f:=rfl
def bSp(f:AU)(cs:Ad D):hvF (.d (.fn f cs))=Aa f:=rfl
def bSo(f:AU):hvF (.d (.lit (.func (.func f) #[] #[])))=Aa f:=rfl
def bZn(f:AU)(x:D):hvF (.d (.fm f x))=none:=rfl
def aZr(f:AU):bRg P (Aa f)=qS P f:=rfl
def aZs:bRg P Aj=false:=rfl
attribute [simp] bZm bSp bSo bZn aZr aZs aTo aMz bGv bZh bSi bSh bIs aTn aOw aOv bSz bSy bJi bOb bOa bDh bBl aTl bEv bId bIc
end Go.Am
section
open Go Go.Am Go.Proofs
namespace Go.Am
def qE{raw:Ad Ae}{n:Ae}(hn:n<raw.length)(h0:raw[n]≠0):strip (raw.take (n+1))=raw.take (n+1):=by refine kV ?_;rw[BG,Ac hn,rY,E8,List.getLast?_append];simp[h0]
def qD{raw:Ad Ae}{n:Ae}(hn:n<raw.length)(h0:raw[n]=0):strip (raw.take (n+1))=strip (raw.take n):=by rw[BG,Ac hn,h0];exact aBk _
def aIu[M:Mch Ab](raw:Ad Ae)(neg:Bw)(hl:raw.length<=1099511627776):Spec Ab 51 [aZ raw,.b neg] (encI (neg&&decide (strip raw≠[])) (strip raw)):=by
 refine bU (N:=31) Tryz.func51 ?_;simp[-O,-U,↓KW,aZ];refine nL (τ:={ n:Ae // n<=raw.length/\strip (raw.take n)=strip raw }) (S:=λn=>StL [(0,.d (aZ raw)),(1,.d (.b neg)),(4,.ptr 1 0),(5,.d (.i .i64 n.1))] Aj [.cells 35 [.d (.b Az),.nil]]) (m:=λn=>n.1) ⟨raw.length,AM _,by simp⟩ ?_ ?_
 .refine wkQ [1] ?_ ?_
  .simp[-O,upd,bH,Γ0,aZ]
  .simp[-O,upd,bH,Γ0]
 .rintro⟨n,hn,hs⟩;rcases n with _|n
  .have hs':strip raw=[]:=hs.symm;cases neg<;>simp[-O,-U,↓KW,aZ,encI,hs',chunk]
  .have hx:raw[n]? = Aa raw[n]:=Ac hn;have hw:Ax.wrap (n:Al)=n:=bP;have hp:(0:Al)<(n:Al)+1:=by omega
   by_cases h0:raw[n]=0
   .simp[-O,-U,↓KW,aZ,hx,hw,h0,hp];refine⟨n,by omega,⟨by omega,(qD hn h0).symm.trans hs⟩,.inr (wkQ [1] ?_ ?_)⟩<;>simp[-O,upd,bH,Γ0,aZ]
   .have h1:((raw[n]:Al)==0)=false:=by simp;omega
    have he:strip raw=raw.take (n+1):=hs.symm.trans (qE hn h0);have hp2:(0:Al)<=(n:Al)+1:=by omega
    have hn':(n:Al)+1<=raw.length:=by omega
    obtain⟨pre,hpre⟩:∃pre,raw.take (n+1)=pre:=⟨_,rfl⟩;have hpl:pre.length=n+1:=by rw[<-hpre];simp;omega
    have hp1:∀f:Ae->Ad D,(raw.map f).take (n+1)=pre.map f:=λf=>by rw[<-hpre,FL]
    have hpn:pre≠[]:=λe=>by rw[e]at hpl;cases hpl
    rw[hpre]at he;have hb:(n+1)*4<=140737488355328:=by omega
    have hb2:n+1<=maxLen:=by unfold maxLen;omega
    cases neg<;>simp[-O,-U,↓KW,aZ,encI,hx,hw,h1,hp,hp2,he,hn',hp1,hpl,hpn,kN hpl,jQ hpl,aNj,aWa,pN,hb,hb2]
def sV{raw:Ad Ae}(h:Lim raw)(neg:Bw):encI (neg&&decide (strip raw≠[])) (strip raw)=encZ (sg neg (val raw)):=by rw[gR h,<-bTs];simp[lE]
def cCx[M:Mch Ab](n:Al)(h1:-9223372036854775808<=n)(h2:n<9223372036854775808):Spec Ab 38 [.i .i64 n] (encZ n):=by
 refine bU (N:=19) Tryz.func38 ?_;have key:∀(u:Ae),u<18446744073709551616->∃lo hi:Ae,Lim [lo,hi]/\val [lo,hi]=u/\Cs.wrap (u:Al)=lo/\cY .shr .u64 (u:Al) 32=Aa (.i .u64 hi)/\Cs.wrap (hi:Al)=hi:=λu hu=>by refine⟨u%4294967296,u/4294967296,.cons (by omega) (.one (by omega)),by simp only[val];omega,by rw[kE];omega,?_,by rw[wrap_u32 (by omega) (by omega)]⟩;simp only[cY,Df];rw[Ap (by decide)];congr 2;rw[show(2:Al)^(min (32:Al).toNat 64)=4294967296 from by decide,D4 _ (by decide)];omega
 by_cases hn:n<0
 .obtain⟨u,hu⟩:∃u:Ae,n=-(u:Al):=⟨n.natAbs,by omega⟩;have hu2:u<18446744073709551616:=by omega
  have e1:Bh.wrap n=n+18446744073709551616:=by rw[xE];omega
  have e2:Bh.wrap (-(n+18446744073709551616))=(u:Al):=by rw[xE];omega
  obtain⟨lo,hi,k1,k2,e3,e4,e5⟩:=key u hu2;simp[-O,-U,↓KW,hn,e1,e2,e3,e4,e5];have hm:=aIu [lo,hi] Ak (by simp);rw[sV k1,k2,show sg Ak u=n by simp[sg];omega]at hm;refine iD (ds:=[aZ [lo,hi],.b Ak]) ?_ hm ?_
  .simp[-O,-U,↓KW,aZ]
  .simp[-O,-U,↓KW,aZ,encZ,encI]
 .obtain⟨u,rfl⟩:∃u:Ae,n=(u:Al):=⟨n.natAbs,by omega⟩;have hu2:u<18446744073709551616:=by omega
  have e1:Bh.wrap (u:Al)=u:=wrap_u64 (by omega) (by omega);obtain⟨lo,hi,k1,k2,e3,e4,e5⟩:=key u hu2;simp[-O,-U,↓KW,hn,e1,e3,e4,e5];have hm:=aIu [lo,hi] Az (by simp);rw[sV k1,k2,show sg Az u=u by simp[sg]]at hm;refine iD (ds:=[aZ [lo,hi],.b Az]) ?_ hm ?_
  .simp[-O,-U,↓KW,aZ]
  .simp[-O,-U,↓KW,aZ,encZ,encI]
def oL(a b:Ad Ae):Bw:=if a.length=b.length then decide (val a<val b)else decide (a.length<b.length)
def fU(x y:Ae):oL (bJ x) (bJ y)=decide (x<y):=by
 unfold oL;by_cases h:(bJ x).length=(bJ y).length
 .rw[AB h,fI,fI]
 .rw[Ap h];by_cases h1:(bJ x).length<(bJ y).length
  .simp[h1,lP h1]
  .have:=lP (a:=y) (b:=x) (by omega);simp only[h1,decide_false];simp;omega
def aVc[M:Mch Ab](a b:Ad Ae)(ha:Lim a)(hb:Lim b)(hla:a.length<=1099511627776)(hlb:b.length<=1099511627776):Spec Ab 66 [aZ a,aZ b] (.b (oL a b)):=by
 refine bU (N:=41) Tryz.func66 ?_;by_cases hn:a.length=b.length
 rotate_left
 .have h1:(((a.length:Al) != b.length):Bw)=true:=by simp;omega
  simp[-O,-U,↓KW,aZ,h1,oL,hn]
 .have h1:(((a.length:Al) != b.length):Bw)=false:=by simp;omega
  have hw:Ax.wrap ((a.length:Al)-1)=(a.length:Al)-1:=bP;simp[-O,-U,↓KW,aZ,h1,hw];refine nL (τ:={ k:Ae // k<=a.length/\a.drop k=b.drop k }) (S:=λk=>StL [(0,.d (aZ a)),(1,.d (aZ b)),(5,.d (.i .i64 ((k.1:Al)-1)))] Aj []) (m:=λk=>k.1) ⟨a.length,AM _,by rw[Dy (AM _),Dy (by omega)]⟩ ?_ ?_
  .refine wkQ [] ?_ ?_<;>simp[-O,upd,bH,Γ0,aZ]
  .rintro⟨k,hk,hd⟩;rcases k with _|k
   .have e:a=b:=by simpa using hd
    subst e;simp[-O,-U,↓KW,aZ,oL]
   .have hkb:k<b.length:=by omega
    have hxa:a[k]? = Aa a[k]:=Ac hk;have hxb:b[k]? = Aa b[k]:=Ac hkb;have hw2:Ax.wrap ((k:Al)-1)=(k:Al)-1:=bP;have hp:(0:Al)<=k:=by omega
    by_cases he:a[k]=b[k]
    .have h2:(((a[k]:Al) != (b[k]:Al)):Bw)=false:=by simp[he]
     simp[-O,-U,↓KW,aZ,hxa,hxb,hw2,hp,h2];refine⟨k,by omega,⟨by omega,?_⟩,.inr (wkQ [] ?_ ?_)⟩
     .rw[CW hk,CW hkb,he,hd]
     .simp[-O,upd,bH,Γ0,aZ]
     .trivial
    .have h2:(((a[k]:Al) != (b[k]:Al)):Bw)=true:=by simp;omega
     simp[-O,-U,↓KW,aZ,hxa,hxb,hw2,hp,h2,oL,hn];have ga:a.getD k 0=a[k]:=by rw[Ah,hxa];rfl
     have gb:b.getD k 0=b[k]:=by rw[Ah,hxb];rfl
     rcases Bc a[k] b[k]with hlt|hge
     .have:=sC ha (i:=k) hn hk hd (by rw[ga,gb];exact hlt);simp[hlt,this]
     .have:=sC hb (i:=k) hn.symm hkb hd.symm (by rw[ga,gb];omega);omega
def bFz[M:Mch Ab](x y:Al)(hx:(bJ x.natAbs).length<=1099511627776)(hy:(bJ y.natAbs).length<=1099511627776):Spec Ab 13 [encZ x,encZ y] (.b (decide (x=y))):=by
 refine bU (N:=26) Tryz.func13 ?_;have l1:=aVc _ _ (dH x.natAbs) (dH y.natAbs) hx hy;have l2:=aVc _ _ (dH y.natAbs) (dH x.natAbs) hy hx;rw[fU]at l1 l2;unfold encZ encI;generalize bJ x.natAbs=a at *;generalize bJ y.natAbs=b at *;by_cases hs:decide (x<0)=decide (y<0)
 rotate_left
 .have h1:(decide (x<0)==decide (y<0))=false:=by simpa using hs
  have h2:¬x=y:=λe=>hs (by rw[e])
  simp[-O,-U,↓KW,aZ,h1,h2]
 .have h1:(decide (x<0)==decide (y<0))=true:=by simpa using hs
  simp[-O,-U,↓KW,aZ,h1];refine aL l1 ?_;by_cases h3:x.natAbs<y.natAbs
  .have h2:¬x=y:=λe=>by rw[e]at h3;omega
   simp[-O,-U,↓KW,aZ,h3,h2]
  .simp[-O,-U,↓KW,aZ,h3];refine aL l2 ?_;simp[-O,-U,↓KW,aZ];have hs':x<0↔y<0:=by simpa using hs
   rw[Bool.eq_iff_iff];simp;omega
def plS(a b:Ad Ae):Ae->Ad Ae×Ae
 |0=>([],0)
 |i+1=>((plS a b i).1++[((plS a b i).2+a.getD i 0+b.getD i 0)%4294967296],((plS a b i).2+a.getD i 0+b.getD i 0)/4294967296)
def aAf{a b:Ad Ae}(ha:Lim a)(hb:Lim b):∀i,(plS a b i).1.length=i/\(plS a b i).2<=1/\Lim (plS a b i).1/\val (plS a b i).1+4294967296^i*(plS a b i).2=val (a.take i)+val (b.take i)
 |0=>⟨rfl,BH _,.nil,by simp[plS,val]⟩
 | i+1=>by
  obtain⟨h1,h2,h3,h4⟩:=aAf ha hb i;have ha':=ha.getD i;have hb':=hb.getD i;simp only[plS];generalize(plS a b i).1=out at *;generalize(plS a b i).2=c at *;refine⟨by simp[h1],by omega,h3.app (.one (by omega)),?_⟩;rw[nC,dL,dL,h1,CI];simp only[val];have h5:4294967296^i*((c+a.getD i 0+b.getD i 0)%4294967296)+4294967296^i*4294967296*((c+a.getD i 0+b.getD i 0)/4294967296)=4294967296^i*c+4294967296^i*a.getD i 0+4294967296^i*b.getD i 0:=by rw[C7,<-DJ,Nat.mod_add_div,DJ,DJ]
  simp only[EJ,CU];omega
def getD_none{l:Ad Ae}{i:Ae}(h:¬i<l.length):l.getD i 0=0:=by rw[Ah,Bn (by omega)];rfl
def getD_some{l:Ad Ae}{i:Ae}(h:i<l.length):l[i]? = Aa (l.getD i 0):=by rw[Ah,Ac h];rfl
def miS(a b:Ad Ae):Ae->Ad Ae×Ae
 |0=>([],0)
 |i+1=>if(miS a b i).2+b.getD i 0<=a.getD i 0 then((miS a b i).1++[a.getD i 0-((miS a b i).2+b.getD i 0)],0)else((miS a b i).1++[a.getD i 0+4294967296-((miS a b i).2+b.getD i 0)],1)
def aGn{p o vb va x y c z:Ae}(h4:o+vb=va+p*c)(hx:x=z+(c+y)):o+p*z+(vb+p*y)=va+p*x:=by subst hx;rw[DJ,DJ];omega
def aZu{p o vb va x y c z k:Ae}(h4:o+vb=va+p*c)(hx:x+k=z+(c+y)):o+p*z+(vb+p*y)=va+p*x+p*k:=by have:=aGn (p:=p) (x:=x+k) h4 hx;rw[DJ]at this;omega
def bRj{p va vb i:Ae}{out:Ad Ae}{c x y z:Ae}(hz:x=z+(c+y))(hl:z<4294967296)(h1:out.length=i)(hp:4294967296^i=p)(h3:Lim out)(h4:val out+vb=va+p*c) :
 (out++[z]).length=i+1/\Lim (out++[z])/\val (out++[z])+(vb+p*y)=va+p*x:=by
 refine⟨by simp[h1],h3.app (.one hl),?_⟩
 simp only[nC,val,EJ,CU,h1,hp]
 exact aGn h4 hz
def bRk{p va vb i:Ae}{out:Ad Ae}{c x y z k:Ae}(hz:x+k=z+(c+y))(hl:z<4294967296)(h1:out.length=i)(hp:4294967296^i=p)(h3:Lim out)(h4:val out+vb=va+p*c) :
 (out++[z]).length=i+1/\Lim (out++[z])/\val (out++[z])+(vb+p*y)=va+p*x+p*k:=by
 refine⟨by simp[h1],h3.app (.one hl),?_⟩
 simp only[nC,val,EJ,CU,h1,hp]
 exact aZu h4 hz
def aNd(a b:Ad Ae)(i:Ae):miS a b (i+1)=if(miS a b i).2+b.getD i 0<=a.getD i 0 then((miS a b i).1++[a.getD i 0-((miS a b i).2+b.getD i 0)],0)else((miS a b i).1++[a.getD i 0+4294967296-((miS a b i).2+b.getD i 0)],1):=rfl
def bLw{a b:Ae}(q:Ae)(h:a=b):a=b+q*0:=by rw[EJ,CU];exact h
def bLv{a b:Ae}(q:Ae)(h:a=b+q):a=b+q*1:=by rw[Eb];exact h
def aVx{a b:Ad Ae}(ha:Lim a)(hb:Lim b)(i:Ae):(miS a b i).1.length=i/\(miS a b i).2<=1/\Lim (miS a b i).1/\val (miS a b i).1+val (b.take i)=val (a.take i)+4294967296^i*(miS a b i).2:=by
 induction i with
 |zero=>exact⟨rfl,BH _,.nil,by simp[miS,val]⟩
 | succ i ih =>
  obtain⟨h1,h2,h3,h4⟩:=ih;have hx:=ha.getD i;have hy:=hb.getD i;rw[dL,dL,CI,aNd];generalize(miS a b i).1=out at *;generalize(miS a b i).2=c at *;generalize a.getD i 0=x at *;generalize b.getD i 0=y at *;generalize hp:4294967296^i=p at *;by_cases h:c+y<=x
  .rw[AB h];obtain⟨z,hz,hz'⟩:∃z,x-(c+y)=z/\x=z+(c+y):=⟨_,rfl,(Nat.sub_add_cancel h).symm⟩;rw[hz];clear hz;obtain⟨q1,q2,q3⟩:=bRj hz' (by omega) h1 hp h3 h4;exact⟨q1,BH _,q2,bLw _ q3⟩
  .rw[Ap h];obtain⟨z,hz,hz'⟩:∃z,x+4294967296-(c+y)=z/\x+4294967296=z+(c+y):=⟨_,rfl,(Nat.sub_add_cancel (by omega)).symm⟩;rw[hz];clear hz;obtain⟨q1,q2,q3⟩:=bRk hz' (by omega) h1 hp h3 h4;exact⟨q1,AM _,q2,bLv _ q3⟩
def xT(a b:Ad Ae):Ad Ae:=(miS a b a.length).1
def aCl{a b:Ad Ae}(ha:Lim a)(hb:Lim b)(hl:b.length<=a.length)(hv:val b<=val a):val (xT a b)=val a-val b/\Lim (xT a b)/\(xT a b).length=a.length:=by
 obtain⟨h1,h2,h3,h4⟩:=aVx ha hb a.length;rw[A4 hl,A4 (AM _)]at h4;refine⟨?_,h3,h1⟩;have hlt:=aBc h3;rw[h1]at hlt;unfold xT;generalize(miS a b a.length).1=out at *;generalize(miS a b a.length).2=c at *;rcases Bc 0 c with hc|hc
 .have:c=1:=by omega
  rw[this,Eb]at h4;omega
 .have:c=0:=by omega
  rw[this,EJ]at h4;omega
def aUv{l:Ad Ae}{j:Ae}(h:j<l.length)(v:Ae):val (l.set j v)+4294967296^j*l.getD j 0=val l+4294967296^j*v:=by
 induction l generalizing j with
 |nil=>simp at h
 | cons x l ih =>
  cases j with
  |zero=>simp only[Dg,val,Nat.pow_zero,Fu,List.getD_cons_zero];omega
  | succ j =>
   have:=ih (j:=j) (by simpa using h);simp only[E9,val,List.getD_cons_succ,CI];generalize 4294967296^j=p at *;generalize l.getD j 0=o at *;generalize val (l.set j v)=w at *;rw[Da p,C7,C7];generalize p*o=e1 at *;generalize p*v=e2 at *;omega
def muI(out:Ad Ae)(x:Ae)(b:Ad Ae)(i:Ae):Ae->Ad Ae×Ae
 |0=>(out,0)
 |k+1=>((muI out x b i k).1.set (i+k) (((muI out x b i k).2+(muI out x b i k).1.getD (i+k) 0+x*b.getD k 0)%4294967296),((muI out x b i k).2+(muI out x b i k).1.getD (i+k) 0+x*b.getD k 0)/4294967296)
def bHh{P v v' o c t q r e w k:Ae}(hs:v'+P*o=v+P*r)(ht:r+k*q=t)(ht2:c+o+e=t)(hv:v+P*c=w):v'+P*k*q=w+P*e:=by
 have h1:P*t=P*r+P*(k*q):=by rw[<-ht,DJ]
 have h2:P*t=P*c+P*o+P*e:=by rw[<-ht2,DJ,DJ]
 rw[C7];omega
def bHg{c o x y:Ae}(hc:c<4294967296)(ho:o<4294967296)(hx:x<4294967296)(hy:y<4294967296):c+o+x*y<18446744073709551616:=by have:x*y<=4294967295*4294967295:=BO (by omega) (by omega);omega
def aVu{out b:Ad Ae}{x i:Ae}(ho:Lim out)(hb:Lim b)(hx:x<4294967296)(hl:i+b.length<out.length)(k:Ae)(hk:k<=b.length+1) :
 (muI out x b i k).1.length=out.length/\(muI out x b i k).2<4294967296/\Lim (muI out x b i k).1/\val (muI out x b i k).1+4294967296^(i+k)*(muI out x b i k).2=val out+4294967296^i*(x*val (b.take k)):=by
 induction k with
 |zero=>exact⟨rfl,Nat.zero_lt_of_lt hx,ho,by simp[muI,val]⟩
 | succ k ih =>
  obtain⟨h1,h2,h3,h4⟩:=ih (by omega)
  have hy:=hb.getD k
  have hoo:=h3.getD (i+k)
  have hset:=aUv (l:=(muI out x b i k).1) (j:=i+k) (by omega) (((muI out x b i k).2+(muI out x b i k).1.getD (i+k) 0+x*b.getD k 0)%4294967296)
  have hlim:=bHg h2 hoo hx hy
  rw[dL]
  simp only[muI]
  generalize(muI out x b i k).1=out' at *
  generalize(muI out x b i k).2=c at *
  generalize out'.getD (i+k) 0=o at *
  generalize b.getD k 0=y at *
  refine⟨by simp[h1],by omega,h3.set _ (by omega),?_⟩
  have:=bHh hset (Nat.mod_add_div _ _) rfl h4
  rw[<-EL i k 1,CI,this,Gw,DJ,DJ,C7,EL]
  congr 2
  rw[Nat.mul_left_comm x]
def bYt{a b:Ad Ae}(ha:Lim a)(hb:Lim b){i:Ae}(hi:i<=a.length):val (a.take i)*val b<4294967296^(i+b.length):=by have h1:=aBc (ha.take i);rw[Bt,Nat.min_eq_left hi]at h1;have h2:=aBc hb;rw[Gw];exact Nat.mul_lt_mul'' h1 h2
def bCl{n:Ae}(h:n<=9223372036854775807):Ax.wrap (n:Al)=n:=bP
def iV[M:Mch Ab](m:Ad Ae)(hl:m.length<=1099511627776):Spec Ab 147 [aZ m] (aZ (strip m)):=by
 refine bU (N:=21) Tryz.func147 ?_;simp[-O,-U,↓KW,aZ];refine eF (λn:Ae=>n<=m.length/\strip (m.take n)=strip m) (λn=>StL [(0,.d (aZ m)),(3,.d (.i .i64 n))] Aj []) (λn=>n) m.length ⟨AM _,by simp⟩ ?_ ?_
 .refine wkQ [] ?_ ?_<;>simp[-O,upd,bH,Γ0,aZ]
 .rintro n ⟨hn,hs⟩;rcases n with _|n
  .have hs':strip m=[]:=hs.symm;have h0:fT 1 (m.map λ(x:Ae)=>[D.i .u32 (x:Al)])=true:=rF m _;simp[-O,-U,↓KW,aZ,hs',h0]
  .have hx:m[n]? = Aa m[n]:=Ac hn;have hw:Ax.wrap (n:Al)=n:=bCl (by omega);have hp:(0:Al)<(n:Al)+1:=by omega
   have hp2:(0:Al)<=(n:Al)+1:=by omega
   by_cases h0:m[n]=0
   .simp[-O,-U,↓KW,aZ,hx,hw,h0,hp];refine bD n ⟨by omega,(qD hn h0).symm.trans hs⟩ (by omega) (wkQ [] ?_ ?_)<;>simp[-O,upd,bH,Γ0,aZ]
   .have h1:((m[n]:Al)==0)=false:=by simp;omega
    have he:strip m=m.take (n+1):=hs.symm.trans (qE hn h0);have hn':(n:Al)+1<=m.length:=by omega
    obtain⟨pre,hpre⟩:∃pre,m.take (n+1)=pre:=⟨_,rfl⟩;have hp1:∀f:Ae->Ad D,(m.map f).take (n+1)=pre.map f:=λf=>by rw[<-hpre,FL]
    rw[hpre]at he;simp[-O,-U,↓KW,aZ,hx,hw,h1,hp,hp2,he,hn',hp1,rF]
def aNp[M:Mch Ab](neg:Bw)(m:Ad Ae)(hl:m.length<=1099511627776):Spec Ab 152 [.b neg,aZ m] (encI (neg&&decide (strip m≠[])) (strip m)):=by
 refine bU (N:=14) Tryz.func152 ?_;simp[-O,-U,↓KW,aZ];refine aL (iV m hl) ?_;cases hm:strip m with
 | nil =>
  cases neg<;>simp[-O,-U,↓KW,aZ,encI]
 | cons x l =>
  have h1:(((l.length:Al)+1==0):Bw)=false:=by simp;omega
  cases neg<;>simp[-O,-U,↓KW,aZ,encI,h1]
def jC[M:Mch Ab]{m:Ad Ae}(h:Lim m)(hl:m.length<=1099511627776)(neg:Bw):Spec Ab 152 [.b neg,aZ m] (encZ (sg neg (val m))):=by rw[<-sV h];exact aNp neg m hl
def aWf[M:Mch Ab](neg:Bw)(m:Ad Ae)(hl:m.length<=1099511627776):Spec Ab 57 [encI neg m] (.i .i64 (if strip m=[]then 0 else if neg then -1 else 1)):=by
 refine bU (N:=12) Tryz.func57 ?_;simp[-O,-U,↓KW,encI,aZ];refine aL (iV m hl) ?_;cases hm:strip m with
 |nil=>simp[-O,-U,↓KW,aZ,encI]
 | cons x l =>
  have h1:(((l.length:Al)+1==0):Bw)=false:=by simp;omega
  cases neg<;>simp[-O,-U,↓KW,aZ,encI,h1]
def bIm[M:Mch Ab](neg:Bw)(m:Ad Ae)(hl:m.length<=1099511627776):Spec Ab 145 [encI neg m] (.b (match m.getLast? with|some x=>x != 0|none=>!neg)):=by
 refine bU (N:=19) Tryz.func145 ?_;rcases List.eq_nil_or_concat m with rfl|⟨m',x,rfl⟩
 .simp[-O,-U,↓KW,encI,aZ]
 .have hw:Ax.wrap (m'.length:Al)=m'.length:=by simp at hl;rw[wrap_i64]<;>omega
  have h1:(0:Al)<(m'.length:Al)+1:=by omega
  have hg:(DX (λ(x:Ae)=>[D.i .u32 (x:Al)]) m'++[[D.i .u32 (x:Al)]])[m'.length]? = Aa [D.i .u32 (x:Al)]:=by rw[AZ (by simp)];simp
  simp[-O,-U,↓KW,encI,aZ,hw,h1,hg];rw[Bool.eq_iff_iff];simp
def cDc[M:Mch Ab](x:Al):Spec Ab 240 [.i .i64 x] (.b Az):=by refine bU (N:=6) Tryz.func240 ?_;simp[-O,-U,↓KW]
def cDb[M:Mch Ab](x:Al):Spec Ab 294 [.i .u32 x] (.b Az):=by refine bU (N:=6) Tryz.func294 ?_;simp[-O,-U,↓KW]
def mY(x y:Al):Al:=if x<y then -1 else if y<x then 1 else 0
def bKx[M:Mch Ab](x y:Al):Spec Ab 150 [.i .i64 x,.i .i64 y] (.i .i64 (mY x y)):=by
 refine bU (N:=20) Tryz.func150 ?_;simp[-O,-U,↓KW];refine aL (cDc x) ?_;simp[-O,-U,↓KW];refine aL (cDc y) ?_;by_cases h1:x<y
 .simp[-O,-U,↓KW,h1,mY]
 .by_cases h2:y<x<;>simp[-O,-U,↓KW,h1,h2,mY]
def cHg[M:Mch Ab](x y:Al):Spec Ab 241 [.i .u32 x,.i .u32 y] (.i .i64 (mY x y)):=by
 refine bU (N:=20) Tryz.func241 ?_;simp[-O,-U,↓KW];refine aL (cDb x) ?_;simp[-O,-U,↓KW];refine aL (cDb y) ?_;by_cases h1:x<y
 .simp[-O,-U,↓KW,h1,mY]
 .by_cases h2:y<x<;>simp[-O,-U,↓KW,h1,h2,mY]
def jU(a b:Ad Ae):Al:=if oL a b then -1 else if oL b a then 1 else 0
def uH[M:Mch Ab](a b:Ad Ae)(ha:Lim a)(hb:Lim b)(hla:a.length<=1099511627776)(hlb:b.length<=1099511627776):Spec Ab 151 [aZ a,aZ b] (.i .i64 (jU a b)):=by
 refine bU (N:=35) Tryz.func151 ?_;simp[-O,-U,↓KW,aZ];refine aL (bKx _ _) ?_;by_cases hn:a.length=b.length
 rotate_left
 .rcases Nat.lt_or_gt_of_ne hn with h|h
  .have h1:mY a.length b.length=-1:=by unfold mY;rw[AB (by omega)]
   have h2:jU a b=-1:=by simp[jU,oL,hn,h]
   simp[-O,-U,↓KW,aZ,h1,h2]
  .have h1:mY a.length b.length=1:=by unfold mY;rw[Ap (by omega),AB (by omega)]
   have h2:jU a b=1:=by
    have h3:¬a.length<b.length:=by omega
    have h4:¬b.length=a.length:=λe=>hn e.symm
    simp[jU,oL,hn,h,h3,h4]
   simp[-O,-U,↓KW,aZ,h1,h2]
 .have h1:mY a.length b.length=0:=by simp[mY,hn]
  have hw:Ax.wrap ((a.length:Al)-1)=(a.length:Al)-1:=bP;simp[-O,-U,↓KW,aZ,h1,hw];refine eF (λk:Ae=>k<=a.length/\a.drop k=b.drop k) (λk=>StL [(0,.d (aZ a)),(1,.d (aZ b)),(6,.d (.i .i64 ((k:Al)-1)))] Aj []) (λk=>k) a.length ⟨AM _,by rw[Dy (AM _),Dy (by omega)]⟩ ?_ ?_
  .refine wkQ [] ?_ ?_<;>simp[-O,upd,bH,Γ0,aZ]
  .rintro k ⟨hk,hd⟩;rcases k with _|k
   .have e:a=b:=by simpa using hd
    subst e;simp[-O,-U,↓KW,aZ,oL,jU]
   .have hkb:k<b.length:=by omega
    have hxa:a[k]? = Aa a[k]:=Ac hk;have hxb:b[k]? = Aa b[k]:=Ac hkb;have hw2:Ax.wrap ((k:Al)-1)=(k:Al)-1:=bP;have hp:(0:Al)<=k:=by omega
    simp[-O,-U,↓KW,aZ,hxa,hxb,hp];refine aL (cHg _ _) ?_;by_cases he:a[k]=b[k]
    .have h2:mY a[k] b[k]=0:=by simp[mY,he]
     simp[-O,-U,↓KW,aZ,h2,hw2];refine bD k ⟨by omega,?_⟩ (by omega) (wkQ [] ?_ ?_)
     .rw[CW hk,CW hkb,he,hd]
     .simp[-O,upd,bH,Γ0,aZ]
     .trivial
    .have ga:a.getD k 0=a[k]:=by rw[Ah,hxa];rfl
     have gb:b.getD k 0=b[k]:=by rw[Ah,hxb];rfl
     rcases Bc a[k] b[k]with hlt|hge
     .have h3:=sC ha (i:=k) hn hk hd (by rw[ga,gb];exact hlt);have h4:mY a[k] b[k]=-1:=by unfold mY;rw[AB (by omega)]
      have h5:jU a b=-1:=by simp[jU,oL,hn,h3]
      simp[-O,-U,↓KW,aZ,h4,h5]
     .have h3:=sC hb (i:=k) hn.symm hkb hd.symm (by rw[ga,gb];omega);have h4:mY a[k] b[k]=1:=by unfold mY;rw[Ap (by omega),AB (by omega)]
      have h6:¬val a<val b:=by omega
      have h5:jU a b=1:=by simp[jU,oL,hn,h3,h6]
      simp[-O,-U,↓KW,aZ,h4,h5]
def zp(out:Ad Ae)(n:Ae):Ad Ae:=out++AO (n-out.length) 0
def aHv{out:Ad Ae}{n:Ae}(h:out.length<=n):(zp out n).length=n:=by simp[zp];omega
def aHw{out:Ad Ae}{n:Ae}(h:out.length=n):zp out n=out:=by subst h;simp[zp]
def aPv(n:Ae):zp [] n=AO n 0:=by simp[zp]
def bWl{out:Ad Ae}{n i:Ae}(h:out.length=i)(hi:i<n)(v:Ae):(zp out n).set i v=zp (out++[v]) n:=by subst h;unfold zp;obtain⟨k,hk⟩:∃k,n-out.length=k+1:=⟨n-out.length-1,by omega⟩;rw[hk,List.set_append_right _ _ (AM _),Dw,C9,Dg,BK,B8,show n-(out.length+1)=k from by omega,Db];rfl
def aAu{out:Ad Ae}{n i:Ae}(h:out.length=i)(hi:i<n)(v:Ae):lay (DX AV.d (lms (zp out n))) i [AV.d (D.i .u32 (v:Al))]=DX AV.d (lms (zp (out++[v]) n)):=by rw[iU _ _ _ (by rw[pN,aHv (by omega)];exact hi),aJj,bWl h hi]
def aFt{t:Ae}:cY .shr .u64 (t:Al) 32=Aa (.i .u64 ((t/4294967296:Ae):Al)):=by simp only[cY,Df];rw[Ap (by decide)];congr 2;rw[show(2:Al)^(min (32:Al).toNat 64)=4294967296 from by decide,D4 _ (by decide)];omega
def bVj{t:Al}(_h0:0<=t):cY .shr .u64 t 63=Aa (.i .u64 (t/9223372036854775808)):=by simp only[cY,Df];rw[Ap (by decide)];congr 2;rw[show(2:Al)^(min (63:Al).toNat 64)=9223372036854775808 from by decide,D4 _ (by decide)]
def ip(p q:Ad Ae):Ad Ae:=(plS p q p.length).1++[(plS p q p.length).2]
def bIk{p q:Ad Ae}(lp:Lim p)(lq:Lim q)(h:q.length<=p.length):val (ip p q)=val p+val q/\Lim (ip p q)/\(ip p q).length=p.length+1:=by obtain⟨h1,h2,h3,h4⟩:=aAf lp lq p.length;rw[A4 (AM _),A4 h]at h4;unfold ip;refine⟨?_,h3.app (.one (by omega)),by simp[h1]⟩;rw[nC,h1];simp only[val,EJ,CU];exact h4
def rI(a b:Ad Ae):Ad Ae:=if a.length<b.length then ip b a else ip a b
def aSi{a b:Ad Ae}(ha:Lim a)(hb:Lim b):val (rI a b)=val a+val b/\Lim (rI a b)/\(rI a b).length<=a.length+b.length+1:=by
 unfold rI;by_cases h:a.length<b.length
 .rw[AB h];obtain⟨h1,h2,h3⟩:=bIk hb ha (by omega);exact⟨by omega,h2,by omega⟩
 .rw[Ap h];obtain⟨h1,h2,h3⟩:=bIk ha hb (by omega);exact⟨h1,h2,by omega⟩
def bSd[M:Mch Ab](a b:Ad Ae)(ha:Lim a)(hb:Lim b)(hla:a.length<=274877906944)(hlb:b.length<=274877906944):Spec Ab 156 [aZ a,aZ b] (aZ (rI a b)):=by
 refine bU (N:=57) Tryz.func156 ?_;obtain⟨p,q,lp,lq,hqp,hpl,hr,hc⟩:∃p q:Ad Ae,Lim p/\Lim q/\q.length<=p.length/\p.length<=274877906944/\rI a b=ip p q/\((a.length<b.length/\p=b/\q=a)\/(¬a.length<b.length/\p=a/\q=b)):=by
  by_cases h:a.length<b.length
  .exact⟨b,a,hb,ha,by omega,hlb,by simp[rI,h],.inl ⟨h,rfl,rfl⟩⟩
  .exact⟨a,b,ha,hb,by omega,hla,by simp[rI,h],.inr ⟨h,rfl,rfl⟩⟩
 rw[hr];obtain⟨n,hn⟩:∃n,p.length+1=n:=⟨_,rfl⟩;have hw2:Ax.wrap ((p.length:Al)+1)=(n:Al):=by rw[bP];omega
 have hm1:(4:Al)*n<=281474976710656:=by omega
 have hm2:(n:Al)<=9223372036854775807:=by omega
 rcases hc with ⟨h,hp,hq⟩|⟨h,hp,hq⟩<;>subst hp<;>subst hq
 .have h1:(q.length:Al)<p.length:=by omega
  simp[-O,-U,↓KW,aZ,h1,hw2,hm1,hm2];refine eF (λi:Ae=>i<=p.length) (λi=>StL [(0,.d (aZ p)),(1,.d (aZ q)),(5,.own 1 0 n 1),(6,.d (.i .u64 (plS p q i).2)),(20,.d (.i .i64 p.length)),(21,.d (.i .i64 i))] Aj [.cells 26 ((lms (zp (plS p q i).1 n)).map .d)]) (λi=>p.length-i) 0 (BH _) ?_ ?_
  .refine wkQ [1] ?_ ?_<;>simp[-O,upd,bH,Γ0,aZ,plS,aPv]
  .intro i hi;obtain⟨hlen,hc,_,_⟩:=aAf lp lq i;have hsucc:plS p q (i+1)=((plS p q i).1++[((plS p q i).2+p.getD i 0+q.getD i 0)%4294967296],((plS p q i).2+p.getD i 0+q.getD i 0)/4294967296):=rfl;have hal:=lp.getD i;have hbl:=lq.getD i;have hres:i=p.length->(plS p q i).1++[(plS p q i).2]=ip p q:=λe=>by rw[e];rfl
   generalize hout:(plS p q i).1=out at *;generalize hcar:(plS p q i).2=c at *;have hzl:(zp out n).length=n:=aHv (by omega);by_cases hgo:i<p.length
   .have hw7:Ax.wrap ((i:Al)+1)=(i:Al)+1:=bP;have q1:(i:Al)<p.length:=by omega
    have q3:(i:Al)<n:=by omega
    have q4:i+1<=n:=by omega
    have g1:=getD_some hgo;have hb0:¬i<q.length->q.getD i 0=0:=getD_none;have g2:i<q.length->q[i]? = Aa (q.getD i 0):=getD_some;generalize p.getD i 0=x at *;generalize q.getD i 0=y at *;obtain⟨s1,hs1⟩:∃s1:Ae,c+x=s1:=⟨_,rfl⟩;obtain⟨s2,hs2⟩:∃s2:Ae,s1+y=s2:=⟨_,rfl⟩;rw[hs1,hs2]at hsucc;have hwx:Bh.wrap (x:Al)=x:=wrap_u64 (by omega) (by omega);have hwy:Bh.wrap (y:Al)=y:=wrap_u64 (by omega) (by omega);have hw1:Bh.wrap ((c:Al)+x)=s1:=by rw[wrap_u64 (by omega) (by omega)];omega
    have hw2':Bh.wrap ((s1:Al)+y)=s2:=by rw[wrap_u64 (by omega) (by omega)];omega
    obtain⟨lo,hlo⟩:∃lo:Ae,s2%4294967296=lo:=⟨_,rfl⟩;have hsh:=aFt (t:=s2);obtain⟨hi',hhi⟩:∃hi':Ae,s2/4294967296=hi':=⟨_,rfl⟩;rw[hhi]at hsh;have hw3:Cs.wrap (s2:Al)=lo:=by rw[kE];omega
    rw[hlo,hhi]at hsucc;have hlay:=aAu hlen (show i<n by omega) lo;by_cases hbn:i<q.length
    .have q2:(i:Al)<q.length:=by omega
     have g3:=g2 hbn;simp[-O,-U,↓KW,aZ,q1,q2,q3,q4,g1,g3,hwx,hwy,hw1,hw2',hw3,hsh,hlay,hw7,hzl];refine bD (i+1) hgo ?_ (wkQ [1] ?_ ?_)
     .omega
     .simp[-O,upd,bH,Γ0,aZ,hsucc]
     .simp[-O,upd,bH,Γ0,aZ,hsucc]
    .have q2:¬(i:Al)<q.length:=by omega
     have e2:s2=s1:=by have:=hb0 hbn;omega
     rw[e2]at hw3 hsh;simp[-O,-U,↓KW,aZ,q1,q2,q3,q4,g1,hwx,hw1,hw3,hsh,hlay,hw7,hzl];refine bD (i+1) hgo ?_ (wkQ [1] ?_ ?_)
     .omega
     .simp[-O,upd,bH,Γ0,aZ,hsucc]
     .simp[-O,upd,bH,Γ0,aZ,hsucc]
   .have e:i=p.length:=by omega
    have h1:¬(i:Al)<p.length:=by omega
    have h4:=hres e;have hn':(p.length:Al)<n:=by omega
    have hn2:p.length+1<=n:=by omega
    have hw3:Cs.wrap (c:Al)=c:=wrap_u32 (by omega) (by omega);have hlay:=aAu (hlen.trans e) (show p.length<n by omega) c;have hfl:(out++[c]).length=n:=by simp;omega
    have h5:zp (out++[c]) n=out++[c]:=aHw hfl;rw[h5,h4]at hlay;rw[h4]at hfl;simp[-O,-U,↓KW,aZ,h1,hn',hn2,hw3,hlay,hzl,hfl,kN hfl,jQ hfl]
 .have h1:¬(p.length:Al)<q.length:=by omega
  simp[-O,-U,↓KW,aZ,h1,hw2,hm1,hm2];refine eF (λi:Ae=>i<=p.length) (λi=>StL [(0,.d (aZ p)),(1,.d (aZ q)),(5,.own 1 0 n 1),(6,.d (.i .u64 (plS p q i).2)),(20,.d (.i .i64 p.length)),(21,.d (.i .i64 i))] Aj [.cells 26 ((lms (zp (plS p q i).1 n)).map .d)]) (λi=>p.length-i) 0 (BH _) ?_ ?_
  .refine wkQ [1] ?_ ?_<;>simp[-O,upd,bH,Γ0,aZ,plS,aPv]
  .intro i hi;obtain⟨hlen,hc,_,_⟩:=aAf lp lq i;have hsucc:plS p q (i+1)=((plS p q i).1++[((plS p q i).2+p.getD i 0+q.getD i 0)%4294967296],((plS p q i).2+p.getD i 0+q.getD i 0)/4294967296):=rfl;have hal:=lp.getD i;have hbl:=lq.getD i;have hres:i=p.length->(plS p q i).1++[(plS p q i).2]=ip p q:=λe=>by rw[e];rfl
   generalize hout:(plS p q i).1=out at *;generalize hcar:(plS p q i).2=c at *;have hzl:(zp out n).length=n:=aHv (by omega);by_cases hgo:i<p.length
   .have hw7:Ax.wrap ((i:Al)+1)=(i:Al)+1:=bP;have q1:(i:Al)<p.length:=by omega
    have q3:(i:Al)<n:=by omega
    have q4:i+1<=n:=by omega
    have g1:=getD_some hgo;have hb0:¬i<q.length->q.getD i 0=0:=getD_none;have g2:i<q.length->q[i]? = Aa (q.getD i 0):=getD_some;generalize p.getD i 0=x at *;generalize q.getD i 0=y at *;obtain⟨s1,hs1⟩:∃s1:Ae,c+x=s1:=⟨_,rfl⟩;obtain⟨s2,hs2⟩:∃s2:Ae,s1+y=s2:=⟨_,rfl⟩;rw[hs1,hs2]at hsucc;have hwx:Bh.wrap (x:Al)=x:=wrap_u64 (by omega) (by omega);have hwy:Bh.wrap (y:Al)=y:=wrap_u64 (by omega) (by omega);have hw1:Bh.wrap ((c:Al)+x)=s1:=by rw[wrap_u64 (by omega) (by omega)];omega
    have hw2':Bh.wrap ((s1:Al)+y)=s2:=by rw[wrap_u64 (by omega) (by omega)];omega
    obtain⟨lo,hlo⟩:∃lo:Ae,s2%4294967296=lo:=⟨_,rfl⟩;have hsh:=aFt (t:=s2);obtain⟨hi',hhi⟩:∃hi':Ae,s2/4294967296=hi':=⟨_,rfl⟩;rw[hhi]at hsh;have hw3:Cs.wrap (s2:Al)=lo:=by rw[kE];omega
    rw[hlo,hhi]at hsucc;have hlay:=aAu hlen (show i<n by omega) lo;by_cases hbn:i<q.length
    .have q2:(i:Al)<q.length:=by omega
     have g3:=g2 hbn;simp[-O,-U,↓KW,aZ,q1,q2,q3,q4,g1,g3,hwx,hwy,hw1,hw2',hw3,hsh,hlay,hw7,hzl];refine bD (i+1) hgo ?_ (wkQ [1] ?_ ?_)
     .omega
     .simp[-O,upd,bH,Γ0,aZ,hsucc]
     .simp[-O,upd,bH,Γ0,aZ,hsucc]
    .have q2:¬(i:Al)<q.length:=by omega
     have e2:s2=s1:=by have:=hb0 hbn;omega
     rw[e2]at hw3 hsh;simp[-O,-U,↓KW,aZ,q1,q2,q3,q4,g1,hwx,hw1,hw3,hsh,hlay,hw7,hzl];refine bD (i+1) hgo ?_ (wkQ [1] ?_ ?_)
     .omega
     .simp[-O,upd,bH,Γ0,aZ,hsucc]
     .simp[-O,upd,bH,Γ0,aZ,hsucc]
   .have e:i=p.length:=by omega
    have h1:¬(i:Al)<p.length:=by omega
    have h4:=hres e;have hn':(p.length:Al)<n:=by omega
    have hn2:p.length+1<=n:=by omega
    have hw3:Cs.wrap (c:Al)=c:=wrap_u32 (by omega) (by omega);have hlay:=aAu (hlen.trans e) (show p.length<n by omega) c;have hfl:(out++[c]).length=n:=by simp;omega
    have h5:zp (out++[c]) n=out++[c]:=aHw hfl;rw[h5,h4]at hlay;rw[h4]at hfl;simp[-O,-U,↓KW,aZ,h1,hn',hn2,hw3,hlay,hzl,hfl,kN hfl,jQ hfl]
def aNq[M:Mch Ab](a b:Ad Ae)(ha:Lim a)(hb:Lim b)(hla:a.length<=274877906944):Spec Ab 157 [aZ a,aZ b] (aZ (xT a b)):=by
 refine bU (N:=44) Tryz.func157 ?_;obtain⟨n,hn⟩:∃n,a.length=n:=⟨_,rfl⟩;have hm1:(4:Al)*n<=281474976710656:=by omega
 have hm2:(n:Al)<=9223372036854775807:=by omega
 simp[-O,-U,↓KW,aZ,hn,hm1,hm2];refine eF (λi:Ae=>i<=n) (λi=>StL [(0,.d (aZ a)),(1,.d (aZ b)),(5,.own 1 0 n 1),(6,.d (.i .u64 (miS a b i).2)),(13,.d (.i .i64 n)),(14,.d (.i .i64 i))] Aj [.cells 26 ((lms (zp (miS a b i).1 n)).map .d)]) (λi=>n-i) 0 (BH _) ?_ ?_
 .refine wkQ [1] ?_ ?_<;>simp[-O,upd,bH,Γ0,aZ,miS,aPv,hn]
 .intro i hi;obtain⟨hlen,hc,_,_⟩:=aVx ha hb i;have hsucc:=aNd a b i;have hal:=ha.getD i;have hbl:=hb.getD i;have hres:i=n->(miS a b i).1=xT a b:=λe=>by rw[e,<-hn];rfl
  generalize hout:(miS a b i).1=out at *;generalize hcar:(miS a b i).2=c at *;have hzl:(zp out n).length=n:=aHv (by omega);by_cases hgo:i<n
  .have hw7:Ax.wrap ((i:Al)+1)=(i:Al)+1:=bP;have q1:(i:Al)<n:=by omega
   have q4:i+1<=n:=hgo;have g1:=getD_some (l:=a) (i:=i) (by omega);have hb0:¬i<b.length->b.getD i 0=0:=getD_none;have g2:i<b.length->b[i]? = Aa (b.getD i 0):=getD_some;generalize a.getD i 0=x at *;generalize b.getD i 0=y at *;have hwx:Bh.wrap (x:Al)=x:=wrap_u64 (by omega) (by omega);have hwy:Bh.wrap (y:Al)=y:=wrap_u64 (by omega) (by omega);obtain⟨d1,hd1⟩:∃d1:Al,Bh.wrap ((x:Al)-c)=d1:=⟨_,rfl⟩;obtain⟨d,hd⟩:∃d:Al,Bh.wrap (d1-y)=d:=⟨_,rfl⟩;have hd1':=hd1;have hd':=hd;rw[xE]at hd1' hd';have hfin:∃(lo bw:Ae),miS a b (i+1)=(out++[lo],bw)/\Cs.wrap d=lo/\cY .shr .u64 d 63=Aa (.i .u64 (bw:Al)):=by
    by_cases hle:c+y<=x
    .rw[AB hle]at hsucc;refine⟨_,_,hsucc,?_,?_⟩
     .rw[kE];omega
     .rw[bVj (by omega)];congr 2;omega
    .rw[Ap hle]at hsucc;refine⟨_,_,hsucc,?_,?_⟩
     .rw[kE];omega
     .rw[bVj (by omega)];congr 2;omega
   obtain⟨lo,bw,hs,hlo,hbw⟩:=hfin;have hlay:=aAu hlen hgo lo;by_cases hbn:i<b.length
   .have q2:(i:Al)<b.length:=by omega
    have g3:=g2 hbn;simp[-O,-U,↓KW,aZ,q1,q2,g1,g3,hwx,hwy,hd1,hd,hlo,hbw,hlay,hw7,hzl,q4];refine bD (i+1) hgo ?_ (wkQ [1] ?_ ?_)
    .omega
    .simp[-O,upd,bH,Γ0,aZ,hs]
    .simp[-O,upd,bH,Γ0,aZ,hs]
   .have q2:¬(i:Al)<b.length:=by omega
    have e1:d1=d:=by have:=hb0 hbn;omega
    rw[e1]at hd1;simp[-O,-U,↓KW,aZ,q1,q2,g1,hwx,hd1,hlo,hbw,hlay,hw7,hzl,q4];refine bD (i+1) hgo ?_ (wkQ [1] ?_ ?_)
    .omega
    .simp[-O,upd,bH,Γ0,aZ,hs]
    .simp[-O,upd,bH,Γ0,aZ,hs]
  .have e:i=n:=by omega
   have h1:¬(i:Al)<n:=by omega
   have h4:=hres e;have h5:zp out n=out:=aHw (by omega);have hlen':out.length=n:=by omega
   simp[-O,-U,↓KW,aZ,h1,h5,hlen',kN hlen',jQ hlen',<-h4]
def bXc(l:Ad Ae)(j:Ae):4294967296^j*l.getD j 0<=val l:=by
 have h:=dL l j;have e:val l=val (l.take (j+1))+4294967296^(l.take (j+1)).length*val (l.drop (j+1)):=by rw[<-nC,List.take_append_drop]
 have h2:val (l.take (j+1))<=val l:=by rw[e];exact Nat.le_add_right _ _
 rw[h]at h2;exact Bg (Nat.le_add_left _ _) h2
def zT{l:Ad Ae}{j:Ae}(h:val l<4294967296^j):l.getD j 0=0:=by
 have h1:=bXc l j;rcases BB (l.getD j 0)with h2|h2
 .exact h2
 .exfalso;have:4294967296^j*1<=4294967296^j*l.getD j 0:=DC _ h2;rw[Eb]at this;omega
def aZt{out b:Ad Ae}{x i:Ae}(k j:Ae)(h:i+k<=j):(muI out x b i k).1.getD j 0=out.getD j 0:=by
 induction k with
 |zero=>rfl
 | succ k ih =>
  have:=ih (by omega);rw[<-this];simp only[muI,Ah];rw[Fv (by omega)]
def tmO(a b:Ad Ae):Ae->Ad Ae
 |0=>AO (a.length+b.length) 0
 |i+1=>(muI (tmO a b i) (a.getD i 0) b i b.length).1.set (i+b.length) (muI (tmO a b i) (a.getD i 0) b i b.length).2
def aUw{a b:Ad Ae}(ha:Lim a)(hb:Lim b)(i:Ae)(hi:i<=a.length):(tmO a b i).length=a.length+b.length/\Lim (tmO a b i)/\val (tmO a b i)=val (a.take i)*val b:=by
 induction i with
 |zero=>exact⟨by simp[tmO],.rep _,by simp[tmO,bOd,val]⟩
 | succ i ih =>
  obtain⟨h1,h2,h3⟩:=ih (by omega);have hv:=bYt ha hb (i:=i) (by omega);rw[<-h3]at hv;have hx:=ha.getD i;obtain⟨q1,q2,q3,q4⟩:=aVu (x:=a.getD i 0) (i:=i) h2 hb hx (by omega) b.length (by omega);have habove:=aZt (out:=tmO a b i) (b:=b) (x:=a.getD i 0) (i:=i) b.length (i+b.length) (AM _);rw[zT hv]at habove;rw[A4 (AM _)]at q4;have hset:=aUv (l:=(muI (tmO a b i) (a.getD i 0) b i b.length).1) (j:=i+b.length) (by omega) (muI (tmO a b i) (a.getD i 0) b i b.length).2;rw[habove,EJ,CU,q4]at hset;refine⟨?_,q3.set _ q2,?_⟩
  .show(List.set _ _ _).length=_;rw[CO,q1,h1]
  .show val (List.set _ _ _)=_;rw[hset,h3,dL,Nat.add_mul,C7]
def aBe(a b:Ad Ae):Ad Ae:=tmO a b a.length
def aQg{a b:Ad Ae}(ha:Lim a)(hb:Lim b):val (aBe a b)=val a*val b/\Lim (aBe a b)/\(aBe a b).length=a.length+b.length:=by obtain⟨h1,h2,h3⟩:=aUw ha hb a.length (AM _);rw[A4 (AM _)]at h3;exact⟨h3,h2,h1⟩
def bIn[M:Mch Ab](a b:Ad Ae)(la:Lim a)(lb:Lim b)(hla:a.length<=137438953472)(hlb:b.length<=137438953472):Spec Ab 217 [aZ a,aZ b] (aZ (aBe a b)):=by
 refine bU (N:=66) Tryz.func217 ?_;obtain⟨n,hn⟩:∃n,a.length+b.length=n:=⟨_,rfl⟩;have hw1:Ax.wrap ((a.length:Al)+b.length)=(n:Al):=by rw[bP];omega
 have hm1:(4:Al)*n<=281474976710656:=by omega
 have hm2:(n:Al)<=9223372036854775807:=by omega
 have h00:tmO a b 0=AO n 0:=by rw[<-hn];rfl
 simp[-O,-U,↓KW,aZ,hw1,hm1,hm2];refine eF (λi:Ae=>i<=a.length)
  (λi=>StL [(0,.d (aZ a)),(1,.d (aZ b)),(5,.own 1 0 n 1),(17,.d (aZ a)),(18,.d (.i .i64 a.length)),(19,.d (.i .i64 i))] Aj [.cells 26 ((lms (tmO a b i)).map .d)]) (λi=>a.length-i) 0 (BH _) ?_ ?_
 .refine wkQ [1] ?_ ?_<;>simp[-O,upd,bH,Γ0,aZ,h00]
 .intro i hi;obtain⟨ol,om,ov⟩:=aUw la lb i hi;rw[hn]at ol;by_cases hgo:i<a.length
  .have q1:(i:Al)<a.length:=by omega
   have g1:=getD_some hgo;have hsucc:tmO a b (i+1)=(muI (tmO a b i) (a.getD i 0) b i b.length).1.set (i+b.length) (muI (tmO a b i) (a.getD i 0) b i b.length).2:=rfl;have hal:=la.getD i;generalize hout:tmO a b i=out at *;generalize a.getD i 0=xv at *;simp[-O,-U,↓KW,aZ,q1,g1];have hwx:Bh.wrap (xv:Al)=xv:=wrap_u64 (by omega) (by omega);refine eF (λk:Ae=>k<=b.length)
    (λk=>StL [(0,.d (aZ a)),(1,.d (aZ b)),(5,.own 1 0 n 1),(17,.d (aZ a)),(18,.d (.i .i64 a.length)),(19,.d (.i .i64 i)),(6,.d (.i .i64 i)),(7,.d (.i .u32 xv)),(8,.d (.i .u64 (muI out xv b i k).2)),(24,.d (aZ b)),(25,.d (.i .i64 b.length)),(26,.d (.i .i64 k))] Aj
     [.cells 26 ((lms (muI out xv b i k).1).map .d)]) (λk=>b.length-k) 0 (BH _) ?_ ?_
   .refine wkQ [1] ?_ ?_<;>simp[-O,upd,bH,Γ0,aZ,muI]
   .intro k hk;obtain⟨il,ic,im,_⟩:=aVu om lb hal (i:=i) (by omega) k (by omega);have isucc:muI out xv b i (k+1)=((muI out xv b i k).1.set (i+k) (((muI out xv b i k).2+(muI out xv b i k).1.getD (i+k) 0+xv*b.getD k 0)%4294967296),((muI out xv b i k).2+(muI out xv b i k).1.getD (i+k) 0+xv*b.getD k 0)/4294967296):=rfl;have hres:k=b.length->tmO a b (i+1)=(muI out xv b i k).1.set (i+b.length) (muI out xv b i k).2:=λe=>by rw[e];exact hsucc
    clear hsucc;have ho:=im.getD (i+k);generalize hcar:(muI out xv b i k).2=c at *;generalize hcur:(muI out xv b i k).1=cur at *;have hgj:List.length cur=n:=by omega
    by_cases hkb:k<b.length
    .obtain⟨j,hj⟩:∃j,i+k=j:=⟨_,rfl⟩;rw[hj]at isucc ho;have hjl:j<cur.length:=by omega
     have g2:=bRt (getD_some hjl);have hwj:Ax.wrap ((i:Al)+k)=j:=by rw[bP];omega
     have hjn:(j:Al)<n:=by omega
     have hw8:Ax.wrap ((k:Al)+1)=(k:Al)+1:=bP;have hjl2:j<(lms cur).length:=by rw[pN];exact hjl
     have hjl3:j+1<=n:=by omega
     have hyb:=lb.getD k;have hlim:=bHg ic ho hal hyb;have g4:=getD_some hkb;have q2:(k:Al)<b.length:=by omega
     generalize cur.getD j 0=o at *;generalize b.getD k 0=yv at *;obtain⟨e,he⟩:∃e:Ae,xv*yv=e:=⟨_,rfl⟩;rw[he]at isucc hlim;obtain⟨s1,hs1⟩:∃s1:Ae,e+o=s1:=⟨_,rfl⟩;obtain⟨t,ht⟩:∃t:Ae,c+o+e=t:=⟨_,rfl⟩;rw[ht]at isucc hlim;obtain⟨lo,hlo⟩:∃lo:Ae,t%4294967296=lo:=⟨_,rfl⟩;have hsh:=aFt (t:=t);obtain⟨hi',hhi⟩:∃hi':Ae,t/4294967296=hi':=⟨_,rfl⟩;rw[hlo,hhi]at isucc;rw[hhi]at hsh;have hwo:Bh.wrap (o:Al)=o:=wrap_u64 (by omega) (by omega);have hwy:Bh.wrap (yv:Al)=yv:=wrap_u64 (by omega) (by omega);have hwm:Bh.wrap ((xv:Al)*yv)=e:=by rw[<-Di,he,wrap_u64 (by omega) (by omega)]
     have hws:Bh.wrap ((e:Al)+o)=s1:=by rw[wrap_u64 (by omega) (by omega)];omega
     have hwt:Bh.wrap ((c:Al)+s1)=t:=by rw[wrap_u64 (by omega) (by omega)];omega
     have hwlo:Cs.wrap (t:Al)=lo:=by rw[kE];omega
     have hlay:lay (DX AV.d (lms cur)) j [AV.d (D.i .u32 (lo:Al))]=DX AV.d (lms (cur.set j lo)):=by rw[iU _ _ _ hjl2,aJj]
     simp[-O,-U,↓KW,aZ,q2,hwj,hjn,g2,hwo,hws,g1,g4,hwx,hwy,hwm,hwt,hwlo,hsh,hlay,hw8,hjl3,hgj];refine bD (k+1) hkb ?_ (wkQ [1] ?_ ?_)
     .omega
     .simp[-O,upd,bH,Γ0,aZ,isucc]
     .simp[-O,upd,bH,Γ0,aZ,isucc]
    .have q2:¬(k:Al)<b.length:=by omega
     have hfin:=hres (by omega);have hw8:Ax.wrap ((i:Al)+1)=(i:Al)+1:=bP;obtain⟨j,hj⟩:∃j,i+b.length=j:=⟨_,rfl⟩;rw[hj]at hfin;have hwj:Ax.wrap ((i:Al)+b.length)=j:=by rw[bP];omega
     have hjn:(j:Al)<n:=by omega
     have hjl3:j+1<=n:=by omega
     have hjl2:j<(lms cur).length:=by rw[pN];omega
     have hwc:Cs.wrap (c:Al)=c:=wrap_u32 (by omega) (by omega);have hlay:lay (DX AV.d (lms cur)) j [AV.d (D.i .u32 (c:Al))]=DX AV.d (lms (cur.set j c)):=by rw[iU _ _ _ hjl2,aJj]
     simp[-O,-U,↓KW,aZ,q2,hw8,hwj,hjn,hjl3,hwc,hlay,hgj];refine bD (i+1) hgo ?_ (wkQ [1] ?_ ?_)
     .omega
     .simp[-O,upd,bH,Γ0,aZ,hfin]
     .simp[-O,upd,bH,Γ0,aZ,hfin]
  .have q1:¬(i:Al)<a.length:=by omega
   have e:i=a.length:=by omega
   have e':tmO a b i=aBe a b:=by rw[e];rfl
   rw[e']at ol;simp[-O,-U,↓KW,aZ,q1,e',ol,kN ol,jQ ol]
def aJl[M:Mch Ab](x y:Al)(hx:(bJ x.natAbs).length<=137438953472)(hy:(bJ y.natAbs).length<=137438953472):Spec Ab 114 [encZ x,encZ y] (encZ (x*y)):=by
 refine bU (N:=18) Tryz.func114 ?_;have la:=dH x.natAbs;have lb:=dH y.natAbs;have va:=fI x.natAbs;have vb:=fI y.natAbs;have ta:=iV (bJ x.natAbs) (by omega);have tb:=iV (bJ y.natAbs) (by omega);rw[gR la,va]at ta;rw[gR lb,vb]at tb;have sx:=sK x;have sy:=sK y;have ex:encZ x=.ag [.b (decide (x<0)),aZ (bJ x.natAbs)]:=rfl;have ey:encZ y=.ag [.b (decide (y<0)),aZ (bJ y.natAbs)]:=rfl;rw[ex,ey];generalize bJ x.natAbs=a at *;generalize bJ y.natAbs=b at *;generalize hbx:decide (x<0)=nx at *;generalize hby:decide (y<0)=ny at *;obtain⟨tv,tl,tn⟩:=aQg la lb;simp[-O,-U,↓KW,aZ];refine aL ta ?_;simp[-O,-U,↓KW,aZ];refine aL tb ?_;simp[-O,-U,↓KW,aZ];refine aL (bIn a b la lb hx hy) ?_;simp[-O,-U,↓KW,aZ];have hm:=jC tl (by omega) (!(nx==ny));rw[tv,va,vb]at hm;have e2:sg (!(nx==ny)) (x.natAbs*y.natAbs)=x*y:=by rw[<-sx,<-sy];cases nx<;>cases ny<;>simp[sg,Int.mul_neg,Int.neg_mul]
 rw[e2]at hm;refine aL hm ?_;simp[-O,-U,↓KW,aZ,encZ,encI]
def aAl[M:Mch Ab](x y:Al)(hx:(bJ x.natAbs).length<=137438953472)(hy:(bJ y.natAbs).length<=137438953472):Spec Ab 73 [encZ x,encZ y] (encZ (x+y)):=by
 refine bU (N:=42) Tryz.func73 ?_;have la:=dH x.natAbs;have lb:=dH y.natAbs;have va:=fI x.natAbs;have vb:=fI y.natAbs;have ta:=iV (bJ x.natAbs) (by omega);have tb:=iV (bJ y.natAbs) (by omega);rw[gR la,va]at ta;rw[gR lb,vb]at tb;have hless:(bJ x.natAbs).length<(bJ y.natAbs).length->x.natAbs<y.natAbs:=lP;have hless2:(bJ y.natAbs).length<(bJ x.natAbs).length->y.natAbs<x.natAbs:=lP;have hl:=uH _ _ la lb (by omega) (by omega);have hcmp:(x.natAbs<y.natAbs->jU (bJ x.natAbs) (bJ y.natAbs)<0)/\(¬x.natAbs<y.natAbs->¬jU (bJ x.natAbs) (bJ y.natAbs)<0):=by
  unfold jU;rw[fU,fU];constructor
  .intro h;rw[AB (by simpa using h)];decide
  .intro h;rw[Ap (by simpa using h)];split<;>decide
 have sx:=sK x;have sy:=sK y;have ex:encZ x=.ag [.b (decide (x<0)),aZ (bJ x.natAbs)]:=rfl;have ey:encZ y=.ag [.b (decide (y<0)),aZ (bJ y.natAbs)]:=rfl;rw[ex,ey];generalize bJ x.natAbs=a at *;generalize bJ y.natAbs=b at *;generalize hbx:decide (x<0)=nx at *;generalize hby:decide (y<0)=ny at *;simp[-O,-U,↓KW,aZ];refine aL ta ?_;simp[-O,-U,↓KW,aZ];refine aL tb ?_;by_cases hn:nx=ny
 .have h1:(nx==ny)=true:=by simpa using hn
  simp[-O,-U,↓KW,aZ,h1];obtain⟨pv,pl,pn⟩:=aSi la lb;refine aL (bSd a b la lb (by omega) (by omega)) ?_;simp[-O,-U,↓KW,aZ];have hm:=jC pl (by omega) nx;rw[pv,va,vb]at hm;have e:sg nx (x.natAbs+y.natAbs)=x+y:=by rw[<-sx,<-sy,<-hn];cases nx<;>simp[sg]<;>omega
  rw[e]at hm;refine aL hm ?_;simp[-O,-U,↓KW,aZ,encZ,encI]
 .have h1:(nx==ny)=false:=by simpa using hn
  simp[-O,-U,↓KW,aZ,h1];refine aL hl ?_;by_cases hlt:x.natAbs<y.natAbs
  .have h2:=hcmp.1 hlt;simp[-O,-U,↓KW,aZ,h2];obtain⟨pv,pl,pn⟩:=aCl lb la (by omega) (by omega);refine aL (aNq b a lb la (by omega)) ?_;simp[-O,-U,↓KW,aZ];have hm:=jC pl (by omega) ny;rw[pv,va,vb]at hm;have e:sg ny (y.natAbs-x.natAbs)=x+y:=by rw[<-sx,<-sy];cases nx<;>cases ny<;>simp[sg]at hn ⊢<;>omega
   rw[e]at hm;refine aL hm ?_;simp[-O,-U,↓KW,aZ,encZ,encI]
  .have h2:=hcmp.2 hlt;simp[-O,-U,↓KW,aZ,h2];obtain⟨pv,pl,pn⟩:=aCl la lb (by omega) (by omega);refine aL (aNq a b la lb (by omega)) ?_;simp[-O,-U,↓KW,aZ];have hm:=jC pl (by omega) nx;rw[pv,va,vb]at hm;have e:sg nx (x.natAbs-y.natAbs)=x+y:=by rw[<-sx,<-sy];cases nx<;>cases ny<;>simp[sg]at hn ⊢<;>omega
   rw[e]at hm;refine aL hm ?_;simp[-O,-U,↓KW,aZ,encZ,encI]
def mG(m:Ad Ae):one (.d (aZ m))=true:=rfl
def iB(m:Ad Ae):eC (.d (aZ m))=Aa [.d (aZ m)]:=rfl
def xX(m:Ad Ae):bH (aZ m)=.d (aZ m):=rfl
def bY{n:Ae}(h:n<=1099511627776):n<=maxLen:=Bg h (by decide)
def Sz(z:Al):Prop:=(bJ z.natAbs).length<=137438953472
def aCy(m:Ad Ae):inj (aZ m)=.d (aZ m):=rfl
def aCt(H:Hp)(avs:Ad AV)(m:Ad Ae):bM H avs (aZ m)=bW H avs:=rfl
def bE:type_of% (A6 @iB (A6 @mG (A6 @xX (A6 @aCy @aCt)))):=A6 @iB (A6 @mG (A6 @xX (A6 @aCy @aCt)))
def cX(z:Al):encZ z=.ag [.b (decide (z<0)),aZ (bJ z.natAbs)]:=rfl
def aBj(z:Al):strip (bJ z.natAbs)=[]↔z=0:=by rw[gR (dH _),fI,lE];omega
def wA[M:Mch Ab](z:Al)(hz:Sz z):Spec Ab 57 [encZ z] (.i .i64 z.sign):=by
 have:=aWf (decide (z<0)) (bJ z.natAbs) (Bg hz (by decide));have e:(if strip (bJ z.natAbs)=[]then(0:Al)else if(decide (z<0))=Ak then -1 else 1)=z.sign:=by
  simp only[aBj];rcases GX z 0 with h|h|h
  .rw[Ap (by omega),AB (by simpa using h),Fw h]
  .subst h;rfl
  .rw[Ap (by omega),Ap (by simp;omega),Fa h]
 rwa [e]at this
open Go.ChangeShapes Go.WideShapes Go.ChangeAt Go.RowKit
def bLc{w:Ag}{a:Addr}{v:AE}(h:w.cell? a=Aa v):a.block<w.heap.size:=by
 unfold BN at h;cases hb:w.heap[a.block]? with
 |none=>rw[hb]at h;cases h
 |some o=>exact(Bm.1 hb).1
def bHu{α:Type}{Q:Ae->α->Prop}:∀{n:Ae},(∀i,i<n->∃y,Q i y)->∃l:Ad α,l.length=n/\∀(i:Ae) (y:α),l[i]? = Aa y->Q i y
 |0,_=>⟨[],rfl,λi y h=>by simp at h⟩
 | n+1,h=>by
  obtain⟨l,hl,hq⟩:=bHu (n:=n) λi hi=>h i (Nat.lt_succ_of_lt hi)
  obtain⟨y,hy⟩:=h n (CM n);refine⟨l++[y],by simp[hl],λi z hz=>?_⟩;rcases Bc i l.length with h1|h1
  .rw[Bb h1]at hz;exact hq i z hz
  .rw[AZ h1]at hz;have h2:i-l.length=0:=by
    rcases BB (i-l.length)with h3|h3
    .exact h3
    .rw[Bn (by simp;omega)]at hz;cases hz
   rw[h2]at hz;simp at hz;subst hz;rwa [show i=n by omega]
def bBi{w:Ag}{n:Ae}{a:Addr}{cs:Ad AE}(h:w.cells? 0 a n=Aa cs):∀k,k<n->w.cell? (a.add k)=cs[k]? := by intro k hk;unfold World.cells? at h;rw[AB (BH _)]at h;have:=mapM_some_get h k k (by simp[hk]);exact this
def aZk{α:Type}{P:As}{H:Type}{enc:AF×AE->H}{w:Ag}{sp:Ae->Bw}{held:Bw}{t e:AF}{cs:Ad AE}{x:DataW H×Ad MemPlace}{fuel:Ae}(ht:P.underlying t=Aa (.slice e))(hc:0<P.cellsOf e)(E:α->Ad D)(good:α->Prop)
 (hE:∀(fuel:Ae) (cs:Ad AE) (x:DataW H×Ad MemPlace),DataW.trod enc P w 0 sp held fuel e cs=Aa x->∃y:α,good y/\(E y).length=P.cellsOf e/\∀(k:Ae) (c:D) (v:AE),(E y)[k]? = Aa c->cs[k]? = Aa v->VD (λb=>b<w.heap.size) w c v)
 (hf:DataW.trod enc P w 0 sp held fuel t cs=Aa x):∃(v:AE) (l:Ad α),cs=[v]/\VD (λb=>b<w.heap.size) w (.sl (l.map E)) v/\(∀y∈l,good y)/\l.length<=9223372036854775807:=by
 rcases DataW.trod_slice ht hf with ⟨hcs,_⟩|⟨a,len,cap,elems,rest,n,_,hcs,_,_,hlc,hcm,hel,hEl,_⟩
 .exact⟨_,[],hcs,.sl0 _ _,(λp hp=>by cases hp),BH _⟩
 .have each:∀i,i<len->∃y:α,good y/\(E y).length=P.cellsOf e/\∀(k:Ae),k<P.cellsOf e->∃v,w.cell? (a.add (i*P.cellsOf e+k))=Aa v/\∀c:D,(E y)[k]? = Aa c->VD (λb=>b<w.heap.size) w c v:=by
   intro i hi;have h1:=hEl i hi;rw[Ac (by omega)]at h1;obtain⟨vs,h2,h3⟩:=Af.1 h1;obtain⟨y,g,hy,hv⟩:=hE _ _ _ h3;refine⟨y,g,hy,λk hk=>?_⟩;have h4:=bBi h2 k hk;rw[add_add]at h4;have h5:k<vs.length:=by unfold World.cells? at h2;rw[AB (BH _)]at h2;have:=mapM_some_length h2;simp at this;omega
   rw[Ac h5]at h4;exact⟨_,h4,λc hc=>hv k c _ hc (Ac h5)⟩
  obtain⟨l,hl,hq⟩:=bHu each
  have hgood:∀y∈l,good y:=λy hy=>by obtain⟨i,hi,rfl⟩:=BE.1 hy;exact(hq i _ (Ac hi)).1
  refine⟨_,l,hcs,?_,hgood,by rw[hl];exact Bg hlc hcm⟩
  rcases BB len with h0|hpos
  .have:l=[]:=BI (by omega)
   subst this;subst h0;exact .sl0 _ _
  .have hab:a.block<w.heap.size:=by obtain⟨y,_,_,hy⟩:=each 0 hpos;obtain⟨v,hv,_⟩:=hy 0 hc;have:=bLc hv;rwa [block_add]at this
   refine .sl _ a len cap (P.cellsOf e) (λj=>(w.cell? (a.add j)).getD undef) (by simp[hl]) hlc (λcs hcs=>?_) hab (λj hj=>?_) (λj k cs c hj hk=>?_)
   .obtain⟨y,hy,rfl⟩:=AY.1 hcs
    obtain⟨i,hi,rfl⟩:=BE.1 hy
    exact(hq i _ (Ac hi)).2.1
   .have hd:j/P.cellsOf e<len:=Nat.div_lt_of_lt_mul (by rwa [Da]at hj)
    obtain⟨y,_,_,hy⟩:=each _ hd
    obtain⟨v,hv,_⟩:=hy (j%P.cellsOf e) (B9 _ hc)
    rw[Da,GA]at hv
    simp[hv]
   .rw[Ao,Ai]at hj
    obtain⟨y,hy,rfl⟩:=hj
    obtain⟨_,h6,h7⟩:=hq j y hy
    obtain⟨v,hv,hvc⟩:=h7 k (by rw[<-h6];exact(AA.1 hk).1)
    simp only[hv,AQ]
    exact hvc c hk
end Go.Am
end
section
open Go Go.Am Go.Proofs
namespace Go.Am
def bDd{n:Al}(h:(Lit.int .u8 n).wf=Ak):0<=n/\n<=255:=by have h1:IntKind.u8.min=0:=rfl;have h2:IntKind.u8.max=255:=rfl;simp only[Lit.wf,A5,Bz]at h;omega
def cGk:ownKnob Ab.godebug=none:=by kernel_rfl
def aWd:laidOutB Ab=true:=by kernel_rfl
def dnL(n m:Ae):Ad (Ad D):=(AW (n-m)).map λk=>[.i .u64 ((n-1-k:Ae):Al)]
def tD(n m:Ae):(dnL n m).length=n-m:=by simp[dnL]
def aSz{n m k:Ae}(h:k<n-m):(dnL n m)[k]? = Aa [.i .u64 ((n-1-k:Ae):Al)]:=by simp[dnL,h]
def bTt[M:Mch Ab](n m:Ae)(h:m<n)(hn:n<=2147483648):nP Ab 345 [.pt [.i .u64 n]] (dnL n m):=by
 refine bEq (N:=15) aT Tryz.func345 rfl rfl rfl (by kernel_rfl) (by kernel_rfl) (by simp) λl=>?_
 refine tI (by kernel_rfl) ?_;simp[-O,-U,↓KW,↓aF,↓aA,↓aG,↓aH];have hmin:(if(2147483648:Al)<(n:Al)then(2147483648:Al)else(n:Al))=n:=by rw[Ap (by omega)]
 rw[hmin];refine pY ?_;refine aHl (τ:=Ae) (by kernel_rfl) (λk=>k<n-m) (λk=>StL [(0,.d (.lit (.func (.yield l) #[] #[]))),(3,.d (.i .u64 ((n-k:Ae):Al)))] Aj []) (λk=>k) (λk=>n-k) 0 (by omega) rfl ?_ ?_
 .refine wkQ [] ?_ ?_
  .simp[-O,upd,bH,Γ0]
  .simp[-O,upd,bH,Γ0]
 .intro k hk;have h1:0<n-k:=by omega
  have h2:Bh.wrap (((n-k:Ae):Al)-1)=((n-1-k:Ae):Al):=by rw[show(((n-k:Ae):Al)-1)=((n-1-k:Ae):Al)from by omega];exact wrap_u64 (by omega) (by omega)
  refine tI (by kernel_rfl) ?_;simp[-O,-U,↓KW,↓aF,↓aA,↓aG,↓aH,h1];refine wT (P:=Ab) ?_;refine pY ?_;refine wT ?_;refine aDz (P:=Ab) (by kernel_rfl) rfl ?_;simp[-O,-U,↓KW,↓aF,↓aA,↓aG,↓aH,h1,h2];have hnk:n-k-1=n-1-k:=by omega
  refine aKu (dd:=[.i .u64 ((n-1-k:Ae):Al)]) (l2:=[]) (by rfl) (by rfl) (aSz hk) (by rfl) ?_;rw[tD];by_cases hl:k+1=n-m
  .have e1:decide (k+1≠n-m)=false:=by simp[hl]
   rw[e1];simp[-O,-U,↓KW,↓aF,↓aA,↓aG,↓aH,mW,fin];refine iZ _ (by kernel_rfl) ?_;simp[-O,-U,↓KW,↓aF,↓aA,↓aG,↓aH,tD,hl];exact⟨_,rfl⟩
  .have e1:decide (k+1≠n-m)=true:=by simp[hl]
   have e2:n-(k+1)=n-1-k:=by omega
   rw[e1];simp[-O,-U,↓KW,↓aF,↓aA,↓aG,↓aH,mW,fin];refine iZ _ (by kernel_rfl) ?_;simp[-O,-U,↓KW,↓aF,↓aA,↓aG,↓aH];refine iZ _ (by kernel_rfl) ?_;simp[-O,-U,↓KW,↓aF,↓aA,↓aG,↓aH,h2];refine⟨k+1,by omega,by show n-(k+1)<n-k;omega,rfl,wkQ [] ?_ ?_⟩<;>simp[-O,upd,bH,Γ0,e2]
def bKa[M:Mch Ab](n:Ae):Spec Ab 284 [.i .u64 n] (.fn 345 [.pt [.i .u64 n]]):=by refine bU (N:=4) Tryz.func284 ?_;simp[-O,-U,↓KW,↓aF,↓aA,↓aG,↓aH]
def bAn[M:Mch Ab](n m:Ae)(h:m<n)(hn:n<=2147483648)(hp:∀v:Ae,m<=v->v<n->Spec Ab 129 [.i .u64 v] (.b (decide (v=m)))) :
 Spec Ab 283 [.fn 345 [.pt [.i .u64 n]]] (.i .u64 m):=by
 refine qY (N:=9) aT Tryz.func283 rfl rfl rfl (by kernel_rfl) (by kernel_rfl) (by simp) ?_
 refine dD (by kernel_rfl) ?_
 simp[-O,-U,↓KW,↓aF,↓aA,↓aG,↓aH]
 refine aEa ?_
 refine dD (by kernel_rfl) ?_
 simp[-O,-U,↓KW,↓aF,↓aA,↓aG,↓aH]
 refine uN ?_
 refine rU (dnL n m) (λk=>StL [(2,.ptr 1 0)] Aj [.cells 46 [.d (.i .u64 (if k<n-m then 0 else m))]]) [3,5,6,7,8] .ret .ret (.inl rfl) (gf:=345) (caps:=[.pt [.i .u64 n]]) (by rfl) (by rfl) (by rfl) (bTt n m h hn) ?_ (by kernel_rfl) (by rw[tD];omega) ?_ ?_ ?_
 .rw[AB (by omega)]
  refine wkQ [1] ?_ ?_<;>simp[-O,upd,bH,Γ0]
 .intro k x hk hx
  rw[tD]at hk
  rw[aSz (by omega)]at hx
  injection hx with hx;subst hx
  refine⟨rfl,?_⟩
  have hP:=hp (n-1-k) (by omega) (by omega)
  rw[Cn (by omega)]at hP
  rw[AB (by omega),AB (by omega)]
  show AWP _ _ ⟨upd _ 5 (.d (.i .u64 ((n-1-k:Ae):Al))),_,_⟩ _
  simp[-O,-U,↓KW,↓aF,↓aA,↓aG,↓aH]
  refine aL hP ?_
  simp[-O,-U,↓KW,↓aF,↓aA,↓aG,↓aH]
  refine wkQ [1] ?_ ?_<;>simp[-O,upd,bH,Γ0]
 .intro k x hk hx
  rw[tD]at hk
  rw[aSz (by omega)]at hx
  injection hx with hx;subst hx
  refine⟨rfl,?_⟩
  have hP:=hp (n-1-k) (by omega) (by omega)
  have hm:n-1-k=m:=by omega
  rw[hm,CQ rfl]at hP
  rw[AB (by omega),Ap (by omega),hm]
  show AWP _ _ ⟨upd _ 5 (.d (.i .u64 (m:Al))),_,_⟩ _
  simp[-O,-U,↓KW,↓aF,↓aA,↓aG,↓aH]
  refine aL hP ?_
  simp[-O,-U,↓KW,↓aF,↓aA,↓aG,↓aH]
  refine wkQ [1] ?_ ?_<;>simp[-O,upd,bH,Γ0]
 .rw[tD,Ap (by omega)]
  simp[-O,-U,↓KW,↓aF,↓aA,↓aG,↓aH]
def aTu[M:Mch Ab](n m:Ae)(h:m<n)(hn:n<=2147483648)(hp:∀v:Ae,m<=v->v<n->Spec Ab 129 [.i .u64 v] (.b (decide (v=m)))) :
 Spec Ab 216 [.i .u64 n] (.i .u64 m):=by
 refine bU (N:=6) Tryz.func216 ?_
 simp[-O,-U,↓KW,↓aF,↓aA,↓aG,↓aH]
 refine aL (bKa n) ?_
 simp[-O,-U,↓KW,↓aF,↓aA,↓aG,↓aH]
 refine aL (bAn n m h hn hp) ?_
 simp[-O,-U,↓KW,↓aF,↓aA,↓aG,↓aH]
def jZ[M:Mch Ab]:Ae->Ad Ae->Prop
 |_,[]=>True
 |n,p::l=>0<p/\p<2147483648/\Spec Ab 216 [.i .u64 n] (.i .u64 p)/\jZ p l
def psL(ps:Ad Ae):Ad (Ad D):=ps.map λ(p:Ae)=>[.i .u64 (p:Al)]
def jZ.at[M:Mch Ab]:∀{n:Ae} {ps:Ad Ae} {k p q:Ae},jZ n ps->ps[k]? = Aa p->ps[k+1]? = Aa q->Spec Ab 216 [.i .u64 p] (.i .u64 q)
 |n,[],k,p,q,_,h,_=>by simp at h
 | n,x::l,0,p,q,hd,h,h2=>by
  simp only[Ca,AH]at h;subst h;simp only[BT]at h2;cases l with
  |nil=>simp at h2
  |cons y l=>simp only[Ca,AH]at h2;subst h2;exact hd.2.2.2.2.2.1
 |n,x::l,k+1,p,q,hd,h,h2=>jZ.at (k:=k) hd.2.2.2 (by simpa using h) (by simpa using h2)
def jZ.pos[M:Mch Ab]:∀{n:Ae} {ps:Ad Ae} {k p:Ae},jZ n ps->ps[k]? = Aa p->0<p/\p<2147483648
 |n,[],k,p,_,h=>by simp at h
 | n,x::l,0,p,hd,h=>by simp only[Ca,AH]at h;subst h;exact⟨hd.1,hd.2.1⟩
 |n,x::l,k+1,p,hd,h=>jZ.pos (k:=k) hd.2.2.2 (by simpa using h)
def aPc[M:Mch Ab](n p0:Ae)(ps:Ad Ae)(hd:jZ n (p0::ps)):nP Ab 215 [.pt [.i .u64 n]] (psL (p0::ps)):=by
 refine bEq (N:=14) aT Tryz.func215 rfl rfl rfl (by kernel_rfl) (by kernel_rfl) (by simp) λl=>?_
 refine tI (by kernel_rfl) ?_;simp[-O,-U,↓KW,↓aF,↓aA,↓aG,↓aH];refine aL hd.2.2.1 ?_;simp[-O,-U,↓KW,↓aF,↓aA,↓aG,↓aH];refine pY ?_;refine aHl (τ:=Ae×Ae) (by kernel_rfl) (λx=>(p0::ps)[x.1]? = Aa x.2) (λx=>StL [(0,.d (.lit (.func (.yield l) #[] #[]))),(3,.d (.i .u64 (x.2:Al)))] Aj []) (λx=>x.1) (λx=>(p0::ps).length-x.1) (0,p0) (by rfl) rfl ?_ ?_
 .refine wkQ [] ?_ ?_
  .simp[-O,upd,bH,Γ0]
  .simp[-O,upd,bH,Γ0]
 .rintro⟨k,p⟩ hk;simp only at hk ⊢;obtain⟨hp0,hp1⟩:=jZ.pos hd hk;have hlt:=(AA.1 hk).1;have hx:(psL (p0::ps))[k]? = Aa [.i .u64 (p:Al)]:=by unfold psL;rw[Ao,hk];rfl
  have hlen:(psL (p0::ps)).length=(p0::ps).length:=by simp[psL]
  generalize hL:(p0::ps)=L at *;refine tI (by kernel_rfl) ?_;simp[-O,-U,↓KW,↓aF,↓aA,↓aG,↓aH,hp0];refine wT (P:=Ab) ?_;refine pY ?_;refine wT ?_;refine aDz (P:=Ab) (by kernel_rfl) rfl ?_;simp[-O,-U,↓KW,↓aF,↓aA,↓aG,↓aH,hp0];refine aKu (dd:=[.i .u64 (p:Al)]) (l2:=[]) (by rfl) (by rfl) hx (by rfl) ?_;rw[hlen];by_cases hl:k+1=L.length
  .have e1:decide (k+1≠L.length)=false:=by simp[hl]
   rw[e1];simp[-O,-U,↓KW,↓aF,↓aA,↓aG,↓aH,mW,fin];refine iZ _ (by kernel_rfl) ?_;simp[-O,-U,↓KW,↓aF,↓aA,↓aG,↓aH,hlen,hl];exact⟨_,rfl⟩
  .have e1:decide (k+1≠L.length)=true:=by simp[hl]
   rw[e1];obtain⟨q,hq⟩:∃q,L[k+1]? = Aa q:=⟨_,Ac (by omega)⟩;have hB:=jZ.at hd hk hq;simp[-O,-U,↓KW,↓aF,↓aA,↓aG,↓aH,mW,fin];refine iZ _ (by kernel_rfl) ?_;simp[-O,-U,↓KW,↓aF,↓aA,↓aG,↓aH];refine iZ _ (by kernel_rfl) ?_;simp[-O,-U,↓KW,↓aF,↓aA,↓aG,↓aH];refine aL hB ?_;simp[-O,-U,↓KW,↓aF,↓aA,↓aG,↓aH];refine⟨(k+1,q),hq,by show L.length-(k+1)<L.length-k;omega,rfl,wkQ [] ?_ ?_⟩<;>simp[-O,upd,bH,Γ0]
def aHf[M:Mch Ab](n:Ae):Spec Ab 113 [.i .u64 n] (.fn 215 [.pt [.i .u64 n]]):=by refine bU (N:=4) Tryz.func113 ?_;simp[-O,-U,↓KW,↓aF,↓aA,↓aG,↓aH]
def kO{n:Ae}(h:n<=2147483648):(n+1)*8<=140737488355328/\n+1<=1099511627776/\(n+1+1)*8<=140737488355328/\n+1+1<=1099511627776:=by refine⟨by omega,by omega,by omega,by omega⟩
def cO(l:Ad Ae):D:=.sl (l.map λ(p:Ae)=>[.i .u64 (p:Al)])
def dU(l:Ad Ae):Ad D:=l.map λ(p:Ae)=>.i .u64 (p:Al)
def fC(l:Ad Ae):(dU l).length=l.length:=by simp[dU]
def kU(x:Ae)(a b:Ad Ae):dU (x::(a++b))=dU (x::a)++dU b:=by simp[dU]
def nZ(x:Ae):dU [x]=[.i .u64 (x:Al)]:=rfl
def oP{l:Ad Ae}{n:Ae}(h:l.length=n):chunk 1 n (dU l)=l.map λ(p:Ae)=>[D.i .u64 (p:Al)]:=by rw[lZ _ _ (by rw[fC];exact h.symm)];simp[dU]
def jE{l:Ad Ae}{n:Ae}(h:l.length=n):D7 n ((dU l).map AV.d)=(dU l).map AV.d:=A4 (by simp[fC,h])
def cH{H H':Hp}{ρ:Ae->Ae}{a o l s b o' l' s':Ae}:oA H H' ρ (.own a o l s) (.own b o' l' s')↔(a=ρ b/\o=o'/\l=l'/\s=s'/\(H' b).isSome=Ak):=Iff.rfl
def prS(n:Al):Ad Ae->St
 |[]=>StL [(3,.ptr 1 0),(5,.ptr 2 0)] Aj [.cells 3 [.d (.i .i64 n)],.cells 43 [.nil]]
 |x::l=>StL [(3,.ptr 1 0),(5,.ptr 2 0)] Aj [.cells 3 [.d (.i .i64 n)],.cells 43 [.own 3 0 (l.length+1) 1],.cells 46 ((dU (x::l)).map .d)]
def uD[M:Mch Ab](n p0:Ae)(ps:Ad Ae)(hd:jZ n (p0::ps))(hl:ps.length<=1000000) :
 Spec Ab 55 [.i .u64 n,.i .i64 ((ps.length+1:Ae):Al)] (cO (p0::ps)):=by
 have hx0:∀k:Ae,(psL (p0::ps))[k]? = ((p0::ps)[k]?).map (λ(p:Ae)=>[D.i .u64 (p:Al)]):=λk=>by simp only[psL,Ao]
 have hlen:(psL (p0::ps)).length=ps.length+1:=by simp[psL]
 have hseq:=aPc n p0 ps hd
 obtain⟨K,hK⟩:∃K,K=ps.length+1:=⟨_,rfl⟩
 rw[<-hK]at hlen ⊢
 have hLl:(p0::ps).length=K:=by rw[hK];rfl
 generalize hL:p0::ps=L at hx0 hlen hseq hLl hd ⊢
 have hK0:0<K:=by omega
 have hK1:¬(K=0):=by omega
 refine qY (N:=22) aT Tryz.func55 rfl rfl rfl (by kernel_rfl) (by kernel_rfl) (by simp) ?_
 refine dD (by kernel_rfl) ?_
 simp[-O,-U,↓KW,↓aF,↓aA,↓aG,↓aH]
 refine aEb ?_
 refine dD (by kernel_rfl) ?_
 simp[-O,-U,↓KW,↓aF,↓aA,↓aG,↓aH,hK1]
 refine dD (by kernel_rfl) ?_
 simp[-O,-U,↓KW,↓aF,↓aA,↓aG,↓aH]
 refine dD (by kernel_rfl) ?_
 simp[-O,-U,↓KW,↓aF,↓aA,↓aG,↓aH]
 refine aEa (P:=Ab) ?_
 refine dD (by kernel_rfl) ?_
 simp[-O,-U,↓KW,↓aF,↓aA,↓aG,↓aH]
 refine aL (aHf n) ?_
 simp[-O,-U,↓KW,↓aF,↓aA,↓aG,↓aH]
 refine uN ?_
 refine rU (psL L) (λk=>prS K (L.take k)) [6,11,12,13,14,15,16,17,18,19,20] (.exit 0) (.exit 0) (.inr ⟨0,rfl⟩) (gf:=215) (caps:=[.pt [.i .u64 n]]) (by rfl) (by rfl) (by rfl) hseq ?_ (by kernel_rfl) (by rw[hlen];omega) ?_ ?_ ?_
 .rw[Ct]
  refine wkQ [1,2] ?_ ?_<;>simp[-O,upd,bH,Γ0]
 .intro k x hk hx
  rw[hlen]at hk
  rw[hx0,Ai]at hx
  obtain⟨p,hp,rfl⟩:=hx
  refine⟨rfl,?_⟩
  rw[BG,hp,E8]
  have htl:(L.take k).length=k:=by rw[Bt];omega
  generalize L.take k=T at htl ⊢
  cases T with
  | nil =>
   have hk0:k=0:=htl.symm
   have hKk:((1:Al)==(K:Al))=false:=by simp;omega
   show AWP _ _ ⟨upd (prS K []).Γ 11 (.d (.i .u64 (p:Al))),(prS K []).H,(prS K []).n⟩ _
   have hm1:(1:Ae)<=maxLen:=bY (by decide)
   simp[-O,-U,↓KW,↓aF,↓aA,↓aG,↓aH,prS,hKk,hm1]
   refine wkQ [1,2,4] ?_ ?_<;>simp[-O,upd,bH,Γ0,Ci,cH,kU,nZ]
  | cons y T =>
   have hk0:T.length+1=k:=htl
   have hKk:((T.length:Al)+1+1==(K:Al))=false:=by simp;omega
   have hbb:=kO (n:=T.length+1) (by omega)
   show AWP _ _ ⟨upd (prS K (y::T)).Γ 11 (.d (.i .u64 (p:Al))),(prS K (y::T)).H,(prS K (y::T)).n⟩ _
   simp[-O,-U,↓KW,↓aF,↓aA,↓aG,↓aH,prS,hKk,fC,hbb,bY]
   refine wkQ [1,2,5] ?_ ?_<;>simp[-O,upd,bH,Γ0,Ci,cH,kU,nZ]
 .intro k x hk hx
  rw[hlen]at hk
  rw[hx0,Ai]at hx
  obtain⟨p,hp,rfl⟩:=hx
  refine⟨rfl,?_⟩
  rw[BG,hp,E8]
  have htl:(L.take k).length=k:=by rw[Bt];omega
  generalize L.take k=T at htl ⊢
  cases T with
  | nil =>
   have hk0:k=0:=htl.symm
   have hKk:((1:Al)==(K:Al))=true:=by simp;omega
   show AWP _ _ ⟨upd (prS K []).Γ 11 (.d (.i .u64 (p:Al))),(prS K []).H,(prS K []).n⟩ _
   have hm1:(1:Ae)<=maxLen:=bY (by decide)
   simp[-O,-U,↓KW,↓aF,↓aA,↓aG,↓aH,prS,hKk,hm1]
   refine wkQ [1,2,4] ?_ ?_<;>simp[-O,upd,bH,Γ0,Ci,cH,kU,nZ]
  | cons y T =>
   have hk0:T.length+1=k:=htl
   have hKk:((T.length:Al)+1+1==(K:Al))=true:=by simp;omega
   have hbb:=kO (n:=T.length+1) (by omega)
   show AWP _ _ ⟨upd (prS K (y::T)).Γ 11 (.d (.i .u64 (p:Al))),(prS K (y::T)).H,(prS K (y::T)).n⟩ _
   simp[-O,-U,↓KW,↓aF,↓aA,↓aG,↓aH,prS,hKk,fC,hbb,bY]
   refine wkQ [1,2,5] ?_ ?_<;>simp[-O,upd,bH,Γ0,Ci,cH,kU,nZ]
 .rw[hlen,<-hLl,List.take_length,<-hL]
  simp[-O,-U,↓KW,↓aF,↓aA,↓aG,↓aH,prS]
  refine aEc _ (by kernel_rfl) ?_
  have hln2:(p0::ps).length=ps.length+1:=rfl
  have hfl:=fC (p0::ps)
  rw[hln2]at hfl
  simp[-O,-U,↓KW,↓aF,↓aA,↓aG,↓aH,prS,cO,hfl,oP hln2,jE hln2]
def aMg[M:Mch Ab](n:Ae):Spec Ab 55 [.i .u64 n,.i .i64 0] (cO []):=by refine qY (N:=22) aT Tryz.func55 rfl rfl rfl (by kernel_rfl) (by kernel_rfl) (by simp) ?_;refine dD (by kernel_rfl) ?_;simp[-O,-U,↓KW,↓aF,↓aA,↓aG,↓aH];refine aEb ?_;refine dD (by kernel_rfl) ?_;simp[-O,-U,↓KW,↓aF,↓aA,↓aG,↓aH,cO]
end Go.Am
end
namespace Go.Am
open RowKit (Below)
variable {P:As} [M:Mch P]
abbrev nK(n:Ae):nA:=⟨λid=>id<n⟩
def onS(S:Ad Ae)(H:Hp):Hp:=λid=>if id∈S then H id else Aj
def StH(avs:Ad AV)(S:Ad Ae)(H:Hp)(n:Ae):St:=⟨λt=>(avs[t]?).getD .un,onS S H,n⟩
def bPw(P:As)(rs:Ad ResultVar)(σ:St):Aq AV :=
 (rs.mapM (jN P σ)).map λl=>match l with|[x]=>x|l=>.tp l
def aIk{G:Ctx}{fn:Func}{σ:St}{a:Act}{w:Ag}{r:AV}{F:Ae->Prop}{ι:Ae->Aq Ae}(hR:HR G F w ι bG σ.H)(hV:∀t,V F w ι (σ.Γ t) (a.tmps.getD t undef))(h:bPw P fn.results.toList σ=Aa r) :
 ∃v,aU P (results fn a.tmps) w=.ok v w/\V F w ι r v:=by
 obtain⟨avs,havs,rfl⟩:=Ai.1 h
 have hrun:∀(rs:Ad ResultVar) (avs:Ad AV),rs.mapM (jN P σ)=Aa avs->∃vs:Ad AE,aU P (rs.mapM (m:=Sem) λ|.tmp t=>pure (a.tmps.getD t undef)|.cell ad t=>do loadVar t (<-asAddr (a.tmps.getD ad undef))) w=.ok vs w /\
  vs.length=avs.length/\∀(k:Ae) c v,avs[k]? = Aa c->vs[k]? = Aa v->V F w ι c v:=by
  intro rs
  induction rs with
  |nil=>intro avs h;simp at h;subst h;exact⟨[],by simp,rfl,λk c v h=>by simp at h⟩
  | cons x rs ih =>
   intro avs h
   simp only[CG,Option.bind_eq_bind,Af,Option.pure_def,AH]at h
   obtain⟨av,hav,avs',havs',rfl⟩:=h
   obtain⟨vs,h1,h2,h3⟩:=ih avs' havs'
   have hx:∃v,aU P ((match x with|.tmp t=>pure (a.tmps.getD t undef)|.cell ad t=>do loadVar t (<-asAddr (a.tmps.getD ad undef))):Sem AE) w=.ok v w/\V F w ι av v:=by
    cases x with
    |tmp t=>simp only[jN,AH]at hav;subst hav;exact⟨_,by simp,hV t⟩
    | cell ad t =>
     simp only[jN]at hav;obtain⟨u,hu,hv⟩:=vU (P:=P) hR (λ_ _ h=>h) hav (hV ad);refine⟨u,?_,hv⟩;show aU P (do loadVar t (<-asAddr (a.tmps.getD ad undef)):Sem AE) w=_;simp only[Instr.loadAt]at hu;generalize a.tmps.getD ad undef=p at hu ⊢;cases p with
     | pointer q=>cases q with
      |some q=>simpa[CH,asAddr]using hu
      |none=>simp[CH]at hu
     |_=>simp[CH]at hu
   obtain⟨v,hv,hvv⟩:=hx
   refine⟨v::vs,?_,by simp[h2],λk c u hc hu=>?_⟩
   .simp only[CG,aB,hv,AR,h1,aX]
   .rcases k with _|k
    .simp at hc hu;subst hc;subst hu;exact hvv
    .exact h3 k c u (by simpa using hc) (by simpa using hu)
 obtain⟨vs,h1,h2,h3⟩:=hrun _ _ havs
 have hres:aU P (results fn a.tmps) w=.ok (if h:vs.toArray.size=1 then vs.toArray[0]else .tuple vs.toArray) w:=by
  simp only[results,Array.mapM_eq_mapM_toList,aB,fX]
  erw [h1]
  simp
 refine⟨_,hres,?_⟩
 match avs,h2,h3 with
 | [x],h2,h3 =>
  match vs,h2,h3 with
  |[v],_,h3=>exact h3 0 x v rfl rfl
 | [],h2,h3 =>
  have:vs=[]:=BI (by simpa using h2)
  subst this
  exact .tp _ _ rfl λk c v h=>by simp at h
 | x::y::l,h2,h3 =>
  have hne:¬vs.toArray.size=1:=by simp at h2 ⊢;omega
  rw[dif_neg hne]
  exact .tp _ _ (by simpa using h2.symm) λk c v hc hv=>h3 k c v hc (by simpa using hv)
def SRH{A:Ae->Prop}{W:Ag}{vs:Aw AE}{avs:Ad AV}{S:Ad Ae}{H:Hp}{ι:Ae->Aq Ae}{N n:Ae}(hok:OkV W)(hA:∀b,A b->b<W.heap.size)(hdom:∀id,(∃b,ι id=Aa b)↔id∈S)(hlt:∀id b,ι id=Aa b->b<W.heap.size/\¬A b)
 (hinj:∀id id' b,ι id=Aa b->ι id'=Aa b->id=id') (hS:∀id∈S,id<n/\(H id).isSome=Ak) (hobj:∀id b ob,H id=Aa ob->ι id=Aa b->∃x,W.heap[b]? = Aa x/\CR A W ι ob x) (hl:avs.length=vs.size)
 (hv:∀(k:Ae) x v,avs[k]? = Aa x->vs[k]? = Aa v->V A W ι x v) (hN:avs.length<=N) :
 @SR (nK n) ⟨W,A,λb=>∃id,ι id=Aa b,λid b=>id<n->ι id=Aa b,λ_=>Aj⟩ N [] (StH avs S H n) { tmps:=vs++Bd (N-vs.size) undef,defers:=[] } W:=by
 refine⟨λid h=>?_,⟨λid h b e=>absurd e (by simpa[StH]using h),λid h b e=>(h e).elim⟩,hok,A,ι,⟨.refl _ _ _,hA,λb h=>.inl h,λid b e=>⟨.inl ⟨id,e⟩,(hlt id b e).1,λ_=>(hlt id b e).2⟩,λid b ob e e'=>?_,λid id' b e e' _ _=>hinj id id' b e e',λid id' b o1 o2 e e' _ h1 h2=>?_⟩,
  λid=>?_,λt=>?_,⟨by simp;omega,λ_ _ h=>by cases h⟩,rfl,λid b e _=>e⟩
 .simp only[StH,onS]at h ⊢
  rw[Ap (λhid=>by have:=(hS id hid).1;omega)]
 .simp only[StH,onS]at e'
  split at e'
  .exact hobj id b ob e' e
  .cases e'
 .have:=hinj id id' b e e'
  subst this
  rw[h1]at h2;injection h2 with h2;subst h2;exact AM _
 .rw[hdom]
  simp only[StH,onS]
  by_cases h:id∈S
  .simp[h,(hS id h).2]
  .simp[h]
 .simp only[StH]
  by_cases ht:t<avs.length
  .have ht':t<vs.size:=by omega
   rw[Ac ht]
   have:(vs++Bd (N-vs.size) undef).getD t undef=vs[t]:=by simp only[Au];rw[B5 ht',Ar ht'];rfl
   rw[this]
   exact hv t _ _ (Ac ht) (Ar ht')
  .rw[Bn (by omega)]
   have:(vs++Bd (N-vs.size) undef).getD t undef=undef:=by
    simp only[Au];rw[Array.getElem?_append_right (by omega)];by_cases h2:t-vs.size<N-vs.size
    .rw[Co,AB h2];rfl
    .rw[Co,Ap h2];rfl
   rw[this];exact .un
def cAw(P:As)(fn:Func)(S:Ad Ae)(n:Ae)(r:AV)(H':Hp)(n':Ae)(σ:St):Prop :=
 bPw P fn.results.toList σ=Aa r/\∀id,(id∈S\/(n<=id/\id<n'))->H' id=σ.H id
def aWo{ds:Ad Cl}{fn:Func}{A:Ae->Prop}{W:Ag}{ι:Ae->Aq Ae}{S:Ad Ae}{n n' N:Ae}{r:AV}{H':Hp}{σ:St}{a:Act}{w:Ag}(hdom0:∀id,(∃b,ι id=Aa b)↔id∈S)
 (hSn:∀id∈S,id<n) (hn':σ.n<=n') (he:cAw P fn S n r H' n' σ)
 (hs:@SR (nK n) ⟨W,A,λb=>∃id,ι id=Aa b,λid b=>id<n->ι id=Aa b,λ_=>Aj⟩ N ds σ a w) :
 ∃v,aU P (results fn a.tmps) w=.ok v w/\∃F' ι',Kept (λb=>∃id,ι id=Aa b) W.heap.size W w /\
  (∀b,F' b->A b\/(∃id,ι id=Aa b/\H' id=Aj)\/(W.heap.size<=b/\b<w.heap.size))/\V F' w ι' r v/\(∀id b,ι id=Aa b->(H' id).isSome=Ak->ι' id=Aa b) /\
  (∀id,(∃b,ι' id=Aa b)↔(id∈S\/(n<=id/\id<n'))/\(H' id).isSome=Ak) /\
  (∀id b,ι' id=Aa b->b<w.heap.size/\¬F' b/\((∃j,ι j=Aa b)\/W.heap.size<=b))/\(∀id id' b,ι' id=Aa b->ι' id'=Aa b->id=id') /\
  (∀id b ob,H' id=Aa ob->ι' id=Aa b->∃x,w.heap[b]? = Aa x/\CR F' w ι' ob x):=by
 obtain⟨htop,_,_,F,ι',hR,hdom,hV,_,_,hp⟩:=hs
 obtain⟨hr,hH⟩:=he
 obtain⟨v,hrun,hvd⟩:=aIk hR hV hr
 have hin:∀id b,ι' id=Aa b->id∈S\/(n<=id/\id<n'):=λid b h=>by
  have h1:=(hdom id).1 ⟨b,h⟩;rcases Bc id n with h2|h2
  .exact .inl ((hdom0 id).1 ⟨b,hp id b h h2⟩)
  .refine .inr ⟨h2,?_⟩;rcases Bc id n' with h3|h3
   .exact h3
   .rw[htop id (by omega)]at h1;cases h1
 have hle:∀id b,ι id=Aa b->(H' id).isSome=Ak->ι' id=Aa b:=λid b h hs=>by have hid:=(hdom0 id).1 ⟨b,h⟩;obtain⟨b',hb'⟩:=(hdom id).2 (by rw[<-hH id (.inl hid)];exact hs);have:=hp id b' hb' (hSn id hid);rw[h]at this;injection this with this;subst this;exact hb'
 refine⟨v,hrun,F,ι',hR.kept,λb hb=>?_,hvd,hle,λid=>?_,λid b h=>?_,λid id' b e1 e2=>hR.inj id id' b e1 e2 (λh=>h) (λh=>h),λid b ob h1 h2=>hR.obj id b ob h2 (by rw[<-hH id (hin id b h2)];exact h1)⟩
 .rcases hR.F_ok b hb with h|⟨id,h⟩|h
  .exact .inl h
  .cases hs:H' id with
   |none=>exact .inr (.inl ⟨id,h,hs⟩)
   |some o'=>exact((hR.place id b (hle id b h (by rw[hs];rfl))).2.2 (λh=>h) hb).elim
  .exact .inr (.inr ⟨h,hR.F_lt b hb⟩)
 .rw[hdom]
  constructor
  .intro h
   obtain⟨b,hb⟩:=(hdom id).2 h
   have h1:=hin id b hb
   exact⟨h1,by rw[hH id h1];exact h⟩
  .rintro⟨h1,h3⟩
   rw[hH id h1]at h3;exact h3
 .obtain⟨q1,q2,q3⟩:=hR.place id b h
  exact⟨q2,q3 (λh=>h),q1⟩
def bIx {f N:Ae} {fn:Func} {c:B1} {avs:Ad AV} {S:Ad Ae} {H H':Hp} {n n':Ae} {r:AV} (hf:P.funcs[f]? = Aa fn) (hb:fn.body=Aa c) (hname:(fn.name == "runtime.NumGoroutine")=Az) (hN:fn.ntmps=N)
 (ha:avs.length<=N)
 (hA:∀(G:Ctx) (a:Act) (w:Ag),(∀d,G.Z d=Aj)->@SR (nK n) G N [] (StH avs S H n) a w->WC P c (λe a' w'=>∃σ,((e=.normal\/e=.ret)/\σ.n<=n'/\cAw P fn S n r H' n' σ)/\@SR (nK n) G N [] σ a' w') a w):tX P f avs S H n r H' n':=by
 intro A W vs ι hAl hdom hlt hinj hS hobj hl hv
 have hn:¬ fn.name = "runtime.NumGoroutine" := by simpa using hname
 refine⟨λw=>by simp[callFunc,hf,hn,hb],?_⟩
 refine jT hf hb ?_
 subst hN
 refine(cA P).okv λhok=>?_
 refine cG (hA _ _ _ (λ_=>rfl) (SRH (N:=fn.ntmps) hok hAl hdom hlt hinj hS hobj hl hv ha)) ?_
 rintro e a w0 ⟨σ,⟨he,hn',hE⟩,hs0⟩
 have hend:a.defers=[]/\∀w,Env w0 w->∃v,aU P (results fn a.tmps) w=.ok v w/\_ :=
  ⟨hs0.2.2.2.elim λ_ h=>h.elim λ_ h=>h.2.2.2.2.1,λw henv=>aWo hdom (λid h=>(hS id h).1) hn' hE (SR.env (Pn:=nK n) hs0 henv)⟩
 rcases he with rfl|rfl<;>exact hend
end Go.Am
namespace Go.Am
open Go.Conc
open RowKit (Below)
def tU (P:As) (g:AU):Prop:=∃fn id ty pos after,P.funcs[g]? = Aa fn/\(fn.name == "runtime.NumGoroutine")=Az /\
 fn.body=Aa (.region id #[⟨Aa 0,.call ⟨.builtin .recover,#[],#[]⟩,ty,pos,after,Aj⟩] Az)/\fn.ntmps=1/\fn.results=#[]
def bQb(P:As)(g:AU):Bw:=match P.funcs[g]? with
 | some fn=>(!(fn.name == "runtime.NumGoroutine")) && (match fn.body with
  | some (.region _ ops Az)=>(match ops.toList with
   |[⟨Aa 0,.call ⟨.builtin .recover,args,ts⟩,_,_,_,Aj⟩]=>args.isEmpty&&ts.isEmpty
   |_=>Az)
  |_=>Az)&&decide (fn.ntmps=1)&&fn.results.isEmpty
 |none=>Az
def aVb{P:As}{g:AU}(h:bQb P g=Ak):tU P g:=by
 unfold bQb at h;split at h
 case h_2=>cases h
 rename_i fn hfn;simp only[A5,Dd,Bz]at h;obtain⟨⟨⟨h1,h2⟩,h3⟩,h4⟩:=h;split at h2
 case h_2=>cases h2
 rename_i id ops hb;split at h2
 case h_2=>cases h2
 rename_i args ts ty pos after hops;simp only[A5,Array.isEmpty_iff]at h2 h4;obtain⟨rfl,rfl⟩:=h2;have:ops=#[⟨Aa 0,.call ⟨.builtin .recover,#[],#[]⟩,ty,pos,after,Aj⟩]:=by apply Array.toList_inj.1;rw[hops]
 subst this;exact⟨fn,id,ty,pos,after,hfn,h1,hb,h3,h4⟩
section
variable {P:As} [M:Mch P]
def bNs{Win:Ay->Ag->Prop}(hW:M.Fam Win){b:BU}{a:Act}{todo:Ad Item}{cs:Ad BU}{v:Ag}{g:AU}{ds:Ad Cl}(hv:OkV v)(hg:tU P g)(hd:a.defers=dcall g #[]::ds)
 (h:Win (G { b.at ⟨a.tmps,ds⟩ todo with mode:=.returning } cs) v):Win (G { b.at a todo with mode:=.returning } cs) v:=by
 obtain⟨fn,id,ty,pos,after,hf,hname,hb,hnt,hres⟩:=hg
 refine aD hW rfl hv (λw=>stepG_unwind_enter hd hf hname hb) ?_
 rw[hnt]
 refine aD hW rfl hv (λw=>stepG_region) ?_
 have hl:AW (#[(⟨Aa 0,.call ⟨.builtin .recover,#[],#[]⟩,ty,pos,after,Aj⟩:Bf)]).size=[0]:=rfl
 rw[hl]
 refine aD (g':=G ((baseD g).at { tmps:=#[.nilIface],defers:=[] } (.inRegion #[⟨Aa 0,.call ⟨.builtin .recover,#[],#[]⟩,ty,pos,after,Aj⟩] []::[])) ({ b.at ⟨a.tmps,ds⟩ todo with mode:=.returning }::cs)) hW rfl hv (λw=>?_) ?_
 .have hr:∀ev,(execOp ev ⟨Aa 0,.call ⟨.builtin .recover,#[],#[]⟩,ty,pos,after,Aj⟩).run P w=.ok .recover w:=λev=>by unfold execOp;simp[resolve,invoke,builtin]
  have he:∀ev,(execOp ev ⟨Aa 0,.call ⟨.builtin .recover,#[],#[]⟩,ty,pos,after,Aj⟩).events P w #[]=#[]:=λev=>by unfold execOp;simp[resolve,invoke,builtin]
  rw[stepG_oper (o:=⟨Aa 0,.call ⟨.builtin .recover,#[],#[]⟩,ty,pos,after,Aj⟩) rfl (by simp[Bu])]
  have hfin:=Frame.finish_at (baseD g) { tmps:=#[undef],defers:=[] } #[⟨Aa 0,.call ⟨.builtin .recover,#[],#[]⟩,ty,pos,after,Aj⟩] 0 [] [] .nilIface
  simp[stepG.apply,hr,he,G,Frame.at,baseD,CJ,seen_none,tryRecover]at hfin ⊢
  exact hfin
 refine aD hW rfl hv (λw=>stepG_region_end) ?_
 refine aD hW rfl hv (λw=>stepG_end) ?_
 exact aD hW rfl hv (λw=>stepG_leave_deferred (v:=.tuple #[]) rfl rfl hf (by simp[results,hres]) (by simp[results,hres]) rfl) h
def bVy(P:As)(fn:Func)(R:AE->Ag->Prop):Cf->Act->Ag->Prop
 |.normal,a,v|.ret,a,v=>(∀d∈a.defers,∃g,tU P g/\d=dcall g #[])/\∀v1,Env v v1->∃x,aU P (results fn a.tmps) v1=.ok x v1/\R x v1
 |_,_,_=>False
def aKx{Win:Ay->Ag->Prop}(hW:M.Fam Win){b:BU}{todo:Ad Item}{cs:Ad BU}{v:Ag}(hv:OkV v):∀(ds:Ad Cl) (tmps:Aw AE),(∀d∈ds,∃g,tU P g/\d=dcall g #[]) ->
 Win (G { b.at ⟨tmps,[]⟩ todo with mode:=.returning } cs) v->Win (G { b.at ⟨tmps,ds⟩ todo with mode:=.returning } cs) v
 |[],_,_,h=>h
 | d::ds,tmps,hd,h=>by obtain⟨g,hg,rfl⟩:=hd d (AX ..);exact bNs hW hv hg rfl (aKx hW hv ds tmps (λd h=>hd d (AT _ h)) h)
def aGz{f:AU}{fn:Func}{c:B1}{args:Aw AE}{v:Ag}{R:AE->Ag->Prop}(hf:P.funcs[f]? = Aa fn)(hb:fn.body=Aa c)
 (h:WC P c (bVy P fn R) { tmps:=args++Bd (fn.ntmps-args.size) undef,defers:=[] } v):CX P f args v R:=by
 intro Win hW hv c0 cs hk
 rw[enter_at args hf hb]
 have back:∀(a':Act) (v':Ag) (todo:Ad Item),OkV v'->bVy P fn R .ret a' v'->Win (G { (base f).at a' todo with mode:=.returning } (c0::cs)) v':=by
  intro a' v' todo hv' hq;obtain⟨hd,hr⟩:=hq;refine aKx hW hv' a'.defers a'.tmps hd ?_;refine(M.closed hW).step rfl hv' λv1 w he hsim=>?_
  obtain⟨x,hx,hR⟩:=hr v1 he;obtain⟨w',es',h1,h2,h3,h4,h5,h6⟩:=fH _ v1 w #[] x v1 (he.okV hv') hsim hx;refine⟨_,v1,w',_,oZ (b:=base f) (a:=⟨a'.tmps,[]⟩) rfl rfl hf h1,⟨h2,h3,h4,h5,λe he'=>h6 e (by have:=mem_seen he';simpa using this)⟩,hk x v1 h3 hR⟩
 refine h Win hW hv (base f) [] (c0::cs) (.inl rfl) λe a' v' hv' hq=>?_
 cases e with
 | normal =>
  refine aD hW rfl hv' (λw=>stepG_end) ?_
  exact back a' v' [] hv' hq
 |ret=>exact λtodo=>back a' v' todo hv' hq
 |exit id=>exact hq.elim
 |goto l=>exact hq.elim
 |panic ch=>exact hq.elim
 |outgrown=>exact hq.elim
def tF:B1->Aq AU
 | .region _ ops Az=>match ops.toList with
  |[{ dst:=Aj,op:=.defer { callee:=.value (.func g),args:=args,argTypes:=_ },guard:=Aj,.. }]=>if args.isEmpty then Aa g else Aj
  |_=>Aj
 |_=>Aj
def aAy{c:B1}{g:AU}{a:Act}{v:Ag}{Q:Cf->Act->Ag->Prop}(h:tF c=Aa g)(hQ:∀v1,Env v v1->Q .normal { a with defers:=dcall g #[]::a.defers } v1):WC P c Q a v:=by
 unfold tF at h;split at h
 case h_2=>cases h
 rename_i id ops;split at h
 case h_2=>cases h
 rename_i g' args ts ty pos after hops;split at h
 case isFalse=>cases h
 rename_i hargs;injection h with h;subst h
 refine iE ?_;rw[hops];unfold gP;have hargs':args=#[]:=by simpa using hargs
 subst hargs';have hw:∀y,Bu { dst:=Aj,op:=.defer { callee:=.value (.func g'),args:=#[],argTypes:=ts },type:=ty,pos:=pos,after:=after,guard:=Aj } y=true:=λy=>by simp[Bu]
 rw[AB (hw _)];intro v1 he;unfold wpX;have hfe:a.eval (.func g')=.func (.func g') #[] #[]:=rfl;simp[execOp,resolve,hfe,Deferred.ofValue,gQ,gP,Act.put,dcall]at hQ ⊢;exact hQ v1 he
def aPn[Pn:nA]{G:Ctx}{N:Ae}{ds:Ad Cl}{σ:St}{a:Act}{w:Ag}(d:Cl)(h:SR G N ds σ a w):SR G N (d::ds) σ { a with defers:=d::a.defers } w:=by obtain⟨h1,h2,hok,F,ι,hR,hdom,hV,hN,hds,hp⟩:=h;exact⟨h1,h2,hok,F,ι,hR,hdom,hV,hN,by rw[hds],hp⟩
def aOn{g:AU}(hg:tU P g){ds:Ad Cl}(h:ds=[dcall g #[]]):∀d∈ds,∃g,tU P g/\d=dcall g #[]:=λd hd=>by rw[h]at hd;simp only[CB]at hd;exact⟨g,hg,hd⟩
def bEg {f N:Ae} {fn:Func} {g:AU} {r0 rd rest:B1} {args:Ad D} {r:D} (hf:P.funcs[f]? = Aa fn) (hb:fn.body=Aa (.seq r0 (.seq rd rest))) (hname:(fn.name == "runtime.NumGoroutine")=Az)
 (hN:fn.ntmps=N) (hg:tF rd=Aa g) (hrec:tU P g) (ha:args.length<=N)
 (h:∀(G:Ctx) (a:Act) (w:Ag),(∀d,G.Z d=Aj)->SR G N [] (St0 args N) a w->WC P r0 (λe a' w'=>e=.normal/\∃σ0,SR G N [] σ0 a' w' /\
  ∀a2 w2,SR G N [dcall g #[]] σ0 a2 w2->WC P rest (λe a w=>∃σ,((e=.normal\/e=.ret)/\jM P fn.results.toList σ=Aa r)/\SR G N [dcall g #[]] σ a w) a2 w2) a w):Spec P f args r:=by
 intro A W vs hA hl hv
 have hn:¬ fn.name = "runtime.NumGoroutine" := by simpa using hname
 refine⟨λw=>by simp[callFunc,hf,hn,hb],?_⟩
 refine aGz hf hb ?_
 subst hN
 refine(cA P).okv λhok=>fA (cG (h _ _ _ (λ_=>rfl) (SR0 hok hA hl hv ha)) ?_)
 rintro e a w ⟨rfl,σ0,hs0,hrest⟩
 refine fA (aAy hg λv1 he=>?_)
 refine cG (hrest _ v1 (aPn _ (hs0.env he))) ?_
 rintro e a w ⟨σ,⟨he,hr⟩,hs⟩
 have hend:(∀d∈a.defers,∃g,tU P g/\d=dcall g #[])/\∀v1,Env w v1->∃x,aU P (results fn a.tmps) v1=.ok x v1/\Below W.heap.size W v1/\VD (λb=>A b\/(W.heap.size<=b/\b<v1.heap.size)) v1 r x:=by
  refine⟨hs.2.2.2.elim λ_ h=>h.elim λ_ h=>aOn hrec h.2.2.2.2.1,λv1 he=>?_⟩;have hs1:=hs.env he;obtain⟨v,hrun,hvd⟩:=fP hs1 hr;obtain⟨_,_,_,F,ι,hR,_,_,_,hdf,_⟩:=hs1;refine⟨v,hrun,⟨hR.kept.os,hR.kept.tape,hR.kept.output,hR.kept.size,λk hk=>hR.kept.block k hk (λh=>h)⟩,hvd.mono ?_⟩;rintro b (h|h|h)
  .exact .inl h
  .exact h.elim
  .exact .inr h
 rcases he with rfl|rfl<;>exact hend
def bAi {f N:Ae} {fn:Func} {g:AU} {r0 rd rest:B1} {avs:Ad AV} {S:Ad Ae} {H H':Hp} {n n':Ae} {r:AV} (hf:P.funcs[f]? = Aa fn) (hb:fn.body=Aa (.seq r0 (.seq rd rest))) (hname:(fn.name == "runtime.NumGoroutine")=Az)
 (hN:fn.ntmps=N) (hg:tF rd=Aa g) (hrec:tU P g) (ha:avs.length<=N)
 (hA:∀(G:Ctx) (a:Act) (w:Ag),(∀d,G.Z d=Aj)->@SR (nK n) G N [] (StH avs S H n) a w->WC P r0 (λe a' w'=>e=.normal/\∃σ0,@SR (nK n) G N [] σ0 a' w' /\
  ∀a2 w2,@SR (nK n) G N [dcall g #[]] σ0 a2 w2->WC P rest (λe a w=>∃σ,((e=.normal\/e=.ret)/\σ.n<=n'/\cAw P fn S n r H' n' σ)/\@SR (nK n) G N [dcall g #[]] σ a w) a2 w2) a w):tX P f avs S H n r H' n':=by
 intro A W vs ι hAl hdom hlt hinj hS hobj hl hv
 have hn:¬ fn.name = "runtime.NumGoroutine" := by simpa using hname
 refine⟨λw=>by simp[callFunc,hf,hn,hb],?_⟩
 refine aGz hf hb ?_
 subst hN
 refine(cA P).okv λhok=>fA (cG (hA _ _ _ (λ_=>rfl) (SRH (N:=fn.ntmps) hok hAl hdom hlt hinj hS hobj hl hv ha)) ?_)
 rintro e a w ⟨rfl,σ0,hs0,hrest⟩
 refine fA (aAy hg λv1 he=>?_)
 refine cG (hrest _ v1 (aPn (Pn:=nK n) _ (SR.env (Pn:=nK n) hs0 he))) ?_
 rintro e a w0 ⟨σ,⟨he,hn',hE⟩,hs⟩
 have hend:(∀d∈a.defers,∃g,tU P g/\d=dcall g #[])/\∀w,Env w0 w->∃v,aU P (results fn a.tmps) w=.ok v w/\_ :=
  ⟨hs.2.2.2.elim λ_ h=>h.elim λ_ h=>aOn hrec h.2.2.2.2.1,λw henv=>aWo hdom (λid h=>(hS id h).1) hn' hE (SR.env (Pn:=nK n) hs henv)⟩
 rcases he with rfl|rfl<;>exact hend
end
section
variable {P:As} [M:Mch P]
def yX {f N:Ae} {fn:Func} {c:B1} {h:AV} {o o':HO} {args:Ad D} (hf:P.funcs[f]? = Aa fn) (hb:fn.body=Aa c) (hname:(fn.name == "runtime.NumGoroutine")=Az) (hN:fn.ntmps=N)
 (ha:args.length+1<=N) (hno':kL o'=Ak)
 (hA:∀(G:Ctx) (a:Act) (w:Ag),(∀d,G.Z d=Aj)->SR G N [] (St1 h o args N) a w->WC P c (λe a' w'=>∃σ,((e=.normal\/e=.ret)/\jM P fn.results.toList σ=Aa (.tp [])/\σ.H 0=Aa o')/\SR G N [] σ a' w') a w):jV P f h o args o' (.tp []):=by
 intro A W vs b hAl hAb hbl hob hl hv0 hv
 have hn:¬ fn.name = "runtime.NumGoroutine" := by simpa using hname
 refine⟨λw=>by simp[callFunc,hf,hn,hb],?_⟩
 refine jT hf hb ?_
 subst hN
 refine(cA P).okv λhok=>?_
 have hsr:=SR1 (N:=fn.ntmps) hok hAl hAb hbl hob hl hv0 hv ha
 refine cG (hA _ _ _ (λ_=>rfl) hsr) ?_
 rintro e a w0 ⟨σ,⟨he,hr,hH0⟩,hs0⟩
 have hend:a.defers=[]/\∀w,Env w0 w->∃v,aU P (results fn a.tmps) w=.ok v w/\∃ob',Kept (·=b) W.heap.size W w/\w.heap[b]? = Aa ob' /\
  (∀cur e,W.heap[b]? = Aa (.cells cur e (0,0))->∃cur',ob'=.cells cur' e (0,0)/\cur'.size=cur.size) /\
  CR (λk=>A k\/(W.heap.size<=k/\k<w.heap.size)) w (ι1 b) o' ob'/\VD (λk=>A k\/(W.heap.size<=k/\k<w.heap.size)) w (.tp []) v:=by
  refine⟨hs0.2.2.2.elim λ_ h=>h.elim λ_ h=>h.2.2.2.2.1,λw henv=>?_⟩
  have hs:=hs0.env henv
  obtain⟨_,_,_,F,ι,hR,hdom,hVs,_,hdf,hp⟩:=hs
  obtain⟨v,hrun,hvd⟩:=lM hR hVs hr
  obtain⟨b',hb'⟩:=(hdom 0).2 (by rw[hH0];rfl)
  have hbb:=hp 0 b' hb' rfl
  subst hbb
  obtain⟨ob',hob',hcr⟩:=hR.obj 0 b' o' hb' hH0
  have hnF:¬F b':=(hR.place 0 b' hb').2.2 (λx=>x)
  have hFA:∀k,F k->A k\/(W.heap.size<=k/\k<w.heap.size):=λk hk=>by
   rcases hR.F_ok k hk with h|h|h
   . exact .inl h
   . simp only at h;subst h;exact(hnF hk).elim
   . exact .inr ⟨h,hR.F_lt k hk⟩
  refine⟨v,hrun,ob',hR.kept,hob',λcur e he=>?_,(yS hno' hcr).step ⟨hFA,λ_ _=>rfl,λ_ _ h=>h,λ_ _ cur _ _ h=>⟨cur,h,rfl⟩⟩,?_⟩
  . obtain⟨cur',h1,h2⟩:=hR.kept.shape b' cur e hbl he
    rw[hob']at h1;injection h1 with h1
    exact⟨cur',h1,h2⟩
  . cases hvd with|tp ds vs hl hh=>exact .tp _ _ hl λk d v hk=>by simp at hk
 rcases he with rfl|rfl<;>exact hend
def bFk(P:As)(E:Kn)(fuel:Ae)(f:AU)(h:AV)(o:HO)(args:Ad D):Aq (HO×D) :=
 match P.funcs[f]? with
 |none=>Aj
 | some fn=>match fn.body with
   | some c=>if zU P fn c&&decide (args.length+1<=fn.ntmps)then match ex P E fuel c (St1 h o args fn.ntmps)with
     | some (e,σ)=>match σ.H 0,bJs P fn (Aa (e,σ))with
       |some o',Aa (.tp [])=>if kL o' then Aa (o',.tp [])else Aj
       |_,_=>Aj
     |none=>Aj
     else Aj
   |_=>Aj
def aLv{E:Kn}{fuel:Ae}(hm:P.follows .mixedOrders=Ak)(hE:oB P E){f:AU}{h0:AV}{o o':HO}{args:Ad D}{r:D}(h:bFk P E fuel f h0 o args=Aa (o',r)):jV P f h0 o args o' r:=by
 unfold bFk at h;split at h
 . cases h
 rename_i fn hfn;split at h
 case h_2=>cases h
 rename_i c hc;split at h
 case isFalse=>cases h
 rename_i hok;simp only[zU,A5,Dd,Bz]at hok;obtain⟨⟨h1,h3⟩,h4⟩:=hok;split at h
 case h_2=>cases h
 rename_i e σ hex;split at h
 case h_2=>cases h
 rename_i o1 hH hr;split at h
 case isFalse=>cases h
 rename_i hfl;injection h with h;injection h with e1 e2;subst e1;subst e2
 obtain⟨he,hr3⟩:=tC hr;refine yX hfn hc h3 rfl h4 hfl λG a w hZ hs=>cG (lA hE hm hZ fuel c _ a w _ _ h1 hex hs) ?_
 rintro e' a' w' ⟨rfl,hs'⟩;exact⟨σ,⟨he,hr3,hH⟩,hs'⟩
def lkp:Ad (Ae×HO)->Hp
 |[],_=>Aj
 |p::l,id=>if id=p.1 then Aa p.2 else lkp l id
def aId(H:Hp)(l:Ad Ae):Ad (Ae×HO):=l.filterMap λid=>(H id).map λo=>(id,o)
def aAi(H:Hp):∀(l:Ad Ae) (id:Ae),id∈l->lkp (aId H l) id=H id
 |[],id,h=>by cases h
 | i::l,id,h=>by
   have hno:∀(l:Ad Ae),id ∉ l->lkp (aId H l) id=none:=by
    intro l;induction l with
    |nil=>intro _;rfl
    | cons j l ih =>
      intro hn;simp only[BQ,not_or]at hn;cases hj:H j with
      |none=>simpa[aId,ET,hj]using ih hn.2
      |some o=>simp only[aId,ET,hj,Bj,lkp];rw[Ap hn.1];exact ih hn.2
   cases hi:H i with
   | none =>
     by_cases he:id∈l
     . have:=aAi H l id he
       simpa[aId,ET,hi]using this
     . have e:id=i:=by rcases BQ.1 h with h|h;exact h;exact absurd h he
       subst e
       have:=hno l he
       rw[hi]
       simpa[aId,ET,hi]using this
   | some o =>
     simp only[aId,ET,hi,Bj,lkp];by_cases e:id=i
     . subst e;rw[AB rfl,hi]
     . rw[Ap e]
       exact aAi H l id (by rcases BQ.1 h with h|h;exact absurd h e;exact h)
def bTp:Cf->Bw
 |.normal|.ret=>Ak
 |_=>Az
def bXu(P:As)(E:Kn)(fuel:Ae)(f:AU)(avs:Ad AV)(S:Ad Ae)(H:Hp)(n:Ae):Aq (AV×Hp×Ae) :=
 match P.funcs[f]? with
 |none=>Aj
 | some fn=>match fn.body with
   | some c=>if zU P fn c&&decide (avs.length<=fn.ntmps)then match ex P E fuel c (StH avs S H n)with
     | some (e,σ)=>if bTp e then match bPw P fn.results.toList σ with
       |some r=>Aa (r,lkp (aId σ.H (S++(AW (σ.n-n)).map (n+·))),σ.n)
       |none=>Aj
       else Aj
     |none=>Aj
     else Aj
   |_=>Aj
def aRb{E:Kn}{fuel:Ae}(hm:P.follows .mixedOrders=Ak)(hE:oB P E){f:AU}{avs:Ad AV}{S:Ad Ae}{H H':Hp}{n n':Ae}{r:AV}(h:bXu P E fuel f avs S H n=Aa (r,H',n')):tX P f avs S H n r H' n':=by
 unfold bXu at h;split at h
 . cases h
 rename_i fn hfn;split at h
 case h_2=>cases h
 rename_i c hc;split at h
 case isFalse=>cases h
 rename_i hok;simp only[zU,A5,Dd,Bz]at hok;obtain⟨⟨h1,h3⟩,h4⟩:=hok;split at h
 case h_2=>cases h
 rename_i e σ hex;split at h
 case isFalse=>cases h
 rename_i q1;split at h
 case h_2=>cases h
 rename_i r0 hr;injection h with h;injection h with e1 e2;injection e2 with e2 e3;subst e1;subst e2;subst e3
 letI:nA:=nK n
 refine bIx hfn hc h3 rfl h4 λG a w hZ hs=>cG (lA hE hm hZ fuel c _ a w _ _ h1 hex hs) ?_
 rintro e' a' w' ⟨rfl,hs'⟩;refine⟨σ,⟨by cases e'<;>simp_all [bTp],AM _,hr,λid hid=>aAi _ _ _ ?_⟩,hs'⟩;rcases hid with hid|⟨g1,g2⟩
 . exact EH _ hid
 . exact Ge _ (AY.2 ⟨id-n,by simp only[Cc];omega,by omega⟩)
def bFo(P:As)(E:Kn)(fuel:Ae)(f:AU)(args:Ad D):Aq D :=
 match P.funcs[f]? with
 |none=>Aj
 | some fn=>match fn.body with
   | some (.seq r0 (.seq rd rest))=>match tF rd with
     | some g=>if bQb P g&&zU P fn (.seq r0 (.seq rd rest))&&decide (args.length<=fn.ntmps)then match ex P E fuel r0 (St0 args fn.ntmps)with
       |some (.normal,σ0)=>bJs P fn (ex P E fuel rest σ0)
       |_=>Aj
       else Aj
     |none=>Aj
   |_=>Aj
def aLy{E:Kn}{fuel:Ae}(hm:P.follows .mixedOrders=Ak)(hE:oB P E){f:AU}{args:Ad D}{r:D}(h:bFo P E fuel f args=Aa r):Spec P f args r:=by
 unfold bFo at h;split at h
 . cases h
 rename_i fn hfn;split at h
 case h_2=>cases h
 rename_i r0 rd rest hc;split at h
 case h_2=>cases h
 rename_i g hg;split at h
 case isFalse=>cases h
 rename_i hok;simp only[zU,A5,Dd,Bz,bX]at hok;obtain⟨⟨h0,⟨h1,h3⟩⟩,h4⟩:=hok;split at h
 case h_2=>cases h
 rename_i σ0 hex0;obtain⟨e,σ,hex,he,hr⟩:∃e σ,ex P E fuel rest σ0=Aa (e,σ)/\(e=.normal\/e=.ret)/\jM P fn.results.toList σ=Aa r:=by
  cases hx:ex P E fuel rest σ0 with
  |none=>rw[hx]at h;cases h
  |some p=>rw[hx]at h;obtain⟨e,σ⟩:=p;obtain⟨h5,h6⟩:=tC h;exact⟨e,σ,rfl,h5,h6⟩
 refine bEg hfn hc h3 rfl hg (aVb h0) h4 λG a w hZ hs=>cG (lA hE hm hZ fuel r0 _ a w _ _ h1.1 hex0 hs) ?_
 rintro e' a' w' ⟨rfl,hs'⟩;refine⟨rfl,σ0,hs',λa2 w2 hs2=>cG (lA hE hm hZ fuel rest _ a2 w2 _ _ h1.2.2 hex hs2) ?_⟩;rintro e' a' w' ⟨rfl,hs'⟩;exact⟨σ,⟨he,hr⟩,hs'⟩
def bFm(P:As)(E:Kn)(fuel:Ae)(f:AU)(avs:Ad AV)(S:Ad Ae)(H:Hp)(n:Ae):Aq (AV×Hp×Ae) :=
 match P.funcs[f]? with
 |none=>Aj
 | some fn=>match fn.body with
   | some (.seq r0 (.seq rd rest))=>match tF rd with
     | some g=>if bQb P g&&zU P fn (.seq r0 (.seq rd rest))&&decide (avs.length<=fn.ntmps)then match ex P E fuel r0 (StH avs S H n)with
       | some (.normal,σ0)=>match ex P E fuel rest σ0 with
         | some (e,σ)=>if bTp e then match bPw P fn.results.toList σ with
           |some r=>Aa (r,lkp (aId σ.H (S++(AW (σ.n-n)).map (n+·))),σ.n)
           |none=>Aj
           else Aj
         |none=>Aj
       |_=>Aj
       else Aj
     |none=>Aj
   |_=>Aj
def aLx{E:Kn}{fuel:Ae}(hm:P.follows .mixedOrders=Ak)(hE:oB P E){f:AU}{avs:Ad AV}{S:Ad Ae}{H H':Hp}{n n':Ae}{r:AV}(h:bFm P E fuel f avs S H n=Aa (r,H',n')):tX P f avs S H n r H' n':=by
 unfold bFm at h;split at h
 . cases h
 rename_i fn hfn;split at h
 case h_2=>cases h
 rename_i r0 rd rest hc;split at h
 case h_2=>cases h
 rename_i g hg;split at h
 case isFalse=>cases h
 rename_i hok;simp only[zU,A5,Dd,Bz,bX]at hok;obtain⟨⟨h0,⟨h1,h3⟩⟩,h4⟩:=hok;split at h
 case h_2=>cases h
 rename_i σ0 hex0;split at h
 case h_2=>cases h
 rename_i e σ hex;split at h
 case isFalse=>cases h
 rename_i q1;split at h
 case h_2=>cases h
 rename_i r1 hr;injection h with h;injection h with e1 e2;injection e2 with e2 e3;subst e1;subst e2;subst e3
 letI:nA:=nK n
 refine bAi hfn hc h3 rfl hg (aVb h0) h4 λG a w hZ hs=>cG (lA hE hm hZ fuel r0 _ a w _ _ h1.1 hex0 hs) ?_
 rintro e' a' w' ⟨rfl,hs'⟩;refine⟨rfl,σ0,hs',λa2 w2 hs2=>cG (lA hE hm hZ fuel rest _ a2 w2 _ _ h1.2.2 hex hs2) ?_⟩;rintro e' a' w' ⟨rfl,hs'⟩;refine⟨σ,⟨by cases e'<;>simp_all [bTp],AM _,hr,λid hid=>aAi _ _ _ ?_⟩,hs'⟩;rcases hid with hid|⟨g1,g2⟩
 . exact EH _ hid
 . exact Ge _ (AY.2 ⟨id-n,by simp only[Cc];omega,by omega⟩)
def kC(P:As)(E:Kn)(fuel:Ae):Ae->Kn
 |0=>{ E with call:=λ_ _=>Aj,ocall:=λ_ _ _ _=>Aj,hcall:=λ_ _ _ _ _=>Aj }
 | n+1=>{ E with
    call:=λf args=>match E.call f args with|some r=>Aa r|none=>match bXx P (kC P E fuel n) fuel f args with|some r=>Aa r|none=>bFo P (kC P E fuel n) fuel f args
    ocall:=λf h o args=>match E.ocall f h o args with|some r=>Aa r|none=>match o with
     |.cells _ _=>bFk P (kC P E fuel n) fuel f h o args
     |_=>bFl P (kC P E fuel n) fuel f h o args
    hcall:=λf avs S H m=>match E.hcall f avs S H m with|some r=>Aa r|none=>match bXu P (kC P E fuel n) fuel f avs S H m with|some r=>Aa r|none=>bFm P (kC P E fuel n) fuel f avs S H m }
def mF{E:Kn}{fuel:Ae}(hm:P.follows .mixedOrders=Ak)(hE:oB P E):∀n,oB P (kC P E fuel n)
 |0=>⟨(λ_ _ _ h=>by cases h),(λ_ _ _ _ _ _ h=>by cases h),hE.keys,hE.sorted,(λ_ _ _ _ _ _ _ _ h=>by cases h)⟩
 | n+1=>by
   have ih:=mF (fuel:=fuel) hm hE n;refine⟨λf ds r h=>?_,λf h0 o ds o' r h=>?_,hE.keys,hE.sorted,λf avs S H m r H' m' h=>?_⟩
   . unfold kC at h
     simp only at h
     split at h
     . rename_i r' hr';injection h with h;subst h;exact hE.call _ _ _ hr'
     . split at h
       . rename_i r' hr';injection h with h;subst h;exact aRc hm ih hr'
       . exact aLy hm ih h
   . unfold kC at h
     simp only at h
     split at h
     . rename_i r' hr';injection h with h;subst h;exact hE.ocall _ _ _ _ _ _ hr'
     . split at h
       . exact aLv hm ih h
       . exact aLw hm ih h
   . unfold kC at h
     simp only at h
     split at h
     . rename_i r' hr';injection h with h;subst h;exact hE.hcall _ _ _ _ _ _ _ _ hr'
     . split at h
       . rename_i r' hr';injection h with h;subst h;exact aRb hm ih hr'
       . exact aLx hm ih h
def E00:Kn:=⟨λ_ _=>Aj,λ_ _ _ _=>Aj,λ_=>Aj,λ_ _=>Az,λ_=>Az,λ_ _ _ _ _=>Aj⟩
end
end Go.Am
section
open Go Go.Am Go.Proofs
namespace Go.Am
def vB[M:Mch Ab](x p:Ae)(hp:0<p):Spec Ab 228 [.i .u64 x,.i .u64 p] (.i .u64 (x%p:Ae)):=by
 refine bU (N:=10) Tryz.func228 ?_;have h0:((p:Al)==0)=false:=by simp;omega
 have ht:((x:Al).tmod (p:Al))=(x:Al)%(p:Al):=Int.tmod_eq_emod_of_nonneg (by omega);have h1:¬p=0:=by omega
 simp[-O,-U,↓KW,h0,h1,ht]
def pJ[M:Mch Ab](p a b:Ae)(hp:0<p)(hab:a*b<18446744073709551616):Spec Ab 141 [.i .u64 p,.i .u64 a,.i .u64 b] (.i .u64 (a*b%p:Ae)):=by
 refine bU (N:=12) Tryz.func141 ?_;have hw:Bh.wrap ((a:Al)*(b:Al))=((a*b:Ae):Al):=by rw[<-Di];exact wrap_u64 (by omega) (by omega)
 have hR:=vB (a*b) p hp;generalize a*b%p=r at *;generalize a*b=z at *;simp[-O,-U,↓KW,hw];refine aL hR ?_;simp[-O,-U,↓KW]
def uE(p:Ae):Ae->Ae->Ae->Ae->Ae
 |0,r,_,_=>r
 |n+1,r,a,e=>if e=0 then r else uE p n (if e%2=1 then r*a%p else r) (a*a%p) (e/2)
def aZf(p n r a:Ae):uE p n r a 0=r:=by cases n<;>simp[uE]
def aVe[M:Mch Ab](p a e:Ae)(hp:0<p)(hp1:p<=2147483648)(ha:a<=2147483648)(he:e<18446744073709551616) :
 Spec Ab 222 [.i .u64 p,.i .u64 a,.i .u64 e] (.i .u64 (uE p 64 (1%p) a e:Ae)):=by
 refine bU (N:=26) Tryz.func222 ?_
 have hR:=vB 1 p hp
 simp[-O,-U,↓KW]
 refine aL hR ?_
 simp[-O,-U,↓KW]
 have hm:∀x:Ae,x%p<=2147483648:=λx=>by have:=B9 x hp;omega
 have hmm:∀x y:Ae,x<=2147483648->y<=2147483648->x*y<18446744073709551616:=λx y h1 h2=>Bv (BO h1 h2) (by decide)
 obtain⟨R,hRR⟩:∃R,uE p 64 (1%p) a e=R:=⟨_,rfl⟩
 have hc1:((1:Al)%(p:Al))=((1%p:Ae):Al):=by simp
 rw[hRR,hc1]
 have hr0:=hm 1
 generalize 1%p=r0 at *
 refine nL (τ:={ x:Ae×Ae×Ae×Ae // uE p x.1 x.2.1 x.2.2.1 x.2.2.2=R/\x.2.2.2<2^x.1/\x.1<=64/\x.2.1<=2147483648/\x.2.2.1<=2147483648 })
  (S:=λx=>StL [(0,.d (.i .u64 p)),(1,.d (.i .u64 (x.1.2.2.1:Ae))),(2,.d (.i .u64 (x.1.2.2.2:Ae))),(7,.d (.i .u64 (x.1.2.1:Ae)))] Aj []) (m:=λx=>x.1.1) ⟨(64,r0,a,e),hRR,by simpa using he,AM _,hr0,ha⟩ ?_ ?_
 .refine wkQ [] ?_ ?_<;>simp[-O,upd,bH,Γ0]
 .rintro⟨⟨n,r,a,e⟩,h1,h2,h3,h4,h5⟩
  simp only at h1 h2 h3 h4 h5 ⊢
  rcases BB e with he0|he0
  .subst he0
   rw[aZf]at h1
   subst h1
   simp[-O,-U,↓KW]
  .obtain⟨n,rfl⟩:∃k,n=k+1:=by
    cases n with
    |zero=>simp at h2;omega
    |succ n=>exact⟨n,rfl⟩
   have hsh:cY .shr .u64 (e:Al) 1=Aa (.i .u64 ((e/2:Ae):Al)):=by simp only[cY,Df];rw[Ap (by decide)];congr 2;rw[show(2:Al)^(min (1:Al).toNat 64)=2 from by decide,D4 _ (by decide)];simp
   have heb:e<18446744073709551616:=Be h2 (Bg (CL (by decide) h3) (by decide))
   have hbt:bits .and .u64 (e:Al) 1=((e%2:Ae):Al):=by have:=bits_and_u64_nat e 1 heb (by decide);rw[Nat.and_one_is_mod]at this;exact this
   have hn2:e/2<2^n:=by rw[CI]at h2;omega
   unfold uE at h1
   rw[Ap (by omega)]at h1
   have hM2:=pJ p a a hp (hmm a a h5 h5)
   have hm2:=hm (a*a)
   generalize a*a%p=a2 at *
   generalize e/2=e2 at *
   by_cases hodd:e%2=1
   .have hM1:=pJ p r a hp (hmm r a h4 h5)
    have hm1:=hm (r*a)
    rw[AB hodd]at h1
    generalize r*a%p=r2 at *
    rw[hodd]at hbt
    replace hbt:dT .and Az (.d (.i .u64 (e:Al))) (.d (.i .u64 1))=Aa (.i .u64 1):=by show Aa (D.i .u64 (bits .and .u64 (e:Al) 1))=_;rw[hbt];rfl
    simp[-O,-U,↓KW,he0,hbt]
    refine aL hM1 ?_
    simp[-O,-U,↓KW]
    refine aL hM2 ?_
    simp[-O,-U,↓KW,hsh]
    refine⟨n,CM _,r2,a2,e2,⟨h1,hn2,by omega,hm1,hm2⟩,.inr (wkQ [] ?_ ?_)⟩<;>simp[-O,upd,bH,Γ0]
   .have hz:e%2=0:=by omega
    rw[Ap hodd]at h1
    rw[hz]at hbt
    replace hbt:dT .and Az (.d (.i .u64 (e:Al))) (.d (.i .u64 1))=Aa (.i .u64 0):=by show Aa (D.i .u64 (bits .and .u64 (e:Al) 1))=_;rw[hbt];rfl
    simp[-O,-U,↓KW,he0,hbt]
    refine aL hM2 ?_
    simp[-O,-U,↓KW,hsh]
    refine⟨n,CM _,r,a2,e2,⟨h1,hn2,by omega,h4,hm2⟩,.inr (wkQ [] ?_ ?_)⟩<;>simp[-O,upd,bH,Γ0]
def EPc(f:AU)(ds:Ad D):Aq D :=
 if f=222 then match ds with
  |[.i .u64 p,.i .u64 a,.i .u64 e]=>if 0<p/\p<=2147483648/\0<=a/\a<=2147483648/\0<=e/\e<18446744073709551616 then Aa (.i .u64 (uE p.toNat 64 (1%p.toNat) a.toNat e.toNat:Ae))else Aj
  |_=>Aj
 else if f=141 then match ds with
  |[.i .u64 p,.i .u64 a,.i .u64 b]=>if 0<p/\0<=a/\0<=b/\a*b<18446744073709551616 then Aa (.i .u64 (a.toNat*b.toNat%p.toNat:Ae))else Aj
  |_=>Aj
 else Aj
def cAx[M:Mch Ab]{f:AU}{ds:Ad D}{r:D}(h:EPc f ds=Aa r):Spec Ab f ds r:=by
 unfold EPc at h;split at h
 .rename_i hf;subst hf;split at h
  .rename_i p a e;split at h
   .rename_i hc;injection h with h;subst h
    obtain⟨h1,h2,h3,h4,h5,h6⟩:=hc;have:=aVe p.toNat a.toNat e.toNat (by omega) (by omega) (by omega) (by omega);rwa [Cj (by omega),Cj h3,Cj h5]at this
   .cases h
  .cases h
 .split at h
  .rename_i hf;subst hf;split at h
   .rename_i p a b;split at h
    .rename_i hc;injection h with h;subst h
     obtain⟨h1,h2,h3,h4⟩:=hc;have:=pJ p.toNat a.toNat b.toNat (by omega) (by
      have:((a.toNat*b.toNat:Ae):Al)=a*b:=by rw[Di,Cj h2,Cj h3]
      omega)
     rwa [Cj (by omega),Cj h2,Cj h3]at this
    .cases h
   .cases h
  .cases h
def EP:Kn:={ E00 with call:=EPc }
def aXm[M:Mch Ab]:oB Ab EP:=⟨λf ds r h=>cAx h,λ_ _ _ _ _ _ h=>by(cases h),λ_ _ h=>by(cases h),λ_ _ h=>by(cases h),λ_ _ _ _ _ _ _ _ h=>by(cases h)⟩
noncomputable def prB(n:Ae):Ae:=match(kC Ab EP 100 20).call 129 [.i .u64 n]with
 |some (.b Ak)=>1
 |some (.b Az)=>2
 |_=>0
def bGc[M:Mch Ab]{n:Ae}{b:Bw}(h:prB n=if b then 1 else 2):Spec Ab 129 [.i .u64 n] (.b b):=by
 refine(mF (fuel:=100) aT aXm 20).call _ _ _ ?_;unfold prB at h;split at h
 .rename_i he;rw[he];cases b<;>first|rfl|cases h
 .rename_i he;rw[he];cases b<;>first|rfl|cases h
 .cases b<;>cases h
noncomputable def aDb(n m:Ae):Bw:=(AW (n-m)).all λk=>prB (m+k)==if k==0 then 1 else 2
def gH[M:Mch Ab]{n m:Ae}(h:m<n)(hn:n<=2147483648)(hg:aDb n m=Ak):Spec Ab 216 [.i .u64 n] (.i .u64 m):=by
 refine aTu n m h hn λv h1 h2=>bGc ?_
 have:=A1.1 hg (v-m) (Cc.2 (by omega));rw[show m+(v-m)=v from by omega,C6]at this;rw[this];by_cases hv:v=m
 .subst hv;simp
 .have:v-m≠0:=by omega
  simp[hv,this]
def cHe:aDb 2147483648 2147483647=true:=by kernel_rfl
def cHd:aDb 2147483647 2147483629=true:=by kernel_rfl
def cHc:aDb 2147483629 2147483587=true:=by kernel_rfl
def cHb:aDb 2147483587 2147483579=true:=by kernel_rfl
def cHa:aDb 2147483579 2147483563=true:=by kernel_rfl
def cGz:aDb 2147483563 2147483549=true:=by kernel_rfl
def cGy:aDb 2147483549 2147483543=true:=by kernel_rfl
def cGx:aDb 2147483543 2147483497=true:=by kernel_rfl
def cGw:aDb 2147483497 2147483489=true:=by kernel_rfl
def cGv:aDb 2147483489 2147483477=true:=by kernel_rfl
def P10:Ad Ae:=[2147483647,2147483629,2147483587,2147483579,2147483563,2147483549,2147483543,2147483497,2147483489,2147483477]
def bKi[M:Mch Ab]:jZ 2147483648 P10 :=
 ⟨by decide,by decide,gH (by decide) (by decide) cHe,by decide,by decide,gH (by decide) (by decide) cHd,by decide,by decide,gH (by decide) (by decide) cHc,by decide,by decide,gH (by decide) (by decide) cHb,by decide,by decide,gH (by decide) (by decide) cHa,by decide,by decide,gH (by decide) (by decide) cGz,by decide,by decide,gH (by decide) (by decide) cGy,by decide,by decide,gH (by decide) (by decide) cGx,by decide,by decide,gH (by decide) (by decide) cGw,by decide,by decide,gH (by decide) (by decide) cGv,trivial⟩
def jZ.drop[M:Mch Ab]:∀{k n:Ae} {l:Ad Ae},jZ n l->k<l.length->jZ (if k=0 then n else l[k-1]!) (l.drop k)
 |0,n,l,h,_=>h
 |k+1,n,[],h,hk=>by simp at hk
 |1,n,x::l,h,hk=>h.2.2.2
 | k+2,n,x::l,h,hk=>by have:=jZ.drop (k:=k+1) h.2.2.2 (by simp only[Av]at hk;omega);simpa using this
def jZ.take[M:Mch Ab]:∀{k n:Ae} {l:Ad Ae},jZ n l->jZ n (l.take k)
 |0,n,l,h=>trivial
 |k+1,n,[],h=>trivial
 |k+1,n,x::l,h=>⟨h.1,h.2.1,h.2.2.1,jZ.take h.2.2.2⟩
def bBe(m n:Ae):jU (bJ m) (bJ n)=0↔m=n:=by
 unfold jU;rw[fU,fU];by_cases h1:m<n
 .simp[h1];omega
 .by_cases h2:n<m
  .simp[h1,h2];omega
  .simp[h1,h2];omega
def bKw(a b:Ad Ae):-1<=jU a b/\jU a b<=1:=by
 unfold jU;split
 .exact⟨by decide,by decide⟩
 .split<;>exact⟨by decide,by decide⟩
def bKv(m n:Ae):jU (bJ m) (bJ n)=if m<n then -1 else if n<m then 1 else 0:=by
 unfold jU;rw[fU,fU];by_cases h1:m<n
 .simp[h1]
 .by_cases h2:n<m
  .simp[h1,h2]
  .simp[h1,h2]
def sJ(x:Al):x.sign=if x<0 then -1 else if x=0 then 0 else 1:=by
 rcases GX x 0 with h|h|h
 .rw[Fw h,AB h]
 .subst h;rfl
 .rw[Fa h,Ap (by omega),Ap (by omega)]
def bPc{x y:Al}(hs:x.sign=y.sign):(0<x.sign*jU (bJ x.natAbs) (bJ y.natAbs)↔y<x)/\(x.sign*jU (bJ x.natAbs) (bJ y.natAbs)<0↔x<y):=by rw[bKv];rw[sJ,sJ]at hs;rw[sJ];split at hs<;>(try split at hs)<;>(try split at hs)<;>(try split at hs)<;>simp_all<;>(try omega);all_goals (split<;>(try split)<;>omega)
def bEk{x y:Al}(hs:¬x.sign=y.sign):(0<mY x.sign y.sign↔y<x)/\(mY x.sign y.sign<0↔x<y):=by unfold mY;rw[sJ,sJ]at hs ⊢;split at hs<;>(try split at hs)<;>(try split at hs)<;>(try split at hs)<;>simp_all<;>(try omega)
def aAk[M:Mch Ab](x y:Al)(hx:Sz x)(hy:Sz y):∃r:Al,Spec Ab 63 [encZ x,encZ y] (.i .i64 r)/\(0<r↔y<x)/\(r<0↔x<y):=by
 have hSx:=wA x hx;have hSy:=wA y hy;have hTx:=iV (bJ x.natAbs) (Bg hx (by decide));have hTy:=iV (bJ y.natAbs) (Bg hy (by decide));rw[kV (mR _)]at hTx hTy;have hC:=uH (bJ x.natAbs) (bJ y.natAbs) (dH _) (dH _) (Bg hx (by decide)) (Bg hy (by decide));have hc0:=bBe x.natAbs y.natAbs;have hcb:=bKw (bJ x.natAbs) (bJ y.natAbs);have hI:=bKx x.sign y.sign;by_cases hs:x.sign=y.sign
 .refine⟨x.sign*jU (bJ x.natAbs) (bJ y.natAbs),?_,?_⟩
  rotate_left
  .exact bPc hs
  .refine bU (N:=26) Tryz.func63 ?_;have hne:((x.sign != y.sign):Bw)=false:=by simp[hs]
   have hsb:-1<=x.sign/\x.sign<=1:=by
    rcases GX x 0 with h|h|h
    .rw[Fw h];decide
    .subst h;decide
    .rw[Fa h];decide
   generalize jU (bJ x.natAbs) (bJ y.natAbs)=r at *;generalize y.sign=sy at *;generalize x.sign=sx at *;have hw:Ax.wrap (sx*r)=sx*r:=by
    have h1:sx=-1\/sx=0\/sx=1:=by omega
    rcases h1 with rfl|rfl|rfl<;>exact bP
   simp[-O,-U,↓KW,cX,bE];refine aL hSx ?_;simp[-O,-U,↓KW,cX,bE];refine aL hSy ?_;simp[-O,-U,↓KW,hne,bE];refine aL hTx ?_;simp[-O,-U,↓KW,bE];refine aL hTy ?_;simp[-O,-U,↓KW,bE];refine aL hC ?_;simp[-O,-U,↓KW,hw,bE]
 .refine⟨mY x.sign y.sign,?_,?_⟩
  rotate_left
  .exact bEk hs
  .refine bU (N:=26) Tryz.func63 ?_;have hne:((x.sign != y.sign):Bw)=true:=by simpa using hs
   generalize y.sign=sy at *;generalize x.sign=sx at *;simp[-O,-U,↓KW,cX,bE];refine aL hSx ?_;simp[-O,-U,↓KW,cX,bE];refine aL hSy ?_;simp[-O,-U,↓KW,hne,bE];refine aL hI ?_;simp[-O,-U,↓KW]
def aWg[M:Mch Ab](x y:Al)(hx:Sz x)(hy:Sz y):∃r:Al,Spec Ab 63 [encZ x,encZ y] (.i .i64 r)/\(0<r↔y<x) :=
 let ⟨r,h1,h2,_⟩:=aAk x y hx hy;⟨r,h1,h2⟩
def gV{P:As}(σ:St)(x y:ResultVar):jM P [x,y] σ=(jN P σ x).bind λa=>(jN P σ y).bind λb=>(frz σ.H 8 a).bind λu=>(frz σ.H 8 b).bind λv=>Aa (.tp [u,v]):=by unfold jM;cases h1:jN P σ x<;>cases h2:jN P σ y<;>simp[cK,h1,h2];rename_i a b;cases frz σ.H 8 a<;>cases frz σ.H 8 b<;>simp
def bXz{P:As}(σ:St)(x y z:ResultVar):jM P [x,y,z] σ=(jN P σ x).bind λa=>(jN P σ y).bind λb=>(jN P σ z).bind λc=>(frz σ.H 8 a).bind λu=>(frz σ.H 8 b).bind λv=>(frz σ.H 8 c).bind λw=>Aa (.tp [u,v,w]):=by unfold jM;cases h1:jN P σ x<;>cases h2:jN P σ y<;>cases h3:jN P σ z<;>simp[cK,h1,h2,h3];rename_i a b c;cases frz σ.H 8 a<;>cases frz σ.H 8 b<;>cases frz σ.H 8 c<;>simp
def aKa{n:Ae}(h0:n≠0)(h:n<4294967296):bJ n=[n]:=by rw[gB h0,Cr h,DW h,cN]
def aOh{n:Ae}(h0:n≠0)(h:n<4294967296):encZ (n:Al)=.ag [.b Az,.sl [[.i .u32 (n:Al)]]]:=by
 have hd:decide ((n:Al)<0)=false:=by simp
 rw[cX,hd];simp[aZ,aKa h0 h]
def bIp[M:Mch Ab]:Spec Ab 107 [.i .i64 1] (encZ 1):=by rw[show(1:Al)=((1:Ae):Al)from rfl,aOh (by decide) (by decide)];exact(mF (fuel:=100) aT aXm 20).call 107 [.i .i64 1] (.ag [.b Az,.sl [[.i .u32 1]]]) (by kernel_rfl)
noncomputable def wdB(p:Ae):Bw:=match(kC Ab EP 100 20).call 115 [.i .u64 p]with
 |some (.ag [.b Az,.sl [[.i .u32 q]]])=>q==(p:Al)
 |_=>Az
def cBs[M:Mch Ab]{p:Ae}(h0:p≠0)(h:p<4294967296)(hw:wdB p=Ak):Spec Ab 115 [.i .u64 p] (encZ (p:Al)):=by
 rw[aOh h0 h];refine(mF (fuel:=100) aT aXm 20).call _ _ _ ?_;unfold wdB at hw;split at hw
 .rename_i q he;rw[he,C6]at *;subst hw;rfl
 .cases hw
def cFd:(P10.all wdB)=true:=by kernel_rfl
def bCw[M:Mch Ab]{p:Ae}(h:p∈P10):Spec Ab 115 [.i .u64 p] (encZ (p:Al)):=by
 have hb:∀q∈P10,q≠0/\q<4294967296:=by decide
 exact cBs (hb p h).1 (hb p h).2 (A1.1 cFd p h)
def tZ{z:Al}(h:z.natAbs<2^256):Sz z:=by have:=cV (n:=z.natAbs) (k:=8) (Be h (by decide));unfold Sz;omega
def cGe:Sz 1:=tZ (by decide)
def aWn[M:Mch Ab](b:Al)(hb:Sz b)(hb2:Sz (b+b))(h0:0<=b):Spec Ab 60 [.sl [],encZ b] (.b (decide (b=0))):=by
 refine bU (N:=26) Tryz.func60 ?_;have hA:=aAl b b hb hb;obtain⟨r,hC,hr⟩:=aWg 1 (b+b) (cGe) hb2;have hd:decide (0<r)=decide (b=0):=by
  by_cases h:b=0
  .subst h;simp[hr.2]
  .have:¬0<r:=λh'=>h (by have:=hr.1 h';omega)
   simp[h,this]
 generalize b+b=c at *;simp[-O,-U,↓KW,cX b,bE];refine aL bIp ?_;rw[cX 1];simp[-O,-U,↓KW,bE];refine eR 2 ?_;simp[-O,-U,↓KW,↓aF,↓aA,↓aG,↓aH,bE];refine aL hA ?_;rw[cX c];simp[-O,-U,↓KW,bE];refine aL hC ?_;simp[-O,-U,↓KW,hd]
def cB(n:Ae):D:=.ag [.b Az,aZ (bJ n)]
def aY(n:Ae):cB n=.ag [.b Az,aZ (bJ n)]:=rfl
def fQ(n:Ae):encZ (n:Al)=cB n:=by rw[cX,aY];simp
def szN{n:Ae}(h:n<2^256):Sz (n:Al):=tZ (by simpa using h)
def aKj[M:Mch Ab]{x y:Ae}(hx:x<2^256)(hy:y<2^256):Spec Ab 73 [cB x,cB y] (cB (x+y)):=by have:=aAl (x:Al) (y:Al) (szN hx) (szN hy);rwa [<-Em,fQ,fQ,fQ]at this
def aJd[M:Mch Ab]{x y:Ae}(hx:x<2^256)(hy:y<2^256):Spec Ab 114 [cB x,cB y] (cB (x*y)):=by have:=aJl (x:Al) (y:Al) (szN hx) (szN hy);rwa [<-Di,fQ,fQ,fQ]at this
def bKu[M:Mch Ab]{x y:Ae}(hx:x<2^256)(hy:y<2^256):∃r:Al,Spec Ab 63 [cB x,cB y] (.i .i64 r)/\(0<r↔y<x):=by obtain⟨r,h1,h2⟩:=aWg (x:Al) (y:Al) (szN hx) (szN hy);rw[fQ,fQ]at h1;exact⟨r,h1,by rw[h2];omega⟩
def cGl[M:Mch Ab]:Spec Ab 107 [.i .i64 1] (cB 1):=by rw[<-fQ];exact bIp
def cBm[M:Mch Ab]{p:Ae}(h:p∈P10):Spec Ab 115 [.i .u64 p] (cB p):=by rw[<-fQ];exact bCw h
def bTn[M:Mch Ab]{b:Ae}(h0:0<b)(h:b<2^200):Spec Ab 60 [.sl [],cB b] (.b Az):=by have:=aWn (b:Al) (szN (by omega)) (tZ (by omega)) (by omega);rwa [Cn (by omega),fQ]at this
def dJ:Ad Ae->Ae
 |[]=>1
 |p::l=>p*dJ l
def aCd(l:Ad Ae)(p:Ae):dJ (l++[p])=dJ l*p:=by
 induction l with
 |nil=>simp[dJ]
 |cons x l ih=>simp only[Cz,dJ,ih,C7]
def xP:∀(l:Ad Ae),(∀p∈l,p<2147483648)->dJ l<=2147483648^l.length
 |[],_=>by simp[dJ]
 | p::l,h=>by
  have h1:=h p (AX ..);have h2:=xP l λq hq=>h q (AT _ hq)
  simp only[dJ,Av,CI];rw[Da];exact BO h2 (by omega)
structure Ndd(b:Ae)(l:Ad Ae):Prop where
 big:2*b<dJ l
 low:∀k,k<l.length->dJ (l.take k)<=2*b
def neF(c:Ae):Ad Ae->St
 |[]=>StL [(4,.ptr 1 0),(5,.ptr 2 0),(6,.ptr 3 0),(7,.ptr 4 0)] Aj [.cells 43 [.nil],.cells 43 [.nil],.cells 35 [.d (.b Az),.d (aZ (bJ 1))],.cells 35 [.d (.b Az),.d (aZ (bJ c))]]
 |x::l=>StL [(4,.ptr 1 0),(5,.ptr 2 0),(6,.ptr 3 0),(7,.ptr 4 0)] Aj [.cells 43 [.nil],.cells 43 [.own 5 0 (l.length+1) 1],.cells 35 [.d (.b Az),.d (aZ (bJ (dJ (x::l))))],.cells 35 [.d (.b Az),.d (aZ (bJ c))],.cells 46 ((dU (x::l)).map .d)]
def neS(c:Ae)(L:Ad Ae)(k:Ae):St :=
 if k<L.length then neF c (L.take k)else StL [(4,.ptr 1 0)] Aj [.cells 43 [.own 2 0 L.length 1],.cells 46 ((dU L).map .d)]
def aRz[M:Mch Ab](b n p0:Ae)(ps:Ad Ae)(hb:b<2^100)(hb0:0<b)(hd:jZ n (p0::ps))(hl:ps.length<=6)(hn:Ndd b (p0::ps))(hw:∀p∈p0::ps,Spec Ab 115 [.i .u64 p] (cB p)) :
 Spec Ab 44 [cB b,.i .u64 n] (cO (p0::ps)):=by
 have hx0:∀k:Ae,(psL (p0::ps))[k]? = ((p0::ps)[k]?).map (λ(p:Ae)=>[D.i .u64 (p:Al)]):=λk=>by simp only[psL,Ao]
 have hlen:(psL (p0::ps)).length=(p0::ps).length:=by simp[psL]
 have hseq:=aPc n p0 ps hd
 have hE:=bTn hb0 (Be hb (by decide))
 have hA:=aKj (x:=b) (y:=b) (by omega) (by omega)
 have hlL:(p0::ps).length<=7:=by simp;omega
 have hL0:0<(p0::ps).length:=by simp
 have hlt:∀p∈p0::ps,p<2147483648:=λp hp=>by obtain⟨k,hk,rfl⟩:=BE.1 hp;exact(jZ.pos hd (Ac hk)).2
 generalize p0::ps=L at *
 obtain⟨hbig,hlow⟩:=hn
 rw[<-Nat.two_mul]at hA
 have hc:2*b<2^256:=by omega
 generalize 2*b=c at *
 have hO:=cGl
 refine qY (N:=31) aT Tryz.func44 rfl rfl rfl (by kernel_rfl) (by kernel_rfl) (by simp) ?_
 refine dD (by kernel_rfl) ?_
 simp[-O,-U,↓KW,↓aF,↓aA,↓aG,↓aH,aY b,iB,mG]
 refine dD (by kernel_rfl) ?_
 simp[-O,-U,↓KW,↓aF,↓aA,↓aG,↓aH,aY b,bE]
 refine aL hE ?_
 simp[-O,-U,↓KW,↓aF,↓aA,↓aG,↓aH,aY b,bE]
 refine dD (by kernel_rfl) ?_
 simp[-O,-U,↓KW,↓aF,↓aA,↓aG,↓aH]
 refine dD (by kernel_rfl) ?_
 simp[-O,-U,↓KW,↓aF,↓aA,↓aG,↓aH,bE]
 refine aL hO ?_
 rw[aY 1]
 simp[-O,-U,↓KW,↓aF,↓aA,↓aG,↓aH,bE]
 refine aL hA ?_
 rw[aY c]
 simp[-O,-U,↓KW,↓aF,↓aA,↓aG,↓aH,bE]
 refine aEa (P:=Ab) ?_
 refine dD (by kernel_rfl) ?_
 simp[-O,-U,↓KW,↓aF,↓aA,↓aG,↓aH]
 refine aL (aHf n) ?_
 simp[-O,-U,↓KW,↓aF,↓aA,↓aG,↓aH]
 refine uN ?_
 refine rU (psL L) (λk=>neS c L k) [8,17,18,19,20,21,22,23,24,25,26,27,28,29,30] .ret .ret (.inl rfl) (gf:=215) (caps:=[.pt [.i .u64 n]]) (by rfl) (by rfl) (by rfl) hseq ?_ (by kernel_rfl) (by rw[hlen];omega) ?_ ?_ ?_
 .show ∃ρ,Wk _ (neS c L 0) ρ
  unfold neS
  rw[AB hL0,Ct]
  refine wkQ [2,3,4,5] ?_ ?_<;>simp[-O,upd,bH,Γ0,neF]
 .intro k x hk hx
  rw[hlen]at hk
  rw[hx0,Ai]at hx
  obtain⟨p,hp,rfl⟩:=hx
  refine⟨rfl,?_⟩
  have hpL:=At hp
  have hW:=hw p hpL
  have hp31:=hlt p hpL
  have htl:(L.take k).length=k:=by rw[Bt];omega
  have hPb:dJ (L.take k)<=2147483648^7:=Bg (xP _ λq hq=>hlt q (BS hq)) (CL (by decide) (by omega))
  have hP2:dJ (L.take k)*p<2^256:=Bv (BO hPb (Dz hp31)) (by decide)
  have hM:=aJd (x:=dJ (L.take k)) (y:=p) (Bv hPb (by decide)) (by omega)
  obtain⟨r,hC,hr⟩:=bKu (x:=dJ (L.take k)*p) (y:=c) hP2 hc
  have hsn:L.take (k+1)=L.take k++[p]:=by rw[BG,hp];rfl
  have hps:=aCd (L.take k) p
  have hle:=hlow (k+1) hk
  rw[hsn,hps]at hle
  have hrr:¬0<r:=λh=>by have:=hr.1 h;omega
  unfold neS
  rw[AB (by omega),AB hk,hsn]
  generalize L.take k=T at *
  generalize hPp:dJ T*p=Pp at *
  cases T with
  | nil =>
   have hm1:(1:Ae)<=maxLen:=bY (by decide)
   show AWP _ _ ⟨upd (neF c []).Γ 17 (.d (.i .u64 (p:Al))),(neF c []).H,(neF c []).n⟩ _
   change Spec _ _ [cB 1,cB p] _ at hM
   simp[-O,-U,↓KW,↓aF,↓aA,↓aG,↓aH,neF,hm1,bE]
   refine aL hW ?_
   rw[aY p]
   simp[-O,-U,↓KW,↓aF,↓aA,↓aG,↓aH,bE]
   refine aL hM ?_
   rw[aY Pp]
   simp[-O,-U,↓KW,↓aF,↓aA,↓aG,↓aH,bE]
   refine aL hC ?_
   simp[-O,-U,↓KW,↓aF,↓aA,↓aG,↓aH,hrr,bE]
   have hps':dJ [p]=Pp:=hps
   refine wkQ [1,2,3,4,6] ?_ ?_<;>simp[-O,upd,bH,Γ0,Ci,cH,kU,nZ,hps']
  | cons y T =>
   have hps':dJ (y::(T++[p]))=Pp:=hps
   have hbb:=kO (n:=T.length+1) (by simp at htl;omega)
   show AWP _ _ ⟨upd (neF c (y::T)).Γ 17 (.d (.i .u64 (p:Al))),(neF c (y::T)).H,(neF c (y::T)).n⟩ _
   simp[-O,-U,↓KW,↓aF,↓aA,↓aG,↓aH,neF,fC,hbb,bY,bE]
   refine aL hW ?_
   rw[aY p]
   simp[-O,-U,↓KW,↓aF,↓aA,↓aG,↓aH,bE]
   refine aL hM ?_
   rw[aY Pp]
   simp[-O,-U,↓KW,↓aF,↓aA,↓aG,↓aH,bE]
   refine aL hC ?_
   simp[-O,-U,↓KW,↓aF,↓aA,↓aG,↓aH,hrr,bE]
   refine wkQ [1,2,3,4,7] ?_ ?_<;>simp[-O,upd,bH,Γ0,Ci,cH,kU,nZ,hps']
 .intro k x hk hx
  rw[hlen]at hk
  rw[hx0,Ai]at hx
  obtain⟨p,hp,rfl⟩:=hx
  refine⟨rfl,?_⟩
  have hpL:=At hp
  have hW:=hw p hpL
  have hp31:=hlt p hpL
  have htl:(L.take k).length=k:=by rw[Bt];omega
  have hPb:dJ (L.take k)<=2147483648^7:=Bg (xP _ λq hq=>hlt q (BS hq)) (CL (by decide) (by omega))
  have hP2:dJ (L.take k)*p<2^256:=Bv (BO hPb (Dz hp31)) (by decide)
  have hM:=aJd (x:=dJ (L.take k)) (y:=p) (Bv hPb (by decide)) (by omega)
  obtain⟨r,hC,hr⟩:=bKu (x:=dJ (L.take k)*p) (y:=c) hP2 hc
  have hsn:L.take (k+1)=L.take k++[p]:=by rw[BG,hp];rfl
  have hps:=aCd (L.take k) p
  have hLe:L.take (k+1)=L:=by rw[hk];exact List.take_length
  rw[hLe]at hsn
  rw[hLe.symm.trans (hLe.trans hsn),hps]at hbig
  have hrr:0<r:=hr.2 hbig
  unfold neS
  rw[AB (by omega),Ap (by omega)]
  have hTl:L.length=k+1:=hk.symm
  rw[hTl]
  generalize L.take k=T at *
  subst hsn
  generalize hPp:dJ T*p=Pp at *
  cases T with
  | nil =>
   have hm1:(1:Ae)<=maxLen:=bY (by decide)
   have hk0:k=0:=htl.symm
   subst hk0
   show AWP _ _ ⟨upd (neF c []).Γ 17 (.d (.i .u64 (p:Al))),(neF c []).H,(neF c []).n⟩ _
   change Spec _ _ [cB 1,cB p] _ at hM
   simp[-O,-U,↓KW,↓aF,↓aA,↓aG,↓aH,neF,hm1,bE]
   refine aL hW ?_
   rw[aY p]
   simp[-O,-U,↓KW,↓aF,↓aA,↓aG,↓aH,bE]
   refine aL hM ?_
   rw[aY Pp]
   simp[-O,-U,↓KW,↓aF,↓aA,↓aG,↓aH,bE]
   refine aL hC ?_
   simp[-O,-U,↓KW,↓aF,↓aA,↓aG,↓aH,hrr,bE]
   refine wkQ [1,6] ?_ ?_<;>simp[-O,upd,bH,Γ0,Ci,cH,kU,nZ]
  | cons y T =>
   have hk0:k=T.length+1:=htl.symm
   subst hk0
   have hbb:=kO (n:=T.length+1) (by omega)
   show AWP _ _ ⟨upd (neF c (y::T)).Γ 17 (.d (.i .u64 (p:Al))),(neF c (y::T)).H,(neF c (y::T)).n⟩ _
   simp[-O,-U,↓KW,↓aF,↓aA,↓aG,↓aH,neF,fC,hbb,bY,bE]
   refine aL hW ?_
   rw[aY p]
   simp[-O,-U,↓KW,↓aF,↓aA,↓aG,↓aH,bE]
   refine aL hM ?_
   rw[aY Pp]
   simp[-O,-U,↓KW,↓aF,↓aA,↓aG,↓aH,bE]
   refine aL hC ?_
   simp[-O,-U,↓KW,↓aF,↓aA,↓aG,↓aH,hrr,bE]
   refine wkQ [1,7] ?_ ?_<;>simp[-O,upd,bH,Γ0,Ci,cH,kU,nZ]
 .rw[hlen]
  unfold neS
  rw[Ap (by omega)]
  have hfl:=fC L
  simp[-O,-U,↓KW,↓aF,↓aA,↓aG,↓aH,cO,hfl,oP (rfl:L.length=L.length),jE (rfl:L.length=L.length)]
open Go.RowKit (Below)
def vA{P:As}(w:Ag)(t tn ty e:AF)(i:TypeInfo)(z:AE)(kq kn:BJ)(ht:P.underlying t=Aa (.slice e))(htn:P.underlying tn=Aa (.int kn))(hi:P.info? e=Aa i)(hz:i.zero=Aa z)
 (k:Ae) (h0:0<k) (hs:0<i.size) (h63:(k:Al)<=9223372036854775807) (h48:k*i.bytes<=281474976710656) :
 aU P (Cm #[t,tn] ty #[.slice Aj 0 0,.int kq k]) w =
  .ok (.slice (Aa ⟨w.heap.size,0,Aj⟩) k (grownCap w k 0 e))
   (w.drew.alloc (.cells (DH z.cells k++DH z.cells (grownCap w k 0 e-k)) e)):=by
 have hk:k≠0:=by omega
 have hw:Ax.wrap (k:Al)=k:=by rw[IntKind.wrap_i64];omega
 have h63':¬(9223372036854775807<(k:Al)):=by omega
 have h48':¬(281474976710656<Builtin.nextslicecap k 0*i.bytes):=by rw[nextslicecap_zero h0];omega
 have h48i:¬(281474976710656<(k:Al)*(i.bytes:Al)):=by rw[<-Di];omega
 have hneg:¬((k:Al)<0):=by omega
 have hns:¬(k*i.size=0):=Nat.mul_ne_zero hk (by omega)
 simp[Cm,aE ht,aE htn,sizeOf,typeInfo,zeroValue,hi,hz,asInt,asIntOf,hw,hk,hneg,hns,h63',h48',h48i,Question.forced,lI,newRow,grownCap]
structure AL(n:Ae)(l:Ad (Ae×AE))(a:Act):Prop where
 size:a.tmps.size=n
 defs:a.defers=[]
 get:∀t x,l.lookup t=Aa x->a.eval (.tmp t)=x
def AL.put{n:Ae}{l:Ad (Ae×AE)}{a:Act}(h:AL n l a){d:Ae}(hd:d<n)(x:AE):AL n ((d,x)::l) (a.put (Aa d) x) where
 size:=by simp[Act.put,h.size]
 defs:=h.defs
 get t y hy:=by
  have hg:=fZ a (Aa d) x (λ_ e=>by injection e with e;subst e;rw[h.size];exact hd) t;have he:(a.put (Aa d) x).eval (.tmp t)=if(Aa d:Aq Ae)=Aa t then x else a.eval (.tmp t):=by simpa[Dh]using hg
  rw[he];rw[Gj]at hy;by_cases e:t=d
  . subst e;simp at hy;simp[hy]
  . rw[show(t==d)=Az from by simp[e]]at hy
    rw[Ap (by simpa using Ne.symm e)]
    exact h.get t y hy
def evL(l:Ad (Ae×AE)):AN->Aq AE
 |.tmp t=>l.lookup t
 |.const v=>Aa v
 |_=>Aj
def AL.ev{n:Ae}{l:Ad (Ae×AE)}{a:Act}(h:AL n l a){o:AN}{x:AE}(hx:evL l o=Aa x):a.eval o=x:=by
 cases o with
 |tmp t=>exact h.get t x hx
 | const v => have e : v = x := by simpa[evL]using hx
              subst e;rfl
 |_=>cases hx
section
variable {P:As} [M:Mch P] {Q:Cf->Act->Ag->Prop} {ops:Aw Bf} {n:Ae} {l:Ad (Ae×AE)}
def sA{W v:Ag}{d:Ae}{op:Op}{ty:AF}{pos:String}{after:Aw Edge}{rest:Ad Bf}{a:Act}(x:AE)(hA:AL n l a)(he:Env W v)(hd:d<n)(hr:∀w,aU P (execOp a.eval ⟨Aa d,op,ty,pos,after,Aj⟩) w=.ok (.value x) w)
 (h:∀a' v',AL n ((d,x)::l) a'->Env W v'->gP P ops Q rest a' v'):gP P ops Q (⟨Aa d,op,ty,pos,after,Aj⟩::rest) a v:=by
 have hw:Bu (⟨Aa d,op,ty,pos,after,Aj⟩:Bf) (yielded ops a.tmps)=true:=rfl
 unfold gP
 rw[AB hw]
 intro v1 he1
 unfold wpX
 rw[hr]
 exact h _ _ (hA.put hd x) (he.trans he1)
def dv:D->AE
 |.b x=>.bool x
 |.i k n=>.int k n
 |_=>undef
def qV{W v:Ag}{dst:Ae}{op:BinOp}{t t2:AF}{x y:AN}{pos:String}{ty:AF}{after:Aw Edge}{rest:Ad Bf}{a:Act}{k k':BJ}{m m':Al}(d:D)(hA:AL n l a)(he:Env W v)(hdst:dst<n)(hx:evL l x=Aa (.int k m))(hy:evL l y=Aa (.int k' m'))
 (hd:dT op (aBf P t) (.d (.i k m)) (.d (.i k' m'))=Aa d) (hd2:(∃b,d=.b b)\/∃k n,d=.i k n)
 (h:∀a' v',AL n ((dst,dv d)::l) a'->Env W v'->gP P ops Q rest a' v'):gP P ops Q (⟨Aa dst,.binOp op t x y t2,ty,pos,after,Aj⟩::rest) a v:=by
 refine sA _ hA he hdst (λw=>?_) h
 obtain⟨z,⟨h1,h2⟩,hz⟩:=aLt (P:=P) (F:=λ_=>False) (w:=w) (ι:=λ_=>Aj) (u:=.int k m) (v:=.int k' m') hd (.d _ _ (.i k m)) (.d _ _ (.i k' m')) x y
 have hzd:z=dv d:=by rcases hd2 with ⟨b,rfl⟩|⟨k,n,rfl⟩<;>cases hz<;>rfl
 subst hzd
 simp[execOp,hA.ev hx,hA.ev hy,h1,h2]
def fG{W v:Ag}{dst:Ae}{x:AN}{pos:String}{ty:AF}{after:Aw Edge}{rest:Ad Bf}{a:Act}{u:AE}(hA:AL n l a)(he:Env W v)(hdst:dst<n)(hx:evL l x=Aa u)
 (h:∀a' v',AL n ((dst,u)::l) a'->Env W v'->gP P ops Q rest a' v'):gP P ops Q (⟨Aa dst,.move x,ty,pos,after,Aj⟩::rest) a v :=
 sA _ hA he hdst (λw=>by simp[execOp,hA.ev hx]) h
def tY{W v:Ag}{dst:Ae}{x:AN}{pos:String}{ty:AF}{after:Aw Edge}{rest:Ad Bf}{a:Act}{u:AE}(hA:AL n l a)(he:Env W v)(hdst:dst<n)(hx:evL l x=Aa u)
 (h:∀a' v',AL n ((dst,u)::l) a'->Env W v'->gP P ops Q rest a' v'):gP P ops Q (⟨Aa dst,.assign x,ty,pos,after,Aj⟩::rest) a v :=
 sA _ hA he hdst (λw=>by simp[execOp,hA.ev hx]) h
def aQa{W v:Ag}{dst:Ae}{x:AN}{pos:String}{ty t e:AF}{after:Aw Edge}{rest:Ad Bf}{a:Act}{b:Aq Addr}{len cap:Ae}(hA:AL n l a)(he:Env W v)(hdst:dst<n)(ht:P.underlying t=Aa (.slice e))(hx:evL l x=Aa (.slice b len cap))
 (h:∀a' v',AL n ((dst,.int .i64 cap)::l) a'->Env W v'->gP P ops Q rest a' v'):gP P ops Q (⟨Aa dst,.call ⟨.builtin .cap,#[x],#[t]⟩,ty,pos,after,Aj⟩::rest) a v :=
 sA _ hA he hdst (λw=>by simp[execOp,resolve,invoke,builtin,hA.ev hx,aE ht,Builtin.cap_];rfl) h
def aPz{W v:Ag}{dst:Ae}{x:AN}{pos:String}{ty t e:AF}{after:Aw Edge}{rest:Ad Bf}{a:Act}{b:Aq Addr}{len cap:Ae}(hA:AL n l a)(he:Env W v)(hdst:dst<n)(ht:P.underlying t=Aa (.slice e))(hx:evL l x=Aa (.slice b len cap))
 (h:∀a' v',AL n ((dst,.int .i64 len)::l) a'->Env W v'->gP P ops Q rest a' v'):gP P ops Q (⟨Aa dst,.call ⟨.builtin .len,#[x],#[t]⟩,ty,pos,after,Aj⟩::rest) a v :=
 sA _ hA he hdst (λw=>by simp[execOp,resolve,invoke,builtin,hA.ev hx,aE ht,Builtin.len_,Builtin.lenOf];rfl) h
def bWs{v:Ag}{d:Ae}{op:Op}{ty:AF}{pos:String}{after:Aw Edge}{rest:Ad Bf}{a:Act}(hA:AL n l a)(hd:d<n)
 (h:∀v1,Env v v1->∃x w1,aU P (execOp a.eval ⟨Aa d,op,ty,pos,after,Aj⟩) v1=.ok (.value x) w1/\∀a',AL n ((d,x)::l) a'->gP P ops Q rest a' w1):gP P ops Q (⟨Aa d,op,ty,pos,after,Aj⟩::rest) a v:=by
 have hw:Bu (⟨Aa d,op,ty,pos,after,Aj⟩:Bf) (yielded ops a.tmps)=true:=rfl
 unfold gP
 rw[AB hw]
 intro v1 he1
 obtain⟨x,w1,h1,h2⟩:=h v1 he1
 unfold wpX
 rw[h1]
 exact h2 _ (hA.put hd x)
def aFl{W v:Ag}{dst:Ae}{x hi:AN}{pos:String}{ty t e:AF}{sz:Ae}{after:Aw Edge}{rest:Ad Bf}{a:Act}{b:Aq Addr}{len cap:Ae}(hA:AL n l a)(he:Env W v)(hdst:dst<n)(ht:tel P t=Aa e)(hs:tsz P e=Aa sz)(hc:len<=cap)(hx:evL l x=Aa (.slice b len cap))(hh:evL l hi=Aa (.int .i64 0))(hb:b=Aj/\cap=0\/0<cap/\∃k,b=Aa ⟨k,0,Aj⟩)
 (h:∀a' v',AL n ((dst,.slice b 0 cap)::l) a'->Env W v'->gP P ops Q rest a' v'):gP P ops Q (⟨Aa dst,.slice t x Aj (Aa hi) Aj,ty,pos,after,Aj⟩::rest) a v:=by
 refine sA _ hA he hdst (λw=>?_) h
 have hr:=nW (P:=P) w ht hs b len cap hc Aj (Aa (.int .i64 0)) Aj 0 0 (.inl ⟨rfl,rfl⟩) (.inr ⟨_,rfl⟩) (by omega) (by omega) (by omega) cap (.inl ⟨rfl,rfl⟩)
 simp only[execOp,hA.ev hx,hA.ev hh,Bj,Option.map_none,aB,hr,AR]
 rcases hb with ⟨rfl,rfl⟩|⟨h0,k,rfl⟩
 . simp
 . simp[Addr.add,Nat.ne_of_gt h0]
def mC{a:Act}{v:Ag}(h:Q .normal a v):gP P ops Q [] a v:=h
end
def AL.start(x y:AE)(k:Ae):AL (2+k) [(0,x),(1,y)] ⟨#[x,y]++Bd k undef,[]⟩ where
 size:=by simp
 defs:=rfl
 get t z hz:=by
  have h2:∀t,t<2->(#[x,y]++Bd k undef:Aw AE).getD t undef=(#[x,y]:Aw AE).getD t undef:=λt ht=>by simp only[Au];rw[B5 (by simpa using ht)]
  match t with
  |0=>rw[Gj]at hz;simp at hz;subst hz;show Array.getD _ _ _=_;rw[h2 0 (by decide)];rfl
  |1=>simp[Gj]at hz;subst hz;show Array.getD _ _ _=_;rw[h2 1 (by decide)];rfl
  |t+2=>simp[Gj]at hz
noncomputable def aYe:TypeInfo:=((Ab).info? 46).get (by kernel_rfl)
def bOl:(Ab).info? 46=Aa aYe:=by kernel_rfl
noncomputable def bDq:Value:=aYe.zero.get (by kernel_rfl)
def aYc:aYe.zero=Aa bDq:=by kernel_rfl
def aYb:bDq.cells.size=1:=by kernel_rfl
def aYd:aYe.size=1:=by kernel_rfl
def aQf:aYe.bytes=8:=by kernel_rfl
def bJb[M : Mch Ab](n : Ae)(W : Ag)(h0 : 0 < n)(hn : n <= 1000000) : CX Ab 146 #[.slice Aj 0 0, .int .i64 n] W λx w' => ∃b G ROW, n <= G /\ G <= maxLen /\ G <= ROW.size /\ W.heap.size <= b /\
 x=.slice (Aa ⟨b,0,Aj⟩) 0 G/\w'.heap[b]? = Aa (.cells ROW 46 (0,0))/\Below W.heap.size W w':=by
 refine jT Tryz.func146 rfl ?_
 have hu46:(Ab).underlying 43=Aa (.slice 46):=by kernel_rfl
 have hu3:(Ab).underlying 3=Aa (.int .i64):=by kernel_rfl
 have e0:Env W W:=.refl W
 have hb0:∀t,dT .sub t (.d (.i .i64 0)) (.d (.i .i64 0))=Aa (.i .i64 0):=λt=>by simp[dT,arith];decide
 have hwn:Ax.wrap (n:Al)=n:=bP
 have hb1:∀t,dT .sub t (.d (.i .i64 (n:Al))) (.d (.i .i64 0))=Aa (.i .i64 n):=λt=>by simp[dT,arith,hwn]
 have hA:AL 27 [(0,.slice Aj 0 0),(1,.int .i64 n)] { tmps:=#[Fx Aj 0 0,Gk .i64 n]++Bd (FZ.ntmps - #[Fx Aj 0 0,Gk .i64 n].size) undef,defers:=[] }:=AL.start _ _ 25
 generalize({ tmps:=#[Fx Aj 0 0,Gk .i64 n]++Bd (FZ.ntmps - #[Fx Aj 0 0,Gk .i64 n].size) undef,defers:=[] }:Act)=a0 at hA ⊢
 refine fA (iE ?_)
 refine tY hA e0 (by decide) rfl λa v hA e1=>mC ?_
 refine fA (fA (iE ?_))
 refine fG hA e1 (by decide) rfl λa v hA e2=>?_
 refine qV (.b Az) hA e2 (by decide) rfl rfl (by simp[dT,arith]) (.inl ⟨_,rfl⟩) λa v hA e3=>mC ?_
 refine oW (t:=Az) (hA.get _ _ rfl) (zY ?_)
 refine fA (fA (iE ?_))
 refine fG hA e3 (by decide) rfl λa v hA e4=>?_
 refine fG hA e4 (by decide) rfl λa v hA e5=>?_
 refine aQa hA e5 (by decide) hu46 rfl λa v hA e6=>?_
 refine fG hA e6 (by decide) rfl λa v hA e7=>?_
 refine aPz hA e7 (by decide) hu46 rfl λa v hA e8=>?_
 refine qV (.i .i64 0) hA e8 (by decide) rfl rfl (hb0 _) (.inr ⟨_,_,rfl⟩) λa v hA e9=>?_
 refine qV (.i .i64 n) hA e9 (by decide) rfl rfl (hb1 _) (.inr ⟨_,_,rfl⟩) λa v hA e10=>?_
 refine tY hA e10 (by decide) rfl λa v hA e11=>mC ?_
 refine fA (iE ?_)
 refine fG hA e11 (by decide) rfl λa v hA e12=>?_
 refine qV (.b Ak) hA e12 (by decide) rfl rfl (by simp[dT,arith,h0]) (.inl ⟨_,rfl⟩) λa v hA e13=>mC ?_
 refine oW (t:=Ak) (hA.get _ _ rfl) (iE ?_)
 refine fG hA e13 (by decide) rfl λa v hA e14=>?_
 refine fG hA e14 (by decide) rfl λa v hA e15=>?_
 refine aQa hA e15 (by decide) hu46 rfl λa v hA e16=>?_
 refine aFl (e:=46) (sz:=1) hA e16 (by decide) (by kernel_rfl) (by kernel_rfl) (AM _) rfl rfl (.inl ⟨rfl,rfl⟩) λa v hA e17=>?_
 refine fG hA e17 (by decide) rfl λa v hA e18=>?_
 refine bWs hA (by decide) λw e19=>?_
 have e20:=e18.trans e19
 obtain⟨G,hG⟩:∃G,G=grownCap w n 0 46:=⟨_,rfl⟩
 obtain⟨ROW,hROW⟩:∃ROW,ROW=DH bDq.cells n++DH bDq.cells (G-n):=⟨_,rfl⟩
 have hGn:n<=G:=hG ▸ grownCap_ge w _ _ _
 have hGm:G<=maxLen:=hG ▸ grownCap_le_maxLen w n 0 46 (by unfold maxLen;omega)
 have hRl:G<=ROW.size:=by rw[hROW];simp only[Array.size_append,DH,Array.size_map,Array.size_range,aYb];omega
 refine⟨.slice (Aa ⟨w.heap.size,0,Aj⟩) n G,w.drew.alloc (.cells ROW 46),?_,λa hA=>?_⟩
 . have hr:=vA w 43 3 43 46 aYe bDq .i64 .i64 hu46 hu3 bOl aYc n h0 (by rw[aYd];decide) (by omega) (by rw[aQf];omega)
   rw[<-hG,<-hROW]at hr
   simp only[execOp,resolve,invoke,builtin]
   simp[hA.get 20 _ rfl,hA.get 21 _ rfl,dv,hr]
 have hw0:Below W.heap.size W w:=by exact⟨e20.os,e20.tape,e20.output,e20.size,λk hk=>e20.get hk⟩
 have hb:Below W.heap.size W (w.drew.alloc (.cells ROW 46)):=by have h:=hw0.alloc hw0.size (.cells ROW 46);exact⟨h.os,h.tape,h.output,h.size,h.block⟩
 have hat:(w.drew.alloc (.cells ROW 46)).heap[w.heap.size]? = Aa (.cells ROW 46 (0,0)):=by simp only[World.alloc,World.drew];rw[Array.getElem?_push,AB rfl]
 have hsz:w.heap.size<(w.drew.alloc (.cells ROW 46)).heap.size:=by simp only[World.alloc,World.drew,Array.size_push];omega
 generalize w.drew.alloc (.cells ROW 46)=W1 at hb hat hsz ⊢
 have f0:Env W1 W1:=.refl _
 have hG0:0<G:=by omega
 refine fG hA f0 (by decide) rfl λa v hA f1=>?_
 refine aPz hA f1 (by decide) hu46 rfl λa v hA f2=>?_
 refine aFl (e:=46) (sz:=1) hA f2 (by decide) (by kernel_rfl) (by kernel_rfl) hGn rfl rfl (.inr ⟨hG0,_,rfl⟩) λa v hA f3=>?_
 refine tY hA f3 (by decide) rfl λa v hA f4=>mC ?_
 refine fA (iE ?_)
 refine fG hA f4 (by decide) rfl λa v hA f5=>?_
 refine tY hA f5 (by decide) rfl λa v hA f6=>mC (aIa ?_)
 refine⟨hA.defs,λv1 f7=>⟨.slice (Aa ⟨w.heap.size,0,Aj⟩) 0 G,?_,w.heap.size,G,ROW,hGn,hGm,hRl,e20.size,rfl,?_,?_⟩⟩
 . have hr:=hA.get 4 _ rfl
   show aU _ (results _ a.tmps) v1=_
   have hrs:FZ.results=#[.tmp 4]:=rfl
   simp only[results,hrs]
   simp only[Dh,Au]at hr
   simp[hr]
 . rw[(f6.trans f7).get hsz];exact hat
 . have f8:=f6.trans f7
   exact⟨f8.os.trans hb.os,f8.tape.trans hb.tape,f8.output.trans hb.output,Bg hb.size f8.size,λk hk=>(f8.get (Be hk hb.size)).trans (hb.block k hk)⟩
def bAk[M:Mch Ab](W:Ag):CX Ab 146 #[.slice Aj 0 0,.int .i64 0] W λx w'=>x=.slice Aj 0 0/\Below W.heap.size W w':=by
 refine jT Tryz.func146 rfl ?_;have hu46:(Ab).underlying 43=Aa (.slice 46):=by kernel_rfl
 have e0:Env W W:=.refl W;have hb0:∀t,dT .sub t (.d (.i .i64 0)) (.d (.i .i64 0))=Aa (.i .i64 0):=λt=>by simp[dT,arith];decide
 have hA:AL 27 [(0,.slice Aj 0 0),(1,.int .i64 0)] { tmps:=#[Fx Aj 0 0,Gk .i64 0]++Bd (FZ.ntmps - #[Fx Aj 0 0,Gk .i64 0].size) undef,defers:=[] }:=AL.start _ _ 25;generalize({ tmps:=#[Fx Aj 0 0,Gk .i64 0]++Bd (FZ.ntmps - #[Fx Aj 0 0,Gk .i64 0].size) undef,defers:=[] }:Act)=a0 at hA ⊢;refine fA (iE ?_);refine tY hA e0 (by decide) rfl λa v hA e1=>mC ?_
 refine fA (fA (iE ?_));refine fG hA e1 (by decide) rfl λa v hA e2=>?_
 refine qV (.b Az) hA e2 (by decide) rfl rfl (by simp[dT,arith]) (.inl ⟨_,rfl⟩) λa v hA e3=>mC ?_
 refine oW (t:=Az) (hA.get _ _ rfl) (zY ?_);refine fA (fA (iE ?_));refine fG hA e3 (by decide) rfl λa v hA e4=>?_
 refine fG hA e4 (by decide) rfl λa v hA e5=>?_
 refine aQa hA e5 (by decide) hu46 rfl λa v hA e6=>?_
 refine fG hA e6 (by decide) rfl λa v hA e7=>?_
 refine aPz hA e7 (by decide) hu46 rfl λa v hA e8=>?_
 refine qV (.i .i64 0) hA e8 (by decide) rfl rfl (hb0 _) (.inr ⟨_,_,rfl⟩) λa v hA e9=>?_
 refine qV (.i .i64 0) hA e9 (by decide) rfl rfl (hb0 _) (.inr ⟨_,_,rfl⟩) λa v hA e10=>?_
 refine tY hA e10 (by decide) rfl λa v hA e11=>mC ?_
 refine fA (iE ?_);refine fG hA e11 (by decide) rfl λa v hA e12=>?_
 refine qV (.b Az) hA e12 (by decide) rfl rfl (by simp[dT,arith]) (.inl ⟨_,rfl⟩) λa v hA e13=>mC ?_
 refine oW (t:=Az) (hA.get _ _ rfl) (zY ?_);refine fA (iE ?_);refine fG hA e13 (by decide) rfl λa v hA e14=>?_
 refine tY hA e14 (by decide) rfl λa v hA e15=>mC (aIa ?_)
 refine⟨hA.defs,λv1 f7=>⟨.slice Aj 0 0,?_,rfl,?_⟩⟩
 . have hr:=hA.get 4 _ rfl
   show aU _ (results _ a.tmps) v1=_
   have hrs:FZ.results=#[.tmp 4]:=rfl
   simp only[results,hrs]
   simp only[Dh,Au]at hr
   simp[hr]
 . have f8:=e15.trans f7
   exact⟨f8.os,f8.tape,f8.output,f8.size,λk hk=>f8.get hk⟩
def aLf{vs:Aw AE}(h:2=vs.size):∃v0 v1,vs=#[v0,v1]:=by
 obtain⟨v0,hv0⟩:∃v1,vs[0]? = Aa v1:=⟨vs[0],Ar (by omega)⟩;obtain⟨v1,hv1⟩:∃v1,vs[1]? = Aa v1:=⟨vs[1],Ar (by omega)⟩;refine⟨v0,v1,?_⟩;apply Array.ext_getElem?;intro k;match k with
 |0=>simpa using hv0
 |1=>simpa using hv1
 |k+2=>rw[Array.getElem?_eq_none (by omega)];simp
def zB(vs:Aw AE)(w:Ag):aU Ab (callFunc 146 vs) w=.ok (.enter 146 vs) w:=by
 have hn:¬ FZ.name = "runtime.NumGoroutine" := by
  have:(FZ.name == "runtime.NumGoroutine")=false:=rfl
  simpa using this
 have hb:FZ.body=Aa _:=rfl;simp[callFunc,Tryz.func146,hn,hb]
def cDv[M:Mch Ab](n:Ae)(h0:0<n)(hn:n<=1000000):aEm Ab 146 [.nil,.d (.i .i64 (n:Al))] (λm=>.own m 0 0 1) (λ_=>[.cells 46 []]):=by
 intro A W vs hA hl hv;obtain⟨v0,v1,rfl⟩:=aLf hl;have h1:=hv 0 _ v0 rfl rfl;cases h1;have h2:=hv 1 _ v1 rfl rfl;cases h2 with|d _ _ h2 =>
 cases h2;refine⟨zB _,?_⟩;refine(bJb n W h0 hn).mono ?_;rintro e w' ⟨b,G,ROW,hG,hGm,hR,hbW,rfl,hat,hb⟩;have hsz:b<w'.heap.size:=bL hat;refine⟨hb,λm hm=>⟨A,λid=>if id=m then Aa b else Aj,λb h=>.inl h,?_,λid=>?_,λid b' h=>?_,λi o b' ho hb'=>?_,λid id' b' h h'=>?_⟩⟩
 . have:=V.own (F:=A) (w:=w') (ι:=λid=>if id=m then Aa b else Aj) m 0 0 1 b G ROW 46 (AB rfl) hat (by omega) (by omega) hGm
   rwa [Ef]at this
 . constructor
   . rintro⟨b',h⟩
     simp only at h
     split at h
     . rename_i e;subst e;exact⟨AM _,by simp⟩
     . cases h
   . rintro⟨h1,h2⟩
     have e:id=m:=by simp at h2;omega
     exact⟨_,AB e⟩
 . simp only at h
   split at h
   . injection h with h;subst h
     exact⟨hbW,hsz,λh=>Nat.lt_irrefl _ (Be (hA _ h) hbW)⟩
   . cases h
 . have hi:i=0:=by have:=(AA.1 ho).1;simp at this;exact this
   subst hi
   simp at ho;subst ho
   simp at hb';subst hb'
   exact⟨_,hat,.cells _ _ _ (BH _) λk c h=>by simp at h⟩
 . simp only at h h'
   split at h
   . rename_i e
     split at h'
     . rename_i e';exact e.trans e'.symm
     . cases h'
   . cases h
def bZq[M:Mch Ab]:aEm Ab 146 [.nil,.d (.i .i64 0)] (λ_=>.nil) (λ_=>[]):=by
 intro A W vs hA hl hv;obtain⟨v0,v1,rfl⟩:=aLf hl;have h1:=hv 0 _ v0 rfl rfl;cases h1;have h2:=hv 1 _ v1 rfl rfl;cases h2 with|d _ _ h2 =>
 cases h2;refine⟨zB _,?_⟩;refine(bAk W).mono ?_;rintro e w' ⟨rfl,hb⟩;exact⟨hb,λm hm=>⟨A,λ_=>Aj,λb h=>.inl h,.nil,λid=>⟨λ⟨b,h⟩=>(by cases h),λh=>(by simp at h;omega)⟩,λid b h=>(by cases h),λi o b h=>(by simp at h),λid id' b h h'=>(by cases h)⟩⟩
end Go.Am
end
section
open Go Go.Am Go.Proofs
namespace Go.Am
def jO(l:Ad Ae):one (.d (cO l))=true:=rfl
def eY(l:Ad Ae):eC (.d (cO l))=Aa [.d (cO l)]:=rfl
def iH(l:Ad Ae):bH (cO l)=.d (cO l):=rfl
def bJp(H:Hp)(n:Ae):iY H n []=H:=by funext id;unfold iY;rw[Ap (by simp)]
def aOe(H:Hp)(n:Ae)(o:HO):iY H n [o]=upd H n (Aa o):=by
 funext id;unfold iY upd;by_cases h:id=n
 .subst h;simp
 .rw[Ap (by simp;omega)];simp[h]
def aWy(l:Ad Ae):((l.map λ(p:Ae)=>[D.i .u64 (p:Al)]).map (DX AV.d)).flatten=(dU l).map AV.d:=by
 induction l with
 |nil=>rfl
 |cons x l ih=>simp only[BX,Dq,ih];rfl
def cAg(a b:Ad Ae):dU (a++b)=dU a++dU b:=by simp[dU]
def bUa(l:Ad Ae):((dU l).map AV.d).all one=true:=by rw[A1];intro x hx;obtain⟨d,hd,rfl⟩:=AY.1 hx;obtain⟨p,_,rfl⟩:=AY.1 hd;rfl
def aGy(a b:Ad Ae):D:=.sl [[cO a],[cO b]]
def aXd[M:Mch Ab](a b:Ad Ae)(ha:a.length<=10000)(hb:b.length<=10000):Spec Ab 56 [aGy a b] (cO (a++b)):=by
 have hw0:Ax.wrap (a.length:Al)=(a.length:Al):=bP;have hw1:Ax.wrap ((a.length:Al)+b.length)=(a.length:Al)+b.length:=bP;have hwz:Ax.wrap 1=1:=by decide
 have hwz2:Ax.wrap 2=2:=by decide
 have h00:¬(a.length:Al)<0:=by omega
 have h01:¬(a.length:Al)+b.length<0:=by omega
 refine bU (N:=36) Tryz.func56 ?_;simp[-O,-U,↓KW,aGy,jO,eY,iH];refine eR 3 ?_;simp[-O,-U,↓KW,↓aF,↓aA,↓aG,↓aH,aGy,cO,jO,eY,iH,hw0,hw1,hwz,hwz2,h00,h01];by_cases hab:a.length+b.length=0
 .have ea:a=[]:=BI (by omega);have eb:b=[]:=BI (by omega);subst ea;subst eb;refine aGf (λ_=>.nil) (λ_=>[]) (by simp) (by simp) (by simp) (by rfl) (by simpa[aIx,aQe]using bZq) ?_;simp[-O,-U,↓KW,bJp,cO];refine eR 3 ?_;simp[-O,-U,↓KW,↓aF,↓aA,↓aG,↓aH,aGy,cO,jO,eY,iH,hwz,hwz2]
 .refine aGf (λm=>.own m 0 0 1) (λ_=>[.cells 46 []]) (by simp) (by simp) (by simp) (by rfl) (by simpa[aIx,aQe]using cDv (a.length+b.length) (by omega) (by omega)) ?_;have hok:∀l:Ad Ae,fT 1 (l.map λ(p:Ae)=>[D.i .u64 (p:Al)])=true:=λl=>by cases l<;>simp[fT]
  have hff:=aWy;have hla:=fC a;have hlb:=fC b;have hbb:a.length*8<=140737488355328/\a.length<=maxLen:=⟨by omega,bY (by omega)⟩;have hbb2:(a.length+b.length)*8<=140737488355328/\a.length+b.length<=maxLen:=⟨by omega,bY (by omega)⟩;have hab':(a++b).length=a.length+b.length:=BK;have e1:D7 (a.length+b.length) ((dU (a++b)).map AV.d)=(dU (a++b)).map AV.d:=jE hab';have e2:chunk 1 (a.length+b.length) (dU (a++b))=(a++b).map λ(p:Ae)=>[D.i .u64 (p:Al)]:=oP hab'
  have e3:=fC (a++b);rw[hab']at e3;have e4:(dU a).map AV.d++(dU b).map AV.d=(dU (a++b)).map AV.d:=by rw[cAg,Fi]
  have hone:=bUa;simp[-O,-U,↓KW,aOe,cO];refine eR 3 ?_;simp[-O,-U,↓KW,↓aF,↓aA,↓aG,↓aH,aGy,cO,jO,eY,iH,hwz,hwz2,bMa,hok,hone,hff,hla,hlb,hbb,hbb2,e1,e2,e3,e4]
def rJ(l:Ad Ae):inj (cO l)=.d (cO l):=rfl
def mK(H:Hp)(avs:Ad AV)(l:Ad Ae):bM H avs (cO l)=bW H avs:=rfl
def bRf[M:Mch Ab](n:Ae):Spec Ab 44 [cB 0,.i .u64 n] (cO []):=by have hE:=aWn 0 (tZ (by decide)) (tZ (by decide)) (by decide);have h0:encZ 0=cB 0:=fQ 0;rw[h0]at hE;simp only[decide_true]at hE;refine qY (N:=31) aT Tryz.func44 rfl rfl rfl (by kernel_rfl) (by kernel_rfl) (by simp) ?_;refine dD (by kernel_rfl) ?_;simp[-O,-U,↓KW,↓aF,↓aA,↓aG,↓aH,aY 0,iB,mG];refine dD (by kernel_rfl) ?_;simp[-O,-U,↓KW,↓aF,↓aA,↓aG,↓aH,aY 0,bE];refine aL hE ?_;simp[-O,-U,↓KW,↓aF,↓aA,↓aG,↓aH,aY 0,bE,cO]
def gX(c:Ae):Ae->Ad Ae->Ad Ae
 |acc,[]=>[]
 |acc,p::l=>if c<acc then[]else p::gX c (acc*p) l
def lO(c:Ae):∀(l:Ad Ae) (acc:Ae),∃k,gX c acc l=l.take k
 |[],acc=>⟨0,by simp[gX]⟩
 | p::l,acc=>by
  unfold gX;split
  .exact⟨0,rfl⟩
  .obtain⟨k,hk⟩:=lO c l (acc*p);exact⟨k+1,by simp[hk]⟩
def aGl(c:Ae):∀(l:Ad Ae) (acc:Ae),c<acc*dJ l->c<acc*dJ (gX c acc l)
 |[],acc,h=>by simpa[gX]using h
 | p::l,acc,h=>by
  unfold gX;split
  .rename_i h1;simpa[dJ]using h1
  .have:=aGl c l (acc*p) (by simpa[dJ,C7]using h);simpa[dJ,C7]using this
def xS(c:Ae):∀(l:Ad Ae) (acc k:Ae),k<(gX c acc l).length->acc*dJ ((gX c acc l).take k)<=c
 |[],acc,k,h=>by simp[gX]at h
 | p::l,acc,k,h=>by
  unfold gX at h ⊢;split
  .rename_i h1;simp[h1]at h
  .rename_i h1;rw[Ap h1]at h;cases k with
   |zero=>simp[dJ];omega
   | succ k =>
    have:=xS c l (acc*p) k (by simpa using h);simpa[dJ,C7]using this
def aZq{b:Ae}{l:Ad Ae}(h:2*b<dJ l):Ndd b (gX (2*b) 1 l) where
 big:=by have:=aGl (2*b) l 1 (by simpa using h);simpa using this
 low k hk:=by have:=xS (2*b) l 1 k hk;simpa using this
def wpL(b k:Ae):Ad Ae:=P10.take (2*k)++gX (2*b) 1 (P10.drop (2*k))
def bWq[M:Mch Ab](b:Ae)(N:Ad Ae)(hN:N.length<=1000)(hNe:Spec Ab 44 [cB b,.i .u64 2147483648] (cO N)):Spec Ab 11 [cB b,.i .i64 0] (cO N):=by have hPr:=aMg 2147483648;have hC:=aXd [] N (by simp) (by omega);rw[Ea]at hC;refine bU (N:=26) Tryz.func11 ?_;simp[-O,-U,↓KW,aY b,iB,mG];refine aL hPr ?_;have hnil:cO []=.sl []:=rfl;simp[-O,-U,↓KW,hnil,bE];refine aL hNe ?_;simp[-O,-U,↓KW,jO,eY,iH,rJ,mK];refine aL hC ?_;simp[-O,-U,↓KW,jO,eY,iH,rJ,mK]
def aHx[M:Mch Ab](b k p:Ae)(T N:Ad Ae)(hN:N.length<=1000)(hk:k<=3)(hT:T.length+1=2*k)(hPr:Spec Ab 55 [.i .u64 2147483648,.i .i64 ((2*k:Ae):Al)] (cO (T++[p])))(hNe:Spec Ab 44 [cB b,.i .u64 p] (cO N)):Spec Ab 11 [cB b,.i .i64 k] (cO (T++[p]++N)):=by
 have hC:=aXd (T++[p]) N (by simp;omega) (by omega);have hmin:(if(1073741824:Al)<(k:Al)then(1073741824:Al)else(k:Al))=k:=by rw[Ap (by omega)]
 have hw:Ax.wrap (2*(k:Al))=((2*k:Ae):Al):=by rw[show 2*(k:Al)=((2*k:Ae):Al)from by omega];exact bP
 have hwl:Ax.wrap (T.length:Al)=(T.length:Al):=bP;have h0:(0:Al)<(T.length:Al)+1:=by omega
 refine bU (N:=26) Tryz.func11 ?_;simp[-O,-U,↓KW,aY b,iB,mG];rw[hmin];simp[-O,-U,↓KW,hw];refine aL hPr ?_;have hlen:∃l,cO (T++[p])=.sl l/\l.length=T.length+1/\l[T.length]? = Aa [.i .u64 (p:Al)]:=⟨_,rfl,by simp,by simp⟩;obtain⟨l,hl,hl1,hl2⟩:=hlen;have hl3:inj (cO (T++[p]))=.d (.sl l):=by rw[rJ,hl]
 have hl4:aGy (T++[p]) N=.sl [[.sl l],[cO N]]:=by rw[<-hl];rfl
 rw[hl4]at hC;have hl5:∀h,l[T.length]'h=[.i .u64 (p:Al)]:=λh=>by rw[Ac h]at hl2;injection hl2
 simp[-O,-U,↓KW,hl3,mK,hl1,h0,hwl,hl2,hl5,jO,eY,iH,bE];refine aL hNe ?_;simp[-O,-U,↓KW,jO,eY,iH,rJ,mK];refine aL hC ?_;simp[-O,-U,↓KW,jO,eY,iH,rJ,mK]
def vF:P10.length=10:=rfl
def aZv{c acc:Ae}{l:Ad Ae}{p:Ae}(h:p∈gX c acc l):p∈l:=by obtain⟨k,hk⟩:=lO c l acc;rw[hk]at h;exact BS h
def cAl:∀k:Ae,k<=3->2*2^96<dJ (P10.drop (2*k)):=by decide
def aVt[M:Mch Ab](b k:Ae)(hb:b<2^96)(hk:k<=3):Spec Ab 44 [cB b,.i .u64 ((if 2*k=0 then 2147483648 else P10[2*k-1]! : Ae):Al)] (cO (gX (2*b) 1 (P10.drop (2*k)))):=by
 have hbig:=cAl k hk;have hD:=jZ.drop (k:=2*k) bKi (by rw[vF];omega);have hm:∀p∈P10.drop (2*k),p∈P10:=λp hp=>List.mem_of_mem_drop hp
 have hln:(P10.drop (2*k)).length<=10:=by rw[Et,vF];omega
 generalize(if 2*k=0 then 2147483648 else P10[2*k-1]! : Ae)=n at *;generalize P10.drop (2*k)=L at *;rcases BB b with h0|h0
 .subst h0;have e:gX (2*0) 1 L=[]:=by
   cases L with
   |nil=>rfl
   |cons p L=>rfl
  rw[e];exact bRf n
 .have hN:=aZq (b:=b) (l:=L) (by omega);have hlow:=xS (2*b) L 1;have hmm:∀p∈gX (2*b) 1 L,p∈P10:=λp hp=>hm p (aZv hp)
  obtain⟨j,hj⟩:=lO (2*b) L 1;have hD2:jZ n (gX (2*b) 1 L):=by rw[hj];exact jZ.take hD
  generalize gX (2*b) 1 L=N at *;have hl6:N.length<=7:=by
   refine CY λhc=>?_
   have h8:=hlow 7 (by omega);have hmin:∀l:Ad Ae,(∀p∈l,1073741824<=p)->1073741824^l.length<=dJ l:=by
    intro l;induction l with
    |nil=>intro _;simp[dJ]
    | cons x l ih =>
     intro h;rw[Av,CI,Da];exact BO (h x (AX ..)) (ih λp hp=>h p (AT _ hp))
   have hge:∀p∈P10,1073741824<=p:=by decide
   have h9:=hmin (N.take 7) λp hp=>hge p (hmm p (BS hp))
   have hl7:(N.take 7).length=7:=by rw[Bt];omega
   rw[hl7]at h9;have h10:(1073741824:Ae)^7=2^210:=by decide
   have h11:(2:Ae)^96*2^114=2^210:=by decide
   have h12:(2:Ae)^114=20769187434139310514121985316880384:=by decide
   have h13:(2:Ae)^96=79228162514264337593543950336:=by decide
   omega
  cases N with
  |nil=>exact absurd hN.big (by simp[dJ];omega)
  |cons p0 ps=>exact aRz b n p0 ps (by omega) h0 hD2 (by simp at hl6;omega) hN λp hp=>cBm (hmm p hp)
def bNx[M:Mch Ab](b k:Ae)(hb:b<2^96)(hk:k<=3):Spec Ab 11 [cB b,.i .i64 k] (cO (wpL b k)):=by
 have hN:=aVt b k hb hk;have hl:(gX (2*b) 1 (P10.drop (2*k))).length<=1000:=by
  obtain⟨j,hj⟩:=lO (2*b) (P10.drop (2*k)) 1;have:=List.length_take_le' j (P10.drop (2*k));have h2:(P10.drop (2*k)).length<=10:=by rw[Et,vF];omega
  rw[hj];omega
 have hd:=bKi;unfold wpL;have hk4:k=0\/k=1\/k=2\/k=3:=by omega
 rcases hk4 with rfl|rfl|rfl|rfl
 .exact bWq b _ hl hN
 .exact aHx b 1 2147483629 [2147483647] _ hl (by omega) rfl (uD 2147483648 2147483647 [2147483629] (jZ.take (k:=2) hd) (by decide)) hN
 .exact aHx b 2 2147483579 [2147483647,2147483629,2147483587] _ hl (by omega) rfl (uD 2147483648 2147483647 [2147483629,2147483587,2147483579] (jZ.take (k:=4) hd) (by decide)) hN
 .exact aHx b 3 2147483549 [2147483647,2147483629,2147483587,2147483579,2147483563] _ hl (by omega) rfl (uD 2147483648 2147483647 [2147483629,2147483587,2147483579,2147483563,2147483549] (jZ.take (k:=6) hd) (by decide)) hN
def Pr3(n:Ae):Prop:=2<=n/\n<2147483648/\∀d,2<=d->d*d<=n->n%d≠0
def tL(n:Ae):Ae->Ae->Bw
 |0,d=>!(Nat.beq (n%d) 0)
 |k+1,d=>tL n k d&&tL n k (d+2*2^k)
def aJb{n:Ae}:∀{k d:Ae},tL n k d=Ak->∀i,i<2^k->n%(d+2*i)≠0
 | 0,d,h,i,hi=>by
  have:i=0:=by simpa using hi
  subst this;intro hz;unfold tL at h;simp only[EJ,CU]at hz;rw[hz]at h;cases h
 | k+1,d,h,i,hi=>by
  unfold tL at h;simp only[A5]at h;by_cases hk:i<2^k
  .exact aJb h.1 i hk
  .have:=aJb h.2 (i-2^k) (by rw[CI]at hi;omega);rwa [show d+2*2^k+2*(i-2^k)=d+2*i from by omega]at this
def nY{n:Ae}(h0:2<=n)(h1:n<2147483648)(h2:n%2≠0)(h3:tL n 15 3=Ak):Pr3 n:=by
 refine⟨h0,h1,λd g1 g2 hz=>?_⟩;have hd:d<46341:=by
  refine CY λhc=>?_
  have:=BO (show 46341<=d by omega) (show 46341<=d by omega);omega
 rcases Fy d with he|he
 .have:=Nat.mod_mod_of_dvd n (C4 he);rw[hz]at this;exact h2 this.symm
 .have hk:=aJb h3 ((d-3)/2) (by show(d-3)/2<32768;omega);rw[show 3+2*((d-3)/2)=d from by omega]at hk;exact hk hz
def np0:tL 2147483647 15 3=true:=by kernel_rfl
def np1:tL 2147483629 15 3=true:=by kernel_rfl
def np2:tL 2147483587 15 3=true:=by kernel_rfl
def np3:tL 2147483579 15 3=true:=by kernel_rfl
def np4:tL 2147483563 15 3=true:=by kernel_rfl
def np5:tL 2147483549 15 3=true:=by kernel_rfl
def np6:tL 2147483543 15 3=true:=by kernel_rfl
def np7:tL 2147483497 15 3=true:=by kernel_rfl
def np8:tL 2147483489 15 3=true:=by kernel_rfl
def np9:tL 2147483477 15 3=true:=by kernel_rfl
def szR{z:Al}(h:z.natAbs<2^256):(bJ z.natAbs).length<=137438953472/\(bJ z.natAbs).length<=549755813888:=by have:=cV (n:=z.natAbs) (k:=8) (Be h (by decide));omega
def aZy[M:Mch Ab](y:Al)(hy:(bJ y.natAbs).length<=1099511627776):Spec Ab 51 [aZ (bJ y.natAbs),.b Az] (encZ (y.natAbs:Al)):=by have hm:=aIu (bJ y.natAbs) Az hy;rw[sV (dH _),fI]at hm;exact hm
def bUt:Ae:=4294967296^128
def SB(z:Al):Prop:=z.natAbs<bUt
def SB.len{z:Al}(h:SB z):(bJ z.natAbs).length<=128:=cV h
def SB.le{z:Al}{n:Ae}(h:SB z)(hn:128<=n):(bJ z.natAbs).length<=n:=Bg h.len hn
end Go.Am
end
namespace Go.Am
def fq(n d:Al):Rat:=if d<0 then mkRat (-n) (-d).toNat else mkRat n d.toNat
def bVu(n d:Al):fq n d=(n:Rat)/(d:Rat):=by
 unfold fq;split
 .rename_i h;rw[Rat.mkRat_eq_div];have:(((-d).toNat:Ae):Rat)=-(d:Rat):=by rw[<-Rat.intCast_neg,<-Ep,Cj (by omega)]
  rw[this,Rat.intCast_neg];have h0:(d:Rat)≠0:=by intro h';have:=Rat.intCast_eq_zero_iff.1 h';omega
  grind
 .rename_i h;rw[Rat.mkRat_eq_div];have:((d.toNat:Ae):Rat)=(d:Rat):=by rw[<-Ep,Cj (by omega)]
  rw[this]
def bHl{n:Al}{k:Ae}(h:k≠0):(mkRat n k).num=n/((n.natAbs.gcd k:Ae):Al)/\(mkRat n k).den=k/n.natAbs.gcd k:=by rw[Rat.mkRat_def,dif_neg h,Rat.normalize_eq];exact⟨rfl,rfl⟩
def bQi(a:Rat):a=(a.num:Rat)/(a.den:Rat):=by rw[<-Rat.mkRat_eq_div,Rat.mkRat_self]
def aVd(a:Rat):(a.den:Rat)≠0:=by intro h;have:=a.den_nz;exact this (by exact_mod_cast h)
def bZy(a b:Rat):fq (a.num*b.num) ((a.den:Al)*(b.den:Al))=a*b:=by rw[bVu,DR,DR,Ep,Ep];have h1:=aVd a;have h2:=aVd b;have e1:=bQi a;have e2:=bQi b;generalize(a.den:Rat)=x at *;generalize(b.den:Rat)=y at *;generalize(a.num:Rat)=u at *;generalize(b.num:Rat)=v at *;subst e1;subst e2;grind
def bZz(a b:Rat):fq (a.num*(b.den:Al)+b.num*(a.den:Al)) ((a.den:Al)*(b.den:Al))=a+b:=by rw[bVu,DR,Rat.intCast_add,DR,DR,Ep,Ep];have h1:=aVd a;have h2:=aVd b;have e1:=bQi a;have e2:=bQi b;generalize(a.den:Rat)=x at *;generalize(b.den:Rat)=y at *;generalize(a.num:Rat)=u at *;generalize(b.num:Rat)=v at *;subst e1;subst e2;grind
def bVt{n d:Al}(hd:d≠0):(fq n d).num.natAbs<=n.natAbs/\(fq n d).den<=d.natAbs:=by
 unfold fq;split
 .obtain⟨h1,h2⟩:=bHl (n:=-n) (k:=(-d).toNat) (by omega);rw[h1,h2];refine⟨Bg (GR _ _) (by omega),Bg (FO ..) (by omega)⟩
 .obtain⟨h1,h2⟩:=bHl (n:=n) (k:=d.toNat) (by omega);rw[h1,h2];refine⟨Bg (GR _ _) (by omega),Bg (FO ..) (by omega)⟩
def QB(B:Ae)(q:Rat):Prop:=q.num.natAbs<=B/\q.den<=B
def QB.mono{B C:Ae}{q:Rat}(h:QB B q)(hc:B<=C):QB C q:=⟨Bg h.1 hc,Bg h.2 hc⟩
def cDx(q:Rat):(q.den:Al)≠0:=by have:=q.den_nz;omega
def cDg(a b:Rat):(a.den:Al)*(b.den:Al)≠0:=Int.mul_ne_zero (cDx a) (cDx b)
def QB.mul{B C:Ae}{a b:Rat}(ha:QB B a)(hb:QB C b):QB (B*C) (a*b):=by obtain⟨h1,h2⟩:=bVt (n:=a.num*b.num) (cDg a b);rw[bZy]at h1 h2;rw[F9]at h1 h2;exact⟨Bg h1 (BO ha.1 hb.1),Bg h2 (BO ha.2 hb.2)⟩
def QB.add{B C:Ae}{a b:Rat}(ha:QB B a)(hb:QB C b):QB (2*(B*C)) (a+b):=by
 obtain⟨h1,h2⟩:=bVt (n:=a.num*(b.den:Al)+b.num*(a.den:Al)) (cDg a b);rw[bZz]at h1 h2;rw[F9]at h2;have h3:=BO ha.1 hb.2;have h4:=BO hb.1 ha.2;have h5:=BO ha.2 hb.2;have h6:(a.num*(b.den:Al)+b.num*(a.den:Al)).natAbs<=a.num.natAbs*b.den+b.num.natAbs*a.den:=by refine Bg (Int.natAbs_add_le _ _) ?_;rw[F9,F9];simp
 rw[Da C B]at h4;simp only[FQ]at h2;exact⟨by omega,by omega⟩
def QB.neg{B:Ae}{a:Rat}(ha:QB B a):QB B (-a):=by unfold QB;rw[Rat.neg_num,Rat.neg_den,Int.natAbs_neg];exact ha
def QB.sub{B C:Ae}{a b:Rat}(ha:QB B a)(hb:QB C b):QB (2*(B*C)) (a-b):=by rw[Rat.sub_eq_add_neg];exact ha.add hb.neg
def QB.int{B:Ae}{z:Al}(h:z.natAbs<=B)(h1:1<=B):QB B (z:Rat):=⟨by rw[Rat.num_intCast];exact h,by rw[Rat.den_intCast];exact h1⟩
def iJ{α:Type}[_root_.Add α][_root_.Sub α][_root_.Mul α](x:Ae->Ae->α):α :=
 x 0 0*(x 1 1*(x 2 2*x 3 3-x 2 3*x 3 2)-x 1 2*(x 2 1*x 3 3-x 2 3*x 3 1)+x 1 3*(x 2 1*x 3 2-x 2 2*x 3 1))
 - x 0 1*(x 1 0*(x 2 2*x 3 3-x 2 3*x 3 2)-x 1 2*(x 2 0*x 3 3-x 2 3*x 3 0)+x 1 3*(x 2 0*x 3 2-x 2 2*x 3 0))
 + x 0 2*(x 1 0*(x 2 1*x 3 3-x 2 3*x 3 1)-x 1 1*(x 2 0*x 3 3-x 2 3*x 3 0)+x 1 3*(x 2 0*x 3 1-x 2 1*x 3 0))
 - x 0 3*(x 1 0*(x 2 1*x 3 2-x 2 2*x 3 1)-x 1 1*(x 2 0*x 3 2-x 2 2*x 3 0)+x 1 2*(x 2 0*x 3 1-x 2 1*x 3 0))
def lY(x:Ae->Ae->Al):iJ (λi j=>((x i j:Al):Rat))=((iJ x:Al):Rat):=by simp only[iJ,DR,Rat.intCast_sub,Rat.intCast_add]
def swp(k a i:Ae):Ae:=if i=k then a else if i=a then k else i
def bBa(x:Ae->Ae->Rat){k a:Ae}(h:k<a)(ha:a<=3):iJ (λi j=>x (swp k a i) j)=- iJ x:=by
 have:(k=0/\a=1)\/(k=0/\a=2)\/(k=0/\a=3)\/(k=1/\a=2)\/(k=1/\a=3)\/(k=2/\a=3):=by omega
 rcases this with ⟨rfl,rfl⟩|⟨rfl,rfl⟩|⟨rfl,rfl⟩|⟨rfl,rfl⟩|⟨rfl,rfl⟩|⟨rfl,rfl⟩<;>(simp[iJ,swp];grind)
def bKh(x:Ae->Ae->Rat)(c:Rat){k a:Ae}(h:k<a)(ha:a<=3):iJ (λi j=>if i=a then x a j-c*x k j else x i j)=iJ x:=by
 have:(k=0/\a=1)\/(k=0/\a=2)\/(k=0/\a=3)\/(k=1/\a=2)\/(k=1/\a=3)\/(k=2/\a=3):=by omega
 rcases this with ⟨rfl,rfl⟩|⟨rfl,rfl⟩|⟨rfl,rfl⟩|⟨rfl,rfl⟩|⟨rfl,rfl⟩|⟨rfl,rfl⟩<;>(simp[iJ];grind)
def bKg(x:Ae->Ae->Rat)(h:∀i j,j<i->i<=3->x i j=0):iJ x=x 0 0*x 1 1*x 2 2*x 3 3:=by have h10:=h 1 0 (by decide) (by decide);have h20:=h 2 0 (by decide) (by decide);have h30:=h 3 0 (by decide) (by decide);have h21:=h 2 1 (by decide) (by decide);have h31:=h 3 1 (by decide) (by decide);have h32:=h 3 2 (by decide) (by decide);simp only[iJ,h10,h20,h30,h21,h31,h32];grind
def bAz(x:Ae->Ae->Rat){k:Ae}(hk:k<=3)(h:∀i j,j<i->j<k->i<=3->x i j=0)(h0:∀i,k<=i->i<=3->x i k=0):iJ x=0:=by
 have:k=0\/k=1\/k=2\/k=3:=by omega
 rcases this with rfl|rfl|rfl|rfl
 .simp only[iJ,h0 0 (by decide) (by decide),h0 1 (by decide) (by decide),h0 2 (by decide) (by decide),h0 3 (by decide) (by decide)];grind
 .simp only[iJ,h 1 0 (by decide) (by decide) (by decide),h 2 0 (by decide) (by decide) (by decide),h 3 0 (by decide) (by decide) (by decide),h0 1 (by decide) (by decide),h0 2 (by decide) (by decide),h0 3 (by decide) (by decide)];grind
 .simp only[iJ,h 1 0 (by decide) (by decide) (by decide),h 2 0 (by decide) (by decide) (by decide),h 3 0 (by decide) (by decide) (by decide),h 2 1 (by decide) (by decide) (by decide),h 3 1 (by decide) (by decide) (by decide),h0 2 (by decide) (by decide),h0 3 (by decide) (by decide)];grind
 .simp only[iJ,h 1 0 (by decide) (by decide) (by decide),h 2 0 (by decide) (by decide) (by decide),h 3 0 (by decide) (by decide) (by decide),h 2 1 (by decide) (by decide) (by decide),h 3 1 (by decide) (by decide) (by decide),h 3 2 (by decide) (by decide) (by decide),h0 3 (by decide) (by decide)];grind
def bWy(a b c d e f g h:Al):(a*f-b*e)^2+(a*g-c*e)^2+(a*h-d*e)^2+(b*g-c*f)^2+(b*h-d*f)^2+(c*h-d*g)^2<=(a^2+b^2+c^2+d^2)*(e^2+f^2+g^2+h^2):=by
 have h1:(a*f-b*e)^2+(a*g-c*e)^2+(a*h-d*e)^2+(b*g-c*f)^2+(b*h-d*f)^2+(c*h-d*g)^2+(a*e+b*f+c*g+d*h)^2=(a^2+b^2+c^2+d^2)*(e^2+f^2+g^2+h^2):=by grind
 have h2:0<=(a*e+b*f+c*g+d*h)^2:=CF _;omega
def bWx(p q r s t u a b c d:Al):(p*c-q*b+s*a)^2+(p*d-r*b+t*a)^2+(q*d-r*c+u*a)^2+(s*d-t*c+u*b)^2<=(p^2+q^2+r^2+s^2+t^2+u^2)*(a^2+b^2+c^2+d^2):=by
 have h1:(p*c-q*b+s*a)^2+(p*d-r*b+t*a)^2+(q*d-r*c+u*a)^2+(s*d-t*c+u*b)^2+((p*b+q*c+r*d)^2+(-p*a+s*c+t*d)^2+(-q*a-s*b+u*d)^2+(-r*a-t*b-u*c)^2)=(p^2+q^2+r^2+s^2+t^2+u^2)*(a^2+b^2+c^2+d^2):=by grind
 have h2:0<=(p*b+q*c+r*d)^2:=CF _;have h3:0<=(-p*a+s*c+t*d)^2:=CF _;have h4:0<=(-q*a-s*b+u*d)^2:=CF _;have h5:0<=(-r*a-t*b-u*c)^2:=CF _;omega
def bWw(p q r s a b c d:Al):(p*d-q*c+r*b-s*a)^2<=(p^2+q^2+r^2+s^2)*(a^2+b^2+c^2+d^2):=by
 have h1:(p*d-q*c+r*b-s*a)^2+((p*c+q*d)^2+(p*b-r*d)^2+(p*a+s*d)^2+(q*b+r*c)^2+(q*a-s*c)^2+(r*a+s*b)^2)=(p^2+q^2+r^2+s^2)*(a^2+b^2+c^2+d^2):=by grind
 have h2:0<=(p*c+q*d)^2:=CF _;have h3:0<=(p*b-r*d)^2:=CF _;have h4:0<=(p*a+s*d)^2:=CF _;have h5:0<=(q*b+r*c)^2:=CF _;have h6:0<=(q*a-s*c)^2:=CF _;have h7:0<=(r*a+s*b)^2:=CF _;omega
def cGu(x:Ae->Ae->Al):(iJ x)^2<=(x 0 0^2+x 0 1^2+x 0 2^2+x 0 3^2)*(x 1 0^2+x 1 1^2+x 1 2^2+x 1 3^2)*(x 2 0^2+x 2 1^2+x 2 2^2+x 2 3^2)*(x 3 0^2+x 3 1^2+x 3 2^2+x 3 3^2):=by
 have h1:=bWy (x 0 0) (x 0 1) (x 0 2) (x 0 3) (x 1 0) (x 1 1) (x 1 2) (x 1 3);have h2:=bWx (x 0 0*x 1 1-x 0 1*x 1 0) (x 0 0*x 1 2-x 0 2*x 1 0) (x 0 0*x 1 3-x 0 3*x 1 0) (x 0 1*x 1 2-x 0 2*x 1 1) (x 0 1*x 1 3-x 0 3*x 1 1) (x 0 2*x 1 3-x 0 3*x 1 2) (x 2 0) (x 2 1) (x 2 2) (x 2 3);generalize hp:x 0 0*x 1 1-x 0 1*x 1 0=p at *;generalize hq:x 0 0*x 1 2-x 0 2*x 1 0=q at *;generalize hr:x 0 0*x 1 3-x 0 3*x 1 0=r at *;generalize hs:x 0 1*x 1 2-x 0 2*x 1 1=s at *;generalize ht:x 0 1*x 1 3-x 0 3*x 1 1=t at *;generalize hu:x 0 2*x 1 3-x 0 3*x 1 2=u at *;have h3:=bWw (p*x 2 2-q*x 2 1+s*x 2 0) (p*x 2 3-r*x 2 1+t*x 2 0) (q*x 2 3-r*x 2 2+u*x 2 0) (s*x 2 3-t*x 2 2+u*x 2 1) (x 3 0) (x 3 1) (x 3 2) (x 3 3);have hd:iJ x=(p*x 2 2-q*x 2 1+s*x 2 0)*x 3 3-(p*x 2 3-r*x 2 1+t*x 2 0)*x 3 2+(q*x 2 3-r*x 2 2+u*x 2 0)*x 3 1-(s*x 2 3-t*x 2 2+u*x 2 1)*x 3 0:=by subst hp hq hr hs ht hu;unfold iJ;grind
 rw[hd];have n2:0<=x 2 0^2+x 2 1^2+x 2 2^2+x 2 3^2:=by have a:=CF (x 2 0);have b:=CF (x 2 1);have c:=CF (x 2 2);have d:=CF (x 2 3);omega
 have n3:0<=x 3 0^2+x 3 1^2+x 3 2^2+x 3 3^2:=by have a:=CF (x 3 0);have b:=CF (x 3 1);have c:=CF (x 3 2);have d:=CF (x 3 3);omega
 refine Int.le_trans h3 (Gl ?_ n3);exact Int.le_trans h2 (Gl h1 n2)
open Go Go.Am Go.Proofs
def bXs{n:Ae}(h:n<bUt):SB (n:Al):=by unfold SB;rw[FQ];exact h
def b1k:Ae:=4294967296^32
def bLu:b1k<bUt:=by unfold b1k bUt;decide
def QS(q:Rat):Prop:=QB b1k q
def QS.num{q:Rat}(h:QS q):SB q.num:=Bv h.1 bLu
def QS.den{q:Rat}(h:QS q):SB (q.den:Al):=bXs (Bv h.2 bLu)
def QS.n{q:Rat}(h:QS q):q.num.natAbs<=b1k:=h.1
def QS.d{q:Rat}(h:QS q):(q.den:Al).natAbs<=b1k:=by rw[FQ];exact h.2
end Go.Am
namespace Go.Am
def PrN(n:Ae):Prop:=2<=n/\∀d,2<=d->d*d<=n->n%d≠0
def PrN.dvd{p d:Ae}(hp:PrN p)(hd:d ∣ p):d=1\/d=p:=by
 obtain⟨e,he⟩:=hd;have hp2:=hp.1;rcases Bc d 2 with h1|h1
 .left;rcases BB d with h0|h0
  .subst h0;simp at he;omega
  .omega
 rcases Bc e 2 with h2|h2
 .right;rcases BB e with h0|h0
  .subst h0;simp at he;omega
  .have:e=1:=by omega
   subst this;omega
 exfalso;rcases Nat.le_total d e with h|h
 .exact hp.2 d h1 (by rw[he];exact DC d h) (by rw[he];exact Nat.mul_mod_right d e)
 .exact hp.2 e h2 (by rw[he];exact Nat.mul_le_mul_right e h) (by rw[he];exact Nat.mul_mod_left d e)
def PrN.cop{p a:Ae}(hp:PrN p)(ha:a%p≠0):Fz p a:=by
 rcases hp.dvd (Nat.gcd_dvd_left p a)with h|h
 .exact h
 .exact absurd (Nat.mod_eq_zero_of_dvd (h ▸ Nat.gcd_dvd_right p a)) ha
def PrN.two{p q:Ae}(hp:PrN p)(hq:PrN q)(h:p≠q):Fz p q:=by
 refine hp.cop λhz=>?_
 rcases hq.dvd (C4 hz)with h1|h1
 .have:=hp.1;omega
 .exact h h1
def bK:Ad Ae->Ae
 |[]=>1
 |p::l=>p*bK l
def uC{l m:Ad Ae}(h:l.Perm m):bK l=bK m:=by
 induction h with
 |nil=>rfl
 |cons x _ ih=>simp only[bK,ih]
 |swap x y l=>simp only[bK,<-C7,Da x y]
 |trans _ _ h1 h2=>exact h1.trans h2
def bQp{l m:Ad Ae}:l.Nodup->(∀x∈l,x∈m)->m.length<=l.length->l.Perm m:=by
 induction l generalizing m with
 | nil =>
  intro _ _ hl;have:m=[]:=BI (by simpa using hl);subst this;exact .refl _
 | cons x l ih =>
  intro hn hs hl;have hx:x∈m:=hs x (AX ..);rw[DQ]at hn;have hp:=List.perm_cons_erase hx;refine .trans (List.Perm.cons x (ih hn.2 (λy hy=>?_) ?_)) hp.symm
  .have hyx:y≠x:=λe=>hn.1 (e ▸ hy)
   exact(List.mem_erase_of_ne hyx).2 (hs y (AT _ hy))
  .have:=hp.length_eq;simp only[Av]at this hl;omega
def tP(p a:Ae):∀l:Ad Ae,bK (l.map λi=>a*i%p)%p=a^l.length*bK l%p
 |[]=>by simp[bK]
 | x::l=>by have ih:=tP p a l;simp only[BX,bK,Av,CI];rw[EK,ih,E3,<-EK];congr 1;ac_rfl
def xO{p:Ae}:∀{l:Ad Ae},(∀x∈l,Fz p x)->Fz p (bK l)
 |[],_=>by simp[bK]
 |x::l,h=>Nat.Coprime.mul_right (h x (AX ..)) (xO λy hy=>h y (AT _ hy))
def cAa{p a:Ae}(hp:PrN p)(ha:a%p≠0):a^(p-1)%p=1:=by
 have hp2:=hp.1;have hcop:=hp.cop ha;obtain⟨L,hL⟩:∃L,L=(AW (p-1)).map (·+1):=⟨_,rfl⟩;have hmem:∀x,x∈L↔0<x/\x<p:=λx=>by
  rw[hL,AY];constructor
  .rintro⟨y,hy,rfl⟩;rw[Cc]at hy;omega
  .rintro⟨h1,h2⟩;exact⟨x-1,Cc.2 (by omega),by omega⟩
 have hlen:L.length=p-1:=by rw[hL];simp
 have hcx:∀x∈L,Fz p x:=λx hx=>by obtain⟨h1,h2⟩:=(hmem x).1 hx;exact hp.cop (by rw[Cr h2];omega)
 have hnd:(L.map λi=>a*i%p).Nodup:=by
  rw[List.Nodup,Ga];have h0:L.Pairwise (·≠·):=by rw[hL,Ga];exact List.Pairwise.imp (λh=>by omega) List.nodup_range
  refine List.Pairwise.imp_of_mem (λ{x y} hx hy hne he=>hne ?_) h0;obtain⟨x1,x2⟩:=(hmem x).1 hx;obtain⟨y1,y2⟩:=(hmem y).1 hy;rcases Nat.le_total x y with hxy|hxy
  .have h1:(a*y-a*x)%p=0:=E4 he.symm;rw[<-Nat.mul_sub]at h1;have h2:=hcop.dvd_of_dvd_mul_left (C4 h1);have:=λh=>G7 h h2
   rcases BB (y-x)with h3|h3
   .omega
   .have:=this h3;omega
  .have h1:(a*x-a*y)%p=0:=E4 he;rw[<-Nat.mul_sub]at h1;have h2:=hcop.dvd_of_dvd_mul_left (C4 h1);have:=λh=>G7 h h2
   rcases BB (x-y)with h3|h3
   .omega
   .have:=this h3;omega
 have hperm:(L.map λi=>a*i%p).Perm L:=by
  refine bQp hnd (λx hx=>?_) (by simp);obtain⟨i,hi,rfl⟩:=AY.1 hx;obtain⟨i1,i2⟩:=(hmem i).1 hi;refine(hmem _).2 ⟨?_,B9 _ (by omega)⟩;refine Nat.pos_of_ne_zero λhz=>?_
  have:=hcop.dvd_of_dvd_mul_left (C4 hz);have:=G7 i1 this;omega
 have h1:=tP p a L;rw[uC hperm,hlen]at h1;have hcP:=xO hcx;have hpos:0<a^(p-1):=Nat.pow_pos (Nat.pos_of_ne_zero λh=>ha (by subst h;simp));have h2:(a^(p-1)*bK L-1*bK L)%p=0:=E4 (by rw[Fu];exact h1.symm);rw[<-Nat.sub_mul]at h2;have h3:=hcP.dvd_of_dvd_mul_right (C4 h2);obtain⟨k,hk⟩:=h3;have:a^(p-1)=1+p*k:=by omega
 rw[this,FH,Cr (by omega)]
def aDj{p a:Ae}(hp:PrN p)(ha:a%p≠0):a^(p-2)*a%p=1:=by have h2:=hp.1;rw[<-CI,show(p-2).succ=p-1 from by omega];exact cAa hp ha
def aMh(p:Ae):∀(n r a e:Ae),e<2^n->uE p n r a e%p=r*a^e%p
 | 0,r,a,e,h=>by
  have:e=0:=by simpa using h
  subst this;simp[uE]
 | n+1,r,a,e,h=>by
  unfold uE;split
  .rename_i h0;subst h0;simp
  .have ih:=aMh p n (if e%2=1 then r*a%p else r) (a*a%p) (e/2) (by rw[CI]at h;omega);rw[ih];have h2:a^e=(a*a)^(e/2)*a^(e%2):=by rw[<-Nat.pow_two,<-Nat.pow_mul,<-Gw];congr 1;omega
   rw[h2];rcases Fy e with he|he
   .rw[he,Ap (by decide),Nat.pow_zero,Eb,EK,<-Nat.pow_mod,<-EK]
   .rw[he,AB rfl,Nat.pow_one,EK,E3,<-Nat.pow_mod,<-EK];congr 1;ac_rfl
def aVf(p:Ae)(hp:0<p):∀(n r a e:Ae),r<p->uE p n r a e<p
 |0,r,a,e,h=>by simpa[uE]using h
 | n+1,r,a,e,h=>by
  unfold uE;split
  .exact h
  .refine aVf p hp n _ _ _ ?_;split
   .exact B9 _ hp
   .exact h
def bGd{p a e:Ae}(hp:0<p)(he:e<18446744073709551616):uE p 64 (1%p) a e=a^e%p:=by have h1:=aMh p 64 (1%p) a e he;have h2:=aVf p hp 64 (1%p) a e (B9 _ hp);rw[Cr h2]at h1;rw[h1,EK,E3,<-EK,Fu]
def tM(p v a m:Ae):Ae:=(v+p-a%p)%p*((m%p)^(p-2)%p)%p
def pV:Ad (Ae×Ae)->Ae->Ae->Ae×Ae
 |[],a,m=>(a,m)
 |(p,v)::l,a,m=>pV l (a+m*tM p v a m) (m*p)
def aFf(l:Ad (Ae×Ae)):Al:=let x:=pV l 0 1;if x.2<x.1+x.1 then(x.1:Al)-x.2 else x.1
def bHf{p a b c d:Ae}(h1:a%p=b%p)(h2:c%p=d%p):a*c%p=b*d%p:=by rw[EK,h1,h2,<-EK]
def cEh{p a b c d:Ae}(h1:a%p=b%p)(h2:c%p=d%p):(a+c)%p=(b+d)%p:=by rw[Nat.add_mod,h1,h2,<-Nat.add_mod]
def aXc{p v a m:Ae}(hp:0<p):tM p v a m<p:=B9 _ hp
def bUe{p v a m:Ae}(hp:PrN p)(hv:v<p)(hm:m%p≠0):(a+m*tM p v a m)%p=v:=by
 have hp0:0<p:=by have:=hp.1;omega
 have hinv:(m%p)^(p-2)*(m%p)%p=1:=aDj hp (by rw[E3];exact hm);unfold tM;have ha:=B9 a hp0;have hs:a+(v+p-a%p)=v+p*(a/p+1):=by have:=GA a p;rw[DJ,Eb];omega
 generalize(m%p)^(p-2)=u at *;generalize v+p-a%p=s at *;have e2:u*m%p=1%p:=by rw[bHf (b:=u) (d:=m%p) rfl (E3 _ _).symm,hinv,Cr (by have:=hp.1;omega)]
 have e1:m*(s%p*(u%p)%p)%p=s%p:=by rw[bHf (b:=m) (d:=s*u) rfl (by rw[E3];exact bHf (E3 _ _) (E3 _ _))];rw[show m*(s*u)=s*(u*m)by ac_rfl,bHf (b:=s) (d:=1) rfl e2,Eb]
 rw[cEh (b:=a) (d:=s) rfl e1,hs,FH,Cr hv]
structure bCa(l:Ad (Ae×Ae)):Prop where
 pr:∀x∈l,PrN x.1
 lt:∀x∈l,x.2<x.1
 nd:(l.map (·.1)).Nodup
def aDr{p:Ae}{l:Ad Ae}(hp:PrN p)(h:∀q∈l,PrN q)(hn:p ∉ l):Fz p (bK l) :=
 xO λq hq=>hp.two (h q hq) λe=>hn (e ▸ hq)
def aMe{n:Ae}:∀{l:Ad Ae},(∀q∈l,PrN q)->l.Nodup->(∀q∈l,q ∣ n)->bK l ∣ n
 |[],_,_,_=>by simp[bK]
 | p::l,h,hn,hd=>by
  rw[DQ]at hn;have h1:=aMe (n:=n) (l:=l) (λq hq=>h q (AT _ hq)) hn.2 λq hq=>hd q (AT _ hq)
  exact(aDr (h p (AX ..)) (λq hq=>h q (AT _ hq)) hn.1).mul_dvd_of_dvd_of_dvd (hd p (AX ..)) h1
def aDp{l:Ad Ae}(h:∀q∈l,PrN q)(hn:l.Nodup){x y:Al}(hr:∀q∈l,(x-y)%(q:Al)=0)(hb:(x-y).natAbs<bK l):x=y:=by
 have hd:bK l ∣ (x-y).natAbs:=aMe h hn λq hq=>F0.1 (Int.dvd_natAbs.2 (Int.dvd_of_emod_eq_zero (hr q hq)))
 rcases BB (x-y).natAbs with h0|h0
 .omega
 .have:=G7 h0 hd;omega
def aKf:∀(l done:Ad (Ae×Ae)) (a m:Ae),bCa (done++l)->m=bK (done.map (·.1))->a<m->(∀x∈done,a%x.1=x.2) ->
 (pV l a m).2=bK ((done++l).map (·.1))/\(pV l a m).1<(pV l a m).2/\∀x∈done++l,(pV l a m).1%x.1=x.2
 |[],done,a,m,hP,hm,ha,hr=>by simp only[pV,El];exact⟨hm,ha,hr⟩
 | (p,v)::l,done,a,m,hP,hm,ha,hr=>by
  have hp:PrN p:=hP.pr (p,v) (by simp);have hv:v<p:=hP.lt (p,v) (by simp);have hnd:=hP.nd;rw[Fi,Ej]at hnd;have hpn:p ∉ done.map (·.1):=λh=>hnd.2.2 p h p (by simp) rfl
  have hcop:Fz p m:=by rw[hm];refine aDr hp (λq hq=>?_) hpn;obtain⟨x,hx,rfl⟩:=AY.1 hq;exact hP.pr x (EH _ hx)
  have hp2:=hp.1;have hmp:m%p≠0:=λh=>by have h1:=GS hcop (C4 h);omega
  have ht:=aXc (v:=v) (a:=a) (m:=m) (show 0<p by omega);have hok:=bUe (a:=a) (m:=m) hp hv hmp;have ih:=aKf l (done++[(p,v)]) (a+m*tM p v a m) (m*p) (by simpa using hP) (by
   rw[hm];have:∀(xs:Ad Ae),bK (xs++[p])=bK xs*p:=λxs=>by
    induction xs with
    |nil=>simp[bK]
    |cons x xs ih=>simp only[Cz,bK,ih,C7]
   rw[Fi];exact(this _).symm) (by
   have:m*(tM p v a m+1)<=m*p:=DC m ht;rw[DJ,Eb]at this;omega) (λx hx=>by
   rcases BR.1 hx with h|h
   .have h1:=hr x h;have hd:x.1 ∣ m:=by
     rw[hm];have:∀(xs:Ad Ae) (q:Ae),q∈xs->q ∣ bK xs:=λxs q hq=>by
      induction xs with
      |nil=>cases hq
      | cons y xs ih =>
       rcases BQ.1 hq with rfl|h
       .exact⟨_,rfl⟩
       .obtain⟨k,hk⟩:=ih h;exact⟨y*k,by simp only[bK,hk];ac_rfl⟩
     exact this _ _ (Dn h)
    obtain⟨k,hk⟩:=hd;rw[hk,C7,FH];exact h1
   .simp only[CB]at h;subst h;exact hok)
  simp only[pV];simpa using ih
def aKe{l:Ad (Ae×Ae)}(hP:bCa l):(∀x∈l,(aFf l)%(x.1:Al)=(x.2:Al))/\2*aFf l<=(bK (l.map (·.1)):Al)/\-(bK (l.map (·.1)):Al)<2*aFf l:=by
 obtain⟨h1,h2,h3⟩:=aKf l [] 0 1 (by simpa using hP) rfl (by decide) (by simp);simp only[Ea]at h1 h3;unfold aFf;rw[h1]at h2;simp only[h1];generalize(pV l 0 1).1=a at *;have hdv:∀x∈l,((bK (l.map (·.1)):Ae):Al)%(x.1:Al)=0:=λx hx=>by
  have:∀(xs:Ad Ae) (q:Ae),q∈xs->q ∣ bK xs:=λxs q hq=>by
   induction xs with
   |nil=>cases hq
   | cons y xs ih =>
    rcases BQ.1 hq with rfl|h
    .exact⟨_,rfl⟩
    .obtain⟨k,hk⟩:=ih h;exact⟨y*k,by simp only[bK,hk];ac_rfl⟩
  exact Ha (F0.2 (this _ _ (Dn hx)))
 generalize bK (l.map (·.1))=Mm at *;split
 .refine⟨λx hx=>?_,by omega,by omega⟩;have:=h3 x hx;rw[Int.sub_emod,hdv x hx,Int.sub_zero,Int.emod_emod_of_dvd _ (Int.dvd_refl _)];omega
 .refine⟨λx hx=>?_,by omega,by omega⟩;have:=h3 x hx;omega
open Go Go.Am Go.Proofs
def yW(k:Ae):Al:=(k:Al)-1
def aRo(k:Ae):yW (k+1)=(k:Al):=by unfold yW;omega
def aRn:yW 0=-1:=rfl
def rmd(p x:Ae):Ae:=x%p
def bDm{m:Ad Ae}{k:Ae}(h:k<m.length):val (m.drop k)=m[k]! + 4294967296*val (m.drop (k+1)):=by rw[CW h,CC m k h];rfl
def bTr(m:Ad Ae):∃L,aZ m=.sl L/\L.length=m.length/\∀i,i<m.length->L[i]? = Aa [.i .u32 ((m[i]! : Ae):Al)]:=⟨_,rfl,by simp,λi hi=>by rw[Ao,Ac hi,CC m i hi];rfl⟩
def bPz[M:Mch Ab](p:Ae)(neg:Bw)(m:Ad Ae)(hp:0<p)(hp1:p<=2147483648)(hm:Lim m)(hl:m.length<=9223372036854775807) :
 Spec Ab 140 [.i .u64 p,.ag [.b neg,aZ m]] (.i .u64 (if neg=Ak/\0<val m%p then p-val m%p else val m%p:Ae)):=by
 obtain⟨L,hL,hLl,hLg⟩:=bTr m
 have h1L:one (.d (.sl L))=true:=rfl
 refine bU (N:=36) Tryz.func140 ?_
 rw[hL]
 simp[-O,-U,↓KW]
 have hlw:Ax.wrap ((L.length:Al)-1)=yW m.length:=by rw[hLl];unfold yW;exact bP
 have hmod:∀x:Ae,x%p<p:=λx=>B9 x hp
 refine bT (τ:=Ae) (λk=>k<=m.length) (λk=>StL [(0,.d (.i .u64 p)),(3,.ptr 1 0),(5,.d (.i .u64 (rmd p (val (m.drop k)):Ae))),(6,.d (.i .i64 (yW k)))] Aj [.cells 35 [.d (.b neg),.d (.sl L)]]) (λk=>k) m.length (AM _) ?_ ?_
 .rw[List.drop_length]
  refine wkQ [1] ?_ ?_<;>simp[-O,upd,bH,Γ0,val,hlw,rmd]
 .intro k hk
  cases k with
  | zero =>
   rw[aRn,Ew]
   show AWP _ _ (StL [(0,_),(3,_),(5,.d (.i .u64 ((val m%p:Ae):Al))),(6,_)] Aj _) _
   have hr:=hmod (val m)
   generalize val m%p=r at *
   simp[-O,-U,↓KW]
   refine bQ ?_
   cases neg with
   |false=>simp[-O,-U,↓KW]
   | true =>
    rcases BB r with h0|h0
    .subst h0
     simp[-O,-U,↓KW]
    .have hi:(0:Al)<(r:Al):=by omega
     have hw:Bh.wrap ((p:Al)-(r:Al))=((p-r:Ae):Al):=by rw[show(p:Al)-(r:Al)=((p-r:Ae):Al)from by omega];exact wrap_u64 (by omega) (by omega)
     simp[-O,-U,↓KW,hi,h0,hw]
  | succ k =>
   rw[aRo]
   show AWP _ _ (StL [(0,_),(3,_),(5,.d (.i .u64 ((val (m.drop (k+1))%p:Ae):Al))),(6,_)] Aj _) _
   have hx:m[k]! < 4294967296:=by rw[CC m k (by omega)];exact hm _ (B3 ..)
   have hLk:=hLg k (by omega)
   have hLk':∀h,L[k]'h=[.i .u32 ((m[k]! : Ae):Al)]:=λh=>by rw[Ac h]at hLk;injection hLk
   have hv:val (m.drop k)%p=(val (m.drop (k+1))%p*4294967296+m[k]!)%p:=by rw[bDm (by omega)];rw[EF m[k]!,Da 4294967296];exact cEh (bHf (E3 _ _).symm rfl) rfl
   obtain⟨r',hr'⟩:∃r',val (m.drop k)%p=r':=⟨_,rfl⟩
   have hr:=hmod (val (m.drop (k+1)))
   rw[hr']at hv
   generalize val (m.drop (k+1))%p=r at *
   generalize m[k]! = x at *
   have hR:=vB (r*4294967296+x) p hp
   rw[<-hv]at hR
   have hk0:(0:Al)<=(k:Al):=by omega
   have hkl:k<L.length:=by omega
   have hwk:Ax.wrap (k:Al)=k:=bP
   have hwk1:Ax.wrap ((k:Al)-1)=yW k:=by unfold yW;exact bP
   have hsh:cY .shl .u64 (r:Al) 32=Aa (.i .u64 ((r*4294967296:Ae):Al)):=by simp only[cY,Df];rw[Ap (by decide)];congr 2;rw[show(2:Al)^(min (32:Al).toNat 64)=4294967296 from by decide];rw[show(r:Al)*4294967296=((r*4294967296:Ae):Al)from by omega];exact wrap_u64 (by omega) (by omega)
   have hwx:Bh.wrap (x:Al)=x:=wrap_u64 (by omega) (by omega)
   have hor:dT .or Az (.d (.i .u64 ((r*4294967296:Ae):Al))) (.d (.i .u64 (x:Al)))=Aa (.i .u64 ((r*4294967296+x:Ae):Al)):=by show Aa (D.i .u64 (bits .or .u64 ((r*4294967296:Ae):Al) (x:Al)))=_;rw[bits_or_u64_nat _ _ (by omega) (by omega)];congr 3;have:=Nat.shiftLeft_add_eq_or_of_lt (i:=32) (b:=x) (by omega) r;rw[Nat.shiftLeft_eq]at this;exact this.symm
   generalize r*4294967296=R at *
   generalize R+x=Rx at *
   simp[-O,-U,↓KW,hk0,hsh,hkl,hwk,hwk1,hLk,hLk',hwx,hor]
   refine aL hR ?_
   simp[-O,-U,↓KW,hwk1]
   refine bD k (by omega) (by omega) ?_
   show ∃ρ,Wk _ (StL _ _ _) ρ
   rw[show rmd p (val (m.drop k))=r' from hr']
   refine wkQ [1] ?_ ?_<;>simp[-O,upd,bH,Γ0]
def aIs[M:Mch Ab](p:Ae)(z:Al)(hp:0<p)(hp1:p<=2147483648)(hz:Sz z):Spec Ab 140 [.i .u64 p,encZ z] (.i .u64 (z%(p:Al))):=by
 have h:=bPz p (decide (z<0)) (bJ z.natAbs) hp hp1 (dH _) (Bg hz (by decide));rw[<-cX,fI]at h;have e:(((if decide (z<0)=Ak/\0<z.natAbs%p then p-z.natAbs%p else z.natAbs%p:Ae)):Al)=z%(p:Al):=by
  simp only[Bz];have hlt:=B9 z.natAbs hp;by_cases hz:z<0
  .have hzz:z=-(z.natAbs:Al):=by omega
   have hm:z%(p:Al)=(-(z.natAbs:Al))%(p:Al):=by rw[<-hzz]
   have hd:=GA z.natAbs p;rw[hm];generalize z.natAbs=n at *;rcases BB (n%p)with h0|h0
   .rw[Ap (by omega),h0];have:(p:Al) ∣ -(n:Al):=Int.dvd_neg.2 (F0.2 (C4 h0));rw[Ha this];rfl
   .rw[AB ⟨hz,h0⟩];have:-(n:Al)=((p-n%p:Ae):Al)+(p:Al)*(-(n/p:Ae)-1:Al):=by
     have h2:(n:Al)=(p:Al)*((n/p:Ae):Al)+((n%p:Ae):Al):=by rw[<-Di,<-Em,hd]
     rw[Int.mul_sub,Int.mul_neg,Int.mul_one];omega
    rw[this,Int.add_mul_emod_self_left];rw[Int.emod_eq_of_lt (by omega) (by omega)]
  .rw[Ap (by omega)];have:z=(z.natAbs:Al):=by omega
   conv=>rhs;rw[this]
   rfl
 rwa [e]at h
def aVa[M:Mch Ab](p n:Ae)(hp:0<p)(hp1:p<=2147483648)(hn:n<2^256):Spec Ab 140 [.i .u64 p,cB n] (.i .u64 (n%p:Ae)):=by
 have h:=aIs p (n:Al) hp hp1 (by
  have:=cV (n:=n) (k:=8) (Be hn (by decide));unfold Sz;simp;omega)
 rw[fQ]at h;exact h
def aWe[M:Mch Ab](p a:Ae)(hp:2<=p)(hp1:p<=2147483648)(ha:a<p)(h0:a≠0):Spec Ab 139 [.i .u64 p,.i .u64 a] (.tp [.i .u64 (a^(p-2)%p:Ae),.i .i64 0]):=by
 have hP:=aVe p a (p-2) (by omega) hp1 (by omega) (by omega);rw[bGd (by omega) (by omega)]at hP;generalize a^(p-2)%p=r at *;have hw:Bh.wrap ((p:Al)-2)=((p-2:Ae):Al):=by rw[show(p:Al)-2=((p-2:Ae):Al)from by omega];exact wrap_u64 (by omega) (by omega)
 have hi:((a:Al)==0)=false:=by simp;omega
 generalize p-2=e at *;refine bU (N:=13) Tryz.func139 ?_;simp[-O,-U,↓KW,hi,h0,hw];refine aL hP ?_;simp[-O,-U,↓KW];rfl
def aIg[M:Mch Ab](p a b:Ae)(hp:0<p)(hp1:p<=2147483648)(ha:a<p)(hb:b<p):Spec Ab 142 [.i .u64 p,.i .u64 a,.i .u64 b] (.i .u64 ((a+p-b)%p:Ae)):=by
 have hR:=vB (a+p-b) p hp;generalize(a+p-b)%p=r at *;have hw1:Bh.wrap ((a:Al)+(p:Al))=((a+p:Ae):Al):=by rw[<-Em];exact wrap_u64 (by omega) (by omega)
 have hw2:Bh.wrap (((a+p:Ae):Al)-(b:Al))=((a+p-b:Ae):Al):=by rw[show((a+p:Ae):Al)-(b:Al)=((a+p-b:Ae):Al)from by omega];exact wrap_u64 (by omega) (by omega)
 generalize a+p-b=x at *;generalize a+p=y at *;refine bU (N:=14) Tryz.func142 ?_;simp[-O,-U,↓KW,hw1,hw2];refine aL hR ?_;simp[-O,-U,↓KW]
def xU[M:Mch Ab](n:Ae)(hn:n<18446744073709551616):Spec Ab 206 [.i .u64 n] (aZ [n%4294967296,n/4294967296]):=by
 have hw0:Cs.wrap (n:Al)=((n%4294967296:Ae):Al):=by rw[E0];omega
 have hw1:Cs.wrap ((n/4294967296:Ae):Al)=((n/4294967296:Ae):Al):=by rw[E0];omega
 have hsh:=aFt (t:=n);generalize n/4294967296=hi at *;generalize n%4294967296=lo at *;refine bU (N:=9) Tryz.func206 ?_;simp[-O,-U,↓KW,hw0,hw1,hsh];rfl
def mL[M:Mch Ab]{n:Ae}(hn:n<9223372036854775808):Spec Ab 107 [.i .i64 n] (cB n):=by
 have hL:=xU n (by omega);have hV:=aNp Az [n%4294967296,n/4294967296] (by simp);rw[gR (by intro x hx;simp at hx;rcases hx with rfl|rfl<;>omega)]at hV;have hv:val [n%4294967296,n/4294967296]=n:=by simp[val];omega
 rw[hv]at hV;have hV':Spec Ab 152 [.b Az,aZ [n%4294967296,n/4294967296]] (cB n):=hV;generalize[n%4294967296,n/4294967296]=l at *;have hw:Bh.wrap (n:Al)=n:=wrap_u64 (by omega) (by omega);have hlt:¬(n:Al)<0:=by omega
 refine bU (N:=15) Tryz.func107 ?_;simp[-O,-U,↓KW,hw,hlt];refine aL hL ?_;simp[-O,-U,↓KW,bE];refine aL hV' ?_;simp[-O,-U,↓KW,aY n,bE]
def bWa{n:Ae}(hn:n<4294967296):dT .and Az (.d (.i .u64 (n:Al))) (.d (.i .u64 4294967295))=Aa (.i .u64 (n:Al)):=by show Aa (D.i .u64 (bits .and .u64 (n:Al) 4294967295))=_;have:=bits_and_u64_nat n 4294967295 (by omega) (by decide);rw[show(4294967295:Al)=((4294967295:Ae):Al)from rfl,this];congr 3;exact(Nat.and_two_pow_sub_one_eq_mod n 32).trans (Cr hn)
def bVh[M:Mch Ab]{n:Ae}(hn:n<4294967296):Spec Ab 143 [.i .u64 n] (cB n):=by
 have h0:=mL (n:=0) (by omega);have h2:=mL (n:=4294967296) (by omega);have hM:=aJd (x:=0) (y:=4294967296) (by decide) (by decide);have hO:=mL (n:=n) (by omega);have hA:=aKj (x:=0) (y:=n) (by decide) (by omega);rw[Ef]at hM;rw[AP]at hA;have hsh:=aFt (t:=n);rw[DW hn]at hsh;have ha:=bWa hn;have hw:Ax.wrap (n:Al)=n:=bP;have hw0:Ax.wrap 0=0:=by decide
 refine bU (N:=16) Tryz.func143 ?_;simp[-O,-U,↓KW,hsh,hw0];refine aL h0 ?_;simp[-O,-U,↓KW,aY 0,bE];refine aL h2 ?_;simp[-O,-U,↓KW,aY 4294967296,bE];refine aL hM ?_;simp[-O,-U,↓KW,aY 0,bE,ha,hw];refine aL hO ?_;simp[-O,-U,↓KW,aY n,bE];refine aL hA ?_;simp[-O,-U,↓KW,aY n,bE]
def cBn[M:Mch Ab]{n:Ae}(hn:n<4294967296):Spec Ab 115 [.i .u64 n] (cB n):=by
 have h0:=mL (n:=0) (by omega);have h2:=mL (n:=4294967296) (by omega);have hM:=aJd (x:=0) (y:=4294967296) (by decide) (by decide);have hO:=mL (n:=n) (by omega);have hA:=aKj (x:=0) (y:=n) (by decide) (by omega);rw[Ef]at hM;rw[AP]at hA;have hsh:=aFt (t:=n);rw[DW hn]at hsh;have ha:=bWa hn;have hw:Ax.wrap (n:Al)=n:=bP;have hw0:Ax.wrap 0=0:=by decide
 refine bU (N:=16) Tryz.func115 ?_;simp[-O,-U,↓KW,hsh,hw0];refine aL h0 ?_;simp[-O,-U,↓KW,aY 0,bE];refine aL h2 ?_;simp[-O,-U,↓KW,aY 4294967296,bE];refine aL hM ?_;simp[-O,-U,↓KW,aY 0,bE,ha,hw];refine aL hO ?_;simp[-O,-U,↓KW,aY n,bE];refine aL hA ?_;simp[-O,-U,↓KW,aY n,bE]
def bSc[M:Mch Ab]{x y:Ae}(hx:x<2^255)(hy:y<2^255)(h0:0<y):Spec Ab 144 [cB x,cB y] (encZ ((x:Al)-y)):=by
 have hA:=aAl (x:Al) (-(y:Al)) (szN (by omega)) (tZ (by simp;omega));rw[<-Int.sub_eq_add_neg,fQ]at hA;have hny:encZ (-(y:Al))=.ag [.b Ak,aZ (bJ y)]:=by rw[cX,show decide (-(y:Al)<0)=Ak from by simp;omega];simp
 rw[hny]at hA;generalize(x:Al)-(y:Al)=z at *;refine bU (N:=13) Tryz.func144 ?_;simp[-O,-U,↓KW,aY x,aY y,bE];refine aL hA ?_;simp[-O,-U,↓KW,cX z,bE]
def dX(T:Ad Al):Ad (Al×AV):=T.map λn=>(n,.d (.b Ak))
def uI(l:Ad Ae):Ad Al:=l.map λ(p:Ae)=>(p:Al)
def wK(l:Ad Ae):∃L,cO l=.sl L/\L.length=l.length/\∀i,i<l.length->L[i]? = Aa [.i .u64 ((l[i]! : Ae):Al)]:=⟨_,rfl,by simp,λi hi=>by rw[Ao,Ac hi,CC l i hi];rfl⟩
def uG(n:Al):∀T:Ad Al,(fJ n (dX T)=Aj↔n ∉ T)/\∀j,fJ n (dX T)=Aa j->(dX T)[j]? = Aa (n,.d (.b Ak))
 |[]=>⟨by simp[dX,fJ],by simp[dX,fJ]⟩
 | x::T=>by
   obtain⟨h1,h2⟩:=uG n T;show(fJ n ((x,_)::dX T)=Aj↔_)/\∀j,fJ n ((x,_)::dX T)=Aa j->((x,AV.d (.b Ak))::dX T)[j]? = _;unfold fJ;by_cases h:x=n
   . subst h;simp
   . have hn:¬n=x:=λe=>h e.symm
     simp only[h,if_false,Option.map_eq_none_iff,BQ,not_or,hn,not_false_eq_true,true_and]
     refine⟨h1,λj hj=>?_⟩
     obtain⟨i,hi,rfl⟩:=Ai.1 hj
     simpa using h2 i hi
def aGp(P:As)(t kt vt:AF)(k:BJ)(T:Ad Al)(n:Al)(ht:tmp P t=Aa (kt,vt))(hk:fS P kt=Aa k)(hz:tz P vt=Aa (.bool Az)):vT P t k (dX T) (.d (.i k n)) Az=Aa (.d (.b (decide (n∈T)))):=by
 obtain⟨h1,h2⟩:=uG n T;unfold vT;simp only[ht,Option.bind_some,hk,and_self,if_true,aVw];cases hm:fJ n (dX T)with
 | none =>
   have:=h1.1 hm;simp[hz,this];rfl
 | some j =>
   have hj:=h2 j hm;have:n∈T:=CY λh=>by rw[h1.2 h]at hm;cases hm
   simp[hj,this]
def sU(n:Al)(T:Ad Al)(h:n ∉ T):aNc (dX T) n (.d (.b Ak))=dX (T++[n]):=by unfold aNc;rw[(uG n T).1.2 h];simp[dX]
def jA{H H':Hp}{ρ:Ae->Ae}{k:BJ}(T:Ad Al):mZ H H' ρ (.map k (dX T)) (.map k (dX T))↔True:=⟨λ_=>trivial,λ_=>bDw λx hx=>by
 obtain⟨n,_,rfl⟩:=AY.1 hx;simp⟩
def oY{H H':Hp}{ρ:Ae->Ae}{k:BJ}:mZ H H' ρ (.map k []) (.map k [])↔True:=⟨λ_=>trivial,λ_=>⟨rfl,rfl,λ_ _ _ h=>by simp at h⟩⟩
def pK{l:Ad Ae}{p:Ae}:((p:Al)∈uI l)↔p∈l:=by
 unfold uI;rw[AY];constructor
 . rintro⟨q,hq,e⟩
   have:q=p:=by omega
   subst this;exact hq
 . exact λh=>⟨p,h,rfl⟩
def uF{α:Type}{T:Ad α}{p:α}(h:T.Nodup)(hp:p ∉ T):(T++[p]).Nodup:=by rw[Ej];exact⟨h,by simp,λa ha b hb e=>by simp at hb;subst hb;exact hp (e ▸ ha)⟩
def bMd{T:Ad Ae}{Q:Ae->Bw}{p:Ae}(hq:∀x∈T,Q x=Ak)(hp:Q p=Ak):∀x∈T++[p],Q x=true:=λx hx=>by
 rcases BR.1 hx with hx|hx
 . exact hq x hx
 . rw[CB.1 hx];exact hp
def bHm:tmp Ab 228=Aa (46,4):=by kernel_rfl
def bHn:tmp Ab 45=Aa (3,4):=by kernel_rfl
def aSc(T:Ad Al)(n:Al):vT Ab 228 .u64 (dX T) (.d (.i .u64 n)) Az=Aa (.d (.b (decide (n∈T)))):=aGp _ _ _ _ _ _ _ bHm (by kernel_rfl) (by kernel_rfl)
def bHo(T:Ad Al)(n:Al):vT Ab 45 .i64 (dX T) (.d (.i .i64 n)) Az=Aa (.d (.b (decide (n∈T)))):=aGp _ _ _ _ _ _ _ bHn (by kernel_rfl) (by kernel_rfl)
def vS{P:As}(H:Hp)(t:AF)(id:Ae)(x:AV)(v:Aq AV):rG P H t (.mp id) x v=match H id with
 | some (.map k es)=>(tmp P t).bind λp=>match x with
   |.d (.i k' n)=>if k'=k/\fS P p.1=Aa k then Aa (id,.map k (match v with|some v=>aNc es n v|none=>aZw es n))else Aj
   |_=>Aj
 |_=>none:=rfl
def fY{P:As}{H:Hp}{t:AF}{id:Ae}{x:AV}{ok:Bw}:aGq P H t (.mp id) x ok=match H id with|some (.map k es)=>vT P t k es x ok|_=>none:=rfl
def aOm[M:Mch Ab](Q:Ae->Bw)(l:Ad Ae)(hl:l.length<=1000000)(hP:∀p∈l,Spec Ab 129 [.i .u64 (p:Ae)] (.b (Q p))):Spec Ab 53 [cO l] (.b (l.all Q&&decide l.Nodup)):=by
 obtain⟨L,hL,hLl,hLg⟩:=wK l;rw[hL];refine bU (N:=24) Tryz.func53 ?_;simp[-O,-U,↓KW];refine bT (τ:=Ae) (λi=>i<=l.length/\(l.take i).Nodup/\∀p∈l.take i,Q p=Ak) (λi=>StL [(3,.mp 1),(7,.d (.sl L)),(8,.d (.i .i64 L.length)),(9,.d (.i .i64 i))] Aj [.map .u64 (dX (uI (l.take i)))]) (λi=>l.length-i) 0 ⟨BH _,by simp,by simp⟩ ?_ ?_
 . rw[Ct]
   refine wkQ [1] ?_ ?_<;>simp[-O,upd,bH,Γ0,show dX (uI [])=[]from rfl,oY]
 . rintro i ⟨hi,hn,hq⟩
   by_cases hlt:i<l.length
   . have hLi:=hLg i hlt
     have hLi':∀h,L[i]'h=[.i .u64 ((l[i]! : Ae):Al)]:=λh=>by rw[Ac h]at hLi;injection hLi
     have hiL:i<L.length:=by omega
     generalize hT:l.take i=T at *
     generalize hp:l[i]! = p at *
     have hPp:Spec Ab 129 [.i .u64 (p:Ae)] (.b (Q p)):=hP p (by rw[<-hp,CC l i hlt];exact B3 ..)
     have hge:l[i]? = Aa p:=by rw[<-hp,CC l i hlt];exact Ac hlt
     have hT1:l.take (i+1)=T++[p]:=by rw[BG,hge,hT];rfl
     by_cases hm:p∈T
     . have hdl:(l.all Q && decide l.Nodup)=false:=by
        have hx:decide l.Nodup=false:=by simp only[Hb];intro hnd;have:(l.take (i+1)).Nodup:=Ex (DK ..) hnd;rw[hT1,Ej]at this;exact this.2.2 p hm p (by simp) rfl
        rw[hx,Bool.and_false]
       rw[hdl]
       have hlk:=aSc (uI T) p
       rw[CQ (pK.2 hm)]at hlk
       simp[-O,-U,↓KW,hiL,hLi,hLi',fY,hlk]
       exact bQ (by simp[-O,-U,↓KW])
     . have hlk:=aSc (uI T) p
       rw[Cn (λh=>hm (pK.1 h))]at hlk
       have hmp:=sU (p:Al) (uI T) (λh=>hm (pK.1 h))
       have hu:uI T++[(p:Al)]=uI (T++[p]):=by simp[uI]
       rw[hu]at hmp
       have hw1:Ax.wrap ((i:Al)+1)=((i+1:Ae):Al):=bP
       simp[-O,-U,↓KW,hiL,hLi,hLi',fY,hlk]
       refine aL hPp ?_
       cases hQp:Q p with
       | false =>
         have hd:(l.all Q&&decide l.Nodup)=false:=by
          have:l.all Q=false:=by rw[List.all_eq_false];exact⟨p,At hge,by rw[hQp];exact Bool.false_ne_true⟩
          rw[this];rfl
         rw[hd];simp[-O,-U,↓KW];exact bQ (by simp[-O,-U,↓KW])
       |true =>
       simp[-O,-U,↓KW,vS,hmp,hw1]
       refine bD (i+1) ⟨by omega,by rw[hT1];exact uF hn hm,by rw[hT1];exact bMd hq hQp⟩ (by show l.length-(i+1)<l.length-i;omega) ?_
       show ∃ρ,Wk _ (StL _ _ _) ρ
       rw[hT1]
       refine wkQ [1] ?_ ?_<;>simp[-O,upd,bH,Γ0,jA]
   . have hiL:¬i<L.length:=by omega
     have hdl:(l.all Q&&decide l.Nodup)=true:=by rw[A4 (by omega)]at hn hq;rw[CQ hn,A1.2 hq,Bool.and_self]
     rw[hdl]
     simp[-O,-U,↓KW,hiL]
     exact bQ (by simp[-O,-U,↓KW])
def aDn[M:Mch Ab](l:Ad Ae)(hl:l.length<=1000000)(hP:∀p∈l,Spec Ab 129 [.i .u64 (p:Ae)] (.b Ak)):Spec Ab 53 [cO l] (.b (decide l.Nodup)):=by have:=aOm (λ_=>Ak) l hl hP;rwa [A1.2 (λ_ _=>rfl),Bool.true_and]at this
def oO(l:Ad (Ae×Ae)):D:=.sl (l.map λx=>[.i .u64 (x.1:Al),.i .u64 (x.2:Al)])
def aJw(l:Ad (Ae×Ae)):∃L,oO l=.sl L/\L.length=l.length/\∀(i:Ae) (x:Ae×Ae),l[i]? = Aa x->L[i]? = Aa [D.i .u64 (x.1:Al),D.i .u64 (x.2:Al)]:=⟨_,rfl,by simp,λi x hx=>by rw[Ao,hx];rfl⟩
def lB(l:Ad (Ae×Ae×Ae)):D:=.sl (l.map λx=>[.i .i64 (x.1:Al),.i .u64 (x.2.1:Al),.i .u64 (x.2.2:Al)])
def rQ(l:Ad (Ae×Ae×Ae)):∃L,lB l=.sl L/\L.length=l.length/\∀(i:Ae) (x:Ae×Ae×Ae),l[i]? = Aa x->L[i]? = Aa [D.i .i64 (x.1:Al),D.i .u64 (x.2.1:Al),D.i .u64 (x.2.2:Al)]:=⟨_,rfl,by simp,λi x hx=>by rw[Ao,hx];rfl⟩
def cI{L:Ad (Ad D)}{i:Ae}{x:Ad D}(h:L[i]? = Aa x):∀h',L[i]'h'=x:=λh'=>by rw[Ac h']at h;injection h
def prR(l:Ad (Ae×Ae)):Ad Ae:=l.map (·.1)
def okR(l:Ad (Ae×Ae)):Prop:=(prR l).Nodup/\∀x∈l,x.2<x.1
def aCe(l:Ad (Ae×Ae))(i:Ae):prR (l.take i)=(prR l).take i:=by simp[prR]
def bKq[M:Mch Ab](l:Ad (Ae×Ae))(b:Bw)(hb:b=Ak↔okR l)(hl:l.length<=1000000)(hP:∀x∈l,Spec Ab 129 [.i .u64 (x.1:Ae)] (.b Ak)):Spec Ab 137 [oO l] (.b b):=by
 obtain⟨L,hL,hLl,hLg⟩:=aJw l;rw[hL];refine bU (N:=34) Tryz.func137 ?_;simp[-O,-U,↓KW];refine bT (τ:=Ae) (λi=>i<=l.length/\okR (l.take i)) (λi=>StL [(3,.mp 1),(7,.d (.sl L)),(8,.d (.i .i64 L.length)),(9,.d (.i .i64 i))] Aj [.map .u64 (dX (uI (prR (l.take i))))]) (λi=>l.length-i) 0 ⟨BH _,by simp[okR,prR]⟩ ?_ ?_
 .rw[Ct];refine wkQ [1] ?_ ?_<;>simp[-O,upd,bH,Γ0,show dX (uI (prR []))=[]from rfl,oY]
 .rintro i ⟨hi,hn⟩;by_cases hlt:i<l.length
  .obtain⟨⟨p,v⟩,hge⟩:∃x,l[i]? = Aa x:=⟨_,Ac hlt⟩;have hmem:=At hge;have hLi:=hLg i _ hge;simp only at hLi;have hLi':=cI hLi;have hiL:i<L.length:=by omega
   have hT1:l.take (i+1)=l.take i++[(p,v)]:=by rw[BG,hge];rfl
   have hall:okR l->okR (l.take (i+1)):=λh=>⟨by rw[aCe];exact Ex (DK ..) h.1,λx hx=>h.2 x (BS hx)⟩
   have hPp:Spec Ab 129 [.i .u64 (p:Ae)] (.b Ak):=hP _ hmem;have hw1:Ax.wrap ((i:Al)+1)=((i+1:Ae):Al):=bP;have hpT:prR (l.take (i+1))=prR (l.take i)++[p]:=by rw[hT1];simp[prR]
   generalize hTT:prR (l.take i)=T at *;have hlk:=aSc (uI T) p;by_cases hm:p∈T
   .have hbf:b=false:=by
     cases b with
     |false=>rfl
     | true =>
      have h1:=(hall (hb.1 rfl)).1;rw[hpT,Ej]at h1;exact absurd rfl (h1.2.2 p hm p (by simp))
    subst hbf;rw[CQ (pK.2 hm)]at hlk;simp[-O,-U,↓KW,hiL,hLi,hLi',fY,hlk];exact bQ (by simp[-O,-U,↓KW])
   .rw[Cn (λh=>hm (pK.1 h))]at hlk;have hmp:=sU (p:Al) (uI T) (λh=>hm (pK.1 h));have hu:uI T++[(p:Al)]=uI (T++[p]):=by simp[uI]
    rw[hu]at hmp;by_cases hv:v<p
    .have hpv:¬(p:Al)<=(v:Al):=by omega
     have hpv':¬p<=v:=by omega
     have hokn:okR (l.take (i+1)):=⟨by rw[hpT];exact uF (hTT ▸ hn.1) hm,λx hx=>by
      rw[hT1]at hx;rcases BR.1 hx with h|h
      .exact hn.2 x h
      .simp only[CB]at h;subst h;exact hv⟩
     simp[-O,-U,↓KW,hiL,hLi,hLi',fY,hlk];refine aL hPp ?_;simp[-O,-U,↓KW,hpv,hpv',vS,hmp,hw1];refine bD (i+1) ⟨by omega,hokn⟩ (by show l.length-(i+1)<l.length-i;omega) ?_;show ∃ρ,Wk _ (StL _ _ _) ρ;rw[hpT];refine wkQ [1] ?_ ?_<;>simp[-O,upd,bH,Γ0,jA]
    .have hpv:(p:Al)<=(v:Al):=by omega
     have hpv':p<=v:=by omega
     have hbf:b=false:=by
      cases b with
      |false=>rfl
      |true=>exact absurd ((hb.1 rfl).2 _ hmem) (by simpa using hpv')
     subst hbf;simp[-O,-U,↓KW,hiL,hLi,hLi',fY,hlk];refine aL hPp ?_;simp[-O,-U,↓KW,hpv,hpv'];exact bQ (by simp[-O,-U,↓KW])
  .have hiL:¬i<L.length:=by omega
   have hbt:b=true:=by rw[A4 (by omega)]at hn;exact hb.2 hn
   subst hbt;simp[-O,-U,↓KW,hiL];exact bQ (by simp[-O,-U,↓KW])
def wkL(l:Ad (Ae×Ae×Ae)):Ad Ae:=l.map (·.1)
def pmL(l:Ad (Ae×Ae×Ae)):Ad Ae:=l.map (·.2.1)
def aMq(l:Ad (Ae×Ae×Ae)):Prop:=(wkL l).Nodup/\∀x∈l,x.2.2<x.2.1
def bCz(l:Ad (Ae×Ae×Ae))(i:Ae):wkL (l.take i)=(wkL l).take i:=by simp[wkL]
def mE(c:Ad Ae)(k:BJ)(W:Ad Al):gT c (.map k (dX W))=.map k (dX W):=by simp[gT,dX];exact λ_ _=>rfl
def bZu{H:Hp}{id:Ae}{e:AF}{T:Ad Ae}{n:Ae}(hn:T.length=n)(hH:H id=Aa (.cells e ((dU T).map AV.d))):frz H 8 (.own id 0 n 1)=Aa (cO T):=by have e1:=jE hn;have e2:=oP hn;have e3:=fC T;rw[hn]at e3;simp[-O,-U,aDe,hH,e1,e2,e3,cO]
def bJf{H:Hp}{x:AV}{d:D}(h:frz H 8 x=Aa d):cK H [x]=Aa [d]:=by simp[cK,h]
def ppS(L:Ad (Ad D))(n i:Ae)(W:Ad Al):Ad Ae->St
 |[]=>StL [(3,.mp 1),(4,.nil),(8,.d (.sl L)),(9,.d (.i .i64 n)),(10,.d (.i .i64 i))] Aj [.map .i64 (dX W)]
 |x::T=>StL [(3,.mp 1),(4,.own 2 0 (T.length+1) 1),(8,.d (.sl L)),(9,.d (.i .i64 n)),(10,.d (.i .i64 i))] Aj [.map .i64 (dX W),.cells 46 ((dU (x::T)).map .d)]
def aRl[M:Mch Ab](l:Ad (Ae×Ae×Ae))(b:Bw)(hb:b=Ak↔aMq l/\(pmL l).Nodup)(hl:l.length<=1000000)(hP:∀x∈l,Spec Ab 129 [.i .u64 (x.2.1:Ae)] (.b Ak)):Spec Ab 58 [lB l] (.b b):=by
 obtain⟨L,hL,hLl,hLg⟩:=rQ l;have hD:=aDn (pmL l) (by simp[pmL];omega) (λp hp=>by
  obtain⟨x,hx,rfl⟩:=AY.1 hp;exact hP x hx)
 rw[hL];refine bU (N:=39) Tryz.func58 ?_;simp[-O,-U,↓KW];refine bT (τ:=Ae) (λi=>i<=l.length/\aMq (l.take i)) (λi=>ppS L L.length i (uI (wkL (l.take i))) (pmL (l.take i))) (λi=>l.length-i) 0 ⟨BH _,by simp[aMq,wkL]⟩ ?_ ?_
 .rw[Ct];show ∃ρ,Wk _ (ppS _ _ _ [] []) ρ;unfold ppS;refine wkQ [1] ?_ ?_<;>simp[-O,upd,bH,Γ0,show dX []=[]from rfl,oY]
 .rintro i ⟨hi,hn⟩;by_cases hlt:i<l.length
  .obtain⟨⟨w,p,v⟩,hge⟩:∃x,l[i]? = Aa x:=⟨_,Ac hlt⟩;have hmem:=At hge;have hLi:=hLg i _ hge;simp only at hLi;have hLi':=cI hLi;have hiL:i<L.length:=by omega
   have hT1:l.take (i+1)=l.take i++[(w,p,v)]:=by rw[BG,hge];rfl
   have hall:aMq l->aMq (l.take (i+1)):=λh=>⟨by rw[bCz];exact Ex (DK ..) h.1,λx hx=>h.2 x (BS hx)⟩
   have hw1:Ax.wrap ((i:Al)+1)=((i+1:Ae):Al):=bP;have hwT:wkL (l.take (i+1))=wkL (l.take i)++[w]:=by rw[hT1];simp[wkL]
   have hpT:pmL (l.take (i+1))=pmL (l.take i)++[p]:=by rw[hT1];simp[pmL]
   have hPl:(pmL (l.take i)).length=i:=by simp[pmL];omega
   generalize hTT:wkL (l.take i)=T at *;generalize pmL (l.take i)=PT at *;have hlk:=bHo (uI T) w;by_cases hm:w∈T
   .have hbf:b=false:=by
     cases b with
     |false=>rfl
     | true =>
      have h1:=(hall (hb.1 rfl).1).1;rw[hwT,Ej]at h1;exact absurd rfl (h1.2.2 w hm w (by simp))
    subst hbf;rw[CQ (pK.2 hm)]at hlk;cases PT with
    | nil =>
     simp[-O,-U,↓KW,ppS,hiL,hLi,hLi',fY,hlk];exact bQ (by simp[-O,-U,↓KW])
    | cons x PT =>
     simp[-O,-U,↓KW,ppS,hiL,hLi,hLi',fY,hlk];exact bQ (by simp[-O,-U,↓KW])
   .rw[Cn (λh=>hm (pK.1 h))]at hlk;have hmp:=sU (w:Al) (uI T) (λh=>hm (pK.1 h));have hu:uI T++[(w:Al)]=uI (T++[w]):=by simp[uI]
    rw[hu]at hmp;by_cases hv:v<p
    .have hpv:¬(p:Al)<=(v:Al):=by omega
     have hpv':¬p<=v:=by omega
     have hokn:aMq (l.take (i+1)):=⟨by rw[hwT];exact uF (hTT ▸ hn.1) hm,λx hx=>by
      rw[hT1]at hx;rcases BR.1 hx with h|h
      .exact hn.2 x h
      .simp only[CB]at h;subst h;exact hv⟩
     cases PT with
     | nil =>
      have hm1:(1:Ae)<=maxLen:=bY (by decide);simp[-O,-U,↓KW,ppS,hiL,hLi,hLi',fY,hlk,hpv,hpv',vS,hmp,hw1,hm1];refine bD (i+1) ⟨by omega,hokn⟩ (by show l.length-(i+1)<l.length-i;omega) ?_;show ∃ρ,Wk _ (ppS _ _ _ _ _) ρ;rw[hwT,hpT];show ∃ρ,Wk _ (ppS _ _ _ _ (p::[])) ρ;unfold ppS;refine wkQ [1,4] ?_ ?_<;>simp[-O,upd,bH,Γ0,Ci,cH,kU,nZ,jA,mE]
     | cons x PT =>
      have hbb:=kO (n:=PT.length+1) (by simp at hPl;omega);simp[-O,-U,↓KW,ppS,hiL,hLi,hLi',fY,hlk,hpv,hpv',vS,hmp,hw1,fC,hbb,bY];refine bD (i+1) ⟨by omega,hokn⟩ (by show l.length-(i+1)<l.length-i;omega) ?_;show ∃ρ,Wk _ (ppS _ _ _ _ _) ρ;rw[hwT,hpT];show ∃ρ,Wk _ (ppS _ _ _ _ (x::(PT++[p]))) ρ;unfold ppS;refine wkQ [1,5] ?_ ?_<;>simp[-O,upd,bH,Γ0,Ci,cH,kU,nZ,jA,mE]
    .have hpv:(p:Al)<=(v:Al):=by omega
     have hpv':p<=v:=by omega
     have hbf:b=false:=by
      cases b with
      |false=>rfl
      |true=>exact absurd ((hb.1 rfl).1.2 _ hmem) (by simpa using hpv')
     subst hbf;cases PT with
     | nil =>
      simp[-O,-U,↓KW,ppS,hiL,hLi,hLi',fY,hlk,hpv,hpv'];exact bQ (by simp[-O,-U,↓KW])
     | cons x PT =>
      simp[-O,-U,↓KW,ppS,hiL,hLi,hLi',fY,hlk,hpv,hpv'];exact bQ (by simp[-O,-U,↓KW])
  .have hiL:¬i<L.length:=by omega
   rw[A4 (show l.length<=i by omega)]at hn ⊢;have hbe:b=decide (pmL l).Nodup:=by
    cases b with
    |false=>symm;rw[Hb];exact λh=>by have:=hb.2 ⟨hn,h⟩;cases this
    |true=>symm;rw[Bz];exact(hb.1 rfl).2
   rw[hbe];generalize decide (pmL l).Nodup=bb at *;generalize hPT:pmL l=PT at *;cases PT with
   | nil =>
    simp[-O,-U,↓KW,ppS,hiL];refine bQ ?_;simp[-O,-U,↓KW];refine aL hD ?_;simp[-O,-U,↓KW]
   | cons x PT =>
    simp[-O,-U,↓KW,ppS,hiL];refine bQ ?_;simp[-O,-U,↓KW];refine iD (ds:=[cO (x::PT)]) ?_ hD ?_
    .exact bJf (bZu (T:=x::PT) rfl rfl)
    simp[-O,-U,↓KW]
def bRd{P:As}(f:AU)(x:AN)(Γ:Ae->AV)(n:Ae):nev P (.makeFunc (.func f) #[x] #[]) Γ n=cU (match oev Γ x with|.d d=>Aa (.d (.fm f d))|.ptr id off=>Aa (.bm f id off)|_=>Aj):=by show(match[oev Γ x]with|[.d d]=>cU (Aa (AV.d (.fm f d)))|[.ptr id off]=>cU (Aa (.bm f id off))|_=>Aj)=_;cases oev Γ x<;>rfl
def aDt(f:AU)(d:D):dG (.d (.fm f d))=none:=rfl
def aDu{P:As}[M:Mch P](x:AV)(avs:Ad AV)(H:Hp)(k:Ad AV->D->Prop)(d:Dm k):aXn P Aj x avs H k d=aXp P x avs H k .mk:=rfl
def zI{P:As}[M:Mch P]{f:AU}{x:D}{avs:Ad AV}{H:Hp}{k:Ad AV->D->Prop}{d:Dm k}{ds:Ad D}{r:D}(h1:cK H (.d x::avs)=Aa ds)(h2:Spec P f ds r)(h3:k (.d x::avs) r):aXp P (.d (.fm f x)) avs H k d:=⟨ds,r,h1,h2,h3⟩
def sR:∀{l:Ad Ae},(∀q∈l,0<q)->0<bK l
 |[],_=>by simp[bK]
 |p::l,h=>Nat.mul_pos (h p (AX ..)) (sR λq hq=>h q (AT _ hq))
def nX:∀{l:Ad Ae},(∀q∈l,0<q)->∀i,bK (l.take i)<=bK l
 |[],_,i=>by simp
 | p::l,h,0=>by rw[Ct];exact sR h
 | p::l,h,i+1=>by rw[List.take_succ_cons];exact DC p (nX (λq hq=>h q (AT _ hq)) i)
def tf0:bDt Ab 48 0=Aa (0,Az,1):=by kernel_rfl
def tf1:bDt Ab 48 1=Aa (1,Az,1):=by kernel_rfl
def aHa(p v:Ae):∀(T:Ad (Ae×Ae)) (a m:Ae),pV (T++[(p,v)]) a m=((pV T a m).1+(pV T a m).2*tM p v (pV T a m).1 (pV T a m).2,(pV T a m).2*p)
 |[],a,m=>rfl
 | (q,w)::T,a,m=>by simp only[Cz,pV];exact aHa p v T _ _
def cAo[M:Mch Ab](l:Ad (Ae×Ae))(i:Ae)(p v:Ae)(h:l[i]? = Aa (p,v))(hl:l.length<=1000000):Spec Ab 138 [oO l,.i .i64 i] (.ag [.i .u64 p,.i .u64 v]):=by
 obtain⟨L,hL,hLl,hLg⟩:=aJw l;have hLi:=hLg i _ h;simp only at hLi;have hLi':=cI hLi;have hlt:=(AA.1 h).1;have hiL:i<L.length:=by omega
 have hw0:Ax.wrap (i:Al)=i:=bP;rw[hL];refine bU (N:=9) Tryz.func138 ?_;simp[-O,-U,↓KW,hiL,hLi,hLi',hw0]
def zG[M:Mch Ab](l:Ad (Ae×Ae))(hR:bCa l)(hl:l.length<=1000)(hB:bK (prR l)<2^250)(hp31:∀x∈l,x.1<2147483648)(hP:∀x∈l,Spec Ab 129 [.i .u64 (x.1:Ae)] (.b Ak)) :
 Spec Ab 50 [oO l] (.tp [encZ (aFf l),.i .i64 0]):=by
 have hV:=bKq l Ak ⟨λ_=>⟨hR.nd,hR.lt⟩,λ_=>rfl⟩ (by omega) hP
 have hat:=λ(i p v:Ae) (h:l[i]? = Aa (p,v))=>cAo l i p v h (by omega)
 obtain⟨L,hL,hLl,hLg⟩:=aJw l
 rw[hL]at hV hat ⊢
 have h0:=mL (n:=0) (by omega)
 have h1:=mL (n:=1) (by omega)
 refine bU (N:=72) Tryz.func50 ?_
 simp[-O,-U,↓KW]
 refine aL hV ?_
 simp[-O,-U,↓KW]
 refine aL h0 ?_
 simp[-O,-U,↓KW,aY 0,bE]
 refine aL h1 ?_
 simp[-O,-U,↓KW,↓aF,↓aA,↓aG,↓aH,aY 1,bE]
 simp[-O,-U,↓KW,↓aF,↓aA,↓aG,↓aH,bRd]
 obtain⟨st,hst⟩:∃st:Ae->Ae×Ae,∀i,st i=pV (l.take i) 0 1:=⟨λi=>pV (l.take i) 0 1,λi=>rfl⟩
 have hinv:∀i,i<=l.length->(st i).2=bK (prR (l.take i))/\(st i).1<(st i).2/\(st i).2<2^250:=λi hi=>by
  have hPT:bCa (l.take i):=⟨λx hx=>hR.pr x (BS hx),λx hx=>hR.lt x (BS hx),by rw[FL];exact Ex (DK ..) hR.nd⟩;obtain⟨k1,k2,_⟩:=aKf (l.take i) [] 0 1 (by simpa using hPT) rfl (by decide) (by simp);rw[<-hst i]at k1 k2;refine⟨by simpa[prR]using k1,k2,?_⟩;rw[k1];refine Bv ?_ hB;rw[Ea];show bK (prR (l.take i))<=_;rw[aCe];exact nX (λq hq=>by
   obtain⟨x,hx,rfl⟩:=AY.1 hq;have:=(hR.pr x hx).1;omega) i
 have hmod:∀i p v,l[i]? = Aa (p,v)->(st i).2%p≠0:=λi p v hge hz=>by
  have hxm:=At hge;have hlt:=(AA.1 hge).1;have hpr:PrN p:=hR.pr _ hxm;have hT1:l.take (i+1)=l.take i++[(p,v)]:=by rw[BG,hge];rfl
  have hnd:(prR (l.take (i+1))).Nodup:=by rw[aCe];exact Ex (DK ..) hR.nd
  rw[hT1]at hnd;have hpn:p ∉ prR (l.take i):=λh=>by
   have e:prR (l.take i++[(p,v)])=prR (l.take i)++[p]:=by simp[prR]
   rw[e,Ej]at hnd;exact hnd.2.2 p h p (by simp) rfl
  have hcop:Fz p (st i).2:=by rw[(hinv i (by omega)).1];refine aDr hpr (λq hq=>?_) hpn;obtain⟨x,hx,rfl⟩:=AY.1 hq;exact hR.pr x (BS hx)
  have:=GS hcop (C4 hz);have:=hpr.1;omega
 refine bT (τ:=Ae) (λi=>i<=l.length) (λi=>StL [(2,.ptr 1 0),(4,.ptr 2 0),(5,.ptr 3 0),(6,.d (.fm 138 (.sl L))),(22,.d (.i .i64 L.length)),(23,.d (.i .i64 i))] Aj [.cells 35 [.d (.b Az),.nil],.cells 35 [.d (.b Az),.d (aZ (bJ (st i).1))],.cells 35 [.d (.b Az),.d (aZ (bJ (st i).2))]]) (λi=>l.length-i) 0 (BH _) ?_ ?_
 .rw[hst,Ct]
  refine wkQ [1,2,3] ?_ ?_<;>simp[-O,upd,bH,Γ0,pV]
 .intro i hi
  by_cases hlt:i<l.length
  .obtain⟨⟨p,v⟩,hge⟩:∃x,l[i]? = Aa x:=⟨_,Ac hlt⟩
   have hA:=hat i p v hge
   have hiL:i<L.length:=by omega
   have hxm:=At hge
   have hpr:PrN p:=hR.pr _ hxm
   have hvp:v<p:=hR.lt _ hxm
   have hp31':p<2147483648:=hp31 _ hxm
   have hp2:=hpr.1
   have hT1:l.take (i+1)=l.take i++[(p,v)]:=by rw[BG,hge];rfl
   have hst1:st (i+1)=((st i).1+(st i).2*tM p v (st i).1 (st i).2,(st i).2*p):=by rw[hst,hst,hT1];exact aHa p v _ 0 1
   obtain⟨g1,g2,g3⟩:=hinv i hi
   obtain⟨g4,g5,g6⟩:=hinv (i+1) hlt
   rw[hst1]at g4 g5 g6
   simp only at g4 g5 g6
   have hmp:(st i).2%p≠0:=hmod i p v hge
   have hm1:=B9 (st i).2 (show 0<p by omega)
   have ha1:=B9 (st i).1 (show 0<p by omega)
   have hRm:=aVa p (st i).2 (by omega) (by omega) (by omega)
   have hRa:=aVa p (st i).1 (by omega) (by omega) (by omega)
   have hI:=aWe p ((st i).2%p) hp2 (by omega) hm1 hmp
   have hSb:=aIg p v ((st i).1%p) (by omega) (by omega) hvp ha1
   have hs1:=B9 (v+p-(st i).1%p) (show 0<p by omega)
   have hi1:=B9 (((st i).2%p)^(p-2)) (show 0<p by omega)
   have hMl:=pJ p ((v+p-(st i).1%p)%p) (((st i).2%p)^(p-2)%p) (by omega) (Bv (BO (Dz (FD hs1 hp31')) (Dz (FD hi1 hp31'))) (by decide))
   have hct:(v+p-(st i).1%p)%p*(((st i).2%p)^(p-2)%p)%p=tM p v (st i).1 (st i).2:=rfl
   rw[hct]at hMl
   have htl:tM p v (st i).1 (st i).2<p:=aXc (by omega)
   have hWt:=bVh (n:=tM p v (st i).1 (st i).2) (by omega)
   have hWp:=bVh (n:=p) (by omega)
   have hMt:=aJd (x:=(st i).2) (y:=tM p v (st i).1 (st i).2) (by omega) (by omega)
   have hMp:=aJd (x:=(st i).2) (y:=p) (by omega) (by omega)
   have hmt2:(st i).2*tM p v (st i).1 (st i).2<=(st i).2*p:=DC _ (Dz htl)
   have hAd:=aKj (x:=(st i).1) (y:=(st i).2*tM p v (st i).1 (st i).2) (by omega) (by omega)
   have hw1:Ax.wrap ((i:Al)+1)=((i+1:Ae):Al):=bP
   have hn1:(st (i+1)).1=(st i).1+(st i).2*tM p v (st i).1 (st i).2:=by rw[hst1]
   have hn2:(st (i+1)).2=(st i).2*p:=by rw[hst1]
   rw[<-hn1]at hAd
   rw[<-hn2]at hMp
   generalize tM p v (st i).1 (st i).2=t at *
   generalize((st i).2%p)^(p-2)%p=iv at *
   generalize(v+p-(st i).1%p)%p=sv at *
   generalize(st i).2*t=mt at *
   generalize(st i).1%p=ap at *
   generalize(st i).2%p=mp at *
   generalize(st i).1=a at *
   generalize(st i).2=m at *
   obtain⟨a',ha'⟩:∃a',(st (i+1)).1=a':=⟨_,rfl⟩
   obtain⟨m',hm'⟩:∃m',(st (i+1)).2=m':=⟨_,rfl⟩
   rw[ha']at hAd
   rw[hm']at hMp
   simp[-O,-U,↓KW,↓aF,↓aA,↓aG,↓aH,hiL,aDt,aDu]
   refine zI (ds:=[.sl L,.i .i64 i]) (by rfl) hA ?_
   simp[-O,-U,↓KW,↓aF,↓aA,↓aG,↓aH,aDt,aDu,tf0,tf1]
   refine zI (ds:=[.sl L,.i .i64 i]) (by rfl) hA ?_
   simp[-O,-U,↓KW,↓aF,↓aA,↓aG,↓aH,tf0,tf1,bE]
   refine aL hRm ?_
   simp[-O,-U,↓KW,↓aF,↓aA,↓aG,↓aH,bE]
   refine aL hI ?_
   simp[-O,-U,↓KW,↓aF,↓aA,↓aG,↓aH,bE]
   refine aL hRa ?_
   simp[-O,-U,↓KW,↓aF,↓aA,↓aG,↓aH,bE]
   refine aL hSb ?_
   simp[-O,-U,↓KW,↓aF,↓aA,↓aG,↓aH,bE]
   refine aL hMl ?_
   simp[-O,-U,↓KW,↓aF,↓aA,↓aG,↓aH,bE]
   refine aL hWt ?_
   simp[-O,-U,↓KW,↓aF,↓aA,↓aG,↓aH,aY t,bE]
   refine aL hMt ?_
   simp[-O,-U,↓KW,↓aF,↓aA,↓aG,↓aH,aY mt,bE]
   refine aL hAd ?_
   simp[-O,-U,↓KW,↓aF,↓aA,↓aG,↓aH,aY a',bE]
   refine aL hWp ?_
   simp[-O,-U,↓KW,↓aF,↓aA,↓aG,↓aH,aY p,bE]
   refine aL hMp ?_
   simp[-O,-U,↓KW,↓aF,↓aA,↓aG,↓aH,aY m',hw1,bE]
   refine bD (i+1) (by omega) (by show l.length-(i+1)<l.length-i;omega) ?_
   show ∃ρ,Wk _ (StL _ _ _) ρ
   rw[ha',hm']
   refine wkQ [1,2,3] ?_ ?_<;>simp[-O,upd,bH,Γ0]
  .have hiL:¬i<L.length:=by omega
   obtain⟨g1,g2,g3⟩:=hinv i hi
   have hz:aFf l=if(st i).2<(st i).1+(st i).1 then((st i).1:Al)-((st i).2:Al)else((st i).1:Al):=by unfold aFf;rw[hst,A4 (by omega)]
   rw[hz]
   have hAA:=aKj (x:=(st i).1) (y:=(st i).1) (by omega) (by omega)
   obtain⟨r,hC,hr⟩:=bKu (x:=(st i).1+(st i).1) (y:=(st i).2) (by omega) (by omega)
   have hSb:=bSc (x:=(st i).1) (y:=(st i).2) (by omega) (by omega) (by omega)
   generalize(st i).1=a at *
   generalize(st i).2=m at *
   generalize a+a=aa at *
   simp[-O,-U,↓KW,↓aF,↓aA,↓aG,↓aH,hiL]
   refine bQ ?_
   simp[-O,-U,↓KW,↓aF,↓aA,↓aG,↓aH,bE]
   refine aL hAA ?_
   simp[-O,-U,↓KW,↓aF,↓aA,↓aG,↓aH,aY aa,bE]
   refine aL hC ?_
   by_cases h:m<aa
   .have hr1:=hr.2 h
    rw[AB h]
    generalize(a:Al)-(m:Al)=z at *
    simp[-O,-U,↓KW,↓aF,↓aA,↓aG,↓aH,hr1,bE]
    refine aL hSb ?_
    simp[-O,-U,↓KW,↓aF,↓aA,↓aG,↓aH,cX z,bE,gV]
   .have hr1:¬0<r:=λh'=>h (hr.1 h')
    rw[Ap h,fQ]
    simp[-O,-U,↓KW,↓aF,↓aA,↓aG,↓aH,hr1,aY a,bE,gV]
def qT(z:Al):Ad D:=[.b (decide (z<0)),aZ (bJ z.natAbs)]
def dK(v:Ad Al):D:=.sl (v.map qT)
def vcs(v:Ad Al):Ad D:=(v.map qT).flatten
def fR(l:Ad Al):(vcs l).length=l.length*2:=by
 unfold vcs;induction l with
 |nil=>rfl
 |cons x l ih=>simp only[BX,Dq,BK,ih,qT,Av,AK];omega
def bOc(a b:Ad Al):vcs (a++b)=vcs a++vcs b:=by simp[vcs]
def aUu(z:Al):vcs [z]=[.b (decide (z<0)),aZ (bJ z.natAbs)]:=rfl
def aJx(z:Al):qT z=[.b (decide (z<0)),aZ (bJ z.natAbs)]:=rfl
def bBf(l:Ad (Ad D))(h:∀x∈l,x.length=2):chunk 2 l.length l.flatten=l:=by
 induction l with
 |nil=>rfl
 | cons a l ih =>
  have ha:=h a (AX ..);have:=ih λx hx=>h x (AT _ hx)
  unfold chunk at this ⊢;rw[Av,E6,BX,Dp,Dq];congr 1
  .simp[ha]
  .conv=>rhs;rw[<-this]
   apply DF;intro i _;simp only[Function.comp];rw[show Nat.succ i*2=a.length+i*2 from by omega,List.drop_append,Dy (by omega)];simp
def yG{l:Ad Al}{n:Ae}(h:l.length=n):chunk 2 n (vcs l)=l.map qT:=by subst h;have:=bBf (l.map qT) (λx hx=>by obtain⟨y,_,rfl⟩:=AY.1 hx;rfl);rwa [BV]at this
def oX{l:Ad Al}{n:Ae}(h:l.length=n):D7 (n*2) ((vcs l).map AV.d)=(vcs l).map AV.d:=A4 (by simp[fR,h])
def bJh{H:Hp}{B:Ae}{e:AF}{v:Ad Al}{n:Ae}(m:Ae)(hB:H B=Aa (.cells e ((vcs v).map .d)))(hv:v.length=n):frz H (m+2) (.own B 0 n 2)=Aa (dK v):=by have hl:=fR v;rw[hv]at hl;rw[aAq,hB];simp only[AP,BV,hl,Ef,Ew];rw[oX hv,AB ⟨AM _,by decide⟩];have:List.mapM (frz H (m+1)) ((vcs v).map AV.d)=Aa (vcs v):=aCn H m (vcs v);rw[this,Bj,yG hv];rfl
def oD(z:Al)(v:Ad Al):vcs (z::v)=qT z++vcs v:=by simp[vcs]
def aBb:∀{v:Ad Al} {k:Ae} {z:Al},v[k]? = Aa z->((vcs v).drop (k*2)).take 2=qT z
 |[],k,z,h=>by simp at h
 | y::v,0,z,h=>by simp at h;subst h;rw[oD];rfl
 | y::v,k+1,z,h=>by have ih:=aBb (v:=v) (k:=k) (z:=z) (by simpa using h);rw[oD,show(k+1)*2=k*2+2 by omega,<-ih];rw[EF,<-List.drop_drop];rfl
def aUt:∀{v:Ad Al} {k:Ae} (z:Al),k<v.length->(vcs v).take (k*2)++qT z++(vcs v).drop (k*2+2)=vcs (v.set k z)
 |[],k,z,h=>by simp at h
 | y::v,0,z,h=>by rw[Dg,oD,oD];rfl
 | y::v,k+1,z,h=>by
  have ih:=aUt (v:=v) (k:=k) z (by simpa using h);rw[E9,oD,oD,<-ih,show(k+1)*2=2+k*2 by omega,show 2+k*2+2=2+(k*2+2)by omega];have e1:∀n,D7 (2+n) (qT y++vcs v)=qT y++D7 n (vcs v):=λn=>by rw[List.take_append,A4 (by show 2<=2+n;omega)];congr 2;show 2+n-2=n;omega
  have e2:∀n,List.drop (2+n) (qT y++vcs v)=List.drop n (vcs v):=λn=>by rw[<-List.drop_drop];rfl
  rw[e1,e2];simp
def mapM_some{α β:Type}(f:α->Aq β)(g:Ae->β):∀(l:Ad α),(∀k x,l[k]? = Aa x->f x=Aa (g k))->l.mapM f=Aa ((AW l.length).map g)
 |[],_=>rfl
 | x::l,h=>by rw[CG,h 0 x rfl,mapM_some f (λk=>g (k+1)) l λk y hy=>h (k+1) y (by simpa using hy),Av,E6];simp[Function.comp_def]
def zr(cols:Ae):Ad AV:=(AO cols [AV.d (.b Az),AV.nil]).flatten
def bMz{H H':Hp}{ρ:Ae->Ae}(cols:Ae):fV H H' ρ (zr cols) (zr cols):=by
 refine eE.2 ⟨rfl,λk c d h1 h2=>?_⟩;rw[h1]at h2;injection h2 with h2;subst h2
 have hm:=At h1;unfold zr at hm;rw[List.mem_flatten]at hm;obtain⟨l,hl,hc⟩:=hm;rw[List.eq_of_mem_replicate hl]at hc;rcases BQ.1 hc with rfl|hc
 .exact(mD _ _).2 rfl
 .rw[CB.1 hc];trivial
def aPu{H H':Hp}{ρ:Ae->Ae}:∀c:Ae,fV H H' ρ (zr c) ((vcs (AO c 0)).map .d)
 |0=>trivial
 | c+1=>by
  have ih:=aPu (H:=H) (H':=H') (ρ:=ρ) c;have e1:zr (c+1)=AV.d (.b Az)::AV.nil::zr c:=by simp[zr,C9]
  have e2:(vcs (AO (c+1) 0)).map AV.d=AV.d (.b (decide ((0:Al)<0)))::AV.d (aZ (bJ (0:Al).natAbs))::(vcs (AO c 0)).map AV.d:=by rw[C9];rfl
  rw[e1,e2];refine⟨?_,?_,ih⟩
  .exact(mD _ _).2 rfl
  .exact⟨by rw[show((0:Al).natAbs)=0 from rfl,cN];rfl,λa ha=>by simp[vis]at ha⟩
def nwV(rows cols m:Ae):AV:=.ag [.d (.i .i64 (rows:Al)),.d (.i .i64 (cols:Al)),.own m 0 rows 1]
def hdr(c n b:Ae):Ad AV:=(AW n).map λj=>AV.own (j+b) 0 c 2
def aRd(v:Ad Al):HO:=.cells 35 ((vcs v).map .d)
def mB(c:Ae)(M:Ad (Ad Al))(m:Ae):Ad HO:=.cells 66 (hdr c M.length (m+1))::M.map aRd
def lT(c n b:Ae):(hdr c n b).length=n:=by simp[hdr]
def aAo{c n b i:Ae}(h:i<n):(hdr c n b)[i]? = Aa (.own (i+b) 0 c 2):=by unfold hdr;rw[Ao,BZ h];rfl
def bJa(c n b:Ae):hdr c (n+1) b=hdr c n b++[.own (n+b) 0 c 2]:=by simp[hdr,List.range_succ]
def pL(c:Ae)(M:Ad (Ad Al))(m:Ae):(mB c M m).length=M.length+1:=by simp[mB]
def nwH(cols i:Ae):Hp:=λid =>
 if id=1 then Aa (.cells 31 [.d (.i .i64 0),.d (.i .i64 0),.nil])else if id=2 then Aa (.cells 66 (hdr cols i 3))else if 3<=id/\id<i+3 then Aa (.cells 35 (zr cols))else Aj
def bYa[M:Mch Ab](rows cols:Ae)(hr:rows<=1000)(hc:cols<=1000):aEn Ab 101 [.i .i64 (rows:Al),.i .i64 (cols:Al)] (nwV rows cols) (mB cols (AO rows (AO cols 0))):=by
 refine aCi (N:=22) aT Tryz.func101 rfl rfl rfl (by decide) (by kernel_rfl) (by kernel_rfl) (by simp) rfl ?_;have m1:¬(rows:Al)<0:=by omega
 have m2:¬(cols:Al)<0:=by omega
 have hm3:32*(cols:Al)<=281474976710656:=by omega
 have hm4:(cols:Al)<=9223372036854775807:=by omega
 simp[-O,-U,↓KW,m1,m2,bY];refine eF (λi:Ae=>i<=rows) (λi=>⟨gK [(0,.d (.i .i64 (rows:Al))),(1,.d (.i .i64 (cols:Al))),(4,.ptr 1 0),(5,.own 2 0 i 1),(6,.d (.i .i64 (i:Al)))],nwH cols i,i+3⟩) (λi=>rows-i) 0 (BH _) ?_ ?_
 .refine⟨_,nB ?_ (λid o' ho=>?_) (λid hid=>?_) (by simp)⟩
  .simp[-O,upd,bH,Γ0,nwH]
  .simp only[nwH]at ho;split at ho
   .rename_i e;subst e;injection ho with ho;subst ho
    exact⟨_,rfl,by simp[-O,upd,bH,Γ0]⟩
   .split at ho
    .rename_i e;subst e;injection ho with ho;subst ho
     exact⟨_,rfl,eL.2 ⟨rfl,trivial⟩⟩
    .rw[Ap (by omega)]at ho;cases ho
  .simp only[nwH];rw[Ap (by omega),Ap (by omega),Ap (by omega)]
 .intro i hi;have hH1:nwH cols i 1=Aa (.cells 31 [.d (.i .i64 0),.d (.i .i64 0),.nil]):=rfl;have hH2:nwH cols i 2=Aa (.cells 66 (hdr cols i 3)):=rfl;have hlen:(hdr cols i 3).length=i:=lT ..;by_cases hgo:i<rows
  .have q1:(i:Al)<rows:=by omega
   have hw:Ax.wrap ((i:Al)+1)=(i:Al)+1:=bP;generalize hHg:nwH cols i=H at *;generalize hcl:hdr cols i 3=cells at *;have hb:(i+1)*24<=140737488355328:=by omega
   have hb2:i+1<=maxLen:=bY (by omega);simp[-O,-U,↓KW,q1,hgo,hw,hm3,hm4,hH1,hH2,hlen,m1,m2,hb,hb2];have hn1:(nwH cols (i+1) 1).isSome=true:=rfl;have hn2:(nwH cols (i+1) 2).isSome=true:=rfl;have hnj:∀j,j<i+1->(nwH cols (i+1) (j+3)).isSome=true:=λj hj=>by unfold nwH;rw[Ap (by omega),Ap (by omega),AB (by omega)];rfl
   refine bD (i+1) hgo (slQ hgo) ⟨_,bWu (λid=>if id=2 then i+5 else id) ?_ (λid o' ho=>?_) (λid id' h1 h2 e=>?_) (λ_=>rfl) (λid hid=>?_) (by simp)⟩
   .simp[-O,upd,bH,Γ0,hn1,hn2]
   .simp only[nwH]at ho;split at ho
    .rename_i e;subst e;injection ho with ho;subst ho
     refine⟨.cells 31 [.d (.i .i64 0),.d (.i .i64 0),.nil],?_,by simp[-O,upd,bH,Γ0]⟩;rw[Ap (by omega)];simp only;rw[Ap (by omega),Ap (by omega),Ap (by omega),Ap (by omega),hH1];rfl
    .split at ho
     .rename_i e;subst e;injection ho with ho;subst ho
      refine⟨.cells 66 (hdr cols (i+1) 3),?_,eL.2 ⟨rfl,eE.2 ⟨rfl,λk x y h1 h2=>?_⟩⟩⟩
      .show Option.map (gT [2]) (if i+5=i+3+1+1 then Aa (HO.cells 66 (cells++[AV.own (i+3) 0 cols 2]))else _)=_;rw[AB (by omega),bJa,hcl];simp only[Bj,gT,Fi,BX,List.map_nil];have e1:cells.map (eM [2])=cells:=by rw[<-hcl];unfold hdr;rw[Dp];apply DF;intro j hj;simp[eM]
       rw[e1];simp[eM]
      .rw[h1]at h2;injection h2 with h2;subst h2
       have hk:k<i+1:=by have:=(AA.1 h1).1;rwa [lT]at this
       rw[aAo hk]at h1;injection h1 with h1;subst h1
       exact⟨by simp only;rw[Ap (by omega)],rfl,rfl,rfl,hnj k hk⟩
     .split at ho
      .rename_i e2 e3;injection ho with ho;subst ho
       refine⟨.cells 35 (zr cols),?_,eL.2 ⟨rfl,bMz cols⟩⟩;rw[Ap e2];simp only;rw[Ap (by omega),Ap e2,Ap (by omega)];have ez:Option.map (gT [2]) (Aa (HO.cells 35 (zr cols)))=Aa (.cells 35 (zr cols)):=by simp only[Bj,gT];congr 2;unfold zr;rw[List.map_flatten,GN];rfl
       by_cases e4:id=i+3
       .rw[AB e4];exact ez
       .rw[Ap e4,<-hHg];unfold nwH;rw[Ap (by omega),Ap (by omega),AB (by omega)];exact ez
      .cases ho
   .have k1:∀id,(nwH cols (i+1) id).isSome=Ak->1<=id/\id<i+4:=λid h=>by
     unfold nwH at h;split at h
     .omega
     .split at h
      .omega
      .split at h
       .omega
       .cases h
    have b1:=k1 id h1;have b2:=k1 id' h2;have e':(if id=2 then i+5 else id)=(if id'=2 then i+5 else id'):=e;split at e'<;>split at e'<;>omega
   .simp only[nwH];rw[Ap (by omega),Ap (by omega),Ap (by omega)]
  .have q1:¬(i:Al)<rows:=by omega
   have e:i=rows:=by omega
   subst e;generalize hHg:nwH cols i=H at *;simp[-O,-U,↓KW,q1,hH1,hH2];intro m hm0;have hML:(mB cols (AO i (AO cols (0:Al))) m).length=i+1:=by simp[pL]
   have hin:∀id,m<=id->id<m+(i+1)->(jX (nwV i cols) (mB cols (AO i (AO cols 0))) m).H id=(mB cols (AO i (AO cols 0)) m)[id-m]? := λid h1 h2=>by simp only[jX,iY];rw[AB ⟨h1,by rw[hML];exact h2⟩]
   have hout:∀id,¬(m<=id/\id<m+(i+1))->(jX (nwV i cols) (mB cols (AO i (AO cols 0))) m).H id=none:=λid h=>by simp only[jX,iY];rw[Ap (by rw[hML];exact h)]
   have hsome:∀id,((jX (nwV i cols) (mB cols (AO i (AO cols 0))) m).H id).isSome=Ak->m<=id/\id<m+(i+1):=λid h=>by
    by_cases hr:m<=id/\id<m+(i+1)
    .exact hr
    .rw[hout id hr]at h;cases h
   have hS0:((jX (nwV i cols) (mB cols (AO i (AO cols 0))) m).H m).isSome=true:=by rw[hin m (AM _) (by omega),Dw];rfl
   have hSj:∀j,j<i->(jX (nwV i cols) (mB cols (AO i (AO cols 0))) m).H (j+(m+1))=Aa (aRd (AO cols 0)):=λj hj=>by rw[hin _ (by omega) (by omega),show j+(m+1)-m=j+1 by omega];simp only[mB,BT,GN,E2,AB hj]
   refine⟨λid=>id-m+2,λid hid=>hout id (by simp only[jX]at hid;rw[hML]at hid;omega),λt=>?_,λid o' ho=>?_,λid id' h1 h2 e=>?_,λid hp h=>?_,λid hp h=>?_⟩
   .show Sub _ _ _ _ (upd (λ_=>.any) 0 (nwV i cols m) t);by_cases e:t=0
    .subst e;simp only[upd_same,nwV];refine⟨rfl,λk c d h1 h2=>?_⟩;rcases k with _|_|_|k
     .simp at h1 h2;subst h1;subst h2;exact(mD _ _).2 rfl
     .simp at h1 h2;subst h1;subst h2;exact(mD _ _).2 rfl
     .simp at h1 h2;subst h1;subst h2;exact⟨by simp,rfl,rfl,rfl,hS0⟩
     .simp at h1
    .rw[upd_ne _ _ e];exact sE _
   .have hr:=hsome id (by rw[ho];rfl);rw[hin id hr.1 hr.2]at ho;simp only;obtain⟨j,rfl⟩:∃j,id=m+j:=⟨id-m,by omega⟩;rw[show m+j-m=j by omega]at ho ⊢;rcases j with _|j
    .simp only[mB,Ca,List.length_replicate]at ho;injection ho with ho;subst ho
     refine⟨.cells 66 (hdr cols i 3),by simp only[upd];rw[Ap (by omega)];exact hH2,eL.2 ⟨rfl,eE.2 ⟨by rw[lT,lT],λk c d h1 h2=>?_⟩⟩⟩;have hlt:k<i:=by have:=(AA.1 h1).1;rwa [lT]at this
     rw[aAo hlt]at h1 h2;injection h1 with h1;injection h2 with h2;subst h1;subst h2
     exact⟨by show k+3=k+(m+1)-m+2;omega,rfl,rfl,rfl,by rw[hSj k hlt];rfl⟩
    .have hlt:j<i:=by omega
     simp only[mB,BT,GN,E2,AB hlt]at ho;injection ho with ho;subst ho
     refine⟨.cells 35 (zr cols),?_,eL.2 ⟨rfl,aPu cols⟩⟩;simp only[upd];rw[Ap (by omega),<-hHg];unfold nwH;rw[Ap (by omega),Ap (by omega),AB (by omega)]
   .have q1':=hsome id h1;have q2':=hsome id' h2;have e':id-m+2=id'-m+2:=e;omega
   .have hp:id=0:=hp;subst hp;have:=hsome 0 h;omega
   .have hp:id=0:=hp;subst hp;simp only[jX]at h;omega
def aCu[M:Mch Ab]{f:AU}{args:Ad D}{r:D}(h:(kC Ab EP 100 20).call f args=Aa r):Spec Ab f args r:=(mF (fuel:=100) aT aXm 20).call _ _ _ h
def eB {P:As} [M:Mch P] {f N:Ae} {fn:Func} {c:B1} {h:AV} {o o':HO} {args:Ad D} (hm:P.follows .mixedOrders=Ak) (hf:P.funcs[f]? = Aa fn) (hb:fn.body=Aa c) (hname:(fn.name == "runtime.NumGoroutine")=Az) (hN:fn.ntmps=N)
 (hd:bX N c=Ak) (hl:cM P c=Ak) (ha:args.length+1<=N) (hno':kL o'=Ak)
 (hA:AWP P c (St1 h o args N) λe σ=>(e=.normal\/e=.ret)/\jM P fn.results.toList σ=Aa (.tp [])/\σ.H 0=Aa o'):jV P f h o args o' (.tp []) :=
 yX hf hb hname hN ha hno' λG a w hZ hs=>bZ hm hZ c _ _ a w hd hl hA hs
def eQ{P:As}(σ:St):jM P [] σ=Aa (.tp []):=rfl
def qW{σ:St}{sl:Ad (Ae×AV)}{e:AF}{dl:Ad D}(hslot:iT σ.H (StL sl (Aa (.cells e (dl.map .d))) []).H (aBy []) σ.Γ sl)(h0:σ.H 0=Aa (.cells e (dl.map .d))):∃ρ,Wk σ (StL sl (Aa (.cells e (dl.map .d))) []) ρ :=
 ⟨_,aUn [] (by simp) hslot (λo' h=>⟨_,h0,by injection h with h;subst h;exact oF ..⟩) (by simp)⟩
def lJ(k:Ae):Al:=((k+1:Ae):Al)
def rR:Ae->Ad Al->Ad Al
 |0,l=>l
 |j+1,l=>if l[j+1]! < l[j]! then rR j ((l.set (j+1) l[j]!).set j l[j+1]!)else l
def kZ(l:Ad Al):Ae->Ad Al
 |0=>l
 |k+1=>rR (k+1) (kZ l k)
def dV(l:Ad Al):Ad Al:=kZ l (l.length-1)
def aOx:∀(j:Ae) (l:Ad Al),(rR j l).length=l.length
 |0,l=>rfl
 | j+1,l=>by
  unfold rR;split
  .rw[aOx];simp
  .rfl
def eW(l:Ad Al):∀k,(kZ l k).length=l.length
 |0=>rfl
 |k+1=>by unfold kZ;rw[aOx,eW l k]
def xH{l:Ad Al}{i j:Ae}(hi:i<l.length)(hj:j<l.length):((l.set i l[j]!).set j l[i]!).Perm l:=by rw[CC l i hi,CC l j hj];exact List.set_set_perm hi hj
def aHc:∀(j:Ae) (l:Ad Al),j<l.length->(rR j l).Perm l
 |0,l,_=>.refl _
 | j+1,l,h=>by
  unfold rR;split
  .refine(aHc j _ (by simp;omega)).trans (xH h (by omega))
  .exact .refl _
def aGr(l:Ad Al):∀k,k<l.length\/k=0->(kZ l k).Perm l
 |0,_=>.refl _
 | k+1,h=>by unfold kZ;exact(aHc (k+1) _ (by rw[eW];omega)).trans (aGr l k (by omega))
def sG(l:Ad Al):(dV l).Perm l:=aGr l _ (by omega)
def dzU(l:Ad Al):Ad D:=l.map λn=>.i .u64 n
def nM(l:Ad Al):(dzU l).length=l.length:=by simp[dzU]
def bJx{l:Ad Al}{i:Ae}(h:i<l.length):(dzU l)[i]? = Aa (.i .u64 l[i]!):=by unfold dzU;rw[Ao,Ac h,CC l i h];rfl
def aJy(l:Ad Al)(i:Ae)(x:Al):(dzU l).set i (.i .u64 x)=dzU (l.set i x):=by simp[dzU]
def pH(e:AF)(l:Ad Al):kL (.cells e ((dzU l).map .d))=true:=by simp only[kL,A1];intro x hx;obtain⟨d,hd,rfl⟩:=AY.1 hx;obtain⟨n,_,rfl⟩:=AY.1 hd;rfl
def cDj[M:Mch Ab](x y:Al):Spec Ab 235 [.i .u64 x,.i .u64 y] (.b (decide (x<y))):=by
 have hN:∀z:Al,Spec Ab 293 [.i .u64 z] (.b Az):=λz=>by refine bU (N:=6) Tryz.func293 ?_;simp[-O,-U,↓KW]
 refine bU (N:=17) Tryz.func235 ?_;simp[-O,-U,↓KW];refine aL (hN x) ?_;simp[-O,-U,↓KW]
def cGq[M:Mch Ab](l:Ad Al)(hl:l.length<=1000):jV Ab 229 (.own 0 0 l.length 1) (.cells 46 ((dzU l).map .d)) [.i .i64 0,.i .i64 l.length] (.cells 46 ((dzU (dV l)).map .d)) (.tp []):=by
 refine eB (N:=49) aT Tryz.func229 rfl rfl rfl (by kernel_rfl) (by kernel_rfl) (by simp) (pH _ _) ?_;have hw1:Ax.wrap 1=1:=by decide
 by_cases h0:l.length=0
 .have hl0:l=[]:=BI h0;subst hl0;simp[-O,-U,↓KW,St1,hw1];refine eR 1 ?_;simp[-O,-U,↓KW,↓aF,↓aA,↓aG,↓aH,show dV []=[]from rfl,eQ]
 replace h0:0<l.length:=by omega
 simp[-O,-U,↓KW,St1,hw1];refine bT (τ:=Ae) (λk=>k+1<=l.length) (λk=>StL [(0,.own 0 0 l.length 1),(1,.d (.i .i64 0)),(2,.d (.i .i64 l.length)),(6,.d (.i .i64 (lJ k)))] (Aa (.cells 46 ((dzU (kZ l k)).map .d))) []) (λk=>l.length-k) 0 (by omega) ?_ ?_
 .refine qW ?_ rfl;simp[-O,upd,bH,Γ0,lJ,kZ]
 .intro k hk;have hkl:=eW l k;by_cases hlt:k+1<l.length
  .have hR:kZ l (k+1)=rR (k+1) (kZ l k):=rfl;obtain⟨R,hRR⟩:∃R,kZ l (k+1)=R:=⟨_,rfl⟩;rw[hRR]at hR;obtain⟨i,hi⟩:∃i,k+1=i:=⟨_,rfl⟩;rw[hi]at hR hlt;have hs:lJ k=(i:Al):=by unfold lJ;omega
   have hs1:Ax.wrap ((i:Al)+1)=lJ (k+1):=by unfold lJ;rw[show(i:Al)+1=((k+1+1:Ae):Al)from by omega];exact bP
   rw[hs];generalize kZ l k=T0 at *;generalize l.length=n at *;simp[-O,-U,↓KW,hlt];refine bT (τ:=Ae×Ad Al) (λx=>x.1<=i/\x.2.length=n/\rR x.1 x.2=R) (λx=>StL [(0,.own 0 0 n 1),(1,.d (.i .i64 0)),(2,.d (.i .i64 n)),(6,.d (.i .i64 i)),(7,.d (.i .i64 (x.1:Ae)))] (Aa (.cells 46 ((dzU x.2).map .d))) []) (λx=>x.1) (i,T0) ⟨AM _,hkl,hR.symm⟩ ?_ ?_
   .refine qW ?_ rfl;simp[-O,upd,bH,Γ0]
   .rintro⟨j,T⟩ ⟨h1,h2,h3⟩;simp only at h1 h2 h3 ⊢;cases j with
    | zero =>
     have h3':T=R:=h3;subst h3';simp[-O,-U,↓KW];refine bQ ?_;simp[-O,-U,↓KW,hs1];refine bD (k+1) (by omega) (by show n-(k+1)<n-k;omega) ?_;show ∃ρ,Wk _ (StL _ _ _) ρ;rw[hRR];refine qW ?_ rfl;simp[-O,upd,bH,Γ0]
    | succ j =>
     have hL:=cDj T[j+1]! T[j]!;have ha:=bJx (l:=T) (i:=j+1) (by omega);have hb:=bJx (l:=T) (i:=j) (by omega);have ha':∀h,(dzU T)[j+1]'h=.i .u64 T[j+1]! := λh=>by rw[Ac h]at ha;injection ha
     have hb':∀h,(dzU T)[j]'h=.i .u64 T[j]! := λh=>by rw[Ac h]at hb;injection hb
     have hdl:=nM T;have hjn:j+1<n:=by omega
     have hjn':j<n:=by omega
     have hw0:Ax.wrap (j:Al)=j:=bP;have hset:((dzU T).set (j+1) (.i .u64 T[j]!)).set j (.i .u64 T[j+1]!)=dzU ((T.set (j+1) T[j]!).set j T[j+1]!):=by rw[aJy,aJy]
     have hbub:rR (j+1) T=if T[j+1]! < T[j]! then rR j ((T.set (j+1) T[j]!).set j T[j+1]!)else T:=rfl
     have hTl:((T.set (j+1) T[j]!).set j T[j+1]!).length=n:=by simp[h2]
     rw[hbub]at h3;generalize(T.set (j+1) T[j]!).set j T[j+1]! = T2 at *;have hwJ:Ax.wrap (((j+1:Ae):Al)-1)=j:=by rw[show((j+1:Ae):Al)-1=(j:Al)from by omega];exact hw0
     have hwJ0:Ax.wrap ((j+1:Ae):Al)=((j+1:Ae):Al):=bP;have hJ0:0<j+1:=by omega
     have hJj:¬j+1=j:=by omega
     generalize T[j+1]! = x at *;generalize T[j]! = y at *;obtain⟨DT,hDT⟩:∃DT,dzU T=DT:=⟨_,rfl⟩;rw[hDT]at ha hb ha' hb' hdl hset ⊢;obtain⟨J,hJ⟩:∃J,j+1=J:=⟨_,rfl⟩;have hJlt:j<J:=by omega
     simp only[hJ]at *;have hJ1:J+1<=n:=by omega
     have hJ2:j+1<=n:=by omega
     have hJ3:J<=n:=by omega
     have e1:lay (DT.map AV.d) J [.d (.i .u64 y)]=(DT.set J (.i .u64 y)).map .d:=iU _ _ _ (by omega);have e2:lay ((DT.set J (.i .u64 y)).map AV.d) j [.d (.i .u64 x)]=(dzU T2).map .d:=by rw[iU _ _ _ (by rw[CO];omega),hset]
     have e3:lay ((DT.map AV.d).set J (.d (.i .u64 y))) j [.d (.i .u64 x)]=(dzU T2).map .d:=by rw[<-e2,GK]
     by_cases hxy:x<y
     .rw[AB hxy]at h3;rw[CQ hxy]at hL;simp[-O,-U,↓KW,ha,ha',hb,hb',hw0,hwJ,hwJ0,hJ0,hdl,h2,hjn,hjn'];refine aL hL ?_;simp[-O,-U,↓KW,ha,ha',hb,hb',hw0,hwJ,hwJ0,hJ0,hdl,h2,hjn,hjn',hJ1,hJ2,hJ3,e1,e2,e3];refine bD (j,T2) ⟨by omega,hTl,h3⟩ (by show j<j+1;omega) ?_;show ∃ρ,Wk _ (StL _ _ _) ρ;refine qW ?_ ?_<;>simp[-O,upd,bH,Γ0,e3]
     .rw[Ap hxy]at h3;rw[Cn hxy]at hL;simp[-O,-U,↓KW,ha,ha',hb,hb',hw0,hwJ,hwJ0,hJ0,hdl,h2,hjn,hjn'];refine aL hL ?_;simp[-O,-U,↓KW,ha,ha',hb,hb',hw0,hwJ,hwJ0,hJ0,hdl,h2,hjn,hjn'];subst h3;refine bQ ?_;simp[-O,-U,↓KW,hs1];refine bD (k+1) (by omega) (by show n-(k+1)<n-k;omega) ?_;show ∃ρ,Wk _ (StL _ _ _) ρ;rw[hRR];refine qW ?_ ?_<;>simp[-O,upd,bH,Γ0,hDT]
  .have hk1:k+1=l.length:=by omega
   have hsr:dV l=kZ l k:=by unfold dV;rw[show l.length-1=k from by omega]
   rw[hsr];have hs:lJ k=(l.length:Al):=by unfold lJ;omega
   rw[hs];simp[-O,-U,↓KW];exact bQ (by simp[-O,-U,↓KW,eQ])
def cGh[M:Mch Ab](l:Ad Al)(r:Al)(hl:l.length<=12):jV Ab 148 (.own 0 0 l.length 1) (.cells 46 ((dzU l).map .d)) [.i .i64 0,.i .i64 l.length,.i .i64 r] (.cells 46 ((dzU (dV l)).map .d)) (.tp []):=by
 have hI:=cGq l (by omega);have hlen:(dzU (dV l)).length=(dzU l).length:=by rw[nM,nM];exact eW l _
 have hno1:=pH 46 l;have hno2:=pH 46 (dV l);have hw0:Ax.wrap (l.length:Al)=l.length:=bP;have hle:(l.length:Al)<=12:=by omega
 refine eB (N:=134) aT Tryz.func148 rfl rfl rfl (by kernel_rfl) (by kernel_rfl) (by simp) hno2 ?_;generalize dV l=T at *;generalize l.length=n at *;generalize dzU T=DT at *;generalize dzU l=DL at *;simp[-O,-U,↓KW,St1];refine eR 1 ?_;simp[-O,-U,↓KW,↓aF,↓aA,↓aG,↓aH,hw0,hl,hle];refine jP (by simp) ?_;refine eZ (id:=0) (h:=.own 0 0 n 1) (by rfl) hno1 (by rfl) (by rfl) hI (by simp[HO.len,hlen]) hno2 ?_;simp[-O,-U,↓KW,eQ]
def cEd[M:Mch Ab](n:Ae)(hn:n<=12):∃r,Spec Ab 149 [.i .u64 n] (.i .i64 r):=by
 have h:((AW 13).all λn=>match(kC Ab EP 100 20).call 149 [.i .u64 (n:Ae)]with|some (.i .i64 r)=>Ak|_=>Az)=true:=by kernel_rfl
 have:=A1.1 h n (Cc.2 (by omega));split at this
 .rename_i r hr;exact⟨r,aCu hr⟩
 .cases this
def cCs[M:Mch Ab](l:Ad Al)(hl:l.length<=12):jV Ab 59 (.own 0 0 l.length 1) (.cells 46 ((dzU l).map .d)) [] (.cells 46 ((dzU (dV l)).map .d)) (.tp []):=by
 obtain⟨r,hB⟩:=cEd l.length hl;have hI:=cGh l r hl;have hlen:(dzU (dV l)).length=(dzU l).length:=by rw[nM,nM];exact eW l _
 have hno1:=pH 46 l;have hno2:=pH 46 (dV l);have hw0:Bh.wrap (l.length:Al)=l.length:=wrap_u64 (by omega) (by omega);refine eB (N:=11) aT Tryz.func59 rfl rfl rfl (by kernel_rfl) (by kernel_rfl) (by simp) hno2 ?_;generalize dV l=T at *;generalize l.length=n at *;generalize dzU T=DT at *;generalize dzU l=DL at *;simp[-O,-U,↓KW,St1,hw0];refine aL hB ?_;simp[-O,-U,↓KW,St1,hw0];refine jP (by simp) ?_;refine eZ (id:=0) (h:=.own 0 0 n 1) (by rfl) hno1 (by rfl) (by rfl) hI (by simp[HO.len,hlen]) hno2 ?_;simp[-O,-U,↓KW,eQ]
def dzI(l:Ad Al):Ad D:=l.map λn=>.i .i64 n
def ezI(l:Ad Al):D:=.sl (l.map λn=>[.i .i64 n])
def kT(l:Ad Al):(dzI l).length=l.length:=by simp[dzI]
def bJz{l:Ad Al}{i:Ae}(h:i<l.length):(dzI l)[i]? = Aa (.i .i64 l[i]!):=by unfold dzI;rw[Ao,Ac h,CC l i h];rfl
def aWs(l:Ad Al)(i:Ae)(x:Al):(dzI l).set i (.i .i64 x)=dzI (l.set i x):=by simp[dzI]
def pI(e:AF)(l:Ad Al):kL (.cells e ((dzI l).map .d))=true:=by simp only[kL,A1];intro x hx;obtain⟨d,hd,rfl⟩:=AY.1 hx;obtain⟨n,_,rfl⟩:=AY.1 hd;rfl
def cDk[M:Mch Ab](x y:Al):Spec Ab 301 [.i .i64 x,.i .i64 y] (.b (decide (x<y))):=by
 have hN:∀z:Al,Spec Ab 240 [.i .i64 z] (.b Az):=λz=>by refine bU (N:=6) Tryz.func240 ?_;simp[-O,-U,↓KW]
 refine bU (N:=17) Tryz.func301 ?_;simp[-O,-U,↓KW];refine aL (hN x) ?_;simp[-O,-U,↓KW]
def cGr[M:Mch Ab](l:Ad Al)(hl:l.length<=1000):jV Ab 295 (.own 0 0 l.length 1) (.cells 3 ((dzI l).map .d)) [.i .i64 0,.i .i64 l.length] (.cells 3 ((dzI (dV l)).map .d)) (.tp []):=by
 refine eB (N:=49) aT Tryz.func295 rfl rfl rfl (by kernel_rfl) (by kernel_rfl) (by simp) (pI _ _) ?_;have hw1:Ax.wrap 1=1:=by decide
 by_cases h0:l.length=0
 .have hl0:l=[]:=BI h0;subst hl0;simp[-O,-U,↓KW,St1,hw1];refine eR 1 ?_;simp[-O,-U,↓KW,↓aF,↓aA,↓aG,↓aH,show dV []=[]from rfl,eQ]
 replace h0:0<l.length:=by omega
 simp[-O,-U,↓KW,St1,hw1];refine bT (τ:=Ae) (λk=>k+1<=l.length) (λk=>StL [(0,.own 0 0 l.length 1),(1,.d (.i .i64 0)),(2,.d (.i .i64 l.length)),(6,.d (.i .i64 (lJ k)))] (Aa (.cells 3 ((dzI (kZ l k)).map .d))) []) (λk=>l.length-k) 0 (by omega) ?_ ?_
 .refine qW ?_ rfl;simp[-O,upd,bH,Γ0,lJ,kZ]
 .intro k hk;have hkl:=eW l k;by_cases hlt:k+1<l.length
  .have hR:kZ l (k+1)=rR (k+1) (kZ l k):=rfl;obtain⟨R,hRR⟩:∃R,kZ l (k+1)=R:=⟨_,rfl⟩;rw[hRR]at hR;obtain⟨i,hi⟩:∃i,k+1=i:=⟨_,rfl⟩;rw[hi]at hR hlt;have hs:lJ k=(i:Al):=by unfold lJ;omega
   have hs1:Ax.wrap ((i:Al)+1)=lJ (k+1):=by unfold lJ;rw[show(i:Al)+1=((k+1+1:Ae):Al)from by omega];exact bP
   rw[hs];generalize kZ l k=T0 at *;generalize l.length=n at *;simp[-O,-U,↓KW,hlt];refine bT (τ:=Ae×Ad Al) (λx=>x.1<=i/\x.2.length=n/\rR x.1 x.2=R) (λx=>StL [(0,.own 0 0 n 1),(1,.d (.i .i64 0)),(2,.d (.i .i64 n)),(6,.d (.i .i64 i)),(7,.d (.i .i64 (x.1:Ae)))] (Aa (.cells 3 ((dzI x.2).map .d))) []) (λx=>x.1) (i,T0) ⟨AM _,hkl,hR.symm⟩ ?_ ?_
   .refine qW ?_ rfl;simp[-O,upd,bH,Γ0]
   .rintro⟨j,T⟩ ⟨h1,h2,h3⟩;simp only at h1 h2 h3 ⊢;cases j with
    | zero =>
     have h3':T=R:=h3;subst h3';simp[-O,-U,↓KW];refine bQ ?_;simp[-O,-U,↓KW,hs1];refine bD (k+1) (by omega) (by show n-(k+1)<n-k;omega) ?_;show ∃ρ,Wk _ (StL _ _ _) ρ;rw[hRR];refine qW ?_ rfl;simp[-O,upd,bH,Γ0]
    | succ j =>
     have hL:=cDk T[j+1]! T[j]!;have ha:=bJz (l:=T) (i:=j+1) (by omega);have hb:=bJz (l:=T) (i:=j) (by omega);have ha':∀h,(dzI T)[j+1]'h=.i .i64 T[j+1]! := λh=>by rw[Ac h]at ha;injection ha
     have hb':∀h,(dzI T)[j]'h=.i .i64 T[j]! := λh=>by rw[Ac h]at hb;injection hb
     have hdl:=kT T;have hjn:j+1<n:=by omega
     have hjn':j<n:=by omega
     have hw0:Ax.wrap (j:Al)=j:=bP;have hset:((dzI T).set (j+1) (.i .i64 T[j]!)).set j (.i .i64 T[j+1]!)=dzI ((T.set (j+1) T[j]!).set j T[j+1]!):=by rw[aWs,aWs]
     have hbub:rR (j+1) T=if T[j+1]! < T[j]! then rR j ((T.set (j+1) T[j]!).set j T[j+1]!)else T:=rfl
     have hTl:((T.set (j+1) T[j]!).set j T[j+1]!).length=n:=by simp[h2]
     rw[hbub]at h3;generalize(T.set (j+1) T[j]!).set j T[j+1]! = T2 at *;have hwJ:Ax.wrap (((j+1:Ae):Al)-1)=j:=by rw[show((j+1:Ae):Al)-1=(j:Al)from by omega];exact hw0
     have hwJ0:Ax.wrap ((j+1:Ae):Al)=((j+1:Ae):Al):=bP;have hJ0:0<j+1:=by omega
     have hJj:¬j+1=j:=by omega
     generalize T[j+1]! = x at *;generalize T[j]! = y at *;obtain⟨DT,hDT⟩:∃DT,dzI T=DT:=⟨_,rfl⟩;rw[hDT]at ha hb ha' hb' hdl hset ⊢;obtain⟨J,hJ⟩:∃J,j+1=J:=⟨_,rfl⟩;have hJlt:j<J:=by omega
     simp only[hJ]at *;have hJ1:J+1<=n:=by omega
     have hJ2:j+1<=n:=by omega
     have hJ3:J<=n:=by omega
     have e1:lay (DT.map AV.d) J [.d (.i .i64 y)]=(DT.set J (.i .i64 y)).map .d:=iU _ _ _ (by omega);have e2:lay ((DT.set J (.i .i64 y)).map AV.d) j [.d (.i .i64 x)]=(dzI T2).map .d:=by rw[iU _ _ _ (by rw[CO];omega),hset]
     have e3:lay ((DT.map AV.d).set J (.d (.i .i64 y))) j [.d (.i .i64 x)]=(dzI T2).map .d:=by rw[<-e2,GK]
     by_cases hxy:x<y
     .rw[AB hxy]at h3;rw[CQ hxy]at hL;simp[-O,-U,↓KW,ha,ha',hb,hb',hw0,hwJ,hwJ0,hJ0,hdl,h2,hjn,hjn'];refine aL hL ?_;simp[-O,-U,↓KW,ha,ha',hb,hb',hw0,hwJ,hwJ0,hJ0,hdl,h2,hjn,hjn',hJ1,hJ2,hJ3,e1,e2,e3];refine bD (j,T2) ⟨by omega,hTl,h3⟩ (by show j<j+1;omega) ?_;show ∃ρ,Wk _ (StL _ _ _) ρ;refine qW ?_ ?_<;>simp[-O,upd,bH,Γ0,e3]
     .rw[Ap hxy]at h3;rw[Cn hxy]at hL;simp[-O,-U,↓KW,ha,ha',hb,hb',hw0,hwJ,hwJ0,hJ0,hdl,h2,hjn,hjn'];refine aL hL ?_;simp[-O,-U,↓KW,ha,ha',hb,hb',hw0,hwJ,hwJ0,hJ0,hdl,h2,hjn,hjn'];subst h3;refine bQ ?_;simp[-O,-U,↓KW,hs1];refine bD (k+1) (by omega) (by show n-(k+1)<n-k;omega) ?_;show ∃ρ,Wk _ (StL _ _ _) ρ;rw[hRR];refine qW ?_ ?_<;>simp[-O,upd,bH,Γ0,hDT]
  .have hk1:k+1=l.length:=by omega
   have hsr:dV l=kZ l k:=by unfold dV;rw[show l.length-1=k from by omega]
   rw[hsr];have hs:lJ k=(l.length:Al):=by unfold lJ;omega
   rw[hs];simp[-O,-U,↓KW];exact bQ (by simp[-O,-U,↓KW,eQ])
def cGi[M:Mch Ab](l:Ad Al)(r:Al)(hl:l.length<=12):jV Ab 242 (.own 0 0 l.length 1) (.cells 3 ((dzI l).map .d)) [.i .i64 0,.i .i64 l.length,.i .i64 r] (.cells 3 ((dzI (dV l)).map .d)) (.tp []):=by
 have hI:=cGr l (by omega);have hlen:(dzI (dV l)).length=(dzI l).length:=by rw[kT,kT];exact eW l _
 have hno1:=pI 3 l;have hno2:=pI 3 (dV l);have hw0:Ax.wrap (l.length:Al)=l.length:=bP;have hle:(l.length:Al)<=12:=by omega
 refine eB (N:=134) aT Tryz.func242 rfl rfl rfl (by kernel_rfl) (by kernel_rfl) (by simp) hno2 ?_;generalize dV l=T at *;generalize l.length=n at *;generalize dzI T=DT at *;generalize dzI l=DL at *;simp[-O,-U,↓KW,St1];refine eR 1 ?_;simp[-O,-U,↓KW,↓aF,↓aA,↓aG,↓aH,hw0,hl,hle];refine jP (by simp) ?_;refine eZ (id:=0) (h:=.own 0 0 n 1) (by rfl) hno1 (by rfl) (by rfl) hI (by simp[HO.len,hlen]) hno2 ?_;simp[-O,-U,↓KW,eQ]
def cEe[M:Mch Ab](n:Ae)(hn:n<=12):∃r,Spec Ab 149 [.i .u64 n] (.i .i64 r):=by
 have h:((AW 13).all λn=>match(kC Ab EP 100 20).call 149 [.i .u64 (n:Ae)]with|some (.i .i64 r)=>Ak|_=>Az)=true:=by kernel_rfl
 have:=A1.1 h n (Cc.2 (by omega));split at this
 .rename_i r hr;exact⟨r,aCu hr⟩
 .cases this
def cCt[M:Mch Ab](l:Ad Al)(hl:l.length<=12):jV Ab 153 (.own 0 0 l.length 1) (.cells 3 ((dzI l).map .d)) [] (.cells 3 ((dzI (dV l)).map .d)) (.tp []):=by
 obtain⟨r,hB⟩:=cEe l.length hl;have hI:=cGi l r hl;have hlen:(dzI (dV l)).length=(dzI l).length:=by rw[kT,kT];exact eW l _
 have hno1:=pI 3 l;have hno2:=pI 3 (dV l);have hw0:Bh.wrap (l.length:Al)=l.length:=wrap_u64 (by omega) (by omega);refine eB (N:=11) aT Tryz.func153 rfl rfl rfl (by kernel_rfl) (by kernel_rfl) (by simp) hno2 ?_;generalize dV l=T at *;generalize l.length=n at *;generalize dzI T=DT at *;generalize dzI l=DL at *;simp[-O,-U,↓KW,St1,hw0];refine aL hB ?_;simp[-O,-U,↓KW,St1,hw0];refine jP (by simp) ?_;refine eZ (id:=0) (h:=.own 0 0 n 1) (by rfl) hno1 (by rfl) (by rfl) hI (by simp[HO.len,hlen]) hno2 ?_;simp[-O,-U,↓KW,eQ]
def bXm[M:Mch Ab]:Spec Ab 153 [.sl []] (.tp []):=aCu (by kernel_rfl)
end Go.Am
namespace Go.Am
def bJd{T:Ad Al}{i j:Ae}{x:Al}(hi:i<T.length):(T.set i x)[j]! = if i=j then x else T[j]! := by
 by_cases hj:j<T.length
 .rw[CC (T.set i x) j (by simpa using hj),List.getElem_set,CC T j hj]
 .have h:¬i=j:=by omega
  rw[Ap h,getElem!_neg (T.set i x) j (by simpa using hj),getElem!_neg T j hj]
def aDv:∀(j:Ae) (T:Ad Al) (m:Ae),j<=m->m<T.length->(∀p q,p<q->q<=m->p≠j->q≠j->T[p]! <= T[q]!)->(∀q,j<q->q<=m->T[j]! <= T[q]!)->∀p q,p<q->q<=m->(rR j T)[p]! <= (rR j T)[q]!
 | 0,T,m,_,hm,h1,h2,p,q,hpq,hq=>by
  show T[p]! <= T[q]!;rcases BB p with hp|hp
  .subst hp;exact h2 q hpq hq
  .exact h1 p q hpq hq (by omega) (by omega)
 | j+1,T,m,hj,hm,h1,h2,p,q,hpq,hq=>by
  unfold rR;split
  .rename_i hlt;have hg:∀i,((T.set (j+1) T[j]!).set j T[j+1]!)[i]! = if j=i then T[j+1]! else if j+1=i then T[j]! else T[i]! := λi=>by rw[bJd (by simp;omega),bJd (by omega)]
   refine aDv j _ m (by omega) (by simp;omega) (λp q hpq hq hp hqj=>?_) (λq hq1 hq2=>?_) p q hpq hq
   .rw[hg,hg,Ap (show ¬j=p by omega),Ap (show ¬j=q by omega)];by_cases hp1:j+1=p
    .rw[AB hp1,Ap (show ¬j+1=q by omega)];exact h1 j q (by omega) hq (by omega) (by omega)
    .rw[Ap hp1];by_cases hq1:j+1=q
     .rw[AB hq1];exact h1 p j (by omega) (by omega) (by omega) (by omega)
     .rw[Ap hq1];exact h1 p q hpq hq (by omega) (by omega)
   .rw[hg,hg,AB rfl,Ap (show ¬j=q by omega)];by_cases hq3:j+1=q
    .rw[AB hq3];omega
    .rw[Ap hq3];exact h2 q (by omega) hq2
  .rename_i hge;have hle:T[j]! <= T[j+1]! := by omega
   by_cases hq1:q=j+1
   .subst hq1;by_cases hp1:p=j
    .subst hp1;exact hle
    .exact Int.le_trans (h1 p j (by omega) (by omega) (by omega) (by omega)) hle
   .by_cases hp1:p=j+1
    .subst hp1;exact h2 q hpq hq
    .exact h1 p q hpq hq hp1 hq1
def aCw(l:Ad Al):∀k,k<l.length->∀p q,p<q->q<=k->(kZ l k)[p]! <= (kZ l k)[q]!
 |0,_,p,q,h1,h2=>by omega
 | k+1,hk,p,q,h1,h2=>by have ih:=aCw l k (by omega);unfold kZ;exact aDv (k+1) (kZ l k) (k+1) (AM _) (by rw[eW];exact hk) (λp q a b c d=>ih p q a (by omega)) (λq a b=>by omega) p q h1 h2
def aQp(l:Ad Al):(dV l).Pairwise (·<=·):=by rw[List.pairwise_iff_getElem];intro i j hi hj hij;have hl:(dV l).length=l.length:=eW l _;have:=aCw l (l.length-1) (by omega) i j hij (by omega);unfold dV at *;rwa [CC (kZ l (l.length-1)) i hi,CC (kZ l (l.length-1)) j hj]at this
open Go Go.Am Go.Proofs
def jH:Ae->Ae->Ae
 |0,_=>0
 |k+1,s=>s%2+jH k (s/2)
def fM{α:Type}:Ad α->Ae->Ad α
 |[],_=>[]
 |x::l,s=>if s%2=1 then x::fM l (s/2)else fM l (s/2)
def rT{α:Type}:∀(l:Ad α) (s:Ae),(fM l s).length=jH l.length s
 |[],s=>rfl
 | x::l,s=>by
  unfold fM;split
  .rename_i h;rw[Av,rT l,Av,jH,h];omega
  .rename_i h;rw[rT l,Av,jH];omega
def aHe{α:Type}(x:α):∀(l:Ad α) (s:Ae),fM (l++[x]) s=fM l s++if s/2^l.length%2=1 then[x]else[]
 |[],s=>by simp only[fM,Ea,AK,Nat.pow_zero,Nat.div_one]
 | y::l,s=>by
  simp only[Cz,fM,aHe x l,Av];have e:s/2^(l.length+1)=s/2/2^l.length:=by rw[CI,Da (2^l.length) 2,<-Nat.div_div_eq_div_mul]
  simp only[e];split<;>simp
def sS:∀(k m s:Ae),s<2^k->jH (k+m) s=jH k s
 | 0,m,s,h=>by
  have:s=0:=by simpa using h
  subst this;have h0:∀n,jH n 0=0:=λn=>by
   induction n with
   |zero=>rfl
   |succ n ih=>simp[jH,ih]
  rw[h0,h0]
 | k+1,m,s,h=>by rw[show k+1+m=(k+m)+1 from by omega];unfold jH;rw[sS k m (s/2) (by rw[CI]at h;omega)]
def bMc(a:Ae)(ha:a<4294967296):bits .and .u32 (a:Al) 1=((a%2:Ae):Al):=by
 have h1:(BitVec.ofInt 32 (a:Al)).toNat=a:=by rw[BitVec.ofInt_natCast,BitVec.toNat_ofNat];exact Cr (by omega)
 have h2:(BitVec.ofInt 32 (1:Al)).toNat=1:=by decide
 show Cs.wrap ((BitVec.ofInt 32 (a:Al) &&& BitVec.ofInt 32 (1:Al)).toNat:Al)=_;rw[BitVec.toNat_and,h1,h2,Nat.and_one_is_mod,E0];omega
def aAb(s i:Ae)(hi:i<=32):cY .shr .u32 (s:Al) (i:Al)=Aa (.i .u32 ((s/2^i:Ae):Al)):=by simp only[cY,Df];rw[Ap (by omega)];congr 2;rw[show min (i:Al).toNat 32=i from by omega,D4 _ (Int.le_of_lt (Int.pow_pos (by decide)))];rw[show(2:Al)^i=((2^i:Ae):Al)from by simp];rfl
def aOs{k:Ae}(hk:0<k)(l:Ad (Ad D))(h:∀x∈l,x.length=k):chunk k l.length l.flatten=l:=by
 induction l with
 |nil=>rfl
 | cons a l ih =>
  have ha:=h a (AX ..);have:=ih λx hx=>h x (AT _ hx)
  unfold chunk at this ⊢;rw[Av,E6,BX,Dp,Dq];congr 1
  .simp[<-ha]
  .conv=>rhs;rw[<-this]
   apply DF;intro i _;simp only[Function.comp];rw[show Nat.succ i*k=a.length+i*k from by rw[Nat.succ_mul,ha,EF],List.drop_append,Dy (by omega)];simp
def dR(l:Ad (Ae×Ae)):Ad D:=(l.map λx=>[.i .u64 (x.1:Al),.i .u64 (x.2:Al)]).flatten
def aKd(l:Ad (Ae×Ae)):(dR l).length=l.length*2:=by
 unfold dR;induction l with
 |nil=>rfl
 |cons x l ih=>simp only[BX,Dq,BK,ih,Av,AK];omega
def bKp(p v:Ae):dR [(p,v)]=[.i .u64 p,.i .u64 v]:=rfl
def zE{l:Ad (Ae×Ae)}{n:Ae}(h:l.length=n):((dR l).map AV.d).take (n*2)=(dR l).map AV.d:=A4 (by rw[BV,aKd,h];exact AM _)
def aOt{l:Ad (Ae×Ae)}{n:Ae}(h:l.length=n):chunk 2 n (dR l)=l.map λx=>[D.i .u64 (x.1:Al),D.i .u64 (x.2:Al)]:=by
 subst h;have:=aOs (k:=2) (by decide) (l.map λx=>[D.i .u64 (x.1:Al),D.i .u64 (x.2:Al)]) (λx hx=>by
  obtain⟨y,_,rfl⟩:=AY.1 hx;rfl)
 rwa [BV]at this
def bZv{H:Hp}{id:Ae}{e:AF}{T:Ad (Ae×Ae)}{n:Ae}(hn:T.length=n)(hH:H id=Aa (.cells e ((dR T).map AV.d))):frz H 8 (.own id 0 n 2)=Aa (oO T):=by have e1:=zE hn;have e2:=aOt hn;have e3:=aKd T;rw[hn]at e3;simp[-O,-U,aDe,hH,e1,e2,e3,oO]
def rsL(l:Ad (Ae×Ae×Ae)):Ad (Ae×Ae):=l.map (·.2)
def chS(L:Ad (Ad D))(s n i:Ae):Ad (Ae×Ae)->St
 |[]=>StL [(1,.d (.i .u32 s)),(5,.nil),(8,.d (.sl L)),(9,.d (.i .i64 n)),(10,.d (.i .i64 i))] Aj []
 |x::T=>StL [(1,.d (.i .u32 s)),(5,.own 1 0 (T.length+1) 2),(8,.d (.sl L)),(9,.d (.i .i64 n)),(10,.d (.i .i64 i))] Aj [.cells 48 ((dR (x::T)).map .d)]
def bUc(x:Ae×Ae)(a b:Ad (Ae×Ae)):dR (x::(a++b))=dR (x::a)++dR b:=by simp[dR]
def aTg[M:Mch Ab](l:Ad (Ae×Ae×Ae))(s:Ae)(hl:l.length<=30)(hs:s<4294967296):Spec Ab 62 [lB l,.i .u32 s] (oO (fM (rsL l) s)):=by
 obtain⟨L,hL,hLl,hLg⟩:=rQ l;rw[hL];refine bU (N:=27) Tryz.func62 ?_;simp[-O,-U,↓KW];refine bT (τ:=Ae) (λi=>i<=l.length) (λi=>chS L s L.length i (fM (rsL (l.take i)) s)) (λi=>l.length-i) 0 (BH _) ?_ ?_
 .rw[Ct];show ∃ρ,Wk _ (chS _ _ _ _ []) ρ;unfold chS;refine wkQ [] ?_ ?_<;>simp[-O,upd,bH,Γ0]
 .intro i hi;by_cases hlt:i<l.length
  .obtain⟨⟨w,p,v⟩,hge⟩:∃x,l[i]? = Aa x:=⟨_,Ac hlt⟩;have hLi:=hLg i _ hge;simp only at hLi;have hLi':=cI hLi;have hiL:i<L.length:=by omega
   have hT1:rsL (l.take (i+1))=rsL (l.take i)++[(p,v)]:=by rw[BG,hge];simp[rsL]
   have hB1:fM (rsL (l.take (i+1))) s=fM (rsL (l.take i)) s++if s/2^i%2=1 then[(p,v)]else[]:=by
    rw[hT1,aHe];have:(rsL (l.take i)).length=i:=by simp[rsL];omega
    rw[this]
   have hBl:(fM (rsL (l.take i)) s).length<=i:=by
    have h1:=rT (rsL (l.take i)) s;have h2:∀k s,jH k s<=k:=λk=>by
     induction k with
     |zero=>intro s;simp[jH]
     |succ k ih=>intro s;have:=ih (s/2);simp only[jH];omega
    have h3:(rsL (l.take i)).length=i:=by simp[rsL];omega
    have:=h2 (rsL (l.take i)).length s;omega
   have hw1:Ax.wrap ((i:Al)+1)=((i+1:Ae):Al):=bP;have hw0:Ax.wrap (i:Al)=i:=bP;have hsh:=aAb s i (by omega);have hx32:s/2^i<4294967296:=Bv (FO ..) hs;have hand:dT .and Az (.d (.i .u32 ((s/2^i:Ae):Al))) (.d (.i .u32 1))=Aa (.i .u32 ((s/2^i%2:Ae):Al)):=by show Aa (D.i .u32 (bits .and .u32 ((s/2^i:Ae):Al) 1))=_;rw[bMc _ hx32]
   generalize s/2^i=z at *;generalize fM (rsL (l.take i)) s=T at *;by_cases hz:z%2=1
   .rw[AB hz]at hB1;rw[hz]at hand;cases T with
    | nil =>
     have hm1:(1:Ae)<=maxLen:=bY (by decide);simp[-O,-U,↓KW,chS,hiL,hLi,hLi',hsh,hand,hw0,hw1,hm1];refine bD (i+1) (by omega) (by show l.length-(i+1)<l.length-i;omega) ?_;show ∃ρ,Wk _ (chS _ _ _ _ _) ρ;rw[hB1];show ∃ρ,Wk _ (chS _ _ _ _ ((p,v)::[])) ρ;unfold chS;refine wkQ [3] ?_ ?_<;>simp[-O,upd,bH,Γ0,Ci,cH,bKp]
    | cons x T =>
     have hbb:(T.length+1)*16<=140737488355328/\T.length+1<=1099511627776/\(T.length+1+1)*16<=140737488355328/\T.length+1+1<=1099511627776:=by simp only[Av]at hBl;omega
     simp[-O,-U,↓KW,chS,hiL,hLi,hLi',hsh,hand,hw0,hw1,aKd,hbb,bY];refine bD (i+1) (by omega) (by show l.length-(i+1)<l.length-i;omega) ?_;show ∃ρ,Wk _ (chS _ _ _ _ _) ρ;rw[hB1];show ∃ρ,Wk _ (chS _ _ _ _ (x::(T++[(p,v)]))) ρ;unfold chS;refine wkQ [4] ?_ ?_<;>simp[-O,upd,bH,Γ0,Ci,cH,bUc,bKp]
   .rw[Ap hz,El]at hB1;have hz0:z%2=0:=by omega
    rw[hz0]at hand;cases T with
    | nil =>
     simp[-O,-U,↓KW,chS,hiL,hLi,hLi',hsh,hand,hw0,hw1];refine bD (i+1) (by omega) (by show l.length-(i+1)<l.length-i;omega) ?_;show ∃ρ,Wk _ (chS _ _ _ _ _) ρ;rw[hB1];unfold chS;refine wkQ [] ?_ ?_<;>simp[-O,upd,bH,Γ0]
    | cons x T =>
     simp[-O,-U,↓KW,chS,hiL,hLi,hLi',hsh,hand,hw0,hw1];refine bD (i+1) (by omega) (by show l.length-(i+1)<l.length-i;omega) ?_;show ∃ρ,Wk _ (chS _ _ _ _ _) ρ;rw[hB1];unfold chS;refine wkQ [1] ?_ ?_<;>simp[-O,upd,bH,Γ0]
  .have hiL:¬i<L.length:=by omega
   rw[A4 (show l.length<=i by omega)];generalize fM (rsL l) s=T at *;cases T with
   | nil =>
    simp[-O,-U,↓KW,chS,hiL];refine bQ ?_;simp[-O,-U,↓KW,oO]
   | cons x T =>
    have hf:∀H:Hp,H 1=Aa (.cells 48 ((dR (x::T)).map AV.d))->frz H 8 (.own 1 0 (T.length+1) 2)=Aa (oO (x::T)):=λH hH=>bZv rfl hH
    have e1:=zE (l:=x::T) (n:=T.length+1) rfl;have e2:=aOt (l:=x::T) (n:=T.length+1) rfl;have e3:=aKd (x::T);rw[show(x::T).length=T.length+1 from rfl]at e3;simp[-O,-U,↓KW,chS,hiL];refine bQ ?_;simp[-O,-U,↓KW,oO,e1,e2,e3]
def wI(v:Ad Al):∃L,dK v=.sl L/\L.length=v.length/\∀(i:Ae) (z:Al),v[i]? = Aa z->L[i]? = Aa [.b (decide (z<0)),aZ (bJ z.natAbs)]:=⟨_,rfl,by simp,λi x hx=>by rw[Ao,hx];rfl⟩
end Go.Am
namespace Go.Am
def en(M:Ad (Ad Rat))(i j:Ae):Rat:=(M.getD i []).getD j 0
open Go Go.Am Go.Proofs
def lC(n:Ae)(A:Ad (Ad Al)):D:=.ag [.i .i64 (n:Al),.i .i64 (n:Al),.sl (A.map λv=>[dK v])]
structure Sh(R c:Ae)(M:Ad (Ad Al)):Prop where
 len:M.length=R
 row:∀v∈M,v.length=c
def ent(M:Ad (Ad Al))(r s:Ae):Al:=(M.getD r []).getD s 0
def mkM(R c:Ae)(f:Ae->Ae->Al):Ad (Ad Al):=(AW R).map λr=>(AW c).map λs=>f r s
def Sh.get{R c r:Ae}{M:Ad (Ad Al)}(h:Sh R c M)(hr:r<R):∃v,M[r]? = Aa v/\v.length=c/\∀s,v.getD s 0=ent M r s:=by
 have hl:r<M.length:=by rw[h.len];exact hr
 refine⟨M[r],Ac hl,h.row _ (B3 hl),λs=>?_⟩;unfold ent;rw[Ah (l:=M),Ac hl];rfl
def bVn(R c:Ae)(f:Ae->Ae->Al):Sh R c (mkM R c f):=⟨by simp[mkM],λv hv=>by obtain⟨r,_,rfl⟩:=AY.1 hv;simp⟩
def bYx{R c r s:Ae}(f:Ae->Ae->Al)(hr:r<R)(hs:s<c):ent (mkM R c f) r s=f r s:=by unfold ent mkM;rw[Ah (l:=DX _ _),Ao,BZ hr];simp only[Bj,AQ];rw[Ah,Ao,BZ hs];rfl
def bRm{R c:Ae}{M M':Ad (Ad Al)}(h:Sh R c M)(h':Sh R c M')(he:∀r s,r<R->s<c->ent M r s=ent M' r s):M=M':=by
 refine Gg (by rw[h.len,h'.len]) λr h1 h2=>?_
 have hr:r<R:=by rw[<-h.len];exact h1
 refine Gg (by rw[h.row _ (B3 h1),h'.row _ (B3 h2)]) λs g1 g2=>?_
 have hs:s<c:=by rw[<-h.row _ (B3 h1)];exact g1
 have:=he r s hr hs;unfold ent at this;rw[Ah (l:=M),Ac h1,Ah (l:=M'),Ac h2]at this;simp only[AQ]at this;rw[Ah,Ac g1,Ah,Ac g2]at this;exact this
def bXp{R c i:Ae}{M:Ad (Ad Al)}(h:Sh R c M){v:Ad Al}(hv:v.length=c):Sh R c (M.set i v) :=
 ⟨by rw[CO,h.len],λw hw=>(List.mem_or_eq_of_mem_set hw).elim (h.row w) λe=>e ▸ hv⟩
def bTm{R c i j:Ae}{M:Ad (Ad Al)}(h:Sh R c M){v:Ad Al}{z:Al}(hi:i<R)(hj:j<c)(hv:M[i]? = Aa v)(r s:Ae):ent (M.set i (v.set j z)) r s=if r=i/\s=j then z else ent M r s:=by
 have hl:i<M.length:=by rw[h.len];exact hi
 have hvl:v.length=c:=h.row v (At hv);unfold ent;rw[Ah (l:=M.set i _),DI];by_cases e:r=i
 .subst e;rw[AB rfl,AB hl,Ah (l:=M),hv];simp only[AQ,true_and];rw[Ah,DI];by_cases e2:s=j
  .subst e2;rw[AB rfl,AB (by omega),AB rfl];rfl
  .rw[Ap (λh=>e2 h.symm),Ap e2,Ah]
 .rw[Ap (λh=>e h.symm),Ap (λh=>e h.1),Ah (l:=M)]
def aSx{R c i j:Ae}{M:Ad (Ad Al)}(h:Sh R c M){v:Ad Al}{z:Al}(hv:M[i]? = Aa v):Sh R c (M.set i (v.set j z)) :=
 bXp h (by rw[CO];exact h.row v (At hv))
def cDe{R c:Ae}{M:Ad (Ad Al)}(h:Sh R c M){f:Ae->Ae->Al}(he:∀r s,r<R->s<c->ent M r s=f r s):M=mkM R c f :=
 bRm h (bVn R c f) λr s hr hs=>by rw[he r s hr hs,bYx f hr hs]
def jS(b:Ae)(l:Ad HO):Hp:=λid=>if id<b then Aj else l[id-b]?
def rP{b i:Ae}{l:Ad HO}:jS b l (i+b)=l[i]? := by unfold jS;rw[Ap (by omega),Eu]
def aDl{b:Ae}{l:Ad HO}{id:Ae}(h:l.length+b<=id):jS b l id=none:=by unfold jS;rw[Ap (by omega),Bn (by omega)]
def aGx{b:Ae}{l:Ad HO}{id:Ae}(h1:b<=id)(h2:id<l.length+b):(jS b l id).isSome=true:=by unfold jS;rw[Ap (by omega),Ac (by omega)];rfl
def rfC(a n:Ae):AV->Bw
 |.d _|.nil=>Ak
 |.own id _ _ _=>decide (a<=id/\id<n)
 |.ptr id _=>decide (a<=id/\id<n)
 |_=>Az
def rfO(a n:Ae):HO->Bw
 |.cells _ cs=>cs.all (rfC a n)
 |_=>Az
def bPv{H H':Hp}{ρ:Ae->Ae}{a n:Ae}{c:AV}(hc:rfC a n c=Ak)(h:∀id,a<=id->id<n->id=ρ id/\(H' id).isSome=Ak):oA H H' ρ c c:=by
 unfold rfC at hc;split at hc
 .exact(mD _ _).2 rfl
 .trivial
 .simp only[Bz]at hc;obtain⟨h1,h2⟩:=h _ hc.1 hc.2;exact⟨h1,rfl,rfl,rfl,h2⟩
 .simp only[Bz]at hc;obtain⟨h1,h2⟩:=h _ hc.1 hc.2;exact⟨h1,rfl,h2⟩
 .cases hc
def bPt{H H':Hp}{ρ:Ae->Ae}{a n:Ae}{o:HO}(ho:rfO a n o=Ak)(h:∀id,a<=id->id<n->id=ρ id/\(H' id).isSome=Ak):mZ H H' ρ o o:=by
 cases o with
 | cells e cs =>
  refine eL.2 ⟨rfl,eE.2 ⟨rfl,λk c d h1 h2=>?_⟩⟩;rw[h1]at h2;injection h2 with h2;subst h2
  exact bPv (A1.1 ho c (At h1)) h
 |map k es=>cases ho
 |iter _ _ _=>cases ho
def bPu(a n:Ae)(v:Ad Al):rfO a n (aRd v)=true:=by
 unfold rfO aRd;refine A1.2 λc hc=>?_
 obtain⟨x,_,rfl⟩:=AY.1 hc;rfl
def bXy{a n c m:Ae}{M:Ad (Ad Al)}(h1:a<=m+1)(h2:m+1+M.length<=n):∀o∈mB c M m,rfO a n o=true:=by
 intro o ho;rcases BQ.1 ho with rfl|ho
 .refine A1.2 λx hx=>?_
  obtain⟨j,hj,rfl⟩:=AY.1 hx;have:=Cc.1 hj;simp only[rfC,Bz];omega
 .obtain⟨v,_,rfl⟩:=AY.1 ho;exact bPu _ _ _
def aDk{H:Hp}{b:Ae}{l:Ad HO}(h:∀o∈l,rfO b (l.length+b) o=Ak){id:Ae}{o:HO}(ho:jS b l id=Aa o):mZ H (jS b l) (λi=>i) o o:=by
 refine bPt (h o ?_) λid h1 h2=>⟨rfl,aGx h1 h2⟩
 unfold jS at ho;split at ho
 .cases ho
 .exact At ho
def aWl{b c m:Ae}{pre post:Ad HO}{M:Ad (Ad Al)}(hm:m=pre.length+b):jS b (pre++mB c M m++post) m=Aa (.cells 66 (hdr c M.length (m+1))):=by subst hm;rw[rP,Db,AZ (AM _),Dw];rfl
def aJs{b c m j:Ae}{pre post:Ad HO}{M:Ad (Ad Al)}{v:Ad Al}(hm:m=pre.length+b)(hv:M[j]? = Aa v):jS b (pre++mB c M m++post) (j+(m+1))=Aa (aRd v):=by have hj:=(AA.1 hv).1;rw[show j+(m+1)=(j+1+pre.length)+b by omega,rP,Db,AZ (by omega),Eu,Bb (by rw[pL];omega)];simp only[mB,BT,Ao,hv,Bj]
def bTe{b c m i:Ae}{pre post:Ad HO}{M:Ad (Ad Al)}{v:Ad Al}(hm:m=pre.length+b)(hi:i<M.length)(id:Ae) :
 jS b (pre++mB c (M.set i v) m++post) id=if id=i+(m+1)then Aa (aRd v)else jS b (pre++mB c M m++post) id:=by
 by_cases e:id=i+(m+1)
 .rw[AB e,e]
  exact aJs hm (List.getElem?_set_self hi)
 .rw[Ap e]
  unfold jS
  by_cases h0:id<b
  .rw[AB h0,AB h0]
  .rw[Ap h0,Ap h0]
   have hl:(mB c (M.set i v) m).length=(mB c M m).length:=by rw[pL,pL,CO]
   rw[Db,Db]
   rcases Bc (id-b) pre.length with h1|h1
   .rw[Bb h1,Bb h1]
   .rw[AZ h1,AZ h1]
    rcases Bc (id-b-pre.length) (mB c M m).length with h2|h2
    .rw[Bb (by omega),Bb h2]
     generalize hk:id-b-pre.length=k at *
     rcases k with _|k
     .simp[mB]
     .simp only[mB,BT,Ao]
      rw[Fv (by omega)]
    .rw[AZ (by omega),AZ h2,hl]
def aJt{c m:Ae}{pre post:Ad HO}{M:Ad (Ad Al)}:(pre++mB c M m++post).length=pre.length+M.length+1+post.length:=by rw[BK,BK,pL];omega
def aAj{v:Ad Al}{j:Ae}(z:Al)(hj:j<v.length):lay ((vcs v).map AV.d) (j*2) [.d (.b (decide (z<0))),.d (aZ (bJ z.natAbs))]=(vcs (v.set j z)).map .d:=by rw[<-aUt _ hj];simp[lay,qT]
def bOf{b c m i:Ae}{pre post:Ad HO}{M:Ad (Ad Al)}{v:Ad Al}(hm:m=pre.length+b)(hi:i<M.length) :
 upd (jS b (pre++mB c M m++post)) (i+(m+1)) (Aa (aRd v))=jS b (pre++mB c (M.set i v) m++post):=by
 funext id
 rw[bTe hm hi]
 rfl
def aWm{b n:Ae}{pre l:Ad HO}(h:n=pre.length+b):iY (jS b pre) n l=jS b (pre++l):=by
 funext id;subst h;unfold iY jS;by_cases h0:id<b
 .rw[Ap (by omega),AB h0,AB h0]
 .rw[Ap h0];by_cases h1:pre.length+b<=id/\id<pre.length+b+l.length
  .rw[AB h1,Ap h0,AZ (by omega),show id-b-pre.length=id-(pre.length+b)by omega]
  .rw[Ap h1,Ap h0];rcases Bc (id-b) pre.length with h2|h2
   .rw[Bb h2]
   .rw[Bn h2,AZ h2,Bn (by omega)]
def aOc{b n:Ae}{l:Ad HO}{p:HO}(h:n=l.length+b):upd (jS b l) n (Aa p)=jS b (l++[p]):=by
 rw[<-aWm h];funext id;unfold upd iY;simp only[B8];by_cases e:id=n
 .subst e;rw[AB rfl,AB (by omega),Dw];rfl
 .rw[Ap e,Ap (by omega)]
def bTg(b:Ae):(λ_=>Aj:Hp)=jS b []:=by funext id;unfold jS;split<;>rfl
def aYa{H:Hp}{n:Ae}{a a':Aq HO}:upd (upd H n a) n a'=upd H n a':=by funext id;unfold upd;split<;>rfl
def bTf(a:HO):upd (λ_=>Aj) 1 (Aa a)=jS 1 [a]:=by rw[bTg 1];exact aOc rfl
def aOd{b c m n:Ae}{pre:Ad HO}{M:Ad (Ad Al)}{p:HO}(hn:n=pre.length+b+(M.length+1)):jS b (pre++mB c M m++[p]) n=Aa p:=by
 subst hn;rw[show pre.length+b+(M.length+1)=(pre.length+M.length+1)+b by omega,rP,AZ (by rw[BK,pL];omega),BK,pL,
  show pre.length+M.length+1-(pre.length+(M.length+1))=0 by omega];rfl
end Go.Am
