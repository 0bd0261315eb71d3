/- A range over a function, part 4: the contract of an iterator out of a walk of its body. No condition. -/
import Derived.Test.YtaekgiimepenkaaGreatT2
import Derived.Scope
import Derived.Defers
import Derived.Test.YtaekgiimepenkaaGreatRows
import Derived.AtR
import Derived.RangeFuncIn
import Derived.RangeFuncRecord
set_option linter.all false
open And renaming intro->A6
open Array renaming all_eq_true_iff_forall_mem->C1,empty_append->Cy,getD_eq_getD_getElem?->Au,getElem?_append_left->B5,getElem?_append_right->Cu,getElem?_eq_getElem->Ar,getElem?_eq_none->C3,getElem?_eq_some_iff->Bm,getElem?_push->BW,getElem?_replicate->Co,length_toList->BP,mapM_eq_mapM_toList->Ec,mem_of_getElem?->B7,replicate->Bd
open Bool renaming and_eq_true->A5,false->Az,false_eq_true->Ch,not_eq_true'->Dd,or_eq_true->GB,true->Ak
open Go renaming BinOp->FV,Code->B1,Deferred->Cl,Exit->Cf,Frame->BU,FuncId->AU,Goroutine->Ay,IntKind->BJ,Oper->Bf,Operand->AN,Program->As,TypeId->AF,Value->AE,World->Ag
open Go.Act renaming put->Cv
open Go.CallKind renaming early->DO
open Go.Deferred renaming ofValue->Cx
open Go.Exit renaming inBlock->EE
open Go.Frame renaming atR->C8,enter->Dt,finish_at->Ek,finish_atR->EX,round->FY
open Go.GStep renaming after->CJ
open Go.Instr renaming beginRound->FC,endRound->GL,loadAt->E7,sureAddr->CH,takeDeferred->FT
open Go.IntKind renaming bits->Df,i64->Ax,signed->EW,u32->Cs,u64->Bh,wrap->FB
open Go.Op renaming operands->AJ
open Go.Operand renaming tmp->CK
open Go.Proofs.Tryz renaming prog->A7,prog->Ab
open Go.Region renaming binds->Dx,ready->Bo,schedule->Ff,wanted->Bu
open Go.Region.linearise renaming go->BF
open Go.Result renaming andThen->EY,andThen_ok->AR
open Go.Sem renaming runT_eq->DU
open Go.Value renaming cells->EG,oneCell'->CZ
open Go.World renaming putObj_heap_other->EZ
open Go.stepG renaming apply->Eh,exec->Cp
open List renaming all_cons->Gq,all_eq_true->A1,cons_append->Cz,ext_getElem?->Dr,getD_eq_getElem?_getD->Ah,getElem?_cons_succ->BT,getElem?_eq_getElem->Ac,getElem?_eq_none->Bn,getElem?_eq_some_iff->AA,getElem?_map->Ao,getElem_mem->B3,getLast?_cons_cons->G9,length_cons->Av,length_take->Bt,mapM_cons->CG,mapM_nil->G5,map_cons->BX,mem_cons->BQ,mem_cons_of_mem->AT,mem_cons_self->AX,mem_filter->ED,mem_of_getElem?->At,mem_range->Cc,mem_singleton->CB,nodup_cons->DQ,range->AW,range'->D8,range'_succ->Es,range_eq_range'->Fq,range_succ->GC,replicate->AO,replicate_succ->C9,singleton_append->Ez,take_append_drop->EA,take_of_length_le->A4
open Nat renaming le_refl->AM,lt_of_lt_of_le->Be,lt_or_ge->Bc,lt_succ_self->CM,min_eq_left->Dv,mul_add->DJ,mul_one->Eb,pow_succ->CI,strongRecOn->FN,zero_add->AP
open Option renaming bind_eq_bind->Dk,bind_eq_some_iff->Af,isSome_map->Fp,map_eq_some_iff->Ai,map_some->Bj,none->Aj,pure_def->D9,some->Aa
open Option.some renaming injEq->AH
open Prod.mk renaming injEq->FK
open _root_ renaming Array->Aw,Bool->Bw,Int->Al,List->Ad,Nat->Ae,Option->Aq,beq_iff_eq->C6,decide_eq_true_eq->Bz,if_false->DV,if_neg->Ap,if_pos->AB,if_true->CN
open List renaming map_map->L,mapM_map->ξ
namespace Go.Am
open RowKit (Below)
def WkR[Pn:nA](σ σ':St):Prop:=σ=σ'\/∃ρ,Wk σ σ' ρ
def AWP[Pn:nA](P:As)[M:Mch P]:B1->St->(Cf->St->Prop)->Prop
 |.skip,σ,Q=>Q .normal σ
 |.region _ ops _,σ,Q=>OW P ops ops.toList σ [] λσ' con=>Q .normal (fin σ' con)
 |.seq x y,σ,Q=>AWP P x σ λe σ'=>match e with|.normal=>AWP P y σ' Q|e=>Q e σ'
 |.cond c x y,σ,Q=>match oev σ.Γ c with|.d (.b t)=>if t then AWP P x σ Q else AWP P y σ Q|.ub=>AWP P x σ Q/\AWP P y σ Q|_=>False
 |.block id c,σ,Q=>AWP P c σ λe σ'=>match e with|.exit id'=>if id'=id then Q .normal σ' else Q (.exit id') σ'|e=>Q e σ'
 |.loop c,σ,Q=>∃(τ:Type) (S:τ->St) (m:τ->Ae) (x0:τ),WkR σ (S x0)/\∀x,AWP P c (S x) λe σ'=>match e with|.normal=>∃y,m y<m x/\WkR σ' (S y)|e=>∃σ2,WkR σ' σ2/\Q e σ2
 |.exit id,σ,Q=>Q (.exit id) σ
 |.ret,σ,Q=>Q .ret σ
 |.label _,σ,Q=>Q .normal σ
 |.scope c,σ,Q=>AWP P c σ λe σ'=>match e with|.goto _=>False|e=>Q e σ'
 |_,_,_=>False
def aIw(N:Ae)(ops:Aw Bf):Bw:=ops.all λo=>match o.dst with|some d=>decide (d<N)|none=>Ak
def bX(N:Ae):B1->Bw
 |.region _ ops _=>aIw N ops
 |.seq x y|.cond _ x y=>bX N x&&bX N y
 |.block _ c|.loop c|.scope c=>bX N c
 |_=>Ak
def bGj(z:Ae->Bw)(ops:Aw Bf):Bw:=ops.all λo=>match o.dst with|some d=>!z d|none=>Ak
def fL(z:Ae->Bw):B1->Bw
 |.region _ ops _=>bGj z ops
 |.seq x y|.cond _ x y=>fL z x&&fL z y
 |.block _ c|.loop c|.scope c=>fL z c
 |_=>Ak
def aMl(ops:Aw Bf):bGj (λ_=>Az) ops=true:=by
 refine C1.2 λo _=>?_
 cases o.dst<;>rfl
def wP(c:B1):fL (λ_=>Az) c=true:=by
 induction c with
 |region id ops d=>exact aMl ops
 |seq x y ihx ihy=>simp[fL,ihx,ihy]
 |cond c x y ihx ihy=>simp[fL,ihx,ihy]
 |block id c ih=>exact ih
 |loop c ih=>exact ih
 |scope c ih=>exact ih
 |_=>rfl
def cM(P:As):B1->Bw
 |.region _ ops draw=>!draw||aWc P ops
 |.seq x y|.cond _ x y=>cM P x&&cM P y
 |.block _ c|.loop c|.scope c=>cM P c
 |_=>Ak
def aMm{N:Ae}{ops:Aw Bf}(h:aIw N ops=Ak):∀(i:Ae) (o:Bf) (d:Tmp),ops[i]? = Aa o->o.dst=Aa d->d<N:=by intro i o d hi hd;have:=C1.1 h o (B7 hi);rw[hd]at this;simpa using this
def pD{N:Ae}{ops:Aw Bf}{z:Ae->Bw}{G:Ctx}(hz:∀d v,G.Z d=Aa v->z d=Ak)(h:aIw N ops=Ak)(hnz:bGj z ops=Ak) :
 ∀(i:Ae) (o:Bf) (d:Tmp),ops[i]? = Aa o->o.dst=Aa d->d<N/\G.Z d=none:=by
 intro i o d hi hd
 refine⟨aMm h i o d hi hd,?_⟩
 have:=C1.1 hnz o (B7 hi)
 rw[hd]at this
 cases hZ:G.Z d with
 |none=>rfl
 |some v=>have h2:=hz d v hZ;simp[h2]at this
section
variable [Pn:nA] {P:As} [M:Mch P] {G:Ctx} {N:Ae} {ds:Ad Cl}
def aEj{σ σ':St}{a:Act}{w:Ag}(hk:WkR σ σ')(h:SR G N ds σ a w):SR G N ds σ' a w:=by
 rcases hk with rfl|⟨ρ,hk⟩
 . exact h
 . exact xB hk h
def aPq{f:AU}{avs:Ad AV}{dst:Aq Tmp}{σ:St}{con:Ad Ae}{k k':St->Ad Ae->Prop}(hk:∀σ con,k σ con->k' σ con)(h:HCo P f avs dst σ con k):HCo P f avs dst σ con k':=by obtain⟨S,r,H',n',h1,h2,h3,h4,h5,h6,h7⟩:=h;exact⟨S,r,H',n',h1,h2,h3,h4,h5,h6,hk _ _ h7⟩
def bMq{f:AU}{avs:Ad AV}{dst:Aq Tmp}{σ:St}{con:Ad Ae}{k k':St->Ad Ae->Prop}(hk:∀σ con,k σ con->k' σ con)(h:HNo P f avs dst σ con k):HNo P f avs dst σ con k':=by obtain⟨ds,r,H',n',h1,h2,h3,h4⟩:=h;exact⟨ds,r,H',n',h1,h2,h3,hk _ _ h4⟩
def bVc{f:AU}{args:Aw AN}{dst:Aq Tmp}{σ:St}{con:Ad Ae}{k k':St->Ad Ae->Prop}(hk:∀σ con,k σ con->k' σ con)(h:OC P f args dst σ con k):OC P f args dst σ con k':=by
 rcases h with h|⟨hm,h⟩|⟨hm,h⟩
 rotate_left
 . exact .inr (.inl ⟨hm,aPq hk h⟩)
 . exact .inr (.inr ⟨hm,bMq hk h⟩)
 refine .inl ?_;unfold OC0 at h ⊢;split
 . rename_i hm
   rw[AB hm]at h
   split
   . rename_i x rest hargs
     simp only[hargs]at h
     split
     . rename_i id hh hx
       simp only[hx]at h
       split
       . rename_i ho hH
         simp only[hH]at h
         rcases h with ⟨g,h1,h2,h3,h4⟩|⟨h1,h2,ds,ho',r,h3,h4,h5,h6,h7⟩|⟨p0,ν,h0,ro,hs,ds,ro',hs',r,p1,p2,p3,p4,p5,p6,p7,p8,p9,p10⟩|⟨h1,h2,ds,r,h3,h4,h5⟩
         . exact .inl ⟨g,h1,h2,h3,hk _ _ h4⟩
         . exact .inr (.inl ⟨h1,h2,ds,ho',r,h3,h4,h5,h6,hk _ _ h7⟩)
         . exact .inr (.inr (.inl ⟨p0,ν,h0,ro,hs,ds,ro',hs',r,p1,p2,p3,p4,p5,p6,p7,p8,p9,hk _ _ p10⟩))
         . exact .inr (.inr (.inr ⟨h1,h2,ds,r,h3,h4,hk _ _ h5⟩))
       . rename_i hH;simp only[hH]at h
     . rename_i hx
       simp only[hx]at h
       rcases h with ⟨h1,ds,r,h3,h4,h5⟩|⟨d0,y,l,id,h,ho,ds,ho',p1,p2,p3,p4,p5,p6,p7,p8,p9,p10,p11⟩
       . exact .inl ⟨h1,ds,r,h3,h4,hk _ _ h5⟩
       . exact .inr ⟨d0,y,l,id,h,ho,ds,ho',p1,p2,p3,p4,p5,p6,p7,p8,p9,p10,hk _ _ p11⟩
   . rename_i hargs;simp only[hargs]at h
 . rename_i hm
   rw[Ap hm]at h
   rcases h with ⟨h0,h1,v,hs,h2,h5⟩|h
   . exact .inl ⟨h0,h1,v,hs,h2,hk _ _ h5⟩
   refine .inr ?_
   split
   . rename_i g id hargs
     simp only[hargs]at h
     split
     . rename_i es hH
       simp only[hH]at h
       exact⟨h.1,h.2.1,h.2.2.1,hk _ _ h.2.2.2⟩
     . rename_i hne
       exfalso
       split at h
       . rename_i es hH;exact hne _ hH
       . exact h
   . rename_i hne
     split at h
     . rename_i g id hargs;exact(hne _ _ hargs).elim
     . obtain⟨ds,r,h1,h2,h3⟩:=h
       exact⟨ds,r,h1,h2,hk _ _ h3⟩
def bVd{o:Bf}{σ:St}{con:Ad Ae}{k k':St->Ad Ae->Prop}(hk:∀σ con,k σ con->k' σ con)(h:O1 P o σ con k):O1 P o σ con k':=by
 unfold O1 at h;unfold O1;split at h
 . rename_i t x hop
   split at h
   . rename_i v hv;(try simp only[hv]);exact hk _ _ h
   . exact h.elim
 . rename_i t m x ok hop
   split at h
   . rename_i v hv;(try simp only[hv]);exact hk _ _ h
   . exact h.elim
 . rename_i x hop
   split at h
   . rename_i v hv;(try simp only[hv]);exact hk _ _ h
   . exact h.elim
 . exact h.elim
 . rename_i t ad x hop
   split at h
   . rename_i id ho hv;(try simp only[hv]);exact hk _ _ h
   . exact h.elim
 . rename_i t m x v hop
   split at h
   . rename_i id ho hv;(try simp only[hv]);exact hk _ _ h
   . exact h.elim
 . rename_i t m x v hop
   split at h
   . rename_i id ho hv;(try simp only[hv]);exact hk _ _ h
   . exact h.elim
 . rename_i f args ts hop
   exact bVc hk h
 . rename_i t args ts hop
   rcases h with h|⟨f,avs,hv,hmm,h⟩
   rotate_left
   . exact .inr ⟨f,avs,hv,hmm,aPq hk h⟩
   refine .inl ?_
   split at h
   . rename_i f cs hc
     obtain⟨ds,r,h1,h2,h3⟩:=h
     (try simp only[hc])
     exact⟨ds,r,h1,h2,hk _ _ h3⟩
   . rename_i hc
     (try simp only[hc])
     split at h
     . rename_i f d hm
       obtain⟨ds,r,h1,h2,h3⟩:=h
       (try simp only[hm])
       exact⟨ds,r,h1,h2,hk _ _ h3⟩
     . exact h.elim
 . rename_i t name args ts hop
   split at h
   . rename_i ty d hc
     (try simp only[hc])
     split at h
     . rename_i f hm
       obtain⟨ds,r,h1,h2,h3⟩:=h
       (try simp only[hm])
       exact⟨ds,r,h1,h2,hk _ _ h3⟩
     . exact h.elim
   . exact h.elim
 . rename_i args ts hop
   split at h
   . rename_i s x t t' h1 h2
     obtain⟨e,h⟩:=h
     (try simp only[h1,h2])
     refine⟨e,?_⟩
     split at h
     . rename_i av nb cn hv;(try simp only[hv]);exact hk _ _ h
     . exact h.elim
   . exact h.elim
 . rename_i args ts hop
   split at h
   . rename_i m x t kt h1 h2
     (try simp only[h1,h2])
     split at h
     . rename_i id ho hv;(try simp only[hv]);exact hk _ _ h
     . exact h.elim
   . exact h.elim
 . rename_i args ts hop
   split at h
   . rename_i m x t kt h1 h2
     (try simp only[h1,h2])
     split at h
     . rename_i id ho n hv;(try simp only[hv]);exact hk _ _ h
     . exact h.elim
   . exact h.elim
 . rename_i args ts hop
   split
   . rename_i hlm
     rw[AB hlm]at h
     split at h
     . rename_i m h1
       (try simp only[h1])
       split at h
       . rename_i n hv;(try simp only[hv]);exact hk _ _ h
       . exact h.elim
     . exact h.elim
   . rename_i hlm
     rw[Ap hlm]at h
     obtain⟨hkd,h⟩:=h
     refine⟨hkd,?_⟩
     split at h
     . rename_i av nb hv;(try simp only[hv]);exact hk _ _ h
     . exact h.elim
 . rename_i h1 h2 h3 h4 h5 h6 h7 h8
   obtain⟨hkd,h⟩:=h
   refine⟨hkd,?_⟩
   split at h
   . rename_i av nb hv;(try simp only[hv]);exact hk _ _ h
   . exact h.elim
def aKp{ops:Aw Bf}{k k':St->Ad Ae->Prop}(hk:∀σ con,k σ con->k' σ con):∀(l:Ad Bf) (σ:St) (con:Ad Ae),OW P ops l σ con k->OW P ops l σ con k'
 |[],σ,con,h=>hk _ _ h
 | o::l,σ,con,h=>by
   unfold OW at h ⊢;split at h
   . exact bVd (λσ con=>aKp hk l σ con) h
   . exact aKp hk l _ _ h
   . exact h.elim
def gE:∀(c:B1) {Q Q':Cf->St->Prop} {σ:St},(∀e σ,Q e σ->Q' e σ)->AWP P c σ Q->AWP P c σ Q':=by
 intro c;induction c with
 |skip=>intro Q Q' σ hq h;exact hq _ _ h
 |region id ops draw=>intro Q Q' σ hq h;exact aKp (λσ con h=>hq _ _ h) _ _ _ h
 | seq x y ihx ihy =>
   intro Q Q' σ hq h;refine ihx (λe σ h=>?_) h;cases e with
   |normal=>exact ihy hq h
   |_=>exact hq _ _ h
 | cond c x y ihx ihy =>
   intro Q Q' σ hq h;unfold AWP at h ⊢;split
   . rename_i t ht
     simp only[ht]at h
     cases t
     . exact ihy hq h
     . exact ihx hq h
   . rename_i ht
     simp only[ht]at h
     exact⟨ihx hq h.1,ihy hq h.2⟩
   . rename_i h1 h2
     exfalso
     split at h
     . rename_i t ht;exact h1 _ ht
     . rename_i ht;exact h2 ht
     . exact h
 | block id c ih =>
   intro Q Q' σ hq h;refine ih (λe σ h=>?_) h;cases e with
   | exit id' =>
     simp only at h ⊢;split
     . rename_i he;rw[AB he]at h;exact hq _ _ h
     . rename_i he;rw[Ap he]at h;exact hq _ _ h
   |_=>exact hq _ _ h
 | loop c ih =>
   intro Q Q' σ hq h;obtain⟨τ,S,m,x0,h0,h1⟩:=h;refine⟨τ,S,m,x0,h0,λx=>ih (λe σ h=>?_) (h1 x)⟩;cases e with
   |normal=>exact h
   |_=>exact let ⟨σ2,hw,h⟩:=h;⟨σ2,hw,hq _ _ h⟩
 |exit id=>intro Q Q' σ hq h;exact hq _ _ h
 |ret=>intro Q Q' σ hq h;exact hq _ _ h
 |label l=>intro Q Q' σ hq h;exact hq _ _ h
 | scope c ih =>
   intro Q Q' σ hq h;refine ih (λe σ h=>?_) h;cases e with
   |goto l=>exact h
   |_=>exact hq _ _ h
 |_=>intro Q Q' σ hq h;exact h.elim
def aDy{c:B1}{σ:St}{Q:Cf->St->Prop}{τ:Type}(S:τ->St)(m:τ->Ae)(x0:τ)(h0:WkR σ (S x0))
 (h:∀x,AWP P c (S x) λe σ'=>match e with|.normal=>∃y,m y<m x/\WkR σ' (S y)|e=>Q e σ'):AWP P (.loop c) σ Q :=
 ⟨τ,S,m,x0,h0,λx=>gE c (λe σ h=>by
  cases e with
  |normal=>exact h
  |_=>exact⟨σ,.inl rfl,h⟩) (h x)⟩
def LU[Pn:nA](P:As)[M:Mch P](c:B1):Ae->St->(Cf->St->Prop)->Prop
 |0,_,_=>False
 |n+1,σ,Q=>AWP P c σ λe σ'=>match e with|.normal=>LU P c n σ' Q|e=>Q e σ'
def bRq{c:B1}{Q:Cf->St->Prop}{n:Ae}{σ:St}(h:LU P c n σ Q):AWP P (.loop c) σ Q:=by
 refine⟨{ p:Ae×St // LU P c p.1 p.2 Q },λp=>p.1.2,λp=>p.1.1,⟨(n,σ),h⟩,.inl rfl,λx=>?_⟩;obtain⟨⟨n,σ⟩,hx⟩:=x;cases n with
 |zero=>exact hx.elim
 | succ n =>
   refine gE c (λe σ h=>?_) hx;cases e with
   |normal=>exact⟨⟨(n,σ),h⟩,CM n,.inl rfl⟩
   |_=>exact⟨σ,.inl rfl,h⟩
def uU{rd:Bw}{WW:B1->(Cf->Act->Ag->Prop)->Act->Ag->Prop}(hW:WpR P rd WW)(hm:P.follows .mixedOrders=Ak){z:Ae->Bw}(hz:∀d v,G.Z d=Aa v->z d=Ak) :
 ∀(c:B1) (Q:Cf->St->Prop) (σ:St) (a:Act) (w:Ag),bX N c=Ak->cM P c=Ak->fL z c=Ak->(rd=Ak->fD c=Ak)->AWP P c σ Q->SR G N ds σ a w ->
 WW c (λe a' w'=>∃σ',Q e σ'/\SR G N ds σ' a' w') a w:=by
 intro c
 induction c with
 |skip=>intro Q σ a w _ _ _ _ h hs;exact hW.skip ⟨σ,h,hs⟩
 | region id ops draw =>
   intro Q σ a w hd hl hnz hnd h hs
   exact vC hW (Q:=Q .normal) hm (pD hz hd hnz) hnd (λhdr=>by simpa[cM,hdr]using hl) hs h λσ' a' w' hq hs'=>⟨σ',hq,hs'⟩
 | seq x y ihx ihy =>
   intro Q σ a w hd hl hnz hnd h hs
   simp only[bX,cM,fL,fD,A5]at hd hl hnz hnd
   refine hW.seq (hW.mono (ihx _ σ a w hd.1 hl.1 hnz.1 (λe=>(hnd e).1) h hs) ?_)
   rintro e a' w' ⟨σ',hq,hs'⟩
   cases e with
   |normal=>exact ihy Q σ' a' w' hd.2 hl.2 hnz.2 (λe=>(hnd e).2) hq hs'
   |_=>exact⟨σ',hq,hs'⟩
 | cond c x y ihx ihy =>
   intro Q σ a w hd hl hnz hnd h hs
   simp only[bX,cM,fL,fD,A5]at hd hl hnz hnd
   unfold AWP at h
   split at h
   rotate_left
   . rename_i ht
     have hc:∃t,a.eval c=.bool t:=by
      obtain⟨_,_,_,F,ι,_,_,hV,_⟩:=hs;have:=cD (Γ:=σ.Γ) (a:=a) (x:=c) (F:=F) (w:=w) (ι:=ι) λt _=>hV t
      rw[ht]at this;generalize a.eval c=v at this;cases this with|ub t=>exact⟨t,rfl⟩
     obtain⟨t,hc⟩:=hc
     refine hW.cond hc ?_
     cases t
     . exact ihy Q σ a w hd.2 hl.2 hnz.2 (λe=>(hnd e).2) h.2 hs
     . exact ihx Q σ a w hd.1 hl.1 hnz.1 (λe=>(hnd e).1) h.1 hs
   . exact h.elim
   . rename_i t ht
     have hc:a.eval c=.bool t:=by
      obtain⟨_,_,_,F,ι,_,_,hV,_⟩:=hs;have:=cD (Γ:=σ.Γ) (a:=a) (x:=c) (F:=F) (w:=w) (ι:=ι) λt _=>hV t
      rw[ht]at this;generalize a.eval c=v at this;cases this with|d _ _ h=>cases h;rfl
     refine hW.cond hc ?_
     cases t
     . exact ihy Q σ a w hd.2 hl.2 hnz.2 (λe=>(hnd e).2) h hs
     . exact ihx Q σ a w hd.1 hl.1 hnz.1 (λe=>(hnd e).1) h hs
 | block id c ih =>
   intro Q σ a w hd hl hnz hnd h hs
   refine hW.block (hW.mono (ih _ σ a w hd hl hnz hnd h hs) ?_)
   rintro e a' w' ⟨σ',hq,hs'⟩
   cases e with
   | exit id' =>
     simp only[EE]at hq ⊢
     split at hq
     . rename_i he;rw[AB he];exact⟨σ',hq,hs'⟩
     . rename_i he;rw[Ap he];exact⟨σ',hq,hs'⟩
   |_=>exact⟨σ',hq,hs'⟩
 | loop c ih =>
   intro Q σ a w hd hl hnz hnd h hs
   obtain⟨τ,S,m,x0,hk,hround⟩:=h
   refine hW.loop (λn a w=>∃x,m x=n/\SR G N ds (S x) a w) ⟨m x0,x0,rfl,aEj hk hs⟩ ?_
   rintro n a w ⟨x,rfl,hsx⟩
   refine hW.mono (ih _ (S x) a w hd hl hnz hnd (hround x) hsx) ?_
   rintro e a' w' ⟨σ',hq,hs'⟩
   cases e with
   | normal =>
     obtain⟨y,hlt,hk⟩:=hq
     exact⟨m y,hlt,y,rfl,aEj hk hs'⟩
   |_=>exact let ⟨σ2,hw,hq⟩:=hq;⟨σ2,hq,aEj hw hs'⟩
 |exit id=>intro Q σ a w _ _ _ _ h hs;exact hW.exit ⟨σ,h,hs⟩
 |ret=>intro Q σ a w _ _ _ _ h hs;exact hW.ret ⟨σ,h,hs⟩
 |label l=>intro Q σ a w _ _ _ _ h hs;exact hW.label ⟨σ,h,hs⟩
 | scope c ih =>
   intro Q σ a w hd hl hnz hnd h hs
   have hrd:rd=false:=by
    cases rd with
    |false=>rfl
    |true=>exact absurd (hnd rfl) (by simp[fD])
   refine hW.scope hrd (hW.mono (ih _ σ a w hd hl hnz (λe=>by rw[hrd]at e;cases e) h hs) ?_)
   rintro e a' w' ⟨σ',hq,hs'⟩
   cases e with
   |goto l=>exact hq.elim
   |_=>exact⟨σ',hq,hs'⟩
 |_=>intro Q σ a w _ _ _ _ h;exact h.elim
def bZ(hm:P.follows .mixedOrders=Ak)(hZ:∀d,G.Z d=Aj)(c:B1)(Q:Cf->St->Prop)(σ:St)(a:Act)(w:Ag)(hd:bX N c=Ak)(hl:cM P c=Ak)(h:AWP P c σ Q)(hs:SR G N ds σ a w) :
 WC P c (λe a' w'=>∃σ',Q e σ'/\SR G N ds σ' a' w') a w :=
 uU (cA P) hm (z:=λ_=>Az) (λd v e=>by rw[hZ]at e;cases e) c Q σ a w hd hl (wP c) (λe=>by cases e) h hs
end
section
variable {P:As} [M:Mch P] {G:Ctx} {N:Ae} {ds:Ad Cl}
def jN(P:As)(σ:St):ResultVar->Aq AV
 |.tmp t=>Aa (σ.Γ t)
 |.cell ad t=>mI P σ.H t (σ.Γ ad)
def jM(P:As)(rs:Ad ResultVar)(σ:St):Aq D :=
 (rs.mapM (jN P σ)).bind λavs=>(cK σ.H avs).map λl=>match l with|[x]=>x|l=>.tp l
def lM{fn:Func}{σ:St}{a:Act}{w:Ag}{r:D}{F:Ae->Prop}{ι:Ae->Aq Ae}(hR:HR G F w ι bG σ.H)(hV:∀t,V F w ι (σ.Γ t) (a.tmps.getD t undef))(h:jM P fn.results.toList σ=Aa r) :
 ∃v,aU P (results fn a.tmps) w=.ok v w/\VD (λb=>F b\/∃id,ι id=Aa b) w r v:=by
 obtain⟨avs,havs,h⟩:=Af.1 h
 obtain⟨l,hl,rfl⟩:=Ai.1 h
 have hrun:∀ (rs:Ad ResultVar) (avs:Ad AV),rs.mapM (jN P σ)=Aa avs->∃vs:Ad AE,aU P (rs.mapM (m:=Sem) λ| .tmp t=>pure (a.tmps.getD t undef) | .cell ad t=>do loadVar t (<- asAddr (a.tmps.getD ad undef))) w=.ok vs w /\
  vs.length=avs.length/\∀(k:Ae) c v,avs[k]? = Aa c->vs[k]? = Aa v->V F w ι c v:=by
  intro rs
  induction rs with
  |nil=>intro avs h;simp at h;subst h;exact⟨[],by simp,rfl,λk c v h=>by simp at h⟩
  | cons x rs ih =>
    intro avs h
    simp only[CG,Dk,Af,D9,AH]at h
    obtain⟨av,hav,avs',havs',rfl⟩:=h
    obtain⟨vs,h1,h2,h3⟩:=ih avs' havs'
    have hx:∃v,aU P ((match x with|.tmp t=>pure (a.tmps.getD t undef)|.cell ad t=>do loadVar t (<-asAddr (a.tmps.getD ad undef))):Sem AE) w=.ok v w/\V F w ι av v:=by
     cases x with
     |tmp t=>simp only[jN,AH]at hav;subst hav;exact⟨_,by simp,hV t⟩
     | cell ad t =>
       simp only[jN]at hav;obtain⟨u,hu,hv⟩:=vU (P:=P) hR (λ_ _ h=>h) hav (hV ad);refine⟨u,?_,hv⟩;show aU P (do loadVar t (<-asAddr (a.tmps.getD ad undef)):Sem AE) w=_;simp only[E7]at hu;generalize a.tmps.getD ad undef=p at hu ⊢;cases p with
       | pointer q=>cases q with
         |some q=>simpa[CH,asAddr]using hu
         |none=>simp[CH]at hu
       |_=>simp[CH]at hu
    obtain⟨v,hv,hvv⟩:=hx
    refine⟨v::vs,?_,by simp[h2],λk c u hc hu=>?_⟩
    . simp only[CG,aB,hv,AR,h1,aX]
    . rcases k with _|k
      . simp at hc hu;subst hc;subst hu;exact hvv
      . exact h3 k c u (by simpa using hc) (by simpa using hu)
 obtain⟨vs,h1,h2,h3⟩:=hrun _ _ havs
 obtain⟨q1,q2⟩:=gY _ _ _ hl
 have hVD:∀(k:Ae) d v,l[k]? = Aa d->vs[k]? = Aa v->VD (λb=>F b\/∃id,ι id=Aa b) w d v:=by
  intro k d v hd hv;obtain⟨c,hc,hf⟩:=q2 k d hd;refine(wC hR (λ_ _ h=>h) 8 c v d hf (h3 k c v hc hv)).1.mono ?_;rintro b (hb|⟨id,hid,hb⟩)
  . exact .inl hb
  . exact .inr ⟨id,hb⟩
 have hres:aU P (results fn a.tmps) w=.ok (if h:vs.toArray.size=1 then vs.toArray[0]else .tuple vs.toArray) w:=by
  simp only[results,Ec,aB,fX]
  erw [h1]
  simp
 refine⟨_,hres,?_⟩
 have hlen:l.length=vs.length:=by omega
 match l,hlen,hVD with
 | [x],hlen,hVD =>
   match vs,hlen,hVD with
   |[v],_,hVD=>exact hVD 0 x v rfl rfl
 | [],hlen,hVD =>
   have:vs=[]:=List.eq_nil_of_length_eq_zero (by simpa using hlen.symm)
   subst this
   exact .tp _ _ rfl λk c v h=>by simp at h
 | x::y::l,hlen,hVD =>
   have hne:¬vs.toArray.size=1:=by simp at hlen ⊢;omega
   rw[dif_neg hne]
   exact .tp _ _ (by simpa using hlen) λk c v hc hv=>hVD k c v hc (by simpa using hv)
def fP{fn:Func}{σ:St}{a:Act}{w:Ag}{r:D}(hs:SR G N ds σ a w)(h:jM P fn.results.toList σ=Aa r) :
 ∃v,aU P (results fn a.tmps) w=.ok v w/\VD (λb=>G.A b\/G.M b\/(G.W.heap.size<=b/\b<w.heap.size)) w r v:=by
 obtain⟨_,_,_,F,ι,hR,hdom,hV,_⟩:=hs
 obtain⟨v,h1,h2⟩:=lM hR hV h
 refine⟨v,h1,h2.mono ?_⟩
 rintro b (hb|⟨id,hb⟩)
 . rcases hR.F_ok b hb with h|h|h
   . exact .inl h
   . exact .inr (.inl h)
   . exact .inr (.inr ⟨h,hR.F_lt b hb⟩)
 . rcases(hR.place id b hb).1 with h|h
   . exact .inr (.inl h)
   . exact .inr (.inr ⟨h,hR.ι_lt hb⟩)
def Γ0(args:Ad D)(N:Ae):Ae->AV:=λt=>match args[t]? with|some d=>bH d|none=>if t<N then .un else .un
def St0(args:Ad D)(N:Ae):St:=⟨Γ0 args N,λ_=>Aj,1⟩
def SR0{A:Ae->Prop}{W:Ag}{vs:Aw AE}{args:Ad D}(hok:OkV W)(hA:∀b,A b->b<W.heap.size)(hl:args.length=vs.size)(hv:∀(k:Ae) d v,args[k]? = Aa d->vs[k]? = Aa v->VD A W d v)(hN:args.length<=N) :
 SR ⟨W,A,bG,λ_ _=>True,λ_=>Aj⟩ N [] (St0 args N) { tmps:=vs++Bd (N-vs.size) undef,defers:=[] } W:=by
 refine⟨λ_ _=>rfl,⟨λ_ _ _=>trivial,λ_ _ _=>trivial⟩,hok,A,λ_=>Aj,⟨.refl _ _ _,hA,λb h=>.inl h,λ_ _ h=>by simp at h,λ_ _ _ h=>by simp at h,λ_ _ _ h=>by simp at h,λ_ _ _ _ _ h=>by simp at h⟩,λid=>by simp[St0],λt=>?_,⟨by simp;omega,λ_ _ h=>by cases h⟩,rfl,λ_ _ h=>by simp at h⟩
 simp only[St0,Γ0]
 by_cases ht:t<args.length
 . rw[Ac ht]
   have ht':t<vs.size:=by omega
   have:(vs++Bd (N-vs.size) undef).getD t undef=vs[t]:=by simp only[Au];rw[B5 ht',Ar ht'];rfl
   rw[this]
   exact mS (hv t _ _ (Ac ht) (Ar ht'))
 . rw[Bn (by omega)]
   have:(vs++Bd (N-vs.size) undef).getD t undef=undef:=by
    simp only[Au];rw[Cu (by omega)];by_cases h2:t-vs.size<N-vs.size
    . rw[Co,AB h2];rfl
    . rw[Co,Ap h2];rfl
   rw[this]
   simp only[ite_self]
   exact .un
def SR.env[Pn:nA]{σ:St}{a:Act}{w v1:Ag}(h:SR G N ds σ a w)(he:Env w v1):SR G N ds σ a v1:=by obtain⟨h1,h2,hok,F,ι,hR,hdom,hV,hN,hds,hp⟩:=h;obtain⟨hR',hst⟩:=hR.env he;exact⟨h1,h2,he.okV hok,F,ι,hR',hdom,λt=>(hV t).step hst,hN,hds,hp⟩
def bOz {f N:Ae} {fn:Func} {c:B1} {args:Ad D} {r:D} (hm:P.follows .mixedOrders=Ak) (hf:P.funcs[f]? = Aa fn) (hb:fn.body=Aa c) (hname:(fn.name == "runtime.NumGoroutine")=Az) (hN:fn.ntmps=N)
 (hd:bX N c=Ak) (hl':cM P c=Ak) (ha:args.length<=N) (h:AWP P c (St0 args N) λe σ=>(e=.normal\/e=.ret)/\jM P fn.results.toList σ=Aa r):Spec P f args r:=by
 intro A W vs hA hl hv
 have hn:¬ fn.name = "runtime.NumGoroutine" := by simpa using hname
 refine⟨λw=>by simp[callFunc,hf,hn,hb],?_⟩
 refine jT hf hb ?_
 subst hN
 refine(cA P).okv λhok=>cG (bZ hm (λ_=>rfl) c _ _ _ _ hd hl' h (SR0 hok hA hl hv ha)) ?_
 rintro e a w ⟨σ,⟨he,hr⟩,hs⟩
 have hend:a.defers=[]/\∀v1,Env w v1->∃x,aU P (results fn a.tmps) v1=.ok x v1/\Below W.heap.size W v1/\VD (λb=>A b\/(W.heap.size<=b/\b<v1.heap.size)) v1 r x:=by
  refine⟨hs.2.2.2.elim λ_ h=>h.elim λ_ h=>h.2.2.2.2.1,λv1 he=>?_⟩;have hs1:=hs.env he;obtain⟨v,hrun,hvd⟩:=fP hs1 hr;obtain⟨_,_,_,F,ι,hR,_,_,_,hdf,_⟩:=hs1;refine⟨v,hrun,⟨hR.kept.os,hR.kept.tape,hR.kept.output,hR.kept.size,λk hk=>hR.kept.block k hk (λh=>h)⟩,hvd.mono ?_⟩;rintro b (h|h|h)
  . exact .inl h
  . exact h.elim
  . exact .inr h
 rcases he with rfl|rfl<;>exact hend
def St1(h:AV)(o:HO)(args:Ad D)(N:Ae):St:=⟨λt=>match t with|0=>h|t+1=>Γ0 args N t,λid=>if id=0 then Aa o else Aj,1⟩
def SR1{A:Ae->Prop}{W:Ag}{vs:Aw AE}{args:Ad D}{h:AV}{o:HO}{b:Ae}(hok:OkV W)(hA:∀b,A b->b<W.heap.size)(hAb:¬A b)(hb:b<W.heap.size)(ho:∃ob,W.heap[b]? = Aa ob/\CR A W (ι1 b) o ob)
 (hl:args.length+1=vs.size) (h0:∃v,vs[0]? = Aa v/\V A W (ι1 b) h v) (hv:∀(k:Ae) d v,args[k]? = Aa d->vs[k+1]? = Aa v->VD A W d v) (hN:args.length+1<=N) :
 SR ⟨W,A,(·=b),(λid b'=>id=0->b'=b),λ_=>Aj⟩ N [] (St1 h o args N) { tmps:=vs++Bd (N-vs.size) undef,defers:=[] } W:=by
 have hι:∀id b',ι1 b id=Aa b'->id=0/\b'=b:=λid b' e=>by
  unfold ι1 at e;split at e
  . injection e with e;exact⟨by assumption,e.symm⟩
  . cases e
 have hH:∀id o',(if id=0 then Aa o else Aj)=Aa o'->id=0/\o'=o:=λid o' e=>by
  split at e
  . injection e with e;exact⟨by assumption,e.symm⟩
  . cases e
 refine⟨λid h=>by simp only[St1]at h ⊢;rw[Ap (by omega)],⟨λid h b' e=>by simp[St1]at h;omega,λid h b' e=>(h e).elim⟩,hok,A,ι1 b,⟨.refl _ _ _,hA,λb h=>.inl h,λid b' e=>?_,λid b' o' e e'=>?_,λid id' b' e e' _ _=>?_,λid id' b' o1 o2 e e' _ h1 h2=>?_⟩,λid=>?_,λt=>?_,⟨by simp;omega,λ_ _ h=>by cases h⟩,rfl,λid b' e _=>(hι id b' e).2⟩
 . obtain⟨_,rfl⟩:=hι id b' e;exact⟨.inl rfl,hb,λ_=>hAb⟩
 . obtain⟨_,rfl⟩:=hι id b' e;obtain⟨_,rfl⟩:=hH id o' e';exact ho
 . rw[(hι _ _ e).1,(hι _ _ e').1]
 . rw[(hH _ _ h1).2,(hH _ _ h2).2];exact AM _
 . simp only[St1,ι1]
   by_cases hid:id=0<;>simp[hid]
 . have hget:∀k,k<vs.size->(vs++Bd (N - vs.size) undef).getD k undef=vs.getD k undef:=λk hk=>by simp only[Au];rw[B5 hk]
   have hget2:∀k,vs.size<=k->(vs++Bd (N-vs.size) undef).getD k undef=undef:=λk hk=>by
    simp only[Au];rw[Cu hk];by_cases h2:k-vs.size<N-vs.size
    . rw[Co,AB h2];rfl
    . rw[Co,Ap h2];rfl
   cases t with
   | zero =>
     obtain⟨v,hv0,hV0⟩:=h0
     show V A W (ι1 b) h _
     rw[show(({ tmps:=vs++Bd (N-vs.size) undef,defers:=[] }:Act).tmps.getD 0 undef)=v from by
      rw[hget 0 (by omega)];simp[Au,hv0]]
     exact hV0
   | succ t =>
     show V A W (ι1 b) (Γ0 args N t) _
     simp only[Γ0]
     by_cases ht:t<args.length
     . have ht':t+1<vs.size:=by omega
       rw[Ac ht,hget _ ht',Au,Ar ht']
       exact mS (hv t _ _ (Ac ht) (Ar ht'))
     . rw[Bn (by omega),hget2 _ (by omega)]
       simp only[ite_self]
       exact .un
def bGh {f N:Ae} {fn:Func} {c:B1} {h:AV} {o o':HO} {args:Ad D} {r:D} (hf:P.funcs[f]? = Aa fn) (hb:fn.body=Aa c) (hname:(fn.name == "runtime.NumGoroutine")=Az) (hN:fn.ntmps=N)
 (ha:args.length+1<=N) (hmap:∃k es,o=.map k es) (hmap':∃k es,o'=.map k es) (hno':kL o'=Ak) (hnm:NM r)
 (hA:∀(G:Ctx) (a:Act) (w:Ag),(∀d,G.Z d=Aj)->SR G N [] (St1 h o args N) a w->WC P c (λe a' w'=>∃σ,((e=.normal\/e=.ret)/\jM P fn.results.toList σ=Aa r/\σ.H 0=Aa o')/\SR G N [] σ a' w') a w):jV P f h o args o' r:=by
 intro A W vs b hAl hAb hbl hob hl hv0 hv
 have hn:¬ fn.name = "runtime.NumGoroutine" := by simpa using hname
 refine⟨λw=>by simp[callFunc,hf,hn,hb],?_⟩
 refine jT hf hb ?_
 subst hN
 refine(cA P).okv λhok=>?_
 have hsr:=SR1 (N:=fn.ntmps) hok hAl hAb hbl hob hl hv0 hv ha
 refine cG (hA _ _ _ (λ_=>rfl) hsr) ?_
 rintro e a w0 ⟨σ,⟨he,hr,hH0⟩,hs0⟩
 have hend:a.defers=[]/\∀w,Env w0 w->∃v,aU P (results fn a.tmps) w=.ok v w/\∃ob',Kept (·=b) W.heap.size W w/\w.heap[b]? = Aa ob' /\
  (∀cur e,W.heap[b]? = Aa (.cells cur e (0,0))->∃cur',ob'=.cells cur' e (0,0)/\cur'.size=cur.size) /\
  CR (λk=>A k\/(W.heap.size<=k/\k<w.heap.size)) w (ι1 b) o' ob'/\VD (λk=>A k\/(W.heap.size<=k/\k<w.heap.size)) w r v:=by
  refine⟨hs0.2.2.2.elim λ_ h=>h.elim λ_ h=>h.2.2.2.2.1,λw henv=>?_⟩
  have hs:=hs0.env henv
  obtain⟨_,_,_,F,ι,hR,hdom,hVs,_,hdf,hp⟩:=hs
  obtain⟨v,hrun,hvd⟩:=lM hR hVs hr
  obtain⟨b',hb'⟩:=(hdom 0).2 (by rw[hH0];rfl)
  have hbb:=hp 0 b' hb' rfl
  subst hbb
  obtain⟨ob',hob',hcr⟩:=hR.obj 0 b' o' hb' hH0
  have hnF:¬F b':=(hR.place 0 b' hb').2.2 (λx=>x)
  have hFA:∀k,F k->A k\/(W.heap.size<=k/\k<w.heap.size):=λk hk=>by
   rcases hR.F_ok k hk with h|h|h
   . exact .inl h
   . simp only at h;subst h;exact(hnF hk).elim
   . exact .inr ⟨h,hR.F_lt k hk⟩
  refine⟨v,hrun,ob',hR.kept,hob',λcur e he=>?_,(yS hno' hcr).step ⟨hFA,λ_ _=>rfl,λ_ _ h=>h,λ_ _ cur _ _ h=>⟨cur,h,rfl⟩⟩,(cEi hvd hnm).mono ?_⟩
  rotate_left
  . rintro c ⟨hc|⟨id,h2⟩,hnc⟩
    . exact hFA c hc
    . rcases(hR.place id c h2).1 with h|h
      . simp only at h;subst h
        have:=hR.inj id 0 c h2 hb' (λx=>x) (λx=>x)
        subst this
        obtain⟨k,es,rfl⟩:=hmap'
        cases hcr with|map _ _ ents clock _ _ _=>exact(hnc ents clock hob').elim
      . exact .inr ⟨h,hR.ι_lt h2⟩
  obtain⟨k,es,rfl⟩:=hmap
  obtain⟨ob,h1,h2⟩:=hob
  rw[he]at h1;injection h1 with h1;subst h1
  cases h2
 rcases he with rfl|rfl<;>exact hend
end
end Go.Am
section
open Go Go.Proofs
namespace Go.Am
def tbl{α:Type}[DecidableEq α]{f g:Ae->α}{M:Ae}(K:Ae)(hM:(M >>> K==0)=Ak)(h:((AW K).all λn=>M >>> n%2 != 1||decide (f n=g n))=Ak)(n:Ae)(hn:M >>> n%2=1):f n=g n:=by
 have hK:n<K:=Nat.lt_of_not_le λhle=>by have h0:=eq_of_beq hM;obtain⟨d,rfl⟩:=Nat.exists_eq_add_of_le hle;rw[Nat.shiftRight_add,h0,Nat.zero_shiftRight]at hn;cases hn
 have:=A1.1 h n (Cc.2 hK);rw[hn]at this;exact of_decide_eq_true this
@[simp]def cHq:∀n,0xcf8000100c0004826000000806000000b0004040604c00182001081c00403ea1e039803003180001ff00f8303000c7c3fe91eefe011fc >>> n%2=1->tsz A7 n=Aa (0x110011000000000000000000000200000000440000000000000001001000006004400000000000000000000000001000000003300000000000000000000000003084000000000000010000000400000003300000010021000000000000022000001000000000000100001000000331000000000001000000001ffff01010000554400000005530022000000000330000000000550002200000000000000000022110000100000000aa1110000099000000ff00000000000011000dd1990000331332211010010001221033102123311000000001000441111100 >>> (n*4)%16):=tbl 436 (by kernel_rfl) (by kernel_rfl)
@[simp]def cHp:∀n,0xcf8000100c0004826000000806000000b0004040604c00182001081c00403ea1e039803003180001ff00f8303000c7c3fe91eefe011fc >>> n%2=1->tby A7 n=Aa (0x40400000101000000000000000000000000000000000000000000300000000000000000404000000000000000000000000000000018000018000000000050000040400000000000000000000000000000000000000000000000000008000000000000000038380000000000000000000000000000000000000000000000000048008040000000000000000000000000000800000000000000200000000000000048480000000000001800001018000000000000000000000000001010000000000018000000000000000000000000080000000018000000000000282818000000000000000000000008000000000000000001c8c8c8c80008000800000000585840400000000000000078784800003030000000000000000000484800000000000000000000383800000020200000000000000000000000000000000000001010080800000000180000000000000000b0b018181800000000007878000000000000b8b80000000000000000000000001818000000b8b818787800000000383818181810100808001800001800000008202018002828180008040220201804000000000000000008000000181801010108080000 >>> (n*8)%256):=tbl 436 (by kernel_rfl) (by kernel_rfl)
@[simp]def cHo{n:Ae}(h:n=2\/n=3\/n=36\/n=202\/n=290):tz A7 n=Aa (.int .i64 0):=by rcases h with rfl|rfl|rfl|rfl|rfl<;>kernel_rfl
@[simp]def cHn{n:Ae}(h:n=22\/n=29\/n=33\/n=40\/n=43\/n=51\/n=60\/n=66\/n=67\/n=95\/n=96\/n=97\/n=108\/n=214\/n=223\/n=241\/n=262\/n=266\/n=379\/n=382):tz A7 n=Aa (.slice Aj 0 0):=by rcases h with rfl|rfl|rfl|rfl|rfl|rfl|rfl|rfl|rfl|rfl|rfl|rfl|rfl|rfl|rfl|rfl|rfl|rfl|rfl|rfl<;>kernel_rfl
@[simp]def cHm{n:Ae}(h:n=52\/n=53\/n=333\/n=334):tz A7 n=Aa (.agg #[.bool Az,.slice Aj 0 0,.slice Aj 0 0]):=by rcases h with rfl|rfl|rfl|rfl<;>kernel_rfl
@[simp]def cHl{n:Ae}(h:n=58\/n=59\/n=88\/n=89):tz A7 n=Aa (.agg #[.int .i64 0,.int .i64 0,.slice Aj 0 0,.int .i64 0,.int .i64 0,.slice Aj 0 0,.int .i64 0,.int .i64 0,.slice Aj 0 0]):=by rcases h with rfl|rfl|rfl|rfl<;>kernel_rfl
@[simp]def cHk{n:Ae}(h:n=61\/n=62):tz A7 n=Aa (.agg #[.int .i64 0,.int .i64 0,.slice Aj 0 0,.int .i64 0,.int .i64 0,.slice Aj 0 0,.int .i64 0,.int .i64 0,.slice Aj 0 0,.int .i64 0,.int .i64 0,.slice Aj 0 0,.slice Aj 0 0]):=by rcases h with rfl|rfl<;>kernel_rfl
@[simp]def cHj{n:Ae}(h:n=80\/n=81):tz A7 n=Aa (.agg #[.int .i64 0,.int .i64 0,.slice Aj 0 0,.int .i64 0,.int .i64 0,.slice Aj 0 0,.int .i64 0,.int .i64 0,.slice Aj 0 0,.int .i64 0,.int .i64 0,.slice Aj 0 0,.int .i64 0,.int .i64 0,.bool Az]):=by rcases h with rfl|rfl<;>kernel_rfl
@[simp]def cHi{n:Ae}(h:n=98\/n=99):tz A7 n=Aa (.agg #[.int .i64 0,.bool Az,.slice Aj 0 0,.int .u64 0,.slice Aj 0 0,.slice Aj 0 0,.slice Aj 0 0,.slice Aj 0 0,.slice Aj 0 0,.bool Az]):=by rcases h with rfl|rfl<;>kernel_rfl
@[simp]def cGd{n:Ae}(h:n=109\/n=110\/n=111\/n=112\/n=427\/n=428\/n=429):tz A7 n=Aa (.agg #[]):=by rcases h with rfl|rfl|rfl|rfl|rfl|rfl|rfl<;>kernel_rfl
@[simp]def cGc{n:Ae}(h:n=140\/n=141):tz A7 n=Aa (.agg #[.int .i64 0,.int .i64 0,.int .i64 0,.bool Az,.slice Aj 0 0]):=by rcases h with rfl|rfl<;>kernel_rfl
@[simp]def cGb{n:Ae}(h:n=152\/n=153\/n=167\/n=273\/n=274\/n=307):tz A7 n=Aa (.agg #[.slice Aj 0 0,.slice Aj 0 0,.slice Aj 0 0]):=by rcases h with rfl|rfl|rfl|rfl|rfl|rfl<;>kernel_rfl
@[simp]def cGa{n:Ae}(h:n=163\/n=164\/n=408):tz A7 n=Aa (.agg #[.slice Aj 0 0,.slice Aj 0 0]):=by rcases h with rfl|rfl|rfl<;>kernel_rfl
@[simp]def cFz{n:Ae}(h:n=168\/n=169):tz A7 n=Aa (.agg #[.slice Aj 0 0,.slice Aj 0 0,.slice Aj 0 0,.slice Aj 0 0,.slice Aj 0 0]):=by rcases h with rfl|rfl<;>kernel_rfl
@[simp]def cFy{n:Ae}(h:n=177\/n=178):tz A7 n=Aa (.agg #[.slice Aj 0 0,.bool Az,.slice Aj 0 0,.bool Az]):=by rcases h with rfl|rfl<;>kernel_rfl
@[simp]def cFx{n:Ae}(h:n=179\/n=180):tz A7 n=Aa (.agg #[.slice Aj 0 0,.bool Az,.slice Aj 0 0,.bool Az,.slice Aj 0 0]):=by rcases h with rfl|rfl<;>kernel_rfl
@[simp]def cFw{n:Ae}(h:n=189\/n=190\/n=191\/n=192):tz A7 n=Aa (.agg #[.int .i64 0,.int .i64 0,.slice Aj 0 0,.int .i64 0,.int .i64 0,.slice Aj 0 0,.int .i64 0,.int .i64 0,.slice Aj 0 0,.int .i64 0,.int .i64 0,.slice Aj 0 0,.int .i64 0,.int .i64 0,.slice Aj 0 0]):=by rcases h with rfl|rfl|rfl|rfl<;>kernel_rfl
@[simp]def cFv{n:Ae}(h:n=247\/n=248\/n=263):tz A7 n=Aa (.agg #[.int .i64 0,.int .i64 0]):=by rcases h with rfl|rfl|rfl<;>kernel_rfl
@[simp]def cFu{n:Ae}(h:n=304\/n=369\/n=370\/n=398\/n=399):tz A7 n=Aa (.agg #[.bool Az,.slice Aj 0 0,.bool Az,.slice Aj 0 0]):=by rcases h with rfl|rfl|rfl|rfl|rfl<;>kernel_rfl
@[simp]def cFt:tz Ab 4=Aa (.bool Az)/\tz Ab 5=Aa (.int .u8 0)/\tz Ab 6=Aa (.int .u8 0)/\tz Ab 7=Aa (.agg #[.int .i64 0,.int .i64 0,.bool Az,.int .u8 0])/\tz Ab 8=Aa (.agg #[.int .i64 0,.int .i64 0,.bool Az,.int .u8 0])/\tz Ab 12=Aa (.int .u64 0)/\tz Ab 21=Aa (.int .i32 0)/\tz Ab 23=Aa (.agg #[.int .u8 0,.int .u8 0,.slice Aj 0 0])/\tz Ab 24=Aa (.agg #[.int .u8 0,.int .u8 0,.slice Aj 0 0])/\tz Ab 25=Aa (.agg #[.int .u8 0,.int .u8 0])/\tz Ab 26=Aa (.int .u32 0)/\tz Ab 27=Aa (.agg #[.int .u32 0,.int .u32 0])/\tz Ab 30=Aa (.agg #[.int .i64 0,.int .i64 0,.slice Aj 0 0])/\tz Ab 31=Aa (.agg #[.int .i64 0,.int .i64 0,.slice Aj 0 0])/\tz Ab 34=Aa (.agg #[.bool Az,.slice Aj 0 0])/\tz Ab 35=Aa (.agg #[.bool Az,.slice Aj 0 0])/\tz Ab 46=Aa (.int .u64 0)/\tz Ab 47=Aa (.agg #[.int .u64 0,.int .u64 0])/\tz Ab 48=Aa (.agg #[.int .u64 0,.int .u64 0])/\tz Ab 49=Aa (.agg #[.int .i64 0,.int .u64 0,.int .u64 0])/\tz Ab 50=Aa (.agg #[.int .i64 0,.int .u64 0,.int .u64 0])/\tz Ab 113=Aa (.agg #[.int .u64 0])/\tz Ab 114=Aa (.agg #[.int .u64 0])/\tz Ab 115=Aa (.agg #[.int .u64 0,.int .u32 0])/\tz Ab 116=Aa (.agg #[.int .u64 0,.int .u32 0])/\tz Ab 135=Aa (.agg #[.int .i64 0,.slice Aj 0 0])/\tz Ab 136=Aa (.agg #[.int .i64 0,.slice Aj 0 0])/\tz Ab 187=Aa (.int .u64 0)/\tz Ab 193=Aa (.int .i8 0)/\tz Ab 215=Aa (.agg #[.int .u64 0,.int .i64 0,.slice Aj 0 0])/\tz Ab 216=Aa (.agg #[.int .u64 0,.int .i64 0,.slice Aj 0 0])/\tz Ab 282=Aa (.agg #[.int .u64 0,.int .u64 0,.int .u64 0,.int .u64 0])/\tz Ab 305=Aa (.agg #[.bool Az,.slice Aj 0 0,.bool Az,.slice Aj 0 0,.bool Az,.slice Aj 0 0,.bool Az,.slice Aj 0 0])/\tz Ab 343=Aa (.int .u64 0)/\tz Ab 373=Aa (.agg #[.int .i64 0,.int .i64 0,.slice Aj 0 0,.int .i64 0,.int .i64 0,.slice Aj 0 0])/\tz Ab 430=Aa (.int .u8 0)/\tz Ab 431=Aa (.int .u8 0)/\tz Ab 434=Aa (.int .i32 0)/\tz Ab 435=Aa (.int .i32 0):=by and_intros<;>kernel_rfl
@[simp]def cFs:∀n,0xcf8000100c0004826000000806000000b0004040604c00182001081c00403ea1e039803003180001ff00f8303000c7c3fe91eefe011fc >>> n%2=1->aBh A7 n=Aa (0x38000100c0000026000000006000000b0000040600800180000001800001e01e039803003180001fe00c030300006c37800ccb800180 >>> n%2==1):=tbl 436 (by kernel_rfl) (by kernel_rfl)
@[simp]def cFr:∀n,0xcf8000100c0000026000000806000000b0004040600800180001001800403ea1e039803003180001fe00c030300006c37e01ccfa011fc >>> n%2=1->tel A7 n=none:=tbl 436 (by kernel_rfl) (by kernel_rfl)
@[simp]def cFq:tel Ab 22=Aa 193/\tel Ab 29=Aa 66/\tel Ab 33=Aa 26/\tel Ab 40=Aa 50/\tel Ab 43=Aa 46/\tel Ab 51=Aa 3/\tel Ab 60=Aa 141/\tel Ab 66=Aa 35/\tel Ab 67=Aa 35/\tel Ab 95=Aa 2/\tel Ab 96=Aa 31/\tel Ab 97=Aa 370/\tel Ab 108=Aa 48/\tel Ab 214=Aa 43/\tel Ab 223=Aa 48/\tel Ab 241=Aa 248/\tel Ab 262=Aa 263/\tel Ab 266=Aa 4/\tel Ab 379=Aa 35/\tel Ab 382=Aa 370:=by and_intros<;>kernel_rfl
@[simp]def cFp:∀n,0xcf8000100c0004826000000806000000b0004040604c00182001081c00403ea1e039803003180001ff00f8303000c7c3fe91eefe011fc >>> n%2=1->aBf A7 n=(16 >>> n%2==1):=tbl 436 (by kernel_rfl) (by kernel_rfl)
@[simp]def cFo:∀n,0xcf8000100c0004826000000806000000b0004040604c00182001081c00403ea1e039803003180001ff00f8303000c7c3fe91eefe011fc >>> n%2=1->(Go.Program.underlying A7 n).isSome=true:=tbl 436 (by kernel_rfl) (by kernel_rfl)
@[simp]def cFn:fS Ab 2=Aa .i64/\fS Ab 3=Aa .i64/\fS Ab 5=Aa .u8/\fS Ab 6=Aa .u8/\fS Ab 12=Aa .u64/\fS Ab 21=Aa .i32/\fS Ab 26=Aa .u32/\fS Ab 36=Aa .i64/\fS Ab 46=Aa .u64/\fS Ab 187=Aa .u64/\fS Ab 193=Aa .i8/\fS Ab 202=Aa .i64/\fS Ab 290=Aa .i64/\fS Ab 343=Aa .u64/\fS Ab 430=Aa .u8/\fS Ab 431=Aa .u8/\fS Ab 434=Aa .i32/\fS Ab 435=Aa .i32:=by and_intros<;>kernel_rfl
@[simp]def cEx:∀n,0x6000000000000006000000000000018000000000000003000000000000000000000000000000c1800000 >>> n%2=1->eH A7 n=Aa [(0,1),(1,1),(2,1)]:=tbl 335 (by kernel_rfl) (by kernel_rfl)
@[simp]def cEw:∀n,0x800010000000020000000000000000b000004000080000000000000000000000080000000000000000000000000000000000a000000 >>> n%2=1->eH A7 n=none:=tbl 428 (by kernel_rfl) (by kernel_rfl)
@[simp]def cEv:∀n,0x180000000000000000000180000018000000000000000000001800c00000000 >>> n%2=1->eH A7 n=Aa [(0,1),(1,1)]:=tbl 249 (by kernel_rfl) (by kernel_rfl)
@[simp]def cEu{n:Ae}(h:n=58\/n=59\/n=88\/n=89):eH A7 n=Aa [(0,3),(3,3),(6,3)]:=by rcases h with rfl|rfl|rfl|rfl<;>kernel_rfl
@[simp]def cEt{n:Ae}(h:n=98\/n=99):eH A7 n=Aa [(0,1),(1,2),(3,1),(4,1),(5,1),(6,1),(7,1),(8,1),(9,1)]:=by rcases h with rfl|rfl<;>kernel_rfl
@[simp]def cEs:eH Ab 7=Aa [(0,1),(1,1),(2,1),(3,1)]/\eH Ab 8=Aa [(0,1),(1,1),(2,1),(3,1)]/\eH Ab 49=Aa [(0,1),(1,2)]/\eH Ab 50=Aa [(0,1),(1,2)]/\eH Ab 52=Aa [(0,2),(2,1)]/\eH Ab 53=Aa [(0,2),(2,1)]/\eH Ab 61=Aa [(0,3),(3,9),(12,1)]/\eH Ab 62=Aa [(0,3),(3,9),(12,1)]/\eH Ab 80=Aa [(0,3),(3,3),(6,3),(9,3),(12,1),(13,1),(14,1)]/\eH Ab 81=Aa [(0,3),(3,3),(6,3),(9,3),(12,1),(13,1),(14,1)]/\eH Ab 109=Aa []/\eH Ab 110=Aa []/\eH Ab 111=Aa []/\eH Ab 112=Aa []/\eH Ab 113=Aa [(0,0),(0,0),(0,1)]/\eH Ab 114=Aa [(0,0),(0,0),(0,1)]/\eH Ab 115=Aa [(0,0),(0,1),(1,1)]/\eH Ab 116=Aa [(0,0),(0,1),(1,1)]/\eH Ab 140=Aa [(0,1),(1,1),(2,1),(3,2)]/\eH Ab 141=Aa [(0,1),(1,1),(2,1),(3,2)]/\eH Ab 168=Aa [(0,2),(2,3)]/\eH Ab 169=Aa [(0,2),(2,3)]/\eH Ab 177=Aa [(0,1),(1,2),(3,1)]/\eH Ab 178=Aa [(0,1),(1,2),(3,1)]/\eH Ab 179=Aa [(0,4),(4,1)]/\eH Ab 180=Aa [(0,4),(4,1)]/\eH Ab 189=Aa [(0,3),(3,3),(6,3),(9,3),(12,3)]/\eH Ab 190=Aa [(0,3),(3,3),(6,3),(9,3),(12,3)]/\eH Ab 191=Aa [(0,15)]/\eH Ab 192=Aa [(0,15)]/\eH Ab 369=Aa [(0,2),(2,2)]/\eH Ab 370=Aa [(0,2),(2,2)]/\eH Ab 398=Aa [(0,2),(2,2)]/\eH Ab 399=Aa [(0,2),(2,2)]/\eH Ab 428=Aa [(0,0)]/\eH Ab 429=Aa [(0,0)]/\oE Ab 25=Aa (2,5)/\oE Ab 27=Aa (2,26)/\oE Ab 167=Aa (3,29)/\oE Ab 263=Aa (2,3):=by and_intros<;>kernel_rfl
@[simp]def cEr:oE Ab 282=Aa (4,46)/\oE Ab 304=Aa (2,35)/\oE Ab 305=Aa (2,304)/\oE Ab 307=Aa (3,66)/\oE Ab 373=Aa (2,31)/\oE Ab 408=Aa (2,29)/\oE Ab 427=Aa (0,16)/\tmp Ab 45=Aa (3,4)/\tmp Ab 185=Aa (3,183)/\tmp Ab 228=Aa (46,4):=by and_intros<;>kernel_rfl
@[simp]def aT:Go.Tables.follows A7.toTables .mixedOrders=true:=by kernel_rfl
def bU [M:Mch A7] {f N:Ae} {fn:Func} {c:B1} {args:Ad D} {r:D} (hf:A7.funcs[f]? = Aa fn) (h:AWP A7 c (St0 args N) λe σ=>(e=.normal\/e=.ret)/\jM A7 fn.results.toList σ=Aa r) (hb:fn.body=Aa c:=by exact rfl) (hN:fn.ntmps=N:=by exact rfl) (hname:(fn.name == "runtime.NumGoroutine")=false:=by exact rfl) (hd:bX N c=true:=by kernel_rfl) (hl:cM A7 c=true:=by kernel_rfl) (ha:args.length<=N:=by simp):Spec A7 f args r:=bOz aT hf hb hname hN hd hl ha h
@[simp]def cEq:∀n,0xfffffffffffffffffffffffffffffffffffffffffffffffffffffffffffffffffffffffffffffffffffffffffffffffffffffff >>> n%2=1->aRy A7 n=(0x400000800000000100000000400000000004000000001420001100100000000000000000 >>> n%2==1):=tbl 412 (by kernel_rfl) (by kernel_rfl)
@[simp]def cEp:∀n,0xfffffffffffffffffffffffffffffffffffffffffffffffffffffffffffffffffffffffffffffffffffffffffffffffffffffff >>> n%2=1->qS A7 n=(0x7012aa802218001222fe00000020b81053c100121f402e420a9b0018060803f82100191d2706002820200000842e00000000007 >>> n%2==1):=tbl 412 (by kernel_rfl) (by kernel_rfl)
end Go.Am
end
namespace Go.Am
abbrev Tch:=Ad Ae×Ad Ae
def jG(K:Hp)(W:Ad Ae)(g:Hp):Hp:=λj=>if j∈W then g j else K j
structure AD where
 Γ:Ae->AV
 K:Hp
 U:Ae->Prop
def AD.as(s:AD):AS:=⟨s.Γ,bG,s.K,s.U⟩
def EvD(P:As)[M:Mch P](G:Ctx)(o:Bf)(Γ:Ae->AV)(K K':Hp)(av:AV)(new:Ae->Prop)(t:Tch):Prop :=
 (∀id∈t.2,id∈t.1)/\(∀id,new id->id ∉ t.1) /\
 (∀id∈t.1,∀K2:Hp,(∀i∈t.1,K2 i=K i)->∀F w ι (a:Act),HR G F w ι bG K2->(∀t,CK t∈o.op.operands->V F w ι (Γ t) (a.tmps.getD t undef))->∃b,ι id=Aa b) /\
 ∃g:Hp,K'=jG K t.2 g/\∀K2:Hp,(∀i∈t.1,K2 i=K i)->(∀i,new i->K2 i=K i)->Y P G o Γ bG K2 (jG K2 t.2 g) av new bG
inductive mT(P:As)[M:Mch P](G:Ctx)(ops:Aw Bf)(o:Bf)(t:Tch)(s:AD):AD->Prop where
 | yes (av:AV) (new:Ae->Prop) (K':Hp) (hw:cJ ops o s.Γ=Aa Ak) (hev:EvD P G o s.Γ s.K K' av new t) (hU:∀id,new id->¬s.U id) (h0:∀id,new id->∀b,G.P0 id b) :
   mT P G ops o t s ⟨bN s.Γ o.dst av,K',λid=>s.U id\/new id⟩
 |no (hw:cJ ops o s.Γ=Aa Az):mT P G ops o t s ⟨bN s.Γ o.dst .un,s.K,s.U⟩
def cAe(a b:Ad Ae):Bw:=a.all λi=>!b.contains i
def yE{a b:Ad Ae}(h:cAe a b=Ak){i:Ae}(h1:i∈a)(h2:i∈b):False:=by have:=A1.1 h i h1;simp[h2]at this
def yJ(ops:Aw Bf)(x y:Bf)(t u:Tch):Bw:=x.apart ops y&&cAe t.2 u.1&&cAe u.2 t.1
section
variable {P:As} [M:Mch P] {G:Ctx} {ops:Aw Bf}
def EvD.congrΓ{o:Bf}{Γ Γ':Ae->AV}{K K':Hp}{av:AV}{new:Ae->Prop}{t:Tch}(h:EvD P G o Γ K K' av new t)(he:∀t,CK t∈o.op.operands->Γ' t=Γ t):EvD P G o Γ' K K' av new t:=by obtain⟨h1,h2,h3,g,h4,h5⟩:=h;exact⟨h1,h2,λid hid K2 hK F w ι a hR hop=>h3 id hid K2 hK F w ι a hR λt ht=>by rw[<-he t ht];exact hop t ht,g,h4,λK2 q1 q2=>(h5 K2 q1 q2).congrΓ he⟩
def EvD.move{o:Bf}{Γ:Ae->AV}{K K' K1:Hp}{av:AV}{new:Ae->Prop}{t:Tch}(h:EvD P G o Γ K K' av new t)(h1:∀i∈t.1,K1 i=K i)(h2:∀i,new i->K1 i=K i) :
 ∃g,K'=jG K t.2 g/\EvD P G o Γ K1 (jG K1 t.2 g) av new t:=by
 obtain⟨q1,q2,q3,g,q4,q5⟩:=h
 exact⟨g,q4,q1,q2,λid hid K2 hK=>q3 id hid K2 λi hi=>(hK i hi).trans (h1 i hi),g,rfl,λK2 r1 r2=>q5 K2 (λi hi=>(r1 i hi).trans (h1 i hi)) λi hi=>(r2 i hi).trans (h2 i hi)⟩
def EvD.y{o:Bf}{Γ:Ae->AV}{K K':Hp}{av:AV}{new:Ae->Prop}{t:Tch}(h:EvD P G o Γ K K' av new t):Y P G o Γ bG K K' av new bG:=by obtain⟨_,_,_,g,rfl,h⟩:=h;exact h K (λ_ _=>rfl) λ_ _=>rfl
def cCq{oi oj:Bf}{ti tj:Tch}{s s1 s2:AD}(hap:yJ ops oi oj ti tj=Ak)(hi:mT P G ops oi ti s s1)(hj:mT P G ops oj tj s1 s2) :
 Un G s.as\/∃s1',mT P G ops oj tj s s1'/\mT P G ops oi ti s1' s2:=by
 simp only[yJ,A5]at hap
 obtain⟨⟨hap,hd1⟩,hd2⟩:=hap
 obtain⟨h1,h2,h3⟩:=Oper.apart_spec hap
 cases hi with
 | no hwi =>
  cases hj with
  | no hwj =>
   refine .inr ⟨_,.no (by rw[<-hwj];exact(cR h1).symm),?_⟩
   have:=mT.no (P:=P) (G:=G) (ops:=ops) (o:=oi) (t:=ti) (s:=⟨bN s.Γ oj.dst .un,s.K,s.U⟩) (by rw[<-hwi];exact cR h3)
   simp only at this ⊢
   rwa [jB s.Γ .un .un h2]
  | yes av new K' hwj hev hU h0 =>
   refine .inr ⟨_,.yes av new K' (by rw[<-hwj];exact(cR h1).symm) (hev.congrΓ λt ht=>(eD h1 t ht).symm) hU h0,?_⟩
   have:=mT.no (P:=P) (G:=G) (ops:=ops) (o:=oi) (t:=ti) (s:=⟨bN s.Γ oj.dst av,K',λid=>s.U id\/new id⟩) (by rw[<-hwi];exact cR h3)
   simp only at this ⊢
   rwa [jB s.Γ .un av h2]
 | yes avi newi Ki hwi hevi hUi h0i =>
  have hwi':∀(v:AV),cJ ops oi (bN s.Γ oj.dst v)=Aa true:=λv=>by rw[<-hwi];exact cR h3
  cases hj with
  | no hwj =>
   refine .inr ⟨_,.no (by rw[<-hwj];exact(cR h1).symm),?_⟩
   have:=mT.yes (P:=P) (G:=G) (ops:=ops) (o:=oi) (t:=ti) (s:=⟨bN s.Γ oj.dst .un,s.K,s.U⟩) avi newi Ki (hwi' _) (hevi.congrΓ (eD h3)) hUi h0i
   simp only at this ⊢
   rwa [jB s.Γ avi .un h2]
  | yes avj newj Kj hwj hevj hUj h0j =>
   have hwj':cJ ops oj s.Γ=Aa true:=by rw[<-hwj];exact(cR h1).symm
   have hevj0:=hevj.congrΓ (Γ':=s.Γ) λt ht=>(eD h1 t ht).symm
   have hevi':=hevi.congrΓ (Γ':=bN s.Γ oj.dst avj) (eD h3)
   simp only at hUj hevj0
   have hUj0:∀id,newj id->¬s.U id:=λid h hu=>hUj id h (.inl hu)
   have hdis:∀id,newi id->¬newj id:=λid h hj=>hUj id hj (.inr h)
   have hUi1:∀id,newi id->¬(s.U id\/newj id):=λid h hu=>hu.elim (hUi id h) (hdis id h)
   have eU:(λid=>(s.U id\/newi id)\/newj id)=λid=>(s.U id\/newj id)\/newi id:=funext λid=>propext ⟨λh=>by rcases h with (h|h)|h<;>simp[h],λh=>by rcases h with (h|h)|h<;>simp[h]⟩
   obtain⟨gi,hKi,_⟩:=hevi.move (K1:=s.K) (λ_ _=>rfl) λ_ _=>rfl
   have out:∀i,i ∉ ti.2->Ki i=s.K i:=λi hi=>by rw[hKi];unfold jG;rw[Ap hi]
   -- blocks that are not made yet are not named
   by_cases hx:∃id,newj id/\id∈ti.1
   .obtain⟨id,hn,hc⟩:=hx
    exact .inl λF w ι a _ hR hd hV=>let ⟨b,hb⟩:=hevi.2.2.1 id hc s.K (λ_ _=>rfl) F w ι a hR (λt _=>hV t);hUj0 id hn (hd id b hb)
   have hRj:∀i∈tj.1,s.K i=Ki i:=λi hi=>(out i λh=>yE hd1 h hi).symm
   by_cases hy:∃id,newi id/\id∈tj.1
   .obtain⟨id,hn,hc⟩:=hy
    exact .inl λF w ι a _ hR hd hV=>let ⟨b,hb⟩:=hevj0.2.2.1 id hc s.K hRj F w ι a hR (λt _=>hV t);hUi id hn (hd id b hb)
   obtain⟨gj,hKj,hej⟩:=hevj0.move (K1:=s.K) hRj λi hi=>(out i λh=>hx ⟨i,hi,hevi.1 i h⟩).symm
   have hWj:∀i,i ∉ tj.2->jG s.K tj.2 gj i=s.K i:=λi hi=>by unfold jG;rw[Ap hi]
   obtain⟨gi',hKi',hei⟩:=hevi'.move (K1:=jG s.K tj.2 gj) (λi hi=>hWj i λh=>yE hd2 h hi) λi hi=>hWj i λh=>hy ⟨i,hi,hevj0.1 i h⟩
   refine .inr ⟨_,.yes avj newj _ hwj' hej hUj0 h0j,?_⟩
   have:=mT.yes (P:=P) (G:=G) (ops:=ops) (o:=oi) (t:=ti) (s:=⟨bN s.Γ oj.dst avj,jG s.K tj.2 gj,λid=>s.U id\/newj id⟩) avi newi _ (hwi' _) hei hUi1 h0i
   have eK:jG (jG s.K tj.2 gj) ti.2 gi'=Kj:=by
    rw[hKj];funext i;unfold jG;by_cases a1:i∈ti.2
    .have a2:i ∉ tj.2:=λh=>yE hd1 a1 (hevj0.1 i h)
     rw[AB a1,Ap a2,hKi'];unfold jG;rw[AB a1]
    .rw[Ap a1];by_cases a2:i∈tj.2
     .rw[AB a2,AB a2]
     .rw[Ap a2,Ap a2,out i a1]
   simp only at this ⊢
   rwa [jB s.Γ avi avj h2,eU,<-eK]
def bDp{o:Bf}{t:Tch}{s s1:AD}(hd:mT P G ops o t s s1)(hu:Un G s1.as):Un G s.as:=by
 intro F w ι a hok hR hdm hV;cases hd with
 | no hw =>
  obtain⟨a2,h2⟩:=aAd a o.dst undef;exact hu F w ι a2 hok hR hdm (wZ hV .un h2)
 | yes av new K' hw hev hU h0 =>
  refine aKv (P:=P) hok (hev.y F w ι a hok hR (λt _=>hV t) (λid hn=>?_) (λ_ w'=>OkV w'->False) λF' w' ι' u hR' hs hd1 hd2 hv hok'=>?_) λ_ _ h1 h2=>h2 h1
  .cases hi:ι id with
   |none=>rfl
   |some b=>exact absurd (hdm id b hi) (hU id hn)
  .obtain⟨a2,h2⟩:=aAd a o.dst u;refine hu F' w' ι' a2 hok' (hR'.congrC λid=>by simp[bG,AD.as]) (λid b hb=>?_) (wZ (λt=>(hV t).step hs) hv h2);rcases hd1 id b hb with h|h
   .exact .inl (hdm id b h)
   .exact .inr h
def aOl{N:Ae}{ds:Ad Cl}{o:Bf}{t:Tch}{s s':AD}{a:Act}{w:Ag}{K:Act->Ag->Prop}(hd:mT P G ops o t s s')(hdst:∀d,o.dst=Aa d->d<N/\G.Z d=Aj)(hrel:kP G N ds s.as a w)
 (hK:∀a' w',kP G N ds s'.as a' w'->K a' w'):if Bu o (yielded ops a.tmps)then ∀v1,Env w v1->wpX P o a v1 K else K (a.put o.dst undef) w:=by
 obtain⟨hok,F,ι,hR,hdom,hV,hN,hds,hp⟩:=hrel
 have hputN:∀u,(a.put o.dst u).tmps.size=N/\∀t v,G.Z t=Aa v->(a.put o.dst u).tmps.getD t undef=v:=λu=>by refine⟨by cases o.dst<;>simp[Cv,hN.1],λt v hz=>?_⟩;rw[fZ a o.dst u (λd h=>by rw[hN.1];exact(hdst d h).1) t,Ap (λe=>by rw[(hdst t e).2]at hz;cases hz)];exact hN.2 t v hz
 have hputd:∀u,(a.put o.dst u).defers=ds:=λu=>by cases o.dst<;>simp[Cv,hds]
 cases hd with
 | no hw =>
  rw[lV hw hV,Ap (by simp)]
  exact hK _ _ ⟨hok,F,ι,hR,hdom,wZ hV .un λt=>fZ a o.dst undef (λd h=>by rw[hN.1];exact(hdst d h).1) t,hputN _,hputd _,hp⟩
 | yes av new K' hw hev hU h0 =>
  rw[lV hw hV,AB rfl]
  intro v1 he
  obtain⟨hR1,hst1⟩:=hR.env he
  refine bCp (he.okV hok) (hev.y F v1 ι a (he.okV hok) hR1 (λt _=>(hV t).step hst1) (λid hn=>?_) (λa' w'=>OkV w'->K a' w') λF' w' ι' u hR' hs hd1 hd2 hv hok'=>?_)
  .cases hi:ι id with
   |none=>rfl
   |some b=>exact absurd ((hdom id).1 ⟨b,hi⟩) (hU id hn)
  .refine hK _ _ ⟨hok',F',ι',hR'.congrC λid=>by simp[bG,AD.as],λid=>⟨?_,?_⟩,wZ (λt=>((hV t).step hst1).step hs) hv λt=>fZ a o.dst u (λd h=>by rw[hN.1];exact(hdst d h).1) t,hputN _,hputd _,λid b hb=>(hd1 id b hb).elim (hp id b) λh=>h0 id h b⟩
   .rintro⟨b,hb⟩
    rcases hd1 id b hb with h|h
    .exact .inl ((hdom id).1 ⟨b,h⟩)
    .exact .inr h
   .rintro(h|h)
    .obtain⟨b,hb⟩:=(hdom id).2 h
     exact⟨b,hs.ι_le _ _ hb⟩
    .exact hd2 id h
def bMh(P:As)[M:Mch P](G:Ctx)(ops:Aw Bf)(τ:Ae->Tch)(i:Ae)(k:AD->Prop)(s:AD):Prop :=
 match ops[i]? with
 |none=>k s
 |some o=>Un G s.as\/∃s',mT P G ops o (τ i) s s'/\k s'
def aPk(P:As)[M:Mch P](G:Ctx)(ops:Aw Bf)(τ:Ae->Tch)(Q:AD->Prop):Ae->Aw Bw->AD->Prop
 |0,listed,s=>Bo .any ops listed=[]/\Q s
 |fuel+1,listed,s=>(Bo .any ops listed=[]->Q s)/\∀i∈Bo .any ops listed,bMh P G ops τ i (aPk P G ops τ Q fuel (listed.setIfInBounds i Ak)) s
def aPj{τ:Ae->Tch}{Q:AD->Prop}{i:Ae}{oi:Bf}(hi:ops[i]? = Aa oi) :
 ∀(fuel:Ae) (listed:Aw Bw) (s s1:AD),Dc ops listed ->
  (∀j oj,ops[j]? = Aa oj->j≠i->listed.getD j Ak=Az->(∀e∈oj.after,Dx .any e=Ak->e.on≠i)->dep ops 12 j i=Az->yJ ops oi oj (τ i) (τ j)=Ak) ->
  i∈Bo .any ops listed->mT P G ops oi (τ i) s s1->aPk P G ops τ Q fuel (listed.setIfInBounds i Ak) s1->aPk P G ops τ Q (fuel+1) listed s:=by
 intro fuel
 induction fuel with
 | zero =>
  intro listed s s1 _ _ hr hd H
  refine⟨λh=>(by rw[h]at hr;cases hr),λj hj=>?_⟩
  by_cases hji:j=i
  .subst hji;unfold bMh;simp only[hi];exact .inr ⟨s1,hd,H⟩
  .have:=ready_mono hj hji
   rw[H.1]at this
   cases this
 | succ fuel ih =>
  intro listed s s1 hdc hfree hr hd H
  refine⟨λh=>(by rw[h]at hr;cases hr),λj hj=>?_⟩
  by_cases hji:j=i
  .subst hji;unfold bMh;simp only[hi];exact .inr ⟨s1,hd,H⟩
  .have h1:=H.2 j (ready_mono hj hji)
   obtain⟨hjun,oj,hoj,hall⟩:=mem_ready.1 hj
   have hnot:∀e∈oj.after,Dx .any e=Ak->e.on≠i:=λe he hb heq=>by
    have h1:=hall e he hb;have h0:=(mem_ready.1 hr).1;rw[heq]at h1;rcases Bc i listed.size with h'|h'
    .simp[h']at h0 h1;rw[h0]at h1;cases h1
    .simp[C3 h']at h1
   have hnd:dep ops 12 j i=false:=by
    cases hd6:dep ops 12 j i with
    |false=>rfl
    | true =>
     have h1:=uL hdc 12 j i (λo' ho'=>by rw[hoj]at ho';injection ho' with ho';subst ho';exact hall) hd6;have h0:=(mem_ready.1 hr).1;rcases Bc i listed.size with h'|h'
     .simp[h']at h0 h1;rw[h0]at h1;cases h1
     .simp[C3 h']at h1
   have hap:=hfree j oj hoj hji hjun hnot hnd
   have hfree':∀k ok,ops[k]? = Aa ok->k≠i->(listed.setIfInBounds j Ak).getD k Ak=Az ->
    (∀e∈ok.after,Dx .any e=Ak->e.on≠i)->dep ops 12 k i=Az->yJ ops oi ok (τ i) (τ k)=true:=λk ok hk hki hun hno hnd=>by
    refine hfree k ok hk hki ?_ hno hnd
    by_cases hjk:j=k
    .subst hjk;exact hjun
    .rw[getD_set_ne Ak hjk]at hun;exact hun
   unfold bMh at h1 ⊢
   simp only[hoj]at h1 ⊢
   rcases h1 with h1|⟨s2,hd2,h2⟩
   .exact .inl (bDp hd h1)
   .rcases cCq hap hd hd2 with h3|⟨s1',hd1',hd2'⟩
    .exact .inl h3
    .refine .inr ⟨s1',hd1',ih (listed.setIfInBounds j Ak) s1' s2 (aKq hdc hj) hfree' (ready_mono hr (Ne.symm hji)) hd2' ?_⟩
     rw[Array.setIfInBounds_comm _ _ hji]
     exact h2
def bJj(ops:Aw Bf)(listed:Aw Bw)(τ:Ae->Tch)(i:Ae):Bw :=
 match ops[i]? with
 |none=>Az
 | some oi=>(AW ops.size).all λj=>j==i||listed.getD j Ak||match ops[j]? with
   |some oj=>oj.after.any (λe=>Dx .any e&&e.on==i)||dep ops 12 j i||yJ ops oi oj (τ i) (τ j)
   |none=>Ak
def mJ(ops:Aw Bf)(τ:Ae->Tch):Ae->Ae->Aw Bw->Bw
 |0,_,listed=>(Bo .any ops listed).isEmpty
 |fuel+1,k,listed=>(Bo .any ops listed).contains k&&bJj ops listed τ k&&mJ ops τ fuel (k+1) (listed.setIfInBounds k Ak)
def aSq{τ:Ae->Tch}{i:Ae}{oi:Bf}{listed:Aw Bw}(hi:ops[i]? = Aa oi)(h:bJj ops listed τ i=Ak)(j:Ae)(oj:Bf)
 (hj:ops[j]? = Aa oj) (hne:j≠i) (hun:listed.getD j Ak=Az) (hno:∀e∈oj.after,Dx .any e=Ak->e.on≠i) (hnd:dep ops 12 j i=Az):yJ ops oi oj (τ i) (τ j)=true:=by
 simp only[bJj,hi,A1,Cc]at h
 have h1:=h j (Bm.1 hj).1
 simp only[hj,GB,C6,hne,false_or,hun,Ch,hnd,or_false]at h1
 rcases h1 with h1|h1
 .obtain⟨e,he,hb⟩:=Array.any_eq_true'.1 h1
  simp only[A5,C6]at hb
  exact absurd hb.2 (hno e he hb.1)
 .exact h1
def aHn(P:As)[M:Mch P](G:Ctx)(ops:Aw Bf)(τ:Ae->Tch)(Q:AD->Prop):Ad Bf->Ae->AD->Prop
 |[],_,s=>Q s
 |o::l,k,s=>∃s',mT P G ops o (τ k) s s'/\aHn P G ops τ Q l (k+1) s'
def aHo{τ:Ae->Tch}{Q:AD->Prop}:∀(l:Ad Bf) (k:Ae) (listed:Aw Bw) (s:AD),Dc ops listed->(∀j,l[j]? = ops[k+j]?)->mJ ops τ l.length k listed=Ak->aHn P G ops τ Q l k s->aPk P G ops τ Q l.length listed s
 |[],_,_,_,_,_,hB,h=>⟨by simpa[mJ]using hB,h⟩
 | o::l,k,listed,s,hdc,hl,hB,h=>by
  have h0:ops[k]? = Aa o:=by simpa using(hl 0).symm
  simp only[Av,mJ,A5]at hB;obtain⟨⟨hr,hf⟩,hB'⟩:=hB;obtain⟨s',hd,hK⟩:=h;exact aPj h0 l.length listed s s' hdc (aSq h0 hf) (by simpa using hr) hd
   (aHo l (k+1) _ _ (aKq hdc (by simpa using hr)) (λj=>by have:=hl (j+1);simpa[Nat.add_assoc,Nat.add_comm 1 j]using this) hB' hK)
def oU{τ:Ae->Tch}{N:Ae}{ds:Ad Cl}{Q:AD->Prop}{Q':Cf->Act->Ag->Prop}(hdst:∀(i:Ae) (o:Bf) (d:Tmp),ops[i]? = Aa o->o.dst=Aa d->d<N/\G.Z d=Aj)(hQ:∀s a w,Q s->kP G N ds s.as a w->Q' .normal a w) :
 ∀(fuel:Ae) (listed:Aw Bw) (s:AD) (a:Act) (w:Ag),kP G N ds s.as a w->aPk P G ops τ Q fuel listed s->zL P ops Q' fuel listed a w
 |0,_,s,a,w,hr,h=>⟨h.1,hQ s a w h.2 hr⟩
 | fuel+1,listed,s,a,w,hr,h=>by
  refine⟨λh0=>hQ s a w (h.1 h0) hr,λi hi=>?_⟩;have h1:=h.2 i hi;unfold bMh at h1;split
  .rename_i ho;simp only[ho]at h1;exact oU hdst hQ fuel _ s a w hr h1
  .rename_i o ho;simp only[ho]at h1;rcases h1 with h1|⟨s',hd,h1⟩
   .obtain⟨hok,F,ι,hR,hdom,hV,_,_,_⟩:=hr;exact(h1 F w ι a hok hR (λid b hb=>(hdom id).1 ⟨b,hb⟩) hV).elim
   .exact aOl (K:=zL P ops Q' fuel (listed.setIfInBounds i Ak)) hd (λd h=>hdst i o d ho h) hr λa' w' hr'=>oU hdst hQ fuel _ s' a' w' hr' h1
def aIr{rd:Bw}{WW:B1->(Cf->Act->Ag->Prop)->Act->Ag->Prop}(hW:WpR P rd WW){τ:Ae->Tch}{id N:Ae}{ds:Ad Cl}{Q:AD->Prop}{Q':Cf->Act->Ag->Prop}{s:AD}{a:Act}{w:Ag}(hm:P.follows .mixedOrders=Ak)(hnd:rd=Ak->qN ops=Ak)
 (hB:mJ ops τ ops.size 0 (Bd ops.size Az)=Ak)
 (hdst:∀(i:Ae) (o:Bf) (d:Tmp),ops[i]? = Aa o->o.dst=Aa d->d<N/\G.Z d=Aj) (hrel:kP G N ds s.as a w) (h:aHn P G ops τ Q ops.toList 0 s) (hQ:∀s a w,Q s->kP G N ds s.as a w->Q' .normal a w) :
 WW (.region id ops Ak) Q' a w:=by
 refine hW.regA hm hnd λd=>oU (τ:=τ) hdst hQ _ _ s a _ (hrel.drew d) ?_
 have:=aHo (P:=P) (G:=G) (τ:=τ) (Q:=Q) ops.toList 0 (Bd ops.size Az) s (λm om hm=>by simp only[Au,Co]at hm;split at hm<;>cases hm) (by simp) (by rw[BP];exact hB) h
 simpa using this
end
def xZ:Ae->AV->Ad Ae
 |0,_=>[]
 | n+1,x=>match x with
  |.own i _ _ _|.ptr i _|.mp i|.kf _ i|.bm _ i _=>[i]
  |.ag cs|.tp cs|.fn _ cs=>cs.flatMap (xZ n)
  |_=>[]
def HDo(P:As)[M:Mch P](f:AU)(avs:Ad AV)(dst:Aq Tmp)(σ:St)(k:St->Tch->Prop):Prop :=
 ∃(S:Ad Ae) (r:AV) (H':Hp) (n':Ae) (W:Ad Ae),(∀id∈S,(σ.H id).isSome=Ak/\(H' id).isSome=Ak)/\(∀id∈S,∀ob,σ.H id=Aa ob->inO S ob=Ak)/\(∀x∈avs,inS S 4 x=Ak)/\Rch σ.H avs S /\
  σ.n<=n'/\(∀id∈W,id∈S)/\(∀id∈S,id ∉ W->H' id=σ.H id)/\tX P f avs S σ.H σ.n r H' n'/\k ⟨bN σ.Γ dst r,hcH σ.H σ.n S H' n',n'⟩ (S,W)
def CDo(P:As)[M:Mch P](f:AU)(avs:Ad AV)(dst:Aq Tmp)(σ:St)(k:St->Tch->Prop):Prop :=
 ∃ds r,cK σ.H avs=Aa ds/\Spec P f ds r/\bM σ.H avs r=[]/\k ⟨bN σ.Γ dst (inj r),σ.H,σ.n⟩ (bW σ.H avs,[])
def OD1(P:As)[M:Mch P](o:Bf)(σ:St)(k:St->Tch->Prop):Prop :=
 match o.op with
 | .load t x=>match mI P σ.H t (oev σ.Γ x)with
  |some v=>k ⟨bN σ.Γ o.dst v,σ.H,σ.n⟩ (xZ 4 (oev σ.Γ x),[])
  |none=>False
 | .store t ad x=>match lF P σ.H t (oev σ.Γ ad) (oev σ.Γ x)with
  |some (id,ho)=>k ⟨bN σ.Γ o.dst .un,upd σ.H id (Aa ho),σ.n⟩ ([id],[id])
  |none=>False
 |.call { callee:=.value (.func f),args:=args,argTypes:=_ }=>CDo P f (args.toList.map (oev σ.Γ)) o.dst σ k\/HDo P f (args.toList.map (oev σ.Γ)) o.dst σ k
 |.call { callee:=.value (.tmp t),args:=args,argTypes:=_ }=>∃f avs,hvl (σ.Γ t) (args.toList.map (oev σ.Γ))=Aa (f,avs)/\HDo P f avs o.dst σ k
 | op=>kind P op=0/\match nev P op σ.Γ σ.n with
  |some (av,nb)=>k ⟨bN σ.Γ o.dst av,fE σ.H σ.n nb,cnt nb σ.n⟩ ([],[])
  |none=>False
def OWD(P:As)[M:Mch P](ops:Aw Bf):Ad Bf->St->(St->Ad Tch->Prop)->Prop
 |[],σ,k=>k σ []
 | o::l,σ,k=>match cJ ops o σ.Γ with
  |some Ak=>OD1 P o σ λσ' t=>OWD P ops l σ' λσ2 ts=>k σ2 (t::ts)
  |some Az=>OWD P ops l ⟨bN σ.Γ o.dst .un,σ.H,σ.n⟩ λσ2 ts=>k σ2 (([],[])::ts)
  |none=>False
structure AgD(σ:St)(s:AD):Prop where
 Γ:s.Γ=σ.Γ
 K:∀id o,σ.H id=Aa o->s.K id=Aa o
 U:∀id,s.U id↔(σ.H id).isSome=Ak
section
variable {P:As} [M:Mch P] {G:Ctx} {ops:Aw Bf}
def bHa:(λi=>i∈([]:Ad Ae))=bG:=funext λi=>by simp[bG]
def bHp{H:Hp}{t:AF}(x:AV)(S:Ad Ae)(h:∀i∈xZ 4 x,i∈S):mI P (λi=>if i∈S then H i else Aj) t x=mI P H t x:=by cases x<;>simp[mI,xZ]at h ⊢;rw[AB h]
def aHq{k:St->Ad Tch->Prop}:∀(l:Ad Bf) (σ:St),(∀id,σ.n<=id->∀b,G.P0 id b)->Wf σ []->OWD P ops l σ k ->
 ∃(ts:Ad Tch) (fb:Hp) (σ':St),ts.length=l.length/\k σ' ts/\(∀id,σ'.n<=id->∀b,G.P0 id b)/\Wf σ' [] /\
  ∀s,AgD σ s->(∀id,σ.n<=id->s.K id=fb id)->∀(τ:Ae->Tch) (j:Ae),(∀(m:Ae) t,ts[m]? = Aa t->τ (j+m)=t)->aHn P G ops τ (λs'=>AgD σ' s') l j s
 |[],σ,hn0,hwf,h=>⟨[],λ_=>Aj,σ,rfl,h,hn0,hwf,λs hs _ τ j _=>hs⟩
 | o::l,σ,hn0,hwf,h=>by
  have ih:=λσ k=>aHq (k:=k) l σ
  unfold OWD at h;have step:∀(av:AV) (H1:Hp) (n1:Ae) (t:Tch),cJ ops o σ.Γ=Aa Ak->σ.n<=n1->(∀id,id ∉ t.2->¬(σ.n<=id/\id<n1)->H1 id=σ.H id)->(∀id∈t.2,(σ.H id).isSome=Ak/\(H1 id).isSome=Ak) ->
   OWD P ops l ⟨bN σ.Γ o.dst av,H1,n1⟩ (λσ2 ts=>k σ2 (t::ts)) ->
   (∀s,AgD σ s->(∀id,σ.n<=id->id<n1->s.K id=H1 id)->EvD P G o s.Γ s.K (jG s.K t.2 H1) av (λi=>σ.n<=i/\i<n1/\(H1 i).isSome=Ak) t) ->
   ∃(ts:Ad Tch) (fb:Hp) (σ':St),ts.length=(o::l).length/\k σ' ts/\(∀id,σ'.n<=id->∀b,G.P0 id b)/\Wf σ' [] /\
    ∀s,AgD σ s->(∀id,σ.n<=id->s.K id=fb id)->∀(τ:Ae->Tch) (j:Ae),(∀(m:Ae) t,ts[m]? = Aa t->τ (j+m)=t)->aHn P G ops τ (λs'=>AgD σ' s') (o::l) j s:=by
   intro av H1 n1 t hw hn hold hWs hk hev
   have hlt:∀id∈t.2,id<σ.n:=λid hid=>by
    rcases Bc id σ.n with h|h
    .exact h
    .have:=(hWs id hid).1;rw[hwf.top id h]at this;cases this
   have hwf1:Wf ⟨bN σ.Γ o.dst av,H1,n1⟩ []:=⟨λid hid=>by simp only at hid ⊢;rw[hold id (λh=>by have:=hlt id h;omega) (by omega)];exact hwf.top id (by omega),λ_ h=>by cases h⟩
   obtain⟨ts,fb,σ',h1,h2,h3,h4,h5⟩:=ih _ _ (λid h=>hn0 id (by simp only at h;omega)) hwf1 hk
   refine⟨t::ts,λid=>if σ.n<=id/\id<n1 then H1 id else fb id,σ',by simp[h1],h2,h3,h4,λs hs hfb τ j hτ=>?_⟩
   have ht:τ j=t:=hτ 0 t rfl
   have hKn:∀id,σ.n<=id->id<n1->s.K id=H1 id:=λid g1 g2=>by rw[hfb id g1];exact AB ⟨g1,g2⟩
   refine⟨_,.yes av (λi=>σ.n<=i/\i<n1/\(H1 i).isSome=Ak) (jG s.K t.2 H1) (by rw[hs.Γ];exact hw) (by rw[ht];exact hev s hs hKn) (λid g1 g2=>?_) (λid g1=>hn0 id g1.1),h5 _ ⟨by rw[hs.Γ],λid o' ho=>?_,λid=>?_⟩ (λid hid=>?_) τ (j+1) λm t' hm=>by have:=hτ (m+1) t' (by simpa using hm);rw[<-this];congr 1;omega⟩
   .have:=(hs.U id).1 g2
    rw[hwf.top id g1.1]at this;cases this
   .simp only at ho ⊢
    unfold jG
    by_cases c1:id∈t.2
    .rw[AB c1];exact ho
    .rw[Ap c1]
     by_cases c2:σ.n<=id/\id<n1
     .rw[hKn id c2.1 c2.2];exact ho
     .rw[hold id c1 c2]at ho;exact hs.K id o' ho
   .simp only
    rw[hs.U]
    by_cases c1:id∈t.2
    .simp[(hWs id c1).1,(hWs id c1).2]
    .by_cases c2:σ.n<=id/\id<n1
     .rw[hwf.top id c2.1];simp[c2]
     .rw[hold id c1 c2]
      exact⟨λh=>h.elim (λh=>h) λh=>(c2 ⟨h.1,h.2.1⟩).elim,.inl⟩
   .simp only at hid ⊢
    unfold jG
    rw[Ap (λh=>by have:=hlt id h;omega),hfb id (by omega)]
    simp only
    rw[Ap (by omega)]
  split at h
  case h_3=>exact h.elim
  case h_2 hw =>
   obtain⟨ts,fb,σ',h1,h2,h3,h4,h5⟩:=ih ⟨bN σ.Γ o.dst .un,σ.H,σ.n⟩ _ (by exact hn0) ⟨hwf.top,λ_ h=>by cases h⟩ h
   exact⟨([],[])::ts,fb,σ',by simp[h1],h2,h3,h4,λs hs hfb τ j hτ=>⟨_,.no (by rw[hs.Γ];exact hw),h5 ⟨bN s.Γ o.dst .un,s.K,s.U⟩ ⟨by rw[hs.Γ],hs.K,hs.U⟩ hfb τ (j+1) λm t' hm=>by have:=hτ (m+1) t' (by simpa using hm);rw[<-this];congr 1;omega⟩⟩
  case h_1 hw =>
  have hcall:∀(f:AU) (avs:Ad AV),Cal P o σ.Γ f avs->HDo P f avs o.dst σ (λσ' t=>OWD P ops l σ' λσ2 ts=>k σ2 (t::ts)) ->
   ∃(ts:Ad Tch) (fb:Hp) (σ':St),ts.length=(o::l).length/\k σ' ts/\(∀id,σ'.n<=id->∀b,G.P0 id b)/\Wf σ' [] /\
    ∀s,AgD σ s->(∀id,σ.n<=id->s.K id=fb id)->∀(τ:Ae->Tch) (j:Ae),(∀(m:Ae) t,ts[m]? = Aa t->τ (j+m)=t)->aHn P G ops τ (λs'=>AgD σ' s') (o::l) j s:=by
   intro f avs hcal ⟨S,r,H',n',W,hS,hin,ha,hr,hn,hWS,hsame,hsp,hk⟩
   have hlt:∀i∈S,i<σ.n:=λi hi=>by
    rcases Bc i σ.n with h|h
    .exact h
    .have:=(hS i hi).1;rw[hwf.top i h]at this;cases this
   have e_in:∀id,id∈S->hcH σ.H σ.n S H' n' id=H' id:=λid h=>by unfold hcH;rw[AB (.inl h)]
   have e_new:∀id,σ.n<=id->id<n'->hcH σ.H σ.n S H' n' id=H' id:=λid h1 h2=>by unfold hcH;rw[AB (.inr ⟨h1,h2⟩)]
   have e_old:∀id,id ∉ S->¬(σ.n<=id/\id<n')->hcH σ.H σ.n S H' n' id=σ.H id:=λid h1 h2=>by unfold hcH;rw[Ap (λh=>h.elim h1 h2)]
   refine step r (hcH σ.H σ.n S H' n') n' (S,W) hw hn (λid h1 h2=>?_) (λid h=>⟨(hS id (hWS id h)).1,by rw[e_in id (hWS id h)];exact(hS id (hWS id h)).2⟩) hk λs hs hKn=>?_
   .by_cases h3:id∈S
    .rw[e_in id h3];exact hsame id h3 h1
    .exact e_old id h3 h2
   .have hSK:∀id∈S,s.K id=σ.H id:=λid hi=>by obtain⟨ob,h1⟩:=Option.isSome_iff_exists.1 (hS id hi).1;rw[h1];exact hs.K _ _ h1
    have hcal':Cal P o s.Γ f avs:=by rw[hs.Γ];exact hcal
    have hnw:(λi=>σ.n<=i/\i<n'/\(hcH σ.H σ.n S H' n' i).isSome=Ak)=λi=>σ.n<=i/\i<n'/\(H' i).isSome=true:=by
     funext i;by_cases h2:σ.n<=i/\i<n'
     .rw[e_new i h2.1 h2.2]
     .exact propext ⟨λh=>(h2 ⟨h.1,h.2.1⟩).elim,λh=>(h2 ⟨h.1,h.2.1⟩).elim⟩
    rw[hnw]
    refine⟨hWS,λid h1 h2=>by have:=hlt id h2;omega,λid hid K2 hK F w ι a hR hop=>?_,hcH σ.H σ.n S H' n',rfl,λK2 h1 h2=>?_⟩
    .obtain⟨vs,_,hl,hV⟩:=hcal' F w ι a hop
     exact aEk hR (λi hi ob hob=>by rw[hK i hi,hSK i hi];exact hob) hr hl hV id hid
    .have hcon:(λi=>i∈S/\H' i=Aj)=bG:=by funext i;refine propext ⟨λ⟨h3,h4⟩=>?_,λh=>h.elim⟩;have:=(hS i h3).2;rw[h4]at this;cases this
     have:=aUk (G:=G) (K:=K2) (K':=jG K2 W (hcH σ.H σ.n S H' n')) (C:=bG) hcal' (λid h=>⟨hlt id h,(hS id h).1⟩) (λid h=>(h1 id h).trans (hSK id h)) hin ha (λ_ _ h=>h) hr hsp (λid h=>?_) (λid g1 g2 g3=>?_) (λid ob g1 g2 g3=>?_)
     .rw[hcon]at this;exact this
     .unfold jG
      by_cases h3:id∈W
      .rw[AB h3,e_in id h]
      .rw[Ap h3,h1 id h,hSK id h,hsame id h h3]
     .unfold jG
      rw[Ap (λh=>by have:=hlt id (hWS id h);omega),h2 id ⟨g1,g2,g3⟩,hKn id g1 g2,e_new id g1 g2]
     .unfold jG at g3
      rw[Ap (λh=>g1 (hWS id h))]at g3
      exact⟨g3,λh=>h⟩
  unfold OD1 at h;split at h
  .-- load
   rename_i t x hop;split at h
   case h_2=>exact h.elim
   rename_i v hv;refine step v σ.H σ.n _ hw (AM _) (λ_ _ _=>rfl) (λ_ h=>by cases h) h λs hs _=>⟨λ_ h=>(by cases h),λid h _=>(by omega),λid hid K2 _ F w ι a _ hopr=>?_,σ.H,rfl,λK2 h1 _=>?_⟩
   .have hvx:=cD (Γ:=σ.Γ) (a:=a) (x:=x) λt e=>by rw[<-hs.Γ];exact hopr t (by rw[hop];simp[AJ,e])
    generalize oev σ.Γ x=y at hv hid hvx;cases y<;>simp[mI]at hv
    .rename_i i off;simp[xZ]at hid;subst hid;generalize a.eval x=u at hvx;cases hvx with|ptr _ _ b hb=>exact⟨b,hb⟩
    .simp[xZ]at hid
   .have e1:jG K2 ([]:Ad Ae) σ.H=K2:=by funext i;simp[jG]
    have e2:(λi=>σ.n<=i/\i<σ.n/\(σ.H i).isSome=Ak)=bG:=by funext i;refine propext ⟨λh=>?_,λh=>h.elim⟩;omega
    rw[e1,e2];refine xD λF w ι a hR hops=>?_
    have hv':=(bHp (P:=P) (H:=σ.H) (t:=t) (oev σ.Γ x) (xZ 4 (oev σ.Γ x)) λ_ h=>h).trans hv;obtain⟨u,g1,g2⟩:=vU (P:=P) hR (λi ob hob=>by
     split at hob
     .rename_i hi;rw[h1 i hi];exact hs.K i ob hob
     .cases hob) hv' (cD (Γ:=σ.Γ) (a:=a) λt e=>by rw[<-hs.Γ];exact hops t (by rw[hop];simp[AJ,e]))
    exact⟨u,by simp only[execOp,hop,aB,g1];rfl,g2⟩
  .-- store
   rename_i t ad x hop;split at h
   case h_2=>exact h.elim
   rename_i id ho hst;obtain⟨off,old,hadd,hold⟩:=aFr hst;obtain⟨tt,htt,hΓ⟩:=pP (Γ:=σ.Γ) (x:=ad) (id:=id) (h:=.ptr 0 off) (by rw[hadd];rfl);refine step .un (upd σ.H id (Aa ho)) σ.n _ hw (AM _) (λi h1 _=>upd_ne _ _ (by simpa using h1)) (λi hi=>by simp only[CB]at hi;subst hi;rw[hold,upd_same];exact⟨rfl,rfl⟩) h λs hs _=>⟨λ_ h=>h,λi h1=>(by omega),λi hi K2 _ F w ι a _ hopr=>?_,upd σ.H id (Aa ho),rfl,λK2 h1 _=>?_⟩
   .simp only[CB]at hi;subst hi;have hvx:=cD (Γ:=σ.Γ) (a:=a) (x:=ad) λt e=>by rw[<-hs.Γ];exact hopr t (by rw[hop];simp[AJ,e])
    rw[hadd]at hvx;generalize a.eval ad=u at hvx;cases hvx with|ptr _ _ b hb=>exact⟨b,hb⟩
   .have e2:(λi=>σ.n<=i/\i<σ.n/\(upd σ.H id (Aa ho) i).isSome=Ak)=bG:=by funext i;refine propext ⟨λh=>?_,λh=>h.elim⟩;omega
    rw[e2,hs.Γ];have hK2:K2 id=Aa old:=(h1 id (by simp)).trans (hs.K _ _ hold);refine aUj (H:=λi=>if i=id then σ.H id else Aj) (id:=id) (ho:=ho) hop (λi ob hob=>?_) ?_ (λh=>h) (by simp[jG,upd_same]) (λj o' hj hh=>?_)
    .split at hob
     .rename_i e;subst e;rw[hold]at hob;rw[hK2];exact hob
     .cases hob
    .unfold lF at hst ⊢;rw[hadd]at hst ⊢;simp only[CN]at hst ⊢;exact hst
    .unfold jG at hh;rw[Ap (by simpa using hj)]at hh;exact⟨hh,λh=>h⟩
  .-- call
   rename_i f args ts hop;rcases h with ⟨ds,r,hf,hsp,hkl,h⟩|h
   rotate_left
   .exact hcall f _ (bLd hop) h
   refine step (inj r) σ.H σ.n _ hw (AM _) (λ_ _ _=>rfl) (λ_ h=>by cases h) h λs hs _=>⟨λ_ h=>(by cases h),λid h _=>(by omega),λid hid K2 hK F w ι a hR hopr=>?_,σ.H,rfl,λK2 h1 _=>?_⟩
   .have hfv:=rL (H':=λi=>if i∈bW σ.H (args.toList.map (oev σ.Γ))then σ.H i else Aj) hf λi hi=>AB hi
    have hHK:∀i ob,(if i∈bW σ.H (args.toList.map (oev σ.Γ))then σ.H i else Aj)=Aa ob->K2 i=Aa ob:=λi ob hob=>by
     split at hob
     .rename_i hi;rw[hK i hi];exact hs.K i ob hob
     .cases hob
    have:=(mN (Γ:=σ.Γ) (a:=a) hR hHK hfv.1 λy hy=>cD (Γ:=σ.Γ) (a:=a) λt e=>by rw[<-hs.Γ];exact hopr t (by rw[hop];subst e;simp[AJ,Call.operands];simpa using hy)).2.2;exact this id (by rw[hfv.2];exact hid)
   .have e1:jG K2 ([]:Ad Ae) σ.H=K2:=by funext i;simp[jG]
    have e2:(λi=>σ.n<=i/\i<σ.n/\(σ.H i).isSome=Ak)=bG:=by funext i;refine propext ⟨λh=>?_,λh=>h.elim⟩;omega
    rw[e1,e2];have hfv:=rL (H':=λi=>if i∈bW σ.H (args.toList.map (oev σ.Γ))then σ.H i else Aj) hf λi hi=>AB hi
    have hkl':bM (λi=>if i∈bW σ.H (args.toList.map (oev σ.Γ))then σ.H i else Aj) (args.toList.map (oev σ.Γ)) r=[]:=by
     unfold bM at hkl ⊢;split
     .rfl
     .rename_i hfl;rw[Ap hfl]at hkl;rw[hfv.2];exact hkl
    have:=bCj (P:=P) (G:=G) (Γ:=s.Γ) (C:=bG) (K:=K2) (H:=λi=>if i∈bW σ.H (args.toList.map (oev σ.Γ))then σ.H i else Aj) (o:=o) (r:=r) hop (λi ob hob=>by
     split at hob
     .rename_i hi;rw[h1 i hi];exact hs.K i ob hob
     .cases hob) (by rw[hs.Γ];exact hfv.1) hsp (λ_ _ h=>h)
    rw[hs.Γ,hkl',bHa]at this;rw[hs.Γ];exact this
  .-- call of a function value
   rename_i t args ts hop;obtain⟨f,avs,hv,h⟩:=h;exact hcall f avs (aWi (x:=.tmp t) hop hv) h
  .-- values alone
   obtain⟨hk,h⟩:=h;split at h
   case h_2=>exact h.elim
   rename_i av nb hnev;refine step av (fE σ.H σ.n nb) (cnt nb σ.n) _ hw (by cases nb<;>simp[cnt]) (λi _ h2=>?_) (λ_ h=>by cases h) h λs hs hKn=>⟨λ_ h=>(by cases h),λ_ _ h=>(by cases h),λ_ h=>(by cases h),σ.H,(by funext i;simp[jG]),λK2 _ h2=>?_⟩
   .cases nb with
    |none=>rfl
    |some ho=>simp only[fE,cnt]at h2 ⊢;exact upd_ne _ _ (by omega)
   .have e1:jG K2 ([]:Ad Ae) σ.H=K2:=by funext i;simp[jG]
    rw[e1,hs.Γ];cases nb with
    | none =>
     have e2:(λi=>σ.n<=i/\i<cnt (Aj:Aq HO) σ.n/\(fE σ.H σ.n Aj i).isSome=Ak)=bG:=by funext i;refine propext ⟨λh=>?_,λh=>h.elim⟩;simp only[cnt]at h;omega
     rw[e2];exact aCk (n:=σ.n) hnev
    | some ho =>
     have e2:(λi=>σ.n<=i/\i<cnt (Aa ho) σ.n/\(fE σ.H σ.n (Aa ho) i).isSome=Ak)=(·=σ.n):=by funext i;refine propext ⟨λh=>by simp only[cnt]at h;omega,λh=>?_⟩;subst h;simp[cnt,fE,upd_same]
     rw[e2];have e3:=h2 σ.n (by simp[cnt,fE,upd_same]);refine xR (n:=σ.n) (ho:=ho) hnev ?_;rw[e3,hKn σ.n (AM _) (by simp[cnt])];simp[fE,upd_same]
def aEx[Pn:nA]{rd:Bw}{WW:B1->(Cf->Act->Ag->Prop)->Act->Ag->Prop}(hW:WpR P rd WW){id N:Ae}{ds:Ad Cl}{Q:St->Prop}{Q':Cf->Act->Ag->Prop}{σ:St}{a:Act}{w:Ag}(hm:P.follows .mixedOrders=Ak)
 (hdst:∀(i:Ae) (o:Bf) (d:Tmp),ops[i]? = Aa o->o.dst=Aa d->d<N/\G.Z d=Aj) (hnd:rd=Ak->qN ops=Ak) (hsr:SR G N ds σ a w)
 (h:OWD P ops ops.toList σ λσ' ts=>Q σ'/\mJ ops (λi=>ts.getD i ([],[])) ops.size 0 (Bd ops.size Az)=Ak) (hQ:∀σ a w,Q σ->SR G N ds σ a w->Q' .normal a w):WW (.region id ops Ak) Q' a w:=by
 obtain⟨hn0,hwf,hag⟩:=oS hsr
 obtain⟨ts,fb,σ',hlen,⟨hq,hB⟩,hn',hwf',hall⟩:=aHq (G:=G) ops.toList σ hn0 hwf h
 obtain⟨h1,h2⟩:=hag (λi=>if i<σ.n then σ.H i else fb i) (λi o hi=>by
  rcases Bc i σ.n with hlt|hge
  .rw[AB hlt];exact hi
  .rw[hwf.top i hge]at hi;cases hi)
 have h3:=hall ⟨σ.Γ,λi=>if i<σ.n then σ.H i else fb i,λid=>(σ.H id).isSome=Ak⟩ ⟨rfl,h1.K,λ_=>Iff.rfl⟩ (λi hi=>by simp only;rw[Ap (by omega)]) (λi=>ts.getD i ([],[])) 0 (λm t hm=>by simp[Ah,hm])
 refine aIr hW hm hnd hB hdst (s:=⟨σ.Γ,λi=>if i<σ.n then σ.H i else fb i,λid=>(σ.H id).isSome=Ak⟩) h2 h3 λs a w hs hr=>?_
 refine hQ σ' a w hq ?_
 have:=yP (σ:=σ') (con:=[]) (s:=s.as) hsr.2.1.2 hn' hwf' ⟨hs.Γ,λid=>by simp[AD.as,bG],hs.K,λid=>by simp[AD.as,hs.U]⟩ hr
 exact this
end
open RowKit (Below)
structure Kn where
 call:AU->Ad D->Aq D
 ocall:AU->AV->HO->Ad D->Aq (HO×D)
 keys:AU->Aq AU
 sorted:AU->AU->Bw
 hf:AU->Bw
 hcall:AU->Ad AV->Ad Ae->Hp->Ae->Aq (AV×Hp×Ae)
structure oB(P:As)[M:Mch P](E:Kn):Prop where
 call:∀f ds r,E.call f ds=Aa r->Spec P f ds r
 ocall:∀f h o ds o' r,E.ocall f h o ds=Aa (o',r)->jV P f h o ds o' r
 keys:∀f g,E.keys f=Aa g->aEo P f g
 sorted:∀f g,E.sorted f g=Ak->uQ P f g
 hcall:∀f avs S H n r H' n',E.hcall f avs S H n=Aa (r,H',n')->tX P f avs S H n r H' n'
def cGs:Aq HO->Ad Ae
 |some (.cells _ cs)=>cs.flatMap (xZ 4)
 |some (.map _ es)=>es.flatMap λp=>xZ 4 p.2
 |_=>[]
def aBz(H:Hp):Ae->Ad Ae->Ad Ae->Ad Ae
 |0,_,acc=>acc
 |_+1,[],acc=>acc
 |n+1,id::l,acc=>if acc.contains id then aBz H n l acc else aBz H n (cGs (H id)++l) (acc++[id])
def cGg(H:Hp)(avs:Ad AV)(S:Ad Ae):Bw:=(AW S.length).all λi=>match S[i]? with
 | some id=>avs.any (nmA id 4)||(AW i).any λj=>match S[j]? with
  | some id'=>match H id' with
   |some o=>nmO id o
   |none=>Az
  |none=>Az
 |none=>Az
def okS(H:Hp)(avs:Ad AV)(S:Ad Ae):Bw:=(S.all λid=>match H id with|some ob=>inO S ob|none=>Az)&&avs.all (inS S 4)&&cGg H avs S
def hfv(P:As)(E:Kn)(p:Aq (AU×Ad AV)):Aq (AU×Ad AV):=match p with
 |some p=>if E.hf p.1&&qS P p.1 then Aa p else Aj
 |none=>Aj
def aNu{P:As}{E:Kn}{p:Aq (AU×Ad AV)}{q:AU×Ad AV}(h:hfv P E p=Aa q):p=Aa q/\qS P q.1=true:=by
 unfold hfv at h;split at h
 .split at h
  .rename_i hc;injection h with h;subst h;exact⟨rfl,(Bool.and_eq_true_iff.1 hc).2⟩
  .cases h
 .cases h
def HEs(E:Kn)(f:AU)(avs:Ad AV)(dst:Aq Tmp)(σ:St)(con:Ad Ae)(S:Ad Ae):Aq (St×Ad Ae) :=
 if okS σ.H avs S then match E.hcall f avs S σ.H σ.n with
  |some (r,H',n')=>if σ.n<=n' then Aa (⟨bN σ.Γ dst r,hcH σ.H σ.n S H' n',n'⟩,S.filter (λi=>(H' i).isNone)++con)else Aj
  |none=>Aj
 else Aj
def HE(E:Kn)(f:AU)(avs:Ad AV)(dst:Aq Tmp)(σ:St)(con:Ad Ae):Aq (St×Ad Ae):=HEs E f avs dst σ con (aBz σ.H 10000 (avs.flatMap (xZ 4)) [])
def aMp{H:Hp}{avs:Ad AV}{S:Ad Ae}(hok:okS H avs S=Ak):(∀id∈S,∃ob,H id=Aa ob/\inO S ob=Ak)/\(∀x∈avs,inS S 4 x=Ak)/\Rch H avs S:=by
 simp only[okS,A5,A1]at hok;obtain⟨⟨h1,h2⟩,h3⟩:=hok;refine⟨λid hid=>?_,h2,λi id hi=>?_⟩
 .have:=h1 id hid;split at this
  .exact⟨_,by assumption,this⟩
  .cases this
 .have hlt:=(AA.1 hi).1;have:=A1.1 h3 i (by simpa using hlt);rw[hi]at this;simp only[GB,List.any_eq_true]at this;rcases this with ⟨x,hx,hn⟩|⟨j,hj,hn⟩
  .exact .inl ⟨x,hx,hn⟩
  .split at hn
   .rename_i id' hj';split at hn
    .rename_i o ho;exact .inr ⟨j,id',o,by simpa using hj,hj',ho,hn⟩
    .cases hn
   .cases hn
def aHs{P:As}[M:Mch P]{E:Kn}(hE:oB P E){f:AU}{avs:Ad AV}{dst:Aq Tmp}{σ:St}{con S:Ad Ae}{p:St×Ad Ae}{k:St->Ad Ae->Prop}(h:HEs E f avs dst σ con S=Aa p)(hk:k p.1 p.2):HCo P f avs dst σ con k:=by
 unfold HEs at h;split at h
 case isFalse=>cases h
 rename_i hok;split at h
 case h_2=>cases h
 rename_i r H' n' hc;split at h
 case isFalse=>cases h
 rename_i hc2;injection h with h;subst h
 obtain⟨h1',h2,h3⟩:=aMp hok;refine⟨S,r,H',n',λid hid=>by obtain⟨ob,h4,_⟩:=h1' id hid;rw[h4];rfl,λid hid ob hob=>?_,h2,h3,hc2,hE.hcall _ _ _ _ _ _ _ _ hc,hk⟩
 .obtain⟨ob',h4,h5⟩:=h1' id hid;rw[hob]at h4;injection h4 with h4;subst h4;exact h5
def HN(E:Kn)(f:AU)(avs:Ad AV)(dst:Aq Tmp)(σ:St)(con:Ad Ae):Aq (St×Ad Ae) :=
 match cK σ.H avs with
 | some ds=>match E.hcall f (ds.map bH) [] (λ_=>Aj) σ.n with
  |some (r,H',n')=>if σ.n<=n' then Aa (⟨bN σ.Γ dst r,hcH (kill (bW σ.H avs) σ.H) σ.n [] H' n',n'⟩,bW σ.H avs++con)else Aj
  |none=>Aj
 |none=>Aj
def bMr{P:As}[M:Mch P]{E:Kn}(hE:oB P E){f:AU}{avs:Ad AV}{dst:Aq Tmp}{σ:St}{con:Ad Ae}{p:St×Ad Ae}{k:St->Ad Ae->Prop}(h:HN E f avs dst σ con=Aa p)(hk:k p.1 p.2):HNo P f avs dst σ con k:=by
 unfold HN at h;split at h
 case h_2=>cases h
 rename_i ds hds;split at h
 case h_2=>cases h
 rename_i r H' n' hc;split at h
 case isFalse=>cases h
 rename_i hc2;injection h with h;subst h
 exact⟨ds,r,H',n',hds,hc2,hE.hcall _ _ _ _ _ _ _ _ hc,hk⟩
def OEC(P:As)(E:Kn)(f:AU)(args:Aw AN)(dst:Aq Tmp)(σ:St)(con:Ad Ae):Aq (St×Ad Ae) :=
 if E.hf f&&qS P f then HE E f (args.toList.map (oev σ.Γ)) dst σ con
 else if E.hf f&&aRy P f then HN E f (args.toList.map (oev σ.Γ)) dst σ con
 else if qS P f then match args.toList with
  | x::rest=>match hd1 (oev σ.Γ x)with
   | some (id,h)=>match σ.H id with
    | some ho=>match rest,h,E.keys f with
     |[],.mp 0,Aa g=>Aa (⟨bN σ.Γ dst (.kf g id),σ.H,σ.n⟩,con)
     | _,_,_=>if kL ho=Ak/\bW σ.H (rest.map (oev σ.Γ))=[]then match cK σ.H (rest.map (oev σ.Γ))with
      | some ds=>match E.ocall f h ho ds with
       |some (ho',r)=>if ho'.len=ho.len/\kL ho'=Ak then Aa (⟨bN σ.Γ dst (inj r),upd σ.H id (Aa ho'),σ.n⟩,con)else Aj
       |none=>Aj
      |none=>Aj
      else Aj
    |none=>Aj
   | none=>match hd0 (oev σ.Γ x)with
    | some d=>match cK σ.H (rest.map (oev σ.Γ))with
     | some ds=>match E.call f (d::ds)with
      |some r=>Aa (⟨bN σ.Γ dst (inj r),kill (bW σ.H (rest.map (oev σ.Γ))) σ.H,σ.n⟩,bW σ.H (rest.map (oev σ.Γ))++con)
      |none=>Aj
     |none=>Aj
    |none=>Aj
  |[]=>Aj
 else match args.toList.map (oev σ.Γ)with
  | [.kf g id]=>match σ.H id with
   |some (.map .i64 es)=>if es.length<=1099511627776/\(es.map (·.1)).all inr=Ak/\E.sorted f g=Ak then Aa (⟨bN σ.Γ dst (.d (.sl ((aNo (es.map (·.1))).map λn=>[.i .i64 n]))),σ.H,σ.n⟩,con)else Aj
   |_=>Aj
  | avs=>match cK σ.H avs with
   | some ds=>match E.call f ds with
    |some r=>Aa (⟨bN σ.Γ dst (inj r),kill (bM σ.H avs r) σ.H,σ.n⟩,bM σ.H avs r++con)
    |none=>Aj
   |none=>Aj
def OE1(P:As)(E:Kn)(o:Bf)(σ:St)(con:Ad Ae):Aq (St×Ad Ae) :=
 match o.op with
 | .load t x=>match mI P σ.H t (oev σ.Γ x)with
  |some v=>Aa (⟨bN σ.Γ o.dst v,σ.H,σ.n⟩,con)
  |none=>Aj
 | .lookup t m x ok=>match aGq P σ.H t (oev σ.Γ m) (oev σ.Γ x) ok with
  |some v=>Aa (⟨bN σ.Γ o.dst v,σ.H,σ.n⟩,con)
  |none=>Aj
 | .store t ad x=>match lF P σ.H t (oev σ.Γ ad) (oev σ.Γ x)with
  |some (id,ho)=>Aa (⟨bN σ.Γ o.dst .un,upd σ.H id (Aa ho),σ.n⟩,con)
  |none=>Aj
 | .mapUpdate t m x v=>match rG P σ.H t (oev σ.Γ m) (oev σ.Γ x) (Aa (oev σ.Γ v))with
  |some (id,ho)=>Aa (⟨bN σ.Γ o.dst .any,upd σ.H id (Aa ho),σ.n⟩,con)
  |none=>Aj
 | .insert t m x v=>match rG P σ.H t (oev σ.Γ m) (oev σ.Γ x) (Aa (oev σ.Γ v))with
  |some (id,ho)=>Aa (⟨bN σ.Γ o.dst .any,upd σ.H id (Aa ho),σ.n⟩,con)
  |none=>Aj
 |.call { callee:=.value (.func f),args:=args,argTypes:=_ }=>OEC P E f args o.dst σ con
 | .call { callee:=.value (.tmp t),args:=args,argTypes:=_ }=>match hfv P E (hvl (σ.Γ t) (args.toList.map (oev σ.Γ)))with
  |some p=>HE E p.1 p.2 o.dst σ con
  |none=>match dG (σ.Γ t)with
  | some (f,cs)=>match cK σ.H (args.toList.map (oev σ.Γ)++cs)with
   | some ds=>match E.call f ds with
    |some r=>Aa (⟨bN σ.Γ o.dst (inj r),kill (bM σ.H (args.toList.map (oev σ.Γ)++cs) r) σ.H,σ.n⟩,bM σ.H (args.toList.map (oev σ.Γ)++cs) r++con)
    |none=>Aj
   |none=>Aj
  | none=>match σ.Γ t with
   | .d (.fm f d)=>match cK σ.H (.d d::args.toList.map (oev σ.Γ))with
    | some ds=>match E.call f ds with
     |some r=>Aa (⟨bN σ.Γ o.dst (inj r),kill (bM σ.H (.d d::args.toList.map (oev σ.Γ)) r) σ.H,σ.n⟩,bM σ.H (.d d::args.toList.map (oev σ.Γ)) r++con)
     |none=>Aj
    |none=>Aj
   |_=>Aj
 | .call { callee:=.invoke (.tmp t) name,args:=args,argTypes:=_ }=>match σ.Γ t with
  | .d (.iff ty d)=>match aNe P ty name with
   | some f=>match cK σ.H (.d d::args.toList.map (oev σ.Γ))with
    | some ds=>match E.call f ds with
     |some r=>Aa (⟨bN σ.Γ o.dst (inj r),kill (bM σ.H (.d d::args.toList.map (oev σ.Γ)) r) σ.H,σ.n⟩,bM σ.H (.d d::args.toList.map (oev σ.Γ)) r++con)
     |none=>Aj
    |none=>Aj
   |none=>Aj
  |_=>Aj
 | .call { callee:=.builtin .append,args:=args,argTypes:=ts }=>match args.toList,ts.toList with
  | [s,x],[t,t']=>if t=t' then match aFi P σ.H t (oev σ.Γ s) (oev σ.Γ x) σ.n with
   |some (av,nb,cn)=>Aa (⟨bN σ.Γ o.dst av,fE (kill cn σ.H) σ.n nb,cnt nb σ.n⟩,cn++con)
   |none=>Aj
   else Aj
  |_,_=>Aj
 | .call { callee:=.builtin .delete,args:=args,argTypes:=ts }=>match args.toList,ts.toList with
  | [m,x],[t,_]=>match rG P σ.H t (oev σ.Γ m) (oev σ.Γ x) Aj with
   |some (id,ho)=>Aa (⟨bN σ.Γ o.dst .any,upd σ.H id (Aa ho),σ.n⟩,con)
   |none=>Aj
  |_,_=>Aj
 | .call { callee:=.builtin .copy,args:=args,argTypes:=ts }=>match args.toList,ts.toList with
  | [m,x],[t,_]=>match aTe P σ.H t (oev σ.Γ m) (oev σ.Γ x)with
   |some (id,ho,n)=>Aa (⟨bN σ.Γ o.dst (.d (.i .i64 n)),upd σ.H id (Aa ho),σ.n⟩,con)
   |none=>Aj
  |_,_=>Aj
 | .call { callee:=.builtin .len,args:=args,argTypes:=ts }=>if aSd P ts then Aj else if kind P (.call { callee:=.builtin .len,args:=args,argTypes:=ts })=0 then match nev P (.call { callee:=.builtin .len,args:=args,argTypes:=ts }) σ.Γ σ.n with
  |some (av,nb)=>Aa (⟨bN σ.Γ o.dst av,fE σ.H σ.n nb,cnt nb σ.n⟩,con)
  |none=>Aj
  else Aj
 | op=>if kind P op=0 then match nev P op σ.Γ σ.n with
  |some (av,nb)=>Aa (⟨bN σ.Γ o.dst av,fE σ.H σ.n nb,cnt nb σ.n⟩,con)
  |none=>Aj
  else Aj
def OE(P:As)(E:Kn)(ops:Aw Bf):Ad Bf->St->Ad Ae->Aq (St×Ad Ae)
 |[],σ,con=>Aa (σ,con)
 | o::l,σ,con=>match cJ ops o σ.Γ with
  | some Ak=>match OE1 P E o σ con with
   |some p=>OE P E ops l p.1 p.2
   |none=>Aj
  |some Az=>OE P E ops l ⟨bN σ.Γ o.dst .un,σ.H,σ.n⟩ con
  |none=>Aj
section
variable {P:As} [M:Mch P] {E:Kn} (hE:oB P E)
include hE
def bCc{f:AU}{args:Aw AN}{dst:Aq Tmp}{σ:St}{con:Ad Ae}{p:St×Ad Ae}{k:St->Ad Ae->Prop}(h:OEC P E f args dst σ con=Aa p)(hk:k p.1 p.2):OC P f args dst σ con k:=by
 unfold OEC at h;split at h
 .rename_i hm;simp only[A5]at hm;exact .inr (.inl ⟨hm.2,aHs hE h hk⟩)
 split at h
 .rename_i hm;simp only[A5]at hm;exact .inr (.inr ⟨hm.2,bMr hE h hk⟩)
 refine .inl ?_;unfold OC0;split at h
 .rename_i hm;rw[AB hm];split at h
  case h_2=>cases h
  rename_i x rest hargs;rw[hargs];simp only;split at h
  case h_2 =>
   rename_i hx
   rw[hx]
   simp only
   split at h
   case h_2=>cases h
   rename_i d hd
   split at h
   case h_2=>cases h
   rename_i ds hds
   split at h
   case h_2=>cases h
   rename_i r hr
   injection h with h;subst h
   exact .inl ⟨bSv hd,ds,r,hds,uW hd (hE.call _ _ _ hr),hk⟩
  rename_i id hh hx;rw[hx];simp only;split at h
  case h_2=>cases h
  rename_i ho hH;rw[hH];simp only;split at h
  .rename_i g hg;injection h with h;subst h
   exact .inl ⟨g,rfl,rfl,hE.keys _ _ hg,hk⟩
  .split at h
   case isFalse=>cases h
   rename_i hc;split at h
   case h_2=>cases h
   rename_i ds hds;split at h
   case h_2=>cases h
   rename_i ho' r hr;split at h
   case isFalse=>cases h
   rename_i hc2;injection h with h;subst h
   exact .inr (.inl ⟨hc.1,hc.2,ds,ho',r,hds,hE.ocall _ _ _ _ _ _ hr,hc2.1,hc2.2,hk⟩)
 .rename_i hm;rw[Ap hm];refine .inr ?_;split at h
  .rename_i g id hargs;rw[hargs];simp only;split at h
   .rename_i es hH;split at h
    .rename_i hc;injection h with h;subst h
     rw[hH];exact⟨hc.1,hc.2.1,hE.sorted _ _ hc.2.2,hk⟩
    .cases h
   .cases h
  .rename_i hne;split at h
   case h_2=>cases h
   rename_i ds hds;split at h
   case h_2=>cases h
   rename_i r hr;injection h with h;subst h
   split
   .rename_i g id hargs;exact(hne _ _ hargs).elim
   .exact⟨ds,r,hds,hE.call _ _ _ hr,hk⟩
def bCd{o:Bf}{σ:St}{con:Ad Ae}{p:St×Ad Ae}{k:St->Ad Ae->Prop}(h:OE1 P E o σ con=Aa p)(hk:k p.1 p.2):O1 P o σ con k:=by
 unfold OE1 at h;unfold O1;split at h
 .rename_i t x hop;rw[hop];split at h
  .rename_i v hv;simp only[hv];injection h with h;subst h;exact hk
  .cases h
 .rename_i t m x ok hop;rw[hop];split at h
  .rename_i v hv;simp only[hv];injection h with h;subst h;exact hk
  .cases h
 .rename_i t ad x hop;rw[hop];split at h
  .rename_i id ho hv;simp only[hv];injection h with h;subst h;exact hk
  .cases h
 .rename_i t m x v hop;rw[hop];split at h
  .rename_i id ho hv;simp only[hv];injection h with h;subst h;exact hk
  .cases h
 .rename_i t m x v hop;rw[hop];split at h
  .rename_i id ho hv;simp only[hv];injection h with h;subst h;exact hk
  .cases h
 .rename_i f args ts hop;rw[hop];exact bCc hE h hk
 .rename_i t args ts hop;rw[hop];split at h
  .rename_i p hp;exact .inr ⟨p.1,p.2,(aNu hp).1,(aNu hp).2,aHs hE h hk⟩
  refine .inl ?_;split at h
  .rename_i f cs hcal;simp only[hcal];split at h
   .rename_i ds hds;split at h
    .rename_i r hr;injection h with h;subst h
     exact⟨ds,r,hds,hE.call _ _ _ hr,hk⟩
    .cases h
   .cases h
  .rename_i hcal;simp only[hcal];split at h
   .rename_i f d hfm;simp only[hfm];split at h
    .rename_i ds hds;split at h
     .rename_i r hr;injection h with h;subst h
      exact⟨ds,r,hds,hE.call _ _ _ hr,hk⟩
     .cases h
    .cases h
   .cases h
 .rename_i t name args ts hop;rw[hop];split at h
  .rename_i ty d hcal;simp only[hcal];split at h
   .rename_i f hme;simp only[hme];split at h
    .rename_i ds hds;split at h
     .rename_i r hr;injection h with h;subst h
      exact⟨ds,r,hds,hE.call _ _ _ hr,hk⟩
     .cases h
    .cases h
   .cases h
  .cases h
 .rename_i args ts hop;rw[hop];split at h
  .rename_i s x t t' hargs hts;simp only[hargs,hts];split at h
   .rename_i htt;refine⟨htt,?_⟩;split at h
    .rename_i av nb cn hv;simp only[hv];injection h with h;subst h;exact hk
    .cases h
   .cases h
  .cases h
 .rename_i args ts hop;rw[hop];split at h
  .rename_i m x t kt hargs hts;simp only[hargs,hts];split at h
   .rename_i id ho hv;simp only[hv];injection h with h;subst h;exact hk
   .cases h
  .cases h
 .rename_i args ts hop;rw[hop];split at h
  .rename_i m x t kt hargs hts;simp only[hargs,hts];split at h
   .rename_i id ho n hv;simp only[hv];injection h with h;subst h;exact hk
   .cases h
  .cases h
 .rename_i args ts hop;rw[hop];split at h
  .cases h
  .rename_i hlm;simp only;rw[Ap hlm];split at h
   .rename_i hkd;split at h
    .rename_i av nb hv;injection h with h;subst h
     refine⟨hkd,?_⟩;simp only[hv];exact hk
    .cases h
   .cases h
 .rename_i op h1 h2 h3 h4 h9 h5 h8 h10 h6 h7 h12 h11;split at h
  .rename_i hkd;split at h
   .rename_i av nb hv;injection h with h;subst h
    split
    .rename_i hop;exact(h1 _ _ hop).elim
    .rename_i hop;exact(h2 _ _ _ _ hop).elim
    .rename_i hop;rw[hop]at hkd;cases hkd
    .rename_i hop;rw[hop]at hv;cases hv
    .rename_i hop;exact(h3 _ _ _ hop).elim
    .rename_i hop;exact(h4 _ _ _ _ hop).elim
    .rename_i hop;exact(h9 _ _ _ _ hop).elim
    .rename_i hop;exact(h5 _ _ _ hop).elim
    .rename_i hop;exact(h8 _ _ _ hop).elim
    .rename_i hop;exact(h10 _ _ _ _ hop).elim
    .rename_i hop;exact(h6 _ _ hop).elim
    .rename_i hop;exact(h7 _ _ hop).elim
    .rename_i hop;exact(h12 _ _ hop).elim
    .rename_i hop;exact(h11 _ _ hop).elim
    .refine⟨hkd,?_⟩;simp only[hv];exact hk
   .cases h
  .cases h
def aEl{ops:Aw Bf}{k:St->Ad Ae->Prop}:∀(l:Ad Bf) (σ:St) (con:Ad Ae) (p:St×Ad Ae),OE P E ops l σ con=Aa p->k p.1 p.2->OW P ops l σ con k
 |[],σ,con,p,h,hk=>by unfold OE at h;injection h with h;subst h;exact hk
 | o::l,σ,con,p,h,hk=>by
  unfold OE at h;unfold OW;split at h
  .rename_i hw;simp only[hw];split at h
   .rename_i q hq;exact bCd hE hq (aEl l _ _ _ h hk)
   .cases h
  .rename_i hw;simp only[hw];exact aEl l _ _ _ h hk
  .cases h
end
def aOg{α:Type}(f:α->α->Bw):Ad α->Ad α->Bw
 |[],[]=>Ak
 |x::l,y::m=>f x y&&aOg f l m
 |_,_=>Az
def tB{α:Type}{f:α->α->Bw}(hf:∀x y,f x y=Ak->x=y):∀(l m:Ad α),aOg f l m=Ak->l=m
 |[],[],_=>rfl
 | x::l,y::m,h=>by simp only[aOg,A5]at h;rw[hf x y h.1,tB hf l m h.2]
 |[],_::_,h=>by cases h
 |_::_,[],h=>by cases h
def aJv:Ae->D->D->Bw
 |0,_,_=>Az
 | n+1,x,y=>match x,y with
  |.b x,.b y=>x==y
  |.i k m,.i k' m'=>decide (k=k')&&decide (m=m')
  |.sl a,.sl b=>aOg (aOg (aJv n)) a b
  |.ag a,.ag b=>aOg (aJv n) a b
  |_,_=>Az
def aAr:∀(n:Ae) (x y:D),aJv n x y=Ak->x=y
 |0,_,_,h=>by cases h
 | n+1,x,y,h=>by
  cases x<;>cases y<;>first
   |cases h
   |(have h1:_=true:=h;simp only[aJv,C6]at h1;rw[h1])
   |(simp only[aJv,A5,Bz]at h;rw[h.1,h.2])
   |(simp only[aJv]at h;rw[tB (tB (aAr n)) _ _ h])
   |(simp only[aJv]at h;rw[tB (aAr n) _ _ h])
def bJr:Ae->AV->AV->Bw
 |0,_,_=>Az
 | n+1,x,y=>match x,y with
  |.d x,.d y=>aJv 8 x y
  |.own a b c d,.own a' b' c' d'=>decide (a=a')&&decide (b=b')&&decide (c=c')&&decide (d=d')
  |.ptr a b,.ptr a' b'=>decide (a=a')&&decide (b=b')
  |.nil,.nil=>Ak
  |_,_=>Az
def bTl:∀(n:Ae) (x y:AV),bJr n x y=Ak->x=y
 |0,_,_,h=>by cases h
 | n+1,x,y,h=>by
  cases x<;>cases y<;>first
   |rfl
   |(cases h;done)
   |(simp only[bJr]at h;rw[aAr _ _ _ h])
   |(simp only[bJr,A5,Bz]at h;rw[h.1.1.1,h.1.1.2,h.1.2,h.2])
   |(simp only[bJr,A5,Bz]at h;rw[h.1,h.2])
def bTk:Aq HO->Aq HO->Bw
 |some (.cells e a),Aa (.cells e' b)=>decide (e=e')&&aOg (bJr 3) a b
 |_,_=>Az
def bTj(x y:Aq HO)(h:bTk x y=Ak):x=y:=by
 unfold bTk at h;split at h
 .simp only[A5,Bz]at h;rw[h.1,tB (bTl 3) _ _ h.2]
 .cases h
def HEd(E:Kn)(f:AU)(avs:Ad AV)(dst:Aq Tmp)(σ:St)(S:Ad Ae):Aq (St×Tch) :=
 if okS σ.H avs S then match E.hcall f avs S σ.H σ.n with
  |some (r,H',n')=>if decide (σ.n<=n')&&S.all (λid=>(H' id).isSome)then Aa (⟨bN σ.Γ dst r,hcH σ.H σ.n S H' n',n'⟩,(S,S.filter λid=>!bTk (H' id) (σ.H id)))else Aj
  |none=>Aj
 else Aj
def aHt{P:As}[M:Mch P]{E:Kn}(hE:oB P E){f:AU}{avs:Ad AV}{dst:Aq Tmp}{σ:St}{S:Ad Ae}{p:St×Tch}{k:St->Tch->Prop}(h:HEd E f avs dst σ S=Aa p)(hk:k p.1 p.2):HDo P f avs dst σ k:=by
 unfold HEd at h;split at h
 case isFalse=>cases h
 rename_i hok;split at h
 case h_2=>cases h
 rename_i r H' n' hc;split at h
 case isFalse=>cases h
 rename_i hc2;injection h with h;subst h
 simp only[A5,A1,Bz]at hc2;have h0:HEs E f avs dst σ [] S=Aa (⟨bN σ.Γ dst r,hcH σ.H σ.n S H' n',n'⟩,S.filter (λi=>(H' i).isNone)++[]):=by unfold HEs;rw[AB hok,hc];simp only;rw[AB hc2.1]
 obtain⟨h1,h2,h3⟩:=aMp hok;refine⟨S,r,H',n',_,λid hid=>⟨?_,hc2.2 id hid⟩,λid hid ob hob=>?_,h2,h3,hc2.1,λid h=>(ED.1 h).1,λid h4 h5=>?_,hE.hcall _ _ _ _ _ _ _ _ hc,hk⟩
 .obtain⟨ob,h4,_⟩:=h1 id hid;rw[h4];rfl
 .obtain⟨ob',h4,h5⟩:=h1 id hid;rw[hob]at h4;injection h4 with h4;subst h4;exact h5
 .cases he:bTk (H' id) (σ.H id)with
  |true=>exact bTj _ _ he
  |false=>exact(h5 (ED.2 ⟨h4,by rw[he];rfl⟩)).elim
def cAu(P:As)(E:Kn)(o:Bf)(σ:St):Aq (St×Tch) :=
 match o.op with
 | .load t x=>match mI P σ.H t (oev σ.Γ x)with
  |some v=>Aa (⟨bN σ.Γ o.dst v,σ.H,σ.n⟩,(xZ 4 (oev σ.Γ x),[]))
  |none=>Aj
 | .store t ad x=>match lF P σ.H t (oev σ.Γ ad) (oev σ.Γ x)with
  |some (id,ho)=>Aa (⟨bN σ.Γ o.dst .un,upd σ.H id (Aa ho),σ.n⟩,([id],[id]))
  |none=>Aj
 | .call { callee:=.value (.func f),args:=args,argTypes:=_ }=>if E.hf f then HEd E f (args.toList.map (oev σ.Γ)) o.dst σ (aBz σ.H 10000 ((args.toList.map (oev σ.Γ)).flatMap (xZ 4)) [])else match cK σ.H (args.toList.map (oev σ.Γ))with
  | some ds=>match E.call f ds with
   |some r=>if(bM σ.H (args.toList.map (oev σ.Γ)) r).isEmpty then Aa (⟨bN σ.Γ o.dst (inj r),σ.H,σ.n⟩,(bW σ.H (args.toList.map (oev σ.Γ)),[]))else Aj
   |none=>Aj
  |none=>Aj
 | .call { callee:=.value (.tmp t),args:=args,argTypes:=_ }=>match hvl (σ.Γ t) (args.toList.map (oev σ.Γ))with
  |some p=>HEd E p.1 p.2 o.dst σ (aBz σ.H 10000 (p.2.flatMap (xZ 4)) [])
  |none=>Aj
 | op=>if kind P op=0 then match nev P op σ.Γ σ.n with
  |some (av,nb)=>Aa (⟨bN σ.Γ o.dst av,fE σ.H σ.n nb,cnt nb σ.n⟩,([],[]))
  |none=>Aj
  else Aj
def OED(P:As)(E:Kn)(ops:Aw Bf):Ad Bf->St->Aq (St×Ad Tch)
 |[],σ=>Aa (σ,[])
 | o::l,σ=>match cJ ops o σ.Γ with
  | some Ak=>match cAu P E o σ with
   | some p=>match OED P E ops l p.1 with
    |some q=>Aa (q.1,p.2::q.2)
    |none=>Aj
   |none=>Aj
  | some Az=>match OED P E ops l ⟨bN σ.Γ o.dst .un,σ.H,σ.n⟩with
   |some q=>Aa (q.1,([],[])::q.2)
   |none=>Aj
  |none=>Aj
def aUc{P:As}[M:Mch P]{E:Kn}(hE:oB P E){o:Bf}{σ:St}{p:St×Tch}{k:St->Tch->Prop}(h:cAu P E o σ=Aa p)(hk:k p.1 p.2):OD1 P o σ k:=by
 unfold cAu at h;unfold OD1;split at h
 .rename_i t x hop;try rw[hop]
  split at h
  .rename_i v hv;try simp only[hv]
   injection h with h;subst h;exact hk
  .cases h
 .rename_i t ad x hop;try rw[hop]
  split at h
  .rename_i id ho hv;try simp only[hv]
   injection h with h;subst h;exact hk
  .cases h
 .rename_i f args ts hop;try rw[hop]
  split at h
  .exact .inr (aHt hE h hk)
  .split at h
   case h_2=>cases h
   rename_i ds hds;split at h
   case h_2=>cases h
   rename_i r hr;split at h
   case isFalse=>cases h
   rename_i hkl;injection h with h;subst h
   exact .inl ⟨ds,r,hds,hE.call _ _ _ hr,List.isEmpty_iff.1 hkl,hk⟩
 .rename_i t args ts hop;try rw[hop]
  split at h
  .rename_i q hq;exact⟨q.1,q.2,hq,aHt hE h hk⟩
  .cases h
 .rename_i op h1 h2 h3 h4;split at h
  case isFalse=>cases h
  rename_i hkd;split at h
  case h_2=>cases h
  rename_i av nb hv;injection h with h;subst h
  try split
  all_goals first
   |(rename_i hop;exact(h1 _ _ hop).elim)
   |(rename_i hop;exact(h2 _ _ _ hop).elim)
   |(rename_i hop;exact(h3 _ _ _ hop).elim)
   |(rename_i hop;exact(h4 _ _ _ hop).elim)
   |skip
  all_goals
   refine⟨hkd,?_⟩
   try simp only[hv]
   exact hk
def yR{P:As}[M:Mch P]{E:Kn}(hE:oB P E){ops:Aw Bf}:∀(l:Ad Bf) (σ:St) (p:St×Ad Tch) (k:St->Ad Tch->Prop),OED P E ops l σ=Aa p->k p.1 p.2->OWD P ops l σ k
 |[],σ,p,k,h,hk=>by unfold OED at h;injection h with h;subst h;exact hk
 | o::l,σ,p,k,h,hk=>by
  unfold OED at h;unfold OWD;split at h
  .rename_i hw;try simp only[hw]
   split at h
   case h_2=>cases h
   rename_i q hq;split at h
   case h_2=>cases h
   rename_i q2 hq2;injection h with h;subst h
   exact aUc hE hq (yR hE l _ q2 _ hq2 hk)
  .rename_i hw;try simp only[hw]
   split at h
   case h_2=>cases h
   rename_i q2 hq2;injection h with h;subst h
   exact yR hE l _ q2 _ hq2 hk
  .cases h
def fzp(H:Hp)(S:Ad Ae)(x:AV):AV :=
 match x with
 | .ptr id _=>if id∈S then(match frz H 8 x with
   |some (.pt cs)=>if(vis H 8 x).all (λa=>decide (a∈S))then .fp cs else .any
   |_=>.any)else if(H id).isSome then x else .any
 |.d y=>.d y
 |.fp cs=>.fp cs
 |_=>.any
def fz(H:Hp)(S:Ad Ae)(x:AV):AV :=
 match x with
 | .own id _ _ _=>if id∈S then(match frz H 8 x with
   |some d=>if(vis H 8 x).all (λa=>decide (a∈S))then .d d else .any
   |none=>.any)else if(H id).isSome then x else .any
 | .ptr id _=>if id∈S then(match frz H 8 x with
   |some (.pt cs)=>if(vis H 8 x).all (λa=>decide (a∈S))then .fp cs else .any
   |_=>.any)else if(H id).isSome then x else .any
 |.fn f cs=>.fn f (cs.map (fzp H S))
 |.mp id=>if id∈S then .any else if(H id).isSome then x else .any
 |.kf _ id=>if id∈S then .any else if(H id).isSome then x else .any
 |.bm _ id _=>if id∈S then .any else if(H id).isSome then x else .any
 |.ag _=>.any
 |.tp _=>.any
 |x=>x
def fzs(H:Hp)(S:Ad Ae)(x:AV):AV :=
 match x with
 |.ag cs=>.ag (cs.map (fz H S))
 |x=>fz H S x
def fzm(H:Hp)(S:Ad Ae)(x:AV):AV :=
 match frz H 8 x with
 |some d=>if(vis H 8 x).all (λa=>decide (a∈S))then .d d else .any
 |none=>.any
def fzO(H:Hp)(S:Ad Ae):HO->HO
 |.cells e cs=>.cells e (cs.map (fz H S))
 |.map k es=>.map k (es.map λp=>(p.1,fzm H S p.2))
 |.iter k l es=>.iter k l es
def yC(S:Ad Ae)(σ:St):St:=⟨λt=>fzs σ.H S (σ.Γ t),λid=>if id∈S then Aj else(σ.H id).map (fzO σ.H S),σ.n⟩
def iI{S:Ad Ae}{σ:St}{id:Ae}:((yC S σ).H id).isSome=Ak↔id ∉ S/\(σ.H id).isSome=true:=by simp only[yC];by_cases h:id∈S<;>simp[h]
def iL{S:Ad Ae}{σ:St}(x:AV):oA σ.H (yC S σ).H (λi=>i) x (fz σ.H S x):=by
 have key:∀(x:AV) (d:D),frz σ.H 8 x=Aa d->(vis σ.H 8 x).all (λa=>decide (a∈S))=Ak->oA σ.H (yC S σ).H (λi=>i) x (.d d):=by
  intro x d h1 h2;have:frz σ.H 8 x=Aa d/\∀a∈vis σ.H 8 x,∀id,((yC S σ).H id).isSome=Ak->id≠a:=by refine⟨h1,λa ha id hid e=>?_⟩;have h3:=A1.1 h2 a ha;simp only[Bz]at h3;exact(iI.1 hid).1 (e ▸ h3)
  cases x<;>exact this
 have keyP:∀(x:AV) (d:D),frz σ.H 8 x=Aa d->(vis σ.H 8 x).all (λa=>decide (a∈S))=Ak->frz σ.H 8 x=Aa d/\∀a∈vis σ.H 8 x,∀id,((yC S σ).H id).isSome=Ak->id≠a:=by intro x d h1 h2;refine⟨h1,λa ha id hid e=>?_⟩;have h3:=A1.1 h2 a ha;simp only[Bz]at h3;exact(iI.1 hid).1 (e ▸ h3)
 have keyQ:∀(x:AV),bVb σ.H (yC S σ).H (λi=>i) x (fzp σ.H S x):=by
  intro x;cases x with
  | ptr id off =>
   simp only[fzp];split
   .split
    .rename_i cs hd;split
     .exact keyP (.ptr id off) _ hd (by assumption)
     .trivial
    .trivial
   .split
    .exact⟨rfl,rfl,iI.2 ⟨by assumption,by assumption⟩⟩
    .trivial
  |d y=>exact keyP (.d y) y rfl rfl
  |fp cs=>exact keyP (.fp cs) _ rfl rfl
  |_=>trivial
 cases x with
 | own id off len sz =>
  simp only[fz];split
  .split
   .rename_i d hd;split
    .exact key _ d hd (by assumption)
    .trivial
   .trivial
  .split
   .exact⟨rfl,rfl,rfl,rfl,iI.2 ⟨by assumption,by assumption⟩⟩
   .trivial
 | ptr id off =>
  simp only[fz];split
  .split
   .rename_i cs hd;split
    .exact keyP (.ptr id off) _ hd (by assumption)
    .trivial
   .trivial
  .split
   .exact⟨rfl,rfl,iI.2 ⟨by assumption,by assumption⟩⟩
   .trivial
 | fn f cs =>
  refine⟨rfl,by simp,λk c d hc hd=>?_⟩;rw[Ao,hc]at hd;injection hd with hd;subst hd
  exact keyQ c
 | mp id =>
  simp only[fz];split
  .trivial
  .split
   .exact⟨rfl,iI.2 ⟨by assumption,by assumption⟩⟩
   .trivial
 | kf f id =>
  simp only[fz];split
  .trivial
  .split
   .exact⟨rfl,rfl,iI.2 ⟨by assumption,by assumption⟩⟩
   .trivial
 | bm f id off =>
  simp only[fz];split
  .trivial
  .split
   .exact⟨rfl,rfl,rfl,iI.2 ⟨by assumption,by assumption⟩⟩
   .trivial
 |ag cs=>trivial
 |tp cs=>trivial
 |d y=>exact key _ y rfl rfl
 |nil=>trivial
 |fp cs=>exact keyP (.fp cs) _ rfl rfl
 |fd els=>rfl
 |un=>trivial
 |ub=>trivial
 |any=>trivial
def bTb[Pn:nA](S:Ad Ae)(σ:St)(htop:∀id,σ.n<=id->σ.H id=Aj):Wk σ (yC S σ) (λi=>i):=by
 refine⟨λid h=>?_,λt=>?_,λid o' h=>?_,λ_ _ _ _ h=>h,λ_ _ _=>rfl,λ_ _ h=>h⟩
 .simp only[yC]at h ⊢;rw[htop id h];simp
 .show Sub σ.H (yC S σ).H (λi=>i) (σ.Γ t) (fzs σ.H S (σ.Γ t));generalize σ.Γ t=x;cases x with
  | ag cs =>
   refine⟨by simp,λk c d hc hd=>?_⟩;rw[Ao,hc]at hd;injection hd with hd;subst hd
   exact iL c
  |d y=>exact iL (S:=S) (σ:=σ) (.d y)
  |nil=>exact iL (S:=S) (σ:=σ) .nil
  |un=>exact iL (S:=S) (σ:=σ) .un
  |ub=>exact iL (S:=S) (σ:=σ) .ub
  |any=>exact iL (S:=S) (σ:=σ) .any
  |fp cs=>exact iL (S:=S) (σ:=σ) (.fp cs)
  |fn f cs=>exact iL (S:=S) (σ:=σ) (.fn f cs)
  |fd els=>exact iL (S:=S) (σ:=σ) (.fd els)
  |tp cs=>exact iL (S:=S) (σ:=σ) (.tp cs)
  | own id off len sz =>
   have h:=iL (S:=S) (σ:=σ) (.own id off len sz);simp only[fzs];generalize fz σ.H S (.own id off len sz)=y at h;cases y<;>exact h
  | ptr id off =>
   have h:=iL (S:=S) (σ:=σ) (.ptr id off);simp only[fzs];generalize fz σ.H S (.ptr id off)=y at h;cases y<;>exact h
  | mp id =>
   have h:=iL (S:=S) (σ:=σ) (.mp id);simp only[fzs];generalize fz σ.H S (.mp id)=y at h;cases y<;>exact h
  | kf f id =>
   have h:=iL (S:=S) (σ:=σ) (.kf f id);simp only[fzs];generalize fz σ.H S (.kf f id)=y at h;cases y<;>exact h
  | bm f id off =>
   have h:=iL (S:=S) (σ:=σ) (.bm f id off);simp only[fzs];generalize fz σ.H S (.bm f id off)=y at h;cases y<;>exact h
 .simp only[yC]at h;split at h
  .cases h
  .obtain⟨o,ho,rfl⟩:=Ai.1 h;refine⟨o,ho,?_⟩;cases o with
   |iter k l es=>exact⟨rfl,rfl,rfl⟩
   | cells e cs =>
    refine⟨rfl,by simp,λk c d hc hd=>?_⟩;rw[Ao,hc]at hd;injection hd with hd;subst hd
    exact iL c
   | map k es =>
    refine⟨rfl,by simp,λj x y hx hy=>?_⟩;rw[Ao,hx]at hy;injection hy with hy;subst hy
    refine⟨rfl,?_⟩;simp only[fzm];split
    .rename_i d hd;split
     .rename_i hv;have:frz σ.H 8 x.2=Aa d/\∀a∈vis σ.H 8 x.2,∀id,((yC S σ).H id).isSome=Ak->id≠a:=by refine⟨hd,λa ha id hid e=>?_⟩;have h3:=A1.1 hv a ha;simp only[Bz]at h3;exact(iI.1 hid).1 (e ▸ h3)
      generalize x.2=z at this;cases z<;>exact .inl this
     .generalize x.2=z;cases z<;>exact .inl trivial
    .generalize x.2=z;cases z<;>exact .inl trivial
def iter(body:St->Aq (Cf×St)):Ae->St->Aq (Cf×St)
 |0,_=>Aj
 | n+1,σ=>match body σ with
  |some (.normal,σ')=>iter body n σ'
  |r=>r
def jmp(step:Ae->St->Aq (Cf×St)):Ae->Aq (Cf×St)->Aq (Cf×St)
 |0,Aa (.goto _,_)=>Aj
 |n+1,Aa (.goto l,σ)=>jmp step n (step l σ)
 |_,r=>r
def exM(P:As)(E:Kn)(fuel:Ae):B1->Aq Ae->St->Aq (Cf×St)
 |.skip,Aj,σ=>Aa (.normal,σ)
 | .region _ ops draw,Aj,σ=>if !draw||aWc P ops then match OE P E ops ops.toList σ []with
  | some (σ',con)=>match con.filter (λi=>decide (i<σ.n))with
   |[]=>Aa (.normal,fin σ' con)
   | i::S=>match OE P E ops ops.toList (yC (i::S) σ) []with
    |some (σ2,con2)=>Aa (.normal,fin σ2 con2)
    |none=>Aa (.normal,fin σ' con)
  |none=>Aj
  else match OED P E ops ops.toList σ with
  |some (σ',ts)=>if mJ ops (λi=>ts.getD i ([],[])) ops.size 0 (Bd ops.size Az)then Aa (.normal,σ')else Aj
  |none=>Aj
 | .seq x y,Aj,σ=>match exM P E fuel x Aj σ with
  |some (.normal,σ')=>exM P E fuel y Aj σ'
  |r=>r
 | .seq x y,Aa l,σ=>match findLabel x l with
  | some _=>match exM P E fuel x (Aa l) σ with
   |some (.normal,σ')=>exM P E fuel y Aj σ'
   |r=>r
  |none=>exM P E fuel y (Aa l) σ
 | .cond c x y,Aj,σ=>match oev σ.Γ c with
  |.d (.b Ak)=>exM P E fuel x Aj σ
  |.d (.b Az)=>exM P E fuel y Aj σ
  |_=>Aj
 | .block id c,Aj,σ=>match exM P E fuel c Aj σ with
  |some (.exit id',σ')=>if id'=id then Aa (.normal,σ')else Aa (.exit id',σ')
  |r=>r
 |.loop c,Aj,σ=>iter (exM P E fuel c Aj) fuel σ
 |.exit id,Aj,σ=>Aa (.exit id,σ)
 |.ret,Aj,σ=>Aa (.ret,σ)
 |.label _,Aj,σ=>Aa (.normal,σ)
 |.label l',Aa l,σ=>if l'=l then Aa (.normal,σ)else Aj
 |.goto l,Aj,σ=>Aa (.goto l,σ)
 |.scope c,Aj,σ=>jmp (λl=>exM P E fuel c (Aa l)) fuel (exM P E fuel c Aj σ)
 |_,_,_=>Aj
def ex(P:As)(E:Kn)(fuel:Ae)(c:B1)(σ:St):Aq (Cf×St):=exM P E fuel c Aj σ
section
variable [Pn:nA] {P:As} [M:Mch P] {G:Ctx} {N:Ae} {ds:Ad Cl} {E:Kn}
def bAs{fuel:Ae}{l:Ae}:∀(c:B1) (σ:St) (r:Cf×St),exM P E fuel c (Aa l) σ=Aa r->∃rest,findLabel c l=Aa rest:=by
 intro c;induction c with
 | seq x y ihx ihy =>
  intro σ r h;simp only[exM]at h;simp only[findLabel];split at h
  .rename_i rest hx;rw[hx];exact⟨_,rfl⟩
  .rename_i hx;rw[hx];exact ihy σ r h
 | label l' =>
  intro σ r h;simp only[exM]at h;simp only[findLabel];split at h
  .rename_i e;subst e;exact⟨_,by simp;rfl⟩
  .cases h
 |_=>intro σ r h;simp[exM]at h
def cEo(P:As)[M:Mch P](E:Kn)(fuel:Ae)(G:Ctx)(N:Ae)(ds:Ad Cl)(rd:Bw)(z:Ae->Bw)(WW:B1->(Cf->Act->Ag->Prop)->Act->Ag->Prop)(c:B1)(m:Aq Ae)(c':B1):Prop :=
 ∀(σ:St) (a:Act) (w:Ag) (e:Cf) (σ':St),bX N c=Ak->fL z c=Ak->(rd=Ak->fD c=Ak)->exM P E fuel c m σ=Aa (e,σ')->SR G N ds σ a w ->
  WW c' (λe' a' w'=>e'=e/\SR G N ds σ' a' w') a w
def aNn{step:Ae->St->Aq (Cf×St)}:∀(n:Ae) (r:Aq (Cf×St)) (l:Ae) (σ:St),jmp step n r≠Aa (.goto l,σ)
 | 0,r,l,σ,h=>by
  unfold jmp at h;split at h
  .cases h
  .rename_i h0;cases h0
  .rename_i h1 h2;subst h;exact h1 _ _ rfl rfl
 | n+1,r,l,σ,h=>by
  unfold jmp at h;split at h
  .rename_i h0;cases h0
  .rename_i n' l' σ' h0;injection h0 with h0;subst h0
   exact aNn n _ _ _ h
  .rename_i h1 h2;subst h;exact h2 _ _ _ rfl rfl
def aSw{rd:Bw}{WW:B1->(Cf->Act->Ag->Prop)->Act->Ag->Prop}(hW:WpR P rd WW)(hE:oB P E)(hm:P.follows .mixedOrders=Ak){z:Ae->Bw}(hz:∀d v,G.Z d=Aa v->z d=Ak)(fuel:Ae) :
 ∀(c:B1),cEo P E fuel G N ds rd z WW c Aj c/\∀l rest,findLabel c l=Aa rest->cEo P E fuel G N ds rd z WW c (Aa l) rest:=by
 intro c
 induction c with
 |skip=>exact⟨λσ a w e σ' _ _ _ h hs=>by simp only[exM,AH,FK]at h;obtain⟨rfl,rfl⟩:=h;exact hW.skip ⟨rfl,hs⟩,λl rest hf=>by simp[findLabel]at hf⟩
 | region id ops draw =>
  refine⟨λσ a w e σ' hd hnz hnd h hs=>?_,λl rest hf=>by simp[findLabel]at hf⟩
  simp only[exM]at h
  split at h
  rotate_left
  .rename_i hlx
   have hdr:draw=true:=by cases draw<;>simp_all
   subst hdr
   split at h
   case h_2=>cases h
   rename_i σ1 ts hp
   split at h
   case isFalse=>cases h
   rename_i hB
   injection h with h;injection h with h1 h2;subst h1;subst h2
   refine aEx hW (Q:=λs=>s=σ1) hm (pD hz hd hnz) hnd hs (yR hE _ _ _ _ hp ⟨rfl,hB⟩) ?_
   rintro σ' a' w' rfl hs'
   exact⟨rfl,hs'⟩
  rename_i hlx
  have one:∀(σ0 σ1:St) (con:Ad Ae),OE P E ops ops.toList σ0 []=Aa (σ1,con)->SR G N ds σ0 a w->WW (.region id ops draw) (λe' a' w'=>e'=.normal/\SR G N ds (fin σ1 con) a' w') a w:=by intro σ0 σ1 con hp hs0;refine vC hW (Q:=λs=>s=fin σ1 con) hm (pD hz hd hnz) hnd (λhdr=>by simpa[hdr]using hlx) hs0 (aEl hE _ _ _ _ hp rfl) ?_;rintro σ' a' w' rfl hs';exact⟨rfl,hs'⟩
  split at h
  .rename_i σ1 con hp
   split at h
   .injection h with h;injection h with h1 h2;subst h1;subst h2
    exact one σ σ1 con hp hs
   .rename_i i S hS
    split at h
    .rename_i σ2 con2 hp2
     injection h with h;injection h with h1 h2;subst h1;subst h2
     exact one _ σ2 con2 hp2 (xB (bTb (i::S) σ hs.1) hs)
    .injection h with h;injection h with h1 h2;subst h1;subst h2
     exact one σ σ1 con hp hs
  .cases h
 | seq x y ihx ihy =>
  refine⟨λσ a w e σ' hd hnz hnd h hs=>?_,λl rest hf σ a w e σ' hd hnz hnd h hs=>?_⟩
  .simp only[bX,fL,fD,A5]at hd hnz hnd
   simp only[exM]at h
   split at h
   .rename_i σ1 h1
    refine hW.seq (hW.mono (ihx.1 σ a w _ _ hd.1 hnz.1 (λe=>(hnd e).1) h1 hs) ?_)
    rintro e' a' w' ⟨rfl,hs'⟩
    exact ihy.1 _ a' w' _ _ hd.2 hnz.2 (λe=>(hnd e).2) h hs'
   .rename_i hne
    refine hW.seq (hW.mono (ihx.1 σ a w _ _ hd.1 hnz.1 (λe=>(hnd e).1) h hs) ?_)
    rintro e' a' w' ⟨rfl,hs'⟩
    cases e' with
    |normal=>exact(hne _ h).elim
    |_=>exact⟨rfl,hs'⟩
  .simp only[bX,fL,fD,A5]at hd hnz hnd
   simp only[exM]at h
   simp only[findLabel]at hf
   split at h
   .rename_i r1 hx
    rw[hx]at hf
    injection hf with hf;subst hf
    split at h
    .rename_i σ1 h1
     refine hW.seq (hW.mono (ihx.2 l r1 hx σ a w _ _ hd.1 hnz.1 (λe=>(hnd e).1) h1 hs) ?_)
     rintro e' a' w' ⟨rfl,hs'⟩
     exact ihy.1 _ a' w' _ _ hd.2 hnz.2 (λe=>(hnd e).2) h hs'
    .rename_i hne
     refine hW.seq (hW.mono (ihx.2 l r1 hx σ a w _ _ hd.1 hnz.1 (λe=>(hnd e).1) h hs) ?_)
     rintro e' a' w' ⟨rfl,hs'⟩
     cases e' with
     |normal=>exact(hne _ h).elim
     |_=>exact⟨rfl,hs'⟩
   .rename_i hx
    rw[hx]at hf
    exact ihy.2 l rest hf σ a w e σ' hd.2 hnz.2 (λe=>(hnd e).2) h hs
 | cond c x y ihx ihy =>
  refine⟨λσ a w e σ' hd hnz hnd h hs=>?_,λl rest hf=>by simp[findLabel]at hf⟩
  simp only[bX,fL,fD,A5]at hd hnz hnd
  have hc:∀t,oev σ.Γ c=.d (.b t)->a.eval c=.bool t:=by
   intro t ht;obtain⟨_,_,_,F,ι,_,_,hV,_⟩:=hs;have:=cD (Γ:=σ.Γ) (a:=a) (x:=c) (F:=F) (w:=w) (ι:=ι) λt _=>hV t
   rw[ht]at this;generalize a.eval c=v at this;cases this with|d _ _ h=>cases h;rfl
  simp only[exM]at h
  split at h
  .rename_i ht;exact hW.cond (hc _ ht) (ihx.1 σ a w _ _ hd.1 hnz.1 (λe=>(hnd e).1) h hs)
  .rename_i ht;exact hW.cond (hc _ ht) (ihy.1 σ a w _ _ hd.2 hnz.2 (λe=>(hnd e).2) h hs)
  .cases h
 | block id c ih =>
  refine⟨λσ a w e σ' hd hnz hnd h hs=>?_,λl rest hf=>by simp[findLabel]at hf⟩
  simp only[exM]at h
  split at h
  .rename_i id' σ1 h1
   refine hW.block (hW.mono (ih.1 σ a w _ _ hd hnz hnd h1 hs) ?_)
   rintro e' a' w' ⟨rfl,hs'⟩
   simp only[EE]
   split at h
   .rename_i he;injection h with h;injection h with h1 h2;subst h1;subst h2;rw[AB he];exact⟨rfl,hs'⟩
   .rename_i he;injection h with h;injection h with h1 h2;subst h1;subst h2;rw[Ap he];exact⟨rfl,hs'⟩
  .rename_i hne
   refine hW.block (hW.mono (ih.1 σ a w _ _ hd hnz hnd h hs) ?_)
   rintro e' a' w' ⟨rfl,hs'⟩
   cases e' with
   |exit id'=>exact(hne _ _ h).elim
   |_=>exact⟨rfl,hs'⟩
 | loop c ih =>
  refine⟨λσ a w e σ' hd hnz hnd h hs=>?_,λl rest hf=>by simp[findLabel]at hf⟩
  simp only[exM]at h
  refine hW.loop (λn a w=>∃σ,iter (exM P E fuel c Aj) n σ=Aa (e,σ')/\SR G N ds σ a w) ⟨fuel,σ,h,hs⟩ ?_
  rintro n a w ⟨σ1,h1,hs1⟩
  cases n with
  |zero=>cases h1
  | succ n =>
   simp only[iter]at h1
   split at h1
   .rename_i σ2 h2
    refine hW.mono (ih.1 σ1 a w _ _ hd hnz hnd h2 hs1) ?_
    rintro e' a' w' ⟨rfl,hs'⟩
    exact⟨n,CM n,_,h1,hs'⟩
   .rename_i hne
    refine hW.mono (ih.1 σ1 a w _ _ hd hnz hnd h1 hs1) ?_
    rintro e' a' w' ⟨rfl,hs'⟩
    cases e' with
    |normal=>exact(hne _ h1).elim
    |_=>exact⟨rfl,hs'⟩
 |exit id=>exact⟨λσ a w e σ' _ _ _ h hs=>by simp only[exM,AH,FK]at h;obtain⟨rfl,rfl⟩:=h;exact hW.exit ⟨rfl,hs⟩,λl rest hf=>by simp[findLabel]at hf⟩
 |ret=>exact⟨λσ a w e σ' _ _ _ h hs=>by simp only[exM,AH,FK]at h;obtain⟨rfl,rfl⟩:=h;exact hW.ret ⟨rfl,hs⟩,λl rest hf=>by simp[findLabel]at hf⟩
 | label l' =>
  refine⟨λσ a w e σ' _ _ _ h hs=>by simp only[exM,AH,FK]at h;obtain⟨rfl,rfl⟩:=h;exact hW.label ⟨rfl,hs⟩,λl rest hf σ a w e σ' _ _ _ h hs=>?_⟩
  simp only[exM]at h
  split at h
  .rename_i he
   subst he
   simp only[findLabel,beq_self_eq_true,CN,AH]at hf
   injection h with h;injection h with h1 h2;subst h1;subst h2;subst hf
   exact hW.skip ⟨rfl,hs⟩
  .cases h
 | goto l' =>
  refine⟨λσ a w e σ' _ _ hnd h hs=>?_,λl rest hf=>by simp[findLabel]at hf⟩
  simp only[exM,AH,FK]at h
  obtain⟨rfl,rfl⟩:=h
  have hrd:rd=false:=by
   cases rd with
   |false=>rfl
   |true=>exact absurd (hnd rfl) (by simp[fD])
  exact hW.goto hrd ⟨rfl,hs⟩
 | scope c ih =>
  refine⟨λσ a w e σ' hd hnz hnd h hs=>?_,λl rest hf=>by simp[findLabel]at hf⟩
  have hrd:rd=false:=by
   cases rd with
   |false=>rfl
   |true=>exact absurd (hnd rfl) (by simp[fD])
  have hnd':rd=Ak->fD c=true:=λe=>by rw[hrd]at e;cases e
  simp only[exM]at h
  have hne:∀l,e≠.goto l:=λl he=>by subst he;exact aNn _ _ _ _ h
  -- what a run to an exit leaves, if the rest of it is known
  have fin1:∀(n:Ae) (e1:Cf) (σ1:St) (a':Act) (w':Ag),jmp (λl=>exM P E fuel c (Aa l)) n (Aa (e1,σ1))=Aa (e,σ')->SR G N ds σ1 a' w' ->
   match e1 with
   |.goto l=>∃σ2,jmp (λl=>exM P E fuel c (Aa l)) n (Aa (.goto l,σ2))=Aa (e,σ')/\SR G N ds σ2 a' w'
   |e1=>e1=e/\SR G N ds σ' a' w':=by
   intro n e1 σ1 a' w' hj hs1
   cases e1 with
   |goto l=>exact⟨σ1,hj,hs1⟩
   | _ =>
    cases n<;>(simp only[jmp,AH,FK]at hj;obtain⟨rfl,rfl⟩:=hj;exact⟨rfl,hs1⟩)
  refine hW.jumps (λl n a w=>∃σ2,jmp (λl=>exM P E fuel c (Aa l)) n (Aa (.goto l,σ2))=Aa (e,σ')/\SR G N ds σ2 a w) hrd ?_ ?_
  .cases h1:exM P E fuel c Aj σ with
   |none=>rw[h1]at h;cases hf:fuel<;>rw[hf]at h<;>cases h
   | some p =>
    obtain⟨e1,σ1⟩:=p
    rw[h1]at h
    refine hW.mono (ih.1 σ a w _ _ hd hnz hnd' h1 hs) ?_
    rintro e' a' w' ⟨rfl,hs'⟩
    have:=fin1 fuel e' σ1 a' w' h hs'
    cases e' with
    |goto l=>exact⟨fuel,this⟩
    |_=>exact this
  .rintro l n a w ⟨σ2,hj,hs2⟩
   cases n with
   |zero=>cases hj
   | succ n =>
    have hj':jmp (λl=>exM P E fuel c (Aa l)) n (exM P E fuel c (Aa l) σ2)=Aa (e,σ'):=hj
    cases h1:exM P E fuel c (Aa l) σ2 with
    |none=>rw[h1]at hj';cases n<;>cases hj'
    | some p =>
     obtain⟨e1,σ1⟩:=p
     rw[h1]at hj'
     obtain⟨rest,hf⟩:=bAs c σ2 _ h1
     refine⟨rest,hf,hW.mono (ih.2 l rest hf σ2 a w _ _ hd hnz hnd' h1 hs2) ?_⟩
     rintro e' a' w' ⟨rfl,hs'⟩
     have:=fin1 n e' σ1 a' w' hj' hs'
     cases e' with
     |goto l=>exact⟨n,CM n,this⟩
     |_=>exact this
 |_=>exact⟨λσ a w e σ' _ _ _ h=>by simp[exM]at h,λl rest hf=>by simp[findLabel]at hf⟩
def bAr{rd:Bw}{WW:B1->(Cf->Act->Ag->Prop)->Act->Ag->Prop}(hW:WpR P rd WW)(hE:oB P E)(hm:P.follows .mixedOrders=Ak){z:Ae->Bw}(hz:∀d v,G.Z d=Aa v->z d=Ak)(fuel:Ae)
 (c:B1) (σ:St) (a:Act) (w:Ag) (e:Cf) (σ':St) (h1:bX N c=Ak) (h3:fL z c=Ak) (h4:rd=Ak->fD c=Ak) (h:ex P E fuel c σ=Aa (e,σ')) (hs:SR G N ds σ a w) :
 WW c (λe' a' w'=>e'=e/\SR G N ds σ' a' w') a w:=(aSw hW hE hm hz fuel c).1 σ a w e σ' h1 h3 h4 h hs
def lA(hE:oB P E)(hm:P.follows .mixedOrders=Ak)(hZ:∀d,G.Z d=Aj)(fuel:Ae)(c:B1)(σ:St)(a:Act)(w:Ag)(e:Cf)(σ':St)(hd:bX N c=Ak)(h:ex P E fuel c σ=Aa (e,σ'))(hs:SR G N ds σ a w) :
 WC P c (λe' a' w'=>e'=e/\SR G N ds σ' a' w') a w :=
 bAr (cA P) hE hm (z:=λ_=>Az) (λd v e=>by rw[hZ]at e;cases e) fuel c σ a w e σ' hd (wP c) (λe=>by cases e) h hs
end
def zU (P:As) (fn:Func) (c:B1):Bw:=bX fn.ntmps c && !(fn.name == "runtime.NumGoroutine")
def aQs {P:As} [M:Mch P] {f N:Ae} {fn:Func} {c:B1} {args:Ad D} {r:D} {e:Cf} {σ:St} (hf:P.funcs[f]? = Aa fn) (hb:fn.body=Aa c) (hname:(fn.name == "runtime.NumGoroutine")=Az) (hN:fn.ntmps=N)
 (ha:args.length<=N) (h:∀(G:Ctx) (a:Act) (w:Ag),(∀d,G.Z d=Aj)->SR G N [] (St0 args N) a w->WC P c (λe' a' w'=>e'=e/\SR G N [] σ a' w') a w) (he:e=.normal\/e=.ret) (hr:jM P fn.results.toList σ=Aa r):Spec P f args r:=by
 intro A W vs hA hl hv
 have hn:¬ fn.name = "runtime.NumGoroutine" := by simpa using hname
 refine⟨λw=>by simp[callFunc,hf,hn,hb],?_⟩
 refine jT hf hb ?_
 subst hN
 refine(cA P).okv λhok=>cG (h _ _ _ (λ_=>rfl) (SR0 hok hA hl hv ha)) ?_
 rintro e' a w ⟨rfl,hs⟩
 have hend:a.defers=[]/\∀v1,Env w v1->∃x,aU P (results fn a.tmps) v1=.ok x v1/\Below W.heap.size W v1/\VD (λb=>A b\/(W.heap.size<=b/\b<v1.heap.size)) v1 r x:=by
  refine⟨hs.2.2.2.elim λ_ h=>h.elim λ_ h=>h.2.2.2.2.1,λv1 he=>?_⟩;have hs1:=hs.env he;obtain⟨v,hrun,hvd⟩:=fP hs1 hr;obtain⟨_,_,_,F,ι,hR,_,_,_,hdf,_⟩:=hs1;refine⟨v,hrun,⟨hR.kept.os,hR.kept.tape,hR.kept.output,hR.kept.size,λk hk=>hR.kept.block k hk (λh=>h)⟩,hvd.mono ?_⟩;rintro b (h|h|h)
  .exact .inl h
  .exact h.elim
  .exact .inr h
 rcases he with rfl|rfl<;>exact hend
def bJs(P:As)(fn:Func):Aq (Cf×St)->Aq D
 |some (.normal,σ)=>jM P fn.results.toList σ
 |some (.ret,σ)=>jM P fn.results.toList σ
 |_=>Aj
def bXx(P:As)(E:Kn)(fuel:Ae)(f:AU)(args:Ad D):Aq D :=
 match P.funcs[f]? with
 |none=>Aj
 | some fn=>match fn.body with
  |none=>Aj
  |some c=>if zU P fn c&&decide (args.length<=fn.ntmps)then bJs P fn (ex P E fuel c (St0 args fn.ntmps))else Aj
def bFl(P:As)(E:Kn)(fuel:Ae)(f:AU)(h:AV)(o:HO)(args:Ad D):Aq (HO×D) :=
 match P.funcs[f]? with
 |none=>Aj
 | some fn=>match fn.body,o with
  | some c,.map _ _=>if zU P fn c&&decide (args.length+1<=fn.ntmps)then match ex P E fuel c (St1 h o args fn.ntmps)with
   | some (e,σ)=>match σ.H 0,bJs P fn (Aa (e,σ))with
    |some (.map k es),Aa r=>if kL (.map k es)&&nmB 8 r then Aa (.map k es,r)else Aj
    |_,_=>Aj
   |none=>Aj
   else Aj
  |_,_=>Aj
def tC{P:As}{fn:Func}{e:Cf}{σ:St}{r:D}(h:bJs P fn (Aa (e,σ))=Aa r):(e=.normal\/e=.ret)/\jM P fn.results.toList σ=Aa r:=by cases e<;>first|exact⟨.inl rfl,h⟩|exact⟨.inr rfl,h⟩|cases h
def aRc{P:As}[M:Mch P]{E:Kn}{fuel:Ae}(hm:P.follows .mixedOrders=Ak)(hE:oB P E){f:AU}{args:Ad D}{r:D}(h:bXx P E fuel f args=Aa r):Spec P f args r:=by
 unfold bXx at h;split at h
 .cases h
 rename_i fn hfn;split at h
 .cases h
 rename_i c hc;split at h
 case isFalse=>cases h
 rename_i hok;simp only[zU,A5,Dd,Bz]at hok;obtain⟨⟨h1,h3⟩,h4⟩:=hok;cases hex:ex P E fuel c (St0 args fn.ntmps)with
 |none=>rw[hex]at h;cases h
 | some p =>
  obtain⟨e,σ⟩:=p;rw[hex]at h;obtain⟨he,hr⟩:=tC h;exact aQs hfn hc h3 rfl h4 (λG a w hZ hs=>lA hE hm hZ fuel c _ a w _ _ h1 hex hs) he hr
def aLw{P:As}[M:Mch P]{E:Kn}{fuel:Ae}(hm:P.follows .mixedOrders=Ak)(hE:oB P E){f:AU}{h0:AV}{o o':HO}{args:Ad D}{r:D}(h:bFl P E fuel f h0 o args=Aa (o',r)):jV P f h0 o args o' r:=by
 unfold bFl at h;split at h
 .cases h
 rename_i fn hfn;split at h
 case h_2=>cases h
 rename_i c kd es hc;split at h
 case isFalse=>cases h
 rename_i hok;simp only[zU,A5,Dd,Bz]at hok;obtain⟨⟨h1,h3⟩,h4⟩:=hok;split at h
 case h_2=>cases h
 rename_i e σ hex;split at h
 case h_2=>cases h
 rename_i k1 es1 r1 hH hr;split at h
 case isFalse=>cases h
 rename_i hfl;rw[A5]at hfl;obtain⟨hfl,hnm⟩:=hfl;injection h with h;injection h with e1 e2;subst e1;subst e2
 have hr2:=tC hr;obtain⟨he,hr3⟩:=hr2;refine bGh hfn hc h3 rfl h4 ⟨_,_,rfl⟩ ⟨_,_,rfl⟩ hfl (aJc _ _ hnm) λG a w hZ hs=>cG (lA hE hm hZ fuel c _ a w _ _ h1 hex hs) ?_
 rintro e' a' w' ⟨rfl,hs'⟩;exact⟨σ,⟨he,hr3,hH⟩,hs'⟩
end Go.Am
namespace Go.Am
variable {P:As} [M:Mch P]
@[congr]def cBf{c:B1}{σ σ':St}{Q:Cf->St->Prop}(h:σ=σ'):AWP P c σ Q=AWP P c σ' Q:=by rw[h]
def aPd(σ:St)(Q:Cf->St->Prop):AWP P .skip σ Q=Q .normal σ:=rfl
def aXh(x y:B1)(σ:St)(Q:Cf->St->Prop):AWP P (.seq x y) σ Q=AWP P x σ λe σ'=>match e with|.normal=>AWP P y σ' Q|e=>Q e σ':=rfl
def aHk(id:Ae)(c:B1)(σ:St)(Q:Cf->St->Prop):AWP P (.block id c) σ Q=AWP P c σ λe σ'=>match e with|.exit id'=>if id'=id then Q .normal σ' else Q (.exit id') σ'|e=>Q e σ':=rfl
def aPe(id:Ae)(σ:St)(Q:Cf->St->Prop):AWP P (.exit id) σ Q=Q (.exit id) σ:=rfl
def aXi(σ:St)(Q:Cf->St->Prop):AWP P .ret σ Q=Q .ret σ:=rfl
def aHi(l:Ae)(σ:St)(Q:Cf->St->Prop):AWP P (.label l) σ Q=Q .normal σ:=rfl
def aHg(c:B1)(σ:St)(Q:Cf->St->Prop):AWP P (.scope c) σ Q=AWP P c σ λe σ'=>match e with|.goto _=>False|e=>Q e σ':=rfl
def IfA(t:Bw)(A B:Prop):Prop:=if t then A else B
@[congr]def cBe{t t':Bw}{A B:Prop}(h:t=t'):IfA t A B=IfA t' A B:=by rw[h]
def bWf(P:As)[M:Mch P](f:AU)(avs:Ad AV)(H:Hp)(k:D->Prop):Prop:=∃ds r,cK H avs=Aa ds/\Spec P f ds r/\k r
@[congr]def bVx{f:AU}{avs avs':Ad AV}{H H':Hp}{k:D->Prop}(h:avs=avs')(h2:H=H'):bWf P f avs H k=bWf P f avs' H' k:=by rw[h,h2]
def aAq(H:Hp)(n id off len sz:Ae):frz H (n+1) (.own id off len sz)=match H id with
 |some (.cells _ cs)=>if(off+len)*sz<=cs.length/\0<sz then(((cs.drop (off*sz)).take (len*sz)).mapM (frz H n)).map λl=>.sl (chunk sz len l)else Aj
 |_=>none:=rfl
def bZt(H:Hp)(n:Ae)(els:Ad (Ad D)):frz H (n+1) (.fd els)=Aa (.sl els):=rfl
def bSx(H:Hp)(n:Ae):frz H (n+1) .nil=Aa (.sl []):=rfl
def aNz(H:Hp)(n:Ae)(x:D):frz H (n+1) (.d x)=Aa x:=rfl
def aFv(l:Ad Ae)(ds:Ad D):(ds.map AV.d).map (eM l)=ds.map AV.d:=by simp[eM,Function.comp_def]
def aCn(H:Hp)(n:Ae):∀(ds:Ad D),(ds.map AV.d).mapM (frz H (n+1))=Aa ds
 |[]=>rfl
 |d::ds=>by rw[BX,CG,aCn H n ds,aNz];rfl
def aLc:∀(n:Ae) (x:AV),vis (λ_=>Aj) n x=[]
 |0,_=>rfl
 | n+1,x=>by have ih:=aLc n;cases x<;>simp[vis,ih]
def aSh(avs:Ad AV)(r:D):bM (λ_=>Aj) avs r=[]:=by
 unfold bM bW;split
 .rfl
 .simp[aLc]
end Go.Am
namespace Go.Am
def gK:Ad (Ae×AV)->Ae->AV
 |[]=>λ_=>.any
 |p::l=>upd (gK l) p.1 p.2
def zV:Ae->Ad HO->Hp
 |_,[]=>λ_=>Aj
 |i,o::os=>upd (zV (i+1) os) i (Aa o)
def bLg(o0:Aq HO)(H:Hp):Hp:=match o0 with
 |none=>H
 |some o=>upd H 0 (Aa o)
def StL(sl:Ad (Ae×AV))(o0:Aq HO)(hs:Ad HO):St:=⟨gK sl,bLg o0 (zV 1 hs),hs.length+1⟩
def wR:∀(hs:Ad HO) (i j:Ae),zV i hs j=if i<=j then hs[j-i]? else Aj
 |[],i,j=>by simp[zV]
 | o::os,i,j=>by
  unfold zV upd;by_cases h:j=i
  .subst h;simp
  .rw[Ap h,wR os (i+1) j];by_cases h1:i+1<=j
   .rw[AB h1,AB (by omega),show j-i=(j-(i+1))+1 from by omega,BT]
   .rw[Ap h1,Ap (by omega)]
def cAt(sl:Ad (Ae×AV))(o0:Aq HO)(hs:Ad HO):(StL sl o0 hs).H 0=o0:=by
 unfold StL bLg;cases o0 with
 |none=>simp[wR]
 |some o=>rfl
def aUb(sl:Ad (Ae×AV))(o0:Aq HO)(hs:Ad HO)(i:Ae):(StL sl o0 hs).H (i+1)=hs[i]? := by
 unfold StL bLg;cases o0 with
 |none=>simp[wR]
 |some o=>simp[upd,wR]
def uY:∀(l:Ad (Ae×AV)) (t:Ae),gK l t=.any\/∃p∈l,p.1=t/\gK l t=p.2
 |[],t=>.inl rfl
 | p::l,t=>by
  by_cases h:t=p.1
  .exact .inr ⟨p,AX ..,h.symm,by simp[gK,upd,h]⟩
  .have e:gK (p::l) t=gK l t:=by simp[gK,upd,h]
   rw[e];rcases uY l t with h|⟨q,hq,h⟩
   .exact .inl h
   .exact .inr ⟨q,AT _ hq,h⟩
def aBy(rs:Ad Ae):Ae->Ae:=λid=>match id with|0=>0|i+1=>rs.getD i 0
def iT(H H':Hp)(ρ:Ae->Ae)(Γ:Ae->AV):Ad (Ae×AV)->Prop
 |[]=>True
 |p::l=>Sub H H' ρ (Γ p.1) p.2/\iT H H' ρ Γ l
def yH(H H':Hp)(ρ:Ae->Ae):Ad Ae->Ad HO->Prop
 |[],[]=>True
 |r::rs,o::os=>(∃o0,H r=Aa o0/\mZ H H' ρ o0 o)/\yH H H' ρ rs os
 |_,_=>False
def nE{H H':Hp}{ρ:Ae->Ae}{Γ:Ae->AV}:∀{l:Ad (Ae×AV)},iT H H' ρ Γ l->∀p∈l,Sub H H' ρ (Γ p.1) p.2
 | p::l,h,q,hq=>by
  rcases BQ.1 hq with rfl|hq
  .exact h.1
  .exact nE h.2 q hq
def aDx{H H':Hp}{ρ:Ae->Ae}:∀{rs:Ad Ae} {os:Ad HO},yH H H' ρ rs os->rs.length=os.length/\∀(i:Ae) o,os[i]? = Aa o->∃o0,H (rs.getD i 0)=Aa o0/\mZ H H' ρ o0 o
 |[],[],_=>⟨rfl,λi o h=>by simp at h⟩
 | r::rs,o::os,h=>by
  obtain⟨h1,h2⟩:=h;obtain⟨q1,q2⟩:=aDx h2;refine⟨by simp[q1],λi o' hi=>?_⟩;rcases i with _|i
  .simp at hi;subst hi;simpa using h1
  .simpa using q2 i o' (by simpa using hi)
 |[],_::_,h=>h.elim
 |_::_,[],h=>h.elim
def aJo{l:Ad Ae}{i:Ae}(h:i<l.length):l.getD i 0=l[i]:=by rw[Ah,Ac h];rfl
def sE{H H':Hp}{ρ:Ae->Ae}(x:AV):Sub H H' ρ x .any:=by cases x<;>trivial
def aUn{σ:St}{sl:Ad (Ae×AV)}{o0:Aq HO}{hs:Ad HO}(rs:Ad Ae)(hnd:(0::rs).Nodup)
 (hslot:iT σ.H (StL sl o0 hs).H (aBy rs) σ.Γ sl) (h0:∀o',o0=Aa o'->∃o,σ.H 0=Aa o/\mZ σ.H (StL sl o0 hs).H (aBy rs) o o')
 (hblk:yH σ.H (StL sl o0 hs).H (aBy rs) rs hs):Wk σ (StL sl o0 hs) (aBy rs):=by
 obtain⟨hlen,hget⟩:=aDx hblk
 have hlt:∀i,(((StL sl o0 hs).H (i+1)).isSome=Ak)->i<rs.length:=λi h=>by
  rw[hlen];rw[aUb]at h;rcases Bc i hs.length with h'|h'
  .exact h'
  .rw[Bn h']at h;cases h
 have hno:∀i,i<rs.length->rs.getD i 0≠0:=λi hi h=>by have:rs[i]∈rs:=B3 hi;rw[aJo hi]at h;rw[h]at this;exact(DQ.1 hnd).1 this
 refine⟨λid h=>?_,λt=>?_,λid o' h=>?_,λid id' h h' e=>?_,λid h _=>by cases(show id=0 from h);rfl,λid h1 h=>by cases(show id=0 from h1);simp[StL]at h⟩
 .cases id with
  |zero=>simp[StL]at h
  |succ i=>rw[aUb];simp only[StL]at h;exact Bn (by omega)
 .show Sub _ _ _ _ (gK sl t)
  rcases uY sl t with h|⟨p,hp,rfl,h⟩
  .rw[h];exact sE _
  .rw[h];exact nE hslot _ hp
 .cases id with
  |zero=>rw[cAt]at h;exact h0 o' h
  |succ i=>rw[aUb]at h;exact hget i o' h
 .cases id with
  | zero=>cases id' with
   |zero=>rfl
   |succ j=>exact absurd e.symm (hno j (hlt j h'))
  | succ i=>cases id' with
   |zero=>exact absurd e (hno i (hlt i h))
   | succ j =>
    have hi:=hlt i h
    have hj:=hlt j h'
    simp only[aBy]at e
    rw[aJo hi,aJo hj]at e
    have:=(List.getElem_inj (DQ.1 hnd).2).1 e
    rw[this]
def cFc{σ:St}{sl:Ad (Ae×AV)}{hs:Ad HO}(rs:Ad Ae)(hnd:(0::rs).Nodup)
 (hslot:iT σ.H (StL sl Aj hs).H (aBy rs) σ.Γ sl) (hblk:yH σ.H (StL sl Aj hs).H (aBy rs) rs hs):∃ρ,Wk σ (StL sl Aj hs) ρ :=
 ⟨_,aUn rs hnd hslot (λ_ h=>by cases h) hblk⟩
def wkQ{σ:St}{sl:Ad (Ae×AV)}{hs:Ad HO}(rs:Ad Ae)(hslot:iT σ.H (StL sl Aj hs).H (aBy rs) σ.Γ sl)(hblk:yH σ.H (StL sl Aj hs).H (aBy rs) rs hs)(hnd:(0::rs).Nodup:=by simp):∃ρ,Wk σ (StL sl Aj hs) ρ:=cFc rs hnd hslot hblk
def oF{H H':Hp}{ρ:Ae->Ae}(e:AF)(l:Ad D):mZ H H' ρ (.cells e (l.map .d)) (.cells e (l.map .d)):=by
 refine⟨rfl,rfl,λk c d h1 h2=>?_⟩;rw[h1]at h2;injection h2 with h2;subst h2
 rw[Ao]at h1;obtain⟨x,_,rfl⟩:=Ai.1 h1;exact⟨rfl,λa ha=>by simp[vis]at ha⟩
def aQj{H H':Hp}{ρ:Ae->Ae}{e:AF}{l:Ad D}{c c':Ad AV}(h:c=l.map .d)(h':c'=l.map .d):mZ H H' ρ (.cells e c) (.cells e c'):=by subst h;subst h';exact oF e l
def cCr{H H':Hp}{ρ:Ae->Ae}(x:D):Sub H H' ρ (.d x) (.d x):=⟨rfl,λa ha=>by simp[vis]at ha⟩
def bXi{H H':Hp}{ρ:Ae->Ae}{x y:D}(h:x=y):Sub H H' ρ (.d x) (.d y):=h ▸ cCr x
def aFq{H H':Hp}{ρ:Ae->Ae}(x y:D):Sub H H' ρ (.d x) (.d y)↔x=y:=by
 constructor
 .intro h;have:frz H 8 (.d x)=Aa y:=h.1;rw[aNz]at this;injection this
 .exact bXi
def aLi{H H':Hp}{ρ:Ae->Ae}{a o l s b o' l' s':Ae}:Sub H H' ρ (.own a o l s) (.own b o' l' s')↔(a=ρ b/\o=o'/\l=l'/\s=s'/\(H' b).isSome=Ak):=Iff.rfl
def aLh{H H':Hp}{ρ:Ae->Ae}{a o b o':Ae}:Sub H H' ρ (.ptr a o) (.ptr b o')↔(a=ρ b/\o=o'/\(H' b).isSome=Ak):=Iff.rfl
def aQi{H H':Hp}{ρ:Ae->Ae}{a b:Ae}:Sub H H' ρ (.mp a) (.mp b)↔(a=ρ b/\(H' b).isSome=Ak):=Iff.rfl
def bOp{H H':Hp}{ρ:Ae->Ae}:Sub H H' ρ .nil .nil↔True:=Iff.rfl
def bXh{H H':Hp}{ρ:Ae->Ae}:Sub H H' ρ .un .un↔True:=Iff.rfl
def iU(l:Ad D)(off:Ae)(x:D)(h:off<l.length):lay (l.map AV.d) off [.d x]=(l.set off x).map .d:=by
 have h1:off+[AV.d x].length<=(l.map AV.d).length:=by rw[List.length_map];exact h
 apply Dr;intro k;rw[vX h1,Ao,Ao,List.getElem?_set];by_cases e:off=k
 .subst e;simp[h]
 .rw[Ap e,Ap];simp only[List.length_singleton];omega
def lZ(l:Ad D)(n:Ae)(h:n=l.length):chunk 1 n l=l.map λx=>[x]:=by
 subst h;unfold chunk;apply Dr;intro k;by_cases hk:k<l.length
 .simp only[Ao,List.getElem?_range hk,Bj,Eb,Ac hk];congr 1;rw[List.drop_eq_getElem_cons hk];rfl
 .rw[Bn (by simpa using hk),Bn (by simpa using hk)]
def bFv(n:Ae)(x:D):(AO n [AV.d x]).flatten=(AO n x).map .d:=by
 induction n with
 |zero=>rfl
 |succ n ih=>simp only[C9,List.flatten_cons,ih];rfl
def bZw(H:Hp)(n:Ae)(cs:Ad AV):frz H (n+1) (.ag cs)=(cs.mapM (frz H n)).map .ag:=rfl
def fV(H H':Hp)(ρ:Ae->Ae):Ad AV->Ad AV->Prop
 |[],[]=>True
 |c::cs,d::ds=>oA H H' ρ c d/\fV H H' ρ cs ds
 |_,_=>False
def eE{H H':Hp}{ρ:Ae->Ae}:∀{cs ds:Ad AV},fV H H' ρ cs ds↔(cs.length=ds.length/\∀(k:Ae) c d,cs[k]? = Aa c->ds[k]? = Aa d->oA H H' ρ c d)
 |[],[]=>by simp[fV]
 | c::cs,d::ds=>by
  rw[fV,eE];constructor
  .rintro⟨h1,h2,h3⟩;refine⟨by simp[h2],λk a b ha hb=>?_⟩;rcases k with _|k
   .simp at ha hb;subst ha;subst hb;exact h1
   .exact h3 k a b (by simpa using ha) (by simpa using hb)
  .rintro⟨h1,h2⟩;exact⟨h2 0 c d rfl rfl,by simpa using h1,λk a b ha hb=>h2 (k+1) a b (by simpa using ha) (by simpa using hb)⟩
 |[],_::_=>by simp[fV]
 |_::_,[]=>by simp[fV]
def eL{H H':Hp}{ρ:Ae->Ae}{e e':AF}{cs ds:Ad AV}:mZ H H' ρ (.cells e cs) (.cells e' ds)↔(e=e'/\fV H H' ρ cs ds):=by rw[eE];rfl
def mD{H H':Hp}{ρ:Ae->Ae}(x y:D):oA H H' ρ (.d x) (.d y)↔x=y:=aFq x y
def bDx{H H':Hp}{ρ:Ae->Ae}:oA H H' ρ .nil .nil↔True:=Iff.rfl
def bOr{H H':Hp}{ρ:Ae->Ae}:oA H H' ρ .un .un↔True:=Iff.rfl
def aKh{H H':Hp}{ρ:Ae->Ae}{c c':Ad AV}{l:Ad D}(h:c=l.map .d)(h':c'=l.map .d):fV H H' ρ c c':=by have:=aQj (H:=H) (H':=H') (ρ:=ρ) (e:=0) h h';exact(eL.1 this).2
def aOu{H H':Hp}{ρ:Ae->Ae}{l l':Ad D}:fV H H' ρ (l.map .d) (l'.map .d)↔l=l':=by
 constructor
 .intro h;obtain⟨h1,h2⟩:=eE.1 h;apply Dr;intro k;by_cases hk:k<l.length
  .have hk':k<l'.length:=by simpa using(by simpa using h1:l.length=l'.length) ▸ hk
   have:=h2 k (.d l[k]) (.d l'[k]) (by simp[hk]) (by simp[hk']);rw[mD]at this;rw[Ac hk,Ac hk',this]
  .have hl:l.length=l'.length:=by simpa using h1
   have hk':¬k<l'.length:=by omega
   rw[Bn (by omega),Bn (by omega)]
 .rintro rfl;exact aKh rfl rfl
def bDw{H H':Hp}{ρ:Ae->Ae}{k:BJ}{es:Ad (Al×AV)}(h:∀x∈es,Sub H H' ρ x.2 x.2):mZ H H' ρ (.map k es) (.map k es):=by
 refine⟨rfl,rfl,λj x y hx hy=>?_⟩;rw[hx]at hy;injection hy with hy;subst hy
 exact⟨rfl,.inr (h x (At hx))⟩
def aKg{H H':Hp}{ρ:Ae->Ae}{l:Ad D}{c c':Ad AV}:fV H H' ρ (l.map .d++c) (l.map .d++c')↔fV H H' ρ c c':=by
 induction l with
 |nil=>rfl
 |cons x l ih=>simp only[BX,Cz,fV,ih,mD,true_and]
variable {P:As} [M:Mch P]
inductive Dm{α:Sort _}(a:α):Type where
 |mk
def cS{α:Type}(x:Aq α)(k:α->Prop)(_:Dm k):Prop:=match x with|some a=>k a|none=>False
def aTs{α:Type}(a:α)(k:α->Prop)(d:Dm k):cS (Aa a) k d=k a:=rfl
def IfD(t:Bw)(A B:Prop)(_:Dm (A,B)):Prop:=if t then A else B
def bIw(A B:Prop)(d:Dm (A,B)):IfD Ak A B d=A:=rfl
def bAh(A B:Prop)(d:Dm (A,B)):IfD Az A B d=B:=by simp[IfD]
def OWd(P:As)[M:Mch P](ops:Aw Bf)(l:Ad Bf)(σ:St)(con:Ad Ae)(k:St->Ad Ae->Prop)(_:Dm (ops,l,k)):Prop:=OW P ops l σ con k
def O1d(P:As)[M:Mch P](o:Bf)(σ:St)(con:Ad Ae)(k:St->Ad Ae->Prop)(_:Dm (o,k)):Prop:=O1 P o σ con k
def aUd(σ:St)(con:Ad Ae)(k:St->Prop)(_:Dm k):Prop:=k (fin σ con)
def bJn(σ:St)(k:St->Prop)(d:Dm k):aUd σ [] k d=k σ:=rfl
def bAo(σ:St)(c:Ae)(l:Ad Ae)(k:St->Prop)(d:Dm k):aUd σ (c::l) k d=k ⟨λt=>kB (c::l) (σ.Γ t),λid=>(σ.H id).map (gT (c::l)),σ.n⟩:=rfl
def bMs(P:As)[M:Mch P](v:AV)(x y:B1)(σ:St)(Q:Cf->St->Prop)(_:Dm (x,y,Q)):Prop:=match v with|.d (.b t)=>IfD t (AWP P x σ Q) (AWP P y σ Q) .mk|.ub=>AWP P x σ Q/\AWP P y σ Q|_=>False
def bUg(t:Bw)(x y:B1)(σ:St)(Q:Cf->St->Prop)(d:Dm (x,y,Q)):bMs P (.d (.b t)) x y σ Q d=IfD t (AWP P x σ Q) (AWP P y σ Q) .mk:=rfl
def bKr(x y:B1)(σ:St)(Q:Cf->St->Prop)(d:Dm (x,y,Q)):bMs P .ub x y σ Q d=(AWP P x σ Q/\AWP P y σ Q):=rfl
def aHj(c:AN)(x y:B1)(σ:St)(Q:Cf->St->Prop):AWP P (.cond c x y) σ Q=bMs P (oev σ.Γ c) x y σ Q .mk:=rfl
def zJ(id:Ae)(l:Ad Bf)(draw:Bw)(σ:St)(Q:Cf->St->Prop):AWP P (.region id l.toArray draw) σ Q=OWd P l.toArray l σ [] (λσ' con=>aUd σ' con (Q .normal) .mk) .mk:=rfl
def aPp(P:As)[M:Mch P](c:B1)(σ:St)(Q:Cf->St->Prop)(_:Dm (c,Q)):Prop:=AWP P (.loop c) σ Q
def aHh(c:B1)(σ:St)(Q:Cf->St->Prop):AWP P (.loop c) σ Q=aPp P c σ Q .mk:=rfl
def nL{τ:Type}{c:B1}{σ:St}{Q:Cf->St->Prop}{d:Dm (c,Q)}(S:τ->St)(m:τ->Ae)(x0:τ)(h0:∃ρ,Wk σ (S x0) ρ)
 (h:∀x,AWP P c (S x) λe σ'=>match e with|.normal=>∃y,m y<m x/\WkR σ' (S y)|e=>Q e σ'):aPp P c σ Q d:=aDy S m x0 (.inr h0) h
def LuP(P:As)[M:Mch P](c:B1)(n:Ae)(σ:St)(Q:Cf->St->Prop)(_:Dm (c,Q)):Prop:=LU P c n σ Q
def aF(c:B1)(n:Ae)(σ:St)(Q:Cf->St->Prop)(d:Dm (c,Q)):LuP P c (n+1) σ Q d=AWP P c σ λe σ'=>match e with|.normal=>LuP P c n σ' Q .mk|e=>Q e σ':=rfl
def eR(n:Ae){c:B1}{σ:St}{Q:Cf->St->Prop}{d:Dm (c,Q)}(h:LuP P c n σ Q .mk):aPp P c σ Q d:=bRq h
def Nxt{τ:Type}(I:τ->Prop)(m:τ->Ae)(S:τ->St)(x:τ)(σ':St)(_:Dm (I,m,S,x)):Prop:=∃y,I y/\m y<m x/\WkR σ' (S y)
def bD{τ:Type}{I:τ->Prop}{m:τ->Ae}{S:τ->St}{x:τ}{σ':St}{d:Dm (I,m,S,x)}(y:τ)(h1:I y)(h2:m y<m x)(h3:∃ρ,Wk σ' (S y) ρ):Nxt I m S x σ' d:=⟨y,h1,h2,.inr h3⟩
def eF{τ:Type}{c:B1}{σ:St}{Q:Cf->St->Prop}{d:Dm (c,Q)}(I:τ->Prop)(S:τ->St)(m:τ->Ae)(x0:τ)(hI:I x0)(h0:∃ρ,Wk σ (S x0) ρ)
 (h:∀x,I x->AWP P c (S x) λe σ'=>match e with|.normal=>Nxt I m S x σ' .mk|e=>Q e σ'):aPp P c σ Q d:=by
 refine nL (τ:={ x:τ // I x }) (λx=>S x.1) (λx=>m x.1) ⟨x0,hI⟩ h0 λx=>?_
 refine cast (congrArg (AWP P c (S x.1)) ?_) (h x.1 x.2)
 funext e σ'
 cases e with
 |normal=>exact propext ⟨λ⟨y,h1,h2,h3⟩=>⟨⟨y,h1⟩,h2,h3⟩,λ⟨y,h2,h3⟩=>⟨y.1,y.2,h2,h3⟩⟩
 |_=>rfl
def ExP(Q:Cf->St->Prop)(e:Cf)(σ:St)(_:Dm Q):Prop:=∃σ2,WkR σ σ2/\Q e σ2
def bQ{Q:Cf->St->Prop}{e:Cf}{σ:St}{d:Dm Q}(h:Q e σ):ExP Q e σ d:=⟨σ,.inl rfl,h⟩
def bT{τ:Type}{c:B1}{σ:St}{Q:Cf->St->Prop}{d:Dm (c,Q)}(I:τ->Prop)(S:τ->St)(m:τ->Ae)(x0:τ)(hI:I x0)(h0:∃ρ,Wk σ (S x0) ρ)
 (h:∀x,I x->AWP P c (S x) λe σ'=>match e with|.normal=>Nxt I m S x σ' .mk|e=>ExP Q e σ' .mk):aPp P c σ Q d:=by
 refine(⟨{ x:τ // I x },λx=>S x.1,λx=>m x.1,⟨x0,hI⟩,.inr h0,λx=>?_⟩:AWP P (.loop c) σ Q)
 refine gE c (λe σ' h=>?_) (h x.1 x.2)
 cases e with
 |normal=>obtain⟨y,h1,h2,h3⟩:=h;exact⟨⟨y,h1⟩,h2,h3⟩
 |_=>exact h
def cF{o:Bf}{σ:St}{con:Ad Ae}{k:St->Ad Ae->Prop}{d:Dm (o,k)} (h:O1 P o σ con k=(kind P o.op=0/\match nev P o.op σ.Γ σ.n with
 |some (av,nb)=>k ⟨bN σ.Γ o.dst av,fE σ.H σ.n nb,cnt nb σ.n⟩ con
 |none=>False)) (hk:kind P o.op=0):O1d P o σ con k d=cS (nev P o.op σ.Γ σ.n) (λp=>k ⟨bN σ.Γ o.dst p.1,fE σ.H σ.n p.2,cnt p.2 σ.n⟩ con) .mk:=by
 rw[O1d,h]
 simp only[hk,true_and]
 cases nev P o.op σ.Γ σ.n with
 |none=>rfl
 |some p=>obtain⟨a,b⟩:=p;rfl
section
variable (dst:Aq Tmp) (ty:AF) (pos:String) (after:Aw Edge) (guard:Aq (Ae×Bw)) (σ:St) (con:Ad Ae) (k:St->Ad Ae->Prop)
def aVo(x:AN)(d:Dm ((⟨dst,.move x,ty,pos,after,guard⟩:Bf),k)):O1d P ⟨dst,.move x,ty,pos,after,guard⟩ σ con k d=cS (nev P (.move x) σ.Γ σ.n) (λp=>k ⟨bN σ.Γ dst p.1,fE σ.H σ.n p.2,cnt p.2 σ.n⟩ con) .mk:=cF rfl rfl
def yY(x:AN)(d:Dm ((⟨dst,.nilCheck x,ty,pos,after,guard⟩:Bf),k)):O1d P ⟨dst,.nilCheck x,ty,pos,after,guard⟩ σ con k d=cS (nev P (.nilCheck x) σ.Γ σ.n) (λp=>k ⟨bN σ.Γ dst p.1,fE σ.H σ.n p.2,cnt p.2 σ.n⟩ con) .mk:=cF rfl rfl
def aGj(x:AN)(d:Dm ((⟨dst,.assign x,ty,pos,after,guard⟩:Bf),k)):O1d P ⟨dst,.assign x,ty,pos,after,guard⟩ σ con k d=cS (nev P (.assign x) σ.Γ σ.n) (λp=>k ⟨bN σ.Γ dst p.1,fE σ.H σ.n p.2,cnt p.2 σ.n⟩ con) .mk:=cF rfl rfl
def aVn(a b c:AN)(d:Dm ((⟨dst,.pick a b c,ty,pos,after,guard⟩:Bf),k)):O1d P ⟨dst,.pick a b c,ty,pos,after,guard⟩ σ con k d=cS (nev P (.pick a b c) σ.Γ σ.n) (λp=>k ⟨bN σ.Γ dst p.1,fE σ.H σ.n p.2,cnt p.2 σ.n⟩ con) .mk:=cF rfl rfl
def aMx(e:AF)(d:Dm ((⟨dst,.alloc e,ty,pos,after,guard⟩:Bf),k)):O1d P ⟨dst,.alloc e,ty,pos,after,guard⟩ σ con k d=cS (nev P (.alloc e) σ.Γ σ.n) (λp=>k ⟨bN σ.Γ dst p.1,fE σ.H σ.n p.2,cnt p.2 σ.n⟩ con) .mk:=cF rfl rfl
def bGs(e:AF)(x:AN)(d:Dm ((⟨dst,.box e x,ty,pos,after,guard⟩:Bf),k)):O1d P ⟨dst,.box e x,ty,pos,after,guard⟩ σ con k d=cS (nev P (.box e x) σ.Γ σ.n) (λp=>k ⟨bN σ.Γ dst p.1,fE σ.H σ.n p.2,cnt p.2 σ.n⟩ con) .mk:=cF rfl rfl
def aMv(e:AF)(x:Aw (Ae×AN))(d:Dm ((⟨dst,.build e x,ty,pos,after,guard⟩:Bf),k)):O1d P ⟨dst,.build e x,ty,pos,after,guard⟩ σ con k d=cS (nev P (.build e x) σ.Γ σ.n) (λp=>k ⟨bN σ.Γ dst p.1,fE σ.H σ.n p.2,cnt p.2 σ.n⟩ con) .mk:=cF rfl rfl
def tQ(e:AF)(n:Ae)(x:Aw (Ae×AN))(d:Dm ((⟨dst,.buildSlice e n x,ty,pos,after,guard⟩:Bf),k)):O1d P ⟨dst,.buildSlice e n x,ty,pos,after,guard⟩ σ con k d=cS (nev P (.buildSlice e n x) σ.Γ σ.n) (λp=>k ⟨bN σ.Γ dst p.1,fE σ.H σ.n p.2,cnt p.2 σ.n⟩ con) .mk:=cF rfl rfl
def vL(e:AF)(x y:AN)(d:Dm ((⟨dst,.makeSlice e x y,ty,pos,after,guard⟩:Bf),k)):O1d P ⟨dst,.makeSlice e x y,ty,pos,after,guard⟩ σ con k d=cS (nev P (.makeSlice e x y) σ.Γ σ.n) (λp=>k ⟨bN σ.Γ dst p.1,fE σ.H σ.n p.2,cnt p.2 σ.n⟩ con) .mk:=cF rfl rfl
def aCf(e:AF)(x:Aq AN)(d:Dm ((⟨dst,.makeMap e x,ty,pos,after,guard⟩:Bf),k)):O1d P ⟨dst,.makeMap e x,ty,pos,after,guard⟩ σ con k d=cS (nev P (.makeMap e x) σ.Γ σ.n) (λp=>k ⟨bN σ.Γ dst p.1,fE σ.H σ.n p.2,cnt p.2 σ.n⟩ con) .mk:=cF rfl rfl
def aMw(b:FV)(t:AF)(x y:AN)(u:AF)(d:Dm ((⟨dst,.binOp b t x y u,ty,pos,after,guard⟩:Bf),k)):O1d P ⟨dst,.binOp b t x y u,ty,pos,after,guard⟩ σ con k d=cS (nev P (.binOp b t x y u) σ.Γ σ.n) (λp=>k ⟨bN σ.Γ dst p.1,fE σ.H σ.n p.2,cnt p.2 σ.n⟩ con) .mk:=cF rfl rfl
def aVm(b:UnOp)(t:AF)(x:AN)(d:Dm ((⟨dst,.unOp b t x,ty,pos,after,guard⟩:Bf),k)):O1d P ⟨dst,.unOp b t x,ty,pos,after,guard⟩ σ con k d=cS (nev P (.unOp b t x) σ.Γ σ.n) (λp=>k ⟨bN σ.Γ dst p.1,fE σ.H σ.n p.2,cnt p.2 σ.n⟩ con) .mk:=cF rfl rfl
def aCh(s t:AF)(x:AN)(d:Dm ((⟨dst,.convert s t x,ty,pos,after,guard⟩:Bf),k)):O1d P ⟨dst,.convert s t x,ty,pos,after,guard⟩ σ con k d=cS (nev P (.convert s t x) σ.Γ σ.n) (λp=>k ⟨bN σ.Γ dst p.1,fE σ.H σ.n p.2,cnt p.2 σ.n⟩ con) .mk:=cF rfl rfl
def vN(s:AF)(x:AN)(f:Ae)(d:Dm ((⟨dst,.fieldAddr s x f,ty,pos,after,guard⟩:Bf),k)):O1d P ⟨dst,.fieldAddr s x f,ty,pos,after,guard⟩ σ con k d=cS (nev P (.fieldAddr s x f) σ.Γ σ.n) (λp=>k ⟨bN σ.Γ dst p.1,fE σ.H σ.n p.2,cnt p.2 σ.n⟩ con) .mk:=cF rfl rfl
def aMu(s:AF)(x:AN)(f:Ae)(d:Dm ((⟨dst,.field s x f,ty,pos,after,guard⟩:Bf),k)):O1d P ⟨dst,.field s x f,ty,pos,after,guard⟩ σ con k d=cS (nev P (.field s x f) σ.Γ σ.n) (λp=>k ⟨bN σ.Γ dst p.1,fE σ.H σ.n p.2,cnt p.2 σ.n⟩ con) .mk:=cF rfl rfl
def vM(s:AF)(x y:AN)(d:Dm ((⟨dst,.indexAddr s x y,ty,pos,after,guard⟩:Bf),k)):O1d P ⟨dst,.indexAddr s x y,ty,pos,after,guard⟩ σ con k d=cS (nev P (.indexAddr s x y) σ.Γ σ.n) (λp=>k ⟨bN σ.Γ dst p.1,fE σ.H σ.n p.2,cnt p.2 σ.n⟩ con) .mk:=cF rfl rfl
def aCg(x:AN)(i:Ae)(d:Dm ((⟨dst,.extract x i,ty,pos,after,guard⟩:Bf),k)):O1d P ⟨dst,.extract x i,ty,pos,after,guard⟩ σ con k d=cS (nev P (.extract x i) σ.Γ σ.n) (λp=>k ⟨bN σ.Γ dst p.1,fE σ.H σ.n p.2,cnt p.2 σ.n⟩ con) .mk:=cF rfl rfl
def aMt(t:AF)(x:AN)(a b c:Aq AN)(d:Dm ((⟨dst,.slice t x a b c,ty,pos,after,guard⟩:Bf),k)):O1d P ⟨dst,.slice t x a b c,ty,pos,after,guard⟩ σ con k d=cS (nev P (.slice t x a b c) σ.Γ σ.n) (λp=>k ⟨bN σ.Γ dst p.1,fE σ.H σ.n p.2,cnt p.2 σ.n⟩ con) .mk:=cF rfl rfl
def bGr(args:Aw AN)(ts:Aw AF)(hm:aSd P ts=Az)(d:Dm ((⟨dst,.call ⟨.builtin .len,args,ts⟩,ty,pos,after,guard⟩:Bf),k)):O1d P ⟨dst,.call ⟨.builtin .len,args,ts⟩,ty,pos,after,guard⟩ σ con k d=cS (nev P (.call ⟨.builtin .len,args,ts⟩) σ.Γ σ.n) (λp=>k ⟨bN σ.Γ dst p.1,fE σ.H σ.n p.2,cnt p.2 σ.n⟩ con) .mk:=by refine cF ?_ (by simp[kind,hm]);simp only[O1,hm,Ch,DV];rfl
def aVq(m:AN)(ts:Aw AF)(hm:aSd P ts=Ak)(d:Dm ((⟨dst,.call ⟨.builtin .len,#[m],ts⟩,ty,pos,after,guard⟩:Bf),k)):O1d P ⟨dst,.call ⟨.builtin .len,#[m],ts⟩,ty,pos,after,guard⟩ σ con k d=cS (aGm σ.H (oev σ.Γ m)) (λn=>k ⟨bN σ.Γ dst (.d (.i .i64 n)),σ.H,σ.n⟩ con) .mk:=by unfold O1d;simp only[O1,hm,CN];cases aGm σ.H (oev σ.Γ m)<;>rfl
def bHj(H:Hp)(id:Ae):aGm H (.mp id)=match H id with
 |some (.map _ es)=>Aa es.length
 |_=>none:=rfl
def bGq(args:Aw AN)(ts:Aw AF)(d:Dm ((⟨dst,.call ⟨.builtin .max,args,ts⟩,ty,pos,after,guard⟩:Bf),k)):O1d P ⟨dst,.call ⟨.builtin .max,args,ts⟩,ty,pos,after,guard⟩ σ con k d=cS (nev P (.call ⟨.builtin .max,args,ts⟩) σ.Γ σ.n) (λp=>k ⟨bN σ.Γ dst p.1,fE σ.H σ.n p.2,cnt p.2 σ.n⟩ con) .mk:=cF rfl rfl
def bGp(args:Aw AN)(ts:Aw AF)(d:Dm ((⟨dst,.call ⟨.builtin .min,args,ts⟩,ty,pos,after,guard⟩:Bf),k)):O1d P ⟨dst,.call ⟨.builtin .min,args,ts⟩,ty,pos,after,guard⟩ σ con k d=cS (nev P (.call ⟨.builtin .min,args,ts⟩) σ.Γ σ.n) (λp=>k ⟨bN σ.Γ dst p.1,fE σ.H σ.n p.2,cnt p.2 σ.n⟩ con) .mk:=cF rfl rfl
def aVp(t:AF)(x:AN)(d:Dm ((⟨dst,.load t x,ty,pos,after,guard⟩:Bf),k)):O1d P ⟨dst,.load t x,ty,pos,after,guard⟩ σ con k d=cS (mI P σ.H t (oev σ.Γ x)) (λv=>k ⟨bN σ.Γ dst v,σ.H,σ.n⟩ con) .mk:=by unfold O1d;simp only[O1,cS];split<;>simp_all
def aGg(t:AF)(m x:AN)(ok:Bw)(d:Dm ((⟨dst,.lookup t m x ok,ty,pos,after,guard⟩:Bf),k)):O1d P ⟨dst,.lookup t m x ok,ty,pos,after,guard⟩ σ con k d=cS (aGq P σ.H t (oev σ.Γ m) (oev σ.Γ x) ok) (λv=>k ⟨bN σ.Γ dst v,σ.H,σ.n⟩ con) .mk:=by unfold O1d;simp only[O1,cS];split<;>simp_all
def aMs(t:AF)(ad x:AN)(d:Dm ((⟨dst,.store t ad x,ty,pos,after,guard⟩:Bf),k)):O1d P ⟨dst,.store t ad x,ty,pos,after,guard⟩ σ con k d=cS (lF P σ.H t (oev σ.Γ ad) (oev σ.Γ x)) (λp=>k ⟨bN σ.Γ dst .un,upd σ.H p.1 (Aa p.2),σ.n⟩ con) .mk:=by unfold O1d;simp only[O1,cS];split<;>simp_all
def vK(t:AF)(m x v:AN)(d:Dm ((⟨dst,.mapUpdate t m x v,ty,pos,after,guard⟩:Bf),k)):O1d P ⟨dst,.mapUpdate t m x v,ty,pos,after,guard⟩ σ con k d=cS (rG P σ.H t (oev σ.Γ m) (oev σ.Γ x) (Aa (oev σ.Γ v))) (λp=>k ⟨bN σ.Γ dst .any,upd σ.H p.1 (Aa p.2),σ.n⟩ con) .mk:=by unfold O1d;simp only[O1,cS];split<;>simp_all
def aGh(t:AF)(m x v:AN)(d:Dm ((⟨dst,.insert t m x v,ty,pos,after,guard⟩:Bf),k)):O1d P ⟨dst,.insert t m x v,ty,pos,after,guard⟩ σ con k d=cS (rG P σ.H t (oev σ.Γ m) (oev σ.Γ x) (Aa (oev σ.Γ v))) (λp=>k ⟨bN σ.Γ dst .any,upd σ.H p.1 (Aa p.2),σ.n⟩ con) .mk:=by unfold O1d;simp only[O1,cS];split<;>simp_all
def aGi(m x:AN)(t u:AF)(d:Dm ((⟨dst,.call ⟨.builtin .delete,#[m,x],#[t,u]⟩,ty,pos,after,guard⟩:Bf),k)):O1d P ⟨dst,.call ⟨.builtin .delete,#[m,x],#[t,u]⟩,ty,pos,after,guard⟩ σ con k d=cS (rG P σ.H t (oev σ.Γ m) (oev σ.Γ x) Aj) (λp=>k ⟨bN σ.Γ dst .any,upd σ.H p.1 (Aa p.2),σ.n⟩ con) .mk:=by unfold O1d;simp only[O1,cS];split<;>simp_all
def aGk(s x:AN)(t:AF)(d:Dm ((⟨dst,.call ⟨.builtin .append,#[s,x],#[t,t]⟩,ty,pos,after,guard⟩:Bf),k)):O1d P ⟨dst,.call ⟨.builtin .append,#[s,x],#[t,t]⟩,ty,pos,after,guard⟩ σ con k d=cS (aFi P σ.H t (oev σ.Γ s) (oev σ.Γ x) σ.n) (λp=>k ⟨bN σ.Γ dst p.1,fE (kill p.2.2 σ.H) σ.n p.2.1,cnt p.2.1 σ.n⟩ (p.2.2++con)) .mk:=by
 unfold O1d;simp only[O1,cS];simp only[true_and];cases aFi P σ.H t (oev σ.Γ s) (oev σ.Γ x) σ.n with
 |none=>rfl
 |some p=>obtain⟨a,b,c⟩:=p;rfl
end
def aXo(P:As)[M:Mch P](f:AU)(avs:Ad AV)(H:Hp)(k:D->Prop)(_:Dm k):Prop:=∃ds r,cK H avs=Aa ds/\Spec P f ds r/\k r
def iD{f:AU}{avs:Ad AV}{H:Hp}{k:D->Prop}{d:Dm k}{ds:Ad D}{r:D}(h1:cK H avs=Aa ds)(h2:Spec P f ds r)(h3:k r):aXo P f avs H k d:=⟨ds,r,h1,h2,h3⟩
def slQ{i n:Ae}(h:i<n):n-(i+1)<n-i:=Nat.sub_lt_sub_left h (CM _)
def aL{f:AU}{avs:Ad AV}{H:Hp}{k:D->Prop}{d:Dm k}{ds:Ad D}{r:D}(h2:Spec P f ds r)(h3:k r)(h1:cK H avs=Aa ds:=by rfl):aXo P f avs H k d:=⟨ds,r,h1,h2,h3⟩
def bWe(P:As)[M:Mch P](f:AU)(x:Aq (Ae×AV))(rest:Ad AV)(H:Hp)(k:Ae->HO->D->Prop)(_:Dm k):Prop :=
 ∃id h ho,x=Aa (id,h)/\H id=Aa ho/\kL ho=Ak/\bW H rest=[]/\∃ds ho' r,cK H rest=Aa ds/\jV P f h ho ds ho' r/\ho'.len=ho.len/\kL ho'=Ak/\k id ho' r
def eZ{f:AU}{rest:Ad AV}{H:Hp}{k:Ae->HO->D->Prop}{d:Dm k}{id:Ae}{h:AV}{ho ho':HO}{ds:Ad D}{r:D}(h1:H id=Aa ho)(h2:kL ho=Ak)(h3:bW H rest=[])
 (h4:cK H rest=Aa ds) (h5:jV P f h ho ds ho' r) (h6:ho'.len=ho.len) (h7:kL ho'=Ak) (h8:k id ho' r):bWe P f (Aa (id,h)) rest H k d:=⟨id,h,ho,rfl,h1,h2,h3,ds,ho',r,h4,h5,h6,h7,h8⟩
def cDr:Ad AV->Bw
 |[.kf _ _]=>Ak
 |_=>Az
def aVr(dst:Aq Tmp)(ty:AF)(pos:String)(after:Aw Edge)(guard:Aq (Ae×Bw))(σ:St)(con:Ad Ae)(k:St->Ad Ae->Prop)(f:AU)(args:Ad AN)(ts:Aw AF)
 (d:Dm ((⟨dst,.call ⟨.value (.func f),args.toArray,ts⟩,ty,pos,after,guard⟩:Bf),k)) (hm:qS P f=Az) (hn:aRy P f=Az) (hk:cDr (args.map (oev σ.Γ))=Az):O1d P ⟨dst,.call ⟨.value (.func f),args.toArray,ts⟩,ty,pos,after,guard⟩ σ con k d =
 aXo P f (args.map (oev σ.Γ)) σ.H (λr=>k ⟨bN σ.Γ dst (inj r),kill (bM σ.H (args.map (oev σ.Γ)) r) σ.H,σ.n⟩ (bM σ.H (args.map (oev σ.Γ)) r++con)) .mk:=by
 show OC P f args.toArray dst σ con k=_
 unfold OC OC0 aXo
 simp only[hm,hn,Ch,DV,false_and,false_or,or_false]
 split
 .rename_i hx;rw[show args.map (oev σ.Γ)=_ from hx]at hk;cases hk
 .rfl
def jP{dst:Aq Tmp}{ty:AF}{pos:String}{after:Aw Edge}{guard:Aq (Ae×Bw)}{σ:St}{con:Ad Ae}{k:St->Ad Ae->Prop}{f:AU}{x:AN}{rest:Ad AN}{ts:Aw AF}
 {d:Dm ((⟨dst,.call ⟨.value (.func f),(x::rest).toArray,ts⟩,ty,pos,after,guard⟩:Bf),k)} (hm:qS P f=Ak)
 (h:bWe P f (hd1 (oev σ.Γ x)) (rest.map (oev σ.Γ)) σ.H (λid ho' r=>k ⟨bN σ.Γ dst (inj r),upd σ.H id (Aa ho'),σ.n⟩ con) .mk):O1d P ⟨dst,.call ⟨.value (.func f),(x::rest).toArray,ts⟩,ty,pos,after,guard⟩ σ con k d:=by
 obtain⟨id,hh,ho,h1,h2,h3,h4,h5⟩:=h
 show OC P f (x::rest).toArray dst σ con k
 refine .inl ?_
 unfold OC0
 simp only[hm,CN,h1,h2]
 exact .inr (.inl ⟨h3,h4,h5⟩)
def vJ{dst:Aq Tmp}{ty:AF}{pos:String}{after:Aw Edge}{guard:Aq (Ae×Bw)}{σ:St}{con:Ad Ae}{k:St->Ad Ae->Prop}{f:AU}{args:Ad AN}{ts:Aw AF}
 {d:Dm ((⟨dst,.call ⟨.value (.func f),args.toArray,ts⟩,ty,pos,after,guard⟩:Bf),k)} (ds:Ad D) (v:Ae->AV) (hs:Ae->Ad HO) (hm:qS P f=Az) (hn:aRy P f=Ak) (hpos:0<σ.n) (hfr:cK σ.H (args.map (oev σ.Γ))=Aa ds)
 (hvis:bW σ.H (args.map (oev σ.Γ))=[]) (hsp:aEn P f ds v hs) (hk:k ⟨bN σ.Γ dst (v σ.n),iY σ.H σ.n (hs σ.n),σ.n+(hs σ.n).length⟩ con) :
 O1d P ⟨dst,.call ⟨.value (.func f),args.toArray,ts⟩,ty,pos,after,guard⟩ σ con k d:=by
 show OC P f args.toArray dst σ con k
 refine .inl ?_
 unfold OC0
 simp only[hm,Ch,DV]
 exact .inl ⟨hn,hpos,v,hs,.inl ⟨ds,hfr,hvis,hsp⟩,hk⟩
def aGf{dst:Aq Tmp}{ty:AF}{pos:String}{after:Aw Edge}{guard:Aq (Ae×Bw)}{σ:St}{con:Ad Ae}{k:St->Ad Ae->Prop}{f:AU}{args:Ad AN}{ts:Aw AF}
 {d:Dm ((⟨dst,.call ⟨.value (.func f),args.toArray,ts⟩,ty,pos,after,guard⟩:Bf),k)} (v:Ae->AV) (hs:Ae->Ad HO) (hm:qS P f=Az) (hn:aRy P f=Ak) (hpos:0<σ.n) (hno:(args.map (oev σ.Γ)).all aFb=Ak)
 (hsp:aEm P f (args.map (oev σ.Γ)) v hs) (hk:k ⟨bN σ.Γ dst (v σ.n),iY σ.H σ.n (hs σ.n),σ.n+(hs σ.n).length⟩ con) :
 O1d P ⟨dst,.call ⟨.value (.func f),args.toArray,ts⟩,ty,pos,after,guard⟩ σ con k d:=by
 show OC P f args.toArray dst σ con k
 refine .inl ?_
 unfold OC0
 simp only[hm,Ch,DV]
 exact .inl ⟨hn,hpos,v,hs,.inr ⟨hno,hsp⟩,hk⟩
def xQ{dst:Aq Tmp}{ty:AF}{pos:String}{after:Aw Edge}{guard:Aq (Ae×Bw)}{σ:St}{con:Ad Ae}{k:St->Ad Ae->Prop}{f:AU}{x:AN}{rest:Ad AN}{ts:Aw AF}
 {d:Dm ((⟨dst,.call ⟨.value (.func f),(x::rest).toArray,ts⟩,ty,pos,after,guard⟩:Bf),k)} {h:AV} {ds:Ad D} {r:D} {l:Ad Ae} (hm:qS P f=Ak) (hx:oev σ.Γ x=h) (hx1:hd1 h=Aj) (hno:aFb h=Ak)
 (hvis:bW σ.H (rest.map (oev σ.Γ))=l) (hfr:cK σ.H (rest.map (oev σ.Γ))=Aa ds) (hsp:aPl P f h Aj ds r) (hk:k ⟨bN σ.Γ dst (inj r),kill l σ.H,σ.n⟩ (l++con)) :
 O1d P ⟨dst,.call ⟨.value (.func f),(x::rest).toArray,ts⟩,ty,pos,after,guard⟩ σ con k d:=by
 subst hvis
 subst hx
 show OC P f (x::rest).toArray dst σ con k
 refine .inl ?_
 unfold OC0
 simp only[hm,CN,hx1]
 exact .inl ⟨hno,ds,r,hfr,hsp,hk⟩
def bGo{dst:Aq Tmp}{ty:AF}{pos:String}{after:Aw Edge}{guard:Aq (Ae×Bw)}{σ:St}{con:Ad Ae}{k:St->Ad Ae->Prop}{f:AU}{x y:AN}{rest:Ad AN}{ts:Aw AF}
 {d:Dm ((⟨dst,.call ⟨.value (.func f),(x::y::rest).toArray,ts⟩,ty,pos,after,guard⟩:Bf),k)} {d0:D} {id:Ae} {h:AV} {ho:HO} {ds:Ad D} {ho':HO} (hm:qS P f=Ak) (hx:oev σ.Γ x=.d d0) (hd0:hd1 (.d d0)=Aj) (hy:hd1 (oev σ.Γ y)=Aa (id,h)) (hH:σ.H id=Aa ho) (hfl:wG ho=Ak)
 (hnv:id ∉ bW σ.H (rest.map (oev σ.Γ))) (hfr:cK σ.H (rest.map (oev σ.Γ))=Aa ds) (hsp:aPo P f d0 h ho ds ho') (hlen:ho'.len=ho.len) (hfl':wG ho'=Ak) (hk:k ⟨bN σ.Γ dst (inj (.tp [])),upd σ.H id (Aa ho'),σ.n⟩ con) :
 O1d P ⟨dst,.call ⟨.value (.func f),(x::y::rest).toArray,ts⟩,ty,pos,after,guard⟩ σ con k d:=by
 show OC P f (x::y::rest).toArray dst σ con k
 refine .inl ?_
 unfold OC0
 simp only[hm,CN,hx,hd0]
 exact .inr ⟨d0,_,_,id,h,ho,ds,ho',rfl,rfl,hy,hH,hfl,hnv,hfr,hsp,hlen,hfl',hk⟩
def aVi(ops:Aw Bf)(σ:St)(con:Ad Ae)(k:St->Ad Ae->Prop)(d:Dm (ops,([]:Ad Bf),k)):OWd P ops [] σ con k d=k σ con:=rfl
def aMj(ops:Aw Bf)(dst:Aq Tmp)(op:Op)(ty:AF)(pos:String)(after:Aw Edge)(l:Ad Bf)(σ:St)(con:Ad Ae)(k:St->Ad Ae->Prop)(d:Dm (ops,(⟨dst,op,ty,pos,after,Aj⟩::l:Ad Bf),k)) :
 OWd P ops (⟨dst,op,ty,pos,after,Aj⟩::l) σ con k d=O1d P ⟨dst,op,ty,pos,after,Aj⟩ σ con (λσ' con'=>OWd P ops l σ' con' k .mk) .mk:=rfl
def aMi(ops:Aw Bf)(dst:Aq Tmp)(op:Op)(ty:AF)(pos:String)(after:Aw Edge)(g:Ae×Bw)(l:Ad Bf)(σ:St)(con:Ad Ae)(k:St->Ad Ae->Prop)(d:Dm (ops,(⟨dst,op,ty,pos,after,Aa g⟩::l:Ad Bf),k)) :
 OWd P ops (⟨dst,op,ty,pos,after,Aa g⟩::l) σ con k d=cS (cJ ops ⟨dst,op,ty,pos,after,Aa g⟩ σ.Γ) (λt=>IfD t (O1d P ⟨dst,op,ty,pos,after,Aa g⟩ σ con (λσ' con'=>OWd P ops l σ' con' k .mk) .mk) (OWd P ops l ⟨bN σ.Γ dst .un,σ.H,σ.n⟩ con k .mk) .mk) .mk:=by
 show(match cJ ops ⟨dst,op,ty,pos,after,Aa g⟩ σ.Γ with
 |some Ak=>O1 P ⟨dst,op,ty,pos,after,Aa g⟩ σ con λσ' con'=>OW P ops l σ' con' k
 |some Az=>OW P ops l ⟨bN σ.Γ dst .un,σ.H,σ.n⟩ con k
 |none=>False)=_
 cases cJ ops ⟨dst,op,ty,pos,after,Aa g⟩ σ.Γ with
 |none=>rfl
 |some t=>cases t<;>simp[cS,IfD,O1d,OWd]
def bZe(t:Bw)(x y:Bw):(if t=Ak then AV.d (.b x)else AV.d (.b y))=AV.d (.b (if t then x else y)):=by cases t<;>rfl
open RowKit (Below)
variable {P:As} [M:Mch P]
def bWt[Pn:nA]{σ:St}{sl:Ad (Ae×AV)}{H':Hp}{n':Ae}(hslot:iT σ.H H' (λi=>i) σ.Γ sl)(hblk:∀id o',H' id=Aa o'->∃o,σ.H id=Aa o/\mZ σ.H H' (λi=>i) o o')
 (htop:∀id,n'<=id->H' id=Aj) (hn:∀id,Pn.p id->id<n'):Wk σ ⟨gK sl,H',n'⟩ (λi=>i):=by
 refine⟨htop,λt=>?_,hblk,λ_ _ _ _ e=>e,λ_ _ _=>rfl,λid h1 h2=>by have:=hn id h1;simp only at h2;omega⟩
 show Sub _ _ _ _ (gK sl t)
 rcases uY sl t with h|⟨p,hp,rfl,h⟩
 .rw[h];exact sE _
 .rw[h];exact nE hslot _ hp
def bNr[Pn:nA]{σ:St}{sl:Ad (Ae×AV)}{H':Hp}{n':Ae}(ρ:Ae->Ae)(hslot:iT σ.H H' ρ σ.Γ sl)(hblk:∀id o',H' id=Aa o'->∃o,σ.H (ρ id)=Aa o/\mZ σ.H H' ρ o o')
 (hinj:∀id id',(H' id).isSome=Ak->(H' id').isSome=Ak->ρ id=ρ id'->id=id') (hpin:∀id,Pn.p id->(H' id).isSome=Ak->ρ id=id) (htop:∀id,n'<=id->H' id=Aj) (hn:∀id,Pn.p id->id<n'):Wk σ ⟨gK sl,H',n'⟩ ρ:=by
 refine⟨htop,λt=>?_,hblk,hinj,hpin,λid h1 h2=>by have:=hn id h1;simp only at h2;omega⟩
 show Sub _ _ _ _ (gK sl t)
 rcases uY sl t with h|⟨p,hp,rfl,h⟩
 .rw[h];exact sE _
 .rw[h];exact nE hslot _ hp
def nB{σ:St}{sl:Ad (Ae×AV)}{H':Hp}{n':Ae}(hslot:iT σ.H H' (λi=>i) σ.Γ sl)(hblk:∀id o',H' id=Aa o'->∃o,σ.H id=Aa o/\mZ σ.H H' (λi=>i) o o')
 (htop:∀id,n'<=id->H' id=Aj) (hn:0<n'):Wk σ ⟨gK sl,H',n'⟩ (λi=>i):=bWt hslot hblk htop λid h=>by have h:id=0:=h;omega
def bWu{σ:St}{sl:Ad (Ae×AV)}{H':Hp}{n':Ae}(ρ:Ae->Ae)(hslot:iT σ.H H' ρ σ.Γ sl)(hblk:∀id o',H' id=Aa o'->∃o,σ.H (ρ id)=Aa o/\mZ σ.H H' ρ o o')
 (hinj:∀id id',(H' id).isSome=Ak->(H' id').isSome=Ak->ρ id=ρ id'->id=id') (hpin:(H' 0).isSome=Ak->ρ 0=0) (htop:∀id,n'<=id->H' id=Aj) (hn:0<n'):Wk σ ⟨gK sl,H',n'⟩ ρ :=
 bNr ρ hslot hblk hinj (λid h hs=>by have h:id=0:=h;subst h;exact hpin hs) htop λid h=>by have h:id=0:=h;omega
def bPk{G:Ctx}{fn:Func}{σ:St}{a:Act}{w:Ag}{ad:Tmp}{t:AF}{av:AV}{F:Ae->Prop}{ι:Ae->Aq Ae}(hR:HR G F w ι bG σ.H)(hV:∀t,V F w ι (σ.Γ t) (a.tmps.getD t undef))(hres:fn.results.toList=[.cell ad t])(h:jN P σ (.cell ad t)=Aa av) :
 ∃v,aU P (results fn a.tmps) w=.ok v w/\V F w ι av v:=by
 have hx:∃v,aU P (do loadVar t (<-asAddr (a.tmps.getD ad undef)):Sem AE) w=.ok v w/\V F w ι av v:=by
  simp only[jN]at h;obtain⟨u,hu,hv⟩:=vU (P:=P) hR (λ_ _ h=>h) h (hV ad);refine⟨u,?_,hv⟩;simp only[E7]at hu;generalize a.tmps.getD ad undef=p at hu ⊢;cases p with
  | pointer q=>cases q with
   |some q=>simpa[CH,asAddr]using hu
   |none=>simp[CH]at hu
  |_=>simp[CH]at hu
 obtain⟨v,h1,h2⟩:=hx
 refine⟨v,?_,h2⟩
 have h1':aU P ([ResultVar.cell ad t].mapM (m:=Sem) λ|.tmp t=>pure (a.tmps.getD t undef)|.cell ad t=>do loadVar t (<-asAddr (a.tmps.getD ad undef))) w=.ok [v] w:=by simp only[CG,G5,aB,h1,AR,aX]
 simp only[results,Ec,aB,fX,hres]
 erw [h1']
 simp
def jX(v:Ae->AV)(hs:Ae->Ad HO)(m:Ae):St:=⟨upd (λ_=>.any) 0 (v m),iY (λ_=>Aj) m (hs m),m+(hs m).length⟩
end Go.Am
namespace Go.Am
variable {P:As} [M:Mch P]
def pZ:Ad AE->Bw
 |[]=>Ak
 |v::l=>v.oneCell'&&pZ l
def aTy:pZ []=true:=rfl
def aPg(v:AE)(l:Ad AE):pZ (v::l)=(v.oneCell'&&pZ l):=rfl
def yL(a:Aw AE):a.all CZ=pZ a.toList:=by
 rw[<-Array.all_toList];generalize a.toList=l;induction l with
 |nil=>rfl
 |cons v l ih=>simp only[Gq,pZ,ih]
section
variable (Γ:Ae->AV) (n:Ae)
def bRc(x:AN):nev P (.move x) Γ n=Aa (oev Γ x,Aj):=rfl
def aZn(x:AN):nev P (.assign x) Γ n=Aa (oev Γ x,Aj):=rfl
def bRb(c a b:AN):nev P (.pick c a b) Γ n=cU ((wQ (oev Γ c)).map λt=>if t then oev Γ a else oev Γ b):=rfl
def bGz(e:AF):nev P (.alloc e) Γ n=(tz P e).map λz=>(.ptr n 0,Aa (.cells e (z.cells.toList.map cv1))):=rfl
def bYr(e:AF)(x:AN):nev P (.box e x) Γ n=(eC (oev Γ x)).map λcs=>(.ptr n 0,Aa (.cells e cs)):=rfl
def bGx(t : AF)(ps : Ad (Ae×AN)) : nev P (.build t ps.toArray) Γ n = cU ((tz P t).bind λz => (plc P t).bind λpl => if pZ z.cells.toList then
 (mQ pl (z.cells.toList.map cv1) (ps.map λp=>(p.1,oev Γ p.2))).map .ag else Aj):=by
 simp only[nev,yL]
def bQn(t:AF):plc P t=match eH P t with
 |some fl=>Aa (fl[·]?)
 |none=>(oE P t).bind λp=>(tsz P p.2).map λsz=>λi=>Aa (i*sz,sz):=rfl
def aFa(t : AF)(len : Ae)(ps : Ad (Ae×AN)) : nev P (.buildSlice t len ps.toArray) Γ n = (tel P t).bind λe => (tsz P e).bind λsz => (tz P e).bind λz =>
 if z.cells.toList.length=sz/\0<sz/\len*sz<=16777216/\pZ z.cells.toList=Ak then
  (mQ (λi=>Aa (i*sz,sz)) ((AO len (z.cells.toList.map cv1)).flatten) (ps.map λp=>(p.1,oev Γ p.2))).map λcs=>(.own n 0 len sz,Aa (.cells e cs))
 else none:=by
 simp only[nev,yL,BP]
def aIy(t : AF)(l c : AN) : nev P (.makeSlice t l c) Γ n = (tel P t).bind λe => (tsz P e).bind λsz => (tz P e).bind λz => (tby P e).bind λby_ => (fB (oev Γ l)).bind λa => (fB (oev Γ c)).bind λb =>
 if z.cells.toList.length=sz/\0<sz/\pZ z.cells.toList=Ak/\0<=a/\a<=b/\(by_:Al)*b<=281474976710656/\b<=9223372036854775807 then
  Aa (.own n 0 a.toNat sz,Aa (.cells e (AO a.toNat (z.cells.toList.map cv1)).flatten))
 else none:=by
 simp only[nev,yL,BP]
def bGy(op:FV)(t:AF)(x y:AN)(u:AF):nev P (.binOp op t x y u) Γ n=cU (match aZp op (tel P t) (oev Γ x) (oev Γ y)with|some r=>Aa r|none=>match dT op (aBf P t) (oev Γ x) (oev Γ y)with|some r=>Aa (.d r)|none=>match bUw op (tai P t) (oev Γ x) (oev Γ y)with|some r=>Aa (.d r)|none=>match bUv op (tst P t) (oev Γ x) (oev Γ y)with|some r=>Aa (.d r)|none=>(bTc op (tfn P t) (oev Γ x) (oev Γ y)).map .d):=rfl
def aMy(x:AN):nev P (.nilCheck x) Γ n=cU (bLa (oev Γ x)):=rfl
def bKz(id o:Ae):bLa (.ptr id o)=Aa (.ptr id o):=rfl
def bUk(cs:Ad D):bLa (.fp cs)=Aa (.fp cs):=rfl
def bRa(op:UnOp)(t:AF)(x:AN):nev P (.unOp op t x) Γ n=cU ((unA op (oev Γ x)).map .d):=rfl
def aRw(s t:AF)(x:AN):nev P (.convert s t x) Γ n=cU ((fS P t).bind λk=>(fB (oev Γ x)).bind λm=>if(P.underlying s).isSome then Aa (.d (.i k (k.wrap m)))else Aj):=rfl
def aJa(s:AF)(x:AN)(f:Ae):nev P (.fieldAddr s x f) Γ n=cU ((eH P s).bind λfl=>(fl[f]?).bind λp=>if p.2=0 then Aj else yD p.1 (oev Γ x)):=rfl
def aIz(t : AF)(x i : AN) : nev P (.indexAddr t x i) Γ n = cU ((fB (oev Γ i)).bind λk => match tel P t with
 |some e=>(tsz P e).bind λsz=>uJ sz k (oev Γ x)
 |none=>(oE P t).bind λp=>(tsz P p.2).bind λsz=>xY sz p.1 k (oev Γ x)):=rfl
def aRv(x:AN)(i:Ae):nev P (.extract x i) Γ n=cU ((aYf (oev Γ x)).bind λvs=>vs[i]?):=rfl
def bGu(t : AF)(x : AN)(lo hi mx : Aq AN) : nev P (.slice t x lo hi mx) Γ n = cU ((tel P t).bind λe => (tsz P e).bind λsz => (aFd (oev Γ x)).bind λn => (aMk lo Γ 0).bind λl => (aMk hi Γ n).bind λh =>
 match mx with
 |none=>iW sz (oev Γ x) l h Az
 |some y=>(fB (oev Γ y)).bind λm=>if m=h/\hi.isSome then iW sz (oev Γ x) l h Ak else Aj):=rfl
def bYq(x:AN)(t:AF):nev P (.call ⟨.builtin .len,#[x],#[t]⟩) Γ n=cU ((tel P t).bind λ_=>(aFd (oev Γ x)).map λn=>.d (.i .i64 n)):=rfl
def cDh:AV->AV->Aq AV
 |.d (.i k a),.d (.i _ b)=>Aa (.d (.i k (if b>a then b else a)))
 |_,_=>Aj
def cDf:AV->AV->Aq AV
 |.d (.i k a),.d (.i _ b)=>Aa (.d (.i k (if b<a then b else a)))
 |_,_=>Aj
def bZa(k k':BJ)(a b:Al):cDh (.d (.i k a)) (.d (.i k' b))=Aa (.d (.i k (if b>a then b else a))):=rfl
def bYy(k k':BJ)(a b:Al):cDf (.d (.i k a)) (.d (.i k' b))=Aa (.d (.i k (if b<a then b else a))):=rfl
def bYp(x y:AN)(ts:Aw AF):nev P (.call ⟨.builtin .max,#[x,y],ts⟩) Γ n=cU (cDh (oev Γ x) (oev Γ y)):=rfl
def bYo(x y:AN)(ts:Aw AF):nev P (.call ⟨.builtin .min,#[x,y],ts⟩) Γ n=cU (cDf (oev Γ x) (oev Γ y)):=rfl
def bGw(s:AF)(x:AN)(f:Ae):nev P (.field s x f) Γ n=cU ((bDt P s f).bind λp=>(zW (oev Γ x)).bind λcs=>if p.2.1 then(if p.1+p.2.2<=cs.length then Aa (.ag ((cs.drop p.1).take p.2.2))else Aj)else cs[p.1]?):=rfl
def aRu(t:AF)(r:Aq AN):nev P (.makeMap t r) Γ n=(tmp P t).bind λp=>(fS P p.1).bind λk=>(match r with|none=>Aa 0|some x=>fB (oev Γ x)).map λ_=>(.mp n,Aa (.map k [])):=rfl
end
def bRo(H:Hp)(ds:Ad D):(ds.map AV.d).mapM (frz H 7)=Aa ds:=aCn H 6 ds
def bRp(H:Hp)(ds:Ad D):(ds.map AV.d).mapM (frz H 6)=Aa ds:=aCn H 5 ds
def bUj(sz:Ae)(l:Ad D):chunk sz 0 l=[]:=rfl
def bUi(sz:Ae)(l:Ad D):chunk sz 1 l=[l.take sz]:=by simp[chunk,GC]
def bUh(sz:Ae)(l:Ad D):chunk sz 2 l=[l.take sz,(l.drop sz).take sz]:=by simp[chunk,GC]
def bIe(H:Hp)(avs:Ad AV)(l:Ad D):bM H avs (.ag l)=bW H avs:=rfl
def bRy(H:Hp)(avs:Ad AV)(x:Bw):bM H avs (.b x)=[]:=rfl
def bRx(H:Hp)(avs:Ad AV)(k:BJ)(n:Al):bM H avs (.i k n)=[]:=rfl
def bIa(H:Hp)(avs:Ad AV)(l:Ad D):bM H avs (.tp l)=if l.all wH then[]else bW H avs:=rfl
def bIb(H:Hp)(avs:Ad AV)(l:Ad (Ad D)):bM H avs (.sl l)=bW H avs:=rfl
def aLa(H:Hp):bW H []=[]:=rfl
def aFo(H:Hp)(a:AV)(l:Ad AV):bW H (a::l)=vis H 8 a++bW H l:=rfl
def bDj(H:Hp)(n:Ae)(x:D):vis H n (.d x)=[]:=by cases n<;>rfl
def bNz(H:Hp)(n:Ae):vis H n .nil=[]:=by cases n<;>rfl
def bXa(H:Hp)(n:Ae)(x:Ad (Ad D)):vis H n (.fd x)=[]:=by cases n<;>rfl
def bXb(H:Hp)(n:Ae)(cs:Ad AV):vis H (n+1) (.ag cs)=cs.flatMap (vis H n):=rfl
def bDi(H:Hp)(n:Ae)(ds:Ad D):(ds.map AV.d).flatMap (vis H n)=[]:=by
 induction ds with
 |nil=>rfl
 |cons d ds ih=>rw[BX,List.flatMap_cons,ih,bDj];rfl
def cBt(H:Hp)(n id off len sz:Ae)(ho:Aq HO):Ad Ae:=match ho with
 |some (.cells _ cs)=>id::((cs.drop (off*sz)).take (len*sz)).flatMap (vis H n)
 |_=>[]
def bNy(H:Hp)(n id off len sz:Ae):vis H (n+1) (.own id off len sz)=cBt H n id off len sz (H id):=rfl
def aQd(H:Hp)(n id off len sz:Ae)(e:AF)(cs:Ad AV):cBt H n id off len sz (Aa (.cells e cs))=id::((cs.drop (off*sz)).take (len*sz)).flatMap (vis H n):=rfl
def bHz(c:AV)(cells:Ad AV)(off:Ae)(cs:Ad AV):lay (c::cells) off cs=(c::cells).take off++cs++(c::cells).drop (off+cs.length):=rfl
def aRk(v:AV):cU (Aa v)=Aa (v,Aj):=rfl
def cEj(sl:Ad (Ae×AV))(o0:Aq HO)(hs:Ad HO):(StL sl o0 hs).Γ=gK sl:=rfl
def cEl(sl:Ad (Ae×AV))(hs:Ad HO):(StL sl Aj hs).H=zV 1 hs:=rfl
def cAs(sl:Ad (Ae×AV))(o:HO)(hs:Ad HO):(StL sl (Aa o) hs).H=upd (zV 1 hs) 0 (Aa o):=rfl
def cEk(sl:Ad (Ae×AV))(o0:Aq HO)(hs:Ad HO):(StL sl o0 hs).n=hs.length+1:=rfl
def bPa(p:Ae×AV)(l:Ad (Ae×AV))(t:Ae):gK (p::l) t=if t=p.1 then p.2 else gK l t:=rfl
def bEi(t:Ae):gK [] t=.any:=rfl
def bUr(i:Ae)(o:HO)(os:Ad HO)(j:Ae):zV i (o::os) j=if j=i then Aa o else zV (i+1) os j:=rfl
def bLf(i j:Ae):zV i [] j=none:=rfl
def aIx(Γ:Ae->AV)(t:Ae):oev Γ (.tmp t)=Γ t:=rfl
def cCy(Γ:Ae->AV)(k:BJ)(n:Al):oev Γ (.const (.int k n))=.d (.i k n):=rfl
def cCz(Γ:Ae->AV)(x:Bw):oev Γ (.const (.bool x))=.d (.b x):=rfl
def bQy(Γ:Ae->AV):oev Γ (.const (.slice Aj 0 0))=.nil:=rfl
def bQz(Γ:Ae->AV)(cs:Aw AE):oev Γ (.const (.agg cs))=.ag (cs.toList.map cv1):=rfl
def cDz(k:BJ)(n:Al):cv1 (.int k n)=.d (.i k n):=rfl
def cEa(x:Bw):cv1 (.bool x)=.d (.b x):=rfl
def bUd:cv1 (.slice Aj 0 0)=.nil:=rfl
def bBj(cs:Aw AE):EG (.agg cs)=cs:=rfl
def bUl(k:BJ)(n:Al):EG (.int k n)=#[.int k n]:=rfl
def bUm(x:Bw):EG (.bool x)=#[.bool x]:=rfl
def bLb(a:Aq Addr)(n c:Ae):EG (.slice a n c)=#[.slice a n c]:=rfl
def bYm(k:BJ)(n:Al):CZ (.int k n)=true:=rfl
def bYn(x:Bw):CZ (.bool x)=true:=rfl
def bQv(a:Aq Addr)(n c:Ae):CZ (.slice a n c)=true:=rfl
def bYl(x:Bw):one (.d (.b x))=true:=rfl
def bYk(k:BJ)(n:Al):one (.d (.i k n))=true:=rfl
def bQu(l:Ad (Ad D)):one (.d (.sl l))=true:=rfl
def bQt:one .nil=true:=rfl
def bQs(a b c d:Ae):one (.own a b c d)=true:=rfl
def bQr(a b:Ae):one (.ptr a b)=true:=rfl
def bYh(a:Ae):one (.mp a)=true:=rfl
def bYj(l:Ad (Ad D)):one (.fd l)=true:=rfl
def bYi(l:Ad D):one (.fp l)=true:=rfl
def bBo(x:Bw):eC (.d (.b x))=Aa [.d (.b x)]:=rfl
def bBn(k:BJ)(n:Al):eC (.d (.i k n))=Aa [.d (.i k n)]:=rfl
def aTk(l:Ad (Ad D)):eC (.d (.sl l))=Aa [.d (.sl l)]:=rfl
def aTj:eC .nil=Aa [.nil]:=rfl
def aTi(a b c d:Ae):eC (.own a b c d)=Aa [.own a b c d]:=rfl
def aTh(a b:Ae):eC (.ptr a b)=Aa [.ptr a b]:=rfl
def bBk(a:Ae):eC (.mp a)=Aa [.mp a]:=rfl
def bBm(l:Ad (Ad D)):eC (.fd l)=Aa [.fd l]:=rfl
def bBp(cs:Ad AV):eC (.ag cs)=if cs.all one then Aa cs else none:=rfl
def aTm(cs:Ad D):eC (.d (.ag cs))=if(cs.map AV.d).all one then Aa (cs.map .d)else none:=rfl
def bUy(cs:Ad AV):zW (.ag cs)=Aa cs:=rfl
def bMf(cs:Ad D):zW (.d (.ag cs))=Aa (cs.map .d):=rfl
def bOm(cs:Ad AV):aYf (.tp cs)=Aa cs:=rfl
def bDr(cs:Ad D):aYf (.d (.tp cs))=Aa (cs.map .d):=rfl
def bIo(k:BJ)(n:Al):fB (.d (.i k n))=Aa n:=rfl
def bBs(x:Bw):wQ (.d (.b x))=Aa x:=rfl
def aZj(Γ:Ae->AV)(n:Al):aMk Aj Γ n=Aa n:=rfl
def aZi(Γ:Ae->AV)(x:AN)(n:Al):aMk (Aa x) Γ n=fB (oev Γ x):=rfl
def bHx(l:Ad (Ad D)):aFd (.d (.sl l))=Aa (l.length:Al):=rfl
def bRv(l:Ad (Ad D)):aFd (.fd l)=Aa (l.length:Al):=rfl
def bHw:aFd .nil=Aa 0:=rfl
def bHv(a b c d:Ae):aFd (.own a b c d)=Aa (c:Al):=rfl
def aSv(off id o:Ae):yD off (.ptr id o)=Aa (.ptr id (o+off)):=rfl
def bAq(off:Ae)(cs:Ad D):yD off (.fp cs)=Aa (.fp (cs.drop off)):=rfl
def aSk(sz:Ae)(k:Al)(els:Ad (Ad D)):uJ sz k (.d (.sl els))=if 0<=k then(els[k.toNat]?).bind λcs=>if cs.length=sz then Aa (.fp cs)else Aj else none:=rfl
def bAf(sz:Ae)(k:Al)(els:Ad (Ad D)):uJ sz k (.fd els)=if 0<=k then(els[k.toNat]?).bind λcs=>if cs.length=sz then Aa (.fp cs)else Aj else none:=rfl
def aSj(sz:Ae)(k:Al)(id off len sz':Ae):uJ sz k (.own id off len sz')=if 0<=k/\k<len/\sz'=sz then Aa (.ptr id ((off+k.toNat)*sz))else none:=rfl
def aSl(sz m:Ae)(k:Al)(id o:Ae):xY sz m k (.ptr id o)=if 0<=k/\k<m then Aa (.ptr id (o+k.toNat*sz))else none:=rfl
def bAg(sz m:Ae)(k:Al)(cs:Ad D):xY sz m k (.fp cs)=if 0<=k/\k<m then Aa (.fp (cs.drop (k.toNat*sz)))else none:=rfl
def cAk(op:FV)(x y:Bw):dT op Ak (.d (.b x)) (.d (.b y))=match op with|.eql=>Aa (.b (x==y))|.neq=>Aa (.b (!(x==y)))|_=>none:=rfl
def bLt(t:Bw)(k:BJ)(a b:Al):dT .add t (.d (.i k a)) (.d (.i k b))=Aa (.i k (k.wrap (a+b))):=by simp[dT,arith]
def bLh(t:Bw)(k:BJ)(a b:Al):dT .sub t (.d (.i k a)) (.d (.i k b))=Aa (.i k (k.wrap (a-b))):=by simp[dT,arith]
def bLn(t:Bw)(k:BJ)(a b:Al):dT .mul t (.d (.i k a)) (.d (.i k b))=Aa (.i k (k.wrap (a*b))):=by simp[dT,arith]
def bLl(t:Bw)(k:BJ)(a b:Al):dT .quo t (.d (.i k a)) (.d (.i k b))=if b=0 then Aj else Aa (.i k (k.wrap (a.tdiv b))):=by simp[dT,arith]
def bLk(t:Bw)(k:BJ)(a b:Al):dT .rem t (.d (.i k a)) (.d (.i k b))=if b=0 then Aj else Aa (.i k (a.tmod b)):=by simp[dT,arith]
def bLs(t:Bw)(k:BJ)(a b:Al):dT .eql t (.d (.i k a)) (.d (.i k b))=Aa (.b (a==b)):=by simp[dT,arith]
def bLm(t:Bw)(k:BJ)(a b:Al):dT .neq t (.d (.i k a)) (.d (.i k b))=Aa (.b (a != b)):=by simp[dT,arith]
def bLo(t:Bw)(k:BJ)(a b:Al):dT .lss t (.d (.i k a)) (.d (.i k b))=Aa (.b (decide (a<b))):=by simp[dT,arith]
def bLp(t:Bw)(k:BJ)(a b:Al):dT .leq t (.d (.i k a)) (.d (.i k b))=Aa (.b (decide (a<=b))):=by simp[dT,arith]
def bLq(t:Bw)(k:BJ)(a b:Al):dT .gtr t (.d (.i k a)) (.d (.i k b))=Aa (.b (decide (b<a))):=by simp[dT,arith]
def bLr(t:Bw)(k:BJ)(a b:Al):dT .geq t (.d (.i k a)) (.d (.i k b))=Aa (.b (decide (b<=a))):=by simp[dT,arith]
def bLj(t:Bw)(k k':BJ)(a b:Al):dT .shl t (.d (.i k a)) (.d (.i k' b))=cY .shl k a b:=by simp[dT]
def bLi(t:Bw)(k k':BJ)(a b:Al):dT .shr t (.d (.i k a)) (.d (.i k' b))=cY .shr k a b:=by simp[dT]
def bBw(op:FV)(t:Bw)(x:AV):dT op t x .nil=none:=by unfold dT;split<;>simp_all
def bOj(p:Bw):unA .not (.d (.b p))=Aa (.b !p):=rfl
def bOk(k:BJ)(a:Al):unA .neg (.d (.i k a))=Aa (.i k (k.wrap (0-a))):=rfl
def aZo(op:FV)(x y:AV):aZp op Aj x y=none:=rfl
def bHb(op:FV)(e:AF)(x:AV):aZp op (Aa e) x .nil=(aCv x).bind (bRe op):=rfl
def bZk(x:Bw):bH (.b x)=.d (.b x):=rfl
def bZj(k:BJ)(n:Al):bH (.i k n)=.d (.i k n):=rfl
def bSg(l:Ad (Ad D)):bH (.sl l)=.d (.sl l):=rfl
def bSj(l:Ad D):bH (.ag l)=.ag (l.map .d):=rfl
def cDt(x:Bw):inj (.b x)=.d (.b x):=rfl
def cDs(k:BJ)(n:Al):inj (.i k n)=.d (.i k n):=rfl
def bZg(l:Ad (Ad D)):inj (.sl l)=.d (.sl l):=rfl
def bZi(l:Ad D):inj (.ag l)=.ag (l.map .d):=rfl
def bZf(l:Ad D):inj (.tp l)=.tp (l.map bH):=rfl
def bPg(l:Ad Ae)(x:D):kB l (.d x)=.d x:=rfl
def aYo(l:Ad Ae):kB l .nil=.nil:=rfl
def bEr(l:Ad Ae):kB l .un=.un:=rfl
def aYp(l:Ad Ae):kB l .any=.any:=rfl
def aYn(l:Ad Ae)(a b c d:Ae):kB l (.own a b c d)=if a∈l then .any else .own a b c d:=rfl
def aYm(l:Ad Ae)(a b:Ae):kB l (.ptr a b)=if a∈l then .any else .ptr a b:=rfl
def bEt(l:Ad Ae)(a:Ae):kB l (.mp a)=if a∈l then .any else .mp a:=rfl
def bEu(l:Ad Ae)(c:Ad D):kB l (.fp c)=.fp c:=rfl
def bEw(l:Ad Ae)(c:Ad (Ad D)):kB l (.fd c)=.fd c:=rfl
def bEx(l:Ad Ae)(c:Ad AV):kB l (.ag c)=.ag (c.map (eM l)):=rfl
def bEs(l:Ad Ae)(c:Ad AV):kB l (.tp c)=.tp (c.map (aBs l)):=rfl
def bEy(l:Ad Ae)(x:D):eM l (.d x)=.d x:=rfl
def aQx(l:Ad Ae):eM l .nil=.nil:=rfl
def aYq(l:Ad Ae):eM l .un=.un:=rfl
def aQy(l:Ad Ae):eM l .any=.any:=rfl
def aQw(l:Ad Ae)(a b c d:Ae):eM l (.own a b c d)=if a∈l then .any else .own a b c d:=rfl
def aQv(l:Ad Ae)(a b:Ae):eM l (.ptr a b)=if a∈l then .any else .ptr a b:=rfl
def uZ(l:Ad Ae)(e:AF)(cs:Ad AV):gT l (.cells e cs)=.cells e (cs.map (eM l)):=rfl
def aLp(l:Ad Ae)(e:AF)(ds:Ad D):gT l (.cells e (ds.map .d))=.cells e (ds.map .d):=by rw[uZ,aFv]
def bEa(H:Hp)(sz:Ae):aBl H sz .nil=Aa (0,[]):=rfl
def bEb(H:Hp)(sz:Ae)(els:Ad (Ad D)):aBl H sz (.d (.sl els))=if fT sz els=Ak/\(els.flatten.map AV.d).all one=Ak then Aa (els.length,els.flatten.map .d)else none:=rfl
def bOt(H:Hp)(sz:Ae)(els:Ad (Ad D)):aBl H sz (.fd els)=if fT sz els=Ak/\(els.flatten.map AV.d).all one=Ak then Aa (els.length,els.flatten.map .d)else none:=rfl
def bDy(ho:Aq HO)(sz off len sz':Ae):Aq (Ae×Ad AV):=match ho with
 |some (.cells _ cs)=>if sz'=sz/\(off+len)*sz<=cs.length/\((cs.drop (off*sz)).take (len*sz)).all one=Ak then Aa (len,(cs.drop (off*sz)).take (len*sz))else Aj
 |_=>Aj
def bDz(H:Hp)(sz id off len sz':Ae):aBl H sz (.own id off len sz')=bDy (H id) sz off len sz':=rfl
def aIh(e:AF)(cs:Ad AV)(sz off len sz':Ae):bDy (Aa (.cells e cs)) sz off len sz'=if sz'=sz/\(off+len)*sz<=cs.length/\((cs.drop (off*sz)).take (len*sz)).all one=Ak then Aa (len,(cs.drop (off*sz)).take (len*sz))else none:=rfl
def aRs(sz:Ae):fT sz []=true:=rfl
def aMr(sz:Ae)(a:Ad D)(l:Ad (Ad D)):fT sz (a::l)=(a.length==sz):=rfl
def bMa(e : AF)(sz bt n : Ae)(s : AV)(ho : Aq HO)(p : Ae×Ad AV) : Aq (AV×Aq HO×Ad Ae) := match s with
 |.nil=>if p.1=0 then Aa (.nil,Aj,[])else if p.1*bt<=140737488355328/\p.1<=maxLen then Aa (.own n 0 p.1 sz,Aa (.cells e p.2),[])else Aj
 | .own id off len sz'=>match ho with
   | some (.cells e' cs)=>if off=0/\sz'=sz/\e'=e/\cs.length=len*sz/\(len+p.1)*bt<=140737488355328/\len+p.1<=maxLen then
      Aa (.own n 0 (len+p.1) sz,Aa (.cells e (cs++p.2)),[id])else Aj
   |_=>Aj
 | .fd els => if 0 < p.1 /\ fT sz els = Ak /\ (els.flatten.map AV.d).all one = Ak /\ (els.length + p.1)*bt <= 140737488355328 /\ els.length + p.1 <= maxLen then
    Aa (.own n 0 (els.length+p.1) sz,Aa (.cells e (els.flatten.map .d++p.2)),[])else if p.1=0 then Aa (.fd els,Aj,[])else Aj
 |_=>Aj
def aVh:AV->Ae
 |.own id _ _ _=>id
 |_=>0
def bMb(H:Hp)(t:AF)(s x:AV)(n:Ae):aFi P H t s x n=(tel P t).bind λe=>(tsz P e).bind λsz=>(tby P e).bind λbt=>(tz P e).bind λz=>(aBl H sz x).bind λp =>
 if z.cells.size=sz/\0<sz then bMa e sz bt n s (H (aVh s)) p else none:=by
 unfold aFi
 congr;funext e;congr;funext sz;congr;funext bt;congr;funext z;congr;funext p
 split
 .cases s<;>rfl
 .rfl
def aZg(a b c d:Ae):aVh (.own a b c d)=a:=rfl
def aZh:aVh .nil=0:=rfl
def bGg(l:Ad (Ad D)):aVh (.fd l)=0:=rfl
def bUx(e : AF)(sz bt n : Ae)(ho : Aq HO)(els : Ad (Ad D))(m : Ae)(cs : Ad AV) : bMa e sz bt n (.fd els) ho (m, cs) = if 0 < m /\ fT sz els = Ak /\ (els.flatten.map AV.d).all one = Ak /\ (els.length + m)*bt <= 140737488355328 /\ els.length + m <= maxLen then
         Aa (.own n 0 (els.length+m) sz,Aa (.cells e (els.flatten.map .d++cs)),[])else if m=0 then Aa (.fd els,Aj,[])else none:=rfl
def bLz(e:AF)(sz bt n:Ae)(ho:Aq HO)(m:Ae)(cs:Ad AV):bMa e sz bt n .nil ho (m,cs)=if m=0 then Aa (.nil,Aj,[])else if m*bt<=140737488355328/\m<=maxLen then Aa (.own n 0 m sz,Aa (.cells e cs),[])else none:=rfl
def bLy(e e' : AF)(sz bt n id off len sz' : Ae)(cs : Ad AV)(m : Ae)(ds : Ad AV) : bMa e sz bt n (.own id off len sz') (Aa (.cells e' cs)) (m, ds) = if off = 0 /\ sz' = sz /\ e' = e /\ cs.length = len*sz /\ (len + m)*bt <= 140737488355328 /\ len + m <= maxLen then
         Aa (.own n 0 (len+m) sz,Aa (.cells e (cs++ds)),[id])else none:=rfl
def ldC(ag:Bw)(sz:Aq Ae)(off:Ae)(ho:Aq HO):Aq AV:=match ho with
 |some (.cells _ cs)=>if ag then sz.bind λsz=>if off+sz<=cs.length then Aa (.ag ((cs.drop off).take sz))else Aj else cs[off]?
 |_=>Aj
def aZz(H:Hp)(t:AF)(id off:Ae):mI P H t (.ptr id off)=(aBh P t).bind λag=>ldC ag (tsz P t) off (H id):=rfl
def bAc(ag:Bw)(sz:Aq Ae)(off:Ae)(e:AF)(cs:Ad AV):ldC ag sz off (Aa (.cells e cs))=if ag then sz.bind λsz=>if off+sz<=cs.length then Aa (.ag ((cs.drop off).take sz))else Aj else cs[off]? := rfl
def bHq(H:Hp)(t:AF)(cs:Ad D):mI P H t (.fp cs)=(aBh P t).bind λag=>if ag then(tsz P t).bind λsz=>if sz<=cs.length then Aa (.ag ((cs.take sz).map .d))else Aj else(cs[0]?).map .d:=rfl
def stC(id off:Ae)(sz:Aq Ae)(vs:Aq (Ad AV))(ho:Aq HO):Aq (Ae×HO):=match ho with
 |some (.cells e cs)=>vs.bind λvs=>sz.bind λsz=>if vs.length=sz/\off+sz<=cs.length then Aa (id,.cells e (lay cs off vs))else Aj
 |_=>Aj
def aQl(H:Hp)(t:AF)(id off:Ae)(x:AV):lF P H t (.ptr id off) x=stC id off (tsz P t) (eC x) (H id):=rfl
def aYh(id off:Ae)(sz:Aq Ae)(vs:Aq (Ad AV))(e:AF)(cs:Ad AV):stC id off sz vs (Aa (.cells e cs))=vs.bind λvs=>sz.bind λsz=>if vs.length=sz/\off+sz<=cs.length then Aa (id,.cells e (lay cs off vs))else none:=rfl
def aDe(H:Hp)(n id off len sz:Ae):frz H (n+1) (.own id off len sz)=match H id with
 |some (.cells _ cs)=>if(off+len)*sz<=cs.length/\0<sz then(((cs.drop (off*sz)).take (len*sz)).mapM (frz H n)).map λl=>.sl (chunk sz len l)else Aj
 |_=>none:=rfl
def bFu(σ:St)(t:Ae):jN P σ (.tmp t)=Aa (σ.Γ t):=rfl
def aYw(σ:St)(ad t:Ae):jN P σ (.cell ad t)=mI P σ.H t (σ.Γ ad):=rfl
def bFt(x:ResultVar)(σ:St):jM P [x] σ=(jN P σ x).bind λav=>frz σ.H 8 av:=by
 unfold jM;simp only[CG,G5,D9,Dk];cases jN P σ x with
 |none=>rfl
 | some av =>
  simp only[Option.bind_some,cK,CG,G5,D9,Dk];cases frz σ.H 8 av<;>rfl
def bIg(H:Hp):kill [] H=H:=rfl
def bIf(a:Ae)(H:Hp):kill [a] H=λid=>if id=a then Aj else H id:=by funext id;simp[kill]
def bBz(H:Hp)(n:Ae):fE H n Aj=H:=rfl
def bBy(H:Hp)(n:Ae)(o:HO):fE H n (Aa o)=upd H n (Aa o):=rfl
def bKt(n:Ae):cnt Aj n=n:=rfl
def bKs(n:Ae)(o:HO):cnt (Aa o) n=n+1:=rfl
def aZd(Γ:Ae->AV)(d:Ae)(v:AV):bN Γ (Aa d) v=upd Γ d v:=rfl
def aZe(Γ:Ae->AV)(v:AV):bN Γ Aj v=Γ:=rfl
def aQe{α:Type}(f:Ae->α)(k j:Ae)(x:α):upd f k x j=if j=k then x else f j:=rfl
def bAp(place:Ae->Aq (Ae×Ae))(cells:Ad AV):mQ place cells []=Aa cells:=rfl
def bVv(place:Ae->Aq (Ae×Ae))(cells:Ad AV)(pl:Aq (Ae×Ae))(cs:Aq (Ad AV))(rest:Ad (Ae×AV)):Aq (Ad AV):=match pl,cs with
 |some (off,size),Aa cs=>if cs.length=size/\off+cs.length<=cells.length then mQ place (lay cells off cs) rest else Aj
 |_,_=>Aj
def aSu(place:Ae->Aq (Ae×Ae))(cells:Ad AV)(i:Ae)(x:AV)(rest:Ad (Ae×AV)):mQ place cells ((i,x)::rest)=bVv place cells (place i) (eC x) rest:=rfl
def aSt(place:Ae->Aq (Ae×Ae))(cells:Ad AV)(off size:Ae)(cs:Ad AV)(rest:Ad (Ae×AV)):bVv place cells (Aa (off,size)) (Aa cs) rest=if cs.length=size/\off+cs.length<=cells.length then mQ place (lay cells off cs) rest else none:=rfl
def aQt(sz:Ae)(els:Ad (Ad D))(l h:Al)(full:Bw):iW sz (.d (.sl els)) l h full=if 0<=l/\l<=h then if h<=els.length/\fT sz els=Ak then Aa (if full then .fd ((els.take h.toNat).drop l.toNat)else .d (.sl ((els.take h.toNat).drop l.toNat)))else Aj else none:=rfl
def aYk(sz:Ae)(els:Ad (Ad D))(l h:Al)(full:Bw):iW sz (.fd els) l h full=if 0<=l/\l<=h then if h<=els.length/\fT sz els=Ak then Aa (if full then .fd ((els.take h.toNat).drop l.toNat)else .d (.sl ((els.take h.toNat).drop l.toNat)))else Aj else none:=rfl
def aIb(ops:Aw Bf)(dst:Aq Tmp)(op:Op)(ty:AF)(pos:String)(after:Aw Edge)(j:Ae)(w:Bw)(Γ:Ae->AV):cJ ops ⟨dst,op,ty,pos,after,Aa (j,w)⟩ Γ =
 match(ops[j]?).bind (·.dst)with
 |none=>Aa Az
 | some d=>match Γ d with
  |.d (.b x)=>Aa (x==w)
  |.un=>Aa Az
  |_=>none:=rfl
def bWk(args:Ad D)(N t:Ae):Γ0 args N t=match args[t]? with|some d=>bH d|none=>.un:=by unfold Γ0;cases args[t]?<;>simp
def rF(m:Ad Ae)(f:Ae->D):fT 1 (m.map λx=>[f x])=true:=by cases m<;>rfl
end Go.Am
namespace Go.Am
def val:Ad Ae->Ae
 |[]=>0
 |x::l=>x+4294967296*val l
def Lim(l:Ad Ae):Prop:=∀x∈l,x<4294967296
def Lim.nil:Lim []:=λ_ h=>by cases h
def Lim.cons{x:Ae}{l:Ad Ae}(h:x<4294967296)(k:Lim l):Lim (x::l):=λy hy=>by
 rcases BQ.1 hy with rfl|hy
 .exact h
 .exact k y hy
def Lim.app{a b:Ad Ae}(h:Lim a)(k:Lim b):Lim (a++b):=λy hy=>by
 rcases List.mem_append.1 hy with hy|hy
 .exact h y hy
 .exact k y hy
def Lim.one{x:Ae}(h:x<4294967296):Lim [x]:=.cons h .nil
def Lim.take{l:Ad Ae}(h:Lim l)(n:Ae):Lim (l.take n):=λy hy=>h y (List.mem_of_mem_take hy)
def Lim.get{l:Ad Ae}(h:Lim l){i:Ae}(hi:i<l.length):l[i]<4294967296:=h _ (B3 hi)
def Lim.getD{l:Ad Ae}(h:Lim l)(i:Ae):l.getD i 0<4294967296:=by
 rw[Ah];rcases Bc i l.length with hi|hi
 .rw[Ac hi];exact h.get hi
 .rw[Bn hi];decide
def Lim.rep(n:Ae):Lim (AO n 0):=λy hy=>by rw[(List.mem_replicate.1 hy).2];decide
def Lim.set{l:Ad Ae}(h:Lim l)(i:Ae){x:Ae}(hx:x<4294967296):Lim (l.set i x):=λy hy=>by
 rcases List.mem_or_eq_of_mem_set hy with hy|rfl
 .exact h y hy
 .exact hx
def nC(a b:Ad Ae):val (a++b)=val a+4294967296^a.length*val b:=by
 induction a with
 |nil=>simp[val]
 | cons x a ih =>
  simp only[Cz,val,ih,Av,CI,DJ];rw[Nat.mul_comm (4294967296^a.length) 4294967296,Nat.mul_assoc];omega
def bOd(n:Ae):val (AO n 0)=0:=by
 induction n with
 |zero=>rfl
 |succ n ih=>simp[C9,val,ih]
def aBc{l:Ad Ae}(h:Lim l):val l<4294967296^l.length:=by
 induction l with
 |nil=>simp[val]
 | cons x l ih =>
  have h1:=h x (AX ..);have h2:=ih λy hy=>h y (AT _ hy)
  simp only[val,Av,CI];omega
def dL(l:Ad Ae)(i:Ae):val (l.take (i+1))=val (l.take i)+4294967296^i*l.getD i 0:=by
 rcases Bc i l.length with hi|hi
 .rw[List.take_add_one,Ac hi,nC,Bt,Dv (by omega),Ah,Ac hi];simp[val]
 .rw[A4 (by omega),A4 (by omega),Ah,Bn hi];simp
def bJ(n:Ae):Ad Ae:=if h:n=0 then[]else n%4294967296::bJ (n/4294967296)
termination_by n
decreasing_by omega
def cN:bJ 0=[]:=by rw[bJ];simp
def gB{n:Ae}(h:n≠0):bJ n=n%4294967296::bJ (n/4294967296):=by rw[bJ];simp[h]
def lE{n:Ae}:bJ n=[]↔n=0:=by
 constructor
 .intro h;by_cases hn:n=0
  .exact hn
  .rw[gB hn]at h;cases h
 .rintro rfl;exact cN
def aDm{p:Ae->Prop}(h0:p 0)(h1:∀n,n≠0->p (n/4294967296)->p n):∀n,p n:=λn=>by
 induction n using FN with
 | _ n ih =>
  by_cases hn:n=0
  .subst hn;exact h0
  .exact h1 n hn (ih _ (by omega))
def fI(n:Ae):val (bJ n)=n:=by refine aDm (p:=λn=>val (bJ n)=n) (by rw[cN];rfl) (λn hn ih=>?_) n;rw[gB hn,val,ih];omega
def dH(n:Ae):Lim (bJ n):=by refine aDm (p:=λn=>Lim (bJ n)) (by rw[cN];exact .nil) (λn hn ih=>?_) n;rw[gB hn];exact .cons (by omega) ih
def rY(l:Ad Ae):Prop:=l.getLast? ≠ Aa 0
def mR(n:Ae):rY (bJ n):=by
 refine aDm (p:=λn=>rY (bJ n)) (by rw[cN];simp[rY]) (λn hn ih=>?_) n;rw[gB hn];by_cases h:n/4294967296=0
 .rw[h,cN];simp only[rY,List.getLast?_singleton,ne_eq,AH];omega
 .unfold rY at ih ⊢;rw[gB h]at ih ⊢;simpa[G9]using ih
def strip:Ad Ae->Ad Ae
 |[]=>[]
 | x::l=>match strip l with
  |[]=>if x=0 then[]else[x]
  |l'=>x::l'
def gR{l:Ad Ae}(h:Lim l):strip l=bJ (val l):=by
 induction l with
 |nil=>rw[val,cN];rfl
 | cons x l ih =>
  have hx:=h x (AX ..);have hl:=ih λy hy=>h y (AT _ hy)
  simp only[strip,val];rw[hl];by_cases h0:val l=0
  .rw[h0,cN];simp only[Nat.mul_zero,Nat.add_zero];by_cases hx0:x=0
   .subst hx0;rw[cN];rfl
   .rw[Ap hx0,gB hx0,Nat.mod_eq_of_lt hx,Nat.div_eq_of_lt hx,cN]
  .rw[gB (n:=x+_) (by omega)];have e1:(x+4294967296*val l)%4294967296=x:=by omega
   have e2:(x+4294967296*val l)/4294967296=val l:=by omega
   rw[e1,e2];have:bJ (val l)≠[]:=λe=>h0 (lE.1 e)
   cases hd:bJ (val l)with
   |nil=>exact(this hd).elim
   |cons=>rfl
def aBk(l:Ad Ae):strip (l++[0])=strip l:=by
 induction l with
 |nil=>rfl
 |cons x l ih=>simp only[Cz,strip,ih]
def kV{l:Ad Ae}(h:rY l):strip l=l:=by
 induction l with
 |nil=>rfl
 | cons x l ih =>
  cases l with
  | nil =>
   have:x≠0:=by simpa[rY]using h
   simp[strip,this]
  | cons y l =>
   have h2:rY (y::l):=by simpa[rY,G9]using h
   have h3:=ih h2;rw[strip,h3]
def cV{n k:Ae}(h:n<4294967296^k):(bJ n).length<=k:=by
 induction k generalizing n with
 |zero=>simp at h;subst h;rw[cN];simp
 | succ k ih =>
  by_cases hn:n=0
  .subst hn;rw[cN];simp
  .rw[gB hn,Av];have:n/4294967296<4294967296^k:=by rw[CI]at h;omega
   have:=ih this;omega
def aCp{n k:Ae}(h:(bJ n).length<=k):n<4294967296^k:=by have h1:=aBc (dH n);rw[fI]at h1;exact Be h1 (Nat.pow_le_pow_right (by decide) h)
def aFe{a b:Ae}(h:a<=b):(bJ a).length<=(bJ b).length:=cV (Nat.lt_of_le_of_lt h (aCp (AM _)))
def lP{a b:Ae}(h:(bJ a).length<(bJ b).length):a<b:=by
 rcases Bc a b with h'|h'
 .exact h'
 .have:=aFe h';omega
def sC{a b:Ad Ae}(ha:Lim a){i:Ae}(hl:a.length=b.length)(hi:i<a.length)(hd:a.drop (i+1)=b.drop (i+1))(hlt:a.getD i 0<b.getD i 0):val a<val b:=by
 have e1:a=a.take (i+1)++a.drop (i+1):=(EA _ _).symm;have e2:b=b.take (i+1)++b.drop (i+1):=(EA _ _).symm;rw[e1,e2,nC,nC,hd,dL,dL];have h1:=aBc (ha.take i);rw[Bt,Dv (by omega)]at h1;have h2:(a.take (i+1)).length=(b.take (i+1)).length:=by simp[hl]
 rw[h2];have h3:4294967296^i*(a.getD i 0+1)<=4294967296^i*b.getD i 0:=Nat.mul_le_mul_left _ hlt;rw[DJ,Eb]at h3;omega
def aZ(m:Ad Ae):D:=.sl (m.map λ(x:Ae)=>[D.i .u32 (x:Al)])
def lms(m:Ad Ae):Ad D:=m.map λ(x:Ae)=>D.i .u32 (x:Al)
def pN(m:Ad Ae):(lms m).length=m.length:=by simp[lms]
def bRt{m:Ad Ae}{i x:Ae}(h:m[i]? = Aa x):(lms m)[i]? = Aa (.i .u32 (x:Al)):=by simp[lms,h]
def aJj(m:Ad Ae)(i x:Ae):(lms m).set i (.i .u32 (x:Al))=lms (m.set i x):=by simp[lms,List.map_set]
def aNj(m:Ad Ae):(m.map λ(x:Ae)=>[D.i .u32 (x:Al)]).flatten=lms m:=by unfold lms;induction m<;>simp_all
def aWa(m:Ad Ae):((lms m).map AV.d).all one=true:=by simp[lms,one]
def bHs(m:Ad Ae):(∀x,x∈lms m->one (AV.d x)=Ak)↔True:=⟨λ_=>trivial,λ_ x hx=>by
 obtain⟨y,_,rfl⟩:=List.mem_map.1 hx;rfl⟩
def bRs(n:Ae):AO n (D.i .u32 0)=lms (AO n 0):=by simp[lms]
def bPx(n:Ae):AO n (AV.d (D.i .u32 0))=(lms (AO n 0)).map .d:=by simp[lms]
def kN{m:Ad Ae}{n:Ae}(h:m.length=n):chunk 1 n (lms m)=m.map λ(x:Ae)=>[D.i .u32 (x:Al)]:=by rw[lZ _ _ (by rw[pN];exact h.symm)];simp[lms]
def jQ{m:Ad Ae}{n:Ae}(h:m.length=n):List.take n ((lms m).map AV.d)=(lms m).map AV.d:=A4 (by simp[pN,h])
def encI(neg:Bw)(m:Ad Ae):D:=.ag [.b neg,aZ m]
def encZ(z:Al):D:=encI (decide (z<0)) (bJ z.natAbs)
def sg(neg:Bw)(n:Ae):Al:=if neg then -(n:Al)else n
def bTs(neg:Bw)(n:Ae):encI (neg&&decide (n≠0)) (bJ n)=encZ (sg neg n):=by
 unfold encZ sg;cases neg
 .have h:decide ((n:Al)<0)=false:=by simp
  simp[h]
 .simp only[Bool.true_and,CN,Int.natAbs_neg,Int.natAbs_natCast];congr 1;rw[Bool.eq_iff_iff];simp;omega
def sK(z:Al):sg (decide (z<0)) z.natAbs=z:=by
 unfold sg;by_cases h:z<0
 .rw[AB (by simpa using h)];omega
 .rw[Ap (by simpa using h)];omega
def wrap_i64{n:Al}(h1:-9223372036854775808<=n)(h2:n<=9223372036854775807):Ax.wrap n=n:=by simp[FB,EW,Df];omega
def bP{n:Al}(h1:-9223372036854775808<=n:=by omega)(h2:n<=9223372036854775807:=by omega):Ax.wrap n=n:=wrap_i64 h1 h2
def wrap_u64{n:Al}(h1:0<=n)(h2:n<18446744073709551616):Bh.wrap n=n:=by simp[FB,EW,Df];omega
def xE(n:Al):Bh.wrap n=n%18446744073709551616:=by simp[FB,EW,Df]
def kE(n:Al):Cs.wrap n=n%4294967296:=by simp[FB,EW,Df]
def wrap_u32{n:Al}(h1:0<=n)(h2:n<4294967296):Cs.wrap n=n:=by rw[kE];omega
def bCk(n:Al):IntKind.u8.wrap n=n%256:=by simp[FB,EW,Df]
attribute [simp] bUg bKr cDr aTs bJn bAo bZe bRe aCv St0 bHz bFv bRs bPx bIw bAh cK aTy aPg bRo bUj bUi bUh aSh bRy bRx bIa
 bIe bIb aLa aFo bDj bNz bXa bXb bDi bNy aQd List.flatMap_nil aFv bRp aNj aWa bHs pN aMy bKz bUk bRc aZn bRb bGz bYr bGx bQn aFa
 aIy bGy bRa aRw aJa aIz aRv bGu bYq aNm bHj bZa bYy bYp bYo bGw aRu aRk cEj cEl cAs cEk bPa bEi bUr bLf aIx cCy cCz
 bQy bQz cDz cEa bUd bBj bUl bUm bLb bYm bYn bQv bYl bYk bQu bQt bQs bQr bYh bYj bYi bBo bBn aTk aTj aTi aTh bBk
 bBm bBp aTm bUy bMf bOm bDr bIo bBs aZj aZi bHx bRv bHw bHv aSv bAq aSk bAf aSj aSl bAg cAk bLt bLh
 bLn bLl bLk bLs bLm bLo bLp bLq bLr bLj bLi bBw bOj bOk aZo bHb bZk bZj bSg bSj cDt cDs bZg bZi bZf bPg aYo bEr
 aYp aYn aYm bEt bEu bEw bEx bEs bEy aQx aYq aQy aQw aQv aLp bEa bEb bOt bDz aIh aRs aMr bMb bGg bUx
 aZg aZh bLz bLy aZz bAc bHq aQl aYh bFu aYw bFt bIg bIf bBz bBy bKt bKs aZd aZe aQe bAp aSu aSt
 aQt aYk aIb bWk rF uZ aAq aNz bSx bZt bZw iT yH aBy aFq aLi aLh aQi bOp bXh eL fV mD bDx bOr aOu
 aKg
def KW:type_of% (A6 @aPd (A6 @zJ (A6 @aXh (A6 @aHk (A6 @aPe (A6 @aXi (A6 @aHi (A6 @aHg (A6 @aHj (A6 @aHh (A6 @aVi (A6 @aMj (A6 @aMi (A6 @aVo (A6 @yY (A6 @aGj (A6 @aVn (A6 @aMx (A6 @bGs (A6 @aMv (A6 @tQ (A6 @vL (A6 @aCf (A6 @aMw (A6 @aVm (A6 @aCh (A6 @vN (A6 @aMu (A6 @vM (A6 @aCg (A6 @aMt (A6 @bGr (A6 @aVq (A6 @bGq (A6 @bGp (A6 @aVp (A6 @aGg (A6 @aMs (A6 @vK (A6 @aGh (A6 @aGk (A6 @aGi (@aVr))))))))))))))))))))))))))))))))))))))))))) :=
 A6 @aPd (A6 @zJ (A6 @aXh (A6 @aHk (A6 @aPe (A6 @aXi (A6 @aHi (A6 @aHg (A6 @aHj (A6 @aHh (A6 @aVi (A6 @aMj (A6 @aMi (A6 @aVo (A6 @yY (A6 @aGj (A6 @aVn (A6 @aMx (A6 @bGs (A6 @aMv (A6 @tQ (A6 @vL (A6 @aCf (A6 @aMw (A6 @aVm (A6 @aCh (A6 @vN (A6 @aMu (A6 @vM (A6 @aCg (A6 @aMt (A6 @bGr (A6 @aVq (A6 @bGq (A6 @bGp (A6 @aVp (A6 @aGg (A6 @aMs (A6 @vK (A6 @aGh (A6 @aGk (A6 @aGi (@aVr))))))))))))))))))))))))))))))))))))))))))
end Go.Am
namespace Go.Am
open RowKit (Below)
section
variable {P:As} [M:Mch P] {G:Ctx} {N:Ae} {ds:Ad Cl} {ops:Aw Bf}
end
variable {P:As} [M:Mch P]
def bFc{G:Ctx}{fn:Func}{σ:St}{a:Act}{w:Ag}{rv:ResultVar}{av:AV}{F:Ae->Prop}{ι:Ae->Aq Ae}(hR:HR G F w ι bG σ.H)(hV:∀t,V F w ι (σ.Γ t) (a.tmps.getD t undef))(hres:fn.results.toList=[rv])(h:jN P σ rv=Aa av) :
 ∃v,aU P (results fn a.tmps) w=.ok v w/\V F w ι av v:=by
 cases rv with
 |cell ad t=>exact bPk hR hV hres h
 | tmp t =>
  simp only[jN,AH]at h
  subst h
  refine⟨a.tmps.getD t undef,?_,hV t⟩
  have h1':aU P ([ResultVar.tmp t].mapM (m:=Sem) λ|.tmp t=>pure (a.tmps.getD t undef)|.cell ad t=>do loadVar t (<-asAddr (a.tmps.getD ad undef))) w=.ok [a.tmps.getD t undef] w:=by simp only[CG,G5,aB,AR,aX]
  simp only[results,Ec,aB,fX,hres]
  erw [h1']
  simp
def aCi {f N:Ae} {fn:Func} {c:B1} {args:Ad D} {v:Ae->AV} {hs:Ae->Ad HO} {rv:ResultVar} (hm:P.follows .mixedOrders=Ak) (hf:P.funcs[f]? = Aa fn) (hb:fn.body=Aa c) (hname:(fn.name == "runtime.NumGoroutine")=Az)
 (hN:fn.ntmps=N) (hN0:0<N) (hd:bX N c=Ak) (hl':cM P c=Ak) (ha:args.length<=N) (hres:fn.results.toList=[rv])
 (h:AWP P c (St0 args N) λe σ=>(e=.normal\/e=.ret)/\cS (jN P σ rv) (λav=>∀m,0<m->∃ρ,Wk ⟨upd σ.Γ 0 av,σ.H,σ.n⟩ (jX v hs m) ρ) .mk):aEn P f args v hs:=by
 intro A W vs hA hl hv
 have hn:¬ fn.name = "runtime.NumGoroutine" := by simpa using hname
 refine⟨λw=>by simp[callFunc,hf,hn,hb],?_⟩
 refine jT hf hb ?_
 subst hN
 refine(cA P).okv λhok=>cG (bZ hm (λ_=>rfl) c _ _ _ _ hd hl' h (SR0 hok hA hl hv ha)) ?_
 rintro e a w0 ⟨σ,⟨he,hr⟩,hs0⟩
 cases hav:jN P σ rv with
 |none=>rw[hav]at hr;exact hr.elim
 |some av =>
 rw[hav]at hr
 simp only[cS]at hr
 have hend:a.defers=[]/\∀w,Env w0 w->∃u,aU P (results fn a.tmps) w=.ok u w/\Below W.heap.size W w/\∀m,0<m->∃(F:Ae->Prop) (ι:Ae->Aq Ae),
  (∀b,F b->A b\/(W.heap.size<=b/\b<w.heap.size))/\V F w ι (v m) u/\(∀id,(∃b,ι id=Aa b)↔(m<=id/\id<m+(hs m).length)) /\
  (∀id b,ι id=Aa b->W.heap.size<=b/\b<w.heap.size/\¬F b) /\
  (∀i o b,(hs m)[i]? = Aa o->ι (m+i)=Aa b->∃ob,w.heap[b]? = Aa ob/\CR F w ι o ob) /\
  (∀id id' b,ι id=Aa b->ι id'=Aa b->id=id'):=by
  refine⟨hs0.2.2.2.elim λ_ h=>h.elim λ_ h=>h.2.2.2.2.1,λw henv=>?_⟩
  have hs1:=hs0.env henv
  obtain⟨htop,hn0,hokw,F,ι,hR,hdom,hV,hN2,hdf,hp⟩:=hs1
  obtain⟨u,hrun,hvu⟩:=bFc hR hV hres hav
  have hput:SR ⟨W,A,bG,λ_ _=>True,λ_=>Aj⟩ fn.ntmps [] ⟨upd σ.Γ 0 av,σ.H,σ.n⟩ (a.put (Aa 0) u) w:=by
   refine⟨htop,hn0,hokw,F,ι,hR,hdom,λt'=>?_,⟨by simp[Cv,hN2.1],λ_ _ h=>by cases h⟩,by simp[Cv,hdf],hp⟩;rw[fZ a (Aa 0) u (λd hd=>by injection hd with hd;subst hd;rw[hN2.1];exact hN0) t'];by_cases e0:t'=0
   .subst e0;rw[AB rfl];simp only[upd_same];exact hvu
   .rw[Ap (λe=>e0 (by injection e with e;exact e.symm))];simp only;rw[upd_ne _ _ e0];exact hV t'
  refine⟨u,hrun,⟨hR.kept.os,hR.kept.tape,hR.kept.output,hR.kept.size,λk hk=>hR.kept.block k hk (λh=>h)⟩,λm hm0=>?_⟩
  obtain⟨ρ,hw⟩:=hr m hm0
  obtain⟨_,_,_,F2,ι2,hR2,hdom2,hV2,_,_,_⟩:=xB hw hput
  have hout:∀id,((jX v hs m).H id).isSome=Ak↔(m<=id/\id<m+(hs m).length):=λid=>by
   simp only[jX,iY];by_cases hr:m<=id/\id<m+(hs m).length
   .rw[AB hr,Ac (by omega)];simp[hr]
   .rw[Ap hr];simp[hr]
  refine⟨F2,ι2,λb hb'=>?_,?_,λid=>by rw[hdom2,hout],λid b hb'=>?_,λi o b ho hb'=>?_,λid id' b e1 e2=>hR2.inj id id' b e1 e2 (λh=>h) (λh=>h)⟩
  .rcases hR2.F_ok b hb' with h|h|h
   .exact .inl h
   .exact h.elim
   .exact .inr ⟨h,hR2.F_lt b hb'⟩
  .have:=hV2 0
   rw[fZ a (Aa 0) u (λd hd=>by injection hd with hd;subst hd;rw[hN2.1];exact hN0) 0,AB rfl]at this
   simpa[jX,upd_same]using this
  .obtain⟨q1,q2,q3⟩:=hR2.place id b hb'
   rcases q1 with q1|q1
   .exact q1.elim
   .exact⟨q1,q2,q3 (λh=>h)⟩
  .have hi:=(AA.1 ho).1
   refine hR2.obj (m+i) b o hb' ?_
   simp only[jX,iY]
   rw[AB ⟨by omega,by omega⟩,show m+i-m=i by omega];exact ho
 rcases he with rfl|rfl<;>exact hend
end Go.Am
namespace Go.Am
open RowKit (Below)
section
variable {P:As} [M:Mch P] {G:Ctx} {N:Ae} {ds:Ad Cl}
end
end Go.Am
namespace Go.Am
open Go.Conc
section
variable {P:As} {main:Bw} {b:BU} {a:Act} {k:Ad Item} {cs:Ad BU} {w:Ag}
def bOu:stepG P main (G (b.atR a (.code .skip::k)) cs) w=.go (G (b.atR a k) cs) w:=by simp[G,stepG,Cp,C8]
def bEd{l:Ae}:stepG P main (G (b.atR a (.code (.label l)::k)) cs) w=.go (G (b.atR a k) cs) w:=by simp[G,stepG,Cp,C8]
def aQr{id:Ae}:stepG P main (G (b.atR a (.inBlock id::k)) cs) w=.go (G (b.atR a k) cs) w:=by simp[G,stepG,Cp,C8]
def bXj{x y:B1}:stepG P main (G (b.atR a (.code (.seq x y)::k)) cs) w=.go (G (b.atR a (.code x::.code y::k)) cs) w:=by simp[G,stepG,Cp,C8]
def bOy{c:AN}{x y:B1}{t:Bw}(h:a.eval c=.bool t):stepG P main (G (b.atR a (.code (.cond c x y)::k)) cs) w=.go (G (b.atR a (.code (if t then x else y)::k)) cs) w:=by
 have h':(b.atR a (.code (.cond c x y)::k)).eval c=.bool t:=by rw[Frame.eval_atR];exact h
 simp only[C8]at h';simp[G,stepG,Cp,C8,h']
def bEf{id:Ae}{c:B1}:stepG P main (G (b.atR a (.code (.block id c)::k)) cs) w=.go (G (b.atR a (.code c::.inBlock id::k)) cs) w:=by simp[G,stepG,Cp,C8]
def bOw{c:B1}:stepG P main (G (b.atR a (.code (.loop c)::k)) cs) w=.go (G (b.atR a (.code c::.inLoop c::k)) cs) w:=by simp[G,stepG,Cp,C8]
def aYj{c:B1}:stepG P main (G (b.atR a (.inLoop c::k)) cs) w=.go (G (b.atR a (.code c::.inLoop c::k)) cs) w:=by simp[G,stepG,Cp,C8]
def bOx{id:Ae}{k':Ad Item}(h:exitTo id k=Aa k'):stepG P main (G (b.atR a (.code (.exit id)::k)) cs) w=.go (G (b.atR a k') cs) w:=by simp[G,stepG,Cp,C8,h]
def aYi{id:Ae}{ops:Aw Bf}:stepG P main (G (b.atR a (.code (.region id ops Az)::k)) cs) w=.go (G (b.atR a (.inRegion ops (AW ops.size)::k)) cs) w:=by simp[G,stepG,Cp,C8]
def nV{ops:Aw Bf}:stepG P main (G (b.atR a (.inRegion ops []::k)) cs) w=.go (G (b.atR a k) cs) w:=by simp[G,stepG,Cp,C8]
def aLl{ops:Aw Bf}{i:Ae}{rest:Ad Ae}{o:Bf}(ho:ops[i]? = Aa o)(hw:Bu o (yielded ops a.tmps)=Az) :
 stepG P main (G (b.atR a (.inRegion ops (i::rest)::k)) cs) w=.go (G (b.atR (a.put o.dst undef) (.inRegion ops rest::k)) cs) w #[]:=by
 have hfin:(b.atR a (.inRegion ops (i::rest)::k)).finish undef=b.atR (a.put o.dst undef) (.inRegion ops rest::k):=by rw[EX,ho];rfl
 rw[<-hfin]
 simp[G,stepG,Cp,C8,ho,hw]
def aAa{ops:Aw Bf}{i:Ae}{rest:Ad Ae}{o:Bf}(hnd:∀c,o.op≠.defer c)(ho:ops[i]? = Aa o)(hw:Bu o (yielded ops a.tmps)=Ak) :
 stepG P main (G (b.atR a (.inRegion ops (i::rest)::k)) cs) w=Eh P Ak (b.atR a (.inRegion ops (i::rest)::k)) cs Aj (execOp a.eval o) w:=by
 have he:=Frame.eval_atR b a (.inRegion ops (i::rest)::k)
 rw[<-Oper.semAt_eq b.roundOf a.eval o hnd]
 simp only[C8]at he
 simp only[G,stepG,Cp,stepG.oper,Frame.oper?,C8,ho,hw,he,Bj,Option.getD_some,CN,Oper.semAt]
 cases b.roundOf<;>cases o.op<;>rfl
def bEc{ops:Aw Bf}{i:Ae}{rest:Ad Ae}{o:Bf}{v:AE}{w':Ag}(hnd:∀c,o.op≠.defer c)(ho:ops[i]? = Aa o)(hw:Bu o (yielded ops a.tmps)=Ak)
 (hk:b.kind≠.early) (hr:(execOp a.eval o).run P w=.ok (.value v) w') :
 stepG P main (G (b.atR a (.inRegion ops (i::rest)::k)) cs) w=.go (G (b.atR (a.put o.dst v) (.inRegion ops rest::k)) cs) w' (listed P b.fn a o w):=by
 have hfin:(b.atR a (.inRegion ops (i::rest)::k)).finish v=b.atR (a.put o.dst v) (.inRegion ops rest::k):=by rw[EX,ho];rfl
 have hk':(b.kind==DO)=false:=by simpa using hk
 rw[aAa hnd ho hw,<-hfin]
 simp[Eh,hr,G,C8,hk',CJ,listed]
def bOv{ops:Aw Bf}{i:Ae}{rest:Ad Ae}{o:Bf}{w':Ag}(hnd:∀c,o.op≠.defer c)(ho:ops[i]? = Aa o)(hw:Bu o (yielded ops a.tmps)=Ak)
 (hk:b.kind≠.early) (hr:(execOp a.eval o).run P w=.ok .skip w') :
 stepG P main (G (b.atR a (.inRegion ops (i::rest)::k)) cs) w=.go (G (b.atR (a.put o.dst undef) (.inRegion ops rest::k)) cs) w' (listed P b.fn a o w):=by
 have hfin:(b.atR a (.inRegion ops (i::rest)::k)).finish undef=b.atR (a.put o.dst undef) (.inRegion ops rest::k):=by rw[EX,ho];rfl
 have hk':(b.kind==DO)=false:=by simpa using hk
 rw[aAa hnd ho hw,<-hfin]
 simp[Eh,hr,G,C8,hk',CJ,listed]
def bEe{ops:Aw Bf}{i:Ae}{rest:Ad Ae}{o:Bf}{f:AU}{args:Aw AE}{w':Ag}(hnd:∀c,o.op≠.defer c)(ho:ops[i]? = Aa o)(hw:Bu o (yielded ops a.tmps)=Ak)
 (hk:b.kind≠.early) (hr:(execOp a.eval o).run P w=.ok (.enter f args) w') :
 stepG P main (G (b.atR a (.inRegion ops (i::rest)::k)) cs) w=.go (G (Dt P f args .normal) (b.atR a (.inRegion ops (i::rest)::k)::cs)) w' (listed P b.fn a o w):=by
 have hk':(b.kind==DO)=false:=by simpa using hk
 rw[aAa hnd ho hw]
 simp[Eh,hr,G,C8,hk',CJ,listed]
end
def aNb{ops:Aw Bf}{i:Ae}{o:Bf}(h:qN ops=Ak)(ho:ops[i]? = Aa o):∀c,o.op≠.defer c:=by intro c e;have:=Array.all_eq_true'.1 h o (B7 ho);simp[cDa,e]at this
section
variable {P:As} [M:Mch P] {lp:Ae} {Q:Cf->Act->Ag->Prop} {a:Act} {v:Ag}
def zK(Win:Ay->Ag->Prop)(b:BU)(k:Ad Item)(cs:Ad BU):Cf->Act->Ag->Prop
 |.normal,a,v=>Win (G (b.atR a k) cs) v
 |.exit id,a,v=>match exitTo id k with|some k'=>Win (G (b.atR a k') cs) v|none=>∀k1,exitTo id k1=Aj->Win (G (b.atR a (.code (.exit id)::k1)) cs) v
 |.ret,a,v=>∀k1,Win (G (b.atR a (.code .ret::k1)) cs) v
 |_,_,_=>False
def WR(P:As)[M:Mch P](lp:Ae)(c:B1)(Q:Cf->Act->Ag->Prop)(a:Act)(v:Ag):Prop :=
 ∀(Win:Ay->Ag->Prop),M.Fam Win->OkV v->∀(b:BU) (k:Ad Item) (cs:Ad BU),b.kind=.normal->b.roundOf=Aa lp->(∀e a' v',OkV v'->Q e a' v'->zK Win b k cs e a' v')->Win (G (b.atR a (.code c::k)) cs) v
def bFs{Win:Ay->Ag->Prop}(hW:M.Fam Win){b:BU}{a:Act}{k:Ad Item}{cs:Ad BU}{v:Ag}{ops:Aw Bf}{i:Ae}{rest:Ad Ae}{o:Bf}{K:Act->Ag->Prop}(hnd:∀c,o.op≠.defer c)(hb:b.kind=.normal)(hro:b.roundOf=Aa lp)(ho:ops[i]? = Aa o)(hw:Bu o (yielded ops a.tmps)=Ak)
 (hv:OkV v) (h:∀v1,Env v v1->wpX P o a v1 K) (hk:∀a' v',OkV v'->K a' v'->Win (G (b.atR a' (.inRegion ops rest::k)) cs) v') :
 Win (G (b.atR a (.inRegion ops (i::rest)::k)) cs) v:=by
 have hbk:b.kind≠.early:=by rw[hb];simp
 refine(M.closed hW).step rfl hv λv1 w he hsim=>?_
 have hu:=h v1 he
 unfold wpX at hu
 have hv1:=he.okV hv
 cases hr:aU P (execOp a.eval o) v1 with
 |halt x v'=>rw[hr]at hu;exact hu.elim
 | ok n v' =>
   obtain⟨w',es',h1,h2,h3,h4,h5,h6⟩:=fH _ v1 w #[] n v' hv1 hsim hr
   rw[hr]at hu
   have hrw:(execOp a.eval o).run P w=.ok n w':=by have:=DU P (execOp a.eval o) w #[];rw[h1]at this;exact(congrArg Prod.fst this).symm
   have hev:∀e∈listed P b.fn a o w,EvV v' e:=λe hx=>by have:=mem_listed hx;have h7:=DU P (execOp a.eval o) w #[];rw[h1]at h7;have h8:(execOp a.eval o).events P w #[]=#[]++es':=(congrArg Prod.snd h7).symm;rw[h8]at this;exact h6 e (by simpa using this)
   have hst:yO v1 w v' w' (listed P b.fn a o w):=⟨h2,h3,h4,h5,hev⟩
   cases n with
   |value x=>exact⟨_,v',w',_,bEc hnd ho hw hbk hrw,hst,hk _ _ h3 hu⟩
   |skip=>exact⟨_,v',w',_,bOv hnd ho hw hbk hrw,hst,hk _ _ h3 hu⟩
   | enter f args =>
     refine⟨_,v',w',_,bEe hnd ho hw hbk hrw,hst,hu Win hW h3 _ _ λx v'' ho' hx=>?_⟩
     rw[EX,ho]
     exact hk _ _ ho' hx
   | defer d =>
     refine⟨G (b.atR (Cv { a with defers:=d::a.defers } o.dst undef) (.inRegion ops rest::k)) cs,v',w',_,?_,hst,hk (Cv { a with defers:=d::a.defers } o.dst undef) v' h3 hu⟩
     rw[aAa hnd ho hw]
     have hk':(b.kind==DO)=false:=by simp[hb]
     have:({ b.atR a (.inRegion ops (i::rest)::k) with defers:=d::a.defers }:BU).finish undef =
      b.atR ({ a with defers:=d::a.defers }.put o.dst undef) (.inRegion ops rest::k):=by
      have:=EX b { a with defers:=d::a.defers } ops i rest k undef
      rw[ho]at this;exact this
     rw[<-this]
     simp[Eh,hrw,G,C8,hk',CJ,listed]
   |_=>exact hu.elim
def aMa{Win:Ay->Ag->Prop}(hW:M.Fam Win){b:BU}{k:Ad Item}{cs:Ad BU}{ops:Aw Bf}{i:Ae}{rest:Ad Ae}{o:Bf}(ho:ops[i]? = Aa o)(hw:¬Bu o (yielded ops a.tmps)=Ak)(hv:OkV v)
 (h:Win (G (b.atR (a.put o.dst undef) (.inRegion ops rest::k)) cs) v):Win (G (b.atR a (.inRegion ops (i::rest)::k)) cs) v :=
 aD hW rfl hv (λw=>aLl ho (by simpa using hw)) h
def aBx{Win:Ay->Ag->Prop}(hW:M.Fam Win){ops:Aw Bf}(hnd:qN ops=Ak){b:BU}{k:Ad Item}{cs:Ad BU}(hb:b.kind=.normal)(hro:b.roundOf=Aa lp):∀(l:Ad Bf) (n:Ae) (a:Act) (v:Ag),OkV v->(∀j o,l[j]? = Aa o->ops[n+j]? = Aa o)->n+l.length=ops.size->gP P ops Q l a v ->
 (∀a' v',OkV v'->Q .normal a' v'->Win (G (b.atR a' k) cs) v')->Win (G (b.atR a (.inRegion ops (D8 n l.length)::k)) cs) v
 |[],n,a,v,hv,_,_,h,hk=>aD hW rfl hv (λw=>nV) (hk a v hv h)
 | o::l,n,a,v,hv,hl,hn,h,hk=>by
   have ho:ops[n]? = Aa o:=by simpa using hl 0 o rfl
   have ih:=λa v hv h=>aBx hW hnd hb hro l (n+1) a v hv (λj o hj=>by have:=hl (j+1) o (by simpa using hj);rw[<-this];congr 1;omega) (by simp at hn;omega) h hk
   rw[Av,Es];unfold gP at h;split at h
   . rename_i hw
     exact bFs hW (aNb hnd ho) hb hro ho hw hv h λa' v' hv' h'=>ih a' v' hv' h'
   . rename_i hw
     exact aMa hW ho hw hv (ih _ v hv h)
def bNi{id:Ae}{ops:Aw Bf}(hnd:qN ops=Ak)(h:gP P ops Q ops.toList a v):WR P lp (.region id ops Az) Q a v:=by
 intro Win hW hv b k cs hb hro hk;refine aD hW rfl hv (λw=>aYi) ?_;have:=aBx hW hnd (Q:=Q) (b:=b) (k:=k) (cs:=cs) hb hro ops.toList 0 a v hv (λj o hj=>by simpa using hj) (by simp) h λa' v' hv' hq=>hk .normal a' v' hv' hq
 rwa [Fq,<-BP]
def bPs{Win:Ay->Ag->Prop}(hW:M.Fam Win){ops:Aw Bf}(hnd:qN ops=Ak){b:BU}{k:Ad Item}{cs:Ad BU}(hb:b.kind=.normal)(hro:b.roundOf=Aa lp)(hk:∀a' v',OkV v'->Q .normal a' v'->Win (G (b.atR a' k) cs) v'):∀(fuel t:Ae) (listed:Aw Bw) (a:Act) (v:Ag),OkV v->zL P ops Q fuel listed a v ->
 Win (G (b.atR a (.inRegion ops (BF .any ops fuel t listed [])::k)) cs) v:=by
 intro fuel
 induction fuel with
 | zero =>
   intro t listed a v hv h
   simp only[BF,List.reverse_nil]
   exact aD hW rfl hv (λw=>nV) (hk a v hv h.2)
 | succ fuel ih =>
   intro t listed a v hv h
   obtain⟨h0,h1⟩:=h
   simp only[BF]
   change Win (G (b.atR a (.inRegion ops (match(Bo .any ops listed)[t%(Bo .any ops listed).length]? with
    |some i=>BF .any ops fuel (t/(Bo .any ops listed).length) (listed.setIfInBounds i Ak) [i]
    |none=>[].reverse)::k)) cs) v
   cases hi:(Bo .any ops listed)[t%(Bo .any ops listed).length]? with
   | none =>
     have hnil:Bo .any ops listed=[]:=by
      cases hr:Bo .any ops listed with
      |nil=>rfl
      | cons x xs =>
        rw[hr]at hi;have hlt:t%(x::xs).length<(x::xs).length:=Nat.mod_lt _ (by simp);simp at hi;simp at hlt;omega
     exact aD hW rfl hv (λw=>nV) (hk a v hv (h0 hnil))
   | some i =>
     simp only[]
     rw[linearise_go_acc,List.reverse_singleton,Ez]
     have h2:=h1 i (At hi)
     cases ho:ops[i]? with
     | none =>
       simp only[ho]at h2
       refine aD hW (g':=G (b.atR a (.inRegion ops (BF .any ops fuel (t/(Bo .any ops listed).length) (listed.setIfInBounds i Ak) [])::k)) cs) rfl hv (λw=>?_) (ih _ _ a v hv h2)
       have hfin:∀rest,(b.atR a (.inRegion ops (i::rest)::k)).finish undef=b.atR a (.inRegion ops rest::k):=λrest=>by rw[EX,ho];rfl
       have:∀rest,stepG P M.main (G (b.atR a (.inRegion ops (i::rest)::k)) cs) w=.go (G ((b.atR a (.inRegion ops (i::rest)::k)).finish undef) cs) w:=λrest=>by simp[G,stepG,Cp,C8,ho]
       rw[this,hfin]
     | some o =>
       simp only[ho]at h2
       split at h2
       . rename_i hw;exact bFs hW (aNb hnd ho) hb hro ho hw hv h2 λa' v' hv' h'=>ih _ _ a' v' hv' h'
       . rename_i hw;exact aMa hW ho hw hv (ih _ _ _ v hv h2)
def bNj{id:Ae}{ops:Aw Bf}(hm:P.follows .mixedOrders=Ak)(hnd:qN ops=Ak)(h:∀d,zL P ops Q ops.size (Bd ops.size Az) a { v with drawn:=d }):WR P lp (.region id ops Ak) Q a v:=by
 intro Win hW hv b k cs hb hro hk;refine(M.closed hW).step rfl hv λv1 w he hsim=>?_
 have hd:stepG P M.main (G (b.atR a (.code (.region id ops Ak)::k)) cs) w =
  .go (G (b.atR a (.inRegion ops (Ff (P.follows .mixedOrders) ops (w.tape w.drawn (.order b.fn id)))::k)) cs) { w with drawn:=w.drawn+1 }:=by
  simp[G,stepG,Cp,C8,choose,Sem.run,Question.forced,Question.cut]
 have he2:Env { v with drawn:=v1.drawn+1 } { v1 with drawn:=v1.drawn+1 }:=⟨he.tape,he.os,he.output,he.heap⟩;refine⟨_,{ v1 with drawn:=v1.drawn+1 },_,#[],hd,⟨⟨hsim.tape,by simp[hsim.drawn],hsim.os,hsim.output,hsim.size,hsim.blk⟩,(he.okV hv).congr rfl,⟨rfl,rfl,rfl,AM _,λ_ c _ _ h=>⟨c,h,rfl,λ_=>rfl⟩,λ_ o h h1 h2=>⟨o,h,h1,h2⟩⟩,λ_ _ _ _=>rfl,by simp⟩,(M.closed hW).env ?_ he2⟩;simp only[Ff,hm,Bool.true_or,CN];exact bPs hW hnd (Q:=Q) hb hro (λa' v' hv' hq=>hk .normal a' v' hv' hq) ops.size _ _ a _ (hv.congr rfl) (h _)
def bNk{c:B1}{Q':Cf->Act->Ag->Prop}(h:WR P lp c Q a v)(hq:∀e a v,Q e a v->Q' e a v):WR P lp c Q' a v :=
 λWin hW hv b k cs hb hro hk=>h Win hW hv b k cs hb hro λe a' v' hv' hx=>hk e a' v' hv' (hq _ _ _ hx)
def bNh(h:Q .normal a v):WR P lp .skip Q a v:=λWin hW hv _ _ _ _ _ hk=>aD hW rfl hv (λ_=>bOu) (hk .normal a v hv h)
def bCn{l:Ae}(h:Q .normal a v):WR P lp (.label l) Q a v:=λWin hW hv _ _ _ _ _ hk=>aD hW rfl hv (λ_=>bEd) (hk .normal a v hv h)
def bWp(h:Q .ret a v):WR P lp .ret Q a v:=λWin hW hv _ k _ _ _ hk=>hk .ret a v hv h k
def bNm{id:Ae}(h:Q (.exit id) a v):WR P lp (.exit id) Q a v:=by
 intro Win hW hv b k cs _ _ hk;have:=hk (.exit id) a v hv h;cases hx:exitTo id k with
 |some k'=>simp only[zK,hx]at this;exact aD hW rfl hv (λ_=>bOx hx) this
 |none=>simp only[zK,hx]at this;exact this k hx
def bWo{x y:B1}(h:WR P lp x (Exit.then (WR P lp y Q) Q) a v):WR P lp (.seq x y) Q a v:=by
 intro Win hW hv b k cs hb hro hk;refine aD hW rfl hv (λ_=>bXj) (h Win hW hv b (.code y::k) cs hb hro λe a' v' hv' hq=>?_);cases e with
 |normal=>exact hq Win hW hv' b k cs hb hro hk
 |exit id=>have:=hk _ a' v' hv' hq;simp only[zK,exitTo]at this ⊢;exact this
 |ret=>exact hk _ a' v' hv' hq
 |goto l=>exact hk _ a' v' hv' hq
 |panic ch=>exact hk _ a' v' hv' hq
 |outgrown=>exact hk _ a' v' hv' hq
def bNn{c:AN}{x y:B1}{t:Bw}(hc:a.eval c=.bool t)(h:WR P lp (if t then x else y) Q a v):WR P lp (.cond c x y) Q a v :=
 λWin hW hv b k cs hb hro hk=>aD hW rfl hv (λ_=>bOy hc) (h Win hW hv b k cs hb hro hk)
def bCo{id:Ae}{c:B1}(h:WR P lp c (EE id Q) a v):WR P lp (.block id c) Q a v:=by
 intro Win hW hv b k cs hb hro hk;refine aD hW rfl hv (λ_=>bEf) (h Win hW hv b (.inBlock id::k) cs hb hro λe a' v' hv' hq=>?_);cases e with
 |normal=>exact aD hW rfl hv' (λ_=>aQr) (hk .normal a' v' hv' hq)
 | exit id' =>
   simp only[EE]at hq;simp only[zK,exitTo];by_cases he:id'=id
   . rw[AB he]at hq
     have:=hk .normal a' v' hv' hq
     rw[AB (by simpa using he.symm)];exact this
   . rw[Ap he]at hq
     have:=hk (.exit id') a' v' hv' hq
     rw[Ap (by simpa using λx:id=id'=>he x.symm)];exact this
 |ret=>exact hk _ a' v' hv' hq
 |goto l=>exact hk _ a' v' hv' hq
 |panic ch=>exact hk _ a' v' hv' hq
 |outgrown=>exact hk _ a' v' hv' hq
def bNl{c:B1}(I:Ae->Act->Ag->Prop)(h0:∃n,I n a v)(h:∀n a v,I n a v->WR P lp c (Exit.then (λa' v'=>∃m,m<n/\I m a' v') Q) a v):WR P lp (.loop c) Q a v:=by
 intro Win hW hv b k cs hb hro hk;have key:∀n a v,OkV v->I n a v->Win (G (b.atR a (.code c::.inLoop c::k)) cs) v:=by
  intro n;induction n using FN with
  | _ n ih =>
    intro a v hv hI;refine h n a v hI Win hW hv b (.inLoop c::k) cs hb hro λe a' v' hv' hq=>?_
    cases e with
    | normal =>
      obtain⟨m,hlt,hI'⟩:=hq;exact aD hW rfl hv' (λ_=>aYj) (ih m hlt a' v' hv' hI')
    |exit id=>have:=hk _ a' v' hv' hq;simp only[zK,exitTo]at this ⊢;exact this
    |ret=>exact hk _ a' v' hv' hq
    |goto l=>exact hk _ a' v' hv' hq
    |panic ch=>exact hk _ a' v' hv' hq
    |outgrown=>exact hk _ a' v' hv' hq
 obtain⟨n,hn⟩:=h0;exact aD hW rfl hv (λ_=>bOw) (key n a v hv hn)
def WpR.inRound(P:As)[M:Mch P](lp:Ae):WpR P Ak (WR P lp) where
 mono h hq:=bNk h hq
 okv h:=λWin hW hv=>h hv Win hW hv
 skip h:=bNh h
 label h:=bCn h
 exit h:=bNm h
 ret h:=bWp h
 regL hnd h:=bNi (hnd rfl) h
 regA hm hnd h:=bNj hm (hnd rfl) h
 seq h:=bWo h
 cond hc h:=bNn hc h
 block h:=bCo h
 loop I h0 h:=bNl I h0 h
 goto e _:=by cases e
 jumps _ e _ _:=by cases e
 scope e _:=by cases e
end
section runs
variable {P:As} {w:Ag}
def zP{l:Ae}{r:Loop}(h:w.heap[l]? = Aa (.loop r)):aU P (getObj l) w=.ok (.loop r) w:=by simp[getObj,aU,h]
def lG{l:Ae}{r r':Loop}(h:w.heap[l]? = Aa (.loop r)):aU P (setObj l (.loop r')) w=.ok () (w.putObj l (.loop r')):=by simp[setObj,aU,h,World.putObj,okO]
def nH{l:Ae}{r:Loop}(h:w.heap[l]? = Aa (.loop r)):aU P (Instr.getLoop l) w=.ok r w:=by simp[Instr.getLoop,aB,zP h,EY]
def oG(o:Obj)(h:okO o=Ak):aU P (newObj o) w=.ok w.heap.size (w.alloc o):=nI P w o h
def tK(fn:AU)(tmps:Aw AE)(ps:Aw Tmp)(assign body:B1) :
 aU P (Instr.enterLoop fn tmps ps assign body Aj) w =
  .ok (w.heap.size+1,[{ target:=.collected w.heap.size,args:=#[] }])
   ((w.alloc (.deferred (Aa []))).alloc (.loop { state:=.ready,pending:=Aj,fn,tmps,params:=ps,assign,body,defers:=w.heap.size })):=by
 unfold Instr.enterLoop
 simp only[aB,oG (.deferred (Aa [])) rfl,EY,aX]
 rw[oG _ rfl]
 simp only[World.size_alloc]
def aYr{l:Ae}{r:Loop}{args:Aw AE}(h:w.heap[l]? = Aa (.loop r))(hs:args.size=r.params.size) :
 aU P (Instr.yield l args) w=.ok (.round l r.fn ((r.params.zip args).foldl (λtmps (t,a)=>tmps.setIfInBounds t a) r.tmps) r.assign r.body) w:=by
 simp[Instr.yield,aB,nH h,EY,hs]
def aBv{l:Ae}{r:Loop}(h:w.heap[l]? = Aa (.loop r))(hr:r.state=.ready) :
 aU P (FC l) w=.ok () (w.putObj l (.loop { r with state:=.busy })):=by
 simp[FC,aB,nH h,lG h,EY,hr]
def aIq{l:Ae}{r:Loop}(jump:Aq B1)(h:w.heap[l]? = Aa (.loop r)) :
 aU P (GL l jump) w=.ok (.bool jump.isNone) (w.putObj l (.loop { r with state:=if jump.isNone then .ready else .done,pending:=jump })):=by
 simp[GL,aB,nH h,lG h,EY]
def aLs{l:Ae}{r:Loop}(h:w.heap[l]? = Aa (.loop r))(hb:r.state≠.busy) :
 aU P (Instr.endLoop l) w=.ok r.pending (w.putObj l (.loop { r with state:=.exhausted })):=by
 simp[Instr.endLoop,aB,nH h,lG h,EY,hb]
def xL{b:Ae}{ds:Ad Cl}(h:w.heap[b]? = Aa (.deferred (Aa ds))) :
 aU P (FT b) w=.ok ds (w.putObj b (.deferred Aj)):=by
 simp[FT,aB,getObj,setObj,aU,h,EY,World.putObj,okO]
end runs
def aLu{α:Type}{s:Sem α}{P:As}{w w':Ag}{r:Result α}{es:Aw Event}(h:s.runT P w #[]=(r,es)):s.run P w=r:=by have:=DU P s w #[];rw[h]at this;exact(congrArg Prod.fst this).symm
def qM(fn:AU)(a:Act)(ps:Aw Tmp)(assign body:B1)(d:Ae)(st:LoopState)(pe:Aq B1):Loop:={ state:=st,pending:=pe,fn,tmps:=a.tmps,params:=ps,assign,body,defers:=d }
def aTx{P:As}{fr:BU}{cs:Ad BU}{s:Sem Next}{w w':Ag}{es:Aw Event}(hk:(fr.kind==DO)=Az)(h:s.runT P w #[]=(.ok .skip w',es)) :
 Eh P Ak fr cs Aj s w=.go { frame:=fr.finish undef,callers:=cs,status:=.running,dying:=Aj } w' (seen P fr.fn es):=by
 simp only[Eh,CN,h,hk,Ch,DV,CJ,Array.append_empty]
section
variable {P:As} [M:Mch P] {Win:Ay->Ag->Prop} {b:BU} {a:Act} {k:Ad Item} {cs:Ad BU} {v:Ag}
def aXw(hW:M.Fam Win){g:AN}{ps:Aw Tmp}{assign body:B1}{gf:AU}{lb:Aw AE}(hb:kA b)(hv:OkV v)(hg:a.eval g=.func (.func gf) #[] lb)
 (hent:∀args w,aU P (callFunc gf args) w=.ok (.enter gf args) w)
 (h:∀v1,Env v v1->Win (G (Dt P gf (#[.func (.yield (v1.heap.size+1)) #[] #[]]++lb) .normal)
   (b.at { a with defers:={ target:=.collected v1.heap.size,args:=#[] }::a.defers } (.inRangeFunc (v1.heap.size+1)::k)::cs))
   ((v1.alloc (.deferred (Aa []))).alloc (.loop (qM b.fn a ps assign body v1.heap.size .ready Aj)))) :
 Win (G (b.at a (.code (.rangeFunc g ps assign body)::k)) cs) v:=by
 refine(M.closed hW).step rfl hv λv1 w he hsim=>?_
 have hv1:=he.okV hv
 obtain⟨w1,es1,h1,h2,h3,h4,h5,h6⟩:=fH (P:=P) (Instr.enterLoop b.fn a.tmps ps assign body Aj) v1 w #[] _ _ hv1 hsim (tK b.fn a.tmps ps assign body)
 obtain⟨v2,hv2⟩:∃v2,(v1.alloc (.deferred (Aa []))).alloc (.loop (qM b.fn a ps assign body v1.heap.size .ready Aj))=v2:=⟨_,rfl⟩
 have hres:aU P (resolve a.eval (rangeCall g (v1.heap.size+1)) 0) v2=.ok { target:=.fn (.func gf) lb,args:=#[.func (.yield (v1.heap.size+1)) #[] #[]] } v2:=by simp only[resolve,hg];simp[Cx,Act.eval]
 have hinv:aU P (invoke (.fn (.func gf) lb) #[.func (.yield (v1.heap.size+1)) #[] #[]]) v2=.ok (.enter gf (#[.func (.yield (v1.heap.size+1)) #[] #[]]++lb)) v2:=by simp only[invoke,hent]
 have hcall:aU P (do let d <-resolve a.eval (rangeCall g (v1.heap.size+1)) 0;invoke d.target d.args) v2=.ok (.enter gf (#[.func (.yield (v1.heap.size+1)) #[] #[]]++lb)) v2:=by rw[aB,hres];exact hinv
 change Sim ((v1.alloc (.deferred (Aa []))).alloc (.loop (qM b.fn a ps assign body v1.heap.size .ready Aj))) w1 at h2
 change OkV ((v1.alloc (.deferred (Aa []))).alloc (.loop (qM b.fn a ps assign body v1.heap.size .ready Aj)))at h3
 change Ext _ ((v1.alloc (.deferred (Aa []))).alloc (.loop (qM b.fn a ps assign body v1.heap.size .ready Aj)))at h4
 change ∀e∈es1,EvV ((v1.alloc (.deferred (Aa []))).alloc (.loop (qM b.fn a ps assign body v1.heap.size .ready Aj))) e at h6
 rw[hv2]at h2 h3 h4 h6
 obtain⟨w2,es2,g1,g2,g3,g4,g5,g6⟩:=fH _ v2 w1 #[] _ _ h3 h2 hcall
 have hk':(b.kind==DO)=false:=hb.beq
 have hev:=Frame.eval_at' b { a with defers:={ target:=.collected v1.heap.size,args:=#[] }::a.defers } (.inRangeFunc (v1.heap.size+1)::k)
 have g1':(do let d <-resolve (b.at { a with defers:={ target:=.collected v1.heap.size,args:=#[] }::a.defers } (.inRangeFunc (v1.heap.size+1)::k)).eval (rangeCall g (v1.heap.size+1)) 0;invoke d.target d.args:Sem Next).runT P w1 #[]=(.ok (.enter gf (#[.func (.yield (v1.heap.size+1)) #[] #[]]++lb)) w2,es2):=by
  rw[hev];have:(Act.eval { a with defers:={ target:=.collected v1.heap.size,args:=#[] }::a.defers })=a.eval:=by funext x;cases x<;>rfl
  rw[this];simpa using g1
 simp only[Frame.at]at g1'
 refine⟨G (Dt P gf (#[.func (.yield (v1.heap.size+1)) #[] #[]]++lb) .normal) (b.at { a with defers:={ target:=.collected v1.heap.size,args:=#[] }::a.defers } (.inRangeFunc (v1.heap.size+1)::k)::cs),v2,w2,seen P b.fn es1++seen P b.fn es2,?_,⟨g2,g3,h4.trans g4,h5.trans h4 g5,λe hx=>?_⟩,?_⟩
 . simp only[G,stepG,Cp,Frame.at,h1,CJ,Ez,rangeCall]at g1' ⊢
   simp only[Eh,g1',CN]
   simp[hk',CJ]
 . rcases Array.mem_append.1 hx with hx|hx
   . exact(h6 e (by simpa using mem_seen hx)).ext g4
   . exact g6 e (by simpa using mem_seen hx)
 . rw[<-hv2];exact h v1 he
def aXv(hW:M.Fam Win){ops:Aw Bf}{i:Ae}{rest:Ad Ae}{o:Bf}{l:Ae}{f:AU}{tmps:Aw AE}{assign body:B1}(hb:kA b)(ho:ops[i]? = Aa o)(hw:Bu o (yielded ops a.tmps)=Ak)(hv:OkV v)
 (h:∀v1,Env v v1->aU P (execOp a.eval o) v1=.ok (.round l f tmps assign body) v1/\Win (G (FY l f tmps assign body .normal) (b.at a (.inRegion ops (i::rest)::k)::cs)) v1) :
 Win (G (b.at a (.inRegion ops (i::rest)::k)) cs) v:=by
 refine(M.closed hW).step rfl hv λv1 w he hsim=>?_
 obtain⟨hr,hwin⟩:=h v1 he
 obtain⟨w',es',h1,h2,h3,h4,h5,h6⟩:=fH _ v1 w #[] _ _ (he.okV hv) hsim hr
 have hk':(b.kind==DO)=false:=hb.beq
 have hrw:=aLu (w':=w) h1
 have hev:∀e∈listed P b.fn a o w,EvV v1 e:=λe hx=>by have:=mem_listed hx;have h7:=DU P (execOp a.eval o) w #[];rw[h1]at h7;have h8:(execOp a.eval o).events P w #[]=#[]++es':=(congrArg Prod.snd h7).symm;rw[h8]at this;exact h6 e (by simpa using this)
 refine⟨_,v1,w',listed P b.fn a o w,?_,⟨h2,h3,h4,h5,hev⟩,hwin⟩
 rw[stepG_oper ho hw]
 simp[Eh,hrw,G,Frame.at,hk',CJ,listed]
def aQb(hW:M.Fam Win){ops:Aw Bf}{i:Ae}{rest:Ad Ae}{o:Bf}(hb:kA b)(ho:ops[i]? = Aa o)(hw:Bu o (yielded ops a.tmps)=Ak)(hv:OkV v)
 (h:∀v1,Env v v1->∃l f tmps assign body,aU P (execOp a.eval o) v1=.ok (.round l f tmps assign body) v1/\Win (G (FY l f tmps assign body .normal) (b.at a (.inRegion ops (i::rest)::k)::cs)) v1) :
 Win (G (b.at a (.inRegion ops (i::rest)::k)) cs) v:=by
 refine(M.closed hW).step rfl hv λv1 w he hsim=>?_
 obtain⟨l,f,tmps,assign,body,hr,hwin⟩:=h v1 he
 obtain⟨w',es',h1,h2,h3,h4,h5,h6⟩:=fH _ v1 w #[] _ _ (he.okV hv) hsim hr
 have hk':(b.kind==DO)=false:=hb.beq
 have hrw:=aLu (w':=w) h1
 have hev:∀e∈listed P b.fn a o w,EvV v1 e:=λe hx=>by have:=mem_listed hx;have h7:=DU P (execOp a.eval o) w #[];rw[h1]at h7;have h8:(execOp a.eval o).events P w #[]=#[]++es':=(congrArg Prod.snd h7).symm;rw[h8]at this;exact h6 e (by simpa using this)
 refine⟨_,v1,w',listed P b.fn a o w,?_,⟨h2,h3,h4,h5,hev⟩,hwin⟩
 rw[stepG_oper ho hw]
 simp[Eh,hrw,G,Frame.at,hk',CJ,listed]
def aXx(hW:M.Fam Win){l:Ae}(hb:b.kind=.normal)(hro:b.roundOf=Aa l)(hv:OkV v)(h:∀v1,Env v v1->∃v2,aU P (FC l) v1=.ok () v2/\(OkV v2->Win (G (b.atR a k) cs) v2)) :
 Win (G (b.atR a (.beginRound::k)) cs) v:=by
 refine(M.closed hW).step rfl hv λv1 w he hsim=>?_
 obtain⟨v2,hr,hwin⟩:=h v1 he
 have hr':aU P (do FC l;pure .skip:Sem Next) v1=.ok .skip v2:=by rw[aB,hr];rfl
 obtain⟨w',es',h1,h2,h3,h4,h5,h6⟩:=fH _ v1 w #[] _ _ (he.okV hv) hsim hr'
 have hk':(b.kind==DO)=false:=by simp[hb]
 refine⟨_,v2,w',seen P b.fn es',?_,⟨h2,h3,h4,h5,λe hx=>h6 e (by simpa using mem_seen hx)⟩,hwin h3⟩
 have h1':(do (b.roundOf).elim (stuck "beginRound: no round") FC; pure .skip:Sem Next).runT P w #[]=(.ok .skip w',es'):=by rw [hro]; simpa using h1
 have:=aTx (fr:=b.atR a (.beginRound::k)) (cs:=cs) (by exact hk') h1'
 simp only[G,stepG,Cp]
 exact this
def bDb(hW:M.Fam Win){l:Ae}{c:BU}{e:Cf}{jump:Aq B1}(hb:b.kind=.normal)(hro:b.roundOf=Aa l)(hv:OkV v)(hj:(e,jump)=(.normal,Aj)\/(e,jump)=(.ret,Aa .ret)\/∃id,(e,jump)=(.exit id,Aa (.exit id)))
 (h:∀v1,Env v v1->∃x v2,aU P (GL l jump) v1=.ok x v2/\(OkV v2->Win (G (c.finish x) cs) v2)):zK Win b [] (c::cs) e a v:=by
 have key:∀(todo:Ad Item),(∀w w' x es,(GL l jump).runT P w #[]=(.ok x w',es)->stepG P M.main (G (b.atR a todo) (c::cs)) w=.go (G (c.finish x) cs) w' (seen P b.fn es))->Win (G (b.atR a todo) (c::cs)) v:=by
  intro todo hst;refine(M.closed hW).step rfl hv λv1 w he hsim=>?_
  obtain⟨x,v2,hr,hwin⟩:=h v1 he;obtain⟨w',es',h1,h2,h3,h4,h5,h6⟩:=fH _ v1 w #[] _ _ (he.okV hv) hsim hr;exact⟨_,v2,w',seen P b.fn es',hst _ _ _ _ (by simpa using h1),⟨h2,h3,h4,h5,λe hx=>h6 e (by simpa using mem_seen hx)⟩,hwin h3⟩
 rcases hj with hj|hj|⟨id,hj⟩
 . injection hj with e1 e2;subst e1;subst e2
   exact key [] λw w' x es hr=>by simp[-DU,G,stepG,Cp,C8,hro,hb,hr,doReturn,CJ]
 . injection hj with e1 e2;subst e1;subst e2
   exact λk1=>key _ λw w' x es hr=>by simp[-DU,G,stepG,Cp,C8,hro,hb,hr,doReturn,CJ]
 . injection hj with e1 e2;subst e1;subst e2
   simp only[zK,exitTo]
   exact λk1 hk1=>key _ λw w' x es hr=>by simp[-DU,G,stepG,Cp,C8,hro,hb,hk1,hr,doReturn,CJ]
def aHy(hW:M.Fam Win){l:Ae}(hv:OkV v)(h:∀v1,Env v v1->∃jump v2,aU P (Instr.endLoop l) v1=.ok jump v2/\(OkV v2->Win (G (b.at a ((jump.map Item.code).toList++k)) cs) v2)) :
 Win (G (b.at a (.endRangeFunc l::k)) cs) v:=by
 refine(M.closed hW).step rfl hv λv1 w he hsim=>?_
 obtain⟨jump,v2,hr,hwin⟩:=h v1 he
 obtain⟨w',es',h1,h2,h3,h4,h5,h6⟩:=fH _ v1 w #[] _ _ (he.okV hv) hsim hr
 refine⟨_,v2,w',seen P b.fn es',?_,⟨h2,h3,h4,h5,λe hx=>h6 e (by simpa using mem_seen hx)⟩,hwin h3⟩
 simp only[Cy]at h1
 simp[-DU,G,stepG,Cp,Frame.at,h1,CJ]
def bDa(hW:M.Fam Win){D:Ae}{ds:Ad Cl}{todo:Ad Item}(hv:OkV v)(hd:a.defers={ target:=.collected D,args:=#[] }::ds)
 (h:∀v1,Env v v1->∃v2,aU P (FT D) v1=.ok [] v2/\(OkV v2->Win (G { b.at { a with defers:=ds } todo with mode:=.returning } cs) v2)) :
 Win (G { b.at a todo with mode:=.returning } cs) v:=by
 refine(M.closed hW).step rfl hv λv1 w he hsim=>?_
 obtain⟨v2,hr,hwin⟩:=h v1 he
 obtain⟨w',es',h1,h2,h3,h4,h5,h6⟩:=fH _ v1 w #[] _ _ (he.okV hv) hsim hr
 refine⟨_,v2,w',seen P b.fn es',?_,⟨h2,h3,h4,h5,λe hx=>h6 e (by simpa using mem_seen hx)⟩,hwin h3⟩
 simp only[Cy]at h1
 simp[-DU,G,stepG,unwind,Frame.at,hd,h1,CJ]
end
end Go.Am
namespace Go.Am
open RowKit (Below)
def SRB(F M:Ae->Prop)(N:Ae)(ds:Ad Cl)(σ:St)(a:Act)(w:Ag):Prop :=
 (∀id,σ.n<=id->σ.H id=Aj)/\∃ι,(∀b,F b->b<w.heap.size)/\(∀id b,ι id=Aa b->M b)/\(∀b,M b->b<w.heap.size/\¬F b) /\
   (∀id b o,ι id=Aa b->σ.H id=Aa o->∃ob,w.heap[b]? = Aa ob/\CR F w ι o ob)/\(∀id id' b,ι id=Aa b->ι id'=Aa b->id=id') /\
   (∀id,(∃b,ι id=Aa b)↔(σ.H id).isSome=Ak)/\(∀t,V F w ι (σ.Γ t) (a.tmps.getD t undef))/\a.tmps.size=N/\a.defers=ds
def aFj:Ae->Ae->Prop:=λ_ _=>True
def noZ:Ae->Aq Value:=λ_=>Aj
section
variable {P:As} {F M:Ae->Prop} {N:Ae} {ds:Ad Cl} {σ:St} {a:Act} {w:Ag}
def SRB.sr(h:SRB F M N ds σ a w)(hok:OkV w)(Z:Ae->Aq AE)(hZ:∀t v,Z t=Aa v->a.tmps.getD t undef=v):SR ⟨w,F,M,aFj,Z⟩ N ds σ a w:=by
 obtain⟨h1,ι,hF,hM,hMF,ho,hi,hd,hV,hN,hds⟩:=h;refine⟨h1,⟨λ_ _ _=>trivial,λ_ _ _=>trivial⟩,hok,F,ι,⟨.refl _ _ _,hF,λb h=>.inl h,λid b e=>⟨.inl (hM id b e),(hMF b (hM id b e)).1,λ_=>(hMF b (hM id b e)).2⟩,ho,λid id' b e e' _ _=>hi id id' b e e',λid id' b o o' e e' _ q q'=>?_⟩,hd,hV,⟨hN,hZ⟩,hds,λ_ _ _=>trivial⟩;have:=hi id id' b e e';subst this;rw[q]at q';injection q' with q';subst q'
 exact AM _
def SR.srb{G:Ctx}(h:SR G N ds σ a w):∃F M,SRB F M N ds σ a w/\(∀b,M b->G.M b\/G.W.heap.size<=b)/\(∀b,F b->G.A b\/G.M b\/G.W.heap.size<=b)/\Kept G.M G.W.heap.size G.W w /\
 ∀t v,G.Z t=Aa v->a.tmps.getD t undef=v:=by
 obtain⟨h1,h2,_,F,ι,hR,hd,hV,hN,hds,_⟩:=h
 refine⟨F,λb=>∃id,ι id=Aa b,⟨h1,ι,hR.F_lt,λid b e=>⟨id,e⟩,?_,hR.obj,λid id' b e e'=>hR.inj id id' b e e' (λx=>x) (λx=>x),hd,hV,hN.1,hds⟩,?_,hR.F_ok,hR.kept,hN.2⟩
 . rintro b ⟨id,e⟩;exact⟨(hR.place id b e).2.1,(hR.place id b e).2.2 λx=>x⟩
 . rintro b ⟨id,e⟩;exact(hR.place id b e).1
def SRB.world(h:SRB F M N ds σ a w){w':Ag}(hsz:w.heap.size<=w'.heap.size)(hb:∀b,F b\/M b->w'.heap[b]? = w.heap[b]?):SRB F M N ds σ a w':=by obtain⟨h1,ι,hF,hM,hMF,ho,hi,hd,hV,hN,hds⟩:=h;have hs:Step F w ι F w' ι:=⟨λ_ h=>h,λb h=>hb b (.inl h),λ_ _ h=>h,λid b cur e hi h=>⟨cur,(hb b (.inr (hM id b hi))).trans h,rfl⟩⟩;refine⟨h1,ι,λb h=>Be (hF b h) hsz,hM,λb h=>⟨Be (hMF b h).1 hsz,(hMF b h).2⟩,λid b o e e'=>?_,hi,hd,λt=>(hV t).step hs,hN,hds⟩;obtain⟨ob,q1,q2⟩:=ho id b o e e';exact⟨ob,(hb b (.inr (hM id b e))).trans q1,q2.step hs⟩
def SRB.more(h:SRB F M N ds σ a w){F':Ae->Prop}(hFF:∀b,F b->F' b)(hF':∀b,F' b->b<w.heap.size)(hMF':∀b,M b->¬F' b):SRB F' M N ds σ a w:=by obtain⟨h1,ι,hF,hM,hMF,ho,hi,hd,hV,hN,hds⟩:=h;have hs:Step F w ι F' w ι:=⟨hFF,λb h=>rfl,λ_ _ h=>h,λid b cur e hi h=>⟨cur,h,rfl⟩⟩;refine⟨h1,ι,hF',hM,λb h=>⟨(hMF b h).1,hMF' b h⟩,λid b o e e'=>?_,hi,hd,λt=>(hV t).step hs,hN,hds⟩;obtain⟨ob,q1,q2⟩:=ho id b o e e';exact⟨ob,q1,q2.step hs⟩
def SRB.act(h:SRB F M N ds σ a w){Γ':Ae->AV}{a':Act}{ds':Ad Cl}(hN:a'.tmps.size=N)(hds:a'.defers=ds')
 (hV:∀t,(Γ' t=σ.Γ t/\a'.tmps.getD t undef=a.tmps.getD t undef)\/Γ' t=.any\/∃d v,Γ' t=bH d/\a'.tmps.getD t undef=v/\VD F w d v):SRB F M N ds' ⟨Γ',σ.H,σ.n⟩ a' w:=by
 obtain⟨h1,ι,hF,hM,hMF,ho,hi,hd,hV0,_,_⟩:=h
 refine⟨h1,ι,hF,hM,hMF,ho,hi,hd,λt=>?_,hN,hds⟩
 rcases hV t with ⟨e1,e2⟩|e|⟨d,v,e1,e2,e3⟩
 . show V F w ι (Γ' t) _
   rw[e1,e2];exact hV0 t
 . show V F w ι (Γ' t) _
   rw[e];exact .any _
 . show V F w ι (Γ' t) _
   rw[e1,e2];exact mS e3
def SRB.defers(h:SRB F M N ds σ a w)(ds':Ad Cl):SRB F M N ds' σ { a with defers:=ds' } w:=by obtain⟨h1,ι,hF,hM,hMF,ho,hi,hd,hV,hN,hds⟩:=h;exact⟨h1,ι,hF,hM,hMF,ho,hi,hd,hV,hN,rfl⟩
def SRB.weak(h:SRB F M N ds σ a w)(hok:OkV w){σ':St}{ρ:Ae->Ae}(hk:Wk σ σ' ρ):∃F' M',SRB F' M' N ds σ' a w/\(∀b,M' b->M b)/\∀b,F' b->F b\/M b:=by
 obtain⟨F',M',h',hM,hF,_⟩:=(xB hk (h.sr hok noZ λ_ _ e=>by cases e)).srb;refine⟨F',M',h',λb hb=>?_,λb hb=>?_⟩
 . rcases hM b hb with h1|h1
   . exact h1
   . obtain⟨_,_,_,_,q,_⟩:=h'
     have:=(q b hb).1
     simp only at h1;omega
 . rcases hF b hb with h1|h1|h1
   . exact .inl h1
   . exact .inr h1
   . obtain⟨_,_,q,_⟩:=h'
     have:=q b hb
     simp only at h1;omega
def mW(σ:St)(l:Ad Ae):St:=fin ⟨σ.Γ,kill l σ.H,σ.n⟩ l
def SRB.callee(h:SRB F M N ds σ a w){g:AN}{gf:AU}{cs:Ad AV}{caps:Ad D}(hg:dG (oev σ.Γ g)=Aa (gf,cs))(hf:cK σ.H cs=Aa caps) :
 ∃lb A M',a.eval g=.func (.func gf) #[] lb/\caps.length=lb.size/\(∀(k:Ae) d v,caps[k]? = Aa d->lb[k]? = Aa v->VD A w d v)/\SRB A M' N ds (mW σ (bW σ.H cs)) a w /\
  (∀b,A b->F b\/M b)/\(∀b,M' b->M b):=by
 obtain⟨h1,ι,hF,hM,hMF,ho,hi,hd,hV,hN,hds⟩:=h
 have hR:HR ⟨w,F,M,aFj,noZ⟩ F w ι bG σ.H:=by
  refine⟨.refl _ _ _,hF,λb h=>.inl h,λid b e=>⟨.inl (hM id b e),(hMF b (hM id b e)).1,λ_=>(hMF b (hM id b e)).2⟩,ho,λid id' b e e' _ _=>hi id id' b e e',λid id' b o o' e e' _ q q'=>?_⟩;have:=hi id id' b e e';subst this;rw[q]at q';injection q' with q';subst q'
  exact AM _
 have hVg:V F w ι (oev σ.Γ g) (a.eval g):=cD λt _=>hV t
 obtain⟨lb,e1,e2,e3⟩:=aHb hg hVg
 obtain⟨q1,q2,q3⟩:=kS (vs:=lb.toList) hR (λ_ _ h=>h) hf (by simpa using e2) λk c u hc hu=>e3 k c u hc (by simpa using hu)
 let l:=bW σ.H cs
 have hAM:∀b,reach F ι l b->F b\/M b:=by
  rintro b (hb|⟨id,_,e⟩)
  . exact .inl hb
  . exact .inr (hM id b e)
 have hAlt:∀b,reach F ι l b->b<w.heap.size:=λb hb=>(hAM b hb).elim (hF b) λh=>(hMF b h).1
 have hs:Step F w ι (reach F ι l) w ι:=⟨λb h=>.inl h,λb h=>rfl,λ_ _ h=>h,λid b cur e hi h=>⟨cur,h,rfl⟩⟩
 refine⟨lb,reach F ι l,λb=>M b/\¬reach F ι l b,e1,by simpa using q1,λk d v hk hv=>q2 k d v hk (by simpa using hv),?_,hAM,λb h=>h.1⟩
 have hmask:∀id b,mask ι l id=Aa b->M b/\¬reach F ι l b:=λid b e=>by
  obtain⟨m1,m2⟩:=cT e;refine⟨hM id b m1,?_⟩;rintro(hb|⟨id',hid',e'⟩)
  . exact(hMF b (hM id b m1)).2 hb
  . exact m2 (hi id id' b m1 e' ▸ hid')
 have hkill:∀id,kill l σ.H id=if id∈l then Aj else σ.H id:=λid=>by
  by_cases hid:id∈l
  . rw[AB hid,kY hid]
  . rw[Ap hid,jR hid]
 unfold mW
 show SRB (reach F ι l) _ N ds (fin ⟨σ.Γ,kill l σ.H,σ.n⟩ l) a w
 cases hl:l with
 | nil =>
   have hmk:mask ι l=ι:=by funext id;simp[mask,hl]
   rw[<-hl]
   have hfin:fin ⟨σ.Γ,kill l σ.H,σ.n⟩ l=σ:=by rw[hl];rfl
   rw[hfin]
   refine⟨h1,ι,hAlt,λid b e=>hmask id b (by rw[hmk];exact e),λb h=>⟨(hMF b h.1).1,h.2⟩,λid b o e e'=>?_,hi,hd,λt=>(hV t).step hs,hN,hds⟩
   obtain⟨ob,p1,p2⟩:=ho id b o e e'
   exact⟨ob,p1,p2.step hs⟩
 | cons x xs =>
   rw[<-hl]
   have hfin:fin ⟨σ.Γ,kill l σ.H,σ.n⟩ l=⟨λt=>kB l (σ.Γ t),λid=>(kill l σ.H id).map (gT l),σ.n⟩:=by rw[hl];rfl
   rw[hfin]
   refine⟨λid h=>by simp only;rw[hkill,h1 id h];simp,mask ι l,hAlt,hmask,λb h=>⟨(hMF b h.1).1,h.2⟩,λid b o e e'=>?_,λid id' b e e'=>hi id id' b (cT e).1 (cT e').1,λid=>?_,λt=>aKk ((hV t).step hs),hN,hds⟩
   . obtain⟨m1,m2⟩:=cT e
     simp only[hkill,Ap m2]at e'
     obtain⟨o1,ho1,rfl⟩:=Ai.1 e'
     obtain⟨ob,p1,p2⟩:=ho id b o1 m1 ho1
     exact⟨ob,p1,aEq (p2.step hs)⟩
   . constructor
     . rintro⟨b,e⟩
       obtain⟨m1,m2⟩:=cT e
       simp only[hkill,Ap m2,Fp]
       exact(hd id).1 ⟨b,m1⟩
     . intro e
       by_cases hid:id∈l
       . simp[hkill,hid]at e
       . simp only[hkill,Ap hid,Fp]at e
         obtain⟨b,hb⟩:=(hd id).2 e
         exact⟨b,by unfold mask;rw[Ap hid];exact hb⟩
end
open Go.Conc (G)
def YX(P:As)[M:Mch P](l:Ae)(vals:Aw AE)(W1:Ag)(R:AE->Ag->Prop):Prop :=
 ∃f tmps assign body,aU P (Instr.yield l vals) W1=.ok (.round l f tmps assign body) W1 /\
  ∀(Win:Ay->Ag->Prop),M.Fam Win->OkV W1->∀(c:BU) (cs:Ad BU),(∀x v',OkV v'->R x v'->Win (Go.Conc.G (c.finish x) cs) v')->Win (Go.Conc.G (FY l f tmps assign body .normal) (c::cs)) W1
def nP(P:As)[M:Mch P](g:AU)(caps:Ad D)(xs:Ad (Ad D)):Prop :=
 ∀(A:Ae->Prop) (W:Ag) (l:Ae) (lb:Aw AE),(∀b,A b->b<W.heap.size)->caps.length=lb.size->(∀(k:Ae) d v,caps[k]? = Aa d->lb[k]? = Aa v->VD A W d v) ->
   (∀args w,aU P (callFunc g args) w=.ok (.enter g args) w) /\
   ∀(J:Ae->(Ae->Prop)->(Ae->Prop)->Ag->Prop),
     (∀k X O W1 X' O' W2,J k X O W1->Kept O W1.heap.size W1 W2->(∀b,X b->X' b)->(∀b,X' b->X b\/(W1.heap.size<=b/\b<W2.heap.size))->(∀b,O' b->X' b/\(O b\/W1.heap.size<=b))->J k X' O' W2) ->
     (∀k X O W1 ds (vals:Aw AE),xs[k]? = Aa ds->J k X O W1->ds.length=vals.size->(∀(i:Ae) d v,ds[i]? = Aa d->vals[i]? = Aa v->VD (λb=>A b\/(X b/\¬O b)) W1 d v) ->
       YX P l vals W1 λx W2=>x=.bool (decide (k+1≠xs.length))/\J (k+1) X O W2/\W1.heap.size<=W2.heap.size/\W2.os=W1.os/\W2.tape=W1.tape/\W2.output=W1.output/\∀b,A b\/X b->W2.heap[b]? = W1.heap[b]?) ->
     J 0 bG bG W ->
     CX P g (#[.func (.yield l) #[] #[]]++lb) W λ_ W'=>∃X O,J xs.length X O W'
def qP(Ds:Ad Ae):Ad Deferred:=Ds.map λD=>{ target:=.collected D,args:=#[] }
def FR(W:Ag)(A0:Ae->Prop)(N:Ae)(Ds:Ad Ae)(σ:St)(a:Act)(w:Ag):Prop :=
 ∃F M,SRB F M N (qP Ds) σ a w/\(∀b,M b->W.heap.size<=b)/\(∀b,F b->A0 b\/W.heap.size<=b)/\Kept bG W.heap.size W w /\
  (∀D∈Ds,W.heap.size<=D/\w.heap[D]? = Aa (.deferred (Aa []))/\¬M D/\¬F D)/\Ds.Nodup
def FRx(W:Ag)(A0:Ae->Prop)(N:Ae)(σ:St)(a:Act)(w:Ag):Prop:=∃Ds,FR W A0 N Ds σ a w
def dW{w:Ag}{b:Ae}{o:Obj}(h:w.heap[b]? = Aa o):b<w.heap.size:=(Bm.1 h).1
section
variable {P:As} [M:Mch P] {W w:Ag} {A0:Ae->Prop} {N:Ae} {Ds:Ad Ae} {σ:St} {a:Act}
def SRB.env{F Ms:Ae->Prop}{ds:Ad Cl}(h:SRB F Ms N ds σ a w){v1:Ag}(he:Env w v1):SRB F Ms N ds σ a v1:=by
 have hF:∀b,F b->b<w.heap.size:=by obtain⟨_,_,q,_⟩:=h;exact q
 have hM:∀b,Ms b->b<w.heap.size:=by obtain⟨_,_,_,_,q,_⟩:=h;exact λb hb=>(q b hb).1
 exact h.world he.size λb hb=>he.get (hb.elim (hF b) (hM b))
def Env.kept{v v1:Ag}(h:Env v v1)(O:Ae->Prop):Kept O v.heap.size v v1 :=
 ⟨h.os,h.tape,h.output,h.size,λk hk _=>h.get hk,λk cur e hk hc=>⟨cur,(h.get hk).trans hc,rfl⟩⟩
def FRx.env(h:FRx W A0 N σ a w){v1:Ag}(he:Env w v1):FRx W A0 N σ a v1:=by obtain⟨Ds,F,M,hs,hM,hF,hK,hD,hnd⟩:=h;have hWw:=hK.size;refine⟨Ds,F,M,hs.env he,hM,hF,hK.trans ⟨he.os,he.tape,he.output,he.size,λk hk _=>he.get (by omega),λk cur e hk hc=>⟨cur,(he.get (by omega)).trans hc,rfl⟩⟩,λD hDm=>?_,hnd⟩;obtain⟨d1,d2,d3,d4⟩:=hD D hDm;exact⟨d1,(he.get (dW d2)).trans d2,d3,d4⟩
def pS(hm:P.follows .mixedOrders=Ak){c:B1}{Q:Cf->St->Prop}(hd:bX N c=Ak)(hl:cM P c=Ak)(h:AWP P c σ Q)(hs:FRx W A0 N σ a w) :
 WC P c (λe a' w'=>∃σ',Q e σ'/\FRx W A0 N σ' a' w') a w:=by
 refine(cA P).okv λhok=>?_
 obtain⟨Ds,F,Ms,hs,hM,hF,hK,hD,hnd⟩:=hs
 have hMlt:∀b,Ms b->b<w.heap.size:=by obtain⟨_,_,_,_,q,_⟩:=hs;exact λb hb=>(q b hb).1
 refine cG (bZ (G:=⟨w,F,Ms,aFj,noZ⟩) hm (λ_=>rfl) c Q σ a w hd hl h (hs.sr hok noZ λ_ _ e=>by cases e)) ?_
 rintro e a' w' ⟨σ',hq,hs'⟩
 refine⟨σ',hq,?_⟩
 obtain⟨F',M',h',hM',hF',hK',_⟩:=hs'.srb
 simp only at hM' hF' hK'
 have hWw:=hK.size
 refine⟨Ds,F',M',h',λb hb=>?_,λb hb=>?_,hK.trans ⟨hK'.os,hK'.tape,hK'.output,hK'.size,λk hk _=>hK'.block k (by omega) λhm=>by have:=hM k hm;omega,λk cur e hk hc=>hK'.shape k cur e (by omega) hc⟩,λD hDm=>?_,hnd⟩
 . rcases hM' b hb with h|h
   . exact hM b h
   . omega
 . rcases hF' b hb with h|h|h
   . exact hF b h
   . exact .inr (hM b h)
   . exact .inr (by omega)
 . obtain⟨d1,d2,d3,d4⟩:=hD D hDm
   have hlt:=dW d2
   refine⟨d1,(hK'.block D hlt d3).trans d2,λhm=>?_,λhf=>?_⟩
   . rcases hM' D hm with h|h
     . exact d3 h
     . omega
   . rcases hF' D hf with h|h|h
     . exact d4 h
     . exact d3 h
     . omega
def aEs:Ad (Tmp×D)->(Ae->AV)->Ae->AV
 |[],Γ=>Γ
 |(p,d)::l,Γ=>aEs l (upd Γ p (bH d))
def bEn{F:Ae->Prop}{w:Ag}{wr:Ae->Bw}:∀(l:Ad (Tmp×D)) (vs:Ad (Tmp×AE)) (Γ0 Γ:Ae->AV) (T0 T:Aw AE),T.size=T0.size->l.length=vs.length ->
 (∀(k:Ae) p q,l[k]? = Aa p->vs[k]? = Aa q->p.1=q.1/\p.1<T0.size/\wr p.1=Ak/\VD F w p.2 q.2) ->
 (∀t,(Γ t=Γ0 t/\T.getD t undef=T0.getD t undef)\/Γ t=.any\/∃d v,Γ t=bH d/\T.getD t undef=v/\VD F w d v) ->
 (∀t,wr t=Az->T.getD t undef=T0.getD t undef) ->
 ((vs.foldl (λt (p:Tmp×AE)=>t.setIfInBounds p.1 p.2) T).size=T0.size) /\
 (∀t,(aEs l Γ t=Γ0 t/\(vs.foldl (λt (p:Tmp×AE)=>t.setIfInBounds p.1 p.2) T).getD t undef=T0.getD t undef)\/aEs l Γ t=.any\/∃d v,aEs l Γ t=bH d/\(vs.foldl (λt (p:Tmp×AE)=>t.setIfInBounds p.1 p.2) T).getD t undef=v/\VD F w d v) /\
 (∀t,wr t=Az->(vs.foldl (λt (p:Tmp×AE)=>t.setIfInBounds p.1 p.2) T).getD t undef=T0.getD t undef)
 |[],[],Γ0,Γ,T0,T,hsz,_,_,h,hz=>⟨hsz,h,hz⟩
 |[],_::_,_,_,_,_,_,hl,_,_,_=>by simp at hl
 |_::_,[],_,_,_,_,_,hl,_,_,_=>by simp at hl
 | (p,d)::l,(p',v)::vs,Γ0,Γ,T0,T,hsz,hl,hp,h,hz=>by
   obtain⟨e1,e2,e3,e4⟩:=hp 0 _ _ rfl rfl;simp only at e1 e2 e3 e4;subst e1;have hget:∀t,(T.setIfInBounds p v).getD t undef=if t=p then v else T.getD t undef:=λt=>by
    simp only[Au];by_cases ht:t=p
    . subst ht;rw[AB rfl,Array.getElem?_setIfInBounds_self_of_lt (by rw[hsz];exact e2)];rfl
    . rw[Ap ht,Array.getElem?_setIfInBounds_ne (Ne.symm ht)]
   refine bEn (wr:=wr) l vs Γ0 (upd Γ p (bH d)) T0 (T.setIfInBounds p v) (by simpa using hsz) (by simpa using hl) (λk a b ha hb=>hp (k+1) a b (by simpa using ha) (by simpa using hb)) (λt=>?_) λt ht=>?_
   . by_cases htp:t=p
     . subst htp
       exact .inr (.inr ⟨d,v,upd_same _ _ _,by rw[hget,AB rfl],e4⟩)
     . rw[upd_ne _ _ htp,hget,Ap htp];exact h t
   . rw[hget,Ap (λe=>by subst e;rw[e3]at ht;cases ht)];exact hz t ht
structure aKo(P:As)[M:Mch P](N:Ae)(ps:Aw Tmp)(assign body:B1)(wl:Ad Ae)(xs:Ad (Ad D))(T:Ae->St)(E:Cf):Prop where
 dst:bX N assign=Ak/\bX N body=Ak
 lex:cM P assign=Ak/\cM P body=Ak
 rd:fD assign=Ak/\fD body=Ak
 nz:fL (λt=>!wl.contains t) assign=Ak/\fL (λt=>!wl.contains t) body=Ak
 psl:∀p∈ps.toList,p<N/\wl.contains p=Ak
 ne:0<xs.length
 round:∀k x,xs[k]? = Aa x->x.length=ps.size/\AWP P assign ⟨aEs (ps.toList.zip x) (T k).Γ,(T k).H,(T k).n⟩ λe σ1=>e=.normal /\
  AWP P body σ1 λe σ2=>e=(if k+1=xs.length then E else .normal)/\∃ρ,Wk ⟨λt=>if wl.contains t then .any else σ2.Γ t,σ2.H,σ2.n⟩ (T (k+1)) ρ
def aSs(l:Aw (Tmp×AE))(T:Aw AE):l.foldl (λt (x:Tmp×AE)=>match x with|(p,v)=>t.setIfInBounds p v) T=l.toList.foldl (λt (p:Tmp×AE)=>t.setIfInBounds p.1 p.2) T:=by rw[<-Array.foldl_toList]
def rC(rec:LoopState->Aq B1->Loop)(jc:B1)(n k:Ae):Loop:=if k=n then rec .done (Aa jc)else rec .ready Aj
def JR(W:Ag)(n:Ae)(A0 A:Ae->Prop)(N:Ae)(Ds:Ad Ae)(T:Ae->St)(a:Act)(rec:Ae->Loop)(k:Ae)(X O:Ae->Prop)(U:Ag):Prop:=∃F M,SRB F M N (qP Ds) (T k) a U /\
 (∀b,M b->W.heap.size<=b/\¬X b/\¬A b/\b≠n+1/\b≠n/\b ∉ Ds)/\(∀b,F b->(A0 b\/W.heap.size<=b)/\¬O b/\b≠n+1/\b≠n/\b ∉ Ds) /\
 Kept bG W.heap.size W U/\(∀D∈Ds,U.heap[D]? = Aa (.deferred (Aa [])))/\U.heap[n+1]? = Aa (.loop (rec k))/\U.heap[n]? = Aa (.deferred (Aa [])) /\
 (∀b,X b->n+2<=b/\b<U.heap.size)/\(∀b,O b->X b)
def JR.stab{n:Ae}{A:Ae->Prop}{T:Ae->St}{rec:Ae->Loop}(hWw:W.heap.size<=n)(hDs:∀D∈Ds,D<n):∀k X O U1 X' O' U2,JR W n A0 A N Ds T a rec k X O U1->Kept O U1.heap.size U1 U2->(∀b,X b->X' b) ->
 (∀b,X' b->X b\/(U1.heap.size<=b/\b<U2.heap.size))->(∀b,O' b->X' b/\(O b\/U1.heap.size<=b))->JR W n A0 A N Ds T a rec k X' O' U2:=by
 rintro k X O U1 X' O' U2 ⟨F,M,hj,hjM,hjF,hjK,hjD,hjl,hjd,hjX,hjO⟩ hk hX1 hX2 hO
 have hFlt:∀b,F b->b<U1.heap.size:=by obtain⟨_,_,q,_⟩:=hj;exact q
 have hMlt:∀b,M b->b<U1.heap.size:=by obtain⟨_,_,_,_,q,_⟩:=hj;exact λb h=>(q b h).1
 have keep:∀b,b<U1.heap.size->¬O b->U2.heap[b]? = U1.heap[b]? := λb h1 h2=>hk.block b h1 h2
 have hOge:∀b,O b->n+2<=b:=λb hb=>(hjX b (hjO b hb)).1
 have hKs:=hjK.size
 refine⟨F,M,hj.world hk.size λb hb=>?_,λb hb=>?_,λb hb=>?_,?_,λD hDm=>?_,?_,?_,λb hb=>?_,λb hb=>(hO b hb).1⟩
 . rcases hb with h|h
   . exact keep b (hFlt b h) (hjF b h).2.1
   . exact keep b (hMlt b h) λho=>(hjM b h).2.1 (hjO b ho)
 . obtain⟨q1,q2,q3⟩:=hjM b hb
   refine⟨q1,λhx=>?_,q3⟩
   rcases hX2 b hx with h|h
   . exact q2 h
   . have:=hMlt b hb;omega
 . obtain⟨q1,q2,q3⟩:=hjF b hb
   refine⟨q1,λhx=>?_,q3⟩
   rcases(hO b hx).2 with h|h
   . exact q2 h
   . have:=hFlt b hb;omega
 . exact hjK.trans ⟨hk.os,hk.tape,hk.output,hk.size,λk hk' _=>keep k (by omega) λho=>(by have:=hOge k ho;omega),λk cur e hk' hc=>⟨cur,(keep k (by omega) λho=>(by have:=hOge k ho;omega)).trans hc,rfl⟩⟩
 . have:=hDs D hDm
   exact(keep D (dW (hjD D hDm)) λho=>by have:=hOge D ho;omega).trans (hjD D hDm)
 . exact(keep _ (dW hjl) λho=>by have:=hOge _ ho;omega).trans hjl
 . exact(keep _ (dW hjd) λho=>by have:=hOge _ ho;omega).trans hjd
 . have:=hk.size
   rcases hX2 b hb with h|h
   . have:=hjX b h;omega
   . have:=dW hjl
     refine⟨?_,h.2⟩
     omega
def Kept.env{O:Ae->Prop}{n:Ae}{v v1:Ag}(h:Kept O n W v)(hn:n<=v.heap.size)(he:Env v v1):Kept O n W v1 :=
 h.trans ⟨he.os,he.tape,he.output,he.size,λk hk _=>he.get (by omega),λk cur e hk hc=>⟨cur,(he.get (by omega)).trans hc,rfl⟩⟩
def JR.round(hm:P.follows .mixedOrders=Ak){n:Ae}{A:Ae->Prop}{ps:Aw Tmp}{assign body:B1}{fn:AU}{xs:Ad (Ad D)}{T:Ae->St}{wl:Ad Ae}{E:Cf}{jc:B1}(hE:(E,jc)=(.ret,.ret)\/∃id,(E,jc)=(.exit id,.exit id))(hWw:W.heap.size<=n)(hDs:∀D∈Ds,D<n)(hAlt:∀b,A b->b<n)
 (hA0':∀b,A b->A0 b\/W.heap.size<=b) (hADs:∀b,A b->b ∉ Ds) (hadef:a.tmps.size=N) (hadd:a.defers=qP Ds) (hr:aKo P N ps assign body wl xs T E) :
 ∀k X O U1 ds (vals:Aw AE),xs[k]? = Aa ds->JR W n A0 A N Ds T a (rC (qM fn a ps assign body n) jc xs.length) k X O U1->ds.length=vals.size->(∀(i:Ae) d v,ds[i]? = Aa d->vals[i]? = Aa v->VD (λb=>A b\/(X b/\¬O b)) U1 d v) ->
  YX P (n+1) vals U1 λx W2=>x=.bool (decide (k+1≠xs.length))/\JR W n A0 A N Ds T a (rC (qM fn a ps assign body n) jc xs.length) (k+1) X O W2/\U1.heap.size<=W2.heap.size/\W2.os=U1.os/\W2.tape=U1.tape/\W2.output=U1.output/\∀b,A b\/X b->W2.heap[b]? = U1.heap[b]? := by
 obtain⟨rec,hrec⟩:∃rec:LoopState->Aq B1->Loop,rec=qM fn a ps assign body n:=⟨_,rfl⟩
 rw[<-hrec]
 rintro k X O U1 ds vals hx ⟨F,Ms,hj,hjM,hjF,hjK,hjD,hjl,hjd,hjX,hjO⟩ hlen hvals
 obtain⟨hps,hwalk⟩:=hr.round k ds hx
 have hFlt:∀b,F b->b<U1.heap.size:=by obtain⟨_,_,q,_⟩:=hj;exact q
 have hMlt:∀b,Ms b->b<U1.heap.size:=by obtain⟨_,_,_,_,q,_⟩:=hj;exact λb h=>(q b h).1
 have hsz1:n+1<U1.heap.size:=dW hjl
 have hklt:k<xs.length:=(AA.1 hx).1
 have hrk:rC rec jc xs.length k=rec .ready none:=by unfold rC;rw[Ap (by omega)]
 rw[hrk]at hjl
 have hy:=aYr (P:=P) (args:=vals) hjl (by rw[hrec];show vals.size=ps.size;omega)
 rw[hrec]at hy
 refine⟨fn,_,assign,body,hy,λWin hW hok c cs hk=>?_⟩
 let b0:Frame:={ (default:BU)with fn:=fn,kind:=.normal,roundOf:=Aa (n+1) }
 -- the frame of the round
 let F1:Ae->Prop:=λb=>F b\/A b\/(X b/\¬O b)
 have hF1lt:∀b,F1 b->b<U1.heap.size:=by
  rintro b (h|h|h)
  . exact hFlt b h
  . have:=hAlt b h;omega
  . exact(hjX b h.1).2
 have hj1:SRB F1 Ms N (qP Ds) (T k) a U1:=hj.more (λb h=>.inl h) hF1lt λb hb hf=>by
  obtain⟨_,q2,q3,_⟩:=hjM b hb;rcases hf with h|h|h
  . obtain⟨_,_,_,_,q,_⟩:=hj;exact(q b hb).2 h
  . exact q3 h
  . exact q2 h.1
 obtain⟨s1,s2,s3⟩:=bEn (F:=F1) (w:=U1) (wr:=λt=>wl.contains t) (ps.toList.zip ds) (ps.zip vals).toList (T k).Γ (T k).Γ a.tmps a.tmps rfl (by simp;omega) (λi p q hp hq=>by
  rw[Array.toList_zip]at hq;rw[List.getElem?_zip_eq_some]at hp hq;obtain⟨p1,p2⟩:=p;obtain⟨q1,q2⟩:=q;simp only at hp hq ⊢;have e:p1=q1:=by have:=hp.1.symm.trans hq.1;injection this
  obtain⟨w1,w2⟩:=hr.psl p1 (At hp.1);exact⟨e,by rw[hadef];exact w1,w2,(hvals i p2 q2 hp.2 (by simpa using hq.2)).mono λb hb=>.inr hb⟩) (λt=>.inl ⟨rfl,rfl⟩) λt _=>rfl
 have hfold:=aSs (ps.zip vals) a.tmps
 obtain⟨tmps',htm⟩:∃tmps',(ps.zip vals).foldl (λt (x:Tmp×AE)=>match x with|(p,v)=>t.setIfInBounds p v) a.tmps=tmps':=⟨_,rfl⟩
 rw[<-hfold,htm]at s1 s2 s3
 have hb0:FY (n+1) fn ((ps.zip vals).foldl (λt (x:Tmp×AE)=>match x with|(p,v)=>t.setIfInBounds p v) a.tmps) assign body .normal=b0.atR { tmps:=tmps',defers:=[] } [.code assign,.beginRound,.code body]:=by simp only[FY,C8,b0,htm]
 show Win (G (FY (n+1) fn ((ps.zip vals).foldl (λt (x:Tmp×AE)=>match x with|(p,v)=>t.setIfInBounds p v) a.tmps) assign body .normal) (c::cs)) U1
 rw[hb0]
 have hj2:SRB F1 Ms N [] ⟨aEs (ps.toList.zip ds) (T k).Γ,(T k).H,(T k).n⟩ { tmps:=tmps',defers:=[] } U1:=hj1.act (by show tmps'.size=N;omega) rfl s2
 let Z:Ae->Aq Value:=λt=>if wl.contains t then Aj else Aa (a.tmps.getD t undef)
 have hZ:∀d v,Z d=Aa v->(!wl.contains d)=true:=λd v e=>by
  simp only[Z]at e;split at e
  . cases e
  . rename_i h;simpa using h
 have hZt:∀(tm:Aw AE),(∀t,wl.contains t=Az->tm.getD t undef=a.tmps.getD t undef)->∀t v,Z t=Aa v->tm.getD t undef=v:=λtm h t v e=>by
  simp only[Z]at e;split at e
  . cases e
  . rename_i hc;injection e with e;rw[h t (by simpa using hc),e]
 refine uU (G:=⟨U1,F1,Ms,aFj,Z⟩) (WpR.inRound P (n+1)) hm hZ assign _ _ _ _ hr.dst.1 hr.lex.1 hr.nz.1 (λ_=>hr.rd.1) hwalk (hj2.sr hok Z (hZt _ s3)) Win hW hok b0 [.beginRound,.code body] (c::cs) rfl rfl ?_
 rintro e a2 U2o hok2 ⟨σ2,⟨rfl,hwalk2⟩,hs2⟩
 refine aXx hW rfl rfl hok2 λU2 he2=>?_
 obtain⟨F2',M2',h2o,hM2',hF2',hK2o,hZ2⟩:=hs2.srb
 simp only at hM2' hF2' hK2o hZ2
 have h2:=h2o.env he2
 have hK2':=hK2o.env hK2o.size he2
 have hl2:U2.heap[n+1]? = Aa (.loop (rec .ready Aj)):=(hK2'.block _ hsz1 λh=>(hjM _ h).2.2.2.1 rfl).trans hjl
 have hsz2:U1.heap.size<=U2.heap.size:=hK2'.size
 refine⟨_,aBv hl2 (by rw[hrec];rfl),?_⟩
 obtain⟨U3,hU3⟩:∃U3,U2.putObj (n+1) (.loop { rec .ready Aj with state:=.busy })=U3:=⟨_,rfl⟩
 have hU3s:U3.heap.size=U2.heap.size:=by rw[<-hU3];simp
 have hl3:U3.heap[n+1]? = Aa (.loop { rec .ready Aj with state:=.busy }):=by rw[<-hU3];exact World.putObj_heap_same (by omega)
 have hoth3:∀b,b≠n+1->U3.heap[b]? = U2.heap[b]? := λb hb=>by rw[<-hU3];exact EZ hb
 have hF1l:∀b,F1 b->b≠n+1:=by
  rintro b (h|h|h)
  . exact(hjF b h).2.2.1
  . have:=hAlt b h;omega
  . have:=(hjX b h.1).1;omega
 have hM2l:∀b,M2' b->b≠n+1:=λb hb=>by
  rcases hM2' b hb with h|h
  . exact(hjM b h).2.2.2.1
  . omega
 have hF2l:∀b,F2' b->b≠n+1:=λb hb=>by
  rcases hF2' b hb with h|h|h
  . exact hF1l b h
  . exact(hjM b h).2.2.2.1
  . omega
 have h3:SRB F2' M2' N [] σ2 a2 U3:=h2.world (by omega) λb hb=>hoth3 b (hb.elim (hF2l b) (hM2l b))
 rw[show U2.putObj (n+1) (.loop { rec .ready Aj with state:=.busy })=U3 from hU3]
 intro hok3
 refine uU (G:=⟨U3,F2',M2',aFj,Z⟩) (WpR.inRound P (n+1)) hm hZ body _ _ _ _ hr.dst.2 hr.lex.2 hr.nz.2 (λ_=>hr.rd.2) hwalk2 (h3.sr hok3 Z hZ2) Win hW hok3 b0 [] (c::cs) rfl rfl ?_
 rintro e a4 U4o hok4 ⟨σ4,⟨heE,ρ,hwk⟩,hs4⟩
 obtain⟨jump,hjmp,hjump⟩:∃jump:Aq B1,((e,jump)=(.normal,Aj)\/(e,jump)=(.ret,Aa .ret)\/∃id,(e,jump)=(.exit id,Aa (.exit id)))/\jump=if k+1=xs.length then Aa jc else none:=by
  by_cases hlast:k+1=xs.length
  . rw[AB hlast]at heE ⊢
    subst heE
    refine⟨_,?_,rfl⟩
    rcases hE with hE|⟨id,hE⟩
    . injection hE with e1 e2;subst e1;subst e2;exact .inr (.inl rfl)
    . injection hE with e1 e2;subst e1;subst e2;exact .inr (.inr ⟨id,rfl⟩)
  . rw[Ap hlast]at heE ⊢
    subst heE
    exact⟨Aj,.inl rfl,rfl⟩
 refine bDb hW rfl rfl hok4 hjmp λU4 he4=>?_
 obtain⟨F4,M4,h4o,hM4,hF4,hK4o,hZ4⟩:=hs4.srb
 simp only at hM4 hF4 hK4o hZ4
 have h4:=h4o.env he4
 have hK4:=hK4o.env hK4o.size he4
 have hok4':=he4.okV hok4
 have hl4:U4.heap[n+1]? = Aa (.loop { rec .ready Aj with state:=.busy }):=(hK4.block _ (by omega) λh=>hM2l _ h rfl).trans hl3
 have hsz4:U3.heap.size<=U4.heap.size:=hK4.size
 have hrr:({ ({ rec .ready Aj with state:=.busy }:Loop)with state:=if jump.isNone then .ready else .done,pending:=jump }:Loop)=rC rec jc xs.length (k+1):=by
  rw[hjump,hrec];unfold rC;by_cases hlast:k+1=xs.length
  . simp only[AB hlast];rfl
  . simp only[Ap hlast];rfl
 obtain⟨U5,hU5⟩:∃U5,U4.putObj (n+1) (.loop (rC rec jc xs.length (k+1)))=U5:=⟨_,rfl⟩
 have hU5s:U5.heap.size=U4.heap.size:=by rw[<-hU5];simp
 have hoth5:∀b,b≠n+1->U5.heap[b]? = U4.heap[b]? := λb hb=>by rw[<-hU5];exact EZ hb
 have hend:=aIq (P:=P) jump hl4
 rw[hrr,hU5]at hend
 have hjb:jump.isNone=decide (k+1≠xs.length):=by
  rw[hjump];by_cases hlast:k+1=xs.length
  . simp[hlast]
  . simp[hlast]
 rw[hjb]at hend
 refine⟨_,U5,hend,λhok5=>hk _ _ hok5 ⟨rfl,?_⟩⟩
 -- what lay there lies there still
 have hkeep:∀b,b<U1.heap.size->¬Ms b->b≠n+1->U5.heap[b]? = U1.heap[b]? := λb h1 h2 h3=>by rw[hoth5 b h3,hK4.block b (by omega) (λh=>by rcases hM2' b h with h|h;exact h2 h;omega),hoth3 b h3,hK2'.block b h1 h2]
 have hM4':∀b,M4 b->Ms b\/U1.heap.size<=b:=λb hb=>by
  rcases hM4 b hb with h|h
  . exact hM2' b h
  . right;omega
 have hF4':∀b,F4 b->F1 b\/Ms b\/U1.heap.size<=b:=λb hb=>by
  rcases hF4 b hb with h|h|h
  . exact hF2' b h
  . exact .inr (hM2' b h)
  . right;right;omega
 have hM4l:∀b,M4 b->b≠n+1:=λb hb=>by
  rcases hM4' b hb with h|h
  . exact(hjM b h).2.2.2.1
  . omega
 have hF4l:∀b,F4 b->b≠n+1:=λb hb=>by
  rcases hF4' b hb with h|h|h
  . exact hF1l b h
  . exact(hjM b h).2.2.2.1
  . omega
 have h5:SRB F4 M4 N [] σ4 a4 U5:=h4.world (by omega) λb hb=>hoth5 b (hb.elim (hF4l b) (hM4l b))
 have h6:SRB F4 M4 N (qP Ds) ⟨λt=>if wl.contains t then .any else σ4.Γ t,σ4.H,σ4.n⟩ a U5:=h5.act hadef hadd λt=>by
  by_cases ht:wl.contains t=Ak
  . right;left;simp only[ht,CN]
  . left
    have ht':wl.contains t=false:=by simpa using ht
    refine⟨by simp only[ht',Ch,DV],?_⟩
    exact(hZ4 t (a.tmps.getD t undef) (by simp only[Z,ht',Ch,DV])).symm
 obtain⟨F7,M7,h7,hM7,hF7⟩:=h6.weak hok5 hwk
 have hM7':∀b,M7 b->Ms b\/U1.heap.size<=b:=λb hb=>hM4' b (hM7 b hb)
 have hF7':∀b,F7 b->F1 b\/Ms b\/U1.heap.size<=b:=λb hb=>(hF7 b hb).elim (hF4' b) λh=>.inr (hM4' b h)
 have hKs:=hjK.size
 have hDlt:∀D∈Ds,D<U1.heap.size:=λD hDm=>dW (hjD D hDm)
 refine⟨⟨F7,M7,h7,λb hb=>?_,λb hb=>?_,?_,λD hDm=>?_,?_,?_,λb hb=>?_,hjO⟩,by omega,?_,?_,?_,λb hb=>?_⟩
 . rcases hM7' b hb with h|h
   . exact hjM b h
   . exact⟨by omega,λhx=>by have:=(hjX b hx).2;omega,λha=>by have:=hAlt b ha;omega,by omega,by omega,λhDm=>by have:=hDlt b hDm;omega⟩
 . rcases hF7' b hb with (h|h|h)|h|h
   . exact hjF b h
   . have:=hAlt b h
     exact⟨hA0' b h,λho=>by have:=(hjX b (hjO b ho)).1;omega,by omega,by omega,hADs b h⟩
   . have:=(hjX b h.1).1
     exact⟨.inr (by omega),h.2,by omega,by omega,λhDm=>by have:=hDs b hDm;omega⟩
   . obtain⟨q1,q2,q3,q4,q5,q6⟩:=hjM b h
     exact⟨.inr q1,λho=>q2 (hjO b ho),q4,q5,q6⟩
   . exact⟨.inr (by omega),λho=>by have:=(hjX b (hjO b ho)).2;omega,by omega,by omega,λhDm=>by have:=hDlt b hDm;omega⟩
 . refine hjK.trans ⟨?_,?_,?_,by omega,λb hb _=>hkeep b (by omega) (λh=>by have:=(hjM b h).1;omega) (by omega),λb cur e hb hc=>⟨cur,(hkeep b (by omega) (λh=>by have:=(hjM b h).1;omega) (by omega)).trans hc,rfl⟩⟩
   . rw[<-hU5];show U4.os=U1.os;rw[hK4.os,<-hU3];exact hK2'.os
   . rw[<-hU5];show U4.tape=U1.tape;rw[hK4.tape,<-hU3];exact hK2'.tape
   . rw[<-hU5];show U4.output=U1.output;rw[hK4.output,<-hU3];exact hK2'.output
 . exact(hkeep D (hDlt D hDm) (λh=>(hjM D h).2.2.2.2.2 hDm) (by have:=hDs D hDm;omega)).trans (hjD D hDm)
 . rw[<-hU5];exact World.putObj_heap_same (by omega)
 . exact(hkeep _ (by omega) (λh=>(hjM _ h).2.2.2.2.1 rfl) (by omega)).trans hjd
 . have:=hjX b hb;omega
 . rw[<-hU5];show U4.os=U1.os;rw[hK4.os,<-hU3];exact hK2'.os
 . rw[<-hU5];show U4.tape=U1.tape;rw[hK4.tape,<-hU3];exact hK2'.tape
 . rw[<-hU5];show U4.output=U1.output;rw[hK4.output,<-hU3];exact hK2'.output
 . rcases hb with h|h
   . have:=hAlt b h
     exact hkeep b (by omega) (λhmm=>(hjM b hmm).2.2.1 h) (by omega)
   . have:=hjX b h
     exact hkeep b this.2 (λhmm=>(hjM b hmm).2.1 h) (by omega)
end
end Go.Am
namespace Go.Am
open Go.Conc (G)
open RowKit (Below)
section
variable {P:As} [M:Mch P] {W w:Ag} {A0:Ae->Prop} {N:Ae} {Ds:Ad Ae} {σ:St} {a:Act}
def aOb(hm:P.follows .mixedOrders=Ak){g:AN}{ps:Aw Tmp}{assign body:B1}{gf:AU}{cs:Ad AV}{caps:Ad D}{xs:Ad (Ad D)}{T:Ae->St}{wl:Ad Ae}{E:Cf}{jc:B1}(hE:(E,jc)=(.ret,.ret)\/∃id,(E,jc)=(.exit id,.exit id))
 (hg:dG (oev σ.Γ g)=Aa (gf,cs)) (hf:cK σ.H cs=Aa caps) (hseq:nP P gf caps xs) (hr:aKo P N ps assign body wl xs T E) (h0:∃ρ,Wk (mW σ (bW σ.H cs)) (T 0) ρ) (hs:FRx W A0 N σ a w)
 (hok:OkV w) {Win:Ay->Ag->Prop} (hW:M.Fam Win) {b0:BU} {k0:Ad Item} {cs0:Ad BU} (hb0:kA b0)
 (hk:∀e a' v',OkV v'->(e=E/\FRx W A0 N (T xs.length) a' v')->fW Win b0 k0 cs0 e a' v') {lb0:Aw AE} (hev0:a.eval g=.func (.func gf) #[] lb0) :
 Win (G (Dt P gf (#[.func (.yield (w.heap.size+1)) #[] #[]]++lb0) .normal) (b0.at { a with defers:={ target:=.collected w.heap.size,args:=#[] }::a.defers } (.inRangeFunc (w.heap.size+1)::k0)::cs0))
  ((w.alloc (.deferred (Aa []))).alloc (.loop (qM b0.fn a ps assign body w.heap.size .ready Aj))):=by
 obtain⟨Ds,F,Ms,hs,hM,hF,hK,hD,hnd⟩:=hs
 obtain⟨lb,A,M1,hev,hlb,hV,hs1,hA,hM1⟩:=hs.callee hg hf
 have hlb0:lb=lb0:=by rw[hev]at hev0;injection hev0
 subst hlb0
 obtain⟨ρ0,hw0⟩:=h0
 obtain⟨F2,M2,hs2,hM2,hF2⟩:=hs1.weak hok hw0
 have hWw:=hK.size
 have hAlt:∀b,A b->b<w.heap.size:=by obtain⟨_,_,q,_⟩:=hs1;exact q
 have hM2A:∀b,M2 b->¬A b:=λb hb=>by obtain⟨_,_,_,_,q,_⟩:=hs1;exact(q b (hM2 b hb)).2
 have hadef:a.tmps.size=N:=by obtain⟨_,_,_,_,_,_,_,_,_,q,_⟩:=hs;exact q
 have hadd:a.defers=qP Ds:=by obtain⟨_,_,_,_,_,_,_,_,_,_,q⟩:=hs;exact q
 obtain⟨rec,hrec⟩:∃rec:LoopState->Aq B1->Loop,rec=qM b0.fn a ps assign body w.heap.size:=⟨_,rfl⟩
 rw[<-hrec]
 obtain⟨W1,hW1⟩:∃W1,(w.alloc (.deferred (Aa []))).alloc (.loop (rec .ready Aj))=W1:=⟨_,rfl⟩
 rw[hW1]
 have hW1s:W1.heap.size=w.heap.size+2:=by rw[<-hW1];simp
 have hL1:W1.heap[w.heap.size+1]? = Aa (.loop (rec .ready Aj)):=by rw[<-hW1];have:=World.alloc_heap_new (w.alloc (.deferred (Aa []))) (.loop (rec .ready Aj));rwa [World.size_alloc]at this
 have hold:∀b,b<w.heap.size->W1.heap[b]? = w.heap[b]? := λb hb=>by rw[<-hW1];show((w.heap.push _).push _)[b]? = _;rw[BW,Ap (by simp;omega),BW,Ap (by omega)]
 have hK1:W1.heap[w.heap.size]? = Aa (.deferred (Aa [])):=by rw[<-hW1];show((w.heap.push _).push _)[w.heap.size]? = _;rw[BW,Ap (by simp),BW,AB rfl]
 have hstr:W1.os=w.os/\W1.tape=w.tape/\W1.output=w.output:=by rw[<-hW1];exact⟨rfl,rfl,rfl⟩
 have hAW1:∀(k:Ae) d v,caps[k]? = Aa d->lb[k]? = Aa v->VD A W1 d v:=λk d v hk hv=>(hV k d v hk hv).step (λ_ h=>h) λb hb=>hold b (hAlt b hb)
 obtain⟨hent,hseq⟩:=hseq A W1 (w.heap.size+1) lb (λb hb=>by have:=hAlt b hb;omega) hlb hAW1
 have hDs:∀D∈Ds,D<w.heap.size:=λD hDm=>dW (hD D hDm).2.1
 have hA0':∀b,A b->A0 b\/W.heap.size<=b:=λb hb=>(hA b hb).elim (hF b) λh=>.inr (hM b h)
 have hADs:∀b,A b->b ∉ Ds:=λb hb hDm=>(hA b hb).elim (hD b hDm).2.2.2 (hD b hDm).2.2.1
 have hcx:=hseq (JR W w.heap.size A0 A N Ds T a (rC rec jc xs.length)) (JR.stab hWw hDs) (by rw[hrec];exact JR.round hm hE hWw hDs hAlt hA0' hADs hadef hadd hr) ?start
 . have hokW1:OkV W1:=by rw[<-hW1];exact(hok.alloc rfl).alloc rfl
   refine hcx Win hW hokW1 _ cs0 λx U0 hokU0 hR=>?_
   obtain⟨X,O,hj0⟩:=hR
   rw[show(b0.at { a with defers:={ target:=.collected w.heap.size,args:=#[] }::a.defers } (.inRangeFunc (w.heap.size+1)::k0)).finish x=b0.at { a with defers:={ target:=.collected w.heap.size,args:=#[] }::a.defers } (.endRangeFunc (w.heap.size+1)::k0)by simp[Frame.finish,Frame.at]]
   refine aHy hW hokU0 λU heU=>?_
   have hjO0:∀b,O b->X b:=by obtain⟨_,_,_,_,_,_,_,_,_,_,q⟩:=hj0;exact q
   obtain⟨F,Ms,hj,hjM,hjF,hjK,hjD,hjl,hjd,hjX,hjO⟩:=JR.stab hWw hDs _ X O U0 X O U hj0 (heU.kept O) (λ_ h=>h) (λ_ h=>.inl h) (λb h=>⟨hjO0 b h,.inl h⟩)
   have hra:rC rec jc xs.length xs.length=rec .done (Aa jc):=by unfold rC;rw[AB rfl]
   rw[hra]at hjl
   have hlt:=dW hjl
   obtain⟨U',hU'⟩:∃U',U.putObj (w.heap.size+1) (.loop { rec .done (Aa jc)with state:=.exhausted })=U':=⟨_,rfl⟩
   have hoth:∀b,b≠w.heap.size+1->U'.heap[b]? = U.heap[b]? := λb hb=>by rw[<-hU'];exact EZ hb
   have hUs:U'.heap.size=U.heap.size:=by rw[<-hU'];simp
   have hst:U'.os=U.os/\U'.tape=U.tape/\U'.output=U.output:=by rw[<-hU'];exact⟨rfl,rfl,rfl⟩
   have hrun:=aLs (P:=P) hjl (by rw[hrec];simp[qM])
   rw[hU',show(rec .done (Aa jc)).pending=Aa jc by rw[hrec];rfl]at hrun
   refine⟨Aa jc,U',hrun,λhokU'=>?_⟩
   have hfin:FRx W A0 N (T xs.length) { a with defers:={ target:=.collected w.heap.size,args:=#[] }::a.defers } U':=by
    refine⟨w.heap.size::Ds,F,Ms,?_,λb hb=>(hjM b hb).1,λb hb=>(hjF b hb).1,?_,?_,?_⟩
    . rw[hadd]
      exact(hj.world (w':=U') (by omega) λb hb=>hoth b (by
       rcases hb with h|h
       . exact(hjF b h).2.2.1
       . exact(hjM b h).2.2.2.1)).defers (qP (w.heap.size::Ds))
    . exact hjK.trans ⟨hst.1,hst.2.1,hst.2.2,by omega,λk hk _=>hoth k (by omega),λk cur e hk hc=>⟨cur,(hoth k (by omega)).trans hc,rfl⟩⟩
    . intro D hDm
      rcases BQ.1 hDm with rfl|hDm
      . exact⟨hWw,(hoth _ (by omega)).trans hjd,λh=>(hjM _ h).2.2.2.2.1 rfl,λh=>(hjF _ h).2.2.2.1 rfl⟩
      . have:=hDs D hDm
        exact⟨(hD D hDm).1,(hoth _ (by omega)).trans (hjD D hDm),λh=>(hjM _ h).2.2.2.2.2 hDm,λh=>(hjF _ h).2.2.2.2 hDm⟩
    . exact DQ.2 ⟨λh=>by have:=hDs _ h;omega,hnd⟩
   have hcode:Win (G (b0.at { a with defers:={ target:=.collected w.heap.size,args:=#[] }::a.defers } (.code jc::k0)) cs0) U':=by
    rcases hE with hE|⟨id,hE⟩
    . injection hE with e1 e2;subst e1;subst e2
      exact aIa (Q:=λe a' w'=>e=.ret/\FRx W A0 N (T xs.length) a' w') ⟨rfl,hfin⟩ Win hW hokU' b0 k0 cs0 hb0 hk
    . injection hE with e1 e2;subst e1;subst e2
      exact aUr (Q:=λe a' w'=>e=.exit id/\FRx W A0 N (T xs.length) a' w') ⟨rfl,hfin⟩ Win hW hokU' b0 k0 cs0 hb0 hk
   exact hcode
 case start =>
  refine⟨F2,M2,hs2.world (by omega) (λb hb=>hold b ?_),λb hb=>?_,λb hb=>?_,?_,λD hDm=>?_,by unfold rC;rw[Ap (by have:=hr.ne;omega)];exact hL1,hK1,λb hb=>hb.elim,λb hb=>hb.elim⟩
  . obtain⟨_,_,q1,_,q2,_⟩:=hs2
    exact hb.elim (q1 b) λh=>(q2 b h).1
  . have hb2:=hM1 b (hM2 b hb)
    have:b<w.heap.size:=by obtain⟨_,_,_,_,q2,_⟩:=hs2;exact(q2 b hb).1
    exact⟨hM b hb2,λh=>h.elim,hM2A b hb,by omega,by omega,λhDm=>(hD b hDm).2.2.1 hb2⟩
  . have:b<w.heap.size:=by obtain⟨_,_,q1,_⟩:=hs2;exact q1 b hb
    have hb2:A0 b\/W.heap.size<=b:=(hF2 b hb).elim (hA0' b) λh=>.inr (hM b (hM1 b h))
    exact⟨hb2,λh=>h.elim,by omega,by omega,λhDm=>(hF2 b hb).elim (λh=>hADs b h hDm) λh=>(hD b hDm).2.2.1 (hM1 b h)⟩
  . exact hK.trans ⟨hstr.1,hstr.2.1,hstr.2.2,by omega,λk hk _=>hold k (by omega),λk cur e hk hc=>⟨cur,(hold k (by omega)).trans hc,rfl⟩⟩
  . exact(hold D (hDs D hDm)).trans (hD D hDm).2.1
def bJl(hm:P.follows .mixedOrders=Ak){g:AN}{ps:Aw Tmp}{assign body:B1}{gf:AU}{cs:Ad AV}{caps:Ad D}{xs:Ad (Ad D)}{T:Ae->St}{wl:Ad Ae}{E:Cf}{jc:B1}(hE:(E,jc)=(.ret,.ret)\/∃id,(E,jc)=(.exit id,.exit id))
 (hg:dG (oev σ.Γ g)=Aa (gf,cs)) (hf:cK σ.H cs=Aa caps) (hseq:nP P gf caps xs) (hr:aKo P N ps assign body wl xs T E) (h0:∃ρ,Wk (mW σ (bW σ.H cs)) (T 0) ρ) (hs:FRx W A0 N σ a w) :
 WC P (.rangeFunc g ps assign body) (λe a' w'=>e=E/\FRx W A0 N (T xs.length) a' w') a w:=by
 intro Win hW hokw b0 k0 cs0 hb0 hk0
 have hevg:∃lb,a.eval g=.func (.func gf) #[] lb/\∀args w,aU P (callFunc gf args) w=.ok (.enter gf args) w:=by
  obtain⟨Ds,F,Ms,hs,_⟩:=hs;obtain⟨lb,A,M1,hev,hlb,hV,hs1,_⟩:=hs.callee hg hf;have hAlt:∀b,A b->b<w.heap.size:=by obtain⟨_,_,q,_⟩:=hs1;exact q
  exact⟨lb,hev,(hseq A w 0 lb hAlt hlb hV).1⟩
 obtain⟨lb0,hev0,hentg⟩:=hevg
 exact aXw hW hb0 hokw hev0 hentg λw1 he1=>aOb hm hE hg hf hseq hr h0 (hs.env he1) (he1.okV hokw) hW hb0 hk0 hev0
end
end Go.Am
namespace Go.Am
open Go.Conc
open RowKit (Below)
def oT(P:As)[M:Mch P](N:Ae):B1->St->(Cf->St->Prop)->Prop
 |.seq x y,σ,Q=>oT P N x σ λe σ'=>match e with|.normal=>oT P N y σ' Q|e=>Q e σ'
 |.block id c,σ,Q=>oT P N c σ λe σ'=>match e with|.exit id'=>if id'=id then Q .normal σ' else Q (.exit id') σ'|e=>Q e σ'
 |.rangeFunc g ps assign body,σ,Q=>∃gf cs caps xs T wl E jc,((E,jc)=(Exit.ret,Code.ret)\/∃id,(E,jc)=(Exit.exit id,Code.exit id))/\dG (oev σ.Γ g)=Aa (gf,cs)/\cK σ.H cs=Aa caps/\nP P gf caps xs/\aKo P N ps assign body wl xs T E/\(∃ρ,Wk (mW σ (bW σ.H cs)) (T 0) ρ)/\Q E (T xs.length)
 |.scope c,σ,Q=>oT P N c σ λe σ'=>match e with|.goto _=>False|e=>Q e σ'
 |c,σ,Q=>AWP P c σ Q
def nN(p:B1->Bw):B1->Bw
 |.seq x y=>nN p x&&nN p y
 |.block _ c|.scope c=>nN p c
 |.rangeFunc ..=>Ak
 |c=>p c
section
variable {P:As} [M:Mch P] {W:Ag} {A0:Ae->Prop} {N:Ae}
def aUh(hm:P.follows .mixedOrders=Ak)(hA0:∀b,A0 b->b<W.heap.size):∀(c:B1) (Q:Cf->St->Prop) (σ:St) (a:Act) (w:Ag),nN (bX N) c=Ak->nN (cM P) c=Ak->oT P N c σ Q->FRx W A0 N σ a w ->
 WC P c (λe a' w'=>∃σ',Q e σ'/\FRx W A0 N σ' a' w') a w:=by
 intro c
 induction c with
 | seq x y ihx ihy =>
   intro Q σ a w hd hl h hs
   simp only[nN,A5]at hd hl
   refine fA (cG (ihx _ σ a w hd.1 hl.1 h hs) ?_)
   rintro e a' w' ⟨σ',hq,hs'⟩
   cases e with
   |normal=>exact ihy Q σ' a' w' hd.2 hl.2 hq hs'
   |_=>exact⟨σ',hq,hs'⟩
 | block id c ih =>
   intro Q σ a w hd hl h hs
   refine aAz (cG (ih _ σ a w hd hl h hs) ?_)
   rintro e a' w' ⟨σ',hq,hs'⟩
   cases e with
   | exit id' =>
     simp only[EE]at hq ⊢
     split at hq
     . rename_i he;rw[AB he];exact⟨σ',hq,hs'⟩
     . rename_i he;rw[Ap he];exact⟨σ',hq,hs'⟩
   |_=>exact⟨σ',hq,hs'⟩
 | rangeFunc g ps assign body _ _ =>
   intro Q σ a w _ _ h hs
   obtain⟨gf,cs,caps,xs,T,wl,E,jc,hE,hg,hf,hseq,hr,h0,hq⟩:=h
   refine cG (bJl hm hE hg hf hseq hr h0 hs) ?_
   rintro e a' w' ⟨rfl,hs'⟩
   exact⟨_,hq,hs'⟩
 |skip=>intro Q σ a w hd hl h hs;exact pS hm hd hl h hs
 |region id ops draw=>intro Q σ a w hd hl h hs;exact pS hm hd hl h hs
 |cond c x y _ _=>intro Q σ a w hd hl h hs;exact pS hm hd hl h hs
 |loop c _=>intro Q σ a w hd hl h hs;exact pS hm hd hl h hs
 |exit id=>intro Q σ a w hd hl h hs;exact pS hm hd hl h hs
 |ret=>intro Q σ a w hd hl h hs;exact pS hm hd hl h hs
 |label l=>intro Q σ a w hd hl h hs;exact pS hm hd hl h hs
 | scope c ih =>
   intro Q σ a w hd hl h hs
   refine aKz (cG (ih _ σ a w hd hl h hs) ?_)
   rintro e a' w' ⟨σ',hq,hs'⟩
   cases e with
   |goto l=>exact hq.elim
   |_=>exact⟨σ',hq,hs'⟩
 |_=>intro Q σ a w hd hl h;exact h.elim
def LV(P:As)[M:Mch P](f:AU)(R:AE->Ag->Prop)(a:Act)(v:Ag):Prop :=
 ∀(Win:Ay->Ag->Prop),M.Fam Win->OkV v->∀(b:BU) (todo:Ad Item) (c0:BU) (cs:Ad BU),b.kind=.normal->b.fn=f->(∀x v',OkV v'->R x v'->Win (G (c0.finish x) cs) v')->Win (G { b.at a todo with mode:=.returning } (c0::cs)) v
def zF{f:AU}{fn:Func}{c:B1}{args:Aw AE}{R:AE->Ag->Prop}{v:Ag}(hf:P.funcs[f]? = Aa fn)(hb:fn.body=Aa c)
 (h:WC P c (λe a v=>(e=.normal\/e=.ret)/\LV P f R a v) { tmps:=args++Bd (fn.ntmps-args.size) undef,defers:=[] } v):CX P f args v R:=by
 intro Win hW hv c0 cs hk
 rw[enter_at args hf hb]
 refine h Win hW hv (base f) [] (c0::cs) (.inl rfl) λe a' v' hv' hq=>?_
 obtain⟨he,hl⟩:=hq
 rcases he with rfl|rfl
 . exact aD hW rfl hv' (λw=>stepG_end) (hl Win hW hv' (base f) [] c0 cs rfl rfl hk)
 . exact λtodo=>hl Win hW hv' (base f) todo c0 cs rfl rfl hk
def zA{f:AU}{fn:Func}{R:AE->Ag->Prop}{a:Act}{v:Ag}(hf:P.funcs[f]? = Aa fn)(hd:a.defers=[])(hr:∀v1,Env v v1->∃x,aU P (results fn a.tmps) v1=.ok x v1/\R x v1):LV P f R a v:=by
 intro Win hW hv b todo c0 cs hb hfn hk;refine(M.closed hW).step rfl hv λv1 w he hsim=>?_
 obtain⟨x,hx,hR⟩:=hr v1 he;obtain⟨w',es',h1,h2,h3,h4,h5,h6⟩:=fH _ v1 w #[] x v1 (he.okV hv) hsim hx;exact⟨_,v1,w',_,oZ hb hd (by rw[hfn];exact hf) h1,⟨h2,h3,h4,h5,λe he'=>h6 e (by have:=mem_seen he';simpa using this)⟩,hk x v1 h3 hR⟩
def aSe{f:AU}{R:AE->Ag->Prop}{a:Act}{v:Ag}{D:Ae}{ds:Ad Cl}(hd:a.defers={ target:=.collected D,args:=#[] }::ds)
 (h:∀v1,Env v v1->∃v2,aU P (FT D) v1=.ok [] v2/\LV P f R { a with defers:=ds } v2):LV P f R a v:=by
 intro Win hW hv b todo c0 cs hb hfn hk
 refine bDa hW hv hd λv1 he=>?_
 obtain⟨v2,h1,h2⟩:=h v1 he
 exact⟨v2,h1,λhok2=>h2 Win hW hok2 b todo c0 cs hb hfn hk⟩
def vW{f:AU}{fn:Func}{σ:St}{r:D}(hf:P.funcs[f]? = Aa fn)(hr:jM P fn.results.toList σ=Aa r):∀(Ds:Ad Ae) (a:Act) (w:Ag),a.defers=qP Ds->(∃F Ms,SRB F Ms N (qP Ds) σ a w/\(∀b,Ms b->W.heap.size<=b)/\(∀b,F b->A0 b\/W.heap.size<=b)/\Kept bG W.heap.size W w /\
 (∀D∈Ds,W.heap.size<=D/\w.heap[D]? = Aa (.deferred (Aa []))/\¬Ms D/\¬F D))->Ds.Nodup->LV P f (λv W'=>Below W.heap.size W W'/\VD (λb=>A0 b\/(W.heap.size<=b/\b<W'.heap.size)) W' r v) a w
 | [],a,w,had,⟨F,Ms,hs0,hM,hF,hK0,_⟩,_=>by
   intro Win hW hokw;refine zA hf had (λw1 he=>?_) Win hW hokw;have hs:=hs0.env he;have hK:=hK0.env hK0.size he;obtain⟨v,h1,h2⟩:=fP (hs.sr (he.okV hokw) noZ λ_ _ e=>by cases e) hr;have hFlt:∀b,F b->b<w1.heap.size:=by obtain⟨_,_,q,_⟩:=hs;exact q
   have hMlt:∀b,Ms b->b<w1.heap.size:=by obtain⟨_,_,_,_,q,_⟩:=hs;exact λb h=>(q b h).1
   refine⟨v,h1,⟨hK.os,hK.tape,hK.output,hK.size,λk hk=>hK.block k hk λh=>h⟩,h2.mono ?_⟩;rintro b (h|h|h)
   . exact(hF b h).imp_right λq=>⟨q,hFlt b h⟩
   . exact .inr ⟨hM b h,hMlt b h⟩
   . simp only at h;omega
 | D::Ds,a,w0,had,⟨F,Ms,hs0,hM,hF,hK0,hD0⟩,hnd=>by
   refine aSe (ds:=qP Ds) (by rw[had];rfl) λw he=>?_
   have hs:=hs0.env he;have hK:=hK0.env hK0.size he;have hD:∀D'∈D::Ds,W.heap.size<=D'/\w.heap[D']? = Aa (.deferred (Aa []))/\¬Ms D'/\¬F D':=λD' hD'=>by obtain⟨e1,e2,e3,e4⟩:=hD0 D' hD';exact⟨e1,(he.get (dW e2)).trans e2,e3,e4⟩
   obtain⟨d1,d2,d3,d4⟩:=hD D (AX ..);have hlt:=dW d2;obtain⟨w',hw'⟩:∃w',w.putObj D (.deferred Aj)=w':=⟨_,rfl⟩;have hoth:∀b,b≠D->w'.heap[b]? = w.heap[b]? := λb hb=>by rw[<-hw'];exact EZ hb
   have hsz:w'.heap.size=w.heap.size:=by rw[<-hw'];simp
   refine⟨w',by rw[<-hw'];exact xL d2,vW hf hr Ds _ w' rfl ⟨F,Ms,(hs.world (by omega) λb hb=>hoth b ?_).defers (qP Ds),hM,hF,?_,λD' hD'=>?_⟩ (DQ.1 hnd).2⟩
   . rintro rfl;exact hb.elim d4 d3
   . exact hK.trans ⟨by rw[<-hw'];rfl,by rw[<-hw'];rfl,by rw[<-hw'];rfl,by omega,λk hk _=>hoth k (by omega),λk cur e hk hc=>⟨cur,(hoth k (by omega)).trans hc,rfl⟩⟩
   . obtain⟨e1,e2,e3,e4⟩:=hD D' (AT _ hD')
     exact⟨e1,(hoth D' λe=>by subst e;exact(DQ.1 hnd).1 hD').trans e2,e3,e4⟩
def qY {f:Ae} {fn:Func} {c:B1} {args:Ad D} {r:D} (hm:P.follows .mixedOrders=Ak) (hf:P.funcs[f]? = Aa fn) (hb:fn.body=Aa c) (hname:(fn.name == "runtime.NumGoroutine")=Az) (hN:fn.ntmps=N)
 (hd:nN (bX N) c=Ak) (hl':nN (cM P) c=Ak) (ha:args.length<=N) (h:oT P N c (St0 args N) λe σ=>(e=.normal\/e=.ret)/\jM P fn.results.toList σ=Aa r):Spec P f args r:=by
 intro A W vs hA hl hv
 have hn:¬ fn.name = "runtime.NumGoroutine" := by simpa using hname
 refine⟨λw=>by simp[callFunc,hf,hn,hb],?_⟩
 refine zF hf hb ?_
 subst hN
 refine(cA P).okv λhok=>?_
 obtain⟨F,Ms,h1,hM,hF,hK,_⟩:=(SR0 hok hA hl hv ha).srb
 simp only at hM hF hK
 refine cG (aUh (W:=W) (A0:=A) hm hA c _ _ _ _ hd hl' h ⟨[],F,Ms,h1,λb hb=>?_,λb hb=>?_,hK,(λD hD=>by cases hD),List.nodup_nil⟩) ?_
 . exact(hM b hb).elim (λh=>h.elim) λh=>h
 . rcases hF b hb with h|h|h
   . exact .inl h
   . exact h.elim
   . exact .inr h
 . rintro e a w ⟨σ,⟨he,hr⟩,Ds,F,Ms,hs,hM,hF,hK,hD,hnd⟩
   have hdd:a.defers=qP Ds:=by obtain⟨_,_,_,_,_,_,_,_,_,_,q⟩:=hs;exact q
   exact⟨he,vW (W:=W) (A0:=A) (N:=fn.ntmps) hf hr Ds a w hdd ⟨F,Ms,hs,hM,hF,hK,hD⟩ hnd⟩
end
end Go.Am
namespace Go.Am
open Go.Conc (G stepG_region stepG_region_end)
open RowKit (Below)
section
variable {P:As} {F M:Ae->Prop} {N:Ae} {ds:Ad Cl} {σ:St} {a:Act} {w:Ag}
def SRB.args(h:SRB F M N ds σ a w){args:Ad AN}{dd:Ad D}(hf:cK σ.H (args.map (oev σ.Γ))=Aa dd) :
 ∃A M',dd.length=args.length/\(∀(k:Ae) d v,dd[k]? = Aa d->(args.map a.eval)[k]? = Aa v->VD A w d v)/\SRB A M' N ds (mW σ (bW σ.H (args.map (oev σ.Γ)))) a w/\(∀b,A b->F b\/M b)/\(∀b,M' b->M b):=by
 obtain⟨h1,ι,hF,hM,hMF,ho,hi,hd,hV,hN,hds⟩:=h
 have hR:HR ⟨w,F,M,aFj,noZ⟩ F w ι bG σ.H:=by
  refine⟨.refl _ _ _,hF,λb h=>.inl h,λid b e=>⟨.inl (hM id b e),(hMF b (hM id b e)).1,λ_=>(hMF b (hM id b e)).2⟩,ho,λid id' b e e' _ _=>hi id id' b e e',λid id' b o o' e e' _ q q'=>?_⟩;have:=hi id id' b e e';subst this;rw[q]at q';injection q' with q';subst q'
  exact AM _
 obtain⟨q1,q2,q3⟩:=kS (vs:=args.map a.eval) hR (λ_ _ h=>h) hf (by simp) λk c u hc hu=>by
  rw[Ao]at hc hu;cases hx:args[k]? with
  |none=>rw[hx]at hc;cases hc
  | some x =>
    rw[hx]at hc hu;injection hc with hc;injection hu with hu
    subst hc;subst hu;exact cD λt _=>hV t
 obtain⟨l,hl⟩:∃l,bW σ.H (args.map (oev σ.Γ))=l:=⟨_,rfl⟩
 rw[hl]at q2 ⊢
 have hAM:∀b,reach F ι l b->F b\/M b:=by
  rintro b (hb|⟨id,_,e⟩)
  . exact .inl hb
  . exact .inr (hM id b e)
 have hAlt:∀b,reach F ι l b->b<w.heap.size:=λb hb=>(hAM b hb).elim (hF b) λh=>(hMF b h).1
 have hs:Step F w ι (reach F ι l) w ι:=⟨λb h=>.inl h,λb h=>rfl,λ_ _ h=>h,λid b cur e hi h=>⟨cur,h,rfl⟩⟩
 refine⟨reach F ι l,λb=>M b/\¬reach F ι l b,by simpa using q1,q2,?_,hAM,λb h=>h.1⟩
 have hmask:∀id b,mask ι l id=Aa b->M b/\¬reach F ι l b:=λid b e=>by
  obtain⟨m1,m2⟩:=cT e;refine⟨hM id b m1,?_⟩;rintro(hb|⟨id',hid',e'⟩)
  . exact(hMF b (hM id b m1)).2 hb
  . exact m2 (hi id id' b m1 e' ▸ hid')
 have hkill:∀id,kill l σ.H id=if id∈l then Aj else σ.H id:=λid=>by
  by_cases hid:id∈l
  . rw[AB hid,kY hid]
  . rw[Ap hid,jR hid]
 unfold mW
 cases hl:l with
 | nil =>
   have hmk:mask ι l=ι:=by funext id;simp[mask,hl]
   rw[<-hl]
   have hfin:fin ⟨σ.Γ,kill l σ.H,σ.n⟩ l=σ:=by rw[hl];rfl
   rw[hfin]
   refine⟨h1,ι,hAlt,λid b e=>hmask id b (by rw[hmk];exact e),λb h=>⟨(hMF b h.1).1,h.2⟩,λid b o e e'=>?_,hi,hd,λt=>(hV t).step hs,hN,hds⟩
   obtain⟨ob,p1,p2⟩:=ho id b o e e'
   exact⟨ob,p1,p2.step hs⟩
 | cons x xs =>
   rw[<-hl]
   have hfin:fin ⟨σ.Γ,kill l σ.H,σ.n⟩ l=⟨λt=>kB l (σ.Γ t),λid=>(kill l σ.H id).map (gT l),σ.n⟩:=by rw[hl];rfl
   rw[hfin]
   refine⟨λid h=>by simp only;rw[hkill,h1 id h];simp,mask ι l,hAlt,hmask,λb h=>⟨(hMF b h.1).1,h.2⟩,λid b o e e'=>?_,λid id' b e e'=>hi id id' b (cT e).1 (cT e').1,λid=>?_,λt=>aKk ((hV t).step hs),hN,hds⟩
   . obtain⟨m1,m2⟩:=cT e
     simp only[hkill,Ap m2]at e'
     obtain⟨o1,ho1,rfl⟩:=Ai.1 e'
     obtain⟨ob,p1,p2⟩:=ho id b o1 m1 ho1
     exact⟨ob,p1,aEq (p2.step hs)⟩
   . constructor
     . rintro⟨b,e⟩
       obtain⟨m1,m2⟩:=cT e
       simp only[hkill,Ap m2,Fp]
       exact(hd id).1 ⟨b,m1⟩
     . intro e
       by_cases hid:id∈l
       . simp[hkill,hid]at e
       . simp only[hkill,Ap hid,Fp]at e
         obtain⟨b,hb⟩:=(hd id).2 e
         exact⟨b,by unfold mask;rw[Ap hid];exact hb⟩
end
def isY(o:Bf):Bw:=match o.op with|.call { callee:=.value (.tmp _),args:=_,argTypes:=_ }=>o.guard.isNone|_=>Az
def aBo:Ad Bf->Aq (Ad Bf×Bf×Ad Bf)
 |[]=>Aj
 |o::l=>if isY o then Aa ([],o,l)else(aBo l).map λp=>(o::p.1,p.2.1,p.2.2)
def aCz:B1->Bw
 |.region _ ops _=>(aBo ops.toList).isSome
 |.seq x y|.cond _ x y=>aCz x||aCz y
 |.block _ c|.loop c|.scope c=>aCz c
 |_=>Az
def YO(l:Ae)(xs:Ad (Ad D))(y:Bf)(k:Ae)(σ:St)(K:St->Prop):Prop :=
 match y.op with
 | .call { callee:=.value (.tmp t),args:=args,argTypes:=_ }=>σ.Γ t=.d (.lit (.func (.yield l) #[] #[]))/\∃dd,cK σ.H (args.toList.map (oev σ.Γ))=Aa dd/\xs[k]? = Aa dd /\
    K ⟨bN (mW σ (bW σ.H (args.toList.map (oev σ.Γ)))).Γ y.dst (.d (.b (decide (k+1≠xs.length)))),(mW σ (bW σ.H (args.toList.map (oev σ.Γ)))).H,(mW σ (bW σ.H (args.toList.map (oev σ.Γ)))).n⟩
 |_=>False
def YR(P:As)[Mc:Mch P](l:Ae)(xs:Ad (Ad D))(ops:Aw Bf)(k:Ae)(σ:St)(K:Ae->St->Prop):Prop :=
 match aBo ops.toList with
 |some (pre,y,post)=>OW P ops pre σ [] λσ1 con1=>YO l xs y k (fin σ1 con1) λσ2=>OW P ops post σ2 [] λσ3 con3=>K (k+1) (fin σ3 con3)
 |none=>False
def iS(P:As)[Mc:Mch P](l:Ae)(xs:Ad (Ad D)):B1->Ae->St->(Cf->Ae->St->Prop)->Prop
 |.region id ops draw,k,σ,Q=>if(aBo ops.toList).isSome then draw=Az/\gW ops.toList=Ak/\YR P l xs ops k σ (Q .normal)else AWP P (.region id ops draw) σ λe σ'=>Q e k σ'
 |.seq x y,k,σ,Q=>iS P l xs x k σ λe k' σ'=>match e with|.normal=>iS P l xs y k' σ' Q|e=>Q e k' σ'
 |.cond c x y,k,σ,Q=>match oev σ.Γ c with|.d (.b t)=>if t then iS P l xs x k σ Q else iS P l xs y k σ Q|.ub=>iS P l xs x k σ Q/\iS P l xs y k σ Q|_=>False
 |.block id c,k,σ,Q=>iS P l xs c k σ λe k' σ'=>match e with|.exit id'=>if id'=id then Q .normal k' σ' else Q (.exit id') k' σ'|e=>Q e k' σ'
 | .loop c,k,σ,Q=>if aCz c then ∃(τ:Type) (S:τ->St) (κ m:τ->Ae) (x0:τ),κ x0=k/\(∃ρ,Wk σ (S x0) ρ)/\∀x,iS P l xs c (κ x) (S x) λe k' σ'=>match e with|.normal=>∃y,m y<m x/\κ y=k'/\∃ρ,Wk σ' (S y) ρ|e=>Q e k' σ'
    else AWP P (.loop c) σ λe σ'=>Q e k σ'
 |c,k,σ,Q=>AWP P c σ λe σ'=>Q e k σ'
def bWz{P:As}[Mc:Mch P]{c:B1}{Q:Cf->Act->Ag->Prop}{a:Act}{v:Ag}(h:WC P c (λe a v=>OkV v->Q e a v) a v):WC P c Q a v :=
 λWin hW hv b k cs hb hk=>h Win hW hv b k cs hb λe a' v' hv' hq=>hk e a' v' hv' (hq hv')
section
variable {P:As} [Mc:Mch P] {A:Ae->Prop} {W:Ag} {N l:Ae} {xs:Ad (Ad D)}
structure JOk(P:As)[Mc:Mch P](l:Ae)(A:Ae->Prop)(xs:Ad (Ad D))(J:Ae->(Ae->Prop)->(Ae->Prop)->Ag->Prop):Prop where
 stab:∀k X O W1 X' O' W2,J k X O W1->Kept O W1.heap.size W1 W2->(∀b,X b->X' b)->(∀b,X' b->X b\/(W1.heap.size<=b/\b<W2.heap.size))->(∀b,O' b->X' b/\(O b\/W1.heap.size<=b))->J k X' O' W2
 round:∀k X O W1 ds (vals:Aw AE),xs[k]? = Aa ds->J k X O W1->ds.length=vals.size->(∀(i:Ae) d v,ds[i]? = Aa d->vals[i]? = Aa v->VD (λb=>A b\/(X b/\¬O b)) W1 d v) ->
  YX P l vals W1 λx W2=>x=.bool (decide (k+1≠xs.length))/\J (k+1) X O W2/\W1.heap.size<=W2.heap.size/\W2.os=W1.os/\W2.tape=W1.tape/\W2.output=W1.output/\∀b,A b\/X b->W2.heap[b]? = W1.heap[b]?
variable {J:Ae->(Ae->Prop)->(Ae->Prop)->Ag->Prop}
def RY(A:Ae->Prop)(N:Ae)(J:Ae->(Ae->Prop)->(Ae->Prop)->Ag->Prop)(k:Ae)(σ:St)(a:Act)(w:Ag):Prop :=
 ∃X F M,J k X M w/\SRB F M N [] σ a w/\(∀b,M b->X b)/\(∀b,F b->A b\/(X b/\¬M b))/\(∀b,X b->b<w.heap.size)
def RY.step(hJ:JOk P l A xs J){k:Ae}{X F M:Ae->Prop}{w:Ag}(hj:J k X M w)(hMX:∀b,M b->X b)(hFA:∀b,F b->A b\/(X b/\¬M b)){σ':St}{a':Act}{w':Ag}
 (h:SR ⟨w,F,M,aFj,noZ⟩ N [] σ' a' w') (hX:∀b,X b->b<w.heap.size):RY A N J k σ' a' w':=by
 obtain⟨F',M',h',hM',hF',hK,_⟩:=h.srb
 simp only at hM' hF' hK
 have hsz:=hK.size
 have hM'lt:∀b,M' b->b<w'.heap.size/\¬F' b:=by obtain⟨_,_,_,_,q,_⟩:=h';exact q
 have hF'lt:∀b,F' b->b<w'.heap.size:=by obtain⟨_,_,q,_⟩:=h';exact q
 have hM'X:∀b,M' b->X b\/(w.heap.size<=b/\b<w'.heap.size):=λb hb=>(hM' b hb).imp (hMX b) λh=>⟨h,(hM'lt b hb).1⟩
 refine⟨λb=>X b\/(w.heap.size<=b/\b<w'.heap.size),F',M',hJ.stab k X M w _ M' w' hj hK (λb h=>.inl h) (λb h=>h) (λb hb=>⟨hM'X b hb,hM' b hb⟩),h',hM'X,λb hb=>?_,λb hb=>?_⟩
 . have hnM:¬M' b:=λh=>(hM'lt b h).2 hb
   rcases hF' b hb with h|h|h
   . exact(hFA b h).imp_right λq=>⟨.inl q.1,hnM⟩
   . exact .inr ⟨.inl (hMX b h),hnM⟩
   . exact .inr ⟨.inr ⟨h,hF'lt b hb⟩,hnM⟩
 . rcases hb with h|h
   . have:=hX b h;omega
   . exact h.2
def RY.sr{k:Ae}{σ:St}{a:Act}{w:Ag}(h:RY A N J k σ a w)(hok:OkV w):∃X F M,J k X M w/\(∀b,M b->X b)/\(∀b,F b->A b\/(X b/\¬M b))/\(∀b,X b->b<w.heap.size)/\SR ⟨w,F,M,aFj,noZ⟩ N [] σ a w:=by obtain⟨X,F,M,h1,h2,h3,h4,h5⟩:=h;exact⟨X,F,M,h1,h3,h4,h5,h2.sr hok noZ λ_ _ e=>by cases e⟩
def RY.weak(hJ:JOk P l A xs J){k:Ae}{σ σ':St}{ρ:Ae->Ae}{a:Act}{w:Ag}(hk:Wk σ σ' ρ)(h:RY A N J k σ a w)(hok:OkV w):RY A N J k σ' a w:=by obtain⟨X,F,M,h1,h3,h4,h5,hs⟩:=h.sr hok;exact RY.step hJ h1 h3 h4 (xB hk hs) h5
def bPh(hm:P.follows .mixedOrders=Ak)(hJ:JOk P l A xs J){c:B1}{k:Ae}{σ:St}{a:Act}{w:Ag}{Q:Cf->St->Prop}(hd:bX N c=Ak)(hl:cM P c=Ak)(h:AWP P c σ Q)(hs:RY A N J k σ a w) :
 WC P c (λe a' w'=>∃σ',Q e σ'/\RY A N J k σ' a' w') a w:=by
 refine(cA P).okv λhok=>?_
 obtain⟨X,F,M,h1,h3,h4,h5,hsr⟩:=hs.sr hok
 refine cG (bZ hm (λ_=>rfl) c Q σ a w hd hl h hsr) ?_
 rintro e a' w' ⟨σ',hq,hs'⟩
 exact⟨σ',hq,RY.step hJ h1 h3 h4 hs' h5⟩
def RY.env(hJ:JOk P l A xs J){k:Ae}{σ:St}{a:Act}{w v1:Ag}(h:RY A N J k σ a w)(he:Env w v1):RY A N J k σ a v1:=by obtain⟨X,F,M,h1,h2,h3,h4,h5⟩:=h;exact⟨X,F,M,hJ.stab k X M w X M v1 h1 (he.kept M) (λ_ h=>h) (λ_ h=>.inl h) (λb hb=>⟨h3 b hb,.inl hb⟩),h2.env he,h3,h4,λb hb=>Be (h5 b hb) he.size⟩
def WL(P:As)[Mc:Mch P](ops:Aw Bf)(l:Ad Ae)(K:Act->Ag->Prop)(a:Act)(v:Ag):Prop :=
 ∀(Win:Ay->Ag->Prop),Mc.Fam Win->OkV v->∀(b:BU) (k:Ad Item) (cs:Ad BU),kA b->(∀a' v',OkV v'->K a' v'->Win (G (b.at a' k) cs) v')->Win (G (b.at a (.inRegion ops l::k)) cs) v
def bWr{ops:Aw Bf}{K:Act->Ag->Prop}{a:Act}{v:Ag}(h:K a v):WL P ops [] K a v :=
 λWin hW hv b k cs hb hk=>aD hW rfl hv (λw=>stepG_region_end) (hk a v hv h)
def cBr{ops:Aw Bf}{i:Ae}{rest:Ad Ae}{o:Bf}{K:Act->Ag->Prop}{a:Act}{v:Ag}(ho:ops[i]? = Aa o)
 (h:if Bu o (yielded ops a.tmps)then ∀v1,Env v v1->wpX P o a v1 (WL P ops rest K)else WL P ops rest K (a.put o.dst undef) v):WL P ops (i::rest) K a v:=by
 intro Win hW hv b k cs hb hk
 split at h
 . rename_i hw
   exact aAw hW hb ho hw hv h λa' v' hv' h'=>h' Win hW hv' b k cs hb hk
 . rename_i hw
   exact qX hW ho hw hv (h Win hW hv b k cs hb hk)
def bCy{ops:Aw Bf}{i:Ae}{rest:Ad Ae}{o:Bf}{K:Act->Ag->Prop}{a:Act}{v:Ag}(ho:ops[i]? = Aa o)(hw:Bu o (yielded ops a.tmps)=Ak)
 (h:OkV v->∀v1,Env v v1->∃l f tmps assign body,∃R:AE->Ag->Prop,aU P (execOp a.eval o) v1=.ok (.round l f tmps assign body) v1 /\
   (∀(Win:Ay->Ag->Prop),Mc.Fam Win->OkV v1->∀(c:BU) (cs:Ad BU),(∀x v',OkV v'->R x v'->Win (G (c.finish x) cs) v')->Win (G (FY l f tmps assign body .normal) (c::cs)) v1) /\
   ∀x v2,OkV v2->R x v2->WL P ops rest K (a.put o.dst x) v2):WL P ops (i::rest) K a v:=by
 intro Win hW hv b k cs hb hk
 by_cases hall:∃l f tmps assign body,∀v1,Env v v1->aU P (execOp a.eval o) v1=.ok (.round l f tmps assign body) v1
 . obtain⟨l,f,tmps,assign,body,hall⟩:=hall
   refine aXv hW hb ho hw hv λv1 he=>⟨hall v1 he,?_⟩
   obtain⟨l',f',tmps',assign',body',R,h1,h2,h3⟩:=h hv v1 he
   rw[hall v1 he]at h1
   injection h1 with h1 _;injection h1 with e1 e2 e3 e4 e5;subst e1;subst e2;subst e3;subst e4;subst e5
   refine h2 Win hW (he.okV hv) _ cs λx v' hv' hR=>?_
   rw[Ek,ho]
   exact h3 x v' hv' hR Win hW hv' b k cs hb hk
 . exact aQb hW hb ho hw hv λv1 he=>by
    obtain⟨l',f',tmps',assign',body',R,h1,h2,h3⟩:=h hv v1 he;refine⟨l',f',tmps',assign',body',h1,?_⟩;refine h2 Win hW (he.okV hv) _ cs λx v' hv' hR=>?_
    rw[Ek,ho];exact h3 x v' hv' hR Win hW hv' b k cs hb hk
def bDe{id:Ae}{ops:Aw Bf}{Q:Cf->Act->Ag->Prop}{a:Act}{v:Ag}(h:WL P ops (D8 0 ops.toList.length) (Q .normal) a v):WC P (.region id ops Az) Q a v:=by
 intro Win hW hv b k cs hb hk;refine aD hW rfl hv (λw=>stepG_region) ?_;have:=h Win hW hv b k cs hb λa' v' hv' hq=>hk .normal a' v' hv' hq
 rwa [Fq,<-BP]
def bAb{G:Ctx}{ops:Aw Bf}{ds:Ad Cl}{Q:AS->Prop}{K K':Act->Ag->Prop}(hQ:∀s a w,Q s->kP G N ds s a w->K a w)(rest:Ad Ae)(hk:∀a w,K a w->WL P ops rest K' a w) :
 ∀(l:Ad Bf) (n:Ae),(∀(j:Ae) o,l[j]? = Aa o->ops[n+j]? = Aa o)->(∀o∈l,∀d,o.dst=Aa d->d<N/\G.Z d=Aj)->∀(s:AS) (a:Act) (w:Ag),kP G N ds s a w->wX P G ops Q l s->WL P ops (D8 n l.length++rest) K' a w:=by
 intro l
 induction l with
 |nil=>intro n _ _ s a w hr h;exact hk _ _ (hQ s a w h hr)
 | cons o l ih =>
   intro n hn hl s a w hr h
   obtain⟨s',hd,h⟩:=h
   have:=pU (K:=WL P ops (D8 (n+1) l.length++rest) K') hd (hl o (AX ..)) hr λa' w' hr'=>ih (n+1) (λj o hj=>by have:=hn (j+1) o (by simpa using hj);rw[<-this];congr 1;omega) (λo ho=>hl o (AT _ ho)) s' a' w' hr' h
   rw[Av,Es,Cz]
   exact cBr (by simpa using hn 0 o rfl) this
def aGe{G:Ctx}{ops:Aw Bf}{ds:Ad Cl}{Q:St->Prop}{K':Act->Ag->Prop}{os:Ad Bf}{rest:Ad Ae}{n:Ae}{σ:St}{a:Act}{w:Ag}
 (hno:gW os=Ak) (hn:∀(j:Ae) o,os[j]? = Aa o->ops[n+j]? = Aa o)
 (hdst:∀o∈os,∀d,o.dst=Aa d->d<N/\G.Z d=Aj) (hsr:SR G N ds σ a w) (h:OW P ops os σ [] λσ' con=>Q (fin σ' con)) (hQ:∀σ a w,Q σ->SR G N ds σ a w->WL P ops rest K' a w) :
 WL P ops (D8 n os.length++rest) K' a w:=by
 obtain⟨hn0,hwf,hag⟩:=oS hsr
 obtain⟨fb,hfb⟩:=rW (G:=G) os σ [] hno hn0 hwf h
 obtain⟨h1,h2⟩:=hag (λi=>if i<σ.n then σ.H i else fb i) (λi o hi=>by
  rcases Bc i σ.n with hlt|hge
  . rw[AB hlt];exact hi
  . rw[hwf.top i hge]at hi;cases hi)
 have h3:=hfb _ h1 (λi hi=>by simp only;rw[Ap (by omega)])
 refine bAb (K:=λa w=>∃σ,Q σ/\SR G N ds σ a w) (Q:=λs'=>∃σ' con',Q (fin σ' con')/\(∀id,σ'.n<=id->∀b,G.P0 id b)/\Wf σ' con'/\dF σ' con' s') ?_ rest ?_ os n hn hdst _ a w h2 h3
 . rintro s a w ⟨σ',con',hq,hn',hwf',hag'⟩ hr
   exact⟨_,hq,yP hsr.2.1.2 hn' hwf' hag' hr⟩
 . rintro a w ⟨σ,hq,hs⟩;exact hQ σ a w hq hs
def aLn:∀(os:Ad Bf) {pre post:Ad Bf} {y:Bf},aBo os=Aa (pre,y,post)->os=pre++y::post/\isY y=Ak
 |[],_,_,_,h=>by cases h
 | o::os,pre,post,y,h=>by
   unfold aBo at h;split at h
   . rename_i ho;injection h with h;injection h with h1 h;injection h with h2 h3;subst h1;subst h2;subst h3;exact⟨rfl,ho⟩
   . obtain⟨⟨p1,p2,p3⟩,hp,h⟩:=Ai.1 h
     injection h with h1 h;injection h with h2 h3;subst h1;subst h2;subst h3
     obtain⟨e1,e2⟩:=aLn os hp
     exact⟨by rw[e1];rfl,e2⟩
def bFa(hJ:JOk P l A xs J){id k:Ae}{ops:Aw Bf}{σ:St}{a:Act}{w:Ag}{Q:Ae->St->Prop}(hno:gW ops.toList=Ak)(hd:aIw N ops=Ak)(h:YR P l xs ops k σ Q)(hs:RY A N J k σ a w) :
 WC P (.region id ops Az) (λe a' w'=>e=.normal/\∃k' σ',Q k' σ'/\RY A N J k' σ' a' w') a w:=by
 refine(cA P).okv λhok=>bDe ?_
 unfold YR at h
 split at h
 case h_2=>exact h.elim
 rename_i pre y post hsp
 obtain⟨heq,hy⟩:=aLn _ hsp
 have hdst:∀o∈ops.toList,∀d,o.dst=Aa d->d<N/\(noZ:Ae->Aq AE) d=none:=λo ho d hdd=>by have:=C1.1 hd o (by simpa using ho);rw[hdd]at this;exact⟨by simpa using this,rfl⟩
 have hat:∀(j:Ae) o,ops.toList[j]? = Aa o->ops[j]? = Aa o:=λj o h=>by simpa using h
 rw[heq]at hdst hat hno ⊢
 have hno1:gW pre=true:=by simp only[gW,List.all_append,A5]at hno ⊢;exact hno.1
 have hno2:gW post=true:=by simp only[gW,List.all_append,Gq,A5]at hno ⊢;exact hno.2.2
 obtain⟨X,F,M,hj,hMX,hFA,hXlt,hsr⟩:=hs.sr hok
 rw[show D8 0 (pre++y::post).length=D8 0 pre.length++(pre.length::D8 (pre.length+1) post.length)by
  rw[List.length_append,Av,<-List.range'_append_1,AP,Es]]
 refine aGe (G:=⟨w,F,M,aFj,noZ⟩) (n:=0) hno1 (λj o hj=>by rw[AP];exact hat j o (by rw[List.getElem?_append_left (AA.1 hj).1];exact hj)) (λo ho=>hdst o (List.mem_append_left _ ho)) hsr (Q:=λσ1=>YO l xs y k σ1 λσ2=>OW P ops post σ2 [] λσ3 con3=>Q (k+1) (fin σ3 con3)) h ?_
 intro σ1 a1 w0 hY hs1
 have hry0:=RY.step hJ hj hMX hFA hs1 hXlt
 unfold YO at hY
 split at hY
 case h_2=>exact hY.elim
 rename_i t args ts hop
 obtain⟨hΓ,dd,hfr,hx,hK⟩:=hY
 have hguard:y.guard=none:=by unfold isY at hy;rw[hop]at hy;simpa using hy
 have hwant:Bu y (yielded ops a1.tmps)=true:=by simp[Bu,hguard]
 refine bCy (hat pre.length y (by simp)) hwant λhokw0 w1 he1=>?_
 have hokw1:=he1.okV hokw0
 obtain⟨X1,F1,M1,hj1,hs1',hMX1,hFA1,hX1⟩:=hry0.env hJ he1
 have hev:a1.eval (.tmp t)=.func (.yield l) #[] #[]:=by obtain⟨_,ι,_,_,_,_,_,_,hV,_⟩:=hs1';have:=hV t;rw[hΓ]at this;show a1.tmps.getD t undef=_;generalize a1.tmps.getD t undef=v at this;cases this with|d _ _ h=>cases h;rfl
 obtain⟨A2,M2,hlen,hVD,hs2,hA2,hM2⟩:=hs1'.args hfr
 have hs2lt:∀b,M2 b->b<w1.heap.size/\¬A2 b:=by obtain⟨_,_,_,_,q,_⟩:=hs2;exact q
 have hj2:J k X1 M2 w1:=hJ.stab k X1 M1 w1 X1 M2 w1 hj1 (.refl _ _ _) (λ_ h=>h) (λ_ h=>.inl h) λb hb=>⟨hMX1 b (hM2 b hb),.inl (hM2 b hb)⟩
 have hAX:∀b,A2 b->A b\/(X1 b/\¬M2 b):=λb hb=>by
  have hn:¬M2 b:=λh=>(hs2lt b h).2 hb
  rcases hA2 b hb with h|h
  . exact(hFA1 b h).imp_right λq=>⟨q.1,hn⟩
  . exact .inr ⟨hMX1 b h,hn⟩
 obtain⟨fn,tmps,assign,body,hyl,hround⟩:=hJ.round k X1 M2 w1 dd (args.map a1.eval) hx hj2 (by simpa using hlen) λi d v hi hv =>
  (hVD i d v hi (by have:=Array.getElem?_toList (xs:=args.map a1.eval) (i:=i);rw[hv,Array.toList_map]at this;exact this)).mono hAX
 have hrun:aU P (execOp a1.eval y) w1=.ok (.round l fn tmps assign body) w1:=by simp only[execOp,hop,resolve,hev,aB,Cx,aX,AR,Cy,invoke];exact hyl
 refine⟨l,fn,tmps,assign,body,_,hrun,hround,?_⟩
 rintro x W2 hokW2 ⟨rfl,hj3,hsz,hos,htp,hou,hkeep⟩
 -- behind the call
 have hs3:SRB A2 M2 N [] (mW σ1 (bW σ1.H (args.toList.map (oev σ1.Γ)))) a1 W2:=hs2.world hsz λb hb=>hkeep b (by
  rcases hb with h|h
  . exact(hAX b h).imp_right λq=>q.1
  . exact .inr (hMX1 b (hM2 b h)))
 have hN:a1.tmps.size=N:=by obtain⟨_,_,_,_,_,_,_,_,_,q,_⟩:=hs3;exact q
 have hdf:a1.defers=[]:=by obtain⟨_,_,_,_,_,_,_,_,_,_,q⟩:=hs3;exact q
 have hyd:∀d,y.dst=Aa d->d<a1.tmps.size:=λd h=>by rw[hN];exact(hdst y (by simp) d h).1
 have hs4:SRB A2 M2 N [] ⟨bN (mW σ1 (bW σ1.H (args.toList.map (oev σ1.Γ)))).Γ y.dst (.d (.b (decide (k+1≠xs.length)))),(mW σ1 (bW σ1.H (args.toList.map (oev σ1.Γ)))).H,(mW σ1 (bW σ1.H (args.toList.map (oev σ1.Γ)))).n⟩ (a1.put y.dst (.bool (decide (k+1≠xs.length)))) W2:=by
  refine hs3.act (by cases y.dst<;>simp[Cv,hN]) (by cases y.dst<;>simp[Cv,hdf]) λt=>?_
  rw[fZ a1 y.dst (.bool (decide (k+1≠xs.length))) hyd t];by_cases ht:y.dst=Aa t
  . rw[ht]
    exact .inr (.inr ⟨.b (decide (k+1≠xs.length)),.bool (decide (k+1≠xs.length)),by simp[bN,upd,bH],by simp,.b _⟩)
  . rw[Ap ht]
    exact .inl ⟨by rw[aAe ht],rfl⟩
 have hry:RY A N J (k+1) _ (a1.put y.dst (.bool (decide (k+1≠xs.length)))) W2:=⟨X1,A2,M2,hj3,hs4,λb hb=>hMX1 b (hM2 b hb),hAX,λb hb=>by have:=hX1 b hb;omega⟩
 obtain⟨X5,F5,M5,hj5,hMX5,hFA5,hX5,hsr5⟩:=hry.sr hokW2
 have hfin:=aGe (P:=P) (ops:=ops) (G:=⟨W2,F5,M5,aFj,noZ⟩) (n:=pre.length+1) (os:=post) (rest:=[]) (Q:=Q (k+1)) (K':=λa' w'=>Exit.normal=.normal/\∃k' σ',Q k' σ'/\RY A N J k' σ' a' w') hno2
  (λj o hj=>hat (pre.length+1+j) o (by rw[List.getElem?_append_right (by omega),show pre.length+1+j-pre.length=j+1 by omega,BT];exact hj))
  (λo ho=>hdst o (List.mem_append_right _ (AT _ ho))) hsr5 hK
  λσ6 a6 w6 hq hs6=>bWr ⟨rfl,k+1,σ6,hq,RY.step hJ hj5 hMX5 hFA5 hs6 hX5⟩
 rw[List.append_nil]at hfin
 exact hfin
def aUg(hm:P.follows .mixedOrders=Ak)(hJ:JOk P l A xs J):∀(c:B1) (Q:Cf->Ae->St->Prop) (k:Ae) (σ:St) (a:Act) (w:Ag),bX N c=Ak->cM P c=Ak->iS P l xs c k σ Q->RY A N J k σ a w ->
 WC P c (λe a' w'=>∃k' σ',Q e k' σ'/\RY A N J k' σ' a' w') a w:=by
 have plain:∀ (c:B1) (Q:Cf->Ae->St->Prop) (k:Ae) (σ:St) (a:Act) (w:Ag),bX N c=Ak->cM P c=Ak->(AWP P c σ λe σ'=>Q e k σ')->RY A N J k σ a w ->
  WC P c (λe a' w'=>∃k' σ',Q e k' σ'/\RY A N J k' σ' a' w') a w:=by
  intro c Q k σ a w hd hl h hs
  refine cG (bPh hm hJ hd hl h hs) ?_
  rintro e a' w' ⟨σ',hq,hs'⟩
  exact⟨k,σ',hq,hs'⟩
 intro c
 induction c with
 | region id ops draw =>
   intro Q k σ a w hd hl h hs
   unfold iS at h
   split at h
   . obtain⟨rfl,hno,h⟩:=h
     refine cG (bFa hJ hno hd h hs) ?_
     rintro e a' w' ⟨rfl,k',σ',hq,hs'⟩
     exact⟨k',σ',hq,hs'⟩
   . exact plain _ Q k σ a w hd hl h hs
 | seq x y ihx ihy =>
   intro Q k σ a w hd hl h hs
   simp only[bX,cM,A5]at hd hl
   refine fA (cG (ihx _ k σ a w hd.1 hl.1 h hs) ?_)
   rintro e a' w' ⟨k',σ',hq,hs'⟩
   cases e with
   |normal=>exact ihy Q k' σ' a' w' hd.2 hl.2 hq hs'
   |_=>exact⟨k',σ',hq,hs'⟩
 | cond c x y ihx ihy =>
   intro Q k σ a w hd hl h hs
   simp only[bX,cM,A5]at hd hl
   have hV:∃F ι,V F w ι (oev σ.Γ c) (a.eval c):=by obtain⟨_,F,_,_,⟨_,ι,_,_,_,_,_,_,hV,_⟩,_⟩:=hs;exact⟨F,ι,cD λt _=>hV t⟩
   obtain⟨F,ι,hV⟩:=hV
   unfold iS at h
   split at h
   . rename_i t ht
     have hc:a.eval c=.bool t:=by rw[ht]at hV;generalize a.eval c=v at hV;cases hV with|d _ _ h=>cases h;rfl
     refine oW hc ?_
     cases t
     . exact ihy Q k σ a w hd.2 hl.2 h hs
     . exact ihx Q k σ a w hd.1 hl.1 h hs
   . rename_i ht
     have hc:∃t,a.eval c=.bool t:=by rw[ht]at hV;generalize a.eval c=v at hV;cases hV with|ub t=>exact⟨t,rfl⟩
     obtain⟨t,hc⟩:=hc
     refine oW hc ?_
     cases t
     . exact ihy Q k σ a w hd.2 hl.2 h.2 hs
     . exact ihx Q k σ a w hd.1 hl.1 h.1 hs
   . exact h.elim
 | block id c ih =>
   intro Q k σ a w hd hl h hs
   refine aAz (cG (ih _ k σ a w hd hl h hs) ?_)
   rintro e a' w' ⟨k',σ',hq,hs'⟩
   cases e with
   | exit id' =>
     simp only[EE]at hq ⊢
     split at hq
     . rename_i he;rw[AB he];exact⟨k',σ',hq,hs'⟩
     . rename_i he;rw[Ap he];exact⟨k',σ',hq,hs'⟩
   |_=>exact⟨k',σ',hq,hs'⟩
 | loop c ih =>
   intro Q k σ a w hd hl h hs
   unfold iS at h
   split at h
   . obtain⟨τ,S,κ,m,x0,hk0,⟨ρ,hk⟩,hround⟩:=h
     refine(cA P).okv λhokw=>aUq (λn a w=>∃x,m x=n/\RY A N J (κ x) (S x) a w) ⟨m x0,x0,rfl,by rw[hk0];exact hs.weak hJ hk hokw⟩ ?_
     rintro n a w ⟨x,rfl,hsx⟩
     refine bWz (cG (ih _ (κ x) (S x) a w hd hl (hround x) hsx) ?_)
     rintro e a' w' ⟨k',σ',hq,hs'⟩ hokw'
     cases e with
     | normal =>
       obtain⟨y,hlt,rfl,ρ,hk⟩:=hq
       exact⟨m y,hlt,y,rfl,hs'.weak hJ hk hokw'⟩
     |_=>exact⟨k',σ',hq,hs'⟩
   . exact plain _ Q k σ a w hd hl h hs
 |skip=>intro Q k σ a w hd hl h hs;exact plain _ Q k σ a w hd hl h hs
 |exit id=>intro Q k σ a w hd hl h hs;exact plain _ Q k σ a w hd hl h hs
 |ret=>intro Q k σ a w hd hl h hs;exact plain _ Q k σ a w hd hl h hs
 |label l=>intro Q k σ a w hd hl h hs;exact plain _ Q k σ a w hd hl h hs
 |scope c _=>intro Q k σ a w hd hl h hs;exact plain _ Q k σ a w hd hl h hs
 |_=>intro Q k σ a w hd hl h;exact h.elim
end
def bEq {P:As} [Mc:Mch P] {f N:Ae} {fn:Func} {c:B1} {caps:Ad D} {xs:Ad (Ad D)} (hm:P.follows .mixedOrders=Ak) (hf:P.funcs[f]? = Aa fn) (hb:fn.body=Aa c) (hname:(fn.name == "runtime.NumGoroutine")=Az) (hN:fn.ntmps=N)
 (hd:bX N c=Ak) (hl':cM P c=Ak) (ha:caps.length+1<=N)
 (h:∀l,iS P l xs c 0 (St0 (.lit (.func (.yield l) #[] #[])::caps) N) λe k σ=>(e=.normal\/e=.ret)/\k=xs.length/\∃r,jM P fn.results.toList σ=Aa r):nP P f caps xs:=by
 intro A W l lb hA hl hv
 have hn:¬ fn.name = "runtime.NumGoroutine" := by simpa using hname
 refine⟨λargs w=>by simp[callFunc,hf,hn,hb],λJ hstab hround h0=>?_⟩
 have hJ:JOk P l A xs J:=⟨hstab,hround⟩
 refine zF hf hb ?_
 subst hN
 refine(cA P).okv λhokW=>?_
 obtain⟨F,M,h1,hM,hF,hK,_⟩:=(SR0 (N:=fn.ntmps) (args:=.lit (.func (.yield l) #[] #[])::caps) (vs:=#[.func (.yield l) #[] #[]]++lb) hokW hA (by simp;omega) (λk d v hk hv'=>by
  cases k with
  |zero=>rw[B5 (by simp)]at hv';simp at hk hv';subst hk;subst hv';exact .lit _
  |succ k=>exact hv k d v (by simpa using hk) (by rw[Cu (by simp)]at hv';simpa using hv')) (by simpa using ha)).srb
 simp only at hM hF hK
 have hMlt:∀b,M b->b<W.heap.size:=by obtain⟨_,_,_,_,q,_⟩:=h1;exact λb h=>(q b h).1
 have hFlt:∀b,F b->b<W.heap.size:=by obtain⟨_,_,q,_⟩:=h1;exact q
 have hM0:∀b,¬M b:=λb hb=>by
  rcases hM b hb with h|h
  . exact h
  . have:=hMlt b hb;omega
 have hMe:M=bG:=funext λb=>propext ⟨λh=>(hM0 b h).elim,λh=>h.elim⟩
 refine cG (aUg (A:=A) hm hJ c _ 0 _ _ W hd hl' (h l) ⟨bG,F,M,by rw[hMe];exact h0,h1,λb hb=>(hM0 b hb).elim,λb hb=>?_,λb hb=>hb.elim⟩) ?_
 . rcases hF b hb with h|h|h
   . exact .inl h
   . exact h.elim
   . have:=hFlt b hb;omega
 . rintro e a w ⟨k,σ,⟨he,rfl,r,hr⟩,X,F,M,hj,hs,hMX',_⟩
   have hdf:a.defers=[]:=by obtain⟨_,_,_,_,_,_,_,_,_,_,q⟩:=hs;exact q
   refine⟨he,λWin hWf hokw=>zA hf hdf (λv1 hev=>?_) Win hWf hokw⟩
   have hs2:=hs.env hev
   obtain⟨v,h1,_⟩:=fP (hs2.sr (hev.okV hokw) noZ λ_ _ e=>by cases e) hr
   exact⟨v,h1,X,M,hJ.stab _ X M w X M v1 hj (hev.kept M) (λ_ h=>h) (λ_ h=>.inl h) (λb hb=>⟨hMX' b hb,.inl hb⟩)⟩
end Go.Am
