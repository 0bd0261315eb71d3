/- Walks by hand through bodies with regions whose orders are walked one by one: at any place, also inside a loop. No condition. -/
import Derived.Test.YtdgdlndhaecliaaGreatC2
import Derived.Scope
import Derived.Defers
import Derived.Test.YtdgdlndhaecliaaGreatRows
import Derived.AtR
import Derived.RangeFuncIn
import Derived.RangeFuncRecord
import Derived.Conc.Beside
import Derived.Conc.Fork
set_option linter.all false
open And renaming intro->AO
open Array renaming all_eq_true_iff_forall_mem->Cq,empty_append->Cl,getD_eq_getD_getElem?->Au,getElem?_append_left->B3,getElem?_append_right->Cu,getElem?_eq_getElem->Al,getElem?_eq_some_iff->AX,getElem?_map->BU,getElem?_push->Bx,getElem?_replicate->Ch,getElem?_setIfInBounds_ne->AF,getElem?_setIfInBounds_self_of_lt->BT,length_toList->BK,mapM_eq_mapM_toList->D5,mem_of_getElem?->BZ,replicate->AY
open Bool renaming and_eq_true->A8,false_eq_true->Ae,not_eq_true'->C8,or_eq_false_iff->FP
open Go.Act renaming put->C6
open Go.CallKind renaming early->Db
open Go.Conc renaming mem_ofEvents->BH
open Go.ConcN renaming upd->Bd
open Go.Deferred renaming ofValue->CF
open Go.Exit renaming inBlock->DQ
open Go.Frame renaming atR->Cv,enter->C5,finish_at->D7,finish_atR->Eu,round->Fp
open Go.GStep renaming after->Cw
open Go.Instr renaming beginRound->E3,endRound->Ga,loadAt->E0,sureAddr->CE,takeDeferred->Fj
open Go.IntKind renaming bits->CK,i64->Ah,signed->Et,u32->BI,u64->AB,wrap->E2
open Go.MemAct renaming ofEvent->Be,touch?->BE
open Go.MemOp renaming ofEvents->BS
open Go.Obj renaming cells->C9
open Go.Program renaming underlying->Ap
open Go.Proofs.Tryz renaming prog->Aa,prog->Dt
open Go.Region renaming ready->Bv,schedule->FQ,wanted->Bu
open Go.Region.linearise renaming go->Cy
open Go.Result renaming andThen->Ew,andThen_ok->AK
open Go.Sem renaming runT_eq->Dh
open Go.Value renaming cells->Ed,oneCell'->CC
open Go.World renaming putObj_heap_other->Ex
open Go.stepG renaming apply->DV,exec->Cf
open List renaming all_cons->FM,all_eq_true->A3,cons_append->Co,ext_getElem?->CH,getD_eq_getElem?_getD->Ac,getElem?_cons_succ->BB,getElem?_eq_getElem->Ab,getElem?_eq_none->AW,getElem?_eq_some_iff->Ao,getElem?_map->Ag,getElem_mem->Bz,getLast?_cons_cons->GJ,length_cons->Ak,length_take->AZ,mapM_cons->Cp,mapM_nil->GD,map_cons->BO,mem_cons->Bn,mem_cons_of_mem->AE,mem_cons_self->AI,mem_of_getElem?->Aj,nodup_cons->Df,range'->Du,range'_succ->DX,range_eq_range'->ET,range_succ->FU,replicate->Av,replicate_succ->Cz,singleton_append->EN,take_append_drop->Dx,take_of_length_le->As
open Nat renaming eq_zero_or_pos->A7,le_refl->Ay,lt_of_lt_of_le->A6,lt_or_ge->A4,lt_succ_self->Ck,min_eq_left->De,mul_add->Cx,mul_one->Dj,pow_succ->BR,strongRecOn->FT,zero_add->AA
open Option renaming bind_eq_bind->C2,bind_eq_some_iff->Ad,isSome_map->ES,map_eq_some_iff->Af,map_some->AU,pure_def->DK
open Option.some renaming inj->Bm,injEq->Ax
open Prod.mk renaming injEq->GC
open _root_ renaming decide_eq_true_eq->BC,if_false->Az,if_neg->Ai,if_pos->Aq,if_true->AH
section
open List renaming map_map->C,mapM_map->L
namespace Go.Am
open RowKit (Below)
def WkR(σ σ':St):Prop:=σ=σ'\/∃ρ,Wk σ σ' ρ
def AWP(P:Program)[M:Mch P]:Code->St->(Exit->St->Prop)->Prop
  |.skip,σ,Q=>Q .normal σ
  |.region _ ops _,σ,Q=>OW P ops ops.toList σ [] λσ' con=>Q .normal (fin σ' con)
  |.seq x y,σ,Q=>AWP P x σ λe σ'=>match e with|.normal=>AWP P y σ' Q|e=>Q e σ'
  |.cond c x y,σ,Q=>match oev σ.Γ c with|.d (.b t)=>if t then AWP P x σ Q else AWP P y σ Q|.ub=>AWP P x σ Q/\AWP P y σ Q|_=>False
  |.block id c,σ,Q=>AWP P c σ λe σ'=>match e with|.exit id'=>if id'=id then Q .normal σ' else Q (.exit id') σ'|e=>Q e σ'
  |.loop c,σ,Q=>∃(τ:Type) (S:τ->St) (m:τ->Nat) (x0:τ),WkR σ (S x0)/\∀x,AWP P c (S x) λe σ'=>match e with|.normal=>∃y,m y<m x/\WkR σ' (S y)|e=>∃σ2,WkR σ' σ2/\Q e σ2
  |.exit id,σ,Q=>Q (.exit id) σ
  |.ret,σ,Q=>Q .ret σ
  |.label _,σ,Q=>Q .normal σ
  |.scope c,σ,Q=>AWP P c σ λe σ'=>match e with|.goto _=>False|e=>Q e σ'
  |_,_,_=>False
def aIg(N:Nat)(ops:Array Oper):Bool:=ops.all λo=>match o.dst with|some d=>decide (d<N)|none=>true
def bN(N:Nat):Code->Bool
  |.region _ ops _=>aIg N ops
  |.seq x y|.cond _ x y=>bN N x&&bN N y
  |.block _ c|.loop c|.scope c=>bN N c
  |_=>true
def bGa(z:Nat->Bool)(ops:Array Oper):Bool:=ops.all λo=>match o.dst with|some d=>!z d|none=>true
def fR(z:Nat->Bool):Code->Bool
  |.region _ ops _=>bGa z ops
  |.seq x y|.cond _ x y=>fR z x&&fR z y
  |.block _ c|.loop c|.scope c=>fR z c
  |_=>true
def aMf(ops:Array Oper):bGa (λ_=>false) ops=true:=by
  refine Cq.2 λo _=>?_
  cases o.dst<;>rfl
def vP(c:Code):fR (λ_=>false) c=true:=by
  induction c with
  |region id ops d=>exact aMf ops
  |seq x y ihx ihy=>simp[fR,ihx,ihy]
  |cond c x y ihx ihy=>simp[fR,ihx,ihy]
  |block id c ih=>exact ih
  |loop c ih=>exact ih
  |scope c ih=>exact ih
  |_=>rfl
def bQ(P:Program):Code->Bool
  |.region _ ops draw=>!draw||bHg P ops
  |.seq x y|.cond _ x y=>bQ P x&&bQ P y
  |.block _ c|.loop c|.scope c=>bQ P c
  |_=>true
def qD{N:Nat}{ops:Array Oper}(h:aIg N ops=true):∀(i:Nat) (o:Oper) (d:Tmp),ops[i]? = some o->o.dst=some d->d<N:=by intro i o d hi hd;have:=Cq.1 h o (BZ hi);rw[hd]at this;simpa using this
def uH{N:Nat}{ops:Array Oper}{z:Nat->Bool}{G:Ctx}(hz:∀d v,G.Z d=some v->z d=true)(h:aIg N ops=true)(hnz:bGa z ops=true) :
    ∀(i:Nat) (o:Oper) (d:Tmp),ops[i]? = some o->o.dst=some d->d<N/\G.Z d=none:=by
  intro i o d hi hd
  refine⟨qD h i o d hi hd,?_⟩
  have:=Cq.1 hnz o (BZ hi)
  rw[hd]at this
  cases hZ:G.Z d with
  |none=>rfl
  |some v=>have h2:=hz d v hZ;simp[h2]at this
section
variable {P:Program} [M:Mch P] {G:Ctx} {N:Nat} {ds:List Deferred}
def lU{σ σ':St}{a:Act}{w:World}(hk:WkR σ σ')(h:SR G N ds σ a w):SR G N ds σ' a w:=by
  rcases hk with rfl|⟨ρ,hk⟩
  · exact h
  · exact vY hk h
def bVh{f:FuncId}{args:Array Operand}{dst:Option Tmp}{σ:St}{con:List Nat}{k k':St->List Nat->Prop}(hk:∀σ con,k σ con->k' σ con)(h:OC P f args dst σ con k):OC P f args dst σ con k':=by
  unfold OC at h ⊢;split
  · rename_i hm
    rw[Aq hm]at h
    split
    · rename_i x rest hargs
      simp only[hargs]at h
      split
      · rename_i id hh hx
        simp only[hx]at h
        split
        · rename_i ho hH
          simp only[hH]at h
          rcases h with ⟨g,h1,h2,h3,h4⟩|⟨h1,h2,ds,ho',r,h3,h4,h5,h6,h7⟩|⟨p0,ν,h0,ro,hs,ds,ro',hs',r,p1,p2,p3,p4,p5,p6,p7,p8,p9,p10⟩|⟨h1,h2,ds,r,h3,h4,h5⟩
          · exact .inl ⟨g,h1,h2,h3,hk _ _ h4⟩
          · exact .inr (.inl ⟨h1,h2,ds,ho',r,h3,h4,h5,h6,hk _ _ h7⟩)
          · exact .inr (.inr (.inl ⟨p0,ν,h0,ro,hs,ds,ro',hs',r,p1,p2,p3,p4,p5,p6,p7,p8,p9,hk _ _ p10⟩))
          · exact .inr (.inr (.inr ⟨h1,h2,ds,r,h3,h4,hk _ _ h5⟩))
        · rename_i hH;simp only[hH]at h
      · rename_i hx
        simp only[hx]at h
        rcases h with ⟨h1,ds,r,h3,h4,h5⟩|⟨d0,y,l,id,h,ho,ds,ho',p1,p2,p3,p4,p5,p6,p7,p8,p9,p10,p11⟩
        · exact .inl ⟨h1,ds,r,h3,h4,hk _ _ h5⟩
        · exact .inr ⟨d0,y,l,id,h,ho,ds,ho',p1,p2,p3,p4,p5,p6,p7,p8,p9,p10,hk _ _ p11⟩
    · rename_i hargs;simp only[hargs]at h
  · rename_i hm
    rw[Ai hm]at h
    rcases h with ⟨h0,h1,v,hs,h2,h5⟩|h
    · exact .inl ⟨h0,h1,v,hs,h2,hk _ _ h5⟩
    refine .inr ?_
    split
    · rename_i g id hargs
      simp only[hargs]at h
      split
      · rename_i es hH
        simp only[hH]at h
        exact⟨h.1,h.2.1,h.2.2.1,hk _ _ h.2.2.2⟩
      · rename_i hne
        exfalso
        split at h
        · rename_i es hH;exact hne _ hH
        · exact h
    · rename_i hne
      split at h
      · rename_i g id hargs;exact(hne _ _ hargs).elim
      · obtain⟨ds,r,h1,h2,h3⟩:=h
        exact⟨ds,r,h1,h2,hk _ _ h3⟩
def bVi{o:Oper}{σ:St}{con:List Nat}{k k':St->List Nat->Prop}(hk:∀σ con,k σ con->k' σ con)(h:O1 P o σ con k):O1 P o σ con k':=by
  unfold O1 at h;unfold O1;split at h
  · rename_i t x hop
    split at h
    · rename_i v hv;(try simp only[hv]);exact hk _ _ h
    · exact h.elim
  · rename_i t m x ok hop
    split at h
    · rename_i v hv;(try simp only[hv]);exact hk _ _ h
    · exact h.elim
  · rename_i x hop
    split at h
    · rename_i v hv;(try simp only[hv]);exact hk _ _ h
    · exact h.elim
  · exact h.elim
  · rename_i t ad x hop
    split at h
    · rename_i id ho hv;(try simp only[hv]);exact hk _ _ h
    · exact h.elim
  · rename_i t m x v hop
    split at h
    · rename_i id ho hv;(try simp only[hv]);exact hk _ _ h
    · exact h.elim
  · rename_i t m x v hop
    split at h
    · rename_i id ho hv;(try simp only[hv]);exact hk _ _ h
    · exact h.elim
  · rename_i f args ts hop
    exact bVh hk h
  · rename_i t args ts hop
    split at h
    · rename_i f cs hc
      obtain⟨ds,r,h1,h2,h3⟩:=h
      (try simp only[hc])
      exact⟨ds,r,h1,h2,hk _ _ h3⟩
    · rename_i hc
      (try simp only[hc])
      split at h
      · rename_i f d hm
        obtain⟨ds,r,h1,h2,h3⟩:=h
        (try simp only[hm])
        exact⟨ds,r,h1,h2,hk _ _ h3⟩
      · exact h.elim
  · rename_i t name args ts hop
    split at h
    · rename_i ty d hc
      (try simp only[hc])
      split at h
      · rename_i f hm
        obtain⟨ds,r,h1,h2,h3⟩:=h
        (try simp only[hm])
        exact⟨ds,r,h1,h2,hk _ _ h3⟩
      · exact h.elim
    · exact h.elim
  · rename_i args ts hop
    split at h
    · rename_i s x t t' h1 h2
      obtain⟨e,h⟩:=h
      (try simp only[h1,h2])
      refine⟨e,?_⟩
      split at h
      · rename_i av nb cn hv;(try simp only[hv]);exact hk _ _ h
      · exact h.elim
    · exact h.elim
  · rename_i args ts hop
    split at h
    · rename_i m x t kt h1 h2
      (try simp only[h1,h2])
      split at h
      · rename_i id ho hv;(try simp only[hv]);exact hk _ _ h
      · exact h.elim
    · exact h.elim
  · rename_i args ts hop
    split
    · rename_i hlm
      rw[Aq hlm]at h
      split at h
      · rename_i m h1
        (try simp only[h1])
        split at h
        · rename_i n hv;(try simp only[hv]);exact hk _ _ h
        · exact h.elim
      · exact h.elim
    · rename_i hlm
      rw[Ai hlm]at h
      obtain⟨hkd,h⟩:=h
      refine⟨hkd,?_⟩
      split at h
      · rename_i av nb hv;(try simp only[hv]);exact hk _ _ h
      · exact h.elim
  · rename_i h1 h2 h3 h4 h5 h6 h7 h8
    obtain⟨hkd,h⟩:=h
    refine⟨hkd,?_⟩
    split at h
    · rename_i av nb hv;(try simp only[hv]);exact hk _ _ h
    · exact h.elim
def zT{ops:Array Oper}{k k':St->List Nat->Prop}(hk:∀σ con,k σ con->k' σ con):∀(l:List Oper) (σ:St) (con:List Nat),OW P ops l σ con k->OW P ops l σ con k'
  |[],σ,con,h=>hk _ _ h
  | o::l,σ,con,h=>by
    unfold OW at h ⊢;split at h
    · exact bVi (λσ con=>zT hk l σ con) h
    · exact zT hk l _ _ h
    · exact h.elim
def fL:∀(c:Code) {Q Q':Exit->St->Prop} {σ:St},(∀e σ,Q e σ->Q' e σ)->AWP P c σ Q->AWP P c σ Q':=by
  intro c;induction c with
  |skip=>intro Q Q' σ hq h;exact hq _ _ h
  |region id ops draw=>intro Q Q' σ hq h;exact zT (λσ con h=>hq _ _ h) _ _ _ h
  | seq x y ihx ihy =>
    intro Q Q' σ hq h;refine ihx (λe σ h=>?_) h;cases e with
    |normal=>exact ihy hq h
    |_=>exact hq _ _ h
  | cond c x y ihx ihy =>
    intro Q Q' σ hq h;unfold AWP at h ⊢;split
    · rename_i t ht
      simp only[ht]at h
      cases t
      · exact ihy hq h
      · exact ihx hq h
    · rename_i ht
      simp only[ht]at h
      exact⟨ihx hq h.1,ihy hq h.2⟩
    · rename_i h1 h2
      exfalso
      split at h
      · rename_i t ht;exact h1 _ ht
      · rename_i ht;exact h2 ht
      · exact h
  | block id c ih =>
    intro Q Q' σ hq h;refine ih (λe σ h=>?_) h;cases e with
    | exit id' =>
      simp only at h ⊢;split
      · rename_i he;rw[Aq he]at h;exact hq _ _ h
      · rename_i he;rw[Ai he]at h;exact hq _ _ h
    |_=>exact hq _ _ h
  | loop c ih =>
    intro Q Q' σ hq h;obtain⟨τ,S,m,x0,h0,h1⟩:=h;refine⟨τ,S,m,x0,h0,λx=>ih (λe σ h=>?_) (h1 x)⟩;cases e with
    |normal=>exact h
    |_=>exact let ⟨σ2,hw,h⟩:=h;⟨σ2,hw,hq _ _ h⟩
  |exit id=>intro Q Q' σ hq h;exact hq _ _ h
  |ret=>intro Q Q' σ hq h;exact hq _ _ h
  |label l=>intro Q Q' σ hq h;exact hq _ _ h
  | scope c ih =>
    intro Q Q' σ hq h;refine ih (λe σ h=>?_) h;cases e with
    |goto l=>exact h
    |_=>exact hq _ _ h
  |_=>intro Q Q' σ hq h;exact h.elim
def aDa{c:Code}{σ:St}{Q:Exit->St->Prop}{τ:Type}(S:τ->St)(m:τ->Nat)(x0:τ)(h0:WkR σ (S x0))
    (h:∀x,AWP P c (S x) λe σ'=>match e with|.normal=>∃y,m y<m x/\WkR σ' (S y)|e=>Q e σ'):AWP P (.loop c) σ Q :=
  ⟨τ,S,m,x0,h0,λx=>fL c (λe σ h=>by
    cases e with
    |normal=>exact h
    |_=>exact⟨σ,.inl rfl,h⟩) (h x)⟩
def LU(P:Program)[M:Mch P](c:Code):Nat->St->(Exit->St->Prop)->Prop
  |0,_,_=>False
  |n+1,σ,Q=>AWP P c σ λe σ'=>match e with|.normal=>LU P c n σ' Q|e=>Q e σ'
def bRx{c:Code}{Q:Exit->St->Prop}{n:Nat}{σ:St}(h:LU P c n σ Q):AWP P (.loop c) σ Q:=by
  refine⟨{ p:Nat×St // LU P c p.1 p.2 Q },λp=>p.1.2,λp=>p.1.1,⟨(n,σ),h⟩,.inl rfl,λx=>?_⟩;obtain⟨⟨n,σ⟩,hx⟩:=x;cases n with
  |zero=>exact hx.elim
  | succ n =>
    refine fL c (λe σ h=>?_) hx;cases e with
    |normal=>exact⟨⟨(n,σ),h⟩,Ck n,.inl rfl⟩
    |_=>exact⟨σ,.inl rfl,h⟩
def tR{rd:Bool}{WW:Code->(Exit->Act->World->Prop)->Act->World->Prop}(hW:WpR P rd WW)(hm:P.follows .mixedOrders=true){z:Nat->Bool}(hz:∀d v,G.Z d=some v->z d=true) :
    ∀(c:Code) (Q:Exit->St->Prop) (σ:St) (a:Act) (w:World),bN N c=true->bQ P c=true->fR z c=true->(rd=true->gH c=true)->AWP P c σ Q->SR G N ds σ a w ->
    WW c (λe a' w'=>∃σ',Q e σ'/\SR G N ds σ' a' w') a w:=by
  intro c
  induction c with
  |skip=>intro Q σ a w _ _ _ _ h hs;exact hW.skip ⟨σ,h,hs⟩
  | region id ops draw =>
    intro Q σ a w hd hl hnz hnd h hs
    exact uC hW (Q:=Q .normal) hm (uH hz hd hnz) hnd (λhdr=>by simpa[bQ,hdr]using hl) hs h λσ' a' w' hq hs'=>⟨σ',hq,hs'⟩
  | seq x y ihx ihy =>
    intro Q σ a w hd hl hnz hnd h hs
    simp only[bN,bQ,fR,gH,A8]at hd hl hnz hnd
    refine hW.seq (hW.mono (ihx _ σ a w hd.1 hl.1 hnz.1 (λe=>(hnd e).1) h hs) ?_)
    rintro e a' w' ⟨σ',hq,hs'⟩
    cases e with
    |normal=>exact ihy Q σ' a' w' hd.2 hl.2 hnz.2 (λe=>(hnd e).2) hq hs'
    |_=>exact⟨σ',hq,hs'⟩
  | cond c x y ihx ihy =>
    intro Q σ a w hd hl hnz hnd h hs
    simp only[bN,bQ,fR,gH,A8]at hd hl hnz hnd
    unfold AWP at h
    split at h
    rotate_left
    · rename_i ht
      have hc:∃t,a.eval c=.bool t:=by
        obtain⟨_,_,_,F,ι,_,_,hV,_⟩:=hs;have:=cH (Γ:=σ.Γ) (a:=a) (x:=c) (F:=F) (w:=w) (ι:=ι) λt _=>hV t
        rw[ht]at this;generalize a.eval c=v at this;cases this with|ub t=>exact⟨t,rfl⟩
      obtain⟨t,hc⟩:=hc
      refine hW.cond hc ?_
      cases t
      · exact ihy Q σ a w hd.2 hl.2 hnz.2 (λe=>(hnd e).2) h.2 hs
      · exact ihx Q σ a w hd.1 hl.1 hnz.1 (λe=>(hnd e).1) h.1 hs
    · exact h.elim
    · rename_i t ht
      have hc:a.eval c=.bool t:=by
        obtain⟨_,_,_,F,ι,_,_,hV,_⟩:=hs;have:=cH (Γ:=σ.Γ) (a:=a) (x:=c) (F:=F) (w:=w) (ι:=ι) λt _=>hV t
        rw[ht]at this;generalize a.eval c=v at this;cases this with|d _ _ h=>cases h;rfl
      refine hW.cond hc ?_
      cases t
      · exact ihy Q σ a w hd.2 hl.2 hnz.2 (λe=>(hnd e).2) h hs
      · exact ihx Q σ a w hd.1 hl.1 hnz.1 (λe=>(hnd e).1) h hs
  | block id c ih =>
    intro Q σ a w hd hl hnz hnd h hs
    refine hW.block (hW.mono (ih _ σ a w hd hl hnz hnd h hs) ?_)
    rintro e a' w' ⟨σ',hq,hs'⟩
    cases e with
    | exit id' =>
      simp only[DQ]at hq ⊢
      split at hq
      · rename_i he;rw[Aq he];exact⟨σ',hq,hs'⟩
      · rename_i he;rw[Ai he];exact⟨σ',hq,hs'⟩
    |_=>exact⟨σ',hq,hs'⟩
  | loop c ih =>
    intro Q σ a w hd hl hnz hnd h hs
    obtain⟨τ,S,m,x0,hk,hround⟩:=h
    refine hW.loop (λn a w=>∃x,m x=n/\SR G N ds (S x) a w) ⟨m x0,x0,rfl,lU hk hs⟩ ?_
    rintro n a w ⟨x,rfl,hsx⟩
    refine hW.mono (ih _ (S x) a w hd hl hnz hnd (hround x) hsx) ?_
    rintro e a' w' ⟨σ',hq,hs'⟩
    cases e with
    | normal =>
      obtain⟨y,hlt,hk⟩:=hq
      exact⟨m y,hlt,y,rfl,lU hk hs'⟩
    |_=>exact let ⟨σ2,hw,hq⟩:=hq;⟨σ2,hq,lU hw hs'⟩
  |exit id=>intro Q σ a w _ _ _ _ h hs;exact hW.exit ⟨σ,h,hs⟩
  |ret=>intro Q σ a w _ _ _ _ h hs;exact hW.ret ⟨σ,h,hs⟩
  |label l=>intro Q σ a w _ _ _ _ h hs;exact hW.label ⟨σ,h,hs⟩
  | scope c ih =>
    intro Q σ a w hd hl hnz hnd h hs
    have hrd:rd=false:=by
      cases rd with
      |false=>rfl
      |true=>exact absurd (hnd rfl) (by simp[gH])
    refine hW.scope hrd (hW.mono (ih _ σ a w hd hl hnz (λe=>by rw[hrd]at e;cases e) h hs) ?_)
    rintro e a' w' ⟨σ',hq,hs'⟩
    cases e with
    |goto l=>exact hq.elim
    |_=>exact⟨σ',hq,hs'⟩
  |_=>intro Q σ a w _ _ _ _ h;exact h.elim
def cJ(hm:P.follows .mixedOrders=true)(hZ:∀d,G.Z d=none)(c:Code)(Q:Exit->St->Prop)(σ:St)(a:Act)(w:World)(hd:bN N c=true)(hl:bQ P c=true)(h:AWP P c σ Q)(hs:SR G N ds σ a w) :
    WC P c (λe a' w'=>∃σ',Q e σ'/\SR G N ds σ' a' w') a w :=
  tR (WpR.plain P) hm (z:=λ_=>false) (λd v e=>by rw[hZ]at e;cases e) c Q σ a w hd hl (vP c) (λe=>by cases e) h hs
def kD(P:Program)(σ:St):ResultVar->Option AV
  |.tmp t=>some (σ.Γ t)
  |.cell ad t=>uQ P σ.H t (σ.Γ ad)
def jA(P:Program)(rs:List ResultVar)(σ:St):Option D :=
  (rs.mapM (kD P σ)).bind λavs=>(cI σ.H avs).map λl=>match l with|[x]=>x|l=>.tp l
def kO{fn:Func}{σ:St}{a:Act}{w:World}{r:D}{F:Nat->Prop}{ι:Nat->Option Nat}(hR:HR G F w ι bD σ.H)(hV:∀t,V F w ι (σ.Γ t) (a.tmps.getD t undef))(h:jA P fn.results.toList σ=some r) :
    ∃v,aK P (results fn a.tmps) w=.ok v w/\VD (λb=>F b\/∃id,ι id=some b) w r v:=by
  obtain⟨avs,havs,h⟩:=Ad.1 h
  obtain⟨l,hl,rfl⟩:=Af.1 h
  have hrun:∀ (rs:List ResultVar) (avs:List AV),rs.mapM (kD P σ)=some avs->∃vs:List Value,aK P (rs.mapM (m:=Sem) λ| .tmp t=>pure (a.tmps.getD t undef) | .cell ad t=>do loadVar t (<- asAddr (a.tmps.getD ad undef))) w=.ok vs w /\
      vs.length=avs.length/\∀(k:Nat) c v,avs[k]? = some c->vs[k]? = some v->V F w ι c v:=by
    intro rs
    induction rs with
    |nil=>intro avs h;simp at h;subst h;exact⟨[],by simp,rfl,λk c v h=>by simp at h⟩
    | cons x rs ih =>
      intro avs h
      simp only[Cp,C2,Ad,DK,Ax]at h
      obtain⟨av,hav,avs',havs',rfl⟩:=h
      obtain⟨vs,h1,h2,h3⟩:=ih avs' havs'
      have hx:∃v,aK P ((match x with|.tmp t=>pure (a.tmps.getD t undef)|.cell ad t=>do loadVar t (<-asAddr (a.tmps.getD ad undef))):Sem Value) w=.ok v w/\V F w ι av v:=by
        cases x with
        |tmp t=>simp only[kD,Ax]at hav;subst hav;exact⟨_,by simp,hV t⟩
        | cell ad t =>
          simp only[kD]at hav;obtain⟨u,hu,hv⟩:=aIv (P:=P) hR (λ_ _ h=>h) hav (hV ad);refine⟨u,?_,hv⟩;show aK P (do loadVar t (<-asAddr (a.tmps.getD ad undef)):Sem Value) w=_;simp only[E0]at hu;generalize a.tmps.getD ad undef=p at hu ⊢;cases p with
          | pointer q=>cases q with
            |some q=>simpa[CE,asAddr]using hu
            |none=>simp[CE]at hu
          |_=>simp[CE]at hu
      obtain⟨v,hv,hvv⟩:=hx
      refine⟨v::vs,?_,by simp[h2],λk c u hc hu=>?_⟩
      · simp only[Cp,Sem.run_bind,hv,AK,h1,Sem.run_pure]
      · rcases k with _|k
        · simp at hc hu;subst hc;subst hu;exact hvv
        · exact h3 k c u (by simpa using hc) (by simpa using hu)
  obtain⟨vs,h1,h2,h3⟩:=hrun _ _ havs
  obtain⟨q1,q2⟩:=fY _ _ _ hl
  have hVD:∀(k:Nat) d v,l[k]? = some d->vs[k]? = some v->VD (λb=>F b\/∃id,ι id=some b) w d v:=by
    intro k d v hd hv;obtain⟨c,hc,hf⟩:=q2 k d hd;refine(uZ hR (λ_ _ h=>h) 8 c v d hf (h3 k c v hc hv)).1.mono ?_;rintro b (hb|⟨id,hid,hb⟩)
    · exact .inl hb
    · exact .inr ⟨id,hb⟩
  have hres:aK P (results fn a.tmps) w=.ok (if h:vs.toArray.size=1 then vs.toArray[0]else .tuple vs.toArray) w:=by
    simp only[results,D5,Sem.run_bind,Sem.run_map]
    erw [h1]
    simp
  refine⟨_,hres,?_⟩
  have hlen:l.length=vs.length:=by omega
  match l,hlen,hVD with
  | [x],hlen,hVD =>
    match vs,hlen,hVD with
    |[v],_,hVD=>exact hVD 0 x v rfl rfl
  | [],hlen,hVD =>
    have:vs=[]:=List.eq_nil_of_length_eq_zero (by simpa using hlen.symm)
    subst this
    exact .tp _ _ rfl λk c v h=>by simp at h
  | x::y::l,hlen,hVD =>
    have hne:¬vs.toArray.size=1:=by simp at hlen ⊢;omega
    rw[dif_neg hne]
    exact .tp _ _ (by simpa using hlen) λk c v hc hv=>hVD k c v hc (by simpa using hv)
def eB{fn:Func}{σ:St}{a:Act}{w:World}{r:D}(hs:SR G N ds σ a w)(h:jA P fn.results.toList σ=some r) :
    ∃v,aK P (results fn a.tmps) w=.ok v w/\VD (λb=>G.A b\/G.M b\/(G.W.heap.size<=b/\b<w.heap.size)) w r v:=by
  obtain⟨_,_,_,F,ι,hR,hdom,hV,_⟩:=hs
  obtain⟨v,h1,h2⟩:=kO hR hV h
  refine⟨v,h1,h2.mono ?_⟩
  rintro b (hb|⟨id,hb⟩)
  · rcases hR.F_ok b hb with h|h|h
    · exact .inl h
    · exact .inr (.inl h)
    · exact .inr (.inr ⟨h,hR.F_lt b hb⟩)
  · rcases(hR.place id b hb).1 with h|h
    · exact .inr (.inl h)
    · exact .inr (.inr ⟨h,hR.ι_lt hb⟩)
def Γ0(args:List D)(N:Nat):Nat->AV:=λt=>match args[t]? with|some d=>aL d|none=>if t<N then .un else .un
def St0(args:List D)(N:Nat):St:=⟨Γ0 args N,λ_=>none,1⟩
def SR0{A:Nat->Prop}{W:World}{vs:Array Value}{args:List D}(hok:OkV W)(hA:∀b,A b->b<W.heap.size)(hl:args.length=vs.size)(hv:∀(k:Nat) d v,args[k]? = some d->vs[k]? = some v->VD A W d v)(hN:args.length<=N) :
    SR ⟨W,A,bD,λ_=>True,λ_=>none⟩ N [] (St0 args N) { tmps:=vs++AY (N-vs.size) undef,defers:=[] } W:=by
  refine⟨λ_ _=>rfl,λh=>by simp[St0]at h,hok,A,λ_=>none,⟨.refl _ _ _,hA,λb h=>.inl h,λ_ _ h=>by simp at h,λ_ _ _ h=>by simp at h,λ_ _ _ h=>by simp at h,λ_ _ _ _ _ h=>by simp at h⟩,λid=>by simp[St0],λt=>?_,⟨by simp;omega,λ_ _ h=>by cases h⟩,rfl,λ_ h=>by simp at h⟩
  simp only[St0,Γ0]
  by_cases ht:t<args.length
  · rw[Ab ht]
    have ht':t<vs.size:=by omega
    have:(vs++AY (N-vs.size) undef).getD t undef=vs[t]:=by simp only[Au];rw[B3 ht',Al ht'];rfl
    rw[this]
    exact mX (hv t _ _ (Ab ht) (Al ht'))
  · rw[AW (by omega)]
    have:(vs++AY (N-vs.size) undef).getD t undef=undef:=by
      simp only[Au];rw[Cu (by omega)];by_cases h2:t-vs.size<N-vs.size
      · rw[Ch,Aq h2];rfl
      · rw[Ch,Ai h2];rfl
    rw[this]
    simp only[ite_self]
    exact .un
def SR.env{σ:St}{a:Act}{w v1:World}(h:SR G N ds σ a w)(he:Env w v1):SR G N ds σ a v1:=by obtain⟨h1,h2,hok,F,ι,hR,hdom,hV,hN,hds,hp⟩:=h;obtain⟨hR',hst⟩:=hR.env he;exact⟨h1,h2,he.okV hok,F,ι,hR',hdom,λt=>(hV t).step hst,hN,hds,hp⟩
def bOt {f N:Nat} {fn:Func} {c:Code} {args:List D} {r:D} (hm:P.follows .mixedOrders=true) (hf:P.funcs[f]? = some fn) (hb:fn.body=some c) (hname:(fn.name == "runtime.NumGoroutine")=false) (hN:fn.ntmps=N)
    (hd:bN N c=true) (hl':bQ P c=true) (ha:args.length<=N) (h:AWP P c (St0 args N) λe σ=>(e=.normal\/e=.ret)/\jA P fn.results.toList σ=some r):Spec P f args r:=by
  intro A W vs hA hl hv
  have hn:¬ fn.name = "runtime.NumGoroutine" := by simpa using hname
  refine⟨λw=>by simp[callFunc,hf,hn,hb],?_⟩
  refine gF hf hb ?_
  subst hN
  refine(WpR.plain P).okv λhok=>cC (cJ hm (λ_=>rfl) c _ _ _ _ hd hl' h (SR0 hok hA hl hv ha)) ?_
  rintro e a w ⟨σ,⟨he,hr⟩,hs⟩
  have hend:a.defers=[]/\∀v1,Env w v1->∃x,aK P (results fn a.tmps) v1=.ok x v1/\Below W.heap.size W v1/\VD (λb=>A b\/(W.heap.size<=b/\b<v1.heap.size)) v1 r x:=by
    refine⟨hs.2.2.2.elim λ_ h=>h.elim λ_ h=>h.2.2.2.2.1,λv1 he=>?_⟩;have hs1:=hs.env he;obtain⟨v,hrun,hvd⟩:=eB hs1 hr;obtain⟨_,_,_,F,ι,hR,_,_,_,hdf,_⟩:=hs1;refine⟨v,hrun,⟨hR.kept.os,hR.kept.tape,hR.kept.output,hR.kept.size,λk hk=>hR.kept.block k hk (λh=>h)⟩,hvd.mono ?_⟩;rintro b (h|h|h)
    · exact .inl h
    · exact h.elim
    · exact .inr h
  rcases he with rfl|rfl<;>exact hend
def St1(h:AV)(o:HO)(args:List D)(N:Nat):St:=⟨λt=>match t with|0=>h|t+1=>Γ0 args N t,λid=>if id=0 then some o else none,1⟩
def SR1{A:Nat->Prop}{W:World}{vs:Array Value}{args:List D}{h:AV}{o:HO}{b:Nat}(hok:OkV W)(hA:∀b,A b->b<W.heap.size)(hAb:¬A b)(hb:b<W.heap.size)(ho:∃ob,W.heap[b]? = some ob/\CR A W (ι1 b) o ob)
    (hl:args.length+1=vs.size) (h0:∃v,vs[0]? = some v/\V A W (ι1 b) h v) (hv:∀(k:Nat) d v,args[k]? = some d->vs[k+1]? = some v->VD A W d v) (hN:args.length+1<=N) :
    SR ⟨W,A,(·=b),(·=b),λ_=>none⟩ N [] (St1 h o args N) { tmps:=vs++AY (N-vs.size) undef,defers:=[] } W:=by
  have hι:∀id b',ι1 b id=some b'->id=0/\b'=b:=λid b' e=>by
    unfold ι1 at e;split at e
    · injection e with e;exact⟨by assumption,e.symm⟩
    · cases e
  have hH:∀id o',(if id=0 then some o else none)=some o'->id=0/\o'=o:=λid o' e=>by
    split at e
    · injection e with e;exact⟨by assumption,e.symm⟩
    · cases e
  refine⟨λid h=>by simp only[St1]at h ⊢;rw[Ai (by omega)],λh=>by simp[St1]at h,hok,A,ι1 b,⟨.refl _ _ _,hA,λb h=>.inl h,λid b' e=>?_,λid b' o' e e'=>?_,λid id' b' e e' _ _=>?_,λid id' b' o1 o2 e e' _ h1 h2=>?_⟩,λid=>?_,λt=>?_,⟨by simp;omega,λ_ _ h=>by cases h⟩,rfl,λb' e=>(hι 0 b' e).2⟩
  · obtain⟨_,rfl⟩:=hι id b' e;exact⟨.inl rfl,hb,λ_=>hAb⟩
  · obtain⟨_,rfl⟩:=hι id b' e;obtain⟨_,rfl⟩:=hH id o' e';exact ho
  · rw[(hι _ _ e).1,(hι _ _ e').1]
  · rw[(hH _ _ h1).2,(hH _ _ h2).2];exact Ay _
  · simp only[St1,ι1]
    by_cases hid:id=0<;>simp[hid]
  · have hget:∀k,k<vs.size->(vs++AY (N - vs.size) undef).getD k undef=vs.getD k undef:=λk hk=>by simp only[Au];rw[B3 hk]
    have hget2:∀k,vs.size<=k->(vs++AY (N-vs.size) undef).getD k undef=undef:=λk hk=>by
      simp only[Au];rw[Cu hk];by_cases h2:k-vs.size<N-vs.size
      · rw[Ch,Aq h2];rfl
      · rw[Ch,Ai h2];rfl
    cases t with
    | zero =>
      obtain⟨v,hv0,hV0⟩:=h0
      show V A W (ι1 b) h _
      rw[show(({ tmps:=vs++AY (N-vs.size) undef,defers:=[] }:Act).tmps.getD 0 undef)=v from by
        rw[hget 0 (by omega)];simp[Au,hv0]]
      exact hV0
    | succ t =>
      show V A W (ι1 b) (Γ0 args N t) _
      simp only[Γ0]
      by_cases ht:t<args.length
      · have ht':t+1<vs.size:=by omega
        rw[Ab ht,hget _ ht',Au,Al ht']
        exact mX (hv t _ _ (Ab ht) (Al ht'))
      · rw[AW (by omega),hget2 _ (by omega)]
        simp only[ite_self]
        exact .un
def bFz {f N:Nat} {fn:Func} {c:Code} {h:AV} {o o':HO} {args:List D} {r:D} (hf:P.funcs[f]? = some fn) (hb:fn.body=some c) (hname:(fn.name == "runtime.NumGoroutine")=false) (hN:fn.ntmps=N)
    (ha:args.length+1<=N) (hmap:∃k es,o=.map k es) (hmap':∃k es,o'=.map k es) (hno':kE o'=true) (hnm:NM r)
    (hA:∀(G:Ctx) (a:Act) (w:World),(∀d,G.Z d=none)->SR G N [] (St1 h o args N) a w->WC P c (λe a' w'=>∃σ,((e=.normal\/e=.ret)/\jA P fn.results.toList σ=some r/\σ.H 0=some o')/\SR G N [] σ a' w') a w):kL P f h o args o' r:=by
  intro A W vs b hAl hAb hbl hob hl hv0 hv
  have hn:¬ fn.name = "runtime.NumGoroutine" := by simpa using hname
  refine⟨λw=>by simp[callFunc,hf,hn,hb],?_⟩
  refine gF hf hb ?_
  subst hN
  refine(WpR.plain P).okv λhok=>?_
  have hsr:=SR1 (N:=fn.ntmps) hok hAl hAb hbl hob hl hv0 hv ha
  refine cC (hA _ _ _ (λ_=>rfl) hsr) ?_
  rintro e a w0 ⟨σ,⟨he,hr,hH0⟩,hs0⟩
  have hend:a.defers=[]/\∀w,Env w0 w->∃v,aK P (results fn a.tmps) w=.ok v w/\∃ob',Kept (·=b) W.heap.size W w/\w.heap[b]? = some ob' /\
      (∀cur e,W.heap[b]? = some (.cells cur e (0,0))->∃cur',ob'=.cells cur' e (0,0)/\cur'.size=cur.size) /\
      CR (λk=>A k\/(W.heap.size<=k/\k<w.heap.size)) w (ι1 b) o' ob'/\VD (λk=>A k\/(W.heap.size<=k/\k<w.heap.size)) w r v:=by
   refine⟨hs0.2.2.2.elim λ_ h=>h.elim λ_ h=>h.2.2.2.2.1,λw henv=>?_⟩
   have hs:=hs0.env henv
   obtain⟨_,_,_,F,ι,hR,hdom,hVs,_,hdf,hp⟩:=hs
   obtain⟨v,hrun,hvd⟩:=kO hR hVs hr
   obtain⟨b',hb'⟩:=(hdom 0).2 (by rw[hH0];rfl)
   have hbb:=hp b' hb'
   simp only at hbb
   subst hbb
   obtain⟨ob',hob',hcr⟩:=hR.obj 0 b' o' hb' hH0
   have hnF:¬F b':=(hR.place 0 b' hb').2.2 (λx=>x)
   have hFA:∀k,F k->A k\/(W.heap.size<=k/\k<w.heap.size):=λk hk=>by
     rcases hR.F_ok k hk with h|h|h
     · exact .inl h
     · simp only at h;subst h;exact(hnF hk).elim
     · exact .inr ⟨h,hR.F_lt k hk⟩
   refine⟨v,hrun,ob',hR.kept,hob',λcur e he=>?_,(xP hno' hcr).step ⟨hFA,λ_ _=>rfl,λ_ _ h=>h,λ_ _ cur _ _ h=>⟨cur,h,rfl⟩⟩,(cDq hvd hnm).mono ?_⟩
   rotate_left
   · rintro c ⟨hc|⟨id,h2⟩,hnc⟩
     · exact hFA c hc
     · rcases(hR.place id c h2).1 with h|h
       · simp only at h;subst h
         have:=hR.inj id 0 c h2 hb' (λx=>x) (λx=>x)
         subst this
         obtain⟨k,es,rfl⟩:=hmap'
         cases hcr with|map _ _ ents clock _ _ _=>exact(hnc ents clock hob').elim
       · exact .inr ⟨h,hR.ι_lt h2⟩
   obtain⟨k,es,rfl⟩:=hmap
   obtain⟨ob,h1,h2⟩:=hob
   rw[he]at h1;injection h1 with h1;subst h1
   cases h2
  rcases he with rfl|rfl<;>exact hend
end
end Go.Am
end
section
open List renaming map_map->C,mapM_map->L
namespace Go.Am
open RowKit (Below)
structure Kn where
 call:FuncId->List D->Option D
 ocall:FuncId->AV->HO->List D->Option (HO×D)
 keys:FuncId->Option FuncId
 sorted:FuncId->FuncId->Bool
structure aKc(P:Program)[M:Mch P](E:Kn):Prop where
 call:∀f ds r,E.call f ds=some r->Spec P f ds r
 ocall:∀f h o ds o' r,E.ocall f h o ds=some (o',r)->kL P f h o ds o' r
 keys:∀f g,E.keys f=some g->aDo P f g
 sorted:∀f g,E.sorted f g=true->tP P f g
def OEC(P:Program)(E:Kn)(f:FuncId)(args:Array Operand)(dst:Option Tmp)(σ:St)(con:List Nat):Option (St×List Nat) :=
 if aO P f then match args.toList with
  | x::rest=>match hd1 (oev σ.Γ x)with
   | some (id,h)=>match σ.H id with
    | some ho=>match rest,h,E.keys f with
     |[],.mp 0,some g=>some (⟨bI σ.Γ dst (.kf g id),σ.H,σ.n⟩,con)
     | _,_,_=>if kE ho=true/\bV σ.H (rest.map (oev σ.Γ))=[]then match cI σ.H (rest.map (oev σ.Γ))with
      | some ds=>match E.ocall f h ho ds with
       |some (ho',r)=>if ho'.len=ho.len/\kE ho'=true then some (⟨bI σ.Γ dst (inj r),upd σ.H id (some ho'),σ.n⟩,con)else none
       |none=>none
      |none=>none
      else none
    |none=>none
   | none=>match hd0 (oev σ.Γ x)with
    | some d=>match cI σ.H (rest.map (oev σ.Γ))with
     | some ds=>match E.call f (d::ds)with
      |some r=>some (⟨bI σ.Γ dst (inj r),kill (bV σ.H (rest.map (oev σ.Γ))) σ.H,σ.n⟩,bV σ.H (rest.map (oev σ.Γ))++con)
      |none=>none
     |none=>none
    |none=>none
  |[]=>none
 else match args.toList.map (oev σ.Γ)with
  | [.kf g id]=>match σ.H id with
   |some (.map .i64 es)=>if es.length<=1099511627776/\(es.map (·.1)).all inr=true/\E.sorted f g=true then some (⟨bI σ.Γ dst (.d (.sl ((aNg (es.map (·.1))).map λn=>[.i .i64 n]))),σ.H,σ.n⟩,con)else none
   |_=>none
  | avs=>match cI σ.H avs with
   | some ds=>match E.call f ds with
    |some r=>some (⟨bI σ.Γ dst (inj r),kill (aZ σ.H avs r) σ.H,σ.n⟩,aZ σ.H avs r++con)
    |none=>none
   |none=>none
def OE1(P:Program)(E:Kn)(o:Oper)(σ:St)(con:List Nat):Option (St×List Nat) :=
 match o.op with
 | .load t x=>match uQ P σ.H t (oev σ.Γ x)with
  |some v=>some (⟨bI σ.Γ o.dst v,σ.H,σ.n⟩,con)
  |none=>none
 | .lookup t m x ok=>match aFu P σ.H t (oev σ.Γ m) (oev σ.Γ x) ok with
  |some v=>some (⟨bI σ.Γ o.dst v,σ.H,σ.n⟩,con)
  |none=>none
 | .store t ad x=>match nS P σ.H t (oev σ.Γ ad) (oev σ.Γ x)with
  |some (id,ho)=>some (⟨bI σ.Γ o.dst .un,upd σ.H id (some ho),σ.n⟩,con)
  |none=>none
 | .mapUpdate t m x v=>match qG P σ.H t (oev σ.Γ m) (oev σ.Γ x) (some (oev σ.Γ v))with
  |some (id,ho)=>some (⟨bI σ.Γ o.dst .any,upd σ.H id (some ho),σ.n⟩,con)
  |none=>none
 | .insert t m x v=>match qG P σ.H t (oev σ.Γ m) (oev σ.Γ x) (some (oev σ.Γ v))with
  |some (id,ho)=>some (⟨bI σ.Γ o.dst .any,upd σ.H id (some ho),σ.n⟩,con)
  |none=>none
 |.call { callee:=.value (.func f),args:=args,argTypes:=_ }=>OEC P E f args o.dst σ con
 | .call { callee:=.value (.tmp t),args:=args,argTypes:=_ }=>match dM (σ.Γ t)with
  | some (f,cs)=>match cI σ.H (args.toList.map (oev σ.Γ)++cs)with
   | some ds=>match E.call f ds with
    |some r=>some (⟨bI σ.Γ o.dst (inj r),kill (aZ σ.H (args.toList.map (oev σ.Γ)++cs) r) σ.H,σ.n⟩,aZ σ.H (args.toList.map (oev σ.Γ)++cs) r++con)
    |none=>none
   |none=>none
  | none=>match σ.Γ t with
   | .d (.fm f d)=>match cI σ.H (.d d::args.toList.map (oev σ.Γ))with
    | some ds=>match E.call f ds with
     |some r=>some (⟨bI σ.Γ o.dst (inj r),kill (aZ σ.H (.d d::args.toList.map (oev σ.Γ)) r) σ.H,σ.n⟩,aZ σ.H (.d d::args.toList.map (oev σ.Γ)) r++con)
     |none=>none
    |none=>none
   |_=>none
 | .call { callee:=.invoke (.tmp t) name,args:=args,argTypes:=_ }=>match σ.Γ t with
  | .d (.iff ty d)=>match aMx P ty name with
   | some f=>match cI σ.H (.d d::args.toList.map (oev σ.Γ))with
    | some ds=>match E.call f ds with
     |some r=>some (⟨bI σ.Γ o.dst (inj r),kill (aZ σ.H (.d d::args.toList.map (oev σ.Γ)) r) σ.H,σ.n⟩,aZ σ.H (.d d::args.toList.map (oev σ.Γ)) r++con)
     |none=>none
    |none=>none
   |none=>none
  |_=>none
 | .call { callee:=.builtin .append,args:=args,argTypes:=ts }=>match args.toList,ts.toList with
  | [s,x],[t,t']=>if t=t' then match aEh P σ.H t (oev σ.Γ s) (oev σ.Γ x) σ.n with
   |some (av,nb,cn)=>some (⟨bI σ.Γ o.dst av,gT (kill cn σ.H) σ.n nb,cnt nb σ.n⟩,cn++con)
   |none=>none
   else none
  |_,_=>none
 | .call { callee:=.builtin .delete,args:=args,argTypes:=ts }=>match args.toList,ts.toList with
  | [m,x],[t,_]=>match qG P σ.H t (oev σ.Γ m) (oev σ.Γ x) none with
   |some (id,ho)=>some (⟨bI σ.Γ o.dst .any,upd σ.H id (some ho),σ.n⟩,con)
   |none=>none
  |_,_=>none
 | .call { callee:=.builtin .len,args:=args,argTypes:=ts }=>if aRq P ts then none else if kind P (.call { callee:=.builtin .len,args:=args,argTypes:=ts })=0 then match nev P (.call { callee:=.builtin .len,args:=args,argTypes:=ts }) σ.Γ σ.n with
  |some (av,nb)=>some (⟨bI σ.Γ o.dst av,gT σ.H σ.n nb,cnt nb σ.n⟩,con)
  |none=>none
  else none
 | op=>if kind P op=0 then match nev P op σ.Γ σ.n with
  |some (av,nb)=>some (⟨bI σ.Γ o.dst av,gT σ.H σ.n nb,cnt nb σ.n⟩,con)
  |none=>none
  else none
def OE(P:Program)(E:Kn)(ops:Array Oper):List Oper->St->List Nat->Option (St×List Nat)
 |[],σ,con=>some (σ,con)
 | o::l,σ,con=>match cV ops o σ.Γ with
  | some true=>match OE1 P E o σ con with
   |some p=>OE P E ops l p.1 p.2
   |none=>none
  |some false=>OE P E ops l ⟨bI σ.Γ o.dst .un,σ.H,σ.n⟩ con
  |none=>none
section
variable {P:Program} [M:Mch P] {E:Kn} (hE:aKc P E)
include hE
def bBk{f:FuncId}{args:Array Operand}{dst:Option Tmp}{σ:St}{con:List Nat}{p:St×List Nat}{k:St->List Nat->Prop}(h:OEC P E f args dst σ con=some p)(hk:k p.1 p.2):OC P f args dst σ con k:=by
 unfold OEC at h;unfold OC;split at h
 ·rename_i hm;rw[Aq hm];split at h
  case h_2=>cases h
  rename_i x rest hargs;rw[hargs];simp only;split at h
  case h_2 =>
   rename_i hx
   rw[hx]
   simp only
   split at h
   case h_2=>cases h
   rename_i d hd
   split at h
   case h_2=>cases h
   rename_i ds hds
   split at h
   case h_2=>cases h
   rename_i r hr
   injection h with h;subst h
   exact .inl ⟨bTc hd,ds,r,hds,aKn hd (hE.call _ _ _ hr),hk⟩
  rename_i id hh hx;rw[hx];simp only;split at h
  case h_2=>cases h
  rename_i ho hH;rw[hH];simp only;split at h
  ·rename_i g hg;injection h with h;subst h
   exact .inl ⟨g,rfl,rfl,hE.keys _ _ hg,hk⟩
  ·split at h
   case isFalse=>cases h
   rename_i hc;split at h
   case h_2=>cases h
   rename_i ds hds;split at h
   case h_2=>cases h
   rename_i ho' r hr;split at h
   case isFalse=>cases h
   rename_i hc2;injection h with h;subst h
   exact .inr (.inl ⟨hc.1,hc.2,ds,ho',r,hds,hE.ocall _ _ _ _ _ _ hr,hc2.1,hc2.2,hk⟩)
 ·rename_i hm;rw[Ai hm];refine .inr ?_;split at h
  ·rename_i g id hargs;rw[hargs];simp only;split at h
   ·rename_i es hH;split at h
    ·rename_i hc;injection h with h;subst h
     rw[hH];exact⟨hc.1,hc.2.1,hE.sorted _ _ hc.2.2,hk⟩
    ·cases h
   ·cases h
  ·rename_i hne;split at h
   case h_2=>cases h
   rename_i ds hds;split at h
   case h_2=>cases h
   rename_i r hr;injection h with h;subst h
   split
   ·rename_i g id hargs;exact(hne _ _ hargs).elim
   ·exact⟨ds,r,hds,hE.call _ _ _ hr,hk⟩
def bBl{o:Oper}{σ:St}{con:List Nat}{p:St×List Nat}{k:St->List Nat->Prop}(h:OE1 P E o σ con=some p)(hk:k p.1 p.2):O1 P o σ con k:=by
 unfold OE1 at h;unfold O1;split at h
 ·rename_i t x hop;rw[hop];split at h
  ·rename_i v hv;simp only[hv];injection h with h;subst h;exact hk
  ·cases h
 ·rename_i t m x ok hop;rw[hop];split at h
  ·rename_i v hv;simp only[hv];injection h with h;subst h;exact hk
  ·cases h
 ·rename_i t ad x hop;rw[hop];split at h
  ·rename_i id ho hv;simp only[hv];injection h with h;subst h;exact hk
  ·cases h
 ·rename_i t m x v hop;rw[hop];split at h
  ·rename_i id ho hv;simp only[hv];injection h with h;subst h;exact hk
  ·cases h
 ·rename_i t m x v hop;rw[hop];split at h
  ·rename_i id ho hv;simp only[hv];injection h with h;subst h;exact hk
  ·cases h
 ·rename_i f args ts hop;rw[hop];exact bBk hE h hk
 ·rename_i t args ts hop;rw[hop];split at h
  ·rename_i f cs hcal;simp only[hcal];split at h
   ·rename_i ds hds;split at h
    ·rename_i r hr;injection h with h;subst h
     exact⟨ds,r,hds,hE.call _ _ _ hr,hk⟩
    ·cases h
   ·cases h
  ·rename_i hcal;simp only[hcal];split at h
   ·rename_i f d hfm;simp only[hfm];split at h
    ·rename_i ds hds;split at h
     ·rename_i r hr;injection h with h;subst h
      exact⟨ds,r,hds,hE.call _ _ _ hr,hk⟩
     ·cases h
    ·cases h
   ·cases h
 ·rename_i t name args ts hop;rw[hop];split at h
  ·rename_i ty d hcal;simp only[hcal];split at h
   ·rename_i f hme;simp only[hme];split at h
    ·rename_i ds hds;split at h
     ·rename_i r hr;injection h with h;subst h
      exact⟨ds,r,hds,hE.call _ _ _ hr,hk⟩
     ·cases h
    ·cases h
   ·cases h
  ·cases h
 ·rename_i args ts hop;rw[hop];split at h
  ·rename_i s x t t' hargs hts;simp only[hargs,hts];split at h
   ·rename_i htt;refine⟨htt,?_⟩;split at h
    ·rename_i av nb cn hv;simp only[hv];injection h with h;subst h;exact hk
    ·cases h
   ·cases h
  ·cases h
 ·rename_i args ts hop;rw[hop];split at h
  ·rename_i m x t kt hargs hts;simp only[hargs,hts];split at h
   ·rename_i id ho hv;simp only[hv];injection h with h;subst h;exact hk
   ·cases h
  ·cases h
 ·rename_i args ts hop;rw[hop];split at h
  ·cases h
  ·rename_i hlm;simp only;rw[Ai hlm];split at h
   ·rename_i hkd;split at h
    ·rename_i av nb hv;injection h with h;subst h
     refine⟨hkd,?_⟩;simp only[hv];exact hk
    ·cases h
   ·cases h
 ·rename_i op h1 h2 h3 h4 h9 h5 h8 h10 h6 h7 h11;split at h
  ·rename_i hkd;split at h
   ·rename_i av nb hv;injection h with h;subst h
    split
    ·rename_i hop;exact(h1 _ _ hop).elim
    ·rename_i hop;exact(h2 _ _ _ _ hop).elim
    ·rename_i hop;rw[hop]at hkd;cases hkd
    ·rename_i hop;rw[hop]at hv;cases hv
    ·rename_i hop;exact(h3 _ _ _ hop).elim
    ·rename_i hop;exact(h4 _ _ _ _ hop).elim
    ·rename_i hop;exact(h9 _ _ _ _ hop).elim
    ·rename_i hop;exact(h5 _ _ _ hop).elim
    ·rename_i hop;exact(h8 _ _ _ hop).elim
    ·rename_i hop;exact(h10 _ _ _ _ hop).elim
    ·rename_i hop;exact(h6 _ _ hop).elim
    ·rename_i hop;exact(h7 _ _ hop).elim
    ·rename_i hop;exact(h11 _ _ hop).elim
    ·refine⟨hkd,?_⟩;simp only[hv];exact hk
   ·cases h
  ·cases h
def aDm{ops:Array Oper}{k:St->List Nat->Prop}:∀(l:List Oper) (σ:St) (con:List Nat) (p:St×List Nat),OE P E ops l σ con=some p->k p.1 p.2->OW P ops l σ con k
 |[],σ,con,p,h,hk=>by unfold OE at h;injection h with h;subst h;exact hk
 | o::l,σ,con,p,h,hk=>by
  unfold OE at h;unfold OW;split at h
  ·rename_i hw;simp only[hw];split at h
   ·rename_i q hq;exact bBl hE hq (aDm l _ _ _ h hk)
   ·cases h
  ·rename_i hw;simp only[hw];exact aDm l _ _ _ h hk
  ·cases h
end
def fzp(H:Hp)(S:List Nat)(x:AV):AV :=
 match x with
 | .ptr id _=>if id∈S then(match frz H 8 x with
   |some (.pt cs)=>if(vis H 8 x).all (λa=>decide (a∈S))then .fp cs else .any
   |_=>.any)else if(H id).isSome then x else .any
 |.d y=>.d y
 |.fp cs=>.fp cs
 |_=>.any
def fz(H:Hp)(S:List Nat)(x:AV):AV :=
 match x with
 | .own id _ _ _=>if id∈S then(match frz H 8 x with
   |some d=>if(vis H 8 x).all (λa=>decide (a∈S))then .d d else .any
   |none=>.any)else if(H id).isSome then x else .any
 | .ptr id _=>if id∈S then(match frz H 8 x with
   |some (.pt cs)=>if(vis H 8 x).all (λa=>decide (a∈S))then .fp cs else .any
   |_=>.any)else if(H id).isSome then x else .any
 |.fn f cs=>.fn f (cs.map (fzp H S))
 |.mp id=>if id∈S then .any else if(H id).isSome then x else .any
 |.kf _ id=>if id∈S then .any else if(H id).isSome then x else .any
 |.ag _=>.any
 |.tp _=>.any
 |x=>x
def fzs(H:Hp)(S:List Nat)(x:AV):AV :=
 match x with
 |.ag cs=>.ag (cs.map (fz H S))
 |x=>fz H S x
def fzm(H:Hp)(S:List Nat)(x:AV):AV :=
 match frz H 8 x with
 |some d=>if(vis H 8 x).all (λa=>decide (a∈S))then .d d else .any
 |none=>.any
def fzO(H:Hp)(S:List Nat):HO->HO
 |.cells e cs=>.cells e (cs.map (fz H S))
 |.map k es=>.map k (es.map λp=>(p.1,fzm H S p.2))
 |.iter k l es=>.iter k l es
def xB(S:List Nat)(σ:St):St:=⟨λt=>fzs σ.H S (σ.Γ t),λid=>if id∈S then none else(σ.H id).map (fzO σ.H S),σ.n⟩
def iP{S:List Nat}{σ:St}{id:Nat}:((xB S σ).H id).isSome=true↔id ∉ S/\(σ.H id).isSome=true:=by simp only[xB];by_cases h:id∈S<;>simp[h]
def iJ{S:List Nat}{σ:St}(x:AV):mY σ.H (xB S σ).H (λi=>i) x (fz σ.H S x):=by
 have key:∀(x:AV) (d:D),frz σ.H 8 x=some d->(vis σ.H 8 x).all (λa=>decide (a∈S))=true->mY σ.H (xB S σ).H (λi=>i) x (.d d):=by
  intro x d h1 h2;have:frz σ.H 8 x=some d/\∀a∈vis σ.H 8 x,∀id,((xB S σ).H id).isSome=true->id≠a:=by refine⟨h1,λa ha id hid e=>?_⟩;have h3:=A3.1 h2 a ha;simp only[BC]at h3;exact(iP.1 hid).1 (e ▸ h3)
  cases x<;>exact this
 have keyP:∀(x:AV) (d:D),frz σ.H 8 x=some d->(vis σ.H 8 x).all (λa=>decide (a∈S))=true->frz σ.H 8 x=some d/\∀a∈vis σ.H 8 x,∀id,((xB S σ).H id).isSome=true->id≠a:=by intro x d h1 h2;refine⟨h1,λa ha id hid e=>?_⟩;have h3:=A3.1 h2 a ha;simp only[BC]at h3;exact(iP.1 hid).1 (e ▸ h3)
 have keyQ:∀(x:AV),bVg σ.H (xB S σ).H (λi=>i) x (fzp σ.H S x):=by
  intro x;cases x with
  | ptr id off =>
   simp only[fzp];split
   ·split
    ·rename_i cs hd;split
     ·exact keyP (.ptr id off) _ hd (by assumption)
     ·trivial
    ·trivial
   ·split
    ·exact⟨rfl,rfl,iP.2 ⟨by assumption,by assumption⟩⟩
    ·trivial
  |d y=>exact keyP (.d y) y rfl rfl
  |fp cs=>exact keyP (.fp cs) _ rfl rfl
  |_=>trivial
 cases x with
 | own id off len sz =>
  simp only[fz];split
  ·split
   ·rename_i d hd;split
    ·exact key _ d hd (by assumption)
    ·trivial
   ·trivial
  ·split
   ·exact⟨rfl,rfl,rfl,rfl,iP.2 ⟨by assumption,by assumption⟩⟩
   ·trivial
 | ptr id off =>
  simp only[fz];split
  ·split
   ·rename_i cs hd;split
    ·exact keyP (.ptr id off) _ hd (by assumption)
    ·trivial
   ·trivial
  ·split
   ·exact⟨rfl,rfl,iP.2 ⟨by assumption,by assumption⟩⟩
   ·trivial
 | fn f cs =>
  refine⟨rfl,by simp,λk c d hc hd=>?_⟩;rw[Ag,hc]at hd;injection hd with hd;subst hd
  exact keyQ c
 | mp id =>
  simp only[fz];split
  ·trivial
  ·split
   ·exact⟨rfl,iP.2 ⟨by assumption,by assumption⟩⟩
   ·trivial
 | kf f id =>
  simp only[fz];split
  ·trivial
  ·split
   ·exact⟨rfl,rfl,iP.2 ⟨by assumption,by assumption⟩⟩
   ·trivial
 |ag cs=>trivial
 |tp cs=>trivial
 |d y=>exact key _ y rfl rfl
 |nil=>trivial
 |fp cs=>exact keyP (.fp cs) _ rfl rfl
 |fd els=>rfl
 |un=>trivial
 |ub=>trivial
 |any=>trivial
def bTi(S:List Nat)(σ:St)(htop:∀id,σ.n<=id->σ.H id=none):Wk σ (xB S σ) (λi=>i):=by
 refine⟨λid h=>?_,λt=>?_,λid o' h=>?_,λ_ _ _ _ h=>h,λ_=>rfl,λh=>h⟩
 ·simp only[xB]at h ⊢;rw[htop id h];simp
 ·show Sub σ.H (xB S σ).H (λi=>i) (σ.Γ t) (fzs σ.H S (σ.Γ t));generalize σ.Γ t=x;cases x with
  | ag cs =>
   refine⟨by simp,λk c d hc hd=>?_⟩;rw[Ag,hc]at hd;injection hd with hd;subst hd
   exact iJ c
  |d y=>exact iJ (S:=S) (σ:=σ) (.d y)
  |nil=>exact iJ (S:=S) (σ:=σ) .nil
  |un=>exact iJ (S:=S) (σ:=σ) .un
  |ub=>exact iJ (S:=S) (σ:=σ) .ub
  |any=>exact iJ (S:=S) (σ:=σ) .any
  |fp cs=>exact iJ (S:=S) (σ:=σ) (.fp cs)
  |fn f cs=>exact iJ (S:=S) (σ:=σ) (.fn f cs)
  |fd els=>exact iJ (S:=S) (σ:=σ) (.fd els)
  |tp cs=>exact iJ (S:=S) (σ:=σ) (.tp cs)
  | own id off len sz =>
   have h:=iJ (S:=S) (σ:=σ) (.own id off len sz);simp only[fzs];generalize fz σ.H S (.own id off len sz)=y at h;cases y<;>exact h
  | ptr id off =>
   have h:=iJ (S:=S) (σ:=σ) (.ptr id off);simp only[fzs];generalize fz σ.H S (.ptr id off)=y at h;cases y<;>exact h
  | mp id =>
   have h:=iJ (S:=S) (σ:=σ) (.mp id);simp only[fzs];generalize fz σ.H S (.mp id)=y at h;cases y<;>exact h
  | kf f id =>
   have h:=iJ (S:=S) (σ:=σ) (.kf f id);simp only[fzs];generalize fz σ.H S (.kf f id)=y at h;cases y<;>exact h
 ·simp only[xB]at h;split at h
  ·cases h
  ·obtain⟨o,ho,rfl⟩:=Af.1 h;refine⟨o,ho,?_⟩;cases o with
   |iter k l es=>exact⟨rfl,rfl,rfl⟩
   | cells e cs =>
    refine⟨rfl,by simp,λk c d hc hd=>?_⟩;rw[Ag,hc]at hd;injection hd with hd;subst hd
    exact iJ c
   | map k es =>
    refine⟨rfl,by simp,λj x y hx hy=>?_⟩;rw[Ag,hx]at hy;injection hy with hy;subst hy
    refine⟨rfl,?_⟩;simp only[fzm];split
    ·rename_i d hd;split
     ·rename_i hv;have:frz σ.H 8 x.2=some d/\∀a∈vis σ.H 8 x.2,∀id,((xB S σ).H id).isSome=true->id≠a:=by refine⟨hd,λa ha id hid e=>?_⟩;have h3:=A3.1 hv a ha;simp only[BC]at h3;exact(iP.1 hid).1 (e ▸ h3)
      generalize x.2=z at this;cases z<;>exact .inl this
     ·generalize x.2=z;cases z<;>exact .inl trivial
    ·generalize x.2=z;cases z<;>exact .inl trivial
def iter(body:St->Option (Exit×St)):Nat->St->Option (Exit×St)
 |0,_=>none
 | n+1,σ=>match body σ with
  |some (.normal,σ')=>iter body n σ'
  |r=>r
def ex(P:Program)(E:Kn)(fuel:Nat):Code->St->Option (Exit×St)
 |.skip,σ=>some (.normal,σ)
 | .region _ ops _,σ=>match OE P E ops ops.toList σ []with
  | some (σ',con)=>match con.filter (λi=>decide (i<σ.n))with
   |[]=>some (.normal,fin σ' con)
   | i::S=>match OE P E ops ops.toList (xB (i::S) σ) []with
    |some (σ2,con2)=>some (.normal,fin σ2 con2)
    |none=>some (.normal,fin σ' con)
  |none=>none
 | .seq x y,σ=>match ex P E fuel x σ with
  |some (.normal,σ')=>ex P E fuel y σ'
  |r=>r
 | .cond c x y,σ=>match oev σ.Γ c with
  |.d (.b true)=>ex P E fuel x σ
  |.d (.b false)=>ex P E fuel y σ
  |_=>none
 | .block id c,σ=>match ex P E fuel c σ with
  |some (.exit id',σ')=>if id'=id then some (.normal,σ')else some (.exit id',σ')
  |r=>r
 |.loop c,σ=>iter (ex P E fuel c) fuel σ
 |.exit id,σ=>some (.exit id,σ)
 |.ret,σ=>some (.ret,σ)
 |.label _,σ=>some (.normal,σ)
 | .scope c,σ=>match ex P E fuel c σ with
  |some (.goto _,_)=>none
  |r=>r
 |_,_=>none
section
variable {P:Program} [M:Mch P] {G:Ctx} {N:Nat} {ds:List Deferred} {E:Kn}
def bAa{rd:Bool}{WW:Code->(Exit->Act->World->Prop)->Act->World->Prop}(hW:WpR P rd WW)(hE:aKc P E)(hm:P.follows .mixedOrders=true){z:Nat->Bool}(hz:∀d v,G.Z d=some v->z d=true)(fuel:Nat) :
  ∀(c:Code) (σ:St) (a:Act) (w:World) (e:Exit) (σ':St),bN N c=true->bQ P c=true->fR z c=true->(rd=true->gH c=true)->ex P E fuel c σ=some (e,σ')->SR G N ds σ a w ->
  WW c (λe' a' w'=>e'=e/\SR G N ds σ' a' w') a w:=by
 intro c
 induction c with
 |skip=>intro σ a w e σ' _ _ _ _ h hs;simp only[ex,Ax,GC]at h;obtain⟨rfl,rfl⟩:=h;exact hW.skip ⟨rfl,hs⟩
 | region id ops draw =>
  intro σ a w e σ' hd hl hnz hnd h hs
  have one:∀(σ0 σ1:St) (con:List Nat),OE P E ops ops.toList σ0 []=some (σ1,con)->SR G N ds σ0 a w->WW (.region id ops draw) (λe' a' w'=>e'=.normal/\SR G N ds (fin σ1 con) a' w') a w:=by intro σ0 σ1 con hp hs0;refine uC hW (Q:=λs=>s=fin σ1 con) hm (uH hz hd hnz) hnd (λhdr=>by simpa[bQ,hdr]using hl) hs0 (aDm hE _ _ _ _ hp rfl) ?_;rintro σ' a' w' rfl hs';exact⟨rfl,hs'⟩
  simp only[ex]at h
  split at h
  ·rename_i σ1 con hp
   split at h
   ·injection h with h;injection h with h1 h2;subst h1;subst h2
    exact one σ σ1 con hp hs
   ·rename_i i S hS
    split at h
    ·rename_i σ2 con2 hp2
     injection h with h;injection h with h1 h2;subst h1;subst h2
     exact one _ σ2 con2 hp2 (vY (bTi (i::S) σ hs.1) hs)
    ·injection h with h;injection h with h1 h2;subst h1;subst h2
     exact one σ σ1 con hp hs
  ·cases h
 | seq x y ihx ihy =>
  intro σ a w e σ' hd hl hnz hnd h hs
  simp only[bN,bQ,fR,gH,A8]at hd hl hnz hnd
  simp only[ex]at h
  split at h
  ·rename_i σ1 h1
   refine hW.seq (hW.mono (ihx σ a w _ _ hd.1 hl.1 hnz.1 (λe=>(hnd e).1) h1 hs) ?_)
   rintro e' a' w' ⟨rfl,hs'⟩
   exact ihy _ a' w' _ _ hd.2 hl.2 hnz.2 (λe=>(hnd e).2) h hs'
  ·rename_i hne
   refine hW.seq (hW.mono (ihx σ a w _ _ hd.1 hl.1 hnz.1 (λe=>(hnd e).1) h hs) ?_)
   rintro e' a' w' ⟨rfl,hs'⟩
   cases e' with
   |normal=>exact(hne _ h).elim
   |_=>exact⟨rfl,hs'⟩
 | cond c x y ihx ihy =>
  intro σ a w e σ' hd hl hnz hnd h hs
  simp only[bN,bQ,fR,gH,A8]at hd hl hnz hnd
  have hc:∀t,oev σ.Γ c=.d (.b t)->a.eval c=.bool t:=by
   intro t ht;obtain⟨_,_,_,F,ι,_,_,hV,_⟩:=hs;have:=cH (Γ:=σ.Γ) (a:=a) (x:=c) (F:=F) (w:=w) (ι:=ι) λt _=>hV t
   rw[ht]at this;generalize a.eval c=v at this;cases this with|d _ _ h=>cases h;rfl
  simp only[ex]at h
  split at h
  ·rename_i ht;exact hW.cond (hc _ ht) (ihx σ a w _ _ hd.1 hl.1 hnz.1 (λe=>(hnd e).1) h hs)
  ·rename_i ht;exact hW.cond (hc _ ht) (ihy σ a w _ _ hd.2 hl.2 hnz.2 (λe=>(hnd e).2) h hs)
  ·cases h
 | block id c ih =>
  intro σ a w e σ' hd hl hnz hnd h hs
  simp only[ex]at h
  split at h
  ·rename_i id' σ1 h1
   refine hW.block (hW.mono (ih σ a w _ _ hd hl hnz hnd h1 hs) ?_)
   rintro e' a' w' ⟨rfl,hs'⟩
   simp only[DQ]
   split at h
   ·rename_i he;injection h with h;injection h with h1 h2;subst h1;subst h2;rw[Aq he];exact⟨rfl,hs'⟩
   ·rename_i he;injection h with h;injection h with h1 h2;subst h1;subst h2;rw[Ai he];exact⟨rfl,hs'⟩
  ·rename_i hne
   refine hW.block (hW.mono (ih σ a w _ _ hd hl hnz hnd h hs) ?_)
   rintro e' a' w' ⟨rfl,hs'⟩
   cases e' with
   |exit id'=>exact(hne _ _ h).elim
   |_=>exact⟨rfl,hs'⟩
 | loop c ih =>
  intro σ a w e σ' hd hl hnz hnd h hs
  simp only[ex]at h
  refine hW.loop (λn a w=>∃σ,iter (ex P E fuel c) n σ=some (e,σ')/\SR G N ds σ a w) ⟨fuel,σ,h,hs⟩ ?_
  rintro n a w ⟨σ1,h1,hs1⟩
  cases n with
  |zero=>cases h1
  | succ n =>
   simp only[iter]at h1
   split at h1
   ·rename_i σ2 h2
    refine hW.mono (ih σ1 a w _ _ hd hl hnz hnd h2 hs1) ?_
    rintro e' a' w' ⟨rfl,hs'⟩
    exact⟨n,Ck n,_,h1,hs'⟩
   ·rename_i hne
    refine hW.mono (ih σ1 a w _ _ hd hl hnz hnd h1 hs1) ?_
    rintro e' a' w' ⟨rfl,hs'⟩
    cases e' with
    |normal=>exact(hne _ h1).elim
    |_=>exact⟨rfl,hs'⟩
 |exit id=>intro σ a w e σ' _ _ _ _ h hs;simp only[ex,Ax,GC]at h;obtain⟨rfl,rfl⟩:=h;exact hW.exit ⟨rfl,hs⟩
 |ret=>intro σ a w e σ' _ _ _ _ h hs;simp only[ex,Ax,GC]at h;obtain⟨rfl,rfl⟩:=h;exact hW.ret ⟨rfl,hs⟩
 |label l=>intro σ a w e σ' _ _ _ _ h hs;simp only[ex,Ax,GC]at h;obtain⟨rfl,rfl⟩:=h;exact hW.label ⟨rfl,hs⟩
 | scope c ih =>
  intro σ a w e σ' hd hl hnz hnd h hs
  simp only[ex]at h
  split at h
  ·cases h
  ·rename_i hne
   have hrd:rd=false:=by
    cases rd with
    |false=>rfl
    |true=>exact absurd (hnd rfl) (by simp[gH])
   refine hW.scope hrd (hW.mono (ih σ a w _ _ hd hl hnz (λe=>by rw[hrd]at e;cases e) h hs) ?_)
   rintro e' a' w' ⟨rfl,hs'⟩
   cases e' with
   |goto l=>exact(hne _ _ h).elim
   |_=>exact⟨rfl,hs'⟩
 |_=>intro σ a w e σ' _ _ _ _ h;cases h
def aCg(hE:aKc P E)(hm:P.follows .mixedOrders=true)(hZ:∀d,G.Z d=none)(fuel:Nat)(c:Code)(σ:St)(a:Act)(w:World)(e:Exit)(σ':St)(hd:bN N c=true)(hl:bQ P c=true)(h:ex P E fuel c σ=some (e,σ'))(hs:SR G N ds σ a w) :
  WC P c (λe' a' w'=>e'=e/\SR G N ds σ' a' w') a w :=
 bAa (WpR.plain P) hE hm (z:=λ_=>false) (λd v e=>by rw[hZ]at e;cases e) fuel c σ a w e σ' hd hl (vP c) (λe=>by cases e) h hs
end
def aZv (P:Program) (fn:Func) (c:Code):Bool:=bN fn.ntmps c && bQ P c && !(fn.name == "runtime.NumGoroutine")
def aQg {P:Program} [M:Mch P] {f N:Nat} {fn:Func} {c:Code} {args:List D} {r:D} {e:Exit} {σ:St} (hf:P.funcs[f]? = some fn) (hb:fn.body=some c) (hname:(fn.name == "runtime.NumGoroutine")=false) (hN:fn.ntmps=N)
  (ha:args.length<=N) (h:∀(G:Ctx) (a:Act) (w:World),(∀d,G.Z d=none)->SR G N [] (St0 args N) a w->WC P c (λe' a' w'=>e'=e/\SR G N [] σ a' w') a w) (he:e=.normal\/e=.ret) (hr:jA P fn.results.toList σ=some r):Spec P f args r:=by
 intro A W vs hA hl hv
 have hn:¬ fn.name = "runtime.NumGoroutine" := by simpa using hname
 refine⟨λw=>by simp[callFunc,hf,hn,hb],?_⟩
 refine gF hf hb ?_
 subst hN
 refine(WpR.plain P).okv λhok=>cC (h _ _ _ (λ_=>rfl) (SR0 hok hA hl hv ha)) ?_
 rintro e' a w ⟨rfl,hs⟩
 have hend:a.defers=[]/\∀v1,Env w v1->∃x,aK P (results fn a.tmps) v1=.ok x v1/\Below W.heap.size W v1/\VD (λb=>A b\/(W.heap.size<=b/\b<v1.heap.size)) v1 r x:=by
  refine⟨hs.2.2.2.elim λ_ h=>h.elim λ_ h=>h.2.2.2.2.1,λv1 he=>?_⟩;have hs1:=hs.env he;obtain⟨v,hrun,hvd⟩:=eB hs1 hr;obtain⟨_,_,_,F,ι,hR,_,_,_,hdf,_⟩:=hs1;refine⟨v,hrun,⟨hR.kept.os,hR.kept.tape,hR.kept.output,hR.kept.size,λk hk=>hR.kept.block k hk (λh=>h)⟩,hvd.mono ?_⟩;rintro b (h|h|h)
  ·exact .inl h
  ·exact h.elim
  ·exact .inr h
 rcases he with rfl|rfl<;>exact hend
def bTs(P:Program)(fn:Func):Option (Exit×St)->Option D
 |some (.normal,σ)=>jA P fn.results.toList σ
 |some (.ret,σ)=>jA P fn.results.toList σ
 |_=>none
def bYg(P:Program)(E:Kn)(fuel:Nat)(f:FuncId)(args:List D):Option D :=
 match P.funcs[f]? with
 |none=>none
 | some fn=>match fn.body with
  |none=>none
  |some c=>if aZv P fn c&&decide (args.length<=fn.ntmps)then bTs P fn (ex P E fuel c (St0 args fn.ntmps))else none
def bFa(P:Program)(E:Kn)(fuel:Nat)(f:FuncId)(h:AV)(o:HO)(args:List D):Option (HO×D) :=
 match P.funcs[f]? with
 |none=>none
 | some fn=>match fn.body,o with
  | some c,.map _ _=>if aZv P fn c&&decide (args.length+1<=fn.ntmps)then match ex P E fuel c (St1 h o args fn.ntmps)with
   | some (e,σ)=>match σ.H 0,bTs P fn (some (e,σ))with
    |some (.map k es),some r=>if kE (.map k es)&&nmB 8 r then some (.map k es,r)else none
    |_,_=>none
   |none=>none
   else none
  |_,_=>none
def xE{P:Program}{fn:Func}{e:Exit}{σ:St}{r:D}(h:bTs P fn (some (e,σ))=some r):(e=.normal\/e=.ret)/\jA P fn.results.toList σ=some r:=by cases e<;>first|exact⟨.inl rfl,h⟩|exact⟨.inr rfl,h⟩|cases h
def aQs{P:Program}[M:Mch P]{E:Kn}{fuel:Nat}(hm:P.follows .mixedOrders=true)(hE:aKc P E){f:FuncId}{args:List D}{r:D}(h:bYg P E fuel f args=some r):Spec P f args r:=by
 unfold bYg at h;split at h
 ·cases h
 rename_i fn hfn;split at h
 ·cases h
 rename_i c hc;split at h
 case isFalse=>cases h
 rename_i hok;simp only[aZv,A8,C8,BC]at hok;obtain⟨⟨⟨h1,h2⟩,h3⟩,h4⟩:=hok;cases hex:ex P E fuel c (St0 args fn.ntmps)with
 |none=>rw[hex]at h;cases h
 | some p =>
  obtain⟨e,σ⟩:=p;rw[hex]at h;obtain⟨he,hr⟩:=xE h;exact aQg hfn hc h3 rfl h4 (λG a w hZ hs=>aCg hE hm hZ fuel c _ a w _ _ h1 h2 hex hs) he hr
def aLg{P:Program}[M:Mch P]{E:Kn}{fuel:Nat}(hm:P.follows .mixedOrders=true)(hE:aKc P E){f:FuncId}{h0:AV}{o o':HO}{args:List D}{r:D}(h:bFa P E fuel f h0 o args=some (o',r)):kL P f h0 o args o' r:=by
 unfold bFa at h;split at h
 ·cases h
 rename_i fn hfn;split at h
 case h_2=>cases h
 rename_i c kd es hc;split at h
 case isFalse=>cases h
 rename_i hok;simp only[aZv,A8,C8,BC]at hok;obtain⟨⟨⟨h1,h2⟩,h3⟩,h4⟩:=hok;split at h
 case h_2=>cases h
 rename_i e σ hex;split at h
 case h_2=>cases h
 rename_i k1 es1 r1 hH hr;split at h
 case isFalse=>cases h
 rename_i hfl;rw[A8]at hfl;obtain⟨hfl,hnm⟩:=hfl;injection h with h;injection h with e1 e2;subst e1;subst e2
 have hr2:=xE hr;obtain⟨he,hr3⟩:=hr2;refine bFz hfn hc h3 rfl h4 ⟨_,_,rfl⟩ ⟨_,_,rfl⟩ hfl (aIo _ _ hnm) λG a w hZ hs=>cC (aCg hE hm hZ fuel c _ a w _ _ h1 h2 hex hs) ?_
 rintro e' a' w' ⟨rfl,hs'⟩;exact⟨σ,⟨he,hr3,hH⟩,hs'⟩
end Go.Am
end
section
open List renaming map_map->C,mapM_map->L
namespace Go.Am
variable {P:Program} [M:Mch P]
@[congr]def cBi{c:Code}{σ σ':St}{Q:Exit->St->Prop}(h:σ=σ'):AWP P c σ Q=AWP P c σ' Q:=by rw[h]
def aOq(σ:St)(Q:Exit->St->Prop):AWP P .skip σ Q=Q .normal σ:=rfl
def aWe(x y:Code)(σ:St)(Q:Exit->St->Prop):AWP P (.seq x y) σ Q=AWP P x σ λe σ'=>match e with|.normal=>AWP P y σ' Q|e=>Q e σ':=rfl
def aGs(id:Nat)(c:Code)(σ:St)(Q:Exit->St->Prop):AWP P (.block id c) σ Q=AWP P c σ λe σ'=>match e with|.exit id'=>if id'=id then Q .normal σ' else Q (.exit id') σ'|e=>Q e σ':=rfl
def aOr(id:Nat)(σ:St)(Q:Exit->St->Prop):AWP P (.exit id) σ Q=Q (.exit id) σ:=rfl
def aWf(σ:St)(Q:Exit->St->Prop):AWP P .ret σ Q=Q .ret σ:=rfl
def aGq(l:Nat)(σ:St)(Q:Exit->St->Prop):AWP P (.label l) σ Q=Q .normal σ:=rfl
def aGo(c:Code)(σ:St)(Q:Exit->St->Prop):AWP P (.scope c) σ Q=AWP P c σ λe σ'=>match e with|.goto _=>False|e=>Q e σ':=rfl
def IfA(t:Bool)(A B:Prop):Prop:=if t then A else B
@[congr]def cBh{t t':Bool}{A B:Prop}(h:t=t'):IfA t A B=IfA t' A B:=by rw[h]
def bWl(P:Program)[M:Mch P](f:FuncId)(avs:List AV)(H:Hp)(k:D->Prop):Prop:=∃ds r,cI H avs=some ds/\Spec P f ds r/\k r
@[congr]def bWf{f:FuncId}{avs avs':List AV}{H H':Hp}{k:D->Prop}(h:avs=avs')(h2:H=H'):bWl P f avs H k=bWl P f avs' H' k:=by rw[h,h2]
def uY(H:Hp)(n id off len sz:Nat):frz H (n+1) (.own id off len sz)=match H id with
  |some (.cells _ cs)=>if(off+len)*sz<=cs.length/\0<sz then(((cs.drop (off*sz)).take (len*sz)).mapM (frz H n)).map λl=>.sl (chunk sz len l)else none
  |_=>none:=rfl
def cAh(H:Hp)(n:Nat)(els:List (List D)):frz H (n+1) (.fd els)=some (.sl els):=rfl
def bTe(H:Hp)(n:Nat):frz H (n+1) .nil=some (.sl []):=rfl
def aGd(H:Hp)(n:Nat)(x:D):frz H (n+1) (.d x)=some x:=rfl
def aEv(l:List Nat)(ds:List D):(ds.map AV.d).map (dY l)=ds.map AV.d:=by simp[dY,Function.comp_def]
def aBi(H:Hp)(n:Nat):∀(ds:List D),(ds.map AV.d).mapM (frz H (n+1))=some ds
 |[]=>rfl
 |d::ds=>by rw[BO,Cp,aBi H n ds,aGd];rfl
def aKk:∀(n:Nat) (x:AV),vis (λ_=>none) n x=[]
 |0,_=>rfl
 | n+1,x=>by have ih:=aKk n;cases x<;>simp[vis,ih]
def aRt(avs:List AV)(r:D):aZ (λ_=>none) avs r=[]:=by
 unfold aZ bV;split
 ·rfl
 ·simp[aKk]
end Go.Am
end
section
open List renaming map_map->C,mapM_map->L
namespace Go.Am
def gK:List (Nat×AV)->Nat->AV
 |[]=>λ_=>.any
 |p::l=>upd (gK l) p.1 p.2
def yT:Nat->List HO->Hp
 |_,[]=>λ_=>none
 |i,o::os=>upd (yT (i+1) os) i (some o)
def bUv(o0:Option HO)(H:Hp):Hp:=match o0 with
 |none=>H
 |some o=>upd H 0 (some o)
def StL(sl:List (Nat×AV))(o0:Option HO)(hs:List HO):St:=⟨gK sl,bUv o0 (yT 1 hs),hs.length+1⟩
def qT:∀(hs:List HO) (i j:Nat),yT i hs j=if i<=j then hs[j-i]? else none
 |[],i,j=>by simp[yT]
 | o::os,i,j=>by
  unfold yT upd;by_cases h:j=i
  ·subst h;simp
  ·rw[Ai h,qT os (i+1) j];by_cases h1:i+1<=j
   ·rw[Aq h1,Aq (by omega),show j-i=(j-(i+1))+1 from by omega,BB]
   ·rw[Ai h1,Ai (by omega)]
def cBc(sl:List (Nat×AV))(o0:Option HO)(hs:List HO):(StL sl o0 hs).H 0=o0:=by
 unfold StL bUv;cases o0 with
 |none=>simp[qT]
 |some o=>rfl
def aTk(sl:List (Nat×AV))(o0:Option HO)(hs:List HO)(i:Nat):(StL sl o0 hs).H (i+1)=hs[i]? := by
 unfold StL bUv;cases o0 with
 |none=>simp[qT]
 |some o=>simp[upd,qT]
def tX:∀(l:List (Nat×AV)) (t:Nat),gK l t=.any\/∃p∈l,p.1=t/\gK l t=p.2
 |[],t=>.inl rfl
 | p::l,t=>by
  by_cases h:t=p.1
  ·exact .inr ⟨p,AI ..,h.symm,by simp[gK,upd,h]⟩
  ·have e:gK (p::l) t=gK l t:=by simp[gK,upd,h]
   rw[e];rcases tX l t with h|⟨q,hq,h⟩
   ·exact .inl h
   ·exact .inr ⟨q,AE _ hq,h⟩
def yO(rs:List Nat):Nat->Nat:=λid=>match id with|0=>0|i+1=>rs.getD i 0
def jR(H H':Hp)(ρ:Nat->Nat)(Γ:Nat->AV):List (Nat×AV)->Prop
 |[]=>True
 |p::l=>Sub H H' ρ (Γ p.1) p.2/\jR H H' ρ Γ l
def xH(H H':Hp)(ρ:Nat->Nat):List Nat->List HO->Prop
 |[],[]=>True
 |r::rs,o::os=>(∃o0,H r=some o0/\nO H H' ρ o0 o)/\xH H H' ρ rs os
 |_,_=>False
def lZ{H H':Hp}{ρ:Nat->Nat}{Γ:Nat->AV}:∀{l:List (Nat×AV)},jR H H' ρ Γ l->∀p∈l,Sub H H' ρ (Γ p.1) p.2
 | p::l,h,q,hq=>by
  rcases Bn.1 hq with rfl|hq
  ·exact h.1
  ·exact lZ h.2 q hq
def aCz{H H':Hp}{ρ:Nat->Nat}:∀{rs:List Nat} {os:List HO},xH H H' ρ rs os->rs.length=os.length/\∀(i:Nat) o,os[i]? = some o->∃o0,H (rs.getD i 0)=some o0/\nO H H' ρ o0 o
 |[],[],_=>⟨rfl,λi o h=>by simp at h⟩
 | r::rs,o::os,h=>by
  obtain⟨h1,h2⟩:=h;obtain⟨q1,q2⟩:=aCz h2;refine⟨by simp[q1],λi o' hi=>?_⟩;rcases i with _|i
  ·simp at hi;subst hi;simpa using h1
  ·simpa using q2 i o' (by simpa using hi)
 |[],_::_,h=>h.elim
 |_::_,[],h=>h.elim
def zP{l:List Nat}{i:Nat}(h:i<l.length):l.getD i 0=l[i]:=by rw[Ac,Ab h];rfl
def rF{H H':Hp}{ρ:Nat->Nat}(x:AV):Sub H H' ρ x .any:=by cases x<;>trivial
def aTr{σ:St}{sl:List (Nat×AV)}{o0:Option HO}{hs:List HO}(rs:List Nat)(hnd:(0::rs).Nodup)
  (hslot:jR σ.H (StL sl o0 hs).H (yO rs) σ.Γ sl) (h0:∀o',o0=some o'->∃o,σ.H 0=some o/\nO σ.H (StL sl o0 hs).H (yO rs) o o')
  (hblk:xH σ.H (StL sl o0 hs).H (yO rs) rs hs):Wk σ (StL sl o0 hs) (yO rs):=by
 obtain⟨hlen,hget⟩:=aCz hblk
 have hlt:∀i,(((StL sl o0 hs).H (i+1)).isSome=true)->i<rs.length:=λi h=>by
  rw[hlen];rw[aTk]at h;rcases A4 i hs.length with h'|h'
  ·exact h'
  ·rw[AW h']at h;cases h
 have hno:∀i,i<rs.length->rs.getD i 0≠0:=λi hi h=>by have:rs[i]∈rs:=Bz hi;rw[zP hi]at h;rw[h]at this;exact(Df.1 hnd).1 this
 refine⟨λid h=>?_,λt=>?_,λid o' h=>?_,λid id' h h' e=>?_,λ_=>rfl,λh=>by simp[StL]at h⟩
 ·cases id with
  |zero=>simp[StL]at h
  |succ i=>rw[aTk];simp only[StL]at h;exact AW (by omega)
 ·show Sub _ _ _ _ (gK sl t)
  rcases tX sl t with h|⟨p,hp,rfl,h⟩
  ·rw[h];exact rF _
  ·rw[h];exact lZ hslot _ hp
 ·cases id with
  |zero=>rw[cBc]at h;exact h0 o' h
  |succ i=>rw[aTk]at h;exact hget i o' h
 ·cases id with
  | zero=>cases id' with
   |zero=>rfl
   |succ j=>exact absurd e.symm (hno j (hlt j h'))
  | succ i=>cases id' with
   |zero=>exact absurd e (hno i (hlt i h))
   | succ j =>
    have hi:=hlt i h
    have hj:=hlt j h'
    simp only[yO]at e
    rw[zP hi,zP hj]at e
    have:=(List.getElem_inj (Df.1 hnd).2).1 e
    rw[this]
def cEg{σ:St}{sl:List (Nat×AV)}{hs:List HO}(rs:List Nat)(hnd:(0::rs).Nodup)
  (hslot:jR σ.H (StL sl none hs).H (yO rs) σ.Γ sl) (hblk:xH σ.H (StL sl none hs).H (yO rs) rs hs):∃ρ,Wk σ (StL sl none hs) ρ :=
 ⟨_,aTr rs hnd hslot (λ_ h=>by cases h) hblk⟩
def wkQ{σ:St}{sl:List (Nat×AV)}{hs:List HO}(rs:List Nat)(hslot:jR σ.H (StL sl none hs).H (yO rs) σ.Γ sl)(hblk:xH σ.H (StL sl none hs).H (yO rs) rs hs)(hnd:(0::rs).Nodup:=by simp):∃ρ,Wk σ (StL sl none hs) ρ:=cEg rs hnd hslot hblk
def nB{H H':Hp}{ρ:Nat->Nat}(e:TypeId)(l:List D):nO H H' ρ (.cells e (l.map .d)) (.cells e (l.map .d)):=by
 refine⟨rfl,rfl,λk c d h1 h2=>?_⟩;rw[h1]at h2;injection h2 with h2;subst h2
 rw[Ag]at h1;obtain⟨x,_,rfl⟩:=Af.1 h1;exact⟨rfl,λa ha=>by simp[vis]at ha⟩
def aPz{H H':Hp}{ρ:Nat->Nat}{e:TypeId}{l:List D}{c c':List AV}(h:c=l.map .d)(h':c'=l.map .d):nO H H' ρ (.cells e c) (.cells e c'):=by subst h;subst h';exact nB e l
def cBw{H H':Hp}{ρ:Nat->Nat}(x:D):Sub H H' ρ (.d x) (.d x):=⟨rfl,λa ha=>by simp[vis]at ha⟩
def bXr{H H':Hp}{ρ:Nat->Nat}{x y:D}(h:x=y):Sub H H' ρ (.d x) (.d y):=h ▸ cBw x
def aEs{H H':Hp}{ρ:Nat->Nat}(x y:D):Sub H H' ρ (.d x) (.d y)↔x=y:=by
 constructor
 ·intro h;have:frz H 8 (.d x)=some y:=h.1;rw[aGd]at this;injection this
 ·exact bXr
def aKs{H H':Hp}{ρ:Nat->Nat}{a o l s b o' l' s':Nat}:Sub H H' ρ (.own a o l s) (.own b o' l' s')↔(a=ρ b/\o=o'/\l=l'/\s=s'/\(H' b).isSome=true):=Iff.rfl
def aKr{H H':Hp}{ρ:Nat->Nat}{a o b o':Nat}:Sub H H' ρ (.ptr a o) (.ptr b o')↔(a=ρ b/\o=o'/\(H' b).isSome=true):=Iff.rfl
def aPy{H H':Hp}{ρ:Nat->Nat}{a b:Nat}:Sub H H' ρ (.mp a) (.mp b)↔(a=ρ b/\(H' b).isSome=true):=Iff.rfl
def bOj{H H':Hp}{ρ:Nat->Nat}:Sub H H' ρ .nil .nil↔True:=Iff.rfl
def bXq{H H':Hp}{ρ:Nat->Nat}:Sub H H' ρ .un .un↔True:=Iff.rfl
def aTz{H H':Hp}{ρ:Nat->Nat}{x:AV}{y:D}(h:frz H 8 x=some y)(hv:∀a∈vis H 8 x,∀id,(H' id).isSome=true->ρ id≠a):Sub H H' ρ x (.d y):=by
 have h2:mY H H' ρ x (.d y):=by cases x<;>exact⟨h,hv⟩
 cases x<;>exact h2
def eQ(l:List D)(off:Nat)(x:D)(h:off<l.length):lay (l.map AV.d) off [.d x]=(l.set off x).map .d:=by
 have h1:off+[AV.d x].length<=(l.map AV.d).length:=by rw[List.length_map];exact h
 apply CH;intro k;rw[zK h1,Ag,Ag,List.getElem?_set];by_cases e:off=k
 ·subst e;simp[h]
 ·rw[Ai e,Ai];simp only[List.length_singleton];omega
def kZ(l:List D)(n:Nat)(h:n=l.length):chunk 1 n l=l.map λx=>[x]:=by
 subst h;unfold chunk;apply CH;intro k;by_cases hk:k<l.length
 ·simp only[Ag,List.getElem?_range hk,AU,Dj,Ab hk];congr 1;rw[List.drop_eq_getElem_cons hk];rfl
 ·rw[AW (by simpa using hk),AW (by simpa using hk)]
def bFh(n:Nat)(x:D):(Av n [AV.d x]).flatten=(Av n x).map .d:=by
 induction n with
 |zero=>rfl
 |succ n ih=>simp only[Cz,List.flatten_cons,ih];rfl
def cAj(H:Hp)(n:Nat)(cs:List AV):frz H (n+1) (.ag cs)=(cs.mapM (frz H n)).map .ag:=rfl
def fJ(H H':Hp)(ρ:Nat->Nat):List AV->List AV->Prop
 |[],[]=>True
 |c::cs,d::ds=>mY H H' ρ c d/\fJ H H' ρ cs ds
 |_,_=>False
def dO{H H':Hp}{ρ:Nat->Nat}:∀{cs ds:List AV},fJ H H' ρ cs ds↔(cs.length=ds.length/\∀(k:Nat) c d,cs[k]? = some c->ds[k]? = some d->mY H H' ρ c d)
 |[],[]=>by simp[fJ]
 | c::cs,d::ds=>by
  rw[fJ,dO];constructor
  ·rintro⟨h1,h2,h3⟩;refine⟨by simp[h2],λk a b ha hb=>?_⟩;rcases k with _|k
   ·simp at ha hb;subst ha;subst hb;exact h1
   ·exact h3 k a b (by simpa using ha) (by simpa using hb)
  ·rintro⟨h1,h2⟩;exact⟨h2 0 c d rfl rfl,by simpa using h1,λk a b ha hb=>h2 (k+1) a b (by simpa using ha) (by simpa using hb)⟩
 |[],_::_=>by simp[fJ]
 |_::_,[]=>by simp[fJ]
def dS{H H':Hp}{ρ:Nat->Nat}{e e':TypeId}{cs ds:List AV}:nO H H' ρ (.cells e cs) (.cells e' ds)↔(e=e'/\fJ H H' ρ cs ds):=by rw[dO];rfl
def lF{H H':Hp}{ρ:Nat->Nat}(x y:D):mY H H' ρ (.d x) (.d y)↔x=y:=aEs x y
def bDf{H H':Hp}{ρ:Nat->Nat}:mY H H' ρ .nil .nil↔True:=Iff.rfl
def bOl{H H':Hp}{ρ:Nat->Nat}:mY H H' ρ .un .un↔True:=Iff.rfl
def aJu{H H':Hp}{ρ:Nat->Nat}{c c':List AV}{l:List D}(h:c=l.map .d)(h':c'=l.map .d):fJ H H' ρ c c':=by have:=aPz (H:=H) (H':=H') (ρ:=ρ) (e:=0) h h';exact(dS.1 this).2
def aOf{H H':Hp}{ρ:Nat->Nat}{l l':List D}:fJ H H' ρ (l.map .d) (l'.map .d)↔l=l':=by
 constructor
 ·intro h;obtain⟨h1,h2⟩:=dO.1 h;apply CH;intro k;by_cases hk:k<l.length
  ·have hk':k<l'.length:=by simpa using(by simpa using h1:l.length=l'.length) ▸ hk
   have:=h2 k (.d l[k]) (.d l'[k]) (by simp[hk]) (by simp[hk']);rw[lF]at this;rw[Ab hk,Ab hk',this]
  ·have hl:l.length=l'.length:=by simpa using h1
   have hk':¬k<l'.length:=by omega
   rw[AW (by omega),AW (by omega)]
 ·rintro rfl;exact aJu rfl rfl
def bDe{H H':Hp}{ρ:Nat->Nat}{k:IntKind}{es:List (Int×AV)}(h:∀x∈es,Sub H H' ρ x.2 x.2):nO H H' ρ (.map k es) (.map k es):=by
 refine⟨rfl,rfl,λj x y hx hy=>?_⟩;rw[hx]at hy;injection hy with hy;subst hy
 exact⟨rfl,.inr (h x (Aj hx))⟩
def aJt{H H':Hp}{ρ:Nat->Nat}{l:List D}{c c':List AV}:fJ H H' ρ (l.map .d++c) (l.map .d++c')↔fJ H H' ρ c c':=by
 induction l with
 |nil=>rfl
 |cons x l ih=>simp only[BO,Co,fJ,ih,lF,true_and]
end Go.Am
end
section
open List renaming map_map->C,mapM_map->L
namespace Go.Am
variable {P:Program} [M:Mch P]
inductive Dm{α:Sort _}(a:α):Type where
 |mk
def cL{α:Type}(x:Option α)(k:α->Prop)(_:Dm k):Prop:=match x with|some a=>k a|none=>False
def aTb{α:Type}(a:α)(k:α->Prop)(d:Dm k):cL (some a) k d=k a:=rfl
def IfD(t:Bool)(A B:Prop)(_:Dm (A,B)):Prop:=if t then A else B
def bIk(A B:Prop)(d:Dm (A,B)):IfD true A B d=A:=rfl
def aZq(A B:Prop)(d:Dm (A,B)):IfD false A B d=B:=by simp[IfD]
def OWd(P:Program)[M:Mch P](ops:Array Oper)(l:List Oper)(σ:St)(con:List Nat)(k:St->List Nat->Prop)(_:Dm (ops,l,k)):Prop:=OW P ops l σ con k
def O1d(P:Program)[M:Mch P](o:Oper)(σ:St)(con:List Nat)(k:St->List Nat->Prop)(_:Dm (o,k)):Prop:=O1 P o σ con k
def aEk(σ:St)(con:List Nat)(k:St->Prop)(_:Dm k):Prop:=k (fin σ con)
def aT(σ:St)(k:St->Prop)(d:Dm k):aEk σ [] k d=k σ:=rfl
def aZx(σ:St)(c:Nat)(l:List Nat)(k:St->Prop)(d:Dm k):aEk σ (c::l) k d=k ⟨λt=>jK (c::l) (σ.Γ t),λid=>(σ.H id).map (fU (c::l)),σ.n⟩:=rfl
def bMp(P:Program)[M:Mch P](v:AV)(x y:Code)(σ:St)(Q:Exit->St->Prop)(_:Dm (x,y,Q)):Prop:=match v with|.d (.b t)=>IfD t (AWP P x σ Q) (AWP P y σ Q) .mk|.ub=>AWP P x σ Q/\AWP P y σ Q|_=>False
def bUl(t:Bool)(x y:Code)(σ:St)(Q:Exit->St->Prop)(d:Dm (x,y,Q)):bMp P (.d (.b t)) x y σ Q d=IfD t (AWP P x σ Q) (AWP P y σ Q) .mk:=rfl
def bKp(x y:Code)(σ:St)(Q:Exit->St->Prop)(d:Dm (x,y,Q)):bMp P .ub x y σ Q d=(AWP P x σ Q/\AWP P y σ Q):=rfl
def aGr(c:Operand)(x y:Code)(σ:St)(Q:Exit->St->Prop):AWP P (.cond c x y) σ Q=bMp P (oev σ.Γ c) x y σ Q .mk:=rfl
def yF(id:Nat)(l:List Oper)(draw:Bool)(σ:St)(Q:Exit->St->Prop):AWP P (.region id l.toArray draw) σ Q=OWd P l.toArray l σ [] (λσ' con=>aEk σ' con (Q .normal) .mk) .mk:=rfl
def aPc(P:Program)[M:Mch P](c:Code)(σ:St)(Q:Exit->St->Prop)(_:Dm (c,Q)):Prop:=AWP P (.loop c) σ Q
def aGp(c:Code)(σ:St)(Q:Exit->St->Prop):AWP P (.loop c) σ Q=aPc P c σ Q .mk:=rfl
def mH{τ:Type}{c:Code}{σ:St}{Q:Exit->St->Prop}{d:Dm (c,Q)}(S:τ->St)(m:τ->Nat)(x0:τ)(h0:∃ρ,Wk σ (S x0) ρ)
  (h:∀x,AWP P c (S x) λe σ'=>match e with|.normal=>∃y,m y<m x/\WkR σ' (S y)|e=>Q e σ'):aPc P c σ Q d:=aDa S m x0 (.inr h0) h
def LuP(P:Program)[M:Mch P](c:Code)(n:Nat)(σ:St)(Q:Exit->St->Prop)(_:Dm (c,Q)):Prop:=LU P c n σ Q
def aE(c:Code)(n:Nat)(σ:St)(Q:Exit->St->Prop)(d:Dm (c,Q)):LuP P c (n+1) σ Q d=AWP P c σ λe σ'=>match e with|.normal=>LuP P c n σ' Q .mk|e=>Q e σ':=rfl
def eD(n:Nat){c:Code}{σ:St}{Q:Exit->St->Prop}{d:Dm (c,Q)}(h:LuP P c n σ Q .mk):aPc P c σ Q d:=bRx h
def Nxt{τ:Type}(I:τ->Prop)(m:τ->Nat)(S:τ->St)(x:τ)(σ':St)(_:Dm (I,m,S,x)):Prop:=∃y,I y/\m y<m x/\WkR σ' (S y)
def aI{τ:Type}{I:τ->Prop}{m:τ->Nat}{S:τ->St}{x:τ}{σ':St}{d:Dm (I,m,S,x)}(y:τ)(h1:I y)(h2:m y<m x)(h3:∃ρ,Wk σ' (S y) ρ):Nxt I m S x σ' d:=⟨y,h1,h2,.inr h3⟩
def cB{τ:Type}{c:Code}{σ:St}{Q:Exit->St->Prop}{d:Dm (c,Q)}(I:τ->Prop)(S:τ->St)(m:τ->Nat)(x0:τ)(hI:I x0)(h0:∃ρ,Wk σ (S x0) ρ)
  (h:∀x,I x->AWP P c (S x) λe σ'=>match e with|.normal=>Nxt I m S x σ' .mk|e=>Q e σ'):aPc P c σ Q d:=by
 refine mH (τ:={ x:τ // I x }) (λx=>S x.1) (λx=>m x.1) ⟨x0,hI⟩ h0 λx=>?_
 refine cast (congrArg (AWP P c (S x.1)) ?_) (h x.1 x.2)
 funext e σ'
 cases e with
 |normal=>exact propext ⟨λ⟨y,h1,h2,h3⟩=>⟨⟨y,h1⟩,h2,h3⟩,λ⟨y,h2,h3⟩=>⟨y.1,y.2,h2,h3⟩⟩
 |_=>rfl
def ExP(Q:Exit->St->Prop)(e:Exit)(σ:St)(_:Dm Q):Prop:=∃σ2,WkR σ σ2/\Q e σ2
def aS{Q:Exit->St->Prop}{e:Exit}{σ:St}{d:Dm Q}(h:Q e σ):ExP Q e σ d:=⟨σ,.inl rfl,h⟩
def aY{τ:Type}{c:Code}{σ:St}{Q:Exit->St->Prop}{d:Dm (c,Q)}(I:τ->Prop)(S:τ->St)(m:τ->Nat)(x0:τ)(hI:I x0)(h0:∃ρ,Wk σ (S x0) ρ)
  (h:∀x,I x->AWP P c (S x) λe σ'=>match e with|.normal=>Nxt I m S x σ' .mk|e=>ExP Q e σ' .mk):aPc P c σ Q d:=by
 refine(⟨{ x:τ // I x },λx=>S x.1,λx=>m x.1,⟨x0,hI⟩,.inr h0,λx=>?_⟩:AWP P (.loop c) σ Q)
 refine fL c (λe σ' h=>?_) (h x.1 x.2)
 cases e with
 |normal=>obtain⟨y,h1,h2,h3⟩:=h;exact⟨⟨y,h1⟩,h2,h3⟩
 |_=>exact h
def bY{o:Oper}{σ:St}{con:List Nat}{k:St->List Nat->Prop}{d:Dm (o,k)} (h:O1 P o σ con k=(kind P o.op=0/\match nev P o.op σ.Γ σ.n with
  |some (av,nb)=>k ⟨bI σ.Γ o.dst av,gT σ.H σ.n nb,cnt nb σ.n⟩ con
  |none=>False)) (hk:kind P o.op=0):O1d P o σ con k d=cL (nev P o.op σ.Γ σ.n) (λp=>k ⟨bI σ.Γ o.dst p.1,gT σ.H σ.n p.2,cnt p.2 σ.n⟩ con) .mk:=by
 rw[O1d,h]
 simp only[hk,true_and]
 cases nev P o.op σ.Γ σ.n with
 |none=>rfl
 |some p=>obtain⟨a,b⟩:=p;rfl
section
variable (dst:Option Tmp) (ty:TypeId) (pos:String) (after:Array Edge) (guard:Option (Nat×Bool)) (σ:St) (con:List Nat) (k:St->List Nat->Prop)
def aUw(x:Operand)(d:Dm ((⟨dst,.move x,ty,pos,after,guard⟩:Oper),k)):O1d P ⟨dst,.move x,ty,pos,after,guard⟩ σ con k d=cL (nev P (.move x) σ.Γ σ.n) (λp=>k ⟨bI σ.Γ dst p.1,gT σ.H σ.n p.2,cnt p.2 σ.n⟩ con) .mk:=bY rfl rfl
def xU(x:Operand)(d:Dm ((⟨dst,.nilCheck x,ty,pos,after,guard⟩:Oper),k)):O1d P ⟨dst,.nilCheck x,ty,pos,after,guard⟩ σ con k d=cL (nev P (.nilCheck x) σ.Γ σ.n) (λp=>k ⟨bI σ.Γ dst p.1,gT σ.H σ.n p.2,cnt p.2 σ.n⟩ con) .mk:=bY rfl rfl
def aFk(x:Operand)(d:Dm ((⟨dst,.assign x,ty,pos,after,guard⟩:Oper),k)):O1d P ⟨dst,.assign x,ty,pos,after,guard⟩ σ con k d=cL (nev P (.assign x) σ.Γ σ.n) (λp=>k ⟨bI σ.Γ dst p.1,gT σ.H σ.n p.2,cnt p.2 σ.n⟩ con) .mk:=bY rfl rfl
def aUv(a b c:Operand)(d:Dm ((⟨dst,.pick a b c,ty,pos,after,guard⟩:Oper),k)):O1d P ⟨dst,.pick a b c,ty,pos,after,guard⟩ σ con k d=cL (nev P (.pick a b c) σ.Γ σ.n) (λp=>k ⟨bI σ.Γ dst p.1,gT σ.H σ.n p.2,cnt p.2 σ.n⟩ con) .mk:=bY rfl rfl
def aMo(e:TypeId)(d:Dm ((⟨dst,.alloc e,ty,pos,after,guard⟩:Oper),k)):O1d P ⟨dst,.alloc e,ty,pos,after,guard⟩ σ con k d=cL (nev P (.alloc e) σ.Γ σ.n) (λp=>k ⟨bI σ.Γ dst p.1,gT σ.H σ.n p.2,cnt p.2 σ.n⟩ con) .mk:=bY rfl rfl
def bGk(e:TypeId)(x:Operand)(d:Dm ((⟨dst,.box e x,ty,pos,after,guard⟩:Oper),k)):O1d P ⟨dst,.box e x,ty,pos,after,guard⟩ σ con k d=cL (nev P (.box e x) σ.Γ σ.n) (λp=>k ⟨bI σ.Γ dst p.1,gT σ.H σ.n p.2,cnt p.2 σ.n⟩ con) .mk:=bY rfl rfl
def aMm(e:TypeId)(x:Array (Nat×Operand))(d:Dm ((⟨dst,.build e x,ty,pos,after,guard⟩:Oper),k)):O1d P ⟨dst,.build e x,ty,pos,after,guard⟩ σ con k d=cL (nev P (.build e x) σ.Γ σ.n) (λp=>k ⟨bI σ.Γ dst p.1,gT σ.H σ.n p.2,cnt p.2 σ.n⟩ con) .mk:=bY rfl rfl
def sR(e:TypeId)(n:Nat)(x:Array (Nat×Operand))(d:Dm ((⟨dst,.buildSlice e n x,ty,pos,after,guard⟩:Oper),k)):O1d P ⟨dst,.buildSlice e n x,ty,pos,after,guard⟩ σ con k d=cL (nev P (.buildSlice e n x) σ.Γ σ.n) (λp=>k ⟨bI σ.Γ dst p.1,gT σ.H σ.n p.2,cnt p.2 σ.n⟩ con) .mk:=bY rfl rfl
def uK(e:TypeId)(x y:Operand)(d:Dm ((⟨dst,.makeSlice e x y,ty,pos,after,guard⟩:Oper),k)):O1d P ⟨dst,.makeSlice e x y,ty,pos,after,guard⟩ σ con k d=cL (nev P (.makeSlice e x y) σ.Γ σ.n) (λp=>k ⟨bI σ.Γ dst p.1,gT σ.H σ.n p.2,cnt p.2 σ.n⟩ con) .mk:=bY rfl rfl
def aBc(e:TypeId)(x:Option Operand)(d:Dm ((⟨dst,.makeMap e x,ty,pos,after,guard⟩:Oper),k)):O1d P ⟨dst,.makeMap e x,ty,pos,after,guard⟩ σ con k d=cL (nev P (.makeMap e x) σ.Γ σ.n) (λp=>k ⟨bI σ.Γ dst p.1,gT σ.H σ.n p.2,cnt p.2 σ.n⟩ con) .mk:=bY rfl rfl
def aMn(b:BinOp)(t:TypeId)(x y:Operand)(u:TypeId)(d:Dm ((⟨dst,.binOp b t x y u,ty,pos,after,guard⟩:Oper),k)):O1d P ⟨dst,.binOp b t x y u,ty,pos,after,guard⟩ σ con k d=cL (nev P (.binOp b t x y u) σ.Γ σ.n) (λp=>k ⟨bI σ.Γ dst p.1,gT σ.H σ.n p.2,cnt p.2 σ.n⟩ con) .mk:=bY rfl rfl
def aUu(b:UnOp)(t:TypeId)(x:Operand)(d:Dm ((⟨dst,.unOp b t x,ty,pos,after,guard⟩:Oper),k)):O1d P ⟨dst,.unOp b t x,ty,pos,after,guard⟩ σ con k d=cL (nev P (.unOp b t x) σ.Γ σ.n) (λp=>k ⟨bI σ.Γ dst p.1,gT σ.H σ.n p.2,cnt p.2 σ.n⟩ con) .mk:=bY rfl rfl
def aBe(s t:TypeId)(x:Operand)(d:Dm ((⟨dst,.convert s t x,ty,pos,after,guard⟩:Oper),k)):O1d P ⟨dst,.convert s t x,ty,pos,after,guard⟩ σ con k d=cL (nev P (.convert s t x) σ.Γ σ.n) (λp=>k ⟨bI σ.Γ dst p.1,gT σ.H σ.n p.2,cnt p.2 σ.n⟩ con) .mk:=bY rfl rfl
def uM(s:TypeId)(x:Operand)(f:Nat)(d:Dm ((⟨dst,.fieldAddr s x f,ty,pos,after,guard⟩:Oper),k)):O1d P ⟨dst,.fieldAddr s x f,ty,pos,after,guard⟩ σ con k d=cL (nev P (.fieldAddr s x f) σ.Γ σ.n) (λp=>k ⟨bI σ.Γ dst p.1,gT σ.H σ.n p.2,cnt p.2 σ.n⟩ con) .mk:=bY rfl rfl
def aMl(s:TypeId)(x:Operand)(f:Nat)(d:Dm ((⟨dst,.field s x f,ty,pos,after,guard⟩:Oper),k)):O1d P ⟨dst,.field s x f,ty,pos,after,guard⟩ σ con k d=cL (nev P (.field s x f) σ.Γ σ.n) (λp=>k ⟨bI σ.Γ dst p.1,gT σ.H σ.n p.2,cnt p.2 σ.n⟩ con) .mk:=bY rfl rfl
def uL(s:TypeId)(x y:Operand)(d:Dm ((⟨dst,.indexAddr s x y,ty,pos,after,guard⟩:Oper),k)):O1d P ⟨dst,.indexAddr s x y,ty,pos,after,guard⟩ σ con k d=cL (nev P (.indexAddr s x y) σ.Γ σ.n) (λp=>k ⟨bI σ.Γ dst p.1,gT σ.H σ.n p.2,cnt p.2 σ.n⟩ con) .mk:=bY rfl rfl
def aBd(x:Operand)(i:Nat)(d:Dm ((⟨dst,.extract x i,ty,pos,after,guard⟩:Oper),k)):O1d P ⟨dst,.extract x i,ty,pos,after,guard⟩ σ con k d=cL (nev P (.extract x i) σ.Γ σ.n) (λp=>k ⟨bI σ.Γ dst p.1,gT σ.H σ.n p.2,cnt p.2 σ.n⟩ con) .mk:=bY rfl rfl
def aMk(t:TypeId)(x:Operand)(a b c:Option Operand)(d:Dm ((⟨dst,.slice t x a b c,ty,pos,after,guard⟩:Oper),k)):O1d P ⟨dst,.slice t x a b c,ty,pos,after,guard⟩ σ con k d=cL (nev P (.slice t x a b c) σ.Γ σ.n) (λp=>k ⟨bI σ.Γ dst p.1,gT σ.H σ.n p.2,cnt p.2 σ.n⟩ con) .mk:=bY rfl rfl
def bGj(args:Array Operand)(ts:Array TypeId)(hm:aRq P ts=false)(d:Dm ((⟨dst,.call ⟨.builtin .len,args,ts⟩,ty,pos,after,guard⟩:Oper),k)):O1d P ⟨dst,.call ⟨.builtin .len,args,ts⟩,ty,pos,after,guard⟩ σ con k d=cL (nev P (.call ⟨.builtin .len,args,ts⟩) σ.Γ σ.n) (λp=>k ⟨bI σ.Γ dst p.1,gT σ.H σ.n p.2,cnt p.2 σ.n⟩ con) .mk:=by refine bY ?_ (by simp[kind,hm]);simp only[O1,hm,Ae,Az];rfl
def aUy(m:Operand)(ts:Array TypeId)(hm:aRq P ts=true)(d:Dm ((⟨dst,.call ⟨.builtin .len,#[m],ts⟩,ty,pos,after,guard⟩:Oper),k)):O1d P ⟨dst,.call ⟨.builtin .len,#[m],ts⟩,ty,pos,after,guard⟩ σ con k d=cL (aFp σ.H (oev σ.Γ m)) (λn=>k ⟨bI σ.Γ dst (.d (.i .i64 n)),σ.H,σ.n⟩ con) .mk:=by unfold O1d;simp only[O1,hm,AH];cases aFp σ.H (oev σ.Γ m)<;>rfl
def bGx(H:Hp)(id:Nat):aFp H (.mp id)=match H id with
  |some (.map _ es)=>some es.length
  |_=>none:=rfl
def bGi(args:Array Operand)(ts:Array TypeId)(d:Dm ((⟨dst,.call ⟨.builtin .max,args,ts⟩,ty,pos,after,guard⟩:Oper),k)):O1d P ⟨dst,.call ⟨.builtin .max,args,ts⟩,ty,pos,after,guard⟩ σ con k d=cL (nev P (.call ⟨.builtin .max,args,ts⟩) σ.Γ σ.n) (λp=>k ⟨bI σ.Γ dst p.1,gT σ.H σ.n p.2,cnt p.2 σ.n⟩ con) .mk:=bY rfl rfl
def bGh(args:Array Operand)(ts:Array TypeId)(d:Dm ((⟨dst,.call ⟨.builtin .min,args,ts⟩,ty,pos,after,guard⟩:Oper),k)):O1d P ⟨dst,.call ⟨.builtin .min,args,ts⟩,ty,pos,after,guard⟩ σ con k d=cL (nev P (.call ⟨.builtin .min,args,ts⟩) σ.Γ σ.n) (λp=>k ⟨bI σ.Γ dst p.1,gT σ.H σ.n p.2,cnt p.2 σ.n⟩ con) .mk:=bY rfl rfl
def aUx(t:TypeId)(x:Operand)(d:Dm ((⟨dst,.load t x,ty,pos,after,guard⟩:Oper),k)):O1d P ⟨dst,.load t x,ty,pos,after,guard⟩ σ con k d=cL (uQ P σ.H t (oev σ.Γ x)) (λv=>k ⟨bI σ.Γ dst v,σ.H,σ.n⟩ con) .mk:=by unfold O1d;simp only[O1,cL];split<;>simp_all
def aFh(t:TypeId)(m x:Operand)(ok:Bool)(d:Dm ((⟨dst,.lookup t m x ok,ty,pos,after,guard⟩:Oper),k)):O1d P ⟨dst,.lookup t m x ok,ty,pos,after,guard⟩ σ con k d=cL (aFu P σ.H t (oev σ.Γ m) (oev σ.Γ x) ok) (λv=>k ⟨bI σ.Γ dst v,σ.H,σ.n⟩ con) .mk:=by unfold O1d;simp only[O1,cL];split<;>simp_all
def aMj(t:TypeId)(ad x:Operand)(d:Dm ((⟨dst,.store t ad x,ty,pos,after,guard⟩:Oper),k)):O1d P ⟨dst,.store t ad x,ty,pos,after,guard⟩ σ con k d=cL (nS P σ.H t (oev σ.Γ ad) (oev σ.Γ x)) (λp=>k ⟨bI σ.Γ dst .un,upd σ.H p.1 (some p.2),σ.n⟩ con) .mk:=by unfold O1d;simp only[O1,cL];split<;>simp_all
def uJ(t:TypeId)(m x v:Operand)(d:Dm ((⟨dst,.mapUpdate t m x v,ty,pos,after,guard⟩:Oper),k)):O1d P ⟨dst,.mapUpdate t m x v,ty,pos,after,guard⟩ σ con k d=cL (qG P σ.H t (oev σ.Γ m) (oev σ.Γ x) (some (oev σ.Γ v))) (λp=>k ⟨bI σ.Γ dst .any,upd σ.H p.1 (some p.2),σ.n⟩ con) .mk:=by unfold O1d;simp only[O1,cL];split<;>simp_all
def aFi(t:TypeId)(m x v:Operand)(d:Dm ((⟨dst,.insert t m x v,ty,pos,after,guard⟩:Oper),k)):O1d P ⟨dst,.insert t m x v,ty,pos,after,guard⟩ σ con k d=cL (qG P σ.H t (oev σ.Γ m) (oev σ.Γ x) (some (oev σ.Γ v))) (λp=>k ⟨bI σ.Γ dst .any,upd σ.H p.1 (some p.2),σ.n⟩ con) .mk:=by unfold O1d;simp only[O1,cL];split<;>simp_all
def aFj(m x:Operand)(t u:TypeId)(d:Dm ((⟨dst,.call ⟨.builtin .delete,#[m,x],#[t,u]⟩,ty,pos,after,guard⟩:Oper),k)):O1d P ⟨dst,.call ⟨.builtin .delete,#[m,x],#[t,u]⟩,ty,pos,after,guard⟩ σ con k d=cL (qG P σ.H t (oev σ.Γ m) (oev σ.Γ x) none) (λp=>k ⟨bI σ.Γ dst .any,upd σ.H p.1 (some p.2),σ.n⟩ con) .mk:=by unfold O1d;simp only[O1,cL];split<;>simp_all
def aFl(s x:Operand)(t:TypeId)(d:Dm ((⟨dst,.call ⟨.builtin .append,#[s,x],#[t,t]⟩,ty,pos,after,guard⟩:Oper),k)):O1d P ⟨dst,.call ⟨.builtin .append,#[s,x],#[t,t]⟩,ty,pos,after,guard⟩ σ con k d=cL (aEh P σ.H t (oev σ.Γ s) (oev σ.Γ x) σ.n) (λp=>k ⟨bI σ.Γ dst p.1,gT (kill p.2.2 σ.H) σ.n p.2.1,cnt p.2.1 σ.n⟩ (p.2.2++con)) .mk:=by
 unfold O1d;simp only[O1,cL];simp only[true_and];cases aEh P σ.H t (oev σ.Γ s) (oev σ.Γ x) σ.n with
 |none=>rfl
 |some p=>obtain⟨a,b,c⟩:=p;rfl
end
def aWk(P:Program)[M:Mch P](f:FuncId)(avs:List AV)(H:Hp)(k:D->Prop)(_:Dm k):Prop:=∃ds r,cI H avs=some ds/\Spec P f ds r/\k r
def bE{f:FuncId}{avs:List AV}{H:Hp}{k:D->Prop}{d:Dm k}{ds:List D}{r:D}(h1:cI H avs=some ds)(h2:Spec P f ds r)(h3:k r):aWk P f avs H k d:=⟨ds,r,h1,h2,h3⟩
def slQ{i n:Nat}(h:i<n):n-(i+1)<n-i:=Nat.sub_lt_sub_left h (Ck _)
def aC{f:FuncId}{avs:List AV}{H:Hp}{k:D->Prop}{d:Dm k}{ds:List D}{r:D}(h2:Spec P f ds r)(h3:k r)(h1:cI H avs=some ds:=by rfl):aWk P f avs H k d:=⟨ds,r,h1,h2,h3⟩
def bWk(P:Program)[M:Mch P](f:FuncId)(x:Option (Nat×AV))(rest:List AV)(H:Hp)(k:Nat->HO->D->Prop)(_:Dm k):Prop :=
 ∃id h ho,x=some (id,h)/\H id=some ho/\kE ho=true/\bV H rest=[]/\∃ds ho' r,cI H rest=some ds/\kL P f h ho ds ho' r/\ho'.len=ho.len/\kE ho'=true/\k id ho' r
def iT{f:FuncId}{rest:List AV}{H:Hp}{k:Nat->HO->D->Prop}{d:Dm k}{id:Nat}{h:AV}{ho ho':HO}{ds:List D}{r:D}(h1:H id=some ho)(h2:kE ho=true)(h3:bV H rest=[])
  (h4:cI H rest=some ds) (h5:kL P f h ho ds ho' r) (h6:ho'.len=ho.len) (h7:kE ho'=true) (h8:k id ho' r):bWk P f (some (id,h)) rest H k d:=⟨id,h,ho,rfl,h1,h2,h3,ds,ho',r,h4,h5,h6,h7,h8⟩
def cDf:List AV->Bool
 |[.kf _ _]=>true
 |_=>false
def aUz(dst:Option Tmp)(ty:TypeId)(pos:String)(after:Array Edge)(guard:Option (Nat×Bool))(σ:St)(con:List Nat)(k:St->List Nat->Prop)(f:FuncId)(args:List Operand)(ts:Array TypeId)
  (d:Dm ((⟨dst,.call ⟨.value (.func f),args.toArray,ts⟩,ty,pos,after,guard⟩:Oper),k)) (hm:aO P f=false) (hn:aQ P f=false) (hk:cDf (args.map (oev σ.Γ))=false):O1d P ⟨dst,.call ⟨.value (.func f),args.toArray,ts⟩,ty,pos,after,guard⟩ σ con k d =
  aWk P f (args.map (oev σ.Γ)) σ.H (λr=>k ⟨bI σ.Γ dst (inj r),kill (aZ σ.H (args.map (oev σ.Γ)) r) σ.H,σ.n⟩ (aZ σ.H (args.map (oev σ.Γ)) r++con)) .mk:=by
 show OC P f args.toArray dst σ con k=_
 unfold OC aWk
 simp only[hm,hn,Ae,Az,false_and,false_or]
 split
 ·rename_i hx;rw[show args.map (oev σ.Γ)=_ from hx]at hk;cases hk
 ·rfl
def nE{dst:Option Tmp}{ty:TypeId}{pos:String}{after:Array Edge}{guard:Option (Nat×Bool)}{σ:St}{con:List Nat}{k:St->List Nat->Prop}{f:FuncId}{x:Operand}{rest:List Operand}{ts:Array TypeId}
  {d:Dm ((⟨dst,.call ⟨.value (.func f),(x::rest).toArray,ts⟩,ty,pos,after,guard⟩:Oper),k)} (hm:aO P f=true)
  (h:bWk P f (hd1 (oev σ.Γ x)) (rest.map (oev σ.Γ)) σ.H (λid ho' r=>k ⟨bI σ.Γ dst (inj r),upd σ.H id (some ho'),σ.n⟩ con) .mk):O1d P ⟨dst,.call ⟨.value (.func f),(x::rest).toArray,ts⟩,ty,pos,after,guard⟩ σ con k d:=by
 obtain⟨id,hh,ho,h1,h2,h3,h4,h5⟩:=h
 show OC P f (x::rest).toArray dst σ con k
 unfold OC
 simp only[hm,AH,h1,h2]
 exact .inr (.inl ⟨h3,h4,h5⟩)
def lI{dst:Option Tmp}{ty:TypeId}{pos:String}{after:Array Edge}{guard:Option (Nat×Bool)}{σ:St}{con:List Nat}{k:St->List Nat->Prop}{f:FuncId}{args:List Operand}{ts:Array TypeId}
  {d:Dm ((⟨dst,.call ⟨.value (.func f),args.toArray,ts⟩,ty,pos,after,guard⟩:Oper),k)} (ds:List D) (v:Nat->AV) (hs:Nat->List HO) (hm:aO P f=false) (hn:aQ P f=true) (hpos:0<σ.n) (hfr:cI σ.H (args.map (oev σ.Γ))=some ds)
  (hvis:bV σ.H (args.map (oev σ.Γ))=[]) (hsp:sW P f ds v hs) (hk:k ⟨bI σ.Γ dst (v σ.n),gX σ.H σ.n (hs σ.n),σ.n+(hs σ.n).length⟩ con) :
  O1d P ⟨dst,.call ⟨.value (.func f),args.toArray,ts⟩,ty,pos,after,guard⟩ σ con k d:=by
 show OC P f args.toArray dst σ con k
 unfold OC
 simp only[hm,Ae,Az]
 exact .inl ⟨hn,hpos,v,hs,.inl ⟨ds,hfr,hvis,hsp⟩,hk⟩
def aFg{dst:Option Tmp}{ty:TypeId}{pos:String}{after:Array Edge}{guard:Option (Nat×Bool)}{σ:St}{con:List Nat}{k:St->List Nat->Prop}{f:FuncId}{args:List Operand}{ts:Array TypeId}
  {d:Dm ((⟨dst,.call ⟨.value (.func f),args.toArray,ts⟩,ty,pos,after,guard⟩:Oper),k)} (v:Nat->AV) (hs:Nat->List HO) (hm:aO P f=false) (hn:aQ P f=true) (hpos:0<σ.n) (hno:(args.map (oev σ.Γ)).all aEb=true)
  (hsp:aDn P f (args.map (oev σ.Γ)) v hs) (hk:k ⟨bI σ.Γ dst (v σ.n),gX σ.H σ.n (hs σ.n),σ.n+(hs σ.n).length⟩ con) :
  O1d P ⟨dst,.call ⟨.value (.func f),args.toArray,ts⟩,ty,pos,after,guard⟩ σ con k d:=by
 show OC P f args.toArray dst σ con k
 unfold OC
 simp only[hm,Ae,Az]
 exact .inl ⟨hn,hpos,v,hs,.inr ⟨hno,hsp⟩,hk⟩
def aYy{dst:Option Tmp}{ty:TypeId}{pos:String}{after:Array Edge}{guard:Option (Nat×Bool)}{σ:St}{con:List Nat}{k:St->List Nat->Prop}{f:FuncId}{x:Operand}{rest:List Operand}{ts:Array TypeId}
  {d:Dm ((⟨dst,.call ⟨.value (.func f),(x::rest).toArray,ts⟩,ty,pos,after,guard⟩:Oper),k)} {h:AV} {ds:List D} {r:D} {l:List Nat} (hm:aO P f=true) (hx:oev σ.Γ x=h) (hx1:hd1 h=none) (hno:aEb h=true)
  (hvis:bV σ.H (rest.map (oev σ.Γ))=l) (hfr:cI σ.H (rest.map (oev σ.Γ))=some ds) (hsp:aOz P f h none ds r) (hk:k ⟨bI σ.Γ dst (inj r),kill l σ.H,σ.n⟩ (l++con)) :
  O1d P ⟨dst,.call ⟨.value (.func f),(x::rest).toArray,ts⟩,ty,pos,after,guard⟩ σ con k d:=by
 subst hvis
 subst hx
 show OC P f (x::rest).toArray dst σ con k
 unfold OC
 simp only[hm,AH,hx1]
 exact .inl ⟨hno,ds,r,hfr,hsp,hk⟩
def bGg{dst:Option Tmp}{ty:TypeId}{pos:String}{after:Array Edge}{guard:Option (Nat×Bool)}{σ:St}{con:List Nat}{k:St->List Nat->Prop}{f:FuncId}{x y:Operand}{rest:List Operand}{ts:Array TypeId}
  {d:Dm ((⟨dst,.call ⟨.value (.func f),(x::y::rest).toArray,ts⟩,ty,pos,after,guard⟩:Oper),k)} {d0:D} {id:Nat} {h:AV} {ho:HO} {ds:List D} {ho':HO} (hm:aO P f=true) (hx:oev σ.Γ x=.d d0) (hd0:hd1 (.d d0)=none) (hy:hd1 (oev σ.Γ y)=some (id,h)) (hH:σ.H id=some ho) (hfl:vD ho=true)
  (hnv:id ∉ bV σ.H (rest.map (oev σ.Γ))) (hfr:cI σ.H (rest.map (oev σ.Γ))=some ds) (hsp:aPb P f d0 h ho ds ho') (hlen:ho'.len=ho.len) (hfl':vD ho'=true) (hk:k ⟨bI σ.Γ dst (inj (.tp [])),upd σ.H id (some ho'),σ.n⟩ con) :
  O1d P ⟨dst,.call ⟨.value (.func f),(x::y::rest).toArray,ts⟩,ty,pos,after,guard⟩ σ con k d:=by
 show OC P f (x::y::rest).toArray dst σ con k
 unfold OC
 simp only[hm,AH,hx,hd0]
 exact .inr ⟨d0,_,_,id,h,ho,ds,ho',rfl,rfl,hy,hH,hfl,hnv,hfr,hsp,hlen,hfl',hk⟩
def aUq(ops:Array Oper)(σ:St)(con:List Nat)(k:St->List Nat->Prop)(d:Dm (ops,([]:List Oper),k)):OWd P ops [] σ con k d=k σ con:=rfl
def aMd(ops:Array Oper)(dst:Option Tmp)(op:Op)(ty:TypeId)(pos:String)(after:Array Edge)(l:List Oper)(σ:St)(con:List Nat)(k:St->List Nat->Prop)(d:Dm (ops,(⟨dst,op,ty,pos,after,none⟩::l:List Oper),k)) :
  OWd P ops (⟨dst,op,ty,pos,after,none⟩::l) σ con k d=O1d P ⟨dst,op,ty,pos,after,none⟩ σ con (λσ' con'=>OWd P ops l σ' con' k .mk) .mk:=rfl
def aMc(ops:Array Oper)(dst:Option Tmp)(op:Op)(ty:TypeId)(pos:String)(after:Array Edge)(g:Nat×Bool)(l:List Oper)(σ:St)(con:List Nat)(k:St->List Nat->Prop)(d:Dm (ops,(⟨dst,op,ty,pos,after,some g⟩::l:List Oper),k)) :
  OWd P ops (⟨dst,op,ty,pos,after,some g⟩::l) σ con k d=cL (cV ops ⟨dst,op,ty,pos,after,some g⟩ σ.Γ) (λt=>IfD t (O1d P ⟨dst,op,ty,pos,after,some g⟩ σ con (λσ' con'=>OWd P ops l σ' con' k .mk) .mk) (OWd P ops l ⟨bI σ.Γ dst .un,σ.H,σ.n⟩ con k .mk) .mk) .mk:=by
 show(match cV ops ⟨dst,op,ty,pos,after,some g⟩ σ.Γ with
 |some true=>O1 P ⟨dst,op,ty,pos,after,some g⟩ σ con λσ' con'=>OW P ops l σ' con' k
 |some false=>OW P ops l ⟨bI σ.Γ dst .un,σ.H,σ.n⟩ con k
 |none=>False)=_
 cases cV ops ⟨dst,op,ty,pos,after,some g⟩ σ.Γ with
 |none=>rfl
 |some t=>cases t<;>simp[cL,IfD,O1d,OWd]
def bZs(t:Bool)(x y:Bool):(if t=true then AV.d (.b x)else AV.d (.b y))=AV.d (.b (if t then x else y)):=by cases t<;>rfl
end Go.Am
end
section
open List renaming map_map->C,mapM_map->L
namespace Go.Am
open RowKit (Below)
variable {P:Program} [M:Mch P]
def lX{σ:St}{sl:List (Nat×AV)}{H':Hp}{n':Nat}(hslot:jR σ.H H' (λi=>i) σ.Γ sl)(hblk:∀id o',H' id=some o'->∃o,σ.H id=some o/\nO σ.H H' (λi=>i) o o')
  (htop:∀id,n'<=id->H' id=none) (hn:n'≠0):Wk σ ⟨gK sl,H',n'⟩ (λi=>i):=by
 refine⟨htop,λt=>?_,hblk,λ_ _ _ _ e=>e,λ_=>rfl,λh=>absurd h hn⟩
 show Sub _ _ _ _ (gK sl t)
 rcases tX sl t with h|⟨p,hp,rfl,h⟩
 ·rw[h];exact rF _
 ·rw[h];exact lZ hslot _ hp
def bXe{σ:St}{sl:List (Nat×AV)}{H':Hp}{n':Nat}(ρ:Nat->Nat)(hslot:jR σ.H H' ρ σ.Γ sl)(hblk:∀id o',H' id=some o'->∃o,σ.H (ρ id)=some o/\nO σ.H H' ρ o o')
  (hinj:∀id id',(H' id).isSome=true->(H' id').isSome=true->ρ id=ρ id'->id=id') (hpin:(H' 0).isSome=true->ρ 0=0) (htop:∀id,n'<=id->H' id=none) (hn:n'≠0):Wk σ ⟨gK sl,H',n'⟩ ρ:=by
 refine⟨htop,λt=>?_,hblk,hinj,hpin,λh=>absurd h hn⟩
 show Sub _ _ _ _ (gK sl t)
 rcases tX sl t with h|⟨p,hp,rfl,h⟩
 ·rw[h];exact rF _
 ·rw[h];exact lZ hslot _ hp
def bPg{G:Ctx}{fn:Func}{σ:St}{a:Act}{w:World}{ad:Tmp}{t:TypeId}{av:AV}{F:Nat->Prop}{ι:Nat->Option Nat}(hR:HR G F w ι bD σ.H)(hV:∀t,V F w ι (σ.Γ t) (a.tmps.getD t undef))(hres:fn.results.toList=[.cell ad t])(h:kD P σ (.cell ad t)=some av) :
  ∃v,aK P (results fn a.tmps) w=.ok v w/\V F w ι av v:=by
 have hx:∃v,aK P (do loadVar t (<-asAddr (a.tmps.getD ad undef)):Sem Value) w=.ok v w/\V F w ι av v:=by
  simp only[kD]at h;obtain⟨u,hu,hv⟩:=aIv (P:=P) hR (λ_ _ h=>h) h (hV ad);refine⟨u,?_,hv⟩;simp only[E0]at hu;generalize a.tmps.getD ad undef=p at hu ⊢;cases p with
  | pointer q=>cases q with
   |some q=>simpa[CE,asAddr]using hu
   |none=>simp[CE]at hu
  |_=>simp[CE]at hu
 obtain⟨v,h1,h2⟩:=hx
 refine⟨v,?_,h2⟩
 have h1':aK P ([ResultVar.cell ad t].mapM (m:=Sem) λ|.tmp t=>pure (a.tmps.getD t undef)|.cell ad t=>do loadVar t (<-asAddr (a.tmps.getD ad undef))) w=.ok [v] w:=by simp only[Cp,GD,Sem.run_bind,h1,AK,Sem.run_pure]
 simp only[results,D5,Sem.run_bind,Sem.run_map,hres]
 erw [h1']
 simp
def jH(v:Nat->AV)(hs:Nat->List HO)(m:Nat):St:=⟨upd (λ_=>.any) 0 (v m),gX (λ_=>none) m (hs m),m+(hs m).length⟩
end Go.Am
end
section
open List renaming map_map->C,mapM_map->L
namespace Go.Am
variable {P:Program} [M:Mch P]
def oS:List Value->Bool
 |[]=>true
 |v::l=>v.oneCell'&&oS l
def aTh:oS []=true:=rfl
def aOw(v:Value)(l:List Value):oS (v::l)=(v.oneCell'&&oS l):=rfl
def xK(a:Array Value):a.all CC=oS a.toList:=by
 rw[<-Array.all_toList];generalize a.toList=l;induction l with
 |nil=>rfl
 |cons v l ih=>simp only[FM,oS,ih]
section
variable (Γ:Nat->AV) (n:Nat)
def bRg(x:Operand):nev P (.move x) Γ n=some (oev Γ x,none):=rfl
def aYz(x:Operand):nev P (.assign x) Γ n=some (oev Γ x,none):=rfl
def bRf(c a b:Operand):nev P (.pick c a b) Γ n=cT ((vR (oev Γ c)).map λt=>if t then oev Γ a else oev Γ b):=rfl
def bGq(e:TypeId):nev P (.alloc e) Γ n=(tz P e).map λz=>(.ptr n 0,some (.cells e (z.cells.toList.map cv1))):=rfl
def bZf(e:TypeId)(x:Operand):nev P (.box e x) Γ n=(cY (oev Γ x)).map λcs=>(.ptr n 0,some (.cells e cs)):=rfl
def bGo(t : TypeId)(ps : List (Nat×Operand)) : nev P (.build t ps.toArray) Γ n = cT ((tz P t).bind λz => (plc P t).bind λpl => if oS z.cells.toList then
      (lQ pl (z.cells.toList.map cv1) (ps.map λp=>(p.1,oev Γ p.2))).map .ag else none):=by
 simp only[nev,xK]
def bQq(t:TypeId):plc P t=match eM P t with
 |some fl=>some (fl[·]?)
 |none=>(yJ P t).bind λp=>(tsz P p.2).map λsz=>λi=>some (i*sz,sz):=rfl
def aEa(t : TypeId)(len : Nat)(ps : List (Nat×Operand)) : nev P (.buildSlice t len ps.toArray) Γ n = (tel P t).bind λe => (tsz P e).bind λsz => (tz P e).bind λz =>
      if z.cells.toList.length=sz/\0<sz/\len*sz<=16777216/\oS z.cells.toList=true then
        (lQ (λi=>some (i*sz,sz)) ((Av len (z.cells.toList.map cv1)).flatten) (ps.map λp=>(p.1,oev Γ p.2))).map λcs=>(.own n 0 len sz,some (.cells e cs))
      else none:=by
 simp only[nev,xK,BK]
def aIk(t : TypeId)(l c : Operand) : nev P (.makeSlice t l c) Γ n = (tel P t).bind λe => (tsz P e).bind λsz => (tz P e).bind λz => (tby P e).bind λby_ => (eY (oev Γ l)).bind λa => (eY (oev Γ c)).bind λb =>
      if z.cells.toList.length=sz/\0<sz/\oS z.cells.toList=true/\0<=a/\a<=b/\(by_:Int)*b<=281474976710656/\b<=9223372036854775807 then
        some (.own n 0 a.toNat sz,some (.cells e (Av a.toNat (z.cells.toList.map cv1)).flatten))
      else none:=by
 simp only[nev,xK,BK]
def bGp(op:BinOp)(t:TypeId)(x y:Operand)(u:TypeId):nev P (.binOp op t x y u) Γ n=cT (match aZb op (tel P t) (oev Γ x) (oev Γ y)with|some r=>some r|none=>match dG op (bL P t) (oev Γ x) (oev Γ y)with|some r=>some (.d r)|none=>match bVb op (tai P t) (oev Γ x) (oev Γ y)with|some r=>some (.d r)|none=>(bVa op (tst P t) (oev Γ x) (oev Γ y)).map .d):=rfl
def aMp(x:Operand):nev P (.nilCheck x) Γ n=cT (bKy (oev Γ x)):=rfl
def bKx(id o:Nat):bKy (.ptr id o)=some (.ptr id o):=rfl
def bUp(cs:List D):bKy (.fp cs)=some (.fp cs):=rfl
def bRe(op:UnOp)(t:TypeId)(x:Operand):nev P (.unOp op t x) Γ n=cT ((unA op (oev Γ x)).map .d):=rfl
def aRi(s t:TypeId)(x:Operand):nev P (.convert s t x) Γ n=cT ((fD P t).bind λk=>(eY (oev Γ x)).bind λm=>if(P.underlying s).isSome then some (.d (.i k (k.wrap m)))else none):=rfl
def aIm(s:TypeId)(x:Operand)(f:Nat):nev P (.fieldAddr s x f) Γ n=cT ((eM P s).bind λfl=>(fl[f]?).bind λp=>if p.2=0 then none else xD p.1 (oev Γ x)):=rfl
def aIl(t : TypeId)(x i : Operand) : nev P (.indexAddr t x i) Γ n = cT ((eY (oev Γ i)).bind λk => match tel P t with
      |some e=>(tsz P e).bind λsz=>tL sz k (oev Γ x)
      |none=>(yJ P t).bind λp=>(tsz P p.2).bind λsz=>wX sz p.1 k (oev Γ x)):=rfl
def aRh(x:Operand)(i:Nat):nev P (.extract x i) Γ n=cT ((aXd (oev Γ x)).bind λvs=>vs[i]?):=rfl
def bGl(t : TypeId)(x : Operand)(lo hi mx : Option Operand) : nev P (.slice t x lo hi mx) Γ n = cT ((tel P t).bind λe => (tsz P e).bind λsz => (aEd (oev Γ x)).bind λn => (aMe lo Γ 0).bind λl => (aMe hi Γ n).bind λh =>
      match mx with
      |none=>iI sz (oev Γ x) l h false
      |some y=>(eY (oev Γ y)).bind λm=>if m=h/\hi.isSome then iI sz (oev Γ x) l h true else none):=rfl
def bZe(x:Operand)(t:TypeId):nev P (.call ⟨.builtin .len,#[x],#[t]⟩) Γ n=cT ((tel P t).bind λ_=>(aEd (oev Γ x)).map λn=>.d (.i .i64 n)):=rfl
def cCu:AV->AV->Option AV
 |.d (.i k a),.d (.i _ b)=>some (.d (.i k (if b>a then b else a)))
 |_,_=>none
def cCt:AV->AV->Option AV
 |.d (.i k a),.d (.i _ b)=>some (.d (.i k (if b<a then b else a)))
 |_,_=>none
def bZn(k k':IntKind)(a b:Int):cCu (.d (.i k a)) (.d (.i k' b))=some (.d (.i k (if b>a then b else a))):=rfl
def bZl(k k':IntKind)(a b:Int):cCt (.d (.i k a)) (.d (.i k' b))=some (.d (.i k (if b<a then b else a))):=rfl
def bZd(x y:Operand)(ts:Array TypeId):nev P (.call ⟨.builtin .max,#[x,y],ts⟩) Γ n=cT (cCu (oev Γ x) (oev Γ y)):=rfl
def bZc(x y:Operand)(ts:Array TypeId):nev P (.call ⟨.builtin .min,#[x,y],ts⟩) Γ n=cT (cCt (oev Γ x) (oev Γ y)):=rfl
def bGn(s:TypeId)(x:Operand)(f:Nat):nev P (.field s x f) Γ n=cT ((bDa P s f).bind λp=>(yU (oev Γ x)).bind λcs=>if p.2.1 then(if p.1+p.2.2<=cs.length then some (.ag ((cs.drop p.1).take p.2.2))else none)else cs[p.1]?):=rfl
def aRg(t:TypeId)(r:Option Operand):nev P (.makeMap t r) Γ n=(tmp P t).bind λp=>(fD P p.1).bind λk=>(match r with|none=>some 0|some x=>eY (oev Γ x)).map λ_=>(.mp n,some (.map k [])):=rfl
end
def bRv(H:Hp)(ds:List D):(ds.map AV.d).mapM (frz H 7)=some ds:=aBi H 6 ds
def bRw(H:Hp)(ds:List D):(ds.map AV.d).mapM (frz H 6)=some ds:=aBi H 5 ds
def bUo(sz:Nat)(l:List D):chunk sz 0 l=[]:=rfl
def bUn(sz:Nat)(l:List D):chunk sz 1 l=[l.take sz]:=by simp[chunk,FU]
def bUm(sz:Nat)(l:List D):chunk sz 2 l=[l.take sz,(l.drop sz).take sz]:=by simp[chunk,FU]
def bHr(H:Hp)(avs:List AV)(l:List D):aZ H avs (.ag l)=bV H avs:=rfl
def bSh(H:Hp)(avs:List AV)(x:Bool):aZ H avs (.b x)=[]:=rfl
def bSg(H:Hp)(avs:List AV)(k:IntKind)(n:Int):aZ H avs (.i k n)=[]:=rfl
def bHn(H:Hp)(avs:List AV)(l:List D):aZ H avs (.tp l)=if l.all xY then[]else bV H avs:=rfl
def bHo(H:Hp)(avs:List AV)(l:List (List D)):aZ H avs (.sl l)=bV H avs:=rfl
def aKi(H:Hp):bV H []=[]:=rfl
def aEq(H:Hp)(a:AV)(l:List AV):bV H (a::l)=vis H 8 a++bV H l:=rfl
def bCq(H:Hp)(n:Nat)(x:D):vis H n (.d x)=[]:=by cases n<;>rfl
def bNw(H:Hp)(n:Nat):vis H n .nil=[]:=by cases n<;>rfl
def bXk(H:Hp)(n:Nat)(x:List (List D)):vis H n (.fd x)=[]:=by cases n<;>rfl
def bXl(H:Hp)(n:Nat)(cs:List AV):vis H (n+1) (.ag cs)=cs.flatMap (vis H n):=rfl
def bCp(H:Hp)(n:Nat)(ds:List D):(ds.map AV.d).flatMap (vis H n)=[]:=by
 induction ds with
 |nil=>rfl
 |cons d ds ih=>rw[BO,List.flatMap_cons,ih,bCq];rfl
def bNz(H:Hp)(n id off len sz:Nat)(ho:Option HO):List Nat:=match ho with
 |some (.cells _ cs)=>id::((cs.drop (off*sz)).take (len*sz)).flatMap (vis H n)
 |_=>[]
def bNv(H:Hp)(n id off len sz:Nat):vis H (n+1) (.own id off len sz)=bNz H n id off len sz (H id):=rfl
def aPr(H:Hp)(n id off len sz:Nat)(e:TypeId)(cs:List AV):bNz H n id off len sz (some (.cells e cs))=id::((cs.drop (off*sz)).take (len*sz)).flatMap (vis H n):=rfl
def bHm(c:AV)(cells:List AV)(off:Nat)(cs:List AV):lay (c::cells) off cs=(c::cells).take off++cs++(c::cells).drop (off+cs.length):=rfl
def aQy(v:AV):cT (some v)=some (v,none):=rfl
def cDs(sl:List (Nat×AV))(o0:Option HO)(hs:List HO):(StL sl o0 hs).Γ=gK sl:=rfl
def cDu(sl:List (Nat×AV))(hs:List HO):(StL sl none hs).H=yT 1 hs:=rfl
def cBb(sl:List (Nat×AV))(o:HO)(hs:List HO):(StL sl (some o) hs).H=upd (yT 1 hs) 0 (some o):=rfl
def cDt(sl:List (Nat×AV))(o0:Option HO)(hs:List HO):(StL sl o0 hs).n=hs.length+1:=rfl
def bOu(p:Nat×AV)(l:List (Nat×AV))(t:Nat):gK (p::l) t=if t=p.1 then p.2 else gK l t:=rfl
def bDw(t:Nat):gK [] t=.any:=rfl
def bUu(i:Nat)(o:HO)(os:List HO)(j:Nat):yT i (o::os) j=if j=i then some o else yT (i+1) os j:=rfl
def bLc(i j:Nat):yT i [] j=none:=rfl
def aIi(Γ:Nat->AV)(t:Nat):oev Γ (.tmp t)=Γ t:=rfl
def cCe(Γ:Nat->AV)(k:IntKind)(n:Int):oev Γ (.const (.int k n))=.d (.i k n):=rfl
def cCf(Γ:Nat->AV)(x:Bool):oev Γ (.const (.bool x))=.d (.b x):=rfl
def bRc(Γ:Nat->AV):oev Γ (.const (.slice none 0 0))=.nil:=rfl
def bRd(Γ:Nat->AV)(cs:Array Value):oev Γ (.const (.agg cs))=.ag (cs.toList.map cv1):=rfl
def cDl(k:IntKind)(n:Int):cv1 (.int k n)=.d (.i k n):=rfl
def cDm(x:Bool):cv1 (.bool x)=.d (.b x):=rfl
def bUg:cv1 (.slice none 0 0)=.nil:=rfl
def bAo(cs:Array Value):Ed (.agg cs)=cs:=rfl
def bUq(k:IntKind)(n:Int):Ed (.int k n)=#[.int k n]:=rfl
def bUr(x:Bool):Ed (.bool x)=#[.bool x]:=rfl
def bKz(a:Option Addr)(n c:Nat):Ed (.slice a n c)=#[.slice a n c]:=rfl
def bZa(k:IntKind)(n:Int):CC (.int k n)=true:=rfl
def bZb(x:Bool):CC (.bool x)=true:=rfl
def bQz(a:Option Addr)(n c:Nat):CC (.slice a n c)=true:=rfl
def bYz(x:Bool):one (.d (.b x))=true:=rfl
def bYy(k:IntKind)(n:Int):one (.d (.i k n))=true:=rfl
def bQy(l:List (List D)):one (.d (.sl l))=true:=rfl
def bQx:one .nil=true:=rfl
def bQw(a b c d:Nat):one (.own a b c d)=true:=rfl
def bQv(a b:Nat):one (.ptr a b)=true:=rfl
def bYv(a:Nat):one (.mp a)=true:=rfl
def bYx(l:List (List D)):one (.fd l)=true:=rfl
def bYw(l:List D):one (.fp l)=true:=rfl
def bAt(x:Bool):cY (.d (.b x))=some [.d (.b x)]:=rfl
def bAs(k:IntKind)(n:Int):cY (.d (.i k n))=some [.d (.i k n)]:=rfl
def aSt(l:List (List D)):cY (.d (.sl l))=some [.d (.sl l)]:=rfl
def aSs:cY .nil=some [.nil]:=rfl
def aSr(a b c d:Nat):cY (.own a b c d)=some [.own a b c d]:=rfl
def aSq(a b:Nat):cY (.ptr a b)=some [.ptr a b]:=rfl
def bAp(a:Nat):cY (.mp a)=some [.mp a]:=rfl
def bAr(l:List (List D)):cY (.fd l)=some [.fd l]:=rfl
def bAu(cs:List AV):cY (.ag cs)=if cs.all one then some cs else none:=rfl
def aSv(cs:List D):cY (.d (.ag cs))=if(cs.map AV.d).all one then some (cs.map .d)else none:=rfl
def bVd(cs:List AV):yU (.ag cs)=some cs:=rfl
def bMd(cs:List D):yU (.d (.ag cs))=some (cs.map .d):=rfl
def bOi(cs:List AV):aXd (.tp cs)=some cs:=rfl
def bCy(cs:List D):aXd (.d (.tp cs))=some (cs.map .d):=rfl
def bIc(k:IntKind)(n:Int):eY (.d (.i k n))=some n:=rfl
def bAx(x:Bool):vR (.d (.b x))=some x:=rfl
def aYv(Γ:Nat->AV)(n:Int):aMe none Γ n=some n:=rfl
def aYu(Γ:Nat->AV)(x:Operand)(n:Int):aMe (some x) Γ n=eY (oev Γ x):=rfl
def bHk(l:List (List D)):aEd (.d (.sl l))=some (l.length:Int):=rfl
def bSd(l:List (List D)):aEd (.fd l)=some (l.length:Int):=rfl
def bHj:aEd .nil=some 0:=rfl
def bHi(a b c d:Nat):aEd (.own a b c d)=some (c:Int):=rfl
def aSf(off id o:Nat):xD off (.ptr id o)=some (.ptr id (o+off)):=rfl
def aZz(off:Nat)(cs:List D):xD off (.fp cs)=some (.fp (cs.drop off)):=rfl
def aRw(sz:Nat)(k:Int)(els:List (List D)):tL sz k (.d (.sl els))=if 0<=k then(els[k.toNat]?).bind λcs=>if cs.length=sz then some (.fp cs)else none else none:=rfl
def aZo(sz:Nat)(k:Int)(els:List (List D)):tL sz k (.fd els)=if 0<=k then(els[k.toNat]?).bind λcs=>if cs.length=sz then some (.fp cs)else none else none:=rfl
def aRv(sz:Nat)(k:Int)(id off len sz':Nat):tL sz k (.own id off len sz')=if 0<=k/\k<len/\sz'=sz then some (.ptr id ((off+k.toNat)*sz))else none:=rfl
def aRx(sz m:Nat)(k:Int)(id o:Nat):wX sz m k (.ptr id o)=if 0<=k/\k<m then some (.ptr id (o+k.toNat*sz))else none:=rfl
def aZp(sz m:Nat)(k:Int)(cs:List D):wX sz m k (.fp cs)=if 0<=k/\k<m then some (.fp (cs.drop (k.toNat*sz)))else none:=rfl
def cAu(op:BinOp)(x y:Bool):dG op true (.d (.b x)) (.d (.b y))=match op with|.eql=>some (.b (x==y))|.neq=>some (.b (!(x==y)))|_=>none:=rfl
def bLs(t:Bool)(k:IntKind)(a b:Int):dG .add t (.d (.i k a)) (.d (.i k b))=some (.i k (k.wrap (a+b))):=by simp[dG,arith]
def bLg(t:Bool)(k:IntKind)(a b:Int):dG .sub t (.d (.i k a)) (.d (.i k b))=some (.i k (k.wrap (a-b))):=by simp[dG,arith]
def bLm(t:Bool)(k:IntKind)(a b:Int):dG .mul t (.d (.i k a)) (.d (.i k b))=some (.i k (k.wrap (a*b))):=by simp[dG,arith]
def bLk(t:Bool)(k:IntKind)(a b:Int):dG .quo t (.d (.i k a)) (.d (.i k b))=if b=0 then none else some (.i k (k.wrap (a.tdiv b))):=by simp[dG,arith]
def bLj(t:Bool)(k:IntKind)(a b:Int):dG .rem t (.d (.i k a)) (.d (.i k b))=if b=0 then none else some (.i k (a.tmod b)):=by simp[dG,arith]
def bLr(t:Bool)(k:IntKind)(a b:Int):dG .eql t (.d (.i k a)) (.d (.i k b))=some (.b (a==b)):=by simp[dG,arith]
def bLl(t:Bool)(k:IntKind)(a b:Int):dG .neq t (.d (.i k a)) (.d (.i k b))=some (.b (a != b)):=by simp[dG,arith]
def bLn(t:Bool)(k:IntKind)(a b:Int):dG .lss t (.d (.i k a)) (.d (.i k b))=some (.b (decide (a<b))):=by simp[dG,arith]
def bLo(t:Bool)(k:IntKind)(a b:Int):dG .leq t (.d (.i k a)) (.d (.i k b))=some (.b (decide (a<=b))):=by simp[dG,arith]
def bLp(t:Bool)(k:IntKind)(a b:Int):dG .gtr t (.d (.i k a)) (.d (.i k b))=some (.b (decide (b<a))):=by simp[dG,arith]
def bLq(t:Bool)(k:IntKind)(a b:Int):dG .geq t (.d (.i k a)) (.d (.i k b))=some (.b (decide (b<=a))):=by simp[dG,arith]
def bLi(t:Bool)(k k':IntKind)(a b:Int):dG .shl t (.d (.i k a)) (.d (.i k' b))=dT .shl k a b:=by simp[dG]
def bLh(t:Bool)(k k':IntKind)(a b:Int):dG .shr t (.d (.i k a)) (.d (.i k' b))=dT .shr k a b:=by simp[dG]
def bBa(op:BinOp)(t:Bool)(x:AV):dG op t x .nil=none:=by unfold dG;split<;>simp_all
def bOf(p:Bool):unA .not (.d (.b p))=some (.b !p):=rfl
def bOg(k:IntKind)(a:Int):unA .neg (.d (.i k a))=some (.i k (k.wrap (0-a))):=rfl
def aZa(op:BinOp)(x y:AV):aZb op none x y=none:=rfl
def bGr(op:BinOp)(e:TypeId)(x:AV):aZb op (some e) x .nil=(aBn x).bind (bRi op):=rfl
def bZy(x:Bool):aL (.b x)=.d (.b x):=rfl
def bZx(k:IntKind)(n:Int):aL (.i k n)=.d (.i k n):=rfl
def bSr(l:List (List D)):aL (.sl l)=.d (.sl l):=rfl
def bSu(l:List D):aL (.ag l)=.ag (l.map .d):=rfl
def cDh(x:Bool):inj (.b x)=.d (.b x):=rfl
def cDg(k:IntKind)(n:Int):inj (.i k n)=.d (.i k n):=rfl
def bZu(l:List (List D)):inj (.sl l)=.d (.sl l):=rfl
def bZw(l:List D):inj (.ag l)=.ag (l.map .d):=rfl
def bZt(l:List D):inj (.tp l)=.tp (l.map aL):=rfl
def bPb(l:List Nat)(x:D):jK l (.d x)=.d x:=rfl
def aXo(l:List Nat):jK l .nil=.nil:=rfl
def bEh(l:List Nat):jK l .un=.un:=rfl
def aXp(l:List Nat):jK l .any=.any:=rfl
def aXn(l:List Nat)(a b c d:Nat):jK l (.own a b c d)=if a∈l then .any else .own a b c d:=rfl
def aXm(l:List Nat)(a b:Nat):jK l (.ptr a b)=if a∈l then .any else .ptr a b:=rfl
def bEj(l:List Nat)(a:Nat):jK l (.mp a)=if a∈l then .any else .mp a:=rfl
def bEk(l:List Nat)(c:List D):jK l (.fp c)=.fp c:=rfl
def bEm(l:List Nat)(c:List (List D)):jK l (.fd c)=.fd c:=rfl
def bEn(l:List Nat)(c:List AV):jK l (.ag c)=.ag (c.map (dY l)):=rfl
def bEi(l:List Nat)(c:List AV):jK l (.tp c)=.tp (c.map (aAm l)):=rfl
def bEo(l:List Nat)(x:D):dY l (.d x)=.d x:=rfl
def aQm(l:List Nat):dY l .nil=.nil:=rfl
def aXq(l:List Nat):dY l .un=.un:=rfl
def aQn(l:List Nat):dY l .any=.any:=rfl
def aQl(l:List Nat)(a b c d:Nat):dY l (.own a b c d)=if a∈l then .any else .own a b c d:=rfl
def aQk(l:List Nat)(a b:Nat):dY l (.ptr a b)=if a∈l then .any else .ptr a b:=rfl
def tZ(l:List Nat)(e:TypeId)(cs:List AV):fU l (.cells e cs)=.cells e (cs.map (dY l)):=rfl
def aKz(l:List Nat)(e:TypeId)(ds:List D):fU l (.cells e (ds.map .d))=.cells e (ds.map .d):=by rw[tZ,aEv]
def bDl(H:Hp)(sz:Nat):aDs H sz .nil=some (0,[]):=rfl
def bDm(H:Hp)(sz:Nat)(els:List (List D)):aDs H sz (.d (.sl els))=if fH sz els=true/\(els.flatten.map AV.d).all one=true then some (els.length,els.flatten.map .d)else none:=rfl
def bOn(H:Hp)(sz:Nat)(els:List (List D)):aDs H sz (.fd els)=if fH sz els=true/\(els.flatten.map AV.d).all one=true then some (els.length,els.flatten.map .d)else none:=rfl
def bDj(ho:Option HO)(sz off len sz':Nat):Option (Nat×List AV):=match ho with
  |some (.cells _ cs)=>if sz'=sz/\(off+len)*sz<=cs.length/\((cs.drop (off*sz)).take (len*sz)).all one=true then some (len,(cs.drop (off*sz)).take (len*sz))else none
  |_=>none
def bDk(H:Hp)(sz id off len sz':Nat):aDs H sz (.own id off len sz')=bDj (H id) sz off len sz':=rfl
def aHm(e:TypeId)(cs:List AV)(sz off len sz':Nat):bDj (some (.cells e cs)) sz off len sz'=if sz'=sz/\(off+len)*sz<=cs.length/\((cs.drop (off*sz)).take (len*sz)).all one=true then some (len,(cs.drop (off*sz)).take (len*sz))else none:=rfl
def aRe(sz:Nat):fH sz []=true:=rfl
def aMi(sz:Nat)(a:List D)(l:List (List D)):fH sz (a::l)=(a.length==sz):=rfl
def bMa(e : TypeId)(sz bt n : Nat)(s : AV)(ho : Option HO)(p : Nat×List AV) : Option (AV×Option HO×List Nat) := match s with
      |.nil=>if p.1=0 then some (.nil,none,[])else if p.1*bt<=140737488355328/\p.1<=maxLen then some (.own n 0 p.1 sz,some (.cells e p.2),[])else none
      | .own id off len sz'=>match ho with
        | some (.cells e' cs)=>if off=0/\sz'=sz/\e'=e/\cs.length=len*sz/\(len+p.1)*bt<=140737488355328/\len+p.1<=maxLen then
            some (.own n 0 (len+p.1) sz,some (.cells e (cs++p.2)),[id])else none
        |_=>none
      | .fd els => if 0 < p.1 /\ fH sz els = true /\ (els.flatten.map AV.d).all one = true /\ (els.length + p.1)*bt <= 140737488355328 /\ els.length + p.1 <= maxLen then
            some (.own n 0 (els.length+p.1) sz,some (.cells e (els.flatten.map .d++p.2)),[])else if p.1=0 then some (.fd els,none,[])else none
      |_=>none
def aUp:AV->Nat
 |.own id _ _ _=>id
 |_=>0
def bMb(H:Hp)(t:TypeId)(s x:AV)(n:Nat):aEh P H t s x n=(tel P t).bind λe=>(tsz P e).bind λsz=>(tby P e).bind λbt=>(tz P e).bind λz=>(aDs H sz x).bind λp =>
  if z.cells.size=sz/\0<sz then bMa e sz bt n s (H (aUp s)) p else none:=by
 unfold aEh
 congr;funext e;congr;funext sz;congr;funext bt;congr;funext z;congr;funext p
 split
 ·cases s<;>rfl
 ·rfl
def aYs(a b c d:Nat):aUp (.own a b c d)=a:=rfl
def aYt:aUp .nil=0:=rfl
def bFy(l:List (List D)):aUp (.fd l)=0:=rfl
def bVc(e : TypeId)(sz bt n : Nat)(ho : Option HO)(els : List (List D))(m : Nat)(cs : List AV) : bMa e sz bt n (.fd els) ho (m, cs) = if 0 < m /\ fH sz els = true /\ (els.flatten.map AV.d).all one = true /\ (els.length + m)*bt <= 140737488355328 /\ els.length + m <= maxLen then
            some (.own n 0 (els.length+m) sz,some (.cells e (els.flatten.map .d++cs)),[])else if m=0 then some (.fd els,none,[])else none:=rfl
def bLz(e:TypeId)(sz bt n:Nat)(ho:Option HO)(m:Nat)(cs:List AV):bMa e sz bt n .nil ho (m,cs)=if m=0 then some (.nil,none,[])else if m*bt<=140737488355328/\m<=maxLen then some (.own n 0 m sz,some (.cells e cs),[])else none:=rfl
def bLy(e e' : TypeId)(sz bt n id off len sz' : Nat)(cs : List AV)(m : Nat)(ds : List AV) : bMa e sz bt n (.own id off len sz') (some (.cells e' cs)) (m, ds) = if off = 0 /\ sz' = sz /\ e' = e /\ cs.length = len*sz /\ (len + m)*bt <= 140737488355328 /\ len + m <= maxLen then
            some (.own n 0 (len+m) sz,some (.cells e (cs++ds)),[id])else none:=rfl
def ldC(ag:Bool)(sz:Option Nat)(off:Nat)(ho:Option HO):Option AV:=match ho with
  |some (.cells _ cs)=>if ag then sz.bind λsz=>if off+sz<=cs.length then some (.ag ((cs.drop off).take sz))else none else cs[off]?
  |_=>none
def aZi(H:Hp)(t:TypeId)(id off:Nat):uQ P H t (.ptr id off)=(cA P t).bind λag=>ldC ag (tsz P t) off (H id):=rfl
def aZm(ag:Bool)(sz:Option Nat)(off:Nat)(e:TypeId)(cs:List AV):ldC ag sz off (some (.cells e cs))=if ag then sz.bind λsz=>if off+sz<=cs.length then some (.ag ((cs.drop off).take sz))else none else cs[off]? := rfl
def bHb(H:Hp)(t:TypeId)(cs:List D):uQ P H t (.fp cs)=(cA P t).bind λag=>if ag then(tsz P t).bind λsz=>if sz<=cs.length then some (.ag ((cs.take sz).map .d))else none else(cs[0]?).map .d:=rfl
def stC(id off:Nat)(sz:Option Nat)(vs:Option (List AV))(ho:Option HO):Option (Nat×HO):=match ho with
  |some (.cells e cs)=>vs.bind λvs=>sz.bind λsz=>if vs.length=sz/\off+sz<=cs.length then some (id,.cells e (lay cs off vs))else none
  |_=>none
def aQb(H:Hp)(t:TypeId)(id off:Nat)(x:AV):nS P H t (.ptr id off) x=stC id off (tsz P t) (cY x) (H id):=rfl
def aXh(id off:Nat)(sz:Option Nat)(vs:Option (List AV))(e:TypeId)(cs:List AV):stC id off sz vs (some (.cells e cs))=vs.bind λvs=>sz.bind λsz=>if vs.length=sz/\off+sz<=cs.length then some (id,.cells e (lay cs off vs))else none:=rfl
def aBz(H:Hp)(n id off len sz:Nat):frz H (n+1) (.own id off len sz)=match H id with
  |some (.cells _ cs)=>if(off+len)*sz<=cs.length/\0<sz then(((cs.drop (off*sz)).take (len*sz)).mapM (frz H n)).map λl=>.sl (chunk sz len l)else none
  |_=>none:=rfl
def bFg(σ:St)(t:Nat):kD P σ (.tmp t)=some (σ.Γ t):=rfl
def aXz(σ:St)(ad t:Nat):kD P σ (.cell ad t)=uQ P σ.H t (σ.Γ ad):=rfl
def bFf(x:ResultVar)(σ:St):jA P [x] σ=(kD P σ x).bind λav=>frz σ.H 8 av:=by
 unfold jA;simp only[Cp,GD,DK,C2];cases kD P σ x with
 |none=>rfl
 | some av =>
  simp only[Option.bind_some,cI,Cp,GD,DK,C2];cases frz σ.H 8 av<;>rfl
def bHt(H:Hp):kill [] H=H:=rfl
def bHs(a:Nat)(H:Hp):kill [a] H=λid=>if id=a then none else H id:=by funext id;simp[kill]
def bBg(H:Hp)(n:Nat):gT H n none=H:=rfl
def bBf(H:Hp)(n:Nat)(o:HO):gT H n (some o)=upd H n (some o):=rfl
def bKr(n:Nat):cnt none n=n:=rfl
def bKq(n:Nat)(o:HO):cnt (some o) n=n+1:=rfl
def aYn(Γ:Nat->AV)(d:Nat)(v:AV):bI Γ (some d) v=upd Γ d v:=rfl
def aYo(Γ:Nat->AV)(v:AV):bI Γ none v=Γ:=rfl
def aPt{α:Type}(f:Nat->α)(k j:Nat)(x:α):upd f k x j=if j=k then x else f j:=rfl
def aZy(place:Nat->Option (Nat×Nat))(cells:List AV):lQ place cells []=some cells:=rfl
def bWe(place:Nat->Option (Nat×Nat))(cells:List AV)(pl:Option (Nat×Nat))(cs:Option (List AV))(rest:List (Nat×AV)):Option (List AV):=match pl,cs with
 |some (off,size),some cs=>if cs.length=size/\off+cs.length<=cells.length then lQ place (lay cells off cs) rest else none
 |_,_=>none
def aSe(place:Nat->Option (Nat×Nat))(cells:List AV)(i:Nat)(x:AV)(rest:List (Nat×AV)):lQ place cells ((i,x)::rest)=bWe place cells (place i) (cY x) rest:=rfl
def aSd(place:Nat->Option (Nat×Nat))(cells:List AV)(off size:Nat)(cs:List AV)(rest:List (Nat×AV)):bWe place cells (some (off,size)) (some cs) rest=if cs.length=size/\off+cs.length<=cells.length then lQ place (lay cells off cs) rest else none:=rfl
def aQh(sz:Nat)(els:List (List D))(l h:Int)(full:Bool):iI sz (.d (.sl els)) l h full=if 0<=l/\l<=h then if h<=els.length/\fH sz els=true then some (if full then .fd ((els.take h.toNat).drop l.toNat)else .d (.sl ((els.take h.toNat).drop l.toNat)))else none else none:=rfl
def aXk(sz:Nat)(els:List (List D))(l h:Int)(full:Bool):iI sz (.fd els) l h full=if 0<=l/\l<=h then if h<=els.length/\fH sz els=true then some (if full then .fd ((els.take h.toNat).drop l.toNat)else .d (.sl ((els.take h.toNat).drop l.toNat)))else none else none:=rfl
def aHc(ops:Array Oper)(dst:Option Tmp)(op:Op)(ty:TypeId)(pos:String)(after:Array Edge)(j:Nat)(w:Bool)(Γ:Nat->AV):cV ops ⟨dst,op,ty,pos,after,some (j,w)⟩ Γ =
  match(ops[j]?).bind (·.dst)with
  |none=>some false
  | some d=>match Γ d with
   |.d (.b x)=>some (x==w)
   |.un=>some false
   |_=>none:=rfl
def bWq(args:List D)(N t:Nat):Γ0 args N t=match args[t]? with|some d=>aL d|none=>.un:=by unfold Γ0;cases args[t]?<;>simp
def qF(m:List Nat)(f:Nat->D):fH 1 (m.map λx=>[f x])=true:=by cases m<;>rfl
end Go.Am
end
section
open List renaming map_map->C,mapM_map->L
namespace Go.Am
def val:List Nat->Nat
 |[]=>0
 |x::l=>x+4294967296*val l
def Lim(l:List Nat):Prop:=∀x∈l,x<4294967296
def Lim.nil:Lim []:=λ_ h=>by cases h
def Lim.cons{x:Nat}{l:List Nat}(h:x<4294967296)(k:Lim l):Lim (x::l):=λy hy=>by
 rcases Bn.1 hy with rfl|hy
 ·exact h
 ·exact k y hy
def Lim.app{a b:List Nat}(h:Lim a)(k:Lim b):Lim (a++b):=λy hy=>by
 rcases List.mem_append.1 hy with hy|hy
 ·exact h y hy
 ·exact k y hy
def Lim.one{x:Nat}(h:x<4294967296):Lim [x]:=.cons h .nil
def Lim.take{l:List Nat}(h:Lim l)(n:Nat):Lim (l.take n):=λy hy=>h y (List.mem_of_mem_take hy)
def Lim.get{l:List Nat}(h:Lim l){i:Nat}(hi:i<l.length):l[i]<4294967296:=h _ (Bz hi)
def Lim.getD{l:List Nat}(h:Lim l)(i:Nat):l.getD i 0<4294967296:=by
 rw[Ac];rcases A4 i l.length with hi|hi
 ·rw[Ab hi];exact h.get hi
 ·rw[AW hi];decide
def Lim.rep(n:Nat):Lim (Av n 0):=λy hy=>by rw[(List.mem_replicate.1 hy).2];decide
def Lim.set{l:List Nat}(h:Lim l)(i:Nat){x:Nat}(hx:x<4294967296):Lim (l.set i x):=λy hy=>by
 rcases List.mem_or_eq_of_mem_set hy with hy|rfl
 ·exact h y hy
 ·exact hx
def kM(a b:List Nat):val (a++b)=val a+4294967296^a.length*val b:=by
 induction a with
 |nil=>simp[val]
 | cons x a ih =>
  simp only[Co,val,ih,Ak,BR,Cx];rw[Nat.mul_comm (4294967296^a.length) 4294967296,Nat.mul_assoc];omega
def zB(n:Nat):val (Av n 0)=0:=by
 induction n with
 |zero=>rfl
 |succ n ih=>simp[Cz,val,ih]
def pQ{l:List Nat}(h:Lim l):val l<4294967296^l.length:=by
 induction l with
 |nil=>simp[val]
 | cons x l ih =>
  have h1:=h x (AI ..);have h2:=ih λy hy=>h y (AE _ hy)
  simp only[val,Ak,BR];omega
def cF(l:List Nat)(i:Nat):val (l.take (i+1))=val (l.take i)+4294967296^i*l.getD i 0:=by
 rcases A4 i l.length with hi|hi
 ·rw[List.take_add_one,Ab hi,kM,AZ,De (by omega),Ac,Ab hi];simp[val]
 ·rw[As (by omega),As (by omega),Ac,AW hi];simp
def aJ(n:Nat):List Nat:=if h:n=0 then[]else n%4294967296::aJ (n/4294967296)
termination_by n
decreasing_by omega
def bZ:aJ 0=[]:=by rw[aJ];simp
def gB{n:Nat}(h:n≠0):aJ n=n%4294967296::aJ (n/4294967296):=by rw[aJ];simp[h]
def gD{n:Nat}:aJ n=[]↔n=0:=by
 constructor
 ·intro h;by_cases hn:n=0
  ·exact hn
  ·rw[gB hn]at h;cases h
 ·rintro rfl;exact bZ
def aCj{p:Nat->Prop}(h0:p 0)(h1:∀n,n≠0->p (n/4294967296)->p n):∀n,p n:=λn=>by
 induction n using FT with
 | _ n ih =>
  by_cases hn:n=0
  ·subst hn;exact h0
  ·exact h1 n hn (ih _ (by omega))
def cD(n:Nat):val (aJ n)=n:=by refine aCj (p:=λn=>val (aJ n)=n) (by rw[bZ];rfl) (λn hn ih=>?_) n;rw[gB hn,val,ih];omega
def bT(n:Nat):Lim (aJ n):=by refine aCj (p:=λn=>Lim (aJ n)) (by rw[bZ];exact .nil) (λn hn ih=>?_) n;rw[gB hn];exact .cons (by omega) ih
def lV(l:List Nat):Prop:=l.getLast? ≠ some 0
def lS(n:Nat):lV (aJ n):=by
 refine aCj (p:=λn=>lV (aJ n)) (by rw[bZ];simp[lV]) (λn hn ih=>?_) n;rw[gB hn];by_cases h:n/4294967296=0
 ·rw[h,bZ];simp only[lV,List.getLast?_singleton,ne_eq,Ax];omega
 ·unfold lV at ih ⊢;rw[gB h]at ih ⊢;simpa[GJ]using ih
def strip:List Nat->List Nat
 |[]=>[]
 | x::l=>match strip l with
  |[]=>if x=0 then[]else[x]
  |l'=>x::l'
def fF{l:List Nat}(h:Lim l):strip l=aJ (val l):=by
 induction l with
 |nil=>rw[val,bZ];rfl
 | cons x l ih =>
  have hx:=h x (AI ..);have hl:=ih λy hy=>h y (AE _ hy)
  simp only[strip,val];rw[hl];by_cases h0:val l=0
  ·rw[h0,bZ];simp only[Nat.mul_zero,Nat.add_zero];by_cases hx0:x=0
   ·subst hx0;rw[bZ];rfl
   ·rw[Ai hx0,gB hx0,Nat.mod_eq_of_lt hx,Nat.div_eq_of_lt hx,bZ]
  ·rw[gB (n:=x+_) (by omega)];have e1:(x+4294967296*val l)%4294967296=x:=by omega
   have e2:(x+4294967296*val l)/4294967296=val l:=by omega
   rw[e1,e2];have:aJ (val l)≠[]:=λe=>h0 (gD.1 e)
   cases hd:aJ (val l)with
   |nil=>exact(this hd).elim
   |cons=>rfl
def aAg(l:List Nat):strip (l++[0])=strip l:=by
 induction l with
 |nil=>rfl
 |cons x l ih=>simp only[Co,strip,ih]
def pS{l:List Nat}(h:lV l):strip l=l:=by
 induction l with
 |nil=>rfl
 | cons x l ih =>
  cases l with
  | nil =>
   have:x≠0:=by simpa[lV]using h
   simp[strip,this]
  | cons y l =>
   have h2:lV (y::l):=by simpa[lV,GJ]using h
   have h3:=ih h2;rw[strip,h3]
def bKc{l:List Nat}(h:Lim l)(hc:lV l):aJ (val l)=l:=by rw[<-fF h,pS hc]
def cU{n k:Nat}(h:n<4294967296^k):(aJ n).length<=k:=by
 induction k generalizing n with
 |zero=>simp at h;subst h;rw[bZ];simp
 | succ k ih =>
  by_cases hn:n=0
  ·subst hn;rw[bZ];simp
  ·rw[gB hn,Ak];have:n/4294967296<4294967296^k:=by rw[BR]at h;omega
   have:=ih this;omega
def lK{n k:Nat}(h:(aJ n).length<=k):n<4294967296^k:=by have h1:=pQ (bT n);rw[cD]at h1;exact A6 h1 (Nat.pow_le_pow_right (by decide) h)
def eK{a b:Nat}(h:a<=b):(aJ a).length<=(aJ b).length:=cU (Nat.lt_of_le_of_lt h (lK (Ay _)))
def gQ{a b:Nat}(h:(aJ a).length<(aJ b).length):a<b:=by
 rcases A4 a b with h'|h'
 ·exact h'
 ·have:=eK h';omega
def rD{a b:List Nat}(ha:Lim a){i:Nat}(hl:a.length=b.length)(hi:i<a.length)(hd:a.drop (i+1)=b.drop (i+1))(hlt:a.getD i 0<b.getD i 0):val a<val b:=by
 have e1:a=a.take (i+1)++a.drop (i+1):=(Dx _ _).symm;have e2:b=b.take (i+1)++b.drop (i+1):=(Dx _ _).symm;rw[e1,e2,kM,kM,hd,cF,cF];have h1:=pQ (ha.take i);rw[AZ,De (by omega)]at h1;have h2:(a.take (i+1)).length=(b.take (i+1)).length:=by simp[hl]
 rw[h2];have h3:4294967296^i*(a.getD i 0+1)<=4294967296^i*b.getD i 0:=Nat.mul_le_mul_left _ hlt;rw[Cx,Dj]at h3;omega
def aB(m:List Nat):D:=.sl (m.map λ(x:Nat)=>[D.i .u32 (x:Int)])
def lms(m:List Nat):List D:=m.map λ(x:Nat)=>D.i .u32 (x:Int)
def jV(m:List Nat):(lms m).length=m.length:=by simp[lms]
def eE(a b:List Nat):lms (a++b)=lms a++lms b:=by simp[lms]
def eP(x:Nat):lms [x]=[D.i .u32 (x:Int)]:=rfl
def aVf{m:List Nat}{i x:Nat}(h:m[i]? = some x):(lms m)[i]? = some (.i .u32 (x:Int)):=by simp[lms,h]
def uR(m:List Nat)(i x:Nat):(lms m).set i (.i .u32 (x:Int))=lms (m.set i x):=by simp[lms,List.map_set]
def aNc(m:List Nat):(m.map λ(x:Nat)=>[D.i .u32 (x:Int)]).flatten=lms m:=by unfold lms;induction m<;>simp_all
def aVg(m:List Nat):((lms m).map AV.d).all one=true:=by simp[lms,one]
def bHd(m:List Nat):(∀x,x∈lms m->one (AV.d x)=true)↔True:=⟨λ_=>trivial,λ_ x hx=>by
 obtain⟨y,_,rfl⟩:=List.mem_map.1 hx;rfl⟩
def bSb(n:Nat):Av n (D.i .u32 0)=lms (Av n 0):=by simp[lms]
def bPs(n:Nat):Av n (AV.d (D.i .u32 0))=(lms (Av n 0)).map .d:=by simp[lms]
def dP{m:List Nat}{n:Nat}(h:m.length=n):chunk 1 n (lms m)=m.map λ(x:Nat)=>[D.i .u32 (x:Int)]:=by rw[kZ _ _ (by rw[jV];exact h.symm)];simp[lms]
def cN{m:List Nat}{n:Nat}(h:m.length=n):List.take n ((lms m).map AV.d)=(lms m).map AV.d:=As (by simp[jV,h])
def encI(neg:Bool)(m:List Nat):D:=.ag [.b neg,aB m]
def encZ(z:Int):D:=encI (decide (z<0)) (aJ z.natAbs)
def sg(neg:Bool)(n:Nat):Int:=if neg then -(n:Int)else n
def bTu(neg:Bool)(n:Nat):encI (neg&&decide (n≠0)) (aJ n)=encZ (sg neg n):=by
 unfold encZ sg;cases neg
 ·have h:decide ((n:Int)<0)=false:=by simp
  simp[h]
 ·simp only[Bool.true_and,AH,Int.natAbs_neg,Int.natAbs_natCast];congr 1;rw[Bool.eq_iff_iff];simp;omega
def fN(z:Int):sg (decide (z<0)) z.natAbs=z:=by
 unfold sg;by_cases h:z<0
 ·rw[Aq (by simpa using h)];omega
 ·rw[Ai (by simpa using h)];omega
def wrap_i64{n:Int}(h1:-9223372036854775808<=n)(h2:n<=9223372036854775807):Ah.wrap n=n:=by simp[E2,Et,CK];omega
def aP{n:Int}(h1:-9223372036854775808<=n:=by omega)(h2:n<=9223372036854775807:=by omega):Ah.wrap n=n:=wrap_i64 h1 h2
def wrap_u64{n:Int}(h1:0<=n)(h2:n<18446744073709551616):AB.wrap n=n:=by simp[E2,Et,CK];omega
def wC(n:Int):AB.wrap n=n%18446744073709551616:=by simp[E2,Et,CK]
def fM(n:Int):BI.wrap n=n%4294967296:=by simp[E2,Et,CK]
def wrap_u32{n:Int}(h1:0<=n)(h2:n<4294967296):BI.wrap n=n:=by rw[fM];omega
end Go.Am
end
section
open Go Go.Proofs
namespace Go.Am
@[simp]def cFq:tsz Aa 2=some 1/\tby Aa 2=some 8/\tz Aa 2=some (.int .i64 0)/\cA Aa 2=some false/\tel Aa 2=none/\bL Aa 2=false/\(Ap Aa 2).isSome=true/\fD Aa 2=some .i64/\tsz Aa 3=some 1/\tby Aa 3=some 8/\tz Aa 3=some (.int .i64 0)/\cA Aa 3=some false/\tel Aa 3=none/\bL Aa 3=false/\(Ap Aa 3).isSome=true/\fD Aa 3=some .i64/\tsz Aa 4=some 1/\tby Aa 4=some 1/\tz Aa 4=some (.bool false)/\cA Aa 4=some false/\tel Aa 4=none/\bL Aa 4=true/\(Ap Aa 4).isSome=true/\tsz Aa 5=some 1/\tby Aa 5=some 1/\tz Aa 5=some (.int .u8 0)/\cA Aa 5=some false/\tel Aa 5=none/\bL Aa 5=false/\(Ap Aa 5).isSome=true/\fD Aa 5=some .u8/\tsz Aa 6=some 1/\tby Aa 6=some 1/\tz Aa 6=some (.int .u8 0)/\cA Aa 6=some false/\tel Aa 6=none/\bL Aa 6=false/\(Ap Aa 6).isSome=true/\fD Aa 6=some .u8/\tsz Aa 7=some 4:=by and_intros<;>kernel_rfl
@[simp]def cFr:tby Aa 7=some 24/\tz Aa 7=some (.agg #[.int .i64 0,.int .i64 0,.bool false,.int .u8 0])/\cA Aa 7=some true/\tel Aa 7=none/\bL Aa 7=false/\(Ap Aa 7).isSome=true/\eM Aa 7=some [(0,1),(1,1),(2,1),(3,1)]/\tsz Aa 8=some 4/\tby Aa 8=some 24/\tz Aa 8=some (.agg #[.int .i64 0,.int .i64 0,.bool false,.int .u8 0])/\cA Aa 8=some true/\tel Aa 8=none/\bL Aa 8=false/\(Ap Aa 8).isSome=true/\eM Aa 8=some [(0,1),(1,1),(2,1),(3,1)]/\tsz Aa 12=some 1/\tby Aa 12=some 8/\tz Aa 12=some (.int .u64 0)/\cA Aa 12=some false/\tel Aa 12=none/\bL Aa 12=false/\(Ap Aa 12).isSome=true/\fD Aa 12=some .u64/\tsz Aa 21=some 1/\tby Aa 21=some 4/\tz Aa 21=some (.int .i32 0)/\cA Aa 21=some false/\tel Aa 21=none/\bL Aa 21=false/\(Ap Aa 21).isSome=true/\fD Aa 21=some .i32/\tsz Aa 22=some 1/\tby Aa 22=some 24/\tz Aa 22=some (.slice none 0 0)/\cA Aa 22=some false/\tel Aa 22=some 84/\bL Aa 22=false/\(Ap Aa 22).isSome=true/\tsz Aa 23=some 1/\tby Aa 23=some 24:=by and_intros<;>kernel_rfl
@[simp]def cFp:tz Aa 23=some (.agg #[.slice none 0 0])/\cA Aa 23=some true/\tel Aa 23=none/\bL Aa 23=false/\(Ap Aa 23).isSome=true/\eM Aa 23=some [(0,1)]/\tsz Aa 24=some 1/\tby Aa 24=some 24/\tz Aa 24=some (.agg #[.slice none 0 0])/\cA Aa 24=some true/\tel Aa 24=none/\bL Aa 24=false/\(Ap Aa 24).isSome=true/\eM Aa 24=some [(0,1)]/\tsz Aa 25=some 1/\tby Aa 25=some 1/\tz Aa 25=some (.int .i8 0)/\cA Aa 25=some false/\tel Aa 25=none/\bL Aa 25=false/\(Ap Aa 25).isSome=true/\fD Aa 25=some .i8/\tsz Aa 27=some 1/\tby Aa 27=some 24/\tz Aa 27=some (.slice none 0 0)/\cA Aa 27=some false/\tel Aa 27=some 78/\bL Aa 27=false/\(Ap Aa 27).isSome=true/\tsz Aa 29=some 1/\tby Aa 29=some 24/\tz Aa 29=some (.slice none 0 0)/\cA Aa 29=some false/\tel Aa 29=some 89/\bL Aa 29=false/\(Ap Aa 29).isSome=true/\tsz Aa 30=some 2/\tby Aa 30=some 32/\tz Aa 30=some (.agg #[.bool false,.slice none 0 0])/\cA Aa 30=some true:=by and_intros<;>kernel_rfl
@[simp]def cEj:tel Aa 30=none/\bL Aa 30=false/\(Ap Aa 30).isSome=true/\eM Aa 30=some [(0,1),(1,1)]/\tsz Aa 31=some 2/\tby Aa 31=some 32/\tz Aa 31=some (.agg #[.bool false,.slice none 0 0])/\cA Aa 31=some true/\tel Aa 31=none/\bL Aa 31=false/\(Ap Aa 31).isSome=true/\eM Aa 31=some [(0,1),(1,1)]/\tsz Aa 32=some 1/\tby Aa 32=some 24/\tz Aa 32=some (.slice none 0 0)/\cA Aa 32=some false/\tel Aa 32=some 3/\bL Aa 32=false/\(Ap Aa 32).isSome=true/\tsz Aa 33=some 3/\tby Aa 33=some 56/\tz Aa 33=some (.agg #[.bool false,.slice none 0 0,.slice none 0 0])/\cA Aa 33=some true/\tel Aa 33=none/\bL Aa 33=false/\(Ap Aa 33).isSome=true/\eM Aa 33=some [(0,2),(2,1)]/\tsz Aa 34=some 3/\tby Aa 34=some 56/\tz Aa 34=some (.agg #[.bool false,.slice none 0 0,.slice none 0 0])/\cA Aa 34=some true/\tel Aa 34=none/\bL Aa 34=false/\(Ap Aa 34).isSome=true/\eM Aa 34=some [(0,2),(2,1)]/\tsz Aa 35=some 1/\tby Aa 35=some 8/\tz Aa 35=some (.int .i64 0)/\cA Aa 35=some false/\tel Aa 35=none:=by and_intros<;>kernel_rfl
@[simp]def cBu:bL Aa 35=false/\(Ap Aa 35).isSome=true/\fD Aa 35=some .i64/\tsz Aa 46=some 1/\tby Aa 46=some 24/\tz Aa 46=some (.slice none 0 0)/\cA Aa 46=some false/\tel Aa 46=some 51/\bL Aa 46=false/\(Ap Aa 46).isSome=true/\tsz Aa 51=some 1/\tby Aa 51=some 8/\tz Aa 51=some (.int .u64 0)/\cA Aa 51=some false/\tel Aa 51=none/\bL Aa 51=false/\(Ap Aa 51).isSome=true/\fD Aa 51=some .u64/\tsz Aa 53=some 1/\tby Aa 53=some 24/\tz Aa 53=some (.slice none 0 0)/\cA Aa 53=some false/\tel Aa 53=some 25/\bL Aa 53=false/\(Ap Aa 53).isSome=true/\tsz Aa 54=some 3/\tby Aa 54=some 32/\tz Aa 54=some (.agg #[.int .u8 0,.int .u8 0,.slice none 0 0])/\cA Aa 54=some true/\tel Aa 54=none/\bL Aa 54=false/\(Ap Aa 54).isSome=true/\eM Aa 54=some [(0,1),(1,1),(2,1)]/\tsz Aa 55=some 3/\tby Aa 55=some 32/\tz Aa 55=some (.agg #[.int .u8 0,.int .u8 0,.slice none 0 0])/\cA Aa 55=some true/\tel Aa 55=none/\bL Aa 55=false/\(Ap Aa 55).isSome=true:=by and_intros<;>kernel_rfl
@[simp]def cEe:eM Aa 55=some [(0,1),(1,1),(2,1)]/\tsz Aa 56=some 1/\tby Aa 56=some 24/\tz Aa 56=some (.slice none 0 0)/\cA Aa 56=some false/\tel Aa 56=some 5/\bL Aa 56=false/\(Ap Aa 56).isSome=true/\tsz Aa 57=some 4/\tby Aa 57=some 64/\tz Aa 57=some (.agg #[.int .u8 0,.slice none 0 0,.slice none 0 0,.int .u8 0])/\cA Aa 57=some true/\tel Aa 57=none/\bL Aa 57=false/\(Ap Aa 57).isSome=true/\eM Aa 57=some [(0,1),(1,1),(2,1),(3,1)]/\tsz Aa 58=some 4/\tby Aa 58=some 64/\tz Aa 58=some (.agg #[.int .u8 0,.slice none 0 0,.slice none 0 0,.int .u8 0])/\cA Aa 58=some true/\tel Aa 58=none/\bL Aa 58=false/\(Ap Aa 58).isSome=true/\eM Aa 58=some [(0,1),(1,1),(2,1),(3,1)]/\tsz Aa 59=some 1/\tby Aa 59=some 24/\tz Aa 59=some (.slice none 0 0)/\cA Aa 59=some false/\tel Aa 59=some 110/\bL Aa 59=false/\(Ap Aa 59).isSome=true/\tsz Aa 60=some 3/\tby Aa 60=some 40/\tz Aa 60=some (.agg #[.int .i64 0,.int .i64 0,.slice none 0 0])/\cA Aa 60=some true/\tel Aa 60=none/\bL Aa 60=false/\(Ap Aa 60).isSome=true/\eM Aa 60=some [(0,1),(1,1),(2,1)]/\tsz Aa 61=some 3:=by and_intros<;>kernel_rfl
@[simp]def cEl:tby Aa 61=some 40/\tz Aa 61=some (.agg #[.int .i64 0,.int .i64 0,.slice none 0 0])/\cA Aa 61=some true/\tel Aa 61=none/\bL Aa 61=false/\(Ap Aa 61).isSome=true/\eM Aa 61=some [(0,1),(1,1),(2,1)]/\tsz Aa 75=some 2/\tby Aa 75=some 16/\tz Aa 75=some (.agg #[.int .u64 0,.int .u64 0])/\cA Aa 75=some true/\tel Aa 75=none/\bL Aa 75=false/\(Ap Aa 75).isSome=true/\eM Aa 75=some [(0,1),(1,1)]/\tsz Aa 76=some 2/\tby Aa 76=some 16/\tz Aa 76=some (.agg #[.int .u64 0,.int .u64 0])/\cA Aa 76=some true/\tel Aa 76=none/\bL Aa 76=false/\(Ap Aa 76).isSome=true/\eM Aa 76=some [(0,1),(1,1)]/\tsz Aa 77=some 3/\tby Aa 77=some 24/\tz Aa 77=some (.agg #[.int .i64 0,.int .u64 0,.int .u64 0])/\cA Aa 77=some true/\tel Aa 77=none/\bL Aa 77=false/\(Ap Aa 77).isSome=true/\eM Aa 77=some [(0,1),(1,2)]/\tsz Aa 78=some 3/\tby Aa 78=some 24/\tz Aa 78=some (.agg #[.int .i64 0,.int .u64 0,.int .u64 0])/\cA Aa 78=some true/\tel Aa 78=none/\bL Aa 78=false/\(Ap Aa 78).isSome=true/\eM Aa 78=some [(0,1),(1,2)]/\tsz Aa 81=some 1:=by and_intros<;>kernel_rfl
@[simp]def cEk:tby Aa 81=some 24/\tz Aa 81=some (.slice none 0 0)/\cA Aa 81=some false/\tel Aa 81=some 2/\bL Aa 81=false/\(Ap Aa 81).isSome=true/\tsz Aa 84=some 3/\tby Aa 84=some 3/\tz Aa 84=some (.agg #[.int .u8 0,.int .u8 0,.int .u8 0])/\cA Aa 84=some true/\tel Aa 84=none/\bL Aa 84=false/\(Ap Aa 84).isSome=true/\eM Aa 84=none/\yJ Aa 84=some (3,5)/\tsz Aa 89=some 1/\tby Aa 89=some 4/\tz Aa 89=some (.int .u32 0)/\cA Aa 89=some false/\tel Aa 89=none/\bL Aa 89=false/\(Ap Aa 89).isSome=true/\fD Aa 89=some .u32/\tsz Aa 92=some 1/\tby Aa 92=some 24/\tz Aa 92=some (.slice none 0 0)/\cA Aa 92=some false/\tel Aa 92=some 76/\bL Aa 92=false/\(Ap Aa 92).isSome=true/\tsz Aa 94=some 1/\tby Aa 94=some 8/\tz Aa 94=some (.int .u64 0)/\cA Aa 94=some false/\tel Aa 94=none/\bL Aa 94=false/\(Ap Aa 94).isSome=true/\fD Aa 94=some .u64/\tsz Aa 110=some 1/\tby Aa 110=some 24:=by and_intros<;>kernel_rfl
@[simp]def cEi:tz Aa 110=some (.slice none 0 0)/\cA Aa 110=some false/\tel Aa 110=some 31/\bL Aa 110=false/\(Ap Aa 110).isSome=true/\tsz Aa 112=some 0/\tby Aa 112=some 0/\tz Aa 112=some (.agg #[])/\cA Aa 112=some true/\tel Aa 112=none/\bL Aa 112=false/\(Ap Aa 112).isSome=true/\eM Aa 112=some []/\tsz Aa 113=some 0/\tby Aa 113=some 0/\tz Aa 113=some (.agg #[])/\cA Aa 113=some true/\tel Aa 113=none/\bL Aa 113=false/\(Ap Aa 113).isSome=true/\eM Aa 113=some []/\tsz Aa 114=some 0/\tby Aa 114=some 0/\tz Aa 114=some (.agg #[])/\cA Aa 114=some true/\tel Aa 114=none/\bL Aa 114=false/\(Ap Aa 114).isSome=true/\eM Aa 114=some []/\tsz Aa 115=some 0/\tby Aa 115=some 0/\tz Aa 115=some (.agg #[])/\cA Aa 115=some true/\tel Aa 115=none/\bL Aa 115=false/\(Ap Aa 115).isSome=true/\eM Aa 115=some []/\tsz Aa 116=some 1/\tby Aa 116=some 8/\tz Aa 116=some (.agg #[.int .u64 0]):=by and_intros<;>kernel_rfl
@[simp]def cBv:cA Aa 116=some true/\tel Aa 116=none/\bL Aa 116=false/\(Ap Aa 116).isSome=true/\eM Aa 116=some [(0,0),(0,0),(0,1)]/\tsz Aa 117=some 1/\tby Aa 117=some 8/\tz Aa 117=some (.agg #[.int .u64 0])/\cA Aa 117=some true/\tel Aa 117=none/\bL Aa 117=false/\(Ap Aa 117).isSome=true/\eM Aa 117=some [(0,0),(0,0),(0,1)]/\tsz Aa 118=some 2/\tby Aa 118=some 16/\tz Aa 118=some (.agg #[.int .u64 0,.int .u32 0])/\cA Aa 118=some true/\tel Aa 118=none/\bL Aa 118=false/\(Ap Aa 118).isSome=true/\eM Aa 118=some [(0,0),(0,1),(1,1)]/\tsz Aa 119=some 2/\tby Aa 119=some 16/\tz Aa 119=some (.agg #[.int .u64 0,.int .u32 0])/\cA Aa 119=some true/\tel Aa 119=none/\bL Aa 119=false/\(Ap Aa 119).isSome=true/\eM Aa 119=some [(0,0),(0,1),(1,1)]/\tsz Aa 125=some 1/\tby Aa 125=some 8/\cA Aa 125=some false/\tel Aa 125=none/\bL Aa 125=false/\(Ap Aa 125).isSome=true/\tmp Aa 125=some (3,4)/\tsz Aa 131=some 1/\tby Aa 131=some 24/\tz Aa 131=some (.slice none 0 0)/\cA Aa 131=some false:=by and_intros<;>kernel_rfl
@[simp]def cDz:tel Aa 131=some 76/\bL Aa 131=false/\(Ap Aa 131).isSome=true/\tsz Aa 138=some 4/\tby Aa 138=some 32/\tz Aa 138=some (.agg #[.int .u64 0,.int .u64 0,.int .u64 0,.int .u64 0])/\cA Aa 138=some true/\tel Aa 138=none/\bL Aa 138=false/\(Ap Aa 138).isSome=true/\eM Aa 138=none/\yJ Aa 138=some (4,51)/\tsz Aa 144=some 1/\tby Aa 144=some 24/\tz Aa 144=some (.slice none 0 0)/\cA Aa 144=some false/\tel Aa 144=some 46/\bL Aa 144=false/\(Ap Aa 144).isSome=true/\tsz Aa 146=some 1/\tby Aa 146=some 24/\tz Aa 146=some (.slice none 0 0)/\cA Aa 146=some false/\tel Aa 146=some 31/\bL Aa 146=false/\(Ap Aa 146).isSome=true/\tsz Aa 148=some 1/\tby Aa 148=some 8/\cA Aa 148=some false/\tel Aa 148=none/\bL Aa 148=false/\(Ap Aa 148).isSome=true/\tmp Aa 148=some (51,4)/\tsz Aa 152=some 1/\tby Aa 152=some 8/\tz Aa 152=some (.int .i64 0)/\cA Aa 152=some false/\tel Aa 152=none/\bL Aa 152=false/\(Ap Aa 152).isSome=true:=by and_intros<;>kernel_rfl
@[simp]def cBt:fD Aa 152=some .i64/\tsz Aa 161=some 3/\tby Aa 161=some 40/\tz Aa 161=some (.agg #[.int .u64 0,.int .i64 0,.slice none 0 0])/\cA Aa 161=some true/\tel Aa 161=none/\bL Aa 161=false/\(Ap Aa 161).isSome=true/\eM Aa 161=some [(0,1),(1,1),(2,1)]/\tsz Aa 162=some 3/\tby Aa 162=some 40/\tz Aa 162=some (.agg #[.int .u64 0,.int .i64 0,.slice none 0 0])/\cA Aa 162=some true/\tel Aa 162=none/\bL Aa 162=false/\(Ap Aa 162).isSome=true/\eM Aa 162=some [(0,1),(1,1),(2,1)]/\tsz Aa 167=some 1/\tby Aa 167=some 24/\tz Aa 167=some (.slice none 0 0)/\cA Aa 167=some false/\tel Aa 167=some 171/\bL Aa 167=false/\(Ap Aa 167).isSome=true/\tsz Aa 168=some 4/\tby Aa 168=some 64/\tz Aa 168=some (.agg #[.bool false,.slice none 0 0,.bool false,.slice none 0 0])/\cA Aa 168=some true/\tel Aa 168=none/\bL Aa 168=false/\(Ap Aa 168).isSome=true/\eM Aa 168=some [(0,2),(2,2)]/\tsz Aa 169=some 4/\tby Aa 169=some 64/\tz Aa 169=some (.agg #[.bool false,.slice none 0 0,.bool false,.slice none 0 0])/\cA Aa 169=some true/\tel Aa 169=none/\bL Aa 169=false/\(Ap Aa 169).isSome=true/\eM Aa 169=some [(0,2),(2,2)]:=by and_intros<;>kernel_rfl
@[simp]def cDy:tsz Aa 171=some 1/\tby Aa 171=some 24/\tz Aa 171=some (.slice none 0 0)/\cA Aa 171=some false/\tel Aa 171=some 169/\bL Aa 171=false/\(Ap Aa 171).isSome=true/\tsz Aa 182=some 1/\tby Aa 182=some 8/\tz Aa 182=some (.int .i64 0)/\cA Aa 182=some false/\tel Aa 182=none/\bL Aa 182=false/\(Ap Aa 182).isSome=true/\fD Aa 182=some .i64/\tsz Aa 215=some 1/\tby Aa 215=some 8/\tz Aa 215=some (.int .u64 0)/\cA Aa 215=some false/\tel Aa 215=none/\bL Aa 215=false/\(Ap Aa 215).isSome=true/\fD Aa 215=some .u64/\tsz Aa 239=some 0/\tby Aa 239=some 0/\tz Aa 239=some (.agg #[])/\cA Aa 239=some true/\tel Aa 239=none/\bL Aa 239=false/\(Ap Aa 239).isSome=true/\eM Aa 239=none/\yJ Aa 239=some (0,16)/\tsz Aa 240=some 0/\tby Aa 240=some 0/\tz Aa 240=some (.agg #[])/\cA Aa 240=some true/\tel Aa 240=none/\bL Aa 240=false/\(Ap Aa 240).isSome=true/\eM Aa 240=some [(0,0)]:=by and_intros<;>kernel_rfl
@[simp]def cDx:tsz Aa 241=some 0/\tby Aa 241=some 0/\tz Aa 241=some (.agg #[])/\cA Aa 241=some true/\tel Aa 241=none/\bL Aa 241=false/\(Ap Aa 241).isSome=true/\eM Aa 241=some [(0,0)]/\tsz Aa 243=some 1/\tby Aa 243=some 1/\tz Aa 243=some (.int .u8 0)/\cA Aa 243=some false/\tel Aa 243=none/\bL Aa 243=false/\(Ap Aa 243).isSome=true/\fD Aa 243=some .u8/\tsz Aa 244=some 1/\tby Aa 244=some 1/\tz Aa 244=some (.int .u8 0)/\cA Aa 244=some false/\tel Aa 244=none/\bL Aa 244=false/\(Ap Aa 244).isSome=true/\fD Aa 244=some .u8/\tsz Aa 247=some 1/\tby Aa 247=some 4/\tz Aa 247=some (.int .i32 0)/\cA Aa 247=some false/\tel Aa 247=none/\bL Aa 247=false/\(Ap Aa 247).isSome=true/\fD Aa 247=some .i32/\tsz Aa 248=some 1/\tby Aa 248=some 4/\tz Aa 248=some (.int .i32 0)/\cA Aa 248=some false/\tel Aa 248=none/\bL Aa 248=false/\(Ap Aa 248).isSome=true/\fD Aa 248=some .i32:=by and_intros<;>kernel_rfl
@[simp]def aR:Go.Tables.follows Dt.toTables .mixedOrders=true:=by kernel_rfl
def aX [M:Mch Dt] {f N:Nat} {fn:Func} {c:Code} {args:List D} {r:D} (hf:Dt.funcs[f]? = some fn) (h:AWP Dt c (St0 args N) λe σ=>(e=.normal\/e=.ret)/\jA Dt fn.results.toList σ=some r) (hb:fn.body=some c:=by exact rfl) (hN:fn.ntmps=N:=by exact rfl) (hname:(fn.name == "runtime.NumGoroutine")=false:=by exact rfl) (hd:bN N c=true:=by kernel_rfl) (hl:bQ Dt c=true:=by kernel_rfl) (ha:args.length<=N:=by simp):Spec Dt f args r:=bOt aR hf hb hname hN hd hl ha h
@[simp]def cEs:aQ Aa 0=false/\aO Aa 0=true/\aQ Aa 1=false/\aO Aa 1=true/\aQ Aa 2=false/\aO Aa 2=true/\aQ Aa 3=false/\aO Aa 3=false/\aQ Aa 4=false/\aO Aa 4=false/\aQ Aa 5=false/\aO Aa 5=false/\aQ Aa 6=false/\aO Aa 6=false/\aQ Aa 7=false/\aO Aa 7=false/\aQ Aa 8=false/\aO Aa 8=false/\aQ Aa 9=false/\aO Aa 9=false/\aQ Aa 10=false/\aO Aa 10=false/\aQ Aa 11=false/\aO Aa 11=false/\aQ Aa 12=false/\aO Aa 12=false/\aQ Aa 13=false/\aO Aa 13=false/\aQ Aa 14=false/\aO Aa 14=false/\aQ Aa 15=false/\aO Aa 15=false/\aQ Aa 16=false/\aO Aa 16=false/\aQ Aa 17=false/\aO Aa 17=false/\aQ Aa 18=false/\aO Aa 18=false/\aQ Aa 19=false/\aO Aa 19=false:=by and_intros<;>kernel_rfl
@[simp]def cEd:aQ Aa 20=false/\aO Aa 20=false/\aQ Aa 21=false/\aO Aa 21=false/\aQ Aa 22=false/\aO Aa 22=false/\aQ Aa 23=false/\aO Aa 23=false/\aQ Aa 24=false/\aO Aa 24=false/\aQ Aa 25=false/\aO Aa 25=false/\aQ Aa 26=false/\aO Aa 26=false/\aQ Aa 27=false/\aO Aa 27=false/\aQ Aa 28=false/\aO Aa 28=false/\aQ Aa 29=false/\aO Aa 29=false/\aQ Aa 30=false/\aO Aa 30=false/\aQ Aa 31=false/\aO Aa 31=false/\aQ Aa 32=false/\aO Aa 32=false/\aQ Aa 33=false/\aO Aa 33=false/\aQ Aa 34=false/\aO Aa 34=false/\aQ Aa 35=false/\aO Aa 35=false/\aQ Aa 36=false/\aO Aa 36=false/\aQ Aa 37=false/\aO Aa 37=false/\aQ Aa 38=true/\aO Aa 38=false/\aQ Aa 39=false/\aO Aa 39=false:=by and_intros<;>kernel_rfl
@[simp]def cEc:aQ Aa 40=false/\aO Aa 40=false/\aQ Aa 41=false/\aO Aa 41=false/\aQ Aa 42=false/\aO Aa 42=false/\aQ Aa 43=false/\aO Aa 43=true/\aQ Aa 44=false/\aO Aa 44=false/\aQ Aa 45=false/\aO Aa 45=false/\aQ Aa 46=false/\aO Aa 46=false/\aQ Aa 47=false/\aO Aa 47=false/\aQ Aa 48=false/\aO Aa 48=false/\aQ Aa 49=false/\aO Aa 49=false/\aQ Aa 50=false/\aO Aa 50=false/\aQ Aa 51=false/\aO Aa 51=false/\aQ Aa 52=false/\aO Aa 52=false/\aQ Aa 53=false/\aO Aa 53=false/\aQ Aa 54=false/\aO Aa 54=true/\aQ Aa 55=false/\aO Aa 55=false/\aQ Aa 56=false/\aO Aa 56=false/\aQ Aa 57=false/\aO Aa 57=false/\aQ Aa 58=false/\aO Aa 58=false/\aQ Aa 59=false/\aO Aa 59=false:=by and_intros<;>kernel_rfl
@[simp]def cEb:aQ Aa 60=false/\aO Aa 60=false/\aQ Aa 61=false/\aO Aa 61=false/\aQ Aa 62=false/\aO Aa 62=false/\aQ Aa 63=false/\aO Aa 63=false/\aQ Aa 64=false/\aO Aa 64=false/\aQ Aa 65=false/\aO Aa 65=false/\aQ Aa 66=false/\aO Aa 66=false/\aQ Aa 67=false/\aO Aa 67=false/\aQ Aa 68=false/\aO Aa 68=false/\aQ Aa 69=false/\aO Aa 69=false/\aQ Aa 70=false/\aO Aa 70=false/\aQ Aa 71=false/\aO Aa 71=true/\aQ Aa 72=false/\aO Aa 72=true/\aQ Aa 73=false/\aO Aa 73=true/\aQ Aa 74=false/\aO Aa 74=false/\aQ Aa 75=false/\aO Aa 75=true/\aQ Aa 76=false/\aO Aa 76=false/\aQ Aa 77=false/\aO Aa 77=false/\aQ Aa 78=false/\aO Aa 78=false/\aQ Aa 79=false/\aO Aa 79=false:=by and_intros<;>kernel_rfl
@[simp]def cEa:aQ Aa 80=false/\aO Aa 80=true/\aQ Aa 81=false/\aO Aa 81=false/\aQ Aa 82=false/\aO Aa 82=false/\aQ Aa 83=false/\aO Aa 83=false/\aQ Aa 84=false/\aO Aa 84=false/\aQ Aa 85=false/\aO Aa 85=false/\aQ Aa 86=false/\aO Aa 86=false/\aQ Aa 87=false/\aO Aa 87=false/\aQ Aa 88=false/\aO Aa 88=false/\aQ Aa 89=false/\aO Aa 89=false/\aQ Aa 90=false/\aO Aa 90=false/\aQ Aa 91=false/\aO Aa 91=false/\aQ Aa 92=false/\aO Aa 92=false/\aQ Aa 93=false/\aO Aa 93=false/\aQ Aa 94=false/\aO Aa 94=false/\aQ Aa 95=false/\aO Aa 95=false/\aQ Aa 96=false/\aO Aa 96=false/\aQ Aa 97=false/\aO Aa 97=false/\aQ Aa 98=false/\aO Aa 98=false/\aQ Aa 99=false/\aO Aa 99=false:=by and_intros<;>kernel_rfl
@[simp]def cCm:aQ Aa 100=false/\aO Aa 100=false/\aQ Aa 101=false/\aO Aa 101=true/\aQ Aa 102=false/\aO Aa 102=false/\aQ Aa 103=true/\aO Aa 103=false/\aQ Aa 104=false/\aO Aa 104=false/\aQ Aa 105=false/\aO Aa 105=false/\aQ Aa 106=false/\aO Aa 106=false/\aQ Aa 107=false/\aO Aa 107=true/\aQ Aa 108=false/\aO Aa 108=true/\aQ Aa 109=false/\aO Aa 109=true/\aQ Aa 110=false/\aO Aa 110=false/\aQ Aa 111=false/\aO Aa 111=false/\aQ Aa 112=false/\aO Aa 112=true/\aQ Aa 113=false/\aO Aa 113=false/\aQ Aa 114=false/\aO Aa 114=false/\aQ Aa 115=false/\aO Aa 115=true/\aQ Aa 116=false/\aO Aa 116=false/\aQ Aa 117=false/\aO Aa 117=true/\aQ Aa 118=false/\aO Aa 118=true/\aQ Aa 119=false/\aO Aa 119=true:=by and_intros<;>kernel_rfl
@[simp]def cCl:aQ Aa 120=false/\aO Aa 120=false/\aQ Aa 121=false/\aO Aa 121=false/\aQ Aa 122=false/\aO Aa 122=true/\aQ Aa 123=false/\aO Aa 123=false/\aQ Aa 124=false/\aO Aa 124=false/\aQ Aa 125=false/\aO Aa 125=true/\aQ Aa 126=false/\aO Aa 126=true/\aQ Aa 127=false/\aO Aa 127=false/\aQ Aa 128=false/\aO Aa 128=false/\aQ Aa 129=false/\aO Aa 129=false/\aQ Aa 130=false/\aO Aa 130=false/\aQ Aa 131=false/\aO Aa 131=false/\aQ Aa 132=false/\aO Aa 132=false/\aQ Aa 133=false/\aO Aa 133=false/\aQ Aa 134=false/\aO Aa 134=false/\aQ Aa 135=false/\aO Aa 135=false/\aQ Aa 136=false/\aO Aa 136=true/\aQ Aa 137=false/\aO Aa 137=true/\aQ Aa 138=false/\aO Aa 138=true/\aQ Aa 139=false/\aO Aa 139=false:=by and_intros<;>kernel_rfl
@[simp]def cCk:aQ Aa 140=false/\aO Aa 140=true/\aQ Aa 141=false/\aO Aa 141=false/\aQ Aa 142=false/\aO Aa 142=false/\aQ Aa 143=false/\aO Aa 143=false/\aQ Aa 144=false/\aO Aa 144=false/\aQ Aa 145=false/\aO Aa 145=false/\aQ Aa 146=false/\aO Aa 146=false/\aQ Aa 147=false/\aO Aa 147=false/\aQ Aa 148=false/\aO Aa 148=false/\aQ Aa 149=false/\aO Aa 149=false/\aQ Aa 150=false/\aO Aa 150=false/\aQ Aa 151=false/\aO Aa 151=false/\aQ Aa 152=false/\aO Aa 152=false/\aQ Aa 153=false/\aO Aa 153=true/\aQ Aa 154=false/\aO Aa 154=true/\aQ Aa 155=false/\aO Aa 155=true/\aQ Aa 156=false/\aO Aa 156=false/\aQ Aa 157=false/\aO Aa 157=true/\aQ Aa 158=false/\aO Aa 158=false/\aQ Aa 159=false/\aO Aa 159=false:=by and_intros<;>kernel_rfl
@[simp]def cCj:aQ Aa 160=false/\aO Aa 160=false/\aQ Aa 161=false/\aO Aa 161=false/\aQ Aa 162=false/\aO Aa 162=true/\aQ Aa 163=false/\aO Aa 163=false/\aQ Aa 164=false/\aO Aa 164=false/\aQ Aa 165=false/\aO Aa 165=false/\aQ Aa 166=false/\aO Aa 166=false/\aQ Aa 167=false/\aO Aa 167=false/\aQ Aa 168=false/\aO Aa 168=true/\aQ Aa 169=false/\aO Aa 169=false/\aQ Aa 170=true/\aO Aa 170=false/\aQ Aa 171=false/\aO Aa 171=false/\aQ Aa 172=false/\aO Aa 172=true/\aQ Aa 173=false/\aO Aa 173=false/\aQ Aa 174=false/\aO Aa 174=false/\aQ Aa 175=false/\aO Aa 175=false/\aQ Aa 176=false/\aO Aa 176=false/\aQ Aa 177=false/\aO Aa 177=false/\aQ Aa 178=false/\aO Aa 178=false/\aQ Aa 179=false/\aO Aa 179=true:=by and_intros<;>kernel_rfl
@[simp]def cCi:aQ Aa 180=false/\aO Aa 180=false/\aQ Aa 181=false/\aO Aa 181=false/\aQ Aa 182=false/\aO Aa 182=false/\aQ Aa 183=false/\aO Aa 183=false/\aQ Aa 184=false/\aO Aa 184=false/\aQ Aa 185=false/\aO Aa 185=false/\aQ Aa 186=false/\aO Aa 186=true/\aQ Aa 187=false/\aO Aa 187=false/\aQ Aa 188=false/\aO Aa 188=false/\aQ Aa 189=false/\aO Aa 189=false/\aQ Aa 190=false/\aO Aa 190=false/\aQ Aa 191=false/\aO Aa 191=false/\aQ Aa 192=true/\aO Aa 192=false/\aQ Aa 193=false/\aO Aa 193=false/\aQ Aa 194=false/\aO Aa 194=false/\aQ Aa 195=false/\aO Aa 195=false/\aQ Aa 196=false/\aO Aa 196=false/\aQ Aa 197=false/\aO Aa 197=false/\aQ Aa 198=false/\aO Aa 198=false/\aQ Aa 199=false/\aO Aa 199=false:=by and_intros<;>kernel_rfl
@[simp]def cCh:aQ Aa 200=false/\aO Aa 200=true/\aQ Aa 201=false/\aO Aa 201=false/\aQ Aa 202=false/\aO Aa 202=false/\aQ Aa 203=false/\aO Aa 203=false/\aQ Aa 204=false/\aO Aa 204=false/\aQ Aa 205=false/\aO Aa 205=false/\aQ Aa 206=false/\aO Aa 206=true/\aQ Aa 207=false/\aO Aa 207=false/\aQ Aa 208=false/\aO Aa 208=true/\aQ Aa 209=false/\aO Aa 209=false/\aQ Aa 210=false/\aO Aa 210=true/\aQ Aa 211=false/\aO Aa 211=false/\aQ Aa 212=false/\aO Aa 212=true/\aQ Aa 213=false/\aO Aa 213=false/\aQ Aa 214=false/\aO Aa 214=true/\aQ Aa 215=false/\aO Aa 215=false/\aQ Aa 216=false/\aO Aa 216=true/\aQ Aa 217=false/\aO Aa 217=false/\aQ Aa 218=false/\aO Aa 218=false/\aQ Aa 219=false/\aO Aa 219=true:=by and_intros<;>kernel_rfl
@[simp]def cCg:aQ Aa 220=false/\aO Aa 220=false/\aQ Aa 221=false/\aO Aa 221=false:=by and_intros<;>kernel_rfl
end Go.Am
end
section
open List renaming map_map->C,mapM_map->L
namespace Go.Am
attribute [simp] bUl bKp cDf aTb aT aZx bZs bRi aBn St0 bHm bFh bSb bPs bIk aZq cI aTh aOw bRv bUo bUn bUm aRt bSh bSg bHn
   bHr bHo aKi aEq bCq bNw bXk bXl bCp bNv aPr List.flatMap_nil aEv bRw aNc aVg bHd jV aMp bKx bUp bRg aYz bRf bGq bZf bGo bQq aEa
   aIk bGp bRe aRi aIm aIl aRh bGl bZe aNd bGx bZn bZl bZd bZc bGn aRg aQy cDs cDu cBb cDt bOu bDw bUu bLc aIi cCe cCf
   bRc bRd cDl cDm bUg bAo bUq bUr bKz bZa bZb bQz bYz bYy bQy bQx bQw bQv bYv bYx bYw bAt bAs aSt aSs aSr aSq bAp
   bAr bAu aSv bVd bMd bOi bCy bIc bAx aYv aYu bHk bSd bHj bHi aSf aZz aRw aZo aRv aRx aZp cAu bLs bLg
   bLm bLk bLj bLr bLl bLn bLo bLp bLq bLi bLh bBa bOf bOg aZa bGr bZy bZx bSr bSu cDh cDg bZu bZw bZt bPb aXo bEh
   aXp aXn aXm bEj bEk bEm bEn bEi bEo aQm aXq aQn aQl aQk aKz bDl bDm bOn bDk aHm aRe aMi bMb bFy bVc
   aYs aYt bLz bLy aZi aZm bHb aQb aXh bFg aXz bFf bHt bHs bBg bBf bKr bKq aYn aYo aPt aZy aSe aSd
   aQh aXk aHc bWq qF tZ uY aGd bTe cAh cAj jR xH yO aEs aKs aKr aPy bOj bXq dS fJ lF bDf bOl aOf
   aJt
def KW:type_of% (AO @aOq (AO @yF (AO @aWe (AO @aGs (AO @aOr (AO @aWf (AO @aGq (AO @aGo (AO @aGr (AO @aGp (AO @aUq (AO @aMd (AO @aMc (AO @aUw (AO @xU (AO @aFk (AO @aUv (AO @aMo (AO @bGk (AO @aMm (AO @sR (AO @uK (AO @aBc (AO @aMn (AO @aUu (AO @aBe (AO @uM (AO @aMl (AO @uL (AO @aBd (AO @aMk (AO @bGj (AO @aUy (AO @bGi (AO @bGh (AO @aUx (AO @aFh (AO @aMj (AO @uJ (AO @aFi (AO @aFl (AO @aFj (@aUz))))))))))))))))))))))))))))))))))))))))))) :=
  AO @aOq (AO @yF (AO @aWe (AO @aGs (AO @aOr (AO @aWf (AO @aGq (AO @aGo (AO @aGr (AO @aGp (AO @aUq (AO @aMd (AO @aMc (AO @aUw (AO @xU (AO @aFk (AO @aUv (AO @aMo (AO @bGk (AO @aMm (AO @sR (AO @uK (AO @aBc (AO @aMn (AO @aUu (AO @aBe (AO @uM (AO @aMl (AO @uL (AO @aBd (AO @aMk (AO @bGj (AO @aUy (AO @bGi (AO @bGh (AO @aUx (AO @aFh (AO @aMj (AO @uJ (AO @aFi (AO @aFl (AO @aFj (@aUz))))))))))))))))))))))))))))))))))))))))))
end Go.Am
end
section
open List renaming map_map->C,mapM_map->L
namespace Go.Am
open RowKit (Below)
def OA(P:Program)[M:Mch P](ops:Array Oper)(k:St->Prop):Nat->Array Bool->St->Prop
 |0,listed,σ=>Bv .any ops listed=[]/\k σ
 | fuel+1,listed,σ=>(Bv .any ops listed=[]->k σ)/\∀i∈Bv .any ops listed,match ops[i]? with
   |none=>OA P ops k fuel (listed.setIfInBounds i true) σ
   |some o=>OW P ops [o] σ [] λσ' con=>OA P ops k fuel (listed.setIfInBounds i true) (fin σ' con)
section
variable {P:Program} [M:Mch P] {G:Ctx} {N:Nat} {ds:List Deferred} {ops:Array Oper}
def wA{Q:St->Prop}{Q':Exit->Act->World->Prop}(hno:fQ ops.toList=true)(hdst:∀(i:Nat) (o:Oper) (d:Tmp),ops[i]? = some o->o.dst=some d->d<N/\G.Z d=none)(hQ:∀σ a w,Q σ->SR G N ds σ a w->Q' .normal a w) :
  ∀(fuel:Nat) (listed:Array Bool) (σ:St) (a:Act) (w:World),SR G N ds σ a w->OA P ops Q fuel listed σ->yH P ops Q' fuel listed a w
 |0,_,σ,a,w,hs,h=>⟨h.1,hQ σ a w h.2 hs⟩
 | fuel+1,listed,σ,a,w,hs,h=>by
  refine⟨λh0=>hQ σ a w (h.1 h0) hs,λi hi=>?_⟩;have h1:=h.2 i hi;split
  ·rename_i ho;simp only[ho]at h1;exact wA hno hdst hQ fuel _ σ a w hs h1
  ·rename_i o ho;simp only[ho]at h1;obtain⟨hn0,hwf,hag⟩:=qX hs;obtain⟨fb,hfb⟩:=qY (G:=G) [o] σ [] (by
    have h0:o∈ops.toList:=by rw[Array.mem_toList_iff];exact BZ ho
    have:=A3.1 hno o h0;simpa[fQ]using this) hn0 hwf h1
   obtain⟨g1,g2⟩:=hag (λi=>if i<σ.n then σ.H i else fb i) (λi o hi=>by
    rcases A4 i σ.n with hlt|hge
    ·rw[Aq hlt];exact hi
    ·rw[hwf.top i hge]at hi;cases hi)
   obtain⟨s',hd,σ',con',hoa,hn',hwf',hag'⟩:=hfb _ g1 (λi hi=>by simp only;rw[Ai (by omega)]);exact oM (K:=yH P ops Q' fuel (listed.setIfInBounds i true)) hd (λd h=>hdst i o d ho h) g2 λa' w' hr'=>wA hno hdst hQ fuel _ _ a' w' (aDl hn' hwf' hag' hr') hoa
def cDr(P:Program)[M:Mch P]:Code->St->(St->Prop)->Prop
 |.region _ ops true,σ,k=>OA P ops k ops.size (AY ops.size false) σ
 |_,_,_=>False
def bBo(P:Program)[M:Mch P]:Code->St->(Exit->St->Prop)->Prop
 |.seq x (.seq y z),σ,Q=>AWP P x σ λe σ'=>match e with|.normal=>bBo P (.seq y z) σ' Q|e=>Q e σ'
 |.seq x .ret,σ,Q=>cDr P x σ (Q .ret)
 |_,_,_=>False
def qQ(P:Program):Code->Bool
 |.seq x (.seq y z)=>bQ P x&&qQ P (.seq y z)
 |.seq (.region _ ops true) .ret=>fQ ops.toList
 |_=>false
def aTp(hm:P.follows .mixedOrders=true)(hZ:∀d,G.Z d=none):∀(c:Code) (Q:Exit->St->Prop) (σ:St) (a:Act) (w:World),bN N c=true->qQ P c=true->bBo P c σ Q->SR G N ds σ a w ->
  WC P c (λe a' w'=>∃σ',Q e σ'/\SR G N ds σ' a' w') a w:=by
 intro c
 induction c with
 | seq x y ihx ihy =>
  intro Q σ a w hd hl h hs
  simp only[bN,A8]at hd
  cases y with
  | seq y z =>
   simp only[qQ,A8]at hl
   refine eJ (cC (cJ hm hZ x _ σ a w hd.1 hl.1 h hs) ?_)
   rintro e a' w' ⟨σ',hq,hs'⟩
   cases e with
   |normal=>exact ihy Q σ' a' w' hd.2 hl.2 hq hs'
   |_=>exact⟨σ',hq,hs'⟩
  | ret =>
   unfold qQ at hl
   split at hl
   ·rename_i he;cases he
   ·rename_i id ops he
    injection he with he1 _;subst he1
    have h':OA P ops (Q .ret) ops.size (AY ops.size false) σ:=h
    refine eJ ((WpR.plain P).regA hm (λe=>by cases e) λd=>wA (Q:=Q .ret) (N:=N) (ds:=ds) (G:=G) hl (λi o d hi hd'=>⟨qD hd.1 i o d hi hd',hZ d⟩) (λσ' a' w' hq hs'=>?_) _ _ σ _ _ ?_ h')
    ·exact zY ⟨σ',hq,hs'⟩
    ·exact hs.env ⟨rfl,rfl,rfl,0,by simp⟩
   ·cases hl
  |_=>exact h.elim
 |_=>intro Q σ a w _ _ h;exact h.elim
def bDu {f N:Nat} {fn:Func} {c:Code} {args:List D} {r:D} (hm:P.follows .mixedOrders=true) (hf:P.funcs[f]? = some fn) (hb:fn.body=some c) (hname:(fn.name == "runtime.NumGoroutine")=false) (hN:fn.ntmps=N)
  (hd:bN N c=true) (hl':qQ P c=true) (ha:args.length<=N) (h:bBo P c (St0 args N) λe σ=>(e=.normal\/e=.ret)/\jA P fn.results.toList σ=some r):Spec P f args r:=by
 intro A W vs hA hl hv
 have hn:¬ fn.name = "runtime.NumGoroutine" := by simpa using hname
 refine⟨λw=>by simp[callFunc,hf,hn,hb],?_⟩
 refine gF hf hb ?_
 subst hN
 refine(WpR.plain P).okv λhok=>cC (aTp hm (λ_=>rfl) c _ _ _ _ hd hl' h (SR0 hok hA hl hv ha)) ?_
 rintro e a w ⟨σ,⟨he,hr⟩,hs⟩
 have hend:a.defers=[]/\∀v1,Env w v1->∃x,aK P (results fn a.tmps) v1=.ok x v1/\Below W.heap.size W v1/\VD (λb=>A b\/(W.heap.size<=b/\b<v1.heap.size)) v1 r x:=by
  refine⟨hs.2.2.2.elim λ_ h=>h.elim λ_ h=>h.2.2.2.2.1,λv1 he=>?_⟩;have hs1:=hs.env he;obtain⟨v,hrun,hvd⟩:=eB hs1 hr;obtain⟨_,_,_,F,ι,hR,_,_,_,hdf,_⟩:=hs1;refine⟨v,hrun,⟨hR.kept.os,hR.kept.tape,hR.kept.output,hR.kept.size,λk hk=>hR.kept.block k hk (λh=>h)⟩,hvd.mono ?_⟩;rintro b (h|h|h)
  ·exact .inl h
  ·exact h.elim
  ·exact .inr h
 rcases he with rfl|rfl<;>exact hend
def OAd(P:Program)[M:Mch P](ops:Array Oper)(k:St->Prop)(fuel:Nat)(listed:Array Bool)(σ:St)(_:Dm (ops,k)):Prop:=OA P ops k fuel listed σ
def aU(x y z:Code)(σ:St)(Q:Exit->St->Prop):bBo P (.seq x (.seq y z)) σ Q=AWP P x σ λe σ'=>match e with|.normal=>bBo P (.seq y z) σ' Q|e=>Q e σ':=rfl
def aV(id:Nat)(l:List Oper)(σ:St)(Q:Exit->St->Prop):bBo P (.seq (.region id l.toArray true) .ret) σ Q=OAd P l.toArray (Q .ret) l.length (AY l.length false) σ .mk:=rfl
def fW{k:St->Prop}{fuel:Nat}{listed:Array Bool}{σ:St}{d:Dm (ops,k)}(i:Nat){o:Oper}(hr:Bv .any ops listed=[i])(ho:ops[i]? = some o)
  (h:OWd P ops [o] σ [] (λσ' con=>aEk σ' con (λσ2=>OAd P ops k fuel (listed.setIfInBounds i true) σ2 .mk) .mk) .mk):OAd P ops k (fuel+1) listed σ d:=by
 refine⟨λe=>(by rw[hr]at e;cases e),λj hj=>?_⟩
 rw[hr]at hj
 simp only[List.mem_singleton]at hj
 subst hj
 simp only[ho];exact h
def aIj{k:St->Prop}{fuel:Nat}{listed:Array Bool}{σ:St}{d:Dm (ops,k)}(i j:Nat){o o':Oper}(hr:Bv .any ops listed=[i,j])(ho:ops[i]? = some o)(ho':ops[j]? = some o')
  (h:OWd P ops [o] σ [] (λσ' con=>aEk σ' con (λσ2=>OAd P ops k fuel (listed.setIfInBounds i true) σ2 .mk) .mk) .mk)
  (h':OWd P ops [o'] σ [] (λσ' con=>aEk σ' con (λσ2=>OAd P ops k fuel (listed.setIfInBounds j true) σ2 .mk) .mk) .mk):OAd P ops k (fuel+1) listed σ d:=by
 refine⟨λe=>(by rw[hr]at e;cases e),λm hm=>?_⟩
 rw[hr]at hm
 simp only[Bn,List.mem_nil_iff,or_false]at hm
 rcases hm with rfl|rfl
 ·simp only[ho];exact h
 ·simp only[ho'];exact h'
def wS{k:St->Prop}{listed:Array Bool}{σ:St}{d:Dm (ops,k)}(hr:Bv .any ops listed=[])(h:k σ):OAd P ops k 0 listed σ d:=⟨hr,h⟩
end
end Go.Am
end
section
open List renaming map_map->C,mapM_map->L
namespace Go.Am
open RowKit (Below)
variable {P:Program} [M:Mch P]
def bEs{G:Ctx}{fn:Func}{σ:St}{a:Act}{w:World}{rv:ResultVar}{av:AV}{F:Nat->Prop}{ι:Nat->Option Nat}(hR:HR G F w ι bD σ.H)(hV:∀t,V F w ι (σ.Γ t) (a.tmps.getD t undef))(hres:fn.results.toList=[rv])(h:kD P σ rv=some av) :
  ∃v,aK P (results fn a.tmps) w=.ok v w/\V F w ι av v:=by
 cases rv with
 |cell ad t=>exact bPg hR hV hres h
 | tmp t =>
  simp only[kD,Ax]at h
  subst h
  refine⟨a.tmps.getD t undef,?_,hV t⟩
  have h1':aK P ([ResultVar.tmp t].mapM (m:=Sem) λ|.tmp t=>pure (a.tmps.getD t undef)|.cell ad t=>do loadVar t (<-asAddr (a.tmps.getD ad undef))) w=.ok [a.tmps.getD t undef] w:=by simp only[Cp,GD,Sem.run_bind,AK,Sem.run_pure]
  simp only[results,D5,Sem.run_bind,Sem.run_map,hres]
  erw [h1']
  simp
def aBf {f N:Nat} {fn:Func} {c:Code} {args:List D} {v:Nat->AV} {hs:Nat->List HO} {rv:ResultVar} (hm:P.follows .mixedOrders=true) (hf:P.funcs[f]? = some fn) (hb:fn.body=some c) (hname:(fn.name == "runtime.NumGoroutine")=false)
  (hN:fn.ntmps=N) (hN0:0<N) (hd:bN N c=true) (hl':bQ P c=true) (ha:args.length<=N) (hres:fn.results.toList=[rv])
  (h:AWP P c (St0 args N) λe σ=>(e=.normal\/e=.ret)/\cL (kD P σ rv) (λav=>∀m,0<m->∃ρ,Wk ⟨upd σ.Γ 0 av,σ.H,σ.n⟩ (jH v hs m) ρ) .mk):sW P f args v hs:=by
 intro A W vs hA hl hv
 have hn:¬ fn.name = "runtime.NumGoroutine" := by simpa using hname
 refine⟨λw=>by simp[callFunc,hf,hn,hb],?_⟩
 refine gF hf hb ?_
 subst hN
 refine(WpR.plain P).okv λhok=>cC (cJ hm (λ_=>rfl) c _ _ _ _ hd hl' h (SR0 hok hA hl hv ha)) ?_
 rintro e a w0 ⟨σ,⟨he,hr⟩,hs0⟩
 cases hav:kD P σ rv with
 |none=>rw[hav]at hr;exact hr.elim
 |some av =>
 rw[hav]at hr
 simp only[cL]at hr
 have hend:a.defers=[]/\∀w,Env w0 w->∃u,aK P (results fn a.tmps) w=.ok u w/\Below W.heap.size W w/\∀m,0<m->∃(F:Nat->Prop) (ι:Nat->Option Nat),
   (∀b,F b->A b\/(W.heap.size<=b/\b<w.heap.size))/\V F w ι (v m) u/\(∀id,(∃b,ι id=some b)↔(m<=id/\id<m+(hs m).length)) /\
   (∀id b,ι id=some b->W.heap.size<=b/\b<w.heap.size/\¬F b) /\
   (∀i o b,(hs m)[i]? = some o->ι (m+i)=some b->∃ob,w.heap[b]? = some ob/\CR F w ι o ob) /\
   (∀id id' b,ι id=some b->ι id'=some b->id=id'):=by
  refine⟨hs0.2.2.2.elim λ_ h=>h.elim λ_ h=>h.2.2.2.2.1,λw henv=>?_⟩
  have hs1:=hs0.env henv
  obtain⟨htop,hn0,hokw,F,ι,hR,hdom,hV,hN2,hdf,hp⟩:=hs1
  obtain⟨u,hrun,hvu⟩:=bEs hR hV hres hav
  have hput:SR ⟨W,A,bD,λ_=>True,λ_=>none⟩ fn.ntmps [] ⟨upd σ.Γ 0 av,σ.H,σ.n⟩ (a.put (some 0) u) w:=by
   refine⟨htop,hn0,hokw,F,ι,hR,hdom,λt'=>?_,⟨by simp[C6,hN2.1],λ_ _ h=>by cases h⟩,by simp[C6,hdf],hp⟩;rw[jD a (some 0) u (λd hd=>by injection hd with hd;subst hd;rw[hN2.1];exact hN0) t'];by_cases e0:t'=0
   ·subst e0;rw[Aq rfl];simp only[upd_same];exact hvu
   ·rw[Ai (λe=>e0 (by injection e with e;exact e.symm))];simp only;rw[upd_ne _ _ e0];exact hV t'
  refine⟨u,hrun,⟨hR.kept.os,hR.kept.tape,hR.kept.output,hR.kept.size,λk hk=>hR.kept.block k hk (λh=>h)⟩,λm hm0=>?_⟩
  obtain⟨ρ,hw⟩:=hr m hm0
  obtain⟨_,_,_,F2,ι2,hR2,hdom2,hV2,_,_,_⟩:=vY hw hput
  have hout:∀id,((jH v hs m).H id).isSome=true↔(m<=id/\id<m+(hs m).length):=λid=>by
   simp only[jH,gX];by_cases hr:m<=id/\id<m+(hs m).length
   ·rw[Aq hr,Ab (by omega)];simp[hr]
   ·rw[Ai hr];simp[hr]
  refine⟨F2,ι2,λb hb'=>?_,?_,λid=>by rw[hdom2,hout],λid b hb'=>?_,λi o b ho hb'=>?_,λid id' b e1 e2=>hR2.inj id id' b e1 e2 (λh=>h) (λh=>h)⟩
  ·rcases hR2.F_ok b hb' with h|h|h
   ·exact .inl h
   ·exact h.elim
   ·exact .inr ⟨h,hR2.F_lt b hb'⟩
  ·have:=hV2 0
   rw[jD a (some 0) u (λd hd=>by injection hd with hd;subst hd;rw[hN2.1];exact hN0) 0,Aq rfl]at this
   simpa[jH,upd_same]using this
  ·obtain⟨q1,q2,q3⟩:=hR2.place id b hb'
   rcases q1 with q1|q1
   ·exact q1.elim
   ·exact⟨q1,q2,q3 (λh=>h)⟩
  ·have hi:=(Ao.1 ho).1
   refine hR2.obj (m+i) b o hb' ?_
   simp only[jH,gX]
   rw[Aq ⟨by omega,by omega⟩,show m+i-m=i by omega];exact ho
 rcases he with rfl|rfl<;>exact hend
end Go.Am
end
section
open List renaming map_map->C,mapM_map->L
namespace Go.Am
open RowKit (Below)
def aEl(P:Program)[M:Mch P]:List Bool->Code->St->(Exit->St->Prop)->Prop
 |[],c,σ,Q=>AWP P c σ Q
 |false::l,c,σ,Q=>∃σ2,WkR σ σ2/\aEl P l c σ2 Q
 |true::l,.seq x y,σ,Q=>AWP P x σ λe σ'=>match e with|.normal=>aEl P l y σ' Q|e=>Q e σ'
 |true::_,_,_,_=>False
section
variable {P:Program} [M:Mch P] {G:Ctx} {N:Nat} {ds:List Deferred}
def tS(hm:P.follows .mixedOrders=true)(hZ:∀d,G.Z d=none):∀(l:List Bool) (c:Code) (Q:Exit->St->Prop) (σ:St) (a:Act) (w:World),bN N c=true->bQ P c=true->aEl P l c σ Q->SR G N ds σ a w ->
  WC P c (λe a' w'=>∃σ',Q e σ'/\SR G N ds σ' a' w') a w
 |[],c,Q,σ,a,w,hd,hl,h,hs=>cJ hm hZ c Q σ a w hd hl h hs
 | false::l,c,Q,σ,a,w,hd,hl,h,hs=>by obtain⟨σ2,hw,h⟩:=h;exact tS hm hZ l c Q σ2 a w hd hl h (lU hw hs)
 | true::l,.seq x y,Q,σ,a,w,hd,hl,h,hs=>by
  simp only[bN,bQ,A8]at hd hl;refine eJ (cC (cJ hm hZ x _ _ a w hd.1 hl.1 h hs) ?_);rintro e a' w' ⟨σ1,hq,hs'⟩;cases e with
  |normal=>exact tS hm hZ l y Q σ1 a' w' hd.2 hl.2 hq hs'
  |_=>exact⟨σ1,hq,hs'⟩
 |true::l,.skip,_,_,_,_,_,_,h,_|true::l,.region ..,_,_,_,_,_,_,h,_|true::l,.cond ..,_,_,_,_,_,_,h,_|true::l,.block ..,_,_,_,_,_,_,h,_|true::l,.loop ..,_,_,_,_,_,_,h,_
 |true::l,.exit ..,_,_,_,_,_,_,h,_|true::l,.ret,_,_,_,_,_,_,h,_|true::l,.label ..,_,_,_,_,_,_,h,_|true::l,.scope ..,_,_,_,_,_,_,h,_|true::l,.goto ..,_,_,_,_,_,_,h,_
 |true::l,.rangeFunc ..,_,_,_,_,_,_,h,_=>h.elim
def bDt {f N:Nat} {fn:Func} {c:Code} {args:List D} {r:D} (l:List Bool) (hm:P.follows .mixedOrders=true) (hf:P.funcs[f]? = some fn) (hb:fn.body=some c) (hname:(fn.name == "runtime.NumGoroutine")=false) (hN:fn.ntmps=N)
  (hd:bN N c=true) (hl':bQ P c=true) (ha:args.length<=N) (h:aEl P l c (St0 args N) λe σ=>(e=.normal\/e=.ret)/\jA P fn.results.toList σ=some r):Spec P f args r:=by
 intro A W vs hA hl hv
 have hn:¬ fn.name = "runtime.NumGoroutine" := by simpa using hname
 refine⟨λw=>by simp[callFunc,hf,hn,hb],?_⟩
 refine gF hf hb ?_
 subst hN
 refine(WpR.plain P).okv λhok=>cC (tS hm (λ_=>rfl) l c _ _ _ _ hd hl' h (SR0 hok hA hl hv ha)) ?_
 rintro e a w ⟨σ,⟨he,hr⟩,hs⟩
 have hend:a.defers=[]/\∀v1,Env w v1->∃x,aK P (results fn a.tmps) v1=.ok x v1/\Below W.heap.size W v1/\VD (λb=>A b\/(W.heap.size<=b/\b<v1.heap.size)) v1 r x:=by
  refine⟨hs.2.2.2.elim λ_ h=>h.elim λ_ h=>h.2.2.2.2.1,λv1 he=>?_⟩;have hs1:=hs.env he;obtain⟨v,hrun,hvd⟩:=eB hs1 hr;obtain⟨_,_,_,F,ι,hR,_,_,_,hdf,_⟩:=hs1;refine⟨v,hrun,⟨hR.kept.os,hR.kept.tape,hR.kept.output,hR.kept.size,λk hk=>hR.kept.block k hk (λh=>h)⟩,hvd.mono ?_⟩;rintro b (h|h|h)
  ·exact .inl h
  ·exact h.elim
  ·exact .inr h
 rcases he with rfl|rfl<;>exact hend
end
def WkP(P:Program)[M:Mch P](l:List Bool)(c:Code)(σ:St)(Q:Exit->St->Prop)(_:Dm (c,Q)):Prop:=∃σ2,WkR σ σ2/\aEl P l c σ2 Q
def iL{P:Program}[M:Mch P]{l:List Bool}{c:Code}{σ:St}{Q:Exit->St->Prop}{d:Dm (c,Q)}(σ2:St)(hw:∃ρ,Wk σ σ2 ρ)(h:aEl P l c σ2 Q):WkP P l c σ Q d:=⟨σ2,.inr hw,h⟩
def bH(P:Program)[M:Mch P](c:Code)(σ:St)(Q:Exit->St->Prop):aEl P [] c σ Q=AWP P c σ Q:=rfl
def aW(P:Program)[M:Mch P](l:List Bool)(c:Code)(σ:St)(Q:Exit->St->Prop):aEl P (false::l) c σ Q=WkP P l c σ Q .mk:=rfl
def bC(P:Program)[M:Mch P](l:List Bool)(x y:Code)(σ:St)(Q:Exit->St->Prop):aEl P (true::l) (.seq x y) σ Q=AWP P x σ λe σ'=>match e with|.normal=>aEl P l y σ' Q|e=>Q e σ':=rfl
def aUf{hs:List HO}{rs:List Nat}{a id:Nat}(hid:(yT 1 hs id).isSome=true)(hl:hs.length<=rs.length)(h:a ∉ rs):yO rs id≠a:=by
 rw[qT]at hid;cases id with
 |zero=>simp at hid
 | succ i =>
  rw[Aq (by omega),Nat.add_sub_cancel]at hid;have hi:i<rs.length:=by
   rcases A4 i hs.length with h'|h'
   ·omega
   ·rw[AW h']at hid;cases hid
  show rs.getD i 0≠a;rw[zP hi];exact λe=>h (e ▸ Bz hi)
end Go.Am
end
section
open List renaming map_map->C,mapM_map->L
namespace Go.Am
open Go.Conc
section
variable {P:Program} {main:Bool} {b:Frame} {a:Act} {k:List Item} {cs:List Frame} {w:World}
def bOo:stepG P main (G (b.atR a (.code .skip::k)) cs) w=.go (G (b.atR a k) cs) w:=by simp[G,stepG,Cf,Cv]
def bDp{l:Nat}:stepG P main (G (b.atR a (.code (.label l)::k)) cs) w=.go (G (b.atR a k) cs) w:=by simp[G,stepG,Cf,Cv]
def aQf{id:Nat}:stepG P main (G (b.atR a (.inBlock id::k)) cs) w=.go (G (b.atR a k) cs) w:=by simp[G,stepG,Cf,Cv]
def bXs{x y:Code}:stepG P main (G (b.atR a (.code (.seq x y)::k)) cs) w=.go (G (b.atR a (.code x::.code y::k)) cs) w:=by simp[G,stepG,Cf,Cv]
def bOs{c:Operand}{x y:Code}{t:Bool}(h:a.eval c=.bool t):stepG P main (G (b.atR a (.code (.cond c x y)::k)) cs) w=.go (G (b.atR a (.code (if t then x else y)::k)) cs) w:=by
  have h':(b.atR a (.code (.cond c x y)::k)).eval c=.bool t:=by rw[Frame.eval_atR];exact h
  simp only[Cv]at h';simp[G,stepG,Cf,Cv,h']
def bDr{id:Nat}{c:Code}:stepG P main (G (b.atR a (.code (.block id c)::k)) cs) w=.go (G (b.atR a (.code c::.inBlock id::k)) cs) w:=by simp[G,stepG,Cf,Cv]
def bOq{c:Code}:stepG P main (G (b.atR a (.code (.loop c)::k)) cs) w=.go (G (b.atR a (.code c::.inLoop c::k)) cs) w:=by simp[G,stepG,Cf,Cv]
def aXj{c:Code}:stepG P main (G (b.atR a (.inLoop c::k)) cs) w=.go (G (b.atR a (.code c::.inLoop c::k)) cs) w:=by simp[G,stepG,Cf,Cv]
def bOr{id:Nat}{k':List Item}(h:exitTo id k=some k'):stepG P main (G (b.atR a (.code (.exit id)::k)) cs) w=.go (G (b.atR a k') cs) w:=by simp[G,stepG,Cf,Cv,h]
def aXi{id:Nat}{ops:Array Oper}:stepG P main (G (b.atR a (.code (.region id ops false)::k)) cs) w=.go (G (b.atR a (.inRegion ops (List.range ops.size)::k)) cs) w:=by simp[G,stepG,Cf,Cv]
def mO{ops:Array Oper}:stepG P main (G (b.atR a (.inRegion ops []::k)) cs) w=.go (G (b.atR a k) cs) w:=by simp[G,stepG,Cf,Cv]
def aKv{ops:Array Oper}{i:Nat}{rest:List Nat}{o:Oper}(ho:ops[i]? = some o)(hw:Bu o (yielded ops a.tmps)=false) :
    stepG P main (G (b.atR a (.inRegion ops (i::rest)::k)) cs) w=.go (G (b.atR (a.put o.dst undef) (.inRegion ops rest::k)) cs) w #[]:=by
  have hfin:(b.atR a (.inRegion ops (i::rest)::k)).finish undef=b.atR (a.put o.dst undef) (.inRegion ops rest::k):=by rw[Eu,ho];rfl
  rw[<-hfin]
  simp[G,stepG,Cf,Cv,ho,hw]
def zD{ops:Array Oper}{i:Nat}{rest:List Nat}{o:Oper}(hnd:∀c,o.op≠.defer c)(ho:ops[i]? = some o)(hw:Bu o (yielded ops a.tmps)=true) :
    stepG P main (G (b.atR a (.inRegion ops (i::rest)::k)) cs) w=DV P true (b.atR a (.inRegion ops (i::rest)::k)) cs none (execOp a.eval o) w:=by
  have he:=Frame.eval_atR b a (.inRegion ops (i::rest)::k)
  rw[<-Oper.semAt_eq b.roundOf a.eval o hnd]
  simp only[Cv]at he
  simp only[G,stepG,Cf,stepG.oper,Frame.oper?,Cv,ho,hw,he,AU,Option.getD_some,AH,Oper.semAt]
  cases b.roundOf<;>cases o.op<;>rfl
def bDo{ops:Array Oper}{i:Nat}{rest:List Nat}{o:Oper}{v:Value}{w':World}(hnd:∀c,o.op≠.defer c)(ho:ops[i]? = some o)(hw:Bu o (yielded ops a.tmps)=true)
    (hk:b.kind≠.early) (hr:(execOp a.eval o).run P w=.ok (.value v) w') :
    stepG P main (G (b.atR a (.inRegion ops (i::rest)::k)) cs) w=.go (G (b.atR (a.put o.dst v) (.inRegion ops rest::k)) cs) w' (listed P b.fn a o w):=by
  have hfin:(b.atR a (.inRegion ops (i::rest)::k)).finish v=b.atR (a.put o.dst v) (.inRegion ops rest::k):=by rw[Eu,ho];rfl
  have hk':(b.kind==Db)=false:=by simpa using hk
  rw[zD hnd ho hw,<-hfin]
  simp[DV,hr,G,Cv,hk',Cw,listed]
def bOp{ops:Array Oper}{i:Nat}{rest:List Nat}{o:Oper}{w':World}(hnd:∀c,o.op≠.defer c)(ho:ops[i]? = some o)(hw:Bu o (yielded ops a.tmps)=true)
    (hk:b.kind≠.early) (hr:(execOp a.eval o).run P w=.ok .skip w') :
    stepG P main (G (b.atR a (.inRegion ops (i::rest)::k)) cs) w=.go (G (b.atR (a.put o.dst undef) (.inRegion ops rest::k)) cs) w' (listed P b.fn a o w):=by
  have hfin:(b.atR a (.inRegion ops (i::rest)::k)).finish undef=b.atR (a.put o.dst undef) (.inRegion ops rest::k):=by rw[Eu,ho];rfl
  have hk':(b.kind==Db)=false:=by simpa using hk
  rw[zD hnd ho hw,<-hfin]
  simp[DV,hr,G,Cv,hk',Cw,listed]
def bDq{ops:Array Oper}{i:Nat}{rest:List Nat}{o:Oper}{f:FuncId}{args:Array Value}{w':World}(hnd:∀c,o.op≠.defer c)(ho:ops[i]? = some o)(hw:Bu o (yielded ops a.tmps)=true)
    (hk:b.kind≠.early) (hr:(execOp a.eval o).run P w=.ok (.enter f args) w') :
    stepG P main (G (b.atR a (.inRegion ops (i::rest)::k)) cs) w=.go (G (C5 P f args .normal) (b.atR a (.inRegion ops (i::rest)::k)::cs)) w' (listed P b.fn a o w):=by
  have hk':(b.kind==Db)=false:=by simpa using hk
  rw[zD hnd ho hw]
  simp[DV,hr,G,Cv,hk',Cw,listed]
end
def aMt{ops:Array Oper}{i:Nat}{o:Oper}(h:sS ops=true)(ho:ops[i]? = some o):∀c,o.op≠.defer c:=by intro c e;have:=Array.all_eq_true'.1 h o (BZ ho);simp[cCn,e]at this
section
variable {P:Program} [M:Mch P] {lp:Nat} {Q:Exit->Act->World->Prop} {a:Act} {v:World}
def yG(Win:Goroutine->World->Prop)(b:Frame)(k:List Item)(cs:List Frame):Exit->Act->World->Prop
  |.normal,a,v=>Win (G (b.atR a k) cs) v
  |.exit id,a,v=>match exitTo id k with|some k'=>Win (G (b.atR a k') cs) v|none=>∀k1,exitTo id k1=none->Win (G (b.atR a (.code (.exit id)::k1)) cs) v
  |.ret,a,v=>∀k1,Win (G (b.atR a (.code .ret::k1)) cs) v
  |_,_,_=>False
def WR(P:Program)[M:Mch P](lp:Nat)(c:Code)(Q:Exit->Act->World->Prop)(a:Act)(v:World):Prop :=
  ∀(Win:Goroutine->World->Prop),M.Fam Win->OkV v->∀(b:Frame) (k:List Item) (cs:List Frame),b.kind=.normal->b.roundOf=some lp->(∀e a' v',OkV v'->Q e a' v'->yG Win b k cs e a' v')->Win (G (b.atR a (.code c::k)) cs) v
def bFe{Win:Goroutine->World->Prop}(hW:M.Fam Win){b:Frame}{a:Act}{k:List Item}{cs:List Frame}{v:World}{ops:Array Oper}{i:Nat}{rest:List Nat}{o:Oper}{K:Act->World->Prop}(hnd:∀c,o.op≠.defer c)(hb:b.kind=.normal)(hro:b.roundOf=some lp)(ho:ops[i]? = some o)(hw:Bu o (yielded ops a.tmps)=true)
    (hv:OkV v) (h:∀v1,Env v v1->wpX P o a v1 K) (hk:∀a' v',OkV v'->K a' v'->Win (G (b.atR a' (.inRegion ops rest::k)) cs) v') :
    Win (G (b.atR a (.inRegion ops (i::rest)::k)) cs) v:=by
  have hbk:b.kind≠.early:=by rw[hb];simp
  refine(M.closed hW).step rfl hv λv1 w he hsim=>?_
  have hu:=h v1 he
  unfold wpX at hu
  have hv1:=he.okV hv
  cases hr:aK P (execOp a.eval o) v1 with
  |halt x v'=>rw[hr]at hu;exact hu.elim
  | ok n v' =>
    obtain⟨w',es',h1,h2,h3,h4,h5,h6⟩:=fG _ v1 w #[] n v' hv1 hsim hr
    rw[hr]at hu
    have hrw:(execOp a.eval o).run P w=.ok n w':=by have:=Dh P (execOp a.eval o) w #[];rw[h1]at this;exact(congrArg Prod.fst this).symm
    have hev:∀e∈listed P b.fn a o w,EvV v' e:=λe hx=>by have:=mem_listed hx;have h7:=Dh P (execOp a.eval o) w #[];rw[h1]at h7;have h8:(execOp a.eval o).events P w #[]=#[]++es':=(congrArg Prod.snd h7).symm;rw[h8]at this;exact h6 e (by simpa using this)
    have hst:xN v1 w v' w' (listed P b.fn a o w):=⟨h2,h3,h4,h5,hev⟩
    cases n with
    |value x=>exact⟨_,v',w',_,bDo hnd ho hw hbk hrw,hst,hk _ _ h3 hu⟩
    |skip=>exact⟨_,v',w',_,bOp hnd ho hw hbk hrw,hst,hk _ _ h3 hu⟩
    | enter f args =>
      refine⟨_,v',w',_,bDq hnd ho hw hbk hrw,hst,hu Win hW h3 _ _ λx v'' ho' hx=>?_⟩
      rw[Eu,ho]
      exact hk _ _ ho' hx
    | defer d =>
      refine⟨G (b.atR (C6 { a with defers:=d::a.defers } o.dst undef) (.inRegion ops rest::k)) cs,v',w',_,?_,hst,hk (C6 { a with defers:=d::a.defers } o.dst undef) v' h3 hu⟩
      rw[zD hnd ho hw]
      have hk':(b.kind==Db)=false:=by simp[hb]
      have:({ b.atR a (.inRegion ops (i::rest)::k) with defers:=d::a.defers }:Frame).finish undef =
          b.atR ({ a with defers:=d::a.defers }.put o.dst undef) (.inRegion ops rest::k):=by
        have:=Eu b { a with defers:=d::a.defers } ops i rest k undef
        rw[ho]at this;exact this
      rw[<-this]
      simp[DV,hrw,G,Cv,hk',Cw,listed]
    |_=>exact hu.elim
def aLi{Win:Goroutine->World->Prop}(hW:M.Fam Win){b:Frame}{k:List Item}{cs:List Frame}{ops:Array Oper}{i:Nat}{rest:List Nat}{o:Oper}(ho:ops[i]? = some o)(hw:¬Bu o (yielded ops a.tmps)=true)(hv:OkV v)
    (h:Win (G (b.atR (a.put o.dst undef) (.inRegion ops rest::k)) cs) v):Win (G (b.atR a (.inRegion ops (i::rest)::k)) cs) v :=
  aM hW rfl hv (λw=>aKv ho (by simpa using hw)) h
def aAr{Win:Goroutine->World->Prop}(hW:M.Fam Win){ops:Array Oper}(hnd:sS ops=true){b:Frame}{k:List Item}{cs:List Frame}(hb:b.kind=.normal)(hro:b.roundOf=some lp):∀(l:List Oper) (n:Nat) (a:Act) (v:World),OkV v->(∀j o,l[j]? = some o->ops[n+j]? = some o)->n+l.length=ops.size->gW P ops Q l a v ->
    (∀a' v',OkV v'->Q .normal a' v'->Win (G (b.atR a' k) cs) v')->Win (G (b.atR a (.inRegion ops (Du n l.length)::k)) cs) v
  |[],n,a,v,hv,_,_,h,hk=>aM hW rfl hv (λw=>mO) (hk a v hv h)
  | o::l,n,a,v,hv,hl,hn,h,hk=>by
    have ho:ops[n]? = some o:=by simpa using hl 0 o rfl
    have ih:=λa v hv h=>aAr hW hnd hb hro l (n+1) a v hv (λj o hj=>by have:=hl (j+1) o (by simpa using hj);rw[<-this];congr 1;omega) (by simp at hn;omega) h hk
    rw[Ak,DX];unfold gW at h;split at h
    · rename_i hw
      exact bFe hW (aMt hnd ho) hb hro ho hw hv h λa' v' hv' h'=>ih a' v' hv' h'
    · rename_i hw
      exact aLi hW ho hw hv (ih _ v hv h)
def bNg{id:Nat}{ops:Array Oper}(hnd:sS ops=true)(h:gW P ops Q ops.toList a v):WR P lp (.region id ops false) Q a v:=by
  intro Win hW hv b k cs hb hro hk;refine aM hW rfl hv (λw=>aXi) ?_;have:=aAr hW hnd (Q:=Q) (b:=b) (k:=k) (cs:=cs) hb hro ops.toList 0 a v hv (λj o hj=>by simpa using hj) (by simp) h λa' v' hv' hq=>hk .normal a' v' hv' hq
  rwa [ET,<-BK]
def bPo{Win:Goroutine->World->Prop}(hW:M.Fam Win){ops:Array Oper}(hnd:sS ops=true){b:Frame}{k:List Item}{cs:List Frame}(hb:b.kind=.normal)(hro:b.roundOf=some lp)(hk:∀a' v',OkV v'->Q .normal a' v'->Win (G (b.atR a' k) cs) v'):∀(fuel t:Nat) (listed:Array Bool) (a:Act) (v:World),OkV v->yH P ops Q fuel listed a v ->
    Win (G (b.atR a (.inRegion ops (Cy .any ops fuel t listed [])::k)) cs) v:=by
  intro fuel
  induction fuel with
  | zero =>
    intro t listed a v hv h
    simp only[Cy,List.reverse_nil]
    exact aM hW rfl hv (λw=>mO) (hk a v hv h.2)
  | succ fuel ih =>
    intro t listed a v hv h
    obtain⟨h0,h1⟩:=h
    simp only[Cy]
    change Win (G (b.atR a (.inRegion ops (match(Bv .any ops listed)[t%(Bv .any ops listed).length]? with
      |some i=>Cy .any ops fuel (t/(Bv .any ops listed).length) (listed.setIfInBounds i true) [i]
      |none=>[].reverse)::k)) cs) v
    cases hi:(Bv .any ops listed)[t%(Bv .any ops listed).length]? with
    | none =>
      have hnil:Bv .any ops listed=[]:=by
        cases hr:Bv .any ops listed with
        |nil=>rfl
        | cons x xs =>
          rw[hr]at hi;have hlt:t%(x::xs).length<(x::xs).length:=Nat.mod_lt _ (by simp);simp at hi;simp at hlt;omega
      exact aM hW rfl hv (λw=>mO) (hk a v hv (h0 hnil))
    | some i =>
      simp only[]
      rw[linearise_go_acc,List.reverse_singleton,EN]
      have h2:=h1 i (Aj hi)
      cases ho:ops[i]? with
      | none =>
        simp only[ho]at h2
        refine aM hW (g':=G (b.atR a (.inRegion ops (Cy .any ops fuel (t/(Bv .any ops listed).length) (listed.setIfInBounds i true) [])::k)) cs) rfl hv (λw=>?_) (ih _ _ a v hv h2)
        have hfin:∀rest,(b.atR a (.inRegion ops (i::rest)::k)).finish undef=b.atR a (.inRegion ops rest::k):=λrest=>by rw[Eu,ho];rfl
        have:∀rest,stepG P M.main (G (b.atR a (.inRegion ops (i::rest)::k)) cs) w=.go (G ((b.atR a (.inRegion ops (i::rest)::k)).finish undef) cs) w:=λrest=>by simp[G,stepG,Cf,Cv,ho]
        rw[this,hfin]
      | some o =>
        simp only[ho]at h2
        split at h2
        · rename_i hw;exact bFe hW (aMt hnd ho) hb hro ho hw hv h2 λa' v' hv' h'=>ih _ _ a' v' hv' h'
        · rename_i hw;exact aLi hW ho hw hv (ih _ _ _ v hv h2)
def bNh{id:Nat}{ops:Array Oper}(hm:P.follows .mixedOrders=true)(hnd:sS ops=true)(h:∀d,yH P ops Q ops.size (AY ops.size false) a { v with drawn:=d }):WR P lp (.region id ops true) Q a v:=by
  intro Win hW hv b k cs hb hro hk;refine(M.closed hW).step rfl hv λv1 w he hsim=>?_
  have hd:stepG P M.main (G (b.atR a (.code (.region id ops true)::k)) cs) w =
      .go (G (b.atR a (.inRegion ops (FQ (P.follows .mixedOrders) ops (w.tape w.drawn (.order b.fn id)))::k)) cs) { w with drawn:=w.drawn+1 }:=by
    simp[G,stepG,Cf,Cv,choose,Sem.run,Question.forced,Question.cut]
  have he2:Env { v with drawn:=v1.drawn+1 } { v1 with drawn:=v1.drawn+1 }:=⟨he.tape,he.os,he.output,he.heap⟩;refine⟨_,{ v1 with drawn:=v1.drawn+1 },_,#[],hd,⟨⟨hsim.tape,by simp[hsim.drawn],hsim.os,hsim.output,hsim.size,hsim.blk⟩,(he.okV hv).congr rfl,⟨rfl,rfl,rfl,Ay _,λ_ c _ _ h=>⟨c,h,rfl,λ_=>rfl⟩,λ_ o h h1 h2=>⟨o,h,h1,h2⟩⟩,λ_ _ _ _=>rfl,by simp⟩,(M.closed hW).env ?_ he2⟩;simp only[FQ,hm,Bool.true_or,AH];exact bPo hW hnd (Q:=Q) hb hro (λa' v' hv' hq=>hk .normal a' v' hv' hq) ops.size _ _ a _ (hv.congr rfl) (h _)
def bNi{c:Code}{Q':Exit->Act->World->Prop}(h:WR P lp c Q a v)(hq:∀e a v,Q e a v->Q' e a v):WR P lp c Q' a v :=
  λWin hW hv b k cs hb hro hk=>h Win hW hv b k cs hb hro λe a' v' hv' hx=>hk e a' v' hv' (hq _ _ _ hx)
def bNf(h:Q .normal a v):WR P lp .skip Q a v:=λWin hW hv _ _ _ _ _ hk=>aM hW rfl hv (λ_=>bOo) (hk .normal a v hv h)
def bBw{l:Nat}(h:Q .normal a v):WR P lp (.label l) Q a v:=λWin hW hv _ _ _ _ _ hk=>aM hW rfl hv (λ_=>bDp) (hk .normal a v hv h)
def bWy(h:Q .ret a v):WR P lp .ret Q a v:=λWin hW hv _ k _ _ _ hk=>hk .ret a v hv h k
def bNk{id:Nat}(h:Q (.exit id) a v):WR P lp (.exit id) Q a v:=by
  intro Win hW hv b k cs _ _ hk;have:=hk (.exit id) a v hv h;cases hx:exitTo id k with
  |some k'=>simp only[yG,hx]at this;exact aM hW rfl hv (λ_=>bOr hx) this
  |none=>simp only[yG,hx]at this;exact this k hx
def bWx{x y:Code}(h:WR P lp x (Exit.then (WR P lp y Q) Q) a v):WR P lp (.seq x y) Q a v:=by
  intro Win hW hv b k cs hb hro hk;refine aM hW rfl hv (λ_=>bXs) (h Win hW hv b (.code y::k) cs hb hro λe a' v' hv' hq=>?_);cases e with
  |normal=>exact hq Win hW hv' b k cs hb hro hk
  |exit id=>have:=hk _ a' v' hv' hq;simp only[yG,exitTo]at this ⊢;exact this
  |ret=>exact hk _ a' v' hv' hq
  |goto l=>exact hk _ a' v' hv' hq
  |panic ch=>exact hk _ a' v' hv' hq
  |outgrown=>exact hk _ a' v' hv' hq
def bNl{c:Operand}{x y:Code}{t:Bool}(hc:a.eval c=.bool t)(h:WR P lp (if t then x else y) Q a v):WR P lp (.cond c x y) Q a v :=
  λWin hW hv b k cs hb hro hk=>aM hW rfl hv (λ_=>bOs hc) (h Win hW hv b k cs hb hro hk)
def bBx{id:Nat}{c:Code}(h:WR P lp c (DQ id Q) a v):WR P lp (.block id c) Q a v:=by
  intro Win hW hv b k cs hb hro hk;refine aM hW rfl hv (λ_=>bDr) (h Win hW hv b (.inBlock id::k) cs hb hro λe a' v' hv' hq=>?_);cases e with
  |normal=>exact aM hW rfl hv' (λ_=>aQf) (hk .normal a' v' hv' hq)
  | exit id' =>
    simp only[DQ]at hq;simp only[yG,exitTo];by_cases he:id'=id
    · rw[Aq he]at hq
      have:=hk .normal a' v' hv' hq
      rw[Aq (by simpa using he.symm)];exact this
    · rw[Ai he]at hq
      have:=hk (.exit id') a' v' hv' hq
      rw[Ai (by simpa using λx:id=id'=>he x.symm)];exact this
  |ret=>exact hk _ a' v' hv' hq
  |goto l=>exact hk _ a' v' hv' hq
  |panic ch=>exact hk _ a' v' hv' hq
  |outgrown=>exact hk _ a' v' hv' hq
def bNj{c:Code}(I:Nat->Act->World->Prop)(h0:∃n,I n a v)(h:∀n a v,I n a v->WR P lp c (Exit.then (λa' v'=>∃m,m<n/\I m a' v') Q) a v):WR P lp (.loop c) Q a v:=by
  intro Win hW hv b k cs hb hro hk;have key:∀n a v,OkV v->I n a v->Win (G (b.atR a (.code c::.inLoop c::k)) cs) v:=by
    intro n;induction n using FT with
    | _ n ih =>
      intro a v hv hI;refine h n a v hI Win hW hv b (.inLoop c::k) cs hb hro λe a' v' hv' hq=>?_
      cases e with
      | normal =>
        obtain⟨m,hlt,hI'⟩:=hq;exact aM hW rfl hv' (λ_=>aXj) (ih m hlt a' v' hv' hI')
      |exit id=>have:=hk _ a' v' hv' hq;simp only[yG,exitTo]at this ⊢;exact this
      |ret=>exact hk _ a' v' hv' hq
      |goto l=>exact hk _ a' v' hv' hq
      |panic ch=>exact hk _ a' v' hv' hq
      |outgrown=>exact hk _ a' v' hv' hq
  obtain⟨n,hn⟩:=h0;exact aM hW rfl hv (λ_=>bOq) (key n a v hv hn)
def WpR.inRound(P:Program)[M:Mch P](lp:Nat):WpR P true (WR P lp) where
  mono h hq:=bNi h hq
  okv h:=λWin hW hv=>h hv Win hW hv
  skip h:=bNf h
  label h:=bBw h
  exit h:=bNk h
  ret h:=bWy h
  regL hnd h:=bNg (hnd rfl) h
  regA hm hnd h:=bNh hm (hnd rfl) h
  seq h:=bWx h
  cond hc h:=bNl hc h
  block h:=bBx h
  loop I h0 h:=bNj I h0 h
  scope e _:=by cases e
end
end Go.Am
end
section
open List renaming map_map->C,mapM_map->L
namespace Go.Am
open Go.Conc
section runs
variable {P:Program} {w:World}
def yL{l:Nat}{r:Loop}(h:w.heap[l]? = some (.loop r)):aK P (getObj l) w=.ok (.loop r) w:=by simp[getObj,aK,h]
def kB{l:Nat}{r r':Loop}(h:w.heap[l]? = some (.loop r)):aK P (setObj l (.loop r')) w=.ok () (w.putObj l (.loop r')):=by simp[setObj,aK,h,World.putObj,okO]
def mE{l:Nat}{r:Loop}(h:w.heap[l]? = some (.loop r)):aK P (Instr.getLoop l) w=.ok r w:=by simp[Instr.getLoop,Sem.run_bind,yL h,Ew]
def nC(o:Obj)(h:okO o=true):aK P (newObj o) w=.ok w.heap.size (w.alloc o):=mF P w o h
def sJ(fn:FuncId)(tmps:Array Value)(ps:Array Tmp)(assign body:Code) :
    aK P (Instr.enterLoop fn tmps ps assign body none) w =
      .ok (w.heap.size+1,[{ target:=.collected w.heap.size,args:=#[] }])
        ((w.alloc (.deferred (some []))).alloc (.loop { state:=.ready,pending:=none,fn,tmps,params:=ps,assign,body,defers:=w.heap.size })):=by
  unfold Instr.enterLoop
  simp only[Sem.run_bind,nC (.deferred (some [])) rfl,Ew,Sem.run_pure]
  rw[nC _ rfl]
  simp only[World.size_alloc]
def aXs{l:Nat}{r:Loop}{args:Array Value}(h:w.heap[l]? = some (.loop r))(hs:args.size=r.params.size) :
    aK P (Instr.yield l args) w=.ok (.round l r.fn ((r.params.zip args).foldl (λtmps (t,a)=>tmps.setIfInBounds t a) r.tmps) r.assign r.body) w:=by
  simp[Instr.yield,Sem.run_bind,mE h,Ew,hs]
def aAp{l:Nat}{r:Loop}(h:w.heap[l]? = some (.loop r))(hr:r.state=.ready) :
    aK P (E3 l) w=.ok () (w.putObj l (.loop { r with state:=.busy })):=by
  simp[E3,Sem.run_bind,mE h,kB h,Ew,hr]
def aHv{l:Nat}{r:Loop}(jump:Option Code)(h:w.heap[l]? = some (.loop r)) :
    aK P (Ga l jump) w=.ok (.bool jump.isNone) (w.putObj l (.loop { r with state:=if jump.isNone then .ready else .done,pending:=jump })):=by
  simp[Ga,Sem.run_bind,mE h,kB h,Ew]
def aLc{l:Nat}{r:Loop}(h:w.heap[l]? = some (.loop r))(hb:r.state≠.busy) :
    aK P (Instr.endLoop l) w=.ok r.pending (w.putObj l (.loop { r with state:=.exhausted })):=by
  simp[Instr.endLoop,Sem.run_bind,mE h,kB h,Ew,hb]
def wJ{b:Nat}{ds:List Deferred}(h:w.heap[b]? = some (.deferred (some ds))) :
    aK P (Fj b) w=.ok ds (w.putObj b (.deferred none)):=by
  simp[Fj,Sem.run_bind,getObj,setObj,aK,h,Ew,World.putObj,okO]
end runs
def aLe{α:Type}{s:Sem α}{P:Program}{w w':World}{r:Result α}{es:Array Event}(h:s.runT P w #[]=(r,es)):s.run P w=r:=by have:=Dh P s w #[];rw[h]at this;exact(congrArg Prod.fst this).symm
def pD(fn:FuncId)(a:Act)(ps:Array Tmp)(assign body:Code)(d:Nat)(st:LoopState)(pe:Option Code):Loop:={ state:=st,pending:=pe,fn,tmps:=a.tmps,params:=ps,assign,body,defers:=d }
def aTg{P:Program}{fr:Frame}{cs:List Frame}{s:Sem Next}{w w':World}{es:Array Event}(hk:(fr.kind==Db)=false)(h:s.runT P w #[]=(.ok .skip w',es)) :
    DV P true fr cs none s w=.go { frame:=fr.finish undef,callers:=cs,status:=.running,dying:=none } w' (seen P fr.fn es):=by
  simp only[DV,AH,h,hk,Ae,Az,Cw,Array.append_empty]
section
variable {P:Program} [M:Mch P] {Win:Goroutine->World->Prop} {b:Frame} {a:Act} {k:List Item} {cs:List Frame} {v:World}
def aWs(hW:M.Fam Win){g:Operand}{ps:Array Tmp}{assign body:Code}{gf:FuncId}{lb:Array Value}(hb:nA b)(hv:OkV v)(hg:a.eval g=.func (.func gf) #[] lb)
    (hent:∀args w,aK P (callFunc gf args) w=.ok (.enter gf args) w)
    (h:∀v1,Env v v1->Win (G (C5 P gf (#[.func (.yield (v1.heap.size+1)) #[] #[]]++lb) .normal)
      (b.at { a with defers:={ target:=.collected v1.heap.size,args:=#[] }::a.defers } (.inRangeFunc (v1.heap.size+1)::k)::cs))
      ((v1.alloc (.deferred (some []))).alloc (.loop (pD b.fn a ps assign body v1.heap.size .ready none)))) :
    Win (G (b.at a (.code (.rangeFunc g ps assign body)::k)) cs) v:=by
  refine(M.closed hW).step rfl hv λv1 w he hsim=>?_
  have hv1:=he.okV hv
  obtain⟨w1,es1,h1,h2,h3,h4,h5,h6⟩:=fG (P:=P) (Instr.enterLoop b.fn a.tmps ps assign body none) v1 w #[] _ _ hv1 hsim (sJ b.fn a.tmps ps assign body)
  obtain⟨v2,hv2⟩:∃v2,(v1.alloc (.deferred (some []))).alloc (.loop (pD b.fn a ps assign body v1.heap.size .ready none))=v2:=⟨_,rfl⟩
  have hres:aK P (resolve a.eval (rangeCall g (v1.heap.size+1)) 0) v2=.ok { target:=.fn (.func gf) lb,args:=#[.func (.yield (v1.heap.size+1)) #[] #[]] } v2:=by simp only[resolve,hg];simp[CF,Act.eval]
  have hinv:aK P (invoke (.fn (.func gf) lb) #[.func (.yield (v1.heap.size+1)) #[] #[]]) v2=.ok (.enter gf (#[.func (.yield (v1.heap.size+1)) #[] #[]]++lb)) v2:=by simp only[invoke,hent]
  have hcall:aK P (do let d <-resolve a.eval (rangeCall g (v1.heap.size+1)) 0;invoke d.target d.args) v2=.ok (.enter gf (#[.func (.yield (v1.heap.size+1)) #[] #[]]++lb)) v2:=by rw[Sem.run_bind,hres];exact hinv
  change Sim ((v1.alloc (.deferred (some []))).alloc (.loop (pD b.fn a ps assign body v1.heap.size .ready none))) w1 at h2
  change OkV ((v1.alloc (.deferred (some []))).alloc (.loop (pD b.fn a ps assign body v1.heap.size .ready none)))at h3
  change Ext _ ((v1.alloc (.deferred (some []))).alloc (.loop (pD b.fn a ps assign body v1.heap.size .ready none)))at h4
  change ∀e∈es1,EvV ((v1.alloc (.deferred (some []))).alloc (.loop (pD b.fn a ps assign body v1.heap.size .ready none))) e at h6
  rw[hv2]at h2 h3 h4 h6
  obtain⟨w2,es2,g1,g2,g3,g4,g5,g6⟩:=fG _ v2 w1 #[] _ _ h3 h2 hcall
  have hk':(b.kind==Db)=false:=hb.beq
  have hev:=Frame.eval_at' b { a with defers:={ target:=.collected v1.heap.size,args:=#[] }::a.defers } (.inRangeFunc (v1.heap.size+1)::k)
  have g1':(do let d <-resolve (b.at { a with defers:={ target:=.collected v1.heap.size,args:=#[] }::a.defers } (.inRangeFunc (v1.heap.size+1)::k)).eval (rangeCall g (v1.heap.size+1)) 0;invoke d.target d.args:Sem Next).runT P w1 #[]=(.ok (.enter gf (#[.func (.yield (v1.heap.size+1)) #[] #[]]++lb)) w2,es2):=by
    rw[hev];have:(Act.eval { a with defers:={ target:=.collected v1.heap.size,args:=#[] }::a.defers })=a.eval:=by funext x;cases x<;>rfl
    rw[this];simpa using g1
  simp only[Frame.at]at g1'
  refine⟨G (C5 P gf (#[.func (.yield (v1.heap.size+1)) #[] #[]]++lb) .normal) (b.at { a with defers:={ target:=.collected v1.heap.size,args:=#[] }::a.defers } (.inRangeFunc (v1.heap.size+1)::k)::cs),v2,w2,seen P b.fn es1++seen P b.fn es2,?_,⟨g2,g3,h4.trans g4,h5.trans h4 g5,λe hx=>?_⟩,?_⟩
  · simp only[G,stepG,Cf,Frame.at,h1,Cw,EN,rangeCall]at g1' ⊢
    simp only[DV,g1',AH]
    simp[hk',Cw]
  · rcases Array.mem_append.1 hx with hx|hx
    · exact(h6 e (by simpa using mem_seen hx)).ext g4
    · exact g6 e (by simpa using mem_seen hx)
  · rw[<-hv2];exact h v1 he
def aWr(hW:M.Fam Win){ops:Array Oper}{i:Nat}{rest:List Nat}{o:Oper}{l:Nat}{f:FuncId}{tmps:Array Value}{assign body:Code}(hb:nA b)(ho:ops[i]? = some o)(hw:Bu o (yielded ops a.tmps)=true)(hv:OkV v)
    (h:∀v1,Env v v1->aK P (execOp a.eval o) v1=.ok (.round l f tmps assign body) v1/\Win (G (Fp l f tmps assign body .normal) (b.at a (.inRegion ops (i::rest)::k)::cs)) v1) :
    Win (G (b.at a (.inRegion ops (i::rest)::k)) cs) v:=by
  refine(M.closed hW).step rfl hv λv1 w he hsim=>?_
  obtain⟨hr,hwin⟩:=h v1 he
  obtain⟨w',es',h1,h2,h3,h4,h5,h6⟩:=fG _ v1 w #[] _ _ (he.okV hv) hsim hr
  have hk':(b.kind==Db)=false:=hb.beq
  have hrw:=aLe (w':=w) h1
  have hev:∀e∈listed P b.fn a o w,EvV v1 e:=λe hx=>by have:=mem_listed hx;have h7:=Dh P (execOp a.eval o) w #[];rw[h1]at h7;have h8:(execOp a.eval o).events P w #[]=#[]++es':=(congrArg Prod.snd h7).symm;rw[h8]at this;exact h6 e (by simpa using this)
  refine⟨_,v1,w',listed P b.fn a o w,?_,⟨h2,h3,h4,h5,hev⟩,hwin⟩
  rw[stepG_oper ho hw]
  simp[DV,hrw,G,Frame.at,hk',Cw,listed]
def aPo(hW:M.Fam Win){ops:Array Oper}{i:Nat}{rest:List Nat}{o:Oper}(hb:nA b)(ho:ops[i]? = some o)(hw:Bu o (yielded ops a.tmps)=true)(hv:OkV v)
    (h:∀v1,Env v v1->∃l f tmps assign body,aK P (execOp a.eval o) v1=.ok (.round l f tmps assign body) v1/\Win (G (Fp l f tmps assign body .normal) (b.at a (.inRegion ops (i::rest)::k)::cs)) v1) :
    Win (G (b.at a (.inRegion ops (i::rest)::k)) cs) v:=by
  refine(M.closed hW).step rfl hv λv1 w he hsim=>?_
  obtain⟨l,f,tmps,assign,body,hr,hwin⟩:=h v1 he
  obtain⟨w',es',h1,h2,h3,h4,h5,h6⟩:=fG _ v1 w #[] _ _ (he.okV hv) hsim hr
  have hk':(b.kind==Db)=false:=hb.beq
  have hrw:=aLe (w':=w) h1
  have hev:∀e∈listed P b.fn a o w,EvV v1 e:=λe hx=>by have:=mem_listed hx;have h7:=Dh P (execOp a.eval o) w #[];rw[h1]at h7;have h8:(execOp a.eval o).events P w #[]=#[]++es':=(congrArg Prod.snd h7).symm;rw[h8]at this;exact h6 e (by simpa using this)
  refine⟨_,v1,w',listed P b.fn a o w,?_,⟨h2,h3,h4,h5,hev⟩,hwin⟩
  rw[stepG_oper ho hw]
  simp[DV,hrw,G,Frame.at,hk',Cw,listed]
def aWt(hW:M.Fam Win){l:Nat}(hb:b.kind=.normal)(hro:b.roundOf=some l)(hv:OkV v)(h:∀v1,Env v v1->∃v2,aK P (E3 l) v1=.ok () v2/\(OkV v2->Win (G (b.atR a k) cs) v2)) :
    Win (G (b.atR a (.beginRound::k)) cs) v:=by
  refine(M.closed hW).step rfl hv λv1 w he hsim=>?_
  obtain⟨v2,hr,hwin⟩:=h v1 he
  have hr':aK P (do E3 l;pure .skip:Sem Next) v1=.ok .skip v2:=by rw[Sem.run_bind,hr];rfl
  obtain⟨w',es',h1,h2,h3,h4,h5,h6⟩:=fG _ v1 w #[] _ _ (he.okV hv) hsim hr'
  have hk':(b.kind==Db)=false:=by simp[hb]
  refine⟨_,v2,w',seen P b.fn es',?_,⟨h2,h3,h4,h5,λe hx=>h6 e (by simpa using mem_seen hx)⟩,hwin h3⟩
  have h1':(do (b.roundOf).elim (stuck "beginRound: no round") E3; pure .skip:Sem Next).runT P w #[]=(.ok .skip w',es'):=by rw [hro]; simpa using h1
  have:=aTg (fr:=b.atR a (.beginRound::k)) (cs:=cs) (by exact hk') h1'
  simp only[G,stepG,Cf]
  exact this
def bCg(hW:M.Fam Win){l:Nat}{c:Frame}{e:Exit}{jump:Option Code}(hb:b.kind=.normal)(hro:b.roundOf=some l)(hv:OkV v)(hj:(e,jump)=(.normal,none)\/(e,jump)=(.ret,some .ret)\/∃id,(e,jump)=(.exit id,some (.exit id)))
    (h:∀v1,Env v v1->∃x v2,aK P (Ga l jump) v1=.ok x v2/\(OkV v2->Win (G (c.finish x) cs) v2)):yG Win b [] (c::cs) e a v:=by
  have key:∀(todo:List Item),(∀w w' x es,(Ga l jump).runT P w #[]=(.ok x w',es)->stepG P M.main (G (b.atR a todo) (c::cs)) w=.go (G (c.finish x) cs) w' (seen P b.fn es))->Win (G (b.atR a todo) (c::cs)) v:=by
    intro todo hst;refine(M.closed hW).step rfl hv λv1 w he hsim=>?_
    obtain⟨x,v2,hr,hwin⟩:=h v1 he;obtain⟨w',es',h1,h2,h3,h4,h5,h6⟩:=fG _ v1 w #[] _ _ (he.okV hv) hsim hr;exact⟨_,v2,w',seen P b.fn es',hst _ _ _ _ (by simpa using h1),⟨h2,h3,h4,h5,λe hx=>h6 e (by simpa using mem_seen hx)⟩,hwin h3⟩
  rcases hj with hj|hj|⟨id,hj⟩
  · injection hj with e1 e2;subst e1;subst e2
    exact key [] λw w' x es hr=>by simp[-Dh,G,stepG,Cf,Cv,hro,hb,hr,doReturn,Cw]
  · injection hj with e1 e2;subst e1;subst e2
    exact λk1=>key _ λw w' x es hr=>by simp[-Dh,G,stepG,Cf,Cv,hro,hb,hr,doReturn,Cw]
  · injection hj with e1 e2;subst e1;subst e2
    simp only[yG,exitTo]
    exact λk1 hk1=>key _ λw w' x es hr=>by simp[-Dh,G,stepG,Cf,Cv,hro,hb,hk1,hr,doReturn,Cw]
def aHa(hW:M.Fam Win){l:Nat}(hv:OkV v)(h:∀v1,Env v v1->∃jump v2,aK P (Instr.endLoop l) v1=.ok jump v2/\(OkV v2->Win (G (b.at a ((jump.map Item.code).toList++k)) cs) v2)) :
    Win (G (b.at a (.endRangeFunc l::k)) cs) v:=by
  refine(M.closed hW).step rfl hv λv1 w he hsim=>?_
  obtain⟨jump,v2,hr,hwin⟩:=h v1 he
  obtain⟨w',es',h1,h2,h3,h4,h5,h6⟩:=fG _ v1 w #[] _ _ (he.okV hv) hsim hr
  refine⟨_,v2,w',seen P b.fn es',?_,⟨h2,h3,h4,h5,λe hx=>h6 e (by simpa using mem_seen hx)⟩,hwin h3⟩
  simp only[Cl]at h1
  simp[-Dh,G,stepG,Cf,Frame.at,h1,Cw]
def bCf(hW:M.Fam Win){D:Nat}{ds:List Deferred}{todo:List Item}(hv:OkV v)(hd:a.defers={ target:=.collected D,args:=#[] }::ds)
    (h:∀v1,Env v v1->∃v2,aK P (Fj D) v1=.ok [] v2/\(OkV v2->Win (G { b.at { a with defers:=ds } todo with mode:=.returning } cs) v2)) :
    Win (G { b.at a todo with mode:=.returning } cs) v:=by
  refine(M.closed hW).step rfl hv λv1 w he hsim=>?_
  obtain⟨v2,hr,hwin⟩:=h v1 he
  obtain⟨w',es',h1,h2,h3,h4,h5,h6⟩:=fG _ v1 w #[] _ _ (he.okV hv) hsim hr
  refine⟨_,v2,w',seen P b.fn es',?_,⟨h2,h3,h4,h5,λe hx=>h6 e (by simpa using mem_seen hx)⟩,hwin h3⟩
  simp only[Cl]at h1
  simp[-Dh,G,stepG,unwind,Frame.at,hd,h1,Cw]
end
end Go.Am
end
section
open List renaming map_map->C,mapM_map->L
namespace Go.Am
open RowKit (Below)
def SRB(F M:Nat->Prop)(N:Nat)(ds:List Deferred)(σ:St)(a:Act)(w:World):Prop :=
  (∀id,σ.n<=id->σ.H id=none)/\∃ι,(∀b,F b->b<w.heap.size)/\(∀id b,ι id=some b->M b)/\(∀b,M b->b<w.heap.size/\¬F b) /\
    (∀id b o,ι id=some b->σ.H id=some o->∃ob,w.heap[b]? = some ob/\CR F w ι o ob)/\(∀id id' b,ι id=some b->ι id'=some b->id=id') /\
    (∀id,(∃b,ι id=some b)↔(σ.H id).isSome=true)/\(∀t,V F w ι (σ.Γ t) (a.tmps.getD t undef))/\a.tmps.size=N/\a.defers=ds
def aEi:Nat->Prop:=λ_=>True
def noZ:Nat->Option Value:=λ_=>none
section
variable {P:Program} {F M:Nat->Prop} {N:Nat} {ds:List Deferred} {σ:St} {a:Act} {w:World}
def SRB.sr(h:SRB F M N ds σ a w)(hok:OkV w)(Z:Nat->Option Value)(hZ:∀t v,Z t=some v->a.tmps.getD t undef=v):SR ⟨w,F,M,aEi,Z⟩ N ds σ a w:=by
  obtain⟨h1,ι,hF,hM,hMF,ho,hi,hd,hV,hN,hds⟩:=h;refine⟨h1,λ_ _=>trivial,hok,F,ι,⟨.refl _ _ _,hF,λb h=>.inl h,λid b e=>⟨.inl (hM id b e),(hMF b (hM id b e)).1,λ_=>(hMF b (hM id b e)).2⟩,ho,λid id' b e e' _ _=>hi id id' b e e',λid id' b o o' e e' _ q q'=>?_⟩,hd,hV,⟨hN,hZ⟩,hds,λ_ _=>trivial⟩;have:=hi id id' b e e';subst this;rw[q]at q';injection q' with q';subst q'
  exact Ay _
def SR.srb{G:Ctx}(h:SR G N ds σ a w):∃F M,SRB F M N ds σ a w/\(∀b,M b->G.M b\/G.W.heap.size<=b)/\(∀b,F b->G.A b\/G.M b\/G.W.heap.size<=b)/\Kept G.M G.W.heap.size G.W w /\
    ∀t v,G.Z t=some v->a.tmps.getD t undef=v:=by
  obtain⟨h1,h2,_,F,ι,hR,hd,hV,hN,hds,_⟩:=h
  refine⟨F,λb=>∃id,ι id=some b,⟨h1,ι,hR.F_lt,λid b e=>⟨id,e⟩,?_,hR.obj,λid id' b e e'=>hR.inj id id' b e e' (λx=>x) (λx=>x),hd,hV,hN.1,hds⟩,?_,hR.F_ok,hR.kept,hN.2⟩
  · rintro b ⟨id,e⟩;exact⟨(hR.place id b e).2.1,(hR.place id b e).2.2 λx=>x⟩
  · rintro b ⟨id,e⟩;exact(hR.place id b e).1
def SRB.world(h:SRB F M N ds σ a w){w':World}(hsz:w.heap.size<=w'.heap.size)(hb:∀b,F b\/M b->w'.heap[b]? = w.heap[b]?):SRB F M N ds σ a w':=by obtain⟨h1,ι,hF,hM,hMF,ho,hi,hd,hV,hN,hds⟩:=h;have hs:Step F w ι F w' ι:=⟨λ_ h=>h,λb h=>hb b (.inl h),λ_ _ h=>h,λid b cur e hi h=>⟨cur,(hb b (.inr (hM id b hi))).trans h,rfl⟩⟩;refine⟨h1,ι,λb h=>A6 (hF b h) hsz,hM,λb h=>⟨A6 (hMF b h).1 hsz,(hMF b h).2⟩,λid b o e e'=>?_,hi,hd,λt=>(hV t).step hs,hN,hds⟩;obtain⟨ob,q1,q2⟩:=ho id b o e e';exact⟨ob,(hb b (.inr (hM id b e))).trans q1,q2.step hs⟩
def SRB.more(h:SRB F M N ds σ a w){F':Nat->Prop}(hFF:∀b,F b->F' b)(hF':∀b,F' b->b<w.heap.size)(hMF':∀b,M b->¬F' b):SRB F' M N ds σ a w:=by obtain⟨h1,ι,hF,hM,hMF,ho,hi,hd,hV,hN,hds⟩:=h;have hs:Step F w ι F' w ι:=⟨hFF,λb h=>rfl,λ_ _ h=>h,λid b cur e hi h=>⟨cur,h,rfl⟩⟩;refine⟨h1,ι,hF',hM,λb h=>⟨(hMF b h).1,hMF' b h⟩,λid b o e e'=>?_,hi,hd,λt=>(hV t).step hs,hN,hds⟩;obtain⟨ob,q1,q2⟩:=ho id b o e e';exact⟨ob,q1,q2.step hs⟩
def SRB.act(h:SRB F M N ds σ a w){Γ':Nat->AV}{a':Act}{ds':List Deferred}(hN:a'.tmps.size=N)(hds:a'.defers=ds')
    (hV:∀t,(Γ' t=σ.Γ t/\a'.tmps.getD t undef=a.tmps.getD t undef)\/Γ' t=.any\/∃d v,Γ' t=aL d/\a'.tmps.getD t undef=v/\VD F w d v):SRB F M N ds' ⟨Γ',σ.H,σ.n⟩ a' w:=by
  obtain⟨h1,ι,hF,hM,hMF,ho,hi,hd,hV0,_,_⟩:=h
  refine⟨h1,ι,hF,hM,hMF,ho,hi,hd,λt=>?_,hN,hds⟩
  rcases hV t with ⟨e1,e2⟩|e|⟨d,v,e1,e2,e3⟩
  · show V F w ι (Γ' t) _
    rw[e1,e2];exact hV0 t
  · show V F w ι (Γ' t) _
    rw[e];exact .any _
  · show V F w ι (Γ' t) _
    rw[e1,e2];exact mX e3
def SRB.defers(h:SRB F M N ds σ a w)(ds':List Deferred):SRB F M N ds' σ { a with defers:=ds' } w:=by obtain⟨h1,ι,hF,hM,hMF,ho,hi,hd,hV,hN,hds⟩:=h;exact⟨h1,ι,hF,hM,hMF,ho,hi,hd,hV,hN,rfl⟩
def SRB.weak(h:SRB F M N ds σ a w)(hok:OkV w){σ':St}{ρ:Nat->Nat}(hk:Wk σ σ' ρ):∃F' M',SRB F' M' N ds σ' a w/\(∀b,M' b->M b)/\∀b,F' b->F b\/M b:=by
  obtain⟨F',M',h',hM,hF,_⟩:=(vY hk (h.sr hok noZ λ_ _ e=>by cases e)).srb;refine⟨F',M',h',λb hb=>?_,λb hb=>?_⟩
  · rcases hM b hb with h1|h1
    · exact h1
    · obtain⟨_,_,_,_,q,_⟩:=h'
      have:=(q b hb).1
      simp only at h1;omega
  · rcases hF b hb with h1|h1|h1
    · exact .inl h1
    · exact .inr h1
    · obtain⟨_,_,q,_⟩:=h'
      have:=q b hb
      simp only at h1;omega
def lW(σ:St)(l:List Nat):St:=fin ⟨σ.Γ,kill l σ.H,σ.n⟩ l
def SRB.callee(h:SRB F M N ds σ a w){g:Operand}{gf:FuncId}{cs:List AV}{caps:List D}(hg:dM (oev σ.Γ g)=some (gf,cs))(hf:cI σ.H cs=some caps) :
    ∃lb A M',a.eval g=.func (.func gf) #[] lb/\caps.length=lb.size/\(∀(k:Nat) d v,caps[k]? = some d->lb[k]? = some v->VD A w d v)/\SRB A M' N ds (lW σ (bV σ.H cs)) a w /\
      (∀b,A b->F b\/M b)/\(∀b,M' b->M b):=by
  obtain⟨h1,ι,hF,hM,hMF,ho,hi,hd,hV,hN,hds⟩:=h
  have hR:HR ⟨w,F,M,aEi,noZ⟩ F w ι bD σ.H:=by
    refine⟨.refl _ _ _,hF,λb h=>.inl h,λid b e=>⟨.inl (hM id b e),(hMF b (hM id b e)).1,λ_=>(hMF b (hM id b e)).2⟩,ho,λid id' b e e' _ _=>hi id id' b e e',λid id' b o o' e e' _ q q'=>?_⟩;have:=hi id id' b e e';subst this;rw[q]at q';injection q' with q';subst q'
    exact Ay _
  have hVg:V F w ι (oev σ.Γ g) (a.eval g):=cH λt _=>hV t
  obtain⟨lb,e1,e2,e3⟩:=aGk hg hVg
  obtain⟨q1,q2,q3⟩:=mJ (vs:=lb.toList) hR (λ_ _ h=>h) hf (by simpa using e2) λk c u hc hu=>e3 k c u hc (by simpa using hu)
  let l:=bV σ.H cs
  have hAM:∀b,reach F ι l b->F b\/M b:=by
    rintro b (hb|⟨id,_,e⟩)
    · exact .inl hb
    · exact .inr (hM id b e)
  have hAlt:∀b,reach F ι l b->b<w.heap.size:=λb hb=>(hAM b hb).elim (hF b) λh=>(hMF b h).1
  have hs:Step F w ι (reach F ι l) w ι:=⟨λb h=>.inl h,λb h=>rfl,λ_ _ h=>h,λid b cur e hi h=>⟨cur,h,rfl⟩⟩
  refine⟨lb,reach F ι l,λb=>M b/\¬reach F ι l b,e1,by simpa using q1,λk d v hk hv=>q2 k d v hk (by simpa using hv),?_,hAM,λb h=>h.1⟩
  have hmask:∀id b,mask ι l id=some b->M b/\¬reach F ι l b:=λid b e=>by
    obtain⟨m1,m2⟩:=cM e;refine⟨hM id b m1,?_⟩;rintro(hb|⟨id',hid',e'⟩)
    · exact(hMF b (hM id b m1)).2 hb
    · exact m2 (hi id id' b m1 e' ▸ hid')
  have hkill:∀id,kill l σ.H id=if id∈l then none else σ.H id:=λid=>by
    by_cases hid:id∈l
    · rw[Aq hid,lM hid]
    · rw[Ai hid,nH hid]
  unfold lW
  show SRB (reach F ι l) _ N ds (fin ⟨σ.Γ,kill l σ.H,σ.n⟩ l) a w
  cases hl:l with
  | nil =>
    have hmk:mask ι l=ι:=by funext id;simp[mask,hl]
    rw[<-hl]
    have hfin:fin ⟨σ.Γ,kill l σ.H,σ.n⟩ l=σ:=by rw[hl];rfl
    rw[hfin]
    refine⟨h1,ι,hAlt,λid b e=>hmask id b (by rw[hmk];exact e),λb h=>⟨(hMF b h.1).1,h.2⟩,λid b o e e'=>?_,hi,hd,λt=>(hV t).step hs,hN,hds⟩
    obtain⟨ob,p1,p2⟩:=ho id b o e e'
    exact⟨ob,p1,p2.step hs⟩
  | cons x xs =>
    rw[<-hl]
    have hfin:fin ⟨σ.Γ,kill l σ.H,σ.n⟩ l=⟨λt=>jK l (σ.Γ t),λid=>(kill l σ.H id).map (fU l),σ.n⟩:=by rw[hl];rfl
    rw[hfin]
    refine⟨λid h=>by simp only;rw[hkill,h1 id h];simp,mask ι l,hAlt,hmask,λb h=>⟨(hMF b h.1).1,h.2⟩,λid b o e e'=>?_,λid id' b e e'=>hi id id' b (cM e).1 (cM e').1,λid=>?_,λt=>aJw ((hV t).step hs),hN,hds⟩
    · obtain⟨m1,m2⟩:=cM e
      simp only[hkill,Ai m2]at e'
      obtain⟨o1,ho1,rfl⟩:=Af.1 e'
      obtain⟨ob,p1,p2⟩:=ho id b o1 m1 ho1
      exact⟨ob,p1,aDr (p2.step hs)⟩
    · constructor
      · rintro⟨b,e⟩
        obtain⟨m1,m2⟩:=cM e
        simp only[hkill,Ai m2,ES]
        exact(hd id).1 ⟨b,m1⟩
      · intro e
        by_cases hid:id∈l
        · simp[hkill,hid]at e
        · simp only[hkill,Ai hid,ES]at e
          obtain⟨b,hb⟩:=(hd id).2 e
          exact⟨b,by unfold mask;rw[Ai hid];exact hb⟩
end
end Go.Am
end
section
open List renaming map_map->C,mapM_map->L
namespace Go.Am
open Go.Conc (G)
open RowKit (Below)
def YX(P:Program)[M:Mch P](l:Nat)(vals:Array Value)(W1:World)(R:Value->World->Prop):Prop :=
  ∃f tmps assign body,aK P (Instr.yield l vals) W1=.ok (.round l f tmps assign body) W1 /\
    ∀(Win:Goroutine->World->Prop),M.Fam Win->OkV W1->∀(c:Frame) (cs:List Frame),(∀x v',OkV v'->R x v'->Win (Go.Conc.G (c.finish x) cs) v')->Win (Go.Conc.G (Fp l f tmps assign body .normal) (c::cs)) W1
def mM(P:Program)[M:Mch P](g:FuncId)(caps:List D)(xs:List (List D)):Prop :=
  ∀(A:Nat->Prop) (W:World) (l:Nat) (lb:Array Value),(∀b,A b->b<W.heap.size)->caps.length=lb.size->(∀(k:Nat) d v,caps[k]? = some d->lb[k]? = some v->VD A W d v) ->
    (∀args w,aK P (callFunc g args) w=.ok (.enter g args) w) /\
    ∀(J:Nat->(Nat->Prop)->(Nat->Prop)->World->Prop),
      (∀k X O W1 X' O' W2,J k X O W1->Kept O W1.heap.size W1 W2->(∀b,X b->X' b)->(∀b,X' b->X b\/(W1.heap.size<=b/\b<W2.heap.size))->(∀b,O' b->X' b/\(O b\/W1.heap.size<=b))->J k X' O' W2) ->
      (∀k X O W1 ds (vals:Array Value),xs[k]? = some ds->J k X O W1->ds.length=vals.size->(∀(i:Nat) d v,ds[i]? = some d->vals[i]? = some v->VD (λb=>A b\/(X b/\¬O b)) W1 d v) ->
        YX P l vals W1 λx W2=>x=.bool (decide (k+1≠xs.length))/\J (k+1) X O W2/\W1.heap.size<=W2.heap.size/\W2.os=W1.os/\W2.tape=W1.tape/\W2.output=W1.output/\∀b,A b\/X b->W2.heap[b]? = W1.heap[b]?) ->
      J 0 bD bD W ->
      CX P g (#[.func (.yield l) #[] #[]]++lb) W λ_ W'=>∃X O,J xs.length X O W'
def pI(Ds:List Nat):List Deferred:=Ds.map λD=>{ target:=.collected D,args:=#[] }
def FR(W:World)(A0:Nat->Prop)(N:Nat)(Ds:List Nat)(σ:St)(a:Act)(w:World):Prop :=
  ∃F M,SRB F M N (pI Ds) σ a w/\(∀b,M b->W.heap.size<=b)/\(∀b,F b->A0 b\/W.heap.size<=b)/\Kept bD W.heap.size W w /\
    (∀D∈Ds,W.heap.size<=D/\w.heap[D]? = some (.deferred (some []))/\¬M D/\¬F D)/\Ds.Nodup
def FRx(W:World)(A0:Nat->Prop)(N:Nat)(σ:St)(a:Act)(w:World):Prop:=∃Ds,FR W A0 N Ds σ a w
def dJ{w:World}{b:Nat}{o:Obj}(h:w.heap[b]? = some o):b<w.heap.size:=(AX.1 h).1
section
variable {P:Program} [M:Mch P] {W w:World} {A0:Nat->Prop} {N:Nat} {Ds:List Nat} {σ:St} {a:Act}
def SRB.env{F Ms:Nat->Prop}{ds:List Deferred}(h:SRB F Ms N ds σ a w){v1:World}(he:Env w v1):SRB F Ms N ds σ a v1:=by
  have hF:∀b,F b->b<w.heap.size:=by obtain⟨_,_,q,_⟩:=h;exact q
  have hM:∀b,Ms b->b<w.heap.size:=by obtain⟨_,_,_,_,q,_⟩:=h;exact λb hb=>(q b hb).1
  exact h.world he.size λb hb=>he.get (hb.elim (hF b) (hM b))
def Env.kept{v v1:World}(h:Env v v1)(O:Nat->Prop):Kept O v.heap.size v v1 :=
  ⟨h.os,h.tape,h.output,h.size,λk hk _=>h.get hk,λk cur e hk hc=>⟨cur,(h.get hk).trans hc,rfl⟩⟩
def FRx.env(h:FRx W A0 N σ a w){v1:World}(he:Env w v1):FRx W A0 N σ a v1:=by obtain⟨Ds,F,M,hs,hM,hF,hK,hD,hnd⟩:=h;have hWw:=hK.size;refine⟨Ds,F,M,hs.env he,hM,hF,hK.trans ⟨he.os,he.tape,he.output,he.size,λk hk _=>he.get (by omega),λk cur e hk hc=>⟨cur,(he.get (by omega)).trans hc,rfl⟩⟩,λD hDm=>?_,hnd⟩;obtain⟨d1,d2,d3,d4⟩:=hD D hDm;exact⟨d1,(he.get (dJ d2)).trans d2,d3,d4⟩
def oJ(hm:P.follows .mixedOrders=true){c:Code}{Q:Exit->St->Prop}(hd:bN N c=true)(hl:bQ P c=true)(h:AWP P c σ Q)(hs:FRx W A0 N σ a w) :
    WC P c (λe a' w'=>∃σ',Q e σ'/\FRx W A0 N σ' a' w') a w:=by
  refine(WpR.plain P).okv λhok=>?_
  obtain⟨Ds,F,Ms,hs,hM,hF,hK,hD,hnd⟩:=hs
  have hMlt:∀b,Ms b->b<w.heap.size:=by obtain⟨_,_,_,_,q,_⟩:=hs;exact λb hb=>(q b hb).1
  refine cC (cJ (G:=⟨w,F,Ms,aEi,noZ⟩) hm (λ_=>rfl) c Q σ a w hd hl h (hs.sr hok noZ λ_ _ e=>by cases e)) ?_
  rintro e a' w' ⟨σ',hq,hs'⟩
  refine⟨σ',hq,?_⟩
  obtain⟨F',M',h',hM',hF',hK',_⟩:=hs'.srb
  simp only at hM' hF' hK'
  have hWw:=hK.size
  refine⟨Ds,F',M',h',λb hb=>?_,λb hb=>?_,hK.trans ⟨hK'.os,hK'.tape,hK'.output,hK'.size,λk hk _=>hK'.block k (by omega) λhm=>by have:=hM k hm;omega,λk cur e hk hc=>hK'.shape k cur e (by omega) hc⟩,λD hDm=>?_,hnd⟩
  · rcases hM' b hb with h|h
    · exact hM b h
    · omega
  · rcases hF' b hb with h|h|h
    · exact hF b h
    · exact .inr (hM b h)
    · exact .inr (by omega)
  · obtain⟨d1,d2,d3,d4⟩:=hD D hDm
    have hlt:=dJ d2
    refine⟨d1,(hK'.block D hlt d3).trans d2,λhm=>?_,λhf=>?_⟩
    · rcases hM' D hm with h|h
      · exact d3 h
      · omega
    · rcases hF' D hf with h|h|h
      · exact d4 h
      · exact d3 h
      · omega
def aDt:List (Tmp×D)->(Nat->AV)->Nat->AV
  |[],Γ=>Γ
  |(p,d)::l,Γ=>aDt l (upd Γ p (aL d))
def bEd{F:Nat->Prop}{w:World}{wr:Nat->Bool}:∀(l:List (Tmp×D)) (vs:List (Tmp×Value)) (Γ0 Γ:Nat->AV) (T0 T:Array Value),T.size=T0.size->l.length=vs.length ->
    (∀(k:Nat) p q,l[k]? = some p->vs[k]? = some q->p.1=q.1/\p.1<T0.size/\wr p.1=true/\VD F w p.2 q.2) ->
    (∀t,(Γ t=Γ0 t/\T.getD t undef=T0.getD t undef)\/Γ t=.any\/∃d v,Γ t=aL d/\T.getD t undef=v/\VD F w d v) ->
    (∀t,wr t=false->T.getD t undef=T0.getD t undef) ->
    ((vs.foldl (λt (p:Tmp×Value)=>t.setIfInBounds p.1 p.2) T).size=T0.size) /\
    (∀t,(aDt l Γ t=Γ0 t/\(vs.foldl (λt (p:Tmp×Value)=>t.setIfInBounds p.1 p.2) T).getD t undef=T0.getD t undef)\/aDt l Γ t=.any\/∃d v,aDt l Γ t=aL d/\(vs.foldl (λt (p:Tmp×Value)=>t.setIfInBounds p.1 p.2) T).getD t undef=v/\VD F w d v) /\
    (∀t,wr t=false->(vs.foldl (λt (p:Tmp×Value)=>t.setIfInBounds p.1 p.2) T).getD t undef=T0.getD t undef)
  |[],[],Γ0,Γ,T0,T,hsz,_,_,h,hz=>⟨hsz,h,hz⟩
  |[],_::_,_,_,_,_,_,hl,_,_,_=>by simp at hl
  |_::_,[],_,_,_,_,_,hl,_,_,_=>by simp at hl
  | (p,d)::l,(p',v)::vs,Γ0,Γ,T0,T,hsz,hl,hp,h,hz=>by
    obtain⟨e1,e2,e3,e4⟩:=hp 0 _ _ rfl rfl;simp only at e1 e2 e3 e4;subst e1;have hget:∀t,(T.setIfInBounds p v).getD t undef=if t=p then v else T.getD t undef:=λt=>by
      simp only[Au];by_cases ht:t=p
      · subst ht;rw[Aq rfl,BT (by rw[hsz];exact e2)];rfl
      · rw[Ai ht,AF (Ne.symm ht)]
    refine bEd (wr:=wr) l vs Γ0 (upd Γ p (aL d)) T0 (T.setIfInBounds p v) (by simpa using hsz) (by simpa using hl) (λk a b ha hb=>hp (k+1) a b (by simpa using ha) (by simpa using hb)) (λt=>?_) λt ht=>?_
    · by_cases htp:t=p
      · subst htp
        exact .inr (.inr ⟨d,v,upd_same _ _ _,by rw[hget,Aq rfl],e4⟩)
      · rw[upd_ne _ _ htp,hget,Ai htp];exact h t
    · rw[hget,Ai (λe=>by subst e;rw[e3]at ht;cases ht)];exact hz t ht
structure aKb(P:Program)[M:Mch P](N:Nat)(ps:Array Tmp)(assign body:Code)(wl:List Nat)(xs:List (List D))(T:Nat->St)(E:Exit):Prop where
  dst:bN N assign=true/\bN N body=true
  lex:bQ P assign=true/\bQ P body=true
  rd:gH assign=true/\gH body=true
  nz:fR (λt=>!wl.contains t) assign=true/\fR (λt=>!wl.contains t) body=true
  psl:∀p∈ps.toList,p<N/\wl.contains p=true
  ne:0<xs.length
  round:∀k x,xs[k]? = some x->x.length=ps.size/\AWP P assign ⟨aDt (ps.toList.zip x) (T k).Γ,(T k).H,(T k).n⟩ λe σ1=>e=.normal /\
    AWP P body σ1 λe σ2=>e=(if k+1=xs.length then E else .normal)/\∃ρ,Wk ⟨λt=>if wl.contains t then .any else σ2.Γ t,σ2.H,σ2.n⟩ (T (k+1)) ρ
def aSc(l:Array (Tmp×Value))(T:Array Value):l.foldl (λt (x:Tmp×Value)=>match x with|(p,v)=>t.setIfInBounds p v) T=l.toList.foldl (λt (p:Tmp×Value)=>t.setIfInBounds p.1 p.2) T:=by rw[<-Array.foldl_toList]
def pY(rec:LoopState->Option Code->Loop)(jc:Code)(n k:Nat):Loop:=if k=n then rec .done (some jc)else rec .ready none
def JR(W:World)(n:Nat)(A0 A:Nat->Prop)(N:Nat)(Ds:List Nat)(T:Nat->St)(a:Act)(rec:Nat->Loop)(k:Nat)(X O:Nat->Prop)(U:World):Prop:=∃F M,SRB F M N (pI Ds) (T k) a U /\
    (∀b,M b->W.heap.size<=b/\¬X b/\¬A b/\b≠n+1/\b≠n/\b ∉ Ds)/\(∀b,F b->(A0 b\/W.heap.size<=b)/\¬O b/\b≠n+1/\b≠n/\b ∉ Ds) /\
    Kept bD W.heap.size W U/\(∀D∈Ds,U.heap[D]? = some (.deferred (some [])))/\U.heap[n+1]? = some (.loop (rec k))/\U.heap[n]? = some (.deferred (some [])) /\
    (∀b,X b->n+2<=b/\b<U.heap.size)/\(∀b,O b->X b)
def JR.stab{n:Nat}{A:Nat->Prop}{T:Nat->St}{rec:Nat->Loop}(hWw:W.heap.size<=n)(hDs:∀D∈Ds,D<n):∀k X O U1 X' O' U2,JR W n A0 A N Ds T a rec k X O U1->Kept O U1.heap.size U1 U2->(∀b,X b->X' b) ->
    (∀b,X' b->X b\/(U1.heap.size<=b/\b<U2.heap.size))->(∀b,O' b->X' b/\(O b\/U1.heap.size<=b))->JR W n A0 A N Ds T a rec k X' O' U2:=by
  rintro k X O U1 X' O' U2 ⟨F,M,hj,hjM,hjF,hjK,hjD,hjl,hjd,hjX,hjO⟩ hk hX1 hX2 hO
  have hFlt:∀b,F b->b<U1.heap.size:=by obtain⟨_,_,q,_⟩:=hj;exact q
  have hMlt:∀b,M b->b<U1.heap.size:=by obtain⟨_,_,_,_,q,_⟩:=hj;exact λb h=>(q b h).1
  have keep:∀b,b<U1.heap.size->¬O b->U2.heap[b]? = U1.heap[b]? := λb h1 h2=>hk.block b h1 h2
  have hOge:∀b,O b->n+2<=b:=λb hb=>(hjX b (hjO b hb)).1
  have hKs:=hjK.size
  refine⟨F,M,hj.world hk.size λb hb=>?_,λb hb=>?_,λb hb=>?_,?_,λD hDm=>?_,?_,?_,λb hb=>?_,λb hb=>(hO b hb).1⟩
  · rcases hb with h|h
    · exact keep b (hFlt b h) (hjF b h).2.1
    · exact keep b (hMlt b h) λho=>(hjM b h).2.1 (hjO b ho)
  · obtain⟨q1,q2,q3⟩:=hjM b hb
    refine⟨q1,λhx=>?_,q3⟩
    rcases hX2 b hx with h|h
    · exact q2 h
    · have:=hMlt b hb;omega
  · obtain⟨q1,q2,q3⟩:=hjF b hb
    refine⟨q1,λhx=>?_,q3⟩
    rcases(hO b hx).2 with h|h
    · exact q2 h
    · have:=hFlt b hb;omega
  · exact hjK.trans ⟨hk.os,hk.tape,hk.output,hk.size,λk hk' _=>keep k (by omega) λho=>(by have:=hOge k ho;omega),λk cur e hk' hc=>⟨cur,(keep k (by omega) λho=>(by have:=hOge k ho;omega)).trans hc,rfl⟩⟩
  · have:=hDs D hDm
    exact(keep D (dJ (hjD D hDm)) λho=>by have:=hOge D ho;omega).trans (hjD D hDm)
  · exact(keep _ (dJ hjl) λho=>by have:=hOge _ ho;omega).trans hjl
  · exact(keep _ (dJ hjd) λho=>by have:=hOge _ ho;omega).trans hjd
  · have:=hk.size
    rcases hX2 b hb with h|h
    · have:=hjX b h;omega
    · have:=dJ hjl
      refine⟨?_,h.2⟩
      omega
def Kept.env{O:Nat->Prop}{n:Nat}{v v1:World}(h:Kept O n W v)(hn:n<=v.heap.size)(he:Env v v1):Kept O n W v1 :=
  h.trans ⟨he.os,he.tape,he.output,he.size,λk hk _=>he.get (by omega),λk cur e hk hc=>⟨cur,(he.get (by omega)).trans hc,rfl⟩⟩
def JR.round(hm:P.follows .mixedOrders=true){n:Nat}{A:Nat->Prop}{ps:Array Tmp}{assign body:Code}{fn:FuncId}{xs:List (List D)}{T:Nat->St}{wl:List Nat}{E:Exit}{jc:Code}(hE:(E,jc)=(.ret,.ret)\/∃id,(E,jc)=(.exit id,.exit id))(hWw:W.heap.size<=n)(hDs:∀D∈Ds,D<n)(hAlt:∀b,A b->b<n)
    (hA0':∀b,A b->A0 b\/W.heap.size<=b) (hADs:∀b,A b->b ∉ Ds) (hadef:a.tmps.size=N) (hadd:a.defers=pI Ds) (hr:aKb P N ps assign body wl xs T E) :
    ∀k X O U1 ds (vals:Array Value),xs[k]? = some ds->JR W n A0 A N Ds T a (pY (pD fn a ps assign body n) jc xs.length) k X O U1->ds.length=vals.size->(∀(i:Nat) d v,ds[i]? = some d->vals[i]? = some v->VD (λb=>A b\/(X b/\¬O b)) U1 d v) ->
      YX P (n+1) vals U1 λx W2=>x=.bool (decide (k+1≠xs.length))/\JR W n A0 A N Ds T a (pY (pD fn a ps assign body n) jc xs.length) (k+1) X O W2/\U1.heap.size<=W2.heap.size/\W2.os=U1.os/\W2.tape=U1.tape/\W2.output=U1.output/\∀b,A b\/X b->W2.heap[b]? = U1.heap[b]? := by
  obtain⟨rec,hrec⟩:∃rec:LoopState->Option Code->Loop,rec=pD fn a ps assign body n:=⟨_,rfl⟩
  rw[<-hrec]
  rintro k X O U1 ds vals hx ⟨F,Ms,hj,hjM,hjF,hjK,hjD,hjl,hjd,hjX,hjO⟩ hlen hvals
  obtain⟨hps,hwalk⟩:=hr.round k ds hx
  have hFlt:∀b,F b->b<U1.heap.size:=by obtain⟨_,_,q,_⟩:=hj;exact q
  have hMlt:∀b,Ms b->b<U1.heap.size:=by obtain⟨_,_,_,_,q,_⟩:=hj;exact λb h=>(q b h).1
  have hsz1:n+1<U1.heap.size:=dJ hjl
  have hklt:k<xs.length:=(Ao.1 hx).1
  have hrk:pY rec jc xs.length k=rec .ready none:=by unfold pY;rw[Ai (by omega)]
  rw[hrk]at hjl
  have hy:=aXs (P:=P) (args:=vals) hjl (by rw[hrec];show vals.size=ps.size;omega)
  rw[hrec]at hy
  refine⟨fn,_,assign,body,hy,λWin hW hok c cs hk=>?_⟩
  let b0:Frame:={ (default:Frame)with fn:=fn,kind:=.normal,roundOf:=some (n+1) }
  -- the frame of the round
  let F1:Nat->Prop:=λb=>F b\/A b\/(X b/\¬O b)
  have hF1lt:∀b,F1 b->b<U1.heap.size:=by
    rintro b (h|h|h)
    · exact hFlt b h
    · have:=hAlt b h;omega
    · exact(hjX b h.1).2
  have hj1:SRB F1 Ms N (pI Ds) (T k) a U1:=hj.more (λb h=>.inl h) hF1lt λb hb hf=>by
    obtain⟨_,q2,q3,_⟩:=hjM b hb;rcases hf with h|h|h
    · obtain⟨_,_,_,_,q,_⟩:=hj;exact(q b hb).2 h
    · exact q3 h
    · exact q2 h.1
  obtain⟨s1,s2,s3⟩:=bEd (F:=F1) (w:=U1) (wr:=λt=>wl.contains t) (ps.toList.zip ds) (ps.zip vals).toList (T k).Γ (T k).Γ a.tmps a.tmps rfl (by simp;omega) (λi p q hp hq=>by
    rw[Array.toList_zip]at hq;rw[List.getElem?_zip_eq_some]at hp hq;obtain⟨p1,p2⟩:=p;obtain⟨q1,q2⟩:=q;simp only at hp hq ⊢;have e:p1=q1:=by have:=hp.1.symm.trans hq.1;injection this
    obtain⟨w1,w2⟩:=hr.psl p1 (Aj hp.1);exact⟨e,by rw[hadef];exact w1,w2,(hvals i p2 q2 hp.2 (by simpa using hq.2)).mono λb hb=>.inr hb⟩) (λt=>.inl ⟨rfl,rfl⟩) λt _=>rfl
  have hfold:=aSc (ps.zip vals) a.tmps
  obtain⟨tmps',htm⟩:∃tmps',(ps.zip vals).foldl (λt (x:Tmp×Value)=>match x with|(p,v)=>t.setIfInBounds p v) a.tmps=tmps':=⟨_,rfl⟩
  rw[<-hfold,htm]at s1 s2 s3
  have hb0:Fp (n+1) fn ((ps.zip vals).foldl (λt (x:Tmp×Value)=>match x with|(p,v)=>t.setIfInBounds p v) a.tmps) assign body .normal=b0.atR { tmps:=tmps',defers:=[] } [.code assign,.beginRound,.code body]:=by simp only[Fp,Cv,b0,htm]
  show Win (G (Fp (n+1) fn ((ps.zip vals).foldl (λt (x:Tmp×Value)=>match x with|(p,v)=>t.setIfInBounds p v) a.tmps) assign body .normal) (c::cs)) U1
  rw[hb0]
  have hj2:SRB F1 Ms N [] ⟨aDt (ps.toList.zip ds) (T k).Γ,(T k).H,(T k).n⟩ { tmps:=tmps',defers:=[] } U1:=hj1.act (by show tmps'.size=N;omega) rfl s2
  let Z:Nat->Option Value:=λt=>if wl.contains t then none else some (a.tmps.getD t undef)
  have hZ:∀d v,Z d=some v->(!wl.contains d)=true:=λd v e=>by
    simp only[Z]at e;split at e
    · cases e
    · rename_i h;simpa using h
  have hZt:∀(tm:Array Value),(∀t,wl.contains t=false->tm.getD t undef=a.tmps.getD t undef)->∀t v,Z t=some v->tm.getD t undef=v:=λtm h t v e=>by
    simp only[Z]at e;split at e
    · cases e
    · rename_i hc;injection e with e;rw[h t (by simpa using hc),e]
  refine tR (G:=⟨U1,F1,Ms,aEi,Z⟩) (WpR.inRound P (n+1)) hm hZ assign _ _ _ _ hr.dst.1 hr.lex.1 hr.nz.1 (λ_=>hr.rd.1) hwalk (hj2.sr hok Z (hZt _ s3)) Win hW hok b0 [.beginRound,.code body] (c::cs) rfl rfl ?_
  rintro e a2 U2o hok2 ⟨σ2,⟨rfl,hwalk2⟩,hs2⟩
  refine aWt hW rfl rfl hok2 λU2 he2=>?_
  obtain⟨F2',M2',h2o,hM2',hF2',hK2o,hZ2⟩:=hs2.srb
  simp only at hM2' hF2' hK2o hZ2
  have h2:=h2o.env he2
  have hK2':=hK2o.env hK2o.size he2
  have hl2:U2.heap[n+1]? = some (.loop (rec .ready none)):=(hK2'.block _ hsz1 λh=>(hjM _ h).2.2.2.1 rfl).trans hjl
  have hsz2:U1.heap.size<=U2.heap.size:=hK2'.size
  refine⟨_,aAp hl2 (by rw[hrec];rfl),?_⟩
  obtain⟨U3,hU3⟩:∃U3,U2.putObj (n+1) (.loop { rec .ready none with state:=.busy })=U3:=⟨_,rfl⟩
  have hU3s:U3.heap.size=U2.heap.size:=by rw[<-hU3];simp
  have hl3:U3.heap[n+1]? = some (.loop { rec .ready none with state:=.busy }):=by rw[<-hU3];exact World.putObj_heap_same (by omega)
  have hoth3:∀b,b≠n+1->U3.heap[b]? = U2.heap[b]? := λb hb=>by rw[<-hU3];exact Ex hb
  have hF1l:∀b,F1 b->b≠n+1:=by
    rintro b (h|h|h)
    · exact(hjF b h).2.2.1
    · have:=hAlt b h;omega
    · have:=(hjX b h.1).1;omega
  have hM2l:∀b,M2' b->b≠n+1:=λb hb=>by
    rcases hM2' b hb with h|h
    · exact(hjM b h).2.2.2.1
    · omega
  have hF2l:∀b,F2' b->b≠n+1:=λb hb=>by
    rcases hF2' b hb with h|h|h
    · exact hF1l b h
    · exact(hjM b h).2.2.2.1
    · omega
  have h3:SRB F2' M2' N [] σ2 a2 U3:=h2.world (by omega) λb hb=>hoth3 b (hb.elim (hF2l b) (hM2l b))
  rw[show U2.putObj (n+1) (.loop { rec .ready none with state:=.busy })=U3 from hU3]
  intro hok3
  refine tR (G:=⟨U3,F2',M2',aEi,Z⟩) (WpR.inRound P (n+1)) hm hZ body _ _ _ _ hr.dst.2 hr.lex.2 hr.nz.2 (λ_=>hr.rd.2) hwalk2 (h3.sr hok3 Z hZ2) Win hW hok3 b0 [] (c::cs) rfl rfl ?_
  rintro e a4 U4o hok4 ⟨σ4,⟨heE,ρ,hwk⟩,hs4⟩
  obtain⟨jump,hjmp,hjump⟩:∃jump:Option Code,((e,jump)=(.normal,none)\/(e,jump)=(.ret,some .ret)\/∃id,(e,jump)=(.exit id,some (.exit id)))/\jump=if k+1=xs.length then some jc else none:=by
    by_cases hlast:k+1=xs.length
    · rw[Aq hlast]at heE ⊢
      subst heE
      refine⟨_,?_,rfl⟩
      rcases hE with hE|⟨id,hE⟩
      · injection hE with e1 e2;subst e1;subst e2;exact .inr (.inl rfl)
      · injection hE with e1 e2;subst e1;subst e2;exact .inr (.inr ⟨id,rfl⟩)
    · rw[Ai hlast]at heE ⊢
      subst heE
      exact⟨none,.inl rfl,rfl⟩
  refine bCg hW rfl rfl hok4 hjmp λU4 he4=>?_
  obtain⟨F4,M4,h4o,hM4,hF4,hK4o,hZ4⟩:=hs4.srb
  simp only at hM4 hF4 hK4o hZ4
  have h4:=h4o.env he4
  have hK4:=hK4o.env hK4o.size he4
  have hok4':=he4.okV hok4
  have hl4:U4.heap[n+1]? = some (.loop { rec .ready none with state:=.busy }):=(hK4.block _ (by omega) λh=>hM2l _ h rfl).trans hl3
  have hsz4:U3.heap.size<=U4.heap.size:=hK4.size
  have hrr:({ ({ rec .ready none with state:=.busy }:Loop)with state:=if jump.isNone then .ready else .done,pending:=jump }:Loop)=pY rec jc xs.length (k+1):=by
    rw[hjump,hrec];unfold pY;by_cases hlast:k+1=xs.length
    · simp only[Aq hlast];rfl
    · simp only[Ai hlast];rfl
  obtain⟨U5,hU5⟩:∃U5,U4.putObj (n+1) (.loop (pY rec jc xs.length (k+1)))=U5:=⟨_,rfl⟩
  have hU5s:U5.heap.size=U4.heap.size:=by rw[<-hU5];simp
  have hoth5:∀b,b≠n+1->U5.heap[b]? = U4.heap[b]? := λb hb=>by rw[<-hU5];exact Ex hb
  have hend:=aHv (P:=P) jump hl4
  rw[hrr,hU5]at hend
  have hjb:jump.isNone=decide (k+1≠xs.length):=by
    rw[hjump];by_cases hlast:k+1=xs.length
    · simp[hlast]
    · simp[hlast]
  rw[hjb]at hend
  refine⟨_,U5,hend,λhok5=>hk _ _ hok5 ⟨rfl,?_⟩⟩
  -- what lay there lies there still
  have hkeep:∀b,b<U1.heap.size->¬Ms b->b≠n+1->U5.heap[b]? = U1.heap[b]? := λb h1 h2 h3=>by rw[hoth5 b h3,hK4.block b (by omega) (λh=>by rcases hM2' b h with h|h;exact h2 h;omega),hoth3 b h3,hK2'.block b h1 h2]
  have hM4':∀b,M4 b->Ms b\/U1.heap.size<=b:=λb hb=>by
    rcases hM4 b hb with h|h
    · exact hM2' b h
    · right;omega
  have hF4':∀b,F4 b->F1 b\/Ms b\/U1.heap.size<=b:=λb hb=>by
    rcases hF4 b hb with h|h|h
    · exact hF2' b h
    · exact .inr (hM2' b h)
    · right;right;omega
  have hM4l:∀b,M4 b->b≠n+1:=λb hb=>by
    rcases hM4' b hb with h|h
    · exact(hjM b h).2.2.2.1
    · omega
  have hF4l:∀b,F4 b->b≠n+1:=λb hb=>by
    rcases hF4' b hb with h|h|h
    · exact hF1l b h
    · exact(hjM b h).2.2.2.1
    · omega
  have h5:SRB F4 M4 N [] σ4 a4 U5:=h4.world (by omega) λb hb=>hoth5 b (hb.elim (hF4l b) (hM4l b))
  have h6:SRB F4 M4 N (pI Ds) ⟨λt=>if wl.contains t then .any else σ4.Γ t,σ4.H,σ4.n⟩ a U5:=h5.act hadef hadd λt=>by
    by_cases ht:wl.contains t=true
    · right;left;simp only[ht,AH]
    · left
      have ht':wl.contains t=false:=by simpa using ht
      refine⟨by simp only[ht',Ae,Az],?_⟩
      exact(hZ4 t (a.tmps.getD t undef) (by simp only[Z,ht',Ae,Az])).symm
  obtain⟨F7,M7,h7,hM7,hF7⟩:=h6.weak hok5 hwk
  have hM7':∀b,M7 b->Ms b\/U1.heap.size<=b:=λb hb=>hM4' b (hM7 b hb)
  have hF7':∀b,F7 b->F1 b\/Ms b\/U1.heap.size<=b:=λb hb=>(hF7 b hb).elim (hF4' b) λh=>.inr (hM4' b h)
  have hKs:=hjK.size
  have hDlt:∀D∈Ds,D<U1.heap.size:=λD hDm=>dJ (hjD D hDm)
  refine⟨⟨F7,M7,h7,λb hb=>?_,λb hb=>?_,?_,λD hDm=>?_,?_,?_,λb hb=>?_,hjO⟩,by omega,?_,?_,?_,λb hb=>?_⟩
  · rcases hM7' b hb with h|h
    · exact hjM b h
    · exact⟨by omega,λhx=>by have:=(hjX b hx).2;omega,λha=>by have:=hAlt b ha;omega,by omega,by omega,λhDm=>by have:=hDlt b hDm;omega⟩
  · rcases hF7' b hb with (h|h|h)|h|h
    · exact hjF b h
    · have:=hAlt b h
      exact⟨hA0' b h,λho=>by have:=(hjX b (hjO b ho)).1;omega,by omega,by omega,hADs b h⟩
    · have:=(hjX b h.1).1
      exact⟨.inr (by omega),h.2,by omega,by omega,λhDm=>by have:=hDs b hDm;omega⟩
    · obtain⟨q1,q2,q3,q4,q5,q6⟩:=hjM b h
      exact⟨.inr q1,λho=>q2 (hjO b ho),q4,q5,q6⟩
    · exact⟨.inr (by omega),λho=>by have:=(hjX b (hjO b ho)).2;omega,by omega,by omega,λhDm=>by have:=hDlt b hDm;omega⟩
  · refine hjK.trans ⟨?_,?_,?_,by omega,λb hb _=>hkeep b (by omega) (λh=>by have:=(hjM b h).1;omega) (by omega),λb cur e hb hc=>⟨cur,(hkeep b (by omega) (λh=>by have:=(hjM b h).1;omega) (by omega)).trans hc,rfl⟩⟩
    · rw[<-hU5];show U4.os=U1.os;rw[hK4.os,<-hU3];exact hK2'.os
    · rw[<-hU5];show U4.tape=U1.tape;rw[hK4.tape,<-hU3];exact hK2'.tape
    · rw[<-hU5];show U4.output=U1.output;rw[hK4.output,<-hU3];exact hK2'.output
  · exact(hkeep D (hDlt D hDm) (λh=>(hjM D h).2.2.2.2.2 hDm) (by have:=hDs D hDm;omega)).trans (hjD D hDm)
  · rw[<-hU5];exact World.putObj_heap_same (by omega)
  · exact(hkeep _ (by omega) (λh=>(hjM _ h).2.2.2.2.1 rfl) (by omega)).trans hjd
  · have:=hjX b hb;omega
  · rw[<-hU5];show U4.os=U1.os;rw[hK4.os,<-hU3];exact hK2'.os
  · rw[<-hU5];show U4.tape=U1.tape;rw[hK4.tape,<-hU3];exact hK2'.tape
  · rw[<-hU5];show U4.output=U1.output;rw[hK4.output,<-hU3];exact hK2'.output
  · rcases hb with h|h
    · have:=hAlt b h
      exact hkeep b (by omega) (λhmm=>(hjM b hmm).2.2.1 h) (by omega)
    · have:=hjX b h
      exact hkeep b this.2 (λhmm=>(hjM b hmm).2.1 h) (by omega)
end
end Go.Am
end
section
open List renaming map_map->C,mapM_map->L
namespace Go.Am
open Go.Conc (G)
open RowKit (Below)
section
variable {P:Program} [M:Mch P] {W w:World} {A0:Nat->Prop} {N:Nat} {Ds:List Nat} {σ:St} {a:Act}
def aNq(hm:P.follows .mixedOrders=true){g:Operand}{ps:Array Tmp}{assign body:Code}{gf:FuncId}{cs:List AV}{caps:List D}{xs:List (List D)}{T:Nat->St}{wl:List Nat}{E:Exit}{jc:Code}(hE:(E,jc)=(.ret,.ret)\/∃id,(E,jc)=(.exit id,.exit id))
    (hg:dM (oev σ.Γ g)=some (gf,cs)) (hf:cI σ.H cs=some caps) (hseq:mM P gf caps xs) (hr:aKb P N ps assign body wl xs T E) (h0:∃ρ,Wk (lW σ (bV σ.H cs)) (T 0) ρ) (hs:FRx W A0 N σ a w)
    (hok:OkV w) {Win:Goroutine->World->Prop} (hW:M.Fam Win) {b0:Frame} {k0:List Item} {cs0:List Frame} (hb0:nA b0)
    (hk:∀e a' v',OkV v'->(e=E/\FRx W A0 N (T xs.length) a' v')->oT Win b0 k0 cs0 e a' v') {lb0:Array Value} (hev0:a.eval g=.func (.func gf) #[] lb0) :
    Win (G (C5 P gf (#[.func (.yield (w.heap.size+1)) #[] #[]]++lb0) .normal) (b0.at { a with defers:={ target:=.collected w.heap.size,args:=#[] }::a.defers } (.inRangeFunc (w.heap.size+1)::k0)::cs0))
      ((w.alloc (.deferred (some []))).alloc (.loop (pD b0.fn a ps assign body w.heap.size .ready none))):=by
  obtain⟨Ds,F,Ms,hs,hM,hF,hK,hD,hnd⟩:=hs
  obtain⟨lb,A,M1,hev,hlb,hV,hs1,hA,hM1⟩:=hs.callee hg hf
  have hlb0:lb=lb0:=by rw[hev]at hev0;injection hev0
  subst hlb0
  obtain⟨ρ0,hw0⟩:=h0
  obtain⟨F2,M2,hs2,hM2,hF2⟩:=hs1.weak hok hw0
  have hWw:=hK.size
  have hAlt:∀b,A b->b<w.heap.size:=by obtain⟨_,_,q,_⟩:=hs1;exact q
  have hM2A:∀b,M2 b->¬A b:=λb hb=>by obtain⟨_,_,_,_,q,_⟩:=hs1;exact(q b (hM2 b hb)).2
  have hadef:a.tmps.size=N:=by obtain⟨_,_,_,_,_,_,_,_,_,q,_⟩:=hs;exact q
  have hadd:a.defers=pI Ds:=by obtain⟨_,_,_,_,_,_,_,_,_,_,q⟩:=hs;exact q
  obtain⟨rec,hrec⟩:∃rec:LoopState->Option Code->Loop,rec=pD b0.fn a ps assign body w.heap.size:=⟨_,rfl⟩
  rw[<-hrec]
  obtain⟨W1,hW1⟩:∃W1,(w.alloc (.deferred (some []))).alloc (.loop (rec .ready none))=W1:=⟨_,rfl⟩
  rw[hW1]
  have hW1s:W1.heap.size=w.heap.size+2:=by rw[<-hW1];simp
  have hL1:W1.heap[w.heap.size+1]? = some (.loop (rec .ready none)):=by rw[<-hW1];have:=World.alloc_heap_new (w.alloc (.deferred (some []))) (.loop (rec .ready none));rwa [World.size_alloc]at this
  have hold:∀b,b<w.heap.size->W1.heap[b]? = w.heap[b]? := λb hb=>by rw[<-hW1];show((w.heap.push _).push _)[b]? = _;rw[Bx,Ai (by simp;omega),Bx,Ai (by omega)]
  have hK1:W1.heap[w.heap.size]? = some (.deferred (some [])):=by rw[<-hW1];show((w.heap.push _).push _)[w.heap.size]? = _;rw[Bx,Ai (by simp),Bx,Aq rfl]
  have hstr:W1.os=w.os/\W1.tape=w.tape/\W1.output=w.output:=by rw[<-hW1];exact⟨rfl,rfl,rfl⟩
  have hAW1:∀(k:Nat) d v,caps[k]? = some d->lb[k]? = some v->VD A W1 d v:=λk d v hk hv=>(hV k d v hk hv).step (λ_ h=>h) λb hb=>hold b (hAlt b hb)
  obtain⟨hent,hseq⟩:=hseq A W1 (w.heap.size+1) lb (λb hb=>by have:=hAlt b hb;omega) hlb hAW1
  have hDs:∀D∈Ds,D<w.heap.size:=λD hDm=>dJ (hD D hDm).2.1
  have hA0':∀b,A b->A0 b\/W.heap.size<=b:=λb hb=>(hA b hb).elim (hF b) λh=>.inr (hM b h)
  have hADs:∀b,A b->b ∉ Ds:=λb hb hDm=>(hA b hb).elim (hD b hDm).2.2.2 (hD b hDm).2.2.1
  have hcx:=hseq (JR W w.heap.size A0 A N Ds T a (pY rec jc xs.length)) (JR.stab hWw hDs) (by rw[hrec];exact JR.round hm hE hWw hDs hAlt hA0' hADs hadef hadd hr) ?start
  · have hokW1:OkV W1:=by rw[<-hW1];exact(hok.alloc rfl).alloc rfl
    refine hcx Win hW hokW1 _ cs0 λx U0 hokU0 hR=>?_
    obtain⟨X,O,hj0⟩:=hR
    rw[show(b0.at { a with defers:={ target:=.collected w.heap.size,args:=#[] }::a.defers } (.inRangeFunc (w.heap.size+1)::k0)).finish x=b0.at { a with defers:={ target:=.collected w.heap.size,args:=#[] }::a.defers } (.endRangeFunc (w.heap.size+1)::k0)by simp[Frame.finish,Frame.at]]
    refine aHa hW hokU0 λU heU=>?_
    have hjO0:∀b,O b->X b:=by obtain⟨_,_,_,_,_,_,_,_,_,_,q⟩:=hj0;exact q
    obtain⟨F,Ms,hj,hjM,hjF,hjK,hjD,hjl,hjd,hjX,hjO⟩:=JR.stab hWw hDs _ X O U0 X O U hj0 (heU.kept O) (λ_ h=>h) (λ_ h=>.inl h) (λb h=>⟨hjO0 b h,.inl h⟩)
    have hra:pY rec jc xs.length xs.length=rec .done (some jc):=by unfold pY;rw[Aq rfl]
    rw[hra]at hjl
    have hlt:=dJ hjl
    obtain⟨U',hU'⟩:∃U',U.putObj (w.heap.size+1) (.loop { rec .done (some jc)with state:=.exhausted })=U':=⟨_,rfl⟩
    have hoth:∀b,b≠w.heap.size+1->U'.heap[b]? = U.heap[b]? := λb hb=>by rw[<-hU'];exact Ex hb
    have hUs:U'.heap.size=U.heap.size:=by rw[<-hU'];simp
    have hst:U'.os=U.os/\U'.tape=U.tape/\U'.output=U.output:=by rw[<-hU'];exact⟨rfl,rfl,rfl⟩
    have hrun:=aLc (P:=P) hjl (by rw[hrec];simp[pD])
    rw[hU',show(rec .done (some jc)).pending=some jc by rw[hrec];rfl]at hrun
    refine⟨some jc,U',hrun,λhokU'=>?_⟩
    have hfin:FRx W A0 N (T xs.length) { a with defers:={ target:=.collected w.heap.size,args:=#[] }::a.defers } U':=by
      refine⟨w.heap.size::Ds,F,Ms,?_,λb hb=>(hjM b hb).1,λb hb=>(hjF b hb).1,?_,?_,?_⟩
      · rw[hadd]
        exact(hj.world (w':=U') (by omega) λb hb=>hoth b (by
          rcases hb with h|h
          · exact(hjF b h).2.2.1
          · exact(hjM b h).2.2.2.1)).defers (pI (w.heap.size::Ds))
      · exact hjK.trans ⟨hst.1,hst.2.1,hst.2.2,by omega,λk hk _=>hoth k (by omega),λk cur e hk hc=>⟨cur,(hoth k (by omega)).trans hc,rfl⟩⟩
      · intro D hDm
        rcases Bn.1 hDm with rfl|hDm
        · exact⟨hWw,(hoth _ (by omega)).trans hjd,λh=>(hjM _ h).2.2.2.2.1 rfl,λh=>(hjF _ h).2.2.2.1 rfl⟩
        · have:=hDs D hDm
          exact⟨(hD D hDm).1,(hoth _ (by omega)).trans (hjD D hDm),λh=>(hjM _ h).2.2.2.2.2 hDm,λh=>(hjF _ h).2.2.2.2 hDm⟩
      · exact Df.2 ⟨λh=>by have:=hDs _ h;omega,hnd⟩
    have hcode:Win (G (b0.at { a with defers:={ target:=.collected w.heap.size,args:=#[] }::a.defers } (.code jc::k0)) cs0) U':=by
      rcases hE with hE|⟨id,hE⟩
      · injection hE with e1 e2;subst e1;subst e2
        exact zY (Q:=λe a' w'=>e=.ret/\FRx W A0 N (T xs.length) a' w') ⟨rfl,hfin⟩ Win hW hokU' b0 k0 cs0 hb0 hk
      · injection hE with e1 e2;subst e1;subst e2
        exact aTv (Q:=λe a' w'=>e=.exit id/\FRx W A0 N (T xs.length) a' w') ⟨rfl,hfin⟩ Win hW hokU' b0 k0 cs0 hb0 hk
    exact hcode
  case start =>
    refine⟨F2,M2,hs2.world (by omega) (λb hb=>hold b ?_),λb hb=>?_,λb hb=>?_,?_,λD hDm=>?_,by unfold pY;rw[Ai (by have:=hr.ne;omega)];exact hL1,hK1,λb hb=>hb.elim,λb hb=>hb.elim⟩
    · obtain⟨_,_,q1,_,q2,_⟩:=hs2
      exact hb.elim (q1 b) λh=>(q2 b h).1
    · have hb2:=hM1 b (hM2 b hb)
      have:b<w.heap.size:=by obtain⟨_,_,_,_,q2,_⟩:=hs2;exact(q2 b hb).1
      exact⟨hM b hb2,λh=>h.elim,hM2A b hb,by omega,by omega,λhDm=>(hD b hDm).2.2.1 hb2⟩
    · have:b<w.heap.size:=by obtain⟨_,_,q1,_⟩:=hs2;exact q1 b hb
      have hb2:A0 b\/W.heap.size<=b:=(hF2 b hb).elim (hA0' b) λh=>.inr (hM b (hM1 b h))
      exact⟨hb2,λh=>h.elim,by omega,by omega,λhDm=>(hF2 b hb).elim (λh=>hADs b h hDm) λh=>(hD b hDm).2.2.1 (hM1 b h)⟩
    · exact hK.trans ⟨hstr.1,hstr.2.1,hstr.2.2,by omega,λk hk _=>hold k (by omega),λk cur e hk hc=>⟨cur,(hold k (by omega)).trans hc,rfl⟩⟩
    · exact(hold D (hDs D hDm)).trans (hD D hDm).2.1
def bIz(hm:P.follows .mixedOrders=true){g:Operand}{ps:Array Tmp}{assign body:Code}{gf:FuncId}{cs:List AV}{caps:List D}{xs:List (List D)}{T:Nat->St}{wl:List Nat}{E:Exit}{jc:Code}(hE:(E,jc)=(.ret,.ret)\/∃id,(E,jc)=(.exit id,.exit id))
    (hg:dM (oev σ.Γ g)=some (gf,cs)) (hf:cI σ.H cs=some caps) (hseq:mM P gf caps xs) (hr:aKb P N ps assign body wl xs T E) (h0:∃ρ,Wk (lW σ (bV σ.H cs)) (T 0) ρ) (hs:FRx W A0 N σ a w) :
    WC P (.rangeFunc g ps assign body) (λe a' w'=>e=E/\FRx W A0 N (T xs.length) a' w') a w:=by
  intro Win hW hokw b0 k0 cs0 hb0 hk0
  have hevg:∃lb,a.eval g=.func (.func gf) #[] lb/\∀args w,aK P (callFunc gf args) w=.ok (.enter gf args) w:=by
    obtain⟨Ds,F,Ms,hs,_⟩:=hs;obtain⟨lb,A,M1,hev,hlb,hV,hs1,_⟩:=hs.callee hg hf;have hAlt:∀b,A b->b<w.heap.size:=by obtain⟨_,_,q,_⟩:=hs1;exact q
    exact⟨lb,hev,(hseq A w 0 lb hAlt hlb hV).1⟩
  obtain⟨lb0,hev0,hentg⟩:=hevg
  exact aWs hW hb0 hokw hev0 hentg λw1 he1=>aNq hm hE hg hf hseq hr h0 (hs.env he1) (he1.okV hokw) hW hb0 hk0 hev0
end
end Go.Am
end
section
open List renaming map_map->C,mapM_map->L
namespace Go.Am
open Go.Conc
open RowKit (Below)
def nP(P:Program)[M:Mch P](N:Nat):Code->St->(Exit->St->Prop)->Prop
  |.seq x y,σ,Q=>nP P N x σ λe σ'=>match e with|.normal=>nP P N y σ' Q|e=>Q e σ'
  |.block id c,σ,Q=>nP P N c σ λe σ'=>match e with|.exit id'=>if id'=id then Q .normal σ' else Q (.exit id') σ'|e=>Q e σ'
  |.rangeFunc g ps assign body,σ,Q=>∃gf cs caps xs T wl E jc,((E,jc)=(Exit.ret,Code.ret)\/∃id,(E,jc)=(Exit.exit id,Code.exit id))/\dM (oev σ.Γ g)=some (gf,cs)/\cI σ.H cs=some caps/\mM P gf caps xs/\aKb P N ps assign body wl xs T E/\(∃ρ,Wk (lW σ (bV σ.H cs)) (T 0) ρ)/\Q E (T xs.length)
  |.scope c,σ,Q=>nP P N c σ λe σ'=>match e with|.goto _=>False|e=>Q e σ'
  |c,σ,Q=>AWP P c σ Q
def mL(p:Code->Bool):Code->Bool
  |.seq x y=>mL p x&&mL p y
  |.block _ c|.scope c=>mL p c
  |.rangeFunc ..=>true
  |c=>p c
section
variable {P:Program} [M:Mch P] {W:World} {A0:Nat->Prop} {N:Nat}
def aTo(hm:P.follows .mixedOrders=true)(hA0:∀b,A0 b->b<W.heap.size):∀(c:Code) (Q:Exit->St->Prop) (σ:St) (a:Act) (w:World),mL (bN N) c=true->mL (bQ P) c=true->nP P N c σ Q->FRx W A0 N σ a w ->
    WC P c (λe a' w'=>∃σ',Q e σ'/\FRx W A0 N σ' a' w') a w:=by
  intro c
  induction c with
  | seq x y ihx ihy =>
    intro Q σ a w hd hl h hs
    simp only[mL,A8]at hd hl
    refine eJ (cC (ihx _ σ a w hd.1 hl.1 h hs) ?_)
    rintro e a' w' ⟨σ',hq,hs'⟩
    cases e with
    |normal=>exact ihy Q σ' a' w' hd.2 hl.2 hq hs'
    |_=>exact⟨σ',hq,hs'⟩
  | block id c ih =>
    intro Q σ a w hd hl h hs
    refine zZ (cC (ih _ σ a w hd hl h hs) ?_)
    rintro e a' w' ⟨σ',hq,hs'⟩
    cases e with
    | exit id' =>
      simp only[DQ]at hq ⊢
      split at hq
      · rename_i he;rw[Aq he];exact⟨σ',hq,hs'⟩
      · rename_i he;rw[Ai he];exact⟨σ',hq,hs'⟩
    |_=>exact⟨σ',hq,hs'⟩
  | rangeFunc g ps assign body _ _ =>
    intro Q σ a w _ _ h hs
    obtain⟨gf,cs,caps,xs,T,wl,E,jc,hE,hg,hf,hseq,hr,h0,hq⟩:=h
    refine cC (bIz hm hE hg hf hseq hr h0 hs) ?_
    rintro e a' w' ⟨rfl,hs'⟩
    exact⟨_,hq,hs'⟩
  |skip=>intro Q σ a w hd hl h hs;exact oJ hm hd hl h hs
  |region id ops draw=>intro Q σ a w hd hl h hs;exact oJ hm hd hl h hs
  |cond c x y _ _=>intro Q σ a w hd hl h hs;exact oJ hm hd hl h hs
  |loop c _=>intro Q σ a w hd hl h hs;exact oJ hm hd hl h hs
  |exit id=>intro Q σ a w hd hl h hs;exact oJ hm hd hl h hs
  |ret=>intro Q σ a w hd hl h hs;exact oJ hm hd hl h hs
  |label l=>intro Q σ a w hd hl h hs;exact oJ hm hd hl h hs
  | scope c ih =>
    intro Q σ a w hd hl h hs
    refine aKh (cC (ih _ σ a w hd hl h hs) ?_)
    rintro e a' w' ⟨σ',hq,hs'⟩
    cases e with
    |goto l=>exact hq.elim
    |_=>exact⟨σ',hq,hs'⟩
  |_=>intro Q σ a w hd hl h;exact h.elim
def LV(P:Program)[M:Mch P](f:FuncId)(R:Value->World->Prop)(a:Act)(v:World):Prop :=
  ∀(Win:Goroutine->World->Prop),M.Fam Win->OkV v->∀(b:Frame) (todo:List Item) (c0:Frame) (cs:List Frame),b.kind=.normal->b.fn=f->(∀x v',OkV v'->R x v'->Win (G (c0.finish x) cs) v')->Win (G { b.at a todo with mode:=.returning } (c0::cs)) v
def yC{f:FuncId}{fn:Func}{c:Code}{args:Array Value}{R:Value->World->Prop}{v:World}(hf:P.funcs[f]? = some fn)(hb:fn.body=some c)
    (h:WC P c (λe a v=>(e=.normal\/e=.ret)/\LV P f R a v) { tmps:=args++AY (fn.ntmps-args.size) undef,defers:=[] } v):CX P f args v R:=by
  intro Win hW hv c0 cs hk
  rw[enter_at args hf hb]
  refine h Win hW hv (base f) [] (c0::cs) (.inl rfl) λe a' v' hv' hq=>?_
  obtain⟨he,hl⟩:=hq
  rcases he with rfl|rfl
  · exact aM hW rfl hv' (λw=>stepG_end) (hl Win hW hv' (base f) [] c0 cs rfl rfl hk)
  · exact λtodo=>hl Win hW hv' (base f) todo c0 cs rfl rfl hk
def xW{f:FuncId}{fn:Func}{R:Value->World->Prop}{a:Act}{v:World}(hf:P.funcs[f]? = some fn)(hd:a.defers=[])(hr:∀v1,Env v v1->∃x,aK P (results fn a.tmps) v1=.ok x v1/\R x v1):LV P f R a v:=by
  intro Win hW hv b todo c0 cs hb hfn hk;refine(M.closed hW).step rfl hv λv1 w he hsim=>?_
  obtain⟨x,hx,hR⟩:=hr v1 he;obtain⟨w',es',h1,h2,h3,h4,h5,h6⟩:=fG _ v1 w #[] x v1 (he.okV hv) hsim hx;exact⟨_,v1,w',_,tA hb hd (by rw[hfn];exact hf) h1,⟨h2,h3,h4,h5,λe he'=>h6 e (by have:=mem_seen he';simpa using this)⟩,hk x v1 h3 hR⟩
def aRr{f:FuncId}{R:Value->World->Prop}{a:Act}{v:World}{D:Nat}{ds:List Deferred}(hd:a.defers={ target:=.collected D,args:=#[] }::ds)
    (h:∀v1,Env v v1->∃v2,aK P (Fj D) v1=.ok [] v2/\LV P f R { a with defers:=ds } v2):LV P f R a v:=by
  intro Win hW hv b todo c0 cs hb hfn hk
  refine bCf hW hv hd λv1 he=>?_
  obtain⟨v2,h1,h2⟩:=h v1 he
  exact⟨v2,h1,λhok2=>h2 Win hW hok2 b todo c0 cs hb hfn hk⟩
def uT{f:FuncId}{fn:Func}{σ:St}{r:D}(hf:P.funcs[f]? = some fn)(hr:jA P fn.results.toList σ=some r):∀(Ds:List Nat) (a:Act) (w:World),a.defers=pI Ds->(∃F Ms,SRB F Ms N (pI Ds) σ a w/\(∀b,Ms b->W.heap.size<=b)/\(∀b,F b->A0 b\/W.heap.size<=b)/\Kept bD W.heap.size W w /\
    (∀D∈Ds,W.heap.size<=D/\w.heap[D]? = some (.deferred (some []))/\¬Ms D/\¬F D))->Ds.Nodup->LV P f (λv W'=>Below W.heap.size W W'/\VD (λb=>A0 b\/(W.heap.size<=b/\b<W'.heap.size)) W' r v) a w
  | [],a,w,had,⟨F,Ms,hs0,hM,hF,hK0,_⟩,_=>by
    intro Win hW hokw;refine xW hf had (λw1 he=>?_) Win hW hokw;have hs:=hs0.env he;have hK:=hK0.env hK0.size he;obtain⟨v,h1,h2⟩:=eB (hs.sr (he.okV hokw) noZ λ_ _ e=>by cases e) hr;have hFlt:∀b,F b->b<w1.heap.size:=by obtain⟨_,_,q,_⟩:=hs;exact q
    have hMlt:∀b,Ms b->b<w1.heap.size:=by obtain⟨_,_,_,_,q,_⟩:=hs;exact λb h=>(q b h).1
    refine⟨v,h1,⟨hK.os,hK.tape,hK.output,hK.size,λk hk=>hK.block k hk λh=>h⟩,h2.mono ?_⟩;rintro b (h|h|h)
    · exact(hF b h).imp_right λq=>⟨q,hFlt b h⟩
    · exact .inr ⟨hM b h,hMlt b h⟩
    · simp only at h;omega
  | D::Ds,a,w0,had,⟨F,Ms,hs0,hM,hF,hK0,hD0⟩,hnd=>by
    refine aRr (ds:=pI Ds) (by rw[had];rfl) λw he=>?_
    have hs:=hs0.env he;have hK:=hK0.env hK0.size he;have hD:∀D'∈D::Ds,W.heap.size<=D'/\w.heap[D']? = some (.deferred (some []))/\¬Ms D'/\¬F D':=λD' hD'=>by obtain⟨e1,e2,e3,e4⟩:=hD0 D' hD';exact⟨e1,(he.get (dJ e2)).trans e2,e3,e4⟩
    obtain⟨d1,d2,d3,d4⟩:=hD D (AI ..);have hlt:=dJ d2;obtain⟨w',hw'⟩:∃w',w.putObj D (.deferred none)=w':=⟨_,rfl⟩;have hoth:∀b,b≠D->w'.heap[b]? = w.heap[b]? := λb hb=>by rw[<-hw'];exact Ex hb
    have hsz:w'.heap.size=w.heap.size:=by rw[<-hw'];simp
    refine⟨w',by rw[<-hw'];exact wJ d2,uT hf hr Ds _ w' rfl ⟨F,Ms,(hs.world (by omega) λb hb=>hoth b ?_).defers (pI Ds),hM,hF,?_,λD' hD'=>?_⟩ (Df.1 hnd).2⟩
    · rintro rfl;exact hb.elim d4 d3
    · exact hK.trans ⟨by rw[<-hw'];rfl,by rw[<-hw'];rfl,by rw[<-hw'];rfl,by omega,λk hk _=>hoth k (by omega),λk cur e hk hc=>⟨cur,(hoth k (by omega)).trans hc,rfl⟩⟩
    · obtain⟨e1,e2,e3,e4⟩:=hD D' (AE _ hD')
      exact⟨e1,(hoth D' λe=>by subst e;exact(Df.1 hnd).1 hD').trans e2,e3,e4⟩
def pT {f:Nat} {fn:Func} {c:Code} {args:List D} {r:D} (hm:P.follows .mixedOrders=true) (hf:P.funcs[f]? = some fn) (hb:fn.body=some c) (hname:(fn.name == "runtime.NumGoroutine")=false) (hN:fn.ntmps=N)
    (hd:mL (bN N) c=true) (hl':mL (bQ P) c=true) (ha:args.length<=N) (h:nP P N c (St0 args N) λe σ=>(e=.normal\/e=.ret)/\jA P fn.results.toList σ=some r):Spec P f args r:=by
  intro A W vs hA hl hv
  have hn:¬ fn.name = "runtime.NumGoroutine" := by simpa using hname
  refine⟨λw=>by simp[callFunc,hf,hn,hb],?_⟩
  refine yC hf hb ?_
  subst hN
  refine(WpR.plain P).okv λhok=>?_
  obtain⟨F,Ms,h1,hM,hF,hK,_⟩:=(SR0 hok hA hl hv ha).srb
  simp only at hM hF hK
  refine cC (aTo (W:=W) (A0:=A) hm hA c _ _ _ _ hd hl' h ⟨[],F,Ms,h1,λb hb=>?_,λb hb=>?_,hK,(λD hD=>by cases hD),List.nodup_nil⟩) ?_
  · exact(hM b hb).elim (λh=>h.elim) λh=>h
  · rcases hF b hb with h|h|h
    · exact .inl h
    · exact h.elim
    · exact .inr h
  · rintro e a w ⟨σ,⟨he,hr⟩,Ds,F,Ms,hs,hM,hF,hK,hD,hnd⟩
    have hdd:a.defers=pI Ds:=by obtain⟨_,_,_,_,_,_,_,_,_,_,q⟩:=hs;exact q
    exact⟨he,uT (W:=W) (A0:=A) (N:=fn.ntmps) hf hr Ds a w hdd ⟨F,Ms,hs,hM,hF,hK,hD⟩ hnd⟩
end
end Go.Am
end
section
open List renaming map_map->C,mapM_map->L
namespace Go.Am
open Go.Conc (G stepG_region stepG_region_end)
open RowKit (Below)
section
variable {P:Program} {F M:Nat->Prop} {N:Nat} {ds:List Deferred} {σ:St} {a:Act} {w:World}
def SRB.args(h:SRB F M N ds σ a w){args:List Operand}{dd:List D}(hf:cI σ.H (args.map (oev σ.Γ))=some dd) :
    ∃A M',dd.length=args.length/\(∀(k:Nat) d v,dd[k]? = some d->(args.map a.eval)[k]? = some v->VD A w d v)/\SRB A M' N ds (lW σ (bV σ.H (args.map (oev σ.Γ)))) a w/\(∀b,A b->F b\/M b)/\(∀b,M' b->M b):=by
  obtain⟨h1,ι,hF,hM,hMF,ho,hi,hd,hV,hN,hds⟩:=h
  have hR:HR ⟨w,F,M,aEi,noZ⟩ F w ι bD σ.H:=by
    refine⟨.refl _ _ _,hF,λb h=>.inl h,λid b e=>⟨.inl (hM id b e),(hMF b (hM id b e)).1,λ_=>(hMF b (hM id b e)).2⟩,ho,λid id' b e e' _ _=>hi id id' b e e',λid id' b o o' e e' _ q q'=>?_⟩;have:=hi id id' b e e';subst this;rw[q]at q';injection q' with q';subst q'
    exact Ay _
  obtain⟨q1,q2,q3⟩:=mJ (vs:=args.map a.eval) hR (λ_ _ h=>h) hf (by simp) λk c u hc hu=>by
    rw[Ag]at hc hu;cases hx:args[k]? with
    |none=>rw[hx]at hc;cases hc
    | some x =>
      rw[hx]at hc hu;injection hc with hc;injection hu with hu
      subst hc;subst hu;exact cH λt _=>hV t
  obtain⟨l,hl⟩:∃l,bV σ.H (args.map (oev σ.Γ))=l:=⟨_,rfl⟩
  rw[hl]at q2 ⊢
  have hAM:∀b,reach F ι l b->F b\/M b:=by
    rintro b (hb|⟨id,_,e⟩)
    · exact .inl hb
    · exact .inr (hM id b e)
  have hAlt:∀b,reach F ι l b->b<w.heap.size:=λb hb=>(hAM b hb).elim (hF b) λh=>(hMF b h).1
  have hs:Step F w ι (reach F ι l) w ι:=⟨λb h=>.inl h,λb h=>rfl,λ_ _ h=>h,λid b cur e hi h=>⟨cur,h,rfl⟩⟩
  refine⟨reach F ι l,λb=>M b/\¬reach F ι l b,by simpa using q1,q2,?_,hAM,λb h=>h.1⟩
  have hmask:∀id b,mask ι l id=some b->M b/\¬reach F ι l b:=λid b e=>by
    obtain⟨m1,m2⟩:=cM e;refine⟨hM id b m1,?_⟩;rintro(hb|⟨id',hid',e'⟩)
    · exact(hMF b (hM id b m1)).2 hb
    · exact m2 (hi id id' b m1 e' ▸ hid')
  have hkill:∀id,kill l σ.H id=if id∈l then none else σ.H id:=λid=>by
    by_cases hid:id∈l
    · rw[Aq hid,lM hid]
    · rw[Ai hid,nH hid]
  unfold lW
  cases hl:l with
  | nil =>
    have hmk:mask ι l=ι:=by funext id;simp[mask,hl]
    rw[<-hl]
    have hfin:fin ⟨σ.Γ,kill l σ.H,σ.n⟩ l=σ:=by rw[hl];rfl
    rw[hfin]
    refine⟨h1,ι,hAlt,λid b e=>hmask id b (by rw[hmk];exact e),λb h=>⟨(hMF b h.1).1,h.2⟩,λid b o e e'=>?_,hi,hd,λt=>(hV t).step hs,hN,hds⟩
    obtain⟨ob,p1,p2⟩:=ho id b o e e'
    exact⟨ob,p1,p2.step hs⟩
  | cons x xs =>
    rw[<-hl]
    have hfin:fin ⟨σ.Γ,kill l σ.H,σ.n⟩ l=⟨λt=>jK l (σ.Γ t),λid=>(kill l σ.H id).map (fU l),σ.n⟩:=by rw[hl];rfl
    rw[hfin]
    refine⟨λid h=>by simp only;rw[hkill,h1 id h];simp,mask ι l,hAlt,hmask,λb h=>⟨(hMF b h.1).1,h.2⟩,λid b o e e'=>?_,λid id' b e e'=>hi id id' b (cM e).1 (cM e').1,λid=>?_,λt=>aJw ((hV t).step hs),hN,hds⟩
    · obtain⟨m1,m2⟩:=cM e
      simp only[hkill,Ai m2]at e'
      obtain⟨o1,ho1,rfl⟩:=Af.1 e'
      obtain⟨ob,p1,p2⟩:=ho id b o1 m1 ho1
      exact⟨ob,p1,aDr (p2.step hs)⟩
    · constructor
      · rintro⟨b,e⟩
        obtain⟨m1,m2⟩:=cM e
        simp only[hkill,Ai m2,ES]
        exact(hd id).1 ⟨b,m1⟩
      · intro e
        by_cases hid:id∈l
        · simp[hkill,hid]at e
        · simp only[hkill,Ai hid,ES]at e
          obtain⟨b,hb⟩:=(hd id).2 e
          exact⟨b,by unfold mask;rw[Ai hid];exact hb⟩
end
def isY(o:Oper):Bool:=match o.op with|.call { callee:=.value (.tmp _),args:=_,argTypes:=_ }=>o.guard.isNone|_=>false
def aAi:List Oper->Option (List Oper×Oper×List Oper)
  |[]=>none
  |o::l=>if isY o then some ([],o,l)else(aAi l).map λp=>(o::p.1,p.2.1,p.2.2)
def aBt:Code->Bool
  |.region _ ops _=>(aAi ops.toList).isSome
  |.seq x y|.cond _ x y=>aBt x||aBt y
  |.block _ c|.loop c|.scope c=>aBt c
  |_=>false
def YO(l:Nat)(xs:List (List D))(y:Oper)(k:Nat)(σ:St)(K:St->Prop):Prop :=
  match y.op with
  | .call { callee:=.value (.tmp t),args:=args,argTypes:=_ }=>σ.Γ t=.d (.lit (.func (.yield l) #[] #[]))/\∃dd,cI σ.H (args.toList.map (oev σ.Γ))=some dd/\xs[k]? = some dd /\
      K ⟨bI (lW σ (bV σ.H (args.toList.map (oev σ.Γ)))).Γ y.dst (.d (.b (decide (k+1≠xs.length)))),(lW σ (bV σ.H (args.toList.map (oev σ.Γ)))).H,(lW σ (bV σ.H (args.toList.map (oev σ.Γ)))).n⟩
  |_=>False
def YR(P:Program)[Mc:Mch P](l:Nat)(xs:List (List D))(ops:Array Oper)(k:Nat)(σ:St)(K:Nat->St->Prop):Prop :=
  match aAi ops.toList with
  |some (pre,y,post)=>OW P ops pre σ [] λσ1 con1=>YO l xs y k (fin σ1 con1) λσ2=>OW P ops post σ2 [] λσ3 con3=>K (k+1) (fin σ3 con3)
  |none=>False
def iG(P:Program)[Mc:Mch P](l:Nat)(xs:List (List D)):Code->Nat->St->(Exit->Nat->St->Prop)->Prop
  |.region id ops draw,k,σ,Q=>if(aAi ops.toList).isSome then draw=false/\fQ ops.toList=true/\YR P l xs ops k σ (Q .normal)else AWP P (.region id ops draw) σ λe σ'=>Q e k σ'
  |.seq x y,k,σ,Q=>iG P l xs x k σ λe k' σ'=>match e with|.normal=>iG P l xs y k' σ' Q|e=>Q e k' σ'
  |.cond c x y,k,σ,Q=>match oev σ.Γ c with|.d (.b t)=>if t then iG P l xs x k σ Q else iG P l xs y k σ Q|.ub=>iG P l xs x k σ Q/\iG P l xs y k σ Q|_=>False
  |.block id c,k,σ,Q=>iG P l xs c k σ λe k' σ'=>match e with|.exit id'=>if id'=id then Q .normal k' σ' else Q (.exit id') k' σ'|e=>Q e k' σ'
  | .loop c,k,σ,Q=>if aBt c then ∃(τ:Type) (S:τ->St) (κ m:τ->Nat) (x0:τ),κ x0=k/\(∃ρ,Wk σ (S x0) ρ)/\∀x,iG P l xs c (κ x) (S x) λe k' σ'=>match e with|.normal=>∃y,m y<m x/\κ y=k'/\∃ρ,Wk σ' (S y) ρ|e=>Q e k' σ'
      else AWP P (.loop c) σ λe σ'=>Q e k σ'
  |c,k,σ,Q=>AWP P c σ λe σ'=>Q e k σ'
def bXj{P:Program}[Mc:Mch P]{c:Code}{Q:Exit->Act->World->Prop}{a:Act}{v:World}(h:WC P c (λe a v=>OkV v->Q e a v) a v):WC P c Q a v :=
  λWin hW hv b k cs hb hk=>h Win hW hv b k cs hb λe a' v' hv' hq=>hk e a' v' hv' (hq hv')
section
variable {P:Program} [Mc:Mch P] {A:Nat->Prop} {W:World} {N l:Nat} {xs:List (List D)}
structure JOk(P:Program)[Mc:Mch P](l:Nat)(A:Nat->Prop)(xs:List (List D))(J:Nat->(Nat->Prop)->(Nat->Prop)->World->Prop):Prop where
  stab:∀k X O W1 X' O' W2,J k X O W1->Kept O W1.heap.size W1 W2->(∀b,X b->X' b)->(∀b,X' b->X b\/(W1.heap.size<=b/\b<W2.heap.size))->(∀b,O' b->X' b/\(O b\/W1.heap.size<=b))->J k X' O' W2
  round:∀k X O W1 ds (vals:Array Value),xs[k]? = some ds->J k X O W1->ds.length=vals.size->(∀(i:Nat) d v,ds[i]? = some d->vals[i]? = some v->VD (λb=>A b\/(X b/\¬O b)) W1 d v) ->
    YX P l vals W1 λx W2=>x=.bool (decide (k+1≠xs.length))/\J (k+1) X O W2/\W1.heap.size<=W2.heap.size/\W2.os=W1.os/\W2.tape=W1.tape/\W2.output=W1.output/\∀b,A b\/X b->W2.heap[b]? = W1.heap[b]?
variable {J:Nat->(Nat->Prop)->(Nat->Prop)->World->Prop}
def RY(A:Nat->Prop)(N:Nat)(J:Nat->(Nat->Prop)->(Nat->Prop)->World->Prop)(k:Nat)(σ:St)(a:Act)(w:World):Prop :=
  ∃X F M,J k X M w/\SRB F M N [] σ a w/\(∀b,M b->X b)/\(∀b,F b->A b\/(X b/\¬M b))/\(∀b,X b->b<w.heap.size)
def RY.step(hJ:JOk P l A xs J){k:Nat}{X F M:Nat->Prop}{w:World}(hj:J k X M w)(hMX:∀b,M b->X b)(hFA:∀b,F b->A b\/(X b/\¬M b)){σ':St}{a':Act}{w':World}
    (h:SR ⟨w,F,M,aEi,noZ⟩ N [] σ' a' w') (hX:∀b,X b->b<w.heap.size):RY A N J k σ' a' w':=by
  obtain⟨F',M',h',hM',hF',hK,_⟩:=h.srb
  simp only at hM' hF' hK
  have hsz:=hK.size
  have hM'lt:∀b,M' b->b<w'.heap.size/\¬F' b:=by obtain⟨_,_,_,_,q,_⟩:=h';exact q
  have hF'lt:∀b,F' b->b<w'.heap.size:=by obtain⟨_,_,q,_⟩:=h';exact q
  have hM'X:∀b,M' b->X b\/(w.heap.size<=b/\b<w'.heap.size):=λb hb=>(hM' b hb).imp (hMX b) λh=>⟨h,(hM'lt b hb).1⟩
  refine⟨λb=>X b\/(w.heap.size<=b/\b<w'.heap.size),F',M',hJ.stab k X M w _ M' w' hj hK (λb h=>.inl h) (λb h=>h) (λb hb=>⟨hM'X b hb,hM' b hb⟩),h',hM'X,λb hb=>?_,λb hb=>?_⟩
  · have hnM:¬M' b:=λh=>(hM'lt b h).2 hb
    rcases hF' b hb with h|h|h
    · exact(hFA b h).imp_right λq=>⟨.inl q.1,hnM⟩
    · exact .inr ⟨.inl (hMX b h),hnM⟩
    · exact .inr ⟨.inr ⟨h,hF'lt b hb⟩,hnM⟩
  · rcases hb with h|h
    · have:=hX b h;omega
    · exact h.2
def RY.sr{k:Nat}{σ:St}{a:Act}{w:World}(h:RY A N J k σ a w)(hok:OkV w):∃X F M,J k X M w/\(∀b,M b->X b)/\(∀b,F b->A b\/(X b/\¬M b))/\(∀b,X b->b<w.heap.size)/\SR ⟨w,F,M,aEi,noZ⟩ N [] σ a w:=by obtain⟨X,F,M,h1,h2,h3,h4,h5⟩:=h;exact⟨X,F,M,h1,h3,h4,h5,h2.sr hok noZ λ_ _ e=>by cases e⟩
def RY.weak(hJ:JOk P l A xs J){k:Nat}{σ σ':St}{ρ:Nat->Nat}{a:Act}{w:World}(hk:Wk σ σ' ρ)(h:RY A N J k σ a w)(hok:OkV w):RY A N J k σ' a w:=by obtain⟨X,F,M,h1,h3,h4,h5,hs⟩:=h.sr hok;exact RY.step hJ h1 h3 h4 (vY hk hs) h5
def bPc(hm:P.follows .mixedOrders=true)(hJ:JOk P l A xs J){c:Code}{k:Nat}{σ:St}{a:Act}{w:World}{Q:Exit->St->Prop}(hd:bN N c=true)(hl:bQ P c=true)(h:AWP P c σ Q)(hs:RY A N J k σ a w) :
    WC P c (λe a' w'=>∃σ',Q e σ'/\RY A N J k σ' a' w') a w:=by
  refine(WpR.plain P).okv λhok=>?_
  obtain⟨X,F,M,h1,h3,h4,h5,hsr⟩:=hs.sr hok
  refine cC (cJ hm (λ_=>rfl) c Q σ a w hd hl h hsr) ?_
  rintro e a' w' ⟨σ',hq,hs'⟩
  exact⟨σ',hq,RY.step hJ h1 h3 h4 hs' h5⟩
def RY.env(hJ:JOk P l A xs J){k:Nat}{σ:St}{a:Act}{w v1:World}(h:RY A N J k σ a w)(he:Env w v1):RY A N J k σ a v1:=by obtain⟨X,F,M,h1,h2,h3,h4,h5⟩:=h;exact⟨X,F,M,hJ.stab k X M w X M v1 h1 (he.kept M) (λ_ h=>h) (λ_ h=>.inl h) (λb hb=>⟨h3 b hb,.inl hb⟩),h2.env he,h3,h4,λb hb=>A6 (h5 b hb) he.size⟩
def WL(P:Program)[Mc:Mch P](ops:Array Oper)(l:List Nat)(K:Act->World->Prop)(a:Act)(v:World):Prop :=
  ∀(Win:Goroutine->World->Prop),Mc.Fam Win->OkV v->∀(b:Frame) (k:List Item) (cs:List Frame),nA b->(∀a' v',OkV v'->K a' v'->Win (G (b.at a' k) cs) v')->Win (G (b.at a (.inRegion ops l::k)) cs) v
def bXc{ops:Array Oper}{K:Act->World->Prop}{a:Act}{v:World}(h:K a v):WL P ops [] K a v :=
  λWin hW hv b k cs hb hk=>aM hW rfl hv (λw=>stepG_region_end) (hk a v hv h)
def cBr{ops:Array Oper}{i:Nat}{rest:List Nat}{o:Oper}{K:Act->World->Prop}{a:Act}{v:World}(ho:ops[i]? = some o)
    (h:if Bu o (yielded ops a.tmps)then ∀v1,Env v v1->wpX P o a v1 (WL P ops rest K)else WL P ops rest K (a.put o.dst undef) v):WL P ops (i::rest) K a v:=by
  intro Win hW hv b k cs hb hk
  split at h
  · rename_i hw
    exact aGz hW hb ho hw hv h λa' v' hv' h'=>h' Win hW hv' b k cs hb hk
  · rename_i hw
    exact tT hW ho hw hv (h Win hW hv b k cs hb hk)
def bCe{ops:Array Oper}{i:Nat}{rest:List Nat}{o:Oper}{K:Act->World->Prop}{a:Act}{v:World}(ho:ops[i]? = some o)(hw:Bu o (yielded ops a.tmps)=true)
    (h:OkV v->∀v1,Env v v1->∃l f tmps assign body,∃R:Value->World->Prop,aK P (execOp a.eval o) v1=.ok (.round l f tmps assign body) v1 /\
      (∀(Win:Goroutine->World->Prop),Mc.Fam Win->OkV v1->∀(c:Frame) (cs:List Frame),(∀x v',OkV v'->R x v'->Win (G (c.finish x) cs) v')->Win (G (Fp l f tmps assign body .normal) (c::cs)) v1) /\
      ∀x v2,OkV v2->R x v2->WL P ops rest K (a.put o.dst x) v2):WL P ops (i::rest) K a v:=by
  intro Win hW hv b k cs hb hk
  by_cases hall:∃l f tmps assign body,∀v1,Env v v1->aK P (execOp a.eval o) v1=.ok (.round l f tmps assign body) v1
  · obtain⟨l,f,tmps,assign,body,hall⟩:=hall
    refine aWr hW hb ho hw hv λv1 he=>⟨hall v1 he,?_⟩
    obtain⟨l',f',tmps',assign',body',R,h1,h2,h3⟩:=h hv v1 he
    rw[hall v1 he]at h1
    injection h1 with h1 _;injection h1 with e1 e2 e3 e4 e5;subst e1;subst e2;subst e3;subst e4;subst e5
    refine h2 Win hW (he.okV hv) _ cs λx v' hv' hR=>?_
    rw[D7,ho]
    exact h3 x v' hv' hR Win hW hv' b k cs hb hk
  · exact aPo hW hb ho hw hv λv1 he=>by
      obtain⟨l',f',tmps',assign',body',R,h1,h2,h3⟩:=h hv v1 he;refine⟨l',f',tmps',assign',body',h1,?_⟩;refine h2 Win hW (he.okV hv) _ cs λx v' hv' hR=>?_
      rw[D7,ho];exact h3 x v' hv' hR Win hW hv' b k cs hb hk
def bCj{id:Nat}{ops:Array Oper}{Q:Exit->Act->World->Prop}{a:Act}{v:World}(h:WL P ops (Du 0 ops.toList.length) (Q .normal) a v):WC P (.region id ops false) Q a v:=by
  intro Win hW hv b k cs hb hk;refine aM hW rfl hv (λw=>stepG_region) ?_;have:=h Win hW hv b k cs hb λa' v' hv' hq=>hk .normal a' v' hv' hq
  rwa [ET,<-BK]
def aZj{G:Ctx}{ops:Array Oper}{ds:List Deferred}{Q:AS->Prop}{K K':Act->World->Prop}(hQ:∀s a w,Q s->mZ G N ds s a w->K a w)(rest:List Nat)(hk:∀a w,K a w->WL P ops rest K' a w) :
    ∀(l:List Oper) (n:Nat),(∀(j:Nat) o,l[j]? = some o->ops[n+j]? = some o)->(∀o∈l,∀d,o.dst=some d->d<N/\G.Z d=none)->∀(s:AS) (a:Act) (w:World),mZ G N ds s a w->yV P G ops Q l s->WL P ops (Du n l.length++rest) K' a w:=by
  intro l
  induction l with
  |nil=>intro n _ _ s a w hr h;exact hk _ _ (hQ s a w h hr)
  | cons o l ih =>
    intro n hn hl s a w hr h
    obtain⟨s',hd,h⟩:=h
    have:=oM (K:=WL P ops (Du (n+1) l.length++rest) K') hd (hl o (AI ..)) hr λa' w' hr'=>ih (n+1) (λj o hj=>by have:=hn (j+1) o (by simpa using hj);rw[<-this];congr 1;omega) (λo ho=>hl o (AE _ ho)) s' a' w' hr' h
    rw[Ak,DX,Co]
    exact cBr (by simpa using hn 0 o rfl) this
def aFe{G:Ctx}{ops:Array Oper}{ds:List Deferred}{Q:St->Prop}{K':Act->World->Prop}{os:List Oper}{rest:List Nat}{n:Nat}{σ:St}{a:Act}{w:World}
    (hno:fQ os=true) (hn:∀(j:Nat) o,os[j]? = some o->ops[n+j]? = some o)
    (hdst:∀o∈os,∀d,o.dst=some d->d<N/\G.Z d=none) (hsr:SR G N ds σ a w) (h:OW P ops os σ [] λσ' con=>Q (fin σ' con)) (hQ:∀σ a w,Q σ->SR G N ds σ a w->WL P ops rest K' a w) :
    WL P ops (Du n os.length++rest) K' a w:=by
  obtain⟨hn0,hwf,hag⟩:=qX hsr
  obtain⟨fb,hfb⟩:=qY (G:=G) os σ [] hno hn0 hwf h
  obtain⟨h1,h2⟩:=hag (λi=>if i<σ.n then σ.H i else fb i) (λi o hi=>by
    rcases A4 i σ.n with hlt|hge
    · rw[Aq hlt];exact hi
    · rw[hwf.top i hge]at hi;cases hi)
  have h3:=hfb _ h1 (λi hi=>by simp only;rw[Ai (by omega)])
  refine aZj (K:=λa w=>∃σ,Q σ/\SR G N ds σ a w) (Q:=λs'=>∃σ' con',Q (fin σ' con')/\(σ'.n=0->∀b,G.P0 b)/\Wf σ' con'/\dI σ' con' s') ?_ rest ?_ os n hn hdst _ a w h2 h3
  · rintro s a w ⟨σ',con',hq,hn',hwf',hag'⟩ hr
    exact⟨_,hq,aDl hn' hwf' hag' hr⟩
  · rintro a w ⟨σ,hq,hs⟩;exact hQ σ a w hq hs
def aKx:∀(os:List Oper) {pre post:List Oper} {y:Oper},aAi os=some (pre,y,post)->os=pre++y::post/\isY y=true
  |[],_,_,_,h=>by cases h
  | o::os,pre,post,y,h=>by
    unfold aAi at h;split at h
    · rename_i ho;injection h with h;injection h with h1 h;injection h with h2 h3;subst h1;subst h2;subst h3;exact⟨rfl,ho⟩
    · obtain⟨⟨p1,p2,p3⟩,hp,h⟩:=Af.1 h
      injection h with h1 h;injection h with h2 h3;subst h1;subst h2;subst h3
      obtain⟨e1,e2⟩:=aKx os hp
      exact⟨by rw[e1];rfl,e2⟩
def bEq(hJ:JOk P l A xs J){id k:Nat}{ops:Array Oper}{σ:St}{a:Act}{w:World}{Q:Nat->St->Prop}(hno:fQ ops.toList=true)(hd:aIg N ops=true)(h:YR P l xs ops k σ Q)(hs:RY A N J k σ a w) :
    WC P (.region id ops false) (λe a' w'=>e=.normal/\∃k' σ',Q k' σ'/\RY A N J k' σ' a' w') a w:=by
  refine(WpR.plain P).okv λhok=>bCj ?_
  unfold YR at h
  split at h
  case h_2=>exact h.elim
  rename_i pre y post hsp
  obtain⟨heq,hy⟩:=aKx _ hsp
  have hdst:∀o∈ops.toList,∀d,o.dst=some d->d<N/\(noZ:Nat->Option Value) d=none:=λo ho d hdd=>by have:=Cq.1 hd o (by simpa using ho);rw[hdd]at this;exact⟨by simpa using this,rfl⟩
  have hat:∀(j:Nat) o,ops.toList[j]? = some o->ops[j]? = some o:=λj o h=>by simpa using h
  rw[heq]at hdst hat hno ⊢
  have hno1:fQ pre=true:=by simp only[fQ,List.all_append,A8]at hno ⊢;exact hno.1
  have hno2:fQ post=true:=by simp only[fQ,List.all_append,FM,A8]at hno ⊢;exact hno.2.2
  obtain⟨X,F,M,hj,hMX,hFA,hXlt,hsr⟩:=hs.sr hok
  rw[show Du 0 (pre++y::post).length=Du 0 pre.length++(pre.length::Du (pre.length+1) post.length)by
    rw[List.length_append,Ak,<-List.range'_append_1,AA,DX]]
  refine aFe (G:=⟨w,F,M,aEi,noZ⟩) (n:=0) hno1 (λj o hj=>by rw[AA];exact hat j o (by rw[List.getElem?_append_left (Ao.1 hj).1];exact hj)) (λo ho=>hdst o (List.mem_append_left _ ho)) hsr (Q:=λσ1=>YO l xs y k σ1 λσ2=>OW P ops post σ2 [] λσ3 con3=>Q (k+1) (fin σ3 con3)) h ?_
  intro σ1 a1 w0 hY hs1
  have hry0:=RY.step hJ hj hMX hFA hs1 hXlt
  unfold YO at hY
  split at hY
  case h_2=>exact hY.elim
  rename_i t args ts hop
  obtain⟨hΓ,dd,hfr,hx,hK⟩:=hY
  have hguard:y.guard=none:=by unfold isY at hy;rw[hop]at hy;simpa using hy
  have hwant:Bu y (yielded ops a1.tmps)=true:=by simp[Bu,hguard]
  refine bCe (hat pre.length y (by simp)) hwant λhokw0 w1 he1=>?_
  have hokw1:=he1.okV hokw0
  obtain⟨X1,F1,M1,hj1,hs1',hMX1,hFA1,hX1⟩:=hry0.env hJ he1
  have hev:a1.eval (.tmp t)=.func (.yield l) #[] #[]:=by obtain⟨_,ι,_,_,_,_,_,_,hV,_⟩:=hs1';have:=hV t;rw[hΓ]at this;show a1.tmps.getD t undef=_;generalize a1.tmps.getD t undef=v at this;cases this with|d _ _ h=>cases h;rfl
  obtain⟨A2,M2,hlen,hVD,hs2,hA2,hM2⟩:=hs1'.args hfr
  have hs2lt:∀b,M2 b->b<w1.heap.size/\¬A2 b:=by obtain⟨_,_,_,_,q,_⟩:=hs2;exact q
  have hj2:J k X1 M2 w1:=hJ.stab k X1 M1 w1 X1 M2 w1 hj1 (.refl _ _ _) (λ_ h=>h) (λ_ h=>.inl h) λb hb=>⟨hMX1 b (hM2 b hb),.inl (hM2 b hb)⟩
  have hAX:∀b,A2 b->A b\/(X1 b/\¬M2 b):=λb hb=>by
    have hn:¬M2 b:=λh=>(hs2lt b h).2 hb
    rcases hA2 b hb with h|h
    · exact(hFA1 b h).imp_right λq=>⟨q.1,hn⟩
    · exact .inr ⟨hMX1 b h,hn⟩
  obtain⟨fn,tmps,assign,body,hyl,hround⟩:=hJ.round k X1 M2 w1 dd (args.map a1.eval) hx hj2 (by simpa using hlen) λi d v hi hv =>
    (hVD i d v hi (by have:=Array.getElem?_toList (xs:=args.map a1.eval) (i:=i);rw[hv,Array.toList_map]at this;exact this)).mono hAX
  have hrun:aK P (execOp a1.eval y) w1=.ok (.round l fn tmps assign body) w1:=by simp only[execOp,hop,resolve,hev,Sem.run_bind,CF,Sem.run_pure,AK,Cl,invoke];exact hyl
  refine⟨l,fn,tmps,assign,body,_,hrun,hround,?_⟩
  rintro x W2 hokW2 ⟨rfl,hj3,hsz,hos,htp,hou,hkeep⟩
  -- behind the call
  have hs3:SRB A2 M2 N [] (lW σ1 (bV σ1.H (args.toList.map (oev σ1.Γ)))) a1 W2:=hs2.world hsz λb hb=>hkeep b (by
    rcases hb with h|h
    · exact(hAX b h).imp_right λq=>q.1
    · exact .inr (hMX1 b (hM2 b h)))
  have hN:a1.tmps.size=N:=by obtain⟨_,_,_,_,_,_,_,_,_,q,_⟩:=hs3;exact q
  have hdf:a1.defers=[]:=by obtain⟨_,_,_,_,_,_,_,_,_,_,q⟩:=hs3;exact q
  have hyd:∀d,y.dst=some d->d<a1.tmps.size:=λd h=>by rw[hN];exact(hdst y (by simp) d h).1
  have hs4:SRB A2 M2 N [] ⟨bI (lW σ1 (bV σ1.H (args.toList.map (oev σ1.Γ)))).Γ y.dst (.d (.b (decide (k+1≠xs.length)))),(lW σ1 (bV σ1.H (args.toList.map (oev σ1.Γ)))).H,(lW σ1 (bV σ1.H (args.toList.map (oev σ1.Γ)))).n⟩ (a1.put y.dst (.bool (decide (k+1≠xs.length)))) W2:=by
    refine hs3.act (by cases y.dst<;>simp[C6,hN]) (by cases y.dst<;>simp[C6,hdf]) λt=>?_
    rw[jD a1 y.dst (.bool (decide (k+1≠xs.length))) hyd t];by_cases ht:y.dst=some t
    · rw[ht]
      exact .inr (.inr ⟨.b (decide (k+1≠xs.length)),.bool (decide (k+1≠xs.length)),by simp[bI,upd,aL],by simp,.b _⟩)
    · rw[Ai ht]
      exact .inl ⟨by rw[zG ht],rfl⟩
  have hry:RY A N J (k+1) _ (a1.put y.dst (.bool (decide (k+1≠xs.length)))) W2:=⟨X1,A2,M2,hj3,hs4,λb hb=>hMX1 b (hM2 b hb),hAX,λb hb=>by have:=hX1 b hb;omega⟩
  obtain⟨X5,F5,M5,hj5,hMX5,hFA5,hX5,hsr5⟩:=hry.sr hokW2
  have hfin:=aFe (P:=P) (ops:=ops) (G:=⟨W2,F5,M5,aEi,noZ⟩) (n:=pre.length+1) (os:=post) (rest:=[]) (Q:=Q (k+1)) (K':=λa' w'=>Exit.normal=.normal/\∃k' σ',Q k' σ'/\RY A N J k' σ' a' w') hno2
    (λj o hj=>hat (pre.length+1+j) o (by rw[List.getElem?_append_right (by omega),show pre.length+1+j-pre.length=j+1 by omega,BB];exact hj))
    (λo ho=>hdst o (List.mem_append_right _ (AE _ ho))) hsr5 hK
    λσ6 a6 w6 hq hs6=>bXc ⟨rfl,k+1,σ6,hq,RY.step hJ hj5 hMX5 hFA5 hs6 hX5⟩
  rw[List.append_nil]at hfin
  exact hfin
def aTn(hm:P.follows .mixedOrders=true)(hJ:JOk P l A xs J):∀(c:Code) (Q:Exit->Nat->St->Prop) (k:Nat) (σ:St) (a:Act) (w:World),bN N c=true->bQ P c=true->iG P l xs c k σ Q->RY A N J k σ a w ->
    WC P c (λe a' w'=>∃k' σ',Q e k' σ'/\RY A N J k' σ' a' w') a w:=by
  have plain:∀ (c:Code) (Q:Exit->Nat->St->Prop) (k:Nat) (σ:St) (a:Act) (w:World),bN N c=true->bQ P c=true->(AWP P c σ λe σ'=>Q e k σ')->RY A N J k σ a w ->
      WC P c (λe a' w'=>∃k' σ',Q e k' σ'/\RY A N J k' σ' a' w') a w:=by
    intro c Q k σ a w hd hl h hs
    refine cC (bPc hm hJ hd hl h hs) ?_
    rintro e a' w' ⟨σ',hq,hs'⟩
    exact⟨k,σ',hq,hs'⟩
  intro c
  induction c with
  | region id ops draw =>
    intro Q k σ a w hd hl h hs
    unfold iG at h
    split at h
    · obtain⟨rfl,hno,h⟩:=h
      refine cC (bEq hJ hno hd h hs) ?_
      rintro e a' w' ⟨rfl,k',σ',hq,hs'⟩
      exact⟨k',σ',hq,hs'⟩
    · exact plain _ Q k σ a w hd hl h hs
  | seq x y ihx ihy =>
    intro Q k σ a w hd hl h hs
    simp only[bN,bQ,A8]at hd hl
    refine eJ (cC (ihx _ k σ a w hd.1 hl.1 h hs) ?_)
    rintro e a' w' ⟨k',σ',hq,hs'⟩
    cases e with
    |normal=>exact ihy Q k' σ' a' w' hd.2 hl.2 hq hs'
    |_=>exact⟨k',σ',hq,hs'⟩
  | cond c x y ihx ihy =>
    intro Q k σ a w hd hl h hs
    simp only[bN,bQ,A8]at hd hl
    have hV:∃F ι,V F w ι (oev σ.Γ c) (a.eval c):=by obtain⟨_,F,_,_,⟨_,ι,_,_,_,_,_,_,hV,_⟩,_⟩:=hs;exact⟨F,ι,cH λt _=>hV t⟩
    obtain⟨F,ι,hV⟩:=hV
    unfold iG at h
    split at h
    · rename_i t ht
      have hc:a.eval c=.bool t:=by rw[ht]at hV;generalize a.eval c=v at hV;cases hV with|d _ _ h=>cases h;rfl
      refine nR hc ?_
      cases t
      · exact ihy Q k σ a w hd.2 hl.2 h hs
      · exact ihx Q k σ a w hd.1 hl.1 h hs
    · rename_i ht
      have hc:∃t,a.eval c=.bool t:=by rw[ht]at hV;generalize a.eval c=v at hV;cases hV with|ub t=>exact⟨t,rfl⟩
      obtain⟨t,hc⟩:=hc
      refine nR hc ?_
      cases t
      · exact ihy Q k σ a w hd.2 hl.2 h.2 hs
      · exact ihx Q k σ a w hd.1 hl.1 h.1 hs
    · exact h.elim
  | block id c ih =>
    intro Q k σ a w hd hl h hs
    refine zZ (cC (ih _ k σ a w hd hl h hs) ?_)
    rintro e a' w' ⟨k',σ',hq,hs'⟩
    cases e with
    | exit id' =>
      simp only[DQ]at hq ⊢
      split at hq
      · rename_i he;rw[Aq he];exact⟨k',σ',hq,hs'⟩
      · rename_i he;rw[Ai he];exact⟨k',σ',hq,hs'⟩
    |_=>exact⟨k',σ',hq,hs'⟩
  | loop c ih =>
    intro Q k σ a w hd hl h hs
    unfold iG at h
    split at h
    · obtain⟨τ,S,κ,m,x0,hk0,⟨ρ,hk⟩,hround⟩:=h
      refine(WpR.plain P).okv λhokw=>aTu (λn a w=>∃x,m x=n/\RY A N J (κ x) (S x) a w) ⟨m x0,x0,rfl,by rw[hk0];exact hs.weak hJ hk hokw⟩ ?_
      rintro n a w ⟨x,rfl,hsx⟩
      refine bXj (cC (ih _ (κ x) (S x) a w hd hl (hround x) hsx) ?_)
      rintro e a' w' ⟨k',σ',hq,hs'⟩ hokw'
      cases e with
      | normal =>
        obtain⟨y,hlt,rfl,ρ,hk⟩:=hq
        exact⟨m y,hlt,y,rfl,hs'.weak hJ hk hokw'⟩
      |_=>exact⟨k',σ',hq,hs'⟩
    · exact plain _ Q k σ a w hd hl h hs
  |skip=>intro Q k σ a w hd hl h hs;exact plain _ Q k σ a w hd hl h hs
  |exit id=>intro Q k σ a w hd hl h hs;exact plain _ Q k σ a w hd hl h hs
  |ret=>intro Q k σ a w hd hl h hs;exact plain _ Q k σ a w hd hl h hs
  |label l=>intro Q k σ a w hd hl h hs;exact plain _ Q k σ a w hd hl h hs
  |scope c _=>intro Q k σ a w hd hl h hs;exact plain _ Q k σ a w hd hl h hs
  |_=>intro Q k σ a w hd hl h;exact h.elim
end
def bEg {P:Program} [Mc:Mch P] {f N:Nat} {fn:Func} {c:Code} {caps:List D} {xs:List (List D)} (hm:P.follows .mixedOrders=true) (hf:P.funcs[f]? = some fn) (hb:fn.body=some c) (hname:(fn.name == "runtime.NumGoroutine")=false) (hN:fn.ntmps=N)
    (hd:bN N c=true) (hl':bQ P c=true) (ha:caps.length+1<=N)
    (h:∀l,iG P l xs c 0 (St0 (.lit (.func (.yield l) #[] #[])::caps) N) λe k σ=>(e=.normal\/e=.ret)/\k=xs.length/\∃r,jA P fn.results.toList σ=some r):mM P f caps xs:=by
  intro A W l lb hA hl hv
  have hn:¬ fn.name = "runtime.NumGoroutine" := by simpa using hname
  refine⟨λargs w=>by simp[callFunc,hf,hn,hb],λJ hstab hround h0=>?_⟩
  have hJ:JOk P l A xs J:=⟨hstab,hround⟩
  refine yC hf hb ?_
  subst hN
  refine(WpR.plain P).okv λhokW=>?_
  obtain⟨F,M,h1,hM,hF,hK,_⟩:=(SR0 (N:=fn.ntmps) (args:=.lit (.func (.yield l) #[] #[])::caps) (vs:=#[.func (.yield l) #[] #[]]++lb) hokW hA (by simp;omega) (λk d v hk hv'=>by
    cases k with
    |zero=>rw[B3 (by simp)]at hv';simp at hk hv';subst hk;subst hv';exact .lit _
    |succ k=>exact hv k d v (by simpa using hk) (by rw[Cu (by simp)]at hv';simpa using hv')) (by simpa using ha)).srb
  simp only at hM hF hK
  have hMlt:∀b,M b->b<W.heap.size:=by obtain⟨_,_,_,_,q,_⟩:=h1;exact λb h=>(q b h).1
  have hFlt:∀b,F b->b<W.heap.size:=by obtain⟨_,_,q,_⟩:=h1;exact q
  have hM0:∀b,¬M b:=λb hb=>by
    rcases hM b hb with h|h
    · exact h
    · have:=hMlt b hb;omega
  have hMe:M=bD:=funext λb=>propext ⟨λh=>(hM0 b h).elim,λh=>h.elim⟩
  refine cC (aTn (A:=A) hm hJ c _ 0 _ _ W hd hl' (h l) ⟨bD,F,M,by rw[hMe];exact h0,h1,λb hb=>(hM0 b hb).elim,λb hb=>?_,λb hb=>hb.elim⟩) ?_
  · rcases hF b hb with h|h|h
    · exact .inl h
    · exact h.elim
    · have:=hFlt b hb;omega
  · rintro e a w ⟨k,σ,⟨he,rfl,r,hr⟩,X,F,M,hj,hs,hMX',_⟩
    have hdf:a.defers=[]:=by obtain⟨_,_,_,_,_,_,_,_,_,_,q⟩:=hs;exact q
    refine⟨he,λWin hWf hokw=>xW hf hdf (λv1 hev=>?_) Win hWf hokw⟩
    have hs2:=hs.env hev
    obtain⟨v,h1,_⟩:=eB (hs2.sr (hev.okV hokw) noZ λ_ _ e=>by cases e) hr
    exact⟨v,h1,X,M,hJ.stab _ X M w X M v1 hj (hev.kept M) (λ_ h=>h) (λ_ h=>.inl h) (λb hb=>⟨hMX' b hb,.inl hb⟩)⟩
end Go.Am
end
section
open List renaming map_map->C,mapM_map->L
namespace Go.Am
variable {P:Program} [Mc:Mch P]
def iK{l:Nat}{xs:List (List D)}:∀(c:Code) {k:Nat} {σ:St} {Q:Exit->Nat->St->Prop},aBt c=false->(AWP P c σ λe σ'=>Q e k σ')->iG P l xs c k σ Q:=by
  intro c;induction c with
  | region id ops draw =>
    intro k σ Q hy h;unfold iG;simp only[aBt]at hy;rw[hy];exact h
  | seq x y ihx ihy =>
    intro k σ Q hy h;simp only[aBt,FP]at hy;refine ihx hy.1 (fL x (λe σ h=>?_) h);cases e with
    |normal=>exact ihy hy.2 h
    |_=>exact h
  | cond c x y ihx ihy =>
    intro k σ Q hy h;simp only[aBt,FP]at hy;unfold iG;unfold AWP at h;split
    · rename_i t ht
      simp only[ht]at h
      cases t
      · exact ihy hy.2 h
      · exact ihx hy.1 h
    · rename_i ht
      simp only[ht]at h
      exact⟨ihx hy.1 h.1,ihy hy.2 h.2⟩
    · rename_i h1 h2
      split at h
      · rename_i t ht;exact h1 _ ht
      · rename_i ht;exact h2 ht
      · exact h
  | block id c ih =>
    intro k σ Q hy h;refine ih hy (fL c (λe σ h=>?_) h);cases e<;>exact h
  | loop c ih =>
    intro k σ Q hy h;simp only[aBt]at hy;unfold iG;rw[hy];exact h
  |_=>intro k σ Q _ h;exact h
@[congr]def cAw{l:Nat}{xs:List (List D)}{c:Code}{k:Nat}{σ σ':St}{Q:Exit->Nat->St->Prop}(h:σ=σ'):iG P l xs c k σ Q=iG P l xs c k σ' Q:=by rw[h]
def rW{l:Nat}{xs:List (List D)}{x y:Code}{k:Nat}{σ:St}{Q:Exit->Nat->St->Prop}(hy:aBt x=false)(h:AWP P x σ λe σ'=>match e with|.normal=>iG P l xs y k σ' Q|e=>Q e k σ'):iG P l xs (.seq x y) k σ Q:=by refine iK (l:=l) (xs:=xs) x (k:=k) hy (fL x (λe σ h=>?_) h);cases e<;>exact h
def oR{l:Nat}{xs:List (List D)}{id:Nat}{c:Code}{k:Nat}{σ:St}{Q:Exit->Nat->St->Prop}(h:iG P l xs c k σ λe k' σ'=>match e with|.exit id'=>if id'=id then Q .normal k' σ' else Q (.exit id') k' σ'|e=>Q e k' σ'):iG P l xs (.block id c) k σ Q:=h
def vT{l:Nat}{xs:List (List D)}{x y:Code}{k:Nat}{σ:St}{Q:Exit->Nat->St->Prop}(h:iG P l xs x k σ λe k' σ'=>match e with|.normal=>iG P l xs y k' σ' Q|e=>Q e k' σ'):iG P l xs (.seq x y) k σ Q:=h
def aDb{l:Nat}{xs:List (List D)}{id:Nat}{ops:Array Oper}{k:Nat}{σ:St}{Q:Exit->Nat->St->Prop}{pre post:List Oper}{y:Oper}(hno:fQ ops.toList=true)(hs:aAi ops.toList=some (pre,y,post))
    (h:OWd P ops pre σ [] (λσ1 con1=>YO l xs y k (fin σ1 con1) λσ2=>OWd P ops post σ2 [] (λσ3 con3=>aEk σ3 con3 (Q .normal (k+1)) .mk) .mk) .mk):iG P l xs (.region id ops false) k σ Q:=by
  unfold iG
  rw[hs]
  refine⟨rfl,hno,?_⟩
  unfold YR
  rw[hs]
  exact h
@[congr]def cBo{l:Nat}{xs:List (List D)}{y:Oper}{k:Nat}{σ σ':St}{K:St->Prop}(h:σ=σ'):YO l xs y k σ K=YO l xs y k σ' K:=by rw[h]
def aKf{l:Nat}{xs:List (List D)}{dst:Option Tmp}{t:Tmp}{args:List Operand}{ts:Array TypeId}{ty:TypeId}{pos:String}{after:Array Edge}{guard:Option (Nat×Bool)}{k:Nat}{σ:St}{K:St->Prop}{dd:List D}{l2:List Nat}
    (h1:σ.Γ t=.d (.lit (.func (.yield l) #[] #[]))) (h2:cI σ.H (args.map (oev σ.Γ))=some dd) (h3:xs[k]? = some dd) (h4:bV σ.H (args.map (oev σ.Γ))=l2)
    (h5:K ⟨bI (lW σ l2).Γ dst (.d (.b (decide (k+1≠xs.length)))),(lW σ l2).H,(lW σ l2).n⟩):YO l xs ⟨dst,.call ⟨.value (.tmp t),args.toArray,ts⟩,ty,pos,after,guard⟩ k σ K:=by
  subst h4
  exact⟨h1,dd,h2,h3,h5⟩
def cFo{τ:Type}(I:τ->Prop)(m κ:τ->Nat)(S:τ->St)(x:τ)(k:Nat)(σ':St)(_:Dm (I,m,κ,S,x)):Prop:=∃y,I y/\m y<m x/\κ y=k/\∃ρ,Wk σ' (S y) ρ
def aGt{τ:Type}{l:Nat}{xs:List (List D)}{c:Code}{k:Nat}{σ:St}{Q:Exit->Nat->St->Prop}(hy:aBt c=true)(I:τ->Prop)(S:τ->St)(κ m:τ->Nat)(x0:τ)(hI:I x0)(hk:κ x0=k)(h0:∃ρ,Wk σ (S x0) ρ)
    (h:∀x,I x->iG P l xs c (κ x) (S x) λe k' σ'=>match e with|.normal=>cFo I m κ S x k' σ' .mk|e=>Q e k' σ'):iG P l xs (.loop c) k σ Q:=by
  unfold iG
  rw[Aq hy]
  refine⟨{ x:τ // I x },λx=>S x.1,λx=>κ x.1,λx=>m x.1,⟨x0,hI⟩,hk,h0,λx=>?_⟩
  refine cast (congrArg (iG P l xs c (κ x.1) (S x.1)) ?_) (h x.1 x.2)
  funext e k' σ'
  cases e with
  |normal=>exact propext ⟨λ⟨y,h1,h2,h3⟩=>⟨⟨y,h1⟩,h2,h3⟩,λ⟨y,h2,h3⟩=>⟨y.1,y.2,h2,h3⟩⟩
  |_=>rfl
def aZr:Code->Bool
  |.seq x y=>aZr x||aZr y
  |.block _ c|.scope c=>aZr c
  |.rangeFunc ..=>true
  |_=>false
def aDe{N:Nat}:∀(c:Code) {σ:St} {Q:Exit->St->Prop},aZr c=false->AWP P c σ Q->nP P N c σ Q:=by
  intro c;induction c with
  | seq x y ihx ihy =>
    intro σ Q hr h;simp only[aZr,FP]at hr;refine ihx hr.1 (fL x (λe σ h=>?_) h);cases e with
    |normal=>exact ihy hr.2 h
    |_=>exact h
  |block id c ih=>intro σ Q hr h;exact ih hr h
  |scope c ih=>intro σ Q hr h;exact ih hr h
  |rangeFunc=>intro σ Q hr;cases hr
  |_=>intro σ Q _ h;exact h
@[congr]def cAx{N:Nat}{c:Code}{σ σ':St}{Q:Exit->St->Prop}(h:σ=σ'):nP P N c σ Q=nP P N c σ' Q:=by rw[h]
def cS{N:Nat}{x y:Code}{σ:St}{Q:Exit->St->Prop}(hr:aZr x=false)(h:AWP P x σ λe σ'=>match e with|.normal=>nP P N y σ' Q|e=>Q e σ'):nP P N (.seq x y) σ Q:=by refine aDe x hr (fL x (λe σ h=>?_) h);cases e<;>exact h
def aDc{N:Nat}{x y:Code}{σ:St}{Q:Exit->St->Prop}(h:nP P N x σ λe σ'=>match e with|.normal=>nP P N y σ' Q|e=>Q e σ'):nP P N (.seq x y) σ Q:=h
def aDd{N:Nat}{c:Code}{σ:St}{Q:Exit->St->Prop}(h:nP P N c σ λe σ'=>match e with|.goto _=>False|e=>Q e σ'):nP P N (.scope c) σ Q:=h
def tN{N id:Nat}{c:Code}{σ:St}{Q:Exit->St->Prop}(h:nP P N c σ λe σ'=>match e with|.exit id'=>if id'=id then Q .normal σ' else Q (.exit id') σ'|e=>Q e σ'):nP P N (.block id c) σ Q:=h
def bVj(wl:List Nat)(T:St)(σ2:St)(_:Dm (wl,T)):Prop:=∃ρ,Wk ⟨λt=>if wl.contains t then .any else σ2.Γ t,σ2.H,σ2.n⟩ T ρ
def aTe{N:Nat}{g:Operand}{ps:Array Tmp}{assign body:Code}{σ:St}{Q:Exit->St->Prop}{gf:FuncId}{cs:List AV}{caps:List D}(xs:List (List D))(T:Nat->St)(wl:List Nat)(E:Exit)(jc:Code)
    (hE:(E,jc)=(Exit.ret,Code.ret)\/∃id,(E,jc)=(Exit.exit id,Code.exit id))
    (hg:dM (oev σ.Γ g)=some (gf,cs)) (hf:cI σ.H cs=some caps) (hseq:mM P gf caps xs) (h0:∃ρ,Wk (lW σ (bV σ.H cs)) (T 0) ρ)
    (hc:(bN N assign&&bN N body&&bQ P assign&&bQ P body&&gH assign&&gH body&&fR (λt=>!wl.contains t) assign&&fR (λt=>!wl.contains t) body&&ps.toList.all λp=>decide (p<N)&&wl.contains p)=true)
    (hne:0<xs.length)
    (hr0:∀k x,k+1<xs.length->xs[k]? = some x->x.length=ps.size/\AWP P assign ⟨aDt (ps.toList.zip x) (T k).Γ,(T k).H,(T k).n⟩ λe σ1=>match e with
      |.normal=>AWP P body σ1 λe σ2=>match e with|.normal=>bVj wl (T (k+1)) σ2 .mk|_=>False
      |_=>False)
    (hr1:∀k x,k+1=xs.length->xs[k]? = some x->x.length=ps.size/\AWP P assign ⟨aDt (ps.toList.zip x) (T k).Γ,(T k).H,(T k).n⟩ λe σ1=>match e with
      |.normal=>AWP P body σ1 λe σ2=>e=E/\bVj wl (T (k+1)) σ2 .mk
      |_=>False)
    (hq:Q E (T xs.length)):nP P N (.rangeFunc g ps assign body) σ Q:=by
  simp only[A8,A3,BC]at hc
  obtain⟨⟨⟨⟨⟨⟨⟨⟨d1,d2⟩,l1⟩,l2⟩,r1⟩,r2⟩,z1⟩,z2⟩,hps⟩:=hc
  refine⟨gf,cs,caps,xs,T,wl,E,jc,hE,hg,hf,hseq,⟨⟨d1,d2⟩,⟨l1,l2⟩,⟨r1,r2⟩,⟨z1,z2⟩,hps,hne,λk x hx=>?_⟩,h0,hq⟩
  have hk:=(Ao.1 hx).1
  by_cases hl:k+1=xs.length
  · refine⟨(hr1 k x hl hx).1,fL assign (λe σ1 h=>?_) (hr1 k x hl hx).2⟩
    cases e with
    | normal =>
      refine⟨rfl,fL body (λe σ2 h=>?_) h⟩
      rw[Aq hl];exact h
    |_=>exact h.elim
  · refine⟨(hr0 k x (by omega) hx).1,fL assign (λe σ1 h=>?_) (hr0 k x (by omega) hx).2⟩
    cases e with
    | normal =>
      refine⟨rfl,fL body (λe σ2 h=>?_) h⟩
      rw[Ai hl]
      cases e with
      |normal=>exact⟨rfl,h⟩
      |_=>exact h.elim
    |_=>exact h.elim
def qV{N:Nat}{g:Operand}{ps:Array Tmp}{assign body:Code}{σ:St}{Q:Exit->St->Prop}{gf:FuncId}{cs:List AV}{caps:List D}(xs:List (List D))(T:Nat->St)(wl:List Nat)(E:Exit)(jc:Code)
    (hE:(E,jc)=(Exit.ret,Code.ret)\/∃id,(E,jc)=(Exit.exit id,Code.exit id))
    (hg:dM (oev σ.Γ g)=some (gf,cs)) (hf:cI σ.H cs=some caps) (hv:bV σ.H cs=[]) (hseq:mM P gf caps xs) (h0:∃ρ,Wk σ (T 0) ρ)
    (hc:(bN N assign&&bN N body&&bQ P assign&&bQ P body&&gH assign&&gH body&&fR (λt=>!wl.contains t) assign&&fR (λt=>!wl.contains t) body&&ps.toList.all λp=>decide (p<N)&&wl.contains p)=true)
    (hne:0<xs.length)
    (hr0:∀k x,k+1<xs.length->xs[k]? = some x->x.length=ps.size/\AWP P assign ⟨aDt (ps.toList.zip x) (T k).Γ,(T k).H,(T k).n⟩ λe σ1=>match e with
      |.normal=>AWP P body σ1 λe σ2=>match e with|.normal=>bVj wl (T (k+1)) σ2 .mk|_=>False
      |_=>False)
    (hr1:∀k x,k+1=xs.length->xs[k]? = some x->x.length=ps.size/\AWP P assign ⟨aDt (ps.toList.zip x) (T k).Γ,(T k).H,(T k).n⟩ λe σ1=>match e with
      |.normal=>AWP P body σ1 λe σ2=>e=E/\bVj wl (T (k+1)) σ2 .mk
      |_=>False)
    (hq:Q E (T xs.length)):nP P N (.rangeFunc g ps assign body) σ Q :=
  aTe xs T wl E jc hE hg hf hseq (by rw[hv];exact h0) hc hne hr0 hr1 hq
end Go.Am
end
section
open List renaming map_map->C,mapM_map->L
namespace Go.Am
open Go.Conc
open Go.ConcN (sumTo sumTo_upd)
def dE(S:Nat->Prop):Loc->Prop
  |.cell a=>S a.block
  |_=>False
def dF(P:Program)(Post:Value->World->Prop)(m:Machine)(t:Trace):Prop :=
  ∃N last o w' t',runNT P (N+1) m t=(.ended o w',t')/\runN P N m=.next last/\step P last=.ended o w'/\Conc.Good P Post last o w' t'
def dF.step{P:Program}{Post:Value->World->Prop}{m m':Machine}{t:Trace}{ops:Trace}(h:stepT P m=(.next m',ops))(hg:dF P Post m' (t++ops)):dF P Post m t:=by obtain⟨N,last,o,w',t',h1,h2,h3,h4⟩:=hg;exact⟨N+1,last,o,w',t',by rw[runNT_succ_next h];exact h1,by rw[runN_succ_next h];exact h2,h3,h4⟩
def stO:Obj->Bool
  |C9 c _ f=>f==(0,c.size)
  |o=>!okO o
def Kp(W0 v w:World):Prop:=∀(b:Nat) (o:Obj),W0.heap[b]? = some o->stO o=true->w.heap[b]? = some o/\∃(c:Array Value) (t:TypeId),v.heap[b]? = some (C9 c t (0,c.size))
def Kp.step{W0 v w v' w':World}(h:Kp W0 v w)(hx:Ext v v')(hr:xO v w w'):Kp W0 v' w':=λb o hb ho=>by obtain⟨h1,c,t,h2⟩:=h b o hb ho;refine⟨(hr b c t h2).trans h1,?_⟩;obtain⟨c',g1,_,g3⟩:=hx.cells b c t _ h2;have:=g3 rfl;subst this;exact⟨c',t,g1⟩
def Kp.congr{W0 v w v' w':World}(h:Kp W0 v w)(hv:v'.heap=v.heap)(hw:w'.heap=w.heap):Kp W0 v' w':=λb o hb ho=>by rw[hv,hw];exact h b o hb ho
structure aJz(Sh:Loc->Prop)(N:Nat)(t:Trace):Prop where
  quiet:Quiet Sh t
  mem:∀i a,touchAt t i=some a->a.loc.isMemory=true
  num:∀(i:Nat) (op:MemOp),t[i]? = some op->op.g<N
def aJz.app{Sh:Loc->Prop}{N:Nat}{t u:Trace}(h:aJz Sh N t)(hq:∀op∈u,∀x,op.act.touch? = some x->Sh x.loc->x.kind≠.plain/\(x.kind=.said->op.g=0))(hm:∀op∈u,∀x,op.act.touch? = some x->x.loc.isMemory=true)(hn:∀op∈u,op.g<N):aJz Sh N (t++u):=by
  refine⟨h.quiet.app hq,λi a ha=>?_,λi op hi=>?_⟩
  · obtain⟨x,hx,hxa⟩:=touch_of ha
    rcases getElem?_append_cases hx with ⟨_,hx'⟩|⟨_,hxu⟩
    · exact h.mem i a (by rw[touchAt_of hx'];exact hxa)
    · exact hm x hxu a hxa
  · rcases getElem?_append_cases hi with ⟨_,hi'⟩|⟨_,hiu⟩
    · exact h.num i op hi'
    · exact hn op hiu
def aJz.mute{Sh:Loc->Prop}{N:Nat}{t:Trace}(h:aJz Sh N t){g:Nat}(hg:g<N){fn:FuncId}{pos:String}{es:Array Event}(hm:∀e∈es,e.mute=true):aJz Sh N (t++BS g fn pos es):=by
  refine h.app (λop hop x hx=>?_) (λop hop x hx=>?_) (λop hop=>?_)<;>obtain⟨e,he,rfl⟩:=BH hop
  · rw[touch_mute (hm e he)]at hx;cases hx
  · rw[touch_mute (hm e he)]at hx;cases hx
  · exact hg
def dX(P:Program)(W0:World)(Post:Value->World->Prop)(g:Goroutine)(v:World):Prop :=
  ∀v1,Env v v1->OkV v1->∀(S:Nat->Prop) (gs:Array Goroutine) (w:World) (sl:Option (Nat×Nat)) (t:Trace) (q:Nat->Nat),(∀b,S b->v1.heap[b]? = some hole)->Sim v1 w->gs[0]? = some g->Leavers P t gs q->Past (dE S) w.heap.size t->aJz (dE S) gs.size t->Kp W0 v1 w ->
    dF P Post (crowd gs w sl) t
def oK{v:World}{S:Nat->Prop}{B:Nat}(hS:∀b,S b->v.heap[b]? = some hole)(hB:v.heap.size<=B){e:Event}(h:EvV v e):EvL (dE S) B e:=by
  obtain⟨loc,wr,sy⟩:=e;rcases h with ⟨a,c,t,f,h1,h2,h3,h4,h5⟩|⟨r,o,h1,h2,h3,h4,h5⟩|h
  · simp only at h1 h2;subst h1;subst h2
    have hlt:=bF h3
    refine evL_cell a wr (λhs=>?_) (by omega)
    have:=hS a.block hs
    rw[h3]at this;injection this with this;injection this with e1 _ _;subst e1;simp at h4
  · simp only at h1 h2;subst h1;subst h2
    have hlt:=bF h3
    refine⟨λx hx hs=>?_,by simp,by simp,?_⟩
    · simp[Be,BE]at hx
      subst hx;exact hs.elim
    · have:r<B:=by omega
      simpa[Be,MemAct.low,Loc.low]using this
  · injection h with e1 e2 e3;subst e1;subst e2;subst e3
    exact⟨λx hx=>by simp[Be,BE]at hx,by simp,by simp,trivial⟩
def bIm{v v':World}{b:Nat}(h:Ext v v')(hb:v.heap[b]? = some hole):v'.heap[b]? = some hole:=by obtain⟨c',h1,h2,h3⟩:=h.cells b #[] 0 (0,0) hb;have:=h3 rfl;subst this;exact h1
def aJh{v:World}{e:Event}(h:EvV v e){x:Touch}(hx:(Be e).touch? = some x):x.loc.isMemory=true/\x.kind≠.said:=by
  obtain⟨loc,wr,sy⟩:=e;rcases h with ⟨a,c,t,f,h1,h2,_⟩|⟨r,o,h1,h2,_⟩|h
  · simp only at h1 h2;subst h1;subst h2
    simp[Be,BE]at hx;subst hx;exact⟨rfl,by simp⟩
  · simp only at h1 h2;subst h1;subst h2
    simp[Be,BE]at hx;subst hx;exact⟨rfl,by simp⟩
  · injection h with e1 e2 e3;subst e1;subst e2;subst e3
    simp[Be,BE]at hx
section
variable {P:Program} {W0:World} {Post:Value->World->Prop}
def aBj{g : Goroutine}{v : World}(hrun : g.status = .running) (hstep : ∀v1 w, Env v v1 -> OkV v1 -> Sim v1 w -> Kp W0 v1 w ->
      (∃g' w' es,stepG P true g w=.go g' w' es/\∀(S:Nat->Prop) (gs:Array Goroutine) (sl:Option (Nat×Nat)) (t:Trace) (q:Nat->Nat),(∀b,S b->v1.heap[b]? = some hole)->gs[0]? = some g'->Leavers P (t++BS 0 g.frame.fn g.frame.place es) gs q ->
        Past (dE S) w.heap.size t->aJz (dE S) gs.size t->dF P Post (crowd gs w' sl) (t++BS 0 g.frame.fn g.frame.place es)) \/
      ∃x w' es,stepG P true g w=.ended (.done x) w' es/\(∀e∈es,EvV v1 e)/\Post x w'):dX P W0 Post g v:=by
  have key:∀ (M:Nat) (v1:World),Env v v1->OkV v1->∀ (S:Nat->Prop) (gs:Array Goroutine) (w:World) (sl:Option (Nat × Nat)) (t:Trace) (q:Nat->Nat),sumTo gs.size q<=M->(∀b,S b->v1.heap[b]? = some hole)->Sim v1 w->gs[0]? = some g->Leavers P t gs q->Past (dE S) w.heap.size t->aJz (dE S) gs.size t->Kp W0 v1 w ->
      dF P Post (crowd gs w sl) t:=by
    intro M
    induction M with
    | zero|succ M ih =>
      intro v1 he hok S gs w sl t q hM hS hsim h0 hL hP hTd hKp
      have haw:∀g∈gs,awake g:=by
        intro g1 hg;obtain⟨i,hi,rfl⟩:=Array.mem_iff_getElem.1 hg;rcases A7 i with rfl|hpos
        · have:gs[0]=g:=by simpa[Al hi]using h0
          rw[this];exact awake_of (.inl hrun)
        · exact awake_of ((hL.old i _ hpos (Al hi)).status.elim .inl λx=>.inr (.inr x))
      obtain⟨i,g1,d,sl',hi,hg,hst⟩:=crowd_pick (P:=P) (w:=w) (sl:=sl) haw ⟨0,g,h0,hrun⟩
      have hed:Env v1 { v1 with drawn:=d }:=⟨rfl,rfl,rfl,0,by simp⟩
      have hokd:OkV { v1 with drawn:=d }:=hok.congr rfl
      have hsimd:Sim { v1 with drawn:=d } (w.at d):=⟨hsim.tape,rfl,hsim.os,hsim.output,hsim.size,hsim.blk⟩
      rcases A7 i with rfl|hpos
      · obtain rfl:g1=g:=by rw[h0]at hi;exact(Bm hi).symm
        rcases hstep _ (w.at d) (he.trans hed) hokd hsimd (hKp.congr rfl rfl)with ⟨g',w',es,hgo,hwin⟩|⟨x,w'',es,hend,hev,hpost⟩
        · have hrunT:=runT_crowd_go (P:=P) (sl:=sl') (i:=0) hi (show stepG P (0==0) g1 (w.at d)=_ from hgo)
          have hlt:0<gs.size:=(AX.1 h0).1
          refine dF.step (hst.trans hrunT) (hwin S _ sl' t q hS (by simp[hlt]) ⟨λj x hj hx=>?_,λj hj=>?_⟩ hP (by simpa using hTd))
          · have hne:0≠j:=by omega
            rw[AF hne,BU]at hx
            obtain⟨y,hy,rfl⟩:=Af.1 hx
            have hq:=hL.old j y hj hy
            rw[woken_quitsD hq,Deaf_other t (by omega) _ (λop hop=>by obtain⟨e,_,rfl⟩:=BH hop;rfl)]
            exact hq
          · rw[Deaf_other t (g':=0) (by simp at hj;omega) _ (λop hop=>by obtain⟨e,_,rfl⟩:=BH hop;rfl)]
            exact hL.above j (by simpa using hj)
        · have hrunT:=runT_many_ended (P:=P) (sl:=sl') (i:=0) hi (show stepG P (0==0) g1 (w.at d)=_ from hend)
          have hsz0:v1.heap.size=w.heap.size:=hsim.size
          have hP':=hP.own (fn:=g1.frame.fn) (pos:=g1.frame.place) (es:=es) λe hx=>oK (v:={ v1 with drawn:=d }) hS (by simp only;omega) (hev e hx)
          have hsT:=hst.trans hrunT
          refine⟨0,_,_,_,_,?_,rfl,?_,x,rfl,hpost,hP'.clean,hP'.over,⟨λy hy=>?_,rfl⟩,λj y hy hj=>?_⟩
          · simp[runNT,hsT]
          · simp[Go.step,hsT]
          · obtain⟨j,hj⟩:=List.mem_iff_getElem?.1 hy
            rw[List.getElem?_drop]at hj
            exact⟨_,(hL.old (1+j) y (by omega) (by simpa[crowd]using hj)).leaves⟩
          · have hq:=hL.old j y (by omega) hy
            refine⟨q j,?_⟩
            have e:(t++BS 0 g1.frame.fn g1.frame.place es).deaf j (t++BS 0 g1.frame.fn g1.frame.place es).size=Deaf t j :=
              Deaf_other t (g:=j) (g':=0) (by omega) _ (λop hop=>by obtain⟨e,_,rfl⟩:=BH hop;rfl)
            rw[e]
            exact hq.hears _
      · have hq:=hL.old i g1 hpos hi
        have hi0:(i==0)=false:=by simp;omega
        have hlt:i<gs.size:=(AX.1 hi).1
        cases hqi:q i with
        |zero=>rw[hqi]at hq;rw[hq.1]at hg;cases hg
        | succ k =>
          rw[hqi]at hq
          rcases hq with ⟨hf,_⟩|⟨_,g',es,hm,hstp,hq'⟩
          · rw[hf]at hg;cases hg
          have hrunT:=runT_crowd_go (P:=P) (sl:=sl') (i:=i) hi (by rw[hi0];exact hstp (w.at d))
          have hsz:((gs.map (woken P g1 g' (w.at d))).setIfInBounds i g').size=gs.size:=by simp
          have hsum:sumTo gs.size (Bd q i k)+(k+1)=sumTo gs.size q+k:=by have:=sumTo_upd q k id hlt;simpa[hqi]using this
          first
          |exact absurd hM (by omega)
          | refine dF.step (hst.trans hrunT) (ih _ (he.trans hed) hokd S _ (w.at d) sl' _ (Bd q i k) (by rw[hsz];omega) hS hsimd ?_ ⟨λj x hj hx=>?_,λj hj=>?_⟩ (hP.mute (by omega) hm) (by rw[hsz];exact hTd.mute hlt hm) (hKp.congr rfl rfl))
            · have hne:i≠0:=by omega
              rw[AF hne,BU,h0]
              simp[woken_run hrun]
            · by_cases hji:i=j
              · subst hji
                rw[BT (by simpa using hlt)]at hx
                obtain rfl:=Bm hx
                rw[ConcN.upd_same,Deaf_own]
                exact hq'
              · rw[AF hji,BU]at hx
                obtain⟨y,hy,rfl⟩:=Af.1 hx
                have hqj:=hL.old j y hj hy
                rw[woken_quitsD hqj,ConcN.upd_ne q k (Ne.symm hji),Deaf_other t hji _ (λop hop=>by obtain⟨e,_,rfl⟩:=BH hop;rfl)]
                exact hqj
            · rw[Deaf_other t (g':=i) (by simp at hj;omega) _ (λop hop=>by obtain⟨e,_,rfl⟩:=BH hop;rfl)]
              exact hL.above j (by simpa using hj)
  intro v1 he hok S gs w sl t q hS hsim h0 hL hP hTd hKp
  exact key _ v1 he hok S gs w sl t q (Ay _) hS hsim h0 hL hP hTd hKp
def aFr{g : Goroutine}{v : World}(hrun : g.status = .running) (hstep : ∀v1 w, Env v v1 -> OkV v1 -> Sim v1 w -> Kp W0 v1 w ->
      (∃g' v' w' es,stepG P true g w=.go g' w' es/\xN v1 w v' w' es/\dX P W0 Post g' v')\/∃x w' es,stepG P true g w=.ended (.done x) w' es/\(∀e∈es,EvV v1 e)/\Post x w'):dX P W0 Post g v:=by
  refine aBj hrun λv1 w he hok hsim hKp=>?_
  rcases hstep v1 w he hok hsim hKp with ⟨g',v',w',es,hgo,hso,hwin⟩|h
  · have hsz:v'.heap.size=w'.heap.size:=hso.sim.size
    have hsz0:v1.heap.size=w.heap.size:=hsim.size
    have hge:v1.heap.size<=v'.heap.size:=hso.ext.size
    refine .inl ⟨g',w',es,hgo,λS gs sl t q hS h0 hL hP hTd=>?_⟩
    have hS':∀b,S b->v'.heap[b]? = some hole:=λb hb=>bIm hso.ext (hS b hb)
    have hlt:0<gs.size:=(AX.1 h0).1
    refine hwin v' (.refl _) hso.ok S gs w' sl _ q hS' hso.sim h0 hL ?_ ?_ (hKp.step hso.ext hso.rest)
    · exact(hP.mono (by omega)).own λe hx=>oK hS' (by omega) (hso.evs e hx)
    · refine hTd.app (λop hop x hx hs=>?_) (λop hop x hx=>?_) (λop hop=>?_)<;>obtain⟨e,he',rfl⟩:=BH hop
      · exact⟨(oK (B:=w'.heap.size) hS' (by omega) (hso.evs e he')).1 x hx hs,λ_=>rfl⟩
      · exact(aJh (hso.evs e he') hx).1
      · exact hlt
  · exact .inr h
def aMz(W0:World)(Post:Value->World->Prop):aKd P true (dX P W0 Post) where
  env h he:=λv1 he1=>h v1 (he.trans he1)
  step hr hv h:=aFr hr λv1 w he _ hsim _=>by obtain⟨g',v',w',es,h1,h2,h3⟩:=h v1 w he hsim;exact .inl ⟨g',v',w',es,h1,h2,h3⟩
def xV(main:Bool):aKd P main (λ_ _=>False) where
  env h _:=h
  step hr hv h:=by obtain⟨_,_,_,_,_,_,h3⟩:=h _ _ (.refl _) (.refl _);exact h3
end
@[instance_reducible]def cE(P:Program):Mch P where
  main:=true
  Fam Win:=(∃W0 Post,Win=dX P W0 Post)\/Win=λ_ _=>False
  closed h:=by
    rcases h with ⟨W0,Post,rfl⟩|rfl
    · exact aMz W0 Post
    · exact xV true
  none:=.inr rfl
end Go.Am
end
section
open List renaming map_map->C,mapM_map->L
namespace Go.Am
open Go.Conc
open RowKit (Below)
def strike(W:World):World:={ W with heap:=W.heap.map λo=>if okO o then o else hole }
def jM(W:World)(b:Nat):(strike W).heap[b]? = (W.heap[b]?).map λo=>if okO o then o else hole:=by simp[strike]
def lY(W:World):(strike W).heap.size=W.heap.size:=by simp[strike]
def wG(W:World):OkV (strike W):=λb o hb=>by
  rw[jM]at hb;cases h:W.heap[b]? with
  |none=>rw[h]at hb;cases hb
  | some x =>
    rw[h]at hb;simp only[AU,Ax]at hb;subst hb;split
    · assumption
    · rfl
def aQa(W:World):Sim (strike W) W:=⟨rfl,rfl,rfl,rfl,lY W,λb o hb=>by
  rw[jM]at hb;cases h:W.heap[b]? with
  |none=>rw[h]at hb;cases hb
  | some x =>
    rw[h]at hb;simp only[AU,Ax]at hb;subst hb;by_cases hx:okO x=true
    · rw[Aq hx];exact .inr (.inl rfl)
    · rw[Ai hx];exact .inl rfl⟩
def aXf(W:World):Kp W (strike W) W:=λb o hb ho=>by
  refine⟨hb,?_⟩;rw[jM,hb,AU];by_cases hx:okO o=true
  · rw[Aq hx]
    cases o with
    |cells c t f=>simp only[stO,beq_iff_eq]at ho;exact⟨c,t,by rw[ho]⟩
    |_=>simp[stO,hx]at ho
  · rw[Ai hx];exact⟨#[],0,rfl⟩
def rX(W:World)(r:D)(x:Value)(w':World):Prop :=
  (∀b,b<W.heap.size->w'.heap[b]? = W.heap[b]?)/\w'.os=W.os/\w'.tape=W.tape/\w'.output=W.output/\W.heap.size<=w'.heap.size/\∃v':World,VD (λb=>b<v'.heap.size) v' r x
def aSh{W v' w':World}{r:D}{x:Value}(hs:Sim v' w')(hk:Kp W v' w')(hb:Below (strike W).heap.size (strike W) v')(hv:VD (λb=>b<v'.heap.size) v' r x):rX W r x w':=by
  refine⟨λb hlt=>?_,?_,?_,?_,?_,v',hv⟩
  · obtain⟨o,ho⟩:∃o,W.heap[b]? = some o:=⟨_,Al hlt⟩
    by_cases hst:stO o=true
    · rw[(hk b o ho hst).1,ho]
    · have hbl:=hb.block b (by rw[lY];exact hlt)
      have hok:okO o=true:=by cases o<;>simp[stO]at hst<;>first|rfl|exact hst
      rw[jM,ho,AU,Aq hok]at hbl
      rcases hs.blk b o hbl with e|e|⟨c,t,_,e,_⟩
      · subst e;exact absurd rfl hst
      · rw[e,ho]
      · subst e;exact absurd (by simp[stO]) hst
  · rw[<-hs.os];exact hb.os
  · rw[<-hs.tape];exact hb.tape
  · rw[<-hs.output];exact hb.output
  · have:=hb.size;rw[lY]at this;rw[<-hs.size];exact this
def aQd{P:Program}{b:Frame}{a:Act}{fn:Func}{todo:List Item}{x:Value}{w w':World}{es:Array Event}(hn:b.kind=.normal)(hi:P.inits.idxOf? b.fn=none)(hd:a.defers=[])(hf:P.funcs[b.fn]? = some fn)(hr:(results fn a.tmps).runT P w #[]=(.ok x w',es)) :
    stepG P true (G { b.at a todo with mode:=.returning } []) w=.ended (.done x) w' (seen P b.fn es):=by
  simp only[G,stepG,unwind,Frame.at,hd,hf,hr,doReturn,Cw,hn,hi]
  simp
section
variable {P:Program}
def aQq{f:FuncId}{fn:Func}{c:Code}{args:Array Value}{W:World}{r:D}(hf:P.funcs[f]? = some fn)(hb:fn.body=some c)(hi:P.inits.idxOf? f=none)
    (h:letI:=cE P;WC P c (aWd P fn λx v'=>Below (strike W).heap.size (strike W) v'/\VD (λb=>b<v'.heap.size) v' r x) { tmps:=args++AY (fn.ntmps-args.size) undef,defers:=[] } (strike W)) :
    dF P (rX W r) (solo (G (C5 P f args .normal) []) W) #[]:=by
  letI:=cE P
  have hW:(cE P).Fam (dX P W (rX W r)):=.inl ⟨W,_,rfl⟩
  have hwin:dX P W (rX W r) (G (C5 P f args .normal) []) (strike W):=by
    rw[enter_at args hf hb];have back:∀(a':Act) (v':World) (todo:List Item),aWd P fn (λx v'=>Below (strike W).heap.size (strike W) v'/\VD (λb=>b<v'.heap.size) v' r x) .ret a' v'->dX P W (rX W r) (G { (base f).at a' todo with mode:=.returning } []) v':=by
      intro a' v' todo hq;obtain⟨hd,hr⟩:=hq;refine aFr rfl λv1 w he hok hsim hk=>.inr ?_
      obtain⟨x,hx,hb1,hb2⟩:=hr v1 he;obtain⟨w',es',h1,h2,h3,h4,h5,h6⟩:=fG _ v1 w #[] x v1 hok hsim hx;have hK':Kp W v1 w':=hk.step h4 h5;exact⟨x,w',_,aQd rfl hi hd hf h1,λe he'=>h6 e (by have:=mem_seen he';simpa using this),aSh h2 hK' hb1 hb2⟩
    refine h _ hW (wG W) (base f) [] [] (.inl rfl) λe a' v' hv' hq=>?_
    cases e with
    | normal =>
      refine aM hW rfl hv' (λw=>stepG_end) ?_;exact back a' v' [] hq
    |ret=>exact λtodo=>back a' v' todo hq
    |exit id=>exact hq.elim
    |goto l=>exact hq.elim
    |panic ch=>exact hq.elim
    |outgrown=>exact hq.elim
  refine hwin _ (.refl _) (wG W) (λ_=>False) #[G (C5 P f args .normal) []] W none #[] (λ_=>0) (λb h=>h.elim) (aQa W) rfl (leavers_one P _) ?_ ?_ (aXf W)
  have h0:dE (λ_=>False)=λ_=>False:=by funext l;cases l<;>rfl
  · rw[h0]
    exact past_nil.mono (Nat.zero_le _)
  · exact⟨λi op x hi=>by simp at hi,λi a ha=>by simp[touchAt,Trace.act?]at ha,λi op hi=>by simp at hi⟩
end
end Go.Am
end
section
open List renaming map_map->C,mapM_map->L
namespace Go.Am
open RowKit (Below)
def Wal(P:Program)[M:Mch P](c:Code)(σ:St)(Q:Exit->St->Prop):Prop :=
 ∀(G:Ctx) (N:Nat) (ds:List Deferred) (a:Act) (w:World),P.follows .mixedOrders=true->(∀d,G.Z d=none)->bN N c=true->SR G N ds σ a w->WC P c (λe a' w'=>∃σ',Q e σ'/\SR G N ds σ' a' w') a w
section
variable {P:Program} [M:Mch P] {σ:St} {Q:Exit->St->Prop} {x y c:Code}
def yZ(hl:bQ P c=true)(h:AWP P c σ Q):Wal P c σ Q:=λG N ds a w hm hZ hd hs=>cJ hm hZ c Q σ a w hd hl h hs
def aHd(h:Wal P x σ λe σ'=>match e with|.normal=>Wal P y σ' Q|e=>Q e σ'):Wal P (.seq x y) σ Q:=λG N ds a w hm hZ hd hs=>by
 simp only[bN,A8]at hd;refine eJ (cC (h G N ds a w hm hZ hd.1 hs) ?_);rintro e a' w' ⟨σ',hq,hs'⟩;cases e with
 |normal=>exact hq G N ds a' w' hm hZ hd.2 hs'
 |_=>exact⟨σ',hq,hs'⟩
def lB(hl:bQ P x=true)(h:AWP P x σ λe σ'=>match e with|.normal=>Wal P y σ' Q|e=>Q e σ'):Wal P (.seq x y) σ Q:=aHd (yZ hl h)
def aEp{id:Nat}(h:Wal P c σ λe σ'=>match e with|.exit id'=>if id'=id then Q .normal σ' else Q (.exit id') σ'|e=>Q e σ'):Wal P (.block id c) σ Q:=λG N ds a w hm hZ hd hs=>by
 refine(WpR.plain P).block (cC (h G N ds a w hm hZ hd hs) ?_);rintro e a' w' ⟨σ',hq,hs'⟩;cases e with
 | exit id' =>
  simp only[DQ]at hq ⊢;split at hq
  ·rename_i he;rw[Aq he];exact⟨σ',hq,hs'⟩
  ·rename_i he;rw[Ai he];exact⟨σ',hq,hs'⟩
 |_=>exact⟨σ',hq,hs'⟩
def bCn{τ:Type}(Good:τ->Prop)(S:τ->St)(m:τ->Nat)(x0:τ)(h0:Good x0)(hk:∃ρ,Wk σ (S x0) ρ)
  (h:∀x,Good x->Wal P c (S x) λe σ'=>match e with|.normal=>∃y,Good y/\m y<m x/\∃ρ,Wk σ' (S y) ρ|e=>Q e σ'):Wal P (.loop c) σ Q:=λG N ds a w hm hZ hd hs=>by
 refine(WpR.plain P).loop (λn a w=>∃x,Good x/\m x=n/\SR G N ds (S x) a w) ⟨m x0,x0,h0,rfl,lU (.inr hk) hs⟩ ?_
 rintro n a w ⟨x,hg,rfl,hsx⟩
 refine cC (h x hg G N ds a w hm hZ hd hsx) ?_
 rintro e a' w' ⟨σ',hq,hs'⟩
 cases e with
 | normal =>
  obtain⟨y,hgy,hlt,hk⟩:=hq
  exact⟨m y,hlt,y,hgy,rfl,lU (.inr hk) hs'⟩
 |_=>exact⟨σ',hq,hs'⟩
def bCm{id:Nat}{l:List Oper}(hno:fQ l=true)(h:OAd P l.toArray (Q .normal) l.length (AY l.length false) σ .mk):Wal P (.region id l.toArray true) σ Q:=λG N ds a w hm hZ hd hs =>
 (WpR.plain P).regA hm (λe=>by cases e) λd=>wA (Q:=Q .normal) (N:=N) (ds:=ds) (G:=G) (by simpa using hno) (λi o d hi hd'=>⟨qD hd i o d hi hd',hZ d⟩) (λσ' a' w' hq hs'=>⟨σ',hq,hs'⟩) _ _ σ _ _ (hs.env ⟨rfl,rfl,rfl,0,by simp⟩) h
def bCl{σ2:St}(hk:∃ρ,Wk σ σ2 ρ)(h:Wal P c σ2 Q):Wal P c σ Q:=λG N ds a w hm hZ hd hs=>h G N ds a w hm hZ hd (lU (.inr hk) hs)
def bDs {f N:Nat} {fn:Func} {args:List D} {r:D} (hm:P.follows .mixedOrders=true) (hf:P.funcs[f]? = some fn) (hb:fn.body=some c) (hname:(fn.name == "runtime.NumGoroutine")=false) (hN:fn.ntmps=N)
  (hd:bN N c=true) (ha:args.length<=N) (h:Wal P c (St0 args N) λe σ=>(e=.normal\/e=.ret)/\jA P fn.results.toList σ=some r):Spec P f args r:=by
 intro A W vs hA hl hv
 have hn:¬ fn.name = "runtime.NumGoroutine" := by simpa using hname
 refine⟨λw=>by simp[callFunc,hf,hn,hb],?_⟩
 refine gF hf hb ?_
 subst hN
 refine(WpR.plain P).okv λhok=>cC (h _ _ _ _ _ hm (λ_=>rfl) hd (SR0 hok hA hl hv ha)) ?_
 rintro e a w ⟨σ,⟨he,hr⟩,hs⟩
 have hend:a.defers=[]/\∀v1,Env w v1->∃x,aK P (results fn a.tmps) v1=.ok x v1/\Below W.heap.size W v1/\VD (λb=>A b\/(W.heap.size<=b/\b<v1.heap.size)) v1 r x:=by
  refine⟨hs.2.2.2.elim λ_ h=>h.elim λ_ h=>h.2.2.2.2.1,λv1 he=>?_⟩;have hs1:=hs.env he;obtain⟨v,hrun,hvd⟩:=eB hs1 hr;obtain⟨_,_,_,F,ι,hR,_,_,_,hdf,_⟩:=hs1;refine⟨v,hrun,⟨hR.kept.os,hR.kept.tape,hR.kept.output,hR.kept.size,λk hk=>hR.kept.block k hk (λh=>h)⟩,hvd.mono ?_⟩;rintro b (h|h|h)
  ·exact .inl h
  ·exact h.elim
  ·exact .inr h
 rcases he with rfl|rfl<;>exact hend
end
end Go.Am
end
