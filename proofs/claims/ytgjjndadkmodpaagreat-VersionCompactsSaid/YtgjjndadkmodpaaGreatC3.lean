/- Numbers to the base 2^32 as lists of limbs: values, canonical lists, sums, differences, products: plain arithmetic, no program in sight. No condition. -/
import Derived.Test.YtgjjndadkmodpaaGreatC2
import Derived.Scope
import Derived.Defers
set_option linter.all false
open Array renaming all_eq_true_iff_forall_mem->BZ,getD_eq_getD_getElem?->Bj,getElem?_append_left->BJ,getElem?_append_right->EG,getElem?_eq_getElem->AD,getElem?_replicate->Ct,length_toList->BS,mapM_eq_mapM_toList->D3,mem_of_getElem?->C2,replicate->BI
open Bool renaming and_eq_true->AO,false_eq_true->A0,not_eq_true'->Co
open Go.Ending renaming returned->DM
open Go.Instr renaming loadAt->EP,sureAddr->CF
open Go.IntKind renaming bits->Di,i64->Ag,signed->DU,u32->Cr,u64->A1,wrap->Ew
open Go.Region renaming wanted->EC
open Go.Result renaming andThen_ok->AX
open Go.Sem renaming run_bind->A3,run_pure->Bz
open Go.Value renaming cells->Em,oneCell'->CE
open Iff renaming rfl->Fy
open List renaming all_eq_true->Ay,cons_append->BP,ext_getElem?->DH,flatten_cons->BF,getD_eq_getElem?_getD->Af,getElem?_eq_getElem->Ab,getElem?_eq_none->AW,getElem?_map->Aw,getElem_mem->Ar,getLast?_cons_cons->Gu,length_cons->AH,length_take->Ax,mapM_cons->Ca,mapM_nil->Gn,map_cons->AZ,mem_cons->AG,mem_cons_of_mem->Au,mem_cons_self->Av,nodup_cons->DK,replicate->AB,replicate_succ->DO,take_append_drop->CM,take_of_length_le->Ai
open Nat renaming le_refl->Ap,lt_or_ge->Bf,lt_succ_self->AK,min_eq_left->BR,mul_add->Cq,mul_one->DE,pow_succ->Cp
open Option renaming bind_eq_bind->CY,bind_eq_some_iff->Ae,map_eq_some_iff->Aj,pure_def->DI
open Option.some renaming injEq->AU
open Prod.mk renaming injEq->ED
open _root_ renaming decide_eq_true_eq->AI,if_false->B2,if_neg->Ac,if_pos->Ad,if_true->B1
section
open List renaming map_map->C,mapM_map->K
namespace Go.Am
open RowKit (Below)
def WkR(σ σ':St):Prop:=σ=σ'\/∃ρ,Wk σ σ' ρ
def AWP(P:Program):Code->St->(Exit->St->Prop)->Prop
 |.skip,σ,Q=>Q .normal σ
 |.region _ ops _,σ,Q=>OW P ops ops.toList σ [] λσ' con=>Q .normal (fin σ' con)
 |.seq x y,σ,Q=>AWP P x σ λe σ'=>match e with|.normal=>AWP P y σ' Q|e=>Q e σ'
 |.cond c x y,σ,Q=>match oev σ.J c with|.d (.b t)=>if t then AWP P x σ Q else AWP P y σ Q|.ub=>AWP P x σ Q/\AWP P y σ Q|_=>False
 |.block id c,σ,Q=>AWP P c σ λe σ'=>match e with|.exit id'=>if id'=id then Q .normal σ' else Q (.exit id') σ'|e=>Q e σ'
 |.loop c,σ,Q=>∃(τ:Type) (S:τ->St) (m:τ->Nat) (x0:τ),WkR σ (S x0)/\∀x,AWP P c (S x) λe σ'=>match e with|.normal=>∃y,m y<m x/\WkR σ' (S y)|e=>∃σ2,WkR σ' σ2/\Q e σ2
 |.exit id,σ,Q=>Q (.exit id) σ
 |.ret,σ,Q=>Q .ret σ
 |.label _,σ,Q=>Q .normal σ
 |.scope c,σ,Q=>AWP P c σ λe σ'=>match e with|.goto _=>False|e=>Q e σ'
 |_,_,_=>False
def aVd(N:Nat)(ops:Array Oper):Bool:=ops.all λo=>match o.dst with|some d=>decide (d<N)|none=>true
def dK(N:Nat):Code->Bool
 |.region _ ops _=>aVd N ops
 |.seq x y|.cond _ x y=>dK N x&&dK N y
 |.block _ c|.loop c|.scope c=>dK N c
 |_=>true
def bIg(z:Nat->Bool)(ops:Array Oper):Bool:=ops.all λo=>match o.dst with|some d=>!z d|none=>true
def oI(z:Nat->Bool):Code->Bool
 |.region _ ops _=>bIg z ops
 |.seq x y|.cond _ x y=>oI z x&&oI z y
 |.block _ c|.loop c|.scope c=>oI z c
 |_=>true
def aQr(ops:Array Oper):bIg (λ_=>false) ops=true:=by
 refine BZ.2 λo _=>?_
 cases o.dst<;>rfl
def zR(c:Code):oI (λ_=>false) c=true:=by
 induction c with
 |region id ops d=>exact aQr ops
 |seq x y ihx ihy=>simp[oI,ihx,ihy]
 |cond c x y ihx ihy=>simp[oI,ihx,ihy]
 |block id c ih=>exact ih
 |loop c ih=>exact ih
 |scope c ih=>exact ih
 |_=>rfl
def eC(P:Program):Code->Bool
 |.region _ ops draw=>!draw||bJo P ops
 |.seq x y|.cond _ x y=>eC P x&&eC P y
 |.block _ c|.loop c|.scope c=>eC P c
 |_=>true
def qK{N:Nat}{ops:Array Oper}(h:aVd N ops=true):∀(i:Nat) (o:Oper) (d:Tmp),ops[i]? = some o->o.dst=some d->d<N:=by intro i o d hi hd;have:=BZ.1 h o (C2 hi);rw[hd]at this;simpa using this
def yO{N:Nat}{ops:Array Oper}{z:Nat->Bool}{G:Ctx}(hz:∀d v,G.Z d=some v->z d=true)(h:aVd N ops=true)(hnz:bIg z ops=true) :
  ∀(i:Nat) (o:Oper) (d:Tmp),ops[i]? = some o->o.dst=some d->d<N/\G.Z d=none:=by
 intro i o d hi hd
 refine⟨qK h i o d hi hd,?_⟩
 have:=BZ.1 hnz o (C2 hi)
 rw[hd]at this
 cases hZ:G.Z d with
 |none=>rfl
 |some v=>have h2:=hz d v hZ;simp[h2]at this
section
variable {P:Program} {G:Ctx} {N:Nat} {ds:List Deferred}
def pW{σ σ':St}{a:Act}{w:World}(hk:WkR σ σ')(h:SR G N ds σ a w):SR G N ds σ' a w:=by
 rcases hk with rfl|⟨ρ,hk⟩
 ·exact h
 ·exact aDy hk h
def bVg{f:FuncId}{args:Array Operand}{dst:Option Tmp}{σ:St}{con:List Nat}{k k':St->List Nat->Prop}(hk:∀σ con,k σ con->k' σ con)(h:OC P f args dst σ con k):OC P f args dst σ con k':=by
 unfold OC at h ⊢;split
 ·rename_i hm;rw[Ad hm]at h;split
  ·rename_i x rest hargs;simp only[hargs]at h;split
   ·rename_i id hh hx;simp only[hx]at h;split
    ·rename_i ho hH;simp only[hH]at h;rcases h with ⟨g,h1,h2,h3,h4⟩|⟨h1,h2,ds,ho',r,h3,h4,h5,h6,h7⟩|⟨p0,ν,h0,ro,hs,ds,ro',hs',r,p1,p2,p3,p4,p5,p6,p7,p8,p9,p10⟩|⟨h1,h2,ds,r,h3,h4,h5⟩
     ·exact .inl ⟨g,h1,h2,h3,hk _ _ h4⟩
     ·exact .inr (.inl ⟨h1,h2,ds,ho',r,h3,h4,h5,h6,hk _ _ h7⟩)
     ·exact .inr (.inr (.inl ⟨p0,ν,h0,ro,hs,ds,ro',hs',r,p1,p2,p3,p4,p5,p6,p7,p8,p9,hk _ _ p10⟩))
     ·exact .inr (.inr (.inr ⟨h1,h2,ds,r,h3,h4,hk _ _ h5⟩))
    ·rename_i hH;simp only[hH]at h
   ·rename_i hx;simp only[hx]at h;obtain⟨h1,ds,r,h3,h4,h5⟩:=h;exact⟨h1,ds,r,h3,h4,hk _ _ h5⟩
  ·rename_i hargs;simp only[hargs]at h
 ·rename_i hm;rw[Ac hm]at h;rcases h with ⟨h0,h1,v,hs,h2,h5⟩|h
  ·exact .inl ⟨h0,h1,v,hs,h2,hk _ _ h5⟩
  refine .inr ?_;split
  ·rename_i g id hargs;simp only[hargs]at h;split
   ·rename_i es hH;simp only[hH]at h;exact⟨h.1,h.2.1,h.2.2.1,hk _ _ h.2.2.2⟩
   ·rename_i hne;exfalso;split at h
    ·rename_i es hH;exact hne _ hH
    ·exact h
  ·rename_i hne;split at h
   ·rename_i g id hargs;exact(hne _ _ hargs).elim
   ·obtain⟨ds,r,h1,h2,h3⟩:=h;exact⟨ds,r,h1,h2,hk _ _ h3⟩
def bVh{o:Oper}{σ:St}{con:List Nat}{k k':St->List Nat->Prop}(hk:∀σ con,k σ con->k' σ con)(h:O1 P o σ con k):O1 P o σ con k':=by
 unfold O1 at h;unfold O1;split at h
 ·rename_i t x hop;split at h
  ·rename_i v hv;(try simp only[hv]);exact hk _ _ h
  ·exact h.elim
 ·rename_i t m x ok hop;split at h
  ·rename_i v hv;(try simp only[hv]);exact hk _ _ h
  ·exact h.elim
 ·rename_i x hop;split at h
  ·rename_i v hv;(try simp only[hv]);exact hk _ _ h
  ·exact h.elim
 ·rename_i x s hop;refine⟨h.1,?_⟩;have h:=h.2;split at h
  ·rename_i id kd es hv
   (try simp only[hv])
   exact⟨λe=>hk _ _ (h.1 e),λj e he=>hk _ _ (h.2 j e he)⟩
  ·exact h.elim
 ·rename_i t ad x hop;split at h
  ·rename_i id ho hv;(try simp only[hv]);exact hk _ _ h
  ·exact h.elim
 ·rename_i t m x v hop;split at h
  ·rename_i id ho hv;(try simp only[hv]);exact hk _ _ h
  ·exact h.elim
 ·rename_i t m x v hop;split at h
  ·rename_i id ho hv;(try simp only[hv]);exact hk _ _ h
  ·exact h.elim
 ·rename_i f args ts hop;exact bVg hk h
 ·rename_i t args ts hop;split at h
  ·rename_i f cs hc;obtain⟨ds,r,h1,h2,h3⟩:=h
   (try simp only[hc])
   exact⟨ds,r,h1,h2,hk _ _ h3⟩
  ·exact h.elim
 ·rename_i t name args ts hop;split at h
  ·rename_i ty d hc
   (try simp only[hc])
   split at h
   ·rename_i f hm;obtain⟨ds,r,h1,h2,h3⟩:=h
    (try simp only[hm])
    exact⟨ds,r,h1,h2,hk _ _ h3⟩
   ·exact h.elim
  ·exact h.elim
 ·rename_i args ts hop;split at h
  ·rename_i s x t t' h1 h2;obtain⟨e,h⟩:=h
   (try simp only[h1,h2])
   refine⟨e,?_⟩;split at h
   ·rename_i av nb cn hv;(try simp only[hv]);exact hk _ _ h
   ·exact h.elim
  ·exact h.elim
 ·rename_i args ts hop;split at h
  ·rename_i m x t kt h1 h2
   (try simp only[h1,h2])
   split at h
   ·rename_i id ho hv;(try simp only[hv]);exact hk _ _ h
   ·exact h.elim
  ·exact h.elim
 ·rename_i args ts hop;split
  ·rename_i hlm;rw[Ad hlm]at h;split at h
   ·rename_i m h1
    (try simp only[h1])
    split at h
    ·rename_i n hv;(try simp only[hv]);exact hk _ _ h
    ·exact h.elim
   ·exact h.elim
  ·rename_i hlm;rw[Ac hlm]at h;obtain⟨hkd,h⟩:=h;refine⟨hkd,?_⟩;split at h
   ·rename_i av nb hv;(try simp only[hv]);exact hk _ _ h
   ·exact h.elim
 ·rename_i h1 h2 h3 h4 h5 h6 h7 h8;obtain⟨hkd,h⟩:=h;refine⟨hkd,?_⟩;split at h
  ·rename_i av nb hv;(try simp only[hv]);exact hk _ _ h
  ·exact h.elim
def aNw{ops:Array Oper}{k k':St->List Nat->Prop}(hk:∀σ con,k σ con->k' σ con):∀(l:List Oper) (σ:St) (con:List Nat),OW P ops l σ con k->OW P ops l σ con k'
 |[],σ,con,h=>hk _ _ h
 |o::l,σ,con,h=>by
  unfold OW at h ⊢;split at h
  ·exact bVh (λσ con=>aNw hk l σ con) h
  ·exact aNw hk l _ _ h
  ·exact h.elim
def aHq:∀(c:Code) {Q Q':Exit->St->Prop} {σ:St},(∀e σ,Q e σ->Q' e σ)->AWP P c σ Q->AWP P c σ Q':=by
 intro c;induction c with
 |skip=>intro Q Q' σ hq h;exact hq _ _ h
 |region id ops draw=>intro Q Q' σ hq h;exact aNw (λσ con h=>hq _ _ h) _ _ _ h
 |seq x y ihx ihy =>
  intro Q Q' σ hq h;refine ihx (λe σ h=>?_) h;cases e with
  |normal=>exact ihy hq h
  |_=>exact hq _ _ h
 |cond c x y ihx ihy =>
  intro Q Q' σ hq h;unfold AWP at h ⊢;split
  ·rename_i t ht;simp only[ht]at h;cases t
   ·exact ihy hq h
   ·exact ihx hq h
  ·rename_i ht;simp only[ht]at h;exact⟨ihx hq h.1,ihy hq h.2⟩
  ·rename_i h1 h2;exfalso;split at h
   ·rename_i t ht;exact h1 _ ht
   ·rename_i ht;exact h2 ht
   ·exact h
 |block id c ih =>
  intro Q Q' σ hq h;refine ih (λe σ h=>?_) h;cases e with
  |exit id' =>
   simp only at h ⊢;split
   ·rename_i he;rw[Ad he]at h;exact hq _ _ h
   ·rename_i he;rw[Ac he]at h;exact hq _ _ h
  |_=>exact hq _ _ h
 |loop c ih =>
  intro Q Q' σ hq h;obtain⟨τ,S,m,x0,h0,h1⟩:=h;refine⟨τ,S,m,x0,h0,λx=>ih (λe σ h=>?_) (h1 x)⟩;cases e with
  |normal=>exact h
  |_=>exact let ⟨σ2,hw,h⟩:=h;⟨σ2,hw,hq _ _ h⟩
 |exit id=>intro Q Q' σ hq h;exact hq _ _ h
 |ret=>intro Q Q' σ hq h;exact hq _ _ h
 |label l=>intro Q Q' σ hq h;exact hq _ _ h
 |scope c ih =>
  intro Q Q' σ hq h;refine ih (λe σ h=>?_) h;cases e with
  |goto l=>exact h
  |_=>exact hq _ _ h
 |_=>intro Q Q' σ hq h;exact h.elim
def aHe{c:Code}{σ:St}{Q:Exit->St->Prop}{τ:Type}(S:τ->St)(m:τ->Nat)(x0:τ)(h0:WkR σ (S x0))
  (h:∀x,AWP P c (S x) λe σ'=>match e with|.normal=>∃y,m y<m x/\WkR σ' (S y)|e=>Q e σ'):AWP P (.loop c) σ Q :=
 ⟨τ,S,m,x0,h0,λx=>aHq c (λe σ h=>by
  cases e with
  |normal=>exact h
  |_=>exact⟨σ,.inl rfl,h⟩) (h x)⟩
def LU(P:Program)(c:Code):Nat->St->(Exit->St->Prop)->Prop
 |0,_,_=>False
 |n+1,σ,Q=>AWP P c σ λe σ'=>match e with|.normal=>LU P c n σ' Q|e=>Q e σ'
def bSj{c:Code}{Q:Exit->St->Prop}{n:Nat}{σ:St}(h:LU P c n σ Q):AWP P (.loop c) σ Q:=by
 refine⟨{ p:Nat×St // LU P c p.1 p.2 Q },λp=>p.1.2,λp=>p.1.1,⟨(n,σ),h⟩,.inl rfl,λx=>?_⟩;obtain⟨⟨n,σ⟩,hx⟩:=x;cases n with
 |zero=>exact hx.elim
 |succ n =>
  refine aHq c (λe σ h=>?_) hx;cases e with
  |normal=>exact⟨⟨(n,σ),h⟩,AK n,.inl rfl⟩
  |_=>exact⟨σ,.inl rfl,h⟩
def aXn{rd:Bool}{WW:Code->(Exit->Act->World->Prop)->Act->World->Prop}(hW:WpR P rd WW)(hm:P.follows .mixedOrders=true){z:Nat->Bool}(hz:∀d v,G.Z d=some v->z d=true) :
  ∀(c:Code) (Q:Exit->St->Prop) (σ:St) (a:Act) (w:World),dK N c=true->eC P c=true->oI z c=true->(rd=true->pU c=true)->AWP P c σ Q->SR G N ds σ a w ->
  WW c (λe a' w'=>∃σ',Q e σ'/\SR G N ds σ' a' w') a w:=by
 intro c
 induction c with
 |skip=>intro Q σ a w _ _ _ _ h hs;exact hW.skip ⟨σ,h,hs⟩
 |region id ops draw =>
  intro Q σ a w hd hl hnz hnd h hs
  exact yK hW (Q:=Q .normal) hm (yO hz hd hnz) hnd (λhdr=>by simpa[eC,hdr]using hl) hs h λσ' a' w' hq hs'=>⟨σ',hq,hs'⟩
 |seq x y ihx ihy =>
  intro Q σ a w hd hl hnz hnd h hs
  simp only[dK,eC,oI,pU,AO]at hd hl hnz hnd
  refine hW.seq (hW.mono (ihx _ σ a w hd.1 hl.1 hnz.1 (λe=>(hnd e).1) h hs) ?_)
  rintro e a' w' ⟨σ',hq,hs'⟩
  cases e with
  |normal=>exact ihy Q σ' a' w' hd.2 hl.2 hnz.2 (λe=>(hnd e).2) hq hs'
  |_=>exact⟨σ',hq,hs'⟩
 |cond c x y ihx ihy =>
  intro Q σ a w hd hl hnz hnd h hs
  simp only[dK,eC,oI,pU,AO]at hd hl hnz hnd
  unfold AWP at h
  split at h
  rotate_left
  ·rename_i ht
   have hc:∃t,a.eval c=.bool t:=by
    obtain⟨_,_,F,ι,_,_,hV,_⟩:=hs;have:=fD (J:=σ.J) (a:=a) (x:=c) (F:=F) (w:=w) (ι:=ι) λt _=>hV t
    rw[ht]at this;generalize a.eval c=v at this;cases this with|ub t=>exact⟨t,rfl⟩
   obtain⟨t,hc⟩:=hc
   refine hW.cond hc ?_
   cases t
   ·exact ihy Q σ a w hd.2 hl.2 hnz.2 (λe=>(hnd e).2) h.2 hs
   ·exact ihx Q σ a w hd.1 hl.1 hnz.1 (λe=>(hnd e).1) h.1 hs
  ·exact h.elim
  ·rename_i t ht
   have hc:a.eval c=.bool t:=by
    obtain⟨_,_,F,ι,_,_,hV,_⟩:=hs;have:=fD (J:=σ.J) (a:=a) (x:=c) (F:=F) (w:=w) (ι:=ι) λt _=>hV t
    rw[ht]at this;generalize a.eval c=v at this;cases this with|d _ _ h=>cases h;rfl
   refine hW.cond hc ?_
   cases t
   ·exact ihy Q σ a w hd.2 hl.2 hnz.2 (λe=>(hnd e).2) h hs
   ·exact ihx Q σ a w hd.1 hl.1 hnz.1 (λe=>(hnd e).1) h hs
 |block id c ih =>
  intro Q σ a w hd hl hnz hnd h hs
  refine hW.block (hW.mono (ih _ σ a w hd hl hnz hnd h hs) ?_)
  rintro e a' w' ⟨σ',hq,hs'⟩
  cases e with
  |exit id' =>
   simp only[Exit.inBlock]at hq ⊢
   split at hq
   ·rename_i he;rw[Ad he];exact⟨σ',hq,hs'⟩
   ·rename_i he;rw[Ac he];exact⟨σ',hq,hs'⟩
  |_=>exact⟨σ',hq,hs'⟩
 |loop c ih =>
  intro Q σ a w hd hl hnz hnd h hs
  obtain⟨τ,S,m,x0,hk,hround⟩:=h
  refine hW.loop (λn a w=>∃x,m x=n/\SR G N ds (S x) a w) ⟨m x0,x0,rfl,pW hk hs⟩ ?_
  rintro n a w ⟨x,rfl,hsx⟩
  refine hW.mono (ih _ (S x) a w hd hl hnz hnd (hround x) hsx) ?_
  rintro e a' w' ⟨σ',hq,hs'⟩
  cases e with
  |normal =>
   obtain⟨y,hlt,hk⟩:=hq
   exact⟨m y,hlt,y,rfl,pW hk hs'⟩
  |_=>exact let ⟨σ2,hw,hq⟩:=hq;⟨σ2,hq,pW hw hs'⟩
 |exit id=>intro Q σ a w _ _ _ _ h hs;exact hW.exit ⟨σ,h,hs⟩
 |ret=>intro Q σ a w _ _ _ _ h hs;exact hW.ret ⟨σ,h,hs⟩
 |label l=>intro Q σ a w _ _ _ _ h hs;exact hW.label ⟨σ,h,hs⟩
 |scope c ih =>
  intro Q σ a w hd hl hnz hnd h hs
  have hrd:rd=false:=by
   cases rd with
   |false=>rfl
   |true=>exact absurd (hnd rfl) (by simp[pU])
  refine hW.scope hrd (hW.mono (ih _ σ a w hd hl hnz (λe=>by rw[hrd]at e;cases e) h hs) ?_)
  rintro e a' w' ⟨σ',hq,hs'⟩
  cases e with
  |goto l=>exact hq.elim
  |_=>exact⟨σ',hq,hs'⟩
 |_=>intro Q σ a w _ _ _ _ h;exact h.elim
def iC(hm:P.follows .mixedOrders=true)(hZ:∀d,G.Z d=none)(c:Code)(Q:Exit->St->Prop)(σ:St)(a:Act)(w:World)(hd:dK N c=true)(hl:eC P c=true)(h:AWP P c σ Q)(hs:SR G N ds σ a w) :
  c.wp P (λe a' w'=>∃σ',Q e σ'/\SR G N ds σ' a' w') a w :=
 aXn (WpR.plain P) hm (z:=λ_=>false) (λd v e=>by rw[hZ]at e;cases e) c Q σ a w hd hl (zR c) (λe=>by cases e) h hs
def nS(P:Program)(σ:St):ResultVar->Option AV
 |.tmp t=>some (σ.J t)
 |.cell ad t=>zB P σ.H t (σ.J ad)
def mY(P:Program)(rs:List ResultVar)(σ:St):Option D :=
 (rs.mapM (nS P σ)).bind λavs=>(fW σ.H avs).map λl=>match l with|[x]=>x|l=>.tp l
def rY{fn:Func}{σ:St}{a:Act}{w:World}{r:D}{F:Nat->Prop}{ι:Nat->Option Nat}(hR:HR G F w ι bW σ.H)(hV:∀t,V F w ι (σ.J t) (a.tmps.getD t undef))(h:mY P fn.results.toList σ=some r) :
  ∃v,(results fn a.tmps).run P w=.ok v w/\VD (λb=>F b\/∃id,ι id=some b) w r v:=by
 obtain⟨avs,havs,h⟩:=Ae.1 h
 obtain⟨l,hl,rfl⟩:=Aj.1 h
 have hrun:∀(rs:List ResultVar) (avs:List AV),rs.mapM (nS P σ)=some avs->∃vs:List Value,(rs.mapM (m:=Sem) λ|.tmp t=>pure (a.tmps.getD t undef)|.cell ad t=>do loadVar t (<-asAddr (a.tmps.getD ad undef))).run P w=.ok vs w /\
   vs.length=avs.length/\∀(k:Nat) c v,avs[k]? = some c->vs[k]? = some v->V F w ι c v:=by
  intro rs
  induction rs with
  |nil=>intro avs h;simp at h;subst h;exact⟨[],by simp,rfl,λk c v h=>by simp at h⟩
  |cons x rs ih =>
   intro avs h
   simp only[Ca,CY,Ae,DI,AU]at h
   obtain⟨av,hav,avs',havs',rfl⟩:=h
   obtain⟨vs,h1,h2,h3⟩:=ih avs' havs'
   have hx:∃v,((match x with|.tmp t=>pure (a.tmps.getD t undef)|.cell ad t=>do loadVar t (<-asAddr (a.tmps.getD ad undef))):Sem Value).run P w=.ok v w/\V F w ι av v:=by
    cases x with
    |tmp t=>simp only[nS,AU]at hav;subst hav;exact⟨_,by simp,hV t⟩
    |cell ad t =>
     simp only[nS]at hav;obtain⟨u,hu,hv⟩:=aDl (P:=P) hR (λ_ _ h=>h) hav (hV ad);refine⟨u,?_,hv⟩;show(do loadVar t (<-asAddr (a.tmps.getD ad undef)):Sem Value).run P w=_;simp only[EP]at hu;generalize a.tmps.getD ad undef=p at hu ⊢;cases p with
     |pointer q=>cases q with
      |some q=>simpa[CF,asAddr]using hu
      |none=>simp[CF,stuck,Sem.run]at hu
     |_=>simp[CF,stuck,Sem.run]at hu
   obtain⟨v,hv,hvv⟩:=hx
   refine⟨v::vs,?_,by simp[h2],λk c u hc hu=>?_⟩
   ·simp only[Ca,A3,hv,AX,h1,Bz]
   ·rcases k with _|k
    ·simp at hc hu;subst hc;subst hu;exact hvv
    ·exact h3 k c u (by simpa using hc) (by simpa using hu)
 obtain⟨vs,h1,h2,h3⟩:=hrun _ _ havs
 obtain⟨q1,q2⟩:=jT _ _ _ hl
 have hVD:∀(k:Nat) d v,l[k]? = some d->vs[k]? = some v->VD (λb=>F b\/∃id,ι id=some b) w d v:=by
  intro k d v hd hv;obtain⟨c,hc,hf⟩:=q2 k d hd;refine(zI hR (λ_ _ h=>h) 8 c v d hf (h3 k c v hc hv)).1.mono ?_;rintro b (hb|⟨id,hid,hb⟩)
  ·exact .inl hb
  ·exact .inr ⟨id,hb⟩
 have hres:(results fn a.tmps).run P w=.ok (if h:vs.toArray.size=1 then vs.toArray[0]else .tuple vs.toArray) w:=by
  simp only[results,D3,A3,Sem.run_map]
  erw [h1]
  simp
 refine⟨_,hres,?_⟩
 have hlen:l.length=vs.length:=by omega
 match l,hlen,hVD with
 |[x],hlen,hVD =>
  match vs,hlen,hVD with
  |[v],_,hVD=>exact hVD 0 x v rfl rfl
 |[],hlen,hVD =>
  have:vs=[]:=List.eq_nil_of_length_eq_zero (by simpa using hlen.symm)
  subst this
  exact .tp _ _ rfl λk c v h=>by simp at h
 |x::y::l,hlen,hVD =>
  have hne:¬vs.toArray.size=1:=by simp at hlen ⊢;omega
  rw[dif_neg hne]
  exact .tp _ _ (by simpa using hlen) λk c v hc hv=>hVD k c v hc (by simpa using hv)
def nR{fn:Func}{σ:St}{a:Act}{w:World}{r:D}(hs:SR G N ds σ a w)(h:mY P fn.results.toList σ=some r) :
  ∃v,(results fn a.tmps).run P w=.ok v w/\VD (λb=>G.A b\/G.M b\/(G.W.heap.size<=b/\b<w.heap.size)) w r v:=by
 obtain⟨_,_,F,ι,hR,hdom,hV,_⟩:=hs
 obtain⟨v,h1,h2⟩:=rY hR hV h
 refine⟨v,h1,h2.mono ?_⟩
 rintro b (hb|⟨id,hb⟩)
 ·rcases hR.F_ok b hb with h|h|h
  ·exact .inl h
  ·exact .inr (.inl h)
  ·exact .inr (.inr ⟨h,hR.F_lt b hb⟩)
 ·rcases(hR.place id b hb).1 with h|h
  ·exact .inr (.inl h)
  ·exact .inr (.inr ⟨h,hR.ι_lt hb⟩)
def Γ0(args:List D)(N:Nat):Nat->AV:=λt=>match args[t]? with|some d=>aO d|none=>if t<N then .un else .un
def St0(args:List D)(N:Nat):St:=⟨Γ0 args N,λ_=>none,1⟩
def SR0{A:Nat->Prop}{W:World}{vs:Array Value}{args:List D}(hA:∀b,A b->b<W.heap.size)(hl:args.length=vs.size)(hv:∀(k:Nat) d v,args[k]? = some d->vs[k]? = some v->VD A W d v)(hN:args.length<=N) :
  SR ⟨W,A,bW,λ_=>True,λ_=>none⟩ N [] (St0 args N) { tmps:=vs++BI (N-vs.size) undef,defers:=[] } W:=by
 refine⟨λ_ _=>rfl,λh=>by simp[St0]at h,A,λ_=>none,⟨.refl _ _ _,hA,λb h=>.inl h,λ_ _ h=>by simp at h,λ_ _ _ h=>by simp at h,λ_ _ _ h=>by simp at h,λ_ _ _ _ _ h=>by simp at h⟩,λid=>by simp[St0],λt=>?_,⟨by simp;omega,λ_ _ h=>by cases h⟩,rfl,λ_ h=>by simp at h⟩
 simp only[St0,Γ0]
 by_cases ht:t<args.length
 ·rw[Ab ht]
  have ht':t<vs.size:=by omega
  have:(vs++BI (N-vs.size) undef).getD t undef=vs[t]:=by simp only[Bj];rw[BJ ht',AD ht'];rfl
  rw[this]
  exact uX (hv t _ _ (Ab ht) (AD ht'))
 ·rw[AW (by omega)]
  have:(vs++BI (N-vs.size) undef).getD t undef=undef:=by
   simp only[Bj];rw[EG (by omega)];by_cases h2:t-vs.size<N-vs.size
   ·rw[Ct,Ad h2];rfl
   ·rw[Ct,Ac h2];rfl
  rw[this]
  simp only[ite_self]
  exact .un
def bPp {f N:Nat} {fn:Func} {c:Code} {args:List D} {r:D} (hm:P.follows .mixedOrders=true) (hf:P.funcs[f]? = some fn) (hb:fn.body=some c) (hname:(fn.name == "runtime.NumGoroutine")=false) (hN:fn.ntmps=N)
  (hd:dK N c=true) (hl':eC P c=true) (ha:args.length<=N) (h:AWP P c (St0 args N) λe σ=>(e=.normal\/e=.ret)/\mY P fn.results.toList σ=some r):Spec P f args r:=by
 intro A W vs hA hl hv
 have hn:¬ fn.name = "runtime.NumGoroutine" := by simpa using hname
 refine⟨λw=>by simp[callFunc,hf,hn,hb],?_⟩
 refine calls_of_wp hf hb ?_
 subst hN
 refine wp_mono (iC hm (λ_=>rfl) c _ _ _ _ hd hl' h (SR0 hA hl hv ha)) ?_
 rintro e a w ⟨σ,⟨he,hr⟩,hs⟩
 obtain⟨v,hrun,hvd⟩:=nR hs hr
 obtain⟨_,_,F,ι,hR,_,_,_,hdf,_⟩:=hs
 have hend:a.defers=[]/\∃v,(results fn a.tmps).run P w=.ok v w/\∃v',DM v=.returned v'/\Below W.heap.size W w/\VD (λb=>A b\/(W.heap.size<=b/\b<w.heap.size)) w r v':=by
  refine⟨hdf,v,hrun,v,rfl,⟨hR.kept.os,hR.kept.tape,hR.kept.output,hR.kept.size,λk hk=>hR.kept.block k hk (λh=>h)⟩,hvd.mono ?_⟩;rintro b (h|h|h)
  ·exact .inl h
  ·exact h.elim
  ·exact .inr h
 rcases he with rfl|rfl<;>exact hend
def gQ(P:Program)(g:FuncId):Prop :=
 (∀w,(callFunc g #[]).run P w=.ok (.enter g #[]) w)/\∀w,CallsD P g #[] .returning w λe u' w'=>e=.returned (.tuple #[])/\u'=.returning/\w'=w
def qN:Code->Option FuncId
 |.region _ ops false=>match ops.toList with
  |[{ dst:=none,op:=.defer { callee:=.value (.func g),args:=args,argTypes:=_ },guard:=none,.. }]=>if args.isEmpty then some g else none
  |_=>none
 |_=>none
def aAd{σ:St}{a:Act}{w:World}(d:Deferred)(h:SR G N ds σ a w):SR G N (d::ds) σ { a with defers:=d::a.defers } w:=by obtain⟨h1,h2,F,ι,hR,hdom,hV,hN,hds,hp⟩:=h;exact⟨h1,h2,F,ι,hR,hdom,hV,hN,by rw[hds],hp⟩
def rW{c:Code}{g:FuncId}{a:Act}{w:World}{Q:Exit->Act->World->Prop}(h:qN c=some g)(hQ:Q .normal { a with defers:={ target:=.fn (.func g) #[],args:=#[] }::a.defers } w):c.wp P Q a w:=by
 unfold qN at h;split at h
 case h_2=>cases h
 rename_i id ops;split at h
 case h_2=>cases h
 rename_i g' args ts ty pos after hops;split at h
 case isFalse=>cases h
 rename_i hargs;injection h with h;subst h
 refine wp_region_list ?_;rw[hops];unfold wpList;have hargs':args=#[]:=by simpa using hargs
 subst hargs';have hw:∀y,EC { dst:=none,op:=.defer { callee:=.value (.func g'),args:=#[],argTypes:=ts },type:=ty,pos:=pos,after:=after,guard:=none } y=true:=λy=>by simp[EC]
 rw[Ad (hw _)];refine .inl ?_;unfold Oper.wp;have hfe:a.eval (.func g')=.func (.func g') #[] #[]:=rfl;simp[execOp,resolve,hfe,Deferred.ofValue,Oper.upon_defer,wpList,Act.put];exact hQ
def sG{fn:Func}{N:Nat}{g:FuncId}{A:Nat->Prop}{W:World}{r:D}{σ:St}{a:Act}{w:World}(hrec:gQ P g)(hs:SR ⟨W,A,bW,λ_=>True,λ_=>none⟩ N [{ target:=.fn (.func g) #[],args:=#[] }] σ a w)
  (hr:mY P fn.results.toList σ=some r):Leaves P fn a.tmps (λe w'=>∃v,e=.returned v/\Below W.heap.size W w'/\VD (λb=>A b\/(W.heap.size<=b/\b<w'.heap.size)) w' r v) a.defers .returning w:=by
 obtain⟨v,hrun,hvd⟩:=nR hs hr
 obtain⟨_,_,F,ι,hR,_,_,_,hdf,_⟩:=hs
 rw[hdf]
 refine leaves_cons (by simp) (args:=#[]) (f:=g) ?_ ((hrec.2 w).mono ?_)
 ·have:=hrec.1 w
  simpa[invoke]using this
 ·rintro e u' w' ⟨rfl,rfl,rfl⟩
  refine⟨v,by simpa[settle]using hrun,v,rfl,⟨hR.kept.os,hR.kept.tape,hR.kept.output,hR.kept.size,λk hk=>hR.kept.block k hk (λh=>h)⟩,hvd.mono ?_⟩
  rintro b (h|h|h)
  ·exact .inl h
  ·exact h.elim
  ·exact .inr h
def bBf {f N:Nat} {fn:Func} {g:FuncId} {r0 rd rest:Code} {args:List D} {r:D} (hm:P.follows .mixedOrders=true) (hf:P.funcs[f]? = some fn) (hb:fn.body=some (.seq r0 (.seq rd rest))) (hname:(fn.name == "runtime.NumGoroutine")=false)
  (hN:fn.ntmps=N) (hd0:dK N r0=true) (hl0:eC P r0=true) (hd1:dK N rest=true) (hl1:eC P rest=true) (hg:qN rd=some g) (hrec:gQ P g) (ha:args.length<=N)
  (h:AWP P r0 (St0 args N) λe σ0=>e=.normal/\AWP P rest σ0 λe σ=>(e=.normal\/e=.ret)/\mY P fn.results.toList σ=some r):Spec P f args r:=by
 intro A W vs hA hl hv
 have hn:¬ fn.name = "runtime.NumGoroutine" := by simpa using hname
 refine⟨λw=>by simp[callFunc,hf,hn,hb],?_⟩
 refine calls_of_wp_defers hf hb ?_
 subst hN
 refine wp_seq (wp_mono (iC hm (λ_=>rfl) r0 _ _ _ _ hd0 hl0 h (SR0 hA hl hv ha)) ?_)
 rintro e a w ⟨σ0,⟨rfl,h1⟩,hs0⟩
 refine wp_seq (rW hg ?_)
 refine wp_mono (iC hm (λ_=>rfl) rest _ _ _ _ hd1 hl1 h1 (aAd { target:=.fn (.func g) #[],args:=#[] } hs0)) ?_
 rintro e a w ⟨σ,⟨he,hr⟩,hs⟩
 rcases he with rfl|rfl<;>exact sG hrec hs hr
def St1(h:AV)(o:HO)(args:List D)(N:Nat):St:=⟨λt=>match t with|0=>h|t+1=>Γ0 args N t,λid=>if id=0 then some o else none,1⟩
def SR1{A:Nat->Prop}{W:World}{vs:Array Value}{args:List D}{h:AV}{o:HO}{b:Nat}(hA:∀b,A b->b<W.heap.size)(hAb:¬A b)(hb:b<W.heap.size)(ho:∃ob,W.heap[b]? = some ob/\CR A W (ι1 b) o ob)
  (hl:args.length+1=vs.size) (h0:∃v,vs[0]? = some v/\V A W (ι1 b) h v) (hv:∀(k:Nat) d v,args[k]? = some d->vs[k+1]? = some v->VD A W d v) (hN:args.length+1<=N) :
  SR ⟨W,A,(·=b),(·=b),λ_=>none⟩ N [] (St1 h o args N) { tmps:=vs++BI (N-vs.size) undef,defers:=[] } W:=by
 have hι:∀id b',ι1 b id=some b'->id=0/\b'=b:=λid b' e=>by
  unfold ι1 at e;split at e
  ·injection e with e;exact⟨by assumption,e.symm⟩
  ·cases e
 have hH:∀id o',(if id=0 then some o else none)=some o'->id=0/\o'=o:=λid o' e=>by
  split at e
  ·injection e with e;exact⟨by assumption,e.symm⟩
  ·cases e
 refine⟨λid h=>by simp only[St1]at h ⊢;rw[Ac (by omega)],λh=>by simp[St1]at h,A,ι1 b,⟨.refl _ _ _,hA,λb h=>.inl h,λid b' e=>?_,λid b' o' e e'=>?_,λid id' b' e e' _ _=>?_,λid id' b' o1 o2 e e' _ h1 h2=>?_⟩,λid=>?_,λt=>?_,⟨by simp;omega,λ_ _ h=>by cases h⟩,rfl,λb' e=>(hι 0 b' e).2⟩
 ·obtain⟨_,rfl⟩:=hι id b' e;exact⟨.inl rfl,hb,λ_=>hAb⟩
 ·obtain⟨_,rfl⟩:=hι id b' e;obtain⟨_,rfl⟩:=hH id o' e';exact ho
 ·rw[(hι _ _ e).1,(hι _ _ e').1]
 ·rw[(hH _ _ h1).2,(hH _ _ h2).2];exact Ap _
 ·simp only[St1,ι1]
  by_cases hid:id=0<;>simp[hid]
 ·have hget:∀k,k<vs.size->(vs++BI (N-vs.size) undef).getD k undef=vs.getD k undef:=λk hk=>by simp only[Bj];rw[BJ hk]
  have hget2:∀k,vs.size<=k->(vs++BI (N-vs.size) undef).getD k undef=undef:=λk hk=>by
   simp only[Bj];rw[EG hk];by_cases h2:k-vs.size<N-vs.size
   ·rw[Ct,Ad h2];rfl
   ·rw[Ct,Ac h2];rfl
  cases t with
  |zero =>
   obtain⟨v,hv0,hV0⟩:=h0
   show V A W (ι1 b) h _
   rw[show(({ tmps:=vs++BI (N-vs.size) undef,defers:=[] }:Act).tmps.getD 0 undef)=v from by
    rw[hget 0 (by omega)];simp[Bj,hv0]]
   exact hV0
  |succ t =>
   show V A W (ι1 b) (Γ0 args N t) _
   simp only[Γ0]
   by_cases ht:t<args.length
   ·have ht':t+1<vs.size:=by omega
    rw[Ab ht,hget _ ht',Bj,AD ht']
    exact uX (hv t _ _ (Ab ht) (AD ht'))
   ·rw[AW (by omega),hget2 _ (by omega)]
    simp only[ite_self]
    exact .un
def aQp {f N:Nat} {fn:Func} {c:Code} {h:AV} {o o':HO} {args:List D} {r:D} (hf:P.funcs[f]? = some fn) (hb:fn.body=some c) (hname:(fn.name == "runtime.NumGoroutine")=false) (hN:fn.ntmps=N)
  (ha:args.length+1<=N) (hmap:∃k es,o=.map k es) (hmap':∃k es,o'=.map k es) (hno':oG o'=true) (hnm:NM r)
  (hA:∀(G:Ctx) (a:Act) (w:World),(∀d,G.Z d=none)->SR G N [] (St1 h o args N) a w->c.wp P (λe a' w'=>∃σ,((e=.normal\/e=.ret)/\mY P fn.results.toList σ=some r/\σ.H 0=some o')/\SR G N [] σ a' w') a w):tJ P f h o args o' r:=by
 intro A W vs b hAl hAb hbl hob hl hv0 hv
 have hn:¬ fn.name = "runtime.NumGoroutine" := by simpa using hname
 refine⟨λw=>by simp[callFunc,hf,hn,hb],?_⟩
 refine calls_of_wp hf hb ?_
 subst hN
 have hsr:=SR1 (N:=fn.ntmps) hAl hAb hbl hob hl hv0 hv ha
 refine wp_mono (hA _ _ _ (λ_=>rfl) hsr) ?_
 rintro e a w ⟨σ,⟨he,hr,hH0⟩,hs⟩
 obtain⟨_,_,F,ι,hR,hdom,hVs,_,hdf,hp⟩:=hs
 obtain⟨v,hrun,hvd⟩:=rY hR hVs hr
 obtain⟨b',hb'⟩:=(hdom 0).2 (by rw[hH0];rfl)
 have hbb:=hp b' hb'
 simp only at hbb
 subst hbb
 obtain⟨ob',hob',hcr⟩:=hR.obj 0 b' o' hb' hH0
 have hnF:¬F b':=(hR.place 0 b' hb').2.2 (λx=>x)
 have hFA:∀k,F k->A k\/(W.heap.size<=k/\k<w.heap.size):=λk hk=>by
  rcases hR.F_ok k hk with h|h|h
  ·exact .inl h
  ·simp only at h;subst h;exact(hnF hk).elim
  ·exact .inr ⟨h,hR.F_lt k hk⟩
 have hend:a.defers=[]/\∃v,(results fn a.tmps).run P w=.ok v w/\∃v' ob',DM v=.returned v'/\Kept (·=b') W.heap.size W w/\w.heap[b']? = some ob' /\
   (∀cur e,W.heap[b']? = some (.cells cur e (0,0))->∃cur',ob'=.cells cur' e (0,0)/\cur'.size=cur.size) /\
   CR (λk=>A k\/(W.heap.size<=k/\k<w.heap.size)) w (ι1 b') o' ob'/\VD (λk=>A k\/(W.heap.size<=k/\k<w.heap.size)) w r v':=by
  refine⟨hdf,v,hrun,v,ob',rfl,hR.kept,hob',λcur e he=>?_,(aNx hno' hcr).step ⟨hFA,λ_ _=>rfl,λ_ _ h=>h,λ_ _ cur _ _ h=>⟨cur,h,rfl⟩⟩,(cCz hvd hnm).mono ?_⟩
  rotate_left
  ·rintro c ⟨hc|⟨id,h2⟩,hnc⟩
   ·exact hFA c hc
   ·rcases(hR.place id c h2).1 with h|h
    ·simp only at h;subst h
     have:=hR.inj id 0 c h2 hb' (λx=>x) (λx=>x)
     subst this
     obtain⟨k,es,rfl⟩:=hmap'
     cases hcr with|map _ _ ents clock _ _ _=>exact(hnc ents clock hob').elim
    ·exact .inr ⟨h,hR.ι_lt h2⟩
  obtain⟨k,es,rfl⟩:=hmap
  obtain⟨ob,h1,h2⟩:=hob
  rw[he]at h1;injection h1 with h1;subst h1
  cases h2
 rcases he with rfl|rfl<;>exact hend
end
end Go.Am
end
section
open List renaming map_map->C,mapM_map->K
namespace Go.Am
open RowKit (Below)
structure Kn where
 call:FuncId->List D->Option D
 ocall:FuncId->AV->HO->List D->Option (HO×D)
 keys:FuncId->Option FuncId
 sorted:FuncId->FuncId->Bool
 recs:FuncId->Bool
structure aTu(P:Program)(E:Kn):Prop where
 call:∀f ds r,E.call f ds=some r->Spec P f ds r
 ocall:∀f h o ds o' r,E.ocall f h o ds=some (o',r)->tJ P f h o ds o' r
 keys:∀f g,E.keys f=some g->uZ P f g
 sorted:∀f g,E.sorted f g=true->nD P f g
 recs:∀g,E.recs g=true->gQ P g
def OEC(P:Program)(E:Kn)(f:FuncId)(args:Array Operand)(dst:Option Tmp)(σ:St)(con:List Nat):Option (St×List Nat) :=
 if bB P f then match args.toList with
  |x::rest=>match hd1 (oev σ.J x)with
   |some (id,h)=>match σ.H id with
    |some ho=>match rest,h,E.keys f with
     |[],.mp 0,some g=>some (⟨bT σ.J dst (.kf g id),σ.H,σ.n⟩,con)
     |_,_,_=>if oG ho=true/\fK σ.H (rest.map (oev σ.J))=[]then match fW σ.H (rest.map (oev σ.J))with
      |some ds=>match E.ocall f h ho ds with
       |some (ho',r)=>if ho'.len=ho.len/\oG ho'=true then some (⟨bT σ.J dst (inj r),upd σ.H id (some ho'),σ.n⟩,con)else none
       |none=>none
      |none=>none
      else none
    |none=>none
   |none=>none
  |[]=>none
 else match args.toList.map (oev σ.J)with
  |[.kf g id]=>match σ.H id with
   |some (.map .i64 es)=>if es.length<=1099511627776/\(es.map (·.1)).all inr=true/\E.sorted f g=true then some (⟨bT σ.J dst (.d (.sl ((gZ (es.map (·.1))).map λn=>[.i .i64 n]))),σ.H,σ.n⟩,con)else none
   |_=>none
  |avs=>match fW σ.H avs with
   |some ds=>match E.call f ds with
    |some r=>some (⟨bT σ.J dst (inj r),kill (bS σ.H avs r) σ.H,σ.n⟩,bS σ.H avs r++con)
    |none=>none
   |none=>none
def OE1(P:Program)(E:Kn)(o:Oper)(σ:St)(con:List Nat):Option (St×List Nat) :=
 match o.op with
 |.load t x=>match zB P σ.H t (oev σ.J x)with
  |some v=>some (⟨bT σ.J o.dst v,σ.H,σ.n⟩,con)
  |none=>none
 |.lookup t m x ok=>match pK P σ.H t (oev σ.J m) (oev σ.J x) ok with
  |some v=>some (⟨bT σ.J o.dst v,σ.H,σ.n⟩,con)
  |none=>none
 |.store t ad x=>match qO P σ.H t (oev σ.J ad) (oev σ.J x)with
  |some (id,ho)=>some (⟨bT σ.J o.dst .un,upd σ.H id (some ho),σ.n⟩,con)
  |none=>none
 |.mapUpdate t m x v=>match tL P σ.H t (oev σ.J m) (oev σ.J x) (some (oev σ.J v))with
  |some (id,ho)=>some (⟨bT σ.J o.dst .any,upd σ.H id (some ho),σ.n⟩,con)
  |none=>none
 |.insert t m x v=>match tL P σ.H t (oev σ.J m) (oev σ.J x) (some (oev σ.J v))with
  |some (id,ho)=>some (⟨bT σ.J o.dst .any,upd σ.H id (some ho),σ.n⟩,con)
  |none=>none
 |.call { callee:=.value (.func f),args:=args,argTypes:=_ }=>OEC P E f args o.dst σ con
 |.call { callee:=.value (.tmp t),args:=args,argTypes:=_ }=>match kY (σ.J t)with
  |some (f,cs)=>match fW σ.H (args.toList.map (oev σ.J)++cs)with
   |some ds=>match E.call f ds with
    |some r=>some (⟨bT σ.J o.dst (inj r),kill (bS σ.H (args.toList.map (oev σ.J)++cs) r) σ.H,σ.n⟩,bS σ.H (args.toList.map (oev σ.J)++cs) r++con)
    |none=>none
   |none=>none
  |none=>none
 |.call { callee:=.invoke (.tmp t) name,args:=args,argTypes:=_ }=>match σ.J t with
  |.d (.iff ty d)=>match yX P ty name with
   |some f=>match fW σ.H (.d d::args.toList.map (oev σ.J))with
    |some ds=>match E.call f ds with
     |some r=>some (⟨bT σ.J o.dst (inj r),kill (bS σ.H (.d d::args.toList.map (oev σ.J)) r) σ.H,σ.n⟩,bS σ.H (.d d::args.toList.map (oev σ.J)) r++con)
     |none=>none
    |none=>none
   |none=>none
  |_=>none
 |.call { callee:=.builtin .append,args:=args,argTypes:=ts }=>match args.toList,ts.toList with
  |[s,x],[t,t']=>if t=t' then match aCr P σ.H t (oev σ.J s) (oev σ.J x) σ.n with
   |some (av,nb,cn)=>some (⟨bT σ.J o.dst av,jE (kill cn σ.H) σ.n nb,cnt nb σ.n⟩,cn++con)
   |none=>none
   else none
  |_,_=>none
 |.call { callee:=.builtin .delete,args:=args,argTypes:=ts }=>match args.toList,ts.toList with
  |[m,x],[t,_]=>match tL P σ.H t (oev σ.J m) (oev σ.J x) none with
   |some (id,ho)=>some (⟨bT σ.J o.dst .any,upd σ.H id (some ho),σ.n⟩,con)
   |none=>none
  |_,_=>none
 |.call { callee:=.builtin .len,args:=args,argTypes:=ts }=>if aVq P ts then none else if kind P (.call { callee:=.builtin .len,args:=args,argTypes:=ts })=0 then match nev P (.call { callee:=.builtin .len,args:=args,argTypes:=ts }) σ.J σ.n with
  |some (av,nb)=>some (⟨bT σ.J o.dst av,jE σ.H σ.n nb,cnt nb σ.n⟩,con)
  |none=>none
  else none
 |op=>if kind P op=0 then match nev P op σ.J σ.n with
  |some (av,nb)=>some (⟨bT σ.J o.dst av,jE σ.H σ.n nb,cnt nb σ.n⟩,con)
  |none=>none
  else none
def OE(P:Program)(E:Kn)(ops:Array Oper):List Oper->St->List Nat->Option (St×List Nat)
 |[],σ,con=>some (σ,con)
 |o::l,σ,con=>match eY ops o σ.J with
  |some true=>match OE1 P E o σ con with
   |some p=>OE P E ops l p.1 p.2
   |none=>none
  |some false=>OE P E ops l ⟨bT σ.J o.dst .un,σ.H,σ.n⟩ con
  |none=>none
section
variable {P:Program} {E:Kn} (hE:aTu P E)
include hE
def bEx{f:FuncId}{args:Array Operand}{dst:Option Tmp}{σ:St}{con:List Nat}{p:St×List Nat}{k:St->List Nat->Prop}(h:OEC P E f args dst σ con=some p)(hk:k p.1 p.2):OC P f args dst σ con k:=by
 unfold OEC at h;unfold OC;split at h
 ·rename_i hm;rw[Ad hm];split at h
  case h_2=>cases h
  rename_i x rest hargs;rw[hargs];simp only;split at h
  case h_2=>cases h
  rename_i id hh hx;rw[hx];simp only;split at h
  case h_2=>cases h
  rename_i ho hH;rw[hH];simp only;split at h
  ·rename_i g hg;injection h with h;subst h
   exact .inl ⟨g,rfl,rfl,hE.keys _ _ hg,hk⟩
  ·split at h
   case isFalse=>cases h
   rename_i hc;split at h
   case h_2=>cases h
   rename_i ds hds;split at h
   case h_2=>cases h
   rename_i ho' r hr;split at h
   case isFalse=>cases h
   rename_i hc2;injection h with h;subst h
   exact .inr (.inl ⟨hc.1,hc.2,ds,ho',r,hds,hE.ocall _ _ _ _ _ _ hr,hc2.1,hc2.2,hk⟩)
 ·rename_i hm;rw[Ac hm];refine .inr ?_;split at h
  ·rename_i g id hargs;rw[hargs];simp only;split at h
   ·rename_i es hH;split at h
    ·rename_i hc;injection h with h;subst h
     rw[hH];exact⟨hc.1,hc.2.1,hE.sorted _ _ hc.2.2,hk⟩
    ·cases h
   ·cases h
  ·rename_i hne;split at h
   case h_2=>cases h
   rename_i ds hds;split at h
   case h_2=>cases h
   rename_i r hr;injection h with h;subst h
   split
   ·rename_i g id hargs;exact(hne _ _ hargs).elim
   ·exact⟨ds,r,hds,hE.call _ _ _ hr,hk⟩
def bEy{o:Oper}{σ:St}{con:List Nat}{p:St×List Nat}{k:St->List Nat->Prop}(h:OE1 P E o σ con=some p)(hk:k p.1 p.2):O1 P o σ con k:=by
 unfold OE1 at h;unfold O1;split at h
 ·rename_i t x hop;rw[hop];split at h
  ·rename_i v hv;simp only[hv];injection h with h;subst h;exact hk
  ·cases h
 ·rename_i t m x ok hop;rw[hop];split at h
  ·rename_i v hv;simp only[hv];injection h with h;subst h;exact hk
  ·cases h
 ·rename_i t ad x hop;rw[hop];split at h
  ·rename_i id ho hv;simp only[hv];injection h with h;subst h;exact hk
  ·cases h
 ·rename_i t m x v hop;rw[hop];split at h
  ·rename_i id ho hv;simp only[hv];injection h with h;subst h;exact hk
  ·cases h
 ·rename_i t m x v hop;rw[hop];split at h
  ·rename_i id ho hv;simp only[hv];injection h with h;subst h;exact hk
  ·cases h
 ·rename_i f args ts hop;rw[hop];exact bEx hE h hk
 ·rename_i t args ts hop;rw[hop];split at h
  ·rename_i f cs hcal;simp only[hcal];split at h
   ·rename_i ds hds;split at h
    ·rename_i r hr;injection h with h;subst h
     exact⟨ds,r,hds,hE.call _ _ _ hr,hk⟩
    ·cases h
   ·cases h
  ·cases h
 ·rename_i t name args ts hop;rw[hop];split at h
  ·rename_i ty d hcal;simp only[hcal];split at h
   ·rename_i f hme;simp only[hme];split at h
    ·rename_i ds hds;split at h
     ·rename_i r hr;injection h with h;subst h
      exact⟨ds,r,hds,hE.call _ _ _ hr,hk⟩
     ·cases h
    ·cases h
   ·cases h
  ·cases h
 ·rename_i args ts hop;rw[hop];split at h
  ·rename_i s x t t' hargs hts;simp only[hargs,hts];split at h
   ·rename_i htt;refine⟨htt,?_⟩;split at h
    ·rename_i av nb cn hv;simp only[hv];injection h with h;subst h;exact hk
    ·cases h
   ·cases h
  ·cases h
 ·rename_i args ts hop;rw[hop];split at h
  ·rename_i m x t kt hargs hts;simp only[hargs,hts];split at h
   ·rename_i id ho hv;simp only[hv];injection h with h;subst h;exact hk
   ·cases h
  ·cases h
 ·rename_i args ts hop;rw[hop];split at h
  ·cases h
  ·rename_i hlm;simp only;rw[Ac hlm];split at h
   ·rename_i hkd;split at h
    ·rename_i av nb hv;injection h with h;subst h
     refine⟨hkd,?_⟩;simp only[hv];exact hk
    ·cases h
   ·cases h
 ·rename_i op h1 h2 h3 h4 h9 h5 h8 h10 h6 h7 h11;split at h
  ·rename_i hkd;split at h
   ·rename_i av nb hv;injection h with h;subst h
    split
    ·rename_i hop;exact(h1 _ _ hop).elim
    ·rename_i hop;exact(h2 _ _ _ _ hop).elim
    ·rename_i hop;rw[hop]at hkd;cases hkd
    ·rename_i hop;rw[hop]at hv;cases hv
    ·rename_i hop;exact(h3 _ _ _ hop).elim
    ·rename_i hop;exact(h4 _ _ _ _ hop).elim
    ·rename_i hop;exact(h9 _ _ _ _ hop).elim
    ·rename_i hop;exact(h5 _ _ _ hop).elim
    ·rename_i hop;exact(h8 _ _ _ hop).elim
    ·rename_i hop;exact(h10 _ _ _ _ hop).elim
    ·rename_i hop;exact(h6 _ _ hop).elim
    ·rename_i hop;exact(h7 _ _ hop).elim
    ·rename_i hop;exact(h11 _ _ hop).elim
    ·refine⟨hkd,?_⟩;simp only[hv];exact hk
   ·cases h
  ·cases h
def aHm{ops:Array Oper}{k:St->List Nat->Prop}:∀(l:List Oper) (σ:St) (con:List Nat) (p:St×List Nat),OE P E ops l σ con=some p->k p.1 p.2->OW P ops l σ con k
 |[],σ,con,p,h,hk=>by unfold OE at h;injection h with h;subst h;exact hk
 |o::l,σ,con,p,h,hk=>by
  unfold OE at h;unfold OW;split at h
  ·rename_i hw;simp only[hw];split at h
   ·rename_i q hq;exact bEy hE hq (aHm l _ _ _ h hk)
   ·cases h
  ·rename_i hw;simp only[hw];exact aHm l _ _ _ h hk
  ·cases h
end
def fzp(H:Hp)(S:List Nat)(x:AV):AV :=
 match x with
 |.ptr id _=>if id∈S then(match frz H 8 x with
   |some (.pt cs)=>if(vis H 8 x).all (λa=>decide (a∈S))then .fp cs else .any
   |_=>.any)else if(H id).isSome then x else .any
 |.d y=>.d y
 |.fp cs=>.fp cs
 |_=>.any
def fz(H:Hp)(S:List Nat)(x:AV):AV :=
 match x with
 |.own id _ _ _=>if id∈S then(match frz H 8 x with
   |some d=>if(vis H 8 x).all (λa=>decide (a∈S))then .d d else .any
   |none=>.any)else if(H id).isSome then x else .any
 |.ptr id _=>if id∈S then(match frz H 8 x with
   |some (.pt cs)=>if(vis H 8 x).all (λa=>decide (a∈S))then .fp cs else .any
   |_=>.any)else if(H id).isSome then x else .any
 |.fn f cs=>.fn f (cs.map (fzp H S))
 |.mp id=>if id∈S then .any else if(H id).isSome then x else .any
 |.kf _ id=>if id∈S then .any else if(H id).isSome then x else .any
 |.ag _=>.any
 |.tp _=>.any
 |x=>x
def fzs(H:Hp)(S:List Nat)(x:AV):AV :=
 match x with
 |.ag cs=>.ag (cs.map (fz H S))
 |x=>fz H S x
def fzm(H:Hp)(S:List Nat)(x:AV):AV :=
 match frz H 8 x with
 |some d=>if(vis H 8 x).all (λa=>decide (a∈S))then .d d else .any
 |none=>.any
def fzO(H:Hp)(S:List Nat):HO->HO
 |.cells e cs=>.cells e (cs.map (fz H S))
 |.map k es=>.map k (es.map λp=>(p.1,fzm H S p.2))
 |.iter k l es=>.iter k l es
def aBh(S:List Nat)(σ:St):St:=⟨λt=>fzs σ.H S (σ.J t),λid=>if id∈S then none else(σ.H id).map (fzO σ.H S),σ.n⟩
def lM{S:List Nat}{σ:St}{id:Nat}:((aBh S σ).H id).isSome=true↔id ∉ S/\(σ.H id).isSome=true:=by simp only[aBh];by_cases h:id∈S<;>simp[h]
def lD{S:List Nat}{σ:St}(x:AV):pV σ.H (aBh S σ).H (λi=>i) x (fz σ.H S x):=by
 have key:∀(x:AV) (d:D),frz σ.H 8 x=some d->(vis σ.H 8 x).all (λa=>decide (a∈S))=true->pV σ.H (aBh S σ).H (λi=>i) x (.d d):=by
  intro x d h1 h2;have:frz σ.H 8 x=some d/\∀a∈vis σ.H 8 x,∀id,((aBh S σ).H id).isSome=true->id≠a:=by refine⟨h1,λa ha id hid e=>?_⟩;have h3:=Ay.1 h2 a ha;simp only[AI]at h3;exact(lM.1 hid).1 (e ▸ h3)
  cases x<;>exact this
 have keyP:∀(x:AV) (d:D),frz σ.H 8 x=some d->(vis σ.H 8 x).all (λa=>decide (a∈S))=true->frz σ.H 8 x=some d/\∀a∈vis σ.H 8 x,∀id,((aBh S σ).H id).isSome=true->id≠a:=by intro x d h1 h2;refine⟨h1,λa ha id hid e=>?_⟩;have h3:=Ay.1 h2 a ha;simp only[AI]at h3;exact(lM.1 hid).1 (e ▸ h3)
 have keyQ:∀(x:AV),bVf σ.H (aBh S σ).H (λi=>i) x (fzp σ.H S x):=by
  intro x;cases x with
  |ptr id off =>
   simp only[fzp];split
   ·split
    ·rename_i cs hd;split
     ·exact keyP (.ptr id off) _ hd (by assumption)
     ·trivial
    ·trivial
   ·split
    ·exact⟨rfl,rfl,lM.2 ⟨by assumption,by assumption⟩⟩
    ·trivial
  |d y=>exact keyP (.d y) y rfl rfl
  |fp cs=>exact keyP (.fp cs) _ rfl rfl
  |_=>trivial
 cases x with
 |own id off len sz =>
  simp only[fz];split
  ·split
   ·rename_i d hd;split
    ·exact key _ d hd (by assumption)
    ·trivial
   ·trivial
  ·split
   ·exact⟨rfl,rfl,rfl,rfl,lM.2 ⟨by assumption,by assumption⟩⟩
   ·trivial
 |ptr id off =>
  simp only[fz];split
  ·split
   ·rename_i cs hd;split
    ·exact keyP (.ptr id off) _ hd (by assumption)
    ·trivial
   ·trivial
  ·split
   ·exact⟨rfl,rfl,lM.2 ⟨by assumption,by assumption⟩⟩
   ·trivial
 |fn f cs =>
  refine⟨rfl,by simp,λk c d hc hd=>?_⟩;rw[Aw,hc]at hd;injection hd with hd;subst hd
  exact keyQ c
 |mp id =>
  simp only[fz];split
  ·trivial
  ·split
   ·exact⟨rfl,lM.2 ⟨by assumption,by assumption⟩⟩
   ·trivial
 |kf f id =>
  simp only[fz];split
  ·trivial
  ·split
   ·exact⟨rfl,rfl,lM.2 ⟨by assumption,by assumption⟩⟩
   ·trivial
 |ag cs=>trivial
 |tp cs=>trivial
 |d y=>exact key _ y rfl rfl
 |nil=>trivial
 |fp cs=>exact keyP (.fp cs) _ rfl rfl
 |fd els=>rfl
 |un=>trivial
 |ub=>trivial
 |any=>trivial
def bTm(S:List Nat)(σ:St)(htop:∀id,σ.n<=id->σ.H id=none):Wk σ (aBh S σ) (λi=>i):=by
 refine⟨λid h=>?_,λt=>?_,λid o' h=>?_,λ_ _ _ _ h=>h,λ_=>rfl,λh=>h⟩
 ·simp only[aBh]at h ⊢;rw[htop id h];simp
 ·show Sub σ.H (aBh S σ).H (λi=>i) (σ.J t) (fzs σ.H S (σ.J t));generalize σ.J t=x;cases x with
  |ag cs =>
   refine⟨by simp,λk c d hc hd=>?_⟩;rw[Aw,hc]at hd;injection hd with hd;subst hd
   exact lD c
  |d y=>exact lD (S:=S) (σ:=σ) (.d y)
  |nil=>exact lD (S:=S) (σ:=σ) .nil
  |un=>exact lD (S:=S) (σ:=σ) .un
  |ub=>exact lD (S:=S) (σ:=σ) .ub
  |any=>exact lD (S:=S) (σ:=σ) .any
  |fp cs=>exact lD (S:=S) (σ:=σ) (.fp cs)
  |fn f cs=>exact lD (S:=S) (σ:=σ) (.fn f cs)
  |fd els=>exact lD (S:=S) (σ:=σ) (.fd els)
  |tp cs=>exact lD (S:=S) (σ:=σ) (.tp cs)
  |own id off len sz =>
   have h:=lD (S:=S) (σ:=σ) (.own id off len sz);simp only[fzs];generalize fz σ.H S (.own id off len sz)=y at h;cases y<;>exact h
  |ptr id off =>
   have h:=lD (S:=S) (σ:=σ) (.ptr id off);simp only[fzs];generalize fz σ.H S (.ptr id off)=y at h;cases y<;>exact h
  |mp id =>
   have h:=lD (S:=S) (σ:=σ) (.mp id);simp only[fzs];generalize fz σ.H S (.mp id)=y at h;cases y<;>exact h
  |kf f id =>
   have h:=lD (S:=S) (σ:=σ) (.kf f id);simp only[fzs];generalize fz σ.H S (.kf f id)=y at h;cases y<;>exact h
 ·simp only[aBh]at h;split at h
  ·cases h
  ·obtain⟨o,ho,rfl⟩:=Aj.1 h;refine⟨o,ho,?_⟩;cases o with
   |iter k l es=>exact⟨rfl,rfl,rfl⟩
   |cells e cs =>
    refine⟨rfl,by simp,λk c d hc hd=>?_⟩;rw[Aw,hc]at hd;injection hd with hd;subst hd
    exact lD c
   |map k es =>
    refine⟨rfl,by simp,λj x y hx hy=>?_⟩;rw[Aw,hx]at hy;injection hy with hy;subst hy
    refine⟨rfl,?_⟩;simp only[fzm];split
    ·rename_i d hd;split
     ·rename_i hv;have:frz σ.H 8 x.2=some d/\∀a∈vis σ.H 8 x.2,∀id,((aBh S σ).H id).isSome=true->id≠a:=by refine⟨hd,λa ha id hid e=>?_⟩;have h3:=Ay.1 hv a ha;simp only[AI]at h3;exact(lM.1 hid).1 (e ▸ h3)
      generalize x.2=z at this;cases z<;>exact .inl this
     ·generalize x.2=z;cases z<;>exact .inl trivial
    ·generalize x.2=z;cases z<;>exact .inl trivial
def iter(body:St->Option (Exit×St)):Nat->St->Option (Exit×St)
 |0,_=>none
 |n+1,σ=>match body σ with
  |some (.normal,σ')=>iter body n σ'
  |r=>r
def ex(P:Program)(E:Kn)(fuel:Nat):Code->St->Option (Exit×St)
 |.skip,σ=>some (.normal,σ)
 |.region _ ops _,σ=>match OE P E ops ops.toList σ []with
  |some (σ',con)=>match con.filter (λi=>decide (i<σ.n))with
   |[]=>some (.normal,fin σ' con)
   |i::S=>match OE P E ops ops.toList (aBh (i::S) σ) []with
    |some (σ2,con2)=>some (.normal,fin σ2 con2)
    |none=>some (.normal,fin σ' con)
  |none=>none
 |.seq x y,σ=>match ex P E fuel x σ with
  |some (.normal,σ')=>ex P E fuel y σ'
  |r=>r
 |.cond c x y,σ=>match oev σ.J c with
  |.d (.b true)=>ex P E fuel x σ
  |.d (.b false)=>ex P E fuel y σ
  |_=>none
 |.block id c,σ=>match ex P E fuel c σ with
  |some (.exit id',σ')=>if id'=id then some (.normal,σ')else some (.exit id',σ')
  |r=>r
 |.loop c,σ=>iter (ex P E fuel c) fuel σ
 |.exit id,σ=>some (.exit id,σ)
 |.ret,σ=>some (.ret,σ)
 |.label _,σ=>some (.normal,σ)
 |.scope c,σ=>match ex P E fuel c σ with
  |some (.goto _,_)=>none
  |r=>r
 |_,_=>none
section
variable {P:Program} {G:Ctx} {N:Nat} {ds:List Deferred} {E:Kn}
def bDy{rd:Bool}{WW:Code->(Exit->Act->World->Prop)->Act->World->Prop}(hW:WpR P rd WW)(hE:aTu P E)(hm:P.follows .mixedOrders=true){z:Nat->Bool}(hz:∀d v,G.Z d=some v->z d=true)(fuel:Nat) :
  ∀(c:Code) (σ:St) (a:Act) (w:World) (e:Exit) (σ':St),dK N c=true->eC P c=true->oI z c=true->(rd=true->pU c=true)->ex P E fuel c σ=some (e,σ')->SR G N ds σ a w ->
  WW c (λe' a' w'=>e'=e/\SR G N ds σ' a' w') a w:=by
 intro c
 induction c with
 |skip=>intro σ a w e σ' _ _ _ _ h hs;simp only[ex,AU,ED]at h;obtain⟨rfl,rfl⟩:=h;exact hW.skip ⟨rfl,hs⟩
 |region id ops draw =>
  intro σ a w e σ' hd hl hnz hnd h hs
  have one:∀(σ0 σ1:St) (con:List Nat),OE P E ops ops.toList σ0 []=some (σ1,con)->SR G N ds σ0 a w->WW (.region id ops draw) (λe' a' w'=>e'=.normal/\SR G N ds (fin σ1 con) a' w') a w:=by intro σ0 σ1 con hp hs0;refine yK hW (Q:=λs=>s=fin σ1 con) hm (yO hz hd hnz) hnd (λhdr=>by simpa[eC,hdr]using hl) hs0 (aHm hE _ _ _ _ hp rfl) ?_;rintro σ' a' w' rfl hs';exact⟨rfl,hs'⟩
  simp only[ex]at h
  split at h
  ·rename_i σ1 con hp
   split at h
   ·injection h with h;injection h with h1 h2;subst h1;subst h2
    exact one σ σ1 con hp hs
   ·rename_i i S hS
    split at h
    ·rename_i σ2 con2 hp2
     injection h with h;injection h with h1 h2;subst h1;subst h2
     exact one _ σ2 con2 hp2 (aDy (bTm (i::S) σ hs.1) hs)
    ·injection h with h;injection h with h1 h2;subst h1;subst h2
     exact one σ σ1 con hp hs
  ·cases h
 |seq x y ihx ihy =>
  intro σ a w e σ' hd hl hnz hnd h hs
  simp only[dK,eC,oI,pU,AO]at hd hl hnz hnd
  simp only[ex]at h
  split at h
  ·rename_i σ1 h1
   refine hW.seq (hW.mono (ihx σ a w _ _ hd.1 hl.1 hnz.1 (λe=>(hnd e).1) h1 hs) ?_)
   rintro e' a' w' ⟨rfl,hs'⟩
   exact ihy _ a' w' _ _ hd.2 hl.2 hnz.2 (λe=>(hnd e).2) h hs'
  ·rename_i hne
   refine hW.seq (hW.mono (ihx σ a w _ _ hd.1 hl.1 hnz.1 (λe=>(hnd e).1) h hs) ?_)
   rintro e' a' w' ⟨rfl,hs'⟩
   cases e' with
   |normal=>exact(hne _ h).elim
   |_=>exact⟨rfl,hs'⟩
 |cond c x y ihx ihy =>
  intro σ a w e σ' hd hl hnz hnd h hs
  simp only[dK,eC,oI,pU,AO]at hd hl hnz hnd
  have hc:∀t,oev σ.J c=.d (.b t)->a.eval c=.bool t:=by
   intro t ht;obtain⟨_,_,F,ι,_,_,hV,_⟩:=hs;have:=fD (J:=σ.J) (a:=a) (x:=c) (F:=F) (w:=w) (ι:=ι) λt _=>hV t
   rw[ht]at this;generalize a.eval c=v at this;cases this with|d _ _ h=>cases h;rfl
  simp only[ex]at h
  split at h
  ·rename_i ht;exact hW.cond (hc _ ht) (ihx σ a w _ _ hd.1 hl.1 hnz.1 (λe=>(hnd e).1) h hs)
  ·rename_i ht;exact hW.cond (hc _ ht) (ihy σ a w _ _ hd.2 hl.2 hnz.2 (λe=>(hnd e).2) h hs)
  ·cases h
 |block id c ih =>
  intro σ a w e σ' hd hl hnz hnd h hs
  simp only[ex]at h
  split at h
  ·rename_i id' σ1 h1
   refine hW.block (hW.mono (ih σ a w _ _ hd hl hnz hnd h1 hs) ?_)
   rintro e' a' w' ⟨rfl,hs'⟩
   simp only[Exit.inBlock]
   split at h
   ·rename_i he;injection h with h;injection h with h1 h2;subst h1;subst h2;rw[Ad he];exact⟨rfl,hs'⟩
   ·rename_i he;injection h with h;injection h with h1 h2;subst h1;subst h2;rw[Ac he];exact⟨rfl,hs'⟩
  ·rename_i hne
   refine hW.block (hW.mono (ih σ a w _ _ hd hl hnz hnd h hs) ?_)
   rintro e' a' w' ⟨rfl,hs'⟩
   cases e' with
   |exit id'=>exact(hne _ _ h).elim
   |_=>exact⟨rfl,hs'⟩
 |loop c ih =>
  intro σ a w e σ' hd hl hnz hnd h hs
  simp only[ex]at h
  refine hW.loop (λn a w=>∃σ,iter (ex P E fuel c) n σ=some (e,σ')/\SR G N ds σ a w) ⟨fuel,σ,h,hs⟩ ?_
  rintro n a w ⟨σ1,h1,hs1⟩
  cases n with
  |zero=>cases h1
  |succ n =>
   simp only[iter]at h1
   split at h1
   ·rename_i σ2 h2
    refine hW.mono (ih σ1 a w _ _ hd hl hnz hnd h2 hs1) ?_
    rintro e' a' w' ⟨rfl,hs'⟩
    exact⟨n,AK n,_,h1,hs'⟩
   ·rename_i hne
    refine hW.mono (ih σ1 a w _ _ hd hl hnz hnd h1 hs1) ?_
    rintro e' a' w' ⟨rfl,hs'⟩
    cases e' with
    |normal=>exact(hne _ h1).elim
    |_=>exact⟨rfl,hs'⟩
 |exit id=>intro σ a w e σ' _ _ _ _ h hs;simp only[ex,AU,ED]at h;obtain⟨rfl,rfl⟩:=h;exact hW.exit ⟨rfl,hs⟩
 |ret=>intro σ a w e σ' _ _ _ _ h hs;simp only[ex,AU,ED]at h;obtain⟨rfl,rfl⟩:=h;exact hW.ret ⟨rfl,hs⟩
 |label l=>intro σ a w e σ' _ _ _ _ h hs;simp only[ex,AU,ED]at h;obtain⟨rfl,rfl⟩:=h;exact hW.label ⟨rfl,hs⟩
 |scope c ih =>
  intro σ a w e σ' hd hl hnz hnd h hs
  simp only[ex]at h
  split at h
  ·cases h
  ·rename_i hne
   have hrd:rd=false:=by
    cases rd with
    |false=>rfl
    |true=>exact absurd (hnd rfl) (by simp[pU])
   refine hW.scope hrd (hW.mono (ih σ a w _ _ hd hl hnz (λe=>by rw[hrd]at e;cases e) h hs) ?_)
   rintro e' a' w' ⟨rfl,hs'⟩
   cases e' with
   |goto l=>exact(hne _ _ h).elim
   |_=>exact⟨rfl,hs'⟩
 |_=>intro σ a w e σ' _ _ _ _ h;cases h
def zM(hE:aTu P E)(hm:P.follows .mixedOrders=true)(hZ:∀d,G.Z d=none)(fuel:Nat)(c:Code)(σ:St)(a:Act)(w:World)(e:Exit)(σ':St)(hd:dK N c=true)(hl:eC P c=true)(h:ex P E fuel c σ=some (e,σ'))(hs:SR G N ds σ a w) :
  c.wp P (λe' a' w'=>e'=e/\SR G N ds σ' a' w') a w :=
 bDy (WpR.plain P) hE hm (z:=λ_=>false) (λd v e=>by rw[hZ]at e;cases e) fuel c σ a w e σ' hd hl (zR c) (λe=>by cases e) h hs
end
def aWb (P:Program) (fn:Func) (c:Code):Bool:=dK fn.ntmps c && eC P c && !(fn.name == "runtime.NumGoroutine")
def bIe(c:Code):Option (Code×FuncId×Code):=match c with
 |.seq r0 (.seq rd rest)=>(qN rd).map λg=>(r0,g,rest)
 |_=>none
def aUl {P:Program} {f N:Nat} {fn:Func} {c:Code} {args:List D} {r:D} {e:Exit} {σ:St} (hf:P.funcs[f]? = some fn) (hb:fn.body=some c) (hname:(fn.name == "runtime.NumGoroutine")=false) (hN:fn.ntmps=N)
  (ha:args.length<=N) (h:∀(G:Ctx) (a:Act) (w:World),(∀d,G.Z d=none)->SR G N [] (St0 args N) a w->c.wp P (λe' a' w'=>e'=e/\SR G N [] σ a' w') a w) (he:e=.normal\/e=.ret) (hr:mY P fn.results.toList σ=some r):Spec P f args r:=by
 intro A W vs hA hl hv
 have hn:¬ fn.name = "runtime.NumGoroutine" := by simpa using hname
 refine⟨λw=>by simp[callFunc,hf,hn,hb],?_⟩
 refine calls_of_wp hf hb ?_
 subst hN
 refine wp_mono (h _ _ _ (λ_=>rfl) (SR0 hA hl hv ha)) ?_
 rintro e' a w ⟨rfl,hs⟩
 obtain⟨v,hrun,hvd⟩:=nR hs hr
 obtain⟨_,_,F,ι,hR,_,_,_,hdf,_⟩:=hs
 have hend:a.defers=[]/\∃v,(results fn a.tmps).run P w=.ok v w/\∃v',DM v=.returned v'/\Below W.heap.size W w/\VD (λb=>A b\/(W.heap.size<=b/\b<w.heap.size)) w r v':=by
  refine⟨hdf,v,hrun,v,rfl,⟨hR.kept.os,hR.kept.tape,hR.kept.output,hR.kept.size,λk hk=>hR.kept.block k hk (λh=>h)⟩,hvd.mono ?_⟩;rintro b (h|h|h)
  ·exact .inl h
  ·exact h.elim
  ·exact .inr h
 rcases he with rfl|rfl<;>exact hend
def aPf {P:Program} {f N:Nat} {fn:Func} {g:FuncId} {r0 rd rest:Code} {args:List D} {r:D} {e:Exit} {σ0 σ:St} (hf:P.funcs[f]? = some fn) (hb:fn.body=some (.seq r0 (.seq rd rest))) (hname:(fn.name == "runtime.NumGoroutine")=false)
  (hN:fn.ntmps=N) (hg:qN rd=some g) (hrec:gQ P g) (ha:args.length<=N) (h:∀(G:Ctx) (a:Act) (w:World),(∀d,G.Z d=none)->SR G N [] (St0 args N) a w->r0.wp P (λe' a' w'=>e'=.normal/\SR G N [] σ0 a' w') a w)
  (h':∀(G:Ctx) (a:Act) (w:World),(∀d,G.Z d=none)->SR G N [{ target:=.fn (.func g) #[],args:=#[] }] σ0 a w->rest.wp P (λe' a' w'=>e'=e/\SR G N [{ target:=.fn (.func g) #[],args:=#[] }] σ a' w') a w)
  (he:e=.normal\/e=.ret) (hr:mY P fn.results.toList σ=some r):Spec P f args r:=by
 intro A W vs hA hl hv
 have hn:¬ fn.name = "runtime.NumGoroutine" := by simpa using hname
 refine⟨λw=>by simp[callFunc,hf,hn,hb],?_⟩
 refine calls_of_wp_defers hf hb ?_
 subst hN
 refine wp_seq (wp_mono (h _ _ _ (λ_=>rfl) (SR0 hA hl hv ha)) ?_)
 rintro e' a w ⟨rfl,hs0⟩
 refine wp_seq (rW hg ?_)
 refine wp_mono (h' _ _ _ (λ_=>rfl) (aAd { target:=.fn (.func g) #[],args:=#[] } hs0)) ?_
 rintro e' a w ⟨rfl,hs⟩
 rcases he with rfl|rfl<;>exact sG hrec hs hr
def bTz(P:Program)(fn:Func):Option (Exit×St)->Option D
 |some (.normal,σ)=>mY P fn.results.toList σ
 |some (.ret,σ)=>mY P fn.results.toList σ
 |_=>none
def bXf(P:Program)(E:Kn)(fuel:Nat)(f:FuncId)(args:List D):Option D :=
 match P.funcs[f]? with
 |none=>none
 |some fn=>match fn.body with
  |none=>none
  |some c=>match bIe c with
   |none=>if aWb P fn c&&decide (args.length<=fn.ntmps)then bTz P fn (ex P E fuel c (St0 args fn.ntmps))else none
   |some (r0,g,rest)=>if aWb P fn r0&&aWb P fn rest&&E.recs g&&decide (args.length<=fn.ntmps)then match ex P E fuel r0 (St0 args fn.ntmps)with
     |some (.normal,σ)=>bTz P fn (ex P E fuel rest σ)
     |_=>none
    else none
def bHc(P:Program)(E:Kn)(fuel:Nat)(f:FuncId)(h:AV)(o:HO)(args:List D):Option (HO×D) :=
 match P.funcs[f]? with
 |none=>none
 |some fn=>match fn.body,o with
  |some c,.map _ _=>if aWb P fn c&&decide (args.length+1<=fn.ntmps)then match ex P E fuel c (St1 h o args fn.ntmps)with
   |some (e,σ)=>match σ.H 0,bTz P fn (some (e,σ))with
    |some (.map k es),some r=>if oG (.map k es)&&nmB 8 r then some (.map k es,r)else none
    |_,_=>none
   |none=>none
   else none
  |_,_=>none
def runK(P:Program)(E:Kn)(fuel:Nat):Nat->Kn
 |0=>{ E with call:=λ_ _=>none,ocall:=λ_ _ _ _=>none }
 |n+1=>{ E with
   call:=λf args=>match E.call f args with|some r=>some r|none=>bXf P (runK P E fuel n) fuel f args
   ocall:=λf h o args=>match E.ocall f h o args with|some r=>some r|none=>bHc P (runK P E fuel n) fuel f h o args }
def aBk{P:Program}{fn:Func}{e:Exit}{σ:St}{r:D}(h:bTz P fn (some (e,σ))=some r):(e=.normal\/e=.ret)/\mY P fn.results.toList σ=some r:=by cases e<;>first|exact⟨.inl rfl,h⟩|exact⟨.inr rfl,h⟩|cases h
def aUv{P:Program}{E:Kn}{fuel:Nat}(hm:P.follows .mixedOrders=true)(hE:aTu P E){f:FuncId}{args:List D}{r:D}(h:bXf P E fuel f args=some r):Spec P f args r:=by
 unfold bXf at h;split at h
 ·cases h
 rename_i fn hfn;split at h
 ·cases h
 rename_i c hc;split at h
 ·split at h
  case isFalse=>cases h
  rename_i hok;simp only[aWb,AO,Co,AI]at hok;obtain⟨⟨⟨h1,h2⟩,h3⟩,h4⟩:=hok;cases hex:ex P E fuel c (St0 args fn.ntmps)with
  |none=>rw[hex]at h;cases h
  |some p =>
   obtain⟨e,σ⟩:=p;rw[hex]at h;obtain⟨he,hr⟩:=aBk h;exact aUl hfn hc h3 rfl h4 (λG a w hZ hs=>zM hE hm hZ fuel c _ a w _ _ h1 h2 hex hs) he hr
 ·rename_i r0 g rest hp;split at h
  case isFalse=>cases h
  rename_i hok;simp only[aWb,AO,Co,AI]at hok;obtain⟨⟨⟨⟨⟨h1,h2⟩,h3⟩,⟨h1',h2'⟩,_⟩,hg⟩,h4⟩:=hok;split at h
  case h_2=>cases h
  rename_i σ0 hex0;cases hex:ex P E fuel rest σ0 with
  |none=>rw[hex]at h;cases h
  |some p =>
   obtain⟨e,σ⟩:=p;rw[hex]at h;obtain⟨he,hr⟩:=aBk h;unfold bIe at hp;split at hp
   case h_2=>cases hp
   rename_i r0' rd rest';obtain⟨g',hg',hp⟩:=Aj.1 hp;injection hp with e1 hp;injection hp with e2 e3;subst e1;subst e2;subst e3
   exact aPf hfn hc h3 rfl hg' (hE.recs _ hg) h4 (λG a w hZ hs=>wp_mono (zM hE hm hZ fuel _ _ a w _ _ h1 h2 hex0 hs) λe a w h=>h)
    (λG a w hZ hs=>zM hE hm hZ fuel _ _ a w _ _ h1' h2' hex hs) he hr
def aPn{P:Program}{E:Kn}{fuel:Nat}(hm:P.follows .mixedOrders=true)(hE:aTu P E){f:FuncId}{h0:AV}{o o':HO}{args:List D}{r:D}(h:bHc P E fuel f h0 o args=some (o',r)):tJ P f h0 o args o' r:=by
 unfold bHc at h;split at h
 ·cases h
 rename_i fn hfn;split at h
 case h_2=>cases h
 rename_i c kd es hc;split at h
 case isFalse=>cases h
 rename_i hok;simp only[aWb,AO,Co,AI]at hok;obtain⟨⟨⟨h1,h2⟩,h3⟩,h4⟩:=hok;split at h
 case h_2=>cases h
 rename_i e σ hex;split at h
 case h_2=>cases h
 rename_i k1 es1 r1 hH hr;split at h
 case isFalse=>cases h
 rename_i hfl;rw[AO]at hfl;obtain⟨hfl,hnm⟩:=hfl;injection h with h;injection h with e1 e2;subst e1;subst e2
 have hr2:=aBk hr;obtain⟨he,hr3⟩:=hr2;refine aQp hfn hc h3 rfl h4 ⟨_,_,rfl⟩ ⟨_,_,rfl⟩ hfl (aFh _ _ hnm) λG a w hZ hs=>wp_mono (zM hE hm hZ fuel c _ a w _ _ h1 h2 hex hs) ?_
 rintro e' a' w' ⟨rfl,hs'⟩;exact⟨σ,⟨he,hr3,hH⟩,hs'⟩
def aLy{P:Program}{E:Kn}{fuel:Nat}(hm:P.follows .mixedOrders=true)(hE:aTu P E):∀n,aTu P (runK P E fuel n)
 |0=>⟨(λ_ _ _ h=>by cases h),(λ_ _ _ _ _ _ h=>by cases h),hE.keys,hE.sorted,hE.recs⟩
 |n+1=>by
  have ih:=aLy (fuel:=fuel) hm hE n;refine⟨λf ds r h=>?_,λf h0 o ds o' r h=>?_,hE.keys,hE.sorted,hE.recs⟩
  ·unfold runK at h;simp only at h;split at h
   ·rename_i r' hr';injection h with h;subst h;exact hE.call _ _ _ hr'
   ·exact aUv hm ih h
  ·unfold runK at h;simp only at h;split at h
   ·rename_i r' hr';injection h with h;subst h;exact hE.ocall _ _ _ _ _ _ hr'
   ·exact aPn hm ih h
end Go.Am
end
section
open List renaming map_map->C,mapM_map->K
namespace Go.Am
variable {P:Program}
@[congr]def cAi{c:Code}{σ σ':St}{Q:Exit->St->Prop}(h:σ=σ'):AWP P c σ Q=AWP P c σ' Q:=by rw[h]
def aTg(σ:St)(Q:Exit->St->Prop):AWP P .skip σ Q=Q .normal σ:=rfl
def bAm(x y:Code)(σ:St)(Q:Exit->St->Prop):AWP P (.seq x y) σ Q=AWP P x σ λe σ'=>match e with|.normal=>AWP P y σ' Q|e=>Q e σ':=rfl
def aKv(id:Nat)(c:Code)(σ:St)(Q:Exit->St->Prop):AWP P (.block id c) σ Q=AWP P c σ λe σ'=>match e with|.exit id'=>if id'=id then Q .normal σ' else Q (.exit id') σ'|e=>Q e σ':=rfl
def aTh(id:Nat)(σ:St)(Q:Exit->St->Prop):AWP P (.exit id) σ Q=Q (.exit id) σ:=rfl
def bAn(σ:St)(Q:Exit->St->Prop):AWP P .ret σ Q=Q .ret σ:=rfl
def aKt(l:Nat)(σ:St)(Q:Exit->St->Prop):AWP P (.label l) σ Q=Q .normal σ:=rfl
def aKr(c:Code)(σ:St)(Q:Exit->St->Prop):AWP P (.scope c) σ Q=AWP P c σ λe σ'=>match e with|.goto _=>False|e=>Q e σ':=rfl
def IfA(t:Bool)(A B:Prop):Prop:=if t then A else B
@[congr]def cAh{t t':Bool}{A B:Prop}(h:t=t'):IfA t A B=IfA t' A B:=by rw[h]
def bWo(P:Program)(f:FuncId)(avs:List AV)(H:Hp)(k:D->Prop):Prop:=∃ds r,fW H avs=some ds/\Spec P f ds r/\k r
@[congr]def bWj{f:FuncId}{avs avs':List AV}{H H':Hp}{k:D->Prop}(h:avs=avs')(h2:H=H'):bWo P f avs H k=bWo P f avs' H' k:=by rw[h,h2]
def jA(H:Hp)(n id off len sz:Nat):frz H (n+1) (.own id off len sz)=match H id with
  |some (.cells _ cs)=>if(off+len)*sz<=cs.length/\0<sz then(((cs.drop (off*sz)).take (len*sz)).mapM (frz H n)).map λl=>.sl (chunk sz len l)else none
  |_=>none:=rfl
def bYx(H:Hp)(n:Nat)(els:List (List D)):frz H (n+1) (.fd els)=some (.sl els):=rfl
def bTi(H:Hp)(n:Nat):frz H (n+1) .nil=some (.sl []):=rfl
def bLn(H:Hp)(n:Nat)(x:D):frz H (n+1) (.d x)=some x:=rfl
def vK(l:List Nat)(ds:List D):(ds.map AV.d).map (fV l)=ds.map AV.d:=by simp[fV,Function.comp_def]
def mA(H:Hp)(n:Nat):∀(ds:List D),(ds.map AV.d).mapM (frz H (n+1))=some ds
 |[]=>rfl
 |d::ds=>by rw[AZ,Ca,mA H n ds,bLn];rfl
def aOl:∀(n:Nat) (x:AV),vis (λ_=>none) n x=[]
 |0,_=>rfl
 |n+1,x=>by have ih:=aOl n;cases x<;>simp[vis,ih]
def aVt(avs:List AV)(r:D):bS (λ_=>none) avs r=[]:=by
 unfold bS fK;split
 ·rfl
 ·simp[aOl]
end Go.Am
end
section
open List renaming map_map->C,mapM_map->K
namespace Go.Am
def jO:List (Nat×AV)->Nat->AV
 |[]=>λ_=>.any
 |p::l=>upd (jO l) p.1 p.2
def qA:Nat->List HO->Hp
 |_,[]=>λ_=>none
 |i,o::os=>upd (qA (i+1) os) i (some o)
def bZx(o0:Option HO)(H:Hp):Hp:=match o0 with
 |none=>H
 |some o=>upd H 0 (some o)
def StL(sl:List (Nat×AV))(o0:Option HO)(hs:List HO):St:=⟨jO sl,bZx o0 (qA 1 hs),hs.length+1⟩
def uU:∀(hs:List HO) (i j:Nat),qA i hs j=if i<=j then hs[j-i]? else none
 |[],i,j=>by simp[qA]
 |o::os,i,j=>by
  unfold qA upd;by_cases h:j=i
  ·subst h;simp
  ·rw[Ac h,uU os (i+1) j];by_cases h1:i+1<=j
   ·rw[Ad h1,Ad (by omega),show j-i=(j-(i+1))+1 from by omega,List.getElem?_cons_succ]
   ·rw[Ac h1,Ac (by omega)]
def aNt(sl:List (Nat×AV))(o0:Option HO)(hs:List HO):(StL sl o0 hs).H 0=o0:=by
 unfold StL bZx;cases o0 with
 |none=>simp[uU]
 |some o=>rfl
def aBv(sl:List (Nat×AV))(o0:Option HO)(hs:List HO)(i:Nat):(StL sl o0 hs).H (i+1)=hs[i]? := by
 unfold StL bZx;cases o0 with
 |none=>simp[uU]
 |some o=>simp[upd,uU]
def yD:∀(l:List (Nat×AV)) (t:Nat),jO l t=.any\/∃p∈l,p.1=t/\jO l t=p.2
 |[],t=>.inl rfl
 |p::l,t=>by
  by_cases h:t=p.1
  ·exact .inr ⟨p,Av ..,h.symm,by simp[jO,upd,h]⟩
  ·have e:jO (p::l) t=jO l t:=by simp[jO,upd,h]
   rw[e];rcases yD l t with h|⟨q,hq,h⟩
   ·exact .inl h
   ·exact .inr ⟨q,Au _ hq,h⟩
def aEr(rs:List Nat):Nat->Nat:=λid=>match id with|0=>0|i+1=>rs.getD i 0
def nF(H H':Hp)(ρ:Nat->Nat)(J:Nat->AV):List (Nat×AV)->Prop
 |[]=>True
 |p::l=>Sub H H' ρ (J p.1) p.2/\nF H H' ρ J l
def dY(H H':Hp)(ρ:Nat->Nat):List Nat->List HO->Prop
 |[],[]=>True
 |r::rs,o::os=>(∃o0,H r=some o0/\nC H H' ρ o0 o)/\dY H H' ρ rs os
 |_,_=>False
def qG{H H':Hp}{ρ:Nat->Nat}{J:Nat->AV}:∀{l:List (Nat×AV)},nF H H' ρ J l->∀p∈l,Sub H H' ρ (J p.1) p.2
 |p::l,h,q,hq=>by
  rcases AG.1 hq with rfl|hq
  ·exact h.1
  ·exact qG h.2 q hq
def aHc{H H':Hp}{ρ:Nat->Nat}:∀{rs:List Nat} {os:List HO},dY H H' ρ rs os->rs.length=os.length/\∀(i:Nat) o,os[i]? = some o->∃o0,H (rs.getD i 0)=some o0/\nC H H' ρ o0 o
 |[],[],_=>⟨rfl,λi o h=>by simp at h⟩
 |r::rs,o::os,h=>by
  obtain⟨h1,h2⟩:=h;obtain⟨q1,q2⟩:=aHc h2;refine⟨by simp[q1],λi o' hi=>?_⟩;rcases i with _|i
  ·simp at hi;subst hi;simpa using h1
  ·simpa using q2 i o' (by simpa using hi)
 |[],_::_,h=>h.elim
 |_::_,[],h=>h.elim
def aDp{l:List Nat}{i:Nat}(h:i<l.length):l.getD i 0=l[i]:=by rw[Af,Ab h];rfl
def oN{H H':Hp}{ρ:Nat->Nat}(x:AV):Sub H H' ρ x .any:=by cases x<;>trivial
def aCv{σ:St}{sl:List (Nat×AV)}{o0:Option HO}{hs:List HO}(rs:List Nat)(hnd:(0::rs).Nodup)
  (hslot:nF σ.H (StL sl o0 hs).H (aEr rs) σ.J sl) (h0:∀o',o0=some o'->∃o,σ.H 0=some o/\nC σ.H (StL sl o0 hs).H (aEr rs) o o')
  (hblk:dY σ.H (StL sl o0 hs).H (aEr rs) rs hs):Wk σ (StL sl o0 hs) (aEr rs):=by
 obtain⟨hlen,hget⟩:=aHc hblk
 have hlt:∀i,(((StL sl o0 hs).H (i+1)).isSome=true)->i<rs.length:=λi h=>by
  rw[hlen];rw[aBv]at h;rcases Bf i hs.length with h'|h'
  ·exact h'
  ·rw[AW h']at h;cases h
 have hno:∀i,i<rs.length->rs.getD i 0≠0:=λi hi h=>by have:rs[i]∈rs:=Ar hi;rw[aDp hi]at h;rw[h]at this;exact(DK.1 hnd).1 this
 refine⟨λid h=>?_,λt=>?_,λid o' h=>?_,λid id' h h' e=>?_,λ_=>rfl,λh=>by simp[StL]at h⟩
 ·cases id with
  |zero=>simp[StL]at h
  |succ i=>rw[aBv];simp only[StL]at h;exact AW (by omega)
 ·show Sub _ _ _ _ (jO sl t)
  rcases yD sl t with h|⟨p,hp,rfl,h⟩
  ·rw[h];exact oN _
  ·rw[h];exact qG hslot _ hp
 ·cases id with
  |zero=>rw[aNt]at h;exact h0 o' h
  |succ i=>rw[aBv]at h;exact hget i o' h
 ·cases id with
  |zero=>cases id' with
   |zero=>rfl
   |succ j=>exact absurd e.symm (hno j (hlt j h'))
  |succ i=>cases id' with
   |zero=>exact absurd e (hno i (hlt i h))
   |succ j =>
    have hi:=hlt i h
    have hj:=hlt j h'
    simp only[aEr]at e
    rw[aDp hi,aDp hj]at e
    have:=(List.getElem_inj (DK.1 hnd).2).1 e
    rw[this]
def cDr{σ:St}{sl:List (Nat×AV)}{hs:List HO}(rs:List Nat)(hnd:(0::rs).Nodup)
  (hslot:nF σ.H (StL sl none hs).H (aEr rs) σ.J sl) (hblk:dY σ.H (StL sl none hs).H (aEr rs) rs hs):∃ρ,Wk σ (StL sl none hs) ρ :=
 ⟨_,aCv rs hnd hslot (λ_ h=>by cases h) hblk⟩
def wkQ{σ:St}{sl:List (Nat×AV)}{hs:List HO}(rs:List Nat)(hslot:nF σ.H (StL sl none hs).H (aEr rs) σ.J sl)(hblk:dY σ.H (StL sl none hs).H (aEr rs) rs hs)(hnd:(0::rs).Nodup:=by simp):∃ρ,Wk σ (StL sl none hs) ρ:=cDr rs hnd hslot hblk
def vH{H H':Hp}{ρ:Nat->Nat}(e:TypeId)(l:List D):nC H H' ρ (.cells e (l.map .d)) (.cells e (l.map .d)):=by
 refine⟨rfl,rfl,λk c d h1 h2=>?_⟩;rw[h1]at h2;injection h2 with h2;subst h2
 rw[Aw]at h1;obtain⟨x,_,rfl⟩:=Aj.1 h1;exact⟨rfl,λa ha=>by simp[vis]at ha⟩
def aUi{H H':Hp}{ρ:Nat->Nat}{e:TypeId}{l:List D}{c c':List AV}(h:c=l.map .d)(h':c'=l.map .d):nC H H' ρ (.cells e c) (.cells e c'):=by subst h;subst h';exact vH e l
def bVm{H H':Hp}{ρ:Nat->Nat}(x:D):Sub H H' ρ (.d x) (.d x):=⟨rfl,λa ha=>by simp[vis]at ha⟩
def bXb{H H':Hp}{ρ:Nat->Nat}{x y:D}(h:x=y):Sub H H' ρ (.d x) (.d y):=h ▸ bVm x
def aIr{H H':Hp}{ρ:Nat->Nat}(x y:D):Sub H H' ρ (.d x) (.d y)↔x=y:=by
 constructor
 ·intro h;have:frz H 8 (.d x)=some y:=h.1;rw[bLn]at this;injection this
 ·exact bXb
def aOx{H H':Hp}{ρ:Nat->Nat}{a o l s b o' l' s':Nat}:Sub H H' ρ (.own a o l s) (.own b o' l' s')↔(a=ρ b/\o=o'/\l=l'/\s=s'/\(H' b).isSome=true):=Fy
def aOw{H H':Hp}{ρ:Nat->Nat}{a o b o':Nat}:Sub H H' ρ (.ptr a o) (.ptr b o')↔(a=ρ b/\o=o'/\(H' b).isSome=true):=Fy
def aUg{H H':Hp}{ρ:Nat->Nat}{a b:Nat}:Sub H H' ρ (.mp a) (.mp b)↔(a=ρ b/\(H' b).isSome=true):=Fy
def bPm{H H':Hp}{ρ:Nat->Nat}:Sub H H' ρ .nil .nil↔True:=Fy
def bXa{H H':Hp}{ρ:Nat->Nat}:Sub H H' ρ .un .un↔True:=Fy
def qE{H H':Hp}{ρ:Nat->Nat}{x:AV}{y:D}(h:frz H 8 x=some y)(hv:∀a∈vis H 8 x,∀id,(H' id).isSome=true->ρ id≠a):Sub H H' ρ x (.d y):=by
 have h2:pV H H' ρ x (.d y):=by cases x<;>exact⟨h,hv⟩
 cases x<;>exact h2
def oQ(l:List D)(off:Nat)(x:D)(h:off<l.length):lay (l.map AV.d) off [.d x]=(l.set off x).map .d:=by
 have h1:off+[AV.d x].length<=(l.map AV.d).length:=by rw[List.length_map];exact h
 apply DH;intro k;rw[zE h1,Aw,Aw,List.getElem?_set];by_cases e:off=k
 ·subst e;simp[h]
 ·rw[Ac e,Ac];simp only[List.length_singleton];omega
def wF(l:List D)(n:Nat)(h:n=l.length):chunk 1 n l=l.map λx=>[x]:=by
 subst h;unfold chunk;apply DH;intro k;by_cases hk:k<l.length
 ·simp only[Aw,List.getElem?_range hk,Option.map_some,DE,Ab hk];congr 1;rw[List.drop_eq_getElem_cons hk];rfl
 ·rw[AW (by simpa using hk),AW (by simpa using hk)]
def aCh(l:List (List D))(h:∀x∈l,x.length=3):chunk 3 l.length l.flatten=l:=by
 induction l with
 |nil=>rfl
 |cons a l ih =>
  have ha:=h a (Av ..);have:=ih λx hx=>h x (Au _ hx)
  unfold chunk at this ⊢;rw[AH,List.range_succ_eq_map,AZ,List.map_map,BF];congr 1
  ·simp[ha]
  ·conv=>rhs;rw[<-this]
   apply List.map_congr_left;intro i _;simp only[Function.comp];rw[show Nat.succ i*3=a.length+i*3 from by omega,List.drop_append,List.drop_eq_nil_of_le (by omega)];simp
def bHk(n:Nat)(x:D):(AB n [AV.d x]).flatten=(AB n x).map .d:=by
 induction n with
 |zero=>rfl
 |succ n ih=>simp only[DO,BF,ih];rfl
def bYy(H:Hp)(n:Nat)(cs:List AV):frz H (n+1) (.ag cs)=(cs.mapM (frz H n)).map .ag:=rfl
def jB(H H':Hp)(ρ:Nat->Nat):List AV->List AV->Prop
 |[],[]=>True
 |c::cs,d::ds=>pV H H' ρ c d/\jB H H' ρ cs ds
 |_,_=>False
def fQ{H H':Hp}{ρ:Nat->Nat}:∀{cs ds:List AV},jB H H' ρ cs ds↔(cs.length=ds.length/\∀(k:Nat) c d,cs[k]? = some c->ds[k]? = some d->pV H H' ρ c d)
 |[],[]=>by simp[jB]
 |c::cs,d::ds=>by
  rw[jB,fQ];constructor
  ·rintro⟨h1,h2,h3⟩;refine⟨by simp[h2],λk a b ha hb=>?_⟩;rcases k with _|k
   ·simp at ha hb;subst ha;subst hb;exact h1
   ·exact h3 k a b (by simpa using ha) (by simpa using hb)
  ·rintro⟨h1,h2⟩;exact⟨h2 0 c d rfl rfl,by simpa using h1,λk a b ha hb=>h2 (k+1) a b (by simpa using ha) (by simpa using hb)⟩
 |[],_::_=>by simp[jB]
 |_::_,[]=>by simp[jB]
def fM{H H':Hp}{ρ:Nat->Nat}{e e':TypeId}{cs ds:List AV}:nC H H' ρ (.cells e cs) (.cells e' ds)↔(e=e'/\jB H H' ρ cs ds):=by rw[fQ];rfl
def kL{H H':Hp}{ρ:Nat->Nat}(x y:D):pV H H' ρ (.d x) (.d y)↔x=y:=aIr x y
def bFx{H H':Hp}{ρ:Nat->Nat}:pV H H' ρ .nil .nil↔True:=Fy
def bPn{H H':Hp}{ρ:Nat->Nat}:pV H H' ρ .un .un↔True:=Fy
def aNj{H H':Hp}{ρ:Nat->Nat}{c c':List AV}{l:List D}(h:c=l.map .d)(h':c'=l.map .d):jB H H' ρ c c':=by have:=aUi (H:=H) (H':=H') (ρ:=ρ) (e:=0) h h';exact(fM.1 this).2
def aTd{H H':Hp}{ρ:Nat->Nat}{l l':List D}:jB H H' ρ (l.map .d) (l'.map .d)↔l=l':=by
 constructor
 ·intro h;obtain⟨h1,h2⟩:=fQ.1 h;apply DH;intro k;by_cases hk:k<l.length
  ·have hk':k<l'.length:=by simpa using(by simpa using h1:l.length=l'.length) ▸ hk
   have:=h2 k (.d l[k]) (.d l'[k]) (by simp[hk]) (by simp[hk']);rw[kL]at this;rw[Ab hk,Ab hk',this]
  ·have hl:l.length=l'.length:=by simpa using h1
   have hk':¬k<l'.length:=by omega
   rw[AW (by omega),AW (by omega)]
 ·rintro rfl;exact aNj rfl rfl
def aEl{H H':Hp}{ρ:Nat->Nat}{k:IntKind}{es:List (Int×AV)}(h:∀x∈es,Sub H H' ρ x.2 x.2):nC H H' ρ (.map k es) (.map k es):=by
 refine⟨rfl,rfl,λj x y hx hy=>?_⟩;rw[hx]at hy;injection hy with hy;subst hy
 exact⟨rfl,.inr (h x (List.mem_of_getElem? hx))⟩
def aNi{H H':Hp}{ρ:Nat->Nat}{l:List D}{c c':List AV}:jB H H' ρ (l.map .d++c) (l.map .d++c')↔jB H H' ρ c c':=by
 induction l with
 |nil=>rfl
 |cons x l ih=>simp only[AZ,BP,jB,ih,kL,true_and]
end Go.Am
end
section
open List renaming map_map->C,mapM_map->K
namespace Go.Am
variable {P:Program}
inductive Dm{α:Sort _}(a:α):Type where
 |mk
def eG{α:Type}(x:Option α)(k:α->Prop)(_:Dm k):Prop:=match x with|some a=>k a|none=>False
def aXa{α:Type}(a:α)(k:α->Prop)(d:Dm k):eG (some a) k d=k a:=rfl
def IfD(t:Bool)(A B:Prop)(_:Dm (A,B)):Prop:=if t then A else B
def bLa(A B:Prop)(d:Dm (A,B)):IfD true A B d=A:=rfl
def bDm(A B:Prop)(d:Dm (A,B)):IfD false A B d=B:=by simp[IfD]
def OWd(P:Program)(ops:Array Oper)(l:List Oper)(σ:St)(con:List Nat)(k:St->List Nat->Prop)(_:Dm (ops,l,k)):Prop:=OW P ops l σ con k
def O1d(P:Program)(o:Oper)(σ:St)(con:List Nat)(k:St->List Nat->Prop)(_:Dm (o,k)):Prop:=O1 P o σ con k
def aIj(σ:St)(con:List Nat)(k:St->Prop)(_:Dm k):Prop:=k (fin σ con)
def bQ(σ:St)(k:St->Prop)(d:Dm k):aIj σ [] k d=k σ:=rfl
def bDu(σ:St)(c:Nat)(l:List Nat)(k:St->Prop)(d:Dm k):aIj σ (c::l) k d=k ⟨λt=>lJ (c::l) (σ.J t),λid=>(σ.H id).map (fG (c::l)),σ.n⟩:=rfl
def bOq(P:Program)(v:AV)(x y:Code)(σ:St)(Q:Exit->St->Prop)(_:Dm (x,y,Q)):Prop:=match v with|.d (.b t)=>IfD t (AWP P x σ Q) (AWP P y σ Q) .mk|.ub=>AWP P x σ Q/\AWP P y σ Q|_=>False
def bUg(t:Bool)(x y:Code)(σ:St)(Q:Exit->St->Prop)(d:Dm (x,y,Q)):bOq P (.d (.b t)) x y σ Q d=IfD t (AWP P x σ Q) (AWP P y σ Q) .mk:=rfl
def bMi(x y:Code)(σ:St)(Q:Exit->St->Prop)(d:Dm (x,y,Q)):bOq P .ub x y σ Q d=(AWP P x σ Q/\AWP P y σ Q):=rfl
def aKu(c:Operand)(x y:Code)(σ:St)(Q:Exit->St->Prop):AWP P (.cond c x y) σ Q=bOq P (oev σ.J c) x y σ Q .mk:=rfl
def aCk(id:Nat)(l:List Oper)(draw:Bool)(σ:St)(Q:Exit->St->Prop):AWP P (.region id l.toArray draw) σ Q=OWd P l.toArray l σ [] (λσ' con=>aIj σ' con (Q .normal) .mk) .mk:=rfl
def aTs(P:Program)(c:Code)(σ:St)(Q:Exit->St->Prop)(_:Dm (c,Q)):Prop:=AWP P (.loop c) σ Q
def aKs(c:Code)(σ:St)(Q:Exit->St->Prop):AWP P (.loop c) σ Q=aTs P c σ Q .mk:=rfl
def uD{τ:Type}{c:Code}{σ:St}{Q:Exit->St->Prop}{d:Dm (c,Q)}(S:τ->St)(m:τ->Nat)(x0:τ)(h0:∃ρ,Wk σ (S x0) ρ)
  (h:∀x,AWP P c (S x) λe σ'=>match e with|.normal=>∃y,m y<m x/\WkR σ' (S y)|e=>Q e σ'):aTs P c σ Q d:=aHe S m x0 (.inr h0) h
def LuP(P:Program)(c:Code)(n:Nat)(σ:St)(Q:Exit->St->Prop)(_:Dm (c,Q)):Prop:=LU P c n σ Q
def cO(c:Code)(n:Nat)(σ:St)(Q:Exit->St->Prop)(d:Dm (c,Q)):LuP P c (n+1) σ Q d=AWP P c σ λe σ'=>match e with|.normal=>LuP P c n σ' Q .mk|e=>Q e σ':=rfl
def aFp(n:Nat){c:Code}{σ:St}{Q:Exit->St->Prop}{d:Dm (c,Q)}(h:LuP P c n σ Q .mk):aTs P c σ Q d:=bSj h
def Nxt{τ:Type}(I:τ->Prop)(m:τ->Nat)(S:τ->St)(x:τ)(σ':St)(_:Dm (I,m,S,x)):Prop:=∃y,I y/\m y<m x/\WkR σ' (S y)
def aI{τ:Type}{I:τ->Prop}{m:τ->Nat}{S:τ->St}{x:τ}{σ':St}{d:Dm (I,m,S,x)}(y:τ)(h1:I y)(h2:m y<m x)(h3:∃ρ,Wk σ' (S y) ρ):Nxt I m S x σ' d:=⟨y,h1,h2,.inr h3⟩
def aP{τ:Type}{c:Code}{σ:St}{Q:Exit->St->Prop}{d:Dm (c,Q)}(I:τ->Prop)(S:τ->St)(m:τ->Nat)(x0:τ)(hI:I x0)(h0:∃ρ,Wk σ (S x0) ρ)
  (h:∀x,I x->AWP P c (S x) λe σ'=>match e with|.normal=>Nxt I m S x σ' .mk|e=>Q e σ'):aTs P c σ Q d:=by
 refine uD (τ:={ x:τ // I x }) (λx=>S x.1) (λx=>m x.1) ⟨x0,hI⟩ h0 λx=>?_
 refine cast (congrArg (AWP P c (S x.1)) ?_) (h x.1 x.2)
 funext e σ'
 cases e with
 |normal=>exact propext ⟨λ⟨y,h1,h2,h3⟩=>⟨⟨y,h1⟩,h2,h3⟩,λ⟨y,h2,h3⟩=>⟨y.1,y.2,h2,h3⟩⟩
 |_=>rfl
def ExP(Q:Exit->St->Prop)(e:Exit)(σ:St)(_:Dm Q):Prop:=∃σ2,WkR σ σ2/\Q e σ2
def bZb{Q:Exit->St->Prop}{e:Exit}{σ:St}{d:Dm Q}(σ2:St)(hw:∃ρ,Wk σ σ2 ρ)(h:Q e σ2):ExP Q e σ d:=⟨σ2,.inr hw,h⟩
def aVo{τ:Type}{c:Code}{σ:St}{Q:Exit->St->Prop}{d:Dm (c,Q)}(I:τ->Prop)(S:τ->St)(m:τ->Nat)(x0:τ)(hI:I x0)(h0:∃ρ,Wk σ (S x0) ρ)
  (h:∀x,I x->AWP P c (S x) λe σ'=>match e with|.normal=>Nxt I m S x σ' .mk|e=>ExP Q e σ' .mk):aTs P c σ Q d:=by
 refine(⟨{ x:τ // I x },λx=>S x.1,λx=>m x.1,⟨x0,hI⟩,.inr h0,λx=>?_⟩:AWP P (.loop c) σ Q)
 refine aHq c (λe σ' h=>?_) (h x.1 x.2)
 cases e with
 |normal=>obtain⟨y,h1,h2,h3⟩:=h;exact⟨⟨y,h1⟩,h2,h3⟩
 |_=>exact h
def dG{o:Oper}{σ:St}{con:List Nat}{k:St->List Nat->Prop}{d:Dm (o,k)} (h:O1 P o σ con k=(kind P o.op=0/\match nev P o.op σ.J σ.n with
  |some (av,nb)=>k ⟨bT σ.J o.dst av,jE σ.H σ.n nb,cnt nb σ.n⟩ con
  |none=>False)) (hk:kind P o.op=0):O1d P o σ con k d=eG (nev P o.op σ.J σ.n) (λp=>k ⟨bT σ.J o.dst p.1,jE σ.H σ.n p.2,cnt p.2 σ.n⟩ con) .mk:=by
 rw[O1d,h]
 simp only[hk,true_and]
 cases nev P o.op σ.J σ.n with
 |none=>rfl
 |some p=>obtain⟨a,b⟩:=p;rfl
section
variable (dst:Option Tmp) (ty:TypeId) (pos:String) (after:Array Edge) (guard:Option (Nat×Bool)) (σ:St) (con:List Nat) (k:St->List Nat->Prop)
def aYw(x:Operand)(d:Dm ((⟨dst,.move x,ty,pos,after,guard⟩:Oper),k)):O1d P ⟨dst,.move x,ty,pos,after,guard⟩ σ con k d=eG (nev P (.move x) σ.J σ.n) (λp=>k ⟨bT σ.J dst p.1,jE σ.H σ.n p.2,cnt p.2 σ.n⟩ con) .mk:=dG rfl rfl
def aCc(x:Operand)(d:Dm ((⟨dst,.nilCheck x,ty,pos,after,guard⟩:Oper),k)):O1d P ⟨dst,.nilCheck x,ty,pos,after,guard⟩ σ con k d=eG (nev P (.nilCheck x) σ.J σ.n) (λp=>k ⟨bT σ.J dst p.1,jE σ.H σ.n p.2,cnt p.2 σ.n⟩ con) .mk:=dG rfl rfl
def aJn(x:Operand)(d:Dm ((⟨dst,.assign x,ty,pos,after,guard⟩:Oper),k)):O1d P ⟨dst,.assign x,ty,pos,after,guard⟩ σ con k d=eG (nev P (.assign x) σ.J σ.n) (λp=>k ⟨bT σ.J dst p.1,jE σ.H σ.n p.2,cnt p.2 σ.n⟩ con) .mk:=dG rfl rfl
def aYv(a b c:Operand)(d:Dm ((⟨dst,.pick a b c,ty,pos,after,guard⟩:Oper),k)):O1d P ⟨dst,.pick a b c,ty,pos,after,guard⟩ σ con k d=eG (nev P (.pick a b c) σ.J σ.n) (λp=>k ⟨bT σ.J dst p.1,jE σ.H σ.n p.2,cnt p.2 σ.n⟩ con) .mk:=dG rfl rfl
def aRe(e:TypeId)(d:Dm ((⟨dst,.alloc e,ty,pos,after,guard⟩:Oper),k)):O1d P ⟨dst,.alloc e,ty,pos,after,guard⟩ σ con k d=eG (nev P (.alloc e) σ.J σ.n) (λp=>k ⟨bT σ.J dst p.1,jE σ.H σ.n p.2,cnt p.2 σ.n⟩ con) .mk:=dG rfl rfl
def bIr(e:TypeId)(x:Operand)(d:Dm ((⟨dst,.box e x,ty,pos,after,guard⟩:Oper),k)):O1d P ⟨dst,.box e x,ty,pos,after,guard⟩ σ con k d=eG (nev P (.box e x) σ.J σ.n) (λp=>k ⟨bT σ.J dst p.1,jE σ.H σ.n p.2,cnt p.2 σ.n⟩ con) .mk:=dG rfl rfl
def aRc(e:TypeId)(x:Array (Nat×Operand))(d:Dm ((⟨dst,.build e x,ty,pos,after,guard⟩:Oper),k)):O1d P ⟨dst,.build e x,ty,pos,after,guard⟩ σ con k d=eG (nev P (.build e x) σ.J σ.n) (λp=>k ⟨bT σ.J dst p.1,jE σ.H σ.n p.2,cnt p.2 σ.n⟩ con) .mk:=dG rfl rfl
def wY(e:TypeId)(n:Nat)(x:Array (Nat×Operand))(d:Dm ((⟨dst,.buildSlice e n x,ty,pos,after,guard⟩:Oper),k)):O1d P ⟨dst,.buildSlice e n x,ty,pos,after,guard⟩ σ con k d=eG (nev P (.buildSlice e n x) σ.J σ.n) (λp=>k ⟨bT σ.J dst p.1,jE σ.H σ.n p.2,cnt p.2 σ.n⟩ con) .mk:=dG rfl rfl
def yQ(e:TypeId)(x y:Operand)(d:Dm ((⟨dst,.makeSlice e x y,ty,pos,after,guard⟩:Oper),k)):O1d P ⟨dst,.makeSlice e x y,ty,pos,after,guard⟩ σ con k d=eG (nev P (.makeSlice e x y) σ.J σ.n) (λp=>k ⟨bT σ.J dst p.1,jE σ.H σ.n p.2,cnt p.2 σ.n⟩ con) .mk:=dG rfl rfl
def aFc(e:TypeId)(x:Option Operand)(d:Dm ((⟨dst,.makeMap e x,ty,pos,after,guard⟩:Oper),k)):O1d P ⟨dst,.makeMap e x,ty,pos,after,guard⟩ σ con k d=eG (nev P (.makeMap e x) σ.J σ.n) (λp=>k ⟨bT σ.J dst p.1,jE σ.H σ.n p.2,cnt p.2 σ.n⟩ con) .mk:=dG rfl rfl
def aRd(b:BinOp)(t:TypeId)(x y:Operand)(u:TypeId)(d:Dm ((⟨dst,.binOp b t x y u,ty,pos,after,guard⟩:Oper),k)):O1d P ⟨dst,.binOp b t x y u,ty,pos,after,guard⟩ σ con k d=eG (nev P (.binOp b t x y u) σ.J σ.n) (λp=>k ⟨bT σ.J dst p.1,jE σ.H σ.n p.2,cnt p.2 σ.n⟩ con) .mk:=dG rfl rfl
def aYu(b:UnOp)(t:TypeId)(x:Operand)(d:Dm ((⟨dst,.unOp b t x,ty,pos,after,guard⟩:Oper),k)):O1d P ⟨dst,.unOp b t x,ty,pos,after,guard⟩ σ con k d=eG (nev P (.unOp b t x) σ.J σ.n) (λp=>k ⟨bT σ.J dst p.1,jE σ.H σ.n p.2,cnt p.2 σ.n⟩ con) .mk:=dG rfl rfl
def aFe(s t:TypeId)(x:Operand)(d:Dm ((⟨dst,.convert s t x,ty,pos,after,guard⟩:Oper),k)):O1d P ⟨dst,.convert s t x,ty,pos,after,guard⟩ σ con k d=eG (nev P (.convert s t x) σ.J σ.n) (λp=>k ⟨bT σ.J dst p.1,jE σ.H σ.n p.2,cnt p.2 σ.n⟩ con) .mk:=dG rfl rfl
def yS(s:TypeId)(x:Operand)(f:Nat)(d:Dm ((⟨dst,.fieldAddr s x f,ty,pos,after,guard⟩:Oper),k)):O1d P ⟨dst,.fieldAddr s x f,ty,pos,after,guard⟩ σ con k d=eG (nev P (.fieldAddr s x f) σ.J σ.n) (λp=>k ⟨bT σ.J dst p.1,jE σ.H σ.n p.2,cnt p.2 σ.n⟩ con) .mk:=dG rfl rfl
def aQz(s:TypeId)(x:Operand)(f:Nat)(d:Dm ((⟨dst,.field s x f,ty,pos,after,guard⟩:Oper),k)):O1d P ⟨dst,.field s x f,ty,pos,after,guard⟩ σ con k d=eG (nev P (.field s x f) σ.J σ.n) (λp=>k ⟨bT σ.J dst p.1,jE σ.H σ.n p.2,cnt p.2 σ.n⟩ con) .mk:=dG rfl rfl
def yR(s:TypeId)(x y:Operand)(d:Dm ((⟨dst,.indexAddr s x y,ty,pos,after,guard⟩:Oper),k)):O1d P ⟨dst,.indexAddr s x y,ty,pos,after,guard⟩ σ con k d=eG (nev P (.indexAddr s x y) σ.J σ.n) (λp=>k ⟨bT σ.J dst p.1,jE σ.H σ.n p.2,cnt p.2 σ.n⟩ con) .mk:=dG rfl rfl
def aFd(x:Operand)(i:Nat)(d:Dm ((⟨dst,.extract x i,ty,pos,after,guard⟩:Oper),k)):O1d P ⟨dst,.extract x i,ty,pos,after,guard⟩ σ con k d=eG (nev P (.extract x i) σ.J σ.n) (λp=>k ⟨bT σ.J dst p.1,jE σ.H σ.n p.2,cnt p.2 σ.n⟩ con) .mk:=dG rfl rfl
def aQy(t:TypeId)(x:Operand)(a b c:Option Operand)(d:Dm ((⟨dst,.slice t x a b c,ty,pos,after,guard⟩:Oper),k)):O1d P ⟨dst,.slice t x a b c,ty,pos,after,guard⟩ σ con k d=eG (nev P (.slice t x a b c) σ.J σ.n) (λp=>k ⟨bT σ.J dst p.1,jE σ.H σ.n p.2,cnt p.2 σ.n⟩ con) .mk:=dG rfl rfl
def bIq(args:Array Operand)(ts:Array TypeId)(hm:aVq P ts=false)(d:Dm ((⟨dst,.call ⟨.builtin .len,args,ts⟩,ty,pos,after,guard⟩:Oper),k)):O1d P ⟨dst,.call ⟨.builtin .len,args,ts⟩,ty,pos,after,guard⟩ σ con k d=eG (nev P (.call ⟨.builtin .len,args,ts⟩) σ.J σ.n) (λp=>k ⟨bT σ.J dst p.1,jE σ.H σ.n p.2,cnt p.2 σ.n⟩ con) .mk:=by refine dG ?_ (by simp[kind,hm]);simp only[O1,hm,A0,B2];rfl
def aYy(m:Operand)(ts:Array TypeId)(hm:aVq P ts=true)(d:Dm ((⟨dst,.call ⟨.builtin .len,#[m],ts⟩,ty,pos,after,guard⟩:Oper),k)):O1d P ⟨dst,.call ⟨.builtin .len,#[m],ts⟩,ty,pos,after,guard⟩ σ con k d=eG (aJs σ.H (oev σ.J m)) (λn=>k ⟨bT σ.J dst (.d (.i .i64 n)),σ.H,σ.n⟩ con) .mk:=by unfold O1d;simp only[O1,hm,B1];cases aJs σ.H (oev σ.J m)<;>rfl
def bJf(H:Hp)(id:Nat):aJs H (.mp id)=match H id with
  |some (.map _ es)=>some es.length
  |_=>none:=rfl
def bIp(args:Array Operand)(ts:Array TypeId)(d:Dm ((⟨dst,.call ⟨.builtin .max,args,ts⟩,ty,pos,after,guard⟩:Oper),k)):O1d P ⟨dst,.call ⟨.builtin .max,args,ts⟩,ty,pos,after,guard⟩ σ con k d=eG (nev P (.call ⟨.builtin .max,args,ts⟩) σ.J σ.n) (λp=>k ⟨bT σ.J dst p.1,jE σ.H σ.n p.2,cnt p.2 σ.n⟩ con) .mk:=dG rfl rfl
def bIo(args:Array Operand)(ts:Array TypeId)(d:Dm ((⟨dst,.call ⟨.builtin .min,args,ts⟩,ty,pos,after,guard⟩:Oper),k)):O1d P ⟨dst,.call ⟨.builtin .min,args,ts⟩,ty,pos,after,guard⟩ σ con k d=eG (nev P (.call ⟨.builtin .min,args,ts⟩) σ.J σ.n) (λp=>k ⟨bT σ.J dst p.1,jE σ.H σ.n p.2,cnt p.2 σ.n⟩ con) .mk:=dG rfl rfl
def aYx(t:TypeId)(x:Operand)(d:Dm ((⟨dst,.load t x,ty,pos,after,guard⟩:Oper),k)):O1d P ⟨dst,.load t x,ty,pos,after,guard⟩ σ con k d=eG (zB P σ.H t (oev σ.J x)) (λv=>k ⟨bT σ.J dst v,σ.H,σ.n⟩ con) .mk:=by unfold O1d;simp only[O1,eG];split<;>simp_all
def aJj(t:TypeId)(m x:Operand)(ok:Bool)(d:Dm ((⟨dst,.lookup t m x ok,ty,pos,after,guard⟩:Oper),k)):O1d P ⟨dst,.lookup t m x ok,ty,pos,after,guard⟩ σ con k d=eG (pK P σ.H t (oev σ.J m) (oev σ.J x) ok) (λv=>k ⟨bT σ.J dst v,σ.H,σ.n⟩ con) .mk:=by unfold O1d;simp only[O1,eG];split<;>simp_all
def aRa(x:Operand)(d:Dm ((⟨dst,.entry x,ty,pos,after,guard⟩:Oper),k)):O1d P ⟨dst,.entry x,ty,pos,after,guard⟩ σ con k d=eG (bLw σ.H (oev σ.J x)) (λv=>k ⟨bT σ.J dst v,σ.H,σ.n⟩ con) .mk:=by unfold O1d;simp only[O1,eG];split<;>simp_all
def bOo(x:Option (Nat×IntKind×List (Int×D)))(k0:Prop)(k1:Nat->IntKind->List (Int×D)->Int×D->Prop)(_:Dm (k0,k1)):Prop:=match x with
 |some (id,kd,es)=>(es=[]->k0)/\∀(j:Nat) e,es[j]? = some e->k1 id kd (es.eraseIdx j) e
 |none=>False
def aRj{id:Nat}{kd:IntKind}{es:List (Int×D)}{k0:Prop}{k1:Nat->IntKind->List (Int×D)->Int×D->Prop}{d:Dm (k0,k1)}(h0:es=[]->k0)(h1:∀(j:Nat) e,es[j]? = some e->k1 id kd (es.eraseIdx j) e):bOo (some (id,kd,es)) k0 k1 d:=⟨h0,h1⟩
def bRj(x:Operand)(d:Dm ((⟨dst,.next x false,ty,pos,after,guard⟩:Oper),k)):O1d P ⟨dst,.next x false,ty,pos,after,guard⟩ σ con k d=bOo (itA σ.H (oev σ.J x)) (k ⟨bT σ.J dst (.tp [.d (.b false)]),σ.H,σ.n⟩ con)
  (λid kd es e=>k ⟨bT σ.J dst (.tp [.d (.b true),.any,.any]),upd σ.H id (some (.iter kd (some e) es)),σ.n⟩ con) .mk:=by
 unfold O1d bOo;simp only[O1,true_and];cases itA σ.H (oev σ.J x)<;>rfl
def bIn(t:TypeId)(x:Operand)(d:Dm ((⟨dst,.range t x,ty,pos,after,guard⟩:Oper),k)):O1d P ⟨dst,.range t x,ty,pos,after,guard⟩ σ con k d=eG (nev P (.range t x) σ.J σ.n) (λp=>k ⟨bT σ.J dst p.1,jE σ.H σ.n p.2,cnt p.2 σ.n⟩ con) .mk:=dG rfl rfl
def aQx(t:TypeId)(ad x:Operand)(d:Dm ((⟨dst,.store t ad x,ty,pos,after,guard⟩:Oper),k)):O1d P ⟨dst,.store t ad x,ty,pos,after,guard⟩ σ con k d=eG (qO P σ.H t (oev σ.J ad) (oev σ.J x)) (λp=>k ⟨bT σ.J dst .un,upd σ.H p.1 (some p.2),σ.n⟩ con) .mk:=by unfold O1d;simp only[O1,eG];split<;>simp_all
def yP(t:TypeId)(m x v:Operand)(d:Dm ((⟨dst,.mapUpdate t m x v,ty,pos,after,guard⟩:Oper),k)):O1d P ⟨dst,.mapUpdate t m x v,ty,pos,after,guard⟩ σ con k d=eG (tL P σ.H t (oev σ.J m) (oev σ.J x) (some (oev σ.J v))) (λp=>k ⟨bT σ.J dst .any,upd σ.H p.1 (some p.2),σ.n⟩ con) .mk:=by unfold O1d;simp only[O1,eG];split<;>simp_all
def aJl(t:TypeId)(m x v:Operand)(d:Dm ((⟨dst,.insert t m x v,ty,pos,after,guard⟩:Oper),k)):O1d P ⟨dst,.insert t m x v,ty,pos,after,guard⟩ σ con k d=eG (tL P σ.H t (oev σ.J m) (oev σ.J x) (some (oev σ.J v))) (λp=>k ⟨bT σ.J dst .any,upd σ.H p.1 (some p.2),σ.n⟩ con) .mk:=by unfold O1d;simp only[O1,eG];split<;>simp_all
def aJm(m x:Operand)(t u:TypeId)(d:Dm ((⟨dst,.call ⟨.builtin .delete,#[m,x],#[t,u]⟩,ty,pos,after,guard⟩:Oper),k)):O1d P ⟨dst,.call ⟨.builtin .delete,#[m,x],#[t,u]⟩,ty,pos,after,guard⟩ σ con k d=eG (tL P σ.H t (oev σ.J m) (oev σ.J x) none) (λp=>k ⟨bT σ.J dst .any,upd σ.H p.1 (some p.2),σ.n⟩ con) .mk:=by unfold O1d;simp only[O1,eG];split<;>simp_all
def aJo(s x:Operand)(t:TypeId)(d:Dm ((⟨dst,.call ⟨.builtin .append,#[s,x],#[t,t]⟩,ty,pos,after,guard⟩:Oper),k)):O1d P ⟨dst,.call ⟨.builtin .append,#[s,x],#[t,t]⟩,ty,pos,after,guard⟩ σ con k d=eG (aCr P σ.H t (oev σ.J s) (oev σ.J x) σ.n) (λp=>k ⟨bT σ.J dst p.1,jE (kill p.2.2 σ.H) σ.n p.2.1,cnt p.2.1 σ.n⟩ (p.2.2++con)) .mk:=by
 unfold O1d;simp only[O1,eG];simp only[true_and];cases aCr P σ.H t (oev σ.J s) (oev σ.J x) σ.n with
 |none=>rfl
 |some p=>obtain⟨a,b,c⟩:=p;rfl
end
def bAw(P:Program)(f:FuncId)(avs:List AV)(H:Hp)(k:D->Prop)(_:Dm k):Prop:=∃ds r,fW H avs=some ds/\Spec P f ds r/\k r
def bK{f:FuncId}{avs:List AV}{H:Hp}{k:D->Prop}{d:Dm k}{ds:List D}{r:D}(h1:fW H avs=some ds)(h2:Spec P f ds r)(h3:k r):bAw P f avs H k d:=⟨ds,r,h1,h2,h3⟩
def exE{α:Type}{p:Prop}(a:α)(h:∀x,a=x->p):p:=h a rfl
def slQ{i n:Nat}(h:i<n):n-(i+1)<n-i:=Nat.sub_lt_sub_left h (AK _)
def aJ{f:FuncId}{avs:List AV}{H:Hp}{k:D->Prop}{d:Dm k}{ds:List D}{r:D}(h2:Spec P f ds r)(h3:k r)(h1:fW H avs=some ds:=by rfl):bAw P f avs H k d:=⟨ds,r,h1,h2,h3⟩
def bWn(P:Program)(f:FuncId)(x:Option (Nat×AV))(rest:List AV)(H:Hp)(k:Nat->HO->D->Prop)(_:Dm k):Prop :=
 ∃id h ho,x=some (id,h)/\H id=some ho/\oG ho=true/\fK H rest=[]/\∃ds ho' r,fW H rest=some ds/\tJ P f h ho ds ho' r/\ho'.len=ho.len/\oG ho'=true/\k id ho' r
def aCi{f:FuncId}{rest:List AV}{H:Hp}{k:Nat->HO->D->Prop}{d:Dm k}{id:Nat}{h:AV}{ho ho':HO}{ds:List D}{r:D}(h1:H id=some ho)(h2:oG ho=true)(h3:fK H rest=[])
  (h4:fW H rest=some ds) (h5:tJ P f h ho ds ho' r) (h6:ho'.len=ho.len) (h7:oG ho'=true) (h8:k id ho' r):bWn P f (some (id,h)) rest H k d:=⟨id,h,ho,rfl,h1,h2,h3,ds,ho',r,h4,h5,h6,h7,h8⟩
def cBy:List AV->Bool
 |[.kf _ _]=>true
 |_=>false
def aYz(dst:Option Tmp)(ty:TypeId)(pos:String)(after:Array Edge)(guard:Option (Nat×Bool))(σ:St)(con:List Nat)(k:St->List Nat->Prop)(f:FuncId)(args:List Operand)(ts:Array TypeId)
  (d:Dm ((⟨dst,.call ⟨.value (.func f),args.toArray,ts⟩,ty,pos,after,guard⟩:Oper),k)) (hm:bB P f=false) (hn:bC P f=false) (hk:cBy (args.map (oev σ.J))=false):O1d P ⟨dst,.call ⟨.value (.func f),args.toArray,ts⟩,ty,pos,after,guard⟩ σ con k d =
  bAw P f (args.map (oev σ.J)) σ.H (λr=>k ⟨bT σ.J dst (inj r),kill (bS σ.H (args.map (oev σ.J)) r) σ.H,σ.n⟩ (bS σ.H (args.map (oev σ.J)) r++con)) .mk:=by
 show OC P f args.toArray dst σ con k=_
 unfold OC bAw
 simp only[hm,hn,A0,B2,false_and,false_or]
 split
 ·rename_i hx;rw[show args.map (oev σ.J)=_ from hx]at hk;cases hk
 ·rfl
def aRb{dst:Option Tmp}{ty:TypeId}{pos:String}{after:Array Edge}{guard:Option (Nat×Bool)}{σ:St}{con:List Nat}{k:St->List Nat->Prop}{f:FuncId}{x:Operand}{rest:List Operand}{ts:Array TypeId}
  {d:Dm ((⟨dst,.call ⟨.value (.func f),(x::rest).toArray,ts⟩,ty,pos,after,guard⟩:Oper),k)} (hm:bB P f=true)
  (h:bWn P f (hd1 (oev σ.J x)) (rest.map (oev σ.J)) σ.H (λid ho' r=>k ⟨bT σ.J dst (inj r),upd σ.H id (some ho'),σ.n⟩ con) .mk):O1d P ⟨dst,.call ⟨.value (.func f),(x::rest).toArray,ts⟩,ty,pos,after,guard⟩ σ con k d:=by
 obtain⟨id,hh,ho,h1,h2,h3,h4,h5⟩:=h
 show OC P f (x::rest).toArray dst σ con k
 unfold OC
 simp only[hm,B1,h1,h2]
 exact .inr (.inl ⟨h3,h4,h5⟩)
def iO{dst:Option Tmp}{ty:TypeId}{pos:String}{after:Array Edge}{guard:Option (Nat×Bool)}{σ:St}{con:List Nat}{k:St->List Nat->Prop}{f:FuncId}{args:List Operand}{ts:Array TypeId}
  {d:Dm ((⟨dst,.call ⟨.value (.func f),args.toArray,ts⟩,ty,pos,after,guard⟩:Oper),k)} (ds:List D) (v:Nat->AV) (hs:Nat->List HO) (hm:bB P f=false) (hn:bC P f=true) (hpos:0<σ.n) (hfr:fW σ.H (args.map (oev σ.J))=some ds)
  (hvis:fK σ.H (args.map (oev σ.J))=[]) (hsp:pX P f ds v hs) (hk:k ⟨bT σ.J dst (v σ.n),gJ σ.H σ.n (hs σ.n),σ.n+(hs σ.n).length⟩ con) :
  O1d P ⟨dst,.call ⟨.value (.func f),args.toArray,ts⟩,ty,pos,after,guard⟩ σ con k d:=by
 show OC P f args.toArray dst σ con k
 unfold OC
 simp only[hm,A0,B2]
 exact .inl ⟨hn,hpos,v,hs,.inl ⟨ds,hfr,hvis,hsp⟩,hk⟩
def aJi{dst:Option Tmp}{ty:TypeId}{pos:String}{after:Array Edge}{guard:Option (Nat×Bool)}{σ:St}{con:List Nat}{k:St->List Nat->Prop}{f:FuncId}{args:List Operand}{ts:Array TypeId}
  {d:Dm ((⟨dst,.call ⟨.value (.func f),args.toArray,ts⟩,ty,pos,after,guard⟩:Oper),k)} (v:Nat->AV) (hs:Nat->List HO) (hm:bB P f=false) (hn:bC P f=true) (hpos:0<σ.n) (hno:(args.map (oev σ.J)).all aFg=true)
  (hsp:aHo P f (args.map (oev σ.J)) v hs) (hk:k ⟨bT σ.J dst (v σ.n),gJ σ.H σ.n (hs σ.n),σ.n+(hs σ.n).length⟩ con) :
  O1d P ⟨dst,.call ⟨.value (.func f),args.toArray,ts⟩,ty,pos,after,guard⟩ σ con k d:=by
 show OC P f args.toArray dst σ con k
 unfold OC
 simp only[hm,A0,B2]
 exact .inl ⟨hn,hpos,v,hs,.inr ⟨hno,hsp⟩,hk⟩
def aQw{dst:Option Tmp}{ty:TypeId}{pos:String}{after:Array Edge}{guard:Option (Nat×Bool)}{σ:St}{con:List Nat}{k:St->List Nat->Prop}{f:FuncId}{x:Operand}{rest:List Operand}{ts:Array TypeId}
  {d:Dm ((⟨dst,.call ⟨.value (.func f),(x::rest).toArray,ts⟩,ty,pos,after,guard⟩:Oper),k)} {id:Nat} {h:AV} {ho:HO} {ds:List D} {r:D} {l:List Nat} (hm:bB P f=true) (hx:hd1 (oev σ.J x)=some (id,h)) (hH:σ.H id=some ho) (hno:oG ho=true)
  (hvis:fK σ.H (rest.map (oev σ.J))=l) (hnl:id ∉ l) (hfr:fW σ.H (rest.map (oev σ.J))=some ds) (hsp:aCl P f h (some ho) ds r) (hk:k ⟨bT σ.J dst (inj r),kill (id::l) σ.H,σ.n⟩ (id::l++con)) :
  O1d P ⟨dst,.call ⟨.value (.func f),(x::rest).toArray,ts⟩,ty,pos,after,guard⟩ σ con k d:=by
 subst hvis
 show OC P f (x::rest).toArray dst σ con k
 unfold OC
 simp only[hm,B1,hx,hH]
 exact .inr (.inr (.inr ⟨hno,hnl,ds,r,hfr,hsp,hk⟩))
def bCo{dst:Option Tmp}{ty:TypeId}{pos:String}{after:Array Edge}{guard:Option (Nat×Bool)}{σ:St}{con:List Nat}{k:St->List Nat->Prop}{f:FuncId}{x:Operand}{rest:List Operand}{ts:Array TypeId}
  {d:Dm ((⟨dst,.call ⟨.value (.func f),(x::rest).toArray,ts⟩,ty,pos,after,guard⟩:Oper),k)} {h:AV} {ds:List D} {r:D} {l:List Nat} (hm:bB P f=true) (hx:oev σ.J x=h) (hx1:hd1 h=none) (hno:aFg h=true)
  (hvis:fK σ.H (rest.map (oev σ.J))=l) (hfr:fW σ.H (rest.map (oev σ.J))=some ds) (hsp:aCl P f h none ds r) (hk:k ⟨bT σ.J dst (inj r),kill l σ.H,σ.n⟩ (l++con)) :
  O1d P ⟨dst,.call ⟨.value (.func f),(x::rest).toArray,ts⟩,ty,pos,after,guard⟩ σ con k d:=by
 subst hvis
 subst hx
 show OC P f (x::rest).toArray dst σ con k
 unfold OC
 simp only[hm,B1,hx1]
 exact⟨hno,ds,r,hfr,hsp,hk⟩
def bIl{dst:Option Tmp}{ty:TypeId}{pos:String}{after:Array Edge}{guard:Option (Nat×Bool)}{σ:St}{con:List Nat}{k:St->List Nat->Prop}{f:FuncId}{x:Operand}{rest:List Operand}{ts:Array TypeId}
  {d:Dm ((⟨dst,.call ⟨.value (.func f),(x::rest).toArray,ts⟩,ty,pos,after,guard⟩:Oper),k)} (ν:Nat->Nat) (h:AV) (ro:HO) (hs:List HO) (ds:List D) (ro':HO) (hs':List HO) (r:D) (hm:bB P f=true) (hpos:0<σ.n) (hx:oev σ.J x=wN ν h) (hid:mG 0 h=true) (hlf:lf0 (hs.length+1) h=true)
  (hν:∀i j,i<hs.length+1->j<hs.length+1->ν i=ν j->i=j) (hH:∀i ob,(ro::hs)[i]? = some ob->lfO (hs.length+1) ob=true/\σ.H (ν i)=some (lT ν ob)) (hment:∀i,0<i->i<hs.length+1->∃j ob,j<i/\(ro::hs)[j]? = some ob/\aIa i ob=true)
  (hvis:fK σ.H (rest.map (oev σ.J))=[]) (hfr:fW σ.H (rest.map (oev σ.J))=some ds) (hsp:aAc P f h ro hs ds ro' hs' r)
  (hk:k ⟨bT σ.J dst (inj r),tcH σ.H σ.n (ν 0) (nuL ν hs.length) ro' hs',σ.n+hs'.length⟩ (nuL ν hs.length++con)):O1d P ⟨dst,.call ⟨.value (.func f),(x::rest).toArray,ts⟩,ty,pos,after,guard⟩ σ con k d:=by
 show OC P f (x::rest).toArray dst σ con k
 unfold OC
 have h0:=(hH 0 ro rfl).2
 have hd:∃h2,hd1 (oev σ.J x)=some (ν 0,h2):=by rw[hx];cases h<;>first|(cases hid;done)|(simp only[mG,beq_iff_eq]at hid;subst hid;exact⟨_,rfl⟩)
 obtain⟨h2,hd⟩:=hd
 simp only[hm,B1,hd,h0]
 exact .inr (.inr (.inl ⟨hpos,ν,h,ro,hs,ds,ro',hs',r,hx,hid,hlf,hν,hH,hment,hvis,hfr,hsp,hk⟩))
def qJ(ops:Array Oper)(σ:St)(con:List Nat)(k:St->List Nat->Prop)(d:Dm (ops,([]:List Oper),k)):OWd P ops [] σ con k d=k σ con:=rfl
def aQo(ops:Array Oper)(dst:Option Tmp)(op:Op)(ty:TypeId)(pos:String)(after:Array Edge)(l:List Oper)(σ:St)(con:List Nat)(k:St->List Nat->Prop)(d:Dm (ops,(⟨dst,op,ty,pos,after,none⟩::l:List Oper),k)) :
  OWd P ops (⟨dst,op,ty,pos,after,none⟩::l) σ con k d=O1d P ⟨dst,op,ty,pos,after,none⟩ σ con (λσ' con'=>OWd P ops l σ' con' k .mk) .mk:=rfl
def aQn(ops:Array Oper)(dst:Option Tmp)(op:Op)(ty:TypeId)(pos:String)(after:Array Edge)(g:Nat×Bool)(l:List Oper)(σ:St)(con:List Nat)(k:St->List Nat->Prop)(d:Dm (ops,(⟨dst,op,ty,pos,after,some g⟩::l:List Oper),k)) :
  OWd P ops (⟨dst,op,ty,pos,after,some g⟩::l) σ con k d=eG (eY ops ⟨dst,op,ty,pos,after,some g⟩ σ.J) (λt=>IfD t (O1d P ⟨dst,op,ty,pos,after,some g⟩ σ con (λσ' con'=>OWd P ops l σ' con' k .mk) .mk) (OWd P ops l ⟨bT σ.J dst .un,σ.H,σ.n⟩ con k .mk) .mk) .mk:=by
 show(match eY ops ⟨dst,op,ty,pos,after,some g⟩ σ.J with
 |some true=>O1 P ⟨dst,op,ty,pos,after,some g⟩ σ con λσ' con'=>OW P ops l σ' con' k
 |some false=>OW P ops l ⟨bT σ.J dst .un,σ.H,σ.n⟩ con k
 |none=>False)=_
 cases eY ops ⟨dst,op,ty,pos,after,some g⟩ σ.J with
 |none=>rfl
 |some t=>cases t<;>simp[eG,IfD,O1d,OWd]
def bYm(t:Bool)(x y:Bool):(if t=true then AV.d (.b x)else AV.d (.b y))=AV.d (.b (if t then x else y)):=by cases t<;>rfl
end Go.Am
end
section
open List renaming map_map->C,mapM_map->K
namespace Go.Am
open RowKit (Below)
variable {P:Program}
def lH{σ:St}{sl:List (Nat×AV)}{H':Hp}{n':Nat}(hslot:nF σ.H H' (λi=>i) σ.J sl)(hblk:∀id o',H' id=some o'->∃o,σ.H id=some o/\nC σ.H H' (λi=>i) o o')
  (htop:∀id,n'<=id->H' id=none) (hn:n'≠0):Wk σ ⟨jO sl,H',n'⟩ (λi=>i):=by
 refine⟨htop,λt=>?_,hblk,λ_ _ _ _ e=>e,λ_=>rfl,λh=>absurd h hn⟩
 show Sub _ _ _ _ (jO sl t)
 rcases yD sl t with h|⟨p,hp,rfl,h⟩
 ·rw[h];exact oN _
 ·rw[h];exact qG hslot _ hp
def aTz{σ:St}{sl:List (Nat×AV)}{H':Hp}{n':Nat}(ρ:Nat->Nat)(hslot:nF σ.H H' ρ σ.J sl)(hblk:∀id o',H' id=some o'->∃o,σ.H (ρ id)=some o/\nC σ.H H' ρ o o')
  (hinj:∀id id',(H' id).isSome=true->(H' id').isSome=true->ρ id=ρ id'->id=id') (hpin:(H' 0).isSome=true->ρ 0=0) (htop:∀id,n'<=id->H' id=none) (hn:n'≠0):Wk σ ⟨jO sl,H',n'⟩ ρ:=by
 refine⟨htop,λt=>?_,hblk,hinj,hpin,λh=>absurd h hn⟩
 show Sub _ _ _ _ (jO sl t)
 rcases yD sl t with h|⟨p,hp,rfl,h⟩
 ·rw[h];exact oN _
 ·rw[h];exact qG hslot _ hp
def bPu{G:Ctx}{fn:Func}{σ:St}{a:Act}{w:World}{ad:Tmp}{t:TypeId}{av:AV}{F:Nat->Prop}{ι:Nat->Option Nat}(hR:HR G F w ι bW σ.H)(hV:∀t,V F w ι (σ.J t) (a.tmps.getD t undef))(hres:fn.results.toList=[.cell ad t])(h:nS P σ (.cell ad t)=some av) :
  ∃v,(results fn a.tmps).run P w=.ok v w/\V F w ι av v:=by
 have hx:∃v,(do loadVar t (<-asAddr (a.tmps.getD ad undef)):Sem Value).run P w=.ok v w/\V F w ι av v:=by
  simp only[nS]at h;obtain⟨u,hu,hv⟩:=aDl (P:=P) hR (λ_ _ h=>h) h (hV ad);refine⟨u,?_,hv⟩;simp only[EP]at hu;generalize a.tmps.getD ad undef=p at hu ⊢;cases p with
  |pointer q=>cases q with
   |some q=>simpa[CF,asAddr]using hu
   |none=>simp[CF,stuck,Sem.run]at hu
  |_=>simp[CF,stuck,Sem.run]at hu
 obtain⟨v,h1,h2⟩:=hx
 refine⟨v,?_,h2⟩
 have h1':([ResultVar.cell ad t].mapM (m:=Sem) λ|.tmp t=>pure (a.tmps.getD t undef)|.cell ad t=>do loadVar t (<-asAddr (a.tmps.getD ad undef))).run P w=.ok [v] w:=by simp only[Ca,Gn,A3,h1,AX,Bz]
 simp only[results,D3,A3,Sem.run_map,hres]
 erw [h1']
 simp
def gR(v:Nat->AV)(hs:Nat->List HO)(m:Nat):St:=⟨upd (λ_=>.any) 0 (v m),gJ (λ_=>none) m (hs m),m+(hs m).length⟩
end Go.Am
end
section
open List renaming map_map->C,mapM_map->K
namespace Go.Am
open RowKit (Below)
variable {P:Program}
def StT(h:AV)(o:HO)(hs:List HO)(args:List D)(N:Nat):St:=⟨λt=>match t with|0=>h|t+1=>Γ0 args N t,λid=>(o::hs)[id]?,hs.length+1⟩
def SRT{A:Nat->Prop}{W:World}{vs:Array Value}{args:List D}{h:AV}{o:HO}{hs:List HO}{ι:Nat->Option Nat}{N:Nat}(hA:∀b,A b->b<W.heap.size)(hdom:∀id,(∃b,ι id=some b)↔id<hs.length+1)(hlt:∀id b,ι id=some b->b<W.heap.size/\¬A b)
  (hinj:∀id id' b,ι id=some b->ι id'=some b->id=id') (hobj:∀i b ob,(o::hs)[i]? = some ob->ι i=some b->∃x,W.heap[b]? = some x/\CR A W ι ob x) (hl:args.length+1=vs.size) (h0:∃v,vs[0]? = some v/\V A W ι h v)
  (hv:∀(k:Nat) d v,args[k]? = some d->vs[k+1]? = some v->VD A W d v) (hN:args.length+1<=N) :
  SR ⟨W,A,λb=>∃id,ι id=some b,λb=>ι 0=some b,λ_=>none⟩ N [] (StT h o hs args N) { tmps:=vs++BI (N-vs.size) undef,defers:=[] } W:=by
 refine⟨λid h=>by simp only[StT]at h ⊢;exact AW (by simpa using h),λh=>by simp[StT]at h,A,ι,⟨.refl _ _ _,hA,λb h=>.inl h,λid b e=>⟨.inl ⟨id,e⟩,(hlt id b e).1,λ_=>(hlt id b e).2⟩,λid b ob e e'=>hobj id b ob e' e,λid id' b e e' _ _=>hinj id id' b e e',λid id' b o1 o2 e e' _ h1 h2=>?_⟩,
  λid=>?_,λt=>?_,⟨by simp;omega,λ_ _ h=>by cases h⟩,rfl,λb e=>e⟩
 ·have:=hinj id id' b e e'
  subst this
  rw[h1]at h2;injection h2 with h2;subst h2;exact Ap _
 ·rw[hdom]
  simp only[StT]
  constructor
  ·intro h;rw[Ab (by simpa using h)];rfl
  ·intro h
   rcases Bf id (hs.length+1)with h'|h'
   ·exact h'
   ·rw[AW (by simpa using h')]at h;cases h
 ·have hget:∀k,k<vs.size->(vs++BI (N-vs.size) undef).getD k undef=vs.getD k undef:=λk hk=>by simp only[Bj];rw[BJ hk]
  have hget2:∀k,vs.size<=k->(vs++BI (N-vs.size) undef).getD k undef=undef:=λk hk=>by
   simp only[Bj];rw[EG hk];by_cases h2:k-vs.size<N-vs.size
   ·rw[Ct,Ad h2];rfl
   ·rw[Ct,Ac h2];rfl
  cases t with
  |zero =>
   obtain⟨v,hv0,hV0⟩:=h0
   show V A W ι h _
   rw[show(({ tmps:=vs++BI (N-vs.size) undef,defers:=[] }:Act).tmps.getD 0 undef)=v from by
    rw[hget 0 (by omega)];simp[Bj,hv0]]
   exact hV0
  |succ t =>
   show V A W ι (Γ0 args N t) _
   simp only[Γ0]
   by_cases ht:t<args.length
   ·have ht':t+1<vs.size:=by omega
    rw[Ab ht,hget _ ht',Bj,AD ht']
    exact uX (hv t _ _ (Ab ht) (AD ht'))
   ·rw[AW (by omega),hget2 _ (by omega)]
    simp only[ite_self]
    exact .un
def aAi {f N:Nat} {fn:Func} {c:Code} {h:AV} {o o':HO} {hs hs':List HO} {args:List D} (hm:P.follows .mixedOrders=true) (hf:P.funcs[f]? = some fn) (hb:fn.body=some c) (hname:(fn.name == "runtime.NumGoroutine")=false) (hN:fn.ntmps=N)
  (hres:fn.results.toList=[]) (hd:dK N c=true) (hl':eC P c=true) (ha:args.length+1<=N)
  (hA:AWP P c (StT h o hs args N) λe σ=>(e=.normal\/e=.ret)/\∃ρ,Wk σ (StL [] (some o') hs') ρ):aAc P f h o hs args o' hs' (.tp []):=by
 intro A W vs ι hAl hdom0 hlt0 hinj0 hobj0 hl hv0 hv
 have hn:¬ fn.name = "runtime.NumGoroutine" := by simpa using hname
 refine⟨λw=>by simp[callFunc,hf,hn,hb],?_⟩
 refine calls_of_wp hf hb ?_
 subst hN
 have hsr:=SRT (N:=fn.ntmps) hAl hdom0 hlt0 hinj0 hobj0 hl hv0 hv ha
 refine wp_mono (iC hm (λ_=>rfl) c _ _ _ _ hd hl' hA hsr) ?_
 rintro e a w ⟨σ,⟨he,ρ,hw⟩,hs1⟩
 have hs2:=hs1
 obtain⟨_,_,F0,ι0,hR0,_,hV0,_,hdf,_⟩:=hs1
 obtain⟨v,hrun,hvd⟩:=rY (r:=.tp []) (P:=P) hR0 hV0 (by rw[hres];rfl)
 obtain⟨_,_,F,ι',hR,hdom,_,_,_,hp⟩:=aDy hw hs2
 have hH:∀i ob,(o'::hs')[i]? = some ob->(StL [] (some o') hs').H i=some ob:=λi ob hi=>by
  cases i with
  |zero=>rw[aNt];simpa using hi
  |succ i=>rw[aBv];simpa using hi
 have hsome:∀id,((StL [] (some o') hs').H id).isSome=true↔id<hs'.length+1:=λid=>by
  cases id with
  |zero=>rw[aNt];simp
  |succ i=>rw[aBv];simp
 obtain⟨b0,hb0⟩:=(hdom 0).2 ((hsome 0).2 (by omega))
 have hb00:ι 0=some b0:=hp b0 hb0
 have hend:a.defers=[]/\∃v,(results fn a.tmps).run P w=.ok v w/\∃v' F' ι',DM v=.returned v'/\Kept (λb=>∃id,ι id=some b) W.heap.size W w /\
   (∀b,F' b->A b\/(∃id,0<id/\ι id=some b)\/(W.heap.size<=b/\b<w.heap.size))/\VD F' w (.tp []) v'/\(∀id,(∃b,ι' id=some b)↔id<hs'.length+1)/\ι' 0=ι 0 /\
   (∀id b,ι' id=some b->b<w.heap.size/\¬F' b/\((∃j,ι j=some b)\/W.heap.size<=b))/\(∀id id' b,ι' id=some b->ι' id'=some b->id=id') /\
   (∀i b ob,(o'::hs')[i]? = some ob->ι' i=some b->∃x,w.heap[b]? = some x/\CR F' w ι' ob x):=by
  refine⟨hdf,v,hrun,v,F,ι',rfl,hR.kept,λb hb=>?_,aMx (by rfl) hvd,λid=>by rw[hdom,hsome],by rw[hb0,hb00],λid b hb=>?_,λid id' b e1 e2=>hR.inj id id' b e1 e2 (λh=>h) (λh=>h),λi b ob hi hb=>hR.obj i b ob hb (hH i ob hi)⟩
  ·rcases hR.F_ok b hb with h|⟨id,h⟩|h
   ·exact .inl h
   ·rcases Nat.eq_zero_or_pos id with rfl|hpos
    ·rw[hb00]at h;injection h with h;subst h
     exact((hR.place 0 b0 hb0).2.2 (λh=>h) hb).elim
    ·exact .inr (.inl ⟨id,hpos,h⟩)
   ·exact .inr (.inr ⟨h,hR.F_lt b hb⟩)
  ·obtain⟨q1,q2,q3⟩:=hR.place id b hb
   exact⟨q2,q3 (λh=>h),q1⟩
 rcases he with rfl|rfl<;>exact hend
end Go.Am
end
section
open List renaming map_map->C,mapM_map->K
namespace Go.Am
variable {P:Program}
def sU:List Value->Bool
 |[]=>true
 |v::l=>v.oneCell'&&sU l
def aXe:sU []=true:=rfl
def aTl(v:Value)(l:List Value):sU (v::l)=(v.oneCell'&&sU l):=rfl
def aBt(a:Array Value):a.all CE=sU a.toList:=by
 rw[<-Array.all_toList];generalize a.toList=l;induction l with
 |nil=>rfl
 |cons v l ih=>simp only[List.all_cons,sU,ih]
section
variable (J:Nat->AV) (n:Nat)
def bRo(x:Operand):nev P (.move x) J n=some (oev J x,none):=rfl
def bCr(x:Operand):nev P (.assign x) J n=some (oev J x,none):=rfl
def bRn(c a b:Operand):nev P (.pick c a b) J n=eO ((zV (oev J c)).map λt=>if t then oev J a else oev J b):=rfl
def bIy(e:TypeId):nev P (.alloc e) J n=(tz P e).map λz=>(.ptr n 0,some (.cells e (z.cells.toList.map cv1))):=rfl
def bYd(e:TypeId)(x:Operand):nev P (.box e x) J n=(fN (oev J x)).map λcs=>(.ptr n 0,some (.cells e cs)):=rfl
def bIw(t : TypeId)(ps : List (Nat×Operand)) : nev P (.build t ps.toArray) J n = eO ((tz P t).bind λz => (plc P t).bind λpl => if sU z.cells.toList then
      (nY pl (z.cells.toList.map cv1) (ps.map λp=>(p.1,oev J p.2))).map .ag else none):=by
 simp only[nev,aBt]
def bQw(t:TypeId):plc P t=match gI P t with
 |some fl=>some (fl[·]?)
 |none=>(aAj P t).bind λp=>(tsz P p.2).map λsz=>λi=>some (i*sz,sz):=rfl
def aHy(t : TypeId)(len : Nat)(ps : List (Nat×Operand)) : nev P (.buildSlice t len ps.toArray) J n = (tel P t).bind λe => (tsz P e).bind λsz => (tz P e).bind λz =>
      if z.cells.toList.length=sz/\0<sz/\len*sz<=16777216/\sU z.cells.toList=true then
        (nY (λi=>some (i*sz,sz)) ((AB len (z.cells.toList.map cv1)).flatten) (ps.map λp=>(p.1,oev J p.2))).map λcs=>(.own n 0 len sz,some (.cells e cs))
      else none:=by
 simp only[nev,aBt,BS]
def aMl(t : TypeId)(l c : Operand) : nev P (.makeSlice t l c) J n = (tel P t).bind λe => (tsz P e).bind λsz => (tz P e).bind λz => (tby P e).bind λby_ => (iZ (oev J l)).bind λa => (iZ (oev J c)).bind λb =>
      if z.cells.toList.length=sz/\0<sz/\sU z.cells.toList=true/\0<=a/\a<=b/\(by_:Int)*b<=281474976710656/\b<=9223372036854775807 then
        some (.own n 0 a.toNat sz,some (.cells e (AB a.toNat (z.cells.toList.map cv1)).flatten))
      else none:=by
 simp only[nev,aBt,BS]
def bIx(op:BinOp)(t:TypeId)(x y:Operand)(u:TypeId):nev P (.binOp op t x y u) J n=eO (match aRi op (tel P t) (oev J x) (oev J y)with|some r=>some r|none=>match kJ op (bY P t) (oev J x) (oev J y)with|some r=>some (.d r)|none=>(bNp op (tai P t) (oev J x) (oev J y)).map .d):=rfl
def aRf(x:Operand):nev P (.nilCheck x) J n=eO (bMq (oev J x)):=rfl
def bMp(id o:Nat):bMq (.ptr id o)=some (.ptr id o):=rfl
def bUp(cs:List D):bMq (.fp cs)=some (.fp cs):=rfl
def bRm(op:UnOp)(t:TypeId)(x:Operand):nev P (.unOp op t x) J n=eO ((unA op (oev J x)).map .d):=rfl
def aVi(s t:TypeId)(x:Operand):nev P (.convert s t x) J n=eO ((jJ P t).bind λk=>(iZ (oev J x)).bind λm=>if(P.underlying s).isSome then some (.d (.i k (k.wrap m)))else none):=rfl
def aMn(s:TypeId)(x:Operand)(f:Nat):nev P (.fieldAddr s x f) J n=eO ((gI P s).bind λfl=>(fl[f]?).bind λp=>if p.2=0 then none else aBj p.1 (oev J x)):=rfl
def aMm(t : TypeId)(x i : Operand) : nev P (.indexAddr t x i) J n = eO ((iZ (oev J i)).bind λk => match tel P t with
      |some e=>(tsz P e).bind λsz=>xO sz k (oev J x)
      |none=>(aAj P t).bind λp=>(tsz P p.2).bind λsz=>aBg sz p.1 k (oev J x)):=rfl
def aVh(x:Operand)(i:Nat):nev P (.extract x i) J n=eO ((bBd (oev J x)).bind λvs=>vs[i]?):=rfl
def bIt(t : TypeId)(x : Operand)(lo hi mx : Option Operand) : nev P (.slice t x lo hi mx) J n = eO ((tel P t).bind λe => (tsz P e).bind λsz => (aIc (oev J x)).bind λn => (aQq lo J 0).bind λl => (aQq hi J n).bind λh =>
      match mx with
      |none=>qQ sz (oev J x) l h false
      |some y=>(iZ (oev J y)).bind λm=>if m=h/\hi.isSome then qQ sz (oev J x) l h true else none):=rfl
def bYc(x:Operand)(t:TypeId):nev P (.call ⟨.builtin .len,#[x],#[t]⟩) J n=eO ((tel P t).bind λ_=>(aIc (oev J x)).map λn=>.d (.i .i64 n)):=rfl
def cBr:AV->AV->Option AV
 |.d (.i k a),.d (.i _ b)=>some (.d (.i k (if b>a then b else a)))
 |_,_=>none
def cBp:AV->AV->Option AV
 |.d (.i k a),.d (.i _ b)=>some (.d (.i k (if b<a then b else a)))
 |_,_=>none
def bYi(k k':IntKind)(a b:Int):cBr (.d (.i k a)) (.d (.i k' b))=some (.d (.i k (if b>a then b else a))):=rfl
def bYg(k k':IntKind)(a b:Int):cBp (.d (.i k a)) (.d (.i k' b))=some (.d (.i k (if b<a then b else a))):=rfl
def bYb(x y:Operand)(ts:Array TypeId):nev P (.call ⟨.builtin .max,#[x,y],ts⟩) J n=eO (cBr (oev J x) (oev J y)):=rfl
def bYa(x y:Operand)(ts:Array TypeId):nev P (.call ⟨.builtin .min,#[x,y],ts⟩) J n=eO (cBp (oev J x) (oev J y)):=rfl
def bIv(s:TypeId)(x:Operand)(f:Nat):nev P (.field s x f) J n=eO ((bWz P s f).bind λp=>(aIh (oev J x)).bind λcs=>if p.2.1 then(if p.1+p.2.2<=cs.length then some (.ag ((cs.drop p.1).take p.2.2))else none)else cs[p.1]?):=rfl
def aVg(t:TypeId)(r:Option Operand):nev P (.makeMap t r) J n=(tmp P t).bind λp=>(jJ P p.1).bind λk=>(match r with|none=>some 0|some x=>iZ (oev J x)).map λ_=>(.mp n,some (.map k [])):=rfl
end
def bSe(H:Hp)(ds:List D):(ds.map AV.d).mapM (frz H 7)=some ds:=mA H 6 ds
def bSf(H:Hp)(ds:List D):(ds.map AV.d).mapM (frz H 6)=some ds:=mA H 5 ds
def sS(sz:Nat)(l:List D):chunk sz 0 l=[]:=rfl
def bUo(sz:Nat)(l:List D):chunk sz 1 l=[l.take sz]:=by simp[chunk,List.range_succ]
def bUn(sz:Nat)(l:List D):chunk sz 2 l=[l.take sz,(l.drop sz).take sz]:=by simp[chunk,List.range_succ]
def bKa(H:Hp)(avs:List AV)(l:List D):bS H avs (.ag l)=fK H avs:=rfl
def bSr(H:Hp)(avs:List AV)(x:Bool):bS H avs (.b x)=[]:=rfl
def bSq(H:Hp)(avs:List AV)(k:IntKind)(n:Int):bS H avs (.i k n)=[]:=rfl
def bJw(H:Hp)(avs:List AV)(l:List D):bS H avs (.tp l)=if l.all oK then[]else fK H avs:=rfl
def bJx(H:Hp)(avs:List AV)(l:List (List D)):bS H avs (.sl l)=fK H avs:=rfl
def qZ(H:Hp):fK H []=[]:=rfl
def vE(H:Hp)(a:AV)(l:List AV):fK H (a::l)=vis H 8 a++fK H l:=rfl
def aOn(H:Hp)(n:Nat)(x:D):vis H n (.d x)=[]:=by cases n<;>rfl
def bPd(H:Hp)(n:Nat):vis H n .nil=[]:=by cases n<;>rfl
def bWt(H:Hp)(n:Nat)(x:List (List D)):vis H n (.fd x)=[]:=by cases n<;>rfl
def aLj(H:Hp)(n:Nat)(cs:List AV):vis H (n+1) (.ag cs)=cs.flatMap (vis H n):=rfl
def bFk(H:Hp)(n:Nat)(ds:List D):(ds.map AV.d).flatMap (vis H n)=[]:=by
 induction ds with
 |nil=>rfl
 |cons d ds ih=>rw[AZ,List.flatMap_cons,ih,aOn];rfl
def cAl(H:Hp)(n id off len sz:Nat)(ho:Option HO):List Nat:=match ho with
 |some (.cells _ cs)=>id::((cs.drop (off*sz)).take (len*sz)).flatMap (vis H n)
 |_=>[]
def aXx(H:Hp)(n id off len sz:Nat):vis H (n+1) (.own id off len sz)=cAl H n id off len sz (H id):=rfl
def aEc(H:Hp)(n id off len sz:Nat)(e:TypeId)(cs:List AV):cAl H n id off len sz (some (.cells e cs))=id::((cs.drop (off*sz)).take (len*sz)).flatMap (vis H n):=rfl
def bJu(c:AV)(cells:List AV)(off:Nat)(cs:List AV):lay (c::cells) off cs=(c::cells).take off++cs++(c::cells).drop (off+cs.length):=rfl
def aVb(v:AV):eO (some v)=some (v,none):=rfl
def cDc(sl:List (Nat×AV))(o0:Option HO)(hs:List HO):(StL sl o0 hs).J=jO sl:=rfl
def cDe(sl:List (Nat×AV))(hs:List HO):(StL sl none hs).H=qA 1 hs:=rfl
def cAe(sl:List (Nat×AV))(o:HO)(hs:List HO):(StL sl (some o) hs).H=upd (qA 1 hs) 0 (some o):=rfl
def cDd(sl:List (Nat×AV))(o0:Option HO)(hs:List HO):(StL sl o0 hs).n=hs.length+1:=rfl
def aLu(p:Nat×AV)(l:List (Nat×AV))(t:Nat):jO (p::l) t=if t=p.1 then p.2 else jO l t:=rfl
def bGh(t:Nat):jO [] t=.any:=rfl
def nP(i:Nat)(o:HO)(os:List HO)(j:Nat):qA i (o::os) j=if j=i then some o else qA (i+1) os j:=rfl
def aHd(i j:Nat):qA i [] j=none:=rfl
def gM(J:Nat->AV)(t:Nat):oev J (.tmp t)=J t:=rfl
def cBc(J:Nat->AV)(k:IntKind)(n:Int):oev J (.const (.int k n))=.d (.i k n):=rfl
def cBd(J:Nat->AV)(x:Bool):oev J (.const (.bool x))=.d (.b x):=rfl
def bRh(J:Nat->AV):oev J (.const (.slice none 0 0))=.nil:=rfl
def bRi(J:Nat->AV)(cs:Array Value):oev J (.const (.agg cs))=.ag (cs.toList.map cv1):=rfl
def cCn(k:IntKind)(n:Int):cv1 (.int k n)=.d (.i k n):=rfl
def cCo(x:Bool):cv1 (.bool x)=.d (.b x):=rfl
def bUf:cv1 (.slice none 0 0)=.nil:=rfl
def bEh(cs:Array Value):Em (.agg cs)=cs:=rfl
def bUr(k:IntKind)(n:Int):Em (.int k n)=#[.int k n]:=rfl
def bUs(x:Bool):Em (.bool x)=#[.bool x]:=rfl
def bMs(a:Option Addr)(n c:Nat):Em (.slice a n c)=#[.slice a n c]:=rfl
def bXu(k:IntKind)(n:Int):CE (.int k n)=true:=rfl
def bXv(x:Bool):CE (.bool x)=true:=rfl
def bRe(a:Option Addr)(n c:Nat):CE (.slice a n c)=true:=rfl
def bXt(x:Bool):one (.d (.b x))=true:=rfl
def bXs(k:IntKind)(n:Int):one (.d (.i k n))=true:=rfl
def bRc(l:List (List D)):one (.d (.sl l))=true:=rfl
def bRb:one .nil=true:=rfl
def bRa(a b c d:Nat):one (.own a b c d)=true:=rfl
def bQz(a b:Nat):one (.ptr a b)=true:=rfl
def bXp(a:Nat):one (.mp a)=true:=rfl
def bXr(l:List (List D)):one (.fd l)=true:=rfl
def bXq(l:List D):one (.fp l)=true:=rfl
def bEm(x:Bool):fN (.d (.b x))=some [.d (.b x)]:=rfl
def bEl(k:IntKind)(n:Int):fN (.d (.i k n))=some [.d (.i k n)]:=rfl
def aWv(l:List (List D)):fN (.d (.sl l))=some [.d (.sl l)]:=rfl
def aWt:fN .nil=some [.nil]:=rfl
def aWs(a b c d:Nat):fN (.own a b c d)=some [.own a b c d]:=rfl
def aWr(a b:Nat):fN (.ptr a b)=some [.ptr a b]:=rfl
def bEi(a:Nat):fN (.mp a)=some [.mp a]:=rfl
def bEk(l:List (List D)):fN (.fd l)=some [.fd l]:=rfl
def bEn(cs:List AV):fN (.ag cs)=if cs.all one then some cs else none:=rfl
def aWx(cs:List D):fN (.d (.ag cs))=if(cs.map AV.d).all one then some (cs.map .d)else none:=rfl
def bVb(cs:List AV):aIh (.ag cs)=some cs:=rfl
def bNx(cs:List D):aIh (.d (.ag cs))=some (cs.map .d):=rfl
def bPk(cs:List AV):bBd (.tp cs)=some cs:=rfl
def bFq(cs:List D):bBd (.d (.tp cs))=some (cs.map .d):=rfl
def bKo(k:IntKind)(n:Int):iZ (.d (.i k n))=some n:=rfl
def bEp(x:Bool):zV (.d (.b x))=some x:=rfl
def bCl(J:Nat->AV)(n:Int):aQq none J n=some n:=rfl
def bCk(J:Nat->AV)(x:Operand)(n:Int):aQq (some x) J n=iZ (oev J x):=rfl
def bJs(l:List (List D)):aIc (.d (.sl l))=some (l.length:Int):=rfl
def bSo(l:List (List D)):aIc (.fd l)=some (l.length:Int):=rfl
def bJr:aIc .nil=some 0:=rfl
def bJq(a b c d:Nat):aIc (.own a b c d)=some (c:Int):=rfl
def aWg(off id o:Nat):aBj off (.ptr id o)=some (.ptr id (o+off)):=rfl
def bDw(off:Nat)(cs:List D):aBj off (.fp cs)=some (.fp (cs.drop off)):=rfl
def aVw(sz:Nat)(k:Int)(els:List (List D)):xO sz k (.d (.sl els))=if 0<=k then(els[k.toNat]?).bind λcs=>if cs.length=sz then some (.fp cs)else none else none:=rfl
def bDk(sz:Nat)(k:Int)(els:List (List D)):xO sz k (.fd els)=if 0<=k then(els[k.toNat]?).bind λcs=>if cs.length=sz then some (.fp cs)else none else none:=rfl
def aVv(sz:Nat)(k:Int)(id off len sz':Nat):xO sz k (.own id off len sz')=if 0<=k/\k<len/\sz'=sz then some (.ptr id ((off+k.toNat)*sz))else none:=rfl
def aVx(sz m:Nat)(k:Int)(id o:Nat):aBg sz m k (.ptr id o)=if 0<=k/\k<m then some (.ptr id (o+k.toNat*sz))else none:=rfl
def bDl(sz m:Nat)(k:Int)(cs:List D):aBg sz m k (.fp cs)=if 0<=k/\k<m then some (.fp (cs.drop (k.toNat*sz)))else none:=rfl
def bZy(op:BinOp)(x y:Bool):kJ op true (.d (.b x)) (.d (.b y))=match op with|.eql=>some (.b (x==y))|.neq=>some (.b (!(x==y)))|_=>none:=rfl
def bNh(t:Bool)(k:IntKind)(a b:Int):kJ .add t (.d (.i k a)) (.d (.i k b))=some (.i k (k.wrap (a+b))):=by simp[kJ,arith]
def bMv(t:Bool)(k:IntKind)(a b:Int):kJ .sub t (.d (.i k a)) (.d (.i k b))=some (.i k (k.wrap (a-b))):=by simp[kJ,arith]
def bNb(t:Bool)(k:IntKind)(a b:Int):kJ .mul t (.d (.i k a)) (.d (.i k b))=some (.i k (k.wrap (a*b))):=by simp[kJ,arith]
def bMz(t:Bool)(k:IntKind)(a b:Int):kJ .quo t (.d (.i k a)) (.d (.i k b))=if b=0 then none else some (.i k (k.wrap (a.tdiv b))):=by simp[kJ,arith]
def bMy(t:Bool)(k:IntKind)(a b:Int):kJ .rem t (.d (.i k a)) (.d (.i k b))=if b=0 then none else some (.i k (a.tmod b)):=by simp[kJ,arith]
def bNg(t:Bool)(k:IntKind)(a b:Int):kJ .eql t (.d (.i k a)) (.d (.i k b))=some (.b (a==b)):=by simp[kJ,arith]
def bNa(t:Bool)(k:IntKind)(a b:Int):kJ .neq t (.d (.i k a)) (.d (.i k b))=some (.b (a != b)):=by simp[kJ,arith]
def bNc(t:Bool)(k:IntKind)(a b:Int):kJ .lss t (.d (.i k a)) (.d (.i k b))=some (.b (decide (a<b))):=by simp[kJ,arith]
def bNd(t:Bool)(k:IntKind)(a b:Int):kJ .leq t (.d (.i k a)) (.d (.i k b))=some (.b (decide (a<=b))):=by simp[kJ,arith]
def bNe(t:Bool)(k:IntKind)(a b:Int):kJ .gtr t (.d (.i k a)) (.d (.i k b))=some (.b (decide (b<a))):=by simp[kJ,arith]
def bNf(t:Bool)(k:IntKind)(a b:Int):kJ .geq t (.d (.i k a)) (.d (.i k b))=some (.b (decide (b<=a))):=by simp[kJ,arith]
def bMx(t:Bool)(k k':IntKind)(a b:Int):kJ .shl t (.d (.i k a)) (.d (.i k' b))=kZ .shl k a b:=by simp[kJ]
def bMw(t:Bool)(k k':IntKind)(a b:Int):kJ .shr t (.d (.i k a)) (.d (.i k' b))=kZ .shr k a b:=by simp[kJ]
def bEr(op:BinOp)(t:Bool)(x:AV):kJ op t x .nil=none:=by unfold kJ;split<;>simp_all
def bPi(p:Bool):unA .not (.d (.b p))=some (.b !p):=rfl
def bPj(k:IntKind)(a:Int):unA .neg (.d (.i k a))=some (.i k (k.wrap (0-a))):=rfl
def bCu(op:BinOp)(x y:AV):aRi op none x y=none:=rfl
def bJb(op:BinOp)(e:TypeId)(x:AV):aRi op (some e) x .nil=(qV x).bind (bCt op):=rfl
def bYt(x:Bool):aO (.b x)=.d (.b x):=rfl
def bYs(k:IntKind)(n:Int):aO (.i k n)=.d (.i k n):=rfl
def bTa(l:List (List D)):aO (.sl l)=.d (.sl l):=rfl
def bTd(l:List D):aO (.ag l)=.ag (l.map .d):=rfl
def cCa(x:Bool):inj (.b x)=.d (.b x):=rfl
def cBz(k:IntKind)(n:Int):inj (.i k n)=.d (.i k n):=rfl
def bYp(l:List (List D)):inj (.sl l)=.d (.sl l):=rfl
def bYr(l:List D):inj (.ag l)=.ag (l.map .d):=rfl
def bYo(l:List D):inj (.tp l)=.tp (l.map aO):=rfl
def bPs(l:List Nat)(x:D):lJ l (.d x)=.d x:=rfl
def bBl(l:List Nat):lJ l .nil=.nil:=rfl
def bGo(l:List Nat):lJ l .un=.un:=rfl
def bBm(l:List Nat):lJ l .any=.any:=rfl
def bBk(l:List Nat)(a b c d:Nat):lJ l (.own a b c d)=if a∈l then .any else .own a b c d:=rfl
def bBj(l:List Nat)(a b:Nat):lJ l (.ptr a b)=if a∈l then .any else .ptr a b:=rfl
def bGq(l:List Nat)(a:Nat):lJ l (.mp a)=if a∈l then .any else .mp a:=rfl
def bGr(l:List Nat)(c:List D):lJ l (.fp c)=.fp c:=rfl
def bGt(l:List Nat)(c:List (List D)):lJ l (.fd c)=.fd c:=rfl
def bGu(l:List Nat)(c:List AV):lJ l (.ag c)=.ag (c.map (fV l)):=rfl
def bGp(l:List Nat)(c:List AV):lJ l (.tp c)=.tp (c.map (tU l)):=rfl
def bGv(l:List Nat)(x:D):fV l (.d x)=.d x:=rfl
def aUt(l:List Nat):fV l .nil=.nil:=rfl
def bBn(l:List Nat):fV l .un=.un:=rfl
def aUu(l:List Nat):fV l .any=.any:=rfl
def aUs(l:List Nat)(a b c d:Nat):fV l (.own a b c d)=if a∈l then .any else .own a b c d:=rfl
def aUr(l:List Nat)(a b:Nat):fV l (.ptr a b)=if a∈l then .any else .ptr a b:=rfl
def yG(l:List Nat)(e:TypeId)(cs:List AV):fG l (.cells e cs)=.cells e (cs.map (fV l)):=rfl
def aPk(l:List Nat)(e:TypeId)(ds:List D):fG l (.cells e (ds.map .d))=.cells e (ds.map .d):=by rw[yG,vK]
def bGa(H:Hp)(sz:Nat):aAp H sz .nil=some (0,[]):=rfl
def bGb(H:Hp)(sz:Nat)(els:List (List D)):aAp H sz (.d (.sl els))=if fB sz els=true/\(els.flatten.map AV.d).all one=true then some (els.length,els.flatten.map .d)else none:=rfl
def bPo(H:Hp)(sz:Nat)(els:List (List D)):aAp H sz (.fd els)=if fB sz els=true/\(els.flatten.map AV.d).all one=true then some (els.length,els.flatten.map .d)else none:=rfl
def bFy(ho:Option HO)(sz off len sz':Nat):Option (Nat×List AV):=match ho with
  |some (.cells _ cs)=>if sz'=sz/\(off+len)*sz<=cs.length/\((cs.drop (off*sz)).take (len*sz)).all one=true then some (len,(cs.drop (off*sz)).take (len*sz))else none
  |_=>none
def bFz(H:Hp)(sz id off len sz':Nat):aAp H sz (.own id off len sz')=bFy (H id) sz off len sz':=rfl
def aLr(e:TypeId)(cs:List AV)(sz off len sz':Nat):bFy (some (.cells e cs)) sz off len sz'=if sz'=sz/\(off+len)*sz<=cs.length/\((cs.drop (off*sz)).take (len*sz)).all one=true then some (len,(cs.drop (off*sz)).take (len*sz))else none:=rfl
def aVe(sz:Nat):fB sz []=true:=rfl
def aQs(sz:Nat)(a:List D)(l:List (List D)):fB sz (a::l)=(a.length==sz):=rfl
def uW(e : TypeId)(sz bt n : Nat)(s : AV)(ho : Option HO)(p : Nat×List AV) : Option (AV×Option HO×List Nat) := match s with
      |.nil=>if p.1=0 then some (.nil,none,[])else if p.1*bt<=140737488355328/\p.1<=maxLen then some (.own n 0 p.1 sz,some (.cells e p.2),[])else none
      |.own id off len sz'=>match ho with
        |some (.cells e' cs)=>if off=0/\sz'=sz/\e'=e/\cs.length=len*sz/\(len+p.1)*bt<=140737488355328/\len+p.1<=maxLen then
            some (.own n 0 (len+p.1) sz,some (.cells e (cs++p.2)),[id])else none
        |_=>none
      |.fd els => if 0 < p.1 /\ fB sz els = true /\ (els.flatten.map AV.d).all one = true /\ (els.length + p.1)*bt <= 140737488355328 /\ els.length + p.1 <= maxLen then
            some (.own n 0 (els.length+p.1) sz,some (.cells e (els.flatten.map .d++p.2)),[])else if p.1=0 then some (.fd els,none,[])else none
      |_=>none
def aYq:AV->Nat
 |.own id _ _ _=>id
 |_=>0
def bNt(H:Hp)(t:TypeId)(s x:AV)(n:Nat):aCr P H t s x n=(tel P t).bind λe=>(tsz P e).bind λsz=>(tby P e).bind λbt=>(tz P e).bind λz=>(aAp H sz x).bind λp =>
  if z.cells.size=sz/\0<sz then uW e sz bt n s (H (aYq s)) p else none:=by
 unfold aCr
 congr;funext e;congr;funext sz;congr;funext bt;congr;funext z;congr;funext p
 split
 ·cases s<;>rfl
 ·rfl
def bCi(a b c d:Nat):aYq (.own a b c d)=a:=rfl
def bCj:aYq .nil=0:=rfl
def bIf(l:List (List D)):aYq (.fd l)=0:=rfl
def bUy(e : TypeId)(sz bt n : Nat)(ho : Option HO)(els : List (List D))(m : Nat)(cs : List AV) : uW e sz bt n (.fd els) ho (m, cs) = if 0 < m /\ fB sz els = true /\ (els.flatten.map AV.d).all one = true /\ (els.length + m)*bt <= 140737488355328 /\ els.length + m <= maxLen then
            some (.own n 0 (els.length+m) sz,some (.cells e (els.flatten.map .d++cs)),[])else if m=0 then some (.fd els,none,[])else none:=rfl
def bNs(e:TypeId)(sz bt n:Nat)(ho:Option HO)(m:Nat)(cs:List AV):uW e sz bt n .nil ho (m,cs)=if m=0 then some (.nil,none,[])else if m*bt<=140737488355328/\m<=maxLen then some (.own n 0 m sz,some (.cells e cs),[])else none:=rfl
def bNr(e e' : TypeId)(sz bt n id off len sz' : Nat)(cs : List AV)(m : Nat)(ds : List AV) : uW e sz bt n (.own id off len sz') (some (.cells e' cs)) (m, ds) = if off = 0 /\ sz' = sz /\ e' = e /\ cs.length = len*sz /\ (len + m)*bt <= 140737488355328 /\ len + m <= maxLen then
            some (.own n 0 (len+m) sz,some (.cells e (cs++ds)),[id])else none:=rfl
def ldC(ag:Bool)(sz:Option Nat)(off:Nat)(ho:Option HO):Option AV:=match ho with
  |some (.cells _ cs)=>if ag then sz.bind λsz=>if off+sz<=cs.length then some (.ag ((cs.drop off).take sz))else none else cs[off]?
  |_=>none
def bDd(H:Hp)(t:TypeId)(id off:Nat):zB P H t (.ptr id off)=(dA P t).bind λag=>ldC ag (tsz P t) off (H id):=rfl
def bDf(ag:Bool)(sz:Option Nat)(off:Nat)(e:TypeId)(cs:List AV):ldC ag sz off (some (.cells e cs))=if ag then sz.bind λsz=>if off+sz<=cs.length then some (.ag ((cs.drop off).take sz))else none else cs[off]? := rfl
def bJk(H:Hp)(t:TypeId)(cs:List D):zB P H t (.fp cs)=(dA P t).bind λag=>if ag then(tsz P t).bind λsz=>if sz<=cs.length then some (.ag ((cs.take sz).map .d))else none else(cs[0]?).map .d:=rfl
def stC(id off:Nat)(sz:Option Nat)(vs:Option (List AV))(ho:Option HO):Option (Nat×HO):=match ho with
  |some (.cells e cs)=>vs.bind λvs=>sz.bind λsz=>if vs.length=sz/\off+sz<=cs.length then some (id,.cells e (lay cs off vs))else none
  |_=>none
def aUk(H:Hp)(t:TypeId)(id off:Nat)(x:AV):qO P H t (.ptr id off) x=stC id off (tsz P t) (fN x) (H id):=rfl
def bBe(id off:Nat)(sz:Option Nat)(vs:Option (List AV))(e:TypeId)(cs:List AV):stC id off sz vs (some (.cells e cs))=vs.bind λvs=>sz.bind λsz=>if vs.length=sz/\off+sz<=cs.length then some (id,.cells e (lay cs off vs))else none:=rfl
def bLm(H:Hp)(n id off len sz:Nat):frz H (n+1) (.own id off len sz)=match H id with
  |some (.cells _ cs)=>if(off+len)*sz<=cs.length/\0<sz then(((cs.drop (off*sz)).take (len*sz)).mapM (frz H n)).map λl=>.sl (chunk sz len l)else none
  |_=>none:=rfl
def bHj(σ:St)(t:Nat):nS P σ (.tmp t)=some (σ.J t):=rfl
def bBt(σ:St)(ad t:Nat):nS P σ (.cell ad t)=zB P σ.H t (σ.J ad):=rfl
def rD(x:ResultVar)(σ:St):mY P [x] σ=(nS P σ x).bind λav=>frz σ.H 8 av:=by
 unfold mY;simp only[Ca,Gn,DI,CY];cases nS P σ x with
 |none=>rfl
 |some av =>
  simp only[Option.bind_some,fW,Ca,Gn,DI,CY];cases frz σ.H 8 av<;>rfl
def bKc(H:Hp):kill [] H=H:=rfl
def bKb(a:Nat)(H:Hp):kill [a] H=λid=>if id=a then none else H id:=by funext id;simp[kill]
def bEw(H:Hp)(n:Nat):jE H n none=H:=rfl
def bEv(H:Hp)(n:Nat)(o:HO):jE H n (some o)=upd H n (some o):=rfl
def bMm(n:Nat):cnt none n=n:=rfl
def bMl(n:Nat)(o:HO):cnt (some o) n=n+1:=rfl
def bCd(J:Nat->AV)(d:Nat)(v:AV):bT J (some d) v=upd J d v:=rfl
def bCe(J:Nat->AV)(v:AV):bT J none v=J:=rfl
def dU{α:Type}(f:Nat->α)(k j:Nat)(x:α):upd f k x j=if j=k then x else f j:=rfl
def bDv(place:Nat->Option (Nat×Nat))(cells:List AV):nY place cells []=some cells:=rfl
def bWe(place:Nat->Option (Nat×Nat))(cells:List AV)(pl:Option (Nat×Nat))(cs:Option (List AV))(rest:List (Nat×AV)):Option (List AV):=match pl,cs with
 |some (off,size),some cs=>if cs.length=size/\off+cs.length<=cells.length then nY place (lay cells off cs) rest else none
 |_,_=>none
def aWf(place:Nat->Option (Nat×Nat))(cells:List AV)(i:Nat)(x:AV)(rest:List (Nat×AV)):nY place cells ((i,x)::rest)=bWe place cells (place i) (fN x) rest:=rfl
def aWe(place:Nat->Option (Nat×Nat))(cells:List AV)(off size:Nat)(cs:List AV)(rest:List (Nat×AV)):bWe place cells (some (off,size)) (some cs) rest=if cs.length=size/\off+cs.length<=cells.length then nY place (lay cells off cs) rest else none:=rfl
def aUp(sz:Nat)(els:List (List D))(l h:Int)(full:Bool):qQ sz (.d (.sl els)) l h full=if 0<=l/\l<=h then if h<=els.length/\fB sz els=true then some (if full then .fd ((els.take h.toNat).drop l.toNat)else .d (.sl ((els.take h.toNat).drop l.toNat)))else none else none:=rfl
def bBh(sz:Nat)(els:List (List D))(l h:Int)(full:Bool):qQ sz (.fd els) l h full=if 0<=l/\l<=h then if h<=els.length/\fB sz els=true then some (if full then .fd ((els.take h.toNat).drop l.toNat)else .d (.sl ((els.take h.toNat).drop l.toNat)))else none else none:=rfl
def aLf(ops:Array Oper)(dst:Option Tmp)(op:Op)(ty:TypeId)(pos:String)(after:Array Edge)(j:Nat)(w:Bool)(J:Nat->AV):eY ops ⟨dst,op,ty,pos,after,some (j,w)⟩ J =
  match(ops[j]?).bind (·.dst)with
  |none=>some false
  |some d=>match J d with
   |.d (.b x)=>some (x==w)
   |.un=>some false
   |_=>none:=rfl
def bWp(args:List D)(N t:Nat):Γ0 args N t=match args[t]? with|some d=>aO d|none=>.un:=by unfold Γ0;cases args[t]?<;>simp
def tY(m:List Nat)(f:Nat->D):fB 1 (m.map λx=>[f x])=true:=by cases m<;>rfl
end Go.Am
end
section
open List renaming map_map->C,mapM_map->K
namespace Go.Am
def val:List Nat->Nat
 |[]=>0
 |x::l=>x+4294967296*val l
def Lim(l:List Nat):Prop:=∀x∈l,x<4294967296
def Lim.nil:Lim []:=λ_ h=>by cases h
def Lim.cons{x:Nat}{l:List Nat}(h:x<4294967296)(k:Lim l):Lim (x::l):=λy hy=>by
 rcases AG.1 hy with rfl|hy
 ·exact h
 ·exact k y hy
def Lim.app{a b:List Nat}(h:Lim a)(k:Lim b):Lim (a++b):=λy hy=>by
 rcases List.mem_append.1 hy with hy|hy
 ·exact h y hy
 ·exact k y hy
def Lim.one{x:Nat}(h:x<4294967296):Lim [x]:=.cons h .nil
def Lim.take{l:List Nat}(h:Lim l)(n:Nat):Lim (l.take n):=λy hy=>h y (List.mem_of_mem_take hy)
def Lim.get{l:List Nat}(h:Lim l){i:Nat}(hi:i<l.length):l[i]<4294967296:=h _ (Ar hi)
def Lim.getD{l:List Nat}(h:Lim l)(i:Nat):l.getD i 0<4294967296:=by
 rw[Af];rcases Bf i l.length with hi|hi
 ·rw[Ab hi];exact h.get hi
 ·rw[AW hi];decide
def Lim.rep(n:Nat):Lim (AB n 0):=λy hy=>by rw[(List.mem_replicate.1 hy).2];decide
def Lim.set{l:List Nat}(h:Lim l)(i:Nat){x:Nat}(hx:x<4294967296):Lim (l.set i x):=λy hy=>by
 rcases List.mem_or_eq_of_mem_set hy with hy|rfl
 ·exact h y hy
 ·exact hx
def oM(a b:List Nat):val (a++b)=val a+4294967296^a.length*val b:=by
 induction a with
 |nil=>simp[val]
 |cons x a ih =>
  simp only[BP,val,ih,AH,Cp,Cq];rw[Nat.mul_comm (4294967296^a.length) 4294967296,Nat.mul_assoc];omega
def aCw(n:Nat):val (AB n 0)=0:=by
 induction n with
 |zero=>rfl
 |succ n ih=>simp[DO,val,ih]
def tP{l:List Nat}(h:Lim l):val l<4294967296^l.length:=by
 induction l with
 |nil=>simp[val]
 |cons x l ih =>
  have h1:=h x (Av ..);have h2:=ih λy hy=>h y (Au _ hy)
  simp only[val,AH,Cp];omega
def eA(l:List Nat)(i:Nat):val (l.take (i+1))=val (l.take i)+4294967296^i*l.getD i 0:=by
 rcases Bf i l.length with hi|hi
 ·rw[List.take_add_one,Ab hi,oM,Ax,BR (by omega),Af,Ab hi];simp[val]
 ·rw[Ai (by omega),Ai (by omega),Af,AW hi];simp
def aU(n:Nat):List Nat:=if h:n=0 then[]else n%4294967296::aU (n/4294967296)
termination_by n
decreasing_by omega
def dH:aU 0=[]:=by rw[aU];simp
def jX{n:Nat}(h:n≠0):aU n=n%4294967296::aU (n/4294967296):=by rw[aU];simp[h]
def fP{n:Nat}:aU n=[]↔n=0:=by
 constructor
 ·intro h;by_cases hn:n=0
  ·exact hn
  ·rw[jX hn]at h;cases h
 ·rintro rfl;exact dH
def aGq{p:Nat->Prop}(h0:p 0)(h1:∀n,n≠0->p (n/4294967296)->p n):∀n,p n:=λn=>by
 induction n using Nat.strongRecOn with
 |_ n ih =>
  by_cases hn:n=0
  ·subst hn;exact h0
  ·exact h1 n hn (ih _ (by omega))
def dS(n:Nat):val (aU n)=n:=by refine aGq (p:=λn=>val (aU n)=n) (by rw[dH];rfl) (λn hn ih=>?_) n;rw[jX hn,val,ih];omega
def cY(n:Nat):Lim (aU n):=by refine aGq (p:=λn=>Lim (aU n)) (by rw[dH];exact .nil) (λn hn ih=>?_) n;rw[jX hn];exact .cons (by omega) ih
def oL(l:List Nat):Prop:=l.getLast? ≠ some 0
def lF(n:Nat):oL (aU n):=by
 refine aGq (p:=λn=>oL (aU n)) (by rw[dH];simp[oL]) (λn hn ih=>?_) n;rw[jX hn];by_cases h:n/4294967296=0
 ·rw[h,dH];simp only[oL,List.getLast?_singleton,ne_eq,AU];omega
 ·unfold oL at ih ⊢;rw[jX h]at ih ⊢;simpa[Gu]using ih
def strip:List Nat->List Nat
 |[]=>[]
 |x::l=>match strip l with
  |[]=>if x=0 then[]else[x]
  |l'=>x::l'
def iW{l:List Nat}(h:Lim l):strip l=aU (val l):=by
 induction l with
 |nil=>rw[val,dH];rfl
 |cons x l ih =>
  have hx:=h x (Av ..);have hl:=ih λy hy=>h y (Au _ hy)
  simp only[strip,val];rw[hl];by_cases h0:val l=0
  ·rw[h0,dH];simp only[Nat.mul_zero,Nat.add_zero];by_cases hx0:x=0
   ·subst hx0;rw[dH];rfl
   ·rw[Ac hx0,jX hx0,Nat.mod_eq_of_lt hx,Nat.div_eq_of_lt hx,dH]
  ·rw[jX (n:=x+_) (by omega)];have e1:(x+4294967296*val l)%4294967296=x:=by omega
   have e2:(x+4294967296*val l)/4294967296=val l:=by omega
   rw[e1,e2];have:aU (val l)≠[]:=λe=>h0 (fP.1 e)
   cases hd:aU (val l)with
   |nil=>exact(this hd).elim
   |cons=>rfl
def aEn(l:List Nat):strip (l++[0])=strip l:=by
 induction l with
 |nil=>rfl
 |cons x l ih=>simp only[BP,strip,ih]
def qF{l:List Nat}(h:oL l):strip l=l:=by
 induction l with
 |nil=>rfl
 |cons x l ih =>
  cases l with
  |nil =>
   have:x≠0:=by simpa[oL]using h
   simp[strip,this]
  |cons y l =>
   have h2:oL (y::l):=by simpa[oL,Gu]using h
   have h3:=ih h2;rw[strip,h3]
def bMd{l:List Nat}(h:Lim l)(hc:oL l):aU (val l)=l:=by rw[<-iW h,qF hc]
def fZ{n k:Nat}(h:n<4294967296^k):(aU n).length<=k:=by
 induction k generalizing n with
 |zero=>simp at h;subst h;rw[dH];simp
 |succ k ih =>
  by_cases hn:n=0
  ·subst hn;rw[dH];simp
  ·rw[jX hn,AH];have:n/4294967296<4294967296^k:=by rw[Cp]at h;omega
   have:=ih this;omega
def gW{n k:Nat}(h:(aU n).length<=k):n<4294967296^k:=by have h1:=tP (cY n);rw[dS]at h1;exact Nat.lt_of_lt_of_le h1 (Nat.pow_le_pow_right (by decide) h)
def fC{a b:Nat}(h:a<=b):(aU a).length<=(aU b).length:=fZ (Nat.lt_of_le_of_lt h (gW (Ap _)))
def kI{a b:Nat}(h:(aU a).length<(aU b).length):a<b:=by
 rcases Bf a b with h'|h'
 ·exact h'
 ·have:=fC h';omega
def vF{a b:List Nat}(ha:Lim a){i:Nat}(hl:a.length=b.length)(hi:i<a.length)(hd:a.drop (i+1)=b.drop (i+1))(hlt:a.getD i 0<b.getD i 0):val a<val b:=by
 have e1:a=a.take (i+1)++a.drop (i+1):=(CM _ _).symm;have e2:b=b.take (i+1)++b.drop (i+1):=(CM _ _).symm;rw[e1,e2,oM,oM,hd,eA,eA];have h1:=tP (ha.take i);rw[Ax,BR (by omega)]at h1;have h2:(a.take (i+1)).length=(b.take (i+1)).length:=by simp[hl]
 rw[h2];have h3:4294967296^i*(a.getD i 0+1)<=4294967296^i*b.getD i 0:=Nat.mul_le_mul_left _ hlt;rw[Cq,DE]at h3;omega
def aM(m:List Nat):D:=.sl (m.map λ(x:Nat)=>[D.i .u32 (x:Int)])
def lms(m:List Nat):List D:=m.map λ(x:Nat)=>D.i .u32 (x:Int)
def nK(m:List Nat):(lms m).length=m.length:=by simp[lms]
def iG(a b:List Nat):lms (a++b)=lms a++lms b:=by simp[lms]
def iL(x:Nat):lms [x]=[D.i .u32 (x:Int)]:=rfl
def aZg{m:List Nat}{i x:Nat}(h:m[i]? = some x):(lms m)[i]? = some (.i .u32 (x:Int)):=by simp[lms,h]
def zC(m:List Nat)(i x:Nat):(lms m).set i (.i .u32 (x:Int))=lms (m.set i x):=by simp[lms,List.map_set]
def aRr(m:List Nat):(m.map λ(x:Nat)=>[D.i .u32 (x:Int)]).flatten=lms m:=by unfold lms;induction m<;>simp_all
def aZh(m:List Nat):((lms m).map AV.d).all one=true:=by simp[lms,one]
def bJl(m:List Nat):(∀x,x∈lms m->one (AV.d x)=true)↔True:=⟨λ_=>trivial,λ_ x hx=>by
 obtain⟨y,_,rfl⟩:=List.mem_map.1 hx;rfl⟩
def bSl(n:Nat):AB n (D.i .u32 0)=lms (AB n 0):=by simp[lms]
def bQe(n:Nat):AB n (AV.d (D.i .u32 0))=(lms (AB n 0)).map .d:=by simp[lms]
def iB{m:List Nat}{n:Nat}(h:m.length=n):chunk 1 n (lms m)=m.map λ(x:Nat)=>[D.i .u32 (x:Int)]:=by rw[wF _ _ (by rw[nK];exact h.symm)];simp[lms]
def fE{m:List Nat}{n:Nat}(h:m.length=n):List.take n ((lms m).map AV.d)=(lms m).map AV.d:=Ai (by simp[nK,h])
def encI(neg:Bool)(m:List Nat):D:=.ag [.b neg,aM m]
def encZ(z:Int):D:=encI (decide (z<0)) (aU z.natAbs)
def sg(neg:Bool)(n:Nat):Int:=if neg then -(n:Int)else n
def bUb(neg:Bool)(n:Nat):encI (neg&&decide (n≠0)) (aU n)=encZ (sg neg n):=by
 unfold encZ sg;cases neg
 ·have h:decide ((n:Int)<0)=false:=by simp
  simp[h]
 ·simp only[Bool.true_and,B1,Int.natAbs_neg,Int.natAbs_natCast];congr 1;rw[Bool.eq_iff_iff];simp;omega
def jH(z:Int):sg (decide (z<0)) z.natAbs=z:=by
 unfold sg;by_cases h:z<0
 ·rw[Ad (by simpa using h)];omega
 ·rw[Ac (by simpa using h)];omega
def wrap_i64{n:Int}(h1:-9223372036854775808<=n)(h2:n<=9223372036854775807):Ag.wrap n=n:=by simp[Ew,DU,Di];omega
def aV{n:Int}(h1:-9223372036854775808<=n:=by omega)(h2:n<=9223372036854775807:=by omega):Ag.wrap n=n:=wrap_i64 h1 h2
def bU{n:Int}(h1:0<=n)(h2:n<18446744073709551616):A1.wrap n=n:=by simp[Ew,DU,Di];omega
def aAg(n:Int):A1.wrap n=n%18446744073709551616:=by simp[Ew,DU,Di]
def jF(n:Int):Cr.wrap n=n%4294967296:=by simp[Ew,DU,Di]
def kP{n:Int}(h1:0<=n)(h2:n<4294967296):Cr.wrap n=n:=by rw[jF];omega
def tO(n:Int):IntKind.u8.wrap n=n%256:=by simp[Ew,DU,Di]
end Go.Am
end
