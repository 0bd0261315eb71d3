/- Numbers to the base 2^32 as lists of limbs: values, canonical lists, sums, differences, products: plain arithmetic, no program in sight. No condition. -/
import Derived.Test.YtgjjndadkmodpaaGreatB2
import Derived.Scope
import Derived.Defers
set_option linter.all false
open Array renaming all_eq_true_iff_forall_mem->BW,getD_eq_getD_getElem?->Bi,getElem?_append_left->BH,getElem?_append_right->EC,getElem?_eq_getElem->AD,getElem?_replicate->Cr,length_toList->BQ,mapM_eq_mapM_toList->DZ,mem_of_getElem?->CY,replicate->BG
open Bool renaming and_eq_true->AO,false_eq_true->A1,not_eq_true'->Ck
open Go.Ending renaming returned->DL
open Go.Instr renaming loadAt->EM,sureAddr->CF
open Go.IntKind renaming bits->DC,i64->Ag,signed->Eh,u32->Co,u64->A2,wrap->EO
open Go.Region renaming wanted->Ey
open Go.Result renaming andThen_ok->AZ
open Go.Sem renaming run_bind->A3,run_pure->Bx
open Go.Value renaming cells->EG,oneCell'->CE
open Iff renaming rfl->Fv
open List renaming all_eq_true->Ay,cons_append->BN,ext_getElem?->DG,flatten_cons->BE,getD_eq_getElem?_getD->Af,getElem?_eq_getElem->Ab,getElem?_eq_none->AW,getElem?_map->Aw,getElem_mem->Ar,getLast?_cons_cons->Gp,length_cons->AH,length_take->Ax,mapM_cons->B6,mapM_nil->Gk,map_cons->A0,mem_cons->AG,mem_cons_of_mem->As,mem_cons_self->Av,nodup_cons->DJ,replicate->AB,replicate_succ->DN,take_append_drop->Cc,take_of_length_le->Ai
open Nat renaming le_refl->Ap,lt_or_ge->Bd,lt_succ_self->AK,min_eq_left->BP,mul_add->Cn,mul_one->DP,pow_succ->Cm
open Option renaming bind_eq_bind->CW,bind_eq_some_iff->Ad,map_eq_some_iff->Aj,pure_def->DH
open Option.some renaming injEq->AU
open Prod.mk renaming injEq->Ez
open _root_ renaming decide_eq_true_eq->AI,if_false->BY,if_neg->Ac,if_pos->Ae,if_true->B5
section
open List renaming map_map->C,mapM_map->K
namespace Go.Am
open RowKit (Below)
def WkR(σ σ':St):Prop:=σ=σ'\/∃ρ,Wk σ σ' ρ
def AWP(P:Program):Code->St->(Exit->St->Prop)->Prop
 |.skip,σ,Q=>Q .normal σ
 |.region _ ops _,σ,Q=>OW P ops ops.toList σ [] λσ' con=>Q .normal (fin σ' con)
 |.seq x y,σ,Q=>AWP P x σ λe σ'=>match e with|.normal=>AWP P y σ' Q|e=>Q e σ'
 |.cond c x y,σ,Q=>match oev σ.J c with|.d (.b t)=>if t then AWP P x σ Q else AWP P y σ Q|.ub=>AWP P x σ Q/\AWP P y σ Q|_=>False
 |.block id c,σ,Q=>AWP P c σ λe σ'=>match e with|.exit id'=>if id'=id then Q .normal σ' else Q (.exit id') σ'|e=>Q e σ'
 |.loop c,σ,Q=>∃(τ:Type) (S:τ->St) (m:τ->Nat) (x0:τ),WkR σ (S x0)/\∀x,AWP P c (S x) λe σ'=>match e with|.normal=>∃y,m y<m x/\WkR σ' (S y)|e=>∃σ2,WkR σ' σ2/\Q e σ2
 |.exit id,σ,Q=>Q (.exit id) σ
 |.ret,σ,Q=>Q .ret σ
 |.label _,σ,Q=>Q .normal σ
 |.scope c,σ,Q=>AWP P c σ λe σ'=>match e with|.goto _=>False|e=>Q e σ'
 |_,_,_=>False
def aUx(N:Nat)(ops:Array Oper):Bool:=ops.all λo=>match o.dst with|some d=>decide (d<N)|none=>true
def dK(N:Nat):Code->Bool
 |.region _ ops _=>aUx N ops
 |.seq x y|.cond _ x y=>dK N x&&dK N y
 |.block _ c|.loop c|.scope c=>dK N c
 |_=>true
def bId(z:Nat->Bool)(ops:Array Oper):Bool:=ops.all λo=>match o.dst with|some d=>!z d|none=>true
def oE(z:Nat->Bool):Code->Bool
 |.region _ ops _=>bId z ops
 |.seq x y|.cond _ x y=>oE z x&&oE z y
 |.block _ c|.loop c|.scope c=>oE z c
 |_=>true
def aQm(ops:Array Oper):bId (λ_=>false) ops=true:=by
 refine BW.2 λo _=>?_
 cases o.dst<;>rfl
def zR(c:Code):oE (λ_=>false) c=true:=by
 induction c with
 |region id ops d=>exact aQm ops
 |seq x y ihx ihy=>simp[oE,ihx,ihy]
 |cond c x y ihx ihy=>simp[oE,ihx,ihy]
 |block id c ih=>exact ih
 |loop c ih=>exact ih
 |scope c ih=>exact ih
 |_=>rfl
def eC(P:Program):Code->Bool
 |.region _ ops draw=>!draw||bJl P ops
 |.seq x y|.cond _ x y=>eC P x&&eC P y
 |.block _ c|.loop c|.scope c=>eC P c
 |_=>true
def qG{N:Nat}{ops:Array Oper}(h:aUx N ops=true):∀(i:Nat) (o:Oper) (d:Tmp),ops[i]? = some o->o.dst=some d->d<N:=by intro i o d hi hd;have:=BW.1 h o (CY hi);rw[hd]at this;simpa using this
def yO{N:Nat}{ops:Array Oper}{z:Nat->Bool}{G:Ctx}(hz:∀d v,G.Z d=some v->z d=true)(h:aUx N ops=true)(hnz:bId z ops=true) :
  ∀(i:Nat) (o:Oper) (d:Tmp),ops[i]? = some o->o.dst=some d->d<N/\G.Z d=none:=by
 intro i o d hi hd
 refine⟨qG h i o d hi hd,?_⟩
 have:=BW.1 hnz o (CY hi)
 rw[hd]at this
 cases hZ:G.Z d with
 |none=>rfl
 |some v=>have h2:=hz d v hZ;simp[h2]at this
section
variable {P:Program} {G:Ctx} {N:Nat} {ds:List Deferred}
def pS{σ σ':St}{a:Act}{w:World}(hk:WkR σ σ')(h:SR G N ds σ a w):SR G N ds σ' a w:=by
 rcases hk with rfl|⟨ρ,hk⟩
 ·exact h
 ·exact aDv hk h
def bVb{f:FuncId}{args:Array Operand}{dst:Option Tmp}{σ:St}{con:List Nat}{k k':St->List Nat->Prop}(hk:∀σ con,k σ con->k' σ con)(h:OC P f args dst σ con k):OC P f args dst σ con k':=by
 unfold OC at h ⊢;split
 ·rename_i hm;rw[Ae hm]at h;split
  ·rename_i x rest hargs;simp only[hargs]at h;split
   ·rename_i id hh hx;simp only[hx]at h;split
    ·rename_i ho hH;simp only[hH]at h;rcases h with ⟨g,h1,h2,h3,h4⟩|⟨h1,h2,ds,ho',r,h3,h4,h5,h6,h7⟩|⟨p0,ν,h0,ro,hs,ds,ro',hs',r,p1,p2,p3,p4,p5,p6,p7,p8,p9,p10⟩|⟨h1,h2,ds,r,h3,h4,h5⟩
     ·exact .inl ⟨g,h1,h2,h3,hk _ _ h4⟩
     ·exact .inr (.inl ⟨h1,h2,ds,ho',r,h3,h4,h5,h6,hk _ _ h7⟩)
     ·exact .inr (.inr (.inl ⟨p0,ν,h0,ro,hs,ds,ro',hs',r,p1,p2,p3,p4,p5,p6,p7,p8,p9,hk _ _ p10⟩))
     ·exact .inr (.inr (.inr ⟨h1,h2,ds,r,h3,h4,hk _ _ h5⟩))
    ·rename_i hH;simp only[hH]at h
   ·rename_i hx;simp only[hx]at h;obtain⟨h1,ds,r,h3,h4,h5⟩:=h;exact⟨h1,ds,r,h3,h4,hk _ _ h5⟩
  ·rename_i hargs;simp only[hargs]at h
 ·rename_i hm;rw[Ac hm]at h;rcases h with ⟨h0,h1,v,hs,h2,h5⟩|h
  ·exact .inl ⟨h0,h1,v,hs,h2,hk _ _ h5⟩
  refine .inr ?_;split
  ·rename_i g id hargs;simp only[hargs]at h;split
   ·rename_i es hH;simp only[hH]at h;exact⟨h.1,h.2.1,h.2.2.1,hk _ _ h.2.2.2⟩
   ·rename_i hne;exfalso;split at h
    ·rename_i es hH;exact hne _ hH
    ·exact h
  ·rename_i hne;split at h
   ·rename_i g id hargs;exact(hne _ _ hargs).elim
   ·obtain⟨ds,r,h1,h2,h3⟩:=h;exact⟨ds,r,h1,h2,hk _ _ h3⟩
def bVc{o:Oper}{σ:St}{con:List Nat}{k k':St->List Nat->Prop}(hk:∀σ con,k σ con->k' σ con)(h:O1 P o σ con k):O1 P o σ con k':=by
 unfold O1 at h;unfold O1;split at h
 ·rename_i t x hop;split at h
  ·rename_i v hv;(try simp only[hv]);exact hk _ _ h
  ·exact h.elim
 ·rename_i t m x ok hop;split at h
  ·rename_i v hv;(try simp only[hv]);exact hk _ _ h
  ·exact h.elim
 ·rename_i x hop;split at h
  ·rename_i v hv;(try simp only[hv]);exact hk _ _ h
  ·exact h.elim
 ·rename_i x s hop;refine⟨h.1,?_⟩;have h:=h.2;split at h
  ·rename_i id kd es hv
   (try simp only[hv])
   exact⟨λe=>hk _ _ (h.1 e),λj e he=>hk _ _ (h.2 j e he)⟩
  ·exact h.elim
 ·rename_i t ad x hop;split at h
  ·rename_i id ho hv;(try simp only[hv]);exact hk _ _ h
  ·exact h.elim
 ·rename_i t m x v hop;split at h
  ·rename_i id ho hv;(try simp only[hv]);exact hk _ _ h
  ·exact h.elim
 ·rename_i t m x v hop;split at h
  ·rename_i id ho hv;(try simp only[hv]);exact hk _ _ h
  ·exact h.elim
 ·rename_i f args ts hop;exact bVb hk h
 ·rename_i t args ts hop;split at h
  ·rename_i f cs hc;obtain⟨ds,r,h1,h2,h3⟩:=h
   (try simp only[hc])
   exact⟨ds,r,h1,h2,hk _ _ h3⟩
  ·exact h.elim
 ·rename_i t name args ts hop;split at h
  ·rename_i ty d hc
   (try simp only[hc])
   split at h
   ·rename_i f hm;obtain⟨ds,r,h1,h2,h3⟩:=h
    (try simp only[hm])
    exact⟨ds,r,h1,h2,hk _ _ h3⟩
   ·exact h.elim
  ·exact h.elim
 ·rename_i args ts hop;split at h
  ·rename_i s x t t' h1 h2;obtain⟨e,h⟩:=h
   (try simp only[h1,h2])
   refine⟨e,?_⟩;split at h
   ·rename_i av nb cn hv;(try simp only[hv]);exact hk _ _ h
   ·exact h.elim
  ·exact h.elim
 ·rename_i args ts hop;split at h
  ·rename_i m x t kt h1 h2
   (try simp only[h1,h2])
   split at h
   ·rename_i id ho hv;(try simp only[hv]);exact hk _ _ h
   ·exact h.elim
  ·exact h.elim
 ·rename_i args ts hop;split
  ·rename_i hlm;rw[Ae hlm]at h;split at h
   ·rename_i m h1
    (try simp only[h1])
    split at h
    ·rename_i n hv;(try simp only[hv]);exact hk _ _ h
    ·exact h.elim
   ·exact h.elim
  ·rename_i hlm;rw[Ac hlm]at h;obtain⟨hkd,h⟩:=h;refine⟨hkd,?_⟩;split at h
   ·rename_i av nb hv;(try simp only[hv]);exact hk _ _ h
   ·exact h.elim
 ·rename_i h1 h2 h3 h4 h5 h6 h7 h8;obtain⟨hkd,h⟩:=h;refine⟨hkd,?_⟩;split at h
  ·rename_i av nb hv;(try simp only[hv]);exact hk _ _ h
  ·exact h.elim
def aNs{ops:Array Oper}{k k':St->List Nat->Prop}(hk:∀σ con,k σ con->k' σ con):∀(l:List Oper) (σ:St) (con:List Nat),OW P ops l σ con k->OW P ops l σ con k'
 |[],σ,con,h=>hk _ _ h
 |o::l,σ,con,h=>by
  unfold OW at h ⊢;split at h
  ·exact bVc (λσ con=>aNs hk l σ con) h
  ·exact aNs hk l _ _ h
  ·exact h.elim
def aHm:∀(c:Code) {Q Q':Exit->St->Prop} {σ:St},(∀e σ,Q e σ->Q' e σ)->AWP P c σ Q->AWP P c σ Q':=by
 intro c;induction c with
 |skip=>intro Q Q' σ hq h;exact hq _ _ h
 |region id ops draw=>intro Q Q' σ hq h;exact aNs (λσ con h=>hq _ _ h) _ _ _ h
 |seq x y ihx ihy =>
  intro Q Q' σ hq h;refine ihx (λe σ h=>?_) h;cases e with
  |normal=>exact ihy hq h
  |_=>exact hq _ _ h
 |cond c x y ihx ihy =>
  intro Q Q' σ hq h;unfold AWP at h ⊢;split
  ·rename_i t ht;simp only[ht]at h;cases t
   ·exact ihy hq h
   ·exact ihx hq h
  ·rename_i ht;simp only[ht]at h;exact⟨ihx hq h.1,ihy hq h.2⟩
  ·rename_i h1 h2;exfalso;split at h
   ·rename_i t ht;exact h1 _ ht
   ·rename_i ht;exact h2 ht
   ·exact h
 |block id c ih =>
  intro Q Q' σ hq h;refine ih (λe σ h=>?_) h;cases e with
  |exit id' =>
   simp only at h ⊢;split
   ·rename_i he;rw[Ae he]at h;exact hq _ _ h
   ·rename_i he;rw[Ac he]at h;exact hq _ _ h
  |_=>exact hq _ _ h
 |loop c ih =>
  intro Q Q' σ hq h;obtain⟨τ,S,m,x0,h0,h1⟩:=h;refine⟨τ,S,m,x0,h0,λx=>ih (λe σ h=>?_) (h1 x)⟩;cases e with
  |normal=>exact h
  |_=>exact let ⟨σ2,hw,h⟩:=h;⟨σ2,hw,hq _ _ h⟩
 |exit id=>intro Q Q' σ hq h;exact hq _ _ h
 |ret=>intro Q Q' σ hq h;exact hq _ _ h
 |label l=>intro Q Q' σ hq h;exact hq _ _ h
 |scope c ih =>
  intro Q Q' σ hq h;refine ih (λe σ h=>?_) h;cases e with
  |goto l=>exact h
  |_=>exact hq _ _ h
 |_=>intro Q Q' σ hq h;exact h.elim
def aHb{c:Code}{σ:St}{Q:Exit->St->Prop}{τ:Type}(S:τ->St)(m:τ->Nat)(x0:τ)(h0:WkR σ (S x0))
  (h:∀x,AWP P c (S x) λe σ'=>match e with|.normal=>∃y,m y<m x/\WkR σ' (S y)|e=>Q e σ'):AWP P (.loop c) σ Q :=
 ⟨τ,S,m,x0,h0,λx=>aHm c (λe σ h=>by
  cases e with
  |normal=>exact h
  |_=>exact⟨σ,.inl rfl,h⟩) (h x)⟩
def LU(P:Program)(c:Code):Nat->St->(Exit->St->Prop)->Prop
 |0,_,_=>False
 |n+1,σ,Q=>AWP P c σ λe σ'=>match e with|.normal=>LU P c n σ' Q|e=>Q e σ'
def bSf{c:Code}{Q:Exit->St->Prop}{n:Nat}{σ:St}(h:LU P c n σ Q):AWP P (.loop c) σ Q:=by
 refine⟨{ p:Nat×St // LU P c p.1 p.2 Q },λp=>p.1.2,λp=>p.1.1,⟨(n,σ),h⟩,.inl rfl,λx=>?_⟩;obtain⟨⟨n,σ⟩,hx⟩:=x;cases n with
 |zero=>exact hx.elim
 |succ n =>
  refine aHm c (λe σ h=>?_) hx;cases e with
  |normal=>exact⟨⟨(n,σ),h⟩,AK n,.inl rfl⟩
  |_=>exact⟨σ,.inl rfl,h⟩
def aXh{rd:Bool}{WW:Code->(Exit->Act->World->Prop)->Act->World->Prop}(hW:WpR P rd WW)(hm:P.follows .mixedOrders=true){z:Nat->Bool}(hz:∀d v,G.Z d=some v->z d=true) :
  ∀(c:Code) (Q:Exit->St->Prop) (σ:St) (a:Act) (w:World),dK N c=true->eC P c=true->oE z c=true->(rd=true->pQ c=true)->AWP P c σ Q->SR G N ds σ a w ->
  WW c (λe a' w'=>∃σ',Q e σ'/\SR G N ds σ' a' w') a w:=by
 intro c
 induction c with
 |skip=>intro Q σ a w _ _ _ _ h hs;exact hW.skip ⟨σ,h,hs⟩
 |region id ops draw =>
  intro Q σ a w hd hl hnz hnd h hs
  exact yK hW (Q:=Q .normal) hm (yO hz hd hnz) hnd (λhdr=>by simpa[eC,hdr]using hl) hs h λσ' a' w' hq hs'=>⟨σ',hq,hs'⟩
 |seq x y ihx ihy =>
  intro Q σ a w hd hl hnz hnd h hs
  simp only[dK,eC,oE,pQ,AO]at hd hl hnz hnd
  refine hW.seq (hW.mono (ihx _ σ a w hd.1 hl.1 hnz.1 (λe=>(hnd e).1) h hs) ?_)
  rintro e a' w' ⟨σ',hq,hs'⟩
  cases e with
  |normal=>exact ihy Q σ' a' w' hd.2 hl.2 hnz.2 (λe=>(hnd e).2) hq hs'
  |_=>exact⟨σ',hq,hs'⟩
 |cond c x y ihx ihy =>
  intro Q σ a w hd hl hnz hnd h hs
  simp only[dK,eC,oE,pQ,AO]at hd hl hnz hnd
  unfold AWP at h
  split at h
  rotate_left
  ·rename_i ht
   have hc:∃t,a.eval c=.bool t:=by
    obtain⟨_,_,F,ι,_,_,hV,_⟩:=hs;have:=fD (J:=σ.J) (a:=a) (x:=c) (F:=F) (w:=w) (ι:=ι) λt _=>hV t
    rw[ht]at this;generalize a.eval c=v at this;cases this with|ub t=>exact⟨t,rfl⟩
   obtain⟨t,hc⟩:=hc
   refine hW.cond hc ?_
   cases t
   ·exact ihy Q σ a w hd.2 hl.2 hnz.2 (λe=>(hnd e).2) h.2 hs
   ·exact ihx Q σ a w hd.1 hl.1 hnz.1 (λe=>(hnd e).1) h.1 hs
  ·exact h.elim
  ·rename_i t ht
   have hc:a.eval c=.bool t:=by
    obtain⟨_,_,F,ι,_,_,hV,_⟩:=hs;have:=fD (J:=σ.J) (a:=a) (x:=c) (F:=F) (w:=w) (ι:=ι) λt _=>hV t
    rw[ht]at this;generalize a.eval c=v at this;cases this with|d _ _ h=>cases h;rfl
   refine hW.cond hc ?_
   cases t
   ·exact ihy Q σ a w hd.2 hl.2 hnz.2 (λe=>(hnd e).2) h hs
   ·exact ihx Q σ a w hd.1 hl.1 hnz.1 (λe=>(hnd e).1) h hs
 |block id c ih =>
  intro Q σ a w hd hl hnz hnd h hs
  refine hW.block (hW.mono (ih _ σ a w hd hl hnz hnd h hs) ?_)
  rintro e a' w' ⟨σ',hq,hs'⟩
  cases e with
  |exit id' =>
   simp only[Exit.inBlock]at hq ⊢
   split at hq
   ·rename_i he;rw[Ae he];exact⟨σ',hq,hs'⟩
   ·rename_i he;rw[Ac he];exact⟨σ',hq,hs'⟩
  |_=>exact⟨σ',hq,hs'⟩
 |loop c ih =>
  intro Q σ a w hd hl hnz hnd h hs
  obtain⟨τ,S,m,x0,hk,hround⟩:=h
  refine hW.loop (λn a w=>∃x,m x=n/\SR G N ds (S x) a w) ⟨m x0,x0,rfl,pS hk hs⟩ ?_
  rintro n a w ⟨x,rfl,hsx⟩
  refine hW.mono (ih _ (S x) a w hd hl hnz hnd (hround x) hsx) ?_
  rintro e a' w' ⟨σ',hq,hs'⟩
  cases e with
  |normal =>
   obtain⟨y,hlt,hk⟩:=hq
   exact⟨m y,hlt,y,rfl,pS hk hs'⟩
  |_=>exact let ⟨σ2,hw,hq⟩:=hq;⟨σ2,hq,pS hw hs'⟩
 |exit id=>intro Q σ a w _ _ _ _ h hs;exact hW.exit ⟨σ,h,hs⟩
 |ret=>intro Q σ a w _ _ _ _ h hs;exact hW.ret ⟨σ,h,hs⟩
 |label l=>intro Q σ a w _ _ _ _ h hs;exact hW.label ⟨σ,h,hs⟩
 |scope c ih =>
  intro Q σ a w hd hl hnz hnd h hs
  have hrd:rd=false:=by
   cases rd with
   |false=>rfl
   |true=>exact absurd (hnd rfl) (by simp[pQ])
  refine hW.scope hrd (hW.mono (ih _ σ a w hd hl hnz (λe=>by rw[hrd]at e;cases e) h hs) ?_)
  rintro e a' w' ⟨σ',hq,hs'⟩
  cases e with
  |goto l=>exact hq.elim
  |_=>exact⟨σ',hq,hs'⟩
 |_=>intro Q σ a w _ _ _ _ h;exact h.elim
def iC(hm:P.follows .mixedOrders=true)(hZ:∀d,G.Z d=none)(c:Code)(Q:Exit->St->Prop)(σ:St)(a:Act)(w:World)(hd:dK N c=true)(hl:eC P c=true)(h:AWP P c σ Q)(hs:SR G N ds σ a w) :
  c.wp P (λe a' w'=>∃σ',Q e σ'/\SR G N ds σ' a' w') a w :=
 aXh (WpR.plain P) hm (z:=λ_=>false) (λd v e=>by rw[hZ]at e;cases e) c Q σ a w hd hl (zR c) (λe=>by cases e) h hs
def nO(P:Program)(σ:St):ResultVar->Option AV
 |.tmp t=>some (σ.J t)
 |.cell ad t=>zB P σ.H t (σ.J ad)
def mU(P:Program)(rs:List ResultVar)(σ:St):Option D :=
 (rs.mapM (nO P σ)).bind λavs=>(fW σ.H avs).map λl=>match l with|[x]=>x|l=>.tp l
def rU{fn:Func}{σ:St}{a:Act}{w:World}{r:D}{F:Nat->Prop}{ι:Nat->Option Nat}(hR:HR G F w ι bU σ.H)(hV:∀t,V F w ι (σ.J t) (a.tmps.getD t undef))(h:mU P fn.results.toList σ=some r) :
  ∃v,(results fn a.tmps).run P w=.ok v w/\VD (λb=>F b\/∃id,ι id=some b) w r v:=by
 obtain⟨avs,havs,h⟩:=Ad.1 h
 obtain⟨l,hl,rfl⟩:=Aj.1 h
 have hrun:∀(rs:List ResultVar) (avs:List AV),rs.mapM (nO P σ)=some avs->∃vs:List Value,(rs.mapM (m:=Sem) λ|.tmp t=>pure (a.tmps.getD t undef)|.cell ad t=>do loadVar t (<-asAddr (a.tmps.getD ad undef))).run P w=.ok vs w /\
   vs.length=avs.length/\∀(k:Nat) c v,avs[k]? = some c->vs[k]? = some v->V F w ι c v:=by
  intro rs
  induction rs with
  |nil=>intro avs h;simp at h;subst h;exact⟨[],by simp,rfl,λk c v h=>by simp at h⟩
  |cons x rs ih =>
   intro avs h
   simp only[B6,CW,Ad,DH,AU]at h
   obtain⟨av,hav,avs',havs',rfl⟩:=h
   obtain⟨vs,h1,h2,h3⟩:=ih avs' havs'
   have hx:∃v,((match x with|.tmp t=>pure (a.tmps.getD t undef)|.cell ad t=>do loadVar t (<-asAddr (a.tmps.getD ad undef))):Sem Value).run P w=.ok v w/\V F w ι av v:=by
    cases x with
    |tmp t=>simp only[nO,AU]at hav;subst hav;exact⟨_,by simp,hV t⟩
    |cell ad t =>
     simp only[nO]at hav;obtain⟨u,hu,hv⟩:=aDi (P:=P) hR (λ_ _ h=>h) hav (hV ad);refine⟨u,?_,hv⟩;show(do loadVar t (<-asAddr (a.tmps.getD ad undef)):Sem Value).run P w=_;simp only[EM]at hu;generalize a.tmps.getD ad undef=p at hu ⊢;cases p with
     |pointer q=>cases q with
      |some q=>simpa[CF,asAddr]using hu
      |none=>simp[CF,stuck,Sem.run]at hu
     |_=>simp[CF,stuck,Sem.run]at hu
   obtain⟨v,hv,hvv⟩:=hx
   refine⟨v::vs,?_,by simp[h2],λk c u hc hu=>?_⟩
   ·simp only[B6,A3,hv,AZ,h1,Bx]
   ·rcases k with _|k
    ·simp at hc hu;subst hc;subst hu;exact hvv
    ·exact h3 k c u (by simpa using hc) (by simpa using hu)
 obtain⟨vs,h1,h2,h3⟩:=hrun _ _ havs
 obtain⟨q1,q2⟩:=jS _ _ _ hl
 have hVD:∀(k:Nat) d v,l[k]? = some d->vs[k]? = some v->VD (λb=>F b\/∃id,ι id=some b) w d v:=by
  intro k d v hd hv;obtain⟨c,hc,hf⟩:=q2 k d hd;refine(zI hR (λ_ _ h=>h) 8 c v d hf (h3 k c v hc hv)).1.mono ?_;rintro b (hb|⟨id,hid,hb⟩)
  ·exact .inl hb
  ·exact .inr ⟨id,hb⟩
 have hres:(results fn a.tmps).run P w=.ok (if h:vs.toArray.size=1 then vs.toArray[0]else .tuple vs.toArray) w:=by
  simp only[results,DZ,A3,Sem.run_map]
  erw [h1]
  simp
 refine⟨_,hres,?_⟩
 have hlen:l.length=vs.length:=by omega
 match l,hlen,hVD with
 |[x],hlen,hVD =>
  match vs,hlen,hVD with
  |[v],_,hVD=>exact hVD 0 x v rfl rfl
 |[],hlen,hVD =>
  have:vs=[]:=List.eq_nil_of_length_eq_zero (by simpa using hlen.symm)
  subst this
  exact .tp _ _ rfl λk c v h=>by simp at h
 |x::y::l,hlen,hVD =>
  have hne:¬vs.toArray.size=1:=by simp at hlen ⊢;omega
  rw[dif_neg hne]
  exact .tp _ _ (by simpa using hlen) λk c v hc hv=>hVD k c v hc (by simpa using hv)
def nN{fn:Func}{σ:St}{a:Act}{w:World}{r:D}(hs:SR G N ds σ a w)(h:mU P fn.results.toList σ=some r) :
  ∃v,(results fn a.tmps).run P w=.ok v w/\VD (λb=>G.A b\/G.M b\/(G.W.heap.size<=b/\b<w.heap.size)) w r v:=by
 obtain⟨_,_,F,ι,hR,hdom,hV,_⟩:=hs
 obtain⟨v,h1,h2⟩:=rU hR hV h
 refine⟨v,h1,h2.mono ?_⟩
 rintro b (hb|⟨id,hb⟩)
 ·rcases hR.F_ok b hb with h|h|h
  ·exact .inl h
  ·exact .inr (.inl h)
  ·exact .inr (.inr ⟨h,hR.F_lt b hb⟩)
 ·rcases(hR.place id b hb).1 with h|h
  ·exact .inr (.inl h)
  ·exact .inr (.inr ⟨h,hR.ι_lt hb⟩)
def Γ0(args:List D)(N:Nat):Nat->AV:=λt=>match args[t]? with|some d=>aO d|none=>if t<N then .un else .un
def St0(args:List D)(N:Nat):St:=⟨Γ0 args N,λ_=>none,1⟩
def SR0{A:Nat->Prop}{W:World}{vs:Array Value}{args:List D}(hA:∀b,A b->b<W.heap.size)(hl:args.length=vs.size)(hv:∀(k:Nat) d v,args[k]? = some d->vs[k]? = some v->VD A W d v)(hN:args.length<=N) :
  SR ⟨W,A,bU,λ_=>True,λ_=>none⟩ N [] (St0 args N) { tmps:=vs++BG (N-vs.size) undef,defers:=[] } W:=by
 refine⟨λ_ _=>rfl,λh=>by simp[St0]at h,A,λ_=>none,⟨.refl _ _ _,hA,λb h=>.inl h,λ_ _ h=>by simp at h,λ_ _ _ h=>by simp at h,λ_ _ _ h=>by simp at h,λ_ _ _ _ _ h=>by simp at h⟩,λid=>by simp[St0],λt=>?_,⟨by simp;omega,λ_ _ h=>by cases h⟩,rfl,λ_ h=>by simp at h⟩
 simp only[St0,Γ0]
 by_cases ht:t<args.length
 ·rw[Ab ht]
  have ht':t<vs.size:=by omega
  have:(vs++BG (N-vs.size) undef).getD t undef=vs[t]:=by simp only[Bi];rw[BH ht',AD ht'];rfl
  rw[this]
  exact uT (hv t _ _ (Ab ht) (AD ht'))
 ·rw[AW (by omega)]
  have:(vs++BG (N-vs.size) undef).getD t undef=undef:=by
   simp only[Bi];rw[EC (by omega)];by_cases h2:t-vs.size<N-vs.size
   ·rw[Cr,Ae h2];rfl
   ·rw[Cr,Ac h2];rfl
  rw[this]
  simp only[ite_self]
  exact .un
def bPk {f N:Nat} {fn:Func} {c:Code} {args:List D} {r:D} (hm:P.follows .mixedOrders=true) (hf:P.funcs[f]? = some fn) (hb:fn.body=some c) (hname:(fn.name == "runtime.NumGoroutine")=false) (hN:fn.ntmps=N)
  (hd:dK N c=true) (hl':eC P c=true) (ha:args.length<=N) (h:AWP P c (St0 args N) λe σ=>(e=.normal\/e=.ret)/\mU P fn.results.toList σ=some r):Spec P f args r:=by
 intro A W vs hA hl hv
 have hn:¬ fn.name = "runtime.NumGoroutine" := by simpa using hname
 refine⟨λw=>by simp[callFunc,hf,hn,hb],?_⟩
 refine calls_of_wp hf hb ?_
 subst hN
 refine wp_mono (iC hm (λ_=>rfl) c _ _ _ _ hd hl' h (SR0 hA hl hv ha)) ?_
 rintro e a w ⟨σ,⟨he,hr⟩,hs⟩
 obtain⟨v,hrun,hvd⟩:=nN hs hr
 obtain⟨_,_,F,ι,hR,_,_,_,hdf,_⟩:=hs
 have hend:a.defers=[]/\∃v,(results fn a.tmps).run P w=.ok v w/\∃v',DL v=.returned v'/\Below W.heap.size W w/\VD (λb=>A b\/(W.heap.size<=b/\b<w.heap.size)) w r v':=by
  refine⟨hdf,v,hrun,v,rfl,⟨hR.kept.os,hR.kept.tape,hR.kept.output,hR.kept.size,λk hk=>hR.kept.block k hk (λh=>h)⟩,hvd.mono ?_⟩;rintro b (h|h|h)
  ·exact .inl h
  ·exact h.elim
  ·exact .inr h
 rcases he with rfl|rfl<;>exact hend
def gQ(P:Program)(g:FuncId):Prop :=
 (∀w,(callFunc g #[]).run P w=.ok (.enter g #[]) w)/\∀w,CallsD P g #[] .returning w λe u' w'=>e=.returned (.tuple #[])/\u'=.returning/\w'=w
def qJ:Code->Option FuncId
 |.region _ ops false=>match ops.toList with
  |[{ dst:=none,op:=.defer { callee:=.value (.func g),args:=args,argTypes:=_ },guard:=none,.. }]=>if args.isEmpty then some g else none
  |_=>none
 |_=>none
def aAc{σ:St}{a:Act}{w:World}(d:Deferred)(h:SR G N ds σ a w):SR G N (d::ds) σ { a with defers:=d::a.defers } w:=by obtain⟨h1,h2,F,ι,hR,hdom,hV,hN,hds,hp⟩:=h;exact⟨h1,h2,F,ι,hR,hdom,hV,hN,by rw[hds],hp⟩
def rS{c:Code}{g:FuncId}{a:Act}{w:World}{Q:Exit->Act->World->Prop}(h:qJ c=some g)(hQ:Q .normal { a with defers:={ target:=.fn (.func g) #[],args:=#[] }::a.defers } w):c.wp P Q a w:=by
 unfold qJ at h;split at h
 case h_2=>cases h
 rename_i id ops;split at h
 case h_2=>cases h
 rename_i g' args ts ty pos after hops;split at h
 case isFalse=>cases h
 rename_i hargs;injection h with h;subst h
 refine wp_region_list ?_;rw[hops];unfold wpList;have hargs':args=#[]:=by simpa using hargs
 subst hargs';have hw:∀y,Ey { dst:=none,op:=.defer { callee:=.value (.func g'),args:=#[],argTypes:=ts },type:=ty,pos:=pos,after:=after,guard:=none } y=true:=λy=>by simp[Ey]
 rw[Ae (hw _)];refine .inl ?_;unfold Oper.wp;have hfe:a.eval (.func g')=.func (.func g') #[] #[]:=rfl;simp[execOp,resolve,hfe,Deferred.ofValue,Oper.upon_defer,wpList,Act.put];exact hQ
def sC{fn:Func}{N:Nat}{g:FuncId}{A:Nat->Prop}{W:World}{r:D}{σ:St}{a:Act}{w:World}(hrec:gQ P g)(hs:SR ⟨W,A,bU,λ_=>True,λ_=>none⟩ N [{ target:=.fn (.func g) #[],args:=#[] }] σ a w)
  (hr:mU P fn.results.toList σ=some r):Leaves P fn a.tmps (λe w'=>∃v,e=.returned v/\Below W.heap.size W w'/\VD (λb=>A b\/(W.heap.size<=b/\b<w'.heap.size)) w' r v) a.defers .returning w:=by
 obtain⟨v,hrun,hvd⟩:=nN hs hr
 obtain⟨_,_,F,ι,hR,_,_,_,hdf,_⟩:=hs
 rw[hdf]
 refine leaves_cons (by simp) (args:=#[]) (f:=g) ?_ ((hrec.2 w).mono ?_)
 ·have:=hrec.1 w
  simpa[invoke]using this
 ·rintro e u' w' ⟨rfl,rfl,rfl⟩
  refine⟨v,by simpa[settle]using hrun,v,rfl,⟨hR.kept.os,hR.kept.tape,hR.kept.output,hR.kept.size,λk hk=>hR.kept.block k hk (λh=>h)⟩,hvd.mono ?_⟩
  rintro b (h|h|h)
  ·exact .inl h
  ·exact h.elim
  ·exact .inr h
def bBa {f N:Nat} {fn:Func} {g:FuncId} {r0 rd rest:Code} {args:List D} {r:D} (hm:P.follows .mixedOrders=true) (hf:P.funcs[f]? = some fn) (hb:fn.body=some (.seq r0 (.seq rd rest))) (hname:(fn.name == "runtime.NumGoroutine")=false)
  (hN:fn.ntmps=N) (hd0:dK N r0=true) (hl0:eC P r0=true) (hd1:dK N rest=true) (hl1:eC P rest=true) (hg:qJ rd=some g) (hrec:gQ P g) (ha:args.length<=N)
  (h:AWP P r0 (St0 args N) λe σ0=>e=.normal/\AWP P rest σ0 λe σ=>(e=.normal\/e=.ret)/\mU P fn.results.toList σ=some r):Spec P f args r:=by
 intro A W vs hA hl hv
 have hn:¬ fn.name = "runtime.NumGoroutine" := by simpa using hname
 refine⟨λw=>by simp[callFunc,hf,hn,hb],?_⟩
 refine calls_of_wp_defers hf hb ?_
 subst hN
 refine wp_seq (wp_mono (iC hm (λ_=>rfl) r0 _ _ _ _ hd0 hl0 h (SR0 hA hl hv ha)) ?_)
 rintro e a w ⟨σ0,⟨rfl,h1⟩,hs0⟩
 refine wp_seq (rS hg ?_)
 refine wp_mono (iC hm (λ_=>rfl) rest _ _ _ _ hd1 hl1 h1 (aAc { target:=.fn (.func g) #[],args:=#[] } hs0)) ?_
 rintro e a w ⟨σ,⟨he,hr⟩,hs⟩
 rcases he with rfl|rfl<;>exact sC hrec hs hr
def St1(h:AV)(o:HO)(args:List D)(N:Nat):St:=⟨λt=>match t with|0=>h|t+1=>Γ0 args N t,λid=>if id=0 then some o else none,1⟩
def SR1{A:Nat->Prop}{W:World}{vs:Array Value}{args:List D}{h:AV}{o:HO}{b:Nat}(hA:∀b,A b->b<W.heap.size)(hAb:¬A b)(hb:b<W.heap.size)(ho:∃ob,W.heap[b]? = some ob/\CR A W (ι1 b) o ob)
  (hl:args.length+1=vs.size) (h0:∃v,vs[0]? = some v/\V A W (ι1 b) h v) (hv:∀(k:Nat) d v,args[k]? = some d->vs[k+1]? = some v->VD A W d v) (hN:args.length+1<=N) :
  SR ⟨W,A,(·=b),(·=b),λ_=>none⟩ N [] (St1 h o args N) { tmps:=vs++BG (N-vs.size) undef,defers:=[] } W:=by
 have hι:∀id b',ι1 b id=some b'->id=0/\b'=b:=λid b' e=>by
  unfold ι1 at e;split at e
  ·injection e with e;exact⟨by assumption,e.symm⟩
  ·cases e
 have hH:∀id o',(if id=0 then some o else none)=some o'->id=0/\o'=o:=λid o' e=>by
  split at e
  ·injection e with e;exact⟨by assumption,e.symm⟩
  ·cases e
 refine⟨λid h=>by simp only[St1]at h ⊢;rw[Ac (by omega)],λh=>by simp[St1]at h,A,ι1 b,⟨.refl _ _ _,hA,λb h=>.inl h,λid b' e=>?_,λid b' o' e e'=>?_,λid id' b' e e' _ _=>?_,λid id' b' o1 o2 e e' _ h1 h2=>?_⟩,λid=>?_,λt=>?_,⟨by simp;omega,λ_ _ h=>by cases h⟩,rfl,λb' e=>(hι 0 b' e).2⟩
 ·obtain⟨_,rfl⟩:=hι id b' e;exact⟨.inl rfl,hb,λ_=>hAb⟩
 ·obtain⟨_,rfl⟩:=hι id b' e;obtain⟨_,rfl⟩:=hH id o' e';exact ho
 ·rw[(hι _ _ e).1,(hι _ _ e').1]
 ·rw[(hH _ _ h1).2,(hH _ _ h2).2];exact Ap _
 ·simp only[St1,ι1]
  by_cases hid:id=0<;>simp[hid]
 ·have hget:∀k,k<vs.size->(vs++BG (N-vs.size) undef).getD k undef=vs.getD k undef:=λk hk=>by simp only[Bi];rw[BH hk]
  have hget2:∀k,vs.size<=k->(vs++BG (N-vs.size) undef).getD k undef=undef:=λk hk=>by
   simp only[Bi];rw[EC hk];by_cases h2:k-vs.size<N-vs.size
   ·rw[Cr,Ae h2];rfl
   ·rw[Cr,Ac h2];rfl
  cases t with
  |zero =>
   obtain⟨v,hv0,hV0⟩:=h0
   show V A W (ι1 b) h _
   rw[show(({ tmps:=vs++BG (N-vs.size) undef,defers:=[] }:Act).tmps.getD 0 undef)=v from by
    rw[hget 0 (by omega)];simp[Bi,hv0]]
   exact hV0
  |succ t =>
   show V A W (ι1 b) (Γ0 args N t) _
   simp only[Γ0]
   by_cases ht:t<args.length
   ·have ht':t+1<vs.size:=by omega
    rw[Ab ht,hget _ ht',Bi,AD ht']
    exact uT (hv t _ _ (Ab ht) (AD ht'))
   ·rw[AW (by omega),hget2 _ (by omega)]
    simp only[ite_self]
    exact .un
def aQk {f N:Nat} {fn:Func} {c:Code} {h:AV} {o o':HO} {args:List D} {r:D} (hf:P.funcs[f]? = some fn) (hb:fn.body=some c) (hname:(fn.name == "runtime.NumGoroutine")=false) (hN:fn.ntmps=N)
  (ha:args.length+1<=N) (hmap:∃k es,o=.map k es) (hmap':∃k es,o'=.map k es) (hno':oC o'=true) (hnm:NM r)
  (hA:∀(G:Ctx) (a:Act) (w:World),(∀d,G.Z d=none)->SR G N [] (St1 h o args N) a w->c.wp P (λe a' w'=>∃σ,((e=.normal\/e=.ret)/\mU P fn.results.toList σ=some r/\σ.H 0=some o')/\SR G N [] σ a' w') a w):tE P f h o args o' r:=by
 intro A W vs b hAl hAb hbl hob hl hv0 hv
 have hn:¬ fn.name = "runtime.NumGoroutine" := by simpa using hname
 refine⟨λw=>by simp[callFunc,hf,hn,hb],?_⟩
 refine calls_of_wp hf hb ?_
 subst hN
 have hsr:=SR1 (N:=fn.ntmps) hAl hAb hbl hob hl hv0 hv ha
 refine wp_mono (hA _ _ _ (λ_=>rfl) hsr) ?_
 rintro e a w ⟨σ,⟨he,hr,hH0⟩,hs⟩
 obtain⟨_,_,F,ι,hR,hdom,hVs,_,hdf,hp⟩:=hs
 obtain⟨v,hrun,hvd⟩:=rU hR hVs hr
 obtain⟨b',hb'⟩:=(hdom 0).2 (by rw[hH0];rfl)
 have hbb:=hp b' hb'
 simp only at hbb
 subst hbb
 obtain⟨ob',hob',hcr⟩:=hR.obj 0 b' o' hb' hH0
 have hnF:¬F b':=(hR.place 0 b' hb').2.2 (λx=>x)
 have hFA:∀k,F k->A k\/(W.heap.size<=k/\k<w.heap.size):=λk hk=>by
  rcases hR.F_ok k hk with h|h|h
  ·exact .inl h
  ·simp only at h;subst h;exact(hnF hk).elim
  ·exact .inr ⟨h,hR.F_lt k hk⟩
 have hend:a.defers=[]/\∃v,(results fn a.tmps).run P w=.ok v w/\∃v' ob',DL v=.returned v'/\Kept (·=b') W.heap.size W w/\w.heap[b']? = some ob' /\
   (∀cur e,W.heap[b']? = some (.cells cur e (0,0))->∃cur',ob'=.cells cur' e (0,0)/\cur'.size=cur.size) /\
   CR (λk=>A k\/(W.heap.size<=k/\k<w.heap.size)) w (ι1 b') o' ob'/\VD (λk=>A k\/(W.heap.size<=k/\k<w.heap.size)) w r v':=by
  refine⟨hdf,v,hrun,v,ob',rfl,hR.kept,hob',λcur e he=>?_,(aNt hno' hcr).step ⟨hFA,λ_ _=>rfl,λ_ _ h=>h,λ_ _ cur _ _ h=>⟨cur,h,rfl⟩⟩,(cCs hvd hnm).mono ?_⟩
  rotate_left
  ·rintro c ⟨hc|⟨id,h2⟩,hnc⟩
   ·exact hFA c hc
   ·rcases(hR.place id c h2).1 with h|h
    ·simp only at h;subst h
     have:=hR.inj id 0 c h2 hb' (λx=>x) (λx=>x)
     subst this
     obtain⟨k,es,rfl⟩:=hmap'
     cases hcr with|map _ _ ents clock _ _ _=>exact(hnc ents clock hob').elim
    ·exact .inr ⟨h,hR.ι_lt h2⟩
  obtain⟨k,es,rfl⟩:=hmap
  obtain⟨ob,h1,h2⟩:=hob
  rw[he]at h1;injection h1 with h1;subst h1
  cases h2
 rcases he with rfl|rfl<;>exact hend
end
end Go.Am
end
section
open List renaming map_map->C,mapM_map->K
namespace Go.Am
open RowKit (Below)
structure Kn where
 call:FuncId->List D->Option D
 ocall:FuncId->AV->HO->List D->Option (HO×D)
 keys:FuncId->Option FuncId
 sorted:FuncId->FuncId->Bool
 recs:FuncId->Bool
structure aTr(P:Program)(E:Kn):Prop where
 call:∀f ds r,E.call f ds=some r->Spec P f ds r
 ocall:∀f h o ds o' r,E.ocall f h o ds=some (o',r)->tE P f h o ds o' r
 keys:∀f g,E.keys f=some g->uV P f g
 sorted:∀f g,E.sorted f g=true->mZ P f g
 recs:∀g,E.recs g=true->gQ P g
def OEC(P:Program)(E:Kn)(f:FuncId)(args:Array Operand)(dst:Option Tmp)(σ:St)(con:List Nat):Option (St×List Nat) :=
 if bB P f then match args.toList with
  |x::rest=>match hd1 (oev σ.J x)with
   |some (id,h)=>match σ.H id with
    |some ho=>match rest,h,E.keys f with
     |[],.mp 0,some g=>some (⟨bS σ.J dst (.kf g id),σ.H,σ.n⟩,con)
     |_,_,_=>if oC ho=true/\fK σ.H (rest.map (oev σ.J))=[]then match fW σ.H (rest.map (oev σ.J))with
      |some ds=>match E.ocall f h ho ds with
       |some (ho',r)=>if ho'.len=ho.len/\oC ho'=true then some (⟨bS σ.J dst (inj r),upd σ.H id (some ho'),σ.n⟩,con)else none
       |none=>none
      |none=>none
      else none
    |none=>none
   |none=>none
  |[]=>none
 else match args.toList.map (oev σ.J)with
  |[.kf g id]=>match σ.H id with
   |some (.map .i64 es)=>if es.length<=1099511627776/\(es.map (·.1)).all inr=true/\E.sorted f g=true then some (⟨bS σ.J dst (.d (.sl ((gZ (es.map (·.1))).map λn=>[.i .i64 n]))),σ.H,σ.n⟩,con)else none
   |_=>none
  |avs=>match fW σ.H avs with
   |some ds=>match E.call f ds with
    |some r=>some (⟨bS σ.J dst (inj r),kill (bR σ.H avs r) σ.H,σ.n⟩,bR σ.H avs r++con)
    |none=>none
   |none=>none
def OE1(P:Program)(E:Kn)(o:Oper)(σ:St)(con:List Nat):Option (St×List Nat) :=
 match o.op with
 |.load t x=>match zB P σ.H t (oev σ.J x)with
  |some v=>some (⟨bS σ.J o.dst v,σ.H,σ.n⟩,con)
  |none=>none
 |.lookup t m x ok=>match pG P σ.H t (oev σ.J m) (oev σ.J x) ok with
  |some v=>some (⟨bS σ.J o.dst v,σ.H,σ.n⟩,con)
  |none=>none
 |.store t ad x=>match qK P σ.H t (oev σ.J ad) (oev σ.J x)with
  |some (id,ho)=>some (⟨bS σ.J o.dst .un,upd σ.H id (some ho),σ.n⟩,con)
  |none=>none
 |.mapUpdate t m x v=>match tG P σ.H t (oev σ.J m) (oev σ.J x) (some (oev σ.J v))with
  |some (id,ho)=>some (⟨bS σ.J o.dst .any,upd σ.H id (some ho),σ.n⟩,con)
  |none=>none
 |.insert t m x v=>match tG P σ.H t (oev σ.J m) (oev σ.J x) (some (oev σ.J v))with
  |some (id,ho)=>some (⟨bS σ.J o.dst .any,upd σ.H id (some ho),σ.n⟩,con)
  |none=>none
 |.call { callee:=.value (.func f),args:=args,argTypes:=_ }=>OEC P E f args o.dst σ con
 |.call { callee:=.value (.tmp t),args:=args,argTypes:=_ }=>match kY (σ.J t)with
  |some (f,cs)=>match fW σ.H (args.toList.map (oev σ.J)++cs)with
   |some ds=>match E.call f ds with
    |some r=>some (⟨bS σ.J o.dst (inj r),kill (bR σ.H (args.toList.map (oev σ.J)++cs) r) σ.H,σ.n⟩,bR σ.H (args.toList.map (oev σ.J)++cs) r++con)
    |none=>none
   |none=>none
  |none=>none
 |.call { callee:=.invoke (.tmp t) name,args:=args,argTypes:=_ }=>match σ.J t with
  |.d (.iff ty d)=>match yX P ty name with
   |some f=>match fW σ.H (.d d::args.toList.map (oev σ.J))with
    |some ds=>match E.call f ds with
     |some r=>some (⟨bS σ.J o.dst (inj r),kill (bR σ.H (.d d::args.toList.map (oev σ.J)) r) σ.H,σ.n⟩,bR σ.H (.d d::args.toList.map (oev σ.J)) r++con)
     |none=>none
    |none=>none
   |none=>none
  |_=>none
 |.call { callee:=.builtin .append,args:=args,argTypes:=ts }=>match args.toList,ts.toList with
  |[s,x],[t,t']=>if t=t' then match aCo P σ.H t (oev σ.J s) (oev σ.J x) σ.n with
   |some (av,nb,cn)=>some (⟨bS σ.J o.dst av,jE (kill cn σ.H) σ.n nb,cnt nb σ.n⟩,cn++con)
   |none=>none
   else none
  |_,_=>none
 |.call { callee:=.builtin .delete,args:=args,argTypes:=ts }=>match args.toList,ts.toList with
  |[m,x],[t,_]=>match tG P σ.H t (oev σ.J m) (oev σ.J x) none with
   |some (id,ho)=>some (⟨bS σ.J o.dst .any,upd σ.H id (some ho),σ.n⟩,con)
   |none=>none
  |_,_=>none
 |.call { callee:=.builtin .len,args:=args,argTypes:=ts }=>if aVk P ts then none else if kind P (.call { callee:=.builtin .len,args:=args,argTypes:=ts })=0 then match nev P (.call { callee:=.builtin .len,args:=args,argTypes:=ts }) σ.J σ.n with
  |some (av,nb)=>some (⟨bS σ.J o.dst av,jE σ.H σ.n nb,cnt nb σ.n⟩,con)
  |none=>none
  else none
 |op=>if kind P op=0 then match nev P op σ.J σ.n with
  |some (av,nb)=>some (⟨bS σ.J o.dst av,jE σ.H σ.n nb,cnt nb σ.n⟩,con)
  |none=>none
  else none
def OE(P:Program)(E:Kn)(ops:Array Oper):List Oper->St->List Nat->Option (St×List Nat)
 |[],σ,con=>some (σ,con)
 |o::l,σ,con=>match eY ops o σ.J with
  |some true=>match OE1 P E o σ con with
   |some p=>OE P E ops l p.1 p.2
   |none=>none
  |some false=>OE P E ops l ⟨bS σ.J o.dst .un,σ.H,σ.n⟩ con
  |none=>none
section
variable {P:Program} {E:Kn} (hE:aTr P E)
include hE
def bEs{f:FuncId}{args:Array Operand}{dst:Option Tmp}{σ:St}{con:List Nat}{p:St×List Nat}{k:St->List Nat->Prop}(h:OEC P E f args dst σ con=some p)(hk:k p.1 p.2):OC P f args dst σ con k:=by
 unfold OEC at h;unfold OC;split at h
 ·rename_i hm;rw[Ae hm];split at h
  case h_2=>cases h
  rename_i x rest hargs;rw[hargs];simp only;split at h
  case h_2=>cases h
  rename_i id hh hx;rw[hx];simp only;split at h
  case h_2=>cases h
  rename_i ho hH;rw[hH];simp only;split at h
  ·rename_i g hg;injection h with h;subst h
   exact .inl ⟨g,rfl,rfl,hE.keys _ _ hg,hk⟩
  ·split at h
   case isFalse=>cases h
   rename_i hc;split at h
   case h_2=>cases h
   rename_i ds hds;split at h
   case h_2=>cases h
   rename_i ho' r hr;split at h
   case isFalse=>cases h
   rename_i hc2;injection h with h;subst h
   exact .inr (.inl ⟨hc.1,hc.2,ds,ho',r,hds,hE.ocall _ _ _ _ _ _ hr,hc2.1,hc2.2,hk⟩)
 ·rename_i hm;rw[Ac hm];refine .inr ?_;split at h
  ·rename_i g id hargs;rw[hargs];simp only;split at h
   ·rename_i es hH;split at h
    ·rename_i hc;injection h with h;subst h
     rw[hH];exact⟨hc.1,hc.2.1,hE.sorted _ _ hc.2.2,hk⟩
    ·cases h
   ·cases h
  ·rename_i hne;split at h
   case h_2=>cases h
   rename_i ds hds;split at h
   case h_2=>cases h
   rename_i r hr;injection h with h;subst h
   split
   ·rename_i g id hargs;exact(hne _ _ hargs).elim
   ·exact⟨ds,r,hds,hE.call _ _ _ hr,hk⟩
def bEt{o:Oper}{σ:St}{con:List Nat}{p:St×List Nat}{k:St->List Nat->Prop}(h:OE1 P E o σ con=some p)(hk:k p.1 p.2):O1 P o σ con k:=by
 unfold OE1 at h;unfold O1;split at h
 ·rename_i t x hop;rw[hop];split at h
  ·rename_i v hv;simp only[hv];injection h with h;subst h;exact hk
  ·cases h
 ·rename_i t m x ok hop;rw[hop];split at h
  ·rename_i v hv;simp only[hv];injection h with h;subst h;exact hk
  ·cases h
 ·rename_i t ad x hop;rw[hop];split at h
  ·rename_i id ho hv;simp only[hv];injection h with h;subst h;exact hk
  ·cases h
 ·rename_i t m x v hop;rw[hop];split at h
  ·rename_i id ho hv;simp only[hv];injection h with h;subst h;exact hk
  ·cases h
 ·rename_i t m x v hop;rw[hop];split at h
  ·rename_i id ho hv;simp only[hv];injection h with h;subst h;exact hk
  ·cases h
 ·rename_i f args ts hop;rw[hop];exact bEs hE h hk
 ·rename_i t args ts hop;rw[hop];split at h
  ·rename_i f cs hcal;simp only[hcal];split at h
   ·rename_i ds hds;split at h
    ·rename_i r hr;injection h with h;subst h
     exact⟨ds,r,hds,hE.call _ _ _ hr,hk⟩
    ·cases h
   ·cases h
  ·cases h
 ·rename_i t name args ts hop;rw[hop];split at h
  ·rename_i ty d hcal;simp only[hcal];split at h
   ·rename_i f hme;simp only[hme];split at h
    ·rename_i ds hds;split at h
     ·rename_i r hr;injection h with h;subst h
      exact⟨ds,r,hds,hE.call _ _ _ hr,hk⟩
     ·cases h
    ·cases h
   ·cases h
  ·cases h
 ·rename_i args ts hop;rw[hop];split at h
  ·rename_i s x t t' hargs hts;simp only[hargs,hts];split at h
   ·rename_i htt;refine⟨htt,?_⟩;split at h
    ·rename_i av nb cn hv;simp only[hv];injection h with h;subst h;exact hk
    ·cases h
   ·cases h
  ·cases h
 ·rename_i args ts hop;rw[hop];split at h
  ·rename_i m x t kt hargs hts;simp only[hargs,hts];split at h
   ·rename_i id ho hv;simp only[hv];injection h with h;subst h;exact hk
   ·cases h
  ·cases h
 ·rename_i args ts hop;rw[hop];split at h
  ·cases h
  ·rename_i hlm;simp only;rw[Ac hlm];split at h
   ·rename_i hkd;split at h
    ·rename_i av nb hv;injection h with h;subst h
     refine⟨hkd,?_⟩;simp only[hv];exact hk
    ·cases h
   ·cases h
 ·rename_i op h1 h2 h3 h4 h9 h5 h8 h10 h6 h7 h11;split at h
  ·rename_i hkd;split at h
   ·rename_i av nb hv;injection h with h;subst h
    split
    ·rename_i hop;exact(h1 _ _ hop).elim
    ·rename_i hop;exact(h2 _ _ _ _ hop).elim
    ·rename_i hop;rw[hop]at hkd;cases hkd
    ·rename_i hop;rw[hop]at hv;cases hv
    ·rename_i hop;exact(h3 _ _ _ hop).elim
    ·rename_i hop;exact(h4 _ _ _ _ hop).elim
    ·rename_i hop;exact(h9 _ _ _ _ hop).elim
    ·rename_i hop;exact(h5 _ _ _ hop).elim
    ·rename_i hop;exact(h8 _ _ _ hop).elim
    ·rename_i hop;exact(h10 _ _ _ _ hop).elim
    ·rename_i hop;exact(h6 _ _ hop).elim
    ·rename_i hop;exact(h7 _ _ hop).elim
    ·rename_i hop;exact(h11 _ _ hop).elim
    ·refine⟨hkd,?_⟩;simp only[hv];exact hk
   ·cases h
  ·cases h
def aHi{ops:Array Oper}{k:St->List Nat->Prop}:∀(l:List Oper) (σ:St) (con:List Nat) (p:St×List Nat),OE P E ops l σ con=some p->k p.1 p.2->OW P ops l σ con k
 |[],σ,con,p,h,hk=>by unfold OE at h;injection h with h;subst h;exact hk
 |o::l,σ,con,p,h,hk=>by
  unfold OE at h;unfold OW;split at h
  ·rename_i hw;simp only[hw];split at h
   ·rename_i q hq;exact bEt hE hq (aHi l _ _ _ h hk)
   ·cases h
  ·rename_i hw;simp only[hw];exact aHi l _ _ _ h hk
  ·cases h
end
def fzp(H:Hp)(S:List Nat)(x:AV):AV :=
 match x with
 |.ptr id _=>if id∈S then(match frz H 8 x with
   |some (.pt cs)=>if(vis H 8 x).all (λa=>decide (a∈S))then .fp cs else .any
   |_=>.any)else if(H id).isSome then x else .any
 |.d y=>.d y
 |.fp cs=>.fp cs
 |_=>.any
def fz(H:Hp)(S:List Nat)(x:AV):AV :=
 match x with
 |.own id _ _ _=>if id∈S then(match frz H 8 x with
   |some d=>if(vis H 8 x).all (λa=>decide (a∈S))then .d d else .any
   |none=>.any)else if(H id).isSome then x else .any
 |.ptr id _=>if id∈S then(match frz H 8 x with
   |some (.pt cs)=>if(vis H 8 x).all (λa=>decide (a∈S))then .fp cs else .any
   |_=>.any)else if(H id).isSome then x else .any
 |.fn f cs=>.fn f (cs.map (fzp H S))
 |.mp id=>if id∈S then .any else if(H id).isSome then x else .any
 |.kf _ id=>if id∈S then .any else if(H id).isSome then x else .any
 |.ag _=>.any
 |.tp _=>.any
 |x=>x
def fzs(H:Hp)(S:List Nat)(x:AV):AV :=
 match x with
 |.ag cs=>.ag (cs.map (fz H S))
 |x=>fz H S x
def fzm(H:Hp)(S:List Nat)(x:AV):AV :=
 match frz H 8 x with
 |some d=>if(vis H 8 x).all (λa=>decide (a∈S))then .d d else .any
 |none=>.any
def fzO(H:Hp)(S:List Nat):HO->HO
 |.cells e cs=>.cells e (cs.map (fz H S))
 |.map k es=>.map k (es.map λp=>(p.1,fzm H S p.2))
 |.iter k l es=>.iter k l es
def aBe(S:List Nat)(σ:St):St:=⟨λt=>fzs σ.H S (σ.J t),λid=>if id∈S then none else(σ.H id).map (fzO σ.H S),σ.n⟩
def lL{S:List Nat}{σ:St}{id:Nat}:((aBe S σ).H id).isSome=true↔id ∉ S/\(σ.H id).isSome=true:=by simp only[aBe];by_cases h:id∈S<;>simp[h]
def lD{S:List Nat}{σ:St}(x:AV):pR σ.H (aBe S σ).H (λi=>i) x (fz σ.H S x):=by
 have key:∀(x:AV) (d:D),frz σ.H 8 x=some d->(vis σ.H 8 x).all (λa=>decide (a∈S))=true->pR σ.H (aBe S σ).H (λi=>i) x (.d d):=by
  intro x d h1 h2;have:frz σ.H 8 x=some d/\∀a∈vis σ.H 8 x,∀id,((aBe S σ).H id).isSome=true->id≠a:=by refine⟨h1,λa ha id hid e=>?_⟩;have h3:=Ay.1 h2 a ha;simp only[AI]at h3;exact(lL.1 hid).1 (e ▸ h3)
  cases x<;>exact this
 have keyP:∀(x:AV) (d:D),frz σ.H 8 x=some d->(vis σ.H 8 x).all (λa=>decide (a∈S))=true->frz σ.H 8 x=some d/\∀a∈vis σ.H 8 x,∀id,((aBe S σ).H id).isSome=true->id≠a:=by intro x d h1 h2;refine⟨h1,λa ha id hid e=>?_⟩;have h3:=Ay.1 h2 a ha;simp only[AI]at h3;exact(lL.1 hid).1 (e ▸ h3)
 have keyQ:∀(x:AV),bVa σ.H (aBe S σ).H (λi=>i) x (fzp σ.H S x):=by
  intro x;cases x with
  |ptr id off =>
   simp only[fzp];split
   ·split
    ·rename_i cs hd;split
     ·exact keyP (.ptr id off) _ hd (by assumption)
     ·trivial
    ·trivial
   ·split
    ·exact⟨rfl,rfl,lL.2 ⟨by assumption,by assumption⟩⟩
    ·trivial
  |d y=>exact keyP (.d y) y rfl rfl
  |fp cs=>exact keyP (.fp cs) _ rfl rfl
  |_=>trivial
 cases x with
 |own id off len sz =>
  simp only[fz];split
  ·split
   ·rename_i d hd;split
    ·exact key _ d hd (by assumption)
    ·trivial
   ·trivial
  ·split
   ·exact⟨rfl,rfl,rfl,rfl,lL.2 ⟨by assumption,by assumption⟩⟩
   ·trivial
 |ptr id off =>
  simp only[fz];split
  ·split
   ·rename_i cs hd;split
    ·exact keyP (.ptr id off) _ hd (by assumption)
    ·trivial
   ·trivial
  ·split
   ·exact⟨rfl,rfl,lL.2 ⟨by assumption,by assumption⟩⟩
   ·trivial
 |fn f cs =>
  refine⟨rfl,by simp,λk c d hc hd=>?_⟩;rw[Aw,hc]at hd;injection hd with hd;subst hd
  exact keyQ c
 |mp id =>
  simp only[fz];split
  ·trivial
  ·split
   ·exact⟨rfl,lL.2 ⟨by assumption,by assumption⟩⟩
   ·trivial
 |kf f id =>
  simp only[fz];split
  ·trivial
  ·split
   ·exact⟨rfl,rfl,lL.2 ⟨by assumption,by assumption⟩⟩
   ·trivial
 |ag cs=>trivial
 |tp cs=>trivial
 |d y=>exact key _ y rfl rfl
 |nil=>trivial
 |fp cs=>exact keyP (.fp cs) _ rfl rfl
 |fd els=>rfl
 |un=>trivial
 |ub=>trivial
 |any=>trivial
def bTi(S:List Nat)(σ:St)(htop:∀id,σ.n<=id->σ.H id=none):Wk σ (aBe S σ) (λi=>i):=by
 refine⟨λid h=>?_,λt=>?_,λid o' h=>?_,λ_ _ _ _ h=>h,λ_=>rfl,λh=>h⟩
 ·simp only[aBe]at h ⊢;rw[htop id h];simp
 ·show Sub σ.H (aBe S σ).H (λi=>i) (σ.J t) (fzs σ.H S (σ.J t));generalize σ.J t=x;cases x with
  |ag cs =>
   refine⟨by simp,λk c d hc hd=>?_⟩;rw[Aw,hc]at hd;injection hd with hd;subst hd
   exact lD c
  |d y=>exact lD (S:=S) (σ:=σ) (.d y)
  |nil=>exact lD (S:=S) (σ:=σ) .nil
  |un=>exact lD (S:=S) (σ:=σ) .un
  |ub=>exact lD (S:=S) (σ:=σ) .ub
  |any=>exact lD (S:=S) (σ:=σ) .any
  |fp cs=>exact lD (S:=S) (σ:=σ) (.fp cs)
  |fn f cs=>exact lD (S:=S) (σ:=σ) (.fn f cs)
  |fd els=>exact lD (S:=S) (σ:=σ) (.fd els)
  |tp cs=>exact lD (S:=S) (σ:=σ) (.tp cs)
  |own id off len sz =>
   have h:=lD (S:=S) (σ:=σ) (.own id off len sz);simp only[fzs];generalize fz σ.H S (.own id off len sz)=y at h;cases y<;>exact h
  |ptr id off =>
   have h:=lD (S:=S) (σ:=σ) (.ptr id off);simp only[fzs];generalize fz σ.H S (.ptr id off)=y at h;cases y<;>exact h
  |mp id =>
   have h:=lD (S:=S) (σ:=σ) (.mp id);simp only[fzs];generalize fz σ.H S (.mp id)=y at h;cases y<;>exact h
  |kf f id =>
   have h:=lD (S:=S) (σ:=σ) (.kf f id);simp only[fzs];generalize fz σ.H S (.kf f id)=y at h;cases y<;>exact h
 ·simp only[aBe]at h;split at h
  ·cases h
  ·obtain⟨o,ho,rfl⟩:=Aj.1 h;refine⟨o,ho,?_⟩;cases o with
   |iter k l es=>exact⟨rfl,rfl,rfl⟩
   |cells e cs =>
    refine⟨rfl,by simp,λk c d hc hd=>?_⟩;rw[Aw,hc]at hd;injection hd with hd;subst hd
    exact lD c
   |map k es =>
    refine⟨rfl,by simp,λj x y hx hy=>?_⟩;rw[Aw,hx]at hy;injection hy with hy;subst hy
    refine⟨rfl,?_⟩;simp only[fzm];split
    ·rename_i d hd;split
     ·rename_i hv;have:frz σ.H 8 x.2=some d/\∀a∈vis σ.H 8 x.2,∀id,((aBe S σ).H id).isSome=true->id≠a:=by refine⟨hd,λa ha id hid e=>?_⟩;have h3:=Ay.1 hv a ha;simp only[AI]at h3;exact(lL.1 hid).1 (e ▸ h3)
      generalize x.2=z at this;cases z<;>exact .inl this
     ·generalize x.2=z;cases z<;>exact .inl trivial
    ·generalize x.2=z;cases z<;>exact .inl trivial
def iter(body:St->Option (Exit×St)):Nat->St->Option (Exit×St)
 |0,_=>none
 |n+1,σ=>match body σ with
  |some (.normal,σ')=>iter body n σ'
  |r=>r
def ex(P:Program)(E:Kn)(fuel:Nat):Code->St->Option (Exit×St)
 |.skip,σ=>some (.normal,σ)
 |.region _ ops _,σ=>match OE P E ops ops.toList σ []with
  |some (σ',con)=>match con.filter (λi=>decide (i<σ.n))with
   |[]=>some (.normal,fin σ' con)
   |i::S=>match OE P E ops ops.toList (aBe (i::S) σ) []with
    |some (σ2,con2)=>some (.normal,fin σ2 con2)
    |none=>some (.normal,fin σ' con)
  |none=>none
 |.seq x y,σ=>match ex P E fuel x σ with
  |some (.normal,σ')=>ex P E fuel y σ'
  |r=>r
 |.cond c x y,σ=>match oev σ.J c with
  |.d (.b true)=>ex P E fuel x σ
  |.d (.b false)=>ex P E fuel y σ
  |_=>none
 |.block id c,σ=>match ex P E fuel c σ with
  |some (.exit id',σ')=>if id'=id then some (.normal,σ')else some (.exit id',σ')
  |r=>r
 |.loop c,σ=>iter (ex P E fuel c) fuel σ
 |.exit id,σ=>some (.exit id,σ)
 |.ret,σ=>some (.ret,σ)
 |.label _,σ=>some (.normal,σ)
 |.scope c,σ=>match ex P E fuel c σ with
  |some (.goto _,_)=>none
  |r=>r
 |_,_=>none
section
variable {P:Program} {G:Ctx} {N:Nat} {ds:List Deferred} {E:Kn}
def bDt{rd:Bool}{WW:Code->(Exit->Act->World->Prop)->Act->World->Prop}(hW:WpR P rd WW)(hE:aTr P E)(hm:P.follows .mixedOrders=true){z:Nat->Bool}(hz:∀d v,G.Z d=some v->z d=true)(fuel:Nat) :
  ∀(c:Code) (σ:St) (a:Act) (w:World) (e:Exit) (σ':St),dK N c=true->eC P c=true->oE z c=true->(rd=true->pQ c=true)->ex P E fuel c σ=some (e,σ')->SR G N ds σ a w ->
  WW c (λe' a' w'=>e'=e/\SR G N ds σ' a' w') a w:=by
 intro c
 induction c with
 |skip=>intro σ a w e σ' _ _ _ _ h hs;simp only[ex,AU,Ez]at h;obtain⟨rfl,rfl⟩:=h;exact hW.skip ⟨rfl,hs⟩
 |region id ops draw =>
  intro σ a w e σ' hd hl hnz hnd h hs
  have one:∀(σ0 σ1:St) (con:List Nat),OE P E ops ops.toList σ0 []=some (σ1,con)->SR G N ds σ0 a w->WW (.region id ops draw) (λe' a' w'=>e'=.normal/\SR G N ds (fin σ1 con) a' w') a w:=by intro σ0 σ1 con hp hs0;refine yK hW (Q:=λs=>s=fin σ1 con) hm (yO hz hd hnz) hnd (λhdr=>by simpa[eC,hdr]using hl) hs0 (aHi hE _ _ _ _ hp rfl) ?_;rintro σ' a' w' rfl hs';exact⟨rfl,hs'⟩
  simp only[ex]at h
  split at h
  ·rename_i σ1 con hp
   split at h
   ·injection h with h;injection h with h1 h2;subst h1;subst h2
    exact one σ σ1 con hp hs
   ·rename_i i S hS
    split at h
    ·rename_i σ2 con2 hp2
     injection h with h;injection h with h1 h2;subst h1;subst h2
     exact one _ σ2 con2 hp2 (aDv (bTi (i::S) σ hs.1) hs)
    ·injection h with h;injection h with h1 h2;subst h1;subst h2
     exact one σ σ1 con hp hs
  ·cases h
 |seq x y ihx ihy =>
  intro σ a w e σ' hd hl hnz hnd h hs
  simp only[dK,eC,oE,pQ,AO]at hd hl hnz hnd
  simp only[ex]at h
  split at h
  ·rename_i σ1 h1
   refine hW.seq (hW.mono (ihx σ a w _ _ hd.1 hl.1 hnz.1 (λe=>(hnd e).1) h1 hs) ?_)
   rintro e' a' w' ⟨rfl,hs'⟩
   exact ihy _ a' w' _ _ hd.2 hl.2 hnz.2 (λe=>(hnd e).2) h hs'
  ·rename_i hne
   refine hW.seq (hW.mono (ihx σ a w _ _ hd.1 hl.1 hnz.1 (λe=>(hnd e).1) h hs) ?_)
   rintro e' a' w' ⟨rfl,hs'⟩
   cases e' with
   |normal=>exact(hne _ h).elim
   |_=>exact⟨rfl,hs'⟩
 |cond c x y ihx ihy =>
  intro σ a w e σ' hd hl hnz hnd h hs
  simp only[dK,eC,oE,pQ,AO]at hd hl hnz hnd
  have hc:∀t,oev σ.J c=.d (.b t)->a.eval c=.bool t:=by
   intro t ht;obtain⟨_,_,F,ι,_,_,hV,_⟩:=hs;have:=fD (J:=σ.J) (a:=a) (x:=c) (F:=F) (w:=w) (ι:=ι) λt _=>hV t
   rw[ht]at this;generalize a.eval c=v at this;cases this with|d _ _ h=>cases h;rfl
  simp only[ex]at h
  split at h
  ·rename_i ht;exact hW.cond (hc _ ht) (ihx σ a w _ _ hd.1 hl.1 hnz.1 (λe=>(hnd e).1) h hs)
  ·rename_i ht;exact hW.cond (hc _ ht) (ihy σ a w _ _ hd.2 hl.2 hnz.2 (λe=>(hnd e).2) h hs)
  ·cases h
 |block id c ih =>
  intro σ a w e σ' hd hl hnz hnd h hs
  simp only[ex]at h
  split at h
  ·rename_i id' σ1 h1
   refine hW.block (hW.mono (ih σ a w _ _ hd hl hnz hnd h1 hs) ?_)
   rintro e' a' w' ⟨rfl,hs'⟩
   simp only[Exit.inBlock]
   split at h
   ·rename_i he;injection h with h;injection h with h1 h2;subst h1;subst h2;rw[Ae he];exact⟨rfl,hs'⟩
   ·rename_i he;injection h with h;injection h with h1 h2;subst h1;subst h2;rw[Ac he];exact⟨rfl,hs'⟩
  ·rename_i hne
   refine hW.block (hW.mono (ih σ a w _ _ hd hl hnz hnd h hs) ?_)
   rintro e' a' w' ⟨rfl,hs'⟩
   cases e' with
   |exit id'=>exact(hne _ _ h).elim
   |_=>exact⟨rfl,hs'⟩
 |loop c ih =>
  intro σ a w e σ' hd hl hnz hnd h hs
  simp only[ex]at h
  refine hW.loop (λn a w=>∃σ,iter (ex P E fuel c) n σ=some (e,σ')/\SR G N ds σ a w) ⟨fuel,σ,h,hs⟩ ?_
  rintro n a w ⟨σ1,h1,hs1⟩
  cases n with
  |zero=>cases h1
  |succ n =>
   simp only[iter]at h1
   split at h1
   ·rename_i σ2 h2
    refine hW.mono (ih σ1 a w _ _ hd hl hnz hnd h2 hs1) ?_
    rintro e' a' w' ⟨rfl,hs'⟩
    exact⟨n,AK n,_,h1,hs'⟩
   ·rename_i hne
    refine hW.mono (ih σ1 a w _ _ hd hl hnz hnd h1 hs1) ?_
    rintro e' a' w' ⟨rfl,hs'⟩
    cases e' with
    |normal=>exact(hne _ h1).elim
    |_=>exact⟨rfl,hs'⟩
 |exit id=>intro σ a w e σ' _ _ _ _ h hs;simp only[ex,AU,Ez]at h;obtain⟨rfl,rfl⟩:=h;exact hW.exit ⟨rfl,hs⟩
 |ret=>intro σ a w e σ' _ _ _ _ h hs;simp only[ex,AU,Ez]at h;obtain⟨rfl,rfl⟩:=h;exact hW.ret ⟨rfl,hs⟩
 |label l=>intro σ a w e σ' _ _ _ _ h hs;simp only[ex,AU,Ez]at h;obtain⟨rfl,rfl⟩:=h;exact hW.label ⟨rfl,hs⟩
 |scope c ih =>
  intro σ a w e σ' hd hl hnz hnd h hs
  simp only[ex]at h
  split at h
  ·cases h
  ·rename_i hne
   have hrd:rd=false:=by
    cases rd with
    |false=>rfl
    |true=>exact absurd (hnd rfl) (by simp[pQ])
   refine hW.scope hrd (hW.mono (ih σ a w _ _ hd hl hnz (λe=>by rw[hrd]at e;cases e) h hs) ?_)
   rintro e' a' w' ⟨rfl,hs'⟩
   cases e' with
   |goto l=>exact(hne _ _ h).elim
   |_=>exact⟨rfl,hs'⟩
 |_=>intro σ a w e σ' _ _ _ _ h;cases h
def zM(hE:aTr P E)(hm:P.follows .mixedOrders=true)(hZ:∀d,G.Z d=none)(fuel:Nat)(c:Code)(σ:St)(a:Act)(w:World)(e:Exit)(σ':St)(hd:dK N c=true)(hl:eC P c=true)(h:ex P E fuel c σ=some (e,σ'))(hs:SR G N ds σ a w) :
  c.wp P (λe' a' w'=>e'=e/\SR G N ds σ' a' w') a w :=
 bDt (WpR.plain P) hE hm (z:=λ_=>false) (λd v e=>by rw[hZ]at e;cases e) fuel c σ a w e σ' hd hl (zR c) (λe=>by cases e) h hs
end
def aVv (P:Program) (fn:Func) (c:Code):Bool:=dK fn.ntmps c && eC P c && !(fn.name == "runtime.NumGoroutine")
def bIb(c:Code):Option (Code×FuncId×Code):=match c with
 |.seq r0 (.seq rd rest)=>(qJ rd).map λg=>(r0,g,rest)
 |_=>none
def aUh {P:Program} {f N:Nat} {fn:Func} {c:Code} {args:List D} {r:D} {e:Exit} {σ:St} (hf:P.funcs[f]? = some fn) (hb:fn.body=some c) (hname:(fn.name == "runtime.NumGoroutine")=false) (hN:fn.ntmps=N)
  (ha:args.length<=N) (h:∀(G:Ctx) (a:Act) (w:World),(∀d,G.Z d=none)->SR G N [] (St0 args N) a w->c.wp P (λe' a' w'=>e'=e/\SR G N [] σ a' w') a w) (he:e=.normal\/e=.ret) (hr:mU P fn.results.toList σ=some r):Spec P f args r:=by
 intro A W vs hA hl hv
 have hn:¬ fn.name = "runtime.NumGoroutine" := by simpa using hname
 refine⟨λw=>by simp[callFunc,hf,hn,hb],?_⟩
 refine calls_of_wp hf hb ?_
 subst hN
 refine wp_mono (h _ _ _ (λ_=>rfl) (SR0 hA hl hv ha)) ?_
 rintro e' a w ⟨rfl,hs⟩
 obtain⟨v,hrun,hvd⟩:=nN hs hr
 obtain⟨_,_,F,ι,hR,_,_,_,hdf,_⟩:=hs
 have hend:a.defers=[]/\∃v,(results fn a.tmps).run P w=.ok v w/\∃v',DL v=.returned v'/\Below W.heap.size W w/\VD (λb=>A b\/(W.heap.size<=b/\b<w.heap.size)) w r v':=by
  refine⟨hdf,v,hrun,v,rfl,⟨hR.kept.os,hR.kept.tape,hR.kept.output,hR.kept.size,λk hk=>hR.kept.block k hk (λh=>h)⟩,hvd.mono ?_⟩;rintro b (h|h|h)
  ·exact .inl h
  ·exact h.elim
  ·exact .inr h
 rcases he with rfl|rfl<;>exact hend
def aPb {P:Program} {f N:Nat} {fn:Func} {g:FuncId} {r0 rd rest:Code} {args:List D} {r:D} {e:Exit} {σ0 σ:St} (hf:P.funcs[f]? = some fn) (hb:fn.body=some (.seq r0 (.seq rd rest))) (hname:(fn.name == "runtime.NumGoroutine")=false)
  (hN:fn.ntmps=N) (hg:qJ rd=some g) (hrec:gQ P g) (ha:args.length<=N) (h:∀(G:Ctx) (a:Act) (w:World),(∀d,G.Z d=none)->SR G N [] (St0 args N) a w->r0.wp P (λe' a' w'=>e'=.normal/\SR G N [] σ0 a' w') a w)
  (h':∀(G:Ctx) (a:Act) (w:World),(∀d,G.Z d=none)->SR G N [{ target:=.fn (.func g) #[],args:=#[] }] σ0 a w->rest.wp P (λe' a' w'=>e'=e/\SR G N [{ target:=.fn (.func g) #[],args:=#[] }] σ a' w') a w)
  (he:e=.normal\/e=.ret) (hr:mU P fn.results.toList σ=some r):Spec P f args r:=by
 intro A W vs hA hl hv
 have hn:¬ fn.name = "runtime.NumGoroutine" := by simpa using hname
 refine⟨λw=>by simp[callFunc,hf,hn,hb],?_⟩
 refine calls_of_wp_defers hf hb ?_
 subst hN
 refine wp_seq (wp_mono (h _ _ _ (λ_=>rfl) (SR0 hA hl hv ha)) ?_)
 rintro e' a w ⟨rfl,hs0⟩
 refine wp_seq (rS hg ?_)
 refine wp_mono (h' _ _ _ (λ_=>rfl) (aAc { target:=.fn (.func g) #[],args:=#[] } hs0)) ?_
 rintro e' a w ⟨rfl,hs⟩
 rcases he with rfl|rfl<;>exact sC hrec hs hr
def bTv(P:Program)(fn:Func):Option (Exit×St)->Option D
 |some (.normal,σ)=>mU P fn.results.toList σ
 |some (.ret,σ)=>mU P fn.results.toList σ
 |_=>none
def bWz(P:Program)(E:Kn)(fuel:Nat)(f:FuncId)(args:List D):Option D :=
 match P.funcs[f]? with
 |none=>none
 |some fn=>match fn.body with
  |none=>none
  |some c=>match bIb c with
   |none=>if aVv P fn c&&decide (args.length<=fn.ntmps)then bTv P fn (ex P E fuel c (St0 args fn.ntmps))else none
   |some (r0,g,rest)=>if aVv P fn r0&&aVv P fn rest&&E.recs g&&decide (args.length<=fn.ntmps)then match ex P E fuel r0 (St0 args fn.ntmps)with
     |some (.normal,σ)=>bTv P fn (ex P E fuel rest σ)
     |_=>none
    else none
def bGx(P:Program)(E:Kn)(fuel:Nat)(f:FuncId)(h:AV)(o:HO)(args:List D):Option (HO×D) :=
 match P.funcs[f]? with
 |none=>none
 |some fn=>match fn.body,o with
  |some c,.map _ _=>if aVv P fn c&&decide (args.length+1<=fn.ntmps)then match ex P E fuel c (St1 h o args fn.ntmps)with
   |some (e,σ)=>match σ.H 0,bTv P fn (some (e,σ))with
    |some (.map k es),some r=>if oC (.map k es)&&nmB 8 r then some (.map k es,r)else none
    |_,_=>none
   |none=>none
   else none
  |_,_=>none
def runK(P:Program)(E:Kn)(fuel:Nat):Nat->Kn
 |0=>{ E with call:=λ_ _=>none,ocall:=λ_ _ _ _=>none }
 |n+1=>{ E with
   call:=λf args=>match E.call f args with|some r=>some r|none=>bWz P (runK P E fuel n) fuel f args
   ocall:=λf h o args=>match E.ocall f h o args with|some r=>some r|none=>bGx P (runK P E fuel n) fuel f h o args }
def aBh{P:Program}{fn:Func}{e:Exit}{σ:St}{r:D}(h:bTv P fn (some (e,σ))=some r):(e=.normal\/e=.ret)/\mU P fn.results.toList σ=some r:=by cases e<;>first|exact⟨.inl rfl,h⟩|exact⟨.inr rfl,h⟩|cases h
def aUr{P:Program}{E:Kn}{fuel:Nat}(hm:P.follows .mixedOrders=true)(hE:aTr P E){f:FuncId}{args:List D}{r:D}(h:bWz P E fuel f args=some r):Spec P f args r:=by
 unfold bWz at h;split at h
 ·cases h
 rename_i fn hfn;split at h
 ·cases h
 rename_i c hc;split at h
 ·split at h
  case isFalse=>cases h
  rename_i hok;simp only[aVv,AO,Ck,AI]at hok;obtain⟨⟨⟨h1,h2⟩,h3⟩,h4⟩:=hok;cases hex:ex P E fuel c (St0 args fn.ntmps)with
  |none=>rw[hex]at h;cases h
  |some p =>
   obtain⟨e,σ⟩:=p;rw[hex]at h;obtain⟨he,hr⟩:=aBh h;exact aUh hfn hc h3 rfl h4 (λG a w hZ hs=>zM hE hm hZ fuel c _ a w _ _ h1 h2 hex hs) he hr
 ·rename_i r0 g rest hp;split at h
  case isFalse=>cases h
  rename_i hok;simp only[aVv,AO,Ck,AI]at hok;obtain⟨⟨⟨⟨⟨h1,h2⟩,h3⟩,⟨h1',h2'⟩,_⟩,hg⟩,h4⟩:=hok;split at h
  case h_2=>cases h
  rename_i σ0 hex0;cases hex:ex P E fuel rest σ0 with
  |none=>rw[hex]at h;cases h
  |some p =>
   obtain⟨e,σ⟩:=p;rw[hex]at h;obtain⟨he,hr⟩:=aBh h;unfold bIb at hp;split at hp
   case h_2=>cases hp
   rename_i r0' rd rest';obtain⟨g',hg',hp⟩:=Aj.1 hp;injection hp with e1 hp;injection hp with e2 e3;subst e1;subst e2;subst e3
   exact aPb hfn hc h3 rfl hg' (hE.recs _ hg) h4 (λG a w hZ hs=>wp_mono (zM hE hm hZ fuel _ _ a w _ _ h1 h2 hex0 hs) λe a w h=>h)
    (λG a w hZ hs=>zM hE hm hZ fuel _ _ a w _ _ h1' h2' hex hs) he hr
def aPj{P:Program}{E:Kn}{fuel:Nat}(hm:P.follows .mixedOrders=true)(hE:aTr P E){f:FuncId}{h0:AV}{o o':HO}{args:List D}{r:D}(h:bGx P E fuel f h0 o args=some (o',r)):tE P f h0 o args o' r:=by
 unfold bGx at h;split at h
 ·cases h
 rename_i fn hfn;split at h
 case h_2=>cases h
 rename_i c kd es hc;split at h
 case isFalse=>cases h
 rename_i hok;simp only[aVv,AO,Ck,AI]at hok;obtain⟨⟨⟨h1,h2⟩,h3⟩,h4⟩:=hok;split at h
 case h_2=>cases h
 rename_i e σ hex;split at h
 case h_2=>cases h
 rename_i k1 es1 r1 hH hr;split at h
 case isFalse=>cases h
 rename_i hfl;rw[AO]at hfl;obtain⟨hfl,hnm⟩:=hfl;injection h with h;injection h with e1 e2;subst e1;subst e2
 have hr2:=aBh hr;obtain⟨he,hr3⟩:=hr2;refine aQk hfn hc h3 rfl h4 ⟨_,_,rfl⟩ ⟨_,_,rfl⟩ hfl (aFf _ _ hnm) λG a w hZ hs=>wp_mono (zM hE hm hZ fuel c _ a w _ _ h1 h2 hex hs) ?_
 rintro e' a' w' ⟨rfl,hs'⟩;exact⟨σ,⟨he,hr3,hH⟩,hs'⟩
def aLu{P:Program}{E:Kn}{fuel:Nat}(hm:P.follows .mixedOrders=true)(hE:aTr P E):∀n,aTr P (runK P E fuel n)
 |0=>⟨(λ_ _ _ h=>by cases h),(λ_ _ _ _ _ _ h=>by cases h),hE.keys,hE.sorted,hE.recs⟩
 |n+1=>by
  have ih:=aLu (fuel:=fuel) hm hE n;refine⟨λf ds r h=>?_,λf h0 o ds o' r h=>?_,hE.keys,hE.sorted,hE.recs⟩
  ·unfold runK at h;simp only at h;split at h
   ·rename_i r' hr';injection h with h;subst h;exact hE.call _ _ _ hr'
   ·exact aUr hm ih h
  ·unfold runK at h;simp only at h;split at h
   ·rename_i r' hr';injection h with h;subst h;exact hE.ocall _ _ _ _ _ _ hr'
   ·exact aPj hm ih h
end Go.Am
end
section
open List renaming map_map->C,mapM_map->K
namespace Go.Am
variable {P:Program}
@[congr]def bZy{c:Code}{σ σ':St}{Q:Exit->St->Prop}(h:σ=σ'):AWP P c σ Q=AWP P c σ' Q:=by rw[h]
def aTc(σ:St)(Q:Exit->St->Prop):AWP P .skip σ Q=Q .normal σ:=rfl
def bAh(x y:Code)(σ:St)(Q:Exit->St->Prop):AWP P (.seq x y) σ Q=AWP P x σ λe σ'=>match e with|.normal=>AWP P y σ' Q|e=>Q e σ':=rfl
def aKs(id:Nat)(c:Code)(σ:St)(Q:Exit->St->Prop):AWP P (.block id c) σ Q=AWP P c σ λe σ'=>match e with|.exit id'=>if id'=id then Q .normal σ' else Q (.exit id') σ'|e=>Q e σ':=rfl
def aTd(id:Nat)(σ:St)(Q:Exit->St->Prop):AWP P (.exit id) σ Q=Q (.exit id) σ:=rfl
def bAi(σ:St)(Q:Exit->St->Prop):AWP P .ret σ Q=Q .ret σ:=rfl
def aKq(l:Nat)(σ:St)(Q:Exit->St->Prop):AWP P (.label l) σ Q=Q .normal σ:=rfl
def aKo(c:Code)(σ:St)(Q:Exit->St->Prop):AWP P (.scope c) σ Q=AWP P c σ λe σ'=>match e with|.goto _=>False|e=>Q e σ':=rfl
def IfA(t:Bool)(A B:Prop):Prop:=if t then A else B
@[congr]def bZx{t t':Bool}{A B:Prop}(h:t=t'):IfA t A B=IfA t' A B:=by rw[h]
def bWi(P:Program)(f:FuncId)(avs:List AV)(H:Hp)(k:D->Prop):Prop:=∃ds r,fW H avs=some ds/\Spec P f ds r/\k r
@[congr]def bWd{f:FuncId}{avs avs':List AV}{H H':Hp}{k:D->Prop}(h:avs=avs')(h2:H=H'):bWi P f avs H k=bWi P f avs' H' k:=by rw[h,h2]
def jA(H:Hp)(n id off len sz:Nat):frz H (n+1) (.own id off len sz)=match H id with
  |some (.cells _ cs)=>if(off+len)*sz<=cs.length/\0<sz then(((cs.drop (off*sz)).take (len*sz)).mapM (frz H n)).map λl=>.sl (chunk sz len l)else none
  |_=>none:=rfl
def bYp(H:Hp)(n:Nat)(els:List (List D)):frz H (n+1) (.fd els)=some (.sl els):=rfl
def bTe(H:Hp)(n:Nat):frz H (n+1) .nil=some (.sl []):=rfl
def bLj(H:Hp)(n:Nat)(x:D):frz H (n+1) (.d x)=some x:=rfl
def vG(l:List Nat)(ds:List D):(ds.map AV.d).map (fV l)=ds.map AV.d:=by simp[fV,Function.comp_def]
def lX(H:Hp)(n:Nat):∀(ds:List D),(ds.map AV.d).mapM (frz H (n+1))=some ds
 |[]=>rfl
 |d::ds=>by rw[A0,B6,lX H n ds,bLj];rfl
def aOh:∀(n:Nat) (x:AV),vis (λ_=>none) n x=[]
 |0,_=>rfl
 |n+1,x=>by have ih:=aOh n;cases x<;>simp[vis,ih]
def aVn(avs:List AV)(r:D):bR (λ_=>none) avs r=[]:=by
 unfold bR fK;split
 ·rfl
 ·simp[aOh]
end Go.Am
end
section
open List renaming map_map->C,mapM_map->K
namespace Go.Am
def jN:List (Nat×AV)->Nat->AV
 |[]=>λ_=>.any
 |p::l=>upd (jN l) p.1 p.2
def pW:Nat->List HO->Hp
 |_,[]=>λ_=>none
 |i,o::os=>upd (pW (i+1) os) i (some o)
def bZp(o0:Option HO)(H:Hp):Hp:=match o0 with
 |none=>H
 |some o=>upd H 0 (some o)
def StL(sl:List (Nat×AV))(o0:Option HO)(hs:List HO):St:=⟨jN sl,bZp o0 (pW 1 hs),hs.length+1⟩
def uQ:∀(hs:List HO) (i j:Nat),pW i hs j=if i<=j then hs[j-i]? else none
 |[],i,j=>by simp[pW]
 |o::os,i,j=>by
  unfold pW upd;by_cases h:j=i
  ·subst h;simp
  ·rw[Ac h,uQ os (i+1) j];by_cases h1:i+1<=j
   ·rw[Ae h1,Ae (by omega),show j-i=(j-(i+1))+1 from by omega,List.getElem?_cons_succ]
   ·rw[Ac h1,Ac (by omega)]
def aNp(sl:List (Nat×AV))(o0:Option HO)(hs:List HO):(StL sl o0 hs).H 0=o0:=by
 unfold StL bZp;cases o0 with
 |none=>simp[uQ]
 |some o=>rfl
def aBr(sl:List (Nat×AV))(o0:Option HO)(hs:List HO)(i:Nat):(StL sl o0 hs).H (i+1)=hs[i]? := by
 unfold StL bZp;cases o0 with
 |none=>simp[uQ]
 |some o=>simp[upd,uQ]
def yD:∀(l:List (Nat×AV)) (t:Nat),jN l t=.any\/∃p∈l,p.1=t/\jN l t=p.2
 |[],t=>.inl rfl
 |p::l,t=>by
  by_cases h:t=p.1
  ·exact .inr ⟨p,Av ..,h.symm,by simp[jN,upd,h]⟩
  ·have e:jN (p::l) t=jN l t:=by simp[jN,upd,h]
   rw[e];rcases yD l t with h|⟨q,hq,h⟩
   ·exact .inl h
   ·exact .inr ⟨q,As _ hq,h⟩
def aEp(rs:List Nat):Nat->Nat:=λid=>match id with|0=>0|i+1=>rs.getD i 0
def nB(H H':Hp)(ρ:Nat->Nat)(J:Nat->AV):List (Nat×AV)->Prop
 |[]=>True
 |p::l=>Sub H H' ρ (J p.1) p.2/\nB H H' ρ J l
def dY(H H':Hp)(ρ:Nat->Nat):List Nat->List HO->Prop
 |[],[]=>True
 |r::rs,o::os=>(∃o0,H r=some o0/\mY H H' ρ o0 o)/\dY H H' ρ rs os
 |_,_=>False
def qC{H H':Hp}{ρ:Nat->Nat}{J:Nat->AV}:∀{l:List (Nat×AV)},nB H H' ρ J l->∀p∈l,Sub H H' ρ (J p.1) p.2
 |p::l,h,q,hq=>by
  rcases AG.1 hq with rfl|hq
  ·exact h.1
  ·exact qC h.2 q hq
def aGz{H H':Hp}{ρ:Nat->Nat}:∀{rs:List Nat} {os:List HO},dY H H' ρ rs os->rs.length=os.length/\∀(i:Nat) o,os[i]? = some o->∃o0,H (rs.getD i 0)=some o0/\mY H H' ρ o0 o
 |[],[],_=>⟨rfl,λi o h=>by simp at h⟩
 |r::rs,o::os,h=>by
  obtain⟨h1,h2⟩:=h;obtain⟨q1,q2⟩:=aGz h2;refine⟨by simp[q1],λi o' hi=>?_⟩;rcases i with _|i
  ·simp at hi;subst hi;simpa using h1
  ·simpa using q2 i o' (by simpa using hi)
 |[],_::_,h=>h.elim
 |_::_,[],h=>h.elim
def aDm{l:List Nat}{i:Nat}(h:i<l.length):l.getD i 0=l[i]:=by rw[Af,Ab h];rfl
def oJ{H H':Hp}{ρ:Nat->Nat}(x:AV):Sub H H' ρ x .any:=by cases x<;>trivial
def aCs{σ:St}{sl:List (Nat×AV)}{o0:Option HO}{hs:List HO}(rs:List Nat)(hnd:(0::rs).Nodup)
  (hslot:nB σ.H (StL sl o0 hs).H (aEp rs) σ.J sl) (h0:∀o',o0=some o'->∃o,σ.H 0=some o/\mY σ.H (StL sl o0 hs).H (aEp rs) o o')
  (hblk:dY σ.H (StL sl o0 hs).H (aEp rs) rs hs):Wk σ (StL sl o0 hs) (aEp rs):=by
 obtain⟨hlen,hget⟩:=aGz hblk
 have hlt:∀i,(((StL sl o0 hs).H (i+1)).isSome=true)->i<rs.length:=λi h=>by
  rw[hlen];rw[aBr]at h;rcases Bd i hs.length with h'|h'
  ·exact h'
  ·rw[AW h']at h;cases h
 have hno:∀i,i<rs.length->rs.getD i 0≠0:=λi hi h=>by have:rs[i]∈rs:=Ar hi;rw[aDm hi]at h;rw[h]at this;exact(DJ.1 hnd).1 this
 refine⟨λid h=>?_,λt=>?_,λid o' h=>?_,λid id' h h' e=>?_,λ_=>rfl,λh=>by simp[StL]at h⟩
 ·cases id with
  |zero=>simp[StL]at h
  |succ i=>rw[aBr];simp only[StL]at h;exact AW (by omega)
 ·show Sub _ _ _ _ (jN sl t)
  rcases yD sl t with h|⟨p,hp,rfl,h⟩
  ·rw[h];exact oJ _
  ·rw[h];exact qC hslot _ hp
 ·cases id with
  |zero=>rw[aNp]at h;exact h0 o' h
  |succ i=>rw[aBr]at h;exact hget i o' h
 ·cases id with
  |zero=>cases id' with
   |zero=>rfl
   |succ j=>exact absurd e.symm (hno j (hlt j h'))
  |succ i=>cases id' with
   |zero=>exact absurd e (hno i (hlt i h))
   |succ j =>
    have hi:=hlt i h
    have hj:=hlt j h'
    simp only[aEp]at e
    rw[aDm hi,aDm hj]at e
    have:=(List.getElem_inj (DJ.1 hnd).2).1 e
    rw[this]
def cDk{σ:St}{sl:List (Nat×AV)}{hs:List HO}(rs:List Nat)(hnd:(0::rs).Nodup)
  (hslot:nB σ.H (StL sl none hs).H (aEp rs) σ.J sl) (hblk:dY σ.H (StL sl none hs).H (aEp rs) rs hs):∃ρ,Wk σ (StL sl none hs) ρ :=
 ⟨_,aCs rs hnd hslot (λ_ h=>by cases h) hblk⟩
def wkQ{σ:St}{sl:List (Nat×AV)}{hs:List HO}(rs:List Nat)(hslot:nB σ.H (StL sl none hs).H (aEp rs) σ.J sl)(hblk:dY σ.H (StL sl none hs).H (aEp rs) rs hs)(hnd:(0::rs).Nodup:=by simp):∃ρ,Wk σ (StL sl none hs) ρ:=cDk rs hnd hslot hblk
def vD{H H':Hp}{ρ:Nat->Nat}(e:TypeId)(l:List D):mY H H' ρ (.cells e (l.map .d)) (.cells e (l.map .d)):=by
 refine⟨rfl,rfl,λk c d h1 h2=>?_⟩;rw[h1]at h2;injection h2 with h2;subst h2
 rw[Aw]at h1;obtain⟨x,_,rfl⟩:=Aj.1 h1;exact⟨rfl,λa ha=>by simp[vis]at ha⟩
def aUe{H H':Hp}{ρ:Nat->Nat}{e:TypeId}{l:List D}{c c':List AV}(h:c=l.map .d)(h':c'=l.map .d):mY H H' ρ (.cells e c) (.cells e c'):=by subst h;subst h';exact vD e l
def bVh{H H':Hp}{ρ:Nat->Nat}(x:D):Sub H H' ρ (.d x) (.d x):=⟨rfl,λa ha=>by simp[vis]at ha⟩
def bWv{H H':Hp}{ρ:Nat->Nat}{x y:D}(h:x=y):Sub H H' ρ (.d x) (.d y):=h ▸ bVh x
def aIn{H H':Hp}{ρ:Nat->Nat}(x y:D):Sub H H' ρ (.d x) (.d y)↔x=y:=by
 constructor
 ·intro h;have:frz H 8 (.d x)=some y:=h.1;rw[bLj]at this;injection this
 ·exact bWv
def aOt{H H':Hp}{ρ:Nat->Nat}{a o l s b o' l' s':Nat}:Sub H H' ρ (.own a o l s) (.own b o' l' s')↔(a=ρ b/\o=o'/\l=l'/\s=s'/\(H' b).isSome=true):=Fv
def aOs{H H':Hp}{ρ:Nat->Nat}{a o b o':Nat}:Sub H H' ρ (.ptr a o) (.ptr b o')↔(a=ρ b/\o=o'/\(H' b).isSome=true):=Fv
def aUc{H H':Hp}{ρ:Nat->Nat}{a b:Nat}:Sub H H' ρ (.mp a) (.mp b)↔(a=ρ b/\(H' b).isSome=true):=Fv
def bPh{H H':Hp}{ρ:Nat->Nat}:Sub H H' ρ .nil .nil↔True:=Fv
def bWu{H H':Hp}{ρ:Nat->Nat}:Sub H H' ρ .un .un↔True:=Fv
def qA{H H':Hp}{ρ:Nat->Nat}{x:AV}{y:D}(h:frz H 8 x=some y)(hv:∀a∈vis H 8 x,∀id,(H' id).isSome=true->ρ id≠a):Sub H H' ρ x (.d y):=by
 have h2:pR H H' ρ x (.d y):=by cases x<;>exact⟨h,hv⟩
 cases x<;>exact h2
def oM(l:List D)(off:Nat)(x:D)(h:off<l.length):lay (l.map AV.d) off [.d x]=(l.set off x).map .d:=by
 have h1:off+[AV.d x].length<=(l.map AV.d).length:=by rw[List.length_map];exact h
 apply DG;intro k;rw[zE h1,Aw,Aw,List.getElem?_set];by_cases e:off=k
 ·subst e;simp[h]
 ·rw[Ac e,Ac];simp only[List.length_singleton];omega
def wB(l:List D)(n:Nat)(h:n=l.length):chunk 1 n l=l.map λx=>[x]:=by
 subst h;unfold chunk;apply DG;intro k;by_cases hk:k<l.length
 ·simp only[Aw,List.getElem?_range hk,Option.map_some,DP,Ab hk];congr 1;rw[List.drop_eq_getElem_cons hk];rfl
 ·rw[AW (by simpa using hk),AW (by simpa using hk)]
def aCd(l:List (List D))(h:∀x∈l,x.length=3):chunk 3 l.length l.flatten=l:=by
 induction l with
 |nil=>rfl
 |cons a l ih =>
  have ha:=h a (Av ..);have:=ih λx hx=>h x (As _ hx)
  unfold chunk at this ⊢;rw[AH,List.range_succ_eq_map,A0,List.map_map,BE];congr 1
  ·simp[ha]
  ·conv=>rhs;rw[<-this]
   apply List.map_congr_left;intro i _;simp only[Function.comp];rw[show Nat.succ i*3=a.length+i*3 from by omega,List.drop_append,List.drop_eq_nil_of_le (by omega)];simp
def bHf(n:Nat)(x:D):(AB n [AV.d x]).flatten=(AB n x).map .d:=by
 induction n with
 |zero=>rfl
 |succ n ih=>simp only[DN,BE,ih];rfl
def bYq(H:Hp)(n:Nat)(cs:List AV):frz H (n+1) (.ag cs)=(cs.mapM (frz H n)).map .ag:=rfl
def jB(H H':Hp)(ρ:Nat->Nat):List AV->List AV->Prop
 |[],[]=>True
 |c::cs,d::ds=>pR H H' ρ c d/\jB H H' ρ cs ds
 |_,_=>False
def fQ{H H':Hp}{ρ:Nat->Nat}:∀{cs ds:List AV},jB H H' ρ cs ds↔(cs.length=ds.length/\∀(k:Nat) c d,cs[k]? = some c->ds[k]? = some d->pR H H' ρ c d)
 |[],[]=>by simp[jB]
 |c::cs,d::ds=>by
  rw[jB,fQ];constructor
  ·rintro⟨h1,h2,h3⟩;refine⟨by simp[h2],λk a b ha hb=>?_⟩;rcases k with _|k
   ·simp at ha hb;subst ha;subst hb;exact h1
   ·exact h3 k a b (by simpa using ha) (by simpa using hb)
  ·rintro⟨h1,h2⟩;exact⟨h2 0 c d rfl rfl,by simpa using h1,λk a b ha hb=>h2 (k+1) a b (by simpa using ha) (by simpa using hb)⟩
 |[],_::_=>by simp[jB]
 |_::_,[]=>by simp[jB]
def fM{H H':Hp}{ρ:Nat->Nat}{e e':TypeId}{cs ds:List AV}:mY H H' ρ (.cells e cs) (.cells e' ds)↔(e=e'/\jB H H' ρ cs ds):=by rw[fQ];rfl
def kK{H H':Hp}{ρ:Nat->Nat}(x y:D):pR H H' ρ (.d x) (.d y)↔x=y:=aIn x y
def bFs{H H':Hp}{ρ:Nat->Nat}:pR H H' ρ .nil .nil↔True:=Fv
def bPi{H H':Hp}{ρ:Nat->Nat}:pR H H' ρ .un .un↔True:=Fv
def aNf{H H':Hp}{ρ:Nat->Nat}{c c':List AV}{l:List D}(h:c=l.map .d)(h':c'=l.map .d):jB H H' ρ c c':=by have:=aUe (H:=H) (H':=H') (ρ:=ρ) (e:=0) h h';exact(fM.1 this).2
def aSz{H H':Hp}{ρ:Nat->Nat}{l l':List D}:jB H H' ρ (l.map .d) (l'.map .d)↔l=l':=by
 constructor
 ·intro h;obtain⟨h1,h2⟩:=fQ.1 h;apply DG;intro k;by_cases hk:k<l.length
  ·have hk':k<l'.length:=by simpa using(by simpa using h1:l.length=l'.length) ▸ hk
   have:=h2 k (.d l[k]) (.d l'[k]) (by simp[hk]) (by simp[hk']);rw[kK]at this;rw[Ab hk,Ab hk',this]
  ·have hl:l.length=l'.length:=by simpa using h1
   have hk':¬k<l'.length:=by omega
   rw[AW (by omega),AW (by omega)]
 ·rintro rfl;exact aNf rfl rfl
def aEj{H H':Hp}{ρ:Nat->Nat}{k:IntKind}{es:List (Int×AV)}(h:∀x∈es,Sub H H' ρ x.2 x.2):mY H H' ρ (.map k es) (.map k es):=by
 refine⟨rfl,rfl,λj x y hx hy=>?_⟩;rw[hx]at hy;injection hy with hy;subst hy
 exact⟨rfl,.inr (h x (List.mem_of_getElem? hx))⟩
def aNe{H H':Hp}{ρ:Nat->Nat}{l:List D}{c c':List AV}:jB H H' ρ (l.map .d++c) (l.map .d++c')↔jB H H' ρ c c':=by
 induction l with
 |nil=>rfl
 |cons x l ih=>simp only[A0,BN,jB,ih,kK,true_and]
end Go.Am
end
section
open List renaming map_map->C,mapM_map->K
namespace Go.Am
variable {P:Program}
inductive Dm{α:Sort _}(a:α):Type where
 |mk
def eG{α:Type}(x:Option α)(k:α->Prop)(_:Dm k):Prop:=match x with|some a=>k a|none=>False
def aWu{α:Type}(a:α)(k:α->Prop)(d:Dm k):eG (some a) k d=k a:=rfl
def IfD(t:Bool)(A B:Prop)(_:Dm (A,B)):Prop:=if t then A else B
def bKw(A B:Prop)(d:Dm (A,B)):IfD true A B d=A:=rfl
def bDh(A B:Prop)(d:Dm (A,B)):IfD false A B d=B:=by simp[IfD]
def OWd(P:Program)(ops:Array Oper)(l:List Oper)(σ:St)(con:List Nat)(k:St->List Nat->Prop)(_:Dm (ops,l,k)):Prop:=OW P ops l σ con k
def O1d(P:Program)(o:Oper)(σ:St)(con:List Nat)(k:St->List Nat->Prop)(_:Dm (o,k)):Prop:=O1 P o σ con k
def aIf(σ:St)(con:List Nat)(k:St->Prop)(_:Dm k):Prop:=k (fin σ con)
def bP(σ:St)(k:St->Prop)(d:Dm k):aIf σ [] k d=k σ:=rfl
def bDp(σ:St)(c:Nat)(l:List Nat)(k:St->Prop)(d:Dm k):aIf σ (c::l) k d=k ⟨λt=>lI (c::l) (σ.J t),λid=>(σ.H id).map (fG (c::l)),σ.n⟩:=rfl
def bOl(P:Program)(v:AV)(x y:Code)(σ:St)(Q:Exit->St->Prop)(_:Dm (x,y,Q)):Prop:=match v with|.d (.b t)=>IfD t (AWP P x σ Q) (AWP P y σ Q) .mk|.ub=>AWP P x σ Q/\AWP P y σ Q|_=>False
def bUc(t:Bool)(x y:Code)(σ:St)(Q:Exit->St->Prop)(d:Dm (x,y,Q)):bOl P (.d (.b t)) x y σ Q d=IfD t (AWP P x σ Q) (AWP P y σ Q) .mk:=rfl
def bMe(x y:Code)(σ:St)(Q:Exit->St->Prop)(d:Dm (x,y,Q)):bOl P .ub x y σ Q d=(AWP P x σ Q/\AWP P y σ Q):=rfl
def aKr(c:Operand)(x y:Code)(σ:St)(Q:Exit->St->Prop):AWP P (.cond c x y) σ Q=bOl P (oev σ.J c) x y σ Q .mk:=rfl
def aCh(id:Nat)(l:List Oper)(draw:Bool)(σ:St)(Q:Exit->St->Prop):AWP P (.region id l.toArray draw) σ Q=OWd P l.toArray l σ [] (λσ' con=>aIf σ' con (Q .normal) .mk) .mk:=rfl
def aTp(P:Program)(c:Code)(σ:St)(Q:Exit->St->Prop)(_:Dm (c,Q)):Prop:=AWP P (.loop c) σ Q
def aKp(c:Code)(σ:St)(Q:Exit->St->Prop):AWP P (.loop c) σ Q=aTp P c σ Q .mk:=rfl
def tW{τ:Type}{c:Code}{σ:St}{Q:Exit->St->Prop}{d:Dm (c,Q)}(S:τ->St)(m:τ->Nat)(x0:τ)(h0:∃ρ,Wk σ (S x0) ρ)
  (h:∀x,AWP P c (S x) λe σ'=>match e with|.normal=>∃y,m y<m x/\WkR σ' (S y)|e=>Q e σ'):aTp P c σ Q d:=aHb S m x0 (.inr h0) h
def LuP(P:Program)(c:Code)(n:Nat)(σ:St)(Q:Exit->St->Prop)(_:Dm (c,Q)):Prop:=LU P c n σ Q
def cN(c:Code)(n:Nat)(σ:St)(Q:Exit->St->Prop)(d:Dm (c,Q)):LuP P c (n+1) σ Q d=AWP P c σ λe σ'=>match e with|.normal=>LuP P c n σ' Q .mk|e=>Q e σ':=rfl
def aFn(n:Nat){c:Code}{σ:St}{Q:Exit->St->Prop}{d:Dm (c,Q)}(h:LuP P c n σ Q .mk):aTp P c σ Q d:=bSf h
def Nxt{τ:Type}(I:τ->Prop)(m:τ->Nat)(S:τ->St)(x:τ)(σ':St)(_:Dm (I,m,S,x)):Prop:=∃y,I y/\m y<m x/\WkR σ' (S y)
def aI{τ:Type}{I:τ->Prop}{m:τ->Nat}{S:τ->St}{x:τ}{σ':St}{d:Dm (I,m,S,x)}(y:τ)(h1:I y)(h2:m y<m x)(h3:∃ρ,Wk σ' (S y) ρ):Nxt I m S x σ' d:=⟨y,h1,h2,.inr h3⟩
def aP{τ:Type}{c:Code}{σ:St}{Q:Exit->St->Prop}{d:Dm (c,Q)}(I:τ->Prop)(S:τ->St)(m:τ->Nat)(x0:τ)(hI:I x0)(h0:∃ρ,Wk σ (S x0) ρ)
  (h:∀x,I x->AWP P c (S x) λe σ'=>match e with|.normal=>Nxt I m S x σ' .mk|e=>Q e σ'):aTp P c σ Q d:=by
 refine tW (τ:={ x:τ // I x }) (λx=>S x.1) (λx=>m x.1) ⟨x0,hI⟩ h0 λx=>?_
 refine cast (congrArg (AWP P c (S x.1)) ?_) (h x.1 x.2)
 funext e σ'
 cases e with
 |normal=>exact propext ⟨λ⟨y,h1,h2,h3⟩=>⟨⟨y,h1⟩,h2,h3⟩,λ⟨y,h2,h3⟩=>⟨y.1,y.2,h2,h3⟩⟩
 |_=>rfl
def ExP(Q:Exit->St->Prop)(e:Exit)(σ:St)(_:Dm Q):Prop:=∃σ2,WkR σ σ2/\Q e σ2
def bYt{Q:Exit->St->Prop}{e:Exit}{σ:St}{d:Dm Q}(σ2:St)(hw:∃ρ,Wk σ σ2 ρ)(h:Q e σ2):ExP Q e σ d:=⟨σ2,.inr hw,h⟩
def aVi{τ:Type}{c:Code}{σ:St}{Q:Exit->St->Prop}{d:Dm (c,Q)}(I:τ->Prop)(S:τ->St)(m:τ->Nat)(x0:τ)(hI:I x0)(h0:∃ρ,Wk σ (S x0) ρ)
  (h:∀x,I x->AWP P c (S x) λe σ'=>match e with|.normal=>Nxt I m S x σ' .mk|e=>ExP Q e σ' .mk):aTp P c σ Q d:=by
 refine(⟨{ x:τ // I x },λx=>S x.1,λx=>m x.1,⟨x0,hI⟩,.inr h0,λx=>?_⟩:AWP P (.loop c) σ Q)
 refine aHm c (λe σ' h=>?_) (h x.1 x.2)
 cases e with
 |normal=>obtain⟨y,h1,h2,h3⟩:=h;exact⟨⟨y,h1⟩,h2,h3⟩
 |_=>exact h
def dF{o:Oper}{σ:St}{con:List Nat}{k:St->List Nat->Prop}{d:Dm (o,k)} (h:O1 P o σ con k=(kind P o.op=0/\match nev P o.op σ.J σ.n with
  |some (av,nb)=>k ⟨bS σ.J o.dst av,jE σ.H σ.n nb,cnt nb σ.n⟩ con
  |none=>False)) (hk:kind P o.op=0):O1d P o σ con k d=eG (nev P o.op σ.J σ.n) (λp=>k ⟨bS σ.J o.dst p.1,jE σ.H σ.n p.2,cnt p.2 σ.n⟩ con) .mk:=by
 rw[O1d,h]
 simp only[hk,true_and]
 cases nev P o.op σ.J σ.n with
 |none=>rfl
 |some p=>obtain⟨a,b⟩:=p;rfl
section
variable (dst:Option Tmp) (ty:TypeId) (pos:String) (after:Array Edge) (guard:Option (Nat×Bool)) (σ:St) (con:List Nat) (k:St->List Nat->Prop)
def aYr(x:Operand)(d:Dm ((⟨dst,.move x,ty,pos,after,guard⟩:Oper),k)):O1d P ⟨dst,.move x,ty,pos,after,guard⟩ σ con k d=eG (nev P (.move x) σ.J σ.n) (λp=>k ⟨bS σ.J dst p.1,jE σ.H σ.n p.2,cnt p.2 σ.n⟩ con) .mk:=dF rfl rfl
def aBy(x:Operand)(d:Dm ((⟨dst,.nilCheck x,ty,pos,after,guard⟩:Oper),k)):O1d P ⟨dst,.nilCheck x,ty,pos,after,guard⟩ σ con k d=eG (nev P (.nilCheck x) σ.J σ.n) (λp=>k ⟨bS σ.J dst p.1,jE σ.H σ.n p.2,cnt p.2 σ.n⟩ con) .mk:=dF rfl rfl
def aJk(x:Operand)(d:Dm ((⟨dst,.assign x,ty,pos,after,guard⟩:Oper),k)):O1d P ⟨dst,.assign x,ty,pos,after,guard⟩ σ con k d=eG (nev P (.assign x) σ.J σ.n) (λp=>k ⟨bS σ.J dst p.1,jE σ.H σ.n p.2,cnt p.2 σ.n⟩ con) .mk:=dF rfl rfl
def aYq(a b c:Operand)(d:Dm ((⟨dst,.pick a b c,ty,pos,after,guard⟩:Oper),k)):O1d P ⟨dst,.pick a b c,ty,pos,after,guard⟩ σ con k d=eG (nev P (.pick a b c) σ.J σ.n) (λp=>k ⟨bS σ.J dst p.1,jE σ.H σ.n p.2,cnt p.2 σ.n⟩ con) .mk:=dF rfl rfl
def aQz(e:TypeId)(d:Dm ((⟨dst,.alloc e,ty,pos,after,guard⟩:Oper),k)):O1d P ⟨dst,.alloc e,ty,pos,after,guard⟩ σ con k d=eG (nev P (.alloc e) σ.J σ.n) (λp=>k ⟨bS σ.J dst p.1,jE σ.H σ.n p.2,cnt p.2 σ.n⟩ con) .mk:=dF rfl rfl
def bIo(e:TypeId)(x:Operand)(d:Dm ((⟨dst,.box e x,ty,pos,after,guard⟩:Oper),k)):O1d P ⟨dst,.box e x,ty,pos,after,guard⟩ σ con k d=eG (nev P (.box e x) σ.J σ.n) (λp=>k ⟨bS σ.J dst p.1,jE σ.H σ.n p.2,cnt p.2 σ.n⟩ con) .mk:=dF rfl rfl
def aQx(e:TypeId)(x:Array (Nat×Operand))(d:Dm ((⟨dst,.build e x,ty,pos,after,guard⟩:Oper),k)):O1d P ⟨dst,.build e x,ty,pos,after,guard⟩ σ con k d=eG (nev P (.build e x) σ.J σ.n) (λp=>k ⟨bS σ.J dst p.1,jE σ.H σ.n p.2,cnt p.2 σ.n⟩ con) .mk:=dF rfl rfl
def wX(e:TypeId)(n:Nat)(x:Array (Nat×Operand))(d:Dm ((⟨dst,.buildSlice e n x,ty,pos,after,guard⟩:Oper),k)):O1d P ⟨dst,.buildSlice e n x,ty,pos,after,guard⟩ σ con k d=eG (nev P (.buildSlice e n x) σ.J σ.n) (λp=>k ⟨bS σ.J dst p.1,jE σ.H σ.n p.2,cnt p.2 σ.n⟩ con) .mk:=dF rfl rfl
def yQ(e:TypeId)(x y:Operand)(d:Dm ((⟨dst,.makeSlice e x y,ty,pos,after,guard⟩:Oper),k)):O1d P ⟨dst,.makeSlice e x y,ty,pos,after,guard⟩ σ con k d=eG (nev P (.makeSlice e x y) σ.J σ.n) (λp=>k ⟨bS σ.J dst p.1,jE σ.H σ.n p.2,cnt p.2 σ.n⟩ con) .mk:=dF rfl rfl
def aFa(e:TypeId)(x:Option Operand)(d:Dm ((⟨dst,.makeMap e x,ty,pos,after,guard⟩:Oper),k)):O1d P ⟨dst,.makeMap e x,ty,pos,after,guard⟩ σ con k d=eG (nev P (.makeMap e x) σ.J σ.n) (λp=>k ⟨bS σ.J dst p.1,jE σ.H σ.n p.2,cnt p.2 σ.n⟩ con) .mk:=dF rfl rfl
def aQy(b:BinOp)(t:TypeId)(x y:Operand)(u:TypeId)(d:Dm ((⟨dst,.binOp b t x y u,ty,pos,after,guard⟩:Oper),k)):O1d P ⟨dst,.binOp b t x y u,ty,pos,after,guard⟩ σ con k d=eG (nev P (.binOp b t x y u) σ.J σ.n) (λp=>k ⟨bS σ.J dst p.1,jE σ.H σ.n p.2,cnt p.2 σ.n⟩ con) .mk:=dF rfl rfl
def aYp(b:UnOp)(t:TypeId)(x:Operand)(d:Dm ((⟨dst,.unOp b t x,ty,pos,after,guard⟩:Oper),k)):O1d P ⟨dst,.unOp b t x,ty,pos,after,guard⟩ σ con k d=eG (nev P (.unOp b t x) σ.J σ.n) (λp=>k ⟨bS σ.J dst p.1,jE σ.H σ.n p.2,cnt p.2 σ.n⟩ con) .mk:=dF rfl rfl
def aFc(s t:TypeId)(x:Operand)(d:Dm ((⟨dst,.convert s t x,ty,pos,after,guard⟩:Oper),k)):O1d P ⟨dst,.convert s t x,ty,pos,after,guard⟩ σ con k d=eG (nev P (.convert s t x) σ.J σ.n) (λp=>k ⟨bS σ.J dst p.1,jE σ.H σ.n p.2,cnt p.2 σ.n⟩ con) .mk:=dF rfl rfl
def yS(s:TypeId)(x:Operand)(f:Nat)(d:Dm ((⟨dst,.fieldAddr s x f,ty,pos,after,guard⟩:Oper),k)):O1d P ⟨dst,.fieldAddr s x f,ty,pos,after,guard⟩ σ con k d=eG (nev P (.fieldAddr s x f) σ.J σ.n) (λp=>k ⟨bS σ.J dst p.1,jE σ.H σ.n p.2,cnt p.2 σ.n⟩ con) .mk:=dF rfl rfl
def aQu(s:TypeId)(x:Operand)(f:Nat)(d:Dm ((⟨dst,.field s x f,ty,pos,after,guard⟩:Oper),k)):O1d P ⟨dst,.field s x f,ty,pos,after,guard⟩ σ con k d=eG (nev P (.field s x f) σ.J σ.n) (λp=>k ⟨bS σ.J dst p.1,jE σ.H σ.n p.2,cnt p.2 σ.n⟩ con) .mk:=dF rfl rfl
def yR(s:TypeId)(x y:Operand)(d:Dm ((⟨dst,.indexAddr s x y,ty,pos,after,guard⟩:Oper),k)):O1d P ⟨dst,.indexAddr s x y,ty,pos,after,guard⟩ σ con k d=eG (nev P (.indexAddr s x y) σ.J σ.n) (λp=>k ⟨bS σ.J dst p.1,jE σ.H σ.n p.2,cnt p.2 σ.n⟩ con) .mk:=dF rfl rfl
def aFb(x:Operand)(i:Nat)(d:Dm ((⟨dst,.extract x i,ty,pos,after,guard⟩:Oper),k)):O1d P ⟨dst,.extract x i,ty,pos,after,guard⟩ σ con k d=eG (nev P (.extract x i) σ.J σ.n) (λp=>k ⟨bS σ.J dst p.1,jE σ.H σ.n p.2,cnt p.2 σ.n⟩ con) .mk:=dF rfl rfl
def aQt(t:TypeId)(x:Operand)(a b c:Option Operand)(d:Dm ((⟨dst,.slice t x a b c,ty,pos,after,guard⟩:Oper),k)):O1d P ⟨dst,.slice t x a b c,ty,pos,after,guard⟩ σ con k d=eG (nev P (.slice t x a b c) σ.J σ.n) (λp=>k ⟨bS σ.J dst p.1,jE σ.H σ.n p.2,cnt p.2 σ.n⟩ con) .mk:=dF rfl rfl
def bIn(args:Array Operand)(ts:Array TypeId)(hm:aVk P ts=false)(d:Dm ((⟨dst,.call ⟨.builtin .len,args,ts⟩,ty,pos,after,guard⟩:Oper),k)):O1d P ⟨dst,.call ⟨.builtin .len,args,ts⟩,ty,pos,after,guard⟩ σ con k d=eG (nev P (.call ⟨.builtin .len,args,ts⟩) σ.J σ.n) (λp=>k ⟨bS σ.J dst p.1,jE σ.H σ.n p.2,cnt p.2 σ.n⟩ con) .mk:=by refine dF ?_ (by simp[kind,hm]);simp only[O1,hm,A1,BY];rfl
def aYt(m:Operand)(ts:Array TypeId)(hm:aVk P ts=true)(d:Dm ((⟨dst,.call ⟨.builtin .len,#[m],ts⟩,ty,pos,after,guard⟩:Oper),k)):O1d P ⟨dst,.call ⟨.builtin .len,#[m],ts⟩,ty,pos,after,guard⟩ σ con k d=eG (aJp σ.H (oev σ.J m)) (λn=>k ⟨bS σ.J dst (.d (.i .i64 n)),σ.H,σ.n⟩ con) .mk:=by unfold O1d;simp only[O1,hm,B5];cases aJp σ.H (oev σ.J m)<;>rfl
def bJc(H:Hp)(id:Nat):aJp H (.mp id)=match H id with
  |some (.map _ es)=>some es.length
  |_=>none:=rfl
def bIm(args:Array Operand)(ts:Array TypeId)(d:Dm ((⟨dst,.call ⟨.builtin .max,args,ts⟩,ty,pos,after,guard⟩:Oper),k)):O1d P ⟨dst,.call ⟨.builtin .max,args,ts⟩,ty,pos,after,guard⟩ σ con k d=eG (nev P (.call ⟨.builtin .max,args,ts⟩) σ.J σ.n) (λp=>k ⟨bS σ.J dst p.1,jE σ.H σ.n p.2,cnt p.2 σ.n⟩ con) .mk:=dF rfl rfl
def bIl(args:Array Operand)(ts:Array TypeId)(d:Dm ((⟨dst,.call ⟨.builtin .min,args,ts⟩,ty,pos,after,guard⟩:Oper),k)):O1d P ⟨dst,.call ⟨.builtin .min,args,ts⟩,ty,pos,after,guard⟩ σ con k d=eG (nev P (.call ⟨.builtin .min,args,ts⟩) σ.J σ.n) (λp=>k ⟨bS σ.J dst p.1,jE σ.H σ.n p.2,cnt p.2 σ.n⟩ con) .mk:=dF rfl rfl
def aYs(t:TypeId)(x:Operand)(d:Dm ((⟨dst,.load t x,ty,pos,after,guard⟩:Oper),k)):O1d P ⟨dst,.load t x,ty,pos,after,guard⟩ σ con k d=eG (zB P σ.H t (oev σ.J x)) (λv=>k ⟨bS σ.J dst v,σ.H,σ.n⟩ con) .mk:=by unfold O1d;simp only[O1,eG];split<;>simp_all
def aJg(t:TypeId)(m x:Operand)(ok:Bool)(d:Dm ((⟨dst,.lookup t m x ok,ty,pos,after,guard⟩:Oper),k)):O1d P ⟨dst,.lookup t m x ok,ty,pos,after,guard⟩ σ con k d=eG (pG P σ.H t (oev σ.J m) (oev σ.J x) ok) (λv=>k ⟨bS σ.J dst v,σ.H,σ.n⟩ con) .mk:=by unfold O1d;simp only[O1,eG];split<;>simp_all
def aQv(x:Operand)(d:Dm ((⟨dst,.entry x,ty,pos,after,guard⟩:Oper),k)):O1d P ⟨dst,.entry x,ty,pos,after,guard⟩ σ con k d=eG (bLs σ.H (oev σ.J x)) (λv=>k ⟨bS σ.J dst v,σ.H,σ.n⟩ con) .mk:=by unfold O1d;simp only[O1,eG];split<;>simp_all
def bOj(x:Option (Nat×IntKind×List (Int×D)))(k0:Prop)(k1:Nat->IntKind->List (Int×D)->Int×D->Prop)(_:Dm (k0,k1)):Prop:=match x with
 |some (id,kd,es)=>(es=[]->k0)/\∀(j:Nat) e,es[j]? = some e->k1 id kd (es.eraseIdx j) e
 |none=>False
def aRe{id:Nat}{kd:IntKind}{es:List (Int×D)}{k0:Prop}{k1:Nat->IntKind->List (Int×D)->Int×D->Prop}{d:Dm (k0,k1)}(h0:es=[]->k0)(h1:∀(j:Nat) e,es[j]? = some e->k1 id kd (es.eraseIdx j) e):bOj (some (id,kd,es)) k0 k1 d:=⟨h0,h1⟩
def bRf(x:Operand)(d:Dm ((⟨dst,.next x false,ty,pos,after,guard⟩:Oper),k)):O1d P ⟨dst,.next x false,ty,pos,after,guard⟩ σ con k d=bOj (itA σ.H (oev σ.J x)) (k ⟨bS σ.J dst (.tp [.d (.b false)]),σ.H,σ.n⟩ con)
  (λid kd es e=>k ⟨bS σ.J dst (.tp [.d (.b true),.any,.any]),upd σ.H id (some (.iter kd (some e) es)),σ.n⟩ con) .mk:=by
 unfold O1d bOj;simp only[O1,true_and];cases itA σ.H (oev σ.J x)<;>rfl
def bIk(t:TypeId)(x:Operand)(d:Dm ((⟨dst,.range t x,ty,pos,after,guard⟩:Oper),k)):O1d P ⟨dst,.range t x,ty,pos,after,guard⟩ σ con k d=eG (nev P (.range t x) σ.J σ.n) (λp=>k ⟨bS σ.J dst p.1,jE σ.H σ.n p.2,cnt p.2 σ.n⟩ con) .mk:=dF rfl rfl
def aQs(t:TypeId)(ad x:Operand)(d:Dm ((⟨dst,.store t ad x,ty,pos,after,guard⟩:Oper),k)):O1d P ⟨dst,.store t ad x,ty,pos,after,guard⟩ σ con k d=eG (qK P σ.H t (oev σ.J ad) (oev σ.J x)) (λp=>k ⟨bS σ.J dst .un,upd σ.H p.1 (some p.2),σ.n⟩ con) .mk:=by unfold O1d;simp only[O1,eG];split<;>simp_all
def yP(t:TypeId)(m x v:Operand)(d:Dm ((⟨dst,.mapUpdate t m x v,ty,pos,after,guard⟩:Oper),k)):O1d P ⟨dst,.mapUpdate t m x v,ty,pos,after,guard⟩ σ con k d=eG (tG P σ.H t (oev σ.J m) (oev σ.J x) (some (oev σ.J v))) (λp=>k ⟨bS σ.J dst .any,upd σ.H p.1 (some p.2),σ.n⟩ con) .mk:=by unfold O1d;simp only[O1,eG];split<;>simp_all
def aJi(t:TypeId)(m x v:Operand)(d:Dm ((⟨dst,.insert t m x v,ty,pos,after,guard⟩:Oper),k)):O1d P ⟨dst,.insert t m x v,ty,pos,after,guard⟩ σ con k d=eG (tG P σ.H t (oev σ.J m) (oev σ.J x) (some (oev σ.J v))) (λp=>k ⟨bS σ.J dst .any,upd σ.H p.1 (some p.2),σ.n⟩ con) .mk:=by unfold O1d;simp only[O1,eG];split<;>simp_all
def aJj(m x:Operand)(t u:TypeId)(d:Dm ((⟨dst,.call ⟨.builtin .delete,#[m,x],#[t,u]⟩,ty,pos,after,guard⟩:Oper),k)):O1d P ⟨dst,.call ⟨.builtin .delete,#[m,x],#[t,u]⟩,ty,pos,after,guard⟩ σ con k d=eG (tG P σ.H t (oev σ.J m) (oev σ.J x) none) (λp=>k ⟨bS σ.J dst .any,upd σ.H p.1 (some p.2),σ.n⟩ con) .mk:=by unfold O1d;simp only[O1,eG];split<;>simp_all
def aJl(s x:Operand)(t:TypeId)(d:Dm ((⟨dst,.call ⟨.builtin .append,#[s,x],#[t,t]⟩,ty,pos,after,guard⟩:Oper),k)):O1d P ⟨dst,.call ⟨.builtin .append,#[s,x],#[t,t]⟩,ty,pos,after,guard⟩ σ con k d=eG (aCo P σ.H t (oev σ.J s) (oev σ.J x) σ.n) (λp=>k ⟨bS σ.J dst p.1,jE (kill p.2.2 σ.H) σ.n p.2.1,cnt p.2.1 σ.n⟩ (p.2.2++con)) .mk:=by
 unfold O1d;simp only[O1,eG];simp only[true_and];cases aCo P σ.H t (oev σ.J s) (oev σ.J x) σ.n with
 |none=>rfl
 |some p=>obtain⟨a,b,c⟩:=p;rfl
end
def bAr(P:Program)(f:FuncId)(avs:List AV)(H:Hp)(k:D->Prop)(_:Dm k):Prop:=∃ds r,fW H avs=some ds/\Spec P f ds r/\k r
def bK{f:FuncId}{avs:List AV}{H:Hp}{k:D->Prop}{d:Dm k}{ds:List D}{r:D}(h1:fW H avs=some ds)(h2:Spec P f ds r)(h3:k r):bAr P f avs H k d:=⟨ds,r,h1,h2,h3⟩
def exE{α:Type}{p:Prop}(a:α)(h:∀x,a=x->p):p:=h a rfl
def slQ{i n:Nat}(h:i<n):n-(i+1)<n-i:=Nat.sub_lt_sub_left h (AK _)
def aJ{f:FuncId}{avs:List AV}{H:Hp}{k:D->Prop}{d:Dm k}{ds:List D}{r:D}(h2:Spec P f ds r)(h3:k r)(h1:fW H avs=some ds:=by rfl):bAr P f avs H k d:=⟨ds,r,h1,h2,h3⟩
def bWh(P:Program)(f:FuncId)(x:Option (Nat×AV))(rest:List AV)(H:Hp)(k:Nat->HO->D->Prop)(_:Dm k):Prop :=
 ∃id h ho,x=some (id,h)/\H id=some ho/\oC ho=true/\fK H rest=[]/\∃ds ho' r,fW H rest=some ds/\tE P f h ho ds ho' r/\ho'.len=ho.len/\oC ho'=true/\k id ho' r
def aCe{f:FuncId}{rest:List AV}{H:Hp}{k:Nat->HO->D->Prop}{d:Dm k}{id:Nat}{h:AV}{ho ho':HO}{ds:List D}{r:D}(h1:H id=some ho)(h2:oC ho=true)(h3:fK H rest=[])
  (h4:fW H rest=some ds) (h5:tE P f h ho ds ho' r) (h6:ho'.len=ho.len) (h7:oC ho'=true) (h8:k id ho' r):bWh P f (some (id,h)) rest H k d:=⟨id,h,ho,rfl,h1,h2,h3,ds,ho',r,h4,h5,h6,h7,h8⟩
def cBq:List AV->Bool
 |[.kf _ _]=>true
 |_=>false
def aYu(dst:Option Tmp)(ty:TypeId)(pos:String)(after:Array Edge)(guard:Option (Nat×Bool))(σ:St)(con:List Nat)(k:St->List Nat->Prop)(f:FuncId)(args:List Operand)(ts:Array TypeId)
  (d:Dm ((⟨dst,.call ⟨.value (.func f),args.toArray,ts⟩,ty,pos,after,guard⟩:Oper),k)) (hm:bB P f=false) (hn:bC P f=false) (hk:cBq (args.map (oev σ.J))=false):O1d P ⟨dst,.call ⟨.value (.func f),args.toArray,ts⟩,ty,pos,after,guard⟩ σ con k d =
  bAr P f (args.map (oev σ.J)) σ.H (λr=>k ⟨bS σ.J dst (inj r),kill (bR σ.H (args.map (oev σ.J)) r) σ.H,σ.n⟩ (bR σ.H (args.map (oev σ.J)) r++con)) .mk:=by
 show OC P f args.toArray dst σ con k=_
 unfold OC bAr
 simp only[hm,hn,A1,BY,false_and,false_or]
 split
 ·rename_i hx;rw[show args.map (oev σ.J)=_ from hx]at hk;cases hk
 ·rfl
def aQw{dst:Option Tmp}{ty:TypeId}{pos:String}{after:Array Edge}{guard:Option (Nat×Bool)}{σ:St}{con:List Nat}{k:St->List Nat->Prop}{f:FuncId}{x:Operand}{rest:List Operand}{ts:Array TypeId}
  {d:Dm ((⟨dst,.call ⟨.value (.func f),(x::rest).toArray,ts⟩,ty,pos,after,guard⟩:Oper),k)} (hm:bB P f=true)
  (h:bWh P f (hd1 (oev σ.J x)) (rest.map (oev σ.J)) σ.H (λid ho' r=>k ⟨bS σ.J dst (inj r),upd σ.H id (some ho'),σ.n⟩ con) .mk):O1d P ⟨dst,.call ⟨.value (.func f),(x::rest).toArray,ts⟩,ty,pos,after,guard⟩ σ con k d:=by
 obtain⟨id,hh,ho,h1,h2,h3,h4,h5⟩:=h
 show OC P f (x::rest).toArray dst σ con k
 unfold OC
 simp only[hm,B5,h1,h2]
 exact .inr (.inl ⟨h3,h4,h5⟩)
def iO{dst:Option Tmp}{ty:TypeId}{pos:String}{after:Array Edge}{guard:Option (Nat×Bool)}{σ:St}{con:List Nat}{k:St->List Nat->Prop}{f:FuncId}{args:List Operand}{ts:Array TypeId}
  {d:Dm ((⟨dst,.call ⟨.value (.func f),args.toArray,ts⟩,ty,pos,after,guard⟩:Oper),k)} (ds:List D) (v:Nat->AV) (hs:Nat->List HO) (hm:bB P f=false) (hn:bC P f=true) (hpos:0<σ.n) (hfr:fW σ.H (args.map (oev σ.J))=some ds)
  (hvis:fK σ.H (args.map (oev σ.J))=[]) (hsp:pT P f ds v hs) (hk:k ⟨bS σ.J dst (v σ.n),gJ σ.H σ.n (hs σ.n),σ.n+(hs σ.n).length⟩ con) :
  O1d P ⟨dst,.call ⟨.value (.func f),args.toArray,ts⟩,ty,pos,after,guard⟩ σ con k d:=by
 show OC P f args.toArray dst σ con k
 unfold OC
 simp only[hm,A1,BY]
 exact .inl ⟨hn,hpos,v,hs,.inl ⟨ds,hfr,hvis,hsp⟩,hk⟩
def aJf{dst:Option Tmp}{ty:TypeId}{pos:String}{after:Array Edge}{guard:Option (Nat×Bool)}{σ:St}{con:List Nat}{k:St->List Nat->Prop}{f:FuncId}{args:List Operand}{ts:Array TypeId}
  {d:Dm ((⟨dst,.call ⟨.value (.func f),args.toArray,ts⟩,ty,pos,after,guard⟩:Oper),k)} (v:Nat->AV) (hs:Nat->List HO) (hm:bB P f=false) (hn:bC P f=true) (hpos:0<σ.n) (hno:(args.map (oev σ.J)).all aFe=true)
  (hsp:aHk P f (args.map (oev σ.J)) v hs) (hk:k ⟨bS σ.J dst (v σ.n),gJ σ.H σ.n (hs σ.n),σ.n+(hs σ.n).length⟩ con) :
  O1d P ⟨dst,.call ⟨.value (.func f),args.toArray,ts⟩,ty,pos,after,guard⟩ σ con k d:=by
 show OC P f args.toArray dst σ con k
 unfold OC
 simp only[hm,A1,BY]
 exact .inl ⟨hn,hpos,v,hs,.inr ⟨hno,hsp⟩,hk⟩
def aQr{dst:Option Tmp}{ty:TypeId}{pos:String}{after:Array Edge}{guard:Option (Nat×Bool)}{σ:St}{con:List Nat}{k:St->List Nat->Prop}{f:FuncId}{x:Operand}{rest:List Operand}{ts:Array TypeId}
  {d:Dm ((⟨dst,.call ⟨.value (.func f),(x::rest).toArray,ts⟩,ty,pos,after,guard⟩:Oper),k)} {id:Nat} {h:AV} {ho:HO} {ds:List D} {r:D} {l:List Nat} (hm:bB P f=true) (hx:hd1 (oev σ.J x)=some (id,h)) (hH:σ.H id=some ho) (hno:oC ho=true)
  (hvis:fK σ.H (rest.map (oev σ.J))=l) (hnl:id ∉ l) (hfr:fW σ.H (rest.map (oev σ.J))=some ds) (hsp:aCi P f h (some ho) ds r) (hk:k ⟨bS σ.J dst (inj r),kill (id::l) σ.H,σ.n⟩ (id::l++con)) :
  O1d P ⟨dst,.call ⟨.value (.func f),(x::rest).toArray,ts⟩,ty,pos,after,guard⟩ σ con k d:=by
 subst hvis
 show OC P f (x::rest).toArray dst σ con k
 unfold OC
 simp only[hm,B5,hx,hH]
 exact .inr (.inr (.inr ⟨hno,hnl,ds,r,hfr,hsp,hk⟩))
def bCj{dst:Option Tmp}{ty:TypeId}{pos:String}{after:Array Edge}{guard:Option (Nat×Bool)}{σ:St}{con:List Nat}{k:St->List Nat->Prop}{f:FuncId}{x:Operand}{rest:List Operand}{ts:Array TypeId}
  {d:Dm ((⟨dst,.call ⟨.value (.func f),(x::rest).toArray,ts⟩,ty,pos,after,guard⟩:Oper),k)} {h:AV} {ds:List D} {r:D} {l:List Nat} (hm:bB P f=true) (hx:oev σ.J x=h) (hx1:hd1 h=none) (hno:aFe h=true)
  (hvis:fK σ.H (rest.map (oev σ.J))=l) (hfr:fW σ.H (rest.map (oev σ.J))=some ds) (hsp:aCi P f h none ds r) (hk:k ⟨bS σ.J dst (inj r),kill l σ.H,σ.n⟩ (l++con)) :
  O1d P ⟨dst,.call ⟨.value (.func f),(x::rest).toArray,ts⟩,ty,pos,after,guard⟩ σ con k d:=by
 subst hvis
 subst hx
 show OC P f (x::rest).toArray dst σ con k
 unfold OC
 simp only[hm,B5,hx1]
 exact⟨hno,ds,r,hfr,hsp,hk⟩
def bIi{dst:Option Tmp}{ty:TypeId}{pos:String}{after:Array Edge}{guard:Option (Nat×Bool)}{σ:St}{con:List Nat}{k:St->List Nat->Prop}{f:FuncId}{x:Operand}{rest:List Operand}{ts:Array TypeId}
  {d:Dm ((⟨dst,.call ⟨.value (.func f),(x::rest).toArray,ts⟩,ty,pos,after,guard⟩:Oper),k)} (ν:Nat->Nat) (h:AV) (ro:HO) (hs:List HO) (ds:List D) (ro':HO) (hs':List HO) (r:D) (hm:bB P f=true) (hpos:0<σ.n) (hx:oev σ.J x=wI ν h) (hid:mC 0 h=true) (hlf:lf0 (hs.length+1) h=true)
  (hν:∀i j,i<hs.length+1->j<hs.length+1->ν i=ν j->i=j) (hH:∀i ob,(ro::hs)[i]? = some ob->lfO (hs.length+1) ob=true/\σ.H (ν i)=some (lS ν ob)) (hment:∀i,0<i->i<hs.length+1->∃j ob,j<i/\(ro::hs)[j]? = some ob/\aHw i ob=true)
  (hvis:fK σ.H (rest.map (oev σ.J))=[]) (hfr:fW σ.H (rest.map (oev σ.J))=some ds) (hsp:aAb P f h ro hs ds ro' hs' r)
  (hk:k ⟨bS σ.J dst (inj r),tcH σ.H σ.n (ν 0) (nuL ν hs.length) ro' hs',σ.n+hs'.length⟩ (nuL ν hs.length++con)):O1d P ⟨dst,.call ⟨.value (.func f),(x::rest).toArray,ts⟩,ty,pos,after,guard⟩ σ con k d:=by
 show OC P f (x::rest).toArray dst σ con k
 unfold OC
 have h0:=(hH 0 ro rfl).2
 have hd:∃h2,hd1 (oev σ.J x)=some (ν 0,h2):=by rw[hx];cases h<;>first|(cases hid;done)|(simp only[mC,beq_iff_eq]at hid;subst hid;exact⟨_,rfl⟩)
 obtain⟨h2,hd⟩:=hd
 simp only[hm,B5,hd,h0]
 exact .inr (.inr (.inl ⟨hpos,ν,h,ro,hs,ds,ro',hs',r,hx,hid,hlf,hν,hH,hment,hvis,hfr,hsp,hk⟩))
def qF(ops:Array Oper)(σ:St)(con:List Nat)(k:St->List Nat->Prop)(d:Dm (ops,([]:List Oper),k)):OWd P ops [] σ con k d=k σ con:=rfl
def aQj(ops:Array Oper)(dst:Option Tmp)(op:Op)(ty:TypeId)(pos:String)(after:Array Edge)(l:List Oper)(σ:St)(con:List Nat)(k:St->List Nat->Prop)(d:Dm (ops,(⟨dst,op,ty,pos,after,none⟩::l:List Oper),k)) :
  OWd P ops (⟨dst,op,ty,pos,after,none⟩::l) σ con k d=O1d P ⟨dst,op,ty,pos,after,none⟩ σ con (λσ' con'=>OWd P ops l σ' con' k .mk) .mk:=rfl
def aQi(ops:Array Oper)(dst:Option Tmp)(op:Op)(ty:TypeId)(pos:String)(after:Array Edge)(g:Nat×Bool)(l:List Oper)(σ:St)(con:List Nat)(k:St->List Nat->Prop)(d:Dm (ops,(⟨dst,op,ty,pos,after,some g⟩::l:List Oper),k)) :
  OWd P ops (⟨dst,op,ty,pos,after,some g⟩::l) σ con k d=eG (eY ops ⟨dst,op,ty,pos,after,some g⟩ σ.J) (λt=>IfD t (O1d P ⟨dst,op,ty,pos,after,some g⟩ σ con (λσ' con'=>OWd P ops l σ' con' k .mk) .mk) (OWd P ops l ⟨bS σ.J dst .un,σ.H,σ.n⟩ con k .mk) .mk) .mk:=by
 show(match eY ops ⟨dst,op,ty,pos,after,some g⟩ σ.J with
 |some true=>O1 P ⟨dst,op,ty,pos,after,some g⟩ σ con λσ' con'=>OW P ops l σ' con' k
 |some false=>OW P ops l ⟨bS σ.J dst .un,σ.H,σ.n⟩ con k
 |none=>False)=_
 cases eY ops ⟨dst,op,ty,pos,after,some g⟩ σ.J with
 |none=>rfl
 |some t=>cases t<;>simp[eG,IfD,O1d,OWd]
def bYe(t:Bool)(x y:Bool):(if t=true then AV.d (.b x)else AV.d (.b y))=AV.d (.b (if t then x else y)):=by cases t<;>rfl
end Go.Am
end
section
open List renaming map_map->C,mapM_map->K
namespace Go.Am
open RowKit (Below)
variable {P:Program}
def lG{σ:St}{sl:List (Nat×AV)}{H':Hp}{n':Nat}(hslot:nB σ.H H' (λi=>i) σ.J sl)(hblk:∀id o',H' id=some o'->∃o,σ.H id=some o/\mY σ.H H' (λi=>i) o o')
  (htop:∀id,n'<=id->H' id=none) (hn:n'≠0):Wk σ ⟨jN sl,H',n'⟩ (λi=>i):=by
 refine⟨htop,λt=>?_,hblk,λ_ _ _ _ e=>e,λ_=>rfl,λh=>absurd h hn⟩
 show Sub _ _ _ _ (jN sl t)
 rcases yD sl t with h|⟨p,hp,rfl,h⟩
 ·rw[h];exact oJ _
 ·rw[h];exact qC hslot _ hp
def aTw{σ:St}{sl:List (Nat×AV)}{H':Hp}{n':Nat}(ρ:Nat->Nat)(hslot:nB σ.H H' ρ σ.J sl)(hblk:∀id o',H' id=some o'->∃o,σ.H (ρ id)=some o/\mY σ.H H' ρ o o')
  (hinj:∀id id',(H' id).isSome=true->(H' id').isSome=true->ρ id=ρ id'->id=id') (hpin:(H' 0).isSome=true->ρ 0=0) (htop:∀id,n'<=id->H' id=none) (hn:n'≠0):Wk σ ⟨jN sl,H',n'⟩ ρ:=by
 refine⟨htop,λt=>?_,hblk,hinj,hpin,λh=>absurd h hn⟩
 show Sub _ _ _ _ (jN sl t)
 rcases yD sl t with h|⟨p,hp,rfl,h⟩
 ·rw[h];exact oJ _
 ·rw[h];exact qC hslot _ hp
def bPp{G:Ctx}{fn:Func}{σ:St}{a:Act}{w:World}{ad:Tmp}{t:TypeId}{av:AV}{F:Nat->Prop}{ι:Nat->Option Nat}(hR:HR G F w ι bU σ.H)(hV:∀t,V F w ι (σ.J t) (a.tmps.getD t undef))(hres:fn.results.toList=[.cell ad t])(h:nO P σ (.cell ad t)=some av) :
  ∃v,(results fn a.tmps).run P w=.ok v w/\V F w ι av v:=by
 have hx:∃v,(do loadVar t (<-asAddr (a.tmps.getD ad undef)):Sem Value).run P w=.ok v w/\V F w ι av v:=by
  simp only[nO]at h;obtain⟨u,hu,hv⟩:=aDi (P:=P) hR (λ_ _ h=>h) h (hV ad);refine⟨u,?_,hv⟩;simp only[EM]at hu;generalize a.tmps.getD ad undef=p at hu ⊢;cases p with
  |pointer q=>cases q with
   |some q=>simpa[CF,asAddr]using hu
   |none=>simp[CF,stuck,Sem.run]at hu
  |_=>simp[CF,stuck,Sem.run]at hu
 obtain⟨v,h1,h2⟩:=hx
 refine⟨v,?_,h2⟩
 have h1':([ResultVar.cell ad t].mapM (m:=Sem) λ|.tmp t=>pure (a.tmps.getD t undef)|.cell ad t=>do loadVar t (<-asAddr (a.tmps.getD ad undef))).run P w=.ok [v] w:=by simp only[B6,Gk,A3,h1,AZ,Bx]
 simp only[results,DZ,A3,Sem.run_map,hres]
 erw [h1']
 simp
def gR(v:Nat->AV)(hs:Nat->List HO)(m:Nat):St:=⟨upd (λ_=>.any) 0 (v m),gJ (λ_=>none) m (hs m),m+(hs m).length⟩
end Go.Am
end
section
open List renaming map_map->C,mapM_map->K
namespace Go.Am
open RowKit (Below)
variable {P:Program}
def StT(h:AV)(o:HO)(hs:List HO)(args:List D)(N:Nat):St:=⟨λt=>match t with|0=>h|t+1=>Γ0 args N t,λid=>(o::hs)[id]?,hs.length+1⟩
def SRT{A:Nat->Prop}{W:World}{vs:Array Value}{args:List D}{h:AV}{o:HO}{hs:List HO}{ι:Nat->Option Nat}{N:Nat}(hA:∀b,A b->b<W.heap.size)(hdom:∀id,(∃b,ι id=some b)↔id<hs.length+1)(hlt:∀id b,ι id=some b->b<W.heap.size/\¬A b)
  (hinj:∀id id' b,ι id=some b->ι id'=some b->id=id') (hobj:∀i b ob,(o::hs)[i]? = some ob->ι i=some b->∃x,W.heap[b]? = some x/\CR A W ι ob x) (hl:args.length+1=vs.size) (h0:∃v,vs[0]? = some v/\V A W ι h v)
  (hv:∀(k:Nat) d v,args[k]? = some d->vs[k+1]? = some v->VD A W d v) (hN:args.length+1<=N) :
  SR ⟨W,A,λb=>∃id,ι id=some b,λb=>ι 0=some b,λ_=>none⟩ N [] (StT h o hs args N) { tmps:=vs++BG (N-vs.size) undef,defers:=[] } W:=by
 refine⟨λid h=>by simp only[StT]at h ⊢;exact AW (by simpa using h),λh=>by simp[StT]at h,A,ι,⟨.refl _ _ _,hA,λb h=>.inl h,λid b e=>⟨.inl ⟨id,e⟩,(hlt id b e).1,λ_=>(hlt id b e).2⟩,λid b ob e e'=>hobj id b ob e' e,λid id' b e e' _ _=>hinj id id' b e e',λid id' b o1 o2 e e' _ h1 h2=>?_⟩,
  λid=>?_,λt=>?_,⟨by simp;omega,λ_ _ h=>by cases h⟩,rfl,λb e=>e⟩
 ·have:=hinj id id' b e e'
  subst this
  rw[h1]at h2;injection h2 with h2;subst h2;exact Ap _
 ·rw[hdom]
  simp only[StT]
  constructor
  ·intro h;rw[Ab (by simpa using h)];rfl
  ·intro h
   rcases Bd id (hs.length+1)with h'|h'
   ·exact h'
   ·rw[AW (by simpa using h')]at h;cases h
 ·have hget:∀k,k<vs.size->(vs++BG (N-vs.size) undef).getD k undef=vs.getD k undef:=λk hk=>by simp only[Bi];rw[BH hk]
  have hget2:∀k,vs.size<=k->(vs++BG (N-vs.size) undef).getD k undef=undef:=λk hk=>by
   simp only[Bi];rw[EC hk];by_cases h2:k-vs.size<N-vs.size
   ·rw[Cr,Ae h2];rfl
   ·rw[Cr,Ac h2];rfl
  cases t with
  |zero =>
   obtain⟨v,hv0,hV0⟩:=h0
   show V A W ι h _
   rw[show(({ tmps:=vs++BG (N-vs.size) undef,defers:=[] }:Act).tmps.getD 0 undef)=v from by
    rw[hget 0 (by omega)];simp[Bi,hv0]]
   exact hV0
  |succ t =>
   show V A W ι (Γ0 args N t) _
   simp only[Γ0]
   by_cases ht:t<args.length
   ·have ht':t+1<vs.size:=by omega
    rw[Ab ht,hget _ ht',Bi,AD ht']
    exact uT (hv t _ _ (Ab ht) (AD ht'))
   ·rw[AW (by omega),hget2 _ (by omega)]
    simp only[ite_self]
    exact .un
def aAg {f N:Nat} {fn:Func} {c:Code} {h:AV} {o o':HO} {hs hs':List HO} {args:List D} (hm:P.follows .mixedOrders=true) (hf:P.funcs[f]? = some fn) (hb:fn.body=some c) (hname:(fn.name == "runtime.NumGoroutine")=false) (hN:fn.ntmps=N)
  (hres:fn.results.toList=[]) (hd:dK N c=true) (hl':eC P c=true) (ha:args.length+1<=N)
  (hA:AWP P c (StT h o hs args N) λe σ=>(e=.normal\/e=.ret)/\∃ρ,Wk σ (StL [] (some o') hs') ρ):aAb P f h o hs args o' hs' (.tp []):=by
 intro A W vs ι hAl hdom0 hlt0 hinj0 hobj0 hl hv0 hv
 have hn:¬ fn.name = "runtime.NumGoroutine" := by simpa using hname
 refine⟨λw=>by simp[callFunc,hf,hn,hb],?_⟩
 refine calls_of_wp hf hb ?_
 subst hN
 have hsr:=SRT (N:=fn.ntmps) hAl hdom0 hlt0 hinj0 hobj0 hl hv0 hv ha
 refine wp_mono (iC hm (λ_=>rfl) c _ _ _ _ hd hl' hA hsr) ?_
 rintro e a w ⟨σ,⟨he,ρ,hw⟩,hs1⟩
 have hs2:=hs1
 obtain⟨_,_,F0,ι0,hR0,_,hV0,_,hdf,_⟩:=hs1
 obtain⟨v,hrun,hvd⟩:=rU (r:=.tp []) (P:=P) hR0 hV0 (by rw[hres];rfl)
 obtain⟨_,_,F,ι',hR,hdom,_,_,_,hp⟩:=aDv hw hs2
 have hH:∀i ob,(o'::hs')[i]? = some ob->(StL [] (some o') hs').H i=some ob:=λi ob hi=>by
  cases i with
  |zero=>rw[aNp];simpa using hi
  |succ i=>rw[aBr];simpa using hi
 have hsome:∀id,((StL [] (some o') hs').H id).isSome=true↔id<hs'.length+1:=λid=>by
  cases id with
  |zero=>rw[aNp];simp
  |succ i=>rw[aBr];simp
 obtain⟨b0,hb0⟩:=(hdom 0).2 ((hsome 0).2 (by omega))
 have hb00:ι 0=some b0:=hp b0 hb0
 have hend:a.defers=[]/\∃v,(results fn a.tmps).run P w=.ok v w/\∃v' F' ι',DL v=.returned v'/\Kept (λb=>∃id,ι id=some b) W.heap.size W w /\
   (∀b,F' b->A b\/(∃id,0<id/\ι id=some b)\/(W.heap.size<=b/\b<w.heap.size))/\VD F' w (.tp []) v'/\(∀id,(∃b,ι' id=some b)↔id<hs'.length+1)/\ι' 0=ι 0 /\
   (∀id b,ι' id=some b->b<w.heap.size/\¬F' b/\((∃j,ι j=some b)\/W.heap.size<=b))/\(∀id id' b,ι' id=some b->ι' id'=some b->id=id') /\
   (∀i b ob,(o'::hs')[i]? = some ob->ι' i=some b->∃x,w.heap[b]? = some x/\CR F' w ι' ob x):=by
  refine⟨hdf,v,hrun,v,F,ι',rfl,hR.kept,λb hb=>?_,aMt (by rfl) hvd,λid=>by rw[hdom,hsome],by rw[hb0,hb00],λid b hb=>?_,λid id' b e1 e2=>hR.inj id id' b e1 e2 (λh=>h) (λh=>h),λi b ob hi hb=>hR.obj i b ob hb (hH i ob hi)⟩
  ·rcases hR.F_ok b hb with h|⟨id,h⟩|h
   ·exact .inl h
   ·rcases Nat.eq_zero_or_pos id with rfl|hpos
    ·rw[hb00]at h;injection h with h;subst h
     exact((hR.place 0 b0 hb0).2.2 (λh=>h) hb).elim
    ·exact .inr (.inl ⟨id,hpos,h⟩)
   ·exact .inr (.inr ⟨h,hR.F_lt b hb⟩)
  ·obtain⟨q1,q2,q3⟩:=hR.place id b hb
   exact⟨q2,q3 (λh=>h),q1⟩
 rcases he with rfl|rfl<;>exact hend
end Go.Am
end
section
open List renaming map_map->C,mapM_map->K
namespace Go.Am
variable {P:Program}
def sP:List Value->Bool
 |[]=>true
 |v::l=>v.oneCell'&&sP l
def aWy:sP []=true:=rfl
def aTh(v:Value)(l:List Value):sP (v::l)=(v.oneCell'&&sP l):=rfl
def aBp(a:Array Value):a.all CE=sP a.toList:=by
 rw[<-Array.all_toList];generalize a.toList=l;induction l with
 |nil=>rfl
 |cons v l ih=>simp only[List.all_cons,sP,ih]
section
variable (J:Nat->AV) (n:Nat)
def bRk(x:Operand):nev P (.move x) J n=some (oev J x,none):=rfl
def bCm(x:Operand):nev P (.assign x) J n=some (oev J x,none):=rfl
def bRj(c a b:Operand):nev P (.pick c a b) J n=eO ((zV (oev J c)).map λt=>if t then oev J a else oev J b):=rfl
def bIv(e:TypeId):nev P (.alloc e) J n=(tz P e).map λz=>(.ptr n 0,some (.cells e (z.cells.toList.map cv1))):=rfl
def bXw(e:TypeId)(x:Operand):nev P (.box e x) J n=(fN (oev J x)).map λcs=>(.ptr n 0,some (.cells e cs)):=rfl
def bIt(t : TypeId)(ps : List (Nat×Operand)) : nev P (.build t ps.toArray) J n = eO ((tz P t).bind λz => (plc P t).bind λpl => if sP z.cells.toList then
      (nU pl (z.cells.toList.map cv1) (ps.map λp=>(p.1,oev J p.2))).map .ag else none):=by
 simp only[nev,aBp]
def bQs(t:TypeId):plc P t=match gI P t with
 |some fl=>some (fl[·]?)
 |none=>(aAh P t).bind λp=>(tsz P p.2).map λsz=>λi=>some (i*sz,sz):=rfl
def aHu(t : TypeId)(len : Nat)(ps : List (Nat×Operand)) : nev P (.buildSlice t len ps.toArray) J n = (tel P t).bind λe => (tsz P e).bind λsz => (tz P e).bind λz =>
      if z.cells.toList.length=sz/\0<sz/\len*sz<=16777216/\sP z.cells.toList=true then
        (nU (λi=>some (i*sz,sz)) ((AB len (z.cells.toList.map cv1)).flatten) (ps.map λp=>(p.1,oev J p.2))).map λcs=>(.own n 0 len sz,some (.cells e cs))
      else none:=by
 simp only[nev,aBp,BQ]
def aMh(t : TypeId)(l c : Operand) : nev P (.makeSlice t l c) J n = (tel P t).bind λe => (tsz P e).bind λsz => (tz P e).bind λz => (tby P e).bind λby_ => (iZ (oev J l)).bind λa => (iZ (oev J c)).bind λb =>
      if z.cells.toList.length=sz/\0<sz/\sP z.cells.toList=true/\0<=a/\a<=b/\(by_:Int)*b<=281474976710656/\b<=9223372036854775807 then
        some (.own n 0 a.toNat sz,some (.cells e (AB a.toNat (z.cells.toList.map cv1)).flatten))
      else none:=by
 simp only[nev,aBp,BQ]
def bIu(op:BinOp)(t:TypeId)(x y:Operand)(u:TypeId):nev P (.binOp op t x y u) J n=eO (match aRd op (tel P t) (oev J x) (oev J y)with|some r=>some r|none=>match kI op (bX P t) (oev J x) (oev J y)with|some r=>some (.d r)|none=>(bNl op (tai P t) (oev J x) (oev J y)).map .d):=rfl
def aRa(x:Operand):nev P (.nilCheck x) J n=eO (bMm (oev J x)):=rfl
def bMl(id o:Nat):bMm (.ptr id o)=some (.ptr id o):=rfl
def bUl(cs:List D):bMm (.fp cs)=some (.fp cs):=rfl
def bRi(op:UnOp)(t:TypeId)(x:Operand):nev P (.unOp op t x) J n=eO ((unA op (oev J x)).map .d):=rfl
def aVc(s t:TypeId)(x:Operand):nev P (.convert s t x) J n=eO ((jJ P t).bind λk=>(iZ (oev J x)).bind λm=>if(P.underlying s).isSome then some (.d (.i k (k.wrap m)))else none):=rfl
def aMj(s:TypeId)(x:Operand)(f:Nat):nev P (.fieldAddr s x f) J n=eO ((gI P s).bind λfl=>(fl[f]?).bind λp=>if p.2=0 then none else aBg p.1 (oev J x)):=rfl
def aMi(t : TypeId)(x i : Operand) : nev P (.indexAddr t x i) J n = eO ((iZ (oev J i)).bind λk => match tel P t with
      |some e=>(tsz P e).bind λsz=>xN sz k (oev J x)
      |none=>(aAh P t).bind λp=>(tsz P p.2).bind λsz=>aBd sz p.1 k (oev J x)):=rfl
def aVb(x:Operand)(i:Nat):nev P (.extract x i) J n=eO ((bAy (oev J x)).bind λvs=>vs[i]?):=rfl
def bIq(t : TypeId)(x : Operand)(lo hi mx : Option Operand) : nev P (.slice t x lo hi mx) J n = eO ((tel P t).bind λe => (tsz P e).bind λsz => (aHy (oev J x)).bind λn => (aQl lo J 0).bind λl => (aQl hi J n).bind λh =>
      match mx with
      |none=>qM sz (oev J x) l h false
      |some y=>(iZ (oev J y)).bind λm=>if m=h/\hi.isSome then qM sz (oev J x) l h true else none):=rfl
def bXv(x:Operand)(t:TypeId):nev P (.call ⟨.builtin .len,#[x],#[t]⟩) J n=eO ((tel P t).bind λ_=>(aHy (oev J x)).map λn=>.d (.i .i64 n)):=rfl
def cBi:AV->AV->Option AV
 |.d (.i k a),.d (.i _ b)=>some (.d (.i k (if b>a then b else a)))
 |_,_=>none
def cBg:AV->AV->Option AV
 |.d (.i k a),.d (.i _ b)=>some (.d (.i k (if b<a then b else a)))
 |_,_=>none
def bYb(k k':IntKind)(a b:Int):cBi (.d (.i k a)) (.d (.i k' b))=some (.d (.i k (if b>a then b else a))):=rfl
def bXz(k k':IntKind)(a b:Int):cBg (.d (.i k a)) (.d (.i k' b))=some (.d (.i k (if b<a then b else a))):=rfl
def bXu(x y:Operand)(ts:Array TypeId):nev P (.call ⟨.builtin .max,#[x,y],ts⟩) J n=eO (cBi (oev J x) (oev J y)):=rfl
def bXt(x y:Operand)(ts:Array TypeId):nev P (.call ⟨.builtin .min,#[x,y],ts⟩) J n=eO (cBg (oev J x) (oev J y)):=rfl
def bIs(s:TypeId)(x:Operand)(f:Nat):nev P (.field s x f) J n=eO ((bWt P s f).bind λp=>(aId (oev J x)).bind λcs=>if p.2.1 then(if p.1+p.2.2<=cs.length then some (.ag ((cs.drop p.1).take p.2.2))else none)else cs[p.1]?):=rfl
def aVa(t:TypeId)(r:Option Operand):nev P (.makeMap t r) J n=(tmp P t).bind λp=>(jJ P p.1).bind λk=>(match r with|none=>some 0|some x=>iZ (oev J x)).map λ_=>(.mp n,some (.map k [])):=rfl
end
def bSa(H:Hp)(ds:List D):(ds.map AV.d).mapM (frz H 7)=some ds:=lX H 6 ds
def bSb(H:Hp)(ds:List D):(ds.map AV.d).mapM (frz H 6)=some ds:=lX H 5 ds
def sO(sz:Nat)(l:List D):chunk sz 0 l=[]:=rfl
def bUk(sz:Nat)(l:List D):chunk sz 1 l=[l.take sz]:=by simp[chunk,List.range_succ]
def bUj(sz:Nat)(l:List D):chunk sz 2 l=[l.take sz,(l.drop sz).take sz]:=by simp[chunk,List.range_succ]
def bJw(H:Hp)(avs:List AV)(l:List D):bR H avs (.ag l)=fK H avs:=rfl
def bSn(H:Hp)(avs:List AV)(x:Bool):bR H avs (.b x)=[]:=rfl
def bSm(H:Hp)(avs:List AV)(k:IntKind)(n:Int):bR H avs (.i k n)=[]:=rfl
def bJs(H:Hp)(avs:List AV)(l:List D):bR H avs (.tp l)=if l.all oG then[]else fK H avs:=rfl
def bJt(H:Hp)(avs:List AV)(l:List (List D)):bR H avs (.sl l)=fK H avs:=rfl
def qV(H:Hp):fK H []=[]:=rfl
def vA(H:Hp)(a:AV)(l:List AV):fK H (a::l)=vis H 8 a++fK H l:=rfl
def aOj(H:Hp)(n:Nat)(x:D):vis H n (.d x)=[]:=by cases n<;>rfl
def bOy(H:Hp)(n:Nat):vis H n .nil=[]:=by cases n<;>rfl
def bWn(H:Hp)(n:Nat)(x:List (List D)):vis H n (.fd x)=[]:=by cases n<;>rfl
def aLh(H:Hp)(n:Nat)(cs:List AV):vis H (n+1) (.ag cs)=cs.flatMap (vis H n):=rfl
def bFf(H:Hp)(n:Nat)(ds:List D):(ds.map AV.d).flatMap (vis H n)=[]:=by
 induction ds with
 |nil=>rfl
 |cons d ds ih=>rw[A0,List.flatMap_cons,ih,aOj];rfl
def cAb(H:Hp)(n id off len sz:Nat)(ho:Option HO):List Nat:=match ho with
 |some (.cells _ cs)=>id::((cs.drop (off*sz)).take (len*sz)).flatMap (vis H n)
 |_=>[]
def aXr(H:Hp)(n id off len sz:Nat):vis H (n+1) (.own id off len sz)=cAb H n id off len sz (H id):=rfl
def aEa(H:Hp)(n id off len sz:Nat)(e:TypeId)(cs:List AV):cAb H n id off len sz (some (.cells e cs))=id::((cs.drop (off*sz)).take (len*sz)).flatMap (vis H n):=rfl
def bJr(c:AV)(cells:List AV)(off:Nat)(cs:List AV):lay (c::cells) off cs=(c::cells).take off++cs++(c::cells).drop (off+cs.length):=rfl
def aUv(v:AV):eO (some v)=some (v,none):=rfl
def cCv(sl:List (Nat×AV))(o0:Option HO)(hs:List HO):(StL sl o0 hs).J=jN sl:=rfl
def cCx(sl:List (Nat×AV))(hs:List HO):(StL sl none hs).H=pW 1 hs:=rfl
def bZu(sl:List (Nat×AV))(o:HO)(hs:List HO):(StL sl (some o) hs).H=upd (pW 1 hs) 0 (some o):=rfl
def cCw(sl:List (Nat×AV))(o0:Option HO)(hs:List HO):(StL sl o0 hs).n=hs.length+1:=rfl
def aLq(p:Nat×AV)(l:List (Nat×AV))(t:Nat):jN (p::l) t=if t=p.1 then p.2 else jN l t:=rfl
def bGc(t:Nat):jN [] t=.any:=rfl
def nL(i:Nat)(o:HO)(os:List HO)(j:Nat):pW i (o::os) j=if j=i then some o else pW (i+1) os j:=rfl
def aHa(i j:Nat):pW i [] j=none:=rfl
def gM(J:Nat->AV)(t:Nat):oev J (.tmp t)=J t:=rfl
def cAt(J:Nat->AV)(k:IntKind)(n:Int):oev J (.const (.int k n))=.d (.i k n):=rfl
def cAu(J:Nat->AV)(x:Bool):oev J (.const (.bool x))=.d (.b x):=rfl
def bRd(J:Nat->AV):oev J (.const (.slice none 0 0))=.nil:=rfl
def bRe(J:Nat->AV)(cs:Array Value):oev J (.const (.agg cs))=.ag (cs.toList.map cv1):=rfl
def cCf(k:IntKind)(n:Int):cv1 (.int k n)=.d (.i k n):=rfl
def cCg(x:Bool):cv1 (.bool x)=.d (.b x):=rfl
def bUb:cv1 (.slice none 0 0)=.nil:=rfl
def bEc(cs:Array Value):EG (.agg cs)=cs:=rfl
def bUn(k:IntKind)(n:Int):EG (.int k n)=#[.int k n]:=rfl
def bUo(x:Bool):EG (.bool x)=#[.bool x]:=rfl
def bMo(a:Option Addr)(n c:Nat):EG (.slice a n c)=#[.slice a n c]:=rfl
def bXn(k:IntKind)(n:Int):CE (.int k n)=true:=rfl
def bXo(x:Bool):CE (.bool x)=true:=rfl
def bRa(a:Option Addr)(n c:Nat):CE (.slice a n c)=true:=rfl
def bXm(x:Bool):one (.d (.b x))=true:=rfl
def bXl(k:IntKind)(n:Int):one (.d (.i k n))=true:=rfl
def bQy(l:List (List D)):one (.d (.sl l))=true:=rfl
def bQx:one .nil=true:=rfl
def bQw(a b c d:Nat):one (.own a b c d)=true:=rfl
def bQv(a b:Nat):one (.ptr a b)=true:=rfl
def bXi(a:Nat):one (.mp a)=true:=rfl
def bXk(l:List (List D)):one (.fd l)=true:=rfl
def bXj(l:List D):one (.fp l)=true:=rfl
def bEh(x:Bool):fN (.d (.b x))=some [.d (.b x)]:=rfl
def bEg(k:IntKind)(n:Int):fN (.d (.i k n))=some [.d (.i k n)]:=rfl
def aWp(l:List (List D)):fN (.d (.sl l))=some [.d (.sl l)]:=rfl
def aWn:fN .nil=some [.nil]:=rfl
def aWm(a b c d:Nat):fN (.own a b c d)=some [.own a b c d]:=rfl
def aWl(a b:Nat):fN (.ptr a b)=some [.ptr a b]:=rfl
def bEd(a:Nat):fN (.mp a)=some [.mp a]:=rfl
def bEf(l:List (List D)):fN (.fd l)=some [.fd l]:=rfl
def bEi(cs:List AV):fN (.ag cs)=if cs.all one then some cs else none:=rfl
def aWr(cs:List D):fN (.d (.ag cs))=if(cs.map AV.d).all one then some (cs.map .d)else none:=rfl
def bUw(cs:List AV):aId (.ag cs)=some cs:=rfl
def bNs(cs:List D):aId (.d (.ag cs))=some (cs.map .d):=rfl
def bPf(cs:List AV):bAy (.tp cs)=some cs:=rfl
def bFl(cs:List D):bAy (.d (.tp cs))=some (cs.map .d):=rfl
def bKk(k:IntKind)(n:Int):iZ (.d (.i k n))=some n:=rfl
def bEk(x:Bool):zV (.d (.b x))=some x:=rfl
def bCg(J:Nat->AV)(n:Int):aQl none J n=some n:=rfl
def bCf(J:Nat->AV)(x:Operand)(n:Int):aQl (some x) J n=iZ (oev J x):=rfl
def bJp(l:List (List D)):aHy (.d (.sl l))=some (l.length:Int):=rfl
def bSk(l:List (List D)):aHy (.fd l)=some (l.length:Int):=rfl
def bJo:aHy .nil=some 0:=rfl
def bJn(a b c d:Nat):aHy (.own a b c d)=some (c:Int):=rfl
def aWa(off id o:Nat):aBg off (.ptr id o)=some (.ptr id (o+off)):=rfl
def bDr(off:Nat)(cs:List D):aBg off (.fp cs)=some (.fp (cs.drop off)):=rfl
def aVq(sz:Nat)(k:Int)(els:List (List D)):xN sz k (.d (.sl els))=if 0<=k then(els[k.toNat]?).bind λcs=>if cs.length=sz then some (.fp cs)else none else none:=rfl
def bDf(sz:Nat)(k:Int)(els:List (List D)):xN sz k (.fd els)=if 0<=k then(els[k.toNat]?).bind λcs=>if cs.length=sz then some (.fp cs)else none else none:=rfl
def aVp(sz:Nat)(k:Int)(id off len sz':Nat):xN sz k (.own id off len sz')=if 0<=k/\k<len/\sz'=sz then some (.ptr id ((off+k.toNat)*sz))else none:=rfl
def aVr(sz m:Nat)(k:Int)(id o:Nat):aBd sz m k (.ptr id o)=if 0<=k/\k<m then some (.ptr id (o+k.toNat*sz))else none:=rfl
def bDg(sz m:Nat)(k:Int)(cs:List D):aBd sz m k (.fp cs)=if 0<=k/\k<m then some (.fp (cs.drop (k.toNat*sz)))else none:=rfl
def bZq(op:BinOp)(x y:Bool):kI op true (.d (.b x)) (.d (.b y))=match op with|.eql=>some (.b (x==y))|.neq=>some (.b (!(x==y)))|_=>none:=rfl
def bNd(t:Bool)(k:IntKind)(a b:Int):kI .add t (.d (.i k a)) (.d (.i k b))=some (.i k (k.wrap (a+b))):=by simp[kI,arith]
def bMr(t:Bool)(k:IntKind)(a b:Int):kI .sub t (.d (.i k a)) (.d (.i k b))=some (.i k (k.wrap (a-b))):=by simp[kI,arith]
def bMx(t:Bool)(k:IntKind)(a b:Int):kI .mul t (.d (.i k a)) (.d (.i k b))=some (.i k (k.wrap (a*b))):=by simp[kI,arith]
def bMv(t:Bool)(k:IntKind)(a b:Int):kI .quo t (.d (.i k a)) (.d (.i k b))=if b=0 then none else some (.i k (k.wrap (a.tdiv b))):=by simp[kI,arith]
def bMu(t:Bool)(k:IntKind)(a b:Int):kI .rem t (.d (.i k a)) (.d (.i k b))=if b=0 then none else some (.i k (a.tmod b)):=by simp[kI,arith]
def bNc(t:Bool)(k:IntKind)(a b:Int):kI .eql t (.d (.i k a)) (.d (.i k b))=some (.b (a==b)):=by simp[kI,arith]
def bMw(t:Bool)(k:IntKind)(a b:Int):kI .neq t (.d (.i k a)) (.d (.i k b))=some (.b (a != b)):=by simp[kI,arith]
def bMy(t:Bool)(k:IntKind)(a b:Int):kI .lss t (.d (.i k a)) (.d (.i k b))=some (.b (decide (a<b))):=by simp[kI,arith]
def bMz(t:Bool)(k:IntKind)(a b:Int):kI .leq t (.d (.i k a)) (.d (.i k b))=some (.b (decide (a<=b))):=by simp[kI,arith]
def bNa(t:Bool)(k:IntKind)(a b:Int):kI .gtr t (.d (.i k a)) (.d (.i k b))=some (.b (decide (b<a))):=by simp[kI,arith]
def bNb(t:Bool)(k:IntKind)(a b:Int):kI .geq t (.d (.i k a)) (.d (.i k b))=some (.b (decide (b<=a))):=by simp[kI,arith]
def bMt(t:Bool)(k k':IntKind)(a b:Int):kI .shl t (.d (.i k a)) (.d (.i k' b))=kZ .shl k a b:=by simp[kI]
def bMs(t:Bool)(k k':IntKind)(a b:Int):kI .shr t (.d (.i k a)) (.d (.i k' b))=kZ .shr k a b:=by simp[kI]
def bEm(op:BinOp)(t:Bool)(x:AV):kI op t x .nil=none:=by unfold kI;split<;>simp_all
def bPd(p:Bool):unA .not (.d (.b p))=some (.b !p):=rfl
def bPe(k:IntKind)(a:Int):unA .neg (.d (.i k a))=some (.i k (k.wrap (0-a))):=rfl
def bCp(op:BinOp)(x y:AV):aRd op none x y=none:=rfl
def bIy(op:BinOp)(e:TypeId)(x:AV):aRd op (some e) x .nil=(qR x).bind (bCo op):=rfl
def bYl(x:Bool):aO (.b x)=.d (.b x):=rfl
def bYk(k:IntKind)(n:Int):aO (.i k n)=.d (.i k n):=rfl
def bSw(l:List (List D)):aO (.sl l)=.d (.sl l):=rfl
def bSz(l:List D):aO (.ag l)=.ag (l.map .d):=rfl
def cBs(x:Bool):inj (.b x)=.d (.b x):=rfl
def cBr(k:IntKind)(n:Int):inj (.i k n)=.d (.i k n):=rfl
def bYh(l:List (List D)):inj (.sl l)=.d (.sl l):=rfl
def bYj(l:List D):inj (.ag l)=.ag (l.map .d):=rfl
def bYg(l:List D):inj (.tp l)=.tp (l.map aO):=rfl
def bPn(l:List Nat)(x:D):lI l (.d x)=.d x:=rfl
def bBg(l:List Nat):lI l .nil=.nil:=rfl
def bGj(l:List Nat):lI l .un=.un:=rfl
def bBh(l:List Nat):lI l .any=.any:=rfl
def bBf(l:List Nat)(a b c d:Nat):lI l (.own a b c d)=if a∈l then .any else .own a b c d:=rfl
def bBe(l:List Nat)(a b:Nat):lI l (.ptr a b)=if a∈l then .any else .ptr a b:=rfl
def bGl(l:List Nat)(a:Nat):lI l (.mp a)=if a∈l then .any else .mp a:=rfl
def bGm(l:List Nat)(c:List D):lI l (.fp c)=.fp c:=rfl
def bGo(l:List Nat)(c:List (List D)):lI l (.fd c)=.fd c:=rfl
def bGp(l:List Nat)(c:List AV):lI l (.ag c)=.ag (c.map (fV l)):=rfl
def bGk(l:List Nat)(c:List AV):lI l (.tp c)=.tp (c.map (tN l)):=rfl
def bGq(l:List Nat)(x:D):fV l (.d x)=.d x:=rfl
def aUp(l:List Nat):fV l .nil=.nil:=rfl
def bBi(l:List Nat):fV l .un=.un:=rfl
def aUq(l:List Nat):fV l .any=.any:=rfl
def aUo(l:List Nat)(a b c d:Nat):fV l (.own a b c d)=if a∈l then .any else .own a b c d:=rfl
def aUn(l:List Nat)(a b:Nat):fV l (.ptr a b)=if a∈l then .any else .ptr a b:=rfl
def yG(l:List Nat)(e:TypeId)(cs:List AV):fG l (.cells e cs)=.cells e (cs.map (fV l)):=rfl
def aPg(l:List Nat)(e:TypeId)(ds:List D):fG l (.cells e (ds.map .d))=.cells e (ds.map .d):=by rw[yG,vG]
def bFv(H:Hp)(sz:Nat):aAn H sz .nil=some (0,[]):=rfl
def bFw(H:Hp)(sz:Nat)(els:List (List D)):aAn H sz (.d (.sl els))=if fB sz els=true/\(els.flatten.map AV.d).all one=true then some (els.length,els.flatten.map .d)else none:=rfl
def bPj(H:Hp)(sz:Nat)(els:List (List D)):aAn H sz (.fd els)=if fB sz els=true/\(els.flatten.map AV.d).all one=true then some (els.length,els.flatten.map .d)else none:=rfl
def bFt(ho:Option HO)(sz off len sz':Nat):Option (Nat×List AV):=match ho with
  |some (.cells _ cs)=>if sz'=sz/\(off+len)*sz<=cs.length/\((cs.drop (off*sz)).take (len*sz)).all one=true then some (len,(cs.drop (off*sz)).take (len*sz))else none
  |_=>none
def bFu(H:Hp)(sz id off len sz':Nat):aAn H sz (.own id off len sz')=bFt (H id) sz off len sz':=rfl
def aLn(e:TypeId)(cs:List AV)(sz off len sz':Nat):bFt (some (.cells e cs)) sz off len sz'=if sz'=sz/\(off+len)*sz<=cs.length/\((cs.drop (off*sz)).take (len*sz)).all one=true then some (len,(cs.drop (off*sz)).take (len*sz))else none:=rfl
def aUy(sz:Nat):fB sz []=true:=rfl
def aQn(sz:Nat)(a:List D)(l:List (List D)):fB sz (a::l)=(a.length==sz):=rfl
def uS(e : TypeId)(sz bt n : Nat)(s : AV)(ho : Option HO)(p : Nat×List AV) : Option (AV×Option HO×List Nat) := match s with
      |.nil=>if p.1=0 then some (.nil,none,[])else if p.1*bt<=140737488355328/\p.1<=maxLen then some (.own n 0 p.1 sz,some (.cells e p.2),[])else none
      |.own id off len sz'=>match ho with
        |some (.cells e' cs)=>if off=0/\sz'=sz/\e'=e/\cs.length=len*sz/\(len+p.1)*bt<=140737488355328/\len+p.1<=maxLen then
            some (.own n 0 (len+p.1) sz,some (.cells e (cs++p.2)),[id])else none
        |_=>none
      |.fd els => if 0 < p.1 /\ fB sz els = true /\ (els.flatten.map AV.d).all one = true /\ (els.length + p.1)*bt <= 140737488355328 /\ els.length + p.1 <= maxLen then
            some (.own n 0 (els.length+p.1) sz,some (.cells e (els.flatten.map .d++p.2)),[])else if p.1=0 then some (.fd els,none,[])else none
      |_=>none
def aYl:AV->Nat
 |.own id _ _ _=>id
 |_=>0
def bNo(H:Hp)(t:TypeId)(s x:AV)(n:Nat):aCo P H t s x n=(tel P t).bind λe=>(tsz P e).bind λsz=>(tby P e).bind λbt=>(tz P e).bind λz=>(aAn H sz x).bind λp =>
  if z.cells.size=sz/\0<sz then uS e sz bt n s (H (aYl s)) p else none:=by
 unfold aCo
 congr;funext e;congr;funext sz;congr;funext bt;congr;funext z;congr;funext p
 split
 ·cases s<;>rfl
 ·rfl
def bCd(a b c d:Nat):aYl (.own a b c d)=a:=rfl
def bCe:aYl .nil=0:=rfl
def bIc(l:List (List D)):aYl (.fd l)=0:=rfl
def bUt(e : TypeId)(sz bt n : Nat)(ho : Option HO)(els : List (List D))(m : Nat)(cs : List AV) : uS e sz bt n (.fd els) ho (m, cs) = if 0 < m /\ fB sz els = true /\ (els.flatten.map AV.d).all one = true /\ (els.length + m)*bt <= 140737488355328 /\ els.length + m <= maxLen then
            some (.own n 0 (els.length+m) sz,some (.cells e (els.flatten.map .d++cs)),[])else if m=0 then some (.fd els,none,[])else none:=rfl
def bNn(e:TypeId)(sz bt n:Nat)(ho:Option HO)(m:Nat)(cs:List AV):uS e sz bt n .nil ho (m,cs)=if m=0 then some (.nil,none,[])else if m*bt<=140737488355328/\m<=maxLen then some (.own n 0 m sz,some (.cells e cs),[])else none:=rfl
def bNm(e e' : TypeId)(sz bt n id off len sz' : Nat)(cs : List AV)(m : Nat)(ds : List AV) : uS e sz bt n (.own id off len sz') (some (.cells e' cs)) (m, ds) = if off = 0 /\ sz' = sz /\ e' = e /\ cs.length = len*sz /\ (len + m)*bt <= 140737488355328 /\ len + m <= maxLen then
            some (.own n 0 (len+m) sz,some (.cells e (cs++ds)),[id])else none:=rfl
def ldC(ag:Bool)(sz:Option Nat)(off:Nat)(ho:Option HO):Option AV:=match ho with
  |some (.cells _ cs)=>if ag then sz.bind λsz=>if off+sz<=cs.length then some (.ag ((cs.drop off).take sz))else none else cs[off]?
  |_=>none
def bCy(H:Hp)(t:TypeId)(id off:Nat):zB P H t (.ptr id off)=(cZ P t).bind λag=>ldC ag (tsz P t) off (H id):=rfl
def bDa(ag:Bool)(sz:Option Nat)(off:Nat)(e:TypeId)(cs:List AV):ldC ag sz off (some (.cells e cs))=if ag then sz.bind λsz=>if off+sz<=cs.length then some (.ag ((cs.drop off).take sz))else none else cs[off]? := rfl
def bJh(H:Hp)(t:TypeId)(cs:List D):zB P H t (.fp cs)=(cZ P t).bind λag=>if ag then(tsz P t).bind λsz=>if sz<=cs.length then some (.ag ((cs.take sz).map .d))else none else(cs[0]?).map .d:=rfl
def stC(id off:Nat)(sz:Option Nat)(vs:Option (List AV))(ho:Option HO):Option (Nat×HO):=match ho with
  |some (.cells e cs)=>vs.bind λvs=>sz.bind λsz=>if vs.length=sz/\off+sz<=cs.length then some (id,.cells e (lay cs off vs))else none
  |_=>none
def aUg(H:Hp)(t:TypeId)(id off:Nat)(x:AV):qK P H t (.ptr id off) x=stC id off (tsz P t) (fN x) (H id):=rfl
def bAz(id off:Nat)(sz:Option Nat)(vs:Option (List AV))(e:TypeId)(cs:List AV):stC id off sz vs (some (.cells e cs))=vs.bind λvs=>sz.bind λsz=>if vs.length=sz/\off+sz<=cs.length then some (id,.cells e (lay cs off vs))else none:=rfl
def bLi(H:Hp)(n id off len sz:Nat):frz H (n+1) (.own id off len sz)=match H id with
  |some (.cells _ cs)=>if(off+len)*sz<=cs.length/\0<sz then(((cs.drop (off*sz)).take (len*sz)).mapM (frz H n)).map λl=>.sl (chunk sz len l)else none
  |_=>none:=rfl
def bHe(σ:St)(t:Nat):nO P σ (.tmp t)=some (σ.J t):=rfl
def bBo(σ:St)(ad t:Nat):nO P σ (.cell ad t)=zB P σ.H t (σ.J ad):=rfl
def qZ(x:ResultVar)(σ:St):mU P [x] σ=(nO P σ x).bind λav=>frz σ.H 8 av:=by
 unfold mU;simp only[B6,Gk,DH,CW];cases nO P σ x with
 |none=>rfl
 |some av =>
  simp only[Option.bind_some,fW,B6,Gk,DH,CW];cases frz σ.H 8 av<;>rfl
def bJy(H:Hp):kill [] H=H:=rfl
def bJx(a:Nat)(H:Hp):kill [a] H=λid=>if id=a then none else H id:=by funext id;simp[kill]
def bEr(H:Hp)(n:Nat):jE H n none=H:=rfl
def bEq(H:Hp)(n:Nat)(o:HO):jE H n (some o)=upd H n (some o):=rfl
def bMi(n:Nat):cnt none n=n:=rfl
def bMh(n:Nat)(o:HO):cnt (some o) n=n+1:=rfl
def bBy(J:Nat->AV)(d:Nat)(v:AV):bS J (some d) v=upd J d v:=rfl
def bBz(J:Nat->AV)(v:AV):bS J none v=J:=rfl
def dU{α:Type}(f:Nat->α)(k j:Nat)(x:α):upd f k x j=if j=k then x else f j:=rfl
def bDq(place:Nat->Option (Nat×Nat))(cells:List AV):nU place cells []=some cells:=rfl
def bVy(place:Nat->Option (Nat×Nat))(cells:List AV)(pl:Option (Nat×Nat))(cs:Option (List AV))(rest:List (Nat×AV)):Option (List AV):=match pl,cs with
 |some (off,size),some cs=>if cs.length=size/\off+cs.length<=cells.length then nU place (lay cells off cs) rest else none
 |_,_=>none
def aVz(place:Nat->Option (Nat×Nat))(cells:List AV)(i:Nat)(x:AV)(rest:List (Nat×AV)):nU place cells ((i,x)::rest)=bVy place cells (place i) (fN x) rest:=rfl
def aVy(place:Nat->Option (Nat×Nat))(cells:List AV)(off size:Nat)(cs:List AV)(rest:List (Nat×AV)):bVy place cells (some (off,size)) (some cs) rest=if cs.length=size/\off+cs.length<=cells.length then nU place (lay cells off cs) rest else none:=rfl
def aUl(sz:Nat)(els:List (List D))(l h:Int)(full:Bool):qM sz (.d (.sl els)) l h full=if 0<=l/\l<=h then if h<=els.length/\fB sz els=true then some (if full then .fd ((els.take h.toNat).drop l.toNat)else .d (.sl ((els.take h.toNat).drop l.toNat)))else none else none:=rfl
def bBc(sz:Nat)(els:List (List D))(l h:Int)(full:Bool):qM sz (.fd els) l h full=if 0<=l/\l<=h then if h<=els.length/\fB sz els=true then some (if full then .fd ((els.take h.toNat).drop l.toNat)else .d (.sl ((els.take h.toNat).drop l.toNat)))else none else none:=rfl
def aLd(ops:Array Oper)(dst:Option Tmp)(op:Op)(ty:TypeId)(pos:String)(after:Array Edge)(j:Nat)(w:Bool)(J:Nat->AV):eY ops ⟨dst,op,ty,pos,after,some (j,w)⟩ J =
  match(ops[j]?).bind (·.dst)with
  |none=>some false
  |some d=>match J d with
   |.d (.b x)=>some (x==w)
   |.un=>some false
   |_=>none:=rfl
def bWj(args:List D)(N t:Nat):Γ0 args N t=match args[t]? with|some d=>aO d|none=>.un:=by unfold Γ0;cases args[t]?<;>simp
def tU(m:List Nat)(f:Nat->D):fB 1 (m.map λx=>[f x])=true:=by cases m<;>rfl
end Go.Am
end
section
open List renaming map_map->C,mapM_map->K
namespace Go.Am
def val:List Nat->Nat
 |[]=>0
 |x::l=>x+4294967296*val l
def Lim(l:List Nat):Prop:=∀x∈l,x<4294967296
def Lim.nil:Lim []:=λ_ h=>by cases h
def Lim.cons{x:Nat}{l:List Nat}(h:x<4294967296)(k:Lim l):Lim (x::l):=λy hy=>by
 rcases AG.1 hy with rfl|hy
 ·exact h
 ·exact k y hy
def Lim.app{a b:List Nat}(h:Lim a)(k:Lim b):Lim (a++b):=λy hy=>by
 rcases List.mem_append.1 hy with hy|hy
 ·exact h y hy
 ·exact k y hy
def Lim.one{x:Nat}(h:x<4294967296):Lim [x]:=.cons h .nil
def Lim.take{l:List Nat}(h:Lim l)(n:Nat):Lim (l.take n):=λy hy=>h y (List.mem_of_mem_take hy)
def Lim.get{l:List Nat}(h:Lim l){i:Nat}(hi:i<l.length):l[i]<4294967296:=h _ (Ar hi)
def Lim.getD{l:List Nat}(h:Lim l)(i:Nat):l.getD i 0<4294967296:=by
 rw[Af];rcases Bd i l.length with hi|hi
 ·rw[Ab hi];exact h.get hi
 ·rw[AW hi];decide
def Lim.rep(n:Nat):Lim (AB n 0):=λy hy=>by rw[(List.mem_replicate.1 hy).2];decide
def Lim.set{l:List Nat}(h:Lim l)(i:Nat){x:Nat}(hx:x<4294967296):Lim (l.set i x):=λy hy=>by
 rcases List.mem_or_eq_of_mem_set hy with hy|rfl
 ·exact h y hy
 ·exact hx
def oI(a b:List Nat):val (a++b)=val a+4294967296^a.length*val b:=by
 induction a with
 |nil=>simp[val]
 |cons x a ih =>
  simp only[BN,val,ih,AH,Cm,Cn];rw[Nat.mul_comm (4294967296^a.length) 4294967296,Nat.mul_assoc];omega
def aCt(n:Nat):val (AB n 0)=0:=by
 induction n with
 |zero=>rfl
 |succ n ih=>simp[DN,val,ih]
def tK{l:List Nat}(h:Lim l):val l<4294967296^l.length:=by
 induction l with
 |nil=>simp[val]
 |cons x l ih =>
  have h1:=h x (Av ..);have h2:=ih λy hy=>h y (As _ hy)
  simp only[val,AH,Cm];omega
def eA(l:List Nat)(i:Nat):val (l.take (i+1))=val (l.take i)+4294967296^i*l.getD i 0:=by
 rcases Bd i l.length with hi|hi
 ·rw[List.take_add_one,Ab hi,oI,Ax,BP (by omega),Af,Ab hi];simp[val]
 ·rw[Ai (by omega),Ai (by omega),Af,AW hi];simp
def aU(n:Nat):List Nat:=if h:n=0 then[]else n%4294967296::aU (n/4294967296)
termination_by n
decreasing_by omega
def dG:aU 0=[]:=by rw[aU];simp
def jW{n:Nat}(h:n≠0):aU n=n%4294967296::aU (n/4294967296):=by rw[aU];simp[h]
def fP{n:Nat}:aU n=[]↔n=0:=by
 constructor
 ·intro h;by_cases hn:n=0
  ·exact hn
  ·rw[jW hn]at h;cases h
 ·rintro rfl;exact dG
def aGn{p:Nat->Prop}(h0:p 0)(h1:∀n,n≠0->p (n/4294967296)->p n):∀n,p n:=λn=>by
 induction n using Nat.strongRecOn with
 |_ n ih =>
  by_cases hn:n=0
  ·subst hn;exact h0
  ·exact h1 n hn (ih _ (by omega))
def dS(n:Nat):val (aU n)=n:=by refine aGn (p:=λn=>val (aU n)=n) (by rw[dG];rfl) (λn hn ih=>?_) n;rw[jW hn,val,ih];omega
def cX(n:Nat):Lim (aU n):=by refine aGn (p:=λn=>Lim (aU n)) (by rw[dG];exact .nil) (λn hn ih=>?_) n;rw[jW hn];exact .cons (by omega) ih
def oH(l:List Nat):Prop:=l.getLast? ≠ some 0
def lF(n:Nat):oH (aU n):=by
 refine aGn (p:=λn=>oH (aU n)) (by rw[dG];simp[oH]) (λn hn ih=>?_) n;rw[jW hn];by_cases h:n/4294967296=0
 ·rw[h,dG];simp only[oH,List.getLast?_singleton,ne_eq,AU];omega
 ·unfold oH at ih ⊢;rw[jW h]at ih ⊢;simpa[Gp]using ih
def strip:List Nat->List Nat
 |[]=>[]
 |x::l=>match strip l with
  |[]=>if x=0 then[]else[x]
  |l'=>x::l'
def iW{l:List Nat}(h:Lim l):strip l=aU (val l):=by
 induction l with
 |nil=>rw[val,dG];rfl
 |cons x l ih =>
  have hx:=h x (Av ..);have hl:=ih λy hy=>h y (As _ hy)
  simp only[strip,val];rw[hl];by_cases h0:val l=0
  ·rw[h0,dG];simp only[Nat.mul_zero,Nat.add_zero];by_cases hx0:x=0
   ·subst hx0;rw[dG];rfl
   ·rw[Ac hx0,jW hx0,Nat.mod_eq_of_lt hx,Nat.div_eq_of_lt hx,dG]
  ·rw[jW (n:=x+_) (by omega)];have e1:(x+4294967296*val l)%4294967296=x:=by omega
   have e2:(x+4294967296*val l)/4294967296=val l:=by omega
   rw[e1,e2];have:aU (val l)≠[]:=λe=>h0 (fP.1 e)
   cases hd:aU (val l)with
   |nil=>exact(this hd).elim
   |cons=>rfl
def aEl(l:List Nat):strip (l++[0])=strip l:=by
 induction l with
 |nil=>rfl
 |cons x l ih=>simp only[BN,strip,ih]
def qB{l:List Nat}(h:oH l):strip l=l:=by
 induction l with
 |nil=>rfl
 |cons x l ih =>
  cases l with
  |nil =>
   have:x≠0:=by simpa[oH]using h
   simp[strip,this]
  |cons y l =>
   have h2:oH (y::l):=by simpa[oH,Gp]using h
   have h3:=ih h2;rw[strip,h3]
def bLz{l:List Nat}(h:Lim l)(hc:oH l):aU (val l)=l:=by rw[<-iW h,qB hc]
def fZ{n k:Nat}(h:n<4294967296^k):(aU n).length<=k:=by
 induction k generalizing n with
 |zero=>simp at h;subst h;rw[dG];simp
 |succ k ih =>
  by_cases hn:n=0
  ·subst hn;rw[dG];simp
  ·rw[jW hn,AH];have:n/4294967296<4294967296^k:=by rw[Cm]at h;omega
   have:=ih this;omega
def gW{n k:Nat}(h:(aU n).length<=k):n<4294967296^k:=by have h1:=tK (cX n);rw[dS]at h1;exact Nat.lt_of_lt_of_le h1 (Nat.pow_le_pow_right (by decide) h)
def fC{a b:Nat}(h:a<=b):(aU a).length<=(aU b).length:=fZ (Nat.lt_of_le_of_lt h (gW (Ap _)))
def kH{a b:Nat}(h:(aU a).length<(aU b).length):a<b:=by
 rcases Bd a b with h'|h'
 ·exact h'
 ·have:=fC h';omega
def vB{a b:List Nat}(ha:Lim a){i:Nat}(hl:a.length=b.length)(hi:i<a.length)(hd:a.drop (i+1)=b.drop (i+1))(hlt:a.getD i 0<b.getD i 0):val a<val b:=by
 have e1:a=a.take (i+1)++a.drop (i+1):=(Cc _ _).symm;have e2:b=b.take (i+1)++b.drop (i+1):=(Cc _ _).symm;rw[e1,e2,oI,oI,hd,eA,eA];have h1:=tK (ha.take i);rw[Ax,BP (by omega)]at h1;have h2:(a.take (i+1)).length=(b.take (i+1)).length:=by simp[hl]
 rw[h2];have h3:4294967296^i*(a.getD i 0+1)<=4294967296^i*b.getD i 0:=Nat.mul_le_mul_left _ hlt;rw[Cn,DP]at h3;omega
def aM(m:List Nat):D:=.sl (m.map λ(x:Nat)=>[D.i .u32 (x:Int)])
def lms(m:List Nat):List D:=m.map λ(x:Nat)=>D.i .u32 (x:Int)
def nG(m:List Nat):(lms m).length=m.length:=by simp[lms]
def iG(a b:List Nat):lms (a++b)=lms a++lms b:=by simp[lms]
def iL(x:Nat):lms [x]=[D.i .u32 (x:Int)]:=rfl
def aZb{m:List Nat}{i x:Nat}(h:m[i]? = some x):(lms m)[i]? = some (.i .u32 (x:Int)):=by simp[lms,h]
def zC(m:List Nat)(i x:Nat):(lms m).set i (.i .u32 (x:Int))=lms (m.set i x):=by simp[lms,List.map_set]
def aRm(m:List Nat):(m.map λ(x:Nat)=>[D.i .u32 (x:Int)]).flatten=lms m:=by unfold lms;induction m<;>simp_all
def aZc(m:List Nat):((lms m).map AV.d).all one=true:=by simp[lms,one]
def bJi(m:List Nat):(∀x,x∈lms m->one (AV.d x)=true)↔True:=⟨λ_=>trivial,λ_ x hx=>by
 obtain⟨y,_,rfl⟩:=List.mem_map.1 hx;rfl⟩
def bSh(n:Nat):AB n (D.i .u32 0)=lms (AB n 0):=by simp[lms]
def bPz(n:Nat):AB n (AV.d (D.i .u32 0))=(lms (AB n 0)).map .d:=by simp[lms]
def iB{m:List Nat}{n:Nat}(h:m.length=n):chunk 1 n (lms m)=m.map λ(x:Nat)=>[D.i .u32 (x:Int)]:=by rw[wB _ _ (by rw[nG];exact h.symm)];simp[lms]
def fE{m:List Nat}{n:Nat}(h:m.length=n):List.take n ((lms m).map AV.d)=(lms m).map AV.d:=Ai (by simp[nG,h])
def encI(neg:Bool)(m:List Nat):D:=.ag [.b neg,aM m]
def encZ(z:Int):D:=encI (decide (z<0)) (aU z.natAbs)
def sg(neg:Bool)(n:Nat):Int:=if neg then -(n:Int)else n
def bTx(neg:Bool)(n:Nat):encI (neg&&decide (n≠0)) (aU n)=encZ (sg neg n):=by
 unfold encZ sg;cases neg
 ·have h:decide ((n:Int)<0)=false:=by simp
  simp[h]
 ·simp only[Bool.true_and,B5,Int.natAbs_neg,Int.natAbs_natCast];congr 1;rw[Bool.eq_iff_iff];simp;omega
def jH(z:Int):sg (decide (z<0)) z.natAbs=z:=by
 unfold sg;by_cases h:z<0
 ·rw[Ae (by simpa using h)];omega
 ·rw[Ac (by simpa using h)];omega
def wrap_i64{n:Int}(h1:-9223372036854775808<=n)(h2:n<=9223372036854775807):Ag.wrap n=n:=by simp[EO,Eh,DC];omega
def aV{n:Int}(h1:-9223372036854775808<=n:=by omega)(h2:n<=9223372036854775807:=by omega):Ag.wrap n=n:=wrap_i64 h1 h2
def bT{n:Int}(h1:0<=n)(h2:n<18446744073709551616):A2.wrap n=n:=by simp[EO,Eh,DC];omega
def aAf(n:Int):A2.wrap n=n%18446744073709551616:=by simp[EO,Eh,DC]
def jF(n:Int):Co.wrap n=n%4294967296:=by simp[EO,Eh,DC]
def kN{n:Int}(h1:0<=n)(h2:n<4294967296):Co.wrap n=n:=by rw[jF];omega
def xV(n:Int):IntKind.u8.wrap n=n%256:=by simp[EO,Eh,DC]
end Go.Am
end
