/- The abstract machine, part 15: states between regions; what may be forgotten. No condition. -/
import Derived.Test.YtdgdlndhaecliaaGreatC1
import Derived.Scope
set_option linter.all false
open Array renaming getD_eq_getD_getElem?->Au,mem_toList_iff->CI,replicate->AY
open Bool renaming and_eq_true->A8
open Go.Act renaming put->C6
open Go.Call renaming operands->Bg
open Go.Op renaming operands->AD
open Go.Operand renaming tmp->CN
open Go.Region renaming binds->Ee,ready->Bv,wanted->Bu
open List renaming all_eq_true->A3,getElem?_eq_getElem->Ab,getElem?_eq_some_iff->Ao,getElem?_map->Ag,map_cons->BO,mem_append->BP,mem_cons->Bn,mem_cons_of_mem->AE,mem_cons_self->AI,mem_flatMap->BJ
open Nat renaming le_refl->Ay,lt_or_ge->A4
open Option renaming bind_eq_some_iff->Ad,getD_some->AT,isSome_iff_exists->Ek,map_eq_some_iff->Af
open Option.some renaming injEq->Ax
open _root_ renaming if_neg->Ai,if_pos->Aq,if_true->AH,or_false->Fg
section
open List renaming map_map->B,mapM_map->E
namespace Go.Am
def cCn(o:Oper):Bool:=match o.op with|.defer _=>false|_=>true
def sS(ops:Array Oper):Bool:=ops.all cCn
def gH:Code->Bool
 |.region _ ops _=>sS ops
 |.seq x y|.cond _ x y=>gH x&&gH y
 |.block _ c|.loop c=>gH c
 |.scope _=>false
 |_=>true
structure WpR(P:Program)[M:Mch P](rd:Bool)(W:Code->(Exit->Act->World->Prop)->Act->World->Prop):Prop where
 mono:∀{c:Code} {Q Q':Exit->Act->World->Prop} {a:Act} {w:World},W c Q a w->(∀e a w,Q e a w->Q' e a w)->W c Q' a w
 okv:∀{c:Code} {Q:Exit->Act->World->Prop} {a:Act} {w:World},(OkV w->W c Q a w)->W c Q a w
 skip:∀{Q:Exit->Act->World->Prop} {a:Act} {w:World},Q .normal a w->W .skip Q a w
 label:∀{l:Nat} {Q:Exit->Act->World->Prop} {a:Act} {w:World},Q .normal a w->W (.label l) Q a w
 exit:∀{id:Nat} {Q:Exit->Act->World->Prop} {a:Act} {w:World},Q (.exit id) a w->W (.exit id) Q a w
 ret:∀{Q:Exit->Act->World->Prop} {a:Act} {w:World},Q .ret a w->W .ret Q a w
 regL:∀{id:Nat} {ops:Array Oper} {Q:Exit->Act->World->Prop} {a:Act} {w:World},(rd=true->sS ops=true)->gW P ops Q ops.toList a w->W (.region id ops false) Q a w
 regA:∀{id:Nat} {ops:Array Oper} {Q:Exit->Act->World->Prop} {a:Act} {w:World},P.follows .mixedOrders=true->(rd=true->sS ops=true) ->
  (∀d,yH P ops Q ops.size (AY ops.size false) a { w with drawn:=d })->W (.region id ops true) Q a w
 seq:∀{x y:Code} {Q:Exit->Act->World->Prop} {a:Act} {w:World},W x (Exit.then (W y Q) Q) a w->W (.seq x y) Q a w
 cond:∀{c:Operand} {x y:Code} {t:Bool} {Q:Exit->Act->World->Prop} {a:Act} {w:World},a.eval c=.bool t->W (if t then x else y) Q a w->W (.cond c x y) Q a w
 block:∀{id:Nat} {c:Code} {Q:Exit->Act->World->Prop} {a:Act} {w:World},W c (Exit.inBlock id Q) a w->W (.block id c) Q a w
 loop:∀{c:Code} {Q:Exit->Act->World->Prop} {a:Act} {w:World} (I:Nat->Act->World->Prop),(∃n,I n a w) ->
  (∀n a w,I n a w->W c (Exit.then (λa' w'=>∃m,m<n/\I m a' w') Q) a w)->W (.loop c) Q a w
 scope:∀{c:Code} {Q:Exit->Act->World->Prop} {a:Act} {w:World},rd=false->W c (Exit.noGoto Q) a w->W (.scope c) Q a w
def WpR.plain(P:Program)[M:Mch P]:WpR P false (WC P) where
 mono h hq:=cC h hq
 okv h:=λWin hW hv=>h hv Win hW hv
 skip h:=yY h
 label h:=bCk h
 exit h:=aTv h
 ret h:=zY h
 regL _ h:=iH h
 regA hm _ h:=bNt hm h
 seq h:=eJ h
 cond hc h:=nR hc h
 block h:=zZ h
 loop I h0 h:=aTu I h0 h
 scope _ h:=aKh h
def bIy(P:Program)(ops:Array Oper)(listed:Array Bool)(i:Nat):Bool :=
 match ops[i]? with
 |none=>false
 | some oi=>(List.range ops.size).all λj=>j==i||listed.getD j true||match ops[j]? with
   |some oj=>oj.after.any (λe=>Ee .any e&&e.on==i)||xJ P ops oi oj||dep ops 12 j i
   |none=>true
def qH(P:Program)(ops:Array Oper):Nat->Nat->Array Bool->Bool
 |0,_,listed=>(Bv .any ops listed).isEmpty
 |fuel+1,k,listed=>(Bv .any ops listed).contains k&&bIy P ops listed k&&qH P ops fuel (k+1) (listed.setIfInBounds k true)
def bHx:Op->Bool
 |.next ..=>true
 |_=>false
def fQ(l:List Oper):Bool:=l.all λo=>!bHx o.op
def bHg(P:Program)(ops:Array Oper):Bool:=fQ ops.toList&&qH P ops ops.size 0 (AY ops.size false)
section
variable {P:Program} [M:Mch P] {G:Ctx} {ops:Array Oper}
def aSb{i:Nat}{oi:Oper}{listed:Array Bool}(hi:ops[i]? = some oi)(h:bIy P ops listed i=true)(j:Nat)(oj:Oper)
  (hj:ops[j]? = some oj) (hne:j≠i) (hun:listed.getD j true=false) (hno:∀e∈oj.after,Ee .any e=true->e.on≠i) (hnd:dep ops 12 j i=false):xJ P ops oi oj=true:=by
 simp only[bIy,hi,A3,List.mem_range]at h
 have h1:=h j (Array.getElem?_eq_some_iff.1 hj).1
 simp only[hj,Bool.or_eq_true,beq_iff_eq,hne,false_or,hun,Bool.false_eq_true,hnd,Fg]at h1
 rcases h1 with h1|h1
 ·obtain⟨e,he,hb⟩:=Array.any_eq_true'.1 h1
  simp only[A8,beq_iff_eq]at hb
  exact absurd hb.2 (hno e he hb.1)
 ·exact h1
def yV(P:Program)[M:Mch P](G:Ctx)(ops:Array Oper)(Q:AS->Prop):List Oper->AS->Prop
 |[],s=>Q s
 |o::l,s=>∃s',qZ P G ops o s s'/\yV P G ops Q l s'
def aOx[M:Mch P]{Q:AS->Prop}:∀(l:List Oper) (k:Nat) (listed:Array Bool) (s:AS),Dc ops listed->(∀j,l[j]? = ops[k+j]?)->qH P ops l.length k listed=true->yV P G ops Q l s->bMh P G ops Q l.length listed s
 |[],_,_,_,_,_,hB,h=>⟨by simpa[qH]using hB,h⟩
 | o::l,k,listed,s,hdc,hl,hB,h=>by
  have h0:ops[k]? = some o:=by simpa using(hl 0).symm
  simp only[List.length_cons,qH,A8]at hB;obtain⟨⟨hr,hf⟩,hB'⟩:=hB;obtain⟨s',hd,hK⟩:=h;exact aTi h0 l.length listed s s' hdc (aSb h0 hf) (by simpa using hr) hd
   (aOx l (k+1) _ _ (bMo hdc (by simpa using hr)) (λj=>by have:=hl (j+1);simpa[Nat.add_assoc,Nat.add_comm 1 j]using this) hB' hK)
def mZ(G:Ctx)(N:Nat)(ds:List Deferred)(s:AS)(a:Act)(w:World):Prop :=
 OkV w/\∃F ι,HR G F w ι s.T s.K/\(∀id,(∃b,ι id=some b)↔s.U id)/\(∀t,V F w ι (s.Γ t) (a.tmps.getD t undef))/\(a.tmps.size=N/\∀t v,G.Z t=some v->a.tmps.getD t undef=v)/\a.defers=ds/\∀b,ι 0=some b->G.P0 b
def jD(a:Act)(dst:Option Tmp)(u:Value)(h:∀d,dst=some d->d<a.tmps.size)(t:Nat):(a.put dst u).tmps.getD t undef=if dst=some t then u else a.tmps.getD t undef:=by
 cases dst with
 |none=>simp[C6]
 | some d =>
  have hd:=h d rfl;simp only[C6,Au,Ax];by_cases e:d=t
  ·subst e;rw[Aq rfl,Array.getElem?_setIfInBounds_self_of_lt hd];rfl
  ·rw[Ai e,Array.getElem?_setIfInBounds_ne e]
def rC{o:Oper}{Γ:Nat->AV}{F:Nat->Prop}{w:World}{ι:Nat->Option Nat}{a:Act}{x:Bool}(h:cV ops o Γ=some x)(hV:∀t,V F w ι (Γ t) (a.tmps.getD t undef)) :
  Bu o (yielded ops a.tmps)=x:=by
 unfold cV at h
 unfold Bu
 cases hg:o.guard with
 |none=>simp only[hg]at h;injection h
 | some gw =>
  obtain⟨j,want⟩:=gw
  simp only[hg]at h ⊢
  unfold yielded
  cases hd:(ops[j]?).bind (·.dst)with
  |none=>simp only[hd,Ax]at h;rw[<-h];cases want<;>rfl
  | some d =>
   simp only[hd]at h
   have hv:=hV d
   simp only[Option.bind_some]
   rw[Au]at hv
   split at h
   ·rename_i y hy
    injection h with h;subst h
    rw[hy]at hv
    cases ht:a.tmps[d]? with
    |none=>rw[ht]at hv;simp only[Option.getD_none]at hv;cases hv with|d _ _ hv=>cases hv
    | some v =>
     rw[ht]at hv;simp only[AT]at hv
     cases hv with|d _ _ hv=>cases hv with|b =>
     cases y<;>cases want<;>rfl
   ·rename_i hy
    injection h with h;subst h
    rw[hy]at hv
    cases ht:a.tmps[d]? with
    |none=>rfl
    | some v =>
     rw[ht]at hv;simp only[AT]at hv
     generalize hu:v=v' at hv
     cases hv;rfl
   ·cases h
def bXa[M:Mch P]{o:Oper}{a:Act}{w:World}{K:Act->World->Prop}(hok:OkV w)(h:wpX P o a w λa' w'=>OkV w'->K a' w'):wpX P o a w K:=by
 unfold wpX at h ⊢;cases hr:aK P (execOp a.eval o) w with
 |halt x w'=>rw[hr]at h;exact h
 | ok n w' =>
  rw[hr]at h;have hok':=aUt hok hr;cases n<;>simp only[iV]at h ⊢<;>first
  |exact h hok'
  |exact λWin hW hv c cs hk=>h Win hW hv c cs λx v' ho hx=>hk x v' ho (hx ho)
def HR.env{F:Nat->Prop}{w v1:World}{ι:Nat->Option Nat}{C:Nat->Prop}{H:Hp}(hR:HR G F w ι C H)(he:Env w v1):HR G F v1 ι C H/\Step F w ι F v1 ι:=by
 have hst:Step F w ι F v1 ι:=⟨λ_ h=>h,λb h=>he.get (hR.F_lt b h),λ_ _ h=>h,λid b cur e hi h=>⟨cur,(he.get (hR.ι_lt hi)).trans h,rfl⟩⟩;have hsz:=he.size;have hW:=hR.kept.size;refine⟨⟨hR.kept.trans ⟨he.os,he.tape,he.output,hsz,λk hk _=>he.get (by omega),λk cur e hk hc=>⟨cur,(he.get (by omega)).trans hc,rfl⟩⟩,λb h=>by have:=hR.F_lt b h;omega,hR.F_ok,λid b e=>?_,λid b o h1 h2=>?_,hR.inj,hR.len⟩,hst⟩
 ·obtain⟨p1,p2,p3⟩:=hR.place id b e;exact⟨p1,by omega,p3⟩
 ·obtain⟨ob,h3,h4⟩:=hR.obj id b o h1 h2;exact⟨ob,(he.get (hR.ι_lt h1)).trans h3,h4.step hst⟩
def mZ.env{N:Nat}{ds:List Deferred}{s:AS}{a:Act}{w v1:World}(h:mZ G N ds s a w)(he:Env w v1):mZ G N ds s a v1:=by obtain⟨hok,F,ι,hR,hdom,hV,hN,hds,hp⟩:=h;obtain⟨hR',hst⟩:=hR.env he;exact⟨he.okV hok,F,ι,hR',hdom,λt=>(hV t).step hst,hN,hds,hp⟩
def oM{N:Nat}{ds:List Deferred}{o:Oper}{s s':AS}{a:Act}{w:World}{K:Act->World->Prop}(hd:qZ P G ops o s s')(hdst:∀d,o.dst=some d->d<N/\G.Z d=none)(hrel:mZ G N ds s a w)
  (hK:∀a' w',mZ G N ds s' a' w'->K a' w'):if Bu o (yielded ops a.tmps)then ∀v1,Env w v1->wpX P o a v1 K else K (a.put o.dst undef) w:=by
 obtain⟨hok,F,ι,hR,hdom,hV,hN,hds,hp⟩:=hrel
 have hputN:∀u,(a.put o.dst u).tmps.size=N/\∀t v,G.Z t=some v->(a.put o.dst u).tmps.getD t undef=v:=λu=>by refine⟨by cases o.dst<;>simp[C6,hN.1],λt v hz=>?_⟩;rw[jD a o.dst u (λd h=>by rw[hN.1];exact(hdst d h).1) t,Ai (λe=>by rw[(hdst t e).2]at hz;cases hz)];exact hN.2 t v hz
 have hputd:∀u,(a.put o.dst u).defers=ds:=λu=>by cases o.dst<;>simp[C6,hds]
 cases hd with
 | no hw =>
  rw[rC hw hV,Ai (by simp)]
  exact hK _ _ ⟨hok,F,ι,hR,hdom,aOy hV .un λt=>jD a o.dst undef (λd h=>by rw[hN.1];exact(hdst d h).1) t,hputN _,hputd _,hp⟩
 | yes av new con K' hw hev hU hT h0 =>
  have hY:Y P G o s.Γ s.T s.K K' av new con:=by
   rcases hev with ⟨_,rfl,rfl,h⟩|⟨_,rfl,hcT,_,h⟩|⟨_,rfl,rfl,id,t,old,ho,_,_,hold,hT,rfl,h⟩|⟨_,S,g,q1,_,_,_,rfl,h⟩
   ·exact h _ _ λ_ _=>rfl
   ·exact h _ hcT
   ·exact h _ _ hold hT
   ·exact h _ _ (λid hid=>⟨q1 id hid,rfl⟩) λid hid=>⟨hT id hid,rfl⟩
  rw[rC hw hV,Aq rfl]
  intro v1 he
  obtain⟨hR1,hst1⟩:=hR.env he
  refine bXa (he.okV hok) (hY F v1 ι a (he.okV hok) hR1 (λt _=>(hV t).step hst1) (λid hn=>?_) (λa' w'=>OkV w'->K a' w') λF' w' ι' u hR' hs hd1 hd2 hv hok'=>?_)
  ·cases hi:ι id with
   |none=>rfl
   |some b=>exact absurd ((hdom id).1 ⟨b,hi⟩) (hU id hn)
  ·refine hK _ _ ⟨hok',F',ι',hR',λid=>⟨?_,?_⟩,aOy (λt=>((hV t).step hst1).step hs) hv λt=>jD a o.dst u (λd h=>by rw[hN.1];exact(hdst d h).1) t,hputN _,hputd _,λb hb=>(hd1 0 b hb).elim (hp b) λh=>h0 h b⟩
   ·rintro⟨b,hb⟩
    rcases hd1 id b hb with h|h
    ·exact .inl ((hdom id).1 ⟨b,h⟩)
    ·exact .inr h
   ·rintro(h|h)
    ·obtain⟨b,hb⟩:=(hdom id).2 h
     exact⟨b,hs.ι_le _ _ hb⟩
    ·exact hd2 id h
def pO{N:Nat}{ds:List Deferred}{Q:AS->Prop}{Q':Exit->Act->World->Prop}(hdst:∀(i:Nat) (o:Oper) (d:Tmp),ops[i]? = some o->o.dst=some d->d<N/\G.Z d=none)(hQ:∀s a w,Q s->mZ G N ds s a w->Q' .normal a w) :
  ∀(fuel:Nat) (listed:Array Bool) (s:AS) (a:Act) (w:World),mZ G N ds s a w->bMh P G ops Q fuel listed s->yH P ops Q' fuel listed a w
 |0,_,s,a,w,hr,h=>⟨h.1,hQ s a w h.2 hr⟩
 | fuel+1,listed,s,a,w,hr,h=>by
  refine⟨λh0=>hQ s a w (h.1 h0) hr,λi hi=>?_⟩;have h1:=h.2 i hi;unfold aOp at h1;split
  ·rename_i ho;simp only[ho]at h1;exact pO hdst hQ fuel _ s a w hr h1
  ·rename_i o ho;simp only[ho]at h1;rcases h1 with h1|⟨s',hd,h1⟩
   ·obtain⟨hok,F,ι,hR,hdom,hV,_,_,_⟩:=hr;exact(h1 F w ι a hok hR (λid b hb=>(hdom id).1 ⟨b,hb⟩) hV).elim
   ·exact oM (K:=yH P ops Q' fuel (listed.setIfInBounds i true)) hd (λd h=>hdst i o d ho h) hr λa' w' hr'=>pO hdst hQ fuel _ s' a' w' hr' h1
def mZ.drew{N:Nat}{ds:List Deferred}{s:AS}{a:Act}{w:World}(h:mZ G N ds s a w)(d:Nat):mZ G N ds s a { w with drawn:=d }:=h.env ⟨rfl,rfl,rfl,0,by simp⟩
def aLj{rd:Bool}{WW:Code->(Exit->Act->World->Prop)->Act->World->Prop}(hW:WpR P rd WW){id N:Nat}{ds:List Deferred}{Q:AS->Prop}{Q':Exit->Act->World->Prop}{s:AS}{a:Act}{w:World}(hm:P.follows .mixedOrders=true)(hnd:rd=true->sS ops=true)(hB:bHg P ops=true)
  (hdst:∀(i:Nat) (o:Oper) (d:Tmp),ops[i]? = some o->o.dst=some d->d<N/\G.Z d=none) (hrel:mZ G N ds s a w) (h:yV P G ops Q ops.toList s) (hQ:∀s a w,Q s->mZ G N ds s a w->Q' .normal a w) :
  WW (.region id ops true) Q' a w:=by
 refine hW.regA hm hnd λd=>pO hdst hQ _ _ s a _ (hrel.drew d) ?_
 have:=aOx (P:=P) (G:=G) (Q:=Q) ops.toList 0 (AY ops.size false) s (λm om hm=>by simp only[Au,Array.getElem?_replicate]at hm;split at hm<;>cases hm) (by simp) (by rw[Array.length_toList];exact(Bool.and_eq_true_iff.1 hB).2) h
 simpa using this
end
def bJf:AV->Bool
 |.d (.i _ _)|.d (.b _)=>true
 |_=>false
def vD:HO->Bool
 |.cells _ cs=>cs.all bJf
 |_=>false
def cBa{F F':Nat->Prop}{w:World}{ι ι':Nat->Option Nat}{x:AV}{v:Value}(h:bJf x=true)(hv:V F w ι x v):V F' w ι' x v:=by
 unfold bJf at h;split at h
 ·cases hv with|d _ _ hv=>cases hv with|i=>exact .d _ _ (.i _ _)
 ·cases hv with|d _ _ hv=>cases hv with|b=>exact .d _ _ (.b _)
 ·cases h
def aWn{F F':Nat->Prop}{w:World}{ι ι':Nat->Option Nat}{o:HO}{ob:Obj}(h:vD o=true)(hc:CR F w ι o ob):CR F' w ι' o ob:=by
 cases hc with
 |cells e cs cur hl hh=>exact .cells _ _ _ hl λk c hk=>let ⟨u,h1,h2⟩:=hh k c hk;⟨u,h1,cBa (A3.1 h c (List.mem_of_getElem? hk)) h2⟩
 |map=>cases h
 |iter=>cases h
def aPb(P:Program)[M:Mch P](f:FuncId)(d0:D)(h:AV)(o:HO)(ds:List D)(o':HO):Prop :=
 ∀(A:Nat->Prop) (W:World) (vs:Array Value) (b:Nat),(∀k,A k->k<W.heap.size)->¬A b->b<W.heap.size->(∃ob,W.heap[b]? = some ob/\CR A W (ι1 b) o ob)->ds.length+2=vs.size ->
  (∃v,vs[0]? = some v/\VD A W d0 v)->(∃v,vs[1]? = some v/\V A W (ι1 b) h v)->(∀(k:Nat) d v,ds[k]? = some d->vs[k+2]? = some v->VD A W d v) ->
  (∀w,aK P (callFunc f vs) w=.ok (.enter f vs) w)/\CX P f vs W λv w'=>∃ob',Kept (·=b) W.heap.size W w'/\w'.heap[b]? = some ob' /\
   (∀cur e,W.heap[b]? = some (.cells cur e (0,0))->∃cur',ob'=.cells cur' e (0,0)/\cur'.size=cur.size) /\
   CR (λk=>A k\/(W.heap.size<=k/\k<w'.heap.size)) w' (ι1 b) o' ob'/\VD (λk=>A k\/(W.heap.size<=k/\k<w'.heap.size)) w' (.tp []) v
section
variable {P:Program} [M:Mch P] {G:Ctx} {C:Nat->Prop} {H K:Hp} {Γ:Nat->AV} {o:Oper}
def bMz{f:FuncId}{args:Array Operand}{ts:Array TypeId}{x y:Operand}{rest:List Operand}{d0:D}{ds:List D}{id:Nat}{h:AV}{ho ho':HO}{K':Hp}
  (hop_:o.op=.call { callee:=.value (.func f),args:=args,argTypes:=ts }) (hargs:args.toList=x::y::rest) (hHK:∀id ob,H id=some ob->K id=some ob) (hx0:oev Γ x=.d d0)
  (hx:hd1 (oev Γ y)=some (id,h)) (hH:H id=some ho) (hno:vD ho=true) (hnv:id ∉ bV H (rest.map (oev Γ))) (hCv:∀i∈bV H (rest.map (oev Γ)),¬C i) (hf:cI H (rest.map (oev Γ))=some ds) (hs:aPb P f d0 h ho ds ho')
  (hlen:ho'.len=ho.len) (hno':vD ho'=true) (hC:¬C id) (hK':K' id=some ho') (hsub:∀j o,j≠id->K' j=some o->K j=some o/\¬C j):Y P G o Γ C K K' (inj (.tp [])) bD bD:=by
 intro F w ι a hok hR hop _ next hnext
 have hargs':args=(x::y::rest).toArray:=by rw[<-hargs]
 have hop':∀z∈x::y::rest,V F w ι (oev Γ z) (a.eval z):=λz hz=>cH λt e=>hop t (by rw[hop_];subst e;simp only[AD,Bg];rw[hargs'];simpa using hz)
 obtain⟨b,hι,hv0⟩:=aNm (F':=reach F ι (bV H (rest.map (oev Γ)))) hx (hop' y (by simp))
 obtain⟨ob,hb,hcr⟩:=hR.obj id b ho hι (hHK _ _ hH)
 obtain⟨hl,hV,_⟩:=mT hR hHK hf λz hz=>hop' z (by simp[hz])
 have hmap:args.map a.eval=(a.eval x::a.eval y::rest.map a.eval).toArray:=by rw[hargs'];simp
 have hnF:¬F b:=(hR.place id b hι).2.2 hC
 have hd0:VD F w d0 (a.eval x):=by have:=hop' x (by simp);rw[hx0]at this;cases this with|d _ _ h=>exact h
 obtain⟨hent,hcalls⟩:=hs (reach F ι (bV H (rest.map (oev Γ)))) w (args.map a.eval) b (λk hk=>by
   rcases hk with hk|⟨i,hi,hk⟩
   ·exact hR.F_lt k hk
   ·exact hR.ι_lt hk) (λhk=>by
   rcases hk with hk|⟨i,hi,hk⟩
   ·exact hnF hk
   ·have:=hR.inj i id b hk hι (hCv i hi) hC;rw[this]at hi;exact hnv hi) (hR.ι_lt hι) ⟨ob,hb,aWn hno hcr⟩ (by rw[hmap];simp at hl ⊢;omega) ⟨a.eval x,by rw[hmap];simp,hd0.mono λc hc=>.inl hc⟩ ⟨a.eval y,by rw[hmap];simp,hv0⟩
  (λk d v hk hv=>hV k d v hk (by rw[hmap]at hv;simpa using hv))
 unfold wpX
 have hfe:a.eval (.func f)=.func (.func f) #[] #[]:=rfl
 simp only[execOp,hop_,resolve,invoke,Sem.run_bind,hfe,Deferred.ofValue,Sem.run_pure,Result.andThen_ok,Array.empty_append,Array.append_empty,hent,iV]
 refine hcalls.mono ?_
 rintro v w' ⟨ob',hk,hb',hshape,hcr',hvd⟩
 obtain⟨hR',hst⟩:=hR.write (K':=K') (ob':=ob') (ho:=ho') hC hι (hHK _ _ hH) hlen hk hb hb' (λcur e he=>hshape cur e (by rw[hb,he])) (λ_=>aWn hno' hcr') hK' hsub
 refine hnext _ w' ι v (hR'.congrC λid=>by simp[bD]) hst (λ_ _ h=>.inl h) (λ_ h=>h.elim) ?_
 cases hvd with
 |tp cs vs hl h=>exact .tp _ _ (by simpa using hl) λk c v hk _=>by simp at hk
end
structure St where
 Γ:Nat->AV
 H:Hp
 n:Nat
def kill(l:List Nat)(H:Hp):Hp:=match l with|[]=>H|_=>λid=>if id∈l then none else H id
def gT(H:Hp)(n:Nat)(nb:Option HO):Hp:=match nb with|some ho=>upd H n (some ho)|none=>H
def cnt(nb:Option HO)(n:Nat):Nat:=match nb with|some _=>n+1|none=>n
def tcH(H:Hp)(n r:Nat)(l:List Nat)(ro':HO)(hs':List HO):Hp:=λid =>
 if n<=id/\id<n+hs'.length then(hs'[id-n]?).map (tD (nuT r n))else if id=r then some (tD (nuT r n) ro')else if id∈l then none else H id
def TCo(P:Program)[M:Mch P](f:FuncId)(x:AV)(rest:List AV)(dst:Option Tmp)(σ:St)(con:List Nat)(k:St->List Nat->Prop):Prop :=
 0<σ.n/\∃(ν:Nat->Nat) (h:AV) (ro:HO) (hs:List HO) (ds:List D) (ro':HO) (hs':List HO) (r:D),x=aDx ν h/\pJ 0 h=true/\lf0 (hs.length+1) h=true/\(∀i j,i<hs.length+1->j<hs.length+1->ν i=ν j->i=j) /\
  (∀i ob,(ro::hs)[i]? = some ob->lfO (hs.length+1) ob=true/\σ.H (ν i)=some (tD ν ob))/\(∀i,0<i->i<hs.length+1->∃j ob,j<i/\(ro::hs)[j]? = some ob/\bZm i ob=true) /\
  bV σ.H rest=[]/\cI σ.H rest=some ds/\bWj P f h ro hs ds ro' hs' r/\k ⟨bI σ.Γ dst (inj r),tcH σ.H σ.n (ν 0) (nuL ν hs.length) ro' hs',σ.n+hs'.length⟩ (nuL ν hs.length++con)
def RCo(P:Program)[M:Mch P](f:FuncId)(x:AV)(rest:List AV)(dst:Option Tmp)(σ:St)(con:List Nat)(k:St->List Nat->Prop):Prop :=
 ∃(d0:D) (y:AV) (l:List AV) (id:Nat) (h:AV) (ho:HO) (ds:List D) (ho':HO),x=.d d0/\rest=y::l/\hd1 y=some (id,h)/\σ.H id=some ho/\vD ho=true/\id ∉ bV σ.H l/\cI σ.H l=some ds/\aPb P f d0 h ho ds ho'/\ho'.len=ho.len/\vD ho'=true /\
  k ⟨bI σ.Γ dst (inj (.tp [])),upd σ.H id (some ho'),σ.n⟩ con
def OC(P:Program)[M:Mch P](f:FuncId)(args:Array Operand)(dst:Option Tmp)(σ:St)(con:List Nat)(k:St->List Nat->Prop):Prop :=
 if aO P f then match args.toList with
  | x::rest=>match hd1 (oev σ.Γ x)with
   | some (id,h)=>match σ.H id with
    | some ho=>(∃g,rest=[]/\h=.mp 0/\aDo P f g/\k ⟨bI σ.Γ dst (.kf g id),σ.H,σ.n⟩ con) \/
     (kE ho=true/\bV σ.H (rest.map (oev σ.Γ))=[]/\∃ds ho' r,cI σ.H (rest.map (oev σ.Γ))=some ds/\kL P f h ho ds ho' r/\ho'.len=ho.len/\kE ho'=true /\
      k ⟨bI σ.Γ dst (inj r),upd σ.H id (some ho'),σ.n⟩ con)\/TCo P f (oev σ.Γ x) (rest.map (oev σ.Γ)) dst σ con k \/
     (kE ho=true/\id ∉ bV σ.H (rest.map (oev σ.Γ))/\∃ds r,cI σ.H (rest.map (oev σ.Γ))=some ds/\aOz P f h (some ho) ds r/\k ⟨bI σ.Γ dst (inj r),kill (id::bV σ.H (rest.map (oev σ.Γ))) σ.H,σ.n⟩ (id::bV σ.H (rest.map (oev σ.Γ))++con))
    |none=>False
   |none=>(aEb (oev σ.Γ x)=true/\∃ds r,cI σ.H (rest.map (oev σ.Γ))=some ds/\aOz P f (oev σ.Γ x) none ds r/\k ⟨bI σ.Γ dst (inj r),kill (bV σ.H (rest.map (oev σ.Γ))) σ.H,σ.n⟩ (bV σ.H (rest.map (oev σ.Γ))++con))\/RCo P f (oev σ.Γ x) (rest.map (oev σ.Γ)) dst σ con k
  |[]=>False
 else(aQ P f=true/\0<σ.n/\∃v hs,((∃ds,cI σ.H (args.toList.map (oev σ.Γ))=some ds/\bV σ.H (args.toList.map (oev σ.Γ))=[]/\sW P f ds v hs) \/
   ((args.toList.map (oev σ.Γ)).all aEb=true/\aDn P f (args.toList.map (oev σ.Γ)) v hs)) /\
  k ⟨bI σ.Γ dst (v σ.n),gX σ.H σ.n (hs σ.n),σ.n+(hs σ.n).length⟩ con)\/match args.toList.map (oev σ.Γ)with
  | [.kf g id]=>match σ.H id with
   |some (.map .i64 es)=>es.length<=1099511627776/\(es.map (·.1)).all inr=true/\tP P f g/\k ⟨bI σ.Γ dst (.d (.sl ((aNg (es.map (·.1))).map λn=>[.i .i64 n]))),σ.H,σ.n⟩ con
   |_=>False
  |avs=>∃ds r,cI σ.H avs=some ds/\Spec P f ds r/\k ⟨bI σ.Γ dst (inj r),kill (aZ σ.H avs r) σ.H,σ.n⟩ (aZ σ.H avs r++con)
def O1(P:Program)[M:Mch P](o:Oper)(σ:St)(con:List Nat)(k:St->List Nat->Prop):Prop :=
 match o.op with
 | .load t x=>match uQ P σ.H t (oev σ.Γ x)with
  |some v=>k ⟨bI σ.Γ o.dst v,σ.H,σ.n⟩ con
  |none=>False
 | .lookup t m x ok=>match aFu P σ.H t (oev σ.Γ m) (oev σ.Γ x) ok with
  |some v=>k ⟨bI σ.Γ o.dst v,σ.H,σ.n⟩ con
  |none=>False
 | .entry x=>match cAn σ.H (oev σ.Γ x)with
  |some v=>k ⟨bI σ.Γ o.dst v,σ.H,σ.n⟩ con
  |none=>False
 |.next _ _=>False
 | .store t ad x=>match nS P σ.H t (oev σ.Γ ad) (oev σ.Γ x)with
  |some (id,ho)=>k ⟨bI σ.Γ o.dst .un,upd σ.H id (some ho),σ.n⟩ con
  |none=>False
 | .mapUpdate t m x v=>match qG P σ.H t (oev σ.Γ m) (oev σ.Γ x) (some (oev σ.Γ v))with
  |some (id,ho)=>k ⟨bI σ.Γ o.dst .any,upd σ.H id (some ho),σ.n⟩ con
  |none=>False
 | .insert t m x v=>match qG P σ.H t (oev σ.Γ m) (oev σ.Γ x) (some (oev σ.Γ v))with
  |some (id,ho)=>k ⟨bI σ.Γ o.dst .any,upd σ.H id (some ho),σ.n⟩ con
  |none=>False
 |.call { callee:=.value (.func f),args:=args,argTypes:=_ }=>OC P f args o.dst σ con k
 | .call { callee:=.value (.tmp t),args:=args,argTypes:=_ }=>match dM (σ.Γ t)with
  | some (f,cs)=>∃ds r,cI σ.H (args.toList.map (oev σ.Γ)++cs)=some ds/\Spec P f ds r /\
    k ⟨bI σ.Γ o.dst (inj r),kill (aZ σ.H (args.toList.map (oev σ.Γ)++cs) r) σ.H,σ.n⟩ (aZ σ.H (args.toList.map (oev σ.Γ)++cs) r++con)
  | none=>match σ.Γ t with
   | .d (.fm f d)=>∃ds r,cI σ.H (.d d::args.toList.map (oev σ.Γ))=some ds/\Spec P f ds r /\
     k ⟨bI σ.Γ o.dst (inj r),kill (aZ σ.H (.d d::args.toList.map (oev σ.Γ)) r) σ.H,σ.n⟩ (aZ σ.H (.d d::args.toList.map (oev σ.Γ)) r++con)
   |_=>False
 | .call { callee:=.invoke (.tmp t) name,args:=args,argTypes:=_ }=>match σ.Γ t with
  | .d (.iff ty d)=>match aMx P ty name with
   | some f=>∃ds r,cI σ.H (.d d::args.toList.map (oev σ.Γ))=some ds/\Spec P f ds r /\
     k ⟨bI σ.Γ o.dst (inj r),kill (aZ σ.H (.d d::args.toList.map (oev σ.Γ)) r) σ.H,σ.n⟩ (aZ σ.H (.d d::args.toList.map (oev σ.Γ)) r++con)
   |none=>False
  |_=>False
 | .call { callee:=.builtin .append,args:=args,argTypes:=ts }=>match args.toList,ts.toList with
  | [s,x],[t,t']=>t=t'/\match aEh P σ.H t (oev σ.Γ s) (oev σ.Γ x) σ.n with
   |some (av,nb,cn)=>k ⟨bI σ.Γ o.dst av,gT (kill cn σ.H) σ.n nb,cnt nb σ.n⟩ (cn++con)
   |none=>False
  |_,_=>False
 | .call { callee:=.builtin .delete,args:=args,argTypes:=ts }=>match args.toList,ts.toList with
  | [m,x],[t,_]=>match qG P σ.H t (oev σ.Γ m) (oev σ.Γ x) none with
   |some (id,ho)=>k ⟨bI σ.Γ o.dst .any,upd σ.H id (some ho),σ.n⟩ con
   |none=>False
  |_,_=>False
 | .call { callee:=.builtin .len,args:=args,argTypes:=ts }=>if aRq P ts then(match args.toList with
   | [m]=>match aFp σ.H (oev σ.Γ m)with
    |some n=>k ⟨bI σ.Γ o.dst (.d (.i .i64 n)),σ.H,σ.n⟩ con
    |none=>False
   | _=>False)else kind P (.call { callee:=.builtin .len,args:=args,argTypes:=ts })=0/\match nev P (.call { callee:=.builtin .len,args:=args,argTypes:=ts }) σ.Γ σ.n with
    |some (av,nb)=>k ⟨bI σ.Γ o.dst av,gT σ.H σ.n nb,cnt nb σ.n⟩ con
    |none=>False
 | op=>kind P op=0/\match nev P op σ.Γ σ.n with
  |some (av,nb)=>k ⟨bI σ.Γ o.dst av,gT σ.H σ.n nb,cnt nb σ.n⟩ con
  |none=>False
def OW(P:Program)[M:Mch P](ops:Array Oper):List Oper->St->List Nat->(St->List Nat->Prop)->Prop
 |[],σ,con,k=>k σ con
 | o::l,σ,con,k=>match cV ops o σ.Γ with
  |some true=>O1 P o σ con λσ' con'=>OW P ops l σ' con' k
  |some false=>OW P ops l ⟨bI σ.Γ o.dst .un,σ.H,σ.n⟩ con k
  |none=>False
def aKl{H:Hp}{i:Nat}:∀(n:Nat) (x:AV),i∈vis H n x->∃ob,H i=some ob
 |0,_,h=>by cases h
 | n+1,x,h=>by
  have hl:∀cs:List AV,i∈cs.flatMap (vis H n)->∃ob,H i=some ob:=λcs hc=>by obtain⟨y,_,hy⟩:=BJ.1 hc;exact aKl n y hy
  cases x with
  | own id off len sz =>
   simp only[vis]at h;split at h
   ·rename_i hH;rcases Bn.1 h with rfl|h
    ·exact⟨_,hH⟩
    ·exact hl _ h
   ·cases h
  | ptr id off =>
   simp only[vis]at h;split at h
   ·rename_i hH;rcases Bn.1 h with rfl|h
    ·exact⟨_,hH⟩
    ·exact hl _ h
   ·cases h
  | mp id =>
   simp only[vis]at h;split at h
   ·rename_i hH;rcases Bn.1 h with rfl|h
    ·exact⟨_,hH⟩
    ·exact hl _ h
   ·cases h
  |fn f cs=>exact hl _ h
  |ag cs=>exact hl _ h
  |tp cs=>exact hl _ h
  |_=>cases h
def wE{H:Hp}{i:Nat}{l:List AV}{ds:List D}(_:cI H l=some ds)(h:i∈bV H l):∃ob,H i=some ob:=by obtain⟨y,_,hy⟩:=BJ.1 h;exact aKl 8 y hy
structure Wf(σ:St)(con:List Nat):Prop where
 top:∀id,σ.n<=id->σ.H id=none
 con:∀id∈con,id<σ.n/\σ.H id=none
structure dI(σ:St)(con:List Nat)(s:AS):Prop where
 Γ:s.Γ=σ.Γ
 T:∀id,s.T id↔id∈con
 K:∀id o,σ.H id=some o->s.K id=some o
 U:∀id,s.U id↔((σ.H id).isSome=true\/id∈con)
section
variable {P:Program} [M:Mch P] {G:Ctx} {ops:Array Oper}
def iN{l:List Nat}{H:Hp}{id:Nat}{o:HO}(h:kill l H id=some o):H id=some o/\id ∉ l:=by
 unfold kill at h;split at h
 ·exact⟨h,by simp⟩
 ·simp only at h;split at h
  ·cases h
  ·exact⟨h,by assumption⟩
def lM{l:List Nat}{H:Hp}{id:Nat}(h:id∈l):kill l H id=none:=by
 unfold kill;split
 ·cases h
 ·simp only;rw[Aq h]
def nH{l:List Nat}{H:Hp}{id:Nat}(h:id ∉ l):kill l H id=H id:=by
 unfold kill;split
 ·rfl
 ·simp only;rw[Ai h]
def aXg{H:Hp}{t:TypeId}{ad x:AV}{id:Nat}{ho:HO}(h:nS P H t ad x=some (id,ho)):∃off old,ad=.ptr id off/\H id=some old:=by
 unfold nS at h;split at h
 ·split at h
  ·rename_i hH;obtain⟨vs,hvs,h⟩:=Ad.1 h;obtain⟨sz,hsz,h⟩:=Ad.1 h;split at h
   ·injection h with h;injection h with h1 h2;subst h1;exact⟨_,_,rfl,hH⟩
   ·cases h
  ·cases h
 ·cases h
def aKj(H:Hp):∀(n:Nat) (x:AV) (id:Nat),id∈vis H n x->∃o,H id=some o
 |0,x,id,h=>by simp[vis]at h
 | n+1,x,id,h=>by
  have ih:=aKj H n;unfold vis at h;split at h
  ·split at h
   ·rename_i e cs hH;rcases Bn.1 h with rfl|h
    ·exact⟨_,hH⟩
    ·obtain⟨c,_,hc⟩:=BJ.1 h;exact ih c id hc
   ·cases h
  ·split at h
   ·rename_i e cs hH;rcases Bn.1 h with rfl|h
    ·exact⟨_,hH⟩
    ·obtain⟨c,_,hc⟩:=BJ.1 h;exact ih c id hc
   ·cases h
  ·obtain⟨c,_,hc⟩:=BJ.1 h;exact ih c id hc
  ·obtain⟨c,_,hc⟩:=BJ.1 h;exact ih c id hc
  ·obtain⟨c,_,hc⟩:=BJ.1 h;exact ih c id hc
  ·split at h
   ·rename_i e cs hH;rcases Bn.1 h with rfl|h
    ·exact⟨_,hH⟩
    ·obtain⟨c,_,hc⟩:=BJ.1 h;exact ih c id hc
   ·cases h
  ·cases h
def gA{H:Hp}{l:List AV}{r:D}{id:Nat}(h:id∈aZ H l r):∃o,H id=some o:=by
 unfold aZ at h;split at h
 ·cases h
 ·obtain⟨c,_,hc⟩:=BJ.1 h;exact aKj H 8 c id hc
def aOt{H:Hp}{t:TypeId}{s x:AV}{n:Nat}{av:AV}{nb:Option HO}{cn:List Nat}(h:aEh P H t s x n=some (av,nb,cn)) :
  ∀id∈cn,(∃o,H id=some o)/\∃off len sz,s=.own id off len sz:=by
 unfold aEh at h
 obtain⟨e,_,h⟩:=Ad.1 h
 obtain⟨sz,_,h⟩:=Ad.1 h
 obtain⟨bt,_,h⟩:=Ad.1 h
 obtain⟨z,_,h⟩:=Ad.1 h
 obtain⟨p,_,h⟩:=Ad.1 h
 split at h
 ·split at h
  ·split at h
   ·injection h with h;injection h with _ h;injection h with _ h;subst h;intro id hid;cases hid
   ·split at h
    ·injection h with h;injection h with _ h;injection h with _ h;subst h;intro id hid;cases hid
    ·cases h
  ·split at h
   ·rename_i hH
    split at h
    ·injection h with h;injection h with _ h;injection h with _ h;subst h
     intro id hid
     simp only[List.mem_singleton]at hid;subst hid
     exact⟨⟨_,hH⟩,_,_,_,rfl⟩
    ·cases h
   ·cases h
  ·split at h
   ·injection h with h;injection h with _ h;injection h with _ h;subst h;intro id hid;cases hid
   ·split at h
    ·injection h with h;injection h with _ h;injection h with _ h;subst h;intro id hid;cases hid
    ·cases h
  ·cases h
 ·cases h
def uX{Γ:Nat->AV}{x:Operand}{id:Nat}{h:AV}(he:hd1 (oev Γ x)=some (id,h)):∃ts,x=.tmp ts/\pJ id (Γ ts)=true:=by
 cases x with
 | tmp ts =>
  refine⟨ts,rfl,?_⟩;simp only[oev]at he;unfold hd1 at he;split at he<;>first|(cases he;done)|(injection he with he;injection he with e1 _;subst e1;simp_all [pJ])
 | const v =>
  exfalso;simp only[oev,cv]at he;split at he
  ·cases he
  ·unfold cv1 at he;split at he<;>cases he
 |global g=>cases he
 |func f=>cases he
def aIt{H:Hp}{t:TypeId}{m x:AV}{v:Option AV}{id:Nat}{ho:HO}(h:qG P H t m x v=some (id,ho)):∃old,m=.mp id/\H id=some old/\ho.len=old.len:=by
 unfold qG at h;split at h
 ·split at h
  ·rename_i hH;obtain⟨p,_,h⟩:=Ad.1 h;split at h
   ·split at h
    ·injection h with h;injection h with e1 e2;subst e1;subst e2;exact⟨_,rfl,hH,rfl⟩
    ·cases h
   ·cases h
  ·cases h
 ·cases h
def qY{k:St->List Nat->Prop}:∀(l:List Oper) (σ:St) (con:List Nat),fQ l=true->(σ.n=0->∀b,G.P0 b)->Wf σ con->OW P ops l σ con k ->
  ∃fb:Hp,∀s,dI σ con s->(∀id,σ.n<=id->s.K id=fb id)->yV P G ops (λs'=>∃σ' con',k σ' con'/\(σ'.n=0->∀b,G.P0 b)/\Wf σ' con'/\dI σ' con' s') l s
 |[],σ,con,_,hn0,hwf,h=>⟨λ_=>none,λs hs _=>⟨σ,con,h,hn0,hwf,hs⟩⟩
 | o::l,σ,con,hnn,hn0,hwf,h=>by
  simp only[fQ,List.all_cons,A8,Bool.not_eq_true']at hnn;have ih:=λσ con=>qY (k:=k) l σ con (by simpa[fQ]using hnn.2)
  unfold OW at h
  -- a step that makes no block
  have pure0:∀(av:AV) (con':List Nat) (H':Hp),H'=kill con' σ.H->(∀id∈con',(σ.H id).isSome=true)->OW P ops l ⟨bI σ.Γ o.dst av,H',σ.n⟩ (con'++con) k ->
    (∀s,dI σ con s->Ev P G o s.Γ s.T s.K s.K av bD (λi=>i∈con'))->cV ops o σ.Γ=some true ->
    ∃fb:Hp,∀s,dI σ con s->(∀id,σ.n<=id->s.K id=fb id)->yV P G ops (λs'=>∃σ' con',k σ' con'/\(σ'.n=0->∀b,G.P0 b)/\Wf σ' con'/\dI σ' con' s') (o::l) s:=by
   intro av con' H' hH' hc' hk hev hw
   subst hH'
   have hwf':Wf ⟨bI σ.Γ o.dst av,kill con' σ.H,σ.n⟩ (con'++con):=by
    refine⟨λid hid=>?_,λid hid=>?_⟩
    ·cases hx:kill con' σ.H id with
     |none=>exact hx
     |some o'=>have:=(iN hx).1;rw[hwf.top id hid]at this;cases this
    ·rcases BP.1 hid with hid|hid
     ·refine⟨?_,lM hid⟩;have:=hc' id hid;rcases A4 id σ.n with h|h
      ·exact h
      ·rw[hwf.top id h]at this;cases this
     ·obtain⟨h1,h2⟩:=hwf.con id hid;refine⟨h1,?_⟩;cases hx:kill con' σ.H id with
      |none=>exact hx
      |some o'=>have:=(iN hx).1;rw[h2]at this;cases this
   obtain⟨fb,hfb⟩:=ih _ _ (by exact hn0) hwf' hk
   refine⟨fb,λs hs hsfb=>⟨_,.yes av bD (λi=>i∈con') s.K (by rw[hs.Γ];exact hw) (hev s hs) (λ_ h=>h.elim) (λ_ h=>h.elim) (λh=>h.elim),hfb _ ?_ hsfb⟩⟩
   refine⟨by rw[hs.Γ],λid=>by simp[hs.T,or_comm],λid o' h=>hs.K id o' (iN h).1,λid=>?_⟩
   simp only[hs.U,bD,Fg,BP]
   by_cases hid:id∈con'
   ·simp[hid,hc' id hid,lM hid]
   ·rw[nH hid];simp[hid]
  -- a step that makes block n
  have new1:∀(av:AV) (con':List Nat) (ho:HO),(∀id∈con',(σ.H id).isSome=true)->OW P ops l ⟨bI σ.Γ o.dst av,upd (kill con' σ.H) σ.n (some ho),σ.n+1⟩ (con'++con) k ->
    (∀s,dI σ con s->s.K σ.n=some ho->Ev P G o s.Γ s.T s.K s.K av (·=σ.n) (λi=>i∈con'))->cV ops o σ.Γ=some true ->
    ∃fb:Hp,∀s,dI σ con s->(∀id,σ.n<=id->s.K id=fb id)->yV P G ops (λs'=>∃σ' con',k σ' con'/\(σ'.n=0->∀b,G.P0 b)/\Wf σ' con'/\dI σ' con' s') (o::l) s:=by
   intro av con' ho hc' hk hev hw
   have hlt:∀id∈con',id<σ.n:=λid hid=>by
    have:=hc' id hid;rcases A4 id σ.n with h|h
    ·exact h
    ·rw[hwf.top id h]at this;cases this
   have hwf':Wf ⟨bI σ.Γ o.dst av,upd (kill con' σ.H) σ.n (some ho),σ.n+1⟩ (con'++con):=by
    refine⟨λid hid=>?_,λid hid=>?_⟩
    ·simp only at hid ⊢;rw[upd_ne _ _ (by omega)];cases hx:kill con' σ.H id with
     |none=>rfl
     |some o'=>have:=(iN hx).1;rw[hwf.top id (by omega)]at this;cases this
    ·simp only;rcases BP.1 hid with hid|hid
     ·have:=hlt id hid;exact⟨by omega,by rw[upd_ne _ _ (by omega)];exact lM hid⟩
     ·obtain⟨h1,h2⟩:=hwf.con id hid;refine⟨by omega,?_⟩;rw[upd_ne _ _ (by omega)];cases hx:kill con' σ.H id with
      |none=>rfl
      |some o'=>have:=(iN hx).1;rw[h2]at this;cases this
   obtain⟨fb,hfb⟩:=ih _ _ (λh=>by simp at h) hwf' hk
   refine⟨upd fb σ.n (some ho),λs hs hsfb=>?_⟩
   have hKn:s.K σ.n=some ho:=by rw[hsfb _ (Ay _),upd_same]
   refine⟨_,.yes av (·=σ.n) (λi=>i∈con') s.K (by rw[hs.Γ];exact hw) (hev s hs hKn) ?_ ?_ (λh=>hn0 h.symm),hfb _ ?_ λid hid=>?_⟩
   ·rintro id rfl hu
    rcases(hs.U σ.n).1 hu with h|h
    ·rw[hwf.top _ (Ay _)]at h;cases h
    ·have:=(hwf.con _ h).1;omega
   ·rintro id rfl ht
    have:=(hwf.con _ ((hs.T σ.n).1 ht)).1;omega
   ·refine⟨by rw[hs.Γ],λid=>by simp[hs.T,or_comm],λid o' h=>?_,λid=>?_⟩
    ·simp only at h
     by_cases hid:id=σ.n
     ·subst hid;rw[upd_same]at h;rw[<-h];exact hKn
     ·rw[upd_ne _ _ hid]at h;exact hs.K id o' (iN h).1
    ·simp only[hs.U,BP]
     by_cases hid:id=σ.n
     ·subst hid;simp[upd_same]
     ·rw[upd_ne _ _ hid]
      by_cases hc:id∈con'
      ·simp[hc,hc' id hc,lM hc]
      ·rw[nH hc];simp[hid,hc]
   ·simp only at hid
    rw[hsfb id (by omega),upd_ne _ _ (by omega)]
  -- a step that makes blocks n, n + 1, ..
  have newk:∀(av:AV) (hs0:List HO),0<σ.n->OW P ops l ⟨bI σ.Γ o.dst av,gX σ.H σ.n hs0,σ.n+hs0.length⟩ con k ->
    (∀s,dI σ con s->(∀i ob,hs0[i]? = some ob->s.K (σ.n+i)=some ob)->Ev P G o s.Γ s.T s.K s.K av (λi=>σ.n<=i/\i<σ.n+hs0.length) bD)->cV ops o σ.Γ=some true ->
    ∃fb:Hp,∀s,dI σ con s->(∀id,σ.n<=id->s.K id=fb id)->yV P G ops (λs'=>∃σ' con',k σ' con'/\(σ'.n=0->∀b,G.P0 b)/\Wf σ' con'/\dI σ' con' s') (o::l) s:=by
   intro av hs0 hpos hk hev hw
   have hwf':Wf ⟨bI σ.Γ o.dst av,gX σ.H σ.n hs0,σ.n+hs0.length⟩ con:=by
    refine⟨λid hid=>?_,λid hid=>?_⟩
    ·simp only[gX]at hid ⊢;rw[Ai (by omega)];exact hwf.top id (by omega)
    ·obtain⟨h1,h2⟩:=hwf.con id hid;simp only[gX];exact⟨by omega,by rw[Ai (by omega)];exact h2⟩
   obtain⟨fb,hfb⟩:=ih _ _ (λh=>by simp only at h;omega) hwf' hk
   refine⟨gX fb σ.n hs0,λs hs hsfb=>?_⟩
   have hKn:∀i ob,hs0[i]? = some ob->s.K (σ.n+i)=some ob:=λi ob hi=>by have hlt:=(Ao.1 hi).1;rw[hsfb _ (by omega)];simp only[gX];rw[Aq ⟨by omega,by omega⟩,show σ.n+i-σ.n=i by omega];exact hi
   refine⟨_,.yes av (λi=>σ.n<=i/\i<σ.n+hs0.length) bD s.K (by rw[hs.Γ];exact hw) (hev s hs hKn) ?_ ?_ (λh=>by omega),hfb _ ?_ λid hid=>?_⟩
   ·rintro id ⟨h1,_⟩ hu
    rcases(hs.U id).1 hu with h|h
    ·rw[hwf.top _ h1]at h;cases h
    ·have:=(hwf.con _ h).1;omega
   ·rintro id ⟨h1,_⟩ ht
    have:=(hwf.con _ ((hs.T id).1 ht)).1;omega
   ·refine⟨by rw[hs.Γ],λid=>by simp[hs.T,bD],λid o' h=>?_,λid=>?_⟩
    ·simp only[gX]at h
     split at h
     ·rename_i hr
      have:=hKn (id-σ.n) o' h
      rwa [show σ.n+(id-σ.n)=id by omega]at this
     ·exact hs.K id o' h
    ·simp only[hs.U,gX]
     by_cases hr:σ.n<=id/\id<σ.n+hs0.length
     ·rw[Aq hr,Ab (by omega)];simp[hr]
     ·rw[Ai hr];simp[hr]
   ·simp only at hid
    rw[hsfb id (by omega)]
    simp only[gX]
    rw[Ai (by omega)]
  -- a step that writes into a block
  have write1:∀(av:AV) (id:Nat) (ho old:HO) (ts:Nat),CN ts∈o.op.operands->pJ id (σ.Γ ts)=true->σ.H id=some old->kind P o.op=2->OW P ops l ⟨bI σ.Γ o.dst av,upd σ.H id (some ho),σ.n⟩ con k ->
    (∀(T2:Nat->Prop) (K2:Hp),K2 id=some old->¬T2 id->Y P G o σ.Γ T2 K2 (mN K2 T2 id ho) av bD bD)->cV ops o σ.Γ=some true ->
    ∃fb:Hp,∀s,dI σ con s->(∀id,σ.n<=id->s.K id=fb id)->yV P G ops (λs'=>∃σ' con',k σ' con'/\(σ'.n=0->∀b,G.P0 b)/\Wf σ' con'/\dI σ' con' s') (o::l) s:=by
   intro av id ho old ts hts hΓ hold hkd h hY hw
   have hwf':Wf ⟨bI σ.Γ o.dst av,upd σ.H id (some ho),σ.n⟩ con:=by
    refine⟨λi hi=>?_,λi hi=>?_⟩
    ·simp only at hi ⊢;rw[upd_ne _ _ (λe=>by rw[e]at hi;rw[hwf.top id hi]at hold;cases hold)];exact hwf.top i hi
    ·obtain⟨h1,h2⟩:=hwf.con i hi;refine⟨h1,?_⟩;simp only;rw[upd_ne _ _ (λe=>by rw[e]at h2;rw[h2]at hold;cases hold)];exact h2
   obtain⟨fb,hfb⟩:=ih _ _ (by exact hn0) hwf' h
   refine⟨fb,λs hs hsfb=>?_⟩
   have hidn:id<σ.n:=by
    rcases A4 id σ.n with h|h
    ·exact h
    ·rw[hwf.top id h]at hold;cases hold
   have hnT:¬s.T id:=λh=>by have:=(hwf.con id ((hs.T id).1 h)).2;rw[this]at hold;cases hold
   refine⟨_,.yes av bD bD (mN s.K s.T id ho) (by rw[hs.Γ];exact hw) (.inr (.inr (.inl ⟨hkd,rfl,rfl,id,ts,old,ho,hts,by rw[hs.Γ];exact hΓ,hs.K _ _ hold,hnT,rfl,λT2 K2 hK2 hT2=>by rw[hs.Γ];exact hY T2 K2 hK2 hT2⟩))) (λ_ h=>h.elim) (λ_ h=>h.elim) (λh=>h.elim),hfb _ ?_ λi hi=>?_⟩
   ·refine⟨by rw[hs.Γ],λi=>by simp[hs.T,bD],λi o' h=>?_,λi=>?_⟩
    ·simp only at h ⊢
     by_cases hid:i=id
     ·subst hid;rw[upd_same]at h;unfold mN;rw[Aq rfl];exact h
     ·rw[upd_ne _ _ hid]at h
      rw[rA hid (λht=>by have:=(hwf.con i ((hs.T i).1 ht)).2;rw[this]at h;cases h)]
      exact hs.K i o' h
    ·simp only[hs.U,bD,Fg]
     by_cases hid:i=id
     ·subst hid;simp[upd_same,hold]
     ·rw[upd_ne _ _ hid]
   ·simp only at hi
    show mN s.K s.T id ho i=fb i
    rw[rA (by omega) (λht=>by have:=(hwf.con i ((hs.T i).1 ht)).1;omega)]
    exact hsfb i hi
  -- a step that turns a structure
  have stepG:∀(av:AV) (ν:Nat->Nat) (ro:HO) (hs0:List HO) (ro':HO) (hs':List HO),0<σ.n->(∀i j,i<hs0.length+1->j<hs0.length+1->ν i=ν j->i=j)->(∀i ob,(ro::hs0)[i]? = some ob->σ.H (ν i)=some (tD ν ob))->kind P o.op=2 ->
    OW P ops l ⟨bI σ.Γ o.dst av,tcH σ.H σ.n (ν 0) (nuL ν hs0.length) ro' hs',σ.n+hs'.length⟩ (nuL ν hs0.length++con) k ->
    (∀s,dI σ con s->∀i,i<hs0.length+1->∀F w ι T2 (a:Act),HR G F w ι T2 s.K->(∀t,CN t∈o.op.operands->V F w ι (s.Γ t) (a.tmps.getD t undef))->∃b,ι (ν i)=some b) ->
    (∀s,dI σ con s->(∀j ob,hs'[j]? = some ob->s.K (σ.n+j)=some (tD (nuT (ν 0) σ.n) ob))->∀(T2:Nat->Prop) (K2:Hp),(∀id,(∃i,i<hs0.length+1/\ν i=id)->¬T2 id/\K2 id=s.K id)->(∀id,(σ.n<=id/\id<σ.n+hs'.length)->¬T2 id/\K2 id=s.K id) ->
     Y P G o s.Γ T2 K2 (jZ K2 T2 (λid=>∃i,i<hs0.length+1/\ν i=id) λid=>if id=ν 0 then some (tD (nuT (ν 0) σ.n) ro')else none) av (λi=>σ.n<=i/\i<σ.n+hs'.length) (λi=>∃j,0<j/\j<hs0.length+1/\ν j=i)) ->
    cV ops o σ.Γ=some true ->
    ∃fb:Hp,∀s,dI σ con s->(∀id,σ.n<=id->s.K id=fb id)->yV P G ops (λs'=>∃σ' con',k σ' con'/\(σ'.n=0->∀b,G.P0 b)/\Wf σ' con'/\dI σ' con' s') (o::l) s:=by
   intro av ν ro hs0 ro' hs' hpos hνi hνH hkd hk hlive hY hw
   have hget:∀i,i<hs0.length+1->∃ob,(ro::hs0)[i]? = some ob:=λi hi=>⟨_,Ab (by simpa using hi)⟩
   have hlt:∀i,i<hs0.length+1->ν i<σ.n:=λi hi=>by
    obtain⟨ob,ho⟩:=hget i hi;have h1:=hνH i ob ho;rcases A4 (ν i) σ.n with h|h
    ·exact h
    ·rw[hwf.top _ h]at h1;cases h1
   have h0l:ν 0 ∉ nuL ν hs0.length:=λh=>by obtain⟨j,h1,h2,h3⟩:=uN.1 h;have:=hνi j 0 h2 (by omega) h3;omega
   have hwf':Wf ⟨bI σ.Γ o.dst av,tcH σ.H σ.n (ν 0) (nuL ν hs0.length) ro' hs',σ.n+hs'.length⟩ (nuL ν hs0.length++con):=by
    refine⟨λid hid=>?_,λid hid=>?_⟩
    ·simp only at hid;have h00:=hlt 0 (by omega);simp only[tcH];rw[Ai (by omega),Ai (by omega)];split
     ·rfl
     ·exact hwf.top id (by omega)
    ·rcases BP.1 hid with hid|hid
     ·obtain⟨j,h1,h2,rfl⟩:=uN.1 hid;have:=hlt j h2;refine⟨by simp only;omega,?_⟩;simp only[tcH];rw[Ai (by omega),Ai (λe=>h0l (by rw[<-e];exact hid)),Aq hid]
     ·obtain⟨h1,h2⟩:=hwf.con id hid;refine⟨by simp only;omega,?_⟩;simp only[tcH];rw[Ai (by omega),Ai (λe=>by
       obtain⟨ob,ho⟩:=hget 0 (by omega);have:=hνH 0 ob ho;rw[<-e,h2]at this;cases this)]
      split
      ·rfl
      ·exact h2
   obtain⟨fb,hfb⟩:=ih _ _ (λh=>by simp only at h;omega) hwf' hk
   refine⟨λid=>if σ.n<=id/\id<σ.n+hs'.length then(hs'[id-σ.n]?).map (tD (nuT (ν 0) σ.n))else fb id,λs hs hsfb=>?_⟩
   have hKn:∀j ob,hs'[j]? = some ob->s.K (σ.n+j)=some (tD (nuT (ν 0) σ.n) ob):=λj ob hj=>by have hl:=(Ao.1 hj).1;rw[hsfb _ (by omega)];simp only;rw[Aq ⟨by omega,by omega⟩,show σ.n+j-σ.n=j by omega,hj];rfl
   have hTn:∀id,s.T id->id<σ.n/\σ.H id=none:=λid h=>hwf.con id ((hs.T id).1 h)
   have hST:∀id,(∃i,i<hs0.length+1/\ν i=id)->¬s.T id:=λid ⟨i,hi,he⟩ ht=>by obtain⟨ob,ho⟩:=hget i hi;have h1:=hνH i ob ho;rw[he,(hTn id ht).2]at h1;cases h1
   refine⟨_,.yes av (λi=>σ.n<=i/\i<σ.n+hs'.length) (λi=>∃j,0<j/\j<hs0.length+1/\ν j=i) (jZ s.K s.T (λid=>∃i,i<hs0.length+1/\ν i=id) λid=>if id=ν 0 then some (tD (nuT (ν 0) σ.n) ro')else none) (by rw[hs.Γ];exact hw)
    (.inr (.inr (.inr ⟨hkd,_,_,hST,λid ⟨j,_,h2,h3⟩=>⟨j,h2,h3⟩,λid h1 ⟨i,hi,he⟩=>by have:=hlt i hi;omega,λid ⟨i,hi,he⟩ F w ι T2 a hR hopr=>by rw[<-he];exact hlive s hs i hi F w ι T2 a hR hopr,rfl,λT2 K2 h1 h2=>hY s hs hKn T2 K2 h1 h2⟩))) ?_ ?_ (λh=>by omega),hfb _ ?_ λid hid=>?_⟩
   ·rintro id ⟨h1,_⟩ hu
    rcases(hs.U id).1 hu with h|h
    ·rw[hwf.top _ h1]at h;cases h
    ·have:=(hwf.con _ h).1;omega
   ·rintro id ⟨h1,_⟩ ht
    have:=(hTn id ht).1;omega
   ·refine⟨by rw[hs.Γ],λid=>?_,λid o' h=>?_,λid=>?_⟩
    ·simp only[hs.T,BP,uN]
     constructor
     ·rintro(h|h)
      ·exact .inr h
      ·exact .inl h
     ·rintro(h|h)
      ·exact .inr h
      ·exact .inl h
    ·simp only[tcH]at h
     simp only[jZ]
     split at h
     ·rename_i hr
      have hnS:¬∃i,i<hs0.length+1/\ν i=id:=λ⟨i,hi,he⟩=>by have:=hlt i hi;omega
      rw[Ai hnS,Ai (λht=>by have:=(hTn id ht).1;omega)]
      obtain⟨ob,ho,rfl⟩:=Af.1 h
      have:=hKn (id-σ.n) ob ho
      rwa [show σ.n+(id-σ.n)=id by omega]at this
     ·split at h
      ·rename_i hr e
       subst e
       rw[Aq ⟨0,by omega,rfl⟩,Aq rfl];exact h
      ·split at h
       ·cases h
       ·rename_i hr e1 e2
        have hnS:¬∃i,i<hs0.length+1/\ν i=id:=λ⟨i,hi,he⟩=>by
         rcases Nat.eq_zero_or_pos i with rfl|hp
         ·exact e1 he.symm
         ·exact e2 (uN.2 ⟨i,hp,hi,he⟩)
        rw[Ai hnS,Ai (λht=>by rw[(hTn id ht).2]at h;cases h)]
        exact hs.K id o' h
    ·simp only[hs.U,BP,tcH]
     by_cases hr:σ.n<=id/\id<σ.n+hs'.length
     ·rw[Aq hr,Ab (by omega)];simp[hr]
     ·rw[Ai hr]
      by_cases e1:id=ν 0
      ·subst e1
       rw[Aq rfl]
       obtain⟨ob,ho⟩:=hget 0 (by omega)
       simp[hνH 0 ob ho]
      ·rw[Ai e1]
       by_cases e2:id∈nuL ν hs0.length
       ·rw[Aq e2]
        obtain⟨j,h1,h2,h3⟩:=uN.1 e2
        obtain⟨ob,ho⟩:=hget j h2
        have:=hνH j ob ho
        rw[h3]at this
        simp[e2,this]
       ·rw[Ai e2];simp[e2,hr]
   ·simp only at hid
    simp only[jZ]
    rw[Ai (λ⟨i,hi,he⟩=>by have:=hlt i hi;omega),Ai (λht=>by have:=(hTn id ht).1;omega),hsfb id (by omega)]
    simp only
    rw[Ai (by omega)]
  -- a step that uses blocks up and writes into them
  have stepU:∀(av:AV) (ids:List Nat),(∀i,i∈ids->∃ob,σ.H i=some ob)->kind P o.op=2->OW P ops l ⟨bI σ.Γ o.dst av,kill ids σ.H,σ.n⟩ (ids++con) k ->
    (∀s,dI σ con s->∀i,i∈ids->∀F w ι T2 (a:Act),HR G F w ι T2 s.K->(∀t,CN t∈o.op.operands->V F w ι (s.Γ t) (a.tmps.getD t undef))->∃b,ι i=some b) ->
    (∀s,dI σ con s->∀(T2:Nat->Prop) (K2:Hp),(∀id,id∈ids->¬T2 id/\K2 id=s.K id)->Y P G o s.Γ T2 K2 (jZ K2 T2 (λid=>id∈ids) λ_=>none) av bD (λi=>i∈ids)) ->
    cV ops o σ.Γ=some true ->
    ∃fb:Hp,∀s,dI σ con s->(∀id,σ.n<=id->s.K id=fb id)->yV P G ops (λs'=>∃σ' con',k σ' con'/\(σ'.n=0->∀b,G.P0 b)/\Wf σ' con'/\dI σ' con' s') (o::l) s:=by
   intro av ids hids hkd hk hlive hY hw
   have hlt:∀i,i∈ids->i<σ.n:=λi hi=>by
    obtain⟨ob,h1⟩:=hids i hi;rcases A4 i σ.n with h|h
    ·exact h
    ·rw[hwf.top _ h]at h1;cases h1
   have hwf':Wf ⟨bI σ.Γ o.dst av,kill ids σ.H,σ.n⟩ (ids++con):=by
    refine⟨λid hid=>?_,λid hid=>?_⟩
    ·simp only at hid ⊢;cases hk:kill ids σ.H id with
     |none=>rfl
     |some ob=>have:=(iN hk).1;rw[hwf.top id hid]at this;cases this
    ·rcases BP.1 hid with hid|hid
     ·exact⟨hlt id hid,lM hid⟩
     ·obtain⟨h1,h2⟩:=hwf.con id hid;refine⟨h1,?_⟩;simp only;rw[nH λhm=>by obtain⟨ob,h3⟩:=hids id hm;rw[h2]at h3;cases h3];exact h2
   obtain⟨fb,hfb⟩:=ih _ _ (by exact hn0) hwf' hk
   refine⟨fb,λs hs hsfb=>?_⟩
   have hTn:∀id,s.T id->id<σ.n/\σ.H id=none:=λid h=>hwf.con id ((hs.T id).1 h)
   have hST:∀id,id∈ids->¬s.T id:=λid hi ht=>by obtain⟨ob,h1⟩:=hids id hi;rw[(hTn id ht).2]at h1;cases h1
   refine⟨_,.yes av bD (λi=>i∈ids) (jZ s.K s.T (λid=>id∈ids) λ_=>none) (by rw[hs.Γ];exact hw)
    (.inr (.inr (.inr ⟨hkd,_,_,hST,λid h=>h,λid h=>h.elim,λid hi F w ι T2 a hR hopr=>hlive s hs id hi F w ι T2 a hR hopr,rfl,λT2 K2 h1 _=>hY s hs T2 K2 h1⟩))) (λ_ h=>h.elim) (λ_ h=>h.elim) (λh=>h.elim),hfb _ ?_ λid hid=>?_⟩
   ·refine⟨by rw[hs.Γ],λid=>?_,λid o' h=>?_,λid=>?_⟩
    ·simp only[hs.T,BP]
     constructor
     ·rintro(h|h)
      ·exact .inr h
      ·exact .inl h
     ·rintro(h|h)
      ·exact .inr h
      ·exact .inl h
    ·obtain⟨h1,h2⟩:=iN h
     simp only[jZ]
     rw[Ai h2,Ai λht=>by rw[(hTn id ht).2]at h1;cases h1]
     exact hs.K id o' h1
    ·simp only[hs.U,BP,bD,Fg]
     by_cases e:id∈ids
     ·obtain⟨ob,h1⟩:=hids id e
      simp[e,h1]
     ·rw[nH e];simp[e]
   ·simp only at hid
    simp only[jZ]
    rw[Ai (λhi=>by have:=hlt id hi;omega),Ai (λht=>by have:=(hTn id ht).1;omega),hsfb id hid]
  -- a step that writes into a block and reads others
  have stepR:∀(av:AV) (id:Nat) (ho' old:HO) (l0:List Nat),σ.H id=some old->(∀i,i∈l0->∃ob,σ.H i=some ob)->kind P o.op=2->OW P ops l ⟨bI σ.Γ o.dst av,upd σ.H id (some ho'),σ.n⟩ con k ->
    (∀s,dI σ con s->∀i,i∈id::l0->∀F w ι T2 (a:Act),HR G F w ι T2 s.K->(∀t,CN t∈o.op.operands->V F w ι (s.Γ t) (a.tmps.getD t undef))->∃b,ι i=some b) ->
    (∀s,dI σ con s->∀(T2:Nat->Prop) (K2:Hp),(∀i,i∈id::l0->¬T2 i/\K2 i=s.K i)->Y P G o s.Γ T2 K2 (jZ K2 T2 (λi=>i∈id::l0) λi=>if i=id then some ho' else σ.H i) av bD bD) ->
    cV ops o σ.Γ=some true ->
    ∃fb:Hp,∀s,dI σ con s->(∀id,σ.n<=id->s.K id=fb id)->yV P G ops (λs'=>∃σ' con',k σ' con'/\(σ'.n=0->∀b,G.P0 b)/\Wf σ' con'/\dI σ' con' s') (o::l) s:=by
   intro av id ho' old l0 hold hids hkd h hlive hY hw
   have hall:∀i,i∈id::l0->∃ob,σ.H i=some ob:=λi hi=>by
    rcases Bn.1 hi with rfl|hi
    ·exact⟨_,hold⟩
    ·exact hids i hi
   have hlt:∀i,i∈id::l0->i<σ.n:=λi hi=>by
    obtain⟨ob,h1⟩:=hall i hi;rcases A4 i σ.n with h|h
    ·exact h
    ·rw[hwf.top _ h]at h1;cases h1
   have hwf':Wf ⟨bI σ.Γ o.dst av,upd σ.H id (some ho'),σ.n⟩ con:=by
    refine⟨λi hi=>?_,λi hi=>?_⟩
    ·simp only at hi ⊢;rw[upd_ne _ _ (λe=>by rw[e]at hi;rw[hwf.top id hi]at hold;cases hold)];exact hwf.top i hi
    ·obtain⟨h1,h2⟩:=hwf.con i hi;refine⟨h1,?_⟩;simp only;rw[upd_ne _ _ (λe=>by rw[e]at h2;rw[h2]at hold;cases hold)];exact h2
   obtain⟨fb,hfb⟩:=ih _ _ (by exact hn0) hwf' h
   refine⟨fb,λs hs hsfb=>?_⟩
   have hTn:∀id,s.T id->id<σ.n/\σ.H id=none:=λid h=>hwf.con id ((hs.T id).1 h)
   have hST:∀i,i∈id::l0->¬s.T i:=λi hi ht=>by obtain⟨ob,h1⟩:=hall i hi;rw[(hTn i ht).2]at h1;cases h1
   refine⟨_,.yes av bD bD (jZ s.K s.T (λi=>i∈id::l0) λi=>if i=id then some ho' else σ.H i) (by rw[hs.Γ];exact hw)
    (.inr (.inr (.inr ⟨hkd,_,_,hST,λi h=>h.elim,λi h=>h.elim,λi hi F w ι T2 a hR hopr=>hlive s hs i hi F w ι T2 a hR hopr,rfl,λT2 K2 h1 _=>hY s hs T2 K2 h1⟩))) (λ_ h=>h.elim) (λ_ h=>h.elim) (λh=>h.elim),hfb _ ?_ λi hid=>?_⟩
   ·refine⟨by rw[hs.Γ],λi=>by simp[hs.T,bD],λi o' h=>?_,λi=>?_⟩
    ·simp only[jZ]
     simp only at h
     by_cases hiS:i∈id::l0
     ·rw[Aq hiS]
      by_cases hid:i=id
      ·subst hid;rw[upd_same]at h;rw[Aq rfl];exact h
      ·rw[upd_ne _ _ hid]at h;rw[Ai hid];exact h
     ·have hid:i≠id:=λe=>hiS (by rw[e];exact AI ..)
      rw[upd_ne _ _ hid]at h
      rw[Ai hiS,Ai (λht=>by rw[(hTn i ht).2]at h;cases h)]
      exact hs.K i o' h
    ·simp only[hs.U,bD,Fg]
     by_cases hid:i=id
     ·subst hid;simp[upd_same,hold]
     ·rw[upd_ne _ _ hid]
   ·simp only at hid
    simp only[jZ]
    rw[Ai (λhi=>by have:=hlt i hi;omega),Ai (λht=>by have:=(hTn i ht).1;omega),hsfb i hid]
  have wsub:∀{T2:Nat->Prop} {K2:Hp} {id:Nat} {ho:HO} (j:Nat) (o':HO),j≠id->mN K2 T2 id ho j=some o'->K2 j=some o'/\¬T2 j:=by
   intro T2 K2 id ho j o' hj h;unfold mN at h;rw[Ai hj]at h;split at h
   ·cases h
   ·exact⟨h,by assumption⟩
  have one1:∀{K2:Hp} {id:Nat} {old:HO},σ.H id=some old->K2 id=some old->∀i ob,(if i=id then σ.H id else none)=some ob->K2 i=some ob:=by
   intro K2 id old hold hK2 i ob h;split at h
   ·rename_i e;subst e;rw[hold]at h;rw[hK2];exact h
   ·cases h
  split at h
  case h_3=>exact h.elim
  case h_2 hw =>
   have hwf':Wf ⟨bI σ.Γ o.dst .un,σ.H,σ.n⟩ con:=⟨hwf.top,hwf.con⟩
   obtain⟨fb,hfb⟩:=ih _ _ (by exact hn0) hwf' h
   exact⟨fb,λs hs hsfb=>⟨_,.no (by rw[hs.Γ];exact hw),hfb _ ⟨by rw[hs.Γ],hs.T,hs.K,hs.U⟩ hsfb⟩⟩
  case h_1 hw =>
  unfold O1 at h;split at h
  ·-- load
   rename_i t x hop;split at h
   ·rename_i v hv;refine pure0 v [] σ.H rfl (λ_ h=>by cases h) h (λs hs=>.inr (.inl ⟨by rw[hop];rfl,rfl,(λ_ h=>by cases h),(λ_ _ _ _ _ _ _ _ h=>by cases h),λT2 _=>?_⟩)) hw;have:(λi=>i∈([]:List Nat))=bD:=funext λi=>by simp[bD]
    rw[this];refine zV λF w ι a hR hops=>?_
    obtain⟨u,h1,h2⟩:=aIv (P:=P) hR hs.K hv (cH (Γ:=σ.Γ) (a:=a) λt e=>by rw[<-hs.Γ];exact hops t (by rw[hop];simp[AD,e]));exact⟨u,by simp only[execOp,hop,Sem.run_bind,h1];rfl,h2⟩
   ·exact h.elim
  ·-- lookup
   rename_i t m x ok hop;split at h
   ·rename_i v hv;refine pure0 v [] σ.H rfl (λ_ h=>by cases h) h (λs hs=>.inr (.inl ⟨by rw[hop];rfl,rfl,(λ_ h=>by cases h),(λ_ _ _ _ _ _ _ _ h=>by cases h),λT2 _=>?_⟩)) hw;have:(λi=>i∈([]:List Nat))=bD:=funext λi=>by simp[bD]
    rw[this];refine zV λF w ι a hR hops=>?_
    obtain⟨u,h1,h2⟩:=bRy (P:=P) hR hs.K hv (cH (Γ:=σ.Γ) (a:=a) λt e=>by rw[<-hs.Γ];exact hops t (by rw[hop];simp[AD,e])) (cH (Γ:=σ.Γ) (a:=a) λt e=>by rw[<-hs.Γ];exact hops t (by rw[hop];simp[AD,e]));exact⟨u,by simp only[execOp,hop,Sem.run_bind,h1];rfl,h2⟩
   ·exact h.elim
  ·-- what an iterator handed out last
   rename_i x hop;split at h
   ·rename_i v hv;refine pure0 v [] σ.H rfl (λ_ h=>by cases h) h (λs hs=>.inr (.inl ⟨by rw[hop];rfl,rfl,(λ_ h=>by cases h),(λ_ _ _ _ _ _ _ _ h=>by cases h),λT2 _=>?_⟩)) hw;have:(λi=>i∈([]:List Nat))=bD:=funext λi=>by simp[bD]
    rw[this];refine zV λF w ι a hR hops=>?_
    obtain⟨u,h1,h2⟩:=cAm (P:=P) hR hs.K hv (cH (Γ:=σ.Γ) (a:=a) λt e=>by rw[<-hs.Γ];exact hops t (by rw[hop];simp[AD,e]));exact⟨u,by simp only[execOp,hop,Sem.run_bind,h1];rfl,h2⟩
   ·exact h.elim
  ·-- next
   rename_i x s hop;rw[hop]at hnn;cases hnn.1
  ·-- store
   rename_i t ad x hop;split at h
   ·rename_i id ho hst;obtain⟨off,old,hadp,hold⟩:=aXg hst;obtain⟨ts,hts,hΓ⟩:=uX (Γ:=σ.Γ) (x:=ad) (id:=id) (h:=.ptr 0 off) (by rw[hadp];rfl);refine write1 .un id ho old ts (by rw[hop];simp[AD,hts]) hΓ hold (by rw[hop];rfl) h (λT2 K2 hK2 hT2=>?_) hw;refine bMy (H:=λi=>if i=id then σ.H id else none) (id:=id) (ho:=ho) hop (one1 hold hK2) ?_ hT2 (by unfold mN;rw[Aq rfl]) wsub;unfold nS at hst ⊢;rw[hadp]at hst ⊢;simp only[AH]at hst ⊢;exact hst
   ·exact h.elim
  ·-- assignment to a map's element
   rename_i t m x v hop;split at h
   ·rename_i id ho hst;obtain⟨old,hm,hold,_⟩:=aIt hst;obtain⟨ts,hts,hΓ⟩:=uX (Γ:=σ.Γ) (x:=m) (id:=id) (h:=.mp 0) (by rw[hm];rfl);refine write1 .any id ho old ts (by rw[hop];simp[AD,hts]) hΓ hold (by rw[hop];rfl) h (λT2 K2 hK2 hT2=>?_) hw;refine aPj (H:=λi=>if i=id then σ.H id else none) (v:=some v) (id:=id) (ho:=ho) (.inl ⟨v,rfl,.inl hop⟩) (one1 hold hK2) ?_ hT2 (by unfold mN;rw[Aq rfl]) wsub;unfold qG at hst ⊢;rw[hm]at hst ⊢;simp only[AH]at hst ⊢;exact hst
   ·exact h.elim
  ·-- a new element of a map
   rename_i t m x v hop;split at h
   ·rename_i id ho hst;obtain⟨old,hm,hold,_⟩:=aIt hst;obtain⟨ts,hts,hΓ⟩:=uX (Γ:=σ.Γ) (x:=m) (id:=id) (h:=.mp 0) (by rw[hm];rfl);refine write1 .any id ho old ts (by rw[hop];simp[AD,hts]) hΓ hold (by rw[hop];rfl) h (λT2 K2 hK2 hT2=>?_) hw;refine aPj (H:=λi=>if i=id then σ.H id else none) (v:=some v) (id:=id) (ho:=ho) (.inl ⟨v,rfl,.inr hop⟩) (one1 hold hK2) ?_ hT2 (by unfold mN;rw[Aq rfl]) wsub;unfold qG at hst ⊢;rw[hm]at hst ⊢;simp only[AH]at hst ⊢;exact hst
   ·exact h.elim
  ·-- call
   rename_i f args ts hop;unfold OC at h;split at h
   ·rename_i hmut;have hkd:kind P o.op=2:=by rw[hop];simp[kind,hmut]
    split at h
    case h_2=>exact h.elim
    rename_i x rest hargs;split at h
    case h_2 =>
     rcases h with ⟨hno,ds,r,hf,hs,h⟩|⟨d0,y0,l0,id,hh,ho,ds,ho',hx0,hrest,hy,hold,hfl,hnv,hf,hs,hlen,hfl',h⟩
     rotate_left
     ·obtain⟨y,rest',rfl,rfl,rfl⟩:∃y rest',rest=y::rest'/\y0=oev σ.Γ y/\l0=rest'.map (oev σ.Γ):=by
       cases rest with
       |nil=>cases hrest
       |cons y rest'=>simp only[BO,List.cons.injEq]at hrest;exact⟨y,rest',rfl,hrest.1.symm,hrest.2.symm⟩
      refine stepR (inj (.tp [])) id ho' ho (bV σ.H (rest'.map (oev σ.Γ))) hold (λi hi=>wE hf hi) hkd h (λs hs' i hi F w ι T2 a hR hopr=>?_) (λs hs' T2 K2 hS=>?_) hw
      ·rcases Bn.1 hi with rfl|hi
       ·obtain⟨b,hb,_⟩:=aNm (F':=F) hy (cH (Γ:=σ.Γ) (a:=a) λt e=>by rw[<-hs'.Γ];exact hopr t (by rw[hop];simp only[AD,Bg];simp;rw[<-CI,hargs];simp[e]))
        exact⟨b,hb⟩
       ·refine(mT (Γ:=σ.Γ) (a:=a) hR hs'.K hf λz hz=>cH (Γ:=σ.Γ) (a:=a) λt e=>by rw[<-hs'.Γ];exact hopr t (by rw[hop];simp only[AD,Bg];simp;rw[<-CI,hargs];subst e;simp[hz])).2.2 i hi
      ·rw[hs'.Γ]
       have hfr:=aBw (H':=λi=>if i∈id::bV σ.H (rest'.map (oev σ.Γ))then σ.H i else none) hf λi hi=>Aq (AE _ hi)
       have hKH:∀i ob,(if i∈id::bV σ.H (rest'.map (oev σ.Γ))then σ.H i else none)=some ob->K2 i=some ob:=λi ob hob=>by
        split at hob
        ·rename_i hi;rw[(hS i hi).2];exact hs'.K _ _ hob
        ·cases hob
       refine bMz (H:=λi=>if i∈id::bV σ.H (rest'.map (oev σ.Γ))then σ.H i else none) hop hargs hKH hx0 hy (by rw[Aq (AI ..)];exact hold) hfl (by rw[hfr.2];exact hnv) (λi hi=>(hS i (AE _ (by rw[<-hfr.2];exact hi))).1) hfr.1 hs hlen hfl' (hS id (AI ..)).1 ?_ (λj o' hj h=>?_)
       ·unfold jZ;rw[Aq (AI ..)];exact Aq rfl
       ·unfold jZ at h
        split at h
        ·rename_i hjS
         simp only[Ai hj]at h
         exact⟨hKH j o' (by rw[Aq hjS];exact h),(hS j hjS).1⟩
        ·split at h
         ·cases h
         ·exact⟨h,by assumption⟩
     refine stepU (inj r) (bV σ.H (rest.map (oev σ.Γ))) (λi hi=>wE hf hi) hkd h (λs hs' i hi F w ι T2 a hR hopr=>?_) (λs hs' T2 K2 hS=>?_) hw
     ·refine(mT (Γ:=σ.Γ) (a:=a) hR hs'.K hf λy hy=>cH (Γ:=σ.Γ) (a:=a) λt e=>by rw[<-hs'.Γ];exact hopr t (by rw[hop];simp only[AD,Bg];simp;rw[<-CI,hargs];subst e;simp[hy])).2.2 i hi
     ·rw[hs'.Γ]
      have hfr:=aBw (H':=λi=>if i∈bV σ.H (rest.map (oev σ.Γ))then σ.H i else none) hf λi hi=>Aq hi
      refine aTq (H:=λi=>if i∈bV σ.H (rest.map (oev σ.Γ))then σ.H i else none) hop hargs (λi ob hob=>?_) (.inr ⟨rfl,hno,rfl,rfl⟩) hfr.2 (λi hi=>(hS i hi).1) hfr.1 hs (λj o' h=>?_)
      ·split at hob
       ·rename_i hi
        rw[(hS i hi).2];exact hs'.K _ _ hob
       ·cases hob
      unfold jZ at h
      split at h
      ·cases h
      ·split at h
       ·cases h
       ·exact⟨h,by assumption,by assumption⟩
    rename_i id hh hx;split at h
    case h_2=>exact h.elim
    rename_i ho hold;obtain⟨tt,htt,hΓ⟩:=uX hx;have hop2:CN tt∈o.op.operands:=by rw[hop];simp only[AD,Bg];simp;rw[<-CI,hargs];simp[htt]
    rcases h with ⟨g,rfl,rfl,hks,h⟩|⟨hno,hvis,ds,ho',r,hf,hs,hlen,hno',h⟩|⟨hpos,ν,h0,ro,hs0,ds,ro',hs',r,tx,tid,tlf,tinj,tH,tm,hvis,hfr,hsp,h⟩|⟨hno,hvis,ds,r,hf,hs,h⟩
    ·have hmp:oev σ.Γ x=.mp id:=by generalize oev σ.Γ x=av at hx;cases av<;>simp[hd1]at hx;rw[hx]
     have hup:upd σ.H id (some ho)=σ.H:=by
      funext i;by_cases hi:i=id
      ·subst hi;rw[upd_same,hold]
      ·rw[upd_ne _ _ hi]
     refine write1 (.kf g id) id ho ho tt hop2 hΓ hold hkd (by rw[hup];exact h) (λT2 K2 hK2 hT2=>?_) hw;intro F w ι a hok hR hop' hn next hx'
     have hY:=bWv (P:=P) (G:=G) (C:=T2) (K:=K2) hop hargs hmp hks;refine hY F w ι a hok hR hop' hn next λF' w' ι' u hR' hs' hd1' hd2' hv'=>hx' F' w' ι' u ⟨hR'.kept,hR'.F_lt,hR'.F_ok,hR'.place,λi b o' e1 e2=>?_,hR'.inj,λi i' b o1 o2 e1 e2 e3 e4 e5=>?_⟩ hs' hd1' hd2' hv'
     ·by_cases hi:i=id
      ·subst hi;unfold mN at e2;rw[Aq rfl]at e2;exact hR'.obj _ b o' e1 (by rw[hK2];exact e2)
      ·exact hR'.obj i b o' e1 (wsub i o' hi e2).1
     ·have q:∀(i:Nat) (o1:HO),mN K2 T2 id ho i=some o1->K2 i=some o1:=λi o1 e=>by
       by_cases hi:i=id
       ·subst hi;unfold mN at e;rw[Aq rfl]at e;rw[hK2];exact e
       ·exact(wsub i o1 hi e).1
      exact hR'.len i i' b o1 o2 e1 e2 e3 (q _ _ e4) (q _ _ e5)
    ·have hvis0:∀(c:AV),c∈rest.map (oev σ.Γ)->vis σ.H 8 c=[]:=λc hc=>by unfold bV at hvis;exact List.flatMap_eq_nil_iff.1 hvis c hc
     refine write1 (inj r) id ho' ho tt hop2 hΓ hold hkd h (λT2 K2 hK2 hT2=>?_) hw;intro F w ι a hR;have hfr:cI (λi=>if i=id then σ.H id else none) (rest.map (oev σ.Γ))=some ds/\bV (λi=>if i=id then σ.H id else none) (rest.map (oev σ.Γ))=[]:=aBx hvis hf;exact bNa (H:=λi=>if i=id then σ.H id else none) hop hargs (one1 hold hK2) hx (by simp only[AH];exact hold) hno hfr.2 hfr.1 hs hlen hno' hT2 (by unfold mN;rw[Aq rfl]) wsub F w ι a hR
    ·refine stepG (inj r) ν ro hs0 ro' hs' hpos tinj (λi ob hi=>(tH i ob hi).2) hkd h (λs hs i hi F w ι T2 a hR hopr=>?_) (λs hs hKn T2 K2 hS hN=>?_) hw
     ·refine aBk hR (l:=ro::hs0) (k:=hs0.length+1) (λi ob hl=>hs.K _ _ (tH i ob hl).2) ?_ tm i i (Ay _) hi;have hv:V F w ι (oev σ.Γ x) (a.eval x):=cH λt e=>by rw[<-hs.Γ];exact hopr t (by rw[hop];simp only[AD,Bg];simp;rw[<-CI,hargs];simp[e])
      rw[tx]at hv;exact aJx tid hv
     ·have hmem:∀i ob,(ro::hs0)[i]? = some ob->i<hs0.length+1:=λi ob hi=>by have:=(Ao.1 hi).1;simpa using this
      have hget:∀i,i<hs0.length+1->∃ob,(ro::hs0)[i]? = some ob:=λi hi=>⟨_,Ab (by simpa using hi)⟩
      have hnv:=aBx (H':=λid=>if ∃i,i<hs0.length+1/\ν i=id then σ.H id else none) hvis hfr;have hSg:∀i,i<hs0.length+1->K2 (ν i)=s.K (ν i):=λi hi=>(hS (ν i) ⟨i,hi,rfl⟩).2
      rw[hs.Γ];refine bMx (H:=λid=>if ∃i,i<hs0.length+1/\ν i=id then σ.H id else none) (K:=K2) (ν:=ν) (n:=σ.n) (h:=h0) (ro:=ro) (hs:=hs0) hop hargs (λid ob hid=>?_) tx tlf tinj (λi ob hi=>⟨(tH i ob hi).1,?_⟩) (λi hi=>(hS (ν i) ⟨i,hi,rfl⟩).1) (λi hi F w ι a hR hopr=>?_) hnv.2 hnv.1 hsp ?_ (λj ob hj=>?_) (λj ob hj hn hg=>?_) ?_
      ·split at hid
       ·rename_i hx;obtain⟨i,hi,rfl⟩:=hx;rw[hSg i hi];exact hs.K _ _ hid
       ·cases hid
      ·rw[Aq ⟨i,hmem i ob hi,rfl⟩];exact(tH i ob hi).2
      ·refine aBk hR (l:=ro::hs0) (k:=hs0.length+1) (λi ob hl=>by rw[hSg i (hmem i ob hl)];exact hs.K _ _ (tH i ob hl).2) ?_ tm i i (Ay _) hi;have hv:V F w ι (oev σ.Γ x) (a.eval x):=cH λt e=>hopr t (by rw[hop];simp only[AD,Bg];simp;rw[<-CI,hargs];simp[e])
       rw[tx]at hv;exact aJx tid hv
      ·unfold jZ;rw[Aq ⟨0,by omega,rfl⟩];simp only[AH]
      ·have hlt:=(Ao.1 hj).1;have hnS:¬∃i,i<hs0.length+1/\ν i=σ.n+j:=λ⟨i,hi,he⟩=>by obtain⟨ob',ho'⟩:=hget i hi;have h1:=(tH i ob' ho').2;rw[he,hwf.top _ (by omega)]at h1;cases h1
       unfold jZ;rw[Ai hnS,Ai (hN (σ.n+j) ⟨by omega,by omega⟩).1,(hN (σ.n+j) ⟨by omega,by omega⟩).2];exact hKn j ob hj
      ·unfold jZ at hg;split at hg
       ·simp only[Ai hj]at hg;cases hg
       ·rename_i hnS;split at hg
        ·cases hg
        ·exact⟨hg,by assumption,λi hi he=>hnS ⟨i,hi,he⟩⟩
      ·obtain⟨ob',ho'⟩:=hget 0 (by omega);have h1:=(tH 0 ob' ho').2;rcases A4 (ν 0) σ.n with h|h
       ·exact h
       ·rw[hwf.top _ h]at h1;cases h1
    ·refine stepU (inj r) (id::bV σ.H (rest.map (oev σ.Γ))) (λi hi=>?_) hkd h (λs hs' i hi F w ι T2 a hR hopr=>?_) (λs hs' T2 K2 hS=>?_) hw
     ·rcases Bn.1 hi with rfl|hi
      ·exact⟨_,hold⟩
      ·exact wE hf hi
     ·rcases Bn.1 hi with rfl|hi
      ·obtain⟨b,hb,_⟩:=aNm (F':=F) hx (cH (Γ:=σ.Γ) (a:=a) λt e=>by rw[<-hs'.Γ];exact hopr t (by rw[hop];simp only[AD,Bg];simp;rw[<-CI,hargs];simp[e]));exact⟨b,hb⟩
      ·refine(mT (Γ:=σ.Γ) (a:=a) hR hs'.K hf λy hy=>cH (Γ:=σ.Γ) (a:=a) λt e=>by rw[<-hs'.Γ];exact hopr t (by rw[hop];simp only[AD,Bg];simp;rw[<-CI,hargs];subst e;simp[hy])).2.2 i hi
     ·rw[hs'.Γ];obtain⟨hT2,hK2⟩:=hS id (AI ..);have hfr:=aBw (H':=λi=>if i∈id::bV σ.H (rest.map (oev σ.Γ))then σ.H i else none) hf λi hi=>Aq (AE _ hi)
      refine aTq (H:=λi=>if i∈id::bV σ.H (rest.map (oev σ.Γ))then σ.H i else none) hop hargs (λi ob hob=>?_) (.inl ⟨id,ho,rfl,hx,rfl,by rw[Aq (AI ..)];exact hold,hno,hT2,hvis⟩) hfr.2 (λi hi=>(hS i (AE _ hi)).1) hfr.1 hs (λj o' h=>?_)
      ·split at hob
       ·rename_i hi;rw[(hS i hi).2];exact hs'.K _ _ hob
       ·cases hob
      unfold jZ at h;split at h
      ·cases h
      ·split at h
       ·cases h
       ·exact⟨h,by assumption,by assumption⟩
   ·rename_i hmut;have hkd:kind P o.op=1:=by rw[hop];simp[kind,hmut]
    rcases h with ⟨_,hpos,v,hs0,hsp,h⟩|h
    ·refine newk (v σ.n) (hs0 σ.n) hpos h (λs hs hKn=>.inr (.inl ⟨hkd,rfl,(λ_ h=>h.elim),(λ_ _ _ _ _ _ _ _ h=>h.elim),λT2 _=>?_⟩)) hw;rw[hs.Γ];rcases hsp with ⟨ds,hfr,hvis,hsp⟩|⟨hno,hsp⟩
     ·exact bNb hop hs.K hfr hvis hsp hpos hKn
     ·exact bBr hop hno hsp hpos hKn
    split at h
    ·rename_i g id hargs;obtain⟨x,hx,hxe⟩:∃x,args.toList=[x]/\oev σ.Γ x=.kf g id:=by
      cases hl:args.toList with
      |nil=>rw[hl]at hargs;cases hargs
      | cons x l =>
       rw[hl]at hargs;cases l with
       |nil=>simp only[BO,List.map_nil,List.cons.injEq,and_true]at hargs;exact⟨x,rfl,hargs⟩
       |cons y l=>simp at hargs
     split at h
     ·rename_i es hH;obtain⟨hn,hrr,hss,h⟩:=h;refine pure0 _ [] σ.H rfl (λ_ h=>by cases h) h (λs hs=>.inr (.inl ⟨hkd,rfl,(λ_ h=>by cases h),(λ_ _ _ _ _ _ _ _ h=>by cases h),λT2 _=>?_⟩)) hw;have:(λi=>i∈([]:List Nat))=bD:=funext λi=>by simp[bD]
      rw[this];exact bBq (Γ:=s.Γ) hop hx hs.K (by rw[hs.Γ];exact hxe) hH hn hrr hss
     ·exact h.elim
    ·obtain⟨ds,r,hfr,hsp,h⟩:=h;refine pure0 (inj r) (aZ σ.H (args.toList.map (oev σ.Γ)) r) _ rfl (λid hid=>by obtain⟨o',ho'⟩:=gA hid;rw[ho'];rfl) h (λs hs=>.inr (.inl ⟨hkd,rfl,λid hid ht=>?_,λF w ι T2 a hR hops id hid=>?_,λT2 hT2=>?_⟩)) hw
     ·obtain⟨o',ho'⟩:=gA hid;have:=(hwf.con id ((hs.T id).1 ht)).2;rw[this]at ho';cases ho'
     ·refine bAv (Γ:=σ.Γ) (a:=a) (r:=r) hR hs.K hfr (λx hx=>cH λt e=>?_) id hid;rw[<-hs.Γ];exact hops t (by rw[hop];subst e;simp[AD,Bg];simpa using hx)
     ·have:=bWw (P:=P) (G:=G) (Γ:=s.Γ) (C:=T2) (K:=s.K) (H:=σ.H) (o:=o) (r:=r) hop hs.K (by rw[hs.Γ];exact hfr) hsp (by rw[hs.Γ];exact hT2);rw[hs.Γ]at this ⊢;exact this
  ·-- call of a function value
   rename_i t args ts hop;split at h
   ·rename_i f cs hcal;obtain⟨ds,r,hfr,hsp,h⟩:=h;have hkd:kind P o.op=1:=by rw[hop];rfl
    refine pure0 (inj r) (aZ σ.H (args.toList.map (oev σ.Γ)++cs) r) _ rfl (λid hid=>by obtain⟨o',ho'⟩:=gA hid;rw[ho'];rfl) h (λs hs=>.inr (.inl ⟨hkd,rfl,λid hid ht=>?_,λF w ι T2 a hR hops id hid=>?_,λT2 hT2=>?_⟩)) hw
    ·obtain⟨o',ho'⟩:=gA hid;have:=(hwf.con id ((hs.T id).1 ht)).2;rw[this]at ho';cases ho'
    ·refine aSy (x:=.tmp t) (Γ:=σ.Γ) (a:=a) (r:=r) hR hs.K hcal hfr (cH λt' e=>?_) (λx hx=>cH λt' e=>?_) id hid
     ·rw[<-hs.Γ];injection e with e;subst e;exact hops t (by rw[hop];simp[AD,Bg])
     ·rw[<-hs.Γ];exact hops t' (by rw[hop];subst e;simp[AD,Bg];right;simpa using hx)
    ·have:=bNc (x:=.tmp t) (P:=P) (G:=G) (Γ:=s.Γ) (C:=T2) (K:=s.K) (H:=σ.H) (o:=o) (r:=r) (f:=f) (cs:=cs) hop hs.K (by rw[hs.Γ];exact hcal) (by rw[hs.Γ];exact hfr) hsp (by rw[hs.Γ];exact hT2);rw[hs.Γ]at this ⊢;exact this
   ·split at h
    ·rename_i f d hcal;obtain⟨ds,r,hfr,hsp,h⟩:=h;have hkd:kind P o.op=1:=by rw[hop];rfl
     refine pure0 (inj r) (aZ σ.H (.d d::args.toList.map (oev σ.Γ)) r) _ rfl (λid hid=>by obtain⟨o',ho'⟩:=gA hid;rw[ho'];rfl) h (λs hs=>.inr (.inl ⟨hkd,rfl,λid hid ht=>?_,λF w ι T2 a hR hops id hid=>?_,λT2 hT2=>?_⟩)) hw
     ·obtain⟨o',ho'⟩:=gA hid;have:=(hwf.con id ((hs.T id).1 ht)).2;rw[this]at ho';cases ho'
     ·refine aSz (x:=.tmp t) (f:=f) (d:=d) (Γ:=σ.Γ) (a:=a) (r:=r) hR hs.K hcal hfr (cH λt' e=>?_) (λx hx=>cH λt' e=>?_) id hid
      ·rw[<-hs.Γ];injection e with e;subst e;exact hops t (by rw[hop];simp[AD,Bg])
      ·rw[<-hs.Γ];exact hops t' (by rw[hop];subst e;simp[AD,Bg];right;simpa using hx)
     ·have:=bNd (x:=.tmp t) (P:=P) (G:=G) (Γ:=s.Γ) (C:=T2) (K:=s.K) (H:=σ.H) (o:=o) (r:=r) (f:=f) (d:=d) hop hs.K (by rw[hs.Γ];exact hcal) (by rw[hs.Γ];exact hfr) hsp (by rw[hs.Γ];exact hT2);rw[hs.Γ]at this ⊢;exact this
    ·exact h.elim
  ·-- call of a method
   rename_i t name args ts hop;split at h
   ·rename_i ty d hcal;split at h
    ·rename_i f hme;obtain⟨ds,r,hfr,hsp,h⟩:=h;have hkd:kind P o.op=1:=by rw[hop];rfl
     refine pure0 (inj r) (aZ σ.H (.d d::args.toList.map (oev σ.Γ)) r) _ rfl (λid hid=>by obtain⟨o',ho'⟩:=gA hid;rw[ho'];rfl) h (λs hs=>.inr (.inl ⟨hkd,rfl,λid hid ht=>?_,λF w ι T2 a hR hops id hid=>?_,λT2 hT2=>?_⟩)) hw
     ·obtain⟨o',ho'⟩:=gA hid;have:=(hwf.con id ((hs.T id).1 ht)).2;rw[this]at ho';cases ho'
     ·refine bHz (x:=.tmp t) (ty:=ty) (d:=d) (Γ:=σ.Γ) (a:=a) (r:=r) hR hs.K hcal hfr (cH λt' e=>?_) (λx hx=>cH λt' e=>?_) id hid
      ·rw[<-hs.Γ];injection e with e;subst e;exact hops t (by rw[hop];simp[AD,Bg])
      ·rw[<-hs.Γ];exact hops t' (by rw[hop];subst e;simp[AD,Bg];right;simpa using hx)
     ·have:=bBs (x:=.tmp t) (P:=P) (G:=G) (Γ:=s.Γ) (C:=T2) (K:=s.K) (H:=σ.H) (o:=o) (r:=r) (f:=f) (ty:=ty) (d:=d) hop hs.K (by rw[hs.Γ];exact hcal) hme (by rw[hs.Γ];exact hfr) hsp (by rw[hs.Γ];exact hT2);rw[hs.Γ]at this ⊢;exact this
    ·exact h.elim
   ·exact h.elim
  ·-- append
   rename_i args ts hop;split at h
   ·rename_i s x t t' hargs hts;obtain⟨rfl,h⟩:=h;split at h
    ·rename_i av nb cn happ;have hop':o.op=.call { callee:=.builtin .append,args:=#[s,x],argTypes:=#[t,t] }:=by rw[hop];cases args;cases ts;simp only at hargs hts;subst hargs;subst hts;rfl
     have hcs:∀id∈cn,(σ.H id).isSome=true:=λid hid=>by obtain⟨⟨o',ho'⟩,_⟩:=aOt happ id hid;rw[ho'];rfl
     have hlive:∀s':AS,dI σ con s'->∀F w ι T2 (a:Act),HR G F w ι T2 s'.K->(∀t,CN t∈o.op.operands->V F w ι (s'.Γ t) (a.tmps.getD t undef))->∀id,id∈cn->∃b,ι id=some b:=by
      intro s' hs F w ι T2 a hR hops id hid;obtain⟨_,off,len,sz,hse⟩:=aOt happ id hid;have:=cH (Γ:=σ.Γ) (a:=a) (x:=s) (F:=F) (w:=w) (ι:=ι) λt e=>by rw[<-hs.Γ];exact hops t (by rw[hop'];simp[AD,Bg,e])
      rw[hse]at this;generalize a.eval s=v at this;cases this with|own _ _ _ _ b cap cur e hι=>exact⟨b,hι⟩
     have hnT:∀s':AS,dI σ con s'->∀id,id∈cn->¬s'.T id:=λs' hs id hid ht=>by have h1:=hcs id hid;rw[(hwf.con id ((hs.T id).1 ht)).2]at h1;cases h1
     cases nb with
     | none =>
      refine pure0 av cn _ rfl hcs h (λs' hs=>.inr (.inl ⟨by rw[hop];rfl,rfl,hnT s' hs,hlive s' hs,λT2 hT2=>?_⟩)) hw;have:=aKe (P:=P) (G:=G) (Γ:=s'.Γ) (C:=T2) (K:=s'.K) (H:=σ.H) (n:=σ.n) (o:=o) hop' hs.K (by rw[hs.Γ];exact happ) (λob h=>by cases h) hT2;have e1:(λi:Nat=>(none:Option HO).isSome=true/\i=σ.n)=bD:=funext λi=>by simp[bD]
      rw[e1]at this;exact this
     | some ho =>
      refine new1 av cn ho hcs h (λs' hs hKn=>.inr (.inl ⟨by rw[hop];rfl,rfl,hnT s' hs,hlive s' hs,λT2 hT2=>?_⟩)) hw;have:=aKe (P:=P) (G:=G) (Γ:=s'.Γ) (C:=T2) (K:=s'.K) (H:=σ.H) (n:=σ.n) (o:=o) hop' hs.K (by rw[hs.Γ];exact happ) (λob h=>by injection h with h;subst h;exact hKn) hT2;have e1:(λi:Nat=>(some ho).isSome=true/\i=σ.n)=(·=σ.n):=funext λi=>by simp
      rw[e1]at this;exact this
    ·exact h.elim
   ·exact h.elim
  ·-- delete
   rename_i args ts hop;split at h
   ·rename_i m x t kt hargs hts;split at h
    ·rename_i id ho hst;have hop':o.op=.call { callee:=.builtin .delete,args:=#[m,x],argTypes:=#[t,kt] }:=by rw[hop];cases args;cases ts;simp only at hargs hts;subst hargs;subst hts;rfl
     obtain⟨old,hm,hold,_⟩:=aIt hst;obtain⟨tt,htt,hΓ⟩:=uX (Γ:=σ.Γ) (x:=m) (id:=id) (h:=.mp 0) (by rw[hm];rfl);refine write1 .any id ho old tt (by rw[hop'];simp[AD,Bg,htt]) hΓ hold (by rw[hop];rfl) h (λT2 K2 hK2 hT2=>?_) hw;refine aPj (H:=λi=>if i=id then σ.H id else none) (v:=none) (id:=id) (ho:=ho) (.inr ⟨rfl,kt,hop'⟩) (one1 hold hK2) ?_ hT2 (by unfold mN;rw[Aq rfl]) wsub;unfold qG at hst ⊢;rw[hm]at hst ⊢;simp only[AH]at hst ⊢;exact hst
    ·exact h.elim
   ·exact h.elim
  ·-- how long something is
   rename_i args ts hop;split at h
   ·rename_i hlm;split at h
    ·rename_i m hargs;split at h
     ·rename_i n hn;obtain⟨ts⟩:=ts;obtain⟨args⟩:=args;simp only at hargs;subst hargs;unfold aRq at hlm;simp only at hlm;split at hlm
      case h_2=>cases hlm
      rename_i t;simp only[A8]at hlm;refine pure0 (.d (.i .i64 n)) [] σ.H rfl (λ_ h=>by cases h) h (λs hs=>.inr (.inl ⟨by rw[hop];simp[kind,aNd,hlm.1,hlm.2],rfl,(λ_ h=>by cases h),(λ_ _ _ _ _ _ _ _ h=>by cases h),λT2 _=>?_⟩)) hw;have:(λi=>i∈([]:List Nat))=bD:=funext λi=>by simp[bD]
      rw[this];refine zV λF w ι a hR hops=>?_
      have hv:V F w ι (oev σ.Γ m) (a.eval m):=cH (Γ:=σ.Γ) (a:=a) λt e=>by rw[<-hs.Γ];exact hops t (by rw[hop];simp[AD,Bg,e])
      have h1:=bRo (P:=P) (t:=t) (ty:=o.type) hR hs.K hlm.2 hn hv;exact⟨_,by simp[execOp,hop,resolve,invoke,builtin,h1],.d _ _ (.i _ _)⟩
     ·exact h.elim
    ·exact h.elim
   ·obtain⟨hk0,h⟩:=h;have hk:kind P o.op=0:=by rw[hop];exact hk0
    split at h
    ·rename_i av nb hnev;have e0:(λi=>i∈([]:List Nat))=bD:=funext λi=>by simp[bD]
     cases nb with
     | none =>
      refine pure0 av [] σ.H rfl (λ_ h=>by cases h) h (λs hs=>?_) hw;rw[e0];exact .inl ⟨hk,rfl,rfl,λT2 K2 _=>aMs (n:=σ.n) (by rw[hs.Γ,hop];exact hnev)⟩
     | some ho =>
      refine new1 av [] ho (λ_ h=>by cases h) h (λs hs hKn=>?_) hw;rw[e0];exact .inl ⟨hk,rfl,rfl,λT2 K2 hK2=>aFn (n:=σ.n) (ho:=ho) (by rw[hs.Γ,hop];exact hnev) (by rw[hK2 _ rfl];exact hKn)⟩
    ·exact h.elim
  ·-- values alone
   obtain⟨hk,h⟩:=h;split at h
   ·rename_i av nb hnev;have e0:(λi=>i∈([]:List Nat))=bD:=funext λi=>by simp[bD]
    cases nb with
    | none =>
     refine pure0 av [] σ.H rfl (λ_ h=>by cases h) h (λs hs=>?_) hw;rw[e0];exact .inl ⟨hk,rfl,rfl,λT2 K2 _=>aMs (n:=σ.n) (by rw[hs.Γ];exact hnev)⟩
    | some ho =>
     refine new1 av [] ho (λ_ h=>by cases h) h (λs hs hKn=>?_) hw;rw[e0];exact .inl ⟨hk,rfl,rfl,λT2 K2 hK2=>aFn (n:=σ.n) (ho:=ho) (by rw[hs.Γ];exact hnev) (by rw[hK2 _ rfl];exact hKn)⟩
   ·exact h.elim
end
def aHp(l:List Nat):AV->AV
 |.ptr id off=>if id∈l then .any else .ptr id off
 |.d x=>.d x
 |.fp cs=>.fp cs
 |_=>.any
def dY(l:List Nat):AV->AV
 |.fn f cs=>.fn f (cs.map (aHp l))
 |.own id off len sz=>if id∈l then .any else .own id off len sz
 |.ptr id off=>if id∈l then .any else .ptr id off
 |.mp id=>if id∈l then .any else .mp id
 |.kf f id=>if id∈l then .any else .kf f id
 |.ag _=>.any
 |.tp _=>.any
 |x=>x
def aAm(l:List Nat):AV->AV
 |.ag cs=>.ag (cs.map (dY l))
 |x=>dY l x
def jK(l:List Nat):AV->AV
 |.tp vs=>.tp (vs.map (aAm l))
 |x=>aAm l x
def fU(l:List Nat):HO->HO
 |.cells e cs=>.cells e (cs.map (dY l))
 |.map k es=>.map k (es.map λp=>(p.1,aAm l p.2))
 |.iter k l' es=>.iter k l' es
def fin(σ:St)(con:List Nat):St:=match con with
 |[]=>σ
 |l=>⟨λt=>jK l (σ.Γ t),λid=>(σ.H id).map (fU l),σ.n⟩
def SR(G:Ctx)(N:Nat)(ds:List Deferred)(σ:St)(a:Act)(w:World):Prop :=
 (∀id,σ.n<=id->σ.H id=none)/\(σ.n=0->∀b,G.P0 b)/\OkV w /\
 ∃F ι,HR G F w ι bD σ.H/\(∀id,(∃b,ι id=some b)↔(σ.H id).isSome=true)/\(∀t,V F w ι (σ.Γ t) (a.tmps.getD t undef))/\(a.tmps.size=N/\∀t v,G.Z t=some v->a.tmps.getD t undef=v)/\a.defers=ds/\∀b,ι 0=some b->G.P0 b
section
variable {F:Nat->Prop} {w:World} {ι:Nat->Option Nat} {l:List Nat}
def mask(ι:Nat->Option Nat)(l:List Nat):Nat->Option Nat:=λid=>if id∈l then none else ι id
def cM{id b:Nat}(h:mask ι l id=some b):ι id=some b/\id ∉ l:=by
 unfold mask at h;split at h
 ·cases h
 ·exact⟨h,by assumption⟩
def bMj{x:AV}{v:Value}(h:V F w ι x v):V F w (mask ι l) (aHp l x) v:=by
 cases h with
 |d x v h=>exact .d _ _ h
 | ptr id off b hι =>
  simp only[aHp];split
  ·exact .any _
  ·exact .ptr _ _ _ (by unfold mask;rw[Ai ‹_›];exact hι)
 |fp cs ad f hF hcell hel=>exact .fp _ _ f hF hcell hel
 |_=>exact .any _
def aDh{x:AV}{v:Value}(h:V F w ι x v):V F w (mask ι l) (dY l x) v:=by
 cases h with
 |d x v h=>exact .d _ _ h
 |nil=>exact .nil
 | own id off len sz b cap cur e hι hb hcap hl hm =>
  simp only[dY];split
  ·exact .any _
  ·exact .own _ _ _ _ b _ _ _ (by unfold mask;rw[Ai ‹_›];exact hι) hb hcap hl hm
 | ptr id off b hι =>
  simp only[dY];split
  ·exact .any _
  ·exact .ptr _ _ _ (by unfold mask;rw[Ai ‹_›];exact hι)
 | mp id b hι =>
  simp only[dY];split
  ·exact .any _
  ·exact .mp _ _ (by unfold mask;rw[Ai ‹_›];exact hι)
 |ub t=>exact .ub t
 | kf f id b p e hι hF hp =>
  simp only[dY];split
  ·exact .any _
  ·exact .kf f _ b p e (by unfold mask;rw[Ai ‹_›];exact hι) hF hp
 |fp cs ad f hF hcell hel=>exact .fp _ _ f hF hcell hel
 |fd els ad n h=>exact .fd _ _ _ h
 |ag cs vs hl h=>exact .any _
 |tp cs vs hl h=>exact .any _
 |un=>exact .un
 | fn g cs vs hl hh =>
  refine .fn _ _ _ (by simpa using hl) λk c u hc hu=>?_
  rw[Ag]at hc;obtain⟨d,hd,rfl⟩:=Af.1 hc;exact bMj (hh k d u hd hu)
 |any v=>exact .any _
def aDg{x:AV}{v:Value}(h:V F w ι x v):V F w (mask ι l) (aAm l x) v:=by
 have h0:=aDh (l:=l) h;cases h with
 | ag cs vs hl hh =>
  refine .ag _ _ (by simpa using hl) λk c u hc hu=>?_
  rw[Ag]at hc;obtain⟨d,hd,rfl⟩:=Af.1 hc;exact aDh (hh k d u hd hu)
 |_=>exact h0
def aJw{x:AV}{v:Value}(h:V F w ι x v):V F w (mask ι l) (jK l x) v:=by
 have h1:=aDg (l:=l) h;cases h with
 | tp cs vs hl hh =>
  refine .tp _ _ (by simpa using hl) λk c u hc hu=>?_
  rw[Ag]at hc;obtain⟨d,hd,rfl⟩:=Af.1 hc;exact aDg (hh k d u hd hu)
 |_=>exact h1
def aDr{o:HO}{ob:Obj}(h:CR F w ι o ob):CR F w (mask ι l) (fU l o) ob:=by
 cases h with
 | cells e cs cur hl hh =>
  refine .cells _ _ _ (by simpa using hl) λk c hk=>?_
  rw[Ag]at hk;obtain⟨d,hd,rfl⟩:=Af.1 hk;obtain⟨u,hu,hv⟩:=hh k d hd;exact⟨u,hu,aDh hv⟩
 | map k es ents clock hl hst hh =>
  refine .map _ _ _ _ (by simpa using hl) hst λk x hk=>?_
  rw[Ag]at hk;obtain⟨d,hd,rfl⟩:=Af.1 hk;obtain⟨en,h1,h2,h3⟩:=hh k d hd;exact⟨en,h1,h2,aDg h3⟩
 |iter k last es bm since c0 clock seen ents hF hb hold hsc hnd hl h hla=>exact .iter k last es bm since c0 clock seen ents hF hb hold hsc hnd hl h hla
def aAl(o:HO):(fU l o).len=o.len:=by cases o<;>simp[fU,HO.len]
variable {G:Ctx} {N:Nat} {ds:List Deferred}
def aDl{σ:St}{con:List Nat}{s:AS}{a:Act}(hn0:σ.n=0->∀b,G.P0 b)(hwf:Wf σ con)(hag:dI σ con s)(hr:mZ G N ds s a w):SR G N ds (fin σ con) a w:=by
 obtain⟨hok,F,ι,hR,hdom,hV,hN,hds,hp⟩:=hr;rw[hag.Γ]at hV;cases con with
 | nil =>
  refine⟨hwf.top,hn0,hok,F,ι,?_,λid=>by rw[hdom,hag.U];simp[fin],hV,hN,hds,hp⟩;have hT:s.T=bD:=funext λi=>propext (by simp[hag.T,bD])
  rw[hT]at hR;exact⟨hR.kept,hR.F_lt,hR.F_ok,hR.place,λid b o h1 h2=>hR.obj id b o h1 (hag.K _ _ h2),hR.inj,λid id' b o o' h1 h2 h3 h4 h5=>hR.len id id' b o o' h1 h2 h3 (hag.K _ _ h4) (hag.K _ _ h5)⟩
 | cons c con =>
  have hl:fin σ (c::con)=⟨λt=>jK (c::con) (σ.Γ t),λid=>(σ.H id).map (fU (c::con)),σ.n⟩:=rfl;rw[hl];have hT:∀id,id ∉ c::con->¬s.T id:=λid h ht=>h ((hag.T id).1 ht)
  refine⟨λid h=>by simp[hwf.top id h],hn0,hok,F,mask ι (c::con),⟨hR.kept,hR.F_lt,hR.F_ok,λid b h=>?_,λid b o h1 h2=>?_,λid id' b h h' _ _=>?_,λid id' b o o' h h' _ h3 h4=>?_⟩,λid=>?_,λt=>aJw (hV t),hN,hds,λb hb=>hp b (cM hb).1⟩
  ·obtain⟨h1,h2⟩:=cM h;obtain⟨p1,p2,p3⟩:=hR.place id b h1;exact⟨p1,p2,λ_=>p3 (hT id h2)⟩
  ·obtain⟨q1,_⟩:=cM h1;obtain⟨o1,ho1,rfl⟩:=Af.1 h2;obtain⟨ob,e1,e2⟩:=hR.obj id b o1 q1 (hag.K _ _ ho1);exact⟨ob,e1,aDr e2⟩
  ·obtain⟨q1,q2⟩:=cM h;obtain⟨q1',q2'⟩:=cM h';exact hR.inj id id' b q1 q1' (hT id q2) (hT id' q2')
  ·obtain⟨q1,q2⟩:=cM h;obtain⟨q1',q2'⟩:=cM h';obtain⟨o1,ho1,rfl⟩:=Af.1 h3;obtain⟨o2,ho2,rfl⟩:=Af.1 h4;rw[aAl,aAl];exact hR.len id id' b o1 o2 q1 q1' (hT id q2) (hag.K _ _ ho1) (hag.K _ _ ho2)
  ·constructor
   ·rintro⟨b,h⟩;obtain⟨q1,q2⟩:=cM h;rcases(hag.U id).1 ((hdom id).1 ⟨b,q1⟩)with h|h
    ·simpa using h
    ·exact absurd h q2
   ·intro h;simp only[Option.isSome_map]at h;obtain⟨b,hb⟩:=(hdom id).2 ((hag.U id).2 (.inl h));refine⟨b,?_⟩;unfold mask;rw[Ai λhc=>by have:=(hwf.con id hc).2;rw[this]at h;cases h];exact hb
def qX{σ:St}{a:Act}(h:SR G N ds σ a w):(σ.n=0->∀b,G.P0 b)/\Wf σ []/\∀K:Hp,(∀id o,σ.H id=some o->K id=some o) ->
  dI σ [] ⟨σ.Γ,bD,K,λid=>(σ.H id).isSome=true⟩/\mZ G N ds ⟨σ.Γ,bD,K,λid=>(σ.H id).isSome=true⟩ a w:=by
 obtain⟨htop,hn0,hok,F,ι,hR,hdom,hV,hN,hds,hp⟩:=h
 refine⟨hn0,⟨htop,λ_ h=>by cases h⟩,λK hK=>⟨⟨rfl,λid=>by simp[bD],hK,λid=>by simp⟩,hok,F,ι,?_,hdom,hV,hN,hds,hp⟩⟩
 have live:∀id b,ι id=some b->∃o,σ.H id=some o:=λid b h=>Ek.1 ((hdom id).1 ⟨b,h⟩)
 refine⟨hR.kept,hR.F_lt,hR.F_ok,hR.place,λid b o h1 h2=>?_,hR.inj,λid id' b o o' h1 h2 h3 h4 h5=>?_⟩
 ·obtain⟨o1,ho1⟩:=live id b h1
  simp only at h2
  rw[hK _ _ ho1]at h2;injection h2 with h2;subst h2
  exact hR.obj id b o1 h1 ho1
 ·obtain⟨o1,ho1⟩:=live id b h1
  obtain⟨o2,ho2⟩:=live id' b h2
  simp only at h4 h5
  rw[hK _ _ ho1]at h4;injection h4 with h4;subst h4
  rw[hK _ _ ho2]at h5;injection h5 with h5;subst h5
  exact hR.len id id' b o1 o2 h1 h2 h3 ho1 ho2
end
section
variable {G:Ctx} {N:Nat} {ds:List Deferred}
def aIf{P:Program}[M:Mch P]{ops:Array Oper}{k:St->List Nat->Prop}{Q':Exit->Act->World->Prop}(hQ:∀σ con s a w,k σ con->(σ.n=0->∀b,G.P0 b)->Wf σ con->dI σ con s->mZ G N ds s a w->Q' .normal a w) :
  ∀(l:List Oper) (σ:St) (con:List Nat) (s:AS) (a:Act) (w:World),(∀o∈l,∀d,o.dst=some d->d<N/\G.Z d=none)->(σ.n=0->∀b,G.P0 b)->Wf σ con->dI σ con s->mZ G N ds s a w->OW P ops l σ con k->gW P ops Q' l a w
 |[],σ,con,s,a,w,_,hn0,hwf,hag,hr,h=>hQ σ con s a w h hn0 hwf hag hr
 | o::l,σ,con,s,a,w,hd,hn0,hwf,hag,hr,h=>by
  have ih:=λσ' con' s' a' w' (h1:(σ'.n=0->∀b,G.P0 b)) h2 h3 h4 h5=>aIf (P:=P) (ops:=ops) hQ l σ' con' s' a' w' (λo ho=>hd o (AE _ ho)) h1 h2 h3 h4 h5
  unfold gW;cases hx:bHx o.op with
  | true =>
   unfold OW at h;split at h
   case h_3=>exact h.elim
   ·rename_i hw;obtain⟨hok,F,ι,hR,hdom,hV,hN,hds,hp⟩:=id hr;rw[hag.Γ]at hV;rw[Aq (rC hw hV)];cases hop:o.op with
    |next x b=>unfold O1 at h;rw[hop]at h;exact h.elim
    |_=>rw[hop]at hx;cases hx
   ·rename_i hw;obtain⟨hok,F,ι,hR,hdom,hV,hN,hds,hp⟩:=id hr;have hV':=hV;rw[hag.Γ]at hV';rw[Ai (by rw[rC hw hV'];simp)];have hr':mZ G N ds ⟨bI s.Γ o.dst .un,s.T,s.K,s.U⟩ (a.put o.dst undef) w:=by
     have hlt:∀d,o.dst=some d->d<a.tmps.size:=λd h=>by rw[hN.1];exact(hd o (AI ..) d h).1
     refine⟨hok,F,ι,hR,hdom,aOy hV .un λt=>jD a o.dst undef hlt t,⟨by cases o.dst<;>simp[C6,hN.1],λt v hz=>?_⟩,by cases o.dst<;>simp[C6,hds],hp⟩;rw[jD a o.dst undef hlt t,Ai (λe=>by rw[(hd o (AI ..) t e).2]at hz;cases hz)];exact hN.2 t v hz
    exact ih ⟨bI σ.Γ o.dst .un,σ.H,σ.n⟩ con ⟨bI s.Γ o.dst .un,s.T,s.K,s.U⟩ _ _ hn0 ⟨hwf.top,hwf.con⟩ ⟨by rw[hag.Γ],hag.T,hag.K,hag.U⟩ hr' h
  | false =>
   have h':OW P ops [o] σ con λσ' con'=>OW P ops l σ' con' k:=h
   obtain⟨fb,hfb⟩:=qY (G:=G) (k:=λσ' con'=>OW P ops l σ' con' k) [o] σ con (by simp[fQ,hx]) hn0 hwf h'
   -- blocks that are not made yet may be named as it suits
   have hU:∀id,s.U id->id<σ.n:=λid h=>by
    rcases(hag.U id).1 h with h|h
    ·rcases A4 id σ.n with h'|h'
     ·exact h'
     ·rw[hwf.top id h']at h;cases h
    ·exact(hwf.con id h).1
   have hag':dI σ con ⟨s.Γ,s.T,λi=>if i<σ.n then s.K i else fb i,s.U⟩:=⟨hag.Γ,hag.T,λid o' h=>by
    simp only;rw[Aq]
    ·exact hag.K id o' h
    ·exact hU id ((hag.U id).2 (.inl (by rw[h];rfl))),hag.U⟩
   have hr':mZ G N ds ⟨s.Γ,s.T,λi=>if i<σ.n then s.K i else fb i,s.U⟩ a w:=by
    obtain⟨hok,F,ι,hR,hdom,hV,hN,hds,hp⟩:=id hr;have hlt:∀id b,ι id=some b->id<σ.n:=λid b h=>hU id ((hdom id).1 ⟨b,h⟩)
    refine⟨hok,F,ι,⟨hR.kept,hR.F_lt,hR.F_ok,hR.place,λid b o' h1 h2=>?_,hR.inj,λid id' b o1 o2 h1 h2 h3 h4 h5=>?_⟩,hdom,hV,hN,hds,hp⟩
    ·simp only at h2;rw[Aq (hlt id b h1)]at h2;exact hR.obj id b o' h1 h2
    ·simp only at h4 h5;rw[Aq (hlt id b h1)]at h4;rw[Aq (hlt id' b h2)]at h5;exact hR.len id id' b o1 o2 h1 h2 h3 h4 h5
   obtain⟨s',hdo,σ',con',hk,hn',hwf',hag2⟩:=hfb _ hag' (λi hi=>by simp only;rw[Ai (by omega)]);exact oM (K:=gW P ops Q' l) hdo (hd o (AI ..)) hr' λa' w' hr2=>ih σ' con' s' a' w' hn' hwf' hag2 hr2 hk
end
def uC{P:Program}[M:Mch P]{rd:Bool}{WW:Code->(Exit->Act->World->Prop)->Act->World->Prop}(hW:WpR P rd WW){G:Ctx}{id N:Nat}{ds:List Deferred}{ops:Array Oper}{draw:Bool}{Q:St->Prop}{Q':Exit->Act->World->Prop}{σ:St}{a:Act}{w:World}(hm:P.follows .mixedOrders=true)
  (hdst:∀(i:Nat) (o:Oper) (d:Tmp),ops[i]? = some o->o.dst=some d->d<N/\G.Z d=none) (hnd:rd=true->sS ops=true) (hB:draw=true->bHg P ops=true) (hsr:SR G N ds σ a w)
  (h:OW P ops ops.toList σ [] λσ' con=>Q (fin σ' con)) (hQ:∀σ a w,Q σ->SR G N ds σ a w->Q' .normal a w):WW (.region id ops draw) Q' a w:=by
 cases draw
 ·refine hW.regL hnd ?_
  obtain⟨hn0,hwf,hag⟩:=qX hsr
  obtain⟨h1,h2⟩:=hag σ.H λ_ _ h=>h
  refine aIf (k:=λσ' con=>Q (fin σ' con)) (λσ' con' s a w hq hn' hwf' hag' hr=>hQ _ a w hq (aDl hn' hwf' hag' hr)) ops.toList σ [] _ a w (λo ho d hd=>?_) hn0 hwf h1 h2 h
  obtain⟨i,hi,he⟩:=List.mem_iff_getElem.1 ho
  exact hdst i o d (by rw[<-he];simp at hi ⊢) hd
 obtain⟨hn0,hwf,hag⟩:=qX hsr
 obtain⟨fb,hfb⟩:=qY (G:=G) ops.toList σ [] (Bool.and_eq_true_iff.1 (hB rfl)).1 hn0 hwf h
 obtain⟨h1,h2⟩:=hag (λi=>if i<σ.n then σ.H i else fb i) (λi o hi=>by
  rcases A4 i σ.n with hlt|hge
  ·rw[Aq hlt];exact hi
  ·rw[hwf.top i hge]at hi;cases hi)
 have h3:=hfb _ h1 (λi hi=>by simp only;rw[Ai (by omega)])
 have hQ2:∀(s:AS) (a:Act) (w:World),(∃σ' con',Q (fin σ' con')/\(σ'.n=0->∀b,G.P0 b)/\Wf σ' con'/\dI σ' con' s)->mZ G N ds s a w->Q' .normal a w:=by rintro s a w ⟨σ',con',hq,hn',hwf',hag'⟩ hr;exact hQ _ a w hq (aDl hn' hwf' hag' hr)
 exact aLj hW hm hnd (hB rfl) hdst h2 h3 hQ2
def bVg(H:Hp)(H':Hp)(ρ:Nat->Nat):AV->AV->Prop
 |_,.any=>True
 |x,.d y=>frz H 8 x=some y/\∀a∈vis H 8 x,∀id,(H' id).isSome=true->ρ id≠a
 |x,.fp b=>frz H 8 x=some (.pt b)/\∀a∈vis H 8 x,∀id,(H' id).isSome=true->ρ id≠a
 |.ptr a o,.ptr b o'=>a=ρ b/\o=o'/\(H' b).isSome=true
 |_,_=>False
def mY(H:Hp)(H':Hp)(ρ:Nat->Nat):AV->AV->Prop
 |_,.any=>True
 |.fn f cs,.fn g ds=>f=g/\cs.length=ds.length/\∀(k:Nat) c d,cs[k]? = some c->ds[k]? = some d->bVg H H' ρ c d
 |x,.d y=>frz H 8 x=some y/\∀a∈vis H 8 x,∀id,(H' id).isSome=true->ρ id≠a
 |.nil,.nil=>True
 |.un,.un=>True
 |.ub,.ub=>True
 |.kf f a,.kf g b=>f=g/\a=ρ b/\(H' b).isSome=true
 |.fd a,.fd b=>a=b
 |x,.fp b=>frz H 8 x=some (.pt b)/\∀a∈vis H 8 x,∀id,(H' id).isSome=true->ρ id≠a
 |.own a o l s,.own b o' l' s'=>a=ρ b/\o=o'/\l=l'/\s=s'/\(H' b).isSome=true
 |.ptr a o,.ptr b o'=>a=ρ b/\o=o'/\(H' b).isSome=true
 |.mp a,.mp b=>a=ρ b/\(H' b).isSome=true
 |_,_=>False
def Sub(H:Hp)(H':Hp)(ρ:Nat->Nat):AV->AV->Prop
 |.ag cs,.ag ds=>cs.length=ds.length/\∀(k:Nat) c d,cs[k]? = some c->ds[k]? = some d->mY H H' ρ c d
 |x,y=>mY H H' ρ x y
def nO(H:Hp)(H':Hp)(ρ:Nat->Nat):HO->HO->Prop
 |.cells e cs,.cells e' ds=>e=e'/\cs.length=ds.length/\∀(k:Nat) c d,cs[k]? = some c->ds[k]? = some d->mY H H' ρ c d
 |.map k es,.map k' fs=>k=k'/\es.length=fs.length/\∀(k:Nat) x y,es[k]? = some x->fs[k]? = some y->x.1=y.1/\(mY H H' ρ x.2 y.2\/Sub H H' ρ x.2 y.2)
 |.iter k l es,.iter k' l' fs=>k=k'/\l=l'/\es=fs
 |_,_=>False
structure Wk(σ σ':St)(ρ:Nat->Nat):Prop where
 top:∀id,σ'.n<=id->σ'.H id=none
 slot:∀t,Sub σ.H σ'.H ρ (σ.Γ t) (σ'.Γ t)
 blk:∀id o',σ'.H id=some o'->∃o,σ.H (ρ id)=some o/\nO σ.H σ'.H ρ o o'
 inj:∀id id',(σ'.H id).isSome=true->(σ'.H id').isSome=true->ρ id=ρ id'->id=id'
 pin:(σ'.H 0).isSome=true->ρ 0=0
 n0:σ'.n=0->σ.n=0
section
variable {G:Ctx} {N:Nat} {ds:List Deferred}
def vY{σ σ':St}{ρ:Nat->Nat}{a:Act}{w:World}(hk:Wk σ σ' ρ)(h:SR G N ds σ a w):SR G N ds σ' a w:=by
 obtain⟨htop,hn0,hok,F,ι,hR,hdom,hV,hN,hds,hp⟩:=h;let F':Nat->Prop:=λb=>F b\/∃i,ι i=some b/\∀id,(σ'.H id).isSome=true->ρ id≠i
 let ι':Nat->Option Nat:=λid=>if(σ'.H id).isSome=true then ι (ρ id)else none
 have ι'_some:∀id b,ι' id=some b->(σ'.H id).isSome=true/\ι (ρ id)=some b:=by
  intro id b h;simp only[ι']at h;split at h
  ·exact⟨by assumption,h⟩
  ·cases h
 have hFF:∀b,F b->F' b:=λb h=>.inl h
 have ptF:∀(x:AV) (b:List D) (v:Value),(frz σ.H 8 x=some (.pt b)/\∀a∈vis σ.H 8 x,∀id,(σ'.H id).isSome=true->ρ id≠a)->V F w ι x v->V F' w ι' (.fp b) v:=by
  intro x b v hs hv;obtain⟨h1,h2⟩:=hs;have h3:VD F' w (.pt b) v:=(uZ hR (λ_ _ h=>h) 8 x v _ h1 hv).1.mono (by
   rintro b (hb|⟨i,hi,hb⟩)
   ·exact .inl hb
   ·exact .inr ⟨i,hb,λid hid=>h2 i hi id hid⟩)
  cases h3 with|pt _ ad f hF hcell hel=>exact .fp _ _ f hF hcell hel
 have subP:∀x y v,bVg σ.H σ'.H ρ x y->V F w ι x v->V F' w ι' y v:=by
  intro x y v hs hv;cases y with
  |any=>exact .any _
  | d y =>
   have hs':frz σ.H 8 x=some y/\∀a∈vis σ.H 8 x,∀id,(σ'.H id).isSome=true->ρ id≠a:=by cases x<;>exact hs
   obtain⟨h1,h2⟩:=hs';refine .d _ _ ((uZ hR (λ_ _ h=>h) 8 x v y h1 hv).1.mono ?_);rintro b (hb|⟨i,hi,hb⟩)
   ·exact .inl hb
   ·exact .inr ⟨i,hb,λid hid=>h2 i hi id hid⟩
  | fp b =>
   have hs':frz σ.H 8 x=some (.pt b)/\∀a∈vis σ.H 8 x,∀id,(σ'.H id).isSome=true->ρ id≠a:=by cases x<;>exact hs
   exact ptF x b v hs' hv
  |ptr b o=>cases x<;>first|exact hs.elim|(simp only[bVg]at hs;obtain⟨rfl,rfl,hsm⟩:=hs;cases hv with|ptr _ _ bb hι=>exact .ptr _ _ bb (by simp only[ι'];rw[Aq hsm];exact hι))
  |_=>cases x<;>exact hs.elim
 have subL:∀x y v,mY σ.H σ'.H ρ x y->V F w ι x v->V F' w ι' y v:=by
  intro x y v hs hv;cases y with
  |any=>exact .any _
  | d y =>
   have hs':frz σ.H 8 x=some y/\∀a∈vis σ.H 8 x,∀id,(σ'.H id).isSome=true->ρ id≠a:=by cases x<;>exact hs
   obtain⟨h1,h2⟩:=hs';refine .d _ _ ((uZ hR (λ_ _ h=>h) 8 x v y h1 hv).1.mono ?_);rintro b (hb|⟨i,hi,hb⟩)
   ·exact .inl hb
   ·exact .inr ⟨i,hb,λid hid=>h2 i hi id hid⟩
  |nil=>cases x<;>first|exact hs.elim|(cases hv;exact .nil)
  |un=>cases x<;>first|exact hs.elim|(cases hv;exact .un)
  |ub=>cases x<;>first|exact hs.elim|(cases hv;exact .ub _)
  |kf g b=>cases x<;>first|exact hs.elim|(simp only[mY]at hs;obtain⟨rfl,rfl,hsm⟩:=hs;cases hv with|kf _ _ bb p e hι hF hpp=>exact .kf _ _ bb p e (by simp only[ι'];rw[Aq hsm];exact hι) (hFF _ hF) hpp)
  |fd b=>cases x<;>first|exact hs.elim|(simp only[mY]at hs;subst hs;cases hv with|fd _ ad n h=>exact .fd _ _ _ (h.mono hFF))
  | fp b =>
   have hs':frz σ.H 8 x=some (.pt b)/\∀a∈vis σ.H 8 x,∀id,(σ'.H id).isSome=true->ρ id≠a:=by cases x<;>exact hs
   exact ptF x b v hs' hv
  | fn g ds =>
   cases x<;>first|exact hs.elim|(simp only[mY]at hs;obtain⟨rfl,hl,hs⟩:=hs;cases hv with|fn _ _ vs hvl hh=>exact .fn _ _ _ (by omega) λk d u hd hu=>(have hk:k<_:=(Ao.1 hd).1;subP _ _ _ (hs k _ d (Ab (by omega)) hd) (hh k _ u (Ab (by omega)) hu)))
  | own b o l s =>
   cases x<;>first|exact hs.elim|(simp only[mY]at hs;obtain⟨rfl,rfl,rfl,rfl,hsm⟩:=hs;cases hv with|own _ _ _ _ bb cap cur e hι hb hcap hl hm=>exact .own _ _ _ _ bb cap cur e (by simp only[ι'];rw[Aq hsm];exact hι) hb hcap hl hm)
  |ptr b o=>cases x<;>first|exact hs.elim|(simp only[mY]at hs;obtain⟨rfl,rfl,hsm⟩:=hs;cases hv with|ptr _ _ bb hι=>exact .ptr _ _ bb (by simp only[ι'];rw[Aq hsm];exact hι))
  |mp b=>cases x<;>first|exact hs.elim|(simp only[mY]at hs;obtain⟨rfl,hsm⟩:=hs;cases hv with|mp _ bb hι=>exact .mp _ bb (by simp only[ι'];rw[Aq hsm];exact hι))
  |ag _=>cases x<;>exact hs.elim
  |tp _=>cases x<;>exact hs.elim
 have sub:∀x y v,Sub σ.H σ'.H ρ x y->V F w ι x v->V F' w ι' y v:=by
  intro x y v hs hv;by_cases hag:∃cs ds,x=.ag cs/\y=.ag ds
  ·obtain⟨cs,ds,rfl,rfl⟩:=hag;obtain⟨hl,hs⟩:=hs;cases hv with|ag _ vs hvl hh =>
   refine .ag _ _ (by omega) λk d u hd hu=>?_
   have hk:k<cs.length:=by rw[hl];exact(Ao.1 hd).1
   exact subL _ _ _ (hs k _ d (Ab hk) hd) (hh k _ u (Ab hk) hu)
  ·refine subL x y v ?_ hv;cases x<;>cases y<;>first|exact hs|exact absurd ⟨_,_,rfl,rfl⟩ hag
 have cr:∀o o' ob,nO σ.H σ'.H ρ o o'->CR F w ι o ob->CR F' w ι' o' ob:=by
  intro o o' ob hs hc;cases hc with
  | cells e cs cur hl hh =>
   cases o' with
   |map _ _=>exact hs.elim
   |iter _ _ _=>exact hs.elim
   | cells e' ds =>
    obtain⟨rfl,hl',hs⟩:=hs;refine .cells _ _ _ (by omega) λk d hd=>?_
    have hk:k<cs.length:=by rw[hl'];exact(Ao.1 hd).1
    obtain⟨u,hu,hv⟩:=hh k _ (Ab hk);exact⟨u,hu,subL _ _ _ (hs k _ d (Ab hk) hd) hv⟩
  | map kd es ents clock hl hst hh =>
   cases o' with
   |cells _ _=>exact hs.elim
   |iter _ _ _=>exact hs.elim
   | map kd' fs =>
    obtain⟨rfl,hl',hs⟩:=hs;refine .map _ _ _ _ (by omega) hst λk y hy=>?_
    have hk:k<es.length:=by rw[hl'];exact(Ao.1 hy).1
    obtain⟨en,h1,h2,h3⟩:=hh k _ (Ab hk);obtain⟨e1,e2⟩:=hs k _ y (Ab hk) hy;exact⟨en,h1,by rw[<-e1];exact h2,e2.elim (λe2=>subL _ _ _ e2 h3) λe2=>sub _ _ _ e2 h3⟩
  | iter kd last es bm since c0 clock seen ents hF hb hold hsc hnd hl h hla =>
   cases o' with
   |cells _ _=>exact hs.elim
   |map _ _=>exact hs.elim
   | iter kd' last' fs =>
    obtain⟨rfl,rfl,rfl⟩:=hs;exact .iter _ _ _ bm since c0 clock seen ents (hFF _ hF) hb hold hsc hnd hl (λj x hj=>let ⟨en,h1,h2,h3⟩:=h j x hj;⟨en,h1,h2,h3.mono hFF⟩) λx hx=>let ⟨e1,en,sn,e2,e3,e4,e5⟩:=hla x hx;⟨e1,en,sn,e2,e3,e4,e5.mono hFF⟩
 have subO_len:∀o o',nO σ.H σ'.H ρ o o'->o'.len=o.len:=by intro o o' hs;cases o<;>cases o'<;>first|exact hs.elim|(simp only[HO.len];exact hs.2.1.symm)|rfl
 refine⟨hk.top,λh=>hn0 (hk.n0 h),hok,F',ι',⟨hR.kept,?_,?_,?_,?_,?_,?_⟩,λid=>⟨?_,?_⟩,λt=>sub _ _ _ (hk.slot t) (hV t),hN,hds,λb hb=>?_⟩
 rotate_right
 ·obtain⟨h1,h2⟩:=ι'_some 0 b hb;rw[hk.pin h1]at h2;exact hp b h2
 ·rintro b (h|⟨i,h,_⟩)
  ·exact hR.F_lt b h
  ·exact hR.ι_lt h
 ·rintro b (h|⟨i,h,_⟩)
  ·exact hR.F_ok b h
  ·exact .inr (hR.place i b h).1
 ·intro id b h;obtain⟨h1,h2⟩:=ι'_some id b h;obtain⟨p1,p2,p3⟩:=hR.place _ b h2;refine⟨p1,p2,λ_ hF=>?_⟩;rcases hF with hF|⟨i,hi,hne⟩
  ·exact p3 (λx=>x) hF
  ·exact hne id h1 (hR.inj _ _ b h2 hi (λx=>x) (λx=>x))
 ·intro id b o' h ho';obtain⟨h1,h2⟩:=ι'_some id b h;obtain⟨o,ho,hs⟩:=hk.blk id o' ho';obtain⟨ob,e1,e2⟩:=hR.obj _ b o h2 ho;exact⟨ob,e1,cr o o' ob hs e2⟩
 ·intro id id' b h h' _ _;obtain⟨h1,h2⟩:=ι'_some id b h;obtain⟨h1',h2'⟩:=ι'_some id' b h';exact hk.inj id id' h1 h1' (hR.inj _ _ b h2 h2' (λx=>x) (λx=>x))
 ·intro id id' b o o' h h' _ ho ho';obtain⟨h1,h2⟩:=ι'_some id b h;obtain⟨h1',h2'⟩:=ι'_some id' b h';obtain⟨p,hp,hs⟩:=hk.blk id o ho;obtain⟨p',hp',hs'⟩:=hk.blk id' o' ho';rw[subO_len _ _ hs,subO_len _ _ hs'];exact hR.len _ _ b p p' h2 h2' (λx=>x) hp hp'
 ·rintro⟨b,h⟩;exact(ι'_some id b h).1
 ·intro h;obtain⟨o',ho'⟩:=Ek.1 h;obtain⟨o,ho,_⟩:=hk.blk id o' ho';obtain⟨b,hb⟩:=(hdom (ρ id)).2 (by rw[ho];rfl);exact⟨b,by simp only[ι'];rw[Aq h];exact hb⟩
end
end Go.Am
end
