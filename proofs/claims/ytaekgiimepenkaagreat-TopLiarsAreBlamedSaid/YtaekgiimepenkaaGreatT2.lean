/- The abstract machine, part 15: states between regions; what may be forgotten. No condition. -/
import Derived.Test.YtaekgiimepenkaaGreatT1
import Derived.Scope
set_option linter.all false
open Array renaming append_empty->CP,empty_append->Cy,getD_eq_getD_getElem?->Au,getElem?_eq_getElem->Ar,getElem?_map->B6,getElem?_toList->Bq,length_toList->BP,mem_of_getElem?->B7,mem_toList_iff->De,replicate->Bd
open Bool renaming and_eq_true->A5,and_eq_true_iff->Gu,false->Az,true->Ak
open Go renaming Code->B1,Deferred->Cl,Exit->Cf,FuncId->AU,Oper->Bf,Operand->AN,Program->As,TypeId->AF,Value->AE,World->Ag
open Go.Act renaming put->Cv
open Go.Builtin renaming lenOf->Er
open Go.Call renaming operands->Bs
open Go.Deferred renaming ofValue->Cx
open Go.Op renaming operands->AJ
open Go.Operand renaming tmp->CK
open Go.Region renaming binds->Dx,ready->Bo,wanted->Bu
open Go.Result renaming andThen_ok->AR
open List renaming all_eq_true->A1,any_eq_true->FA,getElem?_append_left->Bb,getElem?_append_right->AZ,getElem?_eq_getElem->Ac,getElem?_eq_some_iff->AA,getElem?_map->Ao,getElem?_take->BM,getElem?_toArray->Cb,length_append->BK,length_cons->Av,length_take->Bt,map_cons->BX,map_nil->Ee,mem_append->BR,mem_cons->BQ,mem_cons_of_mem->AT,mem_cons_self->AX,mem_flatMap->B4,mem_iff_getElem->BE,mem_of_getElem?->At,mem_of_mem_take->BS,range->AW,size_toArray->AG
open List.cons renaming injEq->Gz
open Nat renaming eq_zero_or_pos->BB,le_refl->AM,lt_or_ge->Bc,min_eq_left->Dv
open Option renaming bind_eq_some_iff->Af,getD_some->AQ,isSome_iff_exists->Dj,map_eq_some_iff->Ai,none->Aj,some->Aa
open Option.some renaming injEq->AH
open _root_ renaming Array->Aw,Bool->Bw,List->Ad,Nat->Ae,Option->Aq,beq_iff_eq->C6,if_neg->Ap,if_pos->AB,if_true->CN,of_decide_eq_true->Cw,or_false->Fh
open List renaming map_map->B,mapM_map->E
namespace Go.Am
open RowKit (Below)
def aEw(ν:Ae->Ae):AV->AV
 |.own id o l s=>.own (ν id) o l s
 |.ptr id o=>.ptr (ν id) o
 |.mp id=>.mp (ν id)
 |.kf f id=>.kf f (ν id)
 |.bm f id off=>.bm f (ν id) off
 |.d x=>.d x
 |.nil=>.nil
 |.fp cs=>.fp cs
 |.fd els=>.fd els
 |.un=>.un
 |.ub=>.ub
 |_=>.any
def bPy(ν:Ae->Ae):AV->AV
 |.ag cs=>.ag (cs.map (aEw ν))
 |x=>aEw ν x
def uB(ν:Ae->Ae):HO->HO
 |.cells e cs=>.cells e (cs.map (aEw ν))
 |.map k es=>.map k (es.map λp=>(p.1,bPy ν p.2))
 |.iter k l' es=>.iter k l' es
def lf0(k:Ae):AV->Bw
 |.own id _ _ _=>decide (id<k)
 |.ptr id _=>decide (id<k)
 |.mp id=>decide (id<k)
 |.kf _ id=>decide (id<k)
 |.bm _ id _=>decide (id<k)
 |.d _|.nil|.fp _|.fd _|.un|.ub|.any=>Ak
 |_=>Az
def lf1(k:Ae):AV->Bw
 |.ag cs=>cs.all (lf0 k)
 |x=>lf0 k x
def lfO(k:Ae):HO->Bw
 |.cells _ cs=>cs.all (lf0 k)
 |.map _ es=>es.all λp=>lf1 k p.2
 |.iter ..=>Ak
section
variable {F:Ae->Prop} {w:Ag} {ι ι':Ae->Aq Ae} {ν:Ae->Ae}
def bMl{x:AV}{v:AE}(hι:∀j b,ι j=Aa b->ι' (ν j)=Aa b)(h:V F w ι x v):V F w ι' (aEw ν x) v:=by
 cases h with
 |d x v h=>exact .d _ _ h
 |nil=>exact .nil
 |own id off len sz b cap cur e h1 hb hcap hl hm=>exact .own _ _ _ _ b _ _ _ (hι _ _ h1) hb hcap hl hm
 |ptr id off b h1=>exact .ptr _ _ _ (hι _ _ h1)
 |mp id b h1=>exact .mp _ _ (hι _ _ h1)
 |fp cs ad f hF hcell hel=>exact .fp _ _ f hF hcell hel
 |fd els ad n h=>exact .fd _ _ _ h
 |un=>exact .un
 |ub t=>exact .ub t
 |kf f id b p e h1 hF hp=>exact .kf _ _ _ _ _ (hι _ _ h1) hF hp
 |bm f id off b h1=>exact .bm _ _ _ _ (hι _ _ h1)
 |_=>exact .any _
def cAq{x:AV}{v:AE}(hι:∀j b,ι j=Aa b->ι' (ν j)=Aa b)(h:V F w ι x v):V F w ι' (bPy ν x) v:=by
 cases h with
 | ag cs vs hl hh =>
  refine .ag _ _ (by simpa using hl) λk c u hc hu=>?_
  rw[Ao]at hc;obtain⟨d,hd,rfl⟩:=Ai.1 hc;exact bMl hι (hh k d u hd hu)
 |d x v h=>exact .d _ _ h
 |nil=>exact .nil
 |own id off len sz b cap cur e h1 hb hcap hl hm=>exact .own _ _ _ _ b _ _ _ (hι _ _ h1) hb hcap hl hm
 |ptr id off b h1=>exact .ptr _ _ _ (hι _ _ h1)
 |mp id b h1=>exact .mp _ _ (hι _ _ h1)
 |fp cs ad f hF hcell hel=>exact .fp _ _ f hF hcell hel
 |fd els ad n h=>exact .fd _ _ _ h
 |un=>exact .un
 |ub t=>exact .ub t
 |kf f id b p e h1 hF hp=>exact .kf _ _ _ _ _ (hι _ _ h1) hF hp
 |bm f id off b h1=>exact .bm _ _ _ _ (hι _ _ h1)
 |_=>exact .any _
def bMv{o:HO}{ob:Obj}(hι:∀j b,ι j=Aa b->ι' (ν j)=Aa b)(h:CR F w ι o ob):CR F w ι' (uB ν o) ob:=by
 cases h with
 | cells e cs cur hl hh =>
  refine .cells _ _ _ (by simpa using hl) λk c hk=>?_
  rw[Ao]at hk;obtain⟨d,hd,rfl⟩:=Ai.1 hk;obtain⟨u,hu,hv⟩:=hh k d hd;exact⟨u,hu,bMl hι hv⟩
 | map k es ents clock hl hst hh =>
  refine .map _ _ _ _ (by simpa using hl) hst λk x hk=>?_
  rw[Ao]at hk;obtain⟨d,hd,rfl⟩:=Ai.1 hk;obtain⟨en,h1,h2,h3⟩:=hh k d hd;exact⟨en,h1,h2,cAq hι h3⟩
 |iter k last es bm since c0 clock seen ents hF hb hold hsc hnd hl h hla=>exact .iter k last es bm since c0 clock seen ents hF hb hold hsc hnd hl h hla
def wY{n:Ae}{x:AV}{v:AE}(hx:lf0 n x=Ak)(hι:∀j b,j<n->ι (ν j)=Aa b->ι' j=Aa b)(h:V F w ι (aEw ν x) v):V F w ι' x v:=by
 cases x with
 |own id o l s=>cases h with|own _ _ _ _ b cap cur e h1 hb hcap hl hm=>exact .own _ _ _ _ b _ _ _ (hι _ _ (Cw hx) h1) hb hcap hl hm
 |ptr id o=>cases h with|ptr _ _ b h1=>exact .ptr _ _ _ (hι _ _ (Cw hx) h1)
 |mp id=>cases h with|mp _ b h1=>exact .mp _ _ (hι _ _ (Cw hx) h1)
 |kf f id=>cases h with|kf _ _ b p e h1 hF hp=>exact .kf _ _ _ _ _ (hι _ _ (Cw hx) h1) hF hp
 |bm f id off=>cases h with|bm _ _ _ b h1=>exact .bm _ _ _ _ (hι _ _ (Cw hx) h1)
 |d x=>cases h with|d _ _ h=>exact .d _ _ h
 |nil=>cases h with|nil=>exact .nil
 |fp cs=>cases h with|fp _ ad f hF hcell hel=>exact .fp _ _ f hF hcell hel
 |fd els=>cases h with|fd _ ad n h=>exact .fd _ _ _ h
 |un=>cases h with|un=>exact .un
 |ub=>cases h with|ub t=>exact .ub t
 |any=>exact .any _
 |_=>cases hx
def bMj{n:Ae}{x:AV}{v:AE}(hx:lf1 n x=Ak)(hι:∀j b,j<n->ι (ν j)=Aa b->ι' j=Aa b)(h:V F w ι (bPy ν x) v):V F w ι' x v:=by
 cases x with
 | ag cs =>
  cases h with|ag _ vs hl hh =>
  refine .ag _ _ (by simpa using hl) λk c u hc hu=>?_
  exact wY (A1.1 hx c (At hc)) hι (hh k _ u (by rw[Ao,hc];rfl) hu)
 |_=>exact wY hx hι h
def bMu{n:Ae}{o:HO}{ob:Obj}(hx:lfO n o=Ak)(hι:∀j b,j<n->ι (ν j)=Aa b->ι' j=Aa b)(h:CR F w ι (uB ν o) ob):CR F w ι' o ob:=by
 cases o with
 | cells e cs =>
  cases h with|cells _ _ cur hl hh =>
  refine .cells _ _ _ (by simpa using hl) λk c hk=>?_
  obtain⟨u,hu,hv⟩:=hh k (aEw ν c) (by rw[Ao,hk];rfl);exact⟨u,hu,wY (A1.1 hx c (At hk)) hι hv⟩
 | map k es =>
  cases h with|map _ _ ents clock hl hst hh =>
  refine .map _ _ _ _ (by simpa using hl) hst λk x hk=>?_
  obtain⟨en,h1,h2,h3⟩:=hh k (x.1,bPy ν x.2) (by rw[Ao,hk];rfl);exact⟨en,h1,h2,bMj (A1.1 hx x (At hk)) hι h3⟩
 |iter k last es=>cases h with|iter _ _ _ bm since c0 clock seen ents hF hb hold hsc hnd hl h hla=>exact .iter k last es bm since c0 clock seen ents hF hb hold hsc hnd hl h hla
end
def bWc(P:As)[M:Mch P](f:AU)(h:AV)(o:HO)(hs:Ad HO)(ds:Ad D)(o':HO)(hs':Ad HO)(r:D):Prop :=
 ∀(A:Ae->Prop) (W:Ag) (vs:Aw AE) (ι:Ae->Aq Ae),(∀b,A b->b<W.heap.size)->(∀id,(∃b,ι id=Aa b)↔id<hs.length+1)->(∀id b,ι id=Aa b->b<W.heap.size/\¬A b) ->
  (∀id id' b,ι id=Aa b->ι id'=Aa b->id=id')->(∀i b ob,(o::hs)[i]? = Aa ob->ι i=Aa b->∃x,W.heap[b]? = Aa x/\CR A W ι ob x) ->
  ds.length+1=vs.size->(∃v,vs[0]? = Aa v/\V A W ι h v)->(∀(k:Ae) d v,ds[k]? = Aa d->vs[k+1]? = Aa v->VD A W d v) ->
  (∀w,aU P (callFunc f vs) w=.ok (.enter f vs) w)/\CX P f vs W λv W'=>∃F' ι',Kept (λb=>∃id,ι id=Aa b) W.heap.size W W' /\
   (∀b,F' b->A b\/(∃id,0<id/\ι id=Aa b)\/(W.heap.size<=b/\b<W'.heap.size))/\VD F' W' r v/\(∀id,(∃b,ι' id=Aa b)↔id<hs'.length+1)/\ι' 0=ι 0 /\
   (∀id b,ι' id=Aa b->b<W'.heap.size/\¬F' b/\((∃j,ι j=Aa b)\/W.heap.size<=b))/\(∀id id' b,ι' id=Aa b->ι' id'=Aa b->id=id') /\
   (∀i b ob,(o'::hs')[i]? = Aa ob->ι' i=Aa b->∃x,W'.heap[b]? = Aa x/\CR F' W' ι' ob x)
def bYz(i:Ae):HO->Bw
 |.cells _ cs=>cs.any (oM i)
 |.map ..=>Az
 |.iter ..=>Az
def aKl{F:Ae->Prop}{w:Ag}{ι:Ae->Aq Ae}{ν:Ae->Ae}{i:Ae}{x:AV}{v:AE}(hi:oM i x=Ak)(h:V F w ι (aEw ν x) v):∃b,ι (ν i)=Aa b:=by
 cases x with
 | own id o l s =>
  simp only[oM,C6]at hi;subst hi;cases h with|own _ _ _ _ b cap cur e h1 hb hcap hl hm=>exact⟨b,h1⟩
 | ptr id o =>
  simp only[oM,C6]at hi;subst hi;cases h with|ptr _ _ b h1=>exact⟨b,h1⟩
 | mp id =>
  simp only[oM,C6]at hi;subst hi;cases h with|mp _ b h1=>exact⟨b,h1⟩
 | bm g id o =>
  simp only[oM,C6]at hi;subst hi;cases h with|bm _ _ _ b h1=>exact⟨b,h1⟩
 |_=>cases hi
def aCq{G:Ctx}{F:Ae->Prop}{w:Ag}{ι:Ae->Aq Ae}{C:Ae->Prop}{K:Hp}(hR:HR G F w ι C K){ν:Ae->Ae}{l:Ad HO}{k:Ae}(hK:∀i ob,l[i]? = Aa ob->K (ν i)=Aa (uB ν ob))
 (h0:∃b,ι (ν 0)=Aa b) (hm:∀i,0<i->i<k->∃j ob,j<i/\l[j]? = Aa ob/\bYz i ob=Ak):∀(n i:Ae),i<=n->i<k->∃b,ι (ν i)=Aa b
 |0,i,hi,_=>by rw[show i=0 by omega];exact h0
 | n+1,i,hi,hk=>by
  rcases BB i with rfl|hpos
  .exact h0
  .obtain⟨j,ob,hj,hl,hmt⟩:=hm i hpos hk;obtain⟨b,hb⟩:=aCq hR hK h0 hm n j (by omega) (by omega);obtain⟨y,_,hcr⟩:=hR.obj _ b _ hb (hK j ob hl);cases ob with
   |map k es=>cases hmt
   |iter k l es=>cases hmt
   | cells e cs =>
    simp only[bYz,FA]at hmt;obtain⟨c,hc,hid⟩:=hmt;obtain⟨q,hq,hqc⟩:=BE.1 hc;cases hcr with|cells _ _ cur hlen hh =>
    obtain⟨u,_,hv⟩:=hh q (aEw ν c) (by rw[Ao,Ac hq,hqc];rfl);exact aKl hid hv
def nuL(ν:Ae->Ae)(k:Ae):Ad Ae:=(AW k).map λi=>ν (i+1)
def vP{ν:Ae->Ae}{k id:Ae}:id∈nuL ν k↔∃j,0<j/\j<k+1/\ν j=id:=by
 unfold nuL;rw[List.mem_map];constructor
 .rintro⟨i,hi,rfl⟩;exact⟨i+1,by omega,by simpa using hi,rfl⟩
 .rintro⟨j,h1,h2,rfl⟩;exact⟨j-1,by simp;omega,by rw[show j-1+1=j by omega]⟩
def nuT(r n:Ae):Ae->Ae:=λj=>if j=0 then r else n+(j-1)
section
variable {P:As} [M:Mch P] {G:Ctx} {C:Ae->Prop} {H K:Hp} {Γ:Ae->AV} {o:Bf}
def bNa{f:AU}{args:Aw AN}{ts:Aw AF}{x:AN}{rest:Ad AN}{ds:Ad D}{ν:Ae->Ae}{n:Ae}{h:AV}{ro ro':HO}{hs hs':Ad HO}{r:D}{K':Hp}
 (hop_:o.op=.call { callee:=.value (.func f),args:=args,argTypes:=ts }) (hargs:args.toList=x::rest) (hHK:∀id ob,H id=Aa ob->K id=Aa ob)
 (hx:oev Γ x=aEw ν h) (hlf:lf0 (hs.length+1) h=Ak) (hνi:∀i j,i<hs.length+1->j<hs.length+1->ν i=ν j->i=j) (hνH:∀i ob,(ro::hs)[i]? = Aa ob->lfO (hs.length+1) ob=Ak/\H (ν i)=Aa (uB ν ob)) (hC:∀i,i<hs.length+1->¬C (ν i))
 (hlive:∀i,i<hs.length+1->∀F w ι (a:Act),HR G F w ι C K->(∀t,CK t∈o.op.operands->V F w ι (Γ t) (a.tmps.getD t undef))->∃b,ι (ν i)=Aa b)
 (hvis:bW H (rest.map (oev Γ))=[]) (hf:cK H (rest.map (oev Γ))=Aa ds) (hsp:bWc P f h ro hs ds ro' hs' r)
 (hK0:K' (ν 0)=Aa (uB (nuT (ν 0) n) ro')) (hKn:∀j ob,hs'[j]? = Aa ob->K' (n+j)=Aa (uB (nuT (ν 0) n) ob))
 (hKo:∀j ob,j≠ν 0->¬(n<=j/\j<n+hs'.length)->K' j=Aa ob->K j=Aa ob/\¬C j/\∀i,i<hs.length+1->ν i≠j) (hν0n:ν 0<n) :
 Y P G o Γ C K K' (inj r) (λi=>n<=i/\i<n+hs'.length) (λi=>∃j,0<j/\j<hs.length+1/\ν j=i):=by
 intro F w ι a hok hR hop hnew next hnext
 have hargs':args=(x::rest).toArray:=by rw[<-hargs]
 have hop':∀y∈x::rest,V F w ι (oev Γ y) (a.eval y):=λy hy=>cD λt e=>hop t (by rw[hop_];subst e;simp only[AJ,Bs];rw[hargs'];simpa using hy)
 have hlv:∀i,i<hs.length+1->∃b,ι (ν i)=Aa b:=λi hi=>hlive i hi F w ι a hR hop
 obtain⟨hl,hV,_⟩:=mN hR hHK hf λy hy=>hop' y (AT _ hy)
 have hmap:args.map a.eval=(a.eval x::rest.map a.eval).toArray:=by rw[hargs'];simp
 -- the numbers that the function is given
 obtain⟨ιc,hιc⟩:∃ιc:Ae->Aq Ae,ιc=λi=>if i<hs.length+1 then ι (ν i)else none:=⟨_,rfl⟩
 have c_in:∀i,i<hs.length+1->ιc i=ι (ν i):=λi hi=>by rw[hιc];exact AB hi
 have c_some:∀i b,ιc i=Aa b->i<hs.length+1/\ι (ν i)=Aa b:=λi b hi=>by
  rw[hιc]at hi;simp only at hi;split at hi
  .exact⟨by assumption,hi⟩
  .cases hi
 have hroot:ν 0<n:=hν0n
 have hne:∀i b,i<hs.length+1->ι (ν i)=Aa b->¬F b:=λi b hi hb=>(hR.place _ b hb).2.2 (hC i hi)
 obtain⟨hent,hcalls⟩:=hsp F w (args.map a.eval) ιc hR.F_lt
  (λid=>⟨λ⟨b,hb⟩=>(c_some id b hb).1,λh=>by obtain⟨b,hb⟩:=hlv id h;exact⟨b,by rw[c_in id h];exact hb⟩⟩)
  (λid b hb=>by obtain⟨h1,h2⟩:=c_some id b hb;exact⟨hR.ι_lt h2,hne id b h1 h2⟩)
  (λid id' b h1 h2=>by
   obtain⟨q1,q2⟩:=c_some id b h1;obtain⟨q3,q4⟩:=c_some id' b h2;exact hνi id id' q1 q3 (hR.inj _ _ b q2 q4 (hC id q1) (hC id' q3)))
  (λi b ob hob hb=>by
   obtain⟨q1,q2⟩:=c_some i b hb;obtain⟨l1,l2⟩:=hνH i ob hob;obtain⟨y,y1,y2⟩:=hR.obj _ b _ q2 (hHK _ _ l2);exact⟨y,y1,bMu l1 (λj c hj hc=>by rw[c_in j hj];exact hc) y2⟩)
  (by rw[hmap];simp at hl ⊢;omega)
  ⟨a.eval x,by rw[hmap];simp,wY hlf (λj c hj hc=>by rw[c_in j hj];exact hc) (by rw[<-hx];exact hop' x (AX ..))⟩
  (λk d v hk hv=>(hV k d v hk (by rw[hmap]at hv;simpa using hv)).mono λc hc=>by
   rcases hc with hc|⟨i,hi,_⟩
   .exact hc
   .rw[hvis]at hi;cases hi)
 unfold wpX
 have hfe:a.eval (.func f)=.func (.func f) #[] #[]:=rfl
 simp only[execOp,hop_,resolve,invoke,aB,hfe,Cx,aX,AR,Cy,CP,hent,gQ]
 refine hcalls.mono ?_
 rintro v w' ⟨F1,ι1,hk,hF1,hvd,hdom,h0,hpl,hinj,hobj⟩
 have hsz:=hk.size
 have hW:G.W.heap.size<=w.heap.size:=hR.kept.size
 have rng:∀b,(∃id,ιc id=Aa b)->∃i,i<hs.length+1/\ι (ν i)=Aa b:=λb ⟨id,h⟩=>⟨id,c_some id b h⟩
 have hoth:∀b,b<w.heap.size->(¬∃i,i<hs.length+1/\ι (ν i)=Aa b)->w'.heap[b]? = w.heap[b]? := λb h1 h2=>hk.block b h1 λh=>h2 (rng b h)
 have hF1':∀b,F1 b->F b\/(∃i,0<i/\i<hs.length+1/\ι (ν i)=Aa b)\/(w.heap.size<=b/\b<w'.heap.size):=λb hb=>by
  rcases hF1 b hb with h|⟨id,h1,h2⟩|h
  .exact .inl h
  .obtain⟨q1,q2⟩:=c_some id b h2;exact .inr (.inl ⟨id,h1,q1,q2⟩)
  .exact .inr (.inr h)
 have h00:ι1 0=ι (ν 0):=by rw[h0,c_in 0 (by omega)]
 obtain⟨ι',hι'⟩:∃ι':Ae->Aq Ae,ι'=λid=>if n<=id/\id<n+hs'.length then ι1 (id-n+1)else ι id:=⟨_,rfl⟩
 have e_new:∀id,(n<=id/\id<n+hs'.length)->ι' id=ι1 (id-n+1):=λid h=>by rw[hι'];exact AB h
 have e_old:∀id,¬(n<=id/\id<n+hs'.length)->ι' id=ι id:=λid h=>by rw[hι'];exact Ap h
 have e_nu:∀j b,ι1 j=Aa b->ι' (nuT (ν 0) n j)=Aa b:=λj b hj=>by
  have hlt:=(hdom j).1 ⟨b,hj⟩;unfold nuT;by_cases hj0:j=0
  .subst hj0;rw[AB rfl,e_old _ (by omega),<-h00];exact hj
  .rw[Ap hj0,e_new _ (by omega),show n+(j-1)-n+1=j by omega];exact hj
 have split:∀id b,ι' id=Aa b->(n<=id/\id<n+hs'.length/\ι1 (id-n+1)=Aa b)\/(¬(n<=id/\id<n+hs'.length)/\ι id=Aa b):=λid b h=>by
  by_cases hid:n<=id/\id<n+hs'.length
  .rw[e_new id hid]at h;exact .inl ⟨hid.1,hid.2,h⟩
  .rw[e_old id hid]at h;exact .inr ⟨hid,h⟩
 have hs0:Step F w ι (λb=>F b\/F1 b) w' ι':=⟨λ_ h=>.inl h,λb h=>hoth b (hR.F_lt b h) λ⟨i,hi,hb⟩=>hne i b hi hb h,λid b h=>by
  by_cases hid:n<=id/\id<n+hs'.length
  .rw[hnew id hid]at h;cases h
  .rw[e_old id hid];exact h,λid b cur e hi h=>hk.shape b cur e (hR.ι_lt hi) h⟩
 have hs1:Step F1 w' ι' (λb=>F b\/F1 b) w' ι':=⟨λ_ h=>.inr h,λ_ _=>rfl,λ_ _ h=>h,λid b cur e hi h=>⟨cur,h,rfl⟩⟩
 -- an old number that is not used up and not the root's lies apart
 have apart:∀id b,ι id=Aa b->¬C id->(∀i,i<hs.length+1->ν i≠id)->¬∃i,i<hs.length+1/\ι (ν i)=Aa b:=λid b h1 h2 h3 ⟨i,hi,hb⟩ =>
  h3 i hi (hR.inj _ _ b hb h1 (hC i hi) h2)
 have cr:∀i b j,ι1 (j+1)=Aa b->ι i=Aa b->¬(C i\/∃k,0<k/\k<hs.length+1/\ν k=i)->False:=λi b j q1 q2 q3=>by
  rcases(hpl _ b q1).2.2 with p|p
  .obtain⟨k,hk1,hb⟩:=rng b p;have e:=hR.inj _ _ b hb q2 (hC k hk1) (λh=>q3 (.inl h));rcases BB k with rfl|hk0
   .have:=hinj 0 (j+1) b (by rw[h00];exact hb) q1;omega
   .exact q3 (.inr ⟨k,hk0,hk1,e⟩)
  .have:=hR.ι_lt q2;omega
 refine hnext (λb=>F b\/F1 b) w' ι' v ⟨hR.kept.trans ⟨hk.os,hk.tape,hk.output,hk.size,λk hkW hm=>hoth k (by omega) λ⟨i,hi,hb⟩=>?_,λk cur e hkW hc=>hk.shape k cur e (by omega) hc⟩,?_,?_,?_,?_,?_,?_⟩ hs0 (λid b h=>?_) (λid hid=>?_) (aEg (hvd.mono λ_ h=>.inr h))
 .rcases(hR.place _ k hb).1 with h|h
  .exact hm h
  .omega
 .rintro b (h|h)
  .have:=hR.F_lt b h;omega
  .rcases hF1' b h with h|⟨i,_,_,h⟩|h
   .have:=hR.F_lt b h;omega
   .have:=hR.ι_lt h;omega
   .exact h.2
 .rintro b (h|h)
  .exact hR.F_ok b h
  .rcases hF1' b h with h|⟨i,_,_,h⟩|h
   .exact hR.F_ok b h
   .exact .inr (hR.place _ b h).1
   .exact .inr (.inr (by omega))
 .intro id b h
  rcases split id b h with ⟨_,_,h⟩|⟨hn,h⟩
  .obtain⟨p1,p2,p3⟩:=hpl _ b h
   refine⟨?_,p1,λ_ hF=>?_⟩
   .rcases p3 with p3|p3
    .obtain⟨i,_,hb⟩:=rng b p3;exact(hR.place _ b hb).1
    .exact .inr (by omega)
   .rcases hF with hF|hF
    .rcases p3 with p3|p3
     .obtain⟨i,hi,hb⟩:=rng b p3;exact hne i b hi hb hF
     .have:=hR.F_lt b hF;omega
    .exact p2 hF
  .obtain⟨p1,p2,p3⟩:=hR.place id b h
   refine⟨p1,by omega,λhc hF=>?_⟩
   have hc1:¬C id:=λh=>hc (.inl h)
   rcases hF with hF|hF
   .exact p3 hc1 hF
   .rcases hF1' b hF with q|⟨i,q1,q2,q3⟩|q
    .exact p3 hc1 q
    .exact hc (.inr ⟨i,q1,q2,hR.inj _ _ b q3 h (hC i q2) hc1⟩)
    .omega
 .intro id b ob h hob
  rcases split id b h with ⟨h1,h2,h⟩|⟨hn,h⟩
  .obtain⟨j,rfl⟩:∃j,id=n+j:=⟨id-n,by omega⟩
   rw[show n+j-n+1=j+1 by omega]at h
   have hg:hs'[j]? = Aa hs'[j]:=Ac (by omega)
   rw[hKn j _ hg]at hob
   injection hob with hob;subst hob
   obtain⟨y,y1,y2⟩:=hobj (j+1) b hs'[j] (by simp) h
   exact⟨y,y1,(bMv e_nu y2).step hs1⟩
  .by_cases hr:id=ν 0
   .subst hr
    rw[hK0]at hob
    injection hob with hob;subst hob
    obtain⟨y,y1,y2⟩:=hobj 0 b ro' rfl (by rw[h00];exact h)
    exact⟨y,y1,(bMv e_nu y2).step hs1⟩
   .obtain⟨q1,q2,q3⟩:=hKo id ob hr hn hob
    obtain⟨y,y1,y2⟩:=hR.obj id b ob h q1
    exact⟨y,(hoth b (hR.ι_lt h) (apart id b h q2 q3)).trans y1,y2.step hs0⟩
 .intro id id' b h h' hc hc'
  rcases split id b h with ⟨h1,h2,h⟩|⟨hn,h⟩<;>rcases split id' b h' with ⟨h1',h2',h'⟩|⟨hn',h'⟩
  .have:=hinj _ _ b h h';omega
  .exact(cr id' b _ h h' hc').elim
  .exact(cr id b _ h' h hc).elim
  .exact hR.inj id id' b h h' (λx=>hc (.inl x)) λx=>hc' (.inl x)
 .intro id id' b o1 o2 h h' hc ho1 ho2
  have old:∀i ob,¬(n<=i/\i<n+hs'.length)->K' i=Aa ob->¬C i/\(i=ν 0\/∀k,k<hs.length+1->ν k≠i):=λi ob q1 q2=>by
   by_cases hr:i=ν 0
   .exact⟨by rw[hr];exact hC 0 (by omega),.inl hr⟩
   .obtain⟨_,p2,p3⟩:=hKo i ob hr q1 q2;exact⟨p2,.inr p3⟩
  have same:id=id'->o2.len<=o1.len:=λe=>by subst e;rw[ho1]at ho2;injection ho2 with ho2;subst ho2;exact AM _
  rcases split id b h with ⟨h1,h2,h⟩|⟨hn,h⟩<;>rcases split id' b h' with ⟨h1',h2',h'⟩|⟨hn',h'⟩
  .exact same (by have:=hinj _ _ b h h';omega)
  .obtain⟨q1,q2⟩:=old id' o2 hn' ho2
   exfalso
   rcases q2 with q2|q2
   .subst q2
    have:=hinj 0 _ b (by rw[h00];exact h') h;omega
   .refine cr id' b _ h h' λhx=>?_
    rcases hx with hx|⟨k,_,hk2,hk3⟩
    .exact q1 hx
    .exact q2 k hk2 hk3
  .exact(cr id b _ h' h hc).elim
  .exact same (hR.inj id id' b h h' (λx=>hc (.inl x)) (old id' o2 hn' ho2).1)
 .rcases split id b h with ⟨h1,h2,_⟩|⟨_,h⟩
  .exact .inr ⟨h1,h2⟩
  .exact .inl h
 .obtain⟨b,hb'⟩:=(hdom (id-n+1)).2 (by omega)
  exact⟨b,by rw[e_new id hid];exact hb'⟩
end
end Go.Am
namespace Go.Am
def cDa(o:Bf):Bw:=match o.op with|.defer _=>Az|_=>Ak
def qN(ops:Aw Bf):Bw:=ops.all cDa
def fD:B1->Bw
 |.region _ ops _=>qN ops
 |.seq x y|.cond _ x y=>fD x&&fD y
 |.block _ c|.loop c=>fD c
 |.scope _=>Az
 |.goto _=>Az
 |_=>Ak
structure WpR(P:As)[M:Mch P](rd:Bw)(W:B1->(Cf->Act->Ag->Prop)->Act->Ag->Prop):Prop where
 mono:∀{c:B1} {Q Q':Cf->Act->Ag->Prop} {a:Act} {w:Ag},W c Q a w->(∀e a w,Q e a w->Q' e a w)->W c Q' a w
 okv:∀{c:B1} {Q:Cf->Act->Ag->Prop} {a:Act} {w:Ag},(OkV w->W c Q a w)->W c Q a w
 skip:∀{Q:Cf->Act->Ag->Prop} {a:Act} {w:Ag},Q .normal a w->W .skip Q a w
 label:∀{l:Ae} {Q:Cf->Act->Ag->Prop} {a:Act} {w:Ag},Q .normal a w->W (.label l) Q a w
 exit:∀{id:Ae} {Q:Cf->Act->Ag->Prop} {a:Act} {w:Ag},Q (.exit id) a w->W (.exit id) Q a w
 ret:∀{Q:Cf->Act->Ag->Prop} {a:Act} {w:Ag},Q .ret a w->W .ret Q a w
 regL:∀{id:Ae} {ops:Aw Bf} {Q:Cf->Act->Ag->Prop} {a:Act} {w:Ag},(rd=Ak->qN ops=Ak)->gP P ops Q ops.toList a w->W (.region id ops Az) Q a w
 regA:∀{id:Ae} {ops:Aw Bf} {Q:Cf->Act->Ag->Prop} {a:Act} {w:Ag},P.follows .mixedOrders=Ak->(rd=Ak->qN ops=Ak) ->
  (∀d,zL P ops Q ops.size (Bd ops.size Az) a { w with drawn:=d })->W (.region id ops Ak) Q a w
 seq:∀{x y:B1} {Q:Cf->Act->Ag->Prop} {a:Act} {w:Ag},W x (Exit.then (W y Q) Q) a w->W (.seq x y) Q a w
 cond:∀{c:AN} {x y:B1} {t:Bw} {Q:Cf->Act->Ag->Prop} {a:Act} {w:Ag},a.eval c=.bool t->W (if t then x else y) Q a w->W (.cond c x y) Q a w
 block:∀{id:Ae} {c:B1} {Q:Cf->Act->Ag->Prop} {a:Act} {w:Ag},W c (Exit.inBlock id Q) a w->W (.block id c) Q a w
 loop:∀{c:B1} {Q:Cf->Act->Ag->Prop} {a:Act} {w:Ag} (I:Ae->Act->Ag->Prop),(∃n,I n a w) ->
  (∀n a w,I n a w->W c (Exit.then (λa' w'=>∃m,m<n/\I m a' w') Q) a w)->W (.loop c) Q a w
 goto:∀{l:Ae} {Q:Cf->Act->Ag->Prop} {a:Act} {w:Ag},rd=Az->Q (.goto l) a w->W (.goto l) Q a w
 jumps:∀{c:B1} {Q:Cf->Act->Ag->Prop} {a:Act} {w:Ag} (J:Ae->Ae->Act->Ag->Prop),rd=Az->W c (λe a v=>match e with|.goto l=>∃n,J l n a v|e=>Q e a v) a w ->
  (∀l n a v,J l n a v->∃rest,findLabel c l=Aa rest/\W rest (λe a v=>match e with|.goto l=>∃m,m<n/\J l m a v|e=>Q e a v) a v)->W (.scope c) Q a w
 scope:∀{c:B1} {Q:Cf->Act->Ag->Prop} {a:Act} {w:Ag},rd=Az->W c (Exit.noGoto Q) a w->W (.scope c) Q a w
def cA(P:As)[M:Mch P]:WpR P Az (WC P) where
 mono h hq:=cG h hq
 okv h:=λWin hW hv=>h hv Win hW hv
 skip h:=zY h
 label h:=bDf h
 exit h:=aUr h
 ret h:=aIa h
 regL _ h:=iE h
 regA hm _ h:=bNv hm h
 seq h:=fA h
 cond hc h:=oW hc h
 block h:=aAz h
 loop I h0 h:=aUq I h0 h
 goto _ h:=bNw h
 jumps J _ h0 h:=bDg J h0 h
 scope _ h:=aKz h
def bJk(P:As)(ops:Aw Bf)(listed:Aw Bw)(i:Ae):Bw :=
 match ops[i]? with
 |none=>Az
 | some oi=>(AW ops.size).all λj=>j==i||listed.getD j Ak||match ops[j]? with
   |some oj=>oj.after.any (λe=>Dx .any e&&e.on==i)||yK P ops oi oj||dep ops 12 j i
   |none=>Ak
def rH(P:As)(ops:Aw Bf):Ae->Ae->Aw Bw->Bw
 |0,_,listed=>(Bo .any ops listed).isEmpty
 |fuel+1,k,listed=>(Bo .any ops listed).contains k&&bJk P ops listed k&&rH P ops fuel (k+1) (listed.setIfInBounds k Ak)
def bIj:Op->Bw
 |.next ..=>Ak
 |_=>Az
def gW(l:Ad Bf):Bw:=l.all λo=>!bIj o.op
def aWc(P:As)(ops:Aw Bf):Bw:=gW ops.toList&&rH P ops ops.size 0 (Bd ops.size Az)
section
variable {P:As} [M:Mch P] {G:Ctx} {ops:Aw Bf}
def aSr{i:Ae}{oi:Bf}{listed:Aw Bw}(hi:ops[i]? = Aa oi)(h:bJk P ops listed i=Ak)(j:Ae)(oj:Bf)
 (hj:ops[j]? = Aa oj) (hne:j≠i) (hun:listed.getD j Ak=Az) (hno:∀e∈oj.after,Dx .any e=Ak->e.on≠i) (hnd:dep ops 12 j i=Az):yK P ops oi oj=true:=by
 simp only[bJk,hi,A1,List.mem_range]at h
 have h1:=h j (Array.getElem?_eq_some_iff.1 hj).1
 simp only[hj,Bool.or_eq_true,C6,hne,false_or,hun,Bool.false_eq_true,hnd,Fh]at h1
 rcases h1 with h1|h1
 .obtain⟨e,he,hb⟩:=Array.any_eq_true'.1 h1
  simp only[A5,C6]at hb
  exact absurd hb.2 (hno e he hb.1)
 .exact h1
def wX(P:As)[M:Mch P](G:Ctx)(ops:Aw Bf)(Q:AS->Prop):Ad Bf->AS->Prop
 |[],s=>Q s
 |o::l,s=>∃s',rX P G ops o s s'/\wX P G ops Q l s'
def aPi[M:Mch P]{Q:AS->Prop}:∀(l:Ad Bf) (k:Ae) (listed:Aw Bw) (s:AS),Dc ops listed->(∀j,l[j]? = ops[k+j]?)->rH P ops l.length k listed=Ak->wX P G ops Q l s->bMi P G ops Q l.length listed s
 |[],_,_,_,_,_,hB,h=>⟨by simpa[rH]using hB,h⟩
 | o::l,k,listed,s,hdc,hl,hB,h=>by
  have h0:ops[k]? = Aa o:=by simpa using(hl 0).symm
  simp only[Av,rH,A5]at hB;obtain⟨⟨hr,hf⟩,hB'⟩:=hB;obtain⟨s',hd,hK⟩:=h;exact aTz h0 l.length listed s s' hdc (aSr h0 hf) (by simpa using hr) hd
   (aPi l (k+1) _ _ (aKq hdc (by simpa using hr)) (λj=>by have:=hl (j+1);simpa[Nat.add_assoc,Nat.add_comm 1 j]using this) hB' hK)
def kP(G:Ctx)(N:Ae)(ds:Ad Cl)(s:AS)(a:Act)(w:Ag):Prop :=
 OkV w/\∃F ι,HR G F w ι s.T s.K/\(∀id,(∃b,ι id=Aa b)↔s.U id)/\(∀t,V F w ι (s.Γ t) (a.tmps.getD t undef))/\(a.tmps.size=N/\∀t v,G.Z t=Aa v->a.tmps.getD t undef=v)/\a.defers=ds/\∀id b,ι id=Aa b->G.P0 id b
def fZ(a:Act)(dst:Aq Tmp)(u:AE)(h:∀d,dst=Aa d->d<a.tmps.size)(t:Ae):(a.put dst u).tmps.getD t undef=if dst=Aa t then u else a.tmps.getD t undef:=by
 cases dst with
 |none=>simp[Cv]
 | some d =>
  have hd:=h d rfl;simp only[Cv,Au,AH];by_cases e:d=t
  .subst e;rw[AB rfl,Array.getElem?_setIfInBounds_self_of_lt hd];rfl
  .rw[Ap e,Array.getElem?_setIfInBounds_ne e]
def lV{o:Bf}{Γ:Ae->AV}{F:Ae->Prop}{w:Ag}{ι:Ae->Aq Ae}{a:Act}{x:Bw}(h:cJ ops o Γ=Aa x)(hV:∀t,V F w ι (Γ t) (a.tmps.getD t undef)) :
 Bu o (yielded ops a.tmps)=x:=by
 unfold cJ at h
 unfold Bu
 cases hg:o.guard with
 |none=>simp only[hg]at h;injection h
 | some gw =>
  obtain⟨j,want⟩:=gw
  simp only[hg]at h ⊢
  unfold yielded
  cases hd:(ops[j]?).bind (·.dst)with
  |none=>simp only[hd,AH]at h;rw[<-h];cases want<;>rfl
  | some d =>
   simp only[hd]at h
   have hv:=hV d
   simp only[Option.bind_some]
   rw[Au]at hv
   split at h
   .rename_i y hy
    injection h with h;subst h
    rw[hy]at hv
    cases ht:a.tmps[d]? with
    |none=>rw[ht]at hv;simp only[Option.getD_none]at hv;cases hv with|d _ _ hv=>cases hv
    | some v =>
     rw[ht]at hv;simp only[AQ]at hv
     cases hv with|d _ _ hv=>cases hv with|b =>
     cases y<;>cases want<;>rfl
   .rename_i hy
    injection h with h;subst h
    rw[hy]at hv
    cases ht:a.tmps[d]? with
    |none=>rfl
    | some v =>
     rw[ht]at hv;simp only[AQ]at hv
     generalize hu:v=v' at hv
     cases hv;rfl
   .cases h
def bCp[M:Mch P]{o:Bf}{a:Act}{w:Ag}{K:Act->Ag->Prop}(hok:OkV w)(h:wpX P o a w λa' w'=>OkV w'->K a' w'):wpX P o a w K:=by
 unfold wpX at h ⊢;cases hr:aU P (execOp a.eval o) w with
 |halt x w'=>rw[hr]at h;exact h
 | ok n w' =>
  rw[hr]at h;have hok':=aVl hok hr;cases n<;>simp only[gQ]at h ⊢<;>first
  |exact h hok'
  |exact λWin hW hv c cs hk=>h Win hW hv c cs λx v' ho hx=>hk x v' ho (hx ho)
def HR.env{F:Ae->Prop}{w v1:Ag}{ι:Ae->Aq Ae}{C:Ae->Prop}{H:Hp}(hR:HR G F w ι C H)(he:Env w v1):HR G F v1 ι C H/\Step F w ι F v1 ι:=by
 have hst:Step F w ι F v1 ι:=⟨λ_ h=>h,λb h=>he.get (hR.F_lt b h),λ_ _ h=>h,λid b cur e hi h=>⟨cur,(he.get (hR.ι_lt hi)).trans h,rfl⟩⟩;have hsz:=he.size;have hW:=hR.kept.size;refine⟨⟨hR.kept.trans ⟨he.os,he.tape,he.output,hsz,λk hk _=>he.get (by omega),λk cur e hk hc=>⟨cur,(he.get (by omega)).trans hc,rfl⟩⟩,λb h=>by have:=hR.F_lt b h;omega,hR.F_ok,λid b e=>?_,λid b o h1 h2=>?_,hR.inj,hR.len⟩,hst⟩
 .obtain⟨p1,p2,p3⟩:=hR.place id b e;exact⟨p1,by omega,p3⟩
 .obtain⟨ob,h3,h4⟩:=hR.obj id b o h1 h2;exact⟨ob,(he.get (hR.ι_lt h1)).trans h3,h4.step hst⟩
def kP.env{N:Ae}{ds:Ad Cl}{s:AS}{a:Act}{w v1:Ag}(h:kP G N ds s a w)(he:Env w v1):kP G N ds s a v1:=by obtain⟨hok,F,ι,hR,hdom,hV,hN,hds,hp⟩:=h;obtain⟨hR',hst⟩:=hR.env he;exact⟨he.okV hok,F,ι,hR',hdom,λt=>(hV t).step hst,hN,hds,hp⟩
def pU{N:Ae}{ds:Ad Cl}{o:Bf}{s s':AS}{a:Act}{w:Ag}{K:Act->Ag->Prop}(hd:rX P G ops o s s')(hdst:∀d,o.dst=Aa d->d<N/\G.Z d=Aj)(hrel:kP G N ds s a w)
 (hK:∀a' w',kP G N ds s' a' w'->K a' w'):if Bu o (yielded ops a.tmps)then ∀v1,Env w v1->wpX P o a v1 K else K (a.put o.dst undef) w:=by
 obtain⟨hok,F,ι,hR,hdom,hV,hN,hds,hp⟩:=hrel
 have hputN:∀u,(a.put o.dst u).tmps.size=N/\∀t v,G.Z t=Aa v->(a.put o.dst u).tmps.getD t undef=v:=λu=>by refine⟨by cases o.dst<;>simp[Cv,hN.1],λt v hz=>?_⟩;rw[fZ a o.dst u (λd h=>by rw[hN.1];exact(hdst d h).1) t,Ap (λe=>by rw[(hdst t e).2]at hz;cases hz)];exact hN.2 t v hz
 have hputd:∀u,(a.put o.dst u).defers=ds:=λu=>by cases o.dst<;>simp[Cv,hds]
 cases hd with
 | no hw =>
  rw[lV hw hV,Ap (by simp)]
  exact hK _ _ ⟨hok,F,ι,hR,hdom,wZ hV .un λt=>fZ a o.dst undef (λd h=>by rw[hN.1];exact(hdst d h).1) t,hputN _,hputd _,hp⟩
 | yes av new con K' hw hev hU hT h0 =>
  have hY:Y P G o s.Γ s.T s.K K' av new con:=by
   rcases hev with ⟨_,rfl,rfl,h⟩|⟨_,rfl,hcT,_,h⟩|⟨_,rfl,rfl,id,t,old,ho,_,_,hold,hT,rfl,h⟩|⟨_,S,g,q1,_,_,_,rfl,h⟩
   .exact h _ _ λ_ _=>rfl
   .exact h _ hcT
   .exact h _ _ hold hT
   .exact h _ _ (λid hid=>⟨q1 id hid,rfl⟩) λid hid=>⟨hT id hid,rfl⟩
  rw[lV hw hV,AB rfl]
  intro v1 he
  obtain⟨hR1,hst1⟩:=hR.env he
  refine bCp (he.okV hok) (hY F v1 ι a (he.okV hok) hR1 (λt _=>(hV t).step hst1) (λid hn=>?_) (λa' w'=>OkV w'->K a' w') λF' w' ι' u hR' hs hd1 hd2 hv hok'=>?_)
  .cases hi:ι id with
   |none=>rfl
   |some b=>exact absurd ((hdom id).1 ⟨b,hi⟩) (hU id hn)
  .refine hK _ _ ⟨hok',F',ι',hR',λid=>⟨?_,?_⟩,wZ (λt=>((hV t).step hst1).step hs) hv λt=>fZ a o.dst u (λd h=>by rw[hN.1];exact(hdst d h).1) t,hputN _,hputd _,λid b hb=>(hd1 id b hb).elim (hp id b) λh=>h0 id h b⟩
   .rintro⟨b,hb⟩
    rcases hd1 id b hb with h|h
    .exact .inl ((hdom id).1 ⟨b,h⟩)
    .exact .inr h
   .rintro(h|h)
    .obtain⟨b,hb⟩:=(hdom id).2 h
     exact⟨b,hs.ι_le _ _ hb⟩
    .exact hd2 id h
def qU{N:Ae}{ds:Ad Cl}{Q:AS->Prop}{Q':Cf->Act->Ag->Prop}(hdst:∀(i:Ae) (o:Bf) (d:Tmp),ops[i]? = Aa o->o.dst=Aa d->d<N/\G.Z d=Aj)(hQ:∀s a w,Q s->kP G N ds s a w->Q' .normal a w) :
 ∀(fuel:Ae) (listed:Aw Bw) (s:AS) (a:Act) (w:Ag),kP G N ds s a w->bMi P G ops Q fuel listed s->zL P ops Q' fuel listed a w
 |0,_,s,a,w,hr,h=>⟨h.1,hQ s a w h.2 hr⟩
 | fuel+1,listed,s,a,w,hr,h=>by
  refine⟨λh0=>hQ s a w (h.1 h0) hr,λi hi=>?_⟩;have h1:=h.2 i hi;unfold aOp at h1;split
  .rename_i ho;simp only[ho]at h1;exact qU hdst hQ fuel _ s a w hr h1
  .rename_i o ho;simp only[ho]at h1;rcases h1 with h1|⟨s',hd,h1⟩
   .obtain⟨hok,F,ι,hR,hdom,hV,_,_,_⟩:=hr;exact(h1 F w ι a hok hR (λid b hb=>(hdom id).1 ⟨b,hb⟩) hV).elim
   .exact pU (K:=zL P ops Q' fuel (listed.setIfInBounds i Ak)) hd (λd h=>hdst i o d ho h) hr λa' w' hr'=>qU hdst hQ fuel _ s' a' w' hr' h1
def kP.drew{N:Ae}{ds:Ad Cl}{s:AS}{a:Act}{w:Ag}(h:kP G N ds s a w)(d:Ae):kP G N ds s a { w with drawn:=d }:=h.env ⟨rfl,rfl,rfl,0,by simp⟩
def aMb{rd:Bw}{WW:B1->(Cf->Act->Ag->Prop)->Act->Ag->Prop}(hW:WpR P rd WW){id N:Ae}{ds:Ad Cl}{Q:AS->Prop}{Q':Cf->Act->Ag->Prop}{s:AS}{a:Act}{w:Ag}(hm:P.follows .mixedOrders=Ak)(hnd:rd=Ak->qN ops=Ak)(hB:aWc P ops=Ak)
 (hdst:∀(i:Ae) (o:Bf) (d:Tmp),ops[i]? = Aa o->o.dst=Aa d->d<N/\G.Z d=Aj) (hrel:kP G N ds s a w) (h:wX P G ops Q ops.toList s) (hQ:∀s a w,Q s->kP G N ds s a w->Q' .normal a w) :
 WW (.region id ops Ak) Q' a w:=by
 refine hW.regA hm hnd λd=>qU hdst hQ _ _ s a _ (hrel.drew d) ?_
 have:=aPi (P:=P) (G:=G) (Q:=Q) ops.toList 0 (Bd ops.size Az) s (λm om hm=>by simp only[Au,Array.getElem?_replicate]at hm;split at hm<;>cases hm) (by simp) (by rw[BP];exact(Gu.1 hB).2) h
 simpa using this
end
def bJm:AV->Bw
 |.d (.i _ _)|.d (.b _)=>Ak
 |_=>Az
def wG:HO->Bw
 |.cells _ cs=>cs.all bJm
 |_=>Az
def cAr{F F':Ae->Prop}{w:Ag}{ι ι':Ae->Aq Ae}{x:AV}{v:AE}(h:bJm x=Ak)(hv:V F w ι x v):V F' w ι' x v:=by
 unfold bJm at h;split at h
 .cases hv with|d _ _ hv=>cases hv with|i=>exact .d _ _ (.i _ _)
 .cases hv with|d _ _ hv=>cases hv with|b=>exact .d _ _ (.b _)
 .cases h
def aXr{F F':Ae->Prop}{w:Ag}{ι ι':Ae->Aq Ae}{o:HO}{ob:Obj}(h:wG o=Ak)(hc:CR F w ι o ob):CR F' w ι' o ob:=by
 cases hc with
 |cells e cs cur hl hh=>exact .cells _ _ _ hl λk c hk=>let ⟨u,h1,h2⟩:=hh k c hk;⟨u,h1,cAr (A1.1 h c (At hk)) h2⟩
 |map=>cases h
 |iter=>cases h
def aPo(P:As)[M:Mch P](f:AU)(d0:D)(h:AV)(o:HO)(ds:Ad D)(o':HO):Prop :=
 ∀(A:Ae->Prop) (W:Ag) (vs:Aw AE) (b:Ae),(∀k,A k->k<W.heap.size)->¬A b->b<W.heap.size->(∃ob,W.heap[b]? = Aa ob/\CR A W (ι1 b) o ob)->ds.length+2=vs.size ->
  (∃v,vs[0]? = Aa v/\VD A W d0 v)->(∃v,vs[1]? = Aa v/\V A W (ι1 b) h v)->(∀(k:Ae) d v,ds[k]? = Aa d->vs[k+2]? = Aa v->VD A W d v) ->
  (∀w,aU P (callFunc f vs) w=.ok (.enter f vs) w)/\CX P f vs W λv w'=>∃ob',Kept (·=b) W.heap.size W w'/\w'.heap[b]? = Aa ob' /\
   (∀cur e,W.heap[b]? = Aa (.cells cur e (0,0))->∃cur',ob'=.cells cur' e (0,0)/\cur'.size=cur.size) /\
   CR (λk=>A k\/(W.heap.size<=k/\k<w'.heap.size)) w' (ι1 b) o' ob'/\VD (λk=>A k\/(W.heap.size<=k/\k<w'.heap.size)) w' (.tp []) v
section
variable {P:As} [M:Mch P] {G:Ctx} {C:Ae->Prop} {H K:Hp} {Γ:Ae->AV} {o:Bf}
def bNb{f:AU}{args:Aw AN}{ts:Aw AF}{x y:AN}{rest:Ad AN}{d0:D}{ds:Ad D}{id:Ae}{h:AV}{ho ho':HO}{K':Hp}
 (hop_:o.op=.call { callee:=.value (.func f),args:=args,argTypes:=ts }) (hargs:args.toList=x::y::rest) (hHK:∀id ob,H id=Aa ob->K id=Aa ob) (hx0:oev Γ x=.d d0)
 (hx:hd1 (oev Γ y)=Aa (id,h)) (hH:H id=Aa ho) (hno:wG ho=Ak) (hnv:id ∉ bW H (rest.map (oev Γ))) (hCv:∀i∈bW H (rest.map (oev Γ)),¬C i) (hf:cK H (rest.map (oev Γ))=Aa ds) (hs:aPo P f d0 h ho ds ho')
 (hlen:ho'.len=ho.len) (hno':wG ho'=Ak) (hC:¬C id) (hK':K' id=Aa ho') (hsub:∀j o,j≠id->K' j=Aa o->K j=Aa o/\¬C j):Y P G o Γ C K K' (inj (.tp [])) bG bG:=by
 intro F w ι a hok hR hop _ next hnext
 have hargs':args=(x::y::rest).toArray:=by rw[<-hargs]
 have hop':∀z∈x::y::rest,V F w ι (oev Γ z) (a.eval z):=λz hz=>cD λt e=>hop t (by rw[hop_];subst e;simp only[AJ,Bs];rw[hargs'];simpa using hz)
 obtain⟨b,hι,hv0⟩:=aNv (F':=reach F ι (bW H (rest.map (oev Γ)))) hx (hop' y (by simp))
 obtain⟨ob,hb,hcr⟩:=hR.obj id b ho hι (hHK _ _ hH)
 obtain⟨hl,hV,_⟩:=mN hR hHK hf λz hz=>hop' z (by simp[hz])
 have hmap:args.map a.eval=(a.eval x::a.eval y::rest.map a.eval).toArray:=by rw[hargs'];simp
 have hnF:¬F b:=(hR.place id b hι).2.2 hC
 have hd0:VD F w d0 (a.eval x):=by have:=hop' x (by simp);rw[hx0]at this;cases this with|d _ _ h=>exact h
 obtain⟨hent,hcalls⟩:=hs (reach F ι (bW H (rest.map (oev Γ)))) w (args.map a.eval) b (λk hk=>by
  rcases hk with hk|⟨i,hi,hk⟩
  .exact hR.F_lt k hk
  .exact hR.ι_lt hk) (λhk=>by
  rcases hk with hk|⟨i,hi,hk⟩
  .exact hnF hk
  .have:=hR.inj i id b hk hι (hCv i hi) hC;rw[this]at hi;exact hnv hi) (hR.ι_lt hι) ⟨ob,hb,aXr hno hcr⟩ (by rw[hmap];simp at hl ⊢;omega) ⟨a.eval x,by rw[hmap];simp,hd0.mono λc hc=>.inl hc⟩ ⟨a.eval y,by rw[hmap];simp,hv0⟩
  (λk d v hk hv=>hV k d v hk (by rw[hmap]at hv;simpa using hv))
 unfold wpX
 have hfe:a.eval (.func f)=.func (.func f) #[] #[]:=rfl
 simp only[execOp,hop_,resolve,invoke,aB,hfe,Cx,aX,AR,Cy,CP,hent,gQ]
 refine hcalls.mono ?_
 rintro v w' ⟨ob',hk,hb',hshape,hcr',hvd⟩
 obtain⟨hR',hst⟩:=hR.write (K':=K') (ob':=ob') (ho:=ho') hC hι (hHK _ _ hH) hlen hk hb hb' (λcur e he=>hshape cur e (by rw[hb,he])) (λ_=>aXr hno' hcr') hK' hsub
 refine hnext _ w' ι v (hR'.congrC λid=>by simp[bG]) hst (λ_ _ h=>.inl h) (λ_ h=>h.elim) ?_
 cases hvd with
 |tp cs vs hl h=>exact .tp _ _ (by simpa using hl) λk c v hk _=>by simp at hk
end
open RowKit (Below)
def inS(S:Ad Ae):Ae->AV->Bw
 |0,_=>Az
 | n+1,x=>match x with
  |.own id _ _ _|.ptr id _|.mp id|.kf _ id|.bm _ id _=>decide (id∈S)
  |.ag cs|.tp cs|.fn _ cs=>cs.all (inS S n)
  |_=>Ak
def inO(S:Ad Ae):HO->Bw
 |.cells _ cs=>cs.all (inS S 4)
 |.map _ es=>es.all λp=>inS S 4 p.2
 |.iter ..=>Ak
def nmA(id:Ae):Ae->AV->Bw
 |0,_=>Az
 | n+1,x=>match x with
  |.own i _ _ _|.ptr i _|.mp i|.kf _ i|.bm _ i _=>i==id
  |.ag cs|.tp cs|.fn _ cs=>cs.any (nmA id n)
  |_=>Az
def nmO(id:Ae):HO->Bw
 |.cells _ cs=>cs.any (nmA id 4)
 |.map _ es=>es.any λp=>nmA id 4 p.2
 |.iter ..=>Az
def Rch(H:Hp)(avs:Ad AV)(S:Ad Ae):Prop :=
 ∀(i id:Ae),S[i]? = Aa id->(∃x∈avs,nmA id 4 x=Ak)\/∃(j id':Ae) (o:HO),j<i/\S[j]? = Aa id'/\H id'=Aa o/\nmO id o=Ak
section
variable {F:Ae->Prop} {w:Ag} {ι ι':Ae->Aq Ae} {S:Ad Ae}
def aXk(hι:∀id∈S,∀b,ι id=Aa b->ι' id=Aa b):∀(n:Ae) (x:AV) (v:AE),inS S n x=Ak->V F w ι x v->V F w ι' x v
 |0,_,_,h,_=>by cases h
 | n+1,x,v,h,hv=>by
  have lst:∀cs:Ad AV,cs.all (inS S n)=Ak->∀(k:Ae) c u,cs[k]? = Aa c->V F w ι c u->V F w ι' c u:=λcs hcs k c u hc hu=>aXk hι n c u (A1.1 hcs c (At hc)) hu
  cases hv with
  |d x v h'=>exact .d x v h'
  |nil=>exact .nil
  |own id off len sz b cap cur e h1 hb hcap hl hm=>exact .own id off len sz b cap cur e (hι _ (Cw h) _ h1) hb hcap hl hm
  |ptr id off b h1=>exact .ptr id off b (hι _ (Cw h) _ h1)
  |mp id b h1=>exact .mp id b (hι _ (Cw h) _ h1)
  |fp cs ad f hF hcell hel=>exact .fp cs ad f hF hcell hel
  |fd els ad n h'=>exact .fd els ad n h'
  |ag cs vs hl hh=>exact .ag cs vs hl λk c u hc hu=>lst cs h k c u hc (hh k c u hc hu)
  |tp cs vs hl hh=>exact .tp cs vs hl λk c u hc hu=>lst cs h k c u hc (hh k c u hc hu)
  |un=>exact .un
  |ub t=>exact .ub t
  |kf f id b p e h1 hF hp=>exact .kf f id b p e (hι _ (Cw h) _ h1) hF hp
  |fn g cs vs hl hh=>exact .fn g cs vs hl λk c u hc hu=>lst cs h k c u hc (hh k c u hc hu)
  |bm g id off b h1=>exact .bm g id off b (hι _ (Cw h) _ h1)
  |any v=>exact .any v
def cBc(hι:∀id∈S,∀b,ι id=Aa b->ι' id=Aa b){o:HO}{ob:Obj}(h:inO S o=Ak)(hc:CR F w ι o ob):CR F w ι' o ob:=by
 cases hc with
 |cells e cs cur hl hh=>exact .cells e cs cur hl λk c hk=>let ⟨u,h1,h2⟩:=hh k c hk;⟨u,h1,aXk hι 4 c u (A1.1 h c (At hk)) h2⟩
 |map k es ents clock hl hst hh=>exact .map k es ents clock hl hst λj x hx=>let ⟨en,h1,h2,h3⟩:=hh j x hx;⟨en,h1,h2,aXk hι 4 _ _ (A1.1 h x (At hx)) h3⟩
 |iter k last es bm since c0 clock seen ents hF hb hold hsc hnd hl h' hla=>exact .iter k last es bm since c0 clock seen ents hF hb hold hsc hnd hl h' hla
def aXj{id:Ae}:∀(n:Ae) (x:AV) (v:AE),nmA id n x=Ak->V F w ι x v->∃b,ι id=Aa b
 |0,_,_,h,_=>by cases h
 | n+1,x,v,h,hv=>by
  have lst:∀(cs:Ad AV) (vs:Aw AE),cs.any (nmA id n)=Ak->cs.length=vs.size->(∀(k:Ae) c u,cs[k]? = Aa c->vs[k]? = Aa u->V F w ι c u)->∃b,ι id=Aa b:=λcs vs hcs hl hh=>by obtain⟨c,hc,hn⟩:=FA.1 hcs;obtain⟨k,hk,rfl⟩:=BE.1 hc;exact aXj n _ _ hn (hh k _ _ (Ac hk) (Ar (by omega)))
  cases hv with
  | own i off len sz b cap cur e h1 => have : i = id := by simpa[nmA]using h
                                       exact⟨b,this ▸ h1⟩
  | ptr i off b h1 => have : i = id := by simpa[nmA]using h
                      exact⟨b,this ▸ h1⟩
  | mp i b h1 => have : i = id := by simpa[nmA]using h
                 exact⟨b,this ▸ h1⟩
  | kf f i b p e h1 => have : i = id := by simpa[nmA]using h
                       exact⟨b,this ▸ h1⟩
  | bm g i off b h1 => have : i = id := by simpa[nmA]using h
                       exact⟨b,this ▸ h1⟩
  |ag cs vs hl hh=>exact lst cs vs h hl hh
  |tp cs vs hl hh=>exact lst cs vs h hl hh
  |fn g cs vs hl hh=>exact lst cs vs h hl hh
  |_=>cases h
def cBb{id:Ae}{o:HO}{ob:Obj}(h:nmO id o=Ak)(hc:CR F w ι o ob):∃b,ι id=Aa b:=by
 cases hc with
 | cells e cs cur hl hh =>
  obtain⟨c,hc,hn⟩:=FA.1 h;obtain⟨k,hk,rfl⟩:=BE.1 hc;obtain⟨u,h1,h2⟩:=hh k _ (Ac hk);exact aXj 4 _ u hn h2
 | map k es ents clock hl hst hh =>
  obtain⟨c,hc,hn⟩:=FA.1 h;obtain⟨k,hk,rfl⟩:=BE.1 hc;obtain⟨en,h1,h2,h3⟩:=hh k _ (Ac hk);exact aXj 4 _ _ hn h3
 |iter=>cases h
def aEk{G:Ctx}{C:Ae->Prop}{H K:Hp}{avs:Ad AV}{vs:Aw AE}(hR:HR G F w ι C K)(hHK:∀id∈S,∀ob,H id=Aa ob->K id=Aa ob)(hr:Rch H avs S)
 (hl:avs.length=vs.size) (hv:∀(k:Ae) x v,avs[k]? = Aa x->vs[k]? = Aa v->V F w ι x v):∀id∈S,∃b,ι id=Aa b:=by
 have key:∀(n i id:Ae),i<n->S[i]? = Aa id->∃b,ι id=Aa b:=by
  intro n;induction n with
  |zero=>intro i id h;omega
  | succ n ih =>
   intro i id hi hS;rcases hr i id hS with ⟨x,hx,hn⟩|⟨j,id',o,hj,hS',ho,hn⟩
   .obtain⟨k,hk,rfl⟩:=BE.1 hx;exact aXj 4 _ _ hn (hv k _ _ (Ac hk) (Ar (by omega)))
   .obtain⟨b,hb⟩:=ih j id' (by omega) hS';obtain⟨y,_,hcr⟩:=hR.obj _ b _ hb (hHK id' (At hS') o ho);exact cBb hn hcr
 intro id hid
 obtain⟨i,hi,rfl⟩:=BE.1 hid
 exact key (i+1) i _ (by omega) (Ac hi)
end
def tX(P:As)[M:Mch P](f:AU)(avs:Ad AV)(S:Ad Ae)(H:Hp)(n:Ae)(r:AV)(H':Hp)(n':Ae):Prop :=
 ∀(A:Ae->Prop) (W:Ag) (vs:Aw AE) (ι:Ae->Aq Ae),(∀b,A b->b<W.heap.size)->(∀id,(∃b,ι id=Aa b)↔id∈S)->(∀id b,ι id=Aa b->b<W.heap.size/\¬A b) ->
  (∀id id' b,ι id=Aa b->ι id'=Aa b->id=id')->(∀id∈S,id<n/\(H id).isSome=Ak)->(∀id b ob,H id=Aa ob->ι id=Aa b->∃x,W.heap[b]? = Aa x/\CR A W ι ob x) ->
  avs.length=vs.size->(∀(k:Ae) x v,avs[k]? = Aa x->vs[k]? = Aa v->V A W ι x v) ->
  (∀w,aU P (callFunc f vs) w=.ok (.enter f vs) w)/\CX P f vs W λv W'=>∃F' ι',Kept (λb=>∃id,ι id=Aa b) W.heap.size W W' /\
   (∀b,F' b->A b\/(∃id,ι id=Aa b/\H' id=Aj)\/(W.heap.size<=b/\b<W'.heap.size))/\V F' W' ι' r v/\(∀id b,ι id=Aa b->(H' id).isSome=Ak->ι' id=Aa b) /\
   (∀id,(∃b,ι' id=Aa b)↔(id∈S\/(n<=id/\id<n'))/\(H' id).isSome=Ak) /\
   (∀id b,ι' id=Aa b->b<W'.heap.size/\¬F' b/\((∃j,ι j=Aa b)\/W.heap.size<=b))/\(∀id id' b,ι' id=Aa b->ι' id'=Aa b->id=id') /\
   (∀id b ob,H' id=Aa ob->ι' id=Aa b->∃x,W'.heap[b]? = Aa x/\CR F' W' ι' ob x)
section
variable {P:As} [M:Mch P] {G:Ctx} {C:Ae->Prop} {H K:Hp} {Γ:Ae->AV} {o:Bf}
def Cal(P:As)[M:Mch P](o:Bf)(Γ:Ae->AV)(f:AU)(avs:Ad AV):Prop :=
 ∀F w ι (a:Act),(∀t,CK t∈o.op.operands->V F w ι (Γ t) (a.tmps.getD t undef))->∃vs:Aw AE,((∀w,aU P (callFunc f vs) w=.ok (.enter f vs) w)->aU P (execOp a.eval o) w=.ok (.enter f vs) w) /\
  avs.length=vs.size/\∀(k:Ae) x v,avs[k]? = Aa x->vs[k]? = Aa v->V F w ι x v
def bLd{f:AU}{args:Aw AN}{ts:Aw AF}(ho:o.op=.call { callee:=.value (.func f),args:=args,argTypes:=ts }):Cal P o Γ f (args.toList.map (oev Γ)):=by
 intro F w ι a hop;have hop':∀x∈args.toList,V F w ι (oev Γ x) (a.eval x):=λx hx=>cD λt e=>hop t (by rw[ho];subst e;simp[AJ,Bs];simpa using hx)
 have hfe:a.eval (.func f)=.func (.func f) #[] #[]:=rfl;refine⟨args.map a.eval,λhent=>?_,by simp,λk x v hx hv=>?_⟩
 .simp only[execOp,ho,resolve,invoke,aB,hfe,Cx,aX,AR,Cy,CP,hent]
 .rw[Ao]at hx;rw[B6]at hv;obtain⟨y,hy,rfl⟩:=Ai.1 hx;obtain⟨z,hz,rfl⟩:=Ai.1 hv;rw[Bq]at hy;rw[hy]at hz;injection hz with hz;subst hz
  exact hop' y (by simpa using B7 hy)
def cEb{x:AN}{f:AU}{args:Aw AN}{ts:Aw AF}{cs:Ad AV}(ho:o.op=.call { callee:=.value x,args:=args,argTypes:=ts })(hx:dG (oev Γ x)=Aa (f,cs)) :
 Cal P o Γ f (args.toList.map (oev Γ)++cs):=by
 intro F w ι a hop
 have hop':∀y∈args.toList,V F w ι (oev Γ y) (a.eval y):=λy hy=>cD λt e=>hop t (by rw[ho];subst e;simp[AJ,Bs];right;simpa using hy)
 have hvx:V F w ι (oev Γ x) (a.eval x):=cD λt e=>hop t (by rw[ho];subst e;simp[AJ,Bs])
 obtain⟨vs,hev,hlen,hVV⟩:=uM hx hvx hop'
 refine⟨args.map a.eval++vs,λhent=>?_,by simpa using hlen,λk c v hc hv=>hVV k c v hc (by rw[Bq];exact hv)⟩
 simp only[execOp,ho,resolve,invoke,aB,hev,Cx,aX,AR,Cy,hent]
def cEc{x:AN}{f:AU}{id off:Ae}{args:Aw AN}{ts:Aw AF}(ho:o.op=.call { callee:=.value x,args:=args,argTypes:=ts })(hx:oev Γ x=.bm f id off) :
 Cal P o Γ f (.ptr id off::args.toList.map (oev Γ)):=by
 intro F w ι a hop
 have hop':∀y∈args.toList,V F w ι (oev Γ y) (a.eval y):=λy hy=>cD λt e=>hop t (by rw[ho];subst e;simp[AJ,Bs];right;simpa using hy)
 have hvx:V F w ι (oev Γ x) (a.eval x):=cD λt e=>hop t (by rw[ho];subst e;simp[AJ,Bs])
 rw[hx]at hvx
 obtain⟨b,hb,hev⟩:∃b,ι id=Aa b/\a.eval x=.func (.func f) #[.pointer (Aa ⟨b,off,Aj⟩)] #[]:=by generalize a.eval x=v at hvx;cases hvx with|bm _ _ _ b h=>exact⟨b,h,rfl⟩
 refine⟨#[.pointer (Aa ⟨b,off,Aj⟩)]++args.map a.eval,λhent=>?_,by simp;omega,λk c v hc hv=>?_⟩
 .simp only[execOp,ho,resolve,invoke,aB,hev,Cx,aX,AR,CP,hent]
 .rcases k with _|k
  .simp only[List.getElem?_cons_zero,AH]at hc
   rw[Array.getElem?_append_left (by simp)]at hv
   simp at hv
   subst hc;subst hv;exact .ptr _ _ _ hb
  .simp only[List.getElem?_cons_succ,Ao]at hc
   rw[Array.getElem?_append_right (by simp)]at hv
   simp only[AG,Av,List.length_nil,Nat.zero_add,Nat.add_sub_cancel,B6]at hv
   obtain⟨y,hy,rfl⟩:=Ai.1 hc
   obtain⟨z,hz,rfl⟩:=Ai.1 hv
   rw[Bq]at hy
   rw[hy]at hz;injection hz with hz;subst hz
   exact hop' y (by simpa using B7 hy)
def aUk{f:AU}{avs:Ad AV}{S:Ad Ae}{n n':Ae}{r:AV}{H' K':Hp}(hcal:Cal P o Γ f avs)(hSn:∀id∈S,id<n/\(H id).isSome=Ak)
 (hHK:∀id∈S,K id=H id) (hin:∀id∈S,∀ob,H id=Aa ob->inO S ob=Ak) (ha:∀x∈avs,inS S 4 x=Ak) (hC:∀id∈S,¬C id) (hr:Rch H avs S) (hsp:tX P f avs S H n r H' n')
 (hKS:∀id∈S,K' id=H' id) (hKn:∀id,n<=id->id<n'->(H' id).isSome=Ak->K' id=H' id) (hKo:∀id ob,id ∉ S->¬(n<=id/\id<n'/\(H' id).isSome=Ak)->K' id=Aa ob->K id=Aa ob/\¬C id) :
 Y P G o Γ C K K' r (λi=>n<=i/\i<n'/\(H' i).isSome=Ak) (λi=>i∈S/\H' i=Aj):=by
 intro F w ι a hok hR hop hnew next hnext
 obtain⟨vs,hrun,hl,hV⟩:=hcal F w ι a hop
 have hlive:=aEk hR (H:=H) (λid hid ob hob=>(hHK id hid).trans hob) hr hl hV
 obtain⟨ιc,hιc⟩:∃ιc:Ae->Aq Ae,ιc=λi=>if i∈S then ι i else none:=⟨_,rfl⟩
 have c_in:∀i,i∈S->ιc i=ι i:=λi hi=>by rw[hιc];exact AB hi
 have c_some:∀i b,ιc i=Aa b->i∈S/\ι i=Aa b:=λi b hi=>by
  rw[hιc]at hi;simp only at hi;split at hi
  .exact⟨by assumption,hi⟩
  .cases hi
 have hne:∀i b,i∈S->ι i=Aa b->¬F b:=λi b hi hb=>(hR.place _ b hb).2.2 (hC i hi)
 obtain⟨hent,hcalls⟩:=hsp F w vs ιc hR.F_lt
  (λid=>⟨λ⟨b,hb⟩=>(c_some id b hb).1,λh=>by obtain⟨b,hb⟩:=hlive id h;exact⟨b,by rw[c_in id h];exact hb⟩⟩)
  (λid b hb=>by obtain⟨h1,h2⟩:=c_some id b hb;exact⟨hR.ι_lt h2,hne id b h1 h2⟩)
  (λid id' b h1 h2=>by
   obtain⟨q1,q2⟩:=c_some id b h1;obtain⟨q3,q4⟩:=c_some id' b h2;exact hR.inj _ _ b q2 q4 (hC id q1) (hC id' q3)) hSn
  (λid b ob hob hb=>by
   obtain⟨q1,q2⟩:=c_some id b hb;obtain⟨y,y1,y2⟩:=hR.obj _ b ob q2 ((hHK id q1).trans hob);exact⟨y,y1,cBc (λj hj c hc=>by rw[c_in j hj];exact hc) (hin id q1 ob hob) y2⟩)
  hl (λk x v hx hv=>aXk (λj hj c hc=>by rw[c_in j hj];exact hc) 4 x v (ha x (At hx)) (hV k x v hx hv))
 unfold wpX
 rw[hrun hent]
 simp only[gQ]
 refine hcalls.mono ?_
 rintro v w' ⟨F1,ι1,hk,hF1,hvd,hle,hdom,hpl,hinj,hobj⟩
 have hsz:=hk.size
 have hW:G.W.heap.size<=w.heap.size:=hR.kept.size
 have rng:∀b,(∃id,ιc id=Aa b)->∃i,i∈S/\ι i=Aa b:=λb ⟨id,h⟩=>⟨id,c_some id b h⟩
 have hoth:∀b,b<w.heap.size->(¬∃i,i∈S/\ι i=Aa b)->w'.heap[b]? = w.heap[b]? := λb h1 h2=>hk.block b h1 λh=>h2 (rng b h)
 obtain⟨ι',hι'⟩:∃ι':Ae->Aq Ae,ι'=λid=>if n<=id/\id<n'/\(H' id).isSome=Ak then ι1 id else ι id:=⟨_,rfl⟩
 have e_new:∀id,(n<=id/\id<n'/\(H' id).isSome=Ak)->ι' id=ι1 id:=λid h=>by rw[hι'];exact AB h
 have e_old:∀id,¬(n<=id/\id<n'/\(H' id).isSome=Ak)->ι' id=ι id:=λid h=>by rw[hι'];exact Ap h
 have split:∀id b,ι' id=Aa b->((n<=id/\id<n'/\(H' id).isSome=Ak)/\ι1 id=Aa b)\/(¬(n<=id/\id<n'/\(H' id).isSome=Ak)/\ι id=Aa b):=λid b h=>by
  by_cases hid:n<=id/\id<n'/\(H' id).isSome=Ak
  .rw[e_new id hid]at h;exact .inl ⟨hid,h⟩
  .rw[e_old id hid]at h;exact .inr ⟨hid,h⟩
 have nS:∀id,id∈S->¬(n<=id/\id<n'/\(H' id).isSome=Ak):=λid h h'=>by have:=(hSn id h).1;omega
 have s1:∀id b,id∈S->(H' id).isSome=Ak->ι id=Aa b->ι1 id=Aa b:=λid b h h1 hb=>hle id b (by rw[c_in id h];exact hb) h1
 have e1:∀j b,ι1 j=Aa b->ι' j=Aa b:=λj b hj=>by
  by_cases hid:n<=j/\j<n'/\(H' j).isSome=Ak
  .rw[e_new j hid];exact hj
  .obtain⟨h|h,hs⟩:=(hdom j).1 ⟨b,hj⟩
   .obtain⟨c,hc⟩:=hlive j h;have:=s1 j c h hs hc;rw[hj]at this;injection this with this;subst this
    rw[e_old j hid];exact hc
   .exact(hid ⟨h.1,h.2,hs⟩).elim
 have hF0:∀b,F1 b->b<w.heap.size->F b\/∃i,i∈S/\H' i=Aj/\ι i=Aa b:=λb h hlt=>by
  rcases hF1 b h with h|⟨i,h1,h2⟩|h
  .exact .inl h
  .obtain⟨q1,q2⟩:=c_some i b h1;exact .inr ⟨i,q1,h2,q2⟩
  .omega
 -- an old number that is not used up and not of S lies apart
 have apart:∀id b,ι id=Aa b->¬C id->id ∉ S->¬∃i,i∈S/\ι i=Aa b:=λid b h1 h2 h3 ⟨i,hi,hb⟩=>h3 (hR.inj _ _ b hb h1 (hC i hi) h2 ▸ hi)
 have hs0:Step F w ι (λb=>F b\/F1 b) w' ι':=⟨λ_ h=>.inl h,λb h=>hoth b (hR.F_lt b h) λ⟨i,hi,hb⟩=>hne i b hi hb h,λid b h=>by
  by_cases hid:n<=id/\id<n'/\(H' id).isSome=Ak
  .rw[hnew id hid]at h;cases h
  .rw[e_old id hid];exact h,λid b cur e hi h=>hk.shape b cur e (hR.ι_lt hi) h⟩
 have hs1:Step F1 w' ι1 (λb=>F b\/F1 b) w' ι':=⟨λ_ h=>.inr h,λ_ _=>rfl,e1,λid b cur e hi h=>⟨cur,h,rfl⟩⟩
 have sN:∀id b,ι1 id=Aa b->(n<=id/\id<n'/\(H' id).isSome=Ak)->w.heap.size<=b\/∃j,j∈S/\H' j=Aj/\ι j=Aa b:=λid b hb hn=>by
  rcases(hpl id b hb).2.2 with ⟨j,hj⟩|h
  .obtain⟨q1,q2⟩:=c_some j b hj;cases hHj:H' j with
   |none=>exact .inr ⟨j,q1,hHj,q2⟩
   | some o' =>
    have:=hinj j id b (hle j b hj (by rw[hHj];rfl)) hb;subst this;exact(nS j q1 hn).elim
  .exact .inl h
 refine hnext (λb=>F b\/F1 b) w' ι' v ⟨hR.kept.trans ⟨hk.os,hk.tape,hk.output,hk.size,λk hkW hm=>hoth k (by omega) λ⟨i,hi,hb⟩=>?_,λk cur e hkW hc=>hk.shape k cur e (by omega) hc⟩,?_,?_,?_,?_,?_,?_⟩ hs0 (λid b h=>?_) (λid hid=>?_) (hvd.step hs1)
 .rcases(hR.place _ k hb).1 with h|h
  .exact hm h
  .omega
 .rintro b (h|h)
  .have:=hR.F_lt b h;omega
  .rcases hF1 b h with h|⟨i,h,_⟩|h
   .have:=hR.F_lt b h;omega
   .have:=hR.ι_lt (c_some i b h).2;omega
   .exact h.2
 .rintro b (h|h)
  .exact hR.F_ok b h
  .rcases hF1 b h with h|⟨i,h,_⟩|h
   .exact hR.F_ok b h
   .exact .inr (hR.place i b (c_some i b h).2).1
   .exact .inr (.inr (by omega))
 .intro id b h
  rcases split id b h with ⟨hid,h⟩|⟨hn,h⟩
  .have h0:=sN id b h hid
   obtain⟨p1,p2,p3⟩:=hpl _ b h
   refine⟨?_,p1,λ_ hF=>?_⟩
   .rcases h0 with h0|⟨j,j1,_,j3⟩
    .exact .inr (by omega)
    .exact(hR.place j b j3).1
   .rcases hF with hF|hF
    .rcases h0 with h0|⟨j,j1,_,j3⟩
     .have:=hR.F_lt b hF;omega
     .exact hne j b j1 j3 hF
    .exact p2 hF
  .obtain⟨p1,p2,p3⟩:=hR.place id b h
   refine⟨p1,by omega,λhc hF=>?_⟩
   have hc1:¬C id:=λh=>hc (.inl h)
   rcases hF with hF|hF
   .exact p3 hc1 hF
   .rcases hF0 b hF p2 with h1|⟨i,i1,i2,i3⟩
    .exact p3 hc1 h1
    .have:=hR.inj _ _ b i3 h (hC i i1) hc1
     subst this
     exact hc (.inr ⟨i1,i2⟩)
 .intro id b ob h hob
  rcases split id b h with ⟨hid,h⟩|⟨hn,h⟩
  .rw[hKn id hid.1 hid.2.1 hid.2.2]at hob
   obtain⟨y,y1,y2⟩:=hobj id b ob hob h
   exact⟨y,y1,y2.step hs1⟩
  .by_cases hS:id∈S
   .rw[hKS id hS]at hob
    obtain⟨y,y1,y2⟩:=hobj id b ob hob (s1 id b hS (by rw[hob];rfl) h)
    exact⟨y,y1,y2.step hs1⟩
   .obtain⟨h1,h2⟩:=hKo id ob hS hn hob
    obtain⟨y,y1,y2⟩:=hR.obj id b ob h h1
    exact⟨y,(hoth b (hR.ι_lt h) (apart id b h h2 hS)).trans y1,y2.step hs0⟩
 .intro id id' b h h' hc hc'
  rcases split id b h with ⟨i1,h⟩|⟨i1,h⟩<;>rcases split id' b h' with ⟨i2,h'⟩|⟨i2,h'⟩
  .exact hinj id id' b h h'
  .rcases sN id b h i1 with h0|⟨j,j1,j2,j3⟩
   .have:=hR.ι_lt h';omega
   .have:=hR.inj j id' b j3 h' (hC j j1) (λx=>hc' (.inl x))
    subst this
    exact(hc' (.inr ⟨j1,j2⟩)).elim
  .rcases sN id' b h' i2 with h0|⟨j,j1,j2,j3⟩
   .have:=hR.ι_lt h;omega
   .have:=hR.inj j id b j3 h (hC j j1) (λx=>hc (.inl x))
    subst this
    exact(hc (.inr ⟨j1,j2⟩)).elim
  .exact hR.inj id id' b h h' (λx=>hc (.inl x)) λx=>hc' (.inl x)
 .intro id id' b o1 o2 h h' hc h1 h2
  have hc1:¬C id:=λx=>hc (.inl x)
  rcases split id b h with ⟨i1,h⟩|⟨i1,h⟩<;>rcases split id' b h' with ⟨i2,h'⟩|⟨i2,h'⟩
  .have:=hinj id id' b h h'
   subst this
   rw[h1]at h2;injection h2 with h2;subst h2;exact AM _
  .rcases sN id b h i1 with h0|⟨j,j1,j2,j3⟩
   .have:=hR.ι_lt h';omega
   .by_cases hS':id'∈S
    .rw[hKS id' hS']at h2
     have:=hinj id id' b h (s1 id' b hS' (by rw[h2];rfl) h')
     subst this
     exact(nS id hS' i1).elim
    .obtain⟨_,g3⟩:=hKo id' o2 hS' i2 h2
     have:=hR.inj j id' b j3 h' (hC j j1) g3
     subst this
     exact(hS' j1).elim
  .rcases sN id' b h' i2 with h0|⟨j,j1,j2,j3⟩
   .have:=hR.ι_lt h;omega
   .have:=hR.inj j id b j3 h (hC j j1) hc1
    subst this
    exact(hc (.inr ⟨j1,j2⟩)).elim
  .by_cases hS':id'∈S
   .have:=hR.inj id id' b h h' hc1 (hC id' hS')
    subst this
    rw[h1]at h2;injection h2 with h2;subst h2;exact AM _
   .obtain⟨g2,g3⟩:=hKo id' o2 hS' i2 h2
    have:=hR.inj id id' b h h' hc1 g3
    subst this
    rw[h1]at h2;injection h2 with h2;subst h2;exact AM _
 .rcases split id b h with ⟨hid,_⟩|⟨_,h⟩
  .exact .inr hid
  .exact .inl h
 .obtain⟨b,hb'⟩:=(hdom id).2 ⟨.inr ⟨hid.1,hid.2.1⟩,hid.2.2⟩
  exact⟨b,by rw[e_new id hid];exact hb'⟩
def cFb{f:AU}{avs:Ad AV}{ds:Ad D}{n n':Ae}{r:AV}{H':Hp}(hcal:Cal P o Γ f avs)(hHK:∀id ob,H id=Aa ob->K id=Aa ob)(hf:cK H avs=Aa ds)
 (hsp:tX P f (ds.map bH) [] (λ_=>Aj) n r H' n') (hk:∀id∈bW H avs,¬C id) (hKn:∀id,n<=id->id<n'->(H' id).isSome=Ak->K id=H' id) :
 Y P G o Γ C K K r (λi=>n<=i/\i<n'/\(H' i).isSome=Ak) (λi=>i∈bW H avs):=by
 intro F w ι a hok hR hop hnew next hnext
 obtain⟨vs,hrun,hl,hV⟩:=hcal F w ι a hop
 obtain⟨hl2,hVD,hlive⟩:=kS (vs:=vs.toList) hR hHK hf (by simpa using hl) (λk c u hc hu=>hV k c u hc (by rw[Bq]at hu;exact hu))
 obtain⟨hent,hcalls⟩:=hsp (reach F ι (bW H avs)) w vs (λ_=>Aj) (by
  rintro b (h|⟨id,_,h⟩)
  .exact hR.F_lt b h
  .exact hR.ι_lt h) (λid=>by simp) (λid b h=>by cases h) (λid id' b h=>by cases h) (λid h=>by cases h) (λid b ob h=>by cases h) (by simpa using hl2)
  (λk x v hx hv=>by
   rw[Ao]at hx;obtain⟨d,hd,rfl⟩:=Ai.1 hx;exact mS (hVD k d v hd (by rw[Bq];exact hv)))
 unfold wpX
 rw[hrun hent]
 simp only[gQ]
 refine hcalls.mono ?_
 rintro v w' ⟨F1,ι1,hkp,hF1,hvd,_,hdom,hpl,hinj,hobj⟩
 have hsz:=hkp.size
 have hW:G.W.heap.size<=w.heap.size:=hR.kept.size
 have hblk:∀b,b<w.heap.size->w'.heap[b]? = w.heap[b]? := λb h=>hkp.block b h λ⟨_,h⟩=>by cases h
 have hF1':∀b,F1 b->reach F ι (bW H avs) b\/(w.heap.size<=b/\b<w'.heap.size):=λb h=>by
  rcases hF1 b h with h|⟨_,h,_⟩|h
  .exact .inl h
  .cases h
  .exact .inr h
 have hnewb:∀id b,ι1 id=Aa b->w.heap.size<=b:=λid b h=>by
  rcases(hpl id b h).2.2 with ⟨_,h⟩|h
  .cases h
  .exact h
 have isn:∀id b,ι1 id=Aa b->n<=id/\id<n'/\(H' id).isSome=true:=λid b h=>by
  obtain⟨h1|h1,h2⟩:=(hdom id).1 ⟨b,h⟩
  .cases h1
  .exact⟨h1.1,h1.2,h2⟩
 obtain⟨ι',hι'⟩:∃ι':Ae->Aq Ae,ι'=λid=>if n<=id/\id<n'/\(H' id).isSome=Ak then ι1 id else ι id:=⟨_,rfl⟩
 have e_new:∀id,(n<=id/\id<n'/\(H' id).isSome=Ak)->ι' id=ι1 id:=λid h=>by rw[hι'];exact AB h
 have e_old:∀id,¬(n<=id/\id<n'/\(H' id).isSome=Ak)->ι' id=ι id:=λid h=>by rw[hι'];exact Ap h
 have split:∀id b,ι' id=Aa b->((n<=id/\id<n'/\(H' id).isSome=Ak)/\ι1 id=Aa b)\/(¬(n<=id/\id<n'/\(H' id).isSome=Ak)/\ι id=Aa b):=λid b h=>by
  by_cases hid:n<=id/\id<n'/\(H' id).isSome=Ak
  .rw[e_new id hid]at h;exact .inl ⟨hid,h⟩
  .rw[e_old id hid]at h;exact .inr ⟨hid,h⟩
 have hs0:Step F w ι (λb=>reach F ι (bW H avs) b\/F1 b) w' ι':=⟨λ_ h=>.inl (.inl h),λb h=>hblk b (hR.F_lt b h),λid b h=>by
  by_cases hid:n<=id/\id<n'/\(H' id).isSome=Ak
  .rw[hnew id hid]at h;cases h
  .rw[e_old id hid];exact h,λid b cur e hi h=>⟨cur,(hblk b (hR.ι_lt hi)).trans h,rfl⟩⟩
 have hs1:Step F1 w' ι1 (λb=>reach F ι (bW H avs) b\/F1 b) w' ι':=⟨λ_ h=>.inr h,λ_ _=>rfl,λid b h=>by rw[e_new id (isn id b h)];exact h,λid b cur e hi h=>⟨cur,h,rfl⟩⟩
 refine hnext (λb=>reach F ι (bW H avs) b\/F1 b) w' ι' v ⟨hR.kept.trans ⟨hkp.os,hkp.tape,hkp.output,hkp.size,λk hkW _=>hblk k (by omega),λk cur e hkW hc=>hkp.shape k cur e (by omega) hc⟩,?_,?_,?_,?_,?_,?_⟩ hs0 (λid b h=>?_) (λid hid=>?_) (hvd.step hs1)
 .have h0:∀b,reach F ι (bW H avs) b->b<w.heap.size:=by
   rintro b (h|⟨id,_,h⟩)
   .exact hR.F_lt b h
   .exact hR.ι_lt h
  rintro b (h|h)
  .have:=h0 b h;omega
  .rcases hF1' b h with h|h
   .have:=h0 b h;omega
   .exact h.2
 .have h0:∀b,reach F ι (bW H avs) b->G.A b\/G.M b\/G.W.heap.size<=b:=by
   rintro b (h|⟨id,_,h⟩)
   .exact hR.F_ok b h
   .exact .inr (hR.place id b h).1
  rintro b (h|h)
  .exact h0 b h
  .rcases hF1' b h with h|h
   .exact h0 b h
   .exact .inr (.inr (by omega))
 .have h0:∀id b,ι id=Aa b->¬(C id\/id∈bW H avs)->¬reach F ι (bW H avs) b:=by
   rintro id b h hc (hF|⟨i,hi,hb⟩)
   .exact(hR.place id b h).2.2 (λx=>hc (.inl x)) hF
   .have:=hR.inj _ _ b hb h (hk i hi) (λx=>hc (.inl x));subst this;exact hc (.inr hi)
  intro id b h
  rcases split id b h with ⟨hid,h⟩|⟨hn,h⟩
  .have hb:=hnewb id b h
   obtain⟨p1,p2,p3⟩:=hpl _ b h
   refine⟨.inr (by omega),p1,λ_ hF=>?_⟩
   rcases hF with (hF|⟨i,_,hF⟩)|hF
   .have:=hR.F_lt b hF;omega
   .have:=hR.ι_lt hF;omega
   .exact p2 hF
  .obtain⟨p1,p2,p3⟩:=hR.place id b h
   refine⟨p1,by omega,λhc hF=>?_⟩
   rcases hF with hF|hF
   .exact h0 id b h hc hF
   .rcases hF1' b hF with h1|h1
    .exact h0 id b h hc h1
    .omega
 .intro id b ob h hob
  rcases split id b h with ⟨hid,h⟩|⟨hn,h⟩
  .rw[hKn id hid.1 hid.2.1 hid.2.2]at hob
   obtain⟨y,y1,y2⟩:=hobj id b ob hob h
   exact⟨y,y1,y2.step hs1⟩
  .obtain⟨y,y1,y2⟩:=hR.obj id b ob h hob
   exact⟨y,(hblk b (hR.ι_lt h)).trans y1,y2.step hs0⟩
 .intro id id' b h h' hc hc'
  rcases split id b h with ⟨i1,h⟩|⟨i1,h⟩<;>rcases split id' b h' with ⟨i2,h'⟩|⟨i2,h'⟩
  .exact hinj id id' b h h'
  .have:=hnewb id b h;have:=hR.ι_lt h';omega
  .have:=hnewb id' b h';have:=hR.ι_lt h;omega
  .exact hR.inj id id' b h h' (λx=>hc (.inl x)) λx=>hc' (.inl x)
 .intro id id' b o1 o2 h h' hc h1 h2
  rcases split id b h with ⟨i1,h⟩|⟨i1,h⟩<;>rcases split id' b h' with ⟨i2,h'⟩|⟨i2,h'⟩
  .have:=hinj id id' b h h'
   subst this
   rw[h1]at h2;injection h2 with h2;subst h2;exact AM _
  .have:=hnewb id b h;have:=hR.ι_lt h';omega
  .have:=hnewb id' b h';have:=hR.ι_lt h;omega
  .exact hR.len id id' b o1 o2 h h' (λx=>hc (.inl x)) h1 h2
 .rcases split id b h with ⟨hid,_⟩|⟨_,h⟩
  .exact .inr hid
  .exact .inl h
 .obtain⟨b,hb'⟩:=(hdom id).2 ⟨.inr ⟨hid.1,hid.2.1⟩,hid.2.2⟩
  exact⟨b,by rw[e_new id hid];exact hb'⟩
end
end Go.Am
namespace Go.Am
def aTe(P:As)(H:Hp)(t:AF)(d x:AV):Aq (Ae×HO×Ae) :=
 (tel P t).bind λe=>(tsz P e).bind λsz=>(aBl (λ_=>Aj) sz x).bind λp=>match d with
  | .own id off len sz'=>match H id with
   |some (.cells e' cs)=>if sz'=sz/\off*sz+(p.2.take (min p.1 len*sz)).length<=cs.length/\min p.1 len<=1099511627776 then Aa (id,.cells e' (lay cs (off*sz) (p.2.take (min p.1 len*sz))),min p.1 len)else Aj
   |_=>Aj
  |_=>Aj
def bUf{P:As}{H:Hp}{t:AF}{d x:AV}{id n:Ae}{ho:HO}(h:aTe P H t d x=Aa (id,ho,n)):∃off len sz old,d=.own id off len sz/\H id=Aa old/\ho.len=old.len:=by
 unfold aTe at h;obtain⟨e,_,h⟩:=Af.1 h;obtain⟨sz,_,h⟩:=Af.1 h;obtain⟨p,_,h⟩:=Af.1 h;split at h
 case h_2=>cases h
 rename_i id' off len sz';split at h
 case h_2=>cases h
 rename_i e' cs hH;split at h
 case isFalse=>cases h
 rename_i hc;injection h with h;injection h with h1 h2;injection h2 with h2 h3;subst h1;subst h2
 exact⟨_,_,_,_,rfl,hH,by simp only[HO.len];exact iX hc.2.1⟩
section
variable {P:As} [M:Mch P] {G:Ctx} {C:Ae->Prop} {H K:Hp} {Γ:Ae->AV} {o:Bf}
def cBj{id off:Ae}{e:AF}{cs vs:Ad AV}{av:AV}{K':Hp}(hHK:∀id ob,H id=Aa ob->K id=Aa ob)(hH:H id=Aa (.cells e cs))(hfit:off+vs.length<=cs.length)(hC:¬C id)
 (hrun:∀F w ι (a:Act),HR G F w ι C K->(∀t,CK t∈o.op.operands->V F w ι (Γ t) (a.tmps.getD t undef))->∃b us u,ι id=Aa b/\CV F w ι vs us.toArray/\(∀F' w' ι',V F' w' ι' av u) /\
  ∀cur:Aw AE,w.heap[b]? = Aa (.cells cur e (0,0))->off+us.length<=cur.size->aU P (execOp a.eval o) w=.ok (.value u) (w.setRow b (cur.toList.take off++us++cur.toList.drop (off+us.length)).toArray))
 (hK':K' id=Aa (.cells e (lay cs off vs))) (hsub:∀j o,j≠id->K' j=Aa o->K j=Aa o/\¬C j) :
 Y P G o Γ C K K' av bG bG:=by
 intro F w ι a hok hR hop _ next hnext
 obtain⟨b,us,u0,hι,hcv,hu0,hrun⟩:=hrun F w ι a hR hop
 obtain⟨cur,hb,hl,hcc⟩:=hR.cells hHK hι hH
 have hvl:=hcv.1
 have hus:us.length=vs.length:=by simpa using hvl.symm
 have hrun:=hrun cur hb (by omega)
 have hset:=setRow_heap w b cur (cur.toList.take off++us++cur.toList.drop (off+us.length)).toArray e (0,0) hb
 have hnF:¬F b:=(hR.place id b hι).2.2 hC
 have hoth:∀k,k≠b->(w.setRow b (cur.toList.take off++us++cur.toList.drop (off+us.length)).toArray).heap[k]? = w.heap[k]? := λk hk=>setRow_other w b k _ hk
 have hsize:(cur.toList.take off++us++cur.toList.drop (off+us.length)).toArray.size=cur.size:=by simp only[AG,BK,Bt,List.length_drop,BP];omega
 have hlen2:(cur.toList.take off++us).length=off+us.length:=by rw[BK,Bt,BP];omega
 generalize hcur':(cur.toList.take off++us++cur.toList.drop (off+us.length)).toArray=cur' at *
 have hst:Step F w ι F (w.setRow b cur') ι:=by
  refine⟨λ_ h=>h,λk hk=>hoth k (λe=>hnF (e ▸ hk)),λ_ _ h=>h,λi k c0 e0 hi hk=>?_⟩;by_cases hkb:k=b
  .subst hkb;rw[hb]at hk;injection hk with hk;injection hk with h1 h2;subst h1;subst h2
   exact⟨cur',hset,hsize⟩
  .exact⟨c0,(hoth k hkb).trans hk,rfl⟩
 unfold wpX
 rw[hrun]
 simp only[gQ]
 refine hnext F _ ι u0 ?_ hst (λ_ _ h=>.inl h) (λ_ h=>h.elim) (hu0 _ _ _)
 refine HR.congrC (C:=C) ⟨hR.kept.trans ⟨rfl,rfl,rfl,by simp,λk hk hm=>hoth k λe=>?_,λk c0 e0 _ hk=>by
  by_cases hkb:k=b
  .subst hkb;rw[hb]at hk;injection hk with hk;injection hk with h1 h2;subst h1;subst h2
   exact⟨cur',hset,hsize⟩
  .exact⟨c0,(hoth k hkb).trans hk,rfl⟩⟩,λk hk=>by rw[size_setRow];exact hR.F_lt k hk,hR.F_ok,λi k hi=>?_,?_,hR.inj,?_⟩ (λid=>by simp[bG])
 .subst e
  rcases(hR.place id k hι).1 with h|h
  .exact hm h
  .omega
 .rw[size_setRow];exact hR.place i k hi
 .intro i k o' hi ho'
  by_cases hid:i=id
  .subst hid
   rw[hι]at hi;injection hi with hi;subst hi
   rw[hK']at ho';injection ho' with ho';subst ho'
   refine⟨_,hset,.cells _ _ _ (by rw[iX (by omega),hsize];exact hl) λj c hj=>?_⟩
   rw[vX (by omega)]at hj
   split at hj
   .rename_i hjj
    obtain⟨u,hu,hv⟩:=hcv.get hj
    refine⟨u,?_,hv.step hst⟩
    rw[<-hcur',Cb,Bb (by simp;omega),AZ (by simp;omega),Bt,BP,Dv (by omega)]
    simpa using hu
   .rename_i hjj
    obtain⟨u,hu,hv⟩:=hcc j c hj
    have hjl:j<cs.length:=(AA.1 hj).1
    refine⟨u,?_,hv.step hst⟩
    rw[<-hcur',Cb]
    by_cases hjo:j<off
    .rw[List.append_assoc,Bb (by simp;omega),BM,AB hjo,Bq];exact hu
    .rw[AZ (by omega),hlen2,List.getElem?_drop,Bq,hus]
     rw[<-hu];congr 1;omega
  .obtain⟨hk1,hk2⟩:=hsub i o' hid ho'
   obtain⟨ob,h2,h3⟩:=hR.obj i k o' hi hk1
   refine⟨ob,(hoth k λe=>?_).trans h2,h3.step hst⟩
   subst e
   exact hid (hR.inj i id k hi hι hk2 hC)
 .intro i i' k o1 o2 hi hi' hc h1 h2
  have hlay:(HO.cells e (lay cs off vs)).len=(HO.cells e cs).len:=by simp only[HO.len];exact iX (by omega)
  have hk1:∃q1,K i=Aa q1/\q1.len=o1.len:=by
   by_cases hid:i=id
   .subst hid;rw[hK']at h1;injection h1 with h1;subst h1;exact⟨_,hHK _ _ hH,hlay.symm⟩
   .exact⟨o1,(hsub i o1 hid h1).1,rfl⟩
  have hk2:∃q2,K i'=Aa q2/\q2.len=o2.len:=by
   by_cases hid:i'=id
   .subst hid;rw[hK']at h2;injection h2 with h2;subst h2;exact⟨_,hHK _ _ hH,hlay.symm⟩
   .exact⟨o2,(hsub i' o2 hid h2).1,rfl⟩
  obtain⟨q1,e1,l1⟩:=hk1
  obtain⟨q2,e2,l2⟩:=hk2
  rw[<-l1,<-l2]
  exact hR.len i i' k q1 q2 hi hi' hc e1 e2
def bWn{t t':AF}{d x:AN}{id n:Ae}{ho:HO}{K':Hp}(hop_:o.op=.call { callee:=.builtin .copy,args:=#[d,x],argTypes:=#[t,t'] })(hHK:∀id ob,H id=Aa ob->K id=Aa ob)
 (h:aTe P H t (oev Γ d) (oev Γ x)=Aa (id,ho,n)) (hC:¬C id) (hK':K' id=Aa ho) (hsub:∀j o,j≠id->K' j=Aa o->K j=Aa o/\¬C j) :
 Y P G o Γ C K K' (.d (.i .i64 n)) bG bG:=by
 unfold aTe at h
 obtain⟨e,he,h⟩:=Af.1 h
 obtain⟨sz,hsz,h⟩:=Af.1 h
 obtain⟨p,hp,h⟩:=Af.1 h
 split at h
 case h_2=>cases h
 rename_i id' off len sz' hd
 split at h
 case h_2=>cases h
 rename_i e' cs hH
 split at h
 case isFalse=>cases h
 rename_i hc
 obtain⟨rfl,hfit,hbig⟩:=hc
 injection h with h;injection h with h1 h2;injection h2 with h2 h3;subst h1;subst h2;subst h3
 refine cBj hHK hH hfit hC (λF w ι a hR hop=>?_) hK' hsub
 have od:V F w ι (oev Γ d) (a.eval d):=cD λt e=>hop t (by rw[hop_];simp[AJ,Bs,e])
 have ox:V F w ι (oev Γ x) (a.eval x):=cD λt e=>hop t (by rw[hop_];simp[AJ,Bs,e])
 rw[hd]at od
 obtain⟨ad,cc,news,hxv,hcv,hlen,hmem,hnil⟩:=aQq (H:=λ_=>Aj) hR (λ_ _ h=>by cases h) hp ox
 generalize hdv:a.eval d=dv at od
 cases od with|own _ _ _ _ b cap cur0 e0 hι hb hcap hl hm =>
 have hnl:news.length=p.1*sz':=by have:=hcv.1;simp at this;omega
 refine⟨b,news.take (min p.1 len*sz'),goInt ((min p.1 len:Ae):Int),hι,⟨?_,λk c u hk hu=>?_,λu hu=>?_⟩,λF' w' ι'=>?_,λcur hcur hfit2=>?_⟩
 .simp;omega
 .rw[BM]at hk
  rw[Cb,BM]at hu
  split at hk
  .rw[AB (by assumption)]at hu
   exact hcv.2.1 k c u hk (by rw[Cb];exact hu)
  .cases hk
 .exact hcv.2.2 u (by simpa using BS (by simpa using hu))
 .exact .d _ _ (.i _ _)
 .have hnn:Nat.min p.1 len=min p.1 len:=rfl
  have hcl:(news.take (min p.1 len*sz')).length=min p.1 len*sz':=by rw[Bt,hnl];exact Dv (Nat.mul_le_mul_right _ (Nat.min_le_left ..))
  have h1:∀v∈news.take (min p.1 len*sz'),v.oneCell'=true:=λv hv=>hcv.2.2 v (by simpa using BS hv)
  have hst:=run_storeCells_at (P:=P) b (off*sz') e' (news.take (min p.1 len*sz')) 0 cur w hcur (by simpa using hfit2) h1
  simp only[Nat.add_zero]at hst
  simp only[execOp,hop_,resolve,invoke,builtin,aB,aX,AR,List.map_toArray,BX,Ee,hdv]
  cases ad with
  | none =>
   have h0:=hnil rfl
   have hcl0:news.take (min p.1 len*sz')=[]:=by apply List.eq_nil_of_length_eq_zero;rw[hcl,h0];simp
   rw[hcl0]at hst ⊢
   have hst0:aU P (storeCells ⟨b,off*sz',Aj⟩ []) w=.ok () w:=by simp[storeCells]
   rw[hst0]at hst
   injection hst with _ hst
   rw[<-hst,hxv,h0]
   simp[Builtin.copy_,aE (eP he),run_sizeOf w hsz,Er,Builtin.firstCells,storeCells]
  | some ad =>
   have hsrc:∀j v,(news.take (min p.1 len*sz'))[j]? = Aa v->w.cell? (ad.add j)=Aa v:=λj v hj=>by
    rw[BM]at hj;split at hj
    .exact hmem ad rfl j v hj
    .cases hj
   have hfc:=dY (P:=P) w sz' (min p.1 len) ad p.1 cc _ hcl hsrc
   rw[hxv]
   simp[Builtin.copy_,aE (eP he),run_sizeOf w hsz,Er,hnn,hfc,hst]
end
structure St where
 Γ:Ae->AV
 H:Hp
 n:Ae
def kill(l:Ad Ae)(H:Hp):Hp:=match l with|[]=>H|_=>λid=>if id∈l then Aj else H id
def fE(H:Hp)(n:Ae)(nb:Aq HO):Hp:=match nb with|some ho=>upd H n (Aa ho)|none=>H
def cnt(nb:Aq HO)(n:Ae):Ae:=match nb with|some _=>n+1|none=>n
def tcH(H:Hp)(n r:Ae)(l:Ad Ae)(ro':HO)(hs':Ad HO):Hp:=λid =>
 if n<=id/\id<n+hs'.length then(hs'[id-n]?).map (uB (nuT r n))else if id=r then Aa (uB (nuT r n) ro')else if id∈l then Aj else H id
def TCo(P:As)[M:Mch P](f:AU)(x:AV)(rest:Ad AV)(dst:Aq Tmp)(σ:St)(con:Ad Ae)(k:St->Ad Ae->Prop):Prop :=
 0<σ.n/\∃(ν:Ae->Ae) (h:AV) (ro:HO) (hs:Ad HO) (ds:Ad D) (ro':HO) (hs':Ad HO) (r:D),x=aEw ν h/\oM 0 h=Ak/\lf0 (hs.length+1) h=Ak/\(∀i j,i<hs.length+1->j<hs.length+1->ν i=ν j->i=j) /\
  (∀i ob,(ro::hs)[i]? = Aa ob->lfO (hs.length+1) ob=Ak/\σ.H (ν i)=Aa (uB ν ob))/\(∀i,0<i->i<hs.length+1->∃j ob,j<i/\(ro::hs)[j]? = Aa ob/\bYz i ob=Ak) /\
  bW σ.H rest=[]/\cK σ.H rest=Aa ds/\bWc P f h ro hs ds ro' hs' r/\k ⟨bN σ.Γ dst (inj r),tcH σ.H σ.n (ν 0) (nuL ν hs.length) ro' hs',σ.n+hs'.length⟩ (nuL ν hs.length++con)
def RCo(P:As)[M:Mch P](f:AU)(x:AV)(rest:Ad AV)(dst:Aq Tmp)(σ:St)(con:Ad Ae)(k:St->Ad Ae->Prop):Prop :=
 ∃(d0:D) (y:AV) (l:Ad AV) (id:Ae) (h:AV) (ho:HO) (ds:Ad D) (ho':HO),x=.d d0/\rest=y::l/\hd1 y=Aa (id,h)/\σ.H id=Aa ho/\wG ho=Ak/\id ∉ bW σ.H l/\cK σ.H l=Aa ds/\aPo P f d0 h ho ds ho'/\ho'.len=ho.len/\wG ho'=Ak /\
  k ⟨bN σ.Γ dst (inj (.tp [])),upd σ.H id (Aa ho'),σ.n⟩ con
def hcH(H:Hp)(n:Ae)(S:Ad Ae)(H':Hp)(n':Ae):Hp:=λid=>if id∈S\/(n<=id/\id<n')then H' id else H id
def HCo(P:As)[M:Mch P](f:AU)(avs:Ad AV)(dst:Aq Tmp)(σ:St)(con:Ad Ae)(k:St->Ad Ae->Prop):Prop :=
 ∃(S:Ad Ae) (r:AV) (H':Hp) (n':Ae),(∀id∈S,(σ.H id).isSome=Ak)/\(∀id∈S,∀ob,σ.H id=Aa ob->inO S ob=Ak)/\(∀x∈avs,inS S 4 x=Ak)/\Rch σ.H avs S /\
  σ.n<=n'/\tX P f avs S σ.H σ.n r H' n'/\k ⟨bN σ.Γ dst r,hcH σ.H σ.n S H' n',n'⟩ (S.filter (λi=>(H' i).isNone)++con)
def HNo(P:As)[M:Mch P](f:AU)(avs:Ad AV)(dst:Aq Tmp)(σ:St)(con:Ad Ae)(k:St->Ad Ae->Prop):Prop :=
 ∃(ds:Ad D) (r:AV) (H':Hp) (n':Ae),cK σ.H avs=Aa ds/\σ.n<=n'/\tX P f (ds.map bH) [] (λ_=>Aj) σ.n r H' n' /\
  k ⟨bN σ.Γ dst r,hcH (kill (bW σ.H avs) σ.H) σ.n [] H' n',n'⟩ (bW σ.H avs++con)
def hvl(x:AV)(as:Ad AV):Aq (AU×Ad AV):=match x with
 |.bm f id off=>Aa (f,.ptr id off::as)
 |x=>(dG x).map λp=>(p.1,as++p.2)
def hvF(x:AV):Aq FuncId:=match x with
 |.bm f _ _=>Aa f
 |x=>(dG x).map (·.1)
def bRg(P:As):Aq AU->Bw
 |some f=>qS P f
 |none=>Az
def bSm{x:AV}{as:Ad AV}{p:AU×Ad AV}(h:hvl x as=Aa p):hvF x=Aa p.1:=by cases x<;>simp only[hvl,hvF]at h ⊢<;>first|(injection h with h;subst h;rfl)|(obtain⟨q,hq,rfl⟩:=Ai.1 h;rw[hq];rfl)
def aWi{P:As}[M:Mch P]{o:Bf}{Γ:Ae->AV}{x:AN}{f:AU}{args:Aw AN}{ts:Aw AF}{avs:Ad AV}(ho:o.op=.call { callee:=.value x,args:=args,argTypes:=ts })
 (h:hvl (oev Γ x) (args.toList.map (oev Γ))=Aa (f,avs)):Cal P o Γ f avs:=by
 unfold hvl at h
 split at h
 .rename_i g id off hx
  injection h with h;injection h with h1 h2;subst h1;subst h2
  exact cEc ho hx
 .obtain⟨⟨g,cs⟩,hc,he⟩:=Ai.1 h
  injection he with h1 h2;subst h1;subst h2
  exact cEb ho hc
def OC0(P:As)[M:Mch P](f:AU)(args:Aw AN)(dst:Aq Tmp)(σ:St)(con:Ad Ae)(k:St->Ad Ae->Prop):Prop :=
 if qS P f then match args.toList with
  | x::rest=>match hd1 (oev σ.Γ x)with
   | some (id,h)=>match σ.H id with
    | some ho=>(∃g,rest=[]/\h=.mp 0/\aEo P f g/\k ⟨bN σ.Γ dst (.kf g id),σ.H,σ.n⟩ con) \/
     (kL ho=Ak/\bW σ.H (rest.map (oev σ.Γ))=[]/\∃ds ho' r,cK σ.H (rest.map (oev σ.Γ))=Aa ds/\jV P f h ho ds ho' r/\ho'.len=ho.len/\kL ho'=Ak /\
      k ⟨bN σ.Γ dst (inj r),upd σ.H id (Aa ho'),σ.n⟩ con)\/TCo P f (oev σ.Γ x) (rest.map (oev σ.Γ)) dst σ con k \/
     (kL ho=Ak/\id ∉ bW σ.H (rest.map (oev σ.Γ))/\∃ds r,cK σ.H (rest.map (oev σ.Γ))=Aa ds/\aPl P f h (Aa ho) ds r/\k ⟨bN σ.Γ dst (inj r),kill (id::bW σ.H (rest.map (oev σ.Γ))) σ.H,σ.n⟩ (id::bW σ.H (rest.map (oev σ.Γ))++con))
    |none=>False
   |none=>(aFb (oev σ.Γ x)=Ak/\∃ds r,cK σ.H (rest.map (oev σ.Γ))=Aa ds/\aPl P f (oev σ.Γ x) Aj ds r/\k ⟨bN σ.Γ dst (inj r),kill (bW σ.H (rest.map (oev σ.Γ))) σ.H,σ.n⟩ (bW σ.H (rest.map (oev σ.Γ))++con))\/RCo P f (oev σ.Γ x) (rest.map (oev σ.Γ)) dst σ con k
  |[]=>False
 else(aRy P f=Ak/\0<σ.n/\∃v hs,((∃ds,cK σ.H (args.toList.map (oev σ.Γ))=Aa ds/\bW σ.H (args.toList.map (oev σ.Γ))=[]/\aEn P f ds v hs) \/
  ((args.toList.map (oev σ.Γ)).all aFb=Ak/\aEm P f (args.toList.map (oev σ.Γ)) v hs)) /\
  k ⟨bN σ.Γ dst (v σ.n),iY σ.H σ.n (hs σ.n),σ.n+(hs σ.n).length⟩ con)\/match args.toList.map (oev σ.Γ)with
  | [.kf g id]=>match σ.H id with
   |some (.map .i64 es)=>es.length<=1099511627776/\(es.map (·.1)).all inr=Ak/\uQ P f g/\k ⟨bN σ.Γ dst (.d (.sl ((aNo (es.map (·.1))).map λn=>[.i .i64 n]))),σ.H,σ.n⟩ con
   |_=>False
  |avs=>∃ds r,cK σ.H avs=Aa ds/\Spec P f ds r/\k ⟨bN σ.Γ dst (inj r),kill (bM σ.H avs r) σ.H,σ.n⟩ (bM σ.H avs r++con)
def OC(P:As)[M:Mch P](f:AU)(args:Aw AN)(dst:Aq Tmp)(σ:St)(con:Ad Ae)(k:St->Ad Ae->Prop):Prop :=
 OC0 P f args dst σ con k\/qS P f=Ak/\HCo P f (args.toList.map (oev σ.Γ)) dst σ con k\/aRy P f=Ak/\HNo P f (args.toList.map (oev σ.Γ)) dst σ con k
def O1(P:As)[M:Mch P](o:Bf)(σ:St)(con:Ad Ae)(k:St->Ad Ae->Prop):Prop :=
 match o.op with
 | .load t x=>match mI P σ.H t (oev σ.Γ x)with
  |some v=>k ⟨bN σ.Γ o.dst v,σ.H,σ.n⟩ con
  |none=>False
 | .lookup t m x ok=>match aGq P σ.H t (oev σ.Γ m) (oev σ.Γ x) ok with
  |some v=>k ⟨bN σ.Γ o.dst v,σ.H,σ.n⟩ con
  |none=>False
 | .entry x=>match cAd σ.H (oev σ.Γ x)with
  |some v=>k ⟨bN σ.Γ o.dst v,σ.H,σ.n⟩ con
  |none=>False
 |.next _ _=>False
 | .store t ad x=>match lF P σ.H t (oev σ.Γ ad) (oev σ.Γ x)with
  |some (id,ho)=>k ⟨bN σ.Γ o.dst .un,upd σ.H id (Aa ho),σ.n⟩ con
  |none=>False
 | .mapUpdate t m x v=>match rG P σ.H t (oev σ.Γ m) (oev σ.Γ x) (Aa (oev σ.Γ v))with
  |some (id,ho)=>k ⟨bN σ.Γ o.dst .any,upd σ.H id (Aa ho),σ.n⟩ con
  |none=>False
 | .insert t m x v=>match rG P σ.H t (oev σ.Γ m) (oev σ.Γ x) (Aa (oev σ.Γ v))with
  |some (id,ho)=>k ⟨bN σ.Γ o.dst .any,upd σ.H id (Aa ho),σ.n⟩ con
  |none=>False
 |.call { callee:=.value (.func f),args:=args,argTypes:=_ }=>OC P f args o.dst σ con k
 | .call { callee:=.value (.tmp t),args:=args,argTypes:=_ }=>(match dG (σ.Γ t)with
  | some (f,cs)=>∃ds r,cK σ.H (args.toList.map (oev σ.Γ)++cs)=Aa ds/\Spec P f ds r /\
    k ⟨bN σ.Γ o.dst (inj r),kill (bM σ.H (args.toList.map (oev σ.Γ)++cs) r) σ.H,σ.n⟩ (bM σ.H (args.toList.map (oev σ.Γ)++cs) r++con)
  | none=>match σ.Γ t with
   | .d (.fm f d)=>∃ds r,cK σ.H (.d d::args.toList.map (oev σ.Γ))=Aa ds/\Spec P f ds r /\
     k ⟨bN σ.Γ o.dst (inj r),kill (bM σ.H (.d d::args.toList.map (oev σ.Γ)) r) σ.H,σ.n⟩ (bM σ.H (.d d::args.toList.map (oev σ.Γ)) r++con)
   |_=>False)\/∃f avs,hvl (σ.Γ t) (args.toList.map (oev σ.Γ))=Aa (f,avs)/\qS P f=Ak/\HCo P f avs o.dst σ con k
 | .call { callee:=.invoke (.tmp t) name,args:=args,argTypes:=_ }=>match σ.Γ t with
  | .d (.iff ty d)=>match aNe P ty name with
   | some f=>∃ds r,cK σ.H (.d d::args.toList.map (oev σ.Γ))=Aa ds/\Spec P f ds r /\
     k ⟨bN σ.Γ o.dst (inj r),kill (bM σ.H (.d d::args.toList.map (oev σ.Γ)) r) σ.H,σ.n⟩ (bM σ.H (.d d::args.toList.map (oev σ.Γ)) r++con)
   |none=>False
  |_=>False
 | .call { callee:=.builtin .append,args:=args,argTypes:=ts }=>match args.toList,ts.toList with
  | [s,x],[t,t']=>t=t'/\match aFi P σ.H t (oev σ.Γ s) (oev σ.Γ x) σ.n with
   |some (av,nb,cn)=>k ⟨bN σ.Γ o.dst av,fE (kill cn σ.H) σ.n nb,cnt nb σ.n⟩ (cn++con)
   |none=>False
  |_,_=>False
 | .call { callee:=.builtin .delete,args:=args,argTypes:=ts }=>match args.toList,ts.toList with
  | [m,x],[t,_]=>match rG P σ.H t (oev σ.Γ m) (oev σ.Γ x) Aj with
   |some (id,ho)=>k ⟨bN σ.Γ o.dst .any,upd σ.H id (Aa ho),σ.n⟩ con
   |none=>False
  |_,_=>False
 | .call { callee:=.builtin .copy,args:=args,argTypes:=ts }=>match args.toList,ts.toList with
  | [m,x],[t,_]=>match aTe P σ.H t (oev σ.Γ m) (oev σ.Γ x)with
   |some (id,ho,n)=>k ⟨bN σ.Γ o.dst (.d (.i .i64 n)),upd σ.H id (Aa ho),σ.n⟩ con
   |none=>False
  |_,_=>False
 | .call { callee:=.builtin .len,args:=args,argTypes:=ts }=>if aSd P ts then(match args.toList with
   | [m]=>match aGm σ.H (oev σ.Γ m)with
    |some n=>k ⟨bN σ.Γ o.dst (.d (.i .i64 n)),σ.H,σ.n⟩ con
    |none=>False
   | _=>False)else kind P (.call { callee:=.builtin .len,args:=args,argTypes:=ts })=0/\match nev P (.call { callee:=.builtin .len,args:=args,argTypes:=ts }) σ.Γ σ.n with
    |some (av,nb)=>k ⟨bN σ.Γ o.dst av,fE σ.H σ.n nb,cnt nb σ.n⟩ con
    |none=>False
 | op=>kind P op=0/\match nev P op σ.Γ σ.n with
  |some (av,nb)=>k ⟨bN σ.Γ o.dst av,fE σ.H σ.n nb,cnt nb σ.n⟩ con
  |none=>False
def OW(P:As)[M:Mch P](ops:Aw Bf):Ad Bf->St->Ad Ae->(St->Ad Ae->Prop)->Prop
 |[],σ,con,k=>k σ con
 | o::l,σ,con,k=>match cJ ops o σ.Γ with
  |some Ak=>O1 P o σ con λσ' con'=>OW P ops l σ' con' k
  |some Az=>OW P ops l ⟨bN σ.Γ o.dst .un,σ.H,σ.n⟩ con k
  |none=>False
def aLd{H:Hp}{i:Ae}:∀(n:Ae) (x:AV),i∈vis H n x->∃ob,H i=Aa ob
 |0,_,h=>by cases h
 | n+1,x,h=>by
  have hl:∀cs:Ad AV,i∈cs.flatMap (vis H n)->∃ob,H i=Aa ob:=λcs hc=>by obtain⟨y,_,hy⟩:=B4.1 hc;exact aLd n y hy
  cases x with
  | own id off len sz =>
   simp only[vis]at h;split at h
   .rename_i hH;rcases BQ.1 h with rfl|h
    .exact⟨_,hH⟩
    .exact hl _ h
   .cases h
  | ptr id off =>
   simp only[vis]at h;split at h
   .rename_i hH;rcases BQ.1 h with rfl|h
    .exact⟨_,hH⟩
    .exact hl _ h
   .cases h
  | mp id =>
   simp only[vis]at h;split at h
   .rename_i hH;rcases BQ.1 h with rfl|h
    .exact⟨_,hH⟩
    .exact hl _ h
   .cases h
  |fn f cs=>exact hl _ h
  |ag cs=>exact hl _ h
  |tp cs=>exact hl _ h
  |_=>cases h
def sB{H:Hp}{i:Ae}{l:Ad AV}{ds:Ad D}(_:cK H l=Aa ds)(h:i∈bW H l):∃ob,H i=Aa ob:=by obtain⟨y,_,hy⟩:=B4.1 h;exact aLd 8 y hy
structure Wf(σ:St)(con:Ad Ae):Prop where
 top:∀id,σ.n<=id->σ.H id=Aj
 con:∀id∈con,id<σ.n/\σ.H id=Aj
structure dF(σ:St)(con:Ad Ae)(s:AS):Prop where
 Γ:s.Γ=σ.Γ
 T:∀id,s.T id↔id∈con
 K:∀id o,σ.H id=Aa o->s.K id=Aa o
 U:∀id,s.U id↔((σ.H id).isSome=Ak\/id∈con)
section
variable {P:As} [M:Mch P] {G:Ctx} {ops:Aw Bf}
def iG{l:Ad Ae}{H:Hp}{id:Ae}{o:HO}(h:kill l H id=Aa o):H id=Aa o/\id ∉ l:=by
 unfold kill at h;split at h
 .exact⟨h,by simp⟩
 .simp only at h;split at h
  .cases h
  .exact⟨h,by assumption⟩
def kY{l:Ad Ae}{H:Hp}{id:Ae}(h:id∈l):kill l H id=none:=by
 unfold kill;split
 .cases h
 .simp only;rw[AB h]
def jR{l:Ad Ae}{H:Hp}{id:Ae}(h:id ∉ l):kill l H id=H id:=by
 unfold kill;split
 .rfl
 .simp only;rw[Ap h]
def aFr{H:Hp}{t:AF}{ad x:AV}{id:Ae}{ho:HO}(h:lF P H t ad x=Aa (id,ho)):∃off old,ad=.ptr id off/\H id=Aa old:=by
 unfold lF at h;split at h
 .split at h
  .rename_i hH;obtain⟨vs,hvs,h⟩:=Af.1 h;obtain⟨sz,hsz,h⟩:=Af.1 h;split at h
   .injection h with h;injection h with h1 h2;subst h1;exact⟨_,_,rfl,hH⟩
   .cases h
  .cases h
 .cases h
def aLb(H:Hp):∀(n:Ae) (x:AV) (id:Ae),id∈vis H n x->∃o,H id=Aa o
 |0,x,id,h=>by simp[vis]at h
 | n+1,x,id,h=>by
  have ih:=aLb H n;unfold vis at h;split at h
  .split at h
   .rename_i e cs hH;rcases BQ.1 h with rfl|h
    .exact⟨_,hH⟩
    .obtain⟨c,_,hc⟩:=B4.1 h;exact ih c id hc
   .cases h
  .split at h
   .rename_i e cs hH;rcases BQ.1 h with rfl|h
    .exact⟨_,hH⟩
    .obtain⟨c,_,hc⟩:=B4.1 h;exact ih c id hc
   .cases h
  .obtain⟨c,_,hc⟩:=B4.1 h;exact ih c id hc
  .obtain⟨c,_,hc⟩:=B4.1 h;exact ih c id hc
  .obtain⟨c,_,hc⟩:=B4.1 h;exact ih c id hc
  .split at h
   .rename_i e cs hH;rcases BQ.1 h with rfl|h
    .exact⟨_,hH⟩
    .obtain⟨c,_,hc⟩:=B4.1 h;exact ih c id hc
   .cases h
  .cases h
def gZ{H:Hp}{l:Ad AV}{r:D}{id:Ae}(h:id∈bM H l r):∃o,H id=Aa o:=by
 unfold bM at h;split at h
 .cases h
 .obtain⟨c,_,hc⟩:=B4.1 h;exact aLb H 8 c id hc
def aPf{H:Hp}{t:AF}{s x:AV}{n:Ae}{av:AV}{nb:Aq HO}{cn:Ad Ae}(h:aFi P H t s x n=Aa (av,nb,cn)) :
 ∀id∈cn,(∃o,H id=Aa o)/\∃off len sz,s=.own id off len sz:=by
 unfold aFi at h
 obtain⟨e,_,h⟩:=Af.1 h
 obtain⟨sz,_,h⟩:=Af.1 h
 obtain⟨bt,_,h⟩:=Af.1 h
 obtain⟨z,_,h⟩:=Af.1 h
 obtain⟨p,_,h⟩:=Af.1 h
 split at h
 .split at h
  .split at h
   .injection h with h;injection h with _ h;injection h with _ h;subst h;intro id hid;cases hid
   .split at h
    .injection h with h;injection h with _ h;injection h with _ h;subst h;intro id hid;cases hid
    .cases h
  .split at h
   .rename_i hH
    split at h
    .injection h with h;injection h with _ h;injection h with _ h;subst h
     intro id hid
     simp only[List.mem_singleton]at hid;subst hid
     exact⟨⟨_,hH⟩,_,_,_,rfl⟩
    .cases h
   .cases h
  .split at h
   .injection h with h;injection h with _ h;injection h with _ h;subst h;intro id hid;cases hid
   .split at h
    .injection h with h;injection h with _ h;injection h with _ h;subst h;intro id hid;cases hid
    .cases h
  .cases h
 .cases h
def pP{Γ:Ae->AV}{x:AN}{id:Ae}{h:AV}(he:hd1 (oev Γ x)=Aa (id,h)):∃ts,x=.tmp ts/\oM id (Γ ts)=true:=by
 cases x with
 | tmp ts =>
  refine⟨ts,rfl,?_⟩;simp only[oev]at he;unfold hd1 at he;split at he<;>first|(cases he;done)|(injection he with he;injection he with e1 _;subst e1;simp_all [oM])
 | const v =>
  exfalso;simp only[oev,cv]at he;split at he
  .cases he
  .unfold cv1 at he;split at he<;>cases he
 |global g=>cases he
 |func f=>cases he
def aJh{H:Hp}{t:AF}{m x:AV}{v:Aq AV}{id:Ae}{ho:HO}(h:rG P H t m x v=Aa (id,ho)):∃old,m=.mp id/\H id=Aa old/\ho.len=old.len:=by
 unfold rG at h;split at h
 .split at h
  .rename_i hH;obtain⟨p,_,h⟩:=Af.1 h;split at h
   .split at h
    .injection h with h;injection h with e1 e2;subst e1;subst e2;exact⟨_,rfl,hH,rfl⟩
    .cases h
   .cases h
  .cases h
 .cases h
def rW{k:St->Ad Ae->Prop}:∀(l:Ad Bf) (σ:St) (con:Ad Ae),gW l=Ak->(∀id,σ.n<=id->∀b,G.P0 id b)->Wf σ con->OW P ops l σ con k ->
 ∃fb:Hp,∀s,dF σ con s->(∀id,σ.n<=id->s.K id=fb id)->wX P G ops (λs'=>∃σ' con',k σ' con'/\(∀id,σ'.n<=id->∀b,G.P0 id b)/\Wf σ' con'/\dF σ' con' s') l s
 |[],σ,con,_,hn0,hwf,h=>⟨λ_=>Aj,λs hs _=>⟨σ,con,h,hn0,hwf,hs⟩⟩
 | o::l,σ,con,hnn,hn0,hwf,h=>by
  simp only[gW,List.all_cons,A5,Bool.not_eq_true']at hnn;have ih:=λσ con=>rW (k:=k) l σ con (by simpa[gW]using hnn.2)
  unfold OW at h
  -- a step that makes no block
  have pure0:∀(av:AV) (con':Ad Ae) (H':Hp),H'=kill con' σ.H->(∀id∈con',(σ.H id).isSome=Ak)->OW P ops l ⟨bN σ.Γ o.dst av,H',σ.n⟩ (con'++con) k ->
   (∀s,dF σ con s->Ev P G o s.Γ s.T s.K s.K av bG (λi=>i∈con'))->cJ ops o σ.Γ=Aa Ak ->
   ∃fb:Hp,∀s,dF σ con s->(∀id,σ.n<=id->s.K id=fb id)->wX P G ops (λs'=>∃σ' con',k σ' con'/\(∀id,σ'.n<=id->∀b,G.P0 id b)/\Wf σ' con'/\dF σ' con' s') (o::l) s:=by
   intro av con' H' hH' hc' hk hev hw
   subst hH'
   have hwf':Wf ⟨bN σ.Γ o.dst av,kill con' σ.H,σ.n⟩ (con'++con):=by
    refine⟨λid hid=>?_,λid hid=>?_⟩
    .cases hx:kill con' σ.H id with
     |none=>exact hx
     |some o'=>have:=(iG hx).1;rw[hwf.top id hid]at this;cases this
    .rcases BR.1 hid with hid|hid
     .refine⟨?_,kY hid⟩;have:=hc' id hid;rcases Bc id σ.n with h|h
      .exact h
      .rw[hwf.top id h]at this;cases this
     .obtain⟨h1,h2⟩:=hwf.con id hid;refine⟨h1,?_⟩;cases hx:kill con' σ.H id with
      |none=>exact hx
      |some o'=>have:=(iG hx).1;rw[h2]at this;cases this
   obtain⟨fb,hfb⟩:=ih _ _ (by exact hn0) hwf' hk
   refine⟨fb,λs hs hsfb=>⟨_,.yes av bG (λi=>i∈con') s.K (by rw[hs.Γ];exact hw) (hev s hs) (λ_ h=>h.elim) (λ_ h=>h.elim) (λ_ h=>h.elim),hfb _ ?_ hsfb⟩⟩
   refine⟨by rw[hs.Γ],λid=>by simp[hs.T,or_comm],λid o' h=>hs.K id o' (iG h).1,λid=>?_⟩
   simp only[hs.U,bG,Fh,BR]
   by_cases hid:id∈con'
   .simp[hid,hc' id hid,kY hid]
   .rw[jR hid];simp[hid]
  -- a step that makes block n
  have new1:∀(av:AV) (con':Ad Ae) (ho:HO),(∀id∈con',(σ.H id).isSome=Ak)->OW P ops l ⟨bN σ.Γ o.dst av,upd (kill con' σ.H) σ.n (Aa ho),σ.n+1⟩ (con'++con) k ->
   (∀s,dF σ con s->s.K σ.n=Aa ho->Ev P G o s.Γ s.T s.K s.K av (·=σ.n) (λi=>i∈con'))->cJ ops o σ.Γ=Aa Ak ->
   ∃fb:Hp,∀s,dF σ con s->(∀id,σ.n<=id->s.K id=fb id)->wX P G ops (λs'=>∃σ' con',k σ' con'/\(∀id,σ'.n<=id->∀b,G.P0 id b)/\Wf σ' con'/\dF σ' con' s') (o::l) s:=by
   intro av con' ho hc' hk hev hw
   have hlt:∀id∈con',id<σ.n:=λid hid=>by
    have:=hc' id hid;rcases Bc id σ.n with h|h
    .exact h
    .rw[hwf.top id h]at this;cases this
   have hwf':Wf ⟨bN σ.Γ o.dst av,upd (kill con' σ.H) σ.n (Aa ho),σ.n+1⟩ (con'++con):=by
    refine⟨λid hid=>?_,λid hid=>?_⟩
    .simp only at hid ⊢;rw[upd_ne _ _ (by omega)];cases hx:kill con' σ.H id with
     |none=>rfl
     |some o'=>have:=(iG hx).1;rw[hwf.top id (by omega)]at this;cases this
    .simp only;rcases BR.1 hid with hid|hid
     .have:=hlt id hid;exact⟨by omega,by rw[upd_ne _ _ (by omega)];exact kY hid⟩
     .obtain⟨h1,h2⟩:=hwf.con id hid;refine⟨by omega,?_⟩;rw[upd_ne _ _ (by omega)];cases hx:kill con' σ.H id with
      |none=>rfl
      |some o'=>have:=(iG hx).1;rw[h2]at this;cases this
   obtain⟨fb,hfb⟩:=ih _ _ (λid h=>hn0 id (by simp only at h;omega)) hwf' hk
   refine⟨upd fb σ.n (Aa ho),λs hs hsfb=>?_⟩
   have hKn:s.K σ.n=Aa ho:=by rw[hsfb _ (AM _),upd_same]
   refine⟨_,.yes av (·=σ.n) (λi=>i∈con') s.K (by rw[hs.Γ];exact hw) (hev s hs hKn) ?_ ?_ (λid h=>hn0 id (Nat.le_of_eq h.symm)),hfb _ ?_ λid hid=>?_⟩
   .rintro id rfl hu
    rcases(hs.U σ.n).1 hu with h|h
    .rw[hwf.top _ (AM _)]at h;cases h
    .have:=(hwf.con _ h).1;omega
   .rintro id rfl ht
    have:=(hwf.con _ ((hs.T σ.n).1 ht)).1;omega
   .refine⟨by rw[hs.Γ],λid=>by simp[hs.T,or_comm],λid o' h=>?_,λid=>?_⟩
    .simp only at h
     by_cases hid:id=σ.n
     .subst hid;rw[upd_same]at h;rw[<-h];exact hKn
     .rw[upd_ne _ _ hid]at h;exact hs.K id o' (iG h).1
    .simp only[hs.U,BR]
     by_cases hid:id=σ.n
     .subst hid;simp[upd_same]
     .rw[upd_ne _ _ hid]
      by_cases hc:id∈con'
      .simp[hc,hc' id hc,kY hc]
      .rw[jR hc];simp[hid,hc]
   .simp only at hid
    rw[hsfb id (by omega),upd_ne _ _ (by omega)]
  -- a step that makes blocks n, n + 1, ..
  have newk:∀(av:AV) (hs0:Ad HO),0<σ.n->OW P ops l ⟨bN σ.Γ o.dst av,iY σ.H σ.n hs0,σ.n+hs0.length⟩ con k ->
   (∀s,dF σ con s->(∀i ob,hs0[i]? = Aa ob->s.K (σ.n+i)=Aa ob)->Ev P G o s.Γ s.T s.K s.K av (λi=>σ.n<=i/\i<σ.n+hs0.length) bG)->cJ ops o σ.Γ=Aa Ak ->
   ∃fb:Hp,∀s,dF σ con s->(∀id,σ.n<=id->s.K id=fb id)->wX P G ops (λs'=>∃σ' con',k σ' con'/\(∀id,σ'.n<=id->∀b,G.P0 id b)/\Wf σ' con'/\dF σ' con' s') (o::l) s:=by
   intro av hs0 hpos hk hev hw
   have hwf':Wf ⟨bN σ.Γ o.dst av,iY σ.H σ.n hs0,σ.n+hs0.length⟩ con:=by
    refine⟨λid hid=>?_,λid hid=>?_⟩
    .simp only[iY]at hid ⊢;rw[Ap (by omega)];exact hwf.top id (by omega)
    .obtain⟨h1,h2⟩:=hwf.con id hid;simp only[iY];exact⟨by omega,by rw[Ap (by omega)];exact h2⟩
   obtain⟨fb,hfb⟩:=ih _ _ (λid h=>hn0 id (by simp only at h;omega)) hwf' hk
   refine⟨iY fb σ.n hs0,λs hs hsfb=>?_⟩
   have hKn:∀i ob,hs0[i]? = Aa ob->s.K (σ.n+i)=Aa ob:=λi ob hi=>by have hlt:=(AA.1 hi).1;rw[hsfb _ (by omega)];simp only[iY];rw[AB ⟨by omega,by omega⟩,show σ.n+i-σ.n=i by omega];exact hi
   refine⟨_,.yes av (λi=>σ.n<=i/\i<σ.n+hs0.length) bG s.K (by rw[hs.Γ];exact hw) (hev s hs hKn) ?_ ?_ (λid h=>hn0 id h.1),hfb _ ?_ λid hid=>?_⟩
   .rintro id ⟨h1,_⟩ hu
    rcases(hs.U id).1 hu with h|h
    .rw[hwf.top _ h1]at h;cases h
    .have:=(hwf.con _ h).1;omega
   .rintro id ⟨h1,_⟩ ht
    have:=(hwf.con _ ((hs.T id).1 ht)).1;omega
   .refine⟨by rw[hs.Γ],λid=>by simp[hs.T,bG],λid o' h=>?_,λid=>?_⟩
    .simp only[iY]at h
     split at h
     .rename_i hr
      have:=hKn (id-σ.n) o' h
      rwa [show σ.n+(id-σ.n)=id by omega]at this
     .exact hs.K id o' h
    .simp only[hs.U,iY]
     by_cases hr:σ.n<=id/\id<σ.n+hs0.length
     .rw[AB hr,Ac (by omega)];simp[hr]
     .rw[Ap hr];simp[hr]
   .simp only at hid
    rw[hsfb id (by omega)]
    simp only[iY]
    rw[Ap (by omega)]
  -- a step that writes into a block
  have write1:∀(av:AV) (id:Ae) (ho old:HO) (ts:Ae),CK ts∈o.op.operands->oM id (σ.Γ ts)=Ak->σ.H id=Aa old->kind P o.op=2->OW P ops l ⟨bN σ.Γ o.dst av,upd σ.H id (Aa ho),σ.n⟩ con k ->
   (∀(T2:Ae->Prop) (K2:Hp),K2 id=Aa old->¬T2 id->Y P G o σ.Γ T2 K2 (mV K2 T2 id ho) av bG bG)->cJ ops o σ.Γ=Aa Ak ->
   ∃fb:Hp,∀s,dF σ con s->(∀id,σ.n<=id->s.K id=fb id)->wX P G ops (λs'=>∃σ' con',k σ' con'/\(∀id,σ'.n<=id->∀b,G.P0 id b)/\Wf σ' con'/\dF σ' con' s') (o::l) s:=by
   intro av id ho old ts hts hΓ hold hkd h hY hw
   have hwf':Wf ⟨bN σ.Γ o.dst av,upd σ.H id (Aa ho),σ.n⟩ con:=by
    refine⟨λi hi=>?_,λi hi=>?_⟩
    .simp only at hi ⊢;rw[upd_ne _ _ (λe=>by rw[e]at hi;rw[hwf.top id hi]at hold;cases hold)];exact hwf.top i hi
    .obtain⟨h1,h2⟩:=hwf.con i hi;refine⟨h1,?_⟩;simp only;rw[upd_ne _ _ (λe=>by rw[e]at h2;rw[h2]at hold;cases hold)];exact h2
   obtain⟨fb,hfb⟩:=ih _ _ (by exact hn0) hwf' h
   refine⟨fb,λs hs hsfb=>?_⟩
   have hidn:id<σ.n:=by
    rcases Bc id σ.n with h|h
    .exact h
    .rw[hwf.top id h]at hold;cases hold
   have hnT:¬s.T id:=λh=>by have:=(hwf.con id ((hs.T id).1 h)).2;rw[this]at hold;cases hold
   refine⟨_,.yes av bG bG (mV s.K s.T id ho) (by rw[hs.Γ];exact hw) (.inr (.inr (.inl ⟨hkd,rfl,rfl,id,ts,old,ho,hts,by rw[hs.Γ];exact hΓ,hs.K _ _ hold,hnT,rfl,λT2 K2 hK2 hT2=>by rw[hs.Γ];exact hY T2 K2 hK2 hT2⟩))) (λ_ h=>h.elim) (λ_ h=>h.elim) (λ_ h=>h.elim),hfb _ ?_ λi hi=>?_⟩
   .refine⟨by rw[hs.Γ],λi=>by simp[hs.T,bG],λi o' h=>?_,λi=>?_⟩
    .simp only at h ⊢
     by_cases hid:i=id
     .subst hid;rw[upd_same]at h;unfold mV;rw[AB rfl];exact h
     .rw[upd_ne _ _ hid]at h
      rw[rZ hid (λht=>by have:=(hwf.con i ((hs.T i).1 ht)).2;rw[this]at h;cases h)]
      exact hs.K i o' h
    .simp only[hs.U,bG,Fh]
     by_cases hid:i=id
     .subst hid;simp[upd_same,hold]
     .rw[upd_ne _ _ hid]
   .simp only at hi
    show mV s.K s.T id ho i=fb i
    rw[rZ (by omega) (λht=>by have:=(hwf.con i ((hs.T i).1 ht)).1;omega)]
    exact hsfb i hi
  -- a step that turns a structure
  have stepG:∀(av:AV) (ν:Ae->Ae) (ro:HO) (hs0:Ad HO) (ro':HO) (hs':Ad HO),0<σ.n->(∀i j,i<hs0.length+1->j<hs0.length+1->ν i=ν j->i=j)->(∀i ob,(ro::hs0)[i]? = Aa ob->σ.H (ν i)=Aa (uB ν ob))->kind P o.op=2 ->
   OW P ops l ⟨bN σ.Γ o.dst av,tcH σ.H σ.n (ν 0) (nuL ν hs0.length) ro' hs',σ.n+hs'.length⟩ (nuL ν hs0.length++con) k ->
   (∀s,dF σ con s->∀i,i<hs0.length+1->∀F w ι T2 (a:Act),HR G F w ι T2 s.K->(∀t,CK t∈o.op.operands->V F w ι (s.Γ t) (a.tmps.getD t undef))->∃b,ι (ν i)=Aa b) ->
   (∀s,dF σ con s->(∀j ob,hs'[j]? = Aa ob->s.K (σ.n+j)=Aa (uB (nuT (ν 0) σ.n) ob))->∀(T2:Ae->Prop) (K2:Hp),(∀id,(∃i,i<hs0.length+1/\ν i=id)->¬T2 id/\K2 id=s.K id)->(∀id,(σ.n<=id/\id<σ.n+hs'.length)->¬T2 id/\K2 id=s.K id) ->
    Y P G o s.Γ T2 K2 (iP K2 T2 (λid=>∃i,i<hs0.length+1/\ν i=id) λid=>if id=ν 0 then Aa (uB (nuT (ν 0) σ.n) ro')else Aj) av (λi=>σ.n<=i/\i<σ.n+hs'.length) (λi=>∃j,0<j/\j<hs0.length+1/\ν j=i)) ->
   cJ ops o σ.Γ=Aa Ak ->
   ∃fb:Hp,∀s,dF σ con s->(∀id,σ.n<=id->s.K id=fb id)->wX P G ops (λs'=>∃σ' con',k σ' con'/\(∀id,σ'.n<=id->∀b,G.P0 id b)/\Wf σ' con'/\dF σ' con' s') (o::l) s:=by
   intro av ν ro hs0 ro' hs' hpos hνi hνH hkd hk hlive hY hw
   have hget:∀i,i<hs0.length+1->∃ob,(ro::hs0)[i]? = Aa ob:=λi hi=>⟨_,Ac (by simpa using hi)⟩
   have hlt:∀i,i<hs0.length+1->ν i<σ.n:=λi hi=>by
    obtain⟨ob,ho⟩:=hget i hi;have h1:=hνH i ob ho;rcases Bc (ν i) σ.n with h|h
    .exact h
    .rw[hwf.top _ h]at h1;cases h1
   have h0l:ν 0 ∉ nuL ν hs0.length:=λh=>by obtain⟨j,h1,h2,h3⟩:=vP.1 h;have:=hνi j 0 h2 (by omega) h3;omega
   have hwf':Wf ⟨bN σ.Γ o.dst av,tcH σ.H σ.n (ν 0) (nuL ν hs0.length) ro' hs',σ.n+hs'.length⟩ (nuL ν hs0.length++con):=by
    refine⟨λid hid=>?_,λid hid=>?_⟩
    .simp only at hid;have h00:=hlt 0 (by omega);simp only[tcH];rw[Ap (by omega),Ap (by omega)];split
     .rfl
     .exact hwf.top id (by omega)
    .rcases BR.1 hid with hid|hid
     .obtain⟨j,h1,h2,rfl⟩:=vP.1 hid;have:=hlt j h2;refine⟨by simp only;omega,?_⟩;simp only[tcH];rw[Ap (by omega),Ap (λe=>h0l (by rw[<-e];exact hid)),AB hid]
     .obtain⟨h1,h2⟩:=hwf.con id hid;refine⟨by simp only;omega,?_⟩;simp only[tcH];rw[Ap (by omega),Ap (λe=>by
       obtain⟨ob,ho⟩:=hget 0 (by omega);have:=hνH 0 ob ho;rw[<-e,h2]at this;cases this)]
      split
      .rfl
      .exact h2
   obtain⟨fb,hfb⟩:=ih _ _ (λid h=>hn0 id (by simp only at h;omega)) hwf' hk
   refine⟨λid=>if σ.n<=id/\id<σ.n+hs'.length then(hs'[id-σ.n]?).map (uB (nuT (ν 0) σ.n))else fb id,λs hs hsfb=>?_⟩
   have hKn:∀j ob,hs'[j]? = Aa ob->s.K (σ.n+j)=Aa (uB (nuT (ν 0) σ.n) ob):=λj ob hj=>by have hl:=(AA.1 hj).1;rw[hsfb _ (by omega)];simp only;rw[AB ⟨by omega,by omega⟩,show σ.n+j-σ.n=j by omega,hj];rfl
   have hTn:∀id,s.T id->id<σ.n/\σ.H id=none:=λid h=>hwf.con id ((hs.T id).1 h)
   have hST:∀id,(∃i,i<hs0.length+1/\ν i=id)->¬s.T id:=λid ⟨i,hi,he⟩ ht=>by obtain⟨ob,ho⟩:=hget i hi;have h1:=hνH i ob ho;rw[he,(hTn id ht).2]at h1;cases h1
   refine⟨_,.yes av (λi=>σ.n<=i/\i<σ.n+hs'.length) (λi=>∃j,0<j/\j<hs0.length+1/\ν j=i) (iP s.K s.T (λid=>∃i,i<hs0.length+1/\ν i=id) λid=>if id=ν 0 then Aa (uB (nuT (ν 0) σ.n) ro')else Aj) (by rw[hs.Γ];exact hw)
    (.inr (.inr (.inr ⟨hkd,_,_,hST,λid ⟨j,_,h2,h3⟩=>⟨j,h2,h3⟩,λid h1 ⟨i,hi,he⟩=>by have:=hlt i hi;omega,λid ⟨i,hi,he⟩ F w ι T2 a hR hopr=>by rw[<-he];exact hlive s hs i hi F w ι T2 a hR hopr,rfl,λT2 K2 h1 h2=>hY s hs hKn T2 K2 h1 h2⟩))) ?_ ?_ (λid h=>hn0 id h.1),hfb _ ?_ λid hid=>?_⟩
   .rintro id ⟨h1,_⟩ hu
    rcases(hs.U id).1 hu with h|h
    .rw[hwf.top _ h1]at h;cases h
    .have:=(hwf.con _ h).1;omega
   .rintro id ⟨h1,_⟩ ht
    have:=(hTn id ht).1;omega
   .refine⟨by rw[hs.Γ],λid=>?_,λid o' h=>?_,λid=>?_⟩
    .simp only[hs.T,BR,vP]
     constructor
     .rintro(h|h)
      .exact .inr h
      .exact .inl h
     .rintro(h|h)
      .exact .inr h
      .exact .inl h
    .simp only[tcH]at h
     simp only[iP]
     split at h
     .rename_i hr
      have hnS:¬∃i,i<hs0.length+1/\ν i=id:=λ⟨i,hi,he⟩=>by have:=hlt i hi;omega
      rw[Ap hnS,Ap (λht=>by have:=(hTn id ht).1;omega)]
      obtain⟨ob,ho,rfl⟩:=Ai.1 h
      have:=hKn (id-σ.n) ob ho
      rwa [show σ.n+(id-σ.n)=id by omega]at this
     .split at h
      .rename_i hr e
       subst e
       rw[AB ⟨0,by omega,rfl⟩,AB rfl];exact h
      .split at h
       .cases h
       .rename_i hr e1 e2
        have hnS:¬∃i,i<hs0.length+1/\ν i=id:=λ⟨i,hi,he⟩=>by
         rcases BB i with rfl|hp
         .exact e1 he.symm
         .exact e2 (vP.2 ⟨i,hp,hi,he⟩)
        rw[Ap hnS,Ap (λht=>by rw[(hTn id ht).2]at h;cases h)]
        exact hs.K id o' h
    .simp only[hs.U,BR,tcH]
     by_cases hr:σ.n<=id/\id<σ.n+hs'.length
     .rw[AB hr,Ac (by omega)];simp[hr]
     .rw[Ap hr]
      by_cases e1:id=ν 0
      .subst e1
       rw[AB rfl]
       obtain⟨ob,ho⟩:=hget 0 (by omega)
       simp[hνH 0 ob ho]
      .rw[Ap e1]
       by_cases e2:id∈nuL ν hs0.length
       .rw[AB e2]
        obtain⟨j,h1,h2,h3⟩:=vP.1 e2
        obtain⟨ob,ho⟩:=hget j h2
        have:=hνH j ob ho
        rw[h3]at this
        simp[e2,this]
       .rw[Ap e2];simp[e2,hr]
   .simp only at hid
    simp only[iP]
    rw[Ap (λ⟨i,hi,he⟩=>by have:=hlt i hi;omega),Ap (λht=>by have:=(hTn id ht).1;omega),hsfb id (by omega)]
    simp only
    rw[Ap (by omega)]
  -- a step that uses blocks up and writes into them
  have stepU:∀(av:AV) (ids:Ad Ae),(∀i,i∈ids->∃ob,σ.H i=Aa ob)->kind P o.op=2->OW P ops l ⟨bN σ.Γ o.dst av,kill ids σ.H,σ.n⟩ (ids++con) k ->
   (∀s,dF σ con s->∀i,i∈ids->∀F w ι T2 (a:Act),HR G F w ι T2 s.K->(∀t,CK t∈o.op.operands->V F w ι (s.Γ t) (a.tmps.getD t undef))->∃b,ι i=Aa b) ->
   (∀s,dF σ con s->∀(T2:Ae->Prop) (K2:Hp),(∀id,id∈ids->¬T2 id/\K2 id=s.K id)->Y P G o s.Γ T2 K2 (iP K2 T2 (λid=>id∈ids) λ_=>Aj) av bG (λi=>i∈ids)) ->
   cJ ops o σ.Γ=Aa Ak ->
   ∃fb:Hp,∀s,dF σ con s->(∀id,σ.n<=id->s.K id=fb id)->wX P G ops (λs'=>∃σ' con',k σ' con'/\(∀id,σ'.n<=id->∀b,G.P0 id b)/\Wf σ' con'/\dF σ' con' s') (o::l) s:=by
   intro av ids hids hkd hk hlive hY hw
   have hlt:∀i,i∈ids->i<σ.n:=λi hi=>by
    obtain⟨ob,h1⟩:=hids i hi;rcases Bc i σ.n with h|h
    .exact h
    .rw[hwf.top _ h]at h1;cases h1
   have hwf':Wf ⟨bN σ.Γ o.dst av,kill ids σ.H,σ.n⟩ (ids++con):=by
    refine⟨λid hid=>?_,λid hid=>?_⟩
    .simp only at hid ⊢;cases hk:kill ids σ.H id with
     |none=>rfl
     |some ob=>have:=(iG hk).1;rw[hwf.top id hid]at this;cases this
    .rcases BR.1 hid with hid|hid
     .exact⟨hlt id hid,kY hid⟩
     .obtain⟨h1,h2⟩:=hwf.con id hid;refine⟨h1,?_⟩;simp only;rw[jR λhm=>by obtain⟨ob,h3⟩:=hids id hm;rw[h2]at h3;cases h3];exact h2
   obtain⟨fb,hfb⟩:=ih _ _ (by exact hn0) hwf' hk
   refine⟨fb,λs hs hsfb=>?_⟩
   have hTn:∀id,s.T id->id<σ.n/\σ.H id=none:=λid h=>hwf.con id ((hs.T id).1 h)
   have hST:∀id,id∈ids->¬s.T id:=λid hi ht=>by obtain⟨ob,h1⟩:=hids id hi;rw[(hTn id ht).2]at h1;cases h1
   refine⟨_,.yes av bG (λi=>i∈ids) (iP s.K s.T (λid=>id∈ids) λ_=>Aj) (by rw[hs.Γ];exact hw)
    (.inr (.inr (.inr ⟨hkd,_,_,hST,λid h=>h,λid h=>h.elim,λid hi F w ι T2 a hR hopr=>hlive s hs id hi F w ι T2 a hR hopr,rfl,λT2 K2 h1 _=>hY s hs T2 K2 h1⟩))) (λ_ h=>h.elim) (λ_ h=>h.elim) (λ_ h=>h.elim),hfb _ ?_ λid hid=>?_⟩
   .refine⟨by rw[hs.Γ],λid=>?_,λid o' h=>?_,λid=>?_⟩
    .simp only[hs.T,BR]
     constructor
     .rintro(h|h)
      .exact .inr h
      .exact .inl h
     .rintro(h|h)
      .exact .inr h
      .exact .inl h
    .obtain⟨h1,h2⟩:=iG h
     simp only[iP]
     rw[Ap h2,Ap λht=>by rw[(hTn id ht).2]at h1;cases h1]
     exact hs.K id o' h1
    .simp only[hs.U,BR,bG,Fh]
     by_cases e:id∈ids
     .obtain⟨ob,h1⟩:=hids id e
      simp[e,h1]
     .rw[jR e];simp[e]
   .simp only at hid
    simp only[iP]
    rw[Ap (λhi=>by have:=hlt id hi;omega),Ap (λht=>by have:=(hTn id ht).1;omega),hsfb id hid]
  -- a step that writes into a block and reads others
  have stepR:∀(av:AV) (id:Ae) (ho' old:HO) (l0:Ad Ae),σ.H id=Aa old->(∀i,i∈l0->∃ob,σ.H i=Aa ob)->kind P o.op=2->OW P ops l ⟨bN σ.Γ o.dst av,upd σ.H id (Aa ho'),σ.n⟩ con k ->
   (∀s,dF σ con s->∀i,i∈id::l0->∀F w ι T2 (a:Act),HR G F w ι T2 s.K->(∀t,CK t∈o.op.operands->V F w ι (s.Γ t) (a.tmps.getD t undef))->∃b,ι i=Aa b) ->
   (∀s,dF σ con s->∀(T2:Ae->Prop) (K2:Hp),(∀i,i∈id::l0->¬T2 i/\K2 i=s.K i)->Y P G o s.Γ T2 K2 (iP K2 T2 (λi=>i∈id::l0) λi=>if i=id then Aa ho' else σ.H i) av bG bG) ->
   cJ ops o σ.Γ=Aa Ak ->
   ∃fb:Hp,∀s,dF σ con s->(∀id,σ.n<=id->s.K id=fb id)->wX P G ops (λs'=>∃σ' con',k σ' con'/\(∀id,σ'.n<=id->∀b,G.P0 id b)/\Wf σ' con'/\dF σ' con' s') (o::l) s:=by
   intro av id ho' old l0 hold hids hkd h hlive hY hw
   have hall:∀i,i∈id::l0->∃ob,σ.H i=Aa ob:=λi hi=>by
    rcases BQ.1 hi with rfl|hi
    .exact⟨_,hold⟩
    .exact hids i hi
   have hlt:∀i,i∈id::l0->i<σ.n:=λi hi=>by
    obtain⟨ob,h1⟩:=hall i hi;rcases Bc i σ.n with h|h
    .exact h
    .rw[hwf.top _ h]at h1;cases h1
   have hwf':Wf ⟨bN σ.Γ o.dst av,upd σ.H id (Aa ho'),σ.n⟩ con:=by
    refine⟨λi hi=>?_,λi hi=>?_⟩
    .simp only at hi ⊢;rw[upd_ne _ _ (λe=>by rw[e]at hi;rw[hwf.top id hi]at hold;cases hold)];exact hwf.top i hi
    .obtain⟨h1,h2⟩:=hwf.con i hi;refine⟨h1,?_⟩;simp only;rw[upd_ne _ _ (λe=>by rw[e]at h2;rw[h2]at hold;cases hold)];exact h2
   obtain⟨fb,hfb⟩:=ih _ _ (by exact hn0) hwf' h
   refine⟨fb,λs hs hsfb=>?_⟩
   have hTn:∀id,s.T id->id<σ.n/\σ.H id=none:=λid h=>hwf.con id ((hs.T id).1 h)
   have hST:∀i,i∈id::l0->¬s.T i:=λi hi ht=>by obtain⟨ob,h1⟩:=hall i hi;rw[(hTn i ht).2]at h1;cases h1
   refine⟨_,.yes av bG bG (iP s.K s.T (λi=>i∈id::l0) λi=>if i=id then Aa ho' else σ.H i) (by rw[hs.Γ];exact hw)
    (.inr (.inr (.inr ⟨hkd,_,_,hST,λi h=>h.elim,λi h=>h.elim,λi hi F w ι T2 a hR hopr=>hlive s hs i hi F w ι T2 a hR hopr,rfl,λT2 K2 h1 _=>hY s hs T2 K2 h1⟩))) (λ_ h=>h.elim) (λ_ h=>h.elim) (λ_ h=>h.elim),hfb _ ?_ λi hid=>?_⟩
   .refine⟨by rw[hs.Γ],λi=>by simp[hs.T,bG],λi o' h=>?_,λi=>?_⟩
    .simp only[iP]
     simp only at h
     by_cases hiS:i∈id::l0
     .rw[AB hiS]
      by_cases hid:i=id
      .subst hid;rw[upd_same]at h;rw[AB rfl];exact h
      .rw[upd_ne _ _ hid]at h;rw[Ap hid];exact h
     .have hid:i≠id:=λe=>hiS (by rw[e];exact AX ..)
      rw[upd_ne _ _ hid]at h
      rw[Ap hiS,Ap (λht=>by rw[(hTn i ht).2]at h;cases h)]
      exact hs.K i o' h
    .simp only[hs.U,bG,Fh]
     by_cases hid:i=id
     .subst hid;simp[upd_same,hold]
     .rw[upd_ne _ _ hid]
   .simp only at hid
    simp only[iP]
    rw[Ap (λhi=>by have:=hlt i hi;omega),Ap (λht=>by have:=(hTn i ht).1;omega),hsfb i hid]
  -- a call that is handed blocks
  have stepH:∀(f:AU) (avs:Ad AV),Cal P o σ.Γ f avs->kind P o.op=2->HCo P f avs o.dst σ con (λσ' con'=>OW P ops l σ' con' k)->cJ ops o σ.Γ=Aa Ak ->
   ∃fb:Hp,∀s,dF σ con s->(∀id,σ.n<=id->s.K id=fb id)->wX P G ops (λs'=>∃σ' con',k σ' con'/\(∀id,σ'.n<=id->∀b,G.P0 id b)/\Wf σ' con'/\dF σ' con' s') (o::l) s:=by
   intro f avs hcal hkd ⟨S,r,H',n',hS,hin,ha,hr,hn,hsp,hk⟩ hw
   have hget:∀i∈S,∃ob,σ.H i=Aa ob:=λi hi=>Dj.1 (hS i hi)
   have hlt:∀i∈S,i<σ.n:=λi hi=>by
    obtain⟨ob,h1⟩:=hget i hi;rcases Bc i σ.n with h|h
    .exact h
    .rw[hwf.top _ h]at h1;cases h1
   have e_in:∀id,id∈S->hcH σ.H σ.n S H' n' id=H' id:=λid h=>by unfold hcH;rw[AB (.inl h)]
   have e_new:∀id,σ.n<=id->id<n'->hcH σ.H σ.n S H' n' id=H' id:=λid h1 h2=>by unfold hcH;rw[AB (.inr ⟨h1,h2⟩)]
   have e_old:∀id,id ∉ S->¬(σ.n<=id/\id<n')->hcH σ.H σ.n S H' n' id=σ.H id:=λid h1 h2=>by unfold hcH;rw[Ap (λh=>h.elim h1 h2)]
   have hdead:∀id,id∈S.filter (λi=>(H' i).isNone)↔(id∈S/\H' id=Aj):=λid=>by simp[List.mem_filter]
   have hwf':Wf ⟨bN σ.Γ o.dst r,hcH σ.H σ.n S H' n',n'⟩ (S.filter (λi=>(H' i).isNone)++con):=by
    refine⟨λid hid=>?_,λid hid=>?_⟩
    .simp only at hid ⊢;rw[e_old id (λh=>by have:=hlt id h;omega) (by omega)];exact hwf.top id (by omega)
    .rcases BR.1 hid with hid|hid
     .obtain⟨h1,h2⟩:=(hdead id).1 hid;have:=hlt id h1;exact⟨by simp only;omega,by simp only;rw[e_in id h1];exact h2⟩
     obtain⟨h1,h2⟩:=hwf.con id hid;refine⟨by simp only;omega,?_⟩;simp only;rw[e_old id (λh=>by obtain⟨ob,h3⟩:=hget id h;rw[h2]at h3;cases h3) (by omega)];exact h2
   obtain⟨fb,hfb⟩:=ih _ _ (λid h=>hn0 id (by simp only at h;omega)) hwf' hk
   refine⟨λid=>if σ.n<=id/\id<n' then H' id else fb id,λs hs hsfb=>?_⟩
   have hKn:∀id,σ.n<=id->id<n'->s.K id=H' id:=λid h1 h2=>by rw[hsfb id h1];exact AB ⟨h1,h2⟩
   have hTn:∀id,s.T id->id<σ.n/\σ.H id=none:=λid h=>hwf.con id ((hs.T id).1 h)
   have hST:∀id,id∈S->¬s.T id:=λid hi ht=>by obtain⟨ob,h1⟩:=hget id hi;rw[(hTn id ht).2]at h1;cases h1
   have hSK:∀id,id∈S->s.K id=σ.H id:=λid hi=>by obtain⟨ob,h1⟩:=hget id hi;rw[h1];exact hs.K _ _ h1
   have hcal':Cal P o s.Γ f avs:=by rw[hs.Γ];exact hcal
   have hlive:∀id,id∈S->∀F w ι T2 (a:Act),HR G F w ι T2 s.K->(∀t,CK t∈o.op.operands->V F w ι (s.Γ t) (a.tmps.getD t undef))->∃b,ι id=Aa b:=λid hid F w ι T2 a hR hopr=>by obtain⟨vs,_,hl,hV⟩:=hcal' F w ι a hopr;exact aEk hR (λi _ ob hob=>hs.K i ob hob) hr hl hV id hid
   have nU:∀id,(σ.n<=id/\id<n'/\(H' id).isSome=Ak)->¬s.U id:=by
    rintro id ⟨h1,_⟩ hu;rcases(hs.U id).1 hu with h|h
    .rw[hwf.top _ h1]at h;cases h
    .have:=(hwf.con _ h).1;omega
   have nT:∀id,(σ.n<=id/\id<n'/\(H' id).isSome=Ak)->¬s.T id:=by rintro id ⟨h1,_⟩ ht;have:=(hTn id ht).1;omega
   have agU:∀id,(s.U id\/(σ.n<=id/\id<n'/\(H' id).isSome=Ak))↔((hcH σ.H σ.n S H' n' id).isSome=Ak\/id∈S.filter (λi=>(H' i).isNone)++con):=λid=>by
    rw[hs.U,BR,hdead];by_cases h1:id∈S
    .rw[e_in id h1];cases hh:H' id<;>simp[hS id h1,h1]
    .by_cases h2:σ.n<=id/\id<n'
     .rw[e_new id h2.1 h2.2,hwf.top id h2.1];simp[h2,h1];exact or_comm
     .rw[e_old id h1 h2];constructor
      .rintro((h|h)|⟨h3,h4,_⟩)
       .exact .inl h
       .exact .inr (.inr h)
       .exact(h2 ⟨h3,h4⟩).elim
      .rintro(h|h|h)
       .exact .inl (.inl h)
       .exact(h1 h.1).elim
       .exact .inl (.inr h)
   refine⟨_,.yes r (λi=>σ.n<=i/\i<n'/\(H' i).isSome=Ak) (λi=>i∈S/\H' i=Aj) (iP s.K s.T (λid=>id∈S) H') (by rw[hs.Γ];exact hw)
    (.inr (.inr (.inr ⟨hkd,_,_,hST,λid h=>h.1,λid h1 h2=>by have:=hlt id h2;omega,hlive,rfl,λT2 K2 h1 h2=>?_⟩))) nU nT (λid h=>hn0 id h.1),hfb _ ⟨by rw[hs.Γ],λid=>by rw[BR,hdead,<-hs.T];exact or_comm,λid o' h=>?_,agU⟩ λid hid=>?_⟩
   .refine aUk hcal' (λid h=>⟨hlt id h,hS id h⟩) (λid h=>(h1 id h).2.trans (hSK id h)) hin ha (λid h=>(h1 id h).1) hr hsp (λid h=>?_) (λid g1 g2 g3=>?_) (λid ob g1 g2 g3=>?_)
    .unfold iP;rw[AB h]
    .unfold iP;rw[Ap (λh=>by have:=hlt id h;omega),Ap (h2 id ⟨g1,g2,g3⟩).1,(h2 id ⟨g1,g2,g3⟩).2];exact hKn id g1 g2
    .unfold iP at g3
     rw[Ap g1]at g3
     split at g3
     .cases g3
     .exact⟨g3,by assumption⟩
   .simp only at h ⊢
    unfold iP
    by_cases h1:id∈S
    .rw[e_in id h1]at h;rw[AB h1];exact h
    .rw[Ap h1]
     by_cases h2:σ.n<=id/\id<n'
     .rw[e_new id h2.1 h2.2]at h
      rw[Ap (λht=>by have:=(hTn id ht).1;omega),hKn id h2.1 h2.2];exact h
     .rw[e_old id h1 h2]at h
      rw[Ap (λht=>by rw[(hTn id ht).2]at h;cases h)];exact hs.K id o' h
   .simp only at hid ⊢
    unfold iP
    rw[Ap (λh=>by have:=hlt id h;omega),Ap (λht=>by have:=(hTn id ht).1;omega),hsfb id (by omega)]
    simp only
    rw[Ap (by omega)]
  -- a call for new blocks
  have stepN:∀(f:AU) (avs:Ad AV),Cal P o σ.Γ f avs->kind P o.op≠0->HNo P f avs o.dst σ con (λσ' con'=>OW P ops l σ' con' k)->cJ ops o σ.Γ=Aa Ak ->
   ∃fb:Hp,∀s,dF σ con s->(∀id,σ.n<=id->s.K id=fb id)->wX P G ops (λs'=>∃σ' con',k σ' con'/\(∀id,σ'.n<=id->∀b,G.P0 id b)/\Wf σ' con'/\dF σ' con' s') (o::l) s:=by
   intro f avs hcal hkd ⟨ds,r,H',n',hfr,hn,hsp,hk⟩ hw
   have hvl:∀id∈bW σ.H avs,∃ob,σ.H id=Aa ob:=λid h=>sB hfr h
   have hlt:∀id∈bW σ.H avs,id<σ.n:=λid hid=>by
    obtain⟨ob,h1⟩:=hvl id hid;rcases Bc id σ.n with h|h
    .exact h
    .rw[hwf.top _ h]at h1;cases h1
   have e_new:∀id,σ.n<=id->id<n'->hcH (kill (bW σ.H avs) σ.H) σ.n [] H' n' id=H' id:=λid h1 h2=>by unfold hcH;rw[AB (.inr ⟨h1,h2⟩)]
   have e_old:∀id,¬(σ.n<=id/\id<n')->hcH (kill (bW σ.H avs) σ.H) σ.n [] H' n' id=kill (bW σ.H avs) σ.H id:=λid h2=>by unfold hcH;rw[Ap (λh=>h.elim (by simp) h2)]
   have hwf':Wf ⟨bN σ.Γ o.dst r,hcH (kill (bW σ.H avs) σ.H) σ.n [] H' n',n'⟩ (bW σ.H avs++con):=by
    refine⟨λid hid=>?_,λid hid=>?_⟩
    .simp only at hid ⊢;rw[e_old id (by omega),jR (λh=>by have:=hlt id h;omega)];exact hwf.top id (by omega)
    .rcases BR.1 hid with hid|hid
     .have:=hlt id hid;exact⟨by simp only;omega,by simp only;rw[e_old id (by omega)];exact kY hid⟩
     .obtain⟨h1,h2⟩:=hwf.con id hid;refine⟨by simp only;omega,?_⟩;simp only;rw[e_old id (by omega),jR (λh=>by obtain⟨ob,h3⟩:=hvl id h;rw[h2]at h3;cases h3)];exact h2
   obtain⟨fb,hfb⟩:=ih _ _ (λid h=>hn0 id (by simp only at h;omega)) hwf' hk
   refine⟨λid=>if σ.n<=id/\id<n' then H' id else fb id,λs hs hsfb=>?_⟩
   have hKn:∀id,σ.n<=id->id<n'->s.K id=H' id:=λid h1 h2=>by rw[hsfb id h1];exact AB ⟨h1,h2⟩
   have hTn:∀id,s.T id->id<σ.n/\σ.H id=none:=λid h=>hwf.con id ((hs.T id).1 h)
   have hcal':Cal P o s.Γ f avs:=by rw[hs.Γ];exact hcal
   refine⟨_,.yes r (λi=>σ.n<=i/\i<n'/\(H' i).isSome=Ak) (λi=>i∈bW σ.H avs) s.K (by rw[hs.Γ];exact hw)
    (.inr (.inl ⟨hkd,rfl,λid hid ht=>?_,λF w ι T2 a hR hopr id hid=>?_,λT2 hT2=>cFb hcal' hs.K hfr hsp hT2 λid h1 h2 _=>hKn id h1 h2⟩)) ?_ ?_ (λid h=>hn0 id h.1),hfb _ ⟨by rw[hs.Γ],λid=>by rw[BR,<-hs.T];exact or_comm,λid o' h=>?_,λid=>?_⟩ λid hid=>?_⟩
   .obtain⟨ob,h1⟩:=hvl id hid
    rw[(hTn id ht).2]at h1;cases h1
   .obtain⟨vs,_,hl,hV⟩:=hcal' F w ι a hopr
    exact(kS (vs:=vs.toList) hR hs.K hfr (by simpa using hl) (λk c u hc hu=>hV k c u hc (by rw[Bq]at hu;exact hu))).2.2 id hid
   .rintro id ⟨h1,_⟩ hu
    rcases(hs.U id).1 hu with h|h
    .rw[hwf.top _ h1]at h;cases h
    .have:=(hwf.con _ h).1;omega
   .rintro id ⟨h1,_⟩ ht
    have:=(hTn id ht).1;omega
   .simp only at h ⊢
    by_cases h2:σ.n<=id/\id<n'
    .rw[e_new id h2.1 h2.2]at h;rw[hKn id h2.1 h2.2];exact h
    .rw[e_old id h2]at h;exact hs.K id o' (iG h).1
   .simp only[BR]
    rw[hs.U]
    by_cases h2:σ.n<=id/\id<n'
    .rw[e_new id h2.1 h2.2,hwf.top id h2.1]
     simp[h2]
     have:id ∉ bW σ.H avs:=λh=>by have:=hlt id h;omega
     simp[this]
     exact or_comm
    .rw[e_old id h2]
     by_cases h1:id∈bW σ.H avs
     .obtain⟨ob,h3⟩:=hvl id h1
      simp[h1,h3]
     .rw[jR h1]
      constructor
      .rintro((h|h)|⟨h3,h4,_⟩)
       .exact .inl h
       .exact .inr (.inr h)
       .exact(h2 ⟨h3,h4⟩).elim
      .rintro(h|h|h)
       .exact .inl (.inl h)
       .exact(h1 h).elim
       .exact .inl (.inr h)
   .simp only at hid ⊢
    rw[hsfb id (by omega)]
    simp only
    rw[Ap (by omega)]
  have wsub:∀{T2:Ae->Prop} {K2:Hp} {id:Ae} {ho:HO} (j:Ae) (o':HO),j≠id->mV K2 T2 id ho j=Aa o'->K2 j=Aa o'/\¬T2 j:=by
   intro T2 K2 id ho j o' hj h;unfold mV at h;rw[Ap hj]at h;split at h
   .cases h
   .exact⟨h,by assumption⟩
  have one1:∀{K2:Hp} {id:Ae} {old:HO},σ.H id=Aa old->K2 id=Aa old->∀i ob,(if i=id then σ.H id else Aj)=Aa ob->K2 i=Aa ob:=by
   intro K2 id old hold hK2 i ob h;split at h
   .rename_i e;subst e;rw[hold]at h;rw[hK2];exact h
   .cases h
  split at h
  case h_3=>exact h.elim
  case h_2 hw =>
   have hwf':Wf ⟨bN σ.Γ o.dst .un,σ.H,σ.n⟩ con:=⟨hwf.top,hwf.con⟩
   obtain⟨fb,hfb⟩:=ih _ _ (by exact hn0) hwf' h
   exact⟨fb,λs hs hsfb=>⟨_,.no (by rw[hs.Γ];exact hw),hfb _ ⟨by rw[hs.Γ],hs.T,hs.K,hs.U⟩ hsfb⟩⟩
  case h_1 hw =>
  unfold O1 at h;split at h
  .-- load
   rename_i t x hop;split at h
   .rename_i v hv;refine pure0 v [] σ.H rfl (λ_ h=>by cases h) h (λs hs=>.inr (.inl ⟨by rw[hop];simp[kind],rfl,(λ_ h=>by cases h),(λ_ _ _ _ _ _ _ _ h=>by cases h),λT2 _=>?_⟩)) hw;have:(λi=>i∈([]:Ad Ae))=bG:=funext λi=>by simp[bG]
    rw[this];refine xD λF w ι a hR hops=>?_
    obtain⟨u,h1,h2⟩:=vU (P:=P) hR hs.K hv (cD (Γ:=σ.Γ) (a:=a) λt e=>by rw[<-hs.Γ];exact hops t (by rw[hop];simp[AJ,e]));exact⟨u,by simp only[execOp,hop,aB,h1];rfl,h2⟩
   .exact h.elim
  .-- lookup
   rename_i t m x ok hop;split at h
   .rename_i v hv;refine pure0 v [] σ.H rfl (λ_ h=>by cases h) h (λs hs=>.inr (.inl ⟨by rw[hop];simp[kind],rfl,(λ_ h=>by cases h),(λ_ _ _ _ _ _ _ _ h=>by cases h),λT2 _=>?_⟩)) hw;have:(λi=>i∈([]:Ad Ae))=bG:=funext λi=>by simp[bG]
    rw[this];refine xD λF w ι a hR hops=>?_
    obtain⟨u,h1,h2⟩:=bRr (P:=P) hR hs.K hv (cD (Γ:=σ.Γ) (a:=a) λt e=>by rw[<-hs.Γ];exact hops t (by rw[hop];simp[AJ,e])) (cD (Γ:=σ.Γ) (a:=a) λt e=>by rw[<-hs.Γ];exact hops t (by rw[hop];simp[AJ,e]));exact⟨u,by simp only[execOp,hop,aB,h1];rfl,h2⟩
   .exact h.elim
  .-- what an iterator handed out last
   rename_i x hop;split at h
   .rename_i v hv;refine pure0 v [] σ.H rfl (λ_ h=>by cases h) h (λs hs=>.inr (.inl ⟨by rw[hop];simp[kind],rfl,(λ_ h=>by cases h),(λ_ _ _ _ _ _ _ _ h=>by cases h),λT2 _=>?_⟩)) hw;have:(λi=>i∈([]:Ad Ae))=bG:=funext λi=>by simp[bG]
    rw[this];refine xD λF w ι a hR hops=>?_
    obtain⟨u,h1,h2⟩:=cAc (P:=P) hR hs.K hv (cD (Γ:=σ.Γ) (a:=a) λt e=>by rw[<-hs.Γ];exact hops t (by rw[hop];simp[AJ,e]));exact⟨u,by simp only[execOp,hop,aB,h1];rfl,h2⟩
   .exact h.elim
  .-- next
   rename_i x s hop;rw[hop]at hnn;cases hnn.1
  .-- store
   rename_i t ad x hop;split at h
   .rename_i id ho hst;obtain⟨off,old,hadp,hold⟩:=aFr hst;obtain⟨ts,hts,hΓ⟩:=pP (Γ:=σ.Γ) (x:=ad) (id:=id) (h:=.ptr 0 off) (by rw[hadp];rfl);refine write1 .un id ho old ts (by rw[hop];simp[AJ,hts]) hΓ hold (by rw[hop];rfl) h (λT2 K2 hK2 hT2=>?_) hw;refine aUj (H:=λi=>if i=id then σ.H id else Aj) (id:=id) (ho:=ho) hop (one1 hold hK2) ?_ hT2 (by unfold mV;rw[AB rfl]) wsub;unfold lF at hst ⊢;rw[hadp]at hst ⊢;simp only[CN]at hst ⊢;exact hst
   .exact h.elim
  .-- assignment to a map's element
   rename_i t m x v hop;split at h
   .rename_i id ho hst;obtain⟨old,hm,hold,_⟩:=aJh hst;obtain⟨ts,hts,hΓ⟩:=pP (Γ:=σ.Γ) (x:=m) (id:=id) (h:=.mp 0) (by rw[hm];rfl);refine write1 .any id ho old ts (by rw[hop];simp[AJ,hts]) hΓ hold (by rw[hop];rfl) h (λT2 K2 hK2 hT2=>?_) hw;refine aPw (H:=λi=>if i=id then σ.H id else Aj) (v:=Aa v) (id:=id) (ho:=ho) (.inl ⟨v,rfl,.inl hop⟩) (one1 hold hK2) ?_ hT2 (by unfold mV;rw[AB rfl]) wsub;unfold rG at hst ⊢;rw[hm]at hst ⊢;simp only[CN]at hst ⊢;exact hst
   .exact h.elim
  .-- a new element of a map
   rename_i t m x v hop;split at h
   .rename_i id ho hst;obtain⟨old,hm,hold,_⟩:=aJh hst;obtain⟨ts,hts,hΓ⟩:=pP (Γ:=σ.Γ) (x:=m) (id:=id) (h:=.mp 0) (by rw[hm];rfl);refine write1 .any id ho old ts (by rw[hop];simp[AJ,hts]) hΓ hold (by rw[hop];rfl) h (λT2 K2 hK2 hT2=>?_) hw;refine aPw (H:=λi=>if i=id then σ.H id else Aj) (v:=Aa v) (id:=id) (ho:=ho) (.inl ⟨v,rfl,.inr hop⟩) (one1 hold hK2) ?_ hT2 (by unfold mV;rw[AB rfl]) wsub;unfold rG at hst ⊢;rw[hm]at hst ⊢;simp only[CN]at hst ⊢;exact hst
   .exact h.elim
  .-- call
   rename_i f args ts hop;unfold OC at h;rcases h with h|⟨hmut,h⟩|⟨_,h⟩
   rotate_left
   .exact stepH f _ (bLd hop) (by rw[hop];simp[kind,hmut]) h hw
   .exact stepN f _ (bLd hop) (by rw[hop];simp only[kind];split<;>simp) h hw
   unfold OC0 at h;split at h
   .rename_i hmut;have hkd:kind P o.op=2:=by rw[hop];simp[kind,hmut]
    split at h
    case h_2=>exact h.elim
    rename_i x rest hargs;split at h
    case h_2 =>
     rcases h with ⟨hno,ds,r,hf,hs,h⟩|⟨d0,y0,l0,id,hh,ho,ds,ho',hx0,hrest,hy,hold,hfl,hnv,hf,hs,hlen,hfl',h⟩
     rotate_left
     .obtain⟨y,rest',rfl,rfl,rfl⟩:∃y rest',rest=y::rest'/\y0=oev σ.Γ y/\l0=rest'.map (oev σ.Γ):=by
       cases rest with
       |nil=>cases hrest
       |cons y rest'=>simp only[BX,Gz]at hrest;exact⟨y,rest',rfl,hrest.1.symm,hrest.2.symm⟩
      refine stepR (inj (.tp [])) id ho' ho (bW σ.H (rest'.map (oev σ.Γ))) hold (λi hi=>sB hf hi) hkd h (λs hs' i hi F w ι T2 a hR hopr=>?_) (λs hs' T2 K2 hS=>?_) hw
      .rcases BQ.1 hi with rfl|hi
       .obtain⟨b,hb,_⟩:=aNv (F':=F) hy (cD (Γ:=σ.Γ) (a:=a) λt e=>by rw[<-hs'.Γ];exact hopr t (by rw[hop];simp only[AJ,Bs];simp;rw[<-De,hargs];simp[e]))
        exact⟨b,hb⟩
       .refine(mN (Γ:=σ.Γ) (a:=a) hR hs'.K hf λz hz=>cD (Γ:=σ.Γ) (a:=a) λt e=>by rw[<-hs'.Γ];exact hopr t (by rw[hop];simp only[AJ,Bs];simp;rw[<-De,hargs];subst e;simp[hz])).2.2 i hi
      .rw[hs'.Γ]
       have hfr:=rL (H':=λi=>if i∈id::bW σ.H (rest'.map (oev σ.Γ))then σ.H i else Aj) hf λi hi=>AB (AT _ hi)
       have hKH:∀i ob,(if i∈id::bW σ.H (rest'.map (oev σ.Γ))then σ.H i else Aj)=Aa ob->K2 i=Aa ob:=λi ob hob=>by
        split at hob
        .rename_i hi;rw[(hS i hi).2];exact hs'.K _ _ hob
        .cases hob
       refine bNb (H:=λi=>if i∈id::bW σ.H (rest'.map (oev σ.Γ))then σ.H i else Aj) hop hargs hKH hx0 hy (by rw[AB (AX ..)];exact hold) hfl (by rw[hfr.2];exact hnv) (λi hi=>(hS i (AT _ (by rw[<-hfr.2];exact hi))).1) hfr.1 hs hlen hfl' (hS id (AX ..)).1 ?_ (λj o' hj h=>?_)
       .unfold iP;rw[AB (AX ..)];exact AB rfl
       .unfold iP at h
        split at h
        .rename_i hjS
         simp only[Ap hj]at h
         exact⟨hKH j o' (by rw[AB hjS];exact h),(hS j hjS).1⟩
        .split at h
         .cases h
         .exact⟨h,by assumption⟩
     refine stepU (inj r) (bW σ.H (rest.map (oev σ.Γ))) (λi hi=>sB hf hi) hkd h (λs hs' i hi F w ι T2 a hR hopr=>?_) (λs hs' T2 K2 hS=>?_) hw
     .refine(mN (Γ:=σ.Γ) (a:=a) hR hs'.K hf λy hy=>cD (Γ:=σ.Γ) (a:=a) λt e=>by rw[<-hs'.Γ];exact hopr t (by rw[hop];simp only[AJ,Bs];simp;rw[<-De,hargs];subst e;simp[hy])).2.2 i hi
     .rw[hs'.Γ]
      have hfr:=rL (H':=λi=>if i∈bW σ.H (rest.map (oev σ.Γ))then σ.H i else Aj) hf λi hi=>AB hi
      refine aUi (H:=λi=>if i∈bW σ.H (rest.map (oev σ.Γ))then σ.H i else Aj) hop hargs (λi ob hob=>?_) (.inr ⟨rfl,hno,rfl,rfl⟩) hfr.2 (λi hi=>(hS i hi).1) hfr.1 hs (λj o' h=>?_)
      .split at hob
       .rename_i hi
        rw[(hS i hi).2];exact hs'.K _ _ hob
       .cases hob
      unfold iP at h
      split at h
      .cases h
      .split at h
       .cases h
       .exact⟨h,by assumption,by assumption⟩
    rename_i id hh hx;split at h
    case h_2=>exact h.elim
    rename_i ho hold;obtain⟨tt,htt,hΓ⟩:=pP hx;have hop2:CK tt∈o.op.operands:=by rw[hop];simp only[AJ,Bs];simp;rw[<-De,hargs];simp[htt]
    rcases h with ⟨g,rfl,rfl,hks,h⟩|⟨hno,hvis,ds,ho',r,hf,hs,hlen,hno',h⟩|⟨hpos,ν,h0,ro,hs0,ds,ro',hs',r,tx,tid,tlf,tinj,tH,tm,hvis,hfr,hsp,h⟩|⟨hno,hvis,ds,r,hf,hs,h⟩
    .have hmp:oev σ.Γ x=.mp id:=by generalize oev σ.Γ x=av at hx;cases av<;>simp[hd1]at hx;rw[hx]
     have hup:upd σ.H id (Aa ho)=σ.H:=by
      funext i;by_cases hi:i=id
      .subst hi;rw[upd_same,hold]
      .rw[upd_ne _ _ hi]
     refine write1 (.kf g id) id ho ho tt hop2 hΓ hold hkd (by rw[hup];exact h) (λT2 K2 hK2 hT2=>?_) hw;intro F w ι a hok hR hop' hn next hx'
     have hY:=bWm (P:=P) (G:=G) (C:=T2) (K:=K2) hop hargs hmp hks;refine hY F w ι a hok hR hop' hn next λF' w' ι' u hR' hs' hd1' hd2' hv'=>hx' F' w' ι' u ⟨hR'.kept,hR'.F_lt,hR'.F_ok,hR'.place,λi b o' e1 e2=>?_,hR'.inj,λi i' b o1 o2 e1 e2 e3 e4 e5=>?_⟩ hs' hd1' hd2' hv'
     .by_cases hi:i=id
      .subst hi;unfold mV at e2;rw[AB rfl]at e2;exact hR'.obj _ b o' e1 (by rw[hK2];exact e2)
      .exact hR'.obj i b o' e1 (wsub i o' hi e2).1
     .have q:∀(i:Ae) (o1:HO),mV K2 T2 id ho i=Aa o1->K2 i=Aa o1:=λi o1 e=>by
       by_cases hi:i=id
       .subst hi;unfold mV at e;rw[AB rfl]at e;rw[hK2];exact e
       .exact(wsub i o1 hi e).1
      exact hR'.len i i' b o1 o2 e1 e2 e3 (q _ _ e4) (q _ _ e5)
    .have hvis0:∀(c:AV),c∈rest.map (oev σ.Γ)->vis σ.H 8 c=[]:=λc hc=>by unfold bW at hvis;exact List.flatMap_eq_nil_iff.1 hvis c hc
     refine write1 (inj r) id ho' ho tt hop2 hΓ hold hkd h (λT2 K2 hK2 hT2=>?_) hw;intro F w ι a hR;have hfr:cK (λi=>if i=id then σ.H id else Aj) (rest.map (oev σ.Γ))=Aa ds/\bW (λi=>if i=id then σ.H id else Aj) (rest.map (oev σ.Γ))=[]:=aDc hvis hf;exact bNc (H:=λi=>if i=id then σ.H id else Aj) hop hargs (one1 hold hK2) hx (by simp only[CN];exact hold) hno hfr.2 hfr.1 hs hlen hno' hT2 (by unfold mV;rw[AB rfl]) wsub F w ι a hR
    .refine stepG (inj r) ν ro hs0 ro' hs' hpos tinj (λi ob hi=>(tH i ob hi).2) hkd h (λs hs i hi F w ι T2 a hR hopr=>?_) (λs hs hKn T2 K2 hS hN=>?_) hw
     .refine aCq hR (l:=ro::hs0) (k:=hs0.length+1) (λi ob hl=>hs.K _ _ (tH i ob hl).2) ?_ tm i i (AM _) hi;have hv:V F w ι (oev σ.Γ x) (a.eval x):=cD λt e=>by rw[<-hs.Γ];exact hopr t (by rw[hop];simp only[AJ,Bs];simp;rw[<-De,hargs];simp[e])
      rw[tx]at hv;exact aKl tid hv
     .have hmem:∀i ob,(ro::hs0)[i]? = Aa ob->i<hs0.length+1:=λi ob hi=>by have:=(AA.1 hi).1;simpa using this
      have hget:∀i,i<hs0.length+1->∃ob,(ro::hs0)[i]? = Aa ob:=λi hi=>⟨_,Ac (by simpa using hi)⟩
      have hnv:=aDc (H':=λid=>if ∃i,i<hs0.length+1/\ν i=id then σ.H id else Aj) hvis hfr;have hSg:∀i,i<hs0.length+1->K2 (ν i)=s.K (ν i):=λi hi=>(hS (ν i) ⟨i,hi,rfl⟩).2
      rw[hs.Γ];refine bNa (H:=λid=>if ∃i,i<hs0.length+1/\ν i=id then σ.H id else Aj) (K:=K2) (ν:=ν) (n:=σ.n) (h:=h0) (ro:=ro) (hs:=hs0) hop hargs (λid ob hid=>?_) tx tlf tinj (λi ob hi=>⟨(tH i ob hi).1,?_⟩) (λi hi=>(hS (ν i) ⟨i,hi,rfl⟩).1) (λi hi F w ι a hR hopr=>?_) hnv.2 hnv.1 hsp ?_ (λj ob hj=>?_) (λj ob hj hn hg=>?_) ?_
      .split at hid
       .rename_i hx;obtain⟨i,hi,rfl⟩:=hx;rw[hSg i hi];exact hs.K _ _ hid
       .cases hid
      .rw[AB ⟨i,hmem i ob hi,rfl⟩];exact(tH i ob hi).2
      .refine aCq hR (l:=ro::hs0) (k:=hs0.length+1) (λi ob hl=>by rw[hSg i (hmem i ob hl)];exact hs.K _ _ (tH i ob hl).2) ?_ tm i i (AM _) hi;have hv:V F w ι (oev σ.Γ x) (a.eval x):=cD λt e=>hopr t (by rw[hop];simp only[AJ,Bs];simp;rw[<-De,hargs];simp[e])
       rw[tx]at hv;exact aKl tid hv
      .unfold iP;rw[AB ⟨0,by omega,rfl⟩];simp only[CN]
      .have hlt:=(AA.1 hj).1;have hnS:¬∃i,i<hs0.length+1/\ν i=σ.n+j:=λ⟨i,hi,he⟩=>by obtain⟨ob',ho'⟩:=hget i hi;have h1:=(tH i ob' ho').2;rw[he,hwf.top _ (by omega)]at h1;cases h1
       unfold iP;rw[Ap hnS,Ap (hN (σ.n+j) ⟨by omega,by omega⟩).1,(hN (σ.n+j) ⟨by omega,by omega⟩).2];exact hKn j ob hj
      .unfold iP at hg;split at hg
       .simp only[Ap hj]at hg;cases hg
       .rename_i hnS;split at hg
        .cases hg
        .exact⟨hg,by assumption,λi hi he=>hnS ⟨i,hi,he⟩⟩
      .obtain⟨ob',ho'⟩:=hget 0 (by omega);have h1:=(tH 0 ob' ho').2;rcases Bc (ν 0) σ.n with h|h
       .exact h
       .rw[hwf.top _ h]at h1;cases h1
    .refine stepU (inj r) (id::bW σ.H (rest.map (oev σ.Γ))) (λi hi=>?_) hkd h (λs hs' i hi F w ι T2 a hR hopr=>?_) (λs hs' T2 K2 hS=>?_) hw
     .rcases BQ.1 hi with rfl|hi
      .exact⟨_,hold⟩
      .exact sB hf hi
     .rcases BQ.1 hi with rfl|hi
      .obtain⟨b,hb,_⟩:=aNv (F':=F) hx (cD (Γ:=σ.Γ) (a:=a) λt e=>by rw[<-hs'.Γ];exact hopr t (by rw[hop];simp only[AJ,Bs];simp;rw[<-De,hargs];simp[e]));exact⟨b,hb⟩
      .refine(mN (Γ:=σ.Γ) (a:=a) hR hs'.K hf λy hy=>cD (Γ:=σ.Γ) (a:=a) λt e=>by rw[<-hs'.Γ];exact hopr t (by rw[hop];simp only[AJ,Bs];simp;rw[<-De,hargs];subst e;simp[hy])).2.2 i hi
     .rw[hs'.Γ];obtain⟨hT2,hK2⟩:=hS id (AX ..);have hfr:=rL (H':=λi=>if i∈id::bW σ.H (rest.map (oev σ.Γ))then σ.H i else Aj) hf λi hi=>AB (AT _ hi)
      refine aUi (H:=λi=>if i∈id::bW σ.H (rest.map (oev σ.Γ))then σ.H i else Aj) hop hargs (λi ob hob=>?_) (.inl ⟨id,ho,rfl,hx,rfl,by rw[AB (AX ..)];exact hold,hno,hT2,hvis⟩) hfr.2 (λi hi=>(hS i (AT _ hi)).1) hfr.1 hs (λj o' h=>?_)
      .split at hob
       .rename_i hi;rw[(hS i hi).2];exact hs'.K _ _ hob
       .cases hob
      unfold iP at h;split at h
      .cases h
      .split at h
       .cases h
       .exact⟨h,by assumption,by assumption⟩
   .rename_i hmut;have hkd:kind P o.op≠0:=by rw[hop];simp[kind,hmut]
    rcases h with ⟨_,hpos,v,hs0,hsp,h⟩|h
    .refine newk (v σ.n) (hs0 σ.n) hpos h (λs hs hKn=>.inr (.inl ⟨hkd,rfl,(λ_ h=>h.elim),(λ_ _ _ _ _ _ _ _ h=>h.elim),λT2 _=>?_⟩)) hw;rw[hs.Γ];rcases hsp with ⟨ds,hfr,hvis,hsp⟩|⟨hno,hsp⟩
     .exact bNd hop hs.K hfr hvis hsp hpos hKn
     .exact bCh hop hno hsp hpos hKn
    split at h
    .rename_i g id hargs;obtain⟨x,hx,hxe⟩:∃x,args.toList=[x]/\oev σ.Γ x=.kf g id:=by
      cases hl:args.toList with
      |nil=>rw[hl]at hargs;cases hargs
      | cons x l =>
       rw[hl]at hargs;cases l with
       |nil=>simp only[BX,Ee,Gz,and_true]at hargs;exact⟨x,rfl,hargs⟩
       |cons y l=>simp at hargs
     split at h
     .rename_i es hH;obtain⟨hn,hrr,hss,h⟩:=h;refine pure0 _ [] σ.H rfl (λ_ h=>by cases h) h (λs hs=>.inr (.inl ⟨hkd,rfl,(λ_ h=>by cases h),(λ_ _ _ _ _ _ _ _ h=>by cases h),λT2 _=>?_⟩)) hw;have:(λi=>i∈([]:Ad Ae))=bG:=funext λi=>by simp[bG]
      rw[this];exact bCg (Γ:=s.Γ) hop hx hs.K (by rw[hs.Γ];exact hxe) hH hn hrr hss
     .exact h.elim
    .obtain⟨ds,r,hfr,hsp,h⟩:=h;refine pure0 (inj r) (bM σ.H (args.toList.map (oev σ.Γ)) r) _ rfl (λid hid=>by obtain⟨o',ho'⟩:=gZ hid;rw[ho'];rfl) h (λs hs=>.inr (.inl ⟨hkd,rfl,λid hid ht=>?_,λF w ι T2 a hR hops id hid=>?_,λT2 hT2=>?_⟩)) hw
     .obtain⟨o',ho'⟩:=gZ hid;have:=(hwf.con id ((hs.T id).1 ht)).2;rw[this]at ho';cases ho'
     .refine bBq (Γ:=σ.Γ) (a:=a) (r:=r) hR hs.K hfr (λx hx=>cD λt e=>?_) id hid;rw[<-hs.Γ];exact hops t (by rw[hop];subst e;simp[AJ,Bs];simpa using hx)
     .have:=bCj (P:=P) (G:=G) (Γ:=s.Γ) (C:=T2) (K:=s.K) (H:=σ.H) (o:=o) (r:=r) hop hs.K (by rw[hs.Γ];exact hfr) hsp (by rw[hs.Γ];exact hT2);rw[hs.Γ]at this ⊢;exact this
  .-- call of a function value
   rename_i t args ts hop;rcases h with h|⟨f,avs,hcal,_,h⟩
   rotate_left
   .exact stepH f avs (aWi (x:=.tmp t) hop hcal) (by rw[hop];rfl) h hw
   split at h
   .rename_i f cs hcal;obtain⟨ds,r,hfr,hsp,h⟩:=h;have hkd:kind P o.op≠0:=by rw[hop];simp[kind]
    refine pure0 (inj r) (bM σ.H (args.toList.map (oev σ.Γ)++cs) r) _ rfl (λid hid=>by obtain⟨o',ho'⟩:=gZ hid;rw[ho'];rfl) h (λs hs=>.inr (.inl ⟨hkd,rfl,λid hid ht=>?_,λF w ι T2 a hR hops id hid=>?_,λT2 hT2=>?_⟩)) hw
    .obtain⟨o',ho'⟩:=gZ hid;have:=(hwf.con id ((hs.T id).1 ht)).2;rw[this]at ho';cases ho'
    .refine aTp (x:=.tmp t) (Γ:=σ.Γ) (a:=a) (r:=r) hR hs.K hcal hfr (cD λt' e=>?_) (λx hx=>cD λt' e=>?_) id hid
     .rw[<-hs.Γ];injection e with e;subst e;exact hops t (by rw[hop];simp[AJ,Bs])
     .rw[<-hs.Γ];exact hops t' (by rw[hop];subst e;simp[AJ,Bs];right;simpa using hx)
    .have:=bNe (x:=.tmp t) (P:=P) (G:=G) (Γ:=s.Γ) (C:=T2) (K:=s.K) (H:=σ.H) (o:=o) (r:=r) (f:=f) (cs:=cs) hop hs.K (by rw[hs.Γ];exact hcal) (by rw[hs.Γ];exact hfr) hsp (by rw[hs.Γ];exact hT2);rw[hs.Γ]at this ⊢;exact this
   .split at h
    .rename_i f d hcal;obtain⟨ds,r,hfr,hsp,h⟩:=h;have hkd:kind P o.op≠0:=by rw[hop];simp[kind]
     refine pure0 (inj r) (bM σ.H (.d d::args.toList.map (oev σ.Γ)) r) _ rfl (λid hid=>by obtain⟨o',ho'⟩:=gZ hid;rw[ho'];rfl) h (λs hs=>.inr (.inl ⟨hkd,rfl,λid hid ht=>?_,λF w ι T2 a hR hops id hid=>?_,λT2 hT2=>?_⟩)) hw
     .obtain⟨o',ho'⟩:=gZ hid;have:=(hwf.con id ((hs.T id).1 ht)).2;rw[this]at ho';cases ho'
     .refine aTq (x:=.tmp t) (f:=f) (d:=d) (Γ:=σ.Γ) (a:=a) (r:=r) hR hs.K hcal hfr (cD λt' e=>?_) (λx hx=>cD λt' e=>?_) id hid
      .rw[<-hs.Γ];injection e with e;subst e;exact hops t (by rw[hop];simp[AJ,Bs])
      .rw[<-hs.Γ];exact hops t' (by rw[hop];subst e;simp[AJ,Bs];right;simpa using hx)
     .have:=bNf (x:=.tmp t) (P:=P) (G:=G) (Γ:=s.Γ) (C:=T2) (K:=s.K) (H:=σ.H) (o:=o) (r:=r) (f:=f) (d:=d) hop hs.K (by rw[hs.Γ];exact hcal) (by rw[hs.Γ];exact hfr) hsp (by rw[hs.Γ];exact hT2);rw[hs.Γ]at this ⊢;exact this
    .exact h.elim
  .-- call of a method
   rename_i t name args ts hop;split at h
   .rename_i ty d hcal;split at h
    .rename_i f hme;obtain⟨ds,r,hfr,hsp,h⟩:=h;have hkd:kind P o.op≠0:=by rw[hop];simp[kind]
     refine pure0 (inj r) (bM σ.H (.d d::args.toList.map (oev σ.Γ)) r) _ rfl (λid hid=>by obtain⟨o',ho'⟩:=gZ hid;rw[ho'];rfl) h (λs hs=>.inr (.inl ⟨hkd,rfl,λid hid ht=>?_,λF w ι T2 a hR hops id hid=>?_,λT2 hT2=>?_⟩)) hw
     .obtain⟨o',ho'⟩:=gZ hid;have:=(hwf.con id ((hs.T id).1 ht)).2;rw[this]at ho';cases ho'
     .refine bIl (x:=.tmp t) (ty:=ty) (d:=d) (Γ:=σ.Γ) (a:=a) (r:=r) hR hs.K hcal hfr (cD λt' e=>?_) (λx hx=>cD λt' e=>?_) id hid
      .rw[<-hs.Γ];injection e with e;subst e;exact hops t (by rw[hop];simp[AJ,Bs])
      .rw[<-hs.Γ];exact hops t' (by rw[hop];subst e;simp[AJ,Bs];right;simpa using hx)
     .have:=bCi (x:=.tmp t) (P:=P) (G:=G) (Γ:=s.Γ) (C:=T2) (K:=s.K) (H:=σ.H) (o:=o) (r:=r) (f:=f) (ty:=ty) (d:=d) hop hs.K (by rw[hs.Γ];exact hcal) hme (by rw[hs.Γ];exact hfr) hsp (by rw[hs.Γ];exact hT2);rw[hs.Γ]at this ⊢;exact this
    .exact h.elim
   .exact h.elim
  .-- append
   rename_i args ts hop;split at h
   .rename_i s x t t' hargs hts;obtain⟨rfl,h⟩:=h;split at h
    .rename_i av nb cn happ;have hop':o.op=.call { callee:=.builtin .append,args:=#[s,x],argTypes:=#[t,t] }:=by rw[hop];cases args;cases ts;simp only at hargs hts;subst hargs;subst hts;rfl
     have hcs:∀id∈cn,(σ.H id).isSome=true:=λid hid=>by obtain⟨⟨o',ho'⟩,_⟩:=aPf happ id hid;rw[ho'];rfl
     have hlive:∀s':AS,dF σ con s'->∀F w ι T2 (a:Act),HR G F w ι T2 s'.K->(∀t,CK t∈o.op.operands->V F w ι (s'.Γ t) (a.tmps.getD t undef))->∀id,id∈cn->∃b,ι id=Aa b:=by
      intro s' hs F w ι T2 a hR hops id hid;obtain⟨_,off,len,sz,hse⟩:=aPf happ id hid;have:=cD (Γ:=σ.Γ) (a:=a) (x:=s) (F:=F) (w:=w) (ι:=ι) λt e=>by rw[<-hs.Γ];exact hops t (by rw[hop'];simp[AJ,Bs,e])
      rw[hse]at this;generalize a.eval s=v at this;cases this with|own _ _ _ _ b cap cur e hι=>exact⟨b,hι⟩
     have hnT:∀s':AS,dF σ con s'->∀id,id∈cn->¬s'.T id:=λs' hs id hid ht=>by have h1:=hcs id hid;rw[(hwf.con id ((hs.T id).1 ht)).2]at h1;cases h1
     cases nb with
     | none =>
      refine pure0 av cn _ rfl hcs h (λs' hs=>.inr (.inl ⟨by rw[hop];simp[kind],rfl,hnT s' hs,hlive s' hs,λT2 hT2=>?_⟩)) hw;have:=aKt (P:=P) (G:=G) (Γ:=s'.Γ) (C:=T2) (K:=s'.K) (H:=σ.H) (n:=σ.n) (o:=o) hop' hs.K (by rw[hs.Γ];exact happ) (λob h=>by cases h) hT2;have e1:(λi:Ae=>(Aj:Aq HO).isSome=Ak/\i=σ.n)=bG:=funext λi=>by simp[bG]
      rw[e1]at this;exact this
     | some ho =>
      refine new1 av cn ho hcs h (λs' hs hKn=>.inr (.inl ⟨by rw[hop];simp[kind],rfl,hnT s' hs,hlive s' hs,λT2 hT2=>?_⟩)) hw;have:=aKt (P:=P) (G:=G) (Γ:=s'.Γ) (C:=T2) (K:=s'.K) (H:=σ.H) (n:=σ.n) (o:=o) hop' hs.K (by rw[hs.Γ];exact happ) (λob h=>by injection h with h;subst h;exact hKn) hT2;have e1:(λi:Ae=>(Aa ho).isSome=Ak/\i=σ.n)=(·=σ.n):=funext λi=>by simp
      rw[e1]at this;exact this
    .exact h.elim
   .exact h.elim
  .-- delete
   rename_i args ts hop;split at h
   .rename_i m x t kt hargs hts;split at h
    .rename_i id ho hst;have hop':o.op=.call { callee:=.builtin .delete,args:=#[m,x],argTypes:=#[t,kt] }:=by rw[hop];cases args;cases ts;simp only at hargs hts;subst hargs;subst hts;rfl
     obtain⟨old,hm,hold,_⟩:=aJh hst;obtain⟨tt,htt,hΓ⟩:=pP (Γ:=σ.Γ) (x:=m) (id:=id) (h:=.mp 0) (by rw[hm];rfl);refine write1 .any id ho old tt (by rw[hop'];simp[AJ,Bs,htt]) hΓ hold (by rw[hop];rfl) h (λT2 K2 hK2 hT2=>?_) hw;refine aPw (H:=λi=>if i=id then σ.H id else Aj) (v:=Aj) (id:=id) (ho:=ho) (.inr ⟨rfl,kt,hop'⟩) (one1 hold hK2) ?_ hT2 (by unfold mV;rw[AB rfl]) wsub;unfold rG at hst ⊢;rw[hm]at hst ⊢;simp only[CN]at hst ⊢;exact hst
    .exact h.elim
   .exact h.elim
  .-- copy
   rename_i args ts hop;split at h
   .rename_i m x t kt hargs hts;split at h
    .rename_i id ho n hst;have hop':o.op=.call { callee:=.builtin .copy,args:=#[m,x],argTypes:=#[t,kt] }:=by rw[hop];cases args;cases ts;simp only at hargs hts;subst hargs;subst hts;rfl
     obtain⟨off,len,sz,old,hm,hold,_⟩:=bUf hst;obtain⟨tt,htt,hΓ⟩:=pP (Γ:=σ.Γ) (x:=m) (id:=id) (h:=.own 0 off len sz) (by rw[hm];rfl);refine write1 (.d (.i .i64 n)) id ho old tt (by rw[hop'];simp[AJ,Bs,htt]) hΓ hold (by rw[hop];rfl) h (λT2 K2 hK2 hT2=>?_) hw;refine bWn (H:=λi=>if i=id then σ.H id else Aj) (id:=id) (ho:=ho) hop' (one1 hold hK2) ?_ hT2 (by unfold mV;rw[AB rfl]) wsub;unfold aTe at hst ⊢;rw[hm]at hst ⊢;simp only[CN]at hst ⊢;exact hst
    .exact h.elim
   .exact h.elim
  .-- how long something is
   rename_i args ts hop;split at h
   .rename_i hlm;split at h
    .rename_i m hargs;split at h
     .rename_i n hn;obtain⟨ts⟩:=ts;obtain⟨args⟩:=args;simp only at hargs;subst hargs;unfold aSd at hlm;simp only at hlm;split at hlm
      case h_2=>cases hlm
      rename_i t;simp only[A5]at hlm;refine pure0 (.d (.i .i64 n)) [] σ.H rfl (λ_ h=>by cases h) h (λs hs=>.inr (.inl ⟨by rw[hop];simp[kind,aNm,hlm.1,hlm.2],rfl,(λ_ h=>by cases h),(λ_ _ _ _ _ _ _ _ h=>by cases h),λT2 _=>?_⟩)) hw;have:(λi=>i∈([]:Ad Ae))=bG:=funext λi=>by simp[bG]
      rw[this];refine xD λF w ι a hR hops=>?_
      have hv:V F w ι (oev σ.Γ m) (a.eval m):=cD (Γ:=σ.Γ) (a:=a) λt e=>by rw[<-hs.Γ];exact hops t (by rw[hop];simp[AJ,Bs,e])
      have h1:=bRi (P:=P) (t:=t) (ty:=o.type) hR hs.K hlm.2 hn hv;exact⟨_,by simp[execOp,hop,resolve,invoke,builtin,h1],.d _ _ (.i _ _)⟩
     .exact h.elim
    .exact h.elim
   .obtain⟨hk0,h⟩:=h;have hk:kind P o.op=0:=by rw[hop];exact hk0
    split at h
    .rename_i av nb hnev;have e0:(λi=>i∈([]:Ad Ae))=bG:=funext λi=>by simp[bG]
     cases nb with
     | none =>
      refine pure0 av [] σ.H rfl (λ_ h=>by cases h) h (λs hs=>?_) hw;rw[e0];exact .inl ⟨hk,rfl,rfl,λT2 K2 _=>aCk (n:=σ.n) (by rw[hs.Γ,hop];exact hnev)⟩
     | some ho =>
      refine new1 av [] ho (λ_ h=>by cases h) h (λs hs hKn=>?_) hw;rw[e0];exact .inl ⟨hk,rfl,rfl,λT2 K2 hK2=>xR (n:=σ.n) (ho:=ho) (by rw[hs.Γ,hop];exact hnev) (by rw[hK2 _ rfl];exact hKn)⟩
    .exact h.elim
  .-- values alone
   obtain⟨hk,h⟩:=h;split at h
   .rename_i av nb hnev;have e0:(λi=>i∈([]:Ad Ae))=bG:=funext λi=>by simp[bG]
    cases nb with
    | none =>
     refine pure0 av [] σ.H rfl (λ_ h=>by cases h) h (λs hs=>?_) hw;rw[e0];exact .inl ⟨hk,rfl,rfl,λT2 K2 _=>aCk (n:=σ.n) (by rw[hs.Γ];exact hnev)⟩
    | some ho =>
     refine new1 av [] ho (λ_ h=>by cases h) h (λs hs hKn=>?_) hw;rw[e0];exact .inl ⟨hk,rfl,rfl,λT2 K2 hK2=>xR (n:=σ.n) (ho:=ho) (by rw[hs.Γ];exact hnev) (by rw[hK2 _ rfl];exact hKn)⟩
   .exact h.elim
end
def aIj(l:Ad Ae):AV->AV
 |.ptr id off=>if id∈l then .any else .ptr id off
 |.d x=>.d x
 |.fp cs=>.fp cs
 |_=>.any
def eM(l:Ad Ae):AV->AV
 |.fn f cs=>.fn f (cs.map (aIj l))
 |.own id off len sz=>if id∈l then .any else .own id off len sz
 |.ptr id off=>if id∈l then .any else .ptr id off
 |.mp id=>if id∈l then .any else .mp id
 |.kf f id=>if id∈l then .any else .kf f id
 |.bm f id off=>if id∈l then .any else .bm f id off
 |.ag _=>.any
 |.tp _=>.any
 |x=>x
def aBs(l:Ad Ae):AV->AV
 |.ag cs=>.ag (cs.map (eM l))
 |x=>eM l x
def kB(l:Ad Ae):AV->AV
 |.tp vs=>.tp (vs.map (aBs l))
 |x=>aBs l x
def gT(l:Ad Ae):HO->HO
 |.cells e cs=>.cells e (cs.map (eM l))
 |.map k es=>.map k (es.map λp=>(p.1,aBs l p.2))
 |.iter k l' es=>.iter k l' es
def fin(σ:St)(con:Ad Ae):St:=match con with
 |[]=>σ
 |l=>⟨λt=>kB l (σ.Γ t),λid=>(σ.H id).map (gT l),σ.n⟩
class nA where
 p:Ae->Prop
instance pins0 : nA := ⟨λid => id = 0⟩
def cEn[Pn:nA](G:Ctx):Prop:=∀id,¬Pn.p id->∀b,G.P0 id b
def SR[Pn:nA](G:Ctx)(N:Ae)(ds:Ad Cl)(σ:St)(a:Act)(w:Ag):Prop :=
 (∀id,σ.n<=id->σ.H id=Aj)/\((∀id,σ.n<=id->∀b,G.P0 id b)/\cEn G)/\OkV w /\
 ∃F ι,HR G F w ι bG σ.H/\(∀id,(∃b,ι id=Aa b)↔(σ.H id).isSome=Ak)/\(∀t,V F w ι (σ.Γ t) (a.tmps.getD t undef))/\(a.tmps.size=N/\∀t v,G.Z t=Aa v->a.tmps.getD t undef=v)/\a.defers=ds/\∀id b,ι id=Aa b->G.P0 id b
section
variable {F:Ae->Prop} {w:Ag} {ι:Ae->Aq Ae} {l:Ad Ae}
def mask(ι:Ae->Aq Ae)(l:Ad Ae):Ae->Aq Ae:=λid=>if id∈l then Aj else ι id
def cT{id b:Ae}(h:mask ι l id=Aa b):ι id=Aa b/\id ∉ l:=by
 unfold mask at h;split at h
 .cases h
 .exact⟨h,by assumption⟩
def bMk{x:AV}{v:AE}(h:V F w ι x v):V F w (mask ι l) (aIj l x) v:=by
 cases h with
 |d x v h=>exact .d _ _ h
 | ptr id off b hι =>
  simp only[aIj];split
  .exact .any _
  .exact .ptr _ _ _ (by unfold mask;rw[Ap ‹_›];exact hι)
 |fp cs ad f hF hcell hel=>exact .fp _ _ f hF hcell hel
 |_=>exact .any _
def aEf{x:AV}{v:AE}(h:V F w ι x v):V F w (mask ι l) (eM l x) v:=by
 cases h with
 |d x v h=>exact .d _ _ h
 |nil=>exact .nil
 | own id off len sz b cap cur e hι hb hcap hl hm =>
  simp only[eM];split
  .exact .any _
  .exact .own _ _ _ _ b _ _ _ (by unfold mask;rw[Ap ‹_›];exact hι) hb hcap hl hm
 | ptr id off b hι =>
  simp only[eM];split
  .exact .any _
  .exact .ptr _ _ _ (by unfold mask;rw[Ap ‹_›];exact hι)
 | mp id b hι =>
  simp only[eM];split
  .exact .any _
  .exact .mp _ _ (by unfold mask;rw[Ap ‹_›];exact hι)
 |ub t=>exact .ub t
 | kf f id b p e hι hF hp =>
  simp only[eM];split
  .exact .any _
  .exact .kf f _ b p e (by unfold mask;rw[Ap ‹_›];exact hι) hF hp
 | bm f id off b hι =>
  simp only[eM];split
  .exact .any _
  .exact .bm f _ _ b (by unfold mask;rw[Ap ‹_›];exact hι)
 |fp cs ad f hF hcell hel=>exact .fp _ _ f hF hcell hel
 |fd els ad n h=>exact .fd _ _ _ h
 |ag cs vs hl h=>exact .any _
 |tp cs vs hl h=>exact .any _
 |un=>exact .un
 | fn g cs vs hl hh =>
  refine .fn _ _ _ (by simpa using hl) λk c u hc hu=>?_
  rw[Ao]at hc;obtain⟨d,hd,rfl⟩:=Ai.1 hc;exact bMk (hh k d u hd hu)
 |any v=>exact .any _
def aEe{x:AV}{v:AE}(h:V F w ι x v):V F w (mask ι l) (aBs l x) v:=by
 have h0:=aEf (l:=l) h;cases h with
 | ag cs vs hl hh =>
  refine .ag _ _ (by simpa using hl) λk c u hc hu=>?_
  rw[Ao]at hc;obtain⟨d,hd,rfl⟩:=Ai.1 hc;exact aEf (hh k d u hd hu)
 |_=>exact h0
def aKk{x:AV}{v:AE}(h:V F w ι x v):V F w (mask ι l) (kB l x) v:=by
 have h1:=aEe (l:=l) h;cases h with
 | tp cs vs hl hh =>
  refine .tp _ _ (by simpa using hl) λk c u hc hu=>?_
  rw[Ao]at hc;obtain⟨d,hd,rfl⟩:=Ai.1 hc;exact aEe (hh k d u hd hu)
 |_=>exact h1
def aEq{o:HO}{ob:Obj}(h:CR F w ι o ob):CR F w (mask ι l) (gT l o) ob:=by
 cases h with
 | cells e cs cur hl hh =>
  refine .cells _ _ _ (by simpa using hl) λk c hk=>?_
  rw[Ao]at hk;obtain⟨d,hd,rfl⟩:=Ai.1 hk;obtain⟨u,hu,hv⟩:=hh k d hd;exact⟨u,hu,aEf hv⟩
 | map k es ents clock hl hst hh =>
  refine .map _ _ _ _ (by simpa using hl) hst λk x hk=>?_
  rw[Ao]at hk;obtain⟨d,hd,rfl⟩:=Ai.1 hk;obtain⟨en,h1,h2,h3⟩:=hh k d hd;exact⟨en,h1,h2,aEe h3⟩
 |iter k last es bm since c0 clock seen ents hF hb hold hsc hnd hl h hla=>exact .iter k last es bm since c0 clock seen ents hF hb hold hsc hnd hl h hla
def aBr(o:HO):(gT l o).len=o.len:=by cases o<;>simp[gT,HO.len]
variable {G:Ctx} {N:Ae} {ds:Ad Cl}
def yP[Pn:nA]{σ:St}{con:Ad Ae}{s:AS}{a:Act}(hG:cEn G)(hn0:∀id,σ.n<=id->∀b,G.P0 id b)(hwf:Wf σ con)(hag:dF σ con s)(hr:kP G N ds s a w):SR G N ds (fin σ con) a w:=by
 obtain⟨hok,F,ι,hR,hdom,hV,hN,hds,hp⟩:=hr;rw[hag.Γ]at hV;cases con with
 | nil =>
  refine⟨hwf.top,⟨hn0,hG⟩,hok,F,ι,?_,λid=>by rw[hdom,hag.U];simp[fin],hV,hN,hds,hp⟩;have hT:s.T=bG:=funext λi=>propext (by simp[hag.T,bG])
  rw[hT]at hR;exact⟨hR.kept,hR.F_lt,hR.F_ok,hR.place,λid b o h1 h2=>hR.obj id b o h1 (hag.K _ _ h2),hR.inj,λid id' b o o' h1 h2 h3 h4 h5=>hR.len id id' b o o' h1 h2 h3 (hag.K _ _ h4) (hag.K _ _ h5)⟩
 | cons c con =>
  have hl:fin σ (c::con)=⟨λt=>kB (c::con) (σ.Γ t),λid=>(σ.H id).map (gT (c::con)),σ.n⟩:=rfl;rw[hl];have hT:∀id,id ∉ c::con->¬s.T id:=λid h ht=>h ((hag.T id).1 ht)
  refine⟨λid h=>by simp[hwf.top id h],⟨hn0,hG⟩,hok,F,mask ι (c::con),⟨hR.kept,hR.F_lt,hR.F_ok,λid b h=>?_,λid b o h1 h2=>?_,λid id' b h h' _ _=>?_,λid id' b o o' h h' _ h3 h4=>?_⟩,λid=>?_,λt=>aKk (hV t),hN,hds,λid b hb=>hp id b (cT hb).1⟩
  .obtain⟨h1,h2⟩:=cT h;obtain⟨p1,p2,p3⟩:=hR.place id b h1;exact⟨p1,p2,λ_=>p3 (hT id h2)⟩
  .obtain⟨q1,_⟩:=cT h1;obtain⟨o1,ho1,rfl⟩:=Ai.1 h2;obtain⟨ob,e1,e2⟩:=hR.obj id b o1 q1 (hag.K _ _ ho1);exact⟨ob,e1,aEq e2⟩
  .obtain⟨q1,q2⟩:=cT h;obtain⟨q1',q2'⟩:=cT h';exact hR.inj id id' b q1 q1' (hT id q2) (hT id' q2')
  .obtain⟨q1,q2⟩:=cT h;obtain⟨q1',q2'⟩:=cT h';obtain⟨o1,ho1,rfl⟩:=Ai.1 h3;obtain⟨o2,ho2,rfl⟩:=Ai.1 h4;rw[aBr,aBr];exact hR.len id id' b o1 o2 q1 q1' (hT id q2) (hag.K _ _ ho1) (hag.K _ _ ho2)
  .constructor
   .rintro⟨b,h⟩;obtain⟨q1,q2⟩:=cT h;rcases(hag.U id).1 ((hdom id).1 ⟨b,q1⟩)with h|h
    .simpa using h
    .exact absurd h q2
   .intro h;simp only[Option.isSome_map]at h;obtain⟨b,hb⟩:=(hdom id).2 ((hag.U id).2 (.inl h));refine⟨b,?_⟩;unfold mask;rw[Ap λhc=>by have:=(hwf.con id hc).2;rw[this]at h;cases h];exact hb
def oS[Pn:nA]{σ:St}{a:Act}(h:SR G N ds σ a w):(∀id,σ.n<=id->∀b,G.P0 id b)/\Wf σ []/\∀K:Hp,(∀id o,σ.H id=Aa o->K id=Aa o) ->
 dF σ [] ⟨σ.Γ,bG,K,λid=>(σ.H id).isSome=Ak⟩/\kP G N ds ⟨σ.Γ,bG,K,λid=>(σ.H id).isSome=Ak⟩ a w:=by
 obtain⟨htop,⟨hn0,_⟩,hok,F,ι,hR,hdom,hV,hN,hds,hp⟩:=h
 refine⟨hn0,⟨htop,λ_ h=>by cases h⟩,λK hK=>⟨⟨rfl,λid=>by simp[bG],hK,λid=>by simp⟩,hok,F,ι,?_,hdom,hV,hN,hds,hp⟩⟩
 have live:∀id b,ι id=Aa b->∃o,σ.H id=Aa o:=λid b h=>Dj.1 ((hdom id).1 ⟨b,h⟩)
 refine⟨hR.kept,hR.F_lt,hR.F_ok,hR.place,λid b o h1 h2=>?_,hR.inj,λid id' b o o' h1 h2 h3 h4 h5=>?_⟩
 .obtain⟨o1,ho1⟩:=live id b h1
  simp only at h2
  rw[hK _ _ ho1]at h2;injection h2 with h2;subst h2
  exact hR.obj id b o1 h1 ho1
 .obtain⟨o1,ho1⟩:=live id b h1
  obtain⟨o2,ho2⟩:=live id' b h2
  simp only at h4 h5
  rw[hK _ _ ho1]at h4;injection h4 with h4;subst h4
  rw[hK _ _ ho2]at h5;injection h5 with h5;subst h5
  exact hR.len id id' b o1 o2 h1 h2 h3 ho1 ho2
end
section
variable {G:Ctx} {N:Ae} {ds:Ad Cl}
def aIv{P:As}[M:Mch P]{ops:Aw Bf}{k:St->Ad Ae->Prop}{Q':Cf->Act->Ag->Prop}(hQ:∀σ con s a w,k σ con->(∀id,σ.n<=id->∀b,G.P0 id b)->Wf σ con->dF σ con s->kP G N ds s a w->Q' .normal a w) :
 ∀(l:Ad Bf) (σ:St) (con:Ad Ae) (s:AS) (a:Act) (w:Ag),(∀o∈l,∀d,o.dst=Aa d->d<N/\G.Z d=Aj)->(∀id,σ.n<=id->∀b,G.P0 id b)->Wf σ con->dF σ con s->kP G N ds s a w->OW P ops l σ con k->gP P ops Q' l a w
 |[],σ,con,s,a,w,_,hn0,hwf,hag,hr,h=>hQ σ con s a w h hn0 hwf hag hr
 | o::l,σ,con,s,a,w,hd,hn0,hwf,hag,hr,h=>by
  have ih:=λσ' con' s' a' w' (h1:(∀id,σ'.n<=id->∀b,G.P0 id b)) h2 h3 h4 h5=>aIv (P:=P) (ops:=ops) hQ l σ' con' s' a' w' (λo ho=>hd o (AT _ ho)) h1 h2 h3 h4 h5
  unfold gP;cases hx:bIj o.op with
  | true =>
   unfold OW at h;split at h
   case h_3=>exact h.elim
   .rename_i hw;obtain⟨hok,F,ι,hR,hdom,hV,hN,hds,hp⟩:=id hr;rw[hag.Γ]at hV;rw[AB (lV hw hV)];cases hop:o.op with
    |next x b=>unfold O1 at h;rw[hop]at h;exact h.elim
    |_=>rw[hop]at hx;cases hx
   .rename_i hw;obtain⟨hok,F,ι,hR,hdom,hV,hN,hds,hp⟩:=id hr;have hV':=hV;rw[hag.Γ]at hV';rw[Ap (by rw[lV hw hV'];simp)];have hr':kP G N ds ⟨bN s.Γ o.dst .un,s.T,s.K,s.U⟩ (a.put o.dst undef) w:=by
     have hlt:∀d,o.dst=Aa d->d<a.tmps.size:=λd h=>by rw[hN.1];exact(hd o (AX ..) d h).1
     refine⟨hok,F,ι,hR,hdom,wZ hV .un λt=>fZ a o.dst undef hlt t,⟨by cases o.dst<;>simp[Cv,hN.1],λt v hz=>?_⟩,by cases o.dst<;>simp[Cv,hds],hp⟩;rw[fZ a o.dst undef hlt t,Ap (λe=>by rw[(hd o (AX ..) t e).2]at hz;cases hz)];exact hN.2 t v hz
    exact ih ⟨bN σ.Γ o.dst .un,σ.H,σ.n⟩ con ⟨bN s.Γ o.dst .un,s.T,s.K,s.U⟩ _ _ hn0 ⟨hwf.top,hwf.con⟩ ⟨by rw[hag.Γ],hag.T,hag.K,hag.U⟩ hr' h
  | false =>
   have h':OW P ops [o] σ con λσ' con'=>OW P ops l σ' con' k:=h
   obtain⟨fb,hfb⟩:=rW (G:=G) (k:=λσ' con'=>OW P ops l σ' con' k) [o] σ con (by simp[gW,hx]) hn0 hwf h'
   -- blocks that are not made yet may be named as it suits
   have hU:∀id,s.U id->id<σ.n:=λid h=>by
    rcases(hag.U id).1 h with h|h
    .rcases Bc id σ.n with h'|h'
     .exact h'
     .rw[hwf.top id h']at h;cases h
    .exact(hwf.con id h).1
   have hag':dF σ con ⟨s.Γ,s.T,λi=>if i<σ.n then s.K i else fb i,s.U⟩:=⟨hag.Γ,hag.T,λid o' h=>by
    simp only;rw[AB]
    .exact hag.K id o' h
    .exact hU id ((hag.U id).2 (.inl (by rw[h];rfl))),hag.U⟩
   have hr':kP G N ds ⟨s.Γ,s.T,λi=>if i<σ.n then s.K i else fb i,s.U⟩ a w:=by
    obtain⟨hok,F,ι,hR,hdom,hV,hN,hds,hp⟩:=id hr;have hlt:∀id b,ι id=Aa b->id<σ.n:=λid b h=>hU id ((hdom id).1 ⟨b,h⟩)
    refine⟨hok,F,ι,⟨hR.kept,hR.F_lt,hR.F_ok,hR.place,λid b o' h1 h2=>?_,hR.inj,λid id' b o1 o2 h1 h2 h3 h4 h5=>?_⟩,hdom,hV,hN,hds,hp⟩
    .simp only at h2;rw[AB (hlt id b h1)]at h2;exact hR.obj id b o' h1 h2
    .simp only at h4 h5;rw[AB (hlt id b h1)]at h4;rw[AB (hlt id' b h2)]at h5;exact hR.len id id' b o1 o2 h1 h2 h3 h4 h5
   obtain⟨s',hdo,σ',con',hk,hn',hwf',hag2⟩:=hfb _ hag' (λi hi=>by simp only;rw[Ap (by omega)]);exact pU (K:=gP P ops Q' l) hdo (hd o (AX ..)) hr' λa' w' hr2=>ih σ' con' s' a' w' hn' hwf' hag2 hr2 hk
end
def vC[Pn:nA]{P:As}[M:Mch P]{rd:Bw}{WW:B1->(Cf->Act->Ag->Prop)->Act->Ag->Prop}(hW:WpR P rd WW){G:Ctx}{id N:Ae}{ds:Ad Cl}{ops:Aw Bf}{draw:Bw}{Q:St->Prop}{Q':Cf->Act->Ag->Prop}{σ:St}{a:Act}{w:Ag}(hm:P.follows .mixedOrders=Ak)
 (hdst:∀(i:Ae) (o:Bf) (d:Tmp),ops[i]? = Aa o->o.dst=Aa d->d<N/\G.Z d=Aj) (hnd:rd=Ak->qN ops=Ak) (hB:draw=Ak->aWc P ops=Ak) (hsr:SR G N ds σ a w)
 (h:OW P ops ops.toList σ [] λσ' con=>Q (fin σ' con)) (hQ:∀σ a w,Q σ->SR G N ds σ a w->Q' .normal a w):WW (.region id ops draw) Q' a w:=by
 cases draw
 .refine hW.regL hnd ?_
  obtain⟨hn0,hwf,hag⟩:=oS hsr
  obtain⟨h1,h2⟩:=hag σ.H λ_ _ h=>h
  refine aIv (k:=λσ' con=>Q (fin σ' con)) (λσ' con' s a w hq hn' hwf' hag' hr=>hQ _ a w hq (yP hsr.2.1.2 hn' hwf' hag' hr)) ops.toList σ [] _ a w (λo ho d hd=>?_) hn0 hwf h1 h2 h
  obtain⟨i,hi,he⟩:=BE.1 ho
  exact hdst i o d (by rw[<-he];simp at hi ⊢) hd
 obtain⟨hn0,hwf,hag⟩:=oS hsr
 obtain⟨fb,hfb⟩:=rW (G:=G) ops.toList σ [] (Gu.1 (hB rfl)).1 hn0 hwf h
 obtain⟨h1,h2⟩:=hag (λi=>if i<σ.n then σ.H i else fb i) (λi o hi=>by
  rcases Bc i σ.n with hlt|hge
  .rw[AB hlt];exact hi
  .rw[hwf.top i hge]at hi;cases hi)
 have h3:=hfb _ h1 (λi hi=>by simp only;rw[Ap (by omega)])
 have hQ2:∀(s:AS) (a:Act) (w:Ag),(∃σ' con',Q (fin σ' con')/\(∀id,σ'.n<=id->∀b,G.P0 id b)/\Wf σ' con'/\dF σ' con' s)->kP G N ds s a w->Q' .normal a w:=by rintro s a w ⟨σ',con',hq,hn',hwf',hag'⟩ hr;exact hQ _ a w hq (yP hsr.2.1.2 hn' hwf' hag' hr)
 exact aMb hW hm hnd (hB rfl) hdst h2 h3 hQ2
def bVb(H:Hp)(H':Hp)(ρ:Ae->Ae):AV->AV->Prop
 |_,.any=>True
 |x,.d y=>frz H 8 x=Aa y/\∀a∈vis H 8 x,∀id,(H' id).isSome=Ak->ρ id≠a
 |x,.fp b=>frz H 8 x=Aa (.pt b)/\∀a∈vis H 8 x,∀id,(H' id).isSome=Ak->ρ id≠a
 |.ptr a o,.ptr b o'=>a=ρ b/\o=o'/\(H' b).isSome=Ak
 |_,_=>False
def oA(H:Hp)(H':Hp)(ρ:Ae->Ae):AV->AV->Prop
 |_,.any=>True
 |.fn f cs,.fn g ds=>f=g/\cs.length=ds.length/\∀(k:Ae) c d,cs[k]? = Aa c->ds[k]? = Aa d->bVb H H' ρ c d
 |x,.d y=>frz H 8 x=Aa y/\∀a∈vis H 8 x,∀id,(H' id).isSome=Ak->ρ id≠a
 |.nil,.nil=>True
 |.un,.un=>True
 |.ub,.ub=>True
 |.kf f a,.kf g b=>f=g/\a=ρ b/\(H' b).isSome=Ak
 |.bm f a o,.bm g b o'=>f=g/\a=ρ b/\o=o'/\(H' b).isSome=Ak
 |.fd a,.fd b=>a=b
 |x,.fp b=>frz H 8 x=Aa (.pt b)/\∀a∈vis H 8 x,∀id,(H' id).isSome=Ak->ρ id≠a
 |.own a o l s,.own b o' l' s'=>a=ρ b/\o=o'/\l=l'/\s=s'/\(H' b).isSome=Ak
 |.ptr a o,.ptr b o'=>a=ρ b/\o=o'/\(H' b).isSome=Ak
 |.mp a,.mp b=>a=ρ b/\(H' b).isSome=Ak
 |_,_=>False
def Sub(H:Hp)(H':Hp)(ρ:Ae->Ae):AV->AV->Prop
 |.ag cs,.ag ds=>cs.length=ds.length/\∀(k:Ae) c d,cs[k]? = Aa c->ds[k]? = Aa d->oA H H' ρ c d
 |x,y=>oA H H' ρ x y
def mZ(H:Hp)(H':Hp)(ρ:Ae->Ae):HO->HO->Prop
 |.cells e cs,.cells e' ds=>e=e'/\cs.length=ds.length/\∀(k:Ae) c d,cs[k]? = Aa c->ds[k]? = Aa d->oA H H' ρ c d
 |.map k es,.map k' fs=>k=k'/\es.length=fs.length/\∀(k:Ae) x y,es[k]? = Aa x->fs[k]? = Aa y->x.1=y.1/\(oA H H' ρ x.2 y.2\/Sub H H' ρ x.2 y.2)
 |.iter k l es,.iter k' l' fs=>k=k'/\l=l'/\es=fs
 |_,_=>False
structure Wk[Pn:nA](σ σ':St)(ρ:Ae->Ae):Prop where
 top:∀id,σ'.n<=id->σ'.H id=Aj
 slot:∀t,Sub σ.H σ'.H ρ (σ.Γ t) (σ'.Γ t)
 blk:∀id o',σ'.H id=Aa o'->∃o,σ.H (ρ id)=Aa o/\mZ σ.H σ'.H ρ o o'
 inj:∀id id',(σ'.H id).isSome=Ak->(σ'.H id').isSome=Ak->ρ id=ρ id'->id=id'
 pin:∀id,Pn.p id->(σ'.H id).isSome=Ak->ρ id=id
 n0:∀id,Pn.p id->σ'.n<=id->σ.n<=id
section
variable [Pn:nA] {G:Ctx} {N:Ae} {ds:Ad Cl}
def xB{σ σ':St}{ρ:Ae->Ae}{a:Act}{w:Ag}(hk:Wk σ σ' ρ)(h:SR G N ds σ a w):SR G N ds σ' a w:=by
 obtain⟨htop,⟨hn0,hG⟩,hok,F,ι,hR,hdom,hV,hN,hds,hp⟩:=h;let F':Ae->Prop:=λb=>F b\/∃i,ι i=Aa b/\∀id,(σ'.H id).isSome=Ak->ρ id≠i
 let ι':Ae->Aq Ae:=λid=>if(σ'.H id).isSome=Ak then ι (ρ id)else Aj
 have ι'_some:∀id b,ι' id=Aa b->(σ'.H id).isSome=Ak/\ι (ρ id)=Aa b:=by
  intro id b h;simp only[ι']at h;split at h
  .exact⟨by assumption,h⟩
  .cases h
 have hFF:∀b,F b->F' b:=λb h=>.inl h
 have ptF:∀(x:AV) (b:Ad D) (v:AE),(frz σ.H 8 x=Aa (.pt b)/\∀a∈vis σ.H 8 x,∀id,(σ'.H id).isSome=Ak->ρ id≠a)->V F w ι x v->V F' w ι' (.fp b) v:=by
  intro x b v hs hv;obtain⟨h1,h2⟩:=hs;have h3:VD F' w (.pt b) v:=(wC hR (λ_ _ h=>h) 8 x v _ h1 hv).1.mono (by
   rintro b (hb|⟨i,hi,hb⟩)
   .exact .inl hb
   .exact .inr ⟨i,hb,λid hid=>h2 i hi id hid⟩)
  cases h3 with|pt _ ad f hF hcell hel=>exact .fp _ _ f hF hcell hel
 have subP:∀x y v,bVb σ.H σ'.H ρ x y->V F w ι x v->V F' w ι' y v:=by
  intro x y v hs hv;cases y with
  |any=>exact .any _
  | d y =>
   have hs':frz σ.H 8 x=Aa y/\∀a∈vis σ.H 8 x,∀id,(σ'.H id).isSome=Ak->ρ id≠a:=by cases x<;>exact hs
   obtain⟨h1,h2⟩:=hs';refine .d _ _ ((wC hR (λ_ _ h=>h) 8 x v y h1 hv).1.mono ?_);rintro b (hb|⟨i,hi,hb⟩)
   .exact .inl hb
   .exact .inr ⟨i,hb,λid hid=>h2 i hi id hid⟩
  | fp b =>
   have hs':frz σ.H 8 x=Aa (.pt b)/\∀a∈vis σ.H 8 x,∀id,(σ'.H id).isSome=Ak->ρ id≠a:=by cases x<;>exact hs
   exact ptF x b v hs' hv
  |ptr b o=>cases x<;>first|exact hs.elim|(simp only[bVb]at hs;obtain⟨rfl,rfl,hsm⟩:=hs;cases hv with|ptr _ _ bb hι=>exact .ptr _ _ bb (by simp only[ι'];rw[AB hsm];exact hι))
  |_=>cases x<;>exact hs.elim
 have subL:∀x y v,oA σ.H σ'.H ρ x y->V F w ι x v->V F' w ι' y v:=by
  intro x y v hs hv;cases y with
  |any=>exact .any _
  | d y =>
   have hs':frz σ.H 8 x=Aa y/\∀a∈vis σ.H 8 x,∀id,(σ'.H id).isSome=Ak->ρ id≠a:=by cases x<;>exact hs
   obtain⟨h1,h2⟩:=hs';refine .d _ _ ((wC hR (λ_ _ h=>h) 8 x v y h1 hv).1.mono ?_);rintro b (hb|⟨i,hi,hb⟩)
   .exact .inl hb
   .exact .inr ⟨i,hb,λid hid=>h2 i hi id hid⟩
  |nil=>cases x<;>first|exact hs.elim|(cases hv;exact .nil)
  |un=>cases x<;>first|exact hs.elim|(cases hv;exact .un)
  |ub=>cases x<;>first|exact hs.elim|(cases hv;exact .ub _)
  |bm g b o=>cases x<;>first|exact hs.elim|(simp only[oA]at hs;obtain⟨rfl,rfl,rfl,hsm⟩:=hs;cases hv with|bm _ _ _ bb hι=>exact .bm _ _ _ bb (by simp only[ι'];rw[AB hsm];exact hι))
  |kf g b=>cases x<;>first|exact hs.elim|(simp only[oA]at hs;obtain⟨rfl,rfl,hsm⟩:=hs;cases hv with|kf _ _ bb p e hι hF hpp=>exact .kf _ _ bb p e (by simp only[ι'];rw[AB hsm];exact hι) (hFF _ hF) hpp)
  |fd b=>cases x<;>first|exact hs.elim|(simp only[oA]at hs;subst hs;cases hv with|fd _ ad n h=>exact .fd _ _ _ (h.mono hFF))
  | fp b =>
   have hs':frz σ.H 8 x=Aa (.pt b)/\∀a∈vis σ.H 8 x,∀id,(σ'.H id).isSome=Ak->ρ id≠a:=by cases x<;>exact hs
   exact ptF x b v hs' hv
  | fn g ds =>
   cases x<;>first|exact hs.elim|(simp only[oA]at hs;obtain⟨rfl,hl,hs⟩:=hs;cases hv with|fn _ _ vs hvl hh=>exact .fn _ _ _ (by omega) λk d u hd hu=>(have hk:k<_:=(AA.1 hd).1;subP _ _ _ (hs k _ d (Ac (by omega)) hd) (hh k _ u (Ac (by omega)) hu)))
  | own b o l s =>
   cases x<;>first|exact hs.elim|(simp only[oA]at hs;obtain⟨rfl,rfl,rfl,rfl,hsm⟩:=hs;cases hv with|own _ _ _ _ bb cap cur e hι hb hcap hl hm=>exact .own _ _ _ _ bb cap cur e (by simp only[ι'];rw[AB hsm];exact hι) hb hcap hl hm)
  |ptr b o=>cases x<;>first|exact hs.elim|(simp only[oA]at hs;obtain⟨rfl,rfl,hsm⟩:=hs;cases hv with|ptr _ _ bb hι=>exact .ptr _ _ bb (by simp only[ι'];rw[AB hsm];exact hι))
  |mp b=>cases x<;>first|exact hs.elim|(simp only[oA]at hs;obtain⟨rfl,hsm⟩:=hs;cases hv with|mp _ bb hι=>exact .mp _ bb (by simp only[ι'];rw[AB hsm];exact hι))
  |ag _=>cases x<;>exact hs.elim
  |tp _=>cases x<;>exact hs.elim
 have sub:∀x y v,Sub σ.H σ'.H ρ x y->V F w ι x v->V F' w ι' y v:=by
  intro x y v hs hv;by_cases hag:∃cs ds,x=.ag cs/\y=.ag ds
  .obtain⟨cs,ds,rfl,rfl⟩:=hag;obtain⟨hl,hs⟩:=hs;cases hv with|ag _ vs hvl hh =>
   refine .ag _ _ (by omega) λk d u hd hu=>?_
   have hk:k<cs.length:=by rw[hl];exact(AA.1 hd).1
   exact subL _ _ _ (hs k _ d (Ac hk) hd) (hh k _ u (Ac hk) hu)
  .refine subL x y v ?_ hv;cases x<;>cases y<;>first|exact hs|exact absurd ⟨_,_,rfl,rfl⟩ hag
 have cr:∀o o' ob,mZ σ.H σ'.H ρ o o'->CR F w ι o ob->CR F' w ι' o' ob:=by
  intro o o' ob hs hc;cases hc with
  | cells e cs cur hl hh =>
   cases o' with
   |map _ _=>exact hs.elim
   |iter _ _ _=>exact hs.elim
   | cells e' ds =>
    obtain⟨rfl,hl',hs⟩:=hs;refine .cells _ _ _ (by omega) λk d hd=>?_
    have hk:k<cs.length:=by rw[hl'];exact(AA.1 hd).1
    obtain⟨u,hu,hv⟩:=hh k _ (Ac hk);exact⟨u,hu,subL _ _ _ (hs k _ d (Ac hk) hd) hv⟩
  | map kd es ents clock hl hst hh =>
   cases o' with
   |cells _ _=>exact hs.elim
   |iter _ _ _=>exact hs.elim
   | map kd' fs =>
    obtain⟨rfl,hl',hs⟩:=hs;refine .map _ _ _ _ (by omega) hst λk y hy=>?_
    have hk:k<es.length:=by rw[hl'];exact(AA.1 hy).1
    obtain⟨en,h1,h2,h3⟩:=hh k _ (Ac hk);obtain⟨e1,e2⟩:=hs k _ y (Ac hk) hy;exact⟨en,h1,by rw[<-e1];exact h2,e2.elim (λe2=>subL _ _ _ e2 h3) λe2=>sub _ _ _ e2 h3⟩
  | iter kd last es bm since c0 clock seen ents hF hb hold hsc hnd hl h hla =>
   cases o' with
   |cells _ _=>exact hs.elim
   |map _ _=>exact hs.elim
   | iter kd' last' fs =>
    obtain⟨rfl,rfl,rfl⟩:=hs;exact .iter _ _ _ bm since c0 clock seen ents (hFF _ hF) hb hold hsc hnd hl (λj x hj=>let ⟨en,h1,h2,h3⟩:=h j x hj;⟨en,h1,h2,h3.mono hFF⟩) λx hx=>let ⟨e1,en,sn,e2,e3,e4,e5⟩:=hla x hx;⟨e1,en,sn,e2,e3,e4,e5.mono hFF⟩
 have subO_len:∀o o',mZ σ.H σ'.H ρ o o'->o'.len=o.len:=by intro o o' hs;cases o<;>cases o'<;>first|exact hs.elim|(simp only[HO.len];exact hs.2.1.symm)|rfl
 refine⟨hk.top,⟨λid h=>(Classical.em (Pn.p id)).elim (λhpi=>hn0 id (hk.n0 id hpi h)) (λhpi=>hG id hpi),hG⟩,hok,F',ι',⟨hR.kept,?_,?_,?_,?_,?_,?_⟩,λid=>⟨?_,?_⟩,λt=>sub _ _ _ (hk.slot t) (hV t),hN,hds,λid b hb=>?_⟩
 rotate_right
 .by_cases hpi:Pn.p id
  .obtain⟨h1,h2⟩:=ι'_some id b hb;rw[hk.pin id hpi h1]at h2;exact hp id b h2
  .exact hG id hpi b
 .rintro b (h|⟨i,h,_⟩)
  .exact hR.F_lt b h
  .exact hR.ι_lt h
 .rintro b (h|⟨i,h,_⟩)
  .exact hR.F_ok b h
  .exact .inr (hR.place i b h).1
 .intro id b h;obtain⟨h1,h2⟩:=ι'_some id b h;obtain⟨p1,p2,p3⟩:=hR.place _ b h2;refine⟨p1,p2,λ_ hF=>?_⟩;rcases hF with hF|⟨i,hi,hne⟩
  .exact p3 (λx=>x) hF
  .exact hne id h1 (hR.inj _ _ b h2 hi (λx=>x) (λx=>x))
 .intro id b o' h ho';obtain⟨h1,h2⟩:=ι'_some id b h;obtain⟨o,ho,hs⟩:=hk.blk id o' ho';obtain⟨ob,e1,e2⟩:=hR.obj _ b o h2 ho;exact⟨ob,e1,cr o o' ob hs e2⟩
 .intro id id' b h h' _ _;obtain⟨h1,h2⟩:=ι'_some id b h;obtain⟨h1',h2'⟩:=ι'_some id' b h';exact hk.inj id id' h1 h1' (hR.inj _ _ b h2 h2' (λx=>x) (λx=>x))
 .intro id id' b o o' h h' _ ho ho';obtain⟨h1,h2⟩:=ι'_some id b h;obtain⟨h1',h2'⟩:=ι'_some id' b h';obtain⟨p,hp,hs⟩:=hk.blk id o ho;obtain⟨p',hp',hs'⟩:=hk.blk id' o' ho';rw[subO_len _ _ hs,subO_len _ _ hs'];exact hR.len _ _ b p p' h2 h2' (λx=>x) hp hp'
 .rintro⟨b,h⟩;exact(ι'_some id b h).1
 .intro h;obtain⟨o',ho'⟩:=Dj.1 h;obtain⟨o,ho,_⟩:=hk.blk id o' ho';obtain⟨b,hb⟩:=(hdom (ρ id)).2 (by rw[ho];rfl);exact⟨b,by simp only[ι'];rw[AB h];exact hb⟩
end
end Go.Am
