/- The abstract machine, part 15: states between regions; what may be forgotten. No condition. -/
import Derived.Test.YtgjjndadkmodpaaGreatC1
import Derived.Scope
import Derived.Defers
import Derived.RangeFuncNested
import Derived.RangeFuncCalls
import Derived.RangeFuncLeaves
import Derived.OrdersIn
set_option linter.all false
open Array renaming all_eq_true_iff_forall_mem->BZ,append_empty->Dz,empty_append->C9,eraseIdxIfInBounds->Gm,getD_eq_getD_getElem?->Bj,getElem?_eq_getElem->AD,getElem?_eq_none->B6,getElem?_eq_some_iff->BV,getElem?_map->E7,getElem?_modify->Dx,getElem?_push->Dq,getElem?_toList->Bn,getElem_toList->FB,length_toList->BS,mem_toList_iff->Dd,replicate->BI
open Bool renaming and_eq_true->AO,not_eq_true'->Co,or_eq_true->CG
open Go.Act renaming put->Eg
open Go.Call renaming operands->Bp
open Go.Deferred renaming ofValue->Da
open Go.Fence renaming wide->DJ
open Go.Instr renaming lookup->FW
open Go.MapKept renaming IsKey->Fw,Stamped->Ez,heap_set->Fp,run_checkKey->FC,run_findKey->FR,run_getObj_map->CX,run_setObj_map->Er
open Go.Op renaming operands->AN
open Go.Oper renaming upon_enter->Ds,upon_value->D6,wp->DY
open Go.Operand renaming tmp->CI
open Go.Region renaming binds->Es,ready->BU,wanted->EC
open Go.Result renaming andThen_ok->AX
open Go.Sem renaming run_bind->A3,run_pure->Bz
open List renaming all_eq_true->Ay,filter_cons->CH,flatMap_cons->Cz,getElem?_append_left->AJ,getElem?_append_right->Az,getElem?_drop->Bt,getElem?_eq_getElem->Ab,getElem?_eq_some_iff->Ah,getElem?_map->Aw,getElem?_take->Bb,getElem?_toArray->Cf,length_append->Ak,length_drop->Bl,length_eraseIdx->EM,length_map->AL,length_take->Ax,mapM_cons->Ca,map_cons->AZ,map_nil->DC,mem_append->A5,mem_cons->AG,mem_cons_of_mem->Au,mem_cons_self->Av,mem_flatMap->Bc,mem_iff_getElem->BM,mem_map->AA,mem_of_getElem?->Aq,mem_range->C4,nodup_cons->DK,range->CS
open Nat renaming add_assoc->Ed,add_comm->CB,add_mul->By,eq_zero_or_pos->Cb,le_refl->Ap,lt_or_ge->Bf,zero_add->A6
open Option renaming bind_eq_bind->CY,bind_eq_some_iff->Ae,bind_some->Ej,getD_some->Bd,isSome_iff_exists->B9,map_eq_some_iff->Aj,map_some->A4,pure_def->DI
open Option.some renaming injEq->AU
open _root_ renaming beq_iff_eq->CK,if_neg->Ac,if_pos->Ad,if_true->B1,of_decide_eq_true->BH,or_false->EB
section
open List renaming map_map->B,mapM_map->E
namespace Go.Am
open RowKit (Below)
def chunk(sz len:Nat)(l:List D):List (List D):=(CS len).map λi=>(l.drop (i*sz)).take sz
def frz(H:Hp):Nat->AV->Option D
 |0,_=>none
 |n+1,x=>match x with
  |.d x=>some x
  |.nil=>some (.sl [])
  |.fd els=>some (.sl els)
  |.own id off len sz=>match H id with
   |some (.cells _ cs)=>if(off+len)*sz<=cs.length/\0<sz then(((cs.drop (off*sz)).take (len*sz)).mapM (frz H n)).map λl=>.sl (chunk sz len l)else none
   |_=>none
  |.fp cs=>some (.pt cs)
  |.ptr id off=>match H id with
   |some (.cells _ cs)=>if off<=cs.length then((cs.drop off).mapM (frz H n)).map .pt else none
   |_=>none
  |.fn f cs=>(cs.mapM (frz H n)).map (.fn f)
  |.ag cs=>(cs.mapM (frz H n)).map .ag
  |.tp cs=>(cs.mapM (frz H n)).map .tp
  |.mp id=>match H id with
   |some (.map k es)=>((es.map (·.2)).mapM (frz H n)).map (.mp k (es.map (·.1)))
   |_=>none
  |_=>none
def fW(H:Hp)(l:List AV):Option (List D):=l.mapM (frz H 8)
def jT{α β:Type}(f:α->Option β):∀(l:List α) (r:List β),l.mapM f=some r->r.length=l.length/\∀(k:Nat) d,r[k]? = some d->∃c,l[k]? = some c/\f c=some d
 |[],r,h=>by simp at h;subst h;exact⟨rfl,λk d h=>by simp at h⟩
 |x::l,r,h=>by
  simp only[Ca,CY,Ae,DI,AU]at h;obtain⟨y,hy,r',hr',rfl⟩:=h;obtain⟨h1,h2⟩:=jT f l r' hr';refine⟨by simp[h1],λk d hk=>?_⟩;rcases k with _|k
  ·simp at hk;subst hk;exact⟨x,rfl,hy⟩
  ·exact h2 k d (by simpa using hk)
def vis(H:Hp):Nat->AV->List Nat
 |0,_=>[]
 |n+1,x=>match x with
  |.own id off len sz=>match H id with
   |some (.cells _ cs)=>id::((cs.drop (off*sz)).take (len*sz)).flatMap (vis H n)
   |_=>[]
  |.ptr id off=>match H id with
   |some (.cells _ cs)=>id::(cs.drop off).flatMap (vis H n)
   |_=>[]
  |.fn _ cs=>cs.flatMap (vis H n)
  |.ag cs=>cs.flatMap (vis H n)
  |.tp cs=>cs.flatMap (vis H n)
  |.mp id=>match H id with
   |some (.map _ es)=>id::(es.map (·.2)).flatMap (vis H n)
   |_=>[]
  |_=>[]
def fK(H:Hp)(l:List AV):List Nat:=l.flatMap (vis H 8)
def reach(F:Nat->Prop)(ι:Nat->Option Nat)(l:List Nat):Nat->Prop:=λb=>F b\/∃id∈l,ι id=some b
section
variable {P:Program} {F:Nat->Prop} {w:World} {ι:Nat->Option Nat} {G:Ctx} {C:Nat->Prop} {H K:Hp}
def mZ{l l':List Nat}(h:∀id∈l,id∈l'):∀b,reach F ι l b->reach F ι l' b:=by
 rintro b (hb|⟨id,hi,hb⟩)
 ·exact .inl hb
 ·exact .inr ⟨id,h id hi,hb⟩
def zI(hR:HR G F w ι C K)(hHK:∀id o,H id=some o->K id=some o):∀(n:Nat) (x:AV) (v:Value) (d:D),frz H n x=some d->V F w ι x v ->
  VD (reach F ι (vis H n x)) w d v/\∀id∈vis H n x,∃b,ι id=some b
 |0,x,v,d,h,_=>by simp[frz]at h
 |n+1,x,v,d,h,hv=>by
  have ih:=zI hR hHK n;unfold frz at h;have cellsV:∀(cs:List AV) (l:List D) (vs:Array Value),cs.length=vs.size->cs.mapM (frz H n)=some l->(∀(k:Nat) c u,cs[k]? = some c->vs[k]? = some u->V F w ι c u) ->
    (∀(k:Nat) d u,l[k]? = some d->vs[k]? = some u->VD (reach F ι (cs.flatMap (vis H n))) w d u)/\∀id∈cs.flatMap (vis H n),∃b,ι id=some b:=by
   intro cs l vs hlen hm hv
   obtain⟨h1,h2⟩:=jT _ _ _ hm
   refine⟨λk d u hk hu=>?_,λid hid=>?_⟩
   ·obtain⟨c,hc,hd⟩:=h2 k d hk
    exact(ih c u d hd (hv k c u hc hu)).1.mono (mZ λid hid=>Bc.2 ⟨c,Aq hc,hid⟩)
   ·obtain⟨c,hc,hid⟩:=Bc.1 hid
    obtain⟨k,hk,rfl⟩:=BM.1 hc
    have hk':k<vs.size:=by omega
    have hk2:k<l.length:=by omega
    obtain⟨c',hc',hd⟩:=h2 k _ (Ab hk2)
    rw[Ab hk]at hc';injection hc' with hc';subst hc'
    exact(ih _ _ _ hd (hv k _ _ (Ab hk) (AD hk'))).2 id hid
  split at h
  ·injection h with h;subst h
   cases hv with|d _ _ hh=>exact⟨hh.mono λb hb=>.inl hb,λid hid=>by simp[vis]at hid⟩
  ·injection h with h;subst h
   cases hv;exact⟨.sl0 _ _,λid hid=>by simp[vis]at hid⟩
  ·injection h with h;subst h
   obtain⟨ad,rfl,hh⟩:=rV hv;exact⟨hh.mono λb hb=>.inl hb,λid hid=>by simp[vis]at hid⟩
  ·rename_i id off len sz;split at h
   ·rename_i e cs hH;split at h
    ·rename_i hfit;obtain⟨hfit,hpos⟩:=hfit;obtain⟨l,hl,rfl⟩:=Aj.1 h;cases hv with|own _ _ _ _ b cap cur0 e0 hι hb0 hcap hlc hm =>
     obtain⟨cur,hb,hcl,hcc⟩:=hR.cells hHK hι hH;obtain⟨hll,hlg⟩:=jT _ _ _ hl;have hfit':off*sz+len*sz<=cs.length:=by rw[<-By];exact hfit
     have hlen:l.length=len*sz:=by rw[hll];simp;omega
     have hvis:vis H (n+1) (.own id off len sz)=id::((cs.drop (off*sz)).take (len*sz)).flatMap (vis H n):=by simp[vis,hH]
     rw[hvis];refine⟨.sl _ _ _ _ sz (λj=>cur.getD (off*sz+j) undef) (by simp[chunk]) hlc ?_ (.inr ⟨id,by simp,hι⟩) (λj hj=>?_) (λj k ds d hj hk=>?_),λi hi=>?_⟩
     ·intro ds hds;simp only[chunk,AA,C4]at hds;obtain⟨i,hi,rfl⟩:=hds;rw[Ax,Bl,hlen];have:(i+1)*sz<=len*sz:=Nat.mul_le_mul_right _ hi;rw[By,Nat.one_mul]at this;omega
     ·rw[oJ,cell_of_row w b _ cur e (0,0) hb,AD (by omega)];simp[show off*sz+j<cur.size by omega]
     ·have hjl:j<len:=by have:=(Ah.1 hj).1;simpa[chunk]using this
      simp only[chunk,Aw,List.getElem?_range hjl,A4,AU]at hj;subst hj;rw[Bb]at hk;split at hk
      ·rename_i hks;rw[Bt]at hk;obtain⟨c,hc,hd⟩:=hlg _ _ hk;have hmem:=Aq hc;rw[Bb]at hc;split at hc
       ·rw[Bt]at hc;obtain⟨u,hu,hvv⟩:=hcc _ _ hc;have hlt:=(BV.1 hu).1;rw[AD hlt]at hu;injection hu with hu
        have:=(ih c u d hd hvv).1.mono (mZ (F:=F) (ι:=ι) (l':=id::((cs.drop (off*sz)).take (len*sz)).flatMap (vis H n)) λi hi=>Au _ (Bc.2 ⟨c,hmem,hi⟩));rw[<-hu]at this;simpa[hlt]using this
       ·cases hc
      ·cases hk
     ·rcases AG.1 hi with rfl|hi
      ·exact⟨b,hι⟩
      ·obtain⟨c,hc,hid⟩:=Bc.1 hi;obtain⟨k,hk,hck⟩:=BM.1 hc;have hk2:k<l.length:=by rw[hll];exact hk
       obtain⟨c',hc',hd⟩:=hlg k _ (Ab hk2);have hce:c'=c:=by rw[Ab hk]at hc';injection hc' with hc';rw[<-hc',hck]
       subst hce;rw[Bb]at hc';split at hc'
       ·rw[Bt]at hc';obtain⟨u,hu,hvv⟩:=hcc _ _ hc';exact(ih _ _ _ hd hvv).2 i hid
       ·cases hc'
    ·cases h
   ·cases h
  ·injection h with h;subst h
   cases hv with|fp cs ad f hF hcell hel=>exact⟨.pt _ _ f (.inl hF) hcell λk c hk=>(hel k c hk).mono λb hb=>.inl hb,λid hid=>by simp[vis]at hid⟩
  ·rename_i id off;split at h
   ·rename_i e cs hH;split at h
    ·rename_i hfit;obtain⟨l,hl,rfl⟩:=Aj.1 h;cases hv with|ptr _ _ b hι =>
     obtain⟨cur,hb,hcl,hcc⟩:=hR.cells hHK hι hH;obtain⟨hll,hlg⟩:=jT _ _ _ hl;have hlen:l.length=cs.length-off:=by rw[hll];simp
     have hvis:vis H (n+1) (.ptr id off)=id::(cs.drop off).flatMap (vis H n):=by simp[vis,hH]
     rw[hvis];refine⟨.pt _ _ (λj=>cur.getD (off+j) undef) (.inr ⟨id,by simp,hι⟩) (λj hj=>?_) (λk d hk=>?_),λi hi=>?_⟩
     ·rw[oJ,cell_of_row w b _ cur e (0,0) hb,AD (by omega)];simp[show off+j<cur.size by omega]
     ·obtain⟨c,hc,hd⟩:=hlg _ _ hk;have hmem:=Aq hc;rw[Bt]at hc;obtain⟨u,hu,hvv⟩:=hcc _ _ hc;have hlt:=(BV.1 hu).1;rw[AD hlt]at hu;injection hu with hu
      have:=(ih c u d hd hvv).1.mono (mZ (F:=F) (ι:=ι) (l':=id::(cs.drop off).flatMap (vis H n)) λi hi=>Au _ (Bc.2 ⟨c,hmem,hi⟩));rw[<-hu]at this;simpa[hlt]using this
     ·rcases AG.1 hi with rfl|hi
      ·exact⟨b,hι⟩
      ·obtain⟨c,hc,hid⟩:=Bc.1 hi;obtain⟨k,hk,hck⟩:=BM.1 hc;have hk2:k<l.length:=by rw[hll];exact hk
       obtain⟨c',hc',hd⟩:=hlg k _ (Ab hk2);have hce:c'=c:=by rw[Ab hk]at hc';injection hc' with hc';rw[<-hc',hck]
       subst hce;rw[Bt]at hc';obtain⟨u,hu,hvv⟩:=hcc _ _ hc';exact(ih _ _ _ hd hvv).2 i hid
    ·cases h
   ·cases h
  ·obtain⟨l,hl,rfl⟩:=Aj.1 h;cases hv with|fn _ _ vs hvl hh =>
   obtain⟨q1,q2⟩:=cellsV _ l vs hvl hl hh;exact⟨.fn _ _ _ (by rw[(jT _ _ _ hl).1];exact hvl) q1,q2⟩
  ·obtain⟨l,hl,rfl⟩:=Aj.1 h;cases hv with|ag _ vs hvl hh =>
   obtain⟨q1,q2⟩:=cellsV _ l vs hvl hl hh;exact⟨.ag _ _ (by rw[(jT _ _ _ hl).1];exact hvl) q1,q2⟩
  ·obtain⟨l,hl,rfl⟩:=Aj.1 h;cases hv with|tp _ vs hvl hh =>
   obtain⟨q1,q2⟩:=cellsV _ l vs hvl hl hh;exact⟨.tp _ _ (by rw[(jT _ _ _ hl).1];exact hvl) q1,q2⟩
  ·rename_i id;split at h
   ·rename_i k es hH;obtain⟨l,hl,rfl⟩:=Aj.1 h;cases hv with|mp _ b hι =>
    obtain⟨ob,hb,hcr⟩:=hR.obj id b _ hι (hHK _ _ hH);cases hcr with|map _ _ ents clock hel hst hes =>
    obtain⟨hll,hlg⟩:=jT _ _ _ hl;rw[AL]at hll;have hvis:vis H (n+1) (.mp id)=id::(es.map (·.2)).flatMap (vis H n):=by simp[vis,hH]
    rw[hvis];refine⟨.mp k _ l b ents clock (.inr ⟨id,by simp,hι⟩) hb hst (by simpa using hel) (by omega) (λj m hj=>?_) (λj d en hj hen=>?_),λi hi=>?_⟩
    ·rw[Aw]at hj;obtain⟨x,hx,rfl⟩:=Aj.1 hj;obtain⟨en,h1,h2,_⟩:=hes j x hx;exact⟨en,h1,h2⟩
    ·obtain⟨c,hc,hd⟩:=hlg j d hj;have hmem:=Aq hc;rw[Aw]at hc;obtain⟨x,hx,rfl⟩:=Aj.1 hc;obtain⟨en',h1,_,h3⟩:=hes j x hx;rw[hen]at h1;injection h1 with h1;subst h1
     exact(ih x.2 _ d hd h3).1.mono (mZ λi hi=>Au _ (Bc.2 ⟨_,hmem,hi⟩))
    ·rcases AG.1 hi with rfl|hi
     ·exact⟨b,hι⟩
     ·obtain⟨c,hc,hid⟩:=Bc.1 hi;obtain⟨j,hj,hcj⟩:=BM.1 hc;have hj':j<l.length:=by rw[hll];simpa using hj
      obtain⟨c',hc',hd⟩:=hlg j _ (Ab hj');have hce:c'=c:=by rw[Ab hj]at hc';injection hc' with hc';rw[<-hc',hcj]
      subst hce;rw[Aw]at hc';obtain⟨x,hx,rfl⟩:=Aj.1 hc';obtain⟨en',h1,_,h3⟩:=hes j x hx;exact(ih x.2 _ _ hd h3).2 i hid
   ·cases h
  ·cases h
end
inductive NM:D->Prop where
 |b (x:Bool):NM (.b x)
 |i (k:IntKind) (n:Int):NM (.i k n)
 |lit (v:Value):NM (.lit v)
 |sl (els:List (List D)) (h0:∀cs∈els,cs≠[]) (h:∀cs∈els,∀c∈cs,NM c):NM (.sl els)
 |ag (cs:List D) (h:∀c∈cs,NM c):NM (.ag cs)
 |tp (cs:List D) (h:∀c∈cs,NM c):NM (.tp cs)
def nmB:Nat->D->Bool
 |0,_=>false
 |n+1,x=>match x with
  |.b _|.i _ _|.lit _=>true
  |.sl els=>els.all λcs=>!cs.isEmpty&&cs.all (nmB n)
  |.ag cs|.tp cs=>cs.all (nmB n)
  |_=>false
def aFh:∀(n:Nat) (x:D),nmB n x=true->NM x
 |0,x,h=>by cases h
 |n+1,x,h=>by
  unfold nmB at h;split at h
  ·exact .b _
  ·exact .i _ _
  ·exact .lit _
  ·rename_i els;simp only[Ay,AO,Co,List.isEmpty_eq_false_iff]at h;exact .sl _ (λcs hcs=>(h cs hcs).1) λcs hcs c hc=>aFh n c ((h cs hcs).2 c hc)
  ·exact .ag _ λc hc=>aFh n c (Ay.1 h c hc)
  ·exact .tp _ λc hc=>aFh n c (Ay.1 h c hc)
  ·cases h
def cCz{F:Nat->Prop}{w:World}{x:D}{v:Value}(h:VD F w x v)(hn:NM x):VD (λb=>F b/\∀ents clock,w.heap[b]? ≠ some (.map ents clock)) w x v:=by
 induction h with
 |b x=>exact .b x
 |i k n=>exact .i k n
 |sl0 ad c=>exact .sl0 ad c
 |sl els ad n c sz f hnl hc hsz hF hcell hel ih =>
  cases hn with|sl _ h0 h =>
  cases hels:els with
  |nil=>subst hels;subst hnl;exact .sl0 _ _
  |cons cs0 l =>
   rw[<-hels];have hm0:cs0∈els:=by rw[hels];exact Av ..
   have hpos:0<sz:=by rw[<-hsz cs0 hm0];exact List.length_pos_iff.2 (h0 cs0 hm0)
   have hnp:0<n:=by rw[hnl,hels];simp
   refine .sl els ad n c sz f hnl hc hsz ⟨hF,λents clock he=>?_⟩ hcell λj k cs d hj hk=>ih j k cs d hj hk (h cs (Aq hj) d (Aq hk))
   have h1:=hcell 0 (Nat.mul_pos hnp hpos);simp only[World.cell?,block_add,he]at h1;cases h1
 |ag cs vs hl hh ih=>cases hn with|ag _ h=>exact .ag cs vs hl λk c v hc hv=>ih k c v hc hv (h c (Aq hc))
 |tp cs vs hl hh ih=>cases hn with|tp _ h=>exact .tp cs vs hl λk c v hc hv=>ih k c v hc hv (h c (Aq hc))
 |lit v=>exact .lit v
 |pt=>cases hn
 |fn=>cases hn
 |mp=>cases hn
 |iff=>cases hn
def Spec(P:Program)(f:FuncId)(args:List D)(r:D):Prop :=
 ∀(A:Nat->Prop) (W:World) (vs:Array Value),(∀b,A b->b<W.heap.size)->args.length=vs.size->(∀(k:Nat) d v,args[k]? = some d->vs[k]? = some v->VD A W d v) ->
  (∀w,(callFunc f vs).run P w=.ok (.enter f vs) w) /\
  Calls P f vs W λe W'=>∃v,e=.returned v/\Below W.heap.size W W'/\VD (λb=>A b\/(W.heap.size<=b/\b<W'.heap.size)) W' r v
def aO:D->AV
 |.ag cs=>.ag (cs.map .d)
 |.pt cs=>.fp cs
 |x=>.d x
def inj:D->AV
 |.tp vs=>.tp (vs.map aO)
 |x=>aO x
def oK:D->Bool
 |.b _|.i _ _=>true
 |_=>false
def flat:D->Bool
 |.tp vs=>vs.all oK
 |x=>oK x
section
variable {P:Program} {F:Nat->Prop} {w:World} {ι:Nat->Option Nat} {G:Ctx} {C:Nat->Prop} {H K:Hp}
def uX{x:D}{v:Value}(h:VD F w x v):V F w ι (aO x) v:=by
 unfold aO;split
 ·cases h with|ag cs vs hl hh=>exact .ag _ _ (by simpa using hl) (aAb hh)
 ·cases h with|pt cs ad f hF hcell hel=>exact .fp _ _ f hF hcell hel
 ·exact .d _ _ h
def aLa{x:D}{v:Value}(h:VD F w x v):V F w ι (inj x) v:=by
 unfold inj;split
 ·cases h with
  |tp cs vs hl hh =>
   refine .tp _ _ (by simpa using hl) λk c u hc hu=>?_
   rw[Aw]at hc;obtain⟨d,hd,rfl⟩:=Aj.1 hc;exact uX (hh k d u hd hu)
 ·exact uX h
def bTn{x:D}{v:Value}{F':Nat->Prop}{w':World}(hf:oK x=true)(h:VD F w x v):VD F' w' x v:=by cases h<;>first|exact .b _|exact .i _ _|(simp[oK]at hf;done)
def aMx{x:D}{v:Value}{F':Nat->Prop}{w':World}(hf:flat x=true)(h:VD F w x v):VD F' w' x v:=by
 cases h with
 |tp cs vs hl hh=>exact .tp _ _ hl λk c u hc hu=>bTn (by simp only[flat]at hf;exact Ay.1 hf _ (Aq hc)) (hh k c u hc hu)
 |b x=>exact .b _
 |i k n=>exact .i _ _
 |_=>simp[flat,oK]at hf
def HR.call(hR:HR G F w ι C K){w':World}(hb:Below w.heap.size w w')(kills:List Nat)(hk:∀id∈kills,¬C id) :
  HR G (λb=>F b\/(∃id∈kills,ι id=some b)\/(w.heap.size<=b/\b<w'.heap.size)) w' ι (λid=>C id\/id∈kills) K /\
  Step F w ι (λb=>F b\/(∃id∈kills,ι id=some b)\/(w.heap.size<=b/\b<w'.heap.size)) w' ι:=by
 have hs:Step F w ι (λb=>F b\/(∃id∈kills,ι id=some b)\/(w.heap.size<=b/\b<w'.heap.size)) w' ι :=
  ⟨λ_ h=>.inl h,λb h=>hb.block b (hR.F_lt b h),λ_ _ h=>h,λid b cur e hi h=>⟨cur,(hb.block b (hR.ι_lt hi)).trans h,rfl⟩⟩
 have hsz:=hb.size
 have hW:G.W.heap.size<=w.heap.size:=hR.kept.size
 refine⟨⟨hR.kept.trans (.below hb hW),?_,?_,?_,?_,?_,?_⟩,hs⟩
 ·rintro b (h|⟨id,_,h⟩|h)
  ·have:=hR.F_lt b h;omega
  ·have:=hR.ι_lt h;omega
  ·exact h.2
 ·rintro b (h|⟨id,_,h⟩|h)
  ·exact hR.F_ok b h
  ·exact .inr (hR.place id b h).1
  ·exact .inr (.inr (by omega))
 ·intro id b h
  obtain⟨h1,h2,h3⟩:=hR.place id b h
  refine⟨h1,by omega,λhc hF=>?_⟩
  rcases hF with hF|⟨id',hi,hF⟩|hF
  ·exact h3 (λx=>hc (.inl x)) hF
  ·exact hc (.inr ((hR.inj id id' b h hF (λx=>hc (.inl x)) (hk id' hi)) ▸ hi))
  ·omega
 ·intro id b o h ho
  obtain⟨ob,h2,h3⟩:=hR.obj id b o h ho
  exact⟨ob,(hb.block b (hR.ι_lt h)).trans h2,h3.step hs⟩
 ·exact λid id' b h h' hc hc'=>hR.inj id id' b h h' (λx=>hc (.inl x)) λx=>hc' (.inl x)
 ·exact λid id' b o o' h h' hc=>hR.len id id' b o o' h h' λx=>hc (.inl x)
variable {J:Nat->AV} {o:Oper}
def uJ(hR:HR G F w ι C K)(hHK:∀id o,H id=some o->K id=some o){args:List Operand}{a:Act}{ds:List D}(hf:fW H (args.map (oev J))=some ds)
  (hop:∀x∈args,V F w ι (oev J x) (a.eval x)):ds.length=(args.map a.eval).toArray.size /\
   (∀(k:Nat) d v,ds[k]? = some d->(args.map a.eval).toArray[k]? = some v->VD (reach F ι (fK H (args.map (oev J)))) w d v)/\∀id∈fK H (args.map (oev J)),∃b,ι id=some b:=by
 obtain⟨h1,h2⟩:=jT _ _ _ hf
 refine⟨by simpa using h1,λk d v hk hv=>?_,λid hid=>?_⟩
 ·obtain⟨c,hc,hd⟩:=h2 k d hk
  have hmem:=Aq hc
  simp only[Aw,Cf]at hc hv
  cases hx:args[k]? with
  |none=>simp[hx]at hc
  |some x =>
   simp only[hx,A4,AU]at hc hv
   subst hc;subst hv
   exact(zI hR hHK _ _ _ _ hd (hop x (Aq hx))).1.mono (mZ λid hid=>Bc.2 ⟨_,hmem,hid⟩)
 ·obtain⟨c,hc,hid⟩:=Bc.1 hid
  obtain⟨k,hk,hck⟩:=BM.1 hc
  have hk2:k<ds.length:=by omega
  obtain⟨c',hc',hd⟩:=h2 k _ (Ab hk2)
  rw[Ab hk]at hc';injection hc' with hc'
  rw[<-hc',hck]at hd
  rw[List.getElem_map]at hck
  rw[<-hck]at hd hid
  exact(zI hR hHK _ _ _ _ hd (hop _ (List.getElem_mem _))).2 id hid
def bS(H:Hp)(args:List AV)(r:D):List Nat:=if flat r then[]else fK H args
def bFe{f:FuncId}{args:Array Operand}{ts:Array TypeId}{ds:List D}{r:D}(ho:o.op=.call { callee:=.value (.func f),args:=args,argTypes:=ts })
  (hHK:∀id ob,H id=some ob->K id=some ob) (hargs:fW H (args.toList.map (oev J))=some ds) (hs:Spec P f ds r) (hk:∀id∈bS H (args.toList.map (oev J)) r,¬C id) :
  Y P G o J C K K (inj r) bW (λi=>i∈bS H (args.toList.map (oev J)) r):=by
 intro F w ι a hR hop _ next Q hnext
 have hop':∀x∈args.toList,V F w ι (oev J x) (a.eval x):=λx hx=>fD λt e=>hop t (by rw[ho];subst e;simp[AN,Bp];simpa using hx)
 have hmap:args.map a.eval=(args.toList.map a.eval).toArray:=by cases args;simp
 obtain⟨hl,hV,_⟩:=uJ hR hHK hargs hop'
 rw[<-hmap]at hl hV
 obtain⟨hent,hcalls⟩:=hs (reach F ι (fK H (args.toList.map (oev J)))) w (args.map a.eval) (by
  rintro b (h|⟨id,_,h⟩)
  ·exact hR.F_lt b h
  ·exact hR.ι_lt h) hl hV
 unfold DY
 have hfe:a.eval (.func f)=.func (.func f) #[] #[]:=rfl
 simp only[execOp,ho,resolve,invoke,A3,hfe,Da,Bz,AX,C9,Dz,hent,Ds]
 refine hcalls.mono ?_
 rintro e w' ⟨v,rfl,hb,hv⟩
 obtain⟨hR',hst⟩:=hR.call hb (bS H (args.toList.map (oev J)) r) hk
 refine hnext _ w' ι v hR' hst (λ_ _ h=>.inl h) (λ_ h=>h.elim) (aLa ?_)
 by_cases hf:flat r=true
 ·exact aMx hf hv
 ·refine hv.mono λb hb'=>?_
  rcases hb' with (h|⟨id,h,hx⟩)|h
  ·exact .inl h
  ·exact .inr (.inl ⟨id,by simpa[bS,hf]using h,hx⟩)
  ·exact .inr (.inr h)
def aKq{args:Array Operand}{ds:List D}{r:D}{a:Act}(hR:HR G F w ι C K)(hHK:∀id ob,H id=some ob->K id=some ob)(hargs:fW H (args.toList.map (oev J))=some ds)
  (hop:∀x∈args.toList,V F w ι (oev J x) (a.eval x)):∀id∈bS H (args.toList.map (oev J)) r,∃b,ι id=some b:=by
 intro id hid
 unfold bS at hid
 split at hid
 ·cases hid
 ·exact(uJ hR hHK hargs hop).2.2 id hid
def kY:AV->Option (FuncId×List AV)
 |.fn f cs=>some (f,cs)
 |.d (.fn f cs)=>some (f,cs.map aO)
 |.d (.lit (.func (.func f) fst cs))=>if fst.isEmpty&&cs.isEmpty then some (f,[])else none
 |_=>none
def bEo{x:AV}{v:Value}{f:FuncId}{cs:List AV}(h:kY x=some (f,cs))(hv:V F w ι x v) :
  ∃vs,v=.func (.func f) #[] vs/\cs.length=vs.size/\∀(k:Nat) c u,cs[k]? = some c->vs[k]? = some u->V F w ι c u:=by
 unfold kY at h
 split at h
 ·injection h with h;injection h with h1 h2;subst h1;subst h2
  cases hv with|fn _ _ vs hl hh=>exact⟨vs,rfl,hl,hh⟩
 ·injection h with h;injection h with h1 h2;subst h1;subst h2
  cases hv with|d _ _ hh=>cases hh with|fn _ _ vs hl hh =>
  refine⟨vs,rfl,by simpa using hl,λk c u hc hu=>?_⟩
  rw[Aw]at hc
  obtain⟨d,hd,rfl⟩:=Aj.1 hc
  exact uX (hh k d u hd hu)
 ·split at h
  ·rename_i g fst cs' he
   injection h with h;injection h with h1 h2;subst h1;subst h2
   simp only[AO,Array.isEmpty_iff]at he
   obtain⟨rfl,rfl⟩:=he
   cases hv with|d _ _ hh =>
   cases hh with|lit _=>exact⟨#[],rfl,rfl,λk c u hc=>by simp at hc⟩
  ·cases h
 ·cases h
def aDr(hR:HR G F w ι C K)(hHK:∀id o,H id=some o->K id=some o){avs:List AV}{vs:List Value}{ds:List D}(hf:fW H avs=some ds)(hlen:avs.length=vs.length)
  (hV:∀(k:Nat) c u,avs[k]? = some c->vs[k]? = some u->V F w ι c u):ds.length=vs.length /\
   (∀(k:Nat) d v,ds[k]? = some d->vs[k]? = some v->VD (reach F ι (fK H avs)) w d v)/\∀id∈fK H avs,∃b,ι id=some b:=by
 obtain⟨h1,h2⟩:=jT _ _ _ hf
 refine⟨by omega,λk d v hk hv=>?_,λid hid=>?_⟩
 ·obtain⟨c,hc,hd⟩:=h2 k d hk
  exact(zI hR hHK _ _ _ _ hd (hV k c v hc hv)).1.mono (mZ λid hid=>Bc.2 ⟨_,Aq hc,hid⟩)
 ·obtain⟨c,hc,hid⟩:=Bc.1 hid
  obtain⟨k,hk,hck⟩:=BM.1 hc
  have hk2:k<ds.length:=by omega
  have hk3:k<vs.length:=by omega
  obtain⟨c',hc',hd⟩:=h2 k _ (Ab hk2)
  have hce:c'=c:=by rw[Ab hk]at hc';injection hc' with hc';rw[<-hc',hck]
  subst hce
  exact(zI hR hHK _ _ _ _ hd (hV k _ _ hc' (Ab hk3))).2 id hid
def aHb{x:Operand}{args:Array Operand}{f:FuncId}{cs:List AV}{a:Act}(hx:kY (oev J x)=some (f,cs))(hvx:V F w ι (oev J x) (a.eval x))(hop:∀y∈args.toList,V F w ι (oev J y) (a.eval y)) :
  ∃vs:Array Value,a.eval x=.func (.func f) #[] vs/\(args.toList.map (oev J)++cs).length=(args.map a.eval++vs).toList.length /\
   ∀(k:Nat) c u,(args.toList.map (oev J)++cs)[k]? = some c->(args.map a.eval++vs).toList[k]? = some u->V F w ι c u:=by
 obtain⟨vs,h1,h2,h3⟩:=bEo hx hvx
 refine⟨vs,h1,by simp[h2],λk c u hc hu=>?_⟩
 rw[Array.toList_append,Array.toList_map]at hu
 by_cases hk:k<args.toList.length
 ·rw[AJ (by simpa using hk)]at hc hu
  rw[Aw]at hc hu
  cases hy:args.toList[k]? with
  |none=>rw[hy]at hc;cases hc
  |some y =>
   rw[hy]at hc hu
   injection hc with hc;injection hu with hu
   subst hc;subst hu
   exact hop y (Aq hy)
 ·rw[Az (by simpa using hk)]at hc hu
  rw[AL]at hc hu
  exact h3 _ _ _ hc (by simpa using hu)
def bPa{x:Operand}{f:FuncId}{args:Array Operand}{ts:Array TypeId}{ds:List D}{r:D}{cs:List AV}(ho:o.op=.call { callee:=.value x,args:=args,argTypes:=ts })
  (hHK:∀id ob,H id=some ob->K id=some ob) (hx:kY (oev J x)=some (f,cs)) (hargs:fW H (args.toList.map (oev J)++cs)=some ds) (hs:Spec P f ds r) (hk:∀id∈bS H (args.toList.map (oev J)++cs) r,¬C id) :
  Y P G o J C K K (inj r) bW (λi=>i∈bS H (args.toList.map (oev J)++cs) r):=by
 intro F w ι a hR hop _ next Q hnext
 have hop':∀y∈args.toList,V F w ι (oev J y) (a.eval y):=λy hy=>fD λt e=>hop t (by rw[ho];subst e;simp[AN,Bp];right;simpa using hy)
 have hvx:V F w ι (oev J x) (a.eval x):=fD λt e=>hop t (by rw[ho];subst e;simp[AN,Bp])
 obtain⟨vs,hev,hlen,hVV⟩:=aHb hx hvx hop'
 obtain⟨hl,hV,_⟩:=aDr hR hHK hargs hlen hVV
 obtain⟨hent,hcalls⟩:=hs (reach F ι (fK H (args.toList.map (oev J)++cs))) w (args.map a.eval++vs) (by
  rintro b (h|⟨id,_,h⟩)
  ·exact hR.F_lt b h
  ·exact hR.ι_lt h) (by simpa using hl) (λk d v hk hv=>hV k d v hk (by rw[Bn];exact hv))
 unfold DY
 simp only[execOp,ho,resolve,invoke,A3,hev,Da,Bz,AX,C9,hent,Ds]
 refine hcalls.mono ?_
 rintro e w' ⟨v,rfl,hb,hv⟩
 obtain⟨hR',hst⟩:=hR.call hb (bS H (args.toList.map (oev J)++cs) r) hk
 refine hnext _ w' ι v hR' hst (λ_ _ h=>.inl h) (λ_ h=>h.elim) (aLa ?_)
 by_cases hf:flat r=true
 ·exact aMx hf hv
 ·refine hv.mono λb hb'=>?_
  rcases hb' with (h|⟨id,h,hx⟩)|h
  ·exact .inl h
  ·exact .inr (.inl ⟨id,by simpa[bS,hf]using h,hx⟩)
  ·exact .inr (.inr h)
def aWz{x:Operand}{f:FuncId}{cs:List AV}{args:Array Operand}{ds:List D}{r:D}{a:Act}(hR:HR G F w ι C K)(hHK:∀id ob,H id=some ob->K id=some ob)(hx:kY (oev J x)=some (f,cs))
  (hargs:fW H (args.toList.map (oev J)++cs)=some ds) (hvx:V F w ι (oev J x) (a.eval x)) (hop:∀x∈args.toList,V F w ι (oev J x) (a.eval x)):∀id∈bS H (args.toList.map (oev J)++cs) r,∃b,ι id=some b:=by
 intro id hid
 obtain⟨vs,hev,hlen,hVV⟩:=aHb hx hvx hop
 unfold bS at hid
 split at hid
 ·cases hid
 ·exact(aDr hR hHK hargs hlen hVV).2.2 id hid
def aRu{args:Array Operand}{a:Act}{d:D}{v:Value}(hv:VD F w d v)(hop:∀y∈args.toList,V F w ι (oev J y) (a.eval y)) :
  (AV.d d::args.toList.map (oev J)).length=(#[v]++args.map a.eval).toList.length /\
   ∀(k:Nat) c u,(AV.d d::args.toList.map (oev J))[k]? = some c->(#[v]++args.map a.eval).toList[k]? = some u->V F w ι c u:=by
 refine⟨by simp,λk c u hc hu=>?_⟩
 rw[Array.toList_append,Array.toList_map]at hu
 cases k with
 |zero=>simp at hc hu;subst hc;subst hu;exact .d _ _ hv
 |succ k =>
  simp only[List.getElem?_cons_succ,List.cons_append,List.nil_append,Aw]at hc hu
  cases hy:args.toList[k]? with
  |none=>rw[hy]at hc;cases hc
  |some y =>
   rw[hy]at hc hu
   injection hc with hc;injection hu with hu
   subst hc;subst hu
   exact hop y (Aq hy)
def bSu(v:Value)(l:Array Value):(#[v]++l)[0]? = some v/\(#[v]++l).extract 1 (#[v]++l).size=l:=by
 refine⟨?_,?_⟩
 ·rw[Array.getElem?_append];simp
 ·apply Array.ext';simp
def bVz{x:AV}{t:TypeId}{d:D}{v:Value}(hx:x=.d (.iff t d))(hv:V F w ι x v):∃u,v=.iface t u/\VD F w d u:=by subst hx;cases hv with|d _ _ hh=>cases hh with|iff _ _ u h=>exact⟨u,rfl,h⟩
def bFd{x:Operand}{name:String}{ty:TypeId}{d:D}{f:FuncId}{args:Array Operand}{ts:Array TypeId}{ds:List D}{r:D}(ho:o.op=.call { callee:=.invoke x name,args:=args,argTypes:=ts })
  (hHK:∀id ob,H id=some ob->K id=some ob) (hx:oev J x=.d (.iff ty d)) (hm:yX P ty name=some f) (hargs:fW H (.d d::args.toList.map (oev J))=some ds) (hs:Spec P f ds r) (hk:∀id∈bS H (.d d::args.toList.map (oev J)) r,¬C id) :
  Y P G o J C K K (inj r) bW (λi=>i∈bS H (.d d::args.toList.map (oev J)) r):=by
 intro F w ι a hR hop _ next Q hnext
 have hop':∀y∈args.toList,V F w ι (oev J y) (a.eval y):=λy hy=>fD λt e=>hop t (by rw[ho];subst e;simp[AN,Bp];right;simpa using hy)
 have hvx:V F w ι (oev J x) (a.eval x):=fD λt e=>hop t (by rw[ho];subst e;simp[AN,Bp])
 obtain⟨u,hev,hud⟩:=bVz hx hvx
 obtain⟨hlen,hVV⟩:=aRu hud hop'
 obtain⟨hl,hV,_⟩:=aDr hR hHK hargs hlen hVV
 obtain⟨hent,hcalls⟩:=hs (reach F ι (fK H (.d d::args.toList.map (oev J)))) w (#[u]++args.map a.eval) (by
  rintro b (h|⟨id,_,h⟩)
  ·exact hR.F_lt b h
  ·exact hR.ι_lt h) (by rw[hl,BS]) (λk d v hk hv=>hV k d v hk (by rw[Bn];exact hv))
 unfold DY
 have hinv:(invoke (.fn (.method name) #[]) (#[a.eval x]++args.map a.eval)).run P w=(callFunc f (#[u]++args.map a.eval)).run P w:=by have e:=bSu (.iface ty u) (args.map a.eval);rw[hev,<-bGz hm];simp only[invoke,e.1,e.2]
 simp only[execOp,ho,resolve,A3,Bz,AX,hinv,hent,Ds]
 refine hcalls.mono ?_
 rintro e w' ⟨v,rfl,hb,hv⟩
 obtain⟨hR',hst⟩:=hR.call hb (bS H (.d d::args.toList.map (oev J)) r) hk
 refine hnext _ w' ι v hR' hst (λ_ _ h=>.inl h) (λ_ h=>h.elim) (aLa ?_)
 by_cases hf:flat r=true
 ·exact aMx hf hv
 ·refine hv.mono λb hb'=>?_
  rcases hb' with (h|⟨id,h,hx⟩)|h
  ·exact .inl h
  ·exact .inr (.inl ⟨id,by simpa[bS,hf]using h,hx⟩)
  ·exact .inr (.inr h)
def bKk{x:Operand}{ty:TypeId}{d:D}{args:Array Operand}{ds:List D}{r:D}{a:Act}(hR:HR G F w ι C K)(hHK:∀id ob,H id=some ob->K id=some ob)(hx:oev J x=.d (.iff ty d))
  (hargs:fW H (.d d::args.toList.map (oev J))=some ds) (hvx:V F w ι (oev J x) (a.eval x)) (hop:∀x∈args.toList,V F w ι (oev J x) (a.eval x)):∀id∈bS H (.d d::args.toList.map (oev J)) r,∃b,ι id=some b:=by
 intro id hid
 obtain⟨u,hev,hud⟩:=bVz hx hvx
 obtain⟨hlen,hVV⟩:=aRu hud hop
 unfold bS at hid
 split at hid
 ·cases hid
 ·exact(aDr hR hHK hargs hlen hVV).2.2 id hid
def qO(P:Program)(H:Hp)(t:TypeId)(ad x:AV):Option (Nat×HO) :=
 match ad with
 |.ptr id off=>match H id with
  |some (.cells e cs)=>(fN x).bind λvs=>(tsz P t).bind λsz=>if vs.length=sz/\off+sz<=cs.length then some (id,.cells e (lay cs off vs))else none
  |_=>none
 |_=>none
def aXr{t:TypeId}{ad x:Operand}{id:Nat}{ho:HO}{K':Hp}(hop_:o.op=.store t ad x)(hHK:∀id ob,H id=some ob->K id=some ob)
  (h:qO P H t (oev J ad) (oev J x)=some (id,ho)) (hC:¬C id) (hK':K' id=some ho) (hsub:∀j o,j≠id->K' j=some o->K j=some o/\¬C j) :
  Y P G o J C K K' .un bW bW:=by
 intro F w ι a hR hop _ next Q hnext
 have oa:V F w ι (oev J ad) (a.eval ad):=fD λt e=>hop t (by rw[hop_];simp[AN,e])
 have ox:V F w ι (oev J x) (a.eval x):=fD λt e=>hop t (by rw[hop_];simp[AN,e])
 unfold qO at h
 split at h
 case h_2=>cases h
 rename_i id' off hadd
 split at h
 case h_2=>cases h
 rename_i e cs hH
 obtain⟨vs,hvs,h⟩:=Ae.1 h
 obtain⟨sz,hsz,h⟩:=Ae.1 h
 split at h
 case isFalse=>cases h
 rename_i hc
 obtain⟨hvl,hfit⟩:=hc
 injection h with h;injection h with h1 h2;subst h1;subst h2
 rw[hadd]at oa
 generalize hav:a.eval ad=av at oa
 cases oa with|ptr _ _ b hι =>
 have hcv:=aGz hvs ox
 obtain⟨cur,hb,hl,hcc⟩:=hR.cells hHK hι hH
 have hus:(a.eval x).cells.toList.length=sz:=by have:=hcv.1;simp;omega
 have hrun:(storeCells ⟨b,off,none⟩ (a.eval x).cells.toList 0).run P w=_:=run_storeCells_at P b off e (a.eval x).cells.toList 0 cur w hb (by omega) (λv hv=>hcv.2.2 v (by simpa using hv))
 simp only[Nat.add_zero]at hrun
 have hset:=setRow_heap w b cur (cur.toList.take off++(a.eval x).cells.toList++cur.toList.drop (off+(a.eval x).cells.toList.length)).toArray e (0,0) hb
 have hnF:¬F b:=(hR.place id' b hι).2.2 hC
 have hoth:∀k,k≠b->(w.setRow b (cur.toList.take off++(a.eval x).cells.toList++cur.toList.drop (off+(a.eval x).cells.toList.length)).toArray).heap[k]? = w.heap[k]? := λk hk=>setRow_other w b k _ hk
 have hsize:(cur.toList.take off++(a.eval x).cells.toList++cur.toList.drop (off+(a.eval x).cells.toList.length)).toArray.size=cur.size:=by
  have:(a.eval x).cells.size=sz:=by simpa using hus
  simp only[List.size_toArray,Ak,Ax,Bl,BS];omega
 have hlen2:(cur.toList.take off++(a.eval x).cells.toList).length=off+sz:=by rw[Ak,hus,Ax,BS];omega
 generalize hcur':(cur.toList.take off++(a.eval x).cells.toList++cur.toList.drop (off+(a.eval x).cells.toList.length)).toArray=cur' at *
 have hst:Step F w ι F (w.setRow b cur') ι:=by
  refine⟨λ_ h=>h,λk hk=>hoth k (λe=>hnF (e ▸ hk)),λ_ _ h=>h,λi k c0 e0 hi hk=>?_⟩;by_cases hkb:k=b
  ·subst hkb;rw[hb]at hk;injection hk with hk;injection hk with h1 h2;subst h1;subst h2
   exact⟨cur',hset,hsize⟩
  ·exact⟨c0,(hoth k hkb).trans hk,rfl⟩
 unfold DY
 have hne:¬((a.eval x).cells.size≠sz):=by have:=hcv.1;omega
 simp only[execOp,hop_,A3,Instr.storeAt,hav,Instr.sureAddr,Bz,AX,storeVar,run_sizeOf w hsz,hne,if_false,hrun,Oper.upon_skip]
 refine hnext F _ ι undef ?_ hst (λ_ _ h=>.inl h) (λ_ h=>h.elim) .un
 refine HR.congrC (C:=C) ⟨hR.kept.trans ⟨rfl,rfl,rfl,by simp,λk hk hm=>hoth k λe=>?_,λk c0 e0 _ hk=>by
   by_cases hkb:k=b
   ·subst hkb;rw[hb]at hk;injection hk with hk;injection hk with h1 h2;subst h1;subst h2
    exact⟨cur',hset,hsize⟩
   ·exact⟨c0,(hoth k hkb).trans hk,rfl⟩⟩,λk hk=>by rw[size_setRow];exact hR.F_lt k hk,hR.F_ok,λi k hi=>?_,?_,hR.inj,?_⟩ (λid=>by simp[bW])
 ·subst e
  rcases(hR.place id' k hι).1 with h|h
  ·exact hm h
  ·omega
 ·rw[size_setRow];exact hR.place i k hi
 ·intro i k o' hi ho'
  by_cases hid:i=id'
  ·subst hid
   rw[hι]at hi;injection hi with hi;subst hi
   rw[hK']at ho';injection ho' with ho';subst ho'
   refine⟨_,hset,.cells _ _ _ (by rw[iY (by omega),hsize];exact hl) λj c hj=>?_⟩
   rw[zE (by omega)]at hj
   split at hj
   ·rename_i hjj
    obtain⟨u,hu,hv⟩:=hcv.get hj
    refine⟨u,?_,hv.step hst⟩
    rw[<-hcur',Cf,AJ (by simp;omega),Az (by simp;omega),Ax,BS,Nat.min_eq_left (by omega),Bn]
    exact hu
   ·rename_i hjj
    obtain⟨u,hu,hv⟩:=hcc j c hj
    have hjl:j<cs.length:=(Ah.1 hj).1
    refine⟨u,?_,hv.step hst⟩
    rw[<-hcur',Cf]
    by_cases hjo:j<off
    ·rw[List.append_assoc,AJ (by simp;omega),Bb,Ad hjo,Bn];exact hu
    ·rw[Az (by omega),hlen2,Bt,Bn,hus]
     rw[<-hu];congr 1;omega
  ·obtain⟨hk1,hk2⟩:=hsub i o' hid ho'
   obtain⟨ob,h2,h3⟩:=hR.obj i k o' hi hk1
   refine⟨ob,(hoth k λe=>?_).trans h2,h3.step hst⟩
   subst e
   exact hid (hR.inj i id' k hi hι hk2 hC)
 ·intro i i' k o1 o2 hi hi' hc h1 h2
  have hlay:(HO.cells e (lay cs off vs)).len=(HO.cells e cs).len:=by simp only[HO.len];exact iY (by omega)
  have hk1:∃q1,K i=some q1/\q1.len=o1.len:=by
   by_cases hid:i=id'
   ·subst hid;rw[hK']at h1;injection h1 with h1;subst h1;exact⟨_,hHK _ _ hH,hlay.symm⟩
   ·exact⟨o1,(hsub i o1 hid h1).1,rfl⟩
  have hk2:∃q2,K i'=some q2/\q2.len=o2.len:=by
   by_cases hid:i'=id'
   ·subst hid;rw[hK']at h2;injection h2 with h2;subst h2;exact⟨_,hHK _ _ hH,hlay.symm⟩
   ·exact⟨o2,(hsub i' o2 hid h2).1,rfl⟩
  obtain⟨q1,e1,l1⟩:=hk1
  obtain⟨q2,e2,l2⟩:=hk2
  rw[<-l1,<-l2]
  exact hR.len i i' k q1 q2 hi hi' hc e1 e2
end
end Go.Am
end
section
open List renaming map_map->B,mapM_map->E
namespace Go.Am
open RowKit (Below)
def iP(n:Int):List (Int×AV)->Option Nat
 |[]=>none
 |x::es=>if x.1=n then some 0 else(iP n es).map (·+1)
def rI(es:List (Int×AV))(n:Int):Option AV:=(iP n es).bind λj=>(es[j]?).map (·.2)
def sD(es:List (Int×AV))(n:Int)(v:AV):List (Int×AV):=match iP n es with|some j=>es.set j (n,v)|none=>es++[(n,v)]
def aRo(es:List (Int×AV))(n:Int):List (Int×AV):=match iP n es with|some j=>es.eraseIdx j|none=>es
section
variable {P:Program} {F:Nat->Prop} {w:World} {ι:Nat->Option Nat} {G:Ctx} {C:Nat->Prop} {H K:Hp}
def uM{k:IntKind}{n:Int}:∀(es:List (Int×AV)) (l:List MapEntry) (i:Nat),es.length=l.length->(∀(j:Nat) x,es[j]? = some x->∃en,l[j]? = some en/\en.key=.int k x.1) ->
  Instr.findNow (.int k) (.int k n) l i=some ((iP n es).bind λj=>(l[j]?).map λen=>(i+j,en.val))
 |[],[],i,_,_=>rfl
 |x::es,e::l,i,hl,h=>by
  obtain⟨en,h1,h2⟩:=h 0 x rfl;simp only[List.getElem?_cons_zero,AU]at h1;subst h1;have ih:=uM (k:=k) (n:=n) es l (i+1) (by simpa using hl) λj y hy=>h (j+1) y (by simpa using hy)
  unfold Instr.findNow iP;rw[h2];by_cases hx:x.1=n
  ·simp[Instr.sameNow,hx]
  ·have hne:(n==x.1)=false:=by simp;exact λe=>hx e.symm
   simp only[Instr.sameNow,B1,hne,Ac hx,ih];cases iP n es with
   |none=>rfl
   |some j=>simp[Ed,CB 1 j]
def rJ{n:Int}:∀{es:List (Int×AV)} {j:Nat},iP n es=some j->∃v,es[j]? = some (n,v)
 |x::es,j,h=>by
  unfold iP at h;split at h
  ·rename_i hx;injection h with h;subst h;exact⟨x.2,by simp[<-hx]⟩
  ·obtain⟨i,hi,rfl⟩:=Aj.1 h;obtain⟨v,hv⟩:=rJ hi;exact⟨v,by simpa using hv⟩
 |[],j,h=>by cases h
def aFm{n:Int}:∀{es:List (Int×AV)},iP n es=none->∀(j:Nat) x,es[j]? = some x->x.1≠n
 |[],_,j,x,h=>by simp at h
 |y::es,hn,j,x,h=>by
  unfold iP at hn;split at hn
  ·cases hn
  ·rename_i hy;have hn':=Option.map_eq_none_iff.1 hn;rcases j with _|j
   ·simp at h;subst h;exact hy
   ·exact aFm hn' j x (by simpa using h)
def aCx{t:TypeId}{p:TypeId×TypeId}(h:tmp P t=some p):P.underlying t=some (.map p.1 p.2):=by
 unfold tmp at h;split at h
 ·injection h with h;subst h;assumption
 ·cases h
def HR.mapOf(hR:HR G F w ι C K)(hHK:∀id o,H id=some o->K id=some o){id b:Nat}(hι:ι id=some b){k:IntKind}{es:List (Int×AV)}(hH:H id=some (.map k es)) :
  ∃ents clock,w.heap[b]? = some (.map ents clock)/\es.length=ents.size/\Ez ents clock/\(∀(j:Nat) x,es[j]? = some x->∃en,ents[j]? = some en/\en.key=.int k x.1/\V F w ι x.2 en.val):=by
 obtain⟨ob,h2,h3⟩:=hR.obj id b _ hι (hHK _ _ hH)
 cases h3 with|map _ _ ents clock hl hst h=>exact⟨ents,clock,h2,hl,hst,h⟩
def bKd{k:IntKind}{es:List (Int×AV)}{ents:Array MapEntry}(hl:es.length=ents.size)(h:∀(j:Nat) x,es[j]? = some x->∃en,ents[j]? = some en/\en.key=.int k x.1/\V F w ι x.2 en.val) :
  ∀x∈ents.toList,Fw (.int k) x.key:=by
 intro x hx
 obtain⟨j,hj,rfl⟩:=BM.1 hx
 have hj':j<es.length:=by simpa[hl]using hj
 obtain⟨en,h1,h2,_⟩:=h j _ (Ab hj')
 have hj2:j<ents.size:=by omega
 rw[AD hj2]at h1
 injection h1 with h1
 simp only[FB]
 rw[h1,h2];rfl
def aCe(P:Program)(t:TypeId)(k:IntKind)(es:List (Int×AV))(x:AV)(ok:Bool):Option AV :=
 (tmp P t).bind λp=>match x with
  |.d (.i k' n)=>if k'=k/\jJ P p.1=some k then
    match rI es n with
    |some v=>some (if ok then .tp [v,.d (.b true)]else v)
    |none=>(tz P p.2).map λz=>if ok then .tp [cv z,.d (.b false)]else cv z
   else none
  |_=>none
def aId(ks:List Int)(ds:List D):List (Int×AV):=(ks.zip ds).map λp=>(p.1,aO p.2)
def bVw(P:Program)(t:TypeId)(x:AV)(ok:Bool):Option AV :=
 (tmp P t).bind λp=>match x with
  |.d (.i k _)=>if jJ P p.1=some k then(tz P p.2).map λz=>if ok then .tp [cv z,.d (.b false)]else cv z else none
  |_=>none
def pK(P:Program)(H:Hp)(t:TypeId)(m x:AV)(ok:Bool):Option AV :=
 match m with
 |.mp id=>match H id with
  |some (.map k es)=>aCe P t k es x ok
  |_=>none
 |.d (.mp k ks ds)=>aCe P t k (aId ks ds) x ok
 |.d (.lit (.map none))=>bVw P t x ok
 |_=>none
def aZf{t:TypeId}{k:IntKind}{es:List (Int×AV)}{x r:AV}{ok:Bool}{v:Value}{b:Nat}{ents:Array MapEntry}{clock:Nat}(h:aCe P t k es x ok=some r)(hb:w.heap[b]? = some (.map ents clock))(hl:es.length=ents.size)
  (hes:∀(j:Nat) x,es[j]? = some x->∃en,ents[j]? = some en/\en.key=.int k x.1/\V F w ι x.2 en.val) (hx:V F w ι x v):∃z,(FW t (.map (some b)) v ok).run P w=.ok z w/\V F w ι r z:=by
 unfold aCe at h
 obtain⟨p,hp,hq⟩:=Ae.1 h
 clear h
 have h:=hq
 clear hq
 split at h
 case h_2=>cases h
 rename_i k' n
 split at h
 case isFalse=>cases h
 rename_i hk
 obtain⟨rfl,hk⟩:=hk
 cases hx with|d _ _ hx=>cases hx with|i =>
 have hu:=aCx hp
 have hf:=uM (k:=k') (n:=n) es ents.toList 0 (by simpa using hl) λj x hx=>let ⟨en,h1,h2,_⟩:=hes j x hx;⟨en,by simpa using h1,h2⟩
 have hki:P.underlying p.1=some (.int k'):=by
  unfold jJ at hk;split at hk
  ·injection hk with hk;subst hk;assumption
  ·cases hk
 have hck:=FC (P:=P) (w:=w) (k:=.int k' n) hki (by simp[Fw]) ents.isEmpty 9999
 have hfk:=FR (P:=P) (w:=w) hki hf
 split at h
 ·rename_i v hv
  injection h with h;subst h
  unfold rI at hv
  obtain⟨j,hj,hv⟩:=Ae.1 hv
  obtain⟨y,hy,rfl⟩:=Aj.1 hv
  obtain⟨en,h1,h2,h3⟩:=hes j y hy
  have h1':ents.toList[j]? = some en:=by simpa using h1
  rw[hj]at hfk
  simp only[Ej,h1',A4,A6]at hfk
  refine⟨if ok then .tuple #[en.val,.bool true]else en.val,?_,?_⟩
  ·cases ok<;>simp[FW,run_underlying hu,CX hb,hck,hfk]
  ·cases ok
   ·exact h3
   ·refine .tp _ _ (by simp) λi c q hc hq=>?_
    rcases i with _|_|i
    ·simp at hc hq;subst hc;subst hq;exact h3
    ·simp at hc hq;subst hc;subst hq;exact .d _ _ (.b _)
    ·simp at hc
 ·rename_i hv
  obtain⟨z,hz,rfl⟩:=Aj.1 h
  have hn:iP n es=none:=by
   cases hj:iP n es with
   |none=>rfl
   |some j =>
    obtain⟨y,hy⟩:=rJ hj;simp[rI,hj,hy]at hv
  rw[hn]at hfk
  simp only[Option.bind_none]at hfk
  refine⟨if ok then .tuple #[z,.bool false]else z,?_,?_⟩
  ·cases ok<;>simp[FW,run_underlying hu,CX hb,hck,hfk,jI w hz]
  ·cases ok
   ·exact bOl z
   ·refine .tp _ _ (by simp) λi c q hc hq=>?_
    rcases i with _|_|i
    ·simp at hc hq;subst hc;subst hq;exact bOl z
    ·simp at hc hq;subst hc;subst hq;exact .d _ _ (.b _)
    ·simp at hc
def bKu{k:IntKind}{ks:List Int}{ds:List D}{ents:Array MapEntry}(hk:∀(j:Nat) n,ks[j]? = some n->∃en,ents[j]? = some en/\en.key=.int k n)
  (hv:∀(j:Nat) d en,ds[j]? = some d->ents[j]? = some en->VD F w d en.val):∀(j:Nat) x,(aId ks ds)[j]? = some x->∃en,ents[j]? = some en/\en.key=.int k x.1/\V F w ι x.2 en.val:=by
 intro j x hx
 unfold aId at hx
 rw[Aw]at hx
 obtain⟨p,hp,rfl⟩:=Aj.1 hx
 obtain⟨h1,h2⟩:=List.getElem?_zip_eq_some.1 hp
 obtain⟨en,h3,h4⟩:=hk j _ h1
 exact⟨en,h3,h4,uX (hv j _ en h2 h3)⟩
def bSk(hR:HR G F w ι C K)(hHK:∀id o,H id=some o->K id=some o){t:TypeId}{m x r:AV}{ok:Bool}{u v:Value}(h:pK P H t m x ok=some r)(hm:V F w ι m u)(hx:V F w ι x v) :
  ∃z,(FW t u v ok).run P w=.ok z w/\V F w ι r z:=by
 unfold pK at h
 split at h
 case h_4=>cases h
 ·rename_i id
  cases hm with|mp _ b hι =>
  split at h
  case h_2=>cases h
  rename_i k es hH
  obtain⟨ents,clock,hb,hl,hst,hes⟩:=hR.mapOf hHK hι hH
  exact aZf h hb hl hes hx
 ·rename_i k ks ds
  cases hm with|d _ _ hm=>cases hm with|mp _ _ _ b ents clock hF hb hst hl hl' hk hv =>
  exact aZf h hb (by simp[aId];omega) (bKu hk hv) hx
 ·cases hm with|d _ _ hm=>cases hm with|lit =>
  unfold bVw at h
  obtain⟨p,hp,hq⟩:=Ae.1 h
  clear h
  have h:=hq
  clear hq
  split at h
  case h_2=>cases h
  rename_i k' n
  split at h
  case isFalse=>cases h
  rename_i hk
  cases hx with|d _ _ hx=>cases hx with|i =>
  have hu:=aCx hp
  have hki:P.underlying p.1=some (.int k'):=by
   unfold jJ at hk;split at hk
   ·injection hk with hk;subst hk;assumption
   ·cases hk
  have hck:=FC (P:=P) (w:=w) (k:=.int k' n) hki (by simp[Fw]) true 9999
  have hfk:=FR (P:=P) (w:=w) hki (show Instr.findNow (.int k') (.int k' n) [] 0=some none from rfl)
  obtain⟨z,hz,rfl⟩:=Aj.1 h
  refine⟨if ok then .tuple #[z,.bool false]else z,?_,?_⟩
  ·cases ok<;>simp[FW,run_underlying hu,hck,hfk,jI w hz]
  ·cases ok
   ·exact bOl z
   ·refine .tp _ _ (by simp) λi c q hc hq=>?_
    rcases i with _|_|i
    ·simp at hc hq;subst hc;subst hq;exact bOl z
    ·simp at hc hq;subst hc;subst hq;exact .d _ _ (.b _)
    ·simp at hc
def aJs(H:Hp)(m:AV):Option Nat:=match m with
 |.mp id=>match H id with
  |some (.map _ es)=>some es.length
  |_=>none
 |_=>none
def bRx(hR:HR G F w ι C K)(hHK:∀id o,H id=some o->K id=some o){t ty:TypeId}{m:AV}{u:Value}{n:Nat}(ht:(tmp P t).isSome=true)(h:aJs H m=some n)(hm:V F w ι m u) :
  (Builtin.len_ #[t] ty #[u]).run P w=.ok (.int .i64 n) w:=by
 unfold aJs at h
 split at h
 case h_2=>cases h
 rename_i id
 split at h
 case h_2=>cases h
 rename_i k es hH
 injection h with h;subst h
 cases hm with|mp _ b hι =>
 obtain⟨ents,clock,hb,hl,_⟩:=hR.mapOf hHK hι hH
 obtain⟨p,hp⟩:=B9.1 ht
 have hu:=aCx hp
 simp[Builtin.len_,run_underlying hu,CX hb,hl,goInt]
def bLw(H:Hp)(x:AV):Option AV:=match x with
 |.ptr id 0=>match H id with
  |some (.iter k (some e) _)=>some (.tp [.d (.i k e.1),aO e.2])
  |_=>none
 |_=>none
def bZg(hR:HR G F w ι C K)(hHK:∀id o,H id=some o->K id=some o){x r:AV}{u:Value}(h:bLw H x=some r)(hx:V F w ι x u):∃z,(Instr.entry u).run P w=.ok z w/\V F w ι r z:=by
 unfold bLw at h;split at h
 case h_2=>cases h
 rename_i id;cases hx with|ptr _ _ b hι =>
 split at h
 case h_2=>cases h
 rename_i k e es hH;injection h with h;subst h
 obtain⟨ob,hb,hcr⟩:=hR.obj id b _ hι (hHK _ _ hH);cases hcr with|iter _ _ _ bm since c0 clock seen ents hF hbm hold hsc hn hl hh hla =>
 obtain⟨rfl,en,seen0,rfl,hen,hk,hv⟩:=hla e rfl;refine⟨_,run_entry_at w b bm since seen0 ents c0 en hb hbm hen hn,?_⟩;refine .tp _ _ (by simp) λi c q hc hq=>?_
 rcases i with _|_|i
 ·simp at hc hq;subst hc;subst hq;rw[hk];exact .d _ _ (.i _ _)
 ·simp at hc hq;subst hc;subst hq;exact uX hv
 ·simp at hc
def HR.write(hR:HR G F w ι C K){id b:Nat}{w':World}{ob ob':Obj}{old ho:HO}{K':Hp}(hC:¬C id)(hι:ι id=some b)(hold:K id=some old)(hlen:ho.len=old.len)
  (hk:Kept (·=b) w.heap.size w w') (hb:w.heap[b]? = some ob) (hb':w'.heap[b]? = some ob')
  (hshape:∀cur e,ob=.cells cur e (0,0)->∃cur',ob'=.cells cur' e (0,0)/\cur'.size=cur.size)
  (hcr:Step F w ι (λk=>F k\/(w.heap.size<=k/\k<w'.heap.size)) w' ι->CR (λk=>F k\/(w.heap.size<=k/\k<w'.heap.size)) w' ι ho ob')
  (hK':K' id=some ho) (hsub:∀j o,j≠id->K' j=some o->K j=some o/\¬C j) :
  HR G (λk=>F k\/(w.heap.size<=k/\k<w'.heap.size)) w' ι C K'/\Step F w ι (λk=>F k\/(w.heap.size<=k/\k<w'.heap.size)) w' ι:=by
 have hnF:¬F b:=(hR.place id b hι).2.2 hC
 have hoth:∀k,k<w.heap.size->k≠b->w'.heap[k]? = w.heap[k]? := λk hk1 hk2=>hk.block k hk1 hk2
 have hst:Step F w ι (λk=>F k\/(w.heap.size<=k/\k<w'.heap.size)) w' ι:=by
  refine⟨λ_ h=>.inl h,λk hkF=>hoth k (hR.F_lt k hkF) (λe=>hnF (e ▸ hkF)),λ_ _ h=>h,λi k c0 e0 hi hk0=>?_⟩;by_cases hkb:k=b
  ·subst hkb;rw[hb]at hk0;injection hk0 with hk0
   obtain⟨cur',h1,h2⟩:=hshape c0 e0 hk0;exact⟨cur',by rw[hb',h1],h2⟩
  ·exact⟨c0,(hoth k (hR.ι_lt hi) hkb).trans hk0,rfl⟩
 have hW:G.W.heap.size<=w.heap.size:=hR.kept.size
 have hsz:=hk.size
 refine⟨⟨hR.kept.trans ⟨hk.os,hk.tape,hk.output,hk.size,λk hkW hm=>hoth k (by omega) λe=>?_,λk c0 e0 hkW hc=>hk.shape k c0 e0 (by omega) hc⟩,?_,?_,?_,?_,hR.inj,?_⟩,hst⟩
 ·subst e
  rcases(hR.place id k hι).1 with h|h
  ·exact hm h
  ·omega
 ·rintro k (h|h)
  ·have:=hR.F_lt k h;omega
  ·exact h.2
 ·rintro k (h|h)
  ·exact hR.F_ok k h
  ·exact .inr (.inr (by omega))
 ·intro i k hi
  obtain⟨p1,p2,p3⟩:=hR.place i k hi
  exact⟨p1,by omega,λhc h=>h.elim (p3 hc) λh=>by omega⟩
 ·intro i k o' hi ho'
  by_cases hid:i=id
  ·subst hid
   rw[hι]at hi;injection hi with hi;subst hi
   rw[hK']at ho';injection ho' with ho';subst ho'
   exact⟨ob',hb',hcr hst⟩
  ·obtain⟨hk1,hk2⟩:=hsub i o' hid ho'
   obtain⟨ob2,h2,h3⟩:=hR.obj i k o' hi hk1
   refine⟨ob2,(hoth k (hR.ι_lt hi) λe=>?_).trans h2,h3.step hst⟩
   subst e
   exact hid (hR.inj i id k hi hι hk2 hC)
 ·intro i i' k o1 o2 hi hi' hc h1 h2
  have hk1:∃q1,K i=some q1/\q1.len=o1.len:=by
   by_cases hid:i=id
   ·subst hid;rw[hK']at h1;injection h1 with h1;subst h1;exact⟨_,hold,hlen.symm⟩
   ·exact⟨o1,(hsub i o1 hid h1).1,rfl⟩
  have hk2:∃q2,K i'=some q2/\q2.len=o2.len:=by
   by_cases hid:i'=id
   ·subst hid;rw[hK']at h2;injection h2 with h2;subst h2;exact⟨_,hold,hlen.symm⟩
   ·exact⟨o2,(hsub i' o2 hid h2).1,rfl⟩
  obtain⟨q1,e1,l1⟩:=hk1
  obtain⟨q2,e2,l2⟩:=hk2
  rw[<-l1,<-l2]
  exact hR.len i i' k q1 q2 hi hi' hc e1 e2
def tL(P:Program)(H:Hp)(t:TypeId)(m x:AV)(v:Option AV):Option (Nat×HO) :=
 match m with
 |.mp id=>match H id with
  |some (.map k es)=>(tmp P t).bind λp=>match x with
   |.d (.i k' n)=>if k'=k/\jJ P p.1=some k then some (id,.map k (match v with|some v=>sD es n v|none=>aRo es n))else none
   |_=>none
  |_=>none
 |_=>none
def bRw{F':Nat->Prop}{w':World}{k:IntKind}{n:Int}{v:AV}{u:Value}{es:List (Int×AV)}{ents:Array MapEntry}{clock:Nat}(hst:Ez ents clock)(hl:es.length=ents.size)
  (hes:∀(j:Nat) x,es[j]? = some x->∃en,ents[j]? = some en/\en.key=.int k x.1/\V F' w' ι x.2 en.val) (hv:V F' w' ι v u) :
  CR F' w' ι (.map k (sD es n v)) (match iP n es with
   |some j=>.map (ents.modify j λe=>{ e with key:=.int k n,val:=u }) clock
   |none=>.map (ents.push { key:=.int k n,val:=u,born:=clock }) (clock+1)):=by
 unfold sD
 cases hj:iP n es with
 |some j =>
  obtain⟨v0,hj0⟩:=rJ hj
  obtain⟨e0,q1,q2,_⟩:=hes j _ hj0
  have hjl:j<ents.size:=(BV.1 q1).1
  refine .map _ _ _ _ (by simp[hl]) (MapKept.stamped_modify hst _ _ (λ_ _=>rfl) λe' _ he'=>?_) λi x hx=>?_
  ·rw[q1]at he';cases he';exact q2.symm
  ·simp only at hx
   rw[List.getElem?_set]at hx
   by_cases hij:j=i
   ·subst hij
    have:j<es.length:=by omega
    simp only[B1,this,AU]at hx
    subst hx
    exact⟨{ e0 with key:=.int k n,val:=u },by simp[Dx,q1],rfl,hv⟩
   ·rw[Ac hij]at hx
    obtain⟨en,h1,h2,h3⟩:=hes i x hx
    exact⟨en,by simp[Dx,hij,h1],h2,h3⟩
 |none =>
  refine .map _ _ _ _ (by simp[hl]) (MapKept.stamped_push hst λx hx=>?_) λi x hx=>?_
  ·obtain⟨i,hi,rfl⟩:=BM.1 hx
   have hi':i<es.length:=by simpa[hl]using hi
   obtain⟨en,h1,h2,_⟩:=hes i _ (Ab hi')
   have hi2:i<ents.size:=by omega
   rw[AD hi2]at h1;injection h1 with h1
   simp only[FB]
   rw[h1,h2]
   intro he;injection he with _ he
   exact aFm hj i _ (Ab hi') he
  ·rw[List.getElem?_append]at hx
   split at hx
   ·rename_i hi
    obtain⟨en,h1,h2,h3⟩:=hes i x hx
    exact⟨en,by rw[Dq,Ac (by omega)];exact h1,h2,h3⟩
   ·rename_i hi
    have hi0:i=es.length:=by have:=(Ah.1 hx).1;simp at this;omega
    subst hi0
    simp at hx;subst hx
    exact⟨_,by rw[Dq,Ad hl],rfl,hv⟩
def bSc{F':Nat->Prop}{w':World}{k:IntKind}{n:Int}{es:List (Int×AV)}{ents:Array MapEntry}{clock:Nat}(hst:Ez ents clock)(hl:es.length=ents.size)
  (hes:∀(j:Nat) x,es[j]? = some x->∃en,ents[j]? = some en/\en.key=.int k x.1/\V F' w' ι x.2 en.val) :
  CR F' w' ι (.map k (aRo es n)) (match iP n es with
   |some j=>.map (ents.eraseIdxIfInBounds j) clock
   |none=>.map ents clock):=by
 unfold aRo
 cases hj:iP n es with
 |some j =>
  obtain⟨v0,hj0⟩:=rJ hj
  have hjl:j<es.length:=(Ah.1 hj0).1
  have hjl':j<ents.size:=by omega
  refine .map _ _ _ _ (by simp[EM,Gm,hjl',hl]) (MapKept.stamped_erase hst _) λi x hx=>?_
  simp only at hx
  rw[List.getElem?_eraseIdx]at hx
  have he:(ents.eraseIdxIfInBounds j)[i]? = if i<j then ents[i]? else ents[i+1]? := by simp only[Gm,dif_pos hjl'];rw[Array.getElem?_eraseIdx]
  rw[he]
  split at hx
  ·rename_i h;rw[Ad h];exact hes i x hx
  ·rename_i h;rw[Ac h];exact hes (i+1) x hx
 |none=>exact .map _ _ _ _ hl hst hes
variable {J:Nat->AV} {o:Oper}
def aPi{b:Nat}{ob:Obj}(ob':Obj)(hb:w.heap[b]? = some ob)(hs:∀cur e,ob≠.cells cur e (0,0)):Kept (·=b) w.heap.size w { w with heap:=w.heap.setIfInBounds b ob' } :=
 ⟨rfl,rfl,rfl,by simp,λk _ hk=>(Fp hb).2 k hk,λk cur e _ hc=>by
  by_cases hkb:k=b
  ·subst hkb;rw[hb]at hc;injection hc with hc;exact(hs _ _ hc).elim
  ·exact⟨cur,((Fp hb).2 k hkb).trans hc,rfl⟩⟩
def aLd{t:TypeId}{m x:Operand}{v:Option Operand}{id:Nat}{ho:HO}{K':Hp}
  (hop_:(∃y,v=some y/\(o.op=.mapUpdate t m x y\/o.op=.insert t m x y))\/(v=none/\∃kt,o.op=.call { callee:=.builtin .delete,args:=#[m,x],argTypes:=#[t,kt] })) (hHK:∀id ob,H id=some ob->K id=some ob)
  (h:tL P H t (oev J m) (oev J x) (v.map (oev J))=some (id,ho)) (hC:¬C id) (hK':K' id=some ho) (hsub:∀j o,j≠id->K' j=some o->K j=some o/\¬C j) :
  Y P G o J C K K' .any bW bW:=by
 intro F w ι a hR hop _ next Q hnext
 have om:V F w ι (oev J m) (a.eval m):=fD λt e=>hop t (by rcases hop_ with ⟨y,_,h|h⟩|⟨_,kt,h⟩<;>rw[h]<;>simp[AN,Bp,e])
 have ox:V F w ι (oev J x) (a.eval x):=fD λt e=>hop t (by rcases hop_ with ⟨y,_,h|h⟩|⟨_,kt,h⟩<;>rw[h]<;>simp[AN,Bp,e])
 unfold tL at h
 split at h
 case h_2=>cases h
 rename_i id' hm
 rw[hm]at om
 generalize hme:a.eval m=vm at om
 cases om with|mp _ b hι =>
 split at h
 case h_2=>cases h
 rename_i k es hH
 obtain⟨p,hp,hq⟩:=Ae.1 h
 clear h
 have h:=hq
 clear hq
 split at h
 case h_2=>cases h
 rename_i k' n hxx
 split at h
 case isFalse=>cases h
 rename_i hk
 obtain⟨rfl,hk⟩:=hk
 injection h with h;injection h with e1 e2;subst e1;subst e2
 rw[hxx]at ox
 generalize hxe:a.eval x=vx at ox
 cases ox with|d _ _ ox=>cases ox with|i =>
 obtain⟨ents,clock,hb,hl,hst,hes⟩:=hR.mapOf hHK hι hH
 have hu:=aCx hp
 have hf:=uM (k:=k') (n:=n) es ents.toList 0 (by simpa using hl) λj x hx=>let ⟨en,h1,h2,_⟩:=hes j x hx;⟨en,by simpa using h1,h2⟩
 have hki:P.underlying p.1=some (.int k'):=by
  unfold jJ at hk;split at hk
  ·injection hk with hk;subst hk;assumption
  ·cases hk
 have hks:=bKd (F:=F) (w:=w) (ι:=ι) hl hes
 have hik:Fw (.int k') (.int k' n):=by simp[Fw]
 have hck:=λe=>FC (P:=P) (w:=w) (k:=.int k' n) hki hik e 9999
 have hfk:=FR (P:=P) (w:=w) hki hf
 have key:∀(ob':Obj),o.upon P a next Q ((execOp a.eval o).run P w)=next (a.put o.dst (match v with|some _=>undef|none=>.tuple #[])) { w with heap:=w.heap.setIfInBounds b ob' } ->
   (∀F' w',Step F w ι F' w' ι->CR F' w' ι (.map k' (match v.map (oev J)with|some v=>sD es n v|none=>aRo es n)) ob')->o.wp P a w next Q:=by
  intro ob' hrun hcr
  unfold DY
  rw[hrun]
  obtain⟨hR',hst'⟩:=hR.write (K':=K') (ob':=ob') (ho:=.map k' (match v.map (oev J)with|some v=>sD es n v|none=>aRo es n)) (old:=.map k' es) hC hι (hHK _ _ hH) rfl (aPi ob' hb (λ_ _ h=>by cases h)) hb (Fp hb).1
   (λcur e he=>by cases he) (λhs=>hcr _ _ hs) hK' hsub
  exact hnext _ _ ι _ (hR'.congrC λid=>by simp[bW]) hst' (λ_ _ h=>.inl h) (λ_ h=>h.elim) (.any _)
 rcases hop_ with ⟨y,rfl,hop1⟩|⟨rfl,kt,hop1⟩
 ·have oy:V F w ι (oev J y) (a.eval y):=fD λt e=>hop t (by rcases hop1 with h|h<;>rw[h]<;>simp[AN,e])
  have hx2:execOp a.eval o=execOp a.eval { o with op:=.mapUpdate t m x y }:=by rcases hop1 with h|h<;>simp[execOp,h]
  refine key _ ?_ λF' w' hs=>bRw (n:=n) (u:=a.eval y) hst hl (λj x hx=>let ⟨en,h1,h2,h3⟩:=hes j x hx;⟨en,h1,h2,h3.step hs⟩) (oy.step hs)
  rw[hx2]
  cases hj:iP n es with
  |some j =>
   obtain⟨v0,hj0⟩:=rJ hj
   obtain⟨e0,q1,q2,_⟩:=hes j _ hj0
   have q1':ents.toList[j]? = some e0:=by simpa using q1
   rw[hj]at hfk
   simp only[Ej,q1',A4,A6]at hfk
   simp[execOp,hme,hxe,Instr.mapUpdate,run_underlying hu,CX hb,hck,hfk,q1,q2,MapKept.run_keyThatStays hik,Er _ hb,Oper.upon_skip]
  |none =>
   rw[hj]at hfk
   simp only[Option.bind_none]at hfk
   simp[execOp,hme,hxe,Instr.mapUpdate,run_underlying hu,CX hb,hck,hfk,Er _ hb,Oper.upon_skip]
 ·refine key _ ?_ λF' w' hs=>bSc (n:=n) hst hl (λj x hx=>let ⟨en,h1,h2,h3⟩:=hes j x hx;⟨en,h1,h2,h3.step hs⟩)
  cases hj:iP n es with
  |some j =>
   obtain⟨v0,hj0⟩:=rJ hj
   obtain⟨e0,q1,q2,_⟩:=hes j _ hj0
   have q1':ents.toList[j]? = some e0:=by simpa using q1
   rw[hj]at hfk
   simp only[Ej,q1',A4,A6]at hfk
   simp[execOp,hop1,resolve,invoke,builtin,hme,hxe,Builtin.delete_,run_underlying hu,CX hb,hck,hfk,Er _ hb,D6]
  |none =>
   rw[hj]at hfk
   simp only[Option.bind_none]at hfk
   simp[execOp,hop1,resolve,invoke,builtin,hme,hxe,Builtin.delete_,run_underlying hu,CX hb,hck,hfk,Er _ hb,D6]
end
end Go.Am
end
section
open List renaming map_map->B,mapM_map->E
namespace Go.Am
open RowKit (Below)
def aFg:AV->Bool
 |.d _|.nil|.fp _|.fd _|.un|.ub|.any=>true
 |_=>false
def noh:AV->Bool
 |.ag cs=>cs.all aFg
 |x=>aFg x
def oG:HO->Bool
 |.cells _ cs=>cs.all noh
 |.map _ es=>es.all λp=>noh p.2
 |.iter ..=>true
section
variable {P:Program} {F:Nat->Prop} {w:World} {ι:Nat->Option Nat} {G:Ctx} {C:Nat->Prop} {H K:Hp}
def aXj{x:AV}{v:Value}{ι':Nat->Option Nat}(hn:aFg x=true)(h:V F w ι x v):V F w ι' x v:=by
 cases h with
 |d x v h=>exact .d _ _ h
 |nil=>exact .nil
 |fp cs ad f hF hcell hel=>exact .fp _ _ f hF hcell hel
 |fd els ad n h=>exact .fd _ _ _ h
 |un=>exact .un
 |ub t=>exact .ub t
 |any v=>exact .any v
 |_=>cases hn
def bWk{x:AV}{v:Value}{ι':Nat->Option Nat}(hn:noh x=true)(h:V F w ι x v):V F w ι' x v:=by
 cases h with
 |ag cs vs hl h=>exact .ag _ _ hl λk c v hc hv=>aXj (Ay.1 hn c (Aq hc)) (h k c v hc hv)
 |d x v h=>exact .d _ _ h
 |nil=>exact .nil
 |fp cs ad f hF hcell hel=>exact .fp _ _ f hF hcell hel
 |fd els ad n h=>exact .fd _ _ _ h
 |un=>exact .un
 |ub t=>exact .ub t
 |any v=>exact .any v
 |_=>cases hn
def aNx{o:HO}{ob:Obj}{ι':Nat->Option Nat}(hn:oG o=true)(h:CR F w ι o ob):CR F w ι' o ob:=by
 cases h with
 |cells e cs cur hl h=>exact .cells _ _ _ hl λk c hk=>let ⟨u,h1,h2⟩:=h k c hk;⟨u,h1,bWk (Ay.1 hn c (Aq hk)) h2⟩
 |map k es ents clock hl hst h=>exact .map _ _ _ _ hl hst λj x hj=>let ⟨en,h1,h2,h3⟩:=h j x hj;⟨en,h1,h2,bWk (Ay.1 hn x (Aq hj)) h3⟩
 |iter k last es bm since c0 clock seen ents hF hb hold hsc hnd hl h hla=>exact .iter k last es bm since c0 clock seen ents hF hb hold hsc hnd hl h hla
def pJ{f g:AV->Option D}{v v':AV->List Nat}:∀(l:List AV) (ds:List D),l.mapM f=some ds->l.flatMap v=[]->(∀x∈l,∀d,f x=some d->v x=[]->g x=some d/\v' x=[])->l.mapM g=some ds/\l.flatMap v'=[]
 |[],ds,h,_,_=>by simpa using h
 |x::l,ds,h,hv,ih=>by
  simp only[Ca,CY,Ae,DI,AU]at h;obtain⟨y,hy,r',hr',rfl⟩:=h;simp only[Cz,List.append_eq_nil_iff]at hv;obtain⟨h1,h2⟩:=ih x (Av ..) y hy hv.1;obtain⟨h3,h4⟩:=pJ l r' hr' hv.2 λx hx=>ih x (Au _ hx)
  exact⟨by simp[h1,h3],by simp[h2,h4]⟩
def vZ{H H':Hp}:∀(n:Nat) (x:AV) (d:D),frz H n x=some d->vis H n x=[]->frz H' n x=some d/\vis H' n x=[]
 |0,_,_,h,_=>by cases h
 |n+1,x,d,h,hv=>by
  cases x with
  |d y=>exact⟨h,rfl⟩
  |nil=>exact⟨h,rfl⟩
  |fd els=>exact⟨h,rfl⟩
  |fp cs=>exact⟨h,rfl⟩
  |ptr id off =>
   exfalso;simp only[frz]at h;simp only[vis]at hv;split at h
   ·rename_i hH;rw[hH]at hv;cases hv
   ·cases h
  |mp id =>
   exfalso;simp only[frz]at h;simp only[vis]at hv;split at h
   ·rename_i hH;rw[hH]at hv;cases hv
   ·cases h
  |fn f cs =>
   simp only[frz,vis]at h hv ⊢;obtain⟨l,hl,rfl⟩:=Aj.1 h;obtain⟨h1,h2⟩:=pJ cs l hl hv λx _ d hx hv=>vZ n x d hx hv
   exact⟨by rw[h1];rfl,h2⟩
  |own id off len sz =>
   exfalso;simp only[frz]at h;simp only[vis]at hv;split at h
   ·rename_i hH;rw[hH]at hv;cases hv
   ·cases h
  |ag cs =>
   simp only[frz,vis]at h hv ⊢;obtain⟨l,hl,rfl⟩:=Aj.1 h;obtain⟨h1,h2⟩:=pJ cs l hl hv λx _ d hx hv=>vZ n x d hx hv
   exact⟨by rw[h1];rfl,h2⟩
  |tp cs =>
   simp only[frz,vis]at h hv ⊢;obtain⟨l,hl,rfl⟩:=Aj.1 h;obtain⟨h1,h2⟩:=pJ cs l hl hv λx _ d hx hv=>vZ n x d hx hv
   exact⟨by rw[h1];rfl,h2⟩
  |_=>cases h
def aFz{H H':Hp}{l:List AV}{ds:List D}(hv:fK H l=[])(h:fW H l=some ds):fW H' l=some ds/\fK H' l=[] :=
 pJ l ds h hv λx _ d hx hv=>vZ 8 x d hx hv
def ι1(b:Nat):Nat->Option Nat:=λid=>if id=0 then some b else none
def hd1:AV->Option (Nat×AV)
 |.mp id=>some (id,.mp 0)
 |.own id off len sz=>some (id,.own 0 off len sz)
 |.ptr id off=>some (id,.ptr 0 off)
 |_=>none
def bLd{F':Nat->Prop}{x h:AV}{id:Nat}{v:Value}(he:hd1 x=some (id,h))(hv:V F w ι x v):∃b,ι id=some b/\V F' w (ι1 b) h v:=by
 unfold hd1 at he;split at he<;>first|(cases he;done)|(injection he with he;injection he with e1 e2;subst e1;subst e2)
 ·cases hv with|mp _ b hι=>exact⟨b,hι,.mp _ _ rfl⟩
 ·cases hv with|own _ _ _ _ b cap cur e hι hb hcap hl hm=>exact⟨b,hι,.own _ _ _ _ b cap cur e rfl hb hcap hl hm⟩
 ·cases hv with|ptr _ _ b hι=>exact⟨b,hι,.ptr _ _ _ rfl⟩
def tJ(P:Program)(f:FuncId)(h:AV)(o:HO)(ds:List D)(o':HO)(r:D):Prop :=
 ∀(A:Nat->Prop) (W:World) (vs:Array Value) (b:Nat),(∀k,A k->k<W.heap.size)->¬A b->b<W.heap.size->(∃ob,W.heap[b]? = some ob/\CR A W (ι1 b) o ob)->ds.length+1=vs.size ->
  (∃v,vs[0]? = some v/\V A W (ι1 b) h v)->(∀(k:Nat) d v,ds[k]? = some d->vs[k+1]? = some v->VD A W d v) ->
  (∀w,(callFunc f vs).run P w=.ok (.enter f vs) w)/\Calls P f vs W λe w'=>∃v ob',e=.returned v/\Kept (·=b) W.heap.size W w'/\w'.heap[b]? = some ob' /\
   (∀cur e,W.heap[b]? = some (.cells cur e (0,0))->∃cur',ob'=.cells cur' e (0,0)/\cur'.size=cur.size) /\
   CR (λk=>A k\/(W.heap.size<=k/\k<w'.heap.size)) w' (ι1 b) o' ob'/\VD (λk=>A k\/(W.heap.size<=k/\k<w'.heap.size)) w' r v
variable {J:Nat->AV} {o:Oper}
def bOy{f:FuncId}{args:Array Operand}{ts:Array TypeId}{x:Operand}{rest:List Operand}{ds:List D}{id:Nat}{h:AV}{ho ho':HO}{r:D}{K':Hp}
  (hop_:o.op=.call { callee:=.value (.func f),args:=args,argTypes:=ts }) (hargs:args.toList=x::rest) (hHK:∀id ob,H id=some ob->K id=some ob)
  (hx:hd1 (oev J x)=some (id,h)) (hH:H id=some ho) (hno:oG ho=true) (hvis:fK H (rest.map (oev J))=[]) (hf:fW H (rest.map (oev J))=some ds) (hs:tJ P f h ho ds ho' r)
  (hlen:ho'.len=ho.len) (hno':oG ho'=true) (hC:¬C id) (hK':K' id=some ho') (hsub:∀j o,j≠id->K' j=some o->K j=some o/\¬C j):Y P G o J C K K' (inj r) bW bW:=by
 intro F w ι a hR hop _ next Q hnext
 have hargs':args=(x::rest).toArray:=by rw[<-hargs]
 have hop':∀y∈x::rest,V F w ι (oev J y) (a.eval y):=λy hy=>fD λt e=>hop t (by rw[hop_];subst e;simp only[AN,Bp];rw[hargs'];simpa using hy)
 obtain⟨b,hι,hv0⟩:=bLd (F':=F) hx (hop' x (Av ..))
 obtain⟨ob,hb,hcr⟩:=hR.obj id b ho hι (hHK _ _ hH)
 obtain⟨hl,hV,_⟩:=uJ hR hHK hf λy hy=>hop' y (Au _ hy)
 have hmap:args.map a.eval=(a.eval x::rest.map a.eval).toArray:=by rw[hargs'];simp
 have hnF:¬F b:=(hR.place id b hι).2.2 hC
 obtain⟨hent,hcalls⟩:=hs F w (args.map a.eval) b hR.F_lt hnF (hR.ι_lt hι) ⟨ob,hb,aNx hno hcr⟩ (by rw[hmap];simp at hl ⊢;omega) ⟨a.eval x,by rw[hmap];simp,hv0⟩
  (λk d v hk hv=>(hV k d v hk (by rw[hmap]at hv;simpa using hv)).mono λc hc=>by
   rcases hc with hc|⟨i,hi,_⟩
   ·exact hc
   ·rw[hvis]at hi;cases hi)
 unfold DY
 have hfe:a.eval (.func f)=.func (.func f) #[] #[]:=rfl
 simp only[execOp,hop_,resolve,invoke,A3,hfe,Da,Bz,AX,C9,Dz,hent,Ds]
 refine hcalls.mono ?_
 rintro e w' ⟨v,ob',rfl,hk,hb',hshape,hcr',hvd⟩
 obtain⟨hR',hst⟩:=hR.write (K':=K') (ob':=ob') (ho:=ho') hC hι (hHK _ _ hH) hlen hk hb hb' (λcur e he=>hshape cur e (by rw[hb,he])) (λ_=>aNx hno' hcr') hK' hsub
 exact hnext _ w' ι v (hR'.congrC λid=>by simp[bW]) hst (λ_ _ h=>.inl h) (λ_ h=>h.elim) (aLa hvd)
def aCl(P:Program)(f:FuncId)(h:AV)(o:Option HO)(ds:List D)(r:D):Prop :=
 ∀(A:Nat->Prop) (W:World) (vs:Array Value) (ι:Nat->Option Nat),(∀k,A k->k<W.heap.size)->(∀id b,ι id=some b->id=0/\¬A b/\b<W.heap.size)->(∀ho,o=some ho->∃b ob,ι 0=some b/\W.heap[b]? = some ob/\CR A W ι ho ob)->ds.length+1=vs.size ->
  (∃v,vs[0]? = some v/\V A W ι h v)->(∀(k:Nat) d v,ds[k]? = some d->vs[k+1]? = some v->VD A W d v) ->
  (∀w,(callFunc f vs).run P w=.ok (.enter f vs) w)/\Calls P f vs W λe w'=>∃v,e=.returned v/\Kept (λb=>ι 0=some b) W.heap.size W w' /\
   VD (λk=>A k\/ι 0=some k\/(W.heap.size<=k/\k<w'.heap.size)) w' r v
def nV{f g:AV->Option D}{v v':AV->List Nat}{Q:Nat->Prop}:∀(l:List AV) (ds:List D),l.mapM f=some ds->(∀i∈l.flatMap v,Q i)->(∀x∈l,∀d,f x=some d->(∀i∈v x,Q i)->g x=some d/\v' x=v x)->l.mapM g=some ds/\l.flatMap v'=l.flatMap v
 |[],ds,h,_,_=>by simpa using h
 |x::l,ds,h,hv,ih=>by
  simp only[Ca,CY,Ae,DI,AU]at h;obtain⟨y,hy,r',hr',rfl⟩:=h;simp only[Cz,A5]at hv;obtain⟨h1,h2⟩:=ih x (Av ..) y hy λi hi=>hv i (.inl hi)
  obtain⟨h3,h4⟩:=nV l r' hr' (λi hi=>hv i (.inr hi)) λx hx=>ih x (Au _ hx)
  exact⟨by simp[h1,h3],by simp[h2,h4]⟩
def sN{H H':Hp}:∀(n:Nat) (x:AV) (d:D),frz H n x=some d->(∀i∈vis H n x,H' i=H i)->frz H' n x=some d/\vis H' n x=vis H n x
 |0,_,_,h,_=>by cases h
 |n+1,x,d,h,hv=>by
  cases x with
  |d y=>exact⟨h,rfl⟩
  |nil=>exact⟨h,rfl⟩
  |fd els=>exact⟨h,rfl⟩
  |fp cs=>exact⟨h,rfl⟩
  |ptr id off =>
   simp only[frz]at h;simp only[vis]at hv ⊢;split at h
   case h_2=>cases h
   rename_i e cs hH;rw[hH]at hv;have hH':H' id=some (.cells e cs):=by rw[hv id (Av ..),hH]
   split at h
   case isFalse=>cases h
   rename_i hc;obtain⟨l,hl,rfl⟩:=Aj.1 h;obtain⟨h1,h2⟩:=nV (Q:=λi=>H' i=H i) (g:=frz H' n) (v':=vis H' n) _ l hl (λi hi=>hv i (Au _ hi)) λx _ d hx hv=>sN n x d hx hv
   simp only[frz,hH',hH,Ad hc,h1,h2,A4,and_self]
  |mp id =>
   simp only[frz]at h;simp only[vis]at hv ⊢;split at h
   case h_2=>cases h
   rename_i k es hH;rw[hH]at hv;have hH':H' id=some (.map k es):=by rw[hv id (Av ..),hH]
   obtain⟨l,hl,rfl⟩:=Aj.1 h;obtain⟨h1,h2⟩:=nV (Q:=λi=>H' i=H i) (g:=frz H' n) (v':=vis H' n) _ l hl (λi hi=>hv i (Au _ hi)) λx _ d hx hv=>sN n x d hx hv
   simp only[frz,hH',hH,h1,h2,A4,and_self]
  |own id off len sz =>
   simp only[frz]at h;simp only[vis]at hv ⊢;split at h
   case h_2=>cases h
   rename_i e cs hH;rw[hH]at hv;have hH':H' id=some (.cells e cs):=by rw[hv id (Av ..),hH]
   split at h
   case isFalse=>cases h
   rename_i hc;obtain⟨l,hl,rfl⟩:=Aj.1 h;obtain⟨h1,h2⟩:=nV (Q:=λi=>H' i=H i) (g:=frz H' n) (v':=vis H' n) _ l hl (λi hi=>hv i (Au _ hi)) λx _ d hx hv=>sN n x d hx hv
   simp only[frz,hH',hH,Ad hc,h1,h2,A4,and_self]
  |fn f cs =>
   simp only[frz,vis]at h hv ⊢;obtain⟨l,hl,rfl⟩:=Aj.1 h;obtain⟨h1,h2⟩:=nV (Q:=λi=>H' i=H i) cs l hl hv λx _ d hx hv=>sN n x d hx hv
   exact⟨by rw[h1];rfl,h2⟩
  |ag cs =>
   simp only[frz,vis]at h hv ⊢;obtain⟨l,hl,rfl⟩:=Aj.1 h;obtain⟨h1,h2⟩:=nV (Q:=λi=>H' i=H i) cs l hl hv λx _ d hx hv=>sN n x d hx hv
   exact⟨by rw[h1];rfl,h2⟩
  |tp cs =>
   simp only[frz,vis]at h hv ⊢;obtain⟨l,hl,rfl⟩:=Aj.1 h;obtain⟨h1,h2⟩:=nV (Q:=λi=>H' i=H i) cs l hl hv λx _ d hx hv=>sN n x d hx hv
   exact⟨by rw[h1];rfl,h2⟩
  |_=>cases h
def aSn{H H':Hp}{l:List AV}{ds:List D}(h:fW H l=some ds)(hv:∀i∈fK H l,H' i=H i):fW H' l=some ds/\fK H' l=fK H l :=
 nV (Q:=λi=>H' i=H i) l ds h hv λx _ d hx hv=>sN 8 x d hx hv
def aXq{f:FuncId}{args:Array Operand}{ts:Array TypeId}{x:Operand}{rest:List Operand}{ds:List D}{h:AV}{ho:Option HO}{r:D}{ids l:List Nat}{K':Hp}
  (hop_:o.op=.call { callee:=.value (.func f),args:=args,argTypes:=ts }) (hargs:args.toList=x::rest) (hHK:∀id ob,H id=some ob->K id=some ob)
  (hx:(∃id h0,ids=id::l/\hd1 (oev J x)=some (id,h)/\ho=some h0/\H id=some h0/\oG h0=true/\¬C id/\id ∉ l)\/(ids=l/\aFg (oev J x)=true/\h=oev J x/\ho=none))
  (hvis:fK H (rest.map (oev J))=l) (hCl:∀i∈l,¬C i) (hf:fW H (rest.map (oev J))=some ds) (hs:aCl P f h ho ds r)
  (hsub:∀j o,K' j=some o->K j=some o/\¬C j/\j ∉ ids):Y P G o J C K K' (inj r) bW (λi=>i∈ids):=by
 intro F w ι a hR hop _ next Q hnext
 have hargs':args=(x::rest).toArray:=by rw[<-hargs]
 have hop':∀y∈x::rest,V F w ι (oev J y) (a.eval y):=λy hy=>fD λt e=>hop t (by rw[hop_];subst e;simp only[AN,Bp];rw[hargs'];simpa using hy)
 obtain⟨hl,hV,hlv⟩:=uJ hR hHK hf λy hy=>hop' y (Au _ hy)
 rw[hvis]at hV hlv
 have hmap:args.map a.eval=(a.eval x::rest.map a.eval).toArray:=by rw[hargs'];simp
 obtain⟨A,hA⟩:∃A,A=reach F ι l:=⟨_,rfl⟩
 have hAF:∀b,F b->A b:=λb h=>by rw[hA];exact .inl h
 have hAlt:∀b,A b->b<w.heap.size:=λb h=>by
  rw[hA]at h;rcases h with h|⟨i,_,h⟩
  ·exact hR.F_lt b h
  ·exact hR.ι_lt h
 have hsA:∀ι',Step F w ι' A w ι':=λι'=>⟨hAF,λ_ _=>rfl,λ_ _ h=>h,λ_ _ cur _ _ h=>⟨cur,h,rfl⟩⟩
 rw[<-hA]at hV
 obtain⟨ιc,hιc,hids,hh,hob⟩:∃ιc:Nat->Option Nat,(∀id b,ιc id=some b->id=0/\¬A b/\b<w.heap.size)/\(∀b,ιc 0=some b->∃i∈ids,i ∉ l/\¬C i/\ι i=some b)/\V A w ιc h (a.eval x)/\∀h0,ho=some h0->∃b ob,ιc 0=some b/\w.heap[b]? = some ob/\CR A w ιc h0 ob:=by
  rcases hx with ⟨id,h0,rfl,hx,rfl,hH,hno,hC,hnl⟩|⟨rfl,hno,rfl,rfl⟩
  ·obtain⟨b,hι,hv0⟩:=bLd (F':=A) hx (hop' x (Av ..));obtain⟨ob,hb,hcr⟩:=hR.obj id b h0 hι (hHK _ _ hH);refine⟨ι1 b,λi c hc=>?_,λc hc=>?_,hv0,λh1 e=>?_⟩
   ·unfold ι1 at hc;split at hc
    ·rename_i e;injection hc with hc;subst hc
     refine⟨e,λhAb=>?_,hR.ι_lt hι⟩;rw[hA]at hAb;rcases hAb with h|⟨j,hj,h⟩
     ·exact(hR.place id b hι).2.2 hC h
     ·have:=hR.inj id j b hι h hC (hCl j hj);subst this;exact hnl hj
    ·cases hc
   ·simp only[ι1,B1]at hc;injection hc with hc;subst hc
    exact⟨id,Av ..,hnl,hC,hι⟩
   ·injection e with e;subst e
    exact⟨b,ob,rfl,hb,(aNx hno hcr).step (hsA _)⟩
  ·refine⟨λ_=>none,?_,?_,(aXj hno (hop' x (Av ..))).step (hsA _),?_⟩
   ·intro i b h;cases h
   ·intro b h;cases h
   ·intro h0 e;cases e
 obtain⟨hent,hcalls⟩:=hs A w (args.map a.eval) ιc hAlt hιc hob (by rw[hmap];simp at hl ⊢;omega) ⟨a.eval x,by rw[hmap];simp,hh⟩
  (λk d v hk hv=>hV k d v hk (by rw[hmap]at hv;simpa using hv))
 unfold DY
 have hfe:a.eval (.func f)=.func (.func f) #[] #[]:=rfl
 simp only[execOp,hop_,resolve,invoke,A3,hfe,Da,Bz,AX,C9,Dz,hent,Ds]
 refine hcalls.mono ?_
 rintro e w' ⟨v,rfl,hk,hvd⟩
 have hsz:=hk.size
 have hW:G.W.heap.size<=w.heap.size:=hR.kept.size
 have hnF:∀b,ιc 0=some b->¬A b/\b<w.heap.size:=λb hb=>(hιc 0 b hb).2
 have hoth:∀k,k<w.heap.size->ιc 0≠some k->w'.heap[k]? = w.heap[k]? := λk h1 h2=>hk.block k h1 h2
 have hst:Step F w ι (λk=>A k\/ιc 0=some k\/(w.heap.size<=k/\k<w'.heap.size)) w' ι :=
  ⟨λb h=>.inl (hAF b h),λk hkF=>hoth k (hR.F_lt k hkF) λe=>(hnF k e).1 (hAF k hkF),λ_ _ h=>h,λi k c0 e0 hi hk0=>hk.shape k c0 e0 (hR.ι_lt hi) hk0⟩
 have hids2:∀i,i∈l->i∈ids:=λi hi=>by
  rcases hx with ⟨id,h0,rfl,_⟩|⟨rfl,_⟩
  ·exact Au _ hi
  ·exact hi
 refine hnext _ w' ι v ⟨hR.kept.trans ⟨hk.os,hk.tape,hk.output,hk.size,λk hkW hm=>hoth k (by omega) λe=>?_,λk c0 e0 hkW hc=>hk.shape k c0 e0 (by omega) hc⟩,?_,?_,?_,?_,?_,?_⟩ hst (λ_ _ h=>.inl h) (λ_ h=>h.elim) (aLa hvd)
 ·obtain⟨i,_,_,_,hi⟩:=hids k e
  rcases(hR.place i k hi).1 with h|h
  ·exact hm h
  ·omega
 ·rintro k (h|h|h)
  ·have:=hAlt k h;omega
  ·have:=(hnF k h).2;omega
  ·exact h.2
 ·rintro k (h|h|h)
  ·rw[hA]at h
   rcases h with h|⟨i,_,hi⟩
   ·exact hR.F_ok k h
   ·rcases(hR.place i k hi).1 with h|h
    ·exact .inr (.inl h)
    ·exact .inr (.inr h)
  ·obtain⟨i,_,_,_,hi⟩:=hids k h
   rcases(hR.place i k hi).1 with h|h
   ·exact .inr (.inl h)
   ·exact .inr (.inr h)
  ·exact .inr (.inr (by omega))
 ·intro i k hi
  obtain⟨p1,p2,p3⟩:=hR.place i k hi
  refine⟨p1,by omega,λhc h=>?_⟩
  have hc1:¬C i:=λh=>hc (.inl h)
  rcases h with h|h|h
  ·rw[hA]at h
   rcases h with h|⟨j,hj,hjk⟩
   ·exact p3 hc1 h
   ·have:=hR.inj i j k hi hjk hc1 (hCl j hj)
    subst this;exact hc (.inr (hids2 _ hj))
  ·obtain⟨j,hj,_,hjC,hjk⟩:=hids k h
   have:=hR.inj i j k hi hjk hc1 hjC
   subst this;exact hc (.inr hj)
  ·omega
 ·intro i k o' hi ho'
  obtain⟨h1,h2,h3⟩:=hsub i o' ho'
  obtain⟨ob2,h4,h5⟩:=hR.obj i k o' hi h1
  refine⟨ob2,(hoth k (hR.ι_lt hi) λe=>?_).trans h4,h5.step hst⟩
  obtain⟨j,hj,_,hjC,hjk⟩:=hids k e
  have:=hR.inj i j k hi hjk h2 hjC
  subst this;exact h3 hj
 ·exact λi i' b h1 h2 c1 c2=>hR.inj i i' b h1 h2 (λh=>c1 (.inl h)) λh=>c2 (.inl h)
 ·exact λi i' b o1 o2 h1 h2 c1 k1 k2=>hR.len i i' b o1 o2 h1 h2 (λh=>c1 (.inl h)) (hsub i o1 k1).1 (hsub i' o2 k2).1
def uZ(P:Program)(f g:FuncId):Prop :=
 ∀(W:World) (b:Nat),(∀w,(callFunc f #[.map (some b)]).run P w=.ok (.enter f #[.map (some b)]) w) /\
  Calls P f #[.map (some b)] W λe w'=>∃e0,e=.returned (.func (.func g) #[] #[.pointer (some ⟨W.heap.size,0,none⟩)])/\w'=W.alloc (.cells #[.map (some b)] e0)
def ins(n:Int):List Int->List Int
 |[]=>[n]
 |m::l=>if n<=m then n::m::l else m::ins n l
def gZ:List Int->List Int
 |[]=>[]
 |n::l=>ins n (gZ l)
def inr(n:Int):Bool:=decide (-9223372036854775808<=n/\n<=9223372036854775807)
def nD(P:Program)(f g:FuncId):Prop :=
 ∀(W:World) (b p:Nat) (e:TypeId) (ks:List Int) (ents:Array MapEntry) (clock:Nat),W.heap[b]? = some (.map ents clock)->Ez ents clock->ents.toList.map (·.key)=ks.map (.int .i64 ·) ->
  W.heap[p]? = some (.cells #[.map (some b)] e (0,0))->ks.length<=1099511627776->ks.all inr=true ->
  (∀w,(callFunc f #[.func (.func g) #[] #[.pointer (some ⟨p,0,none⟩)]]).run P w=.ok (.enter f #[.func (.func g) #[] #[.pointer (some ⟨p,0,none⟩)]]) w) /\
  Calls P f #[.func (.func g) #[] #[.pointer (some ⟨p,0,none⟩)]] W λe w'=>∃v,e=.returned v/\Below W.heap.size W w' /\
   VD (λk=>W.heap.size<=k/\k<w'.heap.size) w' (.sl ((gZ ks).map λn=>[.i .i64 n])) v
def bWr{f g:FuncId}{args:Array Operand}{ts:Array TypeId}{x:Operand}{id:Nat}(hop_:o.op=.call { callee:=.value (.func f),args:=args,argTypes:=ts })(hargs:args.toList=[x])
  (hx:oev J x=.mp id) (hs:uZ P f g):Y P G o J C K K (.kf g id) bW bW:=by
 intro F w ι a hR hop _ next Q hnext
 have hargs':args=#[x]:=by cases args;simp only at hargs;subst hargs;rfl
 have ox:V F w ι (oev J x) (a.eval x):=fD λt e=>hop t (by rw[hop_,hargs'];simp[AN,Bp,e])
 rw[hx]at ox
 generalize hxe:a.eval x=u at ox
 cases ox with|mp _ b hι =>
 obtain⟨hent,hcalls⟩:=hs w b
 unfold DY
 have hfe:a.eval (.func f)=.func (.func f) #[] #[]:=rfl
 simp only[execOp,hop_,hargs',resolve,invoke,A3,hfe,Da,Bz,AX,C9,Dz,List.map_toArray,AZ,DC,hxe,hent,Ds]
 refine hcalls.mono ?_
 rintro e w' ⟨e0,rfl,rfl⟩
 obtain⟨hR',hst⟩:=hR.call (((Below.refl _ w).alloc (Ap _) (.cells #[.map (some b)] e0))) [] (by simp)
 refine hnext _ _ ι _ (hR'.congrC λid=>by simp[bW]) hst (λ_ _ h=>.inl h) (λ_ h=>h.elim) (.kf g id b w.heap.size e0 hι (.inr (.inr ⟨Ap _,by simp⟩)) ?_)
 exact(MapKept.heap_alloc w _).1
def aNy{f g:FuncId}{args:Array Operand}{ts:Array TypeId}{x:Operand}{id:Nat}{es:List (Int×AV)}(hop_:o.op=.call { callee:=.value (.func f),args:=args,argTypes:=ts })(hargs:args.toList=[x])
  (hHK:∀id ob,H id=some ob->K id=some ob) (hx:oev J x=.kf g id) (hH:H id=some (.map .i64 es)) (hn:es.length<=1099511627776) (hr:(es.map (·.1)).all inr=true) (hs:nD P f g) :
  Y P G o J C K K (.d (.sl ((gZ (es.map (·.1))).map λn=>[.i .i64 n]))) bW bW:=by
 intro F w ι a hR hop _ next Q hnext
 have hargs':args=#[x]:=by cases args;simp only at hargs;subst hargs;rfl
 have ox:V F w ι (oev J x) (a.eval x):=fD λt e=>hop t (by rw[hop_,hargs'];simp[AN,Bp,e])
 rw[hx]at ox
 generalize hxe:a.eval x=u at ox
 cases ox with|kf _ _ b p e hι hF hp =>
 obtain⟨ents,clock,hb,hl,hst,hes⟩:=hR.mapOf hHK hι hH
 have hkeys:ents.toList.map (·.key)=(es.map (·.1)).map (.int .i64 ·):=by
  refine List.ext_getElem? λj=>?_
  simp only[Aw,Bn];cases hj:es[j]? with
  |none =>
   have:ents[j]? = none:=by rw[Array.getElem?_eq_none_iff];rw[List.getElem?_eq_none_iff]at hj;omega
   rw[this];rfl
  |some y=>obtain⟨en,h1,h2,_⟩:=hes j y hj;rw[h1];simp[h2]
 obtain⟨hent,hcalls⟩:=hs w b p e (es.map (·.1)) ents clock hb hst hkeys hp (by simpa using hn) hr
 unfold DY
 have hfe:a.eval (.func f)=.func (.func f) #[] #[]:=rfl
 simp only[execOp,hop_,hargs',resolve,invoke,A3,hfe,Da,Bz,AX,C9,Dz,List.map_toArray,AZ,DC,hxe,hent,Ds]
 refine hcalls.mono ?_
 rintro e' w' ⟨v,rfl,hbl,hv⟩
 obtain⟨hR',hst⟩:=hR.call hbl [] (by simp)
 exact hnext _ _ ι _ (hR'.congrC λid=>by simp[bW]) hst (λ_ _ h=>.inl h) (λ_ h=>h.elim) (.d _ _ (hv.mono λb hb=>.inr (.inr hb)))
end
end Go.Am
end
section
open List renaming map_map->B,mapM_map->E
namespace Go.Am
structure AS where
 J:Nat->AV
 T:Nat->Prop
 K:Hp
 U:Nat->Prop
def bT(J:Nat->AV)(d:Option Tmp)(v:AV):Nat->AV :=
 match d with
 |some d=>upd J d v
 |none=>J
def bFo:List String:=["slices.Insert[torsion/api.Complex,torsion/api.Cell]", "slices.Delete[torsion/api.Complex,torsion/api.Cell]"]
def bB(P:Program)(f:FuncId):Bool:=match P.funcs[f]? with|some fn=>fn.resultTypes.isEmpty||(match fn.params[0]? with|some t=>(tmp P t).isSome|none=>false)||bFo.contains fn.name|none=>false
def aVq(P:Program)(ts:Array TypeId):Bool:=match ts.toList with|[t]=>(tel P t).isNone&&(tmp P t).isSome|_=>false
def aRs(P:Program)(t:TypeId):aVq P #[t]=((tel P t).isNone&&(tmp P t).isSome):=rfl
def kind(P:Program):Op->Nat
 |.load ..=>1
 |.lookup ..=>1
 |.entry ..=>1
 |.call { callee:=.value (.func f),.. }=>if bB P f then 2 else 1
 |.call { callee:=.builtin .append,.. }=>1
 |.call { callee:=.builtin .delete,.. }=>2
 |.call { callee:=.builtin .len,argTypes:=ts,.. }=>if aVq P ts then 1 else 0
 |.store ..=>2
 |.mapUpdate ..=>2
 |.insert ..=>2
 |.call { callee:=.value _,.. }=>1
 |.call { callee:=.invoke ..,.. }=>1
 |_=>0
def mG(id:Nat):AV->Bool
 |.ptr i _|.mp i|.own i _ _ _=>i==id
 |_=>false
open Classical in
noncomputable def kK(K:Hp)(T:Nat->Prop)(id:Nat)(ho:HO):Hp:=λj=>if j=id then some ho else if T j then none else K j
def EvN(P:Program)(G:Ctx)(o:Oper)(J:Nat->AV)(K K':Hp)(av:AV)(new con:Nat->Prop):Prop :=
 kind P o.op=0/\K'=K/\con=bW/\∀(T2:Nat->Prop) (K2:Hp),(∀id,new id->K2 id=K id)->Y P G o J T2 K2 K2 av new bW
def EvR(P:Program)(G:Ctx)(o:Oper)(J:Nat->AV)(T:Nat->Prop)(K K':Hp)(av:AV)(new con:Nat->Prop):Prop :=
 kind P o.op=1/\K'=K/\(∀id,con id->¬T id) /\
 (∀F w ι T2 (a:Act),HR G F w ι T2 K->(∀t,CI t∈o.op.operands->V F w ι (J t) (a.tmps.getD t undef))->∀id,con id->∃b,ι id=some b) /\
 ∀T2:Nat->Prop,(∀id,con id->¬T2 id)->Y P G o J T2 K K av new con
def EvW(P:Program)(G:Ctx)(o:Oper)(J:Nat->AV)(T:Nat->Prop)(K K':Hp)(av:AV)(new con:Nat->Prop):Prop :=
 kind P o.op=2/\new=bW/\con=bW/\∃id t old ho,CI t∈o.op.operands/\mG id (J t)=true/\K id=some old/\¬T id/\K'=kK K T id ho /\
  ∀(T2:Nat->Prop) (K2:Hp),K2 id=some old->¬T2 id->Y P G o J T2 K2 (kK K2 T2 id ho) av bW bW
open Classical in
noncomputable def rP(K:Hp)(T S:Nat->Prop)(g:Hp):Hp:=λj=>if S j then g j else if T j then none else K j
def EvG(P:Program)(G:Ctx)(o:Oper)(J:Nat->AV)(T:Nat->Prop)(K K':Hp)(av:AV)(new con:Nat->Prop):Prop :=
 kind P o.op=2/\∃(S:Nat->Prop) (g:Hp),(∀id,S id->¬T id)/\(∀id,con id->S id)/\(∀id,new id->¬S id) /\
  (∀id,S id->∀F w ι T2 (a:Act),HR G F w ι T2 K->(∀t,CI t∈o.op.operands->V F w ι (J t) (a.tmps.getD t undef))->∃b,ι id=some b)/\K'=rP K T S g /\
  ∀(T2:Nat->Prop) (K2:Hp),(∀id,S id->¬T2 id/\K2 id=K id)->(∀id,new id->¬T2 id/\K2 id=K id)->Y P G o J T2 K2 (rP K2 T2 S g) av new con
def Ev(P:Program)(G:Ctx)(o:Oper)(J:Nat->AV)(T:Nat->Prop)(K K':Hp)(av:AV)(new con:Nat->Prop):Prop :=
 EvN P G o J K K' av new con\/EvR P G o J T K K' av new con\/EvW P G o J T K K' av new con\/EvG P G o J T K K' av new con
def Un(G:Ctx)(s:AS):Prop:=∀F w ι (a:Act),HR G F w ι s.T s.K->(∀id b,ι id=some b->s.U id)->(∀t,V F w ι (s.J t) (a.tmps.getD t undef))->False
def eY(ops:Array Oper)(o:Oper)(J:Nat->AV):Option Bool :=
 match o.guard with
 |none=>some true
 |some (j,want)=>match(ops[j]?).bind (·.dst)with
  |none=>some false
  |some d=>match J d with
   |.d (.b x)=>some (x==want)
   |.un=>some false
   |_=>none
inductive qX(P:Program)(G:Ctx)(ops:Array Oper)(o:Oper)(s:AS):AS->Prop where
 |yes (av:AV) (new con:Nat->Prop) (K':Hp) (hw:eY ops o s.J=some true) (hev:Ev P G o s.J s.T s.K K' av new con) (hU:∀id,new id->¬s.U id) (hT:∀id,new id->¬s.T id) (h0:new 0->∀b,G.P0 b) :
   qX P G ops o s ⟨bT s.J o.dst av,λid=>s.T id\/con id,K',λid=>s.U id\/new id⟩
 |no (hw:eY ops o s.J=some false):qX P G ops o s ⟨bT s.J o.dst .un,s.T,s.K,s.U⟩
def aOp(P:Program)(G:Ctx)(ops:Array Oper)(i:Nat)(k:AS->Prop)(s:AS):Prop :=
 match ops[i]? with
 |none=>k s
 |some o=>Un G s\/∃s',qX P G ops o s s'/\k s'
def aNp(P:Program)(G:Ctx)(ops:Array Oper)(Q:AS->Prop):Nat->Array Bool->AS->Prop
 |0,listed,s=>BU .any ops listed=[]/\Q s
 |fuel+1,listed,s=>(BU .any ops listed=[]->Q s)/\∀i∈BU .any ops listed,aOp P G ops i (aNp P G ops Q fuel (listed.setIfInBounds i true)) s
def aBr(P:Program)(ops:Array Oper)(x y:Oper):Bool :=
 x.apart ops y && !(kind P x.op==2&&kind P y.op != 0) && !(kind P y.op==2&&kind P x.op != 0)
def aMg{J:Nat->AV}{d:Option Tmp}{v:AV}{t:Nat}(h:d≠some t):bT J d v t=J t:=by
 cases d with
 |none=>rfl
 |some d=>exact dX _ _ λe=>h (e ▸ rfl)
def vN(J:Nat->AV){x y:Option Tmp}(v u:AV)(h:∀d,x=some d->y≠some d):bT (bT J x v) y u=bT (bT J y u) x v:=by
 cases x with
 |none=>rfl
 |some d =>
  cases y with
  |none=>rfl
  |some e =>
   have hne:d≠e:=λhe=>h d rfl (he ▸ rfl)
   funext t;by_cases h1:t=d
   ·subst h1;simp[bT,upd,hne]
   ·by_cases h2:t=e
    ·subst h2;simp[bT,upd,h1]
    ·simp[bT,upd,h1,h2]
section
variable {P:Program} {G:Ctx} {ops:Array Oper}
def Y.congrΓ{o:Oper}{J Γ':Nat->AV}{T:Nat->Prop}{K K':Hp}{av:AV}{new con:Nat->Prop}(h:Y P G o J T K K' av new con)
  (he:∀t,CI t∈o.op.operands->Γ' t=J t):Y P G o Γ' T K K' av new con :=
 λF w ι a hR hop hn next Q hx=>h F w ι a hR (λt ht=>by rw[<-he t ht];exact hop t ht) hn next Q hx
def Ev.congrΓ{o:Oper}{J Γ':Nat->AV}{T:Nat->Prop}{K K':Hp}{av:AV}{new con:Nat->Prop}(h:Ev P G o J T K K' av new con)
  (he:∀t,CI t∈o.op.operands->Γ' t=J t):Ev P G o Γ' T K K' av new con:=by
 rcases h with ⟨hk,h1,h2,h⟩|⟨hk,h1,hT,hl,h⟩|⟨hk,h1,h2,id,t,old,ho,ht,hΓ,hold,hT,hK,h⟩|⟨hk,S,g,q1,q2,q3,q4,q5,h⟩
 ·exact .inl ⟨hk,h1,h2,λT2 K2 hK=>(h T2 K2 hK).congrΓ he⟩
 ·exact .inr (.inl ⟨hk,h1,hT,λF w ι T2 a hR hop=>hl F w ι T2 a hR λt ht=>by rw[<-he t ht];exact hop t ht,λT2 hT2=>(h T2 hT2).congrΓ he⟩)
 ·exact .inr (.inr (.inl ⟨hk,h1,h2,id,t,old,ho,ht,by rw[he t ht];exact hΓ,hold,hT,hK,λT2 K2 h1 h2=>(h T2 K2 h1 h2).congrΓ he⟩))
 ·exact .inr (.inr (.inr ⟨hk,S,g,q1,q2,q3,λid hid F w ι T2 a hR hop=>q4 id hid F w ι T2 a hR λt ht=>by rw[<-he t ht];exact hop t ht,q5,λT2 K2 h1 h2=>(h T2 K2 h1 h2).congrΓ he⟩))
def aIb{o:Oper}{d:Nat}(h:d ∉ o.looksAt ops):CI d ∉ o.op.operands:=λhx =>
 h (List.mem_append_left _ (List.mem_filterMap.2 ⟨.tmp d,by simpa using hx,rfl⟩))
def jQ{o:Oper}{J:Nat->AV}{dst:Option Tmp}{v:AV}(h:∀d,dst=some d->d ∉ o.looksAt ops):eY ops o (bT J dst v)=eY ops o J:=by
 unfold eY;cases hg:o.guard with
 |none=>rfl
 |some gw =>
  obtain⟨g,want⟩:=gw;simp only;cases ht:(ops[g]?).bind (·.dst)with
  |none=>rfl
  |some t =>
   simp only;rw[aMg λe=>h t e (by simp[Oper.looksAt,hg,ht])]
def lK{o:Oper}{J:Nat->AV}{dst:Option Tmp}{v:AV}(h:∀d,dst=some d->d ∉ o.looksAt ops):∀t,CI t∈o.op.operands->bT J dst v t=J t :=
 λt ht=>aMg λe=>aIb (h t e) ht
def or_none(T:Nat->Prop):(λid=>T id\/bW id)=T:=funext λid=>propext (by simp[bW])
def oY{K:Hp}{T:Nat->Prop}{id i:Nat}{ho:HO}(h1:i≠id)(h2:¬T i):kK K T id ho i=K i:=by unfold kK;rw[Ac h1,Ac h2]
def aQh{s:AS}{t id:Nat}(hΓ:mG id (s.J t)=true)(hU:¬s.U id):Un G s:=by
 intro F w ι a _ hd hV;have:=hV t;generalize s.J t=x at this hΓ;generalize a.tmps.getD t undef=v at this;unfold mG at hΓ;split at hΓ
 ·simp only[CK]at hΓ;subst hΓ;cases this with|ptr _ _ b hι=>exact hU (hd _ _ hι)
 ·simp only[CK]at hΓ;subst hΓ;cases this with|mp _ b hι=>exact hU (hd _ _ hι)
 ·simp only[CK]at hΓ;subst hΓ;cases this with|own _ _ _ _ b cap cur e hι=>exact hU (hd _ _ hι)
 ·cases hΓ
def swap{oi oj:Oper}{s s1 s2:AS}(hap:aBr P ops oi oj=true)(hi:qX P G ops oi s s1)(hj:qX P G ops oj s1 s2) :
  Un G s\/∃s1',qX P G ops oj s s1'/\qX P G ops oi s1' s2:=by
 simp only[aBr,AO,Co,Bool.and_eq_false_iff,beq_eq_false_iff_ne,bne_eq_false_iff_eq]at hap
 obtain⟨⟨hap,hw1⟩,hw2⟩:=hap
 obtain⟨h1,h2,h3⟩:=Oper.apart_spec hap
 cases hi with
 |no hwi =>
  cases hj with
  |no hwj =>
   refine .inr ⟨_,.no (by rw[<-hwj];exact(jQ h1).symm),?_⟩
   have:=qX.no (P:=P) (G:=G) (ops:=ops) (o:=oi) (s:=⟨bT s.J oj.dst .un,s.T,s.K,s.U⟩) (by rw[<-hwi];exact jQ h3)
   simp only at this ⊢
   rwa [vN s.J .un .un h2]
  |yes av new con K' hwj hev hU hT h0 =>
   refine .inr ⟨_,.yes av new con K' (by rw[<-hwj];exact(jQ h1).symm) (hev.congrΓ λt ht=>(lK h1 t ht).symm) hU hT h0,?_⟩
   have:=qX.no (P:=P) (G:=G) (ops:=ops) (o:=oi) (s:=⟨bT s.J oj.dst av,λid=>s.T id\/con id,K',λid=>s.U id\/new id⟩) (by rw[<-hwi];exact jQ h3)
   simp only at this ⊢
   rwa [vN s.J .un av h2]
 |yes avi newi coni Ki hwi hevi hUi hTi h0i =>
  have hwi':∀(v:AV),eY ops oi (bT s.J oj.dst v)=some true:=λv=>by rw[<-hwi];exact jQ h3
  cases hj with
  |no hwj =>
   refine .inr ⟨_,.no (by rw[<-hwj];exact(jQ h1).symm),?_⟩
   have:=qX.yes (P:=P) (G:=G) (ops:=ops) (o:=oi) (s:=⟨bT s.J oj.dst .un,s.T,s.K,s.U⟩) avi newi coni Ki (hwi' _) (hevi.congrΓ (lK h3)) hUi hTi h0i
   simp only at this ⊢
   rwa [vN s.J avi .un h2]
  |yes avj newj conj Kj hwj hevj hUj hTj h0j =>
   have hwj':eY ops oj s.J=some true:=by rw[<-hwj];exact(jQ h1).symm
   have hevj0:=hevj.congrΓ (Γ':=s.J) λt ht=>(lK h1 t ht).symm
   have hevi':=hevi.congrΓ (Γ':=bT s.J oj.dst avj) (lK h3)
   simp only at hUj hTj hevj0
   have hUj0:∀id,newj id->¬s.U id:=λid h hu=>hUj id h (.inl hu)
   have hTj0:∀id,newj id->¬s.T id:=λid h hu=>hTj id h (.inl hu)
   have hdis:∀id,newi id->¬newj id:=λid h hj=>hUj id hj (.inr h)
   have hUi1:∀id,newi id->¬(s.U id\/newj id):=λid h hu=>hu.elim (hUi id h) (hdis id h)
   have eU:(λid=>(s.U id\/newi id)\/newj id)=λid=>(s.U id\/newj id)\/newi id:=funext λid=>propext ⟨λh=>by rcases h with (h|h)|h<;>simp[h],λh=>by rcases h with (h|h)|h<;>simp[h]⟩
   have eT:(λid=>(s.T id\/coni id)\/conj id)=λid=>(s.T id\/conj id)\/coni id:=funext λid=>propext ⟨λh=>by rcases h with (h|h)|h<;>simp[h],λh=>by rcases h with (h|h)|h<;>simp[h]⟩
   have fin:∀K1,(∀id,newi id->¬conj id)->Ev P G oj s.J s.T s.K K1 avj newj conj->Ev P G oi (bT s.J oj.dst avj) (λid=>s.T id\/conj id) K1 Kj avi newi coni ->
     ∃s1',qX P G ops oj s s1'/\qX P G ops oi s1' ⟨bT (bT s.J oi.dst avi) oj.dst avj,λid=>(s.T id\/coni id)\/conj id,Kj,λid=>(s.U id\/newi id)\/newj id⟩:=by
    intro K1 hnc e1 e2
    refine⟨_,.yes avj newj conj K1 hwj' e1 hUj0 hTj0 h0j,?_⟩
    have:=qX.yes (P:=P) (G:=G) (ops:=ops) (o:=oi) (s:=⟨bT s.J oj.dst avj,λid=>s.T id\/conj id,K1,λid=>s.U id\/newj id⟩) avi newi coni Kj (hwi' _) e2 hUi1
     (λid h ht=>ht.elim (hTi id h) (hnc id h)) h0i
    simp only at this ⊢
    rwa [vN s.J avi avj h2,eU,eT]
   have gkeep:∀{K:Hp} {T S:Nat->Prop} {g:Hp} {i:Nat},¬S i->¬T i->rP K T S g i=K i:=λh1 h2=>by unfold rP;rw[Ac h1,Ac h2]
   rcases hevi' with ⟨hki,rfl,rfl,hYi⟩|⟨hki,rfl,hcTi,hli,hYi⟩|⟨hki,rfl,rfl,id,t,old,ho,ht,hΓ,hold,hT,rfl,hYi⟩|⟨hki,S,g,a1,a2,a3,a4,rfl,hYi⟩
   ·-- oi neutral
    rcases hevj0 with ⟨hkj,rfl,rfl,hYj⟩|⟨hkj,rfl,hcTj,hlj,hYj⟩|⟨hkj,rfl,rfl,id,t,old,ho,ht,hΓ,hold,hT,rfl,hYj⟩|⟨hkj,S,g,b1,b2,b3,b4,rfl,hYj⟩
    ·exact .inr (fin _ (λ_ _ h=>h) (.inl ⟨hkj,rfl,rfl,hYj⟩) (.inl ⟨hki,rfl,rfl,hYi⟩))
    ·by_cases hx:∃id,newi id/\conj id
     ·obtain⟨id,hn,hc⟩:=hx
      exact .inl λF w ι a hR hd hV=>let ⟨b,hb⟩:=hlj F w ι s.T a hR (λt _=>hV t) id hc;hUi id hn (hd id b hb)
     ·exact .inr (fin _ (λid h1 h2=>hx ⟨id,h1,h2⟩) (.inr (.inl ⟨hkj,rfl,λid h ht=>hcTj id h (.inl ht),hlj,hYj⟩)) (.inl ⟨hki,rfl,rfl,hYi⟩))
    ·by_cases hid:newi id
     ·exact .inl (aQh hΓ (hUi id hid))
     ·have hsT:¬s.T id:=λh=>hT (.inl h)
      have e0:kK s.K (λi=>s.T i\/bW i) id ho=kK s.K s.T id ho:=by rw[or_none]
      refine .inr ?_
      have h4:=fin (kK s.K s.T id ho) (λ_ _ h=>h) (.inr (.inr (.inl ⟨hkj,rfl,rfl,id,t,old,ho,ht,hΓ,hold,hsT,rfl,hYj⟩)))
       (.inl ⟨hki,e0,rfl,λT2 K2 hK=>hYi T2 K2 λi hi=>by rw[hK i hi];exact oY (λe=>hid (e ▸ hi)) (hTi i hi)⟩)
      exact h4
    ·by_cases hx:∃id,newi id/\S id
     ·obtain⟨id,hn,hc⟩:=hx
      exact .inl λF w ι a hR hd hV=>let ⟨b,hb⟩:=b4 id hc F w ι s.T a hR (λt _=>hV t);hUi id hn (hd id b hb)
     ·have hsT:∀id,S id->¬s.T id:=λid h ht=>b1 id h (.inl ht)
      have e0:rP s.K (λi=>s.T i\/bW i) S g=rP s.K s.T S g:=by rw[or_none]
      refine .inr ?_
      have h4:=fin (rP s.K s.T S g) (λid h1 h2=>hx ⟨id,h1,b2 id h2⟩) (.inr (.inr (.inr ⟨hkj,S,g,hsT,b2,b3,b4,rfl,hYj⟩)))
       (.inl ⟨hki,e0,rfl,λT2 K2 hK=>hYi T2 K2 λi hi=>by rw[hK i hi];exact gkeep (λe=>hx ⟨i,hi,e⟩) (hTi i hi)⟩)
      exact h4
   ·-- oi reads
    rcases hevj0 with ⟨hkj,rfl,rfl,hYj⟩|⟨hkj,rfl,hcTj,hlj,hYj⟩|⟨hkj,_⟩|⟨hkj,_⟩
    ·exact .inr (fin _ (λ_ _ h=>h) (.inl ⟨hkj,rfl,rfl,hYj⟩) (.inr (.inl ⟨hki,rfl,λid h ht=>by rw[or_none]at ht;exact hcTi id h ht,hli,hYi⟩)))
    ·by_cases hx:∃id,newi id/\conj id
     ·obtain⟨id,hn,hc⟩:=hx
      exact .inl λF w ι a hR hd hV=>let ⟨b,hb⟩:=hlj F w ι s.T a hR (λt _=>hV t) id hc;hUi id hn (hd id b hb)
     ·exact .inr (fin _ (λid h1 h2=>hx ⟨id,h1,h2⟩) (.inr (.inl ⟨hkj,rfl,λid h ht=>hcTj id h (.inl ht),hlj,hYj⟩))
       (.inr (.inl ⟨hki,rfl,λid h ht=>ht.elim (hcTi id h) λhc=>hcTj id hc (.inr h),hli,hYi⟩)))
    ·omega
    ·omega
   ·-- oi writes
    rcases hevj0 with ⟨hkj,rfl,rfl,hYj⟩|⟨hkj,_⟩|⟨hkj,_⟩|⟨hkj,_⟩
    ·by_cases hid:newj id
     ·have:=(lK (J:=s.J) (v:=avj) h3 t ht)
      rw[this]at hΓ
      exact .inl (aQh hΓ (hUj0 id hid))
     ·refine .inr ?_
      have h4:=fin s.K (λ_ h _=>h) (.inl ⟨hkj,rfl,rfl,λT2 K2 hK=>hYj T2 K2 λi hi=>by rw[hK i hi];exact(oY (λe=>hid (by rw[<-e];exact hi)) (hTj0 i hi)).symm⟩)
       (.inr (.inr (.inl ⟨hki,rfl,rfl,id,t,old,ho,ht,hΓ,hold,by rw[or_none];exact hT,by rw[or_none],hYi⟩)))
      exact h4
    ·omega
    ·omega
    ·omega
   ·-- oi turns many
    rcases hevj0 with ⟨hkj,rfl,rfl,hYj⟩|⟨hkj,_⟩|⟨hkj,_⟩|⟨hkj,_⟩
    ·by_cases hx:∃id,newj id/\S id
     ·obtain⟨id,hn,hc⟩:=hx
      exact .inl λF w ι a hR hd hV=>let ⟨b,hb⟩:=a4 id hc F w ι s.T a hR (λt ht=>by rw[lK h3 t ht];exact hV t);hUj0 id hn (hd id b hb)
     ·refine .inr ?_
      have h4:=fin s.K (λ_ _ h=>h) (.inl ⟨hkj,rfl,rfl,λT2 K2 hK=>hYj T2 K2 λi hi=>by rw[hK i hi];exact(gkeep (λe=>hx ⟨i,hi,e⟩) (hTj0 i hi)).symm⟩)
       (.inr (.inr (.inr ⟨hki,S,g,λid h ht=>by rw[or_none]at ht;exact a1 id h ht,a2,a3,a4,by rw[or_none],hYi⟩)))
      exact h4
    ·omega
    ·omega
    ·omega
def bFg{o:Oper}{a:Act}{w:World}(h:o.wp P a w (λ_ _=>False) (λ_ _ _=>False)):False:=by
 unfold DY at h;generalize(execOp a.eval o).run P w=r at h;cases r with
 |ok n w' =>
  cases n<;>simp only[Oper.upon]at h
  case enter f args =>
   obtain⟨e,w'',fr,hR,_⟩:=h []
   cases e with
   |returned v=>exact hR
   |panicked c=>exact hR
   |outgrown=>exact let ⟨_,_,h⟩:=hR;h
  case row row args=>obtain⟨v,w'',hR,_⟩:=h default [];exact hR
 |halt x w'=>cases x<;>simp only[Oper.upon]at h
def aYl(a:Act)(dst:Option Tmp)(u:Value):∃a2:Act,∀t,a2.tmps.getD t undef=if dst=some t then u else a.tmps.getD t undef:=by
 cases dst with
 |none=>exact⟨a,λt=>by simp⟩
 |some d =>
  refine⟨⟨(Array.range (max (d+1) a.tmps.size)).map λt=>if d=t then u else a.tmps.getD t undef,[]⟩,λt=>?_⟩;simp only[Bj,E7,Array.getElem?_range,AU];by_cases ht:t<max (d+1) a.tmps.size
  ·rw[Ad ht];rfl
  ·have hdt:¬d=t:=λe=>ht (by rw[<-e];exact Nat.lt_of_lt_of_le (Nat.lt_succ_self d) (Nat.le_max_left ..))
   rw[Ac ht,Ac hdt];simp only[Option.map_none,Option.getD_none];rw[B6 (by simp only[Nat.not_lt]at ht;exact Nat.le_trans (Nat.le_max_right ..) ht)];rfl
def aHj{F:Nat->Prop}{w:World}{ι:Nat->Option Nat}{J:Nat->AV}{dst:Option Tmp}{av:AV}{f g:Nat->Value}{u:Value}(hV:∀t,V F w ι (J t) (f t))(hu:V F w ι av u)
  (hg:∀t,g t=if dst=some t then u else f t):∀t,V F w ι (bT J dst av t) (g t):=by
 intro t
 rw[hg t]
 by_cases h:dst=some t
 ·subst h;simp only[bT,dC,B1];exact hu
 ·rw[aMg h,Ac h];exact hV t
def bPh{o:Oper}{s s1:AS}(hd:qX P G ops o s s1)(hu:Un G s1):Un G s:=by
 intro F w ι a hR hdm hV;cases hd with
 |no hw =>
  obtain⟨a2,h2⟩:=aYl a o.dst undef;exact hu F w ι a2 hR hdm (aHj hV .un h2)
 |yes av new con K' hw hev hU hT h0 =>
  have hY:Y P G o s.J s.T s.K K' av new con:=by
   rcases hev with ⟨_,rfl,rfl,h⟩|⟨_,rfl,hcT,_,h⟩|⟨_,rfl,rfl,id,t,old,ho,_,_,hold,hT,rfl,h⟩|⟨_,S,g,q1,_,_,_,rfl,h⟩
   ·exact h _ _ λ_ _=>rfl
   ·exact h _ hcT
   ·exact h _ _ hold hT
   ·exact h _ _ (λid hid=>⟨q1 id hid,rfl⟩) λid hid=>⟨hT id hid,rfl⟩
  refine bFg (P:=P) (hY F w ι a hR (λt _=>hV t) (λid hn=>?_) _ _ λF' w' ι' u hR' hs hd1 hd2 hv=>?_)
  ·cases hi:ι id with
   |none=>rfl
   |some b=>exact absurd (hdm id b hi) (hU id hn)
  ·obtain⟨a2,h2⟩:=aYl a o.dst u;refine hu F' w' ι' a2 hR' (λid b hb=>?_) (aHj (λt=>(hV t).step hs) hv h2);rcases hd1 id b hb with h|h
   ·exact .inl (hdm id b h)
   ·exact .inr h
def Dc(ops:Array Oper)(listed:Array Bool):Prop :=
 ∀(m:Nat) (om:Oper),listed.getD m false=true->ops[m]? = some om->∀e∈om.after,Es .any e=true->listed.getD e.on false=true
def dep(ops:Array Oper):Nat->Nat->Nat->Bool
 |0,_,_=>false
 |f+1,j,i=>match ops[j]? with
  |some o=>o.after.any λe=>Es .any e&&(e.on==i||dep ops f e.on i)
  |none=>false
def aGr{listed:Array Bool}(hdc:Dc ops listed):∀(f j i:Nat),(∀o,ops[j]? = some o->∀e∈o.after,Es .any e=true->listed.getD e.on false=true)->dep ops f j i=true->listed.getD i false=true
 |0,_,_,_,h=>by cases h
 |f+1,j,i,hj,h=>by
  unfold dep at h;split at h
  ·rename_i o ho;obtain⟨e,he,hb⟩:=Array.any_eq_true'.1 h;simp only[AO,CG,CK]at hb;obtain⟨h1,h2⟩:=hb;have hl:=hj o ho e he h1;rcases h2 with h2|h2
   ·rw[<-h2];exact hl
   ·exact aGr hdc f e.on i (λo' ho'=>hdc e.on o' hl ho') h2
  ·cases h
def aXl{listed:Array Bool}{j:Nat}(hdc:Dc ops listed)(hj:j∈BU .any ops listed):Dc ops (listed.setIfInBounds j true):=by
 intro m om hm hom e he hb;obtain⟨_,o,ho,hall⟩:=mem_ready.1 hj;refine getD_set_true ?_;by_cases hmj:m=j
 ·subst hmj;rw[ho]at hom;injection hom with hom;subst hom
  exact hall e he hb
 ·rw[getD_set_ne false (Ne.symm hmj)]at hm;exact hdc m om hm hom e he hb
def aHg{Q:AS->Prop}{i:Nat}{oi:Oper}(hi:ops[i]? = some oi) :
  ∀(fuel:Nat) (listed:Array Bool) (s s1:AS),Dc ops listed ->
   (∀j oj,ops[j]? = some oj->j≠i->listed.getD j true=false->(∀e∈oj.after,Es .any e=true->e.on≠i)->dep ops 12 j i=false->aBr P ops oi oj=true) ->
   i∈BU .any ops listed->qX P G ops oi s s1->aNp P G ops Q fuel (listed.setIfInBounds i true) s1->aNp P G ops Q (fuel+1) listed s:=by
 intro fuel
 induction fuel with
 |zero =>
  intro listed s s1 _ _ hr hd H
  refine⟨λh=>(by rw[h]at hr;cases hr),λj hj=>?_⟩
  by_cases hji:j=i
  ·subst hji;unfold aOp;simp only[hi];exact .inr ⟨s1,hd,H⟩
  ·have:=ready_mono hj hji
   rw[H.1]at this
   cases this
 |succ fuel ih =>
  intro listed s s1 hdc hfree hr hd H
  refine⟨λh=>(by rw[h]at hr;cases hr),λj hj=>?_⟩
  by_cases hji:j=i
  ·subst hji;unfold aOp;simp only[hi];exact .inr ⟨s1,hd,H⟩
  ·have h1:=H.2 j (ready_mono hj hji)
   obtain⟨hjun,oj,hoj,hall⟩:=mem_ready.1 hj
   have hnot:∀e∈oj.after,Es .any e=true->e.on≠i:=λe he hb heq=>by
    have h1:=hall e he hb;have h0:=(mem_ready.1 hr).1;rw[heq]at h1;rcases Bf i listed.size with h'|h'
    ·simp[h']at h0 h1;rw[h0]at h1;cases h1
    ·simp[B6 h']at h1
   have hnd:dep ops 12 j i=false:=by
    cases hd6:dep ops 12 j i with
    |false=>rfl
    |true =>
     have h1:=aGr hdc 12 j i (λo' ho'=>by rw[hoj]at ho';injection ho' with ho';subst ho';exact hall) hd6;have h0:=(mem_ready.1 hr).1;rcases Bf i listed.size with h'|h'
     ·simp[h']at h0 h1;rw[h0]at h1;cases h1
     ·simp[B6 h']at h1
   have hap:=hfree j oj hoj hji hjun hnot hnd
   have hfree':∀k ok,ops[k]? = some ok->k≠i->(listed.setIfInBounds j true).getD k true=false ->
     (∀e∈ok.after,Es .any e=true->e.on≠i)->dep ops 12 k i=false->aBr P ops oi ok=true:=λk ok hk hki hun hno hnd=>by
    refine hfree k ok hk hki ?_ hno hnd
    by_cases hjk:j=k
    ·subst hjk;exact hjun
    ·rw[getD_set_ne true hjk]at hun;exact hun
   unfold aOp at h1 ⊢
   simp only[hoj]at h1 ⊢
   rcases h1 with h1|⟨s2,hd2,h2⟩
   ·exact .inl (bPh hd h1)
   ·rcases swap hap hd hd2 with h3|⟨s1',hd1',hd2'⟩
    ·exact .inl h3
    ·refine .inr ⟨s1',hd1',ih (listed.setIfInBounds j true) s1' s2 (aXl hdc hj) hfree' (ready_mono hr (Ne.symm hji)) hd2' ?_⟩
     rw[Array.setIfInBounds_comm _ _ hji]
     exact h2
end
end Go.Am
end
section
open List renaming map_map->B,mapM_map->E
namespace Go.Am
open RowKit (Below)
def bJc:List String:=["torsion/matrix.New", "torsion/torsionref05.New", "torsion/torsionref05.Scale", "torsion/torsionref05.Copied", "torsion/torsionref05.Identity", "torsion/torsionref12.Start", "slices.Clone[[]torsion/api.Face,torsion/api.Face]", "slices.Clone[torsion/api.Complex,torsion/api.Cell]", "slices.Grow[[]torsion/api.Change,torsion/api.Change]", "torsion/torsionref31.replaced"]
def bC(P:Program)(f:FuncId):Bool:=match P.funcs[f]? with|some fn=>bJc.contains fn.name|none=>false
def gJ(H:Hp)(n:Nat)(hs:List HO):Hp:=λid=>if n<=id/\id<n+hs.length then hs[id-n]? else H id
def NB(P:Program)(f:FuncId)(vs:Array Value)(A:Nat->Prop)(W:World)(v:Nat->AV)(hs:Nat->List HO):Prop :=
  (∀w,(callFunc f vs).run P w=.ok (.enter f vs) w) /\
  Calls P f vs W λe W'=>∃u,e=.returned u/\Below W.heap.size W W'/\∀m,0<m->∃(F:Nat->Prop) (ι:Nat->Option Nat),
   (∀b,F b->A b\/(W.heap.size<=b/\b<W'.heap.size))/\V F W' ι (v m) u/\(∀id,(∃b,ι id=some b)↔(m<=id/\id<m+(hs m).length)) /\
   (∀id b,ι id=some b->W.heap.size<=b/\b<W'.heap.size/\¬F b) /\
   (∀i o b,(hs m)[i]? = some o->ι (m+i)=some b->∃ob,W'.heap[b]? = some ob/\CR F W' ι o ob) /\
   (∀id id' b,ι id=some b->ι id'=some b->id=id')
def pX(P:Program)(f:FuncId)(args:List D)(v:Nat->AV)(hs:Nat->List HO):Prop :=
 ∀(A:Nat->Prop) (W:World) (vs:Array Value),(∀b,A b->b<W.heap.size)->args.length=vs.size->(∀(k:Nat) d v,args[k]? = some d->vs[k]? = some v->VD A W d v)->NB P f vs A W v hs
def aHo(P:Program)(f:FuncId)(args:List AV)(v:Nat->AV)(hs:Nat->List HO):Prop :=
 ∀(A:Nat->Prop) (W:World) (vs:Array Value),(∀b,A b->b<W.heap.size)->args.length=vs.size->(∀(k:Nat) x u,args[k]? = some x->vs[k]? = some u->V A W (λ_=>none) x u)->NB P f vs A W v hs
section
variable {P:Program} {G:Ctx} {C:Nat->Prop} {H K:Hp} {J:Nat->AV} {o:Oper}
def cAj{f:FuncId}{args:Array Operand}{ts:Array TypeId}{v:Nat->AV}{hs:Nat->List HO}{n:Nat}(ho:o.op=.call { callee:=.value (.func f),args:=args,argTypes:=ts })
  (hsp:∀F w ι (a:Act),HR G F w ι C K->(∀x∈args.toList,V F w ι (oev J x) (a.eval x))->NB P f (args.map a.eval) F w v hs) (hn0:0<n)
  (hK:∀i ob,(hs n)[i]? = some ob->K (n+i)=some ob) :
  Y P G o J C K K (v n) (λi=>n<=i/\i<n+(hs n).length) bW:=by
 intro F w ι a hR hop hnew next Q hnext
 have hop':∀x∈args.toList,V F w ι (oev J x) (a.eval x):=λx hx=>fD λt e=>hop t (by rw[ho];subst e;simp[AN,Bp];simpa using hx)
 obtain⟨hent,hcalls⟩:=hsp F w ι a hR hop'
 unfold DY
 have hfe:a.eval (.func f)=.func (.func f) #[] #[]:=rfl
 simp only[execOp,ho,resolve,invoke,A3,hfe,Da,Bz,AX,C9,Dz,hent,Ds]
 refine hcalls.mono ?_
 rintro e w' ⟨u,rfl,hb,hall⟩
 obtain⟨F1,ι1,f1,f2,f3,f4,f5,f6⟩:=hall n hn0
 have hsz:=hb.size
 have hW:G.W.heap.size<=w.heap.size:=hR.kept.size
 obtain⟨ι',hι'⟩:∃ι':Nat->Option Nat,ι'=λid=>if n<=id/\id<n+(hs n).length then ι1 id else ι id:=⟨_,rfl⟩
 have e_new:∀id,(n<=id/\id<n+(hs n).length)->ι' id=ι1 id:=λid h=>by rw[hι'];exact Ad h
 have e_old:∀id,¬(n<=id/\id<n+(hs n).length)->ι' id=ι id:=λid h=>by rw[hι'];exact Ac h
 have split:∀id b,ι' id=some b->((n<=id/\id<n+(hs n).length)/\ι1 id=some b)\/(¬(n<=id/\id<n+(hs n).length)/\ι id=some b):=λid b h=>by
  by_cases hid:n<=id/\id<n+(hs n).length
  ·rw[e_new id hid]at h;exact .inl ⟨hid,h⟩
  ·rw[e_old id hid]at h;exact .inr ⟨hid,h⟩
 have hF1:∀b,F1 b->b<w.heap.size->F b:=λb h hlt=>by
  rcases f1 b h with h|h
  ·exact h
  ·omega
 have hs0:Step F w ι (λb=>F b\/F1 b) w' ι':=⟨λ_ h=>.inl h,λb h=>hb.block b (hR.F_lt b h),λid b h=>by
  by_cases hid:n<=id/\id<n+(hs n).length
  ·rw[hnew id hid]at h;cases h
  ·rw[e_old id hid];exact h,λid b cur e hi h=>⟨cur,(hb.block b (hR.ι_lt hi)).trans h,rfl⟩⟩
 have hs1:Step F1 w' ι1 (λb=>F b\/F1 b) w' ι':=⟨λ_ h=>.inr h,λ_ _=>rfl,λid b h=>by
  rw[e_new id ((f3 id).1 ⟨b,h⟩)];exact h,λid b cur e hi h=>⟨cur,h,rfl⟩⟩
 refine hnext (λb=>F b\/F1 b) w' ι' u ⟨hR.kept.trans (.below hb hW),?_,?_,?_,?_,?_,?_⟩ hs0 (λid b h=>?_) (λid hid=>?_) (f2.step hs1)
 ·rintro b (h|h)
  ·have:=hR.F_lt b h;omega
  ·rcases f1 b h with h|h
   ·have:=hR.F_lt b h;omega
   ·exact h.2
 ·rintro b (h|h)
  ·exact hR.F_ok b h
  ·rcases f1 b h with h|h
   ·exact hR.F_ok b h
   ·exact .inr (.inr (by omega))
 ·intro id b h
  rcases split id b h with ⟨_,h⟩|⟨_,h⟩
  ·obtain⟨q1,q2,q3⟩:=f4 id b h
   refine⟨.inr (by omega),q2,λ_ hF=>?_⟩
   rcases hF with hF|hF
   ·have:=hR.F_lt b hF;omega
   ·exact q3 hF
  ·obtain⟨q1,q2,q3⟩:=hR.place id b h
   refine⟨q1,by omega,λhc hF=>?_⟩
   have hc':¬C id:=λx=>hc (.inl x)
   rcases hF with hF|hF
   ·exact q3 hc' hF
   ·exact q3 hc' (hF1 b hF q2)
 ·intro id b ob h hob
  rcases split id b h with ⟨hid,h⟩|⟨_,h⟩
  ·obtain⟨i,rfl⟩:∃i,id=n+i:=⟨id-n,by omega⟩
   have hi:i<(hs n).length:=by omega
   have hg:(hs n)[i]? = some (hs n)[i]:=Ab hi
   have:=hK i _ hg
   rw[this]at hob;injection hob with hob;subst hob
   obtain⟨ob',h2,h3⟩:=f5 i _ b hg h
   exact⟨ob',h2,h3.step hs1⟩
  ·obtain⟨ob',h2,h3⟩:=hR.obj id b ob h hob
   exact⟨ob',(hb.block b (hR.ι_lt h)).trans h2,h3.step hs0⟩
 ·intro id id' b h h' hc hc'
  rcases split id b h with ⟨_,h⟩|⟨_,h⟩<;>rcases split id' b h' with ⟨_,h'⟩|⟨_,h'⟩
  ·exact f6 id id' b h h'
  ·have:=(f4 id b h).1;have:=hR.ι_lt h';omega
  ·have:=(f4 id' b h').1;have:=hR.ι_lt h;omega
  ·exact hR.inj id id' b h h' (λx=>hc (.inl x)) λx=>hc' (.inl x)
 ·intro id id' b o1 o2 h h' hc h1 h2
  rcases split id b h with ⟨_,h⟩|⟨_,h⟩<;>rcases split id' b h' with ⟨_,h'⟩|⟨_,h'⟩
  ·have:=f6 id id' b h h'
   subst this
   rw[h1]at h2;injection h2 with h2;subst h2;exact Ap _
  ·have:=(f4 id b h).1;have:=hR.ι_lt h';omega
  ·have:=(f4 id' b h').1;have:=hR.ι_lt h;omega
  ·exact hR.len id id' b o1 o2 h h' (λx=>hc (.inl x)) h1 h2
 ·rcases split id b h with ⟨hid,_⟩|⟨_,h⟩
  ·exact .inr hid
  ·exact .inl h
 ·obtain⟨b,hb'⟩:=(f3 id).2 hid
  exact⟨b,by rw[e_new id hid];exact hb'⟩
def bOz{f:FuncId}{args:Array Operand}{ts:Array TypeId}{ds:List D}{v:Nat->AV}{hs:Nat->List HO}{n:Nat}(ho:o.op=.call { callee:=.value (.func f),args:=args,argTypes:=ts })
  (hHK:∀id ob,H id=some ob->K id=some ob) (hargs:fW H (args.toList.map (oev J))=some ds) (hvis:fK H (args.toList.map (oev J))=[]) (hsp:pX P f ds v hs) (hn0:0<n)
  (hK:∀i ob,(hs n)[i]? = some ob->K (n+i)=some ob) :
  Y P G o J C K K (v n) (λi=>n<=i/\i<n+(hs n).length) bW:=cAj ho (λF w ι a hR hop'=>by
 have hmap:args.map a.eval=(args.toList.map a.eval).toArray:=by cases args;simp
 obtain⟨hl,hV,_⟩:=uJ hR hHK hargs hop'
 rw[<-hmap]at hl hV
 have hV2:∀(k:Nat) d u,ds[k]? = some d->(args.map a.eval)[k]? = some u->VD F w d u:=λk d u hd hu=>(hV k d u hd hu).mono λb hb=>by
  rcases hb with hb|⟨id,hid,_⟩
  ·exact hb
  ·rw[hvis]at hid;cases hid
 exact hsp F w (args.map a.eval) hR.F_lt hl hV2) hn0 hK
def bFc{f:FuncId}{args:Array Operand}{ts:Array TypeId}{v:Nat->AV}{hs:Nat->List HO}{n:Nat}(ho:o.op=.call { callee:=.value (.func f),args:=args,argTypes:=ts })
  (hno:(args.toList.map (oev J)).all aFg=true) (hsp:aHo P f (args.toList.map (oev J)) v hs) (hn0:0<n) (hK:∀i ob,(hs n)[i]? = some ob->K (n+i)=some ob) :
  Y P G o J C K K (v n) (λi=>n<=i/\i<n+(hs n).length) bW:=cAj ho (λF w ι a hR hop'=>by
 refine hsp F w (args.map a.eval) hR.F_lt (by simp) λk x u hx hu=>?_
 have hmem:=Aq hx
 rw[Aw]at hx
 rw[E7]at hu
 obtain⟨y,hy,rfl⟩:=Aj.1 hx
 obtain⟨z,hz,rfl⟩:=Aj.1 hu
 rw[Bn,hz]at hy
 injection hy with hy;subst hy
 exact aXj (Ay.1 hno _ hmem) (hop' z (Aq (by rw[Bn];exact hz)))) hn0 hK
end
end Go.Am
end
section
open List renaming map_map->B,mapM_map->E
namespace Go.Am
open RowKit (Below)
def wN(ν:Nat->Nat):AV->AV
 |.own id o l s=>.own (ν id) o l s
 |.ptr id o=>.ptr (ν id) o
 |.mp id=>.mp (ν id)
 |.kf f id=>.kf f (ν id)
 |.d x=>.d x
 |.nil=>.nil
 |.fp cs=>.fp cs
 |.fd els=>.fd els
 |.un=>.un
 |.ub=>.ub
 |_=>.any
def bQj(ν:Nat->Nat):AV->AV
 |.ag cs=>.ag (cs.map (wN ν))
 |x=>wN ν x
def lT(ν:Nat->Nat):HO->HO
 |.cells e cs=>.cells e (cs.map (wN ν))
 |.map k es=>.map k (es.map λp=>(p.1,bQj ν p.2))
 |.iter k l' es=>.iter k l' es
def lf0(k:Nat):AV->Bool
 |.own id _ _ _=>decide (id<k)
 |.ptr id _=>decide (id<k)
 |.mp id=>decide (id<k)
 |.kf _ id=>decide (id<k)
 |.d _|.nil|.fp _|.fd _|.un|.ub|.any=>true
 |_=>false
def lf1(k:Nat):AV->Bool
 |.ag cs=>cs.all (lf0 k)
 |x=>lf0 k x
def lfO(k:Nat):HO->Bool
 |.cells _ cs=>cs.all (lf0 k)
 |.map _ es=>es.all λp=>lf1 k p.2
 |.iter ..=>true
section
variable {F:Nat->Prop} {w:World} {ι ι':Nat->Option Nat} {ν:Nat->Nat}
def bOj{x:AV}{v:Value}(hι:∀j b,ι j=some b->ι' (ν j)=some b)(h:V F w ι x v):V F w ι' (wN ν x) v:=by
 cases h with
 |d x v h=>exact .d _ _ h
 |nil=>exact .nil
 |own id off len sz b cap cur e h1 hb hcap hl hm=>exact .own _ _ _ _ b _ _ _ (hι _ _ h1) hb hcap hl hm
 |ptr id off b h1=>exact .ptr _ _ _ (hι _ _ h1)
 |mp id b h1=>exact .mp _ _ (hι _ _ h1)
 |fp cs ad f hF hcell hel=>exact .fp _ _ f hF hcell hel
 |fd els ad n h=>exact .fd _ _ _ h
 |un=>exact .un
 |ub t=>exact .ub t
 |kf f id b p e h1 hF hp=>exact .kf _ _ _ _ _ (hι _ _ h1) hF hp
 |_=>exact .any _
def cAd{x:AV}{v:Value}(hι:∀j b,ι j=some b->ι' (ν j)=some b)(h:V F w ι x v):V F w ι' (bQj ν x) v:=by
 cases h with
 |ag cs vs hl hh =>
  refine .ag _ _ (by simpa using hl) λk c u hc hu=>?_
  rw[Aw]at hc;obtain⟨d,hd,rfl⟩:=Aj.1 hc;exact bOj hι (hh k d u hd hu)
 |d x v h=>exact .d _ _ h
 |nil=>exact .nil
 |own id off len sz b cap cur e h1 hb hcap hl hm=>exact .own _ _ _ _ b _ _ _ (hι _ _ h1) hb hcap hl hm
 |ptr id off b h1=>exact .ptr _ _ _ (hι _ _ h1)
 |mp id b h1=>exact .mp _ _ (hι _ _ h1)
 |fp cs ad f hF hcell hel=>exact .fp _ _ f hF hcell hel
 |fd els ad n h=>exact .fd _ _ _ h
 |un=>exact .un
 |ub t=>exact .ub t
 |kf f id b p e h1 hF hp=>exact .kf _ _ _ _ _ (hι _ _ h1) hF hp
 |_=>exact .any _
def bOu{o:HO}{ob:Obj}(hι:∀j b,ι j=some b->ι' (ν j)=some b)(h:CR F w ι o ob):CR F w ι' (lT ν o) ob:=by
 cases h with
 |cells e cs cur hl hh =>
  refine .cells _ _ _ (by simpa using hl) λk c hk=>?_
  rw[Aw]at hk;obtain⟨d,hd,rfl⟩:=Aj.1 hk;obtain⟨u,hu,hv⟩:=hh k d hd;exact⟨u,hu,bOj hι hv⟩
 |map k es ents clock hl hst hh =>
  refine .map _ _ _ _ (by simpa using hl) hst λk x hk=>?_
  rw[Aw]at hk;obtain⟨d,hd,rfl⟩:=Aj.1 hk;obtain⟨en,h1,h2,h3⟩:=hh k d hd;exact⟨en,h1,h2,cAd hι h3⟩
 |iter k last es bm since c0 clock seen ents hF hb hold hsc hnd hl h hla=>exact .iter k last es bm since c0 clock seen ents hF hb hold hsc hnd hl h hla
def aAa{n:Nat}{x:AV}{v:Value}(hx:lf0 n x=true)(hι:∀j b,j<n->ι (ν j)=some b->ι' j=some b)(h:V F w ι (wN ν x) v):V F w ι' x v:=by
 cases x with
 |own id o l s=>cases h with|own _ _ _ _ b cap cur e h1 hb hcap hl hm=>exact .own _ _ _ _ b _ _ _ (hι _ _ (BH hx) h1) hb hcap hl hm
 |ptr id o=>cases h with|ptr _ _ b h1=>exact .ptr _ _ _ (hι _ _ (BH hx) h1)
 |mp id=>cases h with|mp _ b h1=>exact .mp _ _ (hι _ _ (BH hx) h1)
 |kf f id=>cases h with|kf _ _ b p e h1 hF hp=>exact .kf _ _ _ _ _ (hι _ _ (BH hx) h1) hF hp
 |d x=>cases h with|d _ _ h=>exact .d _ _ h
 |nil=>cases h with|nil=>exact .nil
 |fp cs=>cases h with|fp _ ad f hF hcell hel=>exact .fp _ _ f hF hcell hel
 |fd els=>cases h with|fd _ ad n h=>exact .fd _ _ _ h
 |un=>cases h with|un=>exact .un
 |ub=>cases h with|ub t=>exact .ub t
 |any=>exact .any _
 |_=>cases hx
def bOh{n:Nat}{x:AV}{v:Value}(hx:lf1 n x=true)(hι:∀j b,j<n->ι (ν j)=some b->ι' j=some b)(h:V F w ι (bQj ν x) v):V F w ι' x v:=by
 cases x with
 |ag cs =>
  cases h with|ag _ vs hl hh =>
  refine .ag _ _ (by simpa using hl) λk c u hc hu=>?_
  exact aAa (Ay.1 hx c (Aq hc)) hι (hh k _ u (by rw[Aw,hc];rfl) hu)
 |_=>exact aAa hx hι h
def bOs{n:Nat}{o:HO}{ob:Obj}(hx:lfO n o=true)(hι:∀j b,j<n->ι (ν j)=some b->ι' j=some b)(h:CR F w ι (lT ν o) ob):CR F w ι' o ob:=by
 cases o with
 |cells e cs =>
  cases h with|cells _ _ cur hl hh =>
  refine .cells _ _ _ (by simpa using hl) λk c hk=>?_
  obtain⟨u,hu,hv⟩:=hh k (wN ν c) (by rw[Aw,hk];rfl);exact⟨u,hu,aAa (Ay.1 hx c (Aq hk)) hι hv⟩
 |map k es =>
  cases h with|map _ _ ents clock hl hst hh =>
  refine .map _ _ _ _ (by simpa using hl) hst λk x hk=>?_
  obtain⟨en,h1,h2,h3⟩:=hh k (x.1,bQj ν x.2) (by rw[Aw,hk];rfl);exact⟨en,h1,h2,bOh (Ay.1 hx x (Aq hk)) hι h3⟩
 |iter k last es=>cases h with|iter _ _ _ bm since c0 clock seen ents hF hb hold hsc hnd hl h hla=>exact .iter k last es bm since c0 clock seen ents hF hb hold hsc hnd hl h hla
end
def aAc(P:Program)(f:FuncId)(h:AV)(o:HO)(hs:List HO)(ds:List D)(o':HO)(hs':List HO)(r:D):Prop :=
 ∀(A:Nat->Prop) (W:World) (vs:Array Value) (ι:Nat->Option Nat),(∀b,A b->b<W.heap.size)->(∀id,(∃b,ι id=some b)↔id<hs.length+1)->(∀id b,ι id=some b->b<W.heap.size/\¬A b) ->
  (∀id id' b,ι id=some b->ι id'=some b->id=id')->(∀i b ob,(o::hs)[i]? = some ob->ι i=some b->∃x,W.heap[b]? = some x/\CR A W ι ob x) ->
  ds.length+1=vs.size->(∃v,vs[0]? = some v/\V A W ι h v)->(∀(k:Nat) d v,ds[k]? = some d->vs[k+1]? = some v->VD A W d v) ->
  (∀w,(callFunc f vs).run P w=.ok (.enter f vs) w)/\Calls P f vs W λe W'=>∃v F' ι',e=.returned v/\Kept (λb=>∃id,ι id=some b) W.heap.size W W' /\
   (∀b,F' b->A b\/(∃id,0<id/\ι id=some b)\/(W.heap.size<=b/\b<W'.heap.size))/\VD F' W' r v/\(∀id,(∃b,ι' id=some b)↔id<hs'.length+1)/\ι' 0=ι 0 /\
   (∀id b,ι' id=some b->b<W'.heap.size/\¬F' b/\((∃j,ι j=some b)\/W.heap.size<=b))/\(∀id id' b,ι' id=some b->ι' id'=some b->id=id') /\
   (∀i b ob,(o'::hs')[i]? = some ob->ι' i=some b->∃x,W'.heap[b]? = some x/\CR F' W' ι' ob x)
def aIa(i:Nat):HO->Bool
 |.cells _ cs=>cs.any (mG i)
 |.map ..=>false
 |.iter ..=>false
def aNq{F:Nat->Prop}{w:World}{ι:Nat->Option Nat}{ν:Nat->Nat}{i:Nat}{x:AV}{v:Value}(hi:mG i x=true)(h:V F w ι (wN ν x) v):∃b,ι (ν i)=some b:=by
 cases x with
 |own id o l s =>
  simp only[mG,CK]at hi;subst hi;cases h with|own _ _ _ _ b cap cur e h1 hb hcap hl hm=>exact⟨b,h1⟩
 |ptr id o =>
  simp only[mG,CK]at hi;subst hi;cases h with|ptr _ _ b h1=>exact⟨b,h1⟩
 |mp id =>
  simp only[mG,CK]at hi;subst hi;cases h with|mp _ b h1=>exact⟨b,h1⟩
 |_=>cases hi
def aFq{G:Ctx}{F:Nat->Prop}{w:World}{ι:Nat->Option Nat}{C:Nat->Prop}{K:Hp}(hR:HR G F w ι C K){ν:Nat->Nat}{l:List HO}{k:Nat}(hK:∀i ob,l[i]? = some ob->K (ν i)=some (lT ν ob))
  (h0:∃b,ι (ν 0)=some b) (hm:∀i,0<i->i<k->∃j ob,j<i/\l[j]? = some ob/\aIa i ob=true):∀(n i:Nat),i<=n->i<k->∃b,ι (ν i)=some b
 |0,i,hi,_=>by rw[show i=0 by omega];exact h0
 |n+1,i,hi,hk=>by
  rcases Cb i with rfl|hpos
  ·exact h0
  ·obtain⟨j,ob,hj,hl,hmt⟩:=hm i hpos hk;obtain⟨b,hb⟩:=aFq hR hK h0 hm n j (by omega) (by omega);obtain⟨y,_,hcr⟩:=hR.obj _ b _ hb (hK j ob hl);cases ob with
   |map k es=>cases hmt
   |iter k l es=>cases hmt
   |cells e cs =>
    simp only[aIa,List.any_eq_true]at hmt;obtain⟨c,hc,hid⟩:=hmt;obtain⟨q,hq,hqc⟩:=BM.1 hc;cases hcr with|cells _ _ cur hlen hh =>
    obtain⟨u,_,hv⟩:=hh q (wN ν c) (by rw[Aw,Ab hq,hqc];rfl);exact aNq hid hv
def nuL(ν:Nat->Nat)(k:Nat):List Nat:=(CS k).map λi=>ν (i+1)
def vS{ν:Nat->Nat}{k id:Nat}:id∈nuL ν k↔∃j,0<j/\j<k+1/\ν j=id:=by
 unfold nuL;rw[AA];constructor
 ·rintro⟨i,hi,rfl⟩;exact⟨i+1,by omega,by simpa using hi,rfl⟩
 ·rintro⟨j,h1,h2,rfl⟩;exact⟨j-1,by simp;omega,by rw[show j-1+1=j by omega]⟩
def nuT(r n:Nat):Nat->Nat:=λj=>if j=0 then r else n+(j-1)
section
variable {P:Program} {G:Ctx} {C:Nat->Prop} {H K:Hp} {J:Nat->AV} {o:Oper}
def bOx{f:FuncId}{args:Array Operand}{ts:Array TypeId}{x:Operand}{rest:List Operand}{ds:List D}{ν:Nat->Nat}{n:Nat}{h:AV}{ro ro':HO}{hs hs':List HO}{r:D}{K':Hp}
  (hop_:o.op=.call { callee:=.value (.func f),args:=args,argTypes:=ts }) (hargs:args.toList=x::rest) (hHK:∀id ob,H id=some ob->K id=some ob)
  (hx:oev J x=wN ν h) (hlf:lf0 (hs.length+1) h=true) (hνi:∀i j,i<hs.length+1->j<hs.length+1->ν i=ν j->i=j) (hνH:∀i ob,(ro::hs)[i]? = some ob->lfO (hs.length+1) ob=true/\H (ν i)=some (lT ν ob)) (hC:∀i,i<hs.length+1->¬C (ν i))
  (hlive:∀i,i<hs.length+1->∀F w ι (a:Act),HR G F w ι C K->(∀t,CI t∈o.op.operands->V F w ι (J t) (a.tmps.getD t undef))->∃b,ι (ν i)=some b)
  (hvis:fK H (rest.map (oev J))=[]) (hf:fW H (rest.map (oev J))=some ds) (hsp:aAc P f h ro hs ds ro' hs' r)
  (hK0:K' (ν 0)=some (lT (nuT (ν 0) n) ro')) (hKn:∀j ob,hs'[j]? = some ob->K' (n+j)=some (lT (nuT (ν 0) n) ob))
  (hKo:∀j ob,j≠ν 0->¬(n<=j/\j<n+hs'.length)->K' j=some ob->K j=some ob/\¬C j/\∀i,i<hs.length+1->ν i≠j) (hν0n:ν 0<n) :
  Y P G o J C K K' (inj r) (λi=>n<=i/\i<n+hs'.length) (λi=>∃j,0<j/\j<hs.length+1/\ν j=i):=by
 intro F w ι a hR hop hnew next Q hnext
 have hargs':args=(x::rest).toArray:=by rw[<-hargs]
 have hop':∀y∈x::rest,V F w ι (oev J y) (a.eval y):=λy hy=>fD λt e=>hop t (by rw[hop_];subst e;simp only[AN,Bp];rw[hargs'];simpa using hy)
 have hlv:∀i,i<hs.length+1->∃b,ι (ν i)=some b:=λi hi=>hlive i hi F w ι a hR hop
 obtain⟨hl,hV,_⟩:=uJ hR hHK hf λy hy=>hop' y (Au _ hy)
 have hmap:args.map a.eval=(a.eval x::rest.map a.eval).toArray:=by rw[hargs'];simp
 -- the numbers that the function is given
 obtain⟨ιc,hιc⟩:∃ιc:Nat->Option Nat,ιc=λi=>if i<hs.length+1 then ι (ν i)else none:=⟨_,rfl⟩
 have c_in:∀i,i<hs.length+1->ιc i=ι (ν i):=λi hi=>by rw[hιc];exact Ad hi
 have c_some:∀i b,ιc i=some b->i<hs.length+1/\ι (ν i)=some b:=λi b hi=>by
  rw[hιc]at hi;simp only at hi;split at hi
  ·exact⟨by assumption,hi⟩
  ·cases hi
 have hroot:ν 0<n:=hν0n
 have hne:∀i b,i<hs.length+1->ι (ν i)=some b->¬F b:=λi b hi hb=>(hR.place _ b hb).2.2 (hC i hi)
 obtain⟨hent,hcalls⟩:=hsp F w (args.map a.eval) ιc hR.F_lt
  (λid=>⟨λ⟨b,hb⟩=>(c_some id b hb).1,λh=>by obtain⟨b,hb⟩:=hlv id h;exact⟨b,by rw[c_in id h];exact hb⟩⟩)
  (λid b hb=>by obtain⟨h1,h2⟩:=c_some id b hb;exact⟨hR.ι_lt h2,hne id b h1 h2⟩)
  (λid id' b h1 h2=>by
   obtain⟨q1,q2⟩:=c_some id b h1;obtain⟨q3,q4⟩:=c_some id' b h2;exact hνi id id' q1 q3 (hR.inj _ _ b q2 q4 (hC id q1) (hC id' q3)))
  (λi b ob hob hb=>by
   obtain⟨q1,q2⟩:=c_some i b hb;obtain⟨l1,l2⟩:=hνH i ob hob;obtain⟨y,y1,y2⟩:=hR.obj _ b _ q2 (hHK _ _ l2);exact⟨y,y1,bOs l1 (λj c hj hc=>by rw[c_in j hj];exact hc) y2⟩)
  (by rw[hmap];simp at hl ⊢;omega)
  ⟨a.eval x,by rw[hmap];simp,aAa hlf (λj c hj hc=>by rw[c_in j hj];exact hc) (by rw[<-hx];exact hop' x (Av ..))⟩
  (λk d v hk hv=>(hV k d v hk (by rw[hmap]at hv;simpa using hv)).mono λc hc=>by
   rcases hc with hc|⟨i,hi,_⟩
   ·exact hc
   ·rw[hvis]at hi;cases hi)
 unfold DY
 have hfe:a.eval (.func f)=.func (.func f) #[] #[]:=rfl
 simp only[execOp,hop_,resolve,invoke,A3,hfe,Da,Bz,AX,C9,Dz,hent,Ds]
 refine hcalls.mono ?_
 rintro e w' ⟨v,F1,ι1,rfl,hk,hF1,hvd,hdom,h0,hpl,hinj,hobj⟩
 have hsz:=hk.size
 have hW:G.W.heap.size<=w.heap.size:=hR.kept.size
 have rng:∀b,(∃id,ιc id=some b)->∃i,i<hs.length+1/\ι (ν i)=some b:=λb ⟨id,h⟩=>⟨id,c_some id b h⟩
 have hoth:∀b,b<w.heap.size->(¬∃i,i<hs.length+1/\ι (ν i)=some b)->w'.heap[b]? = w.heap[b]? := λb h1 h2=>hk.block b h1 λh=>h2 (rng b h)
 have hF1':∀b,F1 b->F b\/(∃i,0<i/\i<hs.length+1/\ι (ν i)=some b)\/(w.heap.size<=b/\b<w'.heap.size):=λb hb=>by
  rcases hF1 b hb with h|⟨id,h1,h2⟩|h
  ·exact .inl h
  ·obtain⟨q1,q2⟩:=c_some id b h2;exact .inr (.inl ⟨id,h1,q1,q2⟩)
  ·exact .inr (.inr h)
 have h00:ι1 0=ι (ν 0):=by rw[h0,c_in 0 (by omega)]
 obtain⟨ι',hι'⟩:∃ι':Nat->Option Nat,ι'=λid=>if n<=id/\id<n+hs'.length then ι1 (id-n+1)else ι id:=⟨_,rfl⟩
 have e_new:∀id,(n<=id/\id<n+hs'.length)->ι' id=ι1 (id-n+1):=λid h=>by rw[hι'];exact Ad h
 have e_old:∀id,¬(n<=id/\id<n+hs'.length)->ι' id=ι id:=λid h=>by rw[hι'];exact Ac h
 have e_nu:∀j b,ι1 j=some b->ι' (nuT (ν 0) n j)=some b:=λj b hj=>by
  have hlt:=(hdom j).1 ⟨b,hj⟩;unfold nuT;by_cases hj0:j=0
  ·subst hj0;rw[Ad rfl,e_old _ (by omega),<-h00];exact hj
  ·rw[Ac hj0,e_new _ (by omega),show n+(j-1)-n+1=j by omega];exact hj
 have split:∀id b,ι' id=some b->(n<=id/\id<n+hs'.length/\ι1 (id-n+1)=some b)\/(¬(n<=id/\id<n+hs'.length)/\ι id=some b):=λid b h=>by
  by_cases hid:n<=id/\id<n+hs'.length
  ·rw[e_new id hid]at h;exact .inl ⟨hid.1,hid.2,h⟩
  ·rw[e_old id hid]at h;exact .inr ⟨hid,h⟩
 have hs0:Step F w ι (λb=>F b\/F1 b) w' ι':=⟨λ_ h=>.inl h,λb h=>hoth b (hR.F_lt b h) λ⟨i,hi,hb⟩=>hne i b hi hb h,λid b h=>by
  by_cases hid:n<=id/\id<n+hs'.length
  ·rw[hnew id hid]at h;cases h
  ·rw[e_old id hid];exact h,λid b cur e hi h=>hk.shape b cur e (hR.ι_lt hi) h⟩
 have hs1:Step F1 w' ι' (λb=>F b\/F1 b) w' ι':=⟨λ_ h=>.inr h,λ_ _=>rfl,λ_ _ h=>h,λid b cur e hi h=>⟨cur,h,rfl⟩⟩
 -- an old number that is not used up and not the root's lies apart
 have apart:∀id b,ι id=some b->¬C id->(∀i,i<hs.length+1->ν i≠id)->¬∃i,i<hs.length+1/\ι (ν i)=some b:=λid b h1 h2 h3 ⟨i,hi,hb⟩ =>
  h3 i hi (hR.inj _ _ b hb h1 (hC i hi) h2)
 have cr:∀i b j,ι1 (j+1)=some b->ι i=some b->¬(C i\/∃k,0<k/\k<hs.length+1/\ν k=i)->False:=λi b j q1 q2 q3=>by
  rcases(hpl _ b q1).2.2 with p|p
  ·obtain⟨k,hk1,hb⟩:=rng b p;have e:=hR.inj _ _ b hb q2 (hC k hk1) (λh=>q3 (.inl h));rcases Cb k with rfl|hk0
   ·have:=hinj 0 (j+1) b (by rw[h00];exact hb) q1;omega
   ·exact q3 (.inr ⟨k,hk0,hk1,e⟩)
  ·have:=hR.ι_lt q2;omega
 refine hnext (λb=>F b\/F1 b) w' ι' v ⟨hR.kept.trans ⟨hk.os,hk.tape,hk.output,hk.size,λk hkW hm=>hoth k (by omega) λ⟨i,hi,hb⟩=>?_,λk cur e hkW hc=>hk.shape k cur e (by omega) hc⟩,?_,?_,?_,?_,?_,?_⟩ hs0 (λid b h=>?_) (λid hid=>?_) (aLa (hvd.mono λ_ h=>.inr h))
 ·rcases(hR.place _ k hb).1 with h|h
  ·exact hm h
  ·omega
 ·rintro b (h|h)
  ·have:=hR.F_lt b h;omega
  ·rcases hF1' b h with h|⟨i,_,_,h⟩|h
   ·have:=hR.F_lt b h;omega
   ·have:=hR.ι_lt h;omega
   ·exact h.2
 ·rintro b (h|h)
  ·exact hR.F_ok b h
  ·rcases hF1' b h with h|⟨i,_,_,h⟩|h
   ·exact hR.F_ok b h
   ·exact .inr (hR.place _ b h).1
   ·exact .inr (.inr (by omega))
 ·intro id b h
  rcases split id b h with ⟨_,_,h⟩|⟨hn,h⟩
  ·obtain⟨p1,p2,p3⟩:=hpl _ b h
   refine⟨?_,p1,λ_ hF=>?_⟩
   ·rcases p3 with p3|p3
    ·obtain⟨i,_,hb⟩:=rng b p3;exact(hR.place _ b hb).1
    ·exact .inr (by omega)
   ·rcases hF with hF|hF
    ·rcases p3 with p3|p3
     ·obtain⟨i,hi,hb⟩:=rng b p3;exact hne i b hi hb hF
     ·have:=hR.F_lt b hF;omega
    ·exact p2 hF
  ·obtain⟨p1,p2,p3⟩:=hR.place id b h
   refine⟨p1,by omega,λhc hF=>?_⟩
   have hc1:¬C id:=λh=>hc (.inl h)
   rcases hF with hF|hF
   ·exact p3 hc1 hF
   ·rcases hF1' b hF with q|⟨i,q1,q2,q3⟩|q
    ·exact p3 hc1 q
    ·exact hc (.inr ⟨i,q1,q2,hR.inj _ _ b q3 h (hC i q2) hc1⟩)
    ·omega
 ·intro id b ob h hob
  rcases split id b h with ⟨h1,h2,h⟩|⟨hn,h⟩
  ·obtain⟨j,rfl⟩:∃j,id=n+j:=⟨id-n,by omega⟩
   rw[show n+j-n+1=j+1 by omega]at h
   have hg:hs'[j]? = some hs'[j]:=Ab (by omega)
   rw[hKn j _ hg]at hob
   injection hob with hob;subst hob
   obtain⟨y,y1,y2⟩:=hobj (j+1) b hs'[j] (by simp) h
   exact⟨y,y1,(bOu e_nu y2).step hs1⟩
  ·by_cases hr:id=ν 0
   ·subst hr
    rw[hK0]at hob
    injection hob with hob;subst hob
    obtain⟨y,y1,y2⟩:=hobj 0 b ro' rfl (by rw[h00];exact h)
    exact⟨y,y1,(bOu e_nu y2).step hs1⟩
   ·obtain⟨q1,q2,q3⟩:=hKo id ob hr hn hob
    obtain⟨y,y1,y2⟩:=hR.obj id b ob h q1
    exact⟨y,(hoth b (hR.ι_lt h) (apart id b h q2 q3)).trans y1,y2.step hs0⟩
 ·intro id id' b h h' hc hc'
  rcases split id b h with ⟨h1,h2,h⟩|⟨hn,h⟩<;>rcases split id' b h' with ⟨h1',h2',h'⟩|⟨hn',h'⟩
  ·have:=hinj _ _ b h h';omega
  ·exact(cr id' b _ h h' hc').elim
  ·exact(cr id b _ h' h hc).elim
  ·exact hR.inj id id' b h h' (λx=>hc (.inl x)) λx=>hc' (.inl x)
 ·intro id id' b o1 o2 h h' hc ho1 ho2
  have old:∀i ob,¬(n<=i/\i<n+hs'.length)->K' i=some ob->¬C i/\(i=ν 0\/∀k,k<hs.length+1->ν k≠i):=λi ob q1 q2=>by
   by_cases hr:i=ν 0
   ·exact⟨by rw[hr];exact hC 0 (by omega),.inl hr⟩
   ·obtain⟨_,p2,p3⟩:=hKo i ob hr q1 q2;exact⟨p2,.inr p3⟩
  have same:id=id'->o2.len<=o1.len:=λe=>by subst e;rw[ho1]at ho2;injection ho2 with ho2;subst ho2;exact Ap _
  rcases split id b h with ⟨h1,h2,h⟩|⟨hn,h⟩<;>rcases split id' b h' with ⟨h1',h2',h'⟩|⟨hn',h'⟩
  ·exact same (by have:=hinj _ _ b h h';omega)
  ·obtain⟨q1,q2⟩:=old id' o2 hn' ho2
   exfalso
   rcases q2 with q2|q2
   ·subst q2
    have:=hinj 0 _ b (by rw[h00];exact h') h;omega
   ·refine cr id' b _ h h' λhx=>?_
    rcases hx with hx|⟨k,_,hk2,hk3⟩
    ·exact q1 hx
    ·exact q2 k hk2 hk3
  ·exact(cr id b _ h' h hc).elim
  ·exact same (hR.inj id id' b h h' (λx=>hc (.inl x)) (old id' o2 hn' ho2).1)
 ·rcases split id b h with ⟨h1,h2,_⟩|⟨_,h⟩
  ·exact .inr ⟨h1,h2⟩
  ·exact .inl h
 ·obtain⟨b,hb'⟩:=(hdom (id-n+1)).2 (by omega)
  exact⟨b,by rw[e_new id hid];exact hb'⟩
end
end Go.Am
end
section
open List renaming map_map->B,mapM_map->E
namespace Go.Am
open Go.RowKit
def wpL(P:Program)(ops:Array Oper)(Q:Exit->Act->World->Prop):List Oper->Act->World->Prop
 |[],a,w=>Q .normal a w
 |o::rest,a,w=>if EC o (yielded ops a.tmps)then o.wp P a w (wpL P ops Q rest) Q else wpL P ops Q rest (a.put o.dst undef) w
def wpA(P:Program)(ops:Array Oper)(Q:Exit->Act->World->Prop):Nat->Array Bool->Act->World->Prop
 |0,listed,a,w=>BU .any ops listed=[]/\Q .normal a w
 |fuel+1,listed,a,w=>(BU .any ops listed=[]->Q .normal a w)/\∀i∈BU .any ops listed,match ops[i]? with
   |none=>wpA P ops Q fuel (listed.setIfInBounds i true) a w
   |some o=>if EC o (yielded ops a.tmps)then o.wp P a w (wpA P ops Q fuel (listed.setIfInBounds i true)) Q else wpA P ops Q fuel (listed.setIfInBounds i true) (a.put o.dst undef) w
def bRt(o:Oper):Bool:=match o.op with|.defer _=>false|_=>true
def aJq(ops:Array Oper):Bool:=ops.all bRt
def pU:Code->Bool
 |.region _ ops _=>aJq ops
 |.seq x y|.cond _ x y=>pU x&&pU y
 |.block _ c|.loop c=>pU c
 |.scope _=>false
 |_=>true
structure WpR(P:Program)(rd:Bool)(W:Code->(Exit->Act->World->Prop)->Act->World->Prop):Prop where
 mono:∀{c:Code} {Q Q':Exit->Act->World->Prop} {a:Act} {w:World},W c Q a w->(∀e a w,Q e a w->Q' e a w)->W c Q' a w
 skip:∀{Q:Exit->Act->World->Prop} {a:Act} {w:World},Q .normal a w->W .skip Q a w
 label:∀{l:Nat} {Q:Exit->Act->World->Prop} {a:Act} {w:World},Q .normal a w->W (.label l) Q a w
 exit:∀{id:Nat} {Q:Exit->Act->World->Prop} {a:Act} {w:World},Q (.exit id) a w->W (.exit id) Q a w
 ret:∀{Q:Exit->Act->World->Prop} {a:Act} {w:World},Q .ret a w->W .ret Q a w
 regL:∀{id:Nat} {ops:Array Oper} {Q:Exit->Act->World->Prop} {a:Act} {w:World},(rd=true->aJq ops=true)->wpL P ops Q ops.toList a w->W (.region id ops false) Q a w
 regA:∀{id:Nat} {ops:Array Oper} {Q:Exit->Act->World->Prop} {a:Act} {w:World},P.follows .mixedOrders=true->(rd=true->aJq ops=true) ->
  wpA P ops Q ops.size (BI ops.size false) a { w with drawn:=w.drawn+1 }->W (.region id ops true) Q a w
 seq:∀{x y:Code} {Q:Exit->Act->World->Prop} {a:Act} {w:World},W x (Exit.then (W y Q) Q) a w->W (.seq x y) Q a w
 cond:∀{c:Operand} {x y:Code} {t:Bool} {Q:Exit->Act->World->Prop} {a:Act} {w:World},a.eval c=.bool t->W (if t then x else y) Q a w->W (.cond c x y) Q a w
 block:∀{id:Nat} {c:Code} {Q:Exit->Act->World->Prop} {a:Act} {w:World},W c (Exit.inBlock id Q) a w->W (.block id c) Q a w
 loop:∀{c:Code} {Q:Exit->Act->World->Prop} {a:Act} {w:World} (I:Nat->Act->World->Prop),(∃n,I n a w) ->
  (∀n a w,I n a w->W c (Exit.then (λa' w'=>∃m,m<n/\I m a' w') Q) a w)->W (.loop c) Q a w
 scope:∀{c:Code} {Q:Exit->Act->World->Prop} {a:Act} {w:World},rd=false->W c (Exit.noGoto Q) a w->W (.scope c) Q a w
section
variable {P:Program} {ops:Array Oper} {Q:Exit->Act->World->Prop}
def aEb:∀(l:List Oper) (a:Act) (w:World),wpL P ops Q l a w->wpList P ops Q l a w
 |[],_,_,h=>h
 |o::l,a,w,h=>by
  unfold wpL at h;unfold wpList;split
  ·rename_i hw;rw[Ad hw]at h;exact .inl (Oper.wp_mono (aEb l) h)
  ·rename_i hw;rw[Ac hw]at h;exact aEb l _ _ h
def aCu:∀(fuel:Nat) (listed:Array Bool) (a:Act) (w:World),wpA P ops Q fuel listed a w->wpAny P .any ops Q fuel listed a w
 |0,_,_,_,h=>h
 |fuel+1,listed,a,w,h=>by
  refine⟨h.1,λi hi=>?_⟩;have h1:=h.2 i hi;unfold wpOp;split
  ·rename_i ho;simp only[ho]at h1;exact aCu fuel _ _ _ h1
  ·rename_i o ho;simp only[ho]at h1;split
   ·rename_i hw;rw[Ad hw]at h1;exact .inl (Oper.wp_mono (aCu fuel _) h1)
   ·rename_i hw;rw[Ac hw]at h1;exact aCu fuel _ _ _ h1
def aOe{c:Code}{a:Act}{w:World}(I:Nat->Act->World->Prop)(h₀:∃n,I n a w)
  (round:∀n a w,I n a w->c.wp P (Exit.then (λa' w'=>∃m,m<n/\I m a' w') Q) a w):(Code.loop c).wp P Q a w:=by
 intro b k cs
 have key:∀n a w,I n a w->∃e a' w',Q e a' w'/\Arrives P (lone (b.at a (.code c::.inLoop c::k)) cs w) b k cs e a' w':=by
  intro n;induction n using Nat.strongRecOn with
  |_ n ih =>
   intro a w hI;obtain⟨e,a₁,w₁,hq,harr⟩:=round n a w hI b (.inLoop c::k) cs;cases e with
   |normal =>
    obtain⟨m,hlt,hI₁⟩:=hq;obtain⟨e₂,a₂,w₂,hq₂,harr₂⟩:=ih m hlt a₁ w₁ hI₁;exact⟨e₂,a₂,w₂,hq₂,.of_steps (Steps.trans harr (.one step_inLoop)) harr₂⟩
   |exit id=>exact⟨_,a₁,w₁,hq,.pass (x:=.inLoop c) rfl (λ_ _=>.inl (by simp)) harr⟩
   |goto l=>exact⟨_,a₁,w₁,hq,.pass (x:=.inLoop c) rfl (λ_ _=>.inl (by simp)) harr⟩
   |ret=>exact⟨_,a₁,w₁,hq,.pass (x:=.inLoop c) rfl (λ_ _=>.inl (by simp)) harr⟩
   |panic ch=>exact⟨_,a₁,w₁,hq,.pass (x:=.inLoop c) rfl (λ_ _=>.inl (by simp)) harr⟩
   |outgrown=>exact⟨_,a₁,w₁,hq,.pass (x:=.inLoop c) rfl (λ_ _=>.inl (by simp)) harr⟩
 obtain⟨n,hn⟩:=h₀
 obtain⟨e,a',w',hq,harr⟩:=key n a w hn
 exact⟨e,a',w',hq,.of_steps (.one step_loop) harr⟩
def WpR.plain(P:Program):WpR P false λc Q a w=>c.wp P Q a w where
 mono h hq:=wp_mono h hq
 skip h:=wp_skip h
 label h:=wp_label h
 exit h:=wp_exit h
 ret h:=wp_ret h
 regL _ h:=wp_region_list (aEb _ _ _ h)
 regA hm _ h:=wp_region_any hm (aCu _ _ _ _ h)
 seq h:=wp_seq h
 cond hc h:=wp_cond hc h
 block h:=wp_block h
 loop I h0 h:=aOe I h0 h
 scope _ h:=wp_scope_straight h
def aOd{l n:Nat}{o:Oper}{a:Act}{w:World}{K:Act->World->Prop}(hd:∀c,o.op≠.defer c)(h:o.wp P a w K Q):o.wpIn (DJ.inRound l) n P a w K Q:=by
 refine⟨λ_ _=>trivial,?_⟩;show o.uponIn _ n P a K Q ((o.semAt (some l) a.eval).run P w);rw[Oper.semAt_some l a.eval o hd];unfold DY at h;generalize(execOp a.eval o).run P w=r at h;have hdep:∀(F:Fence),F=DJ.inRound l->(F.depth.isSome=true->1<=n):=λF hF h=>by subst hF;simp[DJ]at h
 unfold Oper.upon at h;split at h
 ·exact h
 ·exact h
 ·exact h
 ·refine⟨hdep _ rfl,(CallsIn.inRound l (callsIn_wide.2 h)).mono ?_⟩;rintro(v|c|_) w' h<;>exact h
 ·rename_i row args w';refine⟨hdep _ rfl,λc cs _=>?_⟩;obtain⟨v,w2,h1,h2⟩:=h c cs;exact⟨v,w2,h1,stepsIn_wide.2 h2⟩
 ·exact h
 ·exact h.elim
def aJr{o:Oper}(h:bRt o=true):∀c,o.op≠.defer c:=λc e=>by simp[bRt,e]at h
def xB{l n:Nat}:∀(os:List Oper) (a:Act) (w:World),(∀o∈os,bRt o=true)->wpL P ops Q os a w->wpListIn (DJ.inRound l) n P ops Q os a w
 |[],_,_,_,h=>h
 |o::os,a,w,hn,h=>by
  have hd:=aJr (hn o (Av ..));unfold wpL at h;unfold wpListIn;split
  ·rename_i hw;rw[Ad hw]at h;exact Oper.wpIn_mono (λa w=>xB os a w λo ho=>hn o (Au _ ho)) (aOd hd h)
  ·rename_i hw;rw[Ac hw]at h;exact⟨λ_ _=>trivial,xB os _ _ (λo ho=>hn o (Au _ ho)) h⟩
def vB{l n:Nat}(hn:aJq ops=true):∀(fuel:Nat) (listed:Array Bool) (a:Act) (w:World),wpA P ops Q fuel listed a w->wpAnyIn (DJ.inRound l) n P .any ops Q fuel listed a w
 |0,_,_,_,h=>h
 |fuel+1,listed,a,w,h=>by
  refine⟨h.1,λi hi=>?_⟩;have h1:=h.2 i hi;unfold wpOpIn;split
  ·rename_i ho;simp only[ho]at h1;exact vB hn fuel _ _ _ h1
  ·rename_i o ho;have hd:=aJr (BZ.1 hn o (Array.mem_of_getElem? ho));simp only[ho]at h1;split
   ·rename_i hw;rw[Ad hw]at h1;exact Oper.wpIn_mono (vB hn fuel _) (aOd hd h1)
   ·rename_i hw;rw[Ac hw]at h1;exact⟨λ_ _=>trivial,vB hn fuel _ _ _ h1⟩
def aHs{F:Fence}{n:Nat}{c:Code}{a:Act}{w:World}(I:Nat->Act->World->Prop)(h₀:∃n,I n a w)
  (round:∀j a w,I j a w->c.wpIn F n P (Exit.then (λa' w'=>∃m,m<j/\I m a' w') Q) a w):(Code.loop c).wpIn F n P Q a w:=by
 intro b k cs hro hb hr
 have key:∀j a w,I j a w->∃e a' w',Q e a' w'/\ArrivesIn (Machine.fenced P F) P (lone (b.atR a (.code c::.inLoop c::k)) cs w) b k cs e a' w':=by
  intro j;induction j using Nat.strongRecOn with
  |_ j ih =>
   intro a w hI;obtain⟨e,a₁,w₁,hq,harr⟩:=round j a w hI b (.inLoop c::k) cs hro hb hr;cases e with
   |normal =>
    obtain⟨m,hlt,hI₁⟩:=hq;obtain⟨e₂,a₂,w₂,hq₂,harr₂⟩:=ih m hlt a₁ w₁ hI₁;exact⟨e₂,a₂,w₂,hq₂,.of_steps (StepsIn.trans harr (.one (fenced_calm hb hr rfl) stepR_inLoop)) harr₂⟩
   |exit id=>exact⟨_,a₁,w₁,hq,.pass (x:=.inLoop c) rfl (λ_ _=>.inl (by simp)) harr⟩
   |goto l=>exact⟨_,a₁,w₁,hq,.pass (x:=.inLoop c) rfl (λ_ _=>.inl (by simp)) harr⟩
   |ret=>exact⟨_,a₁,w₁,hq,.pass (x:=.inLoop c) rfl (λ_ _=>.inl (by simp)) harr⟩
   |panic ch=>exact⟨_,a₁,w₁,hq,.pass (x:=.inLoop c) rfl (λ_ _=>.inl (by simp)) harr⟩
   |outgrown=>exact⟨_,a₁,w₁,hq,.pass (x:=.inLoop c) rfl (λ_ _=>.inl (by simp)) harr⟩
 obtain⟨j,hj⟩:=h₀
 obtain⟨e,a',w',hq,harr⟩:=key j a w hj
 exact⟨e,a',w',hq,.of_steps (.one (fenced_calm hb hr rfl) stepR_loop) harr⟩
def WpR.round(P:Program)(l n:Nat):WpR P true λc Q a w=>c.wpIn (DJ.inRound l) n P Q a w where
 mono h hq:=wpIn_mono h hq
 skip h:=wpIn_skip h
 label h:=wpIn_label h
 exit h:=wpIn_exit h
 ret h:=wpIn_ret h
 regL hn h:=wpIn_region_list (xB _ _ _ (λo ho=>BZ.1 (hn rfl) o (by simpa using ho)) h)
 regA hm hn h:=wpIn_region_any hm (vB (hn rfl) _ _ _ _ h)
 seq h:=wpIn_seq h
 cond hc h:=wpIn_cond hc h
 block h:=wpIn_block h
 loop I h0 h:=aHs I h0 h
 scope h:=by cases h
end
end Go.Am
end
section
open List renaming map_map->B,mapM_map->E
namespace Go.Am
def aZr(P:Program)(ops:Array Oper)(listed:Array Bool)(i:Nat):Bool :=
 match ops[i]? with
 |none=>false
 |some oi=>(CS ops.size).all λj=>j==i||listed.getD j true||match ops[j]? with
   |some oj=>oj.after.any (λe=>Es .any e&&e.on==i)||aBr P ops oi oj||dep ops 12 j i
   |none=>true
def uE(P:Program)(ops:Array Oper):Nat->Nat->Array Bool->Bool
 |0,_,listed=>(BU .any ops listed).isEmpty
 |fuel+1,k,listed=>(BU .any ops listed).contains k&&aZr P ops listed k&&uE P ops fuel (k+1) (listed.setIfInBounds k true)
def bKi:Op->Bool
 |.next ..=>true
 |_=>false
def sC(l:List Oper):Bool:=l.all λo=>!bKi o.op
def bJo(P:Program)(ops:Array Oper):Bool:=sC ops.toList&&uE P ops ops.size 0 (BI ops.size false)
section
variable {P:Program} {G:Ctx} {ops:Array Oper}
def aGa{i:Nat}{oi:Oper}{listed:Array Bool}(hi:ops[i]? = some oi)(h:aZr P ops listed i=true)(j:Nat)(oj:Oper)
  (hj:ops[j]? = some oj) (hne:j≠i) (hun:listed.getD j true=false) (hno:∀e∈oj.after,Es .any e=true->e.on≠i) (hnd:dep ops 12 j i=false):aBr P ops oi oj=true:=by
 simp only[aZr,hi,Ay,C4]at h
 have h1:=h j (BV.1 hj).1
 simp only[hj,CG,CK,hne,false_or,hun,Bool.false_eq_true,hnd,EB]at h1
 rcases h1 with h1|h1
 ·obtain⟨e,he,hb⟩:=Array.any_eq_true'.1 h1
  simp only[AO,CK]at hb
  exact absurd hb.2 (hno e he hb.1)
 ·exact h1
def aBu(P:Program)(G:Ctx)(ops:Array Oper)(Q:AS->Prop):List Oper->AS->Prop
 |[],s=>Q s
 |o::l,s=>∃s',qX P G ops o s s'/\aBu P G ops Q l s'
def aTr{Q:AS->Prop}:∀(l:List Oper) (k:Nat) (listed:Array Bool) (s:AS),Dc ops listed->(∀j,l[j]? = ops[k+j]?)->uE P ops l.length k listed=true->aBu P G ops Q l s->aNp P G ops Q l.length listed s
 |[],_,_,_,_,_,hB,h=>⟨by simpa[uE]using hB,h⟩
 |o::l,k,listed,s,hdc,hl,hB,h=>by
  have h0:ops[k]? = some o:=by simpa using(hl 0).symm
  simp only[List.length_cons,uE,AO]at hB;obtain⟨⟨hr,hf⟩,hB'⟩:=hB;obtain⟨s',hd,hK⟩:=h;exact aHg h0 l.length listed s s' hdc (aGa h0 hf) (by simpa using hr) hd
   (aTr l (k+1) _ _ (aXl hdc (by simpa using hr)) (λj=>by have:=hl (j+1);simpa[Ed,CB 1 j]using this) hB' hK)
def sV(G:Ctx)(N:Nat)(ds:List Deferred)(s:AS)(a:Act)(w:World):Prop :=
 ∃F ι,HR G F w ι s.T s.K/\(∀id,(∃b,ι id=some b)↔s.U id)/\(∀t,V F w ι (s.J t) (a.tmps.getD t undef))/\(a.tmps.size=N/\∀t v,G.Z t=some v->a.tmps.getD t undef=v)/\a.defers=ds/\∀b,ι 0=some b->G.P0 b
def kT(a:Act)(dst:Option Tmp)(u:Value)(h:∀d,dst=some d->d<a.tmps.size)(t:Nat):(a.put dst u).tmps.getD t undef=if dst=some t then u else a.tmps.getD t undef:=by
 cases dst with
 |none=>simp[Eg]
 |some d =>
  have hd:=h d rfl;simp only[Eg,Bj,AU];by_cases e:d=t
  ·subst e;rw[Ad rfl,Array.getElem?_setIfInBounds_self_of_lt hd];rfl
  ·rw[Ac e,Array.getElem?_setIfInBounds_ne e]
def vC{o:Oper}{J:Nat->AV}{F:Nat->Prop}{w:World}{ι:Nat->Option Nat}{a:Act}{x:Bool}(h:eY ops o J=some x)(hV:∀t,V F w ι (J t) (a.tmps.getD t undef)) :
  EC o (yielded ops a.tmps)=x:=by
 unfold eY at h
 unfold EC
 cases hg:o.guard with
 |none=>simp only[hg]at h;injection h
 |some gw =>
  obtain⟨j,want⟩:=gw
  simp only[hg]at h ⊢
  unfold yielded
  cases hd:(ops[j]?).bind (·.dst)with
  |none=>simp only[hd,AU]at h;rw[<-h];cases want<;>rfl
  |some d =>
   simp only[hd]at h
   have hv:=hV d
   simp only[Ej]
   rw[Bj]at hv
   split at h
   ·rename_i y hy
    injection h with h;subst h
    rw[hy]at hv
    cases ht:a.tmps[d]? with
    |none=>rw[ht]at hv;simp only[Option.getD_none]at hv;cases hv with|d _ _ hv=>cases hv
    |some v =>
     rw[ht]at hv;simp only[Bd]at hv
     cases hv with|d _ _ hv=>cases hv with|b =>
     cases y<;>cases want<;>rfl
   ·rename_i hy
    injection h with h;subst h
    rw[hy]at hv
    cases ht:a.tmps[d]? with
    |none=>rfl
    |some v =>
     rw[ht]at hv;simp only[Bd]at hv
     generalize hu:v=v' at hv
     cases hv;rfl
   ·cases h
def xQ{N:Nat}{ds:List Deferred}{o:Oper}{s s':AS}{a:Act}{w:World}{K:Act->World->Prop}{Q':Exit->Act->World->Prop}(hd:qX P G ops o s s')(hdst:∀d,o.dst=some d->d<N/\G.Z d=none)(hrel:sV G N ds s a w)
  (hK:∀a' w',sV G N ds s' a' w'->K a' w'):if EC o (yielded ops a.tmps)then o.wp P a w K Q' else K (a.put o.dst undef) w:=by
 obtain⟨F,ι,hR,hdom,hV,hN,hds,hp⟩:=hrel
 have hputN:∀u,(a.put o.dst u).tmps.size=N/\∀t v,G.Z t=some v->(a.put o.dst u).tmps.getD t undef=v:=λu=>by refine⟨by cases o.dst<;>simp[Eg,hN.1],λt v hz=>?_⟩;rw[kT a o.dst u (λd h=>by rw[hN.1];exact(hdst d h).1) t,Ac (λe=>by rw[(hdst t e).2]at hz;cases hz)];exact hN.2 t v hz
 have hputd:∀u,(a.put o.dst u).defers=ds:=λu=>by cases o.dst<;>simp[Eg,hds]
 cases hd with
 |no hw =>
  rw[vC hw hV,Ac (by simp)]
  exact hK _ _ ⟨F,ι,hR,hdom,aHj hV .un λt=>kT a o.dst undef (λd h=>by rw[hN.1];exact(hdst d h).1) t,hputN _,hputd _,hp⟩
 |yes av new con K' hw hev hU hT h0 =>
  have hY:Y P G o s.J s.T s.K K' av new con:=by
   rcases hev with ⟨_,rfl,rfl,h⟩|⟨_,rfl,hcT,_,h⟩|⟨_,rfl,rfl,id,t,old,ho,_,_,hold,hT,rfl,h⟩|⟨_,S,g,q1,_,_,_,rfl,h⟩
   ·exact h _ _ λ_ _=>rfl
   ·exact h _ hcT
   ·exact h _ _ hold hT
   ·exact h _ _ (λid hid=>⟨q1 id hid,rfl⟩) λid hid=>⟨hT id hid,rfl⟩
  rw[vC hw hV,Ad rfl]
  refine hY F w ι a hR (λt _=>hV t) (λid hn=>?_) _ _ λF' w' ι' u hR' hs hd1 hd2 hv=>?_
  ·cases hi:ι id with
   |none=>rfl
   |some b=>exact absurd ((hdom id).1 ⟨b,hi⟩) (hU id hn)
  ·refine hK _ _ ⟨F',ι',hR',λid=>⟨?_,?_⟩,aHj (λt=>(hV t).step hs) hv λt=>kT a o.dst u (λd h=>by rw[hN.1];exact(hdst d h).1) t,hputN _,hputd _,λb hb=>(hd1 0 b hb).elim (hp b) λh=>h0 h b⟩
   ·rintro⟨b,hb⟩
    rcases hd1 id b hb with h|h
    ·exact .inl ((hdom id).1 ⟨b,h⟩)
    ·exact .inr h
   ·rintro(h|h)
    ·obtain⟨b,hb⟩:=(hdom id).2 h
     exact⟨b,hs.ι_le _ _ hb⟩
    ·exact hd2 id h
def qD{N:Nat}{ds:List Deferred}{Q:AS->Prop}{Q':Exit->Act->World->Prop}(hdst:∀(i:Nat) (o:Oper) (d:Tmp),ops[i]? = some o->o.dst=some d->d<N/\G.Z d=none)(hQ:∀s a w,Q s->sV G N ds s a w->Q' .normal a w) :
  ∀(fuel:Nat) (listed:Array Bool) (s:AS) (a:Act) (w:World),sV G N ds s a w->aNp P G ops Q fuel listed s->wpA P ops Q' fuel listed a w
 |0,_,s,a,w,hr,h=>⟨h.1,hQ s a w h.2 hr⟩
 |fuel+1,listed,s,a,w,hr,h=>by
  refine⟨λh0=>hQ s a w (h.1 h0) hr,λi hi=>?_⟩;have h1:=h.2 i hi;unfold aOp at h1;split
  ·rename_i ho;simp only[ho]at h1;exact qD hdst hQ fuel _ s a w hr h1
  ·rename_i o ho;simp only[ho]at h1;rcases h1 with h1|⟨s',hd,h1⟩
   ·obtain⟨F,ι,hR,hdom,hV,_,_,_⟩:=hr;exact(h1 F w ι a hR (λid b hb=>(hdom id).1 ⟨b,hb⟩) hV).elim
   ·exact xQ (K:=wpA P ops Q' fuel (listed.setIfInBounds i true)) (Q':=Q') hd (λd h=>hdst i o d ho h) hr λa' w' hr'=>qD hdst hQ fuel _ s' a' w' hr' h1
def sV.drew{N:Nat}{ds:List Deferred}{s:AS}{a:Act}{w:World}(h:sV G N ds s a w):sV G N ds s a { w with drawn:=w.drawn+1 }:=by obtain⟨F,ι,hR,hdom,hV,hN,hds,hp⟩:=h;have hs:Step F w ι F { w with drawn:=w.drawn+1 } ι:=⟨λ_ h=>h,λ_ _=>rfl,λ_ _ h=>h,λ_ _ cur _ _ h=>⟨cur,h,rfl⟩⟩;refine⟨F,ι,⟨hR.kept.trans ⟨rfl,rfl,rfl,Ap _,λ_ _ _=>rfl,λ_ cur _ _ h=>⟨cur,h,rfl⟩⟩,hR.F_lt,hR.F_ok,hR.place,λid b o h1 h2=>?_,hR.inj,hR.len⟩,hdom,λt=>(hV t).step hs,hN,hds,hp⟩;obtain⟨ob,h3,h4⟩:=hR.obj id b o h1 h2;exact⟨ob,h3,h4.step hs⟩
def aPs{rd:Bool}{WW:Code->(Exit->Act->World->Prop)->Act->World->Prop}(hW:WpR P rd WW){id N:Nat}{ds:List Deferred}{Q:AS->Prop}{Q':Exit->Act->World->Prop}{s:AS}{a:Act}{w:World}(hm:P.follows .mixedOrders=true)(hnd:rd=true->aJq ops=true)(hB:bJo P ops=true)
  (hdst:∀(i:Nat) (o:Oper) (d:Tmp),ops[i]? = some o->o.dst=some d->d<N/\G.Z d=none) (hrel:sV G N ds s a w) (h:aBu P G ops Q ops.toList s) (hQ:∀s a w,Q s->sV G N ds s a w->Q' .normal a w) :
  WW (.region id ops true) Q' a w:=by
 refine hW.regA hm hnd (qD hdst hQ _ _ s a _ hrel.drew ?_)
 have:=aTr (P:=P) (G:=G) (Q:=Q) ops.toList 0 (BI ops.size false) s (λm om hm=>by simp only[Bj,Array.getElem?_replicate]at hm;split at hm<;>cases hm) (by simp) (by rw[BS];exact(Bool.and_eq_true_iff.1 hB).2) h
 simpa using this
end
structure St where
 J:Nat->AV
 H:Hp
 n:Nat
def kill(l:List Nat)(H:Hp):Hp:=match l with|[]=>H|_=>λid=>if id∈l then none else H id
def jE(H:Hp)(n:Nat)(nb:Option HO):Hp:=match nb with|some ho=>upd H n (some ho)|none=>H
def cnt(nb:Option HO)(n:Nat):Nat:=match nb with|some _=>n+1|none=>n
def tcH(H:Hp)(n r:Nat)(l:List Nat)(ro':HO)(hs':List HO):Hp:=λid =>
 if n<=id/\id<n+hs'.length then(hs'[id-n]?).map (lT (nuT r n))else if id=r then some (lT (nuT r n) ro')else if id∈l then none else H id
def TCo(P:Program)(f:FuncId)(x:AV)(rest:List AV)(dst:Option Tmp)(σ:St)(con:List Nat)(k:St->List Nat->Prop):Prop :=
 0<σ.n/\∃(ν:Nat->Nat) (h:AV) (ro:HO) (hs:List HO) (ds:List D) (ro':HO) (hs':List HO) (r:D),x=wN ν h/\mG 0 h=true/\lf0 (hs.length+1) h=true/\(∀i j,i<hs.length+1->j<hs.length+1->ν i=ν j->i=j) /\
  (∀i ob,(ro::hs)[i]? = some ob->lfO (hs.length+1) ob=true/\σ.H (ν i)=some (lT ν ob))/\(∀i,0<i->i<hs.length+1->∃j ob,j<i/\(ro::hs)[j]? = some ob/\aIa i ob=true) /\
  fK σ.H rest=[]/\fW σ.H rest=some ds/\aAc P f h ro hs ds ro' hs' r/\k ⟨bT σ.J dst (inj r),tcH σ.H σ.n (ν 0) (nuL ν hs.length) ro' hs',σ.n+hs'.length⟩ (nuL ν hs.length++con)
def OC(P:Program)(f:FuncId)(args:Array Operand)(dst:Option Tmp)(σ:St)(con:List Nat)(k:St->List Nat->Prop):Prop :=
 if bB P f then match args.toList with
  |x::rest=>match hd1 (oev σ.J x)with
   |some (id,h)=>match σ.H id with
    |some ho=>(∃g,rest=[]/\h=.mp 0/\uZ P f g/\k ⟨bT σ.J dst (.kf g id),σ.H,σ.n⟩ con) \/
     (oG ho=true/\fK σ.H (rest.map (oev σ.J))=[]/\∃ds ho' r,fW σ.H (rest.map (oev σ.J))=some ds/\tJ P f h ho ds ho' r/\ho'.len=ho.len/\oG ho'=true /\
      k ⟨bT σ.J dst (inj r),upd σ.H id (some ho'),σ.n⟩ con)\/TCo P f (oev σ.J x) (rest.map (oev σ.J)) dst σ con k \/
     (oG ho=true/\id ∉ fK σ.H (rest.map (oev σ.J))/\∃ds r,fW σ.H (rest.map (oev σ.J))=some ds/\aCl P f h (some ho) ds r/\k ⟨bT σ.J dst (inj r),kill (id::fK σ.H (rest.map (oev σ.J))) σ.H,σ.n⟩ (id::fK σ.H (rest.map (oev σ.J))++con))
    |none=>False
   |none=>aFg (oev σ.J x)=true/\∃ds r,fW σ.H (rest.map (oev σ.J))=some ds/\aCl P f (oev σ.J x) none ds r/\k ⟨bT σ.J dst (inj r),kill (fK σ.H (rest.map (oev σ.J))) σ.H,σ.n⟩ (fK σ.H (rest.map (oev σ.J))++con)
  |[]=>False
 else(bC P f=true/\0<σ.n/\∃v hs,((∃ds,fW σ.H (args.toList.map (oev σ.J))=some ds/\fK σ.H (args.toList.map (oev σ.J))=[]/\pX P f ds v hs) \/
   ((args.toList.map (oev σ.J)).all aFg=true/\aHo P f (args.toList.map (oev σ.J)) v hs)) /\
  k ⟨bT σ.J dst (v σ.n),gJ σ.H σ.n (hs σ.n),σ.n+(hs σ.n).length⟩ con)\/match args.toList.map (oev σ.J)with
  |[.kf g id]=>match σ.H id with
   |some (.map .i64 es)=>es.length<=1099511627776/\(es.map (·.1)).all inr=true/\nD P f g/\k ⟨bT σ.J dst (.d (.sl ((gZ (es.map (·.1))).map λn=>[.i .i64 n]))),σ.H,σ.n⟩ con
   |_=>False
  |avs=>∃ds r,fW σ.H avs=some ds/\Spec P f ds r/\k ⟨bT σ.J dst (inj r),kill (bS σ.H avs r) σ.H,σ.n⟩ (bS σ.H avs r++con)
def itA(H:Hp)(x:AV):Option (Nat×IntKind×List (Int×D)):=match x with
 |.ptr id 0=>match H id with
  |some (.iter k _ es)=>some (id,k,es)
  |_=>none
 |_=>none
def O1(P:Program)(o:Oper)(σ:St)(con:List Nat)(k:St->List Nat->Prop):Prop :=
 match o.op with
 |.load t x=>match zB P σ.H t (oev σ.J x)with
  |some v=>k ⟨bT σ.J o.dst v,σ.H,σ.n⟩ con
  |none=>False
 |.lookup t m x ok=>match pK P σ.H t (oev σ.J m) (oev σ.J x) ok with
  |some v=>k ⟨bT σ.J o.dst v,σ.H,σ.n⟩ con
  |none=>False
 |.entry x=>match bLw σ.H (oev σ.J x)with
  |some v=>k ⟨bT σ.J o.dst v,σ.H,σ.n⟩ con
  |none=>False
 |.next x s=>s=false/\match itA σ.H (oev σ.J x)with
  |some (id,kd,es)=>(es=[]->k ⟨bT σ.J o.dst (.tp [.d (.b false)]),σ.H,σ.n⟩ con) /\
   ∀(j:Nat) e,es[j]? = some e->k ⟨bT σ.J o.dst (.tp [.d (.b true),.any,.any]),upd σ.H id (some (.iter kd (some e) (es.eraseIdx j))),σ.n⟩ con
  |none=>False
 |.store t ad x=>match qO P σ.H t (oev σ.J ad) (oev σ.J x)with
  |some (id,ho)=>k ⟨bT σ.J o.dst .un,upd σ.H id (some ho),σ.n⟩ con
  |none=>False
 |.mapUpdate t m x v=>match tL P σ.H t (oev σ.J m) (oev σ.J x) (some (oev σ.J v))with
  |some (id,ho)=>k ⟨bT σ.J o.dst .any,upd σ.H id (some ho),σ.n⟩ con
  |none=>False
 |.insert t m x v=>match tL P σ.H t (oev σ.J m) (oev σ.J x) (some (oev σ.J v))with
  |some (id,ho)=>k ⟨bT σ.J o.dst .any,upd σ.H id (some ho),σ.n⟩ con
  |none=>False
 |.call { callee:=.value (.func f),args:=args,argTypes:=_ }=>OC P f args o.dst σ con k
 |.call { callee:=.value (.tmp t),args:=args,argTypes:=_ }=>match kY (σ.J t)with
  |some (f,cs)=>∃ds r,fW σ.H (args.toList.map (oev σ.J)++cs)=some ds/\Spec P f ds r /\
    k ⟨bT σ.J o.dst (inj r),kill (bS σ.H (args.toList.map (oev σ.J)++cs) r) σ.H,σ.n⟩ (bS σ.H (args.toList.map (oev σ.J)++cs) r++con)
  |none=>False
 |.call { callee:=.invoke (.tmp t) name,args:=args,argTypes:=_ }=>match σ.J t with
  |.d (.iff ty d)=>match yX P ty name with
   |some f=>∃ds r,fW σ.H (.d d::args.toList.map (oev σ.J))=some ds/\Spec P f ds r /\
     k ⟨bT σ.J o.dst (inj r),kill (bS σ.H (.d d::args.toList.map (oev σ.J)) r) σ.H,σ.n⟩ (bS σ.H (.d d::args.toList.map (oev σ.J)) r++con)
   |none=>False
  |_=>False
 |.call { callee:=.builtin .append,args:=args,argTypes:=ts }=>match args.toList,ts.toList with
  |[s,x],[t,t']=>t=t'/\match aCr P σ.H t (oev σ.J s) (oev σ.J x) σ.n with
   |some (av,nb,cn)=>k ⟨bT σ.J o.dst av,jE (kill cn σ.H) σ.n nb,cnt nb σ.n⟩ (cn++con)
   |none=>False
  |_,_=>False
 |.call { callee:=.builtin .delete,args:=args,argTypes:=ts }=>match args.toList,ts.toList with
  |[m,x],[t,_]=>match tL P σ.H t (oev σ.J m) (oev σ.J x) none with
   |some (id,ho)=>k ⟨bT σ.J o.dst .any,upd σ.H id (some ho),σ.n⟩ con
   |none=>False
  |_,_=>False
 |.call { callee:=.builtin .len,args:=args,argTypes:=ts }=>if aVq P ts then(match args.toList with
   |[m]=>match aJs σ.H (oev σ.J m)with
    |some n=>k ⟨bT σ.J o.dst (.d (.i .i64 n)),σ.H,σ.n⟩ con
    |none=>False
   |_=>False)else kind P (.call { callee:=.builtin .len,args:=args,argTypes:=ts })=0/\match nev P (.call { callee:=.builtin .len,args:=args,argTypes:=ts }) σ.J σ.n with
    |some (av,nb)=>k ⟨bT σ.J o.dst av,jE σ.H σ.n nb,cnt nb σ.n⟩ con
    |none=>False
 |op=>kind P op=0/\match nev P op σ.J σ.n with
  |some (av,nb)=>k ⟨bT σ.J o.dst av,jE σ.H σ.n nb,cnt nb σ.n⟩ con
  |none=>False
def OW(P:Program)(ops:Array Oper):List Oper->St->List Nat->(St->List Nat->Prop)->Prop
 |[],σ,con,k=>k σ con
 |o::l,σ,con,k=>match eY ops o σ.J with
  |some true=>O1 P o σ con λσ' con'=>OW P ops l σ' con' k
  |some false=>OW P ops l ⟨bT σ.J o.dst .un,σ.H,σ.n⟩ con k
  |none=>False
def aOm{H:Hp}{i:Nat}:∀(n:Nat) (x:AV),i∈vis H n x->∃ob,H i=some ob
 |0,_,h=>by cases h
 |n+1,x,h=>by
  have hl:∀cs:List AV,i∈cs.flatMap (vis H n)->∃ob,H i=some ob:=λcs hc=>by obtain⟨y,_,hy⟩:=Bc.1 hc;exact aOm n y hy
  cases x with
  |own id off len sz =>
   simp only[vis]at h;split at h
   ·rename_i hH;rcases AG.1 h with rfl|h
    ·exact⟨_,hH⟩
    ·exact hl _ h
   ·cases h
  |ptr id off =>
   simp only[vis]at h;split at h
   ·rename_i hH;rcases AG.1 h with rfl|h
    ·exact⟨_,hH⟩
    ·exact hl _ h
   ·cases h
  |mp id =>
   simp only[vis]at h;split at h
   ·rename_i hH;rcases AG.1 h with rfl|h
    ·exact⟨_,hH⟩
    ·exact hl _ h
   ·cases h
  |fn f cs=>exact hl _ h
  |ag cs=>exact hl _ h
  |tp cs=>exact hl _ h
  |_=>cases h
def aIo{H:Hp}{i:Nat}{l:List AV}{ds:List D}(_:fW H l=some ds)(h:i∈fK H l):∃ob,H i=some ob:=by obtain⟨y,_,hy⟩:=Bc.1 h;exact aOm 8 y hy
structure Wf(σ:St)(con:List Nat):Prop where
 top:∀id,σ.n<=id->σ.H id=none
 con:∀id∈con,id<σ.n/\σ.H id=none
structure eZ(σ:St)(con:List Nat)(s:AS):Prop where
 J:s.J=σ.J
 T:∀id,s.T id↔id∈con
 K:∀id o,σ.H id=some o->s.K id=some o
 U:∀id,s.U id↔((σ.H id).isSome=true\/id∈con)
section
variable {P:Program} {G:Ctx} {ops:Array Oper}
def iQ{l:List Nat}{H:Hp}{id:Nat}{o:HO}(h:kill l H id=some o):H id=some o/\id ∉ l:=by
 unfold kill at h;split at h
 ·exact⟨h,by simp⟩
 ·simp only at h;split at h
  ·cases h
  ·exact⟨h,by assumption⟩
def pM{l:List Nat}{H:Hp}{id:Nat}(h:id∈l):kill l H id=none:=by
 unfold kill;split
 ·cases h
 ·simp only;rw[Ad h]
def uG{l:List Nat}{H:Hp}{id:Nat}(h:id ∉ l):kill l H id=H id:=by
 unfold kill;split
 ·rfl
 ·simp only;rw[Ac h]
def aIs{H:Hp}{t:TypeId}{ad x:AV}{id:Nat}{ho:HO}(h:qO P H t ad x=some (id,ho)):∃off old,ad=.ptr id off/\H id=some old:=by
 unfold qO at h;split at h
 ·split at h
  ·rename_i hH;obtain⟨vs,hvs,h⟩:=Ae.1 h;obtain⟨sz,hsz,h⟩:=Ae.1 h;split at h
   ·injection h with h;injection h with h1 h2;subst h1;exact⟨_,_,rfl,hH⟩
   ·cases h
  ·cases h
 ·cases h
def aOj(H:Hp):∀(n:Nat) (x:AV) (id:Nat),id∈vis H n x->∃o,H id=some o
 |0,x,id,h=>by simp[vis]at h
 |n+1,x,id,h=>by
  have ih:=aOj H n;unfold vis at h;split at h
  ·split at h
   ·rename_i e cs hH;rcases AG.1 h with rfl|h
    ·exact⟨_,hH⟩
    ·obtain⟨c,_,hc⟩:=Bc.1 h;exact ih c id hc
   ·cases h
  ·split at h
   ·rename_i e cs hH;rcases AG.1 h with rfl|h
    ·exact⟨_,hH⟩
    ·obtain⟨c,_,hc⟩:=Bc.1 h;exact ih c id hc
   ·cases h
  ·obtain⟨c,_,hc⟩:=Bc.1 h;exact ih c id hc
  ·obtain⟨c,_,hc⟩:=Bc.1 h;exact ih c id hc
  ·obtain⟨c,_,hc⟩:=Bc.1 h;exact ih c id hc
  ·split at h
   ·rename_i e cs hH;rcases AG.1 h with rfl|h
    ·exact⟨_,hH⟩
    ·obtain⟨c,_,hc⟩:=Bc.1 h;exact ih c id hc
   ·cases h
  ·cases h
def jU{H:Hp}{l:List AV}{r:D}{id:Nat}(h:id∈bS H l r):∃o,H id=some o:=by
 unfold bS at h;split at h
 ·cases h
 ·obtain⟨c,_,hc⟩:=Bc.1 h;exact aOj H 8 c id hc
def aTk{H:Hp}{t:TypeId}{s x:AV}{n:Nat}{av:AV}{nb:Option HO}{cn:List Nat}(h:aCr P H t s x n=some (av,nb,cn)) :
  ∀id∈cn,(∃o,H id=some o)/\∃off len sz,s=.own id off len sz:=by
 unfold aCr at h
 obtain⟨e,_,h⟩:=Ae.1 h
 obtain⟨sz,_,h⟩:=Ae.1 h
 obtain⟨bt,_,h⟩:=Ae.1 h
 obtain⟨z,_,h⟩:=Ae.1 h
 obtain⟨p,_,h⟩:=Ae.1 h
 split at h
 ·split at h
  ·split at h
   ·injection h with h;injection h with _ h;injection h with _ h;subst h;intro id hid;cases hid
   ·split at h
    ·injection h with h;injection h with _ h;injection h with _ h;subst h;intro id hid;cases hid
    ·cases h
  ·split at h
   ·rename_i hH
    split at h
    ·injection h with h;injection h with _ h;injection h with _ h;subst h
     intro id hid
     simp only[List.mem_singleton]at hid;subst hid
     exact⟨⟨_,hH⟩,_,_,_,rfl⟩
    ·cases h
   ·cases h
  ·split at h
   ·injection h with h;injection h with _ h;injection h with _ h;subst h;intro id hid;cases hid
   ·split at h
    ·injection h with h;injection h with _ h;injection h with _ h;subst h;intro id hid;cases hid
    ·cases h
  ·cases h
 ·cases h
def sK{J:Nat->AV}{x:Operand}{id:Nat}{h:AV}(he:hd1 (oev J x)=some (id,h)):∃ts,x=.tmp ts/\mG id (J ts)=true:=by
 cases x with
 |tmp ts =>
  refine⟨ts,rfl,?_⟩;simp only[oev]at he;unfold hd1 at he;split at he<;>first|(cases he;done)|(injection he with he;injection he with e1 _;subst e1;simp_all [mG])
 |const v =>
  exfalso;simp only[oev,cv]at he;split at he
  ·cases he
  ·unfold cv1 at he;split at he<;>cases he
 |global g=>cases he
 |func f=>cases he
def aDk{H:Hp}{t:TypeId}{m x:AV}{v:Option AV}{id:Nat}{ho:HO}(h:tL P H t m x v=some (id,ho)):∃old,m=.mp id/\H id=some old/\ho.len=old.len:=by
 unfold tL at h;split at h
 ·split at h
  ·rename_i hH;obtain⟨p,_,h⟩:=Ae.1 h;split at h
   ·split at h
    ·injection h with h;injection h with e1 e2;subst e1;subst e2;exact⟨_,rfl,hH,rfl⟩
    ·cases h
   ·cases h
  ·cases h
 ·cases h
def uY{k:St->List Nat->Prop}:∀(l:List Oper) (σ:St) (con:List Nat),sC l=true->(σ.n=0->∀b,G.P0 b)->Wf σ con->OW P ops l σ con k ->
  ∃fb:Hp,∀s,eZ σ con s->(∀id,σ.n<=id->s.K id=fb id)->aBu P G ops (λs'=>∃σ' con',k σ' con'/\(σ'.n=0->∀b,G.P0 b)/\Wf σ' con'/\eZ σ' con' s') l s
 |[],σ,con,_,hn0,hwf,h=>⟨λ_=>none,λs hs _=>⟨σ,con,h,hn0,hwf,hs⟩⟩
 |o::l,σ,con,hnn,hn0,hwf,h=>by
  simp only[sC,List.all_cons,AO,Co]at hnn;have ih:=λσ con=>uY (k:=k) l σ con (by simpa[sC]using hnn.2)
  unfold OW at h
  -- a step that makes no block
  have pure0:∀(av:AV) (con':List Nat) (H':Hp),H'=kill con' σ.H->(∀id∈con',(σ.H id).isSome=true)->OW P ops l ⟨bT σ.J o.dst av,H',σ.n⟩ (con'++con) k ->
    (∀s,eZ σ con s->Ev P G o s.J s.T s.K s.K av bW (λi=>i∈con'))->eY ops o σ.J=some true ->
    ∃fb:Hp,∀s,eZ σ con s->(∀id,σ.n<=id->s.K id=fb id)->aBu P G ops (λs'=>∃σ' con',k σ' con'/\(σ'.n=0->∀b,G.P0 b)/\Wf σ' con'/\eZ σ' con' s') (o::l) s:=by
   intro av con' H' hH' hc' hk hev hw
   subst hH'
   have hwf':Wf ⟨bT σ.J o.dst av,kill con' σ.H,σ.n⟩ (con'++con):=by
    refine⟨λid hid=>?_,λid hid=>?_⟩
    ·cases hx:kill con' σ.H id with
     |none=>exact hx
     |some o'=>have:=(iQ hx).1;rw[hwf.top id hid]at this;cases this
    ·rcases A5.1 hid with hid|hid
     ·refine⟨?_,pM hid⟩;have:=hc' id hid;rcases Bf id σ.n with h|h
      ·exact h
      ·rw[hwf.top id h]at this;cases this
     ·obtain⟨h1,h2⟩:=hwf.con id hid;refine⟨h1,?_⟩;cases hx:kill con' σ.H id with
      |none=>exact hx
      |some o'=>have:=(iQ hx).1;rw[h2]at this;cases this
   obtain⟨fb,hfb⟩:=ih _ _ (by exact hn0) hwf' hk
   refine⟨fb,λs hs hsfb=>⟨_,.yes av bW (λi=>i∈con') s.K (by rw[hs.J];exact hw) (hev s hs) (λ_ h=>h.elim) (λ_ h=>h.elim) (λh=>h.elim),hfb _ ?_ hsfb⟩⟩
   refine⟨by rw[hs.J],λid=>by simp[hs.T,or_comm],λid o' h=>hs.K id o' (iQ h).1,λid=>?_⟩
   simp only[hs.U,bW,EB,A5]
   by_cases hid:id∈con'
   ·simp[hid,hc' id hid,pM hid]
   ·rw[uG hid];simp[hid]
  -- a step that makes block n
  have new1:∀(av:AV) (con':List Nat) (ho:HO),(∀id∈con',(σ.H id).isSome=true)->OW P ops l ⟨bT σ.J o.dst av,upd (kill con' σ.H) σ.n (some ho),σ.n+1⟩ (con'++con) k ->
    (∀s,eZ σ con s->s.K σ.n=some ho->Ev P G o s.J s.T s.K s.K av (·=σ.n) (λi=>i∈con'))->eY ops o σ.J=some true ->
    ∃fb:Hp,∀s,eZ σ con s->(∀id,σ.n<=id->s.K id=fb id)->aBu P G ops (λs'=>∃σ' con',k σ' con'/\(σ'.n=0->∀b,G.P0 b)/\Wf σ' con'/\eZ σ' con' s') (o::l) s:=by
   intro av con' ho hc' hk hev hw
   have hlt:∀id∈con',id<σ.n:=λid hid=>by
    have:=hc' id hid;rcases Bf id σ.n with h|h
    ·exact h
    ·rw[hwf.top id h]at this;cases this
   have hwf':Wf ⟨bT σ.J o.dst av,upd (kill con' σ.H) σ.n (some ho),σ.n+1⟩ (con'++con):=by
    refine⟨λid hid=>?_,λid hid=>?_⟩
    ·simp only at hid ⊢;rw[dX _ _ (by omega)];cases hx:kill con' σ.H id with
     |none=>rfl
     |some o'=>have:=(iQ hx).1;rw[hwf.top id (by omega)]at this;cases this
    ·simp only;rcases A5.1 hid with hid|hid
     ·have:=hlt id hid;exact⟨by omega,by rw[dX _ _ (by omega)];exact pM hid⟩
     ·obtain⟨h1,h2⟩:=hwf.con id hid;refine⟨by omega,?_⟩;rw[dX _ _ (by omega)];cases hx:kill con' σ.H id with
      |none=>rfl
      |some o'=>have:=(iQ hx).1;rw[h2]at this;cases this
   obtain⟨fb,hfb⟩:=ih _ _ (λh=>by simp at h) hwf' hk
   refine⟨upd fb σ.n (some ho),λs hs hsfb=>?_⟩
   have hKn:s.K σ.n=some ho:=by rw[hsfb _ (Ap _),dC]
   refine⟨_,.yes av (·=σ.n) (λi=>i∈con') s.K (by rw[hs.J];exact hw) (hev s hs hKn) ?_ ?_ (λh=>hn0 h.symm),hfb _ ?_ λid hid=>?_⟩
   ·rintro id rfl hu
    rcases(hs.U σ.n).1 hu with h|h
    ·rw[hwf.top _ (Ap _)]at h;cases h
    ·have:=(hwf.con _ h).1;omega
   ·rintro id rfl ht
    have:=(hwf.con _ ((hs.T σ.n).1 ht)).1;omega
   ·refine⟨by rw[hs.J],λid=>by simp[hs.T,or_comm],λid o' h=>?_,λid=>?_⟩
    ·simp only at h
     by_cases hid:id=σ.n
     ·subst hid;rw[dC]at h;rw[<-h];exact hKn
     ·rw[dX _ _ hid]at h;exact hs.K id o' (iQ h).1
    ·simp only[hs.U,A5]
     by_cases hid:id=σ.n
     ·subst hid;simp[dC]
     ·rw[dX _ _ hid]
      by_cases hc:id∈con'
      ·simp[hc,hc' id hc,pM hc]
      ·rw[uG hc];simp[hid,hc]
   ·simp only at hid
    rw[hsfb id (by omega),dX _ _ (by omega)]
  -- a step that makes blocks n, n + 1, ..
  have newk:∀(av:AV) (hs0:List HO),0<σ.n->OW P ops l ⟨bT σ.J o.dst av,gJ σ.H σ.n hs0,σ.n+hs0.length⟩ con k ->
    (∀s,eZ σ con s->(∀i ob,hs0[i]? = some ob->s.K (σ.n+i)=some ob)->Ev P G o s.J s.T s.K s.K av (λi=>σ.n<=i/\i<σ.n+hs0.length) bW)->eY ops o σ.J=some true ->
    ∃fb:Hp,∀s,eZ σ con s->(∀id,σ.n<=id->s.K id=fb id)->aBu P G ops (λs'=>∃σ' con',k σ' con'/\(σ'.n=0->∀b,G.P0 b)/\Wf σ' con'/\eZ σ' con' s') (o::l) s:=by
   intro av hs0 hpos hk hev hw
   have hwf':Wf ⟨bT σ.J o.dst av,gJ σ.H σ.n hs0,σ.n+hs0.length⟩ con:=by
    refine⟨λid hid=>?_,λid hid=>?_⟩
    ·simp only[gJ]at hid ⊢;rw[Ac (by omega)];exact hwf.top id (by omega)
    ·obtain⟨h1,h2⟩:=hwf.con id hid;simp only[gJ];exact⟨by omega,by rw[Ac (by omega)];exact h2⟩
   obtain⟨fb,hfb⟩:=ih _ _ (λh=>by simp only at h;omega) hwf' hk
   refine⟨gJ fb σ.n hs0,λs hs hsfb=>?_⟩
   have hKn:∀i ob,hs0[i]? = some ob->s.K (σ.n+i)=some ob:=λi ob hi=>by have hlt:=(Ah.1 hi).1;rw[hsfb _ (by omega)];simp only[gJ];rw[Ad ⟨by omega,by omega⟩,show σ.n+i-σ.n=i by omega];exact hi
   refine⟨_,.yes av (λi=>σ.n<=i/\i<σ.n+hs0.length) bW s.K (by rw[hs.J];exact hw) (hev s hs hKn) ?_ ?_ (λh=>by omega),hfb _ ?_ λid hid=>?_⟩
   ·rintro id ⟨h1,_⟩ hu
    rcases(hs.U id).1 hu with h|h
    ·rw[hwf.top _ h1]at h;cases h
    ·have:=(hwf.con _ h).1;omega
   ·rintro id ⟨h1,_⟩ ht
    have:=(hwf.con _ ((hs.T id).1 ht)).1;omega
   ·refine⟨by rw[hs.J],λid=>by simp[hs.T,bW],λid o' h=>?_,λid=>?_⟩
    ·simp only[gJ]at h
     split at h
     ·rename_i hr
      have:=hKn (id-σ.n) o' h
      rwa [show σ.n+(id-σ.n)=id by omega]at this
     ·exact hs.K id o' h
    ·simp only[hs.U,gJ]
     by_cases hr:σ.n<=id/\id<σ.n+hs0.length
     ·rw[Ad hr,Ab (by omega)];simp[hr]
     ·rw[Ac hr];simp[hr]
   ·simp only at hid
    rw[hsfb id (by omega)]
    simp only[gJ]
    rw[Ac (by omega)]
  -- a step that writes into a block
  have write1:∀(av:AV) (id:Nat) (ho old:HO) (ts:Nat),CI ts∈o.op.operands->mG id (σ.J ts)=true->σ.H id=some old->kind P o.op=2->OW P ops l ⟨bT σ.J o.dst av,upd σ.H id (some ho),σ.n⟩ con k ->
    (∀(T2:Nat->Prop) (K2:Hp),K2 id=some old->¬T2 id->Y P G o σ.J T2 K2 (kK K2 T2 id ho) av bW bW)->eY ops o σ.J=some true ->
    ∃fb:Hp,∀s,eZ σ con s->(∀id,σ.n<=id->s.K id=fb id)->aBu P G ops (λs'=>∃σ' con',k σ' con'/\(σ'.n=0->∀b,G.P0 b)/\Wf σ' con'/\eZ σ' con' s') (o::l) s:=by
   intro av id ho old ts hts hΓ hold hkd h hY hw
   have hwf':Wf ⟨bT σ.J o.dst av,upd σ.H id (some ho),σ.n⟩ con:=by
    refine⟨λi hi=>?_,λi hi=>?_⟩
    ·simp only at hi ⊢;rw[dX _ _ (λe=>by rw[e]at hi;rw[hwf.top id hi]at hold;cases hold)];exact hwf.top i hi
    ·obtain⟨h1,h2⟩:=hwf.con i hi;refine⟨h1,?_⟩;simp only;rw[dX _ _ (λe=>by rw[e]at h2;rw[h2]at hold;cases hold)];exact h2
   obtain⟨fb,hfb⟩:=ih _ _ (by exact hn0) hwf' h
   refine⟨fb,λs hs hsfb=>?_⟩
   have hidn:id<σ.n:=by
    rcases Bf id σ.n with h|h
    ·exact h
    ·rw[hwf.top id h]at hold;cases hold
   have hnT:¬s.T id:=λh=>by have:=(hwf.con id ((hs.T id).1 h)).2;rw[this]at hold;cases hold
   refine⟨_,.yes av bW bW (kK s.K s.T id ho) (by rw[hs.J];exact hw) (.inr (.inr (.inl ⟨hkd,rfl,rfl,id,ts,old,ho,hts,by rw[hs.J];exact hΓ,hs.K _ _ hold,hnT,rfl,λT2 K2 hK2 hT2=>by rw[hs.J];exact hY T2 K2 hK2 hT2⟩))) (λ_ h=>h.elim) (λ_ h=>h.elim) (λh=>h.elim),hfb _ ?_ λi hi=>?_⟩
   ·refine⟨by rw[hs.J],λi=>by simp[hs.T,bW],λi o' h=>?_,λi=>?_⟩
    ·simp only at h ⊢
     by_cases hid:i=id
     ·subst hid;rw[dC]at h;unfold kK;rw[Ad rfl];exact h
     ·rw[dX _ _ hid]at h
      rw[oY hid (λht=>by have:=(hwf.con i ((hs.T i).1 ht)).2;rw[this]at h;cases h)]
      exact hs.K i o' h
    ·simp only[hs.U,bW,EB]
     by_cases hid:i=id
     ·subst hid;simp[dC,hold]
     ·rw[dX _ _ hid]
   ·simp only at hi
    show kK s.K s.T id ho i=fb i
    rw[oY (by omega) (λht=>by have:=(hwf.con i ((hs.T i).1 ht)).1;omega)]
    exact hsfb i hi
  -- a step that turns a structure
  have stepG:∀(av:AV) (ν:Nat->Nat) (ro:HO) (hs0:List HO) (ro':HO) (hs':List HO),0<σ.n->(∀i j,i<hs0.length+1->j<hs0.length+1->ν i=ν j->i=j)->(∀i ob,(ro::hs0)[i]? = some ob->σ.H (ν i)=some (lT ν ob))->kind P o.op=2 ->
    OW P ops l ⟨bT σ.J o.dst av,tcH σ.H σ.n (ν 0) (nuL ν hs0.length) ro' hs',σ.n+hs'.length⟩ (nuL ν hs0.length++con) k ->
    (∀s,eZ σ con s->∀i,i<hs0.length+1->∀F w ι T2 (a:Act),HR G F w ι T2 s.K->(∀t,CI t∈o.op.operands->V F w ι (s.J t) (a.tmps.getD t undef))->∃b,ι (ν i)=some b) ->
    (∀s,eZ σ con s->(∀j ob,hs'[j]? = some ob->s.K (σ.n+j)=some (lT (nuT (ν 0) σ.n) ob))->∀(T2:Nat->Prop) (K2:Hp),(∀id,(∃i,i<hs0.length+1/\ν i=id)->¬T2 id/\K2 id=s.K id)->(∀id,(σ.n<=id/\id<σ.n+hs'.length)->¬T2 id/\K2 id=s.K id) ->
     Y P G o s.J T2 K2 (rP K2 T2 (λid=>∃i,i<hs0.length+1/\ν i=id) λid=>if id=ν 0 then some (lT (nuT (ν 0) σ.n) ro')else none) av (λi=>σ.n<=i/\i<σ.n+hs'.length) (λi=>∃j,0<j/\j<hs0.length+1/\ν j=i)) ->
    eY ops o σ.J=some true ->
    ∃fb:Hp,∀s,eZ σ con s->(∀id,σ.n<=id->s.K id=fb id)->aBu P G ops (λs'=>∃σ' con',k σ' con'/\(σ'.n=0->∀b,G.P0 b)/\Wf σ' con'/\eZ σ' con' s') (o::l) s:=by
   intro av ν ro hs0 ro' hs' hpos hνi hνH hkd hk hlive hY hw
   have hget:∀i,i<hs0.length+1->∃ob,(ro::hs0)[i]? = some ob:=λi hi=>⟨_,Ab (by simpa using hi)⟩
   have hlt:∀i,i<hs0.length+1->ν i<σ.n:=λi hi=>by
    obtain⟨ob,ho⟩:=hget i hi;have h1:=hνH i ob ho;rcases Bf (ν i) σ.n with h|h
    ·exact h
    ·rw[hwf.top _ h]at h1;cases h1
   have h0l:ν 0 ∉ nuL ν hs0.length:=λh=>by obtain⟨j,h1,h2,h3⟩:=vS.1 h;have:=hνi j 0 h2 (by omega) h3;omega
   have hwf':Wf ⟨bT σ.J o.dst av,tcH σ.H σ.n (ν 0) (nuL ν hs0.length) ro' hs',σ.n+hs'.length⟩ (nuL ν hs0.length++con):=by
    refine⟨λid hid=>?_,λid hid=>?_⟩
    ·simp only at hid;have h00:=hlt 0 (by omega);simp only[tcH];rw[Ac (by omega),Ac (by omega)];split
     ·rfl
     ·exact hwf.top id (by omega)
    ·rcases A5.1 hid with hid|hid
     ·obtain⟨j,h1,h2,rfl⟩:=vS.1 hid;have:=hlt j h2;refine⟨by simp only;omega,?_⟩;simp only[tcH];rw[Ac (by omega),Ac (λe=>h0l (by rw[<-e];exact hid)),Ad hid]
     ·obtain⟨h1,h2⟩:=hwf.con id hid;refine⟨by simp only;omega,?_⟩;simp only[tcH];rw[Ac (by omega),Ac (λe=>by
       obtain⟨ob,ho⟩:=hget 0 (by omega);have:=hνH 0 ob ho;rw[<-e,h2]at this;cases this)]
      split
      ·rfl
      ·exact h2
   obtain⟨fb,hfb⟩:=ih _ _ (λh=>by simp only at h;omega) hwf' hk
   refine⟨λid=>if σ.n<=id/\id<σ.n+hs'.length then(hs'[id-σ.n]?).map (lT (nuT (ν 0) σ.n))else fb id,λs hs hsfb=>?_⟩
   have hKn:∀j ob,hs'[j]? = some ob->s.K (σ.n+j)=some (lT (nuT (ν 0) σ.n) ob):=λj ob hj=>by have hl:=(Ah.1 hj).1;rw[hsfb _ (by omega)];simp only;rw[Ad ⟨by omega,by omega⟩,show σ.n+j-σ.n=j by omega,hj];rfl
   have hTn:∀id,s.T id->id<σ.n/\σ.H id=none:=λid h=>hwf.con id ((hs.T id).1 h)
   have hST:∀id,(∃i,i<hs0.length+1/\ν i=id)->¬s.T id:=λid ⟨i,hi,he⟩ ht=>by obtain⟨ob,ho⟩:=hget i hi;have h1:=hνH i ob ho;rw[he,(hTn id ht).2]at h1;cases h1
   refine⟨_,.yes av (λi=>σ.n<=i/\i<σ.n+hs'.length) (λi=>∃j,0<j/\j<hs0.length+1/\ν j=i) (rP s.K s.T (λid=>∃i,i<hs0.length+1/\ν i=id) λid=>if id=ν 0 then some (lT (nuT (ν 0) σ.n) ro')else none) (by rw[hs.J];exact hw)
    (.inr (.inr (.inr ⟨hkd,_,_,hST,λid ⟨j,_,h2,h3⟩=>⟨j,h2,h3⟩,λid h1 ⟨i,hi,he⟩=>by have:=hlt i hi;omega,λid ⟨i,hi,he⟩ F w ι T2 a hR hopr=>by rw[<-he];exact hlive s hs i hi F w ι T2 a hR hopr,rfl,λT2 K2 h1 h2=>hY s hs hKn T2 K2 h1 h2⟩))) ?_ ?_ (λh=>by omega),hfb _ ?_ λid hid=>?_⟩
   ·rintro id ⟨h1,_⟩ hu
    rcases(hs.U id).1 hu with h|h
    ·rw[hwf.top _ h1]at h;cases h
    ·have:=(hwf.con _ h).1;omega
   ·rintro id ⟨h1,_⟩ ht
    have:=(hTn id ht).1;omega
   ·refine⟨by rw[hs.J],λid=>?_,λid o' h=>?_,λid=>?_⟩
    ·simp only[hs.T,A5,vS]
     constructor
     ·rintro(h|h)
      ·exact .inr h
      ·exact .inl h
     ·rintro(h|h)
      ·exact .inr h
      ·exact .inl h
    ·simp only[tcH]at h
     simp only[rP]
     split at h
     ·rename_i hr
      have hnS:¬∃i,i<hs0.length+1/\ν i=id:=λ⟨i,hi,he⟩=>by have:=hlt i hi;omega
      rw[Ac hnS,Ac (λht=>by have:=(hTn id ht).1;omega)]
      obtain⟨ob,ho,rfl⟩:=Aj.1 h
      have:=hKn (id-σ.n) ob ho
      rwa [show σ.n+(id-σ.n)=id by omega]at this
     ·split at h
      ·rename_i hr e
       subst e
       rw[Ad ⟨0,by omega,rfl⟩,Ad rfl];exact h
      ·split at h
       ·cases h
       ·rename_i hr e1 e2
        have hnS:¬∃i,i<hs0.length+1/\ν i=id:=λ⟨i,hi,he⟩=>by
         rcases Cb i with rfl|hp
         ·exact e1 he.symm
         ·exact e2 (vS.2 ⟨i,hp,hi,he⟩)
        rw[Ac hnS,Ac (λht=>by rw[(hTn id ht).2]at h;cases h)]
        exact hs.K id o' h
    ·simp only[hs.U,A5,tcH]
     by_cases hr:σ.n<=id/\id<σ.n+hs'.length
     ·rw[Ad hr,Ab (by omega)];simp[hr]
     ·rw[Ac hr]
      by_cases e1:id=ν 0
      ·subst e1
       rw[Ad rfl]
       obtain⟨ob,ho⟩:=hget 0 (by omega)
       simp[hνH 0 ob ho]
      ·rw[Ac e1]
       by_cases e2:id∈nuL ν hs0.length
       ·rw[Ad e2]
        obtain⟨j,h1,h2,h3⟩:=vS.1 e2
        obtain⟨ob,ho⟩:=hget j h2
        have:=hνH j ob ho
        rw[h3]at this
        simp[e2,this]
       ·rw[Ac e2];simp[e2,hr]
   ·simp only at hid
    simp only[rP]
    rw[Ac (λ⟨i,hi,he⟩=>by have:=hlt i hi;omega),Ac (λht=>by have:=(hTn id ht).1;omega),hsfb id (by omega)]
    simp only
    rw[Ac (by omega)]
  -- a step that uses blocks up and writes into them
  have stepU:∀(av:AV) (ids:List Nat),(∀i,i∈ids->∃ob,σ.H i=some ob)->kind P o.op=2->OW P ops l ⟨bT σ.J o.dst av,kill ids σ.H,σ.n⟩ (ids++con) k ->
    (∀s,eZ σ con s->∀i,i∈ids->∀F w ι T2 (a:Act),HR G F w ι T2 s.K->(∀t,CI t∈o.op.operands->V F w ι (s.J t) (a.tmps.getD t undef))->∃b,ι i=some b) ->
    (∀s,eZ σ con s->∀(T2:Nat->Prop) (K2:Hp),(∀id,id∈ids->¬T2 id/\K2 id=s.K id)->Y P G o s.J T2 K2 (rP K2 T2 (λid=>id∈ids) λ_=>none) av bW (λi=>i∈ids)) ->
    eY ops o σ.J=some true ->
    ∃fb:Hp,∀s,eZ σ con s->(∀id,σ.n<=id->s.K id=fb id)->aBu P G ops (λs'=>∃σ' con',k σ' con'/\(σ'.n=0->∀b,G.P0 b)/\Wf σ' con'/\eZ σ' con' s') (o::l) s:=by
   intro av ids hids hkd hk hlive hY hw
   have hlt:∀i,i∈ids->i<σ.n:=λi hi=>by
    obtain⟨ob,h1⟩:=hids i hi;rcases Bf i σ.n with h|h
    ·exact h
    ·rw[hwf.top _ h]at h1;cases h1
   have hwf':Wf ⟨bT σ.J o.dst av,kill ids σ.H,σ.n⟩ (ids++con):=by
    refine⟨λid hid=>?_,λid hid=>?_⟩
    ·simp only at hid ⊢;cases hk:kill ids σ.H id with
     |none=>rfl
     |some ob=>have:=(iQ hk).1;rw[hwf.top id hid]at this;cases this
    ·rcases A5.1 hid with hid|hid
     ·exact⟨hlt id hid,pM hid⟩
     ·obtain⟨h1,h2⟩:=hwf.con id hid;refine⟨h1,?_⟩;simp only;rw[uG λhm=>by obtain⟨ob,h3⟩:=hids id hm;rw[h2]at h3;cases h3];exact h2
   obtain⟨fb,hfb⟩:=ih _ _ (by exact hn0) hwf' hk
   refine⟨fb,λs hs hsfb=>?_⟩
   have hTn:∀id,s.T id->id<σ.n/\σ.H id=none:=λid h=>hwf.con id ((hs.T id).1 h)
   have hST:∀id,id∈ids->¬s.T id:=λid hi ht=>by obtain⟨ob,h1⟩:=hids id hi;rw[(hTn id ht).2]at h1;cases h1
   refine⟨_,.yes av bW (λi=>i∈ids) (rP s.K s.T (λid=>id∈ids) λ_=>none) (by rw[hs.J];exact hw)
    (.inr (.inr (.inr ⟨hkd,_,_,hST,λid h=>h,λid h=>h.elim,λid hi F w ι T2 a hR hopr=>hlive s hs id hi F w ι T2 a hR hopr,rfl,λT2 K2 h1 _=>hY s hs T2 K2 h1⟩))) (λ_ h=>h.elim) (λ_ h=>h.elim) (λh=>h.elim),hfb _ ?_ λid hid=>?_⟩
   ·refine⟨by rw[hs.J],λid=>?_,λid o' h=>?_,λid=>?_⟩
    ·simp only[hs.T,A5]
     constructor
     ·rintro(h|h)
      ·exact .inr h
      ·exact .inl h
     ·rintro(h|h)
      ·exact .inr h
      ·exact .inl h
    ·obtain⟨h1,h2⟩:=iQ h
     simp only[rP]
     rw[Ac h2,Ac λht=>by rw[(hTn id ht).2]at h1;cases h1]
     exact hs.K id o' h1
    ·simp only[hs.U,A5,bW,EB]
     by_cases e:id∈ids
     ·obtain⟨ob,h1⟩:=hids id e
      simp[e,h1]
     ·rw[uG e];simp[e]
   ·simp only at hid
    simp only[rP]
    rw[Ac (λhi=>by have:=hlt id hi;omega),Ac (λht=>by have:=(hTn id ht).1;omega),hsfb id hid]
  have wsub:∀{T2:Nat->Prop} {K2:Hp} {id:Nat} {ho:HO} (j:Nat) (o':HO),j≠id->kK K2 T2 id ho j=some o'->K2 j=some o'/\¬T2 j:=by
   intro T2 K2 id ho j o' hj h;unfold kK at h;rw[Ac hj]at h;split at h
   ·cases h
   ·exact⟨h,by assumption⟩
  have one1:∀{K2:Hp} {id:Nat} {old:HO},σ.H id=some old->K2 id=some old->∀i ob,(if i=id then σ.H id else none)=some ob->K2 i=some ob:=by
   intro K2 id old hold hK2 i ob h;split at h
   ·rename_i e;subst e;rw[hold]at h;rw[hK2];exact h
   ·cases h
  split at h
  case h_3=>exact h.elim
  case h_2 hw =>
   have hwf':Wf ⟨bT σ.J o.dst .un,σ.H,σ.n⟩ con:=⟨hwf.top,hwf.con⟩
   obtain⟨fb,hfb⟩:=ih _ _ (by exact hn0) hwf' h
   exact⟨fb,λs hs hsfb=>⟨_,.no (by rw[hs.J];exact hw),hfb _ ⟨by rw[hs.J],hs.T,hs.K,hs.U⟩ hsfb⟩⟩
  case h_1 hw =>
  unfold O1 at h;split at h
  ·-- load
   rename_i t x hop;split at h
   ·rename_i v hv;refine pure0 v [] σ.H rfl (λ_ h=>by cases h) h (λs hs=>.inr (.inl ⟨by rw[hop];rfl,rfl,(λ_ h=>by cases h),(λ_ _ _ _ _ _ _ _ h=>by cases h),λT2 _=>?_⟩)) hw;have:(λi=>i∈([]:List Nat))=bW:=funext λi=>by simp[bW]
    rw[this];refine aAf λF w ι a hR hops=>?_
    obtain⟨u,h1,h2⟩:=aDl (P:=P) hR hs.K hv (fD (J:=σ.J) (a:=a) λt e=>by rw[<-hs.J];exact hops t (by rw[hop];simp[AN,e]));exact⟨u,by simp only[execOp,hop,A3,h1];rfl,h2⟩
   ·exact h.elim
  ·-- lookup
   rename_i t m x ok hop;split at h
   ·rename_i v hv;refine pure0 v [] σ.H rfl (λ_ h=>by cases h) h (λs hs=>.inr (.inl ⟨by rw[hop];rfl,rfl,(λ_ h=>by cases h),(λ_ _ _ _ _ _ _ _ h=>by cases h),λT2 _=>?_⟩)) hw;have:(λi=>i∈([]:List Nat))=bW:=funext λi=>by simp[bW]
    rw[this];refine aAf λF w ι a hR hops=>?_
    obtain⟨u,h1,h2⟩:=bSk (P:=P) hR hs.K hv (fD (J:=σ.J) (a:=a) λt e=>by rw[<-hs.J];exact hops t (by rw[hop];simp[AN,e])) (fD (J:=σ.J) (a:=a) λt e=>by rw[<-hs.J];exact hops t (by rw[hop];simp[AN,e]));exact⟨u,by simp only[execOp,hop,A3,h1];rfl,h2⟩
   ·exact h.elim
  ·-- what an iterator handed out last
   rename_i x hop;split at h
   ·rename_i v hv;refine pure0 v [] σ.H rfl (λ_ h=>by cases h) h (λs hs=>.inr (.inl ⟨by rw[hop];rfl,rfl,(λ_ h=>by cases h),(λ_ _ _ _ _ _ _ _ h=>by cases h),λT2 _=>?_⟩)) hw;have:(λi=>i∈([]:List Nat))=bW:=funext λi=>by simp[bW]
    rw[this];refine aAf λF w ι a hR hops=>?_
    obtain⟨u,h1,h2⟩:=bZg (P:=P) hR hs.K hv (fD (J:=σ.J) (a:=a) λt e=>by rw[<-hs.J];exact hops t (by rw[hop];simp[AN,e]));exact⟨u,by simp only[execOp,hop,A3,h1];rfl,h2⟩
   ·exact h.elim
  ·-- next
   rename_i x s hop;rw[hop]at hnn;cases hnn.1
  ·-- store
   rename_i t ad x hop;split at h
   ·rename_i id ho hst;obtain⟨off,old,hadp,hold⟩:=aIs hst;obtain⟨ts,hts,hΓ⟩:=sK (J:=σ.J) (x:=ad) (id:=id) (h:=.ptr 0 off) (by rw[hadp];rfl);refine write1 .un id ho old ts (by rw[hop];simp[AN,hts]) hΓ hold (by rw[hop];rfl) h (λT2 K2 hK2 hT2=>?_) hw;refine aXr (H:=λi=>if i=id then σ.H id else none) (id:=id) (ho:=ho) hop (one1 hold hK2) ?_ hT2 (by unfold kK;rw[Ad rfl]) wsub;unfold qO at hst ⊢;rw[hadp]at hst ⊢;simp only[B1]at hst ⊢;exact hst
   ·exact h.elim
  ·-- assignment to a map's element
   rename_i t m x v hop;split at h
   ·rename_i id ho hst;obtain⟨old,hm,hold,_⟩:=aDk hst;obtain⟨ts,hts,hΓ⟩:=sK (J:=σ.J) (x:=m) (id:=id) (h:=.mp 0) (by rw[hm];rfl);refine write1 .any id ho old ts (by rw[hop];simp[AN,hts]) hΓ hold (by rw[hop];rfl) h (λT2 K2 hK2 hT2=>?_) hw;refine aLd (H:=λi=>if i=id then σ.H id else none) (v:=some v) (id:=id) (ho:=ho) (.inl ⟨v,rfl,.inl hop⟩) (one1 hold hK2) ?_ hT2 (by unfold kK;rw[Ad rfl]) wsub;unfold tL at hst ⊢;rw[hm]at hst ⊢;simp only[B1]at hst ⊢;exact hst
   ·exact h.elim
  ·-- a new element of a map
   rename_i t m x v hop;split at h
   ·rename_i id ho hst;obtain⟨old,hm,hold,_⟩:=aDk hst;obtain⟨ts,hts,hΓ⟩:=sK (J:=σ.J) (x:=m) (id:=id) (h:=.mp 0) (by rw[hm];rfl);refine write1 .any id ho old ts (by rw[hop];simp[AN,hts]) hΓ hold (by rw[hop];rfl) h (λT2 K2 hK2 hT2=>?_) hw;refine aLd (H:=λi=>if i=id then σ.H id else none) (v:=some v) (id:=id) (ho:=ho) (.inl ⟨v,rfl,.inr hop⟩) (one1 hold hK2) ?_ hT2 (by unfold kK;rw[Ad rfl]) wsub;unfold tL at hst ⊢;rw[hm]at hst ⊢;simp only[B1]at hst ⊢;exact hst
   ·exact h.elim
  ·-- call
   rename_i f args ts hop;unfold OC at h;split at h
   ·rename_i hmut;have hkd:kind P o.op=2:=by rw[hop];simp[kind,hmut]
    split at h
    case h_2=>exact h.elim
    rename_i x rest hargs;split at h
    case h_2 =>
     obtain⟨hno,ds,r,hf,hs,h⟩:=h
     refine stepU (inj r) (fK σ.H (rest.map (oev σ.J))) (λi hi=>aIo hf hi) hkd h (λs hs' i hi F w ι T2 a hR hopr=>?_) (λs hs' T2 K2 hS=>?_) hw
     ·refine(uJ (J:=σ.J) (a:=a) hR hs'.K hf λy hy=>fD (J:=σ.J) (a:=a) λt e=>by rw[<-hs'.J];exact hopr t (by rw[hop];simp only[AN,Bp];simp;rw[<-Dd,hargs];subst e;simp[hy])).2.2 i hi
     ·rw[hs'.J]
      have hfr:=aSn (H':=λi=>if i∈fK σ.H (rest.map (oev σ.J))then σ.H i else none) hf λi hi=>Ad hi
      refine aXq (H:=λi=>if i∈fK σ.H (rest.map (oev σ.J))then σ.H i else none) hop hargs (λi ob hob=>?_) (.inr ⟨rfl,hno,rfl,rfl⟩) hfr.2 (λi hi=>(hS i hi).1) hfr.1 hs (λj o' h=>?_)
      ·split at hob
       ·rename_i hi
        rw[(hS i hi).2];exact hs'.K _ _ hob
       ·cases hob
      unfold rP at h
      split at h
      ·cases h
      ·split at h
       ·cases h
       ·exact⟨h,by assumption,by assumption⟩
    rename_i id hh hx;split at h
    case h_2=>exact h.elim
    rename_i ho hold;obtain⟨tt,htt,hΓ⟩:=sK hx;have hop2:CI tt∈o.op.operands:=by rw[hop];simp only[AN,Bp];simp;rw[<-Dd,hargs];simp[htt]
    rcases h with ⟨g,rfl,rfl,hks,h⟩|⟨hno,hvis,ds,ho',r,hf,hs,hlen,hno',h⟩|⟨hpos,ν,h0,ro,hs0,ds,ro',hs',r,tx,tid,tlf,tinj,tH,tm,hvis,hfr,hsp,h⟩|⟨hno,hvis,ds,r,hf,hs,h⟩
    ·have hmp:oev σ.J x=.mp id:=by generalize oev σ.J x=av at hx;cases av<;>simp[hd1]at hx;rw[hx]
     have hup:upd σ.H id (some ho)=σ.H:=by
      funext i;by_cases hi:i=id
      ·subst hi;rw[dC,hold]
      ·rw[dX _ _ hi]
     refine write1 (.kf g id) id ho ho tt hop2 hΓ hold hkd (by rw[hup];exact h) (λT2 K2 hK2 hT2=>?_) hw;intro F w ι a hR hop' hn next Q hx'
     have hY:=bWr (P:=P) (G:=G) (C:=T2) (K:=K2) hop hargs hmp hks;refine hY F w ι a hR hop' hn next Q λF' w' ι' u hR' hs' hd1' hd2' hv'=>hx' F' w' ι' u ⟨hR'.kept,hR'.F_lt,hR'.F_ok,hR'.place,λi b o' e1 e2=>?_,hR'.inj,λi i' b o1 o2 e1 e2 e3 e4 e5=>?_⟩ hs' hd1' hd2' hv'
     ·by_cases hi:i=id
      ·subst hi;unfold kK at e2;rw[Ad rfl]at e2;exact hR'.obj _ b o' e1 (by rw[hK2];exact e2)
      ·exact hR'.obj i b o' e1 (wsub i o' hi e2).1
     ·have q:∀(i:Nat) (o1:HO),kK K2 T2 id ho i=some o1->K2 i=some o1:=λi o1 e=>by
       by_cases hi:i=id
       ·subst hi;unfold kK at e;rw[Ad rfl]at e;rw[hK2];exact e
       ·exact(wsub i o1 hi e).1
      exact hR'.len i i' b o1 o2 e1 e2 e3 (q _ _ e4) (q _ _ e5)
    ·have hvis0:∀(c:AV),c∈rest.map (oev σ.J)->vis σ.H 8 c=[]:=λc hc=>by unfold fK at hvis;exact List.flatMap_eq_nil_iff.1 hvis c hc
     refine write1 (inj r) id ho' ho tt hop2 hΓ hold hkd h (λT2 K2 hK2 hT2=>?_) hw;intro F w ι a hR;have hfr:fW (λi=>if i=id then σ.H id else none) (rest.map (oev σ.J))=some ds/\fK (λi=>if i=id then σ.H id else none) (rest.map (oev σ.J))=[]:=aFz hvis hf;exact bOy (H:=λi=>if i=id then σ.H id else none) hop hargs (one1 hold hK2) hx (by simp only[B1];exact hold) hno hfr.2 hfr.1 hs hlen hno' hT2 (by unfold kK;rw[Ad rfl]) wsub F w ι a hR
    ·refine stepG (inj r) ν ro hs0 ro' hs' hpos tinj (λi ob hi=>(tH i ob hi).2) hkd h (λs hs i hi F w ι T2 a hR hopr=>?_) (λs hs hKn T2 K2 hS hN=>?_) hw
     ·refine aFq hR (l:=ro::hs0) (k:=hs0.length+1) (λi ob hl=>hs.K _ _ (tH i ob hl).2) ?_ tm i i (Ap _) hi;have hv:V F w ι (oev σ.J x) (a.eval x):=fD λt e=>by rw[<-hs.J];exact hopr t (by rw[hop];simp only[AN,Bp];simp;rw[<-Dd,hargs];simp[e])
      rw[tx]at hv;exact aNq tid hv
     ·have hmem:∀i ob,(ro::hs0)[i]? = some ob->i<hs0.length+1:=λi ob hi=>by have:=(Ah.1 hi).1;simpa using this
      have hget:∀i,i<hs0.length+1->∃ob,(ro::hs0)[i]? = some ob:=λi hi=>⟨_,Ab (by simpa using hi)⟩
      have hnv:=aFz (H':=λid=>if ∃i,i<hs0.length+1/\ν i=id then σ.H id else none) hvis hfr;have hSg:∀i,i<hs0.length+1->K2 (ν i)=s.K (ν i):=λi hi=>(hS (ν i) ⟨i,hi,rfl⟩).2
      rw[hs.J];refine bOx (H:=λid=>if ∃i,i<hs0.length+1/\ν i=id then σ.H id else none) (K:=K2) (ν:=ν) (n:=σ.n) (h:=h0) (ro:=ro) (hs:=hs0) hop hargs (λid ob hid=>?_) tx tlf tinj (λi ob hi=>⟨(tH i ob hi).1,?_⟩) (λi hi=>(hS (ν i) ⟨i,hi,rfl⟩).1) (λi hi F w ι a hR hopr=>?_) hnv.2 hnv.1 hsp ?_ (λj ob hj=>?_) (λj ob hj hn hg=>?_) ?_
      ·split at hid
       ·rename_i hx;obtain⟨i,hi,rfl⟩:=hx;rw[hSg i hi];exact hs.K _ _ hid
       ·cases hid
      ·rw[Ad ⟨i,hmem i ob hi,rfl⟩];exact(tH i ob hi).2
      ·refine aFq hR (l:=ro::hs0) (k:=hs0.length+1) (λi ob hl=>by rw[hSg i (hmem i ob hl)];exact hs.K _ _ (tH i ob hl).2) ?_ tm i i (Ap _) hi;have hv:V F w ι (oev σ.J x) (a.eval x):=fD λt e=>hopr t (by rw[hop];simp only[AN,Bp];simp;rw[<-Dd,hargs];simp[e])
       rw[tx]at hv;exact aNq tid hv
      ·unfold rP;rw[Ad ⟨0,by omega,rfl⟩];simp only[B1]
      ·have hlt:=(Ah.1 hj).1;have hnS:¬∃i,i<hs0.length+1/\ν i=σ.n+j:=λ⟨i,hi,he⟩=>by obtain⟨ob',ho'⟩:=hget i hi;have h1:=(tH i ob' ho').2;rw[he,hwf.top _ (by omega)]at h1;cases h1
       unfold rP;rw[Ac hnS,Ac (hN (σ.n+j) ⟨by omega,by omega⟩).1,(hN (σ.n+j) ⟨by omega,by omega⟩).2];exact hKn j ob hj
      ·unfold rP at hg;split at hg
       ·simp only[Ac hj]at hg;cases hg
       ·rename_i hnS;split at hg
        ·cases hg
        ·exact⟨hg,by assumption,λi hi he=>hnS ⟨i,hi,he⟩⟩
      ·obtain⟨ob',ho'⟩:=hget 0 (by omega);have h1:=(tH 0 ob' ho').2;rcases Bf (ν 0) σ.n with h|h
       ·exact h
       ·rw[hwf.top _ h]at h1;cases h1
    ·refine stepU (inj r) (id::fK σ.H (rest.map (oev σ.J))) (λi hi=>?_) hkd h (λs hs' i hi F w ι T2 a hR hopr=>?_) (λs hs' T2 K2 hS=>?_) hw
     ·rcases AG.1 hi with rfl|hi
      ·exact⟨_,hold⟩
      ·exact aIo hf hi
     ·rcases AG.1 hi with rfl|hi
      ·obtain⟨b,hb,_⟩:=bLd (F':=F) hx (fD (J:=σ.J) (a:=a) λt e=>by rw[<-hs'.J];exact hopr t (by rw[hop];simp only[AN,Bp];simp;rw[<-Dd,hargs];simp[e]));exact⟨b,hb⟩
      ·refine(uJ (J:=σ.J) (a:=a) hR hs'.K hf λy hy=>fD (J:=σ.J) (a:=a) λt e=>by rw[<-hs'.J];exact hopr t (by rw[hop];simp only[AN,Bp];simp;rw[<-Dd,hargs];subst e;simp[hy])).2.2 i hi
     ·rw[hs'.J];obtain⟨hT2,hK2⟩:=hS id (Av ..);have hfr:=aSn (H':=λi=>if i∈id::fK σ.H (rest.map (oev σ.J))then σ.H i else none) hf λi hi=>Ad (Au _ hi)
      refine aXq (H:=λi=>if i∈id::fK σ.H (rest.map (oev σ.J))then σ.H i else none) hop hargs (λi ob hob=>?_) (.inl ⟨id,ho,rfl,hx,rfl,by rw[Ad (Av ..)];exact hold,hno,hT2,hvis⟩) hfr.2 (λi hi=>(hS i (Au _ hi)).1) hfr.1 hs (λj o' h=>?_)
      ·split at hob
       ·rename_i hi;rw[(hS i hi).2];exact hs'.K _ _ hob
       ·cases hob
      unfold rP at h;split at h
      ·cases h
      ·split at h
       ·cases h
       ·exact⟨h,by assumption,by assumption⟩
   ·rename_i hmut;have hkd:kind P o.op=1:=by rw[hop];simp[kind,hmut]
    rcases h with ⟨_,hpos,v,hs0,hsp,h⟩|h
    ·refine newk (v σ.n) (hs0 σ.n) hpos h (λs hs hKn=>.inr (.inl ⟨hkd,rfl,(λ_ h=>h.elim),(λ_ _ _ _ _ _ _ _ h=>h.elim),λT2 _=>?_⟩)) hw;rw[hs.J];rcases hsp with ⟨ds,hfr,hvis,hsp⟩|⟨hno,hsp⟩
     ·exact bOz hop hs.K hfr hvis hsp hpos hKn
     ·exact bFc hop hno hsp hpos hKn
    split at h
    ·rename_i g id hargs;obtain⟨x,hx,hxe⟩:∃x,args.toList=[x]/\oev σ.J x=.kf g id:=by
      cases hl:args.toList with
      |nil=>rw[hl]at hargs;cases hargs
      |cons x l =>
       rw[hl]at hargs;cases l with
       |nil=>simp only[AZ,DC,List.cons.injEq,and_true]at hargs;exact⟨x,rfl,hargs⟩
       |cons y l=>simp at hargs
     split at h
     ·rename_i es hH;obtain⟨hn,hrr,hss,h⟩:=h;refine pure0 _ [] σ.H rfl (λ_ h=>by cases h) h (λs hs=>.inr (.inl ⟨hkd,rfl,(λ_ h=>by cases h),(λ_ _ _ _ _ _ _ _ h=>by cases h),λT2 _=>?_⟩)) hw;have:(λi=>i∈([]:List Nat))=bW:=funext λi=>by simp[bW]
      rw[this];exact aNy (J:=s.J) hop hx hs.K (by rw[hs.J];exact hxe) hH hn hrr hss
     ·exact h.elim
    ·obtain⟨ds,r,hfr,hsp,h⟩:=h;refine pure0 (inj r) (bS σ.H (args.toList.map (oev σ.J)) r) _ rfl (λid hid=>by obtain⟨o',ho'⟩:=jU hid;rw[ho'];rfl) h (λs hs=>.inr (.inl ⟨hkd,rfl,λid hid ht=>?_,λF w ι T2 a hR hops id hid=>?_,λT2 hT2=>?_⟩)) hw
     ·obtain⟨o',ho'⟩:=jU hid;have:=(hwf.con id ((hs.T id).1 ht)).2;rw[this]at ho';cases ho'
     ·refine aKq (J:=σ.J) (a:=a) (r:=r) hR hs.K hfr (λx hx=>fD λt e=>?_) id hid;rw[<-hs.J];exact hops t (by rw[hop];subst e;simp[AN,Bp];simpa using hx)
     ·have:=bFe (P:=P) (G:=G) (J:=s.J) (C:=T2) (K:=s.K) (H:=σ.H) (o:=o) (r:=r) hop hs.K (by rw[hs.J];exact hfr) hsp (by rw[hs.J];exact hT2);rw[hs.J]at this ⊢;exact this
  ·-- call of a function value
   rename_i t args ts hop;split at h
   ·rename_i f cs hcal;obtain⟨ds,r,hfr,hsp,h⟩:=h;have hkd:kind P o.op=1:=by rw[hop];rfl
    refine pure0 (inj r) (bS σ.H (args.toList.map (oev σ.J)++cs) r) _ rfl (λid hid=>by obtain⟨o',ho'⟩:=jU hid;rw[ho'];rfl) h (λs hs=>.inr (.inl ⟨hkd,rfl,λid hid ht=>?_,λF w ι T2 a hR hops id hid=>?_,λT2 hT2=>?_⟩)) hw
    ·obtain⟨o',ho'⟩:=jU hid;have:=(hwf.con id ((hs.T id).1 ht)).2;rw[this]at ho';cases ho'
    ·refine aWz (x:=.tmp t) (J:=σ.J) (a:=a) (r:=r) hR hs.K hcal hfr (fD λt' e=>?_) (λx hx=>fD λt' e=>?_) id hid
     ·rw[<-hs.J];injection e with e;subst e;exact hops t (by rw[hop];simp[AN,Bp])
     ·rw[<-hs.J];exact hops t' (by rw[hop];subst e;simp[AN,Bp];right;simpa using hx)
    ·have:=bPa (x:=.tmp t) (P:=P) (G:=G) (J:=s.J) (C:=T2) (K:=s.K) (H:=σ.H) (o:=o) (r:=r) (f:=f) (cs:=cs) hop hs.K (by rw[hs.J];exact hcal) (by rw[hs.J];exact hfr) hsp (by rw[hs.J];exact hT2);rw[hs.J]at this ⊢;exact this
   ·exact h.elim
  ·-- call of a method
   rename_i t name args ts hop;split at h
   ·rename_i ty d hcal;split at h
    ·rename_i f hme;obtain⟨ds,r,hfr,hsp,h⟩:=h;have hkd:kind P o.op=1:=by rw[hop];rfl
     refine pure0 (inj r) (bS σ.H (.d d::args.toList.map (oev σ.J)) r) _ rfl (λid hid=>by obtain⟨o',ho'⟩:=jU hid;rw[ho'];rfl) h (λs hs=>.inr (.inl ⟨hkd,rfl,λid hid ht=>?_,λF w ι T2 a hR hops id hid=>?_,λT2 hT2=>?_⟩)) hw
     ·obtain⟨o',ho'⟩:=jU hid;have:=(hwf.con id ((hs.T id).1 ht)).2;rw[this]at ho';cases ho'
     ·refine bKk (x:=.tmp t) (ty:=ty) (d:=d) (J:=σ.J) (a:=a) (r:=r) hR hs.K hcal hfr (fD λt' e=>?_) (λx hx=>fD λt' e=>?_) id hid
      ·rw[<-hs.J];injection e with e;subst e;exact hops t (by rw[hop];simp[AN,Bp])
      ·rw[<-hs.J];exact hops t' (by rw[hop];subst e;simp[AN,Bp];right;simpa using hx)
     ·have:=bFd (x:=.tmp t) (P:=P) (G:=G) (J:=s.J) (C:=T2) (K:=s.K) (H:=σ.H) (o:=o) (r:=r) (f:=f) (ty:=ty) (d:=d) hop hs.K (by rw[hs.J];exact hcal) hme (by rw[hs.J];exact hfr) hsp (by rw[hs.J];exact hT2);rw[hs.J]at this ⊢;exact this
    ·exact h.elim
   ·exact h.elim
  ·-- append
   rename_i args ts hop;split at h
   ·rename_i s x t t' hargs hts;obtain⟨rfl,h⟩:=h;split at h
    ·rename_i av nb cn happ;have hop':o.op=.call { callee:=.builtin .append,args:=#[s,x],argTypes:=#[t,t] }:=by rw[hop];cases args;cases ts;simp only at hargs hts;subst hargs;subst hts;rfl
     have hcs:∀id∈cn,(σ.H id).isSome=true:=λid hid=>by obtain⟨⟨o',ho'⟩,_⟩:=aTk happ id hid;rw[ho'];rfl
     have hlive:∀s':AS,eZ σ con s'->∀F w ι T2 (a:Act),HR G F w ι T2 s'.K->(∀t,CI t∈o.op.operands->V F w ι (s'.J t) (a.tmps.getD t undef))->∀id,id∈cn->∃b,ι id=some b:=by
      intro s' hs F w ι T2 a hR hops id hid;obtain⟨_,off,len,sz,hse⟩:=aTk happ id hid;have:=fD (J:=σ.J) (a:=a) (x:=s) (F:=F) (w:=w) (ι:=ι) λt e=>by rw[<-hs.J];exact hops t (by rw[hop'];simp[AN,Bp,e])
      rw[hse]at this;generalize a.eval s=v at this;cases this with|own _ _ _ _ b cap cur e hι=>exact⟨b,hι⟩
     have hnT:∀s':AS,eZ σ con s'->∀id,id∈cn->¬s'.T id:=λs' hs id hid ht=>by have h1:=hcs id hid;rw[(hwf.con id ((hs.T id).1 ht)).2]at h1;cases h1
     cases nb with
     |none =>
      refine pure0 av cn _ rfl hcs h (λs' hs=>.inr (.inl ⟨by rw[hop];rfl,rfl,hnT s' hs,hlive s' hs,λT2 hT2=>?_⟩)) hw;have:=aNz (P:=P) (G:=G) (J:=s'.J) (C:=T2) (K:=s'.K) (H:=σ.H) (n:=σ.n) (o:=o) hop' hs.K (by rw[hs.J];exact happ) (λob h=>by cases h) hT2;have e1:(λi:Nat=>(none:Option HO).isSome=true/\i=σ.n)=bW:=funext λi=>by simp[bW]
      rw[e1]at this;exact this
     |some ho =>
      refine new1 av cn ho hcs h (λs' hs hKn=>.inr (.inl ⟨by rw[hop];rfl,rfl,hnT s' hs,hlive s' hs,λT2 hT2=>?_⟩)) hw;have:=aNz (P:=P) (G:=G) (J:=s'.J) (C:=T2) (K:=s'.K) (H:=σ.H) (n:=σ.n) (o:=o) hop' hs.K (by rw[hs.J];exact happ) (λob h=>by injection h with h;subst h;exact hKn) hT2;have e1:(λi:Nat=>(some ho).isSome=true/\i=σ.n)=(·=σ.n):=funext λi=>by simp
      rw[e1]at this;exact this
    ·exact h.elim
   ·exact h.elim
  ·-- delete
   rename_i args ts hop;split at h
   ·rename_i m x t kt hargs hts;split at h
    ·rename_i id ho hst;have hop':o.op=.call { callee:=.builtin .delete,args:=#[m,x],argTypes:=#[t,kt] }:=by rw[hop];cases args;cases ts;simp only at hargs hts;subst hargs;subst hts;rfl
     obtain⟨old,hm,hold,_⟩:=aDk hst;obtain⟨tt,htt,hΓ⟩:=sK (J:=σ.J) (x:=m) (id:=id) (h:=.mp 0) (by rw[hm];rfl);refine write1 .any id ho old tt (by rw[hop'];simp[AN,Bp,htt]) hΓ hold (by rw[hop];rfl) h (λT2 K2 hK2 hT2=>?_) hw;refine aLd (H:=λi=>if i=id then σ.H id else none) (v:=none) (id:=id) (ho:=ho) (.inr ⟨rfl,kt,hop'⟩) (one1 hold hK2) ?_ hT2 (by unfold kK;rw[Ad rfl]) wsub;unfold tL at hst ⊢;rw[hm]at hst ⊢;simp only[B1]at hst ⊢;exact hst
    ·exact h.elim
   ·exact h.elim
  ·-- how long something is
   rename_i args ts hop;split at h
   ·rename_i hlm;split at h
    ·rename_i m hargs;split at h
     ·rename_i n hn;obtain⟨ts⟩:=ts;obtain⟨args⟩:=args;simp only at hargs;subst hargs;unfold aVq at hlm;simp only at hlm;split at hlm
      case h_2=>cases hlm
      rename_i t;simp only[AO]at hlm;refine pure0 (.d (.i .i64 n)) [] σ.H rfl (λ_ h=>by cases h) h (λs hs=>.inr (.inl ⟨by rw[hop];simp[kind,aRs,hlm.1,hlm.2],rfl,(λ_ h=>by cases h),(λ_ _ _ _ _ _ _ _ h=>by cases h),λT2 _=>?_⟩)) hw;have:(λi=>i∈([]:List Nat))=bW:=funext λi=>by simp[bW]
      rw[this];refine aAf λF w ι a hR hops=>?_
      have hv:V F w ι (oev σ.J m) (a.eval m):=fD (J:=σ.J) (a:=a) λt e=>by rw[<-hs.J];exact hops t (by rw[hop];simp[AN,Bp,e])
      have h1:=bRx (P:=P) (t:=t) (ty:=o.type) hR hs.K hlm.2 hn hv;exact⟨_,by simp[execOp,hop,resolve,invoke,builtin,h1],.d _ _ (.i _ _)⟩
     ·exact h.elim
    ·exact h.elim
   ·obtain⟨hk0,h⟩:=h;have hk:kind P o.op=0:=by rw[hop];exact hk0
    split at h
    ·rename_i av nb hnev;have e0:(λi=>i∈([]:List Nat))=bW:=funext λi=>by simp[bW]
     cases nb with
     |none =>
      refine pure0 av [] σ.H rfl (λ_ h=>by cases h) h (λs hs=>?_) hw;rw[e0];exact .inl ⟨hk,rfl,rfl,λT2 K2 _=>aFi (n:=σ.n) (by rw[hs.J,hop];exact hnev)⟩
     |some ho =>
      refine new1 av [] ho (λ_ h=>by cases h) h (λs hs hKn=>?_) hw;rw[e0];exact .inl ⟨hk,rfl,rfl,λT2 K2 hK2=>aJp (n:=σ.n) (ho:=ho) (by rw[hs.J,hop];exact hnev) (by rw[hK2 _ rfl];exact hKn)⟩
    ·exact h.elim
  ·-- values alone
   obtain⟨hk,h⟩:=h;split at h
   ·rename_i av nb hnev;have e0:(λi=>i∈([]:List Nat))=bW:=funext λi=>by simp[bW]
    cases nb with
    |none =>
     refine pure0 av [] σ.H rfl (λ_ h=>by cases h) h (λs hs=>?_) hw;rw[e0];exact .inl ⟨hk,rfl,rfl,λT2 K2 _=>aFi (n:=σ.n) (by rw[hs.J];exact hnev)⟩
    |some ho =>
     refine new1 av [] ho (λ_ h=>by cases h) h (λs hs hKn=>?_) hw;rw[e0];exact .inl ⟨hk,rfl,rfl,λT2 K2 hK2=>aJp (n:=σ.n) (ho:=ho) (by rw[hs.J];exact hnev) (by rw[hK2 _ rfl];exact hKn)⟩
   ·exact h.elim
end
def aLx(l:List Nat):AV->AV
 |.ptr id off=>if id∈l then .any else .ptr id off
 |.d x=>.d x
 |.fp cs=>.fp cs
 |_=>.any
def fV(l:List Nat):AV->AV
 |.fn f cs=>.fn f (cs.map (aLx l))
 |.own id off len sz=>if id∈l then .any else .own id off len sz
 |.ptr id off=>if id∈l then .any else .ptr id off
 |.mp id=>if id∈l then .any else .mp id
 |.kf f id=>if id∈l then .any else .kf f id
 |.ag _=>.any
 |.tp _=>.any
 |x=>x
def tU(l:List Nat):AV->AV
 |.ag cs=>.ag (cs.map (fV l))
 |x=>fV l x
def lJ(l:List Nat):AV->AV
 |.tp vs=>.tp (vs.map (tU l))
 |x=>tU l x
def fG(l:List Nat):HO->HO
 |.cells e cs=>.cells e (cs.map (fV l))
 |.map k es=>.map k (es.map λp=>(p.1,tU l p.2))
 |.iter k l' es=>.iter k l' es
def fin(σ:St)(con:List Nat):St:=match con with
 |[]=>σ
 |l=>⟨λt=>lJ l (σ.J t),λid=>(σ.H id).map (fG l),σ.n⟩
def SR(G:Ctx)(N:Nat)(ds:List Deferred)(σ:St)(a:Act)(w:World):Prop :=
 (∀id,σ.n<=id->σ.H id=none)/\(σ.n=0->∀b,G.P0 b) /\
 ∃F ι,HR G F w ι bW σ.H/\(∀id,(∃b,ι id=some b)↔(σ.H id).isSome=true)/\(∀t,V F w ι (σ.J t) (a.tmps.getD t undef))/\(a.tmps.size=N/\∀t v,G.Z t=some v->a.tmps.getD t undef=v)/\a.defers=ds/\∀b,ι 0=some b->G.P0 b
section
variable {F:Nat->Prop} {w:World} {ι:Nat->Option Nat} {l:List Nat}
def mask(ι:Nat->Option Nat)(l:List Nat):Nat->Option Nat:=λid=>if id∈l then none else ι id
def lL{id b:Nat}(h:mask ι l id=some b):ι id=some b/\id ∉ l:=by
 unfold mask at h;split at h
 ·cases h
 ·exact⟨h,by assumption⟩
def bOi{x:AV}{v:Value}(h:V F w ι x v):V F w (mask ι l) (aLx l x) v:=by
 cases h with
 |d x v h=>exact .d _ _ h
 |ptr id off b hι =>
  simp only[aLx];split
  ·exact .any _
  ·exact .ptr _ _ _ (by unfold mask;rw[Ac ‹_›];exact hι)
 |fp cs ad f hF hcell hel=>exact .fp _ _ f hF hcell hel
 |_=>exact .any _
def aHi{x:AV}{v:Value}(h:V F w ι x v):V F w (mask ι l) (fV l x) v:=by
 cases h with
 |d x v h=>exact .d _ _ h
 |nil=>exact .nil
 |own id off len sz b cap cur e hι hb hcap hl hm =>
  simp only[fV];split
  ·exact .any _
  ·exact .own _ _ _ _ b _ _ _ (by unfold mask;rw[Ac ‹_›];exact hι) hb hcap hl hm
 |ptr id off b hι =>
  simp only[fV];split
  ·exact .any _
  ·exact .ptr _ _ _ (by unfold mask;rw[Ac ‹_›];exact hι)
 |mp id b hι =>
  simp only[fV];split
  ·exact .any _
  ·exact .mp _ _ (by unfold mask;rw[Ac ‹_›];exact hι)
 |ub t=>exact .ub t
 |kf f id b p e hι hF hp =>
  simp only[fV];split
  ·exact .any _
  ·exact .kf f _ b p e (by unfold mask;rw[Ac ‹_›];exact hι) hF hp
 |fp cs ad f hF hcell hel=>exact .fp _ _ f hF hcell hel
 |fd els ad n h=>exact .fd _ _ _ h
 |ag cs vs hl h=>exact .any _
 |tp cs vs hl h=>exact .any _
 |un=>exact .un
 |fn g cs vs hl hh =>
  refine .fn _ _ _ (by simpa using hl) λk c u hc hu=>?_
  rw[Aw]at hc;obtain⟨d,hd,rfl⟩:=Aj.1 hc;exact bOi (hh k d u hd hu)
 |any v=>exact .any _
def aHh{x:AV}{v:Value}(h:V F w ι x v):V F w (mask ι l) (tU l x) v:=by
 have h0:=aHi (l:=l) h;cases h with
 |ag cs vs hl hh =>
  refine .ag _ _ (by simpa using hl) λk c u hc hu=>?_
  rw[Aw]at hc;obtain⟨d,hd,rfl⟩:=Aj.1 hc;exact aHi (hh k d u hd hu)
 |_=>exact h0
def bVe{x:AV}{v:Value}(h:V F w ι x v):V F w (mask ι l) (lJ l x) v:=by
 have h1:=aHh (l:=l) h;cases h with
 |tp cs vs hl hh =>
  refine .tp _ _ (by simpa using hl) λk c u hc hu=>?_
  rw[Aw]at hc;obtain⟨d,hd,rfl⟩:=Aj.1 hc;exact aHh (hh k d u hd hu)
 |_=>exact h1
def bOt{o:HO}{ob:Obj}(h:CR F w ι o ob):CR F w (mask ι l) (fG l o) ob:=by
 cases h with
 |cells e cs cur hl hh =>
  refine .cells _ _ _ (by simpa using hl) λk c hk=>?_
  rw[Aw]at hk;obtain⟨d,hd,rfl⟩:=Aj.1 hk;obtain⟨u,hu,hv⟩:=hh k d hd;exact⟨u,hu,aHi hv⟩
 |map k es ents clock hl hst hh =>
  refine .map _ _ _ _ (by simpa using hl) hst λk x hk=>?_
  rw[Aw]at hk;obtain⟨d,hd,rfl⟩:=Aj.1 hk;obtain⟨en,h1,h2,h3⟩:=hh k d hd;exact⟨en,h1,h2,aHh h3⟩
 |iter k last es bm since c0 clock seen ents hF hb hold hsc hnd hl h hla=>exact .iter k last es bm since c0 clock seen ents hF hb hold hsc hnd hl h hla
def aEo(o:HO):(fG l o).len=o.len:=by cases o<;>simp[fG,HO.len]
variable {G:Ctx} {N:Nat} {ds:List Deferred}
def aNu{σ:St}{con:List Nat}{s:AS}{a:Act}(hn0:σ.n=0->∀b,G.P0 b)(hwf:Wf σ con)(hag:eZ σ con s)(hr:sV G N ds s a w):SR G N ds (fin σ con) a w:=by
 obtain⟨F,ι,hR,hdom,hV,hN,hds,hp⟩:=hr;rw[hag.J]at hV;cases con with
 |nil =>
  refine⟨hwf.top,hn0,F,ι,?_,λid=>by rw[hdom,hag.U];simp[fin],hV,hN,hds,hp⟩;have hT:s.T=bW:=funext λi=>propext (by simp[hag.T,bW])
  rw[hT]at hR;exact⟨hR.kept,hR.F_lt,hR.F_ok,hR.place,λid b o h1 h2=>hR.obj id b o h1 (hag.K _ _ h2),hR.inj,λid id' b o o' h1 h2 h3 h4 h5=>hR.len id id' b o o' h1 h2 h3 (hag.K _ _ h4) (hag.K _ _ h5)⟩
 |cons c con =>
  have hl:fin σ (c::con)=⟨λt=>lJ (c::con) (σ.J t),λid=>(σ.H id).map (fG (c::con)),σ.n⟩:=rfl;rw[hl];have hT:∀id,id ∉ c::con->¬s.T id:=λid h ht=>h ((hag.T id).1 ht)
  refine⟨λid h=>by simp[hwf.top id h],hn0,F,mask ι (c::con),⟨hR.kept,hR.F_lt,hR.F_ok,λid b h=>?_,λid b o h1 h2=>?_,λid id' b h h' _ _=>?_,λid id' b o o' h h' _ h3 h4=>?_⟩,λid=>?_,λt=>bVe (hV t),hN,hds,λb hb=>hp b (lL hb).1⟩
  ·obtain⟨h1,h2⟩:=lL h;obtain⟨p1,p2,p3⟩:=hR.place id b h1;exact⟨p1,p2,λ_=>p3 (hT id h2)⟩
  ·obtain⟨q1,_⟩:=lL h1;obtain⟨o1,ho1,rfl⟩:=Aj.1 h2;obtain⟨ob,e1,e2⟩:=hR.obj id b o1 q1 (hag.K _ _ ho1);exact⟨ob,e1,bOt e2⟩
  ·obtain⟨q1,q2⟩:=lL h;obtain⟨q1',q2'⟩:=lL h';exact hR.inj id id' b q1 q1' (hT id q2) (hT id' q2')
  ·obtain⟨q1,q2⟩:=lL h;obtain⟨q1',q2'⟩:=lL h';obtain⟨o1,ho1,rfl⟩:=Aj.1 h3;obtain⟨o2,ho2,rfl⟩:=Aj.1 h4;rw[aEo,aEo];exact hR.len id id' b o1 o2 q1 q1' (hT id q2) (hag.K _ _ ho1) (hag.K _ _ ho2)
  ·constructor
   ·rintro⟨b,h⟩;obtain⟨q1,q2⟩:=lL h;rcases(hag.U id).1 ((hdom id).1 ⟨b,q1⟩)with h|h
    ·simpa using h
    ·exact absurd h q2
   ·intro h;simp only[Option.isSome_map]at h;obtain⟨b,hb⟩:=(hdom id).2 ((hag.U id).2 (.inl h));refine⟨b,?_⟩;unfold mask;rw[Ac λhc=>by have:=(hwf.con id hc).2;rw[this]at h;cases h];exact hb
def aAe{σ:St}{a:Act}(h:SR G N ds σ a w):(σ.n=0->∀b,G.P0 b)/\Wf σ []/\∀K:Hp,(∀id o,σ.H id=some o->K id=some o) ->
  eZ σ [] ⟨σ.J,bW,K,λid=>(σ.H id).isSome=true⟩/\sV G N ds ⟨σ.J,bW,K,λid=>(σ.H id).isSome=true⟩ a w:=by
 obtain⟨htop,hn0,F,ι,hR,hdom,hV,hN,hds,hp⟩:=h
 refine⟨hn0,⟨htop,λ_ h=>by cases h⟩,λK hK=>⟨⟨rfl,λid=>by simp[bW],hK,λid=>by simp⟩,F,ι,?_,hdom,hV,hN,hds,hp⟩⟩
 have live:∀id b,ι id=some b->∃o,σ.H id=some o:=λid b h=>B9.1 ((hdom id).1 ⟨b,h⟩)
 refine⟨hR.kept,hR.F_lt,hR.F_ok,hR.place,λid b o h1 h2=>?_,hR.inj,λid id' b o o' h1 h2 h3 h4 h5=>?_⟩
 ·obtain⟨o1,ho1⟩:=live id b h1
  simp only at h2
  rw[hK _ _ ho1]at h2;injection h2 with h2;subst h2
  exact hR.obj id b o1 h1 ho1
 ·obtain⟨o1,ho1⟩:=live id b h1
  obtain⟨o2,ho2⟩:=live id' b h2
  simp only at h4 h5
  rw[hK _ _ ho1]at h4;injection h4 with h4;subst h4
  rw[hK _ _ ho2]at h5;injection h5 with h5;subst h5
  exact hR.len id id' b o1 o2 h1 h2 h3 ho1 ho2
end
section
variable {G:Ctx} {N:Nat} {ds:List Deferred}
def aGj:∀(M:List MapEntry) (j:Nat) (e:MapEntry),(M.map (·.born)).Nodup->M[j]? = some e->M.filter (λx=>x.born != e.born)=M.eraseIdx j
 |[],j,e,_,h=>by simp at h
 |x::M,0,e,hn,h=>by simp at h;subst h;simp only[AZ,DK]at hn;rw[CH,Ac (by simp),List.eraseIdx_cons_zero,List.filter_eq_self];intro y hy;simp only[bne_iff_ne,ne_eq];exact λhe=>hn.1 (AA.2 ⟨y,hy,he⟩)
 |x::M,j+1,e,hn,h=>by
  simp only[AZ,DK]at hn;have h':M[j]? = some e:=by simpa using h
  have hne:x.born≠e.born:=λhe=>hn.1 (AA.2 ⟨e,Aq h',he.symm⟩)
  rw[CH,Ad (by simpa using hne),List.eraseIdx_cons_succ,aGj M j e hn.2 h']
def aVr(ents:Array MapEntry)(seen:Array Nat)(j:Nat)(e:MapEntry)(hn:(ents.toList.map (·.born)).Nodup)(h:(leftOf ents seen)[j]? = some e):(leftOf ents (seen.push e.born)).toList=(leftOf ents seen).toList.eraseIdx j:=by
 have h1:(leftOf ents (seen.push e.born)).toList=(leftOf ents seen).toList.filter (λx=>x.born != e.born):=by
  simp only[leftOf,Array.toList_filter,List.filter_filter];congr 1;funext x;have hc:(seen.push e.born).contains x.born=(seen.contains x.born||x.born==e.born):=by rw[Bool.eq_iff_iff,Array.contains_iff_mem,Array.mem_push,CG,Array.contains_iff_mem,CK]
  rw[hc,Bool.not_or,Bool.and_comm];rfl
 rw[h1];refine aGj _ j e ?_ (by simpa using h);refine List.Sublist.nodup ?_ hn;simp only[leftOf,Array.toList_filter];exact(List.filter_sublist (l:=ents.toList)).map _
def aVj{P:Program}{σ:St}{con:List Nat}{s:AS}{a:Act}{w:World}{o:Oper}{x:Operand}{K:Act->World->Prop}{Q':Exit->Act->World->Prop}{k:St->List Nat->Prop}(hop:o.op=.next x false)
  (hdst:∀d,o.dst=some d->d<N/\G.Z d=none) (hwf:Wf σ con) (hag:eZ σ con s) (hr:sV G N ds s a w) (hn0:σ.n=0->∀b,G.P0 b) (h:O1 P o σ con k)
  (hK:∀σ' con' s' a' w',k σ' con'->(σ'.n=0->∀b,G.P0 b)->Wf σ' con'->eZ σ' con' s'->sV G N ds s' a' w'->K a' w'):o.wp P a w K Q':=by
 unfold O1 at h
 rw[hop]at h
 obtain⟨_,h⟩:=h
 split at h
 case h_2=>exact h.elim
 rename_i id kd es hit
 unfold itA at hit
 split at hit
 case h_2=>cases hit
 rename_i id' hx
 split at hit
 case h_2=>cases hit
 rename_i kd' last es' hH
 injection hit with hit;injection hit with e1 hit;injection hit with e2 e3;subst e1;subst e2;subst e3
 obtain⟨F,ι,hR,hdom,hV,hN,hds,hp⟩:=hr
 have hlt:∀d,o.dst=some d->d<a.tmps.size:=λd h=>by rw[hN.1];exact(hdst d h).1
 have hputN:∀u,(a.put o.dst u).tmps.size=N/\∀t v,G.Z t=some v->(a.put o.dst u).tmps.getD t undef=v:=λu=>by refine⟨by cases o.dst<;>simp[Eg,hN.1],λt v hz=>?_⟩;rw[kT a o.dst u hlt t,Ac (λe=>by rw[(hdst t e).2]at hz;cases hz)];exact hN.2 t v hz
 have hputd:∀u,(a.put o.dst u).defers=ds:=λu=>by cases o.dst<;>simp[Eg,hds]
 have ox:V F w ι (oev σ.J x) (a.eval x):=fD λt _=>by rw[<-hag.J];exact hV t
 rw[hx]at ox
 generalize hxe:a.eval x=vx at ox
 cases ox with|ptr _ _ b hι =>
 obtain⟨ob,hb,hcr⟩:=hR.obj id' b _ hι (hag.K _ _ hH)
 cases hcr with|iter _ _ _ bm since c0 clock seen ents hF hbm hold hsc hn hl hh hla =>
 have hnT:¬s.T id':=λh=>by have:=(hwf.con id' ((hag.T id').1 h)).2;rw[this]at hH;cases hH
 rcases run_next_at (P:=P) w o.type b bm since c0 seen ents clock hb hbm hold hsc.1 with ⟨h0,hrun⟩|⟨e,he,w1,hw1,hrun⟩
 ·have hes:es'=[]:=List.eq_nil_of_length_eq_zero (by rw[hl,h0])
  have:o.wp P a w K Q'=K (a.put o.dst (.tuple #[.bool false])) w:=by unfold DY;simp only[execOp,hop,hxe,A3,hrun,AX,Bz,D6]
  rw[this]
  refine hK ⟨bT σ.J o.dst (.tp [.d (.b false)]),σ.H,σ.n⟩ con ⟨bT s.J o.dst (.tp [.d (.b false)]),s.T,s.K,s.U⟩ _ _ (h.1 hes) hn0 ⟨hwf.top,hwf.con⟩ ⟨by rw[hag.J],hag.T,hag.K,hag.U⟩ ?_
  refine⟨F,ι,hR,hdom,aHj hV (.tp _ _ (by simp) λi c q hc hq=>?_) λt=>kT a o.dst _ hlt t,hputN _,hputd _,hp⟩
  rcases i with _|i
  ·simp at hc hq;subst hc;subst hq;exact .d _ _ (.b _)
  ·simp at hc
 ·obtain⟨j,hj,hje⟩:=BM.1 he
  have hj1:j<(leftOf ents seen).size:=by simpa using hj
  have hje':(leftOf ents seen)[j]? = some e:=by rw[<-Bn,Ab hj,hje]
  have hj2:j<es'.length:=by rw[hl];exact hj1
  obtain⟨en,g1,g2,g3⟩:=hh j es'[j] (Ab hj2)
  rw[hje']at g1;injection g1 with g1;subst g1
  have hee:=mem_left he
  let ob':Obj:=.mapIter (some bm) since (seen.push e.born) clock
  let w2:World:=ChangeMaps.setBlock w1 b ob'
  have hb1:w1.heap[b]? = some (.mapIter (some bm) since seen c0):=by rcases hw1 with rfl|rfl<;>exact hb
  have hkept:Kept (·=b) w.heap.size w w2:=by
   have h2:Kept (·=b) w1.heap.size w1 w2:=aPi ob' hb1 (λ_ _ h=>by cases h);rcases hw1 with rfl|rfl
   ·exact h2
   ·exact⟨h2.os,h2.tape,h2.output,h2.size,h2.block,h2.shape⟩
  have hb2:w2.heap[b]? = some ob':=(Fp hb1).1
  have:o.wp P a w K Q'=K (a.put o.dst (.tuple #[.bool true,e.key,e.val])) w2:=by unfold DY;simp only[execOp,hop,hxe,A3,hrun,AX,Bz,D6];rfl
  rw[this]
  obtain⟨hR',hst'⟩:=hR.write (K':=kK s.K s.T id' (.iter kd' (some es'[j]) (es'.eraseIdx j))) (ob':=ob') (ho:=.iter kd' (some es'[j]) (es'.eraseIdx j)) (old:=.iter kd' last es') hnT hι (hag.K _ _ hH) rfl hkept hb hb2 (λcur e he=>by cases he)
   (λhs=>by
    have hLe:=aVr ents seen j e hn hje';refine .iter kd' _ _ bm since clock clock (seen.push e.born) ents (hs.F_le _ hF) ((hs.blk _ hF).trans hbm) hold ⟨hsc.2,hsc.2⟩ hn ?_ (λi y hi=>?_) (λy hy=>?_)
    ·rw[<-BS,hLe,EM,EM];simp[hl]
    ·rw[<-Bn,hLe];rw[List.getElem?_eraseIdx]at hi ⊢;split
     ·rename_i hlt2;rw[Ad hlt2]at hi;obtain⟨en,q1,q2,q3⟩:=hh i y hi;exact⟨en,by simpa using q1,q2,q3.step hs.F_le hs.blk⟩
     ·rename_i hlt2;rw[Ac hlt2]at hi;obtain⟨en,q1,q2,q3⟩:=hh (i+1) y hi;exact⟨en,by simpa using q1,q2,q3.step hs.F_le hs.blk⟩
    ·injection hy with hy;subst hy
     exact⟨rfl,e,seen,rfl,hee.1,g2,g3.step hs.F_le hs.blk⟩)
   (by unfold kK;rw[Ad rfl]) (λi o' hi h=>by
    unfold kK at h;rw[Ac hi]at h;split at h
    ·cases h
    ·exact⟨h,by assumption⟩)
  have hidn:id'<σ.n:=by
   rcases Bf id' σ.n with h|h
   ·exact h
   ·rw[hwf.top id' h]at hH;cases hH
  refine hK ⟨bT σ.J o.dst (.tp [.d (.b true),.any,.any]),upd σ.H id' (some (.iter kd' (some es'[j]) (es'.eraseIdx j))),σ.n⟩ con ⟨bT s.J o.dst (.tp [.d (.b true),.any,.any]),s.T,kK s.K s.T id' (.iter kd' (some es'[j]) (es'.eraseIdx j)),s.U⟩ _ _
   (h.2 j _ (Ab hj2)) hn0 ⟨λi hi=>?_,λi hi=>?_⟩ ⟨by rw[hag.J],hag.T,λi o' hi=>?_,λi=>?_⟩ ?_
  ·simp only at hi ⊢
   rw[dX _ _ (by omega)];exact hwf.top i hi
  ·obtain⟨q1,q2⟩:=hwf.con i hi
   refine⟨q1,?_⟩
   simp only
   rw[dX _ _ (λe=>by rw[e]at q2;rw[q2]at hH;cases hH)];exact q2
  ·simp only at hi ⊢
   by_cases hid:i=id'
   ·subst hid;rw[dC]at hi;unfold kK;rw[Ad rfl];exact hi
   ·rw[dX _ _ hid]at hi
    rw[oY hid (λht=>by have:=(hwf.con i ((hag.T i).1 ht)).2;rw[this]at hi;cases hi)]
    exact hag.K i o' hi
  ·simp only[hag.U]
   by_cases hid:i=id'
   ·subst hid;simp[dC,hH]
   ·rw[dX _ _ hid]
  ·refine⟨_,ι,hR',hdom,aHj (λt=>(hV t).step hst') (.tp _ _ (by simp) λi c q hc hq=>?_) λt=>kT a o.dst _ hlt t,hputN _,hputd _,hp⟩
   rcases i with _|_|_|i
   ·simp at hc hq;subst hc;subst hq;exact .d _ _ (.b _)
   ·simp at hc;subst hc;exact .any _
   ·simp at hc;subst hc;exact .any _
   ·simp at hc
def aYr{P:Program}{ops:Array Oper}{k:St->List Nat->Prop}{Q':Exit->Act->World->Prop}(hQ:∀σ con s a w,k σ con->(σ.n=0->∀b,G.P0 b)->Wf σ con->eZ σ con s->sV G N ds s a w->Q' .normal a w) :
  ∀(l:List Oper) (σ:St) (con:List Nat) (s:AS) (a:Act) (w:World),(∀o∈l,∀d,o.dst=some d->d<N/\G.Z d=none)->(σ.n=0->∀b,G.P0 b)->Wf σ con->eZ σ con s->sV G N ds s a w->OW P ops l σ con k->wpL P ops Q' l a w
 |[],σ,con,s,a,w,_,hn0,hwf,hag,hr,h=>hQ σ con s a w h hn0 hwf hag hr
 |o::l,σ,con,s,a,w,hd,hn0,hwf,hag,hr,h=>by
  have ih:=λσ' con' s' a' w' (h1:(σ'.n=0->∀b,G.P0 b)) h2 h3 h4 h5=>aYr (P:=P) (ops:=ops) hQ l σ' con' s' a' w' (λo ho=>hd o (Au _ ho)) h1 h2 h3 h4 h5
  unfold wpL;cases hx:bKi o.op with
  |true =>
   unfold OW at h;split at h
   case h_3=>exact h.elim
   ·rename_i hw;obtain⟨F,ι,hR,hdom,hV,hN,hds,hp⟩:=id hr;rw[hag.J]at hV;rw[Ad (vC hw hV)];cases hop:o.op with
    |next x b =>
     have hb:b=false:=by unfold O1 at h;rw[hop]at h;exact h.1
     subst hb;exact aVj hop (hd o (Av ..)) hwf hag hr hn0 h λσ' con' s' a' w' q1 q2 q3 q4 q5=>ih σ' con' s' a' w' q2 q3 q4 q5 q1
    |_=>rw[hop]at hx;cases hx
   ·rename_i hw;obtain⟨F,ι,hR,hdom,hV,hN,hds,hp⟩:=id hr;have hV':=hV;rw[hag.J]at hV';rw[Ac (by rw[vC hw hV'];simp)];have hr':sV G N ds ⟨bT s.J o.dst .un,s.T,s.K,s.U⟩ (a.put o.dst undef) w:=by
     have hlt:∀d,o.dst=some d->d<a.tmps.size:=λd h=>by rw[hN.1];exact(hd o (Av ..) d h).1
     refine⟨F,ι,hR,hdom,aHj hV .un λt=>kT a o.dst undef hlt t,⟨by cases o.dst<;>simp[Eg,hN.1],λt v hz=>?_⟩,by cases o.dst<;>simp[Eg,hds],hp⟩;rw[kT a o.dst undef hlt t,Ac (λe=>by rw[(hd o (Av ..) t e).2]at hz;cases hz)];exact hN.2 t v hz
    exact ih ⟨bT σ.J o.dst .un,σ.H,σ.n⟩ con ⟨bT s.J o.dst .un,s.T,s.K,s.U⟩ _ _ hn0 ⟨hwf.top,hwf.con⟩ ⟨by rw[hag.J],hag.T,hag.K,hag.U⟩ hr' h
  |false =>
   have h':OW P ops [o] σ con λσ' con'=>OW P ops l σ' con' k:=h
   obtain⟨fb,hfb⟩:=uY (G:=G) (k:=λσ' con'=>OW P ops l σ' con' k) [o] σ con (by simp[sC,hx]) hn0 hwf h'
   -- blocks that are not made yet may be named as it suits
   have hU:∀id,s.U id->id<σ.n:=λid h=>by
    rcases(hag.U id).1 h with h|h
    ·rcases Bf id σ.n with h'|h'
     ·exact h'
     ·rw[hwf.top id h']at h;cases h
    ·exact(hwf.con id h).1
   have hag':eZ σ con ⟨s.J,s.T,λi=>if i<σ.n then s.K i else fb i,s.U⟩:=⟨hag.J,hag.T,λid o' h=>by
    simp only;rw[Ad]
    ·exact hag.K id o' h
    ·exact hU id ((hag.U id).2 (.inl (by rw[h];rfl))),hag.U⟩
   have hr':sV G N ds ⟨s.J,s.T,λi=>if i<σ.n then s.K i else fb i,s.U⟩ a w:=by
    obtain⟨F,ι,hR,hdom,hV,hN,hds,hp⟩:=id hr;have hlt:∀id b,ι id=some b->id<σ.n:=λid b h=>hU id ((hdom id).1 ⟨b,h⟩)
    refine⟨F,ι,⟨hR.kept,hR.F_lt,hR.F_ok,hR.place,λid b o' h1 h2=>?_,hR.inj,λid id' b o1 o2 h1 h2 h3 h4 h5=>?_⟩,hdom,hV,hN,hds,hp⟩
    ·simp only at h2;rw[Ad (hlt id b h1)]at h2;exact hR.obj id b o' h1 h2
    ·simp only at h4 h5;rw[Ad (hlt id b h1)]at h4;rw[Ad (hlt id' b h2)]at h5;exact hR.len id id' b o1 o2 h1 h2 h3 h4 h5
   obtain⟨s',hdo,σ',con',hk,hn',hwf',hag2⟩:=hfb _ hag' (λi hi=>by simp only;rw[Ac (by omega)]);exact xQ (K:=wpL P ops Q' l) (Q':=Q') hdo (hd o (Av ..)) hr' λa' w' hr2=>ih σ' con' s' a' w' hn' hwf' hag2 hr2 hk
end
def yK{P:Program}{rd:Bool}{WW:Code->(Exit->Act->World->Prop)->Act->World->Prop}(hW:WpR P rd WW){G:Ctx}{id N:Nat}{ds:List Deferred}{ops:Array Oper}{draw:Bool}{Q:St->Prop}{Q':Exit->Act->World->Prop}{σ:St}{a:Act}{w:World}(hm:P.follows .mixedOrders=true)
  (hdst:∀(i:Nat) (o:Oper) (d:Tmp),ops[i]? = some o->o.dst=some d->d<N/\G.Z d=none) (hnd:rd=true->aJq ops=true) (hB:draw=true->bJo P ops=true) (hsr:SR G N ds σ a w)
  (h:OW P ops ops.toList σ [] λσ' con=>Q (fin σ' con)) (hQ:∀σ a w,Q σ->SR G N ds σ a w->Q' .normal a w):WW (.region id ops draw) Q' a w:=by
 cases draw
 ·refine hW.regL hnd ?_
  obtain⟨hn0,hwf,hag⟩:=aAe hsr
  obtain⟨h1,h2⟩:=hag σ.H λ_ _ h=>h
  refine aYr (k:=λσ' con=>Q (fin σ' con)) (λσ' con' s a w hq hn' hwf' hag' hr=>hQ _ a w hq (aNu hn' hwf' hag' hr)) ops.toList σ [] _ a w (λo ho d hd=>?_) hn0 hwf h1 h2 h
  obtain⟨i,hi,he⟩:=BM.1 ho
  exact hdst i o d (by rw[<-he];simp at hi ⊢) hd
 obtain⟨hn0,hwf,hag⟩:=aAe hsr
 obtain⟨fb,hfb⟩:=uY (G:=G) ops.toList σ [] (Bool.and_eq_true_iff.1 (hB rfl)).1 hn0 hwf h
 obtain⟨h1,h2⟩:=hag (λi=>if i<σ.n then σ.H i else fb i) (λi o hi=>by
  rcases Bf i σ.n with hlt|hge
  ·rw[Ad hlt];exact hi
  ·rw[hwf.top i hge]at hi;cases hi)
 have h3:=hfb _ h1 (λi hi=>by simp only;rw[Ac (by omega)])
 have hQ2:∀(s:AS) (a:Act) (w:World),(∃σ' con',Q (fin σ' con')/\(σ'.n=0->∀b,G.P0 b)/\Wf σ' con'/\eZ σ' con' s)->sV G N ds s a w->Q' .normal a w:=by rintro s a w ⟨σ',con',hq,hn',hwf',hag'⟩ hr;exact hQ _ a w hq (aNu hn' hwf' hag' hr)
 exact aPs hW hm hnd (hB rfl) hdst h2 h3 hQ2
def bVf(H:Hp)(H':Hp)(ρ:Nat->Nat):AV->AV->Prop
 |_,.any=>True
 |x,.d y=>frz H 8 x=some y/\∀a∈vis H 8 x,∀id,(H' id).isSome=true->ρ id≠a
 |x,.fp b=>frz H 8 x=some (.pt b)/\∀a∈vis H 8 x,∀id,(H' id).isSome=true->ρ id≠a
 |.ptr a o,.ptr b o'=>a=ρ b/\o=o'/\(H' b).isSome=true
 |_,_=>False
def pV(H:Hp)(H':Hp)(ρ:Nat->Nat):AV->AV->Prop
 |_,.any=>True
 |.fn f cs,.fn g ds=>f=g/\cs.length=ds.length/\∀(k:Nat) c d,cs[k]? = some c->ds[k]? = some d->bVf H H' ρ c d
 |x,.d y=>frz H 8 x=some y/\∀a∈vis H 8 x,∀id,(H' id).isSome=true->ρ id≠a
 |.nil,.nil=>True
 |.un,.un=>True
 |.ub,.ub=>True
 |.kf f a,.kf g b=>f=g/\a=ρ b/\(H' b).isSome=true
 |.fd a,.fd b=>a=b
 |x,.fp b=>frz H 8 x=some (.pt b)/\∀a∈vis H 8 x,∀id,(H' id).isSome=true->ρ id≠a
 |.own a o l s,.own b o' l' s'=>a=ρ b/\o=o'/\l=l'/\s=s'/\(H' b).isSome=true
 |.ptr a o,.ptr b o'=>a=ρ b/\o=o'/\(H' b).isSome=true
 |.mp a,.mp b=>a=ρ b/\(H' b).isSome=true
 |_,_=>False
def Sub(H:Hp)(H':Hp)(ρ:Nat->Nat):AV->AV->Prop
 |.ag cs,.ag ds=>cs.length=ds.length/\∀(k:Nat) c d,cs[k]? = some c->ds[k]? = some d->pV H H' ρ c d
 |x,y=>pV H H' ρ x y
def nC(H:Hp)(H':Hp)(ρ:Nat->Nat):HO->HO->Prop
 |.cells e cs,.cells e' ds=>e=e'/\cs.length=ds.length/\∀(k:Nat) c d,cs[k]? = some c->ds[k]? = some d->pV H H' ρ c d
 |.map k es,.map k' fs=>k=k'/\es.length=fs.length/\∀(k:Nat) x y,es[k]? = some x->fs[k]? = some y->x.1=y.1/\(pV H H' ρ x.2 y.2\/Sub H H' ρ x.2 y.2)
 |.iter k l es,.iter k' l' fs=>k=k'/\l=l'/\es=fs
 |_,_=>False
structure Wk(σ σ':St)(ρ:Nat->Nat):Prop where
 top:∀id,σ'.n<=id->σ'.H id=none
 slot:∀t,Sub σ.H σ'.H ρ (σ.J t) (σ'.J t)
 blk:∀id o',σ'.H id=some o'->∃o,σ.H (ρ id)=some o/\nC σ.H σ'.H ρ o o'
 inj:∀id id',(σ'.H id).isSome=true->(σ'.H id').isSome=true->ρ id=ρ id'->id=id'
 pin:(σ'.H 0).isSome=true->ρ 0=0
 n0:σ'.n=0->σ.n=0
section
variable {G:Ctx} {N:Nat} {ds:List Deferred}
def aDy{σ σ':St}{ρ:Nat->Nat}{a:Act}{w:World}(hk:Wk σ σ' ρ)(h:SR G N ds σ a w):SR G N ds σ' a w:=by
 obtain⟨htop,hn0,F,ι,hR,hdom,hV,hN,hds,hp⟩:=h;let F':Nat->Prop:=λb=>F b\/∃i,ι i=some b/\∀id,(σ'.H id).isSome=true->ρ id≠i
 let ι':Nat->Option Nat:=λid=>if(σ'.H id).isSome=true then ι (ρ id)else none
 have ι'_some:∀id b,ι' id=some b->(σ'.H id).isSome=true/\ι (ρ id)=some b:=by
  intro id b h;simp only[ι']at h;split at h
  ·exact⟨by assumption,h⟩
  ·cases h
 have hFF:∀b,F b->F' b:=λb h=>.inl h
 have ptF:∀(x:AV) (b:List D) (v:Value),(frz σ.H 8 x=some (.pt b)/\∀a∈vis σ.H 8 x,∀id,(σ'.H id).isSome=true->ρ id≠a)->V F w ι x v->V F' w ι' (.fp b) v:=by
  intro x b v hs hv;obtain⟨h1,h2⟩:=hs;have h3:VD F' w (.pt b) v:=(zI hR (λ_ _ h=>h) 8 x v _ h1 hv).1.mono (by
   rintro b (hb|⟨i,hi,hb⟩)
   ·exact .inl hb
   ·exact .inr ⟨i,hb,λid hid=>h2 i hi id hid⟩)
  cases h3 with|pt _ ad f hF hcell hel=>exact .fp _ _ f hF hcell hel
 have subP:∀x y v,bVf σ.H σ'.H ρ x y->V F w ι x v->V F' w ι' y v:=by
  intro x y v hs hv;cases y with
  |any=>exact .any _
  |d y =>
   have hs':frz σ.H 8 x=some y/\∀a∈vis σ.H 8 x,∀id,(σ'.H id).isSome=true->ρ id≠a:=by cases x<;>exact hs
   obtain⟨h1,h2⟩:=hs';refine .d _ _ ((zI hR (λ_ _ h=>h) 8 x v y h1 hv).1.mono ?_);rintro b (hb|⟨i,hi,hb⟩)
   ·exact .inl hb
   ·exact .inr ⟨i,hb,λid hid=>h2 i hi id hid⟩
  |fp b =>
   have hs':frz σ.H 8 x=some (.pt b)/\∀a∈vis σ.H 8 x,∀id,(σ'.H id).isSome=true->ρ id≠a:=by cases x<;>exact hs
   exact ptF x b v hs' hv
  |ptr b o=>cases x<;>first|exact hs.elim|(simp only[bVf]at hs;obtain⟨rfl,rfl,hsm⟩:=hs;cases hv with|ptr _ _ bb hι=>exact .ptr _ _ bb (by simp only[ι'];rw[Ad hsm];exact hι))
  |_=>cases x<;>exact hs.elim
 have subL:∀x y v,pV σ.H σ'.H ρ x y->V F w ι x v->V F' w ι' y v:=by
  intro x y v hs hv;cases y with
  |any=>exact .any _
  |d y =>
   have hs':frz σ.H 8 x=some y/\∀a∈vis σ.H 8 x,∀id,(σ'.H id).isSome=true->ρ id≠a:=by cases x<;>exact hs
   obtain⟨h1,h2⟩:=hs';refine .d _ _ ((zI hR (λ_ _ h=>h) 8 x v y h1 hv).1.mono ?_);rintro b (hb|⟨i,hi,hb⟩)
   ·exact .inl hb
   ·exact .inr ⟨i,hb,λid hid=>h2 i hi id hid⟩
  |nil=>cases x<;>first|exact hs.elim|(cases hv;exact .nil)
  |un=>cases x<;>first|exact hs.elim|(cases hv;exact .un)
  |ub=>cases x<;>first|exact hs.elim|(cases hv;exact .ub _)
  |kf g b=>cases x<;>first|exact hs.elim|(simp only[pV]at hs;obtain⟨rfl,rfl,hsm⟩:=hs;cases hv with|kf _ _ bb p e hι hF hpp=>exact .kf _ _ bb p e (by simp only[ι'];rw[Ad hsm];exact hι) (hFF _ hF) hpp)
  |fd b=>cases x<;>first|exact hs.elim|(simp only[pV]at hs;subst hs;cases hv with|fd _ ad n h=>exact .fd _ _ _ (h.mono hFF))
  |fp b =>
   have hs':frz σ.H 8 x=some (.pt b)/\∀a∈vis σ.H 8 x,∀id,(σ'.H id).isSome=true->ρ id≠a:=by cases x<;>exact hs
   exact ptF x b v hs' hv
  |fn g ds =>
   cases x<;>first|exact hs.elim|(simp only[pV]at hs;obtain⟨rfl,hl,hs⟩:=hs;cases hv with|fn _ _ vs hvl hh=>exact .fn _ _ _ (by omega) λk d u hd hu=>(have hk:k<_:=(Ah.1 hd).1;subP _ _ _ (hs k _ d (Ab (by omega)) hd) (hh k _ u (Ab (by omega)) hu)))
  |own b o l s =>
   cases x<;>first|exact hs.elim|(simp only[pV]at hs;obtain⟨rfl,rfl,rfl,rfl,hsm⟩:=hs;cases hv with|own _ _ _ _ bb cap cur e hι hb hcap hl hm=>exact .own _ _ _ _ bb cap cur e (by simp only[ι'];rw[Ad hsm];exact hι) hb hcap hl hm)
  |ptr b o=>cases x<;>first|exact hs.elim|(simp only[pV]at hs;obtain⟨rfl,rfl,hsm⟩:=hs;cases hv with|ptr _ _ bb hι=>exact .ptr _ _ bb (by simp only[ι'];rw[Ad hsm];exact hι))
  |mp b=>cases x<;>first|exact hs.elim|(simp only[pV]at hs;obtain⟨rfl,hsm⟩:=hs;cases hv with|mp _ bb hι=>exact .mp _ bb (by simp only[ι'];rw[Ad hsm];exact hι))
  |ag _=>cases x<;>exact hs.elim
  |tp _=>cases x<;>exact hs.elim
 have sub:∀x y v,Sub σ.H σ'.H ρ x y->V F w ι x v->V F' w ι' y v:=by
  intro x y v hs hv;by_cases hag:∃cs ds,x=.ag cs/\y=.ag ds
  ·obtain⟨cs,ds,rfl,rfl⟩:=hag;obtain⟨hl,hs⟩:=hs;cases hv with|ag _ vs hvl hh =>
   refine .ag _ _ (by omega) λk d u hd hu=>?_
   have hk:k<cs.length:=by rw[hl];exact(Ah.1 hd).1
   exact subL _ _ _ (hs k _ d (Ab hk) hd) (hh k _ u (Ab hk) hu)
  ·refine subL x y v ?_ hv;cases x<;>cases y<;>first|exact hs|exact absurd ⟨_,_,rfl,rfl⟩ hag
 have cr:∀o o' ob,nC σ.H σ'.H ρ o o'->CR F w ι o ob->CR F' w ι' o' ob:=by
  intro o o' ob hs hc;cases hc with
  |cells e cs cur hl hh =>
   cases o' with
   |map _ _=>exact hs.elim
   |iter _ _ _=>exact hs.elim
   |cells e' ds =>
    obtain⟨rfl,hl',hs⟩:=hs;refine .cells _ _ _ (by omega) λk d hd=>?_
    have hk:k<cs.length:=by rw[hl'];exact(Ah.1 hd).1
    obtain⟨u,hu,hv⟩:=hh k _ (Ab hk);exact⟨u,hu,subL _ _ _ (hs k _ d (Ab hk) hd) hv⟩
  |map kd es ents clock hl hst hh =>
   cases o' with
   |cells _ _=>exact hs.elim
   |iter _ _ _=>exact hs.elim
   |map kd' fs =>
    obtain⟨rfl,hl',hs⟩:=hs;refine .map _ _ _ _ (by omega) hst λk y hy=>?_
    have hk:k<es.length:=by rw[hl'];exact(Ah.1 hy).1
    obtain⟨en,h1,h2,h3⟩:=hh k _ (Ab hk);obtain⟨e1,e2⟩:=hs k _ y (Ab hk) hy;exact⟨en,h1,by rw[<-e1];exact h2,e2.elim (λe2=>subL _ _ _ e2 h3) λe2=>sub _ _ _ e2 h3⟩
  |iter kd last es bm since c0 clock seen ents hF hb hold hsc hnd hl h hla =>
   cases o' with
   |cells _ _=>exact hs.elim
   |map _ _=>exact hs.elim
   |iter kd' last' fs =>
    obtain⟨rfl,rfl,rfl⟩:=hs;exact .iter _ _ _ bm since c0 clock seen ents (hFF _ hF) hb hold hsc hnd hl (λj x hj=>let ⟨en,h1,h2,h3⟩:=h j x hj;⟨en,h1,h2,h3.mono hFF⟩) λx hx=>let ⟨e1,en,sn,e2,e3,e4,e5⟩:=hla x hx;⟨e1,en,sn,e2,e3,e4,e5.mono hFF⟩
 have subO_len:∀o o',nC σ.H σ'.H ρ o o'->o'.len=o.len:=by intro o o' hs;cases o<;>cases o'<;>first|exact hs.elim|(simp only[HO.len];exact hs.2.1.symm)|rfl
 refine⟨hk.top,λh=>hn0 (hk.n0 h),F',ι',⟨hR.kept,?_,?_,?_,?_,?_,?_⟩,λid=>⟨?_,?_⟩,λt=>sub _ _ _ (hk.slot t) (hV t),hN,hds,λb hb=>?_⟩
 rotate_right
 ·obtain⟨h1,h2⟩:=ι'_some 0 b hb;rw[hk.pin h1]at h2;exact hp b h2
 ·rintro b (h|⟨i,h,_⟩)
  ·exact hR.F_lt b h
  ·exact hR.ι_lt h
 ·rintro b (h|⟨i,h,_⟩)
  ·exact hR.F_ok b h
  ·exact .inr (hR.place i b h).1
 ·intro id b h;obtain⟨h1,h2⟩:=ι'_some id b h;obtain⟨p1,p2,p3⟩:=hR.place _ b h2;refine⟨p1,p2,λ_ hF=>?_⟩;rcases hF with hF|⟨i,hi,hne⟩
  ·exact p3 (λx=>x) hF
  ·exact hne id h1 (hR.inj _ _ b h2 hi (λx=>x) (λx=>x))
 ·intro id b o' h ho';obtain⟨h1,h2⟩:=ι'_some id b h;obtain⟨o,ho,hs⟩:=hk.blk id o' ho';obtain⟨ob,e1,e2⟩:=hR.obj _ b o h2 ho;exact⟨ob,e1,cr o o' ob hs e2⟩
 ·intro id id' b h h' _ _;obtain⟨h1,h2⟩:=ι'_some id b h;obtain⟨h1',h2'⟩:=ι'_some id' b h';exact hk.inj id id' h1 h1' (hR.inj _ _ b h2 h2' (λx=>x) (λx=>x))
 ·intro id id' b o o' h h' _ ho ho';obtain⟨h1,h2⟩:=ι'_some id b h;obtain⟨h1',h2'⟩:=ι'_some id' b h';obtain⟨p,hp,hs⟩:=hk.blk id o ho;obtain⟨p',hp',hs'⟩:=hk.blk id' o' ho';rw[subO_len _ _ hs,subO_len _ _ hs'];exact hR.len _ _ b p p' h2 h2' (λx=>x) hp hp'
 ·rintro⟨b,h⟩;exact(ι'_some id b h).1
 ·intro h;obtain⟨o',ho'⟩:=B9.1 h;obtain⟨o,ho,_⟩:=hk.blk id o' ho';obtain⟨b,hb⟩:=(hdom (ρ id)).2 (by rw[ho];rfl);exact⟨b,by simp only[ι'];rw[Ad h];exact hb⟩
end
end Go.Am
end
