/- The abstract machine, part 15: states between regions; what may be forgotten. No condition. -/
import Derived.Test.YtmmghmkgjihohaaGreatK1
import Derived.Scope
open Array renaming append_empty→Cw,empty_append→Ca,eraseIdxIfInBounds→Gy,getD_eq_getD_getElem?→Ay,getElem?_eq_getElem→Ak,getElem?_eq_none→Dq,getElem?_eq_some_iff→AZ,getElem?_map→BM,getElem?_modify→Fs,getElem?_push→Bm,getElem?_toList→Bh,length_toList→BA,mem_toList_iff→Cu,replicate→AU,toList_append→FW,toList_map→Fx
open Bool renaming and_eq_true→AR,not_eq_true'→C2
open Go.Act renaming put→C0
open Go.Builtin renaming len_→FY
open Go.Call renaming operands→Bc
open Go.Deferred renaming ofValue→Cq
open Go.Instr renaming findNow→Gw,lookup→FZ
open Go.MapKept renaming IsKey→Eb,Stamped→EC
open Go.Op renaming operands→Aw
open Go.Operand renaming tmp→CC
open Go.Region renaming binds→Ez,ready→Bo,wanted→Bl
open Go.Result renaming andThen_ok→AH
open List renaming all_eq_true→AW,flatMap_cons→Gl,getElem?_append_left→AP,getElem?_append_right→AM,getElem?_cons_zero→BP,getElem?_drop→BB,getElem?_eq_getElem→Ab,getElem?_eq_some_iff→Ao,getElem?_map→Ag,getElem?_take→Bv,getElem?_toArray→Cb,length_append→A8,length_drop→Ek,length_map→BF,length_take→Be,mapM_cons→Ce,map_cons→BO,map_nil→EV,mem_append→BU,mem_cons→Bq,mem_cons_of_mem→AJ,mem_cons_self→AI,mem_flatMap→Bz,mem_iff_getElem→BC,mem_map→A1,mem_of_getElem?→Ai,mem_range→CI,range→AK
open Nat renaming add_assoc→DW,add_comm→Ey,add_mul→BV,eq_zero_or_pos→Bb,le_refl→AA,lt_or_ge→Az,zero_add→Ax
open Option renaming bind_eq_bind→CU,bind_eq_some_iff→Ad,bind_some→El,getD_some→AT,isSome_iff_exists→Ec,map_eq_some_iff→Af,map_some→AQ,pure_def→DO
open Option.some renaming injEq→At
open _root_ renaming beq_iff_eq→CW,if_neg→Ah,if_pos→Ap,if_true→AF,of_decide_eq_true→C5,or_false→FK
set_option linter.unusedSectionVars false
set_option linter.unusedVariables false
set_option linter.unusedSimpArgs false
section
open List renaming map_map→ζ,mapM_map→ξ
namespace Go.Am
open RowKit (Below)
def chunk(sz len:Nat)(l:List D):List (List D):=(AK len).map fun i=>(l.drop (i*sz)).take sz
def frz(H:Hp):Nat→AV→Option D
 |0,_=>none
 | n+1,x=>match x with
  |.d x=>some x
  |.nil=>some (.sl [])
  |.fd els=>some (.sl els)
  | .own id off len sz=>match H id with
   |some (.cells _ cs)=>if(off+len)*sz≤cs.length∧0<sz then(((cs.drop (off*sz)).take (len*sz)).mapM (frz H n)).map fun l=>.sl (chunk sz len l)else none
   |_=>none
  |.fp cs=>some (.pt cs)
  | .ptr id off=>match H id with
   |some (.cells _ cs)=>if off≤cs.length then((cs.drop off).mapM (frz H n)).map .pt else none
   |_=>none
  |.fn f cs=>(cs.mapM (frz H n)).map (.fn f)
  |.ag cs=>(cs.mapM (frz H n)).map .ag
  |.tp cs=>(cs.mapM (frz H n)).map .tp
  | .mp id=>match H id with
   |some (.map k es)=>((es.map (·.2)).mapM (frz H n)).map (.mp k (es.map (·.1)))
   |_=>none
  |_=>none
def cI(H:Hp)(l:List AV):Option (List D):=l.mapM (frz H 8)
theorem fN{α β:Type}(f:α→Option β):∀(l:List α) (r:List β),l.mapM f=some r→r.length=l.length∧∀(k:Nat) d,r[k]? = some d→∃ c,l[k]? = some c∧f c=some d
 |[],r,h=>by simp at h;subst h;exact⟨rfl,fun k d h=>by simp at h⟩
 | x::l,r,h=>by
  simp only[Ce,CU,Ad,DO,At]at h
  obtain⟨y,hy,r',hr',rfl⟩:=h
  obtain⟨h1,h2⟩:=fN f l r' hr'
  refine⟨by simp[h1],fun k d hk=>?_⟩
  rcases k with _|k
  ·simp at hk;subst hk;exact⟨x,rfl,hy⟩
  ·exact h2 k d (by simpa using hk)
def vis(H:Hp):Nat→AV→List Nat
 |0,_=>[]
 | n+1,x=>match x with
  | .own id off len sz=>match H id with
   |some (.cells _ cs)=>id::((cs.drop (off*sz)).take (len*sz)).flatMap (vis H n)
   |_=>[]
  | .ptr id off=>match H id with
   |some (.cells _ cs)=>id::(cs.drop off).flatMap (vis H n)
   |_=>[]
  |.fn _ cs=>cs.flatMap (vis H n)
  |.ag cs=>cs.flatMap (vis H n)
  |.tp cs=>cs.flatMap (vis H n)
  | .mp id=>match H id with
   |some (.map _ es)=>id::(es.map (·.2)).flatMap (vis H n)
   |_=>[]
  |_=>[]
def bT(H:Hp)(l:List AV):List Nat:=l.flatMap (vis H 8)
def reach(F:Nat→Prop)(ι:Nat→Option Nat)(l:List Nat):Nat→Prop:=fun b=>F b∨∃ id∈l,ι id=some b
section
variable {P:Program} {F:Nat→Prop} {w:World} {ι:Nat→Option Nat} {G:Ctx} {C:Nat→Prop} {H K:Hp}
theorem jI{l l':List Nat}(h:∀ id∈l,id∈l'):∀ b,reach F ι l b→reach F ι l' b:=by
 rintro b (hb|⟨id,hi,hb⟩)
 ·exact .inl hb
 ·exact .inr ⟨id,h id hi,hb⟩
theorem tU(hR:HR G F w ι C K)(hHK:∀ id o,H id=some o→K id=some o):∀(n:Nat) (x:AV) (v:Value) (d:D),frz H n x=some d→V F w ι x v →
  VD (reach F ι (vis H n x)) w d v∧∀ id∈vis H n x,∃ b,ι id=some b
 |0,x,v,d,h,_=>by simp[frz]at h
 | n+1,x,v,d,h,hv=>by
  have ih:=tU hR hHK n
  unfold frz at h
  have cellsV:∀(cs:List AV) (l:List D) (vs:Array Value),cs.length=vs.size→cs.mapM (frz H n)=some l→(∀(k:Nat) c u,cs[k]? = some c→vs[k]? = some u→V F w ι c u) →
    (∀(k:Nat) d u,l[k]? = some d→vs[k]? = some u→VD (reach F ι (cs.flatMap (vis H n))) w d u)∧∀ id∈cs.flatMap (vis H n),∃ b,ι id=some b:=by
   intro cs l vs hlen hm hv
   obtain⟨h1,h2⟩:=fN _ _ _ hm
   refine⟨fun k d u hk hu=>?_,fun id hid=>?_⟩
   ·obtain⟨c,hc,hd⟩:=h2 k d hk
    exact(ih c u d hd (hv k c u hc hu)).1.mono (jI fun id hid=>Bz.2 ⟨c,Ai hc,hid⟩)
   ·obtain⟨c,hc,hid⟩:=Bz.1 hid
    obtain⟨k,hk,rfl⟩:=BC.1 hc
    have hk':k<vs.size:=by omega
    have hk2:k<l.length:=by omega
    obtain⟨c',hc',hd⟩:=h2 k _ (Ab hk2)
    rw[Ab hk]at hc';injection hc' with hc';subst hc'
    exact(ih _ _ _ hd (hv k _ _ (Ab hk) (Ak hk'))).2 id hid
  split at h
  ·injection h with h;subst h
   cases hv with|d _ _ hh=>exact⟨hh.mono fun b hb=>.inl hb,fun id hid=>by simp[vis]at hid⟩
  ·injection h with h;subst h
   cases hv;exact⟨.sl0 _ _,fun id hid=>by simp[vis]at hid⟩
  ·injection h with h;subst h
   obtain⟨ad,rfl,hh⟩:=mT hv
   exact⟨hh.mono fun b hb=>.inl hb,fun id hid=>by simp[vis]at hid⟩
  ·rename_i id off len sz
   split at h
   ·rename_i e cs hH
    split at h
    ·rename_i hfit
     obtain⟨hfit,hpos⟩:=hfit
     obtain⟨l,hl,rfl⟩:=Af.1 h
     cases hv with|own _ _ _ _ b cap cur0 e0 hι hb0 hcap hlc hm =>
     obtain⟨cur,hb,hcl,hcc⟩:=hR.cells hHK hι hH
     obtain⟨hll,hlg⟩:=fN _ _ _ hl
     have hfit':off*sz+len*sz≤cs.length:=by rw[←BV];exact hfit
     have hlen:l.length=len*sz:=by rw[hll];simp;omega
     have hvis:vis H (n+1) (.own id off len sz)=id::((cs.drop (off*sz)).take (len*sz)).flatMap (vis H n):=by simp[vis,hH]
     rw[hvis]
     refine⟨.sl _ _ _ _ sz (fun j=>cur.getD (off*sz+j) undef) (by simp[chunk]) hlc ?_ (.inr ⟨id,by simp,hι⟩) (fun j hj=>?_) (fun j k ds d hj hk=>?_),fun i hi=>?_⟩
     ·intro ds hds
      simp only[chunk,A1,CI]at hds
      obtain⟨i,hi,rfl⟩:=hds
      rw[Be,Ek,hlen]
      have:(i+1)*sz≤len*sz:=Nat.mul_le_mul_right _ hi
      rw[BV,Nat.one_mul]at this
      omega
     ·rw[gH,cell_of_row w b _ cur e (0,0) hb,Ak (by omega)]
      simp[show off*sz+j<cur.size by omega]
     ·have hjl:j<len:=by have:=(Ao.1 hj).1;simpa[chunk]using this
      simp only[chunk,Ag,List.getElem?_range hjl,AQ,At]at hj
      subst hj
      rw[Bv]at hk
      split at hk
      ·rename_i hks
       rw[BB]at hk
       obtain⟨c,hc,hd⟩:=hlg _ _ hk
       have hmem:=Ai hc
       rw[Bv]at hc
       split at hc
       ·rw[BB]at hc
        obtain⟨u,hu,hvv⟩:=hcc _ _ hc
        have hlt:=(AZ.1 hu).1
        rw[Ak hlt]at hu
        injection hu with hu
        have:=(ih c u d hd hvv).1.mono (jI (F:=F) (ι:=ι) (l':=id::((cs.drop (off*sz)).take (len*sz)).flatMap (vis H n)) fun i hi=>AJ _ (Bz.2 ⟨c,hmem,hi⟩))
        rw[←hu]at this
        simpa[hlt]using this
       ·cases hc
      ·cases hk
     ·rcases Bq.1 hi with rfl|hi
      ·exact⟨b,hι⟩
      ·obtain⟨c,hc,hid⟩:=Bz.1 hi
       obtain⟨k,hk,hck⟩:=BC.1 hc
       have hk2:k<l.length:=by rw[hll];exact hk
       obtain⟨c',hc',hd⟩:=hlg k _ (Ab hk2)
       have hce:c'=c:=by rw[Ab hk]at hc';injection hc' with hc';rw[←hc',hck]
       subst hce
       rw[Bv]at hc'
       split at hc'
       ·rw[BB]at hc'
        obtain⟨u,hu,hvv⟩:=hcc _ _ hc'
        exact(ih _ _ _ hd hvv).2 i hid
       ·cases hc'
    ·cases h
   ·cases h
  ·injection h with h;subst h
   cases hv with|fp cs ad f hF hcell hel=>exact⟨.pt _ _ f (.inl hF) hcell fun k c hk=>(hel k c hk).mono fun b hb=>.inl hb,fun id hid=>by simp[vis]at hid⟩
  ·rename_i id off
   split at h
   ·rename_i e cs hH
    split at h
    ·rename_i hfit
     obtain⟨l,hl,rfl⟩:=Af.1 h
     cases hv with|ptr _ _ b hι =>
     obtain⟨cur,hb,hcl,hcc⟩:=hR.cells hHK hι hH
     obtain⟨hll,hlg⟩:=fN _ _ _ hl
     have hlen:l.length=cs.length-off:=by rw[hll];simp
     have hvis:vis H (n+1) (.ptr id off)=id::(cs.drop off).flatMap (vis H n):=by simp[vis,hH]
     rw[hvis]
     refine⟨.pt _ _ (fun j=>cur.getD (off+j) undef) (.inr ⟨id,by simp,hι⟩) (fun j hj=>?_) (fun k d hk=>?_),fun i hi=>?_⟩
     ·rw[gH,cell_of_row w b _ cur e (0,0) hb,Ak (by omega)]
      simp[show off+j<cur.size by omega]
     ·obtain⟨c,hc,hd⟩:=hlg _ _ hk
      have hmem:=Ai hc
      rw[BB]at hc
      obtain⟨u,hu,hvv⟩:=hcc _ _ hc
      have hlt:=(AZ.1 hu).1
      rw[Ak hlt]at hu
      injection hu with hu
      have:=(ih c u d hd hvv).1.mono (jI (F:=F) (ι:=ι) (l':=id::(cs.drop off).flatMap (vis H n)) fun i hi=>AJ _ (Bz.2 ⟨c,hmem,hi⟩))
      rw[←hu]at this
      simpa[hlt]using this
     ·rcases Bq.1 hi with rfl|hi
      ·exact⟨b,hι⟩
      ·obtain⟨c,hc,hid⟩:=Bz.1 hi
       obtain⟨k,hk,hck⟩:=BC.1 hc
       have hk2:k<l.length:=by rw[hll];exact hk
       obtain⟨c',hc',hd⟩:=hlg k _ (Ab hk2)
       have hce:c'=c:=by rw[Ab hk]at hc';injection hc' with hc';rw[←hc',hck]
       subst hce
       rw[BB]at hc'
       obtain⟨u,hu,hvv⟩:=hcc _ _ hc'
       exact(ih _ _ _ hd hvv).2 i hid
    ·cases h
   ·cases h
  ·obtain⟨l,hl,rfl⟩:=Af.1 h
   cases hv with|fn _ _ vs hvl hh =>
   obtain⟨q1,q2⟩:=cellsV _ l vs hvl hl hh
   exact⟨.fn _ _ _ (by rw[(fN _ _ _ hl).1];exact hvl) q1,q2⟩
  ·obtain⟨l,hl,rfl⟩:=Af.1 h
   cases hv with|ag _ vs hvl hh =>
   obtain⟨q1,q2⟩:=cellsV _ l vs hvl hl hh
   exact⟨.ag _ _ (by rw[(fN _ _ _ hl).1];exact hvl) q1,q2⟩
  ·obtain⟨l,hl,rfl⟩:=Af.1 h
   cases hv with|tp _ vs hvl hh =>
   obtain⟨q1,q2⟩:=cellsV _ l vs hvl hl hh
   exact⟨.tp _ _ (by rw[(fN _ _ _ hl).1];exact hvl) q1,q2⟩
  ·rename_i id
   split at h
   ·rename_i k es hH
    obtain⟨l,hl,rfl⟩:=Af.1 h
    cases hv with|mp _ b hι =>
    obtain⟨ob,hb,hcr⟩:=hR.obj id b _ hι (hHK _ _ hH)
    cases hcr with|map _ _ ents clock hel hst hes =>
    obtain⟨hll,hlg⟩:=fN _ _ _ hl
    rw[BF]at hll
    have hvis:vis H (n+1) (.mp id)=id::(es.map (·.2)).flatMap (vis H n):=by simp[vis,hH]
    rw[hvis]
    refine⟨.mp k _ l b ents clock (.inr ⟨id,by simp,hι⟩) hb hst (by simpa using hel) (by omega) (fun j m hj=>?_) (fun j d en hj hen=>?_),fun i hi=>?_⟩
    ·rw[Ag]at hj
     obtain⟨x,hx,rfl⟩:=Af.1 hj
     obtain⟨en,h1,h2,_⟩:=hes j x hx
     exact⟨en,h1,h2⟩
    ·obtain⟨c,hc,hd⟩:=hlg j d hj
     have hmem:=Ai hc
     rw[Ag]at hc
     obtain⟨x,hx,rfl⟩:=Af.1 hc
     obtain⟨en',h1,_,h3⟩:=hes j x hx
     rw[hen]at h1;injection h1 with h1;subst h1
     exact(ih x.2 _ d hd h3).1.mono (jI fun i hi=>AJ _ (Bz.2 ⟨_,hmem,hi⟩))
    ·rcases Bq.1 hi with rfl|hi
     ·exact⟨b,hι⟩
     ·obtain⟨c,hc,hid⟩:=Bz.1 hi
      obtain⟨j,hj,hcj⟩:=BC.1 hc
      have hj':j<l.length:=by rw[hll];simpa using hj
      obtain⟨c',hc',hd⟩:=hlg j _ (Ab hj')
      have hce:c'=c:=by rw[Ab hj]at hc';injection hc' with hc';rw[←hc',hcj]
      subst hce
      rw[Ag]at hc'
      obtain⟨x,hx,rfl⟩:=Af.1 hc'
      obtain⟨en',h1,_,h3⟩:=hes j x hx
      exact(ih x.2 _ _ hd h3).2 i hid
   ·cases h
  ·cases h
end
inductive NM:D→Prop where
 |b (x:Bool):NM (.b x)
 |i (k:IntKind) (n:Int):NM (.i k n)
 |lit (v:Value):NM (.lit v)
 |sl (els:List (List D)) (h0:∀ cs∈els,cs≠[]) (h:∀ cs∈els,∀ c∈cs,NM c):NM (.sl els)
 |ag (cs:List D) (h:∀ c∈cs,NM c):NM (.ag cs)
 |tp (cs:List D) (h:∀ c∈cs,NM c):NM (.tp cs)
def nmB:Nat→D→Bool
 |0,_=>false
 | n+1,x=>match x with
  |.b _|.i _ _|.lit _=>true
  |.sl els=>els.all fun cs=>!cs.isEmpty&&cs.all (nmB n)
  |.ag cs|.tp cs=>cs.all (nmB n)
  |_=>false
theorem aFr:∀(n:Nat) (x:D),nmB n x=true→NM x
 |0,x,h=>by cases h
 | n+1,x,h=>by
  unfold nmB at h
  split at h
  ·exact .b _
  ·exact .i _ _
  ·exact .lit _
  ·rename_i els
   simp only[AW,AR,C2,List.isEmpty_eq_false_iff]at h
   exact .sl _ (fun cs hcs=>(h cs hcs).1) fun cs hcs c hc=>aFr n c ((h cs hcs).2 c hc)
  ·exact .ag _ fun c hc=>aFr n c (AW.1 h c hc)
  ·exact .tp _ fun c hc=>aFr n c (AW.1 h c hc)
  ·cases h
theorem bYm{F:Nat→Prop}{w:World}{x:D}{v:Value}(h:VD F w x v)(hn:NM x):VD (fun b=>F b∧∀ ents clock,w.heap[b]? ≠ some (.map ents clock)) w x v:=by
 induction h with
 |b x=>exact .b x
 |i k n=>exact .i k n
 |sl0 ad c=>exact .sl0 ad c
 | sl els ad n c sz f hnl hc hsz hF hcell hel ih =>
  cases hn with|sl _ h0 h =>
  cases hels:els with
  |nil=>subst hels;subst hnl;exact .sl0 _ _
  | cons cs0 l =>
   rw[←hels]
   have hm0:cs0∈els:=by rw[hels];exact AI ..
   have hpos:0<sz:=by rw[←hsz cs0 hm0];exact List.length_pos_iff.2 (h0 cs0 hm0)
   have hnp:0<n:=by rw[hnl,hels];simp
   refine .sl els ad n c sz f hnl hc hsz ⟨hF,fun ents clock he=>?_⟩ hcell fun j k cs d hj hk=>ih j k cs d hj hk (h cs (Ai hj) d (Ai hk))
   have h1:=hcell 0 (Nat.mul_pos hnp hpos)
   simp only[World.cell?,block_add,he]at h1
   cases h1
 |ag cs vs hl hh ih=>cases hn with|ag _ h=>exact .ag cs vs hl fun k c v hc hv=>ih k c v hc hv (h c (Ai hc))
 |tp cs vs hl hh ih=>cases hn with|tp _ h=>exact .tp cs vs hl fun k c v hc hv=>ih k c v hc hv (h c (Ai hc))
 |lit v=>exact .lit v
 |pt=>cases hn
 |fn=>cases hn
 |mp=>cases hn
 |iff=>cases hn
 |fm=>cases hn
def Spec(P:Program)[M:Mch P](f:FuncId)(args:List D)(r:D):Prop :=
 ∀(A:Nat→Prop) (W:World) (vs:Array Value),(∀ b,A b→b<W.heap.size)→args.length=vs.size→(∀(k:Nat) d v,args[k]? = some d→vs[k]? = some v→VD A W d v) →
  (∀ w,aH P (callFunc f vs) w=.ok (.enter f vs) w) ∧
  CX P f vs W fun v W'=>Below W.heap.size W W'∧VD (fun b=>A b∨(W.heap.size≤b∧b<W'.heap.size)) W' r v
def aL:D→AV
 |.ag cs=>.ag (cs.map .d)
 |.pt cs=>.fp cs
 |x=>.d x
def inj:D→AV
 |.tp vs=>.tp (vs.map aL)
 |x=>aL x
def wL:D→Bool
 |.b _|.i _ _=>true
 |_=>false
def flat:D→Bool
 |.tp vs=>vs.all wL
 |x=>wL x
section
variable {P:Program} {F:Nat→Prop} {w:World} {ι:Nat→Option Nat} {G:Ctx} {C:Nat→Prop} {H K:Hp}
theorem mF{x:D}{v:Value}(h:VD F w x v):V F w ι (aL x) v:=by
 unfold aL
 split
 ·cases h with|ag cs vs hl hh=>exact .ag _ _ (by simpa using hl) (uN hh)
 ·cases h with|pt cs ad f hF hcell hel=>exact .fp _ _ f hF hcell hel
 ·exact .d _ _ h
theorem aAy{x:D}{v:Value}(h:VD F w x v):V F w ι (inj x) v:=by
 unfold inj
 split
 ·cases h with
  | tp cs vs hl hh =>
   refine .tp _ _ (by simpa using hl) fun k c u hc hu=>?_
   rw[Ag]at hc
   obtain⟨d,hd,rfl⟩:=Af.1 hc
   exact mF (hh k d u hd hu)
 ·exact mF h
theorem bOt{x:D}{v:Value}{F':Nat→Prop}{w':World}(hf:wL x=true)(h:VD F w x v):VD F' w' x v:=by
 cases h<;>first|exact .b _|exact .i _ _|(simp[wL]at hf;done)
theorem aGd{x:D}{v:Value}{F':Nat→Prop}{w':World}(hf:flat x=true)(h:VD F w x v):VD F' w' x v:=by
 cases h with
 |tp cs vs hl hh=>exact .tp _ _ hl fun k c u hc hu=>bOt (by simp only[flat]at hf;exact AW.1 hf _ (Ai hc)) (hh k c u hc hu)
 |b x=>exact .b _
 |i k n=>exact .i _ _
 |_=>simp[flat,wL]at hf
theorem HR.call(hR:HR G F w ι C K){w':World}(hb:Below w.heap.size w w')(kills:List Nat)(hk:∀ id∈kills,¬C id) :
  HR G (fun b=>F b∨(∃ id∈kills,ι id=some b)∨(w.heap.size≤b∧b<w'.heap.size)) w' ι (fun id=>C id∨id∈kills) K ∧
  Step F w ι (fun b=>F b∨(∃ id∈kills,ι id=some b)∨(w.heap.size≤b∧b<w'.heap.size)) w' ι:=by
 have hs:Step F w ι (fun b=>F b∨(∃ id∈kills,ι id=some b)∨(w.heap.size≤b∧b<w'.heap.size)) w' ι :=
  ⟨fun _ h=>.inl h,fun b h=>hb.block b (hR.F_lt b h),fun _ _ h=>h,fun id b cur e hi h=>⟨cur,(hb.block b (hR.ι_lt hi)).trans h,rfl⟩⟩
 have hsz:=hb.size
 have hW:G.W.heap.size≤w.heap.size:=hR.kept.size
 refine⟨⟨hR.kept.trans (.below hb hW),?_,?_,?_,?_,?_,?_⟩,hs⟩
 ·rintro b (h|⟨id,_,h⟩|h)
  ·have:=hR.F_lt b h;omega
  ·have:=hR.ι_lt h;omega
  ·exact h.2
 ·rintro b (h|⟨id,_,h⟩|h)
  ·exact hR.F_ok b h
  ·exact .inr (hR.place id b h).1
  ·exact .inr (.inr (by omega))
 ·intro id b h
  obtain⟨h1,h2,h3⟩:=hR.place id b h
  refine⟨h1,by omega,fun hc hF=>?_⟩
  rcases hF with hF|⟨id',hi,hF⟩|hF
  ·exact h3 (fun x=>hc (.inl x)) hF
  ·exact hc (.inr ((hR.inj id id' b h hF (fun x=>hc (.inl x)) (hk id' hi)) ▸ hi))
  ·omega
 ·intro id b o h ho
  obtain⟨ob,h2,h3⟩:=hR.obj id b o h ho
  exact⟨ob,(hb.block b (hR.ι_lt h)).trans h2,h3.step hs⟩
 ·exact fun id id' b h h' hc hc'=>hR.inj id id' b h h' (fun x=>hc (.inl x)) fun x=>hc' (.inl x)
 ·exact fun id id' b o o' h h' hc=>hR.len id id' b o o' h h' fun x=>hc (.inl x)
variable [M:Mch P] {Γ:Nat→AV} {o:Oper}
theorem mD(hR:HR G F w ι C K)(hHK:∀ id o,H id=some o→K id=some o){args:List Operand}{a:Act}{ds:List D}(hf:cI H (args.map (oev Γ))=some ds)
  (hop:∀ x∈args,V F w ι (oev Γ x) (a.eval x)):ds.length=(args.map a.eval).toArray.size ∧
   (∀(k:Nat) d v,ds[k]? = some d→(args.map a.eval).toArray[k]? = some v→VD (reach F ι (bT H (args.map (oev Γ)))) w d v)∧∀ id∈bT H (args.map (oev Γ)),∃ b,ι id=some b:=by
 obtain⟨h1,h2⟩:=fN _ _ _ hf
 refine⟨by simpa using h1,fun k d v hk hv=>?_,fun id hid=>?_⟩
 ·obtain⟨c,hc,hd⟩:=h2 k d hk
  have hmem:=Ai hc
  simp only[Ag,Cb]at hc hv
  cases hx:args[k]? with
  |none=>simp[hx]at hc
  | some x =>
   simp only[hx,AQ,At]at hc hv
   subst hc;subst hv
   exact(tU hR hHK _ _ _ _ hd (hop x (Ai hx))).1.mono (jI fun id hid=>Bz.2 ⟨_,hmem,hid⟩)
 ·obtain⟨c,hc,hid⟩:=Bz.1 hid
  obtain⟨k,hk,hck⟩:=BC.1 hc
  have hk2:k<ds.length:=by omega
  obtain⟨c',hc',hd⟩:=h2 k _ (Ab hk2)
  rw[Ab hk]at hc';injection hc' with hc'
  rw[←hc',hck]at hd
  rw[List.getElem_map]at hck
  rw[←hck]at hd hid
  exact(tU hR hHK _ _ _ _ hd (hop _ (List.getElem_mem _))).2 id hid
def aX(H:Hp)(args:List AV)(r:D):List Nat:=if flat r then[]else bT H args
theorem bRv{f:FuncId}{args:Array Operand}{ts:Array TypeId}{ds:List D}{r:D}(ho:o.op=.call { callee:=.value (.func f),args:=args,argTypes:=ts })
  (hHK:∀ id ob,H id=some ob→K id=some ob) (hargs:cI H (args.toList.map (oev Γ))=some ds) (hs:Spec P f ds r) (hk:∀ id∈aX H (args.toList.map (oev Γ)) r,¬C id) :
  Y P G o Γ C K K (inj r) aW (fun i=>i∈aX H (args.toList.map (oev Γ)) r):=by
 intro F w ι a hok hR hop _ next hnext
 have hop':∀ x∈args.toList,V F w ι (oev Γ x) (a.eval x):=fun x hx=>cE fun t e=>hop t (by rw[ho];subst e;simp[Aw,Bc];simpa using hx)
 have hmap:args.map a.eval=(args.toList.map a.eval).toArray:=by cases args;simp
 obtain⟨hl,hV,_⟩:=mD hR hHK hargs hop'
 rw[←hmap]at hl hV
 obtain⟨hent,hcalls⟩:=hs (reach F ι (bT H (args.toList.map (oev Γ)))) w (args.map a.eval) (by
  rintro b (h|⟨id,_,h⟩)
  ·exact hR.F_lt b h
  ·exact hR.ι_lt h) hl hV
 unfold wpX
 have hfe:a.eval (.func f)=.func (.func f) #[] #[]:=rfl
 simp only[execOp,ho,resolve,invoke,Sem.run_bind,hfe,Cq,Sem.run_pure,AH,Ca,Cw,hent,iM]
 refine hcalls.mono ?_
 rintro v w' ⟨hb,hv⟩
 obtain⟨hR',hst⟩:=hR.call hb (aX H (args.toList.map (oev Γ)) r) hk
 refine hnext _ w' ι v hR' hst (fun _ _ h=>.inl h) (fun _ h=>h.elim) (aAy ?_)
 by_cases hf:flat r=true
 ·exact aGd hf hv
 ·refine hv.mono fun b hb'=>?_
  rcases hb' with (h|⟨id,h,hx⟩)|h
  ·exact .inl h
  ·exact .inr (.inl ⟨id,by simpa[aX,hf]using h,hx⟩)
  ·exact .inr (.inr h)
theorem aWx{args:Array Operand}{ds:List D}{r:D}{a:Act}(hR:HR G F w ι C K)(hHK:∀ id ob,H id=some ob→K id=some ob)(hargs:cI H (args.toList.map (oev Γ))=some ds)
  (hop:∀ x∈args.toList,V F w ι (oev Γ x) (a.eval x)):∀ id∈aX H (args.toList.map (oev Γ)) r,∃ b,ι id=some b:=by
 intro id hid
 unfold aX at hid
 split at hid
 ·cases hid
 ·exact(mD hR hHK hargs hop).2.2 id hid
def dM:AV→Option (FuncId×List AV)
 |.fn f cs=>some (f,cs)
 |.d (.fn f cs)=>some (f,cs.map aL)
 |.d (.lit (.func (.func f) fst cs))=>if fst.isEmpty&&cs.isEmpty then some (f,[])else none
 |_=>none
theorem aDq{x:AV}{v:Value}{f:FuncId}{cs:List AV}(h:dM x=some (f,cs))(hv:V F w ι x v) :
  ∃ vs,v=.func (.func f) #[] vs∧cs.length=vs.size∧∀(k:Nat) c u,cs[k]? = some c→vs[k]? = some u→V F w ι c u:=by
 unfold dM at h
 split at h
 ·injection h with h;injection h with h1 h2;subst h1;subst h2
  cases hv with|fn _ _ vs hl hh=>exact⟨vs,rfl,hl,hh⟩
 ·injection h with h;injection h with h1 h2;subst h1;subst h2
  cases hv with|d _ _ hh=>cases hh with|fn _ _ vs hl hh =>
  refine⟨vs,rfl,by simpa using hl,fun k c u hc hu=>?_⟩
  rw[Ag]at hc
  obtain⟨d,hd,rfl⟩:=Af.1 hc
  exact mF (hh k d u hd hu)
 ·split at h
  ·rename_i g fst cs' he
   injection h with h;injection h with h1 h2;subst h1;subst h2
   simp only[AR,Array.isEmpty_iff]at he
   obtain⟨rfl,rfl⟩:=he
   cases hv with|d _ _ hh =>
   cases hh with|lit _=>exact⟨#[],rfl,rfl,fun k c u hc=>by simp at hc⟩
  ·cases h
 ·cases h
theorem lS(hR:HR G F w ι C K)(hHK:∀ id o,H id=some o→K id=some o){avs:List AV}{vs:List Value}{ds:List D}(hf:cI H avs=some ds)(hlen:avs.length=vs.length)
  (hV:∀(k:Nat) c u,avs[k]? = some c→vs[k]? = some u→V F w ι c u):ds.length=vs.length ∧
   (∀(k:Nat) d v,ds[k]? = some d→vs[k]? = some v→VD (reach F ι (bT H avs)) w d v)∧∀ id∈bT H avs,∃ b,ι id=some b:=by
 obtain⟨h1,h2⟩:=fN _ _ _ hf
 refine⟨by omega,fun k d v hk hv=>?_,fun id hid=>?_⟩
 ·obtain⟨c,hc,hd⟩:=h2 k d hk
  exact(tU hR hHK _ _ _ _ hd (hV k c v hc hv)).1.mono (jI fun id hid=>Bz.2 ⟨_,Ai hc,hid⟩)
 ·obtain⟨c,hc,hid⟩:=Bz.1 hid
  obtain⟨k,hk,hck⟩:=BC.1 hc
  have hk2:k<ds.length:=by omega
  have hk3:k<vs.length:=by omega
  obtain⟨c',hc',hd⟩:=h2 k _ (Ab hk2)
  have hce:c'=c:=by rw[Ab hk]at hc';injection hc' with hc';rw[←hc',hck]
  subst hce
  exact(tU hR hHK _ _ _ _ hd (hV k _ _ hc' (Ab hk3))).2 id hid
theorem aAn{x:Operand}{args:Array Operand}{f:FuncId}{cs:List AV}{a:Act}(hx:dM (oev Γ x)=some (f,cs))(hvx:V F w ι (oev Γ x) (a.eval x))(hop:∀ y∈args.toList,V F w ι (oev Γ y) (a.eval y)) :
  ∃ vs:Array Value,a.eval x=.func (.func f) #[] vs∧(args.toList.map (oev Γ)++cs).length=(args.map a.eval++vs).toList.length ∧
   ∀(k:Nat) c u,(args.toList.map (oev Γ)++cs)[k]? = some c→(args.map a.eval++vs).toList[k]? = some u→V F w ι c u:=by
 obtain⟨vs,h1,h2,h3⟩:=aDq hx hvx
 refine⟨vs,h1,by simp[h2],fun k c u hc hu=>?_⟩
 rw[FW,Fx]at hu
 by_cases hk:k<args.toList.length
 ·rw[AP (by simpa using hk)]at hc hu
  rw[Ag]at hc hu
  cases hy:args.toList[k]? with
  |none=>rw[hy]at hc;cases hc
  | some y =>
   rw[hy]at hc hu
   injection hc with hc;injection hu with hu
   subst hc;subst hu
   exact hop y (Ai hy)
 ·rw[AM (by simpa using hk)]at hc hu
  rw[BF]at hc hu
  exact h3 _ _ _ hc (by simpa using hu)
theorem bIq{x:Operand}{f:FuncId}{args:Array Operand}{ts:Array TypeId}{ds:List D}{r:D}{cs:List AV}(ho:o.op=.call { callee:=.value x,args:=args,argTypes:=ts })
  (hHK:∀ id ob,H id=some ob→K id=some ob) (hx:dM (oev Γ x)=some (f,cs)) (hargs:cI H (args.toList.map (oev Γ)++cs)=some ds) (hs:Spec P f ds r) (hk:∀ id∈aX H (args.toList.map (oev Γ)++cs) r,¬C id) :
  Y P G o Γ C K K (inj r) aW (fun i=>i∈aX H (args.toList.map (oev Γ)++cs) r):=by
 intro F w ι a hok hR hop _ next hnext
 have hop':∀ y∈args.toList,V F w ι (oev Γ y) (a.eval y):=fun y hy=>cE fun t e=>hop t (by rw[ho];subst e;simp[Aw,Bc];right;simpa using hy)
 have hvx:V F w ι (oev Γ x) (a.eval x):=cE fun t e=>hop t (by rw[ho];subst e;simp[Aw,Bc])
 obtain⟨vs,hev,hlen,hVV⟩:=aAn hx hvx hop'
 obtain⟨hl,hV,_⟩:=lS hR hHK hargs hlen hVV
 obtain⟨hent,hcalls⟩:=hs (reach F ι (bT H (args.toList.map (oev Γ)++cs))) w (args.map a.eval++vs) (by
  rintro b (h|⟨id,_,h⟩)
  ·exact hR.F_lt b h
  ·exact hR.ι_lt h) (by simpa using hl) (fun k d v hk hv=>hV k d v hk (by rw[Bh];exact hv))
 unfold wpX
 simp only[execOp,ho,resolve,invoke,Sem.run_bind,hev,Cq,Sem.run_pure,AH,Ca,hent,iM]
 refine hcalls.mono ?_
 rintro v w' ⟨hb,hv⟩
 obtain⟨hR',hst⟩:=hR.call hb (aX H (args.toList.map (oev Γ)++cs) r) hk
 refine hnext _ w' ι v hR' hst (fun _ _ h=>.inl h) (fun _ h=>h.elim) (aAy ?_)
 by_cases hf:flat r=true
 ·exact aGd hf hv
 ·refine hv.mono fun b hb'=>?_
  rcases hb' with (h|⟨id,h,hx⟩)|h
  ·exact .inl h
  ·exact .inr (.inl ⟨id,by simpa[aX,hf]using h,hx⟩)
  ·exact .inr (.inr h)
theorem aPl{x:Operand}{f:FuncId}{cs:List AV}{args:Array Operand}{ds:List D}{r:D}{a:Act}(hR:HR G F w ι C K)(hHK:∀ id ob,H id=some ob→K id=some ob)(hx:dM (oev Γ x)=some (f,cs))
  (hargs:cI H (args.toList.map (oev Γ)++cs)=some ds) (hvx:V F w ι (oev Γ x) (a.eval x)) (hop:∀ x∈args.toList,V F w ι (oev Γ x) (a.eval x)):∀ id∈aX H (args.toList.map (oev Γ)++cs) r,∃ b,ι id=some b:=by
 intro id hid
 obtain⟨vs,hev,hlen,hVV⟩:=aAn hx hvx hop
 unfold aX at hid
 split at hid
 ·cases hid
 ·exact(lS hR hHK hargs hlen hVV).2.2 id hid
/-! A call of a method through an interface -/
theorem tQ{args:Array Operand}{a:Act}{d:D}{v:Value}(hv:VD F w d v)(hop:∀ y∈args.toList,V F w ι (oev Γ y) (a.eval y)) :
  (AV.d d::args.toList.map (oev Γ)).length=(#[v]++args.map a.eval).toList.length ∧
   ∀(k:Nat) c u,(AV.d d::args.toList.map (oev Γ))[k]? = some c→(#[v]++args.map a.eval).toList[k]? = some u→V F w ι c u:=by
 refine⟨by simp,fun k c u hc hu=>?_⟩
 rw[FW,Fx]at hu
 cases k with
 |zero=>simp at hc hu;subst hc;subst hu;exact .d _ _ hv
 | succ k =>
  simp only[List.getElem?_cons_succ,List.cons_append,List.nil_append,Ag]at hc hu
  cases hy:args.toList[k]? with
  |none=>rw[hy]at hc;cases hc
  | some y =>
   rw[hy]at hc hu
   injection hc with hc;injection hu with hu
   subst hc;subst hu
   exact hop y (Ai hy)
theorem bNu(v:Value)(l:Array Value):(#[v]++l)[0]? = some v∧(#[v]++l).extract 1 (#[v]++l).size=l:=by
 refine⟨?_,?_⟩
 ·rw[Array.getElem?_append];simp
 ·apply Array.ext';simp
theorem bRg{x:AV}{t:TypeId}{d:D}{v:Value}(hx:x=.d (.iff t d))(hv:V F w ι x v):∃ u,v=.iface t u∧VD F w d u:=by
 subst hx;cases hv with|d _ _ hh=>cases hh with|iff _ _ u h=>exact⟨u,rfl,h⟩
theorem aXs{x:Operand}{name:String}{ty:TypeId}{d:D}{f:FuncId}{args:Array Operand}{ts:Array TypeId}{ds:List D}{r:D}(ho:o.op=.call { callee:=.invoke x name,args:=args,argTypes:=ts })
  (hHK:∀ id ob,H id=some ob→K id=some ob) (hx:oev Γ x=.d (.iff ty d)) (hm:aJo P ty name=some f) (hargs:cI H (.d d::args.toList.map (oev Γ))=some ds) (hs:Spec P f ds r) (hk:∀ id∈aX H (.d d::args.toList.map (oev Γ)) r,¬C id) :
  Y P G o Γ C K K (inj r) aW (fun i=>i∈aX H (.d d::args.toList.map (oev Γ)) r):=by
 intro F w ι a hok hR hop _ next hnext
 have hop':∀ y∈args.toList,V F w ι (oev Γ y) (a.eval y):=fun y hy=>cE fun t e=>hop t (by rw[ho];subst e;simp[Aw,Bc];right;simpa using hy)
 have hvx:V F w ι (oev Γ x) (a.eval x):=cE fun t e=>hop t (by rw[ho];subst e;simp[Aw,Bc])
 obtain⟨u,hev,hud⟩:=bRg hx hvx
 obtain⟨hlen,hVV⟩:=tQ hud hop'
 obtain⟨hl,hV,_⟩:=lS hR hHK hargs hlen hVV
 obtain⟨hent,hcalls⟩:=hs (reach F ι (bT H (.d d::args.toList.map (oev Γ)))) w (#[u]++args.map a.eval) (by
  rintro b (h|⟨id,_,h⟩)
  ·exact hR.F_lt b h
  ·exact hR.ι_lt h) (by rw[hl,BA]) (fun k d v hk hv=>hV k d v hk (by rw[Bh];exact hv))
 unfold wpX
 have hinv:aH P (invoke (.fn (.method name) #[]) (#[a.eval x]++args.map a.eval)) w=aH P (callFunc f (#[u]++args.map a.eval)) w:=by
  have e:=bNu (.iface ty u) (args.map a.eval)
  rw[hev,←bAo hm]
  simp only[invoke,e.1,e.2]
 simp only[execOp,ho,resolve,Sem.run_bind,Sem.run_pure,AH,hinv,hent,iM]
 refine hcalls.mono ?_
 rintro v w' ⟨hb,hv⟩
 obtain⟨hR',hst⟩:=hR.call hb (aX H (.d d::args.toList.map (oev Γ)) r) hk
 refine hnext _ w' ι v hR' hst (fun _ _ h=>.inl h) (fun _ h=>h.elim) (aAy ?_)
 by_cases hf:flat r=true
 ·exact aGd hf hv
 ·refine hv.mono fun b hb'=>?_
  rcases hb' with (h|⟨id,h,hx⟩)|h
  ·exact .inl h
  ·exact .inr (.inl ⟨id,by simpa[aX,hf]using h,hx⟩)
  ·exact .inr (.inr h)
theorem bDu{x:Operand}{ty:TypeId}{d:D}{args:Array Operand}{ds:List D}{r:D}{a:Act}(hR:HR G F w ι C K)(hHK:∀ id ob,H id=some ob→K id=some ob)(hx:oev Γ x=.d (.iff ty d))
  (hargs:cI H (.d d::args.toList.map (oev Γ))=some ds) (hvx:V F w ι (oev Γ x) (a.eval x)) (hop:∀ x∈args.toList,V F w ι (oev Γ x) (a.eval x)):∀ id∈aX H (.d d::args.toList.map (oev Γ)) r,∃ b,ι id=some b:=by
 intro id hid
 obtain⟨u,hev,hud⟩:=bRg hx hvx
 obtain⟨hlen,hVV⟩:=tQ hud hop
 unfold aX at hid
 split at hid
 ·cases hid
 ·exact(lS hR hHK hargs hlen hVV).2.2 id hid
/-! A call of a function value with a first argument (a method of a value) -/
theorem bYd{x:AV}{g:FuncId}{d:D}{v:Value}(hx:x=.d (.fm g d))(hv:V F w ι x v):∃ u,v=.func (.func g) #[u] #[]∧VD F w d u:=by
 subst hx;cases hv with|d _ _ hh=>cases hh with|fm _ _ u h=>exact⟨u,rfl,h⟩
theorem bIr{x:Operand}{d:D}{f:FuncId}{args:Array Operand}{ts:Array TypeId}{ds:List D}{r:D}(ho:o.op=.call { callee:=.value x,args:=args,argTypes:=ts })
  (hHK:∀ id ob,H id=some ob→K id=some ob) (hx:oev Γ x=.d (.fm f d)) (hargs:cI H (.d d::args.toList.map (oev Γ))=some ds) (hs:Spec P f ds r) (hk:∀ id∈aX H (.d d::args.toList.map (oev Γ)) r,¬C id) :
  Y P G o Γ C K K (inj r) aW (fun i=>i∈aX H (.d d::args.toList.map (oev Γ)) r):=by
 intro F w ι a hok hR hop _ next hnext
 have hop':∀ y∈args.toList,V F w ι (oev Γ y) (a.eval y):=fun y hy=>cE fun t e=>hop t (by rw[ho];subst e;simp[Aw,Bc];right;simpa using hy)
 have hvx:V F w ι (oev Γ x) (a.eval x):=cE fun t e=>hop t (by rw[ho];subst e;simp[Aw,Bc])
 obtain⟨u,hev,hud⟩:=bYd hx hvx
 obtain⟨hlen,hVV⟩:=tQ hud hop'
 obtain⟨hl,hV,_⟩:=lS hR hHK hargs hlen hVV
 obtain⟨hent,hcalls⟩:=hs (reach F ι (bT H (.d d::args.toList.map (oev Γ)))) w (#[u]++args.map a.eval) (by
  rintro b (h|⟨id,_,h⟩)
  ·exact hR.F_lt b h
  ·exact hR.ι_lt h) (by rw[hl,BA]) (fun k d v hk hv=>hV k d v hk (by rw[Bh];exact hv))
 unfold wpX
 simp only[execOp,ho,resolve,invoke,Sem.run_bind,hev,Cq,Sem.run_pure,AH,Cw,hent,iM]
 refine hcalls.mono ?_
 rintro v w' ⟨hb,hv⟩
 obtain⟨hR',hst⟩:=hR.call hb (aX H (.d d::args.toList.map (oev Γ)) r) hk
 refine hnext _ w' ι v hR' hst (fun _ _ h=>.inl h) (fun _ h=>h.elim) (aAy ?_)
 by_cases hf:flat r=true
 ·exact aGd hf hv
 ·refine hv.mono fun b hb'=>?_
  rcases hb' with (h|⟨id,h,hx⟩)|h
  ·exact .inl h
  ·exact .inr (.inl ⟨id,by simpa[aX,hf]using h,hx⟩)
  ·exact .inr (.inr h)
theorem aPm{x:Operand}{f:FuncId}{d:D}{args:Array Operand}{ds:List D}{r:D}{a:Act}(hR:HR G F w ι C K)(hHK:∀ id ob,H id=some ob→K id=some ob)(hx:oev Γ x=.d (.fm f d))
  (hargs:cI H (.d d::args.toList.map (oev Γ))=some ds) (hvx:V F w ι (oev Γ x) (a.eval x)) (hop:∀ x∈args.toList,V F w ι (oev Γ x) (a.eval x)):∀ id∈aX H (.d d::args.toList.map (oev Γ)) r,∃ b,ι id=some b:=by
 intro id hid
 obtain⟨u,hev,hud⟩:=bYd hx hvx
 obtain⟨hlen,hVV⟩:=tQ hud hop
 unfold aX at hid
 split at hid
 ·cases hid
 ·exact(lS hR hHK hargs hlen hVV).2.2 id hid
def nB(P:Program)(H:Hp)(t:TypeId)(ad x:AV):Option (Nat×HO) :=
 match ad with
 | .ptr id off=>match H id with
  |some (.cells e cs)=>(dF x).bind fun vs=>(tsz P t).bind fun sz=>if vs.length=sz∧off+sz≤cs.length then some (id,.cells e (lay cs off vs))else none
  |_=>none
 |_=>none
theorem bIm{t:TypeId}{ad x:Operand}{id:Nat}{ho:HO}{K':Hp}(hop_:o.op=.store t ad x)(hHK:∀ id ob,H id=some ob→K id=some ob)
  (h:nB P H t (oev Γ ad) (oev Γ x)=some (id,ho)) (hC:¬C id) (hK':K' id=some ho) (hsub:∀ j o,j≠id→K' j=some o→K j=some o∧¬C j) :
  Y P G o Γ C K K' .un aW aW:=by
 intro F w ι a hok hR hop _ next hnext
 have oa:V F w ι (oev Γ ad) (a.eval ad):=cE fun t e=>hop t (by rw[hop_];simp[Aw,e])
 have ox:V F w ι (oev Γ x) (a.eval x):=cE fun t e=>hop t (by rw[hop_];simp[Aw,e])
 unfold nB at h
 split at h
 case h_2=>cases h
 rename_i id' off hadd
 split at h
 case h_2=>cases h
 rename_i e cs hH
 obtain⟨vs,hvs,h⟩:=Ad.1 h
 obtain⟨sz,hsz,h⟩:=Ad.1 h
 split at h
 case isFalse=>cases h
 rename_i hc
 obtain⟨hvl,hfit⟩:=hc
 injection h with h;injection h with h1 h2;subst h1;subst h2
 rw[hadd]at oa
 generalize hav:a.eval ad=av at oa
 cases oa with|ptr _ _ b hι =>
 have hcv:=aAm hvs ox
 obtain⟨cur,hb,hl,hcc⟩:=hR.cells hHK hι hH
 have hus:(a.eval x).cells.toList.length=sz:=by have:=hcv.1;simp;omega
 have hrun:aH P (storeCells ⟨b,off,none⟩ (a.eval x).cells.toList 0) w=_:=run_storeCells_at (P:=P) b off e (a.eval x).cells.toList 0 cur w hb (by omega) (fun v hv=>hcv.2.2 v (by simpa using hv))
 simp only[Nat.add_zero]at hrun
 have hset:=setRow_heap w b cur (cur.toList.take off++(a.eval x).cells.toList++cur.toList.drop (off+(a.eval x).cells.toList.length)).toArray e (0,0) hb
 have hnF:¬F b:=(hR.place id' b hι).2.2 hC
 have hoth:∀ k,k≠b→(w.setRow b (cur.toList.take off++(a.eval x).cells.toList++cur.toList.drop (off+(a.eval x).cells.toList.length)).toArray).heap[k]? = w.heap[k]? := fun k hk=>setRow_other w b k _ hk
 have hsize:(cur.toList.take off++(a.eval x).cells.toList++cur.toList.drop (off+(a.eval x).cells.toList.length)).toArray.size=cur.size:=by
  have:(a.eval x).cells.size=sz:=by simpa using hus
  simp only[List.size_toArray,A8,Be,Ek,BA];omega
 have hlen2:(cur.toList.take off++(a.eval x).cells.toList).length=off+sz:=by
  rw[A8,hus,Be,BA];omega
 generalize hcur':(cur.toList.take off++(a.eval x).cells.toList++cur.toList.drop (off+(a.eval x).cells.toList.length)).toArray=cur' at *
 have hst:Step F w ι F (w.setRow b cur') ι:=by
  refine⟨fun _ h=>h,fun k hk=>hoth k (fun e=>hnF (e ▸ hk)),fun _ _ h=>h,fun i k c0 e0 hi hk=>?_⟩
  by_cases hkb:k=b
  ·subst hkb
   rw[hb]at hk;injection hk with hk;injection hk with h1 h2;subst h1;subst h2
   exact⟨cur',hset,hsize⟩
  ·exact⟨c0,(hoth k hkb).trans hk,rfl⟩
 unfold wpX
 have hne:¬((a.eval x).cells.size≠sz):=by have:=hcv.1;omega
 simp only[execOp,hop_,Sem.run_bind,Instr.storeAt,hav,Instr.sureAddr,Sem.run_pure,AH,storeVar,run_sizeOf w hsz,hne,if_false,hrun,Oper.upon_skip]
 refine hnext F _ ι undef ?_ hst (fun _ _ h=>.inl h) (fun _ h=>h.elim) .un
 refine HR.congrC (C:=C) ⟨hR.kept.trans ⟨rfl,rfl,rfl,by simp,fun k hk hm=>hoth k fun e=>?_,fun k c0 e0 _ hk=>by
   by_cases hkb:k=b
   ·subst hkb
    rw[hb]at hk;injection hk with hk;injection hk with h1 h2;subst h1;subst h2
    exact⟨cur',hset,hsize⟩
   ·exact⟨c0,(hoth k hkb).trans hk,rfl⟩⟩,fun k hk=>by rw[size_setRow];exact hR.F_lt k hk,hR.F_ok,fun i k hi=>?_,?_,hR.inj,?_⟩ (fun id=>by simp[aW])
 ·subst e
  rcases(hR.place id' k hι).1 with h|h
  ·exact hm h
  ·omega
 ·rw[size_setRow];exact hR.place i k hi
 ·intro i k o' hi ho'
  by_cases hid:i=id'
  ·subst hid
   rw[hι]at hi;injection hi with hi;subst hi
   rw[hK']at ho';injection ho' with ho';subst ho'
   refine⟨_,hset,.cells _ _ _ (by rw[nK (by omega),hsize];exact hl) fun j c hj=>?_⟩
   rw[xR (by omega)]at hj
   split at hj
   ·rename_i hjj
    obtain⟨u,hu,hv⟩:=hcv.get hj
    refine⟨u,?_,hv.step hst⟩
    rw[←hcur',Cb,AP (by simp;omega),AM (by simp;omega),Be,BA,Nat.min_eq_left (by omega),Bh]
    exact hu
   ·rename_i hjj
    obtain⟨u,hu,hv⟩:=hcc j c hj
    have hjl:j<cs.length:=(Ao.1 hj).1
    refine⟨u,?_,hv.step hst⟩
    rw[←hcur',Cb]
    by_cases hjo:j<off
    ·rw[List.append_assoc,AP (by simp;omega),Bv,Ap hjo,Bh];exact hu
    ·rw[AM (by omega),hlen2,BB,Bh,hus]
     rw[←hu];congr 1;omega
  ·obtain⟨hk1,hk2⟩:=hsub i o' hid ho'
   obtain⟨ob,h2,h3⟩:=hR.obj i k o' hi hk1
   refine⟨ob,(hoth k fun e=>?_).trans h2,h3.step hst⟩
   subst e
   exact hid (hR.inj i id' k hi hι hk2 hC)
 ·intro i i' k o1 o2 hi hi' hc h1 h2
  have hlay:(HO.cells e (lay cs off vs)).len=(HO.cells e cs).len:=by simp only[HO.len];exact nK (by omega)
  have hk1:∃ q1,K i=some q1∧q1.len=o1.len:=by
   by_cases hid:i=id'
   ·subst hid;rw[hK']at h1;injection h1 with h1;subst h1;exact⟨_,hHK _ _ hH,hlay.symm⟩
   ·exact⟨o1,(hsub i o1 hid h1).1,rfl⟩
  have hk2:∃ q2,K i'=some q2∧q2.len=o2.len:=by
   by_cases hid:i'=id'
   ·subst hid;rw[hK']at h2;injection h2 with h2;subst h2;exact⟨_,hHK _ _ hH,hlay.symm⟩
   ·exact⟨o2,(hsub i' o2 hid h2).1,rfl⟩
  obtain⟨q1,e1,l1⟩:=hk1
  obtain⟨q2,e2,l2⟩:=hk2
  rw[←l1,←l2]
  exact hR.len i i' k q1 q2 hi hi' hc e1 e2
end
end Go.Am
end
section
open List renaming map_map→ζ,mapM_map→ξ
namespace Go.Am
open RowKit (Below)
def eL(n:Int):List (Int×AV)→Option Nat
 |[]=>none
 |x::es=>if x.1=n then some 0 else(eL n es).map (·+1)
def aRk(es:List (Int×AV))(n:Int):Option AV:=(eL n es).bind fun j=>(es[j]?).map (·.2)
def aJm(es:List (Int×AV))(n:Int)(v:AV):List (Int×AV):=match eL n es with|some j=>es.set j (n,v)|none=>es++[(n,v)]
def aVi(es:List (Int×AV))(n:Int):List (Int×AV):=match eL n es with|some j=>es.eraseIdx j|none=>es
section
variable {P:Program} {F:Nat→Prop} {w:World} {ι:Nat→Option Nat} {G:Ctx} {C:Nat→Prop} {H K:Hp}
theorem pN{k:IntKind}{n:Int}:∀(es:List (Int×AV)) (l:List MapEntry) (i:Nat),es.length=l.length→(∀(j:Nat) x,es[j]? = some x→∃ en,l[j]? = some en∧en.key=.int k x.1) →
  Gw (.int k) (.int k n) l i=some ((eL n es).bind fun j=>(l[j]?).map fun en=>(i+j,en.val))
 |[],[],i,_,_=>rfl
 | x::es,e::l,i,hl,h=>by
  obtain⟨en,h1,h2⟩:=h 0 x rfl
  simp only[BP,At]at h1;subst h1
  have ih:=pN (k:=k) (n:=n) es l (i+1) (by simpa using hl) fun j y hy=>h (j+1) y (by simpa using hy)
  unfold Gw eL
  rw[h2]
  by_cases hx:x.1=n
  ·simp[Instr.sameNow,hx]
  ·have hne:(n==x.1)=false:=by simp;exact fun e=>hx e.symm
   simp only[Instr.sameNow,AF,hne,Ah hx,ih]
   cases eL n es with
   |none=>rfl
   |some j=>simp[DW,Ey 1 j]
theorem mN{n:Int}:∀{es:List (Int×AV)} {j:Nat},eL n es=some j→∃ v,es[j]? = some (n,v)
 | x::es,j,h=>by
  unfold eL at h
  split at h
  ·rename_i hx;injection h with h;subst h;exact⟨x.2,by simp[←hx]⟩
  ·obtain⟨i,hi,rfl⟩:=Af.1 h
   obtain⟨v,hv⟩:=mN hi
   exact⟨v,by simpa using hv⟩
 |[],j,h=>by cases h
theorem zJ{n:Int}:∀{es:List (Int×AV)},eL n es=none→∀(j:Nat) x,es[j]? = some x→x.1≠n
 |[],_,j,x,h=>by simp at h
 | y::es,hn,j,x,h=>by
  unfold eL at hn
  split at hn
  ·cases hn
  ·rename_i hy
   have hn':=Option.map_eq_none_iff.1 hn
   rcases j with _|j
   ·simp at h;subst h;exact hy
   ·exact zJ hn' j x (by simpa using h)
theorem xI{t:TypeId}{p:TypeId×TypeId}(h:tmp P t=some p):P.underlying t=some (.map p.1 p.2):=by
 unfold tmp at h;split at h
 ·injection h with h;subst h;assumption
 ·cases h
theorem HR.mapOf(hR:HR G F w ι C K)(hHK:∀ id o,H id=some o→K id=some o){id b:Nat}(hι:ι id=some b){k:IntKind}{es:List (Int×AV)}(hH:H id=some (.map k es)) :
  ∃ ents clock,w.heap[b]? = some (.map ents clock)∧es.length=ents.size∧EC ents clock∧(∀(j:Nat) x,es[j]? = some x→∃ en,ents[j]? = some en∧en.key=.int k x.1∧V F w ι x.2 en.val):=by
 obtain⟨ob,h2,h3⟩:=hR.obj id b _ hι (hHK _ _ hH)
 cases h3 with|map _ _ ents clock hl hst h=>exact⟨ents,clock,h2,hl,hst,h⟩
theorem bDp{k:IntKind}{es:List (Int×AV)}{ents:Array MapEntry}(hl:es.length=ents.size)(h:∀(j:Nat) x,es[j]? = some x→∃ en,ents[j]? = some en∧en.key=.int k x.1∧V F w ι x.2 en.val) :
  ∀ x∈ents.toList,Eb (.int k) x.key:=by
 intro x hx
 obtain⟨j,hj,rfl⟩:=BC.1 hx
 have hj':j<es.length:=by simpa[hl]using hj
 obtain⟨en,h1,h2,_⟩:=h j _ (Ab hj')
 have hj2:j<ents.size:=by omega
 rw[Ak hj2]at h1
 injection h1 with h1
 simp only[Array.getElem_toList]
 rw[h1,h2];rfl
def wI(P:Program)(t:TypeId)(k:IntKind)(es:List (Int×AV))(x:AV)(ok:Bool):Option AV :=
 (tmp P t).bind fun p=>match x with
  | .d (.i k' n)=>if k'=k∧eQ P p.1=some k then
    match aRk es n with
    |some v=>some (if ok then .tp [v,.d (.b true)]else v)
    |none=>(tz P p.2).map fun z=>if ok then .tp [cv z,.d (.b false)]else cv z
   else none
  |_=>none
def bNz(ks:List Int)(ds:List D):List (Int×AV):=(ks.zip ds).map fun p=>(p.1,aL p.2)
def bRe(P:Program)(t:TypeId)(x:AV)(ok:Bool):Option AV :=
 (tmp P t).bind fun p=>match x with
  |.d (.i k _)=>if eQ P p.1=some k then(tz P p.2).map fun z=>if ok then .tp [cv z,.d (.b false)]else cv z else none
  |_=>none
def aDh(P:Program)(H:Hp)(t:TypeId)(m x:AV)(ok:Bool):Option AV :=
 match m with
 | .mp id=>match H id with
  |some (.map k es)=>wI P t k es x ok
  |_=>none
 |.d (.mp k ks ds)=>wI P t k (bNz ks ds) x ok
 |.d (.lit (.map none))=>bRe P t x ok
 |_=>none
theorem aRm{t:TypeId}{k:IntKind}{es:List (Int×AV)}{x r:AV}{ok:Bool}{v:Value}{b:Nat}{ents:Array MapEntry}{clock:Nat}(h:wI P t k es x ok=some r)(hb:w.heap[b]? = some (.map ents clock))(hl:es.length=ents.size)
  (hes:∀(j:Nat) x,es[j]? = some x→∃ en,ents[j]? = some en∧en.key=.int k x.1∧V F w ι x.2 en.val) (hx:V F w ι x v):∃ z,aH P (FZ t (.map (some b)) v ok) w=.ok z w∧V F w ι r z:=by
 unfold wI at h
 obtain⟨p,hp,hq⟩:=Ad.1 h
 clear h
 have h:=hq
 clear hq
 split at h
 case h_2=>cases h
 rename_i k' n
 split at h
 case isFalse=>cases h
 rename_i hk
 obtain⟨rfl,hk⟩:=hk
 cases hx with|d _ _ hx=>cases hx with|i =>
 have hu:=xI hp
 have hf:=pN (k:=k') (n:=n) es ents.toList 0 (by simpa using hl) fun j x hx=>let ⟨en,h1,h2,_⟩:=hes j x hx;⟨en,by simpa using h1,h2⟩
 have hki:P.underlying p.1=some (.int k'):=by
  unfold eQ at hk;split at hk
  ·injection hk with hk;subst hk;assumption
  ·cases hk
 have hck:=nD (P:=P) (w:=w) (k:=.int k' n) hki (by simp[Eb]) ents.isEmpty 9999
 have hfk:=oS (P:=P) (w:=w) hki hf
 split at h
 ·rename_i v hv
  injection h with h;subst h
  unfold aRk at hv
  obtain⟨j,hj,hv⟩:=Ad.1 hv
  obtain⟨y,hy,rfl⟩:=Af.1 hv
  obtain⟨en,h1,h2,h3⟩:=hes j y hy
  have h1':ents.toList[j]? = some en:=by simpa using h1
  rw[hj]at hfk
  simp only[El,h1',AQ,Ax]at hfk
  refine⟨if ok then .tuple #[en.val,.bool true]else en.val,?_,?_⟩
  ·cases ok<;>simp[FZ,aC hu,cO hb,hck,hfk]
  ·cases ok
   ·exact h3
   ·refine .tp _ _ (by simp) fun i c q hc hq=>?_
    rcases i with _|_|i
    ·simp at hc hq;subst hc;subst hq;exact h3
    ·simp at hc hq;subst hc;subst hq;exact .d _ _ (.b _)
    ·simp at hc
 ·rename_i hv
  obtain⟨z,hz,rfl⟩:=Af.1 h
  have hn:eL n es=none:=by
   cases hj:eL n es with
   |none=>rfl
   | some j =>
    obtain⟨y,hy⟩:=mN hj
    simp[aRk,hj,hy]at hv
  rw[hn]at hfk
  simp only[Option.bind_none]at hfk
  refine⟨if ok then .tuple #[z,.bool false]else z,?_,?_⟩
  ·cases ok<;>simp[FZ,aC hu,cO hb,hck,hfk,fB w hz]
  ·cases ok
   ·exact bHz z
   ·refine .tp _ _ (by simp) fun i c q hc hq=>?_
    rcases i with _|_|i
    ·simp at hc hq;subst hc;subst hq;exact bHz z
    ·simp at hc hq;subst hc;subst hq;exact .d _ _ (.b _)
    ·simp at hc
theorem bEa{k:IntKind}{ks:List Int}{ds:List D}{ents:Array MapEntry}(hk:∀(j:Nat) n,ks[j]? = some n→∃ en,ents[j]? = some en∧en.key=.int k n)
  (hv:∀(j:Nat) d en,ds[j]? = some d→ents[j]? = some en→VD F w d en.val):∀(j:Nat) x,(bNz ks ds)[j]? = some x→∃ en,ents[j]? = some en∧en.key=.int k x.1∧V F w ι x.2 en.val:=by
 intro j x hx
 unfold bNz at hx
 rw[Ag]at hx
 obtain⟨p,hp,rfl⟩:=Af.1 hx
 obtain⟨h1,h2⟩:=List.getElem?_zip_eq_some.1 hp
 obtain⟨en,h3,h4⟩:=hk j _ h1
 exact⟨en,h3,h4,mF (hv j _ en h2 h3)⟩
theorem bNk(hR:HR G F w ι C K)(hHK:∀ id o,H id=some o→K id=some o){t:TypeId}{m x r:AV}{ok:Bool}{u v:Value}(h:aDh P H t m x ok=some r)(hm:V F w ι m u)(hx:V F w ι x v) :
  ∃ z,aH P (FZ t u v ok) w=.ok z w∧V F w ι r z:=by
 unfold aDh at h
 split at h
 case h_4=>cases h
 ·rename_i id
  cases hm with|mp _ b hι =>
  split at h
  case h_2=>cases h
  rename_i k es hH
  obtain⟨ents,clock,hb,hl,hst,hes⟩:=hR.mapOf hHK hι hH
  exact aRm h hb hl hes hx
 ·rename_i k ks ds
  cases hm with|d _ _ hm=>cases hm with|mp _ _ _ b ents clock hF hb hst hl hl' hk hv =>
  exact aRm h hb (by simp[bNz];omega) (bEa hk hv) hx
 ·cases hm with|d _ _ hm=>cases hm with|lit =>
  unfold bRe at h
  obtain⟨p,hp,hq⟩:=Ad.1 h
  clear h
  have h:=hq
  clear hq
  split at h
  case h_2=>cases h
  rename_i k' n
  split at h
  case isFalse=>cases h
  rename_i hk
  cases hx with|d _ _ hx=>cases hx with|i =>
  have hu:=xI hp
  have hki:P.underlying p.1=some (.int k'):=by
   unfold eQ at hk;split at hk
   ·injection hk with hk;subst hk;assumption
   ·cases hk
  have hck:=nD (P:=P) (w:=w) (k:=.int k' n) hki (by simp[Eb]) true 9999
  have hfk:=oS (P:=P) (w:=w) hki (show Gw (.int k') (.int k' n) [] 0=some none from rfl)
  obtain⟨z,hz,rfl⟩:=Af.1 h
  refine⟨if ok then .tuple #[z,.bool false]else z,?_,?_⟩
  ·cases ok<;>simp[FZ,aC hu,hck,hfk,fB w hz]
  ·cases ok
   ·exact bHz z
   ·refine .tp _ _ (by simp) fun i c q hc hq=>?_
    rcases i with _|_|i
    ·simp at hc hq;subst hc;subst hq;exact bHz z
    ·simp at hc hq;subst hc;subst hq;exact .d _ _ (.b _)
    ·simp at hc
def aDc(H:Hp)(m:AV):Option Nat:=match m with
 | .mp id=>match H id with
  |some (.map _ es)=>some es.length
  |_=>none
 |_=>none
theorem bMz(hR:HR G F w ι C K)(hHK:∀ id o,H id=some o→K id=some o){t ty:TypeId}{m:AV}{u:Value}{n:Nat}(ht:(tmp P t).isSome=true)(h:aDc H m=some n)(hm:V F w ι m u) :
  aH P (FY #[t] ty #[u]) w=.ok (.int .i64 n) w:=by
 unfold aDc at h
 split at h
 case h_2=>cases h
 rename_i id
 split at h
 case h_2=>cases h
 rename_i k es hH
 injection h with h;subst h
 cases hm with|mp _ b hι =>
 obtain⟨ents,clock,hb,hl,_⟩:=hR.mapOf hHK hι hH
 obtain⟨p,hp⟩:=Ec.1 ht
 have hu:=xI hp
 simp[FY,aC hu,cO hb,hl,goInt]
def bVk(H:Hp)(x:AV):Option AV:=match x with
 | .ptr id 0=>match H id with
  |some (.iter k (some e) _)=>some (.tp [.d (.i k e.1),aL e.2])
  |_=>none
 |_=>none
theorem bVj(hR:HR G F w ι C K)(hHK:∀ id o,H id=some o→K id=some o){x r:AV}{u:Value}(h:bVk H x=some r)(hx:V F w ι x u):∃ z,aH P (Instr.entry u) w=.ok z w∧V F w ι r z:=by
 unfold bVk at h
 split at h
 case h_2=>cases h
 rename_i id
 cases hx with|ptr _ _ b hι =>
 split at h
 case h_2=>cases h
 rename_i k e es hH
 injection h with h;subst h
 obtain⟨ob,hb,hcr⟩:=hR.obj id b _ hι (hHK _ _ hH)
 cases hcr with|iter _ _ _ bm since c0 clock seen ents hF hbm hold hsc hn hl hh hla =>
 obtain⟨rfl,en,seen0,rfl,hen,hk,hv⟩:=hla e rfl
 refine⟨_,aEz w b bm since seen0 ents c0 en hb hbm hen hn,?_⟩
 refine .tp _ _ (by simp) fun i c q hc hq=>?_
 rcases i with _|_|i
 ·simp at hc hq;subst hc;subst hq;rw[hk];exact .d _ _ (.i _ _)
 ·simp at hc hq;subst hc;subst hq;exact mF hv
 ·simp at hc
theorem HR.write(hR:HR G F w ι C K){id b:Nat}{w':World}{ob ob':Obj}{old ho:HO}{K':Hp}(hC:¬C id)(hι:ι id=some b)(hold:K id=some old)(hlen:ho.len=old.len)
  (hk:Kept (·=b) w.heap.size w w') (hb:w.heap[b]? = some ob) (hb':w'.heap[b]? = some ob')
  (hshape:∀ cur e,ob=.cells cur e (0,0)→∃ cur',ob'=.cells cur' e (0,0)∧cur'.size=cur.size)
  (hcr:Step F w ι (fun k=>F k∨(w.heap.size≤k∧k<w'.heap.size)) w' ι→CR (fun k=>F k∨(w.heap.size≤k∧k<w'.heap.size)) w' ι ho ob')
  (hK':K' id=some ho) (hsub:∀ j o,j≠id→K' j=some o→K j=some o∧¬C j) :
  HR G (fun k=>F k∨(w.heap.size≤k∧k<w'.heap.size)) w' ι C K'∧Step F w ι (fun k=>F k∨(w.heap.size≤k∧k<w'.heap.size)) w' ι:=by
 have hnF:¬F b:=(hR.place id b hι).2.2 hC
 have hoth:∀ k,k<w.heap.size→k≠b→w'.heap[k]? = w.heap[k]? := fun k hk1 hk2=>hk.block k hk1 hk2
 have hst:Step F w ι (fun k=>F k∨(w.heap.size≤k∧k<w'.heap.size)) w' ι:=by
  refine⟨fun _ h=>.inl h,fun k hkF=>hoth k (hR.F_lt k hkF) (fun e=>hnF (e ▸ hkF)),fun _ _ h=>h,fun i k c0 e0 hi hk0=>?_⟩
  by_cases hkb:k=b
  ·subst hkb
   rw[hb]at hk0;injection hk0 with hk0
   obtain⟨cur',h1,h2⟩:=hshape c0 e0 hk0
   exact⟨cur',by rw[hb',h1],h2⟩
  ·exact⟨c0,(hoth k (hR.ι_lt hi) hkb).trans hk0,rfl⟩
 have hW:G.W.heap.size≤w.heap.size:=hR.kept.size
 have hsz:=hk.size
 refine⟨⟨hR.kept.trans ⟨hk.os,hk.tape,hk.output,hk.size,fun k hkW hm=>hoth k (by omega) fun e=>?_,fun k c0 e0 hkW hc=>hk.shape k c0 e0 (by omega) hc⟩,?_,?_,?_,?_,hR.inj,?_⟩,hst⟩
 ·subst e
  rcases(hR.place id k hι).1 with h|h
  ·exact hm h
  ·omega
 ·rintro k (h|h)
  ·have:=hR.F_lt k h;omega
  ·exact h.2
 ·rintro k (h|h)
  ·exact hR.F_ok k h
  ·exact .inr (.inr (by omega))
 ·intro i k hi
  obtain⟨p1,p2,p3⟩:=hR.place i k hi
  exact⟨p1,by omega,fun hc h=>h.elim (p3 hc) fun h=>by omega⟩
 ·intro i k o' hi ho'
  by_cases hid:i=id
  ·subst hid
   rw[hι]at hi;injection hi with hi;subst hi
   rw[hK']at ho';injection ho' with ho';subst ho'
   exact⟨ob',hb',hcr hst⟩
  ·obtain⟨hk1,hk2⟩:=hsub i o' hid ho'
   obtain⟨ob2,h2,h3⟩:=hR.obj i k o' hi hk1
   refine⟨ob2,(hoth k (hR.ι_lt hi) fun e=>?_).trans h2,h3.step hst⟩
   subst e
   exact hid (hR.inj i id k hi hι hk2 hC)
 ·intro i i' k o1 o2 hi hi' hc h1 h2
  have hk1:∃ q1,K i=some q1∧q1.len=o1.len:=by
   by_cases hid:i=id
   ·subst hid;rw[hK']at h1;injection h1 with h1;subst h1;exact⟨_,hold,hlen.symm⟩
   ·exact⟨o1,(hsub i o1 hid h1).1,rfl⟩
  have hk2:∃ q2,K i'=some q2∧q2.len=o2.len:=by
   by_cases hid:i'=id
   ·subst hid;rw[hK']at h2;injection h2 with h2;subst h2;exact⟨_,hold,hlen.symm⟩
   ·exact⟨o2,(hsub i' o2 hid h2).1,rfl⟩
  obtain⟨q1,e1,l1⟩:=hk1
  obtain⟨q2,e2,l2⟩:=hk2
  rw[←l1,←l2]
  exact hR.len i i' k q1 q2 hi hi' hc e1 e2
def pD(P:Program)(H:Hp)(t:TypeId)(m x:AV)(v:Option AV):Option (Nat×HO) :=
 match m with
 | .mp id=>match H id with
  | some (.map k es)=>(tmp P t).bind fun p=>match x with
   |.d (.i k' n)=>if k'=k∧eQ P p.1=some k then some (id,.map k (match v with|some v=>aJm es n v|none=>aVi es n))else none
   |_=>none
  |_=>none
 |_=>none
theorem bMy{F':Nat→Prop}{w':World}{k:IntKind}{n:Int}{v:AV}{u:Value}{es:List (Int×AV)}{ents:Array MapEntry}{clock:Nat}(hst:EC ents clock)(hl:es.length=ents.size)
  (hes:∀(j:Nat) x,es[j]? = some x→∃ en,ents[j]? = some en∧en.key=.int k x.1∧V F' w' ι x.2 en.val) (hv:V F' w' ι v u) :
  CR F' w' ι (.map k (aJm es n v)) (match eL n es with
   |some j=>.map (ents.modify j fun e=>{ e with key:=.int k n,val:=u }) clock
   |none=>.map (ents.push { key:=.int k n,val:=u,born:=clock }) (clock+1)):=by
 unfold aJm
 cases hj:eL n es with
 | some j =>
  obtain⟨v0,hj0⟩:=mN hj
  obtain⟨e0,q1,q2,_⟩:=hes j _ hj0
  have hjl:j<ents.size:=(AZ.1 q1).1
  refine .map _ _ _ _ (by simp[hl]) (MapKept.stamped_modify hst _ _ (fun _ _=>rfl) fun e' _ he'=>?_) fun i x hx=>?_
  ·rw[q1]at he';cases he';exact q2.symm
  ·simp only at hx
   rw[List.getElem?_set]at hx
   by_cases hij:j=i
   ·subst hij
    have:j<es.length:=by omega
    simp only[AF,this,At]at hx
    subst hx
    exact⟨{ e0 with key:=.int k n,val:=u },by simp[Fs,q1],rfl,hv⟩
   ·rw[Ah hij]at hx
    obtain⟨en,h1,h2,h3⟩:=hes i x hx
    exact⟨en,by simp[Fs,hij,h1],h2,h3⟩
 | none =>
  refine .map _ _ _ _ (by simp[hl]) (MapKept.stamped_push hst fun x hx=>?_) fun i x hx=>?_
  ·obtain⟨i,hi,rfl⟩:=BC.1 hx
   have hi':i<es.length:=by simpa[hl]using hi
   obtain⟨en,h1,h2,_⟩:=hes i _ (Ab hi')
   have hi2:i<ents.size:=by omega
   rw[Ak hi2]at h1;injection h1 with h1
   simp only[Array.getElem_toList]
   rw[h1,h2]
   intro he;injection he with _ he
   exact zJ hj i _ (Ab hi') he
  ·rw[List.getElem?_append]at hx
   split at hx
   ·rename_i hi
    obtain⟨en,h1,h2,h3⟩:=hes i x hx
    exact⟨en,by rw[Bm,Ah (by omega)];exact h1,h2,h3⟩
   ·rename_i hi
    have hi0:i=es.length:=by
     have:=(Ao.1 hx).1
     simp at this;omega
    subst hi0
    simp at hx;subst hx
    exact⟨_,by rw[Bm,Ap hl],rfl,hv⟩
theorem bNd{F':Nat→Prop}{w':World}{k:IntKind}{n:Int}{es:List (Int×AV)}{ents:Array MapEntry}{clock:Nat}(hst:EC ents clock)(hl:es.length=ents.size)
  (hes:∀(j:Nat) x,es[j]? = some x→∃ en,ents[j]? = some en∧en.key=.int k x.1∧V F' w' ι x.2 en.val) :
  CR F' w' ι (.map k (aVi es n)) (match eL n es with
   |some j=>.map (ents.eraseIdxIfInBounds j) clock
   |none=>.map ents clock):=by
 unfold aVi
 cases hj:eL n es with
 | some j =>
  obtain⟨v0,hj0⟩:=mN hj
  have hjl:j<es.length:=(Ao.1 hj0).1
  have hjl':j<ents.size:=by omega
  refine .map _ _ _ _ (by simp[List.length_eraseIdx,Gy,hjl',hl]) (MapKept.stamped_erase hst _) fun i x hx=>?_
  simp only at hx
  rw[List.getElem?_eraseIdx]at hx
  have he:(ents.eraseIdxIfInBounds j)[i]? = if i<j then ents[i]? else ents[i+1]? := by
   simp only[Gy,dif_pos hjl']
   rw[Array.getElem?_eraseIdx]
  rw[he]
  split at hx
  ·rename_i h;rw[Ap h];exact hes i x hx
  ·rename_i h;rw[Ah h];exact hes (i+1) x hx
 |none=>exact .map _ _ _ _ hl hst hes
variable [M:Mch P] {Γ:Nat→AV} {o:Oper}
theorem aZy{b:Nat}{ob:Obj}(ob':Obj)(hb:w.heap[b]? = some ob)(hs:∀ cur e,ob≠.cells cur e (0,0)):Kept (·=b) w.heap.size w { w with heap:=w.heap.setIfInBounds b ob' } :=
 ⟨rfl,rfl,rfl,by simp,fun k _ hk=>(MapKept.heap_set hb).2 k hk,fun k cur e _ hc=>by
  by_cases hkb:k=b
  ·subst hkb;rw[hb]at hc;injection hc with hc;exact(hs _ _ hc).elim
  ·exact⟨cur,((MapKept.heap_set hb).2 k hkb).trans hc,rfl⟩⟩
theorem aLp{t:TypeId}{m x:Operand}{v:Option Operand}{id:Nat}{ho:HO}{K':Hp}
  (hop_:(∃ y,v=some y∧(o.op=.mapUpdate t m x y∨o.op=.insert t m x y))∨(v=none∧∃ kt,o.op=.call { callee:=.builtin .delete,args:=#[m,x],argTypes:=#[t,kt] })) (hHK:∀ id ob,H id=some ob→K id=some ob)
  (h:pD P H t (oev Γ m) (oev Γ x) (v.map (oev Γ))=some (id,ho)) (hC:¬C id) (hK':K' id=some ho) (hsub:∀ j o,j≠id→K' j=some o→K j=some o∧¬C j) :
  Y P G o Γ C K K' .any aW aW:=by
 intro F w ι a hok hR hop _ next hnext
 have om:V F w ι (oev Γ m) (a.eval m):=cE fun t e=>hop t (by rcases hop_ with ⟨y,_,h|h⟩|⟨_,kt,h⟩<;>rw[h]<;>simp[Aw,Bc,e])
 have ox:V F w ι (oev Γ x) (a.eval x):=cE fun t e=>hop t (by rcases hop_ with ⟨y,_,h|h⟩|⟨_,kt,h⟩<;>rw[h]<;>simp[Aw,Bc,e])
 unfold pD at h
 split at h
 case h_2=>cases h
 rename_i id' hm
 rw[hm]at om
 generalize hme:a.eval m=vm at om
 cases om with|mp _ b hι =>
 split at h
 case h_2=>cases h
 rename_i k es hH
 obtain⟨p,hp,hq⟩:=Ad.1 h
 clear h
 have h:=hq
 clear hq
 split at h
 case h_2=>cases h
 rename_i k' n hxx
 split at h
 case isFalse=>cases h
 rename_i hk
 obtain⟨rfl,hk⟩:=hk
 injection h with h;injection h with e1 e2;subst e1;subst e2
 rw[hxx]at ox
 generalize hxe:a.eval x=vx at ox
 cases ox with|d _ _ ox=>cases ox with|i =>
 obtain⟨ents,clock,hb,hl,hst,hes⟩:=hR.mapOf hHK hι hH
 have hu:=xI hp
 have hf:=pN (k:=k') (n:=n) es ents.toList 0 (by simpa using hl) fun j x hx=>let ⟨en,h1,h2,_⟩:=hes j x hx;⟨en,by simpa using h1,h2⟩
 have hki:P.underlying p.1=some (.int k'):=by
  unfold eQ at hk;split at hk
  ·injection hk with hk;subst hk;assumption
  ·cases hk
 have hks:=bDp (F:=F) (w:=w) (ι:=ι) hl hes
 have hik:Eb (.int k') (.int k' n):=by simp[Eb]
 have hck:=fun e=>nD (P:=P) (w:=w) (k:=.int k' n) hki hik e 9999
 have hfk:=oS (P:=P) (w:=w) hki hf
 have key:∀(ob':Obj),iM P o a next (aH P (execOp a.eval o) w)=next (a.put o.dst (match v with|some _=>undef|none=>.tuple #[])) { w with heap:=w.heap.setIfInBounds b ob' } →
   (∀ F' w',Step F w ι F' w' ι→CR F' w' ι (.map k' (match v.map (oev Γ)with|some v=>aJm es n v|none=>aVi es n)) ob')→wpX P o a w next:=by
  intro ob' hrun hcr
  unfold wpX
  rw[hrun]
  obtain⟨hR',hst'⟩:=hR.write (K':=K') (ob':=ob') (ho:=.map k' (match v.map (oev Γ)with|some v=>aJm es n v|none=>aVi es n)) (old:=.map k' es) hC hι (hHK _ _ hH) rfl (aZy ob' hb (fun _ _ h=>by cases h)) hb (MapKept.heap_set hb).1
   (fun cur e he=>by cases he) (fun hs=>hcr _ _ hs) hK' hsub
  exact hnext _ _ ι _ (hR'.congrC fun id=>by simp[aW]) hst' (fun _ _ h=>.inl h) (fun _ h=>h.elim) (.any _)
 rcases hop_ with ⟨y,rfl,hop1⟩|⟨rfl,kt,hop1⟩
 ·have oy:V F w ι (oev Γ y) (a.eval y):=cE fun t e=>hop t (by rcases hop1 with h|h<;>rw[h]<;>simp[Aw,e])
  have hx2:execOp a.eval o=execOp a.eval { o with op:=.mapUpdate t m x y }:=by rcases hop1 with h|h<;>simp[execOp,h]
  refine key _ ?_ fun F' w' hs=>bMy (n:=n) (u:=a.eval y) hst hl (fun j x hx=>let ⟨en,h1,h2,h3⟩:=hes j x hx;⟨en,h1,h2,h3.step hs⟩) (oy.step hs)
  rw[hx2]
  cases hj:eL n es with
  | some j =>
   obtain⟨v0,hj0⟩:=mN hj
   obtain⟨e0,q1,q2,_⟩:=hes j _ hj0
   have q1':ents.toList[j]? = some e0:=by simpa using q1
   rw[hj]at hfk
   simp only[El,q1',AQ,Ax]at hfk
   simp[execOp,hme,hxe,Instr.mapUpdate,aC hu,cO hb,hck,hfk,q1,q2,uY hik,iO hb,iM]
  | none =>
   rw[hj]at hfk
   simp only[Option.bind_none]at hfk
   simp[execOp,hme,hxe,Instr.mapUpdate,aC hu,cO hb,hck,hfk,iO hb,iM]
 ·refine key _ ?_ fun F' w' hs=>bNd (n:=n) hst hl (fun j x hx=>let ⟨en,h1,h2,h3⟩:=hes j x hx;⟨en,h1,h2,h3.step hs⟩)
  cases hj:eL n es with
  | some j =>
   obtain⟨v0,hj0⟩:=mN hj
   obtain⟨e0,q1,q2,_⟩:=hes j _ hj0
   have q1':ents.toList[j]? = some e0:=by simpa using q1
   rw[hj]at hfk
   simp only[El,q1',AQ,Ax]at hfk
   simp[execOp,hop1,resolve,invoke,builtin,hme,hxe,Builtin.delete_,aC hu,cO hb,hck,hfk,iO hb,iM]
  | none =>
   rw[hj]at hfk
   simp only[Option.bind_none]at hfk
   simp[execOp,hop1,resolve,invoke,builtin,hme,hxe,Builtin.delete_,aC hu,cO hb,hck,hfk,iO hb,iM]
end
end Go.Am
end
section
open List renaming map_map→ζ,mapM_map→ξ
namespace Go.Am
open RowKit (Below)
def aFq:AV→Bool
 |.d _|.nil|.fp _|.fd _|.un|.ub|.any=>true
 |_=>false
def noh:AV→Bool
 |.ag cs=>cs.all aFq
 |x=>aFq x
def qZ:HO→Bool
 |.cells _ cs=>cs.all noh
 |.map _ es=>es.all fun p=>noh p.2
 |.iter ..=>true
section
variable {P:Program} {F:Nat→Prop} {w:World} {ι:Nat→Option Nat} {G:Ctx} {C:Nat→Prop} {H K:Hp}
theorem aPv{x:AV}{v:Value}{ι':Nat→Option Nat}(hn:aFq x=true)(h:V F w ι x v):V F w ι' x v:=by
 cases h with
 |d x v h=>exact .d _ _ h
 |nil=>exact .nil
 |fp cs ad f hF hcell hel=>exact .fp _ _ f hF hcell hel
 |fd els ad n h=>exact .fd _ _ _ h
 |un=>exact .un
 |ub t=>exact .ub t
 |any v=>exact .any v
 |_=>cases hn
theorem bRk{x:AV}{v:Value}{ι':Nat→Option Nat}(hn:noh x=true)(h:V F w ι x v):V F w ι' x v:=by
 cases h with
 |ag cs vs hl h=>exact .ag _ _ hl fun k c v hc hv=>aPv (AW.1 hn c (Ai hc)) (h k c v hc hv)
 |d x v h=>exact .d _ _ h
 |nil=>exact .nil
 |fp cs ad f hF hcell hel=>exact .fp _ _ f hF hcell hel
 |fd els ad n h=>exact .fd _ _ _ h
 |un=>exact .un
 |ub t=>exact .ub t
 |any v=>exact .any v
 |_=>cases hn
theorem wB{o:HO}{ob:Obj}{ι':Nat→Option Nat}(hn:qZ o=true)(h:CR F w ι o ob):CR F w ι' o ob:=by
 cases h with
 |cells e cs cur hl h=>exact .cells _ _ _ hl fun k c hk=>let ⟨u,h1,h2⟩:=h k c hk;⟨u,h1,bRk (AW.1 hn c (Ai hk)) h2⟩
 |map k es ents clock hl hst h=>exact .map _ _ _ _ hl hst fun j x hj=>let ⟨en,h1,h2,h3⟩:=h j x hj;⟨en,h1,h2,bRk (AW.1 hn x (Ai hj)) h3⟩
 |iter k last es bm since c0 clock seen ents hF hb hold hsc hnd hl h hla=>exact .iter k last es bm since c0 clock seen ents hF hb hold hsc hnd hl h hla
theorem kP{f g:AV→Option D}{v v':AV→List Nat}:∀(l:List AV) (ds:List D),l.mapM f=some ds→l.flatMap v=[]→(∀ x∈l,∀ d,f x=some d→v x=[]→g x=some d∧v' x=[])→l.mapM g=some ds∧l.flatMap v'=[]
 |[],ds,h,_,_=>by simpa using h
 | x::l,ds,h,hv,ih=>by
  simp only[Ce,CU,Ad,DO,At]at h
  obtain⟨y,hy,r',hr',rfl⟩:=h
  simp only[Gl,List.append_eq_nil_iff]at hv
  obtain⟨h1,h2⟩:=ih x (AI ..) y hy hv.1
  obtain⟨h3,h4⟩:=kP l r' hr' hv.2 fun x hx=>ih x (AJ _ hx)
  exact⟨by simp[h1,h3],by simp[h2,h4]⟩
theorem qQ{H H':Hp}:∀(n:Nat) (x:AV) (d:D),frz H n x=some d→vis H n x=[]→frz H' n x=some d∧vis H' n x=[]
 |0,_,_,h,_=>by cases h
 | n+1,x,d,h,hv=>by
  cases x with
  |d y=>exact⟨h,rfl⟩
  |nil=>exact⟨h,rfl⟩
  |fd els=>exact⟨h,rfl⟩
  |fp cs=>exact⟨h,rfl⟩
  | ptr id off =>
   exfalso
   simp only[frz]at h
   simp only[vis]at hv
   split at h
   ·rename_i hH;rw[hH]at hv;cases hv
   ·cases h
  | mp id =>
   exfalso
   simp only[frz]at h
   simp only[vis]at hv
   split at h
   ·rename_i hH;rw[hH]at hv;cases hv
   ·cases h
  | fn f cs =>
   simp only[frz,vis]at h hv ⊢
   obtain⟨l,hl,rfl⟩:=Af.1 h
   obtain⟨h1,h2⟩:=kP cs l hl hv fun x _ d hx hv=>qQ n x d hx hv
   exact⟨by rw[h1];rfl,h2⟩
  | own id off len sz =>
   exfalso
   simp only[frz]at h
   simp only[vis]at hv
   split at h
   ·rename_i hH;rw[hH]at hv;cases hv
   ·cases h
  | ag cs =>
   simp only[frz,vis]at h hv ⊢
   obtain⟨l,hl,rfl⟩:=Af.1 h
   obtain⟨h1,h2⟩:=kP cs l hl hv fun x _ d hx hv=>qQ n x d hx hv
   exact⟨by rw[h1];rfl,h2⟩
  | tp cs =>
   simp only[frz,vis]at h hv ⊢
   obtain⟨l,hl,rfl⟩:=Af.1 h
   obtain⟨h1,h2⟩:=kP cs l hl hv fun x _ d hx hv=>qQ n x d hx hv
   exact⟨by rw[h1];rfl,h2⟩
  |_=>cases h
theorem zV{H H':Hp}{l:List AV}{ds:List D}(hv:bT H l=[])(h:cI H l=some ds):cI H' l=some ds∧bT H' l=[] :=
 kP l ds h hv fun x _ d hx hv=>qQ 8 x d hx hv
def ι1(b:Nat):Nat→Option Nat:=fun id=>if id=0 then some b else none
def hd1:AV→Option (Nat×AV)
 |.mp id=>some (id,.mp 0)
 |.own id off len sz=>some (id,.own 0 off len sz)
 |.ptr id off=>some (id,.ptr 0 off)
 |_=>none
theorem aKa{F':Nat→Prop}{x h:AV}{id:Nat}{v:Value}(he:hd1 x=some (id,h))(hv:V F w ι x v):∃ b,ι id=some b∧V F' w (ι1 b) h v:=by
 unfold hd1 at he
 split at he<;>first|(cases he;done)|(injection he with he;injection he with e1 e2;subst e1;subst e2)
 ·cases hv with|mp _ b hι=>exact⟨b,hι,.mp _ _ rfl⟩
 ·cases hv with|own _ _ _ _ b cap cur e hι hb hcap hl hm=>exact⟨b,hι,.own _ _ _ _ b cap cur e rfl hb hcap hl hm⟩
 ·cases hv with|ptr _ _ b hι=>exact⟨b,hι,.ptr _ _ _ rfl⟩
def aBc(P:Program)[M:Mch P](f:FuncId)(h:AV)(o:HO)(ds:List D)(o':HO)(r:D):Prop :=
 ∀(A:Nat→Prop) (W:World) (vs:Array Value) (b:Nat),(∀ k,A k→k<W.heap.size)→¬A b→b<W.heap.size→(∃ ob,W.heap[b]? = some ob∧CR A W (ι1 b) o ob)→ds.length+1=vs.size →
  (∃ v,vs[0]? = some v∧V A W (ι1 b) h v)→(∀(k:Nat) d v,ds[k]? = some d→vs[k+1]? = some v→VD A W d v) →
  (∀ w,aH P (callFunc f vs) w=.ok (.enter f vs) w)∧CX P f vs W fun v w'=>∃ ob',Kept (·=b) W.heap.size W w'∧w'.heap[b]? = some ob' ∧
   (∀ cur e,W.heap[b]? = some (.cells cur e (0,0))→∃ cur',ob'=.cells cur' e (0,0)∧cur'.size=cur.size) ∧
   CR (fun k=>A k∨(W.heap.size≤k∧k<w'.heap.size)) w' (ι1 b) o' ob'∧VD (fun k=>A k∨(W.heap.size≤k∧k<w'.heap.size)) w' r v
variable [M:Mch P] {Γ:Nat→AV} {o:Oper}
theorem bIo{f:FuncId}{args:Array Operand}{ts:Array TypeId}{x:Operand}{rest:List Operand}{ds:List D}{id:Nat}{h:AV}{ho ho':HO}{r:D}{K':Hp}
  (hop_:o.op=.call { callee:=.value (.func f),args:=args,argTypes:=ts }) (hargs:args.toList=x::rest) (hHK:∀ id ob,H id=some ob→K id=some ob)
  (hx:hd1 (oev Γ x)=some (id,h)) (hH:H id=some ho) (hno:qZ ho=true) (hvis:bT H (rest.map (oev Γ))=[]) (hf:cI H (rest.map (oev Γ))=some ds) (hs:aBc P f h ho ds ho' r)
  (hlen:ho'.len=ho.len) (hno':qZ ho'=true) (hC:¬C id) (hK':K' id=some ho') (hsub:∀ j o,j≠id→K' j=some o→K j=some o∧¬C j):Y P G o Γ C K K' (inj r) aW aW:=by
 intro F w ι a hok hR hop _ next hnext
 have hargs':args=(x::rest).toArray:=by rw[←hargs]
 have hop':∀ y∈x::rest,V F w ι (oev Γ y) (a.eval y):=fun y hy=>cE fun t e=>hop t (by rw[hop_];subst e;simp only[Aw,Bc];rw[hargs'];simpa using hy)
 obtain⟨b,hι,hv0⟩:=aKa (F':=F) hx (hop' x (AI ..))
 obtain⟨ob,hb,hcr⟩:=hR.obj id b ho hι (hHK _ _ hH)
 obtain⟨hl,hV,_⟩:=mD hR hHK hf fun y hy=>hop' y (AJ _ hy)
 have hmap:args.map a.eval=(a.eval x::rest.map a.eval).toArray:=by rw[hargs'];simp
 have hnF:¬F b:=(hR.place id b hι).2.2 hC
 obtain⟨hent,hcalls⟩:=hs F w (args.map a.eval) b hR.F_lt hnF (hR.ι_lt hι) ⟨ob,hb,wB hno hcr⟩ (by rw[hmap];simp at hl ⊢;omega) ⟨a.eval x,by rw[hmap];simp,hv0⟩
  (fun k d v hk hv=>(hV k d v hk (by rw[hmap]at hv;simpa using hv)).mono fun c hc=>by
   rcases hc with hc|⟨i,hi,_⟩
   ·exact hc
   ·rw[hvis]at hi;cases hi)
 unfold wpX
 have hfe:a.eval (.func f)=.func (.func f) #[] #[]:=rfl
 simp only[execOp,hop_,resolve,invoke,Sem.run_bind,hfe,Cq,Sem.run_pure,AH,Ca,Cw,hent,iM]
 refine hcalls.mono ?_
 rintro v w' ⟨ob',hk,hb',hshape,hcr',hvd⟩
 obtain⟨hR',hst⟩:=hR.write (K':=K') (ob':=ob') (ho:=ho') hC hι (hHK _ _ hH) hlen hk hb hb' (fun cur e he=>hshape cur e (by rw[hb,he])) (fun _=>wB hno' hcr') hK' hsub
 exact hnext _ w' ι v (hR'.congrC fun id=>by simp[aW]) hst (fun _ _ h=>.inl h) (fun _ h=>h.elim) (aAy hvd)
def aSk(P:Program)[M:Mch P](f:FuncId)(h:AV)(o:Option HO)(ds:List D)(r:D):Prop :=
 ∀(A:Nat→Prop) (W:World) (vs:Array Value) (ι:Nat→Option Nat),(∀ k,A k→k<W.heap.size)→(∀ id b,ι id=some b→id=0∧¬A b∧b<W.heap.size)→(∀ ho,o=some ho→∃ b ob,ι 0=some b∧W.heap[b]? = some ob∧CR A W ι ho ob)→ds.length+1=vs.size →
  (∃ v,vs[0]? = some v∧V A W ι h v)→(∀(k:Nat) d v,ds[k]? = some d→vs[k+1]? = some v→VD A W d v) →
  (∀ w,aH P (callFunc f vs) w=.ok (.enter f vs) w)∧CX P f vs W fun v w'=>Kept (fun b=>ι 0=some b) W.heap.size W w' ∧
   VD (fun k=>A k∨ι 0=some k∨(W.heap.size≤k∧k<w'.heap.size)) w' r v
def hd0:AV→Option D
 |.d x=>some x
 |.nil=>some (.sl [])
 |_=>none
theorem bOo{x:AV}{d:D}(h:hd0 x=some d):aFq x=true:=by
 unfold hd0 at h
 split at h<;>first|rfl|cases h
theorem bYb{F:Nat→Prop}{w:World}{ι:Nat→Option Nat}{x:AV}{d:D}{v:Value}(h:hd0 x=some d)(hv:V F w ι x v):VD F w d v:=by
 unfold hd0 at h
 split at h
 ·injection h with h;subst h;cases hv with|d _ _ h=>exact h
 ·injection h with h;subst h;cases hv;exact .sl0 none 0
 ·cases h
theorem aYq{P:Program}[M:Mch P]{f:FuncId}{x:AV}{d:D}{ds:List D}{r:D}(h:hd0 x=some d)(hs:Spec P f (d::ds) r):aSk P f x none ds r:=by
 intro A W vs ι hA hι ho hl hv0 hv
 obtain⟨v0,h0,hV0⟩:=hv0
 obtain⟨h1,h2⟩:=hs A W vs hA (by simpa using hl) fun k d' v hk hv'=>by
  cases k with
  | zero =>
   simp only[BP,At]at hk;subst hk
   rw[h0]at hv';injection hv' with hv';subst hv'
   exact bYb h hV0
  |succ k=>exact hv k d' v (by simpa using hk) hv'
 refine⟨h1,h2.mono ?_⟩
 rintro v w' ⟨hb,hvd⟩
 refine⟨Kept.below hb (AA _),hvd.mono ?_⟩
 rintro k (hk|hk)
 ·exact .inl hk
 ·exact .inr (.inr hk)
theorem jP{f g:AV→Option D}{v v':AV→List Nat}{Q:Nat→Prop}:∀(l:List AV) (ds:List D),l.mapM f=some ds→(∀ i∈l.flatMap v,Q i)→(∀ x∈l,∀ d,f x=some d→(∀ i∈v x,Q i)→g x=some d∧v' x=v x)→l.mapM g=some ds∧l.flatMap v'=l.flatMap v
 |[],ds,h,_,_=>by simpa using h
 | x::l,ds,h,hv,ih=>by
  simp only[Ce,CU,Ad,DO,At]at h
  obtain⟨y,hy,r',hr',rfl⟩:=h
  simp only[Gl,BU]at hv
  obtain⟨h1,h2⟩:=ih x (AI ..) y hy fun i hi=>hv i (.inl hi)
  obtain⟨h3,h4⟩:=jP l r' hr' (fun i hi=>hv i (.inr hi)) fun x hx=>ih x (AJ _ hx)
  exact⟨by simp[h1,h3],by simp[h2,h4]⟩
theorem nM{H H':Hp}:∀(n:Nat) (x:AV) (d:D),frz H n x=some d→(∀ i∈vis H n x,H' i=H i)→frz H' n x=some d∧vis H' n x=vis H n x
 |0,_,_,h,_=>by cases h
 | n+1,x,d,h,hv=>by
  cases x with
  |d y=>exact⟨h,rfl⟩
  |nil=>exact⟨h,rfl⟩
  |fd els=>exact⟨h,rfl⟩
  |fp cs=>exact⟨h,rfl⟩
  | ptr id off =>
   simp only[frz]at h
   simp only[vis]at hv ⊢
   split at h
   case h_2=>cases h
   rename_i e cs hH
   rw[hH]at hv
   have hH':H' id=some (.cells e cs):=by rw[hv id (AI ..),hH]
   split at h
   case isFalse=>cases h
   rename_i hc
   obtain⟨l,hl,rfl⟩:=Af.1 h
   obtain⟨h1,h2⟩:=jP (Q:=fun i=>H' i=H i) (g:=frz H' n) (v':=vis H' n) _ l hl (fun i hi=>hv i (AJ _ hi)) fun x _ d hx hv=>nM n x d hx hv
   simp only[frz,hH',hH,Ap hc,h1,h2,AQ,and_self]
  | mp id =>
   simp only[frz]at h
   simp only[vis]at hv ⊢
   split at h
   case h_2=>cases h
   rename_i k es hH
   rw[hH]at hv
   have hH':H' id=some (.map k es):=by rw[hv id (AI ..),hH]
   obtain⟨l,hl,rfl⟩:=Af.1 h
   obtain⟨h1,h2⟩:=jP (Q:=fun i=>H' i=H i) (g:=frz H' n) (v':=vis H' n) _ l hl (fun i hi=>hv i (AJ _ hi)) fun x _ d hx hv=>nM n x d hx hv
   simp only[frz,hH',hH,h1,h2,AQ,and_self]
  | own id off len sz =>
   simp only[frz]at h
   simp only[vis]at hv ⊢
   split at h
   case h_2=>cases h
   rename_i e cs hH
   rw[hH]at hv
   have hH':H' id=some (.cells e cs):=by rw[hv id (AI ..),hH]
   split at h
   case isFalse=>cases h
   rename_i hc
   obtain⟨l,hl,rfl⟩:=Af.1 h
   obtain⟨h1,h2⟩:=jP (Q:=fun i=>H' i=H i) (g:=frz H' n) (v':=vis H' n) _ l hl (fun i hi=>hv i (AJ _ hi)) fun x _ d hx hv=>nM n x d hx hv
   simp only[frz,hH',hH,Ap hc,h1,h2,AQ,and_self]
  | fn f cs =>
   simp only[frz,vis]at h hv ⊢
   obtain⟨l,hl,rfl⟩:=Af.1 h
   obtain⟨h1,h2⟩:=jP (Q:=fun i=>H' i=H i) cs l hl hv fun x _ d hx hv=>nM n x d hx hv
   exact⟨by rw[h1];rfl,h2⟩
  | ag cs =>
   simp only[frz,vis]at h hv ⊢
   obtain⟨l,hl,rfl⟩:=Af.1 h
   obtain⟨h1,h2⟩:=jP (Q:=fun i=>H' i=H i) cs l hl hv fun x _ d hx hv=>nM n x d hx hv
   exact⟨by rw[h1];rfl,h2⟩
  | tp cs =>
   simp only[frz,vis]at h hv ⊢
   obtain⟨l,hl,rfl⟩:=Af.1 h
   obtain⟨h1,h2⟩:=jP (Q:=fun i=>H' i=H i) cs l hl hv fun x _ d hx hv=>nM n x d hx hv
   exact⟨by rw[h1];rfl,h2⟩
  |_=>cases h
theorem zU{H H':Hp}{l:List AV}{ds:List D}(h:cI H l=some ds)(hv:∀ i∈bT H l,H' i=H i):cI H' l=some ds∧bT H' l=bT H l :=
 jP (Q:=fun i=>H' i=H i) l ds h hv fun x _ d hx hv=>nM 8 x d hx hv
theorem aQc{f:FuncId}{args:Array Operand}{ts:Array TypeId}{x:Operand}{rest:List Operand}{ds:List D}{h:AV}{ho:Option HO}{r:D}{ids l:List Nat}{K':Hp}
  (hop_:o.op=.call { callee:=.value (.func f),args:=args,argTypes:=ts }) (hargs:args.toList=x::rest) (hHK:∀ id ob,H id=some ob→K id=some ob)
  (hx:(∃ id h0,ids=id::l∧hd1 (oev Γ x)=some (id,h)∧ho=some h0∧H id=some h0∧qZ h0=true∧¬C id∧id ∉ l)∨(ids=l∧aFq (oev Γ x)=true∧h=oev Γ x∧ho=none))
  (hvis:bT H (rest.map (oev Γ))=l) (hCl:∀ i∈l,¬C i) (hf:cI H (rest.map (oev Γ))=some ds) (hs:aSk P f h ho ds r)
  (hsub:∀ j o,K' j=some o→K j=some o∧¬C j∧j ∉ ids):Y P G o Γ C K K' (inj r) aW (fun i=>i∈ids):=by
 intro F w ι a hok hR hop _ next hnext
 have hargs':args=(x::rest).toArray:=by rw[←hargs]
 have hop':∀ y∈x::rest,V F w ι (oev Γ y) (a.eval y):=fun y hy=>cE fun t e=>hop t (by rw[hop_];subst e;simp only[Aw,Bc];rw[hargs'];simpa using hy)
 obtain⟨hl,hV,hlv⟩:=mD hR hHK hf fun y hy=>hop' y (AJ _ hy)
 rw[hvis]at hV hlv
 have hmap:args.map a.eval=(a.eval x::rest.map a.eval).toArray:=by rw[hargs'];simp
 obtain⟨A,hA⟩:∃ A,A=reach F ι l:=⟨_,rfl⟩
 have hAF:∀ b,F b→A b:=fun b h=>by rw[hA];exact .inl h
 have hAlt:∀ b,A b→b<w.heap.size:=fun b h=>by
  rw[hA]at h
  rcases h with h|⟨i,_,h⟩
  ·exact hR.F_lt b h
  ·exact hR.ι_lt h
 have hsA:∀ ι',Step F w ι' A w ι':=fun ι'=>⟨hAF,fun _ _=>rfl,fun _ _ h=>h,fun _ _ cur _ _ h=>⟨cur,h,rfl⟩⟩
 rw[←hA]at hV
 obtain⟨ιc,hιc,hids,hh,hob⟩:∃ ιc:Nat→Option Nat,(∀ id b,ιc id=some b→id=0∧¬A b∧b<w.heap.size)∧(∀ b,ιc 0=some b→∃ i∈ids,i ∉ l∧¬C i∧ι i=some b)∧V A w ιc h (a.eval x)∧∀ h0,ho=some h0→∃ b ob,ιc 0=some b∧w.heap[b]? = some ob∧CR A w ιc h0 ob:=by
  rcases hx with ⟨id,h0,rfl,hx,rfl,hH,hno,hC,hnl⟩|⟨rfl,hno,rfl,rfl⟩
  ·obtain⟨b,hι,hv0⟩:=aKa (F':=A) hx (hop' x (AI ..))
   obtain⟨ob,hb,hcr⟩:=hR.obj id b h0 hι (hHK _ _ hH)
   refine⟨ι1 b,fun i c hc=>?_,fun c hc=>?_,hv0,fun h1 e=>?_⟩
   ·unfold ι1 at hc
    split at hc
    ·rename_i e
     injection hc with hc;subst hc
     refine⟨e,fun hAb=>?_,hR.ι_lt hι⟩
     rw[hA]at hAb
     rcases hAb with h|⟨j,hj,h⟩
     ·exact(hR.place id b hι).2.2 hC h
     ·have:=hR.inj id j b hι h hC (hCl j hj)
      subst this;exact hnl hj
    ·cases hc
   ·simp only[ι1,AF]at hc
    injection hc with hc;subst hc
    exact⟨id,AI ..,hnl,hC,hι⟩
   ·injection e with e;subst e
    exact⟨b,ob,rfl,hb,(wB hno hcr).step (hsA _)⟩
  ·refine⟨fun _=>none,?_,?_,(aPv hno (hop' x (AI ..))).step (hsA _),?_⟩
   ·intro i b h;cases h
   ·intro b h;cases h
   ·intro h0 e;cases e
 obtain⟨hent,hcalls⟩:=hs A w (args.map a.eval) ιc hAlt hιc hob (by rw[hmap];simp at hl ⊢;omega) ⟨a.eval x,by rw[hmap];simp,hh⟩
  (fun k d v hk hv=>hV k d v hk (by rw[hmap]at hv;simpa using hv))
 unfold wpX
 have hfe:a.eval (.func f)=.func (.func f) #[] #[]:=rfl
 simp only[execOp,hop_,resolve,invoke,Sem.run_bind,hfe,Cq,Sem.run_pure,AH,Ca,Cw,hent,iM]
 refine hcalls.mono ?_
 rintro v w' ⟨hk,hvd⟩
 have hsz:=hk.size
 have hW:G.W.heap.size≤w.heap.size:=hR.kept.size
 have hnF:∀ b,ιc 0=some b→¬A b∧b<w.heap.size:=fun b hb=>(hιc 0 b hb).2
 have hoth:∀ k,k<w.heap.size→ιc 0≠some k→w'.heap[k]? = w.heap[k]? := fun k h1 h2=>hk.block k h1 h2
 have hst:Step F w ι (fun k=>A k∨ιc 0=some k∨(w.heap.size≤k∧k<w'.heap.size)) w' ι :=
  ⟨fun b h=>.inl (hAF b h),fun k hkF=>hoth k (hR.F_lt k hkF) fun e=>(hnF k e).1 (hAF k hkF),fun _ _ h=>h,fun i k c0 e0 hi hk0=>hk.shape k c0 e0 (hR.ι_lt hi) hk0⟩
 have hids2:∀ i,i∈l→i∈ids:=fun i hi=>by
  rcases hx with ⟨id,h0,rfl,_⟩|⟨rfl,_⟩
  ·exact AJ _ hi
  ·exact hi
 refine hnext _ w' ι v ⟨hR.kept.trans ⟨hk.os,hk.tape,hk.output,hk.size,fun k hkW hm=>hoth k (by omega) fun e=>?_,fun k c0 e0 hkW hc=>hk.shape k c0 e0 (by omega) hc⟩,?_,?_,?_,?_,?_,?_⟩ hst (fun _ _ h=>.inl h) (fun _ h=>h.elim) (aAy hvd)
 ·obtain⟨i,_,_,_,hi⟩:=hids k e
  rcases(hR.place i k hi).1 with h|h
  ·exact hm h
  ·omega
 ·rintro k (h|h|h)
  ·have:=hAlt k h;omega
  ·have:=(hnF k h).2;omega
  ·exact h.2
 ·rintro k (h|h|h)
  ·rw[hA]at h
   rcases h with h|⟨i,_,hi⟩
   ·exact hR.F_ok k h
   ·rcases(hR.place i k hi).1 with h|h
    ·exact .inr (.inl h)
    ·exact .inr (.inr h)
  ·obtain⟨i,_,_,_,hi⟩:=hids k h
   rcases(hR.place i k hi).1 with h|h
   ·exact .inr (.inl h)
   ·exact .inr (.inr h)
  ·exact .inr (.inr (by omega))
 ·intro i k hi
  obtain⟨p1,p2,p3⟩:=hR.place i k hi
  refine⟨p1,by omega,fun hc h=>?_⟩
  have hc1:¬C i:=fun h=>hc (.inl h)
  rcases h with h|h|h
  ·rw[hA]at h
   rcases h with h|⟨j,hj,hjk⟩
   ·exact p3 hc1 h
   ·have:=hR.inj i j k hi hjk hc1 (hCl j hj)
    subst this;exact hc (.inr (hids2 _ hj))
  ·obtain⟨j,hj,_,hjC,hjk⟩:=hids k h
   have:=hR.inj i j k hi hjk hc1 hjC
   subst this;exact hc (.inr hj)
  ·omega
 ·intro i k o' hi ho'
  obtain⟨h1,h2,h3⟩:=hsub i o' ho'
  obtain⟨ob2,h4,h5⟩:=hR.obj i k o' hi h1
  refine⟨ob2,(hoth k (hR.ι_lt hi) fun e=>?_).trans h4,h5.step hst⟩
  obtain⟨j,hj,_,hjC,hjk⟩:=hids k e
  have:=hR.inj i j k hi hjk h2 hjC
  subst this;exact h3 hj
 ·exact fun i i' b h1 h2 c1 c2=>hR.inj i i' b h1 h2 (fun h=>c1 (.inl h)) fun h=>c2 (.inl h)
 ·exact fun i i' b o1 o2 h1 h2 c1 k1 k2=>hR.len i i' b o1 o2 h1 h2 (fun h=>c1 (.inl h)) (hsub i o1 k1).1 (hsub i' o2 k2).1
def aBf(P:Program)[M:Mch P](f g:FuncId):Prop :=
 ∀(W:World) (b:Nat),(∀ w,aH P (callFunc f #[.map (some b)]) w=.ok (.enter f #[.map (some b)]) w) ∧
  CX P f #[.map (some b)] W fun v w'=>∃ e0,v=.func (.func g) #[] #[.pointer (some ⟨W.heap.size,0,none⟩)]∧w'=W.alloc (.cells #[.map (some b)] e0)
def ins(n:Int):List Int→List Int
 |[]=>[n]
 |m::l=>if n≤m then n::m::l else m::ins n l
def aJw:List Int→List Int
 |[]=>[]
 |n::l=>ins n (aJw l)
def inr(n:Int):Bool:=decide (-9223372036854775808≤n∧n≤9223372036854775807)
def sK(P:Program)[M:Mch P](f g:FuncId):Prop :=
 ∀(W:World) (b p:Nat) (e:TypeId) (ks:List Int) (ents:Array MapEntry) (clock:Nat),W.heap[b]? = some (.map ents clock)→EC ents clock→ents.toList.map (·.key)=ks.map (.int .i64 ·) →
  W.heap[p]? = some (.cells #[.map (some b)] e (0,0))→ks.length≤1099511627776→ks.all inr=true →
  (∀ w,aH P (callFunc f #[.func (.func g) #[] #[.pointer (some ⟨p,0,none⟩)]]) w=.ok (.enter f #[.func (.func g) #[] #[.pointer (some ⟨p,0,none⟩)]]) w) ∧
  CX P f #[.func (.func g) #[] #[.pointer (some ⟨p,0,none⟩)]] W fun v w'=>Below W.heap.size W w' ∧
   VD (fun k=>W.heap.size≤k∧k<w'.heap.size) w' (.sl ((aJw ks).map fun n=>[.i .i64 n])) v
theorem bRu{f g:FuncId}{args:Array Operand}{ts:Array TypeId}{x:Operand}{id:Nat}(hop_:o.op=.call { callee:=.value (.func f),args:=args,argTypes:=ts })(hargs:args.toList=[x])
  (hx:oev Γ x=.mp id) (hs:aBf P f g):Y P G o Γ C K K (.kf g id) aW aW:=by
 intro F w ι a hok hR hop _ next hnext
 have hargs':args=#[x]:=by cases args;simp only at hargs;subst hargs;rfl
 have ox:V F w ι (oev Γ x) (a.eval x):=cE fun t e=>hop t (by rw[hop_,hargs'];simp[Aw,Bc,e])
 rw[hx]at ox
 generalize hxe:a.eval x=u at ox
 cases ox with|mp _ b hι =>
 obtain⟨hent,hcalls⟩:=hs w b
 unfold wpX
 have hfe:a.eval (.func f)=.func (.func f) #[] #[]:=rfl
 simp only[execOp,hop_,hargs',resolve,invoke,Sem.run_bind,hfe,Cq,Sem.run_pure,AH,Ca,Cw,List.map_toArray,BO,EV,hxe,hent,iM]
 refine hcalls.mono ?_
 rintro v w' ⟨e0,rfl,rfl⟩
 obtain⟨hR',hst⟩:=hR.call (((Below.refl _ w).alloc (AA _) (.cells #[.map (some b)] e0))) [] (by simp)
 refine hnext _ _ ι _ (hR'.congrC fun id=>by simp[aW]) hst (fun _ _ h=>.inl h) (fun _ h=>h.elim) (.kf g id b w.heap.size e0 hι (.inr (.inr ⟨AA _,by simp⟩)) ?_)
 exact(MapKept.heap_alloc w _).1
theorem aXq{f g:FuncId}{args:Array Operand}{ts:Array TypeId}{x:Operand}{id:Nat}{es:List (Int×AV)}(hop_:o.op=.call { callee:=.value (.func f),args:=args,argTypes:=ts })(hargs:args.toList=[x])
  (hHK:∀ id ob,H id=some ob→K id=some ob) (hx:oev Γ x=.kf g id) (hH:H id=some (.map .i64 es)) (hn:es.length≤1099511627776) (hr:(es.map (·.1)).all inr=true) (hs:sK P f g) :
  Y P G o Γ C K K (.d (.sl ((aJw (es.map (·.1))).map fun n=>[.i .i64 n]))) aW aW:=by
 intro F w ι a hok hR hop _ next hnext
 have hargs':args=#[x]:=by cases args;simp only at hargs;subst hargs;rfl
 have ox:V F w ι (oev Γ x) (a.eval x):=cE fun t e=>hop t (by rw[hop_,hargs'];simp[Aw,Bc,e])
 rw[hx]at ox
 generalize hxe:a.eval x=u at ox
 cases ox with|kf _ _ b p e hι hF hp =>
 obtain⟨ents,clock,hb,hl,hst,hes⟩:=hR.mapOf hHK hι hH
 have hkeys:ents.toList.map (·.key)=(es.map (·.1)).map (.int .i64 ·):=by
  refine List.ext_getElem? fun j=>?_
  simp only[Ag,Bh]
  cases hj:es[j]? with
  | none =>
   have:ents[j]? = none:=by rw[Array.getElem?_eq_none_iff];rw[List.getElem?_eq_none_iff]at hj;omega
   rw[this];rfl
  |some y=>obtain⟨en,h1,h2,_⟩:=hes j y hj;rw[h1];simp[h2]
 obtain⟨hent,hcalls⟩:=hs w b p e (es.map (·.1)) ents clock hb hst hkeys hp (by simpa using hn) hr
 unfold wpX
 have hfe:a.eval (.func f)=.func (.func f) #[] #[]:=rfl
 simp only[execOp,hop_,hargs',resolve,invoke,Sem.run_bind,hfe,Cq,Sem.run_pure,AH,Ca,Cw,List.map_toArray,BO,EV,hxe,hent,iM]
 refine hcalls.mono ?_
 rintro v w' ⟨hbl,hv⟩
 obtain⟨hR',hst⟩:=hR.call hbl [] (by simp)
 exact hnext _ _ ι _ (hR'.congrC fun id=>by simp[aW]) hst (fun _ _ h=>.inl h) (fun _ h=>h.elim) (.d _ _ (hv.mono fun b hb=>.inr (.inr hb)))
end
end Go.Am
end
section
open List renaming map_map→ζ,mapM_map→ξ
namespace Go.Am
structure AS where
 Γ:Nat→AV
 T:Nat→Prop
 K:Hp
 U:Nat→Prop
def bE(Γ:Nat→AV)(d:Option Tmp)(v:AV):Nat→AV :=
 match d with
 |some d=>upd Γ d v
 |none=>Γ
def aYr:List String:=["slices.Insert[torsion/api.Complex,torsion/api.Cell]", "slices.Delete[torsion/api.Complex,torsion/api.Cell]"]
def aM(P:Program)(f:FuncId):Bool:=match P.funcs[f]? with|some fn=>fn.resultTypes.isEmpty||(match fn.params[0]? with|some t=>(tmp P t).isSome|none=>false)||aYr.contains fn.name|none=>false
def aNy(P:Program)(ts:Array TypeId):Bool:=match ts.toList with|[t]=>(tel P t).isNone&&(tmp P t).isSome|_=>false
theorem aJv(P:Program)(t:TypeId):aNy P #[t]=((tel P t).isNone&&(tmp P t).isSome):=rfl
def kind(P:Program):Op→Nat
 |.load ..=>1
 |.lookup ..=>1
 |.entry ..=>1
 |.call { callee:=.value (.func f),.. }=>if aM P f then 2 else 1
 |.call { callee:=.builtin .append,.. }=>1
 |.call { callee:=.builtin .delete,.. }=>2
 |.call { callee:=.builtin .len,argTypes:=ts,.. }=>if aNy P ts then 1 else 0
 |.store ..=>2
 |.mapUpdate ..=>2
 |.insert ..=>2
 |.call { callee:=.value _,.. }=>1
 |.call { callee:=.invoke ..,.. }=>1
 |_=>0
def oJ(id:Nat):AV→Bool
 |.ptr i _|.mp i|.own i _ _ _=>i==id
 |_=>false
open Classical in
noncomputable def lX(K:Hp)(T:Nat→Prop)(id:Nat)(ho:HO):Hp:=fun j=>if j=id then some ho else if T j then none else K j
def EvN(P:Program)[M:Mch P](G:Ctx)(o:Oper)(Γ:Nat→AV)(K K':Hp)(av:AV)(new con:Nat→Prop):Prop :=
 kind P o.op=0∧K'=K∧con=aW∧∀(T2:Nat→Prop) (K2:Hp),(∀ id,new id→K2 id=K id)→Y P G o Γ T2 K2 K2 av new aW
def EvR(P:Program)[M:Mch P](G:Ctx)(o:Oper)(Γ:Nat→AV)(T:Nat→Prop)(K K':Hp)(av:AV)(new con:Nat→Prop):Prop :=
 kind P o.op=1∧K'=K∧(∀ id,con id→¬T id) ∧
 (∀ F w ι T2 (a:Act),HR G F w ι T2 K→(∀ t,CC t∈o.op.operands→V F w ι (Γ t) (a.tmps.getD t undef))→∀ id,con id→∃ b,ι id=some b) ∧
 ∀ T2:Nat→Prop,(∀ id,con id→¬T2 id)→Y P G o Γ T2 K K av new con
def EvW(P:Program)[M:Mch P](G:Ctx)(o:Oper)(Γ:Nat→AV)(T:Nat→Prop)(K K':Hp)(av:AV)(new con:Nat→Prop):Prop :=
 kind P o.op=2∧new=aW∧con=aW∧∃ id t old ho,CC t∈o.op.operands∧oJ id (Γ t)=true∧K id=some old∧¬T id∧K'=lX K T id ho ∧
  ∀(T2:Nat→Prop) (K2:Hp),K2 id=some old→¬T2 id→Y P G o Γ T2 K2 (lX K2 T2 id ho) av aW aW
open Classical in
noncomputable def jQ(K:Hp)(T S:Nat→Prop)(g:Hp):Hp:=fun j=>if S j then g j else if T j then none else K j
def EvG(P:Program)[M:Mch P](G:Ctx)(o:Oper)(Γ:Nat→AV)(T:Nat→Prop)(K K':Hp)(av:AV)(new con:Nat→Prop):Prop :=
 kind P o.op=2∧∃(S:Nat→Prop) (g:Hp),(∀ id,S id→¬T id)∧(∀ id,con id→S id)∧(∀ id,new id→¬S id) ∧
  (∀ id,S id→∀ F w ι T2 (a:Act),HR G F w ι T2 K→(∀ t,CC t∈o.op.operands→V F w ι (Γ t) (a.tmps.getD t undef))→∃ b,ι id=some b)∧K'=jQ K T S g ∧
  ∀(T2:Nat→Prop) (K2:Hp),(∀ id,S id→¬T2 id∧K2 id=K id)→(∀ id,new id→¬T2 id∧K2 id=K id)→Y P G o Γ T2 K2 (jQ K2 T2 S g) av new con
def Ev(P:Program)[M:Mch P](G:Ctx)(o:Oper)(Γ:Nat→AV)(T:Nat→Prop)(K K':Hp)(av:AV)(new con:Nat→Prop):Prop :=
 EvN P G o Γ K K' av new con∨EvR P G o Γ T K K' av new con∨EvW P G o Γ T K K' av new con∨EvG P G o Γ T K K' av new con
def Un(G:Ctx)(s:AS):Prop:=∀ F w ι (a:Act),OkV w→HR G F w ι s.T s.K→(∀ id b,ι id=some b→s.U id)→(∀ t,V F w ι (s.Γ t) (a.tmps.getD t undef))→False
def cR(ops:Array Oper)(o:Oper)(Γ:Nat→AV):Option Bool :=
 match o.guard with
 |none=>some true
 | some (j,want)=>match(ops[j]?).bind (·.dst)with
  |none=>some false
  | some d=>match Γ d with
   |.d (.b x)=>some (x==want)
   |.un=>some false
   |_=>none
inductive pY(P:Program)[M:Mch P](G:Ctx)(ops:Array Oper)(o:Oper)(s:AS):AS→Prop where
 | yes (av:AV) (new con:Nat→Prop) (K':Hp) (hw:cR ops o s.Γ=some true) (hev:Ev P G o s.Γ s.T s.K K' av new con) (hU:∀ id,new id→¬s.U id) (hT:∀ id,new id→¬s.T id) (h0:new 0→∀ b,G.P0 b) :
   pY P G ops o s ⟨bE s.Γ o.dst av,fun id=>s.T id∨con id,K',fun id=>s.U id∨new id⟩
 |no (hw:cR ops o s.Γ=some false):pY P G ops o s ⟨bE s.Γ o.dst .un,s.T,s.K,s.U⟩
def aOp(P:Program)[M:Mch P](G:Ctx)(ops:Array Oper)(i:Nat)(k:AS→Prop)(s:AS):Prop :=
 match ops[i]? with
 |none=>k s
 |some o=>Un G s∨∃ s',pY P G ops o s s'∧k s'
def bHu(P:Program)[M:Mch P](G:Ctx)(ops:Array Oper)(Q:AS→Prop):Nat→Array Bool→AS→Prop
 |0,listed,s=>Bo .any ops listed=[]∧Q s
 |fuel+1,listed,s=>(Bo .any ops listed=[]→Q s)∧∀ i∈Bo .any ops listed,aOp P G ops i (bHu P G ops Q fuel (listed.setIfInBounds i true)) s
def vU(P:Program)(ops:Array Oper)(x y:Oper):Bool :=
 x.apart ops y && !(kind P x.op==2&&kind P y.op != 0) && !(kind P y.op==2&&kind P x.op != 0)
theorem xN{Γ:Nat→AV}{d:Option Tmp}{v:AV}{t:Nat}(h:d≠some t):bE Γ d v t=Γ t:=by
 cases d with
 |none=>rfl
 |some d=>exact upd_ne _ _ fun e=>h (e ▸ rfl)
theorem qK(Γ:Nat→AV){x y:Option Tmp}(v u:AV)(h:∀ d,x=some d→y≠some d):bE (bE Γ x v) y u=bE (bE Γ y u) x v:=by
 cases x with
 |none=>rfl
 | some d =>
  cases y with
  |none=>rfl
  | some e =>
   have hne:d≠e:=fun he=>h d rfl (he ▸ rfl)
   funext t
   by_cases h1:t=d
   ·subst h1;simp[bE,upd,hne]
   ·by_cases h2:t=e
    ·subst h2;simp[bE,upd,h1]
    ·simp[bE,upd,h1,h2]
section
variable {P:Program} [M:Mch P] {G:Ctx} {ops:Array Oper}
theorem Y.congrΓ{o:Oper}{Γ Γ':Nat→AV}{T:Nat→Prop}{K K':Hp}{av:AV}{new con:Nat→Prop}(h:Y P G o Γ T K K' av new con)
  (he:∀ t,CC t∈o.op.operands→Γ' t=Γ t):Y P G o Γ' T K K' av new con :=
 fun F w ι a hok hR hop hn next hx=>h F w ι a hok hR (fun t ht=>by rw[←he t ht];exact hop t ht) hn next hx
theorem Ev.congrΓ{o:Oper}{Γ Γ':Nat→AV}{T:Nat→Prop}{K K':Hp}{av:AV}{new con:Nat→Prop}(h:Ev P G o Γ T K K' av new con)
  (he:∀ t,CC t∈o.op.operands→Γ' t=Γ t):Ev P G o Γ' T K K' av new con:=by
 rcases h with ⟨hk,h1,h2,h⟩|⟨hk,h1,hT,hl,h⟩|⟨hk,h1,h2,id,t,old,ho,ht,hΓ,hold,hT,hK,h⟩|⟨hk,S,g,q1,q2,q3,q4,q5,h⟩
 ·exact .inl ⟨hk,h1,h2,fun T2 K2 hK=>(h T2 K2 hK).congrΓ he⟩
 ·exact .inr (.inl ⟨hk,h1,hT,fun F w ι T2 a hR hop=>hl F w ι T2 a hR fun t ht=>by rw[←he t ht];exact hop t ht,fun T2 hT2=>(h T2 hT2).congrΓ he⟩)
 ·exact .inr (.inr (.inl ⟨hk,h1,h2,id,t,old,ho,ht,by rw[he t ht];exact hΓ,hold,hT,hK,fun T2 K2 h1 h2=>(h T2 K2 h1 h2).congrΓ he⟩))
 ·exact .inr (.inr (.inr ⟨hk,S,g,q1,q2,q3,fun id hid F w ι T2 a hR hop=>q4 id hid F w ι T2 a hR fun t ht=>by rw[←he t ht];exact hop t ht,q5,fun T2 K2 h1 h2=>(h T2 K2 h1 h2).congrΓ he⟩))
theorem aBs{o:Oper}{d:Nat}(h:d ∉ o.looksAt ops):CC d ∉ o.op.operands:=fun hx =>
 h (List.mem_append_left _ (List.mem_filterMap.2 ⟨.tmp d,by simpa using hx,rfl⟩))
theorem fH{o:Oper}{Γ:Nat→AV}{dst:Option Tmp}{v:AV}(h:∀ d,dst=some d→d ∉ o.looksAt ops):cR ops o (bE Γ dst v)=cR ops o Γ:=by
 unfold cR
 cases hg:o.guard with
 |none=>rfl
 | some gw =>
  obtain⟨g,want⟩:=gw
  simp only
  cases ht:(ops[g]?).bind (·.dst)with
  |none=>rfl
  | some t =>
   simp only
   rw[xN fun e=>h t e (by simp[Oper.looksAt,hg,ht])]
theorem iE{o:Oper}{Γ:Nat→AV}{dst:Option Tmp}{v:AV}(h:∀ d,dst=some d→d ∉ o.looksAt ops):∀ t,CC t∈o.op.operands→bE Γ dst v t=Γ t :=
 fun t ht=>xN fun e=>aBs (h t e) ht
theorem or_none(T:Nat→Prop):(fun id=>T id∨aW id)=T:=funext fun id=>propext (by simp[aW])
theorem pZ{K:Hp}{T:Nat→Prop}{id i:Nat}{ho:HO}(h1:i≠id)(h2:¬T i):lX K T id ho i=K i:=by
 unfold lX;rw[Ah h1,Ah h2]
theorem aIl{s:AS}{t id:Nat}(hΓ:oJ id (s.Γ t)=true)(hU:¬s.U id):Un G s:=by
 intro F w ι a _ _ hd hV
 have:=hV t
 generalize s.Γ t=x at this hΓ
 generalize a.tmps.getD t undef=v at this
 unfold oJ at hΓ
 split at hΓ
 ·simp only[CW]at hΓ;subst hΓ;cases this with|ptr _ _ b hι=>exact hU (hd _ _ hι)
 ·simp only[CW]at hΓ;subst hΓ;cases this with|mp _ b hι=>exact hU (hd _ _ hι)
 ·simp only[CW]at hΓ;subst hΓ;cases this with|own _ _ _ _ b cap cur e hι=>exact hU (hd _ _ hι)
 ·cases hΓ
theorem swap{oi oj:Oper}{s s1 s2:AS}(hap:vU P ops oi oj=true)(hi:pY P G ops oi s s1)(hj:pY P G ops oj s1 s2) :
  Un G s∨∃ s1',pY P G ops oj s s1'∧pY P G ops oi s1' s2:=by
 simp only[vU,AR,C2,Bool.and_eq_false_iff,beq_eq_false_iff_ne,bne_eq_false_iff_eq]at hap
 obtain⟨⟨hap,hw1⟩,hw2⟩:=hap
 obtain⟨h1,h2,h3⟩:=Oper.apart_spec hap
 cases hi with
 | no hwi =>
  cases hj with
  | no hwj =>
   refine .inr ⟨_,.no (by rw[←hwj];exact(fH h1).symm),?_⟩
   have:=pY.no (P:=P) (G:=G) (ops:=ops) (o:=oi) (s:=⟨bE s.Γ oj.dst .un,s.T,s.K,s.U⟩) (by rw[←hwi];exact fH h3)
   simp only at this ⊢
   rwa [qK s.Γ .un .un h2]
  | yes av new con K' hwj hev hU hT h0 =>
   refine .inr ⟨_,.yes av new con K' (by rw[←hwj];exact(fH h1).symm) (hev.congrΓ fun t ht=>(iE h1 t ht).symm) hU hT h0,?_⟩
   have:=pY.no (P:=P) (G:=G) (ops:=ops) (o:=oi) (s:=⟨bE s.Γ oj.dst av,fun id=>s.T id∨con id,K',fun id=>s.U id∨new id⟩) (by rw[←hwi];exact fH h3)
   simp only at this ⊢
   rwa [qK s.Γ .un av h2]
 | yes avi newi coni Ki hwi hevi hUi hTi h0i =>
  have hwi':∀(v:AV),cR ops oi (bE s.Γ oj.dst v)=some true:=fun v=>by rw[←hwi];exact fH h3
  cases hj with
  | no hwj =>
   refine .inr ⟨_,.no (by rw[←hwj];exact(fH h1).symm),?_⟩
   have:=pY.yes (P:=P) (G:=G) (ops:=ops) (o:=oi) (s:=⟨bE s.Γ oj.dst .un,s.T,s.K,s.U⟩) avi newi coni Ki (hwi' _) (hevi.congrΓ (iE h3)) hUi hTi h0i
   simp only at this ⊢
   rwa [qK s.Γ avi .un h2]
  | yes avj newj conj Kj hwj hevj hUj hTj h0j =>
   have hwj':cR ops oj s.Γ=some true:=by rw[←hwj];exact(fH h1).symm
   have hevj0:=hevj.congrΓ (Γ':=s.Γ) fun t ht=>(iE h1 t ht).symm
   have hevi':=hevi.congrΓ (Γ':=bE s.Γ oj.dst avj) (iE h3)
   simp only at hUj hTj hevj0
   have hUj0:∀ id,newj id→¬s.U id:=fun id h hu=>hUj id h (.inl hu)
   have hTj0:∀ id,newj id→¬s.T id:=fun id h hu=>hTj id h (.inl hu)
   have hdis:∀ id,newi id→¬newj id:=fun id h hj=>hUj id hj (.inr h)
   have hUi1:∀ id,newi id→¬(s.U id∨newj id):=fun id h hu=>hu.elim (hUi id h) (hdis id h)
   have eU:(fun id=>(s.U id∨newi id)∨newj id)=fun id=>(s.U id∨newj id)∨newi id:=funext fun id=>propext ⟨fun h=>by rcases h with (h|h)|h<;>simp[h],fun h=>by rcases h with (h|h)|h<;>simp[h]⟩
   have eT:(fun id=>(s.T id∨coni id)∨conj id)=fun id=>(s.T id∨conj id)∨coni id:=funext fun id=>propext ⟨fun h=>by rcases h with (h|h)|h<;>simp[h],fun h=>by rcases h with (h|h)|h<;>simp[h]⟩
   have fin:∀ K1,(∀ id,newi id→¬conj id)→Ev P G oj s.Γ s.T s.K K1 avj newj conj→Ev P G oi (bE s.Γ oj.dst avj) (fun id=>s.T id∨conj id) K1 Kj avi newi coni →
     ∃ s1',pY P G ops oj s s1'∧pY P G ops oi s1' ⟨bE (bE s.Γ oi.dst avi) oj.dst avj,fun id=>(s.T id∨coni id)∨conj id,Kj,fun id=>(s.U id∨newi id)∨newj id⟩:=by
    intro K1 hnc e1 e2
    refine⟨_,.yes avj newj conj K1 hwj' e1 hUj0 hTj0 h0j,?_⟩
    have:=pY.yes (P:=P) (G:=G) (ops:=ops) (o:=oi) (s:=⟨bE s.Γ oj.dst avj,fun id=>s.T id∨conj id,K1,fun id=>s.U id∨newj id⟩) avi newi coni Kj (hwi' _) e2 hUi1
     (fun id h ht=>ht.elim (hTi id h) (hnc id h)) h0i
    simp only at this ⊢
    rwa [qK s.Γ avi avj h2,eU,eT]
   have gkeep:∀{K:Hp} {T S:Nat→Prop} {g:Hp} {i:Nat},¬S i→¬T i→jQ K T S g i=K i:=fun h1 h2=>by unfold jQ;rw[Ah h1,Ah h2]
   rcases hevi' with ⟨hki,rfl,rfl,hYi⟩|⟨hki,rfl,hcTi,hli,hYi⟩|⟨hki,rfl,rfl,id,t,old,ho,ht,hΓ,hold,hT,rfl,hYi⟩|⟨hki,S,g,a1,a2,a3,a4,rfl,hYi⟩
   ·-- oi neutral
    rcases hevj0 with ⟨hkj,rfl,rfl,hYj⟩|⟨hkj,rfl,hcTj,hlj,hYj⟩|⟨hkj,rfl,rfl,id,t,old,ho,ht,hΓ,hold,hT,rfl,hYj⟩|⟨hkj,S,g,b1,b2,b3,b4,rfl,hYj⟩
    ·exact .inr (fin _ (fun _ _ h=>h) (.inl ⟨hkj,rfl,rfl,hYj⟩) (.inl ⟨hki,rfl,rfl,hYi⟩))
    ·by_cases hx:∃ id,newi id∧conj id
     ·obtain⟨id,hn,hc⟩:=hx
      exact .inl fun F w ι a _ hR hd hV=>let ⟨b,hb⟩:=hlj F w ι s.T a hR (fun t _=>hV t) id hc;hUi id hn (hd id b hb)
     ·exact .inr (fin _ (fun id h1 h2=>hx ⟨id,h1,h2⟩) (.inr (.inl ⟨hkj,rfl,fun id h ht=>hcTj id h (.inl ht),hlj,hYj⟩)) (.inl ⟨hki,rfl,rfl,hYi⟩))
    ·by_cases hid:newi id
     ·exact .inl (aIl hΓ (hUi id hid))
     ·have hsT:¬s.T id:=fun h=>hT (.inl h)
      have e0:lX s.K (fun i=>s.T i∨aW i) id ho=lX s.K s.T id ho:=by rw[or_none]
      refine .inr ?_
      have h4:=fin (lX s.K s.T id ho) (fun _ _ h=>h) (.inr (.inr (.inl ⟨hkj,rfl,rfl,id,t,old,ho,ht,hΓ,hold,hsT,rfl,hYj⟩)))
       (.inl ⟨hki,e0,rfl,fun T2 K2 hK=>hYi T2 K2 fun i hi=>by rw[hK i hi];exact pZ (fun e=>hid (e ▸ hi)) (hTi i hi)⟩)
      exact h4
    ·by_cases hx:∃ id,newi id∧S id
     ·obtain⟨id,hn,hc⟩:=hx
      exact .inl fun F w ι a _ hR hd hV=>let ⟨b,hb⟩:=b4 id hc F w ι s.T a hR (fun t _=>hV t);hUi id hn (hd id b hb)
     ·have hsT:∀ id,S id→¬s.T id:=fun id h ht=>b1 id h (.inl ht)
      have e0:jQ s.K (fun i=>s.T i∨aW i) S g=jQ s.K s.T S g:=by rw[or_none]
      refine .inr ?_
      have h4:=fin (jQ s.K s.T S g) (fun id h1 h2=>hx ⟨id,h1,b2 id h2⟩) (.inr (.inr (.inr ⟨hkj,S,g,hsT,b2,b3,b4,rfl,hYj⟩)))
       (.inl ⟨hki,e0,rfl,fun T2 K2 hK=>hYi T2 K2 fun i hi=>by rw[hK i hi];exact gkeep (fun e=>hx ⟨i,hi,e⟩) (hTi i hi)⟩)
      exact h4
   ·-- oi reads
    rcases hevj0 with ⟨hkj,rfl,rfl,hYj⟩|⟨hkj,rfl,hcTj,hlj,hYj⟩|⟨hkj,_⟩|⟨hkj,_⟩
    ·exact .inr (fin _ (fun _ _ h=>h) (.inl ⟨hkj,rfl,rfl,hYj⟩) (.inr (.inl ⟨hki,rfl,fun id h ht=>by rw[or_none]at ht;exact hcTi id h ht,hli,hYi⟩)))
    ·by_cases hx:∃ id,newi id∧conj id
     ·obtain⟨id,hn,hc⟩:=hx
      exact .inl fun F w ι a _ hR hd hV=>let ⟨b,hb⟩:=hlj F w ι s.T a hR (fun t _=>hV t) id hc;hUi id hn (hd id b hb)
     ·exact .inr (fin _ (fun id h1 h2=>hx ⟨id,h1,h2⟩) (.inr (.inl ⟨hkj,rfl,fun id h ht=>hcTj id h (.inl ht),hlj,hYj⟩))
       (.inr (.inl ⟨hki,rfl,fun id h ht=>ht.elim (hcTi id h) fun hc=>hcTj id hc (.inr h),hli,hYi⟩)))
    ·omega
    ·omega
   ·-- oi writes
    rcases hevj0 with ⟨hkj,rfl,rfl,hYj⟩|⟨hkj,_⟩|⟨hkj,_⟩|⟨hkj,_⟩
    ·by_cases hid:newj id
     ·have:=(iE (Γ:=s.Γ) (v:=avj) h3 t ht)
      rw[this]at hΓ
      exact .inl (aIl hΓ (hUj0 id hid))
     ·refine .inr ?_
      have h4:=fin s.K (fun _ h _=>h) (.inl ⟨hkj,rfl,rfl,fun T2 K2 hK=>hYj T2 K2 fun i hi=>by rw[hK i hi];exact(pZ (fun e=>hid (by rw[←e];exact hi)) (hTj0 i hi)).symm⟩)
       (.inr (.inr (.inl ⟨hki,rfl,rfl,id,t,old,ho,ht,hΓ,hold,by rw[or_none];exact hT,by rw[or_none],hYi⟩)))
      exact h4
    ·omega
    ·omega
    ·omega
   ·-- oi turns many
    rcases hevj0 with ⟨hkj,rfl,rfl,hYj⟩|⟨hkj,_⟩|⟨hkj,_⟩|⟨hkj,_⟩
    ·by_cases hx:∃ id,newj id∧S id
     ·obtain⟨id,hn,hc⟩:=hx
      exact .inl fun F w ι a _ hR hd hV=>let ⟨b,hb⟩:=a4 id hc F w ι s.T a hR (fun t ht=>by rw[iE h3 t ht];exact hV t);hUj0 id hn (hd id b hb)
     ·refine .inr ?_
      have h4:=fin s.K (fun _ _ h=>h) (.inl ⟨hkj,rfl,rfl,fun T2 K2 hK=>hYj T2 K2 fun i hi=>by rw[hK i hi];exact(gkeep (fun e=>hx ⟨i,hi,e⟩) (hTj0 i hi)).symm⟩)
       (.inr (.inr (.inr ⟨hki,S,g,fun id h ht=>by rw[or_none]at ht;exact a1 id h ht,a2,a3,a4,by rw[or_none],hYi⟩)))
      exact h4
    ·omega
    ·omega
    ·omega
theorem aXx{o:Oper}{a:Act}{w:World}(hok:OkV w){K:Act→World→Prop}(h:wpX P o a w K)(hK:∀ a w,OkV w→K a w→False):False:=by
 unfold wpX at h
 cases hr:aH P (execOp a.eval o) w with
 |halt x w'=>rw[hr]at h;exact h
 | ok n w' =>
  rw[hr]at h
  have hok':=aRb hok hr
  cases n<;>simp only[iM]at h<;>first
  |exact hK _ _ hok' h
  |(obtain⟨x,v',h1,h2⟩:=h.some hok';exact hK _ _ h1 h2)
theorem aQs(a:Act)(dst:Option Tmp)(u:Value):∃ a2:Act,∀ t,a2.tmps.getD t undef=if dst=some t then u else a.tmps.getD t undef:=by
 cases dst with
 |none=>exact⟨a,fun t=>by simp⟩
 | some d =>
  refine⟨⟨(Array.range (max (d+1) a.tmps.size)).map fun t=>if d=t then u else a.tmps.getD t undef,[]⟩,fun t=>?_⟩
  simp only[Ay,BM,Array.getElem?_range,At]
  by_cases ht:t<max (d+1) a.tmps.size
  ·rw[Ap ht];rfl
  ·have hdt:¬d=t:=fun e=>ht (by rw[←e];exact Nat.lt_of_lt_of_le (Nat.lt_succ_self d) (Nat.le_max_left ..))
   rw[Ah ht,Ah hdt]
   simp only[Option.map_none,Option.getD_none]
   rw[Dq (by simp only[Nat.not_lt]at ht;exact Nat.le_trans (Nat.le_max_right ..) ht)];rfl
theorem aLg{F:Nat→Prop}{w:World}{ι:Nat→Option Nat}{Γ:Nat→AV}{dst:Option Tmp}{av:AV}{f g:Nat→Value}{u:Value}(hV:∀ t,V F w ι (Γ t) (f t))(hu:V F w ι av u)
  (hg:∀ t,g t=if dst=some t then u else f t):∀ t,V F w ι (bE Γ dst av t) (g t):=by
 intro t
 rw[hg t]
 by_cases h:dst=some t
 ·subst h;simp only[bE,upd_same,AF];exact hu
 ·rw[xN h,Ah h];exact hV t
theorem bJn{o:Oper}{s s1:AS}(hd:pY P G ops o s s1)(hu:Un G s1):Un G s:=by
 intro F w ι a hok hR hdm hV
 cases hd with
 | no hw =>
  obtain⟨a2,h2⟩:=aQs a o.dst undef
  exact hu F w ι a2 hok hR hdm (aLg hV .un h2)
 | yes av new con K' hw hev hU hT h0 =>
  have hY:Y P G o s.Γ s.T s.K K' av new con:=by
   rcases hev with ⟨_,rfl,rfl,h⟩|⟨_,rfl,hcT,_,h⟩|⟨_,rfl,rfl,id,t,old,ho,_,_,hold,hT,rfl,h⟩|⟨_,S,g,q1,_,_,_,rfl,h⟩
   ·exact h _ _ fun _ _=>rfl
   ·exact h _ hcT
   ·exact h _ _ hold hT
   ·exact h _ _ (fun id hid=>⟨q1 id hid,rfl⟩) fun id hid=>⟨hT id hid,rfl⟩
  refine aXx (P:=P) hok (hY F w ι a hok hR (fun t _=>hV t) (fun id hn=>?_) (fun _ w'=>OkV w'→False) fun F' w' ι' u hR' hs hd1 hd2 hv hok'=>?_) fun _ _ h1 h2=>h2 h1
  ·cases hi:ι id with
   |none=>rfl
   |some b=>exact absurd (hdm id b hi) (hU id hn)
  ·obtain⟨a2,h2⟩:=aQs a o.dst u
   refine hu F' w' ι' a2 hok' hR' (fun id b hb=>?_) (aLg (fun t=>(hV t).step hs) hv h2)
   rcases hd1 id b hb with h|h
   ·exact .inl (hdm id b h)
   ·exact .inr h
def Dc(ops:Array Oper)(listed:Array Bool):Prop :=
 ∀(m:Nat) (om:Oper),listed.getD m false=true→ops[m]? = some om→∀ e∈om.after,Ez .any e=true→listed.getD e.on false=true
def dep(ops:Array Oper):Nat→Nat→Nat→Bool
 |0,_,_=>false
 | f+1,j,i=>match ops[j]? with
  |some o=>o.after.any fun e=>Ez .any e&&(e.on==i||dep ops f e.on i)
  |none=>false
theorem aAi{listed:Array Bool}(hdc:Dc ops listed):∀(f j i:Nat),(∀ o,ops[j]? = some o→∀ e∈o.after,Ez .any e=true→listed.getD e.on false=true)→dep ops f j i=true→listed.getD i false=true
 |0,_,_,_,h=>by cases h
 | f+1,j,i,hj,h=>by
  unfold dep at h
  split at h
  ·rename_i o ho
   obtain⟨e,he,hb⟩:=Array.any_eq_true'.1 h
   simp only[AR,Bool.or_eq_true,CW]at hb
   obtain⟨h1,h2⟩:=hb
   have hl:=hj o ho e he h1
   rcases h2 with h2|h2
   ·rw[←h2];exact hl
   ·exact aAi hdc f e.on i (fun o' ho'=>hdc e.on o' hl ho') h2
  ·cases h
theorem bIb{listed:Array Bool}{j:Nat}(hdc:Dc ops listed)(hj:j∈Bo .any ops listed):Dc ops (listed.setIfInBounds j true):=by
 intro m om hm hom e he hb
 obtain⟨_,o,ho,hall⟩:=mem_ready.1 hj
 refine getD_set_true ?_
 by_cases hmj:m=j
 ·subst hmj
  rw[ho]at hom;injection hom with hom;subst hom
  exact hall e he hb
 ·rw[getD_set_ne false (Ne.symm hmj)]at hm
  exact hdc m om hm hom e he hb
theorem aPu{Q:AS→Prop}{i:Nat}{oi:Oper}(hi:ops[i]? = some oi) :
  ∀(fuel:Nat) (listed:Array Bool) (s s1:AS),Dc ops listed →
   (∀ j oj,ops[j]? = some oj→j≠i→listed.getD j true=false→(∀ e∈oj.after,Ez .any e=true→e.on≠i)→dep ops 12 j i=false→vU P ops oi oj=true) →
   i∈Bo .any ops listed→pY P G ops oi s s1→bHu P G ops Q fuel (listed.setIfInBounds i true) s1→bHu P G ops Q (fuel+1) listed s:=by
 intro fuel
 induction fuel with
 | zero =>
  intro listed s s1 _ _ hr hd H
  refine⟨fun h=>(by rw[h]at hr;cases hr),fun j hj=>?_⟩
  by_cases hji:j=i
  ·subst hji;unfold aOp;simp only[hi];exact .inr ⟨s1,hd,H⟩
  ·have:=ready_mono hj hji
   rw[H.1]at this
   cases this
 | succ fuel ih =>
  intro listed s s1 hdc hfree hr hd H
  refine⟨fun h=>(by rw[h]at hr;cases hr),fun j hj=>?_⟩
  by_cases hji:j=i
  ·subst hji;unfold aOp;simp only[hi];exact .inr ⟨s1,hd,H⟩
  ·have h1:=H.2 j (ready_mono hj hji)
   obtain⟨hjun,oj,hoj,hall⟩:=mem_ready.1 hj
   have hnot:∀ e∈oj.after,Ez .any e=true→e.on≠i:=fun e he hb heq=>by
    have h1:=hall e he hb
    have h0:=(mem_ready.1 hr).1
    rw[heq]at h1
    rcases Az i listed.size with h'|h'
    ·simp[h']at h0 h1;rw[h0]at h1;cases h1
    ·simp[Dq h']at h1
   have hnd:dep ops 12 j i=false:=by
    cases hd6:dep ops 12 j i with
    |false=>rfl
    | true =>
     have h1:=aAi hdc 12 j i (fun o' ho'=>by rw[hoj]at ho';injection ho' with ho';subst ho';exact hall) hd6
     have h0:=(mem_ready.1 hr).1
     rcases Az i listed.size with h'|h'
     ·simp[h']at h0 h1;rw[h0]at h1;cases h1
     ·simp[Dq h']at h1
   have hap:=hfree j oj hoj hji hjun hnot hnd
   have hfree':∀ k ok,ops[k]? = some ok→k≠i→(listed.setIfInBounds j true).getD k true=false →
     (∀ e∈ok.after,Ez .any e=true→e.on≠i)→dep ops 12 k i=false→vU P ops oi ok=true:=fun k ok hk hki hun hno hnd=>by
    refine hfree k ok hk hki ?_ hno hnd
    by_cases hjk:j=k
    ·subst hjk;exact hjun
    ·rw[getD_set_ne true hjk]at hun;exact hun
   unfold aOp at h1 ⊢
   simp only[hoj]at h1 ⊢
   rcases h1 with h1|⟨s2,hd2,h2⟩
   ·exact .inl (bJn hd h1)
   ·rcases swap hap hd hd2 with h3|⟨s1',hd1',hd2'⟩
    ·exact .inl h3
    ·refine .inr ⟨s1',hd1',ih (listed.setIfInBounds j true) s1' s2 (bIb hdc hj) hfree' (ready_mono hr (Ne.symm hji)) hd2' ?_⟩
     rw[Array.setIfInBounds_comm _ _ hji]
     exact h2
end
end Go.Am
end
section
open List renaming map_map→ζ,mapM_map→ξ
namespace Go.Am
open RowKit (Below)
def bCl:List String:=["torsion/matrix.New", "torsion/torsionref05.New", "slices.Grow[[]uint64,uint64]", "torsion/modmat.copied", "slices.Clone[[]uint64,uint64]"]
def aN(P:Program)(f:FuncId):Bool:=match P.funcs[f]? with|some fn=>bCl.contains fn.name|none=>false
def gF(H:Hp)(n:Nat)(hs:List HO):Hp:=fun id=>if n≤id∧id<n+hs.length then hs[id-n]? else H id
def NB(P:Program)[M:Mch P](f:FuncId)(vs:Array Value)(A:Nat→Prop)(W:World)(v:Nat→AV)(hs:Nat→List HO):Prop :=
  (∀ w,aH P (callFunc f vs) w=.ok (.enter f vs) w) ∧
  CX P f vs W fun u W'=>Below W.heap.size W W'∧∀ m,0<m→∃(F:Nat→Prop) (ι:Nat→Option Nat),
   (∀ b,F b→A b∨(W.heap.size≤b∧b<W'.heap.size))∧V F W' ι (v m) u∧(∀ id,(∃ b,ι id=some b)↔(m≤id∧id<m+(hs m).length)) ∧
   (∀ id b,ι id=some b→W.heap.size≤b∧b<W'.heap.size∧¬F b) ∧
   (∀ i o b,(hs m)[i]? = some o→ι (m+i)=some b→∃ ob,W'.heap[b]? = some ob∧CR F W' ι o ob) ∧
   (∀ id id' b,ι id=some b→ι id'=some b→id=id')
def rJ(P:Program)[M:Mch P](f:FuncId)(args:List D)(v:Nat→AV)(hs:Nat→List HO):Prop :=
 ∀(A:Nat→Prop) (W:World) (vs:Array Value),(∀ b,A b→b<W.heap.size)→args.length=vs.size→(∀(k:Nat) d v,args[k]? = some d→vs[k]? = some v→VD A W d v)→NB P f vs A W v hs
def aBe(P:Program)[M:Mch P](f:FuncId)(args:List AV)(v:Nat→AV)(hs:Nat→List HO):Prop :=
 ∀(A:Nat→Prop) (W:World) (vs:Array Value),(∀ b,A b→b<W.heap.size)→args.length=vs.size→(∀(k:Nat) x u,args[k]? = some x→vs[k]? = some u→V A W (fun _=>none) x u)→NB P f vs A W v hs
section
variable {P:Program} [M:Mch P] {G:Ctx} {C:Nat→Prop} {H K:Hp} {Γ:Nat→AV} {o:Oper}
theorem bWi{f:FuncId}{args:Array Operand}{ts:Array TypeId}{v:Nat→AV}{hs:Nat→List HO}{n:Nat}(ho:o.op=.call { callee:=.value (.func f),args:=args,argTypes:=ts })
  (hsp:∀ F w ι (a:Act),HR G F w ι C K→(∀ x∈args.toList,V F w ι (oev Γ x) (a.eval x))→NB P f (args.map a.eval) F w v hs) (hn0:0<n)
  (hK:∀ i ob,(hs n)[i]? = some ob→K (n+i)=some ob) :
  Y P G o Γ C K K (v n) (fun i=>n≤i∧i<n+(hs n).length) aW:=by
 intro F w ι a hok hR hop hnew next hnext
 have hop':∀ x∈args.toList,V F w ι (oev Γ x) (a.eval x):=fun x hx=>cE fun t e=>hop t (by rw[ho];subst e;simp[Aw,Bc];simpa using hx)
 obtain⟨hent,hcalls⟩:=hsp F w ι a hR hop'
 unfold wpX
 have hfe:a.eval (.func f)=.func (.func f) #[] #[]:=rfl
 simp only[execOp,ho,resolve,invoke,Sem.run_bind,hfe,Cq,Sem.run_pure,AH,Ca,Cw,hent,iM]
 refine hcalls.mono ?_
 rintro u w' ⟨hb,hall⟩
 obtain⟨F1,ι1,f1,f2,f3,f4,f5,f6⟩:=hall n hn0
 have hsz:=hb.size
 have hW:G.W.heap.size≤w.heap.size:=hR.kept.size
 obtain⟨ι',hι'⟩:∃ ι':Nat→Option Nat,ι'=fun id=>if n≤id∧id<n+(hs n).length then ι1 id else ι id:=⟨_,rfl⟩
 have e_new:∀ id,(n≤id∧id<n+(hs n).length)→ι' id=ι1 id:=fun id h=>by rw[hι'];exact Ap h
 have e_old:∀ id,¬(n≤id∧id<n+(hs n).length)→ι' id=ι id:=fun id h=>by rw[hι'];exact Ah h
 have split:∀ id b,ι' id=some b→((n≤id∧id<n+(hs n).length)∧ι1 id=some b)∨(¬(n≤id∧id<n+(hs n).length)∧ι id=some b):=fun id b h=>by
  by_cases hid:n≤id∧id<n+(hs n).length
  ·rw[e_new id hid]at h;exact .inl ⟨hid,h⟩
  ·rw[e_old id hid]at h;exact .inr ⟨hid,h⟩
 have hF1:∀ b,F1 b→b<w.heap.size→F b:=fun b h hlt=>by
  rcases f1 b h with h|h
  ·exact h
  ·omega
 have hs0:Step F w ι (fun b=>F b∨F1 b) w' ι':=⟨fun _ h=>.inl h,fun b h=>hb.block b (hR.F_lt b h),fun id b h=>by
  by_cases hid:n≤id∧id<n+(hs n).length
  ·rw[hnew id hid]at h;cases h
  ·rw[e_old id hid];exact h,fun id b cur e hi h=>⟨cur,(hb.block b (hR.ι_lt hi)).trans h,rfl⟩⟩
 have hs1:Step F1 w' ι1 (fun b=>F b∨F1 b) w' ι':=⟨fun _ h=>.inr h,fun _ _=>rfl,fun id b h=>by
  rw[e_new id ((f3 id).1 ⟨b,h⟩)];exact h,fun id b cur e hi h=>⟨cur,h,rfl⟩⟩
 refine hnext (fun b=>F b∨F1 b) w' ι' u ⟨hR.kept.trans (.below hb hW),?_,?_,?_,?_,?_,?_⟩ hs0 (fun id b h=>?_) (fun id hid=>?_) (f2.step hs1)
 ·rintro b (h|h)
  ·have:=hR.F_lt b h;omega
  ·rcases f1 b h with h|h
   ·have:=hR.F_lt b h;omega
   ·exact h.2
 ·rintro b (h|h)
  ·exact hR.F_ok b h
  ·rcases f1 b h with h|h
   ·exact hR.F_ok b h
   ·exact .inr (.inr (by omega))
 ·intro id b h
  rcases split id b h with ⟨_,h⟩|⟨_,h⟩
  ·obtain⟨q1,q2,q3⟩:=f4 id b h
   refine⟨.inr (by omega),q2,fun _ hF=>?_⟩
   rcases hF with hF|hF
   ·have:=hR.F_lt b hF;omega
   ·exact q3 hF
  ·obtain⟨q1,q2,q3⟩:=hR.place id b h
   refine⟨q1,by omega,fun hc hF=>?_⟩
   have hc':¬C id:=fun x=>hc (.inl x)
   rcases hF with hF|hF
   ·exact q3 hc' hF
   ·exact q3 hc' (hF1 b hF q2)
 ·intro id b ob h hob
  rcases split id b h with ⟨hid,h⟩|⟨_,h⟩
  ·obtain⟨i,rfl⟩:∃ i,id=n+i:=⟨id-n,by omega⟩
   have hi:i<(hs n).length:=by omega
   have hg:(hs n)[i]? = some (hs n)[i]:=Ab hi
   have:=hK i _ hg
   rw[this]at hob;injection hob with hob;subst hob
   obtain⟨ob',h2,h3⟩:=f5 i _ b hg h
   exact⟨ob',h2,h3.step hs1⟩
  ·obtain⟨ob',h2,h3⟩:=hR.obj id b ob h hob
   exact⟨ob',(hb.block b (hR.ι_lt h)).trans h2,h3.step hs0⟩
 ·intro id id' b h h' hc hc'
  rcases split id b h with ⟨_,h⟩|⟨_,h⟩<;>rcases split id' b h' with ⟨_,h'⟩|⟨_,h'⟩
  ·exact f6 id id' b h h'
  ·have:=(f4 id b h).1;have:=hR.ι_lt h';omega
  ·have:=(f4 id' b h').1;have:=hR.ι_lt h;omega
  ·exact hR.inj id id' b h h' (fun x=>hc (.inl x)) fun x=>hc' (.inl x)
 ·intro id id' b o1 o2 h h' hc h1 h2
  rcases split id b h with ⟨_,h⟩|⟨_,h⟩<;>rcases split id' b h' with ⟨_,h'⟩|⟨_,h'⟩
  ·have:=f6 id id' b h h'
   subst this
   rw[h1]at h2;injection h2 with h2;subst h2;exact AA _
  ·have:=(f4 id b h).1;have:=hR.ι_lt h';omega
  ·have:=(f4 id' b h').1;have:=hR.ι_lt h;omega
  ·exact hR.len id id' b o1 o2 h h' (fun x=>hc (.inl x)) h1 h2
 ·rcases split id b h with ⟨hid,_⟩|⟨_,h⟩
  ·exact .inr hid
  ·exact .inl h
 ·obtain⟨b,hb'⟩:=(f3 id).2 hid
  exact⟨b,by rw[e_new id hid];exact hb'⟩
theorem bIp{f:FuncId}{args:Array Operand}{ts:Array TypeId}{ds:List D}{v:Nat→AV}{hs:Nat→List HO}{n:Nat}(ho:o.op=.call { callee:=.value (.func f),args:=args,argTypes:=ts })
  (hHK:∀ id ob,H id=some ob→K id=some ob) (hargs:cI H (args.toList.map (oev Γ))=some ds) (hvis:bT H (args.toList.map (oev Γ))=[]) (hsp:rJ P f ds v hs) (hn0:0<n)
  (hK:∀ i ob,(hs n)[i]? = some ob→K (n+i)=some ob) :
  Y P G o Γ C K K (v n) (fun i=>n≤i∧i<n+(hs n).length) aW:=bWi ho (fun F w ι a hR hop'=>by
 have hmap:args.map a.eval=(args.toList.map a.eval).toArray:=by cases args;simp
 obtain⟨hl,hV,_⟩:=mD hR hHK hargs hop'
 rw[←hmap]at hl hV
 have hV2:∀(k:Nat) d u,ds[k]? = some d→(args.map a.eval)[k]? = some u→VD F w d u:=fun k d u hd hu=>(hV k d u hd hu).mono fun b hb=>by
  rcases hb with hb|⟨id,hid,_⟩
  ·exact hb
  ·rw[hvis]at hid;cases hid
 exact hsp F w (args.map a.eval) hR.F_lt hl hV2) hn0 hK
theorem aXr{f:FuncId}{args:Array Operand}{ts:Array TypeId}{v:Nat→AV}{hs:Nat→List HO}{n:Nat}(ho:o.op=.call { callee:=.value (.func f),args:=args,argTypes:=ts })
  (hno:(args.toList.map (oev Γ)).all aFq=true) (hsp:aBe P f (args.toList.map (oev Γ)) v hs) (hn0:0<n) (hK:∀ i ob,(hs n)[i]? = some ob→K (n+i)=some ob) :
  Y P G o Γ C K K (v n) (fun i=>n≤i∧i<n+(hs n).length) aW:=bWi ho (fun F w ι a hR hop'=>by
 refine hsp F w (args.map a.eval) hR.F_lt (by simp) fun k x u hx hu=>?_
 have hmem:=Ai hx
 rw[Ag]at hx
 rw[BM]at hu
 obtain⟨y,hy,rfl⟩:=Af.1 hx
 obtain⟨z,hz,rfl⟩:=Af.1 hu
 rw[Bh,hz]at hy
 injection hy with hy;subst hy
 exact aPv (AW.1 hno _ hmem) (hop' z (Ai (by rw[Bh];exact hz)))) hn0 hK
end
end Go.Am
end
section
open List renaming map_map→ζ,mapM_map→ξ
namespace Go.Am
open RowKit (Below)
def aBo(ν:Nat→Nat):AV→AV
 |.own id o l s=>.own (ν id) o l s
 |.ptr id o=>.ptr (ν id) o
 |.mp id=>.mp (ν id)
 |.kf f id=>.kf f (ν id)
 |.d x=>.d x
 |.nil=>.nil
 |.fp cs=>.fp cs
 |.fd els=>.fd els
 |.un=>.un
 |.ub=>.ub
 |_=>.any
def bLi(ν:Nat→Nat):AV→AV
 |.ag cs=>.ag (cs.map (aBo ν))
 |x=>aBo ν x
def rQ(ν:Nat→Nat):HO→HO
 |.cells e cs=>.cells e (cs.map (aBo ν))
 |.map k es=>.map k (es.map fun p=>(p.1,bLi ν p.2))
 |.iter k l' es=>.iter k l' es
def lf0(k:Nat):AV→Bool
 |.own id _ _ _=>decide (id<k)
 |.ptr id _=>decide (id<k)
 |.mp id=>decide (id<k)
 |.kf _ id=>decide (id<k)
 |.d _|.nil|.fp _|.fd _|.un|.ub|.any=>true
 |_=>false
def lf1(k:Nat):AV→Bool
 |.ag cs=>cs.all (lf0 k)
 |x=>lf0 k x
def lfO(k:Nat):HO→Bool
 |.cells _ cs=>cs.all (lf0 k)
 |.map _ es=>es.all fun p=>lf1 k p.2
 |.iter ..=>true
section
variable {F:Nat→Prop} {w:World} {ι ι':Nat→Option Nat} {ν:Nat→Nat}
theorem bHx{x:AV}{v:Value}(hι:∀ j b,ι j=some b→ι' (ν j)=some b)(h:V F w ι x v):V F w ι' (aBo ν x) v:=by
 cases h with
 |d x v h=>exact .d _ _ h
 |nil=>exact .nil
 |own id off len sz b cap cur e h1 hb hcap hl hm=>exact .own _ _ _ _ b _ _ _ (hι _ _ h1) hb hcap hl hm
 |ptr id off b h1=>exact .ptr _ _ _ (hι _ _ h1)
 |mp id b h1=>exact .mp _ _ (hι _ _ h1)
 |fp cs ad f hF hcell hel=>exact .fp _ _ f hF hcell hel
 |fd els ad n h=>exact .fd _ _ _ h
 |un=>exact .un
 |ub t=>exact .ub t
 |kf f id b p e h1 hF hp=>exact .kf _ _ _ _ _ (hι _ _ h1) hF hp
 |_=>exact .any _
theorem bVu{x:AV}{v:Value}(hι:∀ j b,ι j=some b→ι' (ν j)=some b)(h:V F w ι x v):V F w ι' (bLi ν x) v:=by
 cases h with
 | ag cs vs hl hh =>
  refine .ag _ _ (by simpa using hl) fun k c u hc hu=>?_
  rw[Ag]at hc
  obtain⟨d,hd,rfl⟩:=Af.1 hc
  exact bHx hι (hh k d u hd hu)
 |d x v h=>exact .d _ _ h
 |nil=>exact .nil
 |own id off len sz b cap cur e h1 hb hcap hl hm=>exact .own _ _ _ _ b _ _ _ (hι _ _ h1) hb hcap hl hm
 |ptr id off b h1=>exact .ptr _ _ _ (hι _ _ h1)
 |mp id b h1=>exact .mp _ _ (hι _ _ h1)
 |fp cs ad f hF hcell hel=>exact .fp _ _ f hF hcell hel
 |fd els ad n h=>exact .fd _ _ _ h
 |un=>exact .un
 |ub t=>exact .ub t
 |kf f id b p e h1 hF hp=>exact .kf _ _ _ _ _ (hι _ _ h1) hF hp
 |_=>exact .any _
theorem bIg{o:HO}{ob:Obj}(hι:∀ j b,ι j=some b→ι' (ν j)=some b)(h:CR F w ι o ob):CR F w ι' (rQ ν o) ob:=by
 cases h with
 | cells e cs cur hl hh =>
  refine .cells _ _ _ (by simpa using hl) fun k c hk=>?_
  rw[Ag]at hk
  obtain⟨d,hd,rfl⟩:=Af.1 hk
  obtain⟨u,hu,hv⟩:=hh k d hd
  exact⟨u,hu,bHx hι hv⟩
 | map k es ents clock hl hst hh =>
  refine .map _ _ _ _ (by simpa using hl) hst fun k x hk=>?_
  rw[Ag]at hk
  obtain⟨d,hd,rfl⟩:=Af.1 hk
  obtain⟨en,h1,h2,h3⟩:=hh k d hd
  exact⟨en,h1,h2,bVu hι h3⟩
 |iter k last es bm since c0 clock seen ents hF hb hold hsc hnd hl h hla=>exact .iter k last es bm since c0 clock seen ents hF hb hold hsc hnd hl h hla
theorem uM{n:Nat}{x:AV}{v:Value}(hx:lf0 n x=true)(hι:∀ j b,j<n→ι (ν j)=some b→ι' j=some b)(h:V F w ι (aBo ν x) v):V F w ι' x v:=by
 cases x with
 |own id o l s=>cases h with|own _ _ _ _ b cap cur e h1 hb hcap hl hm=>exact .own _ _ _ _ b _ _ _ (hι _ _ (C5 hx) h1) hb hcap hl hm
 |ptr id o=>cases h with|ptr _ _ b h1=>exact .ptr _ _ _ (hι _ _ (C5 hx) h1)
 |mp id=>cases h with|mp _ b h1=>exact .mp _ _ (hι _ _ (C5 hx) h1)
 |kf f id=>cases h with|kf _ _ b p e h1 hF hp=>exact .kf _ _ _ _ _ (hι _ _ (C5 hx) h1) hF hp
 |d x=>cases h with|d _ _ h=>exact .d _ _ h
 |nil=>cases h with|nil=>exact .nil
 |fp cs=>cases h with|fp _ ad f hF hcell hel=>exact .fp _ _ f hF hcell hel
 |fd els=>cases h with|fd _ ad n h=>exact .fd _ _ _ h
 |un=>cases h with|un=>exact .un
 |ub=>cases h with|ub t=>exact .ub t
 |any=>exact .any _
 |_=>cases hx
theorem bHv{n:Nat}{x:AV}{v:Value}(hx:lf1 n x=true)(hι:∀ j b,j<n→ι (ν j)=some b→ι' j=some b)(h:V F w ι (bLi ν x) v):V F w ι' x v:=by
 cases x with
 | ag cs =>
  cases h with|ag _ vs hl hh =>
  refine .ag _ _ (by simpa using hl) fun k c u hc hu=>?_
  exact uM (AW.1 hx c (Ai hc)) hι (hh k _ u (by rw[Ag,hc];rfl) hu)
 |_=>exact uM hx hι h
theorem bIf{n:Nat}{o:HO}{ob:Obj}(hx:lfO n o=true)(hι:∀ j b,j<n→ι (ν j)=some b→ι' j=some b)(h:CR F w ι (rQ ν o) ob):CR F w ι' o ob:=by
 cases o with
 | cells e cs =>
  cases h with|cells _ _ cur hl hh =>
  refine .cells _ _ _ (by simpa using hl) fun k c hk=>?_
  obtain⟨u,hu,hv⟩:=hh k (aBo ν c) (by rw[Ag,hk];rfl)
  exact⟨u,hu,uM (AW.1 hx c (Ai hk)) hι hv⟩
 | map k es =>
  cases h with|map _ _ ents clock hl hst hh =>
  refine .map _ _ _ _ (by simpa using hl) hst fun k x hk=>?_
  obtain⟨en,h1,h2,h3⟩:=hh k (x.1,bLi ν x.2) (by rw[Ag,hk];rfl)
  exact⟨en,h1,h2,bHv (AW.1 hx x (Ai hk)) hι h3⟩
 |iter k last es=>cases h with|iter _ _ _ bm since c0 clock seen ents hF hb hold hsc hnd hl h hla=>exact .iter k last es bm since c0 clock seen ents hF hb hold hsc hnd hl h hla
end
def bRl(P:Program)[M:Mch P](f:FuncId)(h:AV)(o:HO)(hs:List HO)(ds:List D)(o':HO)(hs':List HO)(r:D):Prop :=
 ∀(A:Nat→Prop) (W:World) (vs:Array Value) (ι:Nat→Option Nat),(∀ b,A b→b<W.heap.size)→(∀ id,(∃ b,ι id=some b)↔id<hs.length+1)→(∀ id b,ι id=some b→b<W.heap.size∧¬A b) →
  (∀ id id' b,ι id=some b→ι id'=some b→id=id')→(∀ i b ob,(o::hs)[i]? = some ob→ι i=some b→∃ x,W.heap[b]? = some x∧CR A W ι ob x) →
  ds.length+1=vs.size→(∃ v,vs[0]? = some v∧V A W ι h v)→(∀(k:Nat) d v,ds[k]? = some d→vs[k+1]? = some v→VD A W d v) →
  (∀ w,aH P (callFunc f vs) w=.ok (.enter f vs) w)∧CX P f vs W fun v W'=>∃ F' ι',Kept (fun b=>∃ id,ι id=some b) W.heap.size W W' ∧
   (∀ b,F' b→A b∨(∃ id,0<id∧ι id=some b)∨(W.heap.size≤b∧b<W'.heap.size))∧VD F' W' r v∧(∀ id,(∃ b,ι' id=some b)↔id<hs'.length+1)∧ι' 0=ι 0 ∧
   (∀ id b,ι' id=some b→b<W'.heap.size∧¬F' b∧((∃ j,ι j=some b)∨W.heap.size≤b))∧(∀ id id' b,ι' id=some b→ι' id'=some b→id=id') ∧
   (∀ i b ob,(o'::hs')[i]? = some ob→ι' i=some b→∃ x,W'.heap[b]? = some x∧CR F' W' ι' ob x)
def bUp(i:Nat):HO→Bool
 |.cells _ cs=>cs.any (oJ i)
 |.map ..=>false
 |.iter ..=>false
theorem aGr{F:Nat→Prop}{w:World}{ι:Nat→Option Nat}{ν:Nat→Nat}{i:Nat}{x:AV}{v:Value}(hi:oJ i x=true)(h:V F w ι (aBo ν x) v):∃ b,ι (ν i)=some b:=by
 cases x with
 | own id o l s =>
  simp only[oJ,CW]at hi
  subst hi
  cases h with|own _ _ _ _ b cap cur e h1 hb hcap hl hm=>exact⟨b,h1⟩
 | ptr id o =>
  simp only[oJ,CW]at hi
  subst hi
  cases h with|ptr _ _ b h1=>exact⟨b,h1⟩
 | mp id =>
  simp only[oJ,CW]at hi
  subst hi
  cases h with|mp _ b h1=>exact⟨b,h1⟩
 |_=>cases hi
theorem zM{G:Ctx}{F:Nat→Prop}{w:World}{ι:Nat→Option Nat}{C:Nat→Prop}{K:Hp}(hR:HR G F w ι C K){ν:Nat→Nat}{l:List HO}{k:Nat}(hK:∀ i ob,l[i]? = some ob→K (ν i)=some (rQ ν ob))
  (h0:∃ b,ι (ν 0)=some b) (hm:∀ i,0<i→i<k→∃ j ob,j<i∧l[j]? = some ob∧bUp i ob=true):∀(n i:Nat),i≤n→i<k→∃ b,ι (ν i)=some b
 |0,i,hi,_=>by rw[show i=0 by omega];exact h0
 | n+1,i,hi,hk=>by
  rcases Bb i with rfl|hpos
  ·exact h0
  ·obtain⟨j,ob,hj,hl,hmt⟩:=hm i hpos hk
   obtain⟨b,hb⟩:=zM hR hK h0 hm n j (by omega) (by omega)
   obtain⟨y,_,hcr⟩:=hR.obj _ b _ hb (hK j ob hl)
   cases ob with
   |map k es=>cases hmt
   |iter k l es=>cases hmt
   | cells e cs =>
    simp only[bUp,List.any_eq_true]at hmt
    obtain⟨c,hc,hid⟩:=hmt
    obtain⟨q,hq,hqc⟩:=BC.1 hc
    cases hcr with|cells _ _ cur hlen hh =>
    obtain⟨u,_,hv⟩:=hh q (aBo ν c) (by rw[Ag,Ab hq,hqc];rfl)
    exact aGr hid hv
def nuL(ν:Nat→Nat)(k:Nat):List Nat:=(AK k).map fun i=>ν (i+1)
theorem tK{ν:Nat→Nat}{k id:Nat}:id∈nuL ν k↔∃ j,0<j∧j<k+1∧ν j=id:=by
 unfold nuL
 rw[A1]
 constructor
 ·rintro⟨i,hi,rfl⟩;exact⟨i+1,by omega,by simpa using hi,rfl⟩
 ·rintro⟨j,h1,h2,rfl⟩;exact⟨j-1,by simp;omega,by rw[show j-1+1=j by omega]⟩
def nuT(r n:Nat):Nat→Nat:=fun j=>if j=0 then r else n+(j-1)
section
variable {P:Program} [M:Mch P] {G:Ctx} {C:Nat→Prop} {H K:Hp} {Γ:Nat→AV} {o:Oper}
theorem bIl{f:FuncId}{args:Array Operand}{ts:Array TypeId}{x:Operand}{rest:List Operand}{ds:List D}{ν:Nat→Nat}{n:Nat}{h:AV}{ro ro':HO}{hs hs':List HO}{r:D}{K':Hp}
  (hop_:o.op=.call { callee:=.value (.func f),args:=args,argTypes:=ts }) (hargs:args.toList=x::rest) (hHK:∀ id ob,H id=some ob→K id=some ob)
  (hx:oev Γ x=aBo ν h) (hlf:lf0 (hs.length+1) h=true) (hνi:∀ i j,i<hs.length+1→j<hs.length+1→ν i=ν j→i=j) (hνH:∀ i ob,(ro::hs)[i]? = some ob→lfO (hs.length+1) ob=true∧H (ν i)=some (rQ ν ob)) (hC:∀ i,i<hs.length+1→¬C (ν i))
  (hlive:∀ i,i<hs.length+1→∀ F w ι (a:Act),HR G F w ι C K→(∀ t,CC t∈o.op.operands→V F w ι (Γ t) (a.tmps.getD t undef))→∃ b,ι (ν i)=some b)
  (hvis:bT H (rest.map (oev Γ))=[]) (hf:cI H (rest.map (oev Γ))=some ds) (hsp:bRl P f h ro hs ds ro' hs' r)
  (hK0:K' (ν 0)=some (rQ (nuT (ν 0) n) ro')) (hKn:∀ j ob,hs'[j]? = some ob→K' (n+j)=some (rQ (nuT (ν 0) n) ob))
  (hKo:∀ j ob,j≠ν 0→¬(n≤j∧j<n+hs'.length)→K' j=some ob→K j=some ob∧¬C j∧∀ i,i<hs.length+1→ν i≠j) (hν0n:ν 0<n) :
  Y P G o Γ C K K' (inj r) (fun i=>n≤i∧i<n+hs'.length) (fun i=>∃ j,0<j∧j<hs.length+1∧ν j=i):=by
 intro F w ι a hok hR hop hnew next hnext
 have hargs':args=(x::rest).toArray:=by rw[←hargs]
 have hop':∀ y∈x::rest,V F w ι (oev Γ y) (a.eval y):=fun y hy=>cE fun t e=>hop t (by rw[hop_];subst e;simp only[Aw,Bc];rw[hargs'];simpa using hy)
 have hlv:∀ i,i<hs.length+1→∃ b,ι (ν i)=some b:=fun i hi=>hlive i hi F w ι a hR hop
 obtain⟨hl,hV,_⟩:=mD hR hHK hf fun y hy=>hop' y (AJ _ hy)
 have hmap:args.map a.eval=(a.eval x::rest.map a.eval).toArray:=by rw[hargs'];simp
 -- the numbers that the function is given
 obtain⟨ιc,hιc⟩:∃ ιc:Nat→Option Nat,ιc=fun i=>if i<hs.length+1 then ι (ν i)else none:=⟨_,rfl⟩
 have c_in:∀ i,i<hs.length+1→ιc i=ι (ν i):=fun i hi=>by rw[hιc];exact Ap hi
 have c_some:∀ i b,ιc i=some b→i<hs.length+1∧ι (ν i)=some b:=fun i b hi=>by
  rw[hιc]at hi
  simp only at hi
  split at hi
  ·exact⟨by assumption,hi⟩
  ·cases hi
 have hroot:ν 0<n:=hν0n
 have hne:∀ i b,i<hs.length+1→ι (ν i)=some b→¬F b:=fun i b hi hb=>(hR.place _ b hb).2.2 (hC i hi)
 obtain⟨hent,hcalls⟩:=hsp F w (args.map a.eval) ιc hR.F_lt
  (fun id=>⟨fun⟨b,hb⟩=>(c_some id b hb).1,fun h=>by obtain⟨b,hb⟩:=hlv id h;exact⟨b,by rw[c_in id h];exact hb⟩⟩)
  (fun id b hb=>by obtain⟨h1,h2⟩:=c_some id b hb;exact⟨hR.ι_lt h2,hne id b h1 h2⟩)
  (fun id id' b h1 h2=>by
   obtain⟨q1,q2⟩:=c_some id b h1
   obtain⟨q3,q4⟩:=c_some id' b h2
   exact hνi id id' q1 q3 (hR.inj _ _ b q2 q4 (hC id q1) (hC id' q3)))
  (fun i b ob hob hb=>by
   obtain⟨q1,q2⟩:=c_some i b hb
   obtain⟨l1,l2⟩:=hνH i ob hob
   obtain⟨y,y1,y2⟩:=hR.obj _ b _ q2 (hHK _ _ l2)
   exact⟨y,y1,bIf l1 (fun j c hj hc=>by rw[c_in j hj];exact hc) y2⟩)
  (by rw[hmap];simp at hl ⊢;omega)
  ⟨a.eval x,by rw[hmap];simp,uM hlf (fun j c hj hc=>by rw[c_in j hj];exact hc) (by rw[←hx];exact hop' x (AI ..))⟩
  (fun k d v hk hv=>(hV k d v hk (by rw[hmap]at hv;simpa using hv)).mono fun c hc=>by
   rcases hc with hc|⟨i,hi,_⟩
   ·exact hc
   ·rw[hvis]at hi;cases hi)
 unfold wpX
 have hfe:a.eval (.func f)=.func (.func f) #[] #[]:=rfl
 simp only[execOp,hop_,resolve,invoke,Sem.run_bind,hfe,Cq,Sem.run_pure,AH,Ca,Cw,hent,iM]
 refine hcalls.mono ?_
 rintro v w' ⟨F1,ι1,hk,hF1,hvd,hdom,h0,hpl,hinj,hobj⟩
 have hsz:=hk.size
 have hW:G.W.heap.size≤w.heap.size:=hR.kept.size
 have rng:∀ b,(∃ id,ιc id=some b)→∃ i,i<hs.length+1∧ι (ν i)=some b:=fun b ⟨id,h⟩=>⟨id,c_some id b h⟩
 have hoth:∀ b,b<w.heap.size→(¬∃ i,i<hs.length+1∧ι (ν i)=some b)→w'.heap[b]? = w.heap[b]? := fun b h1 h2=>hk.block b h1 fun h=>h2 (rng b h)
 have hF1':∀ b,F1 b→F b∨(∃ i,0<i∧i<hs.length+1∧ι (ν i)=some b)∨(w.heap.size≤b∧b<w'.heap.size):=fun b hb=>by
  rcases hF1 b hb with h|⟨id,h1,h2⟩|h
  ·exact .inl h
  ·obtain⟨q1,q2⟩:=c_some id b h2;exact .inr (.inl ⟨id,h1,q1,q2⟩)
  ·exact .inr (.inr h)
 have h00:ι1 0=ι (ν 0):=by rw[h0,c_in 0 (by omega)]
 obtain⟨ι',hι'⟩:∃ ι':Nat→Option Nat,ι'=fun id=>if n≤id∧id<n+hs'.length then ι1 (id-n+1)else ι id:=⟨_,rfl⟩
 have e_new:∀ id,(n≤id∧id<n+hs'.length)→ι' id=ι1 (id-n+1):=fun id h=>by rw[hι'];exact Ap h
 have e_old:∀ id,¬(n≤id∧id<n+hs'.length)→ι' id=ι id:=fun id h=>by rw[hι'];exact Ah h
 have e_nu:∀ j b,ι1 j=some b→ι' (nuT (ν 0) n j)=some b:=fun j b hj=>by
  have hlt:=(hdom j).1 ⟨b,hj⟩
  unfold nuT
  by_cases hj0:j=0
  ·subst hj0
   rw[Ap rfl,e_old _ (by omega),←h00];exact hj
  ·rw[Ah hj0,e_new _ (by omega),show n+(j-1)-n+1=j by omega];exact hj
 have split:∀ id b,ι' id=some b→(n≤id∧id<n+hs'.length∧ι1 (id-n+1)=some b)∨(¬(n≤id∧id<n+hs'.length)∧ι id=some b):=fun id b h=>by
  by_cases hid:n≤id∧id<n+hs'.length
  ·rw[e_new id hid]at h;exact .inl ⟨hid.1,hid.2,h⟩
  ·rw[e_old id hid]at h;exact .inr ⟨hid,h⟩
 have hs0:Step F w ι (fun b=>F b∨F1 b) w' ι':=⟨fun _ h=>.inl h,fun b h=>hoth b (hR.F_lt b h) fun⟨i,hi,hb⟩=>hne i b hi hb h,fun id b h=>by
  by_cases hid:n≤id∧id<n+hs'.length
  ·rw[hnew id hid]at h;cases h
  ·rw[e_old id hid];exact h,fun id b cur e hi h=>hk.shape b cur e (hR.ι_lt hi) h⟩
 have hs1:Step F1 w' ι' (fun b=>F b∨F1 b) w' ι':=⟨fun _ h=>.inr h,fun _ _=>rfl,fun _ _ h=>h,fun id b cur e hi h=>⟨cur,h,rfl⟩⟩
 -- an old number that is not used up and not the root's lies apart
 have apart:∀ id b,ι id=some b→¬C id→(∀ i,i<hs.length+1→ν i≠id)→¬∃ i,i<hs.length+1∧ι (ν i)=some b:=fun id b h1 h2 h3 ⟨i,hi,hb⟩ =>
  h3 i hi (hR.inj _ _ b hb h1 (hC i hi) h2)
 have cr:∀ i b j,ι1 (j+1)=some b→ι i=some b→¬(C i∨∃ k,0<k∧k<hs.length+1∧ν k=i)→False:=fun i b j q1 q2 q3=>by
  rcases(hpl _ b q1).2.2 with p|p
  ·obtain⟨k,hk1,hb⟩:=rng b p
   have e:=hR.inj _ _ b hb q2 (hC k hk1) (fun h=>q3 (.inl h))
   rcases Bb k with rfl|hk0
   ·have:=hinj 0 (j+1) b (by rw[h00];exact hb) q1;omega
   ·exact q3 (.inr ⟨k,hk0,hk1,e⟩)
  ·have:=hR.ι_lt q2;omega
 refine hnext (fun b=>F b∨F1 b) w' ι' v ⟨hR.kept.trans ⟨hk.os,hk.tape,hk.output,hk.size,fun k hkW hm=>hoth k (by omega) fun⟨i,hi,hb⟩=>?_,fun k cur e hkW hc=>hk.shape k cur e (by omega) hc⟩,?_,?_,?_,?_,?_,?_⟩ hs0 (fun id b h=>?_) (fun id hid=>?_) (aAy (hvd.mono fun _ h=>.inr h))
 ·rcases(hR.place _ k hb).1 with h|h
  ·exact hm h
  ·omega
 ·rintro b (h|h)
  ·have:=hR.F_lt b h;omega
  ·rcases hF1' b h with h|⟨i,_,_,h⟩|h
   ·have:=hR.F_lt b h;omega
   ·have:=hR.ι_lt h;omega
   ·exact h.2
 ·rintro b (h|h)
  ·exact hR.F_ok b h
  ·rcases hF1' b h with h|⟨i,_,_,h⟩|h
   ·exact hR.F_ok b h
   ·exact .inr (hR.place _ b h).1
   ·exact .inr (.inr (by omega))
 ·intro id b h
  rcases split id b h with ⟨_,_,h⟩|⟨hn,h⟩
  ·obtain⟨p1,p2,p3⟩:=hpl _ b h
   refine⟨?_,p1,fun _ hF=>?_⟩
   ·rcases p3 with p3|p3
    ·obtain⟨i,_,hb⟩:=rng b p3;exact(hR.place _ b hb).1
    ·exact .inr (by omega)
   ·rcases hF with hF|hF
    ·rcases p3 with p3|p3
     ·obtain⟨i,hi,hb⟩:=rng b p3;exact hne i b hi hb hF
     ·have:=hR.F_lt b hF;omega
    ·exact p2 hF
  ·obtain⟨p1,p2,p3⟩:=hR.place id b h
   refine⟨p1,by omega,fun hc hF=>?_⟩
   have hc1:¬C id:=fun h=>hc (.inl h)
   rcases hF with hF|hF
   ·exact p3 hc1 hF
   ·rcases hF1' b hF with q|⟨i,q1,q2,q3⟩|q
    ·exact p3 hc1 q
    ·exact hc (.inr ⟨i,q1,q2,hR.inj _ _ b q3 h (hC i q2) hc1⟩)
    ·omega
 ·intro id b ob h hob
  rcases split id b h with ⟨h1,h2,h⟩|⟨hn,h⟩
  ·obtain⟨j,rfl⟩:∃ j,id=n+j:=⟨id-n,by omega⟩
   rw[show n+j-n+1=j+1 by omega]at h
   have hg:hs'[j]? = some hs'[j]:=Ab (by omega)
   rw[hKn j _ hg]at hob
   injection hob with hob;subst hob
   obtain⟨y,y1,y2⟩:=hobj (j+1) b hs'[j] (by simp) h
   exact⟨y,y1,(bIg e_nu y2).step hs1⟩
  ·by_cases hr:id=ν 0
   ·subst hr
    rw[hK0]at hob
    injection hob with hob;subst hob
    obtain⟨y,y1,y2⟩:=hobj 0 b ro' rfl (by rw[h00];exact h)
    exact⟨y,y1,(bIg e_nu y2).step hs1⟩
   ·obtain⟨q1,q2,q3⟩:=hKo id ob hr hn hob
    obtain⟨y,y1,y2⟩:=hR.obj id b ob h q1
    exact⟨y,(hoth b (hR.ι_lt h) (apart id b h q2 q3)).trans y1,y2.step hs0⟩
 ·intro id id' b h h' hc hc'
  rcases split id b h with ⟨h1,h2,h⟩|⟨hn,h⟩<;>rcases split id' b h' with ⟨h1',h2',h'⟩|⟨hn',h'⟩
  ·have:=hinj _ _ b h h';omega
  ·exact(cr id' b _ h h' hc').elim
  ·exact(cr id b _ h' h hc).elim
  ·exact hR.inj id id' b h h' (fun x=>hc (.inl x)) fun x=>hc' (.inl x)
 ·intro id id' b o1 o2 h h' hc ho1 ho2
  have old:∀ i ob,¬(n≤i∧i<n+hs'.length)→K' i=some ob→¬C i∧(i=ν 0∨∀ k,k<hs.length+1→ν k≠i):=fun i ob q1 q2=>by
   by_cases hr:i=ν 0
   ·exact⟨by rw[hr];exact hC 0 (by omega),.inl hr⟩
   ·obtain⟨_,p2,p3⟩:=hKo i ob hr q1 q2;exact⟨p2,.inr p3⟩
  have same:id=id'→o2.len≤o1.len:=fun e=>by
   subst e;rw[ho1]at ho2;injection ho2 with ho2;subst ho2;exact AA _
  rcases split id b h with ⟨h1,h2,h⟩|⟨hn,h⟩<;>rcases split id' b h' with ⟨h1',h2',h'⟩|⟨hn',h'⟩
  ·exact same (by have:=hinj _ _ b h h';omega)
  ·obtain⟨q1,q2⟩:=old id' o2 hn' ho2
   exfalso
   rcases q2 with q2|q2
   ·subst q2
    have:=hinj 0 _ b (by rw[h00];exact h') h;omega
   ·refine cr id' b _ h h' fun hx=>?_
    rcases hx with hx|⟨k,_,hk2,hk3⟩
    ·exact q1 hx
    ·exact q2 k hk2 hk3
  ·exact(cr id b _ h' h hc).elim
  ·exact same (hR.inj id id' b h h' (fun x=>hc (.inl x)) (old id' o2 hn' ho2).1)
 ·rcases split id b h with ⟨h1,h2,_⟩|⟨_,h⟩
  ·exact .inr ⟨h1,h2⟩
  ·exact .inl h
 ·obtain⟨b,hb'⟩:=(hdom (id-n+1)).2 (by omega)
  exact⟨b,by rw[e_new id hid];exact hb'⟩
end
end Go.Am
end
section
open List renaming map_map→ζ,mapM_map→ξ
namespace Go.Am
def bXj(o:Oper):Bool:=match o.op with|.defer _=>false|_=>true
def rF(ops:Array Oper):Bool:=ops.all bXj
def fT:Code→Bool
 |.region _ ops _=>rF ops
 |.seq x y|.cond _ x y=>fT x&&fT y
 |.block _ c|.loop c=>fT c
 |.scope _=>false
 |_=>true
structure WpR(P:Program)[M:Mch P](rd:Bool)(W:Code→(Exit→Act→World→Prop)→Act→World→Prop):Prop where
 mono:∀{c:Code} {Q Q':Exit→Act→World→Prop} {a:Act} {w:World},W c Q a w→(∀ e a w,Q e a w→Q' e a w)→W c Q' a w
 okv:∀{c:Code} {Q:Exit→Act→World→Prop} {a:Act} {w:World},(OkV w→W c Q a w)→W c Q a w
 skip:∀{Q:Exit→Act→World→Prop} {a:Act} {w:World},Q .normal a w→W .skip Q a w
 label:∀{l:Nat} {Q:Exit→Act→World→Prop} {a:Act} {w:World},Q .normal a w→W (.label l) Q a w
 exit:∀{id:Nat} {Q:Exit→Act→World→Prop} {a:Act} {w:World},Q (.exit id) a w→W (.exit id) Q a w
 ret:∀{Q:Exit→Act→World→Prop} {a:Act} {w:World},Q .ret a w→W .ret Q a w
 regL:∀{id:Nat} {ops:Array Oper} {Q:Exit→Act→World→Prop} {a:Act} {w:World},(rd=true→rF ops=true)→gD P ops Q ops.toList a w→W (.region id ops false) Q a w
 regA:∀{id:Nat} {ops:Array Oper} {Q:Exit→Act→World→Prop} {a:Act} {w:World},P.follows .mixedOrders=true→(rd=true→rF ops=true) →
  (∀ d,wS P ops Q ops.size (AU ops.size false) a { w with drawn:=d })→W (.region id ops true) Q a w
 seq:∀{x y:Code} {Q:Exit→Act→World→Prop} {a:Act} {w:World},W x (Exit.then (W y Q) Q) a w→W (.seq x y) Q a w
 cond:∀{c:Operand} {x y:Code} {t:Bool} {Q:Exit→Act→World→Prop} {a:Act} {w:World},a.eval c=.bool t→W (if t then x else y) Q a w→W (.cond c x y) Q a w
 block:∀{id:Nat} {c:Code} {Q:Exit→Act→World→Prop} {a:Act} {w:World},W c (Exit.inBlock id Q) a w→W (.block id c) Q a w
 loop:∀{c:Code} {Q:Exit→Act→World→Prop} {a:Act} {w:World} (I:Nat→Act→World→Prop),(∃ n,I n a w) →
  (∀ n a w,I n a w→W c (Exit.then (fun a' w'=>∃ m,m<n∧I m a' w') Q) a w)→W (.loop c) Q a w
 scope:∀{c:Code} {Q:Exit→Act→World→Prop} {a:Act} {w:World},rd=false→W c (Exit.noGoto Q) a w→W (.scope c) Q a w
theorem WpR.plain(P:Program)[M:Mch P]:WpR P false (WC P) where
 mono h hq:=bQ h hq
 okv h:=fun Win hW hv=>h hv Win hW hv
 skip h:=xF h
 label h:=aYi h
 exit h:=aQh h
 ret h:=yC h
 regL _ h:=gX h
 regA hm _ h:=bJf hm h
 seq h:=eB h
 cond hc h:=nA hc h
 block h:=yD h
 loop I h0 h:=aQg I h0 h
 scope _ h:=aHe h
def bEt(P:Program)(ops:Array Oper)(listed:Array Bool)(i:Nat):Bool :=
 match ops[i]? with
 |none=>false
 | some oi=>(AK ops.size).all fun j=>j==i||listed.getD j true||match ops[j]? with
   |some oj=>oj.after.any (fun e=>Ez .any e&&e.on==i)||vU P ops oi oj||dep ops 12 j i
   |none=>true
def pE(P:Program)(ops:Array Oper):Nat→Nat→Array Bool→Bool
 |0,_,listed=>(Bo .any ops listed).isEmpty
 |fuel+1,k,listed=>(Bo .any ops listed).contains k&&bEt P ops listed k&&pE P ops fuel (k+1) (listed.setIfInBounds k true)
def bDs:Op→Bool
 |.next ..=>true
 |_=>false
def fM(l:List Oper):Bool:=l.all fun o=>!bDs o.op
def bDa(P:Program)(ops:Array Oper):Bool:=fM ops.toList&&pE P ops ops.size 0 (AU ops.size false)
section
variable {P:Program} [M:Mch P] {G:Ctx} {ops:Array Oper}
theorem aOm{i:Nat}{oi:Oper}{listed:Array Bool}(hi:ops[i]? = some oi)(h:bEt P ops listed i=true)(j:Nat)(oj:Oper)
  (hj:ops[j]? = some oj) (hne:j≠i) (hun:listed.getD j true=false) (hno:∀ e∈oj.after,Ez .any e=true→e.on≠i) (hnd:dep ops 12 j i=false):vU P ops oi oj=true:=by
 simp only[bEt,hi,AW,CI]at h
 have h1:=h j (AZ.1 hj).1
 simp only[hj,Bool.or_eq_true,CW,hne,false_or,hun,Bool.false_eq_true,hnd,FK]at h1
 rcases h1 with h1|h1
 ·obtain⟨e,he,hb⟩:=Array.any_eq_true'.1 h1
  simp only[AR,CW]at hb
  exact absurd hb.2 (hno e he hb.1)
 ·exact h1
def xC(P:Program)[M:Mch P](G:Ctx)(ops:Array Oper)(Q:AS→Prop):List Oper→AS→Prop
 |[],s=>Q s
 |o::l,s=>∃ s',pY P G ops o s s'∧xC P G ops Q l s'
theorem aLf[M:Mch P]{Q:AS→Prop}:∀(l:List Oper) (k:Nat) (listed:Array Bool) (s:AS),Dc ops listed→(∀ j,l[j]? = ops[k+j]?)→pE P ops l.length k listed=true→xC P G ops Q l s→bHu P G ops Q l.length listed s
 |[],_,_,_,_,_,hB,h=>⟨by simpa[pE]using hB,h⟩
 | o::l,k,listed,s,hdc,hl,hB,h=>by
  have h0:ops[k]? = some o:=by simpa using(hl 0).symm
  simp only[List.length_cons,pE,AR]at hB
  obtain⟨⟨hr,hf⟩,hB'⟩:=hB
  obtain⟨s',hd,hK⟩:=h
  exact aPu h0 l.length listed s s' hdc (aOm h0 hf) (by simpa using hr) hd
   (aLf l (k+1) _ _ (bIb hdc (by simpa using hr)) (fun j=>by have:=hl (j+1);simpa[DW,Ey 1 j]using this) hB' hK)
def mH(G:Ctx)(N:Nat)(ds:List Deferred)(s:AS)(a:Act)(w:World):Prop :=
 OkV w∧∃ F ι,HR G F w ι s.T s.K∧(∀ id,(∃ b,ι id=some b)↔s.U id)∧(∀ t,V F w ι (s.Γ t) (a.tmps.getD t undef))∧(a.tmps.size=N∧∀ t v,G.Z t=some v→a.tmps.getD t undef=v)∧a.defers=ds∧∀ b,ι 0=some b→G.P0 b
theorem iU(a:Act)(dst:Option Tmp)(u:Value)(h:∀ d,dst=some d→d<a.tmps.size)(t:Nat):(a.put dst u).tmps.getD t undef=if dst=some t then u else a.tmps.getD t undef:=by
 cases dst with
 |none=>simp[C0]
 | some d =>
  have hd:=h d rfl
  simp only[C0,Ay,At]
  by_cases e:d=t
  ·subst e;rw[Ap rfl,Array.getElem?_setIfInBounds_self_of_lt hd];rfl
  ·rw[Ah e,Array.getElem?_setIfInBounds_ne e]
theorem qD{o:Oper}{Γ:Nat→AV}{F:Nat→Prop}{w:World}{ι:Nat→Option Nat}{a:Act}{x:Bool}(h:cR ops o Γ=some x)(hV:∀ t,V F w ι (Γ t) (a.tmps.getD t undef)) :
  Bl o (yielded ops a.tmps)=x:=by
 unfold cR at h
 unfold Bl
 cases hg:o.guard with
 |none=>simp only[hg]at h;injection h
 | some gw =>
  obtain⟨j,want⟩:=gw
  simp only[hg]at h ⊢
  unfold yielded
  cases hd:(ops[j]?).bind (·.dst)with
  |none=>simp only[hd,At]at h;rw[←h];cases want<;>rfl
  | some d =>
   simp only[hd]at h
   have hv:=hV d
   simp only[El]
   rw[Ay]at hv
   split at h
   ·rename_i y hy
    injection h with h;subst h
    rw[hy]at hv
    cases ht:a.tmps[d]? with
    |none=>rw[ht]at hv;simp only[Option.getD_none]at hv;cases hv with|d _ _ hv=>cases hv
    | some v =>
     rw[ht]at hv;simp only[AT]at hv
     cases hv with|d _ _ hv=>cases hv with|b =>
     cases y<;>cases want<;>rfl
   ·rename_i hy
    injection h with h;subst h
    rw[hy]at hv
    cases ht:a.tmps[d]? with
    |none=>rfl
    | some v =>
     rw[ht]at hv;simp only[AT]at hv
     generalize hu:v=v' at hv
     cases hv;rfl
   ·cases h
theorem bRz[M:Mch P]{o:Oper}{a:Act}{w:World}{K:Act→World→Prop}(hok:OkV w)(h:wpX P o a w fun a' w'=>OkV w'→K a' w'):wpX P o a w K:=by
 unfold wpX at h ⊢
 cases hr:aH P (execOp a.eval o) w with
 |halt x w'=>rw[hr]at h;exact h
 | ok n w' =>
  rw[hr]at h
  have hok':=aRb hok hr
  cases n<;>simp only[iM]at h ⊢<;>first
  |exact h hok'
  |exact fun Win hW hv c cs hk=>h Win hW hv c cs fun x v' ho hx=>hk x v' ho (hx ho)
theorem HR.env{F:Nat→Prop}{w v1:World}{ι:Nat→Option Nat}{C:Nat→Prop}{H:Hp}(hR:HR G F w ι C H)(he:Env w v1):HR G F v1 ι C H∧Step F w ι F v1 ι:=by
 have hst:Step F w ι F v1 ι:=⟨fun _ h=>h,fun b h=>he.get (hR.F_lt b h),fun _ _ h=>h,fun id b cur e hi h=>⟨cur,(he.get (hR.ι_lt hi)).trans h,rfl⟩⟩
 have hsz:=he.size
 have hW:=hR.kept.size
 refine⟨⟨hR.kept.trans ⟨he.os,he.tape,he.output,hsz,fun k hk _=>he.get (by omega),fun k cur e hk hc=>⟨cur,(he.get (by omega)).trans hc,rfl⟩⟩,fun b h=>by have:=hR.F_lt b h;omega,hR.F_ok,fun id b e=>?_,fun id b o h1 h2=>?_,hR.inj,hR.len⟩,hst⟩
 ·obtain⟨p1,p2,p3⟩:=hR.place id b e
  exact⟨p1,by omega,p3⟩
 ·obtain⟨ob,h3,h4⟩:=hR.obj id b o h1 h2
  exact⟨ob,(he.get (hR.ι_lt h1)).trans h3,h4.step hst⟩
theorem mH.env{N:Nat}{ds:List Deferred}{s:AS}{a:Act}{w v1:World}(h:mH G N ds s a w)(he:Env w v1):mH G N ds s a v1:=by
 obtain⟨hok,F,ι,hR,hdom,hV,hN,hds,hp⟩:=h
 obtain⟨hR',hst⟩:=hR.env he
 exact⟨he.okV hok,F,ι,hR',hdom,fun t=>(hV t).step hst,hN,hds,hp⟩
theorem nQ{N:Nat}{ds:List Deferred}{o:Oper}{s s':AS}{a:Act}{w:World}{K:Act→World→Prop}(hd:pY P G ops o s s')(hdst:∀ d,o.dst=some d→d<N∧G.Z d=none)(hrel:mH G N ds s a w)
  (hK:∀ a' w',mH G N ds s' a' w'→K a' w'):if Bl o (yielded ops a.tmps)then ∀ v1,Env w v1→wpX P o a v1 K else K (a.put o.dst undef) w:=by
 obtain⟨hok,F,ι,hR,hdom,hV,hN,hds,hp⟩:=hrel
 have hputN:∀ u,(a.put o.dst u).tmps.size=N∧∀ t v,G.Z t=some v→(a.put o.dst u).tmps.getD t undef=v:=fun u=>by
  refine⟨by cases o.dst<;>simp[C0,hN.1],fun t v hz=>?_⟩
  rw[iU a o.dst u (fun d h=>by rw[hN.1];exact(hdst d h).1) t,Ah (fun e=>by rw[(hdst t e).2]at hz;cases hz)]
  exact hN.2 t v hz
 have hputd:∀ u,(a.put o.dst u).defers=ds:=fun u=>by cases o.dst<;>simp[C0,hds]
 cases hd with
 | no hw =>
  rw[qD hw hV,Ah (by simp)]
  exact hK _ _ ⟨hok,F,ι,hR,hdom,aLg hV .un fun t=>iU a o.dst undef (fun d h=>by rw[hN.1];exact(hdst d h).1) t,hputN _,hputd _,hp⟩
 | yes av new con K' hw hev hU hT h0 =>
  have hY:Y P G o s.Γ s.T s.K K' av new con:=by
   rcases hev with ⟨_,rfl,rfl,h⟩|⟨_,rfl,hcT,_,h⟩|⟨_,rfl,rfl,id,t,old,ho,_,_,hold,hT,rfl,h⟩|⟨_,S,g,q1,_,_,_,rfl,h⟩
   ·exact h _ _ fun _ _=>rfl
   ·exact h _ hcT
   ·exact h _ _ hold hT
   ·exact h _ _ (fun id hid=>⟨q1 id hid,rfl⟩) fun id hid=>⟨hT id hid,rfl⟩
  rw[qD hw hV,Ap rfl]
  intro v1 he
  obtain⟨hR1,hst1⟩:=hR.env he
  refine bRz (he.okV hok) (hY F v1 ι a (he.okV hok) hR1 (fun t _=>(hV t).step hst1) (fun id hn=>?_) (fun a' w'=>OkV w'→K a' w') fun F' w' ι' u hR' hs hd1 hd2 hv hok'=>?_)
  ·cases hi:ι id with
   |none=>rfl
   |some b=>exact absurd ((hdom id).1 ⟨b,hi⟩) (hU id hn)
  ·refine hK _ _ ⟨hok',F',ι',hR',fun id=>⟨?_,?_⟩,aLg (fun t=>((hV t).step hst1).step hs) hv fun t=>iU a o.dst u (fun d h=>by rw[hN.1];exact(hdst d h).1) t,hputN _,hputd _,fun b hb=>(hd1 0 b hb).elim (hp b) fun h=>h0 h b⟩
   ·rintro⟨b,hb⟩
    rcases hd1 id b hb with h|h
    ·exact .inl ((hdom id).1 ⟨b,h⟩)
    ·exact .inr h
   ·rintro(h|h)
    ·obtain⟨b,hb⟩:=(hdom id).2 h
     exact⟨b,hs.ι_le _ _ hb⟩
    ·exact hd2 id h
theorem oM{N:Nat}{ds:List Deferred}{Q:AS→Prop}{Q':Exit→Act→World→Prop}(hdst:∀(i:Nat) (o:Oper) (d:Tmp),ops[i]? = some o→o.dst=some d→d<N∧G.Z d=none)(hQ:∀ s a w,Q s→mH G N ds s a w→Q' .normal a w) :
  ∀(fuel:Nat) (listed:Array Bool) (s:AS) (a:Act) (w:World),mH G N ds s a w→bHu P G ops Q fuel listed s→wS P ops Q' fuel listed a w
 |0,_,s,a,w,hr,h=>⟨h.1,hQ s a w h.2 hr⟩
 | fuel+1,listed,s,a,w,hr,h=>by
  refine⟨fun h0=>hQ s a w (h.1 h0) hr,fun i hi=>?_⟩
  have h1:=h.2 i hi
  unfold aOp at h1
  split
  ·rename_i ho
   simp only[ho]at h1
   exact oM hdst hQ fuel _ s a w hr h1
  ·rename_i o ho
   simp only[ho]at h1
   rcases h1 with h1|⟨s',hd,h1⟩
   ·obtain⟨hok,F,ι,hR,hdom,hV,_,_,_⟩:=hr
    exact(h1 F w ι a hok hR (fun id b hb=>(hdom id).1 ⟨b,hb⟩) hV).elim
   ·exact nQ (K:=wS P ops Q' fuel (listed.setIfInBounds i true)) hd (fun d h=>hdst i o d ho h) hr fun a' w' hr'=>oM hdst hQ fuel _ s' a' w' hr' h1
theorem mH.drew{N:Nat}{ds:List Deferred}{s:AS}{a:Act}{w:World}(h:mH G N ds s a w)(d:Nat):mH G N ds s a { w with drawn:=d }:=h.env ⟨rfl,rfl,rfl,0,by simp⟩
theorem aIc{rd:Bool}{WW:Code→(Exit→Act→World→Prop)→Act→World→Prop}(hW:WpR P rd WW){id N:Nat}{ds:List Deferred}{Q:AS→Prop}{Q':Exit→Act→World→Prop}{s:AS}{a:Act}{w:World}(hm:P.follows .mixedOrders=true)(hnd:rd=true→rF ops=true)(hB:bDa P ops=true)
  (hdst:∀(i:Nat) (o:Oper) (d:Tmp),ops[i]? = some o→o.dst=some d→d<N∧G.Z d=none) (hrel:mH G N ds s a w) (h:xC P G ops Q ops.toList s) (hQ:∀ s a w,Q s→mH G N ds s a w→Q' .normal a w) :
  WW (.region id ops true) Q' a w:=by
 refine hW.regA hm hnd fun d=>oM hdst hQ _ _ s a _ (hrel.drew d) ?_
 have:=aLf (P:=P) (G:=G) (Q:=Q) ops.toList 0 (AU ops.size false) s (fun m om hm=>by simp only[Ay,Array.getElem?_replicate]at hm;split at hm<;>cases hm) (by simp) (by rw[BA];exact(Bool.and_eq_true_iff.1 hB).2) h
 simpa using this
end
def bFa:AV→Bool
 |.d (.i _ _)|.d (.b _)=>true
 |_=>false
def tX:HO→Bool
 |.cells _ cs=>cs.all bFa
 |_=>false
theorem bVv{F F':Nat→Prop}{w:World}{ι ι':Nat→Option Nat}{x:AV}{v:Value}(h:bFa x=true)(hv:V F w ι x v):V F' w ι' x v:=by
 unfold bFa at h
 split at h
 ·cases hv with|d _ _ hv=>cases hv with|i=>exact .d _ _ (.i _ _)
 ·cases hv with|d _ _ hv=>cases hv with|b=>exact .d _ _ (.b _)
 ·cases h
theorem aSp{F F':Nat→Prop}{w:World}{ι ι':Nat→Option Nat}{o:HO}{ob:Obj}(h:tX o=true)(hc:CR F w ι o ob):CR F' w ι' o ob:=by
 cases hc with
 |cells e cs cur hl hh=>exact .cells _ _ _ hl fun k c hk=>let ⟨u,h1,h2⟩:=hh k c hk;⟨u,h1,bVv (AW.1 h c (Ai hk)) h2⟩
 |map=>cases h
 |iter=>cases h
def aLi(P:Program)[M:Mch P](f:FuncId)(d0:D)(h:AV)(o:HO)(ds:List D)(o':HO):Prop :=
 ∀(A:Nat→Prop) (W:World) (vs:Array Value) (b:Nat),(∀ k,A k→k<W.heap.size)→¬A b→b<W.heap.size→(∃ ob,W.heap[b]? = some ob∧CR A W (ι1 b) o ob)→ds.length+2=vs.size →
  (∃ v,vs[0]? = some v∧VD A W d0 v)→(∃ v,vs[1]? = some v∧V A W (ι1 b) h v)→(∀(k:Nat) d v,ds[k]? = some d→vs[k+2]? = some v→VD A W d v) →
  (∀ w,aH P (callFunc f vs) w=.ok (.enter f vs) w)∧CX P f vs W fun v w'=>∃ ob',Kept (·=b) W.heap.size W w'∧w'.heap[b]? = some ob' ∧
   (∀ cur e,W.heap[b]? = some (.cells cur e (0,0))→∃ cur',ob'=.cells cur' e (0,0)∧cur'.size=cur.size) ∧
   CR (fun k=>A k∨(W.heap.size≤k∧k<w'.heap.size)) w' (ι1 b) o' ob'∧VD (fun k=>A k∨(W.heap.size≤k∧k<w'.heap.size)) w' (.tp []) v
section
variable {P:Program} [M:Mch P] {G:Ctx} {C:Nat→Prop} {H K:Hp} {Γ:Nat→AV} {o:Oper}
theorem bIn{f:FuncId}{args:Array Operand}{ts:Array TypeId}{x y:Operand}{rest:List Operand}{d0:D}{ds:List D}{id:Nat}{h:AV}{ho ho':HO}{K':Hp}
  (hop_:o.op=.call { callee:=.value (.func f),args:=args,argTypes:=ts }) (hargs:args.toList=x::y::rest) (hHK:∀ id ob,H id=some ob→K id=some ob) (hx0:oev Γ x=.d d0)
  (hx:hd1 (oev Γ y)=some (id,h)) (hH:H id=some ho) (hno:tX ho=true) (hnv:id ∉ bT H (rest.map (oev Γ))) (hCv:∀ i∈bT H (rest.map (oev Γ)),¬C i) (hf:cI H (rest.map (oev Γ))=some ds) (hs:aLi P f d0 h ho ds ho')
  (hlen:ho'.len=ho.len) (hno':tX ho'=true) (hC:¬C id) (hK':K' id=some ho') (hsub:∀ j o,j≠id→K' j=some o→K j=some o∧¬C j):Y P G o Γ C K K' (inj (.tp [])) aW aW:=by
 intro F w ι a hok hR hop _ next hnext
 have hargs':args=(x::y::rest).toArray:=by rw[←hargs]
 have hop':∀ z∈x::y::rest,V F w ι (oev Γ z) (a.eval z):=fun z hz=>cE fun t e=>hop t (by rw[hop_];subst e;simp only[Aw,Bc];rw[hargs'];simpa using hz)
 obtain⟨b,hι,hv0⟩:=aKa (F':=reach F ι (bT H (rest.map (oev Γ)))) hx (hop' y (by simp))
 obtain⟨ob,hb,hcr⟩:=hR.obj id b ho hι (hHK _ _ hH)
 obtain⟨hl,hV,_⟩:=mD hR hHK hf fun z hz=>hop' z (by simp[hz])
 have hmap:args.map a.eval=(a.eval x::a.eval y::rest.map a.eval).toArray:=by rw[hargs'];simp
 have hnF:¬F b:=(hR.place id b hι).2.2 hC
 have hd0:VD F w d0 (a.eval x):=by
  have:=hop' x (by simp)
  rw[hx0]at this
  cases this with|d _ _ h=>exact h
 obtain⟨hent,hcalls⟩:=hs (reach F ι (bT H (rest.map (oev Γ)))) w (args.map a.eval) b (fun k hk=>by
   rcases hk with hk|⟨i,hi,hk⟩
   ·exact hR.F_lt k hk
   ·exact hR.ι_lt hk) (fun hk=>by
   rcases hk with hk|⟨i,hi,hk⟩
   ·exact hnF hk
   ·have:=hR.inj i id b hk hι (hCv i hi) hC
    rw[this]at hi;exact hnv hi) (hR.ι_lt hι) ⟨ob,hb,aSp hno hcr⟩ (by rw[hmap];simp at hl ⊢;omega) ⟨a.eval x,by rw[hmap];simp,hd0.mono fun c hc=>.inl hc⟩ ⟨a.eval y,by rw[hmap];simp,hv0⟩
  (fun k d v hk hv=>hV k d v hk (by rw[hmap]at hv;simpa using hv))
 unfold wpX
 have hfe:a.eval (.func f)=.func (.func f) #[] #[]:=rfl
 simp only[execOp,hop_,resolve,invoke,Sem.run_bind,hfe,Cq,Sem.run_pure,AH,Ca,Cw,hent,iM]
 refine hcalls.mono ?_
 rintro v w' ⟨ob',hk,hb',hshape,hcr',hvd⟩
 obtain⟨hR',hst⟩:=hR.write (K':=K') (ob':=ob') (ho:=ho') hC hι (hHK _ _ hH) hlen hk hb hb' (fun cur e he=>hshape cur e (by rw[hb,he])) (fun _=>aSp hno' hcr') hK' hsub
 refine hnext _ w' ι v (hR'.congrC fun id=>by simp[aW]) hst (fun _ _ h=>.inl h) (fun _ h=>h.elim) ?_
 cases hvd with
 |tp cs vs hl h=>exact .tp _ _ (by simpa using hl) fun k c v hk _=>by simp at hk
end
structure St where
 Γ:Nat→AV
 H:Hp
 n:Nat
def kill(l:List Nat)(H:Hp):Hp:=match l with|[]=>H|_=>fun id=>if id∈l then none else H id
def fZ(H:Hp)(n:Nat)(nb:Option HO):Hp:=match nb with|some ho=>upd H n (some ho)|none=>H
def cnt(nb:Option HO)(n:Nat):Nat:=match nb with|some _=>n+1|none=>n
def tcH(H:Hp)(n r:Nat)(l:List Nat)(ro':HO)(hs':List HO):Hp:=fun id =>
 if n≤id∧id<n+hs'.length then(hs'[id-n]?).map (rQ (nuT r n))else if id=r then some (rQ (nuT r n) ro')else if id∈l then none else H id
def TCo(P:Program)[M:Mch P](f:FuncId)(x:AV)(rest:List AV)(dst:Option Tmp)(σ:St)(con:List Nat)(k:St→List Nat→Prop):Prop :=
 0<σ.n∧∃(ν:Nat→Nat) (h:AV) (ro:HO) (hs:List HO) (ds:List D) (ro':HO) (hs':List HO) (r:D),x=aBo ν h∧oJ 0 h=true∧lf0 (hs.length+1) h=true∧(∀ i j,i<hs.length+1→j<hs.length+1→ν i=ν j→i=j) ∧
  (∀ i ob,(ro::hs)[i]? = some ob→lfO (hs.length+1) ob=true∧σ.H (ν i)=some (rQ ν ob))∧(∀ i,0<i→i<hs.length+1→∃ j ob,j<i∧(ro::hs)[j]? = some ob∧bUp i ob=true) ∧
  bT σ.H rest=[]∧cI σ.H rest=some ds∧bRl P f h ro hs ds ro' hs' r∧k ⟨bE σ.Γ dst (inj r),tcH σ.H σ.n (ν 0) (nuL ν hs.length) ro' hs',σ.n+hs'.length⟩ (nuL ν hs.length++con)
def RCo(P:Program)[M:Mch P](f:FuncId)(x:AV)(rest:List AV)(dst:Option Tmp)(σ:St)(con:List Nat)(k:St→List Nat→Prop):Prop :=
 ∃(d0:D) (y:AV) (l:List AV) (id:Nat) (h:AV) (ho:HO) (ds:List D) (ho':HO),x=.d d0∧rest=y::l∧hd1 y=some (id,h)∧σ.H id=some ho∧tX ho=true∧id ∉ bT σ.H l∧cI σ.H l=some ds∧aLi P f d0 h ho ds ho'∧ho'.len=ho.len∧tX ho'=true ∧
  k ⟨bE σ.Γ dst (inj (.tp [])),upd σ.H id (some ho'),σ.n⟩ con
def OC(P:Program)[M:Mch P](f:FuncId)(args:Array Operand)(dst:Option Tmp)(σ:St)(con:List Nat)(k:St→List Nat→Prop):Prop :=
 if aM P f then match args.toList with
  | x::rest=>match hd1 (oev σ.Γ x)with
   | some (id,h)=>match σ.H id with
    | some ho=>(∃ g,rest=[]∧h=.mp 0∧aBf P f g∧k ⟨bE σ.Γ dst (.kf g id),σ.H,σ.n⟩ con) ∨
     (qZ ho=true∧bT σ.H (rest.map (oev σ.Γ))=[]∧∃ ds ho' r,cI σ.H (rest.map (oev σ.Γ))=some ds∧aBc P f h ho ds ho' r∧ho'.len=ho.len∧qZ ho'=true ∧
      k ⟨bE σ.Γ dst (inj r),upd σ.H id (some ho'),σ.n⟩ con)∨TCo P f (oev σ.Γ x) (rest.map (oev σ.Γ)) dst σ con k ∨
     (qZ ho=true∧id ∉ bT σ.H (rest.map (oev σ.Γ))∧∃ ds r,cI σ.H (rest.map (oev σ.Γ))=some ds∧aSk P f h (some ho) ds r∧k ⟨bE σ.Γ dst (inj r),kill (id::bT σ.H (rest.map (oev σ.Γ))) σ.H,σ.n⟩ (id::bT σ.H (rest.map (oev σ.Γ))++con))
    |none=>False
   |none=>(aFq (oev σ.Γ x)=true∧∃ ds r,cI σ.H (rest.map (oev σ.Γ))=some ds∧aSk P f (oev σ.Γ x) none ds r∧k ⟨bE σ.Γ dst (inj r),kill (bT σ.H (rest.map (oev σ.Γ))) σ.H,σ.n⟩ (bT σ.H (rest.map (oev σ.Γ))++con))∨RCo P f (oev σ.Γ x) (rest.map (oev σ.Γ)) dst σ con k
  |[]=>False
 else(aN P f=true∧0<σ.n∧∃ v hs,((∃ ds,cI σ.H (args.toList.map (oev σ.Γ))=some ds∧bT σ.H (args.toList.map (oev σ.Γ))=[]∧rJ P f ds v hs) ∨
   ((args.toList.map (oev σ.Γ)).all aFq=true∧aBe P f (args.toList.map (oev σ.Γ)) v hs)) ∧
  k ⟨bE σ.Γ dst (v σ.n),gF σ.H σ.n (hs σ.n),σ.n+(hs σ.n).length⟩ con)∨match args.toList.map (oev σ.Γ)with
  | [.kf g id]=>match σ.H id with
   |some (.map .i64 es)=>es.length≤1099511627776∧(es.map (·.1)).all inr=true∧sK P f g∧k ⟨bE σ.Γ dst (.d (.sl ((aJw (es.map (·.1))).map fun n=>[.i .i64 n]))),σ.H,σ.n⟩ con
   |_=>False
  |avs=>∃ ds r,cI σ.H avs=some ds∧Spec P f ds r∧k ⟨bE σ.Γ dst (inj r),kill (aX σ.H avs r) σ.H,σ.n⟩ (aX σ.H avs r++con)
def O1(P:Program)[M:Mch P](o:Oper)(σ:St)(con:List Nat)(k:St→List Nat→Prop):Prop :=
 match o.op with
 | .load t x=>match tM P σ.H t (oev σ.Γ x)with
  |some v=>k ⟨bE σ.Γ o.dst v,σ.H,σ.n⟩ con
  |none=>False
 | .lookup t m x ok=>match aDh P σ.H t (oev σ.Γ m) (oev σ.Γ x) ok with
  |some v=>k ⟨bE σ.Γ o.dst v,σ.H,σ.n⟩ con
  |none=>False
 | .entry x=>match bVk σ.H (oev σ.Γ x)with
  |some v=>k ⟨bE σ.Γ o.dst v,σ.H,σ.n⟩ con
  |none=>False
 |.next _ _=>False
 | .store t ad x=>match nB P σ.H t (oev σ.Γ ad) (oev σ.Γ x)with
  |some (id,ho)=>k ⟨bE σ.Γ o.dst .un,upd σ.H id (some ho),σ.n⟩ con
  |none=>False
 | .mapUpdate t m x v=>match pD P σ.H t (oev σ.Γ m) (oev σ.Γ x) (some (oev σ.Γ v))with
  |some (id,ho)=>k ⟨bE σ.Γ o.dst .any,upd σ.H id (some ho),σ.n⟩ con
  |none=>False
 | .insert t m x v=>match pD P σ.H t (oev σ.Γ m) (oev σ.Γ x) (some (oev σ.Γ v))with
  |some (id,ho)=>k ⟨bE σ.Γ o.dst .any,upd σ.H id (some ho),σ.n⟩ con
  |none=>False
 |.call { callee:=.value (.func f),args:=args,argTypes:=_ }=>OC P f args o.dst σ con k
 | .call { callee:=.value (.tmp t),args:=args,argTypes:=_ }=>match dM (σ.Γ t)with
  | some (f,cs)=>∃ ds r,cI σ.H (args.toList.map (oev σ.Γ)++cs)=some ds∧Spec P f ds r ∧
    k ⟨bE σ.Γ o.dst (inj r),kill (aX σ.H (args.toList.map (oev σ.Γ)++cs) r) σ.H,σ.n⟩ (aX σ.H (args.toList.map (oev σ.Γ)++cs) r++con)
  | none=>match σ.Γ t with
   | .d (.fm f d)=>∃ ds r,cI σ.H (.d d::args.toList.map (oev σ.Γ))=some ds∧Spec P f ds r ∧
     k ⟨bE σ.Γ o.dst (inj r),kill (aX σ.H (.d d::args.toList.map (oev σ.Γ)) r) σ.H,σ.n⟩ (aX σ.H (.d d::args.toList.map (oev σ.Γ)) r++con)
   |_=>False
 | .call { callee:=.invoke (.tmp t) name,args:=args,argTypes:=_ }=>match σ.Γ t with
  | .d (.iff ty d)=>match aJo P ty name with
   | some f=>∃ ds r,cI σ.H (.d d::args.toList.map (oev σ.Γ))=some ds∧Spec P f ds r ∧
     k ⟨bE σ.Γ o.dst (inj r),kill (aX σ.H (.d d::args.toList.map (oev σ.Γ)) r) σ.H,σ.n⟩ (aX σ.H (.d d::args.toList.map (oev σ.Γ)) r++con)
   |none=>False
  |_=>False
 | .call { callee:=.builtin .append,args:=args,argTypes:=ts }=>match args.toList,ts.toList with
  | [s,x],[t,t']=>t=t'∧match aBw P σ.H t (oev σ.Γ s) (oev σ.Γ x) σ.n with
   |some (av,nb,cn)=>k ⟨bE σ.Γ o.dst av,fZ (kill cn σ.H) σ.n nb,cnt nb σ.n⟩ (cn++con)
   |none=>False
  |_,_=>False
 | .call { callee:=.builtin .delete,args:=args,argTypes:=ts }=>match args.toList,ts.toList with
  | [m,x],[t,_]=>match pD P σ.H t (oev σ.Γ m) (oev σ.Γ x) none with
   |some (id,ho)=>k ⟨bE σ.Γ o.dst .any,upd σ.H id (some ho),σ.n⟩ con
   |none=>False
  |_,_=>False
 | .call { callee:=.builtin .len,args:=args,argTypes:=ts }=>if aNy P ts then(match args.toList with
   | [m]=>match aDc σ.H (oev σ.Γ m)with
    |some n=>k ⟨bE σ.Γ o.dst (.d (.i .i64 n)),σ.H,σ.n⟩ con
    |none=>False
   | _=>False)else kind P (.call { callee:=.builtin .len,args:=args,argTypes:=ts })=0∧match nev P (.call { callee:=.builtin .len,args:=args,argTypes:=ts }) σ.Γ σ.n with
    |some (av,nb)=>k ⟨bE σ.Γ o.dst av,fZ σ.H σ.n nb,cnt nb σ.n⟩ con
    |none=>False
 | op=>kind P op=0∧match nev P op σ.Γ σ.n with
  |some (av,nb)=>k ⟨bE σ.Γ o.dst av,fZ σ.H σ.n nb,cnt nb σ.n⟩ con
  |none=>False
def OW(P:Program)[M:Mch P](ops:Array Oper):List Oper→St→List Nat→(St→List Nat→Prop)→Prop
 |[],σ,con,k=>k σ con
 | o::l,σ,con,k=>match cR ops o σ.Γ with
  |some true=>O1 P o σ con fun σ' con'=>OW P ops l σ' con' k
  |some false=>OW P ops l ⟨bE σ.Γ o.dst .un,σ.H,σ.n⟩ con k
  |none=>False
theorem aHi{H:Hp}{i:Nat}:∀(n:Nat) (x:AV),i∈vis H n x→∃ ob,H i=some ob
 |0,_,h=>by cases h
 | n+1,x,h=>by
  have hl:∀ cs:List AV,i∈cs.flatMap (vis H n)→∃ ob,H i=some ob:=fun cs hc=>by
   obtain⟨y,_,hy⟩:=Bz.1 hc
   exact aHi n y hy
  cases x with
  | own id off len sz =>
   simp only[vis]at h
   split at h
   ·rename_i hH
    rcases Bq.1 h with rfl|h
    ·exact⟨_,hH⟩
    ·exact hl _ h
   ·cases h
  | ptr id off =>
   simp only[vis]at h
   split at h
   ·rename_i hH
    rcases Bq.1 h with rfl|h
    ·exact⟨_,hH⟩
    ·exact hl _ h
   ·cases h
  | mp id =>
   simp only[vis]at h
   split at h
   ·rename_i hH
    rcases Bq.1 h with rfl|h
    ·exact⟨_,hH⟩
    ·exact hl _ h
   ·cases h
  |fn f cs=>exact hl _ h
  |ag cs=>exact hl _ h
  |tp cs=>exact hl _ h
  |_=>cases h
theorem uS{H:Hp}{i:Nat}{l:List AV}{ds:List D}(_:cI H l=some ds)(h:i∈bT H l):∃ ob,H i=some ob:=by
 obtain⟨y,_,hy⟩:=Bz.1 h
 exact aHi 8 y hy
structure Wf(σ:St)(con:List Nat):Prop where
 top:∀ id,σ.n≤id→σ.H id=none
 con:∀ id∈con,id<σ.n∧σ.H id=none
structure dD(σ:St)(con:List Nat)(s:AS):Prop where
 Γ:s.Γ=σ.Γ
 T:∀ id,s.T id↔id∈con
 K:∀ id o,σ.H id=some o→s.K id=some o
 U:∀ id,s.U id↔((σ.H id).isSome=true∨id∈con)
section
variable {P:Program} [M:Mch P] {G:Ctx} {ops:Array Oper}
theorem iG{l:List Nat}{H:Hp}{id:Nat}{o:HO}(h:kill l H id=some o):H id=some o∧id ∉ l:=by
 unfold kill at h
 split at h
 ·exact⟨h,by simp⟩
 ·simp only at h
  split at h
  ·cases h
  ·exact⟨h,by assumption⟩
theorem kS{l:List Nat}{H:Hp}{id:Nat}(h:id∈l):kill l H id=none:=by
 unfold kill
 split
 ·cases h
 ·simp only;rw[Ap h]
theorem mP{l:List Nat}{H:Hp}{id:Nat}(h:id ∉ l):kill l H id=H id:=by
 unfold kill
 split
 ·rfl
 ·simp only;rw[Ah h]
theorem aTj{H:Hp}{t:TypeId}{ad x:AV}{id:Nat}{ho:HO}(h:nB P H t ad x=some (id,ho)):∃ off old,ad=.ptr id off∧H id=some old:=by
 unfold nB at h
 split at h
 ·split at h
  ·rename_i hH
   obtain⟨vs,hvs,h⟩:=Ad.1 h
   obtain⟨sz,hsz,h⟩:=Ad.1 h
   split at h
   ·injection h with h;injection h with h1 h2;subst h1;exact⟨_,_,rfl,hH⟩
   ·cases h
  ·cases h
 ·cases h
theorem aHg(H:Hp):∀(n:Nat) (x:AV) (id:Nat),id∈vis H n x→∃ o,H id=some o
 |0,x,id,h=>by simp[vis]at h
 | n+1,x,id,h=>by
  have ih:=aHg H n
  unfold vis at h
  split at h
  ·split at h
   ·rename_i e cs hH
    rcases Bq.1 h with rfl|h
    ·exact⟨_,hH⟩
    ·obtain⟨c,_,hc⟩:=Bz.1 h;exact ih c id hc
   ·cases h
  ·split at h
   ·rename_i e cs hH
    rcases Bq.1 h with rfl|h
    ·exact⟨_,hH⟩
    ·obtain⟨c,_,hc⟩:=Bz.1 h;exact ih c id hc
   ·cases h
  ·obtain⟨c,_,hc⟩:=Bz.1 h;exact ih c id hc
  ·obtain⟨c,_,hc⟩:=Bz.1 h;exact ih c id hc
  ·obtain⟨c,_,hc⟩:=Bz.1 h;exact ih c id hc
  ·split at h
   ·rename_i e cs hH
    rcases Bq.1 h with rfl|h
    ·exact⟨_,hH⟩
    ·obtain⟨c,_,hc⟩:=Bz.1 h;exact ih c id hc
   ·cases h
  ·cases h
theorem fP{H:Hp}{l:List AV}{r:D}{id:Nat}(h:id∈aX H l r):∃ o,H id=some o:=by
 unfold aX at h
 split at h
 ·cases h
 ·obtain⟨c,_,hc⟩:=Bz.1 h;exact aHg H 8 c id hc
theorem aLa{H:Hp}{t:TypeId}{s x:AV}{n:Nat}{av:AV}{nb:Option HO}{cn:List Nat}(h:aBw P H t s x n=some (av,nb,cn)) :
  ∀ id∈cn,(∃ o,H id=some o)∧∃ off len sz,s=.own id off len sz:=by
 unfold aBw at h
 obtain⟨e,_,h⟩:=Ad.1 h
 obtain⟨sz,_,h⟩:=Ad.1 h
 obtain⟨bt,_,h⟩:=Ad.1 h
 obtain⟨z,_,h⟩:=Ad.1 h
 obtain⟨p,_,h⟩:=Ad.1 h
 split at h
 ·split at h
  ·split at h
   ·injection h with h;injection h with _ h;injection h with _ h;subst h;intro id hid;cases hid
   ·split at h
    ·injection h with h;injection h with _ h;injection h with _ h;subst h;intro id hid;cases hid
    ·cases h
  ·split at h
   ·rename_i hH
    split at h
    ·injection h with h;injection h with _ h;injection h with _ h;subst h
     intro id hid
     simp only[List.mem_singleton]at hid;subst hid
     exact⟨⟨_,hH⟩,_,_,_,rfl⟩
    ·cases h
   ·cases h
  ·split at h
   ·injection h with h;injection h with _ h;injection h with _ h;subst h;intro id hid;cases hid
   ·split at h
    ·injection h with h;injection h with _ h;injection h with _ h;subst h;intro id hid;cases hid
    ·cases h
  ·cases h
 ·cases h
theorem tT{Γ:Nat→AV}{x:Operand}{id:Nat}{h:AV}(he:hd1 (oev Γ x)=some (id,h)):∃ ts,x=.tmp ts∧oJ id (Γ ts)=true:=by
 cases x with
 | tmp ts =>
  refine⟨ts,rfl,?_⟩
  simp only[oev]at he
  unfold hd1 at he
  split at he<;>first|(cases he;done)|(injection he with he;injection he with e1 _;subst e1;simp_all [oJ])
 | const v =>
  exfalso
  simp only[oev,cv]at he
  split at he
  ·cases he
  ·unfold cv1 at he;split at he<;>cases he
 |global g=>cases he
 |func f=>cases he
theorem aFu{H:Hp}{t:TypeId}{m x:AV}{v:Option AV}{id:Nat}{ho:HO}(h:pD P H t m x v=some (id,ho)):∃ old,m=.mp id∧H id=some old∧ho.len=old.len:=by
 unfold pD at h
 split at h
 ·split at h
  ·rename_i hH
   obtain⟨p,_,h⟩:=Ad.1 h
   split at h
   ·split at h
    ·injection h with h;injection h with e1 e2;subst e1;subst e2;exact⟨_,rfl,hH,rfl⟩
    ·cases h
   ·cases h
  ·cases h
 ·cases h
theorem pX{k:St→List Nat→Prop}:∀(l:List Oper) (σ:St) (con:List Nat),fM l=true→(σ.n=0→∀ b,G.P0 b)→Wf σ con→OW P ops l σ con k →
  ∃ fb:Hp,∀ s,dD σ con s→(∀ id,σ.n≤id→s.K id=fb id)→xC P G ops (fun s'=>∃ σ' con',k σ' con'∧(σ'.n=0→∀ b,G.P0 b)∧Wf σ' con'∧dD σ' con' s') l s
 |[],σ,con,_,hn0,hwf,h=>⟨fun _=>none,fun s hs _=>⟨σ,con,h,hn0,hwf,hs⟩⟩
 | o::l,σ,con,hnn,hn0,hwf,h=>by
  simp only[fM,List.all_cons,AR,C2]at hnn
  have ih:=fun σ con=>pX (k:=k) l σ con (by simpa[fM]using hnn.2)
  unfold OW at h
  -- a step that makes no block
  have pure0:∀(av:AV) (con':List Nat) (H':Hp),H'=kill con' σ.H→(∀ id∈con',(σ.H id).isSome=true)→OW P ops l ⟨bE σ.Γ o.dst av,H',σ.n⟩ (con'++con) k →
    (∀ s,dD σ con s→Ev P G o s.Γ s.T s.K s.K av aW (fun i=>i∈con'))→cR ops o σ.Γ=some true →
    ∃ fb:Hp,∀ s,dD σ con s→(∀ id,σ.n≤id→s.K id=fb id)→xC P G ops (fun s'=>∃ σ' con',k σ' con'∧(σ'.n=0→∀ b,G.P0 b)∧Wf σ' con'∧dD σ' con' s') (o::l) s:=by
   intro av con' H' hH' hc' hk hev hw
   subst hH'
   have hwf':Wf ⟨bE σ.Γ o.dst av,kill con' σ.H,σ.n⟩ (con'++con):=by
    refine⟨fun id hid=>?_,fun id hid=>?_⟩
    ·cases hx:kill con' σ.H id with
     |none=>exact hx
     |some o'=>have:=(iG hx).1;rw[hwf.top id hid]at this;cases this
    ·rcases BU.1 hid with hid|hid
     ·refine⟨?_,kS hid⟩
      have:=hc' id hid
      rcases Az id σ.n with h|h
      ·exact h
      ·rw[hwf.top id h]at this;cases this
     ·obtain⟨h1,h2⟩:=hwf.con id hid
      refine⟨h1,?_⟩
      cases hx:kill con' σ.H id with
      |none=>exact hx
      |some o'=>have:=(iG hx).1;rw[h2]at this;cases this
   obtain⟨fb,hfb⟩:=ih _ _ (by exact hn0) hwf' hk
   refine⟨fb,fun s hs hsfb=>⟨_,.yes av aW (fun i=>i∈con') s.K (by rw[hs.Γ];exact hw) (hev s hs) (fun _ h=>h.elim) (fun _ h=>h.elim) (fun h=>h.elim),hfb _ ?_ hsfb⟩⟩
   refine⟨by rw[hs.Γ],fun id=>by simp[hs.T,or_comm],fun id o' h=>hs.K id o' (iG h).1,fun id=>?_⟩
   simp only[hs.U,aW,FK,BU]
   by_cases hid:id∈con'
   ·simp[hid,hc' id hid,kS hid]
   ·rw[mP hid];simp[hid]
  -- a step that makes block n
  have new1:∀(av:AV) (con':List Nat) (ho:HO),(∀ id∈con',(σ.H id).isSome=true)→OW P ops l ⟨bE σ.Γ o.dst av,upd (kill con' σ.H) σ.n (some ho),σ.n+1⟩ (con'++con) k →
    (∀ s,dD σ con s→s.K σ.n=some ho→Ev P G o s.Γ s.T s.K s.K av (·=σ.n) (fun i=>i∈con'))→cR ops o σ.Γ=some true →
    ∃ fb:Hp,∀ s,dD σ con s→(∀ id,σ.n≤id→s.K id=fb id)→xC P G ops (fun s'=>∃ σ' con',k σ' con'∧(σ'.n=0→∀ b,G.P0 b)∧Wf σ' con'∧dD σ' con' s') (o::l) s:=by
   intro av con' ho hc' hk hev hw
   have hlt:∀ id∈con',id<σ.n:=fun id hid=>by
    have:=hc' id hid
    rcases Az id σ.n with h|h
    ·exact h
    ·rw[hwf.top id h]at this;cases this
   have hwf':Wf ⟨bE σ.Γ o.dst av,upd (kill con' σ.H) σ.n (some ho),σ.n+1⟩ (con'++con):=by
    refine⟨fun id hid=>?_,fun id hid=>?_⟩
    ·simp only at hid ⊢
     rw[upd_ne _ _ (by omega)]
     cases hx:kill con' σ.H id with
     |none=>rfl
     |some o'=>have:=(iG hx).1;rw[hwf.top id (by omega)]at this;cases this
    ·simp only
     rcases BU.1 hid with hid|hid
     ·have:=hlt id hid
      exact⟨by omega,by rw[upd_ne _ _ (by omega)];exact kS hid⟩
     ·obtain⟨h1,h2⟩:=hwf.con id hid
      refine⟨by omega,?_⟩
      rw[upd_ne _ _ (by omega)]
      cases hx:kill con' σ.H id with
      |none=>rfl
      |some o'=>have:=(iG hx).1;rw[h2]at this;cases this
   obtain⟨fb,hfb⟩:=ih _ _ (fun h=>by simp at h) hwf' hk
   refine⟨upd fb σ.n (some ho),fun s hs hsfb=>?_⟩
   have hKn:s.K σ.n=some ho:=by rw[hsfb _ (AA _),upd_same]
   refine⟨_,.yes av (·=σ.n) (fun i=>i∈con') s.K (by rw[hs.Γ];exact hw) (hev s hs hKn) ?_ ?_ (fun h=>hn0 h.symm),hfb _ ?_ fun id hid=>?_⟩
   ·rintro id rfl hu
    rcases(hs.U σ.n).1 hu with h|h
    ·rw[hwf.top _ (AA _)]at h;cases h
    ·have:=(hwf.con _ h).1;omega
   ·rintro id rfl ht
    have:=(hwf.con _ ((hs.T σ.n).1 ht)).1;omega
   ·refine⟨by rw[hs.Γ],fun id=>by simp[hs.T,or_comm],fun id o' h=>?_,fun id=>?_⟩
    ·simp only at h
     by_cases hid:id=σ.n
     ·subst hid;rw[upd_same]at h;rw[←h];exact hKn
     ·rw[upd_ne _ _ hid]at h;exact hs.K id o' (iG h).1
    ·simp only[hs.U,BU]
     by_cases hid:id=σ.n
     ·subst hid;simp[upd_same]
     ·rw[upd_ne _ _ hid]
      by_cases hc:id∈con'
      ·simp[hc,hc' id hc,kS hc]
      ·rw[mP hc];simp[hid,hc]
   ·simp only at hid
    rw[hsfb id (by omega),upd_ne _ _ (by omega)]
  -- a step that makes blocks n, n + 1, ..
  have newk:∀(av:AV) (hs0:List HO),0<σ.n→OW P ops l ⟨bE σ.Γ o.dst av,gF σ.H σ.n hs0,σ.n+hs0.length⟩ con k →
    (∀ s,dD σ con s→(∀ i ob,hs0[i]? = some ob→s.K (σ.n+i)=some ob)→Ev P G o s.Γ s.T s.K s.K av (fun i=>σ.n≤i∧i<σ.n+hs0.length) aW)→cR ops o σ.Γ=some true →
    ∃ fb:Hp,∀ s,dD σ con s→(∀ id,σ.n≤id→s.K id=fb id)→xC P G ops (fun s'=>∃ σ' con',k σ' con'∧(σ'.n=0→∀ b,G.P0 b)∧Wf σ' con'∧dD σ' con' s') (o::l) s:=by
   intro av hs0 hpos hk hev hw
   have hwf':Wf ⟨bE σ.Γ o.dst av,gF σ.H σ.n hs0,σ.n+hs0.length⟩ con:=by
    refine⟨fun id hid=>?_,fun id hid=>?_⟩
    ·simp only[gF]at hid ⊢
     rw[Ah (by omega)];exact hwf.top id (by omega)
    ·obtain⟨h1,h2⟩:=hwf.con id hid
     simp only[gF]
     exact⟨by omega,by rw[Ah (by omega)];exact h2⟩
   obtain⟨fb,hfb⟩:=ih _ _ (fun h=>by simp only at h;omega) hwf' hk
   refine⟨gF fb σ.n hs0,fun s hs hsfb=>?_⟩
   have hKn:∀ i ob,hs0[i]? = some ob→s.K (σ.n+i)=some ob:=fun i ob hi=>by
    have hlt:=(Ao.1 hi).1
    rw[hsfb _ (by omega)]
    simp only[gF]
    rw[Ap ⟨by omega,by omega⟩,show σ.n+i-σ.n=i by omega];exact hi
   refine⟨_,.yes av (fun i=>σ.n≤i∧i<σ.n+hs0.length) aW s.K (by rw[hs.Γ];exact hw) (hev s hs hKn) ?_ ?_ (fun h=>by omega),hfb _ ?_ fun id hid=>?_⟩
   ·rintro id ⟨h1,_⟩ hu
    rcases(hs.U id).1 hu with h|h
    ·rw[hwf.top _ h1]at h;cases h
    ·have:=(hwf.con _ h).1;omega
   ·rintro id ⟨h1,_⟩ ht
    have:=(hwf.con _ ((hs.T id).1 ht)).1;omega
   ·refine⟨by rw[hs.Γ],fun id=>by simp[hs.T,aW],fun id o' h=>?_,fun id=>?_⟩
    ·simp only[gF]at h
     split at h
     ·rename_i hr
      have:=hKn (id-σ.n) o' h
      rwa [show σ.n+(id-σ.n)=id by omega]at this
     ·exact hs.K id o' h
    ·simp only[hs.U,gF]
     by_cases hr:σ.n≤id∧id<σ.n+hs0.length
     ·rw[Ap hr,Ab (by omega)];simp[hr]
     ·rw[Ah hr];simp[hr]
   ·simp only at hid
    rw[hsfb id (by omega)]
    simp only[gF]
    rw[Ah (by omega)]
  -- a step that writes into a block
  have write1:∀(av:AV) (id:Nat) (ho old:HO) (ts:Nat),CC ts∈o.op.operands→oJ id (σ.Γ ts)=true→σ.H id=some old→kind P o.op=2→OW P ops l ⟨bE σ.Γ o.dst av,upd σ.H id (some ho),σ.n⟩ con k →
    (∀(T2:Nat→Prop) (K2:Hp),K2 id=some old→¬T2 id→Y P G o σ.Γ T2 K2 (lX K2 T2 id ho) av aW aW)→cR ops o σ.Γ=some true →
    ∃ fb:Hp,∀ s,dD σ con s→(∀ id,σ.n≤id→s.K id=fb id)→xC P G ops (fun s'=>∃ σ' con',k σ' con'∧(σ'.n=0→∀ b,G.P0 b)∧Wf σ' con'∧dD σ' con' s') (o::l) s:=by
   intro av id ho old ts hts hΓ hold hkd h hY hw
   have hwf':Wf ⟨bE σ.Γ o.dst av,upd σ.H id (some ho),σ.n⟩ con:=by
    refine⟨fun i hi=>?_,fun i hi=>?_⟩
    ·simp only at hi ⊢
     rw[upd_ne _ _ (fun e=>by rw[e]at hi;rw[hwf.top id hi]at hold;cases hold)];exact hwf.top i hi
    ·obtain⟨h1,h2⟩:=hwf.con i hi
     refine⟨h1,?_⟩
     simp only
     rw[upd_ne _ _ (fun e=>by rw[e]at h2;rw[h2]at hold;cases hold)];exact h2
   obtain⟨fb,hfb⟩:=ih _ _ (by exact hn0) hwf' h
   refine⟨fb,fun s hs hsfb=>?_⟩
   have hidn:id<σ.n:=by
    rcases Az id σ.n with h|h
    ·exact h
    ·rw[hwf.top id h]at hold;cases hold
   have hnT:¬s.T id:=fun h=>by have:=(hwf.con id ((hs.T id).1 h)).2;rw[this]at hold;cases hold
   refine⟨_,.yes av aW aW (lX s.K s.T id ho) (by rw[hs.Γ];exact hw) (.inr (.inr (.inl ⟨hkd,rfl,rfl,id,ts,old,ho,hts,by rw[hs.Γ];exact hΓ,hs.K _ _ hold,hnT,rfl,fun T2 K2 hK2 hT2=>by rw[hs.Γ];exact hY T2 K2 hK2 hT2⟩))) (fun _ h=>h.elim) (fun _ h=>h.elim) (fun h=>h.elim),hfb _ ?_ fun i hi=>?_⟩
   ·refine⟨by rw[hs.Γ],fun i=>by simp[hs.T,aW],fun i o' h=>?_,fun i=>?_⟩
    ·simp only at h ⊢
     by_cases hid:i=id
     ·subst hid;rw[upd_same]at h;unfold lX;rw[Ap rfl];exact h
     ·rw[upd_ne _ _ hid]at h
      rw[pZ hid (fun ht=>by have:=(hwf.con i ((hs.T i).1 ht)).2;rw[this]at h;cases h)]
      exact hs.K i o' h
    ·simp only[hs.U,aW,FK]
     by_cases hid:i=id
     ·subst hid;simp[upd_same,hold]
     ·rw[upd_ne _ _ hid]
   ·simp only at hi
    show lX s.K s.T id ho i=fb i
    rw[pZ (by omega) (fun ht=>by have:=(hwf.con i ((hs.T i).1 ht)).1;omega)]
    exact hsfb i hi
  -- a step that turns a structure
  have stepG:∀(av:AV) (ν:Nat→Nat) (ro:HO) (hs0:List HO) (ro':HO) (hs':List HO),0<σ.n→(∀ i j,i<hs0.length+1→j<hs0.length+1→ν i=ν j→i=j)→(∀ i ob,(ro::hs0)[i]? = some ob→σ.H (ν i)=some (rQ ν ob))→kind P o.op=2 →
    OW P ops l ⟨bE σ.Γ o.dst av,tcH σ.H σ.n (ν 0) (nuL ν hs0.length) ro' hs',σ.n+hs'.length⟩ (nuL ν hs0.length++con) k →
    (∀ s,dD σ con s→∀ i,i<hs0.length+1→∀ F w ι T2 (a:Act),HR G F w ι T2 s.K→(∀ t,CC t∈o.op.operands→V F w ι (s.Γ t) (a.tmps.getD t undef))→∃ b,ι (ν i)=some b) →
    (∀ s,dD σ con s→(∀ j ob,hs'[j]? = some ob→s.K (σ.n+j)=some (rQ (nuT (ν 0) σ.n) ob))→∀(T2:Nat→Prop) (K2:Hp),(∀ id,(∃ i,i<hs0.length+1∧ν i=id)→¬T2 id∧K2 id=s.K id)→(∀ id,(σ.n≤id∧id<σ.n+hs'.length)→¬T2 id∧K2 id=s.K id) →
     Y P G o s.Γ T2 K2 (jQ K2 T2 (fun id=>∃ i,i<hs0.length+1∧ν i=id) fun id=>if id=ν 0 then some (rQ (nuT (ν 0) σ.n) ro')else none) av (fun i=>σ.n≤i∧i<σ.n+hs'.length) (fun i=>∃ j,0<j∧j<hs0.length+1∧ν j=i)) →
    cR ops o σ.Γ=some true →
    ∃ fb:Hp,∀ s,dD σ con s→(∀ id,σ.n≤id→s.K id=fb id)→xC P G ops (fun s'=>∃ σ' con',k σ' con'∧(σ'.n=0→∀ b,G.P0 b)∧Wf σ' con'∧dD σ' con' s') (o::l) s:=by
   intro av ν ro hs0 ro' hs' hpos hνi hνH hkd hk hlive hY hw
   have hget:∀ i,i<hs0.length+1→∃ ob,(ro::hs0)[i]? = some ob:=fun i hi=>⟨_,Ab (by simpa using hi)⟩
   have hlt:∀ i,i<hs0.length+1→ν i<σ.n:=fun i hi=>by
    obtain⟨ob,ho⟩:=hget i hi
    have h1:=hνH i ob ho
    rcases Az (ν i) σ.n with h|h
    ·exact h
    ·rw[hwf.top _ h]at h1;cases h1
   have h0l:ν 0 ∉ nuL ν hs0.length:=fun h=>by
    obtain⟨j,h1,h2,h3⟩:=tK.1 h
    have:=hνi j 0 h2 (by omega) h3;omega
   have hwf':Wf ⟨bE σ.Γ o.dst av,tcH σ.H σ.n (ν 0) (nuL ν hs0.length) ro' hs',σ.n+hs'.length⟩ (nuL ν hs0.length++con):=by
    refine⟨fun id hid=>?_,fun id hid=>?_⟩
    ·simp only at hid
     have h00:=hlt 0 (by omega)
     simp only[tcH]
     rw[Ah (by omega),Ah (by omega)]
     split
     ·rfl
     ·exact hwf.top id (by omega)
    ·rcases BU.1 hid with hid|hid
     ·obtain⟨j,h1,h2,rfl⟩:=tK.1 hid
      have:=hlt j h2
      refine⟨by simp only;omega,?_⟩
      simp only[tcH]
      rw[Ah (by omega),Ah (fun e=>h0l (by rw[←e];exact hid)),Ap hid]
     ·obtain⟨h1,h2⟩:=hwf.con id hid
      refine⟨by simp only;omega,?_⟩
      simp only[tcH]
      rw[Ah (by omega),Ah (fun e=>by
       obtain⟨ob,ho⟩:=hget 0 (by omega)
       have:=hνH 0 ob ho
       rw[←e,h2]at this;cases this)]
      split
      ·rfl
      ·exact h2
   obtain⟨fb,hfb⟩:=ih _ _ (fun h=>by simp only at h;omega) hwf' hk
   refine⟨fun id=>if σ.n≤id∧id<σ.n+hs'.length then(hs'[id-σ.n]?).map (rQ (nuT (ν 0) σ.n))else fb id,fun s hs hsfb=>?_⟩
   have hKn:∀ j ob,hs'[j]? = some ob→s.K (σ.n+j)=some (rQ (nuT (ν 0) σ.n) ob):=fun j ob hj=>by
    have hl:=(Ao.1 hj).1
    rw[hsfb _ (by omega)]
    simp only
    rw[Ap ⟨by omega,by omega⟩,show σ.n+j-σ.n=j by omega,hj];rfl
   have hTn:∀ id,s.T id→id<σ.n∧σ.H id=none:=fun id h=>hwf.con id ((hs.T id).1 h)
   have hST:∀ id,(∃ i,i<hs0.length+1∧ν i=id)→¬s.T id:=fun id ⟨i,hi,he⟩ ht=>by
    obtain⟨ob,ho⟩:=hget i hi
    have h1:=hνH i ob ho
    rw[he,(hTn id ht).2]at h1;cases h1
   refine⟨_,.yes av (fun i=>σ.n≤i∧i<σ.n+hs'.length) (fun i=>∃ j,0<j∧j<hs0.length+1∧ν j=i) (jQ s.K s.T (fun id=>∃ i,i<hs0.length+1∧ν i=id) fun id=>if id=ν 0 then some (rQ (nuT (ν 0) σ.n) ro')else none) (by rw[hs.Γ];exact hw)
    (.inr (.inr (.inr ⟨hkd,_,_,hST,fun id ⟨j,_,h2,h3⟩=>⟨j,h2,h3⟩,fun id h1 ⟨i,hi,he⟩=>by have:=hlt i hi;omega,fun id ⟨i,hi,he⟩ F w ι T2 a hR hopr=>by rw[←he];exact hlive s hs i hi F w ι T2 a hR hopr,rfl,fun T2 K2 h1 h2=>hY s hs hKn T2 K2 h1 h2⟩))) ?_ ?_ (fun h=>by omega),hfb _ ?_ fun id hid=>?_⟩
   ·rintro id ⟨h1,_⟩ hu
    rcases(hs.U id).1 hu with h|h
    ·rw[hwf.top _ h1]at h;cases h
    ·have:=(hwf.con _ h).1;omega
   ·rintro id ⟨h1,_⟩ ht
    have:=(hTn id ht).1;omega
   ·refine⟨by rw[hs.Γ],fun id=>?_,fun id o' h=>?_,fun id=>?_⟩
    ·simp only[hs.T,BU,tK]
     constructor
     ·rintro(h|h)
      ·exact .inr h
      ·exact .inl h
     ·rintro(h|h)
      ·exact .inr h
      ·exact .inl h
    ·simp only[tcH]at h
     simp only[jQ]
     split at h
     ·rename_i hr
      have hnS:¬∃ i,i<hs0.length+1∧ν i=id:=fun⟨i,hi,he⟩=>by have:=hlt i hi;omega
      rw[Ah hnS,Ah (fun ht=>by have:=(hTn id ht).1;omega)]
      obtain⟨ob,ho,rfl⟩:=Af.1 h
      have:=hKn (id-σ.n) ob ho
      rwa [show σ.n+(id-σ.n)=id by omega]at this
     ·split at h
      ·rename_i hr e
       subst e
       rw[Ap ⟨0,by omega,rfl⟩,Ap rfl];exact h
      ·split at h
       ·cases h
       ·rename_i hr e1 e2
        have hnS:¬∃ i,i<hs0.length+1∧ν i=id:=fun⟨i,hi,he⟩=>by
         rcases Bb i with rfl|hp
         ·exact e1 he.symm
         ·exact e2 (tK.2 ⟨i,hp,hi,he⟩)
        rw[Ah hnS,Ah (fun ht=>by rw[(hTn id ht).2]at h;cases h)]
        exact hs.K id o' h
    ·simp only[hs.U,BU,tcH]
     by_cases hr:σ.n≤id∧id<σ.n+hs'.length
     ·rw[Ap hr,Ab (by omega)];simp[hr]
     ·rw[Ah hr]
      by_cases e1:id=ν 0
      ·subst e1
       rw[Ap rfl]
       obtain⟨ob,ho⟩:=hget 0 (by omega)
       simp[hνH 0 ob ho]
      ·rw[Ah e1]
       by_cases e2:id∈nuL ν hs0.length
       ·rw[Ap e2]
        obtain⟨j,h1,h2,h3⟩:=tK.1 e2
        obtain⟨ob,ho⟩:=hget j h2
        have:=hνH j ob ho
        rw[h3]at this
        simp[e2,this]
       ·rw[Ah e2];simp[e2,hr]
   ·simp only at hid
    simp only[jQ]
    rw[Ah (fun⟨i,hi,he⟩=>by have:=hlt i hi;omega),Ah (fun ht=>by have:=(hTn id ht).1;omega),hsfb id (by omega)]
    simp only
    rw[Ah (by omega)]
  -- a step that uses blocks up and writes into them
  have stepU:∀(av:AV) (ids:List Nat),(∀ i,i∈ids→∃ ob,σ.H i=some ob)→kind P o.op=2→OW P ops l ⟨bE σ.Γ o.dst av,kill ids σ.H,σ.n⟩ (ids++con) k →
    (∀ s,dD σ con s→∀ i,i∈ids→∀ F w ι T2 (a:Act),HR G F w ι T2 s.K→(∀ t,CC t∈o.op.operands→V F w ι (s.Γ t) (a.tmps.getD t undef))→∃ b,ι i=some b) →
    (∀ s,dD σ con s→∀(T2:Nat→Prop) (K2:Hp),(∀ id,id∈ids→¬T2 id∧K2 id=s.K id)→Y P G o s.Γ T2 K2 (jQ K2 T2 (fun id=>id∈ids) fun _=>none) av aW (fun i=>i∈ids)) →
    cR ops o σ.Γ=some true →
    ∃ fb:Hp,∀ s,dD σ con s→(∀ id,σ.n≤id→s.K id=fb id)→xC P G ops (fun s'=>∃ σ' con',k σ' con'∧(σ'.n=0→∀ b,G.P0 b)∧Wf σ' con'∧dD σ' con' s') (o::l) s:=by
   intro av ids hids hkd hk hlive hY hw
   have hlt:∀ i,i∈ids→i<σ.n:=fun i hi=>by
    obtain⟨ob,h1⟩:=hids i hi
    rcases Az i σ.n with h|h
    ·exact h
    ·rw[hwf.top _ h]at h1;cases h1
   have hwf':Wf ⟨bE σ.Γ o.dst av,kill ids σ.H,σ.n⟩ (ids++con):=by
    refine⟨fun id hid=>?_,fun id hid=>?_⟩
    ·simp only at hid ⊢
     cases hk:kill ids σ.H id with
     |none=>rfl
     |some ob=>have:=(iG hk).1;rw[hwf.top id hid]at this;cases this
    ·rcases BU.1 hid with hid|hid
     ·exact⟨hlt id hid,kS hid⟩
     ·obtain⟨h1,h2⟩:=hwf.con id hid
      refine⟨h1,?_⟩
      simp only
      rw[mP fun hm=>by obtain⟨ob,h3⟩:=hids id hm;rw[h2]at h3;cases h3];exact h2
   obtain⟨fb,hfb⟩:=ih _ _ (by exact hn0) hwf' hk
   refine⟨fb,fun s hs hsfb=>?_⟩
   have hTn:∀ id,s.T id→id<σ.n∧σ.H id=none:=fun id h=>hwf.con id ((hs.T id).1 h)
   have hST:∀ id,id∈ids→¬s.T id:=fun id hi ht=>by
    obtain⟨ob,h1⟩:=hids id hi
    rw[(hTn id ht).2]at h1;cases h1
   refine⟨_,.yes av aW (fun i=>i∈ids) (jQ s.K s.T (fun id=>id∈ids) fun _=>none) (by rw[hs.Γ];exact hw)
    (.inr (.inr (.inr ⟨hkd,_,_,hST,fun id h=>h,fun id h=>h.elim,fun id hi F w ι T2 a hR hopr=>hlive s hs id hi F w ι T2 a hR hopr,rfl,fun T2 K2 h1 _=>hY s hs T2 K2 h1⟩))) (fun _ h=>h.elim) (fun _ h=>h.elim) (fun h=>h.elim),hfb _ ?_ fun id hid=>?_⟩
   ·refine⟨by rw[hs.Γ],fun id=>?_,fun id o' h=>?_,fun id=>?_⟩
    ·simp only[hs.T,BU]
     constructor
     ·rintro(h|h)
      ·exact .inr h
      ·exact .inl h
     ·rintro(h|h)
      ·exact .inr h
      ·exact .inl h
    ·obtain⟨h1,h2⟩:=iG h
     simp only[jQ]
     rw[Ah h2,Ah fun ht=>by rw[(hTn id ht).2]at h1;cases h1]
     exact hs.K id o' h1
    ·simp only[hs.U,BU,aW,FK]
     by_cases e:id∈ids
     ·obtain⟨ob,h1⟩:=hids id e
      simp[e,h1]
     ·rw[mP e];simp[e]
   ·simp only at hid
    simp only[jQ]
    rw[Ah (fun hi=>by have:=hlt id hi;omega),Ah (fun ht=>by have:=(hTn id ht).1;omega),hsfb id hid]
  -- a step that writes into a block and reads others
  have stepR:∀(av:AV) (id:Nat) (ho' old:HO) (l0:List Nat),σ.H id=some old→(∀ i,i∈l0→∃ ob,σ.H i=some ob)→kind P o.op=2→OW P ops l ⟨bE σ.Γ o.dst av,upd σ.H id (some ho'),σ.n⟩ con k →
    (∀ s,dD σ con s→∀ i,i∈id::l0→∀ F w ι T2 (a:Act),HR G F w ι T2 s.K→(∀ t,CC t∈o.op.operands→V F w ι (s.Γ t) (a.tmps.getD t undef))→∃ b,ι i=some b) →
    (∀ s,dD σ con s→∀(T2:Nat→Prop) (K2:Hp),(∀ i,i∈id::l0→¬T2 i∧K2 i=s.K i)→Y P G o s.Γ T2 K2 (jQ K2 T2 (fun i=>i∈id::l0) fun i=>if i=id then some ho' else σ.H i) av aW aW) →
    cR ops o σ.Γ=some true →
    ∃ fb:Hp,∀ s,dD σ con s→(∀ id,σ.n≤id→s.K id=fb id)→xC P G ops (fun s'=>∃ σ' con',k σ' con'∧(σ'.n=0→∀ b,G.P0 b)∧Wf σ' con'∧dD σ' con' s') (o::l) s:=by
   intro av id ho' old l0 hold hids hkd h hlive hY hw
   have hall:∀ i,i∈id::l0→∃ ob,σ.H i=some ob:=fun i hi=>by
    rcases Bq.1 hi with rfl|hi
    ·exact⟨_,hold⟩
    ·exact hids i hi
   have hlt:∀ i,i∈id::l0→i<σ.n:=fun i hi=>by
    obtain⟨ob,h1⟩:=hall i hi
    rcases Az i σ.n with h|h
    ·exact h
    ·rw[hwf.top _ h]at h1;cases h1
   have hwf':Wf ⟨bE σ.Γ o.dst av,upd σ.H id (some ho'),σ.n⟩ con:=by
    refine⟨fun i hi=>?_,fun i hi=>?_⟩
    ·simp only at hi ⊢
     rw[upd_ne _ _ (fun e=>by rw[e]at hi;rw[hwf.top id hi]at hold;cases hold)];exact hwf.top i hi
    ·obtain⟨h1,h2⟩:=hwf.con i hi
     refine⟨h1,?_⟩
     simp only
     rw[upd_ne _ _ (fun e=>by rw[e]at h2;rw[h2]at hold;cases hold)];exact h2
   obtain⟨fb,hfb⟩:=ih _ _ (by exact hn0) hwf' h
   refine⟨fb,fun s hs hsfb=>?_⟩
   have hTn:∀ id,s.T id→id<σ.n∧σ.H id=none:=fun id h=>hwf.con id ((hs.T id).1 h)
   have hST:∀ i,i∈id::l0→¬s.T i:=fun i hi ht=>by
    obtain⟨ob,h1⟩:=hall i hi
    rw[(hTn i ht).2]at h1;cases h1
   refine⟨_,.yes av aW aW (jQ s.K s.T (fun i=>i∈id::l0) fun i=>if i=id then some ho' else σ.H i) (by rw[hs.Γ];exact hw)
    (.inr (.inr (.inr ⟨hkd,_,_,hST,fun i h=>h.elim,fun i h=>h.elim,fun i hi F w ι T2 a hR hopr=>hlive s hs i hi F w ι T2 a hR hopr,rfl,fun T2 K2 h1 _=>hY s hs T2 K2 h1⟩))) (fun _ h=>h.elim) (fun _ h=>h.elim) (fun h=>h.elim),hfb _ ?_ fun i hid=>?_⟩
   ·refine⟨by rw[hs.Γ],fun i=>by simp[hs.T,aW],fun i o' h=>?_,fun i=>?_⟩
    ·simp only[jQ]
     simp only at h
     by_cases hiS:i∈id::l0
     ·rw[Ap hiS]
      by_cases hid:i=id
      ·subst hid;rw[upd_same]at h;rw[Ap rfl];exact h
      ·rw[upd_ne _ _ hid]at h;rw[Ah hid];exact h
     ·have hid:i≠id:=fun e=>hiS (by rw[e];exact AI ..)
      rw[upd_ne _ _ hid]at h
      rw[Ah hiS,Ah (fun ht=>by rw[(hTn i ht).2]at h;cases h)]
      exact hs.K i o' h
    ·simp only[hs.U,aW,FK]
     by_cases hid:i=id
     ·subst hid;simp[upd_same,hold]
     ·rw[upd_ne _ _ hid]
   ·simp only at hid
    simp only[jQ]
    rw[Ah (fun hi=>by have:=hlt i hi;omega),Ah (fun ht=>by have:=(hTn i ht).1;omega),hsfb i hid]
  have wsub:∀{T2:Nat→Prop} {K2:Hp} {id:Nat} {ho:HO} (j:Nat) (o':HO),j≠id→lX K2 T2 id ho j=some o'→K2 j=some o'∧¬T2 j:=by
   intro T2 K2 id ho j o' hj h
   unfold lX at h
   rw[Ah hj]at h
   split at h
   ·cases h
   ·exact⟨h,by assumption⟩
  have one1:∀{K2:Hp} {id:Nat} {old:HO},σ.H id=some old→K2 id=some old→∀ i ob,(if i=id then σ.H id else none)=some ob→K2 i=some ob:=by
   intro K2 id old hold hK2 i ob h
   split at h
   ·rename_i e;subst e;rw[hold]at h;rw[hK2];exact h
   ·cases h
  split at h
  case h_3=>exact h.elim
  case h_2 hw =>
   have hwf':Wf ⟨bE σ.Γ o.dst .un,σ.H,σ.n⟩ con:=⟨hwf.top,hwf.con⟩
   obtain⟨fb,hfb⟩:=ih _ _ (by exact hn0) hwf' h
   exact⟨fb,fun s hs hsfb=>⟨_,.no (by rw[hs.Γ];exact hw),hfb _ ⟨by rw[hs.Γ],hs.T,hs.K,hs.U⟩ hsfb⟩⟩
  case h_1 hw =>
  unfold O1 at h
  split at h
  ·-- load
   rename_i t x hop
   split at h
   ·rename_i v hv
    refine pure0 v [] σ.H rfl (fun _ h=>by cases h) h (fun s hs=>.inr (.inl ⟨by rw[hop];rfl,rfl,(fun _ h=>by cases h),(fun _ _ _ _ _ _ _ _ h=>by cases h),fun T2 _=>?_⟩)) hw
    have:(fun i=>i∈([]:List Nat))=aW:=funext fun i=>by simp[aW]
    rw[this]
    refine yA fun F w ι a hR hops=>?_
    obtain⟨u,h1,h2⟩:=aFw (P:=P) hR hs.K hv (cE (Γ:=σ.Γ) (a:=a) fun t e=>by rw[←hs.Γ];exact hops t (by rw[hop];simp[Aw,e]))
    exact⟨u,by simp only[execOp,hop,Sem.run_bind,h1];rfl,h2⟩
   ·exact h.elim
  ·-- lookup
   rename_i t m x ok hop
   split at h
   ·rename_i v hv
    refine pure0 v [] σ.H rfl (fun _ h=>by cases h) h (fun s hs=>.inr (.inl ⟨by rw[hop];rfl,rfl,(fun _ h=>by cases h),(fun _ _ _ _ _ _ _ _ h=>by cases h),fun T2 _=>?_⟩)) hw
    have:(fun i=>i∈([]:List Nat))=aW:=funext fun i=>by simp[aW]
    rw[this]
    refine yA fun F w ι a hR hops=>?_
    obtain⟨u,h1,h2⟩:=bNk (P:=P) hR hs.K hv (cE (Γ:=σ.Γ) (a:=a) fun t e=>by rw[←hs.Γ];exact hops t (by rw[hop];simp[Aw,e])) (cE (Γ:=σ.Γ) (a:=a) fun t e=>by rw[←hs.Γ];exact hops t (by rw[hop];simp[Aw,e]))
    exact⟨u,by simp only[execOp,hop,Sem.run_bind,h1];rfl,h2⟩
   ·exact h.elim
  ·-- what an iterator handed out last
   rename_i x hop
   split at h
   ·rename_i v hv
    refine pure0 v [] σ.H rfl (fun _ h=>by cases h) h (fun s hs=>.inr (.inl ⟨by rw[hop];rfl,rfl,(fun _ h=>by cases h),(fun _ _ _ _ _ _ _ _ h=>by cases h),fun T2 _=>?_⟩)) hw
    have:(fun i=>i∈([]:List Nat))=aW:=funext fun i=>by simp[aW]
    rw[this]
    refine yA fun F w ι a hR hops=>?_
    obtain⟨u,h1,h2⟩:=bVj (P:=P) hR hs.K hv (cE (Γ:=σ.Γ) (a:=a) fun t e=>by rw[←hs.Γ];exact hops t (by rw[hop];simp[Aw,e]))
    exact⟨u,by simp only[execOp,hop,Sem.run_bind,h1];rfl,h2⟩
   ·exact h.elim
  ·-- next
   rename_i x s hop
   rw[hop]at hnn;cases hnn.1
  ·-- store
   rename_i t ad x hop
   split at h
   ·rename_i id ho hst
    obtain⟨off,old,hadp,hold⟩:=aTj hst
    obtain⟨ts,hts,hΓ⟩:=tT (Γ:=σ.Γ) (x:=ad) (id:=id) (h:=.ptr 0 off) (by rw[hadp];rfl)
    refine write1 .un id ho old ts (by rw[hop];simp[Aw,hts]) hΓ hold (by rw[hop];rfl) h (fun T2 K2 hK2 hT2=>?_) hw
    refine bIm (H:=fun i=>if i=id then σ.H id else none) (id:=id) (ho:=ho) hop (one1 hold hK2) ?_ hT2 (by unfold lX;rw[Ap rfl]) wsub
    unfold nB at hst ⊢
    rw[hadp]at hst ⊢
    simp only[AF]at hst ⊢
    exact hst
   ·exact h.elim
  ·-- assignment to a map's element
   rename_i t m x v hop
   split at h
   ·rename_i id ho hst
    obtain⟨old,hm,hold,_⟩:=aFu hst
    obtain⟨ts,hts,hΓ⟩:=tT (Γ:=σ.Γ) (x:=m) (id:=id) (h:=.mp 0) (by rw[hm];rfl)
    refine write1 .any id ho old ts (by rw[hop];simp[Aw,hts]) hΓ hold (by rw[hop];rfl) h (fun T2 K2 hK2 hT2=>?_) hw
    refine aLp (H:=fun i=>if i=id then σ.H id else none) (v:=some v) (id:=id) (ho:=ho) (.inl ⟨v,rfl,.inl hop⟩) (one1 hold hK2) ?_ hT2 (by unfold lX;rw[Ap rfl]) wsub
    unfold pD at hst ⊢
    rw[hm]at hst ⊢
    simp only[AF]at hst ⊢
    exact hst
   ·exact h.elim
  ·-- a new element of a map
   rename_i t m x v hop
   split at h
   ·rename_i id ho hst
    obtain⟨old,hm,hold,_⟩:=aFu hst
    obtain⟨ts,hts,hΓ⟩:=tT (Γ:=σ.Γ) (x:=m) (id:=id) (h:=.mp 0) (by rw[hm];rfl)
    refine write1 .any id ho old ts (by rw[hop];simp[Aw,hts]) hΓ hold (by rw[hop];rfl) h (fun T2 K2 hK2 hT2=>?_) hw
    refine aLp (H:=fun i=>if i=id then σ.H id else none) (v:=some v) (id:=id) (ho:=ho) (.inl ⟨v,rfl,.inr hop⟩) (one1 hold hK2) ?_ hT2 (by unfold lX;rw[Ap rfl]) wsub
    unfold pD at hst ⊢
    rw[hm]at hst ⊢
    simp only[AF]at hst ⊢
    exact hst
   ·exact h.elim
  ·-- call
   rename_i f args ts hop
   unfold OC at h
   split at h
   ·rename_i hmut
    have hkd:kind P o.op=2:=by rw[hop];simp[kind,hmut]
    split at h
    case h_2=>exact h.elim
    rename_i x rest hargs
    split at h
    case h_2 =>
     rcases h with ⟨hno,ds,r,hf,hs,h⟩|⟨d0,y0,l0,id,hh,ho,ds,ho',hx0,hrest,hy,hold,hfl,hnv,hf,hs,hlen,hfl',h⟩
     rotate_left
     ·obtain⟨y,rest',rfl,rfl,rfl⟩:∃ y rest',rest=y::rest'∧y0=oev σ.Γ y∧l0=rest'.map (oev σ.Γ):=by
       cases rest with
       |nil=>cases hrest
       |cons y rest'=>simp only[BO,List.cons.injEq]at hrest;exact⟨y,rest',rfl,hrest.1.symm,hrest.2.symm⟩
      refine stepR (inj (.tp [])) id ho' ho (bT σ.H (rest'.map (oev σ.Γ))) hold (fun i hi=>uS hf hi) hkd h (fun s hs' i hi F w ι T2 a hR hopr=>?_) (fun s hs' T2 K2 hS=>?_) hw
      ·rcases Bq.1 hi with rfl|hi
       ·obtain⟨b,hb,_⟩:=aKa (F':=F) hy (cE (Γ:=σ.Γ) (a:=a) fun t e=>by rw[←hs'.Γ];exact hopr t (by rw[hop];simp only[Aw,Bc];simp;rw[←Cu,hargs];simp[e]))
        exact⟨b,hb⟩
       ·refine(mD (Γ:=σ.Γ) (a:=a) hR hs'.K hf fun z hz=>cE (Γ:=σ.Γ) (a:=a) fun t e=>by rw[←hs'.Γ];exact hopr t (by rw[hop];simp only[Aw,Bc];simp;rw[←Cu,hargs];subst e;simp[hz])).2.2 i hi
      ·rw[hs'.Γ]
       have hfr:=zU (H':=fun i=>if i∈id::bT σ.H (rest'.map (oev σ.Γ))then σ.H i else none) hf fun i hi=>Ap (AJ _ hi)
       have hKH:∀ i ob,(if i∈id::bT σ.H (rest'.map (oev σ.Γ))then σ.H i else none)=some ob→K2 i=some ob:=fun i ob hob=>by
        split at hob
        ·rename_i hi
         rw[(hS i hi).2];exact hs'.K _ _ hob
        ·cases hob
       refine bIn (H:=fun i=>if i∈id::bT σ.H (rest'.map (oev σ.Γ))then σ.H i else none) hop hargs hKH hx0 hy (by rw[Ap (AI ..)];exact hold) hfl (by rw[hfr.2];exact hnv) (fun i hi=>(hS i (AJ _ (by rw[←hfr.2];exact hi))).1) hfr.1 hs hlen hfl' (hS id (AI ..)).1 ?_ (fun j o' hj h=>?_)
       ·unfold jQ;rw[Ap (AI ..)];exact Ap rfl
       ·unfold jQ at h
        split at h
        ·rename_i hjS
         simp only[Ah hj]at h
         exact⟨hKH j o' (by rw[Ap hjS];exact h),(hS j hjS).1⟩
        ·split at h
         ·cases h
         ·exact⟨h,by assumption⟩
     refine stepU (inj r) (bT σ.H (rest.map (oev σ.Γ))) (fun i hi=>uS hf hi) hkd h (fun s hs' i hi F w ι T2 a hR hopr=>?_) (fun s hs' T2 K2 hS=>?_) hw
     ·refine(mD (Γ:=σ.Γ) (a:=a) hR hs'.K hf fun y hy=>cE (Γ:=σ.Γ) (a:=a) fun t e=>by rw[←hs'.Γ];exact hopr t (by rw[hop];simp only[Aw,Bc];simp;rw[←Cu,hargs];subst e;simp[hy])).2.2 i hi
     ·rw[hs'.Γ]
      have hfr:=zU (H':=fun i=>if i∈bT σ.H (rest.map (oev σ.Γ))then σ.H i else none) hf fun i hi=>Ap hi
      refine aQc (H:=fun i=>if i∈bT σ.H (rest.map (oev σ.Γ))then σ.H i else none) hop hargs (fun i ob hob=>?_) (.inr ⟨rfl,hno,rfl,rfl⟩) hfr.2 (fun i hi=>(hS i hi).1) hfr.1 hs (fun j o' h=>?_)
      ·split at hob
       ·rename_i hi
        rw[(hS i hi).2];exact hs'.K _ _ hob
       ·cases hob
      unfold jQ at h
      split at h
      ·cases h
      ·split at h
       ·cases h
       ·exact⟨h,by assumption,by assumption⟩
    rename_i id hh hx
    split at h
    case h_2=>exact h.elim
    rename_i ho hold
    obtain⟨tt,htt,hΓ⟩:=tT hx
    have hop2:CC tt∈o.op.operands:=by rw[hop];simp only[Aw,Bc];simp;rw[←Cu,hargs];simp[htt]
    rcases h with ⟨g,rfl,rfl,hks,h⟩|⟨hno,hvis,ds,ho',r,hf,hs,hlen,hno',h⟩|⟨hpos,ν,h0,ro,hs0,ds,ro',hs',r,tx,tid,tlf,tinj,tH,tm,hvis,hfr,hsp,h⟩|⟨hno,hvis,ds,r,hf,hs,h⟩
    ·have hmp:oev σ.Γ x=.mp id:=by
      generalize oev σ.Γ x=av at hx
      cases av<;>simp[hd1]at hx
      rw[hx]
     have hup:upd σ.H id (some ho)=σ.H:=by
      funext i;by_cases hi:i=id
      ·subst hi;rw[upd_same,hold]
      ·rw[upd_ne _ _ hi]
     refine write1 (.kf g id) id ho ho tt hop2 hΓ hold hkd (by rw[hup];exact h) (fun T2 K2 hK2 hT2=>?_) hw
     intro F w ι a hok hR hop' hn next hx'
     have hY:=bRu (P:=P) (G:=G) (C:=T2) (K:=K2) hop hargs hmp hks
     refine hY F w ι a hok hR hop' hn next fun F' w' ι' u hR' hs' hd1' hd2' hv'=>hx' F' w' ι' u ⟨hR'.kept,hR'.F_lt,hR'.F_ok,hR'.place,fun i b o' e1 e2=>?_,hR'.inj,fun i i' b o1 o2 e1 e2 e3 e4 e5=>?_⟩ hs' hd1' hd2' hv'
     ·by_cases hi:i=id
      ·subst hi;unfold lX at e2;rw[Ap rfl]at e2;exact hR'.obj _ b o' e1 (by rw[hK2];exact e2)
      ·exact hR'.obj i b o' e1 (wsub i o' hi e2).1
     ·have q:∀(i:Nat) (o1:HO),lX K2 T2 id ho i=some o1→K2 i=some o1:=fun i o1 e=>by
       by_cases hi:i=id
       ·subst hi;unfold lX at e;rw[Ap rfl]at e;rw[hK2];exact e
       ·exact(wsub i o1 hi e).1
      exact hR'.len i i' b o1 o2 e1 e2 e3 (q _ _ e4) (q _ _ e5)
    ·have hvis0:∀(c:AV),c∈rest.map (oev σ.Γ)→vis σ.H 8 c=[]:=fun c hc=>by
      unfold bT at hvis;exact List.flatMap_eq_nil_iff.1 hvis c hc
     refine write1 (inj r) id ho' ho tt hop2 hΓ hold hkd h (fun T2 K2 hK2 hT2=>?_) hw
     intro F w ι a hR
     have hfr:cI (fun i=>if i=id then σ.H id else none) (rest.map (oev σ.Γ))=some ds∧bT (fun i=>if i=id then σ.H id else none) (rest.map (oev σ.Γ))=[]:=zV hvis hf
     exact bIo (H:=fun i=>if i=id then σ.H id else none) hop hargs (one1 hold hK2) hx (by simp only[AF];exact hold) hno hfr.2 hfr.1 hs hlen hno' hT2 (by unfold lX;rw[Ap rfl]) wsub F w ι a hR
    ·refine stepG (inj r) ν ro hs0 ro' hs' hpos tinj (fun i ob hi=>(tH i ob hi).2) hkd h (fun s hs i hi F w ι T2 a hR hopr=>?_) (fun s hs hKn T2 K2 hS hN=>?_) hw
     ·refine zM hR (l:=ro::hs0) (k:=hs0.length+1) (fun i ob hl=>hs.K _ _ (tH i ob hl).2) ?_ tm i i (AA _) hi
      have hv:V F w ι (oev σ.Γ x) (a.eval x):=cE fun t e=>by rw[←hs.Γ];exact hopr t (by rw[hop];simp only[Aw,Bc];simp;rw[←Cu,hargs];simp[e])
      rw[tx]at hv
      exact aGr tid hv
     ·have hmem:∀ i ob,(ro::hs0)[i]? = some ob→i<hs0.length+1:=fun i ob hi=>by have:=(Ao.1 hi).1;simpa using this
      have hget:∀ i,i<hs0.length+1→∃ ob,(ro::hs0)[i]? = some ob:=fun i hi=>⟨_,Ab (by simpa using hi)⟩
      have hnv:=zV (H':=fun id=>if ∃ i,i<hs0.length+1∧ν i=id then σ.H id else none) hvis hfr
      have hSg:∀ i,i<hs0.length+1→K2 (ν i)=s.K (ν i):=fun i hi=>(hS (ν i) ⟨i,hi,rfl⟩).2
      rw[hs.Γ]
      refine bIl (H:=fun id=>if ∃ i,i<hs0.length+1∧ν i=id then σ.H id else none) (K:=K2) (ν:=ν) (n:=σ.n) (h:=h0) (ro:=ro) (hs:=hs0) hop hargs (fun id ob hid=>?_) tx tlf tinj (fun i ob hi=>⟨(tH i ob hi).1,?_⟩) (fun i hi=>(hS (ν i) ⟨i,hi,rfl⟩).1) (fun i hi F w ι a hR hopr=>?_) hnv.2 hnv.1 hsp ?_ (fun j ob hj=>?_) (fun j ob hj hn hg=>?_) ?_
      ·split at hid
       ·rename_i hx
        obtain⟨i,hi,rfl⟩:=hx
        rw[hSg i hi];exact hs.K _ _ hid
       ·cases hid
      ·rw[Ap ⟨i,hmem i ob hi,rfl⟩];exact(tH i ob hi).2
      ·refine zM hR (l:=ro::hs0) (k:=hs0.length+1) (fun i ob hl=>by rw[hSg i (hmem i ob hl)];exact hs.K _ _ (tH i ob hl).2) ?_ tm i i (AA _) hi
       have hv:V F w ι (oev σ.Γ x) (a.eval x):=cE fun t e=>hopr t (by rw[hop];simp only[Aw,Bc];simp;rw[←Cu,hargs];simp[e])
       rw[tx]at hv
       exact aGr tid hv
      ·unfold jQ;rw[Ap ⟨0,by omega,rfl⟩];simp only[AF]
      ·have hlt:=(Ao.1 hj).1
       have hnS:¬∃ i,i<hs0.length+1∧ν i=σ.n+j:=fun⟨i,hi,he⟩=>by
        obtain⟨ob',ho'⟩:=hget i hi
        have h1:=(tH i ob' ho').2
        rw[he,hwf.top _ (by omega)]at h1;cases h1
       unfold jQ
       rw[Ah hnS,Ah (hN (σ.n+j) ⟨by omega,by omega⟩).1,(hN (σ.n+j) ⟨by omega,by omega⟩).2]
       exact hKn j ob hj
      ·unfold jQ at hg
       split at hg
       ·simp only[Ah hj]at hg;cases hg
       ·rename_i hnS
        split at hg
        ·cases hg
        ·exact⟨hg,by assumption,fun i hi he=>hnS ⟨i,hi,he⟩⟩
      ·obtain⟨ob',ho'⟩:=hget 0 (by omega)
       have h1:=(tH 0 ob' ho').2
       rcases Az (ν 0) σ.n with h|h
       ·exact h
       ·rw[hwf.top _ h]at h1;cases h1
    ·refine stepU (inj r) (id::bT σ.H (rest.map (oev σ.Γ))) (fun i hi=>?_) hkd h (fun s hs' i hi F w ι T2 a hR hopr=>?_) (fun s hs' T2 K2 hS=>?_) hw
     ·rcases Bq.1 hi with rfl|hi
      ·exact⟨_,hold⟩
      ·exact uS hf hi
     ·rcases Bq.1 hi with rfl|hi
      ·obtain⟨b,hb,_⟩:=aKa (F':=F) hx (cE (Γ:=σ.Γ) (a:=a) fun t e=>by rw[←hs'.Γ];exact hopr t (by rw[hop];simp only[Aw,Bc];simp;rw[←Cu,hargs];simp[e]))
       exact⟨b,hb⟩
      ·refine(mD (Γ:=σ.Γ) (a:=a) hR hs'.K hf fun y hy=>cE (Γ:=σ.Γ) (a:=a) fun t e=>by rw[←hs'.Γ];exact hopr t (by rw[hop];simp only[Aw,Bc];simp;rw[←Cu,hargs];subst e;simp[hy])).2.2 i hi
     ·rw[hs'.Γ]
      obtain⟨hT2,hK2⟩:=hS id (AI ..)
      have hfr:=zU (H':=fun i=>if i∈id::bT σ.H (rest.map (oev σ.Γ))then σ.H i else none) hf fun i hi=>Ap (AJ _ hi)
      refine aQc (H:=fun i=>if i∈id::bT σ.H (rest.map (oev σ.Γ))then σ.H i else none) hop hargs (fun i ob hob=>?_) (.inl ⟨id,ho,rfl,hx,rfl,by rw[Ap (AI ..)];exact hold,hno,hT2,hvis⟩) hfr.2 (fun i hi=>(hS i (AJ _ hi)).1) hfr.1 hs (fun j o' h=>?_)
      ·split at hob
       ·rename_i hi
        rw[(hS i hi).2];exact hs'.K _ _ hob
       ·cases hob
      unfold jQ at h
      split at h
      ·cases h
      ·split at h
       ·cases h
       ·exact⟨h,by assumption,by assumption⟩
   ·rename_i hmut
    have hkd:kind P o.op=1:=by rw[hop];simp[kind,hmut]
    rcases h with ⟨_,hpos,v,hs0,hsp,h⟩|h
    ·refine newk (v σ.n) (hs0 σ.n) hpos h (fun s hs hKn=>.inr (.inl ⟨hkd,rfl,(fun _ h=>h.elim),(fun _ _ _ _ _ _ _ _ h=>h.elim),fun T2 _=>?_⟩)) hw
     rw[hs.Γ]
     rcases hsp with ⟨ds,hfr,hvis,hsp⟩|⟨hno,hsp⟩
     ·exact bIp hop hs.K hfr hvis hsp hpos hKn
     ·exact aXr hop hno hsp hpos hKn
    split at h
    ·rename_i g id hargs
     obtain⟨x,hx,hxe⟩:∃ x,args.toList=[x]∧oev σ.Γ x=.kf g id:=by
      cases hl:args.toList with
      |nil=>rw[hl]at hargs;cases hargs
      | cons x l =>
       rw[hl]at hargs
       cases l with
       |nil=>simp only[BO,EV,List.cons.injEq,and_true]at hargs;exact⟨x,rfl,hargs⟩
       |cons y l=>simp at hargs
     split at h
     ·rename_i es hH
      obtain⟨hn,hrr,hss,h⟩:=h
      refine pure0 _ [] σ.H rfl (fun _ h=>by cases h) h (fun s hs=>.inr (.inl ⟨hkd,rfl,(fun _ h=>by cases h),(fun _ _ _ _ _ _ _ _ h=>by cases h),fun T2 _=>?_⟩)) hw
      have:(fun i=>i∈([]:List Nat))=aW:=funext fun i=>by simp[aW]
      rw[this]
      exact aXq (Γ:=s.Γ) hop hx hs.K (by rw[hs.Γ];exact hxe) hH hn hrr hss
     ·exact h.elim
    ·obtain⟨ds,r,hfr,hsp,h⟩:=h
     refine pure0 (inj r) (aX σ.H (args.toList.map (oev σ.Γ)) r) _ rfl (fun id hid=>by obtain⟨o',ho'⟩:=fP hid;rw[ho'];rfl) h (fun s hs=>.inr (.inl ⟨hkd,rfl,fun id hid ht=>?_,fun F w ι T2 a hR hops id hid=>?_,fun T2 hT2=>?_⟩)) hw
     ·obtain⟨o',ho'⟩:=fP hid
      have:=(hwf.con id ((hs.T id).1 ht)).2
      rw[this]at ho';cases ho'
     ·refine aWx (Γ:=σ.Γ) (a:=a) (r:=r) hR hs.K hfr (fun x hx=>cE fun t e=>?_) id hid
      rw[←hs.Γ];exact hops t (by rw[hop];subst e;simp[Aw,Bc];simpa using hx)
     ·have:=bRv (P:=P) (G:=G) (Γ:=s.Γ) (C:=T2) (K:=s.K) (H:=σ.H) (o:=o) (r:=r) hop hs.K (by rw[hs.Γ];exact hfr) hsp (by rw[hs.Γ];exact hT2)
      rw[hs.Γ]at this ⊢
      exact this
  ·-- call of a function value
   rename_i t args ts hop
   split at h
   ·rename_i f cs hcal
    obtain⟨ds,r,hfr,hsp,h⟩:=h
    have hkd:kind P o.op=1:=by rw[hop];rfl
    refine pure0 (inj r) (aX σ.H (args.toList.map (oev σ.Γ)++cs) r) _ rfl (fun id hid=>by obtain⟨o',ho'⟩:=fP hid;rw[ho'];rfl) h (fun s hs=>.inr (.inl ⟨hkd,rfl,fun id hid ht=>?_,fun F w ι T2 a hR hops id hid=>?_,fun T2 hT2=>?_⟩)) hw
    ·obtain⟨o',ho'⟩:=fP hid
     have:=(hwf.con id ((hs.T id).1 ht)).2
     rw[this]at ho';cases ho'
    ·refine aPl (x:=.tmp t) (Γ:=σ.Γ) (a:=a) (r:=r) hR hs.K hcal hfr (cE fun t' e=>?_) (fun x hx=>cE fun t' e=>?_) id hid
     ·rw[←hs.Γ];injection e with e;subst e;exact hops t (by rw[hop];simp[Aw,Bc])
     ·rw[←hs.Γ];exact hops t' (by rw[hop];subst e;simp[Aw,Bc];right;simpa using hx)
    ·have:=bIq (x:=.tmp t) (P:=P) (G:=G) (Γ:=s.Γ) (C:=T2) (K:=s.K) (H:=σ.H) (o:=o) (r:=r) (f:=f) (cs:=cs) hop hs.K (by rw[hs.Γ];exact hcal) (by rw[hs.Γ];exact hfr) hsp (by rw[hs.Γ];exact hT2)
     rw[hs.Γ]at this ⊢
     exact this
   ·split at h
    ·rename_i f d hcal
     obtain⟨ds,r,hfr,hsp,h⟩:=h
     have hkd:kind P o.op=1:=by rw[hop];rfl
     refine pure0 (inj r) (aX σ.H (.d d::args.toList.map (oev σ.Γ)) r) _ rfl (fun id hid=>by obtain⟨o',ho'⟩:=fP hid;rw[ho'];rfl) h (fun s hs=>.inr (.inl ⟨hkd,rfl,fun id hid ht=>?_,fun F w ι T2 a hR hops id hid=>?_,fun T2 hT2=>?_⟩)) hw
     ·obtain⟨o',ho'⟩:=fP hid
      have:=(hwf.con id ((hs.T id).1 ht)).2
      rw[this]at ho';cases ho'
     ·refine aPm (x:=.tmp t) (f:=f) (d:=d) (Γ:=σ.Γ) (a:=a) (r:=r) hR hs.K hcal hfr (cE fun t' e=>?_) (fun x hx=>cE fun t' e=>?_) id hid
      ·rw[←hs.Γ];injection e with e;subst e;exact hops t (by rw[hop];simp[Aw,Bc])
      ·rw[←hs.Γ];exact hops t' (by rw[hop];subst e;simp[Aw,Bc];right;simpa using hx)
     ·have:=bIr (x:=.tmp t) (P:=P) (G:=G) (Γ:=s.Γ) (C:=T2) (K:=s.K) (H:=σ.H) (o:=o) (r:=r) (f:=f) (d:=d) hop hs.K (by rw[hs.Γ];exact hcal) (by rw[hs.Γ];exact hfr) hsp (by rw[hs.Γ];exact hT2)
      rw[hs.Γ]at this ⊢
      exact this
    ·exact h.elim
  ·-- call of a method
   rename_i t name args ts hop
   split at h
   ·rename_i ty d hcal
    split at h
    ·rename_i f hme
     obtain⟨ds,r,hfr,hsp,h⟩:=h
     have hkd:kind P o.op=1:=by rw[hop];rfl
     refine pure0 (inj r) (aX σ.H (.d d::args.toList.map (oev σ.Γ)) r) _ rfl (fun id hid=>by obtain⟨o',ho'⟩:=fP hid;rw[ho'];rfl) h (fun s hs=>.inr (.inl ⟨hkd,rfl,fun id hid ht=>?_,fun F w ι T2 a hR hops id hid=>?_,fun T2 hT2=>?_⟩)) hw
     ·obtain⟨o',ho'⟩:=fP hid
      have:=(hwf.con id ((hs.T id).1 ht)).2
      rw[this]at ho';cases ho'
     ·refine bDu (x:=.tmp t) (ty:=ty) (d:=d) (Γ:=σ.Γ) (a:=a) (r:=r) hR hs.K hcal hfr (cE fun t' e=>?_) (fun x hx=>cE fun t' e=>?_) id hid
      ·rw[←hs.Γ];injection e with e;subst e;exact hops t (by rw[hop];simp[Aw,Bc])
      ·rw[←hs.Γ];exact hops t' (by rw[hop];subst e;simp[Aw,Bc];right;simpa using hx)
     ·have:=aXs (x:=.tmp t) (P:=P) (G:=G) (Γ:=s.Γ) (C:=T2) (K:=s.K) (H:=σ.H) (o:=o) (r:=r) (f:=f) (ty:=ty) (d:=d) hop hs.K (by rw[hs.Γ];exact hcal) hme (by rw[hs.Γ];exact hfr) hsp (by rw[hs.Γ];exact hT2)
      rw[hs.Γ]at this ⊢
      exact this
    ·exact h.elim
   ·exact h.elim
  ·-- append
   rename_i args ts hop
   split at h
   ·rename_i s x t t' hargs hts
    obtain⟨rfl,h⟩:=h
    split at h
    ·rename_i av nb cn happ
     have hop':o.op=.call { callee:=.builtin .append,args:=#[s,x],argTypes:=#[t,t] }:=by
      rw[hop];cases args;cases ts;simp only at hargs hts;subst hargs;subst hts;rfl
     have hcs:∀ id∈cn,(σ.H id).isSome=true:=fun id hid=>by obtain⟨⟨o',ho'⟩,_⟩:=aLa happ id hid;rw[ho'];rfl
     have hlive:∀ s':AS,dD σ con s'→∀ F w ι T2 (a:Act),HR G F w ι T2 s'.K→(∀ t,CC t∈o.op.operands→V F w ι (s'.Γ t) (a.tmps.getD t undef))→∀ id,id∈cn→∃ b,ι id=some b:=by
      intro s' hs F w ι T2 a hR hops id hid
      obtain⟨_,off,len,sz,hse⟩:=aLa happ id hid
      have:=cE (Γ:=σ.Γ) (a:=a) (x:=s) (F:=F) (w:=w) (ι:=ι) fun t e=>by rw[←hs.Γ];exact hops t (by rw[hop'];simp[Aw,Bc,e])
      rw[hse]at this
      generalize a.eval s=v at this
      cases this with|own _ _ _ _ b cap cur e hι=>exact⟨b,hι⟩
     have hnT:∀ s':AS,dD σ con s'→∀ id,id∈cn→¬s'.T id:=fun s' hs id hid ht=>by
      have h1:=hcs id hid
      rw[(hwf.con id ((hs.T id).1 ht)).2]at h1;cases h1
     cases nb with
     | none =>
      refine pure0 av cn _ rfl hcs h (fun s' hs=>.inr (.inl ⟨by rw[hop];rfl,rfl,hnT s' hs,hlive s' hs,fun T2 hT2=>?_⟩)) hw
      have:=aGz (P:=P) (G:=G) (Γ:=s'.Γ) (C:=T2) (K:=s'.K) (H:=σ.H) (n:=σ.n) (o:=o) hop' hs.K (by rw[hs.Γ];exact happ) (fun ob h=>by cases h) hT2
      have e1:(fun i:Nat=>(none:Option HO).isSome=true∧i=σ.n)=aW:=funext fun i=>by simp[aW]
      rw[e1]at this;exact this
     | some ho =>
      refine new1 av cn ho hcs h (fun s' hs hKn=>.inr (.inl ⟨by rw[hop];rfl,rfl,hnT s' hs,hlive s' hs,fun T2 hT2=>?_⟩)) hw
      have:=aGz (P:=P) (G:=G) (Γ:=s'.Γ) (C:=T2) (K:=s'.K) (H:=σ.H) (n:=σ.n) (o:=o) hop' hs.K (by rw[hs.Γ];exact happ) (fun ob h=>by injection h with h;subst h;exact hKn) hT2
      have e1:(fun i:Nat=>(some ho).isSome=true∧i=σ.n)=(·=σ.n):=funext fun i=>by simp
      rw[e1]at this;exact this
    ·exact h.elim
   ·exact h.elim
  ·-- delete
   rename_i args ts hop
   split at h
   ·rename_i m x t kt hargs hts
    split at h
    ·rename_i id ho hst
     have hop':o.op=.call { callee:=.builtin .delete,args:=#[m,x],argTypes:=#[t,kt] }:=by
      rw[hop];cases args;cases ts;simp only at hargs hts;subst hargs;subst hts;rfl
     obtain⟨old,hm,hold,_⟩:=aFu hst
     obtain⟨tt,htt,hΓ⟩:=tT (Γ:=σ.Γ) (x:=m) (id:=id) (h:=.mp 0) (by rw[hm];rfl)
     refine write1 .any id ho old tt (by rw[hop'];simp[Aw,Bc,htt]) hΓ hold (by rw[hop];rfl) h (fun T2 K2 hK2 hT2=>?_) hw
     refine aLp (H:=fun i=>if i=id then σ.H id else none) (v:=none) (id:=id) (ho:=ho) (.inr ⟨rfl,kt,hop'⟩) (one1 hold hK2) ?_ hT2 (by unfold lX;rw[Ap rfl]) wsub
     unfold pD at hst ⊢
     rw[hm]at hst ⊢
     simp only[AF]at hst ⊢
     exact hst
    ·exact h.elim
   ·exact h.elim
  ·-- how long something is
   rename_i args ts hop
   split at h
   ·rename_i hlm
    split at h
    ·rename_i m hargs
     split at h
     ·rename_i n hn
      obtain⟨ts⟩:=ts
      obtain⟨args⟩:=args
      simp only at hargs;subst hargs
      unfold aNy at hlm
      simp only at hlm
      split at hlm
      case h_2=>cases hlm
      rename_i t
      simp only[AR]at hlm
      refine pure0 (.d (.i .i64 n)) [] σ.H rfl (fun _ h=>by cases h) h (fun s hs=>.inr (.inl ⟨by rw[hop];simp[kind,aJv,hlm.1,hlm.2],rfl,(fun _ h=>by cases h),(fun _ _ _ _ _ _ _ _ h=>by cases h),fun T2 _=>?_⟩)) hw
      have:(fun i=>i∈([]:List Nat))=aW:=funext fun i=>by simp[aW]
      rw[this]
      refine yA fun F w ι a hR hops=>?_
      have hv:V F w ι (oev σ.Γ m) (a.eval m):=cE (Γ:=σ.Γ) (a:=a) fun t e=>by rw[←hs.Γ];exact hops t (by rw[hop];simp[Aw,Bc,e])
      have h1:=bMz (P:=P) (t:=t) (ty:=o.type) hR hs.K hlm.2 hn hv
      exact⟨_,by simp[execOp,hop,resolve,invoke,builtin,h1],.d _ _ (.i _ _)⟩
     ·exact h.elim
    ·exact h.elim
   ·obtain⟨hk0,h⟩:=h
    have hk:kind P o.op=0:=by rw[hop];exact hk0
    split at h
    ·rename_i av nb hnev
     have e0:(fun i=>i∈([]:List Nat))=aW:=funext fun i=>by simp[aW]
     cases nb with
     | none =>
      refine pure0 av [] σ.H rfl (fun _ h=>by cases h) h (fun s hs=>?_) hw
      rw[e0]
      exact .inl ⟨hk,rfl,rfl,fun T2 K2 _=>aJj (n:=σ.n) (by rw[hs.Γ,hop];exact hnev)⟩
     | some ho =>
      refine new1 av [] ho (fun _ h=>by cases h) h (fun s hs hKn=>?_) hw
      rw[e0]
      exact .inl ⟨hk,rfl,rfl,fun T2 K2 hK2=>aDa (n:=σ.n) (ho:=ho) (by rw[hs.Γ,hop];exact hnev) (by rw[hK2 _ rfl];exact hKn)⟩
    ·exact h.elim
  ·-- values alone
   obtain⟨hk,h⟩:=h
   split at h
   ·rename_i av nb hnev
    have e0:(fun i=>i∈([]:List Nat))=aW:=funext fun i=>by simp[aW]
    cases nb with
    | none =>
     refine pure0 av [] σ.H rfl (fun _ h=>by cases h) h (fun s hs=>?_) hw
     rw[e0]
     exact .inl ⟨hk,rfl,rfl,fun T2 K2 _=>aJj (n:=σ.n) (by rw[hs.Γ];exact hnev)⟩
    | some ho =>
     refine new1 av [] ho (fun _ h=>by cases h) h (fun s hs hKn=>?_) hw
     rw[e0]
     exact .inl ⟨hk,rfl,rfl,fun T2 K2 hK2=>aDa (n:=σ.n) (ho:=ho) (by rw[hs.Γ];exact hnev) (by rw[hK2 _ rfl];exact hKn)⟩
   ·exact h.elim
end
def aEu(l:List Nat):AV→AV
 |.ptr id off=>if id∈l then .any else .ptr id off
 |.d x=>.d x
 |.fp cs=>.fp cs
 |_=>.any
def dS(l:List Nat):AV→AV
 |.fn f cs=>.fn f (cs.map (aEu l))
 |.own id off len sz=>if id∈l then .any else .own id off len sz
 |.ptr id off=>if id∈l then .any else .ptr id off
 |.mp id=>if id∈l then .any else .mp id
 |.kf f id=>if id∈l then .any else .kf f id
 |.ag _=>.any
 |.tp _=>.any
 |x=>x
def yS(l:List Nat):AV→AV
 |.ag cs=>.ag (cs.map (dS l))
 |x=>dS l x
def jD(l:List Nat):AV→AV
 |.tp vs=>.tp (vs.map (yS l))
 |x=>yS l x
def gY(l:List Nat):HO→HO
 |.cells e cs=>.cells e (cs.map (dS l))
 |.map k es=>.map k (es.map fun p=>(p.1,yS l p.2))
 |.iter k l' es=>.iter k l' es
def fin(σ:St)(con:List Nat):St:=match con with
 |[]=>σ
 |l=>⟨fun t=>jD l (σ.Γ t),fun id=>(σ.H id).map (gY l),σ.n⟩
def SR(G:Ctx)(N:Nat)(ds:List Deferred)(σ:St)(a:Act)(w:World):Prop :=
 (∀ id,σ.n≤id→σ.H id=none)∧(σ.n=0→∀ b,G.P0 b)∧OkV w ∧
 ∃ F ι,HR G F w ι aW σ.H∧(∀ id,(∃ b,ι id=some b)↔(σ.H id).isSome=true)∧(∀ t,V F w ι (σ.Γ t) (a.tmps.getD t undef))∧(a.tmps.size=N∧∀ t v,G.Z t=some v→a.tmps.getD t undef=v)∧a.defers=ds∧∀ b,ι 0=some b→G.P0 b
section
variable {F:Nat→Prop} {w:World} {ι:Nat→Option Nat} {l:List Nat}
def mask(ι:Nat→Option Nat)(l:List Nat):Nat→Option Nat:=fun id=>if id∈l then none else ι id
theorem cK{id b:Nat}(h:mask ι l id=some b):ι id=some b∧id ∉ l:=by
 unfold mask at h;split at h
 ·cases h
 ·exact⟨h,by assumption⟩
theorem bHw{x:AV}{v:Value}(h:V F w ι x v):V F w (mask ι l) (aEu l x) v:=by
 cases h with
 |d x v h=>exact .d _ _ h
 | ptr id off b hι =>
  simp only[aEu];split
  ·exact .any _
  ·exact .ptr _ _ _ (by unfold mask;rw[Ah ‹_›];exact hι)
 |fp cs ad f hF hcell hel=>exact .fp _ _ f hF hcell hel
 |_=>exact .any _
theorem aAx{x:AV}{v:Value}(h:V F w ι x v):V F w (mask ι l) (dS l x) v:=by
 cases h with
 |d x v h=>exact .d _ _ h
 |nil=>exact .nil
 | own id off len sz b cap cur e hι hb hcap hl hm =>
  simp only[dS];split
  ·exact .any _
  ·exact .own _ _ _ _ b _ _ _ (by unfold mask;rw[Ah ‹_›];exact hι) hb hcap hl hm
 | ptr id off b hι =>
  simp only[dS];split
  ·exact .any _
  ·exact .ptr _ _ _ (by unfold mask;rw[Ah ‹_›];exact hι)
 | mp id b hι =>
  simp only[dS];split
  ·exact .any _
  ·exact .mp _ _ (by unfold mask;rw[Ah ‹_›];exact hι)
 |ub t=>exact .ub t
 | kf f id b p e hι hF hp =>
  simp only[dS];split
  ·exact .any _
  ·exact .kf f _ b p e (by unfold mask;rw[Ah ‹_›];exact hι) hF hp
 |fp cs ad f hF hcell hel=>exact .fp _ _ f hF hcell hel
 |fd els ad n h=>exact .fd _ _ _ h
 |ag cs vs hl h=>exact .any _
 |tp cs vs hl h=>exact .any _
 |un=>exact .un
 | fn g cs vs hl hh =>
  refine .fn _ _ _ (by simpa using hl) fun k c u hc hu=>?_
  rw[Ag]at hc
  obtain⟨d,hd,rfl⟩:=Af.1 hc
  exact bHw (hh k d u hd hu)
 |any v=>exact .any _
theorem aAw{x:AV}{v:Value}(h:V F w ι x v):V F w (mask ι l) (yS l x) v:=by
 have h0:=aAx (l:=l) h
 cases h with
 | ag cs vs hl hh =>
  refine .ag _ _ (by simpa using hl) fun k c u hc hu=>?_
  rw[Ag]at hc
  obtain⟨d,hd,rfl⟩:=Af.1 hc
  exact aAx (hh k d u hd hu)
 |_=>exact h0
theorem aGq{x:AV}{v:Value}(h:V F w ι x v):V F w (mask ι l) (jD l x) v:=by
 have h1:=aAw (l:=l) h
 cases h with
 | tp cs vs hl hh =>
  refine .tp _ _ (by simpa using hl) fun k c u hc hu=>?_
  rw[Ag]at hc
  obtain⟨d,hd,rfl⟩:=Af.1 hc
  exact aAw (hh k d u hd hu)
 |_=>exact h1
theorem aBi{o:HO}{ob:Obj}(h:CR F w ι o ob):CR F w (mask ι l) (gY l o) ob:=by
 cases h with
 | cells e cs cur hl hh =>
  refine .cells _ _ _ (by simpa using hl) fun k c hk=>?_
  rw[Ag]at hk
  obtain⟨d,hd,rfl⟩:=Af.1 hk
  obtain⟨u,hu,hv⟩:=hh k d hd
  exact⟨u,hu,aAx hv⟩
 | map k es ents clock hl hst hh =>
  refine .map _ _ _ _ (by simpa using hl) hst fun k x hk=>?_
  rw[Ag]at hk
  obtain⟨d,hd,rfl⟩:=Af.1 hk
  obtain⟨en,h1,h2,h3⟩:=hh k d hd
  exact⟨en,h1,h2,aAw h3⟩
 |iter k last es bm since c0 clock seen ents hF hb hold hsc hnd hl h hla=>exact .iter k last es bm since c0 clock seen ents hF hb hold hsc hnd hl h hla
theorem yR(o:HO):(gY l o).len=o.len:=by cases o<;>simp[gY,HO.len]
variable {G:Ctx} {N:Nat} {ds:List Deferred}
theorem aBb{σ:St}{con:List Nat}{s:AS}{a:Act}(hn0:σ.n=0→∀ b,G.P0 b)(hwf:Wf σ con)(hag:dD σ con s)(hr:mH G N ds s a w):SR G N ds (fin σ con) a w:=by
 obtain⟨hok,F,ι,hR,hdom,hV,hN,hds,hp⟩:=hr
 rw[hag.Γ]at hV
 cases con with
 | nil =>
  refine⟨hwf.top,hn0,hok,F,ι,?_,fun id=>by rw[hdom,hag.U];simp[fin],hV,hN,hds,hp⟩
  have hT:s.T=aW:=funext fun i=>propext (by simp[hag.T,aW])
  rw[hT]at hR
  exact⟨hR.kept,hR.F_lt,hR.F_ok,hR.place,fun id b o h1 h2=>hR.obj id b o h1 (hag.K _ _ h2),hR.inj,fun id id' b o o' h1 h2 h3 h4 h5=>hR.len id id' b o o' h1 h2 h3 (hag.K _ _ h4) (hag.K _ _ h5)⟩
 | cons c con =>
  have hl:fin σ (c::con)=⟨fun t=>jD (c::con) (σ.Γ t),fun id=>(σ.H id).map (gY (c::con)),σ.n⟩:=rfl
  rw[hl]
  have hT:∀ id,id ∉ c::con→¬s.T id:=fun id h ht=>h ((hag.T id).1 ht)
  refine⟨fun id h=>by simp[hwf.top id h],hn0,hok,F,mask ι (c::con),⟨hR.kept,hR.F_lt,hR.F_ok,fun id b h=>?_,fun id b o h1 h2=>?_,fun id id' b h h' _ _=>?_,fun id id' b o o' h h' _ h3 h4=>?_⟩,fun id=>?_,fun t=>aGq (hV t),hN,hds,fun b hb=>hp b (cK hb).1⟩
  ·obtain⟨h1,h2⟩:=cK h
   obtain⟨p1,p2,p3⟩:=hR.place id b h1
   exact⟨p1,p2,fun _=>p3 (hT id h2)⟩
  ·obtain⟨q1,_⟩:=cK h1
   obtain⟨o1,ho1,rfl⟩:=Af.1 h2
   obtain⟨ob,e1,e2⟩:=hR.obj id b o1 q1 (hag.K _ _ ho1)
   exact⟨ob,e1,aBi e2⟩
  ·obtain⟨q1,q2⟩:=cK h
   obtain⟨q1',q2'⟩:=cK h'
   exact hR.inj id id' b q1 q1' (hT id q2) (hT id' q2')
  ·obtain⟨q1,q2⟩:=cK h
   obtain⟨q1',q2'⟩:=cK h'
   obtain⟨o1,ho1,rfl⟩:=Af.1 h3
   obtain⟨o2,ho2,rfl⟩:=Af.1 h4
   rw[yR,yR]
   exact hR.len id id' b o1 o2 q1 q1' (hT id q2) (hag.K _ _ ho1) (hag.K _ _ ho2)
  ·constructor
   ·rintro⟨b,h⟩
    obtain⟨q1,q2⟩:=cK h
    rcases(hag.U id).1 ((hdom id).1 ⟨b,q1⟩)with h|h
    ·simpa using h
    ·exact absurd h q2
   ·intro h
    simp only[Option.isSome_map]at h
    obtain⟨b,hb⟩:=(hdom id).2 ((hag.U id).2 (.inl h))
    refine⟨b,?_⟩
    unfold mask
    rw[Ah fun hc=>by have:=(hwf.con id hc).2;rw[this]at h;cases h]
    exact hb
theorem pW{σ:St}{a:Act}(h:SR G N ds σ a w):(σ.n=0→∀ b,G.P0 b)∧Wf σ []∧∀ K:Hp,(∀ id o,σ.H id=some o→K id=some o) →
  dD σ [] ⟨σ.Γ,aW,K,fun id=>(σ.H id).isSome=true⟩∧mH G N ds ⟨σ.Γ,aW,K,fun id=>(σ.H id).isSome=true⟩ a w:=by
 obtain⟨htop,hn0,hok,F,ι,hR,hdom,hV,hN,hds,hp⟩:=h
 refine⟨hn0,⟨htop,fun _ h=>by cases h⟩,fun K hK=>⟨⟨rfl,fun id=>by simp[aW],hK,fun id=>by simp⟩,hok,F,ι,?_,hdom,hV,hN,hds,hp⟩⟩
 have live:∀ id b,ι id=some b→∃ o,σ.H id=some o:=fun id b h=>Ec.1 ((hdom id).1 ⟨b,h⟩)
 refine⟨hR.kept,hR.F_lt,hR.F_ok,hR.place,fun id b o h1 h2=>?_,hR.inj,fun id id' b o o' h1 h2 h3 h4 h5=>?_⟩
 ·obtain⟨o1,ho1⟩:=live id b h1
  simp only at h2
  rw[hK _ _ ho1]at h2;injection h2 with h2;subst h2
  exact hR.obj id b o1 h1 ho1
 ·obtain⟨o1,ho1⟩:=live id b h1
  obtain⟨o2,ho2⟩:=live id' b h2
  simp only at h4 h5
  rw[hK _ _ ho1]at h4;injection h4 with h4;subst h4
  rw[hK _ _ ho2]at h5;injection h5 with h5;subst h5
  exact hR.len id id' b o1 o2 h1 h2 h3 ho1 ho2
end
section
variable {G:Ctx} {N:Nat} {ds:List Deferred}
theorem aFj{P:Program}[M:Mch P]{ops:Array Oper}{k:St→List Nat→Prop}{Q':Exit→Act→World→Prop}(hQ:∀ σ con s a w,k σ con→(σ.n=0→∀ b,G.P0 b)→Wf σ con→dD σ con s→mH G N ds s a w→Q' .normal a w) :
  ∀(l:List Oper) (σ:St) (con:List Nat) (s:AS) (a:Act) (w:World),(∀ o∈l,∀ d,o.dst=some d→d<N∧G.Z d=none)→(σ.n=0→∀ b,G.P0 b)→Wf σ con→dD σ con s→mH G N ds s a w→OW P ops l σ con k→gD P ops Q' l a w
 |[],σ,con,s,a,w,_,hn0,hwf,hag,hr,h=>hQ σ con s a w h hn0 hwf hag hr
 | o::l,σ,con,s,a,w,hd,hn0,hwf,hag,hr,h=>by
  have ih:=fun σ' con' s' a' w' (h1:(σ'.n=0→∀ b,G.P0 b)) h2 h3 h4 h5=>aFj (P:=P) (ops:=ops) hQ l σ' con' s' a' w' (fun o ho=>hd o (AJ _ ho)) h1 h2 h3 h4 h5
  unfold gD
  cases hx:bDs o.op with
  | true =>
   unfold OW at h
   split at h
   case h_3=>exact h.elim
   ·rename_i hw
    obtain⟨hok,F,ι,hR,hdom,hV,hN,hds,hp⟩:=id hr
    rw[hag.Γ]at hV
    rw[Ap (qD hw hV)]
    cases hop:o.op with
    |next x b=>unfold O1 at h;rw[hop]at h;exact h.elim
    |_=>rw[hop]at hx;cases hx
   ·rename_i hw
    obtain⟨hok,F,ι,hR,hdom,hV,hN,hds,hp⟩:=id hr
    have hV':=hV
    rw[hag.Γ]at hV'
    rw[Ah (by rw[qD hw hV'];simp)]
    have hr':mH G N ds ⟨bE s.Γ o.dst .un,s.T,s.K,s.U⟩ (a.put o.dst undef) w:=by
     have hlt:∀ d,o.dst=some d→d<a.tmps.size:=fun d h=>by rw[hN.1];exact(hd o (AI ..) d h).1
     refine⟨hok,F,ι,hR,hdom,aLg hV .un fun t=>iU a o.dst undef hlt t,⟨by cases o.dst<;>simp[C0,hN.1],fun t v hz=>?_⟩,by cases o.dst<;>simp[C0,hds],hp⟩
     rw[iU a o.dst undef hlt t,Ah (fun e=>by rw[(hd o (AI ..) t e).2]at hz;cases hz)]
     exact hN.2 t v hz
    exact ih ⟨bE σ.Γ o.dst .un,σ.H,σ.n⟩ con ⟨bE s.Γ o.dst .un,s.T,s.K,s.U⟩ _ _ hn0 ⟨hwf.top,hwf.con⟩ ⟨by rw[hag.Γ],hag.T,hag.K,hag.U⟩ hr' h
  | false =>
   have h':OW P ops [o] σ con fun σ' con'=>OW P ops l σ' con' k:=h
   obtain⟨fb,hfb⟩:=pX (G:=G) (k:=fun σ' con'=>OW P ops l σ' con' k) [o] σ con (by simp[fM,hx]) hn0 hwf h'
   -- blocks that are not made yet may be named as it suits
   have hU:∀ id,s.U id→id<σ.n:=fun id h=>by
    rcases(hag.U id).1 h with h|h
    ·rcases Az id σ.n with h'|h'
     ·exact h'
     ·rw[hwf.top id h']at h;cases h
    ·exact(hwf.con id h).1
   have hag':dD σ con ⟨s.Γ,s.T,fun i=>if i<σ.n then s.K i else fb i,s.U⟩:=⟨hag.Γ,hag.T,fun id o' h=>by
    simp only
    rw[Ap]
    ·exact hag.K id o' h
    ·exact hU id ((hag.U id).2 (.inl (by rw[h];rfl))),hag.U⟩
   have hr':mH G N ds ⟨s.Γ,s.T,fun i=>if i<σ.n then s.K i else fb i,s.U⟩ a w:=by
    obtain⟨hok,F,ι,hR,hdom,hV,hN,hds,hp⟩:=id hr
    have hlt:∀ id b,ι id=some b→id<σ.n:=fun id b h=>hU id ((hdom id).1 ⟨b,h⟩)
    refine⟨hok,F,ι,⟨hR.kept,hR.F_lt,hR.F_ok,hR.place,fun id b o' h1 h2=>?_,hR.inj,fun id id' b o1 o2 h1 h2 h3 h4 h5=>?_⟩,hdom,hV,hN,hds,hp⟩
    ·simp only at h2;rw[Ap (hlt id b h1)]at h2;exact hR.obj id b o' h1 h2
    ·simp only at h4 h5;rw[Ap (hlt id b h1)]at h4;rw[Ap (hlt id' b h2)]at h5;exact hR.len id id' b o1 o2 h1 h2 h3 h4 h5
   obtain⟨s',hdo,σ',con',hk,hn',hwf',hag2⟩:=hfb _ hag' (fun i hi=>by simp only;rw[Ah (by omega)])
   exact nQ (K:=gD P ops Q' l) hdo (hd o (AI ..)) hr' fun a' w' hr2=>ih σ' con' s' a' w' hn' hwf' hag2 hr2 hk
end
theorem sZ{P:Program}[M:Mch P]{rd:Bool}{WW:Code→(Exit→Act→World→Prop)→Act→World→Prop}(hW:WpR P rd WW){G:Ctx}{id N:Nat}{ds:List Deferred}{ops:Array Oper}{draw:Bool}{Q:St→Prop}{Q':Exit→Act→World→Prop}{σ:St}{a:Act}{w:World}(hm:P.follows .mixedOrders=true)
  (hdst:∀(i:Nat) (o:Oper) (d:Tmp),ops[i]? = some o→o.dst=some d→d<N∧G.Z d=none) (hnd:rd=true→rF ops=true) (hB:draw=true→bDa P ops=true) (hsr:SR G N ds σ a w)
  (h:OW P ops ops.toList σ [] fun σ' con=>Q (fin σ' con)) (hQ:∀ σ a w,Q σ→SR G N ds σ a w→Q' .normal a w):WW (.region id ops draw) Q' a w:=by
 cases draw
 ·refine hW.regL hnd ?_
  obtain⟨hn0,hwf,hag⟩:=pW hsr
  obtain⟨h1,h2⟩:=hag σ.H fun _ _ h=>h
  refine aFj (k:=fun σ' con=>Q (fin σ' con)) (fun σ' con' s a w hq hn' hwf' hag' hr=>hQ _ a w hq (aBb hn' hwf' hag' hr)) ops.toList σ [] _ a w (fun o ho d hd=>?_) hn0 hwf h1 h2 h
  obtain⟨i,hi,he⟩:=BC.1 ho
  exact hdst i o d (by rw[←he];simp at hi ⊢) hd
 obtain⟨hn0,hwf,hag⟩:=pW hsr
 obtain⟨fb,hfb⟩:=pX (G:=G) ops.toList σ [] (Bool.and_eq_true_iff.1 (hB rfl)).1 hn0 hwf h
 obtain⟨h1,h2⟩:=hag (fun i=>if i<σ.n then σ.H i else fb i) (fun i o hi=>by
  rcases Az i σ.n with hlt|hge
  ·rw[Ap hlt];exact hi
  ·rw[hwf.top i hge]at hi;cases hi)
 have h3:=hfb _ h1 (fun i hi=>by simp only;rw[Ah (by omega)])
 have hQ2:∀(s:AS) (a:Act) (w:World),(∃ σ' con',Q (fin σ' con')∧(σ'.n=0→∀ b,G.P0 b)∧Wf σ' con'∧dD σ' con' s)→mH G N ds s a w→Q' .normal a w:=by
  rintro s a w ⟨σ',con',hq,hn',hwf',hag'⟩ hr
  exact hQ _ a w hq (aBb hn' hwf' hag' hr)
 exact aIc hW hm hnd (hB rfl) hdst h2 h3 hQ2
def bQk(H:Hp)(H':Hp)(ρ:Nat→Nat):AV→AV→Prop
 |_,.any=>True
 |x,.d y=>frz H 8 x=some y∧∀ a∈vis H 8 x,∀ id,(H' id).isSome=true→ρ id≠a
 |x,.fp b=>frz H 8 x=some (.pt b)∧∀ a∈vis H 8 x,∀ id,(H' id).isSome=true→ρ id≠a
 |.ptr a o,.ptr b o'=>a=ρ b∧o=o'∧(H' b).isSome=true
 |_,_=>False
def mG(H:Hp)(H':Hp)(ρ:Nat→Nat):AV→AV→Prop
 |_,.any=>True
 |.fn f cs,.fn g ds=>f=g∧cs.length=ds.length∧∀(k:Nat) c d,cs[k]? = some c→ds[k]? = some d→bQk H H' ρ c d
 |x,.d y=>frz H 8 x=some y∧∀ a∈vis H 8 x,∀ id,(H' id).isSome=true→ρ id≠a
 |.nil,.nil=>True
 |.un,.un=>True
 |.ub,.ub=>True
 |.kf f a,.kf g b=>f=g∧a=ρ b∧(H' b).isSome=true
 |.fd a,.fd b=>a=b
 |x,.fp b=>frz H 8 x=some (.pt b)∧∀ a∈vis H 8 x,∀ id,(H' id).isSome=true→ρ id≠a
 |.own a o l s,.own b o' l' s'=>a=ρ b∧o=o'∧l=l'∧s=s'∧(H' b).isSome=true
 |.ptr a o,.ptr b o'=>a=ρ b∧o=o'∧(H' b).isSome=true
 |.mp a,.mp b=>a=ρ b∧(H' b).isSome=true
 |_,_=>False
def Sub(H:Hp)(H':Hp)(ρ:Nat→Nat):AV→AV→Prop
 |.ag cs,.ag ds=>cs.length=ds.length∧∀(k:Nat) c d,cs[k]? = some c→ds[k]? = some d→mG H H' ρ c d
 |x,y=>mG H H' ρ x y
def mW(H:Hp)(H':Hp)(ρ:Nat→Nat):HO→HO→Prop
 |.cells e cs,.cells e' ds=>e=e'∧cs.length=ds.length∧∀(k:Nat) c d,cs[k]? = some c→ds[k]? = some d→mG H H' ρ c d
 |.map k es,.map k' fs=>k=k'∧es.length=fs.length∧∀(k:Nat) x y,es[k]? = some x→fs[k]? = some y→x.1=y.1∧(mG H H' ρ x.2 y.2∨Sub H H' ρ x.2 y.2)
 |.iter k l es,.iter k' l' fs=>k=k'∧l=l'∧es=fs
 |_,_=>False
structure Wk(σ σ':St)(ρ:Nat→Nat):Prop where
 top:∀ id,σ'.n≤id→σ'.H id=none
 slot:∀ t,Sub σ.H σ'.H ρ (σ.Γ t) (σ'.Γ t)
 blk:∀ id o',σ'.H id=some o'→∃ o,σ.H (ρ id)=some o∧mW σ.H σ'.H ρ o o'
 inj:∀ id id',(σ'.H id).isSome=true→(σ'.H id').isSome=true→ρ id=ρ id'→id=id'
 pin:(σ'.H 0).isSome=true→ρ 0=0
 n0:σ'.n=0→σ.n=0
section
variable {G:Ctx} {N:Nat} {ds:List Deferred}
theorem uO{σ σ':St}{ρ:Nat→Nat}{a:Act}{w:World}(hk:Wk σ σ' ρ)(h:SR G N ds σ a w):SR G N ds σ' a w:=by
 obtain⟨htop,hn0,hok,F,ι,hR,hdom,hV,hN,hds,hp⟩:=h
 let F':Nat→Prop:=fun b=>F b∨∃ i,ι i=some b∧∀ id,(σ'.H id).isSome=true→ρ id≠i
 let ι':Nat→Option Nat:=fun id=>if(σ'.H id).isSome=true then ι (ρ id)else none
 have ι'_some:∀ id b,ι' id=some b→(σ'.H id).isSome=true∧ι (ρ id)=some b:=by
  intro id b h
  simp only[ι']at h
  split at h
  ·exact⟨by assumption,h⟩
  ·cases h
 have hFF:∀ b,F b→F' b:=fun b h=>.inl h
 have ptF:∀(x:AV) (b:List D) (v:Value),(frz σ.H 8 x=some (.pt b)∧∀ a∈vis σ.H 8 x,∀ id,(σ'.H id).isSome=true→ρ id≠a)→V F w ι x v→V F' w ι' (.fp b) v:=by
  intro x b v hs hv
  obtain⟨h1,h2⟩:=hs
  have h3:VD F' w (.pt b) v:=(tU hR (fun _ _ h=>h) 8 x v _ h1 hv).1.mono (by
   rintro b (hb|⟨i,hi,hb⟩)
   ·exact .inl hb
   ·exact .inr ⟨i,hb,fun id hid=>h2 i hi id hid⟩)
  cases h3 with|pt _ ad f hF hcell hel=>exact .fp _ _ f hF hcell hel
 have subP:∀ x y v,bQk σ.H σ'.H ρ x y→V F w ι x v→V F' w ι' y v:=by
  intro x y v hs hv
  cases y with
  |any=>exact .any _
  | d y =>
   have hs':frz σ.H 8 x=some y∧∀ a∈vis σ.H 8 x,∀ id,(σ'.H id).isSome=true→ρ id≠a:=by cases x<;>exact hs
   obtain⟨h1,h2⟩:=hs'
   refine .d _ _ ((tU hR (fun _ _ h=>h) 8 x v y h1 hv).1.mono ?_)
   rintro b (hb|⟨i,hi,hb⟩)
   ·exact .inl hb
   ·exact .inr ⟨i,hb,fun id hid=>h2 i hi id hid⟩
  | fp b =>
   have hs':frz σ.H 8 x=some (.pt b)∧∀ a∈vis σ.H 8 x,∀ id,(σ'.H id).isSome=true→ρ id≠a:=by cases x<;>exact hs
   exact ptF x b v hs' hv
  |ptr b o=>cases x<;>first|exact hs.elim|(simp only[bQk]at hs;obtain⟨rfl,rfl,hsm⟩:=hs;cases hv with|ptr _ _ bb hι=>exact .ptr _ _ bb (by simp only[ι'];rw[Ap hsm];exact hι))
  |_=>cases x<;>exact hs.elim
 have subL:∀ x y v,mG σ.H σ'.H ρ x y→V F w ι x v→V F' w ι' y v:=by
  intro x y v hs hv
  cases y with
  |any=>exact .any _
  | d y =>
   have hs':frz σ.H 8 x=some y∧∀ a∈vis σ.H 8 x,∀ id,(σ'.H id).isSome=true→ρ id≠a:=by cases x<;>exact hs
   obtain⟨h1,h2⟩:=hs'
   refine .d _ _ ((tU hR (fun _ _ h=>h) 8 x v y h1 hv).1.mono ?_)
   rintro b (hb|⟨i,hi,hb⟩)
   ·exact .inl hb
   ·exact .inr ⟨i,hb,fun id hid=>h2 i hi id hid⟩
  |nil=>cases x<;>first|exact hs.elim|(cases hv;exact .nil)
  |un=>cases x<;>first|exact hs.elim|(cases hv;exact .un)
  |ub=>cases x<;>first|exact hs.elim|(cases hv;exact .ub _)
  |kf g b=>cases x<;>first|exact hs.elim|(simp only[mG]at hs;obtain⟨rfl,rfl,hsm⟩:=hs;cases hv with|kf _ _ bb p e hι hF hpp=>exact .kf _ _ bb p e (by simp only[ι'];rw[Ap hsm];exact hι) (hFF _ hF) hpp)
  |fd b=>cases x<;>first|exact hs.elim|(simp only[mG]at hs;subst hs;cases hv with|fd _ ad n h=>exact .fd _ _ _ (h.mono hFF))
  | fp b =>
   have hs':frz σ.H 8 x=some (.pt b)∧∀ a∈vis σ.H 8 x,∀ id,(σ'.H id).isSome=true→ρ id≠a:=by cases x<;>exact hs
   exact ptF x b v hs' hv
  | fn g ds =>
   cases x<;>first|exact hs.elim|(simp only[mG]at hs;obtain⟨rfl,hl,hs⟩:=hs;cases hv with|fn _ _ vs hvl hh=>exact .fn _ _ _ (by omega) fun k d u hd hu=>(have hk:k<_:=(Ao.1 hd).1;subP _ _ _ (hs k _ d (Ab (by omega)) hd) (hh k _ u (Ab (by omega)) hu)))
  | own b o l s =>
   cases x<;>first|exact hs.elim|(simp only[mG]at hs;obtain⟨rfl,rfl,rfl,rfl,hsm⟩:=hs;cases hv with|own _ _ _ _ bb cap cur e hι hb hcap hl hm=>exact .own _ _ _ _ bb cap cur e (by simp only[ι'];rw[Ap hsm];exact hι) hb hcap hl hm)
  |ptr b o=>cases x<;>first|exact hs.elim|(simp only[mG]at hs;obtain⟨rfl,rfl,hsm⟩:=hs;cases hv with|ptr _ _ bb hι=>exact .ptr _ _ bb (by simp only[ι'];rw[Ap hsm];exact hι))
  |mp b=>cases x<;>first|exact hs.elim|(simp only[mG]at hs;obtain⟨rfl,hsm⟩:=hs;cases hv with|mp _ bb hι=>exact .mp _ bb (by simp only[ι'];rw[Ap hsm];exact hι))
  |ag _=>cases x<;>exact hs.elim
  |tp _=>cases x<;>exact hs.elim
 have sub:∀ x y v,Sub σ.H σ'.H ρ x y→V F w ι x v→V F' w ι' y v:=by
  intro x y v hs hv
  by_cases hag:∃ cs ds,x=.ag cs∧y=.ag ds
  ·obtain⟨cs,ds,rfl,rfl⟩:=hag
   obtain⟨hl,hs⟩:=hs
   cases hv with|ag _ vs hvl hh =>
   refine .ag _ _ (by omega) fun k d u hd hu=>?_
   have hk:k<cs.length:=by rw[hl];exact(Ao.1 hd).1
   exact subL _ _ _ (hs k _ d (Ab hk) hd) (hh k _ u (Ab hk) hu)
  ·refine subL x y v ?_ hv
   cases x<;>cases y<;>first|exact hs|exact absurd ⟨_,_,rfl,rfl⟩ hag
 have cr:∀ o o' ob,mW σ.H σ'.H ρ o o'→CR F w ι o ob→CR F' w ι' o' ob:=by
  intro o o' ob hs hc
  cases hc with
  | cells e cs cur hl hh =>
   cases o' with
   |map _ _=>exact hs.elim
   |iter _ _ _=>exact hs.elim
   | cells e' ds =>
    obtain⟨rfl,hl',hs⟩:=hs
    refine .cells _ _ _ (by omega) fun k d hd=>?_
    have hk:k<cs.length:=by rw[hl'];exact(Ao.1 hd).1
    obtain⟨u,hu,hv⟩:=hh k _ (Ab hk)
    exact⟨u,hu,subL _ _ _ (hs k _ d (Ab hk) hd) hv⟩
  | map kd es ents clock hl hst hh =>
   cases o' with
   |cells _ _=>exact hs.elim
   |iter _ _ _=>exact hs.elim
   | map kd' fs =>
    obtain⟨rfl,hl',hs⟩:=hs
    refine .map _ _ _ _ (by omega) hst fun k y hy=>?_
    have hk:k<es.length:=by rw[hl'];exact(Ao.1 hy).1
    obtain⟨en,h1,h2,h3⟩:=hh k _ (Ab hk)
    obtain⟨e1,e2⟩:=hs k _ y (Ab hk) hy
    exact⟨en,h1,by rw[←e1];exact h2,e2.elim (fun e2=>subL _ _ _ e2 h3) fun e2=>sub _ _ _ e2 h3⟩
  | iter kd last es bm since c0 clock seen ents hF hb hold hsc hnd hl h hla =>
   cases o' with
   |cells _ _=>exact hs.elim
   |map _ _=>exact hs.elim
   | iter kd' last' fs =>
    obtain⟨rfl,rfl,rfl⟩:=hs
    exact .iter _ _ _ bm since c0 clock seen ents (hFF _ hF) hb hold hsc hnd hl (fun j x hj=>let ⟨en,h1,h2,h3⟩:=h j x hj;⟨en,h1,h2,h3.mono hFF⟩) fun x hx=>let ⟨e1,en,sn,e2,e3,e4,e5⟩:=hla x hx;⟨e1,en,sn,e2,e3,e4,e5.mono hFF⟩
 have subO_len:∀ o o',mW σ.H σ'.H ρ o o'→o'.len=o.len:=by
  intro o o' hs
  cases o<;>cases o'<;>first|exact hs.elim|(simp only[HO.len];exact hs.2.1.symm)|rfl
 refine⟨hk.top,fun h=>hn0 (hk.n0 h),hok,F',ι',⟨hR.kept,?_,?_,?_,?_,?_,?_⟩,fun id=>⟨?_,?_⟩,fun t=>sub _ _ _ (hk.slot t) (hV t),hN,hds,fun b hb=>?_⟩
 rotate_right
 ·obtain⟨h1,h2⟩:=ι'_some 0 b hb
  rw[hk.pin h1]at h2;exact hp b h2
 ·rintro b (h|⟨i,h,_⟩)
  ·exact hR.F_lt b h
  ·exact hR.ι_lt h
 ·rintro b (h|⟨i,h,_⟩)
  ·exact hR.F_ok b h
  ·exact .inr (hR.place i b h).1
 ·intro id b h
  obtain⟨h1,h2⟩:=ι'_some id b h
  obtain⟨p1,p2,p3⟩:=hR.place _ b h2
  refine⟨p1,p2,fun _ hF=>?_⟩
  rcases hF with hF|⟨i,hi,hne⟩
  ·exact p3 (fun x=>x) hF
  ·exact hne id h1 (hR.inj _ _ b h2 hi (fun x=>x) (fun x=>x))
 ·intro id b o' h ho'
  obtain⟨h1,h2⟩:=ι'_some id b h
  obtain⟨o,ho,hs⟩:=hk.blk id o' ho'
  obtain⟨ob,e1,e2⟩:=hR.obj _ b o h2 ho
  exact⟨ob,e1,cr o o' ob hs e2⟩
 ·intro id id' b h h' _ _
  obtain⟨h1,h2⟩:=ι'_some id b h
  obtain⟨h1',h2'⟩:=ι'_some id' b h'
  exact hk.inj id id' h1 h1' (hR.inj _ _ b h2 h2' (fun x=>x) (fun x=>x))
 ·intro id id' b o o' h h' _ ho ho'
  obtain⟨h1,h2⟩:=ι'_some id b h
  obtain⟨h1',h2'⟩:=ι'_some id' b h'
  obtain⟨p,hp,hs⟩:=hk.blk id o ho
  obtain⟨p',hp',hs'⟩:=hk.blk id' o' ho'
  rw[subO_len _ _ hs,subO_len _ _ hs']
  exact hR.len _ _ b p p' h2 h2' (fun x=>x) hp hp'
 ·rintro⟨b,h⟩;exact(ι'_some id b h).1
 ·intro h
  obtain⟨o',ho'⟩:=Ec.1 h
  obtain⟨o,ho,_⟩:=hk.blk id o' ho'
  obtain⟨b,hb⟩:=(hdom (ρ id)).2 (by rw[ho];rfl)
  exact⟨b,by simp only[ι'];rw[Ap h];exact hb⟩
end
end Go.Am
end
