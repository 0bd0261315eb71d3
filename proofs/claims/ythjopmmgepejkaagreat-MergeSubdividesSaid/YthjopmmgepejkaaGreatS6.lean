/- The abstract machine, part 26: a region in which two writers' order is drawn: its orders, one by one. No condition. -/
import Derived.Test.YthjopmmgepejkaaGreatS5
import Derived.Test.YthjopmmgepejkaaGreatS4
import Derived.Test.YthjopmmgepejkaaGreatRows
import Derived.Shelf.SlSortCmp.PdqK
import Derived.Ground.SlsfProg
import Derived.Shelf.SlicesG.Cmp
section
set_option linter.unusedVariables false
set_option linter.unusedSimpArgs false
open Go Go.Am Go.Proofs
namespace Go.Am
/-! Weights -/
def bU (w:Int→Int):List (Int × Int)→Int
 | []=>0
 | x::l=>x.2 * w x.1+bU w l
theorem mE (w:Int→Int):∀ a b:List (Int × Int),bU w (a++b)=bU w a+bU w b
 | [],b=>by simp [bU]
 | x::a,b=>by
  have:=mE w a b
  simp only [List.cons_append,bU,this]; omega
theorem aDf (w:Int→Int) (id z:Int):∀ l:List (Int × Int),bU w (wM id z l)=bU w l+z * w id
 | []=>by simp [wM,bU]
 | x::l=>by
  rw [wM]
  by_cases h1:x.1 > id
  ·rw [if_pos h1]; simp only [bU]; omega
  ·rw [if_neg h1]
   by_cases h2:x.1=id
   ·rw [if_pos h2]
    by_cases h3:x.2+z=0
    ·rw [if_pos h3]
     have:x.2 * w x.1+z * w id=0:=by rw [h2,← Int.add_mul,h3,Int.zero_mul]
     simp only [bU]; omega
    ·rw [if_neg h3]; simp only [bU]; rw [h2,Int.add_mul]; omega
   ·rw [if_neg h2]; simp only [bU]; rw [aDf w id z l]; omega
theorem aSm (w:Int→Int) (l:List (Int × Int)) (f:Int × Int):bU w (lV l f)=bU w l+f.2 * w f.1:=by
 obtain ⟨id,z⟩:=f
 rw [aRg]
 by_cases h:z=0
 ·rw [if_pos h,h]; simp
 ·rw [if_neg h,aDf]
theorem kN (w:Int→Int):∀ b a:List (Int × Int),bU w (bV a b)=bU w a+bU w b
 | [],a=>by simp [bV,bU]
 | f::b,a=>by
  show bU w (bV (lV a f) b)=_
  rw [kN w b,aSm]; simp only [bU]; omega
theorem lZ (w:Int→Int) (k:Int):∀ b:List (Int × Int),bU w (mulR k b)=k * bU w b
 | []=>by simp [mulR,bU]
 | f::b=>by
  have ih:=lZ w k b
  show k * f.2 * w f.1+bU w (mulR k b)=k * (f.2 * w f.1+bU w b)
  rw [ih,Int.mul_add,Int.mul_assoc]
theorem gH {w w':Int→Int}:∀ {l:List (Int × Int)},(∀ x∈l,w x.1=w' x.1)→bU w l=bU w' l
 | [],_=>rfl
 | x::l,h=>by
  simp only [bU]
  rw [h x (List.mem_cons_self ..),gH fun y hy=>h y (List.mem_cons_of_mem _ hy)]
theorem nI (n:Int):∀ l:List (Int × Int),cf n l=bU (fun m=>if n=m then 1 else 0) l
 | []=>rfl
 | x::l=>by
  simp only [cf,bU]
  rw [nI n l]
  split <;> simp
theorem sE {n:Int}:∀ {l:List (Int × Int)},(∀ x∈l,x.1≠n)→cf n l=0
 | [],_=>rfl
 | x::l,h=>by
  simp only [cf]
  rw [if_neg fun e=>h x (List.mem_cons_self ..) e.symm,sE fun y hy=>h y (List.mem_cons_of_mem _ hy)]; rfl
theorem aOo (c:List Cl) (n:Int):∀ y:List (Int × Int),cf n (bdL c y)=bU (fun m=>cf n (bOf c m)) y
 | []=>rfl
 | f::y=>by
  show cf n (mulR f.2 (bOf c f.1)++bdL c y)=_
  rw [bCv,aGw,aOo c n y]; rfl
theorem aXd (n:Nat) (f:Nat→Int):sgm (n+1) f=f 0+sgm n fun j=>f (j+1):=by
 induction n with
 | zero=>show 0+f 0=f 0+0; omega
 | succ n ih =>
  show sgm (n+1) f+f (n+1)=f 0+(sgm n (fun j=>f (j+1))+f (n+1))
  rw [ih]; omega
theorem aHm (w:Int→Int):∀ (ids v:List Int),ids.length=v.length→bU w (ids.zip v)=sgm ids.length fun j=>v.getD j 0 * w (ids.getD j 0)
 | [],[],_=>rfl
 | [],_::_,h=>by simp at h
 | _::_,[],h=>by simp at h
 | i::ids,z::v,h=>by
  have ih:=aHm w ids v (by simpa using h)
  rw [List.zip_cons_cons,List.length_cons,aXd]
  simp only [bU,ih]; rfl
/-! Sizes of valid chains -/
theorem iJ:∀ {l:List (Int × Int)} {x:Int × Int},Val l→x∈l→getM l x.1=x.2
 | y::l,x,h,hx=>by
  obtain ⟨h1,h2,_⟩:=h.tail
  rw [bZ]
  rcases List.mem_cons.1 hx with rfl | hx
  ·rw [if_pos rfl]
  ·rw [if_neg (by have:=h2 x hx; omega),iJ h1 hx]
theorem xQ {l:List (Int × Int)} {M:Nat} (h:Val l) (hb:∀ n,(getM l n).natAbs≤M):Bnd M l:=fun x hx=>by
 rw [← iJ h hx]; exact hb _
theorem xH {l:List (Int × Int)} {n:Int} (h:getM l n≠0):∃ x∈l,x.1=n:=Classical.byContradiction fun hn=>h (fY fun y hy e=>hn ⟨y,hy,e⟩)
theorem aEp {M:Nat} {l:List (Int × Int)} (h:Bnd M l) (n:Int):(getM l n).natAbs≤M:=mK h n
theorem bAa {a b:List (Int × Int)} {k:Int} {A M K:Nat} (ha:Val a) (hb:Val b) (bA:Bnd A a) (bM:Bnd M b) (hk:k.natAbs≤K):Bnd (A+K * M) (bV a (mulR k b)):=by
 obtain ⟨h1,h2⟩:=yV ha hb k
 refine xQ h1 fun n=>?_
 show (getM (lin a b k) n).natAbs≤_
 rw [h2 n]
 have e1:=aEp bA n
 have e2:=Nat.mul_le_mul hk (aEp bM n)
 have e3:=Int.natAbs_add_le (getM a n) (k * getM b n)
 rw [Int.natAbs_mul] at e3
 omega
theorem aEl {a b:List (Int × Int)} {k:Int} {S:Int→Prop} (ha:Val a) (hb:Val b) (ka:∀ x∈a,S x.1) (kb:∀ x∈b,S x.1):∀ x∈bV a (mulR k b),S x.1:=fun x hx=>by
 obtain ⟨h1,h2⟩:=yV ha hb k
 have e:=iJ (l:=lin a b k) h1 hx
 rw [h2] at e
 have hne:x.2≠0:=h1.2 x hx
 by_cases h:getM a x.1=0
 ·have:getM b x.1≠0:=fun h'=>by rw [h,h',Int.mul_zero] at e; exact hne e.symm
  obtain ⟨y,hy,e2⟩:=xH this
  rw [← e2]; exact kb y hy
 ·obtain ⟨y,hy,e2⟩:=xH h
  rw [← e2]; exact ka y hy
theorem tN {M:Nat} (n:Int):∀ (ids v:List Int),ids.Pairwise (·<·)→(∀ z∈v,z.natAbs≤M)→(cf n (ids.zip v)).natAbs≤M∧(cf n (ids.zip v)≠0→n∈ids)
 | [],v,_,_=>by simp [cf]
 | i::ids,[],_,_=>by simp [cf]
 | i::ids,z::v,hp,hv=>by
  obtain ⟨h1,h2⟩:=List.pairwise_cons.1 hp
  obtain ⟨h3,h4⟩:=tN n ids v h2 fun y hy=>hv y (List.mem_cons_of_mem _ hy)
  rw [List.zip_cons_cons]
  simp only [cf]
  by_cases e:n=i
  ·have hz:cf n (ids.zip v)=0:=sE fun x hx e2=>by
    have:=h1 _ (List.of_mem_zip hx).1; omega
   rw [if_pos e,hz,Int.add_zero]
   exact ⟨hv z (List.mem_cons_self ..),fun _=>by rw [e]; exact List.mem_cons_self ..⟩
  ·rw [if_neg e,Int.zero_add]
   exact ⟨h3,fun h=>List.mem_cons_of_mem _ (h4 h)⟩
theorem bCu {ids v:List Int} {M:Nat} (hp:ids.Pairwise (·<·)) (hv:∀ z∈v,z.natAbs≤M):Val (bV [] (ids.zip v))∧Bnd M (bV [] (ids.zip v))∧(∀ x∈bV [] (ids.zip v),x.1∈ids)∧(bV [] (ids.zip v)).length≤ids.length∧∀ n,getM (bV [] (ids.zip v)) n=cf n (ids.zip v):=by
 obtain ⟨h1,h2⟩:=dI (ids.zip v) [] Val.nil
 have h3:∀ n,getM (bV [] (ids.zip v)) n=cf n (ids.zip v):=fun n=>by rw [h2 n,iK,Int.zero_add]
 refine ⟨h1,xQ h1 fun n=>by rw [h3]; exact (tN n ids v hp hv).1,fun x hx=>?_,?_,h3⟩
 ·have e:=iJ h1 hx
  rw [h3] at e
  exact (tN x.1 ids v hp hv).2 (by rw [e]; exact h1.2 x hx)
 ·have:=kH [] (ids.zip v)
  rw [List.length_zip] at this
  simp only [List.length_nil] at this; omega
/-! Cells of a dimension -/
theorem Inc.ids {c:List Cl} (h:Inc c) (k:Int):(cS c k).Pairwise (·<·):=by
 unfold cS
 rw [List.pairwise_map]
 exact (List.Pairwise.filter _ h)
theorem oB {c:List Cl} {k n:Int}:n∈cS c k↔∃ x∈c,x.dim=k∧x.id=n:=by
 unfold cS
 rw [List.mem_map]
 constructor
 ·rintro ⟨x,hx,e⟩
  obtain ⟨h1,h2⟩:=List.mem_filter.1 hx
  exact ⟨x,h1,of_decide_eq_true h2,e⟩
 ·rintro ⟨x,h1,h2,e⟩
  exact ⟨x,List.mem_filter.2 ⟨h1,decide_eq_true h2⟩,e⟩
theorem bBi (c:List Cl) (x:Cl) (k:Int):cS (c++[x]) k=cS c k++if x.dim=k then [x.id] else []:=by
 unfold cS
 rw [List.filter_append,List.map_append]
 congr 1
 by_cases e:x.dim=k <;> simp [e]
theorem aUs {c:List Cl} {x:Cl} {n:Int} (h:n≠x.id):bT (c++[x]) n=bT c n:=by
 unfold bT
 rw [List.find?_append]
 have:[x].find? (fun y=>decide (y.id=n))=none:=by simp; exact fun e=>h e.symm
 rw [this,Option.or_none]
theorem aRz {c:List Cl} {x:Cl} {n:Int} (h:n≠x.id):bOf (c++[x]) n=bOf c n:=by unfold bOf; rw [aUs h]
structure CxV (c:List Cl):Prop where
 inc:Inc c
 dim:∀ x∈c,0≤x.dim∧x.dim≤3
 val:∀ x∈c,Val x.b
 face:∀ x∈c,∀ f∈x.b,∃ y∈c,y.id=f.1∧y.dim=x.dim - 1
 cyc:∀ x∈c,∀ n,bU (fun m=>cf n (bOf c m)) x.b=0
theorem CxV.bOf {c:List Cl} (h:CxV c) {x:Cl} (hx:x∈c):bOf c x.id=x.b:=by unfold Go.Am.bOf; rw [h.inc.find hx]; rfl
theorem CxV.bval {c:List Cl} (h:CxV c) (n:Int):Val (Go.Am.bOf c n):=by
 unfold Go.Am.bOf
 cases e:bT c n with
 | none=>exact Val.nil
 | some x=>exact h.val x (dQ e).1
theorem CxV.cycle {c:List Cl} (h:CxV c) {k:Int} {v:List Int} (hv:v.length=(cS c k).length) (hz:∀ t,t<(cS c (k - 1)).length→sgm (cS c k).length (fun j=>v.getD j 0 * ent (pT c k) j t)=0) (n:Int) :
  bU (fun m=>cf n (Go.Am.bOf c m)) (bV [] ((cS c k).zip v))=0:=by
 rw [kN,aHm _ _ _ hv.symm]
 show 0+_=(0:Int)
 rw [Int.zero_add]
 have hrow:∀ j,j<(cS c k).length→∃ x∈c,x.dim=k∧x.id=(cS c k).getD j 0:=fun j hj=>by
  rw [List.getD_eq_getElem?_getD,List.getElem?_eq_getElem hj]
  exact oB.1 (List.getElem_mem hj)
 by_cases hn:n∈cS c (k - 1)
 ·obtain ⟨t,ht,e⟩:=List.getElem_of_mem hn
  refine Eq.trans ?_ (hz t ht)
  refine cK fun j hj=>?_
  have:ent (pT c k) j t=cf n (Go.Am.bOf c ((cS c k).getD j 0)):=by
   unfold ent
   rw [List.getD_eq_getElem?_getD (l:=pT c k),aAq (List.getElem?_eq_getElem hj),Option.getD_some,List.getD_eq_getElem?_getD,uA (List.getElem?_eq_getElem ht),Option.getD_some,e,bIa (h.bval _),← iS (h.bval _)]
   rw [List.getD_eq_getElem?_getD,List.getElem?_eq_getElem hj]; rfl
  rw [this]
 ·rw [cK (g:=fun _=>0) fun j hj=>?_,tV]
  obtain ⟨x,hx,hd,he⟩:=hrow j hj
  rw [← he,h.bOf hx,sE fun f hf e=>?_,Int.mul_zero]
  obtain ⟨y,hy,e1,e2⟩:=h.face x hx f hf
  exact hn (oB.2 ⟨y,hy,by omega,by omega⟩)
theorem yT (c:List Cl) (k:Int):Sh (cS c k).length (cS c (k - 1)).length (pT c k):=⟨aKk c k,fun v hv=>by
 obtain ⟨n,_,rfl⟩:=List.mem_map.1 hv
 exact tZ _ _⟩
theorem aQw {c:List Cl} {k:Int} {e:Nat} (hi:Inc c) (hb:∀ x∈c,x.dim=k→Bnd (2 ^ e) x.b):Be e (pT c k):=Be.of (yT c k) fun r t hr ht=>by
 unfold ent
 rw [List.getD_eq_getElem?_getD (l:=pT c k),aAq (List.getElem?_eq_getElem hr),Option.getD_some,List.getD_eq_getElem?_getD,uA (List.getElem?_eq_getElem ht),Option.getD_some]
 obtain ⟨x,hx,hd,he⟩:=oB.1 (List.getElem_mem hr)
 rw [← he]
 have:bOf c x.id=x.b:=by unfold bOf; rw [hi.find hx]; rfl
 rw [this]
 exact bNl (hb x hx hd) _
end Go.Am
end

section
set_option linter.unusedVariables false
set_option linter.unusedSimpArgs false
open Go Go.Am Go.Proofs
namespace Go.Am
theorem aMv {n k:Nat} {f:Nat→Int} (hk:k<n) (h:∀ j,j<n→j≠k→f j=0):sgm n f=f k:=by
 rw [← nB hk f]
 refine cK fun j hj=>?_
 by_cases e:j=k
 ·rw [if_pos e,Int.one_mul]
 ·rw [if_neg e,Int.zero_mul]; exact h j hj e
theorem nV {n:Nat} {f:Nat→Int} (h:∀ j,j<n→f j=0):sgm n f=0:=by rw [cK h,tV]
theorem bFw {n i j:Nat} (hi:i<n) (hj:j<n) (f:Nat→Int):sgm n (fun r=>f (swp i j r))=sgm n f:=by
 by_cases e:i=j
 ·subst e
  refine cK fun r _=>?_
  unfold swp; split
  ·rename_i h; rw [h]
  ·rfl
 ·have h:sgm n (fun r=>f (swp i j r))=sgm n (fun r=>f r+((if r=i then 1 else 0) * (f j - f i)+(if r=j then 1 else 0) * (f i - f j))):=by
   refine cK fun r _=>?_
   unfold swp
   by_cases h1:r=i
   ·rw [if_pos h1,if_pos h1,if_neg (by omega),h1]; omega
   ·rw [if_neg h1,if_neg h1]
    by_cases h2:r=j
    ·rw [if_pos h2,if_pos h2,h2]; omega
    ·rw [if_neg h2,if_neg h2]; omega
  rw [h,rK,rK,nB hi fun _=>f j - f i,nB hj fun _=>f i - f j]; omega
def InP (R c:Nat) (w:W3) (x y:Nat→Int):Prop:=∃ a:Nat→Int,(∀ t,t<c→sgm R (fun j=>a j * ent w.M j t)=x t)∧∀ t,t<R→sgm R (fun j=>a j * ent w.U j t)=y t
theorem aLj {R c i j:Nat} {k:Int} {M:List (List Int)} {a:Nat→Int} (hi:i<R) (hj:j<R) (hij:i≠j) {t:Nat} (ht:t<c) :
  sgm R (fun r=>(if r=j then a j - k * a i else a r) * ent (oR R c M i j k) r t)=sgm R (fun r=>a r * ent M r t):=by
 have h:∀ r,r<R→(if r=j then a j - k * a i else a r) * ent (oR R c M i j k) r t=a r * ent M r t+((if r=i then 1 else 0) * (a i * (k * ent M j t))+(if r=j then 1 else 0) * (- (k * a i) * ent M j t)):=fun r hr=>by
  rw [fZ hr ht]
  by_cases h1:r=i
  ·rw [if_pos h1,if_neg (by omega),if_pos h1,if_neg (by omega),h1,Int.mul_add]; omega
  ·rw [if_neg h1,if_neg h1]
   by_cases h2:r=j
   ·rw [if_pos h2,if_pos h2,h2,Int.sub_mul,Int.neg_mul]; omega
   ·rw [if_neg h2,if_neg h2]; omega
 rw [cK h,rK,rK,nB hi fun _=>a i * (k * ent M j t),nB hj fun _=>- (k * a i) * ent M j t]
 have:a i * (k * ent M j t)=k * a i * ent M j t:=by rw [← Int.mul_assoc,Int.mul_comm (a i)]
 rw [this,Int.neg_mul]; omega
theorem aRr {R c i j:Nat} {M:List (List Int)} {a:Nat→Int} (hi:i<R) (hj:j<R) {t:Nat} (ht:t<c) :
  sgm R (fun r=>a (swp i j r) * ent (swR R c M i j) r t)=sgm R (fun r=>a r * ent M r t):=by
 rw [← bFw hi hj fun r=>a r * ent M r t]
 exact cK fun r hr=>by rw [vC hr ht]
theorem aRs {R c i:Nat} {M:List (List Int)} {a:Nat→Int} {t:Nat} (ht:t<c) :
  sgm R (fun r=>(if r=i then - a i else a r) * ent (ngR R c M i) r t)=sgm R (fun r=>a r * ent M r t) :=
 cK fun r hr=>by
  rw [lA hr ht]
  by_cases h1:r=i
  ·rw [if_pos h1,if_pos h1,Int.neg_mul_neg,h1]
  ·rw [if_neg h1,if_neg h1]
section
variable {R c col top i j:Nat} {w w':W3} {x y:Nat→Int}
theorem InP.add (h:InP R c w x y) (hi:i<R) (hj:j<R) (hij:i≠j) (k:Int):InP R c (w.add R c i j k) x y:=by
 obtain ⟨a,h1,h2⟩:=h
 exact ⟨_,fun t ht=>(aLj hi hj hij ht).trans (h1 t ht),fun t ht=>(aLj hi hj hij ht).trans (h2 t ht)⟩
theorem InP.sw (h:InP R c w x y) (hi:i<R) (hj:j<R):InP R c (w.sw R c i j) x y:=by
 obtain ⟨a,h1,h2⟩:=h
 exact ⟨_,fun t ht=>(aRr hi hj ht).trans (h1 t ht),fun t ht=>(aRr hi hj ht).trans (h2 t ht)⟩
theorem InP.ng (h:InP R c w x y):InP R c (w.ng R c i) x y:=by
 obtain ⟨a,h1,h2⟩:=h
 exact ⟨_,fun t ht=>(aRs ht).trans (h1 t ht),fun t ht=>(aRs ht).trans (h2 t ht)⟩
theorem InP.eu (h:Eu R c col top i w w') (hti:top<i) (hi:i<R) (g:InP R c w x y):InP R c w' x y:=by
 induction h with
 | done w ok h=>exact g
 | go w w' ok hy h2 ih =>
  refine ih ?_
  unfold euS euT
  split
  ·exact g.sw (by omega) hi
  ·exact (g.add (by omega) hi (by omega) _).sw (by omega) hi
theorem InP.ei (h:Ei R c col top i w w') (hti:top<i) (g:InP R c w x y):InP R c w' x y:=by
 induction h with
 | done i w ok h=>exact g
 | go i w w1 w2 h h1 h2 ih=>exact ih (by omega) (g.eu h1 hti h)
theorem InP.rd (h:Rd R c col top i w w') (ht:top<R) (g:InP R c w x y):InP R c w' x y:=by
 induction h with
 | done i w ok h=>exact g
 | go i w w2 ok h h2 ih=>exact ih (g.add (by omega) ht (by omega) _)
theorem InP.fo (h:Fo R c col top w w') (g:InP R c w x y):InP R c w' x y:=by
 induction h with
 | done col top w ok h=>exact g
 | zero col top w w1 w2 h1 h2 h3 h4 h5 ih=>exact ih (g.ei h3 (by omega))
 | piv col top w w1 w2 w3 h1 h2 h3 h4 h5 h6 ih =>
  refine ih (InP.rd h5 h2 ?_)
  have:=g.ei h3 (by omega)
  unfold ngS; split
  ·exact this.ng
  ·exact this
/-! The shape -/
structure Hn (R c col top:Nat) (M:List (List Int)) (p:Nat→Nat):Prop where
 inc:∀ i j,i<j→j<top→p i<p j
 lt:∀ i,i<top→p i<col
 pos:∀ i,i<top→0<ent M i (p i)
 bef:∀ i t,i<top→t<p i→ent M i t=0
 red:∀ j i,j<i→i<top→0≤ent M j (p i)∧ent M j (p i)<ent M i (p i)
 low:∀ r t,top≤r→r<R→t<col→ent M r t=0
theorem bJg (h:Eu R c col top i w w') (hti:top<i) (hi:i<R) (hcol:col<c):(∀ r t,r<R→t<c→r≠top→r≠i→ent w'.M r t=ent w.M r t)∧(∀ t,t<c→ent w.M top t=0→ent w.M i t=0→ent w'.M top t=0∧ent w'.M i t=0)∧ent w'.M i col=0:=by
 induction h with
 | done w ok h=>exact ⟨fun _ _ _ _ _ _=>rfl,fun t _ h1 h2=>⟨h1,h2⟩,h⟩
 | go w w' ok hy h2 ih =>
  have eM:=fun r t hr ht=>aLe (w:=w) (c:=c) (col:=col) (by omega:top≠i) (by omega:top<R) hi (r:=r) (t:=t) hr ht
  refine ⟨fun r t hr ht n1 n2=>by rw [ih.1 r t hr ht n1 n2,eM r t hr ht,if_neg n1,if_neg n2],fun t ht z1 z2=>ih.2.1 t ht ?_ ?_,ih.2.2⟩
  ·rw [eM _ _ (by omega) ht,if_pos rfl]; exact z2
  ·rw [eM _ _ hi ht,if_neg (by omega),if_pos rfl,z1,z2]; simp
theorem aRp (h:Ei R c col top i w w') (hti:top<i) (hcol:col<c) (z:∀ r,top<r→r<i→ent w.M r col=0):(∀ r t,r<top→r<R→t<c→ent w'.M r t=ent w.M r t)∧(∀ t,t<c→(∀ r,top≤r→r<R→ent w.M r t=0)→∀ r,top≤r→r<R→ent w'.M r t=0)∧∀ r,top<r→r<R→ent w'.M r col=0:=by
 induction h with
 | done i w ok h=>exact ⟨fun _ _ _ _ _=>rfl,fun t _ h r h1 h2=>h r h1 h2,fun r h1 h2=>z r h1 (by omega)⟩
 | go i w w1 w2 h h1 h2 ih =>
  obtain ⟨a1,a2,a3⟩:=bJg h1 hti h hcol
  obtain ⟨b1,b2,b3⟩:=ih (by omega) (fun r g1 g2=>by
   by_cases e:r=i
   ·rw [e]; exact a3
   ·rw [a1 r col (by omega) hcol (by omega) e]; exact z r g1 (by omega))
  refine ⟨fun r t g1 g2 g3=>by rw [b1 r t g1 g2 g3,a1 r t g2 g3 (by omega) (by omega)],fun t ht hz=>b2 t ht fun r g1 g2=>?_,b3⟩
  have h0:=a2 t ht (hz top (Nat.le_refl _) (by omega)) (hz i (by omega) h)
  by_cases e1:r=top
  ·rw [e1]; exact h0.1
  ·by_cases e2:r=i
   ·rw [e2]; exact h0.2
   ·rw [a1 r t g2 ht e1 e2]; exact hz r g1 g2
theorem bGn (h:Rd R c col top i w w') (hR:top<R) (hcol:col<c):∀ r t,r<R→t<c→ent w'.M r t=if i≤r∧r<top then ent w.M r t - (ent w.M r col / ent w.M top col) * ent w.M top t else ent w.M r t:=by
 induction h with
 | done i w ok h=>intro r t _ _; rw [if_neg (by omega)]
 | go i w w2 ok h h2 ih =>
  intro r t hr ht
  have eM:∀ {r t},r<R→t<c→ent (rdS R c col top i w).M r t=_:=fun {r t} hr ht=>fZ (R:=R) (c:=c) (M:=w.M) (i:=i) (j:=top) (k:=-(ent w.M i col / ent w.M top col)) hr ht
  rw [ih r t hr ht,eM hr ht,eM hr hcol,eM hR hcol,eM hR ht,if_neg (show ¬ top=i by omega),if_neg (show ¬ top=i by omega)]
  by_cases e:r=i
  ·subst e
   rw [if_neg (by omega),if_pos rfl,if_pos ⟨Nat.le_refl _,h⟩,Int.neg_mul]; omega
  ·rw [if_neg e,if_neg e]
   by_cases e2:i≤r∧r<top
   ·rw [if_pos e2,if_pos (by omega)]
   ·rw [if_neg e2,if_neg (by omega)]
theorem bLe (h:Fo R c col top w w'):∀ {p},col≤c→top≤R→Hn R c col top w.M p→∃ k q,k≤R∧Hn R c c k w'.M q:=by
 induction h with
 | done col top w ok h =>
  intro p hc hT g
  exact ⟨top,p,hT,g.inc,fun i hi=>by have:=g.lt i hi; omega,g.pos,g.bef,g.red,fun r t h1 h2 h3=>g.low r t h1 h2 (by omega)⟩
 | zero col top w w1 w2 h1 h2 h3 h4 h5 ih =>
  intro p hc hT g
  obtain ⟨a1,a2,a3⟩:=aRp h3 (by omega) h1 (fun r _ _=>by omega)
  have e:∀ i t,i<top→t<c→ent w1.M i t=ent w.M i t:=fun i t hi ht=>a1 i t hi (by omega) ht
  have lt:∀ i,i<top→p i<c:=fun i hi=>by have:=g.lt i hi; omega
  refine ih (p:=p) h1 hT ⟨g.inc,fun i hi=>by have:=g.lt i hi; omega,fun i hi=>by rw [e i _ hi (lt i hi)]; exact g.pos i hi,fun i t hi ht=>by rw [e i t hi (by have:=lt i hi; omega)]; exact g.bef i t hi ht,fun j i hj hi=>by rw [e j _ (by omega) (lt i hi),e i _ hi (lt i hi)]; exact g.red j i hj hi,fun r t g1 g2 g3=>?_⟩
  by_cases e1:t=col
  ·rw [e1]
   by_cases e2:r=top
   ·rw [e2]; exact h4
   ·exact a3 r (by omega) g2
  ·exact a2 t (by omega) (fun r k1 k2=>g.low r t k1 k2 (by omega)) r g1 g2
 | piv col top w w1 w2 w3 h1 h2 h3 h4 h5 h6 ih =>
  intro p hc hT g
  obtain ⟨a1,a2,a3⟩:=aRp h3 (by omega) h1 (fun r _ _=>by omega)
  have a2':∀ r t,top≤r→r<R→t<col→ent w1.M r t=0:=fun r t k1 k2 k3=>a2 t (by omega) (fun r g1 g2=>g.low r t g1 g2 k3) r k1 k2
  have n1:∀ r t,r<R→t<c→ent (ngS R c col top w1).M r t=if r=top∧ent w1.M top col<0 then - ent w1.M top t else ent w1.M r t:=fun r t hr ht=>by
   unfold ngS
   by_cases e:ent w1.M top col<0
   ·rw [if_pos e]; show ent (ngR R c w1.M top) r t=_
    rw [lA hr ht]
    by_cases e2:r=top
    ·rw [if_pos e2,if_pos ⟨e2,e⟩]
    ·rw [if_neg e2,if_neg fun h=>e2 h.1]
   ·rw [if_neg e,if_neg fun h=>e h.2]
  have hd:=bGn h5 h2 h1
  have hp:0<ent (ngS R c col top w1).M top col:=by
   rw [n1 top col h2 h1]; split <;> omega
  have ntop:∀ t,t<col→ent (ngS R c col top w1).M top t=0:=fun t ht=>by
   rw [n1 top t h2 (by omega),a2' top t (Nat.le_refl _) h2 ht]; split <;> rfl
  have nrow:∀ i t,i<top→t<c→ent (ngS R c col top w1).M i t=ent w.M i t:=fun i t hi ht=>by
   rw [n1 i t (by omega) ht,if_neg (by omega),a1 i t hi (by omega) ht]
  have nlow:∀ r t,top<r→r<R→t≤col→ent (ngS R c col top w1).M r t=0:=fun r t k1 k2 k3=>by
   rw [n1 r t k2 (by omega),if_neg (by omega)]
   by_cases e:t=col
   ·rw [e]; exact a3 r k1 k2
   ·exact a2' r t (by omega) k2 (by omega)
  -- rows of w2
  have rtop:∀ t,t<c→ent w2.M top t=ent (ngS R c col top w1).M top t:=fun t ht=>by rw [hd top t h2 ht,if_neg (by omega)]
  have rup:∀ i t,i<top→t<col→ent w2.M i t=ent w.M i t:=fun i t hi ht=>by
   rw [hd i t (by omega) (by omega),if_pos (by omega),ntop t ht,nrow i t hi (by omega)]; simp
  have rcol:∀ i,i<top→ent w2.M i col=ent w.M i col % ent w2.M top col:=fun i hi=>by
   rw [rtop col h1,hd i col (by omega) h1,if_pos (by omega),nrow i col hi h1]
   have:=Int.mul_ediv_add_emod (ent w.M i col) (ent (ngS R c col top w1).M top col)
   rw [Int.mul_comm] at this; omega
  have hp2:0<ent w2.M top col:=by rw [rtop col h1]; exact hp
  refine ih (p:=fun i=>if i=top then col else p i) h1 (by omega) ⟨fun i j hij hj=>?_,fun i hi=>?_,fun i hi=>?_,fun i t hi ht=>?_,fun j i hj hi=>?_,fun r t k1 k2 k3=>?_⟩
  ·rw [if_neg (show ¬ i=top by omega)]
   split
   ·exact g.lt i (by omega)
   ·exact g.inc i j hij (by omega)
  ·show (if i=top then col else p i)<_
   split
   ·omega
   ·have:=g.lt i (by omega); omega
  ·show 0<ent w2.M i (if i=top then col else p i)
   split
   ·rename_i e; rw [e]; exact hp2
   ·rw [rup i _ (by omega) (g.lt i (by omega))]; exact g.pos i (by omega)
  ·replace ht:t<if i=top then col else p i:=ht
   split at ht
   ·rename_i e; rw [e,rtop t (by omega)]; exact ntop t ht
   ·have:=g.lt i (by omega)
    rw [rup i t (by omega) (by omega)]; exact g.bef i t (by omega) ht
  ·show 0≤ent w2.M j (if i=top then col else p i)∧ent w2.M j (if i=top then col else p i)<ent w2.M i (if i=top then col else p i)
   split
   ·rename_i e; rw [rcol j (by omega),e]
    exact ⟨Int.emod_nonneg _ (by omega),Int.emod_lt_of_pos _ hp2⟩
   ·rw [rup j _ (by omega) (g.lt i (by omega)),rup i _ (by omega) (g.lt i (by omega))]; exact g.red j i hj (by omega)
  ·rw [hd r t k2 (by omega),if_neg (by omega)]; exact nlow r t (by omega) k2 (by omega)
end
/-! Normal forms of one lattice -/
section
variable {R R' c k k':Nat} {M M':List (List Int)} {p p':Nat→Nat} {a x:Nat→Int}
theorem Hn.min (h:Hn R c c k M p) (hk:k≤R) (hx:∀ t,t<c→sgm R (fun j=>a j * ent M j t)=x t) (hne:∃ j,j<k∧a j≠0):∃ m,m<k∧a m≠0∧(∀ t,t<p m→x t=0)∧x (p m)=a m * ent M m (p m):=by
 have key:∀ n,n≤k→(∀ j,j<n→a j=0)∨∃ m,m<n∧a m≠0∧∀ j,j<m→a j=0:=by
  intro n
  induction n with
  | zero=>intro _; exact .inl fun j hj=>by omega
  | succ n ih =>
   intro hn
   rcases ih (by omega) with h1 | ⟨m,h1,h2,h3⟩
   ·by_cases e:a n=0
    ·refine .inl fun j hj=>?_
     by_cases e2:j=n
     ·rw [e2]; exact e
     ·exact h1 j (by omega)
    ·exact .inr ⟨n,by omega,e,h1⟩
   ·exact .inr ⟨m,by omega,h2,h3⟩
 rcases key k (Nat.le_refl _) with h0 | ⟨m,h1,h2,h3⟩
 ·obtain ⟨j,hj,hn⟩:=hne
  exact absurd (h0 j hj) hn
 ·have hm:=h.lt m h1
  refine ⟨m,h1,h2,fun t ht=>?_,?_⟩
  ·rw [← hx t (by omega)]
   refine nV fun j hj=>?_
   by_cases e:j<m
   ·rw [h3 j e]; simp
   ·by_cases e2:j<k
    ·rw [h.bef j t e2 (by
      by_cases e3:j=m
      ·rw [e3]; exact ht
      ·have:=h.inc m j (by omega) e2; omega)]; simp
    ·rw [h.low j t (by omega) hj (by omega)]; simp
  ·rw [← hx _ hm]
   refine aMv (by omega) fun j hj hne=>?_
   by_cases e:j<m
   ·rw [h3 j e]; simp
   ·by_cases e2:j<k
    ·rw [h.bef j _ e2 (h.inc m j (by omega) e2)]; simp
    ·rw [h.low j _ (by omega) hj hm]; simp
theorem Hn.lead (h:Hn R c c k M p) (hk:k≤R) (hx:∀ t,t<c→sgm R (fun j=>a j * ent M j t)=x t) (hne:∃ t,t<c∧x t≠0):∃ m,m<k∧a m≠0∧(∀ t,t<p m→x t=0)∧x (p m)=a m * ent M m (p m):=by
 refine h.min hk hx (Classical.byContradiction fun h0=>?_)
 obtain ⟨t,ht,hn⟩:=hne
 refine hn ?_
 rw [← hx t ht]
 refine nV fun j hj=>?_
 by_cases e:j<k
 ·rw [show a j=0 from Classical.byContradiction fun e'=>h0 ⟨j,e,e'⟩]; simp
 ·rw [h.low j t (by omega) hj ht]; simp
end
end Go.Am
end

section
set_option linter.unusedVariables false
set_option linter.unusedSimpArgs false
open Go Go.Am Go.Proofs
namespace Go.Am
theorem aPz (n:Nat) (x f g:Nat→Int) (a b:Int):sgm n (fun i=>x i * (a * f i - g i * b))=a * sgm n (fun i=>x i * f i) - sgm n (fun i=>x i * g i) * b:=by
 induction n with
 | zero=>simp [sgm]
 | succ n ih=>simp only [sgm]; rw [ih]; grind
theorem aXc (n:Nat) (x y f:Nat→Int) (a b:Int):sgm n (fun i=>(a * x i - b * y i) * f i)=a * sgm n (fun i=>x i * f i) - b * sgm n (fun i=>y i * f i):=by
 induction n with
 | zero=>simp [sgm]
 | succ n ih=>simp only [sgm]; rw [ih]; grind
theorem bFx {n B:Nat} {f:Nat→Int} (h:∀ j,j<n→(f j).natAbs≤B):(sgm n f).natAbs≤n * B:=by
 induction n with
 | zero=>simp [sgm]
 | succ n ih =>
  have h1:=ih fun j hj=>h j (by omega)
  have h2:=h n (by omega)
  rw [Nat.succ_mul]; simp only [sgm]; omega
theorem aDj (k:Nat) (f:Nat→Int):∀ n,sgm (k+n) f=sgm k f+sgm n (fun i=>f (k+i))
 | 0=>by simp [sgm]
 | n+1=>by rw [← Nat.add_assoc]; simp only [sgm]; rw [aDj k f n]; omega
theorem vN {x y:Int} {a b:Nat} (hx:x.natAbs≤2 ^ a) (hy:y.natAbs≤2 ^ b):(x * y).natAbs≤2 ^ (a+b):=by
 rw [Int.natAbs_mul,Nat.pow_add]; exact Nat.mul_le_mul hx hy
def gG:Nat→Nat→Nat
 | 0,_=>0
 | n+1,b=>gG n (2 * b+1)+b+n
theorem aGp:∀ {n b b':Nat},b≤b'→gG n b≤gG n b'
 | 0,_,_,_=>Nat.le_refl _
 | n+1,b,b',h=>by
  have:=aGp (n:=n) (b:=2 * b+1) (b':=2 * b'+1) (by omega)
  simp only [gG]; omega
theorem bLc {n m b:Nat} (h:n≤m):gG n b≤gG m b:=by
 induction m with
 | zero=>rw [show n=0 by omega]; exact Nat.le_refl _
 | succ m ih =>
  by_cases e:n=m+1
  ·rw [e]; exact Nat.le_refl _
  ·have h1:=ih (by omega)
   have h2:=aGp (n:=m) (b:=b) (b':=2 * b+1) (by omega)
   show _≤gG m (2 * b+1)+b+m; omega
theorem wV (c:Nat):∀ (n b:Nat) (u:Nat→Nat→Int) (S:Nat→Prop),(∀ i t,i<n→t<c→(u i t).natAbs≤2 ^ b) →
  (∃ x:Nat→Int,(∃ i,i<n∧x i≠0)∧(∀ i,i<n→¬ S i→x i=0)∧∀ t,t<c→sgm n (fun i=>x i * u i t)=0) →
  ∃ y:Nat→Int,(∃ i,i<n∧y i≠0)∧(∀ i,i<n→¬ S i→y i=0)∧(∀ t,t<c→sgm n (fun i=>y i * u i t)=0)∧∀ i,i<n→(y i).natAbs≤2 ^ gG n b
 | 0,b,u,S,_,⟨x,⟨i,hi,_⟩,_⟩=>absurd hi (Nat.not_lt_zero _)
 | n+1,b,u,S,hu,⟨x,⟨i0,hi0,hx0⟩,hxS,hx⟩=>by
  by_cases hS:S n
  rotate_left
  ·have xn:x n=0:=hxS n (by omega) hS
   obtain ⟨y,⟨i1,hi1,hy1⟩,hyS,hy,hyb⟩:=wV c n b u S (fun i t hi ht=>hu i t (by omega) ht) ⟨x,⟨i0,by
    by_cases e:i0=n
    ·rw [e] at hx0; exact absurd xn hx0
    ·omega,hx0⟩,fun i hi=>hxS i (by omega),fun t ht=>by have:=hx t ht; simp only [sgm] at this; rw [xn] at this; simpa using this⟩
   refine ⟨fun i=>if i=n then 0 else y i,⟨i1,by omega,by show (if i1=n then 0 else y i1)≠0; rw [if_neg (by omega)]; exact hy1⟩,fun i hi hs=>?_,fun t ht=>?_,fun i hi=>?_⟩
   ·show (if i=n then 0 else y i)=0
    split
    ·rfl
    ·exact hyS i (by omega) hs
   ·simp only [sgm,if_true]
    rw [cK fun i hi=>by rw [if_neg (by omega:¬ i=n)],hy t ht]; simp
   ·show (if i=n then 0 else y i).natAbs≤_
    split
    ·exact Nat.zero_le _
    ·refine Nat.le_trans (hyb i (by omega)) (Nat.pow_le_pow_right (by omega) ?_)
     have:=aGp (n:=n) (b:=b) (b':=2 * b+1) (by omega)
     simp only [gG]; omega
  ·by_cases hz:∃ t,t<c∧u n t≠0
   rotate_left
   ·refine ⟨fun i=>if i=n then 1 else 0,⟨n,by omega,by simp⟩,fun i hi hs=>?_,fun t ht=>?_,fun i hi=>?_⟩
    ·show (if i=n then (1:Int) else 0)=0
     rw [if_neg fun (e:i=n)=>hs (e ▸ hS)]
    ·refine (nB (by omega) fun i=>u i t).trans ?_
     exact Classical.byContradiction fun e=>hz ⟨t,ht,e⟩
    ·have:1≤2 ^ gG (n+1) b:=Nat.one_le_two_pow
     show (if i=n then (1:Int) else 0).natAbs≤_
     split <;> simp <;> omega
   ·obtain ⟨t0,ht0,hn0⟩:=hz
    have hxn:∃ i,i<n∧x i≠0:=Classical.byContradiction fun h0=>by
     have hz:∀ i,i<n→x i=0:=fun i hi=>Classical.byContradiction fun e=>h0 ⟨i,hi,e⟩
     have:=hx t0 ht0
     simp only [sgm] at this
     rw [nV fun i hi=>by rw [hz i hi]; simp,Int.zero_add] at this
     rcases Int.mul_eq_zero.1 this with e | e
     ·by_cases e2:i0=n
      ·rw [e2] at hx0; exact hx0 e
      ·exact hx0 (hz i0 (by omega))
     ·exact hn0 e
    obtain ⟨y,⟨i1,hi1,hy1⟩,hyS,hy,hyb⟩:=wV c n (2 * b+1) (fun i t=>u n t0 * u i t - u i t0 * u n t) S (fun i t hi ht=>by
     have h1:=vN (hu n t0 (by omega) ht0) (hu i t (by omega) ht)
     have h2:=vN (hu i t0 (by omega) ht0) (hu n t (by omega) ht)
     have h3:2 ^ (2 * b+1)=2 ^ (b+b)+2 ^ (b+b):=by rw [Nat.pow_succ,Nat.mul_two,show 2 * b=b+b by omega]
     show (u n t0 * u i t - u i t0 * u n t).natAbs≤_
     omega) ⟨x,hxn,fun i hi=>hxS i (by omega),fun t ht=>by
      have h1:=hx t ht
      have h2:=hx t0 ht0
      simp only [sgm] at h1 h2
      rw [aPz n x (fun i=>u i t) (fun i=>u i t0),show sgm n (fun i=>x i * u i t)=- (x n * u n t) by omega,show sgm n (fun i=>x i * u i t0)=- (x n * u n t0) by omega]
      grind⟩
    obtain ⟨g,hg⟩:∃ g,gG n (2 * b+1)=g:=⟨_,rfl⟩
    have hg':gG (n+1) b=g+b+n:=by simp only [gG]; rw [hg]
    rw [hg] at hyb
    rw [hg']
    have hy0:∀ j,j<n→(y j * u j t0).natAbs≤2 ^ (g+b):=fun j hj=>vN (hyb j hj) (hu j t0 (by omega) ht0)
    refine ⟨fun i=>if i=n then - sgm n (fun i=>y i * u i t0) else u n t0 * y i,⟨i1,by omega,?_⟩,fun i hi hs=>?_,fun t ht=>?_,fun i hi=>?_⟩
    ·show (if i1=n then _ else u n t0 * y i1)≠0
     rw [if_neg (by omega)]
     exact fun e=>(Int.mul_eq_zero.1 e).elim hn0 hy1
    ·show (if i=n then _ else u n t0 * y i)=0
     rw [if_neg fun (e:i=n)=>hs (e ▸ hS),hyS i (by
      by_cases e:i=n
      ·exact absurd (e ▸ hS) hs
      ·omega) hs,Int.mul_zero]
    ·have h1:=hy t ht
     rw [aPz n y (fun i=>u i t) (fun i=>u i t0)] at h1
     simp only [sgm,if_true]
     rw [cK (g:=fun i=>u n t0 * (y i * u i t)) fun i hi=>by rw [if_neg (by omega:¬ i=n),Int.mul_assoc],tW,Int.neg_mul]
     omega
    ·show (if i=n then _ else u n t0 * y i).natAbs≤_
     split
     ·rw [Int.natAbs_neg]
      refine Nat.le_trans (bFx hy0) ?_
      rw [Nat.pow_add _ (g+b),Nat.mul_comm]
      exact Nat.mul_le_mul_left _ (Nat.le_of_lt Nat.lt_two_pow_self)
     ·refine Nat.le_trans (vN (hu n t0 (by omega) ht0) (hyb i (by omega))) (Nat.pow_le_pow_right (by omega) (by omega))
structure bEo (R c Q k:Nat) (A M:List (List Int)) (p:Nat→Nat):Prop where
 hn:Hn Q R R k M p
 le:k≤Q
 ker:∀ i,i<k→∀ t,t<c→sgm R (fun j=>ent M i j * ent A j t)=0
 all:∀ x:Nat→Int,(∀ t,t<c→sgm R (fun j=>x j * ent A j t)=0)→∃ a:Nat→Int,∀ j,j<R→sgm Q (fun i=>a i * ent M i j)=x j
section
variable {R c Q k b:Nat} {A M:List (List Int)} {p:Nat→Nat}
def InK (R c:Nat) (A:List (List Int)) (x:Nat→Int):Prop:=∀ t,t<c→sgm R (fun j=>x j * ent A j t)=0
theorem InK.lin {x y:Nat→Int} (hx:InK R c A x) (hy:InK R c A y) (a b:Int):InK R c A (fun j=>a * x j - b * y j):=fun t ht=>by
 rw [aXc,hx t ht,hy t ht]; simp
theorem Hn.inj (h:Hn Q c R k M p) {i j:Nat} (hi:i<k) (hj:j<k) (e:p i=p j):i=j:=by
 rcases Nat.lt_trichotomy i j with h1 | h1 | h1
 ·have:=h.inc i j h1 hj; omega
 ·exact h1
 ·have:=h.inc j i h1 hi; omega
theorem aQi (h:bEo R c Q k A M p) {i:Nat} (hi:i<k):∀ n,i+1+n≤k→∃ x:Nat→Int,InK R c A x∧x (p i)≠0∧∀ m,m<i+1+n→m≠i→x (p m)=0
 | 0,_=>⟨fun j=>ent M i j,h.ker i hi,by have:=h.hn.pos i hi; show ent M i (p i)≠0; omega,fun m hm hne=>h.hn.bef i _ hi (h.hn.inc m i (by omega) hi)⟩
 | n+1,hn=>by
  obtain ⟨x,h1,h2,h3⟩:=aQi h hi n (by omega)
  have hm:i+1+n<k:=by omega
  have h0:∀ m,m<i+1+n→ent M (i+1+n) (p m)=0:=fun m hm'=>h.hn.bef _ _ hm (h.hn.inc m _ hm' hm)
  refine ⟨fun j=>ent M (i+1+n) (p (i+1+n)) * x j - x (p (i+1+n)) * ent M (i+1+n) j,h1.lin (h.ker _ hm) _ _,?_,fun m hm' hne=>?_⟩
  ·show ent M (i+1+n) (p (i+1+n)) * x (p i) - _ * ent M (i+1+n) (p i)≠0
   rw [h0 i (by omega)]
   intro e
   have hp:=h.hn.pos _ hm
   have:ent M (i+1+n) (p (i+1+n)) * x (p i)=0:=by simpa using e
   rcases Int.mul_eq_zero.1 this with e | e
   ·omega
   ·exact h2 e
  ·show ent M (i+1+n) (p (i+1+n)) * x (p m) - x (p (i+1+n)) * ent M (i+1+n) (p m)=0
   by_cases e:m=i+1+n
   ·rw [e,Int.mul_comm]; omega
   ·rw [h0 m (by omega),h3 m (by omega) hne]; simp
theorem aDu (h:bEo R c Q k A M p) (hb:Be b A) {i:Nat} (hi:i<k):∃ w:Nat→Int,InK R c A w∧w (p i)≠0∧(∀ m,m<k→m≠i→w (p m)=0)∧(∀ j,j<R→(w j).natAbs≤2 ^ gG R b)∧(ent M i (p i)).natAbs≤2 ^ gG R b:=by
 obtain ⟨x,x1,x2,x3⟩:=aQi h hi (k - i - 1) (by omega)
 obtain ⟨w,⟨j0,hj0,hw0⟩,w2,w3,w4⟩:=wV c R b (fun j t=>ent A j t) (fun j=>j=p i∨∀ m,m<k→p m≠j) (fun j t _ _=>hb j t) ⟨x,⟨p i,h.hn.lt i hi,x2⟩,fun j hj hs=>by
  have h1:j≠p i:=fun e=>hs (.inl e)
  obtain ⟨m,hm,e⟩:∃ m,m<k∧p m=j:=Classical.byContradiction fun h0=>hs (.inr fun m hm e=>h0 ⟨m,hm,e⟩)
  rw [← e]; exact x3 m (by omega) fun e2=>h1 (by rw [← e,e2]),x1⟩
 obtain ⟨a,ha⟩:=h.all w w3
 obtain ⟨m,m1,m2,_,m4⟩:=h.hn.lead h.le ha ⟨j0,hj0,hw0⟩
 have hp:=h.hn.pos m m1
 have hne:w (p m)≠0:=by
  rw [m4]; intro e
  rcases Int.mul_eq_zero.1 e with e | e
  ·exact m2 e
  ·omega
 have em:m=i:=by
  refine h.hn.inj m1 hi (Classical.byContradiction fun e=>hne (w2 _ (h.hn.lt m m1) fun s=>?_))
  rcases s with s | s
  ·exact e s
  ·exact s m m1 rfl
 subst em
 refine ⟨w,w3,hne,fun n hn hne=>w2 _ (h.hn.lt n hn) fun s=>?_,w4,?_⟩
 ·rcases s with s | s
  ·exact hne (h.hn.inj hn m1 s)
  ·exact s n hn rfl
 ·refine Nat.le_trans ?_ (w4 _ (h.hn.lt m m1))
  rw [m4,Int.natAbs_mul]
  have:=Nat.mul_le_mul_right (ent M m (p m)).natAbs (show 1≤(a m).natAbs by omega)
  omega
theorem aEr (h:bEo R c Q k A M p) (hb:Be b A):∀ (m:Nat) (y:Nat→Int) (B:Nat),m≤k→InK R c A y→(∀ j,j<k→m≤j→y (p j)=0)→(∀ j,j<m→(y (p j)).natAbs≤B)→∀ q,q<R→(∀ j,j<k→p j≠q)→(y q).natAbs≤m * (B * 2 ^ gG R b)
 | 0,y,B,_,hy,h0,_,q,hq,_=>by
  refine Classical.byContradiction fun hne=>?_
  obtain ⟨a,ha⟩:=h.all y hy
  obtain ⟨m,m1,m2,_,m4⟩:=h.hn.lead h.le ha ⟨q,hq,by intro e; rw [e] at hne; simp at hne⟩
  rw [h0 m m1 (by omega)] at m4
  have hp:=h.hn.pos m m1
  rcases Int.mul_eq_zero.1 m4.symm with e | e
  ·exact m2 e
  ·omega
 | m+1,y,B,hm,hy,h0,h1,q,hq,hnp=>by
  obtain ⟨w,w1,w2,w3,w4,_⟩:=aDu h hb (show m<k by omega)
  have ih:=aEr h hb m (fun j=>w (p m) * y j - y (p m) * w j) ((w (p m)).natAbs * B) (by omega) (hy.lin w1 _ _) (fun j hj hmj=>by
   show w (p m) * y (p j) - y (p m) * w (p j)=0
   by_cases e:j=m
   ·rw [e,Int.mul_comm]; omega
   ·rw [h0 j hj (by omega),w3 j hj e]; simp) (fun j hj=>by
   show (w (p m) * y (p j) - y (p m) * w (p j)).natAbs≤_
   rw [w3 j (by omega) (by omega),Int.mul_zero,Int.sub_zero,Int.natAbs_mul]
   exact Nat.mul_le_mul_left _ (h1 j (by omega))) q hq hnp
  have h2:=Nat.mul_le_mul (h1 m (by omega)) (w4 q hq)
  rw [← Int.natAbs_mul] at h2
  have ih':(w (p m) * y q - y (p m) * w q).natAbs≤(w (p m)).natAbs * (m * (B * 2 ^ gG R b)):=by
   refine Nat.le_trans ih (Nat.le_of_eq ?_)
   rw [Nat.mul_assoc,Nat.mul_left_comm]
  have h3:(w (p m) * y q).natAbs≤(w (p m)).natAbs * (m * (B * 2 ^ gG R b))+B * 2 ^ gG R b:=by omega
  have h4:1 * (B * 2 ^ gG R b)≤(w (p m)).natAbs * (B * 2 ^ gG R b):=Nat.mul_le_mul_right _ (Int.natAbs_pos.2 w2)
  rw [Int.natAbs_mul] at h3
  have h5:0<(w (p m)).natAbs:=Int.natAbs_pos.2 w2
  refine Nat.le_of_mul_le_mul_left (c:=(w (p m)).natAbs) ?_ h5
  rw [Nat.succ_mul,Nat.mul_add]; omega
theorem aUl (h:bEo R c Q k A M p) (hb:Be b A) (hk:k≤16) {i q:Nat} (hi:i<k) (hq:q<R):(ent M i q).natAbs≤2 ^ (2 * gG R b+4):=by
 have hW:∀ j,j<k→(ent M j (p j)).natAbs≤2 ^ gG R b:=fun j hj=>let ⟨_,_,_,_,_,e⟩:=aDu h hb hj; e
 have hpv:∀ j,j<k→(ent M i (p j)).natAbs≤2 ^ gG R b:=fun j hj=>by
  rcases Nat.lt_trichotomy j i with e | e | e
  ·rw [h.hn.bef i _ hi (h.hn.inc j i e hi)]; exact Nat.zero_le _
  ·rw [e]; exact hW i hi
  ·have:=hW j hj
   obtain ⟨r1,r2⟩:=h.hn.red i j e hj
   omega
 have e1:2 ^ (2 * gG R b+4)=16 * (2 ^ gG R b * 2 ^ gG R b):=by rw [← Nat.pow_add,Nat.pow_add,Nat.mul_comm,show 2 * gG R b=gG R b+gG R b by omega]
 by_cases e:∃ j,j<k∧p j=q
 ·obtain ⟨j,hj,rfl⟩:=e
  exact Nat.le_trans (hpv j hj) (Nat.pow_le_pow_right (by omega) (by omega))
 ·refine Nat.le_trans (aEr h hb k (fun j=>ent M i j) _ (Nat.le_refl _) (h.ker i hi) (fun j h1 h2=>by omega) hpv q hq fun j hj e2=>e ⟨j,hj,e2⟩) ?_
  rw [e1]; exact Nat.mul_le_mul_right _ hk
end
theorem Hn.start (R c:Nat) (M:List (List Int)):Hn R c 0 0 M fun _=>0 :=
 ⟨fun i j _ h=>by omega,fun i h=>by omega,fun i h=>by omega,fun i t h=>by omega,fun j i _ h=>by omega,fun r t _ _ h=>by omega⟩
theorem Hn.rank {R c k:Nat} {M:List (List Int)} {p:Nat→Nat} (h:Hn R c c k M p) (hk:k≤R) (hM:Sh R c M):rkR M=k :=
 yN hM hk (fun r t h1 h2 h3=>h.low r t h1 h2 h3) fun r hr=>⟨p r,h.lt r hr,by have:=h.pos r hr; omega⟩
theorem bIs {R t:Nat} {x:Nat→Int} (ht:t<R):sgm R (fun j=>x j * ent (idM R) j t)=x t:=by
 rw [cK (g:=fun j=>(if j=t then 1 else 0) * x j) fun j hj=>by rw [pC hj ht,Int.mul_comm],nB ht]
theorem aRb {R c e:Nat} {A:List (List Int)} (hA:Sh R c A) (hR:R≤15) (hc:c≤1000) (hB:Be e A) (he:dbl (tr R) e<1099511627776):∃ L,aLz R c (2 * gG R e+4) A L:=by
 obtain ⟨wf,k,e',f1,f2,f3,f4,f5,f6,f7,f8⟩:=aRl hA hR hB he
 have hB2:Sh (R - k) R (wf.U.drop k):=⟨by rw [List.length_drop,f4.u.len],fun v hv=>f4.u.row v (List.mem_of_mem_drop hv)⟩
 have hbe:Be e' (wf.U.drop k):=fun r t=>by rw [aBm]; exact f5.u _ _
 obtain ⟨wg,q,e2,g1,g2,g3,g4,g5,g6,g7,g8⟩:=aRl hB2 (by omega) hbe (Nat.lt_of_le_of_lt f6 he)
 have he1:e<1099511627776:=Nat.lt_of_le_of_lt (wW _ _) he
 have he2:e'<1099511627776:=Nat.lt_of_le_of_lt (Nat.le_trans (wW _ _) f6) he
 have hS:=aIx hA hR hc (hB.mem he1) f1 f4.m f4.u (by rw [f2]; exact f3) rfl (by rw [f2]; exact hbe.mem he2) (by rw [f2]; exact g1) (by rw [f2]; exact g4.m)
 rw [g2] at hS
 have hlen:(wg.M.take q).length=q:=by rw [List.length_take,g4.m.len]; omega
 obtain ⟨k1,p1,n1,n2⟩:=bLe f1 (Nat.zero_le _) (Nat.zero_le _) (Hn.start _ _ _)
 obtain ⟨k2,p2,n3,n4⟩:=bLe g1 (Nat.zero_le _) (Nat.zero_le _) (Hn.start _ _ _)
 obtain rfl:k1=k:=by rw [← n2.rank n1 f4.m]; exact f2
 obtain rfl:k2=q:=by rw [← n4.rank n3 g4.m]; exact g2
 have hker:∀ i,i<R - k1→∀ t,t<c→sgm R (fun j=>ent wg.M i j * ent A j t)=0:=fun i hi t ht=>by
  rw [cK (g:=fun j=>sgm (R - k1) fun i2=>ent wg.U i i2 * (ent wf.U (k1+i2) j * ent A j t)) fun j hj=>by
   rw [← g7 i j hi hj,← aXb]; exact cK fun i2 _=>by rw [aBm,Int.mul_assoc],aXe]
  refine nV fun i2 h2=>?_
  rw [tW,f7 (k1+i2) t (by omega) ht,f8 (k1+i2) t (by omega) (by omega) ht,Int.mul_zero]
 have hK:bEo R c (R - k1) k2 A wg.M p2:=⟨n4,n3,fun i hi=>hker i (by omega),fun x hx=>by
  obtain ⟨a,a1,a2⟩:=InP.fo f1 (x:=fun _=>0) (y:=x) ⟨x,hx,fun t ht=>bIs ht⟩
  have a0:∀ j,j<k1→a j=0:=fun j hj=>Classical.byContradiction fun hne=>by
   obtain ⟨m,m1,m2,_,m4⟩:=n2.min n1 a1 ⟨j,hj,hne⟩
   have hp:=n2.pos m m1
   rcases Int.mul_eq_zero.1 m4.symm with e | e
   ·exact m2 e
   ·omega
  obtain ⟨a',a1',_⟩:=InP.fo g1 (x:=x) (y:=fun t=>sgm (R - k1) fun j=>a (k1+j) * ent (idM (R - k1)) j t) ⟨fun i=>a (k1+i),fun t ht=>by
   rw [← a2 t ht]
   have h1:=aDj k1 (fun j=>a j * ent wf.U j t) (R - k1)
   rw [show k1+(R - k1)=R by omega,show sgm k1 (fun j=>a j * ent wf.U j t)=0 from nV fun j hj=>by rw [a0 j hj]; simp] at h1
   rw [h1,Int.zero_add]
   exact cK fun j _=>by show _ * ent (List.drop k1 wf.U) j t=_; rw [aBm],fun t ht=>rfl⟩
  exact ⟨a',a1'⟩⟩
 have hgd:∀ {v:List Int} {r:Nat},r<k2→(h:r<(wg.M.take k2).length)→(wg.M.take k2)[r]=v→∀ j,v.getD j 0=ent wg.M r j:=fun {v r} hr h e j=>by
  rw [List.getElem_take] at e
  unfold ent
  rw [List.getD_eq_getElem?_getD (l:=wg.M),List.getElem?_eq_getElem (by rw [g4.m.len]; omega),Option.getD_some,e]
 refine ⟨wg.M.take k2,by rw [hlen]; exact hS,by omega,fun v hv=>g4.m.row v (List.mem_of_mem_take hv),fun v hv z hz=>?_,fun v hv t ht=>?_⟩
 ·obtain ⟨i,hi,e1⟩:=List.getElem_of_mem hv
  obtain ⟨s,hs,e2'⟩:=uM hz
  have hs':s<R:=by rw [g4.m.row v (List.mem_of_mem_take hv)] at hs; exact hs
  rw [← e2',hgd (by omega) hi e1]
  exact aUl hK hB (by omega) (by omega) hs'
 ·obtain ⟨r,hr,e1⟩:=List.getElem_of_mem hv
  rw [cK fun j _=>by rw [hgd (by omega) hr e1 j]]
  exact hker r (by omega) t ht
end Go.Am
end

section
set_option linter.unusedVariables false
set_option linter.unusedSimpArgs false
open List (map_map mapM_map)
open Go Go.Am Go.Proofs
namespace Go.Am
def eD (d:Int):Nat:=if d=1 then 4 else if d=2 then 1024 else if d=3 then 65536 else 0
structure Gr (i:Nat) (c:List Cl):Prop where
 v:CxV c
 len:c.length≤7+i
 n0:(cS c 0).length≤3+i
 n1:(cS c 1).length≤3+i
 n2:(cS c 2).length≤2+i
 n3:(cS c 3).length≤1+i
 ids:∀ x∈c,1≤x.id∧x.id≤9+2 * (i:Int)
 bl:∀ x∈c,x.b.length≤48
 eb:∀ x∈c,Bnd (2 ^ eD x.dim) x.b
/-! The spaces -/
def grB (c:List Cl):Prop:=(c.Pairwise fun x y=>x.id<y.id)∧(∀ x∈c,0≤x.dim∧x.dim≤3)∧(∀ x∈c,x.b.Pairwise (fun x y=>x.1<y.1)∧∀ y∈x.b,y.2≠0)∧(∀ x∈c,∀ f∈x.b,∃ y∈c,y.id=f.1∧y.dim=x.dim - 1)∧(∀ x∈c,bV [] (bdL c x.b)=[])
 ∧ c.length≤7∧(cS c 0).length≤3∧(cS c 1).length≤3∧(cS c 2).length≤2∧(cS c 3).length≤1∧(∀ x∈c,1≤x.id∧x.id≤9)∧(∀ x∈c,x.b.length≤48)∧∀ x∈c,x.b=[]∨(1≤x.dim∧∀ y∈x.b,y.2.natAbs≤16)
instance (c : List Cl) : Decidable (grB c) := by unfold grB; infer_instance
theorem bRm {d:Int} (h1:1≤d) (h3:d≤3):4≤eD d:=by
 unfold eD
 split
 ·omega
 ·split
  ·omega
  ·rw [if_pos (by omega)]; omega
theorem bRe {c:List Cl} (h:grB c):Gr 0 c:=by
 obtain ⟨h1,h2,h3,h4,h5,h6,h7,h8,h9,h9',h10,h11,h12⟩:=h
 refine ⟨⟨h1,h2,h3,h4,fun x hx n=>?_⟩,h6,h7,h8,h9,h9',fun x hx=>by have:=h10 x hx; omega,h11,fun x hx=>?_⟩
 ·rw [← aOo]
  have:=(dI (bdL c x.b) [] Val.nil).2 n
  rw [h5 x hx,iK] at this; omega
 ·rcases h12 x hx with h | ⟨h,h'⟩
  ·rw [h]; exact Bnd.nil _
  ·exact Bnd.mono (M:=16) h' (Nat.le_trans (show 16≤2 ^ 4 by decide) (aDp (bRm h (h2 x hx).2)))
set_option maxRecDepth 100000 in
theorem bMe (j:Nat) (h:j<14):Gr 0 (spc j):=by
 refine bRe ?_
 revert j
 decide
/-! One more cell -/
theorem aLb {c:List Cl} {E:Nat} {cyc:List (List (Int × Int))} {xs:List Int} {S:Int→Prop} {W:Int→Int→Int} (hc:∀ y∈cyc,Val y∧Bnd (2 ^ E) y∧(∀ f∈y,S f.1)∧∀ n,bU (W n) y=0) :
  ∀ i,i≤cyc.length→Val (gB cyc xs i)∧Bnd (i * (2 ^ 2 * 2 ^ E)) (gB cyc xs i)∧(∀ f∈gB cyc xs i,S f.1)∧∀ n,bU (W n) (gB cyc xs i)=0
 | 0,_=>⟨Val.nil,Bnd.nil _,(fun f hf=>absurd hf List.not_mem_nil),fun n=>rfl⟩
 | i+1,hi=>by
  obtain ⟨h1,h2,h3,h4⟩:=aLb (c:=c) (xs:=xs) hc i (by omega)
  have hm:cyc.getD i []∈cyc:=by rw [List.getD_eq_getElem?_getD,List.getElem?_eq_getElem (by omega)]; exact List.getElem_mem _
  obtain ⟨y1,y2,y3,y4⟩:=hc _ hm
  refine ⟨(yV h1 y1 _).1,?_,aEl h1 y1 h3 y3,fun n=>?_⟩
  ·rw [Nat.succ_mul]
   exact bAa h1 y1 h2 y2 (aIa _).1
  ·show bU (W n) (bV (gB cyc xs i) (mulR _ (cyc.getD i [])))=0
   rw [kN,lZ,h4,y4]; simp
theorem bNy {c:List Cl} {x0:Int} (h:Inc c):∀ x∈c,x.id<gId c x0:=fun x hx=>by
 unfold gId
 cases e:c.getLast? with
 | none=>rw [List.getLast?_eq_none_iff] at e; rw [e] at hx; cases hx
 | some y =>
  obtain ⟨ys,hy⟩:=List.getLast?_eq_some_iff.1 e
  have:x.id≤y.id:=by
   rw [hy] at hx h
   rcases List.mem_append.1 hx with hx | hx
   ·exact Int.le_of_lt ((List.pairwise_append.1 h).2.2 x hx y (List.mem_singleton_self _))
   ·rw [List.mem_singleton.1 hx]; exact Int.le_refl _
  simp only; omega
theorem bNx {c:List Cl} {x0 m:Int} (h:∀ x∈c,1≤x.id∧x.id≤m) (hm:0≤m):1≤gId c x0∧gId c x0≤m+2:=by
 unfold gId
 cases e:c.getLast? with
 | none=>simp only; omega
 | some y =>
  have:=h y (List.mem_of_getLast? e)
  simp only; omega
theorem grow {i E:Nat} {c:List Cl} {x0 x1 x2 x3:Int} {cyc:List (List (Int × Int))} (g:Gr i c) (hc:∀ y∈cyc,Val y∧Bnd (2 ^ E) y∧(∀ f∈y,f.1∈cS c (mL x0 - 1))∧∀ n,bU (fun m=>cf n (bOf c m)) y=0) (hl:∀ y∈cyc,y.length≤16)
  (hE:cyc=[]∨E+4≤eD (mL x0)):Gr (i+1) (grown c x0 x1 x2 x3 cyc):=by
 obtain ⟨b1,b2,b3,b4⟩:=aLb (c:=c) (xs:=[x0,x1,x2,x3]) hc (min 3 cyc.length) (by omega)
 have b5:(gB cyc [x0,x1,x2,x3] (min 3 cyc.length)).length≤48:=by
  have:=(bBp (e:=E) (xs:=[x0,x1,x2,x3]) (fun y hy=>(hc y hy).2.1) hl (min 3 cyc.length) (by omega) (by omega)).2
  omega
 have b6:Bnd (2 ^ eD (mL x0)) (gB cyc [x0,x1,x2,x3] (min 3 cyc.length)):=by
  rcases hE with h | h
  ·subst h; exact Bnd.nil _
  ·refine b2.mono (Nat.le_trans ?_ (aDp h))
   rw [oV,show E+4=2+(2+E) by omega]
   exact qE (Nat.le_trans (show min 3 cyc.length≤3 by omega) (by decide))
 unfold grown
 generalize gB cyc [x0,x1,x2,x3] (min 3 cyc.length)=b at *
 have hgt:=bNy (x0:=x0) g.v.inc
 have hle:=bNx (x0:=x0) g.ids (by omega)
 have hd:0≤mL x0∧mL x0≤3:=by unfold mL; omega
 generalize gId c x0=id at *
 generalize mL x0=d at *
 have hmem:∀ n k,n∈cS c k→n≠id:=fun n k hn=>by
  obtain ⟨y,hy,_,e⟩:=oB.1 hn
  have:=hgt y hy; omega
 have hall:∀ (P:Cl→Prop),(∀ x∈c,P x)→P ⟨id,d,b⟩→∀ x∈c++[⟨id,d,b⟩],P x:=fun P h1 h2 x hx=>by
  rcases List.mem_append.1 hx with hx | hx
  ·exact h1 x hx
  ·rw [List.mem_singleton.1 hx]; exact h2
 have hcnt:∀ k m,(cS c k).length≤m→(cS (c++[⟨id,d,b⟩]) k).length≤m+1:=fun k m h=>by
  rw [bBi,List.length_append]; split <;> simp <;> omega
 refine ⟨⟨?_,hall _ g.v.dim hd,hall _ g.v.val b1,hall _ (fun x hx f hf=>?_) fun f hf=>?_,hall _ (fun x hx n=>?_) fun n=>?_⟩,?_,hcnt 0 _ g.n0,hcnt 1 _ g.n1,hcnt 2 _ g.n2,hcnt 3 _ g.n3,hall _ (fun x hx=>?_) ?_,hall _ g.bl b5,hall _ g.eb b6⟩
 ·refine List.pairwise_append.2 ⟨g.v.inc,List.pairwise_singleton _ _,fun x hx y hy=>?_⟩
  rw [List.mem_singleton.1 hy]; exact hgt x hx
 ·obtain ⟨y,hy,e⟩:=g.v.face x hx f hf
  exact ⟨y,List.mem_append_left _ hy,e⟩
 ·obtain ⟨y,hy,e1,e2⟩:=oB.1 (b3 f hf)
  exact ⟨y,List.mem_append_left _ hy,e2,e1⟩
 ·rw [gH fun f hf=>?_]
  ·exact g.v.cyc x hx n
  ·obtain ⟨y,hy,e,_⟩:=g.v.face x hx f hf
   rw [aRz]
   have:=hgt y hy
   show f.1≠id; omega
 ·rw [gH fun f hf=>?_]
  ·exact b4 n
  ·rw [aRz]; exact hmem _ _ (b3 f hf)
 ·rw [List.length_append]; have:=g.len; simp; omega
 ·have:=g.ids x hx; omega
 ·show 1≤id∧id≤_; omega
/-! The cycles -/
theorem tr6:∀ R,R≤6→tr R≤21:=by
 intro R h
 have:∀ R,R<7→tr R≤21:=by decide
 exact this R (by omega)
theorem tr5:∀ R,R≤5→tr R≤15:=by
 intro R h
 have:∀ R,R<6→tr R≤15:=by decide
 exact this R (by omega)
theorem bOj {E:Nat} {c:List Cl} {k:Int} {L:List (List Int)} (hv:CxV c) (hL:aLz (cS c k).length (cS c (k - 1)).length E (pT c k) L) :
  ∀ y∈L.map fun v=>(chX c k v).1,(Val y∧Bnd (2 ^ E) y∧(∀ f∈y,f.1∈cS c k)∧∀ n,bU (fun m=>cf n (bOf c m)) y=0)∧y.length≤(cS c k).length:=fun y hy=>by
 obtain ⟨v,hvL,rfl⟩:=List.mem_map.1 hy
 have hr:=hL.row v hvL
 have e:(chX c k v).1=bV [] ((cS c k).zip v):=by unfold chX; rw [if_pos hr]
 rw [e]
 obtain ⟨c1,c2,c3,c4,_⟩:=bCu (hv.inc.ids k) (hL.be v hvL)
 exact ⟨⟨c1,c2,c3,hv.cycle hr (hL.ker v hvL)⟩,c4⟩
theorem bOk {i:Nat} {c:List Cl} (g:Gr i c) (hi:i≤3) (d:Int) (hd:0≤d∧d≤3):∃ cyc E,Spec Tryz.prog 87 [aI c,.i .i64 (d - 1)] (lH cyc)∧(cyc=[]∨E+4≤eD d)∧E+20<4398046511104∧cyc.length≤100 ∧
  ∀ y∈cyc,(Val y∧Bnd (2 ^ E) y∧(∀ f∈y,f.1∈cS c (d - 1))∧∀ n,bU (fun m=>cf n (bOf c m)) y=0)∧y.length≤16:=by
 have hlen:=g.len
 have hbl:∀ x∈c,x.b.length≤1000000:=fun x hx=>Nat.le_trans (g.bl x hx) (by decide)
 have fin:∀ (k:Int) (E:Nat) L,0≤k→k≤2→(cS c k).length≤16→E+20<4398046511104→E+4≤eD (k+1)→aLz (cS c k).length (cS c (k - 1)).length E (pT c k) L→∃ cyc E,Spec Tryz.prog 87 [aI c,.i .i64 k] (lH cyc)∧(cyc=[]∨E+4≤eD (k+1))∧E+20<4398046511104∧cyc.length≤100 ∧
   ∀ y∈cyc,(Val y∧Bnd (2 ^ E) y∧(∀ f∈y,f.1∈cS c k)∧∀ n,bU (fun m=>cf n (bOf c m)) y=0)∧y.length≤16:=fun k E L h1 h2 h3 h4 h5 hL=>by
  have hc:=bOj g.v hL
  refine ⟨_,E,aTd c k L (by omega) (by omega) hbl hL h4,.inr h5,h4,?_,fun y hy=>⟨(hc y hy).1,Nat.le_trans (hc y hy).2 h3⟩⟩
  rw [List.length_map]
  have:=hL.len; omega
 have hd':d=0∨d=1∨d=2∨d=3:=by omega
 rcases hd' with rfl | rfl | rfl | rfl
 ·exact ⟨[],0,aNc c _ (by decide),.inl rfl,by decide,by simp,fun y hy=>by cases hy⟩
 ·have h0:(cS c (0 - 1)).length=0:=by
   rw [List.length_eq_zero_iff]
   refine List.eq_nil_iff_forall_not_mem.2 fun n hn=>?_
   obtain ⟨x,hx,hdx,_⟩:=oB.1 hn
   have:=(g.v.dim x hx).1; omega
  have hs:=yT c 0
  rw [h0] at hs
  have hl:=left_id hs (by have:=g.n0; omega)
  refine fin 0 0 _ (by decide) (by decide) (by have:=g.n0; omega) (by decide) (by decide) (by rw [h0]; exact hl)
 ·have hb:Be 4 (pT c 1):=aQw g.v.inc fun x hx hdx=>by have:=g.eb x hx; rw [hdx] at this; exact this
  have hn:=g.n1
  have h1:=aLi (e:=4) (tr6 (cS c 1).length (by omega))
  have h2:=pF 21 4
  rw [show 2 ^ 21 * (4+4)=16777216 by decide] at h2
  obtain ⟨L,hL⟩:=aRb (yT c 1) (by omega) (by have:=lE c (1 - 1); omega) hb (by omega)
  have h3:=bLc (b:=4) (show (cS c 1).length≤6 by omega)
  rw [show gG 6 4=324 from rfl] at h3
  exact fin 1 _ L (by decide) (by decide) (by omega) (by omega) (by show _≤1024; omega) hL
 ·obtain ⟨E2,hE2,hE3⟩:∃ E,E=eD 2∧E=1024:=⟨eD 2,rfl,rfl⟩
  have hb:Be E2 (pT c 2):=aQw g.v.inc fun x hx hdx=>by have:=g.eb x hx; rw [hdx,← hE2] at this; exact this
  have hn:=g.n2
  have h1:=aLi (e:=E2) (tr5 (cS c 2).length (by omega))
  have h2:=pF 15 E2
  have h3:2 ^ 15 * (E2+4)=33685504:=by rw [hE3]
  rw [h3] at h2
  obtain ⟨L,hL⟩:=aRb (yT c 2) (by omega) (by have:=lE c (2 - 1); omega) hb (by omega)
  have h4:=bLc (b:=E2) (show (cS c 2).length≤5 by omega)
  rw [show gG 5 E2=31780 by rw [hE3]; rfl] at h4
  exact fin 2 _ L (by decide) (by decide) (by omega) (by omega) (by show _≤65536; omega) hL
/-! The draw -/
abbrev Q4:=Int × Int × Int × Int
def Q4.ok (q:Q4):Prop:=(-128≤q.1∧q.1≤127)∧(-128≤q.2.1∧q.2.1≤127)∧(-128≤q.2.2.1∧q.2.2.1≤127)∧(-128≤q.2.2.2∧q.2.2.2≤127)
def sL (q:Q4):List D:=[.i .i8 q.1,.i .i8 q.2.1,.i .i8 q.2.2.1,.i .i8 q.2.2.2]
def qT (s:Int) (l:List Q4):D:=.ag [.i .u8 s,.sl (l.map sL)]
theorem bBl {i:Nat} {c:List Cl} (g:Gr i c) (hi:i≤3) (q:Q4) (hq:q.ok):∃ c',Spec Tryz.prog 36 [aI c,.ag (sL q)] (aI c')∧Gr (i+1) c':=by
 obtain ⟨x0,x1,x2,x3⟩:=q
 obtain ⟨cyc,E,h1,h2,h3,h4,h5⟩:=bOk g hi (mL x0) (by unfold mL; omega)
 have hlen:=g.len
 exact ⟨_,aYh (e:=E) c x0 x1 x2 x3 cyc hq.1 hq.2.1 hq.2.2.1 hq.2.2.2 (by omega) (fun y hy=>by have:=g.ids y hy; omega) h1 h4 (fun y hy=>(h5 y hy).1.2.1) (fun y hy=>(h5 y hy).2) h3,
  grow g (fun y hy=>(h5 y hy).1) (fun y hy=>(h5 y hy).2) h2⟩
inductive MkR:List Q4→List Cl→List Cl→Prop
 | nil (c:List Cl):MkR [] c c
 | cons (q:Q4) (l:List Q4) (c c1 c2:List Cl) (h:Spec Tryz.prog 36 [aI c,.ag (sL q)] (aI c1)) (h2:MkR l c1 c2):MkR (q::l) c c2
theorem MkR.end {c c2:List Cl} (h:MkR [] c c2):c2=c:=by cases h; rfl
theorem MkR.next {q:Q4} {l:List Q4} {c c2:List Cl} (h:MkR (q::l) c c2):∃ c1,Spec Tryz.prog 36 [aI c,.ag (sL q)] (aI c1)∧MkR l c1 c2:=by cases h with | cons _ _ _ c1 _ h h2=>exact ⟨c1,h,h2⟩
theorem bKy:∀ (l:List Q4) (i:Nat) (c:List Cl),Gr i c→i+l.length≤4→(∀ q∈l,q.ok)→∃ c',MkR l c c'∧Gr (i+l.length) c'
 | [],i,c,g,_,_=>⟨c,.nil c,g⟩
 | q::l,i,c,g,hi,hq=>by
  simp only [List.length_cons] at hi
  obtain ⟨c1,h1,h2⟩:=bBl g (by omega) q (hq q (List.mem_cons_self ..))
  obtain ⟨c2,h3,h4⟩:=bKy l (i+1) c1 h2 (by omega) fun y hy=>hq y (List.mem_cons_of_mem _ hy)
  exact ⟨c2,.cons q l c c1 c2 h1 h3,by rw [List.length_cons,show i+(l.length+1)=i+1+l.length by omega]; exact h4⟩
set_option maxHeartbeats 2000000 in
set_option maxRecDepth 10000 in
theorem aYg (s:Int) (l:List Q4) (c0 c:List Cl) (hl:l.length≤9223372036854775807) (hS:Spec Tryz.prog 35 [.i .u8 s] (aI c0)) (hm:MkR (l.take 4) c0 c):Spec Tryz.prog 9 [qT s l] (aI c):=by
 refine aY (N:=27) aF Tryz.func9 rfl rfl rfl (by kernel_rfl) (by kernel_rfl) (by simp) ?_
 have hq4:∀ q:Q4,sL q=[.i .i8 q.1,.i .i8 q.2.1,.i .i8 q.2.2.1,.i .i8 q.2.2.2]:=fun q=>rfl
 simp [-map_map,-mapM_map,↓KW,qT]
 refine aA (ds:=[.i .u8 s]) (by rfl) hS ?_
 simp [-map_map,-mapM_map,↓KW,aI]
 refine aU (fun y:Nat × List Cl=>y.1≤min 4 l.length∧MkR ((l.take 4).drop y.1) y.2 c) (fun y=>StL [(1,.ptr 1 0),(3,.d (aI y.2)),(4,.d (.i .i64 (y.1:Int)))] none [.cells 24 [.d (.i .u8 s),.d (.sl (l.map sL))]]) (fun y=>4 - y.1) (0,c0) ⟨Nat.zero_le _,hm⟩ ?_ ?_
 ·refine bC [1] (by simp) ?_ ?_ <;> simp [-map_map,upd,aT,Γ0,aI]
 ·rintro ⟨i,d⟩ ⟨hi,hm⟩
  simp only at hi hm ⊢
  by_cases hgo:i<l.length∧i<4
  ·have g1:=hgo.1
   have g2:=hgo.2
   have q1:(i:Int)<l.length:=by omega
   have q2:(i:Int)<4:=by omega
   have hx:l[i]? = some l[i]:=List.getElem?_eq_getElem g1
   have hd:(l.take 4).drop i=l[i]::(l.take 4).drop (i+1):=by
    rw [List.drop_eq_getElem_cons (by rw [List.length_take]; omega),List.getElem_take]
   rw [hd] at hm
   have hw:IntKind.i64.wrap ((i:Int)+1)=(i:Int)+1:=aS (by omega) (by omega)
   refine (hm.next).elim fun d1 hh=>?_
   have h1:=hh.1
   have h2:=hh.2
   clear hh hd hm
   have hx':∀ h:i<l.length,l[i]'h=l[i]:=fun h=>rfl
   refine (show ∃ q,l[i]=q from ⟨_,rfl⟩).elim fun q hq=>?_
   rw [hq] at hx h1
   have hgy':∀ h:i<l.length,l[i]'h=q:=fun h=>hq
   have e4:=hq4 q
   rw [e4] at h1
   simp [-map_map,-mapM_map,↓KW,aI,g1,g2,q1,q2,hx,hgy',e4]
   refine aA (ds:=[aI d,.ag [.i .i8 q.1,.i .i8 q.2.1,.i .i8 q.2.2.1,.i .i8 q.2.2.2]]) (by rfl) h1 ?_
   simp [-map_map,-mapM_map,↓KW,aI,hw]
   refine aK (i+1,d1) ⟨by simp only; omega,h2⟩ (by simp only; omega) (bC [1] (by simp) ?_ ?_) <;> simp [-map_map,upd,aT,Γ0,aI]
  ·have hd:(l.take 4).drop i=[]:=List.drop_eq_nil_of_le (by rw [List.length_take]; omega)
   rw [hd] at hm
   have he:=hm.end
   by_cases g1:i<l.length
   ·have q1:(i:Int)<l.length:=by omega
    have q2:¬ (i:Int)<4:=by omega
    simp [-map_map,-mapM_map,↓KW,aI,q1,q2,he]
   ·have q1:¬ (i:Int)<l.length:=by omega
    simp [-map_map,-mapM_map,↓KW,aI,q1,he]
theorem aWx (s:Int) (h:0≤s∧s≤255):∃ j,j<14∧Spec Tryz.prog 35 [.i .u8 s] (aI (spc j)):=by
 have h1:=Int.tmod_lt_of_pos s (b:=14) (by decide)
 have h2:0≤s.tmod 14:=Int.tmod_nonneg _ h.1
 have h3:s.tmod 14=0∨s.tmod 14=1∨s.tmod 14=2∨s.tmod 14=3∨s.tmod 14=4∨s.tmod 14=5∨s.tmod 14=6∨s.tmod 14=7∨s.tmod 14=8∨s.tmod 14=9∨s.tmod 14=10∨s.tmod 14=11∨s.tmod 14=12∨s.tmod 14=13:=by omega
 rcases h3 with e | e | e | e | e | e | e | e | e | e | e | e | e | e
 ·exact ⟨0,by decide,bMo s e⟩
 ·exact ⟨1,by decide,bMn s e⟩
 ·exact ⟨2,by decide,bMm s e⟩
 ·exact ⟨3,by decide,bMl s e⟩
 ·exact ⟨4,by decide,bMk s e⟩
 ·exact ⟨5,by decide,bMj s e⟩
 ·exact ⟨6,by decide,bMi s e⟩
 ·exact ⟨7,by decide,bMh s e⟩
 ·exact ⟨8,by decide,bMg s e⟩
 ·exact ⟨9,by decide,bMf s e⟩
 ·exact ⟨10,by decide,bFu s e⟩
 ·exact ⟨11,by decide,bFt s e⟩
 ·exact ⟨12,by decide,bFs s e⟩
 ·exact ⟨13,by decide,bFr s e⟩
structure MdX (c:List Cl):Prop where
 v:CxV c
 len:c.length≤11
 ids:∀ x∈c,1≤x.id∧x.id≤17
 sz:∃ F,F=549755944960∧SzX F c
 n1:(cS c 1).length≤7
 n2:(cS c 2).length≤6
 n3:(cS c 3).length≤5
 eb:∀ x∈c,Bnd (2 ^ eD x.dim) x.b
theorem bRl (d:Int):eD d≤549755944960:=by
 unfold eD
 split
 ·decide
 ·split
  ·decide
  ·split <;> decide
theorem bHx (s:Int) (l:List Q4) (hs:0≤s∧s≤255) (hq:∀ q∈l,q.ok) (hl:l.length≤9223372036854775807):∃ c,Spec Tryz.prog 9 [qT s l] (aI c)∧MdX c:=by
 obtain ⟨j,hj,h1⟩:=aWx s hs
 have h4:(l.take 4).length≤4:=by rw [List.length_take]; omega
 obtain ⟨c,h2,g⟩:=bKy (l.take 4) 0 (spc j) (bMe j hj) (by omega) fun q h=>hq q (List.mem_of_mem_take h)
 have hlen:=g.len
 obtain ⟨F,hF⟩:∃ F,F=549755944960:=⟨_,rfl⟩
 have hFe:∀ d,eD d≤F:=fun d=>by rw [hF]; exact bRl d
 exact ⟨c,aYg s l _ c hl h1 h2,g.v,by omega,fun x hx=>by have:=g.ids x hx; omega,⟨F,hF,by omega,fun x hx=>Nat.le_trans (g.bl x hx) (by decide),fun x hx=>(g.eb x hx).pw (hFe _)⟩,by have:=g.n1; omega,by have:=g.n2; omega,by have:=g.n3; omega,g.eb⟩
end Go.Am
end

section
set_option linter.unusedVariables false
set_option linter.unusedSimpArgs false
open Go Go.Am Go.Proofs
namespace Go.Am
open Go.ChangeShapes Go.WideShapes Go.ChangeAt Go.RowKit
theorem bTn:Tryz.prog.cellsOf 24=2:=by kernel_rfl
theorem zU8:Tryz.prog.cellsOf 5=1:=by kernel_rfl
theorem zI8:Tryz.prog.cellsOf 57=1:=by kernel_rfl
theorem zA4:Tryz.prog.cellsOf 80=4:=by kernel_rfl
theorem zL4:Tryz.prog.cellsOf 22=1:=by kernel_rfl
theorem vW {n:Int} (h:(Lit.int .i8 n).wf=true):-128≤n∧n≤127:=by
 have hmin:IntKind.i8.min=-128:=rfl
 have hmax:IntKind.i8.max=127:=rfl
 simp only [Lit.wf,Bool.and_eq_true,decide_eq_true_eq] at h
 omega
theorem bLv {n:Int} (h:(Lit.int .u8 n).wf=true):0≤n∧n≤255:=by
 have hmin:IntKind.u8.min=0:=rfl
 have hmax:IntKind.u8.max=255:=rfl
 simp only [Lit.wf,Bool.and_eq_true,decide_eq_true_eq] at h
 omega
theorem bQu {α:Type} {l:List α} (h:l.length=4):∃ a b c d,l=[a,b,c,d]:=by
 match l,h with
 | [a,b,c,d],_=>exact ⟨a,b,c,d,rfl⟩
theorem bQv {α:Type} {l:List α} (h:l.length=2):∃ a b,l=[a,b]:=by
 match l,h with
 | [a,b],_=>exact ⟨a,b,rfl⟩
section
variable {H:Type} {enc:TypeId × Value→H} {w:World} {sp:Nat→Bool} {held:Bool}
set_option maxRecDepth 100000 in
theorem bPy {cs:List Value} {x:DataW H × List MemPlace} {fuel:Nat} (h:DataW.trod enc Tryz.prog w 0 sp held fuel 80 cs=some x) :
  ∃ y:Q4,y.ok∧(sL y).length=Tryz.prog.cellsOf 80∧∀ (k:Nat) (c:D) (v:Value),(sL y)[k]? = some c→cs[k]? = some v→VD (fun b=>b<w.heap.size) w c v:=by
 obtain ⟨xs,m,_,_,hcl,hxl,hx⟩:=DataW.trod_array Tryz.underlying80 h
 rw [zA4] at hcl
 obtain ⟨a,b,c,d,rfl⟩:=bQu hcl
 have h0:=hx 0 (by decide)
 have h1:=hx 1 (by decide)
 have h2:=hx 2 (by decide)
 have h3:=hx 3 (by decide)
 rw [zI8,List.getElem?_eq_getElem (by omega)] at h0 h1 h2 h3
 simp only [Nat.mul_one,Nat.zero_mul,Nat.one_mul,List.drop_zero,List.drop_succ_cons,List.take_succ_cons,List.take_zero] at h0 h1 h2 h3
 obtain ⟨i0,e0,_,w0⟩:=DataW.trod_int Tryz.underlying57 h0
 obtain ⟨i1,e1,_,w1⟩:=DataW.trod_int Tryz.underlying57 h1
 obtain ⟨i2,e2,_,w2⟩:=DataW.trod_int Tryz.underlying57 h2
 obtain ⟨i3,e3,_,w3⟩:=DataW.trod_int Tryz.underlying57 h3
 injection e0 with e0; injection e1 with e1; injection e2 with e2; injection e3 with e3
 subst e0; subst e1; subst e2; subst e3
 refine ⟨(i0,i1,i2,i3),⟨vW w0,vW w1,vW w2,vW w3⟩,by rw [zA4]; rfl,fun k c v hk hv=>?_⟩
 rcases k with _ | _ | _ | _ | k
 ·simp [sL] at hk hv; subst hk; subst hv; exact .i _ _
 ·simp [sL] at hk hv; subst hk; subst hv; exact .i _ _
 ·simp [sL] at hk hv; subst hk; subst hv; exact .i _ _
 ·simp [sL] at hk hv; subst hk; subst hv; exact .i _ _
 ·simp [sL] at hk
theorem aYx {v:Value} {d:DataW H} {ps:List MemPlace} {cs:Array Value} (hv:v=.agg cs) (h:DataW.Trod enc Tryz.prog w 0 sp held 24 v d ps) :
  ∃ (s:Int) (l:List Q4),VD (fun b=>b<w.heap.size) w (qT s l) v∧(0≤s∧s≤255)∧(∀ y∈l,y.ok)∧l.length≤9223372036854775807:=by
 subst hv
 obtain ⟨fuel,hf⟩:=h
 obtain ⟨xs,n,_,_,hl,hlen,hfs⟩:=DataW.trod_struct Tryz.underlying24 hf
 rw [bTn] at hl
 have h0:=hfs 0 { name := "S",type:=5,offset:=0,embedded:=false,tag := "",pkgPath := "",byteOffset:=0 } rfl
 have h1:=hfs 1 { name := "L",type:=22,offset:=1,embedded:=false,tag := "",pkgPath := "",byteOffset:=8 } rfl
 obtain ⟨x0,hx0⟩:∃ x,xs[0]? = some x:=⟨_,List.getElem?_eq_getElem (by rw [hlen]; decide)⟩
 obtain ⟨x1,hx1⟩:∃ x,xs[1]? = some x:=⟨_,List.getElem?_eq_getElem (by rw [hlen]; decide)⟩
 rw [hx0] at h0; rw [hx1] at h1
 simp only [Value.cells] at h0 h1 hl
 obtain ⟨cs⟩:=cs
 simp only at h0 h1 hl
 obtain ⟨a,b,rfl⟩:=bQv hl
 simp only [zU8,zL4,List.drop_zero,List.drop_succ_cons,List.take_succ_cons,List.take_zero] at h0 h1
 obtain ⟨i,e1,_,w1⟩:=DataW.trod_int Tryz.underlying5 h0
 obtain ⟨u,l,e2,hu,hg,hL⟩:=aTq Tryz.underlying22 (by rw [zA4]; decide) sL Q4.ok (fun fuel cs x h=>bPy h) h1
 injection e1 with e1; injection e2 with e2
 subst e1; subst e2
 refine ⟨i,l,.ag _ _ rfl fun k d v hk hv=>?_,bLv w1,hg,hL⟩
 rcases k with _ | _ | k
 ·simp at hk hv; subst hk; subst hv; exact .i _ _
 ·simp at hk hv; subst hk; subst hv; exact hu
 ·simp at hk
end
end Go.Am
namespace Go.Proofs.YthjopmmgepejkaaGreat
theorem bUy:ownKnob Tryz.prog.godebug=none:=by kernel_rfl
theorem bQx:laidOutB Tryz.prog=true:=by kernel_rfl
end Go.Proofs.YthjopmmgepejkaaGreat
end

section
set_option linter.unusedVariables false
set_option linter.unusedSimpArgs false
namespace Go.Am
variable {P:Program}
theorem aKb (f:FuncId) (cs:List Operand) (Γ:Nat→AV) (n:Nat):nev P (.makeFunc (.func f) #[] cs.toArray) Γ n=some (.fn f (cs.map (oev Γ)),none):=by
 simp [nev,eK]
theorem aZh (t : TypeId) (x i : Operand) (Γ : Nat → AV) (n : Nat) : nev P (.index t x i) Γ n = eK ((vZ P t).bind fun p => (tsz P p.2).bind fun sz => (cR P p.2).bind fun ag => (gL (oev Γ i)).bind fun k => (aDb (oev Γ x)).bind fun cs =>
      if 0≤k∧k<p.1 then (if ag then (if k.toNat * sz+sz≤cs.length then some (.ag ((cs.drop (k.toNat * sz)).take sz)) else none) else cs[k.toNat * sz]?) else none):=rfl
theorem bNt (f:FuncId) (cs:List D):inj (.fn f cs)=.d (.fn f cs):=rfl
theorem bIo (f:FuncId) (cs:List D):aT (.fn f cs)=.d (.fn f cs):=rfl
theorem bIn (cs:List D):aT (.pt cs)=.fp cs:=rfl
theorem bBd (v:Value):aT (.lit v)=.d (.lit v):=rfl
theorem bAm (H:Nat→Option HO) (avs:List AV) (f:FuncId) (cs:List D):bX H avs (.fn f cs)=gD H avs:=rfl
theorem bAl (H:Nat→Option HO) (avs:List AV) (cs:List D):bX H avs (.pt cs)=gD H avs:=rfl
theorem aOw (f:FuncId) (cs:List AV):jB (.fn f cs)=some (f,cs):=rfl
theorem aLn (f:FuncId) (cs:List D):jB (.d (.fn f cs))=some (f,cs.map aT):=rfl
theorem aLm (f:FuncId):jB (.d (.lit (.func (.func f) #[] #[])))=some (f,[]):=rfl
theorem bIw (H:Nat→Option HO) (n:Nat) (f:FuncId) (cs:List AV):frz H (n+1) (.fn f cs)=(cs.mapM (frz H n)).map (.fn f):=rfl
theorem bIv (H:Nat→Option HO) (n:Nat) (cs:List D):frz H (n+1) (.fp cs)=some (.pt cs):=rfl
theorem aLc (H : Nat → Option HO) (n : Nat) (id off : Nat) : frz H (n + 1) (.ptr id off) = match H id with
      | some (.cells _ cs)=>if off≤cs.length then ((cs.drop off).mapM (frz H n)).map .pt else none
      | _=>none:=rfl
theorem bFh (H:Nat→Option HO) (n:Nat) (f:FuncId) (cs:List AV):vis H (n+1) (.fn f cs)=cs.flatMap (vis H n):=rfl
theorem bFg (H:Nat→Option HO) (n:Nat) (cs:List D):vis H (n+1) (.fp cs)=[]:=rfl
theorem aHw (H : Nat → Option HO) (n : Nat) (id off : Nat) : vis H (n + 1) (.ptr id off) = match H id with
      | some (.cells _ cs)=>id::(cs.drop off).flatMap (vis H n)
      | _=>[]:=rfl
theorem aVk (f:FuncId) (cs:List AV):eG (.fn f cs)=some [.fn f cs]:=rfl
theorem aOu (f:FuncId) (cs:List D):eG (.d (.fn f cs))=some [.d (.fn f cs)]:=rfl
theorem aXj (l:List Nat) (f:FuncId) (cs:List AV):jI l (.fn f cs)=.fn f (cs.map (aFx l)):=rfl
section
variable (dst:Option Tmp) (ty:TypeId) (pos:String) (after:Array Edge) (guard:Option (Nat × Bool)) (σ:St) (con:List Nat) (k:St→List Nat→Prop)
theorem fN (f:Fn) (x y:Array Operand) (d:Dm ((⟨dst,.makeFunc f x y,ty,pos,after,guard⟩:Oper),k)):O1d P ⟨dst,.makeFunc f x y,ty,pos,after,guard⟩ σ con k d=dE (nev P (.makeFunc f x y) σ.Γ σ.n) (fun p=>k ⟨bO σ.Γ dst p.1,iN σ.H σ.n p.2,cnt p.2 σ.n⟩ con) .mk:=cM rfl rfl
theorem jW (t:TypeId) (x y:Operand) (d:Dm ((⟨dst,.index t x y,ty,pos,after,guard⟩:Oper),k)):O1d P ⟨dst,.index t x y,ty,pos,after,guard⟩ σ con k d=dE (nev P (.index t x y) σ.Γ σ.n) (fun p=>k ⟨bO σ.Γ dst p.1,iN σ.H σ.n p.2,cnt p.2 σ.n⟩ con) .mk:=cM rfl rfl
def bEr (P:Program) (c:Option (FuncId × List AV)) (avs:List AV) (H:Nat→Option HO) (k:List AV→D→Prop) (_:Dm k):Prop:=match c with
 | some (f,cs)=>∃ ds r,gN H (avs++cs)=some ds∧Spec P f ds r∧k (avs++cs) r
 | none=>False
theorem xO {f:FuncId} {cs avs:List AV} {H:Nat→Option HO} {k:List AV→D→Prop} {d:Dm k} {ds:List D} {r:D} (h1:gN H (avs++cs)=some ds) (h2:Spec P f ds r) (h3:k (avs++cs) r):bEr P (some (f,cs)) avs H k d:=⟨ds,r,h1,h2,h3⟩
theorem jX (t:Tmp) (args:List Operand) (ts:Array TypeId) (d:Dm ((⟨dst,.call ⟨.value (.tmp t),args.toArray,ts⟩,ty,pos,after,guard⟩:Oper),k)):O1d P ⟨dst,.call ⟨.value (.tmp t),args.toArray,ts⟩,ty,pos,after,guard⟩ σ con k d =
  bEr P (jB (σ.Γ t)) (args.map (oev σ.Γ)) σ.H (fun avs r=>k ⟨bO σ.Γ dst (inj r),kill (bX σ.H avs r) σ.H,σ.n⟩ (bX σ.H avs r++con)) .mk:=by
 unfold O1d; simp only [O1,bEr]
 cases jB (σ.Γ t) with
 | none=>rfl
 | some p=>obtain ⟨f,cs⟩:=p; rfl
end
attribute [simp] aKb aZh bNt bIo bIn bBd aOw aLn aLm bIw bIv aLc bFh bFg aHw aVk aOu aXj bAm bAl
end Go.Am
end

section
set_option linter.unusedVariables false
set_option linter.unusedSimpArgs false
open List (map_map mapM_map)
open Go Go.Am Go.Proofs
namespace Go.Am
@[simp] theorem bTl (k:IntKind) (n:Int):xK (.i k n)=true:=rfl
@[simp] theorem bTm (x:Bool):xK (.b x)=true:=rfl
theorem bUv {t:Nat}:jD .shr .u64 (t:Int) 1=some (.i .u64 ((t / 2:Nat):Int)):=by
 have:min 1 IntKind.u64.bits=1:=rfl
 simp only [jD]
 rw [if_neg (by decide),show (1:Int).toNat=1 from rfl,this,Int.fdiv_eq_ediv_of_nonneg _ (by decide)]
 congr 2
theorem tO (f:FuncId):eG (.d (.lit (.func (.func f) #[] #[])))=some [.d (.lit (.func (.func f) #[] #[]))]:=rfl
theorem yQ (Γ:Nat→AV) (f:FuncId):oev Γ (.func f)=.d (.lit (.func (.func f) #[] #[])):=rfl
theorem aQh (x:Cl) (n:Int):Spec Tryz.prog 124 [.ag (aZ x),.i .i64 n] (.i .i64 (kE x.id n)):=by
 refine aY (N:=9) aF Tryz.func124 rfl rfl rfl (by kernel_rfl) (by kernel_rfl) (by simp) ?_
 have hS:=aOl x.id n
 simp [-map_map,-mapM_map,↓KW,aZ,aE,aB,aC]
 refine aA (ds:=[.i .i64 x.id,.i .i64 n]) (by rfl) hS ?_
 simp [-map_map,-mapM_map,↓KW,]
def aJg (c:List Cl) (n:Int):Nat:=c.countP fun x=>decide (x.id<n)
theorem aQg {c:List Cl} {n:Int} {i:Nat} (hi:i≤c.length) (h1:∀ k x,k<i→c[k]? = some x→x.id<n) (h2:∀ k x,i≤k→c[k]? = some x→n≤x.id):aJg c n=i:=by
 unfold aJg
 conv=>lhs; rw [← List.take_append_drop i c]
 rw [List.countP_append]
 have e1:(c.take i).countP (fun x=>decide (x.id<n))=(c.take i).length:=by
  rw [List.countP_eq_length]
  intro x hx
  obtain ⟨k,hk,rfl⟩:=List.getElem_of_mem hx
  rw [List.length_take] at hk
  exact decide_eq_true (h1 k _ (by omega) (by rw [List.getElem_take,List.getElem?_eq_getElem]))
 have e2:(c.drop i).countP (fun x=>decide (x.id<n))=0:=by
  rw [List.countP_eq_zero]
  intro x hx
  obtain ⟨k,hk,rfl⟩:=List.getElem_of_mem hx
  rw [List.length_drop] at hk
  have:=h2 (i+k) (c[i+k]'(by omega)) (by omega) (List.getElem?_eq_getElem _)
  rw [List.getElem_drop]; simp; omega
 rw [e1,e2,List.length_take]; omega
theorem bBx {c:List Cl} {n:Int} {i:Nat} (h1:∀ k x,k<i→c[k]? = some x→x.id<n) (h2:∀ k x,i≤k→c[k]? = some x→n≤x.id) (hc:Inc c):(∀ x,c[i]? = some x→bT c n=if x.id=n then some x else none)∧(c[i]? = none→bT c n=none):=by
 have hn:∀ x,c[i]? = some x→x.id≠n→bT c n=none:=fun x hx hne=>by
  cases e:bT c n with
  | none=>rfl
  | some y =>
   obtain ⟨hy,he⟩:=dQ e
   obtain ⟨k,hk,rfl⟩:=List.getElem_of_mem hy
   exfalso
   rcases Nat.lt_trichotomy k i with h | h | h
   ·have:=h1 k _ h (List.getElem?_eq_getElem hk); omega
   ·subst h; rw [List.getElem?_eq_getElem hk] at hx; injection hx with hx; subst hx; exact hne he
   ·have hi:i<c.length:=(List.getElem?_eq_some_iff.1 hx).1
    have g1:=h2 i x (Nat.le_refl _) hx
    have g2:=(List.pairwise_iff_getElem.1 hc) i k hi hk h
    rw [List.getElem?_eq_getElem hi] at hx; injection hx with hx; subst hx
    omega
 refine ⟨fun x hx=>?_,fun hx=>?_⟩
 ·by_cases he:x.id=n
  ·rw [if_pos he,← he]; exact hc.find (List.mem_of_getElem? hx)
  ·rw [if_neg he]; exact hn x hx he
 ·cases e:bT c n with
  | none=>rfl
  | some y =>
   obtain ⟨hy,he⟩:=dQ e
   obtain ⟨k,hk,rfl⟩:=List.getElem_of_mem hy
   have:=h1 k _ (by have:=List.getElem?_eq_none_iff.1 hx; omega) (List.getElem?_eq_getElem hk)
   omega
set_option maxHeartbeats 2000000 in
set_option maxRecDepth 10000 in
theorem bKc {c:List Cl} (hc:Inc c) (n:Int) (hl:c.length≤1000000):Spec Tryz.prog 123 [aI c,.i .i64 n,.lit (.func (.func 124) #[] #[])] (.tp [.i .i64 (aJg c n),.b (bT c n).isSome]):=by
 refine aY (N:=49) aF Tryz.func123 rfl rfl rfl (by kernel_rfl) (by kernel_rfl) (by simp) ?_
 simp [-map_map,-mapM_map,↓KW,↓jZ,↓fN,↓jW,↓jX,aI]
 refine aU (fun p:Nat × Nat=>p.1≤p.2∧p.2≤c.length∧(∀ k x,k<p.1→c[k]? = some x→x.id<n)∧(∀ k x,p.2≤k→c[k]? = some x→n≤x.id)) (fun p=>StL [(0,.d (aI c)),(1,.d (.i .i64 n)),(2,.d (.lit (.func (.func 124) #[] #[]))),(8,.d (.i .i64 (c.length:Int))),(9,.d (.i .i64 (p.1:Int))),(10,.d (.i .i64 (p.2:Int)))] none []) (fun p=>p.2 - p.1) (0,c.length) ⟨Nat.zero_le _,Nat.le_refl _,fun k x h=>by omega,fun k x h hx=>by have:=(List.getElem?_eq_some_iff.1 hx).1; omega⟩ ?_ ?_
 ·refine bC [] (by simp) ?_ ?_ <;> simp [-map_map,upd,aT,Γ0,aI]
 ·rintro ⟨i,j⟩ ⟨hij,hj,h1,h2⟩
  simp only at hij hj h1 h2
  by_cases hgo:i<j
  ·have q1:(i:Int)<j:=by omega
   have hw1:IntKind.i64.wrap ((i:Int)+j)=((i+j:Nat):Int):=by rw [aS (by omega) (by omega)]; omega
   have hw2:IntKind.u64.wrap ((i+j:Nat):Int)=((i+j:Nat):Int):=bK (by omega) (by omega)
   have hh:(i+j) / 2<c.length:=by omega
   have hw3:IntKind.i64.wrap (((i+j) / 2:Nat):Int)=(((i+j) / 2:Nat):Int):=aS (by omega) (by omega)
   have hw4:IntKind.i64.wrap ((((i+j) / 2:Nat):Int)+1)=(((i+j) / 2+1:Nat):Int):=by rw [aS (by omega) (by omega)]; omega
   have hm1:i≤(i+j) / 2:=by omega
   have hm2:(i+j) / 2<j:=by omega
   have hx:c[(i+j) / 2]? = some c[(i+j) / 2]:=List.getElem?_eq_getElem hh
   have hsh:=@bUv (i+j)
   have q0:(0:Int)≤(((i+j) / 2:Nat):Int):=by omega
   generalize (i+j) / 2=m at *
   have hS:=aQh c[m] n
   have hlt:∀ k x,k<m→c[k]? = some x→x.id<c[m].id:=fun k x hk hkx=>by
    have h0:k<c.length:=by omega
    rw [List.getElem?_eq_getElem h0] at hkx; injection hkx with hkx; subst hkx
    exact (List.pairwise_iff_getElem.1 hc) k m h0 hh hk
   have hgt:∀ k x,m<k→c[k]? = some x→c[m].id<x.id:=fun k x hk hkx=>by
    have h0:k<c.length:=(List.getElem?_eq_some_iff.1 hkx).1
    rw [List.getElem?_eq_getElem h0] at hkx; injection hkx with hkx; subst hkx
    exact (List.pairwise_iff_getElem.1 hc) m k hh h0 hk
   generalize i+j=s at *
   generalize hxm:c[m]=x at *
   simp [-map_map,-mapM_map,↓KW,↓jZ,↓fN,↓jW,↓jX,aI,aZ,q1,hw1,hw2,hw3,hsh,hx,q0,aE,aB,aC,tO,yQ]
   refine xO (ds:=[.ag (aZ x),.i .i64 n]) (by rfl) hS ?_
   by_cases hlx:x.id<n
   ·have e:kE x.id n=-1:=by unfold kE; rw [if_pos hlx]
    rw [e]
    simp [-map_map,-mapM_map,↓KW,↓jZ,↓fN,↓jW,↓jX,hw4]
    refine aK (m+1,j) ⟨by simp only; omega,hj,fun k y hk hky=>?_,h2⟩ (by simp only; omega) (bC [] (by simp) ?_ ?_)
    ·simp only at hk
     rcases Nat.lt_or_ge k m with h | h
     ·have:=hlt k y h hky; omega
     ·rw [show k=m by omega,hx] at hky; injection hky with hky; rw [← hky]; exact hlx
    ·simp [-map_map,upd,aT,Γ0,aI]
    ·trivial
   ·have e:¬ kE x.id n<0:=by unfold kE; rw [if_neg hlx]; split <;> omega
    generalize kE x.id n=r at *
    simp [-map_map,-mapM_map,↓KW,↓jZ,↓fN,↓jW,↓jX,e]
    refine aK (i,m) ⟨by simp only; omega,by simp only; omega,h1,fun k y hk hky=>?_⟩ (by simp only; omega) (bC [] (by simp) ?_ ?_)
    ·simp only at hk
     rcases Nat.lt_or_ge m k with h | h
     ·have:=hgt k y h hky; omega
     ·rw [show k=m by omega,hx] at hky; injection hky with hky; rw [← hky]; omega
    ·simp [-map_map,upd,aT,Γ0,aI]
    ·trivial
  ·have q1:¬ (i:Int)<j:=by omega
   have hje:j=i:=by omega
   subst hje
   have hp:=aQg hj h1 h2
   obtain ⟨f1,f2⟩:=bBx h1 h2 hc
   rw [hp]
   by_cases hin:j<c.length
   ·have q2:(j:Int)<c.length:=by omega
    have hx:c[j]? = some c[j]:=List.getElem?_eq_getElem hin
    have hS:=aQh c[j] n
    have f3:=f1 _ hx
    have q0:(0:Int)≤(j:Int):=by omega
    generalize c[j]=x at *
    simp [-map_map,-mapM_map,↓KW,↓jZ,↓fN,↓jW,↓jX,aI,aZ,q1,q2,hx,aE,aB,aC,tO,yQ]
    refine xO (ds:=[.ag (aZ x),.i .i64 n]) (by rfl) hS ?_
    have e:((kE x.id n == 0):Bool)=(bT c n).isSome:=by
     rw [f3]
     unfold kE
     by_cases h:x.id=n
     ·rw [if_pos h]; simp [h]
     ·rw [if_neg h]
      split
      ·rfl
      ·split
       ·rfl
       ·omega
    rw [← e]
    generalize kE x.id n=r at *
    simp [-map_map,-mapM_map,↓KW,↓jZ,↓fN,↓jW,↓jX,aI,mG]
   ·have q2:¬ (j:Int)<c.length:=by omega
    have f3:=f2 (List.getElem?_eq_none (by omega))
    rw [f3]
    simp [-map_map,-mapM_map,↓KW,↓jZ,↓fN,↓jW,↓jX,aI,aZ,q1,q2,aE,aB,aC,tO,yQ,mG]
theorem bIz {c:List Cl} (hc:Inc c) {n:Int} {x:Cl} (h:bT c n=some x):c[aJg c n]? = some x:=by
 obtain ⟨hx,he⟩:=dQ h
 obtain ⟨k,hk,rfl⟩:=List.getElem_of_mem hx
 have hp:aJg c n=k:=aQg (by omega) (fun j y hj hy=>by
   have h0:j<c.length:=(List.getElem?_eq_some_iff.1 hy).1
   rw [List.getElem?_eq_getElem h0] at hy; injection hy with hy; subst hy
   have:=(List.pairwise_iff_getElem.1 hc) j k h0 hk hj; omega) (fun j y hj hy=>by
   have h0:j<c.length:=(List.getElem?_eq_some_iff.1 hy).1
   rw [List.getElem?_eq_getElem h0] at hy; injection hy with hy; subst hy
   rcases Nat.lt_or_ge k j with h | h
   ·have:=(List.pairwise_iff_getElem.1 hc) k j hk h0 h; omega
   ·have:j=k:=by omega
    subst this; omega)
 rw [hp]; exact List.getElem?_eq_getElem hk
set_option maxRecDepth 10000 in
theorem bJo {c:List Cl} (hc:Inc c) (n:Int) (hl:c.length≤1000000):Spec Tryz.prog 90 [aI c,.i .i64 n] (.tp [.i .i64 (aJg c n),.b (bT c n).isSome]):=by
 refine aY (N:=11) aF Tryz.func90 rfl rfl rfl (by kernel_rfl) (by kernel_rfl) (by simp) ?_
 have hS:=bKc hc n hl
 simp [-map_map,-mapM_map,↓KW,↓jZ,↓fN,↓jW,↓jX,aI,yQ]
 refine aA (ds:=[aI c,.i .i64 n,.lit (.func (.func 124) #[] #[])]) (by rfl) hS ?_
 simp [-map_map,-mapM_map,↓KW,↓jZ,↓fN,↓jW,↓jX,mG]
set_option maxRecDepth 10000 in
theorem aBt {c:List Cl} (hc:Inc c) (n:Int) (hl:c.length≤1000000):Spec Tryz.prog 44 [aI c,.i .i64 n] (wP c n):=by
 refine aY (N:=21) aF Tryz.func44 rfl rfl rfl (by kernel_rfl) (by kernel_rfl) (by simp) ?_
 have hS:=bJo hc n hl
 unfold wP
 simp [-map_map,-mapM_map,↓KW,aI]
 refine aA (ds:=[aI c,.i .i64 n]) (by rfl) hS ?_
 cases hf:bT c n with
 | none=>simp [-map_map,-mapM_map,↓KW,aI,aZ,qK,aM,mG]
 | some x =>
  have hx:=bIz hc hf
  have q0:(0:Int)≤(aJg c n:Int):=by omega
  generalize aJg c n=p at *
  simp [-map_map,-mapM_map,↓KW,aI,aZ,hx,q0,aE,aB,aC,mG]
end Go.Am
end

section
set_option linter.unusedVariables false
set_option linter.unusedSimpArgs false
open List (map_map mapM_map)
open Go Go.Am Go.Proofs
namespace Go.Am
theorem aVd (m n:Nat):oL (aV m) (aV n)=0↔m=n:=by
 unfold oL
 rw [jE,jE]
 by_cases h1:m<n
 ·simp [h1]; omega
 ·by_cases h2:n<m
  ·simp [h1,h2]; omega
  ·simp [h1,h2]; omega
theorem bCq (a b:List Nat):-1≤oL a b∧oL a b≤1:=by
 unfold oL
 split
 ·exact ⟨by decide,by decide⟩
 ·split <;> exact ⟨by decide,by decide⟩
theorem yW (x y:Int) (hx:Sz x) (hy:Sz y):∃ r:Int,Spec Tryz.prog 60 [encZ x,encZ y] (.i .i64 r)∧(r=0↔x=y):=by
 have hSx:=aAu x hx
 have hSy:=aAu y hy
 have hTx:=nH (aV x.natAbs) (Nat.le_trans hx (by decide))
 have hTy:=nH (aV y.natAbs) (Nat.le_trans hy (by decide))
 rw [qB (mR _)] at hTx hTy
 have hC:=aAv (aV x.natAbs) (aV y.natAbs) (cD _) (cD _) (Nat.le_trans hx (by decide)) (Nat.le_trans hy (by decide))
 have hc0:=aVd x.natAbs y.natAbs
 have hcb:=bCq (aV x.natAbs) (aV y.natAbs)
 have hI:=aOl x.sign y.sign
 by_cases hs:x.sign=y.sign
 ·refine ⟨x.sign * oL (aV x.natAbs) (aV y.natAbs),?_,?_⟩
  rotate_left
  ·rw [Int.mul_eq_zero,hc0]
   constructor
   ·rintro (h | h)
    ·have h1:=Int.sign_eq_zero_iff_zero.1 h
     have h2:=Int.sign_eq_zero_iff_zero.1 (hs ▸ h)
     omega
    ·rw [← Int.sign_mul_natAbs x,← Int.sign_mul_natAbs y,hs,h]
   ·rintro rfl; exact .inr rfl
  ·refine aY (N:=26) aF Tryz.func60 rfl rfl rfl (by kernel_rfl) (by kernel_rfl) (by simp) ?_
   have hne:((x.sign != y.sign):Bool)=false:=by simp [hs]
   have hsb:-1≤x.sign∧x.sign≤1:=by
    rcases Int.lt_trichotomy x 0 with h | h | h
    ·rw [Int.sign_eq_neg_one_of_neg h]; decide
    ·subst h; decide
    ·rw [Int.sign_eq_one_of_pos h]; decide
   generalize oL (aV x.natAbs) (aV y.natAbs)=r at *
   generalize y.sign=sy at *
   generalize x.sign=sx at *
   have hw:IntKind.i64.wrap (sx * r)=sx * r:=by
    have h1:sx=-1∨sx=0∨sx=1:=by omega
    rcases h1 with rfl | rfl | rfl <;> exact aS (by omega) (by omega)
   simp [-map_map,-mapM_map,↓KW,bI,aD,aJ,aP,bH,aX]
   refine aA (ds:=[encZ x]) (by rfl) hSx ?_
   simp [-map_map,-mapM_map,↓KW,bI,aD,aJ,aP,bH,aX]
   refine aA (ds:=[encZ y]) (by rfl) hSy ?_
   simp [-map_map,-mapM_map,↓KW,hne,aD,aJ,aP,bH,aX]
   refine aA (ds:=[aG (aV x.natAbs)]) (by rfl) hTx ?_
   simp [-map_map,-mapM_map,↓KW,aD,aJ,aP,bH,aX]
   refine aA (ds:=[aG (aV y.natAbs)]) (by rfl) hTy ?_
   simp [-map_map,-mapM_map,↓KW,aD,aJ,aP,bH,aX]
   refine aA (ds:=[aG (aV x.natAbs),aG (aV y.natAbs)]) (by rfl) hC ?_
   simp [-map_map,-mapM_map,↓KW,hw,aD,aJ,aP,bH,aX]
 ·refine ⟨kE x.sign y.sign,?_,?_⟩
  rotate_left
  ·unfold kE
   constructor
   ·intro h
    exfalso
    split at h
    ·cases h
    ·split at h
     ·cases h
     ·omega
   ·rintro rfl; exact (hs rfl).elim
  ·refine aY (N:=26) aF Tryz.func60 rfl rfl rfl (by kernel_rfl) (by kernel_rfl) (by simp) ?_
   have hne:((x.sign != y.sign):Bool)=true:=by simpa using hs
   generalize y.sign=sy at *
   generalize x.sign=sx at *
   simp [-map_map,-mapM_map,↓KW,bI,aD,aJ,aP,bH,aX]
   refine aA (ds:=[encZ x]) (by rfl) hSx ?_
   simp [-map_map,-mapM_map,↓KW,bI,aD,aJ,aP,bH,aX]
   refine aA (ds:=[encZ y]) (by rfl) hSy ?_
   simp [-map_map,-mapM_map,↓KW,hne,aD,aJ,aP,bH,aX]
   refine aA (ds:=[.i .i64 sx,.i .i64 sy]) (by rfl) hI ?_
   simp [-map_map,-mapM_map,↓KW,]
end Go.Am
end

section
set_option linter.unusedVariables false
set_option linter.unusedSimpArgs false
open List (map_map mapM_map)
open Go Go.Am Go.Proofs
namespace Go.Am
theorem yX (x:Int) (hx:Sz x):Spec Tryz.prog 61 [encZ x] (encZ x.natAbs):=by
 have hC:=aOm (aV x.natAbs) (Nat.le_trans hx (by decide))
 have hV:=mD (cD x.natAbs) (Nat.le_trans hx (by decide)) false
 rw [cQ] at hV
 refine aY (N:=7) aF Tryz.func61 rfl rfl rfl (by kernel_rfl) (by kernel_rfl) (by simp) ?_
 simp [-map_map,-mapM_map,↓KW,bI,aD,aJ,aP,bH,aX]
 refine aA (ds:=[aG (aV x.natAbs)]) (by rfl) hC ?_
 simp [-map_map,-mapM_map,↓KW,bI,aD,aJ,aP,bH,aX]
 refine aA (ds:=[.b false,aG (aV x.natAbs)]) (by rfl) hV ?_
 simp [-map_map,-mapM_map,↓KW,bI,sg,aD,aJ,aP,bH,aX]
theorem bIl (x:Int) (hx:Sz x):Spec Tryz.prog 82 [encZ x] (encZ (-x)):=by
 have hC:=aOm (aV x.natAbs) (Nat.le_trans hx (by decide))
 have hV:=mD (cD x.natAbs) (Nat.le_trans hx (by decide)) (!decide (x<0))
 rw [cQ] at hV
 have e:sg (!decide (x<0)) x.natAbs=-x:=by
  unfold sg
  by_cases h:x<0
  ·simp [h]; omega
  ·simp [h]; omega
 rw [e] at hV
 refine aY (N:=10) aF Tryz.func82 rfl rfl rfl (by kernel_rfl) (by kernel_rfl) (by simp) ?_
 simp [-map_map,-mapM_map,↓KW,bI,aD,aJ,aP,bH,aX]
 refine aA (ds:=[aG (aV x.natAbs)]) (by rfl) hC ?_
 simp [-map_map,-mapM_map,↓KW,bI,aD,aJ,aP,bH,aX]
 refine aA (ds:=[.b !decide (x<0),aG (aV x.natAbs)]) (by rfl) hV ?_
 simp [-map_map,-mapM_map,↓KW,bI,aD,aJ,aP,bH,aX]
theorem bOi:encZ 1=.ag [.b false,.sl [[.i .u32 1]]]:=by
 have h:aV 1=[1]:=by rw [gR (by decide)]; simp [cE]
 simp [encZ,encI,aG,h]
theorem bJl:encZ (-1)=.ag [.b true,.sl [[.i .u32 1]]]:=by
 have h:aV 1=[1]:=by rw [gR (by decide)]; simp [cE]
 simp [encZ,encI,aG,h]
theorem tG:Spec Tryz.prog 62 [.i .i64 1] (encZ 1):=by
 rw [bOi]
 exact (yK (fuel:=100) aF bEp 20).call 62 [.i .i64 1] (.ag [.b false,.sl [[.i .u32 1]]]) (by kernel_rfl)
theorem bIk:Spec Tryz.prog 62 [.i .i64 (-1)] (encZ (-1)):=by
 rw [bJl]
 exact (yK (fuel:=100) aF bEp 20).call 62 [.i .i64 (-1)] (.ag [.b true,.sl [[.i .u32 1]]]) (by kernel_rfl)
end Go.Am
end

section
set_option linter.unusedVariables false
set_option linter.unusedSimpArgs false
open List (map_map mapM_map)
open Go Go.Am Go.Proofs
namespace Go.Am
/-! Chain maps -/
abbrev Ch:=List (Int × Int)
def lG (p:Int × Ch):List D:=[.i .i64 p.1,aM p.2]
def bJ (m:List (Int × Ch)):D:=.sl (m.map lG)
def pE (g:List (Int × Ch)):D:=.mp .i64 (g.map (·.1)) (g.map fun p=>aM p.2)
def mX (g:List (Int × Ch)) (n:Int):Option Ch:=(g.find? fun p=>decide (p.1=n)).map (·.2)
def fQ (c:List Cl) (g:List (Int × Ch)):List (Int × Ch):=c.map fun x=>(x.id,(mX g x.id).getD [(x.id,1)])
theorem sz1:Sz 1:=by unfold Sz; rw [show (1:Int).natAbs=1 from rfl,gR (by decide)]; simp [cE]
theorem bCd (n z:Int):aM [(n,z)]=.sl [[.i .i64 n,.b (decide (z<0)),aG (aV z.natAbs)]]:=rfl
set_option maxRecDepth 10000 in
theorem aAn (n:Int):Spec Tryz.prog 48 [.i .i64 n] (aM [(n,1)]):=by
 refine aY (N:=7) aF Tryz.func48 rfl rfl rfl (by kernel_rfl) (by kernel_rfl) (by simp) ?_
 have hS:=tG
 rw [bCd]
 simp [-map_map,-mapM_map,↓KW,aM]
 refine aA (ds:=[.i .i64 1]) (by rfl) hS ?_
 simp [-map_map,-mapM_map,↓KW,bI,aD,aJ,aP,bH,aX]
theorem aUd (g:List (Int × Ch)) (n:Int):nY (aCv (g.map (·.1)) (g.map fun p=>aM p.2)) n=(mX g n).map fun y=>.d (aM y):=by
 unfold mX nY aCv
 induction g with
 | nil=>rfl
 | cons p g ih =>
  simp only [List.map_cons,List.zip_cons_cons,fX,List.find?_cons]
  by_cases h:p.1=n
  ·simp [h,aC]
  ·rw [if_neg h,decide_eq_false h]
   simp only [Option.bind_map]
   rw [← ih]; rfl
end Go.Am
end

section
set_option linter.unusedVariables false
set_option linter.unusedSimpArgs false
open Go Go.Am Go.Proofs
namespace Go.Am
def grS (t:Nat) (sl:List (Nat × AV)) (e:TypeId) (sz:Nat) (n:Nat) (cells:List D):St:=match n with
 | 0=>StL ((t,.nil)::sl) none []
 | n+1=>StL ((t,.own 1 0 (n+1) sz)::sl) none [.cells e (cells.map .d)]
end Go.Am
end

section
set_option linter.unusedVariables false
set_option linter.unusedSimpArgs false
open List (map_map mapM_map)
open Go Go.Am Go.Proofs
namespace Go.Am
/-! Rows of elements of one size -/
theorem bCr {k:Nat} (hk:0<k) (l:List (List D)) (h:∀ x∈l,x.length=k):chunk k l.length l.flatten=l:=by
 induction l with
 | nil=>rfl
 | cons a l ih =>
  have ha:=h a (List.mem_cons_self ..)
  have:=ih fun x hx=>h x (List.mem_cons_of_mem _ hx)
  unfold chunk at this ⊢
  rw [List.length_cons,List.range_succ_eq_map,List.map_cons,List.map_map,List.flatten_cons]
  congr 1
  ·simp [← ha]
  ·conv=>rhs; rw [← this]
   apply List.map_congr_left
   intro i _
   simp only [Function.comp]
   rw [show Nat.succ i * k=a.length+i * k from by rw [Nat.succ_mul,ha,Nat.add_comm],List.drop_append,List.drop_eq_nil_of_le (by omega)]
   simp
def flt {α:Type} (f:α→List D) (l:List α):List D:=(l.map f).flatten
theorem zA {α:Type} (f:α→List D):flt f []=[]:=rfl
theorem dC {α:Type} (f:α→List D) (x:α):flt f [x]=f x:=by simp [flt]
theorem dW {α:Type} (f:α→List D) (a b:List α):flt f (a++b)=flt f a++flt f b:=by simp [flt]
theorem bY {α:Type} {f:α→List D} {k:Nat} (h:∀ x,(f x).length=k) (l:List α):(flt f l).length=l.length * k:=by
 unfold flt
 induction l with
 | nil=>simp
 | cons x l ih=>rw [List.map_cons,List.flatten_cons,List.length_append,ih,h,List.length_cons,Nat.succ_mul]; omega
theorem eB {α:Type} {f:α→List D} (h:∀ x,((f x).map AV.d).all one=true) (l:List α):((flt f l).map AV.d).all one=true:=by
 unfold flt
 induction l with
 | nil=>rfl
 | cons x l ih=>rw [List.map_cons,List.flatten_cons,List.map_append,List.all_append,h,ih]; rfl
theorem dX {α:Type} {f:α→List D} {k:Nat} (hk:0<k) (h:∀ x,(f x).length=k) {l:List α} {n:Nat} (hn:l.length=n):chunk k n (flt f l)=l.map f:=by
 have:=bCr hk (l.map f) fun x hx=>by obtain ⟨y,_,rfl⟩:=List.mem_map.1 hx; exact h y
 rwa [List.length_map,hn] at this
theorem eL {α:Type} {f:α→List D} {k:Nat} (h:∀ x,(f x).length=k) {l:List α} {n:Nat} (hn:l.length=n):((flt f l).map AV.d).take (n * k)=(flt f l).map AV.d:=List.take_of_length_le (by rw [List.length_map,bY h,hn]; exact Nat.le_refl _)
theorem bN (x:Cl):aZ x=[.i .i64 x.id,.i .i64 x.dim,aM x.b]:=rfl
theorem dY (x:Int × Ch):(lG x).length=2:=rfl
theorem wS (x:Int × Ch):((lG x).map AV.d).all one=true:=rfl
theorem gA (x:Int × Ch):lG x=[.i .i64 x.1,aM x.2]:=rfl
def lkV:Option Ch→AV
 | some y=>.tp [.d (aM y),.d (.b true)]
 | none=>.tp [.nil,.d (.b false)]
theorem aKm (g:List (Int × Ch)) (H:Nat→Option HO) (n:Int):lN Tryz.prog H 92 (.d (pE g)) (.d (.i .i64 n)) true=some (lkV (mX g n)):=by
 have h1:tmp Tryz.prog 92=some (3,45):=by kernel_rfl
 have h2:gX Tryz.prog 3=some .i64:=by kernel_rfl
 have h3:tz Tryz.prog 45=some (.slice none 0 0):=by kernel_rfl
 show xI Tryz.prog 92 .i64 (aCv (g.map (·.1)) (g.map fun p=>aM p.2)) (.d (.i .i64 n)) true=_
 simp only [xI,aUd]
 cases mX g n <;> simp [h1,h2,h3,lkV,cv,cv1]
theorem aEi {c:List Cl} {i:Nat} (h:i<c.length) (g:List (Int × Ch)):fQ (c.take (i+1)) g=fQ (c.take i) g++[(c[i].id,(mX g c[i].id).getD [(c[i].id,1)])]:=by
 unfold fQ
 rw [List.take_add_one,List.getElem?_eq_getElem h,List.map_append]; rfl
set_option maxHeartbeats 2000000 in
set_option maxRecDepth 10000 in
theorem nZ (c:List Cl) (g:List (Int × Ch)) (G:D) (hG:aT G=.d G) (hlk:∀ H n,lN Tryz.prog H 92 (.d G) (.d (.i .i64 n)) true=some (lkV (mX g n))) (hl:c.length≤1000000):Spec Tryz.prog 47 [aI c,G] (bJ (fQ c g)):=by
 refine aY (N:=37) aF Tryz.func47 rfl rfl rfl (by kernel_rfl) (by kernel_rfl) (by simp) ?_
 simp [-map_map,-mapM_map,↓KW,aI,hG]
 refine aU (fun y:Nat × List (Int × Ch)=>y.1≤c.length∧y.2.length=y.1∧fQ (c.take y.1) g=y.2) (fun y=>grS 5 [(0,.d (aI c)),(1,.d G),(10,.d (aI c)),(11,.d (.i .i64 c.length)),(12,.d (.i .i64 (y.1:Int)))] 97 2 y.2.length (flt lG y.2)) (fun y=>c.length - y.1) (0,[]) ⟨Nat.zero_le _,rfl,rfl⟩ ?_ ?_
 ·simp only [List.length_nil,grS]
  refine bC [] (by simp) ?_ ?_ <;> simp [-map_map,upd,Γ0,aI,cV,hG]
 ·rintro ⟨i,out⟩ ⟨hi,hoi,ho⟩
  simp only at hi ho hoi ⊢
  by_cases hgo:i<c.length
  ·have q1:(i:Int)<c.length:=by omega
   have hx:c[i]? = some c[i]:=List.getElem?_eq_getElem hgo
   have hw:IntKind.i64.wrap ((i:Int)+1)=(i:Int)+1:=aS (by omega) (by omega)
   have htk:=aEi hgo g
   rw [ho] at htk
   refine (show ∃ x,c[i]=x from ⟨_,rfl⟩).elim fun x hxe=>?_
   rw [hxe] at hx htk
   have hyc:aZ x=[D.i .i64 x.id,.i .i64 x.dim,aM x.b]:=rfl
   have hS:=aAn x.id
   have hlk':=fun H=>hlk H x.id
   have hm1:(1:Nat)≤maxLen:=aW (by decide)
   refine (show ∃ y,(mX g x.id).getD [(x.id,1)]=y from ⟨_,rfl⟩).elim fun y hy=>?_
   rw [hy] at htk
   rcases hn:out with _ | ⟨o1,o2⟩
   ·rw [hn] at htk hoi
    simp only [List.length_nil,grS]
    rcases hgv:mX g x.id with _ | v
    ·rw [hgv] at hlk' hy
     simp only [lkV] at hlk'
     simp [-map_map,-mapM_map,↓KW,aI,q1,hx,hyc,hw,hm1,hlk',aE,aB,aC]
     refine aA (ds:=[.i .i64 x.id]) (by rfl) hS ?_
     simp [-map_map,-mapM_map,↓KW,aI,q1,hx,hyc,hw,hm1,hlk',aE,aB,aC,aQ,bF]
     refine aK (i+1,[(x.id,y)]) ⟨hgo,by simp only [List.length_singleton]; simp at hoi; omega,htk⟩ (Nat.sub_lt_sub_left hgo (Nat.lt_succ_self _)) ?_
     simp only [List.length_singleton,grS,dC,gA,← hy]
     refine bC [3] (by simp) ?_ ?_ <;> simp [-map_map,upd,aT,Γ0,aI]
    ·rw [hgv] at hlk' hy
     simp only [lkV] at hlk'
     have hy':v=y:=hy
     simp [-map_map,-mapM_map,↓KW,aI,q1,hx,hyc,hw,hm1,hlk',aE,aB,aC]
     refine aK (i+1,[(x.id,y)]) ⟨hgo,by simp only [List.length_singleton]; simp at hoi; omega,htk⟩ (Nat.sub_lt_sub_left hgo (Nat.lt_succ_self _)) ?_
     simp only [List.length_singleton,grS,dC,gA,← hy']
     refine bC [3] (by simp) ?_ ?_ <;> simp [-map_map,upd,aT,Γ0,aI]
   ·rw [← hn]
    refine (show ∃ m,out.length=m+1 from ⟨o2.length,by rw [hn]; rfl⟩).elim fun m hm=>?_
    have hbb:=cO (n:=m+1) (by omega)
    have hb8:(m+1+1) * 32≤140737488355328:=by omega
    have hcl:=bY dY out
    rw [hm] at hcl
    have hal:=eB wS out
    have hfa:flt lG (out++[(x.id,y)])=flt lG out++[.i .i64 x.id,aM y]:=by rw [dW,dC]; rfl
    simp only [hm,grS]
    rcases hgv:mX g x.id with _ | v
    ·rw [hgv] at hlk' hy
     simp only [lkV] at hlk'
     simp [-map_map,-mapM_map,↓KW,aI,q1,hx,hyc,hw,hm,hlk',hbb,hb8,hcl,hal,aW,aE,aB,aC]
     refine aA (ds:=[.i .i64 x.id]) (by rfl) hS ?_
     simp [-map_map,-mapM_map,↓KW,aI,q1,hx,hyc,hw,hm,hlk',hbb,hb8,hcl,hal,aW,aE,aB,aC,aQ,bF]
     refine aK (i+1,out++[(x.id,y)]) ⟨hgo,by simp only [List.length_append,List.length_singleton]; omega,htk⟩ (Nat.sub_lt_sub_left hgo (Nat.lt_succ_self _)) ?_
     simp only [List.length_append,hm,List.length_singleton,grS,hfa,← hy]
     refine bC [4] (by simp) ?_ ?_ <;> simp [-map_map,upd,aT,Γ0,aI,dW,dC,gA]
    ·rw [hgv] at hlk' hy
     simp only [lkV] at hlk'
     have hy':v=y:=hy
     simp [-map_map,-mapM_map,↓KW,aI,q1,hx,hyc,hw,hm,hlk',hbb,hb8,hcl,hal,aW,aE,aB,aC]
     refine aK (i+1,out++[(x.id,y)]) ⟨hgo,by simp only [List.length_append,List.length_singleton]; omega,htk⟩ (Nat.sub_lt_sub_left hgo (Nat.lt_succ_self _)) ?_
     simp only [List.length_append,hm,List.length_singleton,grS,hfa,← hy']
     refine bC [4] (by simp) ?_ ?_ <;> simp [-map_map,upd,aT,Γ0,aI,dW,dC,gA]
  ·have q1:¬ (i:Int)<c.length:=by omega
   rw [List.take_of_length_le (by omega)] at ho
   rw [ho]
   rcases hn:out.length with _ | m
   ·have e0:out=[]:=List.eq_nil_of_length_eq_zero hn
    simp only [grS]
    simp [-map_map,-mapM_map,↓KW,aI,bJ,q1,e0]
   ·have e1:=eL dY hn
    have e2:=dX (by decide) dY hn
    have e3:=bY dY out
    rw [hn] at e3
    simp only [grS]
    simp [-map_map,-mapM_map,↓KW,aI,bJ,q1,e1,e2,e3,hn]
end Go.Am
end

section
set_option linter.unusedVariables false
set_option linter.unusedSimpArgs false
open Go Go.Am Go.Proofs
namespace Go.Am
theorem aAr {l:Ch} {e:Nat} (hb:Bnd (2 ^ e) l) (hk:Keys l) (hl:l.length≤16384) (he:e+14<4398046511104):Spec Tryz.prog 46 [aM l] (aM (bV [] l)):=by
 have:=aOn l (2 ^ e) (wU (e:=14+e) (qE (Nat.le_trans hl (by decide))) (by omega)) hb hk (by omega)
 rwa [bHw] at this
theorem bPt:kJ Tryz.prog 43:=by
 refine ⟨fun w=>enters_of Tryz.func43 (by kernel_rfl) rfl _ w,fun w=>?_⟩
 refine callsD_of_wpS Tryz.func43 rfl fun c₀ cs hu=>?_
 apply wpS_region
 simp [wpOpsS,go_sem,recoverD,hu,Tryz.ntmps43,bodyPostS,results,Tryz.results43]
 cases c₀; simp only at hu; subst hu; rfl
theorem eN (x:Int × Int):(eE x).length=3:=rfl
theorem qU (x:Int × Int):((eE x).map AV.d).all one=true:=rfl
theorem bP (x:Cl):(aZ x).length=3:=rfl
theorem jO (x:Cl):((aZ x).map AV.d).all one=true:=rfl
def xX (a b:Int) (f:Int × Int):Int × Int:=if f.1=b then (a,f.2) else f
def aAx (a b:Int) (z:Cl):Cl:=⟨z.id,z.dim,bV [] (z.b.map (xX a b))⟩
def aAy (c:List Cl) (a b:Int):List Cl:=(c.filter fun z=>!decide (z.id=b)).map (aAx a b)
def gF (r:List Cl × List (Int × Ch) × Int):D:=.tp [aI r.1,bJ r.2.1,.i .i64 r.2.2]
theorem iO (H : Nat → Option HO) (n id : Nat) : vis H (n + 1) (.mp id) = match H id with
      | some (.map _ es)=>id::(es.map (·.2)).flatMap (vis H n)
      | _=>[]:=rfl
theorem dF (m:List (Int × Ch)):inj (bJ m)=.d (bJ m):=rfl
theorem cJ (H:Nat→Option HO) (avs:List AV) (m:List (Int × Ch)):bX H avs (bJ m)=gD H avs:=rfl
theorem dH (n:Int) (v:AV):oX [] n v=[(n,v)]:=rfl
end Go.Am
end

section
set_option linter.unusedVariables false
set_option linter.unusedSimpArgs false
open Go Go.Am Go.Proofs
namespace Go.Am
def eA (c:List Cl) (x:Cl):List Cl:=(c.takeWhile fun y=>decide (y.id<x.id))++x::c.dropWhile fun y=>decide (y.id<x.id)
theorem nE (c:List Cl) (x:Cl):(eA c x).Perm (x::c):=by
 unfold eA
 refine List.perm_middle.trans ?_
 rw [List.takeWhile_append_dropWhile]
theorem aJh (y:Cl) (c:List Cl) (x:Cl):eA (y::c) x=if y.id<x.id then y::eA c x else x::y::c:=by
 unfold eA
 by_cases h:y.id<x.id <;> simp [List.takeWhile_cons,List.dropWhile_cons,h]
theorem tD (c:List Cl) (x:Cl):(eA c x).length=c.length+1:=by rw [(nE c x).length_eq]; rfl
theorem aAb {c:List Cl} {x y:Cl}:y∈eA c x↔y=x∨y∈c:=by rw [(nE c x).mem_iff,List.mem_cons]
theorem aAc {c:List Cl} {x:Cl} (hc:Inc c) (hx:∀ y∈c,y.id≠x.id):Inc (eA c x):=by
 induction c with
 | nil=>simp [eA,Inc]
 | cons y c ih =>
  obtain ⟨h1,h2⟩:=List.pairwise_cons.1 hc
  rw [aJh]
  have hne:=hx y (List.mem_cons_self ..)
  by_cases h:y.id<x.id
  ·rw [if_pos h]
   refine List.pairwise_cons.2 ⟨fun z hz=>?_,ih h2 fun z hz=>hx z (List.mem_cons_of_mem _ hz)⟩
   rcases aAb.1 hz with rfl | hz
   ·exact h
   ·exact h1 z hz
  ·rw [if_neg h]
   refine List.pairwise_cons.2 ⟨fun z hz=>?_,hc⟩
   rcases List.mem_cons.1 hz with rfl | hz
   ·omega
   ·have:=h1 z hz; omega
def sK (l:Ch):Ch:=l.filter fun f=>decide (0<f.2)
def tE (l:Ch):Ch:=l.filter fun f=>!decide (0<f.2)
def kW (w0:Int) (l:Ch):Ch:=(w0,1)::tE l
def jC (w0:Int) (l:Ch):Ch:=(w0,-1)::sK l
def adF (e w1:Int) (l:Ch):Ch:=(l.filter fun f=>decide (f.1=e)).map fun f=>(w1,f.2)
def subL (e w0 w1:Int) (xb:Ch) (z:Cl):Ch:=if z.id=e then kW w0 xb else z.b++adF e w1 z.b
def iG (e w0 w1:Int) (xb:Ch) (z:Cl):Cl:=⟨z.id,z.dim,bV [] (subL e w0 w1 xb z)⟩
def wC (w0:Int):Cl:=⟨w0,0,[]⟩
def aIg (w0 w1:Int) (xb:Ch):Cl:=⟨w1,1,bV [] (jC w0 xb)⟩
def aIe (c:List Cl) (e w0 w1:Int):List Cl:=[wC w0,aIg w0 w1 (bOf c e)]++c.map (iG e w0 w1 (bOf c e))
def mF (c:List Cl) (e w0 w1:Int):List Cl:=eA (eA (c.map (iG e w0 w1 (bOf c e))) (wC w0)) (aIg w0 w1 (bOf c e))
def pS (c:List Cl) (e w0 w1:Int):List Cl × List (Int × Ch) × Int :=
 if (bT c e).isSome=false then ([],[],250) else if dOf c e≠1 then ([],[],260) else if w0=w1∨kn c w0=true∨kn c w1=true then ([],[],253) else if 398<c.length then ([],[],2)
 else (mF c e w0 w1,fQ c [(e,bV [(e,1)] (mulR 1 [(w1,1)]))],0)
theorem wF (c:List Cl) (e w0 w1:Int):(mF c e w0 w1).Perm (aIe c e w0 w1):=by
 unfold mF aIe
 refine (nE _ _).trans (((nE _ _).cons _).trans ?_)
 exact .swap ..
theorem uR {c:List Cl} {n:Int} (h:kn c n=false):∀ y∈c,y.id≠n:=by
 unfold kn at h
 exact aBg (by simpa using h)
theorem aIh {c:List Cl} {e w0 w1:Int} (hc:Inc c) (h0:kn c w0=false) (h1:kn c w1=false) (h:w0≠w1):Inc (mF c e w0 w1):=by
 have hm:Inc (c.map (iG e w0 w1 (bOf c e))):=List.pairwise_map.2 hc
 refine aAc (aAc hm fun y hy=>?_) fun y hy=>?_
 ·obtain ⟨z,hz,rfl⟩:=List.mem_map.1 hy
  exact uR h0 z hz
 ·rcases aAb.1 hy with rfl | hy
  ·exact h
  ·obtain ⟨z,hz,rfl⟩:=List.mem_map.1 hy
   exact uR h1 z hz
theorem zR (c:List Cl) (e w0 w1:Int):(mF c e w0 w1).length=c.length+2:=by
 rw [(wF c e w0 w1).length_eq]; simp [aIe]
theorem aWo (c:List Cl) (e w0 w1:Int):(aIe c e w0 w1).length=c.length+2:=by
 simp [aIe]
end Go.Am
end

section
set_option linter.unusedVariables false
set_option linter.unusedSimpArgs false
open List (map_map mapM_map)
open Go Go.Am Go.Proofs
namespace Go.Am
set_option maxHeartbeats 1000000 in
set_option maxRecDepth 10000 in
theorem oS (a b:List (Int × Int)) (ha:∀ x∈a,Sz x.2) (hb:∀ x∈b,Sz x.2) (hl:a.length≤1073741824) (hl2:b.length≤1073741824):Spec Tryz.prog 17 [aM a,aM b] (.b (decide (a=b))):=by
 refine aY (N:=42) aF Tryz.func17 rfl rfl rfl (by kernel_rfl) (by kernel_rfl) (by simp) ?_
 by_cases hn:a.length=b.length
 rotate_left
 ·have h1:((a.length:Int) != b.length)=true:=by simp; omega
  have h2:¬ a=b:=fun e=>hn (by rw [e])
  simp [-map_map,-mapM_map,↓KW,aM,h1,h2]
 ·have h1:((a.length:Int) != b.length)=false:=by simp; omega
  simp [-map_map,-mapM_map,↓KW,aM,h1]
  refine aU (fun i:Nat=>i≤a.length∧a.take i=b.take i) (fun i=>StL [(0,.d (aM a)),(1,.d (aM b)),(5,.d (.i .i64 i))] none []) (fun i=>a.length - i) 0 ⟨Nat.zero_le _,by simp⟩ ?_ ?_
  ·refine bC [] (by simp) ?_ ?_ <;> simp [-map_map,upd,aT,Γ0,aM]
  ·rintro i ⟨hi,ht⟩
   by_cases hgo:i<a.length
   ·have hgb:i<b.length:=by omega
    have q1:(i:Int)<a.length:=by omega
    have hw7:IntKind.i64.wrap ((i:Int)+1)=(i:Int)+1:=aS (by omega) (by omega)
    have g1:a[i]? = some a[i]:=List.getElem?_eq_getElem hgo
    have g2:b[i]? = some b[i]:=List.getElem?_eq_getElem hgb
    have hsx:=ha _ (List.getElem_mem hgo)
    have hsy:=hb _ (List.getElem_mem hgb)
    have hne:a[i]≠b[i]→¬ a=b:=fun h e=>h (by subst e; rfl)
    have hta:a[i]=b[i]→a.take (i+1)=b.take (i+1):=fun e=>by rw [List.take_add_one,List.take_add_one,ht,g1,g2,e]
    generalize a[i]=x at *
    generalize b[i]=y at *
    obtain ⟨xi,xc⟩:=x
    obtain ⟨yi,yc⟩:=y
    simp only at hsx hsy
    by_cases h2:xi=yi
    ·have h3:(xi != yi)=false:=by simpa using h2
     simp [-map_map,-mapM_map,↓KW,aM,q1,g1,g2,h3,bB,aJ,aD]
     refine aA (ds:=[encZ xc,encZ yc]) (by rfl) (aYq xc yc (Nat.le_trans hsx (by decide)) (Nat.le_trans hsy (by decide))) ?_
     by_cases h4:xc=yc
     ·have h5:=hta (by rw [h2,h4])
      simp [-map_map,-mapM_map,↓KW,h4,hw7]
      refine aK (i+1) ⟨hgo,h5⟩ (Nat.sub_lt_sub_left hgo (Nat.lt_succ_self i)) (bC [] (by simp) ?_ ?_) <;> simp [-map_map,upd,aT,Γ0,aM]
     ·have h5:=hne (fun e=>h4 (by injection e))
      simp [-map_map,-mapM_map,↓KW,h4,h5]
    ·have h3:(xi != yi)=true:=by simpa using h2
     have h5:=hne (fun e=>h2 (by injection e))
     simp [-map_map,-mapM_map,↓KW,aM,q1,g1,g2,h3,h5,bB,aJ,aD]
   ·have q1:¬ (i:Int)<a.length:=by omega
    have e:a=b:=by rwa [List.take_of_length_le (by omega),List.take_of_length_le (by omega)] at ht
    subst e
    simp [-map_map,-mapM_map,↓KW,aM,q1]
set_option maxHeartbeats 2000000 in
set_option maxRecDepth 10000 in
theorem nP (l:List (Int × Int)) (hs:∀ x∈l,Sz x.2) (hl:l.length≤1073741824):Spec Tryz.prog 50 [aM l] (.b (sY l)):=by
 refine aY (N:=44) aF Tryz.func50 rfl rfl rfl (by kernel_rfl) (by kernel_rfl) (by simp) ?_
 simp [-map_map,-mapM_map,↓KW,aM]
 refine aU (fun i:Nat=>i≤l.length∧∀ j,j<i→aJq l j=true) (fun i=>StL [(0,.d (aM l)),(3,.d (.i .i64 i))] none []) (fun i=>l.length - i) 0 ⟨Nat.zero_le _,fun j h=>by omega⟩ ?_ ?_
 ·refine bC [] (by simp) ?_ ?_ <;> simp [-map_map,upd,aT,Γ0,aM]
 ·rintro i ⟨hi,hok⟩
  by_cases hgo:i<l.length
  ·have q1:(i:Int)<l.length:=by omega
   have hw7:IntKind.i64.wrap ((i:Int)+1)=(i:Int)+1:=aS (by omega) (by omega)
   have g1:=bBn hgo
   have hsx:Sz (l.getD i (0,0)).2:=hs _ (List.mem_of_getElem? g1)
   have hoka:aJq l i=(decide ((l.getD i (0,0)).2≠0) && (decide (i=0) || decide ((l.getD (i - 1) (0,0)).1<(l.getD i (0,0)).1))):=rfl
   have hfalse:=aFq hgo
   have hnext:aJq l i=true→∀ j,j<i+1→aJq l j=true:=fun h j hj=>by
    rcases Nat.lt_or_ge j i with h2 | h2
    ·exact hok j h2
    ·have:j=i:=by omega
     subst this; exact h
   rcases i with _ | k
   ·cases l with
    | nil=>simp at hgo
    | cons x rest =>
     obtain ⟨xi,xc⟩:=x
     have hd:(((xi,xc)::rest).getD 0 (0,0))=(xi,xc):=rfl
     rw [hd] at hsx hoka
     simp only at hsx hoka
     have q1':(0:Int)<(rest.length:Int)+1:=by omega
     have hw8:IntKind.i64.wrap 1=1:=by decide
     simp [-map_map,-mapM_map,↓KW,aM,q1',bB,aJ,aD]
     refine aA (ds:=[encZ xc]) (by rfl) (aDn xc (Nat.le_trans hsx (by decide))) ?_
     simp [-map_map,-mapM_map,↓KW,aM,bB,aJ,aD]
     refine aA (ds:=[encZ xc]) (by rfl) (eJ xc) ?_
     by_cases h0:xc=0
     ·have e0:(xc.sign == 0)=true:=by simp [h0]
      have e1:=hfalse (by rw [hoka]; simp [h0])
      simp [-map_map,-mapM_map,↓KW,e0,e1]
     ·have e0:(xc.sign == 0)=false:=by simp [h0]
      have e1:=hnext (by rw [hoka]; simp [h0])
      simp [-map_map,-mapM_map,↓KW,e0,hw8]
      refine aK 1 ⟨hgo,e1⟩ (Nat.sub_lt_sub_left hgo (Nat.lt_succ_self _)) (bC [] (by simp) ?_ ?_) <;> simp [-map_map,upd,aT,Γ0,aM,bB]
   ·have g2:=bBn (l:=l) (i:=k) (by omega)
    have q3:(0:Int)<(k:Int)+1:=by omega
    have q5:(0:Int)≤(k:Int)+1:=by omega
    have q4:IntKind.i64.wrap (k:Int)=k:=aHo (by omega)
    simp only [Nat.add_sub_cancel] at hoka
    generalize l.getD (k+1) (0,0)=x at *
    generalize l.getD k (0,0)=y at *
    obtain ⟨xi,xc⟩:=x
    obtain ⟨yi,yc⟩:=y
    simp only at hsx hoka
    have hw8:IntKind.i64.wrap ((k:Int)+1+1)=(k:Int)+1+1:=by simpa using hw7
    have q1':(k:Int)+1<l.length:=by simpa using q1
    simp [-map_map,-mapM_map,↓KW,aM,q1',q5,g1,bB,aJ,aD]
    refine aA (ds:=[encZ xc]) (by rfl) (aDn xc (Nat.le_trans hsx (by decide))) ?_
    simp [-map_map,-mapM_map,↓KW,aM,q1',q5,g1,bB,aJ,aD]
    refine aA (ds:=[encZ xc]) (by rfl) (eJ xc) ?_
    by_cases h0:xc=0
    ·have e0:(xc.sign == 0)=true:=by simp [h0]
     have e1:=hfalse (by rw [hoka]; simp [h0])
     simp [-map_map,-mapM_map,↓KW,e0,e1]
    ·have e0:(xc.sign == 0)=false:=by simp [h0]
     by_cases h2:xi≤yi
     ·have e1:=hfalse (by rw [hoka]; simp [h0]; omega)
      simp [-map_map,-mapM_map,↓KW,aM,e0,e1,g1,g2,q3,q4,q5,h2,bB,aJ,aD]
     ·have e1:=hnext (by rw [hoka]; simp [h0]; omega)
      simp [-map_map,-mapM_map,↓KW,aM,e0,g1,g2,q3,q4,q5,h2,hw8,bB,aJ,aD]
      refine aK (k+1+1) ⟨hgo,e1⟩ (Nat.sub_lt_sub_left hgo (Nat.lt_succ_self _)) (bC [] (by simp) ?_ ?_) <;> simp [-map_map,upd,aT,Γ0,aM]
  ·have q1:¬ (i:Int)<l.length:=by omega
   have e:sY l=true:=xB (fun j hj=>hok j (by omega))
   simp [-map_map,-mapM_map,↓KW,aM,q1,e]
set_option maxHeartbeats 2000000 in
set_option maxRecDepth 10000 in
theorem aQa {a b:List Cl} (ha:∀ x∈a,∀ f∈x.b,Sz f.2) (hb:∀ x∈b,∀ f∈x.b,Sz f.2) (hla:∀ x∈a,x.b.length≤1073741824) (hlb:∀ x∈b,x.b.length≤1073741824) (hl:a.length≤1073741824) (hl2:b.length≤1073741824):Spec Tryz.prog 16 [aI a,aI b] (.b (decide (a=b))):=by
 refine aY (N:=55) aF Tryz.func16 rfl rfl rfl (by kernel_rfl) (by kernel_rfl) (by simp) ?_
 by_cases hn:a.length=b.length
 rotate_left
 ·have h1:((a.length:Int) != b.length)=true:=by simp; omega
  have h2:¬ a=b:=fun e=>hn (by rw [e])
  simp [-map_map,-mapM_map,↓KW,aI,h1,h2]
 ·have h1:((a.length:Int) != b.length)=false:=by simp; omega
  simp [-map_map,-mapM_map,↓KW,aI,h1]
  refine aU (fun i:Nat=>i≤a.length∧a.take i=b.take i) (fun i=>StL [(0,.d (aI a)),(1,.d (aI b)),(5,.d (.i .i64 i))] none []) (fun i=>a.length - i) 0 ⟨Nat.zero_le _,by simp⟩ ?_ ?_
  ·refine bC [] (by simp) ?_ ?_ <;> simp [-map_map,upd,aT,Γ0,aI]
  ·rintro i ⟨hi,ht⟩
   by_cases hgo:i<a.length
   ·have hgb:i<b.length:=by omega
    have q1:(i:Int)<a.length:=by omega
    have hw7:IntKind.i64.wrap ((i:Int)+1)=(i:Int)+1:=aS (by omega) (by omega)
    have g1:a[i]? = some a[i]:=List.getElem?_eq_getElem hgo
    have g2:b[i]? = some b[i]:=List.getElem?_eq_getElem hgb
    have hsx:=ha _ (List.getElem_mem hgo)
    have hsy:=hb _ (List.getElem_mem hgb)
    have hlx:=hla _ (List.getElem_mem hgo)
    have hly:=hlb _ (List.getElem_mem hgb)
    have hne:a[i]≠b[i]→¬ a=b:=fun h e=>h (by subst e; rfl)
    have hta:a[i]=b[i]→a.take (i+1)=b.take (i+1):=fun e=>by rw [List.take_add_one,List.take_add_one,ht,g1,g2,e]
    generalize a[i]=x at *
    generalize b[i]=y at *
    obtain ⟨xi,xd,xb⟩:=x
    obtain ⟨yi,yd,yb⟩:=y
    simp only at hsx hsy hlx hly
    by_cases h2:xi=yi
    ·have h3:(xi != yi)=false:=by simpa using h2
     by_cases h6:xd=yd
     ·have h7:(xd != yd)=false:=by simpa using h6
      simp [-map_map,-mapM_map,↓KW,aI,q1,g1,g2,h3,h7,aZ,aE,aB,aC]
      refine aA (ds:=[aM xb,aM yb]) (by rfl) (oS xb yb hsx hsy hlx hly) ?_
      by_cases h4:xb=yb
      ·have h5:=hta (by rw [h2,h4,h6])
       simp [-map_map,-mapM_map,↓KW,h4,hw7]
       refine aK (i+1) ⟨hgo,h5⟩ (Nat.sub_lt_sub_left hgo (Nat.lt_succ_self i)) (bC [] (by simp) ?_ ?_) <;> simp [-map_map,upd,aT,Γ0,aI]
      ·have h5:=hne (fun e=>h4 (by injection e))
       simp [-map_map,-mapM_map,↓KW,h4,h5]
     ·have h7:(xd != yd)=true:=by simpa using h6
      have h5:=hne (fun e=>h6 (by injection e))
      simp [-map_map,-mapM_map,↓KW,aI,q1,g1,g2,h3,h7,h5,aZ,aE,aB,aC]
    ·have h3:(xi != yi)=true:=by simpa using h2
     have h5:=hne (fun e=>h2 (by injection e))
     simp [-map_map,-mapM_map,↓KW,aI,q1,g1,g2,h3,h5,aZ,aE,aB,aC]
   ·have q1:¬ (i:Int)<a.length:=by omega
    have e:a=b:=by rwa [List.take_of_length_le (by omega),List.take_of_length_le (by omega)] at ht
    subst e
    simp [-map_map,-mapM_map,↓KW,aI,q1]
end Go.Am
end

section
set_option linter.unusedVariables false
set_option linter.unusedSimpArgs false
open List (map_map mapM_map)
open Go Go.Am Go.Proofs
namespace Go.Am
def nzF (f:Int × Int):Ch:=if f.2=0 then [] else [f]
def plM (k:Int):Ch→Ch→Ch
 | [],[]=>[]
 | x::a,[]=>nzF x++plM k a []
 | [],y::b=>nzF (y.1,k * y.2)++plM k [] b
 | x::a,y::b=>if x.1<y.1 then nzF x++plM k a (y::b) else if y.1<x.1 then nzF (y.1,k * y.2)++plM k (x::a) b else nzF (x.1,x.2+k * y.2)++plM k a b
termination_by a b=>a.length+b.length
theorem aBv (n:Int) (f:Int × Int) (l:Ch):cf n (nzF f++l)=cf n (f::l):=by
 unfold nzF
 by_cases h:f.2=0
 ·rw [if_pos h,List.nil_append]
  simp [cf,h]
 ·rw [if_neg h]; rfl
theorem wX (k n:Int):∀ a b:Ch,cf n (plM k a b)=cf n a+k * cf n b
 | [],[]=>by simp [plM,cf]
 | x::a,[]=>by
  have ih:=wX k n a []
  rw [plM,aBv]
  simp only [cf] at ih ⊢
  rw [ih]; simp only [Int.mul_zero,Int.add_zero]
 | [],y::b=>by
  have ih:=wX k n [] b
  rw [plM,aBv]
  simp only [cf] at ih ⊢
  rw [ih,Int.mul_add]
  split <;> simp
 | x::a,y::b=>by
  have h1:=wX k n a (y::b)
  have h2:=wX k n (x::a) b
  have h3:=wX k n a b
  rw [plM]
  split
  ·rw [aBv]
   simp only [cf] at h1 ⊢
   rw [h1]; omega
  ·split
   ·rw [aBv]
    simp only [cf] at h2 ⊢
    rw [h2,Int.mul_add]
    split
    ·split <;> (try simp only [Int.mul_zero]) <;> omega
    ·split <;> (try simp only [Int.mul_zero]) <;> omega
   ·rename_i g1 g2
    have he:x.1=y.1:=by omega
    rw [aBv]
    simp only [cf]
    rw [h3,he,Int.mul_add]
    split <;> (try simp only [Int.mul_zero]) <;> omega
termination_by a b=>a.length+b.length
theorem kX (k:Int):∀ (a b:Ch) (x:Int × Int),x∈plM k a b→x.2≠0∧((∃ y∈a,y.1=x.1)∨∃ y∈b,y.1=x.1)
 | [],[],x,h=>by simp [plM] at h
 | u::a,[],x,h=>by
  rw [plM] at h
  rcases List.mem_append.1 h with h | h
  ·unfold nzF at h
   split at h
   ·cases h
   ·rw [List.mem_singleton] at h; subst h; exact ⟨by assumption,.inl ⟨_,List.mem_cons_self ..,rfl⟩⟩
  ·obtain ⟨h1,h2⟩:=kX k a [] x h
   refine ⟨h1,?_⟩
   rcases h2 with ⟨y,hy,e⟩ | ⟨y,hy,e⟩
   ·exact .inl ⟨y,List.mem_cons_of_mem _ hy,e⟩
   ·cases hy
 | [],v::b,x,h=>by
  rw [plM] at h
  rcases List.mem_append.1 h with h | h
  ·unfold nzF at h
   split at h
   ·cases h
   ·rw [List.mem_singleton] at h; subst h; exact ⟨by assumption,.inr ⟨_,List.mem_cons_self ..,rfl⟩⟩
  ·obtain ⟨h1,h2⟩:=kX k [] b x h
   refine ⟨h1,?_⟩
   rcases h2 with ⟨y,hy,e⟩ | ⟨y,hy,e⟩
   ·cases hy
   ·exact .inr ⟨y,List.mem_cons_of_mem _ hy,e⟩
 | u::a,v::b,x,h=>by
  rw [plM] at h
  have up:((∃ y∈a,y.1=x.1)∨∃ y∈v::b,y.1=x.1)→((∃ y∈u::a,y.1=x.1)∨∃ y∈v::b,y.1=x.1):=fun h=>h.imp (fun ⟨y,hy,e⟩=>⟨y,List.mem_cons_of_mem _ hy,e⟩) id
  have up2:((∃ y∈u::a,y.1=x.1)∨∃ y∈b,y.1=x.1)→((∃ y∈u::a,y.1=x.1)∨∃ y∈v::b,y.1=x.1):=fun h=>h.imp id (fun ⟨y,hy,e⟩=>⟨y,List.mem_cons_of_mem _ hy,e⟩)
  split at h
  ·rcases List.mem_append.1 h with h | h
   ·unfold nzF at h
    split at h
    ·cases h
    ·rw [List.mem_singleton] at h; subst h; exact ⟨by assumption,.inl ⟨_,List.mem_cons_self ..,rfl⟩⟩
   ·obtain ⟨h1,h2⟩:=kX k a (v::b) x h
    exact ⟨h1,up h2⟩
  ·split at h
   ·rcases List.mem_append.1 h with h | h
    ·unfold nzF at h
     split at h
     ·cases h
     ·rw [List.mem_singleton] at h; subst h; exact ⟨by assumption,.inr ⟨_,List.mem_cons_self ..,rfl⟩⟩
    ·obtain ⟨h1,h2⟩:=kX k (u::a) b x h
     exact ⟨h1,up2 h2⟩
   ·rcases List.mem_append.1 h with h | h
    ·unfold nzF at h
     split at h
     ·cases h
     ·rw [List.mem_singleton] at h; subst h; exact ⟨by assumption,.inl ⟨_,List.mem_cons_self ..,rfl⟩⟩
    ·obtain ⟨h1,h2⟩:=kX k a b x h
     exact ⟨h1,h2.imp (fun ⟨y,hy,e⟩=>⟨y,List.mem_cons_of_mem _ hy,e⟩) (fun ⟨y,hy,e⟩=>⟨y,List.mem_cons_of_mem _ hy,e⟩)⟩
termination_by a b=>a.length+b.length
theorem uK {f:Int × Int} {l:Ch} (hl:Val l) (h:∀ y∈l,f.1<y.1):Val (nzF f++l):=by
 unfold nzF
 split
 ·exact hl
 ·refine ⟨List.pairwise_cons.2 ⟨h,hl.1⟩,fun y hy=>?_⟩
  rcases List.mem_cons.1 hy with rfl | hy
  ·assumption
  ·exact hl.2 y hy
theorem jU (k:Int):∀ {a b:Ch},Val a→Val b→Val (plM k a b)
 | [],[],_,_=>by rw [plM]; exact Val.nil
 | x::a,[],ha,hb=>by
  obtain ⟨h1,h2,_⟩:=ha.tail
  rw [plM]
  refine uK (jU k h1 hb) fun y hy=>?_
  rcases (kX k a [] y hy).2 with ⟨z,hz,e⟩ | ⟨z,hz,e⟩
  ·rw [← e]; exact h2 z hz
  ·cases hz
 | [],y::b,ha,hb=>by
  obtain ⟨h1,h2,_⟩:=hb.tail
  rw [plM]
  refine uK (jU k ha h1) fun u hu=>?_
  rcases (kX k [] b u hu).2 with ⟨z,hz,e⟩ | ⟨z,hz,e⟩
  ·cases hz
  ·rw [← e]; exact h2 z hz
 | x::a,y::b,ha,hb=>by
  obtain ⟨a1,a2,_⟩:=ha.tail
  obtain ⟨b1,b2,_⟩:=hb.tail
  rw [plM]
  split
  ·refine uK (jU k a1 hb) fun u hu=>?_
   rcases (kX k a (y::b) u hu).2 with ⟨z,hz,e⟩ | ⟨z,hz,e⟩
   ·rw [← e]; exact a2 z hz
   ·rcases List.mem_cons.1 hz with rfl | hz
    ·omega
    ·have:=b2 z hz; omega
  ·split
   ·refine uK (jU k ha b1) fun u hu=>?_
    simp only
    rcases (kX k (x::a) b u hu).2 with ⟨z,hz,e⟩ | ⟨z,hz,e⟩
    ·rcases List.mem_cons.1 hz with rfl | hz
     ·omega
     ·have:=a2 z hz; omega
    ·rw [← e]; exact b2 z hz
   ·refine uK (jU k a1 b1) fun u hu=>?_
    simp only
    rcases (kX k a b u hu).2 with ⟨z,hz,e⟩ | ⟨z,hz,e⟩
    ·rw [← e]; exact a2 z hz
    ·have:=b2 z hz; omega
termination_by a b=>a.length+b.length
theorem yP {a b:Ch} (ha:Val a) (hb:Val b) (k:Int):plM k a b=lin a b k:=by
 obtain ⟨h1,h2⟩:=yV ha hb k
 have h3:=jU k ha hb
 refine h3.ext h1 fun n=>?_
 rw [h2 n,← iS h3,wX,iS ha,iS hb]
theorem bGv (k:Int):plM k [] []=[]:=by rw [plM]
theorem aJj {k:Int} {a b:Ch} {i:Nat} (h:i<a.length) (hb:b=[]∨∃ y l,b=y::l∧a[i].1<y.1):plM k (a.drop i) b=nzF a[i]++plM k (a.drop (i+1)) b:=by
 rw [List.drop_eq_getElem_cons h]
 rcases hb with rfl | ⟨y,l,rfl,hlt⟩
 ·rw [plM]
 ·rw [plM,if_pos hlt]
theorem aDt {k:Int} {a b:Ch} {j:Nat} (h:j<b.length) (ha:a=[]∨∃ x l,a=x::l∧b[j].1<x.1):plM k a (b.drop j)=nzF (b[j].1,k * b[j].2)++plM k a (b.drop (j+1)):=by
 rw [List.drop_eq_getElem_cons h]
 rcases ha with rfl | ⟨x,l,rfl,hlt⟩
 ·rw [plM]
 ·rw [plM,if_neg (by omega),if_pos hlt]
theorem aYr {k:Int} {a b:Ch} {i j:Nat} (h:i<a.length) (h2:j<b.length) (he:a[i].1=b[j].1):plM k (a.drop i) (b.drop j)=nzF (a[i].1,a[i].2+k * b[j].2)++plM k (a.drop (i+1)) (b.drop (j+1)):=by
 rw [List.drop_eq_getElem_cons h,List.drop_eq_getElem_cons h2,plM,if_neg (by omega),if_neg (by omega)]
set_option maxHeartbeats 8000000 in
set_option maxRecDepth 10000 in
theorem oT {a b:Ch} {k:Int} {e f g:Nat} (ha:Bnd (2 ^ e) a) (hb:Bnd (2 ^ f) b) (hk:k.natAbs≤2 ^ g) (he:e+2<4398046511104) (hf:g+f+2<4398046511104) (hla:a.length≤1048576) (hlb:b.length≤1048576):Spec Tryz.prog 27 [aM a,aM b,encZ k] (aM (plM k a b)):=by
 have hkS:Sz k:=szE hk (by omega)
 refine aY (N:=116) aF Tryz.func27 rfl rfl rfl (by kernel_rfl) (by kernel_rfl) (by simp) ?_
 simp [-map_map,-mapM_map,↓KW,aM,bI,aJ,aD,aP]
 refine aU (fun y:Nat × Nat × Ch=>y.1≤a.length∧y.2.1≤b.length∧y.2.2.length≤y.1+y.2.1∧y.2.2++plM k (a.drop y.1) (b.drop y.2.1)=plM k a b) (fun y=>StL [(0,.d (aM a)),(1,.d (aM b)),(5,.ptr 1 0),(7,.own 2 0 y.2.2.length 3),(8,.d (.i .i64 (y.1:Int))),(9,.d (.i .i64 (y.2.1:Int)))] none [.cells 69 [.d (.b (decide (k<0))),.d (aG (aV k.natAbs))],.cells 89 ((fcs y.2.2).map .d)]) (fun y=>(a.length - y.1)+(b.length - y.2.1)) (0,0,[]) ⟨Nat.zero_le _,Nat.zero_le _,Nat.zero_le _,rfl⟩ ?_ ?_
 ·refine bC [1,2] (by simp) ?_ ?_ <;> simp [-map_map,upd,aT,Γ0,aM,fcs]
 ·rintro ⟨i,j,out⟩ ⟨hi,hj,hol,hinv⟩
  simp only at hi hj hol hinv
  refine (show ∃ n,out.length=n from ⟨_,rfl⟩).elim fun n hn=>?_
  rw [hn] at hol
  have hfl:=rV out
  rw [hn] at hfl
  have hb8:=cO (n:=n) (by omega)
  by_cases hgi:i<a.length
  ·have q1:(i:Int)<a.length:=by omega
   have hw1:IntKind.i64.wrap ((i:Int)+1)=((i+1:Nat):Int):=by rw [aS (by omega) (by omega)]; omega
   have g1:a[i]? = some a[i]:=List.getElem?_eq_getElem hgi
   have hax:=ha _ (List.getElem_mem hgi)
   by_cases hgj:j<b.length
   ·have q2:((j:Int) == b.length)=false:=by simp; omega
    have q3:(j:Int)<b.length:=by omega
    have q5:((i:Int) == a.length)=false:=by simp; omega
    have hw2:IntKind.i64.wrap ((j:Int)+1)=((j+1:Nat):Int):=by rw [aS (by omega) (by omega)]; omega
    have g2:b[j]? = some b[j]:=List.getElem?_eq_getElem hgj
    have hby:=hb _ (List.getElem_mem hgj)
    have st1:a[i].1<b[j].1→plM k (a.drop i) (b.drop j)=nzF a[i]++plM k (a.drop (i+1)) (b.drop j):=fun h=>aJj hgi (.inr ⟨_,_,List.drop_eq_getElem_cons hgj,h⟩)
    have st2:b[j].1<a[i].1→plM k (a.drop i) (b.drop j)=nzF (b[j].1,k * b[j].2)++plM k (a.drop i) (b.drop (j+1)):=fun h=>aDt hgj (.inr ⟨_,_,List.drop_eq_getElem_cons hgi,h⟩)
    have st3:=aYr (k:=k) hgi hgj
    refine (show ∃ x,a[i]=x from ⟨_,rfl⟩).elim fun x hxe=>?_
    refine (show ∃ y,b[j]=y from ⟨_,rfl⟩).elim fun y hye=>?_
    rw [hxe] at g1 st1 st2 st3 hax
    rw [hye] at g2 st1 st2 st3 hby
    obtain ⟨xi,xc⟩:=x
    obtain ⟨yi,yc⟩:=y
    simp only at hax hby st1 st2 st3
    have hsx:Sz xc:=szE hax (by omega)
    have hsy:Sz yc:=szE hby (by omega)
    have hM:=nD k yc hkS hsy
    have hmb:(k * yc).natAbs≤2 ^ (g+f):=by rw [Int.natAbs_mul,← oV]; exact Nat.mul_le_mul hk hby
    refine (show ∃ z,k * yc=z from ⟨_,rfl⟩).elim fun z hze=>?_
    rw [hze] at hM st2 st3 hmb
    by_cases c1:xi<yi
    ·have hstep:=st1 c1
     have hol2:out.length≤i+1+j:=by omega
     simp [-map_map,-mapM_map,↓KW,aM,q1,q2,g1,g2,c1,hw1,bB,aJ,aD,aP]
     refine aA (ds:=[encZ xc]) (by rfl) (eJ xc) ?_
     by_cases hz0:xc=0
     ·have hz1:((xc).sign != 0)=false:=by simp [hz0]
      have hz2:nzF (xi,xc)=[]:=by unfold nzF; rw [if_pos hz0]
      rw [hz2,List.nil_append] at hstep
      rw [hstep] at hinv
      simp [-map_map,-mapM_map,↓KW,hz1,hn,hw1]
      refine aK (τ:=Nat × Nat × Ch) (i+1,j,out) ⟨by simp only; omega,by simp only; omega,hol2,hinv⟩ (by simp only; omega) (bC [1,2] (by simp) ?_ ?_)
      ·simp [-map_map,upd,aT,Γ0,aM,hn]
      ·simp [-map_map,upd,aT,Γ0,aM,hn]
     ·have hz1:((xc).sign != 0)=true:=by simp [hz0]
      have hz2:nzF (xi,xc)=[(xi,xc)]:=by unfold nzF; rw [if_neg hz0]
      rw [hz2] at hstep
      rw [hstep,← List.append_assoc] at hinv
      simp [-map_map,-mapM_map,↓KW,hz1,bB,aJ,aD,cN,iM,hn,hfl,hb8,aW,hw1]
      refine aK (τ:=Nat × Nat × Ch) (i+1,j,out++[(xi,xc)]) ⟨by simp only; omega,by simp only; omega,by simp only [List.length_append,List.length_singleton]; omega,hinv⟩ (by simp only; omega) (bC [1,5] (by simp) ?_ ?_)
      ·simp [-map_map,upd,aT,Γ0,aM,bB,cN,eC,hn]
      ·simp [-map_map,upd,aT,Γ0,aM,bB,cN,eC,hn]
    ·by_cases c2:yi<xi
     ·have hstep:=st2 c2
      have hol2:out.length≤i+(j+1):=by omega
      simp [-map_map,-mapM_map,↓KW,aM,q1,q2,q5,g1,g2,c1,c2,hw2,bB,aJ,aD,aP]
      refine aA (ds:=[encZ k,encZ yc]) (by rfl) hM ?_
      simp [-map_map,-mapM_map,↓KW,bI,hw2,bB,aJ,aD,aP]
      refine aA (ds:=[encZ z]) (by rfl) (eJ z) ?_
      by_cases hz0:z=0
      ·have hz1:((z).sign != 0)=false:=by simp [hz0]
       have hz2:nzF (yi,z)=[]:=by unfold nzF; rw [if_pos hz0]
       rw [hz2,List.nil_append] at hstep
       rw [hstep] at hinv
       simp [-map_map,-mapM_map,↓KW,hz1,hn,hw2]
       refine aK (τ:=Nat × Nat × Ch) (i,j+1,out) ⟨by simp only; omega,by simp only; omega,hol2,hinv⟩ (by simp only; omega) (bC [1,2] (by simp) ?_ ?_)
       ·simp [-map_map,upd,aT,Γ0,aM,hn]
       ·simp [-map_map,upd,aT,Γ0,aM,hn]
      ·have hz1:((z).sign != 0)=true:=by simp [hz0]
       have hz2:nzF (yi,z)=[(yi,z)]:=by unfold nzF; rw [if_neg hz0]
       rw [hz2] at hstep
       rw [hstep,← List.append_assoc] at hinv
       simp [-map_map,-mapM_map,↓KW,hz1,bB,aJ,aD,cN,iM,hn,hfl,hb8,aW,hw2]
       refine aK (τ:=Nat × Nat × Ch) (i,j+1,out++[(yi,z)]) ⟨by simp only; omega,by simp only; omega,by simp only [List.length_append,List.length_singleton]; omega,hinv⟩ (by simp only; omega) (bC [1,5] (by simp) ?_ ?_)
       ·simp [-map_map,upd,aT,Γ0,aM,bB,cN,eC,hn]
       ·simp [-map_map,upd,aT,Γ0,aM,bB,cN,eC,hn]
     ·have c3:xi=yi:=by omega
      have hstep:=st3 c3
      have hol2:out.length≤i+1+(j+1):=by omega
      have hA:=oU xc z (Nat.le_trans hsx (by decide)) (Nat.le_trans (szE hmb (by omega)) (by decide))
      simp [-map_map,-mapM_map,↓KW,aM,q1,q2,q5,g1,g2,c1,c2,hw1,hw2,bB,aJ,aD,aP]
      refine aA (ds:=[encZ k,encZ yc]) (by rfl) hM ?_
      simp [-map_map,-mapM_map,↓KW,bI,hw2,bB,aJ,aD,aP]
      refine aA (ds:=[encZ xc,encZ z]) (by rfl) hA ?_
      simp [-map_map,-mapM_map,↓KW,bI,hw1,hw2,bB,aJ,aD,aP]
      refine (show ∃ u,xc+z=u from ⟨_,rfl⟩).elim fun u hue=>?_
      rw [hue] at hstep ⊢
      refine aA (ds:=[encZ u]) (by rfl) (eJ u) ?_
      by_cases hz0:u=0
      ·have hz1:((u).sign != 0)=false:=by simp [hz0]
       have hz2:nzF (xi,u)=[]:=by unfold nzF; rw [if_pos hz0]
       rw [hz2,List.nil_append] at hstep
       rw [hstep] at hinv
       simp [-map_map,-mapM_map,↓KW,hz1,hn,hw1,hw2]
       refine aK (τ:=Nat × Nat × Ch) (i+1,j+1,out) ⟨by simp only; omega,by simp only; omega,hol2,hinv⟩ (by simp only; omega) (bC [1,2] (by simp) ?_ ?_)
       ·simp [-map_map,upd,aT,Γ0,aM,hn]
       ·simp [-map_map,upd,aT,Γ0,aM,hn]
      ·have hz1:((u).sign != 0)=true:=by simp [hz0]
       have hz2:nzF (xi,u)=[(xi,u)]:=by unfold nzF; rw [if_neg hz0]
       rw [hz2] at hstep
       rw [hstep,← List.append_assoc] at hinv
       simp [-map_map,-mapM_map,↓KW,hz1,bB,aJ,aD,cN,iM,hn,hfl,hb8,aW,hw1,hw2]
       refine aK (τ:=Nat × Nat × Ch) (i+1,j+1,out++[(xi,u)]) ⟨by simp only; omega,by simp only; omega,by simp only [List.length_append,List.length_singleton]; omega,hinv⟩ (by simp only; omega) (bC [1,5] (by simp) ?_ ?_)
       ·simp [-map_map,upd,aT,Γ0,aM,bB,cN,eC,hn]
       ·simp [-map_map,upd,aT,Γ0,aM,bB,cN,eC,hn]
   ·have hje:j=b.length:=by omega
    have q2:((j:Int) == b.length)=true:=by simp; omega
    have hstep:=aJj (k:=k) (b:=b.drop j) hgi (.inl (List.drop_eq_nil_of_le (by omega)))
    have hol2:out.length≤i+1+j:=by omega
    refine (show ∃ x,a[i]=x from ⟨_,rfl⟩).elim fun x hxe=>?_
    rw [hxe] at g1 hstep hax
    obtain ⟨xi,xc⟩:=x
    simp only at hax
    have hsx:Sz xc:=szE hax (by omega)
    simp [-map_map,-mapM_map,↓KW,aM,q1,q2,g1,hw1,bB,aJ,aD,aP]
    refine aA (ds:=[encZ xc]) (by rfl) (eJ xc) ?_
    by_cases hz0:xc=0
    ·have hz1:((xc).sign != 0)=false:=by simp [hz0]
     have hz2:nzF (xi,xc)=[]:=by unfold nzF; rw [if_pos hz0]
     rw [hz2,List.nil_append] at hstep
     rw [hstep] at hinv
     simp [-map_map,-mapM_map,↓KW,hz1,hn,hw1]
     refine aK (τ:=Nat × Nat × Ch) (i+1,j,out) ⟨by simp only; omega,by simp only; omega,hol2,hinv⟩ (by simp only; omega) (bC [1,2] (by simp) ?_ ?_)
     ·simp [-map_map,upd,aT,Γ0,aM,hn]
     ·simp [-map_map,upd,aT,Γ0,aM,hn]
    ·have hz1:((xc).sign != 0)=true:=by simp [hz0]
     have hz2:nzF (xi,xc)=[(xi,xc)]:=by unfold nzF; rw [if_neg hz0]
     rw [hz2] at hstep
     rw [hstep,← List.append_assoc] at hinv
     simp [-map_map,-mapM_map,↓KW,hz1,bB,aJ,aD,cN,iM,hn,hfl,hb8,aW,hw1]
     refine aK (τ:=Nat × Nat × Ch) (i+1,j,out++[(xi,xc)]) ⟨by simp only; omega,by simp only; omega,by simp only [List.length_append,List.length_singleton]; omega,hinv⟩ (by simp only; omega) (bC [1,5] (by simp) ?_ ?_)
     ·simp [-map_map,upd,aT,Γ0,aM,bB,cN,eC,hn]
     ·simp [-map_map,upd,aT,Γ0,aM,bB,cN,eC,hn]
  ·have q1:¬ (i:Int)<a.length:=by omega
   have q5:((i:Int) == a.length)=true:=by simp; omega
   have hde:a.drop i=[]:=List.drop_eq_nil_of_le (by omega)
   rw [hde] at hinv
   by_cases hgj:j<b.length
   ·have q2:((j:Int) == b.length)=false:=by simp; omega
    have q3:(j:Int)<b.length:=by omega
    have hw2:IntKind.i64.wrap ((j:Int)+1)=((j+1:Nat):Int):=by rw [aS (by omega) (by omega)]; omega
    have g2:b[j]? = some b[j]:=List.getElem?_eq_getElem hgj
    have hby:=hb _ (List.getElem_mem hgj)
    have hstep:=aDt (k:=k) hgj (.inl (rfl:([]:Ch)=[]))
    have hol2:out.length≤i+(j+1):=by omega
    refine (show ∃ y,b[j]=y from ⟨_,rfl⟩).elim fun y hye=>?_
    rw [hye] at g2 hstep hby
    obtain ⟨yi,yc⟩:=y
    simp only at hby hstep
    have hsy:Sz yc:=szE hby (by omega)
    have hM:=nD k yc hkS hsy
    refine (show ∃ z,k * yc=z from ⟨_,rfl⟩).elim fun z hze=>?_
    rw [hze] at hM hstep
    rw [← hde] at hinv hstep
    simp [-map_map,-mapM_map,↓KW,aM,q1,q2,q3,q5,g2,hw2,bB,aJ,aD,aP]
    refine aA (ds:=[encZ k,encZ yc]) (by rfl) hM ?_
    simp [-map_map,-mapM_map,↓KW,bI,hw2,bB,aJ,aD,aP]
    refine aA (ds:=[encZ z]) (by rfl) (eJ z) ?_
    by_cases hz0:z=0
    ·have hz1:((z).sign != 0)=false:=by simp [hz0]
     have hz2:nzF (yi,z)=[]:=by unfold nzF; rw [if_pos hz0]
     rw [hz2,List.nil_append] at hstep
     rw [hstep] at hinv
     simp [-map_map,-mapM_map,↓KW,hz1,hn,hw2]
     refine aK (τ:=Nat × Nat × Ch) (i,j+1,out) ⟨by simp only; omega,by simp only; omega,hol2,hinv⟩ (by simp only; omega) (bC [1,2] (by simp) ?_ ?_)
     ·simp [-map_map,upd,aT,Γ0,aM,hn]
     ·simp [-map_map,upd,aT,Γ0,aM,hn]
    ·have hz1:((z).sign != 0)=true:=by simp [hz0]
     have hz2:nzF (yi,z)=[(yi,z)]:=by unfold nzF; rw [if_neg hz0]
     rw [hz2] at hstep
     rw [hstep,← List.append_assoc] at hinv
     simp [-map_map,-mapM_map,↓KW,hz1,bB,aJ,aD,cN,iM,hn,hfl,hb8,aW,hw2]
     refine aK (τ:=Nat × Nat × Ch) (i,j+1,out++[(yi,z)]) ⟨by simp only; omega,by simp only; omega,by simp only [List.length_append,List.length_singleton]; omega,hinv⟩ (by simp only; omega) (bC [1,5] (by simp) ?_ ?_)
     ·simp [-map_map,upd,aT,Γ0,aM,bB,cN,eC,hn]
     ·simp [-map_map,upd,aT,Γ0,aM,bB,cN,eC,hn]
   ·have q3:¬ (j:Int)<b.length:=by omega
    rw [List.drop_eq_nil_of_le (by omega),bGv,List.append_nil] at hinv
    have hc:=sC hn
    have ht:=lX hn
    have hinv':plM k a b=out:=hinv.symm
    simp [-map_map,-mapM_map,↓KW,aM,q1,q3,hn,hfl,hc,ht,hinv']
end Go.Am
end

section
set_option linter.unusedVariables false
set_option linter.unusedSimpArgs false
open Go Go.Am Go.Proofs
namespace Go.Am
def rg (n:Nat) (f:Nat→Int):List Int:=(List.range n).map f
/-! Weights of boundaries -/
theorem zH (w:Int→Int) (c:List Cl):∀ y:List (Int × Int),bU w (bdL c y)=bU (fun m=>bU w (bOf c m)) y
 | []=>rfl
 | f::y=>by
  show bU w (mulR f.2 (bOf c f.1)++bdL c y)=_
  rw [mE,lZ,zH w c y]; rfl
theorem aDe {w:Int→Int}:∀ {l:List (Int × Int)},(∀ x∈l,w x.1=0)→bU w l=0
 | [],_=>rfl
 | x::l,h=>by
  simp only [bU]
  rw [h x (List.mem_cons_self ..),aDe fun y hy=>h y (List.mem_cons_of_mem _ hy)]; simp
theorem aRw (c:List Cl) (x:List (Int × Int)):Val (bdX c x)∧∀ n,getM (bdX c x) n=bU (fun m=>cf n (bOf c m)) x:=by
 obtain ⟨h1,h2⟩:=dI (bdL c x) [] Val.nil
 exact ⟨h1,fun n=>by show getM (bV [] (bdL c x)) n=_; rw [h2 n,iK,Int.zero_add,aOo]⟩
def In (c:List Cl) (k:Int) (x:List (Int × Int)):Prop:=∀ f∈x,f.1∈cS c k
theorem In.lin {c:List Cl} {k:Int} {a b:List (Int × Int)} (ha:Val a) (hb:Val b) (ia:In c k a) (ib:In c k b) (n:Int):In c k (lin a b n):=aEl (S:=fun m=>m∈cS c k) ha hb ia ib
theorem bPa {c:List Cl} (hv:CxV c) {y:Cl} (hy:y∈c):bdX c [(y.id,1)]=y.b:=by
 obtain ⟨h1,h2⟩:=aRw c [(y.id,1)]
 refine h1.ext (hv.val y hy) fun n=>?_
 rw [h2]
 simp only [bU]
 rw [hv.bOf hy,iS (hv.val y hy)]; omega
end Go.Am
end

section
set_option linter.unusedVariables false
set_option linter.unusedSimpArgs false
open List (map_map mapM_map)
open Go Go.Am Go.Proofs
namespace Go.Am
theorem aGz {c:List Cl} {x:Ch} {f g:Nat} (hc:SzX f c) (hx:x.length≤100) (hg:Bnd (2 ^ g) x) (i:Nat):Bnd (2 ^ (14+(f+g))) (bV [] (bdL c (x.take i)))∧(bV [] (bdL c (x.take i))).length≤10000:=by
 obtain ⟨h1,h2⟩:=bDn (x:=x.take i) hc (by rw [List.length_take]; omega) (hg.take (i:=i))
 have h3:=kI (bdL c (x.take i)) [] (Bnd.nil 0) h2
 have h4:=kH [] (bdL c (x.take i))
 simp only [List.length_nil,Nat.zero_add] at h3 h4
 exact ⟨h3.mono (qE (Nat.le_trans h1 (by decide))),by omega⟩
set_option maxHeartbeats 2000000 in
set_option maxRecDepth 10000 in
theorem aDm {c:List Cl} {x:Ch} {f g:Nat} (hv:∀ y∈c,Val y.b) (hc:SzX f c) (hx:x.length≤100) (hg:Bnd (2 ^ g) x) (hfg:f+g+20<4398046511104):Spec Tryz.prog 52 [aI c,aM x] (aM (bdX c x)):=by
 have hlen:=hc.len
 refine aY (N:=36) aF Tryz.func52 rfl rfl rfl (by kernel_rfl) (by kernel_rfl) (by simp) ?_
 simp [-map_map,-mapM_map,↓KW,aI,aM]
 refine aU (fun i:Nat=>i≤x.length) (fun i=>StL [(0,.d (aI c)),(1,.d (aM x)),(5,.d (aM (bV [] (bdL c (x.take i))))),(6,.d (.i .i64 (i:Int)))] none []) (fun i=>x.length - i) 0 (Nat.zero_le _) ?_ ?_
 ·refine bC [] (by simp) ?_ ?_
  ·simp [-map_map,upd,aT,Γ0,aI,aM,bV,bdL]
   exact lQ (by simp [iB,upd,sD]) (fun a _ id h=>by simp [mS] at h)
  ·trivial
 ·intro i hi
  by_cases hgo:i<x.length
  ·have q1:(i:Int)<x.length:=by omega
   have hx1:x[i]? = some x[i]:=List.getElem?_eq_getElem hgo
   have hw:IntKind.i64.wrap ((i:Int)+1)=(i:Int)+1:=aS (by omega) (by omega)
   have hxg:=hg _ (List.getElem_mem hgo)
   obtain ⟨ob,ol⟩:=aGz hc hx hg i
   have ov:=(dI (bdL c (x.take i)) [] Val.nil).1
   have htk:bV [] (bdL c (x.take (i+1)))=bV (bV [] (bdL c (x.take i))) (mulR x[i].2 (bOf c x[i].1)):=by rw [bDm hgo,aCc]
   refine (show ∃ u,x[i]=u from ⟨_,rfl⟩).elim fun u hue=>?_
   rw [hue] at hx1 hxg htk
   obtain ⟨n,z⟩:=u
   simp only at hxg htk
   have hbv:Val (bOf c n):=by
    unfold bOf
    cases e:bT c n with
    | none=>exact Val.nil
    | some y=>exact hv y (dQ e).1
   have hbb:=sF hc.bb n
   have hbl:=vM hc.bl n
   have hF:=nC c n (by omega)
   refine (show ∃ out,bV [] (bdL c (x.take i))=out from ⟨_,rfl⟩).elim fun out hoe=>?_
   rw [hoe] at ob ol ov htk
   have hP:=oT (k:=z) ob hbb hxg (by omega) (by omega) (by omega) (by omega)
   rw [yP ov hbv] at hP
   unfold lin at hP
   rw [← htk] at hP
   unfold wP at hF
   have hbo:bOf c n=((bT c n).getD qK).b:=rfl
   rw [hbo] at hP
   simp only [hoe]
   simp [-map_map,-mapM_map,↓KW,aI,aM,q1,hx1,bB,aJ,aD,aP]
   refine aA (ds:=[aI c,.i .i64 n]) (by rfl) hF ?_
   simp [-map_map,-mapM_map,↓KW,aI,aM,bN,q1,hx1,bB,aJ,aD,aP,aE,aB,aC]
   refine aA (ds:=[aM out,aM ((bT c n).getD qK).b,encZ z]) (by rfl) hP ?_
   simp [-map_map,-mapM_map,↓KW,hw,aQ,bF,aE,aB]
   refine aK (i+1) hgo (Nat.sub_lt_sub_left hgo (Nat.lt_succ_self _)) (bC [] (by simp) ?_ ?_) <;> simp [-map_map,upd,aT,Γ0,aI,aM]
  ·have q1:¬ (i:Int)<x.length:=by omega
   rw [List.take_of_length_le (by omega)]
   simp [-map_map,-mapM_map,↓KW,aI,aM,q1,bdX]
/-! Images -/
def apP (m:List (Int × Ch)) (f:Int × Int):Ch:=m.flatMap fun p=>if p.1=f.1 then mulR f.2 p.2 else []
def apL (m:List (Int × Ch)) (x:Ch):Ch:=x.flatMap (apP m)
def apX (m:List (Int × Ch)) (x:Ch):Ch:=bV [] (apL m x)
structure SzM (h:Nat) (m:List (Int × Ch)):Prop where
 len:m.length≤100
 bl:∀ p∈m,p.2.length≤100
 bb:∀ p∈m,Bnd (2 ^ h) p.2
 val:∀ p∈m,Val p.2
theorem aPa {h g:Nat}:∀ {m:List (Int × Ch)} {f:Int × Int},(∀ p∈m,p.2.length≤100)→(∀ p∈m,Bnd (2 ^ h) p.2)→f.2.natAbs≤2 ^ g→(apP m f).length≤m.length * 100∧Bnd (2 ^ (g+h)) (apP m f)
 | [],f,_,_,_=>⟨Nat.zero_le _,Bnd.nil _⟩
 | p::m,f,h1,h2,h3=>by
  obtain ⟨i1,i2⟩:=aPa (m:=m) (f:=f) (fun q hq=>h1 q (List.mem_cons_of_mem _ hq)) (fun q hq=>h2 q (List.mem_cons_of_mem _ hq)) h3
  have hp1:=h1 p (List.mem_cons_self ..)
  have hp2:=qL h3 (h2 p (List.mem_cons_self ..))
  rw [oV] at hp2
  show ((if p.1=f.1 then mulR f.2 p.2 else [])++apP m f).length≤_∧Bnd _ ((if p.1=f.1 then mulR f.2 p.2 else [])++apP m f)
  rw [List.length_append,List.length_cons,Nat.succ_mul]
  split
  ·exact ⟨by rw [aAk]; omega,hp2.app i2⟩
  ·exact ⟨by simp only [List.length_nil]; omega,i2⟩
theorem bDx {h g:Nat} {m:List (Int × Ch)} (hm:SzM h m):∀ {x:Ch},Bnd (2 ^ g) x→(apL m x).length≤x.length * 10000∧Bnd (2 ^ (g+h)) (apL m x)
 | [],_=>⟨Nat.zero_le _,Bnd.nil _⟩
 | f::x,hx=>by
  obtain ⟨i1,i2⟩:=bDx hm (x:=x) fun y hy=>hx y (List.mem_cons_of_mem _ hy)
  obtain ⟨j1,j2⟩:=aPa (f:=f) hm.bl hm.bb (hx f (List.mem_cons_self ..))
  have:=hm.len
  have h2:m.length * 100≤10000:=by omega
  show (apP m f++apL m x).length≤_∧Bnd _ (apP m f++apL m x)
  rw [List.length_append,List.length_cons,Nat.succ_mul]
  exact ⟨by omega,j2.app i2⟩
theorem bDw {m:List (Int × Ch)} {x:Ch} {i:Nat} (h:i<x.length):apL m (x.take (i+1))=apL m (x.take i)++apP m x[i]:=by
 unfold apL
 rw [List.take_add_one,List.getElem?_eq_getElem h,List.flatMap_append]; simp
theorem bDv {m:List (Int × Ch)} {f:Int × Int} {j:Nat} (h:j<m.length):apP (m.take (j+1)) f=apP (m.take j) f++if m[j].1=f.1 then mulR f.2 m[j].2 else []:=by
 unfold apP
 rw [List.take_add_one,List.getElem?_eq_getElem h,List.flatMap_append]; simp
theorem bKf {h g:Nat} {m:List (Int × Ch)} {x:Ch} (hm:SzM h m) (hx:x.length≤100) (hg:Bnd (2 ^ g) x) {i:Nat} (hi:i<x.length) (j:Nat) :
  Val (bV [] (apL m (x.take i)++apP (m.take j) x[i]))∧Bnd (2 ^ (20+(g+h))) (bV [] (apL m (x.take i)++apP (m.take j) x[i]))∧(bV [] (apL m (x.take i)++apP (m.take j) x[i])).length≤1000000:=by
 have i1:=bDx hm (x:=x.take i) (g:=g) hg.take
 have j1:=aPa (m:=m.take j) (f:=x[i]) (h:=h) (fun p hp=>hm.bl p (List.mem_of_mem_take hp)) (fun p hp=>hm.bb p (List.mem_of_mem_take hp)) (hg _ (List.getElem_mem hi))
 have hl:(apL m (x.take i)++apP (m.take j) x[i]).length≤1000000:=by
  have hm1:=hm.len
  have h2:(m.take j).length≤m.length:=by rw [List.length_take]; omega
  have h3:(m.take j).length * 100≤10000:=by omega
  have h4:(x.take i).length≤99:=by rw [List.length_take]; omega
  have h5:=Nat.mul_le_mul_right 10000 h4
  rw [List.length_append]; omega
 have hb:=kI _ [] (Bnd.nil 0) (i1.2.app j1.2)
 have hn:=kH [] (apL m (x.take i)++apP (m.take j) x[i])
 simp only [List.length_nil,Nat.zero_add] at hb hn
 exact ⟨(dI _ [] Val.nil).1,hb.mono (qE (Nat.le_trans hl (by decide))),by omega⟩
set_option maxHeartbeats 2000000 in
set_option maxRecDepth 10000 in
theorem aYf {m:List (Int × Ch)} {x:Ch} {h g:Nat} (hm:SzM h m) (hx:x.length≤100) (hg:Bnd (2 ^ g) x) (hgh:g+h+24<4398046511104):Spec Tryz.prog 18 [bJ m,aM x] (aM (apX m x)):=by
 have hml:=hm.len
 refine aY (N:=45) aF Tryz.func18 rfl rfl rfl (by kernel_rfl) (by kernel_rfl) (by simp) ?_
 simp [-map_map,-mapM_map,↓KW,bJ,aM]
 refine aU (fun i:Nat=>i≤x.length) (fun i=>StL [(0,.d (bJ m)),(1,.d (aM x)),(5,.d (aM (bV [] (apL m (x.take i))))),(6,.d (.i .i64 (i:Int)))] none []) (fun i=>x.length - i) 0 (Nat.zero_le _) ?_ ?_
 ·refine bC [] (by simp) ?_ ?_
  ·simp [-map_map,upd,aT,Γ0,bJ,aM,bV,apL]
   exact lQ (by simp [iB,upd,sD]) (fun a _ id h=>by simp [mS] at h)
  ·trivial
 ·intro i hi
  by_cases hgo:i<x.length
  ·have q1:(i:Int)<x.length:=by omega
   have hx1:x[i]? = some x[i]:=List.getElem?_eq_getElem hgo
   have hw:IntKind.i64.wrap ((i:Int)+1)=(i:Int)+1:=aS (by omega) (by omega)
   have hxg:=hg _ (List.getElem_mem hgo)
   have hpt:=fun j=>bKf hm hx hg hgo j
   have htk:bV [] (apL m (x.take (i+1)))=bV [] (apL m (x.take i)++apP m x[i]):=by rw [bDw hgo]
   have h0:bV [] (apL m (x.take i))=bV [] (apL m (x.take i)++apP (m.take 0) x[i]):=by rw [List.take_zero]; simp [apP]
   refine (show ∃ u,x[i]=u from ⟨_,rfl⟩).elim fun u hue=>?_
   rw [hue] at hx1 hxg htk h0
   simp only [hue] at hpt
   obtain ⟨n,z⟩:=u
   simp only at hxg
   rw [h0]
   refine (show ∃ pre,apL m (x.take i)=pre from ⟨_,rfl⟩).elim fun pre hpe=>?_
   rw [hpe] at htk ⊢
   simp only [hpe] at hpt
   simp [-map_map,-mapM_map,↓KW,bJ,aM,q1,hx1,bB,aJ,aD,aP]
   refine aU (fun j:Nat=>j≤m.length) (fun j=>StL [(0,.d (bJ m)),(1,.d (aM x)),(5,.d (aM (bV [] (pre++apP (m.take j) (n,z))))),(6,.d (.i .i64 (i:Int))),(7,.d (.i .i64 (j:Int)))] none []) (fun j=>m.length - j) 0 (Nat.zero_le _) ?_ ?_
   ·refine bC [] (by simp) ?_ ?_ <;> simp [-map_map,upd,aT,Γ0,bJ,aM]
   ·intro j hj
    by_cases hgo2:j<m.length
    ·have q2:(j:Int)<m.length:=by omega
     have hy1:m[j]? = some m[j]:=List.getElem?_eq_getElem hgo2
     have hw2:IntKind.i64.wrap ((j:Int)+1)=(j:Int)+1:=aS (by omega) (by omega)
     obtain ⟨ov,ob,ol⟩:=hpt j
     have hmv:=hm.val _ (List.getElem_mem hgo2)
     have hmb:=hm.bb _ (List.getElem_mem hgo2)
     have hml2:=hm.bl _ (List.getElem_mem hgo2)
     have htk2:bV [] (pre++apP (m.take (j+1)) (n,z))=bV (bV [] (pre++apP (m.take j) (n,z))) (if m[j].1=n then mulR z m[j].2 else []):=by
      rw [bDv hgo2,← List.append_assoc,aCc]
     refine (show ∃ p,m[j]=p from ⟨_,rfl⟩).elim fun p hpe2=>?_
     rw [hpe2] at hy1 hmv hmb hml2 htk2
     obtain ⟨q,y⟩:=p
     simp only at hmv hmb hml2 htk2
     refine (show ∃ out,bV [] (pre++apP (m.take j) (n,z))=out from ⟨_,rfl⟩).elim fun out hoe=>?_
     rw [hoe] at ob ol ov htk2
     simp only [hoe]
     by_cases h1:q=n
     ·have h1':((q == n):Bool)=true:=by simpa using h1
      have q3:(((n:Int) == (n:Int)):Bool)=true:=by simp
      rw [if_pos h1] at htk2
      have hP:=oT (k:=z) ob hmb hxg (by omega) (by omega) (by omega) (by omega)
      rw [yP ov hmv] at hP
      unfold lin at hP
      rw [← htk2] at hP
      simp [-map_map,-mapM_map,↓KW,bJ,aM,gA,q2,hx1,hy1,h1,h1',q3,bB,aJ,aD,aP,aE,aB,aC]
      refine aA (ds:=[aM out,aM y,encZ z]) (by rfl) hP ?_
      simp [-map_map,-mapM_map,↓KW,hw2,aQ,bF,aE,aB]
      refine aK (j+1) hgo2 (Nat.sub_lt_sub_left hgo2 (Nat.lt_succ_self _)) (bC [] (by simp) ?_ ?_) <;> simp [-map_map,upd,aT,Γ0,bJ,aM]
     ·have h1':((q == n):Bool)=false:=by simpa using h1
      rw [if_neg h1] at htk2
      have htk3:bV [] (pre++apP (m.take (j+1)) (n,z))=out:=htk2
      simp [-map_map,-mapM_map,↓KW,bJ,aM,gA,q2,hx1,hy1,h1,h1',bB,aJ,aD,aP,aE,aB,aC,hw2]
      refine aK (j+1) hgo2 (Nat.sub_lt_sub_left hgo2 (Nat.lt_succ_self _)) (bC [] (by simp) ?_ ?_) <;> simp [-map_map,upd,aT,Γ0,bJ,aM,htk3]
    ·have q2:¬ (j:Int)<m.length:=by omega
     rw [List.take_of_length_le (by omega),← htk]
     simp [-map_map,-mapM_map,↓KW,bJ,aM,q2,hw]
     refine aK (i+1) hgo (Nat.sub_lt_sub_left hgo (Nat.lt_succ_self _)) (bC [] (by simp) ?_ ?_) <;> simp [-map_map,upd,aT,Γ0,bJ,aM]
  ·have q1:¬ (i:Int)<x.length:=by omega
   rw [List.take_of_length_le (by omega)]
   simp [-map_map,-mapM_map,↓KW,bJ,aM,q1,apX]
end Go.Am
end

section
set_option linter.unusedVariables false
set_option linter.unusedSimpArgs false
open List (map_map mapM_map)
open Go Go.Am Go.Proofs
namespace Go.Am
structure CmT (a b:List Cl) (m:List (Int × Ch)):Prop where
 len:m.length=a.length
 id:∀ (i:Nat) x p,a[i]? = some x→m[i]? = some p→p.1=x.id
 key:∀ (i:Nat) x p,a[i]? = some x→m[i]? = some p→∀ f∈p.2,∃ y,bT b f.1=some y∧y.dim=x.dim
 bd:∀ (i:Nat) x p,a[i]? = some x→m[i]? = some p→bdX b p.2=apX m x.b
set_option maxHeartbeats 4000000 in
set_option maxRecDepth 10000 in
theorem aIv {a b:List Cl} {m:List (Int × Ch)} {e f h:Nat} (hc:CmT a b m) (ha:SzX e a) (hb:SzX f b) (hbv:∀ y∈b,Val y.b) (hm:SzM h m) (h1:f+h+20<4398046511104) (h2:e+h+24<4398046511104) :
  Spec Tryz.prog 15 [aI a,aI b,bJ m] (.b true):=by
 have hal:=ha.len
 have hbl:=hb.len
 have hml:=hc.len
 refine aY (N:=101) aF Tryz.func15 rfl rfl rfl (by kernel_rfl) (by kernel_rfl) (by simp) ?_
 have h0:((m.length:Int) != a.length)=false:=by simp; omega
 simp [-map_map,-mapM_map,↓KW,aI,bJ,h0]
 refine aU (fun i:Nat=>i≤a.length) (fun i=>StL [(0,.d (aI a)),(1,.d (aI b)),(2,.d (bJ m)),(7,.d (.i .i64 (i:Int)))] none []) (fun i=>a.length - i) 0 (Nat.zero_le _) ?_ ?_
 ·refine bC [] (by simp) ?_ ?_ <;> simp [-map_map,upd,aT,Γ0,aI,bJ]
 ·intro i hi
  by_cases hgo:i<a.length
  ·have q1:(i:Int)<a.length:=by omega
   have hgm:i<m.length:=by omega
   have hx:a[i]? = some a[i]:=List.getElem?_eq_getElem hgo
   have hp:m[i]? = some m[i]:=List.getElem?_eq_getElem hgm
   have hw:IntKind.i64.wrap ((i:Int)+1)=(i:Int)+1:=aS (by omega) (by omega)
   have hid:=hc.id i _ _ hx hp
   have hkey:=hc.key i _ _ hx hp
   have hpv:=hm.val _ (List.getElem_mem hgm)
   have hpb:=hm.bb _ (List.getElem_mem hgm)
   have hpl:=hm.bl _ (List.getElem_mem hgm)
   refine (show ∃ x,a[i]=x from ⟨_,rfl⟩).elim fun x hxe=>?_
   refine (show ∃ p,m[i]=p from ⟨_,rfl⟩).elim fun p hpe=>?_
   rw [hxe] at hx hid hkey
   rw [hpe] at hp hid hkey hpv hpb hpl
   obtain ⟨n,y⟩:=p
   simp only at hid hkey hpv hpb hpl
   have hV:=nP y (hpb.sz (by omega)) (by omega)
   rw [sZ hpv] at hV
   have hyc:aZ x=[D.i .i64 x.id,.i .i64 x.dim,aM x.b]:=rfl
   have q3:((x.id != x.id):Bool)=false:=by simp
   simp [-map_map,-mapM_map,↓KW,aI,bJ,gA,q1,hx,hp,hyc,hid,q3,aE,aB,aC]
   refine aA (ds:=[aM y]) (by rfl) hV ?_
   simp [-map_map,-mapM_map,↓KW,aI,bJ,aM]
   refine aU (fun j:Nat=>j≤y.length) (fun j=>StL [(0,.d (aI a)),(1,.d (aI b)),(2,.d (bJ m)),(7,.d (.i .i64 (i:Int))),(8,.d (.i .i64 (j:Int)))] none []) (fun j=>y.length - j) 0 (Nat.zero_le _) ?_ ?_
   ·refine bC [] (by simp) ?_ ?_ <;> simp [-map_map,upd,aT,Γ0,aI,bJ]
   ·intro j hj
    by_cases hgo2:j<y.length
    ·have q2:(j:Int)<y.length:=by omega
     have hf:y[j]? = some y[j]:=List.getElem?_eq_getElem hgo2
     have hw2:IntKind.i64.wrap ((j:Int)+1)=(j:Int)+1:=aS (by omega) (by omega)
     obtain ⟨z,hz,hzd⟩:=hkey _ (List.getElem_mem hgo2)
     refine (show ∃ u,y[j]=u from ⟨_,rfl⟩).elim fun u hue=>?_
     rw [hue] at hf hz
     obtain ⟨n2,v2⟩:=u
     simp only at hz
     have hF:=nC b n2 (by omega)
     unfold wP at hF
     rw [hz] at hF
     simp only [Option.getD_some,Option.isSome_some] at hF
     have q4:((x.dim != x.dim):Bool)=false:=by simp
     simp [-map_map,-mapM_map,↓KW,aI,bJ,gA,aM,q2,hp,hx,hf,bB,aJ,aD,aP]
     refine aA (ds:=[aI b,.i .i64 n2]) (by rfl) hF ?_
     simp [-map_map,-mapM_map,↓KW,aI,bJ,bN,hyc,hx,hzd,q4,hw2,aE,aB,aC]
     refine aK (j+1) hgo2 (Nat.sub_lt_sub_left hgo2 (Nat.lt_succ_self _)) (bC [] (by simp) ?_ ?_) <;> simp [-map_map,upd,aT,Γ0,aI,bJ]
    ·have q2:¬ (j:Int)<y.length:=by omega
     simp [-map_map,-mapM_map,↓KW,aI,bJ,gA,aM,q2,hp,hx,hw]
     refine aK (i+1) hgo (Nat.sub_lt_sub_left hgo (Nat.lt_succ_self _)) (bC [] (by simp) ?_ ?_) <;> simp [-map_map,upd,aT,Γ0,aI,bJ]
  ·have q1:¬ (i:Int)<a.length:=by omega
   simp [-map_map,-mapM_map,↓KW,aI,bJ,q1]
   refine aU (fun i:Nat=>i≤a.length) (fun i=>StL [(0,.d (aI a)),(1,.d (aI b)),(2,.d (bJ m)),(11,.d (.i .i64 (i:Int)))] none []) (fun i=>a.length - i) 0 (Nat.zero_le _) ?_ ?_
   ·refine bC [] (by simp) ?_ ?_ <;> simp [-map_map,upd,aT,Γ0,aI,bJ]
   ·clear hgo q1 hi i
    intro i hi
    by_cases hgo:i<a.length
    ·have q1:(i:Int)<a.length:=by omega
     have hgm:i<m.length:=by omega
     have hx:a[i]? = some a[i]:=List.getElem?_eq_getElem hgo
     have hp:m[i]? = some m[i]:=List.getElem?_eq_getElem hgm
     have hw:IntKind.i64.wrap ((i:Int)+1)=(i:Int)+1:=aS (by omega) (by omega)
     have hbd:=hc.bd i _ _ hx hp
     have hpb:=hm.bb _ (List.getElem_mem hgm)
     have hpl:=hm.bl _ (List.getElem_mem hgm)
     have hxb:=ha.bb _ (List.getElem_mem hgo)
     have hxl:=ha.bl _ (List.getElem_mem hgo)
     refine (show ∃ x,a[i]=x from ⟨_,rfl⟩).elim fun x hxe=>?_
     refine (show ∃ p,m[i]=p from ⟨_,rfl⟩).elim fun p hpe=>?_
     rw [hxe] at hx hbd hxb hxl
     rw [hpe] at hp hbd hpb hpl
     obtain ⟨n,y⟩:=p
     simp only at hbd hpb hpl
     have hA:=aDm (x:=y) hbv hb hpl hpb h1
     have hP:=aYf (x:=x.b) hm hxl hxb h2
     have hB:=bKd hb hpl hpb
     have hS:=oS (bdX b y) (apX m x.b) (hB.1.sz (by omega)) (by rw [← hbd]; exact hB.1.sz (by omega)) (by have:=hB.2; omega) (by rw [← hbd]; have:=hB.2; omega)
     rw [decide_eq_true hbd] at hS
     have hyc:aZ x=[D.i .i64 x.id,.i .i64 x.dim,aM x.b]:=rfl
     simp [-map_map,-mapM_map,↓KW,aI,bJ,gA,q1,hx,hp,hyc,aE,aB,aC]
     refine aA (ds:=[aI b,aM y]) (by rfl) hA ?_
     simp [-map_map,-mapM_map,↓KW,aI,bJ,gA,q1,hx,hp,hyc,aE,aB,aC,aQ,bF]
     refine aA (ds:=[bJ m,aM x.b]) (by rfl) hP ?_
     simp [-map_map,-mapM_map,↓KW,aI,bJ,gA,q1,hx,hp,hyc,aE,aB,aC,aQ,bF]
     refine aA (ds:=[aM (bdX b y),aM (apX m x.b)]) (by rfl) hS ?_
     simp [-map_map,-mapM_map,↓KW,aI,bJ,hw]
     refine aK (i+1) hgo (Nat.sub_lt_sub_left hgo (Nat.lt_succ_self _)) (bC [] (by simp) ?_ ?_) <;> simp [-map_map,upd,aT,Γ0,aI,bJ]
    ·have q1:¬ (i:Int)<a.length:=by omega
     simp [-map_map,-mapM_map,↓KW,aI,bJ,q1]
set_option maxHeartbeats 4000000 in
set_option maxRecDepth 10000 in
theorem bGq {c:List Cl} {x:Cl} {e f:Nat} (hc:SzX e c) (hcv:∀ y∈c,Val y.b) (hxv:Val x.b) (hxl:x.b.length≤100) (hxb:Bnd (2 ^ f) x.b) (hd:0≤x.dim∧x.dim≤3) (hk:∀ g∈x.b,∃ y,bT c g.1=some y∧y.dim=x.dim - 1) (hz:bdX c x.b=[])
  (hef:e+f+20<4398046511104):Spec Tryz.prog 51 [aI c,.ag (aZ x)] (.i .i64 0):=by
 have hcl:=hc.len
 refine aY (N:=73) aF Tryz.func51 rfl rfl rfl (by kernel_rfl) (by kernel_rfl) (by simp) ?_
 have hV:=nP x.b (hxb.sz (by omega)) (by omega)
 rw [sZ hxv] at hV
 have hA:=aDm hcv hc hxl hxb (by omega)
 rw [hz] at hA
 simp [-map_map,-mapM_map,↓KW,aI,bN,aE,aB,aC]
 refine aA (ds:=[aM x.b]) (by rfl) hV ?_
 simp [-map_map,-mapM_map,↓KW,aI]
 refine aU (fun j:Nat=>j≤x.b.length) (fun j=>StL [(0,.d (aI c)),(3,.ptr 1 0),(5,.d (.i .i64 (j:Int)))] none [.cells 47 [.d (.i .i64 x.id),.d (.i .i64 x.dim),.d (aM x.b)]]) (fun j=>x.b.length - j) 0 (Nat.zero_le _) ?_ ?_
 ·refine bC [1] (by simp) ?_ ?_ <;> simp [-map_map,upd,aT,Γ0,aI]
 ·intro j hj
  by_cases hgo2:j<x.b.length
  ·have q2:(j:Int)<x.b.length:=by omega
   have hf:x.b[j]? = some x.b[j]:=List.getElem?_eq_getElem hgo2
   have hw2:IntKind.i64.wrap ((j:Int)+1)=(j:Int)+1:=aS (by omega) (by omega)
   obtain ⟨z,hzf,hzd⟩:=hk _ (List.getElem_mem hgo2)
   refine (show ∃ u,x.b[j]=u from ⟨_,rfl⟩).elim fun u hue=>?_
   rw [hue] at hf hzf
   obtain ⟨n2,v2⟩:=u
   simp only at hzf
   have hF:=nC c n2 (by omega)
   unfold wP at hF
   rw [hzf] at hF
   simp only [Option.getD_some,Option.isSome_some] at hF
   simp [-map_map,-mapM_map,↓KW,aI,aM,q2,hf,bB,aJ,aD,aP]
   refine aA (ds:=[aI c,.i .i64 n2]) (by rfl) hF ?_
   simp [-map_map,-mapM_map,↓KW,aI,bN,hw2,aE,aB,aC]
   refine aK (j+1) hgo2 (Nat.sub_lt_sub_left hgo2 (Nat.lt_succ_self _)) (bC [1] (by simp) ?_ ?_) <;> simp [-map_map,upd,aT,Γ0,aI,aM]
  ·have q2:¬ (j:Int)<x.b.length:=by omega
   have d1:¬ x.dim<0:=by omega
   have d2:¬ 3<x.dim:=by omega
   simp [-map_map,-mapM_map,↓KW,aI,aM,q2,d1,d2]
   refine aU (fun j:Nat=>j≤x.b.length) (fun j=>StL [(0,.d (aI c)),(3,.ptr 1 0),(8,.d (.i .i64 (j:Int)))] none [.cells 47 [.d (.i .i64 x.id),.d (.i .i64 x.dim),.d (aM x.b)]]) (fun j=>x.b.length - j) 0 (Nat.zero_le _) ?_ ?_
   ·refine bC [1] (by simp) ?_ ?_ <;> simp [-map_map,upd,aT,Γ0,aI,aM]
   ·clear hgo2 q2 hj j
    intro j hj
    by_cases hgo2:j<x.b.length
    ·have q2:(j:Int)<x.b.length:=by omega
     have hf:x.b[j]? = some x.b[j]:=List.getElem?_eq_getElem hgo2
     have hw2:IntKind.i64.wrap ((j:Int)+1)=(j:Int)+1:=aS (by omega) (by omega)
     have hw3:IntKind.i64.wrap (x.dim - 1)=x.dim - 1:=aS (by omega) (by omega)
     obtain ⟨z,hzf,hzd⟩:=hk _ (List.getElem_mem hgo2)
     refine (show ∃ u,x.b[j]=u from ⟨_,rfl⟩).elim fun u hue=>?_
     rw [hue] at hf hzf
     obtain ⟨n2,v2⟩:=u
     simp only at hzf
     have hF:=nC c n2 (by omega)
     unfold wP at hF
     rw [hzf] at hF
     simp only [Option.getD_some,Option.isSome_some] at hF
     have q4:((x.dim - 1 != x.dim - 1):Bool)=false:=by simp
     simp [-map_map,-mapM_map,↓KW,aI,aM,q2,hf,bB,aJ,aD,aP]
     refine aA (ds:=[aI c,.i .i64 n2]) (by rfl) hF ?_
     simp [-map_map,-mapM_map,↓KW,aI,aM,bN,hw2,hw3,hzd,q4,aE,aB,aC]
     refine aK (j+1) hgo2 (Nat.sub_lt_sub_left hgo2 (Nat.lt_succ_self _)) (bC [1] (by simp) ?_ ?_) <;> simp [-map_map,upd,aT,Γ0,aI,aM]
    ·have q2:¬ (j:Int)<x.b.length:=by omega
     simp [-map_map,-mapM_map,↓KW,aI,aM,q2]
     refine aA (ds:=[aI c,aM x.b]) (by rfl) hA ?_
     simp [-map_map,-mapM_map,↓KW,aI,aM]
theorem CxV.bd0 {c:List Cl} (h:CxV c) {x:Cl} (hx:x∈c):bdX c x.b=[]:=by
 obtain ⟨h1,h2⟩:=aRw c x.b
 refine h1.ext Val.nil fun n=>?_
 rw [h2,iK]
 exact h.cyc x hx n
set_option maxHeartbeats 4000000 in
set_option maxRecDepth 10000 in
theorem aYj {c:List Cl} {e:Nat} (h:CxV c) (hc:SzX e c) (he:e+e+20<4398046511104):Spec Tryz.prog 14 [aI c] (.b true):=by
 have hcl:=hc.len
 refine aY (N:=52) aF Tryz.func14 rfl rfl rfl (by kernel_rfl) (by kernel_rfl) (by simp) ?_
 have q0:¬ (400:Int)<c.length:=by omega
 simp [-map_map,-mapM_map,↓KW,aI,q0]
 refine aU (fun i:Nat=>i≤c.length) (fun i=>StL [(0,.d (aI c)),(3,.d (.i .i64 (i:Int)))] none []) (fun i=>c.length - i) 0 (Nat.zero_le _) ?_ ?_
 ·refine bC [] (by simp) ?_ ?_ <;> simp [-map_map,upd,aT,Γ0,aI]
 ·intro i hi
  by_cases hgo:i<c.length
  ·have q1:(i:Int)<c.length:=by omega
   have hx:c[i]? = some c[i]:=List.getElem?_eq_getElem hgo
   have hw:IntKind.i64.wrap ((i:Int)+1)=(i:Int)+1:=aS (by omega) (by omega)
   have hxv:=h.val _ (List.getElem_mem hgo)
   have hxb:=hc.bb _ (List.getElem_mem hgo)
   have hxl:=hc.bl _ (List.getElem_mem hgo)
   have hprev:∀ (j:Nat) (hj:j<c.length),j<i→c[j].id<c[i].id:=fun j hj hji=>(List.pairwise_iff_getElem.1 h.inc) j i hj hgo hji
   refine (show ∃ x,c[i]=x from ⟨_,rfl⟩).elim fun x hxe=>?_
   rw [hxe] at hx hxv hxb hxl
   simp only [hxe] at hprev
   have hV:=nP x.b (hxb.sz (by omega)) (by omega)
   rw [sZ hxv] at hV
   have hyc:aZ x=[D.i .i64 x.id,.i .i64 x.dim,aM x.b]:=rfl
   rcases i with _ | i
   ·have hw0:IntKind.i64.wrap 1=1:=aS (by omega) (by omega)
    have hxe':∀ h:0<c.length,c[0]'h=x:=fun _=>hxe
    simp [-map_map,-mapM_map,↓KW,aI,hgo,hx,hxe',hyc,aE,aB,aC]
    refine aA (ds:=[aM x.b]) (by rfl) hV ?_
    simp [-map_map,-mapM_map,↓KW,aI,hw0]
    refine aK (0+1) hgo (Nat.sub_lt_sub_left hgo (Nat.lt_succ_self _)) (bC [] (by simp) ?_ ?_) <;> simp [-map_map,upd,aT,Γ0,aI]
   ·have hgp:i<c.length:=by omega
    have hp:c[i]? = some c[i]:=List.getElem?_eq_getElem hgp
    have hlt:=hprev i hgp (by omega)
    have q3:(0:Int)<((i+1:Nat):Int):=by omega
    have hw2:IntKind.i64.wrap (((i+1:Nat):Int) - 1)=(i:Int):=by rw [aS (by omega) (by omega)]; omega
    refine (show ∃ y,c[i]=y from ⟨_,rfl⟩).elim fun y hye=>?_
    rw [hye] at hp hlt
    have hyc2:aZ y=[D.i .i64 y.id,.i .i64 y.dim,aM y.b]:=rfl
    have q4:¬ x.id≤y.id:=by omega
    have q5:(0:Int)≤(i:Int):=by omega
    have hw':IntKind.i64.wrap (((i+1:Nat):Int)+1)=((i+1+1:Nat):Int):=by rw [aS (by omega) (by omega)]; omega
    obtain ⟨I,hI⟩:∃ I:Int,((i+1:Nat):Int)=I:=⟨_,rfl⟩
    have hIt:I.toNat=i+1:=by omega
    have q6:0≤I:=by omega
    rw [hI] at q1 q3 hw2 hw'
    simp only [hI]
    simp [-map_map,-mapM_map,↓KW,aI,q1,q3,hIt,q6,hw2,q5,hx,hp,hyc,hyc2,q4,aE,aB,aC]
    refine aA (ds:=[aM x.b]) (by rfl) hV ?_
    simp [-map_map,-mapM_map,↓KW,aI,hw']
    refine aK (i+1+1) hgo (Nat.sub_lt_sub_left hgo (Nat.lt_succ_self _)) (bC [] (by simp) ?_ ?_) <;> simp [-map_map,upd,aT,Γ0,aI]
  ·have q1:¬ (i:Int)<c.length:=by omega
   simp [-map_map,-mapM_map,↓KW,aI,q1]
   refine aU (fun i:Nat=>i≤c.length) (fun i=>StL [(0,.d (aI c)),(4,.d (.i .i64 (i:Int)))] none []) (fun i=>c.length - i) 0 (Nat.zero_le _) ?_ ?_
   ·refine bC [] (by simp) ?_ ?_ <;> simp [-map_map,upd,aT,Γ0,aI]
   ·clear hgo q1 hi i
    intro i hi
    by_cases hgo:i<c.length
    ·have q1:(i:Int)<c.length:=by omega
     have hx:c[i]? = some c[i]:=List.getElem?_eq_getElem hgo
     have hw:IntKind.i64.wrap ((i:Int)+1)=(i:Int)+1:=aS (by omega) (by omega)
     have hF:=bGq (x:=c[i]) hc h.val (h.val _ (List.getElem_mem hgo)) (hc.bl _ (List.getElem_mem hgo)) (hc.bb _ (List.getElem_mem hgo)) (h.dim _ (List.getElem_mem hgo)) (fun g hg=>by
      obtain ⟨y,hy,e1,e2⟩:=h.face _ (List.getElem_mem hgo) g hg
      exact ⟨y,by rw [← e1]; exact h.inc.find hy,e2⟩) (h.bd0 (List.getElem_mem hgo)) he
     refine (show ∃ x,c[i]=x from ⟨_,rfl⟩).elim fun x hxe=>?_
     rw [hxe] at hx hF
     have hyc:aZ x=[D.i .i64 x.id,.i .i64 x.dim,aM x.b]:=rfl
     simp [-map_map,-mapM_map,↓KW,aI,q1,hx,hyc,aE,aB,aC]
     refine aA (ds:=[aI c,.ag (aZ x)]) (by rfl) hF ?_
     simp [-map_map,-mapM_map,↓KW,aI,hw]
     refine aK (i+1) hgo (Nat.sub_lt_sub_left hgo (Nat.lt_succ_self _)) (bC [] (by simp) ?_ ?_) <;> simp [-map_map,upd,aT,Γ0,aI]
    ·have q1:¬ (i:Int)<c.length:=by omega
     simp [-map_map,-mapM_map,↓KW,aI,q1]
end Go.Am
end

section
set_option linter.unusedVariables false
set_option linter.unusedSimpArgs false
open Go Go.Am Go.Proofs
namespace Go.Am
theorem aHa {g:List (Int × Ch)}:∀ {c:List Cl} {y:Cl} {f:Int × Int},Inc c→y∈c→f.1=y.id→apP (fQ c g) f=mulR f.2 ((mX g y.id).getD [(y.id,1)])
 | z::c,y,f,hi,hy,hf=>by
  obtain ⟨h1,h2⟩:=List.pairwise_cons.1 hi
  have hnone:∀ {c:List Cl},(∀ x∈c,x.id≠f.1)→apP (fQ c g) f=[]:=by
   intro c hc
   induction c with
   | nil=>rfl
   | cons u c ih =>
    show (if u.id=f.1 then _ else [])++apP (fQ c g) f=[]
    rw [if_neg (hc u (List.mem_cons_self ..)),ih fun x hx=>hc x (List.mem_cons_of_mem _ hx)]; rfl
  show (if z.id=f.1 then mulR f.2 ((mX g z.id).getD [(z.id,1)]) else [])++apP (fQ c g) f=_
  rcases List.mem_cons.1 hy with rfl | hy
  ·rw [if_pos hf.symm,hnone fun x hx=>by have:=h1 x hx; omega,List.append_nil]
  ·rw [if_neg (by have:=h1 y hy; omega),List.nil_append,aHa h2 hy hf]
theorem aSc {g:List (Int × Ch)} {c:List Cl} (hi:Inc c) (r:Int→Int) (hr:∀ y∈c,(mX g y.id).getD [(y.id,1)]=[(r y.id,1)]):∀ {x:Ch},(∀ f∈x,∃ y∈c,y.id=f.1)→apL (fQ c g) x=x.map fun f=>(r f.1,f.2)
 | [],_=>rfl
 | f::x,h=>by
  obtain ⟨y,hy,he⟩:=h f (List.mem_cons_self ..)
  show apP (fQ c g) f++apL (fQ c g) x=_
  rw [aHa hi hy he.symm,hr y hy,aSc hi r hr fun f hf=>h f (List.mem_cons_of_mem _ hf),he]
  simp [mulR]
/-! Weights under a renaming -/
theorem zG (w:Int→Int) (r:Int→Int):∀ l:Ch,bU w (l.map fun f=>(r f.1,f.2))=bU (fun n=>w (r n)) l
 | []=>rfl
 | f::l=>by simp only [List.map_cons,bU,zG w r l]
theorem CxV.wcyc {c:List Cl} (h:CxV c) {x:Cl} (hx:x∈c) (w:Int→Int):bU (fun m=>bU w (Go.Am.bOf c m)) x.b=0:=by
 rw [← zH]
 have h1:=h.bd0 hx
 have h2:bU w (bdX c x.b)=bU w []+bU w (bdL c x.b):=kN w _ _
 rw [h1] at h2
 simp only [bU] at h2; omega
theorem eR (w:Int→Int) (l:Ch):bU w (bV [] l)=bU w l:=by rw [kN]; simp [bU]
def rn (a b n:Int):Int:=if n=b then a else n
theorem yM (a b:Int):xX a b=fun f=>(rn a b f.1,f.2):=by
 funext f
 unfold xX rn
 split <;> rfl
structure aLy (c:List Cl) (a b:Int):Prop where
 ne:a≠b
 ina:∃ x∈c,x.id=a
 inb:∃ x∈c,x.id=b
 dim:dOf c a=dOf c b
 bd:bOf c a=bOf c b
section
variable {c:List Cl} {a b:Int}
theorem mJ {z:Cl}:z∈aAy c a b↔∃ y∈c,y.id≠b∧z=aAx a b y:=by
 unfold aAy
 rw [List.mem_map]
 constructor
 ·rintro ⟨y,hy,rfl⟩
  obtain ⟨h1,h2⟩:=List.mem_filter.1 hy
  exact ⟨y,h1,by simpa using h2,rfl⟩
 ·rintro ⟨y,h1,h2,rfl⟩
  exact ⟨y,List.mem_filter.2 ⟨h1,by simpa using h2⟩,rfl⟩
theorem aKt (h:Inc c):Inc (aAy c a b):=by
 unfold aAy Inc
 rw [List.pairwise_map]
 exact List.Pairwise.filter _ h
theorem bCl (h:Inc c) {x:Cl} (hx:x∈c):dOf c x.id=x.dim:=by unfold dOf; rw [h.find hx]; rfl
theorem aKs (h:Inc c) {y:Cl} (hy:y∈c) (hn:y.id≠b):bT (aAy c a b) y.id=some (aAx a b y):=(aKt h).find (x:=aAx a b y) (mJ.2 ⟨y,hy,hn,rfl⟩)
theorem bIr (h:Inc c) {y:Cl} (hy:y∈c) (hn:y.id≠b):bOf (aAy c a b) y.id=bV [] (y.b.map (xX a b)):=by unfold bOf; rw [aKs h hy hn]; rfl
theorem aLy.rep (t:aLy c a b) (h:CxV c) {y:Cl} (hy:y∈c):∃ z∈c,z.id≠b∧z.id=rn a b y.id∧z.dim=y.dim∧z.b=y.b:=by
 by_cases e:y.id=b
 ·obtain ⟨z,hz,hza⟩:=t.ina
  refine ⟨z,hz,by rw [hza]; exact t.ne,by unfold rn; rw [if_pos e]; exact hza,?_,?_⟩
  ·have:=t.dim; rw [← hza,← e,bCl h.inc hz,bCl h.inc hy] at this; exact this
  ·have:=t.bd; rw [← hza,← e,h.bOf hz,h.bOf hy] at this; exact this
 ·exact ⟨y,hy,e,by unfold rn; rw [if_neg e],rfl,rfl⟩
theorem aLy.bOf (t:aLy c a b) (h:CxV c) {y:Cl} (hy:y∈c):Go.Am.bOf (aAy c a b) (rn a b y.id)=bV [] (y.b.map (xX a b)):=by
 obtain ⟨z,hz,h1,h2,_,h4⟩:=t.rep h hy
 rw [← h2,bIr h.inc hz h1,h4]
theorem aLy.valid (t:aLy c a b) (h:CxV c):CxV (aAy c a b):=by
 refine ⟨aKt h.inc,fun z hz=>?_,fun z hz=>?_,fun z hz f hf=>?_,fun z hz n=>?_⟩
 ·obtain ⟨y,hy,_,rfl⟩:=mJ.1 hz
  exact h.dim y hy
 ·obtain ⟨y,hy,_,rfl⟩:=mJ.1 hz
  exact (dI _ [] Val.nil).1
 ·obtain ⟨y,hy,_,rfl⟩:=mJ.1 hz
  obtain ⟨h1,h2⟩:=dI (y.b.map (xX a b)) [] Val.nil
  have hf':f∈bV [] (y.b.map (xX a b)):=hf
  have e:=iJ h1 hf'
  rw [h2,iK,Int.zero_add] at e
  have hne:cf f.1 (y.b.map (xX a b))≠0:=by rw [e]; exact h1.2 f hf'
  obtain ⟨g,hg,he⟩:∃ g∈y.b,(xX a b g).1=f.1:=Classical.byContradiction fun hn=>hne (sE fun x hx e=>by
   obtain ⟨g,hg,rfl⟩:=List.mem_map.1 hx
   exact hn ⟨g,hg,e⟩)
  obtain ⟨u,hu,e1,e2⟩:=h.face y hy g hg
  obtain ⟨z,hz',k1,k2,k3,_⟩:=t.rep h hu
  refine ⟨aAx a b z,mJ.2 ⟨z,hz',k1,rfl⟩,?_,?_⟩
  ·show z.id=f.1
   rw [k2,e1,← he,yM]
  ·show z.dim=y.dim - 1
   rw [k3,e2]
 ·obtain ⟨y,hy,_,rfl⟩:=mJ.1 hz
  show bU (fun m=>cf n (Go.Am.bOf (aAy c a b) m)) (bV [] (y.b.map (xX a b)))=0
  rw [eR,yM,zG]
  refine Eq.trans (gH fun f hf=>?_) (h.wcyc hy fun k=>if n=rn a b k then 1 else 0)
  obtain ⟨u,hu,e1,_⟩:=h.face y hy f hf
  rw [← e1,t.bOf h hu,h.bOf hu,nI,eR,yM,zG]
theorem aLa (a b n:Int):(mX [(b,[(a,1)])] n).getD [(n,1)]=[(rn a b n,1)]:=by
 unfold mX rn
 by_cases e:n=b
 ·rw [if_pos e]; simp [e]
 ·rw [if_neg e]
  have:¬ b=n:=fun h=>e h.symm
  simp [this]
theorem aLy.comm (t:aLy c a b) (h:CxV c):CmT c (aAy c a b) (fQ c [(b,[(a,1)])]):=by
 have hget:∀ (i:Nat) x p,c[i]? = some x→(fQ c [(b,[(a,1)])])[i]? = some p→p=(x.id,[(rn a b x.id,1)]):=fun i x p hx hp=>by
  unfold fQ at hp
  rw [List.getElem?_map,hx] at hp
  injection hp with hp
  simp only [aLa] at hp
  exact hp.symm
 refine ⟨by simp [fQ],fun i x p hx hp=>by rw [hget i x p hx hp],fun i x p hx hp f hf=>?_,fun i x p hx hp=>?_⟩
 ·rw [hget i x p hx hp] at hf
  have hf':f=(rn a b x.id,1):=by simpa using hf
  subst hf'
  obtain ⟨z,hz,h1,h2,h3,_⟩:=t.rep h (List.mem_of_getElem? hx)
  exact ⟨aAx a b z,by rw [← h2]; exact aKs h.inc hz h1,h3⟩
 ·have hxc:=List.mem_of_getElem? hx
  rw [hget i x p hx hp]
  obtain ⟨z,hz,h1,h2,_,h4⟩:=t.rep h hxc
  have e1:bdX (aAy c a b) [(rn a b x.id,1)]=bV [] (x.b.map (xX a b)):=by
   have:=bPa (t.valid h) (y:=aAx a b z) (mJ.2 ⟨z,hz,h1,rfl⟩)
   rw [← h2]
   refine Eq.trans this ?_
   show bV [] (z.b.map (xX a b))=_
   rw [h4]
  rw [e1]
  unfold apX
  rw [aSc h.inc (rn a b) (fun y _=>aLa a b y.id) (fun f hf=>let ⟨y,hy,e,_⟩:=h.face x hxc f hf; ⟨y,hy,e⟩),yM]
end
end Go.Am
end

section
set_option linter.unusedVariables false
set_option linter.unusedSimpArgs false
open Go Go.Am Go.Proofs
namespace Go.Am
theorem aDg {a b:Ch} (ha:Val a) (hb:Val b) (h:∀ w,bU w a=bU w b):a=b :=
 ha.ext hb fun n=>by rw [← iS ha,← iS hb,nI,nI]; exact h _
theorem yE (w:Int→Int):∀ l:Ch,bU w (sK l)+bU w (tE l)=bU w l
 | []=>rfl
 | f::l=>by
  have ih:=yE w l
  unfold sK tE at ih ⊢
  by_cases h:0<f.2
  ·simp only [List.filter_cons,h,decide_true,if_true,Bool.not_true,Bool.false_eq_true,if_false,bU]
   omega
  ·simp only [List.filter_cons,h,decide_false,Bool.false_eq_true,if_false,Bool.not_false,if_true,bU]
   omega
theorem pW (w:Int→Int) (e w1:Int):∀ l:Ch,bU w (adF e w1 l)=cf e l * w w1
 | []=>by simp [adF,bU,cf]
 | f::l=>by
  have ih:=pW w e w1 l
  unfold adF at ih ⊢
  simp only [cf]
  by_cases h:f.1=e
  ·have h':e=f.1:=h.symm
   simp only [List.filter_cons,h,decide_true,if_true,List.map_cons,bU,ih]
   rw [Int.add_mul]
  ·have h':¬ e=f.1:=fun x=>h x.symm
   simp only [List.filter_cons,h,decide_false,Bool.false_eq_true,if_false,ih,if_neg h']
   simp
theorem vU (a b d:Int→Int) (k r:Int):∀ l:Ch,bU (fun m=>a m+k * b m - r * d m) l=bU a l+k * bU b l - r * bU d l
 | []=>by simp [bU]
 | f::l=>by
  simp only [bU,vU a b d k r l]
  rw [Int.mul_sub,Int.mul_add,Int.mul_add,Int.mul_add,Int.mul_left_comm f.2 k,Int.mul_left_comm f.2 r]
  omega
theorem aEg {l:Ch} {f:Int × Int} (h:f∈bV [] l):∃ g∈l,g.1=f.1:=by
 obtain ⟨h1,h2⟩:=dI l [] Val.nil
 have e:=iJ h1 h
 rw [h2,iK,Int.zero_add] at e
 have hne:cf f.1 l≠0:=by rw [e]; exact h1.2 f h
 exact Classical.byContradiction fun hn=>hne (sE fun x hx e=>hn ⟨x,hx,e⟩)
theorem bBg (m e:Int):(if m=e then (1:Int) else 0)=if e=m then 1 else 0:=by
 by_cases q:m=e
 ·simp [q]
 ·have q':¬ e=m:=fun x=>q x.symm
  simp [q,q']
structure iV (c:List Cl) (e w0 w1:Int):Prop where
 ine:∃ x∈c,x.id=e∧x.dim=1
 n0:∀ y∈c,y.id≠w0
 n1:∀ y∈c,y.id≠w1
 ne:w0≠w1
section
variable {c:List Cl} {e w0 w1:Int}
theorem fW {z:Cl}:z∈mF c e w0 w1↔z=wC w0∨z=aIg w0 w1 (bOf c e)∨∃ y∈c,z=iG e w0 w1 (bOf c e) y:=by
 rw [(wF c e w0 w1).mem_iff]
 unfold aIe
 rw [List.mem_append,List.mem_cons,List.mem_singleton,List.mem_map]
 constructor
 ·rintro ((h | h) | ⟨y,hy,rfl⟩)
  ·exact .inl h
  ·exact .inr (.inl h)
  ·exact .inr (.inr ⟨y,hy,rfl⟩)
 ·rintro (h | h | ⟨y,hy,rfl⟩)
  ·exact .inl (.inl h)
  ·exact .inl (.inr h)
  ·exact .inr ⟨y,hy,rfl⟩
theorem bLb (h:∀ y∈c,y.id≠w0):kn c w0=false:=by
 unfold kn
 cases e:bT c w0 with
 | none=>rfl
 | some x=>obtain ⟨h1,h2⟩:=dQ e; exact (h x h1 h2).elim
theorem iV.inc (s:iV c e w0 w1) (h:Inc c):Inc (mF c e w0 w1):=aIh h (bLb s.n0) (bLb s.n1) s.ne
theorem iV.find (s:iV c e w0 w1) (h:Inc c) {y:Cl} (hy:y∈c):bT (mF c e w0 w1) y.id=some (iG e w0 w1 (bOf c e) y):=(s.inc h).find (x:=iG e w0 w1 (bOf c e) y) (fW.2 (.inr (.inr ⟨y,hy,rfl⟩)))
theorem iV.find0 (s:iV c e w0 w1) (h:Inc c):bT (mF c e w0 w1) w0=some (wC w0):=(s.inc h).find (x:=wC w0) (fW.2 (.inl rfl))
theorem iV.find1 (s:iV c e w0 w1) (h:Inc c):bT (mF c e w0 w1) w1=some (aIg w0 w1 (bOf c e)):=(s.inc h).find (x:=aIg w0 w1 (bOf c e)) (fW.2 (.inr (.inl rfl)))
theorem iV.b (s:iV c e w0 w1) (h:Inc c) {y:Cl} (hy:y∈c):bOf (mF c e w0 w1) y.id=bV [] (subL e w0 w1 (bOf c e) y):=by unfold Go.Am.bOf; rw [s.find h hy]; rfl
theorem iV.b0 (s:iV c e w0 w1) (h:Inc c):bOf (mF c e w0 w1) w0=[]:=by unfold Go.Am.bOf; rw [s.find0 h]; rfl
theorem iV.b1 (s:iV c e w0 w1) (h:Inc c):bOf (mF c e w0 w1) w1=bV [] (jC w0 (bOf c e)):=by unfold Go.Am.bOf; rw [s.find1 h]; rfl
theorem bCi (h:CxV c) {y:Cl} (hy:y∈c) (hd:y.dim=0):y.b=[]:=by
 cases hb:y.b with
 | nil=>rfl
 | cons f l =>
  obtain ⟨z,hz,_,e2⟩:=h.face y hy f (by rw [hb]; exact List.mem_cons_self ..)
  have:=(h.dim z hz).1
  omega
theorem iV.own (s:iV c e w0 w1) (h:CxV c):∃ x∈c,x.id=e∧x.dim=1∧bOf c e=x.b:=by
 obtain ⟨x,hx,e1,e2⟩:=s.ine
 exact ⟨x,hx,e1,e2,by rw [← e1]; exact h.bOf hx⟩
theorem iV.pts (s:iV c e w0 w1) (h:CxV c) {f:Int × Int} (hf:f∈bOf c e):∃ y∈c,y.id=f.1∧y.dim=0∧y.id≠e:=by
 obtain ⟨x,hx,e1,e2,e3⟩:=s.own h
 rw [e3] at hf
 obtain ⟨y,hy,k1,k2⟩:=h.face x hx f hf
 refine ⟨y,hy,k1,by omega,fun he=>?_⟩
 have:=h.inc.eq hy hx (he.trans e1.symm)
 subst this; omega
theorem iV.zero (s:iV c e w0 w1) (h:CxV c) {y:Cl} (hy:y∈c) (hd:y.dim=0):bOf (mF c e w0 w1) y.id=[]:=by
 rw [s.b h.inc hy]
 unfold subL
 have hb:=bCi h hy hd
 have hne:y.id≠e:=fun he=>by
  obtain ⟨x,hx,e1,e2,_⟩:=s.own h
  have:=h.inc.eq hy hx (he.trans e1.symm)
  subst this; omega
 rw [if_neg hne,hb]; rfl
theorem iV.noE (s:iV c e w0 w1) (h:CxV c):cf e (bOf c e)=0:=sE fun f hf he=>by
 obtain ⟨y,_,k1,_,k3⟩:=s.pts h hf
 exact k3 (k1.trans he)
theorem yR {l:Ch} {f:Int × Int} (h:f∈sK l):f∈l:=(List.mem_filter.1 h).1
theorem yS {l:Ch} {f:Int × Int} (h:f∈tE l):f∈l:=(List.mem_filter.1 h).1
def nw (c:List Cl) (e w0 w1:Int) (w:Int→Int) (m:Int):Int:=bU w (bOf (mF c e w0 w1) m)
theorem iV.nw1 (s:iV c e w0 w1) (h:Inc c) (w:Int→Int):nw c e w0 w1 w w1=- w w0+bU w (sK (bOf c e)):=by
 unfold nw; rw [s.b1 h,eR]; unfold jC; simp only [bU]; omega
theorem iV.nwy (s:iV c e w0 w1) (h:CxV c) (w:Int→Int) {y:Cl} (hy:y∈c):nw c e w0 w1 w y.id=bU w (bOf c y.id)+w w1 * cf e (bOf c y.id) - nw c e w0 w1 w w1 * (if y.id=e then 1 else 0):=by
 have h1:nw c e w0 w1 w y.id=bU w (subL e w0 w1 (bOf c e) y):=by unfold nw; rw [s.b h.inc hy,eR]
 rw [h1,s.nw1 h.inc]
 unfold subL
 by_cases he:y.id=e
 ·rw [if_pos he,if_pos he,he,s.noE h]
  have:=yE w (bOf c e)
  unfold kW; simp only [bU]; omega
 ·rw [if_neg he,if_neg he,mE,pW,h.bOf hy,Int.mul_comm (w w1)]; omega
theorem iV.nw0 (s:iV c e w0 w1) (h:CxV c) (w:Int→Int) {l:Ch} (hl:∀ f∈l,f.1=w0∨∃ y∈c,y.id=f.1∧y.dim=0):bU (nw c e w0 w1 w) l=0:=aDe fun f hf=>by
 unfold nw
 rcases hl f hf with e1 | ⟨y,hy,e1,e2⟩
 ·rw [e1,s.b0 h.inc]; rfl
 ·rw [← e1,s.zero h hy e2]; rfl
theorem iV.valid (s:iV c e w0 w1) (h:CxV c):CxV (mF c e w0 w1):=by
 have hpos:∀ f∈jC w0 (bOf c e),f.1=w0∨∃ y∈c,y.id=f.1∧y.dim=0:=fun f hf=>by
  rcases List.mem_cons.1 hf with rfl | hf
  ·exact .inl rfl
  ·obtain ⟨y,hy,k1,k2,_⟩:=s.pts h (yR hf); exact .inr ⟨y,hy,k1,k2⟩
 have hrest:∀ f∈kW w0 (bOf c e),f.1=w0∨∃ y∈c,y.id=f.1∧y.dim=0:=fun f hf=>by
  rcases List.mem_cons.1 hf with rfl | hf
  ·exact .inl rfl
  ·obtain ⟨y,hy,k1,k2,_⟩:=s.pts h (yS hf); exact .inr ⟨y,hy,k1,k2⟩
 have hface:∀ (f:Int × Int) (d:Int),(f.1=w0∨∃ y∈c,y.id=f.1∧y.dim=0)→d=1→∃ y∈mF c e w0 w1,y.id=f.1∧y.dim=d - 1:=fun f d hf hd=>by
  rcases hf with e1 | ⟨y,hy,e1,e2⟩
  ·exact ⟨wC w0,fW.2 (.inl rfl),e1.symm,by show (0:Int)=_; omega⟩
  ·exact ⟨iG e w0 w1 (bOf c e) y,fW.2 (.inr (.inr ⟨y,hy,rfl⟩)),e1,by show y.dim=_; omega⟩
 obtain ⟨xe,hxe,xe1,xe2,xe3⟩:=s.own h
 refine ⟨s.inc h.inc,fun z hz=>?_,fun z hz=>?_,fun z hz f hf=>?_,fun z hz n=>?_⟩
 ·rcases fW.1 hz with rfl | rfl | ⟨y,hy,rfl⟩
  ·exact ⟨Int.le_refl 0,by show (0:Int)≤3; decide⟩
  ·exact ⟨by show (0:Int)≤1; decide,by show (1:Int)≤3; decide⟩
  ·exact h.dim y hy
 ·rcases fW.1 hz with rfl | rfl | ⟨y,hy,rfl⟩
  ·exact Val.nil
  ·exact (dI _ [] Val.nil).1
  ·exact (dI _ [] Val.nil).1
 ·rcases fW.1 hz with rfl | rfl | ⟨y,hy,rfl⟩
  ·cases hf
  ·obtain ⟨g,hg,he⟩:=aEg (l:=jC w0 (bOf c e)) hf
   have:=hface g 1 (hpos g hg) rfl
   rw [he] at this; exact this
  ·obtain ⟨g,hg,he⟩:=aEg (l:=subL e w0 w1 (bOf c e) y) hf
   unfold subL at hg
   by_cases hye:y.id=e
   ·rw [if_pos hye] at hg
    have hyd:y.dim=1:=by rw [h.inc.eq hy hxe (hye.trans xe1.symm)]; exact xe2
    have:=hface g y.dim (hrest g hg) hyd
    rw [he] at this; exact this
   ·rw [if_neg hye] at hg
    rcases List.mem_append.1 hg with hg | hg
    ·obtain ⟨u,hu,k1,k2⟩:=h.face y hy g hg
     exact ⟨iG e w0 w1 (bOf c e) u,fW.2 (.inr (.inr ⟨u,hu,rfl⟩)),k1.trans he,k2⟩
    ·unfold adF at hg
     obtain ⟨g',hg',rfl⟩:=List.mem_map.1 hg
     obtain ⟨h1,h2⟩:=List.mem_filter.1 hg'
     have h2:g'.1=e:=by simpa using h2
     obtain ⟨u,hu,k1,k2⟩:=h.face y hy g' h1
     have hu2:u=xe:=h.inc.eq hu hxe (k1.trans (h2.trans xe1.symm))
     refine ⟨aIg w0 w1 (bOf c e),fW.2 (.inr (.inl rfl)),he,?_⟩
     show (1:Int)=y.dim - 1
     rw [← k2,hu2,xe2]
 ·suffices hw:∀ w:Int→Int,bU (nw c e w0 w1 w) z.b=0 by
   have:=hw fun m=>if n=m then 1 else 0
   refine Eq.trans (gH fun f _=>?_) this
   unfold nw; rw [nI]
  intro w
  rcases fW.1 hz with rfl | rfl | ⟨y,hy,rfl⟩
  ·rfl
  ·show bU _ (bV [] (jC w0 (bOf c e)))=0
   rw [eR]; exact s.nw0 h w hpos
  ·show bU _ (bV [] (subL e w0 w1 (bOf c e) y))=0
   rw [eR]
   unfold subL
   by_cases hye:y.id=e
   ·rw [if_pos hye]; exact s.nw0 h w hrest
   ·rw [if_neg hye,mE,pW]
    have e1:bU (nw c e w0 w1 w) y.b=bU (fun m=>bU w (bOf c m)+w w1 * cf e (bOf c m) - nw c e w0 w1 w w1 * (if m=e then 1 else 0)) y.b:=gH fun f hf=>by
     obtain ⟨u,hu,k1,_⟩:=h.face y hy f hf
     rw [← k1]; exact s.nwy h w hu
    have e2:bU (fun m=>if m=e then (1:Int) else 0) y.b=cf e y.b:=by
     rw [nI]; exact gH fun f _=>bBg f.1 e
    rw [e1,vU,h.wcyc hy w,h.cyc y hy e,e2,Int.mul_comm (nw c e w0 w1 w w1)]
    omega
def qA (e w1:Int):Ch:=bV [(e,1)] (mulR 1 [(w1,1)])
theorem jV (n:Int):Val [(n,(1:Int))]:=⟨List.pairwise_singleton _ _,fun y hy=>by rw [List.mem_singleton.1 hy]; simp⟩
theorem aMp (e w1:Int) (w:Int→Int):bU w (qA e w1)=w e+w w1:=by
 unfold qA; rw [kN,lZ]; simp [bU]
theorem uV (e n:Int) (B:Ch):(mX [(e,B)] n).getD [(n,1)]=if n=e then B else [(n,1)]:=by
 unfold mX
 by_cases h:n=e
 ·simp [h]
 ·have:¬ e=n:=fun x=>h x.symm
  simp [this,h]
theorem aHn {g:List (Int × Ch)} (hi:Inc c) (w:Int→Int):∀ {x:Ch},(∀ f∈x,∃ y∈c,y.id=f.1)→bU w (apL (fQ c g) x)=bU (fun k=>bU w ((mX g k).getD [(k,1)])) x
 | [],_=>rfl
 | f::x,h=>by
  obtain ⟨y,hy,he⟩:=h f (List.mem_cons_self ..)
  show bU w (apP (fQ c g) f++apL (fQ c g) x)=_
  rw [mE,aHa hi hy he.symm,lZ,aHn hi w fun f hf=>h f (List.mem_cons_of_mem _ hf),he]
  rfl
theorem iV.comm (s:iV c e w0 w1) (h:CxV c):CmT c (mF c e w0 w1) (fQ c [(e,qA e w1)]):=by
 have hget:∀ (i:Nat) x p,c[i]? = some x→(fQ c [(e,qA e w1)])[i]? = some p→p=(x.id,if x.id=e then qA e w1 else [(x.id,1)]):=fun i x p hx hp=>by
  unfold fQ at hp
  rw [List.getElem?_map,hx] at hp
  injection hp with hp
  simp only [uV] at hp
  exact hp.symm
 obtain ⟨xe,hxe,xe1,xe2,xe3⟩:=s.own h
 have hne:e≠w1:=fun x=>s.n1 xe hxe (xe1.trans x)
 refine ⟨by simp [fQ],fun i x p hx hp=>by rw [hget i x p hx hp],fun i x p hx hp f hf=>?_,fun i x p hx hp=>?_⟩
 ·rw [hget i x p hx hp] at hf
  have hxc:=List.mem_of_getElem? hx
  simp only at hf
  by_cases hxe':x.id=e
  ·rw [if_pos hxe'] at hf
   have hxx:x=xe:=h.inc.eq hxc hxe (hxe'.trans xe1.symm)
   have hm:f.1=e∨f.1=w1:=by
    have hv:=(dI (mulR 1 [(w1,1)]) _ (jV e)).1
    by_cases q:f.1=e
    ·exact .inl q
    ·refine .inr (Classical.byContradiction fun q2=>?_)
     have e0:=iJ hv hf
     rw [← iS hv,nI] at e0
     have:=aMp e w1 (fun m=>if f.1=m then 1 else 0)
     unfold qA at this
     rw [this,if_neg q,if_neg q2] at e0
     exact hv.2 f hf e0.symm
   rcases hm with q | q
   ·have hfe:=s.find h.inc hxe
    rw [xe1] at hfe
    refine ⟨_,by rw [q]; exact hfe,?_⟩
    rw [hxx]; rfl
   ·refine ⟨_,by rw [q]; exact s.find1 h.inc,?_⟩
    rw [hxx,xe2]; rfl
  ·rw [if_neg hxe'] at hf
   rw [List.mem_singleton.1 hf]
   exact ⟨_,s.find h.inc hxc,rfl⟩
 ·have hxc:=List.mem_of_getElem? hx
  rw [hget i x p hx hp]
  have hfc:∀ f∈x.b,∃ y∈c,y.id=f.1:=fun f hf=>let ⟨y,hy,k,_⟩:=h.face x hxc f hf; ⟨y,hy,k⟩
  refine aDg (dI _ [] Val.nil).1 (dI _ [] Val.nil).1 fun w=>?_
  unfold bdX apX
  rw [eR,eR,zH,aHn h.inc w hfc]
  show bU (nw c e w0 w1 w) (if x.id=e then qA e w1 else [(x.id,1)])=_
  have hr:bU (fun k=>bU w ((mX [(e,qA e w1)] k).getD [(k,1)])) x.b=bU w x.b+w w1 * cf e x.b:=by
   have e1:bU (fun k=>bU w ((mX [(e,qA e w1)] k).getD [(k,1)])) x.b=bU (fun k=>w k+w w1 * (if k=e then 1 else 0) - 0 * 0) x.b:=gH fun f _=>by
    rw [uV]
    by_cases q:f.1=e
    ·rw [if_pos q,if_pos q,aMp,q]; omega
    ·rw [if_neg q,if_neg q]; simp [bU]
   have e2:bU (fun m=>if m=e then (1:Int) else 0) x.b=cf e x.b:=by
    rw [nI]; exact gH fun f _=>bBg f.1 e
   rw [e1,vU w _ (fun _=>0) _ 0,e2]
   omega
  rw [hr]
  by_cases hxe':x.id=e
  ·rw [if_pos hxe',aMp]
   have hxx:x=xe:=h.inc.eq hxc hxe (hxe'.trans xe1.symm)
   have k1:=s.nwy h w hxe
   rw [xe1,if_pos rfl,xe3,← xe3,s.noE h] at k1
   rw [k1,hxx,← xe3,s.noE h]
   omega
  ·rw [if_neg hxe']
   simp only [bU]
   rw [s.nwy h w hxc,if_neg hxe',h.bOf hxc]
   omega
end
theorem aGn:∀ (b a:List Int),a.Pairwise (·<·)→b.Pairwise (·<·)→(∀ x∈a,x∈b)→a.length≤b.length
 | [],a,_,_,h=>by
  cases a with
  | nil=>exact Nat.le_refl _
  | cons x a=>cases h x (List.mem_cons_self ..)
 | y::b,[],_,_,_=>Nat.zero_le _
 | y::b,x::a,ha,hb,h=>by
  obtain ⟨a1,a2⟩:=List.pairwise_cons.1 ha
  obtain ⟨b1,b2⟩:=List.pairwise_cons.1 hb
  by_cases e:x=y
  ·have:=aGn b a a2 b2 fun z hz=>by
    rcases List.mem_cons.1 (h z (List.mem_cons_of_mem _ hz)) with q | q
    ·have:=a1 z hz; omega
    ·exact q
   simp only [List.length_cons]; omega
  ·have hx:x∈b:=by
    rcases List.mem_cons.1 (h x (List.mem_cons_self ..)) with q | q
    ·exact (e q).elim
    ·exact q
   have hyx:=b1 x hx
   have:=aGn b (x::a) ha b2 fun z hz=>by
    rcases List.mem_cons.1 (h z hz) with q | q
    ·rcases List.mem_cons.1 hz with q2 | q2
     ·omega
     ·have:=a1 z q2; omega
    ·exact q
   simp only [List.length_cons] at this ⊢; omega
theorem CxV.bLen {c:List Cl} (h:CxV c) {x:Cl} (hx:x∈c):x.b.length≤c.length:=by
 have:=aGn (c.map Cl.id) (x.b.map (·.1)) (by rw [List.pairwise_map]; exact (h.val x hx).1) (by rw [List.pairwise_map]; exact h.inc) fun n hn=>by
  obtain ⟨f,hf,rfl⟩:=List.mem_map.1 hn
  obtain ⟨y,hy,k,_⟩:=h.face x hx f hf
  exact List.mem_map.2 ⟨y,hy,k⟩
 simpa using this
theorem CxV.bLenOf {c:List Cl} (h:CxV c) (n:Int):(Go.Am.bOf c n).length≤c.length:=by
 unfold Go.Am.bOf
 cases e:bT c n with
 | none=>exact Nat.zero_le _
 | some x=>exact h.bLen (dQ e).1
theorem pV {a b:Ch} (ha:Val a) (hb:Val b) (k:Int) (w:Int→Int):bU w (plM k a b)=bU w a+k * bU w b:=by
 rw [yP ha hb]; unfold lin; rw [kN,lZ]
end Go.Am
end

section
set_option linter.unusedVariables false
set_option linter.unusedSimpArgs false
namespace Go.Proofs
open Go.RowKit Go.Lib Go.Sort Go.Shelf
def Tryz.sortC_ren:Go.Shelf.Ren:=⟨fun | 14=>105 | 20=>130 | 21=>131 | 22=>132 | 23=>133 | 24=>134 | 25=>135 | 26=>136 | 27=>137 | 46=>155 | 47=>156 | 48=>157 | 49=>158 | 50=>159 | 15=>106 | 57=>179 | 28=>138 | 29=>139 | n=>n,fun | 24=>47 | 22=>26 | 3=>3 | 25=>110 | 4=>4 | 0=>0 | 46=>175 | 45=>174 | 50=>133 | 66=>194 | 39=>122 | 55=>119 | 70=>198 | 76=>221 | 77=>202 | 53=>121 | 5=>5 | 9=>9 | n=>n,fun n=>n⟩
theorem Tryz.sortC:Go.Proofs.SlLaysF0.n14 Tryz.prog Tryz.sortC_ren:={
 mixed:=by kernel_rfl,
 f14:=⟨Tryz.f105.name,by decide,Tryz.func105.trans (congrArg some (by kernel_rfl))⟩,
 f15:=Tryz.func106.trans (congrArg some (by kernel_rfl)),
 f20:=⟨Tryz.f130.name,by decide,Tryz.func130.trans (congrArg some (by kernel_rfl))⟩,
 f21:=⟨Tryz.f131.name,by decide,Tryz.func131.trans (congrArg some (by kernel_rfl))⟩,
 f22:=⟨Tryz.f132.name,by decide,Tryz.func132.trans (congrArg some (by kernel_rfl))⟩,
 f23:=⟨Tryz.f133.name,by decide,Tryz.func133.trans (congrArg some (by kernel_rfl))⟩,
 f24:=⟨Tryz.f134.name,by decide,Tryz.func134.trans (congrArg some (by kernel_rfl))⟩,
 f25:=⟨Tryz.f135.name,by decide,Tryz.func135.trans (congrArg some (by kernel_rfl))⟩,
 f26:=⟨Tryz.f136.name,by decide,Tryz.func136.trans (congrArg some (by kernel_rfl))⟩,
 f27:=⟨Tryz.f137.name,by decide,Tryz.func137.trans (congrArg some (by kernel_rfl))⟩,
 f28:=Tryz.func138.trans (congrArg some (by kernel_rfl)),
 f29:=Tryz.func139.trans (congrArg some (by kernel_rfl)),
 f46:=⟨Tryz.f155.name,by decide,Tryz.func155.trans (congrArg some (by kernel_rfl))⟩,
 f47:=Tryz.func156.trans (congrArg some (by kernel_rfl)),
 f48:=Tryz.func157.trans (congrArg some (by kernel_rfl)),
 f49:=⟨Tryz.f158.name,by decide,Tryz.func158.trans (congrArg some (by kernel_rfl))⟩,
 f50:=⟨Tryz.f159.name,by decide,Tryz.func159.trans (congrArg some (by kernel_rfl))⟩,
 f57:=⟨Tryz.f179.name,by decide,Tryz.func179.trans (congrArg some (by kernel_rfl))⟩,
 t0:=Tryz.underlying0,
 a0:=Tryz.isAgg0,
 z0:=Tryz.sizeOf0,
 v0:=Tryz.zeroValue0,
 t3:=Tryz.underlying3,
 a3:=Tryz.isAgg3,
 z3:=Tryz.sizeOf3,
 v3:=Tryz.zeroValue3,
 t4:=Tryz.underlying4,
 a4:=Tryz.isAgg4,
 z4:=Tryz.sizeOf4,
 v4:=Tryz.zeroValue4,
 t5:=Tryz.underlying5,
 a5:=Tryz.isAgg5,
 z5:=Tryz.sizeOf5,
 v5:=Tryz.zeroValue5,
 t9:=Tryz.underlying9,
 a9:=Tryz.isAgg9,
 z9:=Tryz.sizeOf9,
 v9:=Tryz.zeroValue9,
 t22:=Tryz.underlying26,
 a22:=Tryz.isAgg26,
 z22:=Tryz.sizeOf26,
 v22:=Tryz.zeroValue26,
 t25:=Tryz.underlying110,
 a25:=Tryz.isAgg110,
 z25:=Tryz.sizeOf110,
 v25:=Tryz.zeroValue110,
 t39:=Tryz.underlying122,
 a39:=Tryz.isAgg122,
 z39:=Tryz.sizeOf122,
 v39:=Tryz.zeroValue122,
 t45:=Tryz.underlying174,
 a45:=Tryz.isAgg174,
 z45:=Tryz.sizeOf174,
 v45:=Tryz.zeroValue174,
 t46:=Tryz.underlying175,
 a46:=Tryz.isAgg175,
 z46:=Tryz.sizeOf175,
 v46:=Tryz.zeroValue175,
 t50:=Tryz.underlying133,
 a50:=Tryz.isAgg133,
 z50:=Tryz.sizeOf133,
 v50:=Tryz.zeroValue133,
 t53:=Tryz.underlying121,
 a53:=Tryz.isAgg121,
 z53:=Tryz.sizeOf121,
 v53:=Tryz.zeroValue121,
 t55:=Tryz.underlying119,
 a55:=Tryz.isAgg119,
 z55:=Tryz.sizeOf119,
 v55:=Tryz.zeroValue119,
 t66:=Tryz.underlying194,
 a66:=Tryz.isAgg194,
 z66:=Tryz.sizeOf194,
 v66:=Tryz.zeroValue194,
 t70:=Tryz.underlying198,
 a70:=Tryz.isAgg198,
 z70:=Tryz.sizeOf198,
 v70:=Tryz.zeroValue198,
 t76:=Tryz.underlying221,
 a76:=Tryz.isAgg221,
 z76:=Tryz.sizeOf221,
 v76:=Tryz.zeroValue221,
 t77:=Tryz.underlying202,
 a77:=Tryz.isAgg202,
 z77:=Tryz.sizeOf202,
 v77:=Tryz.zeroValue202 }
section
variable {α:Type} [Inhabited α]
set_option maxHeartbeats 4000000 in
set_option maxRecDepth 100000 in
theorem Tryz.sortFuncC (enc:α→List Value) (hk:∀ x,(enc x).length=3) (h1:∀ x,∀ v∈enc x,v.oneCell'=true) (cf:α→α→Int) (hO:SWO (ltOf cf)) (g:Nat) (cb:Array Value) (blk off cap:Nat) (d:Array α) (w:World)
  (eg:∀ args w,(callFunc g args).run Tryz.prog w=.ok (.enter g args) w) (hcmp:CmpLays Tryz.prog g cb enc 3 cf blk off d.size w) (hH:HoldsK enc 3 w blk off d) (hblk:blk<w.heap.size) (hsz:d.size<4611686018427387904) :
  Calls Tryz.prog 68 #[.slice (some ⟨blk,off,none⟩) d.size cap,.func (.func g) #[] cb] w fun e w' =>
   e=.returned (.tuple #[])∧∃ n os,w'=sortWorldK enc 3 w blk off n (pdq (ltOf cf) d 0 d.size (Lib.bitLen d.size) true true) os:=by
 have e14:∀ args w,(callFunc 105 args).run Tryz.prog w=.ok (.enter 105 args) w:=enters_of Tryz.func105 (by kernel_rfl) rfl
 have e15:∀ args w,(callFunc 106 args).run Tryz.prog w=.ok (.enter 106 args) w:=enters_of Tryz.func106 (by kernel_rfl) rfl
 have hlim:Lib.bitLen d.size<4611686018427387904:=Nat.lt_of_le_of_lt (Lib.bitLen_le d.size 62 (by omega) (by omega)) (by omega)
 have hp:=AnyQ.pdqsortCmpFunc_all Tryz.sortC 3 Tryz.isAgg47 Tryz.sizeOf47 enc cf g cb hO blk off cap d w eg hcmp ⟨hk,h1,hH,hblk⟩ (d.size+1) 0 d.size (Lib.bitLen d.size) d w (by omega) rfl (SWK.start hH) (Nat.zero_le _) (Nat.le_refl _) hsz hlim (Or.inl rfl)
 have hl:Calls Tryz.prog 106 #[.int .u64 (d.size:Int)] w fun e w'=>e=.returned (.int .i64 (Lib.bitLen d.size:Nat))∧w'=w:=by
  have h:=Any.bits_Len (SlLaysF0.n15.bits (P:=Tryz.prog) (ρ:=Tryz.sortC_ren) { Tryz.sortC with }) (d.size:Int) w (by omega) (by omega)
  rwa [Int.toNat_natCast] at h
 change Calls Tryz.prog 105 _ _ _ at hp
 have wr:IntKind.u64.wrap (d.size:Int)=d.size:=by simp [IntKind.wrap,IntKind.bits,IntKind.signed]; omega
 clear hH hcmp hk h1
 go_enter Tryz.func68,Tryz.ntmps68
 go_wp2_with (first | (go_at_call 106; refine hl.mono ?_; rintro e w' ⟨rfl,rfl⟩) | (go_at_call 105; refine hp.mono ?_; rintro e w' ⟨rfl,n,os,rfl⟩))
 go_end0
 exact ⟨rfl,n,os,rfl⟩
end
end Go.Proofs
end

section
set_option linter.unusedVariables false
set_option linter.unusedSimpArgs false
open Go Go.Am
namespace Go.Proofs
open Go.RowKit Go.Lib Go.Sort Go.Shelf
def Tryz.cmpC_ren:Go.Shelf.Ren:=⟨fun | 5=>70 | 7=>107 | n=>n,fun | 22=>3 | 3=>3 | 4=>4 | n=>n,fun | n=>n⟩
theorem Tryz.cmpC:Go.Proofs.SlLaysC2.n5 Tryz.prog Tryz.cmpC_ren:={
 mixed:=by kernel_rfl,
 f5:=⟨"cmp.Compare[int]",by decide,Tryz.func70.trans (congrArg some (by kernel_rfl))⟩,
 f7:=⟨"cmp.isNaN[int]",by decide,Tryz.func107.trans (congrArg some (by kernel_rfl))⟩,
 t3:=Tryz.underlying3,
 a3:=Tryz.isAgg3,
 z3:=Tryz.sizeOf3,
 v3:=Tryz.zeroValue3,
 t4:=Tryz.underlying4,
 a4:=Tryz.isAgg4,
 z4:=Tryz.sizeOf4,
 v4:=Tryz.zeroValue4,
 t22:=Tryz.underlying3,
 a22:=Tryz.isAgg3,
 z22:=Tryz.sizeOf3,
 v22:=Tryz.zeroValue3 }
structure Cv where
 id:Int
 dim:Int
 v:Value
 h1:v.oneCell'=true
instance : Inhabited Cv := ⟨⟨0, 0, .bool false, rfl⟩⟩
def aCr (x:Cl) (v:Value):Cv:=if h:v.oneCell'=true then ⟨x.id,x.dim,v,h⟩ else ⟨x.id,x.dim,.bool false,rfl⟩
def oK (x:Cv):List Value:=[.int .i64 x.id,.int .i64 x.dim,x.v]
def cfC (x y:Cv):Int:=Lib.compareInt x.id y.id
theorem ltC (x y:Cv):ltOf cfC x y=decide (x.id<y.id):=by
 unfold ltOf cfC Lib.compareInt
 by_cases h1:x.id<y.id
 ·simp [h1]
 ·by_cases h2:y.id<x.id <;> simp [h1,h2]
theorem bPq:SWO (ltOf cfC) where
 irrefl x:=by rw [ltC]; simp
 trans x y z h1 h2:=by rw [ltC] at *; simp at *; omega
 ntrans x y z h1 h2:=by rw [ltC] at *; simp at *; omega
set_option maxHeartbeats 1000000 in
theorem Tryz.closC (x y:Cv) (W:World):Calls Tryz.prog 69 #[.agg #[.int .i64 x.id,.int .i64 x.dim,x.v],.agg #[.int .i64 y.id,.int .i64 y.dim,y.v]] W fun e w'=>e=.returned (.int .i64 (Lib.compareInt x.id y.id))∧∃ q os',w'=grow (W.drewN q) os':=by
 have hcon:=fun W'=>AnyG.cmp_Compare_int Tryz.cmpC x.id y.id W'
 change ∀ W',Calls Tryz.prog 70 _ _ _ at hcon
 generalize Lib.compareInt x.id y.id=r at hcon ⊢
 obtain ⟨xi,xd,xv,xh⟩:=x
 obtain ⟨yi,yd,yv,yh⟩:=y
 simp only at hcon ⊢
 go_enter Tryz.func69,Tryz.ntmps69
 go_wp2_with (go_at_call 70; refine (hcon _).mono ?_; rintro e w' ⟨rfl,rfl⟩)
 go_ret
 exact ⟨rfl,0,_,by rw [alloc_eq_grow,alloc_eq_grow,grow_grow]; rfl⟩
theorem aGg {α β:Type} (f:α→β) {l' l:List β} (h:l'.Perm l):∀ {M:List α},M.map f=l→∃ M':List α,M'.Perm M∧l'=M'.map f:=by
 induction h with
 | nil=>intro M hM; exact ⟨M,.refl _,by rw [hM]⟩
 | cons x p ih =>
  intro M hM
  cases M with
  | nil=>cases hM
  | cons a M =>
   injection hM with h1 h2
   obtain ⟨M',h3,h4⟩:=ih h2
   exact ⟨a::M',h3.cons a,by rw [List.map_cons,h1,h4]⟩
 | swap x y l =>
  intro M hM
  match M,hM with
  | a::c::M,hM =>
   injection hM with h1 h2
   injection h2 with h2 h3
   exact ⟨c::a::M,.swap ..,by simp [h1,h2,h3]⟩
 | trans h1 h2 ih1 ih2 =>
  intro M hM
  obtain ⟨M2,h3,h4⟩:=ih2 hM
  obtain ⟨M1,h5,h6⟩:=ih1 h4.symm
  exact ⟨M1,h5.trans h3,h6⟩
theorem aKr {L' L:List Cl} (hs:Inc L) (hp:L'.Perm L) (hw:L'.Pairwise fun x y=>x.id≤y.id):L'=L:=by
 induction L generalizing L' with
 | nil=>exact hp.eq_nil
 | cons a L ih =>
  obtain ⟨h1,h2⟩:=List.pairwise_cons.1 hs
  cases L' with
  | nil=>exact absurd hp.symm.eq_nil (by simp)
  | cons a' L' =>
   obtain ⟨h3,h4⟩:=List.pairwise_cons.1 hw
   have e:a'=a:=by
    rcases List.mem_cons.1 (hp.mem_iff.1 (List.mem_cons_self ..)) with h | h
    ·exact h
    ·rcases List.mem_cons.1 (hp.mem_iff.2 (List.mem_cons_self ..)) with h' | h'
     ·exact h'.symm
     ·have:=h1 _ h; have:=h3 _ h'; omega
   subst e
   rw [ih h2 (List.Perm.cons_inv hp) h4]
theorem aGr {α:Type} {f:α→List D} {k:Nat} (h:∀ x,(f x).length=k):∀ (l:List α) (j c:Nat) (x:α),l[j]? = some x→c<k→(flt f l)[j * k+c]? = (f x)[c]?
 | [],j,c,x,hx,_=>by simp at hx
 | y::l,0,c,x,hx,hc=>by
  simp at hx; subst hx
  rw [Nat.zero_mul,Nat.zero_add,show flt f (y::l)=f y++flt f l from by simp [flt],List.getElem?_append_left (by rw [h]; exact hc)]
 | y::l,j+1,c,x,hx,hc=>by
  rw [show flt f (y::l)=f y++flt f l from by simp [flt],List.getElem?_append_right (by rw [h,Nat.add_mul]; omega),h,show (j+1) * k+c - k=j * k+c by rw [Nat.add_mul]; omega]
  exact aGr h l j c x (by simpa using hx) hc
theorem aSr {els:List (List D)} {A:Nat→Prop} {W:World} {v:Value} (h:VD A W (.sl els) v):v.oneCell'=true:=by
 obtain ⟨ad,c,rfl,_⟩:=mT h; rfl
set_option maxHeartbeats 1000000 in
theorem Tryz.sortO {L L':List Cl} (hp:L'.Perm L) (hs:Inc L') (hl:L.length<4611686018427387904) :
  lO Tryz.prog 68 (.own 0 0 L.length 3) (.cells 47 ((flt aZ L).map .d)) [.lit (.func (.func 69) #[] #[])] (.cells 47 ((flt aZ L').map .d)) (.tp []):=by
 intro A W vs b hA hnb hb hob hlen hv0 hds
 obtain ⟨ob,hob,hcr⟩:=hob
 obtain ⟨v0,hv0,hV0⟩:=hv0
 have hsz:vs.size=2:=by simpa using hlen.symm
 obtain ⟨v1,hv1⟩:∃ v1,vs[1]? = some v1:=⟨vs[1],Array.getElem?_eq_getElem (by omega)⟩
 have hvs:vs=#[v0,v1]:=by
  apply Array.ext_getElem?
  intro k
  match k with
  | 0=>simpa using hv0
  | 1=>simpa using hv1
  | k+2=>rw [Array.getElem?_eq_none (by omega)]; simp
 have h1:=hds 0 _ v1 rfl hv1
 cases h1
 cases hV0 with
 | own _ _ _ _ b' cap cur e hι hb' hcap hlc hm =>
 have hbb:b'=b:=by
  unfold ι1 at hι; simp at hι; exact hι.symm
 subst hbb
 rw [hob] at hb'
 injection hb' with hb'
 subst hb'
 subst hvs
 generalize hn:L.length=n at hlc hcap hl
 have hent:∀ w,(callFunc 68 #[.slice (some ⟨b',0 * 3,none⟩) n cap,.func (.func 69) #[] #[]]).run Tryz.prog w=.ok (.enter 68 #[.slice (some ⟨b',0 * 3,none⟩) n cap,.func (.func 69) #[] #[]]) w:=enters_of Tryz.func68 (by kernel_rfl) rfl _
 refine ⟨hent,?_⟩
 cases hcr with
 | cells _ _ _ hle hcell =>
 have hat:∀ (j c:Nat) (x:Cl),L[j]? = some x→c<3→∃ y u,(aZ x)[c]? = some y∧cur[j * 3+c]? = some u∧VD A W y u:=by
  intro j c x hx hc
  have h2:=aGr bP L j c x hx hc
  obtain ⟨y,hy⟩:∃ y,(aZ x)[c]? = some y:=⟨_,List.getElem?_eq_getElem (by rw [bP]; exact hc)⟩
  obtain ⟨u,hu,hV⟩:=hcell (j * 3+c) (.d y) (by rw [List.getElem?_map,h2,hy]; rfl)
  cases hV with
  | d _ _ h=>exact ⟨y,u,hy,hu,h⟩
 let M:List (Cl × Value):=L.mapIdx fun j x=>(x,(cur[j * 3+2]?).getD default)
 have hMl:M.length=n:=by simp [M,hn]
 have hMj:∀ j x,L[j]? = some x→M[j]? = some (x,(cur[j * 3+2]?).getD default):=fun j x hx=>by simp [M,List.getElem?_mapIdx,hx]
 have hM1:M.map Prod.fst=L:=by
  apply List.ext_getElem?
  intro j
  rw [List.getElem?_map]
  cases hx:L[j]? with
  | none=>simp [M,List.getElem?_mapIdx,hx]
  | some x=>rw [hMj j x hx]; rfl
 have hM2:∀ p∈M,VD A W (aM p.1.b) p.2:=by
  intro p hpm
  obtain ⟨j,hj⟩:=List.getElem?_of_mem hpm
  have hjl:j<L.length:=by rw [hn,← hMl]; exact (List.getElem?_eq_some_iff.1 hj).1
  have hx:L[j]? = some L[j]:=List.getElem?_eq_getElem hjl
  rw [hMj j _ hx] at hj
  injection hj with hj
  obtain ⟨y,u,hy,hu,hV⟩:=hat j 2 _ hx (by omega)
  subst hj
  simp only [aZ] at hy
  simp at hy
  subst hy
  rw [hu]; exact hV
 have hM3:∀ p∈M,p.2.oneCell'=true:=fun p hpm=>aSr (hM2 p hpm)
 let d:Array Cv:=(M.map fun p=>aCr p.1 p.2).toArray
 have hds:d.size=n:=by simp [d,hMl]
 have hmk:∀ p∈M,oK (aCr p.1 p.2)=[.int .i64 p.1.id,.int .i64 p.1.dim,p.2]:=fun p hpm=>by
  unfold aCr; rw [dif_pos (hM3 p hpm)]; rfl
 have hH:HoldsK oK 3 W b' 0 d:=by
  intro t ht
  rw [size_flatK,hds] at ht
  have hj:t / 3<L.length:=by rw [hn]; omega
  have hx:L[t / 3]? = some L[t / 3]:=List.getElem?_eq_getElem hj
  have hd:d[t / 3]! = aCr L[t / 3] ((cur[t / 3 * 3+2]?).getD default):=by
   rw [getElem!_pos d (t / 3) (by rw [hds,← hn]; exact hj)]
   have:=hMj _ _ hx
   have h3:=(List.getElem?_eq_some_iff.1 this).2
   simp only [d,List.getElem_toArray,List.getElem_map,h3]
  have hmem:(L[t / 3],(cur[t / 3 * 3+2]?).getD default)∈M:=List.mem_of_getElem? (hMj _ _ hx)
  rw [get_flatK _ _ _ _ (by rw [hds]; exact ht),hd,hmk _ hmem]
  constructor
  ·simp only [World.cell?,hob,Nat.zero_add,id]
   obtain ⟨y,u,hy,hu,hV⟩:=hat (t / 3) (t % 3) _ hx (Nat.mod_lt _ (by omega))
   rw [Nat.div_add_mod' t 3] at hu
   simp only [Option.isSome_none,Bool.false_eq_true,if_false,hu]
   rcases (by omega:t % 3=0∨t % 3=1∨t % 3=2) with hc | hc | hc
   ·rw [hc] at hy ⊢; simp [aZ] at hy; subst hy; cases hV; rfl
   ·rw [hc] at hy ⊢; simp [aZ] at hy; subst hy; cases hV; rfl
   ·have:t / 3 * 3+2=t:=by omega
    rw [hc,this,hu]; rfl
  ·simp only [World.frozen?,hob]; simp
 have eg:∀ args w,(callFunc 69 args).run Tryz.prog w=.ok (.enter 69 args) w:=enters_of Tryz.func69 (by kernel_rfl) rfl
 have hcall:=Tryz.sortFuncC oK (fun _=>rfl) (fun x v hv=>by simp [oK] at hv; rcases hv with rfl | rfl | rfl; rfl; rfl; exact x.h1) cfC bPq 69 #[] b' 0 cap d W eg (fun _ _ _ _ x y=>Tryz.closC x y _) hH hb (by rw [hds]; exact hl)
 rw [hds] at hcall
 refine hcall.mono ?_
 rintro e' w' ⟨rfl,q,os,rfl⟩
 have hpd:=pdq_sorts (ltOf cfC) bPq d 0 n (Lib.bitLen n) true true (Nat.zero_le _) (by rw [hds]; exact Nat.le_refl _) (Or.inl rfl)
 generalize pdq (ltOf cfC) d 0 n (Lib.bitLen n) true true=d' at hpd ⊢
 obtain ⟨⟨hd1,_,hd2⟩,hso⟩:=hpd
 rw [hds] at hd1
 have hdp:d'.toList.Perm d.toList:=by
  have e1:d'.extract 0 n=d':=by rw [← hd1]; simp
  have e2:d.extract 0 n=d:=by rw [← hds]; simp
  rwa [e1,e2] at hd2
 obtain ⟨M',hM',hdM⟩:=aGg (fun p:Cl × Value=>aCr p.1 p.2) hdp (M:=M) (by simp [d])
 have hlM:M'.length=n:=by rw [hM'.length_eq,hMl]
 have hidk:∀ p:Cl × Value,(aCr p.1 p.2).id=p.1.id:=fun p=>by unfold aCr; split <;> rfl
 have hdj:∀ j (h:j<M'.length),d'[j]! = aCr M'[j].1 M'[j].2:=fun j h=>by
  rw [getElem!_pos d' j (by rw [hd1,← hlM]; exact h),← Array.getElem_toList]
  simp only [hdM,List.getElem_map]
 have hLM:M'.map Prod.fst=L':=by
  refine aKr hs (((hM'.map Prod.fst).trans (by rw [hM1])).trans hp.symm) ?_
  rw [List.pairwise_iff_getElem]
  intro i j hi hj hij
  rw [List.length_map] at hi hj
  have:=hso i j (Nat.zero_le _) hij (by rw [← hlM]; exact hj)
  rw [hdj j hj,hdj i hi,ltC,hidk,hidk] at this
  simp at this
  simpa using this
 have hM2':∀ p∈M',VD A W (aM p.1.b) p.2∧oK (aCr p.1 p.2)=[.int .i64 p.1.id,.int .i64 p.1.dim,p.2]:=fun p hpm=>⟨hM2 p (hM'.mem_iff.1 hpm),hmk p (hM'.mem_iff.1 hpm)⟩
 have hw:(sortWorldK oK 3 W b' 0 q d' os).heap=W.heap.modify b' (onCells (putCells id 0 (flatK oK 3 d')))++os:=rfl
 have hblk:∀ k,k<W.heap.size→k≠b'→(sortWorldK oK 3 W b' 0 q d' os).heap[k]? = W.heap[k]? := fun k hk hkb=>by
  rw [hw,Array.getElem?_append_left (by simpa using hk),Array.getElem?_modify,if_neg (Ne.symm hkb)]
 have hbl:(sortWorldK oK 3 W b' 0 q d' os).heap[b']? = some (.cells (putCells id 0 (flatK oK 3 d') cur) 47 (0,0)):=by
  rw [hw,Array.getElem?_append_left (by simpa using hb),Array.getElem?_modify,if_pos rfl,hob]; rfl
 have hszc:(putCells id 0 (flatK oK 3 d') cur).size=cur.size:=by simp [putCells]
 refine ⟨_,_,rfl,⟨rfl,rfl,rfl,by rw [hw]; simp,fun k hk hkb=>hblk k hk hkb,fun k c e hk hc=>?_⟩,hbl,fun c e hc=>?_,?_,.tp _ _ rfl (fun k c v hk=>by simp at hk)⟩
 ·by_cases hkb:k=b'
  ·subst hkb
   rw [hob] at hc; injection hc with hc; injection hc with hc1 hc2; subst hc1; subst hc2
   exact ⟨_,hbl,hszc⟩
  ·exact ⟨c,(hblk k hk hkb).trans hc,rfl⟩
 ·rw [hob] at hc; injection hc with hc; injection hc with hc1 hc2; subst hc1; subst hc2
  exact ⟨_,rfl,hszc⟩
 ·have hLl:L'.length=n:=by rw [← hLM,List.length_map,hlM]
  refine .cells _ _ _ (by rw [List.length_map,bY bP,hLl,hszc]; rw [List.length_map,bY bP,hn] at hle; exact hle) ?_
  intro k c hk
  have hkl:k<n * 3:=by
   have:=(List.getElem?_eq_some_iff.1 hk).1
   rw [List.length_map,bY bP,hLl] at this; exact this
  have hj:k / 3<M'.length:=by rw [hlM]; omega
  have hx:L'[k / 3]? = some M'[k / 3].1:=by
   rw [← hLM,List.getElem?_map,List.getElem?_eq_getElem hj]; rfl
  have h2:=aGr bP L' (k / 3) (k % 3) _ hx (Nat.mod_lt _ (by omega))
  rw [Nat.div_add_mod' k 3] at h2
  have hcs:k<cur.size:=by
   rw [List.length_map,bY bP,hn] at hle; omega
  obtain ⟨hv1,hv2⟩:=hM2' _ (List.getElem_mem hj)
  have hcell':(putCells id 0 (flatK oK 3 d') cur)[k]? = some (oK (aCr M'[k / 3].1 M'[k / 3].2))[k % 3]! := by
   simp only [putCells,Array.getElem?_mapIdx,Array.getElem?_eq_getElem hcs,Option.map_some,size_flatK,hd1]
   rw [if_pos ⟨Nat.zero_le _,by omega⟩,Nat.sub_zero,get_flatK _ _ _ _ (by rw [hd1]; exact hkl),hdj _ hj]; rfl
  rw [hv2] at hcell'
  refine ⟨_,hcell',?_⟩
  rw [List.getElem?_map,h2] at hk
  rcases (by omega:k % 3=0∨k % 3=1∨k % 3=2) with hc | hc | hc
  ·rw [hc] at hk ⊢; simp [aZ] at hk; subst hk; exact .d _ _ (.i ..)
  ·rw [hc] at hk ⊢; simp [aZ] at hk; subst hk; exact .d _ _ (.i ..)
  ·rw [hc] at hk ⊢; simp [aZ] at hk; subst hk
   exact .d _ _ (hv1.step (fun x hx=>.inl hx) fun x hx=>hblk x (hA x hx) fun h=>hnb (h ▸ hx))
end Go.Proofs
end

section
set_option linter.unusedVariables false
set_option linter.unusedSimpArgs false
open List (map_map mapM_map)
open Go Go.Am Go.Proofs
namespace Go.Am
theorem oJ (x:Int × Int):(eE x).length=3:=rfl
theorem rY (x:Int × Int):((eE x).map AV.d).all one=true:=rfl
theorem aQm {Γ:Nat→AV} {H:Nat→Option HO} {n0 k n sz:Nat} {e:TypeId} {cs:List D} (hH:H k=some (.cells e (cs.map .d))) (m:Nat) (hm:0<m):Wk ⟨upd Γ 0 (.own k 0 n sz),H,n0⟩ (fA (fun m=>.own m 0 n sz) (fun _=>[.cells e (cs.map .d)]) m) (fun _=>k):=by
 refine ⟨fun id hid=>?_,fun t'=>?_,fun id o' ho=>?_,fun id id' h1 h2 _=>?_,fun h=>?_,fun h=>?_⟩
 ·simp only [fA,eS] at hid ⊢
  rw [if_neg (by simp at hid ⊢; omega)]
 ·by_cases h:t'=0
  ·subst h
   show Sub H _ _ (upd Γ 0 (.own k 0 n sz) 0) (upd (fun _=>.any) 0 (.own m 0 n sz) 0)
   rw [cG,cG]
   exact ⟨rfl,rfl,rfl,rfl,by simp [fA,eS]⟩
  ·simp only [fA,upd,if_neg h]; exact lR _
 ·simp only [fA,eS] at ho
  split at ho
  ·rename_i hid
   simp at hid
   obtain rfl:id=m:=by omega
   simp at ho
   subst ho
   refine ⟨_,hH,dV.2 ⟨rfl,dZ.2 ⟨rfl,fun k x y h1 h2=>?_⟩⟩⟩
   rw [h1] at h2; injection h2 with h2; subst h2
   rw [List.getElem?_map] at h1
   obtain ⟨d,_,rfl⟩:=Option.map_eq_some_iff.1 h1
   exact (iU _ _).2 rfl
  ·cases ho
 ·simp only [fA,eS] at h1 h2
  split at h1
  ·split at h2
   ·simp at *; omega
   ·cases h2
  ·cases h1
 ·simp only [fA,eS] at h
  split at h
  ·simp at *; omega
  ·cases h
 ·simp only [fA] at h; simp at h
theorem aQn {Γ:Nat→AV} {H:Nat→Option HO} {n0:Nat} {x:AV} (hx:frz H 8 x=some (.sl [])) (m:Nat) (hm:0<m):Wk ⟨upd Γ 0 x,H,n0⟩ (fA (fun _=>.d (.sl [])) (fun _=>[]) m) (fun _=>0):=by
 refine ⟨fun id hid=>?_,fun t'=>?_,fun id o' ho=>?_,fun id id' h1 h2 _=>?_,fun h=>?_,fun h=>?_⟩
 ·simp [fA,eS]
 ·by_cases h:t'=0
  ·subst h
   show Sub H _ _ (upd Γ 0 x 0) (upd (fun _=>.any) 0 (.d (.sl [])) 0)
   rw [cG,cG]
   exact lQ hx fun a _ id hid=>by simp [fA,eS] at hid
  ·simp only [fA,upd,if_neg h]; exact lR _
 ·simp [fA,eS] at ho
 ·simp [fA,eS] at h1
 ·simp [fA,eS] at h
 ·simp only [fA] at h; simp at h; omega
set_option maxHeartbeats 4000000 in
theorem bJu:oN Tryz.prog 67 [aM []] (fun _=>.d (aM [])) (fun _=>[]):=by
 refine lD (N:=8) aF Tryz.func67 rfl rfl rfl (by decide) (by kernel_rfl) (by kernel_rfl) (by simp) rfl ?_
 simp [-map_map,-mapM_map,↓KW,aM]
 refine ⟨fun m hm=>⟨_,aQn rfl m hm⟩,fun m hm=>⟨_,aQn ?_ m hm⟩⟩
 simp [iB,dT,chunk]
set_option maxHeartbeats 4000000 in
theorem bOn {l:Ch} (h0:l≠[]) (hl:l.length≤1000000):oN Tryz.prog 67 [aM l] (fun m=>.own m 0 l.length 3) (fun _=>[.cells 89 ((flt eE l).map .d)]):=by
 refine lD (N:=8) aF Tryz.func67 rfl rfl rfl (by decide) (by kernel_rfl) (by kernel_rfl) (by simp) rfl ?_
 obtain ⟨x,r,rfl⟩:=List.exists_cons_of_ne_nil h0
 obtain ⟨a,t,hE,hcond,hval,hlen⟩:∃ a t,aM (x::r)=.sl (a::t)∧(a.length=3∧(∀ x,x∈a→one (AV.d x)=true)∧∀ x,x∈t→∀ y,y∈x→one (AV.d y)=true)∧List.map AV.d a++(t.map (List.map AV.d)).flatten=(flt eE (x::r)).map .d∧t.length+1=(x::r).length:=by
  have h1:∀ x:Int × Int,∀ y∈eE x,one (AV.d y)=true:=fun x y hy=>by
   have:=List.all_eq_true.1 (rY x) (.d y) (List.mem_map.2 ⟨y,hy,rfl⟩)
   exact this
  refine ⟨eE x,r.map eE,rfl,⟨rfl,h1 x,fun z hz y hy=>?_⟩,?_,by simp⟩
  ·obtain ⟨w,_,rfl⟩:=List.mem_map.1 hz
   exact h1 w y hy
  ·simp [flt,List.map_flatten]
 have hall:∀ y,y∈flt eE (x::r)→one (AV.d y)=true:=fun y hy=>List.all_eq_true.1 (eB rY (x::r)) (.d y) (List.mem_map.2 ⟨y,hy,rfl⟩)
 have e1:=bY oJ (x::r)
 have e2:((flt eE (x::r)).map AV.d).take ((x::r).length * 3)=(flt eE (x::r)).map AV.d:=eL oJ rfl
 generalize hL:x::r=l at *
 have hall':=eq_true hall
 have hbb:l.length * 40≤140737488355328∧l.length≤maxLen:=⟨by omega,aW (by omega)⟩
 rw [hE]
 simp [-map_map,-mapM_map,↓KW,hcond,hval,hlen,hbb,aDa,hall']
 refine fun m hm=>⟨_,aQm ?_ m hm⟩
 simp [dT]
set_option maxHeartbeats 4000000 in
theorem bJs {l:Ch} (h0:l≠[]) (hl:l.length≤1000000):Spec Tryz.prog 67 [aM l] (aM l):=by
 refine aY (N:=8) aF Tryz.func67 rfl rfl rfl (by kernel_rfl) (by kernel_rfl) (by simp) ?_
 obtain ⟨x,r,rfl⟩:=List.exists_cons_of_ne_nil h0
 obtain ⟨a,t,hE,hcond,hval,hlen⟩:∃ a t,aM (x::r)=.sl (a::t)∧(a.length=3∧(∀ x,x∈a→one (AV.d x)=true)∧∀ x,x∈t→∀ y,y∈x→one (AV.d y)=true)∧List.map AV.d a++(t.map (List.map AV.d)).flatten=(flt eE (x::r)).map .d∧t.length+1=(x::r).length:=by
  have h1:∀ x:Int × Int,∀ y∈eE x,one (AV.d y)=true:=fun x y hy=>by
   have:=List.all_eq_true.1 (rY x) (.d y) (List.mem_map.2 ⟨y,hy,rfl⟩)
   exact this
  refine ⟨eE x,r.map eE,rfl,⟨rfl,h1 x,fun z hz y hy=>?_⟩,?_,by simp⟩
  ·obtain ⟨w,_,rfl⟩:=List.mem_map.1 hz
   exact h1 w y hy
  ·simp [flt,List.map_flatten]
 have hall:∀ y,y∈flt eE (x::r)→one (AV.d y)=true:=fun y hy=>List.all_eq_true.1 (eB rY (x::r)) (.d y) (List.mem_map.2 ⟨y,hy,rfl⟩)
 have e1:=bY oJ (x::r)
 have e2:((flt eE (x::r)).map AV.d).take ((x::r).length * 3)=(flt eE (x::r)).map AV.d:=eL oJ rfl
 have e3:chunk 3 (x::r).length (flt eE (x::r))=(x::r).map eE:=dX (by decide) oJ rfl
 generalize hL:x::r=l at *
 have hall':=eq_true hall
 have hbb:l.length * 40≤140737488355328∧l.length≤maxLen:=⟨by omega,aW (by omega)⟩
 rw [hE]
 simp [-map_map,-mapM_map,↓KW,hcond,hval,hlen,hbb,aDa,hall']
 rw [e2]
 exact ⟨Nat.le_of_eq e1.symm,_,kS _ 6 _,e3.trans (by injection hE)⟩
set_option maxHeartbeats 4000000 in
theorem bJt:Spec Tryz.prog 67 [aM []] (aM []):=by
 refine aY (N:=8) aF Tryz.func67 rfl rfl rfl (by kernel_rfl) (by kernel_rfl) (by simp) ?_
 simp [-map_map,-mapM_map,↓KW,aM]
end Go.Am
end

section
set_option linter.unusedVariables false
set_option linter.unusedSimpArgs false
namespace Go.Am
open RowKit (Below)
section
variable {P:Program} {G:Ctx} {N:Nat} {ds:List Deferred}
end
theorem rM {hs:List HO} {rs:List Nat} {a id:Nat} (hid:(mS 1 hs id).isSome=true) (hl:hs.length≤rs.length) (h:a ∉ rs):aFy rs id≠a:=by
 rw [qY] at hid
 cases id with
 | zero=>simp at hid
 | succ i =>
  rw [if_pos (by omega),Nat.add_sub_cancel] at hid
  have hi:i<rs.length:=by
   rcases Nat.lt_or_ge i hs.length with h' | h'
   ·omega
   ·rw [List.getElem?_eq_none h'] at hid; cases hid
  show rs.getD i 0≠a
  rw [yY hi]
  exact fun e=>h (e ▸ List.getElem_mem hi)
end Go.Am
end

section
set_option linter.unusedVariables false
set_option linter.unusedSimpArgs false
open Go Go.Am Go.Proofs
namespace Go.Am
/-! A twin, plain -/
section
variable {c:List Cl} {x:Cl} {N:Int}
end
theorem oG {α:Type} (f:α→List D) (l:List α):((l.map f).map (List.map AV.d)).flatten=(flt f l).map AV.d:=by
 unfold flt
 rw [List.map_flatten]
theorem gM (m:List (Int × Ch)):aT (bJ m)=.d (bJ m):=rfl
theorem bIh {c:List Cl} (h:CxV c) (hb:∀ y∈c,-9223372036854775808≤y.id∧y.id≤9223372036854775807):∀ y∈c,Keys y.b:=fun y hy f hf=>by
 obtain ⟨z,hz,e,_⟩:=h.face y hy f hf
 have:=hb z hz
 rw [← e]
 simp only [inr,decide_eq_true_eq]; omega
end Go.Am
end

section
set_option linter.unusedVariables false
set_option linter.unusedSimpArgs false
namespace Go.Am
def enA {β:Type} (g:β→AV) (m:List (Int × β)):List (Int × AV):=m.map fun p=>(p.1,g p.2)
def alk {β:Type}:List (Int × β)→Int→Option β
 | [],_=>none
 | p::m,n=>if p.1=n then some p.2 else alk m n
def apt {β:Type}:List (Int × β)→Int→β→List (Int × β)
 | [],n,v=>[(n,v)]
 | p::m,n,v=>if p.1=n then (n,v)::m else p::apt m n v
theorem rR {β:Type} (g:β→AV) (n:Int):∀ m:List (Int × β),nY (enA g m) n=(alk m n).map g
 | []=>rfl
 | p::m=>by
  have ih:=rR g n m
  unfold nY at ih ⊢
  simp only [enA,List.map_cons,fX,alk] at ih ⊢
  by_cases h:p.1=n
  ·simp [h]
  ·rw [if_neg h,if_neg h,← ih]
   cases fX n (m.map fun p=>(p.1,g p.2)) <;> rfl
theorem aAl {β:Type} (g:β→AV) (n:Int) (v:β):∀ m:List (Int × β),oX (enA g m) n (g v)=enA g (apt m n v)
 | []=>rfl
 | p::m=>by
  have ih:=aAl g n v m
  unfold oX at ih ⊢
  simp only [enA,List.map_cons,fX,apt] at ih ⊢
  by_cases h:p.1=n
  ·simp [h]
  ·rw [if_neg h,if_neg h,List.map_cons,← ih]
   cases fX n (m.map fun p=>(p.1,g p.2)) <;> rfl
theorem zC {β:Type} (n k:Int) (v:β):∀ m:List (Int × β),alk (apt m n v) k=if k=n then some v else alk m k
 | []=>by
  simp only [apt,alk]
  by_cases h:k=n
  ·rw [if_pos h,if_pos h.symm]
  ·rw [if_neg h,if_neg (Ne.symm h)]
 | p::m=>by
  have ih:=zC n k v m
  simp only [apt,alk]
  by_cases h:p.1=n
  ·rw [if_pos h]
   simp only [alk]
   by_cases hk:k=n
   ·rw [if_pos hk.symm,if_pos hk]
   ·rw [if_neg (Ne.symm hk),if_neg hk,if_neg (by omega)]
  ·rw [if_neg h]
   simp only [alk,ih]
   by_cases hp:p.1=k
   ·rw [if_pos hp,if_pos hp,if_neg (by omega)]
   ·rw [if_neg hp,if_neg hp]
theorem aLq {β:Type} (n:Int) (v:β):∀ (m:List (Int × β)) (k:Int),k∈(apt m n v).map (·.1)↔k∈m.map (·.1)∨k=n
 | [],k=>by simp [apt]
 | p::m,k=>by
  have ih:=aLq n v m k
  simp only [apt]
  split
  ·rename_i h
   simp only [List.map_cons,List.mem_cons]
   constructor
   ·rintro (h1 | h1)
    ·exact .inr h1
    ·exact .inl (.inr h1)
   ·rintro ((h1 | h1) | h1)
    ·exact .inl (by omega)
    ·exact .inr h1
    ·exact .inl h1
  ·simp only [List.map_cons,List.mem_cons,ih]
   constructor
   ·rintro (h1 | h1 | h1)
    ·exact .inl (.inl h1)
    ·exact .inl (.inr h1)
    ·exact .inr h1
   ·rintro ((h1 | h1) | h1)
    ·exact .inl h1
    ·exact .inr (.inl h1)
    ·exact .inr (.inr h1)
theorem aFd {β:Type} (n:Int) (v:β):∀ {m:List (Int × β)},(m.map (·.1)).Nodup→((apt m n v).map (·.1)).Nodup
 | [],_=>by simp [apt]
 | p::m,h=>by
  simp only [List.map_cons,List.nodup_cons] at h
  simp only [apt]
  split
  ·rename_i e
   simp only [List.map_cons,List.nodup_cons]
   exact ⟨by rw [← e]; exact h.1,h.2⟩
  ·rename_i e
   simp only [List.map_cons,List.nodup_cons]
   refine ⟨fun hm=>?_,aFd n v h.2⟩
   rcases (aLq n v m p.1).1 hm with h1 | h1
   ·exact h.1 h1
   ·exact e h1
theorem aHb {β:Type} {n:Int} {v:β}:∀ {m:List (Int × β)},(m.map (·.1)).Nodup→(alk m n=some v↔(n,v)∈m)
 | [],_=>by simp [alk]
 | p::m,h=>by
  simp only [List.map_cons,List.nodup_cons] at h
  have ih:=aHb (n:=n) (v:=v) h.2
  simp only [alk,List.mem_cons]
  by_cases e:p.1=n
  ·rw [if_pos e]
   constructor
   ·intro h1; injection h1 with h1; exact .inl (by rw [← e,← h1])
   ·rintro (h1 | h1)
    ·rw [← h1]
    ·exact absurd (List.mem_map.2 ⟨_,h1,rfl⟩) (by rw [e] at h; exact h.1)
  ·rw [if_neg e,ih]
   constructor
   ·exact .inr
   ·rintro (h1 | h1)
    ·rw [← h1] at e; exact absurd rfl e
    ·exact h1
theorem aIf {β:Type} {g:β→D} {H H':Nat→Option HO} {ρ:Nat→Nat} {m m':List (Int × β)} (h:m=m'):lJ H H' ρ (.map .i64 (enA (fun v=>.d (g v)) m)) (.map .i64 (enA (fun v=>.d (g v)) m')):=by
 subst h
 refine zQ fun x hx=>?_
 obtain ⟨p,_,rfl⟩:=List.mem_map.1 hx
 exact bKq _
theorem tT {β:Type} {g:β→D} {H H':Nat→Option HO} {ρ:Nat→Nat} (m:List (Int × β)):lJ H H' ρ (.map .i64 (enA (fun v=>.d (g v)) m)) (.map .i64 (enA (fun v=>.d (g v)) m))↔True:=⟨fun _=>trivial,fun _=>aIf rfl⟩
theorem zW {β:Type} (l:List Nat) (g:β→D) (m:List (Int × β)):dT l (.map .i64 (enA (fun v=>.d (g v)) m))=.map .i64 (enA (fun v=>.d (g v)) m):=by
 simp only [dT,enA,List.map_map]
 congr 1
theorem bIu {β:Type} (g:β→D) (H:Nat→Option HO) (n id:Nat) (m:List (Int × β)) (h:H id=some (.map .i64 (enA (fun v=>.d (g v)) m))):frz H (n+2) (.mp id)=some (.mp .i64 (m.map (·.1)) (m.map fun p=>g p.2)):=by
 have e:∀ m:List (Int × β),((enA (fun v=>AV.d (g v)) m).map (·.2)).mapM (frz H (n+1))=some (m.map fun p=>g p.2):=fun m=>by
  induction m with
  | nil=>rfl
  | cons p m ih =>
   show (((enA (fun v=>AV.d (g v)) (p::m)).map (·.2)).mapM (frz H (n+1)))=_
   simp only [enA,List.map_cons,List.mapM_cons] at ih ⊢
   rw [ih]; rfl
 have e2:frz H (n+1+1) (.mp id)=match H id with
   | some (.map k es)=>((es.map fun x:Int × AV=>x.2).mapM (frz H (n+1))).map (D.mp k (es.map fun x:Int × AV=>x.1))
   | _=>none:=rfl
 rw [show n+2=n+1+1 from rfl,e2,h]
 simp only [e,Option.map_some]
 simp [enA]
theorem bBc {β:Type} (g:β→D) (hg:∀ v,aT (g v)=.d (g v)) (m:List (Int × β)):aCv (m.map (·.1)) (m.map fun p=>g p.2)=enA (fun v=>.d (g v)) m:=by
 unfold aCv enA
 induction m with
 | nil=>rfl
 | cons p m ih=>simp only [List.map_cons,List.zip_cons_cons,ih,hg]
end Go.Am
end

section
set_option linter.unusedVariables false
set_option linter.unusedSimpArgs false
open List (map_map mapM_map)
open Go Go.Am Go.Proofs
namespace Go.Am
theorem bPr:kJ Tryz.prog 59:=by
 refine ⟨fun w=>enters_of Tryz.func59 (by kernel_rfl) rfl _ w,fun w=>?_⟩
 refine callsD_of_wpS Tryz.func59 rfl fun c₀ cs hu=>?_
 apply wpS_region
 simp [wpOpsS,go_sem,recoverD,hu,Tryz.ntmps59,bodyPostS,results,Tryz.results59]
 cases c₀; simp only at hu; subst hu; rfl
def xM (p:Int × Int):List D:=[.i .i64 p.1,.i .i64 p.2]
def eX (l:List (Int × Int)):D:=.sl (l.map xM)
theorem oI (x:Int × Int):(xM x).length=2:=rfl
theorem aEs (x:Int × Int):((xM x).map AV.d).all one=true:=rfl
theorem vE (x:Int × Int):xM x=[.i .i64 x.1,.i .i64 x.2]:=rfl
/-! How often a cell is used -/
def aCw (m:List (Int × Int)) (n:Int):List (Int × Int):=apt m n ((alk m n).getD 0+1)
def jS (l:Ch) (m:List (Int × Int)):List (Int × Int):=l.foldl (fun m f=>aCw m f.1) m
def pY (c:List Cl):List (Int × Int):=c.foldl (fun m x=>jS x.b m) []
def bJr (n:Int) (l:Ch):Nat:=l.countP fun f=>decide (f.1=n)
def mY (n:Int):List Cl→Nat
 | []=>0
 | x::c=>bJr n x.b+mY n c
def aPg (m:List (Int × Int)) (k:Int→Nat):Prop:=(m.map (·.1)).Nodup∧∀ n,(alk m n).getD 0=(k n:Int)
theorem bIq {m:List (Int × Int)} {k:Int→Nat} (h:aPg m k) (n:Int):aPg (aCw m n) fun q=>k q+if q=n then 1 else 0:=by
 refine ⟨aFd _ _ h.1,fun q=>?_⟩
 unfold aCw
 rw [zC]
 by_cases e:q=n
 ·subst e; simp [h.2 q]
 ·simp [e,h.2 q]
theorem aHz:∀ (l:Ch) {m:List (Int × Int)} {k:Int→Nat},aPg m k→aPg (jS l m) fun q=>k q+bJr q l
 | [],m,k,h=>by simpa [jS,bJr] using h
 | f::l,m,k,h=>by
  have:=aHz l (bIq h f.1)
  refine ⟨this.1,fun q=>?_⟩
  show (alk (jS l (aCw m f.1)) q).getD 0=_
  rw [this.2 q]
  simp only [bJr,List.countP_cons]
  by_cases e:q=f.1
  ·rw [if_pos e,if_pos (by simp [e])]; omega
  ·have:¬ f.1=q:=fun h=>e h.symm
   simp [e,this]
theorem aWi (c:List Cl):aPg (pY c) fun q=>mY q c:=by
 suffices ∀ (c:List Cl) (m:List (Int × Int)) (k:Int→Nat),aPg m k→aPg (c.foldl (fun m x=>jS x.b m) m) fun q=>k q+mY q c by
  have:=this c [] (fun _=>0) ⟨by simp,fun n=>rfl⟩
  simpa [pY] using this
 intro c
 induction c with
 | nil=>intro m k h; simpa [mY] using h
 | cons x c ih =>
  intro m k h
  have:=ih _ _ (aHz x.b h)
  refine ⟨this.1,fun q=>?_⟩
  show (alk (c.foldl (fun m x=>jS x.b m) (jS x.b m)) q).getD 0=_
  rw [this.2 q]
  simp only [mY]; omega
theorem aMi {c:List Cl} {i:Nat} (h:i<c.length):pY (c.take (i+1))=jS c[i].b (pY (c.take i)):=by
 unfold pY
 rw [List.take_add_one,List.getElem?_eq_getElem h,List.foldl_append]; rfl
theorem aMh {l:Ch} {i:Nat} (h:i<l.length) (m:List (Int × Int)):jS (l.take (i+1)) m=aCw (jS (l.take i) m) l[i].1:=by
 unfold jS
 rw [List.take_add_one,List.getElem?_eq_getElem h,List.foldl_append]; rfl
theorem sN {l:Ch} {m:List (Int × Int)} {B:Int} (h:∀ n,0≤(alk m n).getD 0∧(alk m n).getD 0≤B):∀ n,0≤(alk (jS l m) n).getD 0∧(alk (jS l m) n).getD 0≤B+l.length:=by
 induction l generalizing m B with
 | nil=>intro n; have:=h n; simp only [jS,List.foldl_nil,List.length_nil]; omega
 | cons f l ih =>
  intro n
  have:=ih (m:=aCw m f.1) (B:=B+1) (fun q=>by
   unfold aCw
   rw [zC]
   have h1:=h q
   have h2:=h f.1
   split
   ·simp only [Option.getD_some]; omega
   ·omega) n
  show 0≤(alk (jS l (aCw m f.1)) n).getD 0∧(alk (jS l (aCw m f.1)) n).getD 0≤_
  simp only [List.length_cons]; omega
/-! The free pairs -/
def gQ (c:List Cl) (f:Int × Int):Bool:=decide (mY f.1 c=1) && decide (f.2.natAbs=1)
def iL (c:List Cl) (x:Cl):List (Int × Int):=if 0<mY x.id c then [] else (x.b.filter (gQ c)).map fun f=>(x.id,f.1)
def qO (c:List Cl):List (Int × Int):=c.flatMap (iL c)
def iD (v:Int):D:=.i .i64 v
def bD (v:Bool):D:=.b v
def usE (m:List (Int × Int)):List (Int × AV):=enA (fun v=>.d (iD v)) m
def onE (m:List (Int × Bool)):List (Int × AV):=enA (fun v=>.d (bD v)) m
theorem bHb:([]:List (Int × AV))=onE []:=rfl
theorem aUb (m:List (Int × Int)) (n:Int):nY (usE m) n=(alk m n).map fun v=>.d (.i .i64 v):=rR _ _ _
theorem aUc (m:List (Int × Bool)) (n:Int):nY (onE m) n=(alk m n).map fun v=>.d (.b v):=rR _ _ _
theorem aZs (m:List (Int × Int)) (n v:Int):oX (usE m) n (.d (.i .i64 v))=usE (apt m n v):=aAl (fun v=>AV.d (iD v)) _ _ _
theorem aKg (m:List (Int × Bool)) (n:Int) (v:Bool):oX (onE m) n (.d (.b v))=onE (apt m n v):=aAl (fun v=>AV.d (bD v)) _ _ _
theorem tS {H H':Nat→Option HO} {ρ:Nat→Nat} (m:List (Int × Int)):lJ H H' ρ (.map .i64 (usE m)) (.map .i64 (usE m))↔True:=tT _
theorem cZ {H H':Nat→Option HO} {ρ:Nat→Nat} (m:List (Int × Bool)):lJ H H' ρ (.map .i64 (onE m)) (.map .i64 (onE m))↔True:=tT _
theorem kQ (l:List Nat) (m:List (Int × Int)):dT l (.map .i64 (usE m))=.map .i64 (usE m):=zW _ _ _
theorem bQ (l:List Nat) (m:List (Int × Bool)):dT l (.map .i64 (onE m))=.map .i64 (onE m):=zW _ _ _
theorem bQr (H:Nat→Option HO) (id:Nat) (m:List (Int × Int)) (n:Int) (h:H id=some (.map .i64 (usE m))):lN Tryz.prog H 101 (.mp id) (.d (.i .i64 n)) false=some (.d (.i .i64 ((alk m n).getD 0))):=by
 have h1:tmp Tryz.prog 101=some (3,3):=by kernel_rfl
 have h2:gX Tryz.prog 3=some .i64:=by kernel_rfl
 have h3:tz Tryz.prog 3=some (.int .i64 0):=by kernel_rfl
 rw [cC,h]
 simp only [aUb]
 cases alk m n <;> simp [h1,h2,h3,cv,cv1]
theorem bKz (H:Nat→Option HO) (id:Nat) (m:List (Int × Bool)) (n:Int) (h:H id=some (.map .i64 (onE m))):lN Tryz.prog H 102 (.mp id) (.d (.i .i64 n)) false=some (.d (.b ((alk m n).getD false))):=by
 have h1:tmp Tryz.prog 102=some (3,4):=by kernel_rfl
 have h2:gX Tryz.prog 3=some .i64:=by kernel_rfl
 have h3:tz Tryz.prog 4=some (.bool false):=by kernel_rfl
 rw [cC,h]
 simp only [aUc]
 cases alk m n <;> simp [h1,h2,h3,cv,cv1]
def usD (m:List (Int × Int)):D:=.mp .i64 (m.map (·.1)) (m.map fun p=>iD p.2)
theorem bNm (H:Nat→Option HO) (m:List (Int × Int)) (n:Int):lN Tryz.prog H 101 (.d (usD m)) (.d (.i .i64 n)) false=some (.d (.i .i64 ((alk m n).getD 0))):=by
 have h1:tmp Tryz.prog 101=some (3,3):=by kernel_rfl
 have h2:gX Tryz.prog 3=some .i64:=by kernel_rfl
 have h3:tz Tryz.prog 3=some (.int .i64 0):=by kernel_rfl
 have e:lN Tryz.prog H 101 (.d (usD m)) (.d (.i .i64 n)) false=xI Tryz.prog 101 .i64 (aCv (m.map (·.1)) (m.map fun p=>iD p.2)) (.d (.i .i64 n)) false:=rfl
 rw [e,bBc iD fun _=>rfl]
 simp only [xI,rR]
 cases alk m n <;> simp [h1,h2,h3,cv,cv1,iD]
def usI (m:List (Int × Int)):List (Int × D):=m.map fun p=>(p.1,iD p.2)
theorem aTu (m:List (Int × Int)) (Γ:Nat→AV) (n:Nat) (x:Operand) (h:oev Γ x=.d (usD m)):nev Tryz.prog (.range 101 x) Γ n=some (.ptr n 0,some (.iter .i64 none (usI m))):=by
 have h1:tmp Tryz.prog 101=some (3,3):=by kernel_rfl
 have e:∀ m:List (Int × Int),(m.map (·.1)).zip (m.map fun p=>iD p.2)=usI m:=fun m=>by
  induction m with
  | nil=>rfl
  | cons p m ih=>simp only [List.map_cons,List.zip_cons_cons,ih,usI]
 simp only [nev,h1,h,usD,Option.bind_some,e]
theorem aBj {α:Type}:∀ {l:List α} {j:Nat} {e:α},l[j]? = some e→l.Perm (e::l.eraseIdx j)
 | [],j,e,h=>by simp at h
 | x::l,0,e,h=>by simp at h; subst h; exact List.Perm.refl _
 | x::l,j+1,e,h=>by
  have:=aBj (l:=l) (j:=j) (e:=e) (by simpa using h)
  exact (List.Perm.cons x this).trans (List.Perm.swap e x _)
theorem bIi (H:Nat→Option HO) (id:Nat):itA H (.ptr id 0)=match H id with
  | some (.iter k _ es)=>some (id,k,es)
  | _=>none:=rfl
theorem aLg (H:Nat→Option HO) (id:Nat):bCa H (.ptr id 0)=match H id with
  | some (.iter k (some e) _)=>some (.tp [.d (.i k e.1),aT e.2])
  | _=>none:=rfl
theorem wD {H H':Nat→Option HO} {ρ:Nat→Nat} (k k':IntKind) (l l':Option (Int × D)) (es es':List (Int × D)):lJ H H' ρ (.iter k l es) (.iter k' l' es')↔(k=k'∧l=l'∧es=es'):=Iff.rfl
theorem xC (s:List Nat) (k:IntKind) (l:Option (Int × D)) (es:List (Int × D)):dT s (.iter k l es)=.iter k l es:=rfl
theorem aPt {m:List (Int × Int)} {e:Int × D} (h:e∈usI m):∃ n v,e=(n,iD v)∧(n,v)∈m:=by
 obtain ⟨p,hp,rfl⟩:=List.mem_map.1 h
 exact ⟨p.1,p.2,rfl,hp⟩
theorem bBj {a b:Int} (h:iD a=iD b):a=b:=by injection h
theorem aRh (v:Int):aT (iD v)=.d (.i .i64 v):=rfl
def aHi (m:List (Int × Int)) (rest:List (Int × D)) (once:List (Int × Bool)):Prop:=∃ done,(done++rest).Perm (usI m)∧∀ n,(alk once n).getD false=true↔(n,iD 1)∈done
theorem aHi.step {m:List (Int × Int)} {rest:List (Int × D)} {once:List (Int × Bool)} (h:aHi m rest once) {j:Nat} {n v:Int} (he:rest[j]? = some (n,iD v)):aHi m (rest.eraseIdx j) (if v=1 then apt once n true else once):=by
 obtain ⟨done,h1,h2⟩:=h
 refine ⟨done++[(n,iD v)],?_,fun q=>?_⟩
 ·rw [List.append_assoc]
  exact ((List.Perm.append_left done (aBj he)).symm).trans h1
 ·rw [List.mem_append,List.mem_singleton,Prod.mk.injEq]
  by_cases hv:v=1
  ·rw [if_pos hv,zC]
   by_cases hq:q=n
   ·subst hq; subst hv; simp
   ·rw [if_neg hq,h2]; simp [hq]
  ·rw [if_neg hv,h2]
   constructor
   ·exact .inl
   ·rintro (h | ⟨_,h⟩)
    ·exact h
    ·exact absurd (bBj h).symm hv
theorem aHi.fin {m:List (Int × Int)} {once:List (Int × Bool)} (hnd:(m.map (·.1)).Nodup) (h:aHi m [] once) (n:Int):(alk once n).getD false=true↔(alk m n).getD 0=1:=by
 obtain ⟨done,h1,h2⟩:=h
 rw [List.append_nil] at h1
 rw [h2,h1.mem_iff]
 constructor
 ·intro h
  obtain ⟨a,v,e,hm⟩:=aPt h
  injection e with e1 e2
  rw [← bBj e2,← e1] at hm
  rw [(aHb hnd).2 hm]; rfl
 ·intro h
  cases hk:alk m n with
  | none=>rw [hk] at h; simp at h
  | some v =>
   rw [hk] at h
   have hv:v=1:=h
   subst hv
   exact List.mem_map.2 ⟨(n,1),(aHb hnd).1 hk,rfl⟩
theorem aHi.nil (m:List (Int × Int)):aHi m (usI m) []:=⟨[],by simp,fun n=>by simp [alk]⟩
def lW (t:Nat) (sl:List (Nat × AV)) (mb:HO) (e:TypeId) (sz n:Nat) (cells:List D):St:=match n with
 | 0=>StL ((t,.nil)::sl) none [mb]
 | n+1=>StL ((t,.own 2 0 (n+1) sz)::sl) none [mb,.cells e (cells.map .d)]
def kL (t:Nat) (sl:List (Nat × AV)) (mb xb:HO) (e:TypeId) (sz n:Nat) (cells:List D):St:=match n with
 | 0=>StL ((t,.nil)::sl) none [mb,xb]
 | n+1=>StL ((t,.own 3 0 (n+1) sz)::sl) none [mb,xb,.cells e (cells.map .d)]
theorem aNx {c d:List Cl} {i:Nat} (h:i<c.length):(c.take (i+1)).flatMap (iL d)=(c.take i).flatMap (iL d)++iL d c[i]:=by
 rw [List.take_add_one,List.getElem?_eq_getElem h,List.flatMap_append]; simp
theorem aEq {c:List Cl} {l:Ch} {i:Nat} (n:Int) (h:i<l.length):((l.take (i+1)).filter (gQ c)).map (fun f=>(n,f.1))=((l.take i).filter (gQ c)).map (fun f=>(n,f.1))++if gQ c l[i] then [(n,l[i].1)] else []:=by
 rw [List.take_add_one,List.getElem?_eq_getElem h,List.filter_append,List.map_append]
 congr 1
 by_cases e:gQ c l[i]=true <;> simp [e]
set_option maxHeartbeats 16000000 in
set_option maxRecDepth 10000 in
theorem aZu {c:List Cl} {e:Nat} (hz:SzX e c) (he:e+14<4398046511104):Spec Tryz.prog 22 [aI c] (eX (qO c)):=by
 have hlen:=hz.len
 refine rJ (N:=90) aF Tryz.func22 rfl rfl rfl (by kernel_rfl) (by kernel_rfl) (by kernel_rfl) (by kernel_rfl) rfl bPr (by simp) ?_
 simp [-map_map,-mapM_map,↓KW,aI]
 refine aNo (fun i:Nat=>i≤c.length∧∀ n,0≤(alk (pY (c.take i)) n).getD 0∧(alk (pY (c.take i)) n).getD 0≤100 * i) (fun i=>StL [(0,.d (aI c)),(3,.mp 1),(17,.d (aI c)),(18,.d (.i .i64 c.length)),(19,.d (.i .i64 (i:Int)))] none [.map .i64 (usE (pY (c.take i)))]) (fun i=>c.length - i) 0 ⟨Nat.zero_le _,fun n=>by simp [pY,alk]⟩ ?_ ?_
 ·refine bC [1] (by simp) ?_ ?_
  ·simp [-map_map,upd,aT,Γ0,aI]
  ·exact ⟨⟨_,by simp [upd]; rfl,aIf rfl⟩,trivial⟩
 ·rintro i ⟨hi,hub⟩
  by_cases hgo:i<c.length
  ·have q1:(i:Int)<c.length:=by omega
   have hx:c[i]? = some c[i]:=List.getElem?_eq_getElem hgo
   have hw:IntKind.i64.wrap ((i:Int)+1)=(i:Int)+1:=aS (by omega) (by omega)
   have htk:=aMi hgo
   have hxl:=hz.bl _ (List.getElem_mem hgo)
   refine (show ∃ x,c[i]=x from ⟨_,rfl⟩).elim fun x hxe=>?_
   rw [hxe] at hx htk hxl
   refine (show ∃ m,pY (c.take i)=m from ⟨_,rfl⟩).elim fun m hme=>?_
   rw [hme] at htk
   simp only [hme] at hub ⊢
   have hyc:aZ x=[D.i .i64 x.id,.i .i64 x.dim,aM x.b]:=rfl
   simp [-map_map,-mapM_map,↓KW,aI,aM,q1,hx,hyc,aE,aB,aC,kQ]
   refine aU (fun j:Nat=>j≤x.b.length) (fun j=>StL [(0,.d (aI c)),(3,.mp 1),(17,.d (aI c)),(18,.d (.i .i64 c.length)),(19,.d (.i .i64 (i:Int))),(24,.d (aM x.b)),(25,.d (.i .i64 x.b.length)),(26,.d (.i .i64 (j:Int)))] none [.map .i64 (usE (jS (x.b.take j) m))]) (fun j=>x.b.length - j) 0 (Nat.zero_le _) ?_ ?_
   ·refine bC [1] (by simp) ?_ ?_ <;> simp [-map_map,upd,aT,Γ0,aI,aM,kQ,tS,jS]
   ·intro j hj
    by_cases hgo2:j<x.b.length
    ·have q2:(j:Int)<x.b.length:=by omega
     have hf:x.b[j]? = some x.b[j]:=List.getElem?_eq_getElem hgo2
     have hw2:IntKind.i64.wrap ((j:Int)+1)=(j:Int)+1:=aS (by omega) (by omega)
     have htk2:=aMh hgo2 m
     have hb2:=sN (l:=x.b.take j) hub
     rw [List.length_take] at hb2
     refine (show ∃ f,x.b[j]=f from ⟨_,rfl⟩).elim fun f hfe=>?_
     rw [hfe] at hf htk2
     refine (show ∃ m',jS (x.b.take j) m=m' from ⟨_,rfl⟩).elim fun m' hme'=>?_
     rw [hme'] at htk2 hb2
     simp only [hme']
     have hb3:=hb2 f.1
     have hlk:∀ H:Nat→Option HO,H 1=some (.map .i64 (usE m'))→lN Tryz.prog H 101 (.mp 1) (.d (.i .i64 f.1)) false=some (.d (.i .i64 ((alk m' f.1).getD 0))):=fun H h=>bQr H 1 m' f.1 h
     have hinc:apt m' f.1 ((alk m' f.1).getD 0+1)=aCw m' f.1:=rfl
     refine (show ∃ v,(alk m' f.1).getD 0=v from ⟨_,rfl⟩).elim fun v hve=>?_
     rw [hve] at hlk hinc hb3
     have hw3:IntKind.i64.wrap (v+1)=v+1:=aS (by omega) (by omega)
     simp [-map_map,-mapM_map,↓KW,aI,aM,bB,q2,hf,hlk,hw3,hw2,cI,aZs,hinc,kQ,aJ,aD,aP]
     refine aK (j+1) hgo2 (Nat.sub_lt_sub_left hgo2 (Nat.lt_succ_self _)) (bC [1] (by simp) ?_ ?_) <;> simp [-map_map,upd,aT,Γ0,aI,aM,kQ,tS,htk2]
    ·have q2:¬ (j:Int)<x.b.length:=by omega
     have hb2:=sN (l:=x.b) hub
     rw [List.take_of_length_le (by omega)]
     simp [-map_map,-mapM_map,↓KW,aI,aM,q2,hw]
     refine aK (i+1) ⟨hgo,fun n=>?_⟩ (Nat.sub_lt_sub_left hgo (Nat.lt_succ_self _)) (bC [1] (by simp) ?_ ?_)
     ·rw [htk]; have:=hb2 n; omega
     ·simp [-map_map,upd,aT,Γ0,aI,aM,kQ,tS,htk]
     ·simp [-map_map,upd,aT,Γ0,aI,aM,kQ,tS,htk]
  ·have q1:¬ (i:Int)<c.length:=by omega
   rw [List.take_of_length_le (by omega)] at hub ⊢
   obtain ⟨hnd,hcnt⟩:=aWi c
   refine (show ∃ m,pY c=m from ⟨_,rfl⟩).elim fun m hme=>?_
   rw [hme] at hub hnd hcnt ⊢
   simp [-map_map,-mapM_map,↓KW,aI,q1]
   refine bOc (StL [(0,.d (aI c)),(3,.d (usD m))] none []) (bC [] (by simp) ?_ ?_) ?_
   ·simp [-map_map,upd,aT,Γ0,aI]
    exact lQ (bIu iD _ 6 1 m rfl) (fun a _ id h=>by simp [mS] at h)
   ·trivial
   ·simp [-map_map,-mapM_map,↓KW,aI,↓aZb,aTu m,bHb]
    refine aU (fun y:Option (Int × D) × List (Int × D) × List (Int × Bool)=>aHi m y.2.1 y.2.2) (fun y=>StL [(0,.d (aI c)),(3,.d (usD m)),(8,.mp 1),(39,.ptr 2 0)] none [.map .i64 (onE y.2.2),.iter .i64 y.1 y.2.1]) (fun y=>y.2.1.length) (none,usI m,[]) (aHi.nil m) ?_ ?_
    ·refine bC [1,2] (by simp) ?_ ?_ <;> simp [-map_map,upd,aT,Γ0,aI,cZ,wD]
    ·rintro ⟨last,rest,once⟩ hok
     simp only at hok ⊢
     simp [-map_map,-mapM_map,↓KW,aI,↓bHe,bIi]
     refine aKd (fun he=>?_) (fun j ⟨n,w⟩ he=>?_)
     ·subst he
      have hfin:=hok.fin hnd
      simp [-map_map,-mapM_map,↓KW,aI]
      refine aU (fun y:Nat × List (Int × Int)=>y.1≤c.length∧y.2.length≤100 * y.1∧(c.take y.1).flatMap (iL c)=y.2) (fun y=>lW 11 [(0,.d (aI c)),(3,.d (usD m)),(8,.mp 1),(49,.d (aI c)),(50,.d (.i .i64 c.length)),(51,.d (.i .i64 (y.1:Int)))] (.map .i64 (onE once)) 59 2 y.2.length (flt xM y.2)) (fun y=>c.length - y.1) (0,[]) ⟨Nat.zero_le _,Nat.zero_le _,rfl⟩ ?_ ?_
      ·simp only [List.length_nil,lW]
       refine bC [1] (by simp) ?_ ?_ <;> simp [-map_map,upd,aT,Γ0,aI,cZ,cV]
      ·clear hi hgo q1 i hub
       rintro ⟨i,l⟩ ⟨hi,hll,hl⟩
       simp only at hi hll hl ⊢
       by_cases hgo:i<c.length
       ·have q1:(i:Int)<c.length:=by omega
        have hx:c[i]? = some c[i]:=List.getElem?_eq_getElem hgo
        have hw:IntKind.i64.wrap ((i:Int)+1)=(i:Int)+1:=aS (by omega) (by omega)
        have htk:=aNx (d:=c) hgo
        rw [hl] at htk
        have hxl:=hz.bl _ (List.getElem_mem hgo)
        have hxb:=hz.bb _ (List.getElem_mem hgo)
        refine (show ∃ x,c[i]=x from ⟨_,rfl⟩).elim fun x hxe=>?_
        rw [hxe] at hx htk hxl hxb
        have hyc:aZ x=[D.i .i64 x.id,.i .i64 x.dim,aM x.b]:=rfl
        have hlu:∀ H:Nat→Option HO,lN Tryz.prog H 101 (.d (usD m)) (.d (.i .i64 x.id)) false=some (.d (.i .i64 ((mY x.id c:Nat):Int))):=fun H=>by rw [bNm H m x.id,hcnt]
        rcases hn:l.length with _ | k
        ·simp only [hn,lW]
         by_cases h0:0<mY x.id c
         ·have h0':(0:Int)<((mY x.id c:Nat):Int):=by omega
          have hfc:iL c x=[]:=by unfold iL; rw [if_pos h0]
          rw [hfc,List.append_nil] at htk
          simp [-map_map,-mapM_map,↓KW,aI,q1,hx,hyc,hlu,h0,h0',hw,aE,aB,aC,bQ]
          refine aK (τ:=Nat × List (Int × Int)) (i+1,l) ⟨hgo,by simp only; omega,htk⟩ (Nat.sub_lt_sub_left hgo (Nat.lt_succ_self _)) ?_
          simp only [hn,lW]
          refine bC [1] (by simp) ?_ ?_ <;> simp [-map_map,upd,aT,Γ0,aI,cZ,cV]
         ·have h0':¬ (0:Int)<((mY x.id c:Nat):Int):=by omega
          have hfc:iL c x=(x.b.filter (gQ c)).map fun f=>(x.id,f.1):=by unfold iL; rw [if_neg h0]
          rw [hfc] at htk
          simp [-map_map,-mapM_map,↓KW,aI,aM,q1,hx,hyc,hlu,h0,h0',hw,aE,aB,aC,bQ]
          refine aU (fun y:Nat × List (Int × Int)=>y.1≤x.b.length∧y.2.length≤100 * i+y.1∧l++((x.b.take y.1).filter (gQ c)).map (fun f=>(x.id,f.1))=y.2) (fun y=>kL 11 [(0,.d (aI c)),(3,.d (usD m)),(8,.mp 1),(13,.ptr 2 0),(49,.d (aI c)),(50,.d (.i .i64 c.length)),(51,.d (.i .i64 (i:Int))),(61,.d (aM x.b)),(62,.d (.i .i64 x.b.length)),(63,.d (.i .i64 (y.1:Int)))] (.map .i64 (onE once)) (.cells 47 [.d (.i .i64 x.id),.d (.i .i64 x.dim),.d (aM x.b)]) 59 2 y.2.length (flt xM y.2)) (fun y=>x.b.length - y.1) (0,l) ⟨Nat.zero_le _,by simp only; omega,by simp⟩ ?_ ?_
          ·simp only [hn,kL]
           refine bC [1,2] (by simp) ?_ ?_ <;> simp [-map_map,upd,aT,Γ0,aI,aM,cZ,cV]
          ·rintro ⟨j,l2⟩ ⟨hj,hl2,hinv⟩
           simp only at hj hl2 hinv ⊢
           by_cases hgo2:j<x.b.length
           ·have q2:(j:Int)<x.b.length:=by omega
            have hf:x.b[j]? = some x.b[j]:=List.getElem?_eq_getElem hgo2
            have hw2:IntKind.i64.wrap ((j:Int)+1)=(j:Int)+1:=aS (by omega) (by omega)
            have hfb:=hxb _ (List.getElem_mem hgo2)
            have htk2:=aEq (c:=c) x.id hgo2
            refine (show ∃ f,x.b[j]=f from ⟨_,rfl⟩).elim fun f hfe=>?_
            rw [hfe] at hf htk2 hfb
            have hinv2:l++((x.b.take (j+1)).filter (gQ c)).map (fun f=>(x.id,f.1))=l2++if gQ c f then [(x.id,f.1)] else []:=by rw [htk2,← List.append_assoc,hinv]
            have hef:eE f=[.i .i64 f.1,.b (decide (f.2<0)),aG (aV f.2.natAbs)]:=rfl
            obtain ⟨n,z⟩:=f
            simp only at hfb hef hinv2
            have hzS:Sz z:=szE hfb (by omega)
            have hon:(alk once n).getD false=decide (mY n c=1):=by
             rw [Bool.eq_iff_iff,hfin,hcnt,decide_eq_true_eq]; simp only; omega
            have hlo:∀ H:Nat→Option HO,H 1=some (.map .i64 (onE once))→lN Tryz.prog H 102 (.mp 1) (.d (.i .i64 n)) false=some (.d (.b (decide (mY n c=1)))):=fun H h=>by rw [bKz H 1 once n h,hon]
            have hm1:(1:Nat)≤maxLen:=aW (by decide)
            rcases hn2:l2.length with _ | k
            ·by_cases h1:mY n c=1
             ·have hA:=yX z hzS
              have hO:=tG
              obtain ⟨r,hC,hr⟩:=yW (z.natAbs:Int) 1 (by unfold Sz at hzS ⊢; rw [Int.natAbs_natCast]; exact hzS) sz1
              rw [decide_eq_true h1] at hlo
              simp only [kL]
              simp [-map_map,-mapM_map,↓KW,aI,aM,bB,q2,hf,hlo,aJ,aD,aP]
              refine aA (ds:=[encZ z]) (by rfl) hA ?_
              simp [-map_map,-mapM_map,↓KW,aI,aM,bB,bI,aJ,aD,aP,bQ]
              refine aA (ds:=[.i .i64 1]) (by rfl) hO ?_
              simp [-map_map,-mapM_map,↓KW,aI,aM,bB,bI,aJ,aD,aP,bQ]
              refine aA (ds:=[encZ (z.natAbs:Int),encZ 1]) (by rfl) hC ?_
              by_cases hz1:z.natAbs=1
              ·have hr0:r=0:=hr.2 (by omega)
               have hok:gQ c (n,z)=true:=by unfold gQ; simp [h1,hz1]
               rw [hok,if_pos rfl] at hinv2
               rw [hr0]
               have e0:l2=[]:=List.eq_nil_of_length_eq_zero hn2
               simp [-map_map,-mapM_map,↓KW,hr0,hw2,hm1,bQ]
               refine aK (τ:=Nat × List (Int × Int)) (j+1,l2++[(x.id,n)]) ⟨hgo2,by simp only [List.length_append,List.length_singleton]; omega,hinv2⟩ (Nat.sub_lt_sub_left hgo2 (Nat.lt_succ_self _)) ?_
               simp only [List.length_append,hn2,List.length_singleton,kL]
               refine bC [1,2,5] (by simp) ?_ ?_ <;> simp [-map_map,upd,aT,Γ0,aI,aM,cZ,e0,dC,vE]
              ·have hr0:((r == 0):Bool)=false:=by simp; exact fun h=>hz1 (by have:=hr.1 h; omega)
               have hok:gQ c (n,z)=false:=by unfold gQ; simp [hz1]
               rw [hok] at hinv2
               simp only [Bool.false_eq_true,if_false,List.append_nil] at hinv2
               simp [-map_map,-mapM_map,↓KW,hr0,hw2,bQ]
               refine aK (τ:=Nat × List (Int × Int)) (j+1,l2) ⟨hgo2,by simp only; omega,hinv2⟩ (Nat.sub_lt_sub_left hgo2 (Nat.lt_succ_self _)) ?_
               simp only [hn2,kL]
               refine bC [1,2] (by simp) ?_ ?_ <;> simp [-map_map,upd,aT,Γ0,aI,aM,cZ,cV]
             ·rw [decide_eq_false h1] at hlo
              have hok:gQ c (n,z)=false:=by unfold gQ; simp [h1]
              rw [hok] at hinv2
              simp only [Bool.false_eq_true,if_false,List.append_nil] at hinv2
              simp only [kL]
              simp [-map_map,-mapM_map,↓KW,aI,aM,bB,q2,hf,hlo,hw2,aJ,aD,aP,bQ]
              refine aK (τ:=Nat × List (Int × Int)) (j+1,l2) ⟨hgo2,by simp only; omega,hinv2⟩ (Nat.sub_lt_sub_left hgo2 (Nat.lt_succ_self _)) ?_
              simp only [hn2,kL]
              refine bC [1,2] (by simp) ?_ ?_ <;> simp [-map_map,upd,aT,Γ0,aI,aM,cZ,cV]
            ·by_cases h1:mY n c=1
             ·have hA:=yX z hzS
              have hO:=tG
              obtain ⟨r,hC,hr⟩:=yW (z.natAbs:Int) 1 (by unfold Sz at hzS ⊢; rw [Int.natAbs_natCast]; exact hzS) sz1
              rw [decide_eq_true h1] at hlo
              simp only [kL]
              simp [-map_map,-mapM_map,↓KW,aI,aM,bB,q2,hf,hlo,aJ,aD,aP]
              refine aA (ds:=[encZ z]) (by rfl) hA ?_
              simp [-map_map,-mapM_map,↓KW,aI,aM,bB,bI,aJ,aD,aP,bQ]
              refine aA (ds:=[.i .i64 1]) (by rfl) hO ?_
              simp [-map_map,-mapM_map,↓KW,aI,aM,bB,bI,aJ,aD,aP,bQ]
              refine aA (ds:=[encZ (z.natAbs:Int),encZ 1]) (by rfl) hC ?_
              by_cases hz1:z.natAbs=1
              ·have hr0:r=0:=hr.2 (by omega)
               have hok:gQ c (n,z)=true:=by unfold gQ; simp [h1,hz1]
               rw [hok,if_pos rfl] at hinv2
               rw [hr0]
               have hbb:=cO (n:=k+1) (by omega)
               have hcl:=bY oI l2
               rw [hn2] at hcl
               have hal:=eB aEs l2
               have hb8:(k+1+1) * 16≤140737488355328:=by omega
               simp [-map_map,-mapM_map,↓KW,hr0,hw2,hm1,hbb,hb8,hcl,hal,aW,bQ]
               refine aK (τ:=Nat × List (Int × Int)) (j+1,l2++[(x.id,n)]) ⟨hgo2,by simp only [List.length_append,List.length_singleton]; omega,hinv2⟩ (Nat.sub_lt_sub_left hgo2 (Nat.lt_succ_self _)) ?_
               simp only [List.length_append,hn2,List.length_singleton,kL]
               refine bC [1,2,6] (by simp) ?_ ?_ <;> simp [-map_map,upd,aT,Γ0,aI,aM,bQ,cZ,dW,dC,vE]
              ·have hr0:((r == 0):Bool)=false:=by simp; exact fun h=>hz1 (by have:=hr.1 h; omega)
               have hok:gQ c (n,z)=false:=by unfold gQ; simp [hz1]
               rw [hok] at hinv2
               simp only [Bool.false_eq_true,if_false,List.append_nil] at hinv2
               simp [-map_map,-mapM_map,↓KW,hr0,hw2,bQ]
               refine aK (τ:=Nat × List (Int × Int)) (j+1,l2) ⟨hgo2,by simp only; omega,hinv2⟩ (Nat.sub_lt_sub_left hgo2 (Nat.lt_succ_self _)) ?_
               simp only [hn2,kL]
               refine bC [1,2,3] (by simp) ?_ ?_ <;> simp [-map_map,upd,aT,Γ0,aI,aM,cZ,cV]
             ·rw [decide_eq_false h1] at hlo
              have hok:gQ c (n,z)=false:=by unfold gQ; simp [h1]
              rw [hok] at hinv2
              simp only [Bool.false_eq_true,if_false,List.append_nil] at hinv2
              simp only [kL]
              simp [-map_map,-mapM_map,↓KW,aI,aM,bB,q2,hf,hlo,hw2,aJ,aD,aP,bQ]
              refine aK (τ:=Nat × List (Int × Int)) (j+1,l2) ⟨hgo2,by simp only; omega,hinv2⟩ (Nat.sub_lt_sub_left hgo2 (Nat.lt_succ_self _)) ?_
              simp only [hn2,kL]
              refine bC [1,2,3] (by simp) ?_ ?_ <;> simp [-map_map,upd,aT,Γ0,aI,aM,cZ,cV]
           ·have q2:¬ (j:Int)<x.b.length:=by omega
            rw [List.take_of_length_le (by omega)] at hinv
            rcases hn2:l2.length with _ | k
            ·simp only [kL]
             simp [-map_map,-mapM_map,↓KW,aI,aM,q2,hw,bQ]
             refine aK (τ:=Nat × List (Int × Int)) (i+1,l2) ⟨hgo,by simp only; omega,by rw [htk,hinv]⟩ (Nat.sub_lt_sub_left hgo (Nat.lt_succ_self _)) ?_
             simp only [hn2,lW]
             refine bC [1] (by simp) ?_ ?_ <;> simp [-map_map,upd,aT,Γ0,aI,cZ,cV]
            ·simp only [kL]
             simp [-map_map,-mapM_map,↓KW,aI,aM,q2,hw,bQ]
             refine aK (τ:=Nat × List (Int × Int)) (i+1,l2) ⟨hgo,by simp only; omega,by rw [htk,hinv]⟩ (Nat.sub_lt_sub_left hgo (Nat.lt_succ_self _)) ?_
             simp only [hn2,lW]
             refine bC [1,3] (by simp) ?_ ?_ <;> simp [-map_map,upd,aT,Γ0,aI,cZ,cV]
        ·simp only [hn,lW]
         by_cases h0:0<mY x.id c
         ·have h0':(0:Int)<((mY x.id c:Nat):Int):=by omega
          have hfc:iL c x=[]:=by unfold iL; rw [if_pos h0]
          rw [hfc,List.append_nil] at htk
          simp [-map_map,-mapM_map,↓KW,aI,q1,hx,hyc,hlu,h0,h0',hw,aE,aB,aC,bQ]
          refine aK (τ:=Nat × List (Int × Int)) (i+1,l) ⟨hgo,by simp only; omega,htk⟩ (Nat.sub_lt_sub_left hgo (Nat.lt_succ_self _)) ?_
          simp only [hn,lW]
          refine bC [1,2] (by simp) ?_ ?_ <;> simp [-map_map,upd,aT,Γ0,aI,cZ,cV]
         ·have h0':¬ (0:Int)<((mY x.id c:Nat):Int):=by omega
          have hfc:iL c x=(x.b.filter (gQ c)).map fun f=>(x.id,f.1):=by unfold iL; rw [if_neg h0]
          rw [hfc] at htk
          simp [-map_map,-mapM_map,↓KW,aI,aM,q1,hx,hyc,hlu,h0,h0',hw,aE,aB,aC,bQ]
          refine aU (fun y:Nat × List (Int × Int)=>y.1≤x.b.length∧y.2.length≤100 * i+y.1∧l++((x.b.take y.1).filter (gQ c)).map (fun f=>(x.id,f.1))=y.2) (fun y=>kL 11 [(0,.d (aI c)),(3,.d (usD m)),(8,.mp 1),(13,.ptr 2 0),(49,.d (aI c)),(50,.d (.i .i64 c.length)),(51,.d (.i .i64 (i:Int))),(61,.d (aM x.b)),(62,.d (.i .i64 x.b.length)),(63,.d (.i .i64 (y.1:Int)))] (.map .i64 (onE once)) (.cells 47 [.d (.i .i64 x.id),.d (.i .i64 x.dim),.d (aM x.b)]) 59 2 y.2.length (flt xM y.2)) (fun y=>x.b.length - y.1) (0,l) ⟨Nat.zero_le _,by simp only; omega,by simp⟩ ?_ ?_
          ·simp only [hn,kL]
           refine bC [1,3,2] (by simp) ?_ ?_ <;> simp [-map_map,upd,aT,Γ0,aI,aM,cZ,cV]
          ·rintro ⟨j,l2⟩ ⟨hj,hl2,hinv⟩
           simp only at hj hl2 hinv ⊢
           by_cases hgo2:j<x.b.length
           ·have q2:(j:Int)<x.b.length:=by omega
            have hf:x.b[j]? = some x.b[j]:=List.getElem?_eq_getElem hgo2
            have hw2:IntKind.i64.wrap ((j:Int)+1)=(j:Int)+1:=aS (by omega) (by omega)
            have hfb:=hxb _ (List.getElem_mem hgo2)
            have htk2:=aEq (c:=c) x.id hgo2
            refine (show ∃ f,x.b[j]=f from ⟨_,rfl⟩).elim fun f hfe=>?_
            rw [hfe] at hf htk2 hfb
            have hinv2:l++((x.b.take (j+1)).filter (gQ c)).map (fun f=>(x.id,f.1))=l2++if gQ c f then [(x.id,f.1)] else []:=by rw [htk2,← List.append_assoc,hinv]
            have hef:eE f=[.i .i64 f.1,.b (decide (f.2<0)),aG (aV f.2.natAbs)]:=rfl
            obtain ⟨n,z⟩:=f
            simp only at hfb hef hinv2
            have hzS:Sz z:=szE hfb (by omega)
            have hon:(alk once n).getD false=decide (mY n c=1):=by
             rw [Bool.eq_iff_iff,hfin,hcnt,decide_eq_true_eq]; simp only; omega
            have hlo:∀ H:Nat→Option HO,H 1=some (.map .i64 (onE once))→lN Tryz.prog H 102 (.mp 1) (.d (.i .i64 n)) false=some (.d (.b (decide (mY n c=1)))):=fun H h=>by rw [bKz H 1 once n h,hon]
            have hm1:(1:Nat)≤maxLen:=aW (by decide)
            rcases hn2:l2.length with _ | k
            ·by_cases h1:mY n c=1
             ·have hA:=yX z hzS
              have hO:=tG
              obtain ⟨r,hC,hr⟩:=yW (z.natAbs:Int) 1 (by unfold Sz at hzS ⊢; rw [Int.natAbs_natCast]; exact hzS) sz1
              rw [decide_eq_true h1] at hlo
              simp only [kL]
              simp [-map_map,-mapM_map,↓KW,aI,aM,bB,q2,hf,hlo,aJ,aD,aP]
              refine aA (ds:=[encZ z]) (by rfl) hA ?_
              simp [-map_map,-mapM_map,↓KW,aI,aM,bB,bI,aJ,aD,aP,bQ]
              refine aA (ds:=[.i .i64 1]) (by rfl) hO ?_
              simp [-map_map,-mapM_map,↓KW,aI,aM,bB,bI,aJ,aD,aP,bQ]
              refine aA (ds:=[encZ (z.natAbs:Int),encZ 1]) (by rfl) hC ?_
              by_cases hz1:z.natAbs=1
              ·have hr0:r=0:=hr.2 (by omega)
               have hok:gQ c (n,z)=true:=by unfold gQ; simp [h1,hz1]
               rw [hok,if_pos rfl] at hinv2
               rw [hr0]
               have e0:l2=[]:=List.eq_nil_of_length_eq_zero hn2
               simp [-map_map,-mapM_map,↓KW,hr0,hw2,hm1,bQ]
               refine aK (τ:=Nat × List (Int × Int)) (j+1,l2++[(x.id,n)]) ⟨hgo2,by simp only [List.length_append,List.length_singleton]; omega,hinv2⟩ (Nat.sub_lt_sub_left hgo2 (Nat.lt_succ_self _)) ?_
               simp only [List.length_append,hn2,List.length_singleton,kL]
               refine bC [1,2,5] (by simp) ?_ ?_ <;> simp [-map_map,upd,aT,Γ0,aI,aM,cZ,e0,dC,vE]
              ·have hr0:((r == 0):Bool)=false:=by simp; exact fun h=>hz1 (by have:=hr.1 h; omega)
               have hok:gQ c (n,z)=false:=by unfold gQ; simp [hz1]
               rw [hok] at hinv2
               simp only [Bool.false_eq_true,if_false,List.append_nil] at hinv2
               simp [-map_map,-mapM_map,↓KW,hr0,hw2,bQ]
               refine aK (τ:=Nat × List (Int × Int)) (j+1,l2) ⟨hgo2,by simp only; omega,hinv2⟩ (Nat.sub_lt_sub_left hgo2 (Nat.lt_succ_self _)) ?_
               simp only [hn2,kL]
               refine bC [1,2] (by simp) ?_ ?_ <;> simp [-map_map,upd,aT,Γ0,aI,aM,cZ,cV]
             ·rw [decide_eq_false h1] at hlo
              have hok:gQ c (n,z)=false:=by unfold gQ; simp [h1]
              rw [hok] at hinv2
              simp only [Bool.false_eq_true,if_false,List.append_nil] at hinv2
              simp only [kL]
              simp [-map_map,-mapM_map,↓KW,aI,aM,bB,q2,hf,hlo,hw2,aJ,aD,aP,bQ]
              refine aK (τ:=Nat × List (Int × Int)) (j+1,l2) ⟨hgo2,by simp only; omega,hinv2⟩ (Nat.sub_lt_sub_left hgo2 (Nat.lt_succ_self _)) ?_
              simp only [hn2,kL]
              refine bC [1,2] (by simp) ?_ ?_ <;> simp [-map_map,upd,aT,Γ0,aI,aM,cZ,cV]
            ·by_cases h1:mY n c=1
             ·have hA:=yX z hzS
              have hO:=tG
              obtain ⟨r,hC,hr⟩:=yW (z.natAbs:Int) 1 (by unfold Sz at hzS ⊢; rw [Int.natAbs_natCast]; exact hzS) sz1
              rw [decide_eq_true h1] at hlo
              simp only [kL]
              simp [-map_map,-mapM_map,↓KW,aI,aM,bB,q2,hf,hlo,aJ,aD,aP]
              refine aA (ds:=[encZ z]) (by rfl) hA ?_
              simp [-map_map,-mapM_map,↓KW,aI,aM,bB,bI,aJ,aD,aP,bQ]
              refine aA (ds:=[.i .i64 1]) (by rfl) hO ?_
              simp [-map_map,-mapM_map,↓KW,aI,aM,bB,bI,aJ,aD,aP,bQ]
              refine aA (ds:=[encZ (z.natAbs:Int),encZ 1]) (by rfl) hC ?_
              by_cases hz1:z.natAbs=1
              ·have hr0:r=0:=hr.2 (by omega)
               have hok:gQ c (n,z)=true:=by unfold gQ; simp [h1,hz1]
               rw [hok,if_pos rfl] at hinv2
               rw [hr0]
               have hbb:=cO (n:=k+1) (by omega)
               have hcl:=bY oI l2
               rw [hn2] at hcl
               have hal:=eB aEs l2
               have hb8:(k+1+1) * 16≤140737488355328:=by omega
               simp [-map_map,-mapM_map,↓KW,hr0,hw2,hm1,hbb,hb8,hcl,hal,aW,bQ]
               refine aK (τ:=Nat × List (Int × Int)) (j+1,l2++[(x.id,n)]) ⟨hgo2,by simp only [List.length_append,List.length_singleton]; omega,hinv2⟩ (Nat.sub_lt_sub_left hgo2 (Nat.lt_succ_self _)) ?_
               simp only [List.length_append,hn2,List.length_singleton,kL]
               refine bC [1,2,6] (by simp) ?_ ?_ <;> simp [-map_map,upd,aT,Γ0,aI,aM,bQ,cZ,dW,dC,vE]
              ·have hr0:((r == 0):Bool)=false:=by simp; exact fun h=>hz1 (by have:=hr.1 h; omega)
               have hok:gQ c (n,z)=false:=by unfold gQ; simp [hz1]
               rw [hok] at hinv2
               simp only [Bool.false_eq_true,if_false,List.append_nil] at hinv2
               simp [-map_map,-mapM_map,↓KW,hr0,hw2,bQ]
               refine aK (τ:=Nat × List (Int × Int)) (j+1,l2) ⟨hgo2,by simp only; omega,hinv2⟩ (Nat.sub_lt_sub_left hgo2 (Nat.lt_succ_self _)) ?_
               simp only [hn2,kL]
               refine bC [1,2,3] (by simp) ?_ ?_ <;> simp [-map_map,upd,aT,Γ0,aI,aM,cZ,cV]
             ·rw [decide_eq_false h1] at hlo
              have hok:gQ c (n,z)=false:=by unfold gQ; simp [h1]
              rw [hok] at hinv2
              simp only [Bool.false_eq_true,if_false,List.append_nil] at hinv2
              simp only [kL]
              simp [-map_map,-mapM_map,↓KW,aI,aM,bB,q2,hf,hlo,hw2,aJ,aD,aP,bQ]
              refine aK (τ:=Nat × List (Int × Int)) (j+1,l2) ⟨hgo2,by simp only; omega,hinv2⟩ (Nat.sub_lt_sub_left hgo2 (Nat.lt_succ_self _)) ?_
              simp only [hn2,kL]
              refine bC [1,2,3] (by simp) ?_ ?_ <;> simp [-map_map,upd,aT,Γ0,aI,aM,cZ,cV]
           ·have q2:¬ (j:Int)<x.b.length:=by omega
            rw [List.take_of_length_le (by omega)] at hinv
            rcases hn2:l2.length with _ | k
            ·simp only [kL]
             simp [-map_map,-mapM_map,↓KW,aI,aM,q2,hw,bQ]
             refine aK (τ:=Nat × List (Int × Int)) (i+1,l2) ⟨hgo,by simp only; omega,by rw [htk,hinv]⟩ (Nat.sub_lt_sub_left hgo (Nat.lt_succ_self _)) ?_
             simp only [hn2,lW]
             refine bC [1] (by simp) ?_ ?_ <;> simp [-map_map,upd,aT,Γ0,aI,cZ,cV]
            ·simp only [kL]
             simp [-map_map,-mapM_map,↓KW,aI,aM,q2,hw,bQ]
             refine aK (τ:=Nat × List (Int × Int)) (i+1,l2) ⟨hgo,by simp only; omega,by rw [htk,hinv]⟩ (Nat.sub_lt_sub_left hgo (Nat.lt_succ_self _)) ?_
             simp only [hn2,lW]
             refine bC [1,3] (by simp) ?_ ?_ <;> simp [-map_map,upd,aT,Γ0,aI,cZ,cV]
       ·have q1:¬ (i:Int)<c.length:=by omega
        rw [List.take_of_length_le (by omega)] at hl
        have hl':qO c=l:=hl
        rcases hn:l.length with _ | k
        ·have e0:l=[]:=List.eq_nil_of_length_eq_zero hn
         simp only [lW]
         simp [-map_map,-mapM_map,↓KW,aI,eX,q1,hl',e0]
        ·have e1:=eL oI hn
         have e2:=dX (by decide) oI hn
         have e3:=bY oI l
         rw [hn] at e3
         simp only [lW]
         simp [-map_map,-mapM_map,↓KW,aI,eX,q1,hl',e1,e2,e3,hn]
     ·have hlt:=(List.getElem?_eq_some_iff.1 he).1
      obtain ⟨n',v,hnv,hnm⟩:∃ n' v,((n,w):Int × D)=(n',iD v)∧(n',v)∈m:=by
       obtain ⟨done,h1,_⟩:=hok
       exact aPt (h1.mem_iff.1 (List.mem_append_right _ (List.mem_of_getElem? he)))
      injection hnv with e1 e2
      subst e1; subst e2
      have hst:=hok.step he
      have hel:(rest.eraseIdx j).length<rest.length:=by rw [List.length_eraseIdx,if_pos hlt]; omega
      refine (show ∃ r',rest.eraseIdx j=r' from ⟨_,rfl⟩).elim fun r' hre=>?_
      rw [hre] at hst hel ⊢
      by_cases hv:v=1
      ·have hv':((v == 1):Bool)=true:=by simpa using hv
       rw [if_pos hv] at hst
       have q3:(((1:Int) == (1:Int)):Bool)=true:=rfl
       simp [-map_map,-mapM_map,↓KW,aI,↓aJv,aLg,aRh,hv',hv,q3,cI,aKg,bQ,xC]
       refine aK (τ:=Option (Int × D) × List (Int × D) × List (Int × Bool)) (some (n,iD v),r',apt once n true) hst hel (bC [1,2] (by simp) ?_ ?_) <;> simp [-map_map,upd,aT,Γ0,aI,cZ,wD,hv]
      ·have hv':((v == 1):Bool)=false:=by simpa using hv
       rw [if_neg hv] at hst
       simp [-map_map,-mapM_map,↓KW,aI,↓aJv,aLg,aRh,hv',hv,cI,aKg,bQ,xC]
       refine aK (τ:=Option (Int × D) × List (Int × D) × List (Int × Bool)) (some (n,iD v),r',once) hst hel (bC [1,2] (by simp) ?_ ?_) <;> simp [-map_map,upd,aT,Γ0,aI,cZ,wD]
end Go.Am
end

section
set_option linter.unusedVariables false
set_option linter.unusedSimpArgs false
open List (map_map mapM_map)
open Go Go.Am Go.Proofs
namespace Go.Am
theorem aRv (x y:List AV):iT .eql false (.ag x) (.ag y)=none:=rfl
theorem bPp:tai Tryz.prog 59=some .i64:=by kernel_rfl
theorem bLl (a b c d:Int):bDr .eql (tai Tryz.prog 59) (.ag [.d (.i .i64 a),.d (.i .i64 b)]) (.ag [.d (.i .i64 c),.d (.i .i64 d)])=some (.b (a == c && b == d)):=by rw [bPp]; rfl
def ixP (l:List (Int × Int)) (p:Int × Int):Int:=if p∈l then (l.findIdx (fun q=>q == p):Nat) else -1
set_option maxHeartbeats 2000000 in
set_option maxRecDepth 10000 in
theorem bRb (l:List (Int × Int)) (a b:Int) (hl:l.length≤1000000):Spec Tryz.prog 114 [eX l,.ag [.i .i64 a,.i .i64 b]] (.i .i64 (ixP l (a,b))):=by
 refine aY (N:=19) aF Tryz.func114 rfl rfl rfl (by kernel_rfl) (by kernel_rfl) (by simp) ?_
 simp [-map_map,-mapM_map,↓KW,eX]
 refine aU (fun i:Nat=>i≤l.length∧∀ j p,j<i→l[j]? = some p→p≠(a,b)) (fun i=>StL [(0,.d (eX l)),(3,.ptr 1 0),(7,.d (.i .i64 l.length)),(8,.d (.i .i64 (i:Int)))] none [.cells 59 [.d (.i .i64 a),.d (.i .i64 b)]]) (fun i=>l.length - i) 0 ⟨Nat.zero_le _,fun j p h=>by omega⟩ ?_ ?_
 ·refine bC [1] (by simp) ?_ ?_ <;> simp [-map_map,upd,aT,Γ0,eX]
 ·rintro i ⟨hi,hn⟩
  by_cases hgo:i<l.length
  ·have q1:(i:Int)<l.length:=by omega
   have hx:l[i]? = some l[i]:=List.getElem?_eq_getElem hgo
   have hw:IntKind.i64.wrap ((i:Int)+1)=(i:Int)+1:=aS (by omega) (by omega)
   have hw0:IntKind.i64.wrap (i:Int)=(i:Int):=aS (by omega) (by omega)
   refine (show ∃ x,l[i]=x from ⟨_,rfl⟩).elim fun x hxe=>?_
   rw [hxe] at hx
   have hy:xM x=[.i .i64 x.1,.i .i64 x.2]:=rfl
   by_cases he:x=(a,b)
   ·subst he
    have hb:((a == a && b == b):Bool)=true:=by simp
    have hix:ixP l (a,b)=i:=by
     unfold ixP
     rw [if_pos (List.mem_of_getElem? hx)]
     congr 1
     rw [List.findIdx_eq hgo]
     refine ⟨by rw [hxe]; simp,fun j hj=>?_⟩
     have:=hn j l[j] hj (List.getElem?_eq_getElem (by omega))
     simpa using this
    simp [-map_map,-mapM_map,↓KW,eX,q1,hx,hy,hw,aRv,bLl,hb,hix]
   ·have hb:((a == x.1 && b == x.2):Bool)=false:=by
     cases h:((a == x.1 && b == x.2):Bool)
     ·rfl
     ·simp only [Bool.and_eq_true,beq_iff_eq] at h
      exact (he (Prod.ext h.1.symm h.2.symm)).elim
    simp [-map_map,-mapM_map,↓KW,eX,q1,hx,hy,hw,aRv,bLl,hb]
    refine aK (i+1) ⟨hgo,fun j p hj hp=>?_⟩ (Nat.sub_lt_sub_left hgo (Nat.lt_succ_self _)) (bC [1] (by simp) ?_ ?_)
    ·rcases Nat.lt_or_ge j i with h | h
     ·exact hn j p h hp
     ·obtain rfl:j=i:=by omega
      rw [hx] at hp; injection hp with hp; rw [← hp]; exact he
    ·simp [-map_map,upd,aT,Γ0,eX]
    ·simp [-map_map,upd,aT,Γ0,eX]
  ·have q1:¬ (i:Int)<l.length:=by omega
   have hnm:(a,b) ∉ l:=fun h=>by
    obtain ⟨j,hj⟩:=List.getElem?_of_mem h
    exact hn j _ (by have:=(List.getElem?_eq_some_iff.1 hj).1; omega) hj rfl
   simp [-map_map,-mapM_map,↓KW,eX,q1,ixP,hnm]
set_option maxHeartbeats 2000000 in
theorem bVc (l:List (Int × Int)) (a b:Int) (hl:l.length≤1000000):Spec Tryz.prog 80 [eX l,.ag [.i .i64 a,.i .i64 b]] (.b (decide ((a,b)∈l))):=by
 refine aY (N:=9) aF Tryz.func80 rfl rfl rfl (by kernel_rfl) (by kernel_rfl) (by simp) ?_
 have hI:=bRb l a b hl
 have hge:decide ((0:Int)≤ixP l (a,b))=decide ((a,b)∈l):=by
  unfold ixP
  by_cases h:(a,b)∈l
  ·rw [if_pos h]; simp [h]
  ·rw [if_neg h]; simp [h]
 simp [-map_map,-mapM_map,↓KW,eX]
 refine aA (ds:=[eX l,.ag [.i .i64 a,.i .i64 b]]) (by rfl) hI ?_
 simp [-map_map,-mapM_map,↓KW,eX,hge]
end Go.Am
end

section
set_option linter.unusedVariables false
set_option linter.unusedSimpArgs false
namespace Go.Am
open RowKit (Below)
inductive Tr where
 | leaf
 | one (i:Nat) (t:Tr)
 | two (i:Nat) (t:Tr) (j:Nat) (u:Tr)
def aZn (P:Program) (o:Oper):Bool:=match o.op with
 | .move _=>true
 | .assign _=>true
 | .insert ..=>true
 | .call { callee:=.value (.func f),.. }=>!bE P f && !bG P f
 | _=>false
def opL (ops:Array Oper) (i:Nat):List Oper:=(ops.toList.drop i).take 1
def opsL (ops:Array Oper) (is:List Nat):List Oper:=is.flatMap (opL ops)
theorem aQo {ops:Array Oper} {i:Nat} {o:Oper} (h:ops[i]? = some o):opL ops i=[o]:=by
 unfold opL
 have h':ops.toList[i]? = some o:=by simpa using h
 obtain ⟨hl,he⟩:=List.getElem?_eq_some_iff.1 h'
 rw [List.drop_eq_getElem_cons hl,he]; rfl
def aJf (P:Program) (ops:Array Oper):List Nat→Array Bool→Option (Array Bool)
 | [],l=>some l
 | i::is,l=>if (Region.ready .any ops l).contains i && aRk P ops l i then aJf P ops is (l.setIfInBounds i true) else none
def aZo (P:Program) (ops:Array Oper) (i:Nat):Bool:=match ops[i]? with
 | some o=>aZn P o
 | none=>false
def aCz (P:Program) (ops:Array Oper):Nat→Array Bool→Tr→Bool
 | 0,l,.leaf=>(Region.ready .any ops l).isEmpty
 | n+1,l,.one i t=>(Region.ready .any ops l == [i]) && aZo P ops i && aCz P ops n (l.setIfInBounds i true) t
 | n+1,l,.two i t j u=>(Region.ready .any ops l == [i,j]) && aZo P ops i && aZo P ops j && aCz P ops n (l.setIfInBounds i true) t && aCz P ops n (l.setIfInBounds j true) u
 | _,_,_=>false
def OWT (P:Program) (ops:Array Oper):Tr→St→List Nat→(St→List Nat→Prop)→Prop
 | .leaf,σ,con,k=>k σ con
 | .one i t,σ,con,k=>OW P ops (opL ops i) σ con fun σ' con'=>OWT P ops t σ' con' k
 | .two i t j u,σ,con,k=>(OW P ops (opL ops i) σ con fun σ' con'=>OWT P ops t σ' con' k)∧(OW P ops (opL ops j) σ con fun σ' con'=>OWT P ops u σ' con' k)
def aMj (P:Program) (ops:Array Oper) (pre:List Nat) (t:Tr):Bool:=match aJf P ops pre (Array.replicate ops.size false) with
 | some l=>oW (opsL ops pre) && decide (pre.length≤ops.size) && aCz P ops (ops.size - pre.length) l t
 | none=>false
section
variable {P:Program} {G:Ctx} {ops:Array Oper}
theorem aLw {Q:AS→Prop} {n:Nat} {l1:Array Bool}:∀ (is:List Nat) (listed:Array Bool) (s:AS),Dc ops listed→aJf P ops is listed=some l1→yC P G ops (fun s'=>Dc ops l1→aHd P G ops Q n l1 s') (opsL ops is) s→aHd P G ops Q (is.length+n) listed s
 | [],listed,s,hdc,hp,h=>by
  simp only [aJf,Option.some.injEq] at hp; subst hp
  simpa using h hdc
 | i::is,listed,s,hdc,hp,h=>by
  simp only [aJf] at hp
  split at hp
  case isFalse=>cases hp
  rename_i hc
  simp only [Bool.and_eq_true] at hc
  have hr:i∈Region.ready .any ops listed:=by simpa using hc.1
  obtain ⟨_,o,ho,_⟩:=mem_ready.1 hr
  have e:opsL ops (i::is)=o::opsL ops is:=by
   show opL ops i++opsL ops is=_
   rw [aQo ho]; rfl
  rw [e] at h
  obtain ⟨s',hd,h⟩:=h
  rw [List.length_cons,Nat.add_right_comm]
  exact aCe ho (is.length+n) listed s s' hdc (aBc ho hc.2) hr hd (aLw is _ _ (aPh hdc hr) hp h)
theorem bUz {k:St→List Nat→Prop} {o:Oper} {σ:St} {con:List Nat} (hnn:aZn P o=true) (hn0:σ.n=0→∀ b,G.P0 b) (hwf:Wf σ con) (h:OW P ops [o] σ con k) :
  ∀ s,dU σ con s→∃ s',nS P G ops o s s'∧∃ σ' con',k σ' con'∧(σ'.n=0→∀ b,G.P0 b)∧Wf σ' con'∧dU σ' con' s':=by
 unfold OW at h
 have pure0:∀ (av:AV) (con':List Nat) (H':Nat→Option HO),H'=kill con' σ.H→(∀ id∈con',(σ.H id).isSome=true)→k ⟨bO σ.Γ o.dst av,H',σ.n⟩ (con'++con) →
   (∀ s,dU σ con s→Ev P G o s.Γ s.T s.K s.K av bR (fun i=>i∈con'))→dO ops o σ.Γ=some true →
   ∀ s,dU σ con s→∃ s',nS P G ops o s s'∧∃ σ' con',k σ' con'∧(σ'.n=0→∀ b,G.P0 b)∧Wf σ' con'∧dU σ' con' s':=by
  intro av con' H' hH' hc' hk hev hw s hs
  subst hH'
  have hwf':Wf ⟨bO σ.Γ o.dst av,kill con' σ.H,σ.n⟩ (con'++con):=by
   refine ⟨fun id hid=>?_,fun id hid=>?_⟩
   ·cases hx:kill con' σ.H id with
    | none=>exact hx
    | some o'=>have:=(iR hx).1; rw [hwf.top id hid] at this; cases this
   ·rcases List.mem_append.1 hid with hid | hid
    ·refine ⟨?_,oE hid⟩
     have:=hc' id hid
     rcases Nat.lt_or_ge id σ.n with h | h
     ·exact h
     ·rw [hwf.top id h] at this; cases this
    ·obtain ⟨h1,h2⟩:=hwf.con id hid
     refine ⟨h1,?_⟩
     cases hx:kill con' σ.H id with
     | none=>exact hx
     | some o'=>have:=(iR hx).1; rw [h2] at this; cases this
  refine ⟨_,.yes av bR (fun i=>i∈con') s.K (by rw [hs.Γ]; exact hw) (hev s hs) (fun _ h=>h.elim) (fun _ h=>h.elim) (fun h=>h.elim),_,_,hk,hn0,hwf',?_⟩
  refine ⟨by rw [hs.Γ],fun id=>by simp [hs.T,or_comm],fun id o' h=>hs.K id o' (iR h).1,fun id=>?_⟩
  simp only [hs.U,bR,or_false,List.mem_append]
  by_cases hid:id∈con'
  ·simp [hid,hc' id hid,oE hid]
  ·rw [aAt hid]; simp [hid]
 have write1:∀ (av:AV) (id:Nat) (ho old:HO) (ts:Nat),Operand.tmp ts∈o.op.operands→kC id (σ.Γ ts)=true→σ.H id=some old→kind P o.op=2→k ⟨bO σ.Γ o.dst av,upd σ.H id (some ho),σ.n⟩ con →
   (∀ (T2:Nat→Prop) (K2:Nat→Option HO),K2 id=some old→¬ T2 id→Y P G o σ.Γ T2 K2 (iW K2 T2 id ho) av bR bR)→dO ops o σ.Γ=some true →
   ∀ s,dU σ con s→∃ s',nS P G ops o s s'∧∃ σ' con',k σ' con'∧(σ'.n=0→∀ b,G.P0 b)∧Wf σ' con'∧dU σ' con' s':=by
  intro av id ho old ts hts hΓ hold hkd h hY hw s hs
  have hwf':Wf ⟨bO σ.Γ o.dst av,upd σ.H id (some ho),σ.n⟩ con:=by
   refine ⟨fun i hi=>?_,fun i hi=>?_⟩
   ·simp only at hi ⊢
    rw [cU _ _ (fun e=>by rw [e] at hi; rw [hwf.top id hi] at hold; cases hold)]; exact hwf.top i hi
   ·obtain ⟨h1,h2⟩:=hwf.con i hi
    refine ⟨h1,?_⟩
    simp only
    rw [cU _ _ (fun e=>by rw [e] at h2; rw [h2] at hold; cases hold)]; exact h2
  have hidn:id<σ.n:=by
   rcases Nat.lt_or_ge id σ.n with h | h
   ·exact h
   ·rw [hwf.top id h] at hold; cases hold
  have hnT:¬ s.T id:=fun h=>by have:=(hwf.con id ((hs.T id).1 h)).2; rw [this] at hold; cases hold
  refine ⟨_,.yes av bR bR (iW s.K s.T id ho) (by rw [hs.Γ]; exact hw) (.inr (.inr (.inl ⟨hkd,rfl,rfl,id,ts,old,ho,hts,by rw [hs.Γ]; exact hΓ,hs.K _ _ hold,hnT,rfl,fun T2 K2 hK2 hT2=>by rw [hs.Γ]; exact hY T2 K2 hK2 hT2⟩))) (fun _ h=>h.elim) (fun _ h=>h.elim) (fun h=>h.elim),_,_,h,hn0,hwf',?_⟩
  refine ⟨by rw [hs.Γ],fun i=>by simp [hs.T,bR],fun i o' h=>?_,fun i=>?_⟩
  ·simp only at h ⊢
   by_cases hid:i=id
   ·subst hid; rw [cG] at h; unfold iW; rw [if_pos rfl]; exact h
   ·rw [cU _ _ hid] at h
    rw [lY hid (fun ht=>by have:=(hwf.con i ((hs.T i).1 ht)).2; rw [this] at h; cases h)]
    exact hs.K i o' h
  ·simp only [hs.U,bR,or_false]
   by_cases hid:i=id
   ·subst hid; simp [cG,hold]
   ·rw [cU _ _ hid]
 have wsub:∀ {T2:Nat→Prop} {K2:Nat→Option HO} {id:Nat} {ho:HO} (j:Nat) (o':HO),j≠id→iW K2 T2 id ho j=some o'→K2 j=some o'∧¬ T2 j:=by
  intro T2 K2 id ho j o' hj h
  unfold iW at h
  rw [if_neg hj] at h
  split at h
  ·cases h
  ·exact ⟨h,by assumption⟩
 have one1:∀ {K2:Nat→Option HO} {id:Nat} {old:HO},σ.H id=some old→K2 id=some old→∀ i ob,(if i=id then σ.H id else none)=some ob→K2 i=some ob:=by
  intro K2 id old hold hK2 i ob h
  split at h
  ·rename_i e; subst e; rw [hold] at h; rw [hK2]; exact h
  ·cases h
 have val0:∀ (av:AV),kind P o.op=0→nev P o.op σ.Γ σ.n=some (av,none)→k ⟨bO σ.Γ o.dst av,σ.H,σ.n⟩ con→dO ops o σ.Γ=some true →
   ∀ s,dU σ con s→∃ s',nS P G ops o s s'∧∃ σ' con',k σ' con'∧(σ'.n=0→∀ b,G.P0 b)∧Wf σ' con'∧dU σ' con' s':=by
  intro av hk hnev h hw
  have e0:(fun i=>i∈([]:List Nat))=bR:=funext fun i=>by simp [bR]
  refine pure0 av [] σ.H rfl (fun _ h=>by cases h) h (fun s hs=>?_) hw
  rw [e0]
  exact .inl ⟨hk,rfl,rfl,fun T2 K2 _=>aKe (n:=σ.n) (by rw [hs.Γ]; exact hnev)⟩
 split at h
 case h_3=>exact h.elim
 case h_2 hw =>
  have hwf':Wf ⟨bO σ.Γ o.dst .un,σ.H,σ.n⟩ con:=⟨hwf.top,hwf.con⟩
  exact fun s hs=>⟨_,.no (by rw [hs.Γ]; exact hw),_,_,h,hn0,hwf',⟨by rw [hs.Γ],hs.T,hs.K,hs.U⟩⟩
 case h_1 hw =>
 simp only [OW] at h
 unfold aZn at hnn
 split at hnn
 ·-- move
  rename_i x hop
  unfold O1 at h
  simp only [hop] at h
  obtain ⟨hk,h⟩:=h
  split at h
  ·rename_i av nb hnev
   have e:nb=none:=by
    simp only [nev] at hnev
    injection hnev with hnev; injection hnev with _ h2; exact h2.symm
   subst e
   exact val0 av (by rw [hop]; exact hk) (by rw [hop]; exact hnev) h hw
  ·exact h.elim
 ·-- assign
  rename_i x hop
  unfold O1 at h
  simp only [hop] at h
  obtain ⟨hk,h⟩:=h
  split at h
  ·rename_i av nb hnev
   have e:nb=none:=by
    simp only [nev] at hnev
    injection hnev with hnev; injection hnev with _ h2; exact h2.symm
   subst e
   exact val0 av (by rw [hop]; exact hk) (by rw [hop]; exact hnev) h hw
  ·exact h.elim
 ·-- a new element of a map
  rename_i t m x v hop
  unfold O1 at h
  simp only [hop] at h
  split at h
  ·rename_i id ho hst
   obtain ⟨old,hm,hold,_⟩:=yU hst
   obtain ⟨ts,hts,hΓ⟩:=rS (Γ:=σ.Γ) (x:=m) (id:=id) (h:=.mp 0) (by rw [hm]; rfl)
   refine write1 .any id ho old ts (by rw [hop]; simp [Op.operands,hts]) hΓ hold (by rw [hop]; rfl) h (fun T2 K2 hK2 hT2=>?_) hw
   refine aFk (H:=fun i=>if i=id then σ.H id else none) (v:=some v) (id:=id) (ho:=ho) (.inl ⟨v,rfl,.inr hop⟩) (one1 hold hK2) ?_ hT2 (by unfold iW; rw [if_pos rfl]) wsub
   unfold pU at hst ⊢
   rw [hm] at hst ⊢
   simp only [if_true] at hst ⊢
   exact hst
  ·exact h.elim
 ·-- call
  rename_i f args ts hop
  simp only [Bool.and_eq_true,Bool.not_eq_true'] at hnn
  obtain ⟨hmut,hnew⟩:=hnn
  unfold O1 at h
  simp only [hop] at h
  unfold OC at h
  rw [hmut] at h
  simp only [Bool.false_eq_true,if_false] at h
  have hkd:kind P o.op=1:=by rw [hop]; simp [kind,hmut]
  rcases h with ⟨h1,_⟩ | h
  ·rw [hnew] at h1; cases h1
  split at h
  ·rename_i g id hargs
   obtain ⟨x,hx,hxe⟩:∃ x,args.toList=[x]∧oev σ.Γ x=.kf g id:=by
    cases hl:args.toList with
    | nil=>rw [hl] at hargs; cases hargs
    | cons x l =>
     rw [hl] at hargs
     cases l with
     | nil=>simp only [List.map_cons,List.map_nil,List.cons.injEq,and_true] at hargs; exact ⟨x,rfl,hargs⟩
     | cons y l=>simp at hargs
   split at h
   ·rename_i es hH
    obtain ⟨hn,hrr,hss,h⟩:=h
    refine pure0 _ [] σ.H rfl (fun _ h=>by cases h) h (fun s hs=>.inr (.inl ⟨hkd,rfl,(fun _ h=>by cases h),(fun _ _ _ _ _ _ _ _ h=>by cases h),fun T2 _=>?_⟩)) hw
    have:(fun i=>i∈([]:List Nat))=bR:=funext fun i=>by simp [bR]
    rw [this]
    exact aHk (Γ:=s.Γ) hop hx hs.K (by rw [hs.Γ]; exact hxe) hH hn hrr hss
   ·exact h.elim
  ·obtain ⟨ds,r,hfr,hsp,h⟩:=h
   refine pure0 (inj r) (bX σ.H (args.toList.map (oev σ.Γ)) r) _ rfl (fun id hid=>by obtain ⟨o',ho'⟩:=kT hid; rw [ho']; rfl) h (fun s hs=>.inr (.inl ⟨hkd,rfl,fun id hid ht=>?_,fun F w ι T2 a hR hops id hid=>?_,fun T2 hT2=>?_⟩)) hw
   ·obtain ⟨o',ho'⟩:=kT hid
    have:=(hwf.con id ((hs.T id).1 ht)).2
    rw [this] at ho'; cases ho'
   ·refine aEx (Γ:=σ.Γ) (a:=a) (r:=r) hR hs.K hfr (fun x hx=>eZ fun t e=>?_) id hid
    rw [← hs.Γ]; exact hops t (by rw [hop]; subst e; simp [Op.operands,Call.operands]; simpa using hx)
   ·have:=aWc (P:=P) (G:=G) (Γ:=s.Γ) (C:=T2) (K:=s.K) (H:=σ.H) (o:=o) (r:=r) hop hs.K (by rw [hs.Γ]; exact hfr) hsp (by rw [hs.Γ]; exact hT2)
    rw [hs.Γ] at this ⊢
    exact this
 ·cases hnn
theorem aFg {k:St→List Nat→Prop}:∀ (n:Nat) (listed:Array Bool) (t:Tr) (σ:St) (con:List Nat),aCz P ops n listed t=true→(σ.n=0→∀ b,G.P0 b)→Wf σ con→OWT P ops t σ con k →
  ∀ s,dU σ con s→aHd P G ops (fun s'=>∃ σ' con',k σ' con'∧(σ'.n=0→∀ b,G.P0 b)∧Wf σ' con'∧dU σ' con' s') n listed s
 | 0,listed,t,σ,con,hc,hn0,hwf,h,s,hs=>by
  cases t <;> simp only [aCz,Bool.false_eq_true] at hc
  exact ⟨by simpa using hc,σ,con,h,hn0,hwf,hs⟩
 | n+1,listed,t,σ,con,hc,hn0,hwf,h,s,hs=>by
  have step:∀ (i:Nat) (u:Tr),aZo P ops i=true→aCz P ops n (listed.setIfInBounds i true) u=true→(OW P ops (opL ops i) σ con fun σ' con'=>OWT P ops u σ' con' k) →
    aOp P G ops i (aHd P G ops (fun s'=>∃ σ' con',k σ' con'∧(σ'.n=0→∀ b,G.P0 b)∧Wf σ' con'∧dU σ' con' s') n (listed.setIfInBounds i true)) s:=by
   intro i u hn hcu hu
   unfold aZo at hn
   split at hn
   case h_2=>cases hn
   rename_i o ho
   rw [aQo ho] at hu
   obtain ⟨s',hd,σ',con',hk,hn',hwf',hs'⟩:=bUz hn hn0 hwf hu s hs
   unfold aOp
   simp only [ho]
   exact .inr ⟨s',hd,aFg n _ u σ' con' hcu hn' hwf' hk s' hs'⟩
  cases t with
  | leaf=>simp only [aCz,Bool.false_eq_true] at hc
  | one i u =>
   simp only [aCz,Bool.and_eq_true,beq_iff_eq] at hc
   refine ⟨fun he=>(by rw [he] at hc; cases hc.1.1),fun j hj=>?_⟩
   rw [hc.1.1,List.mem_singleton] at hj
   subst hj
   exact step j u hc.1.2 hc.2 h
  | two i u j v =>
   simp only [aCz,Bool.and_eq_true,beq_iff_eq] at hc
   obtain ⟨⟨⟨⟨hr,hi⟩,hj⟩,hu⟩,hv⟩:=hc
   refine ⟨fun he=>(by rw [he] at hr; cases hr),fun m hm=>?_⟩
   rw [hr] at hm
   rcases List.mem_cons.1 hm with rfl | hm
   ·exact step m u hi hu h.1
   ·rw [List.mem_singleton] at hm
    subst hm
    exact step m v hj hv h.2
end
theorem aFe {P:Program} {G:Ctx} {ops:Array Oper} {Q Q':AS→Prop} (h:∀ s,Q s→Q' s):∀ (l:List Oper) (s:AS),yC P G ops Q l s→yC P G ops Q' l s
 | [],s,hh=>h s hh
 | o::l,s,⟨s',hd,hh⟩=>⟨s',hd,aFe h l s' hh⟩
theorem aIt {P:Program} {WW:Code→(Exit→Act→World→Prop)→Act→World→Prop} (hW:WpR P false WW) {G:Ctx} {id N:Nat} {ds:List Deferred} {ops:Array Oper} {pre:List Nat} {t:Tr} {Q:St→Prop} {Q':Exit→Act→World→Prop} {σ:St} {a:Act} {w:World} (hm:P.follows .mixedOrders=true)
  (hdst:∀ (i:Nat) (o:Oper) (d:Tmp),ops[i]? = some o→o.dst=some d→d<N∧G.Z d=none) (hB:aMj P ops pre t=true) (hsr:SR G N ds σ a w)
  (h:OW P ops (opsL ops pre) σ [] fun σ1 con1=>OWT P ops t σ1 con1 fun σ' con=>Q (fin σ' con)) (hQ:∀ σ a w,Q σ→SR G N ds σ a w→Q' .normal a w):WW (.region id ops true) Q' a w:=by
 unfold aMj at hB
 split at hB
 case h_2=>cases hB
 rename_i l1 hl1
 simp only [Bool.and_eq_true,decide_eq_true_eq] at hB
 obtain ⟨⟨hnx,hlen⟩,hchk⟩:=hB
 obtain ⟨hn0,hwf,hag⟩:=vS hsr
 obtain ⟨fb,hfb⟩:=rA (G:=G) (opsL ops pre) σ [] hnx hn0 hwf h
 obtain ⟨h1,h2⟩:=hag (fun i=>if i<σ.n then σ.H i else fb i) (fun i o hi=>by
  rcases Nat.lt_or_ge i σ.n with hlt | hge
  ·rw [if_pos hlt]; exact hi
  ·rw [hwf.top i hge] at hi; cases hi)
 have h3:=hfb _ h1 (fun i hi=>by simp only; rw [if_neg (by omega)])
 have hQ2:∀ (s:AS) (a:Act) (w:World),(∃ σ' con',Q (fin σ' con')∧(σ'.n=0→∀ b,G.P0 b)∧Wf σ' con'∧dU σ' con' s)→pH G N ds s a w→Q' .normal a w:=by
  rintro s a w ⟨σ',con',hq,hn',hwf',hag'⟩ hr
  exact hQ _ a w hq (aHh hn' hwf' hag' hr)
 refine hW.regA hm (fun h=>by cases h) (mZ hdst hQ2 _ _ _ a _ h2.drew ?_)
 have h4:=aLw (P:=P) (G:=G) (n:=ops.size - pre.length) (l1:=l1) pre (Array.replicate ops.size false) _ (fun m om hm=>by simp only [Array.getD_eq_getD_getElem?,Array.getElem?_replicate] at hm; split at hm <;> cases hm) hl1
  (aFe (fun s' ⟨σ1,con1,hk,hn1,hwf1,hs1⟩ _=>aFg _ _ _ σ1 con1 hchk hn1 hwf1 hk s' hs1) _ _ h3)
 rw [show pre.length+(ops.size - pre.length)=ops.size by omega] at h4
 exact h4
inductive Fl where
 | st
 | wk
 | tr (pre:List Nat) (t:Tr)
def yD (P:Program):List Fl→Code→St→(Exit→St→Prop)→Prop
 | [],c,σ,Q=>AWP P c σ Q
 | .wk::l,c,σ,Q=>∃ σ2,WkR σ σ2∧yD P l c σ2 Q
 | .st::l,.seq x y,σ,Q=>AWP P x σ fun e σ'=>match e with | .normal=>yD P l y σ' Q | e=>Q e σ'
 | .tr pre t::l,.seq (.region _ ops true) y,σ,Q=>OW P ops (opsL ops pre) σ [] fun σ1 con1=>OWT P ops t σ1 con1 fun σ' con=>yD P l y (fin σ' con) Q
 | _::_,_,_,_=>False
def aNp (P:Program):List Fl→Code→Bool
 | [],c=>dS P c
 | .wk::l,c=>aNp P l c
 | .st::l,.seq x y=>dS P x && aNp P l y
 | .tr pre t::l,.seq (.region _ ops true) y=>aMj P ops pre t && aNp P l y
 | _::_,_=>false
section
variable {P:Program} {G:Ctx} {N:Nat} {ds:List Deferred}
theorem aPl (hm:P.follows .mixedOrders=true) (hZ:∀ d,G.Z d=none):∀ (l:List Fl) (c:Code) (Q:Exit→St→Prop) (σ:St) (a:Act) (w:World),dL N c=true→aNp P l c=true→yD P l c σ Q→SR G N ds σ a w →
  c.wp P (fun e a' w'=>∃ σ',Q e σ'∧SR G N ds σ' a' w') a w:=by
 intro l
 induction l with
 | nil=>intro c Q σ a w hd hl h hs; exact gW hm hZ c Q σ a w hd hl h hs
 | cons f l ih =>
  intro c Q σ a w hd hl h hs
  cases f with
  | wk =>
   obtain ⟨σ2,hw,h⟩:=h
   exact ih c Q σ2 a w hd hl h (vR hw hs)
  | st =>
   cases c with
   | seq x y =>
    simp only [dL,aNp,Bool.and_eq_true] at hd hl
    refine wp_seq (wp_mono (gW hm hZ x _ _ a w hd.1 hl.1 h hs) ?_)
    rintro e a' w' ⟨σ1,hq,hs'⟩
    cases e with
    | normal=>exact ih y Q σ1 a' w' hd.2 hl.2 hq hs'
    | _=>exact ⟨σ1,hq,hs'⟩
   | _=>exact h.elim
  | tr pre t =>
   cases c with
   | seq x y =>
    cases x with
    | region id ops draw =>
     cases draw with
     | true =>
      simp only [dL,aNp,Bool.and_eq_true] at hd hl
      refine wp_seq ?_
      refine aIt (WpR.plain P) (Q:=fun σ'=>yD P l y σ' Q) hm (fun i o d hi ho=>⟨qG hd.1 i o d hi ho,hZ d⟩) hl.1 hs h ?_
      intro σ' a' w' hq hs'
      exact ih y Q σ' a' w' hd.2 hl.2 hq hs'
     | false=>exact h.elim
    | _=>exact h.elim
   | _=>exact h.elim
theorem aMs {f N:Nat} {fn:Func} {g:FuncId} {r0 rd rest:Code} {args:List D} {r:D} (l:List Fl) (hm:P.follows .mixedOrders=true) (hf:P.funcs[f]? = some fn) (hb:fn.body=some (.seq r0 (.seq rd rest))) (hname:(fn.name == "runtime.NumGoroutine")=false)
  (hN:fn.ntmps=N) (hd0:dL N r0=true) (hl0:dS P r0=true) (hd1:dL N rest=true) (hl1:aNp P l rest=true) (hg:rZ rd=some g) (hrec:kJ P g) (ha:args.length≤N)
  (h:AWP P r0 (St0 args N) fun e σ0=>e=.normal∧yD P l rest σ0 fun e σ=>(e=.normal∨e=.ret)∧mW P fn.results.toList σ=some r):Spec P f args r:=by
 intro A W vs hA hl hv
 have hn:¬ fn.name = "runtime.NumGoroutine" := by simpa using hname
 refine ⟨fun w=>by simp [callFunc,hf,hn,hb],?_⟩
 refine calls_of_wp_defers hf hb ?_
 subst hN
 refine wp_seq (wp_mono (gW hm (fun _=>rfl) r0 _ _ _ _ hd0 hl0 h (SR0 hA hl hv ha)) ?_)
 rintro e a w ⟨σ0,⟨rfl,h1⟩,hs0⟩
 refine wp_seq (sV hg ?_)
 refine wp_mono (aPl hm (fun _=>rfl) l rest _ _ _ _ hd1 hl1 h1 (aCj { target:=.fn (.func g) #[],args:=#[] } hs0)) ?_
 rintro e a w ⟨σ,⟨he,hr⟩,hs⟩
 obtain ⟨v,hrun,hvd⟩:=jJ hs hr
 obtain ⟨_,_,F,ι,hR,_,_,_,hdf,_⟩:=hs
 have hend:Leaves P fn a.tmps (fun e w'=>∃ v,e=.returned v∧Below W.heap.size W w'∧VD (fun b=>A b∨(W.heap.size≤b∧b<w'.heap.size)) w' r v) a.defers .returning w:=by
  rw [hdf]
  refine leaves_cons (by simp) (args:=#[]) (f:=g) ?_ ((hrec.2 w).mono ?_)
  ·have:=hrec.1 w
   simpa [invoke] using this
  ·rintro e u' w' ⟨rfl,rfl,rfl⟩
   refine ⟨v,by simpa [settle] using hrun,v,rfl,⟨hR.kept.os,hR.kept.tape,hR.kept.output,hR.kept.size,fun k hk=>hR.kept.block k hk (fun h=>h)⟩,hvd.mono ?_⟩
   rintro b (h | h | h)
   ·exact .inl h
   ·exact h.elim
   ·exact .inr h
 rcases he with rfl | rfl <;> exact hend
end
theorem dD (P:Program) (c:Code) (σ:St) (Q:Exit→St→Prop):yD P [] c σ Q=AWP P c σ Q:=rfl
theorem kG (P:Program) (l:List Fl) (x y:Code) (σ:St) (Q:Exit→St→Prop):yD P (.st::l) (.seq x y) σ Q=AWP P x σ fun e σ'=>match e with | .normal=>yD P l y σ' Q | e=>Q e σ':=rfl
inductive Tro where
 | leaf
 | one (l:List Oper) (t:Tro)
 | two (l:List Oper) (t:Tro) (m:List Oper) (u:Tro)
def qS (ops:Array Oper):Tr→Tro
 | .leaf=>.leaf
 | .one i t=>.one (opL ops i) (qS ops t)
 | .two i t j u=>.two (opL ops i) (qS ops t) (opL ops j) (qS ops u)
def vT (P:Program) (ops:Array Oper):Tro→St→List Nat→(St→List Nat→Prop)→Prop
 | .leaf,σ,con,k=>k σ con
 | .one l t,σ,con,k=>OW P ops l σ con fun σ' con'=>vT P ops t σ' con' k
 | .two l t m u,σ,con,k=>(OW P ops l σ con fun σ' con'=>vT P ops t σ' con' k)∧(OW P ops m σ con fun σ' con'=>vT P ops u σ' con' k)
theorem uE (P:Program) (ops:Array Oper):∀ (t:Tr) (σ:St) (con:List Nat) (k:St→List Nat→Prop),OWT P ops t σ con k=vT P ops (qS ops t) σ con k
 | .leaf,_,_,_=>rfl
 | .one i t,σ,con,k=>by
  simp only [OWT,vT,qS]
  exact congrArg _ (funext fun σ'=>funext fun con'=>uE P ops t σ' con' k)
 | .two i t j u,σ,con,k=>by
  simp only [OWT,vT,qS]
  exact congr (congrArg And (congrArg _ (funext fun σ'=>funext fun con'=>uE P ops t σ' con' k))) (congrArg _ (funext fun σ'=>funext fun con'=>uE P ops u σ' con' k))
def bLn (P:Program) (ops:Array Oper) (l:List Oper) (t:Tro) (σ:St) (k:St→Prop) (_:Dm k):Prop:=OWd P ops l σ [] (fun σ1 con1=>vT P ops t σ1 con1 fun σ' con=>aDd σ' con k .mk) .mk
theorem sG {P:Program} {fl:List Fl} {pre:List Nat} {t:Tr} {id:Nat} {ops:Array Oper} {y:Code} {σ:St} {Q:Exit→St→Prop} (l:List Oper) (t':Tro) (h1:opsL ops pre=l) (h2:qS ops t=t')
  (h:bLn P ops l t' σ (fun σ'=>yD P fl y σ' Q) .mk):yD P (.tr pre t::fl) (.seq (.region id ops true) y) σ Q:=by
 subst h1; subst h2
 show OW P ops (opsL ops pre) σ [] fun σ1 con1=>OWT P ops t σ1 con1 fun σ' con=>yD P fl y (fin σ' con) Q
 simp only [uE]
 exact h
theorem cY (P:Program) (ops:Array Oper) (l:List Oper) (t:Tro) (σ:St) (k:St→Prop) (d:Dm k):bLn P ops l t σ k d=OWd P ops l σ [] (fun σ1 con1=>vT P ops t σ1 con1 fun σ' con=>aDd σ' con k .mk) .mk:=rfl
theorem cL (P:Program) (ops:Array Oper) (σ:St) (con:List Nat) (k:St→List Nat→Prop):vT P ops .leaf σ con k=k σ con:=rfl
theorem dB (P:Program) (ops:Array Oper) (l:List Oper) (t:Tro) (σ:St) (con:List Nat) (k:St→List Nat→Prop):vT P ops (.one l t) σ con k=OWd P ops l σ con (fun σ' con'=>vT P ops t σ' con' k) .mk:=rfl
theorem dA (P:Program) (ops:Array Oper) (l:List Oper) (t:Tro) (m:List Oper) (u:Tro) (σ:St) (con:List Nat) (k:St→List Nat→Prop):vT P ops (.two l t m u) σ con k=(OWd P ops l σ con (fun σ' con'=>vT P ops t σ' con' k) .mk∧OWd P ops m σ con (fun σ' con'=>vT P ops u σ' con' k) .mk):=rfl
end Go.Am
end
