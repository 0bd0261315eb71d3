/- The program's merges: Collapse. No condition. -/
import Derived.Test.YthjopmmgepejkaaGreatH5
import Derived.Test.YthjopmmgepejkaaGreatH4
import Derived.Test.YthjopmmgepejkaaGreatRows
section
set_option linter.unusedVariables false
set_option linter.unusedSimpArgs false
open Go Go.Am Go.Proofs
namespace Go.Am
/-! Weights -/
def bJ (w:Int→Int):List (Int × Int)→Int
 | []=>0
 | x::l=>x.2 * w x.1+bJ w l
theorem lZ (w:Int→Int):∀ a b:List (Int × Int),bJ w (a++b)=bJ w a+bJ w b
 | [],b=>by simp [bJ]
 | x::a,b=>by
  have:=lZ w a b
  simp only [List.cons_append,bJ,this]; omega
theorem aCr (w:Int→Int) (id z:Int):∀ l:List (Int × Int),bJ w (vU id z l)=bJ w l+z * w id
 | []=>by simp [vU,bJ]
 | x::l=>by
  rw [vU]
  by_cases h1:x.1 > id
  ·rw [if_pos h1]; simp only [bJ]; omega
  ·rw [if_neg h1]
   by_cases h2:x.1=id
   ·rw [if_pos h2]
    by_cases h3:x.2+z=0
    ·rw [if_pos h3]
     have:x.2 * w x.1+z * w id=0:=by rw [h2,← Int.add_mul,h3,Int.zero_mul]
     simp only [bJ]; omega
    ·rw [if_neg h3]; simp only [bJ]; rw [h2,Int.add_mul]; omega
   ·rw [if_neg h2]; simp only [bJ]; rw [aCr w id z l]; omega
theorem aTe (w:Int→Int) (l:List (Int × Int)) (f:Int × Int):bJ w (lP l f)=bJ w l+f.2 * w f.1:=by
 obtain ⟨id,z⟩:=f
 rw [aRt]
 by_cases h:z=0
 ·rw [if_pos h,h]; simp
 ·rw [if_neg h,aCr]
theorem kN (w:Int→Int):∀ b a:List (Int × Int),bJ w (bY a b)=bJ w a+bJ w b
 | [],a=>by simp [bY,bJ]
 | f::b,a=>by
  show bJ w (bY (lP a f) b)=_
  rw [kN w b,aTe]; simp only [bJ]; omega
theorem kM (w:Int→Int) (k:Int):∀ b:List (Int × Int),bJ w (mulR k b)=k * bJ w b
 | []=>by simp [mulR,bJ]
 | f::b=>by
  have ih:=kM w k b
  show k * f.2 * w f.1+bJ w (mulR k b)=k * (f.2 * w f.1+bJ w b)
  rw [ih,Int.mul_add,Int.mul_assoc]
theorem dP {w w':Int→Int}:∀ {l:List (Int × Int)},(∀ x∈l,w x.1=w' x.1)→bJ w l=bJ w' l
 | [],_=>rfl
 | x::l,h=>by
  simp only [bJ]
  rw [h x (List.mem_cons_self ..),dP fun y hy=>h y (List.mem_cons_of_mem _ hy)]
theorem lS (n:Int):∀ l:List (Int × Int),cf n l=bJ (fun m=>if n=m then 1 else 0) l
 | []=>rfl
 | x::l=>by
  simp only [cf,bJ]
  rw [lS n l]
  split <;> simp
theorem nC {n:Int}:∀ {l:List (Int × Int)},(∀ x∈l,x.1≠n)→cf n l=0
 | [],_=>rfl
 | x::l,h=>by
  simp only [cf]
  rw [if_neg fun e=>h x (List.mem_cons_self ..) e.symm,nC fun y hy=>h y (List.mem_cons_of_mem _ hy)]; rfl
theorem aOv (c:List Cl) (n:Int):∀ y:List (Int × Int),cf n (bdL c y)=bJ (fun m=>cf n (bOf c m)) y
 | []=>rfl
 | f::y=>by
  show cf n (mulR f.2 (bOf c f.1)++bdL c y)=_
  rw [bEc,aGp,aOv c n y]; rfl
theorem aYf (n:Nat) (f:Nat→Int):sgm (n+1) f=f 0+sgm n fun j=>f (j+1):=by
 induction n with
 | zero=>show 0+f 0=f 0+0; omega
 | succ n ih =>
  show sgm (n+1) f+f (n+1)=f 0+(sgm n (fun j=>f (j+1))+f (n+1))
  rw [ih]; omega
theorem aHh (w:Int→Int):∀ (ids v:List Int),ids.length=v.length→bJ w (ids.zip v)=sgm ids.length fun j=>v.getD j 0 * w (ids.getD j 0)
 | [],[],_=>rfl
 | [],_::_,h=>by simp at h
 | _::_,[],h=>by simp at h
 | i::ids,z::v,h=>by
  have ih:=aHh w ids v (by simpa using h)
  rw [List.zip_cons_cons,List.length_cons,aYf]
  simp only [bJ,ih]; rfl
/-! Sizes of valid chains -/
theorem fA:∀ {l:List (Int × Int)} {x:Int × Int},Val l→x∈l→getM l x.1=x.2
 | y::l,x,h,hx=>by
  obtain ⟨h1,h2,_⟩:=h.tail
  rw [bW]
  rcases List.mem_cons.1 hx with rfl | hx
  ·rw [if_pos rfl]
  ·rw [if_neg (by have:=h2 x hx; omega),fA h1 hx]
theorem xC {l:List (Int × Int)} {M:Nat} (h:Val l) (hb:∀ n,(getM l n).natAbs≤M):Bnd M l:=fun x hx=>by
 rw [← fA h hx]; exact hb _
theorem wV {l:List (Int × Int)} {n:Int} (h:getM l n≠0):∃ x∈l,x.1=n:=Classical.byContradiction fun hn=>h (gD fun y hy e=>hn ⟨y,hy,e⟩)
theorem aEe {M:Nat} {l:List (Int × Int)} (h:Bnd M l) (n:Int):(getM l n).natAbs≤M:=uD h n
theorem bBf {a b:List (Int × Int)} {k:Int} {A M K:Nat} (ha:Val a) (hb:Val b) (bA:Bnd A a) (bM:Bnd M b) (hk:k.natAbs≤K):Bnd (A+K * M) (bY a (mulR k b)):=by
 obtain ⟨h1,h2⟩:=yF ha hb k
 refine xC h1 fun n=>?_
 show (getM (lin a b k) n).natAbs≤_
 rw [h2 n]
 have e1:=aEe bA n
 have e2:=Nat.mul_le_mul hk (aEe bM n)
 have e3:=Int.natAbs_add_le (getM a n) (k * getM b n)
 rw [Int.natAbs_mul] at e3
 omega
theorem aEa {a b:List (Int × Int)} {k:Int} {S:Int→Prop} (ha:Val a) (hb:Val b) (ka:∀ x∈a,S x.1) (kb:∀ x∈b,S x.1):∀ x∈bY a (mulR k b),S x.1:=fun x hx=>by
 obtain ⟨h1,h2⟩:=yF ha hb k
 have e:=fA (l:=lin a b k) h1 hx
 rw [h2] at e
 have hne:x.2≠0:=h1.2 x hx
 by_cases h:getM a x.1=0
 ·have:getM b x.1≠0:=fun h'=>by rw [h,h',Int.mul_zero] at e; exact hne e.symm
  obtain ⟨y,hy,e2⟩:=wV this
  rw [← e2]; exact kb y hy
 ·obtain ⟨y,hy,e2⟩:=wV h
  rw [← e2]; exact ka y hy
theorem sV {M:Nat} (n:Int):∀ (ids v:List Int),ids.Pairwise (·<·)→(∀ z∈v,z.natAbs≤M)→(cf n (ids.zip v)).natAbs≤M∧(cf n (ids.zip v)≠0→n∈ids)
 | [],v,_,_=>by simp [cf]
 | i::ids,[],_,_=>by simp [cf]
 | i::ids,z::v,hp,hv=>by
  obtain ⟨h1,h2⟩:=List.pairwise_cons.1 hp
  obtain ⟨h3,h4⟩:=sV n ids v h2 fun y hy=>hv y (List.mem_cons_of_mem _ hy)
  rw [List.zip_cons_cons]
  simp only [cf]
  by_cases e:n=i
  ·have hz:cf n (ids.zip v)=0:=nC fun x hx e2=>by
    have:=h1 _ (List.of_mem_zip hx).1; omega
   rw [if_pos e,hz,Int.add_zero]
   exact ⟨hv z (List.mem_cons_self ..),fun _=>by rw [e]; exact List.mem_cons_self ..⟩
  ·rw [if_neg e,Int.zero_add]
   exact ⟨h3,fun h=>List.mem_cons_of_mem _ (h4 h)⟩
theorem bEb {ids v:List Int} {M:Nat} (hp:ids.Pairwise (·<·)) (hv:∀ z∈v,z.natAbs≤M):Val (bY [] (ids.zip v))∧Bnd M (bY [] (ids.zip v))∧(∀ x∈bY [] (ids.zip v),x.1∈ids)∧(bY [] (ids.zip v)).length≤ids.length∧∀ n,getM (bY [] (ids.zip v)) n=cf n (ids.zip v):=by
 obtain ⟨h1,h2⟩:=dA (ids.zip v) [] Val.nil
 have h3:∀ n,getM (bY [] (ids.zip v)) n=cf n (ids.zip v):=fun n=>by rw [h2 n,iV,Int.zero_add]
 refine ⟨h1,xC h1 fun n=>by rw [h3]; exact (sV n ids v hp hv).1,fun x hx=>?_,?_,h3⟩
 ·have e:=fA h1 hx
  rw [h3] at e
  exact (sV x.1 ids v hp hv).2 (by rw [e]; exact h1.2 x hx)
 ·have:=kG [] (ids.zip v)
  rw [List.length_zip] at this
  simp only [List.length_nil] at this; omega
/-! Cells of a dimension -/
theorem Inc.ids {c:List Cl} (h:Inc c) (k:Int):(cY c k).Pairwise (·<·):=by
 unfold cY
 rw [List.pairwise_map]
 exact (List.Pairwise.filter _ h)
theorem nY {c:List Cl} {k n:Int}:n∈cY c k↔∃ x∈c,x.dim=k∧x.id=n:=by
 unfold cY
 rw [List.mem_map]
 constructor
 ·rintro ⟨x,hx,e⟩
  obtain ⟨h1,h2⟩:=List.mem_filter.1 hx
  exact ⟨x,h1,of_decide_eq_true h2,e⟩
 ·rintro ⟨x,h1,h2,e⟩
  exact ⟨x,List.mem_filter.2 ⟨h1,decide_eq_true h2⟩,e⟩
theorem bCl (c:List Cl) (x:Cl) (k:Int):cY (c++[x]) k=cY c k++if x.dim=k then [x.id] else []:=by
 unfold cY
 rw [List.filter_append,List.map_append]
 congr 1
 by_cases e:x.dim=k <;> simp [e]
theorem aVo {c:List Cl} {x:Cl} {n:Int} (h:n≠x.id):cF (c++[x]) n=cF c n:=by
 unfold cF
 rw [List.find?_append]
 have:[x].find? (fun y=>decide (y.id=n))=none:=by simp; exact fun e=>h e.symm
 rw [this,Option.or_none]
theorem aSp {c:List Cl} {x:Cl} {n:Int} (h:n≠x.id):bOf (c++[x]) n=bOf c n:=by unfold bOf; rw [aVo h]
structure CxV (c:List Cl):Prop where
 inc:Inc c
 dim:∀ x∈c,0≤x.dim∧x.dim≤3
 val:∀ x∈c,Val x.b
 face:∀ x∈c,∀ f∈x.b,∃ y∈c,y.id=f.1∧y.dim=x.dim - 1
 cyc:∀ x∈c,∀ n,bJ (fun m=>cf n (bOf c m)) x.b=0
theorem CxV.bOf {c:List Cl} (h:CxV c) {x:Cl} (hx:x∈c):bOf c x.id=x.b:=by unfold Go.Am.bOf; rw [h.inc.find hx]; rfl
theorem CxV.bval {c:List Cl} (h:CxV c) (n:Int):Val (Go.Am.bOf c n):=by
 unfold Go.Am.bOf
 cases e:cF c n with
 | none=>exact Val.nil
 | some x=>exact h.val x (dT e).1
theorem CxV.cycle {c:List Cl} (h:CxV c) {k:Int} {v:List Int} (hv:v.length=(cY c k).length) (hz:∀ t,t<(cY c (k - 1)).length→sgm (cY c k).length (fun j=>v.getD j 0 * ent (pR c k) j t)=0) (n:Int) :
  bJ (fun m=>cf n (Go.Am.bOf c m)) (bY [] ((cY c k).zip v))=0:=by
 rw [kN,aHh _ _ _ hv.symm]
 show 0+_=(0:Int)
 rw [Int.zero_add]
 have hrow:∀ j,j<(cY c k).length→∃ x∈c,x.dim=k∧x.id=(cY c k).getD j 0:=fun j hj=>by
  rw [List.getD_eq_getElem?_getD,List.getElem?_eq_getElem hj]
  exact nY.1 (List.getElem_mem hj)
 by_cases hn:n∈cY c (k - 1)
 ·obtain ⟨t,ht,e⟩:=List.getElem_of_mem hn
  refine Eq.trans ?_ (hz t ht)
  refine cL fun j hj=>?_
  have:ent (pR c k) j t=cf n (Go.Am.bOf c ((cY c k).getD j 0)):=by
   unfold ent
   rw [List.getD_eq_getElem?_getD (l:=pR c k),zY (List.getElem?_eq_getElem hj),Option.getD_some,List.getD_eq_getElem?_getD,tJ (List.getElem?_eq_getElem ht),Option.getD_some,e,aRi (h.bval _),← gY (h.bval _)]
   rw [List.getD_eq_getElem?_getD,List.getElem?_eq_getElem hj]; rfl
  rw [this]
 ·rw [cL (g:=fun _=>0) fun j hj=>?_,tD]
  obtain ⟨x,hx,hd,he⟩:=hrow j hj
  rw [← he,h.bOf hx,nC fun f hf e=>?_,Int.mul_zero]
  obtain ⟨y,hy,e1,e2⟩:=h.face x hx f hf
  exact hn (nY.2 ⟨y,hy,by omega,by omega⟩)
theorem yC (c:List Cl) (k:Int):Sh (cY c k).length (cY c (k - 1)).length (pR c k):=⟨aKh c k,fun v hv=>by
 obtain ⟨n,_,rfl⟩:=List.mem_map.1 hv
 exact tI _ _⟩
theorem aRg {c:List Cl} {k:Int} {e:Nat} (hi:Inc c) (hb:∀ x∈c,x.dim=k→Bnd (2 ^ e) x.b):Be e (pR c k):=Be.of (yC c k) fun r t hr ht=>by
 unfold ent
 rw [List.getD_eq_getElem?_getD (l:=pR c k),zY (List.getElem?_eq_getElem hr),Option.getD_some,List.getD_eq_getElem?_getD,tJ (List.getElem?_eq_getElem ht),Option.getD_some]
 obtain ⟨x,hx,hd,he⟩:=nY.1 (List.getElem_mem hr)
 rw [← he]
 have:bOf c x.id=x.b:=by unfold bOf; rw [hi.find hx]; rfl
 rw [this]
 exact bOq (hb x hx hd) _
end Go.Am
end

section
set_option linter.unusedVariables false
set_option linter.unusedSimpArgs false
open Go Go.Am Go.Proofs
namespace Go.Am
theorem aMw {n k:Nat} {f:Nat→Int} (hk:k<n) (h:∀ j,j<n→j≠k→f j=0):sgm n f=f k:=by
 rw [← mV hk f]
 refine cL fun j hj=>?_
 by_cases e:j=k
 ·rw [if_pos e,Int.one_mul]
 ·rw [if_neg e,Int.zero_mul]; exact h j hj e
theorem nQ {n:Nat} {f:Nat→Int} (h:∀ j,j<n→f j=0):sgm n f=0:=by rw [cL h,tD]
theorem bGy {n i j:Nat} (hi:i<n) (hj:j<n) (f:Nat→Int):sgm n (fun r=>f (swp i j r))=sgm n f:=by
 by_cases e:i=j
 ·subst e
  refine cL fun r _=>?_
  unfold swp; split
  ·rename_i h; rw [h]
  ·rfl
 ·have h:sgm n (fun r=>f (swp i j r))=sgm n (fun r=>f r+((if r=i then 1 else 0) * (f j - f i)+(if r=j then 1 else 0) * (f i - f j))):=by
   refine cL fun r _=>?_
   unfold swp
   by_cases h1:r=i
   ·rw [if_pos h1,if_pos h1,if_neg (by omega),h1]; omega
   ·rw [if_neg h1,if_neg h1]
    by_cases h2:r=j
    ·rw [if_pos h2,if_pos h2,h2]; omega
    ·rw [if_neg h2,if_neg h2]; omega
  rw [h,rA,rA,mV hi fun _=>f j - f i,mV hj fun _=>f i - f j]; omega
def InP (R c:Nat) (w:W3) (x y:Nat→Int):Prop:=∃ a:Nat→Int,(∀ t,t<c→sgm R (fun j=>a j * ent w.M j t)=x t)∧∀ t,t<R→sgm R (fun j=>a j * ent w.U j t)=y t
theorem aLi {R c i j:Nat} {k:Int} {M:List (List Int)} {a:Nat→Int} (hi:i<R) (hj:j<R) (hij:i≠j) {t:Nat} (ht:t<c) :
  sgm R (fun r=>(if r=j then a j - k * a i else a r) * ent (oN R c M i j k) r t)=sgm R (fun r=>a r * ent M r t):=by
 have h:∀ r,r<R→(if r=j then a j - k * a i else a r) * ent (oN R c M i j k) r t=a r * ent M r t+((if r=i then 1 else 0) * (a i * (k * ent M j t))+(if r=j then 1 else 0) * (- (k * a i) * ent M j t)):=fun r hr=>by
  rw [gE hr ht]
  by_cases h1:r=i
  ·rw [if_pos h1,if_neg (by omega),if_pos h1,if_neg (by omega),h1,Int.mul_add]; omega
  ·rw [if_neg h1,if_neg h1]
   by_cases h2:r=j
   ·rw [if_pos h2,if_pos h2,h2,Int.sub_mul,Int.neg_mul]; omega
   ·rw [if_neg h2,if_neg h2]; omega
 rw [cL h,rA,rA,mV hi fun _=>a i * (k * ent M j t),mV hj fun _=>- (k * a i) * ent M j t]
 have:a i * (k * ent M j t)=k * a i * ent M j t:=by rw [← Int.mul_assoc,Int.mul_comm (a i)]
 rw [this,Int.neg_mul]; omega
theorem aSg {R c i j:Nat} {M:List (List Int)} {a:Nat→Int} (hi:i<R) (hj:j<R) {t:Nat} (ht:t<c) :
  sgm R (fun r=>a (swp i j r) * ent (swR R c M i j) r t)=sgm R (fun r=>a r * ent M r t):=by
 rw [← bGy hi hj fun r=>a r * ent M r t]
 exact cL fun r hr=>by rw [uJ hr ht]
theorem aSh {R c i:Nat} {M:List (List Int)} {a:Nat→Int} {t:Nat} (ht:t<c) :
  sgm R (fun r=>(if r=i then - a i else a r) * ent (ngR R c M i) r t)=sgm R (fun r=>a r * ent M r t) :=
 cL fun r hr=>by
  rw [lA hr ht]
  by_cases h1:r=i
  ·rw [if_pos h1,if_pos h1,Int.neg_mul_neg,h1]
  ·rw [if_neg h1,if_neg h1]
section
variable {R c col top i j:Nat} {w w':W3} {x y:Nat→Int}
theorem InP.add (h:InP R c w x y) (hi:i<R) (hj:j<R) (hij:i≠j) (k:Int):InP R c (w.add R c i j k) x y:=by
 obtain ⟨a,h1,h2⟩:=h
 exact ⟨_,fun t ht=>(aLi hi hj hij ht).trans (h1 t ht),fun t ht=>(aLi hi hj hij ht).trans (h2 t ht)⟩
theorem InP.sw (h:InP R c w x y) (hi:i<R) (hj:j<R):InP R c (w.sw R c i j) x y:=by
 obtain ⟨a,h1,h2⟩:=h
 exact ⟨_,fun t ht=>(aSg hi hj ht).trans (h1 t ht),fun t ht=>(aSg hi hj ht).trans (h2 t ht)⟩
theorem InP.ng (h:InP R c w x y):InP R c (w.ng R c i) x y:=by
 obtain ⟨a,h1,h2⟩:=h
 exact ⟨_,fun t ht=>(aSh ht).trans (h1 t ht),fun t ht=>(aSh ht).trans (h2 t ht)⟩
theorem InP.eu (h:Eu R c col top i w w') (hti:top<i) (hi:i<R) (g:InP R c w x y):InP R c w' x y:=by
 induction h with
 | done w ok h=>exact g
 | go w w' ok hy h2 ih =>
  refine ih ?_
  unfold euS euT
  split
  ·exact g.sw (by omega) hi
  ·exact (g.add (by omega) hi (by omega) _).sw (by omega) hi
theorem InP.ei (h:Ei R c col top i w w') (hti:top<i) (g:InP R c w x y):InP R c w' x y:=by
 induction h with
 | done i w ok h=>exact g
 | go i w w1 w2 h h1 h2 ih=>exact ih (by omega) (g.eu h1 hti h)
theorem InP.rd (h:Rd R c col top i w w') (ht:top<R) (g:InP R c w x y):InP R c w' x y:=by
 induction h with
 | done i w ok h=>exact g
 | go i w w2 ok h h2 ih=>exact ih (g.add (by omega) ht (by omega) _)
theorem InP.fo (h:Fo R c col top w w') (g:InP R c w x y):InP R c w' x y:=by
 induction h with
 | done col top w ok h=>exact g
 | zero col top w w1 w2 h1 h2 h3 h4 h5 ih=>exact ih (g.ei h3 (by omega))
 | piv col top w w1 w2 w3 h1 h2 h3 h4 h5 h6 ih =>
  refine ih (InP.rd h5 h2 ?_)
  have:=g.ei h3 (by omega)
  unfold ngS; split
  ·exact this.ng
  ·exact this
/-! The shape -/
structure Hn (R c col top:Nat) (M:List (List Int)) (p:Nat→Nat):Prop where
 inc:∀ i j,i<j→j<top→p i<p j
 lt:∀ i,i<top→p i<col
 pos:∀ i,i<top→0<ent M i (p i)
 bef:∀ i t,i<top→t<p i→ent M i t=0
 red:∀ j i,j<i→i<top→0≤ent M j (p i)∧ent M j (p i)<ent M i (p i)
 low:∀ r t,top≤r→r<R→t<col→ent M r t=0
theorem bKg (h:Eu R c col top i w w') (hti:top<i) (hi:i<R) (hcol:col<c):(∀ r t,r<R→t<c→r≠top→r≠i→ent w'.M r t=ent w.M r t)∧(∀ t,t<c→ent w.M top t=0→ent w.M i t=0→ent w'.M top t=0∧ent w'.M i t=0)∧ent w'.M i col=0:=by
 induction h with
 | done w ok h=>exact ⟨fun _ _ _ _ _ _=>rfl,fun t _ h1 h2=>⟨h1,h2⟩,h⟩
 | go w w' ok hy h2 ih =>
  have eM:=fun r t hr ht=>aLe (w:=w) (c:=c) (col:=col) (by omega:top≠i) (by omega:top<R) hi (r:=r) (t:=t) hr ht
  refine ⟨fun r t hr ht n1 n2=>by rw [ih.1 r t hr ht n1 n2,eM r t hr ht,if_neg n1,if_neg n2],fun t ht z1 z2=>ih.2.1 t ht ?_ ?_,ih.2.2⟩
  ·rw [eM _ _ (by omega) ht,if_pos rfl]; exact z2
  ·rw [eM _ _ hi ht,if_neg (by omega),if_pos rfl,z1,z2]; simp
theorem aSe (h:Ei R c col top i w w') (hti:top<i) (hcol:col<c) (z:∀ r,top<r→r<i→ent w.M r col=0):(∀ r t,r<top→r<R→t<c→ent w'.M r t=ent w.M r t)∧(∀ t,t<c→(∀ r,top≤r→r<R→ent w.M r t=0)→∀ r,top≤r→r<R→ent w'.M r t=0)∧∀ r,top<r→r<R→ent w'.M r col=0:=by
 induction h with
 | done i w ok h=>exact ⟨fun _ _ _ _ _=>rfl,fun t _ h r h1 h2=>h r h1 h2,fun r h1 h2=>z r h1 (by omega)⟩
 | go i w w1 w2 h h1 h2 ih =>
  obtain ⟨a1,a2,a3⟩:=bKg h1 hti h hcol
  obtain ⟨b1,b2,b3⟩:=ih (by omega) (fun r g1 g2=>by
   by_cases e:r=i
   ·rw [e]; exact a3
   ·rw [a1 r col (by omega) hcol (by omega) e]; exact z r g1 (by omega))
  refine ⟨fun r t g1 g2 g3=>by rw [b1 r t g1 g2 g3,a1 r t g2 g3 (by omega) (by omega)],fun t ht hz=>b2 t ht fun r g1 g2=>?_,b3⟩
  have h0:=a2 t ht (hz top (Nat.le_refl _) (by omega)) (hz i (by omega) h)
  by_cases e1:r=top
  ·rw [e1]; exact h0.1
  ·by_cases e2:r=i
   ·rw [e2]; exact h0.2
   ·rw [a1 r t g2 ht e1 e2]; exact hz r g1 g2
theorem bHl (h:Rd R c col top i w w') (hR:top<R) (hcol:col<c):∀ r t,r<R→t<c→ent w'.M r t=if i≤r∧r<top then ent w.M r t - (ent w.M r col / ent w.M top col) * ent w.M top t else ent w.M r t:=by
 induction h with
 | done i w ok h=>intro r t _ _; rw [if_neg (by omega)]
 | go i w w2 ok h h2 ih =>
  intro r t hr ht
  have eM:∀ {r t},r<R→t<c→ent (rdS R c col top i w).M r t=_:=fun {r t} hr ht=>gE (R:=R) (c:=c) (M:=w.M) (i:=i) (j:=top) (k:=-(ent w.M i col / ent w.M top col)) hr ht
  rw [ih r t hr ht,eM hr ht,eM hr hcol,eM hR hcol,eM hR ht,if_neg (show ¬ top=i by omega),if_neg (show ¬ top=i by omega)]
  by_cases e:r=i
  ·subst e
   rw [if_neg (by omega),if_pos rfl,if_pos ⟨Nat.le_refl _,h⟩,Int.neg_mul]; omega
  ·rw [if_neg e,if_neg e]
   by_cases e2:i≤r∧r<top
   ·rw [if_pos e2,if_pos (by omega)]
   ·rw [if_neg e2,if_neg (by omega)]
theorem bMd (h:Fo R c col top w w'):∀ {p},col≤c→top≤R→Hn R c col top w.M p→∃ k q,k≤R∧Hn R c c k w'.M q:=by
 induction h with
 | done col top w ok h =>
  intro p hc hT g
  exact ⟨top,p,hT,g.inc,fun i hi=>by have:=g.lt i hi; omega,g.pos,g.bef,g.red,fun r t h1 h2 h3=>g.low r t h1 h2 (by omega)⟩
 | zero col top w w1 w2 h1 h2 h3 h4 h5 ih =>
  intro p hc hT g
  obtain ⟨a1,a2,a3⟩:=aSe h3 (by omega) h1 (fun r _ _=>by omega)
  have e:∀ i t,i<top→t<c→ent w1.M i t=ent w.M i t:=fun i t hi ht=>a1 i t hi (by omega) ht
  have lt:∀ i,i<top→p i<c:=fun i hi=>by have:=g.lt i hi; omega
  refine ih (p:=p) h1 hT ⟨g.inc,fun i hi=>by have:=g.lt i hi; omega,fun i hi=>by rw [e i _ hi (lt i hi)]; exact g.pos i hi,fun i t hi ht=>by rw [e i t hi (by have:=lt i hi; omega)]; exact g.bef i t hi ht,fun j i hj hi=>by rw [e j _ (by omega) (lt i hi),e i _ hi (lt i hi)]; exact g.red j i hj hi,fun r t g1 g2 g3=>?_⟩
  by_cases e1:t=col
  ·rw [e1]
   by_cases e2:r=top
   ·rw [e2]; exact h4
   ·exact a3 r (by omega) g2
  ·exact a2 t (by omega) (fun r k1 k2=>g.low r t k1 k2 (by omega)) r g1 g2
 | piv col top w w1 w2 w3 h1 h2 h3 h4 h5 h6 ih =>
  intro p hc hT g
  obtain ⟨a1,a2,a3⟩:=aSe h3 (by omega) h1 (fun r _ _=>by omega)
  have a2':∀ r t,top≤r→r<R→t<col→ent w1.M r t=0:=fun r t k1 k2 k3=>a2 t (by omega) (fun r g1 g2=>g.low r t g1 g2 k3) r k1 k2
  have n1:∀ r t,r<R→t<c→ent (ngS R c col top w1).M r t=if r=top∧ent w1.M top col<0 then - ent w1.M top t else ent w1.M r t:=fun r t hr ht=>by
   unfold ngS
   by_cases e:ent w1.M top col<0
   ·rw [if_pos e]; show ent (ngR R c w1.M top) r t=_
    rw [lA hr ht]
    by_cases e2:r=top
    ·rw [if_pos e2,if_pos ⟨e2,e⟩]
    ·rw [if_neg e2,if_neg fun h=>e2 h.1]
   ·rw [if_neg e,if_neg fun h=>e h.2]
  have hd:=bHl h5 h2 h1
  have hp:0<ent (ngS R c col top w1).M top col:=by
   rw [n1 top col h2 h1]; split <;> omega
  have ntop:∀ t,t<col→ent (ngS R c col top w1).M top t=0:=fun t ht=>by
   rw [n1 top t h2 (by omega),a2' top t (Nat.le_refl _) h2 ht]; split <;> rfl
  have nrow:∀ i t,i<top→t<c→ent (ngS R c col top w1).M i t=ent w.M i t:=fun i t hi ht=>by
   rw [n1 i t (by omega) ht,if_neg (by omega),a1 i t hi (by omega) ht]
  have nlow:∀ r t,top<r→r<R→t≤col→ent (ngS R c col top w1).M r t=0:=fun r t k1 k2 k3=>by
   rw [n1 r t k2 (by omega),if_neg (by omega)]
   by_cases e:t=col
   ·rw [e]; exact a3 r k1 k2
   ·exact a2' r t (by omega) k2 (by omega)
  -- rows of w2
  have rtop:∀ t,t<c→ent w2.M top t=ent (ngS R c col top w1).M top t:=fun t ht=>by rw [hd top t h2 ht,if_neg (by omega)]
  have rup:∀ i t,i<top→t<col→ent w2.M i t=ent w.M i t:=fun i t hi ht=>by
   rw [hd i t (by omega) (by omega),if_pos (by omega),ntop t ht,nrow i t hi (by omega)]; simp
  have rcol:∀ i,i<top→ent w2.M i col=ent w.M i col % ent w2.M top col:=fun i hi=>by
   rw [rtop col h1,hd i col (by omega) h1,if_pos (by omega),nrow i col hi h1]
   have:=Int.mul_ediv_add_emod (ent w.M i col) (ent (ngS R c col top w1).M top col)
   rw [Int.mul_comm] at this; omega
  have hp2:0<ent w2.M top col:=by rw [rtop col h1]; exact hp
  refine ih (p:=fun i=>if i=top then col else p i) h1 (by omega) ⟨fun i j hij hj=>?_,fun i hi=>?_,fun i hi=>?_,fun i t hi ht=>?_,fun j i hj hi=>?_,fun r t k1 k2 k3=>?_⟩
  ·rw [if_neg (show ¬ i=top by omega)]
   split
   ·exact g.lt i (by omega)
   ·exact g.inc i j hij (by omega)
  ·show (if i=top then col else p i)<_
   split
   ·omega
   ·have:=g.lt i (by omega); omega
  ·show 0<ent w2.M i (if i=top then col else p i)
   split
   ·rename_i e; rw [e]; exact hp2
   ·rw [rup i _ (by omega) (g.lt i (by omega))]; exact g.pos i (by omega)
  ·replace ht:t<if i=top then col else p i:=ht
   split at ht
   ·rename_i e; rw [e,rtop t (by omega)]; exact ntop t ht
   ·have:=g.lt i (by omega)
    rw [rup i t (by omega) (by omega)]; exact g.bef i t (by omega) ht
  ·show 0≤ent w2.M j (if i=top then col else p i)∧ent w2.M j (if i=top then col else p i)<ent w2.M i (if i=top then col else p i)
   split
   ·rename_i e; rw [rcol j (by omega),e]
    exact ⟨Int.emod_nonneg _ (by omega),Int.emod_lt_of_pos _ hp2⟩
   ·rw [rup j _ (by omega) (g.lt i (by omega)),rup i _ (by omega) (g.lt i (by omega))]; exact g.red j i hj (by omega)
  ·rw [hd r t k2 (by omega),if_neg (by omega)]; exact nlow r t (by omega) k2 (by omega)
end
/-! Normal forms of one lattice -/
section
variable {R R' c k k':Nat} {M M':List (List Int)} {p p':Nat→Nat} {a x:Nat→Int}
theorem Hn.min (h:Hn R c c k M p) (hk:k≤R) (hx:∀ t,t<c→sgm R (fun j=>a j * ent M j t)=x t) (hne:∃ j,j<k∧a j≠0):∃ m,m<k∧a m≠0∧(∀ t,t<p m→x t=0)∧x (p m)=a m * ent M m (p m):=by
 have key:∀ n,n≤k→(∀ j,j<n→a j=0)∨∃ m,m<n∧a m≠0∧∀ j,j<m→a j=0:=by
  intro n
  induction n with
  | zero=>intro _; exact .inl fun j hj=>by omega
  | succ n ih =>
   intro hn
   rcases ih (by omega) with h1 | ⟨m,h1,h2,h3⟩
   ·by_cases e:a n=0
    ·refine .inl fun j hj=>?_
     by_cases e2:j=n
     ·rw [e2]; exact e
     ·exact h1 j (by omega)
    ·exact .inr ⟨n,by omega,e,h1⟩
   ·exact .inr ⟨m,by omega,h2,h3⟩
 rcases key k (Nat.le_refl _) with h0 | ⟨m,h1,h2,h3⟩
 ·obtain ⟨j,hj,hn⟩:=hne
  exact absurd (h0 j hj) hn
 ·have hm:=h.lt m h1
  refine ⟨m,h1,h2,fun t ht=>?_,?_⟩
  ·rw [← hx t (by omega)]
   refine nQ fun j hj=>?_
   by_cases e:j<m
   ·rw [h3 j e]; simp
   ·by_cases e2:j<k
    ·rw [h.bef j t e2 (by
      by_cases e3:j=m
      ·rw [e3]; exact ht
      ·have:=h.inc m j (by omega) e2; omega)]; simp
    ·rw [h.low j t (by omega) hj (by omega)]; simp
  ·rw [← hx _ hm]
   refine aMw (by omega) fun j hj hne=>?_
   by_cases e:j<m
   ·rw [h3 j e]; simp
   ·by_cases e2:j<k
    ·rw [h.bef j _ e2 (h.inc m j (by omega) e2)]; simp
    ·rw [h.low j _ (by omega) hj hm]; simp
theorem Hn.lead (h:Hn R c c k M p) (hk:k≤R) (hx:∀ t,t<c→sgm R (fun j=>a j * ent M j t)=x t) (hne:∃ t,t<c∧x t≠0):∃ m,m<k∧a m≠0∧(∀ t,t<p m→x t=0)∧x (p m)=a m * ent M m (p m):=by
 refine h.min hk hx (Classical.byContradiction fun h0=>?_)
 obtain ⟨t,ht,hn⟩:=hne
 refine hn ?_
 rw [← hx t ht]
 refine nQ fun j hj=>?_
 by_cases e:j<k
 ·rw [show a j=0 from Classical.byContradiction fun e'=>h0 ⟨j,e,e'⟩]; simp
 ·rw [h.low j t (by omega) hj ht]; simp
end
end Go.Am
end

section
set_option linter.unusedVariables false
set_option linter.unusedSimpArgs false
open Go Go.Am Go.Proofs
namespace Go.Am
theorem aQk (n:Nat) (x f g:Nat→Int) (a b:Int):sgm n (fun i=>x i * (a * f i - g i * b))=a * sgm n (fun i=>x i * f i) - sgm n (fun i=>x i * g i) * b:=by
 induction n with
 | zero=>simp [sgm]
 | succ n ih=>simp only [sgm]; rw [ih]; grind
theorem aYe (n:Nat) (x y f:Nat→Int) (a b:Int):sgm n (fun i=>(a * x i - b * y i) * f i)=a * sgm n (fun i=>x i * f i) - b * sgm n (fun i=>y i * f i):=by
 induction n with
 | zero=>simp [sgm]
 | succ n ih=>simp only [sgm]; rw [ih]; grind
theorem bGz {n B:Nat} {f:Nat→Int} (h:∀ j,j<n→(f j).natAbs≤B):(sgm n f).natAbs≤n * B:=by
 induction n with
 | zero=>simp [sgm]
 | succ n ih =>
  have h1:=ih fun j hj=>h j (by omega)
  have h2:=h n (by omega)
  rw [Nat.succ_mul]; simp only [sgm]; omega
theorem aCz (k:Nat) (f:Nat→Int):∀ n,sgm (k+n) f=sgm k f+sgm n (fun i=>f (k+i))
 | 0=>by simp [sgm]
 | n+1=>by rw [← Nat.add_assoc]; simp only [sgm]; rw [aCz k f n]; omega
theorem uX {x y:Int} {a b:Nat} (hx:x.natAbs≤2 ^ a) (hy:y.natAbs≤2 ^ b):(x * y).natAbs≤2 ^ (a+b):=by
 rw [Int.natAbs_mul,Nat.pow_add]; exact Nat.mul_le_mul hx hy
def gG:Nat→Nat→Nat
 | 0,_=>0
 | n+1,b=>gG n (2 * b+1)+b+n
theorem aGe:∀ {n b b':Nat},b≤b'→gG n b≤gG n b'
 | 0,_,_,_=>Nat.le_refl _
 | n+1,b,b',h=>by
  have:=aGe (n:=n) (b:=2 * b+1) (b':=2 * b'+1) (by omega)
  simp only [gG]; omega
theorem bMb {n m b:Nat} (h:n≤m):gG n b≤gG m b:=by
 induction m with
 | zero=>rw [show n=0 by omega]; exact Nat.le_refl _
 | succ m ih =>
  by_cases e:n=m+1
  ·rw [e]; exact Nat.le_refl _
  ·have h1:=ih (by omega)
   have h2:=aGe (n:=m) (b:=b) (b':=2 * b+1) (by omega)
   show _≤gG m (2 * b+1)+b+m; omega
theorem wE (c:Nat):∀ (n b:Nat) (u:Nat→Nat→Int) (S:Nat→Prop),(∀ i t,i<n→t<c→(u i t).natAbs≤2 ^ b) →
  (∃ x:Nat→Int,(∃ i,i<n∧x i≠0)∧(∀ i,i<n→¬ S i→x i=0)∧∀ t,t<c→sgm n (fun i=>x i * u i t)=0) →
  ∃ y:Nat→Int,(∃ i,i<n∧y i≠0)∧(∀ i,i<n→¬ S i→y i=0)∧(∀ t,t<c→sgm n (fun i=>y i * u i t)=0)∧∀ i,i<n→(y i).natAbs≤2 ^ gG n b
 | 0,b,u,S,_,⟨x,⟨i,hi,_⟩,_⟩=>absurd hi (Nat.not_lt_zero _)
 | n+1,b,u,S,hu,⟨x,⟨i0,hi0,hx0⟩,hxS,hx⟩=>by
  by_cases hS:S n
  rotate_left
  ·have xn:x n=0:=hxS n (by omega) hS
   obtain ⟨y,⟨i1,hi1,hy1⟩,hyS,hy,hyb⟩:=wE c n b u S (fun i t hi ht=>hu i t (by omega) ht) ⟨x,⟨i0,by
    by_cases e:i0=n
    ·rw [e] at hx0; exact absurd xn hx0
    ·omega,hx0⟩,fun i hi=>hxS i (by omega),fun t ht=>by have:=hx t ht; simp only [sgm] at this; rw [xn] at this; simpa using this⟩
   refine ⟨fun i=>if i=n then 0 else y i,⟨i1,by omega,by show (if i1=n then 0 else y i1)≠0; rw [if_neg (by omega)]; exact hy1⟩,fun i hi hs=>?_,fun t ht=>?_,fun i hi=>?_⟩
   ·show (if i=n then 0 else y i)=0
    split
    ·rfl
    ·exact hyS i (by omega) hs
   ·simp only [sgm,if_true]
    rw [cL fun i hi=>by rw [if_neg (by omega:¬ i=n)],hy t ht]; simp
   ·show (if i=n then 0 else y i).natAbs≤_
    split
    ·exact Nat.zero_le _
    ·refine Nat.le_trans (hyb i (by omega)) (Nat.pow_le_pow_right (by omega) ?_)
     have:=aGe (n:=n) (b:=b) (b':=2 * b+1) (by omega)
     simp only [gG]; omega
  ·by_cases hz:∃ t,t<c∧u n t≠0
   rotate_left
   ·refine ⟨fun i=>if i=n then 1 else 0,⟨n,by omega,by simp⟩,fun i hi hs=>?_,fun t ht=>?_,fun i hi=>?_⟩
    ·show (if i=n then (1:Int) else 0)=0
     rw [if_neg fun (e:i=n)=>hs (e ▸ hS)]
    ·refine (mV (by omega) fun i=>u i t).trans ?_
     exact Classical.byContradiction fun e=>hz ⟨t,ht,e⟩
    ·have:1≤2 ^ gG (n+1) b:=Nat.one_le_two_pow
     show (if i=n then (1:Int) else 0).natAbs≤_
     split <;> simp <;> omega
   ·obtain ⟨t0,ht0,hn0⟩:=hz
    have hxn:∃ i,i<n∧x i≠0:=Classical.byContradiction fun h0=>by
     have hz:∀ i,i<n→x i=0:=fun i hi=>Classical.byContradiction fun e=>h0 ⟨i,hi,e⟩
     have:=hx t0 ht0
     simp only [sgm] at this
     rw [nQ fun i hi=>by rw [hz i hi]; simp,Int.zero_add] at this
     rcases Int.mul_eq_zero.1 this with e | e
     ·by_cases e2:i0=n
      ·rw [e2] at hx0; exact hx0 e
      ·exact hx0 (hz i0 (by omega))
     ·exact hn0 e
    obtain ⟨y,⟨i1,hi1,hy1⟩,hyS,hy,hyb⟩:=wE c n (2 * b+1) (fun i t=>u n t0 * u i t - u i t0 * u n t) S (fun i t hi ht=>by
     have h1:=uX (hu n t0 (by omega) ht0) (hu i t (by omega) ht)
     have h2:=uX (hu i t0 (by omega) ht0) (hu n t (by omega) ht)
     have h3:2 ^ (2 * b+1)=2 ^ (b+b)+2 ^ (b+b):=by rw [Nat.pow_succ,Nat.mul_two,show 2 * b=b+b by omega]
     show (u n t0 * u i t - u i t0 * u n t).natAbs≤_
     omega) ⟨x,hxn,fun i hi=>hxS i (by omega),fun t ht=>by
      have h1:=hx t ht
      have h2:=hx t0 ht0
      simp only [sgm] at h1 h2
      rw [aQk n x (fun i=>u i t) (fun i=>u i t0),show sgm n (fun i=>x i * u i t)=- (x n * u n t) by omega,show sgm n (fun i=>x i * u i t0)=- (x n * u n t0) by omega]
      grind⟩
    obtain ⟨g,hg⟩:∃ g,gG n (2 * b+1)=g:=⟨_,rfl⟩
    have hg':gG (n+1) b=g+b+n:=by simp only [gG]; rw [hg]
    rw [hg] at hyb
    rw [hg']
    have hy0:∀ j,j<n→(y j * u j t0).natAbs≤2 ^ (g+b):=fun j hj=>uX (hyb j hj) (hu j t0 (by omega) ht0)
    refine ⟨fun i=>if i=n then - sgm n (fun i=>y i * u i t0) else u n t0 * y i,⟨i1,by omega,?_⟩,fun i hi hs=>?_,fun t ht=>?_,fun i hi=>?_⟩
    ·show (if i1=n then _ else u n t0 * y i1)≠0
     rw [if_neg (by omega)]
     exact fun e=>(Int.mul_eq_zero.1 e).elim hn0 hy1
    ·show (if i=n then _ else u n t0 * y i)=0
     rw [if_neg fun (e:i=n)=>hs (e ▸ hS),hyS i (by
      by_cases e:i=n
      ·exact absurd (e ▸ hS) hs
      ·omega) hs,Int.mul_zero]
    ·have h1:=hy t ht
     rw [aQk n y (fun i=>u i t) (fun i=>u i t0)] at h1
     simp only [sgm,if_true]
     rw [cL (g:=fun i=>u n t0 * (y i * u i t)) fun i hi=>by rw [if_neg (by omega:¬ i=n),Int.mul_assoc],tE,Int.neg_mul]
     omega
    ·show (if i=n then _ else u n t0 * y i).natAbs≤_
     split
     ·rw [Int.natAbs_neg]
      refine Nat.le_trans (bGz hy0) ?_
      rw [Nat.pow_add _ (g+b),Nat.mul_comm]
      exact Nat.mul_le_mul_left _ (Nat.le_of_lt Nat.lt_two_pow_self)
     ·refine Nat.le_trans (uX (hu n t0 (by omega) ht0) (hyb i (by omega))) (Nat.pow_le_pow_right (by omega) (by omega))
structure bFt (R c Q k:Nat) (A M:List (List Int)) (p:Nat→Nat):Prop where
 hn:Hn Q R R k M p
 le:k≤Q
 ker:∀ i,i<k→∀ t,t<c→sgm R (fun j=>ent M i j * ent A j t)=0
 all:∀ x:Nat→Int,(∀ t,t<c→sgm R (fun j=>x j * ent A j t)=0)→∃ a:Nat→Int,∀ j,j<R→sgm Q (fun i=>a i * ent M i j)=x j
section
variable {R c Q k b:Nat} {A M:List (List Int)} {p:Nat→Nat}
def InK (R c:Nat) (A:List (List Int)) (x:Nat→Int):Prop:=∀ t,t<c→sgm R (fun j=>x j * ent A j t)=0
theorem InK.lin {x y:Nat→Int} (hx:InK R c A x) (hy:InK R c A y) (a b:Int):InK R c A (fun j=>a * x j - b * y j):=fun t ht=>by
 rw [aYe,hx t ht,hy t ht]; simp
theorem Hn.inj (h:Hn Q c R k M p) {i j:Nat} (hi:i<k) (hj:j<k) (e:p i=p j):i=j:=by
 rcases Nat.lt_trichotomy i j with h1 | h1 | h1
 ·have:=h.inc i j h1 hj; omega
 ·exact h1
 ·have:=h.inc j i h1 hi; omega
theorem aQu (h:bFt R c Q k A M p) {i:Nat} (hi:i<k):∀ n,i+1+n≤k→∃ x:Nat→Int,InK R c A x∧x (p i)≠0∧∀ m,m<i+1+n→m≠i→x (p m)=0
 | 0,_=>⟨fun j=>ent M i j,h.ker i hi,by have:=h.hn.pos i hi; show ent M i (p i)≠0; omega,fun m hm hne=>h.hn.bef i _ hi (h.hn.inc m i (by omega) hi)⟩
 | n+1,hn=>by
  obtain ⟨x,h1,h2,h3⟩:=aQu h hi n (by omega)
  have hm:i+1+n<k:=by omega
  have h0:∀ m,m<i+1+n→ent M (i+1+n) (p m)=0:=fun m hm'=>h.hn.bef _ _ hm (h.hn.inc m _ hm' hm)
  refine ⟨fun j=>ent M (i+1+n) (p (i+1+n)) * x j - x (p (i+1+n)) * ent M (i+1+n) j,h1.lin (h.ker _ hm) _ _,?_,fun m hm' hne=>?_⟩
  ·show ent M (i+1+n) (p (i+1+n)) * x (p i) - _ * ent M (i+1+n) (p i)≠0
   rw [h0 i (by omega)]
   intro e
   have hp:=h.hn.pos _ hm
   have:ent M (i+1+n) (p (i+1+n)) * x (p i)=0:=by simpa using e
   rcases Int.mul_eq_zero.1 this with e | e
   ·omega
   ·exact h2 e
  ·show ent M (i+1+n) (p (i+1+n)) * x (p m) - x (p (i+1+n)) * ent M (i+1+n) (p m)=0
   by_cases e:m=i+1+n
   ·rw [e,Int.mul_comm]; omega
   ·rw [h0 m (by omega),h3 m (by omega) hne]; simp
theorem aDj (h:bFt R c Q k A M p) (hb:Be b A) {i:Nat} (hi:i<k):∃ w:Nat→Int,InK R c A w∧w (p i)≠0∧(∀ m,m<k→m≠i→w (p m)=0)∧(∀ j,j<R→(w j).natAbs≤2 ^ gG R b)∧(ent M i (p i)).natAbs≤2 ^ gG R b:=by
 obtain ⟨x,x1,x2,x3⟩:=aQu h hi (k - i - 1) (by omega)
 obtain ⟨w,⟨j0,hj0,hw0⟩,w2,w3,w4⟩:=wE c R b (fun j t=>ent A j t) (fun j=>j=p i∨∀ m,m<k→p m≠j) (fun j t _ _=>hb j t) ⟨x,⟨p i,h.hn.lt i hi,x2⟩,fun j hj hs=>by
  have h1:j≠p i:=fun e=>hs (.inl e)
  obtain ⟨m,hm,e⟩:∃ m,m<k∧p m=j:=Classical.byContradiction fun h0=>hs (.inr fun m hm e=>h0 ⟨m,hm,e⟩)
  rw [← e]; exact x3 m (by omega) fun e2=>h1 (by rw [← e,e2]),x1⟩
 obtain ⟨a,ha⟩:=h.all w w3
 obtain ⟨m,m1,m2,_,m4⟩:=h.hn.lead h.le ha ⟨j0,hj0,hw0⟩
 have hp:=h.hn.pos m m1
 have hne:w (p m)≠0:=by
  rw [m4]; intro e
  rcases Int.mul_eq_zero.1 e with e | e
  ·exact m2 e
  ·omega
 have em:m=i:=by
  refine h.hn.inj m1 hi (Classical.byContradiction fun e=>hne (w2 _ (h.hn.lt m m1) fun s=>?_))
  rcases s with s | s
  ·exact e s
  ·exact s m m1 rfl
 subst em
 refine ⟨w,w3,hne,fun n hn hne=>w2 _ (h.hn.lt n hn) fun s=>?_,w4,?_⟩
 ·rcases s with s | s
  ·exact hne (h.hn.inj hn m1 s)
  ·exact s n hn rfl
 ·refine Nat.le_trans ?_ (w4 _ (h.hn.lt m m1))
  rw [m4,Int.natAbs_mul]
  have:=Nat.mul_le_mul_right (ent M m (p m)).natAbs (show 1≤(a m).natAbs by omega)
  omega
theorem aEg (h:bFt R c Q k A M p) (hb:Be b A):∀ (m:Nat) (y:Nat→Int) (B:Nat),m≤k→InK R c A y→(∀ j,j<k→m≤j→y (p j)=0)→(∀ j,j<m→(y (p j)).natAbs≤B)→∀ q,q<R→(∀ j,j<k→p j≠q)→(y q).natAbs≤m * (B * 2 ^ gG R b)
 | 0,y,B,_,hy,h0,_,q,hq,_=>by
  refine Classical.byContradiction fun hne=>?_
  obtain ⟨a,ha⟩:=h.all y hy
  obtain ⟨m,m1,m2,_,m4⟩:=h.hn.lead h.le ha ⟨q,hq,by intro e; rw [e] at hne; simp at hne⟩
  rw [h0 m m1 (by omega)] at m4
  have hp:=h.hn.pos m m1
  rcases Int.mul_eq_zero.1 m4.symm with e | e
  ·exact m2 e
  ·omega
 | m+1,y,B,hm,hy,h0,h1,q,hq,hnp=>by
  obtain ⟨w,w1,w2,w3,w4,_⟩:=aDj h hb (show m<k by omega)
  have ih:=aEg h hb m (fun j=>w (p m) * y j - y (p m) * w j) ((w (p m)).natAbs * B) (by omega) (hy.lin w1 _ _) (fun j hj hmj=>by
   show w (p m) * y (p j) - y (p m) * w (p j)=0
   by_cases e:j=m
   ·rw [e,Int.mul_comm]; omega
   ·rw [h0 j hj (by omega),w3 j hj e]; simp) (fun j hj=>by
   show (w (p m) * y (p j) - y (p m) * w (p j)).natAbs≤_
   rw [w3 j (by omega) (by omega),Int.mul_zero,Int.sub_zero,Int.natAbs_mul]
   exact Nat.mul_le_mul_left _ (h1 j (by omega))) q hq hnp
  have h2:=Nat.mul_le_mul (h1 m (by omega)) (w4 q hq)
  rw [← Int.natAbs_mul] at h2
  have ih':(w (p m) * y q - y (p m) * w q).natAbs≤(w (p m)).natAbs * (m * (B * 2 ^ gG R b)):=by
   refine Nat.le_trans ih (Nat.le_of_eq ?_)
   rw [Nat.mul_assoc,Nat.mul_left_comm]
  have h3:(w (p m) * y q).natAbs≤(w (p m)).natAbs * (m * (B * 2 ^ gG R b))+B * 2 ^ gG R b:=by omega
  have h4:1 * (B * 2 ^ gG R b)≤(w (p m)).natAbs * (B * 2 ^ gG R b):=Nat.mul_le_mul_right _ (Int.natAbs_pos.2 w2)
  rw [Int.natAbs_mul] at h3
  have h5:0<(w (p m)).natAbs:=Int.natAbs_pos.2 w2
  refine Nat.le_of_mul_le_mul_left (c:=(w (p m)).natAbs) ?_ h5
  rw [Nat.succ_mul,Nat.mul_add]; omega
theorem aVh (h:bFt R c Q k A M p) (hb:Be b A) (hk:k≤16) {i q:Nat} (hi:i<k) (hq:q<R):(ent M i q).natAbs≤2 ^ (2 * gG R b+4):=by
 have hW:∀ j,j<k→(ent M j (p j)).natAbs≤2 ^ gG R b:=fun j hj=>let ⟨_,_,_,_,_,e⟩:=aDj h hb hj; e
 have hpv:∀ j,j<k→(ent M i (p j)).natAbs≤2 ^ gG R b:=fun j hj=>by
  rcases Nat.lt_trichotomy j i with e | e | e
  ·rw [h.hn.bef i _ hi (h.hn.inc j i e hi)]; exact Nat.zero_le _
  ·rw [e]; exact hW i hi
  ·have:=hW j hj
   obtain ⟨r1,r2⟩:=h.hn.red i j e hj
   omega
 have e1:2 ^ (2 * gG R b+4)=16 * (2 ^ gG R b * 2 ^ gG R b):=by rw [← Nat.pow_add,Nat.pow_add,Nat.mul_comm,show 2 * gG R b=gG R b+gG R b by omega]
 by_cases e:∃ j,j<k∧p j=q
 ·obtain ⟨j,hj,rfl⟩:=e
  exact Nat.le_trans (hpv j hj) (Nat.pow_le_pow_right (by omega) (by omega))
 ·refine Nat.le_trans (aEg h hb k (fun j=>ent M i j) _ (Nat.le_refl _) (h.ker i hi) (fun j h1 h2=>by omega) hpv q hq fun j hj e2=>e ⟨j,hj,e2⟩) ?_
  rw [e1]; exact Nat.mul_le_mul_right _ hk
end
theorem Hn.start (R c:Nat) (M:List (List Int)):Hn R c 0 0 M fun _=>0 :=
 ⟨fun i j _ h=>by omega,fun i h=>by omega,fun i h=>by omega,fun i t h=>by omega,fun j i _ h=>by omega,fun r t _ _ h=>by omega⟩
theorem Hn.rank {R c k:Nat} {M:List (List Int)} {p:Nat→Nat} (h:Hn R c c k M p) (hk:k≤R) (hM:Sh R c M):rkR M=k :=
 xW hM hk (fun r t h1 h2 h3=>h.low r t h1 h2 h3) fun r hr=>⟨p r,h.lt r hr,by have:=h.pos r hr; omega⟩
theorem bJt {R t:Nat} {x:Nat→Int} (ht:t<R):sgm R (fun j=>x j * ent (idM R) j t)=x t:=by
 rw [cL (g:=fun j=>(if j=t then 1 else 0) * x j) fun j hj=>by rw [oZ hj ht,Int.mul_comm],mV ht]
theorem aRp {R c e:Nat} {A:List (List Int)} (hA:Sh R c A) (hR:R≤15) (hc:c≤1000) (hB:Be e A) (he:dbl (tr R) e<1099511627776):∃ L,aMb R c (2 * gG R e+4) A L:=by
 obtain ⟨wf,k,e',f1,f2,f3,f4,f5,f6,f7,f8⟩:=aSa hA hR hB he
 have hB2:Sh (R - k) R (wf.U.drop k):=⟨by rw [List.length_drop,f4.u.len],fun v hv=>f4.u.row v (List.mem_of_mem_drop hv)⟩
 have hbe:Be e' (wf.U.drop k):=fun r t=>by rw [aAv]; exact f5.u _ _
 obtain ⟨wg,q,e2,g1,g2,g3,g4,g5,g6,g7,g8⟩:=aSa hB2 (by omega) hbe (Nat.lt_of_le_of_lt f6 he)
 have he1:e<1099511627776:=Nat.lt_of_le_of_lt (wF _ _) he
 have he2:e'<1099511627776:=Nat.lt_of_le_of_lt (Nat.le_trans (wF _ _) f6) he
 have hS:=aIt hA hR hc (hB.mem he1) f1 f4.m f4.u (by rw [f2]; exact f3) rfl (by rw [f2]; exact hbe.mem he2) (by rw [f2]; exact g1) (by rw [f2]; exact g4.m)
 rw [g2] at hS
 have hlen:(wg.M.take q).length=q:=by rw [List.length_take,g4.m.len]; omega
 obtain ⟨k1,p1,n1,n2⟩:=bMd f1 (Nat.zero_le _) (Nat.zero_le _) (Hn.start _ _ _)
 obtain ⟨k2,p2,n3,n4⟩:=bMd g1 (Nat.zero_le _) (Nat.zero_le _) (Hn.start _ _ _)
 obtain rfl:k1=k:=by rw [← n2.rank n1 f4.m]; exact f2
 obtain rfl:k2=q:=by rw [← n4.rank n3 g4.m]; exact g2
 have hker:∀ i,i<R - k1→∀ t,t<c→sgm R (fun j=>ent wg.M i j * ent A j t)=0:=fun i hi t ht=>by
  rw [cL (g:=fun j=>sgm (R - k1) fun i2=>ent wg.U i i2 * (ent wf.U (k1+i2) j * ent A j t)) fun j hj=>by
   rw [← g7 i j hi hj,← aYd]; exact cL fun i2 _=>by rw [aAv,Int.mul_assoc],aYg]
  refine nQ fun i2 h2=>?_
  rw [tE,f7 (k1+i2) t (by omega) ht,f8 (k1+i2) t (by omega) (by omega) ht,Int.mul_zero]
 have hK:bFt R c (R - k1) k2 A wg.M p2:=⟨n4,n3,fun i hi=>hker i (by omega),fun x hx=>by
  obtain ⟨a,a1,a2⟩:=InP.fo f1 (x:=fun _=>0) (y:=x) ⟨x,hx,fun t ht=>bJt ht⟩
  have a0:∀ j,j<k1→a j=0:=fun j hj=>Classical.byContradiction fun hne=>by
   obtain ⟨m,m1,m2,_,m4⟩:=n2.min n1 a1 ⟨j,hj,hne⟩
   have hp:=n2.pos m m1
   rcases Int.mul_eq_zero.1 m4.symm with e | e
   ·exact m2 e
   ·omega
  obtain ⟨a',a1',_⟩:=InP.fo g1 (x:=x) (y:=fun t=>sgm (R - k1) fun j=>a (k1+j) * ent (idM (R - k1)) j t) ⟨fun i=>a (k1+i),fun t ht=>by
   rw [← a2 t ht]
   have h1:=aCz k1 (fun j=>a j * ent wf.U j t) (R - k1)
   rw [show k1+(R - k1)=R by omega,show sgm k1 (fun j=>a j * ent wf.U j t)=0 from nQ fun j hj=>by rw [a0 j hj]; simp] at h1
   rw [h1,Int.zero_add]
   exact cL fun j _=>by show _ * ent (List.drop k1 wf.U) j t=_; rw [aAv],fun t ht=>rfl⟩
  exact ⟨a',a1'⟩⟩
 have hgd:∀ {v:List Int} {r:Nat},r<k2→(h:r<(wg.M.take k2).length)→(wg.M.take k2)[r]=v→∀ j,v.getD j 0=ent wg.M r j:=fun {v r} hr h e j=>by
  rw [List.getElem_take] at e
  unfold ent
  rw [List.getD_eq_getElem?_getD (l:=wg.M),List.getElem?_eq_getElem (by rw [g4.m.len]; omega),Option.getD_some,e]
 refine ⟨wg.M.take k2,by rw [hlen]; exact hS,by omega,fun v hv=>g4.m.row v (List.mem_of_mem_take hv),fun v hv z hz=>?_,fun v hv t ht=>?_⟩
 ·obtain ⟨i,hi,e1⟩:=List.getElem_of_mem hv
  obtain ⟨s,hs,e2'⟩:=tU hz
  have hs':s<R:=by rw [g4.m.row v (List.mem_of_mem_take hv)] at hs; exact hs
  rw [← e2',hgd (by omega) hi e1]
  exact aVh hK hB (by omega) (by omega) hs'
 ·obtain ⟨r,hr,e1⟩:=List.getElem_of_mem hv
  rw [cL fun j _=>by rw [hgd (by omega) hr e1 j]]
  exact hker r (by omega) t ht
end Go.Am
end

section
set_option linter.unusedVariables false
set_option linter.unusedSimpArgs false
open List (map_map mapM_map)
open Go Go.Am Go.Proofs
namespace Go.Am
def eD (d:Int):Nat:=if d=1 then 4 else if d=2 then 1024 else if d=3 then 65536 else 0
structure Gr (i:Nat) (c:List Cl):Prop where
 v:CxV c
 len:c.length≤7+i
 n0:(cY c 0).length≤3+i
 n1:(cY c 1).length≤3+i
 n2:(cY c 2).length≤2+i
 n3:(cY c 3).length≤1+i
 ids:∀ x∈c,1≤x.id∧x.id≤9+2 * (i:Int)
 bl:∀ x∈c,x.b.length≤48
 eb:∀ x∈c,Bnd (2 ^ eD x.dim) x.b
/-! The spaces -/
def grB (c:List Cl):Prop:=(c.Pairwise fun x y=>x.id<y.id)∧(∀ x∈c,0≤x.dim∧x.dim≤3)∧(∀ x∈c,x.b.Pairwise (fun x y=>x.1<y.1)∧∀ y∈x.b,y.2≠0)∧(∀ x∈c,∀ f∈x.b,∃ y∈c,y.id=f.1∧y.dim=x.dim - 1)∧(∀ x∈c,bY [] (bdL c x.b)=[])
 ∧ c.length≤7∧(cY c 0).length≤3∧(cY c 1).length≤3∧(cY c 2).length≤2∧(cY c 3).length≤1∧(∀ x∈c,1≤x.id∧x.id≤9)∧(∀ x∈c,x.b.length≤48)∧∀ x∈c,x.b=[]∨(1≤x.dim∧∀ y∈x.b,y.2.natAbs≤16)
instance (c : List Cl) : Decidable (grB c) := by unfold grB; infer_instance
theorem bSl {d:Int} (h1:1≤d) (h3:d≤3):4≤eD d:=by
 unfold eD
 split
 ·omega
 ·split
  ·omega
  ·rw [if_pos (by omega)]; omega
theorem bSd {c:List Cl} (h:grB c):Gr 0 c:=by
 obtain ⟨h1,h2,h3,h4,h5,h6,h7,h8,h9,h9',h10,h11,h12⟩:=h
 refine ⟨⟨h1,h2,h3,h4,fun x hx n=>?_⟩,h6,h7,h8,h9,h9',fun x hx=>by have:=h10 x hx; omega,h11,fun x hx=>?_⟩
 ·rw [← aOv]
  have:=(dA (bdL c x.b) [] Val.nil).2 n
  rw [h5 x hx,iV] at this; omega
 ·rcases h12 x hx with h | ⟨h,h'⟩
  ·rw [h]; exact Bnd.nil _
  ·exact Bnd.mono (M:=16) h' (Nat.le_trans (show 16≤2 ^ 4 by decide) (aDg (bSl h (h2 x hx).2)))
set_option maxRecDepth 100000 in
theorem bNh (j:Nat) (h:j<14):Gr 0 (spc j):=by
 refine bSd ?_
 revert j
 decide
/-! One more cell -/
theorem aLa {c:List Cl} {E:Nat} {cyc:List (List (Int × Int))} {xs:List Int} {S:Int→Prop} {W:Int→Int→Int} (hc:∀ y∈cyc,Val y∧Bnd (2 ^ E) y∧(∀ f∈y,S f.1)∧∀ n,bJ (W n) y=0) :
  ∀ i,i≤cyc.length→Val (gB cyc xs i)∧Bnd (i * (2 ^ 2 * 2 ^ E)) (gB cyc xs i)∧(∀ f∈gB cyc xs i,S f.1)∧∀ n,bJ (W n) (gB cyc xs i)=0
 | 0,_=>⟨Val.nil,Bnd.nil _,(fun f hf=>absurd hf List.not_mem_nil),fun n=>rfl⟩
 | i+1,hi=>by
  obtain ⟨h1,h2,h3,h4⟩:=aLa (c:=c) (xs:=xs) hc i (by omega)
  have hm:cyc.getD i []∈cyc:=by rw [List.getD_eq_getElem?_getD,List.getElem?_eq_getElem (by omega)]; exact List.getElem_mem _
  obtain ⟨y1,y2,y3,y4⟩:=hc _ hm
  refine ⟨(yF h1 y1 _).1,?_,aEa h1 y1 h3 y3,fun n=>?_⟩
  ·rw [Nat.succ_mul]
   exact bBf h1 y1 h2 y2 (aHw _).1
  ·show bJ (W n) (bY (gB cyc xs i) (mulR _ (cyc.getD i [])))=0
   rw [kN,kM,h4,y4]; simp
theorem bPe {c:List Cl} {x0:Int} (h:Inc c):∀ x∈c,x.id<gId c x0:=fun x hx=>by
 unfold gId
 cases e:c.getLast? with
 | none=>rw [List.getLast?_eq_none_iff] at e; rw [e] at hx; cases hx
 | some y =>
  obtain ⟨ys,hy⟩:=List.getLast?_eq_some_iff.1 e
  have:x.id≤y.id:=by
   rw [hy] at hx h
   rcases List.mem_append.1 hx with hx | hx
   ·exact Int.le_of_lt ((List.pairwise_append.1 h).2.2 x hx y (List.mem_singleton_self _))
   ·rw [List.mem_singleton.1 hx]; exact Int.le_refl _
  simp only; omega
theorem bPd {c:List Cl} {x0 m:Int} (h:∀ x∈c,1≤x.id∧x.id≤m) (hm:0≤m):1≤gId c x0∧gId c x0≤m+2:=by
 unfold gId
 cases e:c.getLast? with
 | none=>simp only; omega
 | some y =>
  have:=h y (List.mem_of_getLast? e)
  simp only; omega
theorem grow {i E:Nat} {c:List Cl} {x0 x1 x2 x3:Int} {cyc:List (List (Int × Int))} (g:Gr i c) (hc:∀ y∈cyc,Val y∧Bnd (2 ^ E) y∧(∀ f∈y,f.1∈cY c (mG x0 - 1))∧∀ n,bJ (fun m=>cf n (bOf c m)) y=0) (hl:∀ y∈cyc,y.length≤16)
  (hE:cyc=[]∨E+4≤eD (mG x0)):Gr (i+1) (grown c x0 x1 x2 x3 cyc):=by
 obtain ⟨b1,b2,b3,b4⟩:=aLa (c:=c) (xs:=[x0,x1,x2,x3]) hc (min 3 cyc.length) (by omega)
 have b5:(gB cyc [x0,x1,x2,x3] (min 3 cyc.length)).length≤48:=by
  have:=(bCs (e:=E) (xs:=[x0,x1,x2,x3]) (fun y hy=>(hc y hy).2.1) hl (min 3 cyc.length) (by omega) (by omega)).2
  omega
 have b6:Bnd (2 ^ eD (mG x0)) (gB cyc [x0,x1,x2,x3] (min 3 cyc.length)):=by
  rcases hE with h | h
  ·subst h; exact Bnd.nil _
  ·refine b2.mono (Nat.le_trans ?_ (aDg h))
   rw [oQ,show E+4=2+(2+E) by omega]
   exact oR (Nat.le_trans (show min 3 cyc.length≤3 by omega) (by decide))
 unfold grown
 generalize gB cyc [x0,x1,x2,x3] (min 3 cyc.length)=b at *
 have hgt:=bPe (x0:=x0) g.v.inc
 have hle:=bPd (x0:=x0) g.ids (by omega)
 have hd:0≤mG x0∧mG x0≤3:=by unfold mG; omega
 generalize gId c x0=id at *
 generalize mG x0=d at *
 have hmem:∀ n k,n∈cY c k→n≠id:=fun n k hn=>by
  obtain ⟨y,hy,_,e⟩:=nY.1 hn
  have:=hgt y hy; omega
 have hall:∀ (P:Cl→Prop),(∀ x∈c,P x)→P ⟨id,d,b⟩→∀ x∈c++[⟨id,d,b⟩],P x:=fun P h1 h2 x hx=>by
  rcases List.mem_append.1 hx with hx | hx
  ·exact h1 x hx
  ·rw [List.mem_singleton.1 hx]; exact h2
 have hcnt:∀ k m,(cY c k).length≤m→(cY (c++[⟨id,d,b⟩]) k).length≤m+1:=fun k m h=>by
  rw [bCl,List.length_append]; split <;> simp <;> omega
 refine ⟨⟨?_,hall _ g.v.dim hd,hall _ g.v.val b1,hall _ (fun x hx f hf=>?_) fun f hf=>?_,hall _ (fun x hx n=>?_) fun n=>?_⟩,?_,hcnt 0 _ g.n0,hcnt 1 _ g.n1,hcnt 2 _ g.n2,hcnt 3 _ g.n3,hall _ (fun x hx=>?_) ?_,hall _ g.bl b5,hall _ g.eb b6⟩
 ·refine List.pairwise_append.2 ⟨g.v.inc,List.pairwise_singleton _ _,fun x hx y hy=>?_⟩
  rw [List.mem_singleton.1 hy]; exact hgt x hx
 ·obtain ⟨y,hy,e⟩:=g.v.face x hx f hf
  exact ⟨y,List.mem_append_left _ hy,e⟩
 ·obtain ⟨y,hy,e1,e2⟩:=nY.1 (b3 f hf)
  exact ⟨y,List.mem_append_left _ hy,e2,e1⟩
 ·rw [dP fun f hf=>?_]
  ·exact g.v.cyc x hx n
  ·obtain ⟨y,hy,e,_⟩:=g.v.face x hx f hf
   rw [aSp]
   have:=hgt y hy
   show f.1≠id; omega
 ·rw [dP fun f hf=>?_]
  ·exact b4 n
  ·rw [aSp]; exact hmem _ _ (b3 f hf)
 ·rw [List.length_append]; have:=g.len; simp; omega
 ·have:=g.ids x hx; omega
 ·show 1≤id∧id≤_; omega
/-! The cycles -/
theorem tr6:∀ R,R≤6→tr R≤21:=by
 intro R h
 have:∀ R,R<7→tr R≤21:=by decide
 exact this R (by omega)
theorem tr5:∀ R,R≤5→tr R≤15:=by
 intro R h
 have:∀ R,R<6→tr R≤15:=by decide
 exact this R (by omega)
theorem bPn {E:Nat} {c:List Cl} {k:Int} {L:List (List Int)} (hv:CxV c) (hL:aMb (cY c k).length (cY c (k - 1)).length E (pR c k) L) :
  ∀ y∈L.map fun v=>(chX c k v).1,(Val y∧Bnd (2 ^ E) y∧(∀ f∈y,f.1∈cY c k)∧∀ n,bJ (fun m=>cf n (bOf c m)) y=0)∧y.length≤(cY c k).length:=fun y hy=>by
 obtain ⟨v,hvL,rfl⟩:=List.mem_map.1 hy
 have hr:=hL.row v hvL
 have e:(chX c k v).1=bY [] ((cY c k).zip v):=by unfold chX; rw [if_pos hr]
 rw [e]
 obtain ⟨c1,c2,c3,c4,_⟩:=bEb (hv.inc.ids k) (hL.be v hvL)
 exact ⟨⟨c1,c2,c3,hv.cycle hr (hL.ker v hvL)⟩,c4⟩
theorem bPo {i:Nat} {c:List Cl} (g:Gr i c) (hi:i≤3) (d:Int) (hd:0≤d∧d≤3):∃ cyc E,Spec Tryz.prog 87 [aP c,.i .i64 (d - 1)] (lG cyc)∧(cyc=[]∨E+4≤eD d)∧E+20<4398046511104∧cyc.length≤100 ∧
  ∀ y∈cyc,(Val y∧Bnd (2 ^ E) y∧(∀ f∈y,f.1∈cY c (d - 1))∧∀ n,bJ (fun m=>cf n (bOf c m)) y=0)∧y.length≤16:=by
 have hlen:=g.len
 have hbl:∀ x∈c,x.b.length≤1000000:=fun x hx=>Nat.le_trans (g.bl x hx) (by decide)
 have fin:∀ (k:Int) (E:Nat) L,0≤k→k≤2→(cY c k).length≤16→E+20<4398046511104→E+4≤eD (k+1)→aMb (cY c k).length (cY c (k - 1)).length E (pR c k) L→∃ cyc E,Spec Tryz.prog 87 [aP c,.i .i64 k] (lG cyc)∧(cyc=[]∨E+4≤eD (k+1))∧E+20<4398046511104∧cyc.length≤100 ∧
   ∀ y∈cyc,(Val y∧Bnd (2 ^ E) y∧(∀ f∈y,f.1∈cY c k)∧∀ n,bJ (fun m=>cf n (bOf c m)) y=0)∧y.length≤16:=fun k E L h1 h2 h3 h4 h5 hL=>by
  have hc:=bPn g.v hL
  refine ⟨_,E,aUa c k L (by omega) (by omega) hbl hL h4,.inr h5,h4,?_,fun y hy=>⟨(hc y hy).1,Nat.le_trans (hc y hy).2 h3⟩⟩
  rw [List.length_map]
  have:=hL.len; omega
 have hd':d=0∨d=1∨d=2∨d=3:=by omega
 rcases hd' with rfl | rfl | rfl | rfl
 ·exact ⟨[],0,aNg c _ (by decide),.inl rfl,by decide,by simp,fun y hy=>by cases hy⟩
 ·have h0:(cY c (0 - 1)).length=0:=by
   rw [List.length_eq_zero_iff]
   refine List.eq_nil_iff_forall_not_mem.2 fun n hn=>?_
   obtain ⟨x,hx,hdx,_⟩:=nY.1 hn
   have:=(g.v.dim x hx).1; omega
  have hs:=yC c 0
  rw [h0] at hs
  have hl:=left_id hs (by have:=g.n0; omega)
  refine fin 0 0 _ (by decide) (by decide) (by have:=g.n0; omega) (by decide) (by decide) (by rw [h0]; exact hl)
 ·have hb:Be 4 (pR c 1):=aRg g.v.inc fun x hx hdx=>by have:=g.eb x hx; rw [hdx] at this; exact this
  have hn:=g.n1
  have h1:=aLh (e:=4) (tr6 (cY c 1).length (by omega))
  have h2:=pB 21 4
  rw [show 2 ^ 21 * (4+4)=16777216 by decide] at h2
  obtain ⟨L,hL⟩:=aRp (yC c 1) (by omega) (by have:=lD c (1 - 1); omega) hb (by omega)
  have h3:=bMb (b:=4) (show (cY c 1).length≤6 by omega)
  rw [show gG 6 4=324 from rfl] at h3
  exact fin 1 _ L (by decide) (by decide) (by omega) (by omega) (by show _≤1024; omega) hL
 ·obtain ⟨E2,hE2,hE3⟩:∃ E,E=eD 2∧E=1024:=⟨eD 2,rfl,rfl⟩
  have hb:Be E2 (pR c 2):=aRg g.v.inc fun x hx hdx=>by have:=g.eb x hx; rw [hdx,← hE2] at this; exact this
  have hn:=g.n2
  have h1:=aLh (e:=E2) (tr5 (cY c 2).length (by omega))
  have h2:=pB 15 E2
  have h3:2 ^ 15 * (E2+4)=33685504:=by rw [hE3]
  rw [h3] at h2
  obtain ⟨L,hL⟩:=aRp (yC c 2) (by omega) (by have:=lD c (2 - 1); omega) hb (by omega)
  have h4:=bMb (b:=E2) (show (cY c 2).length≤5 by omega)
  rw [show gG 5 E2=31780 by rw [hE3]; rfl] at h4
  exact fin 2 _ L (by decide) (by decide) (by omega) (by omega) (by show _≤65536; omega) hL
/-! The draw -/
abbrev Q4:=Int × Int × Int × Int
def Q4.ok (q:Q4):Prop:=(-128≤q.1∧q.1≤127)∧(-128≤q.2.1∧q.2.1≤127)∧(-128≤q.2.2.1∧q.2.2.1≤127)∧(-128≤q.2.2.2∧q.2.2.2≤127)
def sS (q:Q4):List D:=[.i .i8 q.1,.i .i8 q.2.1,.i .i8 q.2.2.1,.i .i8 q.2.2.2]
def sR (s:Int) (l:List Q4):D:=.ag [.i .u8 s,.sl (l.map sS)]
theorem bCo {i:Nat} {c:List Cl} (g:Gr i c) (hi:i≤3) (q:Q4) (hq:q.ok):∃ c',Spec Tryz.prog 36 [aP c,.ag (sS q)] (aP c')∧Gr (i+1) c':=by
 obtain ⟨x0,x1,x2,x3⟩:=q
 obtain ⟨cyc,E,h1,h2,h3,h4,h5⟩:=bPo g hi (mG x0) (by unfold mG; omega)
 have hlen:=g.len
 exact ⟨_,aZi (e:=E) c x0 x1 x2 x3 cyc hq.1 hq.2.1 hq.2.2.1 hq.2.2.2 (by omega) (fun y hy=>by have:=g.ids y hy; omega) h1 h4 (fun y hy=>(h5 y hy).1.2.1) (fun y hy=>(h5 y hy).2) h3,
  grow g (fun y hy=>(h5 y hy).1) (fun y hy=>(h5 y hy).2) h2⟩
inductive MkR:List Q4→List Cl→List Cl→Prop
 | nil (c:List Cl):MkR [] c c
 | cons (q:Q4) (l:List Q4) (c c1 c2:List Cl) (h:Spec Tryz.prog 36 [aP c,.ag (sS q)] (aP c1)) (h2:MkR l c1 c2):MkR (q::l) c c2
theorem MkR.end {c c2:List Cl} (h:MkR [] c c2):c2=c:=by cases h; rfl
theorem MkR.next {q:Q4} {l:List Q4} {c c2:List Cl} (h:MkR (q::l) c c2):∃ c1,Spec Tryz.prog 36 [aP c,.ag (sS q)] (aP c1)∧MkR l c1 c2:=by cases h with | cons _ _ _ c1 _ h h2=>exact ⟨c1,h,h2⟩
theorem bLy:∀ (l:List Q4) (i:Nat) (c:List Cl),Gr i c→i+l.length≤4→(∀ q∈l,q.ok)→∃ c',MkR l c c'∧Gr (i+l.length) c'
 | [],i,c,g,_,_=>⟨c,.nil c,g⟩
 | q::l,i,c,g,hi,hq=>by
  simp only [List.length_cons] at hi
  obtain ⟨c1,h1,h2⟩:=bCo g (by omega) q (hq q (List.mem_cons_self ..))
  obtain ⟨c2,h3,h4⟩:=bLy l (i+1) c1 h2 (by omega) fun y hy=>hq y (List.mem_cons_of_mem _ hy)
  exact ⟨c2,.cons q l c c1 c2 h1 h3,by rw [List.length_cons,show i+(l.length+1)=i+1+l.length by omega]; exact h4⟩
set_option maxHeartbeats 2000000 in
set_option maxRecDepth 10000 in
theorem aZh (s:Int) (l:List Q4) (c0 c:List Cl) (hl:l.length≤9223372036854775807) (hS:Spec Tryz.prog 35 [.i .u8 s] (aP c0)) (hm:MkR (l.take 4) c0 c):Spec Tryz.prog 9 [sR s l] (aP c):=by
 refine aX (N:=27) aF Tryz.func9 rfl rfl rfl (by kernel_rfl) (by kernel_rfl) (by simp) ?_
 have hq4:∀ q:Q4,sS q=[.i .i8 q.1,.i .i8 q.2.1,.i .i8 q.2.2.1,.i .i8 q.2.2.2]:=fun q=>rfl
 simp [-map_map,-mapM_map,↓KW,sR]
 refine aA (ds:=[.i .u8 s]) (by rfl) hS ?_
 simp [-map_map,-mapM_map,↓KW,aP]
 refine aU (fun y:Nat × List Cl=>y.1≤min 4 l.length∧MkR ((l.take 4).drop y.1) y.2 c) (fun y=>StL [(1,.ptr 1 0),(3,.d (aP y.2)),(4,.d (.i .i64 (y.1:Int)))] none [.cells 24 [.d (.i .u8 s),.d (.sl (l.map sS))]]) (fun y=>4 - y.1) (0,c0) ⟨Nat.zero_le _,hm⟩ ?_ ?_
 ·refine bB [1] (by simp) ?_ ?_ <;> simp [-map_map,upd,aT,Γ0,aP]
 ·rintro ⟨i,d⟩ ⟨hi,hm⟩
  simp only at hi hm ⊢
  by_cases hgo:i<l.length∧i<4
  ·have g1:=hgo.1
   have g2:=hgo.2
   have q1:(i:Int)<l.length:=by omega
   have q2:(i:Int)<4:=by omega
   have hx:l[i]? = some l[i]:=List.getElem?_eq_getElem g1
   have hd:(l.take 4).drop i=l[i]::(l.take 4).drop (i+1):=by
    rw [List.drop_eq_getElem_cons (by rw [List.length_take]; omega),List.getElem_take]
   rw [hd] at hm
   have hw:IntKind.i64.wrap ((i:Int)+1)=(i:Int)+1:=aS (by omega) (by omega)
   refine (hm.next).elim fun d1 hh=>?_
   have h1:=hh.1
   have h2:=hh.2
   clear hh hd hm
   have hx':∀ h:i<l.length,l[i]'h=l[i]:=fun h=>rfl
   refine (show ∃ q,l[i]=q from ⟨_,rfl⟩).elim fun q hq=>?_
   rw [hq] at hx h1
   have hgy':∀ h:i<l.length,l[i]'h=q:=fun h=>hq
   have e4:=hq4 q
   rw [e4] at h1
   simp [-map_map,-mapM_map,↓KW,aP,g1,g2,q1,q2,hx,hgy',e4]
   refine aA (ds:=[aP d,.ag [.i .i8 q.1,.i .i8 q.2.1,.i .i8 q.2.2.1,.i .i8 q.2.2.2]]) (by rfl) h1 ?_
   simp [-map_map,-mapM_map,↓KW,aP,hw]
   refine aI (i+1,d1) ⟨by simp only; omega,h2⟩ (by simp only; omega) (bB [1] (by simp) ?_ ?_) <;> simp [-map_map,upd,aT,Γ0,aP]
  ·have hd:(l.take 4).drop i=[]:=List.drop_eq_nil_of_le (by rw [List.length_take]; omega)
   rw [hd] at hm
   have he:=hm.end
   by_cases g1:i<l.length
   ·have q1:(i:Int)<l.length:=by omega
    have q2:¬ (i:Int)<4:=by omega
    simp [-map_map,-mapM_map,↓KW,aP,q1,q2,he]
   ·have q1:¬ (i:Int)<l.length:=by omega
    simp [-map_map,-mapM_map,↓KW,aP,q1,he]
theorem aXz (s:Int) (h:0≤s∧s≤255):∃ j,j<14∧Spec Tryz.prog 35 [.i .u8 s] (aP (spc j)):=by
 have h1:=Int.tmod_lt_of_pos s (b:=14) (by decide)
 have h2:0≤s.tmod 14:=Int.tmod_nonneg _ h.1
 have h3:s.tmod 14=0∨s.tmod 14=1∨s.tmod 14=2∨s.tmod 14=3∨s.tmod 14=4∨s.tmod 14=5∨s.tmod 14=6∨s.tmod 14=7∨s.tmod 14=8∨s.tmod 14=9∨s.tmod 14=10∨s.tmod 14=11∨s.tmod 14=12∨s.tmod 14=13:=by omega
 rcases h3 with e | e | e | e | e | e | e | e | e | e | e | e | e | e
 ·exact ⟨0,by decide,bNr s e⟩
 ·exact ⟨1,by decide,bNq s e⟩
 ·exact ⟨2,by decide,bNp s e⟩
 ·exact ⟨3,by decide,bNo s e⟩
 ·exact ⟨4,by decide,bNn s e⟩
 ·exact ⟨5,by decide,bNm s e⟩
 ·exact ⟨6,by decide,bNl s e⟩
 ·exact ⟨7,by decide,bNk s e⟩
 ·exact ⟨8,by decide,bNj s e⟩
 ·exact ⟨9,by decide,bNi s e⟩
 ·exact ⟨10,by decide,bGx s e⟩
 ·exact ⟨11,by decide,bGw s e⟩
 ·exact ⟨12,by decide,bGv s e⟩
 ·exact ⟨13,by decide,bGu s e⟩
structure MdX (c:List Cl):Prop where
 v:CxV c
 len:c.length≤11
 ids:∀ x∈c,1≤x.id∧x.id≤17
 sz:∃ F,F=549755944960∧SzX F c
 n1:(cY c 1).length≤7
 n2:(cY c 2).length≤6
 n3:(cY c 3).length≤5
 eb:∀ x∈c,Bnd (2 ^ eD x.dim) x.b
theorem bSk (d:Int):eD d≤549755944960:=by
 unfold eD
 split
 ·decide
 ·split
  ·decide
  ·split <;> decide
theorem bIz (s:Int) (l:List Q4) (hs:0≤s∧s≤255) (hq:∀ q∈l,q.ok) (hl:l.length≤9223372036854775807):∃ c,Spec Tryz.prog 9 [sR s l] (aP c)∧MdX c:=by
 obtain ⟨j,hj,h1⟩:=aXz s hs
 have h4:(l.take 4).length≤4:=by rw [List.length_take]; omega
 obtain ⟨c,h2,g⟩:=bLy (l.take 4) 0 (spc j) (bNh j hj) (by omega) fun q h=>hq q (List.mem_of_mem_take h)
 have hlen:=g.len
 obtain ⟨F,hF⟩:∃ F,F=549755944960:=⟨_,rfl⟩
 have hFe:∀ d,eD d≤F:=fun d=>by rw [hF]; exact bSk d
 exact ⟨c,aZh s l _ c hl h1 h2,g.v,by omega,fun x hx=>by have:=g.ids x hx; omega,⟨F,hF,by omega,fun x hx=>Nat.le_trans (g.bl x hx) (by decide),fun x hx=>(g.eb x hx).pw (hFe _)⟩,by have:=g.n1; omega,by have:=g.n2; omega,by have:=g.n3; omega,g.eb⟩
end Go.Am
end

section
set_option linter.unusedVariables false
set_option linter.unusedSimpArgs false
open Go Go.Am Go.Proofs
namespace Go.Am
open Go.ChangeShapes Go.WideShapes Go.ChangeAt Go.RowKit
theorem bUm:Tryz.prog.cellsOf 24=2:=by kernel_rfl
theorem zU8:Tryz.prog.cellsOf 5=1:=by kernel_rfl
theorem zI8:Tryz.prog.cellsOf 57=1:=by kernel_rfl
theorem zA4:Tryz.prog.cellsOf 80=4:=by kernel_rfl
theorem zL4:Tryz.prog.cellsOf 22=1:=by kernel_rfl
theorem aEz {n:Int} (h:(Lit.int .i8 n).wf=true):-128≤n∧n≤127:=by
 have hmin:IntKind.i8.min=-128:=rfl
 have hmax:IntKind.i8.max=127:=rfl
 simp only [Lit.wf,Bool.and_eq_true,decide_eq_true_eq] at h
 omega
theorem bMu {n:Int} (h:(Lit.int .u8 n).wf=true):0≤n∧n≤255:=by
 have hmin:IntKind.u8.min=0:=rfl
 have hmax:IntKind.u8.max=255:=rfl
 simp only [Lit.wf,Bool.and_eq_true,decide_eq_true_eq] at h
 omega
theorem bRt {α:Type} {l:List α} (h:l.length=4):∃ a b c d,l=[a,b,c,d]:=by
 match l,h with
 | [a,b,c,d],_=>exact ⟨a,b,c,d,rfl⟩
theorem bRu {α:Type} {l:List α} (h:l.length=2):∃ a b,l=[a,b]:=by
 match l,h with
 | [a,b],_=>exact ⟨a,b,rfl⟩
section
variable {H:Type} {enc:TypeId × Value→H} {w:World} {sp:Nat→Bool} {held:Bool}
set_option maxRecDepth 100000 in
theorem bQx {cs:List Value} {x:DataW H × List MemPlace} {fuel:Nat} (h:DataW.trod enc Tryz.prog w 0 sp held fuel 80 cs=some x) :
  ∃ y:Q4,y.ok∧(sS y).length=Tryz.prog.cellsOf 80∧∀ (k:Nat) (c:D) (v:Value),(sS y)[k]? = some c→cs[k]? = some v→VD (fun b=>b<w.heap.size) w c v:=by
 obtain ⟨xs,m,_,_,hcl,hxl,hx⟩:=DataW.trod_array Tryz.underlying80 h
 rw [zA4] at hcl
 obtain ⟨a,b,c,d,rfl⟩:=bRt hcl
 have h0:=hx 0 (by decide)
 have h1:=hx 1 (by decide)
 have h2:=hx 2 (by decide)
 have h3:=hx 3 (by decide)
 rw [zI8,List.getElem?_eq_getElem (by omega)] at h0 h1 h2 h3
 simp only [Nat.mul_one,Nat.zero_mul,Nat.one_mul,List.drop_zero,List.drop_succ_cons,List.take_succ_cons,List.take_zero] at h0 h1 h2 h3
 obtain ⟨i0,e0,_,w0⟩:=DataW.trod_int Tryz.underlying57 h0
 obtain ⟨i1,e1,_,w1⟩:=DataW.trod_int Tryz.underlying57 h1
 obtain ⟨i2,e2,_,w2⟩:=DataW.trod_int Tryz.underlying57 h2
 obtain ⟨i3,e3,_,w3⟩:=DataW.trod_int Tryz.underlying57 h3
 injection e0 with e0; injection e1 with e1; injection e2 with e2; injection e3 with e3
 subst e0; subst e1; subst e2; subst e3
 refine ⟨(i0,i1,i2,i3),⟨aEz w0,aEz w1,aEz w2,aEz w3⟩,by rw [zA4]; rfl,fun k c v hk hv=>?_⟩
 rcases k with _ | _ | _ | _ | k
 ·simp [sS] at hk hv; subst hk; subst hv; exact .i _ _
 ·simp [sS] at hk hv; subst hk; subst hv; exact .i _ _
 ·simp [sS] at hk hv; subst hk; subst hv; exact .i _ _
 ·simp [sS] at hk hv; subst hk; subst hv; exact .i _ _
 ·simp [sS] at hk
theorem aZy {v:Value} {d:DataW H} {ps:List MemPlace} {cs:Array Value} (hv:v=.agg cs) (h:DataW.Trod enc Tryz.prog w 0 sp held 24 v d ps) :
  ∃ (s:Int) (l:List Q4),VD (fun b=>b<w.heap.size) w (sR s l) v∧(0≤s∧s≤255)∧(∀ y∈l,y.ok)∧l.length≤9223372036854775807:=by
 subst hv
 obtain ⟨fuel,hf⟩:=h
 obtain ⟨xs,n,_,_,hl,hlen,hfs⟩:=DataW.trod_struct Tryz.underlying24 hf
 rw [bUm] at hl
 have h0:=hfs 0 { name := "S",type:=5,offset:=0,embedded:=false,tag := "",pkgPath := "",byteOffset:=0 } rfl
 have h1:=hfs 1 { name := "L",type:=22,offset:=1,embedded:=false,tag := "",pkgPath := "",byteOffset:=8 } rfl
 obtain ⟨x0,hx0⟩:∃ x,xs[0]? = some x:=⟨_,List.getElem?_eq_getElem (by rw [hlen]; decide)⟩
 obtain ⟨x1,hx1⟩:∃ x,xs[1]? = some x:=⟨_,List.getElem?_eq_getElem (by rw [hlen]; decide)⟩
 rw [hx0] at h0; rw [hx1] at h1
 simp only [Value.cells] at h0 h1 hl
 obtain ⟨cs⟩:=cs
 simp only at h0 h1 hl
 obtain ⟨a,b,rfl⟩:=bRu hl
 simp only [zU8,zL4,List.drop_zero,List.drop_succ_cons,List.take_succ_cons,List.take_zero] at h0 h1
 obtain ⟨i,e1,_,w1⟩:=DataW.trod_int Tryz.underlying5 h0
 obtain ⟨u,l,e2,hu,hg,hL⟩:=aUn Tryz.underlying22 (by rw [zA4]; decide) sS Q4.ok (fun fuel cs x h=>bQx h) h1
 injection e1 with e1; injection e2 with e2
 subst e1; subst e2
 refine ⟨i,l,.ag _ _ rfl fun k d v hk hv=>?_,bMu w1,hg,hL⟩
 rcases k with _ | _ | k
 ·simp at hk hv; subst hk; subst hv; exact .i _ _
 ·simp at hk hv; subst hk; subst hv; exact hu
 ·simp at hk
end
end Go.Am
namespace Go.Proofs.YthjopmmgepejkaaGreat
theorem bVx:ownKnob Tryz.prog.godebug=none:=by kernel_rfl
theorem bRw:laidOutB Tryz.prog=true:=by kernel_rfl
end Go.Proofs.YthjopmmgepejkaaGreat
end

section
set_option linter.unusedVariables false
set_option linter.unusedSimpArgs false
namespace Go.Am
variable {P:Program}
theorem aJz (f:FuncId) (cs:List Operand) (Γ:Nat→AV) (n:Nat):nev P (.makeFunc (.func f) #[] cs.toArray) Γ n=some (.fn f (cs.map (oev Γ)),none):=by
 simp [nev,eO]
theorem bAj (t : TypeId) (x i : Operand) (Γ : Nat → AV) (n : Nat) : nev P (.index t x i) Γ n = eO ((vI P t).bind fun p => (tsz P p.2).bind fun sz => (cW P p.2).bind fun ag => (gN (oev Γ i)).bind fun k => (aCm (oev Γ x)).bind fun cs =>
      if 0≤k∧k<p.1 then (if ag then (if k.toNat * sz+sz≤cs.length then some (.ag ((cs.drop (k.toNat * sz)).take sz)) else none) else cs[k.toNat * sz]?) else none):=rfl
theorem bOz (f:FuncId) (cs:List D):inj (.fn f cs)=.d (.fn f cs):=rfl
theorem bJp (f:FuncId) (cs:List D):aT (.fn f cs)=.d (.fn f cs):=rfl
theorem bJo (cs:List D):aT (.pt cs)=.fp cs:=rfl
theorem bCh (v:Value):aT (.lit v)=.d (.lit v):=rfl
theorem bBq (H:Nat→Option HO) (avs:List AV) (f:FuncId) (cs:List D):bV H avs (.fn f cs)=gH H avs:=rfl
theorem bBp (H:Nat→Option HO) (avs:List AV) (cs:List D):bV H avs (.pt cs)=gH H avs:=rfl
theorem aPc (f:FuncId) (cs:List AV):jC (.fn f cs)=some (f,cs):=rfl
theorem aLo (f:FuncId) (cs:List D):jC (.d (.fn f cs))=some (f,cs.map aT):=rfl
theorem aLn (f:FuncId):jC (.d (.lit (.func (.func f) #[] #[])))=some (f,[]):=rfl
theorem bJw (H:Nat→Option HO) (n:Nat) (f:FuncId) (cs:List AV):frz H (n+1) (.fn f cs)=(cs.mapM (frz H n)).map (.fn f):=rfl
theorem bJv (H:Nat→Option HO) (n:Nat) (cs:List D):frz H (n+1) (.fp cs)=some (.pt cs):=rfl
theorem bCu (H : Nat → Option HO) (n : Nat) (id off : Nat) : frz H (n + 1) (.ptr id off) = match H id with
      | some (.cells _ cs)=>if off≤cs.length then ((cs.drop off).mapM (frz H n)).map .pt else none
      | _=>none:=rfl
theorem bGm (H:Nat→Option HO) (n:Nat) (f:FuncId) (cs:List AV):vis H (n+1) (.fn f cs)=cs.flatMap (vis H n):=rfl
theorem bGl (H:Nat→Option HO) (n:Nat) (cs:List D):vis H (n+1) (.fp cs)=[]:=rfl
theorem aXd (H : Nat → Option HO) (n : Nat) (id off : Nat) : vis H (n + 1) (.ptr id off) = match H id with
      | some (.cells _ cs)=>id::(cs.drop off).flatMap (vis H n)
      | _=>[]:=rfl
theorem aWf (f:FuncId) (cs:List AV):eK (.fn f cs)=some [.fn f cs]:=rfl
theorem aPa (f:FuncId) (cs:List D):eK (.d (.fn f cs))=some [.d (.fn f cs)]:=rfl
theorem aYl (l:List Nat) (f:FuncId) (cs:List AV):jK l (.fn f cs)=.fn f (cs.map (aFn l)):=rfl
section
variable (dst:Option Tmp) (ty:TypeId) (pos:String) (after:Array Edge) (guard:Option (Nat × Bool)) (σ:St) (con:List Nat) (k:St→List Nat→Prop)
theorem fO (f:Fn) (x y:Array Operand) (d:Dm ((⟨dst,.makeFunc f x y,ty,pos,after,guard⟩:Oper),k)):O1d P ⟨dst,.makeFunc f x y,ty,pos,after,guard⟩ σ con k d=dM (nev P (.makeFunc f x y) σ.Γ σ.n) (fun p=>k ⟨bO σ.Γ dst p.1,iI σ.H σ.n p.2,cnt p.2 σ.n⟩ con) .mk:=cN rfl rfl
theorem jV (t:TypeId) (x y:Operand) (d:Dm ((⟨dst,.index t x y,ty,pos,after,guard⟩:Oper),k)):O1d P ⟨dst,.index t x y,ty,pos,after,guard⟩ σ con k d=dM (nev P (.index t x y) σ.Γ σ.n) (fun p=>k ⟨bO σ.Γ dst p.1,iI σ.H σ.n p.2,cnt p.2 σ.n⟩ con) .mk:=cN rfl rfl
def bFv (P:Program) (c:Option (FuncId × List AV)) (avs:List AV) (H:Nat→Option HO) (k:List AV→D→Prop) (_:Dm k):Prop:=match c with
 | some (f,cs)=>∃ ds r,gO H (avs++cs)=some ds∧Spec P f ds r∧k (avs++cs) r
 | none=>False
theorem xB {f:FuncId} {cs avs:List AV} {H:Nat→Option HO} {k:List AV→D→Prop} {d:Dm k} {ds:List D} {r:D} (h1:gO H (avs++cs)=some ds) (h2:Spec P f ds r) (h3:k (avs++cs) r):bFv P (some (f,cs)) avs H k d:=⟨ds,r,h1,h2,h3⟩
theorem jW (t:Tmp) (args:List Operand) (ts:Array TypeId) (d:Dm ((⟨dst,.call ⟨.value (.tmp t),args.toArray,ts⟩,ty,pos,after,guard⟩:Oper),k)):O1d P ⟨dst,.call ⟨.value (.tmp t),args.toArray,ts⟩,ty,pos,after,guard⟩ σ con k d =
  bFv P (jC (σ.Γ t)) (args.map (oev σ.Γ)) σ.H (fun avs r=>k ⟨bO σ.Γ dst (inj r),kill (bV σ.H avs r) σ.H,σ.n⟩ (bV σ.H avs r++con)) .mk:=by
 unfold O1d; simp only [O1,bFv]
 cases jC (σ.Γ t) with
 | none=>rfl
 | some p=>obtain ⟨f,cs⟩:=p; rfl
end
attribute [simp] aJz bAj bOz bJp bJo bCh aPc aLo aLn bJw bJv bCu bGm bGl aXd aWf aPa aYl bBq bBp
end Go.Am
end

section
set_option linter.unusedVariables false
set_option linter.unusedSimpArgs false
open List (map_map mapM_map)
open Go Go.Am Go.Proofs
namespace Go.Am
@[simp] theorem bUk (k:IntKind) (n:Int):wX (.i k n)=true:=rfl
@[simp] theorem bUl (x:Bool):wX (.b x)=true:=rfl
theorem bVu {t:Nat}:jF .shr .u64 (t:Int) 1=some (.i .u64 ((t / 2:Nat):Int)):=by
 have:min 1 IntKind.u64.bits=1:=rfl
 simp only [jF]
 rw [if_neg (by decide),show (1:Int).toNat=1 from rfl,this,Int.fdiv_eq_ediv_of_nonneg _ (by decide)]
 congr 2
theorem sW (f:FuncId):eK (.d (.lit (.func (.func f) #[] #[])))=some [.d (.lit (.func (.func f) #[] #[]))]:=rfl
theorem yB (Γ:Nat→AV) (f:FuncId):oev Γ (.func f)=.d (.lit (.func (.func f) #[] #[])):=rfl
theorem aQt (x:Cl) (n:Int):Spec Tryz.prog 124 [.ag (bK x),.i .i64 n] (.i .i64 (kD x.id n)):=by
 refine aX (N:=9) aF Tryz.func124 rfl rfl rfl (by kernel_rfl) (by kernel_rfl) (by simp) ?_
 have hS:=aOr x.id n
 simp [-map_map,-mapM_map,↓KW,bK,aE,aB,aC]
 refine aA (ds:=[.i .i64 x.id,.i .i64 n]) (by rfl) hS ?_
 simp [-map_map,-mapM_map,↓KW,]
def aJd (c:List Cl) (n:Int):Nat:=c.countP fun x=>decide (x.id<n)
theorem aQs {c:List Cl} {n:Int} {i:Nat} (hi:i≤c.length) (h1:∀ k x,k<i→c[k]? = some x→x.id<n) (h2:∀ k x,i≤k→c[k]? = some x→n≤x.id):aJd c n=i:=by
 unfold aJd
 conv=>lhs; rw [← List.take_append_drop i c]
 rw [List.countP_append]
 have e1:(c.take i).countP (fun x=>decide (x.id<n))=(c.take i).length:=by
  rw [List.countP_eq_length]
  intro x hx
  obtain ⟨k,hk,rfl⟩:=List.getElem_of_mem hx
  rw [List.length_take] at hk
  exact decide_eq_true (h1 k _ (by omega) (by rw [List.getElem_take,List.getElem?_eq_getElem]))
 have e2:(c.drop i).countP (fun x=>decide (x.id<n))=0:=by
  rw [List.countP_eq_zero]
  intro x hx
  obtain ⟨k,hk,rfl⟩:=List.getElem_of_mem hx
  rw [List.length_drop] at hk
  have:=h2 (i+k) (c[i+k]'(by omega)) (by omega) (List.getElem?_eq_getElem _)
  rw [List.getElem_drop]; simp; omega
 rw [e1,e2,List.length_take]; omega
theorem bDc {c:List Cl} {n:Int} {i:Nat} (h1:∀ k x,k<i→c[k]? = some x→x.id<n) (h2:∀ k x,i≤k→c[k]? = some x→n≤x.id) (hc:Inc c):(∀ x,c[i]? = some x→cF c n=if x.id=n then some x else none)∧(c[i]? = none→cF c n=none):=by
 have hn:∀ x,c[i]? = some x→x.id≠n→cF c n=none:=fun x hx hne=>by
  cases e:cF c n with
  | none=>rfl
  | some y =>
   obtain ⟨hy,he⟩:=dT e
   obtain ⟨k,hk,rfl⟩:=List.getElem_of_mem hy
   exfalso
   rcases Nat.lt_trichotomy k i with h | h | h
   ·have:=h1 k _ h (List.getElem?_eq_getElem hk); omega
   ·subst h; rw [List.getElem?_eq_getElem hk] at hx; injection hx with hx; subst hx; exact hne he
   ·have hi:i<c.length:=(List.getElem?_eq_some_iff.1 hx).1
    have g1:=h2 i x (Nat.le_refl _) hx
    have g2:=(List.pairwise_iff_getElem.1 hc) i k hi hk h
    rw [List.getElem?_eq_getElem hi] at hx; injection hx with hx; subst hx
    omega
 refine ⟨fun x hx=>?_,fun hx=>?_⟩
 ·by_cases he:x.id=n
  ·rw [if_pos he,← he]; exact hc.find (List.mem_of_getElem? hx)
  ·rw [if_neg he]; exact hn x hx he
 ·cases e:cF c n with
  | none=>rfl
  | some y =>
   obtain ⟨hy,he⟩:=dT e
   obtain ⟨k,hk,rfl⟩:=List.getElem_of_mem hy
   have:=h1 k _ (by have:=List.getElem?_eq_none_iff.1 hx; omega) (List.getElem?_eq_getElem hk)
   omega
set_option maxHeartbeats 2000000 in
set_option maxRecDepth 10000 in
theorem bLb {c:List Cl} (hc:Inc c) (n:Int) (hl:c.length≤1000000):Spec Tryz.prog 123 [aP c,.i .i64 n,.lit (.func (.func 124) #[] #[])] (.tp [.i .i64 (aJd c n),.b (cF c n).isSome]):=by
 refine aX (N:=49) aF Tryz.func123 rfl rfl rfl (by kernel_rfl) (by kernel_rfl) (by simp) ?_
 simp [-map_map,-mapM_map,↓KW,↓jY,↓fO,↓jV,↓jW,aP]
 refine aU (fun p:Nat × Nat=>p.1≤p.2∧p.2≤c.length∧(∀ k x,k<p.1→c[k]? = some x→x.id<n)∧(∀ k x,p.2≤k→c[k]? = some x→n≤x.id)) (fun p=>StL [(0,.d (aP c)),(1,.d (.i .i64 n)),(2,.d (.lit (.func (.func 124) #[] #[]))),(8,.d (.i .i64 (c.length:Int))),(9,.d (.i .i64 (p.1:Int))),(10,.d (.i .i64 (p.2:Int)))] none []) (fun p=>p.2 - p.1) (0,c.length) ⟨Nat.zero_le _,Nat.le_refl _,fun k x h=>by omega,fun k x h hx=>by have:=(List.getElem?_eq_some_iff.1 hx).1; omega⟩ ?_ ?_
 ·refine bB [] (by simp) ?_ ?_ <;> simp [-map_map,upd,aT,Γ0,aP]
 ·rintro ⟨i,j⟩ ⟨hij,hj,h1,h2⟩
  simp only at hij hj h1 h2
  by_cases hgo:i<j
  ·have q1:(i:Int)<j:=by omega
   have hw1:IntKind.i64.wrap ((i:Int)+j)=((i+j:Nat):Int):=by rw [aS (by omega) (by omega)]; omega
   have hw2:IntKind.u64.wrap ((i+j:Nat):Int)=((i+j:Nat):Int):=bL (by omega) (by omega)
   have hh:(i+j) / 2<c.length:=by omega
   have hw3:IntKind.i64.wrap (((i+j) / 2:Nat):Int)=(((i+j) / 2:Nat):Int):=aS (by omega) (by omega)
   have hw4:IntKind.i64.wrap ((((i+j) / 2:Nat):Int)+1)=(((i+j) / 2+1:Nat):Int):=by rw [aS (by omega) (by omega)]; omega
   have hm1:i≤(i+j) / 2:=by omega
   have hm2:(i+j) / 2<j:=by omega
   have hx:c[(i+j) / 2]? = some c[(i+j) / 2]:=List.getElem?_eq_getElem hh
   have hsh:=@bVu (i+j)
   have q0:(0:Int)≤(((i+j) / 2:Nat):Int):=by omega
   generalize (i+j) / 2=m at *
   have hS:=aQt c[m] n
   have hlt:∀ k x,k<m→c[k]? = some x→x.id<c[m].id:=fun k x hk hkx=>by
    have h0:k<c.length:=by omega
    rw [List.getElem?_eq_getElem h0] at hkx; injection hkx with hkx; subst hkx
    exact (List.pairwise_iff_getElem.1 hc) k m h0 hh hk
   have hgt:∀ k x,m<k→c[k]? = some x→c[m].id<x.id:=fun k x hk hkx=>by
    have h0:k<c.length:=(List.getElem?_eq_some_iff.1 hkx).1
    rw [List.getElem?_eq_getElem h0] at hkx; injection hkx with hkx; subst hkx
    exact (List.pairwise_iff_getElem.1 hc) m k hh h0 hk
   generalize i+j=s at *
   generalize hxm:c[m]=x at *
   simp [-map_map,-mapM_map,↓KW,↓jY,↓fO,↓jV,↓jW,aP,bK,q1,hw1,hw2,hw3,hsh,hx,q0,aE,aB,aC,sW,yB]
   refine xB (ds:=[.ag (bK x),.i .i64 n]) (by rfl) hS ?_
   by_cases hlx:x.id<n
   ·have e:kD x.id n=-1:=by unfold kD; rw [if_pos hlx]
    rw [e]
    simp [-map_map,-mapM_map,↓KW,↓jY,↓fO,↓jV,↓jW,hw4]
    refine aI (m+1,j) ⟨by simp only; omega,hj,fun k y hk hky=>?_,h2⟩ (by simp only; omega) (bB [] (by simp) ?_ ?_)
    ·simp only at hk
     rcases Nat.lt_or_ge k m with h | h
     ·have:=hlt k y h hky; omega
     ·rw [show k=m by omega,hx] at hky; injection hky with hky; rw [← hky]; exact hlx
    ·simp [-map_map,upd,aT,Γ0,aP]
    ·trivial
   ·have e:¬ kD x.id n<0:=by unfold kD; rw [if_neg hlx]; split <;> omega
    generalize kD x.id n=r at *
    simp [-map_map,-mapM_map,↓KW,↓jY,↓fO,↓jV,↓jW,e]
    refine aI (i,m) ⟨by simp only; omega,by simp only; omega,h1,fun k y hk hky=>?_⟩ (by simp only; omega) (bB [] (by simp) ?_ ?_)
    ·simp only at hk
     rcases Nat.lt_or_ge m k with h | h
     ·have:=hgt k y h hky; omega
     ·rw [show k=m by omega,hx] at hky; injection hky with hky; rw [← hky]; omega
    ·simp [-map_map,upd,aT,Γ0,aP]
    ·trivial
  ·have q1:¬ (i:Int)<j:=by omega
   have hje:j=i:=by omega
   subst hje
   have hp:=aQs hj h1 h2
   obtain ⟨f1,f2⟩:=bDc h1 h2 hc
   rw [hp]
   by_cases hin:j<c.length
   ·have q2:(j:Int)<c.length:=by omega
    have hx:c[j]? = some c[j]:=List.getElem?_eq_getElem hin
    have hS:=aQt c[j] n
    have f3:=f1 _ hx
    have q0:(0:Int)≤(j:Int):=by omega
    generalize c[j]=x at *
    simp [-map_map,-mapM_map,↓KW,↓jY,↓fO,↓jV,↓jW,aP,bK,q1,q2,hx,aE,aB,aC,sW,yB]
    refine xB (ds:=[.ag (bK x),.i .i64 n]) (by rfl) hS ?_
    have e:((kD x.id n == 0):Bool)=(cF c n).isSome:=by
     rw [f3]
     unfold kD
     by_cases h:x.id=n
     ·rw [if_pos h]; simp [h]
     ·rw [if_neg h]
      split
      ·rfl
      ·split
       ·rfl
       ·omega
    rw [← e]
    generalize kD x.id n=r at *
    simp [-map_map,-mapM_map,↓KW,↓jY,↓fO,↓jV,↓jW,aP,mA]
   ·have q2:¬ (j:Int)<c.length:=by omega
    have f3:=f2 (List.getElem?_eq_none (by omega))
    rw [f3]
    simp [-map_map,-mapM_map,↓KW,↓jY,↓fO,↓jV,↓jW,aP,bK,q1,q2,aE,aB,aC,sW,yB,mA]
theorem bJz {c:List Cl} (hc:Inc c) {n:Int} {x:Cl} (h:cF c n=some x):c[aJd c n]? = some x:=by
 obtain ⟨hx,he⟩:=dT h
 obtain ⟨k,hk,rfl⟩:=List.getElem_of_mem hx
 have hp:aJd c n=k:=aQs (by omega) (fun j y hj hy=>by
   have h0:j<c.length:=(List.getElem?_eq_some_iff.1 hy).1
   rw [List.getElem?_eq_getElem h0] at hy; injection hy with hy; subst hy
   have:=(List.pairwise_iff_getElem.1 hc) j k h0 hk hj; omega) (fun j y hj hy=>by
   have h0:j<c.length:=(List.getElem?_eq_some_iff.1 hy).1
   rw [List.getElem?_eq_getElem h0] at hy; injection hy with hy; subst hy
   rcases Nat.lt_or_ge k j with h | h
   ·have:=(List.pairwise_iff_getElem.1 hc) k j hk h0 h; omega
   ·have:j=k:=by omega
    subst this; omega)
 rw [hp]; exact List.getElem?_eq_getElem hk
set_option maxRecDepth 10000 in
theorem bKn {c:List Cl} (hc:Inc c) (n:Int) (hl:c.length≤1000000):Spec Tryz.prog 90 [aP c,.i .i64 n] (.tp [.i .i64 (aJd c n),.b (cF c n).isSome]):=by
 refine aX (N:=11) aF Tryz.func90 rfl rfl rfl (by kernel_rfl) (by kernel_rfl) (by simp) ?_
 have hS:=bLb hc n hl
 simp [-map_map,-mapM_map,↓KW,↓jY,↓fO,↓jV,↓jW,aP,yB]
 refine aA (ds:=[aP c,.i .i64 n,.lit (.func (.func 124) #[] #[])]) (by rfl) hS ?_
 simp [-map_map,-mapM_map,↓KW,↓jY,↓fO,↓jV,↓jW,mA]
set_option maxRecDepth 10000 in
theorem bDs {c:List Cl} (hc:Inc c) (n:Int) (hl:c.length≤1000000):Spec Tryz.prog 44 [aP c,.i .i64 n] (vX c n):=by
 refine aX (N:=21) aF Tryz.func44 rfl rfl rfl (by kernel_rfl) (by kernel_rfl) (by simp) ?_
 have hS:=bKn hc n hl
 unfold vX
 simp [-map_map,-mapM_map,↓KW,aP]
 refine aA (ds:=[aP c,.i .i64 n]) (by rfl) hS ?_
 cases hf:cF c n with
 | none=>simp [-map_map,-mapM_map,↓KW,aP,bK,xJ,aO,mA]
 | some x =>
  have hx:=bJz hc hf
  have q0:(0:Int)≤(aJd c n:Int):=by omega
  generalize aJd c n=p at *
  simp [-map_map,-mapM_map,↓KW,aP,bK,hx,q0,aE,aB,aC,mA]
end Go.Am
end

section
set_option linter.unusedVariables false
set_option linter.unusedSimpArgs false
open List (map_map mapM_map)
open Go Go.Am Go.Proofs
namespace Go.Am
theorem aVz (m n:Nat):oG (aW m) (aW n)=0↔m=n:=by
 unfold oG
 rw [jG,jG]
 by_cases h1:m<n
 ·simp [h1]; omega
 ·by_cases h2:n<m
  ·simp [h1,h2]; omega
  ·simp [h1,h2]; omega
theorem bDx (a b:List Nat):-1≤oG a b∧oG a b≤1:=by
 unfold oG
 split
 ·exact ⟨by decide,by decide⟩
 ·split <;> exact ⟨by decide,by decide⟩
theorem yG (x y:Int) (hx:Sz x) (hy:Sz y):∃ r:Int,Spec Tryz.prog 60 [encZ x,encZ y] (.i .i64 r)∧(r=0↔x=y):=by
 have hSx:=aKl x hx
 have hSy:=aKl y hy
 have hTx:=nA (aW x.natAbs) (Nat.le_trans hx (by decide))
 have hTy:=nA (aW y.natAbs) (Nat.le_trans hy (by decide))
 rw [pW (mM _)] at hTx hTy
 have hC:=aAd (aW x.natAbs) (aW y.natAbs) (cC _) (cC _) (Nat.le_trans hx (by decide)) (Nat.le_trans hy (by decide))
 have hc0:=aVz x.natAbs y.natAbs
 have hcb:=bDx (aW x.natAbs) (aW y.natAbs)
 have hI:=aOr x.sign y.sign
 by_cases hs:x.sign=y.sign
 ·refine ⟨x.sign * oG (aW x.natAbs) (aW y.natAbs),?_,?_⟩
  rotate_left
  ·rw [Int.mul_eq_zero,hc0]
   constructor
   ·rintro (h | h)
    ·have h1:=Int.sign_eq_zero_iff_zero.1 h
     have h2:=Int.sign_eq_zero_iff_zero.1 (hs ▸ h)
     omega
    ·rw [← Int.sign_mul_natAbs x,← Int.sign_mul_natAbs y,hs,h]
   ·rintro rfl; exact .inr rfl
  ·refine aX (N:=26) aF Tryz.func60 rfl rfl rfl (by kernel_rfl) (by kernel_rfl) (by simp) ?_
   have hne:((x.sign != y.sign):Bool)=false:=by simp [hs]
   have hsb:-1≤x.sign∧x.sign≤1:=by
    rcases Int.lt_trichotomy x 0 with h | h | h
    ·rw [Int.sign_eq_neg_one_of_neg h]; decide
    ·subst h; decide
    ·rw [Int.sign_eq_one_of_pos h]; decide
   generalize oG (aW x.natAbs) (aW y.natAbs)=r at *
   generalize y.sign=sy at *
   generalize x.sign=sx at *
   have hw:IntKind.i64.wrap (sx * r)=sx * r:=by
    have h1:sx=-1∨sx=0∨sx=1:=by omega
    rcases h1 with rfl | rfl | rfl <;> exact aS (by omega) (by omega)
   simp [-map_map,-mapM_map,↓KW,bG,aD,aJ,aK,bF,aY]
   refine aA (ds:=[encZ x]) (by rfl) hSx ?_
   simp [-map_map,-mapM_map,↓KW,bG,aD,aJ,aK,bF,aY]
   refine aA (ds:=[encZ y]) (by rfl) hSy ?_
   simp [-map_map,-mapM_map,↓KW,hne,aD,aJ,aK,bF,aY]
   refine aA (ds:=[aG (aW x.natAbs)]) (by rfl) hTx ?_
   simp [-map_map,-mapM_map,↓KW,aD,aJ,aK,bF,aY]
   refine aA (ds:=[aG (aW y.natAbs)]) (by rfl) hTy ?_
   simp [-map_map,-mapM_map,↓KW,aD,aJ,aK,bF,aY]
   refine aA (ds:=[aG (aW x.natAbs),aG (aW y.natAbs)]) (by rfl) hC ?_
   simp [-map_map,-mapM_map,↓KW,hw,aD,aJ,aK,bF,aY]
 ·refine ⟨kD x.sign y.sign,?_,?_⟩
  rotate_left
  ·unfold kD
   constructor
   ·intro h
    exfalso
    split at h
    ·cases h
    ·split at h
     ·cases h
     ·omega
   ·rintro rfl; exact (hs rfl).elim
  ·refine aX (N:=26) aF Tryz.func60 rfl rfl rfl (by kernel_rfl) (by kernel_rfl) (by simp) ?_
   have hne:((x.sign != y.sign):Bool)=true:=by simpa using hs
   generalize y.sign=sy at *
   generalize x.sign=sx at *
   simp [-map_map,-mapM_map,↓KW,bG,aD,aJ,aK,bF,aY]
   refine aA (ds:=[encZ x]) (by rfl) hSx ?_
   simp [-map_map,-mapM_map,↓KW,bG,aD,aJ,aK,bF,aY]
   refine aA (ds:=[encZ y]) (by rfl) hSy ?_
   simp [-map_map,-mapM_map,↓KW,hne,aD,aJ,aK,bF,aY]
   refine aA (ds:=[.i .i64 sx,.i .i64 sy]) (by rfl) hI ?_
   simp [-map_map,-mapM_map,↓KW,]
end Go.Am
end

section
set_option linter.unusedVariables false
set_option linter.unusedSimpArgs false
open List (map_map mapM_map)
open Go Go.Am Go.Proofs
namespace Go.Am
theorem yH (x:Int) (hx:Sz x):Spec Tryz.prog 61 [encZ x] (encZ x.natAbs):=by
 have hC:=aOs (aW x.natAbs) (Nat.le_trans hx (by decide))
 have hV:=lW (cC x.natAbs) (Nat.le_trans hx (by decide)) false
 rw [cR] at hV
 refine aX (N:=7) aF Tryz.func61 rfl rfl rfl (by kernel_rfl) (by kernel_rfl) (by simp) ?_
 simp [-map_map,-mapM_map,↓KW,bG,aD,aJ,aK,bF,aY]
 refine aA (ds:=[aG (aW x.natAbs)]) (by rfl) hC ?_
 simp [-map_map,-mapM_map,↓KW,bG,aD,aJ,aK,bF,aY]
 refine aA (ds:=[.b false,aG (aW x.natAbs)]) (by rfl) hV ?_
 simp [-map_map,-mapM_map,↓KW,bG,sg,aD,aJ,aK,bF,aY]
theorem bJm (x:Int) (hx:Sz x):Spec Tryz.prog 82 [encZ x] (encZ (-x)):=by
 have hC:=aOs (aW x.natAbs) (Nat.le_trans hx (by decide))
 have hV:=lW (cC x.natAbs) (Nat.le_trans hx (by decide)) (!decide (x<0))
 rw [cR] at hV
 have e:sg (!decide (x<0)) x.natAbs=-x:=by
  unfold sg
  by_cases h:x<0
  ·simp [h]; omega
  ·simp [h]; omega
 rw [e] at hV
 refine aX (N:=10) aF Tryz.func82 rfl rfl rfl (by kernel_rfl) (by kernel_rfl) (by simp) ?_
 simp [-map_map,-mapM_map,↓KW,bG,aD,aJ,aK,bF,aY]
 refine aA (ds:=[aG (aW x.natAbs)]) (by rfl) hC ?_
 simp [-map_map,-mapM_map,↓KW,bG,aD,aJ,aK,bF,aY]
 refine aA (ds:=[.b !decide (x<0),aG (aW x.natAbs)]) (by rfl) hV ?_
 simp [-map_map,-mapM_map,↓KW,bG,aD,aJ,aK,bF,aY]
theorem bPm:encZ 1=.ag [.b false,.sl [[.i .u32 1]]]:=by
 have h:aW 1=[1]:=by rw [iH (by decide)]; simp [cK]
 simp [encZ,encI,aG,h]
theorem aAc:Spec Tryz.prog 62 [.i .i64 1] (encZ 1):=by
 rw [bPm]
 exact (aFo (fuel:=100) aF bMo 20).call 62 [.i .i64 1] (.ag [.b false,.sl [[.i .u32 1]]]) (by kernel_rfl)
end Go.Am
end

section
set_option linter.unusedVariables false
set_option linter.unusedSimpArgs false
open List (map_map mapM_map)
open Go Go.Am Go.Proofs
namespace Go.Am
/-! Chain maps -/
abbrev Ch:=List (Int × Int)
def eZ (p:Int × Ch):List D:=[.i .i64 p.1,aO p.2]
def aV (m:List (Int × Ch)):D:=.sl (m.map eZ)
def lF (g:List (Int × Ch)):D:=.mp .i64 (g.map (·.1)) (g.map fun p=>aO p.2)
def iW (g:List (Int × Ch)) (n:Int):Option Ch:=(g.find? fun p=>decide (p.1=n)).map (·.2)
def cU (c:List Cl) (g:List (Int × Ch)):List (Int × Ch):=c.map fun x=>(x.id,(iW g x.id).getD [(x.id,1)])
theorem sz1:Sz 1:=by unfold Sz; rw [show (1:Int).natAbs=1 from rfl,iH (by decide)]; simp [cK]
theorem bDj (n z:Int):aO [(n,z)]=.sl [[.i .i64 n,.b (decide (z<0)),aG (aW z.natAbs)]]:=rfl
set_option maxRecDepth 10000 in
theorem bAx (n:Int):Spec Tryz.prog 48 [.i .i64 n] (aO [(n,1)]):=by
 refine aX (N:=7) aF Tryz.func48 rfl rfl rfl (by kernel_rfl) (by kernel_rfl) (by simp) ?_
 have hS:=aAc
 rw [bDj]
 simp [-map_map,-mapM_map,↓KW,aO]
 refine aA (ds:=[.i .i64 1]) (by rfl) hS ?_
 simp [-map_map,-mapM_map,↓KW,bG,aD,aJ,aK,bF,aY]
theorem aDu (g:List (Int × Ch)) (n:Int):nV (aAe (g.map (·.1)) (g.map fun p=>aO p.2)) n=(iW g n).map fun y=>.d (aO y):=by
 unfold iW nV aAe
 induction g with
 | nil=>rfl
 | cons p g ih =>
  simp only [List.map_cons,List.zip_cons_cons,gC,List.find?_cons]
  by_cases h:p.1=n
  ·simp [h,aC]
  ·rw [if_neg h,decide_eq_false h]
   simp only [Option.bind_map]
   rw [← ih]; rfl
end Go.Am
end

section
set_option linter.unusedVariables false
set_option linter.unusedSimpArgs false
open Go Go.Am Go.Proofs
namespace Go.Am
def grS (t:Nat) (sl:List (Nat × AV)) (e:TypeId) (sz:Nat) (n:Nat) (cells:List D):St:=match n with
 | 0=>StL ((t,.nil)::sl) none []
 | n+1=>StL ((t,.own 1 0 (n+1) sz)::sl) none [.cells e (cells.map .d)]
end Go.Am
end

section
set_option linter.unusedVariables false
set_option linter.unusedSimpArgs false
open List (map_map mapM_map)
open Go Go.Am Go.Proofs
namespace Go.Am
/-! Rows of elements of one size -/
theorem bDy {k:Nat} (hk:0<k) (l:List (List D)) (h:∀ x∈l,x.length=k):chunk k l.length l.flatten=l:=by
 induction l with
 | nil=>rfl
 | cons a l ih =>
  have ha:=h a (List.mem_cons_self ..)
  have:=ih fun x hx=>h x (List.mem_cons_of_mem _ hx)
  unfold chunk at this ⊢
  rw [List.length_cons,List.range_succ_eq_map,List.map_cons,List.map_map,List.flatten_cons]
  congr 1
  ·simp [← ha]
  ·conv=>rhs; rw [← this]
   apply List.map_congr_left
   intro i _
   simp only [Function.comp]
   rw [show Nat.succ i * k=a.length+i * k from by rw [Nat.succ_mul,ha,Nat.add_comm],List.drop_append,List.drop_eq_nil_of_le (by omega)]
   simp
def flt {α:Type} (f:α→List D) (l:List α):List D:=(l.map f).flatten
theorem aGh {α:Type} (f:α→List D):flt f []=[]:=rfl
theorem dC {α:Type} (f:α→List D) (x:α):flt f [x]=f x:=by simp [flt]
theorem fS {α:Type} (f:α→List D) (a b:List α):flt f (a++b)=flt f a++flt f b:=by simp [flt]
theorem cE {α:Type} {f:α→List D} {k:Nat} (h:∀ x,(f x).length=k) (l:List α):(flt f l).length=l.length * k:=by
 unfold flt
 induction l with
 | nil=>simp
 | cons x l ih=>rw [List.map_cons,List.flatten_cons,List.length_append,ih,h,List.length_cons,Nat.succ_mul]; omega
theorem fI {α:Type} {f:α→List D} (h:∀ x,((f x).map AV.d).all one=true) (l:List α):((flt f l).map AV.d).all one=true:=by
 unfold flt
 induction l with
 | nil=>rfl
 | cons x l ih=>rw [List.map_cons,List.flatten_cons,List.map_append,List.all_append,h,ih]; rfl
theorem eW {α:Type} {f:α→List D} {k:Nat} (hk:0<k) (h:∀ x,(f x).length=k) {l:List α} {n:Nat} (hn:l.length=n):chunk k n (flt f l)=l.map f:=by
 have:=bDy hk (l.map f) fun x hx=>by obtain ⟨y,_,rfl⟩:=List.mem_map.1 hx; exact h y
 rwa [List.length_map,hn] at this
theorem fR {α:Type} {f:α→List D} {k:Nat} (h:∀ x,(f x).length=k) {l:List α} {n:Nat} (hn:l.length=n):((flt f l).map AV.d).take (n * k)=(flt f l).map AV.d:=List.take_of_length_le (by rw [List.length_map,cE h,hn]; exact Nat.le_refl _)
theorem eH (x:Cl):bK x=[.i .i64 x.id,.i .i64 x.dim,aO x.b]:=rfl
theorem cB (x:Int × Ch):(eZ x).length=2:=rfl
theorem lX (x:Int × Ch):((eZ x).map AV.d).all one=true:=rfl
theorem eP (x:Int × Ch):eZ x=[.i .i64 x.1,aO x.2]:=rfl
def lkV:Option Ch→AV
 | some y=>.tp [.d (aO y),.d (.b true)]
 | none=>.tp [.nil,.d (.b false)]
theorem aRl (g:List (Int × Ch)) (H:Nat→Option HO) (n:Int):kK Tryz.prog H 92 (.d (lF g)) (.d (.i .i64 n)) true=some (lkV (iW g n)):=by
 have h1:tmp Tryz.prog 92=some (3,45):=by kernel_rfl
 have h2:gJ Tryz.prog 3=some .i64:=by kernel_rfl
 have h3:tz Tryz.prog 45=some (.slice none 0 0):=by kernel_rfl
 show sD Tryz.prog 92 .i64 (aAe (g.map (·.1)) (g.map fun p=>aO p.2)) (.d (.i .i64 n)) true=_
 simp only [sD,aDu]
 cases iW g n <;> simp [h1,h2,h3,lkV,cv,cv1]
theorem bOs (H:Nat→Option HO) (n:Int):kK Tryz.prog H 92 (.d (.lit (.map none))) (.d (.i .i64 n)) true=some (lkV (iW [] n)):=by
 have h1:tmp Tryz.prog 92=some (3,45):=by kernel_rfl
 have h2:gJ Tryz.prog 3=some .i64:=by kernel_rfl
 have h3:tz Tryz.prog 45=some (.slice none 0 0):=by kernel_rfl
 show aRk Tryz.prog 92 (.d (.i .i64 n)) true=_
 unfold aRk
 simp [h1,h2,h3,lkV,iW,cv,cv1]
theorem aDx {c:List Cl} {i:Nat} (h:i<c.length) (g:List (Int × Ch)):cU (c.take (i+1)) g=cU (c.take i) g++[(c[i].id,(iW g c[i].id).getD [(c[i].id,1)])]:=by
 unfold cU
 rw [List.take_add_one,List.getElem?_eq_getElem h,List.map_append]; rfl
set_option maxHeartbeats 2000000 in
set_option maxRecDepth 10000 in
theorem nW (c:List Cl) (g:List (Int × Ch)) (G:D) (hG:aT G=.d G) (hlk:∀ H n,kK Tryz.prog H 92 (.d G) (.d (.i .i64 n)) true=some (lkV (iW g n))) (hl:c.length≤1000000):Spec Tryz.prog 47 [aP c,G] (aV (cU c g)):=by
 refine aX (N:=37) aF Tryz.func47 rfl rfl rfl (by kernel_rfl) (by kernel_rfl) (by simp) ?_
 simp [-map_map,-mapM_map,↓KW,aP,hG]
 refine aU (fun y:Nat × List (Int × Ch)=>y.1≤c.length∧y.2.length=y.1∧cU (c.take y.1) g=y.2) (fun y=>grS 5 [(0,.d (aP c)),(1,.d G),(10,.d (aP c)),(11,.d (.i .i64 c.length)),(12,.d (.i .i64 (y.1:Int)))] 97 2 y.2.length (flt eZ y.2)) (fun y=>c.length - y.1) (0,[]) ⟨Nat.zero_le _,rfl,rfl⟩ ?_ ?_
 ·simp only [List.length_nil,grS]
  refine bB [] (by simp) ?_ ?_ <;> simp [-map_map,upd,Γ0,aP,bX,hG]
 ·rintro ⟨i,out⟩ ⟨hi,hoi,ho⟩
  simp only at hi ho hoi ⊢
  by_cases hgo:i<c.length
  ·have q1:(i:Int)<c.length:=by omega
   have hx:c[i]? = some c[i]:=List.getElem?_eq_getElem hgo
   have hw:IntKind.i64.wrap ((i:Int)+1)=(i:Int)+1:=aS (by omega) (by omega)
   have htk:=aDx hgo g
   rw [ho] at htk
   refine (show ∃ x,c[i]=x from ⟨_,rfl⟩).elim fun x hxe=>?_
   rw [hxe] at hx htk
   have hyc:bK x=[D.i .i64 x.id,.i .i64 x.dim,aO x.b]:=rfl
   have hS:=bAx x.id
   have hlk':=fun H=>hlk H x.id
   have hm1:(1:Nat)≤maxLen:=aZ (by decide)
   refine (show ∃ y,(iW g x.id).getD [(x.id,1)]=y from ⟨_,rfl⟩).elim fun y hy=>?_
   rw [hy] at htk
   rcases hn:out with _ | ⟨o1,o2⟩
   ·rw [hn] at htk hoi
    simp only [List.length_nil,grS]
    rcases hgv:iW g x.id with _ | v
    ·rw [hgv] at hlk' hy
     simp only [lkV] at hlk'
     simp [-map_map,-mapM_map,↓KW,aP,q1,hx,hyc,hw,hm1,hlk',aE,aB,aC]
     refine aA (ds:=[.i .i64 x.id]) (by rfl) hS ?_
     simp [-map_map,-mapM_map,↓KW,aP,q1,hx,hyc,hw,hm1,hlk',aE,aB,aC,aR,bI]
     refine aI (i+1,[(x.id,y)]) ⟨hgo,by simp only [List.length_singleton]; simp at hoi; omega,htk⟩ (Nat.sub_lt_sub_left hgo (Nat.lt_succ_self _)) ?_
     simp only [List.length_singleton,grS,dC,eP,← hy]
     refine bB [3] (by simp) ?_ ?_ <;> simp [-map_map,upd,aT,Γ0,aP]
    ·rw [hgv] at hlk' hy
     simp only [lkV] at hlk'
     have hy':v=y:=hy
     simp [-map_map,-mapM_map,↓KW,aP,q1,hx,hyc,hw,hm1,hlk',aE,aB,aC]
     refine aI (i+1,[(x.id,y)]) ⟨hgo,by simp only [List.length_singleton]; simp at hoi; omega,htk⟩ (Nat.sub_lt_sub_left hgo (Nat.lt_succ_self _)) ?_
     simp only [List.length_singleton,grS,dC,eP,← hy']
     refine bB [3] (by simp) ?_ ?_ <;> simp [-map_map,upd,aT,Γ0,aP]
   ·rw [← hn]
    refine (show ∃ m,out.length=m+1 from ⟨o2.length,by rw [hn]; rfl⟩).elim fun m hm=>?_
    have hbb:=cT (n:=m+1) (by omega)
    have hb8:(m+1+1) * 32≤140737488355328:=by omega
    have hcl:=cE cB out
    rw [hm] at hcl
    have hal:=fI lX out
    have hfa:flt eZ (out++[(x.id,y)])=flt eZ out++[.i .i64 x.id,aO y]:=by rw [fS,dC]; rfl
    simp only [hm,grS]
    rcases hgv:iW g x.id with _ | v
    ·rw [hgv] at hlk' hy
     simp only [lkV] at hlk'
     simp [-map_map,-mapM_map,↓KW,aP,q1,hx,hyc,hw,hm,hlk',hbb,hb8,hcl,hal,aZ,aE,aB,aC]
     refine aA (ds:=[.i .i64 x.id]) (by rfl) hS ?_
     simp [-map_map,-mapM_map,↓KW,aP,q1,hx,hyc,hw,hm,hlk',hbb,hb8,hcl,hal,aZ,aE,aB,aC,aR,bI]
     refine aI (i+1,out++[(x.id,y)]) ⟨hgo,by simp only [List.length_append,List.length_singleton]; omega,htk⟩ (Nat.sub_lt_sub_left hgo (Nat.lt_succ_self _)) ?_
     simp only [List.length_append,hm,List.length_singleton,grS,hfa,← hy]
     refine bB [4] (by simp) ?_ ?_ <;> simp [-map_map,upd,aT,Γ0,aP,fS,dC,eP]
    ·rw [hgv] at hlk' hy
     simp only [lkV] at hlk'
     have hy':v=y:=hy
     simp [-map_map,-mapM_map,↓KW,aP,q1,hx,hyc,hw,hm,hlk',hbb,hb8,hcl,hal,aZ,aE,aB,aC]
     refine aI (i+1,out++[(x.id,y)]) ⟨hgo,by simp only [List.length_append,List.length_singleton]; omega,htk⟩ (Nat.sub_lt_sub_left hgo (Nat.lt_succ_self _)) ?_
     simp only [List.length_append,hm,List.length_singleton,grS,hfa,← hy']
     refine bB [4] (by simp) ?_ ?_ <;> simp [-map_map,upd,aT,Γ0,aP,fS,dC,eP]
  ·have q1:¬ (i:Int)<c.length:=by omega
   rw [List.take_of_length_le (by omega)] at ho
   rw [ho]
   rcases hn:out.length with _ | m
   ·have e0:out=[]:=List.eq_nil_of_length_eq_zero hn
    simp only [grS]
    simp [-map_map,-mapM_map,↓KW,aP,aV,q1,e0]
   ·have e1:=fR cB hn
    have e2:=eW (by decide) cB hn
    have e3:=cE cB out
    rw [hn] at e3
    simp only [grS]
    simp [-map_map,-mapM_map,↓KW,aP,aV,q1,e1,e2,e3,hn]
end Go.Am
end

section
set_option linter.unusedVariables false
set_option linter.unusedSimpArgs false
open Go Go.Am Go.Proofs
namespace Go.Am
theorem aRh {l:Ch} {e:Nat} (hb:Bnd (2 ^ e) l) (hk:Keys l) (hl:l.length≤16384) (he:e+14<4398046511104):Spec Tryz.prog 46 [aO l] (aO (bY [] l)):=by
 have:=aOt l (2 ^ e) (rY (e:=14+e) (oR (Nat.le_trans hl (by decide))) (by omega)) hb hk (by omega)
 rwa [bIy] at this
theorem bQt:kH Tryz.prog 43:=by
 refine ⟨fun w=>enters_of Tryz.func43 (by kernel_rfl) rfl _ w,fun w=>?_⟩
 refine callsD_of_wpS Tryz.func43 rfl fun c₀ cs hu=>?_
 apply wpS_region
 simp [wpOpsS,go_sem,recoverD,hu,Tryz.ntmps43,bodyPostS,results,Tryz.results43]
 cases c₀; simp only at hu; subst hu; rfl
def gr2 (t1 t2:Nat) (sl:List (Nat × AV)) (zb:HO) (e1:TypeId) (s1 n1:Nat) (c1:List D) (e2:TypeId) (s2 n2:Nat) (c2:List D):St:=match n1,n2 with
 | 0,0=>StL ((t1,.nil)::(t2,.nil)::sl) none [zb]
 | 0,n+1=>StL ((t1,.nil)::(t2,.own 2 0 (n+1) s2)::sl) none [zb,.cells e2 (c2.map .d)]
 | m+1,0=>StL ((t1,.own 2 0 (m+1) s1)::(t2,.nil)::sl) none [zb,.cells e1 (c1.map .d)]
 | m+1,n+1=>StL ((t1,.own 2 0 (m+1) s1)::(t2,.own 3 0 (n+1) s2)::sl) none [zb,.cells e1 (c1.map .d),.cells e2 (c2.map .d)]
theorem fT (x:Int × Int):(fD x).length=3:=rfl
theorem qM (x:Int × Int):((fD x).map AV.d).all one=true:=rfl
theorem dN (x:Cl):(bK x).length=3:=rfl
theorem wC (x:Cl):((bK x).map AV.d).all one=true:=rfl
def xI (a b:Int) (f:Int × Int):Int × Int:=if f.1=b then (a,f.2) else f
def aAg (a b:Int) (z:Cl):Cl:=⟨z.id,z.dim,bY [] (z.b.map (xI a b))⟩
def aAh (c:List Cl) (a b:Int):List Cl:=(c.filter fun z=>!decide (z.id=b)).map (aAg a b)
def kL (r:List Cl × List (Int × Ch) × Int):D:=.tp [aP r.1,aV r.2.1,.i .i64 r.2.2]
theorem jB (H : Nat → Option HO) (n id : Nat) : vis H (n + 1) (.mp id) = match H id with
      | some (.map _ es)=>id::(es.map (·.2)).flatMap (vis H n)
      | _=>[]:=rfl
theorem dE (m:List (Int × Ch)):inj (aV m)=.d (aV m):=rfl
theorem cD (H:Nat→Option HO) (avs:List AV) (m:List (Int × Ch)):bV H avs (aV m)=gH H avs:=rfl
theorem eA (n:Int) (v:AV):nU [] n v=[(n,v)]:=rfl
end Go.Am
end

section
set_option linter.unusedVariables false
set_option linter.unusedSimpArgs false
open Go Go.Am Go.Proofs
namespace Go.Am
def nK (c:List Cl) (x:Cl):List Cl:=(c.takeWhile fun y=>decide (y.id<x.id))++x::c.dropWhile fun y=>decide (y.id<x.id)
theorem pZ (c:List Cl) (x:Cl):(nK c x).Perm (x::c):=by
 unfold nK
 refine List.perm_middle.trans ?_
 rw [List.takeWhile_append_dropWhile]
theorem aJe (y:Cl) (c:List Cl) (x:Cl):nK (y::c) x=if y.id<x.id then y::nK c x else x::y::c:=by
 unfold nK
 by_cases h:y.id<x.id <;> simp [List.takeWhile_cons,List.dropWhile_cons,h]
theorem zJ {c:List Cl} {x y:Cl}:y∈nK c x↔y=x∨y∈c:=by rw [(pZ c x).mem_iff,List.mem_cons]
theorem zK {c:List Cl} {x:Cl} (hc:Inc c) (hx:∀ y∈c,y.id≠x.id):Inc (nK c x):=by
 induction c with
 | nil=>simp [nK,Inc]
 | cons y c ih =>
  obtain ⟨h1,h2⟩:=List.pairwise_cons.1 hc
  rw [aJe]
  have hne:=hx y (List.mem_cons_self ..)
  by_cases h:y.id<x.id
  ·rw [if_pos h]
   refine List.pairwise_cons.2 ⟨fun z hz=>?_,ih h2 fun z hz=>hx z (List.mem_cons_of_mem _ hz)⟩
   rcases zJ.1 hz with rfl | hz
   ·exact h
   ·exact h1 z hz
  ·rw [if_neg h]
   refine List.pairwise_cons.2 ⟨fun z hz=>?_,hc⟩
   rcases List.mem_cons.1 hz with rfl | hz
   ·omega
   ·have:=h1 z hz; omega
def aZr (l:Ch):Ch:=l.filter fun f=>decide (0<f.2)
def bIk (l:Ch):Ch:=l.filter fun f=>!decide (0<f.2)
def aFj (w0:Int) (l:Ch):Ch:=(w0,1)::bIk l
def vK (w0:Int) (l:Ch):Ch:=(w0,-1)::aZr l
def adF (e w1:Int) (l:Ch):Ch:=(l.filter fun f=>decide (f.1=e)).map fun f=>(w1,f.2)
def subL (e w0 w1:Int) (xb:Ch) (z:Cl):Ch:=if z.id=e then aFj w0 xb else z.b++adF e w1 z.b
def wO (e w0 w1:Int) (xb:Ch) (z:Cl):Cl:=⟨z.id,z.dim,bY [] (subL e w0 w1 xb z)⟩
def aTi (w0:Int):Cl:=⟨w0,0,[]⟩
def aTj (w0 w1:Int) (xb:Ch):Cl:=⟨w1,1,bY [] (vK w0 xb)⟩
def bNg (c:List Cl) (e w0 w1:Int):List Cl:=[aTi w0,aTj w0 w1 (bOf c e)]++c.map (wO e w0 w1 (bOf c e))
def rV (c:List Cl) (e w0 w1:Int):List Cl:=nK (nK (c.map (wO e w0 w1 (bOf c e))) (aTi w0)) (aTj w0 w1 (bOf c e))
theorem aTk (c:List Cl) (e w0 w1:Int):(rV c e w0 w1).Perm (bNg c e w0 w1):=by
 unfold rV bNg
 refine (pZ _ _).trans (((pZ _ _).cons _).trans ?_)
 exact .swap ..
theorem aKk {c:List Cl} {n:Int} (h:kn c n=false):∀ y∈c,y.id≠n:=by
 unfold kn at h
 exact aAp (by simpa using h)
theorem aXr {c:List Cl} {e w0 w1:Int} (hc:Inc c) (h0:kn c w0=false) (h1:kn c w1=false) (h:w0≠w1):Inc (rV c e w0 w1):=by
 have hm:Inc (c.map (wO e w0 w1 (bOf c e))):=List.pairwise_map.2 hc
 refine zK (zK hm fun y hy=>?_) fun y hy=>?_
 ·obtain ⟨z,hz,rfl⟩:=List.mem_map.1 hy
  exact aKk h0 z hz
 ·rcases zJ.1 hy with rfl | hy
  ·exact h
  ·obtain ⟨z,hz,rfl⟩:=List.mem_map.1 hy
   exact aKk h1 z hz
end Go.Am
end

section
set_option linter.unusedVariables false
set_option linter.unusedSimpArgs false
open List (map_map mapM_map)
open Go Go.Am Go.Proofs
namespace Go.Am
set_option maxHeartbeats 1000000 in
set_option maxRecDepth 10000 in
theorem oO (a b:List (Int × Int)) (ha:∀ x∈a,Sz x.2) (hb:∀ x∈b,Sz x.2) (hl:a.length≤1073741824) (hl2:b.length≤1073741824):Spec Tryz.prog 17 [aO a,aO b] (.b (decide (a=b))):=by
 refine aX (N:=42) aF Tryz.func17 rfl rfl rfl (by kernel_rfl) (by kernel_rfl) (by simp) ?_
 by_cases hn:a.length=b.length
 rotate_left
 ·have h1:((a.length:Int) != b.length)=true:=by simp; omega
  have h2:¬ a=b:=fun e=>hn (by rw [e])
  simp [-map_map,-mapM_map,↓KW,aO,h1,h2]
 ·have h1:((a.length:Int) != b.length)=false:=by simp; omega
  simp [-map_map,-mapM_map,↓KW,aO,h1]
  refine aU (fun i:Nat=>i≤a.length∧a.take i=b.take i) (fun i=>StL [(0,.d (aO a)),(1,.d (aO b)),(5,.d (.i .i64 i))] none []) (fun i=>a.length - i) 0 ⟨Nat.zero_le _,by simp⟩ ?_ ?_
  ·refine bB [] (by simp) ?_ ?_ <;> simp [-map_map,upd,aT,Γ0,aO]
  ·rintro i ⟨hi,ht⟩
   by_cases hgo:i<a.length
   ·have hgb:i<b.length:=by omega
    have q1:(i:Int)<a.length:=by omega
    have hw7:IntKind.i64.wrap ((i:Int)+1)=(i:Int)+1:=aS (by omega) (by omega)
    have g1:a[i]? = some a[i]:=List.getElem?_eq_getElem hgo
    have g2:b[i]? = some b[i]:=List.getElem?_eq_getElem hgb
    have hsx:=ha _ (List.getElem_mem hgo)
    have hsy:=hb _ (List.getElem_mem hgb)
    have hne:a[i]≠b[i]→¬ a=b:=fun h e=>h (by subst e; rfl)
    have hta:a[i]=b[i]→a.take (i+1)=b.take (i+1):=fun e=>by rw [List.take_add_one,List.take_add_one,ht,g1,g2,e]
    generalize a[i]=x at *
    generalize b[i]=y at *
    obtain ⟨xi,xc⟩:=x
    obtain ⟨yi,yc⟩:=y
    simp only at hsx hsy
    by_cases h2:xi=yi
    ·have h3:(xi != yi)=false:=by simpa using h2
     simp [-map_map,-mapM_map,↓KW,aO,q1,g1,g2,h3,bC,aJ,aD]
     refine aA (ds:=[encZ xc,encZ yc]) (by rfl) (aIz xc yc (Nat.le_trans hsx (by decide)) (Nat.le_trans hsy (by decide))) ?_
     by_cases h4:xc=yc
     ·have h5:=hta (by rw [h2,h4])
      simp [-map_map,-mapM_map,↓KW,h4,hw7]
      refine aI (i+1) ⟨hgo,h5⟩ (Nat.sub_lt_sub_left hgo (Nat.lt_succ_self i)) (bB [] (by simp) ?_ ?_) <;> simp [-map_map,upd,aT,Γ0,aO]
     ·have h5:=hne (fun e=>h4 (by injection e))
      simp [-map_map,-mapM_map,↓KW,h4,h5]
    ·have h3:(xi != yi)=true:=by simpa using h2
     have h5:=hne (fun e=>h2 (by injection e))
     simp [-map_map,-mapM_map,↓KW,aO,q1,g1,g2,h3,h5,bC,aJ,aD]
   ·have q1:¬ (i:Int)<a.length:=by omega
    have e:a=b:=by rwa [List.take_of_length_le (by omega),List.take_of_length_le (by omega)] at ht
    subst e
    simp [-map_map,-mapM_map,↓KW,aO,q1]
set_option maxHeartbeats 2000000 in
set_option maxRecDepth 10000 in
theorem nJ (l:List (Int × Int)) (hs:∀ x∈l,Sz x.2) (hl:l.length≤1073741824):Spec Tryz.prog 50 [aO l] (.b (sI l)):=by
 refine aX (N:=44) aF Tryz.func50 rfl rfl rfl (by kernel_rfl) (by kernel_rfl) (by simp) ?_
 simp [-map_map,-mapM_map,↓KW,aO]
 refine aU (fun i:Nat=>i≤l.length∧∀ j,j<i→aJo l j=true) (fun i=>StL [(0,.d (aO l)),(3,.d (.i .i64 i))] none []) (fun i=>l.length - i) 0 ⟨Nat.zero_le _,fun j h=>by omega⟩ ?_ ?_
 ·refine bB [] (by simp) ?_ ?_ <;> simp [-map_map,upd,aT,Γ0,aO]
 ·rintro i ⟨hi,hok⟩
  by_cases hgo:i<l.length
  ·have q1:(i:Int)<l.length:=by omega
   have hw7:IntKind.i64.wrap ((i:Int)+1)=(i:Int)+1:=aS (by omega) (by omega)
   have g1:=bCq hgo
   have hsx:Sz (l.getD i (0,0)).2:=hs _ (List.mem_of_getElem? g1)
   have hoka:aJo l i=(decide ((l.getD i (0,0)).2≠0) && (decide (i=0) || decide ((l.getD (i - 1) (0,0)).1<(l.getD i (0,0)).1))):=rfl
   have hfalse:=aFe hgo
   have hnext:aJo l i=true→∀ j,j<i+1→aJo l j=true:=fun h j hj=>by
    rcases Nat.lt_or_ge j i with h2 | h2
    ·exact hok j h2
    ·have:j=i:=by omega
     subst this; exact h
   rcases i with _ | k
   ·cases l with
    | nil=>simp at hgo
    | cons x rest =>
     obtain ⟨xi,xc⟩:=x
     have hd:(((xi,xc)::rest).getD 0 (0,0))=(xi,xc):=rfl
     rw [hd] at hsx hoka
     simp only at hsx hoka
     have q1':(0:Int)<(rest.length:Int)+1:=by omega
     have hw8:IntKind.i64.wrap 1=1:=by decide
     simp [-map_map,-mapM_map,↓KW,aO,q1',bC,aJ,aD]
     refine aA (ds:=[encZ xc]) (by rfl) (aDe xc (Nat.le_trans hsx (by decide))) ?_
     simp [-map_map,-mapM_map,↓KW,aO,bC,aJ,aD]
     refine aA (ds:=[encZ xc]) (by rfl) (eN xc) ?_
     by_cases h0:xc=0
     ·have e0:(xc.sign == 0)=true:=by simp [h0]
      have e1:=hfalse (by rw [hoka]; simp [h0])
      simp [-map_map,-mapM_map,↓KW,e0,e1]
     ·have e0:(xc.sign == 0)=false:=by simp [h0]
      have e1:=hnext (by rw [hoka]; simp [h0])
      simp [-map_map,-mapM_map,↓KW,e0,hw8]
      refine aI 1 ⟨hgo,e1⟩ (Nat.sub_lt_sub_left hgo (Nat.lt_succ_self _)) (bB [] (by simp) ?_ ?_) <;> simp [-map_map,upd,aT,Γ0,aO,bC]
   ·have g2:=bCq (l:=l) (i:=k) (by omega)
    have q3:(0:Int)<(k:Int)+1:=by omega
    have q5:(0:Int)≤(k:Int)+1:=by omega
    have q4:IntKind.i64.wrap (k:Int)=k:=aHk (by omega)
    simp only [Nat.add_sub_cancel] at hoka
    generalize l.getD (k+1) (0,0)=x at *
    generalize l.getD k (0,0)=y at *
    obtain ⟨xi,xc⟩:=x
    obtain ⟨yi,yc⟩:=y
    simp only at hsx hoka
    have hw8:IntKind.i64.wrap ((k:Int)+1+1)=(k:Int)+1+1:=by simpa using hw7
    have q1':(k:Int)+1<l.length:=by simpa using q1
    simp [-map_map,-mapM_map,↓KW,aO,q1',q5,g1,bC,aJ,aD]
    refine aA (ds:=[encZ xc]) (by rfl) (aDe xc (Nat.le_trans hsx (by decide))) ?_
    simp [-map_map,-mapM_map,↓KW,aO,q1',q5,g1,bC,aJ,aD]
    refine aA (ds:=[encZ xc]) (by rfl) (eN xc) ?_
    by_cases h0:xc=0
    ·have e0:(xc.sign == 0)=true:=by simp [h0]
     have e1:=hfalse (by rw [hoka]; simp [h0])
     simp [-map_map,-mapM_map,↓KW,e0,e1]
    ·have e0:(xc.sign == 0)=false:=by simp [h0]
     by_cases h2:xi≤yi
     ·have e1:=hfalse (by rw [hoka]; simp [h0]; omega)
      simp [-map_map,-mapM_map,↓KW,aO,e0,e1,g1,g2,q3,q4,q5,h2,bC,aJ,aD]
     ·have e1:=hnext (by rw [hoka]; simp [h0]; omega)
      simp [-map_map,-mapM_map,↓KW,aO,e0,g1,g2,q3,q4,q5,h2,hw8,bC,aJ,aD]
      refine aI (k+1+1) ⟨hgo,e1⟩ (Nat.sub_lt_sub_left hgo (Nat.lt_succ_self _)) (bB [] (by simp) ?_ ?_) <;> simp [-map_map,upd,aT,Γ0,aO]
  ·have q1:¬ (i:Int)<l.length:=by omega
   have e:sI l=true:=wN (fun j hj=>hok j (by omega))
   simp [-map_map,-mapM_map,↓KW,aO,q1,e]
set_option maxHeartbeats 2000000 in
set_option maxRecDepth 10000 in
theorem bHn {a b:List Cl} (ha:∀ x∈a,∀ f∈x.b,Sz f.2) (hb:∀ x∈b,∀ f∈x.b,Sz f.2) (hla:∀ x∈a,x.b.length≤1073741824) (hlb:∀ x∈b,x.b.length≤1073741824) (hl:a.length≤1073741824) (hl2:b.length≤1073741824):Spec Tryz.prog 16 [aP a,aP b] (.b (decide (a=b))):=by
 refine aX (N:=55) aF Tryz.func16 rfl rfl rfl (by kernel_rfl) (by kernel_rfl) (by simp) ?_
 by_cases hn:a.length=b.length
 rotate_left
 ·have h1:((a.length:Int) != b.length)=true:=by simp; omega
  have h2:¬ a=b:=fun e=>hn (by rw [e])
  simp [-map_map,-mapM_map,↓KW,aP,h1,h2]
 ·have h1:((a.length:Int) != b.length)=false:=by simp; omega
  simp [-map_map,-mapM_map,↓KW,aP,h1]
  refine aU (fun i:Nat=>i≤a.length∧a.take i=b.take i) (fun i=>StL [(0,.d (aP a)),(1,.d (aP b)),(5,.d (.i .i64 i))] none []) (fun i=>a.length - i) 0 ⟨Nat.zero_le _,by simp⟩ ?_ ?_
  ·refine bB [] (by simp) ?_ ?_ <;> simp [-map_map,upd,aT,Γ0,aP]
  ·rintro i ⟨hi,ht⟩
   by_cases hgo:i<a.length
   ·have hgb:i<b.length:=by omega
    have q1:(i:Int)<a.length:=by omega
    have hw7:IntKind.i64.wrap ((i:Int)+1)=(i:Int)+1:=aS (by omega) (by omega)
    have g1:a[i]? = some a[i]:=List.getElem?_eq_getElem hgo
    have g2:b[i]? = some b[i]:=List.getElem?_eq_getElem hgb
    have hsx:=ha _ (List.getElem_mem hgo)
    have hsy:=hb _ (List.getElem_mem hgb)
    have hlx:=hla _ (List.getElem_mem hgo)
    have hly:=hlb _ (List.getElem_mem hgb)
    have hne:a[i]≠b[i]→¬ a=b:=fun h e=>h (by subst e; rfl)
    have hta:a[i]=b[i]→a.take (i+1)=b.take (i+1):=fun e=>by rw [List.take_add_one,List.take_add_one,ht,g1,g2,e]
    generalize a[i]=x at *
    generalize b[i]=y at *
    obtain ⟨xi,xd,xb⟩:=x
    obtain ⟨yi,yd,yb⟩:=y
    simp only at hsx hsy hlx hly
    by_cases h2:xi=yi
    ·have h3:(xi != yi)=false:=by simpa using h2
     by_cases h6:xd=yd
     ·have h7:(xd != yd)=false:=by simpa using h6
      simp [-map_map,-mapM_map,↓KW,aP,q1,g1,g2,h3,h7,bK,aE,aB,aC]
      refine aA (ds:=[aO xb,aO yb]) (by rfl) (oO xb yb hsx hsy hlx hly) ?_
      by_cases h4:xb=yb
      ·have h5:=hta (by rw [h2,h4,h6])
       simp [-map_map,-mapM_map,↓KW,h4,hw7]
       refine aI (i+1) ⟨hgo,h5⟩ (Nat.sub_lt_sub_left hgo (Nat.lt_succ_self i)) (bB [] (by simp) ?_ ?_) <;> simp [-map_map,upd,aT,Γ0,aP]
      ·have h5:=hne (fun e=>h4 (by injection e))
       simp [-map_map,-mapM_map,↓KW,h4,h5]
     ·have h7:(xd != yd)=true:=by simpa using h6
      have h5:=hne (fun e=>h6 (by injection e))
      simp [-map_map,-mapM_map,↓KW,aP,q1,g1,g2,h3,h7,h5,bK,aE,aB,aC]
    ·have h3:(xi != yi)=true:=by simpa using h2
     have h5:=hne (fun e=>h2 (by injection e))
     simp [-map_map,-mapM_map,↓KW,aP,q1,g1,g2,h3,h5,bK,aE,aB,aC]
   ·have q1:¬ (i:Int)<a.length:=by omega
    have e:a=b:=by rwa [List.take_of_length_le (by omega),List.take_of_length_le (by omega)] at ht
    subst e
    simp [-map_map,-mapM_map,↓KW,aP,q1]
end Go.Am
end

section
set_option linter.unusedVariables false
set_option linter.unusedSimpArgs false
open List (map_map mapM_map)
open Go Go.Am Go.Proofs
namespace Go.Am
def nzF (f:Int × Int):Ch:=if f.2=0 then [] else [f]
def plM (k:Int):Ch→Ch→Ch
 | [],[]=>[]
 | x::a,[]=>nzF x++plM k a []
 | [],y::b=>nzF (y.1,k * y.2)++plM k [] b
 | x::a,y::b=>if x.1<y.1 then nzF x++plM k a (y::b) else if y.1<x.1 then nzF (y.1,k * y.2)++plM k (x::a) b else nzF (x.1,x.2+k * y.2)++plM k a b
termination_by a b=>a.length+b.length
theorem aBg (n:Int) (f:Int × Int) (l:Ch):cf n (nzF f++l)=cf n (f::l):=by
 unfold nzF
 by_cases h:f.2=0
 ·rw [if_pos h,List.nil_append]
  simp [cf,h]
 ·rw [if_neg h]; rfl
theorem wI (k n:Int):∀ a b:Ch,cf n (plM k a b)=cf n a+k * cf n b
 | [],[]=>by simp [plM,cf]
 | x::a,[]=>by
  have ih:=wI k n a []
  rw [plM,aBg]
  simp only [cf] at ih ⊢
  rw [ih]; simp only [Int.mul_zero,Int.add_zero]
 | [],y::b=>by
  have ih:=wI k n [] b
  rw [plM,aBg]
  simp only [cf] at ih ⊢
  rw [ih,Int.mul_add]
  split <;> simp
 | x::a,y::b=>by
  have h1:=wI k n a (y::b)
  have h2:=wI k n (x::a) b
  have h3:=wI k n a b
  rw [plM]
  split
  ·rw [aBg]
   simp only [cf] at h1 ⊢
   rw [h1]; omega
  ·split
   ·rw [aBg]
    simp only [cf] at h2 ⊢
    rw [h2,Int.mul_add]
    split
    ·split <;> (try simp only [Int.mul_zero]) <;> omega
    ·split <;> (try simp only [Int.mul_zero]) <;> omega
   ·rename_i g1 g2
    have he:x.1=y.1:=by omega
    rw [aBg]
    simp only [cf]
    rw [h3,he,Int.mul_add]
    split <;> (try simp only [Int.mul_zero]) <;> omega
termination_by a b=>a.length+b.length
theorem kX (k:Int):∀ (a b:Ch) (x:Int × Int),x∈plM k a b→x.2≠0∧((∃ y∈a,y.1=x.1)∨∃ y∈b,y.1=x.1)
 | [],[],x,h=>by simp [plM] at h
 | u::a,[],x,h=>by
  rw [plM] at h
  rcases List.mem_append.1 h with h | h
  ·unfold nzF at h
   split at h
   ·cases h
   ·rw [List.mem_singleton] at h; subst h; exact ⟨by assumption,.inl ⟨_,List.mem_cons_self ..,rfl⟩⟩
  ·obtain ⟨h1,h2⟩:=kX k a [] x h
   refine ⟨h1,?_⟩
   rcases h2 with ⟨y,hy,e⟩ | ⟨y,hy,e⟩
   ·exact .inl ⟨y,List.mem_cons_of_mem _ hy,e⟩
   ·cases hy
 | [],v::b,x,h=>by
  rw [plM] at h
  rcases List.mem_append.1 h with h | h
  ·unfold nzF at h
   split at h
   ·cases h
   ·rw [List.mem_singleton] at h; subst h; exact ⟨by assumption,.inr ⟨_,List.mem_cons_self ..,rfl⟩⟩
  ·obtain ⟨h1,h2⟩:=kX k [] b x h
   refine ⟨h1,?_⟩
   rcases h2 with ⟨y,hy,e⟩ | ⟨y,hy,e⟩
   ·cases hy
   ·exact .inr ⟨y,List.mem_cons_of_mem _ hy,e⟩
 | u::a,v::b,x,h=>by
  rw [plM] at h
  have up:((∃ y∈a,y.1=x.1)∨∃ y∈v::b,y.1=x.1)→((∃ y∈u::a,y.1=x.1)∨∃ y∈v::b,y.1=x.1):=fun h=>h.imp (fun ⟨y,hy,e⟩=>⟨y,List.mem_cons_of_mem _ hy,e⟩) id
  have up2:((∃ y∈u::a,y.1=x.1)∨∃ y∈b,y.1=x.1)→((∃ y∈u::a,y.1=x.1)∨∃ y∈v::b,y.1=x.1):=fun h=>h.imp id (fun ⟨y,hy,e⟩=>⟨y,List.mem_cons_of_mem _ hy,e⟩)
  split at h
  ·rcases List.mem_append.1 h with h | h
   ·unfold nzF at h
    split at h
    ·cases h
    ·rw [List.mem_singleton] at h; subst h; exact ⟨by assumption,.inl ⟨_,List.mem_cons_self ..,rfl⟩⟩
   ·obtain ⟨h1,h2⟩:=kX k a (v::b) x h
    exact ⟨h1,up h2⟩
  ·split at h
   ·rcases List.mem_append.1 h with h | h
    ·unfold nzF at h
     split at h
     ·cases h
     ·rw [List.mem_singleton] at h; subst h; exact ⟨by assumption,.inr ⟨_,List.mem_cons_self ..,rfl⟩⟩
    ·obtain ⟨h1,h2⟩:=kX k (u::a) b x h
     exact ⟨h1,up2 h2⟩
   ·rcases List.mem_append.1 h with h | h
    ·unfold nzF at h
     split at h
     ·cases h
     ·rw [List.mem_singleton] at h; subst h; exact ⟨by assumption,.inl ⟨_,List.mem_cons_self ..,rfl⟩⟩
    ·obtain ⟨h1,h2⟩:=kX k a b x h
     exact ⟨h1,h2.imp (fun ⟨y,hy,e⟩=>⟨y,List.mem_cons_of_mem _ hy,e⟩) (fun ⟨y,hy,e⟩=>⟨y,List.mem_cons_of_mem _ hy,e⟩)⟩
termination_by a b=>a.length+b.length
theorem tS {f:Int × Int} {l:Ch} (hl:Val l) (h:∀ y∈l,f.1<y.1):Val (nzF f++l):=by
 unfold nzF
 split
 ·exact hl
 ·refine ⟨List.pairwise_cons.2 ⟨h,hl.1⟩,fun y hy=>?_⟩
  rcases List.mem_cons.1 hy with rfl | hy
  ·assumption
  ·exact hl.2 y hy
theorem mY (k:Int):∀ {a b:Ch},Val a→Val b→Val (plM k a b)
 | [],[],_,_=>by rw [plM]; exact Val.nil
 | x::a,[],ha,hb=>by
  obtain ⟨h1,h2,_⟩:=ha.tail
  rw [plM]
  refine tS (mY k h1 hb) fun y hy=>?_
  rcases (kX k a [] y hy).2 with ⟨z,hz,e⟩ | ⟨z,hz,e⟩
  ·rw [← e]; exact h2 z hz
  ·cases hz
 | [],y::b,ha,hb=>by
  obtain ⟨h1,h2,_⟩:=hb.tail
  rw [plM]
  refine tS (mY k ha h1) fun u hu=>?_
  rcases (kX k [] b u hu).2 with ⟨z,hz,e⟩ | ⟨z,hz,e⟩
  ·cases hz
  ·rw [← e]; exact h2 z hz
 | x::a,y::b,ha,hb=>by
  obtain ⟨a1,a2,_⟩:=ha.tail
  obtain ⟨b1,b2,_⟩:=hb.tail
  rw [plM]
  split
  ·refine tS (mY k a1 hb) fun u hu=>?_
   rcases (kX k a (y::b) u hu).2 with ⟨z,hz,e⟩ | ⟨z,hz,e⟩
   ·rw [← e]; exact a2 z hz
   ·rcases List.mem_cons.1 hz with rfl | hz
    ·omega
    ·have:=b2 z hz; omega
  ·split
   ·refine tS (mY k ha b1) fun u hu=>?_
    simp only
    rcases (kX k (x::a) b u hu).2 with ⟨z,hz,e⟩ | ⟨z,hz,e⟩
    ·rcases List.mem_cons.1 hz with rfl | hz
     ·omega
     ·have:=a2 z hz; omega
    ·rw [← e]; exact b2 z hz
   ·refine tS (mY k a1 b1) fun u hu=>?_
    simp only
    rcases (kX k a b u hu).2 with ⟨z,hz,e⟩ | ⟨z,hz,e⟩
    ·rw [← e]; exact a2 z hz
    ·have:=b2 z hz; omega
termination_by a b=>a.length+b.length
theorem yA {a b:Ch} (ha:Val a) (hb:Val b) (k:Int):plM k a b=lin a b k:=by
 obtain ⟨h1,h2⟩:=yF ha hb k
 have h3:=mY k ha hb
 refine h3.ext h1 fun n=>?_
 rw [h2 n,← gY h3,wI,gY ha,gY hb]
theorem bHt (k:Int):plM k [] []=[]:=by rw [plM]
theorem aJg {k:Int} {a b:Ch} {i:Nat} (h:i<a.length) (hb:b=[]∨∃ y l,b=y::l∧a[i].1<y.1):plM k (a.drop i) b=nzF a[i]++plM k (a.drop (i+1)) b:=by
 rw [List.drop_eq_getElem_cons h]
 rcases hb with rfl | ⟨y,l,rfl,hlt⟩
 ·rw [plM]
 ·rw [plM,if_pos hlt]
theorem aDi {k:Int} {a b:Ch} {j:Nat} (h:j<b.length) (ha:a=[]∨∃ x l,a=x::l∧b[j].1<x.1):plM k a (b.drop j)=nzF (b[j].1,k * b[j].2)++plM k a (b.drop (j+1)):=by
 rw [List.drop_eq_getElem_cons h]
 rcases ha with rfl | ⟨x,l,rfl,hlt⟩
 ·rw [plM]
 ·rw [plM,if_neg (by omega),if_pos hlt]
theorem aZs {k:Int} {a b:Ch} {i j:Nat} (h:i<a.length) (h2:j<b.length) (he:a[i].1=b[j].1):plM k (a.drop i) (b.drop j)=nzF (a[i].1,a[i].2+k * b[j].2)++plM k (a.drop (i+1)) (b.drop (j+1)):=by
 rw [List.drop_eq_getElem_cons h,List.drop_eq_getElem_cons h2,plM,if_neg (by omega),if_neg (by omega)]
set_option maxHeartbeats 8000000 in
set_option maxRecDepth 10000 in
theorem xY {a b:Ch} {k:Int} {e f g:Nat} (ha:Bnd (2 ^ e) a) (hb:Bnd (2 ^ f) b) (hk:k.natAbs≤2 ^ g) (he:e+2<4398046511104) (hf:g+f+2<4398046511104) (hla:a.length≤1048576) (hlb:b.length≤1048576):Spec Tryz.prog 27 [aO a,aO b,encZ k] (aO (plM k a b)):=by
 have hkS:Sz k:=szE hk (by omega)
 refine aX (N:=116) aF Tryz.func27 rfl rfl rfl (by kernel_rfl) (by kernel_rfl) (by simp) ?_
 simp [-map_map,-mapM_map,↓KW,aO,bG,aJ,aD,aK]
 refine aU (fun y:Nat × Nat × Ch=>y.1≤a.length∧y.2.1≤b.length∧y.2.2.length≤y.1+y.2.1∧y.2.2++plM k (a.drop y.1) (b.drop y.2.1)=plM k a b) (fun y=>StL [(0,.d (aO a)),(1,.d (aO b)),(5,.ptr 1 0),(7,.own 2 0 y.2.2.length 3),(8,.d (.i .i64 (y.1:Int))),(9,.d (.i .i64 (y.2.1:Int)))] none [.cells 69 [.d (.b (decide (k<0))),.d (aG (aW k.natAbs))],.cells 89 ((fcs y.2.2).map .d)]) (fun y=>(a.length - y.1)+(b.length - y.2.1)) (0,0,[]) ⟨Nat.zero_le _,Nat.zero_le _,Nat.zero_le _,rfl⟩ ?_ ?_
 ·refine bB [1,2] (by simp) ?_ ?_ <;> simp [-map_map,upd,aT,Γ0,aO,fcs]
 ·rintro ⟨i,j,out⟩ ⟨hi,hj,hol,hinv⟩
  simp only at hi hj hol hinv
  refine (show ∃ n,out.length=n from ⟨_,rfl⟩).elim fun n hn=>?_
  rw [hn] at hol
  have hfl:=rN out
  rw [hn] at hfl
  have hb8:=cT (n:=n) (by omega)
  by_cases hgi:i<a.length
  ·have q1:(i:Int)<a.length:=by omega
   have hw1:IntKind.i64.wrap ((i:Int)+1)=((i+1:Nat):Int):=by rw [aS (by omega) (by omega)]; omega
   have g1:a[i]? = some a[i]:=List.getElem?_eq_getElem hgi
   have hax:=ha _ (List.getElem_mem hgi)
   by_cases hgj:j<b.length
   ·have q2:((j:Int) == b.length)=false:=by simp; omega
    have q3:(j:Int)<b.length:=by omega
    have q5:((i:Int) == a.length)=false:=by simp; omega
    have hw2:IntKind.i64.wrap ((j:Int)+1)=((j+1:Nat):Int):=by rw [aS (by omega) (by omega)]; omega
    have g2:b[j]? = some b[j]:=List.getElem?_eq_getElem hgj
    have hby:=hb _ (List.getElem_mem hgj)
    have st1:a[i].1<b[j].1→plM k (a.drop i) (b.drop j)=nzF a[i]++plM k (a.drop (i+1)) (b.drop j):=fun h=>aJg hgi (.inr ⟨_,_,List.drop_eq_getElem_cons hgj,h⟩)
    have st2:b[j].1<a[i].1→plM k (a.drop i) (b.drop j)=nzF (b[j].1,k * b[j].2)++plM k (a.drop i) (b.drop (j+1)):=fun h=>aDi hgj (.inr ⟨_,_,List.drop_eq_getElem_cons hgi,h⟩)
    have st3:=aZs (k:=k) hgi hgj
    refine (show ∃ x,a[i]=x from ⟨_,rfl⟩).elim fun x hxe=>?_
    refine (show ∃ y,b[j]=y from ⟨_,rfl⟩).elim fun y hye=>?_
    rw [hxe] at g1 st1 st2 st3 hax
    rw [hye] at g2 st1 st2 st3 hby
    obtain ⟨xi,xc⟩:=x
    obtain ⟨yi,yc⟩:=y
    simp only at hax hby st1 st2 st3
    have hsx:Sz xc:=szE hax (by omega)
    have hsy:Sz yc:=szE hby (by omega)
    have hM:=mX k yc hkS hsy
    have hmb:(k * yc).natAbs≤2 ^ (g+f):=by rw [Int.natAbs_mul,← oQ]; exact Nat.mul_le_mul hk hby
    refine (show ∃ z,k * yc=z from ⟨_,rfl⟩).elim fun z hze=>?_
    rw [hze] at hM st2 st3 hmb
    by_cases c1:xi<yi
    ·have hstep:=st1 c1
     have hol2:out.length≤i+1+j:=by omega
     simp [-map_map,-mapM_map,↓KW,aO,q1,q2,g1,g2,c1,hw1,bC,aJ,aD,aK]
     refine aA (ds:=[encZ xc]) (by rfl) (eN xc) ?_
     by_cases hz0:xc=0
     ·have hz1:((xc).sign != 0)=false:=by simp [hz0]
      have hz2:nzF (xi,xc)=[]:=by unfold nzF; rw [if_pos hz0]
      rw [hz2,List.nil_append] at hstep
      rw [hstep] at hinv
      simp [-map_map,-mapM_map,↓KW,hz1,hn,hw1]
      refine aI (τ:=Nat × Nat × Ch) (i+1,j,out) ⟨by simp only; omega,by simp only; omega,hol2,hinv⟩ (by simp only; omega) (bB [1,2] (by simp) ?_ ?_)
      ·simp [-map_map,upd,aT,Γ0,aO,hn]
      ·simp [-map_map,upd,aT,Γ0,aO,hn]
     ·have hz1:((xc).sign != 0)=true:=by simp [hz0]
      have hz2:nzF (xi,xc)=[(xi,xc)]:=by unfold nzF; rw [if_neg hz0]
      rw [hz2] at hstep
      rw [hstep,← List.append_assoc] at hinv
      simp [-map_map,-mapM_map,↓KW,hz1,bC,aJ,aD,cP,iG,hn,hfl,hb8,aZ,hw1]
      refine aI (τ:=Nat × Nat × Ch) (i+1,j,out++[(xi,xc)]) ⟨by simp only; omega,by simp only; omega,by simp only [List.length_append,List.length_singleton]; omega,hinv⟩ (by simp only; omega) (bB [1,5] (by simp) ?_ ?_)
      ·simp [-map_map,upd,aT,Γ0,aO,bC,cP,eF,hn]
      ·simp [-map_map,upd,aT,Γ0,aO,bC,cP,eF,hn]
    ·by_cases c2:yi<xi
     ·have hstep:=st2 c2
      have hol2:out.length≤i+(j+1):=by omega
      simp [-map_map,-mapM_map,↓KW,aO,q1,q2,q5,g1,g2,c1,c2,hw2,bC,aJ,aD,aK]
      refine aA (ds:=[encZ k,encZ yc]) (by rfl) hM ?_
      simp [-map_map,-mapM_map,↓KW,bG,hw2,bC,aJ,aD,aK]
      refine aA (ds:=[encZ z]) (by rfl) (eN z) ?_
      by_cases hz0:z=0
      ·have hz1:((z).sign != 0)=false:=by simp [hz0]
       have hz2:nzF (yi,z)=[]:=by unfold nzF; rw [if_pos hz0]
       rw [hz2,List.nil_append] at hstep
       rw [hstep] at hinv
       simp [-map_map,-mapM_map,↓KW,hz1,hn,hw2]
       refine aI (τ:=Nat × Nat × Ch) (i,j+1,out) ⟨by simp only; omega,by simp only; omega,hol2,hinv⟩ (by simp only; omega) (bB [1,2] (by simp) ?_ ?_)
       ·simp [-map_map,upd,aT,Γ0,aO,hn]
       ·simp [-map_map,upd,aT,Γ0,aO,hn]
      ·have hz1:((z).sign != 0)=true:=by simp [hz0]
       have hz2:nzF (yi,z)=[(yi,z)]:=by unfold nzF; rw [if_neg hz0]
       rw [hz2] at hstep
       rw [hstep,← List.append_assoc] at hinv
       simp [-map_map,-mapM_map,↓KW,hz1,bC,aJ,aD,cP,iG,hn,hfl,hb8,aZ,hw2]
       refine aI (τ:=Nat × Nat × Ch) (i,j+1,out++[(yi,z)]) ⟨by simp only; omega,by simp only; omega,by simp only [List.length_append,List.length_singleton]; omega,hinv⟩ (by simp only; omega) (bB [1,5] (by simp) ?_ ?_)
       ·simp [-map_map,upd,aT,Γ0,aO,bC,cP,eF,hn]
       ·simp [-map_map,upd,aT,Γ0,aO,bC,cP,eF,hn]
     ·have c3:xi=yi:=by omega
      have hstep:=st3 c3
      have hol2:out.length≤i+1+(j+1):=by omega
      have hA:=oP xc z (Nat.le_trans hsx (by decide)) (Nat.le_trans (szE hmb (by omega)) (by decide))
      simp [-map_map,-mapM_map,↓KW,aO,q1,q2,q5,g1,g2,c1,c2,hw1,hw2,bC,aJ,aD,aK]
      refine aA (ds:=[encZ k,encZ yc]) (by rfl) hM ?_
      simp [-map_map,-mapM_map,↓KW,bG,hw2,bC,aJ,aD,aK]
      refine aA (ds:=[encZ xc,encZ z]) (by rfl) hA ?_
      simp [-map_map,-mapM_map,↓KW,bG,hw1,hw2,bC,aJ,aD,aK]
      refine (show ∃ u,xc+z=u from ⟨_,rfl⟩).elim fun u hue=>?_
      rw [hue] at hstep ⊢
      refine aA (ds:=[encZ u]) (by rfl) (eN u) ?_
      by_cases hz0:u=0
      ·have hz1:((u).sign != 0)=false:=by simp [hz0]
       have hz2:nzF (xi,u)=[]:=by unfold nzF; rw [if_pos hz0]
       rw [hz2,List.nil_append] at hstep
       rw [hstep] at hinv
       simp [-map_map,-mapM_map,↓KW,hz1,hn,hw1,hw2]
       refine aI (τ:=Nat × Nat × Ch) (i+1,j+1,out) ⟨by simp only; omega,by simp only; omega,hol2,hinv⟩ (by simp only; omega) (bB [1,2] (by simp) ?_ ?_)
       ·simp [-map_map,upd,aT,Γ0,aO,hn]
       ·simp [-map_map,upd,aT,Γ0,aO,hn]
      ·have hz1:((u).sign != 0)=true:=by simp [hz0]
       have hz2:nzF (xi,u)=[(xi,u)]:=by unfold nzF; rw [if_neg hz0]
       rw [hz2] at hstep
       rw [hstep,← List.append_assoc] at hinv
       simp [-map_map,-mapM_map,↓KW,hz1,bC,aJ,aD,cP,iG,hn,hfl,hb8,aZ,hw1,hw2]
       refine aI (τ:=Nat × Nat × Ch) (i+1,j+1,out++[(xi,u)]) ⟨by simp only; omega,by simp only; omega,by simp only [List.length_append,List.length_singleton]; omega,hinv⟩ (by simp only; omega) (bB [1,5] (by simp) ?_ ?_)
       ·simp [-map_map,upd,aT,Γ0,aO,bC,cP,eF,hn]
       ·simp [-map_map,upd,aT,Γ0,aO,bC,cP,eF,hn]
   ·have hje:j=b.length:=by omega
    have q2:((j:Int) == b.length)=true:=by simp; omega
    have hstep:=aJg (k:=k) (b:=b.drop j) hgi (.inl (List.drop_eq_nil_of_le (by omega)))
    have hol2:out.length≤i+1+j:=by omega
    refine (show ∃ x,a[i]=x from ⟨_,rfl⟩).elim fun x hxe=>?_
    rw [hxe] at g1 hstep hax
    obtain ⟨xi,xc⟩:=x
    simp only at hax
    have hsx:Sz xc:=szE hax (by omega)
    simp [-map_map,-mapM_map,↓KW,aO,q1,q2,g1,hw1,bC,aJ,aD,aK]
    refine aA (ds:=[encZ xc]) (by rfl) (eN xc) ?_
    by_cases hz0:xc=0
    ·have hz1:((xc).sign != 0)=false:=by simp [hz0]
     have hz2:nzF (xi,xc)=[]:=by unfold nzF; rw [if_pos hz0]
     rw [hz2,List.nil_append] at hstep
     rw [hstep] at hinv
     simp [-map_map,-mapM_map,↓KW,hz1,hn,hw1]
     refine aI (τ:=Nat × Nat × Ch) (i+1,j,out) ⟨by simp only; omega,by simp only; omega,hol2,hinv⟩ (by simp only; omega) (bB [1,2] (by simp) ?_ ?_)
     ·simp [-map_map,upd,aT,Γ0,aO,hn]
     ·simp [-map_map,upd,aT,Γ0,aO,hn]
    ·have hz1:((xc).sign != 0)=true:=by simp [hz0]
     have hz2:nzF (xi,xc)=[(xi,xc)]:=by unfold nzF; rw [if_neg hz0]
     rw [hz2] at hstep
     rw [hstep,← List.append_assoc] at hinv
     simp [-map_map,-mapM_map,↓KW,hz1,bC,aJ,aD,cP,iG,hn,hfl,hb8,aZ,hw1]
     refine aI (τ:=Nat × Nat × Ch) (i+1,j,out++[(xi,xc)]) ⟨by simp only; omega,by simp only; omega,by simp only [List.length_append,List.length_singleton]; omega,hinv⟩ (by simp only; omega) (bB [1,5] (by simp) ?_ ?_)
     ·simp [-map_map,upd,aT,Γ0,aO,bC,cP,eF,hn]
     ·simp [-map_map,upd,aT,Γ0,aO,bC,cP,eF,hn]
  ·have q1:¬ (i:Int)<a.length:=by omega
   have q5:((i:Int) == a.length)=true:=by simp; omega
   have hde:a.drop i=[]:=List.drop_eq_nil_of_le (by omega)
   rw [hde] at hinv
   by_cases hgj:j<b.length
   ·have q2:((j:Int) == b.length)=false:=by simp; omega
    have q3:(j:Int)<b.length:=by omega
    have hw2:IntKind.i64.wrap ((j:Int)+1)=((j+1:Nat):Int):=by rw [aS (by omega) (by omega)]; omega
    have g2:b[j]? = some b[j]:=List.getElem?_eq_getElem hgj
    have hby:=hb _ (List.getElem_mem hgj)
    have hstep:=aDi (k:=k) hgj (.inl (rfl:([]:Ch)=[]))
    have hol2:out.length≤i+(j+1):=by omega
    refine (show ∃ y,b[j]=y from ⟨_,rfl⟩).elim fun y hye=>?_
    rw [hye] at g2 hstep hby
    obtain ⟨yi,yc⟩:=y
    simp only at hby hstep
    have hsy:Sz yc:=szE hby (by omega)
    have hM:=mX k yc hkS hsy
    refine (show ∃ z,k * yc=z from ⟨_,rfl⟩).elim fun z hze=>?_
    rw [hze] at hM hstep
    rw [← hde] at hinv hstep
    simp [-map_map,-mapM_map,↓KW,aO,q1,q2,q3,q5,g2,hw2,bC,aJ,aD,aK]
    refine aA (ds:=[encZ k,encZ yc]) (by rfl) hM ?_
    simp [-map_map,-mapM_map,↓KW,bG,hw2,bC,aJ,aD,aK]
    refine aA (ds:=[encZ z]) (by rfl) (eN z) ?_
    by_cases hz0:z=0
    ·have hz1:((z).sign != 0)=false:=by simp [hz0]
     have hz2:nzF (yi,z)=[]:=by unfold nzF; rw [if_pos hz0]
     rw [hz2,List.nil_append] at hstep
     rw [hstep] at hinv
     simp [-map_map,-mapM_map,↓KW,hz1,hn,hw2]
     refine aI (τ:=Nat × Nat × Ch) (i,j+1,out) ⟨by simp only; omega,by simp only; omega,hol2,hinv⟩ (by simp only; omega) (bB [1,2] (by simp) ?_ ?_)
     ·simp [-map_map,upd,aT,Γ0,aO,hn]
     ·simp [-map_map,upd,aT,Γ0,aO,hn]
    ·have hz1:((z).sign != 0)=true:=by simp [hz0]
     have hz2:nzF (yi,z)=[(yi,z)]:=by unfold nzF; rw [if_neg hz0]
     rw [hz2] at hstep
     rw [hstep,← List.append_assoc] at hinv
     simp [-map_map,-mapM_map,↓KW,hz1,bC,aJ,aD,cP,iG,hn,hfl,hb8,aZ,hw2]
     refine aI (τ:=Nat × Nat × Ch) (i,j+1,out++[(yi,z)]) ⟨by simp only; omega,by simp only; omega,by simp only [List.length_append,List.length_singleton]; omega,hinv⟩ (by simp only; omega) (bB [1,5] (by simp) ?_ ?_)
     ·simp [-map_map,upd,aT,Γ0,aO,bC,cP,eF,hn]
     ·simp [-map_map,upd,aT,Γ0,aO,bC,cP,eF,hn]
   ·have q3:¬ (j:Int)<b.length:=by omega
    rw [List.drop_eq_nil_of_le (by omega),bHt,List.append_nil] at hinv
    have hc:=rT hn
    have ht:=lR hn
    have hinv':plM k a b=out:=hinv.symm
    simp [-map_map,-mapM_map,↓KW,aO,q1,q3,hn,hfl,hc,ht,hinv']
end Go.Am
end

section
set_option linter.unusedVariables false
set_option linter.unusedSimpArgs false
open Go Go.Am Go.Proofs
namespace Go.Am
def rg (n:Nat) (f:Nat→Int):List Int:=(List.range n).map f
/-! Weights of boundaries -/
theorem lY (w:Int→Int) (c:List Cl):∀ y:List (Int × Int),bJ w (bdL c y)=bJ (fun m=>bJ w (bOf c m)) y
 | []=>rfl
 | f::y=>by
  show bJ w (mulR f.2 (bOf c f.1)++bdL c y)=_
  rw [lZ,kM,lY w c y]; rfl
theorem aCp {w:Int→Int}:∀ {l:List (Int × Int)},(∀ x∈l,w x.1=0)→bJ w l=0
 | [],_=>rfl
 | x::l,h=>by
  simp only [bJ]
  rw [h x (List.mem_cons_self ..),aCp fun y hy=>h y (List.mem_cons_of_mem _ hy)]; simp
theorem aSm (c:List Cl) (x:List (Int × Int)):Val (bdX c x)∧∀ n,getM (bdX c x) n=bJ (fun m=>cf n (bOf c m)) x:=by
 obtain ⟨h1,h2⟩:=dA (bdL c x) [] Val.nil
 exact ⟨h1,fun n=>by show getM (bY [] (bdL c x)) n=_; rw [h2 n,iV,Int.zero_add,aOv]⟩
def In (c:List Cl) (k:Int) (x:List (Int × Int)):Prop:=∀ f∈x,f.1∈cY c k
theorem In.lin {c:List Cl} {k:Int} {a b:List (Int × Int)} (ha:Val a) (hb:Val b) (ia:In c k a) (ib:In c k b) (n:Int):In c k (lin a b n):=aEa (S:=fun m=>m∈cY c k) ha hb ia ib
theorem bEt {c:List Cl} (hv:CxV c) {y:Cl} (hy:y∈c):bdX c [(y.id,1)]=y.b:=by
 obtain ⟨h1,h2⟩:=aSm c [(y.id,1)]
 refine h1.ext (hv.val y hy) fun n=>?_
 rw [h2]
 simp only [bJ]
 rw [hv.bOf hy,gY (hv.val y hy)]; omega
end Go.Am
end

section
set_option linter.unusedVariables false
set_option linter.unusedSimpArgs false
open List (map_map mapM_map)
open Go Go.Am Go.Proofs
namespace Go.Am
theorem aGt {c:List Cl} {x:Ch} {f g:Nat} (hc:SzX f c) (hx:x.length≤100) (hg:Bnd (2 ^ g) x) (i:Nat):Bnd (2 ^ (14+(f+g))) (bY [] (bdL c (x.take i)))∧(bY [] (bdL c (x.take i))).length≤10000:=by
 obtain ⟨h1,h2⟩:=bEv (x:=x.take i) hc (by rw [List.length_take]; omega) (hg.take (i:=i))
 have h3:=iZ (bdL c (x.take i)) [] (Bnd.nil 0) h2
 have h4:=kG [] (bdL c (x.take i))
 simp only [List.length_nil,Nat.zero_add] at h3 h4
 exact ⟨h3.mono (oR (Nat.le_trans h1 (by decide))),by omega⟩
set_option maxHeartbeats 2000000 in
set_option maxRecDepth 10000 in
theorem aDd {c:List Cl} {x:Ch} {f g:Nat} (hv:∀ y∈c,Val y.b) (hc:SzX f c) (hx:x.length≤100) (hg:Bnd (2 ^ g) x) (hfg:f+g+20<4398046511104):Spec Tryz.prog 52 [aP c,aO x] (aO (bdX c x)):=by
 have hlen:=hc.len
 refine aX (N:=36) aF Tryz.func52 rfl rfl rfl (by kernel_rfl) (by kernel_rfl) (by simp) ?_
 simp [-map_map,-mapM_map,↓KW,aP,aO]
 refine aU (fun i:Nat=>i≤x.length) (fun i=>StL [(0,.d (aP c)),(1,.d (aO x)),(5,.d (aO (bY [] (bdL c (x.take i))))),(6,.d (.i .i64 (i:Int)))] none []) (fun i=>x.length - i) 0 (Nat.zero_le _) ?_ ?_
 ·refine bB [] (by simp) ?_ ?_
  ·simp [-map_map,upd,aT,Γ0,aP,aO,bY,bdL]
   exact mT (by simp [iM,upd,nB]) (fun a _ id h=>by simp [oH] at h)
  ·trivial
 ·intro i hi
  by_cases hgo:i<x.length
  ·have q1:(i:Int)<x.length:=by omega
   have hx1:x[i]? = some x[i]:=List.getElem?_eq_getElem hgo
   have hw:IntKind.i64.wrap ((i:Int)+1)=(i:Int)+1:=aS (by omega) (by omega)
   have hxg:=hg _ (List.getElem_mem hgo)
   obtain ⟨ob,ol⟩:=aGt hc hx hg i
   have ov:=(dA (bdL c (x.take i)) [] Val.nil).1
   have htk:bY [] (bdL c (x.take (i+1)))=bY (bY [] (bdL c (x.take i))) (mulR x[i].2 (bOf c x[i].1)):=by rw [bEu hgo,aBp]
   refine (show ∃ u,x[i]=u from ⟨_,rfl⟩).elim fun u hue=>?_
   rw [hue] at hx1 hxg htk
   obtain ⟨n,z⟩:=u
   simp only at hxg htk
   have hbv:Val (bOf c n):=by
    unfold bOf
    cases e:cF c n with
    | none=>exact Val.nil
    | some y=>exact hv y (dT e).1
   have hbb:=yK hc.bb n
   have hbl:=yJ hc.bl n
   have hF:=mW c n (by omega)
   refine (show ∃ out,bY [] (bdL c (x.take i))=out from ⟨_,rfl⟩).elim fun out hoe=>?_
   rw [hoe] at ob ol ov htk
   have hP:=xY (k:=z) ob hbb hxg (by omega) (by omega) (by omega) (by omega)
   rw [yA ov hbv] at hP
   unfold lin at hP
   rw [← htk] at hP
   unfold vX at hF
   have hbo:bOf c n=((cF c n).getD xJ).b:=rfl
   rw [hbo] at hP
   simp only [hoe]
   simp [-map_map,-mapM_map,↓KW,aP,aO,q1,hx1,bC,aJ,aD,aK]
   refine aA (ds:=[aP c,.i .i64 n]) (by rfl) hF ?_
   simp [-map_map,-mapM_map,↓KW,aP,aO,eH,q1,hx1,bC,aJ,aD,aK,aE,aB,aC]
   refine aA (ds:=[aO out,aO ((cF c n).getD xJ).b,encZ z]) (by rfl) hP ?_
   simp [-map_map,-mapM_map,↓KW,hw,aR,bI,aE,aB]
   refine aI (i+1) hgo (Nat.sub_lt_sub_left hgo (Nat.lt_succ_self _)) (bB [] (by simp) ?_ ?_) <;> simp [-map_map,upd,aT,Γ0,aP,aO]
  ·have q1:¬ (i:Int)<x.length:=by omega
   rw [List.take_of_length_le (by omega)]
   simp [-map_map,-mapM_map,↓KW,aP,aO,q1,bdX]
/-! Images -/
def apP (m:List (Int × Ch)) (f:Int × Int):Ch:=m.flatMap fun p=>if p.1=f.1 then mulR f.2 p.2 else []
def apL (m:List (Int × Ch)) (x:Ch):Ch:=x.flatMap (apP m)
def apX (m:List (Int × Ch)) (x:Ch):Ch:=bY [] (apL m x)
structure SzM (h:Nat) (m:List (Int × Ch)):Prop where
 len:m.length≤100
 bl:∀ p∈m,p.2.length≤100
 bb:∀ p∈m,Bnd (2 ^ h) p.2
 val:∀ p∈m,Val p.2
theorem aPh {h g:Nat}:∀ {m:List (Int × Ch)} {f:Int × Int},(∀ p∈m,p.2.length≤100)→(∀ p∈m,Bnd (2 ^ h) p.2)→f.2.natAbs≤2 ^ g→(apP m f).length≤m.length * 100∧Bnd (2 ^ (g+h)) (apP m f)
 | [],f,_,_,_=>⟨Nat.zero_le _,Bnd.nil _⟩
 | p::m,f,h1,h2,h3=>by
  obtain ⟨i1,i2⟩:=aPh (m:=m) (f:=f) (fun q hq=>h1 q (List.mem_cons_of_mem _ hq)) (fun q hq=>h2 q (List.mem_cons_of_mem _ hq)) h3
  have hp1:=h1 p (List.mem_cons_self ..)
  have hp2:=qE h3 (h2 p (List.mem_cons_self ..))
  rw [oQ] at hp2
  show ((if p.1=f.1 then mulR f.2 p.2 else [])++apP m f).length≤_∧Bnd _ ((if p.1=f.1 then mulR f.2 p.2 else [])++apP m f)
  rw [List.length_append,List.length_cons,Nat.succ_mul]
  split
  ·exact ⟨by rw [zT]; omega,hp2.app i2⟩
  ·exact ⟨by simp only [List.length_nil]; omega,i2⟩
theorem aBo {h g:Nat} {m:List (Int × Ch)} (hm:SzM h m):∀ {x:Ch},Bnd (2 ^ g) x→(apL m x).length≤x.length * 10000∧Bnd (2 ^ (g+h)) (apL m x)
 | [],_=>⟨Nat.zero_le _,Bnd.nil _⟩
 | f::x,hx=>by
  obtain ⟨i1,i2⟩:=aBo hm (x:=x) fun y hy=>hx y (List.mem_cons_of_mem _ hy)
  obtain ⟨j1,j2⟩:=aPh (f:=f) hm.bl hm.bb (hx f (List.mem_cons_self ..))
  have:=hm.len
  have h2:m.length * 100≤10000:=by omega
  show (apP m f++apL m x).length≤_∧Bnd _ (apP m f++apL m x)
  rw [List.length_append,List.length_cons,Nat.succ_mul]
  exact ⟨by omega,j2.app i2⟩
theorem aBn {m:List (Int × Ch)} {x:Ch} {i:Nat} (h:i<x.length):apL m (x.take (i+1))=apL m (x.take i)++apP m x[i]:=by
 unfold apL
 rw [List.take_add_one,List.getElem?_eq_getElem h,List.flatMap_append]; simp
theorem bFd {m:List (Int × Ch)} {f:Int × Int} {j:Nat} (h:j<m.length):apP (m.take (j+1)) f=apP (m.take j) f++if m[j].1=f.1 then mulR f.2 m[j].2 else []:=by
 unfold apP
 rw [List.take_add_one,List.getElem?_eq_getElem h,List.flatMap_append]; simp
theorem bLe {h g:Nat} {m:List (Int × Ch)} {x:Ch} (hm:SzM h m) (hx:x.length≤100) (hg:Bnd (2 ^ g) x) {i:Nat} (hi:i<x.length) (j:Nat) :
  Val (bY [] (apL m (x.take i)++apP (m.take j) x[i]))∧Bnd (2 ^ (20+(g+h))) (bY [] (apL m (x.take i)++apP (m.take j) x[i]))∧(bY [] (apL m (x.take i)++apP (m.take j) x[i])).length≤1000000:=by
 have i1:=aBo hm (x:=x.take i) (g:=g) hg.take
 have j1:=aPh (m:=m.take j) (f:=x[i]) (h:=h) (fun p hp=>hm.bl p (List.mem_of_mem_take hp)) (fun p hp=>hm.bb p (List.mem_of_mem_take hp)) (hg _ (List.getElem_mem hi))
 have hl:(apL m (x.take i)++apP (m.take j) x[i]).length≤1000000:=by
  have hm1:=hm.len
  have h2:(m.take j).length≤m.length:=by rw [List.length_take]; omega
  have h3:(m.take j).length * 100≤10000:=by omega
  have h4:(x.take i).length≤99:=by rw [List.length_take]; omega
  have h5:=Nat.mul_le_mul_right 10000 h4
  rw [List.length_append]; omega
 have hb:=iZ _ [] (Bnd.nil 0) (i1.2.app j1.2)
 have hn:=kG [] (apL m (x.take i)++apP (m.take j) x[i])
 simp only [List.length_nil,Nat.zero_add] at hb hn
 exact ⟨(dA _ [] Val.nil).1,hb.mono (oR (Nat.le_trans hl (by decide))),by omega⟩
set_option maxHeartbeats 2000000 in
set_option maxRecDepth 10000 in
theorem aIr {m:List (Int × Ch)} {x:Ch} {h g:Nat} (hm:SzM h m) (hx:x.length≤100) (hg:Bnd (2 ^ g) x) (hgh:g+h+24<4398046511104):Spec Tryz.prog 18 [aV m,aO x] (aO (apX m x)):=by
 have hml:=hm.len
 refine aX (N:=45) aF Tryz.func18 rfl rfl rfl (by kernel_rfl) (by kernel_rfl) (by simp) ?_
 simp [-map_map,-mapM_map,↓KW,aV,aO]
 refine aU (fun i:Nat=>i≤x.length) (fun i=>StL [(0,.d (aV m)),(1,.d (aO x)),(5,.d (aO (bY [] (apL m (x.take i))))),(6,.d (.i .i64 (i:Int)))] none []) (fun i=>x.length - i) 0 (Nat.zero_le _) ?_ ?_
 ·refine bB [] (by simp) ?_ ?_
  ·simp [-map_map,upd,aT,Γ0,aV,aO,bY,apL]
   exact mT (by simp [iM,upd,nB]) (fun a _ id h=>by simp [oH] at h)
  ·trivial
 ·intro i hi
  by_cases hgo:i<x.length
  ·have q1:(i:Int)<x.length:=by omega
   have hx1:x[i]? = some x[i]:=List.getElem?_eq_getElem hgo
   have hw:IntKind.i64.wrap ((i:Int)+1)=(i:Int)+1:=aS (by omega) (by omega)
   have hxg:=hg _ (List.getElem_mem hgo)
   have hpt:=fun j=>bLe hm hx hg hgo j
   have htk:bY [] (apL m (x.take (i+1)))=bY [] (apL m (x.take i)++apP m x[i]):=by rw [aBn hgo]
   have h0:bY [] (apL m (x.take i))=bY [] (apL m (x.take i)++apP (m.take 0) x[i]):=by rw [List.take_zero]; simp [apP]
   refine (show ∃ u,x[i]=u from ⟨_,rfl⟩).elim fun u hue=>?_
   rw [hue] at hx1 hxg htk h0
   simp only [hue] at hpt
   obtain ⟨n,z⟩:=u
   simp only at hxg
   rw [h0]
   refine (show ∃ pre,apL m (x.take i)=pre from ⟨_,rfl⟩).elim fun pre hpe=>?_
   rw [hpe] at htk ⊢
   simp only [hpe] at hpt
   simp [-map_map,-mapM_map,↓KW,aV,aO,q1,hx1,bC,aJ,aD,aK]
   refine aU (fun j:Nat=>j≤m.length) (fun j=>StL [(0,.d (aV m)),(1,.d (aO x)),(5,.d (aO (bY [] (pre++apP (m.take j) (n,z))))),(6,.d (.i .i64 (i:Int))),(7,.d (.i .i64 (j:Int)))] none []) (fun j=>m.length - j) 0 (Nat.zero_le _) ?_ ?_
   ·refine bB [] (by simp) ?_ ?_ <;> simp [-map_map,upd,aT,Γ0,aV,aO]
   ·intro j hj
    by_cases hgo2:j<m.length
    ·have q2:(j:Int)<m.length:=by omega
     have hy1:m[j]? = some m[j]:=List.getElem?_eq_getElem hgo2
     have hw2:IntKind.i64.wrap ((j:Int)+1)=(j:Int)+1:=aS (by omega) (by omega)
     obtain ⟨ov,ob,ol⟩:=hpt j
     have hmv:=hm.val _ (List.getElem_mem hgo2)
     have hmb:=hm.bb _ (List.getElem_mem hgo2)
     have hml2:=hm.bl _ (List.getElem_mem hgo2)
     have htk2:bY [] (pre++apP (m.take (j+1)) (n,z))=bY (bY [] (pre++apP (m.take j) (n,z))) (if m[j].1=n then mulR z m[j].2 else []):=by
      rw [bFd hgo2,← List.append_assoc,aBp]
     refine (show ∃ p,m[j]=p from ⟨_,rfl⟩).elim fun p hpe2=>?_
     rw [hpe2] at hy1 hmv hmb hml2 htk2
     obtain ⟨q,y⟩:=p
     simp only at hmv hmb hml2 htk2
     refine (show ∃ out,bY [] (pre++apP (m.take j) (n,z))=out from ⟨_,rfl⟩).elim fun out hoe=>?_
     rw [hoe] at ob ol ov htk2
     simp only [hoe]
     by_cases h1:q=n
     ·have h1':((q == n):Bool)=true:=by simpa using h1
      have q3:(((n:Int) == (n:Int)):Bool)=true:=by simp
      rw [if_pos h1] at htk2
      have hP:=xY (k:=z) ob hmb hxg (by omega) (by omega) (by omega) (by omega)
      rw [yA ov hmv] at hP
      unfold lin at hP
      rw [← htk2] at hP
      simp [-map_map,-mapM_map,↓KW,aV,aO,eP,q2,hx1,hy1,h1,h1',q3,bC,aJ,aD,aK,aE,aB,aC]
      refine aA (ds:=[aO out,aO y,encZ z]) (by rfl) hP ?_
      simp [-map_map,-mapM_map,↓KW,hw2,aR,bI,aE,aB]
      refine aI (j+1) hgo2 (Nat.sub_lt_sub_left hgo2 (Nat.lt_succ_self _)) (bB [] (by simp) ?_ ?_) <;> simp [-map_map,upd,aT,Γ0,aV,aO]
     ·have h1':((q == n):Bool)=false:=by simpa using h1
      rw [if_neg h1] at htk2
      have htk3:bY [] (pre++apP (m.take (j+1)) (n,z))=out:=htk2
      simp [-map_map,-mapM_map,↓KW,aV,aO,eP,q2,hx1,hy1,h1,h1',bC,aJ,aD,aK,aE,aB,aC,hw2]
      refine aI (j+1) hgo2 (Nat.sub_lt_sub_left hgo2 (Nat.lt_succ_self _)) (bB [] (by simp) ?_ ?_) <;> simp [-map_map,upd,aT,Γ0,aV,aO,htk3]
    ·have q2:¬ (j:Int)<m.length:=by omega
     rw [List.take_of_length_le (by omega),← htk]
     simp [-map_map,-mapM_map,↓KW,aV,aO,q2,hw]
     refine aI (i+1) hgo (Nat.sub_lt_sub_left hgo (Nat.lt_succ_self _)) (bB [] (by simp) ?_ ?_) <;> simp [-map_map,upd,aT,Γ0,aV,aO]
  ·have q1:¬ (i:Int)<x.length:=by omega
   rw [List.take_of_length_le (by omega)]
   simp [-map_map,-mapM_map,↓KW,aV,aO,q1,apX]
end Go.Am
end

section
set_option linter.unusedVariables false
set_option linter.unusedSimpArgs false
open List (map_map mapM_map)
open Go Go.Am Go.Proofs
namespace Go.Am
structure CmT (a b:List Cl) (m:List (Int × Ch)):Prop where
 len:m.length=a.length
 id:∀ (i:Nat) x p,a[i]? = some x→m[i]? = some p→p.1=x.id
 key:∀ (i:Nat) x p,a[i]? = some x→m[i]? = some p→∀ f∈p.2,∃ y,cF b f.1=some y∧y.dim=x.dim
 bd:∀ (i:Nat) x p,a[i]? = some x→m[i]? = some p→bdX b p.2=apX m x.b
set_option maxHeartbeats 4000000 in
set_option maxRecDepth 10000 in
theorem aIp {a b:List Cl} {m:List (Int × Ch)} {e f h:Nat} (hc:CmT a b m) (ha:SzX e a) (hb:SzX f b) (hbv:∀ y∈b,Val y.b) (hm:SzM h m) (h1:f+h+20<4398046511104) (h2:e+h+24<4398046511104) :
  Spec Tryz.prog 15 [aP a,aP b,aV m] (.b true):=by
 have hal:=ha.len
 have hbl:=hb.len
 have hml:=hc.len
 refine aX (N:=101) aF Tryz.func15 rfl rfl rfl (by kernel_rfl) (by kernel_rfl) (by simp) ?_
 have h0:((m.length:Int) != a.length)=false:=by simp; omega
 simp [-map_map,-mapM_map,↓KW,aP,aV,h0]
 refine aU (fun i:Nat=>i≤a.length) (fun i=>StL [(0,.d (aP a)),(1,.d (aP b)),(2,.d (aV m)),(7,.d (.i .i64 (i:Int)))] none []) (fun i=>a.length - i) 0 (Nat.zero_le _) ?_ ?_
 ·refine bB [] (by simp) ?_ ?_ <;> simp [-map_map,upd,aT,Γ0,aP,aV]
 ·intro i hi
  by_cases hgo:i<a.length
  ·have q1:(i:Int)<a.length:=by omega
   have hgm:i<m.length:=by omega
   have hx:a[i]? = some a[i]:=List.getElem?_eq_getElem hgo
   have hp:m[i]? = some m[i]:=List.getElem?_eq_getElem hgm
   have hw:IntKind.i64.wrap ((i:Int)+1)=(i:Int)+1:=aS (by omega) (by omega)
   have hid:=hc.id i _ _ hx hp
   have hkey:=hc.key i _ _ hx hp
   have hpv:=hm.val _ (List.getElem_mem hgm)
   have hpb:=hm.bb _ (List.getElem_mem hgm)
   have hpl:=hm.bl _ (List.getElem_mem hgm)
   refine (show ∃ x,a[i]=x from ⟨_,rfl⟩).elim fun x hxe=>?_
   refine (show ∃ p,m[i]=p from ⟨_,rfl⟩).elim fun p hpe=>?_
   rw [hxe] at hx hid hkey
   rw [hpe] at hp hid hkey hpv hpb hpl
   obtain ⟨n,y⟩:=p
   simp only at hid hkey hpv hpb hpl
   have hV:=nJ y (hpb.sz (by omega)) (by omega)
   rw [sJ hpv] at hV
   have hyc:bK x=[D.i .i64 x.id,.i .i64 x.dim,aO x.b]:=rfl
   have q3:((x.id != x.id):Bool)=false:=by simp
   simp [-map_map,-mapM_map,↓KW,aP,aV,eP,q1,hx,hp,hyc,hid,q3,aE,aB,aC]
   refine aA (ds:=[aO y]) (by rfl) hV ?_
   simp [-map_map,-mapM_map,↓KW,aP,aV,aO]
   refine aU (fun j:Nat=>j≤y.length) (fun j=>StL [(0,.d (aP a)),(1,.d (aP b)),(2,.d (aV m)),(7,.d (.i .i64 (i:Int))),(8,.d (.i .i64 (j:Int)))] none []) (fun j=>y.length - j) 0 (Nat.zero_le _) ?_ ?_
   ·refine bB [] (by simp) ?_ ?_ <;> simp [-map_map,upd,aT,Γ0,aP,aV]
   ·intro j hj
    by_cases hgo2:j<y.length
    ·have q2:(j:Int)<y.length:=by omega
     have hf:y[j]? = some y[j]:=List.getElem?_eq_getElem hgo2
     have hw2:IntKind.i64.wrap ((j:Int)+1)=(j:Int)+1:=aS (by omega) (by omega)
     obtain ⟨z,hz,hzd⟩:=hkey _ (List.getElem_mem hgo2)
     refine (show ∃ u,y[j]=u from ⟨_,rfl⟩).elim fun u hue=>?_
     rw [hue] at hf hz
     obtain ⟨n2,v2⟩:=u
     simp only at hz
     have hF:=mW b n2 (by omega)
     unfold vX at hF
     rw [hz] at hF
     simp only [Option.getD_some,Option.isSome_some] at hF
     have q4:((x.dim != x.dim):Bool)=false:=by simp
     simp [-map_map,-mapM_map,↓KW,aP,aV,eP,aO,q2,hp,hx,hf,bC,aJ,aD,aK]
     refine aA (ds:=[aP b,.i .i64 n2]) (by rfl) hF ?_
     simp [-map_map,-mapM_map,↓KW,aP,aV,eH,hyc,hx,hzd,q4,hw2,aE,aB,aC]
     refine aI (j+1) hgo2 (Nat.sub_lt_sub_left hgo2 (Nat.lt_succ_self _)) (bB [] (by simp) ?_ ?_) <;> simp [-map_map,upd,aT,Γ0,aP,aV]
    ·have q2:¬ (j:Int)<y.length:=by omega
     simp [-map_map,-mapM_map,↓KW,aP,aV,eP,aO,q2,hp,hx,hw]
     refine aI (i+1) hgo (Nat.sub_lt_sub_left hgo (Nat.lt_succ_self _)) (bB [] (by simp) ?_ ?_) <;> simp [-map_map,upd,aT,Γ0,aP,aV]
  ·have q1:¬ (i:Int)<a.length:=by omega
   simp [-map_map,-mapM_map,↓KW,aP,aV,q1]
   refine aU (fun i:Nat=>i≤a.length) (fun i=>StL [(0,.d (aP a)),(1,.d (aP b)),(2,.d (aV m)),(11,.d (.i .i64 (i:Int)))] none []) (fun i=>a.length - i) 0 (Nat.zero_le _) ?_ ?_
   ·refine bB [] (by simp) ?_ ?_ <;> simp [-map_map,upd,aT,Γ0,aP,aV]
   ·clear hgo q1 hi i
    intro i hi
    by_cases hgo:i<a.length
    ·have q1:(i:Int)<a.length:=by omega
     have hgm:i<m.length:=by omega
     have hx:a[i]? = some a[i]:=List.getElem?_eq_getElem hgo
     have hp:m[i]? = some m[i]:=List.getElem?_eq_getElem hgm
     have hw:IntKind.i64.wrap ((i:Int)+1)=(i:Int)+1:=aS (by omega) (by omega)
     have hbd:=hc.bd i _ _ hx hp
     have hpb:=hm.bb _ (List.getElem_mem hgm)
     have hpl:=hm.bl _ (List.getElem_mem hgm)
     have hxb:=ha.bb _ (List.getElem_mem hgo)
     have hxl:=ha.bl _ (List.getElem_mem hgo)
     refine (show ∃ x,a[i]=x from ⟨_,rfl⟩).elim fun x hxe=>?_
     refine (show ∃ p,m[i]=p from ⟨_,rfl⟩).elim fun p hpe=>?_
     rw [hxe] at hx hbd hxb hxl
     rw [hpe] at hp hbd hpb hpl
     obtain ⟨n,y⟩:=p
     simp only at hbd hpb hpl
     have hA:=aDd (x:=y) hbv hb hpl hpb h1
     have hP:=aIr (x:=x.b) hm hxl hxb h2
     have hB:=bLc hb hpl hpb
     have hS:=oO (bdX b y) (apX m x.b) (hB.1.sz (by omega)) (by rw [← hbd]; exact hB.1.sz (by omega)) (by have:=hB.2; omega) (by rw [← hbd]; have:=hB.2; omega)
     rw [decide_eq_true hbd] at hS
     have hyc:bK x=[D.i .i64 x.id,.i .i64 x.dim,aO x.b]:=rfl
     simp [-map_map,-mapM_map,↓KW,aP,aV,eP,q1,hx,hp,hyc,aE,aB,aC]
     refine aA (ds:=[aP b,aO y]) (by rfl) hA ?_
     simp [-map_map,-mapM_map,↓KW,aP,aV,eP,q1,hx,hp,hyc,aE,aB,aC,aR,bI]
     refine aA (ds:=[aV m,aO x.b]) (by rfl) hP ?_
     simp [-map_map,-mapM_map,↓KW,aP,aV,eP,q1,hx,hp,hyc,aE,aB,aC,aR,bI]
     refine aA (ds:=[aO (bdX b y),aO (apX m x.b)]) (by rfl) hS ?_
     simp [-map_map,-mapM_map,↓KW,aP,aV,hw]
     refine aI (i+1) hgo (Nat.sub_lt_sub_left hgo (Nat.lt_succ_self _)) (bB [] (by simp) ?_ ?_) <;> simp [-map_map,upd,aT,Γ0,aP,aV]
    ·have q1:¬ (i:Int)<a.length:=by omega
     simp [-map_map,-mapM_map,↓KW,aP,aV,q1]
set_option maxHeartbeats 4000000 in
set_option maxRecDepth 10000 in
theorem bHo {c:List Cl} {x:Cl} {e f:Nat} (hc:SzX e c) (hcv:∀ y∈c,Val y.b) (hxv:Val x.b) (hxl:x.b.length≤100) (hxb:Bnd (2 ^ f) x.b) (hd:0≤x.dim∧x.dim≤3) (hk:∀ g∈x.b,∃ y,cF c g.1=some y∧y.dim=x.dim - 1) (hz:bdX c x.b=[])
  (hef:e+f+20<4398046511104):Spec Tryz.prog 51 [aP c,.ag (bK x)] (.i .i64 0):=by
 have hcl:=hc.len
 refine aX (N:=73) aF Tryz.func51 rfl rfl rfl (by kernel_rfl) (by kernel_rfl) (by simp) ?_
 have hV:=nJ x.b (hxb.sz (by omega)) (by omega)
 rw [sJ hxv] at hV
 have hA:=aDd hcv hc hxl hxb (by omega)
 rw [hz] at hA
 simp [-map_map,-mapM_map,↓KW,aP,eH,aE,aB,aC]
 refine aA (ds:=[aO x.b]) (by rfl) hV ?_
 simp [-map_map,-mapM_map,↓KW,aP]
 refine aU (fun j:Nat=>j≤x.b.length) (fun j=>StL [(0,.d (aP c)),(3,.ptr 1 0),(5,.d (.i .i64 (j:Int)))] none [.cells 47 [.d (.i .i64 x.id),.d (.i .i64 x.dim),.d (aO x.b)]]) (fun j=>x.b.length - j) 0 (Nat.zero_le _) ?_ ?_
 ·refine bB [1] (by simp) ?_ ?_ <;> simp [-map_map,upd,aT,Γ0,aP]
 ·intro j hj
  by_cases hgo2:j<x.b.length
  ·have q2:(j:Int)<x.b.length:=by omega
   have hf:x.b[j]? = some x.b[j]:=List.getElem?_eq_getElem hgo2
   have hw2:IntKind.i64.wrap ((j:Int)+1)=(j:Int)+1:=aS (by omega) (by omega)
   obtain ⟨z,hzf,hzd⟩:=hk _ (List.getElem_mem hgo2)
   refine (show ∃ u,x.b[j]=u from ⟨_,rfl⟩).elim fun u hue=>?_
   rw [hue] at hf hzf
   obtain ⟨n2,v2⟩:=u
   simp only at hzf
   have hF:=mW c n2 (by omega)
   unfold vX at hF
   rw [hzf] at hF
   simp only [Option.getD_some,Option.isSome_some] at hF
   simp [-map_map,-mapM_map,↓KW,aP,aO,q2,hf,bC,aJ,aD,aK]
   refine aA (ds:=[aP c,.i .i64 n2]) (by rfl) hF ?_
   simp [-map_map,-mapM_map,↓KW,aP,eH,hw2,aE,aB,aC]
   refine aI (j+1) hgo2 (Nat.sub_lt_sub_left hgo2 (Nat.lt_succ_self _)) (bB [1] (by simp) ?_ ?_) <;> simp [-map_map,upd,aT,Γ0,aP,aO]
  ·have q2:¬ (j:Int)<x.b.length:=by omega
   have d1:¬ x.dim<0:=by omega
   have d2:¬ 3<x.dim:=by omega
   simp [-map_map,-mapM_map,↓KW,aP,aO,q2,d1,d2]
   refine aU (fun j:Nat=>j≤x.b.length) (fun j=>StL [(0,.d (aP c)),(3,.ptr 1 0),(8,.d (.i .i64 (j:Int)))] none [.cells 47 [.d (.i .i64 x.id),.d (.i .i64 x.dim),.d (aO x.b)]]) (fun j=>x.b.length - j) 0 (Nat.zero_le _) ?_ ?_
   ·refine bB [1] (by simp) ?_ ?_ <;> simp [-map_map,upd,aT,Γ0,aP,aO]
   ·clear hgo2 q2 hj j
    intro j hj
    by_cases hgo2:j<x.b.length
    ·have q2:(j:Int)<x.b.length:=by omega
     have hf:x.b[j]? = some x.b[j]:=List.getElem?_eq_getElem hgo2
     have hw2:IntKind.i64.wrap ((j:Int)+1)=(j:Int)+1:=aS (by omega) (by omega)
     have hw3:IntKind.i64.wrap (x.dim - 1)=x.dim - 1:=aS (by omega) (by omega)
     obtain ⟨z,hzf,hzd⟩:=hk _ (List.getElem_mem hgo2)
     refine (show ∃ u,x.b[j]=u from ⟨_,rfl⟩).elim fun u hue=>?_
     rw [hue] at hf hzf
     obtain ⟨n2,v2⟩:=u
     simp only at hzf
     have hF:=mW c n2 (by omega)
     unfold vX at hF
     rw [hzf] at hF
     simp only [Option.getD_some,Option.isSome_some] at hF
     have q4:((x.dim - 1 != x.dim - 1):Bool)=false:=by simp
     simp [-map_map,-mapM_map,↓KW,aP,aO,q2,hf,bC,aJ,aD,aK]
     refine aA (ds:=[aP c,.i .i64 n2]) (by rfl) hF ?_
     simp [-map_map,-mapM_map,↓KW,aP,aO,eH,hw2,hw3,hzd,q4,aE,aB,aC]
     refine aI (j+1) hgo2 (Nat.sub_lt_sub_left hgo2 (Nat.lt_succ_self _)) (bB [1] (by simp) ?_ ?_) <;> simp [-map_map,upd,aT,Γ0,aP,aO]
    ·have q2:¬ (j:Int)<x.b.length:=by omega
     simp [-map_map,-mapM_map,↓KW,aP,aO,q2]
     refine aA (ds:=[aP c,aO x.b]) (by rfl) hA ?_
     simp [-map_map,-mapM_map,↓KW,aP,aO]
theorem CxV.bd0 {c:List Cl} (h:CxV c) {x:Cl} (hx:x∈c):bdX c x.b=[]:=by
 obtain ⟨h1,h2⟩:=aSm c x.b
 refine h1.ext Val.nil fun n=>?_
 rw [h2,iV]
 exact h.cyc x hx n
set_option maxHeartbeats 4000000 in
set_option maxRecDepth 10000 in
theorem aZk {c:List Cl} {e:Nat} (h:CxV c) (hc:SzX e c) (he:e+e+20<4398046511104):Spec Tryz.prog 14 [aP c] (.b true):=by
 have hcl:=hc.len
 refine aX (N:=52) aF Tryz.func14 rfl rfl rfl (by kernel_rfl) (by kernel_rfl) (by simp) ?_
 have q0:¬ (400:Int)<c.length:=by omega
 simp [-map_map,-mapM_map,↓KW,aP,q0]
 refine aU (fun i:Nat=>i≤c.length) (fun i=>StL [(0,.d (aP c)),(3,.d (.i .i64 (i:Int)))] none []) (fun i=>c.length - i) 0 (Nat.zero_le _) ?_ ?_
 ·refine bB [] (by simp) ?_ ?_ <;> simp [-map_map,upd,aT,Γ0,aP]
 ·intro i hi
  by_cases hgo:i<c.length
  ·have q1:(i:Int)<c.length:=by omega
   have hx:c[i]? = some c[i]:=List.getElem?_eq_getElem hgo
   have hw:IntKind.i64.wrap ((i:Int)+1)=(i:Int)+1:=aS (by omega) (by omega)
   have hxv:=h.val _ (List.getElem_mem hgo)
   have hxb:=hc.bb _ (List.getElem_mem hgo)
   have hxl:=hc.bl _ (List.getElem_mem hgo)
   have hprev:∀ (j:Nat) (hj:j<c.length),j<i→c[j].id<c[i].id:=fun j hj hji=>(List.pairwise_iff_getElem.1 h.inc) j i hj hgo hji
   refine (show ∃ x,c[i]=x from ⟨_,rfl⟩).elim fun x hxe=>?_
   rw [hxe] at hx hxv hxb hxl
   simp only [hxe] at hprev
   have hV:=nJ x.b (hxb.sz (by omega)) (by omega)
   rw [sJ hxv] at hV
   have hyc:bK x=[D.i .i64 x.id,.i .i64 x.dim,aO x.b]:=rfl
   rcases i with _ | i
   ·have hw0:IntKind.i64.wrap 1=1:=aS (by omega) (by omega)
    have hxe':∀ h:0<c.length,c[0]'h=x:=fun _=>hxe
    simp [-map_map,-mapM_map,↓KW,aP,hgo,hx,hxe',hyc,aE,aB,aC]
    refine aA (ds:=[aO x.b]) (by rfl) hV ?_
    simp [-map_map,-mapM_map,↓KW,aP,hw0]
    refine aI (0+1) hgo (Nat.sub_lt_sub_left hgo (Nat.lt_succ_self _)) (bB [] (by simp) ?_ ?_) <;> simp [-map_map,upd,aT,Γ0,aP]
   ·have hgp:i<c.length:=by omega
    have hp:c[i]? = some c[i]:=List.getElem?_eq_getElem hgp
    have hlt:=hprev i hgp (by omega)
    have q3:(0:Int)<((i+1:Nat):Int):=by omega
    have hw2:IntKind.i64.wrap (((i+1:Nat):Int) - 1)=(i:Int):=by rw [aS (by omega) (by omega)]; omega
    refine (show ∃ y,c[i]=y from ⟨_,rfl⟩).elim fun y hye=>?_
    rw [hye] at hp hlt
    have hyc2:bK y=[D.i .i64 y.id,.i .i64 y.dim,aO y.b]:=rfl
    have q4:¬ x.id≤y.id:=by omega
    have q5:(0:Int)≤(i:Int):=by omega
    have hw':IntKind.i64.wrap (((i+1:Nat):Int)+1)=((i+1+1:Nat):Int):=by rw [aS (by omega) (by omega)]; omega
    obtain ⟨I,hI⟩:∃ I:Int,((i+1:Nat):Int)=I:=⟨_,rfl⟩
    have hIt:I.toNat=i+1:=by omega
    have q6:0≤I:=by omega
    rw [hI] at q1 q3 hw2 hw'
    simp only [hI]
    simp [-map_map,-mapM_map,↓KW,aP,q1,q3,hIt,q6,hw2,q5,hx,hp,hyc,hyc2,q4,aE,aB,aC]
    refine aA (ds:=[aO x.b]) (by rfl) hV ?_
    simp [-map_map,-mapM_map,↓KW,aP,hw']
    refine aI (i+1+1) hgo (Nat.sub_lt_sub_left hgo (Nat.lt_succ_self _)) (bB [] (by simp) ?_ ?_) <;> simp [-map_map,upd,aT,Γ0,aP]
  ·have q1:¬ (i:Int)<c.length:=by omega
   simp [-map_map,-mapM_map,↓KW,aP,q1]
   refine aU (fun i:Nat=>i≤c.length) (fun i=>StL [(0,.d (aP c)),(4,.d (.i .i64 (i:Int)))] none []) (fun i=>c.length - i) 0 (Nat.zero_le _) ?_ ?_
   ·refine bB [] (by simp) ?_ ?_ <;> simp [-map_map,upd,aT,Γ0,aP]
   ·clear hgo q1 hi i
    intro i hi
    by_cases hgo:i<c.length
    ·have q1:(i:Int)<c.length:=by omega
     have hx:c[i]? = some c[i]:=List.getElem?_eq_getElem hgo
     have hw:IntKind.i64.wrap ((i:Int)+1)=(i:Int)+1:=aS (by omega) (by omega)
     have hF:=bHo (x:=c[i]) hc h.val (h.val _ (List.getElem_mem hgo)) (hc.bl _ (List.getElem_mem hgo)) (hc.bb _ (List.getElem_mem hgo)) (h.dim _ (List.getElem_mem hgo)) (fun g hg=>by
      obtain ⟨y,hy,e1,e2⟩:=h.face _ (List.getElem_mem hgo) g hg
      exact ⟨y,by rw [← e1]; exact h.inc.find hy,e2⟩) (h.bd0 (List.getElem_mem hgo)) he
     refine (show ∃ x,c[i]=x from ⟨_,rfl⟩).elim fun x hxe=>?_
     rw [hxe] at hx hF
     have hyc:bK x=[D.i .i64 x.id,.i .i64 x.dim,aO x.b]:=rfl
     simp [-map_map,-mapM_map,↓KW,aP,q1,hx,hyc,aE,aB,aC]
     refine aA (ds:=[aP c,.ag (bK x)]) (by rfl) hF ?_
     simp [-map_map,-mapM_map,↓KW,aP,hw]
     refine aI (i+1) hgo (Nat.sub_lt_sub_left hgo (Nat.lt_succ_self _)) (bB [] (by simp) ?_ ?_) <;> simp [-map_map,upd,aT,Γ0,aP]
    ·have q1:¬ (i:Int)<c.length:=by omega
     simp [-map_map,-mapM_map,↓KW,aP,q1]
end Go.Am
end

section
set_option linter.unusedVariables false
set_option linter.unusedSimpArgs false
open Go Go.Am Go.Proofs
namespace Go.Am
theorem aGu {g:List (Int × Ch)}:∀ {c:List Cl} {y:Cl} {f:Int × Int},Inc c→y∈c→f.1=y.id→apP (cU c g) f=mulR f.2 ((iW g y.id).getD [(y.id,1)])
 | z::c,y,f,hi,hy,hf=>by
  obtain ⟨h1,h2⟩:=List.pairwise_cons.1 hi
  have hnone:∀ {c:List Cl},(∀ x∈c,x.id≠f.1)→apP (cU c g) f=[]:=by
   intro c hc
   induction c with
   | nil=>rfl
   | cons u c ih =>
    show (if u.id=f.1 then _ else [])++apP (cU c g) f=[]
    rw [if_neg (hc u (List.mem_cons_self ..)),ih fun x hx=>hc x (List.mem_cons_of_mem _ hx)]; rfl
  show (if z.id=f.1 then mulR f.2 ((iW g z.id).getD [(z.id,1)]) else [])++apP (cU c g) f=_
  rcases List.mem_cons.1 hy with rfl | hy
  ·rw [if_pos hf.symm,hnone fun x hx=>by have:=h1 x hx; omega,List.append_nil]
  ·rw [if_neg (by have:=h1 y hy; omega),List.nil_append,aGu h2 hy hf]
theorem aSu {g:List (Int × Ch)} {c:List Cl} (hi:Inc c) (r:Int→Int) (hr:∀ y∈c,(iW g y.id).getD [(y.id,1)]=[(r y.id,1)]):∀ {x:Ch},(∀ f∈x,∃ y∈c,y.id=f.1)→apL (cU c g) x=x.map fun f=>(r f.1,f.2)
 | [],_=>rfl
 | f::x,h=>by
  obtain ⟨y,hy,he⟩:=h f (List.mem_cons_self ..)
  show apP (cU c g) f++apL (cU c g) x=_
  rw [aGu hi hy he.symm,hr y hy,aSu hi r hr fun f hf=>h f (List.mem_cons_of_mem _ hf),he]
  simp [mulR]
/-! Weights under a renaming -/
theorem yP (w:Int→Int) (r:Int→Int):∀ l:Ch,bJ w (l.map fun f=>(r f.1,f.2))=bJ (fun n=>w (r n)) l
 | []=>rfl
 | f::l=>by simp only [List.map_cons,bJ,yP w r l]
theorem CxV.wcyc {c:List Cl} (h:CxV c) {x:Cl} (hx:x∈c) (w:Int→Int):bJ (fun m=>bJ w (Go.Am.bOf c m)) x.b=0:=by
 rw [← lY]
 have h1:=h.bd0 hx
 have h2:bJ w (bdX c x.b)=bJ w []+bJ w (bdL c x.b):=kN w _ _
 rw [h1] at h2
 simp only [bJ] at h2; omega
theorem dQ (w:Int→Int) (l:Ch):bJ w (bY [] l)=bJ w l:=by rw [kN]; simp [bJ]
def rn (a b n:Int):Int:=if n=b then a else n
theorem xV (a b:Int):xI a b=fun f=>(rn a b f.1,f.2):=by
 funext f
 unfold xI rn
 split <;> rfl
structure aMa (c:List Cl) (a b:Int):Prop where
 ne:a≠b
 ina:∃ x∈c,x.id=a
 inb:∃ x∈c,x.id=b
 dim:dOf c a=dOf c b
 bd:bOf c a=bOf c b
section
variable {c:List Cl} {a b:Int}
theorem mF {z:Cl}:z∈aAh c a b↔∃ y∈c,y.id≠b∧z=aAg a b y:=by
 unfold aAh
 rw [List.mem_map]
 constructor
 ·rintro ⟨y,hy,rfl⟩
  obtain ⟨h1,h2⟩:=List.mem_filter.1 hy
  exact ⟨y,h1,by simpa using h2,rfl⟩
 ·rintro ⟨y,h1,h2,rfl⟩
  exact ⟨y,List.mem_filter.2 ⟨h1,by simpa using h2⟩,rfl⟩
theorem aKr (h:Inc c):Inc (aAh c a b):=by
 unfold aAh Inc
 rw [List.pairwise_map]
 exact List.Pairwise.filter _ h
theorem bDr (h:Inc c) {x:Cl} (hx:x∈c):dOf c x.id=x.dim:=by unfold dOf; rw [h.find hx]; rfl
theorem aKq (h:Inc c) {y:Cl} (hy:y∈c) (hn:y.id≠b):cF (aAh c a b) y.id=some (aAg a b y):=(aKr h).find (x:=aAg a b y) (mF.2 ⟨y,hy,hn,rfl⟩)
theorem bJs (h:Inc c) {y:Cl} (hy:y∈c) (hn:y.id≠b):bOf (aAh c a b) y.id=bY [] (y.b.map (xI a b)):=by unfold bOf; rw [aKq h hy hn]; rfl
theorem aMa.rep (t:aMa c a b) (h:CxV c) {y:Cl} (hy:y∈c):∃ z∈c,z.id≠b∧z.id=rn a b y.id∧z.dim=y.dim∧z.b=y.b:=by
 by_cases e:y.id=b
 ·obtain ⟨z,hz,hza⟩:=t.ina
  refine ⟨z,hz,by rw [hza]; exact t.ne,by unfold rn; rw [if_pos e]; exact hza,?_,?_⟩
  ·have:=t.dim; rw [← hza,← e,bDr h.inc hz,bDr h.inc hy] at this; exact this
  ·have:=t.bd; rw [← hza,← e,h.bOf hz,h.bOf hy] at this; exact this
 ·exact ⟨y,hy,e,by unfold rn; rw [if_neg e],rfl,rfl⟩
theorem aMa.bOf (t:aMa c a b) (h:CxV c) {y:Cl} (hy:y∈c):Go.Am.bOf (aAh c a b) (rn a b y.id)=bY [] (y.b.map (xI a b)):=by
 obtain ⟨z,hz,h1,h2,_,h4⟩:=t.rep h hy
 rw [← h2,bJs h.inc hz h1,h4]
theorem aMa.valid (t:aMa c a b) (h:CxV c):CxV (aAh c a b):=by
 refine ⟨aKr h.inc,fun z hz=>?_,fun z hz=>?_,fun z hz f hf=>?_,fun z hz n=>?_⟩
 ·obtain ⟨y,hy,_,rfl⟩:=mF.1 hz
  exact h.dim y hy
 ·obtain ⟨y,hy,_,rfl⟩:=mF.1 hz
  exact (dA _ [] Val.nil).1
 ·obtain ⟨y,hy,_,rfl⟩:=mF.1 hz
  obtain ⟨h1,h2⟩:=dA (y.b.map (xI a b)) [] Val.nil
  have hf':f∈bY [] (y.b.map (xI a b)):=hf
  have e:=fA h1 hf'
  rw [h2,iV,Int.zero_add] at e
  have hne:cf f.1 (y.b.map (xI a b))≠0:=by rw [e]; exact h1.2 f hf'
  obtain ⟨g,hg,he⟩:∃ g∈y.b,(xI a b g).1=f.1:=Classical.byContradiction fun hn=>hne (nC fun x hx e=>by
   obtain ⟨g,hg,rfl⟩:=List.mem_map.1 hx
   exact hn ⟨g,hg,e⟩)
  obtain ⟨u,hu,e1,e2⟩:=h.face y hy g hg
  obtain ⟨z,hz',k1,k2,k3,_⟩:=t.rep h hu
  refine ⟨aAg a b z,mF.2 ⟨z,hz',k1,rfl⟩,?_,?_⟩
  ·show z.id=f.1
   rw [k2,e1,← he,xV]
  ·show z.dim=y.dim - 1
   rw [k3,e2]
 ·obtain ⟨y,hy,_,rfl⟩:=mF.1 hz
  show bJ (fun m=>cf n (Go.Am.bOf (aAh c a b) m)) (bY [] (y.b.map (xI a b)))=0
  rw [dQ,xV,yP]
  refine Eq.trans (dP fun f hf=>?_) (h.wcyc hy fun k=>if n=rn a b k then 1 else 0)
  obtain ⟨u,hu,e1,_⟩:=h.face y hy f hf
  rw [← e1,t.bOf h hu,h.bOf hu,lS,dQ,xV,yP]
theorem aKz (a b n:Int):(iW [(b,[(a,1)])] n).getD [(n,1)]=[(rn a b n,1)]:=by
 unfold iW rn
 by_cases e:n=b
 ·rw [if_pos e]; simp [e]
 ·rw [if_neg e]
  have:¬ b=n:=fun h=>e h.symm
  simp [this]
theorem aMa.comm (t:aMa c a b) (h:CxV c):CmT c (aAh c a b) (cU c [(b,[(a,1)])]):=by
 have hget:∀ (i:Nat) x p,c[i]? = some x→(cU c [(b,[(a,1)])])[i]? = some p→p=(x.id,[(rn a b x.id,1)]):=fun i x p hx hp=>by
  unfold cU at hp
  rw [List.getElem?_map,hx] at hp
  injection hp with hp
  simp only [aKz] at hp
  exact hp.symm
 refine ⟨by simp [cU],fun i x p hx hp=>by rw [hget i x p hx hp],fun i x p hx hp f hf=>?_,fun i x p hx hp=>?_⟩
 ·rw [hget i x p hx hp] at hf
  have hf':f=(rn a b x.id,1):=by simpa using hf
  subst hf'
  obtain ⟨z,hz,h1,h2,h3,_⟩:=t.rep h (List.mem_of_getElem? hx)
  exact ⟨aAg a b z,by rw [← h2]; exact aKq h.inc hz h1,h3⟩
 ·have hxc:=List.mem_of_getElem? hx
  rw [hget i x p hx hp]
  obtain ⟨z,hz,h1,h2,_,h4⟩:=t.rep h hxc
  have e1:bdX (aAh c a b) [(rn a b x.id,1)]=bY [] (x.b.map (xI a b)):=by
   have:=bEt (t.valid h) (y:=aAg a b z) (mF.2 ⟨z,hz,h1,rfl⟩)
   rw [← h2]
   refine Eq.trans this ?_
   show bY [] (z.b.map (xI a b))=_
   rw [h4]
  rw [e1]
  unfold apX
  rw [aSu h.inc (rn a b) (fun y _=>aKz a b y.id) (fun f hf=>let ⟨y,hy,e,_⟩:=h.face x hxc f hf; ⟨y,hy,e⟩),xV]
end
end Go.Am
end

section
set_option linter.unusedVariables false
set_option linter.unusedSimpArgs false
open Go Go.Am Go.Proofs
namespace Go.Am
theorem aHt {a b:Ch} (ha:Val a) (hb:Val b) (h:∀ w,bJ w a=bJ w b):a=b :=
 ha.ext hb fun n=>by rw [← gY ha,← gY hb,lS,lS]; exact h _
theorem aPu (w:Int→Int):∀ l:Ch,bJ w (aZr l)+bJ w (bIk l)=bJ w l
 | []=>rfl
 | f::l=>by
  have ih:=aPu w l
  unfold aZr bIk at ih ⊢
  by_cases h:0<f.2
  ·simp only [List.filter_cons,h,decide_true,if_true,Bool.not_true,Bool.false_eq_true,if_false,bJ]
   omega
  ·simp only [List.filter_cons,h,decide_false,Bool.false_eq_true,if_false,Bool.not_false,if_true,bJ]
   omega
theorem yQ (w:Int→Int) (e w1:Int):∀ l:Ch,bJ w (adF e w1 l)=cf e l * w w1
 | []=>by simp [adF,bJ,cf]
 | f::l=>by
  have ih:=yQ w e w1 l
  unfold adF at ih ⊢
  simp only [cf]
  by_cases h:f.1=e
  ·have h':e=f.1:=h.symm
   simp only [List.filter_cons,h,decide_true,if_true,List.map_cons,bJ,ih]
   rw [Int.add_mul]
  ·have h':¬ e=f.1:=fun x=>h x.symm
   simp only [List.filter_cons,h,decide_false,Bool.false_eq_true,if_false,ih,if_neg h']
   simp
theorem qU (a b d:Int→Int) (k r:Int):∀ l:Ch,bJ (fun m=>a m+k * b m - r * d m) l=bJ a l+k * bJ b l - r * bJ d l
 | []=>by simp [bJ]
 | f::l=>by
  simp only [bJ,qU a b d k r l]
  rw [Int.mul_sub,Int.mul_add,Int.mul_add,Int.mul_add,Int.mul_left_comm f.2 k,Int.mul_left_comm f.2 r]
  omega
theorem rJ {l:Ch} {f:Int × Int} (h:f∈bY [] l):∃ g∈l,g.1=f.1:=by
 obtain ⟨h1,h2⟩:=dA l [] Val.nil
 have e:=fA h1 h
 rw [h2,iV,Int.zero_add] at e
 have hne:cf f.1 l≠0:=by rw [e]; exact h1.2 f h
 exact Classical.byContradiction fun hn=>hne (nC fun x hx e=>hn ⟨x,hx,e⟩)
theorem aNz (m e:Int):(if m=e then (1:Int) else 0)=if e=m then 1 else 0:=by
 by_cases q:m=e
 ·simp [q]
 ·have q':¬ e=m:=fun x=>q x.symm
  simp [q,q']
structure jA (c:List Cl) (e w0 w1:Int):Prop where
 ine:∃ x∈c,x.id=e∧x.dim=1
 n0:∀ y∈c,y.id≠w0
 n1:∀ y∈c,y.id≠w1
 ne:w0≠w1
section
variable {c:List Cl} {e w0 w1:Int}
theorem iB {z:Cl}:z∈rV c e w0 w1↔z=aTi w0∨z=aTj w0 w1 (bOf c e)∨∃ y∈c,z=wO e w0 w1 (bOf c e) y:=by
 rw [(aTk c e w0 w1).mem_iff]
 unfold bNg
 rw [List.mem_append,List.mem_cons,List.mem_singleton,List.mem_map]
 constructor
 ·rintro ((h | h) | ⟨y,hy,rfl⟩)
  ·exact .inl h
  ·exact .inr (.inl h)
  ·exact .inr (.inr ⟨y,hy,rfl⟩)
 ·rintro (h | h | ⟨y,hy,rfl⟩)
  ·exact .inl (.inl h)
  ·exact .inl (.inr h)
  ·exact .inr ⟨y,hy,rfl⟩
theorem bMa (h:∀ y∈c,y.id≠w0):kn c w0=false:=by
 unfold kn
 cases e:cF c w0 with
 | none=>rfl
 | some x=>obtain ⟨h1,h2⟩:=dT e; exact (h x h1 h2).elim
theorem jA.inc (s:jA c e w0 w1) (h:Inc c):Inc (rV c e w0 w1):=aXr h (bMa s.n0) (bMa s.n1) s.ne
theorem jA.find (s:jA c e w0 w1) (h:Inc c) {y:Cl} (hy:y∈c):cF (rV c e w0 w1) y.id=some (wO e w0 w1 (bOf c e) y):=(s.inc h).find (x:=wO e w0 w1 (bOf c e) y) (iB.2 (.inr (.inr ⟨y,hy,rfl⟩)))
theorem jA.find0 (s:jA c e w0 w1) (h:Inc c):cF (rV c e w0 w1) w0=some (aTi w0):=(s.inc h).find (x:=aTi w0) (iB.2 (.inl rfl))
theorem jA.find1 (s:jA c e w0 w1) (h:Inc c):cF (rV c e w0 w1) w1=some (aTj w0 w1 (bOf c e)):=(s.inc h).find (x:=aTj w0 w1 (bOf c e)) (iB.2 (.inr (.inl rfl)))
theorem jA.b (s:jA c e w0 w1) (h:Inc c) {y:Cl} (hy:y∈c):bOf (rV c e w0 w1) y.id=bY [] (subL e w0 w1 (bOf c e) y):=by unfold Go.Am.bOf; rw [s.find h hy]; rfl
theorem jA.b0 (s:jA c e w0 w1) (h:Inc c):bOf (rV c e w0 w1) w0=[]:=by unfold Go.Am.bOf; rw [s.find0 h]; rfl
theorem jA.b1 (s:jA c e w0 w1) (h:Inc c):bOf (rV c e w0 w1) w1=bY [] (vK w0 (bOf c e)):=by unfold Go.Am.bOf; rw [s.find1 h]; rfl
theorem bDo (h:CxV c) {y:Cl} (hy:y∈c) (hd:y.dim=0):y.b=[]:=by
 cases hb:y.b with
 | nil=>rfl
 | cons f l =>
  obtain ⟨z,hz,_,e2⟩:=h.face y hy f (by rw [hb]; exact List.mem_cons_self ..)
  have:=(h.dim z hz).1
  omega
theorem jA.own (s:jA c e w0 w1) (h:CxV c):∃ x∈c,x.id=e∧x.dim=1∧bOf c e=x.b:=by
 obtain ⟨x,hx,e1,e2⟩:=s.ine
 exact ⟨x,hx,e1,e2,by rw [← e1]; exact h.bOf hx⟩
theorem jA.pts (s:jA c e w0 w1) (h:CxV c) {f:Int × Int} (hf:f∈bOf c e):∃ y∈c,y.id=f.1∧y.dim=0∧y.id≠e:=by
 obtain ⟨x,hx,e1,e2,e3⟩:=s.own h
 rw [e3] at hf
 obtain ⟨y,hy,k1,k2⟩:=h.face x hx f hf
 refine ⟨y,hy,k1,by omega,fun he=>?_⟩
 have:=h.inc.eq hy hx (he.trans e1.symm)
 subst this; omega
theorem jA.zero (s:jA c e w0 w1) (h:CxV c) {y:Cl} (hy:y∈c) (hd:y.dim=0):bOf (rV c e w0 w1) y.id=[]:=by
 rw [s.b h.inc hy]
 unfold subL
 have hb:=bDo h hy hd
 have hne:y.id≠e:=fun he=>by
  obtain ⟨x,hx,e1,e2,_⟩:=s.own h
  have:=h.inc.eq hy hx (he.trans e1.symm)
  subst this; omega
 rw [if_neg hne,hb]; rfl
theorem jA.noE (s:jA c e w0 w1) (h:CxV c):cf e (bOf c e)=0:=nC fun f hf he=>by
 obtain ⟨y,_,k1,_,k3⟩:=s.pts h hf
 exact k3 (k1.trans he)
theorem bIs {l:Ch} {f:Int × Int} (h:f∈aZr l):f∈l:=(List.mem_filter.1 h).1
theorem bIt {l:Ch} {f:Int × Int} (h:f∈bIk l):f∈l:=(List.mem_filter.1 h).1
def nw (c:List Cl) (e w0 w1:Int) (w:Int→Int) (m:Int):Int:=bJ w (bOf (rV c e w0 w1) m)
theorem jA.nw1 (s:jA c e w0 w1) (h:Inc c) (w:Int→Int):nw c e w0 w1 w w1=- w w0+bJ w (aZr (bOf c e)):=by
 unfold nw; rw [s.b1 h,dQ]; unfold vK; simp only [bJ]; omega
theorem jA.nwy (s:jA c e w0 w1) (h:CxV c) (w:Int→Int) {y:Cl} (hy:y∈c):nw c e w0 w1 w y.id=bJ w (bOf c y.id)+w w1 * cf e (bOf c y.id) - nw c e w0 w1 w w1 * (if y.id=e then 1 else 0):=by
 have h1:nw c e w0 w1 w y.id=bJ w (subL e w0 w1 (bOf c e) y):=by unfold nw; rw [s.b h.inc hy,dQ]
 rw [h1,s.nw1 h.inc]
 unfold subL
 by_cases he:y.id=e
 ·rw [if_pos he,if_pos he,he,s.noE h]
  have:=aPu w (bOf c e)
  unfold aFj; simp only [bJ]; omega
 ·rw [if_neg he,if_neg he,lZ,yQ,h.bOf hy,Int.mul_comm (w w1)]; omega
theorem jA.nw0 (s:jA c e w0 w1) (h:CxV c) (w:Int→Int) {l:Ch} (hl:∀ f∈l,f.1=w0∨∃ y∈c,y.id=f.1∧y.dim=0):bJ (nw c e w0 w1 w) l=0:=aCp fun f hf=>by
 unfold nw
 rcases hl f hf with e1 | ⟨y,hy,e1,e2⟩
 ·rw [e1,s.b0 h.inc]; rfl
 ·rw [← e1,s.zero h hy e2]; rfl
theorem jA.valid (s:jA c e w0 w1) (h:CxV c):CxV (rV c e w0 w1):=by
 have hpos:∀ f∈vK w0 (bOf c e),f.1=w0∨∃ y∈c,y.id=f.1∧y.dim=0:=fun f hf=>by
  rcases List.mem_cons.1 hf with rfl | hf
  ·exact .inl rfl
  ·obtain ⟨y,hy,k1,k2,_⟩:=s.pts h (bIs hf); exact .inr ⟨y,hy,k1,k2⟩
 have hrest:∀ f∈aFj w0 (bOf c e),f.1=w0∨∃ y∈c,y.id=f.1∧y.dim=0:=fun f hf=>by
  rcases List.mem_cons.1 hf with rfl | hf
  ·exact .inl rfl
  ·obtain ⟨y,hy,k1,k2,_⟩:=s.pts h (bIt hf); exact .inr ⟨y,hy,k1,k2⟩
 have hface:∀ (f:Int × Int) (d:Int),(f.1=w0∨∃ y∈c,y.id=f.1∧y.dim=0)→d=1→∃ y∈rV c e w0 w1,y.id=f.1∧y.dim=d - 1:=fun f d hf hd=>by
  rcases hf with e1 | ⟨y,hy,e1,e2⟩
  ·exact ⟨aTi w0,iB.2 (.inl rfl),e1.symm,by show (0:Int)=_; omega⟩
  ·exact ⟨wO e w0 w1 (bOf c e) y,iB.2 (.inr (.inr ⟨y,hy,rfl⟩)),e1,by show y.dim=_; omega⟩
 obtain ⟨xe,hxe,xe1,xe2,xe3⟩:=s.own h
 refine ⟨s.inc h.inc,fun z hz=>?_,fun z hz=>?_,fun z hz f hf=>?_,fun z hz n=>?_⟩
 ·rcases iB.1 hz with rfl | rfl | ⟨y,hy,rfl⟩
  ·exact ⟨Int.le_refl 0,by show (0:Int)≤3; decide⟩
  ·exact ⟨by show (0:Int)≤1; decide,by show (1:Int)≤3; decide⟩
  ·exact h.dim y hy
 ·rcases iB.1 hz with rfl | rfl | ⟨y,hy,rfl⟩
  ·exact Val.nil
  ·exact (dA _ [] Val.nil).1
  ·exact (dA _ [] Val.nil).1
 ·rcases iB.1 hz with rfl | rfl | ⟨y,hy,rfl⟩
  ·cases hf
  ·obtain ⟨g,hg,he⟩:=rJ (l:=vK w0 (bOf c e)) hf
   have:=hface g 1 (hpos g hg) rfl
   rw [he] at this; exact this
  ·obtain ⟨g,hg,he⟩:=rJ (l:=subL e w0 w1 (bOf c e) y) hf
   unfold subL at hg
   by_cases hye:y.id=e
   ·rw [if_pos hye] at hg
    have hyd:y.dim=1:=by rw [h.inc.eq hy hxe (hye.trans xe1.symm)]; exact xe2
    have:=hface g y.dim (hrest g hg) hyd
    rw [he] at this; exact this
   ·rw [if_neg hye] at hg
    rcases List.mem_append.1 hg with hg | hg
    ·obtain ⟨u,hu,k1,k2⟩:=h.face y hy g hg
     exact ⟨wO e w0 w1 (bOf c e) u,iB.2 (.inr (.inr ⟨u,hu,rfl⟩)),k1.trans he,k2⟩
    ·unfold adF at hg
     obtain ⟨g',hg',rfl⟩:=List.mem_map.1 hg
     obtain ⟨h1,h2⟩:=List.mem_filter.1 hg'
     have h2:g'.1=e:=by simpa using h2
     obtain ⟨u,hu,k1,k2⟩:=h.face y hy g' h1
     have hu2:u=xe:=h.inc.eq hu hxe (k1.trans (h2.trans xe1.symm))
     refine ⟨aTj w0 w1 (bOf c e),iB.2 (.inr (.inl rfl)),he,?_⟩
     show (1:Int)=y.dim - 1
     rw [← k2,hu2,xe2]
 ·suffices hw:∀ w:Int→Int,bJ (nw c e w0 w1 w) z.b=0 by
   have:=hw fun m=>if n=m then 1 else 0
   refine Eq.trans (dP fun f _=>?_) this
   unfold nw; rw [lS]
  intro w
  rcases iB.1 hz with rfl | rfl | ⟨y,hy,rfl⟩
  ·rfl
  ·show bJ _ (bY [] (vK w0 (bOf c e)))=0
   rw [dQ]; exact s.nw0 h w hpos
  ·show bJ _ (bY [] (subL e w0 w1 (bOf c e) y))=0
   rw [dQ]
   unfold subL
   by_cases hye:y.id=e
   ·rw [if_pos hye]; exact s.nw0 h w hrest
   ·rw [if_neg hye,lZ,yQ]
    have e1:bJ (nw c e w0 w1 w) y.b=bJ (fun m=>bJ w (bOf c m)+w w1 * cf e (bOf c m) - nw c e w0 w1 w w1 * (if m=e then 1 else 0)) y.b:=dP fun f hf=>by
     obtain ⟨u,hu,k1,_⟩:=h.face y hy f hf
     rw [← k1]; exact s.nwy h w hu
    have e2:bJ (fun m=>if m=e then (1:Int) else 0) y.b=cf e y.b:=by
     rw [lS]; exact dP fun f _=>aNz f.1 e
    rw [e1,qU,h.wcyc hy w,h.cyc y hy e,e2,Int.mul_comm (nw c e w0 w1 w w1)]
    omega
def aFk (e w1:Int):Ch:=bY [(e,1)] (mulR 1 [(w1,1)])
theorem rD (n:Int):Val [(n,(1:Int))]:=⟨List.pairwise_singleton _ _,fun y hy=>by rw [List.mem_singleton.1 hy]; simp⟩
theorem aMq (e w1:Int) (w:Int→Int):bJ w (aFk e w1)=w e+w w1:=by
 unfold aFk; rw [kN,kM]; simp [bJ]
theorem aKy (e n:Int) (B:Ch):(iW [(e,B)] n).getD [(n,1)]=if n=e then B else [(n,1)]:=by
 unfold iW
 by_cases h:n=e
 ·simp [h]
 ·have:¬ e=n:=fun x=>h x.symm
  simp [this,h]
theorem sY {g:List (Int × Ch)} (hi:Inc c) (w:Int→Int):∀ {x:Ch},(∀ f∈x,∃ y∈c,y.id=f.1)→bJ w (apL (cU c g) x)=bJ (fun k=>bJ w ((iW g k).getD [(k,1)])) x
 | [],_=>rfl
 | f::x,h=>by
  obtain ⟨y,hy,he⟩:=h f (List.mem_cons_self ..)
  show bJ w (apP (cU c g) f++apL (cU c g) x)=_
  rw [lZ,aGu hi hy he.symm,kM,sY hi w fun f hf=>h f (List.mem_cons_of_mem _ hf),he]
  rfl
theorem jA.comm (s:jA c e w0 w1) (h:CxV c):CmT c (rV c e w0 w1) (cU c [(e,aFk e w1)]):=by
 have hget:∀ (i:Nat) x p,c[i]? = some x→(cU c [(e,aFk e w1)])[i]? = some p→p=(x.id,if x.id=e then aFk e w1 else [(x.id,1)]):=fun i x p hx hp=>by
  unfold cU at hp
  rw [List.getElem?_map,hx] at hp
  injection hp with hp
  simp only [aKy] at hp
  exact hp.symm
 obtain ⟨xe,hxe,xe1,xe2,xe3⟩:=s.own h
 have hne:e≠w1:=fun x=>s.n1 xe hxe (xe1.trans x)
 refine ⟨by simp [cU],fun i x p hx hp=>by rw [hget i x p hx hp],fun i x p hx hp f hf=>?_,fun i x p hx hp=>?_⟩
 ·rw [hget i x p hx hp] at hf
  have hxc:=List.mem_of_getElem? hx
  simp only at hf
  by_cases hxe':x.id=e
  ·rw [if_pos hxe'] at hf
   have hxx:x=xe:=h.inc.eq hxc hxe (hxe'.trans xe1.symm)
   have hm:f.1=e∨f.1=w1:=by
    have hv:=(dA (mulR 1 [(w1,1)]) _ (rD e)).1
    by_cases q:f.1=e
    ·exact .inl q
    ·refine .inr (Classical.byContradiction fun q2=>?_)
     have e0:=fA hv hf
     rw [← gY hv,lS] at e0
     have:=aMq e w1 (fun m=>if f.1=m then 1 else 0)
     unfold aFk at this
     rw [this,if_neg q,if_neg q2] at e0
     exact hv.2 f hf e0.symm
   rcases hm with q | q
   ·have hfe:=s.find h.inc hxe
    rw [xe1] at hfe
    refine ⟨_,by rw [q]; exact hfe,?_⟩
    rw [hxx]; rfl
   ·refine ⟨_,by rw [q]; exact s.find1 h.inc,?_⟩
    rw [hxx,xe2]; rfl
  ·rw [if_neg hxe'] at hf
   rw [List.mem_singleton.1 hf]
   exact ⟨_,s.find h.inc hxc,rfl⟩
 ·have hxc:=List.mem_of_getElem? hx
  rw [hget i x p hx hp]
  have hfc:∀ f∈x.b,∃ y∈c,y.id=f.1:=fun f hf=>let ⟨y,hy,k,_⟩:=h.face x hxc f hf; ⟨y,hy,k⟩
  refine aHt (dA _ [] Val.nil).1 (dA _ [] Val.nil).1 fun w=>?_
  unfold bdX apX
  rw [dQ,dQ,lY,sY h.inc w hfc]
  show bJ (nw c e w0 w1 w) (if x.id=e then aFk e w1 else [(x.id,1)])=_
  have hr:bJ (fun k=>bJ w ((iW [(e,aFk e w1)] k).getD [(k,1)])) x.b=bJ w x.b+w w1 * cf e x.b:=by
   have e1:bJ (fun k=>bJ w ((iW [(e,aFk e w1)] k).getD [(k,1)])) x.b=bJ (fun k=>w k+w w1 * (if k=e then 1 else 0) - 0 * 0) x.b:=dP fun f _=>by
    rw [aKy]
    by_cases q:f.1=e
    ·rw [if_pos q,if_pos q,aMq,q]; omega
    ·rw [if_neg q,if_neg q]; simp [bJ]
   have e2:bJ (fun m=>if m=e then (1:Int) else 0) x.b=cf e x.b:=by
    rw [lS]; exact dP fun f _=>aNz f.1 e
   rw [e1,qU w _ (fun _=>0) _ 0,e2]
   omega
  rw [hr]
  by_cases hxe':x.id=e
  ·rw [if_pos hxe',aMq]
   have hxx:x=xe:=h.inc.eq hxc hxe (hxe'.trans xe1.symm)
   have k1:=s.nwy h w hxe
   rw [xe1,if_pos rfl,xe3,← xe3,s.noE h] at k1
   rw [k1,hxx,← xe3,s.noE h]
   omega
  ·rw [if_neg hxe']
   simp only [bJ]
   rw [s.nwy h w hxc,if_neg hxe',h.bOf hxc]
   omega
end
theorem aGb:∀ (b a:List Int),a.Pairwise (·<·)→b.Pairwise (·<·)→(∀ x∈a,x∈b)→a.length≤b.length
 | [],a,_,_,h=>by
  cases a with
  | nil=>exact Nat.le_refl _
  | cons x a=>cases h x (List.mem_cons_self ..)
 | y::b,[],_,_,_=>Nat.zero_le _
 | y::b,x::a,ha,hb,h=>by
  obtain ⟨a1,a2⟩:=List.pairwise_cons.1 ha
  obtain ⟨b1,b2⟩:=List.pairwise_cons.1 hb
  by_cases e:x=y
  ·have:=aGb b a a2 b2 fun z hz=>by
    rcases List.mem_cons.1 (h z (List.mem_cons_of_mem _ hz)) with q | q
    ·have:=a1 z hz; omega
    ·exact q
   simp only [List.length_cons]; omega
  ·have hx:x∈b:=by
    rcases List.mem_cons.1 (h x (List.mem_cons_self ..)) with q | q
    ·exact (e q).elim
    ·exact q
   have hyx:=b1 x hx
   have:=aGb b (x::a) ha b2 fun z hz=>by
    rcases List.mem_cons.1 (h z hz) with q | q
    ·rcases List.mem_cons.1 hz with q2 | q2
     ·omega
     ·have:=a1 z q2; omega
    ·exact q
   simp only [List.length_cons] at this ⊢; omega
theorem aHi {a b:Ch} (ha:Val a) (hb:Val b) (k:Int) (w:Int→Int):bJ w (plM k a b)=bJ w a+k * bJ w b:=by
 rw [yA ha hb]; unfold lin; rw [kN,kM]
end Go.Am
end

section
set_option linter.unusedVariables false
set_option linter.unusedSimpArgs false
namespace Go.Am
def enA {β:Type} (g:β→AV) (m:List (Int × β)):List (Int × AV):=m.map fun p=>(p.1,g p.2)
def alk {β:Type}:List (Int × β)→Int→Option β
 | [],_=>none
 | p::m,n=>if p.1=n then some p.2 else alk m n
def apt {β:Type}:List (Int × β)→Int→β→List (Int × β)
 | [],n,v=>[(n,v)]
 | p::m,n,v=>if p.1=n then (n,v)::m else p::apt m n v
theorem rI {β:Type} (g:β→AV) (n:Int):∀ m:List (Int × β),nV (enA g m) n=(alk m n).map g
 | []=>rfl
 | p::m=>by
  have ih:=rI g n m
  unfold nV at ih ⊢
  simp only [enA,List.map_cons,gC,alk] at ih ⊢
  by_cases h:p.1=n
  ·simp [h]
  ·rw [if_neg h,if_neg h,← ih]
   cases gC n (m.map fun p=>(p.1,g p.2)) <;> rfl
theorem tT {β:Type} (g:β→AV) (n:Int) (v:β):∀ m:List (Int × β),nU (enA g m) n (g v)=enA g (apt m n v)
 | []=>rfl
 | p::m=>by
  have ih:=tT g n v m
  unfold nU at ih ⊢
  simp only [enA,List.map_cons,gC,apt] at ih ⊢
  by_cases h:p.1=n
  ·simp [h]
  ·rw [if_neg h,if_neg h,List.map_cons,← ih]
   cases gC n (m.map fun p=>(p.1,g p.2)) <;> rfl
theorem yL {β:Type} (n k:Int) (v:β):∀ m:List (Int × β),alk (apt m n v) k=if k=n then some v else alk m k
 | []=>by
  simp only [apt,alk]
  by_cases h:k=n
  ·rw [if_pos h,if_pos h.symm]
  ·rw [if_neg h,if_neg (Ne.symm h)]
 | p::m=>by
  have ih:=yL n k v m
  simp only [apt,alk]
  by_cases h:p.1=n
  ·rw [if_pos h]
   simp only [alk]
   by_cases hk:k=n
   ·rw [if_pos hk.symm,if_pos hk]
   ·rw [if_neg (Ne.symm hk),if_neg hk,if_neg (by omega)]
  ·rw [if_neg h]
   simp only [alk,ih]
   by_cases hp:p.1=k
   ·rw [if_pos hp,if_pos hp,if_neg (by omega)]
   ·rw [if_neg hp,if_neg hp]
theorem aLs {β:Type} (n:Int) (v:β):∀ (m:List (Int × β)) (k:Int),k∈(apt m n v).map (·.1)↔k∈m.map (·.1)∨k=n
 | [],k=>by simp [apt]
 | p::m,k=>by
  have ih:=aLs n v m k
  simp only [apt]
  split
  ·rename_i h
   simp only [List.map_cons,List.mem_cons]
   constructor
   ·rintro (h1 | h1)
    ·exact .inr h1
    ·exact .inl (.inr h1)
   ·rintro ((h1 | h1) | h1)
    ·exact .inl (by omega)
    ·exact .inr h1
    ·exact .inl h1
  ·simp only [List.map_cons,List.mem_cons,ih]
   constructor
   ·rintro (h1 | h1 | h1)
    ·exact .inl (.inl h1)
    ·exact .inl (.inr h1)
    ·exact .inr h1
   ·rintro ((h1 | h1) | h1)
    ·exact .inl h1
    ·exact .inr (.inl h1)
    ·exact .inr (.inr h1)
theorem aEr {β:Type} (n:Int) (v:β):∀ {m:List (Int × β)},(m.map (·.1)).Nodup→((apt m n v).map (·.1)).Nodup
 | [],_=>by simp [apt]
 | p::m,h=>by
  simp only [List.map_cons,List.nodup_cons] at h
  simp only [apt]
  split
  ·rename_i e
   simp only [List.map_cons,List.nodup_cons]
   exact ⟨by rw [← e]; exact h.1,h.2⟩
  ·rename_i e
   simp only [List.map_cons,List.nodup_cons]
   refine ⟨fun hm=>?_,aEr n v h.2⟩
   rcases (aLs n v m p.1).1 hm with h1 | h1
   ·exact h.1 h1
   ·exact e h1
theorem aGw {β:Type} {n:Int} {v:β}:∀ {m:List (Int × β)},(m.map (·.1)).Nodup→(alk m n=some v↔(n,v)∈m)
 | [],_=>by simp [alk]
 | p::m,h=>by
  simp only [List.map_cons,List.nodup_cons] at h
  have ih:=aGw (n:=n) (v:=v) h.2
  simp only [alk,List.mem_cons]
  by_cases e:p.1=n
  ·rw [if_pos e]
   constructor
   ·intro h1; injection h1 with h1; exact .inl (by rw [← e,← h1])
   ·rintro (h1 | h1)
    ·rw [← h1]
    ·exact absurd (List.mem_map.2 ⟨_,h1,rfl⟩) (by rw [e] at h; exact h.1)
  ·rw [if_neg e,ih]
   constructor
   ·exact .inr
   ·rintro (h1 | h1)
    ·rw [← h1] at e; exact absurd rfl e
    ·exact h1
theorem yY {β:Type} {g:β→D} {H H':Nat→Option HO} {ρ:Nat→Nat} {m m':List (Int × β)} (h:m=m'):kU H H' ρ (.map .i64 (enA (fun v=>.d (g v)) m)) (.map .i64 (enA (fun v=>.d (g v)) m')):=by
 subst h
 refine yX fun x hx=>?_
 obtain ⟨p,_,rfl⟩:=List.mem_map.1 hx
 exact bLq _
theorem oK {β:Type} {g:β→D} {H H':Nat→Option HO} {ρ:Nat→Nat} (m:List (Int × β)):kU H H' ρ (.map .i64 (enA (fun v=>.d (g v)) m)) (.map .i64 (enA (fun v=>.d (g v)) m))↔True:=⟨fun _=>trivial,fun _=>yY rfl⟩
theorem sN {β:Type} (l:List Nat) (g:β→D) (m:List (Int × β)):eE l (.map .i64 (enA (fun v=>.d (g v)) m))=.map .i64 (enA (fun v=>.d (g v)) m):=by
 simp only [eE,enA,List.map_map]
 congr 1
theorem aRy {β:Type} (g:β→D) (H:Nat→Option HO) (n id:Nat) (m:List (Int × β)) (h:H id=some (.map .i64 (enA (fun v=>.d (g v)) m))):frz H (n+2) (.mp id)=some (.mp .i64 (m.map (·.1)) (m.map fun p=>g p.2)):=by
 have e:∀ m:List (Int × β),((enA (fun v=>AV.d (g v)) m).map (·.2)).mapM (frz H (n+1))=some (m.map fun p=>g p.2):=fun m=>by
  induction m with
  | nil=>rfl
  | cons p m ih =>
   show (((enA (fun v=>AV.d (g v)) (p::m)).map (·.2)).mapM (frz H (n+1)))=_
   simp only [enA,List.map_cons,List.mapM_cons] at ih ⊢
   rw [ih]; rfl
 have e2:frz H (n+1+1) (.mp id)=match H id with
   | some (.map k es)=>((es.map fun x:Int × AV=>x.2).mapM (frz H (n+1))).map (D.mp k (es.map fun x:Int × AV=>x.1))
   | _=>none:=rfl
 rw [show n+2=n+1+1 from rfl,e2,h]
 simp only [e,Option.map_some]
 simp [enA]
theorem bCg {β:Type} (g:β→D) (hg:∀ v,aT (g v)=.d (g v)) (m:List (Int × β)):aAe (m.map (·.1)) (m.map fun p=>g p.2)=enA (fun v=>.d (g v)) m:=by
 unfold aAe enA
 induction m with
 | nil=>rfl
 | cons p m ih=>simp only [List.map_cons,List.zip_cons_cons,ih,hg]
end Go.Am
end

section
set_option linter.unusedVariables false
set_option linter.unusedSimpArgs false
open List (map_map mapM_map)
open Go Go.Am Go.Proofs
namespace Go.Am
theorem bQs:kH Tryz.prog 59:=by
 refine ⟨fun w=>enters_of Tryz.func59 (by kernel_rfl) rfl _ w,fun w=>?_⟩
 refine callsD_of_wpS Tryz.func59 rfl fun c₀ cs hu=>?_
 apply wpS_region
 simp [wpOpsS,go_sem,recoverD,hu,Tryz.ntmps59,bodyPostS,results,Tryz.results59]
 cases c₀; simp only at hu; subst hu; rfl
def pO (p:Int × Int):List D:=[.i .i64 p.1,.i .i64 p.2]
def dW (l:List (Int × Int)):D:=.sl (l.map pO)
theorem iN (x:Int × Int):(pO x).length=2:=rfl
theorem wA (x:Int × Int):((pO x).map AV.d).all one=true:=rfl
theorem qL (x:Int × Int):pO x=[.i .i64 x.1,.i .i64 x.2]:=rfl
/-! How often a cell is used -/
def aCi (m:List (Int × Int)) (n:Int):List (Int × Int):=apt m n ((alk m n).getD 0+1)
def jU (l:Ch) (m:List (Int × Int)):List (Int × Int):=l.foldl (fun m f=>aCi m f.1) m
def pV (c:List Cl):List (Int × Int):=c.foldl (fun m x=>jU x.b m) []
def pC (n:Int) (l:Ch):Nat:=l.countP fun f=>decide (f.1=n)
def jT (n:Int):List Cl→Nat
 | []=>0
 | x::c=>pC n x.b+jT n c
def aPn (m:List (Int × Int)) (k:Int→Nat):Prop:=(m.map (·.1)).Nodup∧∀ n,(alk m n).getD 0=(k n:Int)
theorem bJr {m:List (Int × Int)} {k:Int→Nat} (h:aPn m k) (n:Int):aPn (aCi m n) fun q=>k q+if q=n then 1 else 0:=by
 refine ⟨aEr _ _ h.1,fun q=>?_⟩
 unfold aCi
 rw [yL]
 by_cases e:q=n
 ·subst e; simp [h.2 q]
 ·simp [e,h.2 q]
theorem aHu:∀ (l:Ch) {m:List (Int × Int)} {k:Int→Nat},aPn m k→aPn (jU l m) fun q=>k q+pC q l
 | [],m,k,h=>by simpa [jU,pC] using h
 | f::l,m,k,h=>by
  have:=aHu l (bJr h f.1)
  refine ⟨this.1,fun q=>?_⟩
  show (alk (jU l (aCi m f.1)) q).getD 0=_
  rw [this.2 q]
  simp only [pC,List.countP_cons]
  by_cases e:q=f.1
  ·rw [if_pos e,if_pos (by simp [e])]; omega
  ·have:¬ f.1=q:=fun h=>e h.symm
   simp [e,this]
theorem aXi (c:List Cl):aPn (pV c) fun q=>jT q c:=by
 suffices ∀ (c:List Cl) (m:List (Int × Int)) (k:Int→Nat),aPn m k→aPn (c.foldl (fun m x=>jU x.b m) m) fun q=>k q+jT q c by
  have:=this c [] (fun _=>0) ⟨by simp,fun n=>rfl⟩
  simpa [pV] using this
 intro c
 induction c with
 | nil=>intro m k h; simpa [jT] using h
 | cons x c ih =>
  intro m k h
  have:=ih _ _ (aHu x.b h)
  refine ⟨this.1,fun q=>?_⟩
  show (alk (c.foldl (fun m x=>jU x.b m) (jU x.b m)) q).getD 0=_
  rw [this.2 q]
  simp only [jT]; omega
theorem aMl {c:List Cl} {i:Nat} (h:i<c.length):pV (c.take (i+1))=jU c[i].b (pV (c.take i)):=by
 unfold pV
 rw [List.take_add_one,List.getElem?_eq_getElem h,List.foldl_append]; rfl
theorem aMk {l:Ch} {i:Nat} (h:i<l.length) (m:List (Int × Int)):jU (l.take (i+1)) m=aCi (jU (l.take i) m) l[i].1:=by
 unfold jU
 rw [List.take_add_one,List.getElem?_eq_getElem h,List.foldl_append]; rfl
theorem rZ {l:Ch} {m:List (Int × Int)} {B:Int} (h:∀ n,0≤(alk m n).getD 0∧(alk m n).getD 0≤B):∀ n,0≤(alk (jU l m) n).getD 0∧(alk (jU l m) n).getD 0≤B+l.length:=by
 induction l generalizing m B with
 | nil=>intro n; have:=h n; simp only [jU,List.foldl_nil,List.length_nil]; omega
 | cons f l ih =>
  intro n
  have:=ih (m:=aCi m f.1) (B:=B+1) (fun q=>by
   unfold aCi
   rw [yL]
   have h1:=h q
   have h2:=h f.1
   split
   ·simp only [Option.getD_some]; omega
   ·omega) n
  show 0≤(alk (jU l (aCi m f.1)) n).getD 0∧(alk (jU l (aCi m f.1)) n).getD 0≤_
  simp only [List.length_cons]; omega
/-! The free pairs -/
def gI (c:List Cl) (f:Int × Int):Bool:=decide (jT f.1 c=1) && decide (f.2.natAbs=1)
def gP (c:List Cl) (x:Cl):List (Int × Int):=if 0<jT x.id c then [] else (x.b.filter (gI c)).map fun f=>(x.id,f.1)
def fB (c:List Cl):List (Int × Int):=c.flatMap (gP c)
def iD (v:Int):D:=.i .i64 v
def bD (v:Bool):D:=.b v
def usE (m:List (Int × Int)):List (Int × AV):=enA (fun v=>.d (iD v)) m
def onE (m:List (Int × Bool)):List (Int × AV):=enA (fun v=>.d (bD v)) m
theorem bIa:([]:List (Int × AV))=onE []:=rfl
theorem aUx (m:List (Int × Int)) (n:Int):nV (usE m) n=(alk m n).map fun v=>.d (.i .i64 v):=rI _ _ _
theorem aUy (m:List (Int × Bool)) (n:Int):nV (onE m) n=(alk m n).map fun v=>.d (.b v):=rI _ _ _
theorem bAu (m:List (Int × Int)) (n v:Int):nU (usE m) n (.d (.i .i64 v))=usE (apt m n v):=tT (fun v=>AV.d (iD v)) _ _ _
theorem aKe (m:List (Int × Bool)) (n:Int) (v:Bool):nU (onE m) n (.d (.b v))=onE (apt m n v):=tT (fun v=>AV.d (bD v)) _ _ _
theorem tB {H H':Nat→Option HO} {ρ:Nat→Nat} (m:List (Int × Int)):kU H H' ρ (.map .i64 (usE m)) (.map .i64 (usE m))↔True:=oK _
theorem dI {H H':Nat→Option HO} {ρ:Nat→Nat} (m:List (Int × Bool)):kU H H' ρ (.map .i64 (onE m)) (.map .i64 (onE m))↔True:=oK _
theorem kQ (l:List Nat) (m:List (Int × Int)):eE l (.map .i64 (usE m))=.map .i64 (usE m):=sN _ _ _
theorem bP (l:List Nat) (m:List (Int × Bool)):eE l (.map .i64 (onE m))=.map .i64 (onE m):=sN _ _ _
theorem bRq (H:Nat→Option HO) (id:Nat) (m:List (Int × Int)) (n:Int) (h:H id=some (.map .i64 (usE m))):kK Tryz.prog H 101 (.mp id) (.d (.i .i64 n)) false=some (.d (.i .i64 ((alk m n).getD 0))):=by
 have h1:tmp Tryz.prog 101=some (3,3):=by kernel_rfl
 have h2:gJ Tryz.prog 3=some .i64:=by kernel_rfl
 have h3:tz Tryz.prog 3=some (.int .i64 0):=by kernel_rfl
 rw [cG,h]
 simp only [aUx]
 cases alk m n <;> simp [h1,h2,h3,cv,cv1]
theorem bLz (H:Nat→Option HO) (id:Nat) (m:List (Int × Bool)) (n:Int) (h:H id=some (.map .i64 (onE m))):kK Tryz.prog H 102 (.mp id) (.d (.i .i64 n)) false=some (.d (.b ((alk m n).getD false))):=by
 have h1:tmp Tryz.prog 102=some (3,4):=by kernel_rfl
 have h2:gJ Tryz.prog 3=some .i64:=by kernel_rfl
 have h3:tz Tryz.prog 4=some (.bool false):=by kernel_rfl
 rw [cG,h]
 simp only [aUy]
 cases alk m n <;> simp [h1,h2,h3,cv,cv1]
def usD (m:List (Int × Int)):D:=.mp .i64 (m.map (·.1)) (m.map fun p=>iD p.2)
theorem bOr (H:Nat→Option HO) (m:List (Int × Int)) (n:Int):kK Tryz.prog H 101 (.d (usD m)) (.d (.i .i64 n)) false=some (.d (.i .i64 ((alk m n).getD 0))):=by
 have h1:tmp Tryz.prog 101=some (3,3):=by kernel_rfl
 have h2:gJ Tryz.prog 3=some .i64:=by kernel_rfl
 have h3:tz Tryz.prog 3=some (.int .i64 0):=by kernel_rfl
 have e:kK Tryz.prog H 101 (.d (usD m)) (.d (.i .i64 n)) false=sD Tryz.prog 101 .i64 (aAe (m.map (·.1)) (m.map fun p=>iD p.2)) (.d (.i .i64 n)) false:=rfl
 rw [e,bCg iD fun _=>rfl]
 simp only [sD,rI]
 cases alk m n <;> simp [h1,h2,h3,cv,cv1,iD]
def usI (m:List (Int × Int)):List (Int × D):=m.map fun p=>(p.1,iD p.2)
theorem aUr (m:List (Int × Int)) (Γ:Nat→AV) (n:Nat) (x:Operand) (h:oev Γ x=.d (usD m)):nev Tryz.prog (.range 101 x) Γ n=some (.ptr n 0,some (.iter .i64 none (usI m))):=by
 have h1:tmp Tryz.prog 101=some (3,3):=by kernel_rfl
 have e:∀ m:List (Int × Int),(m.map (·.1)).zip (m.map fun p=>iD p.2)=usI m:=fun m=>by
  induction m with
  | nil=>rfl
  | cons p m ih=>simp only [List.map_cons,List.zip_cons_cons,ih,usI]
 simp only [nev,h1,h,usD,Option.bind_some,e]
theorem aAs {α:Type}:∀ {l:List α} {j:Nat} {e:α},l[j]? = some e→l.Perm (e::l.eraseIdx j)
 | [],j,e,h=>by simp at h
 | x::l,0,e,h=>by simp at h; subst h; exact List.Perm.refl _
 | x::l,j+1,e,h=>by
  have:=aAs (l:=l) (j:=j) (e:=e) (by simpa using h)
  exact (List.Perm.cons x this).trans (List.Perm.swap e x _)
theorem bJj (H:Nat→Option HO) (id:Nat):itA H (.ptr id 0)=match H id with
  | some (.iter k _ es)=>some (id,k,es)
  | _=>none:=rfl
theorem aLg (H:Nat→Option HO) (id:Nat):bDg H (.ptr id 0)=match H id with
  | some (.iter k (some e) _)=>some (.tp [.d (.i k e.1),aT e.2])
  | _=>none:=rfl
theorem vL {H H':Nat→Option HO} {ρ:Nat→Nat} (k k':IntKind) (l l':Option (Int × D)) (es es':List (Int × D)):kU H H' ρ (.iter k l es) (.iter k' l' es')↔(k=k'∧l=l'∧es=es'):=Iff.rfl
theorem wP (s:List Nat) (k:IntKind) (l:Option (Int × D)) (es:List (Int × D)):eE s (.iter k l es)=.iter k l es:=rfl
theorem aQb {m:List (Int × Int)} {e:Int × D} (h:e∈usI m):∃ n v,e=(n,iD v)∧(n,v)∈m:=by
 obtain ⟨p,hp,rfl⟩:=List.mem_map.1 h
 exact ⟨p.1,p.2,rfl,hp⟩
theorem bCm {a b:Int} (h:iD a=iD b):a=b:=by injection h
theorem aRu (v:Int):aT (iD v)=.d (.i .i64 v):=rfl
def aHd (m:List (Int × Int)) (rest:List (Int × D)) (once:List (Int × Bool)):Prop:=∃ done,(done++rest).Perm (usI m)∧∀ n,(alk once n).getD false=true↔(n,iD 1)∈done
theorem aHd.step {m:List (Int × Int)} {rest:List (Int × D)} {once:List (Int × Bool)} (h:aHd m rest once) {j:Nat} {n v:Int} (he:rest[j]? = some (n,iD v)):aHd m (rest.eraseIdx j) (if v=1 then apt once n true else once):=by
 obtain ⟨done,h1,h2⟩:=h
 refine ⟨done++[(n,iD v)],?_,fun q=>?_⟩
 ·rw [List.append_assoc]
  exact ((List.Perm.append_left done (aAs he)).symm).trans h1
 ·rw [List.mem_append,List.mem_singleton,Prod.mk.injEq]
  by_cases hv:v=1
  ·rw [if_pos hv,yL]
   by_cases hq:q=n
   ·subst hq; subst hv; simp
   ·rw [if_neg hq,h2]; simp [hq]
  ·rw [if_neg hv,h2]
   constructor
   ·exact .inl
   ·rintro (h | ⟨_,h⟩)
    ·exact h
    ·exact absurd (bCm h).symm hv
theorem aHd.fin {m:List (Int × Int)} {once:List (Int × Bool)} (hnd:(m.map (·.1)).Nodup) (h:aHd m [] once) (n:Int):(alk once n).getD false=true↔(alk m n).getD 0=1:=by
 obtain ⟨done,h1,h2⟩:=h
 rw [List.append_nil] at h1
 rw [h2,h1.mem_iff]
 constructor
 ·intro h
  obtain ⟨a,v,e,hm⟩:=aQb h
  injection e with e1 e2
  rw [← bCm e2,← e1] at hm
  rw [(aGw hnd).2 hm]; rfl
 ·intro h
  cases hk:alk m n with
  | none=>rw [hk] at h; simp at h
  | some v =>
   rw [hk] at h
   have hv:v=1:=h
   subst hv
   exact List.mem_map.2 ⟨(n,1),(aGw hnd).1 hk,rfl⟩
theorem aHd.nil (m:List (Int × Int)):aHd m (usI m) []:=⟨[],by simp,fun n=>by simp [alk]⟩
def lQ (t:Nat) (sl:List (Nat × AV)) (mb:HO) (e:TypeId) (sz n:Nat) (cells:List D):St:=match n with
 | 0=>StL ((t,.nil)::sl) none [mb]
 | n+1=>StL ((t,.own 2 0 (n+1) sz)::sl) none [mb,.cells e (cells.map .d)]
def kJ (t:Nat) (sl:List (Nat × AV)) (mb xb:HO) (e:TypeId) (sz n:Nat) (cells:List D):St:=match n with
 | 0=>StL ((t,.nil)::sl) none [mb,xb]
 | n+1=>StL ((t,.own 3 0 (n+1) sz)::sl) none [mb,xb,.cells e (cells.map .d)]
theorem aOa {c d:List Cl} {i:Nat} (h:i<c.length):(c.take (i+1)).flatMap (gP d)=(c.take i).flatMap (gP d)++gP d c[i]:=by
 rw [List.take_add_one,List.getElem?_eq_getElem h,List.flatMap_append]; simp
theorem aEf {c:List Cl} {l:Ch} {i:Nat} (n:Int) (h:i<l.length):((l.take (i+1)).filter (gI c)).map (fun f=>(n,f.1))=((l.take i).filter (gI c)).map (fun f=>(n,f.1))++if gI c l[i] then [(n,l[i].1)] else []:=by
 rw [List.take_add_one,List.getElem?_eq_getElem h,List.filter_append,List.map_append]
 congr 1
 by_cases e:gI c l[i]=true <;> simp [e]
set_option maxHeartbeats 16000000 in
set_option maxRecDepth 10000 in
theorem aFz {c:List Cl} {e:Nat} (hz:SzX e c) (he:e+14<4398046511104):Spec Tryz.prog 22 [aP c] (dW (fB c)):=by
 have hlen:=hz.len
 refine vN (N:=90) aF Tryz.func22 rfl rfl rfl (by kernel_rfl) (by kernel_rfl) (by kernel_rfl) (by kernel_rfl) rfl bQs (by simp) ?_
 simp [-map_map,-mapM_map,↓KW,aP]
 refine zZ (fun i:Nat=>i≤c.length∧∀ n,0≤(alk (pV (c.take i)) n).getD 0∧(alk (pV (c.take i)) n).getD 0≤100 * i) (fun i=>StL [(0,.d (aP c)),(3,.mp 1),(17,.d (aP c)),(18,.d (.i .i64 c.length)),(19,.d (.i .i64 (i:Int)))] none [.map .i64 (usE (pV (c.take i)))]) (fun i=>c.length - i) 0 ⟨Nat.zero_le _,fun n=>by simp [pV,alk]⟩ ?_ ?_
 ·refine bB [1] (by simp) ?_ ?_
  ·simp [-map_map,upd,aT,Γ0,aP]
  ·exact ⟨⟨_,by simp [upd]; rfl,yY rfl⟩,trivial⟩
 ·rintro i ⟨hi,hub⟩
  by_cases hgo:i<c.length
  ·have q1:(i:Int)<c.length:=by omega
   have hx:c[i]? = some c[i]:=List.getElem?_eq_getElem hgo
   have hw:IntKind.i64.wrap ((i:Int)+1)=(i:Int)+1:=aS (by omega) (by omega)
   have htk:=aMl hgo
   have hxl:=hz.bl _ (List.getElem_mem hgo)
   refine (show ∃ x,c[i]=x from ⟨_,rfl⟩).elim fun x hxe=>?_
   rw [hxe] at hx htk hxl
   refine (show ∃ m,pV (c.take i)=m from ⟨_,rfl⟩).elim fun m hme=>?_
   rw [hme] at htk
   simp only [hme] at hub ⊢
   have hyc:bK x=[D.i .i64 x.id,.i .i64 x.dim,aO x.b]:=rfl
   simp [-map_map,-mapM_map,↓KW,aP,aO,q1,hx,hyc,aE,aB,aC,kQ]
   refine aU (fun j:Nat=>j≤x.b.length) (fun j=>StL [(0,.d (aP c)),(3,.mp 1),(17,.d (aP c)),(18,.d (.i .i64 c.length)),(19,.d (.i .i64 (i:Int))),(24,.d (aO x.b)),(25,.d (.i .i64 x.b.length)),(26,.d (.i .i64 (j:Int)))] none [.map .i64 (usE (jU (x.b.take j) m))]) (fun j=>x.b.length - j) 0 (Nat.zero_le _) ?_ ?_
   ·refine bB [1] (by simp) ?_ ?_ <;> simp [-map_map,upd,aT,Γ0,aP,aO,kQ,tB,jU]
   ·intro j hj
    by_cases hgo2:j<x.b.length
    ·have q2:(j:Int)<x.b.length:=by omega
     have hf:x.b[j]? = some x.b[j]:=List.getElem?_eq_getElem hgo2
     have hw2:IntKind.i64.wrap ((j:Int)+1)=(j:Int)+1:=aS (by omega) (by omega)
     have htk2:=aMk hgo2 m
     have hb2:=rZ (l:=x.b.take j) hub
     rw [List.length_take] at hb2
     refine (show ∃ f,x.b[j]=f from ⟨_,rfl⟩).elim fun f hfe=>?_
     rw [hfe] at hf htk2
     refine (show ∃ m',jU (x.b.take j) m=m' from ⟨_,rfl⟩).elim fun m' hme'=>?_
     rw [hme'] at htk2 hb2
     simp only [hme']
     have hb3:=hb2 f.1
     have hlk:∀ H:Nat→Option HO,H 1=some (.map .i64 (usE m'))→kK Tryz.prog H 101 (.mp 1) (.d (.i .i64 f.1)) false=some (.d (.i .i64 ((alk m' f.1).getD 0))):=fun H h=>bRq H 1 m' f.1 h
     have hinc:apt m' f.1 ((alk m' f.1).getD 0+1)=aCi m' f.1:=rfl
     refine (show ∃ v,(alk m' f.1).getD 0=v from ⟨_,rfl⟩).elim fun v hve=>?_
     rw [hve] at hlk hinc hb3
     have hw3:IntKind.i64.wrap (v+1)=v+1:=aS (by omega) (by omega)
     simp [-map_map,-mapM_map,↓KW,aP,aO,bC,q2,hf,hlk,hw3,hw2,cO,bAu,hinc,kQ,aJ,aD,aK]
     refine aI (j+1) hgo2 (Nat.sub_lt_sub_left hgo2 (Nat.lt_succ_self _)) (bB [1] (by simp) ?_ ?_) <;> simp [-map_map,upd,aT,Γ0,aP,aO,kQ,tB,htk2]
    ·have q2:¬ (j:Int)<x.b.length:=by omega
     have hb2:=rZ (l:=x.b) hub
     rw [List.take_of_length_le (by omega)]
     simp [-map_map,-mapM_map,↓KW,aP,aO,q2,hw]
     refine aI (i+1) ⟨hgo,fun n=>?_⟩ (Nat.sub_lt_sub_left hgo (Nat.lt_succ_self _)) (bB [1] (by simp) ?_ ?_)
     ·rw [htk]; have:=hb2 n; omega
     ·simp [-map_map,upd,aT,Γ0,aP,aO,kQ,tB,htk]
     ·simp [-map_map,upd,aT,Γ0,aP,aO,kQ,tB,htk]
  ·have q1:¬ (i:Int)<c.length:=by omega
   rw [List.take_of_length_le (by omega)] at hub ⊢
   obtain ⟨hnd,hcnt⟩:=aXi c
   refine (show ∃ m,pV c=m from ⟨_,rfl⟩).elim fun m hme=>?_
   rw [hme] at hub hnd hcnt ⊢
   simp [-map_map,-mapM_map,↓KW,aP,q1]
   refine bDe (StL [(0,.d (aP c)),(3,.d (usD m))] none []) (bB [] (by simp) ?_ ?_) ?_
   ·simp [-map_map,upd,aT,Γ0,aP]
    exact mT (aRy iD _ 6 1 m rfl) (fun a _ id h=>by simp [oH] at h)
   ·trivial
   ·simp [-map_map,-mapM_map,↓KW,aP,↓bAc,aUr m,bIa]
    refine aU (fun y:Option (Int × D) × List (Int × D) × List (Int × Bool)=>aHd m y.2.1 y.2.2) (fun y=>StL [(0,.d (aP c)),(3,.d (usD m)),(8,.mp 1),(39,.ptr 2 0)] none [.map .i64 (onE y.2.2),.iter .i64 y.1 y.2.1]) (fun y=>y.2.1.length) (none,usI m,[]) (aHd.nil m) ?_ ?_
    ·refine bB [1,2] (by simp) ?_ ?_ <;> simp [-map_map,upd,aT,Γ0,aP,dI,vL]
    ·rintro ⟨last,rest,once⟩ hok
     simp only at hok ⊢
     simp [-map_map,-mapM_map,↓KW,aP,↓bId,bJj]
     refine aKb (fun he=>?_) (fun j ⟨n,w⟩ he=>?_)
     ·subst he
      have hfin:=hok.fin hnd
      simp [-map_map,-mapM_map,↓KW,aP]
      refine aU (fun y:Nat × List (Int × Int)=>y.1≤c.length∧y.2.length≤100 * y.1∧(c.take y.1).flatMap (gP c)=y.2) (fun y=>lQ 11 [(0,.d (aP c)),(3,.d (usD m)),(8,.mp 1),(49,.d (aP c)),(50,.d (.i .i64 c.length)),(51,.d (.i .i64 (y.1:Int)))] (.map .i64 (onE once)) 59 2 y.2.length (flt pO y.2)) (fun y=>c.length - y.1) (0,[]) ⟨Nat.zero_le _,Nat.zero_le _,rfl⟩ ?_ ?_
      ·simp only [List.length_nil,lQ]
       refine bB [1] (by simp) ?_ ?_ <;> simp [-map_map,upd,aT,Γ0,aP,dI,bX]
      ·clear hi hgo q1 i hub
       rintro ⟨i,l⟩ ⟨hi,hll,hl⟩
       simp only at hi hll hl ⊢
       by_cases hgo:i<c.length
       ·have q1:(i:Int)<c.length:=by omega
        have hx:c[i]? = some c[i]:=List.getElem?_eq_getElem hgo
        have hw:IntKind.i64.wrap ((i:Int)+1)=(i:Int)+1:=aS (by omega) (by omega)
        have htk:=aOa (d:=c) hgo
        rw [hl] at htk
        have hxl:=hz.bl _ (List.getElem_mem hgo)
        have hxb:=hz.bb _ (List.getElem_mem hgo)
        refine (show ∃ x,c[i]=x from ⟨_,rfl⟩).elim fun x hxe=>?_
        rw [hxe] at hx htk hxl hxb
        have hyc:bK x=[D.i .i64 x.id,.i .i64 x.dim,aO x.b]:=rfl
        have hlu:∀ H:Nat→Option HO,kK Tryz.prog H 101 (.d (usD m)) (.d (.i .i64 x.id)) false=some (.d (.i .i64 ((jT x.id c:Nat):Int))):=fun H=>by rw [bOr H m x.id,hcnt]
        rcases hn:l.length with _ | k
        ·simp only [hn,lQ]
         by_cases h0:0<jT x.id c
         ·have h0':(0:Int)<((jT x.id c:Nat):Int):=by omega
          have hfc:gP c x=[]:=by unfold gP; rw [if_pos h0]
          rw [hfc,List.append_nil] at htk
          simp [-map_map,-mapM_map,↓KW,aP,q1,hx,hyc,hlu,h0,h0',hw,aE,aB,aC,bP]
          refine aI (τ:=Nat × List (Int × Int)) (i+1,l) ⟨hgo,by simp only; omega,htk⟩ (Nat.sub_lt_sub_left hgo (Nat.lt_succ_self _)) ?_
          simp only [hn,lQ]
          refine bB [1] (by simp) ?_ ?_ <;> simp [-map_map,upd,aT,Γ0,aP,dI,bX]
         ·have h0':¬ (0:Int)<((jT x.id c:Nat):Int):=by omega
          have hfc:gP c x=(x.b.filter (gI c)).map fun f=>(x.id,f.1):=by unfold gP; rw [if_neg h0]
          rw [hfc] at htk
          simp [-map_map,-mapM_map,↓KW,aP,aO,q1,hx,hyc,hlu,h0,h0',hw,aE,aB,aC,bP]
          refine aU (fun y:Nat × List (Int × Int)=>y.1≤x.b.length∧y.2.length≤100 * i+y.1∧l++((x.b.take y.1).filter (gI c)).map (fun f=>(x.id,f.1))=y.2) (fun y=>kJ 11 [(0,.d (aP c)),(3,.d (usD m)),(8,.mp 1),(13,.ptr 2 0),(49,.d (aP c)),(50,.d (.i .i64 c.length)),(51,.d (.i .i64 (i:Int))),(61,.d (aO x.b)),(62,.d (.i .i64 x.b.length)),(63,.d (.i .i64 (y.1:Int)))] (.map .i64 (onE once)) (.cells 47 [.d (.i .i64 x.id),.d (.i .i64 x.dim),.d (aO x.b)]) 59 2 y.2.length (flt pO y.2)) (fun y=>x.b.length - y.1) (0,l) ⟨Nat.zero_le _,by simp only; omega,by simp⟩ ?_ ?_
          ·simp only [hn,kJ]
           refine bB [1,2] (by simp) ?_ ?_ <;> simp [-map_map,upd,aT,Γ0,aP,aO,dI,bX]
          ·rintro ⟨j,l2⟩ ⟨hj,hl2,hinv⟩
           simp only at hj hl2 hinv ⊢
           by_cases hgo2:j<x.b.length
           ·have q2:(j:Int)<x.b.length:=by omega
            have hf:x.b[j]? = some x.b[j]:=List.getElem?_eq_getElem hgo2
            have hw2:IntKind.i64.wrap ((j:Int)+1)=(j:Int)+1:=aS (by omega) (by omega)
            have hfb:=hxb _ (List.getElem_mem hgo2)
            have htk2:=aEf (c:=c) x.id hgo2
            refine (show ∃ f,x.b[j]=f from ⟨_,rfl⟩).elim fun f hfe=>?_
            rw [hfe] at hf htk2 hfb
            have hinv2:l++((x.b.take (j+1)).filter (gI c)).map (fun f=>(x.id,f.1))=l2++if gI c f then [(x.id,f.1)] else []:=by rw [htk2,← List.append_assoc,hinv]
            have hef:fD f=[.i .i64 f.1,.b (decide (f.2<0)),aG (aW f.2.natAbs)]:=rfl
            obtain ⟨n,z⟩:=f
            simp only at hfb hef hinv2
            have hzS:Sz z:=szE hfb (by omega)
            have hon:(alk once n).getD false=decide (jT n c=1):=by
             rw [Bool.eq_iff_iff,hfin,hcnt,decide_eq_true_eq]; simp only; omega
            have hlo:∀ H:Nat→Option HO,H 1=some (.map .i64 (onE once))→kK Tryz.prog H 102 (.mp 1) (.d (.i .i64 n)) false=some (.d (.b (decide (jT n c=1)))):=fun H h=>by rw [bLz H 1 once n h,hon]
            have hm1:(1:Nat)≤maxLen:=aZ (by decide)
            rcases hn2:l2.length with _ | k
            ·by_cases h1:jT n c=1
             ·have hA:=yH z hzS
              have hO:=aAc
              obtain ⟨r,hC,hr⟩:=yG (z.natAbs:Int) 1 (by unfold Sz at hzS ⊢; rw [Int.natAbs_natCast]; exact hzS) sz1
              rw [decide_eq_true h1] at hlo
              simp only [kJ]
              simp [-map_map,-mapM_map,↓KW,aP,aO,bC,q2,hf,hlo,aJ,aD,aK]
              refine aA (ds:=[encZ z]) (by rfl) hA ?_
              simp [-map_map,-mapM_map,↓KW,aP,aO,bC,bG,aJ,aD,aK,bP]
              refine aA (ds:=[.i .i64 1]) (by rfl) hO ?_
              simp [-map_map,-mapM_map,↓KW,aP,aO,bC,bG,aJ,aD,aK,bP]
              refine aA (ds:=[encZ (z.natAbs:Int),encZ 1]) (by rfl) hC ?_
              by_cases hz1:z.natAbs=1
              ·have hr0:r=0:=hr.2 (by omega)
               have hok:gI c (n,z)=true:=by unfold gI; simp [h1,hz1]
               rw [hok,if_pos rfl] at hinv2
               rw [hr0]
               have e0:l2=[]:=List.eq_nil_of_length_eq_zero hn2
               simp [-map_map,-mapM_map,↓KW,hr0,hw2,hm1,bP]
               refine aI (τ:=Nat × List (Int × Int)) (j+1,l2++[(x.id,n)]) ⟨hgo2,by simp only [List.length_append,List.length_singleton]; omega,hinv2⟩ (Nat.sub_lt_sub_left hgo2 (Nat.lt_succ_self _)) ?_
               simp only [List.length_append,hn2,List.length_singleton,kJ]
               refine bB [1,2,5] (by simp) ?_ ?_ <;> simp [-map_map,upd,aT,Γ0,aP,aO,dI,e0,dC,qL]
              ·have hr0:((r == 0):Bool)=false:=by simp; exact fun h=>hz1 (by have:=hr.1 h; omega)
               have hok:gI c (n,z)=false:=by unfold gI; simp [hz1]
               rw [hok] at hinv2
               simp only [Bool.false_eq_true,if_false,List.append_nil] at hinv2
               simp [-map_map,-mapM_map,↓KW,hr0,hw2,bP]
               refine aI (τ:=Nat × List (Int × Int)) (j+1,l2) ⟨hgo2,by simp only; omega,hinv2⟩ (Nat.sub_lt_sub_left hgo2 (Nat.lt_succ_self _)) ?_
               simp only [hn2,kJ]
               refine bB [1,2] (by simp) ?_ ?_ <;> simp [-map_map,upd,aT,Γ0,aP,aO,dI,bX]
             ·rw [decide_eq_false h1] at hlo
              have hok:gI c (n,z)=false:=by unfold gI; simp [h1]
              rw [hok] at hinv2
              simp only [Bool.false_eq_true,if_false,List.append_nil] at hinv2
              simp only [kJ]
              simp [-map_map,-mapM_map,↓KW,aP,aO,bC,q2,hf,hlo,hw2,aJ,aD,aK,bP]
              refine aI (τ:=Nat × List (Int × Int)) (j+1,l2) ⟨hgo2,by simp only; omega,hinv2⟩ (Nat.sub_lt_sub_left hgo2 (Nat.lt_succ_self _)) ?_
              simp only [hn2,kJ]
              refine bB [1,2] (by simp) ?_ ?_ <;> simp [-map_map,upd,aT,Γ0,aP,aO,dI,bX]
            ·by_cases h1:jT n c=1
             ·have hA:=yH z hzS
              have hO:=aAc
              obtain ⟨r,hC,hr⟩:=yG (z.natAbs:Int) 1 (by unfold Sz at hzS ⊢; rw [Int.natAbs_natCast]; exact hzS) sz1
              rw [decide_eq_true h1] at hlo
              simp only [kJ]
              simp [-map_map,-mapM_map,↓KW,aP,aO,bC,q2,hf,hlo,aJ,aD,aK]
              refine aA (ds:=[encZ z]) (by rfl) hA ?_
              simp [-map_map,-mapM_map,↓KW,aP,aO,bC,bG,aJ,aD,aK,bP]
              refine aA (ds:=[.i .i64 1]) (by rfl) hO ?_
              simp [-map_map,-mapM_map,↓KW,aP,aO,bC,bG,aJ,aD,aK,bP]
              refine aA (ds:=[encZ (z.natAbs:Int),encZ 1]) (by rfl) hC ?_
              by_cases hz1:z.natAbs=1
              ·have hr0:r=0:=hr.2 (by omega)
               have hok:gI c (n,z)=true:=by unfold gI; simp [h1,hz1]
               rw [hok,if_pos rfl] at hinv2
               rw [hr0]
               have hbb:=cT (n:=k+1) (by omega)
               have hcl:=cE iN l2
               rw [hn2] at hcl
               have hal:=fI wA l2
               have hb8:(k+1+1) * 16≤140737488355328:=by omega
               simp [-map_map,-mapM_map,↓KW,hr0,hw2,hm1,hbb,hb8,hcl,hal,aZ,bP]
               refine aI (τ:=Nat × List (Int × Int)) (j+1,l2++[(x.id,n)]) ⟨hgo2,by simp only [List.length_append,List.length_singleton]; omega,hinv2⟩ (Nat.sub_lt_sub_left hgo2 (Nat.lt_succ_self _)) ?_
               simp only [List.length_append,hn2,List.length_singleton,kJ]
               refine bB [1,2,6] (by simp) ?_ ?_ <;> simp [-map_map,upd,aT,Γ0,aP,aO,bP,dI,fS,dC,qL]
              ·have hr0:((r == 0):Bool)=false:=by simp; exact fun h=>hz1 (by have:=hr.1 h; omega)
               have hok:gI c (n,z)=false:=by unfold gI; simp [hz1]
               rw [hok] at hinv2
               simp only [Bool.false_eq_true,if_false,List.append_nil] at hinv2
               simp [-map_map,-mapM_map,↓KW,hr0,hw2,bP]
               refine aI (τ:=Nat × List (Int × Int)) (j+1,l2) ⟨hgo2,by simp only; omega,hinv2⟩ (Nat.sub_lt_sub_left hgo2 (Nat.lt_succ_self _)) ?_
               simp only [hn2,kJ]
               refine bB [1,2,3] (by simp) ?_ ?_ <;> simp [-map_map,upd,aT,Γ0,aP,aO,dI,bX]
             ·rw [decide_eq_false h1] at hlo
              have hok:gI c (n,z)=false:=by unfold gI; simp [h1]
              rw [hok] at hinv2
              simp only [Bool.false_eq_true,if_false,List.append_nil] at hinv2
              simp only [kJ]
              simp [-map_map,-mapM_map,↓KW,aP,aO,bC,q2,hf,hlo,hw2,aJ,aD,aK,bP]
              refine aI (τ:=Nat × List (Int × Int)) (j+1,l2) ⟨hgo2,by simp only; omega,hinv2⟩ (Nat.sub_lt_sub_left hgo2 (Nat.lt_succ_self _)) ?_
              simp only [hn2,kJ]
              refine bB [1,2,3] (by simp) ?_ ?_ <;> simp [-map_map,upd,aT,Γ0,aP,aO,dI,bX]
           ·have q2:¬ (j:Int)<x.b.length:=by omega
            rw [List.take_of_length_le (by omega)] at hinv
            rcases hn2:l2.length with _ | k
            ·simp only [kJ]
             simp [-map_map,-mapM_map,↓KW,aP,aO,q2,hw,bP]
             refine aI (τ:=Nat × List (Int × Int)) (i+1,l2) ⟨hgo,by simp only; omega,by rw [htk,hinv]⟩ (Nat.sub_lt_sub_left hgo (Nat.lt_succ_self _)) ?_
             simp only [hn2,lQ]
             refine bB [1] (by simp) ?_ ?_ <;> simp [-map_map,upd,aT,Γ0,aP,dI,bX]
            ·simp only [kJ]
             simp [-map_map,-mapM_map,↓KW,aP,aO,q2,hw,bP]
             refine aI (τ:=Nat × List (Int × Int)) (i+1,l2) ⟨hgo,by simp only; omega,by rw [htk,hinv]⟩ (Nat.sub_lt_sub_left hgo (Nat.lt_succ_self _)) ?_
             simp only [hn2,lQ]
             refine bB [1,3] (by simp) ?_ ?_ <;> simp [-map_map,upd,aT,Γ0,aP,dI,bX]
        ·simp only [hn,lQ]
         by_cases h0:0<jT x.id c
         ·have h0':(0:Int)<((jT x.id c:Nat):Int):=by omega
          have hfc:gP c x=[]:=by unfold gP; rw [if_pos h0]
          rw [hfc,List.append_nil] at htk
          simp [-map_map,-mapM_map,↓KW,aP,q1,hx,hyc,hlu,h0,h0',hw,aE,aB,aC,bP]
          refine aI (τ:=Nat × List (Int × Int)) (i+1,l) ⟨hgo,by simp only; omega,htk⟩ (Nat.sub_lt_sub_left hgo (Nat.lt_succ_self _)) ?_
          simp only [hn,lQ]
          refine bB [1,2] (by simp) ?_ ?_ <;> simp [-map_map,upd,aT,Γ0,aP,dI,bX]
         ·have h0':¬ (0:Int)<((jT x.id c:Nat):Int):=by omega
          have hfc:gP c x=(x.b.filter (gI c)).map fun f=>(x.id,f.1):=by unfold gP; rw [if_neg h0]
          rw [hfc] at htk
          simp [-map_map,-mapM_map,↓KW,aP,aO,q1,hx,hyc,hlu,h0,h0',hw,aE,aB,aC,bP]
          refine aU (fun y:Nat × List (Int × Int)=>y.1≤x.b.length∧y.2.length≤100 * i+y.1∧l++((x.b.take y.1).filter (gI c)).map (fun f=>(x.id,f.1))=y.2) (fun y=>kJ 11 [(0,.d (aP c)),(3,.d (usD m)),(8,.mp 1),(13,.ptr 2 0),(49,.d (aP c)),(50,.d (.i .i64 c.length)),(51,.d (.i .i64 (i:Int))),(61,.d (aO x.b)),(62,.d (.i .i64 x.b.length)),(63,.d (.i .i64 (y.1:Int)))] (.map .i64 (onE once)) (.cells 47 [.d (.i .i64 x.id),.d (.i .i64 x.dim),.d (aO x.b)]) 59 2 y.2.length (flt pO y.2)) (fun y=>x.b.length - y.1) (0,l) ⟨Nat.zero_le _,by simp only; omega,by simp⟩ ?_ ?_
          ·simp only [hn,kJ]
           refine bB [1,3,2] (by simp) ?_ ?_ <;> simp [-map_map,upd,aT,Γ0,aP,aO,dI,bX]
          ·rintro ⟨j,l2⟩ ⟨hj,hl2,hinv⟩
           simp only at hj hl2 hinv ⊢
           by_cases hgo2:j<x.b.length
           ·have q2:(j:Int)<x.b.length:=by omega
            have hf:x.b[j]? = some x.b[j]:=List.getElem?_eq_getElem hgo2
            have hw2:IntKind.i64.wrap ((j:Int)+1)=(j:Int)+1:=aS (by omega) (by omega)
            have hfb:=hxb _ (List.getElem_mem hgo2)
            have htk2:=aEf (c:=c) x.id hgo2
            refine (show ∃ f,x.b[j]=f from ⟨_,rfl⟩).elim fun f hfe=>?_
            rw [hfe] at hf htk2 hfb
            have hinv2:l++((x.b.take (j+1)).filter (gI c)).map (fun f=>(x.id,f.1))=l2++if gI c f then [(x.id,f.1)] else []:=by rw [htk2,← List.append_assoc,hinv]
            have hef:fD f=[.i .i64 f.1,.b (decide (f.2<0)),aG (aW f.2.natAbs)]:=rfl
            obtain ⟨n,z⟩:=f
            simp only at hfb hef hinv2
            have hzS:Sz z:=szE hfb (by omega)
            have hon:(alk once n).getD false=decide (jT n c=1):=by
             rw [Bool.eq_iff_iff,hfin,hcnt,decide_eq_true_eq]; simp only; omega
            have hlo:∀ H:Nat→Option HO,H 1=some (.map .i64 (onE once))→kK Tryz.prog H 102 (.mp 1) (.d (.i .i64 n)) false=some (.d (.b (decide (jT n c=1)))):=fun H h=>by rw [bLz H 1 once n h,hon]
            have hm1:(1:Nat)≤maxLen:=aZ (by decide)
            rcases hn2:l2.length with _ | k
            ·by_cases h1:jT n c=1
             ·have hA:=yH z hzS
              have hO:=aAc
              obtain ⟨r,hC,hr⟩:=yG (z.natAbs:Int) 1 (by unfold Sz at hzS ⊢; rw [Int.natAbs_natCast]; exact hzS) sz1
              rw [decide_eq_true h1] at hlo
              simp only [kJ]
              simp [-map_map,-mapM_map,↓KW,aP,aO,bC,q2,hf,hlo,aJ,aD,aK]
              refine aA (ds:=[encZ z]) (by rfl) hA ?_
              simp [-map_map,-mapM_map,↓KW,aP,aO,bC,bG,aJ,aD,aK,bP]
              refine aA (ds:=[.i .i64 1]) (by rfl) hO ?_
              simp [-map_map,-mapM_map,↓KW,aP,aO,bC,bG,aJ,aD,aK,bP]
              refine aA (ds:=[encZ (z.natAbs:Int),encZ 1]) (by rfl) hC ?_
              by_cases hz1:z.natAbs=1
              ·have hr0:r=0:=hr.2 (by omega)
               have hok:gI c (n,z)=true:=by unfold gI; simp [h1,hz1]
               rw [hok,if_pos rfl] at hinv2
               rw [hr0]
               have e0:l2=[]:=List.eq_nil_of_length_eq_zero hn2
               simp [-map_map,-mapM_map,↓KW,hr0,hw2,hm1,bP]
               refine aI (τ:=Nat × List (Int × Int)) (j+1,l2++[(x.id,n)]) ⟨hgo2,by simp only [List.length_append,List.length_singleton]; omega,hinv2⟩ (Nat.sub_lt_sub_left hgo2 (Nat.lt_succ_self _)) ?_
               simp only [List.length_append,hn2,List.length_singleton,kJ]
               refine bB [1,2,5] (by simp) ?_ ?_ <;> simp [-map_map,upd,aT,Γ0,aP,aO,dI,e0,dC,qL]
              ·have hr0:((r == 0):Bool)=false:=by simp; exact fun h=>hz1 (by have:=hr.1 h; omega)
               have hok:gI c (n,z)=false:=by unfold gI; simp [hz1]
               rw [hok] at hinv2
               simp only [Bool.false_eq_true,if_false,List.append_nil] at hinv2
               simp [-map_map,-mapM_map,↓KW,hr0,hw2,bP]
               refine aI (τ:=Nat × List (Int × Int)) (j+1,l2) ⟨hgo2,by simp only; omega,hinv2⟩ (Nat.sub_lt_sub_left hgo2 (Nat.lt_succ_self _)) ?_
               simp only [hn2,kJ]
               refine bB [1,2] (by simp) ?_ ?_ <;> simp [-map_map,upd,aT,Γ0,aP,aO,dI,bX]
             ·rw [decide_eq_false h1] at hlo
              have hok:gI c (n,z)=false:=by unfold gI; simp [h1]
              rw [hok] at hinv2
              simp only [Bool.false_eq_true,if_false,List.append_nil] at hinv2
              simp only [kJ]
              simp [-map_map,-mapM_map,↓KW,aP,aO,bC,q2,hf,hlo,hw2,aJ,aD,aK,bP]
              refine aI (τ:=Nat × List (Int × Int)) (j+1,l2) ⟨hgo2,by simp only; omega,hinv2⟩ (Nat.sub_lt_sub_left hgo2 (Nat.lt_succ_self _)) ?_
              simp only [hn2,kJ]
              refine bB [1,2] (by simp) ?_ ?_ <;> simp [-map_map,upd,aT,Γ0,aP,aO,dI,bX]
            ·by_cases h1:jT n c=1
             ·have hA:=yH z hzS
              have hO:=aAc
              obtain ⟨r,hC,hr⟩:=yG (z.natAbs:Int) 1 (by unfold Sz at hzS ⊢; rw [Int.natAbs_natCast]; exact hzS) sz1
              rw [decide_eq_true h1] at hlo
              simp only [kJ]
              simp [-map_map,-mapM_map,↓KW,aP,aO,bC,q2,hf,hlo,aJ,aD,aK]
              refine aA (ds:=[encZ z]) (by rfl) hA ?_
              simp [-map_map,-mapM_map,↓KW,aP,aO,bC,bG,aJ,aD,aK,bP]
              refine aA (ds:=[.i .i64 1]) (by rfl) hO ?_
              simp [-map_map,-mapM_map,↓KW,aP,aO,bC,bG,aJ,aD,aK,bP]
              refine aA (ds:=[encZ (z.natAbs:Int),encZ 1]) (by rfl) hC ?_
              by_cases hz1:z.natAbs=1
              ·have hr0:r=0:=hr.2 (by omega)
               have hok:gI c (n,z)=true:=by unfold gI; simp [h1,hz1]
               rw [hok,if_pos rfl] at hinv2
               rw [hr0]
               have hbb:=cT (n:=k+1) (by omega)
               have hcl:=cE iN l2
               rw [hn2] at hcl
               have hal:=fI wA l2
               have hb8:(k+1+1) * 16≤140737488355328:=by omega
               simp [-map_map,-mapM_map,↓KW,hr0,hw2,hm1,hbb,hb8,hcl,hal,aZ,bP]
               refine aI (τ:=Nat × List (Int × Int)) (j+1,l2++[(x.id,n)]) ⟨hgo2,by simp only [List.length_append,List.length_singleton]; omega,hinv2⟩ (Nat.sub_lt_sub_left hgo2 (Nat.lt_succ_self _)) ?_
               simp only [List.length_append,hn2,List.length_singleton,kJ]
               refine bB [1,2,6] (by simp) ?_ ?_ <;> simp [-map_map,upd,aT,Γ0,aP,aO,bP,dI,fS,dC,qL]
              ·have hr0:((r == 0):Bool)=false:=by simp; exact fun h=>hz1 (by have:=hr.1 h; omega)
               have hok:gI c (n,z)=false:=by unfold gI; simp [hz1]
               rw [hok] at hinv2
               simp only [Bool.false_eq_true,if_false,List.append_nil] at hinv2
               simp [-map_map,-mapM_map,↓KW,hr0,hw2,bP]
               refine aI (τ:=Nat × List (Int × Int)) (j+1,l2) ⟨hgo2,by simp only; omega,hinv2⟩ (Nat.sub_lt_sub_left hgo2 (Nat.lt_succ_self _)) ?_
               simp only [hn2,kJ]
               refine bB [1,2,3] (by simp) ?_ ?_ <;> simp [-map_map,upd,aT,Γ0,aP,aO,dI,bX]
             ·rw [decide_eq_false h1] at hlo
              have hok:gI c (n,z)=false:=by unfold gI; simp [h1]
              rw [hok] at hinv2
              simp only [Bool.false_eq_true,if_false,List.append_nil] at hinv2
              simp only [kJ]
              simp [-map_map,-mapM_map,↓KW,aP,aO,bC,q2,hf,hlo,hw2,aJ,aD,aK,bP]
              refine aI (τ:=Nat × List (Int × Int)) (j+1,l2) ⟨hgo2,by simp only; omega,hinv2⟩ (Nat.sub_lt_sub_left hgo2 (Nat.lt_succ_self _)) ?_
              simp only [hn2,kJ]
              refine bB [1,2,3] (by simp) ?_ ?_ <;> simp [-map_map,upd,aT,Γ0,aP,aO,dI,bX]
           ·have q2:¬ (j:Int)<x.b.length:=by omega
            rw [List.take_of_length_le (by omega)] at hinv
            rcases hn2:l2.length with _ | k
            ·simp only [kJ]
             simp [-map_map,-mapM_map,↓KW,aP,aO,q2,hw,bP]
             refine aI (τ:=Nat × List (Int × Int)) (i+1,l2) ⟨hgo,by simp only; omega,by rw [htk,hinv]⟩ (Nat.sub_lt_sub_left hgo (Nat.lt_succ_self _)) ?_
             simp only [hn2,lQ]
             refine bB [1] (by simp) ?_ ?_ <;> simp [-map_map,upd,aT,Γ0,aP,dI,bX]
            ·simp only [kJ]
             simp [-map_map,-mapM_map,↓KW,aP,aO,q2,hw,bP]
             refine aI (τ:=Nat × List (Int × Int)) (i+1,l2) ⟨hgo,by simp only; omega,by rw [htk,hinv]⟩ (Nat.sub_lt_sub_left hgo (Nat.lt_succ_self _)) ?_
             simp only [hn2,lQ]
             refine bB [1,3] (by simp) ?_ ?_ <;> simp [-map_map,upd,aT,Γ0,aP,dI,bX]
       ·have q1:¬ (i:Int)<c.length:=by omega
        rw [List.take_of_length_le (by omega)] at hl
        have hl':fB c=l:=hl
        rcases hn:l.length with _ | k
        ·have e0:l=[]:=List.eq_nil_of_length_eq_zero hn
         simp only [lQ]
         simp [-map_map,-mapM_map,↓KW,aP,dW,q1,hl',e0]
        ·have e1:=fR iN hn
         have e2:=eW (by decide) iN hn
         have e3:=cE iN l
         rw [hn] at e3
         simp only [lQ]
         simp [-map_map,-mapM_map,↓KW,aP,dW,q1,hl',e1,e2,e3,hn]
     ·have hlt:=(List.getElem?_eq_some_iff.1 he).1
      obtain ⟨n',v,hnv,hnm⟩:∃ n' v,((n,w):Int × D)=(n',iD v)∧(n',v)∈m:=by
       obtain ⟨done,h1,_⟩:=hok
       exact aQb (h1.mem_iff.1 (List.mem_append_right _ (List.mem_of_getElem? he)))
      injection hnv with e1 e2
      subst e1; subst e2
      have hst:=hok.step he
      have hel:(rest.eraseIdx j).length<rest.length:=by rw [List.length_eraseIdx,if_pos hlt]; omega
      refine (show ∃ r',rest.eraseIdx j=r' from ⟨_,rfl⟩).elim fun r' hre=>?_
      rw [hre] at hst hel ⊢
      by_cases hv:v=1
      ·have hv':((v == 1):Bool)=true:=by simpa using hv
       rw [if_pos hv] at hst
       have q3:(((1:Int) == (1:Int)):Bool)=true:=rfl
       simp [-map_map,-mapM_map,↓KW,aP,↓aJt,aLg,aRu,hv',hv,q3,cO,aKe,bP,wP]
       refine aI (τ:=Option (Int × D) × List (Int × D) × List (Int × Bool)) (some (n,iD v),r',apt once n true) hst hel (bB [1,2] (by simp) ?_ ?_) <;> simp [-map_map,upd,aT,Γ0,aP,dI,vL,hv]
      ·have hv':((v == 1):Bool)=false:=by simpa using hv
       rw [if_neg hv] at hst
       simp [-map_map,-mapM_map,↓KW,aP,↓aJt,aLg,aRu,hv',hv,cO,aKe,bP,wP]
       refine aI (τ:=Option (Int × D) × List (Int × D) × List (Int × Bool)) (some (n,iD v),r',once) hst hel (bB [1,2] (by simp) ?_ ?_) <;> simp [-map_map,upd,aT,Γ0,aP,dI,vL]
end Go.Am
end

section
set_option linter.unusedVariables false
set_option linter.unusedSimpArgs false
open List (map_map mapM_map)
open Go Go.Am Go.Proofs
namespace Go.Am
theorem aSl (x y:List AV):iP .eql false (.ag x) (.ag y)=none:=rfl
theorem bQp:tai Tryz.prog 59=some .i64:=by kernel_rfl
theorem bMk (a b c d:Int):bEy .eql (tai Tryz.prog 59) (.ag [.d (.i .i64 a),.d (.i .i64 b)]) (.ag [.d (.i .i64 c),.d (.i .i64 d)])=some (.b (a == c && b == d)):=by rw [bQp]; rfl
def ixP (l:List (Int × Int)) (p:Int × Int):Int:=if p∈l then (l.findIdx (fun q=>q == p):Nat) else -1
set_option maxHeartbeats 2000000 in
set_option maxRecDepth 10000 in
theorem bSa (l:List (Int × Int)) (a b:Int) (hl:l.length≤1000000):Spec Tryz.prog 114 [dW l,.ag [.i .i64 a,.i .i64 b]] (.i .i64 (ixP l (a,b))):=by
 refine aX (N:=19) aF Tryz.func114 rfl rfl rfl (by kernel_rfl) (by kernel_rfl) (by simp) ?_
 simp [-map_map,-mapM_map,↓KW,dW]
 refine aU (fun i:Nat=>i≤l.length∧∀ j p,j<i→l[j]? = some p→p≠(a,b)) (fun i=>StL [(0,.d (dW l)),(3,.ptr 1 0),(7,.d (.i .i64 l.length)),(8,.d (.i .i64 (i:Int)))] none [.cells 59 [.d (.i .i64 a),.d (.i .i64 b)]]) (fun i=>l.length - i) 0 ⟨Nat.zero_le _,fun j p h=>by omega⟩ ?_ ?_
 ·refine bB [1] (by simp) ?_ ?_ <;> simp [-map_map,upd,aT,Γ0,dW]
 ·rintro i ⟨hi,hn⟩
  by_cases hgo:i<l.length
  ·have q1:(i:Int)<l.length:=by omega
   have hx:l[i]? = some l[i]:=List.getElem?_eq_getElem hgo
   have hw:IntKind.i64.wrap ((i:Int)+1)=(i:Int)+1:=aS (by omega) (by omega)
   have hw0:IntKind.i64.wrap (i:Int)=(i:Int):=aS (by omega) (by omega)
   refine (show ∃ x,l[i]=x from ⟨_,rfl⟩).elim fun x hxe=>?_
   rw [hxe] at hx
   have hy:pO x=[.i .i64 x.1,.i .i64 x.2]:=rfl
   by_cases he:x=(a,b)
   ·subst he
    have hb:((a == a && b == b):Bool)=true:=by simp
    have hix:ixP l (a,b)=i:=by
     unfold ixP
     rw [if_pos (List.mem_of_getElem? hx)]
     congr 1
     rw [List.findIdx_eq hgo]
     refine ⟨by rw [hxe]; simp,fun j hj=>?_⟩
     have:=hn j l[j] hj (List.getElem?_eq_getElem (by omega))
     simpa using this
    simp [-map_map,-mapM_map,↓KW,dW,q1,hx,hy,hw,aSl,bMk,hb,hix]
   ·have hb:((a == x.1 && b == x.2):Bool)=false:=by
     cases h:((a == x.1 && b == x.2):Bool)
     ·rfl
     ·simp only [Bool.and_eq_true,beq_iff_eq] at h
      exact (he (Prod.ext h.1.symm h.2.symm)).elim
    simp [-map_map,-mapM_map,↓KW,dW,q1,hx,hy,hw,aSl,bMk,hb]
    refine aI (i+1) ⟨hgo,fun j p hj hp=>?_⟩ (Nat.sub_lt_sub_left hgo (Nat.lt_succ_self _)) (bB [1] (by simp) ?_ ?_)
    ·rcases Nat.lt_or_ge j i with h | h
     ·exact hn j p h hp
     ·obtain rfl:j=i:=by omega
      rw [hx] at hp; injection hp with hp; rw [← hp]; exact he
    ·simp [-map_map,upd,aT,Γ0,dW]
    ·simp [-map_map,upd,aT,Γ0,dW]
  ·have q1:¬ (i:Int)<l.length:=by omega
   have hnm:(a,b) ∉ l:=fun h=>by
    obtain ⟨j,hj⟩:=List.getElem?_of_mem h
    exact hn j _ (by have:=(List.getElem?_eq_some_iff.1 hj).1; omega) hj rfl
   simp [-map_map,-mapM_map,↓KW,dW,q1,ixP,hnm]
set_option maxHeartbeats 2000000 in
theorem bWb (l:List (Int × Int)) (a b:Int) (hl:l.length≤1000000):Spec Tryz.prog 80 [dW l,.ag [.i .i64 a,.i .i64 b]] (.b (decide ((a,b)∈l))):=by
 refine aX (N:=9) aF Tryz.func80 rfl rfl rfl (by kernel_rfl) (by kernel_rfl) (by simp) ?_
 have hI:=bSa l a b hl
 have hge:decide ((0:Int)≤ixP l (a,b))=decide ((a,b)∈l):=by
  unfold ixP
  by_cases h:(a,b)∈l
  ·rw [if_pos h]; simp [h]
  ·rw [if_neg h]; simp [h]
 simp [-map_map,-mapM_map,↓KW,dW]
 refine aA (ds:=[dW l,.ag [.i .i64 a,.i .i64 b]]) (by rfl) hI ?_
 simp [-map_map,-mapM_map,↓KW,dW,hge]
end Go.Am
end

section
set_option linter.unusedVariables false
set_option linter.unusedSimpArgs false
namespace Go.Am
open RowKit (Below)
section
variable {P:Program} {G:Ctx} {N:Nat} {ds:List Deferred}
end
end Go.Am
end

section
set_option linter.unusedVariables false
set_option linter.unusedSimpArgs false
namespace Go.Am
open RowKit (Below)
inductive Tr where
 | leaf
 | one (i:Nat) (t:Tr)
 | two (i:Nat) (t:Tr) (j:Nat) (u:Tr)
def bAp (P:Program) (o:Oper):Bool:=match o.op with
 | .move _=>true
 | .assign _=>true
 | .insert ..=>true
 | .call { callee:=.value (.func f),.. }=>!bE P f && !bH P f
 | _=>false
def opL (ops:Array Oper) (i:Nat):List Oper:=(ops.toList.drop i).take 1
def opsL (ops:Array Oper) (is:List Nat):List Oper:=is.flatMap (opL ops)
theorem aQy {ops:Array Oper} {i:Nat} {o:Oper} (h:ops[i]? = some o):opL ops i=[o]:=by
 unfold opL
 have h':ops.toList[i]? = some o:=by simpa using h
 obtain ⟨hl,he⟩:=List.getElem?_eq_some_iff.1 h'
 rw [List.drop_eq_getElem_cons hl,he]; rfl
def aJc (P:Program) (ops:Array Oper):List Nat→Array Bool→Option (Array Bool)
 | [],l=>some l
 | i::is,l=>if (Region.ready .any ops l).contains i && aRz P ops l i then aJc P ops is (l.setIfInBounds i true) else none
def bAq (P:Program) (ops:Array Oper) (i:Nat):Bool:=match ops[i]? with
 | some o=>bAp P o
 | none=>false
def aCl (P:Program) (ops:Array Oper):Nat→Array Bool→Tr→Bool
 | 0,l,.leaf=>(Region.ready .any ops l).isEmpty
 | n+1,l,.one i t=>(Region.ready .any ops l == [i]) && bAq P ops i && aCl P ops n (l.setIfInBounds i true) t
 | n+1,l,.two i t j u=>(Region.ready .any ops l == [i,j]) && bAq P ops i && bAq P ops j && aCl P ops n (l.setIfInBounds i true) t && aCl P ops n (l.setIfInBounds j true) u
 | _,_,_=>false
def OWT (P:Program) (ops:Array Oper):Tr→St→List Nat→(St→List Nat→Prop)→Prop
 | .leaf,σ,con,k=>k σ con
 | .one i t,σ,con,k=>OW P ops (opL ops i) σ con fun σ' con'=>OWT P ops t σ' con' k
 | .two i t j u,σ,con,k=>(OW P ops (opL ops i) σ con fun σ' con'=>OWT P ops t σ' con' k)∧(OW P ops (opL ops j) σ con fun σ' con'=>OWT P ops u σ' con' k)
def aMm (P:Program) (ops:Array Oper) (pre:List Nat) (t:Tr):Bool:=match aJc P ops pre (Array.replicate ops.size false) with
 | some l=>oT (opsL ops pre) && decide (pre.length≤ops.size) && aCl P ops (ops.size - pre.length) l t
 | none=>false
section
variable {P:Program} {G:Ctx} {ops:Array Oper}
theorem aLy {Q:AS→Prop} {n:Nat} {l1:Array Bool}:∀ (is:List Nat) (listed:Array Bool) (s:AS),Dc ops listed→aJc P ops is listed=some l1→xO P G ops (fun s'=>Dc ops l1→aGy P G ops Q n l1 s') (opsL ops is) s→aGy P G ops Q (is.length+n) listed s
 | [],listed,s,hdc,hp,h=>by
  simp only [aJc,Option.some.injEq] at hp; subst hp
  simpa using h hdc
 | i::is,listed,s,hdc,hp,h=>by
  simp only [aJc] at hp
  split at hp
  case isFalse=>cases hp
  rename_i hc
  simp only [Bool.and_eq_true] at hc
  have hr:i∈Region.ready .any ops listed:=by simpa using hc.1
  obtain ⟨_,o,ho,_⟩:=mem_ready.1 hr
  have e:opsL ops (i::is)=o::opsL ops is:=by
   show opL ops i++opsL ops is=_
   rw [aQy ho]; rfl
  rw [e] at h
  obtain ⟨s',hd,h⟩:=h
  rw [List.length_cons,Nat.add_right_comm]
  exact aBr ho (is.length+n) listed s s' hdc (aAl ho hc.2) hr hd (aLy is _ _ (aPo hdc hr) hp h)
theorem bVy {k:St→List Nat→Prop} {o:Oper} {σ:St} {con:List Nat} (hnn:bAp P o=true) (hn0:σ.n=0→∀ b,G.P0 b) (hwf:Wf σ con) (h:OW P ops [o] σ con k) :
  ∀ s,eC σ con s→∃ s',nN P G ops o s s'∧∃ σ' con',k σ' con'∧(σ'.n=0→∀ b,G.P0 b)∧Wf σ' con'∧eC σ' con' s':=by
 unfold OW at h
 have pure0:∀ (av:AV) (con':List Nat) (H':Nat→Option HO),H'=kill con' σ.H→(∀ id∈con',(σ.H id).isSome=true)→k ⟨bO σ.Γ o.dst av,H',σ.n⟩ (con'++con) →
   (∀ s,eC σ con s→Ev P G o s.Γ s.T s.K s.K av bQ (fun i=>i∈con'))→dY ops o σ.Γ=some true →
   ∀ s,eC σ con s→∃ s',nN P G ops o s s'∧∃ σ' con',k σ' con'∧(σ'.n=0→∀ b,G.P0 b)∧Wf σ' con'∧eC σ' con' s':=by
  intro av con' H' hH' hc' hk hev hw s hs
  subst hH'
  have hwf':Wf ⟨bO σ.Γ o.dst av,kill con' σ.H,σ.n⟩ (con'++con):=by
   refine ⟨fun id hid=>?_,fun id hid=>?_⟩
   ·cases hx:kill con' σ.H id with
    | none=>exact hx
    | some o'=>have:=(iL hx).1; rw [hwf.top id hid] at this; cases this
   ·rcases List.mem_append.1 hid with hid | hid
    ·refine ⟨?_,oA hid⟩
     have:=hc' id hid
     rcases Nat.lt_or_ge id σ.n with h | h
     ·exact h
     ·rw [hwf.top id h] at this; cases this
    ·obtain ⟨h1,h2⟩:=hwf.con id hid
     refine ⟨h1,?_⟩
     cases hx:kill con' σ.H id with
     | none=>exact hx
     | some o'=>have:=(iL hx).1; rw [h2] at this; cases this
  refine ⟨_,.yes av bQ (fun i=>i∈con') s.K (by rw [hs.Γ]; exact hw) (hev s hs) (fun _ h=>h.elim) (fun _ h=>h.elim) (fun h=>h.elim),_,_,hk,hn0,hwf',?_⟩
  refine ⟨by rw [hs.Γ],fun id=>by simp [hs.T,or_comm],fun id o' h=>hs.K id o' (iL h).1,fun id=>?_⟩
  simp only [hs.U,bQ,or_false,List.mem_append]
  by_cases hid:id∈con'
  ·simp [hid,hc' id hid,oA hid]
  ·rw [aAb hid]; simp [hid]
 have write1:∀ (av:AV) (id:Nat) (ho old:HO) (ts:Nat),Operand.tmp ts∈o.op.operands→kB id (σ.Γ ts)=true→σ.H id=some old→kind P o.op=2→k ⟨bO σ.Γ o.dst av,upd σ.H id (some ho),σ.n⟩ con →
   (∀ (T2:Nat→Prop) (K2:Nat→Option HO),K2 id=some old→¬ T2 id→Y P G o σ.Γ T2 K2 (iQ K2 T2 id ho) av bQ bQ)→dY ops o σ.Γ=some true →
   ∀ s,eC σ con s→∃ s',nN P G ops o s s'∧∃ σ' con',k σ' con'∧(σ'.n=0→∀ b,G.P0 b)∧Wf σ' con'∧eC σ' con' s':=by
  intro av id ho old ts hts hΓ hold hkd h hY hw s hs
  have hwf':Wf ⟨bO σ.Γ o.dst av,upd σ.H id (some ho),σ.n⟩ con:=by
   refine ⟨fun i hi=>?_,fun i hi=>?_⟩
   ·simp only at hi ⊢
    rw [dF _ _ (fun e=>by rw [e] at hi; rw [hwf.top id hi] at hold; cases hold)]; exact hwf.top i hi
   ·obtain ⟨h1,h2⟩:=hwf.con i hi
    refine ⟨h1,?_⟩
    simp only
    rw [dF _ _ (fun e=>by rw [e] at h2; rw [h2] at hold; cases hold)]; exact h2
  have hidn:id<σ.n:=by
   rcases Nat.lt_or_ge id σ.n with h | h
   ·exact h
   ·rw [hwf.top id h] at hold; cases hold
  have hnT:¬ s.T id:=fun h=>by have:=(hwf.con id ((hs.T id).1 h)).2; rw [this] at hold; cases hold
  refine ⟨_,.yes av bQ bQ (iQ s.K s.T id ho) (by rw [hs.Γ]; exact hw) (.inr (.inr (.inl ⟨hkd,rfl,rfl,id,ts,old,ho,hts,by rw [hs.Γ]; exact hΓ,hs.K _ _ hold,hnT,rfl,fun T2 K2 hK2 hT2=>by rw [hs.Γ]; exact hY T2 K2 hK2 hT2⟩))) (fun _ h=>h.elim) (fun _ h=>h.elim) (fun h=>h.elim),_,_,h,hn0,hwf',?_⟩
  refine ⟨by rw [hs.Γ],fun i=>by simp [hs.T,bQ],fun i o' h=>?_,fun i=>?_⟩
  ·simp only at h ⊢
   by_cases hid:i=id
   ·subst hid; rw [cZ] at h; unfold iQ; rw [if_pos rfl]; exact h
   ·rw [dF _ _ hid] at h
    rw [lU hid (fun ht=>by have:=(hwf.con i ((hs.T i).1 ht)).2; rw [this] at h; cases h)]
    exact hs.K i o' h
  ·simp only [hs.U,bQ,or_false]
   by_cases hid:i=id
   ·subst hid; simp [cZ,hold]
   ·rw [dF _ _ hid]
 have wsub:∀ {T2:Nat→Prop} {K2:Nat→Option HO} {id:Nat} {ho:HO} (j:Nat) (o':HO),j≠id→iQ K2 T2 id ho j=some o'→K2 j=some o'∧¬ T2 j:=by
  intro T2 K2 id ho j o' hj h
  unfold iQ at h
  rw [if_neg hj] at h
  split at h
  ·cases h
  ·exact ⟨h,by assumption⟩
 have one1:∀ {K2:Nat→Option HO} {id:Nat} {old:HO},σ.H id=some old→K2 id=some old→∀ i ob,(if i=id then σ.H id else none)=some ob→K2 i=some ob:=by
  intro K2 id old hold hK2 i ob h
  split at h
  ·rename_i e; subst e; rw [hold] at h; rw [hK2]; exact h
  ·cases h
 have val0:∀ (av:AV),kind P o.op=0→nev P o.op σ.Γ σ.n=some (av,none)→k ⟨bO σ.Γ o.dst av,σ.H,σ.n⟩ con→dY ops o σ.Γ=some true →
   ∀ s,eC σ con s→∃ s',nN P G ops o s s'∧∃ σ' con',k σ' con'∧(σ'.n=0→∀ b,G.P0 b)∧Wf σ' con'∧eC σ' con' s':=by
  intro av hk hnev h hw
  have e0:(fun i=>i∈([]:List Nat))=bQ:=funext fun i=>by simp [bQ]
  refine pure0 av [] σ.H rfl (fun _ h=>by cases h) h (fun s hs=>?_) hw
  rw [e0]
  exact .inl ⟨hk,rfl,rfl,fun T2 K2 _=>aKc (n:=σ.n) (by rw [hs.Γ]; exact hnev)⟩
 split at h
 case h_3=>exact h.elim
 case h_2 hw =>
  have hwf':Wf ⟨bO σ.Γ o.dst .un,σ.H,σ.n⟩ con:=⟨hwf.top,hwf.con⟩
  exact fun s hs=>⟨_,.no (by rw [hs.Γ]; exact hw),_,_,h,hn0,hwf',⟨by rw [hs.Γ],hs.T,hs.K,hs.U⟩⟩
 case h_1 hw =>
 simp only [OW] at h
 unfold bAp at hnn
 split at hnn
 ·-- move
  rename_i x hop
  unfold O1 at h
  simp only [hop] at h
  obtain ⟨hk,h⟩:=h
  split at h
  ·rename_i av nb hnev
   have e:nb=none:=by
    simp only [nev] at hnev
    injection hnev with hnev; injection hnev with _ h2; exact h2.symm
   subst e
   exact val0 av (by rw [hop]; exact hk) (by rw [hop]; exact hnev) h hw
  ·exact h.elim
 ·-- assign
  rename_i x hop
  unfold O1 at h
  simp only [hop] at h
  obtain ⟨hk,h⟩:=h
  split at h
  ·rename_i av nb hnev
   have e:nb=none:=by
    simp only [nev] at hnev
    injection hnev with hnev; injection hnev with _ h2; exact h2.symm
   subst e
   exact val0 av (by rw [hop]; exact hk) (by rw [hop]; exact hnev) h hw
  ·exact h.elim
 ·-- a new element of a map
  rename_i t m x v hop
  unfold O1 at h
  simp only [hop] at h
  split at h
  ·rename_i id ho hst
   obtain ⟨old,hm,hold,_⟩:=yE hst
   obtain ⟨ts,hts,hΓ⟩:=rK (Γ:=σ.Γ) (x:=m) (id:=id) (h:=.mp 0) (by rw [hm]; rfl)
   refine write1 .any id ho old ts (by rw [hop]; simp [Op.operands,hts]) hΓ hold (by rw [hop]; rfl) h (fun T2 K2 hK2 hT2=>?_) hw
   refine aEy (H:=fun i=>if i=id then σ.H id else none) (v:=some v) (id:=id) (ho:=ho) (.inl ⟨v,rfl,.inr hop⟩) (one1 hold hK2) ?_ hT2 (by unfold iQ; rw [if_pos rfl]) wsub
   unfold pS at hst ⊢
   rw [hm] at hst ⊢
   simp only [if_true] at hst ⊢
   exact hst
  ·exact h.elim
 ·-- call
  rename_i f args ts hop
  simp only [Bool.and_eq_true,Bool.not_eq_true'] at hnn
  obtain ⟨hmut,hnew⟩:=hnn
  unfold O1 at h
  simp only [hop] at h
  unfold OC at h
  rw [hmut] at h
  simp only [Bool.false_eq_true,if_false] at h
  have hkd:kind P o.op=1:=by rw [hop]; simp [kind,hmut]
  rcases h with ⟨h1,_⟩ | h
  ·rw [hnew] at h1; cases h1
  split at h
  ·rename_i g id hargs
   obtain ⟨x,hx,hxe⟩:∃ x,args.toList=[x]∧oev σ.Γ x=.kf g id:=by
    cases hl:args.toList with
    | nil=>rw [hl] at hargs; cases hargs
    | cons x l =>
     rw [hl] at hargs
     cases l with
     | nil=>simp only [List.map_cons,List.map_nil,List.cons.injEq,and_true] at hargs; exact ⟨x,rfl,hargs⟩
     | cons y l=>simp at hargs
   split at h
   ·rename_i es hH
    obtain ⟨hn,hrr,hss,h⟩:=h
    refine pure0 _ [] σ.H rfl (fun _ h=>by cases h) h (fun s hs=>.inr (.inl ⟨hkd,rfl,(fun _ h=>by cases h),(fun _ _ _ _ _ _ _ _ h=>by cases h),fun T2 _=>?_⟩)) hw
    have:(fun i=>i∈([]:List Nat))=bQ:=funext fun i=>by simp [bQ]
    rw [this]
    exact aHf (Γ:=s.Γ) hop hx hs.K (by rw [hs.Γ]; exact hxe) hH hn hrr hss
   ·exact h.elim
  ·obtain ⟨ds,r,hfr,hsp,h⟩:=h
   refine pure0 (inj r) (bV σ.H (args.toList.map (oev σ.Γ)) r) _ rfl (fun id hid=>by obtain ⟨o',ho'⟩:=kS hid; rw [ho']; rfl) h (fun s hs=>.inr (.inl ⟨hkd,rfl,fun id hid ht=>?_,fun F w ι T2 a hR hops id hid=>?_,fun T2 hT2=>?_⟩)) hw
   ·obtain ⟨o',ho'⟩:=kS hid
    have:=(hwf.con id ((hs.T id).1 ht)).2
    rw [this] at ho'; cases ho'
   ·refine aEl (Γ:=σ.Γ) (a:=a) (r:=r) hR hs.K hfr (fun x hx=>fC fun t e=>?_) id hid
    rw [← hs.Γ]; exact hops t (by rw [hop]; subst e; simp [Op.operands,Call.operands]; simpa using hx)
   ·have:=aWx (P:=P) (G:=G) (Γ:=s.Γ) (C:=T2) (K:=s.K) (H:=σ.H) (o:=o) (r:=r) hop hs.K (by rw [hs.Γ]; exact hfr) hsp (by rw [hs.Γ]; exact hT2)
    rw [hs.Γ] at this ⊢
    exact this
 ·cases hnn
theorem aEu {k:St→List Nat→Prop}:∀ (n:Nat) (listed:Array Bool) (t:Tr) (σ:St) (con:List Nat),aCl P ops n listed t=true→(σ.n=0→∀ b,G.P0 b)→Wf σ con→OWT P ops t σ con k →
  ∀ s,eC σ con s→aGy P G ops (fun s'=>∃ σ' con',k σ' con'∧(σ'.n=0→∀ b,G.P0 b)∧Wf σ' con'∧eC σ' con' s') n listed s
 | 0,listed,t,σ,con,hc,hn0,hwf,h,s,hs=>by
  cases t <;> simp only [aCl,Bool.false_eq_true] at hc
  exact ⟨by simpa using hc,σ,con,h,hn0,hwf,hs⟩
 | n+1,listed,t,σ,con,hc,hn0,hwf,h,s,hs=>by
  have step:∀ (i:Nat) (u:Tr),bAq P ops i=true→aCl P ops n (listed.setIfInBounds i true) u=true→(OW P ops (opL ops i) σ con fun σ' con'=>OWT P ops u σ' con' k) →
    aOp P G ops i (aGy P G ops (fun s'=>∃ σ' con',k σ' con'∧(σ'.n=0→∀ b,G.P0 b)∧Wf σ' con'∧eC σ' con' s') n (listed.setIfInBounds i true)) s:=by
   intro i u hn hcu hu
   unfold bAq at hn
   split at hn
   case h_2=>cases hn
   rename_i o ho
   rw [aQy ho] at hu
   obtain ⟨s',hd,σ',con',hk,hn',hwf',hs'⟩:=bVy hn hn0 hwf hu s hs
   unfold aOp
   simp only [ho]
   exact .inr ⟨s',hd,aEu n _ u σ' con' hcu hn' hwf' hk s' hs'⟩
  cases t with
  | leaf=>simp only [aCl,Bool.false_eq_true] at hc
  | one i u =>
   simp only [aCl,Bool.and_eq_true,beq_iff_eq] at hc
   refine ⟨fun he=>(by rw [he] at hc; cases hc.1.1),fun j hj=>?_⟩
   rw [hc.1.1,List.mem_singleton] at hj
   subst hj
   exact step j u hc.1.2 hc.2 h
  | two i u j v =>
   simp only [aCl,Bool.and_eq_true,beq_iff_eq] at hc
   obtain ⟨⟨⟨⟨hr,hi⟩,hj⟩,hu⟩,hv⟩:=hc
   refine ⟨fun he=>(by rw [he] at hr; cases hr),fun m hm=>?_⟩
   rw [hr] at hm
   rcases List.mem_cons.1 hm with rfl | hm
   ·exact step m u hi hu h.1
   ·rw [List.mem_singleton] at hm
    subst hm
    exact step m v hj hv h.2
end
theorem aEs {P:Program} {G:Ctx} {ops:Array Oper} {Q Q':AS→Prop} (h:∀ s,Q s→Q' s):∀ (l:List Oper) (s:AS),xO P G ops Q l s→xO P G ops Q' l s
 | [],s,hh=>h s hh
 | o::l,s,⟨s',hd,hh⟩=>⟨s',hd,aEs h l s' hh⟩
theorem aIm {P:Program} {WW:Code→(Exit→Act→World→Prop)→Act→World→Prop} (hW:WpR P false WW) {G:Ctx} {id N:Nat} {ds:List Deferred} {ops:Array Oper} {pre:List Nat} {t:Tr} {Q:St→Prop} {Q':Exit→Act→World→Prop} {σ:St} {a:Act} {w:World} (hm:P.follows .mixedOrders=true)
  (hdst:∀ (i:Nat) (o:Oper) (d:Tmp),ops[i]? = some o→o.dst=some d→d<N∧G.Z d=none) (hB:aMm P ops pre t=true) (hsr:SR G N ds σ a w)
  (h:OW P ops (opsL ops pre) σ [] fun σ1 con1=>OWT P ops t σ1 con1 fun σ' con=>Q (fin σ' con)) (hQ:∀ σ a w,Q σ→SR G N ds σ a w→Q' .normal a w):WW (.region id ops true) Q' a w:=by
 unfold aMm at hB
 split at hB
 case h_2=>cases hB
 rename_i l1 hl1
 simp only [Bool.and_eq_true,decide_eq_true_eq] at hB
 obtain ⟨⟨hnx,hlen⟩,hchk⟩:=hB
 obtain ⟨hn0,hwf,hag⟩:=vC hsr
 obtain ⟨fb,hfb⟩:=qS (G:=G) (opsL ops pre) σ [] hnx hn0 hwf h
 obtain ⟨h1,h2⟩:=hag (fun i=>if i<σ.n then σ.H i else fb i) (fun i o hi=>by
  rcases Nat.lt_or_ge i σ.n with hlt | hge
  ·rw [if_pos hlt]; exact hi
  ·rw [hwf.top i hge] at hi; cases hi)
 have h3:=hfb _ h1 (fun i hi=>by simp only; rw [if_neg (by omega)])
 have hQ2:∀ (s:AS) (a:Act) (w:World),(∃ σ' con',Q (fin σ' con')∧(σ'.n=0→∀ b,G.P0 b)∧Wf σ' con'∧eC σ' con' s)→pE G N ds s a w→Q' .normal a w:=by
  rintro s a w ⟨σ',con',hq,hn',hwf',hag'⟩ hr
  exact hQ _ a w hq (aHc hn' hwf' hag' hr)
 refine hW.regA hm (fun h=>by cases h) (mS hdst hQ2 _ _ _ a _ h2.drew ?_)
 have h4:=aLy (P:=P) (G:=G) (n:=ops.size - pre.length) (l1:=l1) pre (Array.replicate ops.size false) _ (fun m om hm=>by simp only [Array.getD_eq_getD_getElem?,Array.getElem?_replicate] at hm; split at hm <;> cases hm) hl1
  (aEs (fun s' ⟨σ1,con1,hk,hn1,hwf1,hs1⟩ _=>aEu _ _ _ σ1 con1 hchk hn1 hwf1 hk s' hs1) _ _ h3)
 rw [show pre.length+(ops.size - pre.length)=ops.size by omega] at h4
 exact h4
inductive Fl where
 | st
 | wk
 | tr (pre:List Nat) (t:Tr)
def xP (P:Program):List Fl→Code→St→(Exit→St→Prop)→Prop
 | [],c,σ,Q=>AWP P c σ Q
 | .wk::l,c,σ,Q=>∃ σ2,WkR σ σ2∧xP P l c σ2 Q
 | .st::l,.seq x y,σ,Q=>AWP P x σ fun e σ'=>match e with | .normal=>xP P l y σ' Q | e=>Q e σ'
 | .tr pre t::l,.seq (.region _ ops true) y,σ,Q=>OW P ops (opsL ops pre) σ [] fun σ1 con1=>OWT P ops t σ1 con1 fun σ' con=>xP P l y (fin σ' con) Q
 | _::_,_,_,_=>False
def aNr (P:Program):List Fl→Code→Bool
 | [],c=>eB P c
 | .wk::l,c=>aNr P l c
 | .st::l,.seq x y=>eB P x && aNr P l y
 | .tr pre t::l,.seq (.region _ ops true) y=>aMm P ops pre t && aNr P l y
 | _::_,_=>false
section
variable {P:Program} {G:Ctx} {N:Nat} {ds:List Deferred}
theorem aPs (hm:P.follows .mixedOrders=true) (hZ:∀ d,G.Z d=none):∀ (l:List Fl) (c:Code) (Q:Exit→St→Prop) (σ:St) (a:Act) (w:World),dU N c=true→aNr P l c=true→xP P l c σ Q→SR G N ds σ a w →
  c.wp P (fun e a' w'=>∃ σ',Q e σ'∧SR G N ds σ' a' w') a w:=by
 intro l
 induction l with
 | nil=>intro c Q σ a w hd hl h hs; exact gU hm hZ c Q σ a w hd hl h hs
 | cons f l ih =>
  intro c Q σ a w hd hl h hs
  cases f with
  | wk =>
   obtain ⟨σ2,hw,h⟩:=h
   exact ih c Q σ2 a w hd hl h (vB hw hs)
  | st =>
   cases c with
   | seq x y =>
    simp only [dU,aNr,Bool.and_eq_true] at hd hl
    refine wp_seq (wp_mono (gU hm hZ x _ _ a w hd.1 hl.1 h hs) ?_)
    rintro e a' w' ⟨σ1,hq,hs'⟩
    cases e with
    | normal=>exact ih y Q σ1 a' w' hd.2 hl.2 hq hs'
    | _=>exact ⟨σ1,hq,hs'⟩
   | _=>exact h.elim
  | tr pre t =>
   cases c with
   | seq x y =>
    cases x with
    | region id ops draw =>
     cases draw with
     | true =>
      simp only [dU,aNr,Bool.and_eq_true] at hd hl
      refine wp_seq ?_
      refine aIm (WpR.plain P) (Q:=fun σ'=>xP P l y σ' Q) hm (fun i o d hi ho=>⟨qA hd.1 i o d hi ho,hZ d⟩) hl.1 hs h ?_
      intro σ' a' w' hq hs'
      exact ih y Q σ' a' w' hd.2 hl.2 hq hs'
     | false=>exact h.elim
    | _=>exact h.elim
   | _=>exact h.elim
theorem aMt {f N:Nat} {fn:Func} {g:FuncId} {r0 rd rest:Code} {args:List D} {r:D} (l:List Fl) (hm:P.follows .mixedOrders=true) (hf:P.funcs[f]? = some fn) (hb:fn.body=some (.seq r0 (.seq rd rest))) (hname:(fn.name == "runtime.NumGoroutine")=false)
  (hN:fn.ntmps=N) (hd0:dU N r0=true) (hl0:eB P r0=true) (hd1:dU N rest=true) (hl1:aNr P l rest=true) (hg:rQ rd=some g) (hrec:kH P g) (ha:args.length≤N)
  (h:AWP P r0 (St0 args N) fun e σ0=>e=.normal∧xP P l rest σ0 fun e σ=>(e=.normal∨e=.ret)∧mR P fn.results.toList σ=some r):Spec P f args r:=by
 intro A W vs hA hl hv
 have hn:¬ fn.name = "runtime.NumGoroutine" := by simpa using hname
 refine ⟨fun w=>by simp [callFunc,hf,hn,hb],?_⟩
 refine calls_of_wp_defers hf hb ?_
 subst hN
 refine wp_seq (wp_mono (gU hm (fun _=>rfl) r0 _ _ _ _ hd0 hl0 h (SR0 hA hl hv ha)) ?_)
 rintro e a w ⟨σ0,⟨rfl,h1⟩,hs0⟩
 refine wp_seq (sF hg ?_)
 refine wp_mono (aPs hm (fun _=>rfl) l rest _ _ _ _ hd1 hl1 h1 (aBw { target:=.fn (.func g) #[],args:=#[] } hs0)) ?_
 rintro e a w ⟨σ,⟨he,hr⟩,hs⟩
 obtain ⟨v,hrun,hvd⟩:=jL hs hr
 obtain ⟨_,_,F,ι,hR,_,_,_,hdf,_⟩:=hs
 have hend:Leaves P fn a.tmps (fun e w'=>∃ v,e=.returned v∧Below W.heap.size W w'∧VD (fun b=>A b∨(W.heap.size≤b∧b<w'.heap.size)) w' r v) a.defers .returning w:=by
  rw [hdf]
  refine leaves_cons (by simp) (args:=#[]) (f:=g) ?_ ((hrec.2 w).mono ?_)
  ·have:=hrec.1 w
   simpa [invoke] using this
  ·rintro e u' w' ⟨rfl,rfl,rfl⟩
   refine ⟨v,by simpa [settle] using hrun,v,rfl,⟨hR.kept.os,hR.kept.tape,hR.kept.output,hR.kept.size,fun k hk=>hR.kept.block k hk (fun h=>h)⟩,hvd.mono ?_⟩
   rintro b (h | h | h)
   ·exact .inl h
   ·exact h.elim
   ·exact .inr h
 rcases he with rfl | rfl <;> exact hend
end
theorem dL (P:Program) (c:Code) (σ:St) (Q:Exit→St→Prop):xP P [] c σ Q=AWP P c σ Q:=rfl
theorem kE (P:Program) (l:List Fl) (x y:Code) (σ:St) (Q:Exit→St→Prop):xP P (.st::l) (.seq x y) σ Q=AWP P x σ fun e σ'=>match e with | .normal=>xP P l y σ' Q | e=>Q e σ':=rfl
inductive Tro where
 | leaf
 | one (l:List Oper) (t:Tro)
 | two (l:List Oper) (t:Tro) (m:List Oper) (u:Tro)
def qK (ops:Array Oper):Tr→Tro
 | .leaf=>.leaf
 | .one i t=>.one (opL ops i) (qK ops t)
 | .two i t j u=>.two (opL ops i) (qK ops t) (opL ops j) (qK ops u)
def vD (P:Program) (ops:Array Oper):Tro→St→List Nat→(St→List Nat→Prop)→Prop
 | .leaf,σ,con,k=>k σ con
 | .one l t,σ,con,k=>OW P ops l σ con fun σ' con'=>vD P ops t σ' con' k
 | .two l t m u,σ,con,k=>(OW P ops l σ con fun σ' con'=>vD P ops t σ' con' k)∧(OW P ops m σ con fun σ' con'=>vD P ops u σ' con' k)
theorem tM (P:Program) (ops:Array Oper):∀ (t:Tr) (σ:St) (con:List Nat) (k:St→List Nat→Prop),OWT P ops t σ con k=vD P ops (qK ops t) σ con k
 | .leaf,_,_,_=>rfl
 | .one i t,σ,con,k=>by
  simp only [OWT,vD,qK]
  exact congrArg _ (funext fun σ'=>funext fun con'=>tM P ops t σ' con' k)
 | .two i t j u,σ,con,k=>by
  simp only [OWT,vD,qK]
  exact congr (congrArg And (congrArg _ (funext fun σ'=>funext fun con'=>tM P ops t σ' con' k))) (congrArg _ (funext fun σ'=>funext fun con'=>tM P ops u σ' con' k))
def bMm (P:Program) (ops:Array Oper) (l:List Oper) (t:Tro) (σ:St) (k:St→Prop) (_:Dm k):Prop:=OWd P ops l σ [] (fun σ1 con1=>vD P ops t σ1 con1 fun σ' con=>aCo σ' con k .mk) .mk
theorem rU {P:Program} {fl:List Fl} {pre:List Nat} {t:Tr} {id:Nat} {ops:Array Oper} {y:Code} {σ:St} {Q:Exit→St→Prop} (l:List Oper) (t':Tro) (h1:opsL ops pre=l) (h2:qK ops t=t')
  (h:bMm P ops l t' σ (fun σ'=>xP P fl y σ' Q) .mk):xP P (.tr pre t::fl) (.seq (.region id ops true) y) σ Q:=by
 subst h1; subst h2
 show OW P ops (opsL ops pre) σ [] fun σ1 con1=>OWT P ops t σ1 con1 fun σ' con=>xP P fl y (fin σ' con) Q
 simp only [tM]
 exact h
theorem dH (P:Program) (ops:Array Oper) (l:List Oper) (t:Tro) (σ:St) (k:St→Prop) (d:Dm k):bMm P ops l t σ k d=OWd P ops l σ [] (fun σ1 con1=>vD P ops t σ1 con1 fun σ' con=>aCo σ' con k .mk) .mk:=rfl
theorem cM (P:Program) (ops:Array Oper) (σ:St) (con:List Nat) (k:St→List Nat→Prop):vD P ops .leaf σ con k=k σ con:=rfl
theorem dK (P:Program) (ops:Array Oper) (l:List Oper) (t:Tro) (σ:St) (con:List Nat) (k:St→List Nat→Prop):vD P ops (.one l t) σ con k=OWd P ops l σ con (fun σ' con'=>vD P ops t σ' con' k) .mk:=rfl
theorem dJ (P:Program) (ops:Array Oper) (l:List Oper) (t:Tro) (m:List Oper) (u:Tro) (σ:St) (con:List Nat) (k:St→List Nat→Prop):vD P ops (.two l t m u) σ con k=(OWd P ops l σ con (fun σ' con'=>vD P ops t σ' con' k) .mk∧OWd P ops m σ con (fun σ' con'=>vD P ops u σ' con' k) .mk):=rfl
end Go.Am
end

section
set_option linter.unusedVariables false
set_option linter.unusedSimpArgs false
open List (map_map mapM_map)
open Go Go.Am Go.Proofs
namespace Go.Am
theorem bLu:kH Tryz.prog 79:=by
 refine ⟨fun w=>enters_of Tryz.func79 (by kernel_rfl) rfl _ w,fun w=>?_⟩
 refine callsD_of_wpS Tryz.func79 rfl fun c₀ cs hu=>?_
 apply wpS_region
 simp [wpOpsS,go_sem,recoverD,hu,Tryz.ntmps79,bodyPostS,results,Tryz.results79]
 cases c₀; simp only at hu; subst hu; rfl
def mE (l:Ch) (n:Int):Int:=l.foldl (fun a f=>if f.1=n then f.2 else a) 0
theorem aNt {l:Ch} {i:Nat} (h:i<l.length) (n:Int):mE (l.take (i+1)) n=if l[i].1=n then l[i].2 else mE (l.take i) n:=by
 unfold mE
 rw [List.take_add_one,List.getElem?_eq_getElem h,List.foldl_append]; rfl
theorem aVf {l:Ch} {n:Int}:mE l n=0∨∃ f∈l,mE l n=f.2:=by
 unfold mE
 suffices ∀ (l:Ch) (a:Int),l.foldl (fun a f=>if f.1=n then f.2 else a) a=a∨∃ f∈l,l.foldl (fun a f=>if f.1=n then f.2 else a) a=f.2 from this l 0
 intro l
 induction l with
 | nil=>intro a; exact .inl rfl
 | cons f l ih =>
  intro a
  rw [List.foldl_cons]
  rcases ih (if f.1=n then f.2 else a) with h | ⟨g,hg,h⟩
  ·rw [h]
   by_cases e:f.1=n
   ·rw [if_pos e]; exact .inr ⟨f,List.mem_cons_self ..,rfl⟩
   ·rw [if_neg e]; exact .inl rfl
  ·exact .inr ⟨g,List.mem_cons_of_mem _ hg,h⟩
theorem aVg {l:Ch} {M:Nat} (h:Bnd M l) (n:Int):(mE l n).natAbs≤M:=by
 rcases aVf (l:=l) (n:=n) with e | ⟨f,hf,e⟩
 ·rw [e]; exact Nat.zero_le _
 ·rw [e]; exact h f hf
theorem aVm {c:List Cl} {e:Nat} (hz:SzX e c):(fB c).length≤10000:=by
 have:∀ d:List Cl,(∀ x∈d,x∈c)→(d.flatMap (gP c)).length≤100 * d.length:=by
  intro d
  induction d with
  | nil=>intro _; simp
  | cons x d ih =>
   intro h
   rw [List.flatMap_cons,List.length_append,List.length_cons]
   have h1:=ih fun y hy=>h y (List.mem_cons_of_mem _ hy)
   have h2:=hz.bl x (h x (List.mem_cons_self ..))
   have h3:(gP c x).length≤x.b.length:=by
    unfold gP
    split
    ·simp
    ·rw [List.length_map]; exact List.length_filter_le _ _
   omega
 have h1:=this c fun _ h=>h
 have h2:=hz.len
 unfold fB
 omega
theorem iF (l:List (Int × Int)):inj (dW l)=.d (dW l):=rfl
theorem fQ (H:Nat→Option HO) (avs:List AV) (l:List (Int × Int)):bV H avs (dW l)=gH H avs:=rfl
theorem bCx {c:List Cl} {a b:Int} (h:(a,b)∈fB c):a≠b:=by
 unfold fB at h
 obtain ⟨x,hx,h⟩:=List.mem_flatMap.1 h
 unfold gP at h
 split at h
 ·cases h
 ·rename_i h0
  obtain ⟨f,hf,he⟩:=List.mem_map.1 h
  injection he with h1 h2
  have h3:=(List.mem_filter.1 hf).2
  unfold gI at h3
  simp only [Bool.and_eq_true,decide_eq_true_eq] at h3
  intro hab
  rw [h2,← hab,← h1] at h3
  omega
theorem aDy {c:List Cl} {a b:Int} {r:Ch} (h:a≠b):cU c [(b,r),(a,[])]=cU c [(a,[]),(b,r)]:=by
 unfold cU
 refine List.map_congr_left fun x _=>?_
 unfold iW
 by_cases h1:b=x.id
 ·have h2:¬ a=x.id:=fun e=>h (e.trans h1.symm)
  simp [List.find?_cons,h1,h2]
 ·by_cases h2:a=x.id <;> simp [List.find?_cons,h1,h2]
theorem aRf {a b:Int} (h:a≠b) (v w:AV):nU [(a,v)] b w=[(a,v),(b,w)]:=by
 simp [nU,gC,List.findIdx?_cons,h]
def iE (cell face:Int) (z:Cl):Bool:=!decide (z.id=cell) && !decide (z.id=face)
def fV (c:List Cl) (cell face:Int):List Cl:=c.filter (iE cell face)
theorem wG {c:List Cl} {i:Nat} (h:i<c.length) (a b:Int):fV (c.take (i+1)) a b=fV (c.take i) a b++if iE a b c[i] then [c[i]] else []:=by
 unfold fV
 rw [List.take_add_one,List.getElem?_eq_getElem h,List.filter_append]
 congr 1
 by_cases e:iE a b c[i]=true <;> simp [e]
theorem uR (c:List Cl) (a b:Int):(fV c a b).length≤c.length:=List.length_filter_le _ _
def nS (z n:Int) (l:Ch):Ch:=(l.filter fun f=>!decide (f.1=n)).map fun f=>(f.1,z * f.2)
theorem aUo {l:Ch} {i:Nat} (h:i<l.length) (z n:Int):nS z n (l.take (i+1))=nS z n (l.take i)++if l[i].1=n then [] else [(l[i].1,z * l[i].2)]:=by
 unfold nS
 rw [List.take_add_one,List.getElem?_eq_getElem h,List.filter_append,List.map_append]
 congr 1
 by_cases e:l[i].1=n <;> simp [e]
theorem zN (z n:Int) (l:Ch):(nS z n l).length≤l.length:=by unfold nS; rw [List.length_map]; exact List.length_filter_le _ _
theorem aJp {z n:Int} {l:Ch} {K M:Nat} (hz:z.natAbs≤K) (h:Bnd M l):Bnd (K * M) (nS z n l):=fun x hx=>by
 unfold nS at hx
 obtain ⟨f,hf,rfl⟩:=List.mem_map.1 hx
 rw [Int.natAbs_mul]
 exact Nat.mul_le_mul hz (h f (List.mem_filter.1 hf).1)
theorem aUp {z n:Int} {l:Ch} (h:Keys l):Keys (nS z n l):=fun x hx=>by
 unfold nS at hx
 obtain ⟨f,hf,rfl⟩:=List.mem_map.1 hx
 exact h f (List.mem_filter.1 hf).1
def bKq (l:Ch) (face:Int):Ch:=nS (-mE l face) face l
def mI (c:List Cl) (cell face:Int):List (Int × Ch):=[(cell,[]),(face,bY [] (bKq (bOf c cell) face))]
def aOm (c:List Cl) (cell face:Int):List Cl × List (Int × Ch) × Int :=
 if (cF c cell).isSome=false∨(cF c face).isSome=false then ([],[],250) else if (cell,face) ∉ fB c then ([],[],310) else (fV c cell face,cU c (mI c cell face),0)
theorem aCy {H H':Nat→Option HO} {ρ:Nat→Nat}:mO H H' ρ .nil (.d (.sl []))↔True:=⟨fun _=>trivial,fun _=>⟨rfl,fun a ha=>by simp [vis] at ha⟩⟩
theorem bDk:aO []=.sl []:=rfl
theorem aXn {H H':Nat→Option HO} {ρ:Nat→Nat}:Sub H H' ρ .nil (.d (.sl []))↔True:=aCy
theorem aFi {H:Nat→Option HO} {ρ:Nat→Nat} {t:TypeId} {id n:Nat} {l:Ch} (hn:l.length=n) (hH:H id=some (.cells t ((flt fD l).map .d))):Sub H (oH 1 []) ρ (.own id 0 n 3) (.d (aO l)):=by
 refine mT ?_ fun a _ id h=>by simp [oH] at h
 have e1:=fR fT hn
 have e2:=eW (by decide) fT hn
 have e3:=cE fT l
 rw [hn] at e3
 rw [iM,hH]
 simp only [Nat.zero_mul,Nat.zero_add,List.drop_zero,e1,oW,Option.map_some,e2]
 rw [if_pos ⟨by rw [List.length_map]; omega,by omega⟩]; rfl
def bMe:List Fl:=[.st,.st,.st,.st,.st,.st,.st,.st,.st,.st]
def sK:Tr:=.one 9 (.one 10 (.one 11 (.one 12 (.one 13 .leaf))))
def yV:Tr:=.two 4 (.one 7 (.one 8 sK)) 7 (.two 4 (.one 8 sK) 8 (.one 4 sK))
def bSe:List Fl:=bMe++[.tr [0,1,2,3,5,6] yV]
set_option maxHeartbeats 4000000 in
set_option maxRecDepth 10000 in
theorem zV {c:List Cl} {e:Nat} (a b:Int) (hc:Inc c) (hz:SzX e c) (hk:∀ x∈c,Keys x.b) (he:e+e+14<4398046511104):Spec Tryz.prog 29 [aP c,.i .i64 a,.i .i64 b] (kL (aOm c a b)):=by
 have hlen:=hz.len
 have hFa:=bDs hc a (by omega)
 have hFb:=bDs hc b (by omega)
 have hFr:=aFz hz (by omega)
 have hfl:=aVm hz
 have hCt:=bWb (fB c) a b (by omega)
 have hr:∃ p x q y,(cF c a).isSome=p∧(cF c a).getD xJ=x∧(cF c b).isSome=q∧(cF c b).getD xJ=y:=⟨_,_,_,_,rfl,rfl,rfl,rfl⟩
 obtain ⟨p,x,q,y,hp,hx,hq,hy⟩:=hr
 have hba:bOf c a=x.b:=by unfold bOf; rw [hx]
 have hxl:x.b.length≤100:=by rw [← hba]; exact yJ hz.bl a
 have hxb:Bnd (2 ^ e) x.b:=by rw [← hba]; exact yK hz.bb a
 unfold vX at hFa hFb
 rw [hp,hx] at hFa
 rw [hq,hy] at hFb
 unfold aOm mI
 rw [hp,hq,hba]
 refine aMt (N:=114) bSe aF Tryz.func29 rfl rfl rfl (by kernel_rfl) (by kernel_rfl) (by kernel_rfl) (by kernel_rfl) rfl bLu (by simp) ?_
 simp [-map_map,-mapM_map,↓KW,aP,bSe,bMe,↓kE]
 refine aA (ds:=[aP c,.i .i64 a]) (by rfl) hFa ?_
 simp [-map_map,-mapM_map,↓KW,aP,eH,aE,aB,aC,↓kE]
 refine aA (ds:=[aP c,.i .i64 b]) (by rfl) hFb ?_
 cases p with
 | false=>simp [-map_map,-mapM_map,↓KW,aP,eH,aE,aB,aC,dR,kL,aV,↓kE]
 | true =>
  cases q with
  | false=>simp [-map_map,-mapM_map,↓KW,aP,eH,aE,aB,aC,dR,kL,aV,↓kE]
  | true =>
   simp [-map_map,-mapM_map,↓KW,aP,eH,aE,aB,aC,↓kE]
   refine aA (ds:=[aP c]) (by rfl) hFr ?_
   simp [-map_map,-mapM_map,↓KW,aP,eH,aE,aB,aC,iF,fQ,↓kE]
   refine aA (ds:=[dW (fB c),.ag [.i .i64 a,.i .i64 b]]) (by rfl) hCt ?_
   by_cases hin:(a,b)∈fB c
   rotate_left
   ·rw [decide_eq_false hin]
    simp [-map_map,-mapM_map,↓KW,aP,eH,aE,aB,aC,iF,fQ,dR,kL,aV,hin,↓kE]
   ·rw [decide_eq_true hin]
    have hkx:Keys x.b:=by
     cases hfx:cF c a with
     | none=>rw [hfx] at hp; cases hp
     | some x' =>
      rw [hfx] at hx
      have:x'=x:=hx
      subst this
      exact hk _ (dT hfx).1
    have hne:=bCx hin
    clear hFa hFb hFr hCt hp hq hx hy hfl
    simp [-map_map,-mapM_map,↓KW,aP,aO,eH,aE,aB,aC,iF,fQ,↓kE]
    refine aU (fun i:Nat=>i≤x.b.length) (fun i=>StL [(0,.d (aP c)),(1,.d (.i .i64 a)),(2,.d (.i .i64 b)),(9,.ptr 1 0),(13,.ptr 2 0),(48,.d (aO x.b)),(49,.d (.i .i64 x.b.length)),(50,.d (.i .i64 (i:Int)))] none [.cells 47 [.d (.i .i64 x.id),.d (.i .i64 x.dim),.d (aO x.b)],.cells 69 [.d (.b (decide (mE (x.b.take i) b<0))),.d (aG (aW (mE (x.b.take i) b).natAbs))]]) (fun i=>x.b.length - i) 0 (Nat.zero_le _) ?_ ?_
    ·refine bB [1,3] (by simp) ?_ ?_ <;> simp [-map_map,upd,aT,Γ0,aP,aO,mE,cK,aG,aCy]
    ·intro i hi
     by_cases hgo:i<x.b.length
     ·have q1:(i:Int)<x.b.length:=by omega
      have hf:x.b[i]? = some x.b[i]:=List.getElem?_eq_getElem hgo
      have hw:IntKind.i64.wrap ((i:Int)+1)=(i:Int)+1:=aS (by omega) (by omega)
      have htk:=aNt hgo b
      refine (show ∃ f,x.b[i]=f from ⟨_,rfl⟩).elim fun f hfe=>?_
      rw [hfe] at hf htk
      refine (show ∃ z,mE (x.b.take i) b=z from ⟨_,rfl⟩).elim fun z hze=>?_
      rw [hze] at htk
      simp only [hze]
      have hef:fD f=[.i .i64 f.1,.b (decide (f.2<0)),aG (aW f.2.natAbs)]:=rfl
      by_cases h0:f.1=b
      ·have h0':((f.1 == b):Bool)=true:=by simpa using h0
       rw [if_pos h0] at htk
       have q3:(((b:Int) == (b:Int)):Bool)=true:=by simp
       simp [-map_map,-mapM_map,↓KW,aP,aO,q1,hf,hef,h0,h0',q3,hw,aJ,aD,aK,aE,aB,aC]
       refine aI (i+1) hgo (Nat.sub_lt_sub_left hgo (Nat.lt_succ_self _)) (bB [1,2] (by simp) ?_ ?_) <;> simp [-map_map,upd,aT,Γ0,aP,aO,htk]
      ·have h0':((f.1 == b):Bool)=false:=by simpa using h0
       rw [if_neg h0] at htk
       simp [-map_map,-mapM_map,↓KW,aP,aO,q1,hf,hef,h0,h0',hw,aJ,aD,aK,aE,aB,aC]
       refine aI (i+1) hgo (Nat.sub_lt_sub_left hgo (Nat.lt_succ_self _)) (bB [1,2] (by simp) ?_ ?_) <;> simp [-map_map,upd,aT,Γ0,aP,aO,htk]
     ·have q1:¬ (i:Int)<x.b.length:=by omega
      rw [List.take_of_length_le (by omega)]
      have hzb:=aVg hxb b
      refine (show ∃ z,mE x.b b=z from ⟨_,rfl⟩).elim fun z hze=>?_
      rw [hze] at hzb
      have hNg:=bJm z (szE hzb (by omega))
      obtain ⟨zn,hzn⟩:∃ zn,-z=zn:=⟨_,rfl⟩
      have hzb':zn.natAbs≤2 ^ e:=by rw [← hzn,Int.natAbs_neg]; exact hzb
      have hcol:bKq x.b b=nS zn b x.b:=by unfold bKq; rw [hze,hzn]
      rw [hzn] at hNg
      clear hzn
      simp only [hze]
      simp [-map_map,-mapM_map,↓KW,aP,aO,q1,aE,aB,aC,aJ,aD,aK,↓kE]
      refine aU (fun y:Nat × Ch=>y.1≤x.b.length∧nS zn b (x.b.take y.1)=y.2) (fun y=>lQ 16 [(0,.d (aP c)),(1,.d (.i .i64 a)),(2,.d (.i .i64 b)),(13,.ptr 1 0),(62,.d (aO x.b)),(63,.d (.i .i64 x.b.length)),(64,.d (.i .i64 (y.1:Int)))] (.cells 69 [.d (.b (decide (z<0))),.d (aG (aW z.natAbs))]) 89 3 y.2.length (flt fD y.2)) (fun y=>x.b.length - y.1) (0,[]) ⟨Nat.zero_le _,rfl⟩ ?_ ?_
      ·simp only [List.length_nil,lQ]
       refine bB [2] (by simp) ?_ ?_ <;> simp [-map_map,upd,aT,Γ0,aP,aO,bX]
      ·rintro ⟨j,l⟩ ⟨hj,hl⟩
       simp only at hj hl ⊢
       by_cases hgo:j<x.b.length
       ·have q1:(j:Int)<x.b.length:=by omega
        have hf:x.b[j]? = some x.b[j]:=List.getElem?_eq_getElem hgo
        have hw:IntKind.i64.wrap ((j:Int)+1)=(j:Int)+1:=aS (by omega) (by omega)
        have htk:=aUo hgo zn b
        rw [hl] at htk
        have hll:l.length≤j:=by rw [← hl]; exact Nat.le_trans (zN _ _ _) (by rw [List.length_take]; omega)
        have hfb:=hxb _ (List.getElem_mem hgo)
        refine (show ∃ f,x.b[j]=f from ⟨_,rfl⟩).elim fun f hfe=>?_
        rw [hfe] at hf htk hfb
        have hef:fD f=[.i .i64 f.1,.b (decide (f.2<0)),aG (aW f.2.natAbs)]:=rfl
        have hm1:(1:Nat)≤maxLen:=aZ (by decide)
        by_cases h0:f.1=b
        ·have h0':((f.1 != b):Bool)=false:=by simpa using h0
         rw [if_pos h0,List.append_nil] at htk
         have q3:(((b:Int) != (b:Int)):Bool)=false:=by simp
         rcases hn:l.length with _ | k
         ·simp only [hn,lQ]
          simp [-map_map,-mapM_map,↓KW,aP,aO,q1,hf,hef,h0,h0',q3,hw,aJ,aD,aK,aE,aB,aC]
          refine aI (τ:=Nat × Ch) (j+1,l) ⟨hgo,htk⟩ (Nat.sub_lt_sub_left hgo (Nat.lt_succ_self _)) ?_
          simp only [hn,lQ]
          refine bB [1] (by simp) ?_ ?_ <;> simp [-map_map,upd,aT,Γ0,aP,aO,bX]
         ·simp only [hn,lQ]
          simp [-map_map,-mapM_map,↓KW,aP,aO,q1,hf,hef,h0,h0',q3,hw,aJ,aD,aK,aE,aB,aC]
          refine aI (τ:=Nat × Ch) (j+1,l) ⟨hgo,htk⟩ (Nat.sub_lt_sub_left hgo (Nat.lt_succ_self _)) ?_
          simp only [hn,lQ]
          refine bB [1,2] (by simp) ?_ ?_ <;> simp [-map_map,upd,aT,Γ0,aP,aO,bX]
        ·have h0':((f.1 != b):Bool)=true:=by simpa using h0
         rw [if_neg h0] at htk
         have hMu:=uA zn f.2 (rY hzb' (by omega)) (rY hfb (by omega))
         rcases hn:l.length with _ | k
         ·have e0:l=[]:=List.eq_nil_of_length_eq_zero hn
          simp only [hn,lQ]
          simp [-map_map,-mapM_map,↓KW,aP,aO,q1,hf,hef,h0,h0',hw,aJ,aD,aK,aE,aB,aC]
          refine aA (ds:=[encZ z]) (by rfl) hNg ?_
          simp [-map_map,-mapM_map,↓KW,aP,aO,bG,q1,hf,hef,h0,h0',hw,aJ,aD,aK,aE,aB,aC]
          refine aA (ds:=[encZ zn,encZ f.2]) (by rfl) hMu ?_
          simp [-map_map,-mapM_map,↓KW,aP,aO,bG,q1,hf,hef,h0,h0',hw,hm1,aJ,aD,aK,aE,aB,aC]
          refine aI (τ:=Nat × Ch) (j+1,l++[(f.1,zn * f.2)]) ⟨hgo,htk⟩ (Nat.sub_lt_sub_left hgo (Nat.lt_succ_self _)) ?_
          simp only [List.length_append,hn,List.length_singleton,lQ]
          refine bB [1,4] (by simp) ?_ ?_ <;> simp [-map_map,upd,aT,Γ0,aP,aO,bC,e0,dC]
         ·have hbb:=cT (n:=k+1) (by omega)
          have hcl:=cE fT l
          rw [hn] at hcl
          have hal:=fI qM l
          simp only [hn,lQ]
          simp [-map_map,-mapM_map,↓KW,aP,aO,q1,hf,hef,h0,h0',hw,aJ,aD,aK,aE,aB,aC]
          refine aA (ds:=[encZ z]) (by rfl) hNg ?_
          simp [-map_map,-mapM_map,↓KW,aP,aO,bG,q1,hf,hef,h0,h0',hw,aJ,aD,aK,aE,aB,aC]
          refine aA (ds:=[encZ zn,encZ f.2]) (by rfl) hMu ?_
          simp [-map_map,-mapM_map,↓KW,aP,aO,bG,q1,hf,hef,h0,h0',hw,hm1,hbb,hcl,hal,aZ,aJ,aD,aK,aE,aB,aC]
          refine aI (τ:=Nat × Ch) (j+1,l++[(f.1,zn * f.2)]) ⟨hgo,htk⟩ (Nat.sub_lt_sub_left hgo (Nat.lt_succ_self _)) ?_
          simp only [List.length_append,hn,List.length_singleton,lQ]
          refine bB [1,5] (by simp) ?_ ?_ <;> simp [-map_map,upd,aT,Γ0,aP,aO,bC,fS,dC]
       ·have q1:¬ (j:Int)<x.b.length:=by omega
        rw [List.take_of_length_le (by omega)] at hl
        have hlb:=aJp (n:=b) (z:=zn) hzb' hxb
        have hlk:=aUp (n:=b) (z:=zn) hkx
        have hlL:=zN zn b x.b
        rw [hl] at hlb hlk hlL hcol
        rcases hn:l.length with _ | k
        ·have e0:l=[]:=List.eq_nil_of_length_eq_zero hn
         simp only [hn,lQ]
         simp [-map_map,-mapM_map,↓KW,aP,aO,q1,aE,aB,aC,aJ,aD,aK,↓kE]
         refine aU (fun y:Nat × List Cl=>y.1≤c.length∧fV (c.take y.1) a b=y.2) (fun y=>grS 19 [(0,.d (aP c)),(1,.d (.i .i64 a)),(2,.d (.i .i64 b)),(16,.d (aO l)),(84,.d (aP c)),(85,.d (.i .i64 c.length)),(86,.d (.i .i64 (y.1:Int)))] 47 3 y.2.length (flt bK y.2)) (fun y=>c.length - y.1) (0,[]) ⟨Nat.zero_le _,rfl⟩ ?_ ?_
         ·simp only [List.length_nil,grS]
          refine bB [] (by simp) ?_ ?_ <;> simp [-map_map,upd,aT,Γ0,aP,bX,e0,bDk,aXn]
         ·rintro ⟨i,out⟩ ⟨hi,ho⟩
          simp only at hi ho ⊢
          by_cases hgo:i<c.length
          ·have q1:(i:Int)<c.length:=by omega
           have hx:c[i]? = some c[i]:=List.getElem?_eq_getElem hgo
           have hw:IntKind.i64.wrap ((i:Int)+1)=(i:Int)+1:=aS (by omega) (by omega)
           have htk:=wG hgo a b
           rw [ho] at htk
           have hln:out.length≤i:=by rw [← ho]; exact Nat.le_trans (uR _ _ _) (by rw [List.length_take]; omega)
           refine (show ∃ y,c[i]=y from ⟨_,rfl⟩).elim fun y hye=>?_
           rw [hye] at hx htk
           have hyc:bK y=[D.i .i64 y.id,.i .i64 y.dim,aO y.b]:=rfl
           have hm1:(1:Nat)≤maxLen:=aZ (by decide)
           by_cases h0:y.id=a
           ·have h0':((y.id != a):Bool)=false:=by simpa using h0
            have hkp:iE a b y=false:=by unfold iE; simp [h0]
            rw [hkp] at htk
            simp only [Bool.false_eq_true,if_false,List.append_nil] at htk
            have q3:(((a:Int) != (a:Int)):Bool)=false:=by simp
            rcases hn:out.length with _ | m
            ·simp only [hn,grS]
             simp [-map_map,-mapM_map,↓KW,aP,q1,hx,hyc,h0,h0',q3,hw,aJ,aD,aK,aE,aB,aC]
             refine aI (τ:=Nat × List Cl) (i+1,out) ⟨hgo,htk⟩ (Nat.sub_lt_sub_left hgo (Nat.lt_succ_self _)) ?_
             simp only [hn,grS]
             refine bB [] (by simp) ?_ ?_ <;> simp [-map_map,upd,aT,Γ0,aP,bX]
            ·simp only [hn,grS]
             simp [-map_map,-mapM_map,↓KW,aP,q1,hx,hyc,h0,h0',q3,hw,aJ,aD,aK,aE,aB,aC]
             refine aI (τ:=Nat × List Cl) (i+1,out) ⟨hgo,htk⟩ (Nat.sub_lt_sub_left hgo (Nat.lt_succ_self _)) ?_
             simp only [hn,grS]
             refine bB [1] (by simp) ?_ ?_ <;> simp [-map_map,upd,aT,Γ0,aP,bX]
           ·have h0':((y.id != a):Bool)=true:=by simpa using h0
            by_cases h1:y.id=b
            ·have h1':((y.id != b):Bool)=false:=by simpa using h1
             have hkp:iE a b y=false:=by unfold iE; simp [h1]
             rw [hkp] at htk
             simp only [Bool.false_eq_true,if_false,List.append_nil] at htk
             have q3:(((b:Int) != (b:Int)):Bool)=false:=by simp
             rw [h1] at h0'
             rcases hn:out.length with _ | m
             ·simp only [hn,grS]
              simp [-map_map,-mapM_map,↓KW,aP,q1,hx,hyc,h1,h0',q3,hw,aJ,aD,aK,aE,aB,aC]
              refine aI (τ:=Nat × List Cl) (i+1,out) ⟨hgo,htk⟩ (Nat.sub_lt_sub_left hgo (Nat.lt_succ_self _)) ?_
              simp only [hn,grS]
              refine bB [] (by simp) ?_ ?_ <;> simp [-map_map,upd,aT,Γ0,aP,bX]
             ·simp only [hn,grS]
              simp [-map_map,-mapM_map,↓KW,aP,q1,hx,hyc,h1,h0',q3,hw,aJ,aD,aK,aE,aB,aC]
              refine aI (τ:=Nat × List Cl) (i+1,out) ⟨hgo,htk⟩ (Nat.sub_lt_sub_left hgo (Nat.lt_succ_self _)) ?_
              simp only [hn,grS]
              refine bB [1] (by simp) ?_ ?_ <;> simp [-map_map,upd,aT,Γ0,aP,bX]
            ·have h1':((y.id != b):Bool)=true:=by simpa using h1
             have hkp:iE a b y=true:=by unfold iE; simp [h0,h1]
             rw [hkp,if_pos rfl] at htk
             rcases hn:out.length with _ | m
             ·have e0:out=[]:=List.eq_nil_of_length_eq_zero hn
              simp only [hn,grS]
              simp [-map_map,-mapM_map,↓KW,aP,q1,hx,hyc,h0,h0',h1,h1',hw,hm1,aJ,aD,aK,aE,aB,aC]
              refine aI (τ:=Nat × List Cl) (i+1,out++[y]) ⟨hgo,htk⟩ (Nat.sub_lt_sub_left hgo (Nat.lt_succ_self _)) ?_
              simp only [List.length_append,hn,List.length_singleton,grS]
              refine bB [3] (by simp) ?_ ?_ <;> simp [-map_map,upd,aT,Γ0,aP,eH,e0,dC]
             ·have hbb:=cT (n:=m+1) (by omega)
              have hcl:=cE dN out
              rw [hn] at hcl
              have hal:=fI wC out
              simp only [hn,grS]
              simp [-map_map,-mapM_map,↓KW,aP,q1,hx,hyc,h0,h0',h1,h1',hw,hm1,hbb,hcl,hal,aZ,aJ,aD,aK,aE,aB,aC]
              refine aI (τ:=Nat × List Cl) (i+1,out++[y]) ⟨hgo,htk⟩ (Nat.sub_lt_sub_left hgo (Nat.lt_succ_self _)) ?_
              simp only [List.length_append,hn,List.length_singleton,grS]
              refine bB [4] (by simp) ?_ ?_ <;> simp [-map_map,upd,aT,Γ0,aP,eH,fS,dC]
          ·have q1:¬ (i:Int)<c.length:=by omega
           rw [List.take_of_length_le (by omega)] at ho
           have hM:=aRh (l:=l) (e:=e+e) (by rw [← oQ]; exact hlb) hlk (by omega) he
           refine (show ∃ r,bY [] l=r from ⟨_,rfl⟩).elim fun r hr=>?_
           rw [hr] at hM
           have hMp1:=nW c [(a,[]),(b,r)] (lF [(a,[]),(b,r)]) rfl (aRl _) (by omega)
           have hMp2:=nW c [(b,r),(a,[])] (lF [(b,r),(a,[])]) rfl (aRl _) (by omega)
           rw [aDy hne] at hMp2
           have hmp1:∀ v w:AV,nU [(a,v)] b w=[(a,v),(b,w)]:=fun v w=>aRf hne v w
           have hmp2:∀ v w:AV,nU [(b,v)] a w=[(b,v),(a,w)]:=fun v w=>aRf (Ne.symm hne) v w
           rw [hcol,hr,ho]
           rcases hn:out.length with _ | m
           ·have e0:out=[]:=List.eq_nil_of_length_eq_zero hn
            simp only [grS]
            simp [-map_map,-mapM_map,↓KW,aP,q1]
            refine rU _ _ rfl rfl ?_
            simp only [opsL,opL,yV,sK,qK,List.flatMap_cons,List.flatMap_nil,List.drop_succ_cons,List.drop_zero,List.take_succ_cons,List.take_zero,List.cons_append,List.nil_append]
            simp [-map_map,-mapM_map,↓KW,aP,q1,↓dH,↓dJ,↓dK,↓cM,↓dL,cG,cO]
            refine ⟨?_,?_⟩
            ·refine aA (ds:=[aO l]) (by rfl) hM ?_
             simp [-map_map,-mapM_map,↓KW,aP,q1,↓dH,↓dJ,↓dK,↓cM,↓dL,cG,cO,eA,hmp1,hmp2,aR,bI]
             refine aA (ds:=[aP c,lF [(a,[]),(b,r)]]) (by rfl) hMp1 ?_
             simp [-map_map,-mapM_map,↓KW,aP,q1,↓dH,↓dJ,↓dK,↓cM,↓dL,cG,cO,eA,hmp1,hmp2,e0,aR,bI,dE,cD,jB,dR,kL,hin]
            ·refine aA (ds:=[aO l]) (by rfl) hM ?_
             simp [-map_map,-mapM_map,↓KW,aP,q1,↓dH,↓dJ,↓dK,↓cM,↓dL,cG,cO,eA,hmp1,hmp2,aR,bI]
             refine ⟨?_,?_⟩
             ·refine aA (ds:=[aP c,lF [(a,[]),(b,r)]]) (by rfl) hMp1 ?_
              simp [-map_map,-mapM_map,↓KW,aP,q1,↓dH,↓dJ,↓dK,↓cM,↓dL,cG,cO,eA,hmp1,hmp2,e0,aR,bI,dE,cD,jB,dR,kL,hin]
             ·refine aA (ds:=[aP c,lF [(b,r),(a,[])]]) (by rfl) hMp2 ?_
              simp [-map_map,-mapM_map,↓KW,aP,q1,↓dH,↓dJ,↓dK,↓cM,↓dL,cG,cO,eA,hmp1,hmp2,e0,aR,bI,dE,cD,jB,dR,kL,hin]
           ·have e1:=fR dN hn
            have e2:=eW (by decide) dN hn
            have e3:=cE dN out
            rw [hn] at e3
            simp only [grS]
            simp [-map_map,-mapM_map,↓KW,aP,q1]
            refine rU _ _ rfl rfl ?_
            simp only [opsL,opL,yV,sK,qK,List.flatMap_cons,List.flatMap_nil,List.drop_succ_cons,List.drop_zero,List.take_succ_cons,List.take_zero,List.cons_append,List.nil_append]
            simp [-map_map,-mapM_map,↓KW,aP,q1,↓dH,↓dJ,↓dK,↓cM,↓dL,cG,cO]
            refine ⟨?_,?_⟩
            ·refine aA (ds:=[aO l]) (by rfl) hM ?_
             simp [-map_map,-mapM_map,↓KW,aP,q1,↓dH,↓dJ,↓dK,↓cM,↓dL,cG,cO,eA,hmp1,hmp2,aR,bI]
             refine aA (ds:=[aP c,lF [(a,[]),(b,r)]]) (by rfl) hMp1 ?_
             simp [-map_map,-mapM_map,↓KW,aP,q1,↓dH,↓dJ,↓dK,↓cM,↓dL,cG,cO,eA,hmp1,hmp2,e1,e2,e3,aR,bI,dE,cD,jB,dR,kL,hin]
            ·refine aA (ds:=[aO l]) (by rfl) hM ?_
             simp [-map_map,-mapM_map,↓KW,aP,q1,↓dH,↓dJ,↓dK,↓cM,↓dL,cG,cO,eA,hmp1,hmp2,aR,bI]
             refine ⟨?_,?_⟩
             ·refine aA (ds:=[aP c,lF [(a,[]),(b,r)]]) (by rfl) hMp1 ?_
              simp [-map_map,-mapM_map,↓KW,aP,q1,↓dH,↓dJ,↓dK,↓cM,↓dL,cG,cO,eA,hmp1,hmp2,e1,e2,e3,aR,bI,dE,cD,jB,dR,kL,hin]
             ·refine aA (ds:=[aP c,lF [(b,r),(a,[])]]) (by rfl) hMp2 ?_
              simp [-map_map,-mapM_map,↓KW,aP,q1,↓dH,↓dJ,↓dK,↓cM,↓dL,cG,cO,eA,hmp1,hmp2,e1,e2,e3,aR,bI,dE,cD,jB,dR,kL,hin]
        ·have hfz:∀ (H:Nat→Option HO) (ρ:Nat→Nat),H 2=some (.cells 89 ((flt fD l).map .d))→Sub H (oH 1 []) ρ (.own 2 0 (k+1) 3) (.d (aO l)):=fun H ρ hH=>aFi hn hH
         simp only [hn,lQ]
         simp [-map_map,-mapM_map,↓KW,aP,aO,q1,aE,aB,aC,aJ,aD,aK,↓kE]
         refine aU (fun y:Nat × List Cl=>y.1≤c.length∧fV (c.take y.1) a b=y.2) (fun y=>grS 19 [(0,.d (aP c)),(1,.d (.i .i64 a)),(2,.d (.i .i64 b)),(16,.d (aO l)),(84,.d (aP c)),(85,.d (.i .i64 c.length)),(86,.d (.i .i64 (y.1:Int)))] 47 3 y.2.length (flt bK y.2)) (fun y=>c.length - y.1) (0,[]) ⟨Nat.zero_le _,rfl⟩ ?_ ?_
         ·simp only [List.length_nil,grS]
          refine bB [] (by simp) ?_ ?_ <;> simp [-map_map,upd,aT,Γ0,aP,bX,hfz]
         ·rintro ⟨i,out⟩ ⟨hi,ho⟩
          simp only at hi ho ⊢
          by_cases hgo:i<c.length
          ·have q1:(i:Int)<c.length:=by omega
           have hx:c[i]? = some c[i]:=List.getElem?_eq_getElem hgo
           have hw:IntKind.i64.wrap ((i:Int)+1)=(i:Int)+1:=aS (by omega) (by omega)
           have htk:=wG hgo a b
           rw [ho] at htk
           have hln:out.length≤i:=by rw [← ho]; exact Nat.le_trans (uR _ _ _) (by rw [List.length_take]; omega)
           refine (show ∃ y,c[i]=y from ⟨_,rfl⟩).elim fun y hye=>?_
           rw [hye] at hx htk
           have hyc:bK y=[D.i .i64 y.id,.i .i64 y.dim,aO y.b]:=rfl
           have hm1:(1:Nat)≤maxLen:=aZ (by decide)
           by_cases h0:y.id=a
           ·have h0':((y.id != a):Bool)=false:=by simpa using h0
            have hkp:iE a b y=false:=by unfold iE; simp [h0]
            rw [hkp] at htk
            simp only [Bool.false_eq_true,if_false,List.append_nil] at htk
            have q3:(((a:Int) != (a:Int)):Bool)=false:=by simp
            rcases hn:out.length with _ | m
            ·simp only [hn,grS]
             simp [-map_map,-mapM_map,↓KW,aP,q1,hx,hyc,h0,h0',q3,hw,aJ,aD,aK,aE,aB,aC]
             refine aI (τ:=Nat × List Cl) (i+1,out) ⟨hgo,htk⟩ (Nat.sub_lt_sub_left hgo (Nat.lt_succ_self _)) ?_
             simp only [hn,grS]
             refine bB [] (by simp) ?_ ?_ <;> simp [-map_map,upd,aT,Γ0,aP,bX]
            ·simp only [hn,grS]
             simp [-map_map,-mapM_map,↓KW,aP,q1,hx,hyc,h0,h0',q3,hw,aJ,aD,aK,aE,aB,aC]
             refine aI (τ:=Nat × List Cl) (i+1,out) ⟨hgo,htk⟩ (Nat.sub_lt_sub_left hgo (Nat.lt_succ_self _)) ?_
             simp only [hn,grS]
             refine bB [1] (by simp) ?_ ?_ <;> simp [-map_map,upd,aT,Γ0,aP,bX]
           ·have h0':((y.id != a):Bool)=true:=by simpa using h0
            by_cases h1:y.id=b
            ·have h1':((y.id != b):Bool)=false:=by simpa using h1
             have hkp:iE a b y=false:=by unfold iE; simp [h1]
             rw [hkp] at htk
             simp only [Bool.false_eq_true,if_false,List.append_nil] at htk
             have q3:(((b:Int) != (b:Int)):Bool)=false:=by simp
             rw [h1] at h0'
             rcases hn:out.length with _ | m
             ·simp only [hn,grS]
              simp [-map_map,-mapM_map,↓KW,aP,q1,hx,hyc,h1,h0',q3,hw,aJ,aD,aK,aE,aB,aC]
              refine aI (τ:=Nat × List Cl) (i+1,out) ⟨hgo,htk⟩ (Nat.sub_lt_sub_left hgo (Nat.lt_succ_self _)) ?_
              simp only [hn,grS]
              refine bB [] (by simp) ?_ ?_ <;> simp [-map_map,upd,aT,Γ0,aP,bX]
             ·simp only [hn,grS]
              simp [-map_map,-mapM_map,↓KW,aP,q1,hx,hyc,h1,h0',q3,hw,aJ,aD,aK,aE,aB,aC]
              refine aI (τ:=Nat × List Cl) (i+1,out) ⟨hgo,htk⟩ (Nat.sub_lt_sub_left hgo (Nat.lt_succ_self _)) ?_
              simp only [hn,grS]
              refine bB [1] (by simp) ?_ ?_ <;> simp [-map_map,upd,aT,Γ0,aP,bX]
            ·have h1':((y.id != b):Bool)=true:=by simpa using h1
             have hkp:iE a b y=true:=by unfold iE; simp [h0,h1]
             rw [hkp,if_pos rfl] at htk
             rcases hn:out.length with _ | m
             ·have e0:out=[]:=List.eq_nil_of_length_eq_zero hn
              simp only [hn,grS]
              simp [-map_map,-mapM_map,↓KW,aP,q1,hx,hyc,h0,h0',h1,h1',hw,hm1,aJ,aD,aK,aE,aB,aC]
              refine aI (τ:=Nat × List Cl) (i+1,out++[y]) ⟨hgo,htk⟩ (Nat.sub_lt_sub_left hgo (Nat.lt_succ_self _)) ?_
              simp only [List.length_append,hn,List.length_singleton,grS]
              refine bB [3] (by simp) ?_ ?_ <;> simp [-map_map,upd,aT,Γ0,aP,eH,e0,dC]
             ·have hbb:=cT (n:=m+1) (by omega)
              have hcl:=cE dN out
              rw [hn] at hcl
              have hal:=fI wC out
              simp only [hn,grS]
              simp [-map_map,-mapM_map,↓KW,aP,q1,hx,hyc,h0,h0',h1,h1',hw,hm1,hbb,hcl,hal,aZ,aJ,aD,aK,aE,aB,aC]
              refine aI (τ:=Nat × List Cl) (i+1,out++[y]) ⟨hgo,htk⟩ (Nat.sub_lt_sub_left hgo (Nat.lt_succ_self _)) ?_
              simp only [List.length_append,hn,List.length_singleton,grS]
              refine bB [4] (by simp) ?_ ?_ <;> simp [-map_map,upd,aT,Γ0,aP,eH,fS,dC]
          ·have q1:¬ (i:Int)<c.length:=by omega
           rw [List.take_of_length_le (by omega)] at ho
           have hM:=aRh (l:=l) (e:=e+e) (by rw [← oQ]; exact hlb) hlk (by omega) he
           refine (show ∃ r,bY [] l=r from ⟨_,rfl⟩).elim fun r hr=>?_
           rw [hr] at hM
           have hMp1:=nW c [(a,[]),(b,r)] (lF [(a,[]),(b,r)]) rfl (aRl _) (by omega)
           have hMp2:=nW c [(b,r),(a,[])] (lF [(b,r),(a,[])]) rfl (aRl _) (by omega)
           rw [aDy hne] at hMp2
           have hmp1:∀ v w:AV,nU [(a,v)] b w=[(a,v),(b,w)]:=fun v w=>aRf hne v w
           have hmp2:∀ v w:AV,nU [(b,v)] a w=[(b,v),(a,w)]:=fun v w=>aRf (Ne.symm hne) v w
           rw [hcol,hr,ho]
           rcases hn:out.length with _ | m
           ·have e0:out=[]:=List.eq_nil_of_length_eq_zero hn
            simp only [grS]
            simp [-map_map,-mapM_map,↓KW,aP,q1]
            refine rU _ _ rfl rfl ?_
            simp only [opsL,opL,yV,sK,qK,List.flatMap_cons,List.flatMap_nil,List.drop_succ_cons,List.drop_zero,List.take_succ_cons,List.take_zero,List.cons_append,List.nil_append]
            simp [-map_map,-mapM_map,↓KW,aP,q1,↓dH,↓dJ,↓dK,↓cM,↓dL,cG,cO]
            refine ⟨?_,?_⟩
            ·refine aA (ds:=[aO l]) (by rfl) hM ?_
             simp [-map_map,-mapM_map,↓KW,aP,q1,↓dH,↓dJ,↓dK,↓cM,↓dL,cG,cO,eA,hmp1,hmp2,aR,bI]
             refine aA (ds:=[aP c,lF [(a,[]),(b,r)]]) (by rfl) hMp1 ?_
             simp [-map_map,-mapM_map,↓KW,aP,q1,↓dH,↓dJ,↓dK,↓cM,↓dL,cG,cO,eA,hmp1,hmp2,e0,aR,bI,dE,cD,jB,dR,kL,hin]
            ·refine aA (ds:=[aO l]) (by rfl) hM ?_
             simp [-map_map,-mapM_map,↓KW,aP,q1,↓dH,↓dJ,↓dK,↓cM,↓dL,cG,cO,eA,hmp1,hmp2,aR,bI]
             refine ⟨?_,?_⟩
             ·refine aA (ds:=[aP c,lF [(a,[]),(b,r)]]) (by rfl) hMp1 ?_
              simp [-map_map,-mapM_map,↓KW,aP,q1,↓dH,↓dJ,↓dK,↓cM,↓dL,cG,cO,eA,hmp1,hmp2,e0,aR,bI,dE,cD,jB,dR,kL,hin]
             ·refine aA (ds:=[aP c,lF [(b,r),(a,[])]]) (by rfl) hMp2 ?_
              simp [-map_map,-mapM_map,↓KW,aP,q1,↓dH,↓dJ,↓dK,↓cM,↓dL,cG,cO,eA,hmp1,hmp2,e0,aR,bI,dE,cD,jB,dR,kL,hin]
           ·have e1:=fR dN hn
            have e2:=eW (by decide) dN hn
            have e3:=cE dN out
            rw [hn] at e3
            simp only [grS]
            simp [-map_map,-mapM_map,↓KW,aP,q1]
            refine rU _ _ rfl rfl ?_
            simp only [opsL,opL,yV,sK,qK,List.flatMap_cons,List.flatMap_nil,List.drop_succ_cons,List.drop_zero,List.take_succ_cons,List.take_zero,List.cons_append,List.nil_append]
            simp [-map_map,-mapM_map,↓KW,aP,q1,↓dH,↓dJ,↓dK,↓cM,↓dL,cG,cO]
            refine ⟨?_,?_⟩
            ·refine aA (ds:=[aO l]) (by rfl) hM ?_
             simp [-map_map,-mapM_map,↓KW,aP,q1,↓dH,↓dJ,↓dK,↓cM,↓dL,cG,cO,eA,hmp1,hmp2,aR,bI]
             refine aA (ds:=[aP c,lF [(a,[]),(b,r)]]) (by rfl) hMp1 ?_
             simp [-map_map,-mapM_map,↓KW,aP,q1,↓dH,↓dJ,↓dK,↓cM,↓dL,cG,cO,eA,hmp1,hmp2,e1,e2,e3,aR,bI,dE,cD,jB,dR,kL,hin]
            ·refine aA (ds:=[aO l]) (by rfl) hM ?_
             simp [-map_map,-mapM_map,↓KW,aP,q1,↓dH,↓dJ,↓dK,↓cM,↓dL,cG,cO,eA,hmp1,hmp2,aR,bI]
             refine ⟨?_,?_⟩
             ·refine aA (ds:=[aP c,lF [(a,[]),(b,r)]]) (by rfl) hMp1 ?_
              simp [-map_map,-mapM_map,↓KW,aP,q1,↓dH,↓dJ,↓dK,↓cM,↓dL,cG,cO,eA,hmp1,hmp2,e1,e2,e3,aR,bI,dE,cD,jB,dR,kL,hin]
             ·refine aA (ds:=[aP c,lF [(b,r),(a,[])]]) (by rfl) hMp2 ?_
              simp [-map_map,-mapM_map,↓KW,aP,q1,↓dH,↓dJ,↓dK,↓cM,↓dL,cG,cO,eA,hmp1,hmp2,e1,e2,e3,aR,bI,dE,cD,jB,dR,kL,hin]
end Go.Am
end
