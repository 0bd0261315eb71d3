/- The check of chapter 31: it answers true. No condition. -/
import Derived.Test.YthjopmmgepejkaaGreatH6
import Derived.Test.YthjopmmgepejkaaGreatH4
import Derived.Shelf.SlSortCmp.PdqK
import Derived.Ground.SlsfProg
import Derived.Shelf.SlicesG.Cmp
section
set_option linter.unusedVariables false
set_option linter.unusedSimpArgs false
open Go Go.Am Go.Proofs
namespace Go.Am
/-! Maps by weights -/
theorem yD (c:List Cl) (g:List (Int × Ch)):(cU c g).length=c.length:=by unfold cU; rw [List.length_map]
def wM:List (Int × Ch)→(Int→Int)→Int→Int
 | [],_,_=>0
 | p::m,w,k=>(if p.1=k then bJ w p.2 else 0)+wM m w k
theorem aHj (w:Int→Int) (f:Int × Int):∀ m:List (Int × Ch),bJ w (apP m f)=f.2 * wM m w f.1
 | []=>by simp [apP,wM,bJ]
 | p::m=>by
  have ih:=aHj w f m
  show bJ w ((if p.1=f.1 then mulR f.2 p.2 else [])++apP m f)=_
  rw [lZ,ih]
  simp only [wM]
  rw [Int.mul_add]
  by_cases h:p.1=f.1
  ·rw [if_pos h,if_pos h,kM]
  ·rw [if_neg h,if_neg h]; simp [bJ]
theorem aCs (w:Int→Int) (m:List (Int × Ch)):∀ x:Ch,bJ w (apL m x)=bJ (wM m w) x
 | []=>rfl
 | f::x=>by
  show bJ w (apP m f++apL m x)=_
  rw [lZ,aHj,aCs w m x]; rfl
theorem pT (w:Int→Int) (m:List (Int × Ch)) (x:Ch):bJ w (apX m x)=bJ (wM m w) x:=by unfold apX; rw [dQ,aCs]
theorem aPy {w:Int→Int} {k:Int}:∀ {m:List (Int × Ch)},(∀ p∈m,p.1≠k)→wM m w k=0
 | [],_=>rfl
 | p::m,h=>by simp only [wM]; rw [if_neg (h p (List.mem_cons_self ..)),aPy fun q hq=>h q (List.mem_cons_of_mem _ hq)]; rfl
theorem bLp {w:Int→Int}:∀ {m:List (Int × Ch)} {p:Int × Ch},(m.map (·.1)).Pairwise (·<·)→p∈m→wM m w p.1=bJ w p.2
 | q::m,p,hm,hp=>by
  rw [List.map_cons] at hm
  obtain ⟨h1,h2⟩:=List.pairwise_cons.1 hm
  simp only [wM]
  rcases List.mem_cons.1 hp with rfl | hp
  ·rw [if_pos rfl,aPy fun r hr=>by have:=h1 r.1 (List.mem_map.2 ⟨r,hr,rfl⟩); omega,Int.add_zero]
  ·have:=h1 p.1 (List.mem_map.2 ⟨p,hp,rfl⟩)
   rw [if_neg (by omega),bLp h2 hp,Int.zero_add]
theorem CmT.keys {a b:List Cl} {m:List (Int × Ch)} (h:CmT a b m):m.map (·.1)=a.map Cl.id:=by
 apply List.ext_getElem?
 intro i
 rw [List.getElem?_map,List.getElem?_map]
 rcases Nat.lt_or_ge i a.length with hi | hi
 ·have h1:a[i]? = some a[i]:=List.getElem?_eq_getElem hi
  have h2:m[i]? = some (m[i]'(by rw [h.len]; exact hi)):=List.getElem?_eq_getElem _
  rw [h1,h2,Option.map_some,Option.map_some,h.id i _ _ h1 h2]
 ·rw [List.getElem?_eq_none hi,List.getElem?_eq_none (by rw [h.len]; exact hi)]; rfl
theorem CmT.inc {a b:List Cl} {m:List (Int × Ch)} (h:CmT a b m) (ha:Inc a):(m.map (·.1)).Pairwise (·<·):=by rw [h.keys,List.pairwise_map]; exact ha
theorem CmT.at {a b:List Cl} {m:List (Int × Ch)} (h:CmT a b m) {y:Cl} (hy:y∈a):∃ (i:Nat) (p:Int × Ch),a[i]? = some y∧m[i]? = some p∧p.1=y.id:=by
 obtain ⟨i,hi,rfl⟩:=List.getElem_of_mem hy
 have h1:a[i]? = some a[i]:=List.getElem?_eq_getElem hi
 have h2:m[i]? = some (m[i]'(by rw [h.len]; exact hi)):=List.getElem?_eq_getElem _
 exact ⟨i,_,h1,h2,h.id i _ _ h1 h2⟩
theorem CmT.W {a b:List Cl} {m:List (Int × Ch)} (h:CmT a b m) (ha:Inc a) (w:Int→Int) {y:Cl} (hy:y∈a):wM m (fun k=>bJ w (bOf b k)) y.id=bJ (wM m w) y.b:=by
 obtain ⟨i,p,h1,h2,h3⟩:=h.at hy
 rw [← h3,bLp (h.inc ha) (List.mem_of_getElem? h2),← lY,← pT,← h.bd i y p h1 h2]
 unfold bdX; rw [dQ]
def iY (m n:List (Int × Ch)):List (Int × Ch):=m.map fun p=>(p.1,apX n p.2)
theorem aBf (m n:List (Int × Ch)):(iY m n).length=m.length:=by unfold iY; rw [List.length_map]
theorem aXc (n:List (Int × Ch)) (w:Int→Int) (k:Int):∀ m:List (Int × Ch),wM (iY m n) w k=wM m (wM n w) k
 | []=>rfl
 | p::m=>by
  show (if p.1=k then bJ w (apX n p.2) else 0)+wM (iY m n) w k=_
  rw [aXc n w k m,pT]; rfl
theorem aGv {m:List (Int × Ch)} {x:Ch} {g:Int × Int} (h:g∈apL m x):∃ f∈x,∃ p∈m,p.1=f.1∧∃ u∈p.2,u.1=g.1:=by
 obtain ⟨f,hf,h⟩:=List.mem_flatMap.1 h
 obtain ⟨p,hp,h⟩:=List.mem_flatMap.1 h
 by_cases e:p.1=f.1
 ·rw [if_pos e] at h
  obtain ⟨u,hu,rfl⟩:=List.mem_map.1 h
  exact ⟨f,hf,p,hp,e,u,hu,rfl⟩
 ·rw [if_neg e] at h; cases h
theorem bLf {m:List (Int × Ch)} {x:Ch} {g:Int × Int} (h:g∈apX m x):∃ f∈x,∃ p∈m,p.1=f.1∧∃ u∈p.2,u.1=g.1:=by
 obtain ⟨q,hq,e⟩:=rJ h
 rw [← e]; exact aGv hq
theorem CmT.comp {c d e:List Cl} {m n:List (Int × Ch)} (h1:CmT c d m) (h2:CmT d e n) (hd:Inc d):CmT c e (iY m n):=by
 have hget:∀ (i:Nat) q,(iY m n)[i]? = some q→∃ p,m[i]? = some p∧q=(p.1,apX n p.2):=fun i q hq=>by
  unfold iY at hq
  rw [List.getElem?_map] at hq
  cases e:m[i]? with
  | none=>rw [e] at hq; cases hq
  | some p=>rw [e] at hq; injection hq with hq; exact ⟨p,rfl,hq.symm⟩
 refine ⟨by rw [aBf]; exact h1.len,fun i x q hx hq=>?_,fun i x q hx hq f hf=>?_,fun i x q hx hq=>?_⟩
 ·obtain ⟨p,hp,rfl⟩:=hget i q hq
  exact h1.id i x p hx hp
 ·obtain ⟨p,hp,rfl⟩:=hget i q hq
  obtain ⟨f0,hf0,r,hr,e1,u,hu,e2⟩:=bLf hf
  obtain ⟨y,hy,hyd⟩:=h1.key i x p hx hp f0 hf0
  obtain ⟨hyd1,hyd2⟩:=dT hy
  obtain ⟨j,hj,rfl⟩:=List.getElem_of_mem hr
  have hjd:j<d.length:=by rw [← h2.len]; exact hj
  have k1:d[j]? = some d[j]:=List.getElem?_eq_getElem hjd
  have k2:n[j]? = some n[j]:=List.getElem?_eq_getElem hj
  have k3:=h2.id j _ _ k1 k2
  have k4:d[j]=y:=hd.eq (List.getElem_mem hjd) hyd1 (by rw [← k3,e1,hyd2])
  obtain ⟨z,hz,hzd⟩:=h2.key j _ _ k1 k2 u hu
  exact ⟨z,by rw [← e2]; exact hz,by rw [hzd,k4,hyd]⟩
 ·obtain ⟨p,hp,rfl⟩:=hget i q hq
  refine aHt (dA _ [] Val.nil).1 (dA _ [] Val.nil).1 fun w=>?_
  have e1:bJ w (bdX e (apX n p.2))=bJ (wM n fun k=>bJ w (bOf e k)) p.2:=by
   unfold bdX; rw [dQ,lY,pT]
  have e2:bJ (wM n fun k=>bJ w (bOf e k)) p.2=bJ (fun k=>bJ (wM n w) (bOf d k)) p.2:=dP fun f hf=>by
   obtain ⟨y,hy,_⟩:=h1.key i x p hx hp f hf
   obtain ⟨y1,y2⟩:=dT hy
   have:=h2.W hd w y1
   rw [y2] at this
   rw [this]; unfold Go.Am.bOf; rw [hy]; rfl
  have e3:bJ (fun k=>bJ (wM n w) (bOf d k)) p.2=bJ (wM n w) (apX m x.b):=by
   rw [← h1.bd i x p hx hp]; unfold bdX; rw [dQ,lY]
  show bJ w (bdX e (apX n p.2))=bJ w (apX (iY m n) x.b)
  rw [e1,e2,e3,pT,pT]
  exact dP fun f _=>(aXc n w f.1 m).symm
theorem CmT.one {c:List Cl} (h:CxV c):CmT c c (cU c []):=by
 have hget:∀ (i:Nat) x p,c[i]? = some x→(cU c [])[i]? = some p→p=(x.id,[(x.id,1)]):=fun i x p hx hp=>by
  unfold cU at hp
  rw [List.getElem?_map,hx] at hp
  injection hp with hp
  exact hp.symm
 refine ⟨by rw [yD],fun i x p hx hp=>by rw [hget i x p hx hp],fun i x p hx hp f hf=>?_,fun i x p hx hp=>?_⟩
 ·rw [hget i x p hx hp] at hf
  rw [List.mem_singleton.1 hf]
  exact ⟨x,h.inc.find (List.mem_of_getElem? hx),rfl⟩
 ·have hxc:=List.mem_of_getElem? hx
  rw [hget i x p hx hp]
  refine aHt (dA _ [] Val.nil).1 (dA _ [] Val.nil).1 fun w=>?_
  rw [bEt h hxc]
  unfold apX
  rw [dQ,sY h.inc w fun f hf=>let ⟨y,hy,k,_⟩:=h.face x hxc f hf; ⟨y,hy,k⟩]
  exact (dP fun f _=>by simp [iW,bJ]).symm
/-! A free pair collapsed -/
theorem qQ {n:Int} {l:Ch}:0<pC n l↔∃ f∈l,f.1=n:=by
 unfold pC
 rw [List.countP_pos_iff]
 simp
theorem uT {n:Int}:∀ {c:List Cl} {x:Cl},x∈c→pC n x.b≤jT n c
 | y::c,x,h=>by
  show _≤pC n y.b+jT n c
  rcases List.mem_cons.1 h with rfl | h
  ·omega
  ·have:=uT (n:=n) h; omega
theorem aLl {n:Int}:∀ {c:List Cl} {x y:Cl},x∈c→y∈c→x≠y→pC n x.b+pC n y.b≤jT n c
 | z::c,x,y,hx,hy,hne=>by
  show _≤pC n z.b+jT n c
  rcases List.mem_cons.1 hx with rfl | hx2
  ·rcases List.mem_cons.1 hy with rfl | hy2
   ·exact (hne rfl).elim
   ·have:=uT (n:=n) hy2; omega
  ·rcases List.mem_cons.1 hy with rfl | hy2
   ·have:=uT (n:=n) hx2; omega
   ·have:=aLl (n:=n) hx2 hy2 hne; omega
theorem aCq (w:Int→Int) (z n:Int):∀ l:Ch,bJ w (nS z n l)=z * (bJ w l - cf n l * w n)
 | []=>by simp [nS,bJ,cf]
 | f::l=>by
  have ih:=aCq w z n l
  unfold nS at ih ⊢
  simp only [cf]
  by_cases h:f.1=n
  ·have h':n=f.1:=h.symm
   simp only [List.filter_cons,h,decide_true,Bool.not_true,Bool.false_eq_true,if_false,if_true,ih,bJ]
   congr 1
   rw [Int.add_mul]; omega
  ·have h':¬ n=f.1:=fun x=>h x.symm
   simp only [List.filter_cons,h,decide_false,Bool.not_false,if_true,List.map_cons,bJ,ih,if_neg h']
   rw [Int.mul_assoc,← Int.mul_add]
   congr 1
   rw [Int.zero_add]; omega
structure lT (c:List Cl) (a b z:Int) (xa xb:Cl):Prop where
 ina:xa∈c
 ida:xa.id=a
 inb:xb∈c
 idb:xb.id=b
 dim:xb.dim=xa.dim - 1
 ua:∀ y∈c,∀ f∈y.b,f.1≠a
 ub:∀ y∈c,∀ f∈y.b,f.1=b→y=xa
 mem:(b,z)∈xa.b
 unit:z=1∨z=-1
theorem uP {c:List Cl} (h:CxV c) {a b:Int} (hf:(a,b)∈fB c):∃ z xa xb,lT c a b z xa xb:=by
 unfold fB at hf
 obtain ⟨x,hx,hf⟩:=List.mem_flatMap.1 hf
 unfold gP at hf
 split at hf
 ·cases hf
 ·rename_i h0
  obtain ⟨f,hm,he⟩:=List.mem_map.1 hf
  injection he with e1 e2
  obtain ⟨hfx,hok⟩:=List.mem_filter.1 hm
  unfold gI at hok
  simp only [Bool.and_eq_true,decide_eq_true_eq] at hok
  obtain ⟨n,z⟩:=f
  simp only at e2 hok hfx
  subst e2
  obtain ⟨y,hy,k1,k2⟩:=h.face x hx _ hfx
  refine ⟨z,x,y,hx,e1,hy,k1,k2,fun u hu f hf q=>?_,fun u hu f hf q=>?_,hfx,by omega⟩
  ·have h1:=uT (n:=a) hu
   have h2:0<pC a u.b:=qQ.2 ⟨f,hf,q⟩
   rw [e1] at h0; omega
  ·refine Classical.byContradiction fun hne=>?_
   have h1:=aLl (n:=n) hu hx hne
   have h2:0<pC n u.b:=qQ.2 ⟨f,hf,q⟩
   have h3:0<pC n x.b:=qQ.2 ⟨_,hfx,rfl⟩
   omega
section
variable {c:List Cl} {a b z:Int} {xa xb:Cl}
theorem aBc {y:Cl}:y∈fV c a b↔y∈c∧y.id≠a∧y.id≠b:=by
 unfold fV iE
 rw [List.mem_filter]
 simp
theorem aBd (h:Inc c):Inc (fV c a b):=List.Pairwise.filter _ h
theorem aBb (h:Inc c) {y:Cl} (hy:y∈c) (h1:y.id≠a) (h2:y.id≠b):cF (fV c a b) y.id=some y:=(aBd h).find (aBc.2 ⟨hy,h1,h2⟩)
theorem aGm (h:Inc c) {y:Cl} (hy:y∈c) (h1:y.id≠a) (h2:y.id≠b):bOf (fV c a b) y.id=y.b:=by unfold Go.Am.bOf; rw [aBb h hy h1 h2]; rfl
theorem lT.ne (t:lT c a b z xa xb):a≠b:=fun e=>by
 have:=t.ua xa t.ina _ t.mem
 exact this e.symm
theorem lT.bOf (t:lT c a b z xa xb) (h:CxV c):Go.Am.bOf c a=xa.b:=by rw [← t.ida]; exact h.bOf t.ina
theorem lT.cf (t:lT c a b z xa xb) (h:CxV c):Go.Am.cf b xa.b=z:=by rw [gY (h.val xa t.ina)]; exact fA (h.val xa t.ina) t.mem
theorem lT.cf0 (t:lT c a b z xa xb) {y:Cl} (hy:y∈c) (hne:y≠xa):Go.Am.cf b y.b=0:=nC fun f hf e=>hne (t.ub y hy f hf e)
theorem lT.last (t:lT c a b z xa xb) (h:CxV c):mE xa.b b=z:=by
 have e:mE xa.b b=lv b xa.b:=rfl
 rw [e,aRi (h.val xa t.ina)]; exact fA (h.val xa t.ina) t.mem
theorem lT.stay (t:lT c a b z xa xb) (h:CxV c) {y:Cl} (hy:y∈c) {f:Int × Int} (hf:f∈y.b) (hne:y≠xa∨f.1≠b):∃ u∈c,u.id=f.1∧u.dim=y.dim - 1∧u.id≠a∧u.id≠b:=by
 obtain ⟨u,hu,k1,k2⟩:=h.face y hy f hf
 refine ⟨u,hu,k1,k2,by rw [k1]; exact t.ua y hy f hf,fun e=>?_⟩
 rcases hne with q | q
 ·exact q (t.ub y hy f hf (k1.symm.trans e))
 ·exact q (k1.symm.trans e)
theorem lT.valid (t:lT c a b z xa xb) (h:CxV c):CxV (fV c a b):=by
 have hs:∀ {y:Cl},y∈fV c a b→y∈c∧y≠xa:=fun hy=>by
  obtain ⟨h1,h2,_⟩:=aBc.1 hy
  exact ⟨h1,fun e=>h2 (by rw [e]; exact t.ida)⟩
 refine ⟨aBd h.inc,fun y hy=>h.dim y (hs hy).1,fun y hy=>h.val y (hs hy).1,fun y hy f hf=>?_,fun y hy n=>?_⟩
 ·obtain ⟨u,hu,k1,k2,k3,k4⟩:=t.stay h (hs hy).1 hf (.inl (hs hy).2)
  exact ⟨u,aBc.2 ⟨hu,k3,k4⟩,k1,k2⟩
 ·rw [← h.cyc y (hs hy).1 n]
  refine dP fun f hf=>?_
  obtain ⟨u,hu,k1,k2,k3,k4⟩:=t.stay h (hs hy).1 hf (.inl (hs hy).2)
  rw [← k1,aGm h.inc hu k3 k4,h.bOf hu]
def oF (b z:Int) (l:Ch):Ch:=bY [] (nS (-z) b l)
theorem lT.g (t:lT c a b z xa xb) (h:CxV c):mI c a b=[(a,[]),(b,oF b z xa.b)]:=by
 unfold mI bKq oF; rw [t.bOf h,t.last h]
theorem aOn (w:Int→Int) (b z:Int) (l:Ch):bJ w (oF b z l)=-z * (bJ w l - Go.Am.cf b l * w b):=by unfold oF; rw [dQ,aCq]
theorem aLj {f:Int × Int} (l:Ch) (h:f∈oF b z l):∃ g∈l,g.1=f.1∧g.1≠b:=by
 obtain ⟨g,hg,e⟩:=rJ h
 unfold nS at hg
 obtain ⟨g0,h0,rfl⟩:=List.mem_map.1 hg
 obtain ⟨h1,h2⟩:=List.mem_filter.1 h0
 exact ⟨g0,h1,e,by simpa using h2⟩
theorem uE (h:a≠b) (R:Ch) (n:Int):(iW [(a,[]),(b,R)] n).getD [(n,1)]=if n=a then [] else if n=b then R else [(n,1)]:=by
 unfold iW
 by_cases h1:n=a
 ·simp [h1]
 ·have h1':¬ a=n:=fun e=>h1 e.symm
  by_cases h2:n=b
  ·have h3:¬ b=a:=fun e=>h e.symm
   simp [List.find?_cons,h2,h,h3]
  ·have h2':¬ b=n:=fun e=>h2 e.symm
   simp [List.find?_cons,h1,h1',h2,h2']
theorem lT.comm (t:lT c a b z xa xb) (h:CxV c):CmT c (fV c a b) (cU c (mI c a b)):=by
 rw [t.g h]
 have hget:∀ (i:Nat) x p,c[i]? = some x→(cU c [(a,[]),(b,oF b z xa.b)])[i]? = some p→p=(x.id,if x.id=a then [] else if x.id=b then oF b z xa.b else [(x.id,1)]):=fun i x p hx hp=>by
  unfold cU at hp
  rw [List.getElem?_map,hx] at hp
  injection hp with hp
  simp only [uE t.ne] at hp
  exact hp.symm
 refine ⟨by rw [yD],fun i x p hx hp=>by rw [hget i x p hx hp],fun i x p hx hp f hf=>?_,fun i x p hx hp=>?_⟩
 ·have hxc:=List.mem_of_getElem? hx
  rw [hget i x p hx hp] at hf
  simp only at hf
  by_cases q1:x.id=a
  ·rw [if_pos q1] at hf; cases hf
  ·rw [if_neg q1] at hf
   by_cases q2:x.id=b
   ·rw [if_pos q2] at hf
    obtain ⟨g,hg,e1,e2⟩:=aLj _ hf
    obtain ⟨u,hu,k1,k2,k3,k4⟩:=t.stay h t.ina hg (.inr e2)
    have hxx:x=xb:=h.inc.eq hxc t.inb (q2.trans t.idb.symm)
    refine ⟨u,by rw [← e1,← k1]; exact aBb h.inc hu k3 k4,by rw [k2,hxx,t.dim]⟩
   ·rw [if_neg q2] at hf
    rw [List.mem_singleton.1 hf]
    exact ⟨x,aBb h.inc hxc q1 q2,rfl⟩
 ·have hxc:=List.mem_of_getElem? hx
  rw [hget i x p hx hp]
  have hfc:∀ f∈x.b,∃ y∈c,y.id=f.1:=fun f hf=>let ⟨y,hy,k,_⟩:=h.face x hxc f hf; ⟨y,hy,k⟩
  refine aHt (dA _ [] Val.nil).1 (dA _ [] Val.nil).1 fun w=>?_
  unfold bdX apX
  rw [dQ,dQ,lY,sY h.inc w hfc]
  simp only
  obtain ⟨W,hW⟩:∃ W,bJ w (oF b z xa.b)=W:=⟨_,rfl⟩
  have hzz:z * z=1:=by rcases t.unit with e | e <;> rw [e] <;> rfl
  have hWv:W=-z * bJ w xa.b+w b:=by
   rw [← hW,aOn,t.cf h,Int.mul_sub,← Int.mul_assoc,Int.neg_mul z z,hzz]; omega
  have hr:bJ (fun k=>bJ w ((iW [(a,[]),(b,oF b z xa.b)] k).getD [(k,1)])) x.b=bJ w x.b+(W - w b) * Go.Am.cf b x.b:=by
   have e1:bJ (fun k=>bJ w ((iW [(a,[]),(b,oF b z xa.b)] k).getD [(k,1)])) x.b=bJ (fun k=>w k+(W - w b) * (if k=b then 1 else 0) - 0 * 0) x.b:=dP fun f hf=>by
    rw [uE t.ne,if_neg (t.ua x hxc f hf)]
    by_cases q:f.1=b
    ·rw [if_pos q,if_pos q,hW,q]; omega
    ·rw [if_neg q,if_neg q]; simp [bJ]
   have e2:bJ (fun m=>if m=b then (1:Int) else 0) x.b=Go.Am.cf b x.b:=by
    rw [lS]; exact dP fun f _=>aNz f.1 b
   rw [e1,qU w _ (fun _=>0) _ 0,e2]
   omega
  rw [hr]
  by_cases q1:x.id=a
  ·have hxx:x=xa:=h.inc.eq hxc t.ina (q1.trans t.ida.symm)
   rw [if_pos q1,hxx,t.cf h]
   have:(W - w b) * z=-bJ w xa.b:=by
    rw [hWv,Int.add_sub_cancel,Int.mul_comm (-z),Int.mul_assoc,Int.neg_mul,hzz]; omega
   rw [this]
   simp only [bJ]; omega
  ·have hxx:x≠xa:=fun e=>q1 (by rw [e]; exact t.ida)
   rw [if_neg q1,t.cf0 hxc hxx,Int.mul_zero,Int.add_zero]
   by_cases q2:x.id=b
   ·rw [if_pos q2]
    have hxb:x=xb:=h.inc.eq hxc t.inb (q2.trans t.idb.symm)
    have e1:bJ (fun m=>bJ w (Go.Am.bOf (fV c a b) m)) (oF b z xa.b)=bJ (fun m=>bJ w (Go.Am.bOf c m)) (oF b z xa.b):=dP fun f hf=>by
     obtain ⟨g,hg,k1,k2⟩:=aLj _ hf
     obtain ⟨u,hu,j1,j2,j3,j4⟩:=t.stay h t.ina hg (.inr k2)
     rw [← k1,← j1,aGm h.inc hu j3 j4,h.bOf hu]
    have e2:bJ (fun m=>bJ w (Go.Am.bOf c m)) xa.b=0:=h.wcyc t.ina w
    rw [e1,aOn,e2,t.cf h,Int.zero_sub,Int.neg_mul_neg,← Int.mul_assoc,hzz,Int.one_mul,← q2,h.bOf hxc]
   ·rw [if_neg q2]
    simp only [bJ]
    rw [aGm h.inc hxc q1 q2]; omega
end
theorem aGn {c:List Cl} (h:CxV c) {a b z:Int} {xa xb:Cl} (t:lT c a b z xa xb) (hf:(a,b)∈fB c):aOm c a b=(fV c a b,cU c (mI c a b),0):=by
 unfold aOm
 have e1:cF c a=some xa:=by rw [← t.ida]; exact h.inc.find t.ina
 have e2:cF c b=some xb:=by rw [← t.idb]; exact h.inc.find t.inb
 rw [if_neg (by rw [e1,e2]; simp),if_neg (by simpa using hf)]
/-! Sizes -/
theorem bKr {c:List Cl} {F:Nat} (hz:SzX F c) (a b:Int):SzX F (fV c a b) :=
 ⟨Nat.le_trans (uR _ _ _) hz.len,fun y hy=>hz.bl y (List.mem_filter.1 hy).1,fun y hy=>hz.bb y (List.mem_filter.1 hy).1⟩
theorem aGo {c:List Cl} {F:Nat} {a b z:Int} {xa xb:Cl} (t:lT c a b z xa xb) (h:CxV c) (hz:SzX F c):SzM (14+F) (cU c (mI c a b)):=by
 have hR:(oF b z xa.b).length≤100∧Bnd (2 ^ (14+F)) (oF b z xa.b)∧Val (oF b z xa.b):=by
  have h1:=hz.bl xa t.ina
  have h2:=hz.bb xa t.ina
  have h3:=zN (-z) b xa.b
  have h4:=aJp (n:=b) (z:=-z) (K:=1) (by rcases t.unit with e | e <;> rw [e] <;> decide) h2
  rw [Nat.one_mul] at h4
  have k1:=kG [] (nS (-z) b xa.b)
  have k2:=iZ (nS (-z) b xa.b) [] (Bnd.nil 0) h4
  simp only [List.length_nil,Nat.zero_add] at k1 k2
  unfold oF
  exact ⟨by omega,k2.mono (oR (Nat.le_trans (by omega:(nS (-z) b xa.b).length≤100) (by decide))),(dA _ [] Val.nil).1⟩
 have hp:∀ p∈cU c (mI c a b),p.2=[]∨p.2=oF b z xa.b∨∃ n,p.2=[(n,1)]:=fun p hp=>by
  rw [t.g h] at hp
  obtain ⟨y,_,rfl⟩:=List.mem_map.1 hp
  simp only [uE t.ne]
  split
  ·exact .inl rfl
  ·split
   ·exact .inr (.inl rfl)
   ·exact .inr (.inr ⟨_,rfl⟩)
 refine ⟨by rw [yD]; exact hz.len,fun p h1=>?_,fun p h1=>?_,fun p h1=>?_⟩
 ·rcases hp p h1 with e | e | ⟨n,e⟩ <;> rw [e]
  ·exact Nat.zero_le _
  ·exact hR.1
  ·simp
 ·rcases hp p h1 with e | e | ⟨n,e⟩ <;> rw [e]
  ·exact Bnd.nil _
  ·exact hR.2.1
  ·exact Bnd.one (Nat.le_trans (by decide:(1:Int).natAbs≤2 ^ 0) (Nat.pow_le_pow_right (by decide) (Nat.zero_le _)))
 ·rcases hp p h1 with e | e | ⟨n,e⟩ <;> rw [e]
  ·exact Val.nil
  ·exact hR.2.2
  ·exact rD n
theorem bHy {c:List Cl} (h:c.length≤100):SzM 0 (cU c []):=by
 have hp:∀ p∈cU c [],∃ n,p.2=[(n,1)]:=fun p hp=>by
  obtain ⟨y,_,rfl⟩:=List.mem_map.1 hp; exact ⟨_,rfl⟩
 refine ⟨by rw [yD]; exact h,fun p h1=>?_,fun p h1=>?_,fun p h1=>?_⟩
 ·obtain ⟨n,e⟩:=hp p h1; rw [e]; simp
 ·obtain ⟨n,e⟩:=hp p h1; rw [e]; exact Bnd.one (Nat.le_refl 1)
 ·obtain ⟨n,e⟩:=hp p h1; rw [e]; exact rD n
theorem bSo {d:List Cl} (hd:Inc d) {x:Ch} (hx:Val x) (hk:∀ f∈x,∃ y,cF d f.1=some y):x.length≤d.length:=by
 have:=aGb (d.map Cl.id) (x.map (·.1)) (by rw [List.pairwise_map]; exact hx.1) (by rw [List.pairwise_map]; exact hd) fun n hn=>by
  obtain ⟨f,hf,rfl⟩:=List.mem_map.1 hn
  obtain ⟨y,hy⟩:=hk f hf
  obtain ⟨h1,h2⟩:=dT hy
  exact List.mem_map.2 ⟨y,h1,h2⟩
 simpa using this
theorem CmT.len2 {a b:List Cl} {m:List (Int × Ch)} (h:CmT a b m) (hb:Inc b) (hv:∀ p∈m,Val p.2) {p:Int × Ch} (hp:p∈m):p.2.length≤b.length:=by
 obtain ⟨i,hi,rfl⟩:=List.getElem_of_mem hp
 have hia:i<a.length:=by rw [← h.len]; exact hi
 exact bSo hb (hv _ hp) fun f hf=>let ⟨y,hy,_⟩:=h.key i _ _ (List.getElem?_eq_getElem hia) (List.getElem?_eq_getElem hi) f hf; ⟨y,hy⟩
theorem bPp {c d e:List Cl} {m n:List (Int × Ch)} {g k:Nat} (h1:CmT c d m) (h2:CmT d e n) (hd:Inc d) (he:Inc e) (hm:SzM g m) (hn:SzM k n) (hel:e.length≤100):SzM (20+(g+k)) (iY m n):=by
 have hv:∀ p∈iY m n,Val p.2:=fun p hp=>by
  obtain ⟨q,_,rfl⟩:=List.mem_map.1 hp
  exact (dA _ [] Val.nil).1
 refine ⟨by rw [aBf]; exact hm.len,fun p hp=>Nat.le_trans ((h1.comp h2 hd).len2 he hv hp) hel,fun p hp=>?_,hv⟩
 obtain ⟨q,hq,rfl⟩:=List.mem_map.1 hp
 have hql:=hm.bl q hq
 obtain ⟨k1,k2⟩:=aBo hn (x:=q.2) (hm.bb q hq)
 have k3:=iZ (apL n q.2) [] (Bnd.nil 0) k2
 simp only [List.length_nil,Nat.zero_add] at k3
 have h5:=Nat.mul_le_mul_right 10000 hql
 exact k3.mono (oR (Nat.le_trans (Nat.le_trans k1 h5) (by decide)))
/-! Shrunk complexes -/
def nP:Nat→List Cl→List (Int × Ch)→List Cl × List (Int × Ch)
 | 0,c,m=>(c,m)
 | n+1,c,m=>match fB c with
  | []=>(c,m)
  | p::_=>nP n (fV c p.1 p.2) (iY m (cU c (mI c p.1 p.2)))
structure ShI (F:Nat) (c0:List Cl) (j:Nat) (c:List Cl) (m:List (Int × Ch)):Prop where
 v:CxV c
 len:c.length+2 * j≤11
 sz:SzX F c
 ids:∀ x∈c,1≤x.id∧x.id≤17
 cm:CmT c0 c m
 szm:SzM (j * (F+40)) m
theorem uQ {c:List Cl} {a b z:Int} {xa xb:Cl} (t:lT c a b z xa xb) (h:Inc c):(fV c a b).length+2=c.length:=by
 have h1:∀ {c:List Cl} {x:Cl},Inc c→x∈c→(c.filter fun y=>!decide (y.id=x.id)).length+1=c.length:=by
  intro c
  induction c with
  | nil=>intro x _ hx; cases hx
  | cons y c ih =>
   intro x hc hx
   obtain ⟨p1,p2⟩:=List.pairwise_cons.1 hc
   rcases List.mem_cons.1 hx with rfl | hx
   ·have:c.filter (fun y=>!decide (y.id=x.id))=c:=List.filter_eq_self.2 fun u hu=>by
     have:=p1 u hu; simp; omega
    simp [List.filter_cons,this]
   ·have:=p1 x hx
    have hne:¬ y.id=x.id:=by omega
    have:=ih p2 hx
    simp [List.filter_cons,hne]; exact this
 have e:fV c a b=(c.filter fun y=>!decide (y.id=xa.id)).filter fun y=>!decide (y.id=xb.id):=by
  unfold fV iE
  rw [List.filter_filter,t.ida,t.idb]
  exact List.filter_congr fun y _=>by rw [Bool.and_comm]
 have h2:=h1 h t.ina
 have h3:=h1 (c:=c.filter fun y=>!decide (y.id=xa.id)) (x:=xb) (List.Pairwise.filter _ h) (List.mem_filter.2 ⟨t.inb,by
  have:=t.ne; rw [t.idb,t.ida]; simpa using fun e=>this e.symm⟩)
 rw [e]; omega
theorem ShI.step {F j:Nat} {c0 c:List Cl} {m:List (Int × Ch)} (s:ShI F c0 j c m) {p:Int × Int} (hp:p∈fB c):ShI F c0 (j+1) (fV c p.1 p.2) (iY m (cU c (mI c p.1 p.2))):=by
 obtain ⟨a,b⟩:=p
 obtain ⟨z,xa,xb,t⟩:=uP s.v hp
 have hl:=s.len
 have h2:=uQ t s.v.inc
 have h3:=bPp s.cm (t.comm s.v) s.v.inc (aBd s.v.inc) s.szm (aGo t s.v s.sz) (by omega)
 refine ⟨t.valid s.v,by simp only; omega,bKr s.sz a b,fun x hx=>s.ids x (List.mem_filter.1 hx).1,s.cm.comp (t.comm s.v) s.v.inc,?_⟩
 have e:20+(j * (F+40)+(14+F))≤(j+1) * (F+40):=by rw [Nat.succ_mul]; omega
 exact ⟨h3.len,h3.bl,fun p hp=>(h3.bb p hp).mono (Nat.pow_le_pow_right (by decide) e),h3.val⟩
theorem ShI.one {F:Nat} {c:List Cl} (hc:MdX c) (hz:SzX F c):ShI F c 0 c (cU c []) :=
 ⟨hc.v,by have:=hc.len; omega,hz,hc.ids,CmT.one hc.v,by rw [Nat.zero_mul]; exact bHy (by have:=hc.len; omega)⟩
theorem ShI.inr {F j:Nat} {c0 c:List Cl} {m:List (Int × Ch)} (s:ShI F c0 j c m) {x:Cl} (hx:x∈c):inr x.id=true:=by
 have:=s.ids x hx
 simp only [Go.Am.inr,decide_eq_true_eq]; omega
theorem ShI.keys {F j:Nat} {c0 c:List Cl} {m:List (Int × Ch)} (s:ShI F c0 j c m):∀ x∈c,Keys x.b:=fun x hx f hf=>by
 obtain ⟨y,hy,e,_⟩:=s.v.face x hx f hf
 rw [← e]; exact s.inr hy
theorem zB {n:Nat} {c:List Cl} {m:List (Int × Ch)} (h:fB c=[]):nP n c m=(c,m):=by
 cases n with
 | zero=>rfl
 | succ n=>simp only [nP,h]
theorem vP {n:Nat} {c:List Cl} {m:List (Int × Ch)} {p:Int × Int} {l:List (Int × Int)} (h:fB c=p::l):nP (n+1) c m=nP n (fV c p.1 p.2) (iY m (cU c (mI c p.1 p.2))):=by
 simp only [nP,h]
theorem aLb {c:List Cl} {p:Int × Int} {l:List (Int × Int)} (h:fB c=p::l):0<c.length:=by
 cases c with
 | nil=>cases h
 | cons x c=>exact Nat.zero_lt_succ _
theorem aQi {F:Nat} {c0:List Cl}:∀ {n j:Nat} {c:List Cl} {m:List (Int × Ch)},ShI F c0 j c m→c.length≤n→∃ k,ShI F c0 k (nP n c m).1 (nP n c m).2∧fB (nP n c m).1=[]
 | 0,j,c,m,s,h=>by
  have:c=[]:=List.eq_nil_of_length_eq_zero (by omega)
  subst this
  exact ⟨j,s,rfl⟩
 | n+1,j,c,m,s,h=>by
  cases e:fB c with
  | nil=>rw [zB e]; exact ⟨j,s,e⟩
  | cons p l =>
   rw [vP e]
   have hp:p∈fB c:=by rw [e]; exact List.mem_cons_self ..
   obtain ⟨z,xa,xb,t⟩:=uP (a:=p.1) (b:=p.2) s.v hp
   have:=uQ t s.v.inc
   exact aQi (s.step hp) (by omega)
end Go.Am
end

section
set_option linter.unusedVariables false
set_option linter.unusedSimpArgs false
open Go Go.Am Go.Proofs
namespace Go.Am
/-! A twin, plain -/
section
variable {c:List Cl} {x:Cl} {N:Int}
end
theorem aLd {α:Type} (f:α→List D) (l:List α):((l.map f).map (List.map AV.d)).flatten=(flt f l).map AV.d:=by
 unfold flt
 rw [List.map_flatten]
theorem cH (m:List (Int × Ch)):aT (aV m)=.d (aV m):=rfl
end Go.Am
end

section
set_option linter.unusedVariables false
set_option linter.unusedSimpArgs false
open List (map_map mapM_map)
open Go Go.Am Go.Proofs
namespace Go.Am
theorem aGg {α:Type} {f:α→List D} {k:Nat} (h:∀ x,(f x).length=k):∀ (l:List α) (i c:Nat) (x y:α) (v:D),l[i]? = some x→c<k→f y=(f x).set c v→(flt f l).set (i * k+c) v=flt f (l.set i y)
 | [],i,c,x,y,v,hx,_,_=>by simp at hx
 | z::l,0,c,x,y,v,hx,hc,hy=>by
  simp at hx; subst hx
  rw [show flt f (z::l)=f z++flt f l from by simp [flt],List.set_cons_zero,show flt f (y::l)=f y++flt f l from by simp [flt],Nat.zero_mul,Nat.zero_add,List.set_append_left _ _ (by rw [h]; exact hc),hy]
 | z::l,i+1,c,x,y,v,hx,hc,hy=>by
  rw [show flt f (z::l)=f z++flt f l from by simp [flt],List.set_cons_succ,show flt f (z::l.set i y)=f z++flt f (l.set i y) from by simp [flt],List.set_append_right _ _ (by rw [h,Nat.add_mul]; omega),h,show (i+1) * k+c - k=i * k+c by rw [Nat.add_mul]; omega,aGg h l i c x y v (by simpa using hx) hc hy]
set_option maxHeartbeats 1000000 in
theorem aZg (n:Int):Spec Tryz.prog 38 [.i .i64 n] (aO [(n,1)]):=by
 refine aX (N:=7) aF Tryz.func38 rfl rfl rfl (by kernel_rfl) (by kernel_rfl) (by simp) ?_
 have hO:=wR 1 (by decide) (by decide)
 simp [-map_map,-mapM_map,↓KW,]
 refine aA (ds:=[.i .i64 1]) (by rfl) hO ?_
 simp [-map_map,-mapM_map,↓KW,aO,bC,bG,aJ,aD,aK]
theorem bAz {c:List Cl} {i:Nat} (h:i<c.length):cU (c.take (i+1)) []=cU (c.take i) []++[(c[i].id,[(c[i].id,1)])]:=aDx h []
set_option maxHeartbeats 2000000 in
set_option maxRecDepth 10000 in
theorem aDb {c:List Cl} (hl:c.length≤1000000):Spec Tryz.prog 42 [aP c] (aV (cU c [])):=by
 refine aX (N:=28) aF Tryz.func42 rfl rfl rfl (by kernel_rfl) (by kernel_rfl) (by simp) ?_
 simp [-map_map,-mapM_map,↓KW,aP]
 refine aU (fun y:Nat × List (Int × Ch)=>y.1≤c.length∧y.2.length=y.1∧cU (c.take y.1) []=y.2) (fun y=>StL [(0,.d (aP c)),(3,.own 1 0 y.2.length 2),(4,.d (.i .i64 (y.1:Int)))] none [.cells 97 ((flt eZ y.2).map .d)]) (fun y=>c.length - y.1) (0,[]) ⟨Nat.zero_le _,rfl,rfl⟩ ?_ ?_
 ·refine bB [1] (by simp) ?_ ?_ <;> simp [-map_map,upd,aT,Γ0,aP,aGh]
 ·rintro ⟨i,out⟩ ⟨hi,hoi,ho⟩
  simp only at hi hoi ho ⊢
  by_cases hgo:i<c.length
  ·have q1:(i:Int)<c.length:=by omega
   have hx:c[i]? = some c[i]:=List.getElem?_eq_getElem hgo
   have hw:IntKind.i64.wrap ((i:Int)+1)=(i:Int)+1:=aS (by omega) (by omega)
   have htk:=bAz hgo
   rw [ho] at htk
   refine (show ∃ x,c[i]=x from ⟨_,rfl⟩).elim fun x hxe=>?_
   rw [hxe] at hx htk
   have hyc:bK x=[D.i .i64 x.id,.i .i64 x.dim,aO x.b]:=rfl
   have hO:=aZg x.id
   have hcl:=cE cB out
   have hal:=fI lX out
   have hbb:=xE (n:=out.length) (by omega)
   simp [-map_map,-mapM_map,↓KW,aP,q1,hx,hyc,aE,aB,aC]
   refine aA (ds:=[.i .i64 x.id]) (by rfl) hO ?_
   simp [-map_map,-mapM_map,↓KW,aP,q1,hx,hyc,hw,hcl,hal,hbb,aZ,aE,aB,aC,aR,bI]
   refine aI (τ:=Nat × List (Int × Ch)) (i+1,out++[(x.id,[(x.id,1)])]) ⟨hgo,by rw [List.length_append,hoi]; rfl,htk⟩ (Nat.sub_lt_sub_left hgo (Nat.lt_succ_self _)) ?_
   simp only [List.length_append,List.length_singleton,fS,dC,eP]
   refine bB [3] (by simp) ?_ ?_ <;> simp [-map_map,upd,aT,Γ0,aP]
  ·have q1:¬ (i:Int)<c.length:=by omega
   rw [List.take_of_length_le (by omega)] at ho
   have e1:=fR cB (rfl:out.length=out.length)
   have e2:=eW (by decide) cB (rfl:out.length=out.length)
   have e3:=cE cB out
   simp [-map_map,-mapM_map,↓KW,aP,q1,e1,e2,e3,ho,aV]
def mQ (m:List (Int × Ch)) (n:Int) (x:Ch):List (Int × Ch):=m.map fun p=>if p.1=n then (p.1,x) else p
def fW (x:Ch) (n:Int):Int:=((x.find? fun f=>decide (f.1=n)).map (·.2)).getD 0
theorem aOo {x:Ch} {i:Nat} (h:i<x.length) (n:Int):fW (x.drop i) n=if x[i].1=n then x[i].2 else fW (x.drop (i+1)) n:=by
 unfold fW
 rw [List.drop_eq_getElem_cons h,List.find?_cons]
 by_cases e:x[i].1=n <;> simp [e]
set_option maxHeartbeats 2000000 in
set_option maxRecDepth 10000 in
theorem xX {x:Ch} (n:Int) (hl:x.length≤1000000):Spec Tryz.prog 89 [aO x,.i .i64 n] (encZ (fW x n)):=by
 refine aX (N:=25) aF Tryz.func89 rfl rfl rfl (by kernel_rfl) (by kernel_rfl) (by simp) ?_
 simp [-map_map,-mapM_map,↓KW,aO]
 refine aU (fun i:Nat=>i≤x.length∧fW (x.drop i) n=fW x n) (fun i=>StL [(0,.d (aO x)),(1,.d (.i .i64 n)),(4,.ptr 1 0),(5,.d (.i .i64 (i:Int)))] none [.cells 69 [.d (.b false),.nil]]) (fun i=>x.length - i) 0 ⟨Nat.zero_le _,rfl⟩ ?_ ?_
 ·refine bB [1] (by simp) ?_ ?_ <;> simp [-map_map,upd,aT,Γ0,aO]
 ·rintro i ⟨hi,hd⟩
  by_cases hgo:i<x.length
  ·have q1:(i:Int)<x.length:=by omega
   have hf:x[i]? = some x[i]:=List.getElem?_eq_getElem hgo
   have hw:IntKind.i64.wrap ((i:Int)+1)=(i:Int)+1:=aS (by omega) (by omega)
   rw [aOo hgo] at hd
   refine (show ∃ f,x[i]=f from ⟨_,rfl⟩).elim fun f hfe=>?_
   rw [hfe] at hf hd
   have hef:fD f=[.i .i64 f.1,.b (decide (f.2<0)),aG (aW f.2.natAbs)]:=rfl
   by_cases h0:f.1=n
   ·rw [if_pos h0] at hd
    have q3:(((n:Int) == (n:Int)):Bool)=true:=by simp
    simp [-map_map,-mapM_map,↓KW,aO,q1,hf,hef,h0,q3,bG,← hd,aJ,aD,aK]
   ·rw [if_neg h0] at hd
    have h0':((f.1 == n):Bool)=false:=by simpa using h0
    simp [-map_map,-mapM_map,↓KW,aO,q1,hf,hef,h0,h0',hw,aJ,aD,aK]
    refine aI (i+1) ⟨hgo,hd⟩ (Nat.sub_lt_sub_left hgo (Nat.lt_succ_self _)) (bB [1] (by simp) ?_ ?_) <;> simp [-map_map,upd,aT,Γ0,aO]
  ·have q1:¬ (i:Int)<x.length:=by omega
   have h0:fW x n=0:=by rw [← hd,List.drop_of_length_le (by omega)]; rfl
   have h1:aG (aW 0)=.sl []:=by rw [cK]; rfl
   simp [-map_map,-mapM_map,↓KW,aO,q1,h0,bG,h1]
theorem bDb {α:Type} {f:α→List D} {k:Nat} (h:∀ x,(f x).length=k):∀ (l:List α) (j c:Nat) (x:α),l[j]? = some x→c<k→(flt f l)[j * k+c]? = (f x)[c]?
 | [],j,c,x,hx,_=>by simp at hx
 | y::l,0,c,x,hx,hc=>by
  simp at hx; subst hx
  rw [Nat.zero_mul,Nat.zero_add,show flt f (y::l)=f y++flt f l from by simp [flt],List.getElem?_append_left (by rw [h]; exact hc)]
 | y::l,j+1,c,x,hx,hc=>by
  rw [show flt f (y::l)=f y++flt f l from by simp [flt],List.getElem?_append_right (by rw [h,Nat.add_mul]; omega),h,show (j+1) * k+c - k=j * k+c by rw [Nat.add_mul]; omega]
  exact bDb h l j c x (by simpa using hx) hc
def xF (m:List (Int × Ch)) (n:Int) (x:Ch) (i:Nat):List (Int × Ch):=mQ (m.take i) n x++m.drop i
set_option maxHeartbeats 2000000 in
set_option maxRecDepth 10000 in
theorem aQl {m:List (Int × Ch)} (n:Int) (x:Ch) (hl:m.length≤1000000):Spec Tryz.prog 41 [aV m,.i .i64 n,aO x] (aV (mQ m n x)):=by
 refine aX (N:=31) aF Tryz.func41 rfl rfl rfl (by kernel_rfl) (by kernel_rfl) (by simp) ?_
 have hbb:m.length * 32≤140737488355328∧m.length≤maxLen:=⟨by omega,aZ (by omega)⟩
 have hal:=eq_true (fun (a:D) (ha:a∈flt eZ m)=>List.all_eq_true.1 (fI lX m) (.d a) (List.mem_map.2 ⟨a,ha,rfl⟩))
 have hff:=aLd eZ m
 have hcl:=cE cB m
 have hok:eY 2 (m.map eZ)=true:=by cases m <;> simp [eY,cB]
 simp [-map_map,-mapM_map,↓KW,aV,hbb,aPg,hff,hok,hal]
 refine aU (fun i:Nat=>i≤m.length) (fun i=>StL [(0,.d (aV m)),(1,.d (.i .i64 n)),(2,.d (aO x)),(7,.own 1 0 m.length 2),(8,.d (.i .i64 (i:Int)))] none [.cells 97 ((flt eZ (xF m n x i)).map .d)]) (fun i=>m.length - i) 0 (Nat.zero_le _) ?_ ?_
 ·have e0:xF m n x 0=m:=rfl
  rw [e0]
  refine bB [2] (by simp) ?_ ?_ <;> simp [-map_map,upd,aT,Γ0,aV,aO]
 ·intro i hi
  have hwl:(xF m n x i).length=m.length:=by unfold xF mQ; rw [List.length_append,List.length_map,List.length_take,List.length_drop]; omega
  by_cases hgo:i<m.length
  ·have q1:(i:Int)<m.length:=by omega
   have hw:IntKind.i64.wrap ((i:Int)+1)=(i:Int)+1:=aS (by omega) (by omega)
   have hx:(xF m n x i)[i]? = some m[i]:=by
    unfold xF
    rw [List.getElem?_append_right (by unfold mQ; rw [List.length_map,List.length_take]; omega)]
    simp [mQ,List.length_take,Nat.min_eq_left hi,hgo]
   have hnx:xF m n x (i+1)=(xF m n x i).set i (if m[i].1=n then (m[i].1,x) else m[i]):=by
    unfold xF mQ
    rw [List.take_add_one,List.getElem?_eq_getElem hgo,List.map_append,List.set_append_right _ _ (by rw [List.length_map,List.length_take]; omega),List.drop_eq_getElem_cons hgo,List.length_map,List.length_take,Nat.min_eq_left hi,Nat.sub_self,List.set_cons_zero]
    simp
   refine (show ∃ p,m[i]=p from ⟨_,rfl⟩).elim fun p hpe=>?_
   rw [hpe] at hx hnx
   refine (show ∃ L,xF m n x i=L from ⟨_,rfl⟩).elim fun L hLe=>?_
   rw [hLe] at hx hnx hwl
   simp only [hLe,hnx]
   have c0:(flt eZ L)[i * 2]? = some (.i .i64 p.1):=bDb cB L i 0 p hx (by decide)
   have hcl:=cE cB L
   rw [hwl] at hcl
   by_cases h0:p.1=n
   ·have q3:(((n:Int) == (n:Int)):Bool)=true:=by simp
    rw [if_pos h0] at hnx
    have hst:lay ((flt eZ L).map AV.d) (i * 2+1) [.d (aO x)]=(flt eZ (L.set i (p.1,x))).map .d:=by
     rw [oX _ _ _ (by omega),aGg cB L i 1 p (p.1,x) _ hx (by decide) rfl]
    have hli:i * 2+1+1≤m.length * 2:=by omega
    rw [h0] at hst
    simp [-map_map,-mapM_map,↓KW,aV,aC,aE,aB,q1,hw,h0,q3,c0,hcl,hst,hli]
    refine aI (i+1) hgo (Nat.sub_lt_sub_left hgo (Nat.lt_succ_self _)) ?_
    rw [hnx]
    refine bB [1] (by simp) ?_ ?_ <;> simp [-map_map,upd,aT,Γ0,aV,aO,h0]
   ·have h0':((p.1 == n):Bool)=false:=by simpa using h0
    have hset:L.set i p=L:=by
     obtain ⟨h1,h2⟩:=List.getElem?_eq_some_iff.1 hx
     rw [← h2]; exact List.set_getElem_self h1
    rw [if_neg h0,hset] at hnx
    simp [-map_map,-mapM_map,↓KW,aV,aC,q1,hw,h0,h0',c0,hcl]
    refine aI (i+1) hgo (Nat.sub_lt_sub_left hgo (Nat.lt_succ_self _)) ?_
    rw [hnx]
    refine bB [1] (by simp) ?_ ?_ <;> simp [-map_map,upd,aT,Γ0,aV,aO]
  ·have q1:¬ (i:Int)<m.length:=by omega
   have hfin:xF m n x i=mQ m n x:=by unfold xF; rw [List.take_of_length_le (by omega),List.drop_of_length_le (by omega),List.append_nil]
   rw [hfin] at hwl ⊢
   have e1:=fR cB hwl
   have e2:=eW (by decide) cB hwl
   have e3:=cE cB (mQ m n x)
   rw [hwl] at e3
   simp [-map_map,-mapM_map,↓KW,aV,q1,e1,e2,e3]
/-! Cells struck -/
set_option maxHeartbeats 2000000 in
set_option maxRecDepth 10000 in
theorem aNd {c:List Cl} (a b:Int) (hl:c.length≤1000000):Spec Tryz.prog 39 [aP c,.ag [.i .i64 a,.i .i64 b]] (aP (fV c a b)):=by
 refine aX (N:=40) aF Tryz.func39 rfl rfl rfl (by kernel_rfl) (by kernel_rfl) (by simp) ?_
 simp [-map_map,-mapM_map,↓KW,aP]
 refine aU (fun y:Nat × List Cl=>y.1≤c.length∧fV (c.take y.1) a b=y.2) (fun y=>StL [(0,.d (aP c)),(3,.ptr 1 0),(5,.own 2 0 y.2.length 3),(6,.d (.i .i64 (y.1:Int)))] none [.cells 59 [.d (.i .i64 a),.d (.i .i64 b)],.cells 47 ((flt bK y.2).map .d)]) (fun y=>c.length - y.1) (0,[]) ⟨Nat.zero_le _,rfl⟩ ?_ ?_
 ·refine bB [1,2] (by simp) ?_ ?_ <;> simp [-map_map,upd,aT,Γ0,aP,aGh]
 ·rintro ⟨i,out⟩ ⟨hi,ho⟩
  simp only at hi ho ⊢
  by_cases hgo:i<c.length
  ·have q1:(i:Int)<c.length:=by omega
   have hx:c[i]? = some c[i]:=List.getElem?_eq_getElem hgo
   have hw:IntKind.i64.wrap ((i:Int)+1)=(i:Int)+1:=aS (by omega) (by omega)
   have htk:=wG hgo a b
   rw [ho] at htk
   have hln:out.length≤i:=by rw [← ho]; exact Nat.le_trans (uR _ _ _) (by rw [List.length_take]; omega)
   refine (show ∃ y,c[i]=y from ⟨_,rfl⟩).elim fun y hye=>?_
   rw [hye] at hx htk
   have hyc:bK y=[D.i .i64 y.id,.i .i64 y.dim,aO y.b]:=rfl
   have hm1:(1:Nat)≤maxLen:=aZ (by decide)
   by_cases h0:y.id=a
   ·have h0':((y.id != a):Bool)=false:=by simpa using h0
    have hkp:iE a b y=false:=by unfold iE; simp [h0]
    rw [hkp] at htk
    simp only [Bool.false_eq_true,if_false,List.append_nil] at htk
    have q3:(((a:Int) != (a:Int)):Bool)=false:=by simp
    simp [-map_map,-mapM_map,↓KW,aP,q1,hx,hyc,h0,h0',q3,hw,aE,aB,aC]
    refine aI (τ:=Nat × List Cl) (i+1,out) ⟨hgo,htk⟩ (Nat.sub_lt_sub_left hgo (Nat.lt_succ_self _)) (bB [1,2] (by simp) ?_ ?_) <;> simp [-map_map,upd,aT,Γ0,aP]
   ·have h0':((y.id != a):Bool)=true:=by simpa using h0
    by_cases h1:y.id=b
    ·have h1':((y.id != b):Bool)=false:=by simpa using h1
     have hkp:iE a b y=false:=by unfold iE; simp [h1]
     rw [hkp] at htk
     simp only [Bool.false_eq_true,if_false,List.append_nil] at htk
     have q3:(((b:Int) != (b:Int)):Bool)=false:=by simp
     rw [h1] at h0'
     simp [-map_map,-mapM_map,↓KW,aP,q1,hx,hyc,h1,h0',q3,hw,aE,aB,aC]
     refine aI (τ:=Nat × List Cl) (i+1,out) ⟨hgo,htk⟩ (Nat.sub_lt_sub_left hgo (Nat.lt_succ_self _)) (bB [1,2] (by simp) ?_ ?_) <;> simp [-map_map,upd,aT,Γ0,aP]
    ·have h1':((y.id != b):Bool)=true:=by simpa using h1
     have hkp:iE a b y=true:=by unfold iE; simp [h0,h1]
     rw [hkp,if_pos rfl] at htk
     have hbb:=cT (n:=out.length) (by omega)
     have hcl:=cE dN out
     have hal:=fI wC out
     simp [-map_map,-mapM_map,↓KW,aP,q1,hx,hyc,h0,h0',h1,h1',hw,hm1,hbb,hcl,hal,aZ,aE,aB,aC]
     refine aI (τ:=Nat × List Cl) (i+1,out++[y]) ⟨hgo,htk⟩ (Nat.sub_lt_sub_left hgo (Nat.lt_succ_self _)) ?_
     simp only [List.length_append,List.length_singleton,fS,dC,eH]
     refine bB [1,4] (by simp) ?_ ?_ <;> simp [-map_map,upd,aT,Γ0,aP]
  ·have q1:¬ (i:Int)<c.length:=by omega
   rw [List.take_of_length_le (by omega)] at ho
   have e1:=fR dN (rfl:out.length=out.length)
   have e2:=eW (by decide) dN (rfl:out.length=out.length)
   have e3:=cE dN out
   simp [-map_map,-mapM_map,↓KW,aP,q1,e1,e2,e3,ho]
end Go.Am
end

section
set_option linter.unusedVariables false
set_option linter.unusedSimpArgs false
open List (map_map mapM_map)
open Go Go.Am Go.Proofs
namespace Go.Am
theorem wB (x:Int × Int):(fD x).length=3:=rfl
theorem aEh (x:Int × Int):((fD x).map AV.d).all one=true:=rfl
set_option maxHeartbeats 4000000 in
theorem bKs {l:Ch} (h0:l≠[]) (hl:l.length≤1000000):Spec Tryz.prog 67 [aO l] (aO l):=by
 refine aX (N:=8) aF Tryz.func67 rfl rfl rfl (by kernel_rfl) (by kernel_rfl) (by simp) ?_
 obtain ⟨x,r,rfl⟩:=List.exists_cons_of_ne_nil h0
 obtain ⟨a,t,hE,hcond,hval,hlen⟩:∃ a t,aO (x::r)=.sl (a::t)∧(a.length=3∧(∀ x,x∈a→one (AV.d x)=true)∧∀ x,x∈t→∀ y,y∈x→one (AV.d y)=true)∧List.map AV.d a++(t.map (List.map AV.d)).flatten=(flt fD (x::r)).map .d∧t.length+1=(x::r).length:=by
  have h1:∀ x:Int × Int,∀ y∈fD x,one (AV.d y)=true:=fun x y hy=>by
   have:=List.all_eq_true.1 (aEh x) (.d y) (List.mem_map.2 ⟨y,hy,rfl⟩)
   exact this
  refine ⟨fD x,r.map fD,rfl,⟨rfl,h1 x,fun z hz y hy=>?_⟩,?_,by simp⟩
  ·obtain ⟨w,_,rfl⟩:=List.mem_map.1 hz
   exact h1 w y hy
  ·simp [flt,List.map_flatten]
 have hall:∀ y,y∈flt fD (x::r)→one (AV.d y)=true:=fun y hy=>List.all_eq_true.1 (fI aEh (x::r)) (.d y) (List.mem_map.2 ⟨y,hy,rfl⟩)
 have e1:=cE wB (x::r)
 have e2:((flt fD (x::r)).map AV.d).take ((x::r).length * 3)=(flt fD (x::r)).map AV.d:=fR wB rfl
 have e3:chunk 3 (x::r).length (flt fD (x::r))=(x::r).map fD:=eW (by decide) wB rfl
 generalize hL:x::r=l at *
 have hall':=eq_true hall
 have hbb:l.length * 40≤140737488355328∧l.length≤maxLen:=⟨by omega,aZ (by omega)⟩
 rw [hE]
 simp [-map_map,-mapM_map,↓KW,hcond,hval,hlen,hbb,aPg,hall']
 rw [e2]
 exact ⟨Nat.le_of_eq e1.symm,_,oW _ 6 _,e3.trans (by injection hE)⟩
set_option maxHeartbeats 4000000 in
theorem bKt:Spec Tryz.prog 67 [aO []] (aO []):=by
 refine aX (N:=8) aF Tryz.func67 rfl rfl rfl (by kernel_rfl) (by kernel_rfl) (by simp) ?_
 simp [-map_map,-mapM_map,↓KW,aO]
end Go.Am
end

section
set_option linter.unusedVariables false
set_option linter.unusedSimpArgs false
open Go Go.Am Go.Proofs
namespace Go.Am
theorem aQh (n:Int):((n.sign != 0):Bool)=!decide (n=0):=by
 by_cases h:n=0
 ·subst h; rfl
 ·have:n.sign≠0:=fun e=>h (Int.sign_eq_zero_iff_zero.1 e)
  simp [this,h]
end Go.Am
end

section
set_option linter.unusedVariables false
set_option linter.unusedSimpArgs false
open List (map_map mapM_map)
open Go Go.Am Go.Proofs
namespace Go.Am
def wZ (r:List Cl × List (Int × Ch) × Int):D:=.ag [aP r.1,aV r.2.1,.i .i64 r.2.2]
theorem aKi (c:List Cl) (g:List (Int × Ch)):(cU c g).length=c.length:=by unfold cU; rw [List.length_map]
theorem eG (c:List Cl):inj (aP c)=.d (aP c):=rfl
theorem dG (H:Nat→Option HO) (avs:List AV) (c:List Cl):bV H avs (aP c)=gH H avs:=rfl
theorem cX (c:List Cl):one (AV.d (aP c))=true:=rfl
theorem cS (c:List (Int × Ch)):one (AV.d (aV c))=true:=rfl
theorem bS (c:List Cl):eK (AV.d (aP c))=some [AV.d (aP c)]:=rfl
theorem bT (c:List (Int × Ch)):eK (AV.d (aV c))=some [AV.d (aV c)]:=rfl
theorem cJ (c:List Cl):aT (aP c)=.d (aP c):=rfl
set_option maxHeartbeats 2000000 in
set_option maxRecDepth 10000 in
theorem aNe {a b:List (Int × Ch)} (ha:∀ x∈a,∀ f∈x.2,Sz f.2) (hb:∀ x∈b,∀ f∈x.2,Sz f.2) (hla:∀ x∈a,x.2.length≤1073741824) (hlb:∀ x∈b,x.2.length≤1073741824) (hl:a.length≤1073741824) (hl2:b.length≤1073741824):Spec Tryz.prog 49 [aV a,aV b] (.b (decide (a=b))):=by
 refine aX (N:=42) aF Tryz.func49 rfl rfl rfl (by kernel_rfl) (by kernel_rfl) (by simp) ?_
 by_cases hn:a.length=b.length
 rotate_left
 ·have h1:((a.length:Int) != b.length)=true:=by simp; omega
  have h2:¬ a=b:=fun e=>hn (by rw [e])
  simp [-map_map,-mapM_map,↓KW,aV,h1,h2]
 ·have h1:((a.length:Int) != b.length)=false:=by simp; omega
  simp [-map_map,-mapM_map,↓KW,aV,h1]
  refine aU (fun i:Nat=>i≤a.length∧a.take i=b.take i) (fun i=>StL [(0,.d (aV a)),(1,.d (aV b)),(5,.d (.i .i64 i))] none []) (fun i=>a.length - i) 0 ⟨Nat.zero_le _,by simp⟩ ?_ ?_
  ·refine bB [] (by simp) ?_ ?_ <;> simp [-map_map,upd,aT,Γ0,aV]
  ·rintro i ⟨hi,ht⟩
   by_cases hgo:i<a.length
   ·have hgb:i<b.length:=by omega
    have q1:(i:Int)<a.length:=by omega
    have hw7:IntKind.i64.wrap ((i:Int)+1)=(i:Int)+1:=aS (by omega) (by omega)
    have g1:a[i]? = some a[i]:=List.getElem?_eq_getElem hgo
    have g2:b[i]? = some b[i]:=List.getElem?_eq_getElem hgb
    have hsx:=ha _ (List.getElem_mem hgo)
    have hsy:=hb _ (List.getElem_mem hgb)
    have hlx:=hla _ (List.getElem_mem hgo)
    have hly:=hlb _ (List.getElem_mem hgb)
    have hne:a[i]≠b[i]→¬ a=b:=fun h e=>h (by subst e; rfl)
    have hta:a[i]=b[i]→a.take (i+1)=b.take (i+1):=fun e=>by rw [List.take_add_one,List.take_add_one,ht,g1,g2,e]
    generalize a[i]=x at *
    generalize b[i]=y at *
    obtain ⟨xi,xb⟩:=x
    obtain ⟨yi,yb⟩:=y
    simp only at hsx hsy hlx hly
    by_cases h2:xi=yi
    ·have h3:(xi != yi)=false:=by simpa using h2
     simp [-map_map,-mapM_map,↓KW,aV,q1,g1,g2,h3,eZ,aE,aB,aC]
     refine aA (ds:=[aO xb,aO yb]) (by rfl) (oO xb yb hsx hsy hlx hly) ?_
     by_cases h4:xb=yb
     ·have h5:=hta (by rw [h2,h4])
      simp [-map_map,-mapM_map,↓KW,h4,hw7]
      refine aI (i+1) ⟨hgo,h5⟩ (Nat.sub_lt_sub_left hgo (Nat.lt_succ_self i)) (bB [] (by simp) ?_ ?_) <;> simp [-map_map,upd,aT,Γ0,aV]
     ·have h5:=hne (fun e=>h4 (by injection e))
      simp [-map_map,-mapM_map,↓KW,h4,h5]
    ·have h3:(xi != yi)=true:=by simpa using h2
     have h5:=hne (fun e=>h2 (by injection e))
     simp [-map_map,-mapM_map,↓KW,aV,q1,g1,g2,h3,h5,eZ,aE,aB,aC]
   ·have q1:¬ (i:Int)<a.length:=by omega
    have e:a=b:=by rwa [List.take_of_length_le (by omega),List.take_of_length_le (by omega)] at ht
    subst e
    simp [-map_map,-mapM_map,↓KW,aV,q1]
structure bQj (c:List Cl) (m:List (Int × Ch)):Prop where
 cs:∀ x∈c,∀ f∈x.b,Sz f.2
 cl:∀ x∈c,x.b.length≤1073741824
 cn:c.length≤1073741824
 ms:∀ x∈m,∀ f∈x.2,Sz f.2
 ml:∀ x∈m,x.2.length≤1073741824
 mn:m.length≤1073741824
set_option maxHeartbeats 1000000 in
theorem bQu {r:List Cl × List (Int × Ch) × Int} {c:List Cl} {m:List (Int × Ch)} (hr:bQj r.1 r.2.1) (hc:bQj c m):Spec Tryz.prog 13 [wZ r,aP c,aV m] (.b (decide (r.1=c) && decide (r.2.1=m))):=by
 refine aX (N:=17) aF Tryz.func13 rfl rfl rfl (by kernel_rfl) (by kernel_rfl) (by simp) ?_
 have hS:=bHn hr.cs hc.cs hr.cl hc.cl hr.cn hc.cn
 have hM:=aNe hr.ms hc.ms hr.ml hc.ml hr.mn hc.mn
 obtain ⟨r1,r2,r3⟩:=r
 simp only at hS hM ⊢
 have he:wZ (r1,r2,r3)=.ag [aP r1,aV r2,.i .i64 r3]:=rfl
 rw [he]
 simp [-map_map,-mapM_map,↓KW,cX,cS,bS,bT,cJ,cH]
 refine aA (ds:=[aP r1,aP c]) (by rfl) hS ?_
 by_cases h:r1=c
 ·rw [decide_eq_true h]
  simp [-map_map,-mapM_map,↓KW,cX,cS,bS,bT,cJ,cH,h]
  refine aA (ds:=[aV r2,aV m]) (by rfl) hM ?_
  simp [-map_map,-mapM_map,↓KW,h]
 ·rw [decide_eq_false h]
  simp [-map_map,-mapM_map,↓KW,cX,cS,bS,bT,cJ,cH,h]
end Go.Am
end

section
set_option linter.unusedVariables false
set_option linter.unusedSimpArgs false
open Go Go.Am Go.Proofs
namespace Go.Am
theorem aLk {l:Ch} (h:Val l) (n:Int):fW l n=cf n l:=by
 induction l with
 | nil=>rfl
 | cons f l ih =>
  obtain ⟨h1,h2,_⟩:=h.tail
  unfold fW
  rw [List.find?_cons]
  simp only [cf]
  by_cases e:f.1=n
  ·have h0:cf n l=0:=by
    rw [gY h1,← gY h1]
    have:∀ (l:Ch),(∀ x∈l,x.1≠n)→cf n l=0:=by
     intro l
     induction l with
     | nil=>intro _; rfl
     | cons x l ih=>intro hh; simp only [cf]; rw [if_neg (fun e=>hh x (List.mem_cons_self ..) e.symm),ih fun y hy=>hh y (List.mem_cons_of_mem _ hy)]; rfl
    refine this l fun x hx=>?_
    have:=(List.pairwise_cons.1 h.1).1 x hx
    omega
   simp [e,h0]
  ·have e':¬ n=f.1:=fun x=>e x.symm
   rw [if_neg e']
   simp only [e,decide_false,Bool.false_eq_true,if_false,Int.zero_add]
   exact ih h1
end Go.Am
end

section
set_option linter.unusedVariables false
set_option linter.unusedSimpArgs false
open List (map_map mapM_map)
open Go Go.Am Go.Proofs
namespace Go.Am
theorem bHr (x:Int) (hx:(aW x.natAbs).length≤549755813888):Spec Tryz.prog 128 [encZ x] (encZ (x.natAbs:Int)):=by
 refine aX (N:=6) aF Tryz.func128 rfl rfl rfl (by kernel_rfl) (by kernel_rfl) (by simp) ?_
 have la:=cC x.natAbs
 have va:=cR x.natAbs
 have ex:encZ x=.ag [.b (decide (x<0)),aG (aW x.natAbs)]:=rfl
 have hm:=fN (aW x.natAbs) false (by omega)
 rw [dV la,va] at hm
 have e:sg false x.natAbs=(x.natAbs:Int):=by unfold sg; simp
 rw [e] at hm
 rw [ex]
 generalize aW x.natAbs=a at *
 generalize decide (x<0)=nx at *
 simp [-map_map,-mapM_map,↓KW,aG]
 refine aA (ds:=[aG a,.b false]) (by rfl) hm ?_
 simp [-map_map,-mapM_map,↓KW,aG,encZ,encI]
/-! Free pairs, the reference's way -/
def usR (c:List Cl) (n:Int):Nat:=c.countP fun y=>decide (fW y.b n≠0)
def oC (c:List Cl) (a b:Int):Bool:=decide (usR c a=0) && decide (usR c b=1) && decide ((fW (bOf c a) b).natAbs=1)
theorem aHv {c:List Cl} {i:Nat} (h:i<c.length) (n:Int):usR (c.take (i+1)) n=usR (c.take i) n+if fW c[i].b n≠0 then 1 else 0:=by
 unfold usR
 rw [List.take_add_one,List.getElem?_eq_getElem h,List.countP_append]
 congr 1
 by_cases e:fW c[i].b n=0 <;> simp [e]
theorem bMz (c:List Cl) (n:Int) (i:Nat):usR (c.take i) n≤i:=by
 unfold usR
 exact Nat.le_trans (List.countP_le_length ..) (by rw [List.length_take]; omega)
theorem bMy {c:List Cl} {i:Nat} (h:i<c.length) {n:Int} (hn:fW c[i].b n≠0):usR c n≠0:=by
 unfold usR
 rw [Nat.ne_zero_iff_zero_lt,List.countP_pos_iff]
 exact ⟨c[i],List.getElem_mem h,by simpa using hn⟩
theorem aOq {l:Ch} {M:Nat} (h:Bnd M l) (n:Int):(fW l n).natAbs≤M:=by
 unfold fW
 cases e:l.find? fun f=>decide (f.1=n) with
 | none=>exact Nat.zero_le _
 | some f=>exact h f (List.mem_of_find?_eq_some e)
set_option maxHeartbeats 2000000 in
set_option maxRecDepth 10000 in
theorem aDc {c:List Cl} {F:Nat} (a b:Int) (hz:SzX F c) (hF:F+4<4398046511104):Spec Tryz.prog 98 [aP c,.i .i64 a,.i .i64 b] (.b (oC c a b)):=by
 have hlen:=hz.len
 have hFa:=mW c a (by omega)
 have hr:∃ p x,(cF c a).isSome=p∧(cF c a).getD xJ=x:=⟨_,_,rfl,rfl⟩
 obtain ⟨p,x,hp,hx⟩:=hr
 have hba:bOf c a=x.b:=by unfold bOf; rw [hx]
 have hxl:x.b.length≤100:=by rw [← hba]; exact yJ hz.bl a
 have hxb:Bnd (2 ^ F) x.b:=by rw [← hba]; exact yK hz.bb a
 unfold vX at hFa
 rw [hp,hx] at hFa
 refine aX (N:=54) aF Tryz.func98 rfl rfl rfl (by kernel_rfl) (by kernel_rfl) (by simp) ?_
 simp [-map_map,-mapM_map,↓KW,aP]
 refine aA (ds:=[aP c,.i .i64 a]) (by rfl) hFa ?_
 simp [-map_map,-mapM_map,↓KW,aP,eH,aE,aB,aC]
 refine aU (fun i:Nat=>i≤c.length∧usR (c.take i) a=0) (fun i=>StL [(0,.d (aP c)),(1,.d (.i .i64 a)),(2,.d (.i .i64 b)),(7,.ptr 1 0),(9,.d (.i .i64 (usR (c.take i) b:Nat))),(10,.d (.i .i64 (i:Int)))] none [.cells 47 [.d (.i .i64 x.id),.d (.i .i64 x.dim),.d (aO x.b)]]) (fun i=>c.length - i) 0 ⟨Nat.zero_le _,rfl⟩ ?_ ?_
 ·refine bB [1] (by simp) ?_ ?_ <;> simp [-map_map,upd,aT,Γ0,aP,aO,usR]
 ·rintro i ⟨hi,ha0⟩
  by_cases hgo:i<c.length
  ·have q1:(i:Int)<c.length:=by omega
   have hy:c[i]? = some c[i]:=List.getElem?_eq_getElem hgo
   have hw:IntKind.i64.wrap ((i:Int)+1)=(i:Int)+1:=aS (by omega) (by omega)
   have ht1:=aHv hgo a
   have ht2:=aHv hgo b
   have hul:=bMz c b i
   have hne:=@bMy c i hgo a
   have hyl:=hz.bl _ (List.getElem_mem hgo)
   have hyb:=hz.bb _ (List.getElem_mem hgo)
   refine (show ∃ y,c[i]=y from ⟨_,rfl⟩).elim fun y hye=>?_
   rw [hye] at hy ht1 ht2 hne hyl hyb
   refine (show ∃ u,usR (c.take i) b=u from ⟨_,rfl⟩).elim fun u hue=>?_
   rw [hue] at ht2 hul
   simp only [hue]
   have hyc:bK y=[D.i .i64 y.id,.i .i64 y.dim,aO y.b]:=rfl
   have hC1:=xX (x:=y.b) b (by omega)
   have hC2:=xX (x:=y.b) a (by omega)
   have hS1:=eN (fW y.b b)
   have hS2:=eN (fW y.b a)
   have hn1:=aQh (fW y.b b)
   have hn2:=aQh (fW y.b a)
   refine (show ∃ k,fW y.b b=k from ⟨_,rfl⟩).elim fun k hke=>?_
   rw [hke] at hC1 hS1 hn1 ht2
   refine (show ∃ k,fW y.b a=k from ⟨_,rfl⟩).elim fun k2 hke2=>?_
   rw [hke2] at hC2 hS2 hn2 ht1 hne
   have hwu:IntKind.i64.wrap ((u:Int)+1)=((u+1:Nat):Int):=by rw [aS (by omega) (by omega)]; omega
   simp [-map_map,-mapM_map,↓KW,aP,q1,hy,hyc,aE,aB,aC]
   refine aA (ds:=[aO y.b,.i .i64 b]) (by rfl) hC1 ?_
   simp [-map_map,-mapM_map,↓KW,aP,bG,q1,hy,hyc,aE,aB,aC,aJ,aD,aK]
   refine aA (ds:=[encZ k]) (by rfl) hS1 ?_
   by_cases h1:k=0
   ·have h1':((k.sign != 0):Bool)=false:=by rw [hn1,h1]; rfl
    have hub:usR (c.take (i+1)) b=u:=by rw [ht2,h1]; simp
    simp [-map_map,-mapM_map,↓KW,aP,bG,q1,hy,hyc,h1',hwu,aE,aB,aC,aJ,aD,aK]
    refine aA (ds:=[aO y.b,.i .i64 a]) (by rfl) hC2 ?_
    simp [-map_map,-mapM_map,↓KW,aP,bG,q1,hy,hyc,h1',aE,aB,aC,aJ,aD,aK]
    refine aA (ds:=[encZ k2]) (by rfl) hS2 ?_
    by_cases h2:k2=0
    ·have h2':((k2.sign != 0):Bool)=false:=by rw [hn2,h2]; rfl
     have hua:usR (c.take (i+1)) a=0:=by rw [ht1,h2,ha0]; simp
     simp [-map_map,-mapM_map,↓KW,aP,hw,h2']
     refine aI (i+1) ⟨hgo,hua⟩ (Nat.sub_lt_sub_left hgo (Nat.lt_succ_self _)) ?_
     rw [hub]
     refine bB [1] (by simp) ?_ ?_ <;> simp [-map_map,upd,aT,Γ0,aP,aO]
    ·have h2':((k2.sign != 0):Bool)=true:=by rw [hn2]; simpa using h2
     have hfa:oC c a b=false:=by unfold oC; rw [decide_eq_false (hne h2)]; rfl
     simp [-map_map,-mapM_map,↓KW,aP,h2',hfa]
   ·have h1':((k.sign != 0):Bool)=true:=by rw [hn1]; simpa using h1
    have hub:usR (c.take (i+1)) b=u+1:=by rw [ht2]; simp [h1]
    simp [-map_map,-mapM_map,↓KW,aP,bG,q1,hy,hyc,h1',hwu,aE,aB,aC,aJ,aD,aK]
    refine aA (ds:=[aO y.b,.i .i64 a]) (by rfl) hC2 ?_
    simp [-map_map,-mapM_map,↓KW,aP,bG,q1,hy,hyc,h1',aE,aB,aC,aJ,aD,aK]
    refine aA (ds:=[encZ k2]) (by rfl) hS2 ?_
    by_cases h2:k2=0
    ·have h2':((k2.sign != 0):Bool)=false:=by rw [hn2,h2]; rfl
     have hua:usR (c.take (i+1)) a=0:=by rw [ht1,h2,ha0]; simp
     simp [-map_map,-mapM_map,↓KW,aP,hw,h2']
     refine aI (i+1) ⟨hgo,hua⟩ (Nat.sub_lt_sub_left hgo (Nat.lt_succ_self _)) ?_
     rw [hub]
     refine bB [1] (by simp) ?_ ?_ <;> simp [-map_map,upd,aT,Γ0,aP,aO]
    ·have h2':((k2.sign != 0):Bool)=true:=by rw [hn2]; simpa using h2
     have hfa:oC c a b=false:=by unfold oC; rw [decide_eq_false (hne h2)]; rfl
     simp [-map_map,-mapM_map,↓KW,aP,h2',hfa]
  ·have q1:¬ (i:Int)<c.length:=by omega
   rw [List.take_of_length_le (by omega)] at ha0 ⊢
   have hres:oC c a b=(decide (usR c b=1) && decide ((fW x.b b).natAbs=1)):=by unfold oC; rw [ha0,hba]; simp
   rw [hres]
   refine (show ∃ u,usR c b=u from ⟨_,rfl⟩).elim fun u hue=>?_
   simp only [hue]
   by_cases h1:u=1
   ·have h1':(((u:Int) == (1:Int)):Bool)=true:=by simp; omega
    have hC:=xX (x:=x.b) b (by omega)
    have hkb:=aOq hxb b
    refine (show ∃ k,fW x.b b=k from ⟨_,rfl⟩).elim fun k hke=>?_
    rw [hke] at hC hkb
    have hks:(aW k.natAbs).length≤549755813888:=Nat.le_trans (szE hkb (by omega)) (by decide)
    have hA:=bHr k hks
    have hO:=wR 1 (by decide) (by decide)
    have hS:=aIz (k.natAbs:Int) 1 (by rw [Int.natAbs_natCast]; exact Nat.le_trans hks (by decide)) (Nat.le_trans sz1 (by decide))
    have hd:decide (((k.natAbs:Nat):Int)=1)=decide (k.natAbs=1):=by
     by_cases h:k.natAbs=1
     ·simp [h]
     ·have:¬ ((k.natAbs:Nat):Int)=1:=by omega
      rw [decide_eq_false h,decide_eq_false this]
    rw [hd] at hS
    rw [decide_eq_true h1,Bool.true_and,hke]
    refine (show ∃ r,decide (k.natAbs=1)=r from ⟨_,rfl⟩).elim fun r hre=>?_
    rw [hre] at hS ⊢
    refine (show ∃ z,((k.natAbs:Nat):Int)=z from ⟨_,rfl⟩).elim fun z hze=>?_
    rw [hze] at hA hS
    simp [-map_map,-mapM_map,↓KW,aP,q1,h1',aE,aB,aC]
    refine aA (ds:=[aO x.b,.i .i64 b]) (by rfl) hC ?_
    simp [-map_map,-mapM_map,↓KW,aP,bG,q1,h1',aE,aB,aC,aJ,aD,aK]
    refine aA (ds:=[encZ k]) (by rfl) hA ?_
    simp [-map_map,-mapM_map,↓KW,aP,bG,q1,h1',aE,aB,aC,aJ,aD,aK]
    refine aA (ds:=[.i .i64 1]) (by rfl) hO ?_
    simp [-map_map,-mapM_map,↓KW,aP,bG,q1,h1',aE,aB,aC,aJ,aD,aK]
    refine aA (ds:=[encZ z,encZ 1]) (by rfl) hS ?_
    simp [-map_map,-mapM_map,↓KW,aP,q1,h1']
   ·have h1':(((u:Int) == (1:Int)):Bool)=false:=by simp; omega
    rw [decide_eq_false h1,Bool.false_and]
    simp [-map_map,-mapM_map,↓KW,aP,q1,h1']
def rB (c:List Cl) (x:Cl):List (Int × Int):=(x.b.filter fun f=>oC c x.id f.1).map fun f=>(x.id,f.1)
def aYy (c:List Cl):List (Int × Int):=c.flatMap (rB c)
theorem aSj {n:Int}:∀ {l:Ch},Val l→pC n l≤1
 | [],_=>Nat.zero_le _
 | f::l,h=>by
  obtain ⟨h1,h2,_⟩:=h.tail
  have ih:=aSj (n:=n) h1
  unfold pC at ih ⊢
  rw [List.countP_cons]
  by_cases e:f.1=n
  ·have h0:l.countP (fun f=>decide (f.1=n))=0:=by
    rw [List.countP_eq_zero]
    intro y hy
    have:=h2 y hy
    simp; omega
   rw [h0]; simp [e]
  ·simpa [e] using ih
theorem aBe {l:Ch} (h:Val l) {f:Int × Int} (hf:f∈l):fW l f.1=f.2:=by rw [aLk h,gY h]; exact fA h hf
theorem bDu {l:Ch} (h:Val l) (n:Int):(if fW l n≠0 then 1 else 0)=pC n l:=by
 have h1:=aSj (n:=n) h
 by_cases e:∃ f∈l,f.1=n
 ·have h2:=qQ.2 e
  obtain ⟨f,hf,rfl⟩:=e
  rw [aBe h hf,if_pos (h.2 f hf)]; omega
 ·have h2:pC n l=0:=by
   have h0:¬ 0<pC n l:=fun h=>e (qQ.1 h)
   omega
  have h3:fW l n=0:=by rw [aLk h]; exact nC fun f hf q=>e ⟨f,hf,q⟩
  rw [h3,h2]; simp
theorem aFg {c:List Cl} (h:∀ y∈c,Val y.b) (n:Int):usR c n=jT n c:=by
 induction c with
 | nil=>rfl
 | cons y c ih =>
  have e:=bDu (h y (List.mem_cons_self ..)) n
  have i:=ih fun z hz=>h z (List.mem_cons_of_mem _ hz)
  unfold usR at i ⊢
  rw [List.countP_cons]
  simp only [jT,← e,← i]
  by_cases q:fW y.b n=0
  ·simp [q]
  ·simp [q]; omega
theorem aFp {c:List Cl} (h:CxV c):aYy c=fB c:=by
 unfold aYy fB
 rw [List.flatMap_def,List.flatMap_def]
 congr 1
 refine List.map_congr_left fun x hx=>?_
 unfold rB gP
 by_cases h0:0<jT x.id c
 ·rw [if_pos h0]
  have:(x.b.filter fun f=>oC c x.id f.1)=[]:=List.filter_eq_nil_iff.2 fun f _=>by
   unfold oC
   rw [aFg h.val,decide_eq_false (by omega)]; simp
  rw [this]; rfl
 ·rw [if_neg h0]
  congr 1
  refine List.filter_congr fun f hf=>?_
  unfold oC gI
  rw [aFg h.val,aFg h.val,decide_eq_true (show jT x.id c=0 by omega),h.bOf hx,aBe (h.val x hx) hf]; simp
theorem bJk {c:List Cl} (h:CxV c) {a b:Int} (hf:(a,b)∈fB c):oC c a b=true:=by
 rw [← aFp h] at hf
 unfold aYy at hf
 obtain ⟨x,_,hf⟩:=List.mem_flatMap.1 hf
 obtain ⟨f,hm,he⟩:=List.mem_map.1 hf
 injection he with e1 e2
 rw [← e1,← e2]
 exact (List.mem_filter.1 hm).2
theorem aTx {c d:List Cl} {i:Nat} (h:i<c.length):(c.take (i+1)).flatMap (rB d)=(c.take i).flatMap (rB d)++rB d c[i]:=by
 rw [List.take_add_one,List.getElem?_eq_getElem h,List.flatMap_append]; simp
theorem aNc {c:List Cl} {l:Ch} {i:Nat} (n:Int) (h:i<l.length):((l.take (i+1)).filter fun f=>oC c n f.1).map (fun f=>(n,f.1))=((l.take i).filter fun f=>oC c n f.1).map (fun f=>(n,f.1))++if oC c n l[i].1=true then [(n,l[i].1)] else []:=by
 rw [List.take_add_one,List.getElem?_eq_getElem h,List.filter_append,List.map_append]
 congr 1
 by_cases e:oC c n l[i].1=true <;> simp [e]
set_option maxHeartbeats 2000000 in
set_option maxRecDepth 10000 in
theorem aQm {c:List Cl} {F:Nat} (hz:SzX F c) (hF:F+4<4398046511104):Spec Tryz.prog 56 [aP c] (dW (aYy c)):=by
 have hlen:=hz.len
 refine aX (N:=58) aF Tryz.func56 rfl rfl rfl (by kernel_rfl) (by kernel_rfl) (by simp) ?_
 simp [-map_map,-mapM_map,↓KW,aP]
 refine aU (fun y:Nat × List (Int × Int)=>y.1≤c.length∧y.2.length≤100 * y.1∧(c.take y.1).flatMap (rB c)=y.2) (fun y=>StL [(0,.d (aP c)),(3,.own 1 0 y.2.length 2),(4,.d (.i .i64 (y.1:Int)))] none [.cells 59 ((flt pO y.2).map .d)]) (fun y=>c.length - y.1) (0,[]) ⟨Nat.zero_le _,Nat.zero_le _,rfl⟩ ?_ ?_
 ·refine bB [1] (by simp) ?_ ?_ <;> simp [-map_map,upd,aT,Γ0,aP,aGh]
 ·rintro ⟨i,l⟩ ⟨hi,hll,hl⟩
  simp only at hi hll hl ⊢
  by_cases hgo:i<c.length
  ·have q1:(i:Int)<c.length:=by omega
   have hx:c[i]? = some c[i]:=List.getElem?_eq_getElem hgo
   have hw:IntKind.i64.wrap ((i:Int)+1)=(i:Int)+1:=aS (by omega) (by omega)
   have htk:=aTx (d:=c) hgo
   rw [hl] at htk
   have hxl:=hz.bl _ (List.getElem_mem hgo)
   refine (show ∃ x,c[i]=x from ⟨_,rfl⟩).elim fun x hxe=>?_
   rw [hxe] at hx htk hxl
   have hyc:bK x=[D.i .i64 x.id,.i .i64 x.dim,aO x.b]:=rfl
   simp [-map_map,-mapM_map,↓KW,aP,q1]
   refine aU (fun y:Nat × List (Int × Int)=>y.1≤x.b.length∧y.2.length≤100 * i+y.1∧l++((x.b.take y.1).filter fun f=>oC c x.id f.1).map (fun f=>(x.id,f.1))=y.2) (fun y=>StL [(0,.d (aP c)),(3,.own 1 0 y.2.length 2),(4,.d (.i .i64 (i:Int))),(5,.d (.i .i64 (y.1:Int)))] none [.cells 59 ((flt pO y.2).map .d)]) (fun y=>x.b.length - y.1) (0,l) ⟨Nat.zero_le _,by simp only; omega,by simp⟩ ?_ ?_
   ·refine bB [1] (by simp) ?_ ?_ <;> simp [-map_map,upd,aT,Γ0,aP]
   ·rintro ⟨j,l2⟩ ⟨hj,hl2,hinv⟩
    simp only at hj hl2 hinv ⊢
    by_cases hgo2:j<x.b.length
    ·have q2:(j:Int)<x.b.length:=by omega
     have hf:x.b[j]? = some x.b[j]:=List.getElem?_eq_getElem hgo2
     have hw2:IntKind.i64.wrap ((j:Int)+1)=(j:Int)+1:=aS (by omega) (by omega)
     have htk2:=aNc (c:=c) x.id hgo2
     refine (show ∃ f,x.b[j]=f from ⟨_,rfl⟩).elim fun f hfe=>?_
     rw [hfe] at hf htk2
     have hef:fD f=[.i .i64 f.1,.b (decide (f.2<0)),aG (aW f.2.natAbs)]:=rfl
     have hI:=aDc x.id f.1 hz hF
     have hinv2:l++((x.b.take (j+1)).filter fun f=>oC c x.id f.1).map (fun f=>(x.id,f.1))=l2++if oC c x.id f.1=true then [(x.id,f.1)] else []:=by rw [htk2,← List.append_assoc,hinv]
     simp [-map_map,-mapM_map,↓KW,aP,aO,q2,hx,hyc,hf,hef,aE,aB,aC,aJ,aD,aK]
     refine aA (ds:=[aP c,.i .i64 x.id,.i .i64 f.1]) (by rfl) hI ?_
     cases hfx:oC c x.id f.1 with
     | true =>
      rw [hfx,if_pos rfl] at hinv2
      have hcl:=cE iN l2
      have hal:=fI wA l2
      have hbb:=xE (n:=l2.length) (by omega)
      have hb8:(l2.length+1) * 16≤140737488355328:=by omega
      have hm1:(1:Nat)≤maxLen:=aZ (by decide)
      simp [-map_map,-mapM_map,↓KW,aP,aO,q2,hx,hyc,hf,hef,hw2,hcl,hal,hbb,hb8,hm1,aZ,aE,aB,aC,aJ,aD,aK]
      refine aI (τ:=Nat × List (Int × Int)) (j+1,l2++[(x.id,f.1)]) ⟨hgo2,by simp only [List.length_append,List.length_singleton]; omega,hinv2⟩ (Nat.sub_lt_sub_left hgo2 (Nat.lt_succ_self _)) ?_
      simp only [List.length_append,List.length_singleton,fS,dC,qL]
      refine bB [3] (by simp) ?_ ?_ <;> simp [-map_map,upd,aT,Γ0,aP]
     | false =>
      rw [hfx] at hinv2
      simp only [Bool.false_eq_true,if_false,List.append_nil] at hinv2
      simp [-map_map,-mapM_map,↓KW,aP,hw2]
      refine aI (τ:=Nat × List (Int × Int)) (j+1,l2) ⟨hgo2,by simp only; omega,hinv2⟩ (Nat.sub_lt_sub_left hgo2 (Nat.lt_succ_self _)) (bB [1] (by simp) ?_ ?_) <;> simp [-map_map,upd,aT,Γ0,aP]
    ·have q2:¬ (j:Int)<x.b.length:=by omega
     rw [List.take_of_length_le (by omega)] at hinv
     simp [-map_map,-mapM_map,↓KW,aP,aO,q2,hx,hyc,hw,aE,aB,aC]
     refine aI (τ:=Nat × List (Int × Int)) (i+1,l2) ⟨hgo,by simp only; omega,by rw [htk,← hinv]; rfl⟩ (Nat.sub_lt_sub_left hgo (Nat.lt_succ_self _)) (bB [1] (by simp) ?_ ?_) <;> simp [-map_map,upd,aT,Γ0,aP]
  ·have q1:¬ (i:Int)<c.length:=by omega
   rw [List.take_of_length_le (by omega)] at hl
   have hl':aYy c=l:=hl
   have e1:=fR iN (rfl:l.length=l.length)
   have e2:=eW (by decide) iN (rfl:l.length=l.length)
   have e3:=cE iN l
   simp [-map_map,-mapM_map,↓KW,aP,dW,q1,hl',e1,e2,e3]
end Go.Am
end

section
set_option linter.unusedVariables false
set_option linter.unusedSimpArgs false
open List (map_map mapM_map)
open Go Go.Am Go.Proofs
namespace Go.Am
/-! A free pair collapsed -/
def aIo (z b:Int) (l:Ch):Ch:=plM (-z) [] (plM (-z) l [(b,1)])
theorem aXa {c:List Cl} {a b:Int} (h:a≠b) (R:Ch):mQ (mQ (cU c []) a []) b R=cU c [(a,[]),(b,R)]:=by
 unfold mQ cU
 rw [List.map_map,List.map_map]
 refine List.map_congr_left fun x _=>?_
 simp only [Function.comp,uE h]
 by_cases h1:x.id=a
 ·have h2:¬ x.id=b:=fun e=>h (h1.symm.trans e)
  simp [h1,h,h2]
 ·by_cases h2:x.id=b
  ·have h3:¬ b=a:=fun e=>h e.symm
   simp [h2,h3]
  ·simp [h1,h2,iW]
theorem aZf {c:List Cl} (h:CxV c) {a b z:Int} {xa xb:Cl} (t:lT c a b z xa xb):aIo z b xa.b=oF b z xa.b:=by
 have hv:=h.val xa t.ina
 have v1:=mY (-z) hv (rD b)
 have vR:Val (oF b z xa.b):=(dA _ [] Val.nil).1
 refine aHt (mY (-z) Val.nil v1) vR fun w=>?_
 have e:bJ w (oF b z xa.b)=-z * (bJ w xa.b - Go.Am.cf b xa.b * w b):=aOn w b z xa.b
 unfold aIo
 rw [aHi Val.nil v1,aHi hv (rD b),e,t.cf h]
 simp only [bJ]
 rw [Int.zero_add,Int.one_mul,Int.add_zero,Int.neg_mul,Int.neg_mul,Int.neg_mul]; congr 1
theorem bHm {c:List Cl} (h:CxV c) {a b z:Int} {xa xb:Cl} (t:lT c a b z xa xb) (hf:(a,b)∈fB c):(fV c a b,mQ (mQ (cU c []) a []) b (aIo z b xa.b),(0:Int))=aOm c a b:=by
 rw [aGn h t hf,aXa t.ne,aZf h t,t.g h]
set_option maxHeartbeats 4000000 in
set_option maxRecDepth 10000 in
theorem aIq {c:List Cl} {F:Nat} {a b:Int} (hcv:CxV c) (hz:SzX F c) (hf:(a,b)∈fB c) (hF:F+10<4398046511104):Spec Tryz.prog 57 [aP c,.i .i64 a,.i .i64 b] (wZ (aOm c a b)):=by
 have hlen:=hz.len
 obtain ⟨z,xa,xb,t⟩:=uP hcv hf
 have hFa:=mW c a (by omega)
 have hFb:=mW c b (by omega)
 have e1:cF c a=some xa:=by rw [← t.ida]; exact hcv.inc.find t.ina
 have e2:cF c b=some xb:=by rw [← t.idb]; exact hcv.inc.find t.inb
 unfold vX at hFa hFb
 rw [e1] at hFa
 rw [e2] at hFb
 simp only [Option.getD_some,Option.isSome_some] at hFa hFb
 have hI:=aDc a b hz (by omega)
 rw [bJk hcv hf] at hI
 have hxl:=hz.bl xa t.ina
 have hxb:=hz.bb xa t.ina
 have hC:=xX (x:=xa.b) b (by omega)
 have hcz:fW xa.b b=z:=aBe (hcv.val xa t.ina) t.mem
 rw [hcz] at hC
 have hz1:z.natAbs≤2 ^ 0:=by rcases t.unit with e | e <;> rw [e] <;> decide
 have hzs:Sz z:=szE hz1 (by omega)
 have hNg:=kW z (Nat.le_trans hzs (by decide))
 have hzn:(-z).natAbs≤2 ^ 0:=by rw [Int.natAbs_neg]; exact hz1
 have hO:=aZg b
 have hP1:=xY (k:=-z) (e:=F) (f:=0) (g:=0) (a:=xa.b) (b:=[(b,1)]) hxb (Bnd.one (Nat.le_refl 1)) hzn (by omega) (by omega) (by omega) (by simp)
 have hv:=hcv.val xa t.ina
 have hpl:plM (-z) xa.b [(b,1)]=lin xa.b [(b,1)] (-z):=yA hv (rD b) (-z)
 have hrb:Bnd (2 ^ (F+1)) (plM (-z) xa.b [(b,1)]):=by
  rw [hpl]
  have:=bJf (a:=xa.b) (b:=[(b,1)]) (k:=-z) (K:=1) (M:=1) hxb (Bnd.one (Nat.le_refl 1)) hzn
  refine this.mono ?_
  have h1:1≤2 ^ F:=Nat.one_le_two_pow
  simp only [List.length_singleton]
  rw [Nat.pow_succ]; omega
 have hrl:(plM (-z) xa.b [(b,1)]).length≤101:=by
  rw [hpl]
  have:=bJe xa.b [(b,1)] (-z)
  simp only [List.length_singleton] at this; omega
 have hre:∃ rs,plM (-z) xa.b [(b,1)]=rs:=⟨_,rfl⟩
 obtain ⟨rs,hrs⟩:=hre
 rw [hrs] at hP1 hrb hrl
 have hP2:=xY (k:=-z) (e:=0) (f:=F+1) (g:=0) (a:=[]) (b:=rs) (Bnd.nil _) hrb hzn (by omega) (by omega) (by simp) (by omega)
 have him:aIo z b xa.b=plM (-z) [] rs:=by unfold aIo; rw [hrs]
 have hEq:=bHm hcv t hf
 rw [him] at hEq
 obtain ⟨im,himg⟩:∃ im,plM (-z) [] rs=im:=⟨_,rfl⟩
 rw [himg] at hP2 hEq
 have hWo:=aNd (c:=c) a b (by omega)
 have hIt:=aDb (c:=c) (by omega)
 have hW1:=aQl (m:=cU c []) a [] (by rw [aKi]; omega)
 have hW2:=aQl (m:=mQ (cU c []) a []) b im (by unfold mQ; rw [List.length_map,aKi]; omega)
 rw [← hEq]
 have hy1:bK xa=[D.i .i64 xa.id,.i .i64 xa.dim,aO xa.b]:=rfl
 have hy2:bK xb=[D.i .i64 xb.id,.i .i64 xb.dim,aO xb.b]:=rfl
 have hrr:wZ (fV c a b,mQ (mQ (cU c []) a []) b im,(0:Int))=.ag [aP (fV c a b),aV (mQ (mQ (cU c []) a []) b im),.i .i64 0]:=rfl
 rw [hrr]
 generalize mQ (mQ (cU c []) a []) b im=m2 at *
 generalize mQ (cU c []) a []=m1 at *
 generalize cU c []=m0 at *
 generalize fV c a b=c2 at *
 clear hEq him himg hrs hpl hcz hz1 hzs hzn hrb hrl hxb hv e1 e2
 generalize -z=zn at *
 refine aX (N:=69) aF Tryz.func57 rfl rfl rfl (by kernel_rfl) (by kernel_rfl) (by simp) ?_
 simp [-map_map,-mapM_map,↓KW,aP]
 refine aA (ds:=[aP c,.i .i64 a]) (by rfl) hFa ?_
 simp [-map_map,-mapM_map,↓KW,aP,hy1,aE,aB,aC]
 refine aA (ds:=[aP c,.i .i64 b]) (by rfl) hFb ?_
 simp [-map_map,-mapM_map,↓KW,aP,hy1,hy2,aE,aB,aC]
 refine aA (ds:=[aP c,.i .i64 a,.i .i64 b]) (by rfl) hI ?_
 simp [-map_map,-mapM_map,↓KW,aP,aE,aB,aC]
 refine aA (ds:=[aO xa.b,.i .i64 b]) (by rfl) hC ?_
 simp [-map_map,-mapM_map,↓KW,aP,bG,aJ,aD,aK,bF,aR,bI,aE,aB,aC]
 refine aA (ds:=[.i .i64 b]) (by rfl) hO ?_
 simp [-map_map,-mapM_map,↓KW,aP,bG,aJ,aD,aK,bF,aR,bI,aE,aB,aC]
 refine aA (ds:=[encZ z]) (by rfl) hNg ?_
 simp [-map_map,-mapM_map,↓KW,aP,bG,aJ,aD,aK,bF,aR,bI,aE,aB,aC]
 refine aA (ds:=[aO xa.b,aO [(b,1)],encZ zn]) (by rfl) hP1 ?_
 simp [-map_map,-mapM_map,↓KW,aP,bG,aJ,aD,aK,bF,aR,bI,aE,aB,aC]
 refine aA (ds:=[encZ z]) (by rfl) hNg ?_
 simp [-map_map,-mapM_map,↓KW,aP,bG,aJ,aD,aK,bF,aR,bI,aE,aB,aC]
 refine aA (ds:=[aO [],aO rs,encZ zn]) (by simp [-map_map,-mapM_map,aO,upd,iM,nB,bG]) hP2 ?_
 simp [-map_map,-mapM_map,↓KW,aP,bG,aJ,aD,aK,bF,aR,bI,aE,aB,aC]
 refine aA (ds:=[aP c,.ag [.i .i64 a,.i .i64 b]]) (by rfl) hWo ?_
 simp [-map_map,-mapM_map,↓KW,aP,aR,bI,aE,aB,aC,eG,dG]
 refine aA (ds:=[aP c]) (by rfl) hIt ?_
 simp [-map_map,-mapM_map,↓KW,aP,aR,bI,aE,aB,aC,eG,dG,dE,cD]
 refine aA (ds:=[aV m0,.i .i64 a,aO []]) (by simp [-map_map,-mapM_map,aO,upd,iM,nB]) hW1 ?_
 simp [-map_map,-mapM_map,↓KW,aP,aR,bI,aE,aB,aC,eG,dG,dE,cD]
 refine aA (ds:=[aV m1,.i .i64 b,aO im]) (by rfl) hW2 ?_
 simp [-map_map,-mapM_map,↓KW,aP,aR,bI,aE,aB,aC,eG,dG,dE,cD,cX,cS,bS,bT]
/-! Maps composed -/
def xM (M N:List (Int × Ch)) (i:Nat):List (Int × Ch):=iY (M.take i) N++M.drop i
set_option maxHeartbeats 2000000 in
set_option maxRecDepth 10000 in
theorem aNf {M N:List (Int × Ch)} {g h:Nat} (hm:SzM g M) (hn:SzM h N) (hgh:g+h+24<4398046511104):Spec Tryz.prog 58 [aV M,aV N] (aV (iY M N)):=by
 have hl:=hm.len
 refine aX (N:=28) aF Tryz.func58 rfl rfl rfl (by kernel_rfl) (by kernel_rfl) (by simp) ?_
 have hbb:M.length * 32≤140737488355328∧M.length≤maxLen:=⟨by omega,aZ (by omega)⟩
 have hal:=eq_true (fun (a:D) (ha:a∈flt eZ M)=>List.all_eq_true.1 (fI lX M) (.d a) (List.mem_map.2 ⟨a,ha,rfl⟩))
 have hff:=aLd eZ M
 have hcl:=cE cB M
 have hok:eY 2 (M.map eZ)=true:=by cases M <;> simp [eY,cB]
 simp [-map_map,-mapM_map,↓KW,aV,hbb,aPg,hff,hok,hal]
 refine aU (fun i:Nat=>i≤M.length) (fun i=>StL [(0,.d (aV M)),(1,.d (aV N)),(5,.own 1 0 M.length 2),(6,.d (.i .i64 (i:Int)))] none [.cells 97 ((flt eZ (xM M N i)).map .d)]) (fun i=>M.length - i) 0 (Nat.zero_le _) ?_ ?_
 ·have e0:xM M N 0=M:=rfl
  rw [e0]
  refine bB [2] (by simp) ?_ ?_ <;> simp [-map_map,upd,aT,Γ0,aV]
 ·intro i hi
  have hwl:(xM M N i).length=M.length:=by unfold xM iY; rw [List.length_append,List.length_map,List.length_take,List.length_drop]; omega
  by_cases hgo:i<M.length
  ·have q1:(i:Int)<M.length:=by omega
   have hw:IntKind.i64.wrap ((i:Int)+1)=(i:Int)+1:=aS (by omega) (by omega)
   have hxm:M[i]? = some M[i]:=List.getElem?_eq_getElem hgo
   have hx:(xM M N i)[i]? = some M[i]:=by
    unfold xM
    rw [List.getElem?_append_right (by unfold iY; rw [List.length_map,List.length_take]; omega)]
    simp [iY,List.length_take,Nat.min_eq_left hi,hgo]
   have hnx:xM M N (i+1)=(xM M N i).set i (M[i].1,apX N M[i].2):=by
    unfold xM iY
    rw [List.take_add_one,List.getElem?_eq_getElem hgo,List.map_append,List.set_append_right _ _ (by rw [List.length_map,List.length_take]; omega),List.drop_eq_getElem_cons hgo,List.length_map,List.length_take,Nat.min_eq_left hi,Nat.sub_self,List.set_cons_zero]
    simp
   have hpl:=hm.bl _ (List.getElem_mem hgo)
   have hpb:=hm.bb _ (List.getElem_mem hgo)
   refine (show ∃ p,M[i]=p from ⟨_,rfl⟩).elim fun p hpe=>?_
   rw [hpe] at hx hnx hpl hpb hxm
   have hyc:eZ p=[D.i .i64 p.1,aO p.2]:=rfl
   have hA:=aIr hn hpl hpb hgh
   refine (show ∃ r,apX N p.2=r from ⟨_,rfl⟩).elim fun r hre=>?_
   rw [hre] at hA hnx
   refine (show ∃ L,xM M N i=L from ⟨_,rfl⟩).elim fun L hLe=>?_
   rw [hLe] at hx hnx hwl
   simp only [hLe,hnx]
   have hcl:=cE cB L
   rw [hwl] at hcl
   have hst:lay ((flt eZ L).map AV.d) (i * 2+1) [.d (aO r)]=(flt eZ (L.set i (p.1,r))).map .d:=by
    rw [oX _ _ _ (by omega),aGg cB L i 1 p (p.1,r) _ hx (by decide) rfl]
   have hli:i * 2+1+1≤M.length * 2:=by omega
   simp [-map_map,-mapM_map,↓KW,aV,q1,hxm,hyc,aE,aB,aC]
   refine aA (ds:=[aV N,aO p.2]) (by rfl) hA ?_
   simp [-map_map,-mapM_map,↓KW,aV,aC,aE,aB,aR,bI,q1,hw,hcl,hst,hli]
   refine aI (i+1) hgo (Nat.sub_lt_sub_left hgo (Nat.lt_succ_self _)) ?_
   rw [hnx]
   refine bB [1] (by simp) ?_ ?_ <;> simp [-map_map,upd,aT,Γ0,aV,aO]
  ·have q1:¬ (i:Int)<M.length:=by omega
   have hfin:xM M N i=iY M N:=by unfold xM; rw [List.take_of_length_le (by omega),List.drop_of_length_le (by omega),List.append_nil]
   rw [hfin] at hwl ⊢
   have e1:=fR cB hwl
   have e2:=eW (by decide) cB hwl
   have e3:=cE cB (iY M N)
   rw [hwl] at e3
   simp [-map_map,-mapM_map,↓KW,aV,q1,e1,e2,e3]
set_option maxHeartbeats 2000000 in
set_option maxRecDepth 10000 in
theorem aTz {c:List Cl} {F:Nat} (hc:MdX c) (hz:SzX F c) (hF:7 * F+400<4398046511104):Spec Tryz.prog 21 [aP c] (wZ ((nP c.length c (cU c [])).1,(nP c.length c (cU c [])).2,0)):=by
 have hlen:=hc.len
 have hS0:=ShI.one hc hz
 have hIt:=aDb (c:=c) (by omega)
 have hFr:=aQm hz (by omega)
 rw [aFp hc.v] at hFr
 have hrr:∀ R:List Cl × List (Int × Ch),wZ (R.1,R.2,0)=.ag [aP R.1,aV R.2,.i .i64 0]:=fun R=>rfl
 rw [hrr]
 refine aX (N:=38) aF Tryz.func21 rfl rfl rfl (by kernel_rfl) (by kernel_rfl) (by simp) ?_
 simp [-map_map,-mapM_map,↓KW,eG,dG,cX,bS,cJ]
 refine aA (ds:=[aP c]) (by rfl) hIt ?_
 simp [-map_map,-mapM_map,↓KW,eG,dG,cX,bS,cJ,dE,cD,cS,bT,cH]
 refine aA (ds:=[aP c]) (by rfl) hFr ?_
 simp [-map_map,-mapM_map,↓KW,eG,dG,cX,bS,cJ,dE,cD,cS,bT,cH,iF,fQ]
 refine (show ∃ R,nP c.length c (cU c [])=R from ⟨_,rfl⟩).elim fun R hR=>?_
 rw [hR]
 refine aU (fun y:Nat × Nat × List Cl × List (Int × Ch)=>ShI F c y.2.1 y.2.2.1 y.2.2.2∧y.2.2.1.length≤y.1∧nP y.1 y.2.2.1 y.2.2.2=R) (fun y=>StL [(2,.ptr 1 0),(3,.ptr 2 0),(4,.d (dW (fB y.2.2.1)))] none [.cells 35 [.nil,.nil,.d (.i .i64 0)],.cells 35 [.d (aP y.2.2.1),.d (aV y.2.2.2),.d (.i .i64 0)]]) (fun y=>y.2.2.1.length) (c.length,0,c,cU c []) ⟨hS0,Nat.le_refl _,hR⟩ ?_ ?_
 ·refine bB [1,2] (by simp) ?_ ?_ <;> simp [-map_map,upd,aT,Γ0,aP,aV]
 ·clear hS0 hIt hFr hR
  rintro ⟨n,j,c1,m1⟩ ⟨hS,hn,hR⟩
  simp only at hS hn hR ⊢
  have hj:=hS.len
  cases hfr:fB c1 with
  | nil =>
   rw [zB hfr] at hR
   subst hR
   have hpe:dW []=.sl []:=rfl
   simp [-map_map,-mapM_map,↓KW,hpe,cX,bS,cJ,cS,bT,cH]
  | cons p l =>
   have hp:p∈fB c1:=by rw [hfr]; exact List.mem_cons_self ..
   have hst:=hS.step hp
   obtain ⟨a,b⟩:=p
   obtain ⟨z,xa,xb,t⟩:=uP hS.v hp
   have h2:=uQ t hS.v.inc
   have hcolS:=aIq hS.v hS.sz hp (by omega)
   rw [aGn hS.v t hp] at hcolS
   have hjb:j * (F+40)≤5 * (F+40):=Nat.mul_le_mul_right _ (by omega)
   have hCm:=aNf hS.szm (aGo t hS.v hS.sz) (by omega)
   have hFr2:=aQm hst.sz (by omega)
   rw [aFp hst.v] at hFr2
   obtain ⟨n0,rfl⟩:∃ n0,n=n0+1:=⟨n - 1,by have:=aLb hfr; omega⟩
   rw [vP hfr] at hR
   simp only at hst hR hFr2
   have hI2:ShI F c (j+1) (fV c1 a b) (iY m1 (cU c1 (mI c1 a b)))∧(fV c1 a b).length≤n0∧nP n0 (fV c1 a b) (iY m1 (cU c1 (mI c1 a b)))=R:=⟨hst,by omega,hR⟩
   have hlt:(fV c1 a b).length<c1.length:=by omega
   have hrs:wZ (fV c1 a b,cU c1 (mI c1 a b),0)=.ag [aP (fV c1 a b),aV (cU c1 (mI c1 a b)),.i .i64 0]:=rfl
   rw [hrs] at hcolS
   refine (show ∃ c2,fV c1 a b=c2 from ⟨_,rfl⟩).elim fun c2 hc2=>?_
   refine (show ∃ m2,cU c1 (mI c1 a b)=m2 from ⟨_,rfl⟩).elim fun m2 hm2=>?_
   rw [hc2,hm2] at hcolS hI2
   rw [hc2] at hFr2 hlt
   rw [hm2] at hCm
   refine (show ∃ m3,iY m1 m2=m3 from ⟨_,rfl⟩).elim fun m3 hm3=>?_
   rw [hm3] at hCm hI2
   have hq1:(0:Int)<((l.length:Int)+1):=by omega
   have hpe:dW ((a,b)::l)=.sl ([.i .i64 a,.i .i64 b]::l.map pO):=rfl
   clear hS hst hR t hc2 hm2 hm3 hfr
   simp [-map_map,-mapM_map,↓KW,hpe,hq1,cX,bS,cJ,cS,bT,cH]
   refine aA (ds:=[aP c1,.i .i64 a,.i .i64 b]) (by rfl) hcolS ?_
   simp [-map_map,-mapM_map,↓KW,cX,bS,cJ,cS,bT,cH]
   refine aA (ds:=[aV m1,aV m2]) (by rfl) hCm ?_
   simp [-map_map,-mapM_map,↓KW,eG,dG,dE,cD,cX,bS,cJ,cS,bT,cH]
   refine aA (ds:=[aP c2]) (by rfl) hFr2 ?_
   simp [-map_map,-mapM_map,↓KW,eG,dG,dE,cD,iF,fQ,cX,bS,cJ,cS,bT,cH]
   refine aI (τ:=Nat × Nat × List Cl × List (Int × Ch)) (n0,j+1,c2,m3) hI2 hlt (bB [1,2] (by simp) ?_ ?_) <;> simp [-map_map,upd,aT,Γ0,aP,aV]
end Go.Am
end

section
set_option linter.unusedVariables false
set_option linter.unusedSimpArgs false
open List (map_map mapM_map)
open Go Go.Am Go.Proofs
namespace Go.Am
def chD (v:Ch):D:=aO v
def coE (m:List (Int × Ch)):List (Int × AV):=enA (fun v=>.d (chD v)) m
theorem bAv (m:List (Int × Ch)) (n:Int) (v:Ch):nU (coE m) n (.d (aO v))=coE (apt m n v):=tT (fun v=>AV.d (chD v)) _ _ _
theorem aXp {H H':Nat→Option HO} {ρ:Nat→Nat} (m:List (Int × Ch)):kU H H' ρ (.map .i64 (coE m)) (.map .i64 (coE m))↔True:=oK _
theorem zE (l:List Nat) (m:List (Int × Ch)):eE l (.map .i64 (coE m))=.map .i64 (coE m):=sN _ _ _
theorem aSs {β:Type} (n:Int) (v:β):∀ {m:List (Int × β)},(∀ p∈m,p.1≠n)→apt m n v=m++[(n,v)]
 | [],_=>rfl
 | p::m,h=>by
  simp only [apt]
  rw [if_neg (h p (List.mem_cons_self ..)),aSs n v fun q hq=>h q (List.mem_cons_of_mem _ hq)]; rfl
theorem bEz {N:List (Int × Ch)} (h:(N.map (·.1)).Pairwise (·<·)) {i:Nat} (hi:i<N.length):apt (N.take i) N[i].1 N[i].2=N.take (i+1):=by
 rw [aSs _ _ fun p hp=>?_,List.take_add_one,List.getElem?_eq_getElem hi]
 ·rfl
 ·obtain ⟨k,hk,rfl⟩:=List.getElem_of_mem hp
  rw [List.length_take] at hk
  have:=(List.pairwise_iff_getElem.1 h) k i (by rw [List.length_map]; omega) (by rw [List.length_map]; exact hi) (by omega)
  rw [List.getElem_map,List.getElem_map] at this
  rw [List.getElem_take]; omega
theorem bBb (g:List (Int × Ch)) (H:Nat→Option HO) (n:Int) (v:Ch) (h:iW g n=some v):kK Tryz.prog H 92 (.d (lF g)) (.d (.i .i64 n)) false=some (.d (aO v)):=by
 have h1:tmp Tryz.prog 92=some (3,45):=by kernel_rfl
 have h2:gJ Tryz.prog 3=some .i64:=by kernel_rfl
 have h3:tz Tryz.prog 45=some (.slice none 0 0):=by kernel_rfl
 show sD Tryz.prog 92 .i64 (aAe (g.map (·.1)) (g.map fun p=>aO p.2)) (.d (.i .i64 n)) false=_
 simp only [sD,aDu,h]
 simp [h1,h2,h3]
theorem aRw {N:List (Int × Ch)}:∀ {q:Int × Ch},(N.map (·.1)).Pairwise (·<·)→q∈N→iW N q.1=some q.2:=by
 induction N with
 | nil=>intro q _ h; cases h
 | cons p N ih =>
  intro q h hq
  rw [List.map_cons] at h
  obtain ⟨h1,h2⟩:=List.pairwise_cons.1 h
  unfold iW
  rw [List.find?_cons]
  rcases List.mem_cons.1 hq with rfl | hq
  ·simp
  ·have:=h1 q.1 (List.mem_map.2 ⟨q,hq,rfl⟩)
   have hne:¬ p.1=q.1:=by omega
   simp only [hne,decide_false]
   exact ih h2 hq
theorem aSt {N:List (Int × Ch)}:∀ {q:Int × Ch} {f:Int × Int},(N.map (·.1)).Pairwise (·<·)→q∈N→q.1=f.1→apP N f=mulR f.2 q.2:=by
 induction N with
 | nil=>intro q f _ h; cases h
 | cons p N ih =>
  intro q f h hq e
  rw [List.map_cons] at h
  obtain ⟨h1,h2⟩:=List.pairwise_cons.1 h
  have hnone:∀ {N:List (Int × Ch)},(∀ r∈N,r.1≠f.1)→apP N f=[]:=by
   intro N
   induction N with
   | nil=>intro _; rfl
   | cons u N ih =>
    intro hh
    show (if u.1=f.1 then _ else [])++apP N f=[]
    rw [if_neg (hh u (List.mem_cons_self ..)),ih fun r hr=>hh r (List.mem_cons_of_mem _ hr)]; rfl
  show (if p.1=f.1 then mulR f.2 p.2 else [])++apP N f=_
  rcases List.mem_cons.1 hq with rfl | hq
  ·rw [if_pos e,hnone fun r hr=>by have:=h1 r.1 (List.mem_map.2 ⟨r,hr,rfl⟩); omega,List.append_nil]
  ·have:=h1 q.1 (List.mem_map.2 ⟨q,hq,rfl⟩)
   rw [if_neg (by omega),List.nil_append,ih h2 hq e]
theorem rG {v:Ch} {k:Nat} (h:k<v.length) (z:Int):mulR z (v.take (k+1))=mulR z (v.take k)++[(v[k].1,z * v[k].2)]:=by
 unfold mulR
 rw [List.take_add_one,List.getElem?_eq_getElem h,List.map_append]; rfl
theorem aVy {M:List (Int × Ch)} {i:Nat} (h:i<M.length) (N:List (Int × Ch)):iY (M.take (i+1)) N=iY (M.take i) N++[(M[i].1,apX N M[i].2)]:=by
 unfold iY
 rw [List.take_add_one,List.getElem?_eq_getElem h,List.map_append]; rfl
def iU (t1 t2:Nat) (sl:List (Nat × AV)) (zb fb:HO) (e1:TypeId) (s1 n1:Nat) (c1:List D) (e2:TypeId) (s2 n2:Nat) (c2:List D):St:=match n1,n2 with
 | 0,0=>StL ((t1,.nil)::(t2,.nil)::sl) none [zb,fb]
 | 0,n+1=>StL ((t1,.nil)::(t2,.own 3 0 (n+1) s2)::sl) none [zb,fb,.cells e2 (c2.map .d)]
 | m+1,0=>StL ((t1,.own 3 0 (m+1) s1)::(t2,.nil)::sl) none [zb,fb,.cells e1 (c1.map .d)]
 | m+1,n+1=>StL ((t1,.own 3 0 (m+1) s1)::(t2,.own 4 0 (n+1) s2)::sl) none [zb,fb,.cells e1 (c1.map .d),.cells e2 (c2.map .d)]
set_option maxHeartbeats 4000000 in
set_option maxRecDepth 10000 in
theorem aVa {M N:List (Int × Ch)} {g h:Nat} (hms:SzM g M) (hns:SzM h N) (hN:(N.map (·.1)).Pairwise (·<·)) (hall:∀ p∈M,∀ f∈p.2,∃ q∈N,q.1=f.1) (hk:∀ q∈N,Keys q.2) (hgh:g+h+24<4398046511104) :
  Spec Tryz.prog 55 [aV M,aV N] (aV (iY M N)):=by
 have hMl:=hms.len
 have hNl:=hns.len
 refine aX (N:=76) aF Tryz.func55 rfl rfl rfl (by kernel_rfl) (by kernel_rfl) (by simp) ?_
 simp [-map_map,-mapM_map,↓KW,aV]
 refine zZ (fun j:Nat=>j≤N.length) (fun j=>StL [(0,.d (aV M)),(5,.mp 1),(19,.d (aV N)),(20,.d (.i .i64 N.length)),(21,.d (.i .i64 (j:Int)))] none [.map .i64 (coE (N.take j))]) (fun j=>N.length - j) 0 (Nat.zero_le _) ?_ ?_
 ·refine bB [1] (by simp) ?_ ?_
  ·simp [-map_map,upd,aT,Γ0,aV]
  ·exact ⟨⟨_,by simp [upd]; rfl,yY rfl⟩,trivial⟩
 ·intro j hj
  by_cases hgo:j<N.length
  ·have q1:(j:Int)<N.length:=by omega
   have hx:N[j]? = some N[j]:=List.getElem?_eq_getElem hgo
   have hw:IntKind.i64.wrap ((j:Int)+1)=(j:Int)+1:=aS (by omega) (by omega)
   have htk:=bEz hN hgo
   refine (show ∃ p,N[j]=p from ⟨_,rfl⟩).elim fun p hpe=>?_
   rw [hpe] at hx htk
   have hyc:eZ p=[D.i .i64 p.1,aO p.2]:=rfl
   simp [-map_map,-mapM_map,↓KW,aV,q1,hx,hyc,hw,cO,bAv,htk,zE,aE,aB,aC]
   refine aI (j+1) hgo (Nat.sub_lt_sub_left hgo (Nat.lt_succ_self _)) (bB [1] (by simp) ?_ ?_) <;> simp [-map_map,upd,aT,Γ0,aV,zE,aXp]
  ·have q1:¬ (j:Int)<N.length:=by omega
   rw [List.take_of_length_le (by omega)]
   simp [-map_map,-mapM_map,↓KW,aV,q1]
   refine bDe (StL [(0,.d (aV M)),(5,.d (lF N))] none []) (bB [] (by simp) ?_ ?_) ?_
   ·simp [-map_map,upd,aT,Γ0,aV]
    exact mT (aRy chD _ 6 1 N rfl) (fun a _ id h=>by simp [oH] at h)
   ·trivial
   ·simp [-map_map,-mapM_map,↓KW,aV]
    refine aU (fun s:Nat × List (Int × Ch)=>s.1≤M.length∧iY (M.take s.1) N=s.2) (fun s=>grS 8 [(5,.d (lF N)),(31,.d (aV M)),(32,.d (.i .i64 M.length)),(33,.d (.i .i64 (s.1:Int)))] 97 2 s.2.length (flt eZ s.2)) (fun s=>M.length - s.1) (0,[]) ⟨Nat.zero_le _,rfl⟩ ?_ ?_
    ·simp only [List.length_nil,grS]
     refine bB [] (by simp) ?_ ?_ <;> simp [-map_map,upd,aT,Γ0,aV,bX]
    ·clear hj hgo q1 j
     rintro ⟨i,out⟩ ⟨hi,ho⟩
     simp only at hi ho ⊢
     by_cases hgo:i<M.length
     ·have q1:(i:Int)<M.length:=by omega
      have hx:M[i]? = some M[i]:=List.getElem?_eq_getElem hgo
      have hw:IntKind.i64.wrap ((i:Int)+1)=(i:Int)+1:=aS (by omega) (by omega)
      have htk:=aVy hgo N
      rw [ho] at htk
      have hln:out.length≤i:=by rw [← ho,aBf,List.length_take]; omega
      have hyl:=hms.bl _ (List.getElem_mem hgo)
      have hyb:=hms.bb _ (List.getElem_mem hgo)
      have hyf:=hall _ (List.getElem_mem hgo)
      refine (show ∃ p,M[i]=p from ⟨_,rfl⟩).elim fun p hpe=>?_
      rw [hpe] at hx htk hyl hyb hyf
      obtain ⟨n,y⟩:=p
      simp only at htk hyl hyb hyf
      refine (show ∃ r,bY [] (apL N y)=r from ⟨_,rfl⟩).elim fun r hre=>?_
      have hre':apX N y=r:=hre
      rw [hre'] at htk
      have hyc:eZ (n,y)=[D.i .i64 n,aO y]:=rfl
      rcases hn:out.length with _ | m0
      ·simp only [hn,grS]
       simp [-map_map,-mapM_map,↓KW,aV,aO,q1,hx,hyc,aE,aB,aC]
       refine aU (fun s:Nat × Ch=>s.1≤y.length∧s.2.length≤100 * s.1∧apL N (y.take s.1)=s.2) (fun s=>gr2 8 11 [(5,.d (lF N)),(10,.ptr 1 0),(31,.d (aV M)),(32,.d (.i .i64 M.length)),(33,.d (.i .i64 (i:Int))),(38,.d (aO y)),(39,.d (.i .i64 y.length)),(40,.d (.i .i64 (s.1:Int)))] (.cells 97 [.d (.i .i64 n),.d (aO y)]) 97 2 out.length (flt eZ out) 89 3 s.2.length (flt fD s.2)) (fun s=>y.length - s.1) (0,[]) ⟨Nat.zero_le _,Nat.zero_le _,rfl⟩ ?_ ?_
       ·simp only [List.length_nil,hn,gr2]
        refine bB [1] (by simp) ?_ ?_ <;> simp [-map_map,upd,aT,Γ0,aV,aO,bX]
       ·rintro ⟨j,l⟩ ⟨hj,hll,hl⟩
        simp only at hj hll hl ⊢
        by_cases hgo2:j<y.length
        ·have q2:(j:Int)<y.length:=by omega
         have hf:y[j]? = some y[j]:=List.getElem?_eq_getElem hgo2
         have hw2:IntKind.i64.wrap ((j:Int)+1)=(j:Int)+1:=aS (by omega) (by omega)
         have htk2:=aBn (m:=N) hgo2
         rw [hl] at htk2
         obtain ⟨q,hq,hqe⟩:=hyf _ (List.getElem_mem hgo2)
         have hfb:=hyb _ (List.getElem_mem hgo2)
         rw [aSt hN hq hqe] at htk2
         have hlk:=fun H=>bBb N H q.1 q.2 (aRw hN hq)
         rw [hqe] at hlk
         have hvl:=hns.bl q hq
         have hvb:=hns.bb q hq
         refine (show ∃ v,q.2=v from ⟨_,rfl⟩).elim fun v hve=>?_
         rw [hve] at htk2 hlk hvl hvb
         refine (show ∃ f,y[j]=f from ⟨_,rfl⟩).elim fun f hfe=>?_
         rw [hfe] at hf htk2 hlk hfb
         clear hve hfe hqe hq
         have hef:fD f=[.i .i64 f.1,.b (decide (f.2<0)),aG (aW f.2.natAbs)]:=rfl
         rcases hn2:l.length with _ | k0
         ·simp only [hn,hn2,gr2]
          simp [-map_map,-mapM_map,↓KW,aV,aO,q2,hf,hef,hlk,aE,aB,aC,aJ,aD,aK]
          refine aU (fun s:Nat × Ch=>s.1≤v.length∧s.2.length≤100 * j+s.1∧l++mulR f.2 (v.take s.1)=s.2) (fun s=>iU 8 11 [(5,.d (lF N)),(10,.ptr 1 0),(13,.ptr 2 0),(31,.d (aV M)),(32,.d (.i .i64 M.length)),(33,.d (.i .i64 (i:Int))),(38,.d (aO y)),(39,.d (.i .i64 y.length)),(40,.d (.i .i64 (j:Int))),(47,.d (aO v)),(48,.d (.i .i64 v.length)),(49,.d (.i .i64 (s.1:Int)))] (.cells 97 [.d (.i .i64 n),.d (aO y)]) (.cells 89 [.d (.i .i64 f.1),.d (.b (decide (f.2<0))),.d (aG (aW f.2.natAbs))]) 97 2 out.length (flt eZ out) 89 3 s.2.length (flt fD s.2)) (fun s=>v.length - s.1) (0,l) ⟨Nat.zero_le _,by simp only; omega,by simp [mulR]⟩ ?_ ?_
          ·simp only [hn,hn2,iU]
           refine bB [1,2] (by simp) ?_ ?_ <;> simp [-map_map,upd,aT,Γ0,aV,aO,bX]
          ·rintro ⟨k,l2⟩ ⟨hk2,hl2,hinv⟩
           simp only at hk2 hl2 hinv ⊢
           by_cases hgo3:k<v.length
           ·have q3:(k:Int)<v.length:=by omega
            have hg2:v[k]? = some v[k]:=List.getElem?_eq_getElem hgo3
            have hw3:IntKind.i64.wrap ((k:Int)+1)=(k:Int)+1:=aS (by omega) (by omega)
            have htk3:l++mulR f.2 (v.take (k+1))=l2++[(v[k].1,f.2 * v[k].2)]:=by rw [rG hgo3,← List.append_assoc,hinv]
            have hub:=hvb _ (List.getElem_mem hgo3)
            refine (show ∃ u,v[k]=u from ⟨_,rfl⟩).elim fun u hue=>?_
            rw [hue] at hg2 htk3 hub
            have heu:fD u=[.i .i64 u.1,.b (decide (u.2<0)),aG (aW u.2.natAbs)]:=rfl
            have hMu:=uA f.2 u.2 (rY hfb (by omega)) (rY hub (by omega))
            have hm1:(1:Nat)≤maxLen:=aZ (by decide)
            have hll2:(l2++[(u.1,f.2 * u.2)]).length=l2.length+1:=by rw [List.length_append]; rfl
            rcases hn3:l2.length with _ | k1
            ·have e0:l2=[]:=List.eq_nil_of_length_eq_zero hn3
             simp only [hn,hn3,iU]
             simp [-map_map,-mapM_map,↓KW,aV,aO,q3,hg2,heu,hw3,aE,aB,aC,aJ,aD,aK]
             refine aA (ds:=[encZ f.2,encZ u.2]) (by rfl) hMu ?_
             simp [-map_map,-mapM_map,↓KW,aV,aO,bG,q3,hg2,heu,hw3,hm1,aE,aB,aC,aJ,aD,aK]
             refine aI (τ:=Nat × Ch) (k+1,l2++[(u.1,f.2 * u.2)]) ⟨hgo3,by simp only; omega,htk3⟩ (Nat.sub_lt_sub_left hgo3 (Nat.lt_succ_self _)) ?_
             simp only [hll2,hn,hn3,iU]
             refine bB [1,2,5] (by simp) ?_ ?_ <;> simp [-map_map,upd,aT,Γ0,aV,aO,bC,e0,dC]
            ·have hbb:=cT (n:=k1+1) (by omega)
             have hcl:=cE fT l2
             rw [hn3] at hcl
             have hal:=fI qM l2
             simp only [hn,hn3,iU]
             simp [-map_map,-mapM_map,↓KW,aV,aO,q3,hg2,heu,hw3,aE,aB,aC,aJ,aD,aK]
             refine aA (ds:=[encZ f.2,encZ u.2]) (by rfl) hMu ?_
             simp [-map_map,-mapM_map,↓KW,aV,aO,bG,q3,hg2,heu,hw3,hm1,hbb,hcl,hal,aZ,aE,aB,aC,aJ,aD,aK]
             refine aI (τ:=Nat × Ch) (k+1,l2++[(u.1,f.2 * u.2)]) ⟨hgo3,by simp only; omega,htk3⟩ (Nat.sub_lt_sub_left hgo3 (Nat.lt_succ_self _)) ?_
             simp only [hll2,hn,hn3,iU]
             refine bB [1,2,6] (by simp) ?_ ?_ <;> simp [-map_map,upd,aT,Γ0,aV,aO,bC,fS,dC]
           ·have q3:¬ (k:Int)<v.length:=by omega
            rw [List.take_of_length_le (by omega)] at hinv
            rcases hn3:l2.length with _ | k1
            ·simp only [hn,hn3,iU]
             simp [-map_map,-mapM_map,↓KW,aV,aO,q3,hw2,aE,aB,aC]
             refine aI (τ:=Nat × Ch) (j+1,l2) ⟨hgo2,by simp only; omega,by rw [htk2]; exact hinv⟩ (Nat.sub_lt_sub_left hgo2 (Nat.lt_succ_self _)) ?_
             simp only [hn,hn3,gr2]
             refine bB [1] (by simp) ?_ ?_ <;> simp [-map_map,upd,aT,Γ0,aV,aO,bX]
            ·simp only [hn,hn3,iU]
             simp [-map_map,-mapM_map,↓KW,aV,aO,q3,hw2,aE,aB,aC]
             refine aI (τ:=Nat × Ch) (j+1,l2) ⟨hgo2,by simp only; omega,by rw [htk2]; exact hinv⟩ (Nat.sub_lt_sub_left hgo2 (Nat.lt_succ_self _)) ?_
             simp only [hn,hn3,gr2]
             refine bB [1,3] (by simp) ?_ ?_ <;> simp [-map_map,upd,aT,Γ0,aV,aO,bX]
         ·simp only [hn,hn2,gr2]
          simp [-map_map,-mapM_map,↓KW,aV,aO,q2,hf,hef,hlk,aE,aB,aC,aJ,aD,aK]
          refine aU (fun s:Nat × Ch=>s.1≤v.length∧s.2.length≤100 * j+s.1∧l++mulR f.2 (v.take s.1)=s.2) (fun s=>iU 8 11 [(5,.d (lF N)),(10,.ptr 1 0),(13,.ptr 2 0),(31,.d (aV M)),(32,.d (.i .i64 M.length)),(33,.d (.i .i64 (i:Int))),(38,.d (aO y)),(39,.d (.i .i64 y.length)),(40,.d (.i .i64 (j:Int))),(47,.d (aO v)),(48,.d (.i .i64 v.length)),(49,.d (.i .i64 (s.1:Int)))] (.cells 97 [.d (.i .i64 n),.d (aO y)]) (.cells 89 [.d (.i .i64 f.1),.d (.b (decide (f.2<0))),.d (aG (aW f.2.natAbs))]) 97 2 out.length (flt eZ out) 89 3 s.2.length (flt fD s.2)) (fun s=>v.length - s.1) (0,l) ⟨Nat.zero_le _,by simp only; omega,by simp [mulR]⟩ ?_ ?_
          ·simp only [hn,hn2,iU]
           refine bB [1,3,2] (by simp) ?_ ?_ <;> simp [-map_map,upd,aT,Γ0,aV,aO,bX]
          ·rintro ⟨k,l2⟩ ⟨hk2,hl2,hinv⟩
           simp only at hk2 hl2 hinv ⊢
           by_cases hgo3:k<v.length
           ·have q3:(k:Int)<v.length:=by omega
            have hg2:v[k]? = some v[k]:=List.getElem?_eq_getElem hgo3
            have hw3:IntKind.i64.wrap ((k:Int)+1)=(k:Int)+1:=aS (by omega) (by omega)
            have htk3:l++mulR f.2 (v.take (k+1))=l2++[(v[k].1,f.2 * v[k].2)]:=by rw [rG hgo3,← List.append_assoc,hinv]
            have hub:=hvb _ (List.getElem_mem hgo3)
            refine (show ∃ u,v[k]=u from ⟨_,rfl⟩).elim fun u hue=>?_
            rw [hue] at hg2 htk3 hub
            have heu:fD u=[.i .i64 u.1,.b (decide (u.2<0)),aG (aW u.2.natAbs)]:=rfl
            have hMu:=uA f.2 u.2 (rY hfb (by omega)) (rY hub (by omega))
            have hm1:(1:Nat)≤maxLen:=aZ (by decide)
            have hll2:(l2++[(u.1,f.2 * u.2)]).length=l2.length+1:=by rw [List.length_append]; rfl
            rcases hn3:l2.length with _ | k1
            ·have e0:l2=[]:=List.eq_nil_of_length_eq_zero hn3
             simp only [hn,hn3,iU]
             simp [-map_map,-mapM_map,↓KW,aV,aO,q3,hg2,heu,hw3,aE,aB,aC,aJ,aD,aK]
             refine aA (ds:=[encZ f.2,encZ u.2]) (by rfl) hMu ?_
             simp [-map_map,-mapM_map,↓KW,aV,aO,bG,q3,hg2,heu,hw3,hm1,aE,aB,aC,aJ,aD,aK]
             refine aI (τ:=Nat × Ch) (k+1,l2++[(u.1,f.2 * u.2)]) ⟨hgo3,by simp only; omega,htk3⟩ (Nat.sub_lt_sub_left hgo3 (Nat.lt_succ_self _)) ?_
             simp only [hll2,hn,hn3,iU]
             refine bB [1,2,5] (by simp) ?_ ?_ <;> simp [-map_map,upd,aT,Γ0,aV,aO,bC,e0,dC]
            ·have hbb:=cT (n:=k1+1) (by omega)
             have hcl:=cE fT l2
             rw [hn3] at hcl
             have hal:=fI qM l2
             simp only [hn,hn3,iU]
             simp [-map_map,-mapM_map,↓KW,aV,aO,q3,hg2,heu,hw3,aE,aB,aC,aJ,aD,aK]
             refine aA (ds:=[encZ f.2,encZ u.2]) (by rfl) hMu ?_
             simp [-map_map,-mapM_map,↓KW,aV,aO,bG,q3,hg2,heu,hw3,hm1,hbb,hcl,hal,aZ,aE,aB,aC,aJ,aD,aK]
             refine aI (τ:=Nat × Ch) (k+1,l2++[(u.1,f.2 * u.2)]) ⟨hgo3,by simp only; omega,htk3⟩ (Nat.sub_lt_sub_left hgo3 (Nat.lt_succ_self _)) ?_
             simp only [hll2,hn,hn3,iU]
             refine bB [1,2,6] (by simp) ?_ ?_ <;> simp [-map_map,upd,aT,Γ0,aV,aO,bC,fS,dC]
           ·have q3:¬ (k:Int)<v.length:=by omega
            rw [List.take_of_length_le (by omega)] at hinv
            rcases hn3:l2.length with _ | k1
            ·simp only [hn,hn3,iU]
             simp [-map_map,-mapM_map,↓KW,aV,aO,q3,hw2,aE,aB,aC]
             refine aI (τ:=Nat × Ch) (j+1,l2) ⟨hgo2,by simp only; omega,by rw [htk2]; exact hinv⟩ (Nat.sub_lt_sub_left hgo2 (Nat.lt_succ_self _)) ?_
             simp only [hn,hn3,gr2]
             refine bB [1] (by simp) ?_ ?_ <;> simp [-map_map,upd,aT,Γ0,aV,aO,bX]
            ·simp only [hn,hn3,iU]
             simp [-map_map,-mapM_map,↓KW,aV,aO,q3,hw2,aE,aB,aC]
             refine aI (τ:=Nat × Ch) (j+1,l2) ⟨hgo2,by simp only; omega,by rw [htk2]; exact hinv⟩ (Nat.sub_lt_sub_left hgo2 (Nat.lt_succ_self _)) ?_
             simp only [hn,hn3,gr2]
             refine bB [1,3] (by simp) ?_ ?_ <;> simp [-map_map,upd,aT,Γ0,aV,aO,bX]
        ·have q2:¬ (j:Int)<y.length:=by omega
         rw [List.take_of_length_le (by omega)] at hl
         have hlb:=(aBo hns (x:=y) hyb).2
         rw [hl] at hlb
         have hlk:Keys l:=by
          rw [← hl]
          intro u hu
          obtain ⟨f,_,p,hp,_,w,hw,e⟩:=aGv hu
          rw [← e]; exact hk p hp w hw
         have hM:=aRh (l:=l) (e:=g+h) hlb hlk (by omega) (by omega)
         have hr:bY [] l=r:=by rw [← hl]; exact hre
         rw [hr] at hM
         have hcl1:=cE cB out
         have hal1:=fI lX out
         rw [hn] at hcl1
         have hm1:(1:Nat)≤maxLen:=aZ (by decide)
         rcases hn2:l.length with _ | k0
         ·have e0:l=[]:=List.eq_nil_of_length_eq_zero hn2
          rw [e0] at hM
          simp only [hn,gr2]
          simp [-map_map,-mapM_map,↓KW,aV,aO,q2,aE,aB,aC]
          refine aA (ds:=[aO []]) (by rfl) hM ?_
          have eo:out=[]:=List.eq_nil_of_length_eq_zero hn
          rw [eo] at htk
          simp [-map_map,-mapM_map,↓KW,aV,aO,hm1,hm1,hw,aR,bI,aE,aB,aC]
          refine aI (τ:=Nat × List (Int × Ch)) (i+1,[(n,r)]) ⟨hgo,htk⟩ (Nat.sub_lt_sub_left hgo (Nat.lt_succ_self _)) ?_
          simp only [List.length_singleton,grS,dC,eP]
          refine bB [3] (by simp) ?_ ?_ <;> simp [-map_map,upd,aT,Γ0,aV,aO]
         ·have e1:=fR fT hn2
          have e2:=eW (by decide) fT hn2
          have e3:=cE fT l
          rw [hn2] at e3
          simp only [hn,gr2]
          simp [-map_map,-mapM_map,↓KW,aV,aO,q2,aE,aB,aC]
          refine aA (ds:=[aO l]) (by simp [-map_map,-mapM_map,aO,upd,e1,e2,e3]) hM ?_
          have eo:out=[]:=List.eq_nil_of_length_eq_zero hn
          rw [eo] at htk
          simp [-map_map,-mapM_map,↓KW,aV,aO,e1,hm1,hw,aR,bI,aE,aB,aC]
          refine aI (τ:=Nat × List (Int × Ch)) (i+1,[(n,r)]) ⟨hgo,htk⟩ (Nat.sub_lt_sub_left hgo (Nat.lt_succ_self _)) ?_
          simp only [List.length_singleton,grS,dC,eP]
          refine bB [4] (by simp) ?_ ?_ <;> simp [-map_map,upd,aT,Γ0,aV,aO]
      ·simp only [hn,grS]
       simp [-map_map,-mapM_map,↓KW,aV,aO,q1,hx,hyc,aE,aB,aC]
       refine aU (fun s:Nat × Ch=>s.1≤y.length∧s.2.length≤100 * s.1∧apL N (y.take s.1)=s.2) (fun s=>gr2 8 11 [(5,.d (lF N)),(10,.ptr 1 0),(31,.d (aV M)),(32,.d (.i .i64 M.length)),(33,.d (.i .i64 (i:Int))),(38,.d (aO y)),(39,.d (.i .i64 y.length)),(40,.d (.i .i64 (s.1:Int)))] (.cells 97 [.d (.i .i64 n),.d (aO y)]) 97 2 out.length (flt eZ out) 89 3 s.2.length (flt fD s.2)) (fun s=>y.length - s.1) (0,[]) ⟨Nat.zero_le _,Nat.zero_le _,rfl⟩ ?_ ?_
       ·simp only [List.length_nil,hn,gr2]
        refine bB [2,1] (by simp) ?_ ?_ <;> simp [-map_map,upd,aT,Γ0,aV,aO,bX]
       ·rintro ⟨j,l⟩ ⟨hj,hll,hl⟩
        simp only at hj hll hl ⊢
        by_cases hgo2:j<y.length
        ·have q2:(j:Int)<y.length:=by omega
         have hf:y[j]? = some y[j]:=List.getElem?_eq_getElem hgo2
         have hw2:IntKind.i64.wrap ((j:Int)+1)=(j:Int)+1:=aS (by omega) (by omega)
         have htk2:=aBn (m:=N) hgo2
         rw [hl] at htk2
         obtain ⟨q,hq,hqe⟩:=hyf _ (List.getElem_mem hgo2)
         have hfb:=hyb _ (List.getElem_mem hgo2)
         rw [aSt hN hq hqe] at htk2
         have hlk:=fun H=>bBb N H q.1 q.2 (aRw hN hq)
         rw [hqe] at hlk
         have hvl:=hns.bl q hq
         have hvb:=hns.bb q hq
         refine (show ∃ v,q.2=v from ⟨_,rfl⟩).elim fun v hve=>?_
         rw [hve] at htk2 hlk hvl hvb
         refine (show ∃ f,y[j]=f from ⟨_,rfl⟩).elim fun f hfe=>?_
         rw [hfe] at hf htk2 hlk hfb
         clear hve hfe hqe hq
         have hef:fD f=[.i .i64 f.1,.b (decide (f.2<0)),aG (aW f.2.natAbs)]:=rfl
         rcases hn2:l.length with _ | k0
         ·simp only [hn,hn2,gr2]
          simp [-map_map,-mapM_map,↓KW,aV,aO,q2,hf,hef,hlk,aE,aB,aC,aJ,aD,aK]
          refine aU (fun s:Nat × Ch=>s.1≤v.length∧s.2.length≤100 * j+s.1∧l++mulR f.2 (v.take s.1)=s.2) (fun s=>iU 8 11 [(5,.d (lF N)),(10,.ptr 1 0),(13,.ptr 2 0),(31,.d (aV M)),(32,.d (.i .i64 M.length)),(33,.d (.i .i64 (i:Int))),(38,.d (aO y)),(39,.d (.i .i64 y.length)),(40,.d (.i .i64 (j:Int))),(47,.d (aO v)),(48,.d (.i .i64 v.length)),(49,.d (.i .i64 (s.1:Int)))] (.cells 97 [.d (.i .i64 n),.d (aO y)]) (.cells 89 [.d (.i .i64 f.1),.d (.b (decide (f.2<0))),.d (aG (aW f.2.natAbs))]) 97 2 out.length (flt eZ out) 89 3 s.2.length (flt fD s.2)) (fun s=>v.length - s.1) (0,l) ⟨Nat.zero_le _,by simp only; omega,by simp [mulR]⟩ ?_ ?_
          ·simp only [hn,hn2,iU]
           refine bB [1,3,2] (by simp) ?_ ?_ <;> simp [-map_map,upd,aT,Γ0,aV,aO,bX]
          ·rintro ⟨k,l2⟩ ⟨hk2,hl2,hinv⟩
           simp only at hk2 hl2 hinv ⊢
           by_cases hgo3:k<v.length
           ·have q3:(k:Int)<v.length:=by omega
            have hg2:v[k]? = some v[k]:=List.getElem?_eq_getElem hgo3
            have hw3:IntKind.i64.wrap ((k:Int)+1)=(k:Int)+1:=aS (by omega) (by omega)
            have htk3:l++mulR f.2 (v.take (k+1))=l2++[(v[k].1,f.2 * v[k].2)]:=by rw [rG hgo3,← List.append_assoc,hinv]
            have hub:=hvb _ (List.getElem_mem hgo3)
            refine (show ∃ u,v[k]=u from ⟨_,rfl⟩).elim fun u hue=>?_
            rw [hue] at hg2 htk3 hub
            have heu:fD u=[.i .i64 u.1,.b (decide (u.2<0)),aG (aW u.2.natAbs)]:=rfl
            have hMu:=uA f.2 u.2 (rY hfb (by omega)) (rY hub (by omega))
            have hm1:(1:Nat)≤maxLen:=aZ (by decide)
            have hll2:(l2++[(u.1,f.2 * u.2)]).length=l2.length+1:=by rw [List.length_append]; rfl
            rcases hn3:l2.length with _ | k1
            ·have e0:l2=[]:=List.eq_nil_of_length_eq_zero hn3
             simp only [hn,hn3,iU]
             simp [-map_map,-mapM_map,↓KW,aV,aO,q3,hg2,heu,hw3,aE,aB,aC,aJ,aD,aK]
             refine aA (ds:=[encZ f.2,encZ u.2]) (by rfl) hMu ?_
             simp [-map_map,-mapM_map,↓KW,aV,aO,bG,q3,hg2,heu,hw3,hm1,aE,aB,aC,aJ,aD,aK]
             refine aI (τ:=Nat × Ch) (k+1,l2++[(u.1,f.2 * u.2)]) ⟨hgo3,by simp only; omega,htk3⟩ (Nat.sub_lt_sub_left hgo3 (Nat.lt_succ_self _)) ?_
             simp only [hll2,hn,hn3,iU]
             refine bB [1,2,3,6] (by simp) ?_ ?_ <;> simp [-map_map,upd,aT,Γ0,aV,aO,bC,e0,dC]
            ·have hbb:=cT (n:=k1+1) (by omega)
             have hcl:=cE fT l2
             rw [hn3] at hcl
             have hal:=fI qM l2
             simp only [hn,hn3,iU]
             simp [-map_map,-mapM_map,↓KW,aV,aO,q3,hg2,heu,hw3,aE,aB,aC,aJ,aD,aK]
             refine aA (ds:=[encZ f.2,encZ u.2]) (by rfl) hMu ?_
             simp [-map_map,-mapM_map,↓KW,aV,aO,bG,q3,hg2,heu,hw3,hm1,hbb,hcl,hal,aZ,aE,aB,aC,aJ,aD,aK]
             refine aI (τ:=Nat × Ch) (k+1,l2++[(u.1,f.2 * u.2)]) ⟨hgo3,by simp only; omega,htk3⟩ (Nat.sub_lt_sub_left hgo3 (Nat.lt_succ_self _)) ?_
             simp only [hll2,hn,hn3,iU]
             refine bB [1,2,3,7] (by simp) ?_ ?_ <;> simp [-map_map,upd,aT,Γ0,aV,aO,bC,fS,dC]
           ·have q3:¬ (k:Int)<v.length:=by omega
            rw [List.take_of_length_le (by omega)] at hinv
            rcases hn3:l2.length with _ | k1
            ·simp only [hn,hn3,iU]
             simp [-map_map,-mapM_map,↓KW,aV,aO,q3,hw2,aE,aB,aC]
             refine aI (τ:=Nat × Ch) (j+1,l2) ⟨hgo2,by simp only; omega,by rw [htk2]; exact hinv⟩ (Nat.sub_lt_sub_left hgo2 (Nat.lt_succ_self _)) ?_
             simp only [hn,hn3,gr2]
             refine bB [1,3] (by simp) ?_ ?_ <;> simp [-map_map,upd,aT,Γ0,aV,aO,bX]
            ·simp only [hn,hn3,iU]
             simp [-map_map,-mapM_map,↓KW,aV,aO,q3,hw2,aE,aB,aC]
             refine aI (τ:=Nat × Ch) (j+1,l2) ⟨hgo2,by simp only; omega,by rw [htk2]; exact hinv⟩ (Nat.sub_lt_sub_left hgo2 (Nat.lt_succ_self _)) ?_
             simp only [hn,hn3,gr2]
             refine bB [1,3,4] (by simp) ?_ ?_ <;> simp [-map_map,upd,aT,Γ0,aV,aO,bX]
         ·simp only [hn,hn2,gr2]
          simp [-map_map,-mapM_map,↓KW,aV,aO,q2,hf,hef,hlk,aE,aB,aC,aJ,aD,aK]
          refine aU (fun s:Nat × Ch=>s.1≤v.length∧s.2.length≤100 * j+s.1∧l++mulR f.2 (v.take s.1)=s.2) (fun s=>iU 8 11 [(5,.d (lF N)),(10,.ptr 1 0),(13,.ptr 2 0),(31,.d (aV M)),(32,.d (.i .i64 M.length)),(33,.d (.i .i64 (i:Int))),(38,.d (aO y)),(39,.d (.i .i64 y.length)),(40,.d (.i .i64 (j:Int))),(47,.d (aO v)),(48,.d (.i .i64 v.length)),(49,.d (.i .i64 (s.1:Int)))] (.cells 97 [.d (.i .i64 n),.d (aO y)]) (.cells 89 [.d (.i .i64 f.1),.d (.b (decide (f.2<0))),.d (aG (aW f.2.natAbs))]) 97 2 out.length (flt eZ out) 89 3 s.2.length (flt fD s.2)) (fun s=>v.length - s.1) (0,l) ⟨Nat.zero_le _,by simp only; omega,by simp [mulR]⟩ ?_ ?_
          ·simp only [hn,hn2,iU]
           refine bB [1,4,2,3] (by simp) ?_ ?_ <;> simp [-map_map,upd,aT,Γ0,aV,aO,bX]
          ·rintro ⟨k,l2⟩ ⟨hk2,hl2,hinv⟩
           simp only at hk2 hl2 hinv ⊢
           by_cases hgo3:k<v.length
           ·have q3:(k:Int)<v.length:=by omega
            have hg2:v[k]? = some v[k]:=List.getElem?_eq_getElem hgo3
            have hw3:IntKind.i64.wrap ((k:Int)+1)=(k:Int)+1:=aS (by omega) (by omega)
            have htk3:l++mulR f.2 (v.take (k+1))=l2++[(v[k].1,f.2 * v[k].2)]:=by rw [rG hgo3,← List.append_assoc,hinv]
            have hub:=hvb _ (List.getElem_mem hgo3)
            refine (show ∃ u,v[k]=u from ⟨_,rfl⟩).elim fun u hue=>?_
            rw [hue] at hg2 htk3 hub
            have heu:fD u=[.i .i64 u.1,.b (decide (u.2<0)),aG (aW u.2.natAbs)]:=rfl
            have hMu:=uA f.2 u.2 (rY hfb (by omega)) (rY hub (by omega))
            have hm1:(1:Nat)≤maxLen:=aZ (by decide)
            have hll2:(l2++[(u.1,f.2 * u.2)]).length=l2.length+1:=by rw [List.length_append]; rfl
            rcases hn3:l2.length with _ | k1
            ·have e0:l2=[]:=List.eq_nil_of_length_eq_zero hn3
             simp only [hn,hn3,iU]
             simp [-map_map,-mapM_map,↓KW,aV,aO,q3,hg2,heu,hw3,aE,aB,aC,aJ,aD,aK]
             refine aA (ds:=[encZ f.2,encZ u.2]) (by rfl) hMu ?_
             simp [-map_map,-mapM_map,↓KW,aV,aO,bG,q3,hg2,heu,hw3,hm1,aE,aB,aC,aJ,aD,aK]
             refine aI (τ:=Nat × Ch) (k+1,l2++[(u.1,f.2 * u.2)]) ⟨hgo3,by simp only; omega,htk3⟩ (Nat.sub_lt_sub_left hgo3 (Nat.lt_succ_self _)) ?_
             simp only [hll2,hn,hn3,iU]
             refine bB [1,2,3,6] (by simp) ?_ ?_ <;> simp [-map_map,upd,aT,Γ0,aV,aO,bC,e0,dC]
            ·have hbb:=cT (n:=k1+1) (by omega)
             have hcl:=cE fT l2
             rw [hn3] at hcl
             have hal:=fI qM l2
             simp only [hn,hn3,iU]
             simp [-map_map,-mapM_map,↓KW,aV,aO,q3,hg2,heu,hw3,aE,aB,aC,aJ,aD,aK]
             refine aA (ds:=[encZ f.2,encZ u.2]) (by rfl) hMu ?_
             simp [-map_map,-mapM_map,↓KW,aV,aO,bG,q3,hg2,heu,hw3,hm1,hbb,hcl,hal,aZ,aE,aB,aC,aJ,aD,aK]
             refine aI (τ:=Nat × Ch) (k+1,l2++[(u.1,f.2 * u.2)]) ⟨hgo3,by simp only; omega,htk3⟩ (Nat.sub_lt_sub_left hgo3 (Nat.lt_succ_self _)) ?_
             simp only [hll2,hn,hn3,iU]
             refine bB [1,2,3,7] (by simp) ?_ ?_ <;> simp [-map_map,upd,aT,Γ0,aV,aO,bC,fS,dC]
           ·have q3:¬ (k:Int)<v.length:=by omega
            rw [List.take_of_length_le (by omega)] at hinv
            rcases hn3:l2.length with _ | k1
            ·simp only [hn,hn3,iU]
             simp [-map_map,-mapM_map,↓KW,aV,aO,q3,hw2,aE,aB,aC]
             refine aI (τ:=Nat × Ch) (j+1,l2) ⟨hgo2,by simp only; omega,by rw [htk2]; exact hinv⟩ (Nat.sub_lt_sub_left hgo2 (Nat.lt_succ_self _)) ?_
             simp only [hn,hn3,gr2]
             refine bB [1,3] (by simp) ?_ ?_ <;> simp [-map_map,upd,aT,Γ0,aV,aO,bX]
            ·simp only [hn,hn3,iU]
             simp [-map_map,-mapM_map,↓KW,aV,aO,q3,hw2,aE,aB,aC]
             refine aI (τ:=Nat × Ch) (j+1,l2) ⟨hgo2,by simp only; omega,by rw [htk2]; exact hinv⟩ (Nat.sub_lt_sub_left hgo2 (Nat.lt_succ_self _)) ?_
             simp only [hn,hn3,gr2]
             refine bB [1,3,4] (by simp) ?_ ?_ <;> simp [-map_map,upd,aT,Γ0,aV,aO,bX]
        ·have q2:¬ (j:Int)<y.length:=by omega
         rw [List.take_of_length_le (by omega)] at hl
         have hlb:=(aBo hns (x:=y) hyb).2
         rw [hl] at hlb
         have hlk:Keys l:=by
          rw [← hl]
          intro u hu
          obtain ⟨f,_,p,hp,_,w,hw,e⟩:=aGv hu
          rw [← e]; exact hk p hp w hw
         have hM:=aRh (l:=l) (e:=g+h) hlb hlk (by omega) (by omega)
         have hr:bY [] l=r:=by rw [← hl]; exact hre
         rw [hr] at hM
         have hcl1:=cE cB out
         have hal1:=fI lX out
         rw [hn] at hcl1
         have hm1:(1:Nat)≤maxLen:=aZ (by decide)
         rcases hn2:l.length with _ | k0
         ·have e0:l=[]:=List.eq_nil_of_length_eq_zero hn2
          rw [e0] at hM
          simp only [hn,gr2]
          simp [-map_map,-mapM_map,↓KW,aV,aO,q2,aE,aB,aC]
          refine aA (ds:=[aO []]) (by rfl) hM ?_
          have hbb:=cT (n:=m0+1) (by omega)
          have hb8:(m0+1+1) * 32≤140737488355328:=by omega
          simp [-map_map,-mapM_map,↓KW,aV,aO,hm1,hm1,hw,hbb,hb8,hcl1,hal1,aZ,aR,bI,aE,aB,aC]
          refine aI (τ:=Nat × List (Int × Ch)) (i+1,out++[(n,r)]) ⟨hgo,htk⟩ (Nat.sub_lt_sub_left hgo (Nat.lt_succ_self _)) ?_
          simp only [List.length_append,hn,List.length_singleton,grS,fS,dC,eP]
          refine bB [4] (by simp) ?_ ?_ <;> simp [-map_map,upd,aT,Γ0,aV,aO]
         ·have e1:=fR fT hn2
          have e2:=eW (by decide) fT hn2
          have e3:=cE fT l
          rw [hn2] at e3
          simp only [hn,gr2]
          simp [-map_map,-mapM_map,↓KW,aV,aO,q2,aE,aB,aC]
          refine aA (ds:=[aO l]) (by simp [-map_map,-mapM_map,aO,upd,e1,e2,e3]) hM ?_
          have hbb:=cT (n:=m0+1) (by omega)
          have hb8:(m0+1+1) * 32≤140737488355328:=by omega
          simp [-map_map,-mapM_map,↓KW,aV,aO,e1,hm1,hw,hbb,hb8,hcl1,hal1,aZ,aR,bI,aE,aB,aC]
          refine aI (τ:=Nat × List (Int × Ch)) (i+1,out++[(n,r)]) ⟨hgo,htk⟩ (Nat.sub_lt_sub_left hgo (Nat.lt_succ_self _)) ?_
          simp only [List.length_append,hn,List.length_singleton,grS,fS,dC,eP]
          refine bB [5] (by simp) ?_ ?_ <;> simp [-map_map,upd,aT,Γ0,aV,aO]
     ·have q1:¬ (i:Int)<M.length:=by omega
      rw [List.take_of_length_le (by omega)] at ho
      rw [ho]
      rcases hn:out.length with _ | m0
      ·have e0:out=[]:=List.eq_nil_of_length_eq_zero hn
       simp only [grS]
       simp [-map_map,-mapM_map,↓KW,aV,q1,e0]
      ·have e1:=fR cB hn
       have e2:=eW (by decide) cB hn
       have e3:=cE cB out
       rw [hn] at e3
       simp only [grS]
       simp [-map_map,-mapM_map,↓KW,aV,q1,e1,e2,e3,hn]
theorem aZz (Γ:Nat→AV):oev Γ (.const (.map none))=.d (.lit (.map none)):=rfl
theorem rec54:kH Tryz.prog 54:=by
 refine ⟨fun w=>enters_of Tryz.func54 (by kernel_rfl) rfl _ w,fun w=>?_⟩
 refine callsD_of_wpS Tryz.func54 rfl fun c₀ cs hu=>?_
 apply wpS_region
 simp [wpOpsS,go_sem,recoverD,hu,Tryz.ntmps54,bodyPostS,results,Tryz.results54]
 cases c₀; simp only at hu; subst hu; rfl
set_option maxHeartbeats 2000000 in
set_option maxRecDepth 10000 in
theorem bAy {c:List Cl} {F:Nat} (hc:MdX c) (hz:SzX F c) (hF:7 * F+400<4398046511104):Spec Tryz.prog 20 [aP c] (.tp [aP (nP c.length c (cU c [])).1,aV (nP c.length c (cU c [])).2]):=by
 have hlen:=hc.len
 have hS0:=ShI.one hc hz
 have hMp:=nW c [] (.lit (.map none)) rfl bOs (by omega)
 refine vN (N:=40) aF Tryz.func20 rfl rfl rfl (by kernel_rfl) (by kernel_rfl) (by kernel_rfl) (by kernel_rfl) rfl rec54 (by simp) ?_
 simp [-map_map,-mapM_map,↓KW,eG,dG,cX,bS,cJ]
 refine aA (ds:=[aP c,.lit (.map none)]) (by rfl) hMp ?_
 simp [-map_map,-mapM_map,↓KW,aZz,eG,dG,cX,bS,cJ,dE,cD,cS,bT,cH]
 refine (show ∃ R,nP c.length c (cU c [])=R from ⟨_,rfl⟩).elim fun R hR=>?_
 rw [hR]
 refine aU (fun y:Nat × Nat × List Cl × List (Int × Ch)=>ShI F c y.2.1 y.2.2.1 y.2.2.2∧y.2.2.1.length≤y.1∧nP y.1 y.2.2.1 y.2.2.2=R) (fun y=>StL [(0,.d (aP y.2.2.1)),(4,.d (aV y.2.2.2))] none []) (fun y=>y.2.2.1.length) (c.length,0,c,cU c []) ⟨hS0,Nat.le_refl _,hR⟩ ?_ ?_
 ·refine bB [] (by simp) ?_ ?_ <;> simp [-map_map,upd,aT,Γ0,aP,aV]
 ·clear hS0 hMp hR
  rintro ⟨n,j,c1,m1⟩ ⟨hS,hn,hR⟩
  simp only at hS hn hR ⊢
  have hj:=hS.len
  have hFr:=aFz hS.sz (by omega)
  cases hfr:fB c1 with
  | nil =>
   rw [zB hfr] at hR
   subst hR
   rw [hfr] at hFr
   have hpe:dW []=.sl []:=rfl
   simp [-map_map,-mapM_map,↓KW,cX,bS,cJ,cS,bT,cH]
   refine aA (ds:=[aP c1]) (by rfl) hFr ?_
   simp [-map_map,-mapM_map,↓KW,hpe,cX,bS,cJ,cS,bT,cH,iF,fQ]
   rfl
  | cons p l =>
   rw [hfr] at hFr
   have hp:p∈fB c1:=by rw [hfr]; exact List.mem_cons_self ..
   have hst:=hS.step hp
   obtain ⟨a,b⟩:=p
   obtain ⟨z,xa,xb,t⟩:=uP hS.v hp
   have h2:=uQ t hS.v.inc
   have hcolS:=zV a b hS.v.inc hS.sz hS.keys (by omega)
   rw [aGn hS.v t hp] at hcolS
   have hjb:j * (F+40)≤5 * (F+40):=Nat.mul_le_mul_right _ (by omega)
   have hcm:=t.comm hS.v
   have hkeys:∀ q∈cU c1 (mI c1 a b),Keys q.2:=fun q hq f hf=>by
    obtain ⟨i,hi,rfl⟩:=List.getElem_of_mem hq
    have hia:i<c1.length:=by rw [← hcm.len]; exact hi
    obtain ⟨y,hy,_⟩:=hcm.key i _ _ (List.getElem?_eq_getElem hia) (List.getElem?_eq_getElem hi) f hf
    obtain ⟨k1,k2⟩:=dT hy
    rw [← k2]; exact hS.inr (List.mem_filter.1 k1).1
   have hall:∀ q∈m1,∀ f∈q.2,∃ r∈cU c1 (mI c1 a b),r.1=f.1:=fun q hq f hf=>by
    obtain ⟨i,hi,rfl⟩:=List.getElem_of_mem hq
    have hia:i<c.length:=by rw [← hS.cm.len]; exact hi
    obtain ⟨y,hy,_⟩:=hS.cm.key i _ _ (List.getElem?_eq_getElem hia) (List.getElem?_eq_getElem hi) f hf
    obtain ⟨k1,k2⟩:=dT hy
    exact ⟨_,List.mem_map.2 ⟨y,k1,rfl⟩,k2⟩
   have hCm:=aVa hS.szm (aGo t hS.v hS.sz) (hcm.inc hS.v.inc) hall hkeys (by omega)
   obtain ⟨n0,rfl⟩:∃ n0,n=n0+1:=⟨n - 1,by have:=aLb hfr; omega⟩
   rw [vP hfr] at hR
   simp only at hst hR
   have hI2:ShI F c (j+1) (fV c1 a b) (iY m1 (cU c1 (mI c1 a b)))∧(fV c1 a b).length≤n0∧nP n0 (fV c1 a b) (iY m1 (cU c1 (mI c1 a b)))=R:=⟨hst,by omega,hR⟩
   have hlt:(fV c1 a b).length<c1.length:=by omega
   have hrs:kL (fV c1 a b,cU c1 (mI c1 a b),0)=.tp [aP (fV c1 a b),aV (cU c1 (mI c1 a b)),.i .i64 0]:=rfl
   rw [hrs] at hcolS
   refine (show ∃ c2,fV c1 a b=c2 from ⟨_,rfl⟩).elim fun c2 hc2=>?_
   refine (show ∃ m2,cU c1 (mI c1 a b)=m2 from ⟨_,rfl⟩).elim fun m2 hm2=>?_
   rw [hc2,hm2] at hcolS hI2
   rw [hc2] at hlt
   rw [hm2] at hCm
   refine (show ∃ m3,iY m1 m2=m3 from ⟨_,rfl⟩).elim fun m3 hm3=>?_
   rw [hm3] at hCm hI2
   have hq1:(((l.length:Int)+1 == 0):Bool)=false:=by simp; omega
   have hpe:dW ((a,b)::l)=.sl ([.i .i64 a,.i .i64 b]::l.map pO):=rfl
   clear hS hst hR t hc2 hm2 hm3 hfr hcm hkeys hall
   simp [-map_map,-mapM_map,↓KW,cX,bS,cJ,cS,bT,cH]
   refine aA (ds:=[aP c1]) (by rfl) hFr ?_
   simp [-map_map,-mapM_map,↓KW,hpe,hq1,cX,bS,cJ,cS,bT,cH,iF,fQ]
   refine aA (ds:=[aP c1,.i .i64 a,.i .i64 b]) (by rfl) hcolS ?_
   simp [-map_map,-mapM_map,↓KW,cX,bS,cJ,cS,bT,cH]
   refine aA (ds:=[aV m1,aV m2]) (by rfl) hCm ?_
   simp [-map_map,-mapM_map,↓KW,eG,dG,dE,cD,cX,bS,cJ,cS,bT,cH]
   refine aI (τ:=Nat × Nat × List Cl × List (Int × Ch)) (n0,j+1,c2,m3) hI2 hlt (bB [] (by simp) ?_ ?_) <;> simp [-map_map,upd,aT,Γ0,aP,aV]
end Go.Am
end

section
set_option linter.unusedVariables false
set_option linter.unusedSimpArgs false
open List (map_map mapM_map)
open Go Go.Am Go.Proofs
namespace Go.Am
set_option maxHeartbeats 4000000 in
set_option maxRecDepth 10000 in
theorem bOv (s:Int) (q:List Q4) (hs:0≤s∧s≤255) (hq:∀ y∈q,y.ok) (hql:q.length≤9223372036854775807) (hS:Spec Tryz.prog 8 [] (.b true)) :
  Spec Tryz.prog 5 [sR s q] (.b true):=by
 obtain ⟨c,sM,hc⟩:=bIz s q hs hq hql
 have hlen:=hc.len
 have hr:sR s q=.ag [.i .u8 s,.sl (q.map sS)]:=rfl
 obtain ⟨F,hF,hz⟩:=hc.sz
 have hP:=bAy hc hz (by omega)
 have hR:=aTz hc hz (by omega)
 obtain ⟨k,hI,hE⟩:=aQi (ShI.one hc hz) (Nat.le_refl c.length)
 generalize nP c.length c (cU c [])=R at *
 obtain ⟨d,m⟩:=R
 simp only at hP hR hI hE
 have hk:=hI.len
 have hjb:k * (F+40)≤5 * (F+40):=Nat.mul_le_mul_right _ (by omega)
 have hml:=hI.szm.len
 have hdl:=hI.sz.len
 have hcmp:bQj d m:=⟨fun x hx=>(hI.sz.bb x hx).sz (by omega),fun x hx=>by have:=hI.sz.bl x hx; omega,by omega,fun x hx=>(hI.szm.bb x hx).sz (by omega),fun x hx=>by have:=hI.szm.bl x hx; omega,by omega⟩
 have hIs:=bQu (r:=(d,m,0)) hcmp hcmp
 rw [decide_eq_true rfl,decide_eq_true rfl] at hIs
 have hV:=aZk hI.v hI.sz (by omega)
 have hFr:=aFz hI.sz (by omega)
 rw [hE] at hFr
 have hC:=aIp hI.cm hz hI.sz hI.v.val hI.szm (by omega) (by omega)
 have e1:wZ (d,m,0)=.ag [aP d,aV m,.i .i64 0]:=rfl
 rw [e1] at hR hIs
 have hpe:dW []=.sl []:=rfl
 clear hF hz hq hql hcmp hI hc
 refine aX (N:=39) aF Tryz.func5 rfl rfl rfl (by kernel_rfl) (by kernel_rfl) (by simp) ?_
 simp [-map_map,-mapM_map,↓KW,hr]
 refine aA (ds:=[]) (by rfl) hS ?_
 simp [-map_map,-mapM_map,↓KW,hr]
 refine aA (ds:=[sR s q]) (by rfl) sM ?_
 simp [-map_map,-mapM_map,↓KW,hr,eG,dG,cX,bS,cJ]
 refine aA (ds:=[aP c]) (by rfl) hP ?_
 simp [-map_map,-mapM_map,↓KW,eG,dG,cX,bS,cJ,cS,bT,cH]
 refine aA (ds:=[aP c]) (by rfl) hR ?_
 simp [-map_map,-mapM_map,↓KW,eG,dG,cX,bS,cJ,cS,bT,cH]
 refine aA (ds:=[.ag [aP d,aV m,.i .i64 0],aP d,aV m]) (by rfl) hIs ?_
 simp [-map_map,-mapM_map,↓KW,eG,dG,cX,bS,cJ,cS,bT,cH]
 refine aA (ds:=[aP d]) (by rfl) hV ?_
 simp [-map_map,-mapM_map,↓KW,eG,dG,cX,bS,cJ,cS,bT,cH]
 refine aA (ds:=[aP d]) (by rfl) hFr ?_
 simp [-map_map,-mapM_map,↓KW,hpe,eG,dG,cX,bS,cJ,cS,bT,cH,iF,fQ]
 refine aA (ds:=[aP c,aP d,aV m]) (by rfl) hC ?_
 simp [-map_map,-mapM_map,↓KW,]
end Go.Am
end

section
set_option linter.unusedVariables false
set_option linter.unusedSimpArgs false
namespace Go.Proofs
open Go.RowKit Go.Lib Go.Sort Go.Shelf
def Tryz.sortC_ren:Go.Shelf.Ren:=⟨fun | 14=>105 | 20=>130 | 21=>131 | 22=>132 | 23=>133 | 24=>134 | 25=>135 | 26=>136 | 27=>137 | 46=>155 | 47=>156 | 48=>157 | 49=>158 | 50=>159 | 15=>106 | 57=>179 | 28=>138 | 29=>139 | n=>n,fun | 24=>47 | 22=>26 | 3=>3 | 25=>110 | 4=>4 | 0=>0 | 46=>175 | 45=>174 | 50=>133 | 66=>194 | 39=>122 | 55=>119 | 70=>198 | 76=>221 | 77=>202 | 53=>121 | 5=>5 | 9=>9 | n=>n,fun n=>n⟩
theorem Tryz.sortC:Go.Proofs.SlLaysF0.n14 Tryz.prog Tryz.sortC_ren:={
 mixed:=by kernel_rfl,
 f14:=⟨Tryz.f105.name,by decide,Tryz.func105.trans (congrArg some (by kernel_rfl))⟩,
 f15:=Tryz.func106.trans (congrArg some (by kernel_rfl)),
 f20:=⟨Tryz.f130.name,by decide,Tryz.func130.trans (congrArg some (by kernel_rfl))⟩,
 f21:=⟨Tryz.f131.name,by decide,Tryz.func131.trans (congrArg some (by kernel_rfl))⟩,
 f22:=⟨Tryz.f132.name,by decide,Tryz.func132.trans (congrArg some (by kernel_rfl))⟩,
 f23:=⟨Tryz.f133.name,by decide,Tryz.func133.trans (congrArg some (by kernel_rfl))⟩,
 f24:=⟨Tryz.f134.name,by decide,Tryz.func134.trans (congrArg some (by kernel_rfl))⟩,
 f25:=⟨Tryz.f135.name,by decide,Tryz.func135.trans (congrArg some (by kernel_rfl))⟩,
 f26:=⟨Tryz.f136.name,by decide,Tryz.func136.trans (congrArg some (by kernel_rfl))⟩,
 f27:=⟨Tryz.f137.name,by decide,Tryz.func137.trans (congrArg some (by kernel_rfl))⟩,
 f28:=Tryz.func138.trans (congrArg some (by kernel_rfl)),
 f29:=Tryz.func139.trans (congrArg some (by kernel_rfl)),
 f46:=⟨Tryz.f155.name,by decide,Tryz.func155.trans (congrArg some (by kernel_rfl))⟩,
 f47:=Tryz.func156.trans (congrArg some (by kernel_rfl)),
 f48:=Tryz.func157.trans (congrArg some (by kernel_rfl)),
 f49:=⟨Tryz.f158.name,by decide,Tryz.func158.trans (congrArg some (by kernel_rfl))⟩,
 f50:=⟨Tryz.f159.name,by decide,Tryz.func159.trans (congrArg some (by kernel_rfl))⟩,
 f57:=⟨Tryz.f179.name,by decide,Tryz.func179.trans (congrArg some (by kernel_rfl))⟩,
 t0:=Tryz.underlying0,
 a0:=Tryz.isAgg0,
 z0:=Tryz.sizeOf0,
 v0:=Tryz.zeroValue0,
 t3:=Tryz.underlying3,
 a3:=Tryz.isAgg3,
 z3:=Tryz.sizeOf3,
 v3:=Tryz.zeroValue3,
 t4:=Tryz.underlying4,
 a4:=Tryz.isAgg4,
 z4:=Tryz.sizeOf4,
 v4:=Tryz.zeroValue4,
 t5:=Tryz.underlying5,
 a5:=Tryz.isAgg5,
 z5:=Tryz.sizeOf5,
 v5:=Tryz.zeroValue5,
 t9:=Tryz.underlying9,
 a9:=Tryz.isAgg9,
 z9:=Tryz.sizeOf9,
 v9:=Tryz.zeroValue9,
 t22:=Tryz.underlying26,
 a22:=Tryz.isAgg26,
 z22:=Tryz.sizeOf26,
 v22:=Tryz.zeroValue26,
 t25:=Tryz.underlying110,
 a25:=Tryz.isAgg110,
 z25:=Tryz.sizeOf110,
 v25:=Tryz.zeroValue110,
 t39:=Tryz.underlying122,
 a39:=Tryz.isAgg122,
 z39:=Tryz.sizeOf122,
 v39:=Tryz.zeroValue122,
 t45:=Tryz.underlying174,
 a45:=Tryz.isAgg174,
 z45:=Tryz.sizeOf174,
 v45:=Tryz.zeroValue174,
 t46:=Tryz.underlying175,
 a46:=Tryz.isAgg175,
 z46:=Tryz.sizeOf175,
 v46:=Tryz.zeroValue175,
 t50:=Tryz.underlying133,
 a50:=Tryz.isAgg133,
 z50:=Tryz.sizeOf133,
 v50:=Tryz.zeroValue133,
 t53:=Tryz.underlying121,
 a53:=Tryz.isAgg121,
 z53:=Tryz.sizeOf121,
 v53:=Tryz.zeroValue121,
 t55:=Tryz.underlying119,
 a55:=Tryz.isAgg119,
 z55:=Tryz.sizeOf119,
 v55:=Tryz.zeroValue119,
 t66:=Tryz.underlying194,
 a66:=Tryz.isAgg194,
 z66:=Tryz.sizeOf194,
 v66:=Tryz.zeroValue194,
 t70:=Tryz.underlying198,
 a70:=Tryz.isAgg198,
 z70:=Tryz.sizeOf198,
 v70:=Tryz.zeroValue198,
 t76:=Tryz.underlying221,
 a76:=Tryz.isAgg221,
 z76:=Tryz.sizeOf221,
 v76:=Tryz.zeroValue221,
 t77:=Tryz.underlying202,
 a77:=Tryz.isAgg202,
 z77:=Tryz.sizeOf202,
 v77:=Tryz.zeroValue202 }
section
variable {α:Type} [Inhabited α]
set_option maxHeartbeats 4000000 in
set_option maxRecDepth 100000 in
theorem Tryz.sortFuncC (enc:α→List Value) (hk:∀ x,(enc x).length=3) (h1:∀ x,∀ v∈enc x,v.oneCell'=true) (cf:α→α→Int) (hO:SWO (ltOf cf)) (g:Nat) (cb:Array Value) (blk off cap:Nat) (d:Array α) (w:World)
  (eg:∀ args w,(callFunc g args).run Tryz.prog w=.ok (.enter g args) w) (hcmp:CmpLays Tryz.prog g cb enc 3 cf blk off d.size w) (hH:HoldsK enc 3 w blk off d) (hblk:blk<w.heap.size) (hsz:d.size<4611686018427387904) :
  Calls Tryz.prog 68 #[.slice (some ⟨blk,off,none⟩) d.size cap,.func (.func g) #[] cb] w fun e w' =>
   e=.returned (.tuple #[])∧∃ n os,w'=sortWorldK enc 3 w blk off n (pdq (ltOf cf) d 0 d.size (Lib.bitLen d.size) true true) os:=by
 have e14:∀ args w,(callFunc 105 args).run Tryz.prog w=.ok (.enter 105 args) w:=enters_of Tryz.func105 (by kernel_rfl) rfl
 have e15:∀ args w,(callFunc 106 args).run Tryz.prog w=.ok (.enter 106 args) w:=enters_of Tryz.func106 (by kernel_rfl) rfl
 have hlim:Lib.bitLen d.size<4611686018427387904:=Nat.lt_of_le_of_lt (Lib.bitLen_le d.size 62 (by omega) (by omega)) (by omega)
 have hp:=AnyQ.pdqsortCmpFunc_all Tryz.sortC 3 Tryz.isAgg47 Tryz.sizeOf47 enc cf g cb hO blk off cap d w eg hcmp ⟨hk,h1,hH,hblk⟩ (d.size+1) 0 d.size (Lib.bitLen d.size) d w (by omega) rfl (SWK.start hH) (Nat.zero_le _) (Nat.le_refl _) hsz hlim (Or.inl rfl)
 have hl:Calls Tryz.prog 106 #[.int .u64 (d.size:Int)] w fun e w'=>e=.returned (.int .i64 (Lib.bitLen d.size:Nat))∧w'=w:=by
  have h:=Any.bits_Len (SlLaysF0.n15.bits (P:=Tryz.prog) (ρ:=Tryz.sortC_ren) { Tryz.sortC with }) (d.size:Int) w (by omega) (by omega)
  rwa [Int.toNat_natCast] at h
 change Calls Tryz.prog 105 _ _ _ at hp
 have wr:IntKind.u64.wrap (d.size:Int)=d.size:=by simp [IntKind.wrap,IntKind.bits,IntKind.signed]; omega
 clear hH hcmp hk h1
 go_enter Tryz.func68,Tryz.ntmps68
 go_wp2_with (first | (go_at_call 106; refine hl.mono ?_; rintro e w' ⟨rfl,rfl⟩) | (go_at_call 105; refine hp.mono ?_; rintro e w' ⟨rfl,n,os,rfl⟩))
 go_end0
 exact ⟨rfl,n,os,rfl⟩
end
end Go.Proofs
end

section
set_option linter.unusedVariables false
set_option linter.unusedSimpArgs false
open Go Go.Am
namespace Go.Proofs
open Go.RowKit Go.Lib Go.Sort Go.Shelf
def Tryz.cmpC_ren:Go.Shelf.Ren:=⟨fun | 5=>70 | 7=>107 | n=>n,fun | 22=>3 | 3=>3 | 4=>4 | n=>n,fun | n=>n⟩
theorem Tryz.cmpC:Go.Proofs.SlLaysC2.n5 Tryz.prog Tryz.cmpC_ren:={
 mixed:=by kernel_rfl,
 f5:=⟨"cmp.Compare[int]",by decide,Tryz.func70.trans (congrArg some (by kernel_rfl))⟩,
 f7:=⟨"cmp.isNaN[int]",by decide,Tryz.func107.trans (congrArg some (by kernel_rfl))⟩,
 t3:=Tryz.underlying3,
 a3:=Tryz.isAgg3,
 z3:=Tryz.sizeOf3,
 v3:=Tryz.zeroValue3,
 t4:=Tryz.underlying4,
 a4:=Tryz.isAgg4,
 z4:=Tryz.sizeOf4,
 v4:=Tryz.zeroValue4,
 t22:=Tryz.underlying3,
 a22:=Tryz.isAgg3,
 z22:=Tryz.sizeOf3,
 v22:=Tryz.zeroValue3 }
structure Cv where
 id:Int
 dim:Int
 v:Value
 h1:v.oneCell'=true
instance : Inhabited Cv := ⟨⟨0, 0, .bool false, rfl⟩⟩
def aCe (x:Cl) (v:Value):Cv:=if h:v.oneCell'=true then ⟨x.id,x.dim,v,h⟩ else ⟨x.id,x.dim,.bool false,rfl⟩
def oE (x:Cv):List Value:=[.int .i64 x.id,.int .i64 x.dim,x.v]
def cfC (x y:Cv):Int:=Lib.compareInt x.id y.id
theorem ltC (x y:Cv):ltOf cfC x y=decide (x.id<y.id):=by
 unfold ltOf cfC Lib.compareInt
 by_cases h1:x.id<y.id
 ·simp [h1]
 ·by_cases h2:y.id<x.id <;> simp [h1,h2]
theorem bQq:SWO (ltOf cfC) where
 irrefl x:=by rw [ltC]; simp
 trans x y z h1 h2:=by rw [ltC] at *; simp at *; omega
 ntrans x y z h1 h2:=by rw [ltC] at *; simp at *; omega
set_option maxHeartbeats 1000000 in
theorem Tryz.closC (x y:Cv) (W:World):Calls Tryz.prog 69 #[.agg #[.int .i64 x.id,.int .i64 x.dim,x.v],.agg #[.int .i64 y.id,.int .i64 y.dim,y.v]] W fun e w'=>e=.returned (.int .i64 (Lib.compareInt x.id y.id))∧∃ q os',w'=grow (W.drewN q) os':=by
 have hcon:=fun W'=>AnyG.cmp_Compare_int Tryz.cmpC x.id y.id W'
 change ∀ W',Calls Tryz.prog 70 _ _ _ at hcon
 generalize Lib.compareInt x.id y.id=r at hcon ⊢
 obtain ⟨xi,xd,xv,xh⟩:=x
 obtain ⟨yi,yd,yv,yh⟩:=y
 simp only at hcon ⊢
 go_enter Tryz.func69,Tryz.ntmps69
 go_wp2_with (go_at_call 70; refine (hcon _).mono ?_; rintro e w' ⟨rfl,rfl⟩)
 go_ret
 exact ⟨rfl,0,_,by rw [alloc_eq_grow,alloc_eq_grow,grow_grow]; rfl⟩
theorem aFt {α β:Type} (f:α→β) {l' l:List β} (h:l'.Perm l):∀ {M:List α},M.map f=l→∃ M':List α,M'.Perm M∧l'=M'.map f:=by
 induction h with
 | nil=>intro M hM; exact ⟨M,.refl _,by rw [hM]⟩
 | cons x p ih =>
  intro M hM
  cases M with
  | nil=>cases hM
  | cons a M =>
   injection hM with h1 h2
   obtain ⟨M',h3,h4⟩:=ih h2
   exact ⟨a::M',h3.cons a,by rw [List.map_cons,h1,h4]⟩
 | swap x y l =>
  intro M hM
  match M,hM with
  | a::c::M,hM =>
   injection hM with h1 h2
   injection h2 with h2 h3
   exact ⟨c::a::M,.swap ..,by simp [h1,h2,h3]⟩
 | trans h1 h2 ih1 ih2 =>
  intro M hM
  obtain ⟨M2,h3,h4⟩:=ih2 hM
  obtain ⟨M1,h5,h6⟩:=ih1 h4.symm
  exact ⟨M1,h5.trans h3,h6⟩
theorem aKp {L' L:List Cl} (hs:Inc L) (hp:L'.Perm L) (hw:L'.Pairwise fun x y=>x.id≤y.id):L'=L:=by
 induction L generalizing L' with
 | nil=>exact hp.eq_nil
 | cons a L ih =>
  obtain ⟨h1,h2⟩:=List.pairwise_cons.1 hs
  cases L' with
  | nil=>exact absurd hp.symm.eq_nil (by simp)
  | cons a' L' =>
   obtain ⟨h3,h4⟩:=List.pairwise_cons.1 hw
   have e:a'=a:=by
    rcases List.mem_cons.1 (hp.mem_iff.1 (List.mem_cons_self ..)) with h | h
    ·exact h
    ·rcases List.mem_cons.1 (hp.mem_iff.2 (List.mem_cons_self ..)) with h' | h'
     ·exact h'.symm
     ·have:=h1 _ h; have:=h3 _ h'; omega
   subst e
   rw [ih h2 (List.Perm.cons_inv hp) h4]
theorem aGi {α:Type} {f:α→List D} {k:Nat} (h:∀ x,(f x).length=k):∀ (l:List α) (j c:Nat) (x:α),l[j]? = some x→c<k→(flt f l)[j * k+c]? = (f x)[c]?
 | [],j,c,x,hx,_=>by simp at hx
 | y::l,0,c,x,hx,hc=>by
  simp at hx; subst hx
  rw [Nat.zero_mul,Nat.zero_add,show flt f (y::l)=f y++flt f l from by simp [flt],List.getElem?_append_left (by rw [h]; exact hc)]
 | y::l,j+1,c,x,hx,hc=>by
  rw [show flt f (y::l)=f y++flt f l from by simp [flt],List.getElem?_append_right (by rw [h,Nat.add_mul]; omega),h,show (j+1) * k+c - k=j * k+c by rw [Nat.add_mul]; omega]
  exact aGi h l j c x (by simpa using hx) hc
theorem aTn {els:List (List D)} {A:Nat→Prop} {W:World} {v:Value} (h:VD A W (.sl els) v):v.oneCell'=true:=by
 obtain ⟨ad,c,rfl,_⟩:=mN h; rfl
set_option maxHeartbeats 1000000 in
theorem Tryz.sortO {L L':List Cl} (hp:L'.Perm L) (hs:Inc L') (hl:L.length<4611686018427387904) :
  lL Tryz.prog 68 (.own 0 0 L.length 3) (.cells 47 ((flt bK L).map .d)) [.lit (.func (.func 69) #[] #[])] (.cells 47 ((flt bK L').map .d)) (.tp []):=by
 intro A W vs b hA hnb hb hob hlen hv0 hds
 obtain ⟨ob,hob,hcr⟩:=hob
 obtain ⟨v0,hv0,hV0⟩:=hv0
 have hsz:vs.size=2:=by simpa using hlen.symm
 obtain ⟨v1,hv1⟩:∃ v1,vs[1]? = some v1:=⟨vs[1],Array.getElem?_eq_getElem (by omega)⟩
 have hvs:vs=#[v0,v1]:=by
  apply Array.ext_getElem?
  intro k
  match k with
  | 0=>simpa using hv0
  | 1=>simpa using hv1
  | k+2=>rw [Array.getElem?_eq_none (by omega)]; simp
 have h1:=hds 0 _ v1 rfl hv1
 cases h1
 cases hV0 with
 | own _ _ _ _ b' cap cur e hι hb' hcap hlc hm =>
 have hbb:b'=b:=by
  unfold ι1 at hι; simp at hι; exact hι.symm
 subst hbb
 rw [hob] at hb'
 injection hb' with hb'
 subst hb'
 subst hvs
 generalize hn:L.length=n at hlc hcap hl
 have hent:∀ w,(callFunc 68 #[.slice (some ⟨b',0 * 3,none⟩) n cap,.func (.func 69) #[] #[]]).run Tryz.prog w=.ok (.enter 68 #[.slice (some ⟨b',0 * 3,none⟩) n cap,.func (.func 69) #[] #[]]) w:=enters_of Tryz.func68 (by kernel_rfl) rfl _
 refine ⟨hent,?_⟩
 cases hcr with
 | cells _ _ _ hle hcell =>
 have hat:∀ (j c:Nat) (x:Cl),L[j]? = some x→c<3→∃ y u,(bK x)[c]? = some y∧cur[j * 3+c]? = some u∧VD A W y u:=by
  intro j c x hx hc
  have h2:=aGi dN L j c x hx hc
  obtain ⟨y,hy⟩:∃ y,(bK x)[c]? = some y:=⟨_,List.getElem?_eq_getElem (by rw [dN]; exact hc)⟩
  obtain ⟨u,hu,hV⟩:=hcell (j * 3+c) (.d y) (by rw [List.getElem?_map,h2,hy]; rfl)
  cases hV with
  | d _ _ h=>exact ⟨y,u,hy,hu,h⟩
 let M:List (Cl × Value):=L.mapIdx fun j x=>(x,(cur[j * 3+2]?).getD default)
 have hMl:M.length=n:=by simp [M,hn]
 have hMj:∀ j x,L[j]? = some x→M[j]? = some (x,(cur[j * 3+2]?).getD default):=fun j x hx=>by simp [M,List.getElem?_mapIdx,hx]
 have hM1:M.map Prod.fst=L:=by
  apply List.ext_getElem?
  intro j
  rw [List.getElem?_map]
  cases hx:L[j]? with
  | none=>simp [M,List.getElem?_mapIdx,hx]
  | some x=>rw [hMj j x hx]; rfl
 have hM2:∀ p∈M,VD A W (aO p.1.b) p.2:=by
  intro p hpm
  obtain ⟨j,hj⟩:=List.getElem?_of_mem hpm
  have hjl:j<L.length:=by rw [hn,← hMl]; exact (List.getElem?_eq_some_iff.1 hj).1
  have hx:L[j]? = some L[j]:=List.getElem?_eq_getElem hjl
  rw [hMj j _ hx] at hj
  injection hj with hj
  obtain ⟨y,u,hy,hu,hV⟩:=hat j 2 _ hx (by omega)
  subst hj
  simp only [bK] at hy
  simp at hy
  subst hy
  rw [hu]; exact hV
 have hM3:∀ p∈M,p.2.oneCell'=true:=fun p hpm=>aTn (hM2 p hpm)
 let d:Array Cv:=(M.map fun p=>aCe p.1 p.2).toArray
 have hds:d.size=n:=by simp [d,hMl]
 have hmk:∀ p∈M,oE (aCe p.1 p.2)=[.int .i64 p.1.id,.int .i64 p.1.dim,p.2]:=fun p hpm=>by
  unfold aCe; rw [dif_pos (hM3 p hpm)]; rfl
 have hH:HoldsK oE 3 W b' 0 d:=by
  intro t ht
  rw [size_flatK,hds] at ht
  have hj:t / 3<L.length:=by rw [hn]; omega
  have hx:L[t / 3]? = some L[t / 3]:=List.getElem?_eq_getElem hj
  have hd:d[t / 3]! = aCe L[t / 3] ((cur[t / 3 * 3+2]?).getD default):=by
   rw [getElem!_pos d (t / 3) (by rw [hds,← hn]; exact hj)]
   have:=hMj _ _ hx
   have h3:=(List.getElem?_eq_some_iff.1 this).2
   simp only [d,List.getElem_toArray,List.getElem_map,h3]
  have hmem:(L[t / 3],(cur[t / 3 * 3+2]?).getD default)∈M:=List.mem_of_getElem? (hMj _ _ hx)
  rw [get_flatK _ _ _ _ (by rw [hds]; exact ht),hd,hmk _ hmem]
  constructor
  ·simp only [World.cell?,hob,Nat.zero_add,id]
   obtain ⟨y,u,hy,hu,hV⟩:=hat (t / 3) (t % 3) _ hx (Nat.mod_lt _ (by omega))
   rw [Nat.div_add_mod' t 3] at hu
   simp only [Option.isSome_none,Bool.false_eq_true,if_false,hu]
   rcases (by omega:t % 3=0∨t % 3=1∨t % 3=2) with hc | hc | hc
   ·rw [hc] at hy ⊢; simp [bK] at hy; subst hy; cases hV; rfl
   ·rw [hc] at hy ⊢; simp [bK] at hy; subst hy; cases hV; rfl
   ·have:t / 3 * 3+2=t:=by omega
    rw [hc,this,hu]; rfl
  ·simp only [World.frozen?,hob]; simp
 have eg:∀ args w,(callFunc 69 args).run Tryz.prog w=.ok (.enter 69 args) w:=enters_of Tryz.func69 (by kernel_rfl) rfl
 have hcall:=Tryz.sortFuncC oE (fun _=>rfl) (fun x v hv=>by simp [oE] at hv; rcases hv with rfl | rfl | rfl; rfl; rfl; exact x.h1) cfC bQq 69 #[] b' 0 cap d W eg (fun _ _ _ _ x y=>Tryz.closC x y _) hH hb (by rw [hds]; exact hl)
 rw [hds] at hcall
 refine hcall.mono ?_
 rintro e' w' ⟨rfl,q,os,rfl⟩
 have hpd:=pdq_sorts (ltOf cfC) bQq d 0 n (Lib.bitLen n) true true (Nat.zero_le _) (by rw [hds]; exact Nat.le_refl _) (Or.inl rfl)
 generalize pdq (ltOf cfC) d 0 n (Lib.bitLen n) true true=d' at hpd ⊢
 obtain ⟨⟨hd1,_,hd2⟩,hso⟩:=hpd
 rw [hds] at hd1
 have hdp:d'.toList.Perm d.toList:=by
  have e1:d'.extract 0 n=d':=by rw [← hd1]; simp
  have e2:d.extract 0 n=d:=by rw [← hds]; simp
  rwa [e1,e2] at hd2
 obtain ⟨M',hM',hdM⟩:=aFt (fun p:Cl × Value=>aCe p.1 p.2) hdp (M:=M) (by simp [d])
 have hlM:M'.length=n:=by rw [hM'.length_eq,hMl]
 have hidk:∀ p:Cl × Value,(aCe p.1 p.2).id=p.1.id:=fun p=>by unfold aCe; split <;> rfl
 have hdj:∀ j (h:j<M'.length),d'[j]! = aCe M'[j].1 M'[j].2:=fun j h=>by
  rw [getElem!_pos d' j (by rw [hd1,← hlM]; exact h),← Array.getElem_toList]
  simp only [hdM,List.getElem_map]
 have hLM:M'.map Prod.fst=L':=by
  refine aKp hs (((hM'.map Prod.fst).trans (by rw [hM1])).trans hp.symm) ?_
  rw [List.pairwise_iff_getElem]
  intro i j hi hj hij
  rw [List.length_map] at hi hj
  have:=hso i j (Nat.zero_le _) hij (by rw [← hlM]; exact hj)
  rw [hdj j hj,hdj i hi,ltC,hidk,hidk] at this
  simp at this
  simpa using this
 have hM2':∀ p∈M',VD A W (aO p.1.b) p.2∧oE (aCe p.1 p.2)=[.int .i64 p.1.id,.int .i64 p.1.dim,p.2]:=fun p hpm=>⟨hM2 p (hM'.mem_iff.1 hpm),hmk p (hM'.mem_iff.1 hpm)⟩
 have hw:(sortWorldK oE 3 W b' 0 q d' os).heap=W.heap.modify b' (onCells (putCells id 0 (flatK oE 3 d')))++os:=rfl
 have hblk:∀ k,k<W.heap.size→k≠b'→(sortWorldK oE 3 W b' 0 q d' os).heap[k]? = W.heap[k]? := fun k hk hkb=>by
  rw [hw,Array.getElem?_append_left (by simpa using hk),Array.getElem?_modify,if_neg (Ne.symm hkb)]
 have hbl:(sortWorldK oE 3 W b' 0 q d' os).heap[b']? = some (.cells (putCells id 0 (flatK oE 3 d') cur) 47 (0,0)):=by
  rw [hw,Array.getElem?_append_left (by simpa using hb),Array.getElem?_modify,if_pos rfl,hob]; rfl
 have hszc:(putCells id 0 (flatK oE 3 d') cur).size=cur.size:=by simp [putCells]
 refine ⟨_,_,rfl,⟨rfl,rfl,rfl,by rw [hw]; simp,fun k hk hkb=>hblk k hk hkb,fun k c e hk hc=>?_⟩,hbl,fun c e hc=>?_,?_,.tp _ _ rfl (fun k c v hk=>by simp at hk)⟩
 ·by_cases hkb:k=b'
  ·subst hkb
   rw [hob] at hc; injection hc with hc; injection hc with hc1 hc2; subst hc1; subst hc2
   exact ⟨_,hbl,hszc⟩
  ·exact ⟨c,(hblk k hk hkb).trans hc,rfl⟩
 ·rw [hob] at hc; injection hc with hc; injection hc with hc1 hc2; subst hc1; subst hc2
  exact ⟨_,rfl,hszc⟩
 ·have hLl:L'.length=n:=by rw [← hLM,List.length_map,hlM]
  refine .cells _ _ _ (by rw [List.length_map,cE dN,hLl,hszc]; rw [List.length_map,cE dN,hn] at hle; exact hle) ?_
  intro k c hk
  have hkl:k<n * 3:=by
   have:=(List.getElem?_eq_some_iff.1 hk).1
   rw [List.length_map,cE dN,hLl] at this; exact this
  have hj:k / 3<M'.length:=by rw [hlM]; omega
  have hx:L'[k / 3]? = some M'[k / 3].1:=by
   rw [← hLM,List.getElem?_map,List.getElem?_eq_getElem hj]; rfl
  have h2:=aGi dN L' (k / 3) (k % 3) _ hx (Nat.mod_lt _ (by omega))
  rw [Nat.div_add_mod' k 3] at h2
  have hcs:k<cur.size:=by
   rw [List.length_map,cE dN,hn] at hle; omega
  obtain ⟨hv1,hv2⟩:=hM2' _ (List.getElem_mem hj)
  have hcell':(putCells id 0 (flatK oE 3 d') cur)[k]? = some (oE (aCe M'[k / 3].1 M'[k / 3].2))[k % 3]! := by
   simp only [putCells,Array.getElem?_mapIdx,Array.getElem?_eq_getElem hcs,Option.map_some,size_flatK,hd1]
   rw [if_pos ⟨Nat.zero_le _,by omega⟩,Nat.sub_zero,get_flatK _ _ _ _ (by rw [hd1]; exact hkl),hdj _ hj]; rfl
  rw [hv2] at hcell'
  refine ⟨_,hcell',?_⟩
  rw [List.getElem?_map,h2] at hk
  rcases (by omega:k % 3=0∨k % 3=1∨k % 3=2) with hc | hc | hc
  ·rw [hc] at hk ⊢; simp [bK] at hk; subst hk; exact .d _ _ (.i ..)
  ·rw [hc] at hk ⊢; simp [bK] at hk; subst hk; exact .d _ _ (.i ..)
  ·rw [hc] at hk ⊢; simp [bK] at hk; subst hk
   exact .d _ _ (hv1.step (fun x hx=>.inl hx) fun x hx=>hblk x (hA x hx) fun h=>hnb (h ▸ hx))
end Go.Proofs
end

section
set_option linter.unusedVariables false
set_option linter.unusedSimpArgs false
open Go Go.Am Go.Proofs
namespace Go.Am
def eqL {α:Type} (f:α→α→Bool):List α→List α→Bool
 | [],[]=>true
 | x::a,y::b=>f x y && eqL f a b
 | _,_=>false
theorem aAu {α:Type} {f:α→α→Bool} (h:∀ x y,f x y=true→x=y):∀ (a b:List α),eqL f a b=true→a=b
 | [],[],_=>rfl
 | x::a,y::b,e=>by
  simp only [eqL,Bool.and_eq_true] at e
  rw [h _ _ e.1,aAu h _ _ e.2]
 | [],_::_,e=>by cases e
 | _::_,[],e=>by cases e
def eqD:Nat→D→D→Bool
 | 0,_,_=>false
 | n+1,x,y=>match x,y with
  | .b p,.b q=>p == q
  | .i k a,.i l b=>decide (k=l) && decide (a=b)
  | .sl a,.sl b=>eqL (eqL (eqD n)) a b
  | .ag a,.ag b=>eqL (eqD n) a b
  | _,_=>false
theorem aOj:∀ (n:Nat) (x y:D),eqD n x y=true→x=y
 | 0,_,_,h=>by cases h
 | n+1,x,y,h=>by
  have ih:=aOj n
  unfold eqD at h
  split at h
  ·simp only [beq_iff_eq] at h; rw [h]
  ·simp only [Bool.and_eq_true,decide_eq_true_eq] at h; rw [h.1,h.2]
  ·rw [aAu (aAu ih) _ _ h]
  ·rw [aAu ih _ _ h]
  ·cases h
/-! Data with coefficients of one digit, as it stands -/
def bDi (f:Int × Int):List D:=[.i .i64 f.1,.b (decide (f.2<0)),.sl [[.i .u32 (f.2.natAbs:Int)]]]
def uL (l:Ch):D:=.sl (l.map bDi)
def pN (c:List Cl):D:=.sl (c.map fun x=>[.i .i64 x.id,.i .i64 x.dim,uL x.b])
def dg (f:Int × Int):Bool:=decide (0<f.2.natAbs) && decide (f.2.natAbs<4294967296)
theorem bDh {f:Int × Int} (h:dg f=true):fD f=bDi f:=by
 simp only [dg,Bool.and_eq_true,decide_eq_true_eq] at h
 simp [fD,bDi,aG,bDq h.1 h.2]
theorem qN {l:Ch} (h:l.all dg=true):aO l=uL l:=by
 unfold aO uL
 congr 1
 exact List.map_congr_left fun f hf=>bDh (List.all_eq_true.1 h f hf)
theorem aAw {c:List Cl} (h:(c.all fun x=>x.b.all dg)=true):aP c=pN c:=by
 unfold aP pN
 congr 1
 refine List.map_congr_left fun x hx=>?_
 rw [← qN (List.all_eq_true.1 h x hx)]; rfl
theorem aZw {P:Program} {f:FuncId} {h:AV} {o o1 o':HO} {ds:List D} {r:D} (hcr:∀ A W ι ob,CR A W ι o1 ob→CR A W ι o ob) (hs:lL P f h o ds o' r):lL P f h o1 ds o' r :=
 fun A W vs b hA hnb hb ⟨ob,hob,hc⟩ hl hv hd=>hs A W vs b hA hnb hb ⟨ob,hob,hcr _ _ _ _ hc⟩ hl hv hd
def leA:AV→AV→Bool
 | .d x,.d y=>eqD 8 x y
 | .nil,.d (.sl [])=>true
 | _,_=>false
theorem bRv {x y:AV} {F:Nat→Prop} {w:World} {ι:Nat→Option Nat} {v:Value} (h:leA x y=true) (hv:V F w ι x v):V F w ι y v:=by
 unfold leA at h
 split at h
 ·rw [← aOj _ _ _ h]; exact hv
 ·cases hv; exact .d _ _ (.sl0 none 0)
 ·cases h
theorem bOu {x y:List AV} (h:eqL leA x y=true):x.length=y.length∧∀ (k:Nat) b,y[k]? = some b→∃ a,x[k]? = some a∧leA a b=true:=by
 induction x generalizing y with
 | nil=>cases y with
  | nil=>exact ⟨rfl,fun k b h=>by simp at h⟩
  | cons=>cases h
 | cons a x ih=>cases y with
  | nil=>cases h
  | cons b y =>
   simp only [eqL,Bool.and_eq_true] at h
   obtain ⟨h1,h2⟩:=ih h.2
   refine ⟨by simp [h1],fun k c hc=>?_⟩
   cases k with
   | zero=>simp at hc; subst hc; exact ⟨a,rfl,h.1⟩
   | succ k=>exact h2 k c (by simpa using hc)
def leO:HO→HO→Bool
 | .cells e a,.cells e' b=>decide (e=e') && eqL leA a b
 | _,_=>false
theorem bOt {o1 o:HO} (h:leO o1 o=true) (A:Nat→Prop) (W:World) (ι:Nat→Option Nat) (ob:Obj) (hc:CR A W ι o1 ob):CR A W ι o ob:=by
 unfold leO at h
 split at h
 ·simp only [Bool.and_eq_true,decide_eq_true_eq] at h
  obtain ⟨rfl,h⟩:=h
  obtain ⟨h1,h2⟩:=bOu h
  cases hc with
  | cells _ _ cur hl hh =>
   refine .cells _ _ cur (by omega) fun k c hk=>?_
   obtain ⟨a,ha,hle⟩:=h2 k c hk
   obtain ⟨u,hu,hV⟩:=hh k a ha
   exact ⟨u,hu,bRv hle hV⟩
 ·cases h
def bRr:List D→Bool
 | [.lit (.func (.func g) a b)]=>g == 69 && a.isEmpty && b.isEmpty
 | _=>false
def bQw (n:Nat):AV→Bool
 | .own 0 0 m 3=>m == n
 | _=>false
def E31 (T:List (FuncId × List D × D)) (n:Nat) (o o':HO):Kn:={ E0 with
 call:=fun f ds=>match T.find? (fun p=>p.1 == f && eqL (eqD 8) ds p.2.1) with
   | some p=>some p.2.2
   | none=>E0.call f ds
 ocall:=fun f h o1 ds=>if f=68∧bQw n h=true∧leO o1 o=true∧bRr ds=true then some (o',.tp []) else none
 recs:=fun g=>E0.recs g || [43,79,54,65].contains g }
theorem bQr:kH Tryz.prog 65:=by
 refine ⟨fun w=>enters_of Tryz.func65 (by kernel_rfl) rfl _ w,fun w=>?_⟩
 refine callsD_of_wpS Tryz.func65 rfl fun c₀ cs hu=>?_
 apply wpS_region
 simp [wpOpsS,go_sem,recoverD,hu,Tryz.ntmps65,bodyPostS,results,Tryz.results65]
 cases c₀; simp only at hu; subst hu; rfl
theorem bQi {T:List (FuncId × List D × D)} {n:Nat} {o o':HO} (hT:∀ p∈T,Spec Tryz.prog p.1 p.2.1 p.2.2)
  (hS:lL Tryz.prog 68 (.own 0 0 n 3) o [.lit (.func (.func 69) #[] #[])] o' (.tp [])):aCn Tryz.prog (E31 T n o o'):=by
 have h0:=bMo
 refine ⟨fun f ds r hc=>?_,fun f h o1 ds o2 r hc=>?_,h0.keys,h0.sorted,fun g hg=>?_⟩
 ·simp only [E31] at hc
  split at hc
  ·rename_i p hp
   injection hc with hc; subst hc
   have h1:=List.find?_some hp
   simp only [Bool.and_eq_true,beq_iff_eq] at h1
   rw [← h1.1,aAu (aOj 8) _ _ h1.2]
   exact hT p (List.mem_of_find?_eq_some hp)
  ·exact h0.call _ _ _ hc
 ·simp only [E31] at hc
  split at hc
  ·rename_i hh
   obtain ⟨rfl,h1,h2,h3⟩:=hh
   injection hc with hc; injection hc with hc1 hc2; subst hc1; subst hc2
   have e1:h=.own 0 0 n 3:=by
    unfold bQw at h1
    split at h1
    ·simp only [beq_iff_eq] at h1; rw [h1]
    ·cases h1
   have e2:ds=[.lit (.func (.func 69) #[] #[])]:=by
    unfold bRr at h3
    split at h3
    ·simp only [Bool.and_eq_true,beq_iff_eq,Array.isEmpty_iff] at h3
     obtain ⟨⟨h3,h4⟩,h5⟩:=h3
     rw [h3,h4,h5]
    ·cases h3
   rw [e1,e2]
   exact aZw (bOt h2) hS
  ·cases hc
 ·simp only [E31,Bool.or_eq_true,List.contains_eq_mem,decide_eq_true_eq,List.mem_cons,List.mem_nil_iff,or_false] at hg
  rcases hg with hg | rfl | rfl | rfl | rfl
  ·exact h0.recs g hg
  ·exact bQt
  ·exact bLu
  ·exact rec54
  ·exact bQr
def zC:List Cl:=[⟨1,0,[]⟩,⟨2,0,[]⟩,⟨3,1,[(1,-1),(2,1)]⟩]
def bRp:List Cl:=[⟨1,0,[]⟩,⟨2,1,[(1,2)]⟩]
def bNt:List Cl:=[⟨7,0,[]⟩,⟨8,1,[(2,1),(7,-1)]⟩,⟨1,0,[]⟩,⟨2,0,[]⟩,⟨3,1,[(1,-1),(7,1)]⟩]
def bHb:List Cl:=[⟨1,0,[]⟩,⟨2,0,[]⟩,⟨3,1,[(1,-1),(7,1)]⟩,⟨7,0,[]⟩,⟨8,1,[(2,1),(7,-1)]⟩]
def wD (x:Cl):List D:=[.i .i64 x.id,.i .i64 x.dim,uL x.b]
theorem aSb {c:List Cl} (h:(c.all fun x=>x.b.all dg)=true):flt bK c=flt wD c:=by
 unfold flt
 congr 1
 refine List.map_congr_left fun x hx=>?_
 unfold bK wD
 rw [qN (List.all_eq_true.1 h x hx)]
def aOk (m:List (Int × Ch)):D:=.sl (m.map fun p=>[.i .i64 p.1,uL p.2])
def aAx (r:List Cl × List (Int × Ch) × Int):D:=.tp [pN r.1,aOk r.2.1,.i .i64 r.2.2]
theorem aVv {m:List (Int × Ch)} (h:(m.all fun x=>x.2.all dg)=true):aV m=aOk m:=by
 unfold aV aOk
 congr 1
 refine List.map_congr_left fun x hx=>?_
 rw [← qN (List.all_eq_true.1 h x hx)]; rfl
def dgX (c:List Cl):Bool:=c.all fun x=>x.b.all dg
def smX (c:List Cl):Bool:=c.all fun x=>decide (x.b.length≤100) && x.b.all fun f=>decide (f.2.natAbs≤2) && inr f.1
theorem aMu {c:List Cl} (hl:c.length≤100) (h2:smX c=true):SzX 1 c∧∀ x∈c,Keys x.b:=by
 refine ⟨⟨hl,fun x hx=>?_,fun x hx f hf=>?_⟩,fun x hx f hf=>?_⟩
 all_goals
  have:=List.all_eq_true.1 h2 x hx
  simp only [Bool.and_eq_true,decide_eq_true_eq] at this
 ·exact this.1
 ·have h3:=List.all_eq_true.1 this.2 f hf
  simp only [Bool.and_eq_true,decide_eq_true_eq] at h3
  exact h3.1
 ·have h3:=List.all_eq_true.1 this.2 f hf
  simp only [Bool.and_eq_true,decide_eq_true_eq] at h3
  exact h3.2
theorem aOb {c:List Cl} {l:List (Int × Int)} (h1:dgX c=true) (hl:c.length≤100) (h2:smX c=true) (hf:fB c=l):Spec Tryz.prog 22 [pN c] (dW l):=by
 rw [← aAw h1,← hf]
 exact aFz (e:=1) (aMu hl h2).1 (by omega)
theorem aSi {c:List Cl} {a b:Int} {r:List Cl × List (Int × Ch) × Int} (h1:dgX c=true) (hl:c.length≤100) (h2:smX c=true) (hc:Inc c) (hr:aOm c a b=r) (h3:dgX r.1=true) (h4:(r.2.1.all fun x=>x.2.all dg)=true) :
  Spec Tryz.prog 29 [pN c,.i .i64 a,.i .i64 b] (aAx r):=by
 have h:=zV (e:=1) a b hc (aMu hl h2).1 (aMu hl h2).2 (by omega)
 rw [hr,aAw h1] at h
 unfold kL at h
 rw [aAw h3,aVv h4] at h
 exact h
def T31:List (FuncId × List D × D):=[(22,[pN zC],dW [(3,1),(3,2)]),(22,[pN [⟨2,0,[]⟩]],dW []),(22,[pN []],dW []),
 (67,[uL []],uL []),(67,[uL [(1,-1),(2,1)]],uL [(1,-1),(2,1)]),
 (29,[pN zC,.i .i64 3,.i .i64 2],aAx ([⟨1,0,[]⟩],[(1,[(1,1)]),(2,[(1,1)]),(3,[])],0)),(29,[pN zC,.i .i64 3,.i .i64 1],aAx ([⟨2,0,[]⟩],[(1,[(2,1)]),(2,[(2,1)]),(3,[])],0)),
 (29,[pN bRp,.i .i64 2,.i .i64 1],aAx ([],[],310)),(29,[pN zC,.i .i64 3,.i .i64 9],aAx ([],[],250))]
theorem bQf:∀ p∈T31,Spec Tryz.prog p.1 p.2.1 p.2.2:=by
 intro p hp
 simp only [T31,List.mem_cons,List.mem_nil_iff,or_false] at hp
 rcases hp with rfl | rfl | rfl | rfl | rfl | rfl | rfl | rfl | rfl
 ·exact aOb (by decide) (by decide) (by decide) (by decide)
 ·exact aOb (by decide) (by decide) (by decide) (by decide)
 ·exact aOb (by decide) (by decide) (by decide) (by decide)
 ·have:=bKt; rwa [qN (by decide)] at this
 ·have:=bKs (l:=[(1,-1),(2,1)]) (by simp) (by simp); rwa [qN (by decide)] at this
 ·exact aSi (by decide) (by decide) (by decide) (by unfold Inc zC; decide) (by decide) (by decide) (by decide)
 ·exact aSi (by decide) (by decide) (by decide) (by unfold Inc zC; decide) (by decide) (by decide) (by decide)
 ·exact aSi (by decide) (by decide) (by decide) (by unfold Inc bRp; decide) (by decide) (by decide) (by decide)
 ·exact aSi (by decide) (by decide) (by decide) (by unfold Inc zC; decide) (by decide) (by decide) (by decide)
theorem S31:lL Tryz.prog 68 (.own 0 0 5 3) (.cells 47 ((flt wD bNt).map .d)) [.lit (.func (.func 69) #[] #[])] (.cells 47 ((flt wD bHb).map .d)) (.tp []):=by
 have:=Tryz.sortO (L:=bNt) (L':=bHb) (by decide) (by unfold Inc bHb; decide) (by decide)
 rwa [aSb (by decide),aSb (by decide)] at this
def K31:Kn:=E31 T31 5 (.cells 47 ((flt wD bNt).map .d)) (.cells 47 ((flt wD bHb).map .d))
theorem bQh:aCn Tryz.prog K31:=bQi bQf S31
end Go.Am
end

section
set_option linter.unusedVariables false
set_option linter.unusedSimpArgs false
open Go Go.Am Go.Proofs
namespace Go.Am
theorem aYp:Spec Tryz.prog 8 [] (.b true) :=
 (aFo (fuel:=100) aF bQh 20).call 8 [] (.b true) (by kernel_rfl)
end Go.Am
end
