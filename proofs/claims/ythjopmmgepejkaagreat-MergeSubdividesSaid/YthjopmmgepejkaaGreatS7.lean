/- The check of chapter 31: it answers true. No condition. -/
import Derived.Test.YthjopmmgepejkaaGreatS6
import Derived.Test.YthjopmmgepejkaaGreatS4
section
set_option linter.unusedVariables false
set_option linter.unusedSimpArgs false
open List (map_map mapM_map)
open Go Go.Am Go.Proofs
namespace Go.Am
theorem bKu:kJ Tryz.prog 79:=by
 refine ⟨fun w=>enters_of Tryz.func79 (by kernel_rfl) rfl _ w,fun w=>?_⟩
 refine callsD_of_wpS Tryz.func79 rfl fun c₀ cs hu=>?_
 apply wpS_region
 simp [wpOpsS,go_sem,recoverD,hu,Tryz.ntmps79,bodyPostS,results,Tryz.results79]
 cases c₀; simp only at hu; subst hu; rfl
def oD (l:Ch) (n:Int):Int:=l.foldl (fun a f=>if f.1=n then f.2 else a) 0
theorem aNr {l:Ch} {i:Nat} (h:i<l.length) (n:Int):oD (l.take (i+1)) n=if l[i].1=n then l[i].2 else oD (l.take i) n:=by
 unfold oD
 rw [List.take_add_one,List.getElem?_eq_getElem h,List.foldl_append]; rfl
theorem aUj {l:Ch} {n:Int}:oD l n=0∨∃ f∈l,oD l n=f.2:=by
 unfold oD
 suffices ∀ (l:Ch) (a:Int),l.foldl (fun a f=>if f.1=n then f.2 else a) a=a∨∃ f∈l,l.foldl (fun a f=>if f.1=n then f.2 else a) a=f.2 from this l 0
 intro l
 induction l with
 | nil=>intro a; exact .inl rfl
 | cons f l ih =>
  intro a
  rw [List.foldl_cons]
  rcases ih (if f.1=n then f.2 else a) with h | ⟨g,hg,h⟩
  ·rw [h]
   by_cases e:f.1=n
   ·rw [if_pos e]; exact .inr ⟨f,List.mem_cons_self ..,rfl⟩
   ·rw [if_neg e]; exact .inl rfl
  ·exact .inr ⟨g,List.mem_cons_of_mem _ hg,h⟩
theorem aUk {l:Ch} {M:Nat} (h:Bnd M l) (n:Int):(oD l n).natAbs≤M:=by
 rcases aUj (l:=l) (n:=n) with e | ⟨f,hf,e⟩
 ·rw [e]; exact Nat.zero_le _
 ·rw [e]; exact h f hf
theorem aUq {c:List Cl} {e:Nat} (hz:SzX e c):(qO c).length≤10000:=by
 have:∀ d:List Cl,(∀ x∈d,x∈c)→(d.flatMap (iL c)).length≤100 * d.length:=by
  intro d
  induction d with
  | nil=>intro _; simp
  | cons x d ih =>
   intro h
   rw [List.flatMap_cons,List.length_append,List.length_cons]
   have h1:=ih fun y hy=>h y (List.mem_cons_of_mem _ hy)
   have h2:=hz.bl x (h x (List.mem_cons_self ..))
   have h3:(iL c x).length≤x.b.length:=by
    unfold iL
    split
    ·simp
    ·rw [List.length_map]; exact List.length_filter_le _ _
   omega
 have h1:=this c fun _ h=>h
 have h2:=hz.len
 unfold qO
 omega
theorem tI (l:List (Int × Int)):inj (eX l)=.d (eX l):=rfl
theorem pA (H:Nat→Option HO) (avs:List AV) (l:List (Int × Int)):bX H avs (eX l)=gD H avs:=rfl
theorem bBt {c:List Cl} {a b:Int} (h:(a,b)∈qO c):a≠b:=by
 unfold qO at h
 obtain ⟨x,hx,h⟩:=List.mem_flatMap.1 h
 unfold iL at h
 split at h
 ·cases h
 ·rename_i h0
  obtain ⟨f,hf,he⟩:=List.mem_map.1 h
  injection he with h1 h2
  have h3:=(List.mem_filter.1 hf).2
  unfold gQ at h3
  simp only [Bool.and_eq_true,decide_eq_true_eq] at h3
  intro hab
  rw [h2,← hab,← h1] at h3
  omega
theorem aEj {c:List Cl} {a b:Int} {r:Ch} (h:a≠b):fQ c [(b,r),(a,[])]=fQ c [(a,[]),(b,r)]:=by
 unfold fQ
 refine List.map_congr_left fun x _=>?_
 unfold mX
 by_cases h1:b=x.id
 ·have h2:¬ a=x.id:=fun e=>h (e.trans h1.symm)
  simp [List.find?_cons,h1,h2]
 ·by_cases h2:a=x.id <;> simp [List.find?_cons,h1,h2]
theorem aQv {a b:Int} (h:a≠b) (v w:AV):oX [(a,v)] b w=[(a,v),(b,w)]:=by
 simp [oX,fX,List.findIdx?_cons,h]
def mI (cell face:Int) (z:Cl):Bool:=!decide (z.id=cell) && !decide (z.id=face)
def aOj (c:List Cl) (cell face:Int):List Cl:=c.filter (mI cell face)
theorem aEu {c:List Cl} {i:Nat} (h:i<c.length) (a b:Int):aOj (c.take (i+1)) a b=aOj (c.take i) a b++if mI a b c[i] then [c[i]] else []:=by
 unfold aOj
 rw [List.take_add_one,List.getElem?_eq_getElem h,List.filter_append]
 congr 1
 by_cases e:mI a b c[i]=true <;> simp [e]
theorem aLk (c:List Cl) (a b:Int):(aOj c a b).length≤c.length:=List.length_filter_le _ _
def xY (z n:Int) (l:Ch):Ch:=(l.filter fun f=>!decide (f.1=n)).map fun f=>(f.1,z * f.2)
theorem aTr {l:Ch} {i:Nat} (h:i<l.length) (z n:Int):xY z n (l.take (i+1))=xY z n (l.take i)++if l[i].1=n then [] else [(l[i].1,z * l[i].2)]:=by
 unfold xY
 rw [List.take_add_one,List.getElem?_eq_getElem h,List.filter_append,List.map_append]
 congr 1
 by_cases e:l[i].1=n <;> simp [e]
theorem aJr (z n:Int) (l:Ch):(xY z n l).length≤l.length:=by unfold xY; rw [List.length_map]; exact List.length_filter_le _ _
theorem aYy {z n:Int} {l:Ch} {K M:Nat} (hz:z.natAbs≤K) (h:Bnd M l):Bnd (K * M) (xY z n l):=fun x hx=>by
 unfold xY at hx
 obtain ⟨f,hf,rfl⟩:=List.mem_map.1 hx
 rw [Int.natAbs_mul]
 exact Nat.mul_le_mul hz (h f (List.mem_filter.1 hf).1)
theorem aTs {z n:Int} {l:Ch} (h:Keys l):Keys (xY z n l):=fun x hx=>by
 unfold xY at hx
 obtain ⟨f,hf,rfl⟩:=List.mem_map.1 hx
 exact h f (List.mem_filter.1 hf).1
def bOm (l:Ch) (face:Int):Ch:=xY (-oD l face) face l
def bRp (c:List Cl) (cell face:Int):List (Int × Ch):=[(cell,[]),(face,bV [] (bOm (bOf c cell) face))]
def bOl (c:List Cl) (cell face:Int):List Cl × List (Int × Ch) × Int :=
 if (bT c cell).isSome=false∨(bT c face).isSome=false then ([],[],250) else if (cell,face) ∉ qO c then ([],[],310) else (aOj c cell face,fQ c (bRp c cell face),0)
theorem wE {H H':Nat→Option HO} {ρ:Nat→Nat}:mU H H' ρ .nil (.d (.sl []))↔True:=⟨fun _=>trivial,fun _=>⟨rfl,fun a ha=>by simp [vis] at ha⟩⟩
theorem aLh:aM []=.sl []:=rfl
theorem aWm {H H':Nat→Option HO} {ρ:Nat→Nat}:Sub H H' ρ .nil (.d (.sl []))↔True:=wE
theorem aFt {H:Nat→Option HO} {ρ:Nat→Nat} {t:TypeId} {id n:Nat} {l:Ch} (hn:l.length=n) (hH:H id=some (.cells t ((flt eE l).map .d))):Sub H (mS 1 []) ρ (.own id 0 n 3) (.d (aM l)):=by
 refine lQ ?_ fun a _ id h=>by simp [mS] at h
 have e1:=eL eN hn
 have e2:=dX (by decide) eN hn
 have e3:=bY eN l
 rw [hn] at e3
 rw [iB,hH]
 simp only [Nat.zero_mul,Nat.zero_add,List.drop_zero,e1,kS,Option.map_some,e2]
 rw [if_pos ⟨by rw [List.length_map]; omega,by omega⟩]; rfl
def bLf:List Fl:=[.st,.st,.st,.st,.st,.st,.st,.st,.st,.st]
def tA:Tr:=.one 9 (.one 10 (.one 11 (.one 12 (.one 13 .leaf))))
def zN:Tr:=.two 4 (.one 7 (.one 8 tA)) 7 (.two 4 (.one 8 tA) 8 (.one 4 tA))
def bRf:List Fl:=bLf++[.tr [0,1,2,3,5,6] zN]
set_option maxHeartbeats 4000000 in
set_option maxRecDepth 10000 in
theorem aNn {c:List Cl} {e:Nat} (a b:Int) (hc:Inc c) (hz:SzX e c) (hk:∀ x∈c,Keys x.b) (he:e+e+14<4398046511104):Spec Tryz.prog 29 [aI c,.i .i64 a,.i .i64 b] (gF (bOl c a b)):=by
 have hlen:=hz.len
 have hFa:=aBt hc a (by omega)
 have hFb:=aBt hc b (by omega)
 have hFr:=aZu hz (by omega)
 have hfl:=aUq hz
 have hCt:=bVc (qO c) a b (by omega)
 have hr:∃ p x q y,(bT c a).isSome=p∧(bT c a).getD qK=x∧(bT c b).isSome=q∧(bT c b).getD qK=y:=⟨_,_,_,_,rfl,rfl,rfl,rfl⟩
 obtain ⟨p,x,q,y,hp,hx,hq,hy⟩:=hr
 have hba:bOf c a=x.b:=by unfold bOf; rw [hx]
 have hxl:x.b.length≤100:=by rw [← hba]; exact vM hz.bl a
 have hxb:Bnd (2 ^ e) x.b:=by rw [← hba]; exact sF hz.bb a
 unfold wP at hFa hFb
 rw [hp,hx] at hFa
 rw [hq,hy] at hFb
 unfold bOl bRp
 rw [hp,hq,hba]
 refine aMs (N:=114) bRf aF Tryz.func29 rfl rfl rfl (by kernel_rfl) (by kernel_rfl) (by kernel_rfl) (by kernel_rfl) rfl bKu (by simp) ?_
 simp [-map_map,-mapM_map,↓KW,aI,bRf,bLf,↓kG]
 refine aA (ds:=[aI c,.i .i64 a]) (by rfl) hFa ?_
 simp [-map_map,-mapM_map,↓KW,aI,bN,aE,aB,aC,↓kG]
 refine aA (ds:=[aI c,.i .i64 b]) (by rfl) hFb ?_
 cases p with
 | false=>simp [-map_map,-mapM_map,↓KW,aI,bN,aE,aB,aC,cT,gF,bJ,↓kG]
 | true =>
  cases q with
  | false=>simp [-map_map,-mapM_map,↓KW,aI,bN,aE,aB,aC,cT,gF,bJ,↓kG]
  | true =>
   simp [-map_map,-mapM_map,↓KW,aI,bN,aE,aB,aC,↓kG]
   refine aA (ds:=[aI c]) (by rfl) hFr ?_
   simp [-map_map,-mapM_map,↓KW,aI,bN,aE,aB,aC,tI,pA,↓kG]
   refine aA (ds:=[eX (qO c),.ag [.i .i64 a,.i .i64 b]]) (by rfl) hCt ?_
   by_cases hin:(a,b)∈qO c
   rotate_left
   ·rw [decide_eq_false hin]
    simp [-map_map,-mapM_map,↓KW,aI,bN,aE,aB,aC,tI,pA,cT,gF,bJ,hin,↓kG]
   ·rw [decide_eq_true hin]
    have hkx:Keys x.b:=by
     cases hfx:bT c a with
     | none=>rw [hfx] at hp; cases hp
     | some x' =>
      rw [hfx] at hx
      have:x'=x:=hx
      subst this
      exact hk _ (dQ hfx).1
    have hne:=bBt hin
    clear hFa hFb hFr hCt hp hq hx hy hfl
    simp [-map_map,-mapM_map,↓KW,aI,aM,bN,aE,aB,aC,tI,pA,↓kG]
    refine aU (fun i:Nat=>i≤x.b.length) (fun i=>StL [(0,.d (aI c)),(1,.d (.i .i64 a)),(2,.d (.i .i64 b)),(9,.ptr 1 0),(13,.ptr 2 0),(48,.d (aM x.b)),(49,.d (.i .i64 x.b.length)),(50,.d (.i .i64 (i:Int)))] none [.cells 47 [.d (.i .i64 x.id),.d (.i .i64 x.dim),.d (aM x.b)],.cells 69 [.d (.b (decide (oD (x.b.take i) b<0))),.d (aG (aV (oD (x.b.take i) b).natAbs))]]) (fun i=>x.b.length - i) 0 (Nat.zero_le _) ?_ ?_
    ·refine bC [1,3] (by simp) ?_ ?_ <;> simp [-map_map,upd,aT,Γ0,aI,aM,oD,cE,aG,wE]
    ·intro i hi
     by_cases hgo:i<x.b.length
     ·have q1:(i:Int)<x.b.length:=by omega
      have hf:x.b[i]? = some x.b[i]:=List.getElem?_eq_getElem hgo
      have hw:IntKind.i64.wrap ((i:Int)+1)=(i:Int)+1:=aS (by omega) (by omega)
      have htk:=aNr hgo b
      refine (show ∃ f,x.b[i]=f from ⟨_,rfl⟩).elim fun f hfe=>?_
      rw [hfe] at hf htk
      refine (show ∃ z,oD (x.b.take i) b=z from ⟨_,rfl⟩).elim fun z hze=>?_
      rw [hze] at htk
      simp only [hze]
      have hef:eE f=[.i .i64 f.1,.b (decide (f.2<0)),aG (aV f.2.natAbs)]:=rfl
      by_cases h0:f.1=b
      ·have h0':((f.1 == b):Bool)=true:=by simpa using h0
       rw [if_pos h0] at htk
       have q3:(((b:Int) == (b:Int)):Bool)=true:=by simp
       simp [-map_map,-mapM_map,↓KW,aI,aM,q1,hf,hef,h0,h0',q3,hw,aJ,aD,aP,aE,aB,aC]
       refine aK (i+1) hgo (Nat.sub_lt_sub_left hgo (Nat.lt_succ_self _)) (bC [1,2] (by simp) ?_ ?_) <;> simp [-map_map,upd,aT,Γ0,aI,aM,htk]
      ·have h0':((f.1 == b):Bool)=false:=by simpa using h0
       rw [if_neg h0] at htk
       simp [-map_map,-mapM_map,↓KW,aI,aM,q1,hf,hef,h0,h0',hw,aJ,aD,aP,aE,aB,aC]
       refine aK (i+1) hgo (Nat.sub_lt_sub_left hgo (Nat.lt_succ_self _)) (bC [1,2] (by simp) ?_ ?_) <;> simp [-map_map,upd,aT,Γ0,aI,aM,htk]
     ·have q1:¬ (i:Int)<x.b.length:=by omega
      rw [List.take_of_length_le (by omega)]
      have hzb:=aUk hxb b
      refine (show ∃ z,oD x.b b=z from ⟨_,rfl⟩).elim fun z hze=>?_
      rw [hze] at hzb
      have hNg:=bIl z (szE hzb (by omega))
      obtain ⟨zn,hzn⟩:∃ zn,-z=zn:=⟨_,rfl⟩
      have hzb':zn.natAbs≤2 ^ e:=by rw [← hzn,Int.natAbs_neg]; exact hzb
      have hcol:bOm x.b b=xY zn b x.b:=by unfold bOm; rw [hze,hzn]
      rw [hzn] at hNg
      clear hzn
      simp only [hze]
      simp [-map_map,-mapM_map,↓KW,aI,aM,q1,aE,aB,aC,aJ,aD,aP,↓kG]
      refine aU (fun y:Nat × Ch=>y.1≤x.b.length∧xY zn b (x.b.take y.1)=y.2) (fun y=>lW 16 [(0,.d (aI c)),(1,.d (.i .i64 a)),(2,.d (.i .i64 b)),(13,.ptr 1 0),(62,.d (aM x.b)),(63,.d (.i .i64 x.b.length)),(64,.d (.i .i64 (y.1:Int)))] (.cells 69 [.d (.b (decide (z<0))),.d (aG (aV z.natAbs))]) 89 3 y.2.length (flt eE y.2)) (fun y=>x.b.length - y.1) (0,[]) ⟨Nat.zero_le _,rfl⟩ ?_ ?_
      ·simp only [List.length_nil,lW]
       refine bC [2] (by simp) ?_ ?_ <;> simp [-map_map,upd,aT,Γ0,aI,aM,cV]
      ·rintro ⟨j,l⟩ ⟨hj,hl⟩
       simp only at hj hl ⊢
       by_cases hgo:j<x.b.length
       ·have q1:(j:Int)<x.b.length:=by omega
        have hf:x.b[j]? = some x.b[j]:=List.getElem?_eq_getElem hgo
        have hw:IntKind.i64.wrap ((j:Int)+1)=(j:Int)+1:=aS (by omega) (by omega)
        have htk:=aTr hgo zn b
        rw [hl] at htk
        have hll:l.length≤j:=by rw [← hl]; exact Nat.le_trans (aJr _ _ _) (by rw [List.length_take]; omega)
        have hfb:=hxb _ (List.getElem_mem hgo)
        refine (show ∃ f,x.b[j]=f from ⟨_,rfl⟩).elim fun f hfe=>?_
        rw [hfe] at hf htk hfb
        have hef:eE f=[.i .i64 f.1,.b (decide (f.2<0)),aG (aV f.2.natAbs)]:=rfl
        have hm1:(1:Nat)≤maxLen:=aW (by decide)
        by_cases h0:f.1=b
        ·have h0':((f.1 != b):Bool)=false:=by simpa using h0
         rw [if_pos h0,List.append_nil] at htk
         have q3:(((b:Int) != (b:Int)):Bool)=false:=by simp
         rcases hn:l.length with _ | k
         ·simp only [hn,lW]
          simp [-map_map,-mapM_map,↓KW,aI,aM,q1,hf,hef,h0,h0',q3,hw,aJ,aD,aP,aE,aB,aC]
          refine aK (τ:=Nat × Ch) (j+1,l) ⟨hgo,htk⟩ (Nat.sub_lt_sub_left hgo (Nat.lt_succ_self _)) ?_
          simp only [hn,lW]
          refine bC [1] (by simp) ?_ ?_ <;> simp [-map_map,upd,aT,Γ0,aI,aM,cV]
         ·simp only [hn,lW]
          simp [-map_map,-mapM_map,↓KW,aI,aM,q1,hf,hef,h0,h0',q3,hw,aJ,aD,aP,aE,aB,aC]
          refine aK (τ:=Nat × Ch) (j+1,l) ⟨hgo,htk⟩ (Nat.sub_lt_sub_left hgo (Nat.lt_succ_self _)) ?_
          simp only [hn,lW]
          refine bC [1,2] (by simp) ?_ ?_ <;> simp [-map_map,upd,aT,Γ0,aI,aM,cV]
        ·have h0':((f.1 != b):Bool)=true:=by simpa using h0
         rw [if_neg h0] at htk
         have hMu:=aRc zn f.2 (wU hzb' (by omega)) (wU hfb (by omega))
         rcases hn:l.length with _ | k
         ·have e0:l=[]:=List.eq_nil_of_length_eq_zero hn
          simp only [hn,lW]
          simp [-map_map,-mapM_map,↓KW,aI,aM,q1,hf,hef,h0,h0',hw,aJ,aD,aP,aE,aB,aC]
          refine aA (ds:=[encZ z]) (by rfl) hNg ?_
          simp [-map_map,-mapM_map,↓KW,aI,aM,bI,q1,hf,hef,h0,h0',hw,aJ,aD,aP,aE,aB,aC]
          refine aA (ds:=[encZ zn,encZ f.2]) (by rfl) hMu ?_
          simp [-map_map,-mapM_map,↓KW,aI,aM,bI,q1,hf,hef,h0,h0',hw,hm1,aJ,aD,aP,aE,aB,aC]
          refine aK (τ:=Nat × Ch) (j+1,l++[(f.1,zn * f.2)]) ⟨hgo,htk⟩ (Nat.sub_lt_sub_left hgo (Nat.lt_succ_self _)) ?_
          simp only [List.length_append,hn,List.length_singleton,lW]
          refine bC [1,4] (by simp) ?_ ?_ <;> simp [-map_map,upd,aT,Γ0,aI,aM,bB,e0,dC]
         ·have hbb:=cO (n:=k+1) (by omega)
          have hcl:=bY eN l
          rw [hn] at hcl
          have hal:=eB qU l
          simp only [hn,lW]
          simp [-map_map,-mapM_map,↓KW,aI,aM,q1,hf,hef,h0,h0',hw,aJ,aD,aP,aE,aB,aC]
          refine aA (ds:=[encZ z]) (by rfl) hNg ?_
          simp [-map_map,-mapM_map,↓KW,aI,aM,bI,q1,hf,hef,h0,h0',hw,aJ,aD,aP,aE,aB,aC]
          refine aA (ds:=[encZ zn,encZ f.2]) (by rfl) hMu ?_
          simp [-map_map,-mapM_map,↓KW,aI,aM,bI,q1,hf,hef,h0,h0',hw,hm1,hbb,hcl,hal,aW,aJ,aD,aP,aE,aB,aC]
          refine aK (τ:=Nat × Ch) (j+1,l++[(f.1,zn * f.2)]) ⟨hgo,htk⟩ (Nat.sub_lt_sub_left hgo (Nat.lt_succ_self _)) ?_
          simp only [List.length_append,hn,List.length_singleton,lW]
          refine bC [1,5] (by simp) ?_ ?_ <;> simp [-map_map,upd,aT,Γ0,aI,aM,bB,dW,dC]
       ·have q1:¬ (j:Int)<x.b.length:=by omega
        rw [List.take_of_length_le (by omega)] at hl
        have hlb:=aYy (n:=b) (z:=zn) hzb' hxb
        have hlk:=aTs (n:=b) (z:=zn) hkx
        have hlL:=aJr zn b x.b
        rw [hl] at hlb hlk hlL hcol
        rcases hn:l.length with _ | k
        ·have e0:l=[]:=List.eq_nil_of_length_eq_zero hn
         simp only [hn,lW]
         simp [-map_map,-mapM_map,↓KW,aI,aM,q1,aE,aB,aC,aJ,aD,aP,↓kG]
         refine aU (fun y:Nat × List Cl=>y.1≤c.length∧aOj (c.take y.1) a b=y.2) (fun y=>grS 19 [(0,.d (aI c)),(1,.d (.i .i64 a)),(2,.d (.i .i64 b)),(16,.d (aM l)),(84,.d (aI c)),(85,.d (.i .i64 c.length)),(86,.d (.i .i64 (y.1:Int)))] 47 3 y.2.length (flt aZ y.2)) (fun y=>c.length - y.1) (0,[]) ⟨Nat.zero_le _,rfl⟩ ?_ ?_
         ·simp only [List.length_nil,grS]
          refine bC [] (by simp) ?_ ?_ <;> simp [-map_map,upd,aT,Γ0,aI,cV,e0,aLh,aWm]
         ·rintro ⟨i,out⟩ ⟨hi,ho⟩
          simp only at hi ho ⊢
          by_cases hgo:i<c.length
          ·have q1:(i:Int)<c.length:=by omega
           have hx:c[i]? = some c[i]:=List.getElem?_eq_getElem hgo
           have hw:IntKind.i64.wrap ((i:Int)+1)=(i:Int)+1:=aS (by omega) (by omega)
           have htk:=aEu hgo a b
           rw [ho] at htk
           have hln:out.length≤i:=by rw [← ho]; exact Nat.le_trans (aLk _ _ _) (by rw [List.length_take]; omega)
           refine (show ∃ y,c[i]=y from ⟨_,rfl⟩).elim fun y hye=>?_
           rw [hye] at hx htk
           have hyc:aZ y=[D.i .i64 y.id,.i .i64 y.dim,aM y.b]:=rfl
           have hm1:(1:Nat)≤maxLen:=aW (by decide)
           by_cases h0:y.id=a
           ·have h0':((y.id != a):Bool)=false:=by simpa using h0
            have hkp:mI a b y=false:=by unfold mI; simp [h0]
            rw [hkp] at htk
            simp only [Bool.false_eq_true,if_false,List.append_nil] at htk
            have q3:(((a:Int) != (a:Int)):Bool)=false:=by simp
            rcases hn:out.length with _ | m
            ·simp only [hn,grS]
             simp [-map_map,-mapM_map,↓KW,aI,q1,hx,hyc,h0,h0',q3,hw,aJ,aD,aP,aE,aB,aC]
             refine aK (τ:=Nat × List Cl) (i+1,out) ⟨hgo,htk⟩ (Nat.sub_lt_sub_left hgo (Nat.lt_succ_self _)) ?_
             simp only [hn,grS]
             refine bC [] (by simp) ?_ ?_ <;> simp [-map_map,upd,aT,Γ0,aI,cV]
            ·simp only [hn,grS]
             simp [-map_map,-mapM_map,↓KW,aI,q1,hx,hyc,h0,h0',q3,hw,aJ,aD,aP,aE,aB,aC]
             refine aK (τ:=Nat × List Cl) (i+1,out) ⟨hgo,htk⟩ (Nat.sub_lt_sub_left hgo (Nat.lt_succ_self _)) ?_
             simp only [hn,grS]
             refine bC [1] (by simp) ?_ ?_ <;> simp [-map_map,upd,aT,Γ0,aI,cV]
           ·have h0':((y.id != a):Bool)=true:=by simpa using h0
            by_cases h1:y.id=b
            ·have h1':((y.id != b):Bool)=false:=by simpa using h1
             have hkp:mI a b y=false:=by unfold mI; simp [h1]
             rw [hkp] at htk
             simp only [Bool.false_eq_true,if_false,List.append_nil] at htk
             have q3:(((b:Int) != (b:Int)):Bool)=false:=by simp
             rw [h1] at h0'
             rcases hn:out.length with _ | m
             ·simp only [hn,grS]
              simp [-map_map,-mapM_map,↓KW,aI,q1,hx,hyc,h1,h0',q3,hw,aJ,aD,aP,aE,aB,aC]
              refine aK (τ:=Nat × List Cl) (i+1,out) ⟨hgo,htk⟩ (Nat.sub_lt_sub_left hgo (Nat.lt_succ_self _)) ?_
              simp only [hn,grS]
              refine bC [] (by simp) ?_ ?_ <;> simp [-map_map,upd,aT,Γ0,aI,cV]
             ·simp only [hn,grS]
              simp [-map_map,-mapM_map,↓KW,aI,q1,hx,hyc,h1,h0',q3,hw,aJ,aD,aP,aE,aB,aC]
              refine aK (τ:=Nat × List Cl) (i+1,out) ⟨hgo,htk⟩ (Nat.sub_lt_sub_left hgo (Nat.lt_succ_self _)) ?_
              simp only [hn,grS]
              refine bC [1] (by simp) ?_ ?_ <;> simp [-map_map,upd,aT,Γ0,aI,cV]
            ·have h1':((y.id != b):Bool)=true:=by simpa using h1
             have hkp:mI a b y=true:=by unfold mI; simp [h0,h1]
             rw [hkp,if_pos rfl] at htk
             rcases hn:out.length with _ | m
             ·have e0:out=[]:=List.eq_nil_of_length_eq_zero hn
              simp only [hn,grS]
              simp [-map_map,-mapM_map,↓KW,aI,q1,hx,hyc,h0,h0',h1,h1',hw,hm1,aJ,aD,aP,aE,aB,aC]
              refine aK (τ:=Nat × List Cl) (i+1,out++[y]) ⟨hgo,htk⟩ (Nat.sub_lt_sub_left hgo (Nat.lt_succ_self _)) ?_
              simp only [List.length_append,hn,List.length_singleton,grS]
              refine bC [3] (by simp) ?_ ?_ <;> simp [-map_map,upd,aT,Γ0,aI,bN,e0,dC]
             ·have hbb:=cO (n:=m+1) (by omega)
              have hcl:=bY bP out
              rw [hn] at hcl
              have hal:=eB jO out
              simp only [hn,grS]
              simp [-map_map,-mapM_map,↓KW,aI,q1,hx,hyc,h0,h0',h1,h1',hw,hm1,hbb,hcl,hal,aW,aJ,aD,aP,aE,aB,aC]
              refine aK (τ:=Nat × List Cl) (i+1,out++[y]) ⟨hgo,htk⟩ (Nat.sub_lt_sub_left hgo (Nat.lt_succ_self _)) ?_
              simp only [List.length_append,hn,List.length_singleton,grS]
              refine bC [4] (by simp) ?_ ?_ <;> simp [-map_map,upd,aT,Γ0,aI,bN,dW,dC]
          ·have q1:¬ (i:Int)<c.length:=by omega
           rw [List.take_of_length_le (by omega)] at ho
           have hM:=aAr (l:=l) (e:=e+e) (by rw [← oV]; exact hlb) hlk (by omega) he
           refine (show ∃ r,bV [] l=r from ⟨_,rfl⟩).elim fun r hr=>?_
           rw [hr] at hM
           have hMp1:=nZ c [(a,[]),(b,r)] (pE [(a,[]),(b,r)]) rfl (aKm _) (by omega)
           have hMp2:=nZ c [(b,r),(a,[])] (pE [(b,r),(a,[])]) rfl (aKm _) (by omega)
           rw [aEj hne] at hMp2
           have hmp1:∀ v w:AV,oX [(a,v)] b w=[(a,v),(b,w)]:=fun v w=>aQv hne v w
           have hmp2:∀ v w:AV,oX [(b,v)] a w=[(b,v),(a,w)]:=fun v w=>aQv (Ne.symm hne) v w
           rw [hcol,hr,ho]
           rcases hn:out.length with _ | m
           ·have e0:out=[]:=List.eq_nil_of_length_eq_zero hn
            simp only [grS]
            simp [-map_map,-mapM_map,↓KW,aI,q1]
            refine sG _ _ rfl rfl ?_
            simp only [opsL,opL,zN,tA,qS,List.flatMap_cons,List.flatMap_nil,List.drop_succ_cons,List.drop_zero,List.take_succ_cons,List.take_zero,List.cons_append,List.nil_append]
            simp [-map_map,-mapM_map,↓KW,aI,q1,↓cY,↓dA,↓dB,↓cL,↓dD,cC,cI]
            refine ⟨?_,?_⟩
            ·refine aA (ds:=[aM l]) (by rfl) hM ?_
             simp [-map_map,-mapM_map,↓KW,aI,q1,↓cY,↓dA,↓dB,↓cL,↓dD,cC,cI,dH,hmp1,hmp2,aQ,bF]
             refine aA (ds:=[aI c,pE [(a,[]),(b,r)]]) (by rfl) hMp1 ?_
             simp [-map_map,-mapM_map,↓KW,aI,q1,↓cY,↓dA,↓dB,↓cL,↓dD,cC,cI,dH,hmp1,hmp2,e0,aQ,bF,dF,cJ,iO,cT,gF,hin]
            ·refine aA (ds:=[aM l]) (by rfl) hM ?_
             simp [-map_map,-mapM_map,↓KW,aI,q1,↓cY,↓dA,↓dB,↓cL,↓dD,cC,cI,dH,hmp1,hmp2,aQ,bF]
             refine ⟨?_,?_⟩
             ·refine aA (ds:=[aI c,pE [(a,[]),(b,r)]]) (by rfl) hMp1 ?_
              simp [-map_map,-mapM_map,↓KW,aI,q1,↓cY,↓dA,↓dB,↓cL,↓dD,cC,cI,dH,hmp1,hmp2,e0,aQ,bF,dF,cJ,iO,cT,gF,hin]
             ·refine aA (ds:=[aI c,pE [(b,r),(a,[])]]) (by rfl) hMp2 ?_
              simp [-map_map,-mapM_map,↓KW,aI,q1,↓cY,↓dA,↓dB,↓cL,↓dD,cC,cI,dH,hmp1,hmp2,e0,aQ,bF,dF,cJ,iO,cT,gF,hin]
           ·have e1:=eL bP hn
            have e2:=dX (by decide) bP hn
            have e3:=bY bP out
            rw [hn] at e3
            simp only [grS]
            simp [-map_map,-mapM_map,↓KW,aI,q1]
            refine sG _ _ rfl rfl ?_
            simp only [opsL,opL,zN,tA,qS,List.flatMap_cons,List.flatMap_nil,List.drop_succ_cons,List.drop_zero,List.take_succ_cons,List.take_zero,List.cons_append,List.nil_append]
            simp [-map_map,-mapM_map,↓KW,aI,q1,↓cY,↓dA,↓dB,↓cL,↓dD,cC,cI]
            refine ⟨?_,?_⟩
            ·refine aA (ds:=[aM l]) (by rfl) hM ?_
             simp [-map_map,-mapM_map,↓KW,aI,q1,↓cY,↓dA,↓dB,↓cL,↓dD,cC,cI,dH,hmp1,hmp2,aQ,bF]
             refine aA (ds:=[aI c,pE [(a,[]),(b,r)]]) (by rfl) hMp1 ?_
             simp [-map_map,-mapM_map,↓KW,aI,q1,↓cY,↓dA,↓dB,↓cL,↓dD,cC,cI,dH,hmp1,hmp2,e1,e2,e3,aQ,bF,dF,cJ,iO,cT,gF,hin]
            ·refine aA (ds:=[aM l]) (by rfl) hM ?_
             simp [-map_map,-mapM_map,↓KW,aI,q1,↓cY,↓dA,↓dB,↓cL,↓dD,cC,cI,dH,hmp1,hmp2,aQ,bF]
             refine ⟨?_,?_⟩
             ·refine aA (ds:=[aI c,pE [(a,[]),(b,r)]]) (by rfl) hMp1 ?_
              simp [-map_map,-mapM_map,↓KW,aI,q1,↓cY,↓dA,↓dB,↓cL,↓dD,cC,cI,dH,hmp1,hmp2,e1,e2,e3,aQ,bF,dF,cJ,iO,cT,gF,hin]
             ·refine aA (ds:=[aI c,pE [(b,r),(a,[])]]) (by rfl) hMp2 ?_
              simp [-map_map,-mapM_map,↓KW,aI,q1,↓cY,↓dA,↓dB,↓cL,↓dD,cC,cI,dH,hmp1,hmp2,e1,e2,e3,aQ,bF,dF,cJ,iO,cT,gF,hin]
        ·have hfz:∀ (H:Nat→Option HO) (ρ:Nat→Nat),H 2=some (.cells 89 ((flt eE l).map .d))→Sub H (mS 1 []) ρ (.own 2 0 (k+1) 3) (.d (aM l)):=fun H ρ hH=>aFt hn hH
         simp only [hn,lW]
         simp [-map_map,-mapM_map,↓KW,aI,aM,q1,aE,aB,aC,aJ,aD,aP,↓kG]
         refine aU (fun y:Nat × List Cl=>y.1≤c.length∧aOj (c.take y.1) a b=y.2) (fun y=>grS 19 [(0,.d (aI c)),(1,.d (.i .i64 a)),(2,.d (.i .i64 b)),(16,.d (aM l)),(84,.d (aI c)),(85,.d (.i .i64 c.length)),(86,.d (.i .i64 (y.1:Int)))] 47 3 y.2.length (flt aZ y.2)) (fun y=>c.length - y.1) (0,[]) ⟨Nat.zero_le _,rfl⟩ ?_ ?_
         ·simp only [List.length_nil,grS]
          refine bC [] (by simp) ?_ ?_ <;> simp [-map_map,upd,aT,Γ0,aI,cV,hfz]
         ·rintro ⟨i,out⟩ ⟨hi,ho⟩
          simp only at hi ho ⊢
          by_cases hgo:i<c.length
          ·have q1:(i:Int)<c.length:=by omega
           have hx:c[i]? = some c[i]:=List.getElem?_eq_getElem hgo
           have hw:IntKind.i64.wrap ((i:Int)+1)=(i:Int)+1:=aS (by omega) (by omega)
           have htk:=aEu hgo a b
           rw [ho] at htk
           have hln:out.length≤i:=by rw [← ho]; exact Nat.le_trans (aLk _ _ _) (by rw [List.length_take]; omega)
           refine (show ∃ y,c[i]=y from ⟨_,rfl⟩).elim fun y hye=>?_
           rw [hye] at hx htk
           have hyc:aZ y=[D.i .i64 y.id,.i .i64 y.dim,aM y.b]:=rfl
           have hm1:(1:Nat)≤maxLen:=aW (by decide)
           by_cases h0:y.id=a
           ·have h0':((y.id != a):Bool)=false:=by simpa using h0
            have hkp:mI a b y=false:=by unfold mI; simp [h0]
            rw [hkp] at htk
            simp only [Bool.false_eq_true,if_false,List.append_nil] at htk
            have q3:(((a:Int) != (a:Int)):Bool)=false:=by simp
            rcases hn:out.length with _ | m
            ·simp only [hn,grS]
             simp [-map_map,-mapM_map,↓KW,aI,q1,hx,hyc,h0,h0',q3,hw,aJ,aD,aP,aE,aB,aC]
             refine aK (τ:=Nat × List Cl) (i+1,out) ⟨hgo,htk⟩ (Nat.sub_lt_sub_left hgo (Nat.lt_succ_self _)) ?_
             simp only [hn,grS]
             refine bC [] (by simp) ?_ ?_ <;> simp [-map_map,upd,aT,Γ0,aI,cV]
            ·simp only [hn,grS]
             simp [-map_map,-mapM_map,↓KW,aI,q1,hx,hyc,h0,h0',q3,hw,aJ,aD,aP,aE,aB,aC]
             refine aK (τ:=Nat × List Cl) (i+1,out) ⟨hgo,htk⟩ (Nat.sub_lt_sub_left hgo (Nat.lt_succ_self _)) ?_
             simp only [hn,grS]
             refine bC [1] (by simp) ?_ ?_ <;> simp [-map_map,upd,aT,Γ0,aI,cV]
           ·have h0':((y.id != a):Bool)=true:=by simpa using h0
            by_cases h1:y.id=b
            ·have h1':((y.id != b):Bool)=false:=by simpa using h1
             have hkp:mI a b y=false:=by unfold mI; simp [h1]
             rw [hkp] at htk
             simp only [Bool.false_eq_true,if_false,List.append_nil] at htk
             have q3:(((b:Int) != (b:Int)):Bool)=false:=by simp
             rw [h1] at h0'
             rcases hn:out.length with _ | m
             ·simp only [hn,grS]
              simp [-map_map,-mapM_map,↓KW,aI,q1,hx,hyc,h1,h0',q3,hw,aJ,aD,aP,aE,aB,aC]
              refine aK (τ:=Nat × List Cl) (i+1,out) ⟨hgo,htk⟩ (Nat.sub_lt_sub_left hgo (Nat.lt_succ_self _)) ?_
              simp only [hn,grS]
              refine bC [] (by simp) ?_ ?_ <;> simp [-map_map,upd,aT,Γ0,aI,cV]
             ·simp only [hn,grS]
              simp [-map_map,-mapM_map,↓KW,aI,q1,hx,hyc,h1,h0',q3,hw,aJ,aD,aP,aE,aB,aC]
              refine aK (τ:=Nat × List Cl) (i+1,out) ⟨hgo,htk⟩ (Nat.sub_lt_sub_left hgo (Nat.lt_succ_self _)) ?_
              simp only [hn,grS]
              refine bC [1] (by simp) ?_ ?_ <;> simp [-map_map,upd,aT,Γ0,aI,cV]
            ·have h1':((y.id != b):Bool)=true:=by simpa using h1
             have hkp:mI a b y=true:=by unfold mI; simp [h0,h1]
             rw [hkp,if_pos rfl] at htk
             rcases hn:out.length with _ | m
             ·have e0:out=[]:=List.eq_nil_of_length_eq_zero hn
              simp only [hn,grS]
              simp [-map_map,-mapM_map,↓KW,aI,q1,hx,hyc,h0,h0',h1,h1',hw,hm1,aJ,aD,aP,aE,aB,aC]
              refine aK (τ:=Nat × List Cl) (i+1,out++[y]) ⟨hgo,htk⟩ (Nat.sub_lt_sub_left hgo (Nat.lt_succ_self _)) ?_
              simp only [List.length_append,hn,List.length_singleton,grS]
              refine bC [3] (by simp) ?_ ?_ <;> simp [-map_map,upd,aT,Γ0,aI,bN,e0,dC]
             ·have hbb:=cO (n:=m+1) (by omega)
              have hcl:=bY bP out
              rw [hn] at hcl
              have hal:=eB jO out
              simp only [hn,grS]
              simp [-map_map,-mapM_map,↓KW,aI,q1,hx,hyc,h0,h0',h1,h1',hw,hm1,hbb,hcl,hal,aW,aJ,aD,aP,aE,aB,aC]
              refine aK (τ:=Nat × List Cl) (i+1,out++[y]) ⟨hgo,htk⟩ (Nat.sub_lt_sub_left hgo (Nat.lt_succ_self _)) ?_
              simp only [List.length_append,hn,List.length_singleton,grS]
              refine bC [4] (by simp) ?_ ?_ <;> simp [-map_map,upd,aT,Γ0,aI,bN,dW,dC]
          ·have q1:¬ (i:Int)<c.length:=by omega
           rw [List.take_of_length_le (by omega)] at ho
           have hM:=aAr (l:=l) (e:=e+e) (by rw [← oV]; exact hlb) hlk (by omega) he
           refine (show ∃ r,bV [] l=r from ⟨_,rfl⟩).elim fun r hr=>?_
           rw [hr] at hM
           have hMp1:=nZ c [(a,[]),(b,r)] (pE [(a,[]),(b,r)]) rfl (aKm _) (by omega)
           have hMp2:=nZ c [(b,r),(a,[])] (pE [(b,r),(a,[])]) rfl (aKm _) (by omega)
           rw [aEj hne] at hMp2
           have hmp1:∀ v w:AV,oX [(a,v)] b w=[(a,v),(b,w)]:=fun v w=>aQv hne v w
           have hmp2:∀ v w:AV,oX [(b,v)] a w=[(b,v),(a,w)]:=fun v w=>aQv (Ne.symm hne) v w
           rw [hcol,hr,ho]
           rcases hn:out.length with _ | m
           ·have e0:out=[]:=List.eq_nil_of_length_eq_zero hn
            simp only [grS]
            simp [-map_map,-mapM_map,↓KW,aI,q1]
            refine sG _ _ rfl rfl ?_
            simp only [opsL,opL,zN,tA,qS,List.flatMap_cons,List.flatMap_nil,List.drop_succ_cons,List.drop_zero,List.take_succ_cons,List.take_zero,List.cons_append,List.nil_append]
            simp [-map_map,-mapM_map,↓KW,aI,q1,↓cY,↓dA,↓dB,↓cL,↓dD,cC,cI]
            refine ⟨?_,?_⟩
            ·refine aA (ds:=[aM l]) (by rfl) hM ?_
             simp [-map_map,-mapM_map,↓KW,aI,q1,↓cY,↓dA,↓dB,↓cL,↓dD,cC,cI,dH,hmp1,hmp2,aQ,bF]
             refine aA (ds:=[aI c,pE [(a,[]),(b,r)]]) (by rfl) hMp1 ?_
             simp [-map_map,-mapM_map,↓KW,aI,q1,↓cY,↓dA,↓dB,↓cL,↓dD,cC,cI,dH,hmp1,hmp2,e0,aQ,bF,dF,cJ,iO,cT,gF,hin]
            ·refine aA (ds:=[aM l]) (by rfl) hM ?_
             simp [-map_map,-mapM_map,↓KW,aI,q1,↓cY,↓dA,↓dB,↓cL,↓dD,cC,cI,dH,hmp1,hmp2,aQ,bF]
             refine ⟨?_,?_⟩
             ·refine aA (ds:=[aI c,pE [(a,[]),(b,r)]]) (by rfl) hMp1 ?_
              simp [-map_map,-mapM_map,↓KW,aI,q1,↓cY,↓dA,↓dB,↓cL,↓dD,cC,cI,dH,hmp1,hmp2,e0,aQ,bF,dF,cJ,iO,cT,gF,hin]
             ·refine aA (ds:=[aI c,pE [(b,r),(a,[])]]) (by rfl) hMp2 ?_
              simp [-map_map,-mapM_map,↓KW,aI,q1,↓cY,↓dA,↓dB,↓cL,↓dD,cC,cI,dH,hmp1,hmp2,e0,aQ,bF,dF,cJ,iO,cT,gF,hin]
           ·have e1:=eL bP hn
            have e2:=dX (by decide) bP hn
            have e3:=bY bP out
            rw [hn] at e3
            simp only [grS]
            simp [-map_map,-mapM_map,↓KW,aI,q1]
            refine sG _ _ rfl rfl ?_
            simp only [opsL,opL,zN,tA,qS,List.flatMap_cons,List.flatMap_nil,List.drop_succ_cons,List.drop_zero,List.take_succ_cons,List.take_zero,List.cons_append,List.nil_append]
            simp [-map_map,-mapM_map,↓KW,aI,q1,↓cY,↓dA,↓dB,↓cL,↓dD,cC,cI]
            refine ⟨?_,?_⟩
            ·refine aA (ds:=[aM l]) (by rfl) hM ?_
             simp [-map_map,-mapM_map,↓KW,aI,q1,↓cY,↓dA,↓dB,↓cL,↓dD,cC,cI,dH,hmp1,hmp2,aQ,bF]
             refine aA (ds:=[aI c,pE [(a,[]),(b,r)]]) (by rfl) hMp1 ?_
             simp [-map_map,-mapM_map,↓KW,aI,q1,↓cY,↓dA,↓dB,↓cL,↓dD,cC,cI,dH,hmp1,hmp2,e1,e2,e3,aQ,bF,dF,cJ,iO,cT,gF,hin]
            ·refine aA (ds:=[aM l]) (by rfl) hM ?_
             simp [-map_map,-mapM_map,↓KW,aI,q1,↓cY,↓dA,↓dB,↓cL,↓dD,cC,cI,dH,hmp1,hmp2,aQ,bF]
             refine ⟨?_,?_⟩
             ·refine aA (ds:=[aI c,pE [(a,[]),(b,r)]]) (by rfl) hMp1 ?_
              simp [-map_map,-mapM_map,↓KW,aI,q1,↓cY,↓dA,↓dB,↓cL,↓dD,cC,cI,dH,hmp1,hmp2,e1,e2,e3,aQ,bF,dF,cJ,iO,cT,gF,hin]
             ·refine aA (ds:=[aI c,pE [(b,r),(a,[])]]) (by rfl) hMp2 ?_
              simp [-map_map,-mapM_map,↓KW,aI,q1,↓cY,↓dA,↓dB,↓cL,↓dD,cC,cI,dH,hmp1,hmp2,e1,e2,e3,aQ,bF,dF,cJ,iO,cT,gF,hin]
end Go.Am
end

section
set_option linter.unusedVariables false
set_option linter.unusedSimpArgs false
open List (map_map mapM_map)
open Go Go.Am Go.Proofs
namespace Go.Am
theorem yZ {α:Type} {f:α→List D} {k:Nat} (h:∀ x,(f x).length=k):∀ (l:List α) (i c:Nat) (x y:α) (v:D),l[i]? = some x→c<k→f y=(f x).set c v→(flt f l).set (i * k+c) v=flt f (l.set i y)
 | [],i,c,x,y,v,hx,_,_=>by simp at hx
 | z::l,0,c,x,y,v,hx,hc,hy=>by
  simp at hx; subst hx
  rw [show flt f (z::l)=f z++flt f l from by simp [flt],List.set_cons_zero,show flt f (y::l)=f y++flt f l from by simp [flt],Nat.zero_mul,Nat.zero_add,List.set_append_left _ _ (by rw [h]; exact hc),hy]
 | z::l,i+1,c,x,y,v,hx,hc,hy=>by
  rw [show flt f (z::l)=f z++flt f l from by simp [flt],List.set_cons_succ,show flt f (z::l.set i y)=f z++flt f (l.set i y) from by simp [flt],List.set_append_right _ _ (by rw [h,Nat.add_mul]; omega),h,show (i+1) * k+c - k=i * k+c by rw [Nat.add_mul]; omega,yZ h l i c x y v (by simpa using hx) hc hy]
set_option maxHeartbeats 1000000 in
theorem aGa (n:Int):Spec Tryz.prog 38 [.i .i64 n] (aM [(n,1)]):=by
 refine aY (N:=7) aF Tryz.func38 rfl rfl rfl (by kernel_rfl) (by kernel_rfl) (by simp) ?_
 have hO:=uC 1 (by decide) (by decide)
 simp [-map_map,-mapM_map,↓KW,]
 refine aA (ds:=[.i .i64 1]) (by rfl) hO ?_
 simp [-map_map,-mapM_map,↓KW,aM,bB,bI,aJ,aD,aP]
theorem aZv {c:List Cl} {i:Nat} (h:i<c.length):fQ (c.take (i+1)) []=fQ (c.take i) []++[(c[i].id,[(c[i].id,1)])]:=aEi h []
set_option maxHeartbeats 2000000 in
set_option maxRecDepth 10000 in
theorem aTc {c:List Cl} (hl:c.length≤1000000):Spec Tryz.prog 42 [aI c] (bJ (fQ c [])):=by
 refine aY (N:=28) aF Tryz.func42 rfl rfl rfl (by kernel_rfl) (by kernel_rfl) (by simp) ?_
 simp [-map_map,-mapM_map,↓KW,aI]
 refine aU (fun y:Nat × List (Int × Ch)=>y.1≤c.length∧y.2.length=y.1∧fQ (c.take y.1) []=y.2) (fun y=>StL [(0,.d (aI c)),(3,.own 1 0 y.2.length 2),(4,.d (.i .i64 (y.1:Int)))] none [.cells 97 ((flt lG y.2).map .d)]) (fun y=>c.length - y.1) (0,[]) ⟨Nat.zero_le _,rfl,rfl⟩ ?_ ?_
 ·refine bC [1] (by simp) ?_ ?_ <;> simp [-map_map,upd,aT,Γ0,aI,zA]
 ·rintro ⟨i,out⟩ ⟨hi,hoi,ho⟩
  simp only at hi hoi ho ⊢
  by_cases hgo:i<c.length
  ·have q1:(i:Int)<c.length:=by omega
   have hx:c[i]? = some c[i]:=List.getElem?_eq_getElem hgo
   have hw:IntKind.i64.wrap ((i:Int)+1)=(i:Int)+1:=aS (by omega) (by omega)
   have htk:=aZv hgo
   rw [ho] at htk
   refine (show ∃ x,c[i]=x from ⟨_,rfl⟩).elim fun x hxe=>?_
   rw [hxe] at hx htk
   have hyc:aZ x=[D.i .i64 x.id,.i .i64 x.dim,aM x.b]:=rfl
   have hO:=aGa x.id
   have hcl:=bY dY out
   have hal:=eB wS out
   have hbb:=xS (n:=out.length) (by omega)
   simp [-map_map,-mapM_map,↓KW,aI,q1,hx,hyc,aE,aB,aC]
   refine aA (ds:=[.i .i64 x.id]) (by rfl) hO ?_
   simp [-map_map,-mapM_map,↓KW,aI,q1,hx,hyc,hw,hcl,hal,hbb,aW,aE,aB,aC,aQ,bF]
   refine aK (τ:=Nat × List (Int × Ch)) (i+1,out++[(x.id,[(x.id,1)])]) ⟨hgo,by rw [List.length_append,hoi]; rfl,htk⟩ (Nat.sub_lt_sub_left hgo (Nat.lt_succ_self _)) ?_
   simp only [List.length_append,List.length_singleton,dW,dC,gA]
   refine bC [3] (by simp) ?_ ?_ <;> simp [-map_map,upd,aT,Γ0,aI]
  ·have q1:¬ (i:Int)<c.length:=by omega
   rw [List.take_of_length_le (by omega)] at ho
   have e1:=eL dY (rfl:out.length=out.length)
   have e2:=dX (by decide) dY (rfl:out.length=out.length)
   have e3:=bY dY out
   simp [-map_map,-mapM_map,↓KW,aI,q1,e1,e2,e3,ho,bJ]
def zK (m:List (Int × Ch)) (n:Int) (x:Ch):List (Int × Ch):=m.map fun p=>if p.1=n then (p.1,x) else p
def kM (x:Ch) (n:Int):Int:=((x.find? fun f=>decide (f.1=n)).map (·.2)).getD 0
theorem aOk {x:Ch} {i:Nat} (h:i<x.length) (n:Int):kM (x.drop i) n=if x[i].1=n then x[i].2 else kM (x.drop (i+1)) n:=by
 unfold kM
 rw [List.drop_eq_getElem_cons h,List.find?_cons]
 by_cases e:x[i].1=n <;> simp [e]
set_option maxHeartbeats 2000000 in
set_option maxRecDepth 10000 in
theorem bGp {x:Ch} (n:Int) (hl:x.length≤1000000):Spec Tryz.prog 89 [aM x,.i .i64 n] (encZ (kM x n)):=by
 refine aY (N:=25) aF Tryz.func89 rfl rfl rfl (by kernel_rfl) (by kernel_rfl) (by simp) ?_
 simp [-map_map,-mapM_map,↓KW,aM]
 refine aU (fun i:Nat=>i≤x.length∧kM (x.drop i) n=kM x n) (fun i=>StL [(0,.d (aM x)),(1,.d (.i .i64 n)),(4,.ptr 1 0),(5,.d (.i .i64 (i:Int)))] none [.cells 69 [.d (.b false),.nil]]) (fun i=>x.length - i) 0 ⟨Nat.zero_le _,rfl⟩ ?_ ?_
 ·refine bC [1] (by simp) ?_ ?_ <;> simp [-map_map,upd,aT,Γ0,aM]
 ·rintro i ⟨hi,hd⟩
  by_cases hgo:i<x.length
  ·have q1:(i:Int)<x.length:=by omega
   have hf:x[i]? = some x[i]:=List.getElem?_eq_getElem hgo
   have hw:IntKind.i64.wrap ((i:Int)+1)=(i:Int)+1:=aS (by omega) (by omega)
   rw [aOk hgo] at hd
   refine (show ∃ f,x[i]=f from ⟨_,rfl⟩).elim fun f hfe=>?_
   rw [hfe] at hf hd
   have hef:eE f=[.i .i64 f.1,.b (decide (f.2<0)),aG (aV f.2.natAbs)]:=rfl
   by_cases h0:f.1=n
   ·rw [if_pos h0] at hd
    have q3:(((n:Int) == (n:Int)):Bool)=true:=by simp
    simp [-map_map,-mapM_map,↓KW,aM,q1,hf,hef,h0,q3,bI,← hd,aJ,aD,aP]
   ·rw [if_neg h0] at hd
    have h0':((f.1 == n):Bool)=false:=by simpa using h0
    simp [-map_map,-mapM_map,↓KW,aM,q1,hf,hef,h0,h0',hw,aJ,aD,aP]
    refine aK (i+1) ⟨hgo,hd⟩ (Nat.sub_lt_sub_left hgo (Nat.lt_succ_self _)) (bC [1] (by simp) ?_ ?_) <;> simp [-map_map,upd,aT,Γ0,aM]
  ·have q1:¬ (i:Int)<x.length:=by omega
   have h0:kM x n=0:=by rw [← hd,List.drop_of_length_le (by omega)]; rfl
   have h1:aG (aV 0)=.sl []:=by rw [cE]; rfl
   simp [-map_map,-mapM_map,↓KW,aM,q1,h0,bI,h1]
theorem aGs {α:Type} {f:α→List D} {k:Nat} (h:∀ x,(f x).length=k):∀ (l:List α) (j c:Nat) (x:α),l[j]? = some x→c<k→(flt f l)[j * k+c]? = (f x)[c]?
 | [],j,c,x,hx,_=>by simp at hx
 | y::l,0,c,x,hx,hc=>by
  simp at hx; subst hx
  rw [Nat.zero_mul,Nat.zero_add,show flt f (y::l)=f y++flt f l from by simp [flt],List.getElem?_append_left (by rw [h]; exact hc)]
 | y::l,j+1,c,x,hx,hc=>by
  rw [show flt f (y::l)=f y++flt f l from by simp [flt],List.getElem?_append_right (by rw [h,Nat.add_mul]; omega),h,show (j+1) * k+c - k=j * k+c by rw [Nat.add_mul]; omega]
  exact aGs h l j c x (by simpa using hx) hc
def xT (m:List (Int × Ch)) (n:Int) (x:Ch) (i:Nat):List (Int × Ch):=zK (m.take i) n x++m.drop i
set_option maxHeartbeats 2000000 in
set_option maxRecDepth 10000 in
theorem bGo {m:List (Int × Ch)} (n:Int) (x:Ch) (hl:m.length≤1000000):Spec Tryz.prog 41 [bJ m,.i .i64 n,aM x] (bJ (zK m n x)):=by
 refine aY (N:=31) aF Tryz.func41 rfl rfl rfl (by kernel_rfl) (by kernel_rfl) (by simp) ?_
 have hbb:m.length * 32≤140737488355328∧m.length≤maxLen:=⟨by omega,aW (by omega)⟩
 have hal:=eq_true (fun (a:D) (ha:a∈flt lG m)=>List.all_eq_true.1 (eB wS m) (.d a) (List.mem_map.2 ⟨a,ha,rfl⟩))
 have hff:=oG lG m
 have hcl:=bY dY m
 have hok:fF 2 (m.map lG)=true:=by cases m <;> simp [fF,dY]
 simp [-map_map,-mapM_map,↓KW,bJ,hbb,aDa,hff,hok,hal]
 refine aU (fun i:Nat=>i≤m.length) (fun i=>StL [(0,.d (bJ m)),(1,.d (.i .i64 n)),(2,.d (aM x)),(7,.own 1 0 m.length 2),(8,.d (.i .i64 (i:Int)))] none [.cells 97 ((flt lG (xT m n x i)).map .d)]) (fun i=>m.length - i) 0 (Nat.zero_le _) ?_ ?_
 ·have e0:xT m n x 0=m:=rfl
  rw [e0]
  refine bC [2] (by simp) ?_ ?_ <;> simp [-map_map,upd,aT,Γ0,bJ,aM]
 ·intro i hi
  have hwl:(xT m n x i).length=m.length:=by unfold xT zK; rw [List.length_append,List.length_map,List.length_take,List.length_drop]; omega
  by_cases hgo:i<m.length
  ·have q1:(i:Int)<m.length:=by omega
   have hw:IntKind.i64.wrap ((i:Int)+1)=(i:Int)+1:=aS (by omega) (by omega)
   have hx:(xT m n x i)[i]? = some m[i]:=by
    unfold xT
    rw [List.getElem?_append_right (by unfold zK; rw [List.length_map,List.length_take]; omega)]
    simp [zK,List.length_take,Nat.min_eq_left hi,hgo]
   have hnx:xT m n x (i+1)=(xT m n x i).set i (if m[i].1=n then (m[i].1,x) else m[i]):=by
    unfold xT zK
    rw [List.take_add_one,List.getElem?_eq_getElem hgo,List.map_append,List.set_append_right _ _ (by rw [List.length_map,List.length_take]; omega),List.drop_eq_getElem_cons hgo,List.length_map,List.length_take,Nat.min_eq_left hi,Nat.sub_self,List.set_cons_zero]
    simp
   refine (show ∃ p,m[i]=p from ⟨_,rfl⟩).elim fun p hpe=>?_
   rw [hpe] at hx hnx
   refine (show ∃ L,xT m n x i=L from ⟨_,rfl⟩).elim fun L hLe=>?_
   rw [hLe] at hx hnx hwl
   simp only [hLe,hnx]
   have c0:(flt lG L)[i * 2]? = some (.i .i64 p.1):=aGs dY L i 0 p hx (by decide)
   have hcl:=bY dY L
   rw [hwl] at hcl
   by_cases h0:p.1=n
   ·have q3:(((n:Int) == (n:Int)):Bool)=true:=by simp
    rw [if_pos h0] at hnx
    have hst:lay ((flt lG L).map AV.d) (i * 2+1) [.d (aM x)]=(flt lG (L.set i (p.1,x))).map .d:=by
     rw [nG _ _ _ (by omega),yZ dY L i 1 p (p.1,x) _ hx (by decide) rfl]
    have hli:i * 2+1+1≤m.length * 2:=by omega
    rw [h0] at hst
    simp [-map_map,-mapM_map,↓KW,bJ,aC,aE,aB,q1,hw,h0,q3,c0,hcl,hst,hli]
    refine aK (i+1) hgo (Nat.sub_lt_sub_left hgo (Nat.lt_succ_self _)) ?_
    rw [hnx]
    refine bC [1] (by simp) ?_ ?_ <;> simp [-map_map,upd,aT,Γ0,bJ,aM,h0]
   ·have h0':((p.1 == n):Bool)=false:=by simpa using h0
    have hset:L.set i p=L:=by
     obtain ⟨h1,h2⟩:=List.getElem?_eq_some_iff.1 hx
     rw [← h2]; exact List.set_getElem_self h1
    rw [if_neg h0,hset] at hnx
    simp [-map_map,-mapM_map,↓KW,bJ,aC,q1,hw,h0,h0',c0,hcl]
    refine aK (i+1) hgo (Nat.sub_lt_sub_left hgo (Nat.lt_succ_self _)) ?_
    rw [hnx]
    refine bC [1] (by simp) ?_ ?_ <;> simp [-map_map,upd,aT,Γ0,bJ,aM]
  ·have q1:¬ (i:Int)<m.length:=by omega
   have hfin:xT m n x i=zK m n x:=by unfold xT; rw [List.take_of_length_le (by omega),List.drop_of_length_le (by omega),List.append_nil]
   rw [hfin] at hwl ⊢
   have e1:=eL dY hwl
   have e2:=dX (by decide) dY hwl
   have e3:=bY dY (zK m n x)
   rw [hwl] at e3
   simp [-map_map,-mapM_map,↓KW,bJ,q1,e1,e2,e3]
end Go.Am
end

section
set_option linter.unusedVariables false
set_option linter.unusedSimpArgs false
open List (map_map mapM_map)
open Go Go.Am Go.Proofs
namespace Go.Am
def sR (n:Int) (y:Ch) (z:Cl):Cl:=if kM z.b n=0 then z else ⟨z.id,z.dim,plM (kM z.b n) z.b y⟩
def wK (c:List Cl) (n:Int) (y:Ch):List Cl:=c.map (sR n y)
def xW (c:List Cl) (n:Int) (y:Ch) (i:Nat):List Cl:=(c.take i).map (sR n y)++c.drop i
theorem aVc {x:Ch} {M:Nat} (h:Bnd M x) (n:Int):(kM x n).natAbs≤M:=by
 unfold kM
 cases e:x.find? fun f=>decide (f.1=n) with
 | none=>exact Nat.zero_le _
 | some f=>exact h f (List.mem_of_find?_eq_some e)
theorem bFv (n:Int):((n.sign != 0):Bool)=!decide (n=0):=by
 by_cases h:n=0
 ·subst h; rfl
 ·have:n.sign≠0:=fun e=>h (Int.sign_eq_zero_iff_zero.1 e)
  simp [this,h]
set_option maxHeartbeats 4000000 in
set_option maxRecDepth 10000 in
theorem aFz {c:List Cl} {e f:Nat} (n:Int) (y:Ch) (hz:SzX e c) (hy:Bnd (2 ^ f) y) (hyl:y.length≤1048576) (he:e+f+e+2<4398046511104):oN Tryz.prog 40 [aI c,.i .i64 n,aM y] (fun m=>.own m 0 c.length 3) (fun _=>[.cells 47 ((flt aZ (wK c n y)).map .d)]):=by
 have hlen:=hz.len
 refine lD (N:=42) aF Tryz.func40 rfl rfl rfl (by decide) (by kernel_rfl) (by kernel_rfl) (by simp) rfl ?_
 have hbb:c.length * 40≤140737488355328∧c.length≤maxLen:=⟨by omega,aW (by omega)⟩
 have hal:=eq_true (fun (a:D) (ha:a∈flt aZ c)=>List.all_eq_true.1 (eB jO c) (.d a) (List.mem_map.2 ⟨a,ha,rfl⟩))
 have hff:=oG aZ c
 have hok:=gE c
 simp [-map_map,-mapM_map,↓KW,aI,hbb,aDa,hff,hok,hal]
 refine aU (fun i:Nat=>i≤c.length) (fun i=>StL [(0,.d (aI c)),(1,.d (.i .i64 n)),(2,.d (aM y)),(7,.own 1 0 c.length 3),(8,.d (.i .i64 (i:Int)))] none [.cells 47 ((flt aZ (xW c n y i)).map .d)]) (fun i=>c.length - i) 0 (Nat.zero_le _) ?_ ?_
 ·have e0:xW c n y 0=c:=rfl
  rw [e0]
  refine bC [2] (by simp) ?_ ?_ <;> simp [-map_map,upd,aT,Γ0,aI,aM]
 ·intro i hi
  have hwl:(xW c n y i).length=c.length:=by unfold xW; rw [List.length_append,List.length_map,List.length_take,List.length_drop]; omega
  by_cases hgo:i<c.length
  ·have q1:(i:Int)<c.length:=by omega
   have hw:IntKind.i64.wrap ((i:Int)+1)=(i:Int)+1:=aS (by omega) (by omega)
   have hx:(xW c n y i)[i]? = some c[i]:=by
    unfold xW
    rw [List.getElem?_append_right (by rw [List.length_map,List.length_take]; omega)]
    simp [List.length_take,Nat.min_eq_left hi,hgo]
   have hnx:xW c n y (i+1)=(xW c n y i).set i (sR n y c[i]):=by
    unfold xW
    rw [List.take_add_one,List.getElem?_eq_getElem hgo,List.map_append,List.set_append_right _ _ (by rw [List.length_map,List.length_take]; omega),List.drop_eq_getElem_cons hgo,List.length_map,List.length_take,Nat.min_eq_left hi,Nat.sub_self,List.set_cons_zero]
    simp
   have hzl:=hz.bl _ (List.getElem_mem hgo)
   have hzb:=hz.bb _ (List.getElem_mem hgo)
   refine (show ∃ z,c[i]=z from ⟨_,rfl⟩).elim fun z hze=>?_
   rw [hze] at hx hnx hzl hzb
   refine (show ∃ L,xW c n y i=L from ⟨_,rfl⟩).elim fun L hLe=>?_
   rw [hLe] at hx hnx hwl
   simp only [hLe]
   have c2:(flt aZ L)[i * 3+2]? = some (aM z.b):=aGs bP L i 2 z hx (by decide)
   have hcl:=bY bP L
   rw [hwl] at hcl
   have hCo:=bGp (x:=z.b) n (by omega)
   have hcb:=aVc hzb n
   have hPl:=oT (k:=kM z.b n) hzb hy hcb (by omega) (by omega) (by omega) hyl
   have hSg:=eJ (kM z.b n)
   have hsn:=bFv (kM z.b n)
   have hli:i * 3+2+1≤c.length * 3:=by omega
   refine (show ∃ k,kM z.b n=k from ⟨_,rfl⟩).elim fun k hke=>?_
   have hrc:sR n y z=if k=0 then z else ⟨z.id,z.dim,plM k z.b y⟩:=by unfold sR; rw [hke]
   rw [hke] at hCo hPl hSg hsn
   rw [hrc] at hnx
   simp [-map_map,-mapM_map,↓KW,aI,q1,c2,hcl,aE,aB,aC]
   refine aA (ds:=[aM z.b,.i .i64 n]) (by rfl) hCo ?_
   simp [-map_map,-mapM_map,↓KW,aI,bI,q1,c2,hcl,aE,aB,aC,aJ,aD,aP]
   refine aA (ds:=[encZ k]) (by rfl) hSg ?_
   by_cases h0:k=0
   ·rw [if_pos h0] at hnx
    rw [decide_eq_true h0] at hsn
    have hset:L.set i z=L:=by
     obtain ⟨h1,h2⟩:=List.getElem?_eq_some_iff.1 hx
     rw [← h2]; exact List.set_getElem_self h1
    rw [hset] at hnx
    have hsn':((k.sign != 0):Bool)=false:=hsn
    simp [-map_map,-mapM_map,↓KW,aI,bI,hsn',hw,aE,aB,aC,aJ,aD,aP]
    refine aK (i+1) hgo (Nat.sub_lt_sub_left hgo (Nat.lt_succ_self _)) ?_
    rw [hnx]
    refine bC [1] (by simp) ?_ ?_ <;> simp [-map_map,upd,aT,Γ0,aI,aM]
   ·rw [if_neg h0] at hnx
    rw [decide_eq_false h0] at hsn
    have hst:lay ((flt aZ L).map AV.d) (i * 3+2) [.d (aM (plM k z.b y))]=(flt aZ (L.set i ⟨z.id,z.dim,plM k z.b y⟩)).map .d:=by
     rw [nG _ _ _ (by omega),yZ bP L i 2 z ⟨z.id,z.dim,plM k z.b y⟩ _ hx (by decide) rfl]
    have hsn':((k.sign != 0):Bool)=true:=hsn
    simp [-map_map,-mapM_map,↓KW,aI,bI,hsn',q1,c2,hcl,aE,aB,aC,aJ,aD,aP]
    refine aA (ds:=[aM z.b,aM y,encZ k]) (by rfl) hPl ?_
    simp [-map_map,-mapM_map,↓KW,aI,bI,hw,q1,c2,hcl,hst,hli,aQ,bF,aE,aB,aC,aJ,aD,aP]
    refine aK (i+1) hgo (Nat.sub_lt_sub_left hgo (Nat.lt_succ_self _)) ?_
    rw [hnx]
    refine bC [1] (by simp) ?_ ?_ <;> simp [-map_map,upd,aT,Γ0,aI,aM]
  ·have q1:¬ (i:Int)<c.length:=by omega
   have hfin:xW c n y i=wK c n y:=by unfold xW wK; rw [List.take_of_length_le (by omega),List.drop_of_length_le (by omega),List.append_nil]
   rw [hfin] at hwl ⊢
   simp [-map_map,-mapM_map,↓KW,aI,q1]
   refine fun m hm=>⟨_,aQm ?_ m hm⟩
   simp [mS]
end Go.Am
end

section
set_option linter.unusedVariables false
set_option linter.unusedSimpArgs false
open List (map_map mapM_map)
open Go Go.Am Go.Proofs
namespace Go.Am
def pR (r:List Cl × List (Int × Ch) × Int):D:=.ag [aI r.1,bJ r.2.1,.i .i64 r.2.2]
theorem aYc (c:List Cl) (n:Int) (y:Ch):(wK c n y).length=c.length:=by unfold wK; rw [List.length_map]
theorem aKl (c:List Cl) (g:List (Int × Ch)):(fQ c g).length=c.length:=by unfold fQ; rw [List.length_map]
theorem iI (c:List Cl):inj (aI c)=.d (aI c):=rfl
theorem fH (H:Nat→Option HO) (avs:List AV) (c:List Cl):bX H avs (aI c)=gD H avs:=rfl
theorem fM (c:List Cl):one (AV.d (aI c))=true:=rfl
theorem gV (c:List (Int × Ch)):one (AV.d (bJ c))=true:=rfl
theorem dM (c:List Cl):eG (AV.d (aI c))=some [AV.d (aI c)]:=rfl
theorem eI (c:List (Int × Ch)):eG (AV.d (bJ c))=some [AV.d (bJ c)]:=rfl
theorem fB (c:List Cl):aT (aI c)=.d (aI c):=rfl
set_option maxHeartbeats 2000000 in
set_option maxRecDepth 10000 in
theorem aNb {a b:List (Int × Ch)} (ha:∀ x∈a,∀ f∈x.2,Sz f.2) (hb:∀ x∈b,∀ f∈x.2,Sz f.2) (hla:∀ x∈a,x.2.length≤1073741824) (hlb:∀ x∈b,x.2.length≤1073741824) (hl:a.length≤1073741824) (hl2:b.length≤1073741824):Spec Tryz.prog 49 [bJ a,bJ b] (.b (decide (a=b))):=by
 refine aY (N:=42) aF Tryz.func49 rfl rfl rfl (by kernel_rfl) (by kernel_rfl) (by simp) ?_
 by_cases hn:a.length=b.length
 rotate_left
 ·have h1:((a.length:Int) != b.length)=true:=by simp; omega
  have h2:¬ a=b:=fun e=>hn (by rw [e])
  simp [-map_map,-mapM_map,↓KW,bJ,h1,h2]
 ·have h1:((a.length:Int) != b.length)=false:=by simp; omega
  simp [-map_map,-mapM_map,↓KW,bJ,h1]
  refine aU (fun i:Nat=>i≤a.length∧a.take i=b.take i) (fun i=>StL [(0,.d (bJ a)),(1,.d (bJ b)),(5,.d (.i .i64 i))] none []) (fun i=>a.length - i) 0 ⟨Nat.zero_le _,by simp⟩ ?_ ?_
  ·refine bC [] (by simp) ?_ ?_ <;> simp [-map_map,upd,aT,Γ0,bJ]
  ·rintro i ⟨hi,ht⟩
   by_cases hgo:i<a.length
   ·have hgb:i<b.length:=by omega
    have q1:(i:Int)<a.length:=by omega
    have hw7:IntKind.i64.wrap ((i:Int)+1)=(i:Int)+1:=aS (by omega) (by omega)
    have g1:a[i]? = some a[i]:=List.getElem?_eq_getElem hgo
    have g2:b[i]? = some b[i]:=List.getElem?_eq_getElem hgb
    have hsx:=ha _ (List.getElem_mem hgo)
    have hsy:=hb _ (List.getElem_mem hgb)
    have hlx:=hla _ (List.getElem_mem hgo)
    have hly:=hlb _ (List.getElem_mem hgb)
    have hne:a[i]≠b[i]→¬ a=b:=fun h e=>h (by subst e; rfl)
    have hta:a[i]=b[i]→a.take (i+1)=b.take (i+1):=fun e=>by rw [List.take_add_one,List.take_add_one,ht,g1,g2,e]
    generalize a[i]=x at *
    generalize b[i]=y at *
    obtain ⟨xi,xb⟩:=x
    obtain ⟨yi,yb⟩:=y
    simp only at hsx hsy hlx hly
    by_cases h2:xi=yi
    ·have h3:(xi != yi)=false:=by simpa using h2
     simp [-map_map,-mapM_map,↓KW,bJ,q1,g1,g2,h3,lG,aE,aB,aC]
     refine aA (ds:=[aM xb,aM yb]) (by rfl) (oS xb yb hsx hsy hlx hly) ?_
     by_cases h4:xb=yb
     ·have h5:=hta (by rw [h2,h4])
      simp [-map_map,-mapM_map,↓KW,h4,hw7]
      refine aK (i+1) ⟨hgo,h5⟩ (Nat.sub_lt_sub_left hgo (Nat.lt_succ_self i)) (bC [] (by simp) ?_ ?_) <;> simp [-map_map,upd,aT,Γ0,bJ]
     ·have h5:=hne (fun e=>h4 (by injection e))
      simp [-map_map,-mapM_map,↓KW,h4,h5]
    ·have h3:(xi != yi)=true:=by simpa using h2
     have h5:=hne (fun e=>h2 (by injection e))
     simp [-map_map,-mapM_map,↓KW,bJ,q1,g1,g2,h3,h5,lG,aE,aB,aC]
   ·have q1:¬ (i:Int)<a.length:=by omega
    have e:a=b:=by rwa [List.take_of_length_le (by omega),List.take_of_length_le (by omega)] at ht
    subst e
    simp [-map_map,-mapM_map,↓KW,bJ,q1]
structure bPj (c:List Cl) (m:List (Int × Ch)):Prop where
 cs:∀ x∈c,∀ f∈x.b,Sz f.2
 cl:∀ x∈c,x.b.length≤1073741824
 cn:c.length≤1073741824
 ms:∀ x∈m,∀ f∈x.2,Sz f.2
 ml:∀ x∈m,x.2.length≤1073741824
 mn:m.length≤1073741824
set_option maxHeartbeats 1000000 in
theorem bPu {r:List Cl × List (Int × Ch) × Int} {c:List Cl} {m:List (Int × Ch)} (hr:bPj r.1 r.2.1) (hc:bPj c m):Spec Tryz.prog 13 [pR r,aI c,bJ m] (.b (decide (r.1=c) && decide (r.2.1=m))):=by
 refine aY (N:=17) aF Tryz.func13 rfl rfl rfl (by kernel_rfl) (by kernel_rfl) (by simp) ?_
 have hS:=aQa hr.cs hc.cs hr.cl hc.cl hr.cn hc.cn
 have hM:=aNb hr.ms hc.ms hr.ml hc.ml hr.mn hc.mn
 obtain ⟨r1,r2,r3⟩:=r
 simp only at hS hM ⊢
 have he:pR (r1,r2,r3)=.ag [aI r1,bJ r2,.i .i64 r3]:=rfl
 rw [he]
 simp [-map_map,-mapM_map,↓KW,fM,gV,dM,eI,fB,gM]
 refine aA (ds:=[aI r1,aI c]) (by rfl) hS ?_
 by_cases h:r1=c
 ·rw [decide_eq_true h]
  simp [-map_map,-mapM_map,↓KW,fM,gV,dM,eI,fB,gM,h]
  refine aA (ds:=[bJ r2,bJ m]) (by rfl) hM ?_
  simp [-map_map,-mapM_map,↓KW,h]
 ·rw [decide_eq_false h]
  simp [-map_map,-mapM_map,↓KW,fM,gV,dM,eI,fB,gM,h]
def knX (c:List Cl):List Int:=c.map Cl.id++[99]
def tL (n:Int):List D:=[.i .i64 n]
theorem mN (n:Int):(tL n).length=1:=rfl
theorem aBp (n:Int):((tL n).map AV.d).all one=true:=rfl
set_option maxHeartbeats 2000000 in
set_option maxRecDepth 10000 in
theorem bAi {c:List Cl} (hl:c.length≤1000000):Spec Tryz.prog 10 [aI c] (cF (knX c)):=by
 refine aY (N:=23) aF Tryz.func10 rfl rfl rfl (by kernel_rfl) (by kernel_rfl) (by simp) ?_
 simp [-map_map,-mapM_map,↓KW,aI]
 refine aU (fun i:Nat=>i≤c.length) (fun i=>StL [(0,.d (aI c)),(3,.own 1 0 i 1),(4,.d (.i .i64 (i:Int)))] none [.cells 3 ((flt tL ((c.take i).map Cl.id)).map .d)]) (fun i=>c.length - i) 0 (Nat.zero_le _) ?_ ?_
 ·refine bC [1] (by simp) ?_ ?_ <;> simp [-map_map,upd,aT,Γ0,aI,zA]
 ·intro i hi
  by_cases hgo:i<c.length
  ·have q1:(i:Int)<c.length:=by omega
   have hx:c[i]? = some c[i]:=List.getElem?_eq_getElem hgo
   have hw:IntKind.i64.wrap ((i:Int)+1)=(i:Int)+1:=aS (by omega) (by omega)
   have htk:(c.take (i+1)).map Cl.id=(c.take i).map Cl.id++[c[i].id]:=by rw [List.take_add_one,hx,List.map_append]; rfl
   have hil:((c.take i).map Cl.id).length=i:=by rw [List.length_map,List.length_take]; omega
   refine (show ∃ x,c[i]=x from ⟨_,rfl⟩).elim fun x hxe=>?_
   rw [hxe] at hx htk
   refine (show ∃ L,(c.take i).map Cl.id=L from ⟨_,rfl⟩).elim fun L hLe=>?_
   rw [hLe] at htk hil
   simp only [hLe]
   have hyc:aZ x=[D.i .i64 x.id,.i .i64 x.dim,aM x.b]:=rfl
   have hcl:=bY mN L
   rw [hil] at hcl
   have hal:=eB aBp L
   have hbb:=xS (n:=i) (by omega)
   have hb8:(i+1) * 8≤140737488355328:=by omega
   have hm1:(1:Nat)≤maxLen:=aW (by decide)
   simp [-map_map,-mapM_map,↓KW,aI,q1,hx,hyc,hw,hcl,hal,hbb,hb8,hm1,aW,aE,aB,aC]
   refine aK (i+1) hgo (Nat.sub_lt_sub_left hgo (Nat.lt_succ_self _)) ?_
   rw [htk,dW,dC]
   refine bC [3] (by simp) ?_ ?_ <;> simp [-map_map,upd,aT,Γ0,aI,tL]
  ·have q1:¬ (i:Int)<c.length:=by omega
   obtain rfl:i=c.length:=by omega
   rw [List.take_of_length_le (by omega)]
   have hil:(c.map Cl.id).length=c.length:=List.length_map _
   have hk:flt tL (knX c)=flt tL (c.map Cl.id)++[D.i .i64 99]:=by unfold knX; rw [dW,dC]; rfl
   have hkl:(knX c).length=c.length+1:=by unfold knX; rw [List.length_append,hil]; rfl
   refine (show ∃ L,c.map Cl.id=L from ⟨_,rfl⟩).elim fun L hLe=>?_
   rw [hLe] at hk hil
   simp only [hLe]
   have hcl:=bY mN L
   rw [hil] at hcl
   have hal:=eB aBp L
   have hb8:(c.length+1) * 8≤140737488355328:=by omega
   have hm1:(1:Nat)≤maxLen:=aW (by decide)
   have hm2:c.length+1≤maxLen:=aW (by omega)
   have hce:∀ l:List D,l.map AV.d++[AV.d (D.i .i64 99)]=(l++[D.i .i64 99]).map AV.d:=fun l=>by simp
   have e1:=eL mN hkl
   rw [Nat.mul_one] at e1
   have e2:=dX (by decide) mN hkl
   have e3:=bY mN (knX c)
   rw [hkl,Nat.mul_one] at e3
   have hen:cF (knX c)=.sl ((knX c).map tL):=rfl
   rw [hen]
   simp [-map_map,-mapM_map,↓KW,aI,q1,hcl,hal,hb8,hm1,hm2,hce,← hk,e1,e2,e3]
end Go.Am
end

section
set_option linter.unusedVariables false
set_option linter.unusedSimpArgs false
open List (map_map mapM_map)
open Go Go.Am Go.Proofs
namespace Go.Am
theorem rec65:kJ Tryz.prog 65:=by
 refine ⟨fun w=>enters_of Tryz.func65 (by kernel_rfl) rfl _ w,fun w=>?_⟩
 refine callsD_of_wpS Tryz.func65 rfl fun c₀ cs hu=>?_
 apply wpS_region
 simp [wpOpsS,go_sem,recoverD,hu,Tryz.ntmps65,bodyPostS,results,Tryz.results65]
 cases c₀; simp only at hu; subst hu; rfl
theorem sO {H H':Nat→Option HO} {ρ:Nat→Nat} {t:TypeId} {id n:Nat} {l:Ch} (hn:l.length=n) (hH:H id=some (.cells t ((flt eE l).map .d))) (hv:∀ j,(H' j).isSome=true→ρ j≠id):Sub H H' ρ (.own id 0 n 3) (.d (aM l)):=by
 have e1:=eL eN hn
 have e2:=dX (by decide) eN hn
 have e3:=bY eN l
 rw [hn] at e3
 refine lQ ?_ fun a ha j h=>?_
 ·rw [iB,hH]
  simp only [Nat.zero_mul,Nat.zero_add,List.drop_zero,e1,kS,Option.map_some,e2]
  rw [if_pos ⟨by rw [List.length_map]; omega,by omega⟩]; rfl
 ·have e:vis H 8 (.own id 0 n 3)=id::((flt eE l).map AV.d).flatMap (vis H 7):=by
   rw [aPr,hH,zL,Nat.zero_mul,List.drop_zero,e1]
  rw [e] at ha
  rcases List.mem_cons.1 ha with rfl | ha
  ·exact hv j h
  ·obtain ⟨x,hx,hxa⟩:=List.mem_flatMap.1 ha
   obtain ⟨d,_,rfl⟩:=List.mem_map.1 hx
   simp [vis] at hxa
theorem eW {H H':Nat→Option HO} {ρ:Nat→Nat} (cs:List D):Sub H H' ρ (.fp cs) (.fp cs)↔True:=⟨fun _=>trivial,fun _=>⟨rfl,fun a ha=>by simp [vis] at ha⟩⟩
theorem oO {H H':Nat→Option HO} {ρ:Nat→Nat} {t:TypeId} {id:Nat} {cs:List D} (hH:H id=some (.cells t (cs.map .d))) (hv:∀ j,(H' j).isSome=true→ρ j≠id):Sub H H' ρ (.ptr id 0) (.fp cs):=by
 have h1:frz H 8 (.ptr id 0)=some (.pt cs):=by
  rw [aLc,hH]
  simp only [Nat.zero_le,if_true,List.drop_zero,kS,Option.map_some]
 have h2:∀ a∈vis H 8 (.ptr id 0),∀ j,(H' j).isSome=true→ρ j≠a:=fun a ha j h=>by
  rw [aHw,hH] at ha
  simp only [List.drop_zero] at ha
  rcases List.mem_cons.1 ha with rfl | ha
  ·exact hv j h
  ·obtain ⟨x,hx,hxa⟩:=List.mem_flatMap.1 ha
   obtain ⟨d,_,rfl⟩:=List.mem_map.1 hx
   simp [vis] at hxa
 exact ⟨h1,h2⟩
theorem vA (H:Nat→Option HO) (n:Nat):eS H n []=H:=by
 funext id; simp only [eS,List.length_nil]; rw [if_neg (by omega)]
theorem uZ (H:Nat→Option HO) (n:Nat) (o:HO):eS H n [o]=upd H n (some o):=by
 funext id
 simp only [eS,List.length_singleton]
 by_cases h:id=n
 ·subst h; rw [if_pos (by omega),cG,Nat.sub_self]; rfl
 ·rw [if_neg (by omega),cU _ _ h]
theorem aDq {l:Ch} {i:Nat} (h:i<l.length):sK (l.take (i+1))=sK (l.take i)++if 0<l[i].2 then [l[i]] else []:=by
 unfold sK
 rw [List.take_add_one,List.getElem?_eq_getElem h,List.filter_append]
 congr 1
 by_cases e:0<l[i].2 <;> simp [e]
theorem aTz {l:Ch} {i:Nat} (h:i<l.length):tE (l.take (i+1))=tE (l.take i)++if 0<l[i].2 then [] else [l[i]]:=by
 unfold tE
 rw [List.take_add_one,List.getElem?_eq_getElem h,List.filter_append]
 congr 1
 by_cases e:0<l[i].2 <;> simp [e]
theorem bEd {l:Ch} {i:Nat} (h:i<l.length) (e w1:Int):adF e w1 (l.take (i+1))=adF e w1 (l.take i)++if l[i].1=e then [(w1,l[i].2)] else []:=by
 unfold adF
 rw [List.take_add_one,List.getElem?_eq_getElem h,List.filter_append,List.map_append]
 congr 1
 by_cases q:l[i].1=e <;> simp [q]
theorem qF (l:Ch):(sK l).length≤l.length:=List.length_filter_le _ _
theorem uL (l:Ch):(tE l).length≤l.length:=List.length_filter_le _ _
theorem bKi (e w:Int) (l:Ch):(adF e w l).length≤l.length:=by unfold adF; rw [List.length_map]; exact List.length_filter_le _ _
theorem aPx (z:Int):decide (0<z.sign)=decide (0<z):=by
 rcases Int.lt_trichotomy z 0 with h | h | h
 ·rw [Int.sign_eq_neg_one_of_neg h]; simp; omega
 ·subst h; rfl
 ·rw [Int.sign_eq_one_of_pos h]; simp [h]
theorem bGt {e:Nat} {w:Int} {z:Int} {l:Ch} (hz:z.natAbs=1) (h:Bnd (2 ^ e) l):Bnd (2 ^ e) ((w,z)::l):=fun x hx=>by
 rcases List.mem_cons.1 hx with rfl | hx
 ·show z.natAbs≤_; rw [hz]; exact Nat.one_le_two_pow
 ·exact h x hx
set_option maxHeartbeats 8000000 in
set_option maxRecDepth 10000 in
theorem aKi {c:List Cl} {F:Nat} (e w0 w1:Int) (hc:Inc c) (hz:SzX F c) (hk:∀ x∈c,Keys x.b) (hi0:inr w0=true) (hi1:inr w1=true) (hie:inr e=true) (hne:∀ f∈bOf c e,f.1≠e) (hF:F+20<4398046511104) :
  Spec Tryz.prog 24 [aI c,.i .i64 e,.ag [.i .i64 w0,.i .i64 w1]] (gF (pS c e w0 w1)):=by
 have hlen:=hz.len
 have hFe:=aBt hc e (by omega)
 have hF0:=aBt hc w0 (by omega)
 have hF1:=aBt hc w1 (by omega)
 have hr:∃ p x,(bT c e).isSome=p∧(bT c e).getD qK=x:=⟨_,_,rfl,rfl⟩
 obtain ⟨p,x,hp,hx⟩:=hr
 have hde:dOf c e=x.dim:=by unfold dOf; rw [hx]
 have hbe:bOf c e=x.b:=by unfold bOf; rw [hx]
 have hxl:x.b.length≤100:=by rw [← hbe]; exact vM hz.bl e
 have hxb:Bnd (2 ^ F) x.b:=by rw [← hbe]; exact sF hz.bb e
 unfold wP at hFe hF0 hF1
 rw [hp,hx] at hFe
 have hk0:kn c w0=(bT c w0).isSome:=rfl
 have hk1:kn c w1=(bT c w1).isSome:=rfl
 obtain ⟨u0,y0,hu0,hy0⟩:∃ u y,(bT c w0).isSome=u∧(bT c w0).getD qK=y:=⟨_,_,rfl,rfl⟩
 obtain ⟨u1,y1,hu1,hy1⟩:∃ u y,(bT c w1).isSome=u∧(bT c w1).getD qK=y:=⟨_,_,rfl,rfl⟩
 rw [hu0,hy0] at hF0
 rw [hu1,hy1] at hF1
 rw [hu0] at hk0
 rw [hu1] at hk1
 unfold pS
 rw [hp,hde,hk0,hk1]
 refine rJ (N:=165) aF Tryz.func24 rfl rfl rfl (by kernel_rfl) (by kernel_rfl) (by kernel_rfl) (by kernel_rfl) rfl rec65 (by simp) ?_
 simp [-map_map,-mapM_map,↓KW,aI]
 refine aA (ds:=[aI c,.i .i64 e]) (by rfl) hFe ?_
 cases p with
 | false=>simp [-map_map,-mapM_map,↓KW,aI,bN,aE,aB,aC,cT,gF,bJ]
 | true =>
  by_cases h1:x.dim=1
  rotate_left
  ·have h1':((x.dim != 1):Bool)=true:=by simpa using h1
   simp [-map_map,-mapM_map,↓KW,aI,bN,aE,aB,aC,cT,gF,bJ,h1,h1']
  ·have h1':((x.dim != 1):Bool)=false:=by simpa using h1
   simp [-map_map,-mapM_map,↓KW,aI,bN,aE,aB,aC,h1,h1']
   refine aA (ds:=[aI c,.i .i64 w0]) (by rfl) hF0 ?_
   simp [-map_map,-mapM_map,↓KW,aI,bN,aE,aB,aC,h1,h1']
   refine aA (ds:=[aI c,.i .i64 w1]) (by rfl) hF1 ?_
   by_cases h2:w0=w1
   ·have h2':((w0 == w1):Bool)=true:=by simpa using h2
    simp [-map_map,-mapM_map,↓KW,aI,bN,aE,aB,aC,cT,gF,bJ,h1,h1',h2,h2']
   ·have h2':((w0 == w1):Bool)=false:=by simpa using h2
    cases u0 with
    | true=>simp [-map_map,-mapM_map,↓KW,aI,bN,aE,aB,aC,cT,gF,bJ,h1,h1',h2,h2']
    | false =>
     cases u1 with
     | true=>simp [-map_map,-mapM_map,↓KW,aI,bN,aE,aB,aC,cT,gF,bJ,h1,h1',h2,h2']
     | false =>
      have h3:¬ (398:Int)<c.length:=by omega
      have h3':¬ 398<c.length:=by omega
      have hkx:Keys x.b:=by
       cases hfx:bT c e with
       | none=>rw [hfx] at hp; cases hp
       | some x' =>
        rw [hfx] at hx
        have:x'=x:=hx
        subst this
        exact hk _ (dQ hfx).1
      have hO1:=tG
      have hOm:=bIk
      simp [-map_map,-mapM_map,↓KW,aI,bN,aE,aB,aC,h1,h1',h2,h2',h3,h3']
      refine aA (ds:=[.i .i64 1]) (by rfl) hO1 ?_
      simp [-map_map,-mapM_map,↓KW,aI,bI,bN,aE,aB,aC,aJ,aD,aP]
      refine aA (ds:=[.i .i64 (-1)]) (by rfl) hOm ?_
      simp [-map_map,-mapM_map,↓KW,aI,aM,bI,bN,aE,aB,aC,aJ,aD,aP]
      clear hFe hF0 hF1 hO1 hOm hy0 hy1 hu0 hu1 hp hx
      refine aU (fun y:Nat × Ch × Ch=>y.1≤x.b.length∧kW w0 (x.b.take y.1)=y.2.1∧jC w0 (x.b.take y.1)=y.2.2) (fun y=>StL [(0,.d (aI c)),(1,.d (.i .i64 e)),(5,.fp [.i .i64 w0,.i .i64 w1]),(15,.own 1 0 y.2.1.length 3),(16,.own 2 0 y.2.2.length 3),(76,.d (aM x.b)),(77,.d (.i .i64 x.b.length)),(78,.d (.i .i64 (y.1:Int)))] none [.cells 89 ((flt eE y.2.1).map .d),.cells 89 ((flt eE y.2.2).map .d)]) (fun y=>x.b.length - y.1) (0,[(w0,1)],[(w0,-1)]) ⟨Nat.zero_le _,rfl,rfl⟩ ?_ ?_
      ·refine bC [5,6] (by simp) ?_ ?_ <;> simp [-map_map,upd,aT,Γ0,aI,aM,dC,bB]
       exact oO (cs:=[.i .i64 w0,.i .i64 w1]) rfl fun j hj=>rM hj (by simp) (by decide)
      ·rintro ⟨i,r,p⟩ ⟨hi,hr,hp⟩
       simp only at hi hr hp ⊢
       by_cases hgo:i<x.b.length
       ·have q1:(i:Int)<x.b.length:=by omega
        have hf:x.b[i]? = some x.b[i]:=List.getElem?_eq_getElem hgo
        have hw:IntKind.i64.wrap ((i:Int)+1)=(i:Int)+1:=aS (by omega) (by omega)
        have tkr:=aTz hgo
        have tkp:=aDq hgo
        have hfb:=hxb _ (List.getElem_mem hgo)
        have hrl:r.length≤i+1:=by
         have:=uL (x.b.take i)
         rw [← hr]; unfold kW; rw [List.length_cons]; rw [List.length_take] at this; omega
        have hpl:p.length≤i+1:=by
         have:=qF (x.b.take i)
         rw [← hp]; unfold jC; rw [List.length_cons]; rw [List.length_take] at this; omega
        refine (show ∃ f,x.b[i]=f from ⟨_,rfl⟩).elim fun f hfe=>?_
        rw [hfe] at hf tkr tkp hfb
        have hef:eE f=[.i .i64 f.1,.b (decide (f.2<0)),aG (aV f.2.natAbs)]:=rfl
        have hSg:=aAu f.2 (szE hfb (by omega))
        have hsg:=aPx f.2
        have hm1:(1:Nat)≤maxLen:=aW (by decide)
        simp [-map_map,-mapM_map,↓KW,aI,aM,q1,hf,hef,aJ,aD,aP,aE,aB,aC]
        refine aA (ds:=[encZ f.2]) (by rfl) hSg ?_
        by_cases h0:0<f.2
        ·have hs0:decide (0<f.2.sign)=true:=by rw [hsg]; exact decide_eq_true h0
         have hs1:0<f.2.sign:=of_decide_eq_true hs0
         rw [if_pos h0] at tkr tkp
         rw [List.append_nil] at tkr
         have hbb:=cO (n:=p.length) (by omega)
         have hcl:=bY eN p
         have hal:=eB qU p
         simp [-map_map,-mapM_map,↓KW,aI,aM,q1,hf,hef,hs0,hs1,hw,hm1,hbb,hcl,hal,aW,aJ,aD,aP,aE,aB,aC]
         refine aK (τ:=Nat × Ch × Ch) (i+1,r,p++[f]) ⟨hgo,by rw [← hr]; unfold kW; rw [tkr],by rw [← hp]; unfold jC; rw [tkp]; rfl⟩ (Nat.sub_lt_sub_left hgo (Nat.lt_succ_self _)) ?_
         simp only [List.length_append,List.length_singleton,dW,dC,bB]
         refine bC [1,5] (by simp) ?_ ?_ <;> simp [-map_map,upd,aT,Γ0,aI,aM,eW]
        ·have hs0:decide (0<f.2.sign)=false:=by rw [hsg]; exact decide_eq_false h0
         have hs1:¬ 0<f.2.sign:=of_decide_eq_false hs0
         rw [if_neg h0] at tkr tkp
         rw [List.append_nil] at tkp
         have hbb:=cO (n:=r.length) (by omega)
         have hcl:=bY eN r
         have hal:=eB qU r
         simp [-map_map,-mapM_map,↓KW,aI,aM,q1,hf,hef,hs0,hs1,hw,hm1,hbb,hcl,hal,aW,aJ,aD,aP,aE,aB,aC]
         refine aK (τ:=Nat × Ch × Ch) (i+1,r++[f],p) ⟨hgo,by rw [← hr]; unfold kW; rw [tkr]; rfl,by rw [← hp]; unfold jC; rw [tkp]⟩ (Nat.sub_lt_sub_left hgo (Nat.lt_succ_self _)) ?_
         simp only [List.length_append,List.length_singleton,dW,dC,bB]
         refine bC [5,2] (by simp) ?_ ?_ <;> simp [-map_map,upd,aT,Γ0,aI,aM,eW]
       ·have q1:¬ (i:Int)<x.b.length:=by omega
        rw [List.take_of_length_le (by omega)] at hr hp
        have hpl:p.length≤101:=by
         have:=qF x.b
         rw [← hp]; unfold jC; rw [List.length_cons]; omega
        have hrl:r.length≤101:=by
         have:=uL x.b
         rw [← hr]; unfold kW; rw [List.length_cons]; omega
        have hpb:Bnd (2 ^ F) p:=by
         rw [← hp]; exact bGt rfl fun f hf=>hxb f (List.mem_filter.1 hf).1
        have hrb:Bnd (2 ^ F) r:=by
         rw [← hr]; exact bGt rfl fun f hf=>hxb f (List.mem_filter.1 hf).1
        have hpk:Keys p:=by
         rw [← hp]; intro f hf
         rcases List.mem_cons.1 hf with rfl | hf
         ·exact hi0
         ·exact hkx f (List.mem_filter.1 hf).1
        have hrk:Keys r:=by
         rw [← hr]; intro f hf
         rcases List.mem_cons.1 hf with rfl | hf
         ·exact hi0
         ·exact hkx f (List.mem_filter.1 hf).1
        have hMp:=aAr (l:=p) (e:=F) hpb hpk (by omega) (by omega)
        have e1:=eL eN (rfl:p.length=p.length)
        have e2:=dX (by decide) eN (rfl:p.length=p.length)
        have e3:=bY eN p
        have hpe:aIg w0 w1 (bOf c e)=⟨w1,1,bV [] p⟩:=by rw [hbe]; unfold aIg; rw [hp]
        refine (show ∃ P,bV [] p=P from ⟨_,rfl⟩).elim fun P hPe=>?_
        rw [hPe] at hMp hpe
        simp [-map_map,-mapM_map,↓KW,aI,aM,q1,aJ,aD,aP,aE,aB,aC]
        refine aA (ds:=[aM p]) (by simp [-map_map,-mapM_map,aM,upd,e1,e2,e3]) hMp ?_
        simp [-map_map,-mapM_map,↓KW,aI,aM,q1,e1,e2,e3,aQ,bF,aJ,aD,aP,aE,aB,aC]
        have hsub:∀ z:Cl,z.id=e→subL e w0 w1 (bOf c e) z=r:=fun z h=>by unfold subL; rw [if_pos h,hbe,hr]
        have hsub2:∀ z:Cl,z.id≠e→subL e w0 w1 (bOf c e) z=z.b++adF e w1 z.b:=fun z h=>by unfold subL; rw [if_neg h]
        refine (show ∃ U,(⟨w0,0,[]⟩:Cl)::[⟨w1,1,P⟩]=U from ⟨_,rfl⟩).elim fun U hU=>?_
        have hUl:U.length=2:=by rw [← hU]; rfl
        have hUu:aIe c e w0 w1=U++c.map (iG e w0 w1 (bOf c e)):=by unfold aIe wC; rw [hpe,← hU]
        refine aU (fun y:Nat × List Cl=>y.1≤c.length∧y.2.length=y.1+2∧U++(c.take y.1).map (iG e w0 w1 (bOf c e))=y.2) (fun y=>StL [(0,.d (aI c)),(1,.d (.i .i64 e)),(5,.fp [.i .i64 w0,.i .i64 w1]),(15,.d (aM r)),(19,.own 1 0 y.2.length 3),(104,.d (aI c)),(105,.d (.i .i64 c.length)),(106,.d (.i .i64 (y.1:Int)))] none [.cells 47 ((flt aZ y.2).map .d)]) (fun y=>c.length - y.1) (0,U) ⟨Nat.zero_le _,hUl,by simp⟩ ?_ ?_
        ·simp only [hUl]
         refine bC [3] (by simp) ?_ ?_
         ·simp [-map_map,upd,aT,Γ0,aI,eW]
          exact sO (t:=89) rfl (by simp [dT,rL]) fun j hj=>rM hj (by simp) (by decide)
         ·rw [← hU]
          simp [-map_map,upd,aT,Γ0,aI,eW,flt,bN,aLh,wE]
          rfl
        ·rintro ⟨i,d⟩ ⟨hi,hdl,hd⟩
         simp only at hi hdl hd ⊢
         by_cases hgo:i<c.length
         ·have q1:(i:Int)<c.length:=by omega
          have hx1:c[i]? = some c[i]:=List.getElem?_eq_getElem hgo
          have hw:IntKind.i64.wrap ((i:Int)+1)=(i:Int)+1:=aS (by omega) (by omega)
          have htk:U++(c.take (i+1)).map (iG e w0 w1 (bOf c e))=d++[iG e w0 w1 (bOf c e) c[i]]:=by rw [List.take_add_one,hx1,List.map_append,← List.append_assoc,hd]; rfl
          have hzl:=hz.bl _ (List.getElem_mem hgo)
          have hzb:=hz.bb _ (List.getElem_mem hgo)
          have hzk:=hk _ (List.getElem_mem hgo)
          have hzf:c[i].id=e→bOf c e=c[i].b:=fun h=>by rw [← h]; unfold bOf; rw [hc.find (List.getElem_mem hgo)]; rfl
          refine (show ∃ z,c[i]=z from ⟨_,rfl⟩).elim fun z hze=>?_
          rw [hze] at hx1 htk hzl hzb hzk hzf
          have hyc:aZ z=[D.i .i64 z.id,.i .i64 z.dim,aM z.b]:=rfl
          have hcd:=bY bP d
          have had:=eB jO d
          have hbb:=cO (n:=d.length) (by omega)
          have hm1:(1:Nat)≤maxLen:=aW (by decide)
          have hs1:=hsub z
          have hs2:=hsub2 z
          simp [-map_map,-mapM_map,↓KW,aI,q1,hx1,hyc,aE,aB,aC]
          by_cases hzn:z.b=[]
          ·have hno:∀ f∈z.b,f.1≠e:=fun f hf=>by rw [hzn] at hf; cases hf
           have hcl0:oN Tryz.prog 67 [aM z.b] (fun _=>.d (aM [])) (fun _=>[]):=by rw [hzn]; exact bJu
           refine iZ [aM z.b] (fun _=>.d (aM [])) (fun _=>[]) (by simp) (by simp) (by simp) (by rfl) (by rfl) hcl0 ?_
           by_cases hze':z.id=e
           ·have hse:=hs1 hze'
            have hzeq:((z.id == e):Bool)=true:=by simpa using hze'
            have hMk:=aAr (l:=r) (e:=F) hrb hrk (by omega) (by omega)
            simp [-map_map,-mapM_map,↓KW,aI,aM,vA,hzeq,hw,aE,aB,aC]
            refine aU (fun j:Nat=>j≤z.b.length) (fun j=>StL [(0,.d (aI c)),(1,.d (.i .i64 e)),(5,.fp [.i .i64 w0,.i .i64 w1]),(15,.d (aM r)),(19,.own 1 0 d.length 3),(21,.ptr 2 0),(22,.d (aM r)),(104,.d (aI c)),(105,.d (.i .i64 c.length)),(106,.d (.i .i64 (i:Int))),(119,.d (aM z.b)),(120,.d (.i .i64 z.b.length)),(121,.d (.i .i64 (j:Int)))] none [.cells 47 ((flt aZ d).map .d),.cells 47 [.d (.i .i64 z.id),.d (.i .i64 z.dim),.d (aM z.b)]]) (fun j=>z.b.length - j) 0 (Nat.zero_le _) ?_ ?_
            ·refine bC [1,2] (by simp) ?_ ?_ <;> simp [-map_map,upd,aT,Γ0,aI,aM,eW,vA,hzeq]
            ·intro j hj
             by_cases hgo2:j<z.b.length
             ·have q2:(j:Int)<z.b.length:=by omega
              have hf:z.b[j]? = some z.b[j]:=List.getElem?_eq_getElem hgo2
              have hw2:IntKind.i64.wrap ((j:Int)+1)=(j:Int)+1:=aS (by omega) (by omega)
              have hfn:=hno _ (List.getElem_mem hgo2)
              refine (show ∃ f,z.b[j]=f from ⟨_,rfl⟩).elim fun f hfe=>?_
              rw [hfe] at hf hfn
              have hfn':((f.1 == e):Bool)=false:=by simpa using hfn
              have hef:eE f=[.i .i64 f.1,.b (decide (f.2<0)),aG (aV f.2.natAbs)]:=rfl
              simp [-map_map,-mapM_map,↓KW,aI,aM,q2,hf,hef,hfn',hw2,aJ,aD,aP,aE,aB,aC]
              refine aK (j+1) hgo2 (Nat.sub_lt_sub_left hgo2 (Nat.lt_succ_self _)) (bC [1,2] (by simp) ?_ ?_) <;> simp [-map_map,upd,aT,Γ0,aI,aM,eW]
             ·have q2:¬ (j:Int)<z.b.length:=by omega
              simp [-map_map,-mapM_map,↓KW,aI,aM,q2,aE,aB,aC]
              refine aA (ds:=[aM r]) (by rfl) hMk ?_
              simp [-map_map,-mapM_map,↓KW,aI,aM,hw,hm1,hbb,hcd,had,aW,aQ,bF,aE,aB,aC,hse]
              refine aK (τ:=Nat × List Cl) (i+1,d++[iG e w0 w1 (bOf c e) z]) ⟨hgo,by rw [List.length_append,hdl]; rfl,htk⟩ (Nat.sub_lt_sub_left hgo (Nat.lt_succ_self _)) ?_
              simp only [List.length_append,List.length_singleton,dW,dC,bN,iG,hse]
              refine bC [4] (by simp) ?_ ?_ <;> simp [-map_map,upd,aT,Γ0,aI,aM,eW]
           ·have hse:subL e w0 w1 (bOf c e) z=[]:=by rw [hs2 hze',hzn]; rfl
            have hzeq:((z.id == e):Bool)=false:=by simpa using hze'
            have hMk:=aAr (l:=[]) (e:=F) (Bnd.nil _) (fun f hf=>by cases hf) (by simp) (by omega)
            simp [-map_map,-mapM_map,↓KW,aI,aM,vA,hzeq,hw,aE,aB,aC]
            refine aU (fun j:Nat=>j≤z.b.length) (fun j=>StL [(0,.d (aI c)),(1,.d (.i .i64 e)),(5,.fp [.i .i64 w0,.i .i64 w1]),(15,.d (aM r)),(19,.own 1 0 d.length 3),(21,.ptr 2 0),(22,.d (aM ([]:Ch))),(104,.d (aI c)),(105,.d (.i .i64 c.length)),(106,.d (.i .i64 (i:Int))),(119,.d (aM z.b)),(120,.d (.i .i64 z.b.length)),(121,.d (.i .i64 (j:Int)))] none [.cells 47 ((flt aZ d).map .d),.cells 47 [.d (.i .i64 z.id),.d (.i .i64 z.dim),.d (aM z.b)]]) (fun j=>z.b.length - j) 0 (Nat.zero_le _) ?_ ?_
            ·refine bC [1,2] (by simp) ?_ ?_ <;> simp [-map_map,upd,aT,Γ0,aI,aM,eW,vA,hzeq]
            ·intro j hj
             by_cases hgo2:j<z.b.length
             ·have q2:(j:Int)<z.b.length:=by omega
              have hf:z.b[j]? = some z.b[j]:=List.getElem?_eq_getElem hgo2
              have hw2:IntKind.i64.wrap ((j:Int)+1)=(j:Int)+1:=aS (by omega) (by omega)
              have hfn:=hno _ (List.getElem_mem hgo2)
              refine (show ∃ f,z.b[j]=f from ⟨_,rfl⟩).elim fun f hfe=>?_
              rw [hfe] at hf hfn
              have hfn':((f.1 == e):Bool)=false:=by simpa using hfn
              have hef:eE f=[.i .i64 f.1,.b (decide (f.2<0)),aG (aV f.2.natAbs)]:=rfl
              simp [-map_map,-mapM_map,↓KW,aI,aM,q2,hf,hef,hfn',hw2,aJ,aD,aP,aE,aB,aC]
              refine aK (j+1) hgo2 (Nat.sub_lt_sub_left hgo2 (Nat.lt_succ_self _)) (bC [1,2] (by simp) ?_ ?_) <;> simp [-map_map,upd,aT,Γ0,aI,aM,eW]
             ·have q2:¬ (j:Int)<z.b.length:=by omega
              simp [-map_map,-mapM_map,↓KW,aI,aM,q2,aE,aB,aC]
              refine aA (ds:=[aM ([]:Ch)]) (by rfl) hMk ?_
              simp [-map_map,-mapM_map,↓KW,aI,aM,hw,hm1,hbb,hcd,had,aW,aQ,bF,aE,aB,aC,hse]
              refine aK (τ:=Nat × List Cl) (i+1,d++[iG e w0 w1 (bOf c e) z]) ⟨hgo,by rw [List.length_append,hdl]; rfl,htk⟩ (Nat.sub_lt_sub_left hgo (Nat.lt_succ_self _)) ?_
              simp only [List.length_append,List.length_singleton,dW,dC,bN,iG,hse]
              refine bC [4] (by simp) ?_ ?_ <;> simp [-map_map,upd,aT,Γ0,aI,aM,eW]
          ·have hcl1:=bOn hzn (by omega)
           refine iZ [aM z.b] (fun m=>.own m 0 z.b.length 3) (fun _=>[.cells 89 ((flt eE z.b).map .d)]) (by simp) (by simp) (by simp) (by rfl) (by rfl) hcl1 ?_
           by_cases hze':z.id=e
           ·have hno:∀ f∈z.b,f.1≠e:=fun f hf=>hne f (by rw [hzf hze']; exact hf)
            have hse:=hs1 hze'
            have hzeq:((z.id == e):Bool)=true:=by simpa using hze'
            have hMk:=aAr (l:=r) (e:=F) hrb hrk (by omega) (by omega)
            simp [-map_map,-mapM_map,↓KW,aI,aM,uZ,hzeq,hw,aE,aB,aC]
            refine aU (fun j:Nat=>j≤z.b.length) (fun j=>StL [(0,.d (aI c)),(1,.d (.i .i64 e)),(5,.fp [.i .i64 w0,.i .i64 w1]),(15,.d (aM r)),(19,.own 1 0 d.length 3),(21,.ptr 2 0),(22,.d (aM r)),(104,.d (aI c)),(105,.d (.i .i64 c.length)),(106,.d (.i .i64 (i:Int))),(119,.d (aM z.b)),(120,.d (.i .i64 z.b.length)),(121,.d (.i .i64 (j:Int)))] none [.cells 47 ((flt aZ d).map .d),.cells 47 [.d (.i .i64 z.id),.d (.i .i64 z.dim),.d (aM z.b)]]) (fun j=>z.b.length - j) 0 (Nat.zero_le _) ?_ ?_
            ·refine bC [1,2] (by simp) ?_ ?_ <;> simp [-map_map,upd,aT,Γ0,aI,aM,eW,uZ,hzeq]
            ·intro j hj
             by_cases hgo2:j<z.b.length
             ·have q2:(j:Int)<z.b.length:=by omega
              have hf:z.b[j]? = some z.b[j]:=List.getElem?_eq_getElem hgo2
              have hw2:IntKind.i64.wrap ((j:Int)+1)=(j:Int)+1:=aS (by omega) (by omega)
              have hfn:=hno _ (List.getElem_mem hgo2)
              refine (show ∃ f,z.b[j]=f from ⟨_,rfl⟩).elim fun f hfe=>?_
              rw [hfe] at hf hfn
              have hfn':((f.1 == e):Bool)=false:=by simpa using hfn
              have hef:eE f=[.i .i64 f.1,.b (decide (f.2<0)),aG (aV f.2.natAbs)]:=rfl
              simp [-map_map,-mapM_map,↓KW,aI,aM,q2,hf,hef,hfn',hw2,aJ,aD,aP,aE,aB,aC]
              refine aK (j+1) hgo2 (Nat.sub_lt_sub_left hgo2 (Nat.lt_succ_self _)) (bC [1,2] (by simp) ?_ ?_) <;> simp [-map_map,upd,aT,Γ0,aI,aM,eW]
             ·have q2:¬ (j:Int)<z.b.length:=by omega
              simp [-map_map,-mapM_map,↓KW,aI,aM,q2,aE,aB,aC]
              refine aA (ds:=[aM r]) (by rfl) hMk ?_
              simp [-map_map,-mapM_map,↓KW,aI,aM,hw,hm1,hbb,hcd,had,aW,aQ,bF,aE,aB,aC,hse]
              refine aK (τ:=Nat × List Cl) (i+1,d++[iG e w0 w1 (bOf c e) z]) ⟨hgo,by rw [List.length_append,hdl]; rfl,htk⟩ (Nat.sub_lt_sub_left hgo (Nat.lt_succ_self _)) ?_
              simp only [List.length_append,List.length_singleton,dW,dC,bN,iG,hse]
              refine bC [4] (by simp) ?_ ?_ <;> simp [-map_map,upd,aT,Γ0,aI,aM,eW]
           ·have hse:=hs2 hze'
            have hzeq:((z.id == e):Bool)=false:=by simpa using hze'
            simp [-map_map,-mapM_map,↓KW,aI,aM,uZ,hzeq,hw,aE,aB,aC]
            refine aU (fun y:Nat × Ch=>y.1≤z.b.length∧y.2.length≤z.b.length+y.1∧z.b++adF e w1 (z.b.take y.1)=y.2) (fun y=>StL [(0,.d (aI c)),(1,.d (.i .i64 e)),(5,.fp [.i .i64 w0,.i .i64 w1]),(15,.d (aM r)),(19,.own 1 0 d.length 3),(21,.ptr 2 0),(22,.own 3 0 y.2.length 3),(104,.d (aI c)),(105,.d (.i .i64 c.length)),(106,.d (.i .i64 (i:Int))),(119,.d (aM z.b)),(120,.d (.i .i64 z.b.length)),(121,.d (.i .i64 (y.1:Int)))] none [.cells 47 ((flt aZ d).map .d),.cells 47 [.d (.i .i64 z.id),.d (.i .i64 z.dim),.d (aM z.b)],.cells 89 ((flt eE y.2).map .d)]) (fun y=>z.b.length - y.1) (0,z.b) ⟨Nat.zero_le _,by simp,by simp [adF]⟩ ?_ ?_
            ·refine bC [1,2,3] (by simp) ?_ ?_ <;> simp [-map_map,upd,aT,Γ0,aI,aM,eW]
            ·rintro ⟨j,l⟩ ⟨hj,hll,hl⟩
             simp only at hj hll hl ⊢
             by_cases hgo2:j<z.b.length
             ·have q2:(j:Int)<z.b.length:=by omega
              have hf:z.b[j]? = some z.b[j]:=List.getElem?_eq_getElem hgo2
              have hw2:IntKind.i64.wrap ((j:Int)+1)=(j:Int)+1:=aS (by omega) (by omega)
              have htk2:=bEd hgo2 e w1
              refine (show ∃ f,z.b[j]=f from ⟨_,rfl⟩).elim fun f hfe=>?_
              rw [hfe] at hf htk2
              have hef:eE f=[.i .i64 f.1,.b (decide (f.2<0)),aG (aV f.2.natAbs)]:=rfl
              by_cases h5:f.1=e
              ·rw [if_pos h5] at htk2
               have q3:(((e:Int) == (e:Int)):Bool)=true:=by simp
               have hb2:=cO (n:=l.length) (by omega)
               have hc2:=bY eN l
               have ha2:=eB qU l
               simp [-map_map,-mapM_map,↓KW,aI,aM,q2,hf,hef,h5,q3,hw2,hm1,hb2,hc2,ha2,aW,aJ,aD,aP,aE,aB,aC]
               refine aK (τ:=Nat × Ch) (j+1,l++[(w1,f.2)]) ⟨hgo2,by simp only [List.length_append,List.length_singleton]; omega,by rw [htk2,← List.append_assoc,hl]⟩ (Nat.sub_lt_sub_left hgo2 (Nat.lt_succ_self _)) ?_
               simp only [List.length_append,List.length_singleton,dW,dC,bB]
               refine bC [1,2,6] (by simp) ?_ ?_ <;> simp [-map_map,upd,aT,Γ0,aI,aM,eW]
              ·rw [if_neg h5,List.append_nil] at htk2
               have h5':((f.1 == e):Bool)=false:=by simpa using h5
               simp [-map_map,-mapM_map,↓KW,aI,aM,q2,hf,hef,h5,h5',hw2,aJ,aD,aP,aE,aB,aC]
               refine aK (τ:=Nat × Ch) (j+1,l) ⟨hgo2,by simp only; omega,by rw [htk2,hl]⟩ (Nat.sub_lt_sub_left hgo2 (Nat.lt_succ_self _)) (bC [1,2,3] (by simp) ?_ ?_) <;> simp [-map_map,upd,aT,Γ0,aI,aM,eW]
             ·have q2:¬ (j:Int)<z.b.length:=by omega
              rw [List.take_of_length_le (by omega)] at hl
              rw [hl] at hse
              have hlb:Bnd (2 ^ F) l:=by
               rw [← hl]
               exact hzb.app fun f hf=>by
                unfold adF at hf
                obtain ⟨g,hg,rfl⟩:=List.mem_map.1 hf
                exact hzb g (List.mem_filter.1 hg).1
              have hlk:Keys l:=by
               rw [← hl]; intro f hf
               rcases List.mem_append.1 hf with hf | hf
               ·exact hzk f hf
               ·unfold adF at hf
                obtain ⟨g,hg,rfl⟩:=List.mem_map.1 hf
                exact hi1
              have hMk:=aAr (l:=l) (e:=F) hlb hlk (by omega) (by omega)
              have e4:=eL eN (rfl:l.length=l.length)
              have e5:=dX (by decide) eN (rfl:l.length=l.length)
              have e6:=bY eN l
              simp [-map_map,-mapM_map,↓KW,aI,aM,q2,aE,aB,aC]
              refine aA (ds:=[aM l]) (by simp [-map_map,-mapM_map,aM,upd,e4,e5,e6]) hMk ?_
              simp [-map_map,-mapM_map,↓KW,aI,aM,hw,hm1,hbb,hcd,had,e4,e5,e6,aW,aQ,bF,aE,aB,aC]
              refine aK (τ:=Nat × List Cl) (i+1,d++[iG e w0 w1 (bOf c e) z]) ⟨hgo,by rw [List.length_append,hdl]; rfl,htk⟩ (Nat.sub_lt_sub_left hgo (Nat.lt_succ_self _)) ?_
              simp only [List.length_append,List.length_singleton,dW,dC,bN,iG,hse]
              refine bC [5] (by simp) ?_ ?_ <;> simp [-map_map,upd,aT,Γ0,aI,aM,eW]
         ·have q1:¬ (i:Int)<c.length:=by omega
          rw [List.take_of_length_le (by omega),← hUu] at hd
          have hsl:=zR c e w0 w1
          have hul:=aWo c e w0 w1
          rw [hd] at hul
          have hSo:=Tryz.sortO (wF c e w0 w1) (aIh hc hk0 hk1 h2) (by rw [hd,hul]; omega)
          rw [hd] at hSo
          have hcd:=bY bP d
          have hcs:=bY bP (mF c e w0 w1)
          refine (show ∃ S,mF c e w0 w1=S from ⟨_,rfl⟩).elim fun S hSe=>?_
          rw [hSe] at hSo hsl hcs
          rw [hSe]
          have hno1:∀ l:List D,nX (.cells 47 (l.map .d))=true:=fun l=>by
           unfold nX; rw [List.all_eq_true]; intro x hx
           obtain ⟨y,_,rfl⟩:=List.mem_map.1 hx; rfl
          have hSg0:=aAn e
          have hSg1:=aAn w1
          have va:Val [(e,(1:Int))]:=⟨List.pairwise_singleton _ _,fun y hy=>by rw [List.mem_singleton.1 hy]; simp⟩
          have hAd:=aVg [(e,1)] [(w1,1)] 1 1 1 1 (Bnd.one (Nat.le_refl 1)) (Bnd.one (Nat.le_refl 1)) (Nat.le_refl 1) (wU (e:=1) (by simp) (by omega)) (wU (e:=0) (by decide) (by omega)) (wU (e:=0) (by decide) (by omega)) (wU (e:=0) (by decide) (by omega)) (wU (e:=0) (by decide) (by omega)) (fun f hf=>by rw [List.mem_singleton.1 hf]; exact hie) (fun f hf=>by rw [List.mem_singleton.1 hf]; exact hi1) (by simp)
          rw [add_eq va] at hAd
          refine (show ∃ B,bV [(e,1)] (mulR 1 [(w1,1)])=B from ⟨_,rfl⟩).elim fun B hB=>?_
          rw [hB] at hAd
          rw [hB]
          have hMp:=nZ c [(e,B)] (pE [(e,B)]) rfl (aKm _) (by omega)
          have e1:=eL bP (hsl.trans hul.symm)
          have e2:=dX (by decide) bP (hsl.trans hul.symm)
          rw [hsl,← hul] at hcs
          have hO1:=tG
          simp [-map_map,-mapM_map,↓KW,aI,q1]
          refine aJw (by simp) ?_
          refine xP (id:=1) (h:=.own 0 0 d.length 3) (by simp [upd,mS]) (hno1 _) (by rfl) (by rfl) hSo ?_ (hno1 _) ?_
          ·show (List.map _ _).length=(List.map _ _).length
           rw [List.length_map,List.length_map,hcd,hcs]
          ·simp [-map_map,-mapM_map,↓KW,aI]
           refine aA (ds:=[.i .i64 e]) (by rfl) hSg0 ?_
           simp [-map_map,-mapM_map,↓KW,aI,aQ,bF,aE,aB,aC]
           refine aA (ds:=[.i .i64 w1]) (by rfl) hSg1 ?_
           simp [-map_map,-mapM_map,↓KW,aI,aQ,bF,aE,aB,aC]
           refine aA (ds:=[.i .i64 1]) (by rfl) hO1 ?_
           simp [-map_map,-mapM_map,↓KW,aI,bI,bH,aX,aQ,bF,aE,aB,aC,aJ,aD,aP]
           refine aA (ds:=[aM [(e,1)],aM [(w1,1)],encZ 1]) (by rfl) hAd ?_
           simp [-map_map,-mapM_map,↓KW,aI,cC,cI,dH,aQ,bF,aE,aB,aC]
           refine aA (ds:=[aI c,pE [(e,B)]]) (by rfl) hMp ?_
           simp [-map_map,-mapM_map,↓KW,aI,cC,cI,dH,e1,e2,hcs,aQ,bF,aE,aB,aC,dF,cJ,iO,cT,gF,h1,h2,h3']
end Go.Am
end

section
set_option linter.unusedVariables false
set_option linter.unusedSimpArgs false
open List (map_map mapM_map)
open Go Go.Am Go.Proofs
namespace Go.Am
def atX (c:List Cl) (n:Int):Nat:=(c.takeWhile fun y=>decide (y.id<n)).length
theorem bPb (c:List Cl) (n:Int):atX c n≤c.length:=(List.takeWhile_sublist _).length_le
theorem aWl (c:List Cl) (n:Int):c.take (atX c n)=c.takeWhile fun y=>decide (y.id<n):=by
 unfold atX
 conv=>lhs; arg 2; rw [← List.takeWhile_append_dropWhile (p:=fun y:Cl=>decide (y.id<n)) (l:=c)]
 rw [List.take_left]
theorem bCf (c:List Cl) (n:Int):c.drop (atX c n)=c.dropWhile fun y=>decide (y.id<n):=by
 unfold atX
 conv=>lhs; arg 2; rw [← List.takeWhile_append_dropWhile (p:=fun y:Cl=>decide (y.id<n)) (l:=c)]
 rw [List.drop_left]
theorem aDr (c:List Cl) (x:Cl):eA c x=c.take (atX c x.id)++x::c.drop (atX c x.id):=by
 unfold eA; rw [aWl,bCf]
theorem bDq:∀ {c:List Cl} {n:Int} {i:Nat},i≤atX c n→∀ h:i<c.length,(i<atX c n↔c[i].id<n)
 | [],_,i,_,h=>by simp at h
 | y::c,n,0,_,h=>by
  unfold atX
  rw [List.takeWhile_cons]
  by_cases e:y.id<n <;> simp [e]
 | y::c,n,i+1,hi,h=>by
  have e:y.id<n:=by
   rcases Int.lt_or_le y.id n with h | h
   ·exact h
   ·have:atX (y::c) n=0:=by unfold atX; rw [List.takeWhile_cons]; simp; omega
    rw [this] at hi; omega
  have hs:atX (y::c) n=atX c n+1:=by unfold atX; rw [List.takeWhile_cons]; simp [e]
  rw [hs] at hi ⊢
  have:=bDq (c:=c) (n:=n) (i:=i) (by omega) (by simpa using h)
  simp only [List.getElem_cons_succ]
  rw [← this]; omega
set_option maxHeartbeats 2000000 in
set_option maxRecDepth 10000 in
theorem aDl {c:List Cl} (x:Cl) (hl:c.length≤1000000):Spec Tryz.prog 64 [aI c,.ag (aZ x)] (aI (eA c x)):=by
 refine aY (N:=37) aF Tryz.func64 rfl rfl rfl (by kernel_rfl) (by kernel_rfl) (by simp) ?_
 simp [-map_map,-mapM_map,↓KW,aI,bN,aE,aB,aC]
 refine aU (fun i:Nat=>i≤atX c x.id) (fun i=>StL [(0,.d (aI c)),(3,.ptr 1 0),(5,.d (.i .i64 (i:Int)))] none [.cells 47 [.d (.i .i64 x.id),.d (.i .i64 x.dim),.d (aM x.b)]]) (fun i=>atX c x.id - i) 0 (Nat.zero_le _) ?_ ?_
 ·refine bC [1] (by simp) ?_ ?_ <;> simp [-map_map,upd,aT,Γ0,aI]
 ·intro i hi
  have hal:=bPb c x.id
  by_cases hgo:i<c.length
  ·have q1:(i:Int)<c.length:=by omega
   have hx1:c[i]? = some c[i]:=List.getElem?_eq_getElem hgo
   have hw:IntKind.i64.wrap ((i:Int)+1)=(i:Int)+1:=aS (by omega) (by omega)
   have hlt:i<atX c x.id↔c[i].id<x.id:=bDq hi hgo
   refine (show ∃ z,c[i]=z from ⟨_,rfl⟩).elim fun z hze=>?_
   rw [hze] at hx1 hlt
   have hyc:aZ z=[D.i .i64 z.id,.i .i64 z.dim,aM z.b]:=rfl
   by_cases h0:z.id<x.id
   ·simp [-map_map,-mapM_map,↓KW,aI,q1,hx1,hyc,h0,hw,aE,aB,aC]
    refine aK (i+1) (by have:=hlt.2 h0; omega) (by have:=hlt.2 h0; omega) (bC [1] (by simp) ?_ ?_) <;> simp [-map_map,upd,aT,Γ0,aI]
   ·have hie:i=atX c x.id:=by
     have:¬ i<atX c x.id:=fun h=>h0 (hlt.1 h)
     omega
    have hpl:=aDr c x
    rw [← hie] at hpl
    have hpn:=tD c x
    have hT:List.take i (List.map aZ c)=(c.take i).map aZ:=List.map_take.symm
    have hD:List.drop i (List.map aZ c)=(c.drop i).map aZ:=List.map_drop.symm
    have hT2:List.take c.length (List.map aZ c)=List.map aZ c:=List.take_of_length_le (by simp)
    have hT3:List.take c.length (List.map (List.map AV.d) (List.map aZ c))=List.map (List.map AV.d) (List.map aZ c):=List.take_of_length_le (by simp)
    have hD2:List.drop i (List.map (List.map AV.d) (List.map aZ c))=List.map (List.map AV.d) ((c.drop i).map aZ):=by rw [List.map_drop,List.map_drop]
    have hi3:i * 3+3=(i+1) * 3:=by omega
    have hAl:(c.take i).length=i:=by rw [List.length_take]; omega
    have hBl:(c.drop i).length=c.length - i:=List.length_drop
    refine (show ∃ A,c.take i=A from ⟨_,rfl⟩).elim fun A hA=>?_
    refine (show ∃ B,c.drop i=B from ⟨_,rfl⟩).elim fun B hB=>?_
    rw [hA] at hT hAl hpl
    rw [hB] at hD hD2 hBl hpl
    have hil:i≤c.length:=by omega
    have hok:=gE c
    have hokA:=gE A
    have hokB:=gE B
    have hffA:=oG aZ A
    have hffB:=oG aZ B
    have haA:=eq_true (fun (a:D) (ha:a∈flt aZ A)=>List.all_eq_true.1 (eB jO A) (.d a) (List.mem_map.2 ⟨a,ha,rfl⟩))
    have haB:=eq_true (fun (a:D) (ha:a∈flt aZ B)=>List.all_eq_true.1 (eB jO B) (.d a) (List.mem_map.2 ⟨a,ha,rfl⟩))
    have hcA:=bY bP A
    have hcB:=bY bP B
    rw [hAl] at hcA
    rw [hBl] at hcB
    have hb1:i * 40≤140737488355328∧i≤maxLen:=⟨by omega,aW (by omega)⟩
    have hb2:=cO (n:=i) (by omega)
    have hb3:(i+1+(c.length - i)) * 40≤140737488355328∧i+1+(c.length - i)≤maxLen:=⟨by omega,aW (by omega)⟩
    have hm1:(1:Nat)≤maxLen:=aW (by decide)
    have hfl:flt aZ (eA c x)=flt aZ A++([.i .i64 x.id,.i .i64 x.dim,aM x.b]++flt aZ B):=by rw [hpl,dW,show x::B=[x]++B from rfl,dW,dC]; rfl
    simp [-map_map,-mapM_map,↓KW,aI,q1,hx1,hyc,h0,hw,hil,hok,hT,hT2,hT3,hD,hD2,hi3,hAl,hBl,hokA,hokB,hffA,hffB,haA,haB,hcA,hcB,hb1,hb2,hb3,hm1,aW,aDa,aE,aB,aC]
    have hpn':(eA c x).length=i+1+(c.length - i):=by omega
    have hce:(flt aZ A).map AV.d++AV.d (.i .i64 x.id)::AV.d (.i .i64 x.dim)::AV.d (aM x.b)::(flt aZ B).map AV.d=(flt aZ (eA c x)).map .d:=by rw [hfl]; simp
    refine ⟨by omega,flt aZ (eA c x),?_,dX (by decide) bP hpn'⟩
    rw [hce,eL bP hpn']
    exact kS _ 6 _
  ·have q1:¬ (i:Int)<c.length:=by omega
   have hie:i=atX c x.id:=by omega
   have hpl:=aDr c x
   rw [← hie] at hpl
   have hpn:=tD c x
   have hT:List.take i (List.map aZ c)=(c.take i).map aZ:=List.map_take.symm
   have hD:List.drop i (List.map aZ c)=(c.drop i).map aZ:=List.map_drop.symm
   have hT2:List.take c.length (List.map aZ c)=List.map aZ c:=List.take_of_length_le (by simp)
   have hT3:List.take c.length (List.map (List.map AV.d) (List.map aZ c))=List.map (List.map AV.d) (List.map aZ c):=List.take_of_length_le (by simp)
   have hD2:List.drop i (List.map (List.map AV.d) (List.map aZ c))=List.map (List.map AV.d) ((c.drop i).map aZ):=by rw [List.map_drop,List.map_drop]
   have hi3:i * 3+3=(i+1) * 3:=by omega
   have hAl:(c.take i).length=i:=by rw [List.length_take]; omega
   have hBl:(c.drop i).length=c.length - i:=List.length_drop
   refine (show ∃ A,c.take i=A from ⟨_,rfl⟩).elim fun A hA=>?_
   refine (show ∃ B,c.drop i=B from ⟨_,rfl⟩).elim fun B hB=>?_
   rw [hA] at hT hAl hpl
   rw [hB] at hD hD2 hBl hpl
   have hil:i≤c.length:=by omega
   have hok:=gE c
   have hokA:=gE A
   have hokB:=gE B
   have hffA:=oG aZ A
   have hffB:=oG aZ B
   have haA:=eq_true (fun (a:D) (ha:a∈flt aZ A)=>List.all_eq_true.1 (eB jO A) (.d a) (List.mem_map.2 ⟨a,ha,rfl⟩))
   have haB:=eq_true (fun (a:D) (ha:a∈flt aZ B)=>List.all_eq_true.1 (eB jO B) (.d a) (List.mem_map.2 ⟨a,ha,rfl⟩))
   have hcA:=bY bP A
   have hcB:=bY bP B
   rw [hAl] at hcA
   rw [hBl] at hcB
   have hb1:i * 40≤140737488355328∧i≤maxLen:=⟨by omega,aW (by omega)⟩
   have hb2:=cO (n:=i) (by omega)
   have hb3:(i+1+(c.length - i)) * 40≤140737488355328∧i+1+(c.length - i)≤maxLen:=⟨by omega,aW (by omega)⟩
   have hm1:(1:Nat)≤maxLen:=aW (by decide)
   have hfl:flt aZ (eA c x)=flt aZ A++([.i .i64 x.id,.i .i64 x.dim,aM x.b]++flt aZ B):=by rw [hpl,dW,show x::B=[x]++B from rfl,dW,dC]; rfl
   simp [-map_map,-mapM_map,↓KW,aI,q1,hil,hok,hT,hT2,hT3,hD,hD2,hi3,hAl,hBl,hokA,hokB,hffA,hffB,haA,haB,hcA,hcB,hb1,hb2,hb3,hm1,aW,aDa,aE,aB,aC]
   have hpn':(eA c x).length=i+1+(c.length - i):=by omega
   have hce:(flt aZ A).map AV.d++AV.d (.i .i64 x.id)::AV.d (.i .i64 x.dim)::AV.d (aM x.b)::(flt aZ B).map AV.d=(flt aZ (eA c x)).map .d:=by rw [hfl]; simp
   refine ⟨by omega,flt aZ (eA c x),?_,dX (by decide) bP hpn'⟩
   rw [hce,eL bP hpn']
   exact kS _ 6 _
end Go.Am
end

section
set_option linter.unusedVariables false
set_option linter.unusedSimpArgs false
open Go Go.Am Go.Proofs
namespace Go.Am
theorem bCn {l:Ch} (h:Val l) (n:Int):kM l n=cf n l:=by
 induction l with
 | nil=>rfl
 | cons f l ih =>
  obtain ⟨h1,h2,_⟩:=h.tail
  unfold kM
  rw [List.find?_cons]
  simp only [cf]
  by_cases e:f.1=n
  ·have h0:cf n l=0:=by
    rw [iS h1,← iS h1]
    have:∀ (l:Ch),(∀ x∈l,x.1≠n)→cf n l=0:=by
     intro l
     induction l with
     | nil=>intro _; rfl
     | cons x l ih=>intro hh; simp only [cf]; rw [if_neg (fun e=>hh x (List.mem_cons_self ..) e.symm),ih fun y hy=>hh y (List.mem_cons_of_mem _ hy)]; rfl
    refine this l fun x hx=>?_
    have:=(List.pairwise_cons.1 h.1).1 x hx
    omega
   simp [e,h0]
  ·have e':¬ n=f.1:=fun x=>e x.symm
   rw [if_neg e']
   simp only [e,decide_false,Bool.false_eq_true,if_false,Int.zero_add]
   exact ih h1
end Go.Am
end

section
set_option linter.unusedVariables false
set_option linter.unusedSimpArgs false
open Go Go.Am Go.Proofs
namespace Go.Am
def wI (n:Int) (b:Ch) (z:Cl):Cl:=if z.id=n then ⟨z.id,z.dim,b⟩ else z
def bGf (c:List Cl) (e w0 w1:Int):List Cl:=(wK c e [(w1,1)]).map (wI e (plM 1 (plM (-1) (bOf c e) (sK (bOf c e))) [(w0,1)]))
def bGg (c:List Cl) (e w0 w1:Int):List Cl:=eA (eA (bGf c e w0 w1) (wC w0)) ⟨w1,1,plM (-1) (sK (bOf c e)) [(w0,1)]⟩
def bGe (c:List Cl) (e w0 w1:Int):List Cl × List (Int × Ch) × Int :=
 if (bT c e).isSome=false then ([],[],250) else if dOf c e≠1 then ([],[],260) else if kn c w0=true∨kn c w1=true∨w0=w1 then ([],[],253) else if 398<c.length then ([],[],2)
 else (bGg c e w0 w1,zK (fQ c []) e (plM 1 [(e,1)] [(w1,1)]),0)
theorem aGf {l:Ch} (h:Val l):Val (sK l):=⟨List.Pairwise.filter _ h.1,fun x hx=>h.2 x (yR hx)⟩
theorem aXt {c:List Cl} (h:CxV c) {e w0 w1:Int} {z:Cl} (hz:z∈c):wI e (plM 1 (plM (-1) (bOf c e) (sK (bOf c e))) [(w0,1)]) (sR e [(w1,1)] z)=iG e w0 w1 (bOf c e) z:=by
 have hid:(sR e [(w1,1)] z).id=z.id∧(sR e [(w1,1)] z).dim=z.dim:=by unfold sR; split <;> exact ⟨rfl,rfl⟩
 have hv:Val (bOf c e):=h.bval e
 have hp:=aGf hv
 unfold wI iG subL
 by_cases he:z.id=e
 ·rw [if_pos (hid.1.trans he),if_pos he,hid.1,hid.2]
  congr 1
  have v1:=jU (-1) hv hp
  refine aDg (jU 1 v1 (jV w0)) (dI _ [] Val.nil).1 fun w=>?_
  rw [pV v1 (jV w0),pV hv hp,eR]
  have:=yE w (bOf c e)
  unfold kW; simp only [bU]; omega
 ·rw [if_neg (fun q=>he (hid.1.symm.trans q)),if_neg he]
  have hzv:=h.val z hz
  unfold sR
  have hc:=bCn hzv e
  by_cases h0:kM z.b e=0
  ·rw [if_pos h0]
   rw [h0] at hc
   have:z.b=bV [] (z.b++adF e w1 z.b):=aDg hzv (dI _ [] Val.nil).1 fun w=>by
    rw [eR,mE,pW,← hc]; simp
   rw [← this]
  ·rw [if_neg h0]
   congr 1
   refine aDg (jU _ hzv (jV w1)) (dI _ [] Val.nil).1 fun w=>?_
   rw [pV hzv (jV w1),eR,mE,pW,hc]
   simp only [bU]; rw [Int.one_mul,Int.add_zero]
theorem bGd {c:List Cl} (h:CxV c) (e w0 w1:Int):bGe c e w0 w1=pS c e w0 w1:=by
 unfold bGe pS
 by_cases h1:(bT c e).isSome=false
 ·rw [if_pos h1,if_pos h1]
 ·rw [if_neg h1,if_neg h1]
  by_cases h2:dOf c e≠1
  ·rw [if_pos h2,if_pos h2]
  ·rw [if_neg h2,if_neg h2]
   by_cases h3:w0=w1∨kn c w0=true∨kn c w1=true
   ·rw [if_pos h3,if_pos (by rcases h3 with h | h | h <;> simp [h])]
   ·rw [if_neg h3,if_neg (fun q=>h3 (by rcases q with h | h | h <;> simp [h]))]
    by_cases h4:398<c.length
    ·rw [if_pos h4,if_pos h4]
    ·rw [if_neg h4,if_neg h4]
     have e1:bGf c e w0 w1=c.map (iG e w0 w1 (bOf c e)):=by
      unfold bGf wK
      rw [List.map_map]
      exact List.map_congr_left fun z hz=>aXt h hz
     have e2:plM (-1) (sK (bOf c e)) [(w0,1)]=bV [] (jC w0 (bOf c e)):=by
      have hp:=aGf (h.bval e)
      refine aDg (jU _ hp (jV w0)) (dI _ [] Val.nil).1 fun w=>?_
      rw [pV hp (jV w0),eR]
      unfold jC; simp only [bU]; omega
     have e3:plM 1 [(e,1)] [(w1,1)]=bV [(e,1)] (mulR 1 [(w1,1)]):=yP (jV e) (jV w1) 1
     have e4:zK (fQ c []) e (bV [(e,1)] (mulR 1 [(w1,1)]))=fQ c [(e,bV [(e,1)] (mulR 1 [(w1,1)]))]:=by
      unfold zK fQ
      rw [List.map_map]
      refine List.map_congr_left fun z _=>?_
      simp only [Function.comp,uV]
      by_cases q:z.id=e
      ·simp [q]
      ·simp [q,mX]
     unfold bGg mF
     rw [e1,e2,e3,e4]; rfl
theorem aMn {c:List Cl} (h:CxV c) (e w0 w1:Int):(∃ n,n≠0∧pS c e w0 w1=([],[],n))∨(iV c e w0 w1∧pS c e w0 w1=(mF c e w0 w1,fQ c [(e,qA e w1)],0)):=by
 unfold pS
 by_cases h1:(bT c e).isSome=false
 ·rw [if_pos h1]; exact .inl ⟨250,by decide,rfl⟩
 ·rw [if_neg h1]
  by_cases h2:dOf c e≠1
  ·rw [if_pos h2]; exact .inl ⟨260,by decide,rfl⟩
  ·rw [if_neg h2]
   by_cases h3:w0=w1∨kn c w0=true∨kn c w1=true
   ·rw [if_pos h3]; exact .inl ⟨253,by decide,rfl⟩
   ·rw [if_neg h3]
    by_cases h4:398<c.length
    ·rw [if_pos h4]; exact .inl ⟨2,by decide,rfl⟩
    ·rw [if_neg h4]
     have k0:kn c w0=false:=by cases q:kn c w0 with
      | false=>rfl
      | true=>exact (h3 (.inr (.inl q))).elim
     have k1:kn c w1=false:=by cases q:kn c w1 with
      | false=>rfl
      | true=>exact (h3 (.inr (.inr q))).elim
     refine .inr ⟨⟨?_,uR k0,uR k1,fun q=>h3 (.inl q)⟩,rfl⟩
     cases q:bT c e with
     | none=>exact (h1 (by rw [q]; rfl)).elim
     | some x =>
      obtain ⟨x1,x2⟩:=dQ q
      refine ⟨x,x1,x2,?_⟩
      have:dOf c e=x.dim:=by unfold dOf; rw [q]; rfl
      rw [← this]
      exact Classical.byContradiction h2
end Go.Am
end

section
set_option linter.unusedVariables false
set_option linter.unusedSimpArgs false
open List (map_map mapM_map)
open Go Go.Am Go.Proofs
namespace Go.Am
def rsI (c:List Cl) (e:Int) (b y:Ch) (i:Nat):List Cl:=((wK c e y).take i).map (wI e b)++(wK c e y).drop i
set_option maxHeartbeats 8000000 in
set_option maxRecDepth 10000 in
theorem aGb {c:List Cl} {F:Nat} (e w0 w1:Int) (hcv:CxV c) (hz:SzX F c) (hF:F+F+20<4398046511104) :
  Spec Tryz.prog 23 [aI c,.i .i64 e,.ag [.i .i64 w0,.i .i64 w1]] (pR (bGe c e w0 w1)):=by
 have hlen:=hz.len
 have hFe:=nC c e (by omega)
 have hF0:=nC c w0 (by omega)
 have hF1:=nC c w1 (by omega)
 have hr:∃ p x,(bT c e).isSome=p∧(bT c e).getD qK=x:=⟨_,_,rfl,rfl⟩
 obtain ⟨p,x,hp,hx⟩:=hr
 have hde:dOf c e=x.dim:=by unfold dOf; rw [hx]
 have hbe:bOf c e=x.b:=by unfold bOf; rw [hx]
 have hxl:x.b.length≤100:=by rw [← hbe]; exact vM hz.bl e
 have hxb:Bnd (2 ^ F) x.b:=by rw [← hbe]; exact sF hz.bb e
 unfold wP at hFe hF0 hF1
 rw [hp,hx] at hFe
 have hk0:kn c w0=(bT c w0).isSome:=rfl
 have hk1:kn c w1=(bT c w1).isSome:=rfl
 obtain ⟨u0,y0,hu0,hy0⟩:∃ u y,(bT c w0).isSome=u∧(bT c w0).getD qK=y:=⟨_,_,rfl,rfl⟩
 obtain ⟨u1,y1,hu1,hy1⟩:∃ u y,(bT c w1).isSome=u∧(bT c w1).getD qK=y:=⟨_,_,rfl,rfl⟩
 rw [hu0,hy0] at hF0
 rw [hu1,hy1] at hF1
 rw [hu0] at hk0
 rw [hu1] at hk1
 unfold bGe
 rw [hp,hde,hk0,hk1]
 refine aY (N:=148) aF Tryz.func23 rfl rfl rfl (by kernel_rfl) (by kernel_rfl) (by simp) ?_
 simp [-map_map,-mapM_map,↓KW,aI]
 refine aA (ds:=[aI c,.i .i64 e]) (by rfl) hFe ?_
 cases p with
 | false=>simp [-map_map,-mapM_map,↓KW,aI,bN,aE,aB,aC,pR,bJ]
 | true =>
  by_cases h1:x.dim=1
  rotate_left
  ·have h1':((x.dim != 1):Bool)=true:=by simpa using h1
   simp [-map_map,-mapM_map,↓KW,aI,bN,aE,aB,aC,pR,bJ,h1,h1']
  ·have h1':((x.dim != 1):Bool)=false:=by simpa using h1
   simp [-map_map,-mapM_map,↓KW,aI,bN,aE,aB,aC,h1,h1']
   refine aA (ds:=[aI c,.i .i64 w0]) (by rfl) hF0 ?_
   simp [-map_map,-mapM_map,↓KW,aI,bN,aE,aB,aC,h1,h1']
   refine aA (ds:=[aI c,.i .i64 w1]) (by rfl) hF1 ?_
   cases u0 with
   | true=>simp [-map_map,-mapM_map,↓KW,aI,bN,aE,aB,aC,pR,bJ,h1,h1']
   | false =>
    cases u1 with
    | true=>simp [-map_map,-mapM_map,↓KW,aI,bN,aE,aB,aC,pR,bJ,h1,h1']
    | false =>
     by_cases h2:w0=w1
     ·have h2':((w0 == w1):Bool)=true:=by simpa using h2
      simp [-map_map,-mapM_map,↓KW,aI,bN,aE,aB,aC,pR,bJ,h1,h1',h2,h2']
     ·have h2':((w0 == w1):Bool)=false:=by simpa using h2
      have h3:¬ (398:Int)<c.length:=by omega
      have h3':¬ 398<c.length:=by omega
      simp [-map_map,-mapM_map,↓KW,aI,aM,bN,aE,aB,aC,h1,h1',h2,h2',h3,h3']
      clear hFe hF0 hF1 hy0 hy1 hu0 hu1 hp hx
      refine aU (fun y:Nat × Ch=>y.1≤x.b.length∧sK (x.b.take y.1)=y.2) (fun y=>StL [(0,.d (aI c)),(1,.d (.i .i64 e)),(5,.fp [.i .i64 w0,.i .i64 w1]),(6,.ptr 1 0),(7,.fp [.i .i64 x.id,.i .i64 x.dim,aM x.b]),(13,.own 2 0 y.2.length 3),(14,.d (.i .i64 (y.1:Int)))] none [.cells 35 [.nil,.nil,.d (.i .i64 0)],.cells 89 ((flt eE y.2).map .d)]) (fun y=>x.b.length - y.1) (0,[]) ⟨Nat.zero_le _,rfl⟩ ?_ ?_
      ·refine bC [2,6] (by simp) ?_ ?_
       ·simp [-map_map,upd,aT,Γ0,aI,aM,zA]
        exact ⟨oO (cs:=[.i .i64 w0,.i .i64 w1]) rfl fun j hj=>rM hj (by simp) (by decide),oO (cs:=[.i .i64 x.id,.i .i64 x.dim,aM x.b]) (by rw [h1]; rfl) fun j hj=>rM hj (by simp) (by decide)⟩
       ·simp [-map_map,upd,aT,Γ0,aI,aM,zA]
      ·rintro ⟨i,p⟩ ⟨hi,hp⟩
       simp only at hi hp ⊢
       by_cases hgo:i<x.b.length
       ·have q1:(i:Int)<x.b.length:=by omega
        have hf:x.b[i]? = some x.b[i]:=List.getElem?_eq_getElem hgo
        have hw:IntKind.i64.wrap ((i:Int)+1)=(i:Int)+1:=aS (by omega) (by omega)
        have tkp:=aDq hgo
        have hpl:p.length≤i:=by
         have:=qF (x.b.take i)
         rw [← hp]; rw [List.length_take] at this; omega
        refine (show ∃ f,x.b[i]=f from ⟨_,rfl⟩).elim fun f hfe=>?_
        rw [hfe] at hf tkp
        rw [hp] at tkp
        have hef:eE f=[.i .i64 f.1,.b (decide (f.2<0)),aG (aV f.2.natAbs)]:=rfl
        have hSg:=eJ f.2
        have hsg:=aPx f.2
        have hm1:(1:Nat)≤maxLen:=aW (by decide)
        simp [-map_map,-mapM_map,↓KW,aI,aM,q1,hf,hef,aJ,aD,aP,aE,aB,aC]
        refine aA (ds:=[encZ f.2]) (by rfl) hSg ?_
        by_cases h0:0<f.2
        ·have hs0:decide (0<f.2.sign)=true:=by rw [hsg]; exact decide_eq_true h0
         have hs1:0<f.2.sign:=of_decide_eq_true hs0
         rw [if_pos h0] at tkp
         have hbb:=cO (n:=p.length) (by omega)
         have hcl:=bY eN p
         have hal:=eB qU p
         simp [-map_map,-mapM_map,↓KW,aI,aM,q1,hf,hef,hs0,hs1,hw,hm1,hbb,hcl,hal,aW,aJ,aD,aP,aE,aB,aC]
         refine aK (τ:=Nat × Ch) (i+1,p++[f]) ⟨hgo,tkp⟩ (Nat.sub_lt_sub_left hgo (Nat.lt_succ_self _)) ?_
         simp only [List.length_append,List.length_singleton,dW,dC,bB]
         refine bC [1,4] (by simp) ?_ ?_ <;> simp [-map_map,upd,aT,Γ0,aI,aM,eW]
        ·have hs0:decide (0<f.2.sign)=false:=by rw [hsg]; exact decide_eq_false h0
         have hs1:¬ 0<f.2.sign:=of_decide_eq_false hs0
         rw [if_neg h0,List.append_nil] at tkp
         simp [-map_map,-mapM_map,↓KW,aI,aM,q1,hf,hef,hs0,hs1,hw,aJ,aD,aP,aE,aB,aC]
         refine aK (τ:=Nat × Ch) (i+1,p) ⟨hgo,tkp⟩ (Nat.sub_lt_sub_left hgo (Nat.lt_succ_self _)) (bC [1,2] (by simp) ?_ ?_) <;> simp [-map_map,upd,aT,Γ0,aI,aM,eW]
       ·have q1:¬ (i:Int)<x.b.length:=by omega
        rw [List.take_of_length_le (by omega)] at hp
        have hxv:Val x.b:=by rw [← hbe]; exact hcv.bval e
        have hpv:Val p:=by rw [← hp]; exact aGf hxv
        have hpl:p.length≤100:=by rw [← hp]; exact Nat.le_trans (qF _) hxl
        have hpb:Bnd (2 ^ F) p:=by rw [← hp]; exact fun f hf=>hxb f (yR hf)
        have hnb:plM (-1) x.b p=tE x.b:=by
         refine aDg (jU _ hxv hpv) ⟨List.Pairwise.filter _ hxv.1,fun y hy=>hxv.2 y (yS hy)⟩ fun w=>?_
         rw [pV hxv hpv,← hp]
         have:=yE w x.b
         omega
        have hnl:(tE x.b).length≤100:=Nat.le_trans (uL _) hxl
        have hnbb:Bnd (2 ^ F) (tE x.b):=fun f hf=>hxb f (yS hf)
        have hOm:=uC (-1) (by decide) (by decide)
        have hO1:=uC 1 (by decide) (by decide)
        have hw0o:=aGa w0
        have hw1o:=aGa w1
        have heo:=aGa e
        have hP1:=oT (k:=-1) (g:=0) hxb hpb (by decide) (by omega) (by omega) (by omega) (by omega)
        rw [hnb] at hP1
        have hb1:∀ n:Int,Bnd (2 ^ 0) [(n,(1:Int))]:=fun n=>Bnd.one (Nat.le_refl 1)
        have hP2:=oT (k:=1) (g:=0) (b:=[(w0,1)]) hnbb (hb1 w0) (by decide) (by omega) (by omega) (by omega) (by simp)
        have hP3:=oT (k:=-1) (g:=0) (b:=[(w0,1)]) hpb (hb1 w0) (by decide) (by omega) (by omega) (by omega) (by simp)
        have hP4:=oT (k:=1) (g:=0) (a:=[(e,1)]) (b:=[(w1,1)]) (hb1 e) (hb1 w1) (by decide) (by omega) (by omega) (by simp) (by simp)
        have hRp:=aFz e [(w1,1)] hz (hb1 w1) (by simp) (by omega)
        have hIt:=aTc (c:=c) (by omega)
        have hWi:=bGo (m:=fQ c []) e (plM 1 [(e,1)] [(w1,1)]) (by rw [aKl]; omega)
        have hb2e:plM 1 (plM (-1) (bOf c e) (sK (bOf c e))) [(w0,1)]=plM 1 (tE x.b) [(w0,1)]:=by rw [hbe,hp,hnb]
        have hrsC:bGg c e w0 w1=eA (eA ((wK c e [(w1,1)]).map (wI e (plM 1 (tE x.b) [(w0,1)]))) (wC w0)) ⟨w1,1,plM (-1) p [(w0,1)]⟩:=by
         unfold bGg bGf; rw [hb2e,hbe,hp]
        obtain ⟨b2,hb2⟩:∃ b2,plM 1 (tE x.b) [(w0,1)]=b2:=⟨_,rfl⟩
        obtain ⟨b3,hb3⟩:∃ b3,plM (-1) p [(w0,1)]=b3:=⟨_,rfl⟩
        obtain ⟨b4,hb4⟩:∃ b4,plM 1 [(e,1)] [(w1,1)]=b4:=⟨_,rfl⟩
        rw [hb2] at hP2 hrsC
        rw [hb3] at hP3 hrsC
        rw [hb4] at hP4 hWi
        simp [-map_map,-mapM_map,↓KW,aI,aM,q1,aJ,aD,aP,aE,aB,aC]
        refine aA (ds:=[.i .i64 (-1)]) (by rfl) hOm ?_
        simp [-map_map,-mapM_map,↓KW,aI,aM,bI,aJ,aD,aP,aE,aB,aC]
        refine aA (ds:=[.i .i64 w1]) (by rfl) hw1o ?_
        simp [-map_map,-mapM_map,↓KW,aI,aQ,bF,aJ,aD,aP,aE,aB,aC]
        refine iZ [aI c,.i .i64 e,aM [(w1,1)]] (fun m=>.own m 0 c.length 3) (fun _=>[.cells 47 ((flt aZ (wK c e [(w1,1)])).map .d)]) (by simp) (by simp) (by simp) (by rfl) (by rfl) hRp ?_
        simp [-map_map,-mapM_map,↓KW,uZ]
        have hrl:(wK c e [(w1,1)]).length=c.length:=aYc _ _ _
        refine (show ∃ R,wK c e [(w1,1)]=R from ⟨_,rfl⟩).elim fun R hRe=>?_
        rw [hRe] at hrl hrsC
        have hLi:∀ i,rsI c e b2 [(w1,1)] i=(R.take i).map (wI e b2)++R.drop i:=fun i=>by unfold rsI; rw [hRe]
        refine aU (fun i:Nat=>i≤c.length) (fun i=>StL [(0,.d (aI c)),(1,.d (.i .i64 e)),(5,.fp [.i .i64 w0,.i .i64 w1]),(6,.ptr 1 0),(7,.fp [.i .i64 x.id,.i .i64 x.dim,aM x.b]),(13,.d (aM p)),(15,.fp [.b (decide ((-1:Int)<0)),aG (aV (-1:Int).natAbs)]),(16,.own 2 0 c.length 3),(17,.d (.i .i64 (i:Int)))] none [.cells 35 [.nil,.nil,.d (.i .i64 0)],.cells 47 ((flt aZ (rsI c e b2 [(w1,1)] i)).map .d)]) (fun i=>c.length - i) 0 (Nat.zero_le _) ?_ ?_
        ·have e0:rsI c e b2 [(w1,1)] 0=R:=by rw [hLi]; simp
         rw [e0,hRe]
         refine bC [1,4] (by simp) ?_ ?_
         ·simp [-map_map,upd,aT,Γ0,aI,eW]
          exact ⟨(eW [.i .i64 x.id,.i .i64 x.dim,aM x.b]).2 trivial,sO (t:=89) rfl rfl fun j hj=>rM hj (by simp) (by decide),oO (t:=69) rfl fun j hj=>rM hj (by simp) (by decide)⟩
         ·simp [-map_map,upd,aT,Γ0,aI,eW]
        ·intro i hi
         have hwl:(rsI c e b2 [(w1,1)] i).length=c.length:=by rw [hLi,List.length_append,List.length_map,List.length_take,List.length_drop]; omega
         by_cases hgo:i<c.length
         ·have q1:(i:Int)<c.length:=by omega
          have hgR:i<R.length:=by omega
          have hw:IntKind.i64.wrap ((i:Int)+1)=(i:Int)+1:=aS (by omega) (by omega)
          have hx1:(rsI c e b2 [(w1,1)] i)[i]? = some R[i]:=by
           rw [hLi,List.getElem?_append_right (by rw [List.length_map,List.length_take]; omega)]
           simp [List.length_take,Nat.min_eq_left (show i≤R.length by omega),hgR]
          have hnx:rsI c e b2 [(w1,1)] (i+1)=(rsI c e b2 [(w1,1)] i).set i (wI e b2 R[i]):=by
           rw [hLi,hLi,List.take_add_one,List.getElem?_eq_getElem hgR,List.map_append,List.set_append_right _ _ (by rw [List.length_map,List.length_take]; omega),List.drop_eq_getElem_cons hgR,List.length_map,List.length_take,Nat.min_eq_left (show i≤R.length by omega),Nat.sub_self,List.set_cons_zero]
           simp
          refine (show ∃ z,R[i]=z from ⟨_,rfl⟩).elim fun z hze=>?_
          rw [hze] at hx1 hnx
          refine (show ∃ L,rsI c e b2 [(w1,1)] i=L from ⟨_,rfl⟩).elim fun L hLe=>?_
          rw [hLe] at hx1 hnx hwl
          simp only [hLe]
          have c0:(flt aZ L)[i * 3]? = some (.i .i64 z.id):=aGs bP L i 0 z hx1 (by decide)
          have hcl:=bY bP L
          rw [hwl] at hcl
          have hli:i * 3+2+1≤c.length * 3:=by omega
          have hm1:(1:Nat)≤maxLen:=aW (by decide)
          by_cases h0:z.id=e
          ·have hsb:wI e b2 z=⟨z.id,z.dim,b2⟩:=by unfold wI; rw [if_pos h0]
           rw [hsb] at hnx
           have q3:(((e:Int) == (e:Int)):Bool)=true:=by simp
           have hst:lay ((flt aZ L).map AV.d) (i * 3+2) [.d (aM b2)]=(flt aZ (L.set i ⟨z.id,z.dim,b2⟩)).map .d:=by
            rw [nG _ _ _ (by omega),yZ bP L i 2 z ⟨z.id,z.dim,b2⟩ _ hx1 (by decide) rfl]
           simp [-map_map,-mapM_map,↓KW,aI,bN,q1,c0,hcl,h0,q3,aJ,aD,aP,aE,aB,aC]
           refine aA (ds:=[aM x.b,aM p,encZ (-1)]) (by rfl) hP1 ?_
           simp [-map_map,-mapM_map,↓KW,aI,bN,q1,c0,hcl,aQ,bF,aJ,aD,aP,aE,aB,aC]
           refine aA (ds:=[.i .i64 w0]) (by rfl) hw0o ?_
           simp [-map_map,-mapM_map,↓KW,aI,bN,q1,c0,hcl,aQ,bF,aJ,aD,aP,aE,aB,aC]
           refine aA (ds:=[.i .i64 1]) (by rfl) hO1 ?_
           simp [-map_map,-mapM_map,↓KW,aI,bN,bI,q1,c0,hcl,bH,aX,aQ,bF,aJ,aD,aP,aE,aB,aC]
           refine aA (ds:=[aM (tE x.b),aM [(w0,1)],encZ 1]) (by rfl) hP2 ?_
           simp [-map_map,-mapM_map,↓KW,aI,bN,hw,q1,c0,hcl,hst,hli,aQ,bF,aJ,aD,aP,aE,aB,aC]
           refine aK (i+1) hgo (Nat.sub_lt_sub_left hgo (Nat.lt_succ_self _)) ?_
           rw [hnx]
           refine bC [1,2] (by simp) ?_ ?_ <;> simp [-map_map,upd,aT,Γ0,aI,aM,eW,h0]
          ·have h0':((z.id == e):Bool)=false:=by simpa using h0
           have hsb:wI e b2 z=z:=by unfold wI; rw [if_neg h0]
           have hset:L.set i z=L:=by
            obtain ⟨h1,h2⟩:=List.getElem?_eq_some_iff.1 hx1
            rw [← h2]; exact List.set_getElem_self h1
           rw [hsb,hset] at hnx
           simp [-map_map,-mapM_map,↓KW,aI,q1,c0,hcl,h0,h0',hw,aE,aB,aC]
           refine aK (i+1) hgo (Nat.sub_lt_sub_left hgo (Nat.lt_succ_self _)) ?_
           rw [hnx]
           refine bC [1,2] (by simp) ?_ ?_ <;> simp [-map_map,upd,aT,Γ0,aI,aM,eW]
         ·have q1:¬ (i:Int)<c.length:=by omega
          have hfin:rsI c e b2 [(w1,1)] i=R.map (wI e b2):=by rw [hLi,List.take_of_length_le (by omega),List.drop_of_length_le (by omega),List.append_nil]
          rw [hfin] at hwl
          simp only [hfin]
          obtain ⟨D1,hD1⟩:∃ D1,R.map (wI e b2)=D1:=⟨_,rfl⟩
          rw [hD1] at hrsC hwl
          simp only [hD1]
          have hp1:=aDl (c:=D1) (wC w0) (by omega)
          have hp2:=aDl (c:=eA D1 (wC w0)) ⟨w1,1,b3⟩ (by rw [tD]; omega)
          have e4:=eL bP hwl
          have e5:=dX (by decide) bP hwl
          have e6:=bY bP D1
          rw [hwl] at e6
          simp [-map_map,-mapM_map,↓KW,aI,q1]
          have hv0:aZ (wC w0)=[.i .i64 w0,.i .i64 0,.sl []]:=rfl
          rw [hv0] at hp1
          refine aA (ds:=[aI D1,.ag [.i .i64 w0,.i .i64 0,.sl []]]) (by simp [-map_map,-mapM_map,aI,upd,iB,mS,e4,e5,e6]) hp1 ?_
          obtain ⟨D2,hD2⟩:∃ D2,eA D1 (wC w0)=D2:=⟨_,rfl⟩
          rw [hD2] at hp2 hrsC
          simp only [hD2]
          simp [-map_map,-mapM_map,↓KW,aI,iI,fH,e4,e5,e6,aQ,bF,aE,aB,aC]
          refine aA (ds:=[.i .i64 w0]) (by rfl) hw0o ?_
          simp [-map_map,-mapM_map,↓KW,aI,aQ,bF,aJ,aD,aP,aE,aB,aC]
          refine aA (ds:=[aM p,aM [(w0,1)],encZ (-1)]) (by rfl) hP3 ?_
          simp [-map_map,-mapM_map,↓KW,aI,aQ,bF,aE,aB,aC]
          refine aA (ds:=[aI D2,.ag (aZ ⟨w1,1,b3⟩)]) (by rfl) hp2 ?_
          rw [← hrsC]
          simp [-map_map,-mapM_map,↓KW,iI,fH,aQ,bF,aE,aB,aC]
          refine aA (ds:=[aI c]) (by rfl) hIt ?_
          simp [-map_map,-mapM_map,↓KW,iI,fH,dF,cJ,aQ,bF,aE,aB,aC]
          refine aA (ds:=[.i .i64 e]) (by rfl) heo ?_
          simp [-map_map,-mapM_map,↓KW,iI,fH,dF,cJ,aQ,bF,aE,aB,aC]
          refine aA (ds:=[.i .i64 w1]) (by rfl) hw1o ?_
          simp [-map_map,-mapM_map,↓KW,iI,fH,dF,cJ,aQ,bF,aE,aB,aC]
          refine aA (ds:=[.i .i64 1]) (by rfl) hO1 ?_
          simp [-map_map,-mapM_map,↓KW,bI,bH,aX,aJ,aD,aP,iI,fH,dF,cJ,aQ,bF,aE,aB,aC]
          refine aA (ds:=[aM [(e,1)],aM [(w1,1)],encZ 1]) (by rfl) hP4 ?_
          simp [-map_map,-mapM_map,↓KW,iI,fH,dF,cJ,aQ,bF,aE,aB,aC]
          refine aA (ds:=[bJ (fQ c []),.i .i64 e,aM b4]) (by rfl) hWi ?_
          simp [-map_map,-mapM_map,↓KW,iI,fH,dF,cJ,aQ,bF,aE,aB,aC,fM,gV,dM,eI,pR,h1,h2,h3',hb4]
end Go.Am
end

section
set_option linter.unusedVariables false
set_option linter.unusedSimpArgs false
open Go Go.Am Go.Proofs
namespace Go.Am
theorem MdX.keys {c:List Cl} (h:MdX c):∀ y∈c,Keys y.b:=bIh h.v fun y hy=>by have:=h.ids y hy; omega
theorem bIe {c:List Cl} (h:MdX c):∀ n∈knX c,inr n=true:=fun n hn=>by
 unfold knX at hn
 rcases List.mem_append.1 hn with hn | hn
 ·obtain ⟨x,hx,rfl⟩:=List.mem_map.1 hn
  have:=h.ids x hx
  simp only [inr,decide_eq_true_eq]; omega
 ·rw [List.mem_singleton.1 hn]; decide
end Go.Am
end

section
set_option linter.unusedVariables false
set_option linter.unusedSimpArgs false
open List (map_map mapM_map)
open Go Go.Am Go.Proofs
namespace Go.Am
theorem bFp {c:List Cl} {F:Nat} (h:CxV c) (hl:c.length≤11) (hz:SzX F c) (e w0 w1:Int):SzX (14+F) (mF c e w0 w1):=by
 have hbl:=h.bLenOf e
 have hbb:Bnd (2 ^ F) (bOf c e):=sF hz.bb e
 have hred:∀ l:Ch,l.length≤24→Bnd (2 ^ F) l→(bV [] l).length≤100∧Bnd (2 ^ (14+F)) (bV [] l):=fun l h1 h2=>by
  have k1:=kH [] l
  have k2:=kI l [] (Bnd.nil 0) h2
  simp only [List.length_nil,Nat.zero_add] at k1 k2
  exact ⟨by omega,k2.mono (qE (Nat.le_trans h1 (by decide)))⟩
 have hp:=hred (jC w0 (bOf c e)) (by have:=qF (bOf c e); unfold jC; rw [List.length_cons]; omega) (bGt rfl fun f hf=>hbb f (yR hf))
 have hy:∀ y∈c,(bV [] (subL e w0 w1 (bOf c e) y)).length≤100∧Bnd (2 ^ (14+F)) (bV [] (subL e w0 w1 (bOf c e) y)):=fun y hy=>by
  have k1:=h.bLen hy
  unfold subL
  split
  ·exact hred _ (by have:=uL (bOf c e); unfold kW; rw [List.length_cons]; omega) (bGt rfl fun f hf=>hbb f (yS hf))
  ·refine hred _ (by have:=bKi e w1 y.b; rw [List.length_append]; omega) ((hz.bb y hy).app fun f hf=>?_)
   unfold adF at hf
   obtain ⟨g,hg,rfl⟩:=List.mem_map.1 hf
   exact hz.bb y hy g (List.mem_filter.1 hg).1
 refine ⟨by rw [zR]; omega,fun z hz'=>?_,fun z hz'=>?_⟩
 ·rcases fW.1 hz' with rfl | rfl | ⟨y,hy',rfl⟩
  ·exact Nat.zero_le _
  ·exact hp.1
  ·exact (hy y hy').1
 ·rcases fW.1 hz' with rfl | rfl | ⟨y,hy',rfl⟩
  ·exact Bnd.nil _
  ·exact hp.2
  ·exact (hy y hy').2
theorem bFn {c:List Cl} (hl:c.length≤100) (e w1:Int):SzM 2 (fQ c [(e,qA e w1)]):=by
 have hB:(qA e w1).length≤100∧Bnd (2 ^ 2) (qA e w1)∧Val (qA e w1):=by
  unfold qA
  have k1:=kH [(e,1)] (mulR 1 [(w1,1)])
  have k2:=kI (M:=1) (K:=1) (mulR 1 [(w1,1)]) [(e,1)] (Bnd.one (Nat.le_refl 1)) (Bnd.one (Nat.le_refl 1))
  simp [mulR] at k1 k2
  exact ⟨by simp only [mulR,List.map_cons,List.map_nil]; simp at k1 ⊢; omega,by simp only [mulR,List.map_cons,List.map_nil]; exact k2.mono (by decide),(dI _ _ (jV e)).1⟩
 have hp:∀ p∈fQ c [(e,qA e w1)],p.2=qA e w1∨∃ n,p.2=[(n,1)]:=fun p hp=>by
  obtain ⟨y,_,rfl⟩:=List.mem_map.1 hp
  simp only [uV]
  split
  ·exact .inl rfl
  ·exact .inr ⟨_,rfl⟩
 refine ⟨by rw [aKl]; exact hl,fun p h1=>?_,fun p h1=>?_,fun p h1=>?_⟩
 ·rcases hp p h1 with e | ⟨n,e⟩ <;> rw [e]
  ·exact hB.1
  ·simp
 ·rcases hp p h1 with e | ⟨n,e⟩ <;> rw [e]
  ·exact hB.2.1
  ·exact Bnd.one (by show (1:Int).natAbs≤4; decide)
 ·rcases hp p h1 with e | ⟨n,e⟩ <;> rw [e]
  ·exact hB.2.2
  ·exact jV n
structure bLp (c:List Cl) (a w0 w1:Int) (r:List Cl × List (Int × Ch) × Int):Prop where
 ref:Spec Tryz.prog 23 [aI c,.i .i64 a,.ag [.i .i64 w0,.i .i64 w1]] (pR r)
 prg:Spec Tryz.prog 24 [aI c,.i .i64 a,.ag [.i .i64 w0,.i .i64 w1]] (gF r)
 is:Spec Tryz.prog 13 [pR r,aI r.1,bJ r.2.1] (.b true)
 ok:r.2.2=0→Spec Tryz.prog 14 [aI r.1] (.b true)∧r.1.length=c.length+2∧Spec Tryz.prog 15 [aI c,aI r.1,bJ r.2.1] (.b true)
theorem bPw {c:List Cl} (hc:MdX c) (a w0 w1:Int) (ha:inr a=true) (h0:inr w0=true) (h1:inr w1=true):bLp c a w0 w1 (pS c a w0 w1):=by
 obtain ⟨F,hF,hz⟩:=hc.sz
 have hlen:=hc.len
 have k1:=aGb a w0 w1 hc.v hz (by omega)
 rw [bGd hc.v] at k1
 have hne:∀ f∈bOf c a,f.1≠a:=fun f hf he=>by
  unfold bOf at hf
  cases q:bT c a with
  | none=>rw [q] at hf; cases hf
  | some x =>
   rw [q] at hf
   obtain ⟨x1,x2⟩:=dQ q
   obtain ⟨y,hy,e1,e2⟩:=hc.v.face x x1 f hf
   have:=hc.v.inc.eq hy x1 (e1.trans (he.trans x2.symm))
   subst this; omega
 have k2:=aKi (F:=F) a w0 w1 hc.v.inc hz hc.keys h0 h1 ha hne (by omega)
 have hcmp:bPj (pS c a w0 w1).1 (pS c a w0 w1).2.1∧((pS c a w0 w1).2.2=0→Spec Tryz.prog 14 [aI (pS c a w0 w1).1] (.b true)∧(pS c a w0 w1).1.length=c.length+2∧Spec Tryz.prog 15 [aI c,aI (pS c a w0 w1).1,bJ (pS c a w0 w1).2.1] (.b true)):=by
  rcases aMn hc.v a w0 w1 with ⟨n,hn,e⟩ | ⟨t,e⟩
  ·rw [e]
   exact ⟨⟨by simp,by simp,by simp,by simp,by simp,by simp⟩,fun h=>(hn h).elim⟩
  ·rw [e]
   have hz2:=bFp hc.v hlen hz a w0 w1
   have hM:=bFn (c:=c) (by omega) a w1
   refine ⟨⟨fun x hx=>(hz2.bb x hx).sz (by omega),fun x hx=>by have:=hz2.bl x hx; omega,by have:=hz2.len; simp only; omega,fun x hx=>(hM.bb x hx).sz (by omega),fun x hx=>by have:=hM.bl x hx; omega,by have:=hM.len; simp only; omega⟩,fun _=>?_⟩
   exact ⟨aYj (t.valid hc.v) hz2 (by omega),zR _ _ _ _,aIv (t.comm hc.v) hz hz2 (t.valid hc.v).val hM (by omega) (by omega)⟩
 have k3:=bPu (r:=pS c a w0 w1) hcmp.1 hcmp.1
 rw [decide_eq_true rfl,decide_eq_true rfl] at k3
 exact ⟨k1,k2,k3,hcmp.2⟩
set_option maxHeartbeats 8000000 in
set_option maxRecDepth 10000 in
theorem bNp (s:Int) (q:List Q4) (v0 v1:Int) (hs:0≤s∧s≤255) (hq:∀ y∈q,y.ok) (hql:q.length≤9223372036854775807) (hv0:-128≤v0∧v0≤127) (hv1:-128≤v1∧v1≤127) (hS:Spec Tryz.prog 8 [] (.b true)) :
  Spec Tryz.prog 6 [qT s q,.ag [.i .i8 v0,.i .i8 v1]] (.b true):=by
 obtain ⟨c,sM,hc⟩:=bHx s q hs hq hql
 have hlen:=hc.len
 have hr:qT s q=.ag [.i .u8 s,.sl (q.map sL)]:=rfl
 obtain ⟨F,hF,hz⟩:=hc.sz
 have hsz:∀ y∈c,∀ f∈y.b,Sz f.2:=fun y hy=>(hz.bb y hy).sz (by omega)
 have hbl2:∀ y∈c,y.b.length≤1073741824:=fun y hy=>by have:=hz.bl y hy; omega
 have sS:=aQa hsz hsz hbl2 hbl2 (by omega) (by omega)
 rw [decide_eq_true (rfl:c=c)] at sS
 have hK:=bAi (c:=c) (by omega)
 have hkl:(knX c).length=c.length+1:=by unfold knX; rw [List.length_append,List.length_map]; rfl
 have hkr:=bIe hc
 have hi0:inr v0=true:=by simp only [inr,decide_eq_true_eq]; omega
 have hi1:inr v1=true:=by simp only [inr,decide_eq_true_eq]; omega
 have hP:∀ a,inr a=true→bLp c a v0 v1 (pS c a v0 v1):=fun a ha=>bPw hc a v0 v1 ha hi0 hi1
 generalize knX c=ids at *
 have hie:cF ids=.sl (ids.map fun n=>[.i .i64 n]):=rfl
 have hw0:IntKind.i64.wrap v0=v0:=aS (by omega) (by omega)
 have hw1:IntKind.i64.wrap v1=v1:=aS (by omega) (by omega)
 have hwc:IntKind.i64.wrap ((c.length:Int)+2)=(c.length:Int)+2:=aS (by omega) (by omega)
 clear hF hz hsz hbl2 hq hql
 refine aY (N:=91) aF Tryz.func6 rfl rfl rfl (by kernel_rfl) (by kernel_rfl) (by simp) ?_
 simp [-map_map,-mapM_map,↓KW,hr]
 refine aA (ds:=[]) (by rfl) hS ?_
 simp [-map_map,-mapM_map,↓KW,hr]
 refine aA (ds:=[qT s q]) (by rfl) sM ?_
 simp [-map_map,-mapM_map,↓KW,hr,hw0,hw1,iI,fH,fM,dM,fB]
 refine aA (ds:=[aI c]) (by rfl) hK ?_
 simp [-map_map,-mapM_map,↓KW,hr,iI,fH,fM,dM,fB,hie]
 refine aU (fun i:Nat=>i≤ids.length) (fun i=>StL [(2,.ptr 1 0),(5,.d (.b true)),(6,.d (aI c)),(7,.ptr 2 0),(8,.d (cF ids)),(9,.d (.i .i64 (i:Int)))] none [.cells 24 [.d (.i .u8 s),.d (.sl (q.map sL))],.cells 59 [.d (.i .i64 v0),.d (.i .i64 v1)]]) (fun i=>ids.length - i) 0 (Nat.zero_le _) ?_ ?_
 ·refine bC [1,3] (by simp) ?_ ?_ <;> simp [-map_map,upd,aT,Γ0,hie]
 ·intro i hi
  by_cases hgo:i<ids.length
  ·have q1:(i:Int)<ids.length:=by omega
   have hx:ids[i]? = some ids[i]:=List.getElem?_eq_getElem hgo
   have hw:IntKind.i64.wrap ((i:Int)+1)=(i:Int)+1:=aS (by omega) (by omega)
   have har:=hkr _ (List.getElem_mem hgo)
   refine (show ∃ a,ids[i]=a from ⟨_,rfl⟩).elim fun a hae=>?_
   rw [hae] at hx har
   have hPr:=hP a har
   refine (show ∃ r,pS c a v0 v1=r from ⟨_,rfl⟩).elim fun r hre=>?_
   rw [hre] at hPr
   obtain ⟨p1,p2,p3,p4⟩:=hPr
   obtain ⟨r1,r2,r3⟩:=r
   simp only at p3 p4
   have e1:pR (r1,r2,r3)=.ag [aI r1,bJ r2,.i .i64 r3]:=rfl
   have e2:gF (r1,r2,r3)=.tp [aI r1,bJ r2,.i .i64 r3]:=rfl
   rw [e1] at p1 p3
   rw [e2] at p2
   have q3:(((r3:Int) != (r3:Int)):Bool)=false:=by simp
   simp [-map_map,-mapM_map,↓KW,hie,q1,hx,fM,dM,fB]
   refine aA (ds:=[aI c,.i .i64 a,.ag [.i .i64 v0,.i .i64 v1]]) (by rfl) p1 ?_
   simp [-map_map,-mapM_map,↓KW,hie,q1,hx,fM,dM,fB,gV,eI,gM]
   refine aA (ds:=[aI c,.i .i64 a,.ag [.i .i64 v0,.i .i64 v1]]) (by rfl) p2 ?_
   simp [-map_map,-mapM_map,↓KW,hie,q1,hx,q3,fM,dM,fB,gV,eI,gM]
   refine aA (ds:=[.ag [aI r1,bJ r2,.i .i64 r3],aI r1,bJ r2]) (by rfl) p3 ?_
   by_cases h0:r3=0
   ·obtain ⟨s1,sl,s2⟩:=p4 h0
    have h0':((r3 == 0):Bool)=true:=by simpa using h0
    have hle:(((r1.length:Int) != (c.length:Int)+2):Bool)=false:=by simp; omega
    simp [-map_map,-mapM_map,↓KW,hie,h0',fM,dM,fB,gV,eI,gM]
    refine aA (ds:=[aI r1]) (by rfl) s1 ?_
    simp [-map_map,-mapM_map,↓KW,hie,aI,hwc,hle,h0',gV,eI,gM]
    refine aA (ds:=[aI c,aI r1,bJ r2]) (by rfl) s2 ?_
    simp [-map_map,-mapM_map,↓KW,hie,hw,h0',fM,dM,fB,gV,eI,gM]
    refine aK (i+1) hgo (Nat.sub_lt_sub_left hgo (Nat.lt_succ_self _)) (bC [1,2] (by simp) ?_ ?_) <;> simp [-map_map,upd,aT,Γ0,hie,aI]
   ·have h0':((r3 == 0):Bool)=false:=by simpa using h0
    simp [-map_map,-mapM_map,↓KW,hie,hw,h0',fM,dM,fB,gV,eI,gM]
    refine aK (i+1) hgo (Nat.sub_lt_sub_left hgo (Nat.lt_succ_self _)) (bC [1,2] (by simp) ?_ ?_) <;> simp [-map_map,upd,aT,Γ0,hie]
  ·have q1:¬ (i:Int)<ids.length:=by omega
   simp [-map_map,-mapM_map,↓KW,hie,q1,fM,dM,fB]
   refine aA (ds:=[qT s q]) (by rfl) sM ?_
   simp [-map_map,-mapM_map,↓KW,hie,fM,dM,fB,iI,fH]
   refine aA (ds:=[aI c,aI c]) (by rfl) sS ?_
   simp [-map_map,-mapM_map,↓KW,hie]
end Go.Am
end

section
set_option linter.unusedVariables false
set_option linter.unusedSimpArgs false
open Go Go.Am Go.Proofs
namespace Go.Am
def eqL {α:Type} (f:α→α→Bool):List α→List α→Bool
 | [],[]=>true
 | x::a,y::b=>f x y && eqL f a b
 | _,_=>false
theorem aBl {α:Type} {f:α→α→Bool} (h:∀ x y,f x y=true→x=y):∀ (a b:List α),eqL f a b=true→a=b
 | [],[],_=>rfl
 | x::a,y::b,e=>by
  simp only [eqL,Bool.and_eq_true] at e
  rw [h _ _ e.1,aBl h _ _ e.2]
 | [],_::_,e=>by cases e
 | _::_,[],e=>by cases e
def eqD:Nat→D→D→Bool
 | 0,_,_=>false
 | n+1,x,y=>match x,y with
  | .b p,.b q=>p == q
  | .i k a,.i l b=>decide (k=l) && decide (a=b)
  | .sl a,.sl b=>eqL (eqL (eqD n)) a b
  | .ag a,.ag b=>eqL (eqD n) a b
  | _,_=>false
theorem aOg:∀ (n:Nat) (x y:D),eqD n x y=true→x=y
 | 0,_,_,h=>by cases h
 | n+1,x,y,h=>by
  have ih:=aOg n
  unfold eqD at h
  split at h
  ·simp only [beq_iff_eq] at h; rw [h]
  ·simp only [Bool.and_eq_true,decide_eq_true_eq] at h; rw [h.1,h.2]
  ·rw [aBl (aBl ih) _ _ h]
  ·rw [aBl ih _ _ h]
  ·cases h
/-! Data with coefficients of one digit, as it stands -/
def bCc (f:Int × Int):List D:=[.i .i64 f.1,.b (decide (f.2<0)),.sl [[.i .u32 (f.2.natAbs:Int)]]]
def vF (l:Ch):D:=.sl (l.map bCc)
def pQ (c:List Cl):D:=.sl (c.map fun x=>[.i .i64 x.id,.i .i64 x.dim,vF x.b])
def dg (f:Int × Int):Bool:=decide (0<f.2.natAbs) && decide (f.2.natAbs<4294967296)
theorem bCb {f:Int × Int} (h:dg f=true):eE f=bCc f:=by
 simp only [dg,Bool.and_eq_true,decide_eq_true_eq] at h
 simp [eE,bCc,aG,bCk h.1 h.2]
theorem qV {l:Ch} (h:l.all dg=true):aM l=vF l:=by
 unfold aM vF
 congr 1
 exact List.map_congr_left fun f hf=>bCb (List.all_eq_true.1 h f hf)
theorem aBn {c:List Cl} (h:(c.all fun x=>x.b.all dg)=true):aI c=pQ c:=by
 unfold aI pQ
 congr 1
 refine List.map_congr_left fun x hx=>?_
 rw [← qV (List.all_eq_true.1 h x hx)]; rfl
theorem aYv {P:Program} {f:FuncId} {h:AV} {o o1 o':HO} {ds:List D} {r:D} (hcr:∀ A W ι ob,CR A W ι o1 ob→CR A W ι o ob) (hs:lO P f h o ds o' r):lO P f h o1 ds o' r :=
 fun A W vs b hA hnb hb ⟨ob,hob,hc⟩ hl hv hd=>hs A W vs b hA hnb hb ⟨ob,hob,hcr _ _ _ _ hc⟩ hl hv hd
def leA:AV→AV→Bool
 | .d x,.d y=>eqD 8 x y
 | .nil,.d (.sl [])=>true
 | _,_=>false
theorem bQw {x y:AV} {F:Nat→Prop} {w:World} {ι:Nat→Option Nat} {v:Value} (h:leA x y=true) (hv:V F w ι x v):V F w ι y v:=by
 unfold leA at h
 split at h
 ·rw [← aOg _ _ _ h]; exact hv
 ·cases hv; exact .d _ _ (.sl0 none 0)
 ·cases h
theorem bNo {x y:List AV} (h:eqL leA x y=true):x.length=y.length∧∀ (k:Nat) b,y[k]? = some b→∃ a,x[k]? = some a∧leA a b=true:=by
 induction x generalizing y with
 | nil=>cases y with
  | nil=>exact ⟨rfl,fun k b h=>by simp at h⟩
  | cons=>cases h
 | cons a x ih=>cases y with
  | nil=>cases h
  | cons b y =>
   simp only [eqL,Bool.and_eq_true] at h
   obtain ⟨h1,h2⟩:=ih h.2
   refine ⟨by simp [h1],fun k c hc=>?_⟩
   cases k with
   | zero=>simp at hc; subst hc; exact ⟨a,rfl,h.1⟩
   | succ k=>exact h2 k c (by simpa using hc)
def leO:HO→HO→Bool
 | .cells e a,.cells e' b=>decide (e=e') && eqL leA a b
 | _,_=>false
theorem bNn {o1 o:HO} (h:leO o1 o=true) (A:Nat→Prop) (W:World) (ι:Nat→Option Nat) (ob:Obj) (hc:CR A W ι o1 ob):CR A W ι o ob:=by
 unfold leO at h
 split at h
 ·simp only [Bool.and_eq_true,decide_eq_true_eq] at h
  obtain ⟨rfl,h⟩:=h
  obtain ⟨h1,h2⟩:=bNo h
  cases hc with
  | cells _ _ cur hl hh =>
   refine .cells _ _ cur (by omega) fun k c hk=>?_
   obtain ⟨a,ha,hle⟩:=h2 k c hk
   obtain ⟨u,hu,hV⟩:=hh k a ha
   exact ⟨u,hu,bQw hle hV⟩
 ·cases h
def bQs:List D→Bool
 | [.lit (.func (.func g) a b)]=>g == 69 && a.isEmpty && b.isEmpty
 | _=>false
def bPx (n:Nat):AV→Bool
 | .own 0 0 m 3=>m == n
 | _=>false
def E31 (T:List (FuncId × List D × D)) (n:Nat) (o o':HO):Kn:={ E0 with
 call:=fun f ds=>match T.find? (fun p=>p.1 == f && eqL (eqD 8) ds p.2.1) with
   | some p=>some p.2.2
   | none=>E0.call f ds
 ocall:=fun f h o1 ds=>if f=68∧bPx n h=true∧leO o1 o=true∧bQs ds=true then some (o',.tp []) else none
 recs:=fun g=>E0.recs g || [43,79,54,65].contains g }
theorem bPs:kJ Tryz.prog 54:=by
 refine ⟨fun w=>enters_of Tryz.func54 (by kernel_rfl) rfl _ w,fun w=>?_⟩
 refine callsD_of_wpS Tryz.func54 rfl fun c₀ cs hu=>?_
 apply wpS_region
 simp [wpOpsS,go_sem,recoverD,hu,Tryz.ntmps54,bodyPostS,results,Tryz.results54]
 cases c₀; simp only at hu; subst hu; rfl
theorem bPi {T:List (FuncId × List D × D)} {n:Nat} {o o':HO} (hT:∀ p∈T,Spec Tryz.prog p.1 p.2.1 p.2.2)
  (hS:lO Tryz.prog 68 (.own 0 0 n 3) o [.lit (.func (.func 69) #[] #[])] o' (.tp [])):aDc Tryz.prog (E31 T n o o'):=by
 have h0:=bEp
 refine ⟨fun f ds r hc=>?_,fun f h o1 ds o2 r hc=>?_,h0.keys,h0.sorted,fun g hg=>?_⟩
 ·simp only [E31] at hc
  split at hc
  ·rename_i p hp
   injection hc with hc; subst hc
   have h1:=List.find?_some hp
   simp only [Bool.and_eq_true,beq_iff_eq] at h1
   rw [← h1.1,aBl (aOg 8) _ _ h1.2]
   exact hT p (List.mem_of_find?_eq_some hp)
  ·exact h0.call _ _ _ hc
 ·simp only [E31] at hc
  split at hc
  ·rename_i hh
   obtain ⟨rfl,h1,h2,h3⟩:=hh
   injection hc with hc; injection hc with hc1 hc2; subst hc1; subst hc2
   have e1:h=.own 0 0 n 3:=by
    unfold bPx at h1
    split at h1
    ·simp only [beq_iff_eq] at h1; rw [h1]
    ·cases h1
   have e2:ds=[.lit (.func (.func 69) #[] #[])]:=by
    unfold bQs at h3
    split at h3
    ·simp only [Bool.and_eq_true,beq_iff_eq,Array.isEmpty_iff] at h3
     obtain ⟨⟨h3,h4⟩,h5⟩:=h3
     rw [h3,h4,h5]
    ·cases h3
   rw [e1,e2]
   exact aYv (bNn h2) hS
  ·cases hc
 ·simp only [E31,Bool.or_eq_true,List.contains_eq_mem,decide_eq_true_eq,List.mem_cons,List.mem_nil_iff,or_false] at hg
  rcases hg with hg | rfl | rfl | rfl | rfl
  ·exact h0.recs g hg
  ·exact bPt
  ·exact bKu
  ·exact bPs
  ·exact rec65
def zU:List Cl:=[⟨1,0,[]⟩,⟨2,0,[]⟩,⟨3,1,[(1,-1),(2,1)]⟩]
def bQq:List Cl:=[⟨1,0,[]⟩,⟨2,1,[(1,2)]⟩]
def bMq:List Cl:=[⟨7,0,[]⟩,⟨8,1,[(2,1),(7,-1)]⟩,⟨1,0,[]⟩,⟨2,0,[]⟩,⟨3,1,[(1,-1),(7,1)]⟩]
def bFz:List Cl:=[⟨1,0,[]⟩,⟨2,0,[]⟩,⟨3,1,[(1,-1),(7,1)]⟩,⟨7,0,[]⟩,⟨8,1,[(2,1),(7,-1)]⟩]
def wT (x:Cl):List D:=[.i .i64 x.id,.i .i64 x.dim,vF x.b]
theorem aRm {c:List Cl} (h:(c.all fun x=>x.b.all dg)=true):flt aZ c=flt wT c:=by
 unfold flt
 congr 1
 refine List.map_congr_left fun x hx=>?_
 unfold aZ wT
 rw [qV (List.all_eq_true.1 h x hx)]
def aOh (m:List (Int × Ch)):D:=.sl (m.map fun p=>[.i .i64 p.1,vF p.2])
def aBo (r:List Cl × List (Int × Ch) × Int):D:=.tp [pQ r.1,aOh r.2.1,.i .i64 r.2.2]
theorem aUz {m:List (Int × Ch)} (h:(m.all fun x=>x.2.all dg)=true):bJ m=aOh m:=by
 unfold bJ aOh
 congr 1
 refine List.map_congr_left fun x hx=>?_
 rw [← qV (List.all_eq_true.1 h x hx)]; rfl
def dgX (c:List Cl):Bool:=c.all fun x=>x.b.all dg
def smX (c:List Cl):Bool:=c.all fun x=>decide (x.b.length≤100) && x.b.all fun f=>decide (f.2.natAbs≤2) && inr f.1
theorem aMt {c:List Cl} (hl:c.length≤100) (h2:smX c=true):SzX 1 c∧∀ x∈c,Keys x.b:=by
 refine ⟨⟨hl,fun x hx=>?_,fun x hx f hf=>?_⟩,fun x hx f hf=>?_⟩
 all_goals
  have:=List.all_eq_true.1 h2 x hx
  simp only [Bool.and_eq_true,decide_eq_true_eq] at this
 ·exact this.1
 ·have h3:=List.all_eq_true.1 this.2 f hf
  simp only [Bool.and_eq_true,decide_eq_true_eq] at h3
  exact h3.1
 ·have h3:=List.all_eq_true.1 this.2 f hf
  simp only [Bool.and_eq_true,decide_eq_true_eq] at h3
  exact h3.2
theorem aNy {c:List Cl} {l:List (Int × Int)} (h1:dgX c=true) (hl:c.length≤100) (h2:smX c=true) (hf:qO c=l):Spec Tryz.prog 22 [pQ c] (eX l):=by
 rw [← aBn h1,← hf]
 exact aZu (e:=1) (aMt hl h2).1 (by omega)
theorem aRt {c:List Cl} {a b:Int} {r:List Cl × List (Int × Ch) × Int} (h1:dgX c=true) (hl:c.length≤100) (h2:smX c=true) (hc:Inc c) (hr:bOl c a b=r) (h3:dgX r.1=true) (h4:(r.2.1.all fun x=>x.2.all dg)=true) :
  Spec Tryz.prog 29 [pQ c,.i .i64 a,.i .i64 b] (aBo r):=by
 have h:=aNn (e:=1) a b hc (aMt hl h2).1 (aMt hl h2).2 (by omega)
 rw [hr,aBn h1] at h
 unfold gF at h
 rw [aBn h3,aUz h4] at h
 exact h
def T31:List (FuncId × List D × D):=[(22,[pQ zU],eX [(3,1),(3,2)]),(22,[pQ [⟨2,0,[]⟩]],eX []),(22,[pQ []],eX []),
 (67,[vF []],vF []),(67,[vF [(1,-1),(2,1)]],vF [(1,-1),(2,1)]),
 (29,[pQ zU,.i .i64 3,.i .i64 2],aBo ([⟨1,0,[]⟩],[(1,[(1,1)]),(2,[(1,1)]),(3,[])],0)),(29,[pQ zU,.i .i64 3,.i .i64 1],aBo ([⟨2,0,[]⟩],[(1,[(2,1)]),(2,[(2,1)]),(3,[])],0)),
 (29,[pQ bQq,.i .i64 2,.i .i64 1],aBo ([],[],310)),(29,[pQ zU,.i .i64 3,.i .i64 9],aBo ([],[],250))]
theorem bPf:∀ p∈T31,Spec Tryz.prog p.1 p.2.1 p.2.2:=by
 intro p hp
 simp only [T31,List.mem_cons,List.mem_nil_iff,or_false] at hp
 rcases hp with rfl | rfl | rfl | rfl | rfl | rfl | rfl | rfl | rfl
 ·exact aNy (by decide) (by decide) (by decide) (by decide)
 ·exact aNy (by decide) (by decide) (by decide) (by decide)
 ·exact aNy (by decide) (by decide) (by decide) (by decide)
 ·have:=bJt; rwa [qV (by decide)] at this
 ·have:=bJs (l:=[(1,-1),(2,1)]) (by simp) (by simp); rwa [qV (by decide)] at this
 ·exact aRt (by decide) (by decide) (by decide) (by unfold Inc zU; decide) (by decide) (by decide) (by decide)
 ·exact aRt (by decide) (by decide) (by decide) (by unfold Inc zU; decide) (by decide) (by decide) (by decide)
 ·exact aRt (by decide) (by decide) (by decide) (by unfold Inc bQq; decide) (by decide) (by decide) (by decide)
 ·exact aRt (by decide) (by decide) (by decide) (by unfold Inc zU; decide) (by decide) (by decide) (by decide)
theorem S31:lO Tryz.prog 68 (.own 0 0 5 3) (.cells 47 ((flt wT bMq).map .d)) [.lit (.func (.func 69) #[] #[])] (.cells 47 ((flt wT bFz).map .d)) (.tp []):=by
 have:=Tryz.sortO (L:=bMq) (L':=bFz) (by decide) (by unfold Inc bFz; decide) (by decide)
 rwa [aRm (by decide),aRm (by decide)] at this
def K31:Kn:=E31 T31 5 (.cells 47 ((flt wT bMq).map .d)) (.cells 47 ((flt wT bFz).map .d))
theorem bPh:aDc Tryz.prog K31:=bPi bPf S31
end Go.Am
end

section
set_option linter.unusedVariables false
set_option linter.unusedSimpArgs false
open Go Go.Am Go.Proofs
namespace Go.Am
theorem aXn:Spec Tryz.prog 8 [] (.b true) :=
 (yK (fuel:=100) aF bPh 20).call 8 [] (.b true) (by kernel_rfl)
end Go.Am
end
